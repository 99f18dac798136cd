/-
  Part 4 of the texts that the claim leans on.
-/
import Derived.Shelf.Strings.Search1
import Derived.Shelf.Strings.Search2
import Derived.Shelf.Strings.Search3
import Derived.Shelf.LaysM
import Derived.Test.YtgplfmccdkfddaaGreatProg
import Derived.Laws.StructEq
import Derived.Test.YtgplfmccdkfddaaGreatMgTwPurges2
set_option maxRecDepth 100000
namespace Lf
open Go Go.Proofs Tryz
theorem cV {P:Program} {g:FuncId} {first captured:Array Value} {args:List Value} {sh:Shape} {K:sh.T->Hp->Prop} {h:Hp} (b:tb.call g=true) (a:aa P g (first.toList++args++captured.toList) sh K h):dM P tb (.func (.func g) first captured) args sh K h:=
 ⟨g,first,captured,rfl,b,a⟩
def mu (p:Int) (a:List ly):Int:=iw (λw=>decide (w.proc=p)) a
def nS (v:Int) (xs:List Int):Int:=iw (λz=>decide (z=v)) xs
theorem Tt {k:Hp} {s:Sl} {b:List ly} {a:Addr} {p:Int} {Q:Int->Hp->Prop} (r:Rw k 2 eW s b) (u:b.length<=1000000) (o:bp k a [.int .i64 p]) (m:Q (mu p b) k):
  N9 prog s ⟨LS, #[], #[.pointer (some a)]⟩ Q k:=by
 unfold N9;have v:=r.1;have r:Rs k aC 2 s (b.map nt):=r.map (enc:=λx=>be (aC.enc x));refine aA.intro (λi t=>t=k/\0<=i/\i<=(b.length:Int)/\∀(j:Nat) y,j<i.toNat->b[j]? =some y->decide (y.proc=p)=false) (λi _=>(b.length-i).toNat) ⟨rfl,by omega,by omega,λj y c=>by simp at c⟩ ?_;rintro i _ ⟨rfl,q,z,l⟩;by_cases n:i<(b.length:Int)
 ·rw [if_pos (decide_eq_true (by omega))];refine r.get (λ_=>rfl) (by omega) q (by grind) λ(x:bf) h=> ?_;rw [List.getElem?_map] at h;cases d:b[i.toNat]? with
  | none=>grind
  | some w=>
   rw [d] at h;have h:x=nt w:=by grind
   subst h;refine cV (g:=LS) rfl (zzi ?_);unfold zry;refine oX (sh:=ab .i64) p o ?_;dsimp only;by_cases e:w.proc=p
   ·rw [if_pos (show ((nt w).da==p)=true by unfold nt;simp [e])];have:mu p b=i:=by have:=IM (f:=λw=>decide (w.proc=p)) d (by simp [e]) l;unfold mu;rw [this];omega
    grind
   ·rw [if_neg (show ¬((nt w).da==p)=true by unfold nt;simp [e]),wrap64 (by omega) (by omega)];grind
 ·rw [if_neg (λe=>n (by have:=of_decide_eq_true e;omega))];have:mu p b= -1:=xD λw d=>by obtain ⟨j,c⟩:=List.getElem?_of_mem d;have:=(List.getElem?_eq_some_iff.1 c).1;exact l j w (by omega) c
  rw [this] at m;exact m
theorem KX {k:Hp} {s:Sl} {a:List Int} {v:Int} {Q:Int->Hp->Prop} (r:Rw k 1 fw s a) (p:a.length<=1000000) (g:Q (nS v a) k):Ra prog s v Q k:=by
 unfold Ra;have q:=r.1;have r:Rs k (ab .i64) 1 s a:=r;refine aA.intro (λi o=>o=k/\0<=i/\i<=(a.length:Int)/\∀(j:Nat) y,j<i.toNat->a[j]? =some y->decide (y=v)=false) (λi _=>(a.length-i).toNat) ⟨rfl,by omega,by omega,λj y b=>by simp at b⟩ ?_;rintro i _ ⟨rfl,n,t,d⟩;by_cases c:i<(a.length:Int)
 ·rw [if_pos (decide_eq_true (by omega))];refine r.get (λ_=>rfl) (by omega) n c λ(x:Int) m=> ?_;by_cases e:x=v
  ·rw [if_pos (show (v==x)=true by simp [e])];have:nS v a=i:=by have:=IM (f:=λz=>decide (z=v)) m (by simp [e]) d;unfold nS;rw [this];omega
   grind
  ·rw [if_neg (show ¬(v==x)=true by simp;exact λh=>e h.symm),wrap64 (by omega) (by omega)];grind
 ·rw [if_neg (λe=>c (by have:=of_decide_eq_true e;omega))];have:nS v a= -1:=xD λw l=>by obtain ⟨j,b⟩:=List.getElem?_of_mem l;have:=(List.getElem?_eq_some_iff.1 b).1;exact d j w (by omega) b
  rw [this] at g;exact g
theorem VB {a:Type} {f:a->Bool} {xs:List a}:0<=iw f xs↔∃x∈xs,f x=true:=by
 constructor
 ·intro h;refine Classical.byContradiction λd=> ?_;rw [xD λx b=>by
   grind] at h
  omega
 ·rintro ⟨x,b,c⟩;unfold iw;grind
theorem IB {k:Hp} {s:Sl} {a:List Int} {v:Int} {Q:Bool->Hp->Prop} (r:Rw k 1 fw s a) (b:a.length<=1000000) (d:Q (decide (v∈a)) k):Pu prog s v Q k:=by
 unfold Pu;refine zko (KX r b ?_);have:decide (nS v a>=0)=decide (v∈a):=by have:(nS v a>=0)↔v∈a:=(VB (f:=λz=>decide (z=v))).trans ⟨λ⟨x,c,e⟩=>(of_decide_eq_true e)▸c,λh=>⟨v,h,(by simp)⟩⟩;simp only [this]
 grind
section
variable {h0 k:Hp} {q:Addr} {room:Int} {l:bq}
theorem Ho {p:Int} {Q:Int->Hp->Prop} (o:Has h0 (du q room l) k) (d:l.waiters.length<=1000000) (i:∀b,Has h0 (du q room l) b->Q (mu p l.waiters) b):Vg prog (some q) p Q k:=by
 unfold Vg;refine gI (xs:=[p]) (sz:=1) (enc:=fw) rfl (λ_=>rfl) λa j g n=> ?_;have o:=o.grow g;obtain ⟨x,_,_,_,c⟩:=o.bz;refine aP (c.left.ld (shf:=ak) x.waiters rfl ?_);refine zhe (f:=⟨LS, #[], #[.pointer (some a)]⟩) (Tt (p:=p) (c.right.right.iq (λ_=>rfl)) d ?_ (i j o));obtain ⟨_,h⟩:=n.iq (λ_=>rfl);rcases h.2 with e | ⟨m,r,s⟩
 ·simp at e
 grind
theorem VD {p v:Int} {Q:Int->Hp->Prop} (o:Has h0 (du q room l) k) (z:l.waiters.length<=100) (g:room<=(l.values.length:Int)) (h:∀w∈l.waiters,w.proc≠p) (i:∀a,Has h0 (du q room (gM p v l)) a->Q 0 a):Ww prog (some q) p v Q k:=by
 unfold Ww;refine zsf (IN o ?_);rw [if_neg (by simp;exact g)];refine zqc (Ho o (by omega) λA o=> ?_);have:mu p l.waiters= -1:=xD λw j=>by simp [h w j]
 rw [this,if_neg (by decide)];obtain ⟨x,c,d,f,o⟩:=o.bz;refine aP (o.left.ld (shf:=ak) x.waiters rfl ?_);obtain ⟨u,_,n,put⟩:=o.f3;refine n.push (e:=⟨p,v⟩) rfl (λ_=>rfl) (λ_=>rfl) rfl ⟨by omega,by omega⟩ λb B r=> ?_;have o:=put _ _ r;obtain ⟨y,_,s,put⟩:=o.f1;refine aP (s.st {x with waiters:=b} (show (3:Nat)<=5 by decide) rfl λm t=> ?_);exact i m (Has.jx (x:={x with waiters:=b}) (put _ _ t) c d f)
def qV (p:Int) (l:bq):bq:={l with waiters:=gX (λw=>decide (w.proc=p)) l.waiters}
theorem Tv {p:Int} {Q:Bool->Hp->Prop} (o:Has h0 (du q room l) k) (K:l.waiters.length<=100) (g:∀b a,Has h0 (du q room (qV p l)) a->Q b a):Va prog (some q) p Q k:=by
 unfold Va;refine zqc (Ho o (by omega) λi o=> ?_);have A:=zzp (λw:ly=>decide (w.proc=p)) l.waiters;by_cases hp:mu p l.waiters<0
 ·rw [if_pos (decide_eq_true hp)];refine g false i ?_;have:qV p l=l:=by unfold qV;rw [A,if_neg (show ¬0<=iw (λw:ly=>decide (w.proc=p)) l.waiters by unfold mu at hp;omega)]
  rw [this];exact o
 ·rw [if_neg (λh=>hp (of_decide_eq_true h))];have t:0<=mu p l.waiters:=by omega
  have L:mu p l.waiters<l.waiters.length:=IL t;obtain ⟨x,j,r,s,o⟩:=o.bz;refine aP (o.left.ld (shf:=ak) x.waiters rfl ?_);obtain ⟨u,_,F,put⟩:=o.f3;have C:prog.underlying 185=some (.slice 191):=ah.aH 185 pf rfl;obtain ⟨n,f⟩:∃n:Nat,mu p l.waiters=n:=⟨(mu p l.waiters).toNat,by omega⟩;have B:∀(d:Sl->Hp->Prop),(∀c a,Has u (dD 2 eW c (l.waiters.take n++l.waiters.drop (n+1))) a->d c a)->Oh prog x.waiters (n:Int) ((n+1:Nat):Int) d i:=λd y=>by
   unfold Oh;exact Has.FI (bytes:=16) (z:=.agg #[.int .i64 0,.int .i64 0]) C (λv=>DD ah (e:=sC) rfl v) (λ_=>rfl) (λ_=>rfl) rfl (λm=>by induction m with
    | zero=>rfl
    | succ m D=>exact D) F (by omega) (by omega) ⟨by omega,by omega⟩ y
  rw [f,wrap64 (by omega) (by omega)];refine zim (B _ λc N G=> ?_);have o:=put _ _ G;obtain ⟨J,_,H,put⟩:=o.f1;refine aP (H.st {x with waiters:=c} (show (3:Nat)<=5 by decide) rfl λE I=> ?_);refine g true E (Has.jx (x:={x with waiters:=c}) ?_ j r s);have:(qV p l).waiters=l.waiters.take n++l.waiters.drop (n+1):=by show gX (λw=>decide (w.proc=p)) l.waiters=_;have M:iw (λw:ly=>decide (w.proc=p)) l.waiters=n:=f;grind
  rw [this];exact put _ _ I
def s9 (l:bq):bq:={l with waiters:=[]}
theorem XW {Q:Sl->Hp->Prop} (o:Has h0 (du q room l) k) (i:∀s b,Has h0 ((du q room (s9 l)).star (dD 2 eW s l.waiters)) b->Q s b):XT prog (some q) Q k:=by unfold XT;obtain ⟨x,e,f,g,o⟩:=o.bz;refine aP (o.left.ld (shf:=ak) x.waiters rfl ?_);refine aP (o.left.ld (shf:=ak) x.waiters rfl ?_);refine aP (o.left.ld (shf:=ak) x.waiters rfl ?_);have z:=o.right.right.gr;have h:=o.right.right.tj;refine ⟨by omega,aK ?_⟩;rw [Int.toNat_natCast];obtain ⟨v,_,j,put⟩:=o.f3;have d:=j.wy (λ_=>rfl) (n:=x.waiters.len) (c:=x.waiters.len) (by omega) (Nat.le_refl _) h;rw [List.take_of_length_le (by omega)] at d;have o:=put _ _ d;obtain ⟨w,_,m,put⟩:=o.f1;refine aP (m.st {x with waiters:=⟨none,0,0⟩} (show (3:Nat)<=5 by decide) rfl λa p=> ?_);have o:=put _ _ p;refine i _ a ?_;have u:=o.A5;obtain ⟨y,_,r,_,put⟩:=u.fst;have nil:Has a (dD 2 eW (⟨none,0,0⟩:Sl) ([]:List ly)) a:=Has.jW (Hp.le_refl _);have t:=(r.beside nil).assoc;exact put _ _ (Has.jx (l:=s9 l) (x:={x with waiters:=⟨none,0,0⟩}) t e f g)
end
end Lf
namespace Go.Proofs
open Go.Shelf
def Tryz.qp :Go.Shelf.Ren:=⟨λ| 144=>216 | 143=>234 | 219=>243 | 217=>244 | 225=>245 | 224=>246 | 267=>247 | 266=>248 | 314=>249 | n=>n,λ| 9=>9 | 4=>4 | 3=>3 | 5=>5 | 46=>239 | 146=>284 | 51=>283 | n=>n,λ| 1=>1 | n=>n⟩
theorem Tryz.wE :Go.Proofs.Lays.n144 Tryz.prog Tryz.qp:={
 mixed:=by kernel_rfl
 f143:=Tryz.func234.trans (congrArg some (by kernel_rfl))
 f144:=Tryz.func216.trans (congrArg some (by kernel_rfl))
 f217:=Tryz.func244.trans (congrArg some (by kernel_rfl))
 f219:=Tryz.func243.trans (congrArg some (by kernel_rfl))
 f224:=Tryz.func246.trans (congrArg some (by kernel_rfl))
 f225:=Tryz.func245.trans (congrArg some (by kernel_rfl))
 f266:=Tryz.func248.trans (congrArg some (by kernel_rfl))
 f267:=Tryz.func247.trans (congrArg some (by kernel_rfl))
 f314:=Tryz.func249.trans (congrArg some (by kernel_rfl))
 t3:=Tryz.underlying3
 a3:=Tryz.isAgg3
 z3:=Tryz.sizeOf3
 v3:=Tryz.zeroValue3
 t4:=Tryz.underlying4
 a4:=Tryz.isAgg4
 z4:=Tryz.sizeOf4
 v4:=Tryz.zeroValue4
 t5:=Tryz.underlying5
 a5:=Tryz.isAgg5
 z5:=Tryz.sizeOf5
 v5:=Tryz.zeroValue5
 t9:=Tryz.underlying9
 a9:=Tryz.isAgg9
 z9:=Tryz.sizeOf9
 v9:=Tryz.zeroValue9
 t46:=Tryz.underlying239
 a46:=Tryz.isAgg239
 z46:=Tryz.sizeOf239
 v46:=Tryz.zeroValue239
 t51:=Tryz.underlying283
 a51:=Tryz.isAgg283
 z51:=Tryz.sizeOf283
 v51:=Tryz.zeroValue283
 t146:=Tryz.underlying284
 a146:=Tryz.isAgg284
 z146:=Tryz.sizeOf284
 v146:=Tryz.zeroValue284
 g1:=by kernel_rfl}
open Go.RowKit Go.Lib in
theorem Tryz.strings_Contains_one (s:ByteArray) (c:UInt8) (w:World):
  Calls Tryz.prog 216 #[.string s,.string ⟨#[c]⟩] w λe a=>e=.returned (.bool (decide (0<=Lib.indexByte s.data.toList c)))/\a=w:=Any.strings_Contains_one Tryz.wE s c w
end Go.Proofs
namespace Lf
open Go
def A7 (k:Hp) (R:List Nat):Hp:=λb=>if b∈R then none else k b
theorem Y5 {k:Hp} {R:List Nat} {b:Nat} (h:b∉R):A7 k R b=k b:=by unfold A7;rw [if_neg h]
theorem QX {h b:Hp} {a:Addr} (e:b a.block=h a.block):cW b a=cW h a:=by unfold cW;rw [e]
theorem Kb (a:Addr) (n:Nat):(a.add n).block=a.block:=by unfold Addr.add;split<;>rfl
theorem Tx {h b:Hp} {a:Addr} {c:List Value} (l:bp h a c) (e:b a.block=h a.block):bp b a c:=λi v hv=>by have:cW b (a.add i)=cW h (a.add i):=QX (a:=a.add i) (by rw [Kb];exact e);rw [this];exact l i v hv
section
variable {α:Type} {h c:Hp} {sz:Nat} {enc:α->List Value} {l:Sl} {xs:List α} {F:List Nat}
theorem Rw.same (r:Rw h sz enc l xs) (e:∀a,l.base=some a->c a.block=h a.block):Rw c sz enc l xs:=by obtain ⟨d,f,g⟩:=r;refine ⟨d,f,g.imp id ?_⟩;rintro ⟨a,b,i⟩;exact ⟨a,b,Tx i (e a b)⟩
theorem Rw.nil {l:Sl} (a:l.len=0):Rw h sz enc l ([]:List α):=⟨a,(by simp),.inl (by simp)⟩
theorem df.grow (o:df h sz enc l xs F) (j:h<=c):df c sz enc l xs F:=by obtain ⟨h1,g,i⟩:=o;refine ⟨h1,g,i.imp id ?_⟩;rintro ⟨b,a,d,rfl,e,f⟩;exact ⟨b,a,d,rfl,e.le j,f⟩
theorem df.cut {R:List Nat} (o:df h sz enc l xs F) (a:∀b∈F,b∉R):df (A7 h R) sz enc l xs F:=o.same λb hb=>Y5 (a b hb)
theorem df.base (o:df h sz enc l xs F) {a:Addr} (d:l.base=some a):F=[a.block]:=by obtain ⟨_,_,b⟩:=o;grind
end
theorem N5 {h:Hp} {a:Addr} {v:Value} (e:cW h a=some v):∃o,h a.block=some o:=by unfold cW at e;grind
section
variable {α:Type} {h c:Hp} {sz:Nat} {enc:α->List Value} {l:Sl} {xs:List α} {F b:List Nat}
theorem Rw.known (r:Rw h sz enc l xs) {a:Addr} (j:l.base=some a) (d:xs.length*sz≠0):h a.block≠none:=by
 obtain ⟨n,g,i⟩:=r;obtain ⟨m,e,k⟩:=i.resolve_left d;rw [j] at e;cases e;have p:(xs.flatMap enc).length≠0:=by rw [g];exact d
 obtain ⟨v,hv⟩:∃v,(xs.flatMap enc)[0]? =some v:=⟨(xs.flatMap enc)[0]'(by omega),List.getElem?_eq_getElem (by omega)⟩;obtain ⟨o,f⟩:=N5 (k 0 v hv);rw [Kb] at f;rw [f];simp
end
end Lf
namespace Lf
abbrev D (α:Type):Type:=List UInt8->Nat->Except (Int×Nat) (α×Nat)
namespace D
variable {α β:Type}
def ret (x:α):D α:=λ_ at_=>.ok (x,at_)
def bind (d:D α) (f:α->D β):D β:=λb at_=>match d b at_ with
 | .ok (x,a)=>f x b a
 | .error e=>.error e
def num (k:Nat):D Nat:=λb at_=>if b.length<at_+k then .error (5,b.length) else .ok (Gq ((b.drop at_).take k),at_+k)
def acN (d:D α) (a:α->Int):D α:=λb at_=>match d b at_ with
 | .ok (x,c)=>if a x=0 then .ok (x,c) else .error (a x,at_)
 | .error e=>.error e
def many (d:List α->D α):Nat->List α->D (List α)
 | 0,a=>ret a
 | n+1,a=>bind (d a) λx=>many d n (a++ [x])
def map (f:α->β) (d:D α):D β:=bind d λx=>ret (f x)
end D
end Lf
namespace Lf
namespace D
variable {α γ:Type}
end D
open D
def i64 (n:Nat):Int:=if n<9223372036854775808 then n else (n:Int)-18446744073709551616
def qY (x:Int):Prop:= -9223372036854775808<=x/\x<9223372036854775808
def nn (a b:Int) (n:Int):Int:=if kN n a b then 0 else 2
def kV (nN:Int) (n:Int):Int:=if n=0 then 1 else if nN<n then 3 else 0
end Lf
namespace Lf
abbrev By (k:Nat) (x:Int):Prop:=0<=x/\x<((256^k:Nat):Int)
def less (n:Int):Int:=n-1
theorem dx {a b n:Int}:kN n a b=true↔a<=n/\n<=b:=by unfold kN;simp
theorem fQ {a b n:Int}:kN n a b=false↔¬(a<=n/\n<=b):=by rw [<-Bool.not_eq_true,dx]
theorem Kc {n an:Int}:∀ {l:List dP} {i:Int},(lV n an l i).1=0↔∀x∈l,(nC x n an).1=0
 | [],i=>by simp [lV]
 | x::r,i=>by
  simp only [lV];by_cases h:(nC x n an).1=0
  ·rw [if_neg (λa=>a h),Kc];simp [h]
  grind
theorem QZ {l:List dP} {an:Int} (a:0<=an/\an<=8):(jT l an).1=0↔l.length<=256/\∀x∈l,(nC x l.length an).1=0:=by
 unfold jT;rw [if_neg (by omega)];by_cases h:256<l.length
 ·grind
 ·rw [if_neg h,Kc];grind
theorem Jm {parts an:Int}:∀ {l:List iX} {i:Int},(nY parts an l i).1=0↔∀p∈l,(0<=p.part/\p.part<=parts-1)/\(jT p.code an).1=0
 | [],i=>by simp [nY]
 | p::r,i=>by
  simp only [nY];by_cases a:kN p.part 0 (parts-1)=false
  ·rw [if_pos a];have:=fQ.1 a;grind
  ·rw [if_neg a];have c:=dx.1 (Bool.not_eq_false _▸a:kN p.part 0 (parts-1)=true);by_cases b:(jT p.code an).1=0
   ·rw [if_neg (λd=>d b),Jm];simp [b,c]
   grind
def Typed (c:aV):Prop:=(∀a∈c.labels,By 8 a)/\∀p∈c.procs,∀x∈p.code,qY x.lL
theorem oy {m:Int} {c:aV}:(um m c).1=0↔m=0/\c.table≠ []/\c.table.length<=64/\(∀x∈c.table,0<=x/\x<=c.labels.length-1)/\(1<=c.fuel/\c.fuel<=256)/\(1<=c.lane/\c.lane<=64)/\(0<=c.an/\c.an<=8)/\
  (0<=c.log/\c.log<=4096)/\c.procs≠ []/\c.procs.length<=32/\∀p∈c.procs,(0<=p.part/\p.part<=c.labels.length-1)/\(jT p.code c.an).1=0:=by
 unfold um;by_cases b:m=0
 case neg=>rw [if_pos b];exact ⟨λe=>absurd e b,λe=>absurd e.1 b⟩
 rw [if_neg (λo=>o b)];by_cases i:c.table=[]
 ·rw [if_pos i];exact ⟨λe=>(by cases e),λe=>absurd i e.2.1⟩
 rw [if_neg i];by_cases l:64<c.table.length
 ·rw [if_pos l];exact ⟨λe=>(by cases e),λe=>(by have:=e.2.2.1;omega)⟩
 rw [if_neg l];by_cases a:c.table.all (λp=>kN p 0 (c.labels.length-1))=false
 ·rw [if_pos a];refine ⟨λe=>(by cases e),λe=> ?_⟩;have:c.table.all (λp=>kN p 0 (c.labels.length-1))=true:=List.all_eq_true.2 λx k=>dx.2 (e.2.2.2.1 x k);rw [this] at a;cases a
 rw [if_neg a];have q:∀x∈c.table,0<=x/\x<=c.labels.length-1:=λx k=>dx.1 (List.all_eq_true.1 (Bool.not_eq_false _▸a:c.table.all (λp=>kN p 0 (c.labels.length-1))=true) x k);by_cases d:kN c.fuel 1 256=false
 ·rw [if_pos d];exact ⟨λe=>(by cases e),λe=>absurd e.2.2.2.2.1 (fQ.1 d)⟩
 rw [if_neg d];have r:=dx.1 (Bool.not_eq_false _▸d:kN c.fuel 1 256=true);by_cases f:kN c.lane 1 64=false
 ·rw [if_pos f];exact ⟨λe=>(by cases e),λe=>absurd e.2.2.2.2.2.1 (fQ.1 f)⟩
 rw [if_neg f];have s:=dx.1 (Bool.not_eq_false _▸f:kN c.lane 1 64=true);by_cases g:kN c.an 0 8=false
 ·rw [if_pos g];exact ⟨λe=>(by cases e),λe=>absurd e.2.2.2.2.2.2.1 (fQ.1 g)⟩
 rw [if_neg g];have t:=dx.1 (Bool.not_eq_false _▸g:kN c.an 0 8=true);by_cases h:kN c.log 0 4096=false
 ·rw [if_pos h];exact ⟨λe=>(by cases e),λe=>absurd e.2.2.2.2.2.2.2.1 (fQ.1 h)⟩
 rw [if_neg h];have u:=dx.1 (Bool.not_eq_false _▸h:kN c.log 0 4096=true);by_cases j:c.procs=[]
 ·rw [if_pos j];exact ⟨λe=>(by cases e),λe=>absurd j e.2.2.2.2.2.2.2.2.1⟩
 rw [if_neg j];by_cases n:32<c.procs.length
 ·rw [if_pos n];exact ⟨λe=>(by cases e),λe=>(by have:=e.2.2.2.2.2.2.2.2.2.1;omega)⟩
 rw [if_neg n,Jm];grind
theorem vr :∀(n:Nat) (l:List Int),l.Nodup->(∀x∈l,0<=x/\x<n)->l.length<=n
 | 0,l,_,h=>by
  cases l with
  | nil=>simp
  | cons x r=>have:=h x (List.mem_cons_self ..);omega
 | n+1,l,b,h=>by
  by_cases f:(n:Int)∈l
  ·have:=vr n (l.erase (n:Int)) (b.erase _) λx a=>by
    have c:=h x (List.mem_of_mem_erase a);have d:x≠(n:Int):=λe=>by rw [e] at a;exact (b.not_mem_erase) a
    omega
   grind
  ·have:=vr n l b λx a=>by grind
   omega
section
variable {c:aV} {s:fz} {fl:Nat->Int->Prop}
end
end Lf
namespace Lf
open Go Go.Proofs Go.RowKit
theorem Q1 {P:Program} {g:FuncId} {args:List Value} {sh:Shape} {K:sh.T->Hp->Prop} {h:Hp} {x:sh.T} (c:∀w,Sub h w->Calls P g args.toArray w λe b=>e=.returned (sh.enc x)/\b=w) (d:K x h):aa P g args sh K h:=by intro w a;refine (c w a).mono ?_;rintro e b ⟨rfl,rfl⟩;exact ⟨_,h,rfl,⟨x,rfl,d⟩,⟨a,Nat.le_refl _,λi j f=>⟨rfl,f⟩,rfl,rfl,rfl⟩⟩
def qg (s:ByteArray) (c:UInt8):Bool:=decide (0<=Lib.indexByte s.data.toList c)
theorem N6 {s:ByteArray} {c:UInt8} {K:Bool->Hp->Prop} {h:Hp} (a:K (qg s c) h):aa Tryz.prog ztc [.string s,.string ⟨#[c]⟩] aQ K h:=by refine Q1 (x:=qg s c) (λw _=> ?_) a;exact Tryz.strings_Contains_one s c w
def bL (x:bu):dP:=⟨x.Op,x.A,x.B,x.C,x.iW⟩
def fB :List (List UInt8):=[[],[97,105],[97,98],[97,98,99],[97,98,99],[97,98,99],[97,98,99],[97,98,99],[97,98,99],[97,98,99],[97,98,99],[97,98,99],[97,98,99],[97,98,99],[97,98,99],[97,98,99],[97,98,99],[97,98,99],[97,98,99],[97,98,99],[97,98],[97,98],[105],[97,105],[97,98,99],[97,98],[97,98],[97],[97],[105],[105],[97],[97],[97]]
def tB (op:Int):ByteArray:=if 0<=op/\op<34 then ⟨(fB.getD op.toNat []).toArray⟩ else ⟨#[]⟩
theorem N7 :∀n,n<34->(decide (0<=Lib.indexByte (fB.getD n []) 97),decide (0<=Lib.indexByte (fB.getD n []) 98),decide (0<=Lib.indexByte (fB.getD n []) 99),decide (0<=Lib.indexByte (fB.getD n []) 105))=lx (n:Int):=by decide
theorem Q3 (op:Int):(qg (tB op) 97,qg (tB op) 98,qg (tB op) 99,qg (tB op) 105)=lx op:=by
 by_cases h:0<=op/\op<34
 ·have e:=N7 op.toNat (by omega);rw [Int.toNat_of_nonneg h.1] at e;rw [<-e];simp [qg,tB,h]
 ·have a:tB op=⟨#[]⟩:=if_neg h;rw [a];have b:lx op=(false,false,false,false):=by unfold lx;grind
  rw [b];decide
theorem XY :∀n,n<34->fB[n]? =some (fB.getD n []):=by decide
theorem aao {a:Type} (l:List a) (i:Nat):List.get?Internal l i=l[i]?:=by simp
theorem ZL {op:Int} {Q:ByteArray->Hp->Prop} {h:Hp} (c:Q (tB op) h):Z4 Tryz.prog op Q h:=by
 unfold Z4;refine aK ?_;by_cases a:0<=op/\op<34
 ·rw [if_neg (by simp;omega)];refine ⟨a,tB op,?_,c⟩;have e:tB op=⟨(fB.getD op.toNat []).toArray⟩:=if_pos a;rw [aao,e];have d:=XY op.toNat (by omega);rw [Nat.mul_one];have b:(fB.map λl=>Value.string ⟨l.toArray⟩)[op.toNat]? =some (Value.string ⟨(fB.getD op.toNat []).toArray⟩):=by grind
  exact b
 ·rw [if_pos (by simp;omega)];have e:tB op=⟨#[]⟩:=if_neg a;grind
theorem tP {P:Program} {g:FuncId} {first captured:Array Value} {args:List Value} {sh:Shape} {K:sh.T->Hp->Prop} {h:Hp} (b:tb.call g=true) (a:aa P g (first.toList++args++captured.toList) sh K h):dM P tb (.func (.func g) first captured) args sh K h:=
 ⟨g,first,captured,rfl,b,a⟩
theorem ZM {op:Int} {Q:Bool->Bool->Bool->Bool->Hp->Prop} {h:Hp} (l:∀d,h<=d->Q (lx op).1 (lx op).2.1 (lx op).2.2.1 (lx op).2.2.2 d):Z2 Tryz.prog op Q h:=by
 unfold Z2;refine TL (ZL ?_);intro b t j;refine AV (b:=b) (off:=0) (cs:=[.string ⟨#[]⟩]) ⟨t,mI⟩ (by simp) λa i hb=> ?_;have k:h<=a:=(((Mv.new j).trans i).le (Hp.le_refl h) (by simp)).1;have g:bp a ⟨b,0,none⟩ [.string (tB op)]:=hb.na (n:=1) (by rfl);have one:∀(c:UInt8) (K:Bool->Hp->Prop),K (qg (tB op) c) a->dM Tryz.prog tb (.func (.func zzz) #[] #[.pointer (some ⟨b,0,none⟩)]) [.string ⟨#[c]⟩] aQ K a:=λc K f=>by refine tP rfl (Qq ?_);unfold Gt;refine oX (sh:=pd) (tB op) g ?_;exact N6 f
 have e:=Q3 op;grind
theorem Cy {P:Program} {has:Bool} {n:Int} {Q:Int->Hp->Prop} {h:Hp} (b:Q (gl has n) h):XV P has n Q h:=by
 unfold XV;refine aK ?_;unfold gl at b;by_cases a:has=false/\n≠0
 ·grind
 ·rw [if_neg a] at b;rw [if_neg (by cases has<;>simp at a ⊢;exact a)];refine aK ?_;grind
theorem TA {P:Program} {x:bu} {has:Bool} {n an:Int} {Q:Int->Hp->Prop} {h:Hp}
  (c:Q (if has=false/\x.iW≠0 then 11 else if (x.Op=22\/x.Op=23)/\(x.iW<0\/n<x.iW) then 12 else if (x.Op=29\/x.Op=30)/\(x.iW<0\/an<=x.iW) then 13 else 0) h):Z3 P x has n an Q h:=by
 unfold Z3;refine aK ?_;by_cases a:has=false/\x.iW≠0
 ·grind
 ·rw [if_neg a] at c;rw [if_neg (by cases has<;>simp at a ⊢;exact a)];refine aK ?_;by_cases b:x.Op=22\/x.Op=23
  ·rw [if_pos (by simp;exact b)];refine aK ?_;grind
  ·rw [if_neg (λe=>b e.1)] at c;rw [if_neg (by simp;omega)];refine aK ?_;by_cases d:x.Op=29\/x.Op=30
   ·rw [if_pos (by simp;exact d)];refine aK ?_;grind
   grind
theorem VF {x:bu} {n an:Int} {Q:Int->Int->Hp->Prop} {h:Hp} (a:∀b at_,h<=b->((nC (bL x) n an).1≠0->at_=(nC (bL x) n an).2)->Q (nC (bL x) n an).1 at_ b):BO Tryz.prog x n an Q h:=by
 unfold BO;refine aK ?_;have le:=Hp.le_refl h;rw [show nC (bL x) n an=(if x.Op<0\/34<=x.Op then (9,0)
  else if gl (lx x.Op).1 x.A≠0 then (gl (lx x.Op).1 x.A,1)
  else if gl (lx x.Op).2.1 x.B≠0 then (gl (lx x.Op).2.1 x.B,2)
  else if gl (lx x.Op).2.2.1 x.C≠0 then (gl (lx x.Op).2.2.1 x.C,3)
  else if (lx x.Op).2.2.2=false/\x.iW≠0 then (11,4)
  else if (x.Op=22\/x.Op=23)/\(x.iW<0\/n<x.iW) then (12,4)
  else if (x.Op=29\/x.Op=30)/\(x.iW<0\/an<=x.iW) then (13,4)
  else (0,0)) from rfl] at a
 by_cases c:x.Op<0\/34<=x.Op
 ·grind
 ·rw [if_neg c] at a;rw [if_neg (by simp;omega)];refine TH (ZM λc g=> ?_);dsimp only;refine Ua (Cy ?_);by_cases d:gl (lx x.Op).1 x.A≠0
  ·grind
  ·rw [if_neg d] at a;rw [if_neg (by simpa using d)];refine Ua (Cy ?_);by_cases e:gl (lx x.Op).2.1 x.B≠0
   ·grind
   ·rw [if_neg e] at a;rw [if_neg (by simpa using e)];refine Ua (Cy ?_);by_cases f:gl (lx x.Op).2.2.1 x.C≠0
    ·grind
    ·rw [if_neg f] at a;rw [if_neg (by simpa using f)];refine TJ (TA ?_);grind
theorem Hq {x:bu} {n an:Int} {Q:Int->Hp->Prop} {h:Hp} (b:∀a,h<=a->Q (nC (bL x) n an).1 a):BN Tryz.prog x n an Q h:=by unfold BN;exact Wr (VF λa _ l _=>b a l)
abbrev mj (h:Hp) (l:Sl) (a:List bu):Prop:=Rs h bJ 5 l a
theorem Q5 {l:Sl} {a:List bu} {an:Int} {Q:Int->Int->Hp->Prop} {h:Hp} (r:mj h l a) (b:∀g,h<=g->Q (jT (a.map bL) an).1 (jT (a.map bL) an).2 g):CM Tryz.prog l an Q h:=by
 unfold CM;have q:=r.1;refine aK ?_;unfold jT at b;by_cases j:an<0\/8<an
 ·rw [if_pos j] at b;rw [if_pos (by simp;omega)];exact b h (Hp.le_refl h)
 ·rw [if_neg j,List.length_map] at b;rw [if_neg (by simp;omega)];by_cases m:256<a.length
  ·rw [if_pos m] at b;rw [if_pos (by simp;omega)];exact b h (Hp.le_refl h)
  ·rw [if_neg m] at b;rw [if_neg (by simp;omega)];refine aA.intro (λi k=>h<=k/\0<=i/\i<=(a.length:Int)/\lV a.length an ((a.drop i.toNat).map bL) i=lV a.length an (a.map bL) 0) (λi _=>(a.length-i).toNat) ⟨Hp.le_refl h,by omega,by omega,rfl⟩ ?_;rintro i k ⟨e,o,w,c⟩;by_cases p:i<(a.length:Int)
   ·rw [if_pos (decide_eq_true (by omega))];refine Rs.get (sh:=bJ) (Rw.mono e r) (λ_=>rfl) (by omega) o p λx t=> ?_;refine Gw (Hq λv n=> ?_);have f:a.drop i.toNat=x::a.drop (i.toNat+1):=by obtain ⟨y,u⟩:=List.getElem?_eq_some_iff.1 t;rw [<-u];simp
    rw [f,List.map_cons,lV] at c;rw [q];by_cases d:(nC (bL x) a.length an).1≠0
    ·rw [if_pos d] at c;rw [if_pos (by simpa using d)];rw [<-c] at b;exact b v (Hp.le_trans e n)
    ·rw [if_neg d] at c;rw [if_neg (by simpa using d)];have s:yw (i+1)=i+1:=wrap64 (by omega) (by omega);rw [s];refine ⟨⟨Hp.le_trans e n,by omega,by omega,?_⟩,by omega⟩;grind
   ·rw [if_neg (by simp;omega)];have f:a.drop i.toNat=[]:=List.drop_eq_nil_of_le (by omega);rw [f] at c;rw [<-c] at b;exact b k e
end Lf
namespace Lf
open Go
abbrev iN (x:Int):Prop:=0<=x/\x<18446744073709551616
def bit (x:Int) (n:Nat):Bool:=x.toNat.testBit n
theorem va {x:Int} (h:iN x):IntKind.wrap .u64 x=x:=by
 (try unfold yw);unfold IntKind.wrap
 simp only [IntKind.signed,IntKind.bits];have:=h.1;have:=h.2;simp;omega
theorem KY {x:Int} (h:iN x):BitVec.ofInt 64 x=BitVec.ofNat 64 x.toNat:=by obtain ⟨n,rfl⟩:=Int.eq_ofNat_of_zero_le h.1;rfl
theorem X0 {x n:Int} (h:iN x) (c:0<=n) (f:n<=63):(dZ .and .u64 (gW .u64 x n) 1==1)=bit x n.toNat:=by
 obtain ⟨X,rfl⟩:=Int.eq_ofNat_of_zero_le h.1;obtain ⟨N,rfl⟩:=Int.eq_ofNat_of_zero_le c;have d:X<18446744073709551616:=by have:=h.2;omega
 have g:N<=63:=by omega
 have a:gW .u64 (X:Int) (N:Int)=((X / 2^N:Nat):Int):=by
  unfold gW;have:min (N:Int).toNat (IntKind.bits .u64)=N:=by simp [IntKind.bits];omega
  rw [this,Int.fdiv_eq_ediv_of_nonneg _ (by exact Int.pow_nonneg (by decide))]
  norm_cast
 rw [a];have e:X / 2^N<18446744073709551616:=Nat.lt_of_le_of_lt (Nat.div_le_self _ _) d;have b:((BitVec.ofInt (IntKind.bits .u64) ((X / 2^N:Nat):Int)&&&BitVec.ofInt (IntKind.bits .u64) 1).toNat)=(X / 2^N)%2:=by show ((BitVec.ofNat 64 (X / 2^N))&&&(BitVec.ofNat 64 1)).toNat=_;rw [BitVec.toNat_and,BitVec.toNat_ofNat,BitVec.toNat_ofNat,Nat.mod_eq_of_lt e];exact Nat.and_one_is_mod _
 simp only [dZ,b];rw [va ⟨by omega,by omega⟩];simp only [bit,Int.toNat_natCast,Nat.testBit_eq_decide_div_mod_eq];by_cases hb:(X / 2^N)%2=1
 ·simp [hb]
 ·have:(X / 2^N)%2=0:=by omega
  simp [this]
theorem X1 {a b:Int} (g:iN a) (hb:iN b):(dZ .andNot .u64 a b==0)=true↔∀n,n<64->bit a n=true->bit b n=true:=by
 have e:dZ .andNot .u64 a b=(((BitVec.ofNat 64 a.toNat)&&& ~~~ (BitVec.ofNat 64 b.toNat)).toNat:Int):=by show IntKind.wrap .u64 ((BitVec.ofInt 64 a&&& ~~~ BitVec.ofInt 64 b).toNat:Int)=_;rw [KY g,KY hb,va ⟨by omega,by have:=((BitVec.ofNat 64 a.toNat)&&& ~~~ (BitVec.ofNat 64 b.toNat)).isLt;omega⟩]
 rw [e];have f:((((BitVec.ofNat 64 a.toNat)&&& ~~~ (BitVec.ofNat 64 b.toNat)).toNat:Int)==0)=true↔(BitVec.ofNat 64 a.toNat)&&& ~~~ (BitVec.ofNat 64 b.toNat)=0#64:=by rw [BitVec.toNat_eq];simp
 rw [f];have ga:∀n,n<64->(BitVec.ofNat 64 a.toNat).getLsbD n=bit a n:=λn c=>by rw [BitVec.getLsbD_ofNat];simp [bit,c]
 have gb:∀n,n<64->(BitVec.ofNat 64 b.toNat).getLsbD n=bit b n:=λn c=>by rw [BitVec.getLsbD_ofNat];simp [bit,c]
 constructor
 ·intro h n c d;have:=congrArg (λv=>v.getLsbD n) h;simp only [BitVec.getLsbD_and,BitVec.getLsbD_not,ga n c,gb n c,d,c,decide_true,Bool.true_and,BitVec.getLsbD_zero] at this;simpa using this
 ·intro h;apply BitVec.eq_of_getLsbD_eq;intro n c;simp only [BitVec.getLsbD_and,BitVec.getLsbD_not,ga n c,gb n c,c,decide_true,Bool.true_and,BitVec.getLsbD_zero];cases d:bit a n with
  | false=>rfl
  | true=>simp [h n c d]
end Lf
namespace Lf
open Go Go.Proofs Tryz
abbrev Us (h:Hp) (l:Sl) (a:List Int):Prop:=Rs h (ab .u64) 1 l a
abbrev Is (h:Hp) (l:Sl) (a:List Int):Prop:=Rs h (ab .i64) 1 l a
theorem Y6 {P:Program} {l:Sl} {a:List Int} {Q:Int->Int->Hp->Prop} {h:Hp} (r:Us h l a) (C:a.length<=8) (j:a.Pairwise (· < ·)) (n:a=[]->Q 1 0 h) (z:a≠ []->Q 0 0 h):JK P l Q h:=by
 unfold JK;have D:=r.1;split
 ·rename_i e;have e:(l.len:Int)=0:=by simpa using e
  exact n (List.length_eq_zero_iff.1 (by omega))
 ·rename_i e;have e:¬(l.len:Int)=0:=by simpa using e
  split
  ·grind
  ·refine aA.intro (λi k=>k=h/\1<=i/\i<=(a.length:Int)) (λi _=>(a.length-i).toNat) ⟨rfl,by omega,by omega⟩ ?_;rintro i k ⟨rfl,A,B⟩;split
   ·rename_i b;have b:i<(l.len:Int):=by simpa using b
    have o:yw (i-1)=i-1:=wrap64 (by omega) (by omega);rw [o];refine r.get (λ_=>rfl) (by omega) (by omega) (by omega) λ(x:Int) c=> ?_;refine r.get (λ_=>rfl) (by omega) (by omega) (by omega) λ(y:Int) f=> ?_;have E:y<x:=by
     have m:(i-1).toNat<i.toNat:=by omega
     have t:=(List.getElem?_eq_some_iff.1 c);have w:=(List.getElem?_eq_some_iff.1 f);obtain ⟨q,s⟩:=t;obtain ⟨u,v⟩:=w;rw [<-s,<-v];exact List.pairwise_iff_getElem.1 j _ _ u q m
    rw [if_neg (show ¬((x==y)=true) by simp;omega)];refine r.get (λ_=>rfl) (by omega) (by omega) (by omega) λ(F:Int) d=> ?_;rw [c] at d;cases d;refine r.get (λ_=>rfl) (by omega) (by omega) (by omega) λ(G:Int) g=> ?_;rw [f] at g;cases g;rw [if_neg (show ¬(decide (x<y)=true) by simp;omega)];have p:yw (i+1)=i+1:=wrap64 (by omega) (by omega);rw [p];exact ⟨⟨rfl,by omega,by omega⟩,by omega⟩
   grind
abbrev MI (a h:Hp) (l:Sl) (b:List Int):Prop:=Own a h 1 (λx=>be ((ab .u64).enc x)) l b
abbrev MH (a h:Hp) (l:Sl) (b:List Int):Prop:=Own a h 1 (λx=>be ((ab .i64).enc x)) l b
def iE (a b:Int):Bool:=(List.range 64).all λn=> !bit a n || bit b n
theorem gZ {a b:Int}:iE a b=true↔∀n,n<64->bit a n=true->bit b n=true:=by unfold iE;grind
theorem H7 {a b:Int} {Q:Bool->Hp->Prop} {h:Hp} (c:iN a) (hb:iN b) (d:Q (iE a b) h):ZW prog a b Q h:=by
 unfold ZW;have:(dZ .andNot .u64 a b==0)=iE a b:=by rw [Bool.eq_iff_iff,X1 c hb,gZ]
 grind
def fl (a:List Int) (i j:Int):Bool:=if 0<=i/\i<(a.length:Int)/\0<=j/\j<(a.length:Int) then iE (a.getD i.toNat 0) (a.getD j.toNat 0) else false
theorem Fk {xs:List Int} {i j:Int} {x y:Int} (h:0<=i/\0<=j) (a:xs[i.toNat]? =some x) (b:xs[j.toNat]? =some y):fl xs i j=iE x y:=by have c:=(List.getElem?_eq_some_iff.1 a).1;have d:=(List.getElem?_eq_some_iff.1 b).1;unfold fl;grind
theorem JB {xs:List Int} {i j:Int} (h:¬(0<=i/\i<(xs.length:Int)/\0<=j/\j<(xs.length:Int))):fl xs i j=false:=by unfold fl;rw [if_neg h]
def nL :List Int->Nat->List MapEntry
 | [],_=> []
 | x::r,j=>{key:=.int .u64 x,val:=.int .i64 (j:Int),born:=j}::nL r (j+1)
def place (a:Int):List Int->Nat->Option Nat
 | [],_=>none
 | x::r,j=>if a=x then some j else place a r (j+1)
theorem KZ (a:Int):∀(b:List Int) (j:Nat),Instr.findNow (.int .u64) (.int .u64 a) (nL b j) j=some ((place a b j).map λ(k:Nat)=>(k,Value.int .i64 (k:Int)))
 | [],j=>rfl
 | x::r,j=>by
  simp only [nL,Instr.findNow,Instr.sameNow,if_true,place];by_cases h:a=x
  ·simp [h]
  ·have:(a==x)=false:=by simpa using h
   rw [this];simp only [if_neg h];exact KZ a r (j+1)
theorem K3 :∀(a:List Int) (x:Int) (j:Nat),nL (a++ [x]) j=nL a j++ [{key:=.int .u64 x,val:=.int .i64 ((j+a.length:Nat):Int),born:=j+a.length}]
 | [],x,j=>by simp [nL]
 | y::r,x,j=>by simp only [List.cons_append,nL,K3 r x (j+1),List.length_cons];grind
theorem Ke {a:Int}:∀ {b:List Int} {j:Nat},a∉b->place a b j=none
 | [],_,_=>rfl
 | x::r,j,h=>by simp only [place];rw [if_neg λe=>h (by grind)];exact Ke λe=>h (List.mem_cons_of_mem _ e)
structure q9 (h:Hp) (p:Addr) (ls:List Int):Prop where
 ex:∃(sl:Sl) (m:Nat),bp h p [sl.v,.map (some m)]/\Us h sl ls/\h m=some (.map (nL ls 0).toArray ls.length)
theorem q9.mono {h b:Hp} {p:Addr} {c:List Int} (a:h<=b) (t:q9 h p c):q9 b p c:=by obtain ⟨sl,m,d,e,f⟩:=t.ex;exact ⟨sl,m,ph a d,e.mono a,a _ _ f⟩
theorem q9.sl {h:Hp} {p:Addr} {a:List Int} (t:q9 h p a) {K:Sl->Prop} (d:∀sl,Us h sl a->K sl):aN none ak h (p.add 0) K:=by
 obtain ⟨sl,m,b,c,e⟩:=t.ex;refine ⟨sl,λi v hv=> ?_,d sl c⟩;cases i with
 | zero=>have:=b 0 v (by simpa [be,Sl.v] using hv);rw [sO];exact this
 | succ i=>simp [be] at hv
theorem q9.FM {h:Hp} {p:Addr} {a:List Int} (t:q9 h p a) {c:Bool} {K:Sl->Prop} (e:∀sl,Us h sl a->K sl):aN (some c) ak h (p.add 0) K:=by obtain ⟨sl,b,d⟩:=t.sl e;exact ⟨sl,λ_=>b,d⟩
theorem q9.map {h:Hp} {p:Addr} {a:List Int} (t:q9 h p a) {K:Option Nat->Prop} (d:∀m,h m=some (.map (nL a 0).toArray a.length)->K (some m)):aN none gL h (p.add 1) K:=by
 obtain ⟨sl,m,b,e,c⟩:=t.ex;refine ⟨some m,λi v hv=> ?_,d m c⟩;cases i with
 | zero=>have:=b 1 v (by simpa [be] using hv);rw [sO];exact this
 | succ i=>simp [be] at hv
theorem Hr {p:Addr} {a:List Int} {i:Int} {Q:Bool->Hp->Prop} {h:Hp} (t:q9 h p a) (b:Q (decide (0<=i)&&decide (i<(a.length:Int))) h):Wn prog (some p) i Q h:=by unfold Wn;refine aP (t.FM λsl c=>aK ?_);rw [c.1];exact b
theorem N8 {p:Addr} {a:List Int} {i j:Int} {Q:Bool->Hp->Prop} {h:Hp} (t:q9 h p a) (l:∀x∈a,iN x) (d:Q (fl a i j) h):S7 prog (some p) i j Q h:=by
 unfold S7;refine zsh (Hr t ?_);generalize c:(decide (0<=i)&&decide (i<(a.length:Int)))=ci;refine ⟨λe=>zsh (Hr t ?_),λe=>⟨false,?_⟩⟩
 ·generalize b:(decide (0<=j)&&decide (j<(a.length:Int)))=q;refine aK ?_;subst e;rw [Bool.true_and];simp at c;refine aP (t.FM λsl f=> ?_);refine Rs.qf f (0:Int) (λ_=>rfl) (by omega) (λ_=>c) λ(x:Int) m=> ?_;refine aP (t.FM λo g=> ?_);refine Rs.qf g (0:Int) (λ_=>rfl) (by omega) (λe=>by grind) λ(y:Int) n=> ?_;refine ⟨λe=> ?_,λe=>⟨false,?_⟩⟩
  ·have ex:=m e;have k:=n e;rw [e] at b;simp at b;refine zxw (H7 (l x (List.mem_of_getElem? ex)) (l y (List.mem_of_getElem? k)) (aK ?_));rw [e,Bool.true_and,<-Fk ⟨c.1,b.1⟩ ex k];exact d
  ·refine aK ?_;rw [e] at b ⊢;rw [Bool.false_and,<-JB (xs:=a) (i:=i) (j:=j) (by simp at b;omega)];exact d
 ·subst e;simp at c;refine aK ?_;rw [Bool.false_and];refine aP (t.FM λsl f=> ?_);refine Rs.qf f (0:Int) (λ_=>rfl) (by omega) (λe=>by cases e) λ(x:Int) m=> ?_;refine aP (t.FM λo g=> ?_);refine Rs.qf g (0:Int) (λ_=>rfl) (by omega) (λe=>by cases e) λ(y:Int) n=> ?_;refine ⟨λe=>(by cases e),λe=>⟨false,aK ?_⟩⟩;rw [Bool.false_and,<-JB (xs:=a) (i:=i) (j:=j) (by omega)];exact d
theorem VH {s:Sl} {xs:List Int} {Q:Sl->Hp->Prop} {h:Hp} (r:Us h s xs) (j:xs.length<=1000000) (f:∀out b,h<=b->MI h b out xs->Q out b):LJ prog s Q h:=by
 unfold LJ;refine ⟨s.base.isNone,Mx (ah.aH 22 u6 rfl) s,?_⟩;cases hb:s.base with
 | none=>
  rw [if_pos (show (none:Option Addr).isNone=true from rfl)];have:xs=[]:=by
   rcases r.2.2 with e | ⟨a,i,_⟩
   ·exact List.length_eq_zero_iff.1 (by omega)
   grind
  subst this;exact f _ h (Hp.le_refl h) ⟨rfl,Nat.le_refl _,.inl ⟨rfl,rfl⟩⟩
 | some a=>
  rw [if_neg (by simp)];refine ym (xs:=([]:List Int)) (enc:=λx=>be ((ab .u64).enc x)) (sz:=1) (Hp.le_refl h) rfl (λ_=>rfl) λa g c d=> ?_;refine IJ c d (Rw.mono c r) (λ_=>rfl) (λ_=>rfl) rfl ?_ λm b k l _=> ?_
  ·simp;omega
  grind
theorem Q7 {b:List Int} (g:b.Pairwise (· < ·)) {t:Nat} {x:Int} (h:b[t]? =some x):x∉b.take t:=by
 intro f;obtain ⟨i,a⟩:=List.mem_iff_getElem?.1 f;rw [List.getElem?_take] at a;split at a
 ·rename_i e;obtain ⟨c,j⟩:=List.getElem?_eq_some_iff.1 a;obtain ⟨d,k⟩:=List.getElem?_eq_some_iff.1 h;have:=List.pairwise_iff_getElem.1 g i t c d e;omega
 ·cases a
theorem Y8 {l:Sl} {a:List Int} {Q:Option Addr->Int->Int->Hp->Prop} {h:Hp} (r:Us h l a) (G:a.length<=8) (s:a.Pairwise (· < ·)) (L:a=[]->Q none 1 0 h)
  (E:a≠ []->∀p g,h<=g->q9 g p a->Q (some p) 0 0 g):JM prog l Q h:=by
 unfold JM;refine Y2 (Y6 r G s (λe=> ?_) (λe=> ?_))
 ·grind
 rw [if_neg (by simp)];refine zgi (VH r (by omega) λout q y J=> ?_);intro m A;have z:q<=q.set m (.map #[] 0):=lP A;intro b t hb;have n:=lP (o:=.cells (([out.v,.map (some m)]:List Value).toArray) t (0,0)) hb;have I:h m=none:=sK y A;have M:b≠m:=λe=>by rw [e,mI] at hb;cases hb
 have K:Us q out a:=J.rw λ_=>rfl;refine ⟨_,rfl,out,?_,?_⟩
 ·intro i v hv;cases i with
  | zero=>rw [sO];exact Et 0 v (by simpa [be,Sl.v] using hv)
  | succ i=>simp [be] at hv
 refine aA.intro (λi k=>h<=k/\0<=i/\i<=(a.length:Int)/\Us k out a/\bp k ⟨b,0,none⟩ [out.v,.map (some m)]/\k m=some (.map (nL (a.take i.toNat) 0).toArray i.toNat)) (λi _=>(a.length-i).toNat)
  ⟨Hp.le_trans y (Hp.le_trans z n),by omega,by omega,Rw.mono (Hp.le_trans z n) K,Et,n _ _ mI⟩ ?_
 rintro i k ⟨w,F,N,f,hp,d⟩;have O:=f.1;split
 ·rename_i e;have e:i<(out.len:Int):=by simpa using e
  refine Rs.get f (λ_=>rfl) (by omega) F (by omega) λ(x:Int) B=> ?_;refine ⟨_,rfl,some m,?_,?_⟩
  ·intro j v hv;cases j with
   | zero=>have:=hp 1 v (by simpa [be] using hv);rw [sO];exact this
   | succ j=>simp [be] at hv
  have H:(a.take i.toNat).length=i.toNat:=by grind
  refine ⟨m,_,_,rfl,d,.inl ⟨?_,?_⟩⟩
  ·have:=KZ x (a.take i.toNat) 0;rw [Ke (Q7 s B)] at this;exact this
  ·have u:∀o,oe k (k.set m o):=λo=>Y0 d rfl;rw [wrap64 (by omega) (by omega)];refine ⟨⟨Hi w I,by omega,by omega,Rw.ck (u _) f,IK (u _) hp,?_⟩,by omega⟩;rw [mI];have C:(i+1).toNat=i.toNat+1:=by omega
   have c:a.take (i.toNat+1)=a.take i.toNat++ [x]:=by rw [List.take_add_one,B];rfl
   rw [C,c,K3,H];grind
 ·rename_i c;have c:¬i<(out.len:Int):=by simpa using c
  have D:i.toNat=a.length:=by omega
  rw [D,List.take_length] at d;exact E e _ _ w ⟨out,m,hp,f,d⟩
def pF :Int->List Int->Int->Int×Int
 | _,[],_=>(0,0)
 | p,x::r,i=>if x=p then (8,i) else if x<p then (7,i) else pF x r (i+1)
def jV :List Int->Int×Int
 | []=>(1,0)
 | x::r=>if 8<r.length+1 then (3,8) else pF x r 1
theorem K4 :∀ {r:List Int} {p i:Int},(pF p r i).1=0↔(p::r).Pairwise (· < ·)
 | [],p,i=>by simp [pF]
 | x::r,p,i=>by
  simp only [pF];by_cases b:x=p
  ·rw [if_pos b,List.pairwise_cons];refine ⟨λe=>(by cases e),λh=> ?_⟩;have:=h.1 x (List.mem_cons_self ..);omega
  ·rw [if_neg b];by_cases c:x<p
   ·rw [if_pos c,List.pairwise_cons];refine ⟨λe=>(by cases e),λh=> ?_⟩;have:=h.1 x (List.mem_cons_self ..);omega
   ·rw [if_neg c,K4,List.pairwise_cons (a:=p)];refine ⟨λh=>⟨λy hy=> ?_,h⟩,λh=>h.2⟩;rcases List.mem_cons.1 hy with rfl | hy
    ·omega
    ·have:=(List.pairwise_cons.1 h).1 y hy;omega
theorem lO {a:List Int}:(jV a).1=0↔a≠ []/\a.length<=8/\a.Pairwise (· < ·):=by
 cases a with
 | nil=>simp [jV]
 | cons x r=>
  simp only [jV,List.length_cons];by_cases h:8<r.length+1
  ·grind
  ·rw [if_neg h,K4];grind
theorem IP {P:Program} {l:Sl} {f:List Int} {Q:Int->Int->Hp->Prop} {h:Hp} (r:Us h l f) (e:Q (jV f).1 (jV f).2 h):JK P l Q h:=by
 unfold JK;have o:=r.1;cases u:f with
 | nil=>subst u;rw [if_pos (by simp [o])];exact e
 | cons b a=>
  subst u;simp only [List.length_cons] at o;rw [if_neg (show ¬(((l.len:Int)==0)=true) by simp;omega)];by_cases m:(l.len:Int)>8
  ·rw [if_pos (decide_eq_true m)];have:jV (b::a)=(3,8):=by simp only [jV];rw [if_pos (by omega)]
   grind
  rw [if_neg λg=>m (of_decide_eq_true g)];have E:jV (b::a)=pF b a 1:=by simp only [jV];grind
  rw [E] at e;refine aA.intro (λi k=>k=h/\1<=i/\i<=((a.length:Int)+1)/\∃p,(b::a)[(i-1).toNat]? =some p/\pF p ((b::a).drop i.toNat) i=pF b a 1) (λi _=>(a.length+1-i).toNat)
   ⟨rfl,by omega,by omega,b,rfl,rfl⟩ ?_
  rintro i k ⟨rfl,F,G,p,hp,c⟩;split
  ·rename_i d;have d:i<(l.len:Int):=by simpa using d
   have H:((b::a).length:Int)=(a.length:Int)+1:=by simp
   rw [wrap64 (n:=i-1) (by omega) (by omega)];refine r.get (λ_=>rfl) (by omega) (by omega) (by omega) λ(x:Int) j=> ?_;refine r.get (λ_=>rfl) (by omega) (by omega) (by omega) λ(y:Int) v=> ?_;rw [hp] at v;cases v;have D:(b::a).drop i.toNat=x::(b::a).drop (i.toNat+1):=by obtain ⟨B,C⟩:=List.getElem?_eq_some_iff.1 j;rw [List.drop_eq_getElem_cons B,C]
   rw [D] at c;simp only [pF] at c;by_cases t:x=p
   ·grind
   rw [if_neg (by simpa using t)];rw [if_neg t] at c;refine r.get (λ_=>rfl) (by omega) (by omega) (by omega) λ(I:Int) s=> ?_;rw [j] at s;cases s;refine r.get (λ_=>rfl) (by omega) (by omega) (by omega) λ(J:Int) w=> ?_;rw [hp] at w;cases w;by_cases q:x<p
   ·grind
   rw [if_neg λg=>q (of_decide_eq_true g)];rw [if_neg q] at c;rw [wrap64 (by omega) (by omega)];have z:(i+1).toNat=i.toNat+1:=by omega
   have A:(i+1-1).toNat=i.toNat:=by omega
   exact ⟨⟨rfl,by omega,by omega,x,by rw [A];exact j,by rw [z];exact c⟩,by omega⟩
  ·rename_i d;have d:¬i<(l.len:Int):=by simpa using d
   rw [List.drop_eq_nil_of_le (by simp;omega)] at c;rw [<-c] at e;exact e
theorem X2 {l:Sl} {a:List Int} {Q:Option Addr->Int->Int->Hp->Prop} {h:Hp} (r:Us h l a) (j:(jV a).1≠0->Q none (jV a).1 (jV a).2 h)
  (d:(jV a).1=0->∀p b,h<=b->q9 b p a->Q (some p) 0 0 b):JM prog l Q h:=by
 by_cases c:(jV a).1=0
 ·obtain ⟨i,g,f⟩:=lO.1 c;exact Y8 r g f (λe=>absurd e i) λ_=>d c
 ·unfold JM;refine Y2 (IP r ?_);grind
def cM {c d:Type} (R:c->d->Prop):List c->List d->Prop
 | [],[]=>True
 | a::l,b::m=>R a b/\cM R l m
 | _,_=>False
section
variable {α β:Type} {R S:α->β->Prop}
theorem cM.len :∀ {l:List α} {m:List β},cM R l m->l.length=m.length
 | [],[],_=>rfl
 | _::l,_::m,h=>by simp [cM.len h.2]
 | [],_::_,h=>h.elim
 | _::_,[],h=>h.elim
theorem cM.imp (c:∀a b,R a b->S a b):∀ {l:List α} {m:List β},cM R l m->cM S l m
 | [],[],_=>trivial
 | _::_,_::_,h=>⟨c _ _ h.1,cM.imp c h.2⟩
 | [],_::_,h=>h.elim
 | _::_,[],h=>h.elim
theorem cM.get :∀ {l:List α} {m:List β} {i:Nat} {a:α},cM R l m->l[i]? =some a->∃b,m[i]? =some b/\R a b
 | [],_,_,_,_,e=>by simp at e
 | _::_,[],_,_,h,_=>h.elim
 | _::_,b::_,0,_,h,e=>by simp at e;subst e;exact ⟨b,rfl,h.1⟩
 | _::_,_::_,i+1,_,h,e=>by rw [List.getElem?_cons_succ] at e;obtain ⟨b,c,d⟩:=cM.get h.2 e;grind
theorem cM.get' :∀ {l:List α} {m:List β} {i:Nat} {b:β},cM R l m->m[i]? =some b->∃a,l[i]? =some a/\R a b
 | _,[],_,_,_,e=>by simp at e
 | [],_::_,_,_,h,_=>h.elim
 | a::_,_::_,0,_,h,e=>by simp at e;subst e;exact ⟨a,rfl,h.1⟩
 | _::_,_::_,i+1,_,h,e=>by rw [List.getElem?_cons_succ] at e;obtain ⟨b,c,d⟩:=cM.get' h.2 e;grind
theorem cM.app :∀ {l a:List α} {m b:List β},cM R l m->cM R a b->cM R (l++a) (m++b)
 | [],_,[],_,_,h=>h
 | _::_,_,_::_,_,h,c=>⟨h.1,cM.app h.2 c⟩
 | [],_,_::_,_,h,_=>h.elim
 | _::_,_,[],_,h,_=>h.elim
theorem cM.drop :∀ {l:List α} {m:List β} (n:Nat),cM R l m->cM R (l.drop n) (m.drop n)
 | _,_,0,h=>h
 | [],[],_+1,h=>h
 | _::_,_::_,n+1,h=>cM.drop n h.2
 | [],_::_,_+1,h=>h.elim
 | _::_,[],_+1,h=>h.elim
theorem cM.take :∀ {l:List α} {m:List β} (n:Nat),cM R l m->cM R (l.take n) (m.take n)
 | _,_,0,_=>trivial
 | [],[],_+1,h=>h
 | _::_,_::_,n+1,h=>⟨h.1,cM.take n h.2⟩
 | [],_::_,_+1,h=>h.elim
 | _::_,[],_+1,h=>h.elim
end
def jo (h:Hp) (q:ba) (p:iX):Prop:=q.Part=p.part/\∃a,mj h q.Code a/\a.map bL=p.code
abbrev E7 (h:Hp) (l:Sl) (a:List ba):Prop:=Rs h bA 2 l a
structure dN (h:Hp) (c:ay) (p:aV):Prop where
 labels:Us h c.bn p.labels
 table:Is h c.Table p.table
 fuel:c.Fuel=p.fuel
 lane:c.iO=p.lane
 an:c.cf=p.an
 log:c.Log=p.log
 procs:∃ps,E7 h c.aO ps/\cM (jo h) ps p.procs
section
variable {h b:Hp}
theorem jo.mono (f:h<=b) {q:ba} {p:iX} (a:jo h q p):jo b q p:=by obtain ⟨c,g,d,e⟩:=a;exact ⟨c,g,Rw.mono f d,e⟩
theorem dN.mono (d:h<=b) {c:ay} {p:aV} (a:dN h c p):dN b c p:=by obtain ⟨i,f,g⟩:=a.procs;exact ⟨Rw.mono d a.labels,Rw.mono d a.table,a.fuel,a.lane,a.an,a.log,i,Rw.mono d f,g.imp λ_ _ e=>e.mono d⟩
end
section
variable {P:Program} {h:Hp}
theorem vb {n a b:Int} {Q:Bool->Hp->Prop} (c:Q (kN n a b) h):ZY P n a b Q h:=by unfold ZY;exact aK c
theorem IQ {n nN:Int} {Q:Int->Hp->Prop} (a:Q (kV nN n) h):Cr P n nN Q h:=by unfold Cr;unfold kV at a;grind
def vG (part n:Int):Int:=if part=2 then nn 1 256 n else if part=3 then nn 1 64 n else if part=4 then nn 0 8 n else if part=5 then nn 0 4096 n else 0
theorem TE {part n:Int} {Q:Int->Hp->Prop} (c:Q (vG part n) h):ZX prog part n Q h:=by
 unfold ZX;unfold vG at c;have one:∀a b,Q (nn a b n) h->(if (!(kN n a b))=true then Q 2 h else Q 0 h):=λa b c=>by unfold nn at c;grind
 by_cases d:part=2
 ·rw [if_pos d] at c;rw [if_pos (by simpa using d)];exact Ia (vb (one 1 256 c))
 ·rw [if_neg d] at c;rw [if_neg (by simpa using d)];by_cases e:part=3
  ·rw [if_pos e] at c;rw [if_pos (by simpa using e)];exact Ia (vb (one 1 64 c))
  ·rw [if_neg e] at c;rw [if_neg (by simpa using e)];by_cases f:part=4
   ·rw [if_pos f] at c;rw [if_pos (by simpa using f)];exact Ia (vb (one 0 8 c))
   ·rw [if_neg f] at c;rw [if_neg (by simpa using f)];by_cases g:part=5
    ·rw [if_pos g] at c;rw [if_pos (by simpa using g)];exact Ia (vb (one 0 4096 c))
    grind
end
theorem ID {h:Hp} {s:Sl} {a:List Int} {p:Int->Bool} {f:mM} {Q:Int->Hp->Prop} (r:Is h s a) (w:a.length<=1000000)
  (n:∀x∈a,∀(k:Hp) (K:Bool->Hp->Prop),h<=k->(∀d,h<=d->K (p x) d)->dM prog tb (.func (.func f.g) f.first f.captured) [.int .i64 x] aQ K k)
  (q:∀i j,h<=j->(0<=i↔a.any p=true)->Q i j):Pn prog s f Q h:=by
 unfold Pn;have z:=r.1;refine aA.intro (λi k=>h<=k/\0<=i/\i<=(a.length:Int)/\∀x∈a.take i.toNat,p x=false) (λi _=>(a.length-i).toNat) ⟨Hp.le_refl h,by omega,by omega,λx b=>by simp at b⟩ ?_;rintro i k ⟨c,m,v,u⟩;by_cases l:i<(a.length:Int)
 ·rw [if_pos (decide_eq_true (by omega))];refine Rs.get (sh:=ab .i64) (Rw.mono c r) (λ_=>rfl) (by omega) m l λx b=> ?_;refine n x (List.mem_of_getElem? b) k _ c λd o=> ?_;cases hp:p x with
  | true=>grind
  | false=>
   rw [if_neg (by simp),wrap64 (by omega) (by omega)];refine ⟨⟨o,by omega,by omega,λy t=> ?_⟩,by omega⟩;have:(i+1).toNat=i.toNat+1:=by omega
   rw [this,List.take_add_one,b] at t;grind
 ·rw [if_neg (λe=>l (by have:=of_decide_eq_true e;omega))];refine q (-1) k c ⟨λe=>by omega,λe=> ?_⟩;obtain ⟨x,b,hp⟩:=List.any_eq_true.1 e;have:a.take i.toNat=a:=List.take_of_length_le (by omega);grind
theorem TG {s:Sl} {xs:List Int} {Q:Sl->Hp->Prop} {h:Hp} (r:Is h s xs) (j:xs.length<=1000000) (f:∀out b,h<=b->MH h b out xs->Q out b):AG prog s Q h:=by
 unfold AG;refine ⟨s.base.isNone,Mx (ah.aH 23 nV rfl) s,?_⟩;cases hb:s.base with
 | none=>
  rw [if_pos (show (none:Option Addr).isNone=true from rfl)];have:xs=[]:=by
   rcases r.2.2 with e | ⟨a,i,_⟩
   ·exact List.length_eq_zero_iff.1 (by omega)
   grind
  subst this;exact f _ h (Hp.le_refl h) ⟨rfl,Nat.le_refl _,.inl ⟨rfl,rfl⟩⟩
 | some a=>
  rw [if_neg (by simp)];refine ym (xs:=([]:List Int)) (enc:=λx=>be ((ab .i64).enc x)) (sz:=1) (Hp.le_refl h) rfl (λ_=>rfl) λa g c d=> ?_;refine IJ c d (Rw.mono c r) (λ_=>rfl) (λ_=>rfl) rfl ?_ λm b k l _=> ?_
  ·simp;omega
  grind
theorem Oa {h:Hp} {t:Sl} {xs:List Int} {n:Int} {Q:Option Addr->Int->Int->Hp->Prop} (r:Is h t xs) (D:1<=n) (F:n<=8) (B:xs≠ []) (G:xs.length<=64)
  (m:∀p i d,h<=d->Q p (if (xs.all λx=>kN x 0 (n-1))=false then 2 else 0) i d):JL prog t n Q h:=by
 unfold JL;have H:=r.1;have J:0<xs.length:=List.length_pos_iff.2 B;intro b ty z;have l:=lP (o:=.cells (#[Value.int .i64 n]) ty (0,0)) z;have a:bp (h.set b (.cells (#[Value.int .i64 n]) ty (0,0))) ⟨b,0,none⟩ [.int .i64 n]:=Et (cs:=[Value.int .i64 n]);refine oX (sh:=ab .i64) n a ?_;refine ⟨n,λ_=>a,?_⟩;refine aK (aK ?_);rw [if_neg (by simp;omega),if_neg (by simp;omega)];have y:(xs.any λx=>decide (x<0) || decide (x>=n))= !(xs.all λx=>kN x 0 (n-1)):=by
  rw [Bool.eq_iff_iff];simp only [List.any_eq_true,Bool.not_eq_true',List.all_eq_false,Bool.or_eq_true,decide_eq_true_eq];constructor
  ·rintro ⟨x,q,hb⟩;exact ⟨x,q,by rw [dx];omega⟩
  ·rintro ⟨x,q,hb⟩;exact ⟨x,q,by rw [dx] at hb;omega⟩
 refine zhl (f:=⟨IT, #[], #[.pointer (some ⟨b,0,none⟩)]⟩) (ID (p:=λx=>decide (x<0) || decide (x>=n)) (Rw.mono l r) (by omega) (λx _ k K u w=> ?_) λi d c j=> ?_)
 ·refine tP (g:=IT) rfl (zxx ?_);unfold ZZ;refine ⟨n,λ_=>ph u a,aK (w k u)⟩
 ·dsimp only;rw [y] at j;cases s:(xs.all λx=>kN x 0 (n-1)) with
  | false=>rw [s] at j m;rw [if_pos (decide_eq_true (j.2 rfl))];exact m none i d (Hp.le_trans l c)
  | true=>rw [s] at j m;rw [if_neg (λe=>by grind)];refine oX (sh:=ab .i64) n (ph c a) ?_;refine EH (TG (Rw.mono (Hp.le_trans l c) r) (by omega) λout E v I=> ?_);refine ⟨⟨ph (Hp.le_trans c v) a,trivial⟩,?_⟩;intro C t2 A;exact m _ 0 _ (Hp.le_trans (Hp.le_trans l c) (Hp.le_trans v (lP A)))
def nf :List Int->Int->Int×Int->Int×Int
 | [],_,z=>z
 | n::r,i,z=>if vG i n≠0 then (vG i n,i) else nf r (i+1) z
def qw (c:aV):Int×Int:=if c.procs=[] then (1,6) else if 32<c.procs.length then (3,6) else nY c.labels.length c.an c.procs 0
theorem TI (m:Int) (c:aV):um m c=if m≠0 then (m,0) else if c.table=[] then (1,1) else if 64<c.table.length then (3,1)
  else if (c.table.all λp=>kN p 0 (c.labels.length-1))=false then (2,1) else nf [0,0,c.fuel,c.lane,c.an,c.log] 0 (qw c):=by
 unfold um;have a:vG 0 0=0:=rfl;have b:vG (0+1) 0=0:=rfl;have d:vG (0+1+1) c.fuel=nn 1 256 c.fuel:=rfl;have e:vG (0+1+1+1) c.lane=nn 1 64 c.lane:=rfl;have f:vG (0+1+1+1+1) c.an=nn 0 8 c.an:=rfl;have g:vG (0+1+1+1+1+1) c.log=nn 0 4096 c.log:=rfl;simp only [nf,a,b,d,e,f,g,ne_eq,not_true_eq_false,if_false];unfold nn qw;grind
def iZ (c:aV):Int×Int:=um (jV c.labels).1 c
theorem Kf {h:Hp} {c:ay} {p:aV} {Q:Int->Int->Hp->Prop} (a:dN h c p) (b:∀z,h<=z->Q (iZ p).1 (iZ p).2 z):CL prog c Q h:=by
 unfold CL;have le:=Hp.le_refl h;unfold iZ at b;rw [TI] at b;refine Y2 (IP a.labels ?_);dsimp only;by_cases m:(jV p.labels).1≠0
 ·grind
 rw [if_neg m] at b;rw [if_neg (by simpa using m)];obtain ⟨O,b1,_⟩:=lO.1 (Classical.not_not.1 m);have R:=a.labels.1;have U:=a.table.1;have b2:0<p.labels.length:=List.length_pos_iff.2 O;refine GG (IQ ?_);by_cases g:p.table=[]
 ·rw [if_pos g] at b;have e:kV 64 (c.Table.len:Int)=1:=by unfold kV;rw [if_pos (by rw [U,g];rfl)]
  grind
 rw [if_neg g] at b;have b4:0<p.table.length:=List.length_pos_iff.2 g;by_cases A:64<p.table.length
 ·rw [if_pos A] at b;have e:kV 64 (c.Table.len:Int)=3:=by unfold kV;rw [if_neg (by omega),if_pos (by omega)]
  grind
 rw [if_neg A] at b;have e:kV 64 (c.Table.len:Int)=0:=by unfold kV;omega
 rw [e,if_neg (by simp)];rw [R];refine GI (Oa a.table (by omega) (by omega) g (by omega) λsp si B a8=> ?_);dsimp only;by_cases L:(p.table.all λx=>kN x 0 (p.labels.length-1))=false
 ·grind
 rw [if_neg L] at b;rw [if_neg (by grind)];refine ym (h0:=B) (xs:=([0,0,p.fuel,p.lane,p.an,p.log]:List Int)) (enc:=λx=>be ((ab .i64).enc x)) (sz:=1) (Hp.le_refl B) (by rw [a.fuel,a.lane,a.an,a.log];rfl) (λ_=>rfl) λy C a9 o4=> ?_;have r4:Is C ⟨some y,6,6⟩ [0,0,p.fuel,p.lane,p.an,p.log]:=o4.rw λ_=>rfl;have b0:=Hp.le_trans a8 a9;obtain ⟨w,H,F⟩:=a.procs;have S:=H.1;have T:=F.len;refine aA.intro (λi k=>C<=k/\0<=i/\i<=6/\nf (([0,0,p.fuel,p.lane,p.an,p.log]:List Int).drop i.toNat) i (qw p)=nf [0,0,p.fuel,p.lane,p.an,p.log] 0 (qw p)) (λi _=>(6-i).toNat) ⟨Hp.le_refl _,by omega,by omega,rfl⟩ ?_;rintro i k ⟨t,h0,M,d⟩;have P:=Hp.le_trans b0 t;by_cases o:i<6
 ·rw [if_pos (decide_eq_true o)];refine Rs.get (sh:=ab .i64) (l:=⟨some y,6,6⟩) (Rw.mono t r4) (λ_=>rfl) (by omega) h0 (by simpa using o) λx I=> ?_;refine TF (TE ?_);have s:([0,0,p.fuel,p.lane,p.an,p.log]:List Int).drop i.toNat=x::([0,0,p.fuel,p.lane,p.an,p.log]:List Int).drop (i.toNat+1):=by grind
  rw [s,nf] at d;by_cases f:vG i x≠0
  ·grind
  ·rw [if_neg f] at d;rw [if_neg (by simpa using f),wrap64 (by omega) (by omega)];refine ⟨⟨t,by omega,by omega,?_⟩,by omega⟩;have:(i+1).toNat=i.toNat+1:=by omega
   grind
 ·rw [if_neg (λe=>o (of_decide_eq_true e))];have:i=6:=by omega
  subst this;rw [show ([0,0,p.fuel,p.lane,p.an,p.log]:List Int).drop (6:Int).toNat=[] from rfl,nf] at d;rw [<-d] at b;unfold qw at b;refine GG (IQ ?_);by_cases f:p.procs=[]
  ·rw [if_pos f] at b;have e:kV 32 (c.aO.len:Int)=1:=by unfold kV;rw [if_pos (by rw [S,T,f];rfl)]
   grind
  rw [if_neg f] at b;have b3:0<p.procs.length:=List.length_pos_iff.2 f;by_cases D:32<p.procs.length
  ·rw [if_pos D] at b;have e:kV 32 (c.aO.len:Int)=3:=by unfold kV;rw [if_neg (by omega),if_pos (by omega)]
   grind
  rw [if_neg D] at b;have e:kV 32 (c.aO.len:Int)=0:=by unfold kV;omega
  rw [e,if_neg (by simp)];refine aA.intro (λi J=>k<=J/\0<=i/\i<=(w.length:Int)/\nY p.labels.length p.an (p.procs.drop i.toNat) i=nY p.labels.length p.an p.procs 0) (λi _=>(w.length-i).toNat) ⟨Hp.le_refl _,by omega,by omega,rfl⟩ ?_;rintro i J ⟨G,h0,M,d⟩;have u:=Hp.le_trans P G;by_cases E:i<(w.length:Int)
  ·rw [if_pos (decide_eq_true (by omega))];refine Rs.get (sh:=bA) (Rw.mono u H) (λ_=>rfl) (by omega) h0 E λq I=> ?_;obtain ⟨v,W,X,is,N,V⟩:=F.get I;have s:p.procs.drop i.toNat=v::p.procs.drop (i.toNat+1):=by obtain ⟨b5,Y⟩:=List.getElem?_eq_some_iff.1 W;rw [<-Y];simp
   rw [s,nY] at d;rw [wrap64 (n:=(p.labels.length:Int)-1) (by omega) (by omega)];refine Ia (vb ?_);rw [X];by_cases r:kN v.part 0 ((p.labels.length:Int)-1)=false
   ·rw [if_pos r] at d;rw [if_pos (by rw [r];rfl),wrap64 (by omega) (by omega)];grind
   rw [if_neg r] at d;rw [if_neg (by grind)];refine ZE (Q5 (Rw.mono u N) λZ K=> ?_);dsimp only;rw [V,a.an];by_cases j:(jT v.code p.an).1≠0
   ·rw [if_pos j] at d;rw [if_pos (by simpa using j),wrap64 (by omega) (by omega)];rw [<-d] at b;exact b Z (Hp.le_trans u K)
   ·rw [if_neg j] at d;rw [if_neg (by simpa using j),wrap64 (by omega) (by omega)];refine ⟨⟨Hp.le_trans G K,by omega,by omega,?_⟩,by omega⟩;grind
  ·rw [if_neg (λe=>E (by have:=of_decide_eq_true e;omega))];rw [List.drop_eq_nil_of_le (by omega),nY] at d;grind
def AS (x:bf):ly:=⟨x.da,x.dQ⟩
def qJ (x:cU):pN:=⟨x.fE,x.da,x.dQ⟩
abbrev rW (h:Hp) (l:Sl) (a:List bf):Prop:=Rs h aC 2 l a
abbrev AY (h:Hp) (l:Sl) (a:List cU):Prop:=Rs h cR 3 l a
structure gO (h:Hp) (x:bw) (p:bq):Prop where
 values:Is h x.ff p.values
 waiters:∃ws,rW h x.cQ ws/\ws.map AS=p.waiters
 taken:x.gD=p.taken
 dropped:x.ee=p.dropped
structure cN (h:Hp) (x:aR) (p:ai):Prop where
 state:x.State=p.state
 pc:x.PC=p.pc
 br: [x.bV,x.bW,x.bX,x.bY,x.bZ,x.b9,x.cc,x.cd]=p.br
 ae:x.Cursor=p.ae
 timer:x.Timer=p.timer
 bF:x.gA=p.bF
 cn:x.j9=p.cn
 af:∃ls,Rs h bd 4 x.gB ls/\cM (gO h) ls p.af
structure fe (h:Hp) (x:bx) (p:cY):Prop where
 ae:x.Cursor=p.ae
 log:∃es,AY h x.Log es/\es.map qJ=p.log
 lost:x.j8=p.lost
 forbidden:x.cS=p.forbidden
 az:Is h x.dm p.az
 al:∃qs,Rs h ak 1 x.eN qs/\cM (Is h) qs p.al
structure db (h:Hp) (x:aL) (p:fz):Prop where
 tick:x.fE=p.tick
 parts:∃ps,Rs h aY 6 x.cq ps/\cM (fe h) ps p.parts
 procs:∃ps,Rs h aE 15 x.aO ps/\cM (cN h) ps p.procs
section
variable {h b:Hp}
theorem gO.mono (c:h<=b) {x:bw} {p:bq} (a:gO h x p):gO b x p:=by obtain ⟨f,d,e⟩:=a.waiters;exact ⟨Rw.mono c a.values,⟨f,Rw.mono c d,e⟩,a.taken,a.dropped⟩
theorem cN.mono (c:h<=b) {x:aR} {p:ai} (a:cN h x p):cN b x p:=by obtain ⟨g,d,f⟩:=a.af;exact ⟨a.state,a.pc,a.br,a.ae,a.timer,a.bF,a.cn,g,Rw.mono c d,f.imp λ_ _ e=>e.mono c⟩
theorem fe.mono (c:h<=b) {x:bx} {p:cY} (a:fe h x p):fe b x p:=by obtain ⟨d,f,g⟩:=a.log;obtain ⟨qs,i,j⟩:=a.al;exact ⟨a.ae,⟨d,Rw.mono c f,g⟩,a.lost,a.forbidden,Rw.mono c a.az,qs,Rw.mono c i,j.imp λ_ _ e=>Rw.mono c e⟩
theorem db.mono (c:h<=b) {x:aL} {p:fz} (a:db h x p):db b x p:=by obtain ⟨j,d,f⟩:=a.parts;obtain ⟨qs,g,i⟩:=a.procs;exact ⟨a.tick,⟨j,Rw.mono c d,f.imp λ_ _ e=>e.mono c⟩,qs,Rw.mono c g,i.imp λ_ _ e=>e.mono c⟩
end
section
variable {h:Hp} {c:aV} {s:fz}
end
theorem Bg {sh:Shape} {c:Bool} {h:Hp} {a:Addr} {K:sh.T->Prop} (x:sh.T) (d:bp h a (be (sh.enc x))) (b:K x):aN (some c) sh h a K:=⟨x,λ_=>d,b⟩
section
variable {h:Hp} {c:aV} {s:fz}
end
def nH {e f:Type} (R:e->f->Hp->List Nat->Prop):List e->List f->Hp->List Nat->Prop
 | [],[],_,B=>B=[]
 | a::l,b::m,h,B=>∃c d,B=c++d/\R a b h c/\nH R l m h d
 | _,_,_,_=>False
structure gV {α β:Type} (R:α->β->Hp->List Nat->Prop):Prop where
 same:∀ {a b h h' B},R a b h B->(∀c∈B,h' c=h c)->R a b h' B
 known:∀ {a b h B},R a b h B->∀c∈B,h c≠none
section
variable {α β:Type} {R:α->β->Hp->List Nat->Prop} {h d:Hp}
theorem nH.same (ok:gV R):∀ {l:List α} {m:List β} {B:List Nat},nH R l m h B->(∀c∈B,d c=h c)->nH R l m d B
 | [],[],_,o,_=>o
 | _::_,_::_,_,⟨b,f,e,i,j⟩,a=>⟨b,f,e,ok.same i λc g=>a c (by grind),nH.same ok j λc g=>a c (by grind)⟩
 | [],_::_,_,o,_=>o.elim
 | _::_,[],_,o,_=>o.elim
theorem nH.known (ok:gV R):∀ {l:List α} {m:List β} {B:List Nat},nH R l m h B->∀c∈B,h c≠none
 | [],[],_,o,c,hc=>by rw [show _=[] from o] at hc;cases hc
 | _::_,_::_,_,⟨f,g,e,a,b⟩,c,hc=>by
  rw [e] at hc;rcases List.mem_append.1 hc with hc | hc
  ·exact ok.known a c hc
  ·exact nH.known ok b c hc
 | [],_::_,_,o,_,_=>o.elim
 | _::_,[],_,o,_,_=>o.elim
theorem nH.snoc {a:α} {b:β} {B':List Nat} (e:R a b h B'):∀ {l:List α} {m:List β} {B:List Nat},nH R l m h B->nH R (l++ [a]) (m++ [b]) h (B++B')
 | [],[],_,o=>by rw [show _=[] from o];exact ⟨B',[],by simp,e,rfl⟩
 | _::_,_::_,_,⟨c,f,j,g,i⟩=>⟨c,f++B',by grind,g,nH.snoc e i⟩
 | [],_::_,_,o=>o.elim
 | _::_,[],_,o=>o.elim
theorem nH.A3 {S:α->β->Prop} (c:∀a b B,R a b h B->S a b):∀ {l:List α} {m:List β} {B:List Nat},nH R l m h B->cM S l m
 | [],[],_,_=>trivial
 | _::_,_::_,_,⟨e,_,_,f,g⟩=>⟨c _ _ e f,nH.A3 c g⟩
 | [],_::_,_,o=>o.elim
 | _::_,[],_,o=>o.elim
theorem df.one {sz:Nat} {enc:α->List Value} {l:Sl} {a:List α} {F:List Nat} (o:df h sz enc l a F):F=[]\/∃b,F=[b]:=by obtain ⟨_,_,o⟩:=o;grind
theorem df.nodup {sz:Nat} {enc:α->List Value} {l:Sl} {a:List α} {F:List Nat} (o:df h sz enc l a F):F.Nodup:=by rcases o.one with e | ⟨b,e⟩<;>rw [e]<;>simp
end
def fy {c d:Type} (S:c->d->Prop) (a:c) (b:d) (_:Hp) (B:List Nat):Prop:=B=[]/\S a b
theorem fy.ok {α β:Type} (S:α->β->Prop):gV (fy S):=⟨λo _=>o,λo c a=>by rw [o.1] at a;cases a⟩
def bM {c:Type} (sh:Shape) (sz:Nat) (R:sh.T->c->Hp->List Nat->Prop) (l:Sl) (d:List c) (h:Hp) (B:List Nat):Prop:=
 ∃(xs:List sh.T) (a b:List Nat),B=a++b/\df h sz (λx=>be (sh.enc x)) l xs a/\nH R xs d h b
section
variable {β:Type} {sh:Shape} {sz:Nat} {R:sh.T->β->Hp->List Nat->Prop} {l:Sl} {ps:List β} {h d:Hp} {B:List Nat}
theorem bM.nil :bM sh sz R ⟨none,0,0⟩ [] h []:=⟨[],[],[],rfl,⟨rfl,Nat.le_refl _,.inl ⟨rfl,rfl,rfl⟩⟩,rfl⟩
theorem bM.ok (ok:gV R):gV (bM sh sz R) where
 same:=by rintro a b h d B ⟨xs,i,j,e,f,g⟩ k;exact ⟨xs,i,j,e,f.same λc hc=>k c (by grind),g.same ok λc hc=>k c (by grind)⟩
 known:=by
  rintro a b h B ⟨xs,i,j,e,f,g⟩ c hc;rw [e] at hc;rcases List.mem_append.1 hc with hc | hc
  ·exact f.known c hc
  ·exact g.known ok c hc
theorem bM.len (o:bM sh sz R l ps h B):l.len=ps.length:=by obtain ⟨xs,c,f,e,a,b⟩:=o;have:=(b.A3 (S:=λ_ _=>True) λ_ _ _ _=>trivial).len;rw [<-this];exact a.1
theorem bM.rows {S:sh.T->β->Prop} (f:∀x,(be (sh.enc x)).length=sz) (g:∀a b B,R a b h B->S a b) (o:bM sh sz R l ps h B):∃c,Rs h sh sz l c/\cM S c ps:=by obtain ⟨c,k,m,e,i,j⟩:=o;exact ⟨c,i.rw f,j.A3 g⟩
theorem VJ (ok:gV R) (o:bM sh sz R l ps h B) {v:sh.T} {p:β} {f:List Nat} (e:R v p h f) (nd:(B++f).Nodup) {x:Sl} (L:Rs h sh sz x [v]) (E:∀x,(be (sh.enc x)).length=sz) (J:∀x,iV (be (sh.enc x))=true)
  {zero:List Value} {bytes:Nat} (N:zero.length=sz) (hb:ps.length+1<=140737488355328/\(ps.length+1)*bytes<=140737488355328) {K:Sl->Hp->Prop}
  (G:∀j d n,bM sh sz R j (ps++ [p]) d n->n.Nodup->(∀b k,h b=some k->b∉B->d b=some k)->(∀c∈n,c∈B++f\/h c=none)->K j d):fR sz bytes zero l x K h:=by
 have H:=o.len;obtain ⟨y,z,g,i,t,w⟩:=o;have M:y.length=ps.length:=by rw [<-H];exact t.1.symm
 have O:=w.known ok;have P:=ok.known e;refine wv t L E J N (by rw [M];exact hb) λj d q u m=> ?_;rw [i] at nd;have X:=nd;rw [List.append_assoc,List.nodup_append] at nd;obtain ⟨W,S,U⟩:=nd;have r:∀c∈g++f,c∉z:=λc hc hb=>U c hb c hc rfl;have Q:∀c∈g++f,h c≠none:=λc hc=>by
  rcases List.mem_append.1 hc with hc | hc
  ·exact O c hc
  ·exact P c hc
 have s:∀c∈g++f,d c=h c:=BV m Q r;have V:=(w.same ok λc hc=>s c (List.mem_append_left _ hc)).snoc (ok.same e λc hc=>s c (List.mem_append_right _ hc));have F:∀c∈q++(g++f),c∈B++f\/h c=none:=λc hc=>by
  rcases List.mem_append.1 hc with hc | hc
  ·rcases m.from_ c hc with hc | hc
   ·exact .inl (by rw [i];simp [hc])
   ·exact .inr hc
  ·refine .inl ?_;rw [i,List.append_assoc];exact List.mem_append_right _ hc
 refine G j d (q++(g++f)) ⟨y++ [v],q,g++f,rfl,u,V⟩ ?_ (λb k hb I=>m.cF b k hb λD=>I (by rw [i];simp [D])) F;rw [List.nodup_append];refine ⟨u.nodup,S,λa A b hb C=> ?_⟩;subst C;rcases m.from_ a A with hc | hc
 ·exact r a hb hc
 grind
end
abbrev yv (l:Sl) (a:List Int) (h:Hp) (B:List Nat):Prop:=bM (ab .i64) 1 (fy Eq) l a h B
abbrev Lu (l:Sl) (a:List Int) (h:Hp) (B:List Nat):Prop:=bM (ab .u64) 1 (fy Eq) l a h B
abbrev E1 (l:Sl) (a:List dP) (h:Hp) (B:List Nat):Prop:=bM bJ 5 (fy λx p=>bL x=p) l a h B
def pW (q:ba) (p:iX) (h:Hp) (B:List Nat):Prop:=q.Part=p.part/\E1 q.Code p.code h B
abbrev JC (l:Sl) (a:List iX) (h:Hp) (B:List Nat):Prop:=bM bA 2 pW l a h B
def pU (x:bw) (p:bq) (h:Hp) (B:List Nat):Prop:=
 ∃a b,B=a++b/\yv x.ff p.values h a/\bM aC 2 (fy λx p=>AS x=p) x.cQ p.waiters h b/\x.gD=p.taken/\x.ee=p.dropped
def kU (x:aR) (p:ai) (h:Hp) (B:List Nat):Prop:=
 bM bd 4 pU x.gB p.af h B/\x.State=p.state/\x.PC=p.pc/\ [x.bV,x.bW,x.bX,x.bY,x.bZ,x.b9,x.cc,x.cd]=p.br/\x.Cursor=p.ae/\x.Timer=p.timer/\x.gA=p.bF/\x.j9=p.cn
def rT (x:bx) (p:cY) (h:Hp) (B:List Nat):Prop:=
 ∃a b c,B=a++(b++c)/\bM cR 3 (fy λx p=>qJ x=p) x.Log p.log h a/\yv x.dm p.az h b/\bM ak 1 yv x.eN p.al h c/\x.Cursor=p.ae/\x.j8=p.lost/\x.cS=p.forbidden
def q8 (x:aL) (p:fz) (h:Hp) (B:List Nat):Prop:=
 ∃a b,B=a++b/\bM aY 6 rT x.cq p.parts h a/\bM aE 15 kU x.aO p.procs h b/\x.fE=p.tick
def AX (x:ay) (c:aV) (h:Hp) (B:List Nat):Prop:=
 ∃a b d,B=a++(b++d)/\Lu x.bn c.labels h a/\yv x.Table c.table h b/\JC x.aO c.procs h d/\x.Fuel=c.fuel/\x.iO=c.lane/\x.cf=c.an/\x.Log=c.log
theorem kK :gV yv:=bM.ok (fy.ok _)
theorem uL :gV Lu:=bM.ok (fy.ok _)
theorem uK :gV E1:=bM.ok (fy.ok _)
theorem vL :gV pW:=⟨λo a=>⟨o.1,uK.same o.2 a⟩,λo=>uK.known o.2⟩
theorem mF :gV JC:=bM.ok vL
theorem oZ {a b:List Nat} {c:Nat} (h:c∈a):c∈a++b:=List.mem_append_left _ h
theorem lZ {b a:List Nat} {c:Nat} (h:c∈a):c∈b++a:=List.mem_append_right _ h
theorem rN :gV pU where
 same:=by rintro a b h k B ⟨f,g,rfl,d,e,j⟩ i;exact ⟨f,g,rfl,kK.same d λc hc=>i c (oZ hc),(bM.ok (fy.ok _)).same e λc hc=>i c (lZ hc),j⟩
 known:=by
  rintro a b h B ⟨f,g,rfl,d,e,j⟩ c hc;rcases List.mem_append.1 hc with hc | hc
  ·exact kK.known d c hc
  ·exact (bM.ok (fy.ok _)).known e c hc
theorem vc :gV kU:=⟨λo a=>⟨(bM.ok rN).same o.1 a,o.2⟩,λo=>(bM.ok rN).known o.1⟩
theorem vM :gV rT where
 same:=by rintro a b h m B ⟨i,j,k,rfl,e,f,g,l⟩ d;exact ⟨i,j,k,rfl,(bM.ok (fy.ok _)).same e λc hc=>d c (oZ hc),kK.same f λc hc=>d c (lZ (oZ hc)),(bM.ok kK).same g λc hc=>d c (lZ (lZ hc)),l⟩
 known:=by
  rintro a b h B ⟨i,j,k,rfl,e,f,g,l⟩ c hc;rcases List.mem_append.1 hc with hc | hc
  ·exact (bM.ok (fy.ok _)).known e c hc
  ·rcases List.mem_append.1 hc with hc | hc
   ·exact kK.known f c hc
   ·exact (bM.ok kK).known g c hc
theorem X3 :gV q8 where
 same:=by rintro a b h k B ⟨f,g,rfl,d,e,j⟩ i;exact ⟨f,g,rfl,(bM.ok vM).same d λc hc=>i c (oZ hc),(bM.ok vc).same e λc hc=>i c (lZ hc),j⟩
 known:=by
  rintro a b h B ⟨f,g,rfl,d,e,j⟩ c hc;rcases List.mem_append.1 hc with hc | hc
  ·exact (bM.ok vM).known d c hc
  ·exact (bM.ok vc).known e c hc
theorem FB :gV AX where
 same:=by rintro a b h m B ⟨i,j,k,rfl,e,f,g,l⟩ d;exact ⟨i,j,k,rfl,uL.same e λc hc=>d c (oZ hc),kK.same f λc hc=>d c (lZ (oZ hc)),mF.same g λc hc=>d c (lZ (lZ hc)),l⟩
 known:=by
  rintro a b h B ⟨i,j,k,rfl,e,f,g,l⟩ c hc;rcases List.mem_append.1 hc with hc | hc
  ·exact uL.known e c hc
  ·rcases List.mem_append.1 hc with hc | hc
   ·exact kK.known f c hc
   ·exact mF.known g c hc
theorem B4 {a:Type}:∀ {l m:List a},cM Eq l m->l=m
 | [],[],_=>rfl
 | _::_,_::_,h=>by rw [h.1,B4 h.2]
 | [],_::_,h=>h.elim
 | _::_,[],h=>h.elim
theorem xW {a b:Type} {f:a->b}:∀ {l:List a} {m:List b},cM (λx p=>f x=p) l m->l.map f=m
 | [],[],_=>rfl
 | _::_,_::_,h=>by rw [List.map_cons,h.1,xW h.2]
 | [],_::_,h=>h.elim
 | _::_,[],h=>h.elim
section
variable {h:Hp} {B:List Nat}
theorem yv.rd {l:Sl} {c:List Int} (o:yv l c h B):Is h l c:=by obtain ⟨f,d,e⟩:=bM.rows (S:=Eq) (λ_=>rfl) (λa b B o=>o.2) o;rw [<-B4 e];exact d
theorem Lu.rd {l:Sl} {c:List Int} (o:Lu l c h B):Us h l c:=by obtain ⟨f,d,e⟩:=bM.rows (S:=Eq) (λ_=>rfl) (λa b B o=>o.2) o;rw [<-B4 e];exact d
theorem pW.rd {q:ba} {p:iX} (o:pW q p h B):jo h q p:=by obtain ⟨e,o⟩:=o;obtain ⟨f,c,d⟩:=bM.rows (S:=λx p=>bL x=p) (λ_=>rfl) (λa b B o=>o.2) o;exact ⟨e,f,c,xW d⟩
theorem AX.rd {x:ay} {c:aV} (o:AX x c h B):dN h x c:=by obtain ⟨i,j,k,_,e,f,g,f1,f2,f3,d⟩:=o;exact ⟨e.rd,f.rd,f1,f2,f3,d,bM.rows (λ_=>rfl) (λa b B o=>o.rd) g⟩
theorem pU.rd {x:bw} {p:bq} (o:pU x p h B):gO h x p:=by obtain ⟨i,j,_,e,f,f1,f2⟩:=o;obtain ⟨g,c,d⟩:=bM.rows (S:=λx p=>AS x=p) (λ_=>rfl) (λa b B o=>o.2) f;exact ⟨e.rd,⟨g,c,xW d⟩,f1,f2⟩
theorem kU.rd {x:aR} {p:ai} (o:kU x p h B):cN h x p:=by obtain ⟨g,f1,f2,f3,c,d,e,f⟩:=o;exact ⟨f1,f2,f3,c,d,e,f,bM.rows (λ_=>rfl) (λa b B o=>o.rd) g⟩
theorem rT.rd {x:bx} {p:cY} (o:rT x p h B):fe h x p:=by obtain ⟨j,k,l,_,e,f,g,f1,f2,f3⟩:=o;obtain ⟨i,c,d⟩:=bM.rows (S:=λx p=>qJ x=p) (λ_=>rfl) (λa b B o=>o.2) e;exact ⟨f1,⟨i,c,xW d⟩,f2,f3,f.rd,bM.rows (λ_=>rfl) (λa b B o=>yv.rd o) g⟩
theorem q8.rd {x:aL} {p:fz} (o:q8 x p h B):db h x p:=by obtain ⟨e,f,_,c,d,f1⟩:=o;exact ⟨f1,bM.rows (λ_=>rfl) (λa b B o=>o.rd) c,bM.rows (λ_=>rfl) (λa b B o=>o.rd) d⟩
end
def jl {d f:Type} {R:d->f->Hp->List Nat->Prop} (ok:gV R) (v:d) (p:f):dB where
 R k F:=∃B,R v p k B/\B.Nodup/\∀b,F b↔b∈B
 same:=λ⟨B,h,n,e⟩ g=>⟨B,ok.same h λc a=>g c ((e c).2 a),n,e⟩
 known:=λ⟨B,h,n,e⟩ c a=>ok.known h c ((e c).1 a)
def eM {d:Type} (sz:Nat) (enc:d->List Value) (l:Sl) (g:List d):dB where
 R k F:=∃B,df k sz enc l g B/\∀b,F b↔b∈B
 same:=λ⟨B,h,e⟩ f=>⟨B,h.same λc a=>f c ((e c).2 a),e⟩
 known:=λ⟨B,h,e⟩ c a=>h.known c ((e c).1 a)
section
variable {h0 k:Hp} {α β:Type} {R:α->β->Hp->List Nat->Prop} {ok:gV R}
theorem Has.as_ {v:α} {p:β} (o:Has h0 (jl ok v p) k):∃B,R v p k B/\B.Nodup/\∀b∈B,h0 b=none:=by obtain ⟨_,F,⟨B,h,n,e⟩,a⟩:=o;grind
theorem Has.ru {v:α} {p:β} {B:List Nat} (c:h0<=k) (h:R v p k B) (n:B.Nodup) (a:∀b∈B,h0 b=none):Has h0 (jl ok v p) k:=⟨c,(· ∈B),⟨B,h,n,λ_=>Iff.rfl⟩,a⟩
theorem Has.uN {sz:Nat} {enc:α->List Value} {l:Sl} {a:List α} (o:Has h0 (eM sz enc l a) k):Has h0 (dD sz enc l a) k:=by obtain ⟨d,F,⟨B,h,e⟩,c⟩:=o;exact Has.Bm h d λb hb=>c b ((e b).2 hb)
theorem Eb {b c:Type} {S:b->c->Prop} {h:Hp}:∀ {l:List b} {m:List c},cM S l m->nH (fy S) l m h []
 | [],[],_=>rfl
 | _::_,_::_,a=>⟨[],[],rfl,⟨rfl,a.1⟩,Eb a.2⟩
 | [],_::_,a=>a.elim
 | _::_,[],a=>a.elim
theorem Has.two {i j:Type} {f:i->j->Hp->List Nat->Prop} {l:gV f} {v:α} {p:β} {h:i} {g:j} (o:Has h0 ((jl ok v p).star (jl l h g)) k):
  ∃B c,R v p k B/\f h g k c/\(B++c).Nodup/\∀b∈B++c,h0 b=none:=by
 obtain ⟨_,F,⟨m,q,e,d,⟨B,a,n,ea⟩,⟨c,b,s,eb⟩⟩,r⟩:=o;grind
theorem Has.row {j:Type} {sh:Shape} {sz:Nat} {Q:sh.T->j->Hp->List Nat->Prop} {okQ:gV Q} {l:Sl} {g:List j} {v:sh.T} {p:j} {cs zero:List Value} {bytes:Nat} {K:Sl->Hp->Prop} (o:Has h0 ((jl (bM.ok (sh:=sh) (sz:=sz) okQ) l g).star (jl okQ v p)) k)
  (t:cs=be (sh.enc v)) (i:∀x,(be (sh.enc x)).length=sz) (C:∀x,iV (be (sh.enc x))=true) (D:zero.length=sz) (hb:g.length+1<=140737488355328/\(g.length+1)*bytes<=140737488355328)
  (y:∀f d,Has h0 (jl (bM.ok (sh:=sh) (sz:=sz) okQ) f (g++ [p])) d->K f d):bD cs (λa m=>fR sz bytes zero l ⟨some a,1,1⟩ K m) k:=by
 refine gI (xs:=[v]) (sz:=sz) (enc:=λx=>be (sh.enc x)) (by rw [t];simp) i λa m A n=> ?_;have o:=o.grow A;obtain ⟨B,G,r,e,nd,u⟩:=o.two;refine VJ okQ r e nd (n.iq i) i C D hb λf d H F E z w=> ?_;refine y f d (Has.ru (λb q eb=>z b q (o.1 b q eb) λhb=> ?_) F E λc s=> ?_)
 ·grind
 ·rcases w c s with h | h
  ·exact u c h
  ·exact sK o.1 h
theorem Has.nc {a:Type} {sh:Shape} {sz:Nat} {Q:sh.T->a->Hp->List Nat->Prop} {okQ:gV Q} (b:h0<=k):Has h0 (jl (bM.ok (sh:=sh) (sz:=sz) okQ) (⟨none,0,0⟩:Sl) ([]:List a)) k:=
 Has.ru b bM.nil .nil λ_ h=>by cases h
theorem Has.jf {d:Type} {sh:Shape} {sz:Nat} {enc:d->List Value} {S:sh.T->d->Prop} {f:d->sh.T} {l:Sl} {c:List d} (o:Has h0 (eM sz enc l c) k) (n:∀x,enc x=be (sh.enc (f x))) (j:∀x,S (f x) x):
  Has h0 (jl (bM.ok (sh:=sh) (sz:=sz) (fy.ok S)) l c) k:=by
 obtain ⟨q,F,⟨B,⟨s,h,t⟩,e⟩,p⟩:=o;have u:c.flatMap enc=(c.map f).flatMap λx=>be (sh.enc x):=by rw [List.flatMap_map];congr 1;exact funext n
 have i:∀m:List d,cM S (m.map f) m:=λm=>by
  induction m with
  | nil=>trivial
  | cons a m r=>exact ⟨j a,r⟩
 have g:df k sz (λx=>be (sh.enc x)) l (c.map f) B:=⟨by grind,h,by grind⟩;refine Has.ru q ⟨c.map f,B,[],by simp,g,Eb (i c)⟩ g.nodup λb hb=>p b ((e b).2 hb)
theorem qN {P:Program} {sz:Nat} {enc:α->List Value} {s:Sl} {xs:List α} {p B bytes:Nat} {zero:List Value} {x y:Operand} {Q:Sl->Hp->Prop} (w:P.underlying p=some (.slice B)) (r:Rw k sz enc s xs) (G:0<sz) (j:∀x,(enc x).length=sz) (u:∀x,iV (enc x)=true) (z:zero.length=sz)
  (hb:xs.length<=140737488355328/\xs.length*bytes<=140737488355328) (l:∀f d,k<=d->Has k (eM sz enc f xs) d->Q f d):
  fK none P (cE .eql p x y s.v (.slice none 0 0)) aQ k λx=>(if x=true then Q ⟨none,0,0⟩ k else bD [] (λa q=>fR sz bytes zero ⟨(some a),0,0⟩ s (λr t=>Q r t) q) k):=by
 refine ⟨s.base.isNone,Mx w s,?_⟩;cases D:s.base with
 | none=>
  rw [if_pos (show (none:Option Addr).isNone=true from rfl)];have:xs=[]:=by
   rcases r.2.2 with e | ⟨a,C,_⟩
   ·exact List.length_eq_zero_iff.1 ((Nat.mul_eq_zero.1 e).resolve_right (by omega))
   grind
  subst this;exact l _ k (Hp.le_refl k) ⟨Hp.le_refl k,λ_=>False,⟨[],⟨rfl,Nat.le_refl _,.inl ⟨rfl,rfl,rfl⟩⟩,λb=>by simp⟩,λ_ h=>h.elim⟩
 | some a=>
  rw [if_neg (by simp)];refine Bk (xs:=([]:List α)) (enc:=enc) (sz:=sz) rfl j λb H E n I A=> ?_;refine wv A (Rw.mono n r) j u z (by simpa using hb) λf d i o m=> ?_;have g:=m.le (h0:=k) n λc F=>by grind
  exact l f d g.1 ⟨g.1,(· ∈i),⟨i,by simpa using o,λ_=>Iff.rfl⟩,g.2⟩
end
abbrev sZ (l:Sl) (a:List Int):dB:=jl kK l a
abbrev ML (l:Sl) (a:List ly):dB:=jl (bM.ok (sh:=aC) (sz:=2) (fy.ok λx p=>AS x=p)) l a
section
variable {h0 k:Hp} {q:Addr} {room:Int} {l:bq}
theorem K5 {Q:bw->Hp->Prop} (o:Has h0 (du q room l) k) (hv:l.values.length<=100) (D:l.waiters.length<=100) (z:∀r g,Has h0 ((du q room l).star (jl rN r l)) g->Q r g):UL prog (some q) Q k:=by
 unfold UL;obtain ⟨x,u,c,d,o⟩:=o.bz;refine aP (o.left.ld (shf:=ak) x.values rfl ?_);refine aP (o.left.ld (shf:=ak) x.waiters rfl ?_);refine aP (o.left.ld (shf:=ab .i64) x.taken rfl ?_);refine aP (o.left.ld (shf:=ab .i64) x.dropped rfl ?_);refine OX ?_;unfold LL;refine qN (ah.aH 184 qF rfl) (o.right.left.iq (λ_=>rfl)) (by decide) (λ_=>rfl) (λ_=>rfl) rfl ⟨by omega,by omega⟩ λj h w A=> ?_;have a:=o.grow w;refine ⟨⟨a.left.eA (n:=1) rfl,a.left.eA (n:=1) rfl,a.left.eA (n:=1) rfl,trivial⟩,?_⟩;refine Od ?_;unfold LH;refine qN (ah.aH 185 pf rfl) (a.right.right.iq (λ_=>rfl)) (by decide) (λ_=>rfl) (λ_=>rfl) rfl ⟨by omega,by omega⟩ λm b y C=> ?_;have i:=a.grow y;refine ⟨⟨i.left.eA (n:=1) rfl,i.left.eA (n:=1) rfl,trivial⟩,?_⟩;refine z _ b ?_;have s:Has k (sZ j l.values) h:=A.jf (f:=λx=>x) (λ_=>rfl) λ_=>rfl;have t:Has h (ML m l.waiters) b:=C.jf (f:=nt) (λ_=>rfl) λ_=>rfl;have both:=s.beside t;have lane:Has k (jl rN (⟨j,m,x.taken,x.dropped⟩:bw) l) b:=by obtain ⟨B,p,r,e,nd,v⟩:=both.two;exact Has.ru both.le ⟨B,p,rfl,r,e,c,d⟩ nd v
 exact (Has.jx o u c d).beside lane
end
section
variable {h0 k:Hp} {q:Addr} {room:Int} {l:bq}
theorem VL {s:Sl} {b:List ly} {Q:Bool->Hp->Prop} (r:Rw k 2 eW s b) (O:b.length<=1000000) (B:(b.map (·.proc)).Nodup) (S:∀c,k<=c->Q false c):BP prog s Q k:=by
 unfold BP;have P:=r.1;intro m u;have J:k<=k.set m (.map #[] 0):=lP u;refine aA.intro (λi c=>k<=c/\0<=i/\i<=(b.length:Int)/\∃f:List (Int×Int),fV c m .i64 (ab .i64).enc f/\(∀a,gT a f≠none->a∈(b.take i.toNat).map (·.proc))) (λi _=>(b.length-i).toNat)
  ⟨J,by omega,by omega,[],⟨[],0,mI,rfl⟩,λa h=>absurd rfl h⟩ ?_
 rintro i c ⟨p,N,T,f,A,t⟩;by_cases F:i<(b.length:Int)
 ·rw [if_pos (decide_eq_true (by omega))];have rs:Rs c aC 2 s (b.map nt):=(r.mono p).map (enc:=λx=>be (aC.enc x));refine rs.get (λ_=>rfl) (by omega) N (by rw [List.length_map];exact F) λ(x:bf) d=> ?_;rw [List.getElem?_map] at d;cases g:b[i.toNat]? with
  | none=>rw [g] at d;cases d
  | some w=>
   rw [g] at d;have d:x=nt w:=by simpa using d.symm
   subst d;have L:gT w.proc f=none:=by
    cases e:gT w.proc f with
    | none=>rfl
    | some v=>
     have D:=t w.proc (by rw [e];simp);obtain ⟨E,G⟩:=List.getElem?_eq_some_iff.1 g;have H:(b.map (·.proc))=(b.take i.toNat).map (·.proc)++(w.proc::(b.drop (i.toNat+1)).map (·.proc)):=by
      have:b=b.take i.toNat++w::b.drop (i.toNat+1):=by rw [<-G,<-List.drop_eq_getElem_cons E,List.take_append_drop]
      conv=>lhs;rw [this]
      simp
     rw [H] at B;exact absurd rfl ((List.nodup_append.1 B).2.2 _ D _ (List.mem_cons_self ..))
   refine xU (sh:=ab .i64) (z:=(0:Int)) A rfl (λ_=> ?_) λv hv=>by rw [show (nt w).da=w.proc from rfl,L] at hv;cases hv
   rw [wrap64 (by omega) (by omega)];refine KW (ev:=(ab .i64).enc) (v:=(1:Int)) A λo R y=> ?_;have K:k m=none:=u;have I:k<=c.set m o:=Hi p K;have n:gT w.proc (jU w.proc (1:Int) f)=some 1:=by rw [xS,if_pos rfl]
   refine xU (sh:=ab .i64) (z:=(0:Int)) y rfl (λhv=>by rw [show (nt w).da=w.proc from rfl,n] at hv;cases hv) λv hv=> ?_;have M:v=1:=by rw [show (nt w).da=w.proc from rfl,n] at hv;exact (Option.some.inj hv).symm
   subst M;dsimp only;rw [if_neg (by decide),wrap64 (by omega) (by omega)];refine ⟨⟨I,by omega,by omega,_,y,λa j=> ?_⟩,by omega⟩;have C:(i+1).toNat=i.toNat+1:=by omega
   rw [C,List.take_add_one,g];rw [xS] at j;by_cases e:a=(nt w).da
   ·rw [e];simp [nt]
   ·rw [if_neg e] at j;have:=t a j;simp only [List.map_append,List.mem_append];exact .inl this
 grind
theorem X4 {Q:Option Addr->Int->Hp->Prop} (d:1<=room/\room<=64) (c:∀p a,k<=a->Has k (dq CX p ⟨room,⟨none,0,0⟩,⟨none,0,0⟩,0,0⟩) a->Q (some p) 0 a):CR prog room Q k:=by unfold CR;refine Wz ?_;unfold Mn;refine aK ?_;rw [show (decide (room>=1)&&decide (room<=64))=true by simp;omega];dsimp only;rw [if_neg (by decide)];exact vR (sh:=CX) ⟨room,⟨none,0,0⟩,⟨none,0,0⟩,0,0⟩ rfl λp a b o=>c p a b o
structure MF (room:Int) (l:bq):Prop where
 len:(l.values.length:Int)<=room
 full:l.waiters≠ []->(l.values.length:Int)=room
 taken:jB l.taken
 dropped:jB l.dropped
 once:(l.waiters.map (·.proc)).Nodup
 kf:l.waiters.length<=100
theorem Hs {n:Int} {Q:Bool->Hp->Prop} (h:jB n) (a:Q true k):Mn prog n 0 65535 Q k:=by
 unfold Mn;refine aK ?_;have:(decide (n>=0)&&decide (n<=65535))=true:=by unfold jB at h;simp;omega
 grind
theorem X5 {x:bw} {Q:Option Addr->Int->Hp->Prop} (g:1<=room/\room<=64) (a:gO k x l) (v:MF room l) (C:∀p f,k<=f->Has k (du p room l) f->Q (some p) 0 f):CO prog room x Q k:=by
 unfold CO;refine ZI (X4 g λp r h s=> ?_);have hv:=a.values.1;obtain ⟨u,n,D⟩:=a.waiters;have m:u.length=l.waiters.length:=by grind
 have R:=n.1;have P:=v.len;have N:=v.kf;rw [if_neg (by decide)];have w:(decide (((x.cQ.len:Nat):Int)>(0:Int))&&decide (((x.ff.len:Nat):Int)<room))=false:=by
  by_cases e:l.waiters=[]
  ·grind
  ·have:=v.full e;grind
 refine aK (aK ?_);rw [w,Bool.or_false,show decide (((x.ff.len:Nat):Int)>room)=false by simp;omega];refine ⟨λ_=>Wz (Hs (by rw [a.taken];exact v.taken) ?_),λe=>by cases e⟩;refine aK ⟨λ_=>Wz (Hs (by rw [a.dropped];exact v.dropped) ?_),λe=>by cases e⟩;refine aK ⟨λ_=>Wu ?_,λe=>by cases e⟩;have j:Rw r 2 eW x.cQ l.waiters:=by have A:Rw r 2 (λx=>be (aC.enc x)) x.cQ u:=Rw.mono h n;obtain ⟨y,z⟩:=A;refine ⟨by rw [y,m],?_⟩;rw [<-m,<-D,List.flatMap_map];exact z
 refine VL j (by omega) v.once λS c=> ?_;refine aK ?_;rw [if_neg (by decide)];refine OX ?_;unfold LL;have hb:=g.2;refine KR (ah.aH 184 qF rfl) (xs:=l.values) (enc:=fw) (Rw.mono (Hp.le_trans h c) a.values) (by decide) (λ_=>rfl) (λ_=>rfl) rfl ⟨by omega,by omega⟩ λb T i G=> ?_;refine ⟨⟨trivial,trivial⟩,?_⟩;refine Od ?_;unfold LH;refine KR (ah.aH 185 pf rfl) (xs:=l.waiters) (Rw.mono (Hp.le_trans c i) j) (by decide) (λ_=>rfl) (λ_=>rfl) rfl ⟨by omega,by omega⟩ λd E B H=> ?_;have o:=(s.grow (Hp.le_trans c (Hp.le_trans i B)));have o:Has k ((dq CX p ⟨room,⟨none,0,0⟩,⟨none,0,0⟩,0,0⟩).star ((dD 1 fw b l.values).star (dD 2 eW d l.waiters))) E:=(s.grow c).grow (Hp.le_refl _) |>.beside (G.beside H)
 obtain ⟨O,_,I,put⟩:=o.f1;refine aP (I.st (⟨room,b,⟨none,0,0⟩,0,0⟩:dv) (show (2:Nat)<=5 by decide) rfl λU J=> ?_);refine aP (J.st (⟨room,b,d,0,0⟩:dv) (show (3:Nat)<=5 by decide) rfl λV K=> ?_);refine aP (K.st (⟨room,b,d,x.gD,0⟩:dv) (show (4:Nat)<=5 by decide) rfl λW L=> ?_);refine ⟨⟨trivial,trivial⟩,?_⟩;refine aP (L.st (⟨room,b,d,x.gD,x.ee⟩:dv) (show (5:Nat)<=5 by decide) rfl λF M=> ?_);have t:=put _ _ M;exact C p F t.le (Has.jx t rfl a.taken a.dropped)
end
abbrev eP :Addr->List Value:=λa=> [.pointer (some a)]
def a0 :Addr:=⟨0,0,none⟩
def kZ :bq:=⟨[],[],0,0⟩
def vN (b:List Addr) (room:Int) (a:List bq):dB:=dB.first (λi=>du (b.getD i a0) room (a.getD i kZ)) a.length
def gU (p:Addr) (x:dg) (a:List Addr) (room:Int) (b:List bq):dB:=(dq Mr p x).star ((dD 1 eP x.af a).star (vN a room b))
def dO (p:Addr) (room:Int) (a:List bq) (ae:Int):dB:=
 .some_ λx:dg=>.some_ λb:List Addr=>(gU p x b room a).star (.fact (x.ae=ae/\b.length=a.length))
section
variable {h0 k:Hp} {p:Addr} {room ae:Int} {c:List bq} {x:dg} {g:List Addr}
theorem mK {b:Type} {l:List b} {i:Nat} {a d:b} (h:l[i]? =some a):l.getD i d=a:=by grind
theorem Has.nj (o:Has h0 (dO p room c ae) k):∃x g,x.ae=ae/\g.length=c.length/\Has h0 (gU p x g room c) k:=by obtain ⟨x,o⟩:=Has.ex.1 o;obtain ⟨g,o⟩:=Has.ex.1 o;obtain ⟨o,a,b⟩:=o.jw;grind
theorem Has.jX (o:Has h0 (gU p x g room c) k) (a:x.ae=ae) (b:g.length=c.length):Has h0 (dO p room c ae) k:=Has.ex.2 ⟨x,Has.ex.2 ⟨g,o.fu ⟨a,b⟩⟩⟩
theorem Has.mZ {i:Nat} {l:bq} (o:Has h0 (gU p x g room c) k) (f:c[i]? =some l):∃a,h0<=a/\Has a (du (g.getD i a0) room l) k/\∀d b,Has a (du (g.getD i a0) room d) b->Has h0 (gU p x g room (c.set i d)) b:=by
 obtain ⟨a,a1,s,put⟩:=o.f3;have n:i<c.length:=(List.getElem?_eq_some_iff.1 f).1;obtain ⟨m,a2,h,_,t⟩:=s.one n;rw [mK f] at h;refine ⟨m,Hp.le_trans a1 a2,h,λd b r=>put _ _ ?_⟩;have:=t _ _ r;unfold vN;rw [List.length_set];refine cast (congrArg (λA=>Has a A b) (sI λj q=> ?_)) this;by_cases e:j=i
 ·subst e;rw [jA,mK (List.getElem?_set_self q)]
 ·rw [jE e];grind
theorem Has.ptr (o:Has h0 (gU p x g room c) k) (a:g.length=c.length) {i:Nat} (b:i<c.length) {K:Option Addr->Prop} (d:K (some (g.getD i a0))):bB x.af.base x.af.len (i:Int)/\aN none aj k (sat x.af.base 1 (i:Int)) K:=by have rs:Rs k aj 1 x.af (g.map some):=(o.right.left.iq (λ_=>rfl)).map (f:=some) (enc:=λx=>be (aj.enc x));refine rs.get (λ_=>rfl) (by omega) (by omega) (by rw [List.length_map];omega) λ(y:Option Addr) e=> ?_;grind
theorem Ec {n:Int} {Q:Bool->Hp->Prop} (o:Has h0 (dO p room c ae) k) (d:0<=n/\n<c.length) (e:Q true k):UR prog (some p) n Q k:=by obtain ⟨x,g,a,b,o⟩:=o.nj;unfold UR;have f:=o.right.left.gr;refine aP ((Has.left o).Bg (shf:=ak) x.af rfl ?_);refine aK ?_;grind
theorem Has.uF {i:Nat} {l:bq} (o:Has h0 (dO p room c ae) k) (h:c[i]? =some l):∃(x:dg) (a:Addr) (b:Hp),(∀ {K:Sl->Prop},K x.af->aN none ak k (p.add 0) K)/\(∀ {K:Option Addr->Prop},K (some a)->bB x.af.base x.af.len (i:Int)/\aN none aj k (sat x.af.base 1 (i:Int)) K)/\h0<=b/\Has b (du a room l) k/\
  ∀e d,Has b (du a room e) d->Has h0 (dO p room (c.set i e) ae) d:=by
 obtain ⟨x,g,j,m,o⟩:=o.nj;obtain ⟨b,a1,q,put⟩:=o.mZ h;exact ⟨x,_,b,λf=>(Has.left o).ld (shf:=ak) x.af rfl f,λf=>o.ptr m (List.getElem?_eq_some_iff.1 h).1 f,a1,q,λe d n=>(put e d n).jX j (by grind)⟩
theorem X6 {i:Nat} {l:bq} {v:Int} {Q:Int->Hp->Prop} (o:Has h0 (dO p room c ae) k) (d:c[i]? =some l) (j:room<=64) (e:room<=(l.values.length:Int)->Q 19 k)
  (h:∀b,¬room<=(l.values.length:Int)->Has h0 (dO p room (c.set i (rn v l)) ae) b->Q 0 b):Mg prog (some p) (i:Int) v Q k:=by
 unfold Mg;refine SL (Ec o ⟨by omega,by have:=(List.getElem?_eq_some_iff.1 d).1;omega⟩ ?_);obtain ⟨x,a,r,ld,m,_,q,put⟩:=o.uF d;rw [if_neg (by decide)];refine aP (ld (m ?_));exact Qh (XU q j e λb f n=>h b f (put _ _ n))
theorem VN {i:Nat} {l:bq} {Q:Hp->Prop} (o:Has h0 (dO p room c ae) k) (d:c[i]? =some l) (e:jB l.dropped) (f:∀b,Has h0 (dO p room (c.set i (jc l)) ae) b->Q b):L6 prog (some p) (i:Int) Q k:=by unfold L6;refine SL (Ec o ⟨by omega,by have:=(List.getElem?_eq_some_iff.1 d).1;omega⟩ ?_);obtain ⟨x,a,n,ld,h,_,m,put⟩:=o.uF d;rw [if_pos rfl];refine aP (ld (h ?_));exact Pm (Vx m e λb j=>f b (put _ _ j))
theorem xX {b:Type} {f:b->b} {a:List b} {t:Nat} {y:b} (h:a[t]? =some y):((a.take t).map f++a.drop t).set t (f y)=(a.take (t+1)).map f++a.drop (t+1):=by
 obtain ⟨d,i⟩:=List.getElem?_eq_some_iff.1 h;have j:((a.take t).map f).length=t:=by rw [List.length_map,List.length_take];omega
 have e:a.drop t=y::a.drop (t+1):=by rw [List.drop_eq_getElem_cons d,i]
 rw [e,List.set_append_right _ _ (by omega),j,Nat.sub_self,List.set_cons_zero,List.take_add_one,h];simp
theorem Ed {a:Type} {f:a->a} {b:List a} {t:Nat} {y:a} (h:b[t]? =some y):((b.take t).map f++b.drop t)[t]? =some y:=by grind
theorem TK {w:Int} {Q:Bool->Hp->Prop} (o:Has h0 (dO p room c ae) k) (v:c.length<=1000000/\∀l∈c,l.waiters.length<=100) (u:∀b a,Has h0 (dO p room (c.map (qV w)) ae) a->Q b a):UU prog (some p) w Q k:=by
 obtain ⟨x,g,m,D,o⟩:=o.nj;unfold UU;have F:=o.right.left.gr;refine aP ((Has.left o).ld (shf:=ak) x.af rfl ?_);refine dC.intro (λ(_:Bool) (i:Int) a=>0<=i/\i<=(c.length:Int)/\Has h0 (gU p x g room ((c.take i.toNat).map (qV w)++c.drop i.toNat)) a) (λ_ i _=>(c.length-i).toNat) ⟨by omega,by omega,by simpa using o⟩ ?_;rintro b i a ⟨G,H,o⟩;by_cases s:i<(c.length:Int)
 ·rw [if_pos (decide_eq_true (by omega))];have t:i.toNat<c.length:=by omega
  have d:=List.getElem?_eq_getElem t;generalize c[i.toNat]=l at d;have n:g.length=((c.take i.toNat).map (qV w)++c.drop i.toNat).length:=by grind
  obtain ⟨E,_,B,put⟩:=o.mZ (Ed d);have h:=o.ptr n (i:=i.toNat) (by omega) (K:=λy=>y=some (g.getD i.toNat a0)) rfl;have f:((i.toNat:Nat):Int)=i:=by omega
  rw [f] at h;refine ⟨λr q=>0<=i/\i<(c.length:Int)/\Has h0 (gU p x g room ((c.take (i.toNat+1)).map (qV w)++c.drop (i.toNat+1))) q,⟨h.1,?_⟩,?_⟩
  ·obtain ⟨y,z,rfl⟩:=h.2;refine ⟨_,z,?_⟩;refine OI (Tv B (v.2 l (List.mem_of_getElem? d)) λj A C=> ?_);have o:=put _ _ C;rw [xX d] at o;grind
  ·rintro j A ⟨_,_,o⟩;rw [wrap64 (by omega) (by omega)];grind
 ·rw [if_neg (λe=>s (by grind))];refine u b a ?_;have f:i.toNat=c.length:=by omega
  rw [f,List.take_length,List.drop_length,List.append_nil] at o;exact o.jX m (by grind)
end
section
variable {h0 k:Hp} {p:Addr} {room ae:Int} {c:List bq} {x:dg} {d:List Addr}
theorem ye {e:Type}:∀ {l:List e} {i:Nat} {a:e},l[i]? =some a->l.set i a=l
 | [],_,_,h=>by cases h
 | b::l,0,a,h=>by cases h;rfl
 | b::l,i+1,a,h=>by rw [List.set_cons_succ,ye (by simpa using h)]
theorem VP {w:Int} {Q:Int->Hp->Prop} (o:Has h0 (dO p room c ae) k) (h:c.length<=1000000/\∀l∈c,l.waiters.length<=100/\l.values.length<=100) (G:∀l∈c,∀z∈l.waiters,z.proc≠w) (I:∀a,Has h0 (dO p room c ae) a->Q (-1) a):Vj prog (some p) w Q k:=by
 obtain ⟨x,d,A,n,o⟩:=o.nj;unfold Vj;have U:=o.right.left.gr;refine aP ((Has.left o).ld (shf:=ak) x.af rfl ?_);refine aA.intro (λ(i:Int) a=>0<=i/\i<=(c.length:Int)/\Has h0 (gU p x d room c) a) (λi _=>(c.length-i).toNat) ⟨by omega,by omega,o⟩ ?_;rintro i a ⟨W,X,o⟩;by_cases E:i<(c.length:Int)
 ·rw [if_pos (decide_eq_true (by omega))];have s:i.toNat<c.length:=by omega
  have b:=List.getElem?_eq_getElem s;generalize c[i.toNat]=l at b;have f:=List.mem_of_getElem? b;obtain ⟨R,_,O,put⟩:=o.mZ b;have C:((i.toNat:Nat):Int)=i:=by omega
  have t:=o.ptr n s (K:=λy=>y=some (d.getD i.toNat a0)) rfl;rw [C] at t;obtain ⟨D,y,m,rfl⟩:=t;refine ⟨D,_,m,?_⟩;refine zqa (K5 O (h.2 l f).2 (h.2 l f).1 λr N v=> ?_);have J:c.set i.toNat l=c:=ye b;have P:=put _ _ v.left;rw [J] at P;obtain ⟨B,F,_⟩:=v.right.as_;obtain ⟨g,u,L⟩:=(pU.rd F).waiters;have V:g.length=l.waiters.length:=by grind
  have T:=u.1;have S:=(h.2 l f).1;refine aA.intro (λ(j:Int) a=>a=N/\0<=j/\j<=(g.length:Int)) (λj _=>(g.length-j).toNat) ⟨rfl,by omega,by omega⟩ ?_;rintro j _ ⟨rfl,M,Y⟩;by_cases q:j<(g.length:Int)
  ·rw [if_pos (decide_eq_true (by omega))];refine Rs.get (sh:=aC) u (λ_=>rfl) (by omega) M q λ(y:bf) m=> ?_;have H:y.da≠w:=by
    have:AS y∈l.waiters:=by rw [<-L];exact List.mem_map_of_mem (List.mem_of_getElem? m)
    exact G l f _ this
   rw [if_neg (show ¬(y.da==w)=true by simp [H]),wrap64 (by omega) (by omega)];grind
  ·rw [if_neg (λe=>q (by have:=of_decide_eq_true e;omega)),wrap64 (by omega) (by omega)];grind
 ·rw [if_neg (λe=>E (by grind))];exact I a (o.jX A n)
theorem VR {i:Nat} {l:bq} {w v:Int} {Q:Int->Hp->Prop} (o:Has h0 (dO p room c ae) k) (h:c.length<=1000000/\∀l∈c,l.waiters.length<=100/\l.values.length<=100) (g:∀l∈c,∀z∈l.waiters,z.proc≠w) (e:c[i]? =some l) (j:room<=(l.values.length:Int))
  (m:∀b,Has h0 (dO p room (c.set i (gM w v l)) ae) b->Q 0 b):Wq prog (some p) (i:Int) w v Q k:=by
 unfold Wq;refine SL (Ec o ⟨by omega,by grind⟩ ?_);rw [if_neg (by decide)];refine OM (VP o h g λt o=> ?_);rw [if_neg (by decide)];obtain ⟨x,a,s,ld,n,_,r,put⟩:=o.uF e;refine aP (ld (n ?_));have f:=List.mem_of_getElem? e;exact Pr (VD r (h.2 l f).1 j (g l f) λb q=>m b (put _ _ q))
theorem X7 {Q:Sl->Hp->Prop} (o:Has h0 (dO p room c ae) k) (H:c.length<=1000/\∀l∈c,l.waiters.length<=100) (G:∀s f,Has h0 ((dO p room (c.map s9) ae).star (dD 2 eW s (c.flatMap (·.waiters)))) f->Q s f):XR prog (some p) Q k:=by
 obtain ⟨x,d,w,W,o⟩:=o.nj;unfold XR;have hs:=o.right.left.gr;refine aP ((Has.left o).ld (shf:=ak) x.af rfl ?_);have nil:Has k (dD 2 eW (⟨none,0,0⟩:Sl) ([]:List ly)) k:=Has.jW (Hp.le_refl _);have E:∀t,((c.take t).flatMap (·.waiters)).length<=t*100:=by
  have:∀m:List bq,(∀l∈m,l.waiters.length<=100)->(m.flatMap (·.waiters)).length<=m.length*100:=λm=>by
   induction m with
   | nil=>intro _;simp
   | cons a m J=>intro h;have:=J λl b=>h l (List.mem_cons_of_mem _ b);have:=h a (List.mem_cons_self ..);simp only [List.flatMap_cons,List.length_append,List.length_cons];omega
  grind
 refine dC.intro (λ(s:Sl) (i:Int) f=>0<=i/\i<=(c.length:Int)/\Has h0 ((gU p x d room ((c.take i.toNat).map s9++c.drop i.toNat)).star (dD 2 eW s ((c.take i.toNat).flatMap (·.waiters)))) f) (λ_ i _=>(c.length-i).toNat)
  ⟨by omega,by omega,by simpa using o.beside nil⟩ ?_
 rintro s i f ⟨i0,i1,o⟩;by_cases D:i<(c.length:Int)
 ·rw [if_pos (decide_eq_true (by omega))];have F:i.toNat<c.length:=by omega
  have b:=List.getElem?_eq_getElem F;generalize c[i.toNat]=l at b;have z:d.length=((c.take i.toNat).map s9++c.drop i.toNat).length:=by grind
  obtain ⟨C,_,g,_,n⟩:=o.fst;obtain ⟨X,_,N,put⟩:=g.mZ (Ed b);have q:=g.ptr z (i:=i.toNat) (by omega) (K:=λy=>y=some (d.getD i.toNat a0)) rfl;have j:((i.toNat:Nat):Int)=i:=by omega
  rw [j] at q;obtain ⟨B,y,I,rfl⟩:=q;refine ⟨B,_,I,?_⟩;refine Qn (XW N λr L O=> ?_);have u:Has h0 (((gU p x d room ((c.take (i.toNat+1)).map s9++c.drop (i.toNat+1))).star (dD 2 eW s ((c.take i.toNat).flatMap (·.waiters)))).star (dD 2 eW r l.waiters)) L:=
   O.carry λf M=>by have op:=put _ _ M;rw [xX b] at op;exact n _ _ op
  have a8:l.waiters.length<=100:=H.2 l (List.mem_of_getElem? b);have Y:=E i.toNat;have v:(⟨s.base,s.len,s.cap⟩:Sl)=s:=rfl;rw [v];obtain ⟨Z,_,P,_,U⟩:=u.fst;obtain ⟨h7,_,R,_,V⟩:=P.snd;refine R.app (u.right.iq (λ_=>rfl)) (λ_=>rfl) (λ_=>rfl) rfl ⟨by omega,by omega⟩ λs' k3 S=> ?_;have T:=U _ _ (V _ _ S);rw [wrap64 (by omega) (by omega)];refine ⟨⟨by omega,by omega,?_⟩,by omega⟩;rw [show (i+1).toNat=i.toNat+1 by omega];have A:(c.take (i.toNat+1)).flatMap (·.waiters)=(c.take i.toNat).flatMap (·.waiters)++l.waiters:=by rw [List.take_add_one,b];simp
  rw [A];exact T.left
 ·rw [if_neg (λe=>D (by grind))];refine G _ f ?_;have j:i.toNat=c.length:=by omega
  rw [j,List.take_length,List.drop_length,List.append_nil] at o;obtain ⟨C,_,g,_,n⟩:=o.fst;exact n _ _ (g.jX w (by grind))
end
abbrev tY (l:Sl) (a:List bq):dB:=jl (bM.ok (sh:=bd) (sz:=4) rN) l a
section
variable {h0 k:Hp} {p:Addr} {room ae:Int} {b:List bq} {x:dg} {c:List Addr}
theorem TM {Q:Sl->Int->Hp->Prop} (o:Has h0 (dO p room b ae) k) (B:b.length<=1000/\∀l∈b,l.waiters.length<=100/\l.values.length<=100) (A:∀s a,Has h0 ((dO p room b ae).star (tY s b)) a->Q s ae a):UI prog (some p) Q k:=by
 obtain ⟨x,c,j,m,o⟩:=o.nj;unfold UI;have P:=o.right.left.gr;refine aP ((Has.left o).ld (shf:=ak) x.af rfl ?_);have nil:Has k (tY (⟨none,0,0⟩:Sl) ([]:List bq)) k:=Has.nc (okQ:=rN) (Hp.le_refl _);refine dC.intro (λ(s:Sl) (i:Int) a=>0<=i/\i<=(b.length:Int)/\Has h0 ((gU p x c room b).star (tY s (b.take i.toNat))) a) (λ_ i _=>(b.length-i).toNat) ⟨by omega,by omega,by simpa using o.beside nil⟩ ?_;rintro s i a ⟨R,S,o⟩;by_cases z:i<(b.length:Int)
 ·rw [if_pos (decide_eq_true (by omega))];have n:i.toNat<b.length:=by omega
  have d:=List.getElem?_eq_getElem n;generalize b[i.toNat]=l at d;have t:=B.2 l (List.mem_of_getElem? d);obtain ⟨w,_,f,_,h⟩:=o.fst;obtain ⟨N,_,F,put⟩:=f.mZ d;have q:=f.ptr m n (K:=λy=>y=some (c.getD i.toNat a0)) rfl;have g:((i.toNat:Nat):Int)=i:=by omega
  rw [g] at q;obtain ⟨v,y,C,rfl⟩:=q;refine ⟨v,_,C,?_⟩;refine zqa (K5 F t.2 t.1 λr D G=> ?_);have J:Has h0 (((gU p x c room b).star (tY s (b.take i.toNat))).star (jl rN r l)) D:=G.carry λa E=>by have op:=put _ _ E;rw [ye d] at op;exact h _ _ op
  obtain ⟨O,_,H,_,L⟩:=J.assoc.snd;have u:(⟨s.base,s.len,s.cap⟩:Sl)=s:=rfl;rw [u];refine H.row rfl (λ_=>rfl) (λ_=>rfl) rfl ⟨by rw [List.length_take];omega,by rw [List.length_take];omega⟩ λV T I=> ?_;have U:=L _ _ I;rw [wrap64 (by omega) (by omega)];refine ⟨⟨by omega,by omega,?_⟩,by omega⟩;have M:b.take (i.toNat+1)=b.take i.toNat++ [l]:=by rw [List.take_add_one,d];rfl
  grind
 ·rw [if_neg (λe=>z (by grind))];refine aP ((Has.left (Has.left o)).ld (shf:=ab .i64) x.ae rfl ?_);rw [j];refine A _ a ?_;have g:i.toNat=b.length:=by omega
  rw [g,List.take_length] at o;obtain ⟨w,_,f,_,h⟩:=o.fst;exact h _ _ (f.jX j m)
theorem Q9 {q:Addr} {l:bq} (e:c.length=b.length) (o:Has h0 ((vN c room b).star (du q room l)) k):Has h0 (vN (c++ [q]) room (b++ [l])) k:=by
 unfold vN;rw [List.length_append];show Has h0 ((dB.first (λi=>du ((c++ [q]).getD i a0) room ((b++ [l]).getD i kZ)) b.length).star (du ((c++ [q]).getD b.length a0) room ((b++ [l]).getD b.length kZ))) k;have a:(c++ [q]).getD b.length a0=q:=by simp [List.getD,<-e]
 have d:(b++ [l]).getD b.length kZ=l:=by simp [List.getD]
 rw [a,d];refine cast (congrArg (λA=>Has h0 (A.star (du q room l)) k) (sI λi f=> ?_)) o;grind
theorem X8 {s:Sl} {v:List bw} {Q:Option Addr->Int->Hp->Prop} (z:1<=room/\room<=64) (X:1<=b.length/\b.length<=9) (T:0<=ae/\ae<b.length) (r:Rs k bd 4 s v) (a:cM (gO k) v b) (hv:∀l∈b,MF room l)
  (E:∀p d,k<=d->Has k (dO p room b ae) d->Q (some p) 0 d):CN prog room s ae Q k:=by
 unfold CN;have W:=r.1;have Y:=a.len;refine aK (aK (aK ?_));rw [show (decide ((s.len:Int)<1) || decide ((s.len:Int)>9) || decide (room<1) || decide (room>64))=false by simp;omega,if_neg (by decide)];refine aK ?_;rw [show (decide (ae<0) || decide (ae>=(s.len:Int)))=false by simp;omega,if_neg (by decide)];refine vR (sh:=Mr) ⟨⟨none,0,0⟩,ae⟩ rfl λp f U H=> ?_;have Bv:Has k (gU p ⟨⟨none,0,0⟩,ae⟩ [] room []) f:=H.beside ((Has.jW (Hp.le_refl f)).beside (Has.fact trivial (Hp.le_refl f)));refine aA.intro (λ(i:Int) d=>0<=i/\i<=(b.length:Int)/\∃(sl:Sl) (c:List Addr),c.length=i.toNat/\Has k (gU p ⟨sl,ae⟩ c room (b.take i.toNat)) d) (λi _=>(b.length-i).toNat) ⟨by omega,by omega,_,[],rfl,Bv⟩ ?_;rintro i d ⟨G,Z,sl,c,hp,o⟩;by_cases A:i<(b.length:Int)
 ·rw [if_pos (decide_eq_true (by omega))];refine Rs.get (sh:=bd) (Rw.mono o.le r) (λ_=>rfl) (by omega) G (by omega) λ(y:bw) F=> ?_;obtain ⟨l,t,D⟩:=a.get F;refine ZG (X5 z (D.mono o.le) (hv l (List.mem_of_getElem? t)) λq k2 V I=> ?_);rw [if_neg (by decide)];have o:=(o.beside I);refine aP ((Has.left (Has.left o)).ld (shf:=ak) sl rfl ?_);obtain ⟨B,_,g,_,j⟩:=o.fst;obtain ⟨C,_,h,m⟩:=g.f2;refine h.push (e:=q) rfl (λ_=>rfl) (λ_=>rfl) rfl ⟨by omega,by omega⟩ λu k3 J=> ?_;have o:=j _ _ (m _ _ J);obtain ⟨B,_,g,_,j⟩:=o.fst;obtain ⟨C,_,h,m⟩:=g.f1;refine aP (h.st (⟨u,ae⟩:dg) (show (1:Nat)<=2 by decide) rfl λk4 K=> ?_);have o:=j _ _ (m _ _ K);rw [wrap64 (by omega) (by omega)];have w:b.take (i.toNat+1)=b.take i.toNat++ [l]:=by rw [List.take_add_one,t];rfl
  refine ⟨⟨by omega,by omega,u,c++ [q],by simp;omega,?_⟩,by omega⟩;rw [show (i+1).toNat=i.toNat+1 by omega,w];have N:=o.assoc;obtain ⟨R,_,L,_,O⟩:=N.snd;obtain ⟨S,_,M,_,P⟩:=L.assoc.snd;exact O _ _ (P _ _ (Q9 (by grind) M))
 ·rw [if_neg (λe=>A (by grind))];have n:i.toNat=b.length:=by omega
  rw [n,List.take_length] at o;rw [n] at hp;exact E p d o.le (o.jX rfl hp)
end
abbrev eL :aI->List Value:=λx=>be (eV.enc x)
def sr :aI:=⟨0,⟨none,0,0⟩⟩
def sW (b:List aI) (a:List (List Int)):dB:=dB.first (λi=>dD 1 fw (b.getD i sr).queue (a.getD i [])) a.length
def de (p:Addr) (sl:Sl) (a:List aI) (b:List (List Int)):dB:=(dq EL p ⟨sl⟩).star ((dD 2 eL sl a).star (sW a b))
def mi (p:Addr) (os:List Int) (qs:List (List Int)):dB:=
 .some_ λsl:Sl=>.some_ λa:List aI=>(de p sl a qs).star (.fact (a.map (·.owner)=os/\a.length=qs.length))
section
variable {h0 k:Hp} {p:Addr} {os:List Int} {qs:List (List Int)} {sl:Sl} {xs:List aI}
theorem Has.lN (o:Has h0 (mi p os qs) k):∃sl xs,xs.map (·.owner)=os/\xs.length=qs.length/\Has h0 (de p sl xs qs) k:=by obtain ⟨sl,o⟩:=Has.ex.1 o;obtain ⟨xs,o⟩:=Has.ex.1 o;obtain ⟨o,a,b⟩:=o.jw;grind
theorem Has.iG (o:Has h0 (de p sl xs qs) k) (a:xs.map (·.owner)=os) (b:xs.length=qs.length):Has h0 (mi p os qs) k:=Has.ex.2 ⟨sl,Has.ex.2 ⟨xs,o.fu ⟨a,b⟩⟩⟩
theorem Has.ry {i:Nat} {x:aI} {q:List Int} (o:Has h0 (sW xs qs) k) (f:xs[i]? =some x) (d:qs[i]? =some q):∃h1,h0<=h1/\Has h1 (dD 1 fw x.queue q) k/\∀c b a,Has h1 (dD 1 fw c.queue b) a->Has h0 (sW (xs.set i c) (qs.set i b)) a:=by
 have h:i<qs.length:=(List.getElem?_eq_some_iff.1 d).1;have l:i<xs.length:=(List.getElem?_eq_some_iff.1 f).1;obtain ⟨h1,a1,g,_,put⟩:=Has.one h o;rw [mK f,mK d] at g;refine ⟨h1,a1,g,λc b a n=> ?_⟩;have:=put _ _ n;unfold sW;rw [List.length_set];refine cast (congrArg (λA=>Has h0 A a) (sI λj m=> ?_)) this;by_cases e:j=i
 ·subst e;rw [jA,mK (List.getElem?_set_self l),mK (List.getElem?_set_self m)]
 ·rw [jE e];grind
theorem Has.tM (o:Has h0 (de p sl xs qs) k) {K:Sl->Prop} (a:K sl):aN none ak k (p.add 0) K:=(Has.left o).ld (shf:=ak) sl rfl a
theorem Has.Bi (o:Has h0 (de p sl xs qs) k):Rs k eV 2 sl xs:=o.right.left.iq (λ_=>rfl)
theorem Has.pE {i:Nat} {x:aI} (o:Has h0 (de p sl xs qs) k) (c:xs[i]? =some x) {K:Int->Prop} (b:K x.owner):bB sl.base sl.len (i:Int)/\aN none (ab .i64) k ((sat sl.base 2 (i:Int)).add 0) K:=
 Rw.Lx (sh:=ab .i64) (o.right.left.iq (λ_=>rfl)) (λ_=>rfl) (by decide) (λx=>x.owner) (j:=0) (λ_=>rfl) (by omega) (by grind) λy a=>by rw [Int.toNat_natCast,c] at a;cases a;exact b
theorem Has.qq {i:Nat} {x:aI} (o:Has h0 (de p sl xs qs) k) (c:xs[i]? =some x) {K:Sl->Prop} (b:K x.queue):bB sl.base sl.len (i:Int)/\aN none ak k ((sat sl.base 2 (i:Int)).add 1) K:=
 Rw.Lx (sh:=ak) (o.right.left.iq (λ_=>rfl)) (λ_=>rfl) (by decide) (λx=>x.queue) (j:=1) (λ_=>rfl) (by omega) (by grind) λy a=>by rw [Int.toNat_natCast,c] at a;cases a;exact b
theorem TN {i:Nat} {x x':aI} (a:xs[i]? =some x) (e:x'.queue=x.queue):sW (xs.set i x') qs=sW xs qs:=by unfold sW;grind
theorem Has.nq {i:Nat} {x:aI} {v:Int} {K:Hp->Prop} (o:Has h0 (de p sl xs qs) k) (b:xs[i]? =some x) (c:∀a,Has h0 (de p sl (xs.set i ⟨v,x.queue⟩) qs) a->K a):cD k ((sat sl.base 2 (i:Int)).add 0) [.int .i64 v] K:=by obtain ⟨f,_,e,put⟩:=o.f2;refine e.wL (λ_=>rfl) b (x':=⟨v,x.queue⟩) (show (1:Nat)<=2 by decide) rfl λa d=>c a ?_;have:=put _ _ d;unfold de;rw [TN (x':=⟨v,x.queue⟩) b rfl];exact this
theorem Has.rA {i:Nat} {x:aI} {s:Sl} {q b:List Int} {K:Hp->Prop} {h1:Hp} (g:Has h0 ((dq EL p ⟨sl⟩).star ((dD 2 eL sl xs).star (sW (xs.set i ⟨x.owner,s⟩) (qs.set i b)))) k) (d:xs[i]? =some x)
  (c:∀a,Has h0 (de p sl (xs.set i ⟨x.owner,s⟩) (qs.set i b)) a->K a):cD k ((sat sl.base 2 (i:Int)).add 1) [s.v] K:=by
 obtain ⟨h,_,f,put⟩:=g.f2;refine f.wL (λ_=>rfl) d (x':=⟨x.owner,s⟩) (show (2:Nat)<=2 by decide) rfl λa e=>c a (put _ _ e)
theorem K6 {n w:Int} {Q:Int->Hp->Prop} (o:Has h0 (mi p os qs) k) (c:0<=n/\n<qs.length) (f:0<=w) (d:Q 0 k):Ta prog (some p) n w Q k:=by obtain ⟨sl,xs,a,b,o⟩:=o.lN;unfold Ta;have e:=o.right.left.gr;refine aP ((Has.left o).Bg (shf:=ak) sl rfl ?_);refine aK ?_;grind
theorem K7 {w:Int} {Q:Int->Bool->Hp->Prop} (o:Has h0 (de p sl xs qs) k) (l:xs.length=qs.length) (d:qs.length<=1000/\∀q∈qs,q.length<=100) (e:∀q∈qs,w∉q) (r:Q 0 false k):S0 prog (some p) w Q k:=by
 unfold S0;have s:=o.right.left.gr;refine aP (o.tM ?_);refine aA.intro (λ(i:Int) h=>h=k/\0<=i/\i<=(qs.length:Int)) (λi _=>(qs.length-i).toNat) ⟨rfl,by omega,by omega⟩ ?_;rintro i _ ⟨rfl,g,t⟩;by_cases n:i<(qs.length:Int)
 ·rw [if_pos (decide_eq_true (by omega))];refine o.Bi.get (λ_=>rfl) (by omega) g (by omega) λ(y:aI) f=> ?_;have c:i.toNat<qs.length:=by omega
  have a:=List.getElem?_eq_getElem c;generalize qs[i.toNat]=q at a;have b:=List.mem_of_getElem? a;obtain ⟨m,_,j,_⟩:=o.right.right.ry f a;refine zii (IB (j.iq (λ_=>rfl)) (by have:=d.2 q b;omega) ?_);dsimp only;rw [if_neg (by simpa using e q b),wrap64 (by omega) (by omega)];exact ⟨⟨rfl,by omega,by omega⟩,by omega⟩
 grind
theorem TO {n:Nat} {w a:Int} {Q:Bool->Int->Hp->Prop} {q:List Int} (o:Has h0 (mi p os qs) k) (h:qs.length<=1000/\∀q∈qs,q.length<=100) (y:∀q∈qs,w∉q) (B:0<=w) (z:os[n]? =some a) (f:qs[n]? =some q)
  (h1:(a= -1\/a=w)->∀b,Has h0 (mi p (os.set n w) qs) b->Q true 0 b) (r:¬(a= -1\/a=w)->∀b,Has h0 (mi p os (qs.set n (q++ [w]))) b->Q false 0 b):T3 prog (some p) (n:Int) w Q k:=by
 unfold T3;have O:n<qs.length:=(List.getElem?_eq_some_iff.1 f).1;refine zns (K6 o ⟨by omega,by omega⟩ B ?_);rw [if_neg (by decide)];obtain ⟨sl,xs,l,m,o⟩:=o.lN;refine znq (K7 o m h y ?_);rw [if_neg (by decide)];obtain ⟨x,d,C⟩:∃x,xs[n]? =some x/\x.owner=a:=by grind
 have t:=(o.pE d (K:=λ_=>True) trivial).1;refine aP (o.tM ⟨t,?_⟩);refine ⟨λ_ b=>∃v,((a= -1/\v=w)\/(a≠ -1/\v=a))/\Has h0 (de p sl (xs.set n ⟨v,x.queue⟩) qs) b,?_,?_⟩
 ·refine aP (o.pE d ?_).2;rw [C];by_cases e:a= -1
  ·rw [if_pos (by simp [e])];refine aP (o.nq d λb S=> ?_);grind
  ·rw [if_neg (by simp [e])];refine ⟨a,.inr ⟨e,rfl⟩,?_⟩;have:(⟨a,x.queue⟩:aI)=x:=by cases x;grind
   rw [this,ye d];exact o
 ·rintro _ E ⟨v,hv,o⟩;have c:(xs.set n ⟨v,x.queue⟩)[n]? =some ⟨v,x.queue⟩:=List.getElem?_set_self (List.getElem?_eq_some_iff.1 d).1;have u:(xs.set n ⟨v,x.queue⟩).length=qs.length:=by grind
  have i:(xs.set n ⟨v,x.queue⟩).map (·.owner)=os.set n v:=by rw [List.map_set,l]
  refine aP (o.pE c ?_).2;dsimp only;by_cases e:v=w
  ·rw [if_neg (show ¬(v !=w)=true by simp [e])];refine aP (o.pE c ?_).2;rw [show (v==w)=true by simp [e]];refine h1 (by omega) E (o.iG ?_ u);rw [i,e]
  ·rw [if_pos (show (v !=w)=true by simp [e])];refine aP (o.qq c ?_).2;obtain ⟨s,_,G,L⟩:=o.f3;obtain ⟨N,_,H,M⟩:=G.ry c f;have P:=h.2 q (List.mem_of_getElem? f);refine H.push (e:=w) rfl (λ_=>rfl) (λ_=>rfl) rfl ⟨by omega,by omega⟩ λg R I=> ?_;have J:=L _ _ (M ⟨v,g⟩ _ _ I);refine aP (Has.rA (x:=⟨v,x.queue⟩) (q:=q) (h1:=s) J c λF j=> ?_);have D:((xs.set n ⟨v,x.queue⟩).set n ⟨v,g⟩)[n]? =some ⟨v,g⟩:=List.getElem?_set_self (List.getElem?_eq_some_iff.1 c).1;refine aP (j.pE D ?_).2;rw [show (v==w)=false by simp [e]];refine r (by omega) F (j.iG ?_ (by grind));rw [List.map_set,i];have A:v=a:=by omega
   subst A;rw [List.set_set,ye z]
end
def hold (w:Int):List Int->Nat->List Int
 | [],_=> []
 | o::r,i=>if o=w then (i:Int)::hold w r (i+1) else hold w r (i+1)
theorem tv {w:Int}:∀ {os:List Int} {i:Nat} {n:Int},n∈hold w os i->∃j:Nat,n=((i+j:Nat):Int)/\os[j]? =some w
 | [],_,_,h=>by cases h
 | o::r,i,n,h=>by
  unfold hold at h;split at h
  ·rename_i e;rcases List.mem_cons.1 h with h | h
   ·grind
   ·obtain ⟨j,b,a⟩:=tv h;exact ⟨j+1,by omega,by simpa using a⟩
  ·obtain ⟨j,b,a⟩:=tv h;exact ⟨j+1,by omega,by simpa using a⟩
theorem C6 {w:Int}:∀ {os:List Int} {i:Nat},(hold w os i).Nodup
 | [],_=>.nil
 | o::r,i=>by
  unfold hold;split
  ·refine List.nodup_cons.2 ⟨λh=> ?_,C6⟩;obtain ⟨j,a,_⟩:=tv h;omega
  ·exact C6
theorem Ee {w:Int}:∀ {os:List Int} {i:Nat},(hold w os i).length<=os.length
 | [],_=>by simp [hold]
 | o::r,i=>by unfold hold;have:=Ee (w:=w) (os:=r) (i:=i+1);grind
theorem K8 {w:Int}:∀ {os:List Int} {i t:Nat} {o:Int},os[t]? =some o->hold w (os.take (t+1)) i=hold w (os.take t) i++(if o=w then [((i+t:Nat):Int)] else [])
 | [],_,_,_,h=>by cases h
 | a::r,i,0,o,h=>by
  have h:a=o:=by simpa using h
  subst h;simp [hold]
 | a::r,i,t+1,o,h=>by have b:=K8 (w:=w) (i:=i+1) (t:=t) (o:=o) (os:=r) (by simpa using h);rw [List.take_succ_cons,List.take_succ_cons];unfold hold;grind
def kE (z:List Int×List (List Int)×List Int) (n:Int):List Int×List (List Int)×List Int:=
 match z.2.1.getD n.toNat [] with
 | []=>(z.1.set n.toNat (-1),z.2.1,z.2.2++ [-1])
 | a::r=>(z.1.set n.toNat a,z.2.1.set n.toNat r,z.2.2++ [a])
theorem K9 {w:Int}:∀ {os:List Int} {qs:List (List Int)} {po:List Int} {pq:List (List Int)} {G:List Int},os.length=qs.length->po.length=pq.length->
  (hold w os po.length).foldl kE (po++os,pq++qs,G)=(po++(iA w os qs).1,pq++(iA w os qs).2.1,G++(iA w os qs).2.2)
 | [],[],po,pq,G,_,_=>by simp [hold,iA]
 | o::os,q::qs,po,pq,G,f,hp=>by
  have f:os.length=qs.length:=by simpa using f
  have step:∀(c:Int) (d:List Int) (b:List Int),(hold w os (po.length+1)).foldl kE (po++c::os,pq++d::qs,b)=(po++c::(iA w os qs).1,pq++d::(iA w os qs).2.1,b++(iA w os qs).2.2):=λc d b=>by have:=K9 (w:=w) (po:=po++ [c]) (pq:=pq++ [d]) (G:=b) f (by simp [hp]);simpa using this
  by_cases e:o=w
  ·unfold hold iA;rw [if_pos e,if_pos e,List.foldl_cons];have i:(pq++q::qs).getD po.length []=q:=by rw [hp];simp [List.getD]
   have g:∀v:Int,(po++o::os).set po.length v=po++v::os:=λv=>by rw [List.set_append_right _ _ (Nat.le_refl _)];simp
   have j:∀v:List Int,(pq++q::qs).set po.length v=pq++v::qs:=λv=>by rw [hp,List.set_append_right _ _ (Nat.le_refl _)];simp
   have k:kE (po++o::os,pq++q::qs,G) (po.length:Int)=(match q with
     | []=>(po++ -1::os,pq++ []::qs,G++ [-1])
     | a::r=>(po++a::os,pq++r::qs,G++ [a])):=by
    unfold kE;dsimp only;rw [Int.toNat_natCast,i];cases q with
    | nil=>dsimp only;rw [g]
    | cons a r=>dsimp only;rw [g,j]
   grind
  ·unfold hold iA;grind
 | [],_::_,_,_,_,h,_=>by cases h
 | _::_,[],_,_,_,h,_=>by cases h
theorem Rb (z:List Int×List (List Int)×List Int) (n:Int):(kE z n).1.length=z.1.length/\(kE z n).2.1.length=z.2.1.length:=by unfold kE;split<;>simp
theorem Ht :∀(l:List Int) (z:List Int×List (List Int)×List Int),(l.foldl kE z).1.length=z.1.length/\(l.foldl kE z).2.1.length=z.2.1.length
 | [],_=>⟨rfl,rfl⟩
 | n::l,z=>by have a:=Ht l (kE z n);have b:=Rb z n;grind
theorem IS :∀(l:List Int) (z:List Int×List (List Int)×List Int) (j:Nat),(∀n∈l,n.toNat≠j)->(l.foldl kE z).1[j]? =z.1[j]?/\(l.foldl kE z).2.1[j]? =z.2.1[j]?
 | [],_,_,_=>⟨rfl,rfl⟩
 | n::l,z,j,h=>by
  have c:=IS l (kE z n) j λm b=>h m (List.mem_cons_of_mem _ b);have a:=h n (List.mem_cons_self ..);have d:(kE z n).1[j]? =z.1[j]?/\(kE z n).2.1[j]? =z.2.1[j]?:=by
   unfold kE;split
   ·exact ⟨List.getElem?_set_ne a,rfl⟩
   ·exact ⟨List.getElem?_set_ne a,List.getElem?_set_ne a⟩
  grind
section
variable {h0 k:Hp} {p:Addr} {os:List Int} {qs:List (List Int)} {sl:Sl} {xs:List aI}
theorem Za {n:Nat} {w:Int} (a:xs.map (·.owner)=os) (b:os[n]? =some w):∃x,xs[n]? =some x/\x.owner=w:=by grind
theorem Hu {n:Nat} {w:Int} {q:List Int} {Q:Int->Int->Hp->Prop} (o:Has h0 (mi p os qs) k) (E:0<=w) (D:os[n]? =some w) (j:qs[n]? =some q)
  (h1:q=[]->∀g,Has h0 (mi p (os.set n (-1)) qs) g->Q (-1) 0 g) (A:∀a r,q=a::r->∀g,Has h0 (mi p (os.set n a) (qs.set n r)) g->Q a 0 g):T4 prog (some p) (n:Int) w Q k:=by
 unfold T4;have V:n<qs.length:=(List.getElem?_eq_some_iff.1 j).1;refine zns (K6 o ⟨by omega,by omega⟩ E ?_);rw [if_neg (by decide)];obtain ⟨sl,xs,h,R,o⟩:=o.lN;obtain ⟨x,b,G⟩:=Za h D;have C:=(o.pE b (K:=λ_=>True) trivial).1;have l:=(List.getElem?_eq_some_iff.1 b).1;refine aP (o.tM ⟨C,?_⟩);refine aP (o.pE b ?_).2;rw [if_neg (show ¬(x.owner !=w)=true by simp [G])];refine aP (o.qq b ?_).2;obtain ⟨S,_,I,W⟩:=o.f3;obtain ⟨T,_,u,X⟩:=I.ry b j;have f:=u.gr;cases q with
 | nil=>have f:x.queue.len=0:=f;rw [if_pos (by simp [f])];refine aP (o.nq (v:= -1) b λs e=> ?_);have d:(xs.set n (⟨-1,x.queue⟩:aI))[n]? =some ⟨-1,x.queue⟩:=List.getElem?_set_self l;refine aP (e.pE d ?_).2;exact h1 rfl s (e.iG (by rw [List.map_set,h]) (by grind))
 | cons a r=>
  have f:x.queue.len=r.length+1:=by simpa using f
  rw [if_neg (by simp;omega)];refine aP (o.qq b ?_).2;have P:Rs k (ab .i64) 1 x.queue (a::r):=u.iq (λ_=>rfl);refine P.get (λ_=>rfl) (by omega) (by omega) (by simp) λ(y:Int) m=> ?_;have m:y=a:=by grind
  subst m;refine aP (o.nq (v:=y) b λs e=> ?_);have d:(xs.set n (⟨y,x.queue⟩:aI))[n]? =some ⟨y,x.queue⟩:=List.getElem?_set_self l;refine aP (e.qq d ?_).2;refine aP (e.qq d ?_).2;refine aP (e.qq d ?_).2;obtain ⟨B,_,J,N⟩:=e.f3;obtain ⟨U,_,z,O⟩:=J.ry d j;have i:=z.tj;have i:x.queue.len<=x.queue.cap:=i;refine ⟨by dsimp only;omega,aK ?_⟩;dsimp only;rw [Int.toNat_natCast];have L:=z.pz (λ_=>rfl) (c:=x.queue.len) (Nat.le_refl _) i;have M:=N _ _ (O ⟨y,⟨aX x.queue.base 1 1 x.queue.len,x.queue.len-1,x.queue.len-1⟩⟩ _ _ L);refine aP (Has.rA (x:=⟨y,x.queue⟩) (q:=y::r) (h1:=B) M d λH t=> ?_);have F:((xs.set n (⟨y,x.queue⟩:aI)).set n ⟨y,⟨aX x.queue.base 1 1 x.queue.len,x.queue.len-1,x.queue.len-1⟩⟩)[n]? =some ⟨y,⟨aX x.queue.base 1 1 x.queue.len,x.queue.len-1,x.queue.len-1⟩⟩:=List.getElem?_set_self (by grind);refine aP (t.pE F ?_).2;exact A y r rfl H (t.iG (by rw [List.map_set,List.map_set,h,List.set_set]) (by grind))
theorem La {w:Int} {Q:Sl->Hp->Prop} (o:Has h0 (mi p os qs) k) (v:qs.length<=1000) (A:0<=w) (t:∀s a,Has h0 ((mi p os qs).star (dD 1 fw s (hold w os 0))) a->Q s a):S2 prog (some p) w Q k:=by
 unfold S2;obtain ⟨sl,xs,j,l,o⟩:=o.lN;have z:=o.right.left.gr;have x:os.length=qs.length:=by grind
 refine aP (o.tM ?_);have nil:Has k (dD 1 fw (⟨none,0,0⟩:Sl) ([]:List Int)) k:=Has.jW (Hp.le_refl _);refine dC.intro (λ(s:Sl) (i:Int) a=>0<=i/\i<=(qs.length:Int)/\Has h0 ((de p sl xs qs).star (dD 1 fw s (hold w (os.take i.toNat) 0))) a) (λ_ i _=>(qs.length-i).toNat) ⟨by omega,by omega,by simpa [hold] using o.beside nil⟩ ?_;rintro s i a ⟨u,C,o⟩;by_cases g:i<(qs.length:Int)
 ·rw [if_pos (decide_eq_true (by omega))];refine ⟨λf c=>i<(qs.length:Int)/\Has h0 ((de p sl xs qs).star (dD 1 fw f (hold w (os.take (i.toNat+1)) 0))) c,?_,?_⟩
  ·refine (Has.left o).Bi.get (λ_=>rfl) (by omega) u (by omega) λ(y:aI) B=>aK ?_;have r:os[i.toNat]? =some y.owner:=by grind
   have b:=K8 (w:=w) (i:=0) r;rw [show (w !=(-1:Int))=true by simp;omega,Bool.and_true];by_cases e:y.owner=w
   ·rw [if_pos (by simp [e])];rw [if_pos e] at b;obtain ⟨n,_,d,_,h⟩:=o.snd;have q:=Ee (w:=w) (os:=os.take i.toNat) (i:=0);rw [List.length_take] at q;refine d.push (e:=i) rfl (λ_=>rfl) (λ_=>rfl) rfl ⟨by omega,by omega⟩ λf c D=> ?_;grind
   ·rw [if_neg (by simp [e])];rw [if_neg e,List.append_nil] at b;exact ⟨g,by rw [b];exact o⟩
  ·rintro f c ⟨_,o⟩;rw [wrap64 (by omega) (by omega)];grind
 ·rw [if_neg (λe=>g (by grind))];refine t _ a ?_;have m:i.toNat=os.length:=by omega
  rw [m,List.take_length] at o;obtain ⟨n,_,d,_,h⟩:=o.fst;exact h _ _ (d.iG j l)
end
abbrev eG :cC->List Value:=λg=> [.int .i64 g.AZ,.int .i64 g.da]
abbrev wo (l:Sl) (a:List (List Int)):dB:=jl (bM.ok (sh:=ak) (sz:=1) kK) l a
section
variable {h0 k:Hp} {p:Addr} {os:List Int} {qs:List (List Int)} {sl:Sl} {xs:List aI}
def eJ (w:Int) (q:List Int):List Int:=gX (λz=>decide (z=w)) q
theorem VT {w:Int} {Q:Sl->Hp->Prop} (o:Has h0 (mi p os qs) k) (hl:qs.length<=1000/\∀q∈qs,q.length<=100) (d8:os.length=qs.length) (hw:0<=w)
  (hq:∀s b gs,gs.map cC.da=(iA w os (qs.map (eJ w))).2.2->Has h0 ((mi p (iA w os (qs.map (eJ w))).1 (iA w os (qs.map (eJ w))).2.1).star (dD 2 eG s gs)) b->Q s b):UY prog (some p) w Q k:=by
 unfold UY;obtain ⟨sl,xs,d,u,o⟩:=o.lN;have hs:=o.right.left.gr;refine aP (o.tM ?_);refine aA.intro (λ(i:Int) b=>0<=i/\i<=(qs.length:Int)/\∃xs,xs.map (·.owner)=os/\xs.length=qs.length/\Has h0 (de p sl xs ((qs.take i.toNat).map (eJ w)++qs.drop i.toNat)) b) (λi _=>(qs.length-i).toNat) ⟨by omega,by omega,xs,d,u,by simpa using o⟩ ?_;rintro i b ⟨i0,i1,xs,d,u,o⟩;by_cases O:i<(qs.length:Int)
 ·rw [if_pos (decide_eq_true (by omega))];have hi:i.toNat<qs.length:=by omega
  have F:=List.getElem?_eq_getElem hi;generalize qs[i.toNat]=q at F;have Y:=Ed (f:=eJ w) F;have b5:i.toNat<xs.length:=by omega
  have H:=List.getElem?_eq_getElem b5;generalize xs[i.toNat]=x at H;have D:((i.toNat:Nat):Int)=i:=by omega
  have d9:=hl.2 q (List.mem_of_getElem? F);refine ⟨λ_ c=>i<(qs.length:Int)/\∃xs,xs.map (·.owner)=os/\xs.length=qs.length/\Has h0 (de p sl xs ((qs.take (i.toNat+1)).map (eJ w)++qs.drop (i.toNat+1))) c,?_,?_⟩
  ·refine aP (o.tM ?_);have X:=o.qq H (K:=λy=>y=x.queue) rfl;rw [D] at X;obtain ⟨N,y,hy,rfl⟩:=X;refine ⟨N,_,hy,?_⟩;obtain ⟨P,_,o4,d1⟩:=o.f3;obtain ⟨E,_,C,J⟩:=o4.ry H Y;refine zko (KX (C.iq (λ_=>rfl)) (by omega) ?_);have U:=zzp (λz:Int=>decide (z=w)) q;by_cases hp:nS w q>=0
   ·rw [if_pos (decide_eq_true hp)];have b7:nS w q<q.length:=IL hp;refine aP (o.tM ?_);refine aP (o.tM ?_);refine ⟨N,_,hy,?_⟩;obtain ⟨n,B⟩:∃n:Nat,nS w q=n:=⟨(nS w q).toNat,by omega⟩;have I:prog.underlying 23=some (.slice 3):=ah.aH 23 nV rfl;have b3:∀(M:Sl->Hp->Prop),(∀g b,Has E (dD 1 fw g (q.take n++q.drop (n+1))) b->M g b)->Qp prog x.queue (n:Int) ((n+1:Nat):Int) M b:=λM b0=>by
     unfold Qp;exact Has.FI (bytes:=8) (z:=.int .i64 0) I (λhK=>DD ah (e:=tl) rfl hK) (λ_=>rfl) (λ_=>rfl) rfl (λm=>by induction m with
      | zero=>rfl
      | succ m ih=>exact ih) C (by omega) (by omega) ⟨by omega,by omega⟩ b0
    rw [B,wrap64 (by omega) (by omega)];refine zst (b3 _ λg c R=> ?_);have l:=d1 _ _ (J ⟨x.owner,g⟩ _ _ R);refine ⟨⟨l.left.eA (n:=1) rfl,trivial⟩,N,?_⟩;have c7:q.take n++q.drop (n+1)=eJ w q:=by have b8:iw (λz:Int=>decide (z=w)) q=n:=B;show _=gX (λz=>decide (z=w)) q;rw [U,b8,if_pos (by omega),Int.toNat_natCast]
    rw [c7,xX F] at l;have key:cD c ((sat sl.base 2 ((i.toNat:Nat):Int)).add 1) [g.v] λk4=>i<(qs.length:Int)/\∃xs,xs.map (·.owner)=os/\xs.length=qs.length/\Has h0 (de p sl xs ((qs.take (i.toNat+1)).map (eJ w)++qs.drop (i.toNat+1))) k4:=by obtain ⟨h8,_,S,a8⟩:=l.f2;refine S.wL (λ_=>rfl) H (x':=⟨x.owner,g⟩) (show (2:Nat)<=2 by decide) rfl λk4 o9=> ?_;refine ⟨O,xs.set i.toNat ⟨x.owner,g⟩,?_,by rw [List.length_set];exact u,a8 _ _ o9⟩;rw [List.map_set,d];refine ye ?_;rw [<-d,List.getElem?_map,H];rfl
    grind
   ·rw [if_neg (λh=>hp (of_decide_eq_true h))];refine ⟨O,xs,d,u,?_⟩;have c6:eJ w q=q:=by show gX (λz=>decide (z=w)) q=q;rw [U,if_neg (show ¬0<=iw (λz:Int=>decide (z=w)) q from hp)]
    have:=xX (f:=eJ w) F;rw [c6,ye Y] at this;grind
  ·rintro _ c ⟨_,xs,d,u,o⟩;rw [wrap64 (by omega) (by omega)];refine ⟨⟨by omega,by omega,xs,d,u,?_⟩,by omega⟩;rw [show (i+1).toNat=i.toNat+1 by omega];exact o
 ·rw [if_neg (λe=>O (by grind))];have D:i.toNat=qs.length:=by omega
  rw [D,List.take_length,List.drop_length,List.append_nil] at o;have o:Has h0 (mi p os (qs.map (eJ w))) b:=o.iG d (by grind);refine znr (La o (by grind) hw λs k1 o=> ?_);have d7:=o.right.gr;have d4:=Ee (w:=w) (os:=os) (i:=0);have rs:∀c,Has h0 ((mi p os (qs.map (eJ w))).star (dD 1 fw s (hold w os 0))) c->Rw c 1 fw s (hold w os 0):=λc o=>o.right.iq (λ_=>rfl);have nil:Has k1 (dD 2 eG (⟨none,0,0⟩:Sl) ([]:List cC)) k1:=Has.jW (Hp.le_refl _);have V:=K9 (w:=w) (os:=os) (qs:=qs.map (eJ w)) (po:=[]) (pq:=[]) (G:=[]) (by grind) rfl;simp only [List.nil_append,List.length_nil] at V;refine dC.intro (λ(t:Sl) (i:Int) b=>0<=i/\i<=((hold w os 0).length:Int)/\∃gs:List cC,gs.map cC.da=(((hold w os 0).take i.toNat).foldl kE (os,qs.map (eJ w),[])).2.2/\gs.length=i.toNat/\
   Has h0 (((mi p (((hold w os 0).take i.toNat).foldl kE (os,qs.map (eJ w),[])).1 (((hold w os 0).take i.toNat).foldl kE (os,qs.map (eJ w),[])).2.1).star (dD 1 fw s (hold w os 0))).star (dD 2 eG t gs)) b) (λ_ i _=>((hold w os 0).length-i).toNat)
   ⟨by omega,by omega,[],by simp,rfl,by simpa using o.beside nil⟩ ?_
  rintro t i b ⟨i0,i1,gs,L,b4,o⟩;by_cases P:i<((hold w os 0).length:Int)
  ·rw [if_pos (decide_eq_true (by omega))];have hr:Rs b (ab .i64) 1 s (hold w os 0):=o.left.right.iq (λ_=>rfl);refine hr.get (λ_=>rfl) (by omega) i0 P λ(n:Int) B=> ?_;obtain ⟨j,hj,c5⟩:=tv (List.mem_of_getElem? B);have b6:n=(j:Int):=by omega
   subst b6;generalize I:((hold w os 0).take i.toNat).foldl kE (os,qs.map (eJ w),[])=z at o L;have c4:∀m∈(hold w os 0).take i.toNat,m.toNat≠j:=λm hm e=>by
    obtain ⟨a,A⟩:=List.getElem?_of_mem hm;rw [List.getElem?_take] at A;split at A
    ·rename_i b7;obtain ⟨j2,d5,_⟩:=tv (List.mem_of_getElem? A);have em:m=(j:Int):=by omega
     rw [em] at A;have c0:=C6 (w:=w) (os:=os) (i:=0);obtain ⟨b1,b2⟩:=List.getElem?_eq_some_iff.1 A;obtain ⟨c1,c2⟩:=List.getElem?_eq_some_iff.1 B;exact List.pairwise_iff_getElem.1 c0 a i.toNat b1 c1 (by omega) (b2.trans c2.symm)
    ·cases A
   have T:=IS ((hold w os 0).take i.toNat) (os,qs.map (eJ w),[]) j c4;rw [I] at T;have c8:=Ht ((hold w os 0).take i.toNat) (os,qs.map (eJ w),[]);rw [I] at c8;have d6:j<qs.length:=by grind
   obtain ⟨q,Z⟩:∃q,z.2.1[j]? =some q:=⟨_,List.getElem?_eq_getElem (by grind)⟩;have d0:z.1[j]? =some w:=T.1.trans c5;obtain ⟨E,_,C,_,J⟩:=o.fst;obtain ⟨h6,_,R,_,d2⟩:=C.fst;have c3:((hold w os 0).take (i.toNat+1)).foldl kE (os,qs.map (eJ w),[])=kE z (j:Int):=by rw [List.take_add_one,B,List.foldl_append,I];rfl
   have W:z.2.1.getD j []=q:=mK Z;have d3:∀(v:Int) c,(kE z (j:Int)).2.2=z.2.2++ [v]->Has h6 (mi p (kE z (j:Int)).1 (kE z (j:Int)).2.1) c->
     bD [.int .i64 (j:Int),.int .i64 v] (λa E=>fR 2 16 [(.int .i64 (0:Int)),(.int .i64 (0:Int))] ⟨t.base,t.len,t.cap⟩ ⟨(some a),1,1⟩ (λr3 a9=>
      (λ(t:Sl) (i:Int) b=>0<=i/\i<=((hold w os 0).length:Int)/\∃gs:List cC,gs.map cC.da=(((hold w os 0).take i.toNat).foldl kE (os,qs.map (eJ w),[])).2.2/\gs.length=i.toNat/\
       Has h0 (((mi p (((hold w os 0).take i.toNat).foldl kE (os,qs.map (eJ w),[])).1 (((hold w os 0).take i.toNat).foldl kE (os,qs.map (eJ w),[])).2.1).star (dD 1 fw s (hold w os 0))).star (dD 2 eG t gs)) b) r3 (yw (i+1)) a9/\((hold w os 0).length-yw (i+1)).toNat<((hold w os 0).length-i).toNat) E) c:=by
    intro v c hv l;have oo:=J _ _ (d2 _ _ l);obtain ⟨h8,_,S,_,a8⟩:=oo.snd;refine S.push (e:=⟨(j:Int),v⟩) rfl (λ_=>rfl) (λ_=>rfl) rfl ⟨by omega,by omega⟩ λs2 k3 o9=> ?_;rw [wrap64 (by omega) (by omega)];refine ⟨⟨by omega,by omega,gs++ [⟨(j:Int),v⟩],?_,?_,?_⟩,by omega⟩
    ·rw [show (i+1).toNat=i.toNat+1 by omega,c3,hv,List.map_append,L];rfl
    ·rw [List.length_append,b4];simp;omega
    grind
   refine zpf (Hu R hw d0 Z (λeq c l=> ?_) λa r eq c l=> ?_)
   ·have hg:kE z (j:Int)=(z.1.set j (-1),z.2.1,z.2.2++ [-1]):=by unfold kE;rw [Int.toNat_natCast,W,eq]
    grind
   ·have hg:kE z (j:Int)=(z.1.set j a,z.2.1.set j r,z.2.2++ [a]):=by unfold kE;rw [Int.toNat_natCast,W,eq]
    grind
  ·rw [if_neg (λe=>P (by grind))];have D:i.toNat=(hold w os 0).length:=by omega
   rw [D,List.take_length,V] at o L;refine hq _ b gs L ?_;obtain ⟨E,_,C,_,J⟩:=o.fst;exact J _ _ C.left
end
section
variable {h0 k:Hp} {p:Addr} {os:List Int} {qs:List (List Int)} {sl:Sl} {xs:List aI}
theorem Has.M6 {c:Type} {sh:Shape} {sz:Nat} {S:sh.T->c->Prop} {l:Sl} {b:List c} {v:sh.T} {q:c} {d zero:List Value} {bytes:Nat} {K:Sl->Hp->Prop} (o:Has h0 (jl (bM.ok (sh:=sh) (sz:=sz) (fy.ok S)) l b) k) (g:S v q)
  (i:d=be (sh.enc v)) (j:∀x,(be (sh.enc x)).length=sz) (n:∀x,iV (be (sh.enc x))=true) (r:zero.length=sz) (hb:b.length+1<=140737488355328/\(b.length+1)*bytes<=140737488355328)
  (m:∀f e,Has h0 (jl (bM.ok (sh:=sh) (sz:=sz) (fy.ok S)) f (b++ [q])) e->K f e):bD d (λa s=>fR sz bytes zero l ⟨some a,1,1⟩ K s) k:=
 Has.row (okQ:=fy.ok S) (o.beside (Has.ru (Hp.le_refl k) ⟨rfl,g⟩ .nil λ_ h=>by cases h)) i j n r hb m
theorem Rc {Q:Sl->Sl->Hp->Prop} (o:Has h0 (mi p os qs) k) (t:qs.length<=1000/\∀q∈qs,q.length<=100) (u:os.length=qs.length)
  (z:∀s a b,Has h0 ((mi p os qs).star ((sZ s os).star (wo a qs))) b->Q s a b):SX prog (some p) Q k:=by
 unfold SX;obtain ⟨sl,xs,j,l,o⟩:=o.lN;have hs:=o.right.left.gr;refine aP (o.tM ?_);have F:Has k (sZ (⟨none,0,0⟩:Sl) ([]:List Int)) k:=Has.nc (okQ:=fy.ok Eq) (Hp.le_refl _);have G:Has k (wo (⟨none,0,0⟩:Sl) ([]:List (List Int))) k:=Has.nc (okQ:=kK) (Hp.le_refl _);refine pn.intro (λ(s a:Sl) (i:Int) b=>0<=i/\i<=(qs.length:Int)/\Has h0 ((de p sl xs qs).star ((sZ s (os.take i.toNat)).star (wo a (qs.take i.toNat)))) b) (λ_ _ i _=>(qs.length-i).toNat)
  ⟨by omega,by omega,by simpa using o.beside (F.beside G)⟩ ?_
 rintro s a i b ⟨B,i1,o⟩;by_cases n:i<(qs.length:Int)
 ·rw [if_pos (decide_eq_true (by omega))];refine (Has.left o).Bi.get (λ_=>rfl) (by omega) B (by omega) λ(y:aI) A=> ?_;have r:i.toNat<qs.length:=by omega
  have c:=List.getElem?_eq_getElem r;generalize qs[i.toNat]=q at c;have a9:=t.2 q (List.mem_of_getElem? c);have w:os[i.toNat]? =some y.owner:=by grind
  have g:(⟨s.base,s.len,s.cap⟩:Sl)=s:=rfl;have h:(⟨a.base,a.len,a.cap⟩:Sl)=a:=rfl;rw [g,h];obtain ⟨Y,_,J,T⟩:=o.f2;refine J.M6 (S:=Eq) (v:=y.owner) (q:=y.owner) rfl rfl (λ_=>rfl) (λ_=>rfl) rfl ⟨by rw [List.length_take];omega,by rw [List.length_take];omega⟩ λs1 C K=> ?_;have o:=T _ _ K;refine EH ?_;unfold AG;obtain ⟨Z,_,L,_⟩:=(Has.left o).right.right.ry A c;refine qN (ah.aH 23 nV rfl) (L.iq (λ_=>rfl)) (by decide) (λ_=>rfl) (λ_=>rfl) rfl ⟨by omega,by omega⟩ λW D a8 E=> ?_;have d:Has C (sZ W q) D:=E.jf (f:=λx=>x) (λ_=>rfl) λ_=>rfl;have P:=(o.beside d).assoc;obtain ⟨h7,_,M,_,U⟩:=P.snd;obtain ⟨h8,_,N,_,V⟩:=M.assoc.snd;refine Has.row (sh:=ak) (okQ:=kK) N rfl (λ_=>rfl) (λ_=>rfl) rfl ⟨by rw [List.length_take];omega,by rw [List.length_take];omega⟩ λs2 k3 O=> ?_;have H:=U _ _ (V _ _ O);rw [wrap64 (by omega) (by omega)];refine ⟨⟨by omega,by omega,?_⟩,by omega⟩;have t1:os.take (i.toNat+1)=os.take i.toNat++ [y.owner]:=by rw [List.take_add_one,w];rfl
  have t2:qs.take (i.toNat+1)=qs.take i.toNat++ [q]:=by rw [List.take_add_one,c];rfl
  rw [show (i+1).toNat=i.toNat+1 by omega,t1,t2];exact H
 ·rw [if_neg (λe=>n (by grind))];refine z _ _ b ?_;have m:i.toNat=qs.length:=by omega
  rw [m,List.take_length,<-u,List.take_length] at o;obtain ⟨X,_,I,_,R⟩:=o.fst;exact R _ _ (I.iG j l)
structure JD (os:List Int) (qs:List (List Int)):Prop where
 len:os.length=qs.length/\os.length<=8
 own:∀o∈os, -1<=o
 iy:∀(i:Nat) o q,os[i]? =some o->qs[i]? =some q->q.length<=100/\(o= -1->q=[])/\(∀z∈q,0<=z/\z≠o)/\q.Nodup
 once:∀(i j:Nat) q q',qs[i]? =some q->qs[j]? =some q'->i<j->∀z∈q',z∉q
theorem X9 {x:aI} {q:List Int} (c:xs.length=qs.length) (o:Has h0 ((sW xs qs).star (dD 1 fw x.queue q)) k):Has h0 (sW (xs++ [x]) (qs++ [q])) k:=by
 unfold sW;rw [List.length_append];show Has h0 ((dB.first (λi=>dD 1 fw ((xs++ [x]).getD i sr).queue ((qs++ [q]).getD i [])) qs.length).star (dD 1 fw ((xs++ [x]).getD qs.length sr).queue ((qs++ [q]).getD qs.length []))) k;have a:(xs++ [x]).getD qs.length sr=x:=by simp [List.getD,<-c]
 have b:(qs++ [q]).getD qs.length []=q:=by simp [List.getD]
 rw [a,b];refine cast (congrArg (λA=>Has h0 (A.star (dD 1 fw x.queue q)) k) (sI λi d=> ?_)) o;grind
theorem de.te {b:Sl} {K:Hp->Prop} (o:Has h0 ((dq EL p ⟨sl⟩).star ((dD 2 eL b xs).star (sW xs qs))) k) (c:∀a,Has h0 (de p b xs qs) a->K a):cD k (p.add 0) [b.v] K:=by obtain ⟨f,_,e,put⟩:=o.f1;exact e.st (⟨b⟩:gw) (show (1:Nat)<=1 by decide) rfl λa d=>c a (put _ _ d)
theorem VV {N sq:Sl} {B:List Sl} {Q:Option Addr->Int->Hp->Prop} (v:JD os qs) (Y:Is k N os) (M:Rs k ak 1 sq B) (a:cM (Is k) B qs) (hq:∀p c,k<=c->Has k (mi p os qs) c->Q (some p) 0 c):Cs prog N sq Q k:=by
 unfold Cs;have d5:=Y.1;have d6:=M.1;have d8:=a.len;have a9:=v.len;refine aK ?_;rw [show (decide ((N.len:Int)>8) || decide ((sq.len:Int)>8))=false by simp;omega,if_neg (by decide),if_neg (by simp;omega)];refine vR (sh:=EL) ⟨⟨none,0,0⟩⟩ rfl λp I d4 o1=> ?_;have Bv:Has k (de p ⟨none,0,0⟩ [] []) I:=o1.beside ((Has.jW (Hp.le_refl I)).beside (Has.fact trivial (Hp.le_refl I)));refine aA.intro (λ(i:Int) c=>0<=i/\i<=(os.length:Int)/\∃(sl:Sl) (xs:List aI),xs.map (·.owner)=os.take i.toNat/\Has k (de p sl xs (qs.take i.toNat)) c) (λi _=>(os.length-i).toNat) ⟨by omega,by omega,_,[],by simp,by simpa using Bv⟩ ?_;rintro i c ⟨H,i1,sl,xs,l,o⟩;by_cases P:i<(os.length:Int)
 ·rw [if_pos (decide_eq_true (by omega))];have F:xs.length=i.toNat:=by have:=congrArg List.length l;grind
  refine Rs.get (sh:=ab .i64) (Rw.mono o.le Y) (λ_=>rfl) (by omega) H P λ(w:Int) D=> ?_;have d7:=v.own w (List.mem_of_getElem? D);have d0:Rs c ak 1 sq B:=Rw.mono o.le M;have hi:i.toNat<qs.length:=by omega
  have f:=List.getElem?_eq_getElem hi;generalize qs[i.toNat]=q at f;obtain ⟨y,T,G⟩:=a.get' f;obtain ⟨v1,v2,v3,v4⟩:=v.iy i.toNat w q D f;refine d0.qf (⟨none,0,0⟩:Sl) (λ_=>rfl) (by omega) (λ_=>⟨H,by omega⟩) λ(y0:Sl) b6=> ?_;have g:((w==(-1:Int))&&decide ((y0.len:Int)>0))=false:=by
   by_cases e:w= -1
   ·have:=b6 (by simp [e]);rw [T] at this;cases this;have b0:=G.1;grind
   ·simp [e]
  refine aK (aK ?_);rw [g,show decide (w<(-1:Int))=false by simp;omega,if_neg (by decide)];refine aP (o.tM ?_);obtain ⟨h4,_,o4,c6⟩:=o.f2;refine o4.push (e:=⟨w,⟨none,0,0⟩⟩) rfl (λ_=>rfl) (λ_=>rfl) rfl ⟨by omega,by omega⟩ λA J o5=> ?_;have o6:=c6 _ _ o5;have nil:Has J (dD 1 fw (⟨w,⟨none,0,0⟩⟩:aI).queue []) J:=Has.jW (Hp.le_refl _);have o7:Has k ((dq EL p ⟨sl⟩).star ((dD 2 eL A (xs++ [⟨w,⟨none,0,0⟩⟩])).star (sW (xs++ [⟨w,⟨none,0,0⟩⟩]) (qs.take i.toNat++ [[]])))) J:=by have oo:=(o6.beside nil).assoc;obtain ⟨h8,_,u,_,c7⟩:=oo.snd;obtain ⟨h9,_,d,_,c8⟩:=u.assoc.snd;exact c7 _ _ (c8 _ _ (X9 (by grind) d))
  refine aP (de.te o7 λk3 u=> ?_);have d1:Rs k3 ak 1 sq B:=Rw.mono u.le M;refine d1.get (λ_=>rfl) (by omega) H (by omega) λ(h:Sl) U=> ?_;rw [T] at U;cases U;have b0:=G.1;have r:(qs.take i.toNat).length=i.toNat:=by grind
  refine aA.intro (λ(j:Int) c=>0<=j/\j<=(q.length:Int)/\∃(s:Sl),Has k (de p A (xs++ [⟨w,s⟩]) (qs.take i.toNat++ [q.take j.toNat])) c) (λj _=>(q.length-j).toNat) ⟨by omega,by omega,_,by simpa using u⟩ ?_;rintro j k4 ⟨j0,j1,s,d⟩;by_cases R:j<(q.length:Int)
  ·rw [if_pos (decide_eq_true (by omega))];have b5:Is k4 y q:=Rw.mono d.le G;refine b5.get (λ_=>rfl) (by omega) j0 R λ(z:Int) g=> ?_;have W:=List.mem_of_getElem? g;have d9:=v3 z W;have b3:(xs++ [(⟨w,s⟩:aI)]).length=(qs.take i.toNat++ [q.take j.toNat]).length:=by simp [r,F]
   refine znq (K7 d b3 ⟨by simp [r];omega,λL hq'=> ?_⟩ (λL hq'=> ?_) ?_)
   ·rcases List.mem_append.1 hq' with hq' | hq'
    ·obtain ⟨b,hb⟩:=List.getElem?_of_mem (List.mem_of_mem_take hq');have d3:=(List.getElem?_eq_some_iff.1 hb).1;exact (v.iy b _ L (List.getElem?_eq_getElem (show b<os.length by omega)) hb).1
    grind
   ·rcases List.mem_append.1 hq' with hq' | hq'
    ·obtain ⟨b,hb⟩:=List.getElem?_of_mem hq';rw [List.getElem?_take] at hb;split at hb
     ·rename_i C;exact v.once b i.toNat L q hb f C z W
     ·cases hb
    ·rw [List.mem_singleton.1 hq'];intro hm;obtain ⟨b,hb⟩:=List.getElem?_of_mem hm;rw [List.getElem?_take] at hb;split at hb
     ·rename_i C;obtain ⟨b1,b2⟩:=List.getElem?_eq_some_iff.1 hb;obtain ⟨c1,c2⟩:=List.getElem?_eq_some_iff.1 g;exact List.pairwise_iff_getElem.1 v4 b j.toNat b1 c1 C (b2.trans c2.symm)
     ·cases hb
   ·refine aK (aK ?_);rw [show (false || decide (z<0) || z==w)=false by simp;omega,if_neg (by decide)];have E:(xs++ [(⟨w,s⟩:aI)])[i.toNat]? =some ⟨w,s⟩:=by rw [<-F];simp
    have b4:(qs.take i.toNat++ [q.take j.toNat])[i.toNat]? =some (q.take j.toNat):=by rw [List.getElem?_append_right (by omega),r];simp
    have m:((i.toNat:Nat):Int)=i:=by omega
    refine aP (d.tM ?_);refine aP (d.tM ?_);have S:=d.qq E (K:=λy=>y=s) rfl;rw [m] at S;obtain ⟨O,Z,V,rfl⟩:=S;refine ⟨O,_,V,?_⟩;obtain ⟨a8,_,b7,c4⟩:=d.f3;obtain ⟨d2,_,b8,c5⟩:=b7.ry E b4;refine gI (xs:=[z]) (sz:=1) (enc:=fw) rfl (λ_=>rfl) λa2 k5 t n5=> ?_;refine ⟨⟨ph t (d.left.eA (n:=1) rfl),ph t (d.left.eA (n:=1) rfl),ph t V,trivial⟩,?_⟩;refine (b8.grow t).app (n5.iq (λ_=>rfl)) (λ_=>rfl) (λ_=>rfl) rfl ⟨by simp [List.length_take];omega,by simp [List.length_take];omega⟩ λs2 k6 c0=> ?_;have X:=c4 _ _ (c5 ⟨w,s2⟩ _ _ c0);refine ⟨⟨X.left.eA (n:=1) rfl,trivial⟩,O,?_⟩;have key:=Has.rA (x:=⟨w,Z⟩) (q:=q.take j.toNat) (h1:=a8) X E λk7 c3=>(show (λh c=>(0<=h/\h<=(q.length:Int)/\∃(s:Sl),Has k (de p A (xs++ [⟨w,s⟩]) (qs.take i.toNat++ [q.take h.toNat])) c)/\((q.length:Int)-h).toNat<((q.length:Int)-j).toNat) (yw (j+1)) k7 from by
     rw [wrap64 (by omega) (by omega)];refine ⟨⟨by omega,by omega,s2,?_⟩,by omega⟩;have t1:(xs++ [(⟨w,Z⟩:aI)]).set i.toNat ⟨w,s2⟩=xs++ [⟨w,s2⟩]:=by rw [List.set_append_right _ _ (by omega),<-F];simp
     have t2:(qs.take i.toNat++ [q.take j.toNat]).set i.toNat (q.take j.toNat++ [z])=qs.take i.toNat++ [q.take (j+1).toNat]:=by rw [List.set_append_right _ _ (by omega),r,show (j+1).toNat=j.toNat+1 by omega,List.take_add_one,g];simp
     rw [<-t1,<-t2];exact c3)
    grind
  ·rw [if_neg (λe=>R (by grind))];rw [wrap64 (by omega) (by omega)];have ej:j.toNat=q.length:=by omega
   rw [ej,List.take_length] at d;refine ⟨⟨by omega,by omega,A,xs++ [⟨w,s⟩],?_,?_⟩,by omega⟩
   ·rw [List.map_append,l,show (i+1).toNat=i.toNat+1 by omega,List.take_add_one,D];rfl
   ·rw [show (i+1).toNat=i.toNat+1 by omega,List.take_add_one,f];exact d
 ·rw [if_neg (λe=>P (by grind))];have m:i.toNat=os.length:=by omega
  rw [m,List.take_length] at l;rw [m,a9.1,List.take_length] at o;exact hq p c o.le (o.iG l (by grind))
end
abbrev eE :av->List Value:=λx=>be (aT.enc x)
def kh (a b:av):Prop:=a.due<b.due\/a.due=b.due/\a.dp<b.dp
theorem Ya (a:av):¬kh a a:=by unfold kh;omega
theorem JE {a b c:av} (h:kh a b) (k:kh b c):kh a c:=by unfold kh at*;omega
theorem Yb {a b:av} (h:¬kh a b) (c:a≠b):kh b a:=by
 unfold kh at*;by_cases d:a.due=b.due
 ·by_cases e:a.dp=b.dp
  ·exact absurd (by cases a;cases b;grind) c
  ·omega
 ·omega
def nK (x y:Int):Int:=if x<y then -1 else if x>y then 1 else 0
theorem VX {x y:Int} {Q:Int->Hp->Prop} {h:Hp} (a:Q (nK x y) h):S4 prog x y Q h:=by
 unfold S4;refine zqb ?_;unfold Vd;refine zqb ?_;unfold Vd;dsimp only;rw [if_neg (by simp),if_neg (by simp)];unfold nK at a;by_cases b:x<y
 ·rw [if_pos (by simpa using b)];rw [if_pos b] at a;exact a
 ·rw [if_neg (by simpa using b)];rw [if_neg b] at a;by_cases c:x>y
  ·rw [if_pos (by simpa using c)];rw [if_pos c] at a;exact a
  ·rw [if_neg (by simpa using c)];rw [if_neg c] at a;exact a
theorem TP {x y:Int} {Q:Int->Hp->Prop} {h:Hp} (a:Q (nK x y) h):U4 prog x y Q h:=by
 unfold U4;refine ztf ?_;unfold XX;refine ztf ?_;unfold XX;dsimp only;rw [if_neg (by simp),if_neg (by simp)];unfold nK at a;by_cases b:x<y
 ·rw [if_pos (by simpa using b)];rw [if_pos b] at a;exact a
 ·rw [if_neg (by simpa using b)];rw [if_neg b] at a;by_cases c:x>y
  ·rw [if_pos (by simpa using c)];rw [if_pos c] at a;exact a
  ·rw [if_neg (by simpa using c)];rw [if_neg c] at a;exact a
theorem Zc {l:Sl} {u v:Int} {Q:Int->Hp->Prop} {h:Hp} (r:Rs h (ab .i64) 1 l [u,v]) (d:Q (if u≠0 then u else v) h):BQ prog l Q h:=by
 unfold BQ;have a:=r.1;simp at a;refine aA.intro (λi k=>k=h/\(i=0\/(i=1/\u=0)\/(i=2/\u=0/\v=0))) (λi _=>(2-i).toNat) ⟨rfl,.inl rfl⟩ ?_;rintro i k ⟨rfl,c⟩;have w:yw (i+1)=i+1:=wrap64 (by omega) (by omega);rw [w];by_cases b:i=2
 ·grind
 ·rw [if_pos (show decide (i<(l.len:Int))=true by simp;omega)];refine Rs.get r (λ_=>rfl) (by omega) (by omega) (by simp;omega) λ(x:Int) e=> ?_;grind
def wH (a b:av):Int:=if nK a.due b.due≠0 then nK a.due b.due else nK a.dp b.dp
theorem sv {a b:av}:wH a b<0↔kh a b:=by unfold wH nK kh;omega
theorem Hv {a b:av} {Q:Int->Hp->Prop} {h:Hp} (e:∀c,h<=c->Q (wH a b) c):Z1 prog a b Q h:=by unfold Z1;refine zzg (VX ⟨⟨trivial,trivial,trivial⟩,?_⟩);refine OF (TP ?_);refine ym (xs:=([nK a.due b.due,nK a.dp b.dp]:List Int)) (enc:=λx=>be ((ab .i64).enc x)) (sz:=1) (Hp.le_refl h) rfl (λ_=>rfl) λa1 d f g=> ?_;exact Wx (dX:=⟨some a1,2,2⟩) (Zc (g.rw λ_=>rfl) (e d f))
theorem Ze {i j:Int} (d:0<=i) (e:0<=j) (c:i+j<9223372036854775808):yw (gW .u64 (IntKind.wrap .u64 (yw (i+j))) 1)=(i+j) / 2:=by
 rw [wrap64 (by omega) c];have a:IntKind.wrap .u64 (i+j)=i+j:=by
  (try unfold yw);unfold IntKind.wrap
  simp only [IntKind.signed,IntKind.bits];grind
 rw [a];have b:gW .u64 (i+j) 1=(i+j) / 2:=by
  unfold gW;have:min (1:Int).toNat (IntKind.bits .u64)=1:=by decide
  grind
 rw [b,wrap64 (by omega) (by omega)]
theorem TQ {x:Sl} {c:List av} {d:av} {Q:Int->Bool->Hp->Prop} {h:Hp} (r:Rw h 2 eE x c) (F:c.length<=4398046511104) (K:c.Pairwise kh)
  (P:∀(i:Nat) b f,h<=f->i<=c.length->(∀e∈c.take i,kh e d)->(∀e∈c.drop i,¬kh e d)->Q (i:Int) b f):
  Nn prog x d ⟨IU, #[], #[]⟩ Q h:=by
 unfold Nn;have T:=r.1;refine dC.intro (λi j k=>h<=k/\0<=i/\i<=j/\j<=(c.length:Int)/\(∀e∈c.take i.toNat,kh e d)/\(∀e∈c.drop j.toNat,¬kh e d)) (λi j _=>(j-i).toNat) ⟨Hp.le_refl h,by omega,by omega,by omega,λe v=>by simp at v,λe v=>by simp [T] at v⟩ ?_;rintro i j k ⟨o,E,W,M,G,D⟩;have B:=r.mono o;split
 ·rename_i e;have e:i<j:=by simpa using e
  rw [Ze E (by omega) (by omega)];have H:i<=(i+j) / 2:=by omega
  have O:(i+j) / 2<j:=by omega
  generalize (i+j) / 2=m at H O;refine ia.intro (λs t U=>h<=U/\0<=s/\s<=t/\t<=(c.length:Int)/\(∀e∈c.take s.toNat,kh e d)/\(∀e∈c.drop t.toNat,¬kh e d)/\t - s<j-i) ?_ ?_
  ·refine ⟨by omega,?_⟩;refine Rs.get (sh:=aT) B (λ_=>rfl) (by omega) (by omega) (by omega) λ(l:av) A=> ?_;refine ⟨IU, #[], #[],rfl,rfl,zxy (a:=l) (b:=d) (Hv λf u=> ?_)⟩;obtain ⟨I,J⟩:=List.getElem?_eq_some_iff.1 A;by_cases p:wH l d<0
   ·rw [if_pos (by simpa using p),wrap64 (by omega) (by omega)];have n:=sv.1 p;refine ⟨Hp.le_trans o u,by omega,by omega,M,λy hy=> ?_,D,by omega⟩;have:(m+1).toNat=m.toNat+1:=by omega
    rw [this,List.take_add_one,A] at hy;rcases List.mem_append.1 hy with hy | hy
    ·obtain ⟨q,g⟩:=List.mem_iff_getElem?.1 hy;rw [List.getElem?_take] at g;split at g
     ·rename_i S;obtain ⟨w,z⟩:=List.getElem?_eq_some_iff.1 g;have:=List.pairwise_iff_getElem.1 K q m.toNat w I S;rw [z,J] at this;exact JE this n
     ·cases g
    ·have:y=l:=by simpa using hy
     rw [this];exact n
   ·rw [if_neg (by simpa using p)];have n:¬kh l d:=λh=>p (sv.2 h);refine ⟨Hp.le_trans o u,E,H,by omega,G,λy hy=> ?_,by omega⟩;obtain ⟨q,g⟩:=List.mem_iff_getElem?.1 hy;rw [List.getElem?_drop] at g;obtain ⟨w,z⟩:=List.getElem?_eq_some_iff.1 g;by_cases R:q=0
    ·subst R;rw [Nat.add_zero,A] at g;cases g;exact n
    ·have:=List.pairwise_iff_getElem.1 K m.toNat (m.toNat+q) I w (by omega);rw [z,J] at this;exact λhy=>n (JE this hy)
  grind
 ·rename_i e;have e:¬i<j:=by simpa using e
  have N:j=i:=by omega
  subst N;have X:(j.toNat:Int)=j:=by omega
  have C:∀b f,k<=f->Q j b f:=λb f F=>by have:=P j.toNat b f (Hp.le_trans o F) (by omega) G D;grind
  cases L:decide (j<(x.len:Int)) with
  | false=>refine Rs.qf (sh:=aT) B (⟨0,0⟩:av) (λ_=>rfl) (by omega) (λe=>by cases e) λ(l:av) _=> ?_;exact ⟨λe=>(by cases e),λ_=>⟨0,aK (C _ k (Hp.le_refl k))⟩⟩
  | true=>
   have V:j<(x.len:Int):=by simpa using L
   refine Rs.qf (sh:=aT) B (⟨0,0⟩:av) (λ_=>rfl) (by omega) (λ_=>by omega) λ(l:av) _=> ?_;refine MT ⟨IU, #[], #[],rfl,rfl,zxy (a:=l) (b:=d) (Hv λf u=>aK (C _ f u))⟩
theorem MU {P:Program} (d:Nat) (a b:Array Value):∀(L:List (Field×IntKind×Int×Int)) (w:World),
  (∀q∈L,q.1.name≠ "_" ∧P.underlying q.1.type=some (.int q.2.1)∧a[q.1.offset]? =some (.int q.2.1 q.2.2.1)∧b[q.1.offset]? =some (.int q.2.1 q.2.2.2))→
  (Op.eqFields (d+1) a b (L.map (·.1))).run P w=.ok (L.all λq=>q.2.2.1==q.2.2.2) w
 | [],w,_=>by simp [Op.eqFields]
 | q::L,w,h=>by
  obtain ⟨e,c,f,g⟩:=h q (List.mem_cons_self ..);have k:=MU d a b L w λl j=>h l (List.mem_cons_of_mem _ j);have i:(isAgg q.1.type).run P w=.ok false w:=by simp [isAgg,run_underlying c]
  simp only [List.map_cons,Op.eqFields,Sem.run_bind,if_pos e,part,i,Result.andThen_ok,Bool.false_eq_true,if_false,f,g,Sem.run_pure,run_equalIn_int w d q.1.type q.2.1 q.2.1 q.2.2.1 q.2.2.2 c];cases hb:(q.2.2.1==q.2.2.2) with
  | false=>simp [hb]
  | true=>simp [hb,k]
theorem Lb {P:Program} {t:Nat} {x y:Operand} {h:Hp} {a b:Array Value} (L:List (Field×IntKind×Int×Int)) (e:P.underlying t=some (.struct (L.map (·.1)).toArray)) (i:P.eqGuardType P.depth t=false) (hp:P.stoodInHeld t=false)
  (g:∀q∈L,q.1.name≠ "_" ∧P.underlying q.1.type=some (.int q.2.1)∧a[q.1.offset]? =some (.int q.2.1 q.2.2.1)∧b[q.1.offset]? =some (.int q.2.1 q.2.2.2)):
  ic P (cE .eql t x y (.agg a) (.agg b)) h (.bool (L.all λq=>q.2.2.1==q.2.2.2)):=by
 refine Jk λw=> ?_;have d:P.fieldsOf t=(L.map (·.1)).toArray:=by unfold Program.fieldsOf;rw [e]
 have j:P.underlying t=some (.struct (P.fieldsOf t)):=by rw [d];exact e
 have c:=run_equalIn_struct (P:=P) w 9999 t a b j hp;rw [d] at c;have f:=MU (P:=P) 9998 a b L w g;unfold cE;simp only [Sem.run_bind,run_eqGuard_agg w .eql t x y a b i,Result.andThen_ok,run_eql_struct];rw [show (10000:Nat)=9999+1 from rfl,c];simp only [f,Result.andThen_ok]
def Wh (h:Hp) (p:Addr) (a:List av) (F:List Nat):Prop:=
 ∃(b m:Nat) (sl:Sl) (G:List Nat) (c:List (Int×av)),p=⟨b,0,none⟩/\F=b::m::G/\fN h b [sl.v,.map (some m)]/\df h 2 eE sl a G/\fV h m .i64 aT.enc c/\b∉G/\b≠m/\m∉G/\
  (c.map (·.1)).Nodup/\(∀id e,gT id c=some e↔e∈a/\e.dp=id)/\a.Pairwise kh
theorem fV.same {V:Type} {h a:Hp} {m:Nat} {k:IntKind} {ev:V->Value} {b:List (Int×V)} (f:fV h m k ev b) (e:a m=h m):fV a m k ev b:=by obtain ⟨g,ck,c,d⟩:=f;exact ⟨g,ck,by rw [e];exact c,d⟩
theorem fV.known {V:Type} {h:Hp} {m:Nat} {k:IntKind} {ev:V->Value} {c:List (Int×V)} (b:fV h m k ev c):h m≠none:=by obtain ⟨e,ck,a,d⟩:=b;rw [a];simp
theorem fV.mv {V:Type} {h b:Hp} {m:Nat} {k:IntKind} {ev:V->Value} {c:List (Int×V)} {F d:List Nat} (g:fV h m k ev c) (a:Mv F h d b) (i:m∉F):fV b m k ev c:=by obtain ⟨j,ck,e,f⟩:=g;exact ⟨j,ck,a.cF m _ e i,f⟩
theorem fN.same {h c:Hp} {b:Nat} {a:List Value} (k:fN h b a) (e:c b=h b):fN c b a:=by obtain ⟨t,d⟩:=k;exact ⟨t,by rw [e];exact d⟩
theorem Wh.same {h e:Hp} {p:Addr} {d:List av} {F:List Nat} (w:Wh h p d F) (a:∀b∈F,e b=h b):Wh e p d F:=by obtain ⟨b,m,sl,G,o,f,g,i,j,k,l⟩:=w;subst g;exact ⟨b,m,sl,G,o,f,rfl,i.same (a b (by simp)),j.same (λc n=>a c (by simp [n])),k.same (a m (by simp)),l⟩
theorem Wh.known {h:Hp} {p:Addr} {a:List av} {F:List Nat} (w:Wh h p a F):∀b∈F,h b≠none:=by
 obtain ⟨b,m,sl,G,k,i,d,e,f,g,j⟩:=w;subst d;intro c hc;simp only [List.mem_cons] at hc;rcases hc with rfl | rfl | hc
 ·exact e.known
 ·exact g.known
 ·exact f.known c hc
theorem Wh.sorted {h:Hp} {p:Addr} {a:List av} {F:List Nat} (w:Wh h p a F):a.Pairwise kh:=by obtain ⟨b,m,sl,G,q,d,f,g,i,j,k,l,n,o,e,c⟩:=w;exact c
theorem Wh.ids {h:Hp} {p:Addr} {a:List av} {F:List Nat} (w:Wh h p a F) {x y:av} (d:x∈a) (f:y∈a) (e:x.dp=y.dp):x=y:=by obtain ⟨b,m,sl,G,v,j,l,n,o,q,r,s,t,u,c,k⟩:=w;have g:=(c x.dp x).2 ⟨d,rfl⟩;have i:=(c x.dp y).2 ⟨f,e.symm⟩;grind
theorem tV {h:Hp} {b:Nat} {a:List Value} (k:fN h b a) {sh:Shape} (x:sh.T) {j:Nat} (c:(a.drop j).take (be (sh.enc x)).length=be (sh.enc x)) {K:sh.T->Prop} (d:K x):aN none sh h ((⟨b,0,none⟩:Addr).add j) K:=by refine ⟨x,?_,d⟩;show bp h ((⟨b,0,none⟩:Addr).add j) _;rw [jM,Nat.zero_add];exact k.na c
theorem Yc {h:Hp} {b:Nat} {a:List Value} (k:fN h b a) {sh:Shape} (x:sh.T) {j:Nat} {c:Bool} (f:(a.drop j).take (be (sh.enc x)).length=be (sh.enc x)) {K:sh.T->Prop} (g:K x):aN (some c) sh h ((⟨b,0,none⟩:Addr).add j) K:=by obtain ⟨y,d,e⟩:=tV k (sh:=sh) x f (K:=λy=>y=x) rfl;exact ⟨y,λ_=>d,e▸g⟩
theorem V0 {Q:Option Addr->Hp->Prop} {h:Hp} (k:∀p F a,h<=a->(∀b∈F,h b=none)->Wh a p [] F->Q (some p) a):MD prog Q h:=by
 unfold MD;intro m f;have g:=lP (o:=.map #[] 0) f;intro b t hb;have i:=lP (o:=.cells (([.slice none 0 0,.map (some m)]:List Value).toArray) t (0,0)) hb;have j:b≠m:=λe=>by rw [e,mI] at hb;cases hb
 refine k ⟨b,0,none⟩ [b,m] _ (Hp.le_trans g i) (λc d=> ?_) ⟨b,m,⟨none,0,0⟩,[],[],rfl,rfl,⟨t,mI⟩,⟨rfl,Nat.le_refl _,.inl ⟨rfl,rfl,rfl⟩⟩,⟨[],0,i _ _ mI,rfl⟩,by simp,j,by simp,by simp,λid e=>by simp [gT],List.Pairwise.nil⟩;simp only [List.mem_cons,List.not_mem_nil,or_false] at d;rcases d with rfl | rfl
 ·exact sK g hb
 ·exact f
theorem V3 {p:Addr} {a:List av} {F:List Nat} {id:Int} {Q:Int->Bool->Hp->Prop} {h:Hp} (w:Wh h p a F) (d:(∀e∈a,e.dp≠id)->Q 0 false h) (k:∀e∈a,e.dp=id->Q e.due true h):
  LZ prog (some p) id Q h:=by
 obtain ⟨b,m,sl,G,t,rfl,rfl,g,n,i,o,q,r,s,f,l⟩:=w;unfold LZ;refine aP (tV g (sh:=gL) (some m) rfl ?_);refine xU (sh:=aT) (z:=⟨0,0⟩) i rfl (λj=>d λe c hid=> ?_) λe c=> ?_
 ·have:=(f id e).2 ⟨c,hid⟩;rw [j] at this;cases this
 grind
theorem V6 {a b:List av} (c:a.Pairwise kh) (h:b.Sublist a):b.Pairwise kh:=c.sublist h
theorem BX {a:List av} (b:a.Pairwise kh):a.Nodup:=b.imp λh e=>by subst e;exact Ya _ h
set_option maxHeartbeats 1000000 in
theorem C7 {p:Addr} {a:List av} {F:List Nat} {id:Int} {Q:Bool->Hp->Prop} {h:Hp} (w:Wh h p a F) (hl:a.length<=4398046511104) (X:(∀e∈a,e.dp≠id)->Q false h)
  (u:∀(i:Nat) e d,a[i]? =some e->e.dp=id->Mv F h F d->Wh d p (a.take i++a.drop (i+1)) F->Q true d):LU prog (some p) id Q h:=by
 obtain ⟨b,m,sl,G,E,rfl,rfl,y,B,N,O,R,S,T,L,M⟩:=w;unfold LU;refine aP (tV y (sh:=gL) (some m) rfl ?_);refine xU (sh:=aT) (z:=⟨0,0⟩) N rfl (λhn=> ?_) λe C=> ?_
 ·rw [if_pos (by rfl)];refine X λe C hid=> ?_;have:=(L id e).2 ⟨C,hid⟩;grind
 rw [if_neg (by simp)];obtain ⟨b8,hid⟩:=(L id e).1 C;refine aP (tV y (sh:=ak) sl rfl ?_);have b7:=B.1;have rs:Rw h 2 eE sl a:=B.rw λ_=>rfl;refine aA.intro (λi k=>k=h/\0<=i/\i<=(a.length:Int)/\e∉a.take i.toNat) (λi _=>(a.length-i).toNat) ⟨rfl,by omega,by omega,by simp⟩ ?_;rintro i k ⟨rfl,a9,b5,c1⟩;split
 ·rename_i r;have r:i<(sl.len:Int):=by simpa using r
  refine Rs.get (sh:=aT) rs (λ_=>rfl) (by omega) a9 (by omega) λ(x:av) A=> ?_;refine ⟨_,Lb [(⟨ "due",2,0,false, "", "firebreak/wheel",0⟩,.i64,x.due,e.due),(⟨ "id",3,1,false, "", "firebreak/wheel",8⟩,.i64,x.dp,e.dp)] (ah.aH 203 qG rfl) (by kernel_rfl) (by kernel_rfl) (λq U=> ?_),?_⟩
  ·simp only [List.mem_cons,List.not_mem_nil,or_false] at U;rcases U with rfl | rfl
   ·exact ⟨by simp,ah.aH 2 rD rfl,rfl,rfl⟩
   ·exact ⟨by simp,ah.aH 3 tl rfl,rfl,rfl⟩
  ·dsimp only;by_cases V:x=e
   ·subst V;rw [if_pos (by simp)];refine aP (tV y (sh:=ak) sl rfl ?_);have b6:i.toNat<a.length:=(List.getElem?_eq_some_iff.1 A).1;have b0:((i.toNat:Nat):Int)=i:=by omega
    have b1:((i.toNat+1:Nat):Int)=i+1:=by omega
    rw [wrap64 (by omega) (by omega)];have a8:∀(s:Sl->Hp->Prop),(∀l d,df d 2 eE l (a.take i.toNat++a.drop (i.toNat+1)) G->Mv G k G d->s l d)->zea prog sl i (i+1) s k:=by
     intro s Y;have:=Y3 (P:=prog) (h:=k) (sz:=2) (enc:=eE) (bytes:=16) (tS:=205) (tE:=203) (z:=.agg #[.int .i64 0,.int .i64 0]) (i:=i.toNat) (j:=i.toNat+1) (Q:=s) (ah.aH 205 sD rfl)
      (λhk=>DD ah (t:=203) (e:=qG) rfl hk)
      (λ_=>rfl) (λ_=>rfl) rfl (λn=>by
       induction n with
       | zero=>rfl
       | succ n ih=>exact ih) B (by omega) (by omega) (by omega) Y
     rw [b0,b1] at this;exact this
    refine zhn (a8 _ λl d o' H=> ?_);have k3:fN d b [sl.v,.map (some m)]:=y.mv H O;refine aP ?_;refine AV (b:=b) (off:=0) k3 (by simp) λf I k2=> ?_;have o2:df f 2 eE l (a.take i.toNat++a.drop (i.toNat+1)) G:=o'.mv I (λc g=>by grind);have W:fN f b [l.v,.map (some m)]:=by simpa using k2
    refine aP (tV W (sh:=gL) (some m) rfl ?_);have b3:fV f m .i64 aT.enc E:=(N.mv H S).mv I (by grind);refine Tq b3 λo ho b4=> ?_;have D:Mv [m] f [m] (f.set m o):=Mv.set;refine u i.toNat x _ A hid ?_ ⟨b,m,l,G,lM id E,rfl,rfl,W.mv D (by simp;exact R),o2.mv D (λc g=>by grind),b4,O,R,S,QU id T,?_,?_⟩
    ·have J:Mv (b::m::G) k (b::m::G) d:=H.sub (λc g=>by simp [g]) λc g=>.inr (.inl g);have K:Mv (b::m::G) d (b::m::G) f:=I.sub (λc g=>by grind) λc g=>.inr (.inl g);have q3:Mv (b::m::G) f (b::m::G) (f.set m o):=D.sub (λc g=>by grind) λc g=>.inr (.inl g);exact J.trans (K.trans q3)
    ·intro b2 e';rw [Hk b2 id E T];have c0:=BX M;have c2:a=a.take i.toNat++x::a.drop (i.toNat+1):=by
      have Z:a.drop i.toNat=x::a.drop (i.toNat+1):=by obtain ⟨J,K⟩:=List.getElem?_eq_some_iff.1 A;rw [List.drop_eq_getElem_cons J,K]
      rw [<-Z,List.take_append_drop]
     grind
    ·refine V6 M ?_;have:(a.take i.toNat++a.drop (i.toNat+1)).Sublist (a.take i.toNat++a.drop i.toNat):=by grind
     rw [List.take_append_drop] at this;exact this
   ·rw [if_neg (by
     simp;intro u f;exact V (by cases x;cases e;simp at u f;simp [u,f])),wrap64 (by omega) (by omega)]
    refine ⟨⟨rfl,by omega,by omega,?_⟩,by omega⟩;have:(i+1).toNat=i.toNat+1:=by omega
    rw [this,List.take_add_one,A];grind
 ·rename_i r;have r:¬i<(sl.len:Int):=by simpa using r
  have:i.toNat=a.length:=by omega
  grind
theorem Rd {l:List av} {e:av} {i:Nat} (c:l.Pairwise kh) (d:∀x∈l.take i,kh x e) (b:∀x∈l.drop i,kh e x):(l.take i++e::l.drop i).Pairwise kh:=by have a:=c;rw [<-List.take_append_drop i l] at a;obtain ⟨a1,a2,a3⟩:=List.pairwise_append.1 a;refine List.pairwise_append.2 ⟨a1,List.pairwise_cons.2 ⟨b,a2⟩,λx f y g=> ?_⟩;grind
set_option maxHeartbeats 1000000 in
theorem V9 {p:Addr} {g:List av} {F:List Nat} {id due:Int} {Q:Int->Hp->Prop} {h:Hp} (w:Wh h p g F) (hl:g.length<=4398046511104) (h0:id<0\/due<0->Q 1 h)
  (h1:0<=id->0<=due->∀L B u,Mv F h B u->Wh u p L B->(∀x,x∈L↔x=⟨due,id⟩\/(x∈g/\x.dp≠id))->L.length<=g.length+1->Q 0 u):L3 prog (some p) id due Q h:=by
 unfold L3;refine aK ?_;by_cases d4:id<0\/due<0
 ·grind
 rw [if_neg (by simp;omega)];have hid:0<=id:=by omega
 have b6:0<=due:=by omega
 have core:∀(f:List av) (k:Hp),Mv F h F k->Wh k p f F->(∀x,x∈f↔(x∈g/\x.dp≠id))->f.length<=g.length->
   ag none (some p) λp0=>aN none ak k (Addr.add p0 0) λx=>
   bI prog LF [x.v,(.agg #[(.int .i64 due),(.int .i64 id)]),(.func (.func 145) #[] #[])] (ab .i64) aQ (λr1 r2 M=>
    ag none (some p) λp1=>aN none ak M (Addr.add p1 0) λx1=>
    bD [(.int .i64 due),(.int .i64 id)] (λa l=>
    (((bp l (Addr.add p1 0) [x1.v])/\True)/\aa prog Ob [x1.v,(.int .i64 r1),(.slice (some a) 1 1)] ak (λr3 D=>
    ag none (some p) λp2=>cD D (Addr.add p2 0) [r3.v] (λr=>
    ag none (some p) λp3=>aN none gL r (Addr.add p3 1) λx2=>
    rF (.int .i64) x2 (.int .i64 id) (.agg #[(.int .i64 due),(.int .i64 id)]) (λh6=>Q 0 h6) r)) l)) M) k:=by
  intro f k mk wk b8 d1;obtain ⟨b,m,sl,G,T,rfl,rfl,H,O,k5,k6,k7,k8,k9,d6,b1⟩:=wk;refine aP (tV H (sh:=ak) sl rfl ?_);have hE:(⟨due,id⟩:av)∉f:=λhm=>((b8 _).1 hm).2 rfl;refine zcy (x:=sl) (target:=⟨due,id⟩) (cmp:=⟨IU, #[], #[]⟩) (TQ (O.rw λ_=>rfl) (by omega) b1 λi _ M U E c2 c0=> ?_);refine aP (tV (H.le U) (sh:=ak) sl rfl ?_);refine Bk (xs:=[(⟨due,id⟩:av)]) (enc:=eE) (sz:=2) rfl (λ_=>rfl) λC l b5 l3 m3 o3=> ?_;have A:=Hp.le_trans U l3;refine ⟨⟨?_,trivial⟩,?_⟩
  ·obtain ⟨y,hy,c5⟩:=tV (H.le A) (sh:=ak) sl (j:=0) rfl (K:=λy=>y=sl) rfl;subst c5;exact hy
  have hG:∀c∈G,c≠C:=λc d e=>by have:=O.known c d;rw [e] at this;exact this (sK U b5)
  have o4:df l 2 eE sl f G:=by refine O.mv (Mv.of_le [] A) λc _=>by simp
  have S:∃Y,fN l C Y:=by obtain ⟨_,_,d7⟩:=o3;grind
  obtain ⟨Y,S⟩:=S;have c1:∀(J:Sl->Hp->Prop),(∀z u B,df u 2 eE z (f.take i++⟨due,id⟩::f.drop i) B->Mv G l B u->J z u)->zdz prog sl (i:Int) ⟨some ⟨C,0,none⟩,1,1⟩ J l:=by
   intro J hQ;obtain ⟨ti,e1,_⟩:=ah.info 203 qG rfl;exact Y1 (P:=prog) (h:=l) (sz:=2) (enc:=eE) (bytes:=16) (tS:=205) (tR:=4) (tE:=203) (zero:=[.int .i64 0,.int .i64 0]) (R:=λy K h=>bK prog zfw [y.v,.int .i64 1] K h) (i:=i) (Q:=J)
    (ah.aH 205 sD rfl) e1 (λ_=>rfl) (by omega) (λ_=>rfl) rfl (λn=>by
     induction n with
     | zero=>rfl
     | succ n ih=>exact ih) o4 (o3.rw λ_=>rfl) rfl S (λd=>hG C d rfl) E (by omega) hQ
  refine zhm (s:=sl) (i:=(i:Int)) (v:=⟨some ⟨C,0,none⟩,1,1⟩) (c1 _ λz D t o5 I=> ?_);have c7:fN D b [sl.v,.map (some m)]:=(H.le A).mv I k6;have b4:b∉t:=λd=>by
   rcases I.from_ b d with q | q
   ·exact k6 q
   ·exact (H.le A).known q
  have b3:fV l m .i64 aT.enc T:=k5.mv (Mv.of_le [] A) (by simp);have c3:m∉t:=λd=>by
   rcases I.from_ m d with q | q
   ·exact k8 q
   ·exact b3.known q
  refine aP ?_;refine AV (b:=b) (off:=0) c7 (by simp) λr V c6=> ?_;have b2:fN r b [z.v,.map (some m)]:=by simpa using c6
  refine aP (tV b2 (sh:=gL) (some m) rfl ?_);have c8:fV r m .i64 aT.enc T:=(b3.mv I k8).mv V (by grind);have o6:df r 2 eE z (f.take i++⟨due,id⟩::f.drop i) t:=o5.mv V (λc d=>by grind);refine KW (v:=(⟨due,id⟩:av)) c8 λo ho d0=> ?_;have N:Mv [m] r [m] (r.set m o):=Mv.set;have d3:∀x,x∈f.take i++(⟨due,id⟩:av)::f.drop i↔x=⟨due,id⟩\/x∈f:=by
   intro x;constructor
   ·grind
   ·rintro (rfl | hx)
    ·simp
    ·rw [<-List.take_append_drop i f] at hx;grind
  refine h1 hid b6 _ (b::m::t) _ ?_ ⟨b,m,z,t,jU id ⟨due,id⟩ T,rfl,rfl,b2.mv N (by simp;exact k7),o6.mv N (λc d=>by grind),d0,b4,k7,c3,J9 id _ k9,?_,?_⟩ ?_ ?_
  ·have W:Mv (b::m::G) h (b::m::G) l:=mk.trans (Mv.of_le _ A);have X:Mv (b::m::G) l (b::m::t) D:=I.sub (λc d=>by simp [d]) λc d=>by grind
   have q3:Mv (b::m::t) D (b::m::t) r:=V.sub (λc d=>by grind) λc d=>.inr (.inl d);have q4:Mv (b::m::t) r (b::m::t) (r.set m o):=N.sub (λc d=>by grind) λc d=>.inr (.inl d);exact W.trans (X.trans (q3.trans q4))
  ·intro d5 Z;rw [xS];grind
  ·refine Rd b1 c2 λx hx=>Yb (c0 x hx) λe=> ?_;grind
  ·grind
  ·simp;omega
 refine GQ (C7 w hl (λhn=> ?_) λi e u E b7 m' w'=> ?_)
 ·exact core g h (Mv.refl _ _) w (λx=>⟨λhx=>⟨hx,hn x hx⟩,λhx=>hx.1⟩) (Nat.le_refl _)
 ·have d2:=(List.getElem?_eq_some_iff.1 E).1;refine core _ u m' w' (λx=> ?_) (by simp;omega);have hd:g.drop i=e::g.drop (i+1):=by obtain ⟨W,X⟩:=List.getElem?_eq_some_iff.1 E;rw [List.drop_eq_getElem_cons W,X]
  have c4:g=g.take i++e::g.drop (i+1):=by rw [<-hd,List.take_append_drop]
  have a8:=BX w.sorted;rw [c4] at a8;have a9:=List.nodup_append.1 a8;constructor
  ·intro hx;have b0:x∈g:=by
    rcases List.mem_append.1 hx with hx | hx
    ·exact List.mem_of_mem_take hx
    ·exact List.mem_of_mem_drop hx
   refine ⟨b0,λZ=> ?_⟩;have:x=e:=w.ids b0 (List.mem_of_getElem? E) (Z.trans b7.symm);subst this;rcases List.mem_append.1 hx with hx | hx
   ·exact a9.2.2 x hx x (List.mem_cons_self ..) rfl
   ·exact (List.nodup_cons.1 a9.2.1).1 hx
  grind
abbrev Fj :Int->List Value:=λx=>be ((ab .i64).enc x)
set_option maxHeartbeats 1000000 in
theorem Wc {p:Addr} {f:List av} {F:List Nat} {n:Int} {Q:Sl->Hp->Prop} {h:Hp} (w:Wh h p f F) (hl:f.length<=4398046511104)
  (O:∀out h' done rest G F',f=done++rest->(∀x∈done,x.due<=n)->(∀x r,rest=x::r->n<x.due)->df h' 1 Fj out (done.map (·.dp)) G->Wh h' p rest F'->(∀c∈G,c∉F')->Mv F h (F'++G) h'->Q out h'):
  L4 prog (some p) n Q h:=by
 unfold L4;refine aA.intro (λout k=>∃done rest G F',f=done++rest/\(∀x∈done,x.due<=n)/\df k 1 Fj out (done.map (·.dp)) G/\Wh k p rest F'/\(∀c∈G,c∉F')/\Mv F h (F'++G) k) (λout _=>f.length-out.len)
  ⟨[],f,[],F,rfl,by simp,⟨rfl,Nat.le_refl _,.inl ⟨rfl,rfl,rfl⟩⟩,w,by simp,by simpa using Mv.refl F h⟩ ?_
 rintro out k ⟨done,rest,G,F',hsp,hdn,ho,wk,hdis,hm⟩;have b2:=ho.1;have s:=wk;obtain ⟨b,m,sl,a,b8,rfl,rfl,z,I,h5,h6⟩:=wk;have M:=I.1;refine aP (tV z (sh:=ak) sl rfl ?_);have rs:Rw k 2 eE sl rest:=I.rw λ_=>rfl;refine ⟨_,λ_=>rfl,?_⟩;refine Yc z (sh:=ak) sl rfl ?_;refine rs.MX (λ_=>rfl) (by omega) (sh:=ab .i64) (λx=>x.due) (j:=0) (λ_=>rfl) (0:Int) (λhc=>by simp at hc;omega) λ(y:Int) hy=> ?_;refine aK ?_;cases rest with
 | nil=>
  have T:sl.len=0:=by simpa using M
  rw [if_neg (by simp [T])];exact O out k done [] G _ hsp hdn (λx r e=>by cases e) ho s hdis hm
 | cons e r=>
  simp at M;have N:decide ((sl.len:Int)>0)=true:=by simp;omega
  obtain ⟨x,hx,b4⟩:=hy N;have Y:e=x:=by simpa using hx
  subst Y;subst b4;rw [N,Bool.true_and];by_cases B:e.due<=n
  ·rw [if_pos (by simpa using B)];refine aP (tV z (sh:=ak) sl rfl ?_);refine rs.Lx (λ_=>rfl) (by omega) (sh:=ab .i64) (λx=>x.dp) (j:=1) (λ_=>rfl) (by omega) (by simp<;>omega) λx' b3=> ?_;have:e=x':=by simpa using b3
   subst this;have b7:done.length+(r.length+1)=f.length:=by rw [hsp];simp
   refine Bk (xs:=[e.dp]) (enc:=Fj) (sz:=1) rfl (λ_=>rfl) λS g U C m1 o1=> ?_;have b6:∀c∈G,c≠S:=λc hc t=>ho.known c hc (by rw [t];exact U);have b1:df g 1 Fj out (done.map (·.dp)) G:=ho.mv (Mv.of_le [] C) (by simp);have E:Wh g ⟨b,0,none⟩ (e::r) (b::m::a):=by
    refine s.same λc hc=> ?_;cases l:k c with
    | none=>exact absurd l (s.known c hc)
    | some o=>exact C c o l
   refine wv b1 (o1.rw λ_=>rfl) (λ_=>rfl) (λ_=>rfl) rfl (by simp;omega) λl' v d R D=> ?_;have H:Wh v ⟨b,0,none⟩ (e::r) (b::m::a):=by
    refine E.same λc hc=> ?_;cases l:g c with
    | none=>exact absurd l (E.known c hc)
    | some o=>exact D.cF c o l λV=>hdis c V hc
   have K:∀c∈d,c∉b::m::a:=λc hc J=>by
    rcases D.from_ c hc with q | q
    ·exact hdis c q J
    ·exact E.known c J q
   refine GQ (C7 H (by simp;omega) (λhn=>absurd rfl (hn e (List.mem_cons_self ..))) λi u A L X P w3=> ?_);have W:u=e:=H.ids (List.mem_of_getElem? L) (List.mem_cons_self ..) X;subst W;have Z:i=0:=by have b0:=BX H.sorted;obtain ⟨a9,a8⟩:=List.getElem?_eq_some_iff.1 L;have:=(List.getElem_inj (i:=i) (j:=0) (h₀:=a9) (h₁:=by simp) b0).1 (by rw [a8];rfl);exact this
   subst Z;have b5:Wh A ⟨b,0,none⟩ r (b::m::a):=by simpa using w3
   have o3:df A 1 Fj l' (done.map (·.dp)++ [u.dp]) d:=R.mv P K;refine ⟨⟨done++ [u],r,d,b::m::a,by rw [hsp];simp,λx hx=> ?_,by simpa using o3,b5,K,?_⟩,?_⟩
   ·rcases List.mem_append.1 hx with hx | hx
    ·exact hdn x hx
    ·rw [List.mem_singleton.1 hx];exact B
   ·have q1:Mv (b::m::a++G) k (b::m::a++G) g:=Mv.of_le _ C;have q2:Mv (b::m::a++G) g (b::m::a++d) v:=D.sub (λc hc=>List.mem_append_right _ hc) λc hc=>by
     rcases List.mem_append.1 hc with hc | hc
     ·exact .inr (.inl (List.mem_append_left _ hc))
     ·exact .inl hc
    have q3:Mv (b::m::a++d) v (b::m::a++d) A:=P.wide d;exact hm.trans (q1.trans (q2.trans q3))
   ·have:=R.1;simp at this b2;omega
  ·rw [if_neg (by simpa using B)];refine O out k done (e::r) G _ hsp hdn (λx r' t=> ?_) ho s hdis hm;cases t;omega
def EC (p:Addr) (d:List av):dB where
 R k F:=∃B,Wh k p d B/\∀b,F b↔b∈B
 same:=λ⟨B,h,e⟩ f=>⟨B,h.same λc a=>f c ((e c).2 a),e⟩
 known:=λ⟨B,h,e⟩ c a=>h.known c ((e c).1 a)
structure WT (es:List av) (tm:Nat->Int) (n:Nat):Prop where
 low:∀i,0<=tm i
 yL:∀x∈es,0<=x.dp/\x.dp<n/\0<x.due/\tm x.dp.toNat=x.due
 has:∀i:Nat,0<tm i->(⟨tm i,(i:Int)⟩:av)∈es
def rP (p:Addr) (a:Nat->Int) (n:Nat):dB:=.some_ λes:List av=>(EC p es).star (.fact (WT es a n))
section
variable {h0 k:Hp} {p:Addr} {es:List av} {g:Nat->Int} {n:Nat}
theorem Has.both {A B:dB} {F1 F2:Nat->Prop} (f:h0<=k) (a:A.R k F1) (b:B.R k F2) (d:∀c,F1 c->¬F2 c) (f1:∀c,F1 c->h0 c=none) (f2:∀c,F2 c->h0 c=none):Has h0 (A.star B) k:=
 ⟨f,λc=>F1 c\/F2 c,⟨F1,F2,λ_=>Iff.rfl,d,a,b⟩,λc e=>e.elim (f1 c) (f2 c)⟩
theorem slR {i:Type} {sz:Nat} {enc:i->List Value} {l:Sl} {f:List i} {F:List Nat} (o:df k sz enc l f F):(dD sz enc l f).R k λb=>b∈F:=by
 obtain ⟨a,d,q⟩:=o;rcases q with ⟨e,m,rfl⟩ | ⟨b,j,e,rfl,hb,s,r⟩
 ·exact ⟨a,d,.inl ⟨e,m,λ_ h=>by cases h⟩⟩
 ·exact ⟨a,d,.inr ⟨b,0,j,e,λc=>List.mem_singleton,hb,by omega,by simpa using r⟩⟩
theorem Has.LD (o:Has h0 (EC p es) k):∃B,Wh k p es B/\∀b∈B,h0 b=none:=by obtain ⟨l,F,⟨B,w,e⟩,f⟩:=o;grind
theorem Has.Bp {B a:List Nat} {c:Hp} {d:List av} (f:h0<=k) (h:∀b∈B,h0 b=none) (m:Mv B k a c) (w:Wh c p d a):Has h0 (EC p d) c:=by
 refine ⟨λb o e=>m.cF b o (f b o e) λhb=> ?_,λb=>b∈a,⟨a,w,λb=>Iff.rfl⟩,λb hb=> ?_⟩
 ·grind
 ·rcases m.from_ b hb with h1 | h1
  ·exact h b h1
  ·cases e:h0 b with
   | none=>rfl
   | some o=>rw [f b o e] at h1;cases h1
theorem Has.pM (o:Has h0 (rP p g n) k):∃es,WT es g n/\Has h0 (EC p es) k:=by obtain ⟨es,o⟩:=Has.ex.1 o;obtain ⟨a,b⟩:=o.jw;grind
theorem Has.mE {k:Hp} (t:WT es g n) (o:Has h0 (EC p es) k):Has h0 (rP p g n) k:=Has.ex.2 ⟨es,o.fu t⟩
theorem Df {B:List Nat} (t:WT es g n) (w:Wh k p es B):es.length<=n:=by
 have h:(es.map λx=>x.dp.toNat).Nodup:=by
  have m:=w.sorted;have hid:=λx d y f=> @Wh.ids _ _ _ _ w x y d f;clear w;have hp:=t.yL;have j:es.Pairwise λa b=>a.dp≠b.dp:=by refine m.imp_of_mem λ{a b} c hb i e=> ?_;have:=hid a c b hb e;subst this;unfold kh at i;omega
  refine List.pairwise_map.2 (j.imp_of_mem λ{a b} c hb l e=>l ?_);have:=hp a c;have:=hp b hb;omega
 have:=Mw n (es.map λx=>x.dp.toNat) h λx d=>by obtain ⟨y,f,rfl⟩:=List.mem_map.1 d;have:=t.yL y f;omega
 grind
theorem Wf {n:Nat} {Q:Option Addr->Hp->Prop} (d:∀p a,k<=a->Has k (rP p (λ_=>0) n) a->Q (some p) a):MD prog Q k:=by refine V0 λp F a l c w=>d p a l (Has.mE (es:=[]) ⟨λ_=>Int.le_refl _,by simp,λi h=>absurd h (by decide)⟩ ⟨l,λb=>b∈F,⟨F,w,λb=>Iff.rfl⟩,c⟩)
theorem Hw {i:Nat} {Q:Int->Bool->Hp->Prop} (o:Has h0 (rP p g n) k) (f:∀b,Q (g i) b k):LZ prog (some p) (i:Int) Q k:=by
 obtain ⟨es,t,o⟩:=o.pM;obtain ⟨B,w,d⟩:=o.LD;refine V3 w (λc=> ?_) λe a hid=> ?_
 ·have:g i=0:=by
   have:=t.low i;by_cases h:0<g i
   ·exact absurd rfl (c _ (t.has i h))
   ·omega
  grind
 ·have:=(t.yL e a).2.2.2;grind
theorem C8 {i:Nat} {Q:Bool->Hp->Prop} (o:Has h0 (rP p g n) k) (G:n<=1000000) (s:∀b c,Has h0 (rP p (cm g i 0) n) c->Q b c):LU prog (some p) (i:Int) Q k:=by
 obtain ⟨es,t,o⟩:=o.pM;obtain ⟨B,w,z⟩:=o.LD;have F:=Df t w;refine C7 w (by omega) (λA=> ?_) λj e c f hid m E=> ?_
 ·refine s false k (Has.mE ?_ o);have y:g i=0:=by
   have:=t.low i;by_cases h:0<g i
   ·exact absurd rfl (A _ (t.has i h))
   ·omega
  have:cm g i 0=g:=by rw [<-y];exact xL
  rw [this];exact t
 ·refine s true c (Has.mE ⟨λa=> ?_,λx C=> ?_,λa d=> ?_⟩ (Has.Bp o.le z m E))
  ·by_cases h:a=i
   ·subst h;rw [jA];omega
   ·rw [jE h];exact t.low a
  ·have v:x∈es:=by grind
   obtain ⟨a1,a2,a3,a4⟩:=t.yL x v;refine ⟨a1,a2,a3,?_⟩;have r:=w.sorted;have q:=(List.getElem?_eq_some_iff.1 f);obtain ⟨q,l⟩:=q;have H:x.dp≠(i:Int):=by
    intro ex;have D:x=e:=w.ids v (List.mem_of_getElem? f) (by rw [ex,hid]);subst D;have u:es=es.take j++x::es.drop (j+1):=by rw [<-l,List.getElem_cons_drop,List.take_append_drop]
    rw [u,List.pairwise_append] at r;rcases List.mem_append.1 C with h | h
    ·have:=r.2.2 x h x (List.mem_cons_self ..);unfold kh at this;omega
    ·have:=(List.pairwise_cons.1 r.2.1).1 x h;unfold kh at this;omega
   rw [jE (by omega)];exact a4
  ·by_cases h:a=i
   ·subst h;rw [jA] at d;omega
   ·rw [jE h] at d ⊢;have:=t.has a d;obtain ⟨q,l⟩:=List.getElem?_eq_some_iff.1 f;have u:es=es.take j++e::es.drop (j+1):=by rw [<-l,List.getElem_cons_drop,List.take_append_drop]
    grind
theorem Ef {i:Nat} {due:Int} {Q:Int->Hp->Prop} (o:Has h0 (rP p g n) k) (A:n<=1000000) (y:i<n) (f:0<due) (l:∀b,Has h0 (rP p (cm g i due) n) b->Q 0 b):L3 prog (some p) (i:Int) due Q k:=by
 obtain ⟨es,t,o⟩:=o.pM;obtain ⟨B,w,j⟩:=o.LD;have z:=Df t w;refine V9 w (by omega) (λh=>by omega) λ_ _ u s b m r d _=> ?_;refine l b (Has.mE ⟨λa=> ?_,λx q=> ?_,λa c=> ?_⟩ (Has.Bp o.le j m r))
 ·by_cases h:a=i
  ·subst h;rw [jA];omega
  ·rw [jE h];exact t.low a
 ·rcases (d x).1 q with rfl | ⟨e,v⟩
  ·refine ⟨by omega,by grind,f,?_⟩;show cm g i due ((i:Int)).toNat=due;rw [show ((i:Int)).toNat=i by omega];exact jA
  ·obtain ⟨a1,a2,a3,a4⟩:=t.yL x e;refine ⟨a1,a2,a3,?_⟩;rw [jE (by omega)];exact a4
 ·refine (d _).2 ?_;by_cases h:a=i
  ·subst h;left;rw [jA]
  ·right;rw [jE h] at c ⊢;exact ⟨t.has a c,by grind⟩
def ni (g:Nat->Int) (a:Int):Nat->Int:=λi=>if 0<g i/\g i<=a then 0 else g i
theorem Wj {c:Int} {Q:Sl->Hp->Prop} (o:Has h0 (rP p g n) k) (N:n<=1000000)
  (H:∀s j (ids:List Int),(∀x∈ids,0<=x/\x<n)->ids.Nodup->(∀i:Nat,(i:Int)∈ids↔0<g i/\g i<=c)->Has h0 ((rP p (ni g c) n).star (dD 1 fw s ids)) j->Q s j):L4 prog (some p) c Q k:=by
 obtain ⟨es,t,o⟩:=o.pM;obtain ⟨B,w,v⟩:=o.LD;have M:=Df t w;refine Wc w (by omega) λout j done rest G l hsp hd hr ho w' hdis m=> ?_;have u:=w.sorted;have E:=λx hx y f=> @Wh.ids _ _ _ _ w x y hx f;have O:es.Pairwise λa b=>a.dp≠b.dp:=by refine u.imp_of_mem λ{a b} d hb F e=> ?_;have:=E a d b hb e;subst this;unfold kh at F;omega
 have P:∀x∈rest,c<x.due:=by
  cases rest with
  | nil=>simp
  | cons y r=>
   have h1:=hr y r rfl;intro x hx;rcases List.mem_cons.1 hx with rfl | hx
   ·exact h1
   ·rw [hsp,List.pairwise_append] at u;have:=(List.pairwise_cons.1 u.2.1).1 x hx;unfold kh at this;omega
 have D:∀x∈es,(x∈done↔x.due<=c):=by grind
 have A:∀x∈done,x∈es:=λx hx=>by grind
 have I:∀x∈rest,x∈es:=λx hx=>by grind
 refine H out j (done.map (·.dp)) (λx hx=> ?_) ?_ (λi=>⟨λq=> ?_,λq=> ?_⟩) ?_
 ·obtain ⟨y,f,rfl⟩:=List.mem_map.1 hx;have:=t.yL y (A y f);omega
 ·grind
 ·obtain ⟨y,f,e⟩:=List.mem_map.1 q;obtain ⟨_,_,a3,a4⟩:=t.yL y (A y f);grind
 ·exact List.mem_map.2 ⟨_,(D _ (t.has i q.1)).2 q.2,rfl⟩
 ·have J:Has h0 (EC p rest) j:=by refine Has.Bp o.le v ⟨λb L e hb=>m.cF b L e hb,λb hb=>m.from_ b (List.mem_append_left _ hb)⟩ w'
  have K:WT rest (ni g c) n:=by
   refine ⟨λa=> ?_,λx hx=> ?_,λa d=> ?_⟩
   ·unfold ni;split
    ·omega
    ·exact t.low a
   ·obtain ⟨a1,a2,a3,a4⟩:=t.yL x (I x hx);refine ⟨a1,a2,a3,?_⟩;unfold ni;grind
   ·unfold ni at d ⊢;by_cases h:0<g a/\g a<=c
    ·omega
    ·rw [if_neg h] at d ⊢;have h1:=t.has a d;grind
  have z:∀b∈l++G,h0 b=none:=λb hb=>by
   rcases m.from_ b hb with h1 | h1
   ·exact v b h1
   ·cases e:h0 b with
    | none=>rfl
    | some x=>rw [o.le b x e] at h1;cases h1
  refine Has.both J.le (F1:=λb=>b∈l) (F2:=λb=>b∈G) ⟨rest,λb=>b∈l,λ_=>False,λb=>by simp,λb _ h=>h,⟨l,w',λb=>Iff.rfl⟩,K,λ_ h=>h⟩ (slR ho) (λb h1 C=>hdis b C h1) (λb hb=>z b (List.mem_append_left _ hb)) λb hb=>z b (List.mem_append_right _ hb)
end
abbrev f64 :FloatKind:=.f64
def sA (b c:Int):Int:=if c=0 then 0 else if c= -1 then yw ((0:Int)-b) else yw (Int.tdiv b c)
def tf (b:Bool):Int:=if b then 1 else 0
def wu (op b c:Int):Int:=
 if op=3 then yw (b+c)
 else if op=4 then yw (b-c)
 else if op=5 then yw (b*c)
 else if op=6 then sA b c
 else if op=7 then yw (b-yw (sA b c*c))
 else if op=8 then dZ .and .i64 b c
 else if op=9 then dZ .or .i64 b c
 else if op=10 then dZ .xor .i64 b c
 else if op=11 then (if c<0 then b else wJ .i64 b (IntKind.wrap .u64 c))
 else if op=12 then (if c<0 then b else gW .i64 b (IntKind.wrap .u64 c))
 else if op=13 then tf (decide (b<c))
 else if op=14 then tf (decide (b=c))
 else 0
def Fy :Int:=9221120237041090560
def isNaN (f:Nat):Bool:=f64.format.order f f !=some .eq
def ou (f:Nat):Int:=if isNaN f then Fy else yw (f:Int)
def uS :Option Nat->Int
 | some r=>ou r
 | none=>Fy
def q6 (b:Int):Nat:=(IntKind.wrap .u64 b).toNat
def Dg (f:Nat):Int:=
 if isNaN f then 0
 else if f64.format.order f 4890909195324358656=some .gt\/f64.format.order f 4890909195324358656=some .eq then 9223372036854775807
 else if f64.format.order f 14114281232179134464=some .lt then -9223372036854775808
 else ((f64.decode f).toInt .zero).getD 0
def uy (op b c:Int):Int:=
 if op=15 then uS (f64.format.add (q6 b) (q6 c))
 else if op=16 then uS (f64.format.sub (q6 b) (q6 c))
 else if op=17 then uS (f64.format.mul (q6 b) (q6 c))
 else if op=18 then uS (f64.format.div (q6 b) (q6 c))
 else if op=19 then tf (f64.format.order (q6 b) (q6 c)==some .lt)
 else if op=20 then ou (f64.nearest b)
 else if op=21 then Dg (q6 b)
 else 0
def fF (op b c:Int):Int:=if 3<=op/\op<=14 then wu op b c else uy op b c
section
variable {P:Program} {h:Hp}
theorem Jn {b c:Int} {Q:Int->Hp->Prop} (a:Q (sA b c) h):YN prog b c Q h:=by
 unfold YN;unfold sA at a;by_cases d:c=0
 ·rw [if_pos (by simp [d])];rw [if_pos d] at a;exact a
 ·rw [if_neg (by simp [d])];rw [if_neg d] at a;by_cases e:c= -1
  ·rw [if_pos (by simp [e])];rw [if_pos e] at a;exact a
  ·rw [if_neg (by simp [e])];rw [if_neg e] at a;exact ⟨d,a⟩
theorem IF (c:Int):(0:Int)<=IntKind.wrap .u64 c:=by
 (try unfold yw);unfold IntKind.wrap
 simp only [IntKind.signed,IntKind.bits];simp;omega
theorem JF {b:Bool} {Q:Int->Hp->Prop} (a:Q (tf b) h):DH prog b Q h:=by unfold DH;unfold tf at a;cases b<;>simpa using a
theorem Wm {op b c:Int} {Q:Int->Int->Hp->Prop} (a:3<=op/\op<=14->Q (wu op b c) 0 h) (t:¬(3<=op/\op<=14)->Q 0 9 h):D8 prog op b c Q h:=by
 have case:∀n:Int,(op==n)=decide (op=n):=λn=>by by_cases e:op=n<;>simp [e]
 unfold D8;unfold wu at a;simp only [case];by_cases l:op=3
 ·subst l;simpa using a
 by_cases m:op=4
 ·subst m;simpa using a
 by_cases o:op=5
 ·subst o;simpa using a
 by_cases p:op=6
 ·subst p;simp only [decide_true,if_true];simp at a ⊢;exact zvk (Jn a)
 by_cases q:op=7
 ·subst q;simp at a ⊢;exact zvk (Jn a)
 by_cases r:op=8
 ·subst r;simpa using a
 by_cases s:op=9
 ·subst s;simpa using a
 by_cases f:op=10
 ·subst f;simpa using a
 by_cases g:op=11
 ·subst g;simp at a ⊢;refine ZK ?_;unfold J8;by_cases d:c<0
  ·rw [if_pos (by simpa using d)];rw [if_pos d] at a;exact a
  ·rw [if_neg (by simpa using d)];rw [if_neg d] at a;exact ⟨IF c,a⟩
 by_cases i:op=12
 ·subst i;simp at a ⊢;refine Xx ?_;unfold Jj;by_cases d:c<0
  ·rw [if_pos (by simpa using d)];rw [if_pos d] at a;exact a
  ·rw [if_neg (by simpa using d)];rw [if_neg d] at a;exact ⟨IF c,a⟩
 by_cases j:op=13
 ·subst j;simp at a ⊢;exact IA (JF a)
 by_cases k:op=14
 ·subst k;have e:(b==c)=decide (b=c):=by by_cases e:b=c<;>simp [e]
  simp at a ⊢;rw [e];exact IA (JF a)
 simp only [l,m,o,p,q,r,s,f,g,i,j,k,decide_false,if_false,Bool.false_eq_true];exact t (by omega)
theorem Yd (x y t:Nat):isNaN ((Question.nanBits .f64 x y).cut t)=true:=by
 have key:∀s z:Nat,s<2->z<2^52-1->isNaN (s*2^63+0x7ff0000000000000+1+z)=true:=by
  intro s z e f;have c:(s*2^63+0x7ff0000000000000+1+z)%Ieee.double.signWeight=0x7ff0000000000000+1+z:=by show (s*2^63+0x7ff0000000000000+1+z)%9223372036854775808=_;omega
  have d:Ieee.double.read (s*2^63+0x7ff0000000000000+1+z)=.nan ((s*2^63+0x7ff0000000000000+1+z) / Ieee.double.signWeight%2==1) (1+z):=by unfold Ieee.Format.read;rw [c];have a:Ieee.double.binade=4503599627370496:=rfl;have b:Ieee.double.infRung=9218868437227405312:=rfl;dsimp only;rw [a,b,if_neg (by omega),if_neg (by omega),if_neg (by omega),show 0x7ff0000000000000+1+z-9218868437227405312=1+z by omega]
  unfold isNaN;show ((Ieee.double.read _).order (Ieee.double.read _) !=some .eq)=true;rw [d];rfl
 have:=key (t%2) ((t / 2)%(2^52-1)) (by omega) (Nat.mod_lt _ (by decide));exact this
end
section
variable {P:Program} {h:Hp}
theorem Ye {P:Program} {s:Sem Value} {sh:Shape} {K:sh.T->Hp->Prop} {h:Hp} (b:cT P s (λv a=>∃x,v=sh.enc x/\K x a) h):jG P s sh K h:=b
theorem xa {op : BinOp} {t : Nat} {x y : Operand} {a b : Nat} {r : Option Nat} {K : Nat -> Hp -> Prop} (d : cE op t x y (.float .f64 a) (.float .f64 b) = (match r with
      | some r=>Sem.pure (Value.float .f64 r)
      | none=>Sem.bind (choose (.nanBits .f64 a b)) λn=>Sem.pure (Value.float .f64 n)))
  (c:∀f,(∀v,r=some v->f=v)->(r=none->isNaN f=true)->K f h):jG P (cE op t x y (.float .f64 a) (.float .f64 b)) (jg .f64) K h:=by
 refine Ye ?_;rw [d];cases r with
 | some r=>exact ⟨r,rfl,c r (λv e=>(Option.some.inj e)) λe=>by cases e⟩
 | none=>intro n;exact ⟨_,rfl,c _ (λv e=>by cases e) λ_=>Yd a b n⟩
theorem Yf {t : Nat} {x y : Operand} {a b : Nat} : cE .add t x y (.float .f64 a) (.float .f64 b) = (match f64.format.add a b with
      | some r=>Sem.pure (Value.float .f64 r)
      | none=>Sem.bind (choose (.nanBits .f64 a b)) λn=>Sem.pure (Value.float .f64 n)):=by
 cases e:f64.format.add a b<;>(show Op.floatArith .add .f64 a b=_;unfold Op.floatArith;simp only [pure,bind,Sem.bind,e])
theorem Yg {t : Nat} {x y : Operand} {a b : Nat} : cE .sub t x y (.float .f64 a) (.float .f64 b) = (match f64.format.sub a b with
      | some r=>Sem.pure (Value.float .f64 r)
      | none=>Sem.bind (choose (.nanBits .f64 a b)) λn=>Sem.pure (Value.float .f64 n)):=by
 cases e:f64.format.sub a b<;>(show Op.floatArith .sub .f64 a b=_;unfold Op.floatArith;simp only [pure,bind,Sem.bind,e])
theorem Yh {t : Nat} {x y : Operand} {a b : Nat} : cE .mul t x y (.float .f64 a) (.float .f64 b) = (match f64.format.mul a b with
      | some r=>Sem.pure (Value.float .f64 r)
      | none=>Sem.bind (choose (.nanBits .f64 a b)) λn=>Sem.pure (Value.float .f64 n)):=by
 cases e:f64.format.mul a b<;>(show Op.floatArith .mul .f64 a b=_;unfold Op.floatArith;simp only [pure,bind,Sem.bind,e])
theorem Yi {t : Nat} {x y : Operand} {a b : Nat} : cE .quo t x y (.float .f64 a) (.float .f64 b) = (match f64.format.div a b with
      | some r=>Sem.pure (Value.float .f64 r)
      | none=>Sem.bind (choose (.nanBits .f64 a b)) λn=>Sem.pure (Value.float .f64 n)):=by
 cases e:f64.format.div a b<;>(show Op.floatArith .quo .f64 a b=_;unfold Op.floatArith;simp only [pure,bind,Sem.bind,e])
theorem vd {s:Sem Value} {sh:Shape} {v:sh.T} {K:sh.T->Prop} (a:s=Sem.pure (sh.enc v)) (b:K v):fK none P s sh h K:=by refine ⟨v,HT ?_,b⟩;rw [a];exact ⟨rfl,rfl⟩
theorem Hx {b:Int} {Q:Nat->Hp->Prop} (a:Q (q6 b) h):Cv prog b Q h:=by unfold Cv;exact ⟨_,rfl,a⟩
theorem vA {f:Nat} {Q:Int->Hp->Prop} (a:Q (ou f) h):CU prog f Q h:=by
 unfold CU;refine vd (sh:=aQ) (v:=isNaN f) rfl ?_;unfold ou at a;by_cases e:isNaN f=true
 ·rw [if_pos e];rw [if_pos e] at a;exact a
 ·rw [if_neg e];rw [if_neg e] at a;exact ⟨(f:Int),rfl,a⟩
theorem Wp {s:Bool} {n d:Nat}:Ieee.Toward.zero.cut s n d*2^d<=n:=by
 unfold Ieee.Toward.cut;simp only [Bool.toNat_false,Nat.add_zero,Nat.shiftLeft_eq,Nat.one_mul];by_cases a:d<=n.log2+2
 ·rw [Nat.min_eq_left a];exact Nat.div_mul_le_self n (2^d)
 ·rw [Nat.min_eq_right (by omega)];have:n<2^(n.log2+2):=by
   by_cases b:n=0
   ·grind
   ·have:=Nat.lt_log2_self (n:=n);grind
  rw [Nat.div_eq_of_lt this,Nat.zero_mul];omega
theorem vB (m i:Nat):m<<<i=m*2^i:=Nat.shiftLeft_eq m i
theorem Ws {s:Bool} {m:Nat} {i:Int} (a:Ieee.Datum.order (.number s m i) (.number false 4503599627370496 11)=some .lt) (b:Ieee.Datum.order (.number s m i) (.number true 4503599627370496 11)≠some .lt):
  ∃n,(Ieee.Datum.number s m i).toInt .zero=some n/\ -9223372036854775808<=n/\n<=9223372036854775807:=by
 refine ⟨_,rfl,?_⟩;have a:compare (Ieee.signed s m (i-min i 11).toNat) (Ieee.signed false 4503599627370496 (11-min i 11).toNat)=.lt:=Option.some.inj a;have b:compare (Ieee.signed s m (i-min i 11).toNat) (Ieee.signed true 4503599627370496 (11-min i 11).toNat)≠ .lt:=λe=>b (congrArg some e);rw [Int.compare_eq_lt] at a;rw [ne_eq,Int.compare_eq_lt] at b;have g:=Wp (s:=s) (n:=m<<<i.toNat) (d:=(-i).toNat);generalize y:Ieee.Toward.zero.cut s (m<<<i.toNat) (-i).toNat=w at g;have o:Ieee.signed s w 0=if s then -(w:Int) else (w:Int):=by unfold Ieee.signed;simp
 show -9223372036854775808<=Ieee.signed s w 0/\Ieee.signed s w 0<=9223372036854775807;rw [o];have key:∃C B:Nat,0<C/\0<B/\w*B<=(m<<<(i-min i 11).toNat)*C/\(4503599627370496<<<(11-min i 11).toNat)*C=9223372036854775808*B:=by
  by_cases x:i<=11
  ·have j:min i 11=i:=by omega
   rw [j,Int.sub_self];by_cases u:0<=i
   ·refine ⟨2^i.toNat,1,Nat.two_pow_pos _,by decide,?_,?_⟩
    ·have k:(-i).toNat=0:=by omega
     rw [k,Nat.pow_zero,vB] at g;grind
    ·rw [vB,Nat.mul_assoc,<-Nat.pow_add,show (11-i).toNat+i.toNat=11 by omega]
   ·refine ⟨1,2^(-i).toNat,by decide,Nat.two_pow_pos _,?_,?_⟩
    ·grind
    ·rw [vB,Nat.mul_one,show (11-i).toNat=11+(-i).toNat by omega,Nat.pow_add,<-Nat.mul_assoc]
  ·have j:min i 11=11:=by omega
   rw [j];refine ⟨2^11,1,by decide,by decide,?_,by decide⟩;have k:(-i).toNat=0:=by omega
   rw [k,Nat.pow_zero,vB] at g;rw [vB,Nat.mul_assoc,<-Nat.pow_add,show (i-11).toNat+11=i.toNat by omega];exact g
 obtain ⟨C,B,q,p,z,v⟩:=key;generalize r:m<<<(i-min i 11).toNat=c at*;generalize l:4503599627370496<<<(11-min i 11).toNat=f at*;have s1:Ieee.signed s m (i-min i 11).toNat=if s then -(c:Int) else (c:Int):=by unfold Ieee.signed;rw [r]
 have s2:Ieee.signed false 4503599627370496 (11-min i 11).toNat=(f:Int):=by unfold Ieee.signed;rw [l];rfl
 have t:Ieee.signed true 4503599627370496 (11-min i 11).toNat= -(f:Int):=by unfold Ieee.signed;rw [l];rfl
 rw [s1,s2] at a;rw [s1,t] at b;cases s with
 | false=>
  simp only [Bool.false_eq_true,if_false] at a ⊢;have a:c<f:=by omega
  have:c*C<f*C:=Nat.mul_lt_mul_of_pos_right a q;have:w*B<9223372036854775808*B:=by omega
  have:=Nat.lt_of_mul_lt_mul_right this;omega
 | true=>
  simp only [if_true] at b ⊢;have b:c<=f:=by omega
  have:c*C<=f*C:=Nat.mul_le_mul_right C b;have:w*B<=9223372036854775808*B:=by omega
  have:=Nat.le_of_mul_le_mul_right this p;omega
theorem Yj {b:Nat} {n:Int} (a:(f64.decode b).toInt .zero=some n) (c:IntKind.min .i64<=n/\n<=IntKind.max .i64):ic prog (convert 314 2 (.float .f64 b)) h (.int .i64 n):=by refine Jk λw=> ?_;have d:=au (e:=sE) ah (t:=314) rfl w;have f:=au (e:=rD) ah (t:=2) rfl w;simp only [convert,Sem.run_bind,d,f,Result.andThen_ok];show (Conv.floatToInt .f64 b .i64).run prog w=_;unfold Conv.floatToInt;rw [a];dsimp only;rw [if_pos c];rfl
theorem Yk {b:Int}:ic prog (convert 2 314 (.int .i64 b)) h (.float .f64 (f64.nearest b)):=by refine Jk λw=> ?_;have a:=au (e:=sE) ah (t:=314) rfl w;have c:=au (e:=rD) ah (t:=2) rfl w;simp only [convert,Sem.run_bind,a,c,Result.andThen_ok];rfl
theorem Yl :f64.format.read 4890909195324358656=.number false 4503599627370496 11:=by decide
theorem Ym :f64.format.read 14114281232179134464=.number true 4503599627370496 11:=by decide
theorem Re {f:Nat} (g:isNaN f=false) (e:¬(f64.format.order f 4890909195324358656=some .gt\/f64.format.order f 4890909195324358656=some .eq)) (j:f64.format.order f 14114281232179134464≠some .lt):
  ∃n,(f64.decode f).toInt .zero=some n/\IntKind.min .i64<=n/\n<=IntKind.max .i64:=by
 have k:f64.format.order f 4890909195324358656=(f64.format.read f).order (.number false 4503599627370496 11):=by show (f64.format.read f).order (f64.format.read _)=_;rw [Yl]
 have l:f64.format.order f 14114281232179134464=(f64.format.read f).order (.number true 4503599627370496 11):=by show (f64.format.read f).order (f64.format.read _)=_;rw [Ym]
 rw [k] at e;rw [l] at j;unfold isNaN at g;have g:(((f64.format.read f).order (f64.format.read f)) !=some .eq)=false:=g;show ∃n,(f64.format.read f).toInt .zero=some n/\_;generalize f64.format.read f=d at*;cases d with
 | nan a b=>simp [Ieee.Datum.order] at g
 | infinity a=>cases a<;>simp [Ieee.Datum.order] at e j
 | number a m i=>refine Ws ?_ j;have e:¬(some (compare _ _)=_\/some (compare _ _)=_):=e;show some (compare _ _)=some .lt;generalize compare (Ieee.signed a m (i-min i 11).toNat) (Ieee.signed false 4503599627370496 (11-min i 11).toNat)=c at*;cases c<;>simp at e ⊢
theorem TR {f:Nat} {Q:Int->Hp->Prop} (a:Q (Dg f) h):Cw prog f Q h:=by
 unfold Cw;refine vd (sh:=aQ) (v:=isNaN f) rfl ?_;unfold Dg at a;by_cases e:isNaN f=true
 ·rw [if_pos e];rw [if_pos e] at a;exact a
 rw [if_neg e];rw [if_neg e] at a;refine vd (sh:=aQ) (v:=f64.format.order f 4890909195324358656==some .gt || f64.format.order f 4890909195324358656==some .eq) rfl ?_;by_cases b:f64.format.order f 4890909195324358656=some .gt\/f64.format.order f 4890909195324358656=some .eq
 ·grind
 rw [if_neg (by simpa using b)];rw [if_neg b] at a;refine vd (sh:=aQ) (v:=f64.format.order f 14114281232179134464==some .lt) rfl ?_;by_cases c:f64.format.order f 14114281232179134464=some .lt
 ·grind
 rw [if_neg (by simpa using c)];rw [if_neg c] at a;obtain ⟨n,d,g⟩:=Re (by simpa using e) b c;rw [d] at a;exact ⟨n,Yj d g,a⟩
theorem xp {o:Option Nat} {f:Nat} (a:∀v,o=some v->f=v) (b:o=none->isNaN f=true):ou f=uS o:=by
 cases o with
 | some v=>rw [a v rfl];rfl
 | none=>unfold ou;rw [if_pos (b rfl)];rfl
theorem Wv {op b c:Int} {Q:Int->Int->Hp->Prop} (a:15<=op/\op<=21->Q (uy op b c) 0 h) (q:¬(15<=op/\op<=21)->Q 0 9 h):D9 prog op b c Q h:=by
 have case:∀n:Int,(op==n)=decide (op=n):=λn=>by by_cases e:op=n<;>simp [e]
 unfold D9;refine GL (Hx ?_);refine GL (Hx ?_);unfold uy at a;simp only [case];by_cases i:op=15
 ·subst i;refine xa Yf λf d g=>I4 (vA ?_);rw [xp d g];simpa using a
 by_cases j:op=16
 ·subst j;refine xa Yg λf d g=>I4 (vA ?_);rw [xp d g];simpa using a
 by_cases k:op=17
 ·subst k;refine xa Yh λf d g=>I4 (vA ?_);rw [xp d g];simpa using a
 by_cases l:op=18
 ·subst l;refine xa Yi λf d g=>I4 (vA ?_);rw [xp d g];simpa using a
 by_cases m:op=19
 ·subst m;refine vd (sh:=aQ) (v:=f64.format.order (q6 b) (q6 c)==some .lt) rfl ?_;simp [tf] at a ⊢;by_cases e:f64.format.order (q6 b) (q6 c)=some .lt
  ·rw [if_pos e];rw [if_pos e] at a;exact a
  ·rw [if_neg e];rw [if_neg e] at a;exact a
 by_cases o:op=20
 ·subst o;refine ⟨f64.nearest b,Yk,I4 (vA ?_)⟩;simpa using a
 by_cases p:op=21
 ·subst p;refine XA (TR ?_);simpa using a
 grind
end
def fZ (c:bc):List Int:=[c.bV,c.bW,c.bX,c.bY,c.bZ,c.b9,c.cc,c.cd]
def fT (c:bc):Core:=⟨c.PC,fZ c⟩
def rO (w:eO):Want:=⟨w.Kind,w.To,w.dQ⟩
def rowOf (c:bc):ib:=⟨c.bV,c.bW,c.bX,c.bY,c.bZ,c.b9,c.cc,c.cd⟩
def FK (c:bc):Nat->Int->bc
 | 0,v=>{c with bV:=v}
 | 1,v=>{c with bW:=v}
 | 2,v=>{c with bX:=v}
 | 3,v=>{c with bY:=v}
 | 4,v=>{c with bZ:=v}
 | 5,v=>{c with b9:=v}
 | 6,v=>{c with cc:=v}
 | 7,v=>{c with cd:=v}
 | _,_=>c
section
variable {h0 k:Hp} {p:Addr} {c:bc}
theorem TS {n:Nat} {v:Int} (a:n<8):fT (FK c n v)=⟨c.PC,(fZ c).set n v⟩:=by
 match n,a with
 | 0,_=>rfl
 | 1,_=>rfl
 | 2,_=>rfl
 | 3,_=>rfl
 | 4,_=>rfl
 | 5,_=>rfl
 | 6,_=>rfl
 | 7,_=>rfl
theorem nw {i:Int} {K:Int->Prop} (h:0<=i/\i<8) (a:K (ft (fZ c) i)):
  ((0:Int)<=i/\i<(8:Int))/\∃x:Int,((List.get?Internal [(.int .i64 (rowOf c).a0),(.int .i64 (rowOf c).a1),(.int .i64 (rowOf c).a2),(.int .i64 (rowOf c).a3),(.int .i64 (rowOf c).a4),(.int .i64 (rowOf c).a5),(.int .i64 (rowOf c).a6),(.int .i64 (rowOf c).a7)] (0+((Int.toNat i)*1)))=(some (Value.int .i64 x))/\K x):=by
 refine ⟨h,_,?_,a⟩;unfold ft;have:i.toNat<8:=by omega
 generalize i.toNat=n at*
 match n,this with
 | 0,_=>rfl
 | 1,_=>rfl
 | 2,_=>rfl
 | 3,_=>rfl
 | 4,_=>rfl
 | 5,_=>rfl
 | 6,_=>rfl
 | 7,_=>rfl
theorem qK {a v:Int} {Q:Hp->Prop} (o:Has h0 (dq eT p c) k) (f:∀e b,Has h0 (dq eT p e) b->fT e=⟨c.PC,jy (fZ c) a v⟩->Q b):YL prog (some p) a v Q k:=by
 unfold YL;refine aK ?_;by_cases h:0<=a/\a<8
 ·rw [if_pos (by simp [h.1,h.2])];refine aP ⟨h,?_⟩;rw [sO,Nat.mul_one];have d:a.toNat<8:=by omega
  refine o.st (FK c a.toNat v) (by show 1+a.toNat+1<=9;omega) ?_ λb g=>f _ b g ?_
  ·generalize a.toNat=n at d
   match n,d with
   | 0,_=>rfl
   | 1,_=>rfl
   | 2,_=>rfl
   | 3,_=>rfl
   | 4,_=>rfl
   | 5,_=>rfl
   | 6,_=>rfl
   | 7,_=>rfl
  ·rw [TS d];unfold jy;rw [if_pos h]
 ·rw [if_neg (by simp;omega)];refine f c k o ?_;unfold jy;rw [if_neg h];rfl
theorem B5 {K:Addr->Hp->Prop} (b:∀p a,k<=a->Has k (dq eT p c) a->K p a):bD [(.int .i64 c.PC),(.int .i64 c.bV),(.int .i64 c.bW),(.int .i64 c.bX),(.int .i64 c.bY),(.int .i64 c.bZ),(.int .i64 c.b9),(.int .i64 c.cc),(.int .i64 c.cd)] K k:=vR (sh:=eT) c rfl b
theorem Eu {Q:bc->Hp->Prop} (hp:0<=c.PC/\c.PC<4611686018427387904) (b:∀a,fT a=fC (fT c)->Q a k):CP prog c Q k:=by unfold CP;refine b _ ?_;unfold fT fC fZ;dsimp only;rw [wrap64 (by omega) (by omega)]
variable {l:Sl} {xs:List bu}
theorem Dh {Q:bu->Bool->Hp->Prop} (r:mj k l xs) (a:∀x:bu,gG (xs.map bL) c.PC=some (bL x)->0<=c.PC->c.PC<(xs.length:Int)->Q x true k) (b:gG (xs.map bL) c.PC=none->Q ⟨0,0,0,0,0⟩ false k):D7 prog c l Q k:=by
 unfold D7;refine aK ?_;have d:=r.1;unfold gG at a b;by_cases h:c.PC<0\/(xs.length:Int)<=c.PC
 ·grind
 ·rw [if_neg (by simp;omega)];refine Rs.get r (λ_=>rfl) (by omega) (by omega) (by omega) λx e=>a x ?_ (by omega) (by omega);grind
theorem Yn {x:dP} {n m:Int} (h:(nC x n m).1=0):(0<=x.a/\x.a<8)/\(0<=x.b/\x.b<8)/\(0<=x.c/\x.c<8):=by
 have key:∀ {b:Bool} {v:Int},gl b v=0->0<=v/\v<8:=by
  intro b v h;unfold gl at h;by_cases d:b=false/\v≠0
  ·rw [if_pos d] at h;cases h
  ·rw [if_neg d] at h;by_cases hp:v<0\/8<=v
   ·rw [if_pos hp] at h;cases h
   ·omega
 obtain ⟨_,a,b,c,_⟩:=xq h;grind
theorem TT {x:bu} {Q:eO->Bool->Bool->Hp->Prop} (q:0<=x.A/\x.A<8) (hb:0<=x.B/\x.B<8) (t:0<=x.C/\x.C<8) (b:kC (bL x) (fZ c)=none->Q ⟨0,0,0⟩ false false k)
  (a:∀w st,kC (bL x) (fZ c)=some (rO w,st)->Q w st true k):Cu prog x (rowOf c) Q k:=by
 have case:∀n:Int,(x.Op==n)=decide (x.Op=n):=λn=>by by_cases e:x.Op=n<;>simp [e]
 unfold Cu;unfold kC at b a;simp only [case,decide_eq_true_eq];have s:(bL x).op=x.Op:=rfl;rw [s] at b a;by_cases d:x.Op=0
 ·rw [if_pos d];rw [if_pos d] at a;exact a ⟨1,0,0⟩ true rfl
 rw [if_neg d];rw [if_neg d] at b a;by_cases f:x.Op=24
 ·rw [if_pos f];rw [if_pos f] at a;exact nw hb (nw t (a ⟨2,_,_⟩ true rfl))
 rw [if_neg f];rw [if_neg f] at b a;by_cases g:x.Op=25
 ·rw [if_pos g];rw [if_pos g] at a;exact a ⟨3,0,0⟩ true rfl
 rw [if_neg g];rw [if_neg g] at b a;by_cases h:x.Op=26
 ·rw [if_pos h];rw [if_pos h] at a;exact a ⟨4,0,0⟩ true rfl
 rw [if_neg h];rw [if_neg h] at b a;by_cases i:x.Op=27
 ·rw [if_pos i];rw [if_pos i] at a;exact nw q (a ⟨5,0,_⟩ false rfl)
 rw [if_neg i];rw [if_neg i] at b a;by_cases j:x.Op=28
 ·rw [if_pos j];rw [if_pos j] at a;exact nw q (a ⟨6,0,_⟩ true rfl)
 rw [if_neg j];rw [if_neg j] at b a;by_cases m:x.Op=29
 ·rw [if_pos m];rw [if_pos m] at a;exact a ⟨7,x.iW,0⟩ true rfl
 rw [if_neg m];rw [if_neg m] at b a;by_cases o:x.Op=30
 ·rw [if_pos o];rw [if_pos o] at a;exact a ⟨8,x.iW,0⟩ false rfl
 rw [if_neg o];rw [if_neg o] at b a;by_cases r:x.Op=31
 ·rw [if_pos r];rw [if_pos r] at a;exact nw q (a ⟨9,0,_⟩ false rfl)
 grind
theorem Wy {v:Int} {Q:bc->Hp->Prop} (r:mj k l xs) (hp:0<=c.PC/\c.PC<4611686018427387904) (j:∀b g,k<=g->fT b=j5 (xs.map bL) (fT c) v->Q b g):CS prog c l v Q k:=by
 unfold CS;refine B5 λp w u o=> ?_;unfold j5 at j;refine bU.intro (λg=>∃b,Has k (dq eT p b) g/\fC (fT b)=(match gG (xs.map bL) (fT c).pc with
  | some n=>⟨(fT c).pc+1,jy (fT c).br n.a v⟩
  | none=>fC (fT c))) ?_ ?_
 ·refine o.tL (shf:=eT) c rfl ?_;refine Cx (Dh (r.mono u) (λx f _ _=> ?_) λf=> ?_)
  ·rw [if_pos rfl];refine AH (qK o λb m h e=>⟨b,h,?_⟩);have f:gG (xs.map bL) (fT c).pc=some (bL x):=f;rw [f,e];rfl
  ·rw [if_neg (by decide)];have f:gG (xs.map bL) (fT c).pc=none:=f;refine ⟨c,o,?_⟩;rw [f]
 ·rintro m ⟨b,h,e⟩;refine h.tL (shf:=eT) b rfl ?_;have t:b.PC=c.PC:=by
   have d:(fC (fT b)).pc=b.PC+1:=rfl;rw [e] at d;cases i:gG (xs.map bL) (fT c).pc with
   | none=>rw [i] at d;have d:c.PC+1=b.PC+1:=d;omega
   | some n=>rw [i] at d;have d:c.PC+1=b.PC+1:=d;omega
  exact CB (Eu (by rw [t];exact hp) λq s=>j q m h.le (s.trans e))
theorem Eg {v from_:Int} {Q:bc->Hp->Prop} (r:mj k l xs) (hp:0<=c.PC/\c.PC<4611686018427387904) (m:∀d h,k<=h->fT d=gh (xs.map bL) (fT c) v from_->Q d h):CT prog c l v from_ Q k:=by
 unfold CT;refine B5 λp E C o=> ?_;unfold gh at m;refine bU.intro (λh=>∃d,Has k (dq eT p d) h/\fC (fT d)=(match gG (xs.map bL) (fT c).pc with
  | some n=>⟨(fT c).pc+1,jy (jy (fT c).br n.a v) n.b from_⟩
  | none=>fC (fT c))) ?_ ?_
 ·refine o.tL (shf:=eT) c rfl ?_;refine Cx (Dh (r.mono C) (λx g _ _=> ?_) λg=> ?_)
  ·rw [if_pos rfl];refine AH (qK o λd q i e=> ?_);refine AH (qK i λt F D w=>⟨t,D,?_⟩);have g:gG (xs.map bL) (fT c).pc=some (bL x):=g;have y:d.PC=c.PC:=congrArg Core.pc e;have z:fZ d=jy (fZ c) x.A v:=congrArg Core.br e;rw [g,w,y,z];rfl
  ·rw [if_neg (by decide)];have g:gG (xs.map bL) (fT c).pc=none:=g;refine ⟨c,o,?_⟩;rw [g]
 ·rintro q ⟨d,i,e⟩;refine i.tL (shf:=eT) d rfl ?_;have B:d.PC=c.PC:=by
   have f:(fC (fT d)).pc=d.PC+1:=rfl;rw [e] at f;cases j:gG (xs.map bL) (fT c).pc with
   | none=>rw [j] at f;have f:c.PC+1=d.PC+1:=f;omega
   | some n=>rw [j] at f;have f:c.PC+1=d.PC+1:=f;omega
  exact CB (Eu (by rw [B];exact hp) λs u=>m s q i.le (u.trans e))
end
section
variable {h0 k:Hp} {p:Addr} {c:bc} {l:Sl} {xs:List bu}
theorem vt {a:bc} {r:List Int} (e:fT a=⟨c.PC,r⟩):fC (fT a)=⟨c.PC+1,r⟩:=by rw [e];rfl
theorem WA {tick self:Int} {Q:bc->eO->Hp->Prop} (r:mj k l xs) (Z:xs.length<1073741824)
  (b:∀d w u,k<=u->fT d=(gg fF (xs.map bL) (fT c) tick self).1->rO w=(gg fF (xs.map bL) (fT c) tick self).2->Q d w u):CQ prog c l tick self Q k:=by
 unfold CQ;refine B5 λp k1 L o=> ?_;refine o.tL (shf:=eT) c rfl ?_;have Y:=r.1;unfold gg at b;refine Cx (Dh (r.mono L) (λx m i0 i1=> ?_) λm=> ?_)
 case _=>
  refine ⟨λ_=> ?_,λe=>(by cases e)⟩;refine Gw (Hq λX R=> ?_);have m:gG (xs.map bL) (fT c).pc=some (bL x):=m;rw [m] at b;dsimp only at b;have T:((xs.map bL).length:Int)=(l.len:Int):=by grind
  rw [T] at b;refine aK ?_;have h:=o.grow R;by_cases q:(nC (bL x) (l.len:Int) 8).1≠0
  ·rw [if_pos q] at b;rw [if_pos (by simp [q])];refine h.tL (shf:=eT) c rfl ?_;exact b c ⟨1,0,0⟩ _ (Hp.le_trans L R) rfl rfl
  ·rw [if_neg q] at b;rw [if_neg (by simpa using q)];have q:(nC (bL x) (l.len:Int) 8).1=0:=by simpa using q
   obtain ⟨y,hb,t⟩:=Yn q;have y:0<=x.A/\x.A<8:=y;have hb:0<=x.B/\x.B<8:=hb;have t:0<=x.C/\x.C<8:=t;have P:0<=c.PC/\c.PC<4611686018427387904:=by omega
   refine h.ld (shf:=vZ) (rowOf c) (off:=1) rfl ?_;refine Xu (TT y hb t (λJ=> ?_) λw st K=> ?_)
   ·rw [if_neg (by decide)];refine h.ld (shf:=vZ) (rowOf c) (off:=1) rfl ?_;have J:kC (bL x) (fT c).br=none:=J;rw [J] at b;dsimp only at b;unfold rE at b;have S:(bL x).op=x.Op:=rfl;rw [S] at b;have case:∀n:Int,(x.Op==n)=decide (x.Op=n):=λn=>by grind
    simp only [case,decide_eq_true_eq];refine ia.intro (λ_ _ u=>∃d,Has k (dq eT p d) u/\d.PC=c.PC/\∀g,fT g=fC (fT d)->Q g ⟨0,0,0⟩ u) ?_ ?_
    ·by_cases z:x.Op=1
     ·rw [if_pos z];rw [if_pos z] at b;refine AH (qK h λd s f e=>⟨d,f,congrArg Core.pc e,λg i=>b g _ _ f.le (i.trans (vt e)) rfl⟩)
     rw [if_neg z];rw [if_neg z] at b;by_cases D:x.Op=2
     ·rw [if_pos D];rw [if_pos D] at b;refine nw hb ?_;refine AH (qK h λd s f e=>⟨d,f,congrArg Core.pc e,λg i=>b g _ _ f.le (i.trans (vt e)) rfl⟩)
     rw [if_neg D];rw [if_neg D] at b;by_cases E:x.Op=32
     ·rw [if_pos E];rw [if_pos E] at b;refine AH (qK h λd s f e=>⟨d,f,congrArg Core.pc e,λg i=>b g _ _ f.le (i.trans (vt e)) rfl⟩)
     rw [if_neg E];rw [if_neg E] at b;by_cases F:x.Op=33
     ·rw [if_pos F];rw [if_pos F] at b;refine AH (qK h λd s f e=>⟨d,f,congrArg Core.pc e,λg i=>b g _ _ f.le (i.trans (vt e)) rfl⟩)
     rw [if_neg F];rw [if_neg F] at b;by_cases G:x.Op=22
     ·rw [if_pos G];rw [if_pos G] at b;refine h.st {c with PC:=x.iW} (by show 0+1<=9;omega) rfl λs f=> ?_;refine f.tL (shf:=eT) {c with PC:=x.iW} rfl ?_;exact b _ _ _ f.le rfl rfl
     rw [if_neg G];rw [if_neg G] at b;by_cases H:x.Op=23
     ·rw [if_pos H];rw [if_pos H] at b;refine nw y ?_;by_cases j:ft (fZ c) x.A=0
      ·rw [if_pos (by simp [j])];have j:ft (fT c).br (bL x).a=0:=j;rw [if_pos j] at b;exact ⟨c,h,rfl,λg i=>b g _ _ h.le i rfl⟩
      ·rw [if_neg (by simp [j])];have j:¬ft (fT c).br (bL x).a=0:=j;rw [if_neg j] at b;refine h.st {c with PC:=x.iW} (by show 0+1<=9;omega) rfl λs f=> ?_;refine f.tL (shf:=eT) {c with PC:=x.iW} rfl ?_;exact b _ _ _ f.le rfl rfl
     rw [if_neg H];rw [if_neg H] at b;refine nw hb (nw t ?_);have I:fF x.Op (ft (fZ c) x.B) (ft (fZ c) x.C)=if 3<=x.Op/\x.Op<=14 then wu x.Op (ft (fZ c) x.B) (ft (fZ c) x.C) else uy x.Op (ft (fZ c) x.B) (ft (fZ c) x.C):=rfl
     have M:∀v,v=fF x.Op (ft (fZ c) x.B) (ft (fZ c) x.C)->bK prog vg [(.pointer (some p)),(.int .i64 x.A),(.int .i64 v)] (λO=>∃d,Has k (dq eT p d) O/\d.PC=c.PC/\∀g,fT g=fC (fT d)->Q g ⟨0,0,0⟩ O) X:=by intro v hv;subst hv;exact AH (qK h λd s f e=>⟨d,f,congrArg Core.pc e,λg i=>b g _ _ f.le (i.trans (vt e)) rfl⟩)
     refine N3 (Wm (λN=> ?_) λN=> ?_)
     ·refine eZ.direct ?_;grind
     ·refine eZ.direct ?_;rw [if_pos (by decide)];refine nw hb (nw t ?_);rw [if_neg N] at I;refine N4 (Wv (λV=>M _ I.symm) λV=>M _ ?_);rw [I];unfold uy;omega
    ·rintro _ _ s ⟨d,f,U,W⟩;refine f.tL (shf:=eT) d rfl ?_;exact CB (Eu (by rw [U];exact P) λg i=>W g i)
   ·rw [if_pos rfl];have K:kC (bL x) (fT c).br=some (rO w,st):=K;rw [K] at b;dsimp only at b;cases st with
    | true=>rw [if_pos rfl];refine h.tL (shf:=eT) c rfl ?_;exact ⟨⟨trivial,trivial⟩,b c w _ h.le rfl rfl⟩
    | false=>rw [if_neg (by decide)];refine h.tL (shf:=eT) c rfl ?_;exact CB (Eu P λg i=>⟨⟨trivial,trivial⟩,⟨trivial,trivial⟩,b g w _ h.le i rfl⟩)
 case _=>refine ⟨λe=>(by cases e),λ_=>⟨0,?_⟩⟩;refine aK ?_;rw [if_pos (by decide)];have m:gG (xs.map bL) (fT c).pc=none:=m;rw [m] at b;refine o.tL (shf:=eT) c rfl ?_;exact b c ⟨1,0,0⟩ _ L rfl rfl
end
structure MK where
 c:aV
 x:aW
 t:Addr
 sl:Addr
 pt:List Addr
 pr:List Addr
 own:Nat->Sl
 code:Nat->Sl
 ins:Nat->List bu
def Fg (x:aW):ay:=⟨x.gE,x.iC,x.lH,x.py,x.mC,x.ov,x.gx⟩
structure dh (h:Hp) (K:MK):Prop where
 gS:(iZ K.c).1=0
 Bf:∀l∈K.c.labels,iN l
 cfg:dN h (Fg K.x) K.c
 t1:K.x.table=some K.t
 t2:q9 h K.t K.c.labels
 s1:K.x.qz=some K.sl
 s2:∃(s:Sl) (n:Int),bp h K.sl [s.v,.int .i64 n]/\Is h s K.c.table
 LB:K.pt.length=nP K.c
 pt:Rs h aj 1 K.x.parts (K.pt.map some)
 LA:K.pr.length=nQ K.c
 pr:Rs h aj 1 K.x.procs (K.pr.map some)
 own:∀i,i<nP K.c->Is h (K.own i) ((dK K.c i).map λ(q:Nat)=>(q:Int))
 code:∀p,p<nQ K.c->mj h (K.code p) (K.ins p)/\(K.ins p).map bL=gz K.c p
 owned:∀p,p<nQ K.c->ax K.c p<nP K.c
abbrev Fi :pN->List Value:=λe=> [.int .i64 e.tick,.int .i64 e.proc,.int .i64 e.value]
def lS (K:MK) (i:Nat) (x:bg) (lp a:Addr) (y:cY):Prop:=x.procs=K.own i/\x.ae=y.ae/\x.lost=y.lost/\x.forbidden=y.forbidden/\x.an=some lp/\x.dI=some a
def oh (K:MK) (i:Nat) (x:bg) (lp b:Addr) (y:cY) (a:Nat->Int):dB:=
 (dq vX (K.pt.getD i a0) x).star ((dD 3 Fi x.log y.log).star ((mi lp y.az y.al).star (rP b a (2*nQ K.c))))
def og (K:MK) (i:Nat) (y:cY) (b:Nat->Int):dB:=.some_ λx:bg=>.some_ λlp:Addr=>.some_ λa:Addr=>(oh K i x lp a y b).star (.fact (lS K i x lp a y))
def dT (z:aJ):bc:=⟨z.iD,z.fh,z.fi,z.fj,z.fk,z.fm,z.fo,z.fp,z.fq⟩
def fA (K:MK) (p:Nat) (z:aJ) (q:Addr) (y:ai):Prop:=z.dp=(p:Int)/\z.part=(ax K.c p:Int)/\z.code=K.code p/\z.state=y.state/\fT (dT z)=y.core/\z.bF=y.bF/\z.post=some q
def rU (K:MK) (p:Nat) (z:aJ) (q:Addr) (y:ai):dB:=(dq bm (K.pr.getD p a0) z).star (dO q K.c.lane y.af y.ae)
def oi (K:MK) (p:Nat) (y:ai):dB:=.some_ λz:aJ=>.some_ λq:Addr=>(rU K p z q y).star (.fact (fA K p z q y))
def qC (x:aW) (t:Int):aW:=⟨x.gE,x.iC,x.lH,x.py,x.mC,x.ov,x.gx,x.table,x.qz,t,x.parts,x.procs⟩
def aD (K:MK) (pm:Addr) (s:MS) (a:Nat->Nat->Int):dB:=
 (dq HA pm (qC K.x s.tick)).star ((dB.first (λi=>og K i (s.part i) (a i)) (nP K.c)).star (dB.first (λp=>oi K p (s.proc p)) (nQ K.c)))
section
variable {h0 h1 k:Hp} {K:MK} {pm:Addr} {s:MS} {d:Nat->Nat->Int}
theorem dh.mono (m:dh h0 K) (c:h0<=h1):dh h1 K where
 gS:=m.gS
 Bf:=m.Bf
 cfg:=m.cfg.mono c
 t1:=m.t1
 t2:=m.t2.mono c
 s1:=m.s1
 s2:=by obtain ⟨s,n,a,b⟩:=m.s2;exact ⟨s,n,ph c a,b.mono c⟩
 LB:=m.LB
 pt:=m.pt.mono c
 LA:=m.LA
 pr:=m.pr.mono c
 own:=λi e=>(m.own i e).mono c
 code:=λp hp=>⟨(m.code p hp).1.mono c,(m.code p hp).2⟩
 owned:=m.owned
theorem Has.yV {p:Nat} (o:Has h0 (aD K pm s d) k) (hp:p<nQ K.c):∃h1 z q,h0<=h1/\fA K p z q (s.proc p)/\Has h1 (rU K p z q (s.proc p)) k/\
  ∀g a b,fA K p g q a->Has h1 (rU K p g q a) b->Has h0 (aD K pm (s.aG p a) d) b:=by
 obtain ⟨h1,a1,n,put⟩:=o.f3;obtain ⟨h,a2,f,_,t⟩:=n.one hp;obtain ⟨z,f⟩:=Has.ex.1 f;obtain ⟨q,f⟩:=Has.ex.1 f;obtain ⟨r,i⟩:=f.jw;refine ⟨h,z,q,Hp.le_trans a1 a2,i,r,λg a b l m=>put _ _ ?_⟩;have:=t _ _ (Has.ex.2 ⟨g,Has.ex.2 ⟨q,m.fu l⟩⟩:Has h (oi K p a) b);refine cast (congrArg (λA=>Has h1 A b) (sI λj u=> ?_)) this;by_cases e:j=p
 ·subst e;rw [jA];show _=oi K j (cm s.proc j a j);rw [jA];rfl
 ·rw [jE e];show _=oi K j (cm s.proc p a j);rw [jE e]
theorem Has.qu {i:Nat} (o:Has h0 (aD K pm s d) k) (n:i<nP K.c):∃h1 x lp b,h0<=h1/\lS K i x lp b (s.part i)/\Has h1 (oh K i x lp b (s.part i) (d i)) k/\
  ∀l f g h,lS K i l lp b f->Has h1 (oh K i l lp b f g) h->Has h0 (aD K pm (s.cX i f) (cm d i g)) h:=by
 obtain ⟨h1,a1,t,put⟩:=o.f2;obtain ⟨m,a2,a,_,v⟩:=t.one n;obtain ⟨x,a⟩:=Has.ex.1 a;obtain ⟨lp,a⟩:=Has.ex.1 a;obtain ⟨b,a⟩:=Has.ex.1 a;obtain ⟨u,p⟩:=a.jw;refine ⟨m,x,lp,b,Hp.le_trans a1 a2,p,u,λl f g h q r=>put _ _ ?_⟩;have:=v _ _ (Has.ex.2 ⟨l,Has.ex.2 ⟨lp,Has.ex.2 ⟨b,r.fu q⟩⟩⟩:Has m (og K i f g) h);refine cast (congrArg (λA=>Has h1 A h) (sI λj w=> ?_)) this;by_cases e:j=i
 ·subst e;rw [jA];show _=og K j (cm s.part j f j) (cm d j g j);rw [jA,jA];rfl
 ·rw [jE e];show _=og K j (cm s.part i f j) (cm d i g j);rw [jE e,jE e]
theorem Has.eB (o:Has h0 (aD K pm s d) k):Has h0 (dq HA pm (qC K.x s.tick)) k:=Has.left o
theorem dh.uP (m:dh h0 K) (a:h0<=k) {p:Nat} (hp:p<nQ K.c) {Q:Option Addr->Prop} (b:Q (some (K.pr.getD p a0))):bB K.x.procs.base K.x.procs.len (p:Int)/\aN none aj k (sat K.x.procs.base 1 (p:Int)) Q:=by have e:=m.LA;refine Rs.get (m.pr.mono a) (λ_=>rfl) (by omega) (by omega) (by rw [List.length_map];omega) λ(y:Option Addr) f=> ?_;grind
theorem dh.partAt (m:dh h0 K) (a:h0<=k) {p:Nat} (hp:p<nP K.c) {Q:Option Addr->Prop} (b:Q (some (K.pt.getD p a0))):bB K.x.parts.base K.x.parts.len (p:Int)/\aN none aj k (sat K.x.parts.base 1 (p:Int)) Q:=by have e:=m.LB;refine Rs.get (m.pt.mono a) (λ_=>rfl) (by omega) (by omega) (by rw [List.length_map];omega) λ(y:Option Addr) f=> ?_;grind
theorem dh.nm (m:dh h0 K):K.x.procs.len=nQ K.c:=by have:=m.pr.1;rw [List.length_map,m.LA] at this;exact this
theorem dh.qv (m:dh h0 K):K.x.parts.len=nP K.c:=by have:=m.pt.1;rw [List.length_map,m.LB] at this;exact this
end
abbrev MK.p (K:MK) (p:Nat):Addr:=K.pr.getD p a0
abbrev MK.q (K:MK) (i:Nat):Addr:=K.pt.getD i a0
section
variable {h0 h1 k:Hp} {K:MK} {pm:Addr} {s:MS} {a:Nat->Nat->Int}
theorem Has.dk {p:Nat} (o:Has h0 (aD K pm s a) k) (hp:p<nQ K.c):∃h1 z q,h0<=h1/\fA K p z q (s.proc p)/\Has h1 (dq bm (K.p p) z) k/\
  ∀e b d,fA K p e q b->b.af=(s.proc p).af->b.ae=(s.proc p).ae->Has h1 (dq bm (K.p p) e) d->Has h0 (aD K pm (s.aG p b) a) d:=by
 obtain ⟨h1,z,q,i,g,m,put⟩:=o.yV hp;obtain ⟨f,j,n,_,r⟩:=m.fst;refine ⟨f,z,q,Hp.le_trans i j,g,n,λe b d h t u l=>put e b d h ?_⟩;have:=r _ _ l;unfold rU;grind
theorem Has.nl {p:Nat} (o:Has h0 (aD K pm s a) k) (hp:p<nQ K.c):∃h1 z q,h0<=h1/\fA K p z q (s.proc p)/\Has h0 (dq bm (K.p p) z) k/\Has h1 (dO q K.c.lane (s.proc p).af (s.proc p).ae) k/\
  ∀e d b,Has h1 (dO q K.c.lane e d) b->Has h0 (aD K pm (s.aG p {s.proc p with af:=e,ae:=d}) a) b:=by
 obtain ⟨h1,z,q,g,f,h,put⟩:=o.yV hp;obtain ⟨i,j,m,_,n⟩:=h.snd;exact ⟨i,z,q,Hp.le_trans g j,f,(Has.left h).mono g,m,λe d b l=>put z _ b f (n _ _ l)⟩
def uu (z:aJ) (c:bc):aJ:=⟨z.dp,z.part,z.code,z.state,c.PC,c.bV,c.bW,c.bX,c.bY,c.bZ,c.b9,c.cc,c.cd,z.bF,z.post⟩
def nx (z:aJ) (n:Int):aJ:=⟨z.dp,z.part,z.code,n,z.iD,z.fh,z.fi,z.fj,z.fk,z.fm,z.fo,z.fp,z.fq,z.bF,z.post⟩
def tJ (z:aJ) (b:Bool):aJ:=⟨z.dp,z.part,z.code,z.state,z.iD,z.fh,z.fi,z.fj,z.fk,z.fm,z.fo,z.fp,z.fq,b,z.post⟩
theorem fA.core {p:Nat} {z:aJ} {q:Addr} {y:ai} (b:fA K p z q y) (c:bc):fA K p (uu z c) q (y.put (fT c)):=⟨b.1,b.2.1,b.2.2.1,b.2.2.2.1,rfl,b.2.2.2.2.2⟩
theorem fA.state {p:Nat} {z:aJ} {q:Addr} {y:ai} (b:fA K p z q y) (n:Int):fA K p (nx z n) q {y with state:=n}:=⟨b.1,b.2.1,b.2.2.1,rfl,b.2.2.2.2⟩
theorem fA.bF {p:Nat} {z:aJ} {q:Addr} {y:ai} (c:fA K p z q y) (b:Bool):fA K p (tJ z b) q {y with bF:=b}:=⟨c.1,c.2.1,c.2.2.1,c.2.2.2.1,c.2.2.2.2.1,rfl,c.2.2.2.2.2.2⟩
theorem DI {n:Int} {Q:Bool->Hp->Prop} (b:Q (decide (n≠5)&&decide (n≠6)) k):XN prog n Q k:=by unfold XN;refine aK ?_;grind
theorem Hy {n:Int} {Q:Int->Hp->Prop} (b:jB n) (c:Q (more n) k):YJ prog n Q k:=by
 unfold YJ;unfold jB at b;rw [wrap64 (by omega) (by omega)];have:iF (n+1) 65535=more n:=by unfold iF more;split<;>split<;>omega
 grind
theorem Eh {p:Nat} {c:bc} {m:Option Addr} {Q:Hp->Prop} (o:Has h0 (aD K pm s a) k) (hp:p<nQ K.c) (d:∀b,Has h0 (aD K pm (s.aG p (uz (s.proc p) (fT c))) a) b->Q b):Q8 prog m (some (K.p p)) c Q k:=by unfold Q8;obtain ⟨h1,z,q,l,e,f,put⟩:=o.dk hp;refine aP (f.st (nx z 0) (by show 3+1<=15;omega) rfl λi g=> ?_);refine ⟨⟨trivial,trivial⟩,aP (g.st (uu (nx z 0) c) (by show 4+9<=15;omega) rfl λj h=> ?_)⟩;exact d _ (put _ _ _ ((e.state 0).core c) rfl rfl h)
theorem dh.qj (m:dh h0 K) (b:h0<=k) {p:Nat} (hp:p<nQ K.c) {z:aJ} {q:Addr} {y:ai} (d:fA K p z q y):mj k z.code (K.ins p):=by rw [d.2.2.1];exact ((m.code p hp).1).mono b
theorem De {p:Nat} {v:Int} {n:Option Addr} {Q:Hp->Prop} (m:dh h0 K) (o:Has h0 (aD K pm s a) k) (hp:p<nQ K.c) (u:0<=(s.proc p).pc/\(s.proc p).pc<4611686018427387904) (i:∀d,Has h0 (aD K pm (bQ K.c s p v) a) d->Q d):
  Pt prog n (some (K.p p)) v Q k:=by
 unfold Pt;obtain ⟨h1,z,q,x,b,f,put⟩:=o.dk hp;refine aP (f.ld (shf:=eT) (dT z) rfl ?_);refine aP (f.ld (shf:=ak) z.code rfl ?_);have e:fT (dT z)=(s.proc p).core:=b.2.2.2.2.1;have t:(dT z).PC=(s.proc p).pc:=congrArg Core.pc e;refine ZJ (Wy (m.qj o.le hp b) (by omega) λr w l h=> ?_);refine Pw (Eh (o.grow l) hp λj g=>i j ?_);rw [h,e,(m.code p hp).2] at g;exact g
theorem Ej {p:Nat} {i:Option Addr} {Q:Hp->Prop} (o:Has h0 (aD K pm s a) k) (hp:p<nQ K.c) (b:∀g,Has h0 (aD K pm (s.aG p (dH (s.proc p))) a) g->Q g):QY prog i (some (K.p p)) Q k:=by
 unfold QY;obtain ⟨h1,z,q,m,d,f,put⟩:=o.dk hp;refine aP (f.ld (shf:=ab .i64) z.state rfl ?_);have e:z.state=(s.proc p).state:=d.2.2.2.1;unfold dH at b;by_cases h:(s.proc p).state=1
 ·rw [if_pos (show (z.state==1)=true by rw [e,h];rfl)];rw [if_pos h] at b;exact aP (f.st (nx z 0) (by show 3+1<=15;omega) rfl λl j=>b _ (put _ _ _ (d.state 0) rfl rfl j))
 ·rw [if_neg (show ¬(z.state==1)=true by grind)];rw [if_neg h] at b;exact b _ (put z (s.proc p) k d rfl rfl f)
theorem DJ {kj:Int} {Q:Hp->Prop} (m:dh h0 K) (o:Has h0 (aD K pm s a) k) (t:0<=kj->kj<(nQ K.c:Int)/\0<=(s.proc kj.toNat).pc/\(s.proc kj.toNat).pc<4611686018427387904) (b:∀g,Has h0 (aD K pm (gu s kj) a) g->Q g):
  Qg prog (some pm) kj Q k:=by
 unfold Qg;unfold gu at b;by_cases h:0<=kj
 ·rw [if_pos (by simpa using h)];rw [if_pos h] at b;obtain ⟨D,A⟩:=t h;have hp:kj.toNat<nQ K.c:=by omega
  have r:((kj.toNat:Nat):Int)=kj:=by omega
  have at_:=m.uP o.le hp (Q:=λy=>y=some (K.p kj.toNat)) rfl;rw [r] at at_;obtain ⟨f,y,d,rfl⟩:=at_;refine aP (o.eB.ld (shf:=ak) K.x.procs rfl ⟨f,_,d,aP (o.eB.ld (shf:=ak) K.x.procs rfl ⟨f,_,d,?_⟩)⟩);obtain ⟨h1,z,q,C,u,w,put⟩:=o.dk hp;have e:fT (dT z)=(s.proc kj.toNat).core:=u.2.2.2.2.1;have l:(dT z).PC=(s.proc kj.toNat).pc:=congrArg Core.pc e;refine aP (w.ld (shf:=eT) (dT z) rfl ?_);refine CB (Eu (by rw [l];exact A) λB j=> ?_);refine ⟨⟨o.eB.eA (n:=1) rfl,d,trivial⟩,?_⟩;refine Pw (Eh o hp λv i=>b v ?_);rw [j,e] at i;exact i
 grind
end
def gY (c:aV) (i j:Nat):Bool:=fl c.labels (i:Int) (j:Int)
structure Fa (n:Nat) (l:bq):Prop where
 values:l.values.length<=64
 waiters:l.waiters.length<=100
 taken:jB l.taken
 dropped:jB l.dropped
 nd:(l.waiters.map (·.proc)).Nodup
 kj:∀w∈l.waiters,0<=w.proc/\w.proc<(n:Int)
structure pX (c:aV) (x:ai):Prop where
 pc:0<=x.pc/\x.pc<=1000
 len:x.af.length=nP c+1
 cur:0<=x.ae/\x.ae<x.af.length
 dJ:∀l∈x.af,Fa (nQ c) l
structure E9 (c:aV) (x:cY):Prop where
 cur:0<=x.ae/\x.ae<4611686018427387904
 jH:x.log.length<=4096
 lost:jB x.lost
 kJ:jB x.forbidden
 gJ:x.az.length=x.al.length
 iz:(x.al.length:Int)=c.an
 kf:x.al.length<=8/\∀q∈x.al,q.length<=100
 nd:∀q∈x.al,q.Nodup/\∀z∈q,0<=z/\z<(nQ c:Int)
structure jr (c:aV) (s:MS):Prop where
 proc:∀p,p<nQ c->pX c (s.proc p)
 part:∀i,i<nP c->E9 c (s.part i)
theorem xE {x:ai} {i:Nat} {l:bq} {f:bq->bq} (h:x.af[i]? =some l):bz x i f={x with af:=x.af.set i (f l)}:=by
 unfold bz;congr 1;refine List.ext_getElem? λj=> ?_;by_cases e:i=j
 ·subst e;rw [vk h,List.getElem?_set_self (List.getElem?_eq_some_iff.1 h).1]
 ·rw [DW e,List.getElem?_set_ne e]
section
variable {h0 h1 k:Hp} {K:MK} {pm:Addr} {s:MS} {d:Nat->Nat->Int}
theorem Has.sx {i:Nat} (o:Has h0 (aD K pm s d) k) (t:i<nP K.c):∃h1 x lp f,h0<=h1/\lS K i x lp f (s.part i)/\Has h1 (dq vX (K.q i) x) k/\
  ∀b a e,lS K i b lp f a->b.log=x.log->a.log=(s.part i).log->a.az=(s.part i).az->a.al=(s.part i).al->Has h1 (dq vX (K.q i) b) e->Has h0 (aD K pm (s.cX i a) d) e:=by
 obtain ⟨h1,x,lp,f,w,u,A,put⟩:=o.qu t;obtain ⟨m,y,B,_,C⟩:=A.fst;refine ⟨m,x,lp,f,Hp.le_trans w y,u,B,λb a e v g h j l z=> ?_⟩;have n:=C _ _ z;have p:Has h1 (oh K i b lp f a (d i)) e:=by unfold oh;rw [g,h,j,l];exact n
 have r:=put b a (d i) e v p
 rwa [xL] at r
theorem jr.told (a:jr K.c s) {p:Nat} (hp:p<nQ K.c):0<=(s.proc p).pc/\(s.proc p).pc<4611686018427387904:=by have:=(a.proc p hp).pc;omega
theorem dh.ptr (m:dh h0 K) (o:Has h0 (aD K pm s d) k) {p:Nat} (hp:p<nQ K.c):bB K.x.procs.base K.x.procs.len (p:Int)/\bp k (sat K.x.procs.base 1 (p:Int)) [.pointer (some (K.p p))]:=by obtain ⟨a,y,b,rfl⟩:=m.uP o.le hp (Q:=λy=>y=some (K.p p)) rfl;exact ⟨a,b⟩
theorem dh.tg (m:dh h0 K) (o:Has h0 (aD K pm s d) k) {p:Nat} (hp:p<nP K.c):bB K.x.parts.base K.x.parts.len (p:Int)/\bp k (sat K.x.parts.base 1 (p:Int)) [.pointer (some (K.q p))]:=by obtain ⟨a,y,b,rfl⟩:=m.partAt o.le hp (Q:=λy=>y=some (K.q p)) rfl;exact ⟨a,b⟩
theorem B6 {q i:Nat} {v:Int} {z:aJ} {a:Addr} {Q:Int->Hp->Prop} (o:Has h0 (aD K pm s d) k) (I:q<nQ K.c) (R:pX K.c (s.proc q)) (H:K.c.lane<=64) (T:i<=nP K.c) (J:fA K q z a (s.proc q)) (M:Has h1 (dq bm (K.p q) z) k)
  (u:ed K.c (s.proc q) i=true->Q 19 k) (w:∀e,ed K.c (s.proc q) i=false->Has h0 (aD K pm (s.aG q (bz (s.proc q) i (rn v))) d) e->Q 0 e):Mg prog (some a) (i:Int) v Q k:=by
 obtain ⟨S,f,x,V,L,P,O,put⟩:=o.nl I;have ea:x=a:=by
  obtain ⟨b,eb,hb,_⟩:=M.pJ;obtain ⟨y,r,G,_⟩:=P.pJ;rw [eb] at r;have A:b=y:=congrArg Addr.block r;subst A;obtain ⟨t,B⟩:=hb;obtain ⟨W,g⟩:=G;rw [B] at g;have C:(be (bm.enc z)).toArray=(be (bm.enc f)).toArray:=by injection g with g;injection g
  have D:be (bm.enc z)=be (bm.enc f):=by simpa using C
  have E:(be (bm.enc z))[14]? =(be (bm.enc f))[14]?:=by rw [D]
  have m:some (Value.pointer z.post)=some (Value.pointer f.post):=E;have n:z.post=f.post:=by injection m with m;injection m
  rw [J.2.2.2.2.2.2,L.2.2.2.2.2.2] at n;exact (Option.some.inj n).symm
 subst ea;have U:=R.len;have j:=List.getElem?_eq_getElem (show i<(s.proc q).af.length by omega);generalize (s.proc q).af[i]=l at j;have F:ed K.c (s.proc q) i=decide (K.c.lane<=(l.values.length:Int)):=by unfold ed;rw [j]
 rw [F] at u w;refine X6 O j H (λh=>u (decide_eq_true h)) λe h N=>w e (decide_eq_false h) ?_;rw [xE j];exact put _ _ e N
end
section
variable {h0 h1 k:Hp} {K:MK} {pm:Addr} {s:MS} {b:Nat->Nat->Int}
theorem Lc {p:Nat}:s.aG p (s.proc p)=s:=by unfold MS.aG;rw [xL]
theorem Hz {x:ai}:(dH x).pc=x.pc:=rfl
theorem El {x:ai} {i:Nat} {f:bq->bq}:(bz x i f).pc=x.pc:=rfl
theorem yU {p q:Nat} {y:ai} (e:y.pc=(s.proc q).pc):((s.aG q y).proc p).pc=(s.proc p).pc:=by
 by_cases h:p=q
 ·subst h;rw [fH,e]
 ·rw [iu h]
theorem HB {q i:Nat} {Q:Hp->Prop} (o:Has h0 (aD K pm s b) k) (n:q<nQ K.c) (h:pX K.c (s.proc q)) (w:i<=nP K.c) {C:Prop} (m:∀d,Has h0 (aD K pm (s.aG q (bz (s.proc q) i jc)) b) d->Q d):
  ∃z a,fA K q z a (s.proc q)/\(∀ {f:Option Addr->Prop},f (some a)->aN none aj k ((K.p q).add 14) f)/\L6 prog (some a) (i:Int) Q k:=by
 obtain ⟨v,z,a,y,g,u,t,put⟩:=o.nl n;refine ⟨z,a,g,λj=>u.ld (shf:=aj) z.post rfl (by rw [g.2.2.2.2.2.2];exact j),?_⟩;have x:=h.len;have e:=List.getElem?_eq_getElem (show i<(s.proc q).af.length by omega);generalize (s.proc q).af[i]=l at e;refine VN t e (h.dJ l (List.mem_of_getElem? e)).dropped λd r=>m d ?_;rw [xE e];exact put _ _ d r
def B7 (c:aV) (s:MS) (p q:Nat) (v:Int):MS:=
 if jk (s.proc q)=false then bQ c s p 2
 else if ed c (s.proc q) (ax c p) then
  let s1:=s.aG q (bz (s.proc q) (ax c p) (gM p v))
  s1.aG p {s1.proc p with state:=2}
 else bQ c (s.aG q (dH (bz (s.proc q) (ax c p) (rn v)))) p 0
theorem Rf {p q:Nat} {v:Int} {Q:Hp->Prop} (m:dh h0 K) (B:cg K.c) (o:Has h0 (aD K pm s b) k) (n:jr K.c s) (hp:p<nQ K.c) (g:q<nQ K.c) (T:∀l∈(s.proc q).af,∀z∈l.waiters,z.proc≠(p:Int))
  (f:∀A,Has h0 (aD K pm (B7 K.c s p q v) b) A->Q A):PA prog (some pm) (some (K.p p)) (some (K.p q)) v Q k:=by
 unfold PA;obtain ⟨h1,r,ap,l1,G,op,_⟩:=o.dk hp;obtain ⟨h2,a,C,l2,u,j,_⟩:=o.dk g;unfold B7 at f;have U:ax K.c p<=nP K.c:=Nat.le_of_lt B.eR;refine aP (j.ld (shf:=ab .i64) a.state rfl ?_);refine T8 (DI ?_);have S:a.state=(s.proc q).state:=u.2.2.2.1;have R:(decide (a.state≠5)&&decide (a.state≠6))=jk (s.proc q):=by rw [S];rfl
 rw [R];by_cases d:jk (s.proc q)=false
 ·rw [if_pos (by rw [d];rfl)];rw [if_pos d] at f;exact BW (De m o hp (n.told hp) f)
 ·rw [if_neg (by cases e:jk (s.proc q)<;>simp [e] at d ⊢)];rw [if_neg d] at f;refine aP (j.ld (shf:=aj) a.post rfl ?_);refine aP (op.ld (shf:=ab .i64) r.part rfl ?_);have E:r.part=(ax K.c p:Int):=G.2.1;have eq:a.post=some C:=u.2.2.2.2.2.2;rw [E,eq];refine T6 (B6 o g (n.proc q g) B.lane.2 U u j (λi=> ?_) λA i Z=> ?_)
  ·rw [if_pos (by decide)];rw [if_pos i] at f;refine aP (j.ld (shf:=aj) a.post rfl ?_);refine aP (op.ld (shf:=ab .i64) r.part rfl ?_);refine aP (op.ld (shf:=ab .i64) r.dp rfl ?_);have P:r.dp=(p:Int):=G.1;rw [E,eq,P];obtain ⟨h3,w,J,l3,V,o3,o2,put⟩:=o.nl g;have ea:J=C:=by
    have L:=o3.ld (shf:=aj) (off:=14) w.post rfl (K:=λy=>y=w.post) rfl;have M:=j.ld (shf:=aj) (off:=14) a.post rfl (K:=λy=>y=a.post) rfl;obtain ⟨y1,x,rfl⟩:=L;obtain ⟨y2,h,rfl⟩:=M;have x:=x 0 (.pointer w.post) rfl;have h:=h 0 (.pointer a.post) rfl;rw [x] at h;have D:w.post=a.post:=by injection h with h;injection h
    rw [u.2.2.2.2.2.2,V.2.2.2.2.2.2] at D;exact Option.some.inj D
   subst ea;have a9:=(n.proc q g).len;have t:=List.getElem?_eq_getElem (show ax K.c p<(s.proc q).af.length by omega);generalize (s.proc q).af[ax K.c p]=l at t;have O:ed K.c (s.proc q) (ax K.c p)=decide (K.c.lane<=(l.values.length:Int)):=by unfold ed;rw [t]
   have F:=λl d=>(n.proc q g).dJ l d;have b0:=B.parts;refine Pp (VR o2 ⟨by omega,λl d=>⟨(F l d).waiters,by have:=(F l d).values;omega⟩⟩ T t (by rw [O] at i;exact of_decide_eq_true i) λX o4=> ?_);have I:=put _ _ _ o4;have N:({s.proc q with af:=(s.proc q).af.set (ax K.c p) (gM p v l),ae:=(s.proc q).ae}:ai)=bz (s.proc q) (ax K.c p) (gM p v):=(xE t).symm;rw [N] at I;obtain ⟨h4,z4,a4,l4,W,o6,a8⟩:=I.dk hp;refine aP (o6.st (nx z4 2) (by show 3+1<=15;omega) rfl λY o7=> ?_);exact f Y (a8 _ _ _ (W.state 2) rfl rfl o7)
  ·rw [if_neg (by decide)];rw [if_neg (by rw [i];decide)] at f;refine Pv (Ej Z g λX H=> ?_);rw [fH,AL] at H;refine BW (De m H hp ?_ f);rw [yU (by rw [Hz,El])];exact n.told hp
end
section
variable {h0 h1 k:Hp} {K:MK} {pm:Addr} {s:MS} {b:Nat->Nat->Int}
theorem Has.agree {a:Addr} {z c:aJ} (f:Has h0 (dq bm a c) k) (g:Has h1 (dq bm a z) k):c.post=z.post:=by obtain ⟨h,d,rfl⟩:=f.ld (shf:=aj) (off:=14) c.post rfl (K:=λy=>y=c.post) rfl;obtain ⟨i,e,rfl⟩:=g.ld (shf:=aj) (off:=14) z.post rfl (K:=λy=>y=z.post) rfl;have d:=d 0 (.pointer c.post) rfl;have e:=e 0 (.pointer z.post) rfl;grind
theorem fA.same {p:Nat} {z d:aJ} {a c:Addr} {y h:ai} (f:fA K p z a y) (g:fA K p d c h) (e:d.post=z.post):c=a:=by rw [f.2.2.2.2.2.2,g.2.2.2.2.2.2] at e;grind
theorem WB {c:aV} {p:Nat} {to v:Int}:iI c (gY c) s p to v=if to<0\/(nQ c:Int)<=to then bQ c s p 1
 else if gY c (ax c p) (ax c to.toNat)=false then bQ c (s.cX (ax c p) {s.part (ax c p) with forbidden:=more (s.part (ax c p)).forbidden}) p 0
 else if ax c p=ax c to.toNat then B7 c s p to.toNat v
 else if jk (s.proc to.toNat)=false\/ed c (s.proc to.toNat) (ax c p) then bQ c (s.aG to.toNat (bz (s.proc to.toNat) (ax c p) jc)) p 0
 else bQ c (s.aG to.toNat (dH (bz (s.proc to.toNat) (ax c p) (rn v)))) p 0:=rfl
theorem TU {p:Nat} {to v:Int} {Q:Hp->Prop} (m:dh h0 K) (I:cg K.c) (o:Has h0 (aD K pm s b) k) (t:jr K.c s) (hp:p<nQ K.c) (hn:∀q,q<nQ K.c->∀l∈(s.proc q).af,∀z∈l.waiters,z.proc≠(p:Int))
  (a:∀r,Has h0 (aD K pm (iI K.c (gY K.c) s p to v) b) r->Q r):Qj prog (some pm) (some (K.p p)) to v Q k:=by
 unfold Qj;rw [WB] at a;have b1:=m.nm;have e0:(qC K.x s.tick).procs=K.x.procs:=rfl;refine aP (o.eB.Bg (shf:=ak) K.x.procs rfl ?_);refine aK ?_;rw [b1];by_cases h:to<0\/(nQ K.c:Int)<=to
 ·rw [if_pos (by simp;omega)];rw [if_pos h] at a;exact BW (De m o hp (t.told hp) a)
 rw [if_neg (by simp;omega)];rw [if_neg h] at a;have g:to.toNat<nQ K.c:=by omega
 have Y:((to.toNat:Nat):Int)=to:=by omega
 obtain ⟨M,N⟩:=m.ptr o g;rw [Y] at M N;obtain ⟨h1,j,ap,l1,b2,op,c1⟩:=o.dk hp;obtain ⟨h2,f,S,l2,B,A,_⟩:=o.dk g;have u:ax K.c p<nP K.c:=I.eR;have i:j.part=(ax K.c p:Int):=b2.2.1;have eq:f.part=(ax K.c to.toNat:Int):=B.2.1;have W:f.post=some S:=B.2.2.2.2.2.2;refine aP (o.eB.ld (shf:=ak) K.x.procs rfl ⟨M,some (K.p to.toNat),N,?_⟩);refine aP (o.eB.ld (shf:=aj) K.x.table rfl ?_);refine aP (op.ld (shf:=ab .i64) j.part rfl ?_);refine aP (A.ld (shf:=ab .i64) f.part rfl ?_);rw [m.t1,i,eq];refine zzh (N8 (m.t2.mono o.le) m.Bf ?_);have U:fl K.c.labels (ax K.c p:Int) (ax K.c to.toNat:Int)=gY K.c (ax K.c p) (ax K.c to.toNat):=rfl;rw [U];by_cases G:gY K.c (ax K.c p) (ax K.c to.toNat)=false
 ·rw [if_pos (by rw [G];rfl)];rw [if_pos G] at a;obtain ⟨O,E⟩:=m.tg o u;obtain ⟨h3,x,lp,wp,l3,w,R,b6⟩:=o.sx u;refine aP (o.eB.ld (shf:=ak) K.x.parts rfl ?_);refine aP (op.ld (shf:=ab .i64) j.part rfl ?_);rw [i];refine ⟨O,_,E,?_⟩;refine aP (o.eB.ld (shf:=ak) K.x.parts rfl ?_);refine aP (op.ld (shf:=ab .i64) j.part rfl ?_);rw [i];refine ⟨O,_,E,?_⟩;refine aP (R.ld (shf:=ab .i64) x.forbidden rfl ?_);have ex:x.forbidden=(s.part (ax K.c p)).forbidden:=w.2.2.2.1;rw [ex];refine zvj (Hy (t.part _ u).kJ ?_);refine ⟨⟨o.eB.eA (n:=1) rfl,by rw [<-i];exact op.eA (n:=1) rfl,E,trivial⟩,?_⟩;refine aP (R.st (⟨x.procs,x.ae,x.log,x.lost,more (s.part (ax K.c p)).forbidden,x.an,x.dI⟩:bg) (by show 4+1<=7;omega) rfl λk1 D=> ?_);have L:=b6 (⟨x.procs,x.ae,x.log,x.lost,more (s.part (ax K.c p)).forbidden,x.an,x.dI⟩:bg) {s.part (ax K.c p) with forbidden:=more (s.part (ax K.c p)).forbidden} _ ⟨w.1,w.2.1,w.2.2.1,rfl,w.2.2.2.2⟩ rfl rfl rfl rfl D;exact BW (De m L hp (t.told hp) a)
 rw [if_neg (by grind)];rw [if_neg G] at a;refine aP (op.ld (shf:=ab .i64) j.part rfl ?_);refine aP (A.ld (shf:=ab .i64) f.part rfl ?_);rw [i,eq];by_cases H:ax K.c p=ax K.c to.toNat
 ·rw [if_pos (by rw [H];simp)];rw [if_pos H] at a;exact zsg (Rf m I o t hp g (hn _ g) a)
 rw [if_neg (by simp;omega)];rw [if_neg H] at a;have sq:=t.proc _ g;refine bU.intro (λr=>∃y:ai,y.pc=(s.proc to.toNat).pc/\Has h0 (aD K pm (s.aG to.toNat y) b) r/\∀d,Has h0 (aD K pm (bQ K.c (s.aG to.toNat y) p 0) b) d->Q d) ?_ ?_
 ·have drop:∀(P:jk (s.proc to.toNat)=false\/ed K.c (s.proc to.toNat) (ax K.c p)=true),
   ag none (some (K.p to.toNat)) λb4=>
   aN none aj k (Addr.add b4 14) λb7=>
   ag none (some (K.p p)) λb5=>
   aN none (ab .i64) k (Addr.add b5 1) λb8=>
   bK prog H8 [(.pointer b7),(.int .i64 b8)] (λF=>∃y:ai,y.pc=(s.proc to.toNat).pc/\Has h0 (aD K pm (s.aG to.toNat y) b) F/\∀d,Has h0 (aD K pm (bQ K.c (s.aG to.toNat y) p 0) b) d->Q d) k:=by
   intro P;rw [if_pos P] at a;obtain ⟨z4,a4,c0,b3,T⟩:=HB (C:=True) (Q:=λF=>∃y:ai,y.pc=(s.proc to.toNat).pc/\Has h0 (aD K pm (s.aG to.toNat y) b) F/\∀d,Has h0 (aD K pm (bQ K.c (s.aG to.toNat y) p 0) b) d->Q d) o g sq (Nat.le_of_lt u) λr J=>⟨_,El,J,a⟩;refine aP (b3 (aP (op.ld (shf:=ab .i64) j.part rfl ?_)));rw [i];exact zsd T
  refine aP (A.ld (shf:=ab .i64) f.state rfl ?_);refine T8 (DI ?_);have X:f.state=(s.proc to.toNat).state:=B.2.2.2.1;have V:(decide (f.state≠5)&&decide (f.state≠6))=jk (s.proc to.toNat):=by rw [X];rfl
  rw [V];refine aP (A.Bg (shf:=aj) f.post rfl ?_);refine aP (op.Bg (shf:=ab .i64) j.part rfl ?_);rw [i,W];by_cases hl:jk (s.proc to.toNat)=false
  ·rw [hl];refine ⟨λe=>(by cases e),λ_=>⟨0,aK ?_⟩⟩;grind
  ·have b0:jk (s.proc to.toNat)=true:=by grind
   rw [b0];refine ⟨λ_=> ?_,λe=>(by cases e)⟩;refine T6 (B6 o g sq I.lane.2 (Nat.le_of_lt u) B A (λa8=>aK ?_) λr a8 J=>aK ?_)
   ·grind
   ·rw [if_neg (by decide)];rw [if_neg (by grind)] at a;refine Pv (Ej J g λk1 D=> ?_);rw [fH,AL] at D;exact ⟨_,by rw [Hz,El],D,a⟩
 ·rintro d ⟨y,Z,L,a9⟩;refine BW (De m L hp ?_ a9);rw [yU Z];exact t.told hp
theorem Ld {p:Int} {Q:Int->Hp->Prop} (m:dh h0 K) (o:Has h0 (aD K pm s b) k) (a:Q (pS K.c s p) k):Qb prog (some pm) p Q k:=by
 unfold Qb;unfold pS at a;have l:=m.nm;refine aP (o.eB.Bg (shf:=ak) K.x.procs rfl ?_);refine aK ?_;rw [l];by_cases h:p<0\/(nQ K.c:Int)<=p
 ·rw [if_pos (by simp;omega)];rw [if_pos h] at a;exact a
 rw [if_neg (by simp;omega)];rw [if_neg h] at a;have g:p.toNat<nQ K.c:=by omega
 have j:((p.toNat:Nat):Int)=p:=by omega
 obtain ⟨e,f⟩:=m.ptr o g;rw [j] at e f;obtain ⟨u,d,r,v,n,q,_⟩:=o.dk g;refine aP (o.eB.ld (shf:=ak) K.x.procs rfl ⟨e,some (K.p p.toNat),f,?_⟩);refine aP (q.ld (shf:=ab .i64) d.state rfl ?_);refine T8 (DI ?_);have i:d.state=(s.proc p.toNat).state:=n.2.2.2.1;have t:(decide (d.state≠5)&&decide (d.state≠6))=jk (s.proc p.toNat):=by rw [i];rfl
 grind
theorem Rh {p v:Int} {Q:Int->Hp->Prop} (m:dh h0 K) (A:cg K.c) (o:Has h0 (aD K pm s b) k) (D:jr K.c s) (a:∀e,Has h0 (aD K pm (zip K.c s p v).1 b) e->Q (zip K.c s p v).2 e):Pz prog (some pm) p v Q k:=by
 unfold Pz;refine zjv (Ld m o ?_);unfold zip at a;by_cases h:pS K.c s p≠0
 ·grind
 rw [if_neg (by simpa using h)];rw [if_neg h] at a;have G:0<=p/\p<(nQ K.c:Int):=by refine Classical.byContradiction λF=>h ?_;unfold pS;omega
 have d:p.toNat<nQ K.c:=by omega
 have w:((p.toNat:Nat):Int)=p:=by omega
 obtain ⟨g,i⟩:=m.ptr o d;rw [w] at g i;obtain ⟨E,q,r,I,j,n,_⟩:=o.dk d;have u:q.post=some r:=j.2.2.2.2.2.2;have sq:=D.proc _ d;refine aP (o.eB.ld (shf:=ak) K.x.procs rfl ⟨g,some (K.p p.toNat),i,?_⟩);refine aP (o.eB.ld (shf:=ak) K.x.parts rfl ?_);refine aP (n.ld (shf:=aj) q.post rfl ?_);rw [u,m.qv];refine T6 (B6 o d sq A.lane.2 (Nat.le_refl _) j n (λf=> ?_) λe f B=> ?_)
 ·rw [if_pos (by decide)];rw [if_pos f] at a;obtain ⟨J,a4,H,z,t⟩:=HB (C:=True) (Q:=λe=>Q 19 e) o d sq (Nat.le_refl _) a;exact aP (z (zsd t))
 ·rw [if_neg (by decide)];rw [if_neg (by rw [f];decide)] at a;refine Pv (Ej B d λy l=> ?_);rw [fH,AL] at l;exact a y l
end
def xY :Prop:=∀ {c k:Hp} {p:Addr} {room ae:Int} {a:List bq} {Q:Int->Int->bf->Bool->Int->Hp->Prop},Has c (dO p room a ae) k->(a.length<=1000/\∀l∈a,jB l.taken/\l.values.length<=64)->(0<=ae/\ae<a.length)->
 (nZ ae a=none->∀b,Has c (dO p room a ae) b->Q 0 0 ⟨0,0⟩ false 21 b)->
 (∀(i:Nat) l v d,nZ ae a=some i->a[i]? =some l->l.values=v::d->∀b,Has c (dO p room (a.set i (dG l)) (((i+1:Nat):Int)%(a.length:Int))) b->
  Q v (i:Int) (match l.waiters with | []=>⟨0,0⟩ | w::_=>nt w) (!l.waiters.isEmpty) 0 b)->
 yu prog V4 [.pointer (some p)] (ab .i64) (ab .i64) aC aQ (ab .i64) Q k
section
variable {h0 h1 k:Hp} {K:MK} {pm:Addr} {s:MS} {a:Nat->Nat->Int}
theorem WC {l:List dP} {k:Core} {v f:Int}:(gh l k v f).pc=k.pc+1:=by unfold gh;cases gG l k.pc<;>rfl
theorem vu {p:Nat} {c:bc} {Q:Hp->Prop} (o:Has h0 (aD K pm s a) k) (hp:p<nQ K.c) (d:∀b,Has h0 (aD K pm (s.aG p ((s.proc p).put (fT c))) a) b->Q b):
  cD k ((K.p p).add 4) [(.int .i64 c.PC),(.int .i64 c.bV),(.int .i64 c.bW),(.int .i64 c.bX),(.int .i64 c.bY),(.int .i64 c.bZ),(.int .i64 c.b9),(.int .i64 c.cc),(.int .i64 c.cd)] Q:=by
 obtain ⟨h1,z,q,i,e,f,put⟩:=o.dk hp;exact f.st (uu z c) (by show 4+9<=15;omega) rfl λh g=>d _ (put _ _ _ (e.core c) rfl rfl g)
theorem Le {p:Nat} {G:Bool} {Q:Hp->Prop} (tk:xY) (m:dh h0 K) (mc:cg K.c) (o:Has h0 (aD K pm s a) k) (t:jr K.c s) (hp:p<nQ K.c)
  (b:∀M,Has h0 (aD K pm (ir K.c s p G) a) M->Q M):Qm prog (some pm) (some (K.p p)) G Q k:=by
 unfold Qm;obtain ⟨h1,z,q,l1,hz,oz,o1,put⟩:=o.nl hp;have sp:=t.proc p hp;have eq:z.post=some q:=hz.2.2.2.2.2.2;refine aP (oz.ld (shf:=aj) z.post rfl ?_);rw [eq];have a9:=mc.parts;have a8:=sp.len;unfold ir at b;dsimp only at b;refine tk o1 ⟨by omega,λl r=>⟨(sp.dJ l r).taken,(sp.dJ l r).values⟩⟩ sp.cur (λX k1 E=> ?_) λi l v vs Y r hv k1 E=> ?_
 ·rw [if_neg (by decide)];rw [X] at b;dsimp only at b;have h:=put _ _ _ E;have n:s.aG p {s.proc p with af:=(s.proc p).af,ae:=(s.proc p).ae}=s:=Lc;rw [n] at h;obtain ⟨W,d,q2,l2,f,j,F⟩:=h.dk hp;have T:d.bF=(s.proc p).bF:=f.2.2.2.2.2.1;refine aP (j.ld (shf:=aQ) d.bF rfl ?_);rw [T];by_cases B:(s.proc p).bF=true
  ·rw [if_pos B];rw [if_pos B] at b;refine aP (j.st (tJ d false) (by show 13+1<=15;omega) rfl λN A=> ?_);have P:=F _ _ _ (f.bF false) rfl rfl A;have e:fT (dT d)=(s.proc p).core:=f.2.2.2.2.1;have u:(dT d).PC=(s.proc p).pc:=congrArg Core.pc e;refine aP (A.ld (shf:=eT) (dT d) rfl ?_);refine aP (A.ld (shf:=ak) d.code rfl ?_);refine zxp (Eg (m.qj P.le hp f) (by rw [u];exact t.told hp) λH O y n=> ?_);refine aP (vu (P.grow y) hp λC g=>b C ?_);rw [fH,AL,n,e,(m.code p hp).2] at g;exact g
  ·rw [if_neg B];rw [if_neg B] at b;cases G with
   | true=>rw [if_pos rfl];rw [if_pos rfl] at b;have e:fT (dT d)=(s.proc p).core:=f.2.2.2.2.1;have u:(dT d).PC=(s.proc p).pc:=congrArg Core.pc e;refine aP (j.ld (shf:=eT) (dT d) rfl ?_);refine aP (j.ld (shf:=ak) d.code rfl ?_);refine zxp (Eg (m.qj h.le hp f) (by rw [u];exact t.told hp) λH O y n=> ?_);refine aP (vu (h.grow y) hp λC g=>b C ?_);rw [n,e,(m.code p hp).2] at g;exact g
   | false=>rw [if_neg (by decide)];rw [if_neg (by decide)] at b;exact aP (j.st (nx d 1) (by show 3+1<=15;omega) rfl λN A=>b N (F _ _ _ (f.state 1) rfl rfl A))
 ·rw [if_pos (by decide)];rw [Y] at b;dsimp only at b;have h:=put _ _ _ E;have R:(s.proc p).af.getD i ⟨[],[],0,0⟩=l:=mK r;rw [R] at b;have S:({s.proc p with af:=(s.proc p).af.set i (dG l),ae:=((i+1:Nat):Int)%((s.proc p).af.length:Int)}:ai)={bz (s.proc p) i dG with ae:=((i+1:Nat):Int)%((s.proc p).af.length:Int)}:=by rw [xE r]
  rw [S] at h;obtain ⟨W,d,q2,l2,f,j,F⟩:=h.dk hp;rw [fH] at f;have e:fT (dT d)=(s.proc p).core:=f.2.2.2.2.1;have u:(dT d).PC=(s.proc p).pc:=congrArg Core.pc e;refine aP (j.ld (shf:=eT) (dT d) rfl ?_);refine aP (j.ld (shf:=ak) d.code rfl ?_);refine zxp (Eg (m.qj h.le hp f) (by rw [u];exact t.told hp) λH O y n=> ?_);refine aP (vu (h.grow y) hp λC g=> ?_);rw [fH,AL,n,e,(m.code p hp).2] at g;have Z:l.values.headD 0=v:=by rw [hv];rfl
  rw [Z] at b;cases hw:l.waiters with
  | nil=>grind
  | cons w ws=>
   rw [if_pos (by simp)];rw [hw] at b;dsimp only at b;have b0:=(sp.dJ l (List.mem_of_getElem? r)).kj w (by grind);have D:w.proc.toNat<nQ K.c:=by omega
   have V:((w.proc.toNat:Nat):Int)=w.proc:=by omega
   obtain ⟨I,J⟩:=m.ptr g D;rw [V] at I J;have U:(nt w).da=w.proc:=rfl;rw [U];refine aP (g.eB.ld (shf:=ak) K.x.procs rfl ⟨I,some (K.p w.proc.toNat),J,?_⟩);refine BW (De m g D ?_ b);by_cases L:w.proc.toNat=p
   ·rw [L,fH];show 0<=(gh _ _ _ _).pc/\(gh _ _ _ _).pc<_;rw [WC];have:=(t.proc p hp).pc;show 0<=(s.proc p).pc+1/\(s.proc p).pc+1<_;omega
   ·rw [iu L];exact t.told D
end
section
variable {h0 h1 k:Hp} {K:MK} {pm:Addr} {s:MS} {g:Nat->Nat->Int}
theorem Has.aside {A:dB} {f:Type} {sz:Nat} {enc:f->List Value} {l:Sl} {e:List f} (o:Has h0 (A.star (dD sz enc l e)) k) (i:∀x,(enc x).length=sz):∃h1,h0<=h1/\Has h1 A k/\Rw h1 sz enc l e:=by obtain ⟨h1,a,b,⟨h,c,d⟩,_⟩:=o.fst;exact ⟨h1,a,b,Has.iq (h0:=h0) ⟨a,h,c,d⟩ i⟩
theorem DK {i:Nat}:s.cX i (s.part i)=s:=by unfold MS.cX;rw [xL]
theorem Has.qt {i:Nat} (o:Has h0 (aD K pm s g) k) (m:i<nP K.c):∃h1 x lp d,h0<=h1/\lS K i x lp d (s.part i)/\Has h0 (dq vX (K.q i) x) k/\Has h1 (mi lp (s.part i).az (s.part i).al) k/\
  ∀os b a,Has h1 (mi lp os b) a->Has h0 (aD K pm (s.cX i {s.part i with az:=os,al:=b}) g) a:=by
 obtain ⟨h1,x,lp,d,f,e,h,put⟩:=o.qu m;obtain ⟨y,n,t,v⟩:=h.f3;obtain ⟨j,p,u,_,w⟩:=t.fst;refine ⟨j,x,lp,d,Hp.le_trans f (Hp.le_trans n p),e,(Has.left h).mono f,u,λos b a r=> ?_⟩;have l:=put x {s.part i with az:=os,al:=b} (g i) a e (v _ _ (w _ _ r))
 rwa [xL] at l
theorem Has.iH {i:Nat} (o:Has h0 (aD K pm s g) k) (m:i<nP K.c):∃h1 x lp a,h0<=h1/\lS K i x lp a (s.part i)/\Has h0 (dq vX (K.q i) x) k/\Has h1 (rP a (g i) (2*nQ K.c)) k/\
  ∀d b,Has h1 (rP a d (2*nQ K.c)) b->Has h0 (aD K pm s (cm g i d)) b:=by
 obtain ⟨h1,x,lp,a,f,e,h,put⟩:=o.qu m;obtain ⟨y,n,t,v⟩:=h.f3;obtain ⟨j,p,u,_,w⟩:=t.snd;refine ⟨j,x,lp,a,Hp.le_trans f (Hp.le_trans n p),e,(Has.left h).mono f,u,λd b r=> ?_⟩;have l:=put x (s.part i) d b e (v _ _ (w _ _ r))
 rwa [DK] at l
theorem Has.FF {i:Nat} (o:Has h0 (aD K pm s g) k) (f:i<nP K.c):∃h1 x lp a,h0<=h1/\lS K i x lp a (s.part i)/\Has h0 (dq vX (K.q i) x) k/\Has h1 (dD 3 Fi x.log (s.part i).log) k/\Has h0 (oh K i x lp a (s.part i) (g i)) k/\
  True:=by
 obtain ⟨h1,x,lp,a,b,h,d,put⟩:=o.qu f;obtain ⟨e,j,l,m⟩:=d.f2;exact ⟨e,x,lp,a,Hp.le_trans b j,h,(Has.left d).mono b,l,d.mono b,trivial⟩
theorem DL :∀(l:List Int) (s:MS) (q:Nat),(s.proc q).pc<=((l.foldl gu s).proc q).pc/\((l.foldl gu s).proc q).pc<=(s.proc q).pc+l.length
 | [],s,q=>⟨Int.le_refl _,by simp⟩
 | a::l,s,q=>by
  have h:=DL l (gu s a) q;have b:(s.proc q).pc<=((gu s a).proc q).pc/\((gu s a).proc q).pc<=(s.proc q).pc+1:=by
   unfold gu;split
   ·unfold oK;by_cases e:q=a.toNat
    ·subst e;rw [fH];show _<=(s.proc _).pc+1/\(s.proc _).pc+1<=_;omega
    ·rw [iu e];omega
   ·omega
  grind
theorem WD {l:List dP} {k:Core} {v:Int}:(j5 l k v).pc=k.pc+1:=by unfold j5;cases gG l k.pc<;>rfl
theorem HD {c:aV} {v:Int}:∀(l:List ly) (s:MS) (q:Nat),(s.proc q).pc<=((l.foldl (λs w=>bQ c s w.proc.toNat v) s).proc q).pc/\((l.foldl (λs w=>bQ c s w.proc.toNat v) s).proc q).pc<=(s.proc q).pc+l.length
 | [],s,q=>⟨Int.le_refl _,by simp⟩
 | a::l,s,q=>by
  have h:=HD (c:=c) (v:=v) l (bQ c s a.proc.toNat v) q;have b:(s.proc q).pc<=((bQ c s a.proc.toNat v).proc q).pc/\((bQ c s a.proc.toNat v).proc q).pc<=(s.proc q).pc+1:=by
   unfold bQ;by_cases e:q=a.proc.toNat
   ·subst e;rw [fH];show _<=(j5 _ _ _).pc/\(j5 _ _ _).pc<=_;rw [WD];show _<=(s.proc _).pc+1/\(s.proc _).pc+1<=_;omega
   ·rw [iu e];omega
  grind
theorem HF {p:Int}:∀ {os:List Int} {qs:List (List Int)},(∀a∈(iA p os qs).2.2,a= -1\/∃q∈qs,a∈q)/\(iA p os qs).2.2.length<=qs.length
 | [],qs=>by cases qs<;>simp [iA]
 | o::os,[]=>by simp [iA]
 | o::os,q::qs=>by
  obtain ⟨h1,h⟩:=HF (p:=p) (os:=os) (qs:=qs);have d:∀a∈(iA p os qs).2.2,a= -1\/∃c∈q::qs,a∈c:=λa ha=>(h1 a ha).imp id λ⟨c,e,f⟩=>⟨c,List.mem_cons_of_mem _ e,f⟩;unfold iA;dsimp only;split
  ·cases q with
   | nil=>
    refine ⟨λa ha=> ?_,by simp;omega⟩;rcases List.mem_cons.1 ha with rfl | ha
    ·exact .inl rfl
    ·exact d a ha
   | cons b r=>
    refine ⟨λa ha=> ?_,by simp;omega⟩;rcases List.mem_cons.1 ha with rfl | ha
    ·exact .inr ⟨a::r,List.mem_cons_self ..,List.mem_cons_self ..⟩
    ·exact d a ha
  grind
theorem I6 {c:Type} {f:c->Bool}:∀ {l:List c} {a:c},a∈gX f l->a∈l
 | [],_,h=>by cases h
 | b::l,a,h=>by
  unfold gX at h;split at h
  ·grind
  ·rcases List.mem_cons.1 h with rfl | h
   ·simp
   ·exact List.mem_cons_of_mem _ (I6 h)
theorem Oj {p:Int} {l:List Nat} {q:Nat} (h:q∉l):(lQ p s l).aG q (mh p ((lQ p s l).proc q))=lQ p s (l++ [q]):=by unfold lQ MS.aG;congr 1;funext r;unfold cm;grind
end
structure cl (c:aV) (V:Nat->Bool) (s s':MS):Prop where
 tick:s.tick=s'.tick
 part:∀i,V i=true->s.part i=s'.part i
 proc:∀p,V (ax c p)=true->s.proc p=s'.proc p
structure Twin (V:Nat->Bool) (fl:Nat->Nat->Bool) (A B:aV):Prop where
 nP:nP B=nP A
 nQ:nQ B=nQ A
 vT:ax B=ax A
 code:∀p,V (ax A p)=true->gz A p=gz B p
 table:B.table=A.table
 fuel:B.fuel=A.fuel
 lane:B.lane=A.lane
 an:B.an=A.an
 log:B.log=A.log
 up:∀i j,fl i j=true->V j=true->V i=true
section
variable {A B:aV} {V:Nat->Bool} {fl:Nat->Nat->Bool} {s s' s1:MS} {p:Nat} {D:Int->Int->Int->Int}
theorem cl.refl :cl A V s s:=⟨rfl,λ_ _=>rfl,λ_ _=>rfl⟩
theorem cl.symm (o:cl A V s s'):cl A V s' s:=⟨o.tick.symm,λi h=>(o.part i h).symm,λp h=>(o.proc p h).symm⟩
theorem cl.trans (o:cl A V s s') (a:cl A V s' s1):cl A V s s1:=⟨o.tick.trans a.tick,λi h=>(o.part i h).trans (a.part i h),λp h=>(o.proc p h).trans (a.proc p h)⟩
theorem cl.aG (o:cl A V s s') {x x':ai} (h:V (ax A p)=true->x=x'):cl A V (s.aG p x) (s'.aG p x'):=
 ⟨o.tick,o.part,λq a=>by
  show cm s.proc p x q=cm s'.proc p x' q;by_cases e:q=p
  ·subst e;rw [jA,jA];exact h a
  ·rw [jE e,jE e];exact o.proc q a⟩
theorem cl.cX (o:cl A V s s') {i:Nat} {x x':cY} (h:V i=true->x=x'):cl A V (s.cX i x) (s'.cX i x'):=
 ⟨o.tick,λj a=>by
  show cm s.part i x j=cm s'.part i x' j;by_cases e:j=i
  ·subst e;rw [jA,jA];exact h a
  ·rw [jE e,jE e];exact o.part j a,o.proc⟩
theorem cl.ie (o:cl A V s s') (h:V (ax A p)=false) {x:ai}:cl A V s (s'.aG p x):=
 ⟨o.tick,o.part,λq a=>by
  show s.proc q=cm s'.proc p x q;by_cases e:q=p
  ·subst e;rw [h] at a;cases a
  ·rw [jE e];exact o.proc q a⟩
theorem cl.qh (o:cl A V s s') {i:Nat} (h:V i=false) {x:cY}:cl A V s (s'.cX i x):=
 ⟨o.tick,λj a=>by
  show s.part j=cm s'.part i x j;by_cases e:j=i
  ·subst e;rw [h] at a;cases a
  ·rw [jE e];exact o.part j a,o.proc⟩
theorem cl.told (o:cl A V s s') (a:Twin V fl A B) {v:Int}:cl A V (bQ A s p v) (bQ B s' p v):=
 o.aG λh=>by rw [o.proc p h,a.code p h]
theorem cl.given (o:cl A V s s') {a:Int}:cl A V (gu s a) (gu s' a):=by
 unfold gu;split
 ·exact o.aG λh=>by rw [o.proc _ h]
 ·exact o
theorem cl.lJ :∀ {l:List Int} {s s':MS},cl A V s s'->cl A V (l.foldl gu s) (l.foldl gu s')
 | [],_,_,o=>o
 | a::l,s,s',o=>cl.lJ (l:=l) (s:=gu s a) (s':=gu s' a) (cl.given o)
theorem cl.qD (a:Twin V fl A B) {v:Int}:∀ {l:List ly} {s s':MS},cl A V s s'->cl A V (l.foldl (λs w=>bQ A s w.proc.toNat v) s) (l.foldl (λs w=>bQ B s w.proc.toNat v) s')
 | [],_,_,o=>o
 | w::l,s,s',o=>cl.qD (l:=l) (s:=bQ A s w.proc.toNat v) (s':=bQ B s' w.proc.toNat v) a (cl.told o a)
theorem Twin.full (a:Twin V fl A B):ed B=ed A:=by funext x i;unfold ed;rw [a.lane]
theorem cl.send (o:cl A V s s') (a:Twin V fl A B) (hp:V (ax A p)=true) {to v:Int}:cl A V (iI A fl s p to v) (iI B fl s' p to v):=by
 unfold iI;rw [a.nQ,a.vT,a.full];by_cases d:to<0\/(nQ A:Int)<=to
 ·rw [if_pos d,if_pos d];exact o.told a
 rw [if_neg d,if_neg d];by_cases f:fl (ax A p) (ax A to.toNat)=false
 ·rw [if_pos f,if_pos f];exact (o.cX λh=>by rw [o.part _ h]).told a
 rw [if_neg f,if_neg f];by_cases b:ax A p=ax A to.toNat
 ·have j:V (ax A to.toNat)=true:=by rw [<-b];exact hp
  have e:=o.proc _ j;rw [if_pos b,if_pos b,e];split
  ·exact o.told a
  ·split
   ·have i:=o.aG (p:=to.toNat) (x:=bz (s'.proc to.toNat) (ax A p) (gM p v)) (x':=bz (s'.proc to.toNat) (ax A p) (gM p v)) λ_=>rfl;exact i.aG λh=>by rw [i.proc p h]
   ·exact (o.aG λ_=>rfl).told a
 ·rw [if_neg b,if_neg b];have key:∀(s:MS),(if jk (s.proc to.toNat)=false\/ed A (s.proc to.toNat) (ax A p)=true then bz (s.proc to.toNat) (ax A p) jc else dH (bz (s.proc to.toNat) (ax A p) (rn v)))=(if jk (s.proc to.toNat)=false\/ed A (s.proc to.toNat) (ax A p)=true then bz (s.proc to.toNat) (ax A p) jc else dH (bz (s.proc to.toNat) (ax A p) (rn v))):=λ_=>rfl;have g:∀(c:aV) (s:MS),(if jk (s.proc to.toNat)=false\/ed A (s.proc to.toNat) (ax A p)=true then bQ c (s.aG to.toNat (bz (s.proc to.toNat) (ax A p) jc)) p 0 else bQ c (s.aG to.toNat (dH (bz (s.proc to.toNat) (ax A p) (rn v)))) p 0)=
    bQ c (s.aG to.toNat (if jk (s.proc to.toNat)=false\/ed A (s.proc to.toNat) (ax A p)=true then bz (s.proc to.toNat) (ax A p) jc else dH (bz (s.proc to.toNat) (ax A p) (rn v)))) p 0:=λc s=>by
   split<;>rfl
  rw [g,g];exact (o.aG λh=>by rw [o.proc _ h]).told a
theorem cl.take (o:cl A V s s') (a:Twin V fl A B) (hp:V (ax A p)=true) {b:Bool}:cl A V (ir A s p b) (ir B s' p b):=by
 unfold ir;rw [o.proc p hp,a.code p hp];dsimp only;split
 ·split
  ·exact o.aG λ_=>rfl
  ·exact (o.aG λ_=>rfl).told a
 ·split
  ·exact o.aG λ_=>rfl
  ·split
   ·exact o.aG λ_=>rfl
   ·exact o.aG λ_=>rfl
theorem cl.out (o:cl A V s s') (a:Twin V fl A B) (hp:V (ax A p)=true) {v:Int}:cl A V (pI A s p v) (pI B s' p v):=by unfold pI;rw [a.vT,a.log,o.part _ hp,o.tick];exact o.cX λ_=>rfl
theorem cl.lock (o:cl A V s s') (b:Twin V fl A B) (hp:V (ax A p)=true) {n:Int}:cl A V (ij A s p n) (ij B s' p n):=by
 unfold ij;rw [b.vT,o.part _ hp,o.proc p hp];dsimp only;split
 ·have a:=o.cX (i:=ax A p) (x:={s'.part (ax A p) with az:=(s'.part (ax A p)).az.set n.toNat p}) λ_=>rfl;exact a.aG λh=>by rw [a.proc p h]
 ·exact (o.cX λ_=>rfl).aG λ_=>rfl
theorem cl.unlock (o:cl A V s s') (a:Twin V fl A B) (hp:V (ax A p)=true) {n:Int}:cl A V (sL A s p n) (sL B s' p n):=by
 unfold sL;rw [a.vT,o.part _ hp];dsimp only;split
 ·split
  ·exact o.cX λ_=>rfl
  ·exact (o.cX λ_=>rfl).given
 ·exact o
theorem cl.ends (o:cl A V s s') (f:Twin V fl A B) (hp:V (ax A p)=true) {st:Int}:cl A V (kI A s p st) (kI B s' p st):=by
 unfold kI;rw [f.vT,f.nQ];dsimp only;have a:cl A V (s.aG p {s.proc p with state:=st,bF:=false}) (s'.aG p {s'.proc p with state:=st,bF:=false}):=o.aG λh=>by rw [o.proc p h]
 generalize s.aG p {s.proc p with state:=st,bF:=false}=s1 at a;generalize s'.aG p {s'.proc p with state:=st,bF:=false}=t1 at a;have k:cl A V ⟨s1.tick,s1.part,λq=>if q<nQ A/\ax A q=ax A p then mh p (s1.proc q) else s1.proc q⟩ ⟨t1.tick,t1.part,λq=>if q<nQ A/\ax A q=ax A p then mh p (t1.proc q) else t1.proc q⟩:=
  ⟨a.tick,a.part,λq j=>by dsimp only;rw [a.proc q j]⟩
 have g:=a.part _ hp;rw [g];have b:=(k.cX (i:=ax A p) (x:=(nX (↑p) (t1.part (ax A p))).1) λ_=>rfl).lJ (l:=(nX (↑p) (t1.part (ax A p))).2);generalize List.foldl gu (MS.cX ⟨s1.tick,s1.part,λq=>if q<nQ A/\ax A q=ax A p then mh p (s1.proc q) else s1.proc q⟩ (ax A p) (nX (↑p) (t1.part (ax A p))).1) (nX (↑p) (t1.part (ax A p))).2=d at b;generalize List.foldl gu (MS.cX ⟨t1.tick,t1.part,λq=>if q<nQ A/\ax A q=ax A p then mh p (t1.proc q) else t1.proc q⟩ (ax A p) (nX (↑p) (t1.part (ax A p))).1) (nX (↑p) (t1.part (ax A p))).2=e at b;have c:cl A V (d.aG p {d.proc p with timer:=0,cn:=0}) (e.aG p {e.proc p with timer:=0,cn:=0}):=b.aG λh=>by rw [b.proc p h]
 generalize d.aG p {d.proc p with timer:=0,cn:=0}=m at c;generalize e.aG p {e.proc p with timer:=0,cn:=0}=n at c;rw [c.proc p hp];exact cl.qD f (c.aG λ_=>rfl)
theorem cl.MQ (o:cl A V s s') (b:Twin V fl A B) (hp:V (ax A p)=true):cl A V (sb A D fl s p) (sb B D fl s' p):=by
 unfold sb;rw [o.proc p hp,b.code p hp,o.tick];dsimp only;have a:=o.aG (p:=p) (x:=(s'.proc p).put (gg D (gz B p) (s'.proc p).core s'.tick ↑p).1) λ_=>rfl;generalize (gg D (gz B p) (s'.proc p).core s'.tick ↑p).2=w;generalize s.aG p ((s'.proc p).put (gg D (gz B p) (s'.proc p).core s'.tick ↑p).1)=s1 at a;generalize s'.aG p ((s'.proc p).put (gg D (gz B p) (s'.proc p).core s'.tick ↑p).1)=t1 at a;split
 ·exact a.ends b hp
 split
 ·exact a.send b hp
 split
 ·exact a.take b hp
 split
 ·exact a.take b hp
 split
 ·exact a.aG λh=>by rw [a.proc p h]
 split
 ·exact a.aG λh=>by rw [a.proc p h]
 split
 ·exact a.lock b hp
 split
 ·exact a.unlock b hp
 split
 ·exact a.out b hp
 exact a
structure sV (c:aV) (s:MS) (p:Nat):Prop where
 dJ:∀l∈(s.proc p).af,∀w∈l.waiters,ax c w.proc.toNat=ax c p
 iy:∀q∈(s.part (ax c p)).al,∀z∈q,ax c z.toNat=ax c p
theorem Good.FE {X Z:Nat->Prop} {T:Int} (g:Good A fl s X Z T) (hp:p<nQ A) (d:ax A p<nP A):sV A s p:=by
 refine ⟨λl j w a=> ?_,λq m z n=> ?_⟩
 ·obtain ⟨i,f⟩:=List.mem_iff_getElem?.1 j;obtain ⟨_,b,c⟩:=g.dJ p hp i l f;have e:=(b (λe=>by rw [e] at a;cases a)).1;have:=(c w a).2.2.1;rw [this,e]
 ·obtain ⟨k,h⟩:=List.mem_iff_getElem?.1 m;exact ((g.iy _ d k q h).2.1 z n).2.2.1
theorem cl.lX (o:cl A V s s') (h:V (ax A p)=false) {c:aV} {v:Int}:cl A V s (bQ c s' p v):=o.ie h
theorem cl.Bc (o:cl A V s s') {a:Int} (h:V (ax A a.toNat)=false):cl A V s (gu s' a):=by
 unfold gu;split
 ·exact o.ie h
 ·exact o
theorem cl.sf :∀ {l:List Int} {s s':MS},cl A V s s'->(∀a∈l,0<=a->V (ax A a.toNat)=false)->cl A V s (l.foldl gu s')
 | [],_,_,o,_=>o
 | a::l,s,s',o,h=>by
  refine cl.sf (l:=l) (s':=gu s' a) ?_ λb hb=>h b (List.mem_cons_of_mem _ hb);unfold gu;split
  ·exact o.ie (h a (List.mem_cons_self ..) (by assumption))
  ·exact o
theorem cl.uC {c:aV} {v:Int}:∀ {l:List ly} {s s':MS},cl A V s s'->(∀w∈l,V (ax A w.proc.toNat)=false)->cl A V s (l.foldl (λs w=>bQ c s w.proc.toNat v) s')
 | [],_,_,o,_=>o
 | w::l,_,s',o,h=>cl.uC (l:=l) (s':=bQ c s' w.proc.toNat v) (o.lX (h w (List.mem_cons_self ..))) λb hb=>h b (List.mem_cons_of_mem _ hb)
theorem xb {p:Int}:∀ {os:List Int} {e:List (List Int)} {a:Int},a∈(iA p os e).2.2->a= -1\/∃q∈e,a∈q
 | [],_,_,h=>by unfold iA at h;cases h
 | _::_,[],_,h=>by unfold iA at h;cases h
 | o::os,q::e,a,h=>by
  unfold iA at h;dsimp only at h;split at h
  ·cases q with
   | nil=>
    rcases List.mem_cons.1 h with h | h
    ·exact .inl h
    ·exact (xb h).imp id λ⟨q,d,c⟩=>⟨q,List.mem_cons_of_mem _ d,c⟩
   | cons b q=>
    rcases List.mem_cons.1 h with h | h
    ·exact .inr ⟨_,List.mem_cons_self ..,by rw [h];exact List.mem_cons_self ..⟩
    ·exact (xb h).imp id λ⟨q,d,c⟩=>⟨q,List.mem_cons_of_mem _ d,c⟩
  ·exact (xb h).imp id λ⟨q,d,c⟩=>⟨q,List.mem_cons_of_mem _ d,c⟩
theorem cl.yG (w:sV A s p) (hp:V (ax A p)=false) {st:Int}:cl A V s (kI A s p st):=by
 unfold kI;dsimp only;have i:cl A V s (s.aG p {s.proc p with state:=st,bF:=false}):=cl.refl.ie hp;have j:((s.aG p {s.proc p with state:=st,bF:=false}).proc p).af=(s.proc p).af:=by show (cm (α:=ai) _ p _ p).af=_;rw [jA]
 have k:(s.aG p {s.proc p with state:=st,bF:=false}).part=s.part:=rfl;generalize s.aG p {s.proc p with state:=st,bF:=false}=s1 at i j k;have C:cl A V s ⟨s1.tick,s1.part,λq=>if q<nQ A/\ax A q=ax A p then mh p (s1.proc q) else s1.proc q⟩:=⟨i.tick,i.part,λq f=>by
  dsimp only;rw [if_neg λh=>by rw [h.2,hp] at f;cases f];exact i.proc q f⟩
 have u:∀l∈((if p<nQ A/\ax A p=ax A p then mh p (s1.proc p) else s1.proc p):ai).af,∀z∈l.waiters,V (ax A z.proc.toNat)=false:=by
  intro l e z d;have:∃g∈(s.proc p).af,z∈g.waiters:=by
   split at e
   ·unfold mh at e;obtain ⟨g,b,rfl⟩:=List.mem_map.1 e;rw [j] at b;exact ⟨g,b,I6 d⟩
   ·rw [j] at e;exact ⟨l,e,d⟩
  obtain ⟨g,b,n⟩:=this;rw [w.dJ g b z n];exact hp
 rw [k];have o:=(C.qh hp (x:=(nX (↑p) (s.part (ax A p))).1)).sf (l:=(nX (↑p) (s.part (ax A p))).2) λa v F=>by
  rcases xb v with h | ⟨q,f,d⟩
  ·omega
  ·obtain ⟨E,y,rfl⟩:=List.mem_map.1 f;rw [w.iy E y a (I6 d)];exact hp
 have m:((List.foldl gu (MS.cX ⟨s1.tick,s.part,λq=>if q<nQ A/\ax A q=ax A p then mh p (s1.proc q) else s1.proc q⟩ (ax A p) (nX (↑p) (s.part (ax A p))).1) (nX (↑p) (s.part (ax A p))).2).proc p).af=((if p<nQ A/\ax A p=ax A p then mh p (s1.proc p) else s1.proc p):ai).af:=(Cc (q:=p)).1;rw [<-k] at o m ⊢;generalize List.foldl gu (MS.cX ⟨s1.tick,s1.part,λq=>if q<nQ A/\ax A q=ax A p then mh p (s1.proc q) else s1.proc q⟩ (ax A p) (nX (↑p) (s1.part (ax A p))).1) (nX (↑p) (s1.part (ax A p))).2=c at o m;have t:cl A V s (c.aG p {c.proc p with timer:=0,cn:=0}):=o.ie hp;have r:((c.aG p {c.proc p with timer:=0,cn:=0}).proc p).af=(c.proc p).af:=by show (cm (α:=ai) _ p _ p).af=_;rw [jA]
 generalize c.aG p {c.proc p with timer:=0,cn:=0}=G at t r;refine cl.uC (t.ie hp) λz d=> ?_;obtain ⟨l,b,n⟩:=List.mem_flatMap.1 d;rw [r,m] at b;exact u l b z n
theorem cl.Fo (up:∀i j,fl i j=true->V j=true->V i=true) (hp:V (ax A p)=false) {to v:Int}:cl A V s (iI A fl s p to v):=by
 unfold iI;have o:cl A V s s:=cl.refl;split
 ·exact o.lX hp
 split
 ·exact (o.qh hp).lX hp
 rename_i b;have a:V (ax A to.toNat)=false:=Bool.eq_false_iff.2 λh=>by rw [up _ _ (Bool.not_eq_false _▸b) h] at hp;cases hp
 split
 ·split
  ·exact o.lX hp
  split
  ·exact (o.ie a).ie hp
  exact (o.ie a).lX hp
 ·split
  ·exact (o.ie a).lX hp
  ·exact (o.ie a).lX hp
theorem TV {l:List bq} {i:Nat} {w:ly} (h:w∈(l.getD i ⟨[],[],0,0⟩).waiters):∃x∈l,w∈x.waiters:=by
 rw [List.getD_eq_getElem?_getD] at h;cases e:l[i]? with
 | none=>rw [e] at h;cases h
 | some x=>rw [e] at h;exact ⟨x,List.mem_of_getElem? e,h⟩
theorem cl.yK (w:sV A s p) (hp:V (ax A p)=false) {b:Bool}:cl A V s (ir A s p b):=by
 have o:cl A V s s:=cl.refl;unfold ir;dsimp only;split
 ·split
  ·exact o.ie hp
  ·rename_i d;refine (o.ie hp).lX ?_;obtain ⟨x,a,c⟩:=TV (l:=(s.proc p).af) (by rw [d];exact List.mem_cons_self ..);rw [w.dJ x a _ c];exact hp
 ·split
  ·exact o.ie hp
  ·split
   ·exact o.ie hp
   ·exact o.ie hp
theorem cl.wC (w:sV A s p) (hp:V (ax A p)=false) {n:Int}:cl A V s (sL A s p n):=by
 have o:cl A V s s:=cl.refl;unfold sL;dsimp only;split
 ·split
  ·exact o.qh hp
  ·rename_i a r b;refine (o.qh hp).Bc ?_;have:∃q∈(s.part (ax A p)).al,a∈q:=by
    rw [List.getD_eq_getElem?_getD] at b;cases e:(s.part (ax A p)).al[n.toNat]? with
    | none=>rw [e] at b;cases b
    | some q=>rw [e] at b;exact ⟨q,List.mem_of_getElem? e,by have:q=a::r:=b;rw [this];exact List.mem_cons_self ..⟩
   obtain ⟨q,c,d⟩:=this;rw [w.iy q c a d];exact hp
 ·exact o
theorem cl.hDo (up:∀i j,fl i j=true->V j=true->V i=true) (w:sV A s p) (hp:V (ax A p)=false):cl A V s (sb A D fl s p):=by
 unfold sb;dsimp only;generalize (gg D (gz A p) (s.proc p).core s.tick ↑p).2=z;generalize (gg D (gz A p) (s.proc p).core s.tick ↑p).1=k;have a:cl A V s (s.aG p ((s.proc p).put k)):=cl.refl.ie hp;have b:sV A (s.aG p ((s.proc p).put k)) p:=⟨by
  show ∀l∈(cm (α:=ai) _ p _ p).af,∀w∈l.waiters,_;rw [jA];exact w.dJ,w.iy⟩
 generalize s.aG p ((s.proc p).put k)=s1 at a b;split
 ·exact a.trans (cl.yG b hp)
 split
 ·exact a.trans (cl.Fo up hp)
 split
 ·exact a.trans (cl.yK b hp)
 split
 ·exact a.trans (cl.yK b hp)
 split
 ·exact a.ie hp
 split
 ·exact a.ie hp
 split
 ·unfold ij;dsimp only;split
  ·exact (a.qh hp).ie hp
  ·exact (a.qh hp).ie hp
 split
 ·exact a.trans (cl.wC b hp)
 split
 ·exact a.qh hp
 exact a
end
section
variable {A B:aV} {V:Nat->Bool} {fl:Nat->Nat->Bool} {s s':MS} {D:Int->Int->Int->Int} {T T':Int}
theorem Twin.ofs (a:Twin V fl A B) {i:Nat}:dK B i=dK A i:=by unfold dK;rw [a.nQ,a.vT]
theorem Dj {c:aV} {i a:Nat} (h:a<(dK c i).length):(dK c i).getD a 0<nQ c/\ax c ((dK c i).getD a 0)=i:=by
 have:(dK c i).getD a 0∈dK c i:=by rw [List.getD_eq_getElem?_getD,List.getElem?_eq_getElem h];exact List.getElem_mem h
 exact fD.1 this
theorem Kg {c:Type} {p q:c->Bool}:∀ {l:List c},(∀a∈l,p a=q a)->l.find? p=l.find? q
 | [],_=>rfl
 | a::l,h=>by rw [List.find?_cons,List.find?_cons,h a (List.mem_cons_self ..),Kg λb hb=>h b (List.mem_cons_of_mem _ hb)]
theorem cl.due (o:cl A V s s') (a:Twin V fl A B) {i:Nat}:cl A V (gQ A s i) (gQ B s' i):=
 ⟨o.tick,o.part,λq b=>by
  show (if q<nQ A/\ax A q=i then kX s.tick (s.proc q) else s.proc q)=(if q<nQ B/\ax B q=i then kX s'.tick (s'.proc q) else s'.proc q);rw [a.nQ,a.vT,o.tick,o.proc q b]⟩
theorem cl.pick (o:cl A V s s') (g:Twin V fl A B) {i:Nat} (b:V i=true):ik A s i=ik B s' i:=by
 unfold ik;rw [g.ofs,o.part i b];refine Kg λa d=> ?_;obtain ⟨k,e,rfl⟩:=List.mem_map.1 d;have f:0<(dK A i).length:=by have:=List.mem_range.1 e;omega
 have c:=Dj (Nat.mod_lt ((s'.part i).ae.toNat+k) f);rw [o.proc _ (by rw [c.2];exact b)]
theorem cl.turns (c:Twin V fl A B) {i:Nat} (b:V i=true):∀(n:Nat) {s s':MS},cl A V s s'->cl A V (kQ A D fl i n s) (kQ B D fl i n s')
 | 0,_,_,o=>o
 | n+1,s,s',o=>by
  unfold kQ;rw [o.pick c b];split
  ·exact o
  ·rename_i a h;refine cl.turns c b n ?_;rw [<-o.pick c b] at h;obtain ⟨d,e⟩:=CC h;unfold ji;rw [c.ofs,o.part i b];exact (o.cX λ_=>rfl).MQ c (by rw [(Dj d).2];exact b)
theorem cl.rh (m:cg A) (up:∀i j,fl i j=true->V j=true->V i=true) {i:Nat} (e:i<nP A) (d:V i=false):∀(n:Nat) {s:MS},Good A fl s No No T->T=s.tick+1->cl A V s (kQ A D fl i n s)
 | 0,_,_,_=>cl.refl
 | n+1,s,g,f=>by
  unfold kQ;split
  ·exact cl.refl
  ·rename_i a h;obtain ⟨o,t⟩:=CC h;obtain ⟨r,c⟩:=Dj o;have l:=Good.Bz (D:=D) m g e f h;have k:(ji A D fl s i a).tick=s.tick:=by unfold ji;rw [Ey];rfl
   refine cl.trans ?_ (cl.rh m up e d n l (by rw [k];exact f));unfold ji;have w:=g.FE r (by rw [c];exact e);refine (cl.refl.qh (s:=s) d).trans (cl.hDo up ⟨w.dJ,λq b z p=> ?_⟩ (by rw [c];exact d));refine w.iy q ?_ z p;have b:q∈(cm s.part i _ (ax A ((dK A i).getD a 0))).al:=b;rw [c,jA] at b;rw [c];exact b
theorem cl.uV (o:cl A V s s') (a:Twin V fl A B) (c:cg A) (m:cg B) (g:Good A fl s No No s.tick) (f:Good B fl s' No No s'.tick):cl A V (iJ A D fl s) (iJ B D fl s')/\iv A s.tick=iv B s'.tick:=by
 have d:iv B s'.tick=iv A s.tick:=by unfold iv;rw [a.table,o.tick]
 refine ⟨?_,d.symm⟩;unfold iJ;rw [d,a.fuel];dsimp only;have e:=o.due a (i:=iv A s.tick)
 suffices key:cl A V (kQ A D fl (iv A s.tick) A.fuel.toNat (gQ A s (iv A s.tick))) (kQ B D fl (iv A s.tick) A.fuel.toNat (gQ B s' (iv A s.tick))) from ⟨by show _+1=_+1;rw [key.tick],key.part,key.proc⟩
 cases hv:V (iv A s.tick) with
 | true=>exact cl.turns a hv _ e
 | false=>have h:=(g.qI (T':=s.tick+1) (by omega)).due (i:=iv A s.tick);have j:=(f.qI (T':=s'.tick+1) (by omega)).due (i:=iv A s.tick);have k:=cl.rh (D:=D) (V:=V) c a.up c.je hv A.fuel.toNat h rfl;have b:=cl.rh (D:=D) (V:=V) m a.up (by rw [a.nP];exact c.je) hv A.fuel.toNat j rfl;have l:cl A V (gQ B s' (iv A s.tick)) (kQ B D fl (iv A s.tick) A.fuel.toNat (gQ B s' (iv A s.tick))):=⟨b.tick,b.part,λp hp=>b.proc p (by rw [a.vT];exact hp)⟩;exact (k.symm.trans e).trans l
theorem Lg (o:cl A V s s') (a:Twin V fl A B) {p:Int} (hp:0<=p->p<(nQ A:Int)->V (ax A p.toNat)=true):pS A s p=pS B s' p:=by
 unfold pS;rw [a.nQ];split
 ·rfl
 ·rename_i h;rw [o.proc _ (hp (by omega) (by omega))]
theorem cl.inj (o:cl A V s s') (a:Twin V fl A B) {p v:Int} (hp:0<=p->p<(nQ A:Int)->V (ax A p.toNat)=true):cl A V (zip A s p v).1 (zip B s' p v).1:=by
 have e:=Lg o a hp;unfold zip;rw [e];split
 ·exact o
 ·rename_i h;have b:pS A s p=0:=by rw [e];exact Classical.not_not.1 h
  obtain ⟨t1,t2,_⟩:=DR b;have hv:=hp t1 (by omega);rw [a.full,a.nP,o.proc _ hv];split
  ·exact o.aG λ_=>rfl
  ·exact o.aG λ_=>rfl
theorem cl.kill (o:cl A V s s') (a:Twin V fl A B) {p:Int} (hp:0<=p->p<(nQ A:Int)->V (ax A p.toNat)=true):cl A V (ig A s p).1 (ig B s' p).1:=by
 have e:=Lg o a hp;unfold ig;rw [e];split
 ·exact o
 ·rename_i h;have b:pS A s p=0:=by rw [e];exact Classical.not_not.1 h
  obtain ⟨t1,t2,_⟩:=DR b;exact o.ends a (hp t1 (by omega))
theorem cl.MZ {p v:Int} (hp:0<=p->p<(nQ A:Int)->V (ax A p.toNat)=false):cl A V s (zip A s p v).1:=by
 unfold zip;split
 ·exact cl.refl
 ·rename_i h;obtain ⟨t1,t2,_⟩:=DR (Classical.not_not.1 h);have hv:=hp t1 (by omega);split
  ·exact cl.refl.ie hv
  ·exact cl.refl.ie hv
theorem cl.Fm (m:cg A) {X Z:Nat->Prop} (g:Good A fl s X Z T) {p:Int} (hp:0<=p->p<(nQ A:Int)->V (ax A p.toNat)=false):cl A V s (ig A s p).1:=by
 unfold ig;split
 ·exact cl.refl
 ·rename_i h;obtain ⟨t1,t2,_⟩:=DR (Classical.not_not.1 h);exact cl.yG (g.FE t2 m.eR) (hp t1 (by omega))
theorem cl.first (a:Twin V fl A B):cl A V (pP A) (pP B):=by unfold pP;rw [a.an,a.nP];exact cl.refl
end
section
variable {h0 h1 k:Hp} {K:MK} {pm:Addr} {s:MS} {a:Nat->Nat->Int}
theorem xZ {p:Nat} {Q:Int->Hp->Prop} (hp:p<=1000) (b:Q ((2*p:Nat):Int) k):Me prog (p:Int) Q k:=by unfold Me;rw [wrap64 (by omega) (by omega),show (2:Int)*(p:Int)=((2*p:Nat):Int) by omega];exact b
theorem ya {p:Nat} {Q:Int->Hp->Prop} (hp:p<=1000) (b:Q ((2*p+1:Nat):Int) k):Mf prog (p:Int) Q k:=by unfold Mf;rw [wrap64 (show -9223372036854775808<=(2:Int)*p by omega) (by omega),wrap64 (by omega) (by omega),show (2:Int)*(p:Int)+1=((2*p+1:Nat):Int) by omega];exact b
theorem TX {gs:List cC} {sl:Sl} {Q:Hp->Prop} {rest:Hp->Prop} (m:dh h0 K) (o:Has h0 (aD K pm s a) k) (r:Rw h0 2 eG sl gs) (B:gs.length<=1000) (u:∀g∈gs,0<=g.da->g.da<(nQ K.c:Int))
  (x:∀q,q<nQ K.c->0<=(s.proc q).pc/\(s.proc q).pc<=2000) (v:∀b,Has h0 (aD K pm ((gs.map (·.da)).foldl gu s) a) b->rest b):
  aA (α1:=Int) (λl f i=>
 (if (decide (f<((sl.len:Nat):Int)))=true then
 ((bB sl.base sl.len f)/\aN none Mh i (sat sl.base 2 f) λA=>
 bK prog B0 [(.pointer (some pm)),(.int .i64 A.da)] (λp=>
 l (yw (f+(1:Int))) p) i)
 else rest i)) (0:Int) k:=by
 have D:=r.1;refine aA.intro (λ(t:Int) b=>0<=t/\t<=(gs.length:Int)/\Has h0 (aD K pm (((gs.map (·.da)).take t.toNat).foldl gu s) a) b) (λt _=>(gs.length-t).toNat) ⟨by omega,by omega,by simpa using o⟩ ?_;rintro t b ⟨z,t1,d⟩;by_cases h:t<(gs.length:Int)
 ·rw [if_pos (decide_eq_true (by omega))];refine Rs.get (sh:=Mh) (Rw.mono d.le r) (λ_=>rfl) (by omega) z h λ(g:cC) j=> ?_;have w:=List.mem_of_getElem? j;have hb:=DL ((gs.map (·.da)).take t.toNat) s g.da.toNat;have C:((gs.map (·.da)).take t.toNat).length<=1000:=by rw [List.length_take,List.length_map];omega
  refine Po (DJ m d (λh0=> ?_) λE y=> ?_)
  ·have:=u g w h0;have:=x g.da.toNat (by omega);omega
  ·rw [wrap64 (by omega) (by omega)];refine ⟨⟨by omega,by omega,?_⟩,by omega⟩;have e:(t+1).toNat=t.toNat+1:=by omega
   have n:(gs.map (·.da))[t.toNat]? =some g.da:=by rw [List.getElem?_map,j];rfl
   rw [e,List.take_add_one,n];simpa using y
 ·rw [if_neg (λe=>h (by have:=of_decide_eq_true e;omega))];refine v b ?_;have e:t.toNat=gs.length:=by omega
  rw [e,List.take_of_length_le (by simp)] at d;exact d
theorem WE {b:List ly} {sl:Sl} {rest:Hp->Prop} (m:dh h0 K) (o:Has h0 (aD K pm s a) k) (r:Rw h0 2 eW sl b) (Q:b.length<=10000) (H:∀w∈b,0<=w.proc/\w.proc<(nQ K.c:Int))
  (J:∀q,q<nQ K.c->0<=(s.proc q).pc/\(s.proc q).pc<=4000) (I:∀d,Has h0 (aD K pm (b.foldl (λs w=>bQ K.c s w.proc.toNat 2) s) a) d->rest d):
  aA (α1:=Int) (λD n j=>
 (if (decide (n<((sl.len:Nat):Int)))=true then
 ((bB sl.base sl.len n)/\aN none aC j (sat sl.base 2 n) λC=>
 ag none (some pm) λM=>
 aN none ak j (Addr.add M 11) λy=>
 ((bB y.base y.len C.da)/\aN none aj j (sat y.base 1 C.da) λP=>
 bK prog vV [(.pointer (some pm)),(.pointer P),(.int .i64 (2:Int))] (λG=>
 D (yw (n+(1:Int))) G) j))
 else rest j)) (0:Int) k:=by
 have N:Rs h0 aC 2 sl (b.map nt):=r.map (f:=nt) (enc:=λx=>be (aC.enc x));have S:=r.1;refine aA.intro (λ(t:Int) d=>0<=t/\t<=(b.length:Int)/\Has h0 (aD K pm ((b.take t.toNat).foldl (λs w=>bQ K.c s w.proc.toNat 2) s) a) d) (λt _=>(b.length-t).toNat) ⟨by omega,by omega,by simpa using o⟩ ?_;rintro t d ⟨O,t1,i⟩;by_cases h:t<(b.length:Int)
 ·rw [if_pos (decide_eq_true (by omega))];refine Rs.get (sh:=aC) (N.mono i.le) (λ_=>rfl) (by omega) O (by rw [List.length_map];exact h) λ(g:bf) l=> ?_;obtain ⟨w,B,rfl⟩:∃w,b[t.toNat]? =some w/\nt w=g:=by
   rw [List.getElem?_map] at l;cases e:b[t.toNat]? with
   | none=>rw [e] at l;cases l
   | some w=>rw [e] at l;exact ⟨w,rfl,Option.some.inj l⟩
  have T:=H w (List.mem_of_getElem? B);have hb:=HD (c:=K.c) (v:=2) (b.take t.toNat) s w.proc.toNat;have R:(b.take t.toNat).length<=10000:=by rw [List.length_take];omega
  have u:w.proc.toNat<nQ K.c:=by omega
  have F:((w.proc.toNat:Nat):Int)=w.proc:=by omega
  obtain ⟨z,A⟩:=m.ptr i u;rw [F] at z A;have E:(nt w).da=w.proc:=rfl;rw [E];refine aP (i.eB.ld (shf:=ak) K.x.procs rfl ⟨z,some (K.p w.proc.toNat),A,?_⟩);refine BW (De m i u ?_ λU L=> ?_)
  ·have:=J w.proc.toNat u;omega
  ·rw [wrap64 (by omega) (by omega)];refine ⟨⟨by omega,by omega,?_⟩,by omega⟩;have e:(t+1).toNat=t.toNat+1:=by omega
   rw [e,List.take_add_one,B];simpa using L
 ·rw [if_neg (λe=>h (by have:=of_decide_eq_true e;omega))];refine I d ?_;have e:t.toNat=b.length:=by omega
  rw [e,List.take_of_length_le (by simp)] at i;exact i
end
end Lf
