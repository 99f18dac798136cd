/-
  Part 2 of the texts that the claim leans on.
-/
import Derived.Orders
import Derived.ScopeJumps
import Derived.Test.YtfbhggigncmcfaaGreatMgTpTop0
set_option maxRecDepth 100000
namespace Lf
open Go
section
variable {P:Program} {tb:Tb} {o:Oper} {ch:aZ} {s:St} {h:Hp} {K:LV->Hp->Prop}
theorem yD {base:Option Addr} {n:Nat} {b:List Value} {w:World} (q:Sub h w) (p:qa h base n b) {m c:Nat} {size:Nat} (l:n=m*size):
  (Builtin.firstCells size m (.slice base m c)).run P w=.ok b.toArray w:=by
 obtain ⟨k,f⟩:=p;subst l;cases base with
 | none=>
  rcases f with g | ⟨a,d,_⟩
  ·have:b=[]:=List.length_eq_zero_iff.1 (by omega);subst this;rfl
  ·cases d
 | some a=>
  have e:∀j v,b[j]? =some v->w.cell? (a.add j)=some v:=by
   intro j v i;rcases f with g | ⟨r,d,e⟩
   ·grind
   ·cases d;exact wT q (e j v i)
  simp only [Builtin.firstCells];rw [<-k];exact YD e
theorem Jo {a cap:Nat} (h:cap<a):Builtin.nextslicecap a cap<=2*a:=by
 unfold Builtin.nextslicecap;split
 ·omega
 ·split
  ·omega
  ·have key:∀r c,c<2*a->(c<a->256<=c)->Builtin.growBy a r c<=2*a:=by
    intro r
    induction r with
    | zero=>intro c d _;simp only [Builtin.growBy];omega
    | succ r e=>
     intro c d b;simp only [Builtin.growBy];split
     ·omega
     ·rename_i f;have:=b (by omega);exact e _ (by omega) (by omega)
   grind
theorem M1 (z:List Value):∀n,fC z n=lF z n
 | 0=>rfl
 | n+1=>by simp only [fC,List.replicate_succ,List.flatten_cons,lF];rw [<-M1 z n,fC]
theorem ER (z:Array Value) (n:Nat):Builtin.zeroCells z n=(fC z.toList n).toArray:=by rw [M1];have:=CY z.toList n z.size (by simp);unfold Builtin.zeroCells;rw [<-this]
theorem EE :IntKind.i64.max=9223372036854775807:=by decide
theorem JW (ok:tb.Ok P) {t I u rt n:Nat} {y e m:Ty} {l:Sl} {x:Value} {new:List Value} {K:Sl->Hp->Prop} {w:World}
  (hy:tb.ty t=some y) (hu:y.bO=.slice u) (z:tb.ty u=some e) (b2:tb.ty I=some m) (b7:∀k,m.bO≠ .int k)
  (b:Sub h w) (M:yh u e.size e.bytes (bp e.zero) l n new K h) (B:∀w:World,(Builtin.lenOf x).run P w=.ok n w)
  (D:∀w:World,Sub h w->(Builtin.firstCells e.size n x).run P w=.ok new.toArray w) (b8:new.length=n*e.size):
  ∃r p g,(Builtin.append_ #[t,I] rt #[.slice l.base l.len l.cap,x]).run P w=.ok (.slice r.base r.len r.cap) g/\K r p/\Step h p w g:=by
 obtain ⟨d,hold,⟨b4,b3⟩,X,U,R⟩:=M;have f:=λw=>aw ok hy w;have q:=λw=>aw ok b2 w;have v:=λw=>bX ok z w;have L:=λw=>cI ok z w;obtain ⟨i,S,_,T,_⟩:=ok.info u e z;have J:∀w,(typeInfo u).run P w=.ok i w:=λw=>by simp [typeInfo,S]
 have F:(match m.bO with | .int _=>true | _=>false)=false:=by simp
 simp only [hu] at f;by_cases A:l.len+n<=l.cap
 ·obtain ⟨E,G⟩:=U A;cases hb:l.base with
  | none=>
   refine ⟨_,_,w,?_,G,?_⟩
   ·simp [Builtin.append_,f,q,v,F,B,A,D w b,hb]
   ·simp only [gx,hb];exact .refl b
  | some a=>
   obtain ⟨g,Z,b0⟩:=EN (P:=P) new 0 h w b X (a:=a.add (l.len*e.size)) (λj hj=>by
    have:=E7 (E a hb) j (by omega);simpa using this)
   refine ⟨_,_,g,?_,G,?_⟩
   ·simp [Builtin.append_,f,q,v,F,B,A,D w b,hb,Z]
   ·simp only [gx,hb];exact b0
 ·have C:l.cap<l.len+n:=by omega
  have Q:=Jo C;have b5:¬(Builtin.nextslicecap (l.len+n) l.cap*e.bytes>281474976710656):=by
   have:Builtin.nextslicecap (l.len+n) l.cap*e.bytes<=2*(l.len+n)*e.bytes:=Nat.mul_le_mul_right _ Q;have p:2*(l.len+n)*e.bytes=2*((l.len+n)*e.bytes):=by rw [Nat.mul_assoc]
   omega
  have b6:¬(((l.len+n:Nat):Int)>IntKind.i64.max):=by rw [EE];omega
  have b1:Sub h {w with drawn:=w.drawn+1}:=b;have Y:∀w:World,Sub h w->(Builtin.firstCells e.size l.len (.slice l.base l.len l.cap)).run P w=.ok d.toArray w:=λw b=>yD b hold rfl;let c:=(Question.appendCap (l.len+n) l.cap u).cut (w.tape w.drawn (.appendCap (l.len+n) l.cap u));have O:l.len+n<=c:=by simp only [c,Question.cut];omega
  have a8:(d.toArray++new.toArray++Builtin.zeroCells e.zero.cells (c-(l.len+n)))=(d++new++fC (bp e.zero) (c-(l.len+n))).toArray:=by rw [ER,pj];simp
  obtain ⟨W,E⟩:=AN b1 (.cells (d++new++fC (bp e.zero) (c-(l.len+n))).toArray u);refine ⟨_,_,_,?_,R C c _ O W,E.drew⟩;have V:¬(9223372036854775807<(l.len:Int)+(n:Int)):=by omega
  have H:Sub h w.drew:=b;have N:¬(281474976710656<Builtin.nextslicecap (l.len+n) l.cap*i.bytes):=by rw [T];omega
  have a9:d.toArray++(new.toArray++Builtin.zeroCells e.zero.cells (c-(l.len+n)))=(d++(new++fC (bp e.zero) (c-(l.len+n)))).toArray:=by rw [<-Array.append_assoc,a8,List.append_assoc]
  simp [Builtin.append_,f,q,v,J,L,F,B,Nat.not_le.2 C,V,N,Question.forced,Y _ H,D _ H,ur];refine ⟨rfl,?_⟩;rw [<-a9];rfl
theorem yV (z:List Value) (n:Nat):(fC z n).length=n*z.length:=by simp [fC]
theorem X0 (ok:tb.Ok P) {t Z u rt:Nat} {m:Int} {y e M:Ty} {l:Sl} {K:Sl->Hp->Prop} {w:World}
  (hy:tb.ty t=some y) (hu:y.bO=.slice u) (E:tb.ty u=some e) (b7:tb.ty Z=some M) (hint:M.bO=.int .i64)
  (z:Sub h w) (hm:0<=m) (ha:kN e.size e.bytes (bp e.zero) l m.toNat (fC (bp e.zero) m.toNat) K h):
  ∃r H G,(Builtin.append_ #[t,Z] rt #[.slice l.base l.len l.cap,.int .i64 m]).run P w=.ok (.slice r.base r.len r.cap) G/\K r H/\Step h H w G:=by
 obtain ⟨B,hold,⟨a9,a8⟩,U,Q,O⟩:=ha;have d:=λw=>aw ok hy w;have f:=λw=>aw ok b7 w;have g:=λw=>bX ok E w;have C:=λw=>cI ok E w;obtain ⟨i,hi,_,b1,_⟩:=ok.info u e E;have p:∀w,(typeInfo u).run P w=.ok i w:=λw=>by simp [typeInfo,hi]
 simp only [hu] at d;simp only [hint] at f;have L:=ok.yY u e E;have A:IntKind.i64.wrap m=m:=by
  (try unfold yw);unfold IntKind.wrap
  simp only [IntKind.signed,IntKind.bits];grind
 have c2:¬m<0:=by omega
 obtain ⟨n,rfl⟩:=Int.eq_ofNat_of_zero_le hm;have b2:((n:Int)).toNat=n:=by omega
 rw [b2] at a9 a8 U Q O;have c0:¬((n:Int)*(i.bytes:Int)>281474976710656):=by grind
 have v:¬(281474976710656<(n:Int)*(i.bytes:Int)):=by omega
 have b9:∀w:World,(if n*e.size=0 then (pure #[]:Sem (Array Value)) else do pure (Builtin.zeroCells (<-zeroValue u).cells n)).run P w=.ok (fC (bp e.zero) n).toArray w:=by
  intro w;by_cases b:n*e.size=0
  ·have:fC (bp e.zero) n=[]:=List.length_eq_zero_iff.1 (by rw [yV,L];exact b);rw [if_pos b,this];rfl
  ·rw [if_neg b];simp only [Sem.run_bind,C,Result.andThen_ok,Sem.run_pure];congr 1;rw [ER,pj]
 have q:∀w:World,(asInt (.int .i64 (n:Int))).run P w=.ok (n:Int) w:=λw=>rfl;have x:¬(n:Int)<0:=by omega
 have b8:Builtin.zeroCells e.zero.cells n=(fC (bp e.zero) n).toArray:=by rw [ER,pj]
 have X:n*e.size=0->fC (bp e.zero) n=[]:=λb=>List.length_eq_zero_iff.1 (by rw [yV,L];exact b);by_cases D:l.len+n<=l.cap
 ·obtain ⟨J,S⟩:=Q D;cases hb:l.base with
  | none=>
   refine ⟨_,_,w,?_,S,?_⟩
   ·by_cases b:n*e.size=0
    ·simp [Builtin.append_,d,f,g,p,q,A,x,v,D,b,hb]
    ·simp [Builtin.append_,d,f,g,p,C,q,A,x,v,D,b,hb]
   ·simp only [gx,hb];exact .refl z
  | some a=>
   obtain ⟨G,I,b5⟩:=EN (P:=P) (fC (bp e.zero) n) 0 h w z U (a:=a.add (l.len*e.size)) (λj R=>by
    have:=E7 (J a hb) j (by rw [yV,L] at R;exact R);simpa using this)
   refine ⟨_,_,G,?_,S,?_⟩
   ·by_cases b:n*e.size=0
    ·rw [X b] at I;simp [Builtin.append_,d,f,g,p,q,A,x,v,D,b,hb,I]
    ·simp [Builtin.append_,d,f,g,p,C,q,A,x,v,D,b,b8,hb,I]
   ·simp only [gx,hb];exact b5
 ·have F:l.cap<l.len+n:=by omega
  have b0:=Jo F;have c1:¬(Builtin.nextslicecap (l.len+n) l.cap*e.bytes>281474976710656):=by
   have:Builtin.nextslicecap (l.len+n) l.cap*e.bytes<=2*(l.len+n)*e.bytes:=Nat.mul_le_mul_right _ b0;have H:2*(l.len+n)*e.bytes=2*((l.len+n)*e.bytes):=by rw [Nat.mul_assoc]
   omega
  have b6:Sub h {w with drawn:=w.drawn+1}:=z;have V:∀w:World,Sub h w->(Builtin.firstCells e.size l.len (.slice l.base l.len l.cap)).run P w=.ok B.toArray w:=λw z=>yD z hold rfl;let c:=(Question.appendCap (l.len+n) l.cap u).cut (w.tape w.drawn (.appendCap (l.len+n) l.cap u));have hc:l.len+n<=c:=by simp only [c,Question.cut];omega
  have b3:(B.toArray++(fC (bp e.zero) n).toArray++Builtin.zeroCells e.zero.cells (c-(l.len+n)))=(B++fC (bp e.zero) n++fC (bp e.zero) (c-(l.len+n))).toArray:=by rw [ER,pj];simp
  obtain ⟨hn,J⟩:=AN b6 (.cells (B++fC (bp e.zero) n++fC (bp e.zero) (c-(l.len+n))).toArray u);refine ⟨_,_,_,?_,O F c _ u hc hn,J.drew⟩;have T:¬(9223372036854775807<(l.len:Int)+(n:Int)):=by omega
  have W:Sub h w.drew:=z;have N:¬(281474976710656<Builtin.nextslicecap (l.len+n) l.cap*i.bytes):=by rw [b1];omega
  have b4:B.toArray++((fC (bp e.zero) n).toArray++Builtin.zeroCells e.zero.cells (c-(l.len+n)))=(B++(fC (bp e.zero) n++fC (bp e.zero) (c-(l.len+n)))).toArray:=by rw [<-Array.append_assoc,b3,List.append_assoc]
  have Y:∀k,Builtin.zeroCells e.zero.cells k=(fC (bp e.zero) k).toArray:=λk=>by rw [ER,pj]
  by_cases b:n*e.size=0
  ·simp only [X b] at b4 ⊢;simp [Builtin.append_,d,f,g,p,C,q,A,x,v,Nat.not_le.2 F,EE,T,N,Question.forced,V _ W,b,ur,Y];exact ⟨rfl,rfl⟩
  ·simp [Builtin.append_,d,f,g,p,C,q,A,x,v,Nat.not_le.2 F,EE,T,N,Question.forced,V _ W,b,ur,Y];exact ⟨rfl,rfl⟩
theorem Y1 (ok:tb.Ok P) {O:Array Operand} {F:Array TypeId} (H:o.op=.call {callee:=.builtin .append,args:=O,argTypes:=F}) {N:List Value} (Y:eK s ch O.toList=some N)
  (hv:AZ tb (eZ s ch) F.toList N h K):gz P o ch s h K:=by
 have J:holds s ch->∀(β:Nat->Nat) (ρ:Operand->Value),(∀x∈o.op.operands,fa β s ρ x)->O.map ρ=N.toArray:=by intro d β ρ g;have:=zI (β:=β) (ρ:=ρ) d Y λx Z=>g x (by simp [H,Op.operands,Call.operands];simpa using Z);apply Array.ext';simpa using this
 unfold AZ at hv;split at hv
 ·rename_i p n c p' n' U t E I;have D:F= #[t,E]:=by grind
  split at hv
  ·rename_i e Q v W;obtain ⟨y,u,j,i,b⟩:=wO v;obtain ⟨y',u',a8,b1,a9⟩:=wO W;refine uR (f:=λ(l:Sl)=>.slice l.base l.len l.cap) hv λd β ρ w g a K z=> ?_;obtain ⟨new,R,q⟩:=z;obtain ⟨r,k,G,B,A,C⟩:=JW (P:=P) (rt:=o.type) (x:=.slice p' n' U) (l:=⟨p,n,c⟩) ok j i b a8 (by grind) a (q.u u) (λw=>rfl)
    (λw a=>yD a R rfl) R.1
   refine ⟨r,k,G,?_,A,C⟩;simp only [execOp,H,resolve,invoke,builtin,Sem.run_bind,Sem.run_pure,Result.andThen_ok,J d β ρ g,D,B]
  ·exact hv.elim
 ·rename_i p n c x t E I;have D:F= #[t,E]:=by apply Array.ext';simpa using I
  split at hv
  ·rename_i e Q v M;obtain ⟨y,u,j,i,b⟩:=wO v;split at hv
   ·rename_i T b0;cases L:Nat.beq e.bytes 1 with
    | false=>simp [L] at hv
    | true=>
     simp only [L,cond_true] at hv;have V:=Nat.eq_of_beq_eq_true L;have S:e.size=1:=(ok.leaf u e b (by rw [T];rfl)).1;refine uR (f:=λ(l:Sl)=>.slice l.base l.len l.cap) hv λd β ρ w g a K z=> ?_;have hz:bp e.zero=[.int .u8 0]:=ok.AF u e b T;have hid:Ey tb t=u:=by unfold Ey;rw [j];simp only [i]
     have q:yh u e.size e.bytes (bp e.zero) ⟨p,n,c⟩ x.size (qZ x) K h:=by rw [S,V,hz,<-hid];exact z
     obtain ⟨r,k,G,B,A,C⟩:=JW (P:=P) (rt:=o.type) (x:=.string x) (l:=⟨p,n,c⟩) ok j i b M (by grind) a q (λw=>rfl)
      (λw a=>by
       have:(x.extract 0 x.size)=x:=by simp
       simp only [Builtin.firstCells,this,Sem.run_pure];congr 1;apply Array.ext';simp [qZ]) (by simp [qZ,S])
     refine ⟨r,k,G,?_,A,C⟩;simp only [execOp,H,resolve,invoke,builtin,Sem.run_bind,Sem.run_pure,Result.andThen_ok,J d β ρ g,D,B]
   ·exact hv.elim
  ·exact hv.elim
 ·rename_i p n c m t E I;have D:F= #[t,E]:=by apply Array.ext';simpa using I
  split at hv
  ·rename_i e Q v M;obtain ⟨y,u,j,i,b⟩:=wO v;split at hv
   ·rename_i hint;refine uR (f:=λ(l:Sl)=>.slice l.base l.len l.cap) hv λd β ρ w g a K z=> ?_;obtain ⟨X,q⟩:=z;obtain ⟨r,k,G,B,A,C⟩:=X0 (P:=P) (rt:=o.type) (l:=⟨p,n,c⟩) ok j i b M hint a X q;refine ⟨r,k,G,?_,A,C⟩;simp only [execOp,H,resolve,invoke,builtin,Sem.run_bind,Sem.run_pure,Result.andThen_ok,J d β ρ g,D,B]
   ·exact hv.elim
  ·exact hv.elim
 ·exact hv.elim
theorem Rj (ok:tb.Ok P) {B:Array Operand} {A:Array TypeId} (r:o.op=.call {callee:=.builtin .copy,args:=B,argTypes:=A}) {p g:Option Addr} {n b c d:Nat} {t L:Nat}
  (W:eK s ch B.toList=some [.slice p n c,.slice g b d]) (a8:A.toList=[t,L]) {e:Ty} (N:gL tb t=some e)
  (hv:cY (eZ s ch) (fY e.size ⟨p,n,c⟩ ⟨g,b,d⟩) (λk M=>K (.v (.int .i64 k)) M) h):gz P o ch s h K:=by
 have D:holds s ch->∀(β:Nat->Nat) (ρ:Operand->Value),(∀x∈o.op.operands,fa β s ρ x)->B.map ρ= #[.slice p n c,.slice g b d]:=by intro i β ρ l;have:=zI (β:=β) (ρ:=ρ) i W λx X=>l x (by simp [r,Op.operands,Call.operands];simpa using X);apply Array.ext';simpa using this
 have J:A= #[t,L]:=by grind
 obtain ⟨y,u,Y,V,O⟩:=wO N;refine uR (f:=λ(k:Int)=>.int .i64 k) hv λi β ρ w l z K Q=> ?_;obtain ⟨new,H,R,T,F⟩:=Q;have q:=λw=>aw ok Y w;have C:=λw=>bX ok O w;rw [V] at q;have G:Nat.min b n=min b n:=rfl;have I:(Builtin.firstCells e.size (min b n) (.slice g b d)).run P w=.ok new.toArray w:=by have:=yD (P:=P) (m:=min b n) (c:=d) z H rfl;cases g<;>exact this
 cases hp:p with
 | none=>subst hp;refine ⟨_,_,w,?_,F,by simp only [gx];exact .refl z⟩;simp only [execOp,r,resolve,invoke,builtin,Sem.run_bind,Sem.run_pure,Result.andThen_ok,D i β ρ l,J];simp [Builtin.copy_,q,C,Builtin.lenOf,G,I,goInt]
 | some a=>
  subst hp;obtain ⟨Z,S,U⟩:=EN (P:=P) (a:=a) new 0 h w z R (λj E=>by
   have:=E7 (T a rfl) j (by rw [H.1] at E;exact E);simpa using this)
  refine ⟨_,_,Z,?_,F,by simp only [gx,show a.add 0=a from by simp [Addr.add]];exact U⟩;simp only [execOp,r,resolve,invoke,builtin,Sem.run_bind,Sem.run_pure,Result.andThen_ok,D i β ρ l,J];simp [Builtin.copy_,q,C,Builtin.lenOf,G,I,goInt,S]
theorem Rl (ok:tb.Ok P) {t:Nat} {x y:Operand} (c:o.op=.makeSlice t x y) {m n:Int} {e:Ty} (E:ev s ch x=some (.v (.int .i64 m))) (F:ev s ch y=some (.v (.int .i64 n)))
  (D:gL tb t=some e) (hv:cY (eZ s ch) (dW e.bytes (bp e.zero) m n) (λl r=>K (.v (.slice l.base l.len l.cap)) r) h):gz P o ch s h K:=by
 obtain ⟨y',u,R,O,a⟩:=wO D;refine uR (f:=λ(l:Sl)=>.slice l.base l.len l.cap) hv λg β p w j M K I=> ?_;obtain ⟨⟨h0,b1,a8,a9⟩,J⟩:=I;have Q:p x=_:=bH (j x (by simp [c,Op.operands])) g E;have S:p y=_:=bH (j y (by simp [c,Op.operands])) g F;have d:=aw ok R w;rw [O] at d;have z:=λw=>bX ok a w;have B:=λw=>cI ok a w;obtain ⟨i,G,_,H,_⟩:=ok.info u e a;have A:∀w,(typeInfo u).run P w=.ok i w:=λw=>by simp [typeInfo,G]
 have U:=ok.yY u e a;have V:IntKind.i64.wrap m=m:=by simp [IntKind.wrap,IntKind.bits,IntKind.signed];omega
 have W:IntKind.i64.wrap n=n:=by simp [IntKind.wrap,IntKind.bits,IntKind.signed];omega
 have b0:¬((e.bytes:Int)*n>281474976710656):=by grind
 obtain ⟨L,N⟩:=AN M (.cells (fC (bp e.zero) n.toNat).toArray u);refine ⟨_,_,_,?_,J _ u L,N⟩;have X:¬n<0:=by omega
 have Y:¬m<0:=by omega
 have Z:¬m>n:=by omega
 have C:((n<0 || decide ((e.bytes:Int)*n>2^48)) || decide (m<0) || decide (m>n))=false:=by grind
 have b2:(if n.toNat*e.size=0 then (#[]:Array Value) else e.zero.cells)=e.zero.cells\/n.toNat*e.size=0:=by grind
 have k:(Array.range (n.toNat*e.size)).map (λi=>e.zero.cells[i%e.zero.cells.size]!)=(fC (bp e.zero) n.toNat).toArray:=by
  have:=CY (bp e.zero) n.toNat e.size U;rw [M1,<-this];have q:e.zero.cells=(bp e.zero).toArray:=by apply Array.ext';simp [pj]
  rw [q]
 simp only [execOp,c,Q,S,LVal,Instr.makeSlice,Sem.run_bind,d,Result.andThen_ok,asInt,asIntOf,Sem.run_pure,A,V,W,H];have hb:((n<0 || decide ((e.bytes:Int)*n>2^48)) || decide (m<0) || decide (m>n))=false:=C;simp only [hb,Bool.false_eq_true,if_false,Sem.run_bind,run_askRoom,Result.andThen_ok,z];by_cases b:n.toNat*e.size=0
 ·have T:(fC (bp e.zero) n.toNat).toArray= #[]:=by rw [<-k,b];simp
  simp [b,T,ur];grind
 ·simp [b,B,ur,k]
end
section
variable {P:Program} {tb:Tb} {o:Oper} {ch:aZ} {s:St} {h:Hp} {K:LV->Hp->Prop}
theorem X1 {t:Nat} (d:o.op=.makeMap t none) (hv:cY (eZ s ch) E5 (λm a=>K (.v (.map m)) a) h):gz P o ch s h K:=by refine uR (f:=λm=>.map m) hv λi k l w j e K b=> ?_;obtain ⟨c,g⟩:=AN e (.map #[] 0);refine ⟨_,_,_,?_,b _ c,g⟩;simp [execOp,d,Instr.makeMap]
theorem Z3 (ok:tb.Ok P) {src d:Nat} {x:Operand} (m:o.op=.convert src d x) {b:ByteArray} {e g:Ty} (B:ev s ch x=some (.v (.string b))) (N:tb.ty src=some e)
  (A:gL tb d=some g) (z:e.bO=.string) (E:g.bO=.int .u8)
  (hv:cY (eZ s ch) (Jm b) (λl p=>K (.v (.slice l.base l.len l.cap)) p) h):gz P o ch s h K:=by
 obtain ⟨y,u,T,Q,D⟩:=wO A;refine uR (f:=λ(l:Sl)=>.slice l.base l.len l.cap) hv λF W V w J L K G=> ?_;have S:V x=_:=bH (J x (by simp [m,Op.operands])) F B;have i:=λw=>aw ok N w;have j:=λw=>aw ok T w;have k:=λw=>aw ok D w;rw [z] at i;rw [Q] at j;rw [E] at k;let c:=(Question.appendCap b.size 0 u).cut (w.tape w.drawn (.appendCap b.size 0 u));have r:b.size<=c:=by simp only [c,Question.cut];omega
 have R:Sub h w.drew:=L;let a:=qZ b++fC [.int .u8 0] (c-b.size);have t:a.length=c:=by
  have:(qZ b).length=b.size:=by simp [qZ]
  simp only [a,List.length_append,M1,Oh,this];simp;omega
 obtain ⟨I,O⟩:=AN R (.cells a.toArray u (c,c+1));refine ⟨_,_,_,?_,G c _ u r I,Step.drew O⟩;have q:(b.data.map λx=>(.int .u8 x.toNat:Value))++Array.replicate (c-b.size) (.int .u8 0)=a.toArray:=by
  apply Array.ext';simp only [a,qZ,M1];have:∀n,List.replicate n (.int .u8 0:Value)=lF [.int .u8 0] n:=by
   intro n;induction n with
   | zero=>rfl
   | succ n U=>simp only [List.replicate_succ,lF,U];rfl
  simp [this]
 simp only [execOp,m,S,LVal,convert,Sem.run_bind,i,j,k,Result.andThen_ok,Conv.stringToBytes,run_choose,Question.forced,Bool.false_eq_true,if_false,ur,Sem.run_pure];change _=Result.ok (Next.value (.slice (some ⟨w.heap.size,0,none⟩) b.size c)) _;rw [show ((Question.appendCap b.size 0 u).cut (w.tape w.drawn (.appendCap b.size 0 u)))=c from rfl,q];have M:({w.drew with heap:=w.heap.push (.cells a.toArray u)}:World).shape? w.heap.size=some (u,c):=by simp [World.shape?,t]
 have C:({w.drew with heap:=w.heap.push (.cells a.toArray u)}:World).freeze ⟨w.heap.size,c,none⟩ 1={w.drew with heap:=w.heap.push (.cells a.toArray u (c,c+1))}:=by simp only [World.freeze,Nat.one_ne_zero,if_false];congr 1;grind
 have H:(markStringish ⟨w.heap.size,0,none⟩).run P {w.drew with heap:=w.heap.push (.cells a.toArray u)}=.ok () {w.drew with heap:=w.heap.push (.cells a.toArray u (c,c+1))}:=by simp only [markStringish,Sem.run_bind,run_shape,Result.andThen_ok,M,run_freeze];rw [C]
 change (((markStringish ⟨w.heap.size,0,none⟩).run P {w.drew with heap:=w.heap.push (.cells a.toArray u)}).andThen _).andThen _=_;rw [H];rfl
theorem Rm (ok:tb.Ok P) {src d:Nat} {x:Operand} (m:o.op=.convert src d x) {p:Option Addr} {n c:Nat} {e g:Ty} {T:Nat} (D:ev s ch x=some (.v (.slice p n c))) (N:tb.ty src=some e)
  (C:gL tb d=some g) (B:e.bO=.slice T) (G:g.bO=.int .u8) (L:src=d)
  (hv:cY (eZ s ch) (Ad p) (λ_ r=>K (.v (.slice p n c)) r) h):gz P o ch s h K:=by
 obtain ⟨y,u,S,Q,F⟩:=wO C;refine uR (f:=λ(_:Unit)=>.slice p n c) hv λH V U w J q K i=> ?_;have R:U x=_:=bH (J x (by simp [m,Op.operands])) H D;have j:=λw=>aw ok N w;have k:=λw=>aw ok S w;have l:=λw=>aw ok F w;rw [B] at j;rw [Q] at k;rw [G] at l;obtain ⟨b,off,a,t,rfl,hb,i⟩:=i;have O:=E4 q hb (o:=.cells a t (a.size,a.size+1));refine ⟨_,_,_,?_,i,O⟩;have A:w.heap[b]? =some (.cells a t (0,0)):=q _ _ hb;have E:w.freeze ⟨b,a.size,none⟩ 1={w with heap:=w.heap.setIfInBounds b (.cells a t (a.size,a.size+1))}:=by simp only [World.freeze,Nat.one_ne_zero,if_false];congr 1;grind
 have I:(markStringish ⟨b,off,none⟩).run P w=.ok () {w with heap:=w.heap.setIfInBounds b (.cells a t (a.size,a.size+1))}:=by
  have M:w.shape? b=some (t,a.size):=by simp [World.shape?,A]
  simp only [markStringish,Sem.run_bind,run_shape,Result.andThen_ok,M,run_freeze];rw [E]
 have z:(src==d)=true:=by rw [L];simp
 simp only [execOp,m,R,LVal,convert,Sem.run_bind,j,k,l,Result.andThen_ok,z,I,Sem.run_pure]
end
section
variable {P:Program} {tb:Tb} {o:Oper} {ch:aZ} {s:St} {h:Hp} {K:LV->Hp->Prop}
theorem Dw {g:Type} {A:(g->Hp->Prop)->Hp->Prop} (k:cY (eZ s ch) A (λ_ b=>K (.v (.tuple #[])) b) h)
  (c:holds s ch->∀(e:Nat->Nat) (i:Operand->Value) (w:World),(∀x∈o.op.operands,fa e s i x)->Sub h w->∀(K:g->Hp->Prop),A K h->
   ∃x b d,(execOp i o).run P w=.ok .skip d/\K x b/\Step h b w d):gz P o ch s h K:=by
 obtain ⟨j,n⟩:=CX k;refine ⟨λhh e a w ho hs next Q f=> ?_,λf=> ?_⟩
 ·obtain ⟨x,b,d,c,l,m⟩:=c hh e a.eval w ho hs _ (j hh);unfold Oper.wp;rw [c,Oper.upon_skip];exact f _ _ _ l m
 grind
theorem zG {sh:Shape} {c:Sem Value} (hv:Nl (eZ s ch) P sh c K h)
  (q:holds s ch->∀(d:Nat->Nat) (b:Operand->Value),(∀x∈o.op.operands,fa d s b x)->∀(w a:World) (v:Value),c.run P w=.ok v a->(execOp b o).run P w=.ok (.value v) a):
  gz P o ch s h K:=by
 refine uR (f:=sh.enc) hv λg d b w k m K i=> ?_;obtain ⟨v,a,e,l,⟨x,p,j⟩,n⟩:=LJ c m i;subst p;exact ⟨x,e,a,q g d b k w a _ l,j,n⟩
theorem wQ {t:Nat} {a:Sem Value} (hv:sI (eZ s ch) P tb t a K h)
  (d:holds s ch->∀(β:Nat->Nat) (c:Operand->Value),(∀x∈o.op.operands,fa β s c x)->∀(w b:World) (v:Value),a.run P w=.ok v b->(execOp c o).run P w=.ok (.value v) b):
  gz P o ch s h K:=by
 unfold sI at hv;split at hv
 ·exact zG hv d
 ·exact hv.elim
theorem Z4 {a b:ByteArray} (h:(a==b)=true):(b==a)=true:=by
 have:a=b:=by cases a;cases b;congr;exact eq_of_beq h
 grind
theorem Z5 {c:TypeDesc} {a b:Value} {n:Nat} (d:sv c=true) (h:Instr.sameNow c a b=some true):Instr.sameBits n b a=true:=by
 cases c with
 | bool=>
  cases a<;>cases b<;>simp only [Instr.sameNow] at h<;>try (cases h;done)
  injection h with h
  have:∀x y:Bool,(x==y)=true->(y==x)=true:=by decide
  cases n<;>exact this _ _ h
 | int k=>
  cases a<;>cases b<;>simp only [Instr.sameNow] at h<;>try (cases h;done)
  split at h
  ·injection h with h
   have e:=eq_of_beq h;subst e;rename_i f;cases n<;>simp_all [Instr.sameBits]
  ·cases h
 | string=>
  cases a<;>cases b<;>simp only [Instr.sameNow] at h<;>try (cases h;done)
  injection h with h
  cases n<;>exact Z4 h
 | _=>simp [sv] at d
theorem Jr {b:TypeDesc} {k:Value}:∀ {a:List MapEntry} {j i:Nat} {u:Value},Instr.findNow b k a j=some (some (i,u))->
  j<=i/\∃e,a[i-j]? =some e/\e.val=u/\Instr.sameNow b k e.key=some true
 | [],j,i,u,h=>by simp [Instr.findNow] at h
 | e::a,j,i,u,h=>by
  simp only [Instr.findNow] at h;split at h
  ·grind
  ·obtain ⟨f,c,d,l,g⟩:=Jr h;grind
  ·cases h
theorem Ox {r:Nat} {o a:Obj} {w:World} (hb:w.heap[r]? =some a) (b:isCells a=false):(setObj r o).run P w=.ok () {w with heap:=w.heap.setIfInBounds r o}:=by simp only [setObj,Sem.run,hb];cases a<;>first | rfl | simp [isCells] at b
theorem Y2 (ok:tb.Ok P) {t k u:Nat} {e p:Ty} {m:Option Nat} {b v:Value} {w:World} {K:Hp->Prop} (B:tb.ty t=some e) (H:e.bO=.map k u)
  (c:tb.ty k=some p) (f:sv p.bO=true) (j:Sub h w) (E:xD p.bO m b v K h):
  ∃q y,(Instr.mapUpdate t (.map m) b v).run P w=.ok () y/\K q/\Step h q w y:=by
 obtain ⟨r,A,ck,rfl,g,a⟩:=E;have l:=aw ok B w;rw [H] at l;have hb:=j r _ g;rcases a with ⟨a,d⟩ | ⟨i,x,a,d⟩
 ·refine ⟨_,_,?_,d,E4 j g⟩;simp only [Instr.mapUpdate,Sem.run_bind,l,Result.andThen_ok,LP hb,Da ok c f,AH ok c a,Ox hb rfl]
 ·refine ⟨_,_,?_,d,E4 j g⟩;obtain ⟨_,z,C,_,G⟩:=Jr a;have D:A[i]? =some z:=by simpa using C
  have F:=Z5 (n:=10000) f G;simp only [Instr.mapUpdate,Sem.run_bind,l,Result.andThen_ok,LP hb,Da ok c f,AH ok c a,D,Option.map_some,Option.getD_some,Instr.keyThatStays,F,if_true,Sem.run_pure,
   Ox hb rfl]
theorem Y3 (ok:tb.Ok P) {t k u rt:Nat} {t':TypeId} {e n:Ty} {m:Option Nat} {b:Value} {w:World} {K:Hp->Prop} (v:tb.ty t=some e) (z:e.bO=.map k u)
  (d:tb.ty k=some n) (j:sv n.bO=true) (f:Sub h w) (y:wP n.bO m b K h):
  ∃p q,(Builtin.delete_ #[t,t'] rt #[.map m,b]).run P w=.ok (.tuple #[]) q/\K p/\Step h p w q:=by
 have g:=aw ok v w;rw [z] at g;rcases y with ⟨rfl,a⟩ | ⟨r,A,ck,rfl,l,c⟩
 ·refine ⟨_,w,?_,a,.refl f⟩;simp [Builtin.delete_,g,Da ok d j]
 ·have hb:=f r _ l;rcases c with ⟨c,a⟩ | ⟨i,x,c,a⟩
  ·refine ⟨_,_,?_,a,E4 f l⟩;simp [Builtin.delete_,g,LP hb,Da ok d j,AH ok d c,Ox hb rfl]
  ·refine ⟨_,_,?_,a,E4 f l⟩;simp [Builtin.delete_,g,LP hb,Da ok d j,AH ok d c,Ox hb rfl]
theorem JX (ok:tb.Ok P) {t:Nat} {x y z:Operand} (n:o.op=.mapUpdate t x y z\/o.op=.insert t x y z)
  (hv:D1 P tb (eZ s ch) t (ev s ch x) (ev s ch y) (ev s ch z) K h):gz P o ch s h K:=by
 obtain ⟨a,G,D⟩:=kJ hv;obtain ⟨b,H,E⟩:=kJ D;obtain ⟨v,I,c⟩:=kJ E;clear hv D E;have run:holds s ch->∀(j:Nat->Nat) (d:Operand->Value),(∀x∈o.op.operands,fa j s d x)->∀(w f:World),(Instr.mapUpdate t a b v).run P w=.ok () f->(execOp d o).run P w=.ok .skip f:=by intro g j d i w f l;have M:d x=_:=bH (i x (by rcases n with h | h<;>simp [h,Op.operands])) g G;have N:d y=_:=bH (i y (by rcases n with h | h<;>simp [h,Op.operands])) g H;have O:d z=_:=bH (i z (by rcases n with h | h<;>simp [h,Op.operands])) g I;rcases n with h | h<;>simp only [execOp,h,M,N,O,LVal,Sem.run_bind,l,Result.andThen_ok,Sem.run_pure]
 split at c
 ·rename_i m e F;split at c
  ·rename_i k u L;split at c
   ·rename_i Q J;cases A:sv Q.bO with
    | true=>simp only [A,cond_true] at c;refine Dw c λg j d w i B K r=> ?_;obtain ⟨p,f,l,q,C⟩:=Y2 ok F L J A B r;exact ⟨(),p,f,run g j d i w f l,q,C⟩
    | false=>simp only [A,cond_false] at c;refine Dw c λg j d w i B K r=> ?_;obtain ⟨R,f,p,l,q,C⟩:=LJ _ B r;exact ⟨(),p,f,run g j d i w f l,q,C⟩
   ·exact c.elim
  ·exact c.elim
 ·exact c.elim
theorem HQ (ok:tb.Ok P) {f:Operand} {j:Array Operand} {k:Array TypeId} {g:FuncId} {first captured:Array Value} {b:List Value} {e:Ty} {a:Act} {w:World}
  (q:o.op=.call {callee:=.value f,args:=j,argTypes:=k}) (p:tb.call g=true) (n:a.eval f=.func (.func g) first captured) (u:j.map a.eval=b.toArray)
  {c:e.sh.T->Hp->Prop} (m:aa P g (first.toList++b++captured.toList) e.sh c h) (t:Sub h w) {next:Act->World->Prop} {Q:Exit->Act->World->Prop}
  (v:∀x d i,c x d->Step h d w i->next (a.put o.dst (e.sh.enc x)) i):o.wp P a w next Q:=by
 have r:(execOp a.eval o).run P w=.ok (.enter g (first.toList++b++captured.toList).toArray) w:=by
  have l:first++b.toArray++captured=(first.toList++b++captured.toList).toArray:=by apply Array.ext';simp
  simp only [execOp,q,resolve,Deferred.ofValue,n,u,Sem.run_bind,Sem.run_pure,Result.andThen_ok,invoke,l];exact ok.call g p _ w
 unfold Oper.wp;rw [r,Oper.upon_enter];refine (m w t).mono ?_;grind
theorem CZ {d:Type} {A:(d->Hp->Prop)->Hp->Prop} {f:d->Value} (j:cY (eZ s ch) A (λx b=>K (.v (f x)) b) h)
  (l:holds s ch->∀(e:Nat->Nat) (a:Act) (w:World),(∀x∈o.op.operands,fa e s a.eval x)->Sub h w->∀(K:d->Hp->Prop),A K h->∀(next:Act->World->Prop) (Q:Exit->Act->World->Prop),
   (∀x b c,K x b->Step h b w c->next (a.put o.dst (f x)) c)->o.wp P a w next Q):gz P o ch s h K:=by
 obtain ⟨i,n⟩:=CX j;refine ⟨λhh e a w ho hs next Q g=> ?_,λg=> ?_⟩
 ·exact l hh e a w ho hs _ (i hh) next Q λx b c k m=>g _ _ _ k m
 grind
theorem Y4 (ok:tb.Ok P) (hv:xR P tb o ch s h K):gz P o ch s h K:=by
 obtain ⟨b0,op,ty,pos,after,guard⟩:=o;cases op with
 | store t x y=>exact Z1 ok rfl hv
 | alloc t=>exact Z2 ok rfl hv
 | box t x=>exact TQ rfl hv
 | buildSlice t n ps=>exact UB ok rfl hv
 | makeMap t r=>
  cases r with
  | none=>exact X1 rfl hv
  | some x=>exact hv.elim
 | makeSlice t x y=>
  obtain ⟨a,B,q⟩:=kJ hv;obtain ⟨b,I,E⟩:=kJ q;clear hv q;split at E
  ·rename_i m n e J;exact Rl ok rfl B I J E
  ·exact E.elim
 | mapUpdate t x y z=>exact JX ok (.inl rfl) hv
 | insert t x y z=>exact JX ok (.inr rfl) hv
 | mapEntry t x y=>obtain ⟨a,B,q⟩:=kJ hv;obtain ⟨b,I,E⟩:=kJ q;refine wQ E λi β ρ j w C v l=> ?_;have A:ρ x=_:=bH (j x (by simp [Op.operands])) i B;have O:ρ y=_:=bH (j y (by simp [Op.operands])) i I;simp only [execOp,A,O,LVal,Sem.run_bind,l,Result.andThen_ok,Sem.run_pure]
 | binOp op t x y g=>obtain ⟨a,B,q⟩:=kJ hv;obtain ⟨b,I,E⟩:=kJ q;refine wQ E λi β ρ j w C v l=> ?_;have A:ρ x=_:=bH (j x (by simp [Op.operands])) i B;have O:ρ y=_:=bH (j y (by simp [Op.operands])) i I;have l:(do eqGuard op t x y a b;binOp op t a b:Sem Value).run P w=.ok v C:=l;simp only [execOp,A,O,LVal,Sem.run_bind] at l ⊢;rw [l];rfl
 | entryStore t x y z=>obtain ⟨a,B,q⟩:=kJ hv;obtain ⟨b,I,E⟩:=kJ q;obtain ⟨c,b2,b7⟩:=kJ E;refine Dw b7 λi β ρ w j F K D=> ?_;have A:ρ x=_:=bH (j x (by simp [Op.operands])) i B;have O:ρ y=_:=bH (j y (by simp [Op.operands])) i I;have hz:ρ z=_:=bH (j z (by simp [Op.operands])) i b2;obtain ⟨u',C,U,l,V,X⟩:=LJ _ F D;refine ⟨(),U,C,?_,V,X⟩;simp only [execOp,A,O,hz,LVal,Sem.run_bind,l,Result.andThen_ok,Sem.run_pure]
 | range t x=>obtain ⟨a,B,q⟩:=kJ hv;refine zG q λi β ρ j w C v l=> ?_;have A:ρ x=_:=bH (j x (by simp [Op.operands])) i B;simp only [execOp,A,LVal,Sem.run_bind,l,Result.andThen_ok,Sem.run_pure]
 | next x b=>obtain ⟨a,B,q⟩:=kJ hv;refine zG q λi β ρ j w C v l=> ?_;have A:ρ x=_:=bH (j x (by simp [Op.operands])) i B;simp only [execOp,A,LVal,Sem.run_bind,l,Result.andThen_ok,Sem.run_pure]
 | convert src b1 x=>
  obtain ⟨a,B,q⟩:=kJ hv;clear hv;split at q
  ·rename_i b e g H J;split at q
   ·rename_i Y Z;exact Z3 ok rfl B H J Y Z q
   ·exact q.elim
  ·rename_i p n c e g H J;split at q
   ·rename_i u0 Y Z;cases hb:Nat.beq src b1 with
    | false=>grind
    | true=>simp only [hb,cond_true] at q;exact Rm ok rfl B H J Y Z (Nat.eq_of_beq_eq_true hb) q
   ·exact q.elim
  ·exact q.elim
 | call c=>
  obtain ⟨callee,S,T⟩:=c;cases callee with
  | invoke r m=>exact hv.elim
  | builtin b=>
   obtain ⟨R,N,d⟩:=E0 hv;clear hv;have G:holds s ch->∀(β:Nat->Nat) (ρ:Operand->Value),(∀x∈(Op.call {callee:=.builtin b,args:=S,argTypes:=T}).operands,fa β s ρ x)->S.map ρ=R.toArray:=by intro i β ρ j;have:=zI (β:=β) (ρ:=ρ) i N λx A=>j x (by simp [Op.operands,Call.operands];simpa using A);grind
   cases b with
   | append=>exact Y1 ok rfl N d
   | copy=>
    replace d:vD _ _ _ _ _ _ _ _:=d;unfold vD at d;split at d
    ·rename_i p n c p' n' c' t t' a9;split at d
     ·rename_i e J;exact Rj ok rfl N a9 J d
     ·exact d.elim
    ·refine wQ d λi β ρ j w C v l=> ?_;simp only [execOp,resolve,invoke,builtin,Sem.run_bind,Sem.run_pure,Result.andThen_ok,G i β ρ j,l]
   | delete=>
    replace d:A0 _ _ _ _ _ _ _ _:=d;unfold A0 at d;split at d
    ·rename_i m k t t' a9;have b6:T= #[t,t']:=by grind
     split at d
     ·rename_i e H;split at d
      ·rename_i kt u hu;split at d
       ·rename_i ke D;cases a8:sv ke.bO with
        | true=>simp only [a8,cond_true] at d;refine uR (f:=λ_=>.tuple #[]) d λi β ρ w j F K b4=> ?_;obtain ⟨U,C,l,V,X⟩:=Y3 (rt:=ty) (t':=t') ok H hu D a8 F b4;refine ⟨(),U,C,?_,V,X⟩;have ha:=G i β ρ j;simp only [execOp,resolve,invoke,builtin,Sem.run_bind,Sem.run_pure,Result.andThen_ok,ha,b6,l]
        | false=>simp only [a8,cond_false] at d;refine wQ d λi β ρ j w C v l=> ?_;simp only [execOp,resolve,invoke,builtin,Sem.run_bind,Sem.run_pure,Result.andThen_ok,G i β ρ j,l]
       ·exact d.elim
      ·exact d.elim
     ·exact d.elim
    ·exact d.elim
   | clear=>refine wQ d λi β ρ j w C v l=> ?_;simp only [execOp,resolve,invoke,builtin,Sem.run_bind,Sem.run_pure,Result.andThen_ok,G i β ρ j,l]
   | _=>exact d.elim
  | value f=>
   obtain ⟨R,N,d⟩:=E0 hv;clear hv;have G:holds s ch->∀(β:Nat->Nat) (ρ:Operand->Value),(∀x∈(Op.call {callee:=.value f,args:=S,argTypes:=T}).operands,fa β s ρ x)->S.map ρ=R.toArray:=by intro i β ρ j;have:=zI (β:=β) (ρ:=ρ) i N λx A=>j x (by simp [Op.operands,Call.operands];right;simpa using A);grind
   cases f with
   | func g=>
    replace d:EA _ _ _ _ _ _ _ _:=d;unfold EA at d;split at d
    ·rename_i e H;cases M:tb.call g with
     | false=>
      simp only [M,cond_false] at d;split at d
      ·rename_i fx A;refine CZ (f:=e.sh.enc) d λi β a w j F K D next Q W=> ?_
       obtain ⟨u,C,U,l,⟨x,rfl,V⟩,X⟩:=LJ _ F D;have L:a.eval (.func g)=.func (.func g) #[] #[]:=rfl;have b5:(execOp a.eval {dst:=b0,op:=.call {callee:=.value (.func g),args:=S,argTypes:=T},type:=ty,pos:=pos,after:=after,guard:=guard}).run P w=.ok (.value (e.sh.enc x)) C:=by
        simp only [execOp,resolve,Deferred.ofValue,L,G i β a.eval j,Sem.run_bind,Sem.run_pure,Result.andThen_ok,invoke];have e1: #[]++R.toArray++ #[]=R.toArray:=by simp
        rw [e1,ok.ext g fx A _ w,l];rfl
       unfold Oper.wp;rw [b5,Oper.upon_value];grind
      ·exact d.elim
     | true=>
      simp only [M,cond_true] at d;refine CZ (f:=e.sh.enc) d λi β a w j F K D next Q W=> ?_
      have L:a.eval (.func g)=.func (.func g) #[] #[]:=rfl;exact HQ (first:= #[]) (captured:= #[]) ok rfl M L (G i β a.eval j) (by simpa using D) F W
    ·exact d.elim
   | tmp t=>
    replace d:EB _ _ _ _ _ _ _ _:=d;unfold EB at d;split at d
    ·rename_i e H;obtain ⟨fv,b3,E⟩:=kJ d;refine CZ (f:=e.sh.enc) E λi β a w j F K D next Q W=> ?_
     obtain ⟨g,first,captured,rfl,M,D⟩:=D;have L:a.eval (.tmp t)=_:=bH (j (.tmp t) (by simp [Op.operands,Call.operands])) i b3;exact HQ ok rfl M L (G i β a.eval j) D F W
    ·exact d.elim
   | const v=>exact d.elim
   | global g=>exact d.elim
 | _=>exact hv.elim
theorem Y5 {C:Ctx} {k:List Oper} (hv:A2 C k o ch s h K):gz C.P o ch s h K:=by
 obtain ⟨m,op,ty,pos,after,guard⟩:=o;unfold A2 at hv;split at hv
 ·rename_i x d b n;subst b;obtain ⟨a,c,i⟩:=kJ hv;refine zG i λe q l f w p v g=> ?_;have j:l x=_:=bH (f x (by simp [Op.operands])) e c;simp only [execOp,j,LVal,Sem.run_bind,g,Result.andThen_ok,Sem.run_pure]
 ·exact hv.elim
end
theorem BE {s a:St} {c:aZ} (b:∀p∈c,a.f p.1=s.f p.1):holds a c↔holds s c:=by
 have key:∀p∈c,hb a p.1=hb s p.1:=λp hp=>by unfold hb;rw [b p hp]
 exact ⟨λh p hp=>by rw [<-key p hp];exact h p hp,λh p hp=>by rw [key p hp];exact h p hp⟩
theorem Er (s:St) (d:Nat) (l:LV) (ch:aZ):(s.put (some d) l ch).f d=some (l,ch):=by simp [St.put]
theorem pV {i j:Nat} (h:i≠j):Nat.beq i j=false:=by
 cases e:Nat.beq i j with
 | false=>rfl
 | true=>exact absurd (Nat.eq_of_beq_eq_true e) h
theorem tx (s:St) {d t:Nat} (l:LV) (ch:aZ) (h:t≠d):(s.put (some d) l ch).f t=s.f t:=by simp [St.put,pV h]
theorem yi (s:St) (k:Nat) (a:List Value):(s.gI k a).m k=some a:=by simp [St.gI]
theorem xh (s:St) {k j:Nat} (a:List Value) (h:j≠k):(s.gI k a).m j=s.m j:=by simp [St.gI,pV h]
theorem YE {a:Act} {d:Nat} {v:Value} (h:d<a.tmps.size):(a.put (some d) v).eval (.tmp d)=v:=by simp [Act.put,Act.eval,h]
theorem EW {a:Act} {d t:Nat} {v:Value} (h:t≠d):(a.put (some d) v).eval (.tmp t)=a.eval (.tmp t):=by simp [Act.put,Act.eval,Array.getElem?_setIfInBounds_ne (Ne.symm h)]
structure RR (n:Nat) (Cur Liv D N:Nat->Prop) (β:Nat->Nat) (s:St) (a:Act) (h:Hp) (w:World):Prop where
 sz:a.tmps.size=n
 sub:Sub h w
 lt:∀t l c,s.f t=some (l,c)->t<n
 chain:∀t l c,s.f t=some (l,c)->∀p∈c,D p.1
 cur:∀t l c,s.f t=some (l,c)->Cur t->holds s c->a.eval (.tmp t)=LVal β l/\∀k o,(l=.box k o\/l=.dV k o)->Liv k
 bO:∀t l c,s.f t=some (l,c)->Cur t->¬holds s c->a.eval (.tmp t)=undef
 box:∀k cs,s.m k=some cs->Liv k->h (β k)=none/\∃ct,w.heap[β k]? =some (.cells cs.toArray ct (0,0))
 inj:∀k k',s.m k≠none->s.m k'≠none->Liv k->Liv k'->β k=β k'->k=k'
 lO:∀k,N k->s.m k=none
 kH:∀k,N k->∀t l c,s.f t=some (l,c)->holds s c->∀o,l≠ .box k o/\l≠ .dV k o
def live (s:St) (a:Nat->Prop) (k:Nat):Prop:=s.m k≠none/\a k
structure gR (l mm:List Nat) (lv:Nat->Prop) (β:Nat->Nat) (a:Act) (h:Hp) (w:World) (lv':Nat->Prop) (β':Nat->Nat) (a':Act) (h':Hp) (w':World):Prop where
 tmp:∀i,i∉l->a'.eval (.tmp i)=a.eval (.tmp i)
 beta:∀k,(k∉l\/k∉mm)->β' k=β k
 size:w.heap.size<=w'.heap.size
 xp:∀b,b<w.heap.size->h b=none->(∀k∈mm,lv k->β k≠b)->h' b=none
 bK:∀b,b<w.heap.size->h b=none->(∀k∈mm,lv k->β k≠b)->w'.heap[b]? =w.heap[b]?
 fresh:∀k,lv' k->(lv k/\β' k=β k)\/w.heap.size<=β' k
 os:w'.os=w.os
 tape:w'.tape=w.tape
 output:w'.output=w.output
 defers:a'.defers=a.defers
section
variable {n:Nat} {q Liv D N:Nat->Prop} {β:Nat->Nat} {s:St} {a:Act} {h:Hp} {w:World}
theorem ic {w:World} {b:Nat} {o:Obj} (h:w.heap[b]? =some o):b<w.heap.size:=by grind
theorem Rn (c:Sub h w) {b:Nat} (hb:w.heap.size<=b):h b=none:=by
 cases e:h b with
 | none=>rfl
 | some x=>exact absurd (c.lt e) (Nat.not_lt.2 hb)
theorem gR.refl (l mm:List Nat):gR l mm (live s Liv) β a h w (live s Liv) β a h w:=
 ⟨λ_ _=>rfl,λ_ _=>rfl,Nat.le_refl _,λ_ _ e _=>e,λ_ _ _ _=>rfl,λ_ e=>.inl ⟨e,rfl⟩,rfl,rfl,rfl,rfl⟩
theorem gR.trans {l e:List Nat} {lv lv1 m:Nat->Prop} {β β1 p:Nat->Nat} {a a1 a2:Act} {h h1 d:Hp} {w w1 o:World}
  (x:gR l e lv β a h w lv1 β1 a1 h1 w1) (y:gR l e lv1 β1 a1 h1 w1 m p a2 d o):gR l e lv β a h w m p a2 d o:=by
 have j:∀b,b<w.heap.size->(∀k∈e,lv k->β k≠b)->∀k∈e,lv1 k->β1 k≠b:=λb hb c k t r=>by
  rcases x.fresh k r with ⟨h1,d⟩ | h1
  ·rw [d];exact c k t h1
  omega
 refine ⟨λi g=>(y.tmp i g).trans (x.tmp i g),λk c=>(y.beta k c).trans (x.beta k c),Nat.le_trans x.size y.size,λb hb f c=> ?_,λb hb f c=> ?_,λk c=> ?_,
  y.os.trans x.os,y.tape.trans x.tape,y.output.trans x.output,y.defers.trans x.defers⟩
 ·exact y.xp b (Nat.lt_of_lt_of_le hb x.size) (x.xp b hb f c) (j b hb c)
 ·exact (y.bK b (Nat.lt_of_lt_of_le hb x.size) (x.xp b hb f c) (j b hb c)).trans (x.bK b hb f c)
 ·rcases y.fresh k c with ⟨h1,d⟩ | h1
  ·rw [d];exact x.fresh k h1
  ·exact .inr (Nat.le_trans x.size h1)
theorem gR.mono {l v l' mm':List Nat} {p t r u:Nat->Prop} {β z:Nat->Nat} {a a1:Act} {h d:Hp} {w y:World}
  (x:gR l v p β a h w t z a1 d y) (o:∀i∈l,i∈l') (j:∀i∈v,i∈mm') (hv:∀k,p k->r k) (B:∀k,u k->t k):gR l' mm' r β a h w u z a1 d y:=
 ⟨λi A=>x.tmp i λe=>A (o i e),λk c=>x.beta k (c.imp (λe f=>e (o k f)) (λe f=>e (j k f))),x.size,λb hb m c=>x.xp b hb m λk d g=>c k (j k d) (hv k g),λb hb m c=>x.bK b hb m λk d g=>c k (j k d) (hv k g),
  λk c=>(x.fresh k (B k c)).imp (λe=>⟨hv k e.1,e.2⟩) id,x.os,x.tape,x.output,x.defers⟩
theorem gR.step {l i:List Nat} {lv:Nat->Prop} {f:Hp} {g:World} (c:Step h f w g):gR l i lv β a h w lv β a f g:=
 ⟨λ_ _=>rfl,λ_ _=>rfl,c.size,λb hb d _=>(c.bK b hb d).2,λb hb d _=>(c.bK b hb d).1,λ_ e=>.inl ⟨e,rfl⟩,c.os,c.tape,c.output,rfl⟩
theorem gR.put {l mm:List Nat} {lv:Nat->Prop} {d:Option Nat} {v:Value} (b:∀i,d=some i->i∈l):gR l mm lv β a h w lv β (a.put d v) h w:=by
 refine ⟨λi c=> ?_,λ_ _=>rfl,Nat.le_refl _,λ_ _ e _=>e,λ_ _ _ _=>rfl,λ_ e=>.inl ⟨e,rfl⟩,rfl,rfl,rfl,by cases d<;>rfl⟩;cases d with
 | none=>rfl
 | some d=>exact EW λe=>c (e▸b d rfl)
theorem RR.step (b:RR n q Liv D N β s a h w) {c:Hp} {e:World} (d:Step h c w e):RR n q Liv D N β s a c e:=
 ⟨b.sz,d.sub,b.lt,b.chain,b.cur,b.bO,λk f l j=>by
  obtain ⟨g,m,i⟩:=b.box k f l j;obtain ⟨o,p⟩:=d.bK _ (ic i) g;grind,b.inj,b.lO,b.kH⟩
theorem RR.congr (b:RR n q Liv D N β s a h w) {m u r v:Nat->Prop} (j:∀t,m t↔q t) (g:∀t,u t↔Liv t) (z:∀t,D t->r t) (x:∀t,v t->N t):
  RR n m u r v β s a h w:=
 ⟨b.sz,b.sub,b.lt,λt l c e p hp=>z _ (b.chain t l c e p hp),λt l c e d f=>⟨(b.cur t l c e ((j t).1 d) f).1,λk o i=>(g k).2 ((b.cur t l c e ((j t).1 d) f).2 k o i)⟩,
  λt l c e d f=>b.bO t l c e ((j t).1 d) f,λk cs e d=>b.box k cs e ((g k).1 d),λk y e i d f=>b.inj k y e i ((g k).1 d) ((g y).1 f),
  λk e=>b.lO k (x k e),λk e=>b.kH k (x k e)⟩
theorem DV {d:Nat} {l:LV} {ch c:aZ} (b:¬D d) (f:∀p∈c,D p.1):holds (s.put (some d) l ch) c↔holds s c:=
 BE λp hp=>tx s l ch λe=>b (e▸f p hp)
theorem D6 (d:RR n q Liv D N β s a h w) {x:Operand} (i:∀t,x=.tmp t->q t):fa β s a.eval x:=by
 cases x with
 | tmp t=>exact λl c e b=>(d.cur t l c e (i t rfl) b).1
 | const v=>rfl
 | global g=>rfl
 | func f=>rfl
theorem HR (b:RR n q Liv D N β s a h w) {o:Oper} (i:∀t,Operand.tmp t∈o.op.operands->q t):qG β s o w:=by
 intro t g k off c hf e d f;rcases hf with hf | hf
 ·exact (b.box k d f ((b.cur t _ c hf (i t g) e).2 k off (.inl rfl))).2
 ·exact (b.box k d f ((b.cur t _ c hf (i t g) e).2 k off (.inr rfl))).2
theorem RR.lift (g:RR n q Liv D N β s a h w) {d:Nat} {l:LV} {ch:aZ} (y:d<n) (r:¬D d) (u:∀p∈ch,D p.1) (A:holds s ch->∀k o,(l=.box k o\/l=.dV k o)->¬N k):
  RR n (λt=>t≠d/\q t) Liv D N β (s.put (some d) l ch) a h w:=by
 have key:∀t b c,(s.put (some d) l ch).f t=some (b,c)->t=d/\b=l/\c=ch\/t≠d/\s.f t=some (b,c):=λt b c e=>by
  by_cases v:t=d
  ·subst v;rw [Er] at e;grind
  ·rw [tx _ _ _ v] at e;grind
 refine ⟨g.sz,g.sub,λt b c e=> ?_,λt b c e=> ?_,λt b c e m j=> ?_,λt b c e m j=> ?_,g.box,g.inj,g.lO,λk z t b c e j o=> ?_⟩
 ·rcases key t b c e with ⟨rfl,_,_⟩ | ⟨_,i⟩
  ·exact y
  ·exact g.lt t b c i
 ·rcases key t b c e with ⟨_,_,rfl⟩ | ⟨_,i⟩
  ·exact u
  ·exact g.chain t b c i
 ·rcases key t b c e with ⟨rfl,_,_⟩ | ⟨_,i⟩
  ·exact absurd rfl m.1
  ·exact g.cur t b c i m.2 ((DV r (g.chain t b c i)).1 j)
 ·rcases key t b c e with ⟨rfl,_,_⟩ | ⟨_,i⟩
  ·exact absurd rfl m.1
  ·exact g.bO t b c i m.2 λx=>j ((DV r (g.chain t b c i)).2 x)
 ·rcases key t b c e with ⟨_,rfl,rfl⟩ | ⟨_,i⟩
  ·have B:=(DV r u).1 j;grind
  ·exact g.kH k z t b c i ((DV r (g.chain t b c i)).1 j) o
theorem RR.exec (b:RR n q Liv D N β s a h w) {d:Nat} {l:LV} {ch:aZ} {v:Value} (m:s.f d=some (l,ch)) (y:¬q d)
  (u:holds s ch->v=LVal β l/\∀k o,(l=.box k o\/l=.dV k o)->Liv k) (x:¬holds s ch->v=undef):
  RR n (λt=>t=d\/q t) Liv D N β s (a.put (some d) v) h w:=by
 have r:=b.lt d l ch m;refine ⟨by simpa [Act.put] using b.sz,b.sub,b.lt,b.chain,λt p c e j i=> ?_,λt p c e j i=> ?_,b.box,b.inj,b.lO,b.kH⟩
 ·by_cases g:t=d
  ·subst g;rw [m] at e;cases e;rw [YE (by rw [b.sz];exact r)];exact u i
  ·rw [EW g];exact b.cur t p c e (j.resolve_left g) i
 ·by_cases g:t=d
  ·subst g;rw [m] at e;cases e;rw [YE (by rw [b.sz];exact r)];exact x i
  ·rw [EW g];exact b.bO t p c e (j.resolve_left g) i
theorem RR.Aq (b:RR n q Liv D N β s a h w) {d:Nat} (u:List Value) (I:d<n) (G:¬D d) (H:N d):
  RR n (λt=>t≠d/\q t) (λk=>k≠d/\Liv k) D (λk=>k≠d/\N k) β ((s.put (some d) (.box d 0) []).gI d u) a h w:=by
 have r:∀t,t≠d->((s.put (some d) (.box d 0) []).gI d u).f t=s.f t:=λt i=>tx s _ _ i;have J:((s.put (some d) (.box d 0) []).gI d u).f d=some (.box d 0,[]):=Er s _ _ _;have z:∀k,k≠d->((s.put (some d) (.box d 0) []).gI d u).m k=s.m k:=λk g=>xh _ _ g;have A:∀c:aZ,(∀p∈c,D p.1)->(holds ((s.put (some d) (.box d 0) []).gI d u) c↔holds s c):=λc j=>BE λp hp=>r _ λe=>G (e▸j p hp);refine ⟨b.sz,b.sub,λt l c e=> ?_,λt l c e=> ?_,λt l c e j v=> ?_,λt l c e j v=> ?_,λk E e g=> ?_,λk C e x g B=> ?_,λk g=> ?_,λk g t l c e v o=> ?_⟩
 ·by_cases i:t=d
  ·exact i▸I
  ·exact b.lt t l c (by rwa [r t i] at e)
 ·by_cases i:t=d
  ·grind
  ·exact b.chain t l c (by rwa [r t i] at e)
 ·rw [r t j.1] at e;have y:=(A c (b.chain t l c e)).1 v;have:=b.cur t l c e j.2 y;refine ⟨this.1,λk o x=>⟨λF=> ?_,this.2 k o x⟩⟩;subst F;have:=b.kH k H t l c e y o;grind
 ·rw [r t j.1] at e;exact b.bO t l c e j.2 λy=>v ((A c (b.chain t l c e)).2 y)
 ·rw [z k g.1] at e;exact b.box k E e g.2
 ·rw [z k g.1] at e;rw [z C B.1] at x;exact b.inj k C e x g.2 B.2
 ·rw [z k g.1];exact b.lO k g.2
 ·by_cases i:t=d
  ·grind
  ·rw [r t i] at e;exact b.kH k g.2 t l c e ((A c (b.chain t l c e)).1 v) o
theorem KQ (c:Sub h w) (o:Obj):Step h h w {w with heap:=w.heap.push o}:=by
 refine ⟨λb x e=> ?_,by simp,λb hb f=>⟨?_,f⟩,rfl,rfl,rfl⟩
 ·have d:=c.lt e;simp only [Array.getElem?_push,if_neg (Nat.ne_of_lt d)];exact c b x e
 grind
def vb (β:Nat->Nat) (d b:Nat):Nat->Nat:=λk=>if k=d then b else β k
theorem RR.Ai (b:RR n q Liv D N β s a h w) {d:Nat} {C:List Value} (t:Nat) (G:s.f d=some (.box d 0,[])) (O:s.m d=some C) (R:¬q d) (H:¬Liv d):
  RR n (λt=>t=d\/q t) (λk=>k=d\/Liv k) D N (vb β d w.heap.size) s (a.put (some d) (.pointer (some ⟨w.heap.size,0,none⟩))) h {w with heap:=w.heap.push (.cells C.toArray t (0,0))}:=by
 have P:h w.heap.size=none:=Rn b.sub (Nat.le_refl _);have J:∀k,s.m k≠none->Liv k->β k<w.heap.size:=λk i M=>by obtain ⟨E,e⟩:=Option.ne_none_iff_exists'.1 i;obtain ⟨_,Q,K⟩:=b.box k E e M;exact ic K
 have b:=b.step (KQ b.sub (.cells C.toArray t (0,0)));have L:=b.lt d _ _ G;have p:∀k,k≠d->vb β d w.heap.size k=β k:=λk i=>by simp [vb,i]
 refine ⟨by simpa [Act.put] using b.sz,b.sub,b.lt,b.chain,λz B c e F A=> ?_,λz B c e F A=> ?_,λk E e i=> ?_,λk u e y i I r=> ?_,b.lO,b.kH⟩
 ·by_cases l:z=d
  ·subst l;rw [G] at e;cases e;rw [YE (by rw [b.sz];exact L)];refine ⟨by simp [LVal,vb],λk o y=>.inl ?_⟩;grind
  ·rw [EW l];have:=b.cur z B c e (F.resolve_left l) A;refine ⟨?_,λk o y=>.inr (this.2 k o y)⟩;rw [this.1];cases B with
   | v x=>rfl
   | box k o=>have i:k≠d:=λg=>H (g▸this.2 k o (.inl rfl));simp [LVal,p k i]
   | dV k o=>have i:k≠d:=λg=>H (g▸this.2 k o (.inr rfl));simp [LVal,p k i]
 ·by_cases l:z=d
  ·subst l;rw [G] at e;cases e;exact absurd (bI s) A
  ·rw [EW l];exact b.bO z B c e (F.resolve_left l) A
 ·by_cases g:k=d
  ·subst g;rw [O] at e;cases e;refine ⟨?_,t,?_⟩
   ·simpa [vb] using P
   ·simp [vb]
  ·rw [p k g];exact b.box k E e (i.resolve_left g)
 ·by_cases g:k=d
  ·by_cases j:u=d
   ·rw [g,j]
   ·rw [p u j,g] at r;have:=J u y (I.resolve_left j);simp only [vb,if_true] at r;omega
  ·by_cases j:u=d
   ·rw [p k g,j] at r;have:=J k e (i.resolve_left g);simp only [vb,if_true] at r;omega
   ·rw [p k g,p u j] at r;exact b.inj k u e y (i.resolve_left g) (I.resolve_left j) r
theorem FX {l mm:List Nat} {d:Nat} {g:List Value} (t:Nat) (r:Sub h w) (v:s.m d=some g) (u:¬Liv d) (o:d∈l) (x:d∈mm):
  gR l mm (live s Liv) β a h w (live s λk=>k=d\/Liv k) (vb β d w.heap.size) (a.put (some d) (.pointer (some ⟨w.heap.size,0,none⟩))) h {w with heap:=w.heap.push (.cells g.toArray t (0,0))}:=by
 refine ⟨λi j=>EW λe=>j (e▸o),λk f=> ?_,by simp,λ_ _ e _=>e,λb hb p _=>((KQ r _).bK b hb p).1,λk f=> ?_,rfl,rfl,rfl,rfl⟩
 ·have:k≠d:=λe=>by grind
  simp [vb,this]
 ·by_cases c:k=d
  ·subst c;exact .inr (by simp [vb])
  ·exact .inl ⟨⟨f.1,f.2.resolve_left c⟩,by simp [vb,c]⟩
theorem yj (b:Nat) (d:Nat):∀(new:List Value) (h:Hp) (i off:Nat) (c:List Value),off+i+new.length<=c.length->h b=some (.cells c.toArray d (0,0))->
  (kI h ⟨b,off,none⟩ new i) b=some (.cells (lx c (off+i) new).toArray d (0,0))/\∀f,f≠b->(kI h ⟨b,off,none⟩ new i) f=h f
 | [],h,i,off,c,g,e=>by refine ⟨?_,λ_ _=>rfl⟩;rw [zJ _ _ _ (by simpa using g)];simpa [kI] using e
 | v::new,h,i,off,c,g,e=>by
  simp at g;have l:(h.put ((⟨b,off,none⟩:Addr).add i) v)=h.set b (.cells (c.set (off+i) v).toArray d (0,0)):=by rw [kK];unfold Hp.put;grind
  have m:(h.set b (.cells (c.set (off+i) v).toArray d (0,0))) b=some (.cells (c.set (off+i) v).toArray d (0,0)):=by simp [Hp.set]
  obtain ⟨o,p⟩:=yj b d new _ (i+1) off (c.set (off+i) v) (by simp;omega) m;simp only [kI,l];refine ⟨?_,λf k=> ?_⟩
  ·rw [o,zJ _ _ _ (by simp;omega),zJ _ _ _ (by simp;omega)];congr 3;apply List.ext_getElem?;intro j;simp only [List.getElem?_append,List.length_append,List.length_take,List.length_set,List.length_cons,List.getElem?_take,List.getElem?_drop,List.getElem?_set];grind
  ·rw [p f k];simp [Hp.set,k]
theorem Xc {P:Program} {b k off:Nat} {d new:List Value} (z:Sub h w) (hb:w.heap[b]? =some (.cells d.toArray k (0,0))) (F:h b=none) (x:ji new=true) (E:off+new.length<=d.length):
  ∃c,(storeCells ⟨b,off,none⟩ new 0).run P w=.ok () c/\c.heap[b]? =some (.cells (lx d off new).toArray k (0,0))/\(∀f,f<w.heap.size->f≠b->h f=none->c.heap[f]? =w.heap[f]?)/\
   Sub h c/\w.heap.size<=c.heap.size/\c.os=w.os/\c.tape=w.tape/\c.output=w.output:=by
 have A:Sub (h.set b (.cells d.toArray k (0,0))) w:=by
  intro i o e;unfold Hp.set at e;by_cases l:i=b
  ·grind
  ·simp [l] at e;exact z i o e
 have m:(h.set b (.cells d.toArray k (0,0))) b=some (.cells d.toArray k (0,0)):=by simp [Hp.set]
 obtain ⟨c,y,g⟩:=EN (P:=P) (a:=⟨b,off,none⟩) new 0 _ w A x (λj C=>by
  rw [kK];refine ⟨⟨d[off+(0+j)]'(by omega),?_⟩,?_⟩
  ·simp only [dd,m];simp
  ·simp only [gM,m];simp)
 obtain ⟨p,r⟩:=yj b k new _ 0 off d (by omega) m;refine ⟨c,y,g.sub _ _ p,λf t v u=>(g.bK f t (by simp [Hp.set,v,u])).1,λi o e=>g.sub i o ?_,g.size,g.os,g.tape,g.output⟩;have l:i≠b:=λB=>by grind
 rw [r i l];simp [Hp.set,l,e]
theorem RR.Br (b:RR n q Liv D N β s a h w) {k l:Nat} {i j:List Value} {g:World} (v:s.m k=some i) (r:Liv k)
  (hb:g.heap[β k]? =some (.cells j.toArray l (0,0))) (F:∀f,f<w.heap.size->f≠β k->h f=none->g.heap[f]? =w.heap[f]?) (G:Sub h g):
  RR n q Liv D N β (s.gI k j) a h g:=by
 refine ⟨b.sz,G,b.lt,b.chain,b.cur,b.bO,λd z e u=> ?_,λx y C E=>b.inj x y ?_ ?_,λd t=> ?_,b.kH⟩
 ·by_cases c:d=k
  ·subst c;rw [yi] at e;cases e;exact ⟨(b.box d i v r).1,l,hb⟩
  ·rw [xh _ _ c] at e;obtain ⟨o,A,p⟩:=b.box d z e u;refine ⟨o,A,?_⟩;rw [F _ (ic p) (λB=>c (b.inj d k (by simp [e]) (by simp [v]) u r B)) o];exact p
 ·intro e;by_cases c:x=k
  ·grind
  ·exact C (by rw [xh _ _ c];exact e)
 ·intro e;by_cases c:y=k
  ·grind
  ·exact E (by rw [xh _ _ c];exact e)
 ·by_cases c:d=k
  ·have:=b.lO d t;grind
  ·rw [xh _ _ c];exact b.lO d t
end
section
variable {n:Nat} {g Liv D N:Nat->Prop} {β:Nat->Nat} {s:St} {a:Act} {h:Hp} {w:World}
theorem RR.gx (j:RR n g Liv D N β s a h w) {dst:Option Nat} {l:LV} {ch:aZ} {v:Value} (q:∀d,dst=some d->d<n/\¬D d) (f:∀p∈ch,D p.1)
  (i:holds s ch->v=LVal β l/\∀k o,(l=.box k o\/l=.dV k o)->Liv k/\¬N k) (m:¬holds s ch->v=undef):
  RR n (λt=>dst=some t\/g t) Liv D N β (s.put dst l ch) (a.put dst v) h w:=by
 cases dst with
 | none=>exact j.congr (λt=>by simp) (λ_=>.rfl) (λ_ e=>e) (λ_ e=>e)
 | some d=>
  obtain ⟨r,c⟩:=q d rfl;have u:=(j.lift r c f λb k o e=>(((i b).2 k o e).2)).exec (v:=v) (Er s d l ch) (λe=>e.1 rfl)
   (λb=>⟨(i ((DV c f).1 b)).1,λk o e=>((i ((DV c f).1 b)).2 k o e).1⟩) (λb=>m λe=>b ((DV c f).2 e))
  grind
theorem HS (v:RR n g Liv D N β s a h w) {c:aZ} {k:List Oper} {m:Nat} {o:Oper} (e:qE k m o=some c) (f:ux s c=true)
  (z:∀j b p d,o.guard=some (j,b)->nth k j=some p->p.dst=some d->D d):∀p∈c,D p.1:=by
 cases m with
 | zero=>simp [qE] at e
 | succ m=>
  simp only [qE] at e;split at e
  ·cases e;simp
  ·rename_i j b A;split at e
   ·rename_i p hp;split at e
    ·rename_i d l y x;cases e;simp only [ux] at f;split at f
     ·rename_i t r u;cases i:pH r l with
      | false=>simp [i] at f
      | true=>
       have:=zc i;subst this;intro q hq;rcases List.mem_cons.1 hq with rfl | hq
       ·grind
       ·exact v.chain d _ _ u q hq
     ·cases f
    ·cases e
   ·cases e
theorem JY (r:RR n g Liv D N β s a h w) {ch:aZ} {ops:Array Oper} {m:Nat} {o:Oper} (c:qE ops.toList m o=some ch) (i:ux s ch=true)
  (B:∀j b p d,o.guard=some (j,b)->nth ops.toList j=some p->p.dst=some d->g d):Region.wanted o (yielded ops a.tmps)=true↔holds s ch:=by
 cases m with
 | zero=>simp [qE] at c
 | succ m=>
  simp only [qE] at c;split at c
  ·rename_i k;cases c;simp [Region.wanted,k,bI]
  ·rename_i j b k;split at c
   ·rename_i p hp;split at c
    ·rename_i d A y F;cases c;simp only [ux] at i;split at i
     ·rename_i t u f;cases v:pH u A with
      | false=>simp [v] at i
      | true=>
       have:=zc v;subst this;have x:=B j b p d k hp y;have z:d<a.tmps.size:=by rw [r.sz];exact r.lt d _ _ f
       have C:ops[j]? =some p:=by rw [nJ] at hp;simpa using hp
       have E:yielded ops a.tmps j=match a.eval (.tmp d) with | .bool b=>some b | _=>none:=by unfold yielded;simp only [C,Option.bind_some,y,Act.eval];have:a.tmps[d]? =some (a.tmps[d]'z):=Array.getElem?_eq_getElem z;simp only [this,Array.getD_eq_getD_getElem?,Option.getD_some];grind
       simp only [Region.wanted,k,E];by_cases l:holds s u
       ·have:=(r.cur d _ _ f x l).1;rw [this];simp only [LVal];constructor
        ·intro e;have e:t=b:=by simpa using e
         subst e;intro q hq;rcases List.mem_cons.1 hq with rfl | hq
         ·simp [hb,f]
         ·exact l q hq
        ·intro e;have:=e (d,b) (List.mem_cons_self ..);simp only [hb,f] at this;simpa using this
       ·have:=r.bO d _ _ f x l;rw [this];simp only [undef];refine ⟨λe=>by simp at e,λe=>absurd (λq hq=>e q (List.mem_cons_of_mem _ hq)) l⟩
     ·cases i
    ·cases c
   ·cases c
def cP (aS:List Nat) (o:Oper) (k:Nat):Prop:=mT aS o=true/\o.dst=some k
structure vq (C:Ctx) (l mok:List Nat) (n:Nat) (g Liv D N:Nat->Prop) (o:Oper) (β:Nat->Nat) (s:St) (a:Act) (h:Hp) (w:World) (β':Nat->Nat) (s':St) (a':Act) (h':Hp) (w':World):Prop where
 rr:RR n (λt=>o.dst=some t\/g t) (λk=>cP C.aS o k\/Liv k) D (λk=>¬cP C.aS o k/\N k) β' s' a' h' w'
 wg:gR l mok (live s Liv) β a h w (live s' λk=>cP C.aS o k\/Liv k) β' a' h' w'
 f:∀t,o.dst≠some t->s'.f t=s.f t
 m:∀k,s'.m k=s.m k\/cP C.aS o k\/(vB o s k=true/\isVal C.tb o=false/\s.m k≠none/\Liv k)
 hv:isVal C.tb o=true->h'=h
 hp:mT C.aS o=true->h'=h
theorem Dx {C:Ctx} {o:Oper} (h:mT C.aS o=false) (k:Nat):¬cP C.aS o k:=λe=>by have:=e.1;grind
theorem Me {C:Ctx} {l p:List Nat} {o:Oper} {b:St} {d:Act} {c:Hp} {i:World} (hp:mT C.aS o=false)
  (rr:RR n (λt=>o.dst=some t\/g t) Liv D N β b d c i) (wg:gR l p (live s Liv) β a h w (live b Liv) β d c i)
  (f:∀t,o.dst≠some t->b.f t=s.f t) (m:∀k,b.m k=s.m k\/(vB o s k=true/\isVal C.tb o=false/\s.m k≠none/\Liv k)) (hv:isVal C.tb o=true->c=h):
  vq C l p n g Liv D N o β s a h w β b d c i:=by
 have j:∀k,(cP C.aS o k\/Liv k)↔Liv k:=λk=>⟨λe=>e.resolve_left (Dx hp k),.inr⟩;refine ⟨rr.congr (λ_=>.rfl) j (λ_ e=>e) (λ_ e=>e.2),wg.mono (λ_ e=>e) (λ_ e=>e) (λ_ e=>e) (λk e=>⟨e.1,(j k).1 e.2⟩),f,λk=>(m k).imp id .inr,hv,λe=>by grind⟩
theorem wa (s:St) (d:Option Nat) (l:LV) (ch:aZ) (t:Nat) (h:d≠some t):(s.put d l ch).f t=s.f t:=by
 cases d with
 | none=>rfl
 | some d=>exact tx s l ch λe=>h (by rw [e])
theorem nx (s:St) (d:Option Nat) (l:LV) (ch:aZ):(s.put d l ch).m=s.m:=by cases d<;>rfl
theorem N9 {C:Ctx} {o:Oper} (h:isVal C.tb o=true):mT C.aS o=false:=by obtain ⟨b,op,ty,pos,after,guard⟩:=o;cases op<;>first | rfl | (simp [isVal] at h;done) | (cases b<;>simp [isVal,mT] at h ⊢)
theorem HT (f:RR n g Liv D N β s a h w) {o:Oper} {ch:aZ} {l:LV} (hp:mW o ch s l) (p:holds s ch) (m:∀t,Operand.tmp t∈o.op.operands->g t):
  ∀k off,(l=.box k off\/l=.dV k off)->Liv k/\¬N k:=by
 intro k off e;obtain ⟨x,q,i,hev⟩:=hp k off e;rcases hev with hev | hev
 ·obtain ⟨t,c,rfl,d,b⟩:=tu hev (by simp) p;exact ⟨(f.cur t _ c d (m t q) b).2 k i (.inl rfl),λj=>(f.kH k j t _ c d b i).1 rfl⟩
 ·obtain ⟨t,c,rfl,d,b⟩:=tu hev (by simp) p;exact ⟨(f.cur t _ c d (m t q) b).2 k i (.inr rfl),λj=>(f.kH k j t _ c d b i).2 rfl⟩
theorem HU {C:Ctx} (ok:C.tb.Ok C.P) {G:Array Oper} {l M:List Nat} {K:St->Hp->Prop} {i:Nat} {o:Oper} (hi:G[i]? =some o) (hv:Bj C G.toList M o s h K)
  (q:RR n g Liv D N β s a h w) (a8:∀t,Operand.tmp t∈o.op.operands->g t)
  (b9:∀j b p d,o.guard=some (j,b)->nth G.toList j=some p->p.dst=some d->g d/\D d) (b0:∀d,o.dst=some d->d<n/\¬D d/\d∈l)
  (hN:∀d,cP C.aS o d->N d/\¬Liv d) (next:Act->World->Prop) (Q:Exit->Act->World->Prop)
  (T:∀s' z f9 a' u,K s' z->vq C l M n g Liv D N o β s a h w f9 s' a' z u->next a' u):wpOp C.P G Q i next a w:=by
 unfold Bj at hv;split at hv
 ·exact hv.elim
 rename_i ch b6;cases hg:ux s ch with
 | false=>simp [hg] at hv
 | true=>
 simp only [hg,cond_true] at hv;have d8:∀j b p d,o.guard=some (j,b)->nth G.toList j=some p->p.dst=some d->g d:=λj b p d e1 e2 e3=>(b9 j b p d e1 e2 e3).1;have L:=JY q b6 hg d8;have hD:=HS q b6 hg λj b p d e1 e2 e3=>(b9 j b p d e1 e2 e3).2;have U:∀x∈o.op.operands,fa β s a.eval x:=λx H=>D6 q λt e=>a8 t (e▸H);have b7:∀d,o.dst=some d->d<n/\¬D d:=λd e=>⟨(b0 d e).1,(b0 d e).2.1⟩;have b8:∀d,o.dst=some d->d∈l:=λd e=>(b0 d e).2.2;unfold wpOp;simp only [hi];have f8:∀(l:LV) k,live (s.put o.dst l ch) Liv k↔live s Liv k:=λl k=>by unfold live;rw [nx]
 have Y:∀(lv:LV) (z:Hp) (v:Value) (u:World),K (s.put o.dst lv ch) z->mT C.aS o=false->(isVal C.tb o=true->z=h)->Step h z w u->
   (holds s ch->v=LVal β lv/\∀k off,(lv=.box k off\/lv=.dV k off)->Liv k/\¬N k)->(¬holds s ch->v=undef)->next (a.put o.dst v) u:=by
  intro lv z v u B hp f7 J h1 F;refine T _ _ β _ _ B (Me hp ((q.step J).gx b7 hD h1 F) ?_ (λt W=>wa s _ _ _ t W) (λk=>.inl (by rw [nx])) f7);refine ((gR.step J).trans (gR.put (lv:=live s Liv) b8)).mono (λ_ e=>e) (λ_ e=>e) (λ_ e=>e) (λk e=>(f8 lv k).1 e)
 cases X:isVal C.tb o with
 | true=>
  simp only [X,cond_true] at hv;obtain ⟨lv,B,V,e4⟩:=JV ok hv;by_cases A:holds s ch
  ·rw [if_pos (L.2 A)];left;obtain ⟨u,e6,c4,J⟩:=V A β a.eval w U (λ_=>q.sub) (λ_=>HR q a8);unfold Oper.wp;rw [e6];have e9:Step h h w u:=by
    cases b2:cN C.tb o ch s with
    | mem=>exact J b2
    | pure=>rw [c4 (by rw [b2];simp)];exact .refl q.sub
    | box=>rw [c4 (by rw [b2];simp)];exact .refl q.sub
   exact Y lv h _ u B (N9 X) (λ_=>rfl) e9 (λ_=>⟨rfl,HT q e4 A a8⟩) (λe=>absurd A e)
  ·rw [if_neg (λe=>A (L.1 e))];exact Y lv h _ w B (N9 X) (λ_=>rfl) (.refl q.sub) (λe=>absurd e A) (λ_=>rfl)
 | false=>
  simp only [X,cond_false] at hv;have b4:mT C.aS o=false->(gz C.P o ch s h λl z=>K (s.put o.dst l ch) z)->
    if Region.wanted o (yielded G a.tmps)=true then o.wp C.P a w next Q\/o.asks C.P a w/\LetsOut Q else next (a.put o.dst undef) w:=by
   intro hp hv;obtain ⟨h1,F⟩:=hv;by_cases A:holds s ch
   ·rw [if_pos (L.2 A)];left;refine h1 A β a w U q.sub next Q λx z u B J=> ?_
    exact Y (.v x) z x u B hp (λe=>by grind) J (λ_=>⟨rfl,λk off e=>by grind⟩) (λe=>absurd A e)
   ·rw [if_neg (λe=>A (L.1 e))];obtain ⟨x,B⟩:=F A;exact Y (.v x) h undef w B hp (λ_=>rfl) (.refl q.sub) (λe=>absurd e A) (λ_=>rfl)
  have c6:mT C.aS o=false->(xR C.P C.tb o ch s h λl z=>K (s.put o.dst l ch) z)->
    if Region.wanted o (yielded G a.tmps)=true then o.wp C.P a w next Q\/o.asks C.P a w/\LetsOut Q else next (a.put o.dst undef) w:=λhp hv=>b4 hp (Y4 ok hv)
  have b5:∀(d:Nat) (r:List Value) (t:Nat),K ((s.put (some d) (.box d 0) []).gI d r) h->cP C.aS o d->ch=[]->has M d=true->
    (execOp a.eval o).run C.P w=.ok (.value (.pointer (some ⟨w.heap.size,0,none⟩))) {w with heap:=w.heap.push (.cells r.toArray t (0,0))}->
    if Region.wanted o (yielded G a.tmps)=true then o.wp C.P a w next Q\/o.asks C.P a w/\LetsOut Q else next (a.put o.dst undef) w:=by
   intro d r t B hp he I V;subst he;rw [if_pos (L.2 (bI s))];left;unfold Oper.wp;rw [V];show next (a.put o.dst _) _
   rw [hp.2];obtain ⟨d3,d1,d2⟩:=b0 d hp.2;obtain ⟨c7,g0⟩:=hN d hp;have hl:=q.Aq r d3 d1 c7;have d7:((s.put (some d) (.box d 0) []).gI d r).f d=some (.box d 0,[]):=Er s _ _ _;have c1:((s.put (some d) (.box d 0) []).gI d r).m d=some r:=yi _ _ _;have H:=hl.Ai t d7 c1 (λe=>e.1 rfl) (λe=>e.1 rfl);have d9:∀k,cP C.aS o k↔k=d:=λk=>⟨λe=>by have:=e.2;rw [hp.2] at this;cases this;rfl,λe=>e▸hp⟩;refine T _ _ _ _ _ B ⟨H.congr (λt=> ?_) (λk=> ?_) (λ_ e=>e) (λk e=> ?_),?_,λt W=> ?_,λk=> ?_,λ_=>rfl,λ_=>rfl⟩
   ·rw [hp.2];grind
   ·grind
   ·grind
   ·refine (FX (s:=(s.put (some d) (.box d 0) []).gI d r) (Liv:=λk=>k≠d/\Liv k) (β:=β) (a:=a) (l:=l) (mm:=M) t q.sub c1 (λe=>e.1 rfl) d2 ((sm _ _).1 I)).mono
     (λ_ e=>e) (λ_ e=>e) (λk e=>⟨λe'=>e.1 ?_,e.2.2⟩) (λk e=>⟨e.1,?_⟩)
    ·rw [xh _ _ e.2.1];exact e'
    ·rcases e.2 with e2 | e2
     ·exact .inl ((d9 k).1 e2)
     grind
   ·exact tx s _ _ λe=>W (by rw [hp.2,e])
   ·by_cases ek:k=d
    ·grind
    ·exact .inl (xh _ _ ek)
  split at hv
  ·rename_i d R;have a9:o.dst=some d/\has C.aS d=true:=by unfold ry at R;grind
   cases I:has M d with
   | false=>simp [I] at hv
   | true=>
    simp only [I,cond_true] at hv;split at hv
    ·rename_i t E;split at hv
     ·rename_i e he;refine b5 d (bp e.zero) t hv ⟨by simp [mT,E,a9],a9.1⟩ rfl I ?_;have e2:(bp e.zero).toArray=e.zero.cells:=by apply Array.ext';simp [pj]
      rw [e2];simp [execOp,E,Instr.alloc,cI ok he,newVar,ur]
     ·exact hv.elim
    ·rename_i t x E;obtain ⟨v,d5,f6⟩:=kJ hv;refine b5 d (bp v) t f6 ⟨by simp [mT,E,a9],a9.1⟩ rfl I ?_;have H:=bH (U x (by simp [E,Op.operands])) (bI s) d5;have e2:(bp v).toArray=v.cells:=by apply Array.ext';simp [pj]
     rw [e2];simp [execOp,E,H,LVal,Instr.box,newVar,ur]
    ·exact hv.elim
  ·exact hv.elim
  ·rename_i R;have b3:mT C.aS o=false:=by
    unfold ry at R;unfold mT;split at R
    ·rename_i d' e;cases h1:has C.aS d' with
     | true=>simp [h1] at R
     | false=>rw [e];cases o.op<;>simp [h1]
    ·rename_i e;rw [e];cases o.op<;>simp
   split at hv
   ·rename_i t x y E;split at hv
    ·rename_i k off v b1 d6;split at hv
     ·rename_i r e S f5;cases h1:has M k with
      | false=>simp [h1] at hv
      | true=>
      cases F:Nat.beq (bp v).length e.size with
      | false=>simp [h1,F] at hv
      | true=>
      cases Z:Nat.ble (off+e.size) r.length with
      | false=>simp [h1,F,Z] at hv
      | true=>
      cases h4:ji (bp v) with
      | false=>simp [h1,F,Z,h4] at hv
      | true=>
      simp only [h1,F,Z,h4,cond_true] at hv;rw [if_pos (L.2 (bI s))];left;have c5:x∈o.op.operands:=by simp [E,Op.operands]
      have H:=bH (U x c5) (bI s) b1;have hy:=bH (U y (by simp [E,Op.operands])) (bI s) d6;obtain ⟨tt,c,rfl,hf,hc⟩:=tu b1 (by simp) (bI s);have hL:Liv k:=(q.cur tt _ c hf (a8 tt c5) hc).2 k off (.inl rfl);obtain ⟨c9,ct,d0⟩:=q.box k r S hL;have c0:(bp v).length=e.size:=Nat.eq_of_beq_eq_true F;obtain ⟨u,V,c8,c2,f0,e7,h5,h6,h7⟩:=Xc (P:=C.P) (off:=off) q.sub d0 c9 h4 (by rw [c0];exact Nat.le_of_ble_eq_true Z);have f4:=bX ok f5 w;have e0:v.cells.size=e.size:=by rw [<-Array.length_toList,pj];exact c0
      unfold Oper.wp;have e5:(execOp a.eval o).run C.P w=.ok .skip u:=by
       simp only [execOp,E,H,hy,LVal,Instr.storeAt,Instr.sureAddr,Sem.run_bind,Sem.run_pure,Result.andThen_ok,storeVar,f4,e0,ne_eq,not_true,if_false,pj];have:(if False then (stuck "storeVar: the value has not the size of the variable" :Sem Unit) else pure PUnit.unit).run C.P w=.ok () w:=rfl
       first | rw [this] | skip
       simp only [V,Result.andThen_ok]
      rw [e5,Oper.upon_skip];have c3:=(q.Br S hL c8 c2 f0).gx (dst:=o.dst) (l:=.v (.tuple #[])) (ch:=[]) (v:=undef) b7 (by simp) (λ_=>⟨rfl,λk off e=>by rcases e with e | e<;>cases e⟩) (λe=>absurd (bI _) e);have d4:((s.gI k (lx r off (bp v))).put o.dst (.v (.tuple #[])) [])=((s.put o.dst (.v (.tuple #[])) []).gI k (lx r off (bp v))):=by cases o.dst<;>rfl
      rw [d4] at c3;have e8:∀j,((s.put o.dst (.v (.tuple #[])) []).gI k (lx r off (bp v))).m j≠none->s.m j≠none:=λj hj=>by
       by_cases O:j=k
       ·rw [O,S];simp
       ·rw [xh _ _ O,nx] at hj;exact hj
      refine T _ _ _ _ _ hv (Me b3 c3 ?_ (λt W=>wa s _ _ _ t W) (λj=> ?_) (λ_=>rfl))
      ·refine gR.trans (lv1:=live s Liv) (β1:=β) (a1:=a) (h1:=h) (w1:=u) ⟨λ_ _=>rfl,λ_ _=>rfl,e7,λ_ _ e _=>e,λb hb T B=> ?_,λ_ e=>.inl ⟨e,rfl⟩,h5,h6,h7,rfl⟩ ((gR.put (lv:=live s Liv) b8).mono (λ_ e=>e) (λ_ e=>e) (λ_ e=>e) (λj e=>⟨e8 j e.1,e.2⟩));exact c2 b hb (λe=>B k ((sm _ _).1 h1) ⟨by rw [S];simp,hL⟩ e.symm) T
      ·by_cases O:j=k
       ·subst O;exact .inr ⟨by simp [vB,E,b1],X,by rw [S];simp,hL⟩
       ·exact .inl (by rw [xh _ _ O,nx])
     ·exact hv.elim
    ·exact c6 b3 hv
   ·exact b4 b3 (Y5 hv)
   grind
end
abbrev Rel (n:Nat) (b:Nat->Nat) (s:St) (a:Act) (h:Hp) (w:World):Prop:=
 RR n (λ_=>True) (λ_=>True) (λ_=>False) (λ_=>False) b s a h w
abbrev cO (s:St):Nat->Prop:=live s λ_=>True
section
variable {n:Nat} {q Liv D N:Nat->Prop} {β:Nat->Nat} {s:St} {a:Act} {h:Hp} {w:World}
theorem ze {s:St} {t:Nat} {l:LV} {c:aZ} (e:s.clean.f t=some (l,c)):s.f t=some (l,[])/\c=[]:=by simp only [St.clean] at e;grind
theorem RR.clean (b:RR n (λ_=>True) (λ_=>True) D N β s a h w):Rel n β s.clean a h w:=by
 refine ⟨b.sz,b.sub,λt l c e=>b.lt t l _ (ze e).1,λt l c e p hp=> ?_,λt l c e _ _=>b.cur t l _ (ze e).1 trivial (bI _),λt l c e _ d=> ?_,b.box,b.inj,λ_ e=>e.elim,λ_ e=>e.elim⟩
 ·rw [(ze e).2] at hp;cases hp
 ·rw [(ze e).2] at d;exact absurd (bI _) d
theorem ns {l:List Nat} {x:Option (LV×aZ)} {v:LV} {c:aZ} (e:qK l x=some (v,c)):x=some (v,c)/\∀k o,(v=.box k o\/v=.dV k o)->k∉l:=by
 unfold qK at e;split at e
 ·rename_i k o d;cases b:has l k with
  | true=>simp [b] at e
  | false=>
   simp only [b,cond_false] at e;cases e;refine ⟨rfl,λf g e'=> ?_⟩;rcases e' with e' | e'<;>cases e'
   exact zh b
 ·rename_i k o d;cases b:has l k with
  | true=>simp [b] at e
  | false=>
   simp only [b,cond_false] at e;cases e;refine ⟨rfl,λf g e'=> ?_⟩;rcases e' with e' | e'<;>cases e'
   exact zh b
 ·grind
 ·cases e
theorem sd {l:List Nat} {t:Nat} {v:LV} {c:aZ} (e:(s.lM l).f t=some (v,c)):s.f t=some (v,c)/\∀k o,(v=.box k o\/v=.dV k o)->k∉l:=by
 cases l with
 | nil=>exact ⟨e,λ_ _ _ e=>by cases e⟩
 | cons x l=>exact ns e
theorem xb {l:List Nat} {k:Nat} {c:List Value} (e:(s.lM l).m k=some c):s.m k=some c/\k∉l:=by
 cases l with
 | nil=>exact ⟨e,λe=>by cases e⟩
 | cons x l=>
  simp only [St.lM] at e;cases b:has (x::l) k with
  | true=>simp [b] at e
  | false=>simp only [b,cond_false] at e;exact ⟨e,zh b⟩
theorem RR.start (b:Rel n β s a h w) (l:List Nat):RR n (λ_=>True) (λk=>k∉l) (λ_=>False) (λk=>k∈l) β (s.lM l) a h w:=by
 refine ⟨b.sz,b.sub,λt v c e=>b.lt t v c (sd e).1,λt v c e=>b.chain t v c (sd e).1,λt v c e _ j=> ?_,λt v c e _ j=> ?_,λk g e _=>b.box k g (xb e).1 trivial,λk y e d _ _ x=> ?_,λk f=> ?_,λk f t v c e _ o=> ?_⟩
 ·have i:c=[]:=by
   cases c with
   | nil=>rfl
   | cons p c=>exact (b.chain t v _ (sd e).1 p (List.mem_cons_self ..)).elim
  subst i;exact ⟨(b.cur t v [] (sd e).1 trivial (bI _)).1,(sd e).2⟩
 ·have i:c=[]:=by
   cases c with
   | nil=>rfl
   | cons p c=>exact (b.chain t v _ (sd e).1 p (List.mem_cons_self ..)).elim
  subst i;exact absurd (bI _) j
 ·obtain ⟨g,r⟩:=Option.ne_none_iff_exists'.1 e;obtain ⟨z,u⟩:=Option.ne_none_iff_exists'.1 d;exact b.inj k y (by simp [(xb r).1]) (by simp [(xb u).1]) trivial trivial x
 ·cases e:(s.lM l).m k with
  | none=>rfl
  | some g=>exact absurd f (xb e).2
 ·exact ⟨λd=>(sd e).2 k o (.inl d) f,λd=>(sd e).2 k o (.inr d) f⟩
theorem KR {l:List Nat} {k:Nat} (e:live (s.lM l) (λk=>k∉l) k):cO s k:=by obtain ⟨c,b⟩:=Option.ne_none_iff_exists'.1 e.1;exact ⟨by simp [(xb b).1],trivial⟩
theorem Y8 :∀(x y:List Oper),bW (x++y)=bW x++bW y
 | [],y=>rfl
 | o::x,y=>by simp only [List.cons_append,bW,Y8 x y];cases o.dst<;>rfl
theorem xz {l:List Oper} {o:Oper} {d:Nat} (hm:o∈l) (b:o.dst=some d):d∈bW l:=by
 induction l with
 | nil=>cases hm
 | cons p l c=>
  rcases List.mem_cons.1 hm with rfl | hm
  ·simp [bW,b]
  ·have:=c hm;simp only [bW];grind
theorem yk :∀ {l:List Nat},nodup l=true->l.Nodup
 | [],_=>.nil
 | a::l,h=>by
  simp only [nodup] at h;cases b:has l a with
  | true=>simp [b] at h
  | false=>simp only [b,cond_false] at h;exact List.nodup_cons.2 ⟨zh b,yk h⟩
theorem X2 {l:List Oper} {o:Oper} (h:tj l=true) (b:o∈l):o.guard=none:=by
 induction l with
 | nil=>cases b
 | cons p l c=>simp only [tj] at h;grind
theorem HX :∀ {l:List Oper} {i j:Nat} {o:Oper} {g:Nat} {b:Bool},yU l i=true->l[j]? =some o->o.guard=some (g,b)->g<i+j
 | [],_,_,_,_,_,_,e,_=>by simp at e
 | p::l,i,0,o,g,b,h,e,c=>by
  simp at e;subst e;simp only [yU,c] at h;cases hb:Nat.blt g i with
  | true=>simp [Nat.blt] at hb;omega
  | false=>simp [hb] at h
 | p::l,i,j+1,o,g,b,h,e,c=>by
  simp at e;have d:yU l (i+1)=true:=by simp only [yU] at h;grind
  have:=HX d e c;omega
theorem Oa {aS:List Nat} {o:Oper} {d:Nat} {r:List Oper} (h:cP aS o d):lq aS (o::r)=d::lq aS r:=by simp [lq,h.1,h.2]
theorem BF {aS:List Nat} {o:Oper} {r:List Oper} (h:∀d,¬cP aS o d):lq aS (o::r)=lq aS r:=by
 cases hp:mT aS o with
 | false=>simp [lq,hp]
 | true=>
  cases b:o.dst with
  | none=>simp [lq,hp,b]
  | some d=>exact absurd ⟨hp,b⟩ (h d)
theorem KS {C:Ctx} (ok:C.tb.Ok C.P) {c:Array Oper} {mok:List Nat} {K:St->Hp->Prop} {Q:Exit->Act->World->Prop} (g:Bool)
  (O:∀d∈bW c.toList,d<n) (M:g=false->tj c.toList=true) (G:g=true->(bW c.toList).Nodup/\yU c.toList 0=true):
  ∀(r pre:List Oper) (β:Nat->Nat) (s:St) (a:Act) (h:Hp) (w:World),c.toList=pre++r->(lq C.aS r).Nodup->Bo C c.toList mok r s h K->
   RR n (λ_=>True) (λk=>k∉lq C.aS r) (λt=>g=true/\t∈bW pre) (λk=>k∈lq C.aS r) β s a h w->
   (∀v u A m x,K v u->RR n (λ_=>True) (λ_=>True) (λt=>g=true/\t∈bW c.toList) (λ_=>False) A v m u x->
    gR (bW c.toList) mok (live s λk=>k∉lq C.aS r) β a h w (cO v) A m u x->Q .normal m x)->
   wpOps C.P c Q (List.range' pre.length r.length) a w
 | [],pre,β,s,a,h,w,f,_,hv,J,I=>by simp only [List.length_nil,List.range'_zero];rw [List.append_nil] at f;exact I s h β a w hv (J.congr (λ_=>.rfl) (λk=>by simp [lq]) (λt e=>by rw [f];exact e) (λk e=>e.elim)) ((gR.refl _ _).mono (λ_ e=>e) (λ_ e=>e) (λ_ e=>e) (λk e=>⟨e.1,by simp [lq]⟩))
 | o::r,pre,β,s,a,h,w,f,i,hv,J,I=>by
  simp only [List.length_cons,List.range'_succ,wpOps_cons];have V:c[pre.length]? =some o:=by
   have:c.toList[pre.length]? =some o:=by rw [f];simp
   simpa using this
  have H:o∈c.toList:=by rw [f];simp
  have y:∀k,(cP C.aS o k\/k∉lq C.aS (o::r))↔k∉lq C.aS r:=by
   intro k;by_cases hp:∃d,cP C.aS o d
   ·obtain ⟨d,hp⟩:=hp;rw [Oa hp] at i ⊢;have i:=List.nodup_cons.1 i;constructor
    ·rintro (e | e)
     ·have:k=d:=by have F:=e.2;rw [hp.2] at F;cases F;rfl
      rw [this];exact i.1
     ·exact λB=>e (List.mem_cons_of_mem _ B)
    grind
   ·have Z:∀d,¬cP C.aS o d:=λd e=>hp ⟨d,e⟩;rw [BF Z];grind
  have T:∀k,k∈lq C.aS r->¬cP C.aS o k/\k∈lq C.aS (o::r):=λk z=>
   ⟨λe=>(y k).1 (.inl e) z,Classical.byContradiction λe=>(y k).1 (.inr e) z⟩
  have X:(lq C.aS r).Nodup:=by
   by_cases hp:∃d,cP C.aS o d
   ·obtain ⟨d,hp⟩:=hp;rw [Oa hp] at i;grind
   ·rwa [BF λd e=>hp ⟨d,e⟩] at i
  refine HU (l:=bW c.toList) ok V hv J (λ_ _=>trivial) (λj b p d E L R=>⟨trivial,?_⟩) (λd e=>⟨O d (xz H e),λB=> ?_,xz H e⟩) (λd hp=> ?_) _ Q λv u A m x z out=> ?_
  ·cases g with
   | false=>rw [X2 (M rfl) H] at E;cases E
   | true=>refine ⟨rfl,?_⟩;have hj:=HX (j:=pre.length) (G rfl).2 (by rw [f];simp) E;rw [nJ,f,List.getElem?_append_left (by omega)] at L;exact xz (List.mem_of_getElem? L) R
  ·have U:=(G B.1).1;rw [f,Y8] at U;have F:d∈bW (o::r):=xz (List.mem_cons_self ..) e;grind
  ·have:d∈lq C.aS (o::r):=by rw [Oa hp];simp
   grind
  ·have Y:c.toList=(pre++ [o])++r:=by rw [f];simp
   have:=KS ok g O M G r (pre++ [o]) A v m u x Y X z
    (out.rr.congr (λt=>by simp) (λk=>(y k).symm) (λt e=>⟨e.1,by rw [Y8];grind⟩) T)
    (λs2 S b0 a2 w2 W a8 a9=>I s2 S b0 a2 w2 W a8 (out.wg.trans (a9.mono (λ_ e=>e) (λ_ e=>e) (λk e=>⟨e.1,(y k).2 e.2⟩) (λ_ e=>e))))
   simpa using this
end
theorem fy {b x:Bool} (h:cond b x false=true):b=true/\x=true:=by grind
theorem Oi :∀(n:Nat) (l:List Nat),l.Nodup->(∀x∈l,x<n)->l.length<=n
 | 0,l,_,h=>by
  cases l with
  | nil=>simp
  | cons a l=>exact absurd (h a (List.mem_cons_self ..)) (Nat.not_lt_zero _)
 | n+1,l,b,h=>by
  by_cases f:n∈l
  ·have e:=Oi n (l.erase n) (b.erase n) (λx d=>by
    have c:=(b.mem_erase_iff).1 d;have:=h x c.2;have:=c.1;omega)
   grind
  ·have:=Oi n l b (λx d=>by
    grind)
   omega
theorem zH {n:Nat} {l:List Nat} (b:l.Nodup) (h:∀x∈l,x<n) (c:n<=l.length) {j:Nat} (a:j<n):j∈l:=by
 refine Classical.byContradiction λe=> ?_;have:=Oi n (j::l) (List.nodup_cons.2 ⟨e,b⟩) (λx hx=>by
  rcases List.mem_cons.1 hx with rfl | hx
  ·exact a
  ·exact h x hx)
 grind
def vn (L:List Oper) (X:Nat->Prop):Prop:=∀i o,L[i]? =some o->X i->∀j∈waits o,X j
def mq (L:List Oper) (i j:Nat):Prop:=∀X:Nat->Prop,vn L X->(∀o,L[i]? =some o->∀k∈waits o,X k)->X j
theorem E1 {l m:List Nat} (h:kS l m=true):∀x∈l,x∈m:=by
 induction l with
 | nil=>simp
 | cons a l c=>
  simp only [kS] at h;cases b:has m a with
  | false=>simp [b] at h
  | true=>
   simp only [b,cond_true] at h;intro x hx;rcases List.mem_cons.1 hx with rfl | hx
   ·exact (sm _ _).1 b
   ·exact c h x hx
theorem PF {o:Oper} {e:Edge} (a:e∈o.after) (hb:Region.binds .any e=true):e.on∈waits o:=by
 have key:∀l:List Edge,e∈l->e.on∈waits.go l:=by
  intro l
  induction l with
  | nil=>intro h;cases h
  | cons x l c=>
   intro h;simp only [waits.go];rcases List.mem_cons.1 h with rfl | h
   ·have:E6 e=true:=by unfold Region.binds at hb;unfold E6;cases b:e.ground<;>simp [b] at hb ⊢
    simp [this]
   grind
 exact key _ (by simpa using a)
theorem Mf {k:Nat} {l:List Nat} {j:Nat} (h:j∈vx k l):j=k\/j∈l:=by unfold vx at h;grind
theorem Mg {j:Nat}:∀ {a b:List Nat},j∈Bc a b->j∈a\/j∈b
 | [],_,h=>.inr h
 | k::r,b,h=>by
  rcases Mg (a:=r) (b:=vx k b) h with h | h
  ·grind
  ·rcases Mf h with rfl | h
   ·simp
   ·exact .inr h
theorem KT {a:List (List Nat)}:∀ {l:List Nat} {j:Nat},j∈bE.union l a->j∈l\/∃k∈l,∃x,nth a k=some x/\j∈x
 | [],j,h=>by simp [bE.union] at h
 | k::l,j,h=>by
  simp only [bE.union] at h;rcases Mf h with rfl | h
  ·simp
  ·rcases Mg h with h | h
   ·grind
   ·rcases KT h with h | ⟨d,b,c⟩
    ·exact .inl (List.mem_cons_of_mem _ h)
    grind
theorem KU {L:List Oper}:∀(r pre:List Oper) (a:List (List Nat)),L=pre++r->a.length=pre.length->(∀i x,nth a i=some x->∀j∈x,mq L i j)->
  ∀i x,nth (bE r a) i=some x->∀j∈x,mq L i j
 | [],_,a,_,_,h=>h
 | o::r,pre,a,d,f,h=>by
  refine KU r (pre++ [o]) _ (by simp [d]) (by simp [sc,f]) λi x b j c=> ?_;rw [nJ,sc] at b;rcases Nat.lt_trichotomy i a.length with hi | hi | hi
  ·rw [List.getElem?_append_left hi,<-nJ] at b;exact h i x b j c
  ·subst hi;simp at b;subst b;intro X e l;have g:L[a.length]? =some o:=by rw [d,f];simp
   rcases KT c with c | ⟨k,n,y,s,m⟩
   ·exact l o g j c
   ·exact h k y s j m X e λu q t p=>e k u q (l o g k n) t p
  grind
theorem yW {L:List Oper} {i j:Nat} (h:j∈mn (bE L []) i):mq L i j:=by
 unfold mn at h;split at h
 ·rename_i x a;exact KU L [] [] rfl rfl (λi x a=>by simp [nth] at a) i x a j h
 ·cases h
theorem D7 :∀l:List (Nat×Operand),yc l=l.map (·.2)
 | []=>rfl
 | (_,x)::l=>by simp [yc,D7 l]
theorem HW :∀l:Option Operand,vX l=l.toArray.toList
 | none=>rfl
 | some x=>rfl
theorem JZ {op:Op} {l:List Operand} (h:ED op=some l):∀x∈op.operands,x∈l:=by
 cases op with
 | call c=>
  obtain ⟨callee,args,g⟩:=c;cases callee with
  | value f=>cases h;intro x d;simpa [Op.operands,Call.operands] using d
  | builtin b=>cases h;intro x d;simpa [Op.operands,Call.operands] using d
  | invoke r m=>cases h
 | build t e=>cases h;intro x d;simpa [Op.operands,D7] using d
 | buildSlice t n e=>cases h;intro x d;simpa [Op.operands,D7] using d
 | makeFunc fn a b=>cases h;intro x d;simpa [Op.operands,sc] using d
 | makeMap t r=>cases h;intro x d;simpa [Op.operands,HW] using d
 | slice t x j i k=>cases h;intro x d;simpa [Op.operands,sc,HW,or_assoc] using d
 | alloc t=>cases h;intro x d;simp [Op.operands] at d
 | _=>first | (cases h;done) | (cases h;intro x d;simpa [Op.operands] using d)
theorem J0 {rows:List (List Nat)} {i t:Nat}:∀ {l:List Oper} {j0:Nat},uU rows i t l j0=true->∀j p,l[j]? =some p->p.dst=some t->
  j0+j∈mn rows i\/i=j0+j\/i∈mn rows (j0+j)
 | [],_,_,j,p,e,_=>by simp at e
 | q::l,j0,h,j,p,e,d=>by
  simp only [uU] at h;cases a:(cond (tV q t) (cond (has (mn rows i) j0) true (cond (Nat.beq i j0) true (has (mn rows j0) i))) true) with
  | false=>grind
  | true=>
   rw [a] at h;cases j with
   | zero=>
    simp at e;subst e;have:tV q t=true:=by simp [tV,d]
    rw [this] at a;simp only [cond_true] at a;cases b:has (mn rows i) j0 with
    | true=>exact .inl ((sm _ _).1 b)
    | false=>
     rw [b] at a;simp only [cond_false] at a;cases c:Nat.beq i j0 with
     | true=>exact .inr (.inl (Nat.eq_of_beq_eq_true c))
     | false=>rw [c] at a;exact .inr (.inr ((sm _ _).1 a))
   | succ j=>have:=J0 (l:=l) (j0:=j0+1) h j p (by simpa using e) d;grind
theorem BG {L:List Oper} {rows:List (List Nat)} {i t:Nat}:∀ {l:List Operand},dB.go L rows i l=true->Operand.tmp t∈l->uU rows i t L 0=true
 | [],_,hm=>by cases hm
 | x::l,h,hm=>by
  cases x with
  | tmp u=>
   simp only [dB.go] at h;cases a:uU rows i u L 0 with
   | false=>simp [a] at h
   | true=>
    simp only [a,cond_true] at h;rcases List.mem_cons.1 hm with e | hm
    ·cases e;exact a
    ·exact BG h hm
  | _=>
   simp only [dB.go] at h;rcases List.mem_cons.1 hm with e | hm
   ·cases e
   ·exact BG h hm
theorem Y6 {L:List Oper} {rows:List (List Nat)} {i t:Nat} {o:Oper} (h:dB L rows i o=true) (e:Operand.tmp t∈o.op.operands) {j:Nat} {p:Oper} (c:L[j]? =some p) (b:p.dst=some t):
  j∈mn rows i\/i=j\/i∈mn rows j:=by
 unfold dB at h;split at h
 ·rename_i l d;cases a:dB.go L rows i l with
  | false=>simp [a] at h
  | true=>have:=J0 (BG a (JZ d _ e)) j p c b;simpa using this
 ·cases h
theorem BH {L:List Oper} {rows:List (List Nat)} {i j:Nat} {b:Bool} {o:Oper} (h:dB L rows i o=true) (c:o.guard=some (j,b)):j∈mn rows i:=by
 unfold dB at h;split at h
 ·rename_i l d;cases a:dB.go L rows i l with
  | false=>simp [a] at h
  | true=>simp only [a,cond_true,c] at h;exact (sm _ _).1 h
 ·cases h
theorem X3 {o:Oper} {t:Nat} (b:Operand.tmp t∈o.op.operands):looksAt o t=true:=by
 unfold looksAt;split
 ·rename_i l a;have hm':=JZ a _ b;clear a b
  induction l with
  | nil=>cases hm'
  | cons x l c=>
   rcases List.mem_cons.1 hm' with e | hm'
   ·subst e;simp [looksAt.go]
   ·have:=c hm';cases x<;>simp only [looksAt.go]
    ·rw [this];simp
    all_goals exact this
 ·rfl
theorem wR {rows:List (List Nat)} {j d:Nat} {o:Oper} (b:o.dst=some d):∀ {l:List Oper} {i0:Nat},ig rows j o l i0=false->∀i p,l[i]? =some p->Operand.tmp d∈p.op.operands->j∈mn rows (i0+i)
 | [],_,_,i,p,e,_=>by simp at e
 | q::l,i0,h,i,p,e,c=>by
  simp only [ig,b] at h;cases a:(cond (looksAt q d) (cond (has (mn rows i0) j) false true) false) with
  | true=>grind
  | false=>
   rw [a] at h;cases i with
   | zero=>
    simp at e;subst e;rw [X3 c] at a;simp only [cond_true] at a;cases f:has (mn rows i0) j with
    | true=>exact (sm _ _).1 f
    | false=>grind
   | succ i=>have:=wR b (l:=l) (i0:=i0+1) h i p (by simpa using e) c;grind
theorem Lu {tb:Tb} {aS:List Nat} {a:List Oper} {rows:List (List Nat)} {i:Nat} {d:List Nat} {r:List (Nat×List Nat)} {done:List Nat} {last:Option Nat}
  (h:eJ tb aS a rows ((i,d)::r) done last=true):∃o,a[i]? =some o/\(∀k∈waits o,k∈done)/\dB a rows i o=true/\i∉done/\(∀e,last=some e->e∈mn rows i)/\
   (((isVal tb o=true\/mT aS o=true)/\ig rows i o a 0=false/\eJ tb aS a rows r (i::done) last=true)\/
    ((isVal tb o=true\/mT aS o=true)/\ig rows i o a 0=true/\eJ tb aS a rows r (i::done) (some i)=true)\/
    (isVal tb o=false/\mT aS o=false/\eJ.watched tb a rows d i done=true/\eJ tb aS a rows r (i::done) (some i)=true)):=by
 simp only [eJ] at h;split at h
 ·rename_i o c;rw [nJ] at c;obtain ⟨g,h⟩:=fy h;obtain ⟨f,j⟩:=fy g;cases b:has done i with
  | true=>simp [b] at h
  | false=>
   simp only [b,cond_false] at h;obtain ⟨l,h⟩:=fy h;refine ⟨o,c,E1 f,j,zh b,λe m=> ?_,?_⟩
   ·subst m;exact (sm _ _).1 l
   grind
 ·cases h
theorem Jw {tb:Tb} {g:List Oper} {rows:List (List Nat)} {b:List Nat} {e:Nat}:∀ {l:List Nat},eJ.watched tb g rows b e l=true->∀i∈l,∀o,g[i]? =some o->isVal tb o=true->sb tb o=true->
  i∈b\/i∈mn rows e
 | [],_,i,hi,_,_,_,_=>by cases hi
 | r::l,h,i,hi,o,d,hv,f=>by
  simp only [eJ.watched] at h;obtain ⟨a,h⟩:=fy h;rcases List.mem_cons.1 hi with rfl | hi
  ·rw [nJ,d] at a;simp only [hv,f,cond_true] at a;cases c:has b i with
   | true=>exact .inl ((sm _ _).1 c)
   | false=>rw [c] at a;exact .inr ((sm _ _).1 a)
  ·exact Jw h i hi o d hv f
theorem J1 {tb:Tb} {aS:List Nat} {L:List Oper}:∀ {r:List (Nat×List Nat)} {done:List Nat} {e:Nat},eJ tb aS L (bE L []) r done (some e)=true->
  ∀j∈r.map (·.1),mq L j e
 | [],_,_,_,j,hj=>by cases hj
 | (i,ws)::r,done,e,h,j,hj=>by
  obtain ⟨o,u,_,_,_,n,t⟩:=Lu h;have d:=yW (n e rfl);rcases List.mem_cons.1 hj with rfl | hj
  ·exact d
  ·have step:∀a,(a=e\/a=i)->eJ tb aS L (bE L []) r (i::done) (some a)=true->mq L j e:=by
    intro a l f;have c:=J1 f j hj;rcases l with rfl | rfl
    ·exact c
    ·intro X b q;have g:X a:=c X b q;exact d X b λs p k m=>b a s p g k m
   grind
def xG (tb:Tb) (o:Oper) (ch:aZ) (s:St) (l:LV):Prop:=
 cN tb o ch s=.mem->∀t x,o.op=.load t x->∃(e:Ty) (y:e.sh.T),tb.ty t=some e/\l=.v (e.sh.enc y)
theorem PH {P:Program} {tb:Tb} (ok:tb.Ok P) {o:Oper} {ch:aZ} {s:St} {h:Hp} {K:LV->Prop} (hv:wz P tb o ch s h K):
  ∃l,K l/\(holds s ch->qn (cN tb o ch s) P o s h l)/\mW o ch s l/\xG tb o ch s l:=by
 by_cases k:∃t x a,o.op=.load t x/\ev s ch x=some (.v (.pointer (some a)))
 ·obtain ⟨t,x,a,b,g⟩:=k;unfold wz at hv;simp only [b,g] at hv;split at hv
  ·rename_i e r;obtain ⟨y,f,c⟩:=hv;refine ⟨.v (e.sh.enc y),c,λi=> ?_,xa _ _ _ _,λ_ A B z=> ?_⟩
   ·intro C D w p m hb;have d:cN tb o ch s=.mem:=by simp [cN,b,g]
    have u:=bH (p x (by simp [b,Op.operands])) i g;have q:=Og ok r (λj v n=>wT (m d) (py f i j v n));refine ⟨w,?_,λ_=>rfl,λe=>.refl (m e)⟩;simp only [execOp,b,u,LVal,Instr.loadAt,Instr.sureAddr,Sem.run_bind,Sem.run_pure,Result.andThen_ok,q]
   grind
  ·exact hv.elim
 ·obtain ⟨l,c,f,hp⟩:=JV ok hv;refine ⟨l,c,f,hp,λd t x b=> ?_⟩;refine absurd ?_ k;unfold wz at hv;simp only [b] at hv;simp only [cN,b] at d;grind
def nY (C:Ctx) (L:List Oper) (o:Oper) (s:St) (h:Hp):Prop:=
 ∃ch,qE L L.length o=some ch/\ux s ch=true/\
  ((isVal C.tb o=true/\(sb C.tb o=true\/cN C.tb o ch s=.pure)/\∃l,(∀d,o.dst=some d->s.f d=some (l,ch))/\(holds s ch->qn (cN C.tb o ch s) C.P o s h l)/\mW o ch s l/\xG C.tb o ch s l)\/
   (ch=[]/\isVal C.tb o=false/\∃d a,cP C.aS o d/\s.f d=some (.box d 0,[])/\s.m d=some a/\
      ∀(c:Nat->Nat) (b:Operand->Value) (w:World),(∀x∈o.op.operands,fa c s b x)->
       ∃t,(execOp b o).run C.P w=.ok (.value (.pointer (some ⟨w.heap.size,0,none⟩))) {w with heap:=w.heap.push (.cells a.toArray t (0,0))}))
section
variable {C:Ctx} {L:List Oper} {o:Oper} {s s':St} {h n:Hp} {D:Nat->Prop}
structure jW (D:Nat->Prop) (o:Oper) (s s':St):Prop where
 dn:∀t,D t->s'.f t=s.f t
 op:∀t,Operand.tmp t∈o.op.operands->s'.f t=s.f t
 ch:∀t l c,s.f t=some (l,c)->∀p∈c,D p.1
theorem jW.na (k:jW D o s s') {c:aZ} (a:∀p∈c,D p.1):holds s' c↔holds s c:=BE λp hp=>k.dn _ (a p hp)
theorem jW.FP (k:jW D o s s') {b:Nat->Nat} {d:Operand->Value} {x:Operand} (j:x∈o.op.operands) (a:fa b s' d x):fa b s d x:=by
 cases x with
 | tmp t=>exact λl c e i=>a l c (by rw [k.op t j];exact e) ((k.na (k.ch t l c e)).2 i)
 | const v=>exact a
 | global g=>exact a
 | func f=>exact a
theorem jW.EH (k:jW D o s s') {ch:aZ} {x:Operand} (a:x∈o.op.operands):ev s' ch x=ev s ch x:=by
 cases x with
 | tmp t=>simp only [ev,k.op t a]
 | const v=>rfl
 | global g=>rfl
 | func f=>rfl
theorem J2 {s s':St} {ch:aZ}:∀ {l:List Operand},(∀x∈l,ev s' ch x=ev s ch x)->eK s' ch l=eK s ch l
 | [],_=>rfl
 | x::l,h=>by simp only [eK];rw [h x (List.mem_cons_self ..),J2 λy a=>h y (List.mem_cons_of_mem _ a)]
theorem jW.kind (k:jW D o s s') {tb:Tb} {ch:aZ}:cN tb o ch s'=cN tb o ch s:=by
 unfold cN;cases d:o.op with
 | load t x=>simp only [k.EH (ch:=ch) (x:=x) (by simp [d,Op.operands])]
 | binOp op t x y u=>simp only [k.EH (ch:=ch) (x:=x) (by simp [d,Op.operands]),k.EH (ch:=ch) (x:=y) (by simp [d,Op.operands])]
 | convert a b x=>simp only [k.EH (ch:=ch) (x:=x) (by simp [d,Op.operands])]
 | call c=>
  obtain ⟨callee,e,g⟩:=c;cases callee with
  | builtin b=>
   cases b with
   | len=>have:eK s' ch e.toList=eK s ch e.toList:=J2 λx f=>k.EH (by simp [d,Op.operands,Call.operands];simpa using f);simp only [this]
   | _=>rfl
  | _=>rfl
 | _=>rfl
theorem jW.Bk (k:jW D o s s') {ch:aZ} {l:LV} (hp:mW o ch s l):mW o ch s' l:=λb off e=>by obtain ⟨x,a,c,h⟩:=hp b off e;exact ⟨x,a,c,by rw [k.EH a];exact h⟩
theorem Ob (k:jW D o s s'):∀ {ch:aZ},(∀p∈ch,D p.1)->ux s' ch=ux s ch
 | [],_=>rfl
 | (d,b)::c,a=>by simp only [ux,k.dn d (a (d,b) (List.mem_cons_self ..)),Ob k λp hp=>a p (List.mem_cons_of_mem _ hp)]
theorem PI (k:jW D o s s') {e:Nat->Nat} {w:World} (j:∀t,Operand.tmp t∈o.op.operands->∀b off c,(s.f t=some (.box b off,c)\/s.f t=some (.dV b off,c))->holds s c->s'.m b=s.m b)
  (hb:qG e s' o w):qG e s o w:=by
 intro t d b off c hf a g i;refine hb t d b off c (by rw [k.op t d];exact hf) ?_ g (by grind);rcases hf with hf | hf
 ·exact (k.na (k.ch t _ c hf)).2 a
 ·exact (k.na (k.ch t _ c hf)).2 a
theorem LR (k:jW D o s s') {a:Kd} {P:Program} {l:LV} (i:a≠ .pure->∀t,Operand.tmp t∈o.op.operands->∀b off c,(s.f t=some (.box b off,c)\/s.f t=some (.dV b off,c))->holds s c->s'.m b=s.m b)
  (g:a=.mem->n=h) (p:qn a P o s h l):qn a P o s' n l:=by
 intro r u w j q hb;obtain ⟨A,v,y,z⟩:=p r u w (λx d=>k.FP d (j x d)) (λe=>by rw [<-g e];exact q e) (λe=>PI k (i e) (hb e));grind
theorem Cj (k:jW D o s s') {P:Program} {c:List Value}
  (f : ∀ (b : Nat -> Nat) (a : Operand -> Value) (w : World), (∀ x ∈ o.op.operands, fa b s a x) ->
        ∃t,(execOp a o).run P w=.ok (.value (.pointer (some ⟨w.heap.size,0,none⟩))) {w with heap:=w.heap.push (.cells c.toArray t (0,0))}):
  ∀ (b : Nat -> Nat) (a : Operand -> Value) (w : World), (∀ x ∈ o.op.operands, fa b s' a x) ->
        ∃t,(execOp a o).run P w=.ok (.value (.pointer (some ⟨w.heap.size,0,none⟩))) {w with heap:=w.heap.push (.cells c.toArray t (0,0))}:=
 λb a w e=>f b a w λx d=>k.FP d (e x d)
theorem zf {s:St} {ch:aZ} {t:Nat} {l a:LV} {c:aZ} (h:ev s ch (.tmp t)=some l) (b:s.f t=some (a,c)):l=a:=by simp only [ev,b] at h;grind
theorem X4 {tb:Tb} (Z:C.tb=tb) (ok:tb.Ok C.P) {K:Nat->Bool} {ch:aZ} {l:LV} {d:Nat} (g:qc C K o ch s' n) (M:o.dst=some d) (G:∃c,s'.f d=some (l,c)) (B:holds s' ch)
  (A:xG tb o ch s' l):cN tb o ch s'=.pure\/(cN tb o ch s'=.box/\∀t b off c,Operand.tmp t∈o.op.operands->(s'.f t=some (.box b off,c)\/s'.f t=some (.dV b off,c))->K b=false)\/(cN tb o ch s'=.mem/\qn .mem C.P o s' n l):=by
 subst Z;obtain ⟨c,G⟩:=G;unfold qc at g;split at g
 ·rename_i t x T q z;rw [M] at z;cases z;rw [G] at g;split at g
  ·rename_i v R e;cases e;split at g
   ·rename_i a r;right;right;have hkd:cN C.tb o ch s'=.mem:=by simp [cN,q,r]
    obtain ⟨e,y,b3,p⟩:=A hkd t x q;cases p;refine ⟨hkd,λβ ρ w E A hb=> ?_⟩;have b5:=bH (E x (by simp [q,Op.operands])) B r;have I:=Og ok b3 (λj v hj=>wT (A rfl) (py g B j v hj));refine ⟨w,?_,λe=>absurd rfl e,λ_=>.refl (A rfl)⟩;simp only [execOp,q,b5,LVal,Instr.loadAt,Instr.sureAddr,Sem.run_bind,Sem.run_pure,Result.andThen_ok,I]
   ·rename_i k off r;cases H:K k with
    | true=>rw [H] at g;exact g.elim
    | false=>
     refine .inr (.inl ⟨by simp [cN,q,r],λt1 b b7 Y O hf1=> ?_⟩);have Q:x=.tmp t1:=by simpa [q,Op.operands,eq_comm] using O
     rw [Q] at r;rcases hf1 with hf1 | hf1
     ·have:=zf r hf1;cases this;exact H
     ·have:=zf r hf1;cases this
   ·rename_i k off r;cases H:K k with
    | true=>rw [H] at g;exact g.elim
    | false=>
     refine .inr (.inl ⟨by simp [cN,q,r],λt1 b b7 Y O hf1=> ?_⟩);have Q:x=.tmp t1:=by simpa [q,Op.operands,eq_comm] using O
     rw [Q] at r;rcases hf1 with hf1 | hf1
     ·have:=zf r hf1;cases this
     ·have:=zf r hf1;cases this;exact H
   ·exact g.elim
  ·exact g.elim
 ·rename_i t x i S T q z;rw [M] at z;cases z;rw [G] at g;split at g
  ·rename_i v R e;cases e;obtain ⟨a,b1,a8⟩:=kJ g;obtain ⟨b,b2,a9⟩:=kJ a8;have p:=py a9 B;right;right;have b6:∀w,Sub n w->∃F,(Instr.lookup t a b S).run C.P w=.ok v F/\Step n n w F:=by
    intro w J;unfold KK at p;split at p
    ·rename_i m e U;split at p
     ·rename_i k u W;split at p
      ·rename_i ke ue V X;cases hkd:sv ke.bO with
       | true=>
        simp only [hkd,cond_true] at p;cases S with
        | true=>
         simp only [cond_true] at p;split at p
         ·rename_i x1 y1;exact ⟨w,by rw [Ow ok U W V X hkd J p];rfl,.refl J⟩
         ·exact p.elim
        | false=>simp only [cond_false] at p;obtain ⟨y1,p⟩:=p;exact ⟨w,by rw [Ow ok U W V X hkd J p];rfl,.refl J⟩
       | false=>simp only [hkd,cond_false] at p;exact CV p J
      ·exact p.elim
     ·exact p.elim
    ·exact p.elim
   refine ⟨by simp [cN,q],λβ ρ w E A hb=> ?_⟩;have r:=bH (E x (by simp [q,Op.operands])) B b1;have hi:=bH (E i (by simp [q,Op.operands])) B b2;obtain ⟨F,I,N⟩:=b6 w (A rfl);refine ⟨F,?_,λe=>absurd rfl e,λ_=>N⟩;simp only [execOp,q,r,hi,LVal,Sem.run_bind,I,Result.andThen_ok,Sem.run_pure]
  ·exact g.elim
 ·rename_i xs ts T q z;rw [M] at z;cases z;rw [G] at g;split at g
  ·rename_i v R e;cases e;split at g
   ·rename_i x b4;have hkd:cN C.tb o ch s'=.pure\/cN C.tb o ch s'=.mem:=by unfold cN;grind
    rcases hkd with hkd | hkd
    ·exact .inl hkd
    right;right;refine ⟨hkd,λβ ρ w E A hb=> ?_⟩;have b0:xs.map ρ= #[x]:=by have:=zI (β:=β) (ρ:=ρ) B b4 λx r=>E x (by simp [q,Op.operands,Call.operands];simpa using r);grind
    obtain ⟨F,I,N⟩:=CV (py g B) (A rfl);refine ⟨F,?_,λe=>absurd rfl e,λ_=>N⟩;simp only [execOp,q,resolve,invoke,builtin,Sem.run_bind,Sem.run_pure,Result.andThen_ok,b0,I,LVal]
   ·exact g.elim
  ·exact g.elim
 ·exact g.elim
end
theorem PJ (e:Edge):E6 e=Region.binds .any e:=by unfold Region.binds E6;grind
theorem PK {o:Oper} {k:Nat} (h:k∈waits o):∃e∈o.after,e.on=k/\Region.binds .any e=true:=by
 have key:∀l:List Edge,k∈waits.go l->∃e∈l,e.on=k/\Region.binds .any e=true:=by
  intro l
  induction l with
  | nil=>intro h;cases h
  | cons x l d=>
   intro h;simp only [waits.go] at h;cases c:E6 x with
   | false=>simp only [c,cond_false] at h;obtain ⟨e,a,b⟩:=d h;exact ⟨e,List.mem_cons_of_mem _ a,b⟩
   | true=>
    simp only [c,cond_true] at h;rcases List.mem_cons.1 h with e | h
    ·exact ⟨x,List.mem_cons_self ..,e.symm,by rw [<-PJ,c]⟩
    ·obtain ⟨e,a,b⟩:=d h;exact ⟨e,List.mem_cons_of_mem _ a,b⟩
 obtain ⟨e,a,b⟩:=key _ h;grind
theorem uy {t:Nat}:∀ {L:List Oper} {i j:Nat} {o p:Oper},(bW L).Nodup->L[i]? =some o->L[j]? =some p->o.dst=some t->p.dst=some t->i=j
 | [],_,_,_,_,_,e,_,_,_=>by simp at e
 | x::L,0,0,_,_,_,_,_,_,_=>rfl
 | x::L,0,j+1,o,p,b,e,a,h,c=>by simp at e a;subst e;simp only [bW,h] at b;exact absurd (xz (List.mem_of_getElem? a) c) (List.nodup_cons.1 b).1
 | x::L,i+1,0,o,p,b,e,a,h,c=>by simp at e a;subst a;simp only [bW,c] at b;exact absurd (xz (List.mem_of_getElem? e) h) (List.nodup_cons.1 b).1
 | x::L,i+1,j+1,o,p,b,e,a,h,c=>by
  have g:(bW L).Nodup:=by simp only [bW] at b;grind
  have d:L[i]? =some o:=by simpa using e
  have f:L[j]? =some p:=by simpa using a
  have:=uy g d f h c;omega
def vv (L:List Oper):List Nat->Prop
 | []=>True
 | i::d=>(∀o,L[i]? =some o->∀k∈waits o,k∈d)/\vv L d
theorem Oy {L:List Oper} {a:List Nat}:∀ {d:List Nat},vv L d->(∃i∈d,i∉a)->∃i∈d,i∉a/\∀o,L[i]? =some o->∀k∈waits o,k∈a
 | [],_,⟨i,g,_⟩=>by cases g
 | i::d,c,n=>by
  by_cases b:∃j∈d,j∉a
  ·obtain ⟨j,p,q⟩:=Oy c.2 b;grind
  ·have f:∀j∈d,j∈a:=λj hj=>Classical.byContradiction λe=>b ⟨j,hj,e⟩;obtain ⟨j,hj,l⟩:=n;rcases List.mem_cons.1 hj with rfl | hj
   ·exact ⟨j,List.mem_cons_self ..,l,λo m k h=>f k (c.1 o m k h)⟩
   grind
def lV (L:List Oper) (done ls:List Nat) (t:Nat):Prop:=∀i o,i∈done->i∉ls->L[i]? =some o->o.dst≠some t
def ss (L:List Oper) (done:List Nat) (t:Nat):Prop:=∃i o,i∈done/\L[i]? =some o/\o.dst=some t
def q8 (C:Ctx) (L:List Oper) (done:List Nat) (k:Nat):Prop:=∃i o,i∉done/\L[i]? =some o/\cP C.aS o k
def iq (C:Ctx) (L:List Oper) (done ls:List Nat) (k:Nat):Prop:=(∀i o,i∈done->i∉ls->L[i]? =some o->¬cP C.aS o k)/\¬q8 C L done k
structure nZ (C:Ctx) (L:List Oper) (mok:List Nat) (n:Nat) (lv0:Nat->Prop) (β0:Nat->Nat) (a0:Act) (h0:Hp) (w0:World) (done ls:List Nat) (listed:Array Bool) (β:Nat->Nat) (s:St) (a:Act) (h:Hp) (w:World):Prop where
 As:listed.size=L.length
 Ar:∀i,listed.getD i false=true↔i∈ls
 A9:ls.Nodup
 jL:∀i∈ls,i∈done
 su:∀i∈done,i<L.length
 rn:vn L (· ∈ls)
 lL:vn L (· ∈done)
 tc:vv L done
 rr:RR n (lV L done ls) (iq C L done ls) (ss L done) (q8 C L done) β s a h w
 facts:∀i o,i∈done->i∉ls->L[i]? =some o->nY C L o s h/\dB L (bE L []) i o=true/\ig (bE L []) i o L 0=false/\∀d,cP C.aS o d->d∈mok
 wg:gR (bW L) mok lv0 β0 a0 h0 w0 (live s (iq C L done ls)) β a h w
section
variable {C:Ctx} {L:List Oper} {mok:List Nat} {n:Nat} {lv0:Nat->Prop} {β0:Nat->Nat} {a0:Act} {h0:Hp} {w0:World} {done c:List Nat} {f:Array Bool} {β:Nat->Nat} {s:St} {a:Act} {h:Hp} {w:World}
theorem yE {i:Nat} {o p:Oper} (h:L[i]? =some o) (b:L[i]? =some p):p=o:=by grind
theorem C0 (m:(bW L).Nodup) {i:Nat} {o:Oper} (l:L[i]? =some o) (q:i∈done) (t:Nat):lV L done (i::c) t↔(o.dst=some t\/lV L done c t):=by
 constructor
 ·intro hc;by_cases k:o.dst=some t
  ·exact .inl k
  ·refine .inr λj p d g b=> ?_;by_cases r:j=i
   ·grind
   ·exact hc j p d (λe=>by grind) b
 ·rintro (k | hc) j p d g b
  ·intro e;exact g (by rw [uy m b l e k];simp)
  ·exact hc j p d (λe=>g (List.mem_cons_of_mem _ e)) b
theorem C1 (r:(bW L).Nodup) {i:Nat} {o:Oper} (q:L[i]? =some o) (u:i∈done) (k:Nat):iq C L done (i::c) k↔(cP C.aS o k\/iq C L done c k):=by
 constructor
 ·rintro ⟨m,l⟩;by_cases hp:cP C.aS o k
  ·exact .inl hp
  ·refine .inr ⟨λj p g b d=> ?_,l⟩;grind
 ·rintro (hp | ⟨m,l⟩)
  ·refine ⟨λj p g b d t=>b (by rw [uy r d q t.2 hp.2];simp),?_⟩;rintro ⟨j,p,g,b,d⟩;exact g (by rw [uy r b q d.2 hp.2];exact u)
  ·exact ⟨λj p g b d=>m j p g (λe=>b (List.mem_cons_of_mem _ e)) d,l⟩
theorem J3 {i j:Nat} (g:f.size=L.length) (d:i<L.length) (e:∀i,f.getD i false=true↔i∈c):(f.setIfInBounds i true).getD j false=true↔j∈i::c:=by
 by_cases b:j=i
 ·subst b;simp [g,d]
 ·have:=e j;simp [Array.getElem?_setIfInBounds_ne (Ne.symm b),b] at this ⊢;exact this
theorem D8 (e:nZ C L mok n lv0 β0 a0 h0 w0 done c f β s a h w) {i:Nat} {o:Oper} (u:L[i]? =some o) (x:∀k∈waits o,k∈done) (t:dB L (bE L []) i o=true) {ch:aZ}
  (q:qE L L.length o=some ch) (r:ux s ch=true):∀p∈ch,ss L done p.1:=
 HS e.rr q r λj b p d g l m=>⟨j,p,yW (BH t g) (· ∈done) e.lL (λy v=>by grind),by rw [<-nJ];exact l,m⟩
theorem C2 (ok:C.tb.Ok C.P) {ops:Array Oper} (b9:ops.toList=L) (A:(bW L).Nodup)
  (g:nZ C L mok n lv0 β0 a0 h0 w0 done c f β s a h w) {i:Nat} {o:Oper} (r:L[i]? =some o) (q:i∈done) (G:i∉c) (hw:∀k∈waits o,k∈c)
  (next:Act->World->Prop) (Q:Exit->Act->World->Prop)
  (hk:∀D u m,nZ C L mok n lv0 β0 a0 h0 w0 done (i::c) (f.setIfInBounds i true) D s u h m->next u m):wpOp C.P ops Q i next a w:=by
 obtain ⟨⟨ch,b2,hg,c0⟩,b6,c7,b7⟩:=g.facts i o q G r;have b1:∀j∈mn (bE L []) i,j∈c:=λj hj=>yW hj (· ∈c) g.rn (λo' c6=>by grind);have K:∀t,Operand.tmp t∈o.op.operands->lV L done c t:=λt ht j p B z E J=>by have:=wR J (g.facts j p B z E).2.2.1 i o r ht;grind
 have c4:∀j b p d,o.guard=some (j,b)->nth L j=some p->p.dst=some d->lV L done c d:=λj b p d e1 T e3 j' p' B z E J=>by rw [nJ] at T;have:=uy A E T J e3;subst this;exact z (b1 _ (BH b6 e1))
 have Z:∀x∈o.op.operands,fa β s a.eval x:=λx hx=>D6 g.rr λt e=>K t (e▸hx);have S:=JY (ops:=ops) g.rr (by rw [b9];exact b2) hg (by grind);have b8:ops[i]? =some o:=by grind
 have b4:i<L.length:=g.su i q;have X:∀d,o.dst=some d->¬lV L done c d:=λd e hc=>hc i o q G r e;have fin:∀D u m,RR n (lV L done (i::c)) (iq C L done (i::c)) (ss L done) (q8 C L done) D s u h m->gR (bW L) mok (live s (iq C L done c)) β a h w (live s (iq C L done (i::c))) D u h m->next u m:=by
  intro D u m H c2;refine hk D u m ⟨by simpa using g.As,λj=>J3 g.As b4 g.Ar,List.nodup_cons.2 ⟨G,g.A9⟩,λj hj=> ?_,g.su,?_,g.lL,g.tc,H,λj p B z E=>g.facts j p B (λe=>z (List.mem_cons_of_mem _ e)) E,g.wg.trans c2⟩
  ·rcases List.mem_cons.1 hj with rfl | hj
   ·exact q
   ·exact g.jL j hj
  ·intro j p hj hjm k b5;rcases List.mem_cons.1 hjm with rfl | hjm
   ·grind
   ·exact List.mem_cons_of_mem _ (g.rn j p hj hjm k b5)
 have U:∀d,o.dst=some d->d∈bW L:=λd e=>xz (List.mem_of_getElem? r) e;unfold wpOp;simp only [b8];rcases c0 with ⟨a8,_,l,hl,O,c1,_⟩ | ⟨rfl,a8,d,cs,hp,b3,W,O⟩
 ·have c5:∀k,¬cP C.aS o k:=Dx (N9 a8);have N:∀k,iq C L done (i::c) k↔iq C L done c k:=λk=>by rw [C1 A r q k];grind
  have b0:∀(v:Value) (m:World),Step h h w m->(holds s ch->v=LVal β l)->(¬holds s ch->v=undef)->next (a.put o.dst v) m:=by
   intro v m I B z;refine fin β _ m ?_ (((gR.step I).trans (gR.put (lv:=live s (iq C L done c)) U)).mono (λ_ e=>e) (λ_ e=>e) (λ_ e=>e) (λk e=>⟨e.1,(N k).1 e.2⟩));have H:=g.rr.step I;cases F:o.dst with
   | none=>exact H.congr (λt=>by rw [C0 A r q t];simp [F]) N (λ_ e=>e) (λ_ e=>e)
   | some d=>have:=H.exec (v:=v) (hl d F) (X d F) (λy=>⟨B y,λk off e=>(HT g.rr c1 y K k off e).1⟩) z;refine this.congr (λt=> ?_) N (λ_ e=>e) (λ_ e=>e);rw [C0 A r q t,F];grind
  by_cases y:holds s ch
  ·rw [if_pos (S.2 y)];left;obtain ⟨m,R,a9,I⟩:=O y β a.eval w Z (λ_=>g.rr.sub) (λ_=>HR g.rr K);unfold Oper.wp;rw [R];have c3:Step h h w m:=by
    cases M:cN C.tb o ch s with
    | mem=>exact I M
    | pure=>rw [a9 (by rw [M];simp)];exact .refl g.rr.sub
    | box=>rw [a9 (by rw [M];simp)];exact .refl g.rr.sub
   exact b0 _ m c3 (λ_=>rfl) (λe=>absurd y e)
  ·rw [if_neg (λe=>y (S.1 e))];exact b0 _ w (.refl g.rr.sub) (λe=>absurd e y) (λ_=>rfl)
 ·rw [if_pos (S.2 (bI s))];left;obtain ⟨t,R⟩:=O β a.eval w Z;unfold Oper.wp;rw [R];show next (a.put o.dst _) _
  have Y:¬iq C L done c d:=λe=>e.1 i o q G r hp;rw [hp.2];have V:∀k,cP C.aS o k↔k=d:=λk=>⟨λe=>by have:=e.2;rw [hp.2] at this;cases this;rfl,λe=>e▸hp⟩;refine fin _ _ _ ((g.rr.Ai t b3 W (X d hp.2) Y).congr (λt=> ?_) (λk=> ?_) (λ_ e=>e) (λ_ e=>e)) ((FX (a:=a) (β:=β) t g.rr.sub W Y (U d hp.2) (b7 d hp)).mono (λ_ e=>e) (λ_ e=>e) (λ_ e=>e) (λk e=>⟨e.1,?_⟩))
  ·rw [C0 A r q t,hp.2];grind
  ·rw [C1 A r q k,V]
  ·have:=e.2;rw [C1 A r q k,V] at this;exact this
end
section
variable {C:Ctx} {L:List Oper} {mok:List Nat} {n:Nat} {lv0:Nat->Prop} {β0:Nat->Nat} {a0:Act} {h0:Hp} {w0:World} {done g:List Nat} {r:Array Bool} {β:Nat->Nat} {s:St} {a:Act} {h:Hp} {w:World}
theorem Y7 {D:Nat->Prop} {o:Oper} {s':St} (k:jW D o s s') (i:∀ch,qE L L.length o=some ch->ux s ch=true->∀p∈ch,D p.1) (v:∀d,o.dst=some d->D d)
  (G:∀t,Operand.tmp t∈o.op.operands->∀b off c,(s.f t=some (.box b off,c)\/s.f t=some (.dV b off,c))->holds s c->s'.m b=s.m b) (M:∀d,cP C.aS o d->s'.m d=s.m d)
  (hp:nY C L o s h):nY C L o s' h:=by
 obtain ⟨ch,u,x,H⟩:=hp;have i:=i ch u x;refine ⟨ch,u,by rw [Ob k i];exact x,?_⟩;rcases H with ⟨q,J,l,F,j,I,K⟩ | ⟨rfl,q,d,z,y,A,N,j⟩
 ·refine .inl ⟨q,by rw [k.kind];exact J,l,λd e=>by rw [k.dn d (v d e)];exact F d e,λB=> ?_,k.Bk I,λE=>K (by rw [<-k.kind (s':=s')];exact E)⟩;rw [k.kind];exact LR k (λ_=>G) (λ_=>rfl) (j ((k.na i).1 B))
 ·exact .inr ⟨rfl,q,d,z,y,by rw [k.dn d (v d y.2)];exact A,by grind,Cj k j⟩
theorem Mh (x:(bW L).Nodup) (A:nZ C L mok n lv0 β0 a0 h0 w0 done g r β s a h w) {i:Nat} {o:Oper} (v:L[i]? =some o) (F:i∉done) {k:St} (d:∀t,o.dst≠some t->k.f t=s.f t)
  {j:Nat} {p:Oper} (D:L[j]? =some p) (E:j∈done) (y:∀t,Operand.tmp t∈p.op.operands->o.dst=some t->False):jW (ss L done) p s k:=by
 refine ⟨λt b=>d t λe=> ?_,λt b=>d t λe=>y t b e,λt l c e q z=>A.rr.chain t l c e q z⟩;obtain ⟨G,H,B,m,u⟩:=b;have:=uy x m v u e;grind
theorem Ah (b:nZ C L mok n lv0 β0 a0 h0 w0 done g r β s a h w) {j:Nat} {p:Oper} (f:L[j]? =some p) (c:j∈done) {i:Nat} (h:i∈mn (bE L []) j):i∈done:=
 yW h (· ∈done) b.lL λe d=>b.lL j e d c
theorem J4 (D:(bW L).Nodup) (q:nZ C L mok n lv0 β0 a0 h0 w0 done g r β s a h w) {i:Nat} {o:Oper} (x:L[i]? =some o) (hid:i∉done) (N:ig (bE L []) i o L 0=false)
  {v:St} (I:∀t,o.dst≠some t->v.f t=s.f t) (B:∀k,v.m k=s.m k\/cP C.aS o k) {j:Nat} {p:Oper} (u:j∈done) (K:j∉g) (l:L[j]? =some p):
  nY C L p v h/\dB L (bE L []) j p=true/\ig (bE L []) j p L 0=false/\∀d,cP C.aS p d->d∈mok:=by
 obtain ⟨F,y,G⟩:=q.facts j p u K l;refine ⟨?_,y,G⟩;have k:jW (ss L done) p s v:=Mh D q x hid I l u λt E e=>by have:=wR e N j p l E;rw [Nat.zero_add] at this;exact hid (Ah q l u this)
 refine Y7 k (λch H J=>D8 q l (q.lL j p l u) y H J) (λd e=>⟨j,p,u,l,e⟩) (λt E b off c hfb A=> ?_) (λd hp=> ?_) F
 ·refine (B b).resolve_right λhp=> ?_;have z:q8 C L done b:=⟨i,o,hid,x,hp⟩;rcases hfb with hfb | hfb
  ·exact (q.rr.kH b z t _ c hfb A off).1 rfl
  ·exact (q.rr.kH b z t _ c hfb A off).2 rfl
 ·refine (B d).resolve_right λM=> ?_;have:=uy D x l M.2 hp.2;grind
theorem KV (b:nZ C L mok n lv0 β0 a0 h0 w0 done g r β s a h w) {i:Nat} {o:Oper} (q:L[i]? =some o) (hid:i∉done) (u:∀k∈waits o,k∈done) {c:St}
  (l:RR n (lV L (i::done) g) (iq C L (i::done) g) (ss L (i::done)) (q8 C L (i::done)) β c a h w)
  (e:∀j p,j∈i::done->j∉g->L[j]? =some p->nY C L p c h/\dB L (bE L []) j p=true/\ig (bE L []) j p L 0=false/\∀d,cP C.aS p d->d∈mok)
  (m:gR (bW L) mok lv0 β0 a0 h0 w0 (live c (iq C L (i::done) g)) β a h w):nZ C L mok n lv0 β0 a0 h0 w0 (i::done) g r β c a h w:=by
 refine ⟨b.As,b.Ar,b.A9,λj hj=>List.mem_cons_of_mem _ (b.jL j hj),λj hj=> ?_,b.rn,?_,⟨λv t=>by grind,b.tc⟩,l,e,m⟩
 ·rcases List.mem_cons.1 hj with rfl | hj
  ·grind
  ·exact b.su j hj
 ·intro j p hj hjm k f;rcases List.mem_cons.1 hjm with rfl | hjm
  ·grind
  ·exact List.mem_cons_of_mem _ (b.lL j p hj hjm k f)
theorem C3 (q:nZ C L mok n lv0 β0 a0 h0 w0 done g r β s a h w) {i:Nat} {o:Oper} (m:L[i]? =some o) (hid:i∉done) (t:Nat):lV L (i::done) g t↔(o.dst≠some t/\lV L done g t):=by
 constructor
 ·exact λd=>⟨d i o (List.mem_cons_self ..) (λe=>hid (q.jL i e)) m,λj p c b l=>d j p (List.mem_cons_of_mem _ c) b l⟩
 ·rintro ⟨c,b⟩ j p e1 f k;rcases List.mem_cons.1 e1 with rfl | e1
  ·grind
  ·exact b j p e1 f k
theorem AO (l:(bW L).Nodup) {i:Nat} {o:Oper} (f:L[i]? =some o) (hid:i∉done) (k:Nat):q8 C L (i::done) k↔(¬cP C.aS o k/\q8 C L done k):=by
 constructor
 ·rintro ⟨j,p,d,b,c⟩;refine ⟨λe=> ?_,j,p,λe=>d (List.mem_cons_of_mem _ e),b,c⟩;exact d (by rw [uy l b f c.2 e.2];simp)
 ·rintro ⟨h0,j,p,d,b,c⟩;refine ⟨j,p,λe=> ?_,b,c⟩;grind
theorem yl (q:(bW L).Nodup) (t:nZ C L mok n lv0 β0 a0 h0 w0 done g r β s a h w) {i:Nat} {o:Oper} (d:L[i]? =some o) (hid:i∉done) (k:Nat):
  iq C L (i::done) g k↔(¬cP C.aS o k/\iq C L done g k):=by
 constructor
 ·rintro ⟨b,c⟩;have hp:¬cP C.aS o k:=b i o (List.mem_cons_self ..) (λe=>hid (t.jL i e)) d;exact ⟨hp,λj p f l m=>b j p (List.mem_cons_of_mem _ f) l m,λe=>c ((AO q d hid k).2 ⟨hp,e⟩)⟩
 ·rintro ⟨hp,b,c⟩;refine ⟨λj p f l m=> ?_,λe=>c ((AO q d hid k).1 e).2⟩;grind
theorem yF {i:Nat} (t:Nat) (h:ss L done t):ss L (i::done) t:=by obtain ⟨j,p,b,c,d⟩:=h;exact ⟨j,p,List.mem_cons_of_mem _ b,c,d⟩
theorem Ro (ok:C.tb.Ok C.P) (z:(bW L).Nodup) (c1:∀d∈bW L,d<n) (u:nZ C L mok n lv0 β0 a0 h0 w0 done g r β s a h w) {i:Nat} {o:Oper} (y:L[i]? =some o) (hid:i∉done)
  (hw:∀k∈waits o,k∈done) (a9:dB L (bE L []) i o=true) (M:ig (bE L []) i o L 0=false) (c7:isVal C.tb o=true\/mT C.aS o=true) {K:St->Hp->Prop}
  (a8:EC C L o s=true) (hv:Bj C L mok o s h K):∃s',K s' h/\nZ C L mok n lv0 β0 a0 h0 w0 (i::done) g r β s' a h w:=by
 unfold Bj at hv;split at hv
 ·exact hv.elim
 rename_i ch W;cases O:ux s ch with
 | false=>simp [O] at hv
 | true=>
 simp only [O,cond_true] at hv;have U:∀p∈ch,ss L done p.1:=D8 u y hw a9 W O;have b4:∀d,o.dst=some d->¬ss L done d:=λd e ⟨j,p,h1,F,A⟩=>hid (by rw [<-uy z F y A e];exact h1);have b5:∀d,o.dst=some d->d<n:=λd e=>c1 d (xz (List.mem_of_getElem? y) e);have b9:∀ {s':St},(∀t,o.dst≠some t->s'.f t=s.f t)->jW (ss L done) o s s':=λD=>by refine ⟨λt ⟨j,p,h1,F,A⟩=>D t λe=>hid (by grind),λt J=>D t λe=> ?_,λt l c e q hq=>u.rr.chain t l c e q hq⟩;have:=wR e M i o y J;rw [Nat.zero_add] at this;exact hid (yW this (· ∈done) u.lL λo' c8=>by grind)
 cases H:isVal C.tb o with
 | true=>
  simp only [H,cond_true] at hv;obtain ⟨l,I,b1,b8,c5⟩:=PH ok hv;have c2:∀k,¬cP C.aS o k:=Dx (N9 H);have c4:sb C.tb o=true\/cN C.tb o ch s=.pure:=by unfold EC at a8;grind
  have D:∀t,o.dst≠some t->(s.put o.dst l ch).f t=s.f t:=λt J=>wa s _ _ _ t J;have k:=b9 D;refine ⟨_,I,KV u y hid hw ?_ (λj p h1 F A=> ?_) ?_⟩
  ·have hb:holds s ch->∀k o',(l=.box k o'\/l=.dV k o')->¬q8 C L done k:=λQ b off e N=>by
    obtain ⟨x,hx,c0,hev⟩:=b8 b off e;rcases hev with hev | hev
    ·obtain ⟨t,c,rfl,Y,V⟩:=tu hev (by simp) Q;exact (u.rr.kH b N t _ c Y V c0).1 rfl
    ·obtain ⟨t,c,rfl,Y,V⟩:=tu hev (by simp) Q;exact (u.rr.kH b N t _ c Y V c0).2 rfl
   have b6:∀k,iq C L (i::done) g k↔iq C L done g k:=λk=>by rw [yl z u y hid k];grind
   have b7:∀k,q8 C L (i::done) k->q8 C L done k:=λk e=>((AO z y hid k).1 e).2;cases B:o.dst with
   | none=>exact u.rr.congr (λt=>by rw [C3 u y hid t,B];simp) b6 yF b7
   | some d=>refine (u.rr.lift (l:=l) (ch:=ch) (b5 d B) (b4 d B) U hb).congr (λt=> ?_) b6 yF b7;rw [C3 u y hid t,B];grind
  ·rcases List.mem_cons.1 h1 with rfl | h1
   ·rw [yE y A];refine ⟨⟨ch,W,by rw [Ob k U];exact O,.inl ⟨H,by rw [k.kind];exact c4,l,λd e=>by rw [e];exact Er _ _ _ _,λQ=> ?_,k.Bk b8,λa8=>c5 (by rw [<-k.kind (s':=s.put o.dst l ch)];exact a8)⟩⟩,a9,M,λd hp=>absurd hp (c2 d)⟩;rw [k.kind];exact LR k (λ_ t _ b off c _ _=>by rw [nx]) (λ_=>rfl) (b1 ((k.na U).1 Q))
   ·exact J4 z u y hid M D (λk=>.inl (by rw [nx])) h1 F A
  ·refine u.wg.mono (λ_ e=>e) (λ_ e=>e) (λ_ e=>e) (λk e=>⟨?_,((yl z u y hid k).1 e.2).2⟩);have:=e.1
   rwa [nx] at this
 | false=>
  simp only [H,cond_false] at hv;have b0:mT C.aS o=true:=c7.resolve_left (by rw [H];simp);have b2:∀(d:Nat) (E:List Value),K ((s.put (some d) (.box d 0) []).gI d E) h->cP C.aS o d->ch=[]->has mok d=true->
    (∀(β:Nat->Nat) (S:Operand->Value) (w:World),(∀x∈o.op.operands,fa β s S x)->
     ∃t,(execOp S o).run C.P w=.ok (.value (.pointer (some ⟨w.heap.size,0,none⟩))) {w with heap:=w.heap.push (.cells E.toArray t (0,0))})->
    ∃s',K s' h/\nZ C L mok n lv0 β0 a0 h0 w0 (i::done) g r β s' a h w:=by
   intro d E I hp X G b1;subst X;have Z:∀k,cP C.aS o k↔k=d:=λk=>⟨λe=>by have:=e.2;rw [hp.2] at this;cases this;rfl,λe=>e▸hp⟩;have D:∀t,o.dst≠some t->((s.put (some d) (.box d 0) []).gI d E).f t=s.f t:=λt J=>tx s _ _ λe=>J (by rw [hp.2,e]);have hm:∀k,k≠d->((s.put (some d) (.box d 0) []).gI d E).m k=s.m k:=λk I=>xh _ _ I;have k:=b9 D;have N:q8 C L done d:=⟨i,o,hid,y,hp⟩;refine ⟨_,I,KV u y hid hw ?_ (λj p h1 F A=> ?_) ?_⟩
   ·refine (u.rr.Aq E (b5 d hp.2) (b4 d hp.2) N).congr (λt=> ?_) (λk=> ?_) yF (λk e=> ?_)
    ·rw [C3 u y hid t,hp.2];grind
    ·rw [yl z u y hid k,Z]
    ·have:=(AO z y hid k).1 e;grind
   ·rcases List.mem_cons.1 h1 with rfl | h1
    ·rw [yE y A];refine ⟨⟨[],W,rfl,.inr ⟨rfl,H,d,E,hp,Er _ _ _ _,yi _ _ _,Cj k b1⟩⟩,a9,M,λd' c3=> ?_⟩;rw [(Z d').1 c3];exact (sm _ _).1 G
    ·exact J4 z u y hid M D (λk=>by
      grind) h1 F A
   ·refine u.wg.mono (λ_ e=>e) (λ_ e=>e) (λ_ e=>e) (λk e=> ?_);have hl:=(yl z u y hid k).1 e.2;rw [Z] at hl;refine ⟨?_,hl.2⟩;have:=e.1;grind
  split at hv
  ·rename_i d B;have b3:o.dst=some d/\has C.aS d=true:=by unfold ry at B;grind
   cases G:has mok d with
   | false=>simp [G] at hv
   | true=>
    simp only [G,cond_true] at hv;split at hv
    ·rename_i t R;split at hv
     ·rename_i e X;refine b2 d (bp e.zero) hv ⟨b0,b3.1⟩ rfl G λβ S w _=>⟨t,?_⟩;have T:(bp e.zero).toArray=e.zero.cells:=by apply Array.ext';simp [pj]
      rw [T];simp [execOp,R,Instr.alloc,cI ok X,newVar,ur]
     ·exact hv.elim
    ·rename_i t x R;obtain ⟨v,hev,c6⟩:=kJ hv;refine b2 d (bp v) c6 ⟨b0,b3.1⟩ rfl G λβ S w ho=>⟨t,?_⟩;have hx:=bH (ho x (by simp [R,Op.operands])) (bI s) hev;have T:(bp v).toArray=v.cells:=by apply Array.ext';simp [pj]
     rw [T];simp [execOp,R,hx,LVal,Instr.box,newVar,ur]
    ·exact hv.elim
  ·exact hv.elim
  ·rename_i B;exfalso;unfold ry at B;unfold mT at b0;grind
end
theorem kq {b:Bool} {p:Prop} (h:cond b p False):b=true/\p:=by grind
theorem KW {C:Ctx} {m:Nat->Bool} {L:List Oper} {s:St} {h:Hp}:∀ {a:List Nat},Ep C m L s h a->∀ {j:Nat} {p:Oper} {ch:aZ},j∈a->L[j]? =some p->qE L L.length p=some ch->qc C m p ch s h
 | [],_,_,_,_,hj,_,_=>by cases hj
 | r::a,d,j,p,ch,hj,hp,e=>by
  obtain ⟨b,c⟩:=d;rcases List.mem_cons.1 hj with rfl | hj
  ·rw [nJ,hp] at b;grind
  ·exact KW c hj hp e
theorem PL {C:Ctx} {m:Nat->Bool} {p:Oper} {ch:aZ} {s:St} {h:Hp} (a:qc C m p ch s h):∃d,p.dst=some d:=by
 cases b:p.dst with
 | some d=>simp
 | none=>unfold qc at a;grind
section
variable {C:Ctx} {L:List Oper} {mok:List Nat} {n:Nat} {lv0:Nat->Prop} {β0:Nat->Nat} {a0:Act} {h0:Hp} {w0:World} {done g:List Nat} {q:Array Bool} {β:Nat->Nat} {s:St} {a:Act} {h:Hp} {w:World}
theorem Rp (k:(bW L).Nodup) {i:Nat} {o:Oper} (f:L[i]? =some o) (hid:i∉done) (t:Nat):lV L (i::done) (i::g) t↔(o.dst=some t\/lV L done g t):=by
 constructor
 ·intro hc;by_cases d:o.dst=some t
  ·exact .inl d
  ·exact .inr λj p h1 c b=>hc j p (List.mem_cons_of_mem _ h1) (λe=>by
    grind) b
 ·rintro (d | hc) j p h1 c b
  ·intro e;exact c (by rw [uy k b f e d];simp)
  ·rcases List.mem_cons.1 h1 with e | h1
   ·grind
   ·exact hc j p h1 (λe=>c (List.mem_cons_of_mem _ e)) b
theorem Mi (d:(bW L).Nodup) {i:Nat} {o:Oper} (c:L[i]? =some o) (hid:i∉done) (k:Nat):iq C L (i::done) (i::g) k↔(cP C.aS o k\/iq C L done g k):=by
 constructor
 ·rintro ⟨r,m⟩;by_cases hp:cP C.aS o k
  ·exact .inl hp
  ·exact .inr ⟨λj p f l b=>r j p (List.mem_cons_of_mem _ f) (λe=>by
    grind) b,λe=>m ((AO d c hid k).2 ⟨hp,e⟩)⟩
 ·rintro (hp | ⟨r,m⟩)
  ·exact ⟨λj p f l b t=>l (by rw [uy d b c t.2 hp.2];simp),λe=>((AO d c hid k).1 e).1 hp⟩
  ·refine ⟨λj p f l b=> ?_,λe=>m ((AO d c hid k).1 e).2⟩;grind
theorem Y9 (ok:C.tb.Ok C.P) (Y:(bW L).Nodup) (x:nZ C L mok n lv0 β0 a0 h0 w0 done g q β s a h w) {i:Nat} {o:Oper} (B:L[i]? =some o) (hid:i∉done) (b1:∀j∈mn (bE L []) i,j∈g)
  {Q:List Nat} (hwatch:(isVal C.tb o=true\/mT C.aS o=true)\/∀j p,j∈done->L[j]? =some p->isVal C.tb p=true->sb C.tb p=true->j∈Q\/j∈mn (bE L []) i)
  {l:List Nat} {c3:Nat->Nat} {s':St} {a':Act} {z:Hp} {w':World} (out:vq C l mok n (lV L done g) (iq C L done g) (ss L done) (q8 C L done) o β s a h w c3 s' a' z w')
  (b0:Ep C (vB o s) L s' z Q) {j:Nat} {p:Oper} (u:j∈done) (J:j∉g) (r:L[j]? =some p):
  nY C L p s' z/\dB L (bE L []) j p=true/\ig (bE L []) j p L 0=false/\∀d,cP C.aS p d->d∈mok:=by
 obtain ⟨⟨ch,G,U,b7⟩,M,c0⟩:=x.facts j p u J r;refine ⟨?_,M,c0⟩;have k:jW (ss L done) p s s':=Mh Y x B hid out.f r u λt v e=>by
  rcases Y6 M v B e with h1 | h1 | h1
  ·exact hid (Ah x r u h1)
  ·exact hid (h1▸u)
  grind
 have R:=D8 x r (x.lL j p r u) M G U;have I:∀d,p.dst=some d->ss L done d:=λd e=>⟨j,p,u,r,e⟩;have X:∀t,Operand.tmp t∈p.op.operands->∀b off c,(s.f t=some (.box b off,c)\/s.f t=some (.dV b off,c))->holds s c->s'.m b=s.m b\/(vB o s b=true/\isVal C.tb o=false):=by
  intro t v b off c hfb A;rcases out.m b with e | e | e
  ·exact .inl e
  ·exfalso;have S:q8 C L done b:=⟨i,o,hid,B,e⟩;rcases hfb with hfb | hfb
   ·exact (x.rr.kH b S t _ c hfb A off).1 rfl
   ·exact (x.rr.kH b S t _ c hfb A off).2 rfl
  grind
 refine ⟨ch,G,by rw [Ob k R];exact U,?_⟩;rcases b7 with ⟨E,Z,lv,W,O,b8,c1⟩ | ⟨rfl,E,d,cs,D,b2,b5,O⟩
 ·have a8:xG C.tb p ch s' lv:=λb4=>c1 (by rw [<-k.kind (s':=s')];exact b4);refine .inl ⟨E,by rw [k.kind];exact Z,lv,λd e=>by rw [k.dn d (I d e)];exact W d e,λV=> ?_,k.Bk b8,a8⟩;have A:=(k.na R).1 V;have y:=O A;have K:cN C.tb p ch s'=cN C.tb p ch s:=k.kind;rw [K];by_cases N:cN C.tb p ch s=.pure
  ·rw [N] at y ⊢;exact LR k (λe=>absurd rfl e) (λe=>by cases e) y
  ·have b9:=Z.resolve_right N;rcases hwatch with a9 | hwatch
   ·have b6:∀b,¬(vB o s b=true/\isVal C.tb o=false):=by
     rintro b ⟨e1,e2⟩;rcases a9 with e | e
     ·grind
     ·unfold vB at e1;unfold mT at e;grind
    have b3:z=h:=by
     rcases a9 with e | e
     ·exact out.hv e
     ·exact out.hp e
    exact LR k (λ_ t v b off c hfb F=>(X t v b off c hfb F).resolve_right (b6 b)) (λ_=>b3) y
   ·have c2:j∈Q:=(hwatch j p u r E b9).resolve_right λe=>J (b1 j e);have T:=KW b0 c2 r G;obtain ⟨d,H⟩:=PL T;rcases X4 rfl ok T H ⟨ch,by rw [k.dn d (I d H)];exact W d H⟩ V a8 with h1 | ⟨h1,h2⟩ | ⟨h1,h2⟩
    ·rw [K] at h1;exact absurd h1 N
    ·rw [K] at h1;rw [h1] at y ⊢;exact LR k (λ_ t v b off c hfb F=>(X t v b off c hfb F).resolve_right λe=>by rw [h2 t b off c v (by rw [k.op t v];exact hfb)] at e;cases e.1) (λe=>by cases e) y
    grind
 ·refine .inr ⟨rfl,E,d,cs,D,by rw [k.dn d (I d D.2)];exact b2,?_,Cj k O⟩;rcases out.m d with e | e | e
  ·rw [e];exact b5
  ·exact absurd u (by rw [uy Y r B D.2 e.2];exact hid)
  ·exact absurd D (e.2.2.2.1 j p u J r)
theorem Rq (ok:C.tb.Ok C.P) {T:Array Oper} (R:T.toList=L) (v:(bW L).Nodup) (Z:∀d∈bW L,d<n) (c:nZ C L mok n lv0 β0 a0 h0 w0 done g q β s a h w) {i:Nat} {o:Oper} (f:L[i]? =some o) (hid:i∉done)
  (S:∀k∈waits o,k∈g) (Y:dB L (bE L []) i o=true) {U:List Nat}
  (a9:(isVal C.tb o=true\/mT C.aS o=true)\/∀j p,j∈done->L[j]? =some p->isVal C.tb p=true->sb C.tb p=true->j∈U\/j∈mn (bE L []) i)
  {K:St->Hp->Prop} (W:∀s1 m,K s1 m->Ep C (vB o s) L s1 m U) (hv:Bj C L mok o s h K) (next:Act->World->Prop) (Q:Exit->Act->World->Prop)
  (hn:∀B z G y D,K B z->nZ C L mok n lv0 β0 a0 h0 w0 (i::done) (i::g) (q.setIfInBounds i true) G B y z D->next y D):wpOp C.P T Q i next a w:=by
 have J:∀j∈mn (bE L []) i,j∈g:=λj hj=>yW hj (· ∈g) c.rn (λo' O=>by grind);have M:i<L.length:=(List.getElem?_eq_some_iff.1 f).1;have N:=List.mem_of_getElem? f;refine HU (l:=bW L) ok (by grind) (by rw [R];exact hv) c.rr (λt ht j p m r u F=> ?_) (λj b p d V E H=> ?_) (λd e=>⟨Z d (xz N e),?_,xz N e⟩) (λd hp=> ?_) next Q λB z G y D A out=> ?_
 ·have:=wR F (c.facts j p m r u).2.2.1 i o f ht;grind
 ·rw [R,nJ] at E;have X:=J _ (BH Y V);refine ⟨λj' p' m r u F=> ?_,j,p,c.jL j X,E,H⟩;have:=uy v u E F H;grind
 ·rintro ⟨j,p,m,r,u⟩;exact hid (by rw [<-uy v r f u e];exact m)
 ·have I:q8 C L done d:=⟨i,o,hid,f,hp⟩;exact ⟨I,λe=>e.2 I⟩
 ·refine hn B z G y D A ⟨by simpa using c.As,λj=>J3 c.As M c.Ar,List.nodup_cons.2 ⟨λe=>hid (c.jL i e),c.A9⟩,λj hj=> ?_,λj hj=> ?_,?_,?_,
   ⟨λo' O=>by rw [yE f O];exact λk A=>c.jL k (S k A),c.tc⟩,out.rr.congr (λt=>Rp v f hid t) (λk=>Mi v f hid k) yF (λk e=>(AO v f hid k).1 e),λj p m r u=> ?_,
   c.wg.trans (out.wg.mono (λ_ e=>e) (λ_ e=>e) (λ_ e=>e) (λk e=>⟨e.1,(Mi v f hid k).1 e.2⟩))⟩
  ·rcases List.mem_cons.1 hj with rfl | hj
   ·simp
   ·exact List.mem_cons_of_mem _ (c.jL j hj)
  ·rcases List.mem_cons.1 hj with rfl | hj
   ·exact M
   ·exact c.su j hj
  ·intro j p hj hjm k x;rcases List.mem_cons.1 hjm with rfl | hjm
   ·grind
   ·exact List.mem_cons_of_mem _ (c.rn j p hj hjm k x)
  ·intro j p hj hjm k x;rcases List.mem_cons.1 hjm with rfl | hjm
   ·rw [yE f hj] at x;exact List.mem_cons_of_mem _ (c.jL k (S k x))
   ·exact List.mem_cons_of_mem _ (c.lL j p hj hjm k x)
  ·have a8:j≠i:=λe=>r (e▸List.mem_cons_self ..);exact Y9 ok v c f hid J a9 out (W _ _ A) ((List.mem_cons.1 m).resolve_left a8) (λe=>r (List.mem_cons_of_mem _ e)) u
theorem zk {i:Array Oper} (t:i.toList=L) (b:nZ C L mok n lv0 β0 a0 h0 w0 done g q β s a h w) {j:Nat}:
  j∈Region.ready .any i q↔j∉g/\∃o,L[j]? =some o/\∀k∈waits o,k∈g:=by
 rw [mem_ready];have m:∀j:Nat,i[j]? =L[j]?:=λj=>by grind
 constructor
 ·rintro ⟨l,o,c,d⟩;rw [m] at c;refine ⟨λe=> ?_,o,c,λk p=> ?_⟩
  ·have r:j<q.size:=by rw [b.As];exact (List.getElem?_eq_some_iff.1 c).1
   have:=(b.Ar j).2 e;grind
  ·obtain ⟨e,f,rfl,hb⟩:=PK p;exact (b.Ar _).1 (d e f hb)
 ·rintro ⟨l,o,c,d⟩;refine ⟨?_,o,by grind,λe f hb=>(b.Ar _).2 (d _ (PF f hb))⟩;have r:j<q.size:=by rw [b.As];exact (List.getElem?_eq_some_iff.1 c).1
  cases e:q.getD j true with
  | false=>rfl
  | true=>refine absurd ((b.Ar j).1 ?_) l;grind
theorem Lv {tb:Tb} {aS:List Nat}:∀ {r:List (Nat×List Nat)} {done:List Nat} {last:Option Nat} {c:List Nat} {d:Option Nat},eJ tb aS L (bE L []) r done last=true->vf tb aS L (bE L []) r done last=(c,d)->
  (∀x,x∈c↔x∈done\/x∈r.map (·.1))/\(done.Nodup->c.Nodup)/\(∀e,last=some e->∃b,d=some b/\(b=e\/mq L b e))
 | [],done,last,c,d,_,he=>by cases he;grind
 | (i,ws)::r,done,last,c,d,h,he=>by
  obtain ⟨o,F,_,_,hid,D,J⟩:=Lu h;have key:∀f,eJ tb aS L (bE L []) r (i::done) f=true->vf tb aS L (bE L []) r (i::done) f=(c,d)->(f=last\/f=some i)->
    (∀x,x∈c↔x∈done\/x∈((i,ws)::r).map (·.1))/\(done.Nodup->c.Nodup)/\(∀e,last=some e->∃b,d=some b/\(b=e\/mq L b e)):=by
   intro f y z B;obtain ⟨u,v,l⟩:=Lv y z;refine ⟨λx=> ?_,λE=>v (List.nodup_cons.2 ⟨hid,E⟩),λe m=> ?_⟩
   ·rw [u,List.mem_cons,List.map_cons,List.mem_cons];constructor
    ·rintro ((h | h) | h)
     ·exact .inr (.inl h)
     ·exact .inl h
     ·exact .inr (.inr h)
    ·rintro (h | h | h)
     ·exact .inl (.inr h)
     ·exact .inl (.inl h)
     ·exact .inr h
   ·rcases B with rfl | rfl
    ·exact l e m
    ·obtain ⟨b,t,e2⟩:=l i rfl;have p:=yW (D e m);refine ⟨b,t,.inr ?_⟩;rcases e2 with rfl | e2
     ·exact p
     ·intro X j H;exact p X j λI G k A=>j i I G (e2 X j H) k A
  simp only [vf,nJ,F] at he;grind
theorem Mj (ok:C.tb.Ok C.P) {m:Array Oper} (u:m.toList=L) (G:(bW L).Nodup) (R:∀d∈bW L,d<n) {K0:St->Hp->Prop} {Q:Exit->Act->World->Prop} {dE:List Nat} {lE:Option Nat}
  (a8:∀j,j<L.length->j∉dE->∀e,lE=some e->mq L j e)
  (fin:∀(fuel:Nat) (g:List Nat) (q:Array Bool) (β:Nat->Nat) (s:St) (a:Act) (h:Hp) (w:World),nZ C L mok n lv0 β0 a0 h0 w0 dE g q β s a h w->K0 s h->L.length<=fuel+g.length->wpAny C.P .any m Q fuel q a w):
  ∀(fuel:Nat) (r:List (Nat×List Nat)) (done g:List Nat) (q:Array Bool) (last:Option Nat) (β:Nat->Nat) (s:St) (a:Act) (h:Hp) (w:World),
   nZ C L mok n lv0 β0 a0 h0 w0 done g q β s a h w->eJ C.tb C.aS L (bE L []) r done last=true->vf C.tb C.aS L (bE L []) r done last=(dE,lE)->pP C L mok r s h K0->
   L.length<=fuel+g.length->wpAny C.P .any m Q fuel q a w:=by
 intro fuel
 induction fuel with
 | zero=>
  intro r done g q last β s a h w hs hp he hv hf;have b0:∀j,j<L.length->j∈g:=λj t=>zH hs.A9 (λx B=>hs.su x (hs.jL x B)) (by omega) t;cases r with
  | nil=>cases he;exact fin 0 g q β s a h w hs hv hf
  | cons x r=>obtain ⟨i,ws⟩:=x;obtain ⟨o,c,_,_,hid,_⟩:=Lu hp;exact absurd (hs.jL i (b0 i (List.getElem?_eq_some_iff.1 c).1)) hid
 | succ fuel Y=>
  intro r
  induction r with
  | nil=>intro done g q last β s a h w hs hp he hv hf;cases he;exact fin (fuel+1) g q β s a h w hs hv hf
  | cons x r c2=>
   intro done g q last β s a h w hs hp he hv hf;obtain ⟨i,ws⟩:=x;obtain ⟨o,c,A,O,hid,b9,hc⟩:=Lu hp;obtain ⟨c0,_,_⟩:=Lv hp he;simp only [pP,nJ,c] at hv;obtain ⟨b5,T⟩:=kq hv;have rest:eJ C.tb C.aS L (bE L []) r (i::done) (some i)=true->vf C.tb C.aS L (bE L []) r (i::done) (some i)=(dE,lE)->
     ((isVal C.tb o=true\/mT C.aS o=true)\/∀j p,j∈done->L[j]? =some p->isVal C.tb p=true->sb C.tb p=true->j∈ws\/j∈mn (bE L []) i)->wpAny C.P .any m Q (fuel+1) q a w:=by
    intro f M b7;have K:∀s1 b,(match (generalizing:=false) ws with
     | []=>pP C L mok r s1 b K0
     | ws=>Ep C (vB o s) L s1 b ws/\pP C L mok r s1 b K0)->Ep C (vB o s) L s1 b ws/\pP C L mok r s1 b K0:=by
     intro s1 b e;cases ws with
     | nil=>exact ⟨trivial,e⟩
     | cons x ws=>exact e
    refine ⟨λhr=> ?_,λj t=> ?_⟩
    ·exfalso;by_cases B:∃j∈done,j∉g
     ·obtain ⟨j,b,v,h3⟩:=Oy hs.tc B;have N:=List.getElem?_eq_getElem (hs.su j b);have:j∈Region.ready .any m q:=(zk u hs).2 ⟨v,_,N,h3 _ N⟩;grind
     ·have:i∈Region.ready .any m q:=(zk u hs).2 ⟨λe=>hid (hs.jL i e),o,c,λk l=>Classical.byContradiction λe=>B ⟨k,A k l,e⟩⟩;grind
    ·obtain ⟨b,p,y,v⟩:=(zk u hs).1 t;by_cases F:j∈done
     ·exact C2 ok u G hs y F b v _ Q λI D H z=>Y ((i,ws)::r) done (j::g) _ last I s D h H z hp he (by
       simp only [pP,nJ,c];omega) (by simp;omega)
     ·by_cases b2:j=i
      ·subst b2;rw [c] at y;cases y;exact Rq ok u G R hs c hid v O b7 (λs h e=>(K s h e).1) T _ Q λs' h' I D H l z=>Y r (j::done) (j::g) _ (some j) I s' D h' H z f M (K _ _ l).2 (by simp;omega)
      ·exfalso;have b3:=(List.getElem?_eq_some_iff.1 y).1;have a9:mq L j i:=by
        by_cases b4:j∈r.map (·.1)
        ·exact J1 f j b4
        ·have b1:j∉dE:=λh=>by grind
         obtain ⟨_,_,g3⟩:=Lv f M;obtain ⟨J,e1,e2⟩:=g3 i rfl;have b:=a8 j b3 b1 J e1;rcases e2 with rfl | e2
         ·exact b
         ·intro X E A;exact e2 X E λZ S k l=>E J Z S (b X E A) k l
       have:=a9 (· ∈g) hs.rn λZ S=>by grind
       exact hid (hs.jL i this)
   simp only [vf,nJ,c] at he;rcases hc with ⟨V,W,f⟩ | ⟨V,W,f⟩ | ⟨U,c1,b8,f⟩
   ·obtain ⟨s',l,z⟩:=Ro ok G R hs c hid A O W V b5 T;grind
   ·grind
   ·exact rest f (by grind) (.inr λj p F t U b6=>Jw b8 j F p t U b6)
theorem Mk {tb:Tb} {aS:List Nat} {rows:List (List Nat)}:∀ {r:List (Nat×List Nat)} {done:List Nat} {last:Option Nat},eJ tb aS L rows r done last=true->
  (r.map (·.1)).Nodup/\∀j∈r.map (·.1),j∉done/\j<L.length
 | [],_,_,_=>⟨.nil,λj d=>(nomatch d)⟩
 | (i,ws)::r,done,last,h=>by obtain ⟨o,f,_,_,hid,_,e⟩:=Lu h;have k:∀b,eJ tb aS L rows r (i::done) b=true->_:=λb c=>Mk c;grind
theorem J5 {aS:List Nat} {k:Nat}:∀ {L:List Oper},k∈lq aS L↔∃(i:Nat) (o:Oper),L[i]? =some o/\cP aS o k
 | []=>by simp [lq]
 | o::L=>by
  have f:=J5 (aS:=aS) (k:=k) (L:=L);have key:(∃(i:Nat) (p:Oper),(o::L)[i]? =some p/\cP aS p k)↔(cP aS o k\/∃(i:Nat) (p:Oper),L[i]? =some p/\cP aS p k):=by
   constructor
   ·grind
   ·rintro (h | ⟨i,p,b,c⟩)
    ·exact ⟨0,o,by simp,h⟩
    ·exact ⟨i+1,p,by simpa using b,c⟩
  rw [key,<-f];by_cases hp:∃d,cP aS o d
  ·obtain ⟨d,hp⟩:=hp;rw [Oa hp,List.mem_cons];refine or_congr ⟨λe=>e▸hp,λe=> ?_⟩ .rfl;have:=e.2;rw [hp.2] at this;cases this;rfl
  ·rw [BF λd e=>hp ⟨d,e⟩];grind
end
theorem Es :∀(l:List Oper) (j i k:Nat),(eS l j i)[k]? =(l[k]?).map λo=>if k=j then {o with after:=⟨app o.after.toList [⟨i,.data⟩]⟩} else o
 | [],_,_,k=>by simp [eS]
 | o::r,0,i,0=>by simp [eS]
 | o::r,0,i,k+1=>by simp [eS]
 | o::r,j+1,i,0=>by simp [eS]
 | o::r,j+1,i,k+1=>by simp [eS,Es r j i k]
theorem E8 :∀(l:List Oper) (j i:Nat),(eS l j i).length=l.length
 | [],_,_=>rfl
 | _::_,0,_=>rfl
 | o::r,j+1,i=>by simp [eS,E8 r j i]
theorem AL :∀(l:List Oper) (j i:Nat),bW (eS l j i)=bW l
 | [],_,_=>rfl
 | _::_,0,_=>rfl
 | o::r,j+1,i=>by simp only [eS,bW,AL r j i]
section
variable {P:Program} {Q:Exit->Act->World->Prop} {ops b:Array Oper} {i j:Nat}
theorem C4 (d:b.toList=eS ops.toList j i) {k:Nat} {K:Act->World->Prop} {a:Act} {w:World} (h:wpOp P b Q k K a w):wpOp P ops Q k K a w:=by
 have f:∀k:Nat,b[k]? =(ops[k]?).map λo=>if k=j then {o with after:=⟨app o.after.toList [⟨i,.data⟩]⟩} else o:=λk=>by rw [<-Array.getElem?_toList,d,Es,Array.getElem?_toList]
 have l:∀c,yielded b c=yielded ops c:=λc=>by funext q;unfold yielded;grind
 unfold wpOp at*;rw [f] at h;cases g:ops[k]? with
 | none=>grind
 | some o=>
  rw [g] at h;simp only [Option.map_some,l] at h;by_cases e:k=j
  ·rw [if_pos e] at h;exact h
  grind
theorem LS (g:b.toList=eS ops.toList j i) {k:Nat} {c:Array Bool}:(k∈Region.ready .any b c->k∈Region.ready .any ops c)/\(k∈Region.ready .any ops c->(k≠j\/c.getD i false=true)->k∈Region.ready .any b c):=by
 have l:∀k:Nat,b[k]? =(ops[k]?).map λo=>if k=j then {o with after:=⟨app o.after.toList [⟨i,.data⟩]⟩} else o:=λk=>by rw [<-Array.getElem?_toList,g,Es,Array.getElem?_toList]
 simp only [mem_ready,l];constructor
 ·rintro ⟨d,n,a,f⟩;refine ⟨d,?_⟩;cases e:ops[k]? with
  | none=>grind
  | some o=>
   rw [e] at a;refine ⟨o,rfl,λx hx=>f x ?_⟩;simp at a;subst a;split
   ·rw [sc];grind
   ·exact hx
 ·rintro ⟨d,o,a,f⟩ m;refine ⟨d,_,by rw [a];rfl,λx hx hb=> ?_⟩;dsimp only at hx;by_cases e:k=j
  ·rw [if_pos e] at hx;have hx:x∈(⟨app o.after.toList [⟨i,.data⟩]⟩:Array Edge):=hx;rw [sc] at hx;simp at hx;rcases hx with hx | hx
   ·exact f x (by simpa using hx) hb
   ·subst hx;exact m.resolve_left λh=>h e
  grind
theorem KX (f:b.toList=eS ops.toList j i):∀(fuel:Nat) (c:Array Bool) (a:Act) (w:World),c.getD i false=true->wpAny P .any b Q fuel c a w->wpAny P .any ops Q fuel c a w:=by
 have l:∀c:Array Bool,c.getD i false=true->Region.ready .any ops c=[]->Region.ready .any b c=[]:=λc d g=>by refine List.eq_nil_iff_forall_not_mem.2 λk e=> ?_;have:=(LS f).1 e;grind
 have m:∀c:Array Bool,c.getD i false=true->Region.ready .any b c=[]->Region.ready .any ops c=[]:=λc d g=>by refine List.eq_nil_iff_forall_not_mem.2 λk e=> ?_;have:=(LS f).2 e (.inr d);grind
 intro fuel
 induction fuel with
 | zero=>exact λc a w d h=>⟨m c d h.1,h.2⟩
 | succ fuel n=>intro c a w d h;refine ⟨λg=>h.1 (l c d g),λk e=> ?_⟩;exact wpOp_mono (λa w h=>n _ a w (getD_set_true d) h) (C4 f (h.2 k ((LS f).2 e (.inr d))))
end
section
variable {C:Ctx} {L:List Oper} {mok:List Nat} {n:Nat} {lv0:Nat->Prop} {β0:Nat->Nat} {a0:Act} {h0:Hp} {w0:World} {done c:List Nat} {f:Array Bool} {β:Nat->Nat} {s:St} {a:Act} {h:Hp} {w:World} {i j:Nat}
theorem H3 {k:Nat} (b:k≠j):(eS L j i)[k]? =L[k]?:=by rw [Es];grind
theorem PN (k:Nat) {o:Oper}:(eS L j i)[k]? =some o->∃p,L[k]? =some p/\o.dst=p.dst/\o.op=p.op/\o.guard=p.guard:=by rw [Es];grind
theorem n9 (k:Nat) {p:Oper} (h:L[k]? =some p):∃o,(eS L j i)[k]? =some o/\o.dst=p.dst/\o.op=p.op/\o.guard=p.guard:=by rw [Es,h];grind
theorem J6 :∀(m:Nat) (o:Oper),qE (eS L j i) m o=qE L m o
 | 0,_=>rfl
 | m+1,o=>by
  unfold qE;cases o.guard with
  | none=>rfl
  | some g=>
   obtain ⟨q,b⟩:=g;dsimp only;rw [nJ,nJ];cases e:L[q]? with
   | none=>
    have:(eS L j i)[q]? =none:=by rw [Es,e];rfl
    rw [this]
   | some p=>
    obtain ⟨d,k,l,_,r⟩:=n9 (i:=i) (j:=j) q e;rw [k];dsimp only;have:∀m,qE L m d=qE L m p:=λm=>by cases m<;>simp [qE,r]
    rw [J6 m d,this,l]
theorem J7 {aS:List Nat} {o p:Oper} (b:o.dst=p.dst) (d:o.op=p.op) (k:Nat):cP aS o k↔cP aS p k:=by unfold cP mT;rw [b,d]
theorem Ml {b:List Oper} {e rows:List (List Nat)}:∀ {done:List Nat},uW b e L rows done=true->∀k∈done,∀o,L[k]? =some o->ig e k o b 0=false->dB L rows k o=true/\ig rows k o L 0=false
 | [],_,k,hk,_,_,_=>by cases hk
 | q::r,h,k,hk,o,d,m=>by
  unfold uW at h;obtain ⟨g,l⟩:=fy h;rcases List.mem_cons.1 hk with rfl | hk
  ·rw [nJ,d] at g;grind
  ·exact Ml l k hk o d m
theorem D9 {rows:List (List Nat)} {i:Nat} {done:List Nat}:∀ {m:Nat},uV rows i done m=true->∀k,k<m->k∉done->k≠i->i∈mn rows k
 | 0,_,k,q,_,_=>by omega
 | m+1,h,k,q,d,g=>by
  unfold uV at h;obtain ⟨b,p⟩:=fy h;by_cases e:k=m
  ·subst e;have l:has done k=false:=by
    cases e:has done k with
    | false=>rfl
    | true=>exact absurd ((sm _ _).1 e) d
   have o:Nat.beq k i=false:=by
    cases e:Nat.beq k i with
    | false=>rfl
    | true=>exact absurd (Nat.eq_of_beq_eq_true e) g
   rw [l,o] at b;exact (sm _ _).1 b
  ·exact D9 p k (by omega) d g
theorem H6 (l:nZ C L mok n lv0 β0 a0 h0 w0 done c f β s a h w) (P:j∉done) (Q:uW L (bE L []) (eS L j i) (bE (eS L j i) []) done=true):
  nZ C (eS L j i) mok n lv0 β0 a0 h0 w0 done c f β s a h w:=by
 have m:∀q,q∈done->(eS L j i)[q]? =L[q]?:=λq r=>H3 λe=>P (e▸r);have N:lV (eS L j i) done c=lV L done c:=funext λt=>propext ⟨λh q o b k g=>h q o b k ((m q b).trans g),λh q o b k g=>h q o b k ((m q b).symm.trans g)⟩;have O:ss (eS L j i) done=ss L done:=funext λt=>propext ⟨λ⟨q,o,b,k,g⟩=>⟨q,o,b,(m q b).symm.trans k,g⟩,λ⟨q,o,b,k,g⟩=>⟨q,o,b,(m q b).trans k,g⟩⟩;have E:q8 C (eS L j i) done=q8 C L done:=funext λt=>propext ⟨λ⟨q,o,b,k,g⟩=>by
   obtain ⟨p,u,v,y,_⟩:=PN q k;exact ⟨q,p,b,u,(J7 v y t).1 g⟩,λ⟨q,o,b,k,g⟩=>by
   obtain ⟨p,u,v,y,_⟩:=n9 (i:=i) (j:=j) q k;exact ⟨q,p,b,u,(J7 v y t).2 g⟩⟩
 have D:iq C (eS L j i) done c=iq C L done c:=funext λt=>propext (by
  unfold iq;rw [E];grind)
 have A:∀X:List Nat,(∀q∈X,q∈done)->vn L (· ∈X)->vn (eS L j i) (· ∈X):=λX K M q o z r=>M q o ((m q (K q r)).symm.trans z) r;have R:∀d:List Nat,(∀q∈d,q∈done)->vv L d->vv (eS L j i) d:=by
  intro d
  induction d with
  | nil=>intro _ _;trivial
  | cons q d T=>intro B F;exact ⟨λo z=>F.1 o ((m q (B q (List.mem_cons_self ..))).symm.trans z),T (λx S=>B x (List.mem_cons_of_mem _ S)) F.2⟩
 refine ⟨by rw [E8];exact l.As,l.Ar,l.A9,l.jL,λq r=>by rw [E8];exact l.su q r,A c l.jL l.rn,A done (λ_ h=>h) l.lL,R done (λ_ h=>h) l.tc,?_,λq o b k g=> ?_,?_⟩
 ·rw [N,D,O,E];exact l.rr
 ·have J:=(m q b).symm.trans g;obtain ⟨f1,f2,f3,G⟩:=l.facts q o b k J;obtain ⟨H,I⟩:=Ml Q q b o g f3;refine ⟨?_,H,I,G⟩;unfold nY at*;rw [E8,J6];exact f1
 ·rw [AL,D];exact l.wg
end
theorem PO {l m:List Nat} (b:m.Nodup) (h:l.Nodup) (c:∀x∈l,x∈m):l.length<=m.length:=by
 induction l generalizing m with
 | nil=>simp
 | cons a l i=>obtain ⟨f,g⟩:=List.nodup_cons.1 h;have j:=c a (List.mem_cons_self ..);have:=i (m:=m.erase a) (b.erase a) g λx d=>(b.mem_erase_iff).2 ⟨λe=>f (e▸d),c x (List.mem_cons_of_mem _ d)⟩;grind
theorem H9 {C:Ctx} {L:List Oper} {u:List Nat} {n:Nat} {r:Nat->Prop} {z:Nat->Nat} {a0:Act} {l:Hp} {v:World} {K:St->Hp->Prop} {Q:Exit->Act->World->Prop} {done ls:List Nat} {F:Array Bool} {x:Nat->Nat} {s:St} {a:Act} {h:Hp} {w:World}
  (q:nZ C L u n r z a0 l v done ls F x s a h w) (D:∀j,j<L.length->j∈done) (o:∀j∈done,j∈ls) (E:K s h)
  (B:∀g f y d i,K g f->RR n (λ_=>True) (λ_=>True) (λ_=>True) (λ_=>False) y g d f i->gR (bW L) u r z a0 l v (cO g) y d f i->Q .normal d i):Q .normal a w:=by
 have A:∀k,¬q8 C L done k:=λk ⟨j,p,b,c,_⟩=>b (D j (List.getElem?_eq_some_iff.1 c).1);have m:∀k,True↔iq C L done ls k:=λk=>⟨λ_=>⟨λj p b c _=>absurd (o j b) c,A k⟩,λ_=>trivial⟩;exact B s h x a w E (q.rr.congr (λt=>⟨λ_ j p b c _=>absurd (o j b) c,λ_=>trivial⟩) m (λ_ _=>trivial) (λ_ e=>e.elim)) (q.wg.mono (λ_ e=>e) (λ_ e=>e) (λ_ e=>e) (λk e=>⟨e.1,(m k).1 trivial⟩))
theorem Za {C:Ctx} (ok:C.tb.Ok C.P) {mok:List Nat} {n:Nat} {lv0:Nat->Prop} {β0:Nat->Nat} {a0:Act} {h0:Hp} {w0:World} {K:St->Hp->Prop} {Q:Exit->Act->World->Prop}:
  ∀(A:jC) (c:Array Oper) (done:List Nat) (last:Option Nat),(bW c.toList).Nodup->(∀d∈bW c.toList,d<n)->oJ C.tb C.aS A c.toList done last=true->done.Nodup->
  (∀s' S J D G,K s' S->RR n (λ_=>True) (λ_=>True) (λ_=>True) (λ_=>False) J s' D S G->gR (bW c.toList) mok lv0 β0 a0 h0 w0 (cO s') J D S G->Q .normal D G)->
  ∀(fuel:Nat) (l:List Nat) (g:Array Bool) (v:Nat->Nat) (s:St) (a:Act) (h:Hp) (w:World),nZ C c.toList mok n lv0 β0 a0 h0 w0 done l g v s a h w->wb C mok K A c.toList s h->c.toList.length<=fuel+l.length->
   wpAny C.P .any c Q fuel g a w:=by
 intro A
 induction A with
 | rg R=>
  intro c done last hnd F hp hdn hQ fuel l g v s a h w b hv t;unfold oJ at hp;obtain ⟨b4,hp⟩:=fy hp;have b4:=Nat.eq_of_beq_eq_true b4;have H:∀dE lE,vf C.tb C.aS c.toList (bE c.toList []) R done last=(dE,lE)->∀j,j<c.toList.length->j∈dE:=λdE lE B j u=>by
   obtain ⟨Z,M,_⟩:=Lv hp B;have a8:=Mk hp;refine zH (M hdn) (λx r=> ?_) ?_ u
   ·rcases (Z x).1 r with h1 | h1
    ·exact b.su x h1
    grind
   ·have h1:(done++R.map (·.1)).Nodup:=List.nodup_append.2 ⟨hdn,a8.1,λx r y hy e=>(a8.2 y hy).1 (e▸r)⟩;have z:=PO (M hdn) h1 λx r=>by rw [List.mem_append] at r;exact (Z x).2 r
    grind
  cases B:vf C.tb C.aS c.toList (bE c.toList []) R done last with
  | mk dE lE=>
   have H:=H dE lE B;refine Mj (mok:=mok) (K0:=K) ok rfl hnd F (dE:=dE) (lE:=lE) (λj u O=>absurd (H j u) O) ?_ fuel R done l g last v s a h w b hp B hv t;clear b hv t;intro fuel
   induction fuel with
   | zero=>intro l g v s a h w b hv t;have hl:∀j,j<c.toList.length->j∈l:=λj u=>zH b.A9 (λx r=>b.su x (b.jL x r)) (by omega) u;refine ⟨List.eq_nil_iff_forall_not_mem.2 λk m=> ?_,H9 b H (λj u=>hl j (b.su j u)) hv hQ⟩;obtain ⟨h1,o,U,_⟩:=(zk rfl b).1 m;grind
   | succ fuel Y=>
    intro l g v s a h w b hv t;refine ⟨λhr=>H9 b H (λj u=>Classical.byContradiction λe=> ?_) hv hQ,λj u=> ?_⟩
    ·obtain ⟨i,h1,z,T⟩:=Oy b.tc ⟨j,u,e⟩;have L:=List.getElem?_eq_getElem (b.su i h1);have:i∈Region.ready .any c g:=(zk rfl b).2 ⟨z,_,L,T _ L⟩;grind
    ·obtain ⟨h1,o,U,z⟩:=(zk rfl b).1 u;exact C2 ok rfl hnd b U (H j (List.getElem?_eq_some_iff.1 U).1) h1 z _ Q λJ D G X=>Y (j::l) _ J s D h G X hv (by grind)
 | r2 pre i j x y c9 d0=>
  intro c done last hnd F hp hdn hQ fuel l g v s a h w b hv t;unfold oJ at hp;obtain ⟨b5,hp⟩:=fy hp;cases B:vf C.tb C.aS c.toList (bE c.toList []) pre done last with
  | mk dE lE=>
   rw [B] at hp;dsimp only at hp;obtain ⟨f,hp⟩:=fy hp;obtain ⟨c6,c7⟩:=fy hp;obtain ⟨Z,M,_⟩:=Lv b5 B;unfold Jp at f;cases I:Nat.beq i j with
   | true=>grind
   | false=>
    rw [I] at f;have I:i≠j:=λe=>by rw [e] at I;simp at I
    simp only [cond_false,nJ] at f;cases V:c.toList[i]? with
    | none=>grind
    | some o=>
     cases c5:c.toList[j]? with
     | none=>grind
     | some p=>
      rw [V,c5] at f;dsimp only at f;cases E:has dE i with
      | true=>grind
      | false=>
       cases N:has dE j with
       | true=>grind
       | false=>
        rw [E,N] at f;simp only [cond_false] at f;have E:=zh E;have N:=zh N;obtain ⟨c8,f⟩:=fy f;obtain ⟨d2,f⟩:=fy f;obtain ⟨b3,f⟩:=fy f;obtain ⟨b7,f⟩:=fy f;obtain ⟨d1,f⟩:=fy f;obtain ⟨c0,c1⟩:=fy f;refine Mj (mok:=mok) ok rfl hnd F (dE:=dE) (lE:=lE) (λk m O e c3=> ?_) ?_ fuel pre done l g last v s a h w b b5 B hv t
        ·subst c3;by_cases b0:k=e
         ·subst b0;exact absurd ((sm _ _).1 (fy b3).1) O
         ·exact yW (D9 (fy b3).2 k m O b0)
        ·clear b hv t;have b9:i<c.toList.length:=(List.getElem?_eq_some_iff.1 V).1;intro fuel
         induction fuel with
         | zero=>intro l g v s a h w b hv t;exact absurd (b.jL i (zH b.A9 (λx r=>b.su x (b.jL x r)) (by omega) b9)) E
         | succ fuel Y=>
          intro l g v s a h w b hv t;have s1:=H6 b N c0;have s2:=H6 b E c1;have kx:=c9 (eS c.toList j i).toArray dE lE (by simpa [AL] using hnd) (by simpa [AL] using F) c6 (M hdn) (by simpa [AL] using hQ) (fuel+1) l g v s a h w s1 hv.1 (by simpa [E8] using t);have ky:=d0 (eS c.toList i j).toArray dE lE (by simpa [AL] using hnd) (by simpa [AL] using F) c7 (M hdn) (by simpa [AL] using hQ) (fuel+1) l g v s a h w s2 hv.2 (by simpa [E8] using t);have b6:∀ {k:Nat},k∈Region.ready .any c g->(g.setIfInBounds k true).getD k false=true:=λ{k} m=>by
           have h0:=(mem_ready.1 m).1;have F:k<g.size:=by grind
           simp [F]
          refine ⟨λhr=> ?_,λk m=> ?_⟩
          ·exfalso;by_cases r:∃j∈dE,j∉l
           ·obtain ⟨q,h1,z,T⟩:=Oy b.tc r;have L:=List.getElem?_eq_getElem (b.su q h1);have:q∈Region.ready .any c g:=(zk rfl b).2 ⟨z,_,L,T _ L⟩;grind
           ·have:i∈Region.ready .any c g:=(zk rfl b).2 ⟨λe=>E (b.jL i e),o,V,λk m=>Classical.byContradiction λe=>r ⟨k,E1 c8 k m,e⟩⟩;grind
          ·obtain ⟨h1,q,W,z⟩:=(zk rfl b).1 m;by_cases a9:k∈dE
           ·exact C2 ok rfl hnd b W a9 h1 z _ Q λJ D G X=>Y (k::l) _ J s D h G X hv (by grind)
           ·by_cases b1:k=i
            ·subst b1;exact wpOp_mono (λa w h=>KX rfl _ _ a w (b6 m) h) (C4 rfl (kx.2 k ((LS rfl).2 m (.inl I))))
            ·by_cases b2:k=j
             ·subst b2;exact wpOp_mono (λa w h=>KX rfl _ _ a w (b6 m) h) (C4 rfl (ky.2 k ((LS rfl).2 m (.inl λe=>I e.symm))))
             ·exfalso;have c2:=(List.getElem?_eq_some_iff.1 W).1;have b8:=yW (D9 b7 k c2 a9 b1) (· ∈l) s1.rn λo' c4=>by rw [H3 b2,W] at c4;grind
              exact E (b.jL i b8)
 | _=>intro c done last _ _ hp;cases hp
theorem PQ {C:Ctx} (ok:C.tb.Ok C.P) {b:Array Oper} {mok:List Nat} {n:Nat} {A:jC} {m:Nat->Nat} {s:St} {a:Act} {h:Hp} {w:World} {K:St->Hp->Prop} {Q:Exit->Act->World->Prop} {id:Nat}
  (q:nodup (bW b.toList)=true) (hp:oJ C.tb C.aS A b.toList [] none=true) (F:∀d∈bW b.toList,d<n) (z:Rel n m s a h w) (hv:wb C mok K A b.toList (s.lM (lq C.aS b.toList)) h)
  (D:∀g f p c j,K g f->Rel n p g.clean c f j->gR (bW b.toList) mok (cO s) m a h w (cO g) p c f j->Q .normal c j):(Code.region id b true).wp C.P Q a w:=by
 have G:=yk q;refine wp_region_any ok.mixed ?_;have B:Step h h w {w with drawn:=w.drawn+1}:=⟨z.sub,Nat.le_refl _,λ_ _ e=>⟨rfl,e⟩,rfl,rfl,rfl⟩;have I:=(z.step B).start (lq C.aS b.toList);have x:∀k,q8 C b.toList [] k↔k∈lq C.aS b.toList:=λk=>by rw [J5];exact ⟨λ⟨i,o,_,r,u⟩=>⟨i,o,r,u⟩,λ⟨i,o,r,u⟩=>⟨i,o,by simp,r,u⟩⟩
 have v:∀k,iq C b.toList [] [] k↔k∉lq C.aS b.toList:=λk=>by rw [<-x];exact ⟨λe=>e.2,λe=>⟨λi o q=>absurd q List.not_mem_nil,e⟩⟩
 refine Za (mok:=mok) (n:=n) (lv0:=cO s) (β0:=m) (a0:=a) (h0:=h) (w0:=w) (K:=K) ok A b [] none G F hp .nil (λg f p c j E H J=>D g f p c j E H.clean J) b.size [] _ m (s.lM (lq C.aS b.toList)) a h _
  ⟨by simp,λi=> ?_,.nil,λi e=>absurd e List.not_mem_nil,λi e=>absurd e List.not_mem_nil,λi o _ e=>absurd e List.not_mem_nil,λi o _ e=>absurd e List.not_mem_nil,trivial,?_,λi o e=>absurd e List.not_mem_nil,?_⟩ hv (by simp)
 ·by_cases y:i<b.size
  ·simp [y]
  ·simp [y]
 ·exact I.congr (λt=>⟨λ_=>trivial,λ_ i o e=>absurd e List.not_mem_nil⟩) v (λ_ e=>e.elim) (λk e=>(x k).1 e)
 ·exact (gR.step (lv:=cO s) B).mono (λ_ e=>e) (λ_ e=>e) (λ_ e=>e) (λk e=>KR (l:=lq C.aS b.toList) ⟨e.1,(v k).1 e.2⟩)
def pK :Ex->Exit
 | .gE=>.normal
 | .ret=>.ret
 | .ext i=>.exit i
 | .kL i=>.goto i
theorem Mm {p:Nat->Prop}:(∃n,p n)->∃n,p n/\∀m,p m->n<=m:=by
 rintro ⟨n,a⟩
 induction n using Nat.strongRecOn with
 | _ n b=>grind
theorem Wm {P:Program} {c:Code} {Q:Exit->Act->World->Prop} {a:Act} {w:World} (J:Nat->Act->World->Prop) (g:∃n,J n a w)
  (round:∀n a w,J n a w->c.wp P (Exit.then (λd f=>∃m,m<n/\J m d f) Q) a w):(Code.loop c).wp P Q a w:=by
 classical
 let b:Act->World->Nat:=λa w=>if h:∃n,J n a w then Classical.choose (Mm h) else 0
 have j:∀a w,(h:∃n,J n a w)->J (b a w) a w/\∀m,J m a w->b a w<=m:=λa w h=>by have:=Classical.choose_spec (Mm h);simp only [b,dif_pos h];exact this
 refine wp_loop (λa w=>∃n,J n a w) b g λa w i=> ?_;refine wp_mono (round (b a w) a w (j a w i).1) λe d f k=> ?_;grind
section
variable {n:Nat} {β:Nat->Nat} {s:St} {a:Act} {h:Hp} {w:World}
structure EF (s s' s2:St) (a':Act) (n:Nat) (l mm:List Nat):Prop where
 f:∀t v c,s2.f t=some (v,c)->c=[]/\((s.f t=some (v,[])/\t∉l/\∀k o,(v=.box k o\/v=.dV k o)->k∉l)\/(∃x,v=.v x/\a'.eval (.tmp t)=x/\t<n))
 m:∀k cs,s2.m k=some cs->(s.m k=some cs/\k∉mm)\/s'.m k=some cs
theorem VE {l B:List Nat} {u:Nat->Nat} {G s2:St} {z:Act} {A:Hp} {C:World} (r:Rel n β s a h w) (b:gR l B (cO s) β a h w (cO G) u z A C) (F:Rel n u G z A C) (j:EF s G s2 z n l B):
  Rel n u s2 z A C/\gR l B (cO s) β a h w (cO s2) u z A C:=by
 have E:∀k g,s.m k=some g->k∉B->u k=β k/\β k<w.heap.size/\A (β k)=none/\∃H,C.heap[β k]? =some (.cells g.toArray H (0,0)):=by intro k g e O;obtain ⟨h1,H,i⟩:=r.box k g e trivial;have P:∀d∈B,cO s d->β d≠β k:=λd R S y=>O (by rw [r.inj k d (by simp [e]) S.1 trivial trivial y.symm];exact R);refine ⟨b.beta k (.inr O),ic i,b.xp _ (ic i) h1 P,H,?_⟩;rw [b.bK _ (ic i) h1 P];exact i
 have Q:∀k,G.m k≠none->(s.m k≠none/\u k=β k)\/w.heap.size<=u k:=λk e=>(b.fresh k ⟨e,trivial⟩).imp (λe=>⟨e.1.1,e.2⟩) id;refine ⟨⟨F.sz,F.sub,λt v c e=> ?_,λt v c e p hp=> ?_,λt v c e _ _=> ?_,λt v c e _ N=> ?_,λk g e _=> ?_,λk d e y _ _ q=> ?_,λ_ e=>e.elim,λ_ e=>e.elim⟩,?_⟩
 ·obtain ⟨_,h1 | ⟨x,_,_,h1⟩⟩:=j.f t v c e
  ·exact r.lt t v [] h1.1
  ·exact h1
 ·rw [(j.f t v c e).1] at hp;cases hp
 ·refine ⟨?_,λ_ _ _=>trivial⟩;obtain ⟨_,⟨h1,i,M⟩ | ⟨x,rfl,h1,_⟩⟩:=j.f t v c e
  ·rw [b.tmp t i,(r.cur t v [] h1 trivial (bI _)).1];cases v with
   | v x=>rfl
   | box k o=>simp only [LVal,b.beta k (.inl (M k o (.inl rfl)))]
   | dV k o=>simp only [LVal,b.beta k (.inl (M k o (.inr rfl)))]
  ·exact h1
 ·rw [(j.f t v c e).1] at N;exact absurd (bI _) N
 ·rcases j.m k g e with ⟨h1,i⟩ | h1
  ·grind
  ·exact F.box k g h1 trivial
 ·obtain ⟨g,e⟩:=Option.ne_none_iff_exists'.1 e;obtain ⟨D,y⟩:=Option.ne_none_iff_exists'.1 y;rcases j.m k g e with ⟨h1,i⟩ | h1
  ·obtain ⟨L,T,_⟩:=E k g h1 i;rcases j.m d D y with ⟨h1',K⟩ | h1'
   ·obtain ⟨I,_⟩:=E d D h1' K;rw [L,I] at q;exact r.inj k d (by simp [h1]) (by simp [h1']) trivial trivial q
   ·rcases Q d (by simp [h1']) with ⟨e3,J⟩ | e3
    ·rw [L,J] at q;exact r.inj k d (by simp [h1]) e3 trivial trivial q
    omega
  ·rcases j.m d D y with ⟨h1',K⟩ | h1'
   ·obtain ⟨I,U,_⟩:=E d D h1' K;rcases Q k (by simp [h1]) with ⟨e3,J⟩ | e3
    ·rw [I,J] at q;exact r.inj k d e3 (by simp [h1']) trivial trivial q
    omega
   ·exact F.inj k d (by simp [h1]) (by simp [h1']) trivial trivial q
 ·refine ⟨b.tmp,b.beta,b.size,b.xp,b.bK,λk e=> ?_,b.os,b.tape,b.output,b.defers⟩;obtain ⟨g,e⟩:=Option.ne_none_iff_exists'.1 e.1;rcases j.m k g e with ⟨h1,i⟩ | h1
  ·exact .inl ⟨⟨by simp [h1],trivial⟩,(E k g h1 i).1⟩
  ·exact b.fresh k ⟨by simp [h1],trivial⟩
def Z9 :Option Ty->Shape
 | some e=>e.sh
 | none=>uA
theorem Ib (tb:Tb) (t:Nat):dN tb t=Z9 (tb.ty t):=by unfold dN Z9;grind
theorem TT {P:Program} {tb:Tb} (ok:tb.Ok P) {t:Nat} (c:zE tb t=false):∀(x:(dN tb t).T) (b:Array Value),(dN tb t).enc x≠ .agg b:=by
 rw [Ib];unfold zE at c;cases d:tb.ty t with
 | none=>intro x b e;cases e
 | some e=>rw [d] at c;intro x b;exact ((ok.leaf t e d c).2 x).2 b
theorem zg {tb:Tb} {t:Nat} {v:Value} {K:(dN tb t).T->Prop} (h:uI tb t v K):∃x,(dN tb t).enc x=v/\K x:=by
 unfold uI at h;cases b:Ao tb t with
 | true=>rw [b] at h;exact h
 | false=>
  rw [b] at h;simp only [cond_false] at h;split at h
  ·rename_i x c;exact ⟨x,(dN tb t).ok v x c,h⟩
  ·exact h.elim
theorem Mn {P:Program} {tb:Tb} (ok:tb.Ok P) {t:Nat} {c:List Value} {v:Value} {x:(dN tb t).T} (b:zb tb t c=some v) (hv:(dN tb t).enc x=v):bp ((dN tb t).enc x)=c:=by
 rw [hv];unfold zb at b;cases d:zE tb t with
 | true=>rw [d] at b;cases b;rfl
 | false=>
  rw [d] at b;simp only [cond_false] at b;split at b
  ·cases b;have f:∀c,v≠ .agg c:=λc e=>TT ok d x c (hv.trans e);cases v<;>first | rfl | grind
  ·cases b
theorem J8 {P:Program} {tb:Tb} (ok:tb.Ok P) {l B:List Nat} {G:Nat->Nat} {o s2:St} {p:Act} {D:Hp} {F:World} (z:Rel n G o p D F) {j:J} {K:(dN tb j.t).T->Prop} (b:zF tb o j K)
  (g:EF s o s2 p n l B):∃x,K x/\EF s o (w8 tb j x s2) p n l B:=by
 unfold zF at b;cases d:j.O1 with
 | true=>
  rw [d] at b;simp only [cond_true] at b;split at b
  ·rename_i r H;split at b
   ·rename_i v hv
    ·obtain ⟨x,q,b⟩:=zg b;refine ⟨x,b,?_⟩;have E:=Mn ok hv q;unfold w8;rw [d];simp only [cond_true,E];refine ⟨g.f,λk C e=> ?_⟩;by_cases y:k=j.i
     ·subst y;rw [yi] at e;grind
     ·rw [xh _ _ y] at e;exact g.m k C e
   ·exact b.elim
  ·exact b.elim
 | false=>
  rw [d] at b;simp only [cond_false] at b;split at b
  ·rename_i v hv
   ·obtain ⟨x,q,b⟩:=zg b;refine ⟨x,b,?_⟩;unfold w8;rw [d];simp only [cond_false];rw [q];refine ⟨λt u c e=> ?_,λk r e=>g.m k r (by rwa [nx] at e)⟩;by_cases A:t=j.i
    ·subst A;rw [Er] at e;cases e;exact ⟨rfl,.inr ⟨v,rfl,(z.cur j.i _ [] hv trivial (bI _)).1,z.lt _ _ _ hv⟩⟩
    ·rw [tx _ _ _ A] at e;exact g.f t u c e
  ·exact b.elim
theorem Mo {P:Program} {tb:Tb} (ok:tb.Ok P) {l e:List Nat} {q:Nat->Nat} {s':St} {a':Act} {f:Hp} {p:World} (d:Rel n q s' a' f p):∀ {js:List J} {s2:St} {K:pC tb js->Prop},oj tb js s' K->
  EF s s' s2 a' n l e->∃x,K x/\EF s s' (pa tb js x s2) a' n l e
 | [],s2,K,b,c=>⟨(),b,c⟩
 | [j],s2,K,b,c=>J8 ok d b c
 | j::o::js,s2,K,b,c=>by obtain ⟨x,k,g⟩:=J8 ok d b c;obtain ⟨y,m,i⟩:=Mo ok d (js:=o::js) k g;exact ⟨(x,y),m,i⟩
theorem Zc (m:Rel n β s a h w) {l f:List Nat} {s':St} {a':Act}:EF s s' (s.forget l f) a' n l f:=by
 refine ⟨λt v c e=> ?_,λk o e=> ?_⟩
 ·simp only [St.forget] at e;cases d:has l t with
  | true=>simp [d] at e
  | false=>
   simp only [d,cond_false] at e;obtain ⟨g,i⟩:=ns e;have j:c=[]:=by
    cases c with
    | nil=>rfl
    | cons p c=>exact (m.chain t v _ g p (List.mem_cons_self ..)).elim
   subst j;exact ⟨rfl,.inl ⟨g,zh d,i⟩⟩
 ·simp only [St.forget] at e;cases b:has f k with
  | true=>simp [b] at e
  | false=>simp only [b,cond_false] at e;exact .inl ⟨e,zh b⟩
theorem wF {P:Program} {tb:Tb} (ok:tb.Ok P) {l mm:List Nat} {e:Nat->Nat} {s':St} {a':Act} {b:Hp} {d:World} (f:Rel n β s a h w) (k:gR l mm (cO s) β a h w (cO s') e a' b d) (g:Rel n e s' a' b d)
  {c:List J} {K:pC tb c->Prop} (i:oj tb c s' K):
  ∃x,K x/\Rel n e (pa tb c x (s.forget l mm)) a' b d/\gR l mm (cO s) β a h w (cO (pa tb c x (s.forget l mm))) e a' b d:=by
 obtain ⟨x,p,j⟩:=Mo ok g i (Zc (s':=s') (a':=a') f);obtain ⟨m,o⟩:=VE f k g j;grind
end
theorem TX {n:Nat} {Q:Nat->Nat} {s:St} {a:Act} {h:Hp} {w:World} {l L:List Nat} {r:Nat->Nat} {u:St} {C:Act} {z:Hp} {E:World} {k:Nat} {K:St->Hp->Prop} (hk:k∈L) (g:gR l L (cO s) Q a h w (cO u) r C z E) (d:Rel n r u C z E) (hp:Bl k u z K):
  ∃s2 q,K s2 q/\Rel n r s2 C q E/\gR l L (cO s) Q a h w (cO s2) r C q E:=by
 unfold Bl at hp;split at hp
 ·rename_i k' off F M I;obtain ⟨A,O⟩:=kq hp;obtain ⟨q,a8⟩:=kq O;clear hp O;have A:=Nat.eq_of_beq_eq_true A;have q:=Nat.eq_of_beq_eq_true q;subst A q;obtain ⟨X,G,hw⟩:=d.box k F I trivial;have J:∀x,(z.set (r k) (.cells F.toArray G (0,0))) x=if x=r k then some (.cells F.toArray G (0,0)) else z x:=λx=>rfl
  have W:∀i y,cond (Nat.beq i k) none (u.m i)=some y->i≠k/\u.m i=some y:=λi y e=>by grind
  have B:∀t v c,cond (Nat.beq t k) (some (LV.v (.pointer (some ⟨r k,0,none⟩)),([]:aZ))) (u.f t)=some (v,c)->(t=k/\v=LV.v (.pointer (some ⟨r k,0,none⟩))/\c=[])\/u.f t=some (v,c):=λt v c e=>by
   by_cases H:t=k
   ·grind
   ·rw [pV H] at e;exact .inr e
  refine ⟨_,_,a8 (r k) G X,⟨d.sz,λb o e=> ?_,λt v c e=> ?_,λt v c e p P=> ?_,λt v c e _ N=> ?_,λt v c e _ N=> ?_,λi y e _=> ?_,λi j e D _ _ U=> ?_,λ_ e=>e.elim,λ_ e=>e.elim⟩,?_⟩
  ·rw [J] at e;split at e
   ·grind
   ·exact d.sub b o e
  ·rcases B t v c e with ⟨rfl,_,_⟩ | e
   ·exact d.lt t _ _ M
   ·exact d.lt t v c e
  ·rcases B t v c e with ⟨rfl,_,rfl⟩ | e
   ·cases P
   ·exact d.chain t v c e p P
  ·have V:holds u c:=by
    have:c=[]:=by
     rcases B t v c e with ⟨_,_,h⟩ | e
     ·exact h
     ·cases c with
      | nil=>rfl
      | cons p c=>exact (d.chain t v _ e p (List.mem_cons_self ..)).elim
    subst this;exact bI _
   rcases B t v c e with ⟨rfl,rfl,rfl⟩ | e
   ·refine ⟨?_,λ_ _ _=>trivial⟩;exact (d.cur t _ _ M trivial (bI _)).1
   ·exact ⟨(d.cur t v c e trivial V).1,λ_ _ _=>trivial⟩
  ·have:c=[]:=by
    rcases B t v c e with ⟨_,_,h⟩ | e
    ·exact h
    ·cases c with
     | nil=>rfl
     | cons p c=>exact (d.chain t v _ e p (List.mem_cons_self ..)).elim
   subst this;exact absurd (bI _) N
  ·obtain ⟨A,q⟩:=W i y e;obtain ⟨S,R,T⟩:=d.box i y q trivial;refine ⟨?_,R,T⟩;rw [J,if_neg]
   ·exact S
   ·intro D;exact A (d.inj i k (by simp [q]) (by simp [I]) trivial trivial D)
  ·obtain ⟨ci,e⟩:=Option.ne_none_iff_exists'.1 e;obtain ⟨cj,D⟩:=Option.ne_none_iff_exists'.1 D;exact d.inj i j (by grind) (by grind) trivial trivial U
  ·refine ⟨g.tmp,g.beta,g.size,λb hb Y Z=> ?_,g.bK,λi H=> ?_,g.os,g.tape,g.output,g.defers⟩
   ·rw [J,if_neg]
    ·exact g.xp b hb Y Z
    ·rintro rfl;rcases g.fresh k ⟨by simp [I],trivial⟩ with ⟨e1,e2⟩ | e1
     ·grind
     ·omega
   ·obtain ⟨ci,e⟩:=Option.ne_none_iff_exists'.1 H.1;exact g.fresh i ⟨by grind,trivial⟩
 ·exact hp.elim
theorem jq {x y:List Nat} {d:Nat}:d∈app x y↔d∈x\/d∈y:=by rw [sc,List.mem_append]
theorem qq {a:Type} {c:Bool} {x:Option a} {y:a} (e:cond c x none=some y):c=true/\x=some y:=by grind
theorem J9 {l:Nat}:∀ {c:Code},lN c l=true->findLabel c l=none:=by
 intro c
 induction c with
 | seq a b g h=>
  intro e;simp only [lN] at e;cases d:lN a l with
  | false=>grind
  | true=>rw [d] at e;simp only [findLabel,g d];exact h e
 | label i=>
  intro e;simp only [lN] at e;by_cases f:i=l
  ·subst f;simp at e
  ·simp [findLabel,f]
 | _=>intro _;rfl
theorem Ka {x y:Code} {l:Nat} (b:∀a,x≠ .label a):re (.seq x y) l=cond (lN x l) (re y l) none:=by cases x<;>first | rfl | grind
theorem Rt {C:Ctx} {x y:Code} {l:Nat} {A:jC} {a:List Nat} {s:St} {E:Env} {h:Hp} (c:∀d,x≠ .label d):
  liftM C (.seq x y) (.fr l) A a s E h=liftM C x .full A.fst a s (E.gE λe b=>liftM C y (.fr l) A.snd a e E b) h:=by
 cases x<;>first | rfl | exact absurd rfl (c _)
theorem Rv {C:Ctx} {x y:Code} {l:Nat} {A:jC} {b:List Nat} {s:St} {E:Env} {h:Hp} (f:∀g,x≠ .label g):
  liftM C (.seq x y) (.pr l) A b s E h=match (generalizing:=false) A with
   | .gj _ d e z _=>cond (kS e b) (liftM C x .full .tt b s (E.mM.gE λc a=>
     nW (λ(R:pC C.tb d->Hp->Prop)=>liftM C y (.fr l) z e c (E.Nh l λc a=>oj C.tb d c λx=>R x a) a)
      (λx a=>liftM C y (.rs l) A.snd b (pa C.tb d x (c.forget (eC y) e)) E.mM a)) h) False
   | _=>liftM C x .full A.fst b s (E.mM.gE λc a=>liftM C y (.pr l) A.snd b c E a) h:=by
 cases x<;>first | rfl | exact absurd rfl (f _)
theorem HY {l:Nat} {Q:Exit->Act->World->Prop} {J:Act->World->Prop} {e:Exit} {a:Act} {w:World} (b:Exit.noGoto Q e a w):Exit.jump l J Q e a w:=by cases e<;>first | exact b | exact b.elim
theorem Rx {C:Ctx} {x y:Code} {l:Nat} {A:jC} {a:List Nat} {s:St} {E:Env} {h:Hp} (c:∀b,x≠ .label b):
  liftM C (.seq x y) (.rs l) A a s E h=liftM C y (.rs l) A a s E h:=by
 cases x<;>first | rfl | grind
theorem X5 {l:Nat} {r:Code}:∀ {c:Code},re c l=some r->findLabel c l=some (.seq .skip r):=by
 intro c
 induction c with
 | seq x y g f=>
  intro e;by_cases d:∃a,x=.label a
  ·obtain ⟨a,rfl⟩:=d;obtain ⟨b,e⟩:=qq e;obtain rfl:y=r:=Option.some.inj e;obtain rfl:=Nat.eq_of_beq_eq_true b;simp [findLabel]
  ·rw [Ka (λa e=>d ⟨a,e⟩)] at e;obtain ⟨b,e⟩:=qq e;simp only [findLabel,J9 b];exact f e
 | _=>intro e;simp [re] at e
theorem JE {x y:Code} {l:Nat} (b:∀a,x≠ .label a):nS (.seq x y) l=cond (lN x l) (nS y l) none:=by cases x<;>first | rfl | grind
theorem Ry {C:Ctx} {x y:Code} {l:Nat} {A:jC} {a:List Nat} {s:St} {E:Env} {h:Hp} (c:∀b,x≠ .label b):
  liftM C (.seq x y) (.rz l) A a s E h=liftM C y (.rz l) A a s E h:=by
 cases x<;>first | rfl | grind
theorem Xd {l:Nat} {r:Code}:∀ {c:Code},nS c l=some r->findLabel c l=some (.seq .skip r):=by
 intro c
 induction c with
 | seq x y i f=>
  intro e;by_cases d:∃a,x=.label a
  ·obtain ⟨a,rfl⟩:=d;by_cases b:a=l
   ·subst b;simp only [nS,Nat.beq_refl,cond_true] at e;obtain rfl:y=r:=Option.some.inj e;simp [findLabel]
   ·simp only [nS,pV b,cond_false] at e;have hb:¬((a==l)=true):=λh=>b (by simpa using h);simp only [findLabel,if_neg hb];exact f e
  ·rw [JE (λa e=>d ⟨a,e⟩)] at e;obtain ⟨g,e⟩:=qq e;simp only [findLabel,J9 g];exact f e
 | _=>intro e;simp [nS] at e
def vr (P:Program) (x:Code) (Q:Exit->Act->World->Prop) (c:Code) (a:Act) (w:World):Prop:=
 ∀b k f,∃e d g,Q e d g/\Arrives P (lone (b.at a (.code c:: .inScope x::k)) f w) b k f e d g
def vu (P:Program) (x:Code) (Q:Exit->Act->World->Prop):Exit->Act->World->Prop
 | .goto l,a,w=>∃r,findLabel x l=some r/\vr P x Q r a w
 | e,a,w=>Q e a w
theorem Mp {P:Program} {x c:Code} {Q:Exit->Act->World->Prop} {a:Act} {w:World} (h:c.wp P (vu P x Q) a w):vr P x Q c a w:=by
 intro b k j;obtain ⟨e,g,i,f,d⟩:=h b (.inScope x::k) j;cases e with
 | normal=>exact ⟨.normal,g,i,f,Steps.trans d (.one step_inScope)⟩
 | exit id=>exact ⟨.exit id,g,i,f,λv s=>d v (by simp [exitTo,s])⟩
 | goto l=>
  obtain ⟨r,p,u⟩:=f;have q:gotoIn l (.inScope x::k)=some (.code r:: .inScope x::k):=by simp [gotoIn,p]
  obtain ⟨n,m,y,t,o⟩:=u b k j;exact ⟨n,m,y,t,.of_steps (d _ q) o⟩
 | ret=>exact ⟨_,g,i,f,d⟩
 | panic ch=>exact ⟨_,g,i,f,d⟩
 | outgrown=>exact ⟨_,g,i,f,d⟩
theorem Xe {P:Program} {x:Code} {Q:Exit->Act->World->Prop} {a:Act} {w:World} (h:vr P x Q x a w):(Code.scope x).wp P Q a w:=by intro b k d;obtain ⟨e,c,i,g,f⟩:=h b k d;exact ⟨e,c,i,g,.of_steps (.one step_scope) f⟩
theorem X6 {C:Ctx} (ok:C.tb.Ok C.P) {n:Nat}:∀(c:Code),
  (∀(A:jC) (mok:List Nat) (s:St) (E:Env) (h:Hp),(∀d∈eC c,d<n)->liftM C c .full A mok s E h->∀(G:Nat->Nat) (a:Act) (w:World),Rel n G s a h w->
   ∀Q:Exit->Act->World->Prop,(∀e p j q f o,E e p j->Rel n q p f j o->gR (eC c) mok (cO s) G a h w (cO p) q f j o->Q (pK e) f o)->c.wp C.P Q a w)/\
  (∀l r,re c l=some r->
   (∀(A:jC) (mok:List Nat) (s:St) (E:Env) (h:Hp),(∀d∈eC c,d<n)->liftM C c (.fr l) A mok s E h->∀(G:Nat->Nat) (a:Act) (w:World),Rel n G s a h w->
    ∀Q:Exit->Act->World->Prop,(∀p j q f o,E .gE p j->Rel n q p f j o->gR (eC c) mok (cO s) G a h w (cO p) q f j o->r.wp C.P Q f o)->
    (∀e p j q f o,e≠ .gE->E e p j->Rel n q p f j o->gR (eC c) mok (cO s) G a h w (cO p) q f j o->Q (pK e) f o)->c.wp C.P Q a w)/\
   (∀(A:jC) (mok:List Nat) (s:St) (E:Env) (h:Hp),(∀d∈eC c,d<n)->liftM C c (.rs l) A mok s E h->∀(G:Nat->Nat) (a:Act) (w:World),Rel n G s a h w->
    ∀Q:Exit->Act->World->Prop,(∀e p j q f o,E e p j->Rel n q p f j o->gR (eC c) mok (cO s) G a h w (cO p) q f j o->Q (pK e) f o)->r.wp C.P Q a w)/\
   (∀(A:jC) (mok:List Nat) (s:St) (E:Env) (h:Hp),(∀d∈eC c,d<n)->liftM C c (.pr l) A mok s E h->∀(G:Nat->Nat) (a:Act) (w:World),Rel n G s a h w->
    ∀Q:Exit->Act->World->Prop,(∀e p j q f o,(∀i,e≠ .kL i)->E e p j->Rel n q p f j o->gR (eC c) mok (cO s) G a h w (cO p) q f j o->Q (pK e) f o)->
    c.wp C.P (Exit.jump l (λf o=>r.wp C.P (Exit.noGoto Q) f o) Q) a w))/\
  ∀l r,nS c l=some r->
   ∀(A:jC) (mok:List Nat) (s:St) (E:Env) (h:Hp),(∀d∈eC c,d<n)->liftM C c (.rz l) A mok s E h->∀(G:Nat->Nat) (a:Act) (w:World),Rel n G s a h w->
    ∀Q:Exit->Act->World->Prop,(∀e p j q f o,E e p j->Rel n q p f j o->gR (eC c) mok (cO s) G a h w (cO p) q f j o->Q (pK e) f o)->r.wp C.P Q a w:=by
 intro c
 induction c with
 | skip=>refine ⟨?_,λl r e=>by simp [re] at e,λl r e=>by simp [nS] at e⟩;intro A mok s E h _ hv G a w H Q F;exact wp_skip (F .gE s h G a w hv H (gR.refl _ _))
 | ret=>refine ⟨?_,λl r e=>by simp [re] at e,λl r e=>by simp [nS] at e⟩;intro A mok s E h _ hv G a w H Q F;exact wp_ret (F .ret s h G a w hv H (gR.refl _ _))
 | exit i=>refine ⟨?_,λl r e=>by simp [re] at e,λl r e=>by simp [nS] at e⟩;intro A mok s E h _ hv G a w H Q F;exact wp_exit (F (.ext i) s h G a w hv H (gR.refl _ _))
 | goto i=>refine ⟨?_,λl r e=>by simp [re] at e,λl r e=>by simp [nS] at e⟩;intro A mok s E h _ hv G a w H Q F;exact wp_goto (F (.kL i) s h G a w hv H (gR.refl _ _))
 | label i=>refine ⟨?_,λl r e=>by simp [re] at e,λl r e=>by simp [nS] at e⟩;intro A mok s E h _ hv G a w H Q F;exact wp_label (F .gE s h G a w hv H (gR.refl _ _))
 | region id b8 d2=>
  refine ⟨?_,λl r e=>by simp [re] at e,λl r e=>by simp [nS] at e⟩;intro A mok s E h J hv G a w H Q F;have e0:∀p:St,∀k,cO p.clean k↔cO p k:=λp k=>.rfl;cases d2 with
  | true=>simp only [liftM] at hv;obtain ⟨hp,hv⟩:=kq hv;obtain ⟨h1,hp⟩:=fy hp;exact PQ ok h1 hp J H hv λp j q f o hk B D=>F .gE p.clean j q f o hk B D
  | false=>
   simp only [liftM] at hv;obtain ⟨hp,hv⟩:=kq hv;unfold Az at hp;obtain ⟨h1,hp⟩:=fy hp;have d8:=H.start (lq C.aS b8.toList);have d1:∀g:Bool,(g=false->tj b8.toList=true)->(g=true->(bW b8.toList).Nodup/\yU b8.toList 0=true)->(Code.region id b8 false).wp C.P Q a w:=by
    intro g d6 d7;refine wp_region ?_;have:=KS (n:=n) (mok:=mok) (K:=λp j=>E .gE p.clean j) (Q:=Q) ok g J d6 d7 b8.toList [] G _ a h w rfl (yk h1) hv
     (d8.congr (λ_=>.rfl) (λ_=>.rfl) (λ_ e=>e.elim) (λ_ e=>e)) (λp j q f o hk B D=>F .gE p.clean j q f o hk B.clean
      (D.mono (λ_ e=>e) (λ_ e=>e) (λk e=>KR e) (λ_ e=>e)))
    rw [List.range_eq_range'];simpa using this
   cases c9:tj b8.toList with
   | true=>exact d1 false (λ_=>c9) (λe=>by cases e)
   | false=>rw [c9] at hp;simp only [cond_false] at hp;obtain ⟨M,h3⟩:=fy hp;exact d1 true (λe=>by cases e) (λ_=>⟨yk M,h3⟩)
 | seq x y b5 V=>
  have S:∀d∈eC x,d∈eC (.seq x y):=λd L=>jq.2 (.inl L);have T:∀d∈eC y,d∈eC (.seq x y):=λd L=>jq.2 (.inr L);refine ⟨?_,λl r e=> ?_,λl r e=> ?_⟩
  rotate_left
  rotate_left
  ·intro A mok s E h J hv G a w H Q F;have Y:∀d∈eC y,d<n:=λd L=>J d (T d L);by_cases hx:∃l',x=.label l'
   ·obtain ⟨l',rfl⟩:=hx;by_cases hl:l'=l
    ·subst hl;simp only [nS,Nat.beq_refl,cond_true] at e;obtain rfl:y=r:=Option.some.inj e;simp only [liftM,Nat.beq_refl,cond_true] at hv;exact V.1 _ _ _ _ _ Y hv G a w H Q λe p j q f o u B D=>F e p j q f o u B (D.mono T (λ_ e=>e) (λ_ e=>e) (λ_ e=>e))
    ·simp only [nS,pV hl,cond_false] at e;simp only [liftM,pV hl,cond_false] at hv;exact V.2.2 l r e _ mok s E h Y hv G a w H Q λW p j q f o u B D=>F W p j q f o u B (D.mono T (λ_ e=>e) (λ_ e=>e) (λ_ e=>e))
   ·rw [JE (λl' e=>hx ⟨l',e⟩)] at e;obtain ⟨-,e⟩:=qq e;rw [Ry (λl' e=>hx ⟨l',e⟩)] at hv;exact V.2.2 l r e _ mok s E h Y hv G a w H Q λW p j q f o u B D=>F W p j q f o u B (D.mono T (λ_ e=>e) (λ_ e=>e) (λ_ e=>e))
  rotate_left
  ·by_cases hx:∃l',x=.label l'
   ·obtain ⟨l',rfl⟩:=hx;obtain ⟨-,e⟩:=qq e;obtain rfl:y=r:=Option.some.inj e;refine ⟨λA mok s E h J hv G a w H Q h1 _=> ?_,λA mok s E h J hv G a w H Q F=> ?_,λA mok s E h J hv=>hv.elim⟩
    ·exact wp_seq (wp_label (h1 s h G a w hv H (gR.refl _ _)))
    ·exact V.1 _ _ _ _ _ (λd L=>J d (T d L)) hv G a w H Q λe p j q f o u B D=>F e p j q f o u B (D.mono T (λ_ e=>e) (λ_ e=>e) (λ_ e=>e))
   ·rw [Ka (λl' e=>hx ⟨l',e⟩)] at e;obtain ⟨-,e⟩:=qq e;refine ⟨λA mok s E h J hv G a w H Q h1 M=> ?_,λA mok s E h J hv G a w H Q F=> ?_,λA mok s E h J hv G a w H Q F=> ?_⟩
    ·rw [Rt (λl' e=>hx ⟨l',e⟩)] at hv;refine wp_seq ?_;refine b5.1 _ mok s _ h (λd L=>J d (S d L)) hv G a w H _ λW p j q f o u B D=> ?_;have b1:=D.mono (mm':=mok) S (λ_ e=>e) (λ_ e=>e) (λ_ e=>e);cases W with
     | gE=>
      exact ((V.2.1 l r e).1 _ mok _ E j (λd L=>J d (T d L)) u q f o B Q
       (λs2 M N a2 O a8 b0 b3=>h1 s2 M N a2 O a8 b0 (b1.trans (b3.mono T (λ_ e=>e) (λ_ e=>e) (λ_ e=>e))))
       (λe2 s2 d3 N a2 O c4 a8 b0 b3=>M e2 s2 d3 N a2 O c4 a8 b0 (b1.trans (b3.mono T (λ_ e=>e) (λ_ e=>e) (λ_ e=>e)))))
     | ret=>exact M .ret p j q f o (by simp) u B b1
     | ext i=>exact M (.ext i) p j q f o (by simp) u B b1
     | kL i=>exact M (.kL i) p j q f o (by simp) u B b1
    ·rw [Rx (λl' e=>hx ⟨l',e⟩)] at hv;exact (V.2.1 l r e).2.1 _ mok s E h (λd L=>J d (T d L)) hv G a w H Q λW p j q f o u B D=>F W p j q f o u B (D.mono T (λ_ e=>e) (λ_ e=>e) (λ_ e=>e))
    ·rw [Rv (λl' e=>hx ⟨l',e⟩)] at hv;have Y:∀d∈eC y,d<n:=λd L=>J d (T d L);refine wp_seq ?_;split at hv
     ·rename_i js mm z _;obtain ⟨b7,hv⟩:=kq hv;have U:=E1 b7;refine b5.1 _ mok s _ h (λd L=>J d (S d L)) hv G a w H _ λW s0 h0 b6 a0 w0 u a9 c3=> ?_;have b4:=c3.mono (mm':=mok) S (λ_ e=>e) (λ_ e=>e) (λ_ e=>e);cases W with
      | gE=>
       obtain ⟨R,hA,hB⟩:=u;have c6:∀p j q f o,Rel n q p f j o->gR (eC y) mm (cO s0) b6 a0 h0 w0 (cO p) q f j o->oj C.tb js p (λz=>R z j)->r.wp C.P (Exit.noGoto Q) f o:=by
        intro p j q f o B D hg;obtain ⟨z,hz,Z,b2⟩:=wF ok a9 D B hg;refine (V.2.1 l r e).2.1 _ mok _ _ j Y (hB z j hz) q f o Z _ λe s2 M N a2 O u c1 c8=> ?_;have b9:=b4.trans (((b2.mono (l':=eC y) (mm':=mok) (λ_ e=>e) U (λ_ e=>e) (λ_ e=>e)).trans c8).mono T (λ_ e=>e) (λ_ e=>e) (λ_ e=>e));cases e with
        | gE=>exact F .gE s2 M N a2 O (by simp) u c1 b9
        | ret=>exact F .ret s2 M N a2 O (by simp) u c1 b9
        | ext i=>exact F (.ext i) s2 M N a2 O (by simp) u c1 b9
        | kL i=>exact u.elim
       refine (V.2.1 l r e).1 _ mm s0 _ h0 Y hA b6 a0 w0 a9 _ (λp j q f o u B D=> ?_) λe p j q f o c4 u B D=> ?_
       ·exact wp_mono (c6 p j q f o B D u) λ_ _ _=>HY
       ·have b9:=b4.trans (D.mono (mm':=mok) T U (λ_ e=>e) (λ_ e=>e));cases e with
        | gE=>grind
        | ret=>exact F .ret p j q f o (by simp) u B b9
        | ext i=>exact F (.ext i) p j q f o (by simp) u B b9
        | kL i=>
         by_cases X:i=l
         ·subst X;simp only [Env.Nh,Nat.beq_refl,cond_true] at u;exact ⟨rfl,c6 p j q f o B D u⟩
         ·simp only [Env.Nh,pV X,cond_false] at u
      | ret=>exact F .ret s0 h0 b6 a0 w0 (by simp) u a9 b4
      | ext i=>exact F (.ext i) s0 h0 b6 a0 w0 (by simp) u a9 b4
      | kL i=>exact u.elim
     ·refine b5.1 _ mok s _ h (λd L=>J d (S d L)) hv G a w H _ λW s0 h0 b6 a0 w0 u a9 c3=> ?_;have b4:=c3.mono (mm':=mok) S (λ_ e=>e) (λ_ e=>e) (λ_ e=>e);cases W with
      | gE=>exact (V.2.1 l r e).2.2 _ mok s0 E h0 Y u b6 a0 w0 a9 Q λW p j q f o c4 u B D=>F W p j q f o c4 u B (b4.trans (D.mono T (λ_ e=>e) (λ_ e=>e) (λ_ e=>e)))
      | ret=>exact F .ret s0 h0 b6 a0 w0 (by simp) u a9 b4
      | ext i=>exact F (.ext i) s0 h0 b6 a0 w0 (by simp) u a9 b4
      | kL i=>exact u.elim
  intro A mok s E h J hv G a w H Q F;have c0:∀d∈eC x,d<n:=λd L=>J d (jq.2 (.inl L));have Y:∀d∈eC y,d<n:=λd L=>J d (jq.2 (.inr L));refine wp_seq ?_;unfold liftM at hv;split at hv
  ·rename_i js mm _ _;obtain ⟨b7,R,hA,hB⟩:=kq hv;have U:=E1 b7;refine b5.1 _ mm s _ h c0 hA G a w H _ λe p j q f o u B D=> ?_;cases e with
   | gE=>obtain ⟨z,hz,Z,b2⟩:=wF ok H D B u;refine V.1 _ mok _ E j Y (hB z j hz) q f o Z Q λe2 s2 M N a2 O a8 b0 b3=> ?_;exact F e2 s2 M N a2 O a8 b0 ((b2.mono S U (λ_ e=>e) (λ_ e=>e)).trans (b3.mono T (λ_ e=>e) (λ_ e=>e) (λ_ e=>e)))
   | ret=>exact F .ret p j q f o u B (D.mono S U (λ_ e=>e) (λ_ e=>e))
   | ext i=>exact F (.ext i) p j q f o u B (D.mono S U (λ_ e=>e) (λ_ e=>e))
   | kL i=>exact F (.kL i) p j q f o u B (D.mono S U (λ_ e=>e) (λ_ e=>e))
  ·rename_i k _ _;obtain ⟨hk,hv⟩:=kq hv;have hk:=(sm _ _).1 hk;refine b5.1 _ mok s _ h c0 hv G a w H _ λe p j q f o u B D=> ?_;cases e with
   | gE=>obtain ⟨s1,h1,u,c7,b1⟩:=TX (K:=λs2 M=>liftM C y .full _ mok s2 E M) hk D B u;refine V.1 _ mok _ E h1 Y u q f o c7 Q λe2 s2 M N a2 O a8 b0 b3=> ?_;exact F e2 s2 M N a2 O a8 b0 ((b1.mono S (λ_ e=>e) (λ_ e=>e) (λ_ e=>e)).trans (b3.mono T (λ_ e=>e) (λ_ e=>e) (λ_ e=>e)))
   | ret=>exact F .ret p j q f o u B (D.mono S (λ_ e=>e) (λ_ e=>e) (λ_ e=>e))
   | ext i=>exact F (.ext i) p j q f o u B (D.mono S (λ_ e=>e) (λ_ e=>e) (λ_ e=>e))
   | kL i=>exact F (.kL i) p j q f o u B (D.mono S (λ_ e=>e) (λ_ e=>e) (λ_ e=>e))
  ·refine b5.1 _ mok s _ h c0 hv G a w H _ λe p j q f o u B D=> ?_;cases e with
   | gE=>refine V.1 _ mok _ E j Y u q f o B Q λe2 s2 M N a2 O a8 b0 b3=> ?_;exact F e2 s2 M N a2 O a8 b0 ((D.mono S (λ_ e=>e) (λ_ e=>e) (λ_ e=>e)).trans (b3.mono T (λ_ e=>e) (λ_ e=>e) (λ_ e=>e)))
   | ret=>exact F .ret p j q f o u B (D.mono S (λ_ e=>e) (λ_ e=>e) (λ_ e=>e))
   | ext i=>exact F (.ext i) p j q f o u B (D.mono S (λ_ e=>e) (λ_ e=>e) (λ_ e=>e))
   | kL i=>exact F (.kL i) p j q f o u B (D.mono S (λ_ e=>e) (λ_ e=>e) (λ_ e=>e))
 | cond c x y b5 V=>
  refine ⟨?_,λl r e=>by simp [re] at e,λl r e=>by simp [nS] at e⟩;intro A mok s E h J hv G a w H Q F;have c0:∀d∈eC x,d<n:=λd L=>J d (jq.2 (.inl L));have Y:∀d∈eC y,d<n:=λd L=>J d (jq.2 (.inr L));simp only [liftM] at hv;obtain ⟨v,d5,hv⟩:=kJ hv;split at hv
  ·rename_i t;have hc:=bH (D6 H (x:=c) λ_ _=>trivial) (bI s) d5;refine wp_cond_split (t:=t) hc (λht=> ?_) (λht=> ?_)
   ·rw [if_pos ht] at hv;exact b5.1 _ mok s E h c0 hv G a w H Q λe p j q f o u B D=>F e p j q f o u B (D.mono (λd L=>jq.2 (.inl L)) (λ_ e=>e) (λ_ e=>e) (λ_ e=>e))
   ·rw [if_neg (by rw [ht];simp)] at hv;exact V.1 _ mok s E h Y hv G a w H Q λe p j q f o u B D=>F e p j q f o u B (D.mono (λd L=>jq.2 (.inr L)) (λ_ e=>e) (λ_ e=>e) (λ_ e=>e))
  ·exact hv.elim
 | block id x ih=>
  refine ⟨?_,λl r e=>by simp [re] at e,λl r e=>by simp [nS] at e⟩;intro A mok s E h J hv G a w H Q F;refine wp_block ?_;unfold liftM at hv;split at hv
  ·rename_i js mm _;obtain ⟨b7,R,hA,hB⟩:=kq hv;have U:=E1 b7;refine ih.1 _ mm s _ h J hA G a w H _ λe p j q f o u B D=> ?_;have c6:oj C.tb js p (λx=>R x j)->Q .normal f o:=λhg=>by obtain ⟨z,hz,Z,b2⟩:=wF ok H D B hg;exact F .gE _ j q f o (hB z j hz) Z (b2.mono (λ_ e=>e) U (λ_ e=>e) (λ_ e=>e))
   cases e with
   | gE=>exact c6 u
   | ret=>exact F .ret p j q f o u B (D.mono (λ_ e=>e) U (λ_ e=>e) (λ_ e=>e))
   | ext i=>
    simp only [pK,Exit.inBlock];by_cases X:i=id
    ·subst X;simp only [Env.iN,Nat.beq_refl,cond_true] at u;grind
    ·rw [if_neg X];simp only [Env.iN,pV X,cond_false] at u;exact F (.ext i) p j q f o u B (D.mono (λ_ e=>e) U (λ_ e=>e) (λ_ e=>e))
   | kL i=>exact F (.kL i) p j q f o u B (D.mono (λ_ e=>e) U (λ_ e=>e) (λ_ e=>e))
  ·refine ih.1 _ mok s _ h J hv G a w H _ λe p j q f o u B D=> ?_;cases e with
   | gE=>exact F .gE p j q f o u B D
   | ret=>exact F .ret p j q f o u B D
   | ext i=>
    simp only [pK,Exit.inBlock];by_cases X:i=id
    ·subst X;simp only [Env.iN,Nat.beq_refl,cond_true] at u;rw [if_pos rfl];exact F .gE p j q f o u B D
    ·rw [if_neg X];simp only [Env.iN,pV X,cond_false] at u;exact F (.ext i) p j q f o u B D
   | kL i=>exact F (.kL i) p j q f o u B D
 | scope x ih=>
  refine ⟨?_,λl r e=>by simp [re] at e,λl r e=>by simp [nS] at e⟩;intro A mok s E h J hv G a w H Q F;unfold liftM at hv;split at hv
  ·rename_i l _;split at hv
   ·rename_i r c2;refine wp_scope_jumps l (λf o=>r.wp C.P (Exit.noGoto Q) f o) (λ_ _=>0) (X5 c2) ?_ λf o hJ=>wp_seq (wp_skip (wp_mono hJ λ_ _ _=>HY));exact (ih.2.1 l r c2).2.2 _ mok s E h J hv G a w H Q λe p j q f o _ u B D=>F e p j q f o u B D
   ·exact hv.elim
  ·rename_i l0 a0 x0;refine Xe (Mp ?_);have chain:∀(A:jC) (E':Env),(∀e p j q f o,E' e p j->Rel n q p f j o->gR (eC x) mok (cO s) G a h w (cO p) q f j o->vu C.P x Q (pK e) f o)->
     ∀e p j q f o,vM (λl f E s h=>match nS x l with
      | some _=>liftM C x (.rz l) f mok s E h
      | none=>False) A E' e p j->Rel n q p f j o->gR (eC x) mok (cO s) G a h w (cO p) q f j o->vu C.P x Q (pK e) f o:=by
    intro A
    induction A with
    | gd l b y _ V=>
     intro E' hE;refine V _ λe p j q f o u B D=> ?_;cases e with
     | gE=>exact hE .gE p j q f o u B D
     | ret=>exact hE .ret p j q f o u B D
     | ext i=>exact hE (.ext i) p j q f o u B D
     | kL i=>
      by_cases X:i=l
      ·subst X;simp only [Env.put,Nat.beq_refl,cond_true] at u;split at u
       ·rename_i r c2;refine ⟨_,Xd c2,Mp (wp_seq (wp_skip ?_))⟩;exact ih.2.2 i r c2 _ mok p _ j J u q f o B _ λe2 s2 M N a2 O a8 Z b2=>hE e2 s2 M N a2 O a8 Z (D.trans b2)
       ·exact u.elim
      ·simp only [Env.put,pV X,cond_false] at u;exact hE (.kL i) p j q f o u B D
    | _=>intro E' hE;exact hE
   refine ih.1 _ mok s _ h J hv G a w H _ λe p j q f o u B D=> ?_;refine chain (.gd l0 a0 x0) E.mM (λe p j q f o u B D=> ?_) e p j q f o u B D;cases e with
   | gE=>exact F .gE p j q f o u B D
   | ret=>exact F .ret p j q f o u B D
   | ext i=>exact F (.ext i) p j q f o u B D
   | kL i=>exact u.elim
  ·refine wp_scope_straight ?_;refine ih.1 _ mok s _ h J hv G a w H _ λe p j q f o u B D=> ?_;cases e with
   | gE=>exact F .gE p j q f o u B D
   | ret=>exact F .ret p j q f o u B D
   | ext i=>exact F (.ext i) p j q f o u B D
   | kL i=>exact u.elim
 | loop x ih=>
  refine ⟨?_,λl r e=>by simp [re] at e,λl r e=>by simp [nS] at e⟩;intro A mok s E h J hv G a w H Q F;unfold liftM at hv;split at hv
  ·rename_i js mm _;obtain ⟨b7,hv⟩:=kq hv;have U:=E1 b7;obtain ⟨x0,d9,a9,c3⟩:=wF ok H (gR.refl (l:=eC x) (mm:=mm)) H hv;obtain ⟨I,μ,hI,d4⟩:=d9;refine Wm (λm f o=>∃z j q,I z j/\μ z j=m/\Rel n q (pa C.tb js z (s.forget (eC x) mm)) f j o/\gR (eC x) mm (cO s) G a h w (cO (pa C.tb js z (s.forget (eC x) mm))) q f j o)
    ⟨_,x0,h,G,hI,rfl,a9,c3⟩ ?_
   rintro m f o ⟨z,j,q,hz,rfl,c7,b1⟩;refine ih.1 _ mm _ _ j J (d4 z j hz) q f o c7 _ λe s2 M N a2 O u Z b2=> ?_;have c5:=b1.trans b2;cases e with
   | gE=>obtain ⟨z2,d0,c1,c8⟩:=wF ok H c5 Z u;exact ⟨_,d0.2,z2,M,N,d0.1,rfl,c1,c8⟩
   | ret=>exact F .ret s2 M N a2 O u Z (c5.mono (λ_ e=>e) U (λ_ e=>e) (λ_ e=>e))
   | ext i=>exact F (.ext i) s2 M N a2 O u Z (c5.mono (λ_ e=>e) U (λ_ e=>e) (λ_ e=>e))
   | kL i=>exact F (.kL i) s2 M N a2 O u Z (c5.mono (λ_ e=>e) U (λ_ e=>e) (λ_ e=>e))
  ·exact hv.elim
 | _=>exact ⟨λA mok s E h _ hv=>hv.elim,λl r e=>by simp [re] at e,λl r e=>by simp [nS] at e⟩
theorem ot {C:Ctx} (ok:C.tb.Ok C.P) {n:Nat} (c:Code) (A:jC) (g:List Nat) (s:St) (E:Env) (h:Hp) (o:∀d∈eC c,d<n) (hv:liftM C c .full A g s E h) (k:Nat->Nat) (a:Act) (w:World) (p:Rel n k s a h w)
  (Q:Exit->Act->World->Prop) (m:∀e i f l b j,E e i f->Rel n l i b f j->gR (eC c) g (cO s) k a h w (cO i) l b f j->Q (pK e) b j):c.wp C.P Q a w:=
 (X6 ok c).1 A g s E h o hv k a w p Q m
def pW (b:Array Value):ResultVar->Sem Value
 | .tmp t=>pure (b.getD t undef)
 | .cell a t=>do loadVar t (<-asAddr (b.getD a undef))
def BC :List Value->Value
 | [v]=>v
 | vs=>.tuple vs.toArray
theorem ny {P:Program} {fn:Func} {b:Array Value} {a:List Value} {w:World} (h:(fn.results.toList.mapM (pW b)).run P w=.ok a w):(results fn b).run P w=.ok (BC a) w:=by
 have e:results fn b=((fn.results.mapM (pW b))>>=λa=>pure (if h:a.size=1 then a[0] else .tuple a)):=by unfold results;congr 1
 rw [e,Array.mapM_eq_mapM_toList,map_eq_pure_bind];simp only [Sem.run_bind,h,Result.andThen_ok,Sem.run_pure];cases a with
 | nil=>rfl
 | cons v a=>cases a<;>simp [BC]
theorem Zd {P:Program} {tb:Tb} (ok:tb.Ok P) {t:Nat} {e:Ty} (c:tb.ty t=some e) {w:World} {a:Addr} {x:(dN tb t).T}
  (b:∀(j:Nat) (v:Value),(bp ((dN tb t).enc x))[j]? =some v->w.cell? (a.add j)=some v):(loadVar t a).run P w=.ok ((dN tb t).enc x) w:=by
 revert x;rw [Ib,c];intro x b;exact Og ok c b
section
variable {C:Ctx} {n:Nat} {β:Nat->Nat} {s:St} {a:Act} {h:Hp} {w:World}
theorem pv (ok:C.tb.Ok C.P) (d:Rel n β s a h w) {r:ResultVar} {t:Nat} {K:(dN C.tb t).T->Prop} (hv:nL C s r t K):∃x,K x/\(pW a.tmps r).run C.P w=.ok ((dN C.tb t).enc x) w:=by
 cases r with
 | tmp i=>
  simp only [nL] at hv;split at hv
  ·rename_i v c
   ·obtain ⟨x,f,hv⟩:=zg hv;refine ⟨x,hv,?_⟩;have:=(d.cur i _ [] c trivial (bI _)).1;rw [f];simp only [pW,Sem.run_pure];exact congrArg (λv=>Result.ok v w) this
  ·exact hv.elim
 | cell i y=>
  simp only [nL] at hv;obtain ⟨b,hv⟩:=kq hv;have b:=Nat.eq_of_beq_eq_true b;subst b;split at hv
  ·rename_i k e c q;split at hv
   ·rename_i l u;split at hv
    ·rename_i v p
     ·obtain ⟨x,f,hv⟩:=zg hv;refine ⟨x,hv,?_⟩;have o:=Mn ok p f;obtain ⟨_,z,hb⟩:=d.box k l u trivial;have:=(d.cur i _ [] c trivial (bI _)).1;have m:a.tmps.getD i undef=.pointer (some ⟨β k,0,none⟩):=this;simp only [pW,m,asAddr,Sem.run_bind,Sem.run_pure,Result.andThen_ok];refine Zd ok q λj v g=> ?_;rw [o] at g;rw [kK,Ds hb];simpa using g
    ·exact hv.elim
   ·exact hv.elim
  ·exact hv.elim
theorem rS (ok:C.tb.Ok C.P) (b:Rel n β s a h w) {rs:List ResultVar} {p:List Nat} {K:(bD C.tb p).T->Hp->Prop} (hv:uN C s h rs p K):
  ∃x k,K x h/\(rs.mapM (pW a.tmps)).run C.P w=.ok k w/\BC k=(bD C.tb p).enc x:=by
 have step:∀ {r:ResultVar} {rs:List ResultVar} {v:Value} {k:List Value},(pW a.tmps r).run C.P w=.ok v w->(rs.mapM (pW a.tmps)).run C.P w=.ok k w->((r::rs).mapM (pW a.tmps)).run C.P w=.ok (v::k) w:=by intro r rs v k c d;simp only [List.mapM_cons,Sem.run_bind,c,d,Result.andThen_ok,Sem.run_pure]
 have nil:(([]:List ResultVar).mapM (pW a.tmps)).run C.P w=.ok [] w:=by simp
 unfold uN at hv;split at hv
 ·exact ⟨(),[],hv,nil,rfl⟩
 ·obtain ⟨x,e,c⟩:=pv ok b hv;exact ⟨x,_,e,step c nil,rfl⟩
 ·obtain ⟨f,hv,c⟩:=pv ok b hv;obtain ⟨g,e,d⟩:=pv ok b hv;exact ⟨(f,g),_,e,step c (step d nil),rfl⟩
 ·obtain ⟨f,hv,c⟩:=pv ok b hv;obtain ⟨g,hv,d⟩:=pv ok b hv;obtain ⟨j,e,i⟩:=pv ok b hv;exact ⟨(f,g,j),_,e,step c (step d (step i nil)),rfl⟩
 ·obtain ⟨f,hv,c⟩:=pv ok b hv;obtain ⟨g,hv,d⟩:=pv ok b hv;obtain ⟨j,hv,i⟩:=pv ok b hv;obtain ⟨m,e,l⟩:=pv ok b hv;exact ⟨(f,g,j,m),_,e,step c (step d (step i (step l nil))),rfl⟩
 ·obtain ⟨f,hv,c⟩:=pv ok b hv;obtain ⟨g,hv,d⟩:=pv ok b hv;obtain ⟨j,hv,i⟩:=pv ok b hv;obtain ⟨m,hv,l⟩:=pv ok b hv;obtain ⟨q,e,o⟩:=pv ok b hv;exact ⟨(f,g,j,m,q),_,e,step c (step d (step i (step l (step o nil)))),rfl⟩
 ·obtain ⟨f,hv,c⟩:=pv ok b hv;obtain ⟨g,hv,d⟩:=pv ok b hv;obtain ⟨j,hv,i⟩:=pv ok b hv;obtain ⟨m,hv,l⟩:=pv ok b hv;obtain ⟨q,hv,o⟩:=pv ok b hv;obtain ⟨y,hv,t⟩:=pv ok b hv;obtain ⟨z,e,u⟩:=pv ok b hv;exact ⟨(f,g,j,m,q,y,z),_,e,step c (step d (step i (step l (step o (step t (step u nil)))))),rfl⟩
 ·exact hv.elim
end
theorem qo {n:Nat} {l:List Nat} (h:tO n l=true):∀d∈l,d<n:=by
 induction l with
 | nil=>simp
 | cons a l e=>
  simp only [tO] at h;obtain ⟨b,c⟩:=fy h;intro d hd;rcases List.mem_cons.1 hd with rfl | hd
  ·have:d+1<=n:=by simpa [Nat.blt] using b
   exact this
  grind
theorem PR {C:Ctx} (ok:C.tb.Ok C.P) {g:FuncId} {f:Func} {c:Code} {A:jC} {args:List Value} {K:(bD C.tb f.resultTypes.toList).T->Hp->Prop} {h:Hp} (G:C.P.funcs[g]? =some f) (hb:f.body=some c)
  (hv:A4 C f A args K h):aa C.P g args (bD C.tb f.resultTypes.toList) K h:=by
 intro w N;unfold A4 at hv;obtain ⟨F,hv⟩:=kq hv;obtain ⟨s,d⟩:=fy F;have s:args.length<=f.ntmps:=Nat.le_of_ble_eq_true s;have E:w9 f=c:=by unfold w9;rw [hb]
 rw [E] at hv d;refine calls_of_wp G hb ?_;have H:∀(t:Nat) (v:Value),args[t]? =some v->(args.toArray++Array.replicate (f.ntmps-args.toArray.size) undef)[t]? =some v:=by grind
 have z:∀(t:Nat) (l:LV) (c:aZ),tP args t=some (l,c)->∃v,args[t]? =some v/\l=.v v/\c=[]:=by intro t l c e;unfold tP at e;rw [nJ] at e;grind
 have L:Rel f.ntmps (λ_=>0) {f:=tP args,m:=λ_=>none} {tmps:=args.toArray++Array.replicate (f.ntmps-args.toArray.size) undef,defers:=[]} h w:=by
  refine ⟨by simp;omega,N,λt l c e=> ?_,λt l c e p hp=> ?_,λt l c e _ _=> ?_,λt l c e _ I=> ?_,λk U e _=>(by cases e),λk V e=>absurd rfl e,λ_ e=>e.elim,λ_ e=>e.elim⟩
  ·grind
  ·grind
  ·obtain ⟨v,y,rfl,rfl⟩:=z t l c e;refine ⟨?_,λ_ _ _=>trivial⟩;simp only [Act.eval,LVal,Array.getD_eq_getD_getElem?,H t v y,Option.getD_some]
  ·obtain ⟨v,y,rfl,rfl⟩:=z t l c e;exact absurd (bI _) I
 refine ot ok c A C.aS _ _ h (qo d) hv _ _ w L _ λe S o X r n j D a=> ?_;have O:Step h o w n:=⟨D.sub,a.size,λb hb B=>⟨a.bK b hb B (λk _ q=>absurd rfl q.1),a.xp b hb B (λk _ q=>absurd rfl q.1)⟩,a.os,a.tape,a.output⟩;have done:uN C S o f.results.toList f.resultTypes.toList K->r.defers=[]/\∃v,(results f r.tmps).run C.P n=.ok v n/\∃u d,Ending.returned v=.returned u/\(∃x,u=(bD C.tb f.resultTypes.toList).enc x/\K x d)/\Step h d w n:=by intro R;obtain ⟨x,W,J,M,Q⟩:=rS ok D R;exact ⟨a.defers,_,ny M,_,o,rfl,⟨x,Q,J⟩,O⟩
 cases e with
 | gE=>exact done j
 | ret=>exact done j
 | ext i=>exact j.elim
 | kL i=>exact j.elim
def cL (A:(Hp->Prop)->Prop) (B:Hp->Prop):Prop:=
 nW (σ:=Unit) (λR=>A (λh=>R () h)) (λ_ h=>B  h)
theorem cL.intro {A:(Hp->Prop)->Prop} {B:Hp->Prop} (R:Hp->Prop) (a:A R) (b:∀h,R h->B h):cL A B:=
 ⟨λ_ h=>R  h,a,λ_ h c=>b  h c⟩
theorem cL.direct {A:(Hp->Prop)->Prop} {B:Hp->Prop} (a:A B):cL A B:=cL.intro B a (λ_ b=>b)
def cQ {α1:Type} (A:(α1->Hp->Prop)->Prop) (B:α1->Hp->Prop):Prop:=
 nW (σ:=α1) (λR=>A (λa h=>R a h)) (λp h=>B p h)
theorem cQ.intro {a:Type} {A:(a->Hp->Prop)->Prop} {B:a->Hp->Prop} (R:a->Hp->Prop) (c:A R) (d:∀b h,R b h->B b h):cQ A B:=
 ⟨λp h=>R p h,c,λp h e=>d p h e⟩
theorem cQ.direct {a:Type} {A:(a->Hp->Prop)->Prop} {B:a->Hp->Prop} (b:A B):cQ A B:=cQ.intro B b (λ_ _ c=>c)
def aA {α1:Type} (b:(α1->Hp->Prop)->α1->Hp->Prop) (a:α1) (h:Hp):Prop:=
 tJ (σ:=α1) (λR p h=>b (λa h=>R a h) p h) a h
theorem aA.intro {b:Type} {d:(b->Hp->Prop)->b->Hp->Prop} {a:b} {h:Hp} (I:b->Hp->Prop) (c:b->Hp->Nat)
  (h0:I a h) (i:∀a k,I a k->d (λf e=>I f e/\c f e<c a k) a k):aA d a h:=
 ⟨λp h=>I p h,λp h=>c p h,h0,λp k g=>i p k g⟩
def jU {α1 α2:Type} (A:(α1->α2->Hp->Prop)->Prop) (B:α1->α2->Hp->Prop):Prop:=
 nW (σ:=α1×α2) (λR=>A (λa b h=>R (a,b) h)) (λp h=>B p.1 p.2 h)
theorem jU.intro {a b:Type} {A:(a->b->Hp->Prop)->Prop} {B:a->b->Hp->Prop} (R:a->b->Hp->Prop) (e:A R) (f:∀c d h,R c d h->B c d h):jU A B:=
 ⟨λp h=>R p.1 p.2 h,e,λp h g=>f p.1 p.2 h g⟩
theorem jU.direct {a b:Type} {A:(a->b->Hp->Prop)->Prop} {B:a->b->Hp->Prop} (c:A B):jU A B:=jU.intro B c (λ_ _ _ d=>d)
def bT {α1 α2:Type} (c:(α1->α2->Hp->Prop)->α1->α2->Hp->Prop) (a:α1) (b:α2) (h:Hp):Prop:=
 tJ (σ:=α1×α2) (λR p h=>c (λa b h=>R (a,b) h) p.1 p.2 h) (a,b) h
theorem bT.intro {c d:Type} {f:(c->d->Hp->Prop)->c->d->Hp->Prop} {a:c} {b:d} {h:Hp} (I:c->d->Hp->Prop) (e:c->d->Hp->Nat)
  (h0:I a b h) (m:∀a b k,I a b k->f (λi j g=>I i j g/\e i j g<e a b k) a b k):bT f a b h:=
 ⟨λp h=>I p.1 p.2 h,λp h=>e p.1 p.2 h,h0,λp k l=>m p.1 p.2 k l⟩
def qH {α1 α2 α3:Type} (d:(α1->α2->α3->Hp->Prop)->α1->α2->α3->Hp->Prop) (a:α1) (b:α2) (c:α3) (h:Hp):Prop:=
 tJ (σ:=α1×α2×α3) (λR p h=>d (λa b c h=>R (a,b,c) h) p.1 p.2.1 p.2.2 h) (a,b,c) h
theorem qH.intro {d e f:Type} {i:(d->e->f->Hp->Prop)->d->e->f->Hp->Prop} {a:d} {b:e} {c:f} {h:Hp} (I:d->e->f->Hp->Prop) (g:d->e->f->Hp->Nat)
  (h0:I a b c h) (q:∀a b c k,I a b c k->i (λl m n j=>I l m n j/\g l m n j<g a b c k) a b c k):qH i a b c h:=
 ⟨λp h=>I p.1 p.2.1 p.2.2 h,λp h=>g p.1 p.2.1 p.2.2 h,h0,λp k o=>q p.1 p.2.1 p.2.2 k o⟩
def bu (P:Program) (g:FuncId) (args:List Value) (s1 s2:Shape) (K:s1.T->s2.T->Hp->Prop) (h:Hp):Prop:=
 aa P g args (nK s1 s2) (λp a=>K p.1 p.2 a) h
def jm (P:Program) (g:FuncId) (args:List Value) (s1 s2 a:Shape) (K:s1.T->s2.T->a.T->Hp->Prop) (h:Hp):Prop:=
 aa P g args (pU s1 s2 a) (λp b=>K p.1 p.2.1 p.2.2 b) h
def nV (P:Program) (g:FuncId) (args:List Value) (s1 s2 a b:Shape) (K:s1.T->s2.T->a.T->b.T->Hp->Prop) (h:Hp):Prop:=
 aa P g args (zx s1 s2 a b) (λp c=>K p.1 p.2.1 p.2.2.1 p.2.2.2 c) h
def zZ (P:Program) (g:FuncId) (args:List Value) (s1 s2 a b c:Shape) (K:s1.T->s2.T->a.T->b.T->c.T->Hp->Prop) (h:Hp):Prop:=
 aa P g args (zy s1 s2 a b c) (λp d=>K p.1 p.2.1 p.2.2.1 p.2.2.2.1 p.2.2.2.2 d) h
def bC (P:Program) (g:FuncId) (args:List Value) (K:Hp->Prop) (h:Hp):Prop:=
 aa P g args uA (λ_ a=>K a) h
def nq (P:Program) (s:Sem Value) (_:Shape) (K:Hp->Prop) (h:Hp):Prop:=kE P s uA (λ_ a=>K a) h
def Rw {a:Type} (h:Hp) (sz:Nat) (enc:a->List Value) (l:Sl) (xs:List a):Prop:=
 l.len=xs.length/\qa h l.base (xs.length*sz) (xs.flatMap enc)
section
variable {α:Type} {h d:Hp} {sz:Nat} {enc:α->List Value} {l:Sl} {xs:List α}
theorem Kb (b:h<=d) {a:Addr} {v:Value} (e:dd h a=some v):dd d a=some v:=by
 unfold dd at e ⊢;split at e
 ·rename_i c t f hb;rw [b _ _ hb];exact e
 ·cases e
theorem pk (b:h<=d) {a:Addr} {cs:List Value} (e:bf h a cs):bf d a cs:=λi v hv=>Kb b (e i v hv)
theorem Rw.mono (i:h<=d) (r:Rw h sz enc l xs):Rw d sz enc l xs:=by obtain ⟨b,c,e⟩:=r;refine ⟨b,c,e.imp id ?_⟩;rintro ⟨a,f,g⟩;exact ⟨a,f,pk i g⟩
theorem Mq (b:∀x,(enc x).length=sz):∀(xs:List α) (i:Nat) (x:α),xs[i]? =some x->∀j v,(enc x)[j]? =some v->(xs.flatMap enc)[i*sz+j]? =some v
 | [],i,x,a,_,_,_=>by simp at a
 | y::xs,0,x,a,j,v,hv=>by grind
 | y::xs,i+1,x,a,j,v,hv=>by have:=Mq b xs i x (by simpa using a) j v hv;grind
theorem Ic (a:∀x,(enc x).length=sz):∀(xs:List α) (i:Nat) (v:Value),(xs.flatMap enc)[i]? =some v->∃q x j,xs[q]? =some x/\(enc x)[j]? =some v/\i=q*sz+j
 | [],i,v,hv=>by simp at hv
 | y::xs,i,v,hv=>by
  simp only [List.flatMap_cons] at hv;by_cases b:i<(enc y).length
  ·rw [List.getElem?_append_left b] at hv;exact ⟨0,y,i,rfl,hv,by simp⟩
  ·rw [List.getElem?_append_right (by omega)] at hv;obtain ⟨q,x,j,c,e,f⟩:=Ic a xs _ v hv;rw [a] at f b;exact ⟨q+1,x,j,by simpa using c,e,by grind⟩
theorem Rw.read (r:Rw h sz enc l xs) (m:∀x,(enc x).length=sz) (o:0<sz) {i:Int} (e:0<=i) (f:i<(l.len:Int)):
  bF l.base l.len i/\∃x,xs[i.toNat]? =some x/\bf h (sat l.base sz i) (enc x):=by
 obtain ⟨p,q,g⟩:=r;have c:i.toNat<xs.length:=by omega
 have n:xs.length*sz≠0:=by
  have:0<xs.length:=by omega
  exact Nat.ne_of_gt (Nat.mul_pos this o)
 obtain ⟨a,b,k⟩:=g.resolve_left n;refine ⟨⟨by simp [b],e,f⟩,xs[i.toNat],by simp [c],λj v hv=> ?_⟩;have:=k (i.toNat*sz+j) v (Mq m xs i.toNat _ (by simp [c]) j v hv);unfold sat;rw [b,Option.getD_some,tF];exact this
def Own (h0 h:Hp) (sz:Nat) (enc:α->List Value) (l:Sl) (xs:List α):Prop:=
 l.len=xs.length/\l.len<=l.cap/\((l.base=none/\l.cap=0)\/
  ∃(b:Nat) (a:List Value) (t:Nat),l.base=some ⟨b,0,none⟩/\h b=some (.cells a.toArray t (0,0))/\a.length=l.cap*sz/\a.take (l.len*sz)=xs.flatMap enc/\h0 b=none)
theorem jz (a:∀x,(enc x).length=sz):∀xs:List α,(xs.flatMap enc).length=xs.length*sz
 | []=>by simp
 | x::xs=>by simp only [List.flatMap_cons,List.length_append,a,jz a xs,List.length_cons,Nat.add_mul,Nat.one_mul];omega
theorem tn (f:∀x,ji (enc x)=true):∀xs:List α,ji (xs.flatMap enc)=true:=by
 have app:∀a b:List Value,ji a=true->ji b=true->ji (a++b)=true:=by
  intro a b c hb
  induction a with
  | nil=>exact hb
  | cons v a e=>cases v<;>first | (exact e c) | (cases c)
 intro xs
 induction xs with
 | nil=>rfl
 | cons x xs e=>grind
theorem Dc {b:Nat} {a:List Value} {t:Nat} (e:h b=some (.cells a.toArray t (0,0))) (i:Nat):dd h ⟨b,i,none⟩=a[i]?:=by unfold dd;simp [e]
theorem Own.rw {h0:Hp} (o:Own h0 h sz enc l xs) (c:∀x,(enc x).length=sz):Rw h sz enc l xs:=by
 obtain ⟨h1,g,a⟩:=o;refine ⟨h1,jz c xs,?_⟩;rcases a with ⟨e,f⟩ | ⟨b,cs,t,e,hb,i,k,_⟩
 ·grind
 ·right;refine ⟨_,e,λj v hv=> ?_⟩;rw [kK,Dc hb,Nat.zero_add];grind
theorem Own.mono {h0:Hp} (j:h<=d) (o:Own h0 h sz enc l xs):Own h0 d sz enc l xs:=by obtain ⟨f,g,i⟩:=o;refine ⟨f,g,i.imp id ?_⟩;rintro ⟨b,cs,t,a,c,e⟩;exact ⟨b,cs,t,a,j _ _ c,e⟩
theorem Ea {q:Hp} {zero:List Value} {bytes:Nat} {x:Sl} {f:List α} {K:Sl->Hp->Prop} (v:q<=h) (o:Own q h sz enc l xs) (r:Rw h sz enc x f) (j:∀x,(enc x).length=sz) (T:∀x,ji (enc x)=true)
  (W:zero.length=sz) (hb:xs.length+f.length<=140737488355328/\(xs.length+f.length)*bytes<=140737488355328)
  (A:∀J d,q<=d->Own q d sz enc J (xs++f)->(∀b g,h b=some g->(∀a,l.base=some a->a.block≠b)->d b=some g)->K J d):fu sz bytes zero l x K h:=by
 have U:=o.rw j;obtain ⟨m,Q,R⟩:=o;obtain ⟨n,a9⟩:=r;refine ⟨f.flatMap enc,by grind,xs.flatMap enc,by rw [m];exact U.2,by grind,tn T f,λE=> ?_,λE c b t S D=> ?_⟩
 ·rcases R with ⟨e,P⟩ | ⟨b,p,t,e,z,G,I,H⟩
  · -- nothing is put
   have N:f.length=0:=by omega
   have O:f=[]:=List.length_eq_zero_iff.1 N;subst O;refine ⟨λa y=>(by grind),?_⟩;have w:gx h l.base (l.len*sz) (([]:List α).flatMap enc)=h:=by rw [e];rfl
   rw [w,n];refine A _ h v ⟨by simp [m],by simpa using Q,.inl ⟨e,P⟩⟩ λ_ _ e _=>e
  ·have s:l.len*sz+(f.flatMap enc).length<=p.length:=by rw [G,jz j,<-Nat.add_mul];exact Nat.mul_le_mul_right sz (by omega)
   obtain ⟨L,Z⟩:=yj b t (f.flatMap enc) h 0 (l.len*sz) p (by simpa using s) z;have V:∀(k:Nat),l.len*sz+k<=p.length->rm h (⟨b,l.len*sz,none⟩:Addr) k:=by
    intro k
    induction k with
    | zero=>intro _;trivial
    | succ k Y=>
     intro a8;refine ⟨Y (by omega),⟨p[l.len*sz+k]'(by omega),?_⟩,?_⟩
     ·rw [kK,Dc z];simp
     ·rw [kK];unfold gM;simp [z]
   refine ⟨λa y=> ?_,?_⟩
   ·rw [e] at y;cases y;rw [kK,Nat.zero_add];refine V _ ?_;rw [n,<-jz j f];exact s
   ·have w:gx h l.base (l.len*sz) (f.flatMap enc)=kI h ⟨b,l.len*sz,none⟩ (f.flatMap enc) 0:=by rw [e];simp only [gx,kK,Nat.zero_add]
    rw [w];rw [Nat.add_zero] at L;refine A _ _ (λi g eb=> ?_) ⟨by simp [m,n],E,.inr ⟨b,_,t,e,L,?_,?_,H⟩⟩ λi g eb u=> ?_
    ·have u:i≠b:=λB=>by rw [B,H] at eb;cases eb
     rw [Z i u];exact v _ _ eb
    ·rw [XY _ _ _ s,G]
    ·rw [zJ _ _ _ s];have C:(l.len+x.len)*sz=(p.take (l.len*sz)++f.flatMap enc).length:=by rw [List.length_append,I,jz j,jz j,m,n,Nat.add_mul]
     rw [C,List.take_left,I,List.flatMap_append]
    grind
 ·have F:∀i g,h i=some g->(h.set b (.cells (xs.flatMap enc++f.flatMap enc++fC zero (c-(l.len+x.len))).toArray t (0,0))) i=some g:=λi g eb=>by
   have u:i≠b:=λB=>by grind
   simp [Hp.set,u,eb]
  refine A _ _ (λi g eb=>F i g (v _ _ eb)) ⟨by simp [m,n],S,.inr ⟨b,xs.flatMap enc++f.flatMap enc++fC zero (c-(l.len+x.len)),t,rfl,by simp [Hp.set],?_,?_,?_⟩⟩ λi g eb _=>F i g eb
  ·have X:∀k,(fC zero k).length=k*sz:=λk=>by simp [fC,W]
   rw [List.length_append,List.length_append,jz j,jz j,X,<-Nat.add_mul,<-Nat.add_mul];grind
  ·have C:(l.len+x.len)*sz=(xs.flatMap enc++f.flatMap enc).length:=by rw [List.length_append,jz j,jz j,m,n,Nat.add_mul]
   grind
  ·cases M:q b with
   | none=>rfl
   | some g=>rw [v _ _ M] at D;cases D
end
abbrev Rs (h:Hp) (sh:Shape) (sz:Nat) (l:Sl) (xs:List sh.T):Prop:=Rw h sz (λx=>bp (sh.enc x)) l xs
section
variable {h b:Hp} {sh:Shape} {sz:Nat} {l:Sl} {xs:List sh.T} {K:sh.T->Prop} {i:Int}
theorem Rs.get (r:Rs h sh sz l xs) (e:∀x,(bp (sh.enc x)).length=sz) (j:0<sz) (c:0<=i) (d:i<(xs.length:Int)) (f:∀x,xs[i.toNat]? =some x->K x):
  bF l.base l.len i/\aR none sh h (sat l.base sz i) K:=by
 obtain ⟨a,x,k,g⟩:=Rw.read r e j c (by rw [r.1];exact d);exact ⟨a,x,g,f x k⟩
theorem pF (r:Rs h sh sz l xs) (e:∀x,xs[i.toNat]? =some x->K x) (d:∀x,(bp (sh.enc x)).length=sz:=by exact λ_=>rfl) (f:0<sz:=by omega) (a:0<=i:=by omega) (c:i<(xs.length:Int):=by omega):bF l.base l.len i/\aR none sh h (sat l.base sz i) K:=r.get d f a c e
theorem Rs.pL {c:Bool} (r:Rs h sh sz l xs) (f:sh.T) (j:∀x,(bp (sh.enc x)).length=sz) (m:0<sz) (a:c=true->0<=i/\i<(xs.length:Int)) (d:∀x,(c=true->xs[i.toNat]? =some x)->K x):
  (c=true->bF l.base l.len i)/\aR (some c) sh h (sat l.base sz i) K:=by
 cases c with
 | false=>exact ⟨λe=>(by cases e),f,λe=>(by cases e),d f λe=>(by cases e)⟩
 | true=>obtain ⟨g,x,n,k⟩:=Rw.read r j m (a rfl).1 (by rw [r.1];exact (a rfl).2);exact ⟨λ_=>g,x,λ_=>k,d x λ_=>n⟩
theorem cT {a:Addr} (x:sh.T) (d:bf h a (bp (sh.enc x))) (c:K x):aR none sh h a K:=⟨x,d,c⟩
theorem aJ {a:Type} {x:a} {K:a->Prop} (c:K x):aI x K:=λ_ e=>e▸c
theorem wrap64 {n:Int} (a: -9223372036854775808<=n) (c:n<9223372036854775808):yw n=n:=by
 (try unfold yw);unfold IntKind.wrap
 simp only [IntKind.signed,IntKind.bits];grind
theorem aT {n:Int} (a: -9223372036854775808<=n:=by omega) (c:n<9223372036854775808:=by omega):yw n=n:=wrap64 a c
end
theorem uP {g:Type} {h0 h:Hp} {sz:Nat} {enc:g->List Value} {c:List Value} {xs:List g} {K:Addr->Hp->Prop} (p:h0<=h) (k:c=xs.flatMap enc) (f:∀x,(enc x).length=sz)
  (l:∀a d,h<=d->Own h0 d sz enc ⟨some a,xs.length,xs.length⟩ xs->K a d):bh c K h:=by
 intro b t hb;have m:h<=h.set b (.cells c.toArray t (0,0)):=λi o e=>by
  have n:i≠b:=λq=>by grind
  simp [Hp.set,n,e]
 refine l _ _ m ⟨rfl,Nat.le_refl _,.inr ⟨b,c,t,rfl,by simp [Hp.set],?_,?_,?_⟩⟩
 ·rw [k,jz f]
 ·have:(xs.length*sz)=(xs.flatMap enc).length:=(jz f xs).symm;grind
 ·cases j:h0 b with
  | none=>rfl
  | some r=>rw [p _ _ j] at hb;cases hb
def qd (h b:Hp):Prop:=∀a v,dd h a=some v->dd b a=some v
theorem qd.of_le {h a:Hp} (b:h<=a):qd h a:=λ_ _ e=>Kb b e
theorem Ie {h c:Hp} (d:qd h c) {a:Addr} {b:List Value} (e:bf h a b):bf c a b:=λi v hv=>d _ _ (e i v hv)
theorem Rw.ck {d:Type} {h b:Hp} {sz:Nat} {enc:d->List Value} {l:Sl} {c:List d} (k:qd h b) (r:Rw h sz enc l c):Rw b sz enc l c:=by obtain ⟨e,f,g⟩:=r;refine ⟨e,f,g.imp id ?_⟩;rintro ⟨a,i,j⟩;exact ⟨a,i,Ie k j⟩
theorem VG {h:Hp} {m:Nat} {o b:Obj} (e:h m=some o) (f:isCells o=false):qd h (h.set m b):=by
 intro a v hv;obtain ⟨c,t,fr,hb,j,i⟩:=EV hv;have g:a.block≠m:=λd=>by rw [d,e] at hb;cases hb;cases f
 unfold dd at hv ⊢;have:(h.set m b) a.block=h a.block:=by simp [Hp.set,g]
 rw [this];exact hv
theorem ni {h:Hp} {b:Nat} {o:Obj} (d:h b=none):h<=h.set b o:=λa g e=>by
 have f:a≠b:=λc=>by rw [c,d] at e;cases e
 simp [Hp.set,f,e]
theorem nI {h:Hp} {b:Nat} {o:Obj}:(h.set b o) b=some o:=by simp [Hp.set]
theorem wG {h a:Hp} {b:Nat} {o:Obj} (f:a<=h) (g:a b=none):a<=h.set b o:=λc j e=>by
 have i:c≠b:=λd=>by rw [d,g] at e;cases e
 simp only [Hp.set,i,if_false];exact f _ _ e
theorem uu {a h:Hp} {b:Nat} (d:a<=h) (c:h b=none):a b=none:=by
 cases e:a b with
 | none=>rfl
 | some o=>rw [d _ _ e] at c;cases c
theorem Et {h:Hp} {b t:Nat} {cs:List Value}:bf (h.set b (.cells cs.toArray t (0,0))) ⟨b,0,none⟩ cs:=λi v hv=>by rw [kK,Dc nI,Nat.zero_add];exact hv
theorem uJ {a:Type} {A:(a->Hp->Prop)->Hp->Prop} {K:a->Hp->Prop} {h:Hp} (b:A K h):cY (some true) A K h:=⟨λ_=>b,λe=>by cases e⟩
theorem aP {p:Addr} {c:Option Bool} {K:Addr->Prop} (a:K p):ai c (some p) K:=by
 refine ⟨p,?_,a⟩;cases c with
 | none=>rfl
 | some b=>exact λ_=>rfl
theorem Dy {P:Program} {t:Nat} {d:TypeDesc} (b:P.underlying t=some d) {K:TypeDesc->Hp->Prop} {h:Hp} (a:K d h):da P (underlying t) K h:=by
 show da P (match P.underlying t with
  | some d=>Sem.pure d
  | none=>_) K h
 rw [b];exact a
theorem C5 {P:Program} {tb:Tb} (ok:tb.Ok P) {t:Nat} {e:Ty} (f:tb.ty t=some e) {K:Value->Hp->Prop} {h:Hp} (g:K e.zero h):da P (zeroValue t) K h:=by
 obtain ⟨i,b,_,_,c⟩:=ok.info t e f;have key:da P (match P.info? t with
  | some d=>(match d.zero with
   | some v=>Sem.pure v
   | none=>unsupported (.resourceLimit "a value of more than 2^22 cells"))
  | none=>stuck "no such type") K h:=by
  rw [b];dsimp only;rw [c];exact g
 cases a:P.info? t with
 | none=>rw [b] at a;cases a
 | some d=>
  rw [a] at key;show da P (Sem.bind (match P.info? t with
   | some d=>Sem.pure d
   | none=>_) _) K h
  rw [a];exact key
theorem Ir {P:Program} {s:Sem Value} {h:Hp} {v:Value} (e:da P s (λu b=>u=v/\b=h) h):iC P s h v:=by intro w g;obtain ⟨a,j,b,f,⟨c,d⟩,i⟩:=LJ s g e;subst c;subst d;exact ⟨j,f,i⟩
theorem ES {P:Program} {s:Sem Value} {h:Hp} {v:Value} (a:∀w,s.run P w=.ok v w):iC P s h v:=λw b=>⟨w,a w,.refl b⟩
theorem Oj {P:Program} {t e:Nat} {x y:Operand} {h:Hp} (g:P.underlying t=some (.slice e)) (s:Sl):iC P (cS .eql t x y s.v (.slice none 0 0)) h (.bool s.base.isNone):=by
 have key:∀d,da P (Op.equalIn (d+1) t s.v (.slice none 0 0)) (λu c=>u=s.base.isNone/\c=h) h:=by
  intro d;unfold Op.equalIn;refine (CP _ _).2 (Dy g ?_);cases hb:s.base with
  | none=>simp only [Sl.v,hb];exact ⟨rfl,rfl⟩
  | some a=>simp only [Sl.v,hb];exact ⟨rfl,rfl⟩
 refine Ir ?_;show da P (Sem.bind (Op.equal t s.v (.slice none 0 0)) λb=>Sem.pure (Value.bool b)) _ h;refine (CP _ _).2 (ZR _ (λa k f=> ?_) (key 9999));obtain ⟨rfl,rfl⟩:=f;exact ⟨rfl,rfl⟩
theorem PS {h:Hp} {a:Addr} {b:List Value} (e:bf h a b) (n:Nat):bf h (a.add n) (b.drop n):=λi v hv=>by rw [tF];exact e (n+i) v (by simpa [List.getElem?_drop] using hv)
theorem zl {c:Type} {sz:Nat} {enc:c->List Value} (b:∀x,(enc x).length=sz):∀(a:List c) (n:Nat),(a.drop n).flatMap enc=(a.flatMap enc).drop (n*sz)
 | [],n=>by simp
 | x::a,0=>by simp
 | x::a,n+1=>by simp only [List.drop_succ_cons,List.flatMap_cons];have e:(enc x).drop (n*sz+sz)=[]:=List.drop_eq_nil_of_le (by rw [b];omega);rw [zl b a n,Nat.add_mul,Nat.one_mul,List.drop_append,b,e,List.nil_append,Nat.add_sub_cancel]
theorem AM {c:Type} {sz:Nat} {enc:c->List Value} (b:∀x,(enc x).length=sz):∀(a:List c) (n:Nat),(a.take n).flatMap enc=(a.flatMap enc).take (n*sz)
 | [],n=>by simp
 | x::a,0=>by simp
 | x::a,n+1=>by simp only [List.take_succ_cons,List.flatMap_cons];have e:(enc x).take (n*sz+sz)=enc x:=List.take_of_length_le (by rw [b];omega);rw [AM b a n,Nat.add_mul,Nat.one_mul,List.take_append,b,e,Nat.add_sub_cancel]
theorem Rw.cut {k:Type} {h:Hp} {sz:Nat} {enc:k->List Value} {l:Sl} {d:List k} (r:Rw h sz enc l d) (g:∀x,(enc x).length=sz) {a b c n m:Nat} (z:a<=b) (hb:b<=d.length) (B:b<=c) (s:n=b-a):
  Rw h sz enc ⟨be l.base sz a c,n,m⟩ ((d.drop a).take (b-a)):=by
 obtain ⟨w,y,o⟩:=r;have j:((d.drop a).take (b-a)).length=b-a:=by rw [List.length_take,List.length_drop];omega
 refine ⟨s.trans j.symm,jz g _,?_⟩;rw [j];by_cases f:(b-a)*sz=0
 ·exact .inl f
 ·right;have A:b-a≠0:=λe=>f (by rw [e,Nat.zero_mul]);have t:sz≠0:=λe=>f (by rw [e,Nat.mul_zero]);have u:d.length*sz≠0:=Nat.mul_ne_zero (by omega) t;obtain ⟨p,hp,q⟩:=o.resolve_left u;refine ⟨p.add (a*sz),?_,λi v hv=> ?_⟩
  ·unfold be;rw [if_neg (show ¬c=a by omega),hp];rfl
  ·rw [AM g,zl g,List.getElem?_take] at hv;split at hv
   ·exact PS q (a*sz) i v hv
   ·cases hv
structure Mv (F:List Nat) (h:Hp) (F':List Nat) (h':Hp):Prop where
 bK:∀b o,h b=some o->b∉F->h' b=some o
 from_:∀b∈F',b∈F\/h b=none
theorem Mv.refl (F:List Nat) (h:Hp):Mv F h F h:=⟨λ_ _ e _=>e,λ_ e=>.inl e⟩
theorem Mv.trans {F d f:List Nat} {h g j:Hp} (a:Mv F h d g) (b:Mv d g f j):Mv F h f j:=by
 refine ⟨λi o e c=>b.bK i o (a.bK i o e c) λk=> ?_,λi l=> ?_⟩
 ·rcases a.from_ i k with h1 | h1
  ·exact c h1
  grind
 ·rcases b.from_ i l with h1 | h1
  ·exact a.from_ i h1
  ·cases e:h i with
   | none=>exact .inr rfl
   | some o=>left;refine Classical.byContradiction λc=> ?_;rw [a.bK i o e c] at h1;cases h1
theorem Mv.of_le {h a:Hp} (F:List Nat) (c:h<=a):Mv F h F a:=⟨λb o e _=>c b o e,λ_ e=>.inl e⟩
theorem Mv.le {F c:List Nat} {h0 h d:Hp} (a:Mv F h c d) (f:h0<=h) (g:∀b∈F,h0 b=none):h0<=d/\∀b∈c,h0 b=none:=by
 refine ⟨λb o e=>a.bK b o (f b o e) λhb=>(by grind),λb hb=> ?_⟩;rcases a.from_ b hb with h1 | h1
 ·exact g b h1
 ·exact uu f h1
theorem Mv.wide {F c:List Nat} {h d:Hp} (a:Mv F h c d) (G:List Nat):Mv (F++G) h (c++G) d:=
 ⟨λb o e f=>a.bK b o e λhb=>f (List.mem_append_left _ hb),λb hb=>by
  rcases List.mem_append.1 hb with hb | hb
  ·rcases a.from_ b hb with h1 | h1
   ·exact .inl (List.mem_append_left _ h1)
   ·exact .inr h1
  grind⟩
theorem Mv.sub {F c G d:List Nat} {h f:Hp} (a:Mv F h c f) (g:∀b∈F,b∈G) (i:∀b∈d,b∈c\/b∈G\/h b=none):Mv G h d f:=
 ⟨λb o e j=>a.bK b o e λhb=>j (g b hb),λb hb=>by
  rcases i b hb with h3 | h3
  ·rcases a.from_ b h3 with h4 | h4
   ·grind
   ·exact .inr h4
  ·exact h3⟩
theorem Mv.set {h:Hp} {b:Nat} {o:Obj}:Mv [b] h [b] (h.set b o):=by refine ⟨λi x e c=> ?_,λi a=>.inl a⟩;have d:i≠b:=λf=>c (by grind);simp only [Hp.set,d,if_false];exact e
theorem Mv.new {h:Hp} {b:Nat} {o:Obj} (a:h b=none):Mv [] h [b] (h.set b o):=
 ⟨λi x e _=>ni a i x e,λi c=>.inr (by grind)⟩
def fw (h:Hp) (b:Nat) (a:List Value):Prop:=∃t,h b=some (.cells a.toArray t (0,0))
theorem fw.mv {F f:List Nat} {h d:Hp} {b:Nat} {c:List Value} (k:fw h b c) (a:Mv F h f d) (g:b∉F):fw d b c:=by obtain ⟨t,e⟩:=k;exact ⟨t,a.bK b _ e g⟩
theorem fw.le {h c:Hp} {b:Nat} {a:List Value} (k:fw h b a) (d:h<=c):fw c b a:=by obtain ⟨t,e⟩:=k;exact ⟨t,d _ _ e⟩
theorem fw.known {h:Hp} {b:Nat} {a:List Value} (k:fw h b a):h b≠none:=by obtain ⟨t,e⟩:=k;rw [e];simp
def at_ (b off:Nat):Addr:=⟨b,off,none⟩
theorem fw.df {h:Hp} {b:Nat} {cs:List Value} (k:fw h b cs) {off n:Nat} {a:List Value} (e:(cs.drop off).take n=a):bf h ⟨b,off,none⟩ a:=by obtain ⟨t,hb⟩:=k;intro i v hv;rw [kK,Dc hb];grind
theorem fw.sZ {h:Hp} {b:Nat} {a:List Value} (k:fw h b a) {off:Nat}:∀n,off+n<=a.length->rm h ⟨b,off,none⟩ n
 | 0,_=>trivial
 | n+1,c=>by
  obtain ⟨t,hb⟩:=k;refine ⟨fw.sZ ⟨t,hb⟩ n (by omega),⟨a[off+n]'(by omega),?_⟩,?_⟩
  ·rw [kK,Dc hb];simp
  ·rw [kK];unfold gM;simp [hb]
theorem fw.put {h:Hp} {b:Nat} {a new:List Value} (k:fw h b a) {off:Nat} (d:off+new.length<=a.length):
  fw (kI h ⟨b,off,none⟩ new 0) b (a.take off++new++a.drop (off+new.length))/\∀c,c≠b->(kI h ⟨b,off,none⟩ new 0) c=h c:=by
 obtain ⟨t,hb⟩:=k;obtain ⟨e,f⟩:=yj b t new h 0 off a (by simpa using d) hb;rw [Nat.add_zero,zJ _ _ _ d] at e;exact ⟨⟨t,e⟩,f⟩
theorem Mv.kV {h c:Hp} {b:Nat} (g:∀a,a≠b->c a=h a):Mv [b] h [b] c:=
 ⟨λi o e f=>by grind,λi d=>.inl d⟩
theorem u5 {h:Hp} {b:Nat} {cs new:List Value} {off:Nat} {K:Hp->Prop} (k:fw h b cs) (c:off+new.length<=cs.length)
  (d:∀a,Mv [b] h [b] a->fw a b (cs.take off++new++cs.drop (off+new.length))->K a):cJ h ⟨b,off,none⟩ new K:=by
 obtain ⟨e,f⟩:=k.put c;exact ⟨k.sZ _ c,d _ (Mv.kV f) e⟩
section
variable {α:Type} {h:Hp} {sz:Nat} {enc:α->List Value} {l:Sl} {xs:List α}
def du (h:Hp) (sz:Nat) (enc:α->List Value) (l:Sl) (xs:List α) (F:List Nat):Prop:=
 l.len=xs.length/\l.len<=l.cap/\((l.base=none/\l.cap=0/\F=[])\/
  ∃(b:Nat) (a:List Value),l.base=some ⟨b,0,none⟩/\F=[b]/\fw h b a/\a.length=l.cap*sz/\a.take (l.len*sz)=xs.flatMap enc)
theorem du.own {F:List Nat} {h0:Hp} (o:du h sz enc l xs F) (m:∀b∈F,h0 b=none):Own h0 h sz enc l xs:=by
 obtain ⟨d,e,f⟩:=o;refine ⟨d,e,?_⟩;rcases f with ⟨a,c,_⟩ | ⟨b,g,a,rfl,⟨t,i⟩,j,k⟩
 ·exact .inl ⟨a,c⟩
 grind
theorem du.rw {F:List Nat} (o:du h sz enc l xs F) (a:∀x,(enc x).length=sz):Rw h sz enc l xs:=(o.own (h0:=λ_=>none) λ_ _=>rfl).rw a
theorem Own.yb {c:Hp} (o:Own c h sz enc l xs):∃F,du h sz enc l xs F/\∀b∈F,c b=none:=by
 obtain ⟨d,e,m⟩:=o;rcases m with ⟨a,g⟩ | ⟨b,f,t,a,i,j,k,p⟩
 ·exact ⟨[],⟨d,e,.inl ⟨a,g,rfl⟩⟩,λb hb=>by cases hb⟩
 ·exact ⟨[b],⟨d,e,.inr ⟨b,f,a,rfl,⟨t,i⟩,j,k⟩⟩,λn hb=>by grind⟩
theorem du.known {F:List Nat} (o:du h sz enc l xs F):∀b∈F,h b≠none:=by
 obtain ⟨_,_,c⟩:=o;rcases c with ⟨_,_,rfl⟩ | ⟨b,e,_,rfl,a,_,_⟩
 ·simp
 ·intro d hb;rw [List.mem_singleton.1 hb];exact a.known
theorem du.same {F:List Nat} {a:Hp} (o:du h sz enc l xs F) (k:∀b∈F,a b=h b):du a sz enc l xs F:=by obtain ⟨f,g,i⟩:=o;refine ⟨f,g,i.imp id ?_⟩;rintro ⟨b,c,d,rfl,⟨t,j⟩,e⟩;exact ⟨b,c,d,rfl,⟨t,by grind⟩,e⟩
theorem du.mv {F G d:List Nat} {c:Hp} (o:du h sz enc l xs F) (a:Mv G h d c) (n:∀b∈F,b∉G):du c sz enc l xs F:=by obtain ⟨j,k,m⟩:=o;refine ⟨j,k,m.imp id ?_⟩;rintro ⟨b,e,f,rfl,g,i⟩;exact ⟨b,e,f,rfl,g.mv a (n b (List.mem_singleton.2 rfl)),i⟩
theorem sQ {c:List Value} {K:Addr->Hp->Prop} (e:c=xs.flatMap enc) (d:∀x,(enc x).length=sz)
  (f:∀b a,h b=none->h<=a->Mv [] h [b] a->du a sz enc ⟨some ⟨b,0,none⟩,xs.length,xs.length⟩ xs [b]->K ⟨b,0,none⟩ a):bh c K h:=by
 intro b t hb;refine f b _ hb (ni hb) (Mv.new hb) ⟨rfl,Nat.le_refl _,.inr ⟨b,c,rfl,rfl,⟨t,nI⟩,?_,?_⟩⟩
 ·rw [e,jz d]
 ·have:(xs.length*sz)=(xs.flatMap enc).length:=(jz d xs).symm;grind
theorem xN {F:List Nat} {zero:List Value} {bytes:Nat} {x:Sl} {d:List α} {K:Sl->Hp->Prop} (o:du h sz enc l xs F) (r:Rw h sz enc x d) (f:∀x,(enc x).length=sz) (J:∀x,ji (enc x)=true)
  (N:zero.length=sz) (hb:xs.length+d.length<=140737488355328/\(xs.length+d.length)*bytes<=140737488355328)
  (n:∀w k p,du k sz enc w (xs++d) p->Mv F h p k->K w k):fu sz bytes zero l x K h:=by
 have L:=o.rw f;obtain ⟨g,C,D⟩:=o;obtain ⟨i,Q⟩:=r;refine ⟨d.flatMap enc,by grind,xs.flatMap enc,by rw [g];exact L.2,by grind,tn J d,λu=> ?_,λu c b t G E=> ?_⟩
 ·rcases D with ⟨e,B,rfl⟩ | ⟨b,q,e,rfl,s,H,M⟩
  ·have y:d.length=0:=by omega
   have z:d=[]:=List.length_eq_zero_iff.1 y;subst z;refine ⟨λa m=>(by grind),?_⟩;have j:gx h l.base (l.len*sz) (([]:List α).flatMap enc)=h:=by rw [e];rfl
   rw [j,i];exact n _ h [] ⟨by simp [g],by simpa using C,.inl ⟨e,B,rfl⟩⟩ (Mv.refl _ _)
  ·have v:l.len*sz+(d.flatMap enc).length<=q.length:=by rw [H,jz f,<-Nat.add_mul];exact Nat.mul_le_mul_right sz (by omega)
   obtain ⟨O,P⟩:=s.put v;refine ⟨λa m=> ?_,?_⟩
   ·rw [e] at m;cases m;rw [kK,Nat.zero_add];refine s.sZ _ ?_;rw [i,<-jz f d];exact v
   ·have j:gx h l.base (l.len*sz) (d.flatMap enc)=kI h ⟨b,l.len*sz,none⟩ (d.flatMap enc) 0:=by rw [e];simp only [gx,kK,Nat.zero_add]
    rw [j];refine n _ _ [b] ⟨by simp [g,i],u,.inr ⟨b,_,e,rfl,O,?_,?_⟩⟩ (Mv.kV P)
    ·grind
    ·have A:(l.len+x.len)*sz=(q.take (l.len*sz)++d.flatMap enc).length:=by rw [List.length_append,M,jz f,jz f,g,i,Nat.add_mul]
     grind
 ·have I:Mv F h [b] (h.set b (.cells (xs.flatMap enc++d.flatMap enc++fC zero (c-(l.len+x.len))).toArray t (0,0))):=
   (Mv.new E).sub (λb hb=>by cases hb) λb hb=>.inl hb
  refine n _ _ [b] ⟨by simp [g,i],G,.inr ⟨b,xs.flatMap enc++d.flatMap enc++fC zero (c-(l.len+x.len)),rfl,rfl,⟨t,nI⟩,?_,?_⟩⟩ I
  ·rw [List.length_append,List.length_append,jz f,jz f,yV,N,<-Nat.add_mul,<-Nat.add_mul];grind
  ·have A:(l.len+x.len)*sz=(xs.flatMap enc++d.flatMap enc).length:=by rw [List.length_append,jz f,jz f,g,i,Nat.add_mul]
   grind
end
theorem zj {F e E:List Nat} {k d:Hp} (m:Mv F k e d) (f:∀c∈E,k c≠none) (g:∀c∈E,c∉F):∀c∈E,d c=k c:=λc a=>by
 cases b:k c with
 | none=>exact absurd b (f c a)
 | some o=>exact m.bK c o b (g c a)
theorem Mv.less {F d E:List Nat} {h e:Hp} (a:Mv F h d e) (f:∀c∈E,c∈d):Mv F h E e:=⟨a.bK,λb hb=>a.from_ b (f b hb)⟩
structure dI where
 R:Hp->(Nat->Prop)->Prop
 same:∀ {k k':Hp} {F:Nat->Prop},R k F->(∀b,F b->k' b=k b)->R k' F
 known:∀ {k:Hp} {F:Nat->Prop},R k F->∀b,F b->k b≠none
def Has (h0:Hp) (A:dI) (k:Hp):Prop:=h0<=k/\∃F,A.R k F/\∀b,F b->h0 b=none
def dI.star (A B:dI):dI where
 R k F:=∃f g:Nat->Prop,(∀b,F b↔f b\/g b)/\(∀b,f b->¬g b)/\A.R k f/\B.R k g
 same:=by rintro k i F ⟨f,g,e,d,a,b⟩ h;exact ⟨f,g,e,d,A.same a λc hc=>h c ((e c).2 (.inl hc)),B.same b λc hc=>h c ((e c).2 (.inr hc))⟩
 known:=by
  rintro k F ⟨f,g,e,d,a,b⟩ c hc;rcases (e c).1 hc with hc | hc
  ·exact A.known a c hc
  ·exact B.known b c hc
def dI.fact (p:Prop):dI:=⟨λ_ F=>p/\∀b,¬F b,λh _=>h,λh b hb=>absurd hb (h.2 b)⟩
def dI.some_ {b:Type} (A:b->dI):dI:=⟨λk F=>∃x,(A x).R k F,λ⟨x,h⟩ a=>⟨x,(A x).same h a⟩,λ⟨x,h⟩=>(A x).known h⟩
def dI.first (A:Nat->dI):Nat->dI
 | 0=>.fact True
 | n+1=>(dI.first A n).star (A n)
noncomputable def Hp.less (k:Hp) (F:Nat->Prop):Hp:=λb=>open Classical in if F b then none else k b
theorem Hp.uc {k:Hp} {F:Nat->Prop}:k.less F<=k:=λb o e=>by unfold Hp.less at e;grind
theorem Hp.nM {k:Hp} {F:Nat->Prop} {b:Nat} (h:¬F b):k.less F b=k b:=if_neg h
theorem Hp.tZ {k:Hp} {F:Nat->Prop} {b:Nat} (h:F b):k.less F b=none:=if_pos h
section
variable {h0 h1 k f:Hp} {A g B C D:dI}
theorem Has.le (o:Has h0 A k):h0<=k:=o.1
theorem Has.fst (o:Has h0 (A.star B) k):∃h1,h0<=h1/\Has h1 A k/\(∃i,B.R h1 i/\∀b,i b->h0 b=none)/\∀g f,Has h1 g f->Has h0 (g.star B) f:=by
 obtain ⟨w,F,⟨l,i,e,d,a,b⟩,u⟩:=o;have n:B.R (k.less l) i:=B.same b λc hc=>Hp.nM λh=>d c h hc;have f2:∀b,i b->h0 b=none:=λc hc=>u c ((e c).2 (.inr hc));have p:h0<=k.less l:=λc j m=>by
  have:¬l c:=λh=>by grind
  rw [Hp.nM this];exact w c j m
 refine ⟨k.less l,p,⟨Hp.uc,l,a,λc hc=>Hp.tZ hc⟩,⟨i,n,f2⟩,λg f j=> ?_⟩;obtain ⟨r,q,s,v⟩:=j;refine ⟨Hp.le_trans p r,λc=>q c\/i c,⟨q,i,λ_=>Iff.rfl,λc hc t=> ?_,s,B.same n λc hc=> ?_⟩,λc hc=> ?_⟩
 ·exact B.known n c t (v c hc)
 ·cases m:(k.less l) c with
  | none=>exact absurd m (B.known n c hc)
  | some j=>exact r c j m
 ·rcases hc with hc | hc
  ·cases m:h0 c with
   | none=>rfl
   | some j=>have:=p c j m;grind
  ·exact f2 c hc
theorem Has.map (h:∀k F,A.R k F->g.R k F) (o:Has h0 A k):Has h0 g k:=by obtain ⟨c,F,a,b⟩:=o;exact ⟨c,F,h k F a,b⟩
theorem E2 {F:Nat->Prop} (h:(A.star B).R k F):(B.star A).R k F:=by obtain ⟨i,j,e,d,a,b⟩:=h;exact ⟨j,i,λc=>(e c).trans or_comm,λc h1 l=>d c l h1,b,a⟩
theorem LU {F:Nat->Prop} (h:((A.star B).star C).R k F):(A.star (B.star C)).R k F:=by
 obtain ⟨o,j,e,d,⟨n,i,l,p,a,b⟩,c⟩:=h;refine ⟨n,λx=>i x\/j x,λx=> ?_,λx h1 m=> ?_,a,i,j,λ_=>Iff.rfl,λx h1 m=>d x ((l x).2 (.inr h1)) m,b,c⟩
 ·rw [e,l,or_assoc]
 grind
theorem zm {F:Nat->Prop} (j:∀F,A.R k F->C.R k F) (hb:∀F,B.R k F->D.R k F) (h:(A.star B).R k F):(C.star D).R k F:=by obtain ⟨c,i,e,d,a,b⟩:=h;exact ⟨c,i,e,d,j _ a,hb _ b⟩
theorem Has.comm (o:Has h0 (A.star B) k):Has h0 (B.star A) k:=o.map λ_ _=>E2
theorem Has.assoc (o:Has h0 ((A.star B).star C) k):Has h0 (A.star (B.star C)) k:=o.map λ_ _=>LU
theorem Has.vy (o:Has h0 (A.star (B.star C)) k):Has h0 ((A.star B).star C) k:=o.map λ_ _ h=>E2 (LU (E2 (LU (E2 h))))
theorem Has.snd (o:Has h0 (A.star B) k):∃h1,h0<=h1/\Has h1 B k/\(∃h,A.R h1 h/\∀b,h b->h0 b=none)/\∀e f,Has h1 e f->Has h0 (A.star e) f:=by obtain ⟨h1,a,b,c,d⟩:=o.comm.fst;exact ⟨h1,a,b,c,λe f i=>(d e f i).comm⟩
theorem Has.left (o:Has h0 (A.star B) k):Has h0 A k:=by obtain ⟨l,F,⟨h,m,e,d,a,b⟩,j⟩:=o;exact ⟨l,h,a,λc i=>j c ((e c).2 (.inl i))⟩
theorem Has.right (o:Has h0 (A.star B) k):Has h0 B k:=o.comm.left
theorem Has.mono (o:Has h1 A k) (c:h0<=h1):Has h0 A k:=by obtain ⟨h,F,a,d⟩:=o;exact ⟨Hp.le_trans c h,F,a,λb hb=>uu c (d b hb)⟩
theorem Has.grow (o:Has h0 A k) (c:k<=f):Has h0 A f:=by
 obtain ⟨h,F,a,d⟩:=o;refine ⟨Hp.le_trans h c,F,A.same a λb hb=> ?_,d⟩;cases e:k b with
 | none=>exact absurd e (A.known a b hb)
 | some i=>exact c b i e
theorem Has.beside (o:Has h0 A k) (n:Has k B f):Has h0 (A.star B) f:=by
 obtain ⟨h,F,a,l⟩:=o;obtain ⟨i,G,b,d⟩:=n;refine ⟨Hp.le_trans h i,λc=>F c\/G c,⟨F,G,λ_=>Iff.rfl,λc h1 j=>A.known a c h1 (d c j),A.same a λc hc=> ?_,b⟩,λc hc=> ?_⟩
 ·cases e:k c with
  | none=>exact absurd e (A.known a c hc)
  | some m=>exact i c m e
 ·rcases hc with hc | hc
  ·exact l c hc
  ·exact uu h (d c hc)
theorem Has.carry {X:dI} (put:∀f,Has h1 A f->Has h0 X f) (o:Has h1 (A.star B) k):Has h0 (X.star B) k:=by
 obtain ⟨p,F,⟨l,j,e,d,a,b⟩,n⟩:=o;have ol:Has h1 A (k.less j):=⟨λc r m=>by
  have q:¬j c:=λh=>by grind
  rw [Hp.nM q];exact p c r m,l,A.same a λc i=>Hp.nM (λh=>d c i h),λc i=>n c ((e c).2 (.inl i))⟩
 exact (put _ ol).beside ⟨Hp.uc,j,b,λc i=>Hp.tZ i⟩
theorem Has.fact {p:Prop} (hp:p) (a:h0<=k):Has h0 (.fact p) k:=⟨a,λ_=>False,⟨hp,λ_ h=>h⟩,λ_ h=>h.elim⟩
theorem Has.vV {p:Prop} (o:Has h0 (.fact p) k):p:=by obtain ⟨_,_,h,_⟩:=o;exact h.1
theorem Has.fB {p:Prop} (o:Has h0 A k) (hp:p):Has h0 (A.star (.fact p)) k:=o.beside (Has.fact hp (Hp.le_refl _))
theorem Has.j6 {p:Prop} (o:Has h0 (A.star (.fact p)) k):Has h0 A k/\p:=⟨o.left,o.right.vV⟩
theorem Has.ex {d:Type} {A:d->dI}:Has h0 (.some_ A) k↔∃x,Has h0 (A x) k:=
 ⟨λ⟨c,F,⟨x,a⟩,b⟩=>⟨x,c,F,a,b⟩,λ⟨x,c,F,a,b⟩=>⟨c,F,⟨x,a⟩,b⟩⟩
end
theorem uq {A B:Nat->dI}:∀ {n:Nat},(∀i,i<n->A i=B i)->dI.first A n=dI.first B n
 | 0,_=>rfl
 | n+1,h=>by show (dI.first A n).star (A n)=(dI.first B n).star (B n);rw [uq λi a=>h i (by omega),h n (by omega)]
section
variable {h0 k:Hp} {A:Nat->dI} {B:dI}
theorem Has.one {n i:Nat} (J:i<n) (o:Has h0 (dI.first A n) k):∃f,h0<=f/\Has f (A i) k/\(∀j,j<n->j≠i->∃l,(A j).R f l)/\∀g h,Has f g h->Has h0 (dI.first (cp A i g) n) h:=by
 induction n generalizing h0 with
 | zero=>omega
 | succ n r=>
  by_cases e:i=n
  ·subst e;obtain ⟨f,a,b,c,d⟩:=Has.snd o;obtain ⟨l,H,x⟩:=c;refine ⟨f,a,b,λj q G=> ?_,λg h p=> ?_⟩
   ·have key:∀m (F:Nat->Prop),(dI.first A m).R f F->j<m->∃l,(A j).R f l:=by
     intro m
     induction m with
     | zero=>intro F _ q;omega
     | succ m r=>
      rintro F ⟨u,v,_,_,C,D⟩ q;by_cases e:j=m
      ·subst e;exact ⟨v,D⟩
      ·exact r u C (by omega)
    grind
   ·have:=d g h p;show Has h0 ((dI.first (cp A i g) i).star (cp A i g i)) h;rw [ki,uq (B:=A) λj q=>kA (by omega)];exact this
  ·obtain ⟨f,a,b,c,d⟩:=Has.fst o;obtain ⟨E,a2,w,x,y⟩:=r (h0:=f) (by omega) b;obtain ⟨l,s,I⟩:=c;refine ⟨E,Hp.le_trans a a2,w,λj q G=> ?_,λg h p=> ?_⟩
   ·by_cases z:j=n
    ·subst z;refine ⟨l,(A j).same s λb hb=> ?_⟩;cases t:f b with
     | none=>exact absurd t ((A j).known s b hb)
     | some p=>exact a2 b p t
    grind
   ·have:=d _ _ (y g h p);show Has h0 ((dI.first (cp A i g) n).star (cp A i g n)) h;rw [kA (by omega)];exact this
theorem Has.at_ {n i:Nat} (c:i<n) (o:Has h0 (dI.first A n) k):Has h0 (A i) k:=by obtain ⟨d,a,b,_,_⟩:=o.one c;exact b.mono a
end
def AU (b:Nat) (a:List Value):dI:=⟨λk F=>fw k b a/\∀c,F c↔c=b,λh f=>⟨h.1.imp λt e=>(by grind),h.2⟩,λh c d=>by rw [(h.2 c).1 d];exact h.1.known⟩
theorem Has.iN {d k:Hp} {b:Nat} {c:List Value} (o:Has d (AU b c) k):fw k b c/\d b=none:=by obtain ⟨_,F,⟨a,e⟩,f⟩:=o;grind
theorem Has.FO {a k:Hp} {b:Nat} {d:List Value} (f:a<=k) (hb:fw k b d) (g:a b=none):Has a (AU b d) k:=
 ⟨f,λc=>c=b,⟨hb,λ_=>Iff.rfl⟩,λc e=>by rw [e];exact g⟩
def dk (sh:Shape) (p:Addr) (x:sh.T):dI:=(AU p.block (bp (sh.enc x))).star (.fact (p=⟨p.block,0,none⟩))
section
variable {h0 k:Hp} {sh:Shape} {p:Addr} {x:sh.T}
theorem Has.qT (o:Has h0 (dk sh p x) k):∃b,p=⟨b,0,none⟩/\fw k b (bp (sh.enc x))/\h0 b=none:=⟨p.block,o.right.vV,(Has.left o).iN⟩
theorem Has.Au {b:Nat} (a:h0<=k) (hb:fw k b (bp (sh.enc x))) (c:h0 b=none):Has h0 (dk sh ⟨b,0,none⟩ x) k:=(Has.FO a hb c).fB rfl
theorem Has.ld (o:Has h0 (dk sh p x) k) {shf:Shape} (v:shf.T) {off:Nat} (hv:((bp (sh.enc x)).drop off).take (bp (shf.enc v)).length=bp (shf.enc v)) {K:shf.T->Prop} (a:K v):aR none shf k (p.add off) K:=by obtain ⟨b,rfl,hb,_⟩:=o.qT;refine ⟨v,?_,a⟩;rw [kK,Nat.zero_add];exact hb.df hv
theorem Has.u9 (o:Has h0 (dk sh p x) k) {shf:Shape} (v:shf.T) (hv:(bp (sh.enc x)).take (bp (shf.enc v)).length=bp (shf.enc v)) {K:shf.T->Prop} (a:K v):aR none shf k p K:=by obtain ⟨b,rfl,hb,_⟩:=o.qT;exact ⟨v,hb.df (off:=0) (by simpa using hv),a⟩
theorem Has.vR (o:Has h0 (dk sh p x) k) {shf:Shape} {c:Bool} (v:shf.T) {off:Nat} (hv:((bp (sh.enc x)).drop off).take (bp (shf.enc v)).length=bp (shf.enc v)) {K:shf.T->Prop} (a:K v):aR (some c) shf k (p.add off) K:=by obtain ⟨b,rfl,hb,_⟩:=o.qT;refine ⟨v,λ_=> ?_,a⟩;rw [kK,Nat.zero_add];exact hb.df hv
theorem Has.fb (o:Has h0 (dk sh p x) k) {off n:Nat} {vs:List Value} (hv:((bp (sh.enc x)).drop off).take n=vs):bf k (p.add off) vs:=by obtain ⟨b,rfl,hb,_⟩:=o.qT;rw [kK,Nat.zero_add];exact hb.df hv
theorem Has.st (o:Has h0 (dk sh p x) k) (x':sh.T) {off:Nat} {new:List Value} (g:off+new.length<=(bp (sh.enc x)).length) (l:(bp (sh.enc x)).take off++new++(bp (sh.enc x)).drop (off+new.length)=bp (sh.enc x'))
  {K:Hp->Prop} (f:∀a,Has h0 (dk sh p x') a->K a):cJ k (p.add off) new K:=by
 obtain ⟨b,rfl,hb,h⟩:=o.qT;rw [kK,Nat.zero_add];refine u5 hb g λa m i=>f a (Has.Au (λc d e=> ?_) (by grind) h);exact m.bK c d (o.1 c d e) λj=>by grind
theorem Has.Bq (o:Has h0 (dk sh p x) k) (a:sh.T) {new:List Value} (f:new.length<=(bp (sh.enc x)).length) (g:new++(bp (sh.enc x)).drop new.length=bp (sh.enc a))
  {K:Hp->Prop} (d:∀c,Has h0 (dk sh p a) c->K c):cJ k p new K:=by
 obtain ⟨b,e,_⟩:=o.qT;have:=o.st a (off:=0) (new:=new) (by omega) (by grind) d;subst e;simpa [kK] using this
theorem se {k:Hp} (x:sh.T) {c:List Value} (d:c=bp (sh.enc x)) {K:Addr->Hp->Prop} (e:∀p a,k<=a->Has k (dk sh p x) a->K p a):bh c K k:=by intro b t hb;refine e _ _ (ni hb) ?_;exact Has.Au (ni hb) ⟨t,by rw [<-d];exact nI⟩ hb
end
section
variable {P:Program} {h:Hp}
theorem cd {b c:Type} (s:Sem b) (f:b->Sem c) {K:c->Hp->Prop}:da P (s>>=f) K h↔da P s (λa h=>da P (f a) K h) h:=CP s f
theorem PT {t:Nat} {i:TypeInfo} (a:P.info? t=some i) {K:Nat->Hp->Prop} (b:K i.size h):da P (sizeOf t) K h:=by
 show da P (Sem.bind (match P.info? t with
  | some d=>Sem.pure d
  | none=>_) _) K h
 rw [a];exact b
theorem Ol {a:Addr} {o:Obj} (e:h a.block=some o) {K:Bool->Hp->Prop} (b:K (gM h a) h):da P (frozen a) K h:=⟨⟨o,e⟩,b⟩
theorem Oz {r:Nat} {o:Obj} (e:h r=some o) {K:Option (TypeId×Nat)->Hp->Prop} (a:K (DX o) h):da P (shape r) K h:=⟨o,e,a⟩
theorem Dz {b:Nat} {a:List Value} (k:fw h b a) (off:Nat):gM h ⟨b,off,none⟩=false:=by obtain ⟨t,e⟩:=k;unfold gM;simp [e]
theorem JG {b off:Nat} {a:List Value} (k:fw h b a) {K:Unit->Hp->Prop} (c:K () h):da P (noView ⟨b,off,none⟩) K h:=by obtain ⟨t,e⟩:=k;unfold noView viewAt;refine (cd _ _).2 ((cd _ _).2 (Oz (r:=b) e ?_));exact c
theorem HZ {b off:Nat} {d:List Value} (k:fw h b d) {K:Bool->Hp->Prop} (f:K false h):da P (stringish ⟨b,off,none⟩) K h:=by have c:=k;obtain ⟨t,e⟩:=k;unfold stringish;refine (cd _ _).2 (Ol (a:=⟨b,off,none⟩) e ?_);rw [Dz c];refine (cd _ _).2 (Oz (r:=b) e ?_);refine Ol (a:=⟨b,_,none⟩) e ?_;rw [Dz c];exact f
theorem UD {j z e:Nat} {i:TypeInfo} {a b c f o q p t:Nat} {s u:List Value} {K:Bool->Hp->Prop} (y:P.underlying j=some (.slice e)) (x:P.info? e=some i) (g:fw h a s) (k:fw h b u) (n:a≠b)
  (m:K false h):kE P (Extern.SlicesOverlaps.overlaps #[j,j] #[z] #[.slice (some ⟨a,c,none⟩) o q,.slice (some ⟨b,f,none⟩) p t]) bn K h:=by
 have v:((⟨a,c,none⟩:Addr).block !=(⟨b,f,none⟩:Addr).block)=true:=by simpa using n
 have w:((⟨a,c,none⟩:Addr).block==(⟨b,f,none⟩:Addr).block)=false:=by simpa using n
 obtain ⟨A,ea⟩:=id g;obtain ⟨tb,eb⟩:=id k;unfold kE;show da P (α:=Value) (underlying j>>=λd=>_) _ h;refine (cd _ _).2 (Dy y ?_);refine (cd _ _).2 (PT x ?_);dsimp only;by_cases l:o=0\/p=0\/i.size=0
 ·rw [if_pos l];exact ⟨false,rfl,m⟩
 ·rw [if_neg l];refine (cd _ _).2 (Ol (a:=⟨a,c,none⟩) ea ?_);refine (cd _ _).2 (Ol (a:=⟨b,f,none⟩) eb ?_);rw [v,Dz g];simp only [Bool.true_and,Bool.false_and,Bool.false_eq_true,if_false,if_true];refine (cd _ _).2 (JG g ?_);refine (cd _ _).2 (JG k ?_);refine (cd _ _).2 ?_;unfold mayBeOne;refine (cd _ _).2 (HZ g ?_);refine (cd _ _).2 (HZ k ?_);refine (cd _ _).2 ((cd _ _).2 (Oz (r:=a) ea ?_));refine (cd _ _).2 ((cd _ _).2 (Oz (r:=b) eb ?_));simp only [Bool.false_and,Bool.or_false];refine ⟨false,?_,m⟩;rw [w];rfl
theorem zxs {a:Addr}:∀(b:List Value) (i:Nat) {h:Hp} {K:Unit->Hp->Prop},ji b=true->(∀j,j<b.length->(∃v,dd h (a.add (i+j))=some v)/\gM h (a.add (i+j))=false)->
  K () (kI h a b i)->da P (storeCells a b i) K h
 | [],i,h,K,_,_,c=>c
 | v::b,i,h,K,d,m,c=>by
  obtain ⟨f,g⟩:=m 0 (by simp);rw [Nat.add_zero] at f g;have o:ji b=true:=by cases v<;>first | (exact d) | (cases d)
  have step:da P (storeCells a b (i+1)) K (h.put (a.add i) v):=by
   refine zxs b (i+1) o (λj n=> ?_) c;obtain ⟨⟨u,k⟩,l⟩:=m (j+1) (by simpa using n);have e:i+(j+1)=i+1+j:=by omega
   rw [e] at k l;exact ⟨KO ⟨u,k⟩,(by rw [KP];exact l)⟩
  show da P (Sem.store Mode.plain (a.add i) v (storeCells a b (i+1))) K h;cases v<;>first | (exact ⟨f,g,step⟩) | (cases d)
theorem KY {t e b off n c:Nat} {z:Value} {a:List Value} {K:Hp->Prop} (o:P.underlying t=some (.slice e)) (p:∀ {K:Value->Hp->Prop} {h:Hp},K z h->da P (zeroValue e) K h) (l:∀n,ji (fC (bp z) n)=true) (g:fw h b a)
  (s:off+n*(bp z).length<=a.length)
  (i:∀f,Mv [b] h [b] f->fw f b (a.take off++fC (bp z) n++a.drop (off+n*(bp z).length))->K f):
  nq P (Builtin.clear_ #[t] 0 #[.slice (some ⟨b,off,none⟩) n c]) uA K h:=by
 unfold nq kE;show da P (α:=Value) (underlying t>>=λd=>_) _ h;refine (cd _ _).2 (Dy o ?_);cases n with
 | zero=>refine ⟨(),rfl,i h (Mv.refl _ _) ?_⟩;simp [fC];exact g
 | succ n=>
  refine (cd _ _).2 ?_;refine p ?_;have q:(Builtin.zeroCells z.cells (n+1)).toList=fC (bp z) (n+1):=by rw [ER,pj]
  have u:(fC (bp z) (n+1)).length=(n+1)*(bp z).length:=yV _ _;obtain ⟨v,r⟩:=g.put (off:=off) (new:=fC (bp z) (n+1)) (by omega);have m:=g.sZ (off:=off) (fC (bp z) (n+1)).length (by omega);refine (cd _ _).2 ?_;rw [q];refine zxs _ 0 (l _) (λj k=> ?_) ⟨(),rfl,i _ (Mv.kV r) (by grind)⟩;rw [Nat.zero_add];exact E7 m j k
end
section
variable {α:Type} {h:Hp} {sz:Nat} {enc:α->List Value} {l:Sl} {xs:List α}
theorem Rw.vJ (r:Rw h sz enc l xs) (d:∀x,(enc x).length=sz) (k:0<sz) {sh:Shape} (g:α->sh.T) {j:Nat} (n:∀x,((enc x).drop j).take (bp (sh.enc (g x))).length=bp (sh.enc (g x))) {i:Int} (b:0<=i) (c:i<(xs.length:Int))
  {K:sh.T->Prop} (e:∀x,xs[i.toNat]? =some x->K (g x)):bF l.base l.len i/\aR none sh h ((sat l.base sz i).add j) K:=by
 obtain ⟨a,x,m,f⟩:=r.read d k b (by rw [r.1];exact c);refine ⟨a,g x,λq v hv=> ?_,e x m⟩;rw [tF];refine f (j+q) v ?_;grind
theorem Rw.OW (r:Rw h sz enc l xs) (m:∀x,(enc x).length=sz) (p:0<sz) {sh:Shape} (g:α->sh.T) {j:Nat} (n:∀x,((enc x).drop j).take (bp (sh.enc (g x))).length=bp (sh.enc (g x))) (d:sh.T) {c:Bool} {i:Int} (a:c=true->0<=i/\i<(xs.length:Int))
  {K:sh.T->Prop} (b:∀y,(c=true->∃x,xs[i.toNat]? =some x/\y=g x)->K y):(c=true->bF l.base l.len i)/\aR (some c) sh h ((sat l.base sz i).add j) K:=by
 cases c with
 | false=>exact ⟨λe=>(by cases e),d,λe=>(by cases e),b d λe=>(by cases e)⟩
 | true=>obtain ⟨a,k⟩:=a rfl;obtain ⟨f,y,s,o⟩:=r.vJ m p g n a k (K:=λy=>∃x,xs[i.toNat]? =some x/\y=g x) λx q=>⟨x,q,rfl⟩;exact ⟨λ_=>f,y,λ_=>s,b y λ_=>o⟩
theorem uS {b o a c:Nat} (d:c≠a):be (some ⟨b,o,none⟩) sz a c=some ⟨b,o+a*sz,none⟩:=by unfold be;rw [if_neg d];show some ((⟨b,o,none⟩:Addr).add (a*sz))=_;rw [kK]
theorem fw.rd {b:Nat} {a new:List Value} (k:fw h b a) {off n:Nat} (c:new.length=n) (e:(a.drop off).take n=new):qa h (some ⟨b,off,none⟩) n new:=⟨c,.inr ⟨_,rfl,k.df e⟩⟩
theorem DW {b off dl dc n:Nat} {c new:List Value} {x:Sl} {K:Int->Hp->Prop} (g:fw h b c) (p:min x.len dl=n) (f:qa h x.base (n*sz) new) (q:ji new=true) (m:off+n*sz<=c.length)
  (k:∀d,Mv [b] h [b] d->fw d b (c.take off++new++c.drop (off+n*sz))->K (n:Nat) d):fY sz ⟨some ⟨b,off,none⟩,dl,dc⟩ x K h:=by
 subst p;have o:new.length=min x.len dl*sz:=f.1;refine ⟨new,f,q,λa j=> ?_,?_⟩
 ·cases j;exact g.sZ _ m
 ·obtain ⟨i,r⟩:=g.put (off:=off) (new:=new) (by omega);have e:gx h (some ⟨b,off,none⟩) 0 new=kI h ⟨b,off,none⟩ new 0:=by simp only [gx,kK,Nat.add_zero]
  show K _ (gx h (some ⟨b,off,none⟩) 0 new);rw [e];rw [o] at i;exact k _ (Mv.kV r) i
theorem RA {bytes:Nat} {zero:List Value} {l:Sl} {m:Int} {e:List Value} {K:Sl->Hp->Prop} (j:0<=m) (k:qa h l.base (l.len*sz) e) (hb:l.len+m.toNat<=140737488355328/\(l.len+m.toNat)*bytes<=140737488355328)
  (n:ji (fC zero m.toNat)=true) (o:l.cap<l.len+m.toNat) (i:∀b c a,h b=none->l.len+m.toNat<=c->h<=a->Mv [] h [b] a->fw a b (e++fC zero m.toNat++fC zero (c-(l.len+m.toNat)))->K ⟨some ⟨b,0,none⟩,l.len+m.toNat,c⟩ a):
  yC sz bytes zero l m K h:=
 ⟨j,e,k,hb,n,λf=>absurd f (by omega),λ_ c b t g d=>i b c _ d g (ni d) (Mv.new d) ⟨t,nI⟩⟩
theorem Jq {bytes b off c g n:Nat} {zero:List Value} {x:Sl} {d new k:List Value} {K:Sl->Hp->Prop} (j:fw h b d) (v:qa h (some ⟨b,off,none⟩) (c*sz) k) (i:qa h x.base (x.len*sz) new) (t:x.len=n) (u:ji new=true)
  (hb:c+n<=140737488355328/\(c+n)*bytes<=140737488355328) (y:c+n<=g) (r:off+c*sz+n*sz<=d.length)
  (q:∀f,Mv [b] h [b] f->fw f b (d.take (off+c*sz)++new++d.drop (off+c*sz+n*sz))->K ⟨some ⟨b,off,none⟩,c+n,g⟩ f):fu sz bytes zero ⟨some ⟨b,off,none⟩,c,g⟩ x K h:=by
 subst t;have s:new.length=x.len*sz:=i.1;refine ⟨new,i,k,v,hb,u,λ_=>⟨λa p=> ?_,?_⟩,λo=>absurd o (by grind)⟩
 ·cases p;rw [kK];exact j.sZ _ r
 ·obtain ⟨m,w⟩:=j.put (off:=off+c*sz) (new:=new) (by omega);have e:gx h (some ⟨b,off,none⟩) (c*sz) new=kI h ⟨b,off+c*sz,none⟩ new 0:=by simp only [gx,kK]
  show K _ (gx h (some ⟨b,off,none⟩) (c*sz) new);rw [e];rw [s] at m;exact q _ (Mv.kV w) m
theorem C6 {xs:List α} {i:Nat} (x:α) (a:i<xs.length):xs.set i x=xs.take i++x::xs.drop (i+1):=by rw [List.set_eq_take_append_cons_drop,if_pos a]
theorem du.store {F:List Nat} (o:du h sz enc l xs F) (e:∀x,(enc x).length=sz) {i:Int} (k:0<=i) (y:i<(xs.length:Int)) (x:α) {K:Hp->Prop} (p:∀a,du a sz enc l (xs.set i.toNat x) F->Mv F h F a->K a):
  bF l.base l.len i/\cJ h (sat l.base sz i) (enc x) K:=by
 obtain ⟨t,j,u⟩:=o;rcases u with ⟨_,v,_⟩ | ⟨b,c,d,rfl,r,w,f⟩
 ·omega
 ·refine ⟨⟨by rw [d];simp,k,by omega⟩,?_⟩;have n:i.toNat<xs.length:=by omega
  have m:sat l.base sz i=⟨b,i.toNat*sz,none⟩:=by unfold sat;rw [d,Option.getD_some,kK,Nat.zero_add]
  rw [m];have z:i.toNat*sz+sz<=l.len*sz:=by have:=Nat.mul_le_mul_right sz (show i.toNat+1<=l.len by omega);grind
  have A:l.len*sz<=l.cap*sz:=Nat.mul_le_mul_right sz j;refine u5 r (by grind) λa s g=> ?_;rw [e] at g;refine p a ⟨by simp [t],j,.inr ⟨b,_,d,rfl,g,?_,?_⟩⟩ s
  ·grind
  ·rw [C6 x n];have t1:c.take (i.toNat*sz)=(xs.take i.toNat).flatMap enc:=by rw [AM e,<-f,List.take_take];congr 1;omega
   have t2:(c.drop (i.toNat*sz+sz)).take (l.len*sz-(i.toNat*sz+sz))=(xs.drop (i.toNat+1)).flatMap enc:=by rw [zl e,<-f,Nat.add_mul,Nat.one_mul,List.drop_take]
   have q:(c.take (i.toNat*sz)++enc x).length=i.toNat*sz+sz:=by grind
   rw [List.take_append,q,t2,List.take_of_length_le (by omega),t1];simp
end
section
variable {P:Program} {α:Type} {h:Hp} {sz:Nat} {enc:α->List Value}
def FF (P:Program) (sz bytes:Nat) (zero:List Value) (j k:Nat) (R:Sl->(Hp->Prop)->Hp->Prop) (s:Sl) (i:Int) (v:Sl) (Q:Sl->Hp->Prop) (h:Hp):Prop:=
 (((0:Int)<=i/\i<=((s.len:Nat):Int))/\aI (α:=Sl) ⟨(be s.base sz (Int.toNat i) s.cap),(s.len-(Int.toNat i)),(s.cap-(Int.toNat i))⟩ λ_=>
 (if (((v.len:Nat):Int)==(0:Int))=true then
 Q s h
 else
 (if (i==((s.len:Nat):Int))=true then
 fu sz bytes zero s v (λr b=>
 Q r b) h
 else
 (if (decide ((yw (((s.len:Nat):Int)+((v.len:Nat):Int)))>((s.cap:Nat):Int)))=true then
 (((0:Int)<=i/\i<=((s.cap:Nat):Int))/\aI (α:=Sl) ⟨(be s.base sz 0 s.cap),((Int.toNat i)-0),(s.cap-0)⟩ λa=>
 yC sz bytes zero a (yw ((yw (((s.len:Nat):Int)+((v.len:Nat):Int)))-i)) (λr b=>
 (((0:Int)<=i/\i<=((r.len:Nat):Int))/\aI (α:=Sl) ⟨(be r.base sz (Int.toNat i) r.cap),(r.len-(Int.toNat i)),(r.cap-(Int.toNat i))⟩ λg=>
 fY sz g v (λ_ c=>
 (((0:Int)<=(yw (i+((v.len:Nat):Int)))/\(yw (i+((v.len:Nat):Int)))<=((r.len:Nat):Int))/\aI (α:=Sl) ⟨(be r.base sz (Int.toNat (yw (i+((v.len:Nat):Int)))) r.cap),(r.len-(Int.toNat (yw (i+((v.len:Nat):Int))))),(r.cap-(Int.toNat (yw (i+((v.len:Nat):Int)))))⟩ λe=>
 (((0:Int)<=i/\i<=((s.len:Nat):Int))/\aI (α:=Sl) ⟨(be s.base sz (Int.toNat i) s.cap),(s.len-(Int.toNat i)),(s.cap-(Int.toNat i))⟩ λf=>
 fY sz e f (λ_ d=>
 Q r d) c))) b)) h)
 else
 (((0:Int)<=(yw (((s.len:Nat):Int)+((v.len:Nat):Int)))/\(yw (((s.len:Nat):Int)+((v.len:Nat):Int)))<=((s.cap:Nat):Int))/\aI (α:=Sl) ⟨(be s.base sz 0 s.cap),((Int.toNat (yw (((s.len:Nat):Int)+((v.len:Nat):Int))))-0),(s.cap-0)⟩ λa=>
 (((0:Int)<=(yw (i+((v.len:Nat):Int)))/\(yw (i+((v.len:Nat):Int)))<=((a.len:Nat):Int))/\aI (α:=Sl) ⟨(be a.base sz (Int.toNat (yw (i+((v.len:Nat):Int)))) a.cap),(a.len-(Int.toNat (yw (i+((v.len:Nat):Int))))),(a.cap-(Int.toNat (yw (i+((v.len:Nat):Int)))))⟩ λg=>
 kE P (Extern.SlicesOverlaps.overlaps #[j,j] #[k] #[v.v,g.v]) bn (λr b=>
 (if (!r)=true then
 (((0:Int)<=(yw (i+((v.len:Nat):Int)))/\(yw (i+((v.len:Nat):Int)))<=((a.len:Nat):Int))/\aI (α:=Sl) ⟨(be a.base sz (Int.toNat (yw (i+((v.len:Nat):Int)))) a.cap),(a.len-(Int.toNat (yw (i+((v.len:Nat):Int))))),(a.cap-(Int.toNat (yw (i+((v.len:Nat):Int)))))⟩ λe=>
 (((0:Int)<=i/\i<=((a.len:Nat):Int))/\aI (α:=Sl) ⟨(be a.base sz (Int.toNat i) a.cap),(a.len-(Int.toNat i)),(a.cap-(Int.toNat i))⟩ λf=>
 fY sz e f (λ_ c=>
 (((0:Int)<=i/\i<=((a.len:Nat):Int))/\aI (α:=Sl) ⟨(be a.base sz (Int.toNat i) a.cap),(a.len-(Int.toNat i)),(a.cap-(Int.toNat i))⟩ λl=>
 fY sz l v (λ_ d=>
 Q a d) c)) b))
 else
 (((0:Int)<=((s.len:Nat):Int)/\((s.len:Nat):Int)<=((a.len:Nat):Int))/\aI (α:=Sl) ⟨(be a.base sz (Int.toNat ((s.len:Nat):Int)) a.cap),(a.len-(Int.toNat ((s.len:Nat):Int))),(a.cap-(Int.toNat ((s.len:Nat):Int)))⟩ λe=>
 fY sz e v (λ_ c=>
 (((0:Int)<=i/\i<=((a.len:Nat):Int))/\aI (α:=Sl) ⟨(be a.base sz (Int.toNat i) a.cap),(a.len-(Int.toNat i)),(a.cap-(Int.toNat i))⟩ λf=>
 R f (λd=>Q a d) c)) b))) h))))))
theorem VI {bytes tS tR tE y:Nat} {i0:TypeInfo} {zero b1:List Value} {R:Sl->(Hp->Prop)->Hp->Prop} {s v:Sl} {d:List α} {e:α} {F:List Nat} {i:Nat} {Q:Sl->Hp->Prop}
  (ht:P.underlying tS=some (.slice tE)) (c0:P.info? tE=some i0) (r:∀x,(enc x).length=sz) (f0:0<sz) (D:∀x,ji (enc x)=true) (hz:zero.length=sz) (c5:∀n,ji (fC zero n)=true)
  (o:du h sz enc s d F) (I:Rw h sz enc v [e]) (hv:v.base=some ⟨y,0,none⟩) (kv:fw h y b1) (Z:y∉F) (hi:i<=d.length) (hb:d.length+1<=140737488355328/\(d.length+1)*bytes<=140737488355328)
  (hq:∀S z J,du z sz enc S (d.take i++e::d.drop i) J->Mv F h J z->Q S z):FF P sz bytes zero tS tR R s (i:Int) v Q h:=by
 have hs:=o.1;have e9:=o.2.1;have a8:v.len=1:=I.1;have w1:yw ((s.len:Int)+(v.len:Int))=(s.len:Int)+1:=by rw [a8,aT];rfl
 have w2:yw ((i:Int)+(v.len:Int))=((i+1:Nat):Int):=by rw [a8,aT];omega
 have d5:qa h v.base (1*sz) (enc e):=by simpa using I.2
 unfold FF;rw [w1,w2];have it:(i:Int).toNat=i:=by omega
 have c6:((i+1:Nat):Int).toNat=i+1:=by omega
 rw [it,c6];refine ⟨by omega,aJ ?_⟩;rw [if_neg (show ¬(((v.len:Int)==0)=true) by simp;omega)];by_cases e4:i=d.length
 ·rw [if_pos (show ((i:Int)==(s.len:Int))=true by simp;omega)];refine xN o I r D hz (by simpa using hb) λS z J o' m'=> ?_;grind
 rw [if_neg (show ¬(((i:Int)==(s.len:Int))=true) by simp;omega)];have e5:i<d.length:=by omega
 have N:∀a b:Nat,a<=b->a*sz<=b*sz:=λa b b6=>Nat.mul_le_mul_right sz b6;have E:((d.take i).flatMap enc).length=i*sz:=by rw [jz r,List.length_take];congr 1;omega
 have rF:((d.drop i).flatMap enc).length=(d.length-i)*sz:=by rw [jz r,List.length_drop]
 have c4:d.flatMap enc=(d.take i).flatMap enc++(d.drop i).flatMap enc:=by rw [<-List.flatMap_append,List.take_append_drop]
 have f4:(d.take i++e::d.drop i).flatMap enc=(d.take i).flatMap enc++enc e++(d.drop i).flatMap enc:=by simp
 have a9:(d.take i++e::d.drop i).length=d.length+1:=by simp;omega
 have j:(i+1)*sz=i*sz+sz:=by grind
 have e2:(d.length+1)*sz=i*sz+sz+(d.length-i)*sz:=by grind
 have Y:=tn D (d.drop i);rcases o.2.2 with ⟨ob,oc,_⟩ | ⟨b,f,ob,rfl,m,k,X⟩
 ·omega
 have d9:s.cap≠0:=by omega
 rw [ob];rw [hs] at X;have e3:d.length*sz<=f.length:=by rw [k];exact N _ _ (by omega)
 have U:be (some (⟨b,0,none⟩:Addr)) sz 0 s.cap=some ⟨b,0,none⟩:=by rw [uS (by omega)];simp
 have V:be (some (⟨b,0,none⟩:Addr)) sz i s.cap=some ⟨b,i*sz,none⟩:=by rw [uS (by omega)];simp
 have f5:d.length*sz=i*sz+(d.length-i)*sz:=by grind
 have d2:qa h (some ⟨b,0,none⟩) (i*sz) ((d.take i).flatMap enc):=m.rd E (by
  rw [List.drop_zero];have:f.take (i*sz)=(f.take (d.length*sz)).take (i*sz):=by rw [List.take_take];congr 1;omega
  grind)
 have d0:qa h (some ⟨b,i*sz,none⟩) ((d.length-i)*sz) ((d.drop i).flatMap enc):=m.rd rF (by
  have:(f.drop (i*sz)).take ((d.length-i)*sz)=(f.take (d.length*sz)).drop (i*sz):=by rw [List.drop_take];congr 1;omega
  grind)
 by_cases e8:s.cap<d.length+1
 ·rw [if_pos (show (decide ((s.len:Int)+1>(s.cap:Int)))=true by simp;omega)];refine ⟨by omega,aJ ?_⟩;rw [U];have w3:yw ((s.len:Int)+1-(i:Int))=((d.length+1-i:Nat):Int):=by rw [aT];omega
  rw [w3];have C:(((d.length+1-i:Nat):Int)).toNat=d.length+1-i:=by omega
  refine RA (l:=⟨some ⟨b,0,none⟩,i-0,s.cap-0⟩) (by omega) d2 ?_ (c5 _) ?_ λg c L B hc l1 m1 k1=> ?_
  ·grind
  ·grind
  rw [C] at hc k1;have b4:(i-0)+(d.length+1-i)=d.length+1:=by omega
  have W:d.length+1<=c:=by grind
  have c7:fw L g ((d.take i).flatMap enc++fC zero (d.length+1-i)++fC zero (c-(d.length+1))):=by grind
  have c2:(⟨some ⟨b,0,none⟩,i-0,s.cap-0⟩:Sl).len+(((d.length+1-i:Nat):Int)).toNat=d.length+1:=by rw [C];exact b4
  rw [c2];have e6:g≠b:=λp=>by rw [p] at B;exact m.known B
  have e7:g≠y:=λp=>by rw [p] at B;exact kv.known B
  refine ⟨by grind,aJ ?_⟩;rw [uS (show c≠i by omega),Nat.zero_add];have b0:∀n,(fC zero n).length=n*sz:=λn=>by rw [yV,hz]
  have d6:((d.take i).flatMap enc++fC zero (d.length+1-i)++fC zero (c-(d.length+1))).length=c*sz:=by rw [List.length_append,List.length_append,E,b0,b0,<-Nat.add_mul,<-Nat.add_mul];congr 1;omega
  have d3:qa L v.base (1*sz) (enc e):=by simpa using (I.mono l1).2
  refine DW (n:=1) c7 (by grind) d3 (D e) (by grind) λA w O=> ?_;refine ⟨by grind,aJ ⟨by omega,aJ ?_⟩⟩;rw [uS (show c≠i+1 by omega),Nat.zero_add,V];have c8:fw A b f:=(m.le l1).mv w (by grind);have d1:qa A (some ⟨b,i*sz,none⟩) ((d.length-i)*sz) ((d.drop i).flatMap enc):=c8.rd rF (by
   grind)
  have G:=O;rw [Nat.one_mul] at G;have K:((d.take i).flatMap enc++fC zero (d.length+1-i)++fC zero (c-(d.length+1))).take (i*sz)=(d.take i).flatMap enc:=by grind
  rw [K] at G;have c3:(((d.take i).flatMap enc++fC zero (d.length+1-i)++fC zero (c-(d.length+1))).drop (i*sz+sz)).length=c*sz-(i*sz+sz):=by grind
  generalize ((d.take i).flatMap enc++fC zero (d.length+1-i)++fC zero (c-(d.length+1))).drop (i*sz+sz)=rest at G c3;have d8:=N _ _ W;refine DW (n:=d.length-i) G (by grind) d1 Y (by
   grind) λh3 T H=> ?_
  refine hq _ _ [g] ⟨a9.symm,W,.inr ⟨g,_,rfl,rfl,H,?_,?_⟩⟩ ?_
  ·grind
  ·grind
  ·have c9:Mv [b] h [g] L:=m1.sub (λb hb=>by cases hb) λb hb=>.inl hb;exact c9.trans (w.trans T)
 ·rw [if_neg (show ¬(decide ((s.len:Int)+1>(s.cap:Int)))=true by simp;omega)];refine ⟨by omega,aJ ⟨?_,aJ ?_⟩⟩
  ·show (0:Int)<=((i+1:Nat):Int)/\((i+1:Nat):Int)<=(((((s.len:Int)+1).toNat-0:Nat)):Int);omega
  have c1:((s.len:Int)+1).toNat-0=d.length+1:=by omega
  have b9:s.cap-0=s.cap:=by omega
  rw [U,c1,b9];have b8:be (some (⟨b,0,none⟩:Addr)) sz (i+1) s.cap=some ⟨b,(i+1)*sz,none⟩:=by rw [uS (by omega)];simp
  show kE P (Extern.SlicesOverlaps.overlaps #[tS,tS] #[tR] #[.slice v.base v.len v.cap,.slice (be (some (⟨b,0,none⟩:Addr)) sz (i+1) s.cap) (d.length+1-(i+1)) (s.cap-(i+1))]) bn _ h;rw [b8,hv];refine UD ht c0 kv m (λp=>Z (by rw [p];exact List.mem_singleton.2 rfl)) ?_;rw [if_pos (by rfl)];refine ⟨by show (0:Int)<=((i+1:Nat):Int)/\((i+1:Nat):Int)<=((d.length+1:Nat):Int);omega,aJ ⟨by show (0:Int)<=i/\(i:Int)<=((d.length+1:Nat):Int);omega,aJ ?_⟩⟩;have d7:(d.length+1)*sz<=s.cap*sz:=N _ _ (by omega);have b7:be (some (⟨b,0,none⟩:Addr)) sz i s.cap=some ⟨b,i*sz,none⟩:=V;show fY sz ⟨some ⟨b,(i+1)*sz,none⟩,d.length+1-(i+1),s.cap-(i+1)⟩ ⟨be (some (⟨b,0,none⟩:Addr)) sz i s.cap,d.length+1-i,s.cap-i⟩ _ h;rw [b7];refine DW (n:=d.length-i) m (by show min (d.length+1-i) (d.length+1-(i+1))=_;omega) d0 Y (by rw [k,j];omega) λA w O=> ?_;refine ⟨by show (0:Int)<=i/\(i:Int)<=((d.length+1:Nat):Int);omega,aJ ?_⟩;have d4:qa A v.base (1*sz) (enc e):=by
   refine ⟨by rw [r,Nat.one_mul],?_⟩;rcases d5.2 with e0 | ⟨a,M,hl⟩
   ·exact .inl e0
   ·refine .inr ⟨a,M,λq u hu=> ?_⟩;have:=hl q u hu;rw [hv] at M;cases M;rw [kK] at this ⊢;obtain ⟨t,ek⟩:=id kv;obtain ⟨t',b5⟩:=kv.mv w (λC=>Z C);rw [Dc ek] at this;rw [Dc b5];exact this
  have K:(f.take ((i+1)*sz)++(d.drop i).flatMap enc++f.drop ((i+1)*sz+(d.length-i)*sz)).take (i*sz)=(d.take i).flatMap enc:=by
   rw [List.append_assoc,List.take_append_of_le_length (by rw [List.length_take,k];rw [j];omega),List.take_take];have:f.take (min (i*sz) ((i+1)*sz))=(f.take (d.length*sz)).take (i*sz):=by rw [List.take_take];congr 1;rw [j];omega
   rw [this,X,c4,<-E,List.take_left]
  have b3:(f.take ((i+1)*sz)++(d.drop i).flatMap enc++f.drop ((i+1)*sz+(d.length-i)*sz)).drop (i*sz+1*sz)=(d.drop i).flatMap enc++f.drop ((i+1)*sz+(d.length-i)*sz):=by
   have:i*sz+1*sz=(f.take ((i+1)*sz)).length:=by rw [List.length_take,k,j,Nat.one_mul];omega
   rw [List.append_assoc,this,List.drop_left]
  refine DW (n:=1) O (by show min v.len (d.length+1-i)=1;omega) d4 (D e) (by
   simp only [List.length_append,List.length_take,List.length_drop,rF,k,j,Nat.one_mul];omega) λh3 T H=> ?_
  rw [K,b3] at H;refine hq _ _ [b] ⟨a9.symm,by show d.length+1<=s.cap;omega,.inr ⟨b,_,rfl,rfl,H,?_,?_⟩⟩ (w.trans T)
  ·simp only [List.length_append,List.length_drop,E,r,rF,k,j];show _=s.cap*sz;omega
  grind
def xP (P:Program) (sz bytes:Nat) (zero:List Value) (c:Nat) (s:Sl) (i j:Int) (Q:Sl->Hp->Prop) (h:Hp):Prop:=
 (((0:Int)<=i/\(i<=j/\(j<=((s.len:Nat):Int)/\((s.len:Nat):Int)<=((s.cap:Nat):Int))))/\aI (α:=Sl) ⟨(be s.base sz (Int.toNat i) (Int.toNat ((s.len:Nat):Int))),((Int.toNat j)-(Int.toNat i)),((Int.toNat ((s.len:Nat):Int))-(Int.toNat i))⟩ λ_=>
 (if (i==j)=true then
 Q s h
 else
 (((0:Int)<=i/\i<=((s.cap:Nat):Int))/\aI (α:=Sl) ⟨(be s.base sz 0 s.cap),((Int.toNat i)-0),(s.cap-0)⟩ λd=>
 (((0:Int)<=j/\j<=((s.len:Nat):Int))/\aI (α:=Sl) ⟨(be s.base sz (Int.toNat j) s.cap),(s.len-(Int.toNat j)),(s.cap-(Int.toNat j))⟩ λe=>
 fu sz bytes zero d e (λr a=>
 (((0:Int)<=((r.len:Nat):Int)/\(((r.len:Nat):Int)<=((s.len:Nat):Int)/\((s.len:Nat):Int)<=((r.cap:Nat):Int)))/\aI (α:=Sl) ⟨(be r.base sz (Int.toNat ((r.len:Nat):Int)) r.cap),((Int.toNat ((s.len:Nat):Int))-(Int.toNat ((r.len:Nat):Int))),(r.cap-(Int.toNat ((r.len:Nat):Int)))⟩ λf=>
 nq P (Builtin.clear_ #[c] 0 #[f.v]) uA (λb=>
 Q r b) a)) h))))
theorem VK {bytes tS tE:Nat} {z:Value} {s:Sl} {c:List α} {F:List Nat} {i j:Nat} {Q:Sl->Hp->Prop}
  (R:P.underlying tS=some (.slice tE)) (V:∀ {K:Value->Hp->Prop} {h:Hp},K z h->da P (zeroValue tE) K h) (f:∀x,(enc x).length=sz) (L:∀x,ji (enc x)=true) (u:(bp z).length=sz) (U:∀n,ji (fC (bp z) n)=true)
  (o:du h sz enc s c F) (b2:i<j) (H:j<=c.length) (hb:c.length<=140737488355328/\c.length*bytes<=140737488355328)
  (M:∀w g,du g sz enc w (c.take i++c.drop j) F->Mv F h F g->Q w g):xP P sz bytes (bp z) tS s (i:Int) (j:Int) Q h:=by
 have O:=o.1;have b5:=o.2.1;unfold xP;have W:(i:Int).toNat=i:=by omega
 have X:(j:Int).toNat=j:=by omega
 have st:(s.len:Int).toNat=c.length:=by omega
 rw [W,X,st];refine ⟨by omega,aJ ?_⟩;rw [if_neg (show ¬(((i:Int)==(j:Int))=true) by simp;omega)];have e:∀a b:Nat,a<=b->a*sz<=b*sz:=λa b B=>Nat.mul_le_mul_right sz B;have T:((c.take i).flatMap enc).length=i*sz:=by rw [jz f,List.length_take];congr 1;omega
 have rF:((c.drop j).flatMap enc).length=(c.length-j)*sz:=by rw [jz f,List.length_drop]
 rcases o.2.2 with ⟨y,oc,_⟩ | ⟨b,d,y,rfl,l,m,k⟩
 ·omega
 rw [y];rw [O] at k;have b1:c.length*sz<=d.length:=by rw [m];exact e _ _ (by omega)
 have C:be (some (⟨b,0,none⟩:Addr)) sz 0 s.cap=some ⟨b,0,none⟩:=by rw [uS (by omega)];simp
 have b3:=e i c.length (by omega);have b4:=e j c.length H;have b7:c.length*sz=j*sz+(c.length-j)*sz:=by rw [<-Nat.add_mul];congr 1;omega
 have b6:i*sz<=j*sz:=e _ _ (by omega);have S:d.take (i*sz)=(c.take i).flatMap enc:=by rw [AM f,<-k,List.take_take];congr 1;omega
 have a9:qa h (some ⟨b,0,none⟩) ((i-0)*sz) ((c.take i).flatMap enc):=l.rd T (by rw [List.drop_zero];exact S);have a8:qa h (be (some (⟨b,0,none⟩:Addr)) sz j s.cap) ((c.length-j)*sz) ((c.drop j).flatMap enc):=by
  by_cases E:s.cap=j
  ·refine ⟨rF,.inl ?_⟩;have:c.length-j=0:=by omega
   rw [this,Nat.zero_mul]
  ·rw [uS E,Nat.zero_add];refine l.rd rF ?_;rw [zl f,<-k,List.drop_take];congr 1;omega
 refine ⟨by omega,aJ ⟨by omega,aJ ?_⟩⟩;rw [C];have J:i-0+(c.length-j)<=c.length:=by omega
 have b0:(i-0+(c.length-j))*bytes<=c.length*bytes:=Nat.mul_le_mul_right _ J;have t:(⟨be (some (⟨b,0,none⟩:Addr)) sz j s.cap,s.len-j,s.cap-j⟩:Sl).len=c.length-j:=by show s.len-j=_;omega
 refine Jq (n:=c.length-j) l a9 (by rw [t];exact a8) t (tn L _) ⟨by omega,by omega⟩ (by omega) (by
  have:i-0=i:=by omega
  rw [this,Nat.zero_add,m];have:=e (i+(c.length-j)) s.cap (by omega);rw [Nat.add_mul] at this;exact this) λA Z v=> ?_
 have p:i-0=i:=by omega
 rw [p,Nat.zero_add] at v;show ((0:Int)<=((i-0+(c.length-j):Nat):Int)/\((i-0+(c.length-j):Nat):Int)<=(s.len:Int)/\(s.len:Int)<=((s.cap-0:Nat):Int))/\aI (α:=Sl) ⟨be (some ⟨b,0,none⟩) sz (((i-0+(c.length-j):Nat):Int)).toNat (s.cap-0),c.length-(((i-0+(c.length-j):Nat):Int)).toNat,s.cap-0-(((i-0+(c.length-j):Nat):Int)).toNat⟩ _;refine ⟨by omega,aJ ?_⟩;have I:(((i-0+(c.length-j):Nat):Int)).toNat=i+(c.length-j):=by omega
 have D:s.cap-0=s.cap:=by omega
 rw [I,D,uS (show s.cap≠i+(c.length-j) by omega),Nat.zero_add];have G:c.length-(i+(c.length-j))=j-i:=by omega
 have r:(i+(c.length-j))*sz=i*sz+(c.length-j)*sz:=Nat.add_mul _ _ _;have q:(d.take (i*sz)++(c.drop j).flatMap enc++d.drop (i*sz+(c.length-j)*sz)).length=d.length:=by simp only [List.length_append,List.length_take,List.length_drop,rF];omega
 show nq P (Builtin.clear_ #[tS] 0 #[.slice (some ⟨b,(i+(c.length-j))*sz,none⟩) (c.length-(i+(c.length-j))) (s.cap-(i+(c.length-j)))]) uA _ A;rw [G];refine KY R V U v (by
  rw [q,u,r];have:i*sz+(j-i)*sz=j*sz:=by rw [<-Nat.add_mul];congr 1;omega
  omega) λh2 m2 Y=> ?_
 have N:(c.take i++c.drop j).length=i+(c.length-j):=by simp;omega
 refine M _ _ ⟨?_,?_,.inr ⟨b,_,rfl,rfl,Y,?_,?_⟩⟩ (Z.trans m2)
 ·rw [N,p]
 ·show i-0+(c.length-j)<=s.cap;omega
 ·simp only [List.length_append,List.length_take,List.length_drop,q,yV,u];show _=s.cap*sz;have:i*sz+(j-i)*sz=j*sz:=by rw [<-Nat.add_mul];congr 1;omega
  rw [r];omega
 grind
end
def dU {g:Type} (sz:Nat) (enc:g->List Value) (l:Sl) (xs:List g):dI where
 R k F:=l.len=xs.length/\l.len<=l.cap/\((l.base=none/\l.cap=0/\∀b,¬F b)\/∃(b off:Nat) (cs:List Value),l.base=some ⟨b,off,none⟩/\(∀c,F c↔c=b)/\fw k b cs/\off+l.cap*sz<=cs.length/\(cs.drop off).take (l.len*sz)=xs.flatMap enc)
 same:=by rintro k p F ⟨j,m,d⟩ o;refine ⟨j,m,d.imp id ?_⟩;rintro ⟨b,off,cs,e,a,⟨t,f⟩,i⟩;exact ⟨b,off,cs,e,a,⟨t,by grind⟩,i⟩
 known:=by
  rintro k F ⟨_,_,d⟩ c n;rcases d with ⟨_,_,h⟩ | ⟨b,off,cs,e,a,f,_⟩
  ·grind
  ·rw [(a c).1 n];exact f.known
section
variable {α:Type} {h0 k:Hp} {sz:Nat} {enc:α->List Value} {l:Sl} {xs:List α}
theorem Has.ku {h0 k:Hp} (a:h0<=k):Has h0 (dU sz enc ⟨none,0,0⟩ ([]:List α)) k:=⟨a,λ_=>False,⟨rfl,Nat.le_refl _,.inl ⟨rfl,rfl,λ_ h=>h⟩⟩,λ_ h=>h.elim⟩
theorem Has.jh (o:Has h0 (dU sz enc l xs) k):l.len=xs.length:=by obtain ⟨_,_,h,_⟩:=o;exact h.1
theorem Has.we (o:Has h0 (dU sz enc l xs) k):l.len<=l.cap:=by obtain ⟨_,_,h,_⟩:=o;exact h.2.1
theorem Has.kM (o:Has h0 (dU sz enc l xs) k) (c:∀x,(enc x).length=sz):Rw k sz enc l xs:=by
 obtain ⟨_,F,⟨h1,h,a⟩,_⟩:=o;refine ⟨h1,jz c xs,?_⟩;rcases a with ⟨e,g,_⟩ | ⟨b,off,f,e,_,hb,i,d⟩
 ·grind
 ·right;exact ⟨_,e,hb.df (n:=l.len*sz) d⟩
theorem Has.vW {b:Nat} {cs:List Value} (h:h0<=k) (i:h0 b=none) (hb:fw k b cs) (f:l.base=some ⟨b,0,none⟩) (a:l.len=xs.length) (d:l.len<=l.cap) (j:cs.length=l.cap*sz) (e:cs.take (l.len*sz)=xs.flatMap enc):Has h0 (dU sz enc l xs) k:=
 ⟨h,λc=>c=b,⟨a,d,.inr ⟨b,0,cs,f,λ_=>Iff.rfl,hb,by omega,by simpa using e⟩⟩,λc g=>by rw [g];exact i⟩
theorem Has.Be {F:List Nat} (o:du k sz enc l xs F) (d:h0<=k) (j:∀b∈F,h0 b=none):Has h0 (dU sz enc l xs) k:=by
 obtain ⟨a,c,g⟩:=o;rcases g with ⟨e,f,rfl⟩ | ⟨b,n,e,rfl,hb,i,m⟩
 ·exact ⟨d,λ_=>False,⟨a,c,.inl ⟨e,f,λ_ h=>h⟩⟩,λ_ h=>h.elim⟩
 ·exact Has.vW d (j b (List.mem_singleton.2 rfl)) hb e a c i m
theorem mL {k:Hp} {cs:List Value} {K:Addr->Hp->Prop} (d:cs=xs.flatMap enc) (e:∀x,(enc x).length=sz) (f:∀a c,k<=c->Has k (dU sz enc ⟨some a,xs.length,xs.length⟩ xs) c->K a c):bh cs K k:=by intro b t hb;refine f _ _ (ni hb) (Has.vW (b:=b) (cs:=cs) (ni hb) hb ⟨t,nI⟩ rfl rfl (Nat.le_refl _) (by rw [d,jz e]) ?_);rw [d];show List.take (xs.length*sz) _=_;rw [<-jz e xs,List.take_length]
theorem Has.app {zero:List Value} {bytes:Nat} {x:Sl} {d:List α} {K:Sl->Hp->Prop} (o:Has h0 (dU sz enc l xs) k) (r:Rw k sz enc x d) (f:∀x,(enc x).length=sz) (J:∀x,ji (enc x)=true)
  (N:zero.length=sz) (hb:xs.length+d.length<=140737488355328/\(xs.length+d.length)*bytes<=140737488355328)
  (q:∀z y,Has h0 (dU sz enc z (xs++d)) y->K z y):fu sz bytes zero l x K k:=by
 have L:=o.kM f;obtain ⟨i,F,⟨h1,D,E⟩,p⟩:=o;obtain ⟨g,X⟩:=r;refine ⟨d.flatMap enc,by grind,xs.flatMap enc,by rw [h1];exact L.2,by grind,tn J d,λw=> ?_,λw c b t G v=> ?_⟩
 ·rcases E with ⟨e,m,h⟩ | ⟨b,off,cs,e,h,u,T,M⟩
  ·have A:d.length=0:=by omega
   have B:d=[]:=List.length_eq_zero_iff.1 A;subst B;refine ⟨λa n=>(by grind),?_⟩;have j:gx k l.base (l.len*sz) (([]:List α).flatMap enc)=k:=by rw [e];rfl
   rw [j,g];exact q _ k ⟨i,F,⟨by simp [h1],by simpa using D,.inl ⟨e,m,h⟩⟩,p⟩
  ·have V:l.len*sz+(d.flatMap enc).length<=l.cap*sz:=by rw [jz f,<-Nat.add_mul];exact Nat.mul_le_mul_right sz (by omega)
   obtain ⟨P,Q⟩:=u.put (off:=off+l.len*sz) (new:=d.flatMap enc) (by omega);have W:h0 b=none:=p b ((h b).2 rfl);refine ⟨λa n=> ?_,?_⟩
   ·rw [e] at n;cases n;rw [kK];refine u.sZ _ ?_;rw [g,<-jz f d];omega
   ·have j:gx k l.base (l.len*sz) (d.flatMap enc)=kI k ⟨b,off+l.len*sz,none⟩ (d.flatMap enc) 0:=by rw [e];simp only [gx,kK]
    rw [j];refine q _ _ ⟨λc O m=> ?_,F,⟨by simp [h1,g],w,.inr ⟨b,off,_,e,h,P,?_,?_⟩⟩,p⟩
    ·have I:c≠b:=λR=>by grind
     rw [Q c I];exact i c O m
    ·grind
    ·have U:off+l.len*sz<=cs.length:=by omega
     have s:(l.len+x.len)*sz=l.len*sz+(d.flatMap enc).length:=by rw [g,jz f,Nat.add_mul]
     have C:(cs.take (off+l.len*sz)).drop off=xs.flatMap enc:=by rw [List.drop_take,<-M];congr 1;omega
     show List.take ((l.len+x.len)*sz) _=_;rw [s,List.append_assoc,List.drop_append_of_le_length (by rw [List.length_take];omega),C,List.flatMap_append,<-List.append_assoc];have S:l.len*sz+(d.flatMap enc).length=(xs.flatMap enc++d.flatMap enc).length:=by rw [List.length_append,jz f xs,h1]
     grind
 ·have H:h0 b=none:=uu i v;refine q _ _ (Has.vW (b:=b) (cs:=xs.flatMap enc++d.flatMap enc++fC zero (c-(l.len+x.len))) (Hp.le_trans i (ni v)) H ⟨t,nI⟩ rfl (by simp [h1,g]) G ?_ ?_)
  ·rw [List.length_append,List.length_append,jz f,jz f,yV,N,<-Nat.add_mul,<-Nat.add_mul];grind
  ·have s:(l.len+x.len)*sz=(xs.flatMap enc++d.flatMap enc).length:=by rw [List.length_append,jz f,jz f,h1,g,Nat.add_mul]
   grind
theorem Has.push {zero:List Value} {bytes:Nat} {e:α} {cs:List Value} {K:Sl->Hp->Prop} (o:Has h0 (dU sz enc l xs) k) (g:cs=enc e) (b:∀x,(enc x).length=sz) (j:∀x,ji (enc x)=true)
  (m:zero.length=sz) (hb:xs.length+1<=140737488355328/\(xs.length+1)*bytes<=140737488355328)
  (h:∀f c,Has h0 (dU sz enc f (xs++ [e])) c->K f c):bh cs (λa d=>fu sz bytes zero l ⟨some a,1,1⟩ K d) k:=by
 refine mL (xs:=[e]) (sz:=sz) (enc:=enc) (by rw [g];simp) b λa d i n=> ?_;exact (o.grow i).app (n.kM b) b j m hb h
theorem Has.xO (o:Has h0 (dU sz enc l xs) k) (i:∀x,(enc x).length=sz) {n c:Nat} (w:n<=xs.length) (t:n<=c) (u:c<=l.cap):Has h0 (dU sz enc ⟨be l.base sz 0 c,n-0,c-0⟩ (xs.take n)) k:=by
 obtain ⟨m,F,⟨r,s,g⟩,j⟩:=o;have hb:be l.base sz 0 c=l.base:=by
  unfold be;split
  ·rfl
  ·cases l.base with
   | none=>rfl
   | some a=>obtain ⟨b,off,sp⟩:=a;simp [Addr.add]
 refine ⟨m,F,⟨by simp;omega,by simp;omega,?_⟩,j⟩;rw [hb];rcases g with ⟨e,q,d⟩ | ⟨b,off,f,e,d,h,v,p⟩
 ·grind
 ·refine .inr ⟨b,off,f,e,d,h,?_,?_⟩
  ·have:(c-0)*sz<=l.cap*sz:=Nat.mul_le_mul_right sz (by omega);grind
  ·show List.take ((n-0)*sz) _=_;rw [AM i,<-p,List.take_take];congr 1;have:n*sz<=l.len*sz:=Nat.mul_le_mul_right sz (by omega);grind
theorem Has.qJ {a:α} {r:List α} (o:Has h0 (dU sz enc l (a::r)) k) (y:∀x,(enc x).length=sz) {c:Nat} (v:l.len<=c) (w:c<=l.cap):Has h0 (dU sz enc ⟨be l.base sz 1 c,l.len-1,c-1⟩ r) k:=by
 obtain ⟨n,F,⟨h1,u,j⟩,m⟩:=o;have p:l.len=r.length+1:=by simpa using h1
 refine ⟨n,F,⟨by grind,by grind,?_⟩,m⟩;rcases j with ⟨e,t,d⟩ | ⟨b,off,f,e,d,g,z,s⟩
 ·omega
 ·by_cases h:c=1
  ·have q:r=[]:=List.length_eq_zero_iff.1 (by omega);subst q;refine .inr ⟨b,off,f,?_,d,g,?_,?_⟩
   ·show be l.base sz 1 c=_;unfold be;rw [if_pos h];exact e
   ·show off+(c-1)*sz<=_;have:(c-1)*sz<=l.cap*sz:=Nat.mul_le_mul_right sz (by omega);omega
   grind
  ·refine .inr ⟨b,off+1*sz,f,?_,d,g,?_,?_⟩
   ·show be l.base sz 1 c=_;rw [e,uS h]
   ·show off+1*sz+(c-1)*sz<=_;have:1*sz+(c-1)*sz<=l.cap*sz:=by rw [<-Nat.add_mul];exact Nat.mul_le_mul_right sz (by omega)
    omega
   ·show List.take ((l.len-1)*sz) _=_;have i:(List.flatMap enc (a::r)).drop sz=r.flatMap enc:=by grind
    rw [<-i,<-s,List.drop_take,List.drop_drop,Nat.one_mul];congr 1;rw [p,Nat.add_mul,Nat.one_mul];simp
theorem PU (b:∀x,(enc x).length=sz) {off n:Nat} {a:List Value} (h:n=xs.length) (f:off+n*sz<=a.length) (d:(a.drop off).take (n*sz)=xs.flatMap enc) {i:Nat} (c:i<xs.length) (x:α):
  ((a.take (off+i*sz)++enc x++a.drop (off+i*sz+sz)).drop off).take (n*sz)=(xs.set i x).flatMap enc:=by
 have g:i*sz+sz<=n*sz:=by have:=Nat.mul_le_mul_right sz (show i+1<=n by omega);rw [Nat.add_mul,Nat.one_mul] at this;exact this
 rw [C6 x c,List.flatMap_append,List.flatMap_cons,AM b,zl b,<-d];have t1:((a.take (off+i*sz)).drop off)=(a.drop off).take (i*sz):=by rw [List.drop_take];congr 1;omega
 rw [List.append_assoc,List.drop_append_of_le_length (by rw [List.length_take];omega),t1,List.take_take,Nat.min_eq_left (by omega)];have e:((a.drop off).take (i*sz)).length=i*sz:=by rw [List.length_take,List.length_drop];omega
 rw [List.take_append,e,List.take_of_length_le (by omega),List.take_append,b,List.take_of_length_le (l:=enc x) (by rw [b];omega)];congr 2;rw [List.drop_take,List.drop_drop];grind
theorem Has.Bp (o:Has h0 (dU sz enc l xs) k) (g:∀x,(enc x).length=sz) {i:Nat} {x x':α} (s:xs[i]? =some x) {off:Nat} {new:List Value} (R:off+new.length<=sz) (L:(enc x).take off++new++(enc x).drop (off+new.length)=enc x')
  {K:Hp->Prop} (I:∀j,Has h0 (dU sz enc l (xs.set i x')) j->K j):cJ k ((sat l.base sz (i:Int)).add off) new K:=by
 have r:i<xs.length:=(List.getElem?_eq_some_iff.1 s).1;obtain ⟨J,F,⟨t,f,n⟩,w⟩:=o;rcases n with ⟨e,h,q⟩ | ⟨b,a,d,e,q,G,O,A⟩
 ·omega
 ·have M:h0 b=none:=w b ((q b).2 rfl);have P:i*sz+sz<=l.len*sz:=by have:=Nat.mul_le_mul_right sz (show i+1<=l.len by omega);rw [Nat.add_mul,Nat.one_mul] at this;exact this
  have Q:l.len*sz<=l.cap*sz:=Nat.mul_le_mul_right sz f;have ea:(sat l.base sz (i:Int)).add off=⟨b,a+i*sz+off,none⟩:=by unfold sat;rw [e,Option.getD_some,kK,kK,Int.toNat_natCast]
  rw [ea];have N:(d.drop (a+i*sz)).take sz=enc x:=by
   have f:(xs.drop i).flatMap enc=enc x++(xs.drop (i+1)).flatMap enc:=by rw [List.drop_eq_getElem_cons r,List.flatMap_cons];rw [List.getElem?_eq_getElem r] at s;rw [Option.some.inj s]
   have n:(xs.drop i).flatMap enc=(d.drop (a+i*sz)).take (l.len*sz-i*sz):=by rw [zl g,<-A,List.drop_take,List.drop_drop]
   rw [n] at f;have p:=congrArg (List.take sz) f;rw [List.take_take,Nat.min_eq_left (by omega),<-g x,List.take_left] at p;rw [g x] at p;exact p
  have v:d=d.take (a+i*sz)++(enc x++d.drop (a+i*sz+sz)):=by
   have E:d.drop (a+i*sz+sz)=(d.drop (a+i*sz)).drop sz:=by rw [List.drop_drop]
   rw [<-N,E,List.take_append_drop,List.take_append_drop]
  have y:(d.take (a+i*sz)).length=a+i*sz:=by rw [List.length_take];omega
  have z:(enc x).length=sz:=g x;have C:d.take (a+i*sz+off)=d.take (a+i*sz)++(enc x).take off:=by
   conv=>lhs;rw [v]
   rw [List.take_append,y,List.take_of_length_le (by omega),List.take_append,z,show a+i*sz+off-(a+i*sz)=off by omega,show off-sz=0 by omega,List.take_zero,List.append_nil]
  have D:d.drop (a+i*sz+off+new.length)=(enc x).drop (off+new.length)++d.drop (a+i*sz+sz):=by
   conv=>lhs;rw [v]
   rw [List.drop_append,y,List.drop_eq_nil_of_le (by omega),List.nil_append,List.drop_append,z,show a+i*sz+off+new.length-(a+i*sz)=off+new.length by omega,show off+new.length-sz=0 by omega,List.drop_zero]
  refine u5 G (by omega) λj m u=> ?_;rw [C,D,show d.take (a+i*sz)++(enc x).take off++new++((enc x).drop (off+new.length)++d.drop (a+i*sz+sz))=d.take (a+i*sz)++enc x'++d.drop (a+i*sz+sz) by rw [<-L];simp] at u;refine I j ⟨λc B h=>m.bK c B (J c B h) (λH=>(by rw [List.mem_singleton.1 H,M] at h;cases h)),F,⟨by simp [t],f,.inr ⟨b,a,_,e,q,u,?_,PU g t (by omega) A r x'⟩⟩,w⟩;grind
end
section
variable {P:Program} {α:Type} {h0 k:Hp} {sz:Nat} {enc:α->List Value} {s:Sl} {xs:List α}
theorem K3 {g q bytes:Nat} {zero:List Value} {x y:Operand} {Q:Sl->Hp->Prop} (m:P.underlying g=some (.slice q)) (r:Rw k sz enc s xs) (w:0<sz) (d:∀x,(enc x).length=sz) (l:∀x,ji (enc x)=true) (p:zero.length=sz)
  (hb:xs.length<=140737488355328/\xs.length*bytes<=140737488355328) (f:∀c b,k<=b->Has k (dU sz enc c xs) b->Q c b):
  iu none P (cS .eql g x y s.v (.slice none 0 0)) bn k λx=>(if x=true then Q ⟨none,0,0⟩ k else bh [] (λa h=>fu sz bytes zero ⟨(some a),0,0⟩ s (λr i=>Q r i) h) k):=by
 refine ⟨s.base.isNone,Oj m s,?_⟩;cases u:s.base with
 | none=>
  rw [if_pos (show (none:Option Addr).isNone=true from rfl)];have:xs=[]:=by
   rcases r.2.2 with e | ⟨a,t,_⟩
   ·exact List.length_eq_zero_iff.1 ((Nat.mul_eq_zero.1 e).resolve_right (by omega))
   grind
  subst this;exact f _ k (Hp.le_refl k) (Has.ku (Hp.le_refl k))
 | some a=>rw [lz];refine mL (xs:=([]:List α)) (enc:=enc) (sz:=sz) rfl d λa z j n=> ?_;refine n.app (Rw.mono j r) d l p (by simpa using hb) λc b o=> ?_;exact f c b o.le (by simpa using o)
def je (f:α->Bool) (xs:List α):Int:=match xs.findIdx? f with
 | some i=>i
 | none=> -1
theorem Zb (f:α->Bool):∀xs:List α,iL f xs=if 0<=je f xs then xs.take (je f xs).toNat++xs.drop ((je f xs).toNat+1) else xs
 | []=>by simp [iL,je]
 | a::l=>by
  unfold iL;by_cases h:f a=true
  ·have:je f (a::l)=0:=by unfold je;grind
   rw [if_pos h,this];simp
  ·have b:=Zb f l;rw [if_neg h,b];unfold je;grind
theorem Ig {f:α->Bool} {xs:List α} (h:0<=je f xs):je f xs<xs.length:=by
 unfold je at*;cases e:xs.findIdx? f with
 | none=>grind
 | some i=>have:=(List.findIdx?_eq_some_iff_getElem.1 e).1;grind
theorem Ih {f:α->Bool} {xs:List α} {t:Nat} {x:α} (c:xs[t]? =some x) (a:f x=true) (b:∀(j:Nat) y,j<t->xs[j]? =some y->f y=false):je f xs=t:=by
 have:xs.findIdx? f=some t:=by rw [List.findIdx?_eq_some_iff_getElem];grind
 unfold je;rw [this]
theorem ym {f:α->Bool} {xs:List α} (a:∀x∈xs,f x=false):je f xs= -1:=by have:xs.findIdx? f=none:=List.findIdx?_eq_none_iff.2 a;unfold je;rw [this]
theorem Has.FW {bytes r G:Nat} {z:Value} {i j:Nat} {Q:Sl->Hp->Prop} (ht:P.underlying r=some (.slice G)) (b0:∀ {K:Value->Hp->Prop} {h:Hp},K z h->da P (zeroValue G) K h) (e:∀x,(enc x).length=sz) (X:∀x,ji (enc x)=true) (hz:(bp z).length=sz) (a9:∀n,ji (fC (bp z) n)=true)
  (o:Has h0 (dU sz enc s xs) k) (b6:i<j) (T:j<=xs.length) (hb:xs.length<=140737488355328/\xs.length*bytes<=140737488355328)
  (Y:∀C A,Has h0 (dU sz enc C (xs.take i++xs.drop j)) A->Q C A):xP P sz bytes (bp z) r s (i:Int) (j:Int) Q k:=by
 obtain ⟨U,F,⟨hs,c0,L⟩,v⟩:=o;unfold xP;have it:(i:Int).toNat=i:=by omega
 have jt:(j:Int).toNat=j:=by omega
 have st:(s.len:Int).toNat=xs.length:=by omega
 rw [it,jt,st];refine ⟨by omega,aJ ?_⟩;rw [if_neg (show ¬(((i:Int)==(j:Int))=true) by simp;omega)];have l:∀a b:Nat,a<=b->a*sz<=b*sz:=λa b M=>Nat.mul_le_mul_right sz M;have a8:((xs.take i).flatMap enc).length=i*sz:=by rw [jz e,List.length_take];congr 1;omega
 have rF:((xs.drop j).flatMap enc).length=(xs.length-j)*sz:=by rw [jz e,List.length_drop]
 rcases L with ⟨D,oc,_⟩ | ⟨b,off,d,D,u,q,b4,f⟩
 ·omega
 rw [D];rw [hs] at f;have hn:h0 b=none:=v b ((u b).2 rfl);have b5:off+xs.length*sz<=d.length:=by grind
 have N:be (some (⟨b,off,none⟩:Addr)) sz 0 s.cap=some ⟨b,off,none⟩:=by rw [uS (by omega)];simp
 have b7:=l i xs.length (by omega);have b8:=l j xs.length T;have c3:xs.length*sz=j*sz+(xs.length-j)*sz:=by rw [<-Nat.add_mul];congr 1;omega
 have c2:i*sz<=j*sz:=l _ _ (by omega);have c1:(d.drop off).take (i*sz)=(xs.take i).flatMap enc:=by rw [AM e,<-f,List.take_take];congr 1;omega
 have b2:qa k (some ⟨b,off,none⟩) ((i-0)*sz) ((xs.take i).flatMap enc):=q.rd a8 (by omega);have b1:qa k (be (some (⟨b,off,none⟩:Addr)) sz j s.cap) ((xs.length-j)*sz) ((xs.drop j).flatMap enc):=by
  by_cases R:s.cap=j
  ·refine ⟨rF,.inl ?_⟩;grind
  ·rw [uS R];refine q.rd rF ?_;rw [zl e,<-f,List.drop_take,List.drop_drop];grind
 refine ⟨by omega,aJ ⟨by omega,aJ ?_⟩⟩;rw [N];have V:i-0+(xs.length-j)<=xs.length:=by omega
 have b3:(i-0+(xs.length-j))*bytes<=xs.length*bytes:=Nat.mul_le_mul_right _ V;have y:(⟨be (some (⟨b,off,none⟩:Addr)) sz j s.cap,s.len-j,s.cap-j⟩:Sl).len=xs.length-j:=by grind
 have g:i-0=i:=by omega
 refine Jq (n:=xs.length-j) q b2 (by rw [y];exact b1) y (tn X _) ⟨by omega,by omega⟩ (by omega) (by
  grind) λJ m1 B=> ?_
 rw [g] at B;show ((0:Int)<=((i-0+(xs.length-j):Nat):Int)/\((i-0+(xs.length-j):Nat):Int)<=(s.len:Int)/\(s.len:Int)<=((s.cap-0:Nat):Int))/\aI (α:=Sl) ⟨be (some ⟨b,off,none⟩) sz (((i-0+(xs.length-j):Nat):Int)).toNat (s.cap-0),xs.length-(((i-0+(xs.length-j):Nat):Int)).toNat,s.cap-0-(((i-0+(xs.length-j):Nat):Int)).toNat⟩ _;refine ⟨by omega,aJ ?_⟩;have W:(((i-0+(xs.length-j):Nat):Int)).toNat=i+(xs.length-j):=by omega
 have O:s.cap-0=s.cap:=by omega
 rw [W,O,uS (show s.cap≠i+(xs.length-j) by omega)];have S:xs.length-(i+(xs.length-j))=j-i:=by omega
 have p:(i+(xs.length-j))*sz=i*sz+(xs.length-j)*sz:=Nat.add_mul _ _ _;have w:(d.take (off+i*sz)++(xs.drop j).flatMap enc++d.drop (off+i*sz+(xs.length-j)*sz)).length=d.length:=by grind
 show nq P (Builtin.clear_ #[r] 0 #[.slice (some ⟨b,off+(i+(xs.length-j))*sz,none⟩) (xs.length-(i+(xs.length-j))) (s.cap-(i+(xs.length-j)))]) uA _ J;rw [S];have b9:i*sz+(j-i)*sz=j*sz:=by rw [<-Nat.add_mul];congr 1;omega
 refine KY ht b0 a9 B (by
  grind) λh2 m2 k2=> ?_
 have Z:(xs.take i++xs.drop j).length=i+(xs.length-j):=by simp;omega
 have m:=m1.trans m2;refine Y _ _ ⟨λc E I=>m.bK c E (U c E I) (λhc=>(by grind)),F,⟨?_,?_,.inr ⟨b,off,_,rfl,u,k2,?_,?_⟩⟩,v⟩
 ·rw [Z,g]
 ·grind
 ·simp only [List.length_append,List.length_take,List.length_drop,w,yV,hz];omega
 ·show List.take ((i-0+(xs.length-j))*sz) _=_;have t1:((d.take (off+i*sz)).drop off)=(xs.take i).flatMap enc:=by grind
  have t:i*sz+(xs.length-j)*sz=((xs.take i).flatMap enc++(xs.drop j).flatMap enc).length:=by grind
  have H:List.drop off (List.take (off+(i+(xs.length-j))*sz) (d.take (off+i*sz)++(xs.drop j).flatMap enc++d.drop (off+i*sz+(xs.length-j)*sz)))=(xs.take i).flatMap enc++(xs.drop j).flatMap enc:=by rw [List.drop_take,show off+(i+(xs.length-j))*sz-off=i*sz+(xs.length-j)*sz by rw [p];omega,List.append_assoc,List.drop_append_of_le_length (by grind),t1,<-List.append_assoc,t,List.take_left]
  rw [g,List.append_assoc,List.drop_append_of_le_length (by rw [List.length_take,w,p];omega),H,p,t,List.flatMap_append,List.take_left]
end
end Lf
