/-
  Part 2 of the texts that the claim leans on.
-/
import Derived.Orders
import Derived.ScopeJumps
import Derived.Test.YtakfmlcemmgllaaGreatMgTwHolds0
set_option maxRecDepth 100000
namespace Lf
open Go
section
variable {P:Program} {tb:Tb} {o:Oper} {ch:ba} {s:St} {h:Hp} {K:LV->Hp->Prop}
theorem yY {base:Option Addr} {n:Nat} {b:List Value} {w:World} (q:Sub h w) (p:pI h base n b) {m c:Nat} {size:Nat} (l:n=m*size):
  (Builtin.firstCells size m (.slice base m c)).run P w=.ok b.toArray w:=by
 obtain ⟨k,f⟩:=p;subst l;cases base with
 | none=>
  rcases f with g | ⟨a,d,_⟩
  ·have:b=[]:=List.length_eq_zero_iff.1 (by omega);subst this;rfl
  ·cases d
 | some a=>
  have e:∀j v,b[j]? =some v->w.cell? (a.add j)=some v:=by
   intro j v i;rcases f with g | ⟨r,d,e⟩
   ·grind
   ·cases d;exact wE q (e j v i)
  simp only [Builtin.firstCells];rw [<-k];exact zyy e
theorem LN {a cap:Nat} (h:cap<a):Builtin.nextslicecap a cap<=2*a:=by
 unfold Builtin.nextslicecap;split
 ·omega
 ·split
  ·omega
  ·have key:∀r c,c<2*a->(c<a->256<=c)->Builtin.growBy a r c<=2*a:=by
    intro r
    induction r with
    | zero=>intro c d _;simp only [Builtin.growBy];omega
    | succ r e=>
     intro c d b;simp only [Builtin.growBy];split
     ·omega
     ·rename_i f;have:=b (by omega);exact e _ (by omega) (by omega)
   grind
theorem wj (z:List Value):∀n,fW z n=ly z n
 | 0=>rfl
 | n+1=>by simp only [fW,List.replicate_succ,List.flatten_cons,ly];rw [<-wj z n,fW]
theorem Gq (z:Array Value) (n:Nat):Builtin.zeroCells z n=(fW z.toList n).toArray:=by rw [wj];have:=Fc z.toList n z.size (by simp);unfold Builtin.zeroCells;rw [<-this]
theorem EZ :IntKind.i64.max=9223372036854775807:=by decide
theorem MO (ok:tb.Ok P) {t I u rt n:Nat} {y e m:Ty} {l:Sl} {x:Value} {new:List Value} {K:Sl->Hp->Prop} {w:World}
  (hy:tb.ty t=some y) (hu:y.aM=.slice u) (z:tb.ty u=some e) (b2:tb.ty I=some m) (b7:∀k,m.aM≠ .int k)
  (b:Sub h w) (M:yq u e.size e.bytes (bu e.zero) l n new K h) (B:∀w:World,(Builtin.lenOf x).run P w=.ok n w)
  (D:∀w:World,Sub h w->(Builtin.firstCells e.size n x).run P w=.ok new.toArray w) (b8:new.length=n*e.size):
  ∃r p g,(Builtin.append_ #[t,I] rt #[.slice l.base l.len l.cap,x]).run P w=.ok (.slice r.base r.len r.cap) g/\K r p/\Step h p w g:=by
 obtain ⟨d,hold,⟨b4,b3⟩,X,U,R⟩:=M;have f:=λw=>aw ok hy w;have q:=λw=>aw ok b2 w;have v:=λw=>cE ok z w;have L:=λw=>cX ok z w;obtain ⟨i,S,_,T,_⟩:=ok.info u e z;have J:∀w,(typeInfo u).run P w=.ok i w:=λw=>by simp [typeInfo,S]
 have F:(match m.aM with | .int _=>true | _=>false)=false:=by simp
 simp only [hu] at f;by_cases A:l.len+n<=l.cap
 ·obtain ⟨E,G⟩:=U A;cases hb:l.base with
  | none=>
   refine ⟨_,_,w,?_,G,?_⟩
   ·simp [Builtin.append_,f,q,v,F,B,A,D w b,hb]
   ·simp only [gC,hb];exact .refl b
  | some a=>
   obtain ⟨g,Z,b0⟩:=Gl (P:=P) new 0 h w b X (a:=a.add (l.len*e.size)) (λj hj=>by
    have:=uA (E a hb) j (by omega);simpa using this)
   refine ⟨_,_,g,?_,G,?_⟩
   ·simp [Builtin.append_,f,q,v,F,B,A,D w b,hb,Z]
   ·simp only [gC,hb];exact b0
 ·have C:l.cap<l.len+n:=by omega
  have Q:=LN C;have b5:¬(Builtin.nextslicecap (l.len+n) l.cap*e.bytes>281474976710656):=by
   have:Builtin.nextslicecap (l.len+n) l.cap*e.bytes<=2*(l.len+n)*e.bytes:=Nat.mul_le_mul_right _ Q;have p:2*(l.len+n)*e.bytes=2*((l.len+n)*e.bytes):=by rw [Nat.mul_assoc]
   omega
  have b6:¬(((l.len+n:Nat):Int)>IntKind.i64.max):=by rw [EZ];omega
  have b1:Sub h {w with drawn:=w.drawn+1}:=b;have Y:∀w:World,Sub h w->(Builtin.firstCells e.size l.len (.slice l.base l.len l.cap)).run P w=.ok d.toArray w:=λw b=>yY b hold rfl;let c:=(Question.appendCap (l.len+n) l.cap u).cut (w.tape w.drawn (.appendCap (l.len+n) l.cap u));have O:l.len+n<=c:=by simp only [c,Question.cut];omega
  have a8:(d.toArray++new.toArray++Builtin.zeroCells e.zero.cells (c-(l.len+n)))=(d++new++fW (bu e.zero) (c-(l.len+n))).toArray:=by rw [Gq,oV];simp
  obtain ⟨W,E⟩:=Ce b1 (.cells (d++new++fW (bu e.zero) (c-(l.len+n))).toArray u);refine ⟨_,_,_,?_,R C c _ O W,E.drew⟩;have V:¬(9223372036854775807<(l.len:Int)+(n:Int)):=by omega
  have H:Sub h w.drew:=b;have N:¬(281474976710656<Builtin.nextslicecap (l.len+n) l.cap*i.bytes):=by rw [T];omega
  have a9:d.toArray++(new.toArray++Builtin.zeroCells e.zero.cells (c-(l.len+n)))=(d++(new++fW (bu e.zero) (c-(l.len+n)))).toArray:=by rw [<-Array.append_assoc,a8,List.append_assoc]
  simp [Builtin.append_,f,q,v,J,L,F,B,Nat.not_le.2 C,V,N,Question.forced,Y _ H,D _ H,tU];refine ⟨rfl,?_⟩;rw [<-a9];rfl
theorem yA (z:List Value) (n:Nat):(fW z n).length=n*z.length:=by simp [fW]
theorem Sj (ok:tb.Ok P) {t Z u rt:Nat} {m:Int} {y e M:Ty} {l:Sl} {K:Sl->Hp->Prop} {w:World}
  (hy:tb.ty t=some y) (hu:y.aM=.slice u) (E:tb.ty u=some e) (b7:tb.ty Z=some M) (hint:M.aM=.int .i64)
  (z:Sub h w) (hm:0<=m) (ha:kJ e.size e.bytes (bu e.zero) l m.toNat (fW (bu e.zero) m.toNat) K h):
  ∃r H G,(Builtin.append_ #[t,Z] rt #[.slice l.base l.len l.cap,.int .i64 m]).run P w=.ok (.slice r.base r.len r.cap) G/\K r H/\Step h H w G:=by
 obtain ⟨B,hold,⟨a9,a8⟩,U,Q,O⟩:=ha;have d:=λw=>aw ok hy w;have f:=λw=>aw ok b7 w;have g:=λw=>cE ok E w;have C:=λw=>cX ok E w;obtain ⟨i,hi,_,b1,_⟩:=ok.info u e E;have p:∀w,(typeInfo u).run P w=.ok i w:=λw=>by simp [typeInfo,hi]
 simp only [hu] at d;simp only [hint] at f;have L:=ok.yD u e E;have A:IntKind.i64.wrap m=m:=by
  (try unfold yw);unfold IntKind.wrap
  simp only [IntKind.signed,IntKind.bits];grind
 have c2:¬m<0:=by omega
 obtain ⟨n,rfl⟩:=Int.eq_ofNat_of_zero_le hm;have b2:((n:Int)).toNat=n:=by omega
 rw [b2] at a9 a8 U Q O;have c0:¬((n:Int)*(i.bytes:Int)>281474976710656):=by grind
 have v:¬(281474976710656<(n:Int)*(i.bytes:Int)):=by omega
 have b9:∀w:World,(if n*e.size=0 then (pure #[]:Sem (Array Value)) else do pure (Builtin.zeroCells (<-zeroValue u).cells n)).run P w=.ok (fW (bu e.zero) n).toArray w:=by
  intro w;by_cases b:n*e.size=0
  ·have:fW (bu e.zero) n=[]:=List.length_eq_zero_iff.1 (by rw [yA,L];exact b);rw [if_pos b,this];rfl
  ·rw [if_neg b];simp only [Sem.run_bind,C,Result.andThen_ok,Sem.run_pure];congr 1;rw [Gq,oV]
 have q:∀w:World,(asInt (.int .i64 (n:Int))).run P w=.ok (n:Int) w:=λw=>rfl;have x:¬(n:Int)<0:=by omega
 have b8:Builtin.zeroCells e.zero.cells n=(fW (bu e.zero) n).toArray:=by rw [Gq,oV]
 have X:n*e.size=0->fW (bu e.zero) n=[]:=λb=>List.length_eq_zero_iff.1 (by rw [yA,L];exact b);by_cases D:l.len+n<=l.cap
 ·obtain ⟨J,S⟩:=Q D;cases hb:l.base with
  | none=>
   refine ⟨_,_,w,?_,S,?_⟩
   ·by_cases b:n*e.size=0
    ·simp [Builtin.append_,d,f,g,p,q,A,x,v,D,b,hb]
    ·simp [Builtin.append_,d,f,g,p,C,q,A,x,v,D,b,hb]
   ·simp only [gC,hb];exact .refl z
  | some a=>
   obtain ⟨G,I,b5⟩:=Gl (P:=P) (fW (bu e.zero) n) 0 h w z U (a:=a.add (l.len*e.size)) (λj R=>by
    have:=uA (J a hb) j (by rw [yA,L] at R;exact R);simpa using this)
   refine ⟨_,_,G,?_,S,?_⟩
   ·by_cases b:n*e.size=0
    ·rw [X b] at I;simp [Builtin.append_,d,f,g,p,q,A,x,v,D,b,hb,I]
    ·simp [Builtin.append_,d,f,g,p,C,q,A,x,v,D,b,b8,hb,I]
   ·simp only [gC,hb];exact b5
 ·have F:l.cap<l.len+n:=by omega
  have b0:=LN F;have c1:¬(Builtin.nextslicecap (l.len+n) l.cap*e.bytes>281474976710656):=by
   have:Builtin.nextslicecap (l.len+n) l.cap*e.bytes<=2*(l.len+n)*e.bytes:=Nat.mul_le_mul_right _ b0;have H:2*(l.len+n)*e.bytes=2*((l.len+n)*e.bytes):=by rw [Nat.mul_assoc]
   omega
  have b6:Sub h {w with drawn:=w.drawn+1}:=z;have V:∀w:World,Sub h w->(Builtin.firstCells e.size l.len (.slice l.base l.len l.cap)).run P w=.ok B.toArray w:=λw z=>yY z hold rfl;let c:=(Question.appendCap (l.len+n) l.cap u).cut (w.tape w.drawn (.appendCap (l.len+n) l.cap u));have hc:l.len+n<=c:=by simp only [c,Question.cut];omega
  have b3:(B.toArray++(fW (bu e.zero) n).toArray++Builtin.zeroCells e.zero.cells (c-(l.len+n)))=(B++fW (bu e.zero) n++fW (bu e.zero) (c-(l.len+n))).toArray:=by rw [Gq,oV];simp
  obtain ⟨hn,J⟩:=Ce b6 (.cells (B++fW (bu e.zero) n++fW (bu e.zero) (c-(l.len+n))).toArray u);refine ⟨_,_,_,?_,O F c _ u hc hn,J.drew⟩;have T:¬(9223372036854775807<(l.len:Int)+(n:Int)):=by omega
  have W:Sub h w.drew:=z;have N:¬(281474976710656<Builtin.nextslicecap (l.len+n) l.cap*i.bytes):=by rw [b1];omega
  have b4:B.toArray++((fW (bu e.zero) n).toArray++Builtin.zeroCells e.zero.cells (c-(l.len+n)))=(B++(fW (bu e.zero) n++fW (bu e.zero) (c-(l.len+n)))).toArray:=by rw [<-Array.append_assoc,b3,List.append_assoc]
  have Y:∀k,Builtin.zeroCells e.zero.cells k=(fW (bu e.zero) k).toArray:=λk=>by rw [Gq,oV]
  by_cases b:n*e.size=0
  ·simp only [X b] at b4 ⊢;simp [Builtin.append_,d,f,g,p,C,q,A,x,v,Nat.not_le.2 F,EZ,T,N,Question.forced,V _ W,b,tU,Y];exact ⟨rfl,rfl⟩
  ·simp [Builtin.append_,d,f,g,p,C,q,A,x,v,Nat.not_le.2 F,EZ,T,N,Question.forced,V _ W,b,tU,Y];exact ⟨rfl,rfl⟩
theorem VW (ok:tb.Ok P) {O:Array Operand} {F:Array TypeId} (H:o.op=.call {callee:=.builtin .append,args:=O,argTypes:=F}) {N:List Value} (Y:fh s ch O.toList=some N)
  (hv:Cp tb (fw s ch) F.toList N h K):gH P o ch s h K:=by
 have J:holds s ch->∀(β:Nat->Nat) (ρ:Operand->Value),(∀x∈o.op.operands,fy β s ρ x)->O.map ρ=N.toArray:=by intro d β ρ g;have:=zu (β:=β) (ρ:=ρ) d Y λx Z=>g x (by simp [H,Op.operands,Call.operands];simpa using Z);apply Array.ext';simpa using this
 unfold Cp at hv;split at hv
 ·rename_i p n c p' n' U t E I;have D:F= #[t,E]:=by grind
  split at hv
  ·rename_i e Q v W;obtain ⟨y,u,j,i,b⟩:=wD v;obtain ⟨y',u',a8,b1,a9⟩:=wD W;refine uF (f:=λ(l:Sl)=>.slice l.base l.len l.cap) hv λd β ρ w g a K z=> ?_;obtain ⟨new,R,q⟩:=z;obtain ⟨r,k,G,B,A,C⟩:=MO (P:=P) (rt:=o.type) (x:=.slice p' n' U) (l:=⟨p,n,c⟩) ok j i b a8 (by grind) a (q.u u) (λw=>rfl)
    (λw a=>yY a R rfl) R.1
   refine ⟨r,k,G,?_,A,C⟩;simp only [execOp,H,resolve,invoke,builtin,Sem.run_bind,Sem.run_pure,Result.andThen_ok,J d β ρ g,D,B]
  ·exact hv.elim
 ·rename_i p n c x t E I;have D:F= #[t,E]:=by apply Array.ext';simpa using I
  split at hv
  ·rename_i e Q v M;obtain ⟨y,u,j,i,b⟩:=wD v;split at hv
   ·rename_i T b0;cases L:Nat.beq e.bytes 1 with
    | false=>simp [L] at hv
    | true=>
     simp only [L,cond_true] at hv;have V:=Nat.eq_of_beq_eq_true L;have S:e.size=1:=(ok.leaf u e b (by rw [T];rfl)).1;refine uF (f:=λ(l:Sl)=>.slice l.base l.len l.cap) hv λd β ρ w g a K z=> ?_;have hz:bu e.zero=[.int .u8 0]:=ok.B6 u e b T;have hid:ET tb t=u:=by unfold ET;rw [j];simp only [i]
     have q:yq u e.size e.bytes (bu e.zero) ⟨p,n,c⟩ x.size (qK x) K h:=by rw [S,V,hz,<-hid];exact z
     obtain ⟨r,k,G,B,A,C⟩:=MO (P:=P) (rt:=o.type) (x:=.string x) (l:=⟨p,n,c⟩) ok j i b M (by grind) a q (λw=>rfl)
      (λw a=>by
       have:(x.extract 0 x.size)=x:=by simp
       simp only [Builtin.firstCells,this,Sem.run_pure];congr 1;apply Array.ext';simp [qK]) (by simp [qK,S])
     refine ⟨r,k,G,?_,A,C⟩;simp only [execOp,H,resolve,invoke,builtin,Sem.run_bind,Sem.run_pure,Result.andThen_ok,J d β ρ g,D,B]
   ·exact hv.elim
  ·exact hv.elim
 ·rename_i p n c m t E I;have D:F= #[t,E]:=by apply Array.ext';simpa using I
  split at hv
  ·rename_i e Q v M;obtain ⟨y,u,j,i,b⟩:=wD v;split at hv
   ·rename_i hint;refine uF (f:=λ(l:Sl)=>.slice l.base l.len l.cap) hv λd β ρ w g a K z=> ?_;obtain ⟨X,q⟩:=z;obtain ⟨r,k,G,B,A,C⟩:=Sj (P:=P) (rt:=o.type) (l:=⟨p,n,c⟩) ok j i b M hint a X q;refine ⟨r,k,G,?_,A,C⟩;simp only [execOp,H,resolve,invoke,builtin,Sem.run_bind,Sem.run_pure,Result.andThen_ok,J d β ρ g,D,B]
   ·exact hv.elim
  ·exact hv.elim
 ·exact hv.elim
theorem aaV (ok:tb.Ok P) {B:Array Operand} {A:Array TypeId} (r:o.op=.call {callee:=.builtin .copy,args:=B,argTypes:=A}) {p g:Option Addr} {n b c d:Nat} {t L:Nat}
  (W:fh s ch B.toList=some [.slice p n c,.slice g b d]) (a8:A.toList=[t,L]) {e:Ty} (N:gR tb t=some e)
  (hv:cP (fw s ch) (gz e.size ⟨p,n,c⟩ ⟨g,b,d⟩) (λk M=>K (.v (.int .i64 k)) M) h):gH P o ch s h K:=by
 have D:holds s ch->∀(β:Nat->Nat) (ρ:Operand->Value),(∀x∈o.op.operands,fy β s ρ x)->B.map ρ= #[.slice p n c,.slice g b d]:=by intro i β ρ l;have:=zu (β:=β) (ρ:=ρ) i W λx X=>l x (by simp [r,Op.operands,Call.operands];simpa using X);apply Array.ext';simpa using this
 have J:A= #[t,L]:=by grind
 obtain ⟨y,u,Y,V,O⟩:=wD N;refine uF (f:=λ(k:Int)=>.int .i64 k) hv λi β ρ w l z K Q=> ?_;obtain ⟨new,H,R,T,F⟩:=Q;have q:=λw=>aw ok Y w;have C:=λw=>cE ok O w;rw [V] at q;have G:Nat.min b n=min b n:=rfl;have I:(Builtin.firstCells e.size (min b n) (.slice g b d)).run P w=.ok new.toArray w:=by have:=yY (P:=P) (m:=min b n) (c:=d) z H rfl;cases g<;>exact this
 cases hp:p with
 | none=>subst hp;refine ⟨_,_,w,?_,F,by simp only [gC];exact .refl z⟩;simp only [execOp,r,resolve,invoke,builtin,Sem.run_bind,Sem.run_pure,Result.andThen_ok,D i β ρ l,J];simp [Builtin.copy_,q,C,Builtin.lenOf,G,I,goInt]
 | some a=>
  subst hp;obtain ⟨Z,S,U⟩:=Gl (P:=P) (a:=a) new 0 h w z R (λj E=>by
   have:=uA (T a rfl) j (by rw [H.1] at E;exact E);simpa using this)
  refine ⟨_,_,Z,?_,F,by simp only [gC,show a.add 0=a from by simp [Addr.add]];exact U⟩;simp only [execOp,r,resolve,invoke,builtin,Sem.run_bind,Sem.run_pure,Result.andThen_ok,D i β ρ l,J];simp [Builtin.copy_,q,C,Builtin.lenOf,G,I,goInt,S]
theorem aaY (ok:tb.Ok P) {t:Nat} {x y:Operand} (c:o.op=.makeSlice t x y) {m n:Int} {e:Ty} (E:ev s ch x=some (.v (.int .i64 m))) (F:ev s ch y=some (.v (.int .i64 n)))
  (D:gR tb t=some e) (hv:cP (fw s ch) (dL e.bytes (bu e.zero) m n) (λl r=>K (.v (.slice l.base l.len l.cap)) r) h):gH P o ch s h K:=by
 obtain ⟨y',u,R,O,a⟩:=wD D;refine uF (f:=λ(l:Sl)=>.slice l.base l.len l.cap) hv λg β p w j M K I=> ?_;obtain ⟨⟨h0,b1,a8,a9⟩,J⟩:=I;have Q:p x=_:=bR (j x (by simp [c,Op.operands])) g E;have S:p y=_:=bR (j y (by simp [c,Op.operands])) g F;have d:=aw ok R w;rw [O] at d;have z:=λw=>cE ok a w;have B:=λw=>cX ok a w;obtain ⟨i,G,_,H,_⟩:=ok.info u e a;have A:∀w,(typeInfo u).run P w=.ok i w:=λw=>by simp [typeInfo,G]
 have U:=ok.yD u e a;have V:IntKind.i64.wrap m=m:=by simp [IntKind.wrap,IntKind.bits,IntKind.signed];omega
 have W:IntKind.i64.wrap n=n:=by simp [IntKind.wrap,IntKind.bits,IntKind.signed];omega
 have b0:¬((e.bytes:Int)*n>281474976710656):=by grind
 obtain ⟨L,N⟩:=Ce M (.cells (fW (bu e.zero) n.toNat).toArray u);refine ⟨_,_,_,?_,J _ u L,N⟩;have X:¬n<0:=by omega
 have Y:¬m<0:=by omega
 have Z:¬m>n:=by omega
 have C:((n<0 || decide ((e.bytes:Int)*n>2^48)) || decide (m<0) || decide (m>n))=false:=by grind
 have b2:(if n.toNat*e.size=0 then (#[]:Array Value) else e.zero.cells)=e.zero.cells\/n.toNat*e.size=0:=by grind
 have k:(Array.range (n.toNat*e.size)).map (λi=>e.zero.cells[i%e.zero.cells.size]!)=(fW (bu e.zero) n.toNat).toArray:=by
  have:=Fc (bu e.zero) n.toNat e.size U;rw [wj,<-this];have q:e.zero.cells=(bu e.zero).toArray:=by apply Array.ext';simp [oV]
  rw [q]
 simp only [execOp,c,Q,S,LVal,Instr.makeSlice,Sem.run_bind,d,Result.andThen_ok,asInt,asIntOf,Sem.run_pure,A,V,W,H];have hb:((n<0 || decide ((e.bytes:Int)*n>2^48)) || decide (m<0) || decide (m>n))=false:=C;simp only [hb,Bool.false_eq_true,if_false,Sem.run_bind,run_askRoom,Result.andThen_ok,z];by_cases b:n.toNat*e.size=0
 ·have T:(fW (bu e.zero) n.toNat).toArray= #[]:=by rw [<-k,b];simp
  simp [b,T,tU];grind
 ·simp [b,B,tU,k]
end
section
variable {P:Program} {tb:Tb} {o:Oper} {ch:ba} {s:St} {h:Hp} {K:LV->Hp->Prop}
theorem Sk {t:Nat} (d:o.op=.makeMap t none) (hv:cP (fw s ch) wI (λm a=>K (.v (.map m)) a) h):gH P o ch s h K:=by refine uF (f:=λm=>.map m) hv λi k l w j e K b=> ?_;obtain ⟨c,g⟩:=Ce e (.map #[] 0);refine ⟨_,_,_,?_,b _ c,g⟩;simp [execOp,d,Instr.makeMap]
theorem Yk (ok:tb.Ok P) {p d:Nat} {x:Operand} (m:o.op=.convert p d x) {b:ByteArray} {e g:Ty} (C:ev s ch x=some (.v (.string b))) (O:tb.ty p=some e)
  (B:gR tb d=some g) (A:e.aM=.string) (F:g.aM=.int .u8)
  (hv:cP (fw s ch) (Mu b) (λl q=>K (.v (.slice l.base l.len l.cap)) q) h):gH P o ch s h K:=by
 obtain ⟨y,u,U,R,E⟩:=wD B;refine uF (f:=λ(l:Sl)=>.slice l.base l.len l.cap) hv λG X W w L M K H=> ?_;have T:W x=_:=bR (L x (by simp [m,Op.operands])) G C;have i:=λw=>aw ok O w;have j:=λw=>aw ok U w;have k:=λw=>aw ok E w;rw [A] at i;rw [R] at j;rw [F] at k;let c:=(Question.appendCap b.size 0 u).cut (w.tape w.drawn (.appendCap b.size 0 u));have t:b.size<=c:=by simp only [c,Question.cut];omega
 have S:Sub h w.drew:=M;let a:=qK b++fW [.int .u8 0] (c-b.size);have z:a.length=c:=by
  have:(qK b).length=b.size:=by simp [qK]
  simp only [a,List.length_append,wj,Oz,this];simp;omega
 obtain ⟨J,Q⟩:=Ce S (.cells a.toArray u (c,c+1));refine ⟨_,_,_,?_,H c _ u t J,Step.drew Q⟩;have r:(b.data.map λx=>(.int .u8 x.toNat:Value))++Array.replicate (c-b.size) (.int .u8 0)=a.toArray:=by
  apply Array.ext';simp only [a,qK,wj];have:∀n,List.replicate n (.int .u8 0:Value)=ly [.int .u8 0] n:=by
   intro n;induction n with
   | zero=>rfl
   | succ n V=>simp only [List.replicate_succ,ly,V];rfl
  simp [this]
 simp only [execOp,m,T,LVal,convert,Sem.run_bind,i,j,k,Result.andThen_ok,Conv.stringToBytes,run_choose,Question.forced,Bool.false_eq_true,if_false,tU,Sem.run_pure];change _=Result.ok (Next.value (.slice (some ⟨w.heap.size,0,none⟩) b.size c)) _;rw [show ((Question.appendCap b.size 0 u).cut (w.tape w.drawn (.appendCap b.size 0 u)))=c from rfl,r];have N:({w.drew with heap:=w.heap.push (.cells a.toArray u)}:World).shape? w.heap.size=some (u,c):=by simp [World.shape?,z]
 have D:({w.drew with heap:=w.heap.push (.cells a.toArray u)}:World).freeze ⟨w.heap.size,c,none⟩ 1={w.drew with heap:=w.heap.push (.cells a.toArray u (c,c+1))}:=by simp only [World.freeze,Nat.one_ne_zero,if_false];congr 1;grind
 have I:(markStringish ⟨w.heap.size,0,none⟩).run P {w.drew with heap:=w.heap.push (.cells a.toArray u)}=.ok () {w.drew with heap:=w.heap.push (.cells a.toArray u (c,c+1))}:=by simp only [markStringish,Sem.run_bind,run_shape,Result.andThen_ok,N,run_freeze];rw [D]
 change (((markStringish ⟨w.heap.size,0,none⟩).run P {w.drew with heap:=w.heap.push (.cells a.toArray u)}).andThen _).andThen _=_;rw [I];rfl
theorem aa0 (ok:tb.Ok P) {i d:Nat} {x:Operand} (q:o.op=.convert i d x) {p:Option Addr} {n c:Nat} {e g:Ty} {U:Nat} (E:ev s ch x=some (.v (.slice p n c))) (O:tb.ty i=some e)
  (D:gR tb d=some g) (C:e.aM=.slice U) (H:g.aM=.int .u8) (M:i=d)
  (hv:cP (fw s ch) (zD p) (λ_ z=>K (.v (.slice p n c)) z) h):gH P o ch s h K:=by
 obtain ⟨y,u,T,R,G⟩:=wD D;refine uF (f:=λ(_:Unit)=>.slice p n c) hv λI W V w L r K j=> ?_;have S:V x=_:=bR (L x (by simp [q,Op.operands])) I E;have k:=λw=>aw ok O w;have l:=λw=>aw ok T w;have m:=λw=>aw ok G w;rw [C] at k;rw [R] at l;rw [H] at m;obtain ⟨b,off,a,t,rfl,hb,j⟩:=j;have Q:=uy r hb (o:=.cells a t (a.size,a.size+1));refine ⟨_,_,_,?_,j,Q⟩;have B:w.heap[b]? =some (.cells a t (0,0)):=r _ _ hb;have F:w.freeze ⟨b,a.size,none⟩ 1={w with heap:=w.heap.setIfInBounds b (.cells a t (a.size,a.size+1))}:=by simp only [World.freeze,Nat.one_ne_zero,if_false];congr 1;grind
 have J:(markStringish ⟨b,off,none⟩).run P w=.ok () {w with heap:=w.heap.setIfInBounds b (.cells a t (a.size,a.size+1))}:=by
  have N:w.shape? b=some (t,a.size):=by simp [World.shape?,B]
  simp only [markStringish,Sem.run_bind,run_shape,Result.andThen_ok,N,run_freeze];rw [F]
 have A:(i==d)=true:=by rw [M];simp
 simp only [execOp,q,S,LVal,convert,Sem.run_bind,k,l,m,Result.andThen_ok,A,J,Sem.run_pure]
end
section
variable {P:Program} {tb:Tb} {o:Oper} {ch:ba} {s:St} {h:Hp} {K:LV->Hp->Prop}
theorem FR {g:Type} {A:(g->Hp->Prop)->Hp->Prop} (k:cP (fw s ch) A (λ_ b=>K (.v (.tuple #[])) b) h)
  (c:holds s ch->∀(e:Nat->Nat) (i:Operand->Value) (w:World),(∀x∈o.op.operands,fy e s i x)->Sub h w->∀(K:g->Hp->Prop),A K h->
   ∃x b d,(execOp i o).run P w=.ok .skip d/\K x b/\Step h b w d):gH P o ch s h K:=by
 obtain ⟨j,n⟩:=Fb k;refine ⟨λhh e a w ho hs next Q f=> ?_,λf=> ?_⟩
 ·obtain ⟨x,b,d,c,l,m⟩:=c hh e a.eval w ho hs _ (j hh);unfold Oper.wp;rw [c,Oper.upon_skip];exact f _ _ _ l m
 grind
theorem yn {sh:Shape} {c:Sem Value} (hv:NH (fw s ch) P sh c K h)
  (q:holds s ch->∀(d:Nat->Nat) (b:Operand->Value),(∀x∈o.op.operands,fy d s b x)->∀(w a:World) (v:Value),c.run P w=.ok v a->(execOp b o).run P w=.ok (.value v) a):
  gH P o ch s h K:=by
 refine uF (f:=sh.enc) hv λg d b w k m K i=> ?_;obtain ⟨v,a,e,l,⟨x,p,j⟩,n⟩:=M1 c m i;subst p;exact ⟨x,e,a,q g d b k w a _ l,j,n⟩
theorem wR {t:Nat} {a:Sem Value} (hv:sA (fw s ch) P tb t a K h)
  (d:holds s ch->∀(β:Nat->Nat) (c:Operand->Value),(∀x∈o.op.operands,fy β s c x)->∀(w b:World) (v:Value),a.run P w=.ok v b->(execOp c o).run P w=.ok (.value v) b):
  gH P o ch s h K:=by
 unfold sA at hv;split at hv
 ·exact yn hv d
 ·exact hv.elim
theorem Ym {a b:ByteArray} (h:(a==b)=true):(b==a)=true:=by
 have:a=b:=by cases a;cases b;congr;exact eq_of_beq h
 grind
theorem Yo {c:TypeDesc} {a b:Value} {n:Nat} (d:sr c=true) (h:Instr.sameNow c a b=some true):Instr.sameBits n b a=true:=by
 cases c with
 | bool=>
  cases a<;>cases b<;>simp only [Instr.sameNow] at h<;>try (cases h;done)
  injection h with h
  have:∀x y:Bool,(x==y)=true->(y==x)=true:=by decide
  cases n<;>exact this _ _ h
 | int k=>
  cases a<;>cases b<;>simp only [Instr.sameNow] at h<;>try (cases h;done)
  split at h
  ·injection h with h
   have e:=eq_of_beq h;subst e;rename_i f;cases n<;>simp_all [Instr.sameBits]
  ·cases h
 | string=>
  cases a<;>cases b<;>simp only [Instr.sameNow] at h<;>try (cases h;done)
  injection h with h
  cases n<;>exact Ym h
 | _=>simp [sr] at d
theorem LO {b:TypeDesc} {k:Value}:∀ {a:List MapEntry} {j i:Nat} {u:Value},Instr.findNow b k a j=some (some (i,u))->
  j<=i/\∃e,a[i-j]? =some e/\e.val=u/\Instr.sameNow b k e.key=some true
 | [],j,i,u,h=>by simp [Instr.findNow] at h
 | e::a,j,i,u,h=>by
  simp only [Instr.findNow] at h;split at h
  ·grind
  ·obtain ⟨f,c,d,l,g⟩:=LO h;grind
  ·cases h
theorem xV {r:Nat} {o a:Obj} {w:World} (hb:w.heap[r]? =some a) (b:isCells a=false):(setObj r o).run P w=.ok () {w with heap:=w.heap.setIfInBounds r o}:=by simp only [setObj,Sem.run,hb];cases a<;>first | rfl | simp [isCells] at b
theorem VX (ok:tb.Ok P) {t k u:Nat} {e p:Ty} {m:Option Nat} {b v:Value} {w:World} {K:Hp->Prop} (B:tb.ty t=some e) (H:e.aM=.map k u)
  (c:tb.ty k=some p) (f:sr p.aM=true) (j:Sub h w) (E:sV p.aM m b v K h):
  ∃q y,(Instr.mapUpdate t (.map m) b v).run P w=.ok () y/\K q/\Step h q w y:=by
 obtain ⟨r,A,ck,rfl,g,a⟩:=E;have l:=aw ok B w;rw [H] at l;have hb:=j r _ g;rcases a with ⟨a,d⟩ | ⟨i,x,a,d⟩
 ·refine ⟨_,_,?_,d,uy j g⟩;simp only [Instr.mapUpdate,Sem.run_bind,l,Result.andThen_ok,M9 hb,Ek ok c f,B7 ok c a,xV hb rfl]
 ·refine ⟨_,_,?_,d,uy j g⟩;obtain ⟨_,z,C,_,G⟩:=LO a;have D:A[i]? =some z:=by simpa using C
  have F:=Yo (n:=10000) f G;simp only [Instr.mapUpdate,Sem.run_bind,l,Result.andThen_ok,M9 hb,Ek ok c f,B7 ok c a,D,Option.map_some,Option.getD_some,Instr.keyThatStays,F,if_true,Sem.run_pure,
   xV hb rfl]
theorem VY (ok:tb.Ok P) {t k u rt:Nat} {t':TypeId} {e n:Ty} {m:Option Nat} {b:Value} {w:World} {K:Hp->Prop} (v:tb.ty t=some e) (z:e.aM=.map k u)
  (d:tb.ty k=some n) (j:sr n.aM=true) (f:Sub h w) (y:wQ n.aM m b K h):
  ∃p q,(Builtin.delete_ #[t,t'] rt #[.map m,b]).run P w=.ok (.tuple #[]) q/\K p/\Step h p w q:=by
 have g:=aw ok v w;rw [z] at g;rcases y with ⟨rfl,a⟩ | ⟨r,A,ck,rfl,l,c⟩
 ·refine ⟨_,w,?_,a,.refl f⟩;simp [Builtin.delete_,g,Ek ok d j]
 ·have hb:=f r _ l;rcases c with ⟨c,a⟩ | ⟨i,x,c,a⟩
  ·refine ⟨_,_,?_,a,uy f l⟩;simp [Builtin.delete_,g,M9 hb,Ek ok d j,B7 ok d c,xV hb rfl]
  ·refine ⟨_,_,?_,a,uy f l⟩;simp [Builtin.delete_,g,M9 hb,Ek ok d j,B7 ok d c,xV hb rfl]
theorem MQ (ok:tb.Ok P) {t:Nat} {x y z:Operand} (n:o.op=.mapUpdate t x y z\/o.op=.insert t x y z)
  (hv:DF P tb (fw s ch) t (ev s ch x) (ev s ch y) (ev s ch z) K h):gH P o ch s h K:=by
 obtain ⟨a,G,D⟩:=kF hv;obtain ⟨b,H,E⟩:=kF D;obtain ⟨v,I,c⟩:=kF E;clear hv D E;have run:holds s ch->∀(j:Nat->Nat) (d:Operand->Value),(∀x∈o.op.operands,fy j s d x)->∀(w f:World),(Instr.mapUpdate t a b v).run P w=.ok () f->(execOp d o).run P w=.ok .skip f:=by intro g j d i w f l;have M:d x=_:=bR (i x (by rcases n with h | h<;>simp [h,Op.operands])) g G;have N:d y=_:=bR (i y (by rcases n with h | h<;>simp [h,Op.operands])) g H;have O:d z=_:=bR (i z (by rcases n with h | h<;>simp [h,Op.operands])) g I;rcases n with h | h<;>simp only [execOp,h,M,N,O,LVal,Sem.run_bind,l,Result.andThen_ok,Sem.run_pure]
 split at c
 ·rename_i m e F;split at c
  ·rename_i k u L;split at c
   ·rename_i Q J;cases A:sr Q.aM with
    | true=>simp only [A,cond_true] at c;refine FR c λg j d w i B K r=> ?_;obtain ⟨p,f,l,q,C⟩:=VX ok F L J A B r;exact ⟨(),p,f,run g j d i w f l,q,C⟩
    | false=>simp only [A,cond_false] at c;refine FR c λg j d w i B K r=> ?_;obtain ⟨R,f,p,l,q,C⟩:=M1 _ B r;exact ⟨(),p,f,run g j d i w f l,q,C⟩
   ·exact c.elim
  ·exact c.elim
 ·exact c.elim
theorem Lp (ok:tb.Ok P) {f:Operand} {j:Array Operand} {k:Array TypeId} {g:FuncId} {first captured:Array Value} {b:List Value} {e:Ty} {a:Act} {w:World}
  (q:o.op=.call {callee:=.value f,args:=j,argTypes:=k}) (p:tb.call g=true) (n:a.eval f=.func (.func g) first captured) (u:j.map a.eval=b.toArray)
  {c:e.sh.T->Hp->Prop} (m:aa P g (first.toList++b++captured.toList) e.sh c h) (t:Sub h w) {next:Act->World->Prop} {Q:Exit->Act->World->Prop}
  (v:∀x d i,c x d->Step h d w i->next (a.put o.dst (e.sh.enc x)) i):o.wp P a w next Q:=by
 have r:(execOp a.eval o).run P w=.ok (.enter g (first.toList++b++captured.toList).toArray) w:=by
  have l:first++b.toArray++captured=(first.toList++b++captured.toList).toArray:=by apply Array.ext';simp
  simp only [execOp,q,resolve,Deferred.ofValue,n,u,Sem.run_bind,Sem.run_pure,Result.andThen_ok,invoke,l];exact ok.call g p _ w
 unfold Oper.wp;rw [r,Oper.upon_enter];refine (m w t).mono ?_;grind
theorem Ff {d:Type} {A:(d->Hp->Prop)->Hp->Prop} {f:d->Value} (j:cP (fw s ch) A (λx b=>K (.v (f x)) b) h)
  (l:holds s ch->∀(e:Nat->Nat) (a:Act) (w:World),(∀x∈o.op.operands,fy e s a.eval x)->Sub h w->∀(K:d->Hp->Prop),A K h->∀(next:Act->World->Prop) (Q:Exit->Act->World->Prop),
   (∀x b c,K x b->Step h b w c->next (a.put o.dst (f x)) c)->o.wp P a w next Q):gH P o ch s h K:=by
 obtain ⟨i,n⟩:=Fb j;refine ⟨λhh e a w ho hs next Q g=> ?_,λg=> ?_⟩
 ·exact l hh e a w ho hs _ (i hh) next Q λx b c k m=>g _ _ _ k m
 grind
theorem VZ (ok:tb.Ok P) (hv:xx P tb o ch s h K):gH P o ch s h K:=by
 obtain ⟨b0,op,ty,pos,after,guard⟩:=o;cases op with
 | store t x y=>exact Yf ok rfl hv
 | alloc t=>exact Yh ok rfl hv
 | box t x=>exact adi rfl hv
 | buildSlice t n ps=>exact acg ok rfl hv
 | makeMap t r=>
  cases r with
  | none=>exact Sk rfl hv
  | some x=>exact hv.elim
 | makeSlice t x y=>
  obtain ⟨a,B,q⟩:=kF hv;obtain ⟨b,I,E⟩:=kF q;clear hv q;split at E
  ·rename_i m n e J;exact aaY ok rfl B I J E
  ·exact E.elim
 | mapUpdate t x y z=>exact MQ ok (.inl rfl) hv
 | insert t x y z=>exact MQ ok (.inr rfl) hv
 | mapEntry t x y=>obtain ⟨a,B,q⟩:=kF hv;obtain ⟨b,I,E⟩:=kF q;refine wR E λi β ρ j w C v l=> ?_;have A:ρ x=_:=bR (j x (by simp [Op.operands])) i B;have O:ρ y=_:=bR (j y (by simp [Op.operands])) i I;simp only [execOp,A,O,LVal,Sem.run_bind,l,Result.andThen_ok,Sem.run_pure]
 | binOp op t x y g=>obtain ⟨a,B,q⟩:=kF hv;obtain ⟨b,I,E⟩:=kF q;refine wR E λi β ρ j w C v l=> ?_;have A:ρ x=_:=bR (j x (by simp [Op.operands])) i B;have O:ρ y=_:=bR (j y (by simp [Op.operands])) i I;have l:(do eqGuard op t x y a b;binOp op t a b:Sem Value).run P w=.ok v C:=l;simp only [execOp,A,O,LVal,Sem.run_bind] at l ⊢;rw [l];rfl
 | entryStore t x y z=>obtain ⟨a,B,q⟩:=kF hv;obtain ⟨b,I,E⟩:=kF q;obtain ⟨c,b2,b7⟩:=kF E;refine FR b7 λi β ρ w j F K D=> ?_;have A:ρ x=_:=bR (j x (by simp [Op.operands])) i B;have O:ρ y=_:=bR (j y (by simp [Op.operands])) i I;have hz:ρ z=_:=bR (j z (by simp [Op.operands])) i b2;obtain ⟨u',C,U,l,V,X⟩:=M1 _ F D;refine ⟨(),U,C,?_,V,X⟩;simp only [execOp,A,O,hz,LVal,Sem.run_bind,l,Result.andThen_ok,Sem.run_pure]
 | range t x=>obtain ⟨a,B,q⟩:=kF hv;refine yn q λi β ρ j w C v l=> ?_;have A:ρ x=_:=bR (j x (by simp [Op.operands])) i B;simp only [execOp,A,LVal,Sem.run_bind,l,Result.andThen_ok,Sem.run_pure]
 | next x b=>obtain ⟨a,B,q⟩:=kF hv;refine yn q λi β ρ j w C v l=> ?_;have A:ρ x=_:=bR (j x (by simp [Op.operands])) i B;simp only [execOp,A,LVal,Sem.run_bind,l,Result.andThen_ok,Sem.run_pure]
 | convert b8 b1 x=>
  obtain ⟨a,B,q⟩:=kF hv;clear hv;split at q
  ·rename_i b e g H J;split at q
   ·rename_i Y Z;exact Yk ok rfl B H J Y Z q
   ·exact q.elim
  ·rename_i p n c e g H J;split at q
   ·rename_i u0 Y Z;cases hb:Nat.beq b8 b1 with
    | false=>grind
    | true=>simp only [hb,cond_true] at q;exact aa0 ok rfl B H J Y Z (Nat.eq_of_beq_eq_true hb) q
   ·exact q.elim
  ·exact q.elim
 | call c=>
  obtain ⟨callee,S,T⟩:=c;cases callee with
  | invoke r m=>exact hv.elim
  | builtin b=>
   obtain ⟨R,N,d⟩:=GA hv;clear hv;have G:holds s ch->∀(β:Nat->Nat) (ρ:Operand->Value),(∀x∈(Op.call {callee:=.builtin b,args:=S,argTypes:=T}).operands,fy β s ρ x)->S.map ρ=R.toArray:=by intro i β ρ j;have:=zu (β:=β) (ρ:=ρ) i N λx A=>j x (by simp [Op.operands,Call.operands];simpa using A);grind
   cases b with
   | append=>exact VW ok rfl N d
   | copy=>
    replace d:vp _ _ _ _ _ _ _ _:=d;unfold vp at d;split at d
    ·rename_i p n c p' n' c' t t' a9;split at d
     ·rename_i e J;exact aaV ok rfl N a9 J d
     ·exact d.elim
    ·refine wR d λi β ρ j w C v l=> ?_;simp only [execOp,resolve,invoke,builtin,Sem.run_bind,Sem.run_pure,Result.andThen_ok,G i β ρ j,l]
   | delete=>
    replace d:Cs _ _ _ _ _ _ _ _:=d;unfold Cs at d;split at d
    ·rename_i m k t t' a9;have b6:T= #[t,t']:=by grind
     split at d
     ·rename_i e H;split at d
      ·rename_i kt u hu;split at d
       ·rename_i ke D;cases a8:sr ke.aM with
        | true=>simp only [a8,cond_true] at d;refine uF (f:=λ_=>.tuple #[]) d λi β ρ w j F K b4=> ?_;obtain ⟨U,C,l,V,X⟩:=VY (rt:=ty) (t':=t') ok H hu D a8 F b4;refine ⟨(),U,C,?_,V,X⟩;have ha:=G i β ρ j;simp only [execOp,resolve,invoke,builtin,Sem.run_bind,Sem.run_pure,Result.andThen_ok,ha,b6,l]
        | false=>simp only [a8,cond_false] at d;refine wR d λi β ρ j w C v l=> ?_;simp only [execOp,resolve,invoke,builtin,Sem.run_bind,Sem.run_pure,Result.andThen_ok,G i β ρ j,l]
       ·exact d.elim
      ·exact d.elim
     ·exact d.elim
    ·exact d.elim
   | clear=>refine wR d λi β ρ j w C v l=> ?_;simp only [execOp,resolve,invoke,builtin,Sem.run_bind,Sem.run_pure,Result.andThen_ok,G i β ρ j,l]
   | _=>exact d.elim
  | value f=>
   obtain ⟨R,N,d⟩:=GA hv;clear hv;have G:holds s ch->∀(β:Nat->Nat) (ρ:Operand->Value),(∀x∈(Op.call {callee:=.value f,args:=S,argTypes:=T}).operands,fy β s ρ x)->S.map ρ=R.toArray:=by intro i β ρ j;have:=zu (β:=β) (ρ:=ρ) i N λx A=>j x (by simp [Op.operands,Call.operands];right;simpa using A);grind
   cases f with
   | func g=>
    replace d:EV _ _ _ _ _ _ _ _:=d;unfold EV at d;split at d
    ·rename_i e H;cases M:tb.call g with
     | false=>
      simp only [M,cond_false] at d;split at d
      ·rename_i fx A;refine Ff (f:=e.sh.enc) d λi β a w j F K D next Q W=> ?_
       obtain ⟨u,C,U,l,⟨x,rfl,V⟩,X⟩:=M1 _ F D;have L:a.eval (.func g)=.func (.func g) #[] #[]:=rfl;have b5:(execOp a.eval {dst:=b0,op:=.call {callee:=.value (.func g),args:=S,argTypes:=T},type:=ty,pos:=pos,after:=after,guard:=guard}).run P w=.ok (.value (e.sh.enc x)) C:=by
        simp only [execOp,resolve,Deferred.ofValue,L,G i β a.eval j,Sem.run_bind,Sem.run_pure,Result.andThen_ok,invoke];have e1: #[]++R.toArray++ #[]=R.toArray:=by simp
        rw [e1,ok.ext g fx A _ w,l];rfl
       unfold Oper.wp;rw [b5,Oper.upon_value];grind
      ·exact d.elim
     | true=>
      simp only [M,cond_true] at d;refine Ff (f:=e.sh.enc) d λi β a w j F K D next Q W=> ?_
      have L:a.eval (.func g)=.func (.func g) #[] #[]:=rfl;exact Lp (first:= #[]) (captured:= #[]) ok rfl M L (G i β a.eval j) (by simpa using D) F W
    ·exact d.elim
   | tmp t=>
    replace d:EW _ _ _ _ _ _ _ _:=d;unfold EW at d;split at d
    ·rename_i e H;obtain ⟨fv,b3,E⟩:=kF d;refine Ff (f:=e.sh.enc) E λi β a w j F K D next Q W=> ?_
     obtain ⟨g,first,captured,rfl,M,D⟩:=D;have L:a.eval (.tmp t)=_:=bR (j (.tmp t) (by simp [Op.operands,Call.operands])) i b3;exact Lp ok rfl M L (G i β a.eval j) D F W
    ·exact d.elim
   | const v=>exact d.elim
   | global g=>exact d.elim
 | _=>exact hv.elim
theorem V0 {C:Ctx} {k:List Oper} (hv:Ct C k o ch s h K):gH C.P o ch s h K:=by
 obtain ⟨m,op,ty,pos,after,guard⟩:=o;unfold Ct at hv;split at hv
 ·rename_i x d b n;subst b;obtain ⟨a,c,i⟩:=kF hv;refine yn i λe q l f w p v g=> ?_;have j:l x=_:=bR (f x (by simp [Op.operands])) e c;simp only [execOp,j,LVal,Sem.run_bind,g,Result.andThen_ok,Sem.run_pure]
 ·exact hv.elim
end
theorem DV {s a:St} {c:ba} (b:∀p∈c,a.f p.1=s.f p.1):holds a c↔holds s c:=by
 have key:∀p∈c,hb a p.1=hb s p.1:=λp hp=>by unfold hb;rw [b p hp]
 exact ⟨λh p hp=>by rw [<-key p hp];exact h p hp,λh p hp=>by rw [key p hp];exact h p hp⟩
theorem FU (s:St) (d:Nat) (l:LV) (ch:ba):(s.put (some d) l ch).f d=some (l,ch):=by simp [St.put]
theorem pK {i j:Nat} (h:i≠j):Nat.beq i j=false:=by
 cases e:Nat.beq i j with
 | false=>rfl
 | true=>exact absurd (Nat.eq_of_beq_eq_true e) h
theorem s9 (s:St) {d t:Nat} (l:LV) (ch:ba) (h:t≠d):(s.put (some d) l ch).f t=s.f t:=by simp [St.put,pK h]
theorem yr (s:St) (k:Nat) (a:List Value):(s.gP k a).m k=some a:=by simp [St.gP]
theorem wT (s:St) {k j:Nat} (a:List Value) (h:j≠k):(s.gP k a).m j=s.m j:=by simp [St.gP,pK h]
theorem zze {a:Act} {d:Nat} {v:Value} (h:d<a.tmps.size):(a.put (some d) v).eval (.tmp d)=v:=by simp [Act.put,Act.eval,h]
theorem Gu {a:Act} {d t:Nat} {v:Value} (h:t≠d):(a.put (some d) v).eval (.tmp t)=a.eval (.tmp t):=by simp [Act.put,Act.eval,Array.getElem?_setIfInBounds_ne (Ne.symm h)]
structure RR (n:Nat) (Cur Liv D N:Nat->Prop) (β:Nat->Nat) (s:St) (a:Act) (h:Hp) (w:World):Prop where
 sz:a.tmps.size=n
 sub:Sub h w
 lt:∀t l c,s.f t=some (l,c)->t<n
 chain:∀t l c,s.f t=some (l,c)->∀p∈c,D p.1
 cur:∀t l c,s.f t=some (l,c)->Cur t->holds s c->a.eval (.tmp t)=LVal β l/\∀k o,(l=.box k o\/l=.eM k o)->Liv k
 aM:∀t l c,s.f t=some (l,c)->Cur t->¬holds s c->a.eval (.tmp t)=undef
 box:∀k cs,s.m k=some cs->Liv k->h (β k)=none/\∃ct,w.heap[β k]? =some (.cells cs.toArray ct (0,0))
 inj:∀k k',s.m k≠none->s.m k'≠none->Liv k->Liv k'->β k=β k'->k=k'
 lK:∀k,N k->s.m k=none
 kA:∀k,N k->∀t l c,s.f t=some (l,c)->holds s c->∀o,l≠ .box k o/\l≠ .eM k o
def live (s:St) (a:Nat->Prop) (k:Nat):Prop:=s.m k≠none/\a k
structure gX (l mm:List Nat) (lv:Nat->Prop) (β:Nat->Nat) (a:Act) (h:Hp) (w:World) (lv':Nat->Prop) (β':Nat->Nat) (a':Act) (h':Hp) (w':World):Prop where
 tmp:∀i,i∉l->a'.eval (.tmp i)=a.eval (.tmp i)
 beta:∀k,(k∉l\/k∉mm)->β' k=β k
 size:w.heap.size<=w'.heap.size
 xa:∀b,b<w.heap.size->h b=none->(∀k∈mm,lv k->β k≠b)->h' b=none
 cW:∀b,b<w.heap.size->h b=none->(∀k∈mm,lv k->β k≠b)->w'.heap[b]? =w.heap[b]?
 fresh:∀k,lv' k->(lv k/\β' k=β k)\/w.heap.size<=β' k
 os:w'.os=w.os
 tape:w'.tape=w.tape
 output:w'.output=w.output
 defers:a'.defers=a.defers
section
variable {n:Nat} {q Liv D N:Nat->Prop} {β:Nat->Nat} {s:St} {a:Act} {h:Hp} {w:World}
theorem hO {w:World} {b:Nat} {o:Obj} (h:w.heap[b]? =some o):b<w.heap.size:=by grind
theorem aa2 (c:Sub h w) {b:Nat} (hb:w.heap.size<=b):h b=none:=by
 cases e:h b with
 | none=>rfl
 | some x=>exact absurd (c.lt e) (Nat.not_lt.2 hb)
theorem gX.refl (l mm:List Nat):gX l mm (live s Liv) β a h w (live s Liv) β a h w:=
 ⟨λ_ _=>rfl,λ_ _=>rfl,Nat.le_refl _,λ_ _ e _=>e,λ_ _ _ _=>rfl,λ_ e=>.inl ⟨e,rfl⟩,rfl,rfl,rfl,rfl⟩
theorem gX.trans {l e:List Nat} {lv lv1 m:Nat->Prop} {β β1 p:Nat->Nat} {a a1 a2:Act} {h h1 d:Hp} {w w1 o:World}
  (x:gX l e lv β a h w lv1 β1 a1 h1 w1) (y:gX l e lv1 β1 a1 h1 w1 m p a2 d o):gX l e lv β a h w m p a2 d o:=by
 have j:∀b,b<w.heap.size->(∀k∈e,lv k->β k≠b)->∀k∈e,lv1 k->β1 k≠b:=λb hb c k t r=>by
  rcases x.fresh k r with ⟨h1,d⟩ | h1
  ·rw [d];exact c k t h1
  omega
 refine ⟨λi g=>(y.tmp i g).trans (x.tmp i g),λk c=>(y.beta k c).trans (x.beta k c),Nat.le_trans x.size y.size,λb hb f c=> ?_,λb hb f c=> ?_,λk c=> ?_,
  y.os.trans x.os,y.tape.trans x.tape,y.output.trans x.output,y.defers.trans x.defers⟩
 ·exact y.xa b (Nat.lt_of_lt_of_le hb x.size) (x.xa b hb f c) (j b hb c)
 ·exact (y.cW b (Nat.lt_of_lt_of_le hb x.size) (x.xa b hb f c) (j b hb c)).trans (x.cW b hb f c)
 ·rcases y.fresh k c with ⟨h1,d⟩ | h1
  ·rw [d];exact x.fresh k h1
  ·exact .inr (Nat.le_trans x.size h1)
theorem gX.mono {l v l' mm':List Nat} {p t r u:Nat->Prop} {β z:Nat->Nat} {a a1:Act} {h d:Hp} {w y:World}
  (x:gX l v p β a h w t z a1 d y) (o:∀i∈l,i∈l') (j:∀i∈v,i∈mm') (hv:∀k,p k->r k) (B:∀k,u k->t k):gX l' mm' r β a h w u z a1 d y:=
 ⟨λi A=>x.tmp i λe=>A (o i e),λk c=>x.beta k (c.imp (λe f=>e (o k f)) (λe f=>e (j k f))),x.size,λb hb m c=>x.xa b hb m λk d g=>c k (j k d) (hv k g),λb hb m c=>x.cW b hb m λk d g=>c k (j k d) (hv k g),
  λk c=>(x.fresh k (B k c)).imp (λe=>⟨hv k e.1,e.2⟩) id,x.os,x.tape,x.output,x.defers⟩
theorem gX.step {l i:List Nat} {lv:Nat->Prop} {f:Hp} {g:World} (c:Step h f w g):gX l i lv β a h w lv β a f g:=
 ⟨λ_ _=>rfl,λ_ _=>rfl,c.size,λb hb d _=>(c.cW b hb d).2,λb hb d _=>(c.cW b hb d).1,λ_ e=>.inl ⟨e,rfl⟩,c.os,c.tape,c.output,rfl⟩
theorem gX.put {l mm:List Nat} {lv:Nat->Prop} {d:Option Nat} {v:Value} (b:∀i,d=some i->i∈l):gX l mm lv β a h w lv β (a.put d v) h w:=by
 refine ⟨λi c=> ?_,λ_ _=>rfl,Nat.le_refl _,λ_ _ e _=>e,λ_ _ _ _=>rfl,λ_ e=>.inl ⟨e,rfl⟩,rfl,rfl,rfl,by cases d<;>rfl⟩;cases d with
 | none=>rfl
 | some d=>exact Gu λe=>c (e▸b d rfl)
theorem RR.step (b:RR n q Liv D N β s a h w) {c:Hp} {e:World} (d:Step h c w e):RR n q Liv D N β s a c e:=
 ⟨b.sz,d.sub,b.lt,b.chain,b.cur,b.aM,λk f l j=>by
  obtain ⟨g,m,i⟩:=b.box k f l j;obtain ⟨o,p⟩:=d.cW _ (hO i) g;grind,b.inj,b.lK,b.kA⟩
theorem RR.congr (b:RR n q Liv D N β s a h w) {m u r v:Nat->Prop} (j:∀t,m t↔q t) (g:∀t,u t↔Liv t) (z:∀t,D t->r t) (x:∀t,v t->N t):
  RR n m u r v β s a h w:=
 ⟨b.sz,b.sub,b.lt,λt l c e p hp=>z _ (b.chain t l c e p hp),λt l c e d f=>⟨(b.cur t l c e ((j t).1 d) f).1,λk o i=>(g k).2 ((b.cur t l c e ((j t).1 d) f).2 k o i)⟩,
  λt l c e d f=>b.aM t l c e ((j t).1 d) f,λk cs e d=>b.box k cs e ((g k).1 d),λk y e i d f=>b.inj k y e i ((g k).1 d) ((g y).1 f),
  λk e=>b.lK k (x k e),λk e=>b.kA k (x k e)⟩
theorem Fy {d:Nat} {l:LV} {ch c:ba} (b:¬D d) (f:∀p∈c,D p.1):holds (s.put (some d) l ch) c↔holds s c:=
 DV λp hp=>s9 s l ch λe=>b (e▸f p hp)
theorem DJ (d:RR n q Liv D N β s a h w) {x:Operand} (i:∀t,x=.tmp t->q t):fy β s a.eval x:=by
 cases x with
 | tmp t=>exact λl c e b=>(d.cur t l c e (i t rfl) b).1
 | const v=>rfl
 | global g=>rfl
 | func f=>rfl
theorem Lq (b:RR n q Liv D N β s a h w) {o:Oper} (i:∀t,Operand.tmp t∈o.op.operands->q t):qo β s o w:=by
 intro t g k off c hf e d f;rcases hf with hf | hf
 ·exact (b.box k d f ((b.cur t _ c hf (i t g) e).2 k off (.inl rfl))).2
 ·exact (b.box k d f ((b.cur t _ c hf (i t g) e).2 k off (.inr rfl))).2
theorem RR.lift (g:RR n q Liv D N β s a h w) {d:Nat} {l:LV} {ch:ba} (y:d<n) (r:¬D d) (u:∀p∈ch,D p.1) (A:holds s ch->∀k o,(l=.box k o\/l=.eM k o)->¬N k):
  RR n (λt=>t≠d/\q t) Liv D N β (s.put (some d) l ch) a h w:=by
 have key:∀t b c,(s.put (some d) l ch).f t=some (b,c)->t=d/\b=l/\c=ch\/t≠d/\s.f t=some (b,c):=λt b c e=>by
  by_cases v:t=d
  ·subst v;rw [FU] at e;grind
  ·rw [s9 _ _ _ v] at e;grind
 refine ⟨g.sz,g.sub,λt b c e=> ?_,λt b c e=> ?_,λt b c e m j=> ?_,λt b c e m j=> ?_,g.box,g.inj,g.lK,λk z t b c e j o=> ?_⟩
 ·rcases key t b c e with ⟨rfl,_,_⟩ | ⟨_,i⟩
  ·exact y
  ·exact g.lt t b c i
 ·rcases key t b c e with ⟨_,_,rfl⟩ | ⟨_,i⟩
  ·exact u
  ·exact g.chain t b c i
 ·rcases key t b c e with ⟨rfl,_,_⟩ | ⟨_,i⟩
  ·exact absurd rfl m.1
  ·exact g.cur t b c i m.2 ((Fy r (g.chain t b c i)).1 j)
 ·rcases key t b c e with ⟨rfl,_,_⟩ | ⟨_,i⟩
  ·exact absurd rfl m.1
  ·exact g.aM t b c i m.2 λx=>j ((Fy r (g.chain t b c i)).2 x)
 ·rcases key t b c e with ⟨_,rfl,rfl⟩ | ⟨_,i⟩
  ·have B:=(Fy r u).1 j;grind
  ·exact g.kA k z t b c i ((Fy r (g.chain t b c i)).1 j) o
theorem RR.exec (b:RR n q Liv D N β s a h w) {d:Nat} {l:LV} {ch:ba} {v:Value} (m:s.f d=some (l,ch)) (y:¬q d)
  (u:holds s ch->v=LVal β l/\∀k o,(l=.box k o\/l=.eM k o)->Liv k) (x:¬holds s ch->v=undef):
  RR n (λt=>t=d\/q t) Liv D N β s (a.put (some d) v) h w:=by
 have r:=b.lt d l ch m;refine ⟨by simpa [Act.put] using b.sz,b.sub,b.lt,b.chain,λt p c e j i=> ?_,λt p c e j i=> ?_,b.box,b.inj,b.lK,b.kA⟩
 ·by_cases g:t=d
  ·subst g;rw [m] at e;cases e;rw [zze (by rw [b.sz];exact r)];exact u i
  ·rw [Gu g];exact b.cur t p c e (j.resolve_left g) i
 ·by_cases g:t=d
  ·subst g;rw [m] at e;cases e;rw [zze (by rw [b.sz];exact r)];exact x i
  ·rw [Gu g];exact b.aM t p c e (j.resolve_left g) i
theorem RR.zR (b:RR n q Liv D N β s a h w) {d:Nat} (u:List Value) (I:d<n) (G:¬D d) (H:N d):
  RR n (λt=>t≠d/\q t) (λk=>k≠d/\Liv k) D (λk=>k≠d/\N k) β ((s.put (some d) (.box d 0) []).gP d u) a h w:=by
 have r:∀t,t≠d->((s.put (some d) (.box d 0) []).gP d u).f t=s.f t:=λt i=>s9 s _ _ i;have J:((s.put (some d) (.box d 0) []).gP d u).f d=some (.box d 0,[]):=FU s _ _ _;have z:∀k,k≠d->((s.put (some d) (.box d 0) []).gP d u).m k=s.m k:=λk g=>wT _ _ g;have A:∀c:ba,(∀p∈c,D p.1)->(holds ((s.put (some d) (.box d 0) []).gP d u) c↔holds s c):=λc j=>DV λp hp=>r _ λe=>G (e▸j p hp);refine ⟨b.sz,b.sub,λt l c e=> ?_,λt l c e=> ?_,λt l c e j v=> ?_,λt l c e j v=> ?_,λk E e g=> ?_,λk C e x g B=> ?_,λk g=> ?_,λk g t l c e v o=> ?_⟩
 ·by_cases i:t=d
  ·exact i▸I
  ·exact b.lt t l c (by rwa [r t i] at e)
 ·by_cases i:t=d
  ·grind
  ·exact b.chain t l c (by rwa [r t i] at e)
 ·rw [r t j.1] at e;have y:=(A c (b.chain t l c e)).1 v;have:=b.cur t l c e j.2 y;refine ⟨this.1,λk o x=>⟨λF=> ?_,this.2 k o x⟩⟩;subst F;have:=b.kA k H t l c e y o;grind
 ·rw [r t j.1] at e;exact b.aM t l c e j.2 λy=>v ((A c (b.chain t l c e)).2 y)
 ·rw [z k g.1] at e;exact b.box k E e g.2
 ·rw [z k g.1] at e;rw [z C B.1] at x;exact b.inj k C e x g.2 B.2
 ·rw [z k g.1];exact b.lK k g.2
 ·by_cases i:t=d
  ·grind
  ·rw [r t i] at e;exact b.kA k g.2 t l c e ((A c (b.chain t l c e)).1 v) o
theorem Ig (c:Sub h w) (o:Obj):Step h h w {w with heap:=w.heap.push o}:=by
 refine ⟨λb x e=> ?_,by simp,λb hb f=>⟨?_,f⟩,rfl,rfl,rfl⟩
 ·have d:=c.lt e;simp only [Array.getElem?_push,if_neg (Nat.ne_of_lt d)];exact c b x e
 grind
def uU (β:Nat->Nat) (d b:Nat):Nat->Nat:=λk=>if k=d then b else β k
theorem RR.zJ (b:RR n q Liv D N β s a h w) {d:Nat} {C:List Value} (t:Nat) (G:s.f d=some (.box d 0,[])) (O:s.m d=some C) (R:¬q d) (H:¬Liv d):
  RR n (λt=>t=d\/q t) (λk=>k=d\/Liv k) D N (uU β d w.heap.size) s (a.put (some d) (.pointer (some ⟨w.heap.size,0,none⟩))) h {w with heap:=w.heap.push (.cells C.toArray t (0,0))}:=by
 have P:h w.heap.size=none:=aa2 b.sub (Nat.le_refl _);have J:∀k,s.m k≠none->Liv k->β k<w.heap.size:=λk i M=>by obtain ⟨E,e⟩:=Option.ne_none_iff_exists'.1 i;obtain ⟨_,Q,K⟩:=b.box k E e M;exact hO K
 have b:=b.step (Ig b.sub (.cells C.toArray t (0,0)));have L:=b.lt d _ _ G;have p:∀k,k≠d->uU β d w.heap.size k=β k:=λk i=>by simp [uU,i]
 refine ⟨by simpa [Act.put] using b.sz,b.sub,b.lt,b.chain,λz B c e F A=> ?_,λz B c e F A=> ?_,λk E e i=> ?_,λk u e y i I r=> ?_,b.lK,b.kA⟩
 ·by_cases l:z=d
  ·subst l;rw [G] at e;cases e;rw [zze (by rw [b.sz];exact L)];refine ⟨by simp [LVal,uU],λk o y=>.inl ?_⟩;grind
  ·rw [Gu l];have:=b.cur z B c e (F.resolve_left l) A;refine ⟨?_,λk o y=>.inr (this.2 k o y)⟩;rw [this.1];cases B with
   | v x=>rfl
   | box k o=>have i:k≠d:=λg=>H (g▸this.2 k o (.inl rfl));simp [LVal,p k i]
   | eM k o=>have i:k≠d:=λg=>H (g▸this.2 k o (.inr rfl));simp [LVal,p k i]
 ·by_cases l:z=d
  ·subst l;rw [G] at e;cases e;exact absurd (bS s) A
  ·rw [Gu l];exact b.aM z B c e (F.resolve_left l) A
 ·by_cases g:k=d
  ·subst g;rw [O] at e;cases e;refine ⟨?_,t,?_⟩
   ·simpa [uU] using P
   ·simp [uU]
  ·rw [p k g];exact b.box k E e (i.resolve_left g)
 ·by_cases g:k=d
  ·by_cases j:u=d
   ·rw [g,j]
   ·rw [p u j,g] at r;have:=J u y (I.resolve_left j);simp only [uU,if_true] at r;omega
  ·by_cases j:u=d
   ·rw [p k g,j] at r;have:=J k e (i.resolve_left g);simp only [uU,if_true] at r;omega
   ·rw [p k g,p u j] at r;exact b.inj k u e y (i.resolve_left g) (I.resolve_left j) r
theorem Ho {l mm:List Nat} {d:Nat} {g:List Value} (t:Nat) (r:Sub h w) (v:s.m d=some g) (u:¬Liv d) (o:d∈l) (x:d∈mm):
  gX l mm (live s Liv) β a h w (live s λk=>k=d\/Liv k) (uU β d w.heap.size) (a.put (some d) (.pointer (some ⟨w.heap.size,0,none⟩))) h {w with heap:=w.heap.push (.cells g.toArray t (0,0))}:=by
 refine ⟨λi j=>Gu λe=>j (e▸o),λk f=> ?_,by simp,λ_ _ e _=>e,λb hb p _=>((Ig r _).cW b hb p).1,λk f=> ?_,rfl,rfl,rfl,rfl⟩
 ·have:k≠d:=λe=>by grind
  simp [uU,this]
 ·by_cases c:k=d
  ·subst c;exact .inr (by simp [uU])
  ·exact .inl ⟨⟨f.1,f.2.resolve_left c⟩,by simp [uU,c]⟩
theorem yu (b:Nat) (d:Nat):∀(new:List Value) (h:Hp) (i off:Nat) (c:List Value),off+i+new.length<=c.length->h b=some (.cells c.toArray d (0,0))->
  (kB h ⟨b,off,none⟩ new i) b=some (.cells (lu c (off+i) new).toArray d (0,0))/\∀f,f≠b->(kB h ⟨b,off,none⟩ new i) f=h f
 | [],h,i,off,c,g,e=>by refine ⟨?_,λ_ _=>rfl⟩;rw [zv _ _ _ (by simpa using g)];simpa [kB] using e
 | v::new,h,i,off,c,g,e=>by
  simp at g;have l:(h.put ((⟨b,off,none⟩:Addr).add i) v)=h.set b (.cells (c.set (off+i) v).toArray d (0,0)):=by rw [kH];unfold Hp.put;grind
  have m:(h.set b (.cells (c.set (off+i) v).toArray d (0,0))) b=some (.cells (c.set (off+i) v).toArray d (0,0)):=by simp [Hp.set]
  obtain ⟨o,p⟩:=yu b d new _ (i+1) off (c.set (off+i) v) (by simp;omega) m;simp only [kB,l];refine ⟨?_,λf k=> ?_⟩
  ·rw [o,zv _ _ _ (by simp;omega),zv _ _ _ (by simp;omega)];congr 3;apply List.ext_getElem?;intro j;simp only [List.getElem?_append,List.length_append,List.length_take,List.length_set,List.length_cons,List.getElem?_take,List.getElem?_drop,List.getElem?_set];grind
  ·rw [p f k];simp [Hp.set,k]
theorem QB {P:Program} {b k off:Nat} {d new:List Value} (z:Sub h w) (hb:w.heap[b]? =some (.cells d.toArray k (0,0))) (F:h b=none) (x:jE new=true) (E:off+new.length<=d.length):
  ∃c,(storeCells ⟨b,off,none⟩ new 0).run P w=.ok () c/\c.heap[b]? =some (.cells (lu d off new).toArray k (0,0))/\(∀f,f<w.heap.size->f≠b->h f=none->c.heap[f]? =w.heap[f]?)/\
   Sub h c/\w.heap.size<=c.heap.size/\c.os=w.os/\c.tape=w.tape/\c.output=w.output:=by
 have A:Sub (h.set b (.cells d.toArray k (0,0))) w:=by
  intro i o e;unfold Hp.set at e;by_cases l:i=b
  ·grind
  ·simp [l] at e;exact z i o e
 have m:(h.set b (.cells d.toArray k (0,0))) b=some (.cells d.toArray k (0,0)):=by simp [Hp.set]
 obtain ⟨c,y,g⟩:=Gl (P:=P) (a:=⟨b,off,none⟩) new 0 _ w A x (λj C=>by
  rw [kH];refine ⟨⟨d[off+(0+j)]'(by omega),?_⟩,?_⟩
  ·simp only [dw,m];simp
  ·simp only [gS,m];simp)
 obtain ⟨p,r⟩:=yu b k new _ 0 off d (by omega) m;refine ⟨c,y,g.sub _ _ p,λf t v u=>(g.cW f t (by simp [Hp.set,v,u])).1,λi o e=>g.sub i o ?_,g.size,g.os,g.tape,g.output⟩;have l:i≠b:=λB=>by grind
 rw [r i l];simp [Hp.set,l,e]
theorem RR.CP (b:RR n q Liv D N β s a h w) {k l:Nat} {i j:List Value} {g:World} (v:s.m k=some i) (r:Liv k)
  (hb:g.heap[β k]? =some (.cells j.toArray l (0,0))) (F:∀f,f<w.heap.size->f≠β k->h f=none->g.heap[f]? =w.heap[f]?) (G:Sub h g):
  RR n q Liv D N β (s.gP k j) a h g:=by
 refine ⟨b.sz,G,b.lt,b.chain,b.cur,b.aM,λd z e u=> ?_,λx y C E=>b.inj x y ?_ ?_,λd t=> ?_,b.kA⟩
 ·by_cases c:d=k
  ·subst c;rw [yr] at e;cases e;exact ⟨(b.box d i v r).1,l,hb⟩
  ·rw [wT _ _ c] at e;obtain ⟨o,A,p⟩:=b.box d z e u;refine ⟨o,A,?_⟩;rw [F _ (hO p) (λB=>c (b.inj d k (by simp [e]) (by simp [v]) u r B)) o];exact p
 ·intro e;by_cases c:x=k
  ·grind
  ·exact C (by rw [wT _ _ c];exact e)
 ·intro e;by_cases c:y=k
  ·grind
  ·exact E (by rw [wT _ _ c];exact e)
 ·by_cases c:d=k
  ·have:=b.lK d t;grind
  ·rw [wT _ _ c];exact b.lK d t
end
section
variable {n:Nat} {g Liv D N:Nat->Prop} {β:Nat->Nat} {s:St} {a:Act} {h:Hp} {w:World}
theorem RR.gC (j:RR n g Liv D N β s a h w) {dst:Option Nat} {l:LV} {ch:ba} {v:Value} (q:∀d,dst=some d->d<n/\¬D d) (f:∀p∈ch,D p.1)
  (i:holds s ch->v=LVal β l/\∀k o,(l=.box k o\/l=.eM k o)->Liv k/\¬N k) (m:¬holds s ch->v=undef):
  RR n (λt=>dst=some t\/g t) Liv D N β (s.put dst l ch) (a.put dst v) h w:=by
 cases dst with
 | none=>exact j.congr (λt=>by simp) (λ_=>.rfl) (λ_ e=>e) (λ_ e=>e)
 | some d=>
  obtain ⟨r,c⟩:=q d rfl;have u:=(j.lift r c f λb k o e=>(((i b).2 k o e).2)).exec (v:=v) (FU s d l ch) (λe=>e.1 rfl)
   (λb=>⟨(i ((Fy c f).1 b)).1,λk o e=>((i ((Fy c f).1 b)).2 k o e).1⟩) (λb=>m λe=>b ((Fy c f).2 e))
  grind
theorem Lr (v:RR n g Liv D N β s a h w) {c:ba} {k:List Oper} {m:Nat} {o:Oper} (e:qn k m o=some c) (f:tZ s c=true)
  (z:∀j b p d,o.guard=some (j,b)->nth k j=some p->p.dst=some d->D d):∀p∈c,D p.1:=by
 cases m with
 | zero=>simp [qn] at e
 | succ m=>
  simp only [qn] at e;split at e
  ·cases e;simp
  ·rename_i j b A;split at e
   ·rename_i p hp;split at e
    ·rename_i d l y x;cases e;simp only [tZ] at f;split at f
     ·rename_i t r u;cases i:py r l with
      | false=>simp [i] at f
      | true=>
       have:=zt i;subst this;intro q hq;rcases List.mem_cons.1 hq with rfl | hq
       ·grind
       ·exact v.chain d _ _ u q hq
     ·cases f
    ·cases e
   ·cases e
theorem MR (r:RR n g Liv D N β s a h w) {ch:ba} {ops:Array Oper} {m:Nat} {o:Oper} (c:qn ops.toList m o=some ch) (i:tZ s ch=true)
  (B:∀j b p d,o.guard=some (j,b)->nth ops.toList j=some p->p.dst=some d->g d):Region.wanted o (yielded ops a.tmps)=true↔holds s ch:=by
 cases m with
 | zero=>simp [qn] at c
 | succ m=>
  simp only [qn] at c;split at c
  ·rename_i k;cases c;simp [Region.wanted,k,bS]
  ·rename_i j b k;split at c
   ·rename_i p hp;split at c
    ·rename_i d A y F;cases c;simp only [tZ] at i;split at i
     ·rename_i t u f;cases v:py u A with
      | false=>simp [v] at i
      | true=>
       have:=zt v;subst this;have x:=B j b p d k hp y;have z:d<a.tmps.size:=by rw [r.sz];exact r.lt d _ _ f
       have C:ops[j]? =some p:=by rw [nh] at hp;simpa using hp
       have E:yielded ops a.tmps j=match a.eval (.tmp d) with | .bool b=>some b | _=>none:=by unfold yielded;simp only [C,Option.bind_some,y,Act.eval];have:a.tmps[d]? =some (a.tmps[d]'z):=Array.getElem?_eq_getElem z;simp only [this,Array.getD_eq_getD_getElem?,Option.getD_some];grind
       simp only [Region.wanted,k,E];by_cases l:holds s u
       ·have:=(r.cur d _ _ f x l).1;rw [this];simp only [LVal];constructor
        ·intro e;have e:t=b:=by simpa using e
         subst e;intro q hq;rcases List.mem_cons.1 hq with rfl | hq
         ·simp [hb,f]
         ·exact l q hq
        ·intro e;have:=e (d,b) (List.mem_cons_self ..);simp only [hb,f] at this;simpa using this
       ·have:=r.aM d _ _ f x l;rw [this];simp only [undef];refine ⟨λe=>by simp at e,λe=>absurd (λq hq=>e q (List.mem_cons_of_mem _ hq)) l⟩
     ·cases i
    ·cases c
   ·cases c
def df (aV:List Nat) (o:Oper) (k:Nat):Prop:=mK aV o=true/\o.dst=some k
structure u9 (C:Ctx) (l mok:List Nat) (n:Nat) (g Liv D N:Nat->Prop) (o:Oper) (β:Nat->Nat) (s:St) (a:Act) (h:Hp) (w:World) (β':Nat->Nat) (s':St) (a':Act) (h':Hp) (w':World):Prop where
 rr:RR n (λt=>o.dst=some t\/g t) (λk=>df C.aV o k\/Liv k) D (λk=>¬df C.aV o k/\N k) β' s' a' h' w'
 vS:gX l mok (live s Liv) β a h w (live s' λk=>df C.aV o k\/Liv k) β' a' h' w'
 f:∀t,o.dst≠some t->s'.f t=s.f t
 m:∀k,s'.m k=s.m k\/df C.aV o k\/(vn o s k=true/\isVal C.tb o=false/\s.m k≠none/\Liv k)
 hv:isVal C.tb o=true->h'=h
 hp:mK C.aV o=true->h'=h
theorem FT {C:Ctx} {o:Oper} (h:mK C.aV o=false) (k:Nat):¬df C.aV o k:=λe=>by have:=e.1;grind
theorem JW {C:Ctx} {l p:List Nat} {o:Oper} {b:St} {d:Act} {c:Hp} {i:World} (hp:mK C.aV o=false)
  (rr:RR n (λt=>o.dst=some t\/g t) Liv D N β b d c i) (vS:gX l p (live s Liv) β a h w (live b Liv) β d c i)
  (f:∀t,o.dst≠some t->b.f t=s.f t) (m:∀k,b.m k=s.m k\/(vn o s k=true/\isVal C.tb o=false/\s.m k≠none/\Liv k)) (hv:isVal C.tb o=true->c=h):
  u9 C l p n g Liv D N o β s a h w β b d c i:=by
 have j:∀k,(df C.aV o k\/Liv k)↔Liv k:=λk=>⟨λe=>e.resolve_left (FT hp k),.inr⟩;refine ⟨rr.congr (λ_=>.rfl) j (λ_ e=>e) (λ_ e=>e.2),vS.mono (λ_ e=>e) (λ_ e=>e) (λ_ e=>e) (λk e=>⟨e.1,(j k).1 e.2⟩),f,λk=>(m k).imp id .inr,hv,λe=>by grind⟩
theorem vN (s:St) (d:Option Nat) (l:LV) (ch:ba) (t:Nat) (h:d≠some t):(s.put d l ch).f t=s.f t:=by
 cases d with
 | none=>rfl
 | some d=>exact s9 s l ch λe=>h (by rw [e])
theorem nf (s:St) (d:Option Nat) (l:LV) (ch:ba):(s.put d l ch).m=s.m:=by cases d<;>rfl
theorem Ot {C:Ctx} {o:Oper} (h:isVal C.tb o=true):mK C.aV o=false:=by obtain ⟨b,op,ty,pos,after,guard⟩:=o;cases op<;>first | rfl | (simp [isVal] at h;done) | (cases b<;>simp [isVal,mK] at h ⊢)
theorem Ls (f:RR n g Liv D N β s a h w) {o:Oper} {ch:ba} {l:LV} (hp:mN o ch s l) (p:holds s ch) (m:∀t,Operand.tmp t∈o.op.operands->g t):
  ∀k off,(l=.box k off\/l=.eM k off)->Liv k/\¬N k:=by
 intro k off e;obtain ⟨x,q,i,hev⟩:=hp k off e;rcases hev with hev | hev
 ·obtain ⟨t,c,rfl,d,b⟩:=s8 hev (by simp) p;exact ⟨(f.cur t _ c d (m t q) b).2 k i (.inl rfl),λj=>(f.kA k j t _ c d b i).1 rfl⟩
 ·obtain ⟨t,c,rfl,d,b⟩:=s8 hev (by simp) p;exact ⟨(f.cur t _ c d (m t q) b).2 k i (.inr rfl),λj=>(f.kA k j t _ c d b i).2 rfl⟩
theorem Lt {C:Ctx} (ok:C.tb.Ok C.P) {G:Array Oper} {l M:List Nat} {K:St->Hp->Prop} {i:Nat} {o:Oper} (hi:G[i]? =some o) (hv:CJ C G.toList M o s h K)
  (q:RR n g Liv D N β s a h w) (a8:∀t,Operand.tmp t∈o.op.operands->g t)
  (b9:∀j b p d,o.guard=some (j,b)->nth G.toList j=some p->p.dst=some d->g d/\D d) (b0:∀d,o.dst=some d->d<n/\¬D d/\d∈l)
  (hN:∀d,df C.aV o d->N d/\¬Liv d) (next:Act->World->Prop) (Q:Exit->Act->World->Prop)
  (T:∀s' z f9 a' u,K s' z->u9 C l M n g Liv D N o β s a h w f9 s' a' z u->next a' u):wpOp C.P G Q i next a w:=by
 unfold CJ at hv;split at hv
 ·exact hv.elim
 rename_i ch b6;cases hg:tZ s ch with
 | false=>simp [hg] at hv
 | true=>
 simp only [hg,cond_true] at hv;have d8:∀j b p d,o.guard=some (j,b)->nth G.toList j=some p->p.dst=some d->g d:=λj b p d e1 e2 e3=>(b9 j b p d e1 e2 e3).1;have L:=MR q b6 hg d8;have hD:=Lr q b6 hg λj b p d e1 e2 e3=>(b9 j b p d e1 e2 e3).2;have U:∀x∈o.op.operands,fy β s a.eval x:=λx H=>DJ q λt e=>a8 t (e▸H);have b7:∀d,o.dst=some d->d<n/\¬D d:=λd e=>⟨(b0 d e).1,(b0 d e).2.1⟩;have b8:∀d,o.dst=some d->d∈l:=λd e=>(b0 d e).2.2;unfold wpOp;simp only [hi];have f8:∀(l:LV) k,live (s.put o.dst l ch) Liv k↔live s Liv k:=λl k=>by unfold live;rw [nf]
 have Y:∀(lv:LV) (z:Hp) (v:Value) (u:World),K (s.put o.dst lv ch) z->mK C.aV o=false->(isVal C.tb o=true->z=h)->Step h z w u->
   (holds s ch->v=LVal β lv/\∀k off,(lv=.box k off\/lv=.eM k off)->Liv k/\¬N k)->(¬holds s ch->v=undef)->next (a.put o.dst v) u:=by
  intro lv z v u B hp f7 J h1 F;refine T _ _ β _ _ B (JW hp ((q.step J).gC b7 hD h1 F) ?_ (λt W=>vN s _ _ _ t W) (λk=>.inl (by rw [nf])) f7);refine ((gX.step J).trans (gX.put (lv:=live s Liv) b8)).mono (λ_ e=>e) (λ_ e=>e) (λ_ e=>e) (λk e=>(f8 lv k).1 e)
 cases X:isVal C.tb o with
 | true=>
  simp only [X,cond_true] at hv;obtain ⟨lv,B,V,e4⟩:=MM ok hv;by_cases A:holds s ch
  ·rw [if_pos (L.2 A)];left;obtain ⟨u,e6,c4,J⟩:=V A β a.eval w U (λ_=>q.sub) (λ_=>Lq q a8);unfold Oper.wp;rw [e6];have e9:Step h h w u:=by
    cases b2:dd C.tb o ch s with
    | mem=>exact J b2
    | pure=>rw [c4 (by rw [b2];simp)];exact .refl q.sub
    | box=>rw [c4 (by rw [b2];simp)];exact .refl q.sub
   exact Y lv h _ u B (Ot X) (λ_=>rfl) e9 (λ_=>⟨rfl,Ls q e4 A a8⟩) (λe=>absurd A e)
  ·rw [if_neg (λe=>A (L.1 e))];exact Y lv h _ w B (Ot X) (λ_=>rfl) (.refl q.sub) (λe=>absurd e A) (λ_=>rfl)
 | false=>
  simp only [X,cond_false] at hv;have b4:mK C.aV o=false->(gH C.P o ch s h λl z=>K (s.put o.dst l ch) z)->
    if Region.wanted o (yielded G a.tmps)=true then o.wp C.P a w next Q\/o.asks C.P a w/\LetsOut Q else next (a.put o.dst undef) w:=by
   intro hp hv;obtain ⟨h1,F⟩:=hv;by_cases A:holds s ch
   ·rw [if_pos (L.2 A)];left;refine h1 A β a w U q.sub next Q λx z u B J=> ?_
    exact Y (.v x) z x u B hp (λe=>by grind) J (λ_=>⟨rfl,λk off e=>by grind⟩) (λe=>absurd A e)
   ·rw [if_neg (λe=>A (L.1 e))];obtain ⟨x,B⟩:=F A;exact Y (.v x) h undef w B hp (λ_=>rfl) (.refl q.sub) (λe=>absurd e A) (λ_=>rfl)
  have c6:mK C.aV o=false->(xx C.P C.tb o ch s h λl z=>K (s.put o.dst l ch) z)->
    if Region.wanted o (yielded G a.tmps)=true then o.wp C.P a w next Q\/o.asks C.P a w/\LetsOut Q else next (a.put o.dst undef) w:=λhp hv=>b4 hp (VZ ok hv)
  have b5:∀(d:Nat) (r:List Value) (t:Nat),K ((s.put (some d) (.box d 0) []).gP d r) h->df C.aV o d->ch=[]->has M d=true->
    (execOp a.eval o).run C.P w=.ok (.value (.pointer (some ⟨w.heap.size,0,none⟩))) {w with heap:=w.heap.push (.cells r.toArray t (0,0))}->
    if Region.wanted o (yielded G a.tmps)=true then o.wp C.P a w next Q\/o.asks C.P a w/\LetsOut Q else next (a.put o.dst undef) w:=by
   intro d r t B hp he I V;subst he;rw [if_pos (L.2 (bS s))];left;unfold Oper.wp;rw [V];show next (a.put o.dst _) _
   rw [hp.2];obtain ⟨d3,d1,d2⟩:=b0 d hp.2;obtain ⟨c7,g0⟩:=hN d hp;have hl:=q.zR r d3 d1 c7;have d7:((s.put (some d) (.box d 0) []).gP d r).f d=some (.box d 0,[]):=FU s _ _ _;have c1:((s.put (some d) (.box d 0) []).gP d r).m d=some r:=yr _ _ _;have H:=hl.zJ t d7 c1 (λe=>e.1 rfl) (λe=>e.1 rfl);have d9:∀k,df C.aV o k↔k=d:=λk=>⟨λe=>by have:=e.2;rw [hp.2] at this;cases this;rfl,λe=>e▸hp⟩;refine T _ _ _ _ _ B ⟨H.congr (λt=> ?_) (λk=> ?_) (λ_ e=>e) (λk e=> ?_),?_,λt W=> ?_,λk=> ?_,λ_=>rfl,λ_=>rfl⟩
   ·rw [hp.2];grind
   ·grind
   ·grind
   ·refine (Ho (s:=(s.put (some d) (.box d 0) []).gP d r) (Liv:=λk=>k≠d/\Liv k) (β:=β) (a:=a) (l:=l) (mm:=M) t q.sub c1 (λe=>e.1 rfl) d2 ((rX _ _).1 I)).mono
     (λ_ e=>e) (λ_ e=>e) (λk e=>⟨λe'=>e.1 ?_,e.2.2⟩) (λk e=>⟨e.1,?_⟩)
    ·rw [wT _ _ e.2.1];exact e'
    ·rcases e.2 with e2 | e2
     ·exact .inl ((d9 k).1 e2)
     grind
   ·exact s9 s _ _ λe=>W (by rw [hp.2,e])
   ·by_cases ek:k=d
    ·grind
    ·exact .inl (wT _ _ ek)
  split at hv
  ·rename_i d R;have a9:o.dst=some d/\has C.aV d=true:=by unfold qV at R;grind
   cases I:has M d with
   | false=>simp [I] at hv
   | true=>
    simp only [I,cond_true] at hv;split at hv
    ·rename_i t E;split at hv
     ·rename_i e he;refine b5 d (bu e.zero) t hv ⟨by simp [mK,E,a9],a9.1⟩ rfl I ?_;have e2:(bu e.zero).toArray=e.zero.cells:=by apply Array.ext';simp [oV]
      rw [e2];simp [execOp,E,Instr.alloc,cX ok he,newVar,tU]
     ·exact hv.elim
    ·rename_i t x E;obtain ⟨v,d5,f6⟩:=kF hv;refine b5 d (bu v) t f6 ⟨by simp [mK,E,a9],a9.1⟩ rfl I ?_;have H:=bR (U x (by simp [E,Op.operands])) (bS s) d5;have e2:(bu v).toArray=v.cells:=by apply Array.ext';simp [oV]
     rw [e2];simp [execOp,E,H,LVal,Instr.box,newVar,tU]
    ·exact hv.elim
  ·exact hv.elim
  ·rename_i R;have b3:mK C.aV o=false:=by
    unfold qV at R;unfold mK;split at R
    ·rename_i d' e;cases h1:has C.aV d' with
     | true=>simp [h1] at R
     | false=>rw [e];cases o.op<;>simp [h1]
    ·rename_i e;rw [e];cases o.op<;>simp
   split at hv
   ·rename_i t x y E;split at hv
    ·rename_i k off v b1 d6;split at hv
     ·rename_i r e S f5;cases h1:has M k with
      | false=>simp [h1] at hv
      | true=>
      cases F:Nat.beq (bu v).length e.size with
      | false=>simp [h1,F] at hv
      | true=>
      cases Z:Nat.ble (off+e.size) r.length with
      | false=>simp [h1,F,Z] at hv
      | true=>
      cases h4:jE (bu v) with
      | false=>simp [h1,F,Z,h4] at hv
      | true=>
      simp only [h1,F,Z,h4,cond_true] at hv;rw [if_pos (L.2 (bS s))];left;have c5:x∈o.op.operands:=by simp [E,Op.operands]
      have H:=bR (U x c5) (bS s) b1;have hy:=bR (U y (by simp [E,Op.operands])) (bS s) d6;obtain ⟨tt,c,rfl,hf,hc⟩:=s8 b1 (by simp) (bS s);have hL:Liv k:=(q.cur tt _ c hf (a8 tt c5) hc).2 k off (.inl rfl);obtain ⟨c9,ct,d0⟩:=q.box k r S hL;have c0:(bu v).length=e.size:=Nat.eq_of_beq_eq_true F;obtain ⟨u,V,c8,c2,f0,e7,h5,h6,h7⟩:=QB (P:=C.P) (off:=off) q.sub d0 c9 h4 (by rw [c0];exact Nat.le_of_ble_eq_true Z);have f4:=cE ok f5 w;have e0:v.cells.size=e.size:=by rw [<-Array.length_toList,oV];exact c0
      unfold Oper.wp;have e5:(execOp a.eval o).run C.P w=.ok .skip u:=by
       simp only [execOp,E,H,hy,LVal,Instr.storeAt,Instr.sureAddr,Sem.run_bind,Sem.run_pure,Result.andThen_ok,storeVar,f4,e0,ne_eq,not_true,if_false,oV];have:(if False then (stuck "storeVar: the value has not the size of the variable" :Sem Unit) else pure PUnit.unit).run C.P w=.ok () w:=rfl
       first | rw [this] | skip
       simp only [V,Result.andThen_ok]
      rw [e5,Oper.upon_skip];have c3:=(q.CP S hL c8 c2 f0).gC (dst:=o.dst) (l:=.v (.tuple #[])) (ch:=[]) (v:=undef) b7 (by simp) (λ_=>⟨rfl,λk off e=>by rcases e with e | e<;>cases e⟩) (λe=>absurd (bS _) e);have d4:((s.gP k (lu r off (bu v))).put o.dst (.v (.tuple #[])) [])=((s.put o.dst (.v (.tuple #[])) []).gP k (lu r off (bu v))):=by cases o.dst<;>rfl
      rw [d4] at c3;have e8:∀j,((s.put o.dst (.v (.tuple #[])) []).gP k (lu r off (bu v))).m j≠none->s.m j≠none:=λj hj=>by
       by_cases O:j=k
       ·rw [O,S];simp
       ·rw [wT _ _ O,nf] at hj;exact hj
      refine T _ _ _ _ _ hv (JW b3 c3 ?_ (λt W=>vN s _ _ _ t W) (λj=> ?_) (λ_=>rfl))
      ·refine gX.trans (lv1:=live s Liv) (β1:=β) (a1:=a) (h1:=h) (w1:=u) ⟨λ_ _=>rfl,λ_ _=>rfl,e7,λ_ _ e _=>e,λb hb T B=> ?_,λ_ e=>.inl ⟨e,rfl⟩,h5,h6,h7,rfl⟩ ((gX.put (lv:=live s Liv) b8).mono (λ_ e=>e) (λ_ e=>e) (λ_ e=>e) (λj e=>⟨e8 j e.1,e.2⟩));exact c2 b hb (λe=>B k ((rX _ _).1 h1) ⟨by rw [S];simp,hL⟩ e.symm) T
      ·by_cases O:j=k
       ·subst O;exact .inr ⟨by simp [vn,E,b1],X,by rw [S];simp,hL⟩
       ·exact .inl (by rw [wT _ _ O,nf])
     ·exact hv.elim
    ·exact c6 b3 hv
   ·exact b4 b3 (V0 hv)
   grind
end
abbrev Rel (n:Nat) (b:Nat->Nat) (s:St) (a:Act) (h:Hp) (w:World):Prop:=
 RR n (λ_=>True) (λ_=>True) (λ_=>False) (λ_=>False) b s a h w
abbrev de (s:St):Nat->Prop:=live s λ_=>True
section
variable {n:Nat} {q Liv D N:Nat->Prop} {β:Nat->Nat} {s:St} {a:Act} {h:Hp} {w:World}
theorem zw {s:St} {t:Nat} {l:LV} {c:ba} (e:s.clean.f t=some (l,c)):s.f t=some (l,[])/\c=[]:=by simp only [St.clean] at e;grind
theorem RR.clean (b:RR n (λ_=>True) (λ_=>True) D N β s a h w):Rel n β s.clean a h w:=by
 refine ⟨b.sz,b.sub,λt l c e=>b.lt t l _ (zw e).1,λt l c e p hp=> ?_,λt l c e _ _=>b.cur t l _ (zw e).1 trivial (bS _),λt l c e _ d=> ?_,b.box,b.inj,λ_ e=>e.elim,λ_ e=>e.elim⟩
 ·rw [(zw e).2] at hp;cases hp
 ·rw [(zw e).2] at d;exact absurd (bS _) d
theorem na {l:List Nat} {x:Option (LV×ba)} {v:LV} {c:ba} (e:qt l x=some (v,c)):x=some (v,c)/\∀k o,(v=.box k o\/v=.eM k o)->k∉l:=by
 unfold qt at e;split at e
 ·rename_i k o d;cases b:has l k with
  | true=>simp [b] at e
  | false=>
   simp only [b,cond_false] at e;cases e;refine ⟨rfl,λf g e'=> ?_⟩;rcases e' with e' | e'<;>cases e'
   exact yS b
 ·rename_i k o d;cases b:has l k with
  | true=>simp [b] at e
  | false=>
   simp only [b,cond_false] at e;cases e;refine ⟨rfl,λf g e'=> ?_⟩;rcases e' with e' | e'<;>cases e'
   exact yS b
 ·grind
 ·cases e
theorem sc {l:List Nat} {t:Nat} {v:LV} {c:ba} (e:(s.lI l).f t=some (v,c)):s.f t=some (v,c)/\∀k o,(v=.box k o\/v=.eM k o)->k∉l:=by
 cases l with
 | nil=>exact ⟨e,λ_ _ _ e=>by cases e⟩
 | cons x l=>exact na e
theorem wh {l:List Nat} {k:Nat} {c:List Value} (e:(s.lI l).m k=some c):s.m k=some c/\k∉l:=by
 cases l with
 | nil=>exact ⟨e,λe=>by cases e⟩
 | cons x l=>
  simp only [St.lI] at e;cases b:has (x::l) k with
  | true=>simp [b] at e
  | false=>simp only [b,cond_false] at e;exact ⟨e,yS b⟩
theorem RR.start (b:Rel n β s a h w) (l:List Nat):RR n (λ_=>True) (λk=>k∉l) (λ_=>False) (λk=>k∈l) β (s.lI l) a h w:=by
 refine ⟨b.sz,b.sub,λt v c e=>b.lt t v c (sc e).1,λt v c e=>b.chain t v c (sc e).1,λt v c e _ j=> ?_,λt v c e _ j=> ?_,λk g e _=>b.box k g (wh e).1 trivial,λk y e d _ _ x=> ?_,λk f=> ?_,λk f t v c e _ o=> ?_⟩
 ·have i:c=[]:=by
   cases c with
   | nil=>rfl
   | cons p c=>exact (b.chain t v _ (sc e).1 p (List.mem_cons_self ..)).elim
  subst i;exact ⟨(b.cur t v [] (sc e).1 trivial (bS _)).1,(sc e).2⟩
 ·have i:c=[]:=by
   cases c with
   | nil=>rfl
   | cons p c=>exact (b.chain t v _ (sc e).1 p (List.mem_cons_self ..)).elim
  subst i;exact absurd (bS _) j
 ·obtain ⟨g,r⟩:=Option.ne_none_iff_exists'.1 e;obtain ⟨z,u⟩:=Option.ne_none_iff_exists'.1 d;exact b.inj k y (by simp [(wh r).1]) (by simp [(wh u).1]) trivial trivial x
 ·cases e:(s.lI l).m k with
  | none=>rfl
  | some g=>exact absurd f (wh e).2
 ·exact ⟨λd=>(sc e).2 k o (.inl d) f,λd=>(sc e).2 k o (.inr d) f⟩
theorem Ih {l:List Nat} {k:Nat} (e:live (s.lI l) (λk=>k∉l) k):de s k:=by obtain ⟨c,b⟩:=Option.ne_none_iff_exists'.1 e.1;exact ⟨by simp [(wh b).1],trivial⟩
theorem Dj :∀(x y:List Oper),cD (x++y)=cD x++cD y
 | [],y=>rfl
 | o::x,y=>by simp only [List.cons_append,cD,Dj x y];cases o.dst<;>rfl
theorem xi {l:List Oper} {o:Oper} {d:Nat} (hm:o∈l) (b:o.dst=some d):d∈cD l:=by
 induction l with
 | nil=>cases hm
 | cons p l c=>
  rcases List.mem_cons.1 hm with rfl | hm
  ·simp [cD,b]
  ·have:=c hm;simp only [cD];grind
theorem yv :∀ {l:List Nat},nodup l=true->l.Nodup
 | [],_=>.nil
 | a::l,h=>by
  simp only [nodup] at h;cases b:has l a with
  | true=>simp [b] at h
  | false=>simp only [b,cond_false] at h;exact List.nodup_cons.2 ⟨yS b,yv h⟩
theorem So {l:List Oper} {o:Oper} (h:sX l=true) (b:o∈l):o.guard=none:=by
 induction l with
 | nil=>cases b
 | cons p l c=>simp only [sX] at h;grind
theorem Jv :∀ {l:List Oper} {i j:Nat} {o:Oper} {g:Nat} {b:Bool},yz l i=true->l[j]? =some o->o.guard=some (g,b)->g<i+j
 | [],_,_,_,_,_,_,e,_=>by simp at e
 | p::l,i,0,o,g,b,h,e,c=>by
  simp at e;subst e;simp only [yz,c] at h;cases hb:Nat.blt g i with
  | true=>simp [Nat.blt] at hb;omega
  | false=>simp [hb] at h
 | p::l,i,j+1,o,g,b,h,e,c=>by
  simp at e;have d:yz l (i+1)=true:=by simp only [yz] at h;grind
  have:=Jv d e c;omega
theorem Ou {aV:List Nat} {o:Oper} {d:Nat} {r:List Oper} (h:df aV o d):lq aV (o::r)=d::lq aV r:=by simp [lq,h.1,h.2]
theorem DX {aV:List Nat} {o:Oper} {r:List Oper} (h:∀d,¬df aV o d):lq aV (o::r)=lq aV r:=by
 cases hp:mK aV o with
 | false=>simp [lq,hp]
 | true=>
  cases b:o.dst with
  | none=>simp [lq,hp,b]
  | some d=>exact absurd ⟨hp,b⟩ (h d)
theorem Ii {C:Ctx} (ok:C.tb.Ok C.P) {c:Array Oper} {mok:List Nat} {K:St->Hp->Prop} {Q:Exit->Act->World->Prop} (g:Bool)
  (O:∀d∈cD c.toList,d<n) (M:g=false->sX c.toList=true) (G:g=true->(cD c.toList).Nodup/\yz c.toList 0=true):
  ∀(r pre:List Oper) (β:Nat->Nat) (s:St) (a:Act) (h:Hp) (w:World),c.toList=pre++r->(lq C.aV r).Nodup->CM C c.toList mok r s h K->
   RR n (λ_=>True) (λk=>k∉lq C.aV r) (λt=>g=true/\t∈cD pre) (λk=>k∈lq C.aV r) β s a h w->
   (∀v u A m x,K v u->RR n (λ_=>True) (λ_=>True) (λt=>g=true/\t∈cD c.toList) (λ_=>False) A v m u x->
    gX (cD c.toList) mok (live s λk=>k∉lq C.aV r) β a h w (de v) A m u x->Q .normal m x)->
   wpOps C.P c Q (List.range' pre.length r.length) a w
 | [],pre,β,s,a,h,w,f,_,hv,J,I=>by simp only [List.length_nil,List.range'_zero];rw [List.append_nil] at f;exact I s h β a w hv (J.congr (λ_=>.rfl) (λk=>by simp [lq]) (λt e=>by rw [f];exact e) (λk e=>e.elim)) ((gX.refl _ _).mono (λ_ e=>e) (λ_ e=>e) (λ_ e=>e) (λk e=>⟨e.1,by simp [lq]⟩))
 | o::r,pre,β,s,a,h,w,f,i,hv,J,I=>by
  simp only [List.length_cons,List.range'_succ,wpOps_cons];have V:c[pre.length]? =some o:=by
   have:c.toList[pre.length]? =some o:=by rw [f];simp
   simpa using this
  have H:o∈c.toList:=by rw [f];simp
  have y:∀k,(df C.aV o k\/k∉lq C.aV (o::r))↔k∉lq C.aV r:=by
   intro k;by_cases hp:∃d,df C.aV o d
   ·obtain ⟨d,hp⟩:=hp;rw [Ou hp] at i ⊢;have i:=List.nodup_cons.1 i;constructor
    ·rintro (e | e)
     ·have:k=d:=by have F:=e.2;rw [hp.2] at F;cases F;rfl
      rw [this];exact i.1
     ·exact λB=>e (List.mem_cons_of_mem _ B)
    grind
   ·have Z:∀d,¬df C.aV o d:=λd e=>hp ⟨d,e⟩;rw [DX Z];grind
  have T:∀k,k∈lq C.aV r->¬df C.aV o k/\k∈lq C.aV (o::r):=λk z=>
   ⟨λe=>(y k).1 (.inl e) z,Classical.byContradiction λe=>(y k).1 (.inr e) z⟩
  have X:(lq C.aV r).Nodup:=by
   by_cases hp:∃d,df C.aV o d
   ·obtain ⟨d,hp⟩:=hp;rw [Ou hp] at i;grind
   ·rwa [DX λd e=>hp ⟨d,e⟩] at i
  refine Lt (l:=cD c.toList) ok V hv J (λ_ _=>trivial) (λj b p d E L R=>⟨trivial,?_⟩) (λd e=>⟨O d (xi H e),λB=> ?_,xi H e⟩) (λd hp=> ?_) _ Q λv u A m x z out=> ?_
  ·cases g with
   | false=>rw [So (M rfl) H] at E;cases E
   | true=>refine ⟨rfl,?_⟩;have hj:=Jv (j:=pre.length) (G rfl).2 (by rw [f];simp) E;rw [nh,f,List.getElem?_append_left (by omega)] at L;exact xi (List.mem_of_getElem? L) R
  ·have U:=(G B.1).1;rw [f,Dj] at U;have F:d∈cD (o::r):=xi (List.mem_cons_self ..) e;grind
  ·have:d∈lq C.aV (o::r):=by rw [Ou hp];simp
   grind
  ·have Y:c.toList=(pre++ [o])++r:=by rw [f];simp
   have:=Ii ok g O M G r (pre++ [o]) A v m u x Y X z
    (out.rr.congr (λt=>by simp) (λk=>(y k).symm) (λt e=>⟨e.1,by rw [Dj];grind⟩) T)
    (λs2 S b0 a2 w2 W a8 a9=>I s2 S b0 a2 w2 W a8 (out.vS.trans (a9.mono (λ_ e=>e) (λ_ e=>e) (λk e=>⟨e.1,(y k).2 e.2⟩) (λ_ e=>e))))
   simpa using this
end
theorem fL {b x:Bool} (h:cond b x false=true):b=true/\x=true:=by grind
theorem OA :∀(n:Nat) (l:List Nat),l.Nodup->(∀x∈l,x<n)->l.length<=n
 | 0,l,_,h=>by
  cases l with
  | nil=>simp
  | cons a l=>exact absurd (h a (List.mem_cons_self ..)) (Nat.not_lt_zero _)
 | n+1,l,b,h=>by
  by_cases f:n∈l
  ·have e:=OA n (l.erase n) (b.erase n) (λx d=>by
    have c:=(b.mem_erase_iff).1 d;have:=h x c.2;have:=c.1;omega)
   grind
  ·have:=OA n l b (λx d=>by
    grind)
   omega
theorem yo {n:Nat} {l:List Nat} (b:l.Nodup) (h:∀x∈l,x<n) (c:n<=l.length) {j:Nat} (a:j<n):j∈l:=by
 refine Classical.byContradiction λe=> ?_;have:=OA n (j::l) (List.nodup_cons.2 ⟨e,b⟩) (λx hx=>by
  rcases List.mem_cons.1 hx with rfl | hx
  ·exact a
  ·exact h x hx)
 grind
def uZ (L:List Oper) (X:Nat->Prop):Prop:=∀i o,L[i]? =some o->X i->∀j∈waits o,X j
def mf (L:List Oper) (i j:Nat):Prop:=∀X:Nat->Prop,uZ L X->(∀o,L[i]? =some o->∀k∈waits o,X k)->X j
theorem GC {l m:List Nat} (h:kN l m=true):∀x∈l,x∈m:=by
 induction l with
 | nil=>simp
 | cons a l c=>
  simp only [kN] at h;cases b:has m a with
  | false=>simp [b] at h
  | true=>
   simp only [b,cond_true] at h;intro x hx;rcases List.mem_cons.1 hx with rfl | hx
   ·exact (rX _ _).1 b
   ·exact c h x hx
theorem Yv {o:Oper} {e:Edge} (a:e∈o.after) (hb:Region.binds .any e=true):e.on∈waits o:=by
 have key:∀l:List Edge,e∈l->e.on∈waits.go l:=by
  intro l
  induction l with
  | nil=>intro h;cases h
  | cons x l c=>
   intro h;simp only [waits.go];rcases List.mem_cons.1 h with rfl | h
   ·have:uz e=true:=by unfold Region.binds at hb;unfold uz;cases b:e.ground<;>simp [b] at hb ⊢
    simp [this]
   grind
 exact key _ (by simpa using a)
theorem JX {k:Nat} {l:List Nat} {j:Nat} (h:j∈vi k l):j=k\/j∈l:=by unfold vi at h;grind
theorem JY {j:Nat}:∀ {a b:List Nat},j∈CC a b->j∈a\/j∈b
 | [],_,h=>.inr h
 | k::r,b,h=>by
  rcases JY (a:=r) (b:=vi k b) h with h | h
  ·grind
  ·rcases JX h with rfl | h
   ·simp
   ·exact .inr h
theorem Ij {a:List (List Nat)}:∀ {l:List Nat} {j:Nat},j∈bQ.union l a->j∈l\/∃k∈l,∃x,nth a k=some x/\j∈x
 | [],j,h=>by simp [bQ.union] at h
 | k::l,j,h=>by
  simp only [bQ.union] at h;rcases JX h with rfl | h
  ·simp
  ·rcases JY h with h | h
   ·grind
   ·rcases Ij h with h | ⟨d,b,c⟩
    ·exact .inl (List.mem_cons_of_mem _ h)
    grind
theorem Ik {L:List Oper}:∀(r pre:List Oper) (a:List (List Nat)),L=pre++r->a.length=pre.length->(∀i x,nth a i=some x->∀j∈x,mf L i j)->
  ∀i x,nth (bQ r a) i=some x->∀j∈x,mf L i j
 | [],_,a,_,_,h=>h
 | o::r,pre,a,d,f,h=>by
  refine Ik r (pre++ [o]) _ (by simp [d]) (by simp [sb,f]) λi x b j c=> ?_;rw [nh,sb] at b;rcases Nat.lt_trichotomy i a.length with hi | hi | hi
  ·rw [List.getElem?_append_left hi,<-nh] at b;exact h i x b j c
  ·subst hi;simp at b;subst b;intro X e l;have g:L[a.length]? =some o:=by rw [d,f];simp
   rcases Ij c with c | ⟨k,n,y,s,m⟩
   ·exact l o g j c
   ·exact h k y s j m X e λu q t p=>e k u q (l o g k n) t p
  grind
theorem yB {L:List Oper} {i j:Nat} (h:j∈lY (bQ L []) i):mf L i j:=by
 unfold lY at h;split at h
 ·rename_i x a;exact Ik L [] [] rfl rfl (λi x a=>by simp [nth] at a) i x a j h
 ·cases h
theorem DK :∀l:List (Nat×Operand),xG l=l.map (·.2)
 | []=>rfl
 | (_,x)::l=>by simp [xG,DK l]
theorem Lu :∀l:Option Operand,vJ l=l.toArray.toList
 | none=>rfl
 | some x=>rfl
theorem MT {op:Op} {l:List Operand} (h:EY op=some l):∀x∈op.operands,x∈l:=by
 cases op with
 | call c=>
  obtain ⟨callee,args,g⟩:=c;cases callee with
  | value f=>cases h;intro x d;simpa [Op.operands,Call.operands] using d
  | builtin b=>cases h;intro x d;simpa [Op.operands,Call.operands] using d
  | invoke r m=>cases h
 | build t e=>cases h;intro x d;simpa [Op.operands,DK] using d
 | buildSlice t n e=>cases h;intro x d;simpa [Op.operands,DK] using d
 | makeFunc fn a b=>cases h;intro x d;simpa [Op.operands,sb] using d
 | makeMap t r=>cases h;intro x d;simpa [Op.operands,Lu] using d
 | slice t x j i k=>cases h;intro x d;simpa [Op.operands,sb,Lu,or_assoc] using d
 | alloc t=>cases h;intro x d;simp [Op.operands] at d
 | _=>first | (cases h;done) | (cases h;intro x d;simpa [Op.operands] using d)
theorem MU {rows:List (List Nat)} {i t:Nat}:∀ {l:List Oper} {j0:Nat},uK rows i t l j0=true->∀j p,l[j]? =some p->p.dst=some t->
  j0+j∈lY rows i\/i=j0+j\/i∈lY rows (j0+j)
 | [],_,_,j,p,e,_=>by simp at e
 | q::l,j0,h,j,p,e,d=>by
  simp only [uK] at h;cases a:(cond (tz q t) (cond (has (lY rows i) j0) true (cond (Nat.beq i j0) true (has (lY rows j0) i))) true) with
  | false=>grind
  | true=>
   rw [a] at h;cases j with
   | zero=>
    simp at e;subst e;have:tz q t=true:=by simp [tz,d]
    rw [this] at a;simp only [cond_true] at a;cases b:has (lY rows i) j0 with
    | true=>exact .inl ((rX _ _).1 b)
    | false=>
     rw [b] at a;simp only [cond_false] at a;cases c:Nat.beq i j0 with
     | true=>exact .inr (.inl (Nat.eq_of_beq_eq_true c))
     | false=>rw [c] at a;exact .inr (.inr ((rX _ _).1 a))
   | succ j=>have:=MU (l:=l) (j0:=j0+1) h j p (by simpa using e) d;grind
theorem DY {L:List Oper} {rows:List (List Nat)} {i t:Nat}:∀ {l:List Operand},dM.go L rows i l=true->Operand.tmp t∈l->uK rows i t L 0=true
 | [],_,hm=>by cases hm
 | x::l,h,hm=>by
  cases x with
  | tmp u=>
   simp only [dM.go] at h;cases a:uK rows i u L 0 with
   | false=>simp [a] at h
   | true=>
    simp only [a,cond_true] at h;rcases List.mem_cons.1 hm with e | hm
    ·cases e;exact a
    ·exact DY h hm
  | _=>
   simp only [dM.go] at h;rcases List.mem_cons.1 hm with e | hm
   ·cases e
   ·exact DY h hm
theorem V1 {L:List Oper} {rows:List (List Nat)} {i t:Nat} {o:Oper} (h:dM L rows i o=true) (e:Operand.tmp t∈o.op.operands) {j:Nat} {p:Oper} (c:L[j]? =some p) (b:p.dst=some t):
  j∈lY rows i\/i=j\/i∈lY rows j:=by
 unfold dM at h;split at h
 ·rename_i l d;cases a:dM.go L rows i l with
  | false=>simp [a] at h
  | true=>have:=MU (DY a (MT d _ e)) j p c b;simpa using this
 ·cases h
theorem D0 {L:List Oper} {rows:List (List Nat)} {i j:Nat} {b:Bool} {o:Oper} (h:dM L rows i o=true) (c:o.guard=some (j,b)):j∈lY rows i:=by
 unfold dM at h;split at h
 ·rename_i l d;cases a:dM.go L rows i l with
  | false=>simp [a] at h
  | true=>simp only [a,cond_true,c] at h;exact (rX _ _).1 h
 ·cases h
theorem Ss {o:Oper} {t:Nat} (b:Operand.tmp t∈o.op.operands):looksAt o t=true:=by
 unfold looksAt;split
 ·rename_i l a;have hm':=MT a _ b;clear a b
  induction l with
  | nil=>cases hm'
  | cons x l c=>
   rcases List.mem_cons.1 hm' with e | hm'
   ·subst e;simp [looksAt.go]
   ·have:=c hm';cases x<;>simp only [looksAt.go]
    ·rw [this];simp
    all_goals exact this
 ·rfl
theorem wS {rows:List (List Nat)} {j d:Nat} {o:Oper} (b:o.dst=some d):∀ {l:List Oper} {i0:Nat},ig rows j o l i0=false->∀i p,l[i]? =some p->Operand.tmp d∈p.op.operands->j∈lY rows (i0+i)
 | [],_,_,i,p,e,_=>by simp at e
 | q::l,i0,h,i,p,e,c=>by
  simp only [ig,b] at h;cases a:(cond (looksAt q d) (cond (has (lY rows i0) j) false true) false) with
  | true=>grind
  | false=>
   rw [a] at h;cases i with
   | zero=>
    simp at e;subst e;rw [Ss c] at a;simp only [cond_true] at a;cases f:has (lY rows i0) j with
    | true=>exact (rX _ _).1 f
    | false=>grind
   | succ i=>have:=wS b (l:=l) (i0:=i0+1) h i p (by simpa using e) c;grind
theorem Ma {tb:Tb} {aV:List Nat} {a:List Oper} {rows:List (List Nat)} {i:Nat} {d:List Nat} {r:List (Nat×List Nat)} {done:List Nat} {last:Option Nat}
  (h:fg tb aV a rows ((i,d)::r) done last=true):∃o,a[i]? =some o/\(∀k∈waits o,k∈done)/\dM a rows i o=true/\i∉done/\(∀e,last=some e->e∈lY rows i)/\
   (((isVal tb o=true\/mK aV o=true)/\ig rows i o a 0=false/\fg tb aV a rows r (i::done) last=true)\/
    ((isVal tb o=true\/mK aV o=true)/\ig rows i o a 0=true/\fg tb aV a rows r (i::done) (some i)=true)\/
    (isVal tb o=false/\mK aV o=false/\fg.watched tb a rows d i done=true/\fg tb aV a rows r (i::done) (some i)=true)):=by
 simp only [fg] at h;split at h
 ·rename_i o c;rw [nh] at c;obtain ⟨g,h⟩:=fL h;obtain ⟨f,j⟩:=fL g;cases b:has done i with
  | true=>simp [b] at h
  | false=>
   simp only [b,cond_false] at h;obtain ⟨l,h⟩:=fL h;refine ⟨o,c,GC f,j,yS b,λe m=> ?_,?_⟩
   ·subst m;exact (rX _ _).1 l
   grind
 ·cases h
theorem LP {tb:Tb} {g:List Oper} {rows:List (List Nat)} {b:List Nat} {e:Nat}:∀ {l:List Nat},fg.watched tb g rows b e l=true->∀i∈l,∀o,g[i]? =some o->isVal tb o=true->rZ tb o=true->
  i∈b\/i∈lY rows e
 | [],_,i,hi,_,_,_,_=>by cases hi
 | r::l,h,i,hi,o,d,hv,f=>by
  simp only [fg.watched] at h;obtain ⟨a,h⟩:=fL h;rcases List.mem_cons.1 hi with rfl | hi
  ·rw [nh,d] at a;simp only [hv,f,cond_true] at a;cases c:has b i with
   | true=>exact .inl ((rX _ _).1 c)
   | false=>rw [c] at a;exact .inr ((rX _ _).1 a)
  ·exact LP h i hi o d hv f
theorem MV {tb:Tb} {aV:List Nat} {L:List Oper}:∀ {r:List (Nat×List Nat)} {done:List Nat} {e:Nat},fg tb aV L (bQ L []) r done (some e)=true->
  ∀j∈r.map (·.1),mf L j e
 | [],_,_,_,j,hj=>by cases hj
 | (i,ws)::r,done,e,h,j,hj=>by
  obtain ⟨o,u,_,_,_,n,t⟩:=Ma h;have d:=yB (n e rfl);rcases List.mem_cons.1 hj with rfl | hj
  ·exact d
  ·have step:∀a,(a=e\/a=i)->fg tb aV L (bQ L []) r (i::done) (some a)=true->mf L j e:=by
    intro a l f;have c:=MV f j hj;rcases l with rfl | rfl
    ·exact c
    ·intro X b q;have g:X a:=c X b q;exact d X b λs p k m=>b a s p g k m
   grind
def xn (tb:Tb) (o:Oper) (ch:ba) (s:St) (l:LV):Prop:=
 dd tb o ch s=.mem->∀t x,o.op=.load t x->∃(e:Ty) (y:e.sh.T),tb.ty t=some e/\l=.v (e.sh.enc y)
theorem Yy {P:Program} {tb:Tb} (ok:tb.Ok P) {o:Oper} {ch:ba} {s:St} {h:Hp} {K:LV->Prop} (hv:vZ P tb o ch s h K):
  ∃l,K l/\(holds s ch->pU (dd tb o ch s) P o s h l)/\mN o ch s l/\xn tb o ch s l:=by
 by_cases k:∃t x a,o.op=.load t x/\ev s ch x=some (.v (.pointer (some a)))
 ·obtain ⟨t,x,a,b,g⟩:=k;unfold vZ at hv;simp only [b,g] at hv;split at hv
  ·rename_i e r;obtain ⟨y,f,c⟩:=hv;refine ⟨.v (e.sh.enc y),c,λi=> ?_,wg _ _ _ _,λ_ A B z=> ?_⟩
   ·intro C D w p m hb;have d:dd tb o ch s=.mem:=by simp [dd,b,g]
    have u:=bR (p x (by simp [b,Op.operands])) i g;have q:=Oy ok r (λj v n=>wE (m d) (pg f i j v n));refine ⟨w,?_,λ_=>rfl,λe=>.refl (m e)⟩;simp only [execOp,b,u,LVal,Instr.loadAt,Instr.sureAddr,Sem.run_bind,Sem.run_pure,Result.andThen_ok,q]
   grind
  ·exact hv.elim
 ·obtain ⟨l,c,f,hp⟩:=MM ok hv;refine ⟨l,c,f,hp,λd t x b=> ?_⟩;refine absurd ?_ k;unfold vZ at hv;simp only [b] at hv;simp only [dd,b] at d;grind
def nK (C:Ctx) (L:List Oper) (o:Oper) (s:St) (h:Hp):Prop:=
 ∃ch,qn L L.length o=some ch/\tZ s ch=true/\
  ((isVal C.tb o=true/\(rZ C.tb o=true\/dd C.tb o ch s=.pure)/\∃l,(∀d,o.dst=some d->s.f d=some (l,ch))/\(holds s ch->pU (dd C.tb o ch s) C.P o s h l)/\mN o ch s l/\xn C.tb o ch s l)\/
   (ch=[]/\isVal C.tb o=false/\∃d a,df C.aV o d/\s.f d=some (.box d 0,[])/\s.m d=some a/\
      ∀(c:Nat->Nat) (b:Operand->Value) (w:World),(∀x∈o.op.operands,fy c s b x)->
       ∃t,(execOp b o).run C.P w=.ok (.value (.pointer (some ⟨w.heap.size,0,none⟩))) {w with heap:=w.heap.push (.cells a.toArray t (0,0))}))
section
variable {C:Ctx} {L:List Oper} {o:Oper} {s s':St} {h n:Hp} {D:Nat->Prop}
structure jZ (D:Nat->Prop) (o:Oper) (s s':St):Prop where
 dn:∀t,D t->s'.f t=s.f t
 op:∀t,Operand.tmp t∈o.op.operands->s'.f t=s.f t
 ch:∀t l c,s.f t=some (l,c)->∀p∈c,D p.1
theorem jZ.mR (k:jZ D o s s') {c:ba} (a:∀p∈c,D p.1):holds s' c↔holds s c:=DV λp hp=>k.dn _ (a p hp)
theorem jZ.Hh (k:jZ D o s s') {b:Nat->Nat} {d:Operand->Value} {x:Operand} (j:x∈o.op.operands) (a:fy b s' d x):fy b s d x:=by
 cases x with
 | tmp t=>exact λl c e i=>a l c (by rw [k.op t j];exact e) ((k.mR (k.ch t l c e)).2 i)
 | const v=>exact a
 | global g=>exact a
 | func f=>exact a
theorem jZ.Gb (k:jZ D o s s') {ch:ba} {x:Operand} (a:x∈o.op.operands):ev s' ch x=ev s ch x:=by
 cases x with
 | tmp t=>simp only [ev,k.op t a]
 | const v=>rfl
 | global g=>rfl
 | func f=>rfl
theorem MW {s s':St} {ch:ba}:∀ {l:List Operand},(∀x∈l,ev s' ch x=ev s ch x)->fh s' ch l=fh s ch l
 | [],_=>rfl
 | x::l,h=>by simp only [fh];rw [h x (List.mem_cons_self ..),MW λy a=>h y (List.mem_cons_of_mem _ a)]
theorem jZ.kind (k:jZ D o s s') {tb:Tb} {ch:ba}:dd tb o ch s'=dd tb o ch s:=by
 unfold dd;cases d:o.op with
 | load t x=>simp only [k.Gb (ch:=ch) (x:=x) (by simp [d,Op.operands])]
 | binOp op t x y u=>simp only [k.Gb (ch:=ch) (x:=x) (by simp [d,Op.operands]),k.Gb (ch:=ch) (x:=y) (by simp [d,Op.operands])]
 | convert a b x=>simp only [k.Gb (ch:=ch) (x:=x) (by simp [d,Op.operands])]
 | call c=>
  obtain ⟨callee,e,g⟩:=c;cases callee with
  | builtin b=>
   cases b with
   | len=>have:fh s' ch e.toList=fh s ch e.toList:=MW λx f=>k.Gb (by simp [d,Op.operands,Call.operands];simpa using f);simp only [this]
   | _=>rfl
  | _=>rfl
 | _=>rfl
theorem jZ.CK (k:jZ D o s s') {ch:ba} {l:LV} (hp:mN o ch s l):mN o ch s' l:=λb off e=>by obtain ⟨x,a,c,h⟩:=hp b off e;exact ⟨x,a,c,by rw [k.Gb a];exact h⟩
theorem Ov (k:jZ D o s s'):∀ {ch:ba},(∀p∈ch,D p.1)->tZ s' ch=tZ s ch
 | [],_=>rfl
 | (d,b)::c,a=>by simp only [tZ,k.dn d (a (d,b) (List.mem_cons_self ..)),Ov k λp hp=>a p (List.mem_cons_of_mem _ hp)]
theorem YA (k:jZ D o s s') {e:Nat->Nat} {w:World} (j:∀t,Operand.tmp t∈o.op.operands->∀b off c,(s.f t=some (.box b off,c)\/s.f t=some (.eM b off,c))->holds s c->s'.m b=s.m b)
  (hb:qo e s' o w):qo e s o w:=by
 intro t d b off c hf a g i;refine hb t d b off c (by rw [k.op t d];exact hf) ?_ g (by grind);rcases hf with hf | hf
 ·exact (k.mR (k.ch t _ c hf)).2 a
 ·exact (k.mR (k.ch t _ c hf)).2 a
theorem Nc (k:jZ D o s s') {a:Kd} {P:Program} {l:LV} (i:a≠ .pure->∀t,Operand.tmp t∈o.op.operands->∀b off c,(s.f t=some (.box b off,c)\/s.f t=some (.eM b off,c))->holds s c->s'.m b=s.m b)
  (g:a=.mem->n=h) (p:pU a P o s h l):pU a P o s' n l:=by
 intro r u w j q hb;obtain ⟨A,v,y,z⟩:=p r u w (λx d=>k.Hh d (j x d)) (λe=>by rw [<-g e];exact q e) (λe=>YA k (i e) (hb e));grind
theorem Et (k:jZ D o s s') {P:Program} {c:List Value}
  (f : ∀ (b : Nat -> Nat) (a : Operand -> Value) (w : World), (∀ x ∈ o.op.operands, fy b s a x) ->
        ∃t,(execOp a o).run P w=.ok (.value (.pointer (some ⟨w.heap.size,0,none⟩))) {w with heap:=w.heap.push (.cells c.toArray t (0,0))}):
  ∀ (b : Nat -> Nat) (a : Operand -> Value) (w : World), (∀ x ∈ o.op.operands, fy b s' a x) ->
        ∃t,(execOp a o).run P w=.ok (.value (.pointer (some ⟨w.heap.size,0,none⟩))) {w with heap:=w.heap.push (.cells c.toArray t (0,0))}:=
 λb a w e=>f b a w λx d=>k.Hh d (e x d)
theorem zx {s:St} {ch:ba} {t:Nat} {l a:LV} {c:ba} (h:ev s ch (.tmp t)=some l) (b:s.f t=some (a,c)):l=a:=by simp only [ev,b] at h;grind
theorem Sw {tb:Tb} (Z:C.tb=tb) (ok:tb.Ok C.P) {K:Nat->Bool} {ch:ba} {l:LV} {d:Nat} (g:pN C K o ch s' n) (M:o.dst=some d) (G:∃c,s'.f d=some (l,c)) (B:holds s' ch)
  (A:xn tb o ch s' l):dd tb o ch s'=.pure\/(dd tb o ch s'=.box/\∀t b off c,Operand.tmp t∈o.op.operands->(s'.f t=some (.box b off,c)\/s'.f t=some (.eM b off,c))->K b=false)\/(dd tb o ch s'=.mem/\pU .mem C.P o s' n l):=by
 subst Z;obtain ⟨c,G⟩:=G;unfold pN at g;split at g
 ·rename_i t x T q z;rw [M] at z;cases z;rw [G] at g;split at g
  ·rename_i v R e;cases e;split at g
   ·rename_i a r;right;right;have hkd:dd C.tb o ch s'=.mem:=by simp [dd,q,r]
    obtain ⟨e,y,b3,p⟩:=A hkd t x q;cases p;refine ⟨hkd,λβ ρ w E A hb=> ?_⟩;have b5:=bR (E x (by simp [q,Op.operands])) B r;have I:=Oy ok b3 (λj v hj=>wE (A rfl) (pg g B j v hj));refine ⟨w,?_,λe=>absurd rfl e,λ_=>.refl (A rfl)⟩;simp only [execOp,q,b5,LVal,Instr.loadAt,Instr.sureAddr,Sem.run_bind,Sem.run_pure,Result.andThen_ok,I]
   ·rename_i k off r;cases H:K k with
    | true=>rw [H] at g;exact g.elim
    | false=>
     refine .inr (.inl ⟨by simp [dd,q,r],λt1 b b7 Y O hf1=> ?_⟩);have Q:x=.tmp t1:=by simpa [q,Op.operands,eq_comm] using O
     rw [Q] at r;rcases hf1 with hf1 | hf1
     ·have:=zx r hf1;cases this;exact H
     ·have:=zx r hf1;cases this
   ·rename_i k off r;cases H:K k with
    | true=>rw [H] at g;exact g.elim
    | false=>
     refine .inr (.inl ⟨by simp [dd,q,r],λt1 b b7 Y O hf1=> ?_⟩);have Q:x=.tmp t1:=by simpa [q,Op.operands,eq_comm] using O
     rw [Q] at r;rcases hf1 with hf1 | hf1
     ·have:=zx r hf1;cases this
     ·have:=zx r hf1;cases this;exact H
   ·exact g.elim
  ·exact g.elim
 ·rename_i t x i S T q z;rw [M] at z;cases z;rw [G] at g;split at g
  ·rename_i v R e;cases e;obtain ⟨a,b1,a8⟩:=kF g;obtain ⟨b,b2,a9⟩:=kF a8;have p:=pg a9 B;right;right;have b6:∀w,Sub n w->∃F,(Instr.lookup t a b S).run C.P w=.ok v F/\Step n n w F:=by
    intro w J;unfold H9 at p;split at p
    ·rename_i m e U;split at p
     ·rename_i k u W;split at p
      ·rename_i ke ue V X;cases hkd:sr ke.aM with
       | true=>
        simp only [hkd,cond_true] at p;cases S with
        | true=>
         simp only [cond_true] at p;split at p
         ·rename_i x1 y1;exact ⟨w,by rw [xU ok U W V X hkd J p];rfl,.refl J⟩
         ·exact p.elim
        | false=>simp only [cond_false] at p;obtain ⟨y1,p⟩:=p;exact ⟨w,by rw [xU ok U W V X hkd J p];rfl,.refl J⟩
       | false=>simp only [hkd,cond_false] at p;exact E7 p J
      ·exact p.elim
     ·exact p.elim
    ·exact p.elim
   refine ⟨by simp [dd,q],λβ ρ w E A hb=> ?_⟩;have r:=bR (E x (by simp [q,Op.operands])) B b1;have hi:=bR (E i (by simp [q,Op.operands])) B b2;obtain ⟨F,I,N⟩:=b6 w (A rfl);refine ⟨F,?_,λe=>absurd rfl e,λ_=>N⟩;simp only [execOp,q,r,hi,LVal,Sem.run_bind,I,Result.andThen_ok,Sem.run_pure]
  ·exact g.elim
 ·rename_i xs ts T q z;rw [M] at z;cases z;rw [G] at g;split at g
  ·rename_i v R e;cases e;split at g
   ·rename_i x b4;have hkd:dd C.tb o ch s'=.pure\/dd C.tb o ch s'=.mem:=by unfold dd;grind
    rcases hkd with hkd | hkd
    ·exact .inl hkd
    right;right;refine ⟨hkd,λβ ρ w E A hb=> ?_⟩;have b0:xs.map ρ= #[x]:=by have:=zu (β:=β) (ρ:=ρ) B b4 λx r=>E x (by simp [q,Op.operands,Call.operands];simpa using r);grind
    obtain ⟨F,I,N⟩:=E7 (pg g B) (A rfl);refine ⟨F,?_,λe=>absurd rfl e,λ_=>N⟩;simp only [execOp,q,resolve,invoke,builtin,Sem.run_bind,Sem.run_pure,Result.andThen_ok,b0,I,LVal]
   ·exact g.elim
  ·exact g.elim
 ·exact g.elim
end
theorem YD (e:Edge):uz e=Region.binds .any e:=by unfold Region.binds uz;grind
theorem YG {o:Oper} {k:Nat} (h:k∈waits o):∃e∈o.after,e.on=k/\Region.binds .any e=true:=by
 have key:∀l:List Edge,k∈waits.go l->∃e∈l,e.on=k/\Region.binds .any e=true:=by
  intro l
  induction l with
  | nil=>intro h;cases h
  | cons x l d=>
   intro h;simp only [waits.go] at h;cases c:uz x with
   | false=>simp only [c,cond_false] at h;obtain ⟨e,a,b⟩:=d h;exact ⟨e,List.mem_cons_of_mem _ a,b⟩
   | true=>
    simp only [c,cond_true] at h;rcases List.mem_cons.1 h with e | h
    ·exact ⟨x,List.mem_cons_self ..,e.symm,by rw [<-YD,c]⟩
    ·obtain ⟨e,a,b⟩:=d h;exact ⟨e,List.mem_cons_of_mem _ a,b⟩
 obtain ⟨e,a,b⟩:=key _ h;grind
theorem uc {t:Nat}:∀ {L:List Oper} {i j:Nat} {o p:Oper},(cD L).Nodup->L[i]? =some o->L[j]? =some p->o.dst=some t->p.dst=some t->i=j
 | [],_,_,_,_,_,e,_,_,_=>by simp at e
 | x::L,0,0,_,_,_,_,_,_,_=>rfl
 | x::L,0,j+1,o,p,b,e,a,h,c=>by simp at e a;subst e;simp only [cD,h] at b;exact absurd (xi (List.mem_of_getElem? a) c) (List.nodup_cons.1 b).1
 | x::L,i+1,0,o,p,b,e,a,h,c=>by simp at e a;subst a;simp only [cD,c] at b;exact absurd (xi (List.mem_of_getElem? e) h) (List.nodup_cons.1 b).1
 | x::L,i+1,j+1,o,p,b,e,a,h,c=>by
  have g:(cD L).Nodup:=by simp only [cD] at b;grind
  have d:L[i]? =some o:=by simpa using e
  have f:L[j]? =some p:=by simpa using a
  have:=uc g d f h c;omega
def vf (L:List Oper):List Nat->Prop
 | []=>True
 | i::d=>(∀o,L[i]? =some o->∀k∈waits o,k∈d)/\vf L d
theorem xW {L:List Oper} {a:List Nat}:∀ {d:List Nat},vf L d->(∃i∈d,i∉a)->∃i∈d,i∉a/\∀o,L[i]? =some o->∀k∈waits o,k∈a
 | [],_,⟨i,g,_⟩=>by cases g
 | i::d,c,n=>by
  by_cases b:∃j∈d,j∉a
  ·obtain ⟨j,p,q⟩:=xW c.2 b;grind
  ·have f:∀j∈d,j∈a:=λj hj=>Classical.byContradiction λe=>b ⟨j,hj,e⟩;obtain ⟨j,hj,l⟩:=n;rcases List.mem_cons.1 hj with rfl | hj
   ·exact ⟨j,List.mem_cons_self ..,l,λo m k h=>f k (c.1 o m k h)⟩
   grind
def lQ (L:List Oper) (done ls:List Nat) (t:Nat):Prop:=∀i o,i∈done->i∉ls->L[i]? =some o->o.dst≠some t
def sj (L:List Oper) (done:List Nat) (t:Nat):Prop:=∃i o,i∈done/\L[i]? =some o/\o.dst=some t
def qL (C:Ctx) (L:List Oper) (done:List Nat) (k:Nat):Prop:=∃i o,i∉done/\L[i]? =some o/\df C.aV o k
def iq (C:Ctx) (L:List Oper) (done ls:List Nat) (k:Nat):Prop:=(∀i o,i∈done->i∉ls->L[i]? =some o->¬df C.aV o k)/\¬qL C L done k
structure nN (C:Ctx) (L:List Oper) (mok:List Nat) (n:Nat) (lv0:Nat->Prop) (β0:Nat->Nat) (a0:Act) (h0:Hp) (w0:World) (done ls:List Nat) (listed:Array Bool) (β:Nat->Nat) (s:St) (a:Act) (h:Hp) (w:World):Prop where
 zT:listed.size=L.length
 zS:∀i,listed.getD i false=true↔i∈ls
 CA:ls.Nodup
 jL:∀i∈ls,i∈done
 sm:∀i∈done,i<L.length
 qU:uZ L (· ∈ls)
 lH:uZ L (· ∈done)
 sN:vf L done
 rr:RR n (lQ L done ls) (iq C L done ls) (sj L done) (qL C L done) β s a h w
 facts:∀i o,i∈done->i∉ls->L[i]? =some o->nK C L o s h/\dM L (bQ L []) i o=true/\ig (bQ L []) i o L 0=false/\∀d,df C.aV o d->d∈mok
 vS:gX (cD L) mok lv0 β0 a0 h0 w0 (live s (iq C L done ls)) β a h w
section
variable {C:Ctx} {L:List Oper} {mok:List Nat} {n:Nat} {lv0:Nat->Prop} {β0:Nat->Nat} {a0:Act} {h0:Hp} {w0:World} {done c:List Nat} {f:Array Bool} {β:Nat->Nat} {s:St} {a:Act} {h:Hp} {w:World}
theorem yZ {i:Nat} {o p:Oper} (h:L[i]? =some o) (b:L[i]? =some p):p=o:=by grind
theorem Fh (m:(cD L).Nodup) {i:Nat} {o:Oper} (l:L[i]? =some o) (q:i∈done) (t:Nat):lQ L done (i::c) t↔(o.dst=some t\/lQ L done c t):=by
 constructor
 ·intro hc;by_cases k:o.dst=some t
  ·exact .inl k
  ·refine .inr λj p d g b=> ?_;by_cases r:j=i
   ·grind
   ·exact hc j p d (λe=>by grind) b
 ·rintro (k | hc) j p d g b
  ·intro e;exact g (by rw [uc m b l e k];simp)
  ·exact hc j p d (λe=>g (List.mem_cons_of_mem _ e)) b
theorem Fi (r:(cD L).Nodup) {i:Nat} {o:Oper} (q:L[i]? =some o) (u:i∈done) (k:Nat):iq C L done (i::c) k↔(df C.aV o k\/iq C L done c k):=by
 constructor
 ·rintro ⟨m,l⟩;by_cases hp:df C.aV o k
  ·exact .inl hp
  ·refine .inr ⟨λj p g b d=> ?_,l⟩;grind
 ·rintro (hp | ⟨m,l⟩)
  ·refine ⟨λj p g b d t=>b (by rw [uc r d q t.2 hp.2];simp),?_⟩;rintro ⟨j,p,g,b,d⟩;exact g (by rw [uc r b q d.2 hp.2];exact u)
  ·exact ⟨λj p g b d=>m j p g (λe=>b (List.mem_cons_of_mem _ e)) d,l⟩
theorem MX {i j:Nat} (g:f.size=L.length) (d:i<L.length) (e:∀i,f.getD i false=true↔i∈c):(f.setIfInBounds i true).getD j false=true↔j∈i::c:=by
 by_cases b:j=i
 ·subst b;simp [g,d]
 ·have:=e j;simp [Array.getElem?_setIfInBounds_ne (Ne.symm b),b] at this ⊢;exact this
theorem DL (e:nN C L mok n lv0 β0 a0 h0 w0 done c f β s a h w) {i:Nat} {o:Oper} (u:L[i]? =some o) (x:∀k∈waits o,k∈done) (t:dM L (bQ L []) i o=true) {ch:ba}
  (q:qn L L.length o=some ch) (r:tZ s ch=true):∀p∈ch,sj L done p.1:=
 Lr e.rr q r λj b p d g l m=>⟨j,p,yB (D0 t g) (· ∈done) e.lH (λy v=>by grind),by rw [<-nh];exact l,m⟩
theorem Fj (ok:C.tb.Ok C.P) {ops:Array Oper} (c0:ops.toList=L) (A:(cD L).Nodup)
  (g:nN C L mok n lv0 β0 a0 h0 w0 done c f β s a h w) {i:Nat} {o:Oper} (r:L[i]? =some o) (q:i∈done) (G:i∉c) (hw:∀k∈waits o,k∈c)
  (next:Act->World->Prop) (Q:Exit->Act->World->Prop)
  (hk:∀D u m,nN C L mok n lv0 β0 a0 h0 w0 done (i::c) (f.setIfInBounds i true) D s u h m->next u m):wpOp C.P ops Q i next a w:=by
 obtain ⟨⟨ch,b3,hg,c1⟩,b7,c8,b8⟩:=g.facts i o q G r;have b2:∀j∈lY (bQ L []) i,j∈c:=λj hj=>yB hj (· ∈c) g.qU (λo' c7=>by grind);have K:∀t,Operand.tmp t∈o.op.operands->lQ L done c t:=λt ht j p B z E J=>by have:=wS J (g.facts j p B z E).2.2.1 i o r ht;grind
 have c5:∀j b p d,o.guard=some (j,b)->nth L j=some p->p.dst=some d->lQ L done c d:=λj b p d e1 T e3 j' p' B z E J=>by rw [nh] at T;have:=uc A E T J e3;subst this;exact z (b2 _ (D0 b7 e1))
 have a8:∀x∈o.op.operands,fy β s a.eval x:=λx hx=>DJ g.rr λt e=>K t (e▸hx);have S:=MR (ops:=ops) g.rr (by rw [c0];exact b3) hg (by grind);have b9:ops[i]? =some o:=by grind
 have b5:i<L.length:=g.sm i q;have Y:∀d,o.dst=some d->¬lQ L done c d:=λd e hc=>hc i o q G r e;have U:∀D u m,RR n (lQ L done (i::c)) (iq C L done (i::c)) (sj L done) (qL C L done) D s u h m->gX (cD L) mok (live s (iq C L done c)) β a h w (live s (iq C L done (i::c))) D u h m->next u m:=by
  intro D u m H c3;refine hk D u m ⟨by simpa using g.zT,λj=>MX g.zT b5 g.zS,List.nodup_cons.2 ⟨G,g.CA⟩,λj hj=> ?_,g.sm,?_,g.lH,g.sN,H,λj p B z E=>g.facts j p B (λe=>z (List.mem_cons_of_mem _ e)) E,g.vS.trans c3⟩
  ·rcases List.mem_cons.1 hj with rfl | hj
   ·exact q
   ·exact g.jL j hj
  ·intro j p hj hjm k b6;rcases List.mem_cons.1 hjm with rfl | hjm
   ·grind
   ·exact List.mem_cons_of_mem _ (g.qU j p hj hjm k b6)
 have V:∀d,o.dst=some d->d∈cD L:=λd e=>xi (List.mem_of_getElem? r) e;unfold wpOp;simp only [b9];rcases c1 with ⟨a9,_,l,hl,O,c2,_⟩ | ⟨rfl,a9,d,cs,hp,b4,X,O⟩
 ·have c6:∀k,¬df C.aV o k:=FT (Ot a9);have N:∀k,iq C L done (i::c) k↔iq C L done c k:=λk=>by rw [Fi A r q k];grind
  have b1:∀(v:Value) (m:World),Step h h w m->(holds s ch->v=LVal β l)->(¬holds s ch->v=undef)->next (a.put o.dst v) m:=by
   intro v m I B z;refine U β _ m ?_ (((gX.step I).trans (gX.put (lv:=live s (iq C L done c)) V)).mono (λ_ e=>e) (λ_ e=>e) (λ_ e=>e) (λk e=>⟨e.1,(N k).1 e.2⟩));have H:=g.rr.step I;cases F:o.dst with
   | none=>exact H.congr (λt=>by rw [Fh A r q t];simp [F]) N (λ_ e=>e) (λ_ e=>e)
   | some d=>have:=H.exec (v:=v) (hl d F) (Y d F) (λy=>⟨B y,λk off e=>(Ls g.rr c2 y K k off e).1⟩) z;refine this.congr (λt=> ?_) N (λ_ e=>e) (λ_ e=>e);rw [Fh A r q t,F];grind
  by_cases y:holds s ch
  ·rw [if_pos (S.2 y)];left;obtain ⟨m,R,b0,I⟩:=O y β a.eval w a8 (λ_=>g.rr.sub) (λ_=>Lq g.rr K);unfold Oper.wp;rw [R];have c4:Step h h w m:=by
    cases M:dd C.tb o ch s with
    | mem=>exact I M
    | pure=>rw [b0 (by rw [M];simp)];exact .refl g.rr.sub
    | box=>rw [b0 (by rw [M];simp)];exact .refl g.rr.sub
   exact b1 _ m c4 (λ_=>rfl) (λe=>absurd y e)
  ·rw [if_neg (λe=>y (S.1 e))];exact b1 _ w (.refl g.rr.sub) (λe=>absurd e y) (λ_=>rfl)
 ·rw [if_pos (S.2 (bS s))];left;obtain ⟨t,R⟩:=O β a.eval w a8;unfold Oper.wp;rw [R];show next (a.put o.dst _) _
  have Z:¬iq C L done c d:=λe=>e.1 i o q G r hp;rw [hp.2];have W:∀k,df C.aV o k↔k=d:=λk=>⟨λe=>by have:=e.2;rw [hp.2] at this;cases this;rfl,λe=>e▸hp⟩;refine U _ _ _ ((g.rr.zJ t b4 X (Y d hp.2) Z).congr (λt=> ?_) (λk=> ?_) (λ_ e=>e) (λ_ e=>e)) ((Ho (a:=a) (β:=β) t g.rr.sub X Z (V d hp.2) (b8 d hp)).mono (λ_ e=>e) (λ_ e=>e) (λ_ e=>e) (λk e=>⟨e.1,?_⟩))
  ·rw [Fh A r q t,hp.2];grind
  ·rw [Fi A r q k,W]
  ·have:=e.2;rw [Fi A r q k,W] at this;exact this
end
section
variable {C:Ctx} {L:List Oper} {mok:List Nat} {n:Nat} {lv0:Nat->Prop} {β0:Nat->Nat} {a0:Act} {h0:Hp} {w0:World} {done g:List Nat} {r:Array Bool} {β:Nat->Nat} {s:St} {a:Act} {h:Hp} {w:World}
theorem V2 {D:Nat->Prop} {o:Oper} {s':St} (k:jZ D o s s') (i:∀ch,qn L L.length o=some ch->tZ s ch=true->∀p∈ch,D p.1) (v:∀d,o.dst=some d->D d)
  (G:∀t,Operand.tmp t∈o.op.operands->∀b off c,(s.f t=some (.box b off,c)\/s.f t=some (.eM b off,c))->holds s c->s'.m b=s.m b) (M:∀d,df C.aV o d->s'.m d=s.m d)
  (hp:nK C L o s h):nK C L o s' h:=by
 obtain ⟨ch,u,x,H⟩:=hp;have i:=i ch u x;refine ⟨ch,u,by rw [Ov k i];exact x,?_⟩;rcases H with ⟨q,J,l,F,j,I,K⟩ | ⟨rfl,q,d,z,y,A,N,j⟩
 ·refine .inl ⟨q,by rw [k.kind];exact J,l,λd e=>by rw [k.dn d (v d e)];exact F d e,λB=> ?_,k.CK I,λE=>K (by rw [<-k.kind (s':=s')];exact E)⟩;rw [k.kind];exact Nc k (λ_=>G) (λ_=>rfl) (j ((k.mR i).1 B))
 ·exact .inr ⟨rfl,q,d,z,y,by rw [k.dn d (v d y.2)];exact A,by grind,Et k j⟩
theorem JZ (x:(cD L).Nodup) (A:nN C L mok n lv0 β0 a0 h0 w0 done g r β s a h w) {i:Nat} {o:Oper} (v:L[i]? =some o) (F:i∉done) {k:St} (d:∀t,o.dst≠some t->k.f t=s.f t)
  {j:Nat} {p:Oper} (D:L[j]? =some p) (E:j∈done) (y:∀t,Operand.tmp t∈p.op.operands->o.dst=some t->False):jZ (sj L done) p s k:=by
 refine ⟨λt b=>d t λe=> ?_,λt b=>d t λe=>y t b e,λt l c e q z=>A.rr.chain t l c e q z⟩;obtain ⟨G,H,B,m,u⟩:=b;have:=uc x m v u e;grind
theorem zI (b:nN C L mok n lv0 β0 a0 h0 w0 done g r β s a h w) {j:Nat} {p:Oper} (f:L[j]? =some p) (c:j∈done) {i:Nat} (h:i∈lY (bQ L []) j):i∈done:=
 yB h (· ∈done) b.lH λe d=>b.lH j e d c
theorem MY (D:(cD L).Nodup) (q:nN C L mok n lv0 β0 a0 h0 w0 done g r β s a h w) {i:Nat} {o:Oper} (x:L[i]? =some o) (hid:i∉done) (N:ig (bQ L []) i o L 0=false)
  {v:St} (I:∀t,o.dst≠some t->v.f t=s.f t) (B:∀k,v.m k=s.m k\/df C.aV o k) {j:Nat} {p:Oper} (u:j∈done) (K:j∉g) (l:L[j]? =some p):
  nK C L p v h/\dM L (bQ L []) j p=true/\ig (bQ L []) j p L 0=false/\∀d,df C.aV p d->d∈mok:=by
 obtain ⟨F,y,G⟩:=q.facts j p u K l;refine ⟨?_,y,G⟩;have k:jZ (sj L done) p s v:=JZ D q x hid I l u λt E e=>by have:=wS e N j p l E;rw [Nat.zero_add] at this;exact hid (zI q l u this)
 refine V2 k (λch H J=>DL q l (q.lH j p l u) y H J) (λd e=>⟨j,p,u,l,e⟩) (λt E b off c hfb A=> ?_) (λd hp=> ?_) F
 ·refine (B b).resolve_right λhp=> ?_;have z:qL C L done b:=⟨i,o,hid,x,hp⟩;rcases hfb with hfb | hfb
  ·exact (q.rr.kA b z t _ c hfb A off).1 rfl
  ·exact (q.rr.kA b z t _ c hfb A off).2 rfl
 ·refine (B d).resolve_right λM=> ?_;have:=uc D x l M.2 hp.2;grind
theorem Il (b:nN C L mok n lv0 β0 a0 h0 w0 done g r β s a h w) {i:Nat} {o:Oper} (q:L[i]? =some o) (hid:i∉done) (u:∀k∈waits o,k∈done) {c:St}
  (l:RR n (lQ L (i::done) g) (iq C L (i::done) g) (sj L (i::done)) (qL C L (i::done)) β c a h w)
  (e:∀j p,j∈i::done->j∉g->L[j]? =some p->nK C L p c h/\dM L (bQ L []) j p=true/\ig (bQ L []) j p L 0=false/\∀d,df C.aV p d->d∈mok)
  (m:gX (cD L) mok lv0 β0 a0 h0 w0 (live c (iq C L (i::done) g)) β a h w):nN C L mok n lv0 β0 a0 h0 w0 (i::done) g r β c a h w:=by
 refine ⟨b.zT,b.zS,b.CA,λj hj=>List.mem_cons_of_mem _ (b.jL j hj),λj hj=> ?_,b.qU,?_,⟨λv t=>by grind,b.sN⟩,l,e,m⟩
 ·rcases List.mem_cons.1 hj with rfl | hj
  ·grind
  ·exact b.sm j hj
 ·intro j p hj hjm k f;rcases List.mem_cons.1 hjm with rfl | hjm
  ·grind
  ·exact List.mem_cons_of_mem _ (b.lH j p hj hjm k f)
theorem Fk (q:nN C L mok n lv0 β0 a0 h0 w0 done g r β s a h w) {i:Nat} {o:Oper} (m:L[i]? =some o) (hid:i∉done) (t:Nat):lQ L (i::done) g t↔(o.dst≠some t/\lQ L done g t):=by
 constructor
 ·exact λd=>⟨d i o (List.mem_cons_self ..) (λe=>hid (q.jL i e)) m,λj p c b l=>d j p (List.mem_cons_of_mem _ c) b l⟩
 ·rintro ⟨c,b⟩ j p e1 f k;rcases List.mem_cons.1 e1 with rfl | e1
  ·grind
  ·exact b j p e1 f k
theorem Cf (l:(cD L).Nodup) {i:Nat} {o:Oper} (f:L[i]? =some o) (hid:i∉done) (k:Nat):qL C L (i::done) k↔(¬df C.aV o k/\qL C L done k):=by
 constructor
 ·rintro ⟨j,p,d,b,c⟩;refine ⟨λe=> ?_,j,p,λe=>d (List.mem_cons_of_mem _ e),b,c⟩;exact d (by rw [uc l b f c.2 e.2];simp)
 ·rintro ⟨h0,j,p,d,b,c⟩;refine ⟨j,p,λe=> ?_,b,c⟩;grind
theorem yx (q:(cD L).Nodup) (t:nN C L mok n lv0 β0 a0 h0 w0 done g r β s a h w) {i:Nat} {o:Oper} (d:L[i]? =some o) (hid:i∉done) (k:Nat):
  iq C L (i::done) g k↔(¬df C.aV o k/\iq C L done g k):=by
 constructor
 ·rintro ⟨b,c⟩;have hp:¬df C.aV o k:=b i o (List.mem_cons_self ..) (λe=>hid (t.jL i e)) d;exact ⟨hp,λj p f l m=>b j p (List.mem_cons_of_mem _ f) l m,λe=>c ((Cf q d hid k).2 ⟨hp,e⟩)⟩
 ·rintro ⟨hp,b,c⟩;refine ⟨λj p f l m=> ?_,λe=>c ((Cf q d hid k).1 e).2⟩;grind
theorem y8 {i:Nat} (t:Nat) (h:sj L done t):sj L (i::done) t:=by obtain ⟨j,p,b,c,d⟩:=h;exact ⟨j,p,List.mem_cons_of_mem _ b,c,d⟩
theorem aa4 (ok:C.tb.Ok C.P) (z:(cD L).Nodup) (c1:∀d∈cD L,d<n) (u:nN C L mok n lv0 β0 a0 h0 w0 done g r β s a h w) {i:Nat} {o:Oper} (y:L[i]? =some o) (hid:i∉done)
  (hw:∀k∈waits o,k∈done) (a9:dM L (bQ L []) i o=true) (M:ig (bQ L []) i o L 0=false) (c7:isVal C.tb o=true\/mK C.aV o=true) {K:St->Hp->Prop}
  (a8:EX C L o s=true) (hv:CJ C L mok o s h K):∃s',K s' h/\nN C L mok n lv0 β0 a0 h0 w0 (i::done) g r β s' a h w:=by
 unfold CJ at hv;split at hv
 ·exact hv.elim
 rename_i ch W;cases O:tZ s ch with
 | false=>simp [O] at hv
 | true=>
 simp only [O,cond_true] at hv;have U:∀p∈ch,sj L done p.1:=DL u y hw a9 W O;have b4:∀d,o.dst=some d->¬sj L done d:=λd e ⟨j,p,h1,F,A⟩=>hid (by rw [<-uc z F y A e];exact h1);have b5:∀d,o.dst=some d->d<n:=λd e=>c1 d (xi (List.mem_of_getElem? y) e);have b9:∀ {s':St},(∀t,o.dst≠some t->s'.f t=s.f t)->jZ (sj L done) o s s':=λD=>by refine ⟨λt ⟨j,p,h1,F,A⟩=>D t λe=>hid (by grind),λt J=>D t λe=> ?_,λt l c e q hq=>u.rr.chain t l c e q hq⟩;have:=wS e M i o y J;rw [Nat.zero_add] at this;exact hid (yB this (· ∈done) u.lH λo' c8=>by grind)
 cases H:isVal C.tb o with
 | true=>
  simp only [H,cond_true] at hv;obtain ⟨l,I,b1,b8,c5⟩:=Yy ok hv;have c2:∀k,¬df C.aV o k:=FT (Ot H);have c4:rZ C.tb o=true\/dd C.tb o ch s=.pure:=by unfold EX at a8;grind
  have D:∀t,o.dst≠some t->(s.put o.dst l ch).f t=s.f t:=λt J=>vN s _ _ _ t J;have k:=b9 D;refine ⟨_,I,Il u y hid hw ?_ (λj p h1 F A=> ?_) ?_⟩
  ·have hb:holds s ch->∀k o',(l=.box k o'\/l=.eM k o')->¬qL C L done k:=λQ b off e N=>by
    obtain ⟨x,hx,c0,hev⟩:=b8 b off e;rcases hev with hev | hev
    ·obtain ⟨t,c,rfl,Y,V⟩:=s8 hev (by simp) Q;exact (u.rr.kA b N t _ c Y V c0).1 rfl
    ·obtain ⟨t,c,rfl,Y,V⟩:=s8 hev (by simp) Q;exact (u.rr.kA b N t _ c Y V c0).2 rfl
   have b6:∀k,iq C L (i::done) g k↔iq C L done g k:=λk=>by rw [yx z u y hid k];grind
   have b7:∀k,qL C L (i::done) k->qL C L done k:=λk e=>((Cf z y hid k).1 e).2;cases B:o.dst with
   | none=>exact u.rr.congr (λt=>by rw [Fk u y hid t,B];simp) b6 y8 b7
   | some d=>refine (u.rr.lift (l:=l) (ch:=ch) (b5 d B) (b4 d B) U hb).congr (λt=> ?_) b6 y8 b7;rw [Fk u y hid t,B];grind
  ·rcases List.mem_cons.1 h1 with rfl | h1
   ·rw [yZ y A];refine ⟨⟨ch,W,by rw [Ov k U];exact O,.inl ⟨H,by rw [k.kind];exact c4,l,λd e=>by rw [e];exact FU _ _ _ _,λQ=> ?_,k.CK b8,λa8=>c5 (by rw [<-k.kind (s':=s.put o.dst l ch)];exact a8)⟩⟩,a9,M,λd hp=>absurd hp (c2 d)⟩;rw [k.kind];exact Nc k (λ_ t _ b off c _ _=>by rw [nf]) (λ_=>rfl) (b1 ((k.mR U).1 Q))
   ·exact MY z u y hid M D (λk=>.inl (by rw [nf])) h1 F A
  ·refine u.vS.mono (λ_ e=>e) (λ_ e=>e) (λ_ e=>e) (λk e=>⟨?_,((yx z u y hid k).1 e.2).2⟩);have:=e.1
   rwa [nf] at this
 | false=>
  simp only [H,cond_false] at hv;have b0:mK C.aV o=true:=c7.resolve_left (by rw [H];simp);have b2:∀(d:Nat) (E:List Value),K ((s.put (some d) (.box d 0) []).gP d E) h->df C.aV o d->ch=[]->has mok d=true->
    (∀(β:Nat->Nat) (S:Operand->Value) (w:World),(∀x∈o.op.operands,fy β s S x)->
     ∃t,(execOp S o).run C.P w=.ok (.value (.pointer (some ⟨w.heap.size,0,none⟩))) {w with heap:=w.heap.push (.cells E.toArray t (0,0))})->
    ∃s',K s' h/\nN C L mok n lv0 β0 a0 h0 w0 (i::done) g r β s' a h w:=by
   intro d E I hp X G b1;subst X;have Z:∀k,df C.aV o k↔k=d:=λk=>⟨λe=>by have:=e.2;rw [hp.2] at this;cases this;rfl,λe=>e▸hp⟩;have D:∀t,o.dst≠some t->((s.put (some d) (.box d 0) []).gP d E).f t=s.f t:=λt J=>s9 s _ _ λe=>J (by rw [hp.2,e]);have hm:∀k,k≠d->((s.put (some d) (.box d 0) []).gP d E).m k=s.m k:=λk I=>wT _ _ I;have k:=b9 D;have N:qL C L done d:=⟨i,o,hid,y,hp⟩;refine ⟨_,I,Il u y hid hw ?_ (λj p h1 F A=> ?_) ?_⟩
   ·refine (u.rr.zR E (b5 d hp.2) (b4 d hp.2) N).congr (λt=> ?_) (λk=> ?_) y8 (λk e=> ?_)
    ·rw [Fk u y hid t,hp.2];grind
    ·rw [yx z u y hid k,Z]
    ·have:=(Cf z y hid k).1 e;grind
   ·rcases List.mem_cons.1 h1 with rfl | h1
    ·rw [yZ y A];refine ⟨⟨[],W,rfl,.inr ⟨rfl,H,d,E,hp,FU _ _ _ _,yr _ _ _,Et k b1⟩⟩,a9,M,λd' c3=> ?_⟩;rw [(Z d').1 c3];exact (rX _ _).1 G
    ·exact MY z u y hid M D (λk=>by
      grind) h1 F A
   ·refine u.vS.mono (λ_ e=>e) (λ_ e=>e) (λ_ e=>e) (λk e=> ?_);have hl:=(yx z u y hid k).1 e.2;rw [Z] at hl;refine ⟨?_,hl.2⟩;have:=e.1;grind
  split at hv
  ·rename_i d B;have b3:o.dst=some d/\has C.aV d=true:=by unfold qV at B;grind
   cases G:has mok d with
   | false=>simp [G] at hv
   | true=>
    simp only [G,cond_true] at hv;split at hv
    ·rename_i t R;split at hv
     ·rename_i e X;refine b2 d (bu e.zero) hv ⟨b0,b3.1⟩ rfl G λβ S w _=>⟨t,?_⟩;have T:(bu e.zero).toArray=e.zero.cells:=by apply Array.ext';simp [oV]
      rw [T];simp [execOp,R,Instr.alloc,cX ok X,newVar,tU]
     ·exact hv.elim
    ·rename_i t x R;obtain ⟨v,hev,c6⟩:=kF hv;refine b2 d (bu v) c6 ⟨b0,b3.1⟩ rfl G λβ S w ho=>⟨t,?_⟩;have hx:=bR (ho x (by simp [R,Op.operands])) (bS s) hev;have T:(bu v).toArray=v.cells:=by apply Array.ext';simp [oV]
     rw [T];simp [execOp,R,hx,LVal,Instr.box,newVar,tU]
    ·exact hv.elim
  ·exact hv.elim
  ·rename_i B;exfalso;unfold qV at B;unfold mK at b0;grind
end
theorem ko {b:Bool} {p:Prop} (h:cond b p False):b=true/\p:=by grind
theorem Im {C:Ctx} {m:Nat->Bool} {L:List Oper} {s:St} {h:Hp}:∀ {a:List Nat},FO C m L s h a->∀ {j:Nat} {p:Oper} {ch:ba},j∈a->L[j]? =some p->qn L L.length p=some ch->pN C m p ch s h
 | [],_,_,_,_,hj,_,_=>by cases hj
 | r::a,d,j,p,ch,hj,hp,e=>by
  obtain ⟨b,c⟩:=d;rcases List.mem_cons.1 hj with rfl | hj
  ·rw [nh,hp] at b;grind
  ·exact Im c hj hp e
theorem YJ {C:Ctx} {m:Nat->Bool} {p:Oper} {ch:ba} {s:St} {h:Hp} (a:pN C m p ch s h):∃d,p.dst=some d:=by
 cases b:p.dst with
 | some d=>simp
 | none=>unfold pN at a;grind
section
variable {C:Ctx} {L:List Oper} {mok:List Nat} {n:Nat} {lv0:Nat->Prop} {β0:Nat->Nat} {a0:Act} {h0:Hp} {w0:World} {done g:List Nat} {q:Array Bool} {β:Nat->Nat} {s:St} {a:Act} {h:Hp} {w:World}
theorem aa7 (k:(cD L).Nodup) {i:Nat} {o:Oper} (f:L[i]? =some o) (hid:i∉done) (t:Nat):lQ L (i::done) (i::g) t↔(o.dst=some t\/lQ L done g t):=by
 constructor
 ·intro hc;by_cases d:o.dst=some t
  ·exact .inl d
  ·exact .inr λj p h1 c b=>hc j p (List.mem_cons_of_mem _ h1) (λe=>by
    grind) b
 ·rintro (d | hc) j p h1 c b
  ·intro e;exact c (by rw [uc k b f e d];simp)
  ·rcases List.mem_cons.1 h1 with e | h1
   ·grind
   ·exact hc j p h1 (λe=>c (List.mem_cons_of_mem _ e)) b
theorem J0 (d:(cD L).Nodup) {i:Nat} {o:Oper} (c:L[i]? =some o) (hid:i∉done) (k:Nat):iq C L (i::done) (i::g) k↔(df C.aV o k\/iq C L done g k):=by
 constructor
 ·rintro ⟨r,m⟩;by_cases hp:df C.aV o k
  ·exact .inl hp
  ·exact .inr ⟨λj p f l b=>r j p (List.mem_cons_of_mem _ f) (λe=>by
    grind) b,λe=>m ((Cf d c hid k).2 ⟨hp,e⟩)⟩
 ·rintro (hp | ⟨r,m⟩)
  ·exact ⟨λj p f l b t=>l (by rw [uc d b c t.2 hp.2];simp),λe=>((Cf d c hid k).1 e).1 hp⟩
  ·refine ⟨λj p f l b=> ?_,λe=>m ((Cf d c hid k).1 e).2⟩;grind
theorem V4 (ok:C.tb.Ok C.P) (Y:(cD L).Nodup) (x:nN C L mok n lv0 β0 a0 h0 w0 done g q β s a h w) {i:Nat} {o:Oper} (B:L[i]? =some o) (hid:i∉done) (b1:∀j∈lY (bQ L []) i,j∈g)
  {Q:List Nat} (hwatch:(isVal C.tb o=true\/mK C.aV o=true)\/∀j p,j∈done->L[j]? =some p->isVal C.tb p=true->rZ C.tb p=true->j∈Q\/j∈lY (bQ L []) i)
  {l:List Nat} {c3:Nat->Nat} {s':St} {a':Act} {z:Hp} {w':World} (out:u9 C l mok n (lQ L done g) (iq C L done g) (sj L done) (qL C L done) o β s a h w c3 s' a' z w')
  (b0:FO C (vn o s) L s' z Q) {j:Nat} {p:Oper} (u:j∈done) (J:j∉g) (r:L[j]? =some p):
  nK C L p s' z/\dM L (bQ L []) j p=true/\ig (bQ L []) j p L 0=false/\∀d,df C.aV p d->d∈mok:=by
 obtain ⟨⟨ch,G,U,b7⟩,M,c0⟩:=x.facts j p u J r;refine ⟨?_,M,c0⟩;have k:jZ (sj L done) p s s':=JZ Y x B hid out.f r u λt v e=>by
  rcases V1 M v B e with h1 | h1 | h1
  ·exact hid (zI x r u h1)
  ·exact hid (h1▸u)
  grind
 have R:=DL x r (x.lH j p r u) M G U;have I:∀d,p.dst=some d->sj L done d:=λd e=>⟨j,p,u,r,e⟩;have X:∀t,Operand.tmp t∈p.op.operands->∀b off c,(s.f t=some (.box b off,c)\/s.f t=some (.eM b off,c))->holds s c->s'.m b=s.m b\/(vn o s b=true/\isVal C.tb o=false):=by
  intro t v b off c hfb A;rcases out.m b with e | e | e
  ·exact .inl e
  ·exfalso;have S:qL C L done b:=⟨i,o,hid,B,e⟩;rcases hfb with hfb | hfb
   ·exact (x.rr.kA b S t _ c hfb A off).1 rfl
   ·exact (x.rr.kA b S t _ c hfb A off).2 rfl
  grind
 refine ⟨ch,G,by rw [Ov k R];exact U,?_⟩;rcases b7 with ⟨E,Z,lv,W,O,b8,c1⟩ | ⟨rfl,E,d,cs,D,b2,b5,O⟩
 ·have a8:xn C.tb p ch s' lv:=λb4=>c1 (by rw [<-k.kind (s':=s')];exact b4);refine .inl ⟨E,by rw [k.kind];exact Z,lv,λd e=>by rw [k.dn d (I d e)];exact W d e,λV=> ?_,k.CK b8,a8⟩;have A:=(k.mR R).1 V;have y:=O A;have K:dd C.tb p ch s'=dd C.tb p ch s:=k.kind;rw [K];by_cases N:dd C.tb p ch s=.pure
  ·rw [N] at y ⊢;exact Nc k (λe=>absurd rfl e) (λe=>by cases e) y
  ·have b9:=Z.resolve_right N;rcases hwatch with a9 | hwatch
   ·have b6:∀b,¬(vn o s b=true/\isVal C.tb o=false):=by
     rintro b ⟨e1,e2⟩;rcases a9 with e | e
     ·grind
     ·unfold vn at e1;unfold mK at e;grind
    have b3:z=h:=by
     rcases a9 with e | e
     ·exact out.hv e
     ·exact out.hp e
    exact Nc k (λ_ t v b off c hfb F=>(X t v b off c hfb F).resolve_right (b6 b)) (λ_=>b3) y
   ·have c2:j∈Q:=(hwatch j p u r E b9).resolve_right λe=>J (b1 j e);have T:=Im b0 c2 r G;obtain ⟨d,H⟩:=YJ T;rcases Sw rfl ok T H ⟨ch,by rw [k.dn d (I d H)];exact W d H⟩ V a8 with h1 | ⟨h1,h2⟩ | ⟨h1,h2⟩
    ·rw [K] at h1;exact absurd h1 N
    ·rw [K] at h1;rw [h1] at y ⊢;exact Nc k (λ_ t v b off c hfb F=>(X t v b off c hfb F).resolve_right λe=>by rw [h2 t b off c v (by rw [k.op t v];exact hfb)] at e;cases e.1) (λe=>by cases e) y
    grind
 ·refine .inr ⟨rfl,E,d,cs,D,by rw [k.dn d (I d D.2)];exact b2,?_,Et k O⟩;rcases out.m d with e | e | e
  ·rw [e];exact b5
  ·exact absurd u (by rw [uc Y r B D.2 e.2];exact hid)
  ·exact absurd D (e.2.2.2.1 j p u J r)
theorem aba (ok:C.tb.Ok C.P) {T:Array Oper} (R:T.toList=L) (v:(cD L).Nodup) (Z:∀d∈cD L,d<n) (c:nN C L mok n lv0 β0 a0 h0 w0 done g q β s a h w) {i:Nat} {o:Oper} (f:L[i]? =some o) (hid:i∉done)
  (S:∀k∈waits o,k∈g) (Y:dM L (bQ L []) i o=true) {U:List Nat}
  (a9:(isVal C.tb o=true\/mK C.aV o=true)\/∀j p,j∈done->L[j]? =some p->isVal C.tb p=true->rZ C.tb p=true->j∈U\/j∈lY (bQ L []) i)
  {K:St->Hp->Prop} (W:∀s1 m,K s1 m->FO C (vn o s) L s1 m U) (hv:CJ C L mok o s h K) (next:Act->World->Prop) (Q:Exit->Act->World->Prop)
  (hn:∀B z G y D,K B z->nN C L mok n lv0 β0 a0 h0 w0 (i::done) (i::g) (q.setIfInBounds i true) G B y z D->next y D):wpOp C.P T Q i next a w:=by
 have J:∀j∈lY (bQ L []) i,j∈g:=λj hj=>yB hj (· ∈g) c.qU (λo' O=>by grind);have M:i<L.length:=(List.getElem?_eq_some_iff.1 f).1;have N:=List.mem_of_getElem? f;refine Lt (l:=cD L) ok (by grind) (by rw [R];exact hv) c.rr (λt ht j p m r u F=> ?_) (λj b p d V E H=> ?_) (λd e=>⟨Z d (xi N e),?_,xi N e⟩) (λd hp=> ?_) next Q λB z G y D A out=> ?_
 ·have:=wS F (c.facts j p m r u).2.2.1 i o f ht;grind
 ·rw [R,nh] at E;have X:=J _ (D0 Y V);refine ⟨λj' p' m r u F=> ?_,j,p,c.jL j X,E,H⟩;have:=uc v u E F H;grind
 ·rintro ⟨j,p,m,r,u⟩;exact hid (by rw [<-uc v r f u e];exact m)
 ·have I:qL C L done d:=⟨i,o,hid,f,hp⟩;exact ⟨I,λe=>e.2 I⟩
 ·refine hn B z G y D A ⟨by simpa using c.zT,λj=>MX c.zT M c.zS,List.nodup_cons.2 ⟨λe=>hid (c.jL i e),c.CA⟩,λj hj=> ?_,λj hj=> ?_,?_,?_,
   ⟨λo' O=>by rw [yZ f O];exact λk A=>c.jL k (S k A),c.sN⟩,out.rr.congr (λt=>aa7 v f hid t) (λk=>J0 v f hid k) y8 (λk e=>(Cf v f hid k).1 e),λj p m r u=> ?_,
   c.vS.trans (out.vS.mono (λ_ e=>e) (λ_ e=>e) (λ_ e=>e) (λk e=>⟨e.1,(J0 v f hid k).1 e.2⟩))⟩
  ·rcases List.mem_cons.1 hj with rfl | hj
   ·simp
   ·exact List.mem_cons_of_mem _ (c.jL j hj)
  ·rcases List.mem_cons.1 hj with rfl | hj
   ·exact M
   ·exact c.sm j hj
  ·intro j p hj hjm k x;rcases List.mem_cons.1 hjm with rfl | hjm
   ·grind
   ·exact List.mem_cons_of_mem _ (c.qU j p hj hjm k x)
  ·intro j p hj hjm k x;rcases List.mem_cons.1 hjm with rfl | hjm
   ·rw [yZ f hj] at x;exact List.mem_cons_of_mem _ (c.jL k (S k x))
   ·exact List.mem_cons_of_mem _ (c.lH j p hj hjm k x)
  ·have a8:j≠i:=λe=>r (e▸List.mem_cons_self ..);exact V4 ok v c f hid J a9 out (W _ _ A) ((List.mem_cons.1 m).resolve_left a8) (λe=>r (List.mem_cons_of_mem _ e)) u
theorem yU {i:Array Oper} (t:i.toList=L) (b:nN C L mok n lv0 β0 a0 h0 w0 done g q β s a h w) {j:Nat}:
  j∈Region.ready .any i q↔j∉g/\∃o,L[j]? =some o/\∀k∈waits o,k∈g:=by
 rw [mem_ready];have m:∀j:Nat,i[j]? =L[j]?:=λj=>by grind
 constructor
 ·rintro ⟨l,o,c,d⟩;rw [m] at c;refine ⟨λe=> ?_,o,c,λk p=> ?_⟩
  ·have r:j<q.size:=by rw [b.zT];exact (List.getElem?_eq_some_iff.1 c).1
   have:=(b.zS j).2 e;grind
  ·obtain ⟨e,f,rfl,hb⟩:=YG p;exact (b.zS _).1 (d e f hb)
 ·rintro ⟨l,o,c,d⟩;refine ⟨?_,o,by grind,λe f hb=>(b.zS _).2 (d _ (Yv f hb))⟩;have r:j<q.size:=by rw [b.zT];exact (List.getElem?_eq_some_iff.1 c).1
  cases e:q.getD j true with
  | false=>rfl
  | true=>refine absurd ((b.zS j).1 ?_) l;grind
theorem Mb {tb:Tb} {aV:List Nat}:∀ {r:List (Nat×List Nat)} {done:List Nat} {last:Option Nat} {c:List Nat} {d:Option Nat},fg tb aV L (bQ L []) r done last=true->uX tb aV L (bQ L []) r done last=(c,d)->
  (∀x,x∈c↔x∈done\/x∈r.map (·.1))/\(done.Nodup->c.Nodup)/\(∀e,last=some e->∃b,d=some b/\(b=e\/mf L b e))
 | [],done,last,c,d,_,he=>by cases he;grind
 | (i,ws)::r,done,last,c,d,h,he=>by
  obtain ⟨o,F,_,_,hid,D,J⟩:=Ma h;have key:∀f,fg tb aV L (bQ L []) r (i::done) f=true->uX tb aV L (bQ L []) r (i::done) f=(c,d)->(f=last\/f=some i)->
    (∀x,x∈c↔x∈done\/x∈((i,ws)::r).map (·.1))/\(done.Nodup->c.Nodup)/\(∀e,last=some e->∃b,d=some b/\(b=e\/mf L b e)):=by
   intro f y z B;obtain ⟨u,v,l⟩:=Mb y z;refine ⟨λx=> ?_,λE=>v (List.nodup_cons.2 ⟨hid,E⟩),λe m=> ?_⟩
   ·rw [u,List.mem_cons,List.map_cons,List.mem_cons];constructor
    ·rintro ((h | h) | h)
     ·exact .inr (.inl h)
     ·exact .inl h
     ·exact .inr (.inr h)
    ·rintro (h | h | h)
     ·exact .inl (.inr h)
     ·exact .inl (.inl h)
     ·exact .inr h
   ·rcases B with rfl | rfl
    ·exact l e m
    ·obtain ⟨b,t,e2⟩:=l i rfl;have p:=yB (D e m);refine ⟨b,t,.inr ?_⟩;rcases e2 with rfl | e2
     ·exact p
     ·intro X j H;exact p X j λI G k A=>j i I G (e2 X j H) k A
  simp only [uX,nh,F] at he;grind
theorem J1 (ok:C.tb.Ok C.P) {m:Array Oper} (u:m.toList=L) (G:(cD L).Nodup) (S:∀d∈cD L,d<n) {K0:St->Hp->Prop} {Q:Exit->Act->World->Prop} {dE:List Nat} {lE:Option Nat}
  (a8:∀j,j<L.length->j∉dE->∀e,lE=some e->mf L j e)
  (K:∀(fuel:Nat) (g:List Nat) (q:Array Bool) (β:Nat->Nat) (s:St) (a:Act) (h:Hp) (w:World),nN C L mok n lv0 β0 a0 h0 w0 dE g q β s a h w->K0 s h->L.length<=fuel+g.length->wpAny C.P .any m Q fuel q a w):
  ∀(fuel:Nat) (r:List (Nat×List Nat)) (done g:List Nat) (q:Array Bool) (last:Option Nat) (β:Nat->Nat) (s:St) (a:Act) (h:Hp) (w:World),
   nN C L mok n lv0 β0 a0 h0 w0 done g q β s a h w->fg C.tb C.aV L (bQ L []) r done last=true->uX C.tb C.aV L (bQ L []) r done last=(dE,lE)->pD C L mok r s h K0->
   L.length<=fuel+g.length->wpAny C.P .any m Q fuel q a w:=by
 intro fuel
 induction fuel with
 | zero=>
  intro r done g q last β s a h w hs hp he hv hf;have b0:∀j,j<L.length->j∈g:=λj t=>yo hs.CA (λx B=>hs.sm x (hs.jL x B)) (by omega) t;cases r with
  | nil=>cases he;exact K 0 g q β s a h w hs hv hf
  | cons x r=>obtain ⟨i,ws⟩:=x;obtain ⟨o,c,_,_,hid,_⟩:=Ma hp;exact absurd (hs.jL i (b0 i (List.getElem?_eq_some_iff.1 c).1)) hid
 | succ fuel Z=>
  intro r
  induction r with
  | nil=>intro done g q last β s a h w hs hp he hv hf;cases he;exact K (fuel+1) g q β s a h w hs hv hf
  | cons x r c2=>
   intro done g q last β s a h w hs hp he hv hf;obtain ⟨i,ws⟩:=x;obtain ⟨o,c,A,R,hid,b9,hc⟩:=Ma hp;obtain ⟨c0,_,_⟩:=Mb hp he;simp only [pD,nh,c] at hv;obtain ⟨b5,U⟩:=ko hv;have rest:fg C.tb C.aV L (bQ L []) r (i::done) (some i)=true->uX C.tb C.aV L (bQ L []) r (i::done) (some i)=(dE,lE)->
     ((isVal C.tb o=true\/mK C.aV o=true)\/∀j p,j∈done->L[j]? =some p->isVal C.tb p=true->rZ C.tb p=true->j∈ws\/j∈lY (bQ L []) i)->wpAny C.P .any m Q (fuel+1) q a w:=by
    intro f N b7;have M:∀s1 b,(match (generalizing:=false) ws with
     | []=>pD C L mok r s1 b K0
     | ws=>FO C (vn o s) L s1 b ws/\pD C L mok r s1 b K0)->FO C (vn o s) L s1 b ws/\pD C L mok r s1 b K0:=by
     intro s1 b e;cases ws with
     | nil=>exact ⟨trivial,e⟩
     | cons x ws=>exact e
    refine ⟨λhr=> ?_,λj t=> ?_⟩
    ·exfalso;by_cases B:∃j∈done,j∉g
     ·obtain ⟨j,b,v,h3⟩:=xW hs.sN B;have O:=List.getElem?_eq_getElem (hs.sm j b);have:j∈Region.ready .any m q:=(yU u hs).2 ⟨v,_,O,h3 _ O⟩;grind
     ·have:i∈Region.ready .any m q:=(yU u hs).2 ⟨λe=>hid (hs.jL i e),o,c,λk l=>Classical.byContradiction λe=>B ⟨k,A k l,e⟩⟩;grind
    ·obtain ⟨b,p,y,v⟩:=(yU u hs).1 t;by_cases F:j∈done
     ·exact Fj ok u G hs y F b v _ Q λI D H z=>Z ((i,ws)::r) done (j::g) _ last I s D h H z hp he (by
       simp only [pD,nh,c];omega) (by simp;omega)
     ·by_cases b2:j=i
      ·subst b2;rw [c] at y;cases y;exact aba ok u G S hs c hid v R b7 (λs h e=>(M s h e).1) U _ Q λs' h' I D H l z=>Z r (j::done) (j::g) _ (some j) I s' D h' H z f N (M _ _ l).2 (by simp;omega)
      ·exfalso;have b3:=(List.getElem?_eq_some_iff.1 y).1;have a9:mf L j i:=by
        by_cases b4:j∈r.map (·.1)
        ·exact MV f j b4
        ·have b1:j∉dE:=λh=>by grind
         obtain ⟨_,_,g3⟩:=Mb f N;obtain ⟨J,e1,e2⟩:=g3 i rfl;have b:=a8 j b3 b1 J e1;rcases e2 with rfl | e2
         ·exact b
         ·intro X E A;exact e2 X E λo' T k l=>E J o' T (b X E A) k l
       have:=a9 (· ∈g) hs.qU λo' T=>by grind
       exact hid (hs.jL i this)
   simp only [uX,nh,c] at he;rcases hc with ⟨W,Y,f⟩ | ⟨W,Y,f⟩ | ⟨V,c1,b8,f⟩
   ·obtain ⟨s',l,z⟩:=aa4 ok G S hs c hid A R Y W b5 U;grind
   ·grind
   ·exact rest f (by grind) (.inr λj p F t V b6=>LP b8 j F p t V b6)
theorem J2 {tb:Tb} {aV:List Nat} {rows:List (List Nat)}:∀ {r:List (Nat×List Nat)} {done:List Nat} {last:Option Nat},fg tb aV L rows r done last=true->
  (r.map (·.1)).Nodup/\∀j∈r.map (·.1),j∉done/\j<L.length
 | [],_,_,_=>⟨.nil,λj d=>(nomatch d)⟩
 | (i,ws)::r,done,last,h=>by obtain ⟨o,f,_,_,hid,_,e⟩:=Ma h;have k:∀b,fg tb aV L rows r (i::done) b=true->_:=λb c=>J2 c;grind
theorem MZ {aV:List Nat} {k:Nat}:∀ {L:List Oper},k∈lq aV L↔∃(i:Nat) (o:Oper),L[i]? =some o/\df aV o k
 | []=>by simp [lq]
 | o::L=>by
  have f:=MZ (aV:=aV) (k:=k) (L:=L);have key:(∃(i:Nat) (p:Oper),(o::L)[i]? =some p/\df aV p k)↔(df aV o k\/∃(i:Nat) (p:Oper),L[i]? =some p/\df aV p k):=by
   constructor
   ·grind
   ·rintro (h | ⟨i,p,b,c⟩)
    ·exact ⟨0,o,by simp,h⟩
    ·exact ⟨i+1,p,by simpa using b,c⟩
  rw [key,<-f];by_cases hp:∃d,df aV o d
  ·obtain ⟨d,hp⟩:=hp;rw [Ou hp,List.mem_cons];refine or_congr ⟨λe=>e▸hp,λe=> ?_⟩ .rfl;have:=e.2;rw [hp.2] at this;cases this;rfl
  ·rw [DX λd e=>hp ⟨d,e⟩];grind
end
theorem FV :∀(l:List Oper) (j i k:Nat),(fp l j i)[k]? =(l[k]?).map λo=>if k=j then {o with after:=⟨app o.after.toList [⟨i,.data⟩]⟩} else o
 | [],_,_,k=>by simp [fp]
 | o::r,0,i,0=>by simp [fp]
 | o::r,0,i,k+1=>by simp [fp]
 | o::r,j+1,i,0=>by simp [fp]
 | o::r,j+1,i,k+1=>by simp [fp,FV r j i k]
theorem uB :∀(l:List Oper) (j i:Nat),(fp l j i).length=l.length
 | [],_,_=>rfl
 | _::_,0,_=>rfl
 | o::r,j+1,i=>by simp [fp,uB r j i]
theorem Cb :∀(l:List Oper) (j i:Nat),cD (fp l j i)=cD l
 | [],_,_=>rfl
 | _::_,0,_=>rfl
 | o::r,j+1,i=>by simp only [fp,cD,Cb r j i]
section
variable {P:Program} {Q:Exit->Act->World->Prop} {ops b:Array Oper} {i j:Nat}
theorem Fl (d:b.toList=fp ops.toList j i) {k:Nat} {K:Act->World->Prop} {a:Act} {w:World} (h:wpOp P b Q k K a w):wpOp P ops Q k K a w:=by
 have f:∀k:Nat,b[k]? =(ops[k]?).map λo=>if k=j then {o with after:=⟨app o.after.toList [⟨i,.data⟩]⟩} else o:=λk=>by rw [<-Array.getElem?_toList,d,FV,Array.getElem?_toList]
 have l:∀c,yielded b c=yielded ops c:=λc=>by funext q;unfold yielded;grind
 unfold wpOp at*;rw [f] at h;cases g:ops[k]? with
 | none=>grind
 | some o=>
  rw [g] at h;simp only [Option.map_some,l] at h;by_cases e:k=j
  ·rw [if_pos e] at h;exact h
  grind
theorem Nf (g:b.toList=fp ops.toList j i) {k:Nat} {c:Array Bool}:(k∈Region.ready .any b c->k∈Region.ready .any ops c)/\(k∈Region.ready .any ops c->(k≠j\/c.getD i false=true)->k∈Region.ready .any b c):=by
 have l:∀k:Nat,b[k]? =(ops[k]?).map λo=>if k=j then {o with after:=⟨app o.after.toList [⟨i,.data⟩]⟩} else o:=λk=>by rw [<-Array.getElem?_toList,g,FV,Array.getElem?_toList]
 simp only [mem_ready,l];constructor
 ·rintro ⟨d,n,a,f⟩;refine ⟨d,?_⟩;cases e:ops[k]? with
  | none=>grind
  | some o=>
   rw [e] at a;refine ⟨o,rfl,λx hx=>f x ?_⟩;simp at a;subst a;split
   ·rw [sb];grind
   ·exact hx
 ·rintro ⟨d,o,a,f⟩ m;refine ⟨d,_,by rw [a];rfl,λx hx hb=> ?_⟩;dsimp only at hx;by_cases e:k=j
  ·rw [if_pos e] at hx;have hx:x∈(⟨app o.after.toList [⟨i,.data⟩]⟩:Array Edge):=hx;rw [sb] at hx;simp at hx;rcases hx with hx | hx
   ·exact f x (by simpa using hx) hb
   ·subst hx;exact m.resolve_left λh=>h e
  grind
theorem Io (f:b.toList=fp ops.toList j i):∀(fuel:Nat) (c:Array Bool) (a:Act) (w:World),c.getD i false=true->wpAny P .any b Q fuel c a w->wpAny P .any ops Q fuel c a w:=by
 have l:∀c:Array Bool,c.getD i false=true->Region.ready .any ops c=[]->Region.ready .any b c=[]:=λc d g=>by refine List.eq_nil_iff_forall_not_mem.2 λk e=> ?_;have:=(Nf f).1 e;grind
 have m:∀c:Array Bool,c.getD i false=true->Region.ready .any b c=[]->Region.ready .any ops c=[]:=λc d g=>by refine List.eq_nil_iff_forall_not_mem.2 λk e=> ?_;have:=(Nf f).2 e (.inr d);grind
 intro fuel
 induction fuel with
 | zero=>exact λc a w d h=>⟨m c d h.1,h.2⟩
 | succ fuel n=>intro c a w d h;refine ⟨λg=>h.1 (l c d g),λk e=> ?_⟩;exact wpOp_mono (λa w h=>n _ a w (getD_set_true d) h) (Fl f (h.2 k ((Nf f).2 e (.inr d))))
end
section
variable {C:Ctx} {L:List Oper} {mok:List Nat} {n:Nat} {lv0:Nat->Prop} {β0:Nat->Nat} {a0:Act} {h0:Hp} {w0:World} {done c:List Nat} {f:Array Bool} {β:Nat->Nat} {s:St} {a:Act} {h:Hp} {w:World} {i j:Nat}
theorem Lv {k:Nat} (b:k≠j):(fp L j i)[k]? =L[k]?:=by rw [FV];grind
theorem YO (k:Nat) {o:Oper}:(fp L j i)[k]? =some o->∃p,L[k]? =some p/\o.dst=p.dst/\o.op=p.op/\o.guard=p.guard:=by rw [FV];grind
theorem nS (k:Nat) {p:Oper} (h:L[k]? =some p):∃o,(fp L j i)[k]? =some o/\o.dst=p.dst/\o.op=p.op/\o.guard=p.guard:=by rw [FV,h];grind
theorem M0 :∀(m:Nat) (o:Oper),qn (fp L j i) m o=qn L m o
 | 0,_=>rfl
 | m+1,o=>by
  unfold qn;cases o.guard with
  | none=>rfl
  | some g=>
   obtain ⟨q,b⟩:=g;dsimp only;rw [nh,nh];cases e:L[q]? with
   | none=>
    have:(fp L j i)[q]? =none:=by rw [FV,e];rfl
    rw [this]
   | some p=>
    obtain ⟨d,k,l,_,r⟩:=nS (i:=i) (j:=j) q e;rw [k];dsimp only;have:∀m,qn L m d=qn L m p:=λm=>by cases m<;>simp [qn,r]
    rw [M0 m d,this,l]
theorem M2 {aV:List Nat} {o p:Oper} (b:o.dst=p.dst) (d:o.op=p.op) (k:Nat):df aV o k↔df aV p k:=by unfold df mK;rw [b,d]
theorem J3 {b:List Oper} {e rows:List (List Nat)}:∀ {done:List Nat},uM b e L rows done=true->∀k∈done,∀o,L[k]? =some o->ig e k o b 0=false->dM L rows k o=true/\ig rows k o L 0=false
 | [],_,k,hk,_,_,_=>by cases hk
 | q::r,h,k,hk,o,d,m=>by
  unfold uM at h;obtain ⟨g,l⟩:=fL h;rcases List.mem_cons.1 hk with rfl | hk
  ·rw [nh,d] at g;grind
  ·exact J3 l k hk o d m
theorem DM {rows:List (List Nat)} {i:Nat} {done:List Nat}:∀ {m:Nat},uL rows i done m=true->∀k,k<m->k∉done->k≠i->i∈lY rows k
 | 0,_,k,q,_,_=>by omega
 | m+1,h,k,q,d,g=>by
  unfold uL at h;obtain ⟨b,p⟩:=fL h;by_cases e:k=m
  ·subst e;have l:has done k=false:=by
    cases e:has done k with
    | false=>rfl
    | true=>exact absurd ((rX _ _).1 e) d
   have o:Nat.beq k i=false:=by
    cases e:Nat.beq k i with
    | false=>rfl
    | true=>exact absurd (Nat.eq_of_beq_eq_true e) g
   rw [l,o] at b;exact (rX _ _).1 b
  ·exact DM p k (by omega) d g
theorem Lw (l:nN C L mok n lv0 β0 a0 h0 w0 done c f β s a h w) (P:j∉done) (Q:uM L (bQ L []) (fp L j i) (bQ (fp L j i) []) done=true):
  nN C (fp L j i) mok n lv0 β0 a0 h0 w0 done c f β s a h w:=by
 have m:∀q,q∈done->(fp L j i)[q]? =L[q]?:=λq r=>Lv λe=>P (e▸r);have N:lQ (fp L j i) done c=lQ L done c:=funext λt=>propext ⟨λh q o b k g=>h q o b k ((m q b).trans g),λh q o b k g=>h q o b k ((m q b).symm.trans g)⟩;have O:sj (fp L j i) done=sj L done:=funext λt=>propext ⟨λ⟨q,o,b,k,g⟩=>⟨q,o,b,(m q b).symm.trans k,g⟩,λ⟨q,o,b,k,g⟩=>⟨q,o,b,(m q b).trans k,g⟩⟩;have E:qL C (fp L j i) done=qL C L done:=funext λt=>propext ⟨λ⟨q,o,b,k,g⟩=>by
   obtain ⟨p,u,v,y,_⟩:=YO q k;exact ⟨q,p,b,u,(M2 v y t).1 g⟩,λ⟨q,o,b,k,g⟩=>by
   obtain ⟨p,u,v,y,_⟩:=nS (i:=i) (j:=j) q k;exact ⟨q,p,b,u,(M2 v y t).2 g⟩⟩
 have D:iq C (fp L j i) done c=iq C L done c:=funext λt=>propext (by
  unfold iq;rw [E];grind)
 have A:∀X:List Nat,(∀q∈X,q∈done)->uZ L (· ∈X)->uZ (fp L j i) (· ∈X):=λX K M q o z r=>M q o ((m q (K q r)).symm.trans z) r;have R:∀d:List Nat,(∀q∈d,q∈done)->vf L d->vf (fp L j i) d:=by
  intro d
  induction d with
  | nil=>intro _ _;trivial
  | cons q d T=>intro B F;exact ⟨λo z=>F.1 o ((m q (B q (List.mem_cons_self ..))).symm.trans z),T (λx S=>B x (List.mem_cons_of_mem _ S)) F.2⟩
 refine ⟨by rw [uB];exact l.zT,l.zS,l.CA,l.jL,λq r=>by rw [uB];exact l.sm q r,A c l.jL l.qU,A done (λ_ h=>h) l.lH,R done (λ_ h=>h) l.sN,?_,λq o b k g=> ?_,?_⟩
 ·rw [N,D,O,E];exact l.rr
 ·have J:=(m q b).symm.trans g;obtain ⟨f1,f2,f3,G⟩:=l.facts q o b k J;obtain ⟨H,I⟩:=J3 Q q b o g f3;refine ⟨?_,H,I,G⟩;unfold nK at*;rw [uB,M0];exact f1
 ·rw [Cb,D];exact l.vS
end
theorem YT {l m:List Nat} (b:m.Nodup) (h:l.Nodup) (c:∀x∈l,x∈m):l.length<=m.length:=by
 induction l generalizing m with
 | nil=>simp
 | cons a l i=>obtain ⟨f,g⟩:=List.nodup_cons.1 h;have j:=c a (List.mem_cons_self ..);have:=i (m:=m.erase a) (b.erase a) g λx d=>(b.mem_erase_iff).2 ⟨λe=>f (e▸d),c x (List.mem_cons_of_mem _ d)⟩;grind
theorem Lx {C:Ctx} {L:List Oper} {u:List Nat} {n:Nat} {r:Nat->Prop} {z:Nat->Nat} {a0:Act} {l:Hp} {v:World} {K:St->Hp->Prop} {Q:Exit->Act->World->Prop} {done ls:List Nat} {F:Array Bool} {x:Nat->Nat} {s:St} {a:Act} {h:Hp} {w:World}
  (q:nN C L u n r z a0 l v done ls F x s a h w) (D:∀j,j<L.length->j∈done) (o:∀j∈done,j∈ls) (E:K s h)
  (B:∀g f y d i,K g f->RR n (λ_=>True) (λ_=>True) (λ_=>True) (λ_=>False) y g d f i->gX (cD L) u r z a0 l v (de g) y d f i->Q .normal d i):Q .normal a w:=by
 have A:∀k,¬qL C L done k:=λk ⟨j,p,b,c,_⟩=>b (D j (List.getElem?_eq_some_iff.1 c).1);have m:∀k,True↔iq C L done ls k:=λk=>⟨λ_=>⟨λj p b c _=>absurd (o j b) c,A k⟩,λ_=>trivial⟩;exact B s h x a w E (q.rr.congr (λt=>⟨λ_ j p b c _=>absurd (o j b) c,λ_=>trivial⟩) m (λ_ _=>trivial) (λ_ e=>e.elim)) (q.vS.mono (λ_ e=>e) (λ_ e=>e) (λ_ e=>e) (λk e=>⟨e.1,(m k).1 trivial⟩))
theorem V5 {C:Ctx} (ok:C.tb.Ok C.P) {mok:List Nat} {n:Nat} {lv0:Nat->Prop} {β0:Nat->Nat} {a0:Act} {h0:Hp} {w0:World} {K:St->Hp->Prop} {Q:Exit->Act->World->Prop}:
  ∀(A:bw) (c:Array Oper) (done:List Nat) (last:Option Nat),(cD c.toList).Nodup->(∀d∈cD c.toList,d<n)->oa C.tb C.aV A c.toList done last=true->done.Nodup->
  (∀s' S J D G,K s' S->RR n (λ_=>True) (λ_=>True) (λ_=>True) (λ_=>False) J s' D S G->gX (cD c.toList) mok lv0 β0 a0 h0 w0 (de s') J D S G->Q .normal D G)->
  ∀(fuel:Nat) (l:List Nat) (g:Array Bool) (v:Nat->Nat) (s:St) (a:Act) (h:Hp) (w:World),nN C c.toList mok n lv0 β0 a0 h0 w0 done l g v s a h w->vO C mok K A c.toList s h->c.toList.length<=fuel+l.length->
   wpAny C.P .any c Q fuel g a w:=by
 intro A
 induction A with
 | rg R=>
  intro c done last hnd F hp hdn hQ fuel l g v s a h w b hv t;unfold oa at hp;obtain ⟨b4,hp⟩:=fL hp;have b4:=Nat.eq_of_beq_eq_true b4;have H:∀dE lE,uX C.tb C.aV c.toList (bQ c.toList []) R done last=(dE,lE)->∀j,j<c.toList.length->j∈dE:=λdE lE B j u=>by
   obtain ⟨Z,M,_⟩:=Mb hp B;have a8:=J2 hp;refine yo (M hdn) (λx r=> ?_) ?_ u
   ·rcases (Z x).1 r with h1 | h1
    ·exact b.sm x h1
    grind
   ·have h1:(done++R.map (·.1)).Nodup:=List.nodup_append.2 ⟨hdn,a8.1,λx r y hy e=>(a8.2 y hy).1 (e▸r)⟩;have z:=YT (M hdn) h1 λx r=>by rw [List.mem_append] at r;exact (Z x).2 r
    grind
  cases B:uX C.tb C.aV c.toList (bQ c.toList []) R done last with
  | mk dE lE=>
   have H:=H dE lE B;refine J1 (mok:=mok) (K0:=K) ok rfl hnd F (dE:=dE) (lE:=lE) (λj u O=>absurd (H j u) O) ?_ fuel R done l g last v s a h w b hp B hv t;clear b hv t;intro fuel
   induction fuel with
   | zero=>intro l g v s a h w b hv t;have hl:∀j,j<c.toList.length->j∈l:=λj u=>yo b.CA (λx r=>b.sm x (b.jL x r)) (by omega) u;refine ⟨List.eq_nil_iff_forall_not_mem.2 λk m=> ?_,Lx b H (λj u=>hl j (b.sm j u)) hv hQ⟩;obtain ⟨h1,o,U,_⟩:=(yU rfl b).1 m;grind
   | succ fuel Y=>
    intro l g v s a h w b hv t;refine ⟨λhr=>Lx b H (λj u=>Classical.byContradiction λe=> ?_) hv hQ,λj u=> ?_⟩
    ·obtain ⟨i,h1,z,T⟩:=xW b.sN ⟨j,u,e⟩;have L:=List.getElem?_eq_getElem (b.sm i h1);have:i∈Region.ready .any c g:=(yU rfl b).2 ⟨z,_,L,T _ L⟩;grind
    ·obtain ⟨h1,o,U,z⟩:=(yU rfl b).1 u;exact Fj ok rfl hnd b U (H j (List.getElem?_eq_some_iff.1 U).1) h1 z _ Q λJ D G X=>Y (j::l) _ J s D h G X hv (by grind)
 | r2 pre i j x y c9 d0=>
  intro c done last hnd F hp hdn hQ fuel l g v s a h w b hv t;unfold oa at hp;obtain ⟨b5,hp⟩:=fL hp;cases B:uX C.tb C.aV c.toList (bQ c.toList []) pre done last with
  | mk dE lE=>
   rw [B] at hp;dsimp only at hp;obtain ⟨f,hp⟩:=fL hp;obtain ⟨c6,c7⟩:=fL hp;obtain ⟨Z,M,_⟩:=Mb b5 B;unfold Mx at f;cases I:Nat.beq i j with
   | true=>grind
   | false=>
    rw [I] at f;have I:i≠j:=λe=>by rw [e] at I;simp at I
    simp only [cond_false,nh] at f;cases V:c.toList[i]? with
    | none=>grind
    | some o=>
     cases c5:c.toList[j]? with
     | none=>grind
     | some p=>
      rw [V,c5] at f;dsimp only at f;cases E:has dE i with
      | true=>grind
      | false=>
       cases N:has dE j with
       | true=>grind
       | false=>
        rw [E,N] at f;simp only [cond_false] at f;have E:=yS E;have N:=yS N;obtain ⟨c8,f⟩:=fL f;obtain ⟨d2,f⟩:=fL f;obtain ⟨b3,f⟩:=fL f;obtain ⟨b7,f⟩:=fL f;obtain ⟨d1,f⟩:=fL f;obtain ⟨c0,c1⟩:=fL f;refine J1 (mok:=mok) ok rfl hnd F (dE:=dE) (lE:=lE) (λk m O e c3=> ?_) ?_ fuel pre done l g last v s a h w b b5 B hv t
        ·subst c3;by_cases b0:k=e
         ·subst b0;exact absurd ((rX _ _).1 (fL b3).1) O
         ·exact yB (DM (fL b3).2 k m O b0)
        ·clear b hv t;have b9:i<c.toList.length:=(List.getElem?_eq_some_iff.1 V).1;intro fuel
         induction fuel with
         | zero=>intro l g v s a h w b hv t;exact absurd (b.jL i (yo b.CA (λx r=>b.sm x (b.jL x r)) (by omega) b9)) E
         | succ fuel Y=>
          intro l g v s a h w b hv t;have s1:=Lw b N c0;have s2:=Lw b E c1;have kx:=c9 (fp c.toList j i).toArray dE lE (by simpa [Cb] using hnd) (by simpa [Cb] using F) c6 (M hdn) (by simpa [Cb] using hQ) (fuel+1) l g v s a h w s1 hv.1 (by simpa [uB] using t);have ky:=d0 (fp c.toList i j).toArray dE lE (by simpa [Cb] using hnd) (by simpa [Cb] using F) c7 (M hdn) (by simpa [Cb] using hQ) (fuel+1) l g v s a h w s2 hv.2 (by simpa [uB] using t);have b6:∀ {k:Nat},k∈Region.ready .any c g->(g.setIfInBounds k true).getD k false=true:=λ{k} m=>by
           have h0:=(mem_ready.1 m).1;have F:k<g.size:=by grind
           simp [F]
          refine ⟨λhr=> ?_,λk m=> ?_⟩
          ·exfalso;by_cases r:∃j∈dE,j∉l
           ·obtain ⟨q,h1,z,T⟩:=xW b.sN r;have L:=List.getElem?_eq_getElem (b.sm q h1);have:q∈Region.ready .any c g:=(yU rfl b).2 ⟨z,_,L,T _ L⟩;grind
           ·have:i∈Region.ready .any c g:=(yU rfl b).2 ⟨λe=>E (b.jL i e),o,V,λk m=>Classical.byContradiction λe=>r ⟨k,GC c8 k m,e⟩⟩;grind
          ·obtain ⟨h1,q,W,z⟩:=(yU rfl b).1 m;by_cases a9:k∈dE
           ·exact Fj ok rfl hnd b W a9 h1 z _ Q λJ D G X=>Y (k::l) _ J s D h G X hv (by grind)
           ·by_cases b1:k=i
            ·subst b1;exact wpOp_mono (λa w h=>Io rfl _ _ a w (b6 m) h) (Fl rfl (kx.2 k ((Nf rfl).2 m (.inl I))))
            ·by_cases b2:k=j
             ·subst b2;exact wpOp_mono (λa w h=>Io rfl _ _ a w (b6 m) h) (Fl rfl (ky.2 k ((Nf rfl).2 m (.inl λe=>I e.symm))))
             ·exfalso;have c2:=(List.getElem?_eq_some_iff.1 W).1;have b8:=yB (DM b7 k c2 a9 b1) (· ∈l) s1.qU λo' c4=>by rw [Lv b2,W] at c4;grind
              exact E (b.jL i b8)
 | _=>intro c done last _ _ hp;cases hp
theorem YY {C:Ctx} (ok:C.tb.Ok C.P) {b:Array Oper} {mok:List Nat} {n:Nat} {A:bw} {m:Nat->Nat} {s:St} {a:Act} {h:Hp} {w:World} {K:St->Hp->Prop} {Q:Exit->Act->World->Prop} {id:Nat}
  (q:nodup (cD b.toList)=true) (hp:oa C.tb C.aV A b.toList [] none=true) (F:∀d∈cD b.toList,d<n) (z:Rel n m s a h w) (hv:vO C mok K A b.toList (s.lI (lq C.aV b.toList)) h)
  (D:∀g f p c j,K g f->Rel n p g.clean c f j->gX (cD b.toList) mok (de s) m a h w (de g) p c f j->Q .normal c j):(Code.region id b true).wp C.P Q a w:=by
 have G:=yv q;refine wp_region_any ok.mixed ?_;have B:Step h h w {w with drawn:=w.drawn+1}:=⟨z.sub,Nat.le_refl _,λ_ _ e=>⟨rfl,e⟩,rfl,rfl,rfl⟩;have I:=(z.step B).start (lq C.aV b.toList);have x:∀k,qL C b.toList [] k↔k∈lq C.aV b.toList:=λk=>by rw [MZ];exact ⟨λ⟨i,o,_,r,u⟩=>⟨i,o,r,u⟩,λ⟨i,o,r,u⟩=>⟨i,o,by simp,r,u⟩⟩
 have v:∀k,iq C b.toList [] [] k↔k∉lq C.aV b.toList:=λk=>by rw [<-x];exact ⟨λe=>e.2,λe=>⟨λi o q=>absurd q List.not_mem_nil,e⟩⟩
 refine V5 (mok:=mok) (n:=n) (lv0:=de s) (β0:=m) (a0:=a) (h0:=h) (w0:=w) (K:=K) ok A b [] none G F hp .nil (λg f p c j E H J=>D g f p c j E H.clean J) b.size [] _ m (s.lI (lq C.aV b.toList)) a h _
  ⟨by simp,λi=> ?_,.nil,λi e=>absurd e List.not_mem_nil,λi e=>absurd e List.not_mem_nil,λi o _ e=>absurd e List.not_mem_nil,λi o _ e=>absurd e List.not_mem_nil,trivial,?_,λi o e=>absurd e List.not_mem_nil,?_⟩ hv (by simp)
 ·by_cases y:i<b.size
  ·simp [y]
  ·simp [y]
 ·exact I.congr (λt=>⟨λ_=>trivial,λ_ i o e=>absurd e List.not_mem_nil⟩) v (λ_ e=>e.elim) (λk e=>(x k).1 e)
 ·exact (gX.step (lv:=de s) B).mono (λ_ e=>e) (λ_ e=>e) (λ_ e=>e) (λk e=>Ih (l:=lq C.aV b.toList) ⟨e.1,(v k).1 e.2⟩)
def pB :Ex->Exit
 | .gL=>.normal
 | .ret=>.ret
 | .ext i=>.exit i
 | .kI i=>.goto i
theorem J4 {p:Nat->Prop}:(∃n,p n)->∃n,p n/\∀m,p m->n<=m:=by
 rintro ⟨n,a⟩
 induction n using Nat.strongRecOn with
 | _ n b=>grind
theorem ad5 {P:Program} {c:Code} {Q:Exit->Act->World->Prop} {a:Act} {w:World} (J:Nat->Act->World->Prop) (g:∃n,J n a w)
  (round:∀n a w,J n a w->c.wp P (Exit.then (λd f=>∃m,m<n/\J m d f) Q) a w):(Code.loop c).wp P Q a w:=by
 classical
 let b:Act->World->Nat:=λa w=>if h:∃n,J n a w then Classical.choose (J4 h) else 0
 have j:∀a w,(h:∃n,J n a w)->J (b a w) a w/\∀m,J m a w->b a w<=m:=λa w h=>by have:=Classical.choose_spec (J4 h);simp only [b,dif_pos h];exact this
 refine wp_loop (λa w=>∃n,J n a w) b g λa w i=> ?_;refine wp_mono (round (b a w) a w (j a w i).1) λe d f k=> ?_;grind
section
variable {n:Nat} {β:Nat->Nat} {s:St} {a:Act} {h:Hp} {w:World}
structure F9 (s s' s2:St) (a':Act) (n:Nat) (l mm:List Nat):Prop where
 f:∀t v c,s2.f t=some (v,c)->c=[]/\((s.f t=some (v,[])/\t∉l/\∀k o,(v=.box k o\/v=.eM k o)->k∉l)\/(∃x,v=.v x/\a'.eval (.tmp t)=x/\t<n))
 m:∀k cs,s2.m k=some cs->(s.m k=some cs/\k∉mm)\/s'.m k=some cs
theorem aeq {l B:List Nat} {u:Nat->Nat} {G s2:St} {z:Act} {A:Hp} {C:World} (r:Rel n β s a h w) (b:gX l B (de s) β a h w (de G) u z A C) (F:Rel n u G z A C) (j:F9 s G s2 z n l B):
  Rel n u s2 z A C/\gX l B (de s) β a h w (de s2) u z A C:=by
 have E:∀k g,s.m k=some g->k∉B->u k=β k/\β k<w.heap.size/\A (β k)=none/\∃H,C.heap[β k]? =some (.cells g.toArray H (0,0)):=by intro k g e O;obtain ⟨h1,H,i⟩:=r.box k g e trivial;have P:∀d∈B,de s d->β d≠β k:=λd R S y=>O (by rw [r.inj k d (by simp [e]) S.1 trivial trivial y.symm];exact R);refine ⟨b.beta k (.inr O),hO i,b.xa _ (hO i) h1 P,H,?_⟩;rw [b.cW _ (hO i) h1 P];exact i
 have Q:∀k,G.m k≠none->(s.m k≠none/\u k=β k)\/w.heap.size<=u k:=λk e=>(b.fresh k ⟨e,trivial⟩).imp (λe=>⟨e.1.1,e.2⟩) id;refine ⟨⟨F.sz,F.sub,λt v c e=> ?_,λt v c e p hp=> ?_,λt v c e _ _=> ?_,λt v c e _ N=> ?_,λk g e _=> ?_,λk d e y _ _ q=> ?_,λ_ e=>e.elim,λ_ e=>e.elim⟩,?_⟩
 ·obtain ⟨_,h1 | ⟨x,_,_,h1⟩⟩:=j.f t v c e
  ·exact r.lt t v [] h1.1
  ·exact h1
 ·rw [(j.f t v c e).1] at hp;cases hp
 ·refine ⟨?_,λ_ _ _=>trivial⟩;obtain ⟨_,⟨h1,i,M⟩ | ⟨x,rfl,h1,_⟩⟩:=j.f t v c e
  ·rw [b.tmp t i,(r.cur t v [] h1 trivial (bS _)).1];cases v with
   | v x=>rfl
   | box k o=>simp only [LVal,b.beta k (.inl (M k o (.inl rfl)))]
   | eM k o=>simp only [LVal,b.beta k (.inl (M k o (.inr rfl)))]
  ·exact h1
 ·rw [(j.f t v c e).1] at N;exact absurd (bS _) N
 ·rcases j.m k g e with ⟨h1,i⟩ | h1
  ·grind
  ·exact F.box k g h1 trivial
 ·obtain ⟨g,e⟩:=Option.ne_none_iff_exists'.1 e;obtain ⟨D,y⟩:=Option.ne_none_iff_exists'.1 y;rcases j.m k g e with ⟨h1,i⟩ | h1
  ·obtain ⟨L,T,_⟩:=E k g h1 i;rcases j.m d D y with ⟨h1',K⟩ | h1'
   ·obtain ⟨I,_⟩:=E d D h1' K;rw [L,I] at q;exact r.inj k d (by simp [h1]) (by simp [h1']) trivial trivial q
   ·rcases Q d (by simp [h1']) with ⟨e3,J⟩ | e3
    ·rw [L,J] at q;exact r.inj k d (by simp [h1]) e3 trivial trivial q
    omega
  ·rcases j.m d D y with ⟨h1',K⟩ | h1'
   ·obtain ⟨I,U,_⟩:=E d D h1' K;rcases Q k (by simp [h1]) with ⟨e3,J⟩ | e3
    ·rw [I,J] at q;exact r.inj k d e3 (by simp [h1']) trivial trivial q
    omega
   ·exact F.inj k d (by simp [h1]) (by simp [h1']) trivial trivial q
 ·refine ⟨b.tmp,b.beta,b.size,b.xa,b.cW,λk e=> ?_,b.os,b.tape,b.output,b.defers⟩;obtain ⟨g,e⟩:=Option.ne_none_iff_exists'.1 e.1;rcases j.m k g e with ⟨h1,i⟩ | h1
  ·exact .inl ⟨⟨by simp [h1],trivial⟩,(E k g h1 i).1⟩
  ·exact b.fresh k ⟨by simp [h1],trivial⟩
def shO :Option Ty->Shape
 | some e=>e.sh
 | none=>uf
theorem Ly (tb:Tb) (t:Nat):eg tb t=shO (tb.ty t):=by unfold eg shO;grind
theorem adk {P:Program} {tb:Tb} (ok:tb.Ok P) {t:Nat} (c:yl tb t=false):∀(x:(eg tb t).T) (b:Array Value),(eg tb t).enc x≠ .agg b:=by
 rw [Ly];unfold yl at c;cases d:tb.ty t with
 | none=>intro x b e;cases e
 | some e=>rw [d] at c;intro x b;exact ((ok.leaf t e d c).2 x).2 b
theorem zy {tb:Tb} {t:Nat} {v:Value} {K:(eg tb t).T->Prop} (h:ur tb t v K):∃x,(eg tb t).enc x=v/\K x:=by
 unfold ur at h;cases b:zP tb t with
 | true=>rw [b] at h;exact h
 | false=>
  rw [b] at h;simp only [cond_false] at h;split at h
  ·rename_i x c;exact ⟨x,(eg tb t).ok v x c,h⟩
  ·exact h.elim
theorem J5 {P:Program} {tb:Tb} (ok:tb.Ok P) {t:Nat} {c:List Value} {v:Value} {x:(eg tb t).T} (b:zr tb t c=some v) (hv:(eg tb t).enc x=v):bu ((eg tb t).enc x)=c:=by
 rw [hv];unfold zr at b;cases d:yl tb t with
 | true=>rw [d] at b;cases b;rfl
 | false=>
  rw [d] at b;simp only [cond_false] at b;split at b
  ·cases b;have f:∀c,v≠ .agg c:=λc e=>adk ok d x c (hv.trans e);cases v<;>first | rfl | grind
  ·cases b
theorem M4 {P:Program} {tb:Tb} (ok:tb.Ok P) {l B:List Nat} {G:Nat->Nat} {o s2:St} {p:Act} {D:Hp} {F:World} (z:Rel n G o p D F) {j:J} {K:(eg tb j.t).T->Prop} (b:ym tb o j K)
  (g:F9 s o s2 p n l B):∃x,K x/\F9 s o (wc tb j x s2) p n l B:=by
 unfold ym at b;cases d:j.O3 with
 | true=>
  rw [d] at b;simp only [cond_true] at b;split at b
  ·rename_i r H;split at b
   ·rename_i v hv
    ·obtain ⟨x,q,b⟩:=zy b;refine ⟨x,b,?_⟩;have E:=J5 ok hv q;unfold wc;rw [d];simp only [cond_true,E];refine ⟨g.f,λk C e=> ?_⟩;by_cases y:k=j.i
     ·subst y;rw [yr] at e;grind
     ·rw [wT _ _ y] at e;exact g.m k C e
   ·exact b.elim
  ·exact b.elim
 | false=>
  rw [d] at b;simp only [cond_false] at b;split at b
  ·rename_i v hv
   ·obtain ⟨x,q,b⟩:=zy b;refine ⟨x,b,?_⟩;unfold wc;rw [d];simp only [cond_false];rw [q];refine ⟨λt u c e=> ?_,λk r e=>g.m k r (by rwa [nf] at e)⟩;by_cases A:t=j.i
    ·subst A;rw [FU] at e;cases e;exact ⟨rfl,.inr ⟨v,rfl,(z.cur j.i _ [] hv trivial (bS _)).1,z.lt _ _ _ hv⟩⟩
    ·rw [s9 _ _ _ A] at e;exact g.f t u c e
  ·exact b.elim
theorem J6 {P:Program} {tb:Tb} (ok:tb.Ok P) {l e:List Nat} {q:Nat->Nat} {s':St} {a':Act} {f:Hp} {p:World} (d:Rel n q s' a' f p):∀ {js:List J} {s2:St} {K:pn tb js->Prop},nV tb js s' K->
  F9 s s' s2 a' n l e->∃x,K x/\F9 s s' (ot tb js x s2) a' n l e
 | [],s2,K,b,c=>⟨(),b,c⟩
 | [j],s2,K,b,c=>M4 ok d b c
 | j::o::js,s2,K,b,c=>by obtain ⟨x,k,g⟩:=M4 ok d b c;obtain ⟨y,m,i⟩:=J6 ok d (js:=o::js) k g;exact ⟨(x,y),m,i⟩
theorem V6 (m:Rel n β s a h w) {l f:List Nat} {s':St} {a':Act}:F9 s s' (s.forget l f) a' n l f:=by
 refine ⟨λt v c e=> ?_,λk o e=> ?_⟩
 ·simp only [St.forget] at e;cases d:has l t with
  | true=>simp [d] at e
  | false=>
   simp only [d,cond_false] at e;obtain ⟨g,i⟩:=na e;have j:c=[]:=by
    cases c with
    | nil=>rfl
    | cons p c=>exact (m.chain t v _ g p (List.mem_cons_self ..)).elim
   subst j;exact ⟨rfl,.inl ⟨g,yS d,i⟩⟩
 ·simp only [St.forget] at e;cases b:has f k with
  | true=>simp [b] at e
  | false=>simp only [b,cond_false] at e;exact .inl ⟨e,yS b⟩
theorem wJ {P:Program} {tb:Tb} (ok:tb.Ok P) {l mm:List Nat} {e:Nat->Nat} {s':St} {a':Act} {b:Hp} {d:World} (f:Rel n β s a h w) (k:gX l mm (de s) β a h w (de s') e a' b d) (g:Rel n e s' a' b d)
  {c:List J} {K:pn tb c->Prop} (i:nV tb c s' K):
  ∃x,K x/\Rel n e (ot tb c x (s.forget l mm)) a' b d/\gX l mm (de s) β a h w (de (ot tb c x (s.forget l mm))) e a' b d:=by
 obtain ⟨x,p,j⟩:=J6 ok g i (V6 (s':=s') (a':=a') f);obtain ⟨m,o⟩:=aeq f k g j;grind
end
theorem adl {n:Nat} {Q:Nat->Nat} {s:St} {a:Act} {h:Hp} {w:World} {l L:List Nat} {r:Nat->Nat} {u:St} {C:Act} {z:Hp} {E:World} {k:Nat} {K:St->Hp->Prop} (hk:k∈L) (g:gX l L (de s) Q a h w (de u) r C z E) (d:Rel n r u C z E) (hp:CL k u z K):
  ∃s2 q,K s2 q/\Rel n r s2 C q E/\gX l L (de s) Q a h w (de s2) r C q E:=by
 unfold CL at hp;split at hp
 ·rename_i k' off F M I;obtain ⟨A,O⟩:=ko hp;obtain ⟨q,a8⟩:=ko O;clear hp O;have A:=Nat.eq_of_beq_eq_true A;have q:=Nat.eq_of_beq_eq_true q;subst A q;obtain ⟨X,G,hw⟩:=d.box k F I trivial;have J:∀x,(z.set (r k) (.cells F.toArray G (0,0))) x=if x=r k then some (.cells F.toArray G (0,0)) else z x:=λx=>rfl
  have W:∀i y,cond (Nat.beq i k) none (u.m i)=some y->i≠k/\u.m i=some y:=λi y e=>by grind
  have B:∀t v c,cond (Nat.beq t k) (some (LV.v (.pointer (some ⟨r k,0,none⟩)),([]:ba))) (u.f t)=some (v,c)->(t=k/\v=LV.v (.pointer (some ⟨r k,0,none⟩))/\c=[])\/u.f t=some (v,c):=λt v c e=>by
   by_cases H:t=k
   ·grind
   ·rw [pK H] at e;exact .inr e
  refine ⟨_,_,a8 (r k) G X,⟨d.sz,λb o e=> ?_,λt v c e=> ?_,λt v c e p P=> ?_,λt v c e _ N=> ?_,λt v c e _ N=> ?_,λi y e _=> ?_,λi j e D _ _ U=> ?_,λ_ e=>e.elim,λ_ e=>e.elim⟩,?_⟩
  ·rw [J] at e;split at e
   ·grind
   ·exact d.sub b o e
  ·rcases B t v c e with ⟨rfl,_,_⟩ | e
   ·exact d.lt t _ _ M
   ·exact d.lt t v c e
  ·rcases B t v c e with ⟨rfl,_,rfl⟩ | e
   ·cases P
   ·exact d.chain t v c e p P
  ·have V:holds u c:=by
    have:c=[]:=by
     rcases B t v c e with ⟨_,_,h⟩ | e
     ·exact h
     ·cases c with
      | nil=>rfl
      | cons p c=>exact (d.chain t v _ e p (List.mem_cons_self ..)).elim
    subst this;exact bS _
   rcases B t v c e with ⟨rfl,rfl,rfl⟩ | e
   ·refine ⟨?_,λ_ _ _=>trivial⟩;exact (d.cur t _ _ M trivial (bS _)).1
   ·exact ⟨(d.cur t v c e trivial V).1,λ_ _ _=>trivial⟩
  ·have:c=[]:=by
    rcases B t v c e with ⟨_,_,h⟩ | e
    ·exact h
    ·cases c with
     | nil=>rfl
     | cons p c=>exact (d.chain t v _ e p (List.mem_cons_self ..)).elim
   subst this;exact absurd (bS _) N
  ·obtain ⟨A,q⟩:=W i y e;obtain ⟨S,R,T⟩:=d.box i y q trivial;refine ⟨?_,R,T⟩;rw [J,if_neg]
   ·exact S
   ·intro D;exact A (d.inj i k (by simp [q]) (by simp [I]) trivial trivial D)
  ·obtain ⟨ci,e⟩:=Option.ne_none_iff_exists'.1 e;obtain ⟨cj,D⟩:=Option.ne_none_iff_exists'.1 D;exact d.inj i j (by grind) (by grind) trivial trivial U
  ·refine ⟨g.tmp,g.beta,g.size,λb hb Y Z=> ?_,g.cW,λi H=> ?_,g.os,g.tape,g.output,g.defers⟩
   ·rw [J,if_neg]
    ·exact g.xa b hb Y Z
    ·rintro rfl;rcases g.fresh k ⟨by simp [I],trivial⟩ with ⟨e1,e2⟩ | e1
     ·grind
     ·omega
   ·obtain ⟨ci,e⟩:=Option.ne_none_iff_exists'.1 H.1;exact g.fresh i ⟨by grind,trivial⟩
 ·exact hp.elim
theorem je {x y:List Nat} {d:Nat}:d∈app x y↔d∈x\/d∈y:=by rw [sb,List.mem_append]
theorem pY {a:Type} {c:Bool} {x:Option a} {y:a} (e:cond c x none=some y):c=true/\x=some y:=by grind
theorem M6 {l:Nat}:∀ {c:Code},lJ c l=true->findLabel c l=none:=by
 intro c
 induction c with
 | seq a b g h=>
  intro e;simp only [lJ] at e;cases d:lJ a l with
  | false=>grind
  | true=>rw [d] at e;simp only [findLabel,g d];exact h e
 | label i=>
  intro e;simp only [lJ] at e;by_cases f:i=l
  ·subst f;simp at e
  ·simp [findLabel,f]
 | _=>intro _;rfl
theorem M7 {x y:Code} {l:Nat} (b:∀a,x≠ .label a):qN (.seq x y) l=cond (lJ x l) (qN y l) none:=by cases x<;>first | rfl | grind
theorem abd {C:Ctx} {x y:Code} {l:Nat} {A:bw} {a:List Nat} {s:St} {E:Env} {h:Hp} (c:∀d,x≠ .label d):
  liftM C (.seq x y) (.fr l) A a s E h=liftM C x .full A.fst a s (E.gL λe b=>liftM C y (.fr l) A.snd a e E b) h:=by
 cases x<;>first | rfl | exact absurd rfl (c _)
theorem abg {C:Ctx} {x y:Code} {l:Nat} {A:bw} {b:List Nat} {s:St} {E:Env} {h:Hp} (f:∀g,x≠ .label g):
  liftM C (.seq x y) (.pr l) A b s E h=match (generalizing:=false) A with
   | .gj _ d e z _=>cond (kN e b) (liftM C x .full .tt b s (E.mD.gL λc a=>
     nI (λ(R:pn C.tb d->Hp->Prop)=>liftM C y (.fr l) z e c (E.NC l λc a=>nV C.tb d c λx=>R x a) a)
      (λx a=>liftM C y (.rs l) A.snd b (ot C.tb d x (c.forget (fa y) e)) E.mD a)) h) False
   | _=>liftM C x .full A.fst b s (E.mD.gL λc a=>liftM C y (.pr l) A.snd b c E a) h:=by
 cases x<;>first | rfl | exact absurd rfl (f _)
theorem Jw {l:Nat} {Q:Exit->Act->World->Prop} {J:Act->World->Prop} {e:Exit} {a:Act} {w:World} (b:Exit.noGoto Q e a w):Exit.jump l J Q e a w:=by cases e<;>first | exact b | exact b.elim
theorem abj {C:Ctx} {x y:Code} {l:Nat} {A:bw} {a:List Nat} {s:St} {E:Env} {h:Hp} (c:∀b,x≠ .label b):
  liftM C (.seq x y) (.rs l) A a s E h=liftM C y (.rs l) A a s E h:=by
 cases x<;>first | rfl | grind
theorem SD {l:Nat} {r:Code}:∀ {c:Code},qN c l=some r->findLabel c l=some (.seq .skip r):=by
 intro c
 induction c with
 | seq x y g f=>
  intro e;by_cases d:∃a,x=.label a
  ·obtain ⟨a,rfl⟩:=d;obtain ⟨b,e⟩:=pY e;obtain rfl:y=r:=Option.some.inj e;obtain rfl:=Nat.eq_of_beq_eq_true b;simp [findLabel]
  ·rw [M7 (λa e=>d ⟨a,e⟩)] at e;obtain ⟨b,e⟩:=pY e;simp only [findLabel,M6 b];exact f e
 | _=>intro e;simp [qN] at e
theorem LS {x y:Code} {l:Nat} (b:∀a,x≠ .label a):nC (.seq x y) l=cond (lJ x l) (nC y l) none:=by cases x<;>first | rfl | grind
theorem abm {C:Ctx} {x y:Code} {l:Nat} {A:bw} {a:List Nat} {s:St} {E:Env} {h:Hp} (c:∀b,x≠ .label b):
  liftM C (.seq x y) (.rz l) A a s E h=liftM C y (.rz l) A a s E h:=by
 cases x<;>first | rfl | grind
theorem QP {l:Nat} {r:Code}:∀ {c:Code},nC c l=some r->findLabel c l=some (.seq .skip r):=by
 intro c
 induction c with
 | seq x y i f=>
  intro e;by_cases d:∃a,x=.label a
  ·obtain ⟨a,rfl⟩:=d;by_cases b:a=l
   ·subst b;simp only [nC,Nat.beq_refl,cond_true] at e;obtain rfl:y=r:=Option.some.inj e;simp [findLabel]
   ·simp only [nC,pK b,cond_false] at e;have hb:¬((a==l)=true):=λh=>b (by simpa using h);simp only [findLabel,if_neg hb];exact f e
  ·rw [LS (λa e=>d ⟨a,e⟩)] at e;obtain ⟨g,e⟩:=pY e;simp only [findLabel,M6 g];exact f e
 | _=>intro e;simp [nC] at e
def va (P:Program) (x:Code) (Q:Exit->Act->World->Prop) (c:Code) (a:Act) (w:World):Prop:=
 ∀b k f,∃e d g,Q e d g/\Arrives P (lone (b.at a (.code c:: .inScope x::k)) f w) b k f e d g
def ve (P:Program) (x:Code) (Q:Exit->Act->World->Prop):Exit->Act->World->Prop
 | .goto l,a,w=>∃r,findLabel x l=some r/\va P x Q r a w
 | e,a,w=>Q e a w
theorem J7 {P:Program} {x c:Code} {Q:Exit->Act->World->Prop} {a:Act} {w:World} (h:c.wp P (ve P x Q) a w):va P x Q c a w:=by
 intro b k j;obtain ⟨e,g,i,f,d⟩:=h b (.inScope x::k) j;cases e with
 | normal=>exact ⟨.normal,g,i,f,Steps.trans d (.one step_inScope)⟩
 | exit id=>exact ⟨.exit id,g,i,f,λv s=>d v (by simp [exitTo,s])⟩
 | goto l=>
  obtain ⟨r,p,u⟩:=f;have q:gotoIn l (.inScope x::k)=some (.code r:: .inScope x::k):=by simp [gotoIn,p]
  obtain ⟨n,m,y,t,o⟩:=u b k j;exact ⟨n,m,y,t,.of_steps (d _ q) o⟩
 | ret=>exact ⟨_,g,i,f,d⟩
 | panic ch=>exact ⟨_,g,i,f,d⟩
 | outgrown=>exact ⟨_,g,i,f,d⟩
theorem QR {P:Program} {x:Code} {Q:Exit->Act->World->Prop} {a:Act} {w:World} (h:va P x Q x a w):(Code.scope x).wp P Q a w:=by intro b k d;obtain ⟨e,c,i,g,f⟩:=h b k d;exact ⟨e,c,i,g,.of_steps (.one step_scope) f⟩
theorem SG {C:Ctx} (ok:C.tb.Ok C.P) {n:Nat}:∀(c:Code),
  (∀(A:bw) (mok:List Nat) (s:St) (E:Env) (h:Hp),(∀d∈fa c,d<n)->liftM C c .full A mok s E h->∀(G:Nat->Nat) (a:Act) (w:World),Rel n G s a h w->
   ∀Q:Exit->Act->World->Prop,(∀e p j q f o,E e p j->Rel n q p f j o->gX (fa c) mok (de s) G a h w (de p) q f j o->Q (pB e) f o)->c.wp C.P Q a w)/\
  (∀l r,qN c l=some r->
   (∀(A:bw) (mok:List Nat) (s:St) (E:Env) (h:Hp),(∀d∈fa c,d<n)->liftM C c (.fr l) A mok s E h->∀(G:Nat->Nat) (a:Act) (w:World),Rel n G s a h w->
    ∀Q:Exit->Act->World->Prop,(∀p j q f o,E .gL p j->Rel n q p f j o->gX (fa c) mok (de s) G a h w (de p) q f j o->r.wp C.P Q f o)->
    (∀e p j q f o,e≠ .gL->E e p j->Rel n q p f j o->gX (fa c) mok (de s) G a h w (de p) q f j o->Q (pB e) f o)->c.wp C.P Q a w)/\
   (∀(A:bw) (mok:List Nat) (s:St) (E:Env) (h:Hp),(∀d∈fa c,d<n)->liftM C c (.rs l) A mok s E h->∀(G:Nat->Nat) (a:Act) (w:World),Rel n G s a h w->
    ∀Q:Exit->Act->World->Prop,(∀e p j q f o,E e p j->Rel n q p f j o->gX (fa c) mok (de s) G a h w (de p) q f j o->Q (pB e) f o)->r.wp C.P Q a w)/\
   (∀(A:bw) (mok:List Nat) (s:St) (E:Env) (h:Hp),(∀d∈fa c,d<n)->liftM C c (.pr l) A mok s E h->∀(G:Nat->Nat) (a:Act) (w:World),Rel n G s a h w->
    ∀Q:Exit->Act->World->Prop,(∀e p j q f o,(∀i,e≠ .kI i)->E e p j->Rel n q p f j o->gX (fa c) mok (de s) G a h w (de p) q f j o->Q (pB e) f o)->
    c.wp C.P (Exit.jump l (λf o=>r.wp C.P (Exit.noGoto Q) f o) Q) a w))/\
  ∀l r,nC c l=some r->
   ∀(A:bw) (mok:List Nat) (s:St) (E:Env) (h:Hp),(∀d∈fa c,d<n)->liftM C c (.rz l) A mok s E h->∀(G:Nat->Nat) (a:Act) (w:World),Rel n G s a h w->
    ∀Q:Exit->Act->World->Prop,(∀e p j q f o,E e p j->Rel n q p f j o->gX (fa c) mok (de s) G a h w (de p) q f j o->Q (pB e) f o)->r.wp C.P Q a w:=by
 intro c
 induction c with
 | skip=>refine ⟨?_,λl r e=>by simp [qN] at e,λl r e=>by simp [nC] at e⟩;intro A mok s E h _ hv G a w H Q F;exact wp_skip (F .gL s h G a w hv H (gX.refl _ _))
 | ret=>refine ⟨?_,λl r e=>by simp [qN] at e,λl r e=>by simp [nC] at e⟩;intro A mok s E h _ hv G a w H Q F;exact wp_ret (F .ret s h G a w hv H (gX.refl _ _))
 | exit i=>refine ⟨?_,λl r e=>by simp [qN] at e,λl r e=>by simp [nC] at e⟩;intro A mok s E h _ hv G a w H Q F;exact wp_exit (F (.ext i) s h G a w hv H (gX.refl _ _))
 | goto i=>refine ⟨?_,λl r e=>by simp [qN] at e,λl r e=>by simp [nC] at e⟩;intro A mok s E h _ hv G a w H Q F;exact wp_goto (F (.kI i) s h G a w hv H (gX.refl _ _))
 | label i=>refine ⟨?_,λl r e=>by simp [qN] at e,λl r e=>by simp [nC] at e⟩;intro A mok s E h _ hv G a w H Q F;exact wp_label (F .gL s h G a w hv H (gX.refl _ _))
 | region id b8 d2=>
  refine ⟨?_,λl r e=>by simp [qN] at e,λl r e=>by simp [nC] at e⟩;intro A mok s E h J hv G a w H Q F;have e0:∀p:St,∀k,de p.clean k↔de p k:=λp k=>.rfl;cases d2 with
  | true=>simp only [liftM] at hv;obtain ⟨hp,hv⟩:=ko hv;obtain ⟨h1,hp⟩:=fL hp;exact YY ok h1 hp J H hv λp j q f o hk B D=>F .gL p.clean j q f o hk B D
  | false=>
   simp only [liftM] at hv;obtain ⟨hp,hv⟩:=ko hv;unfold Ab at hp;obtain ⟨h1,hp⟩:=fL hp;have d8:=H.start (lq C.aV b8.toList);have d1:∀g:Bool,(g=false->sX b8.toList=true)->(g=true->(cD b8.toList).Nodup/\yz b8.toList 0=true)->(Code.region id b8 false).wp C.P Q a w:=by
    intro g d6 d7;refine wp_region ?_;have:=Ii (n:=n) (mok:=mok) (K:=λp j=>E .gL p.clean j) (Q:=Q) ok g J d6 d7 b8.toList [] G _ a h w rfl (yv h1) hv
     (d8.congr (λ_=>.rfl) (λ_=>.rfl) (λ_ e=>e.elim) (λ_ e=>e)) (λp j q f o hk B D=>F .gL p.clean j q f o hk B.clean
      (D.mono (λ_ e=>e) (λ_ e=>e) (λk e=>Ih e) (λ_ e=>e)))
    rw [List.range_eq_range'];simpa using this
   cases c9:sX b8.toList with
   | true=>exact d1 false (λ_=>c9) (λe=>by cases e)
   | false=>rw [c9] at hp;simp only [cond_false] at hp;obtain ⟨M,h3⟩:=fL hp;exact d1 true (λe=>by cases e) (λ_=>⟨yv M,h3⟩)
 | seq x y b5 V=>
  have S:∀d∈fa x,d∈fa (.seq x y):=λd L=>je.2 (.inl L);have T:∀d∈fa y,d∈fa (.seq x y):=λd L=>je.2 (.inr L);refine ⟨?_,λl r e=> ?_,λl r e=> ?_⟩
  rotate_left
  rotate_left
  ·intro A mok s E h J hv G a w H Q F;have Y:∀d∈fa y,d<n:=λd L=>J d (T d L);by_cases hx:∃l',x=.label l'
   ·obtain ⟨l',rfl⟩:=hx;by_cases hl:l'=l
    ·subst hl;simp only [nC,Nat.beq_refl,cond_true] at e;obtain rfl:y=r:=Option.some.inj e;simp only [liftM,Nat.beq_refl,cond_true] at hv;exact V.1 _ _ _ _ _ Y hv G a w H Q λe p j q f o u B D=>F e p j q f o u B (D.mono T (λ_ e=>e) (λ_ e=>e) (λ_ e=>e))
    ·simp only [nC,pK hl,cond_false] at e;simp only [liftM,pK hl,cond_false] at hv;exact V.2.2 l r e _ mok s E h Y hv G a w H Q λW p j q f o u B D=>F W p j q f o u B (D.mono T (λ_ e=>e) (λ_ e=>e) (λ_ e=>e))
   ·rw [LS (λl' e=>hx ⟨l',e⟩)] at e;obtain ⟨-,e⟩:=pY e;rw [abm (λl' e=>hx ⟨l',e⟩)] at hv;exact V.2.2 l r e _ mok s E h Y hv G a w H Q λW p j q f o u B D=>F W p j q f o u B (D.mono T (λ_ e=>e) (λ_ e=>e) (λ_ e=>e))
  rotate_left
  ·by_cases hx:∃l',x=.label l'
   ·obtain ⟨l',rfl⟩:=hx;obtain ⟨-,e⟩:=pY e;obtain rfl:y=r:=Option.some.inj e;refine ⟨λA mok s E h J hv G a w H Q h1 _=> ?_,λA mok s E h J hv G a w H Q F=> ?_,λA mok s E h J hv=>hv.elim⟩
    ·exact wp_seq (wp_label (h1 s h G a w hv H (gX.refl _ _)))
    ·exact V.1 _ _ _ _ _ (λd L=>J d (T d L)) hv G a w H Q λe p j q f o u B D=>F e p j q f o u B (D.mono T (λ_ e=>e) (λ_ e=>e) (λ_ e=>e))
   ·rw [M7 (λl' e=>hx ⟨l',e⟩)] at e;obtain ⟨-,e⟩:=pY e;refine ⟨λA mok s E h J hv G a w H Q h1 M=> ?_,λA mok s E h J hv G a w H Q F=> ?_,λA mok s E h J hv G a w H Q F=> ?_⟩
    ·rw [abd (λl' e=>hx ⟨l',e⟩)] at hv;refine wp_seq ?_;refine b5.1 _ mok s _ h (λd L=>J d (S d L)) hv G a w H _ λW p j q f o u B D=> ?_;have b1:=D.mono (mm':=mok) S (λ_ e=>e) (λ_ e=>e) (λ_ e=>e);cases W with
     | gL=>
      exact ((V.2.1 l r e).1 _ mok _ E j (λd L=>J d (T d L)) u q f o B Q
       (λs2 M N a2 O a8 b0 b3=>h1 s2 M N a2 O a8 b0 (b1.trans (b3.mono T (λ_ e=>e) (λ_ e=>e) (λ_ e=>e))))
       (λe2 s2 d3 N a2 O c4 a8 b0 b3=>M e2 s2 d3 N a2 O c4 a8 b0 (b1.trans (b3.mono T (λ_ e=>e) (λ_ e=>e) (λ_ e=>e)))))
     | ret=>exact M .ret p j q f o (by simp) u B b1
     | ext i=>exact M (.ext i) p j q f o (by simp) u B b1
     | kI i=>exact M (.kI i) p j q f o (by simp) u B b1
    ·rw [abj (λl' e=>hx ⟨l',e⟩)] at hv;exact (V.2.1 l r e).2.1 _ mok s E h (λd L=>J d (T d L)) hv G a w H Q λW p j q f o u B D=>F W p j q f o u B (D.mono T (λ_ e=>e) (λ_ e=>e) (λ_ e=>e))
    ·rw [abg (λl' e=>hx ⟨l',e⟩)] at hv;have Y:∀d∈fa y,d<n:=λd L=>J d (T d L);refine wp_seq ?_;split at hv
     ·rename_i js mm z _;obtain ⟨b7,hv⟩:=ko hv;have U:=GC b7;refine b5.1 _ mok s _ h (λd L=>J d (S d L)) hv G a w H _ λW s0 h0 b6 a0 w0 u a9 c3=> ?_;have b4:=c3.mono (mm':=mok) S (λ_ e=>e) (λ_ e=>e) (λ_ e=>e);cases W with
      | gL=>
       obtain ⟨R,hA,hB⟩:=u;have c6:∀p j q f o,Rel n q p f j o->gX (fa y) mm (de s0) b6 a0 h0 w0 (de p) q f j o->nV C.tb js p (λz=>R z j)->r.wp C.P (Exit.noGoto Q) f o:=by
        intro p j q f o B D hg;obtain ⟨z,hz,Z,b2⟩:=wJ ok a9 D B hg;refine (V.2.1 l r e).2.1 _ mok _ _ j Y (hB z j hz) q f o Z _ λe s2 M N a2 O u c1 c8=> ?_;have b9:=b4.trans (((b2.mono (l':=fa y) (mm':=mok) (λ_ e=>e) U (λ_ e=>e) (λ_ e=>e)).trans c8).mono T (λ_ e=>e) (λ_ e=>e) (λ_ e=>e));cases e with
        | gL=>exact F .gL s2 M N a2 O (by simp) u c1 b9
        | ret=>exact F .ret s2 M N a2 O (by simp) u c1 b9
        | ext i=>exact F (.ext i) s2 M N a2 O (by simp) u c1 b9
        | kI i=>exact u.elim
       refine (V.2.1 l r e).1 _ mm s0 _ h0 Y hA b6 a0 w0 a9 _ (λp j q f o u B D=> ?_) λe p j q f o c4 u B D=> ?_
       ·exact wp_mono (c6 p j q f o B D u) λ_ _ _=>Jw
       ·have b9:=b4.trans (D.mono (mm':=mok) T U (λ_ e=>e) (λ_ e=>e));cases e with
        | gL=>grind
        | ret=>exact F .ret p j q f o (by simp) u B b9
        | ext i=>exact F (.ext i) p j q f o (by simp) u B b9
        | kI i=>
         by_cases X:i=l
         ·subst X;simp only [Env.NC,Nat.beq_refl,cond_true] at u;exact ⟨rfl,c6 p j q f o B D u⟩
         ·simp only [Env.NC,pK X,cond_false] at u
      | ret=>exact F .ret s0 h0 b6 a0 w0 (by simp) u a9 b4
      | ext i=>exact F (.ext i) s0 h0 b6 a0 w0 (by simp) u a9 b4
      | kI i=>exact u.elim
     ·refine b5.1 _ mok s _ h (λd L=>J d (S d L)) hv G a w H _ λW s0 h0 b6 a0 w0 u a9 c3=> ?_;have b4:=c3.mono (mm':=mok) S (λ_ e=>e) (λ_ e=>e) (λ_ e=>e);cases W with
      | gL=>exact (V.2.1 l r e).2.2 _ mok s0 E h0 Y u b6 a0 w0 a9 Q λW p j q f o c4 u B D=>F W p j q f o c4 u B (b4.trans (D.mono T (λ_ e=>e) (λ_ e=>e) (λ_ e=>e)))
      | ret=>exact F .ret s0 h0 b6 a0 w0 (by simp) u a9 b4
      | ext i=>exact F (.ext i) s0 h0 b6 a0 w0 (by simp) u a9 b4
      | kI i=>exact u.elim
  intro A mok s E h J hv G a w H Q F;have c0:∀d∈fa x,d<n:=λd L=>J d (je.2 (.inl L));have Y:∀d∈fa y,d<n:=λd L=>J d (je.2 (.inr L));refine wp_seq ?_;unfold liftM at hv;split at hv
  ·rename_i js mm _ _;obtain ⟨b7,R,hA,hB⟩:=ko hv;have U:=GC b7;refine b5.1 _ mm s _ h c0 hA G a w H _ λe p j q f o u B D=> ?_;cases e with
   | gL=>obtain ⟨z,hz,Z,b2⟩:=wJ ok H D B u;refine V.1 _ mok _ E j Y (hB z j hz) q f o Z Q λe2 s2 M N a2 O a8 b0 b3=> ?_;exact F e2 s2 M N a2 O a8 b0 ((b2.mono S U (λ_ e=>e) (λ_ e=>e)).trans (b3.mono T (λ_ e=>e) (λ_ e=>e) (λ_ e=>e)))
   | ret=>exact F .ret p j q f o u B (D.mono S U (λ_ e=>e) (λ_ e=>e))
   | ext i=>exact F (.ext i) p j q f o u B (D.mono S U (λ_ e=>e) (λ_ e=>e))
   | kI i=>exact F (.kI i) p j q f o u B (D.mono S U (λ_ e=>e) (λ_ e=>e))
  ·rename_i k _ _;obtain ⟨hk,hv⟩:=ko hv;have hk:=(rX _ _).1 hk;refine b5.1 _ mok s _ h c0 hv G a w H _ λe p j q f o u B D=> ?_;cases e with
   | gL=>obtain ⟨s1,h1,u,c7,b1⟩:=adl (K:=λs2 M=>liftM C y .full _ mok s2 E M) hk D B u;refine V.1 _ mok _ E h1 Y u q f o c7 Q λe2 s2 M N a2 O a8 b0 b3=> ?_;exact F e2 s2 M N a2 O a8 b0 ((b1.mono S (λ_ e=>e) (λ_ e=>e) (λ_ e=>e)).trans (b3.mono T (λ_ e=>e) (λ_ e=>e) (λ_ e=>e)))
   | ret=>exact F .ret p j q f o u B (D.mono S (λ_ e=>e) (λ_ e=>e) (λ_ e=>e))
   | ext i=>exact F (.ext i) p j q f o u B (D.mono S (λ_ e=>e) (λ_ e=>e) (λ_ e=>e))
   | kI i=>exact F (.kI i) p j q f o u B (D.mono S (λ_ e=>e) (λ_ e=>e) (λ_ e=>e))
  ·refine b5.1 _ mok s _ h c0 hv G a w H _ λe p j q f o u B D=> ?_;cases e with
   | gL=>refine V.1 _ mok _ E j Y u q f o B Q λe2 s2 M N a2 O a8 b0 b3=> ?_;exact F e2 s2 M N a2 O a8 b0 ((D.mono S (λ_ e=>e) (λ_ e=>e) (λ_ e=>e)).trans (b3.mono T (λ_ e=>e) (λ_ e=>e) (λ_ e=>e)))
   | ret=>exact F .ret p j q f o u B (D.mono S (λ_ e=>e) (λ_ e=>e) (λ_ e=>e))
   | ext i=>exact F (.ext i) p j q f o u B (D.mono S (λ_ e=>e) (λ_ e=>e) (λ_ e=>e))
   | kI i=>exact F (.kI i) p j q f o u B (D.mono S (λ_ e=>e) (λ_ e=>e) (λ_ e=>e))
 | cond c x y b5 V=>
  refine ⟨?_,λl r e=>by simp [qN] at e,λl r e=>by simp [nC] at e⟩;intro A mok s E h J hv G a w H Q F;have c0:∀d∈fa x,d<n:=λd L=>J d (je.2 (.inl L));have Y:∀d∈fa y,d<n:=λd L=>J d (je.2 (.inr L));simp only [liftM] at hv;obtain ⟨v,d5,hv⟩:=kF hv;split at hv
  ·rename_i t;have hc:=bR (DJ H (x:=c) λ_ _=>trivial) (bS s) d5;refine wp_cond_split (t:=t) hc (λht=> ?_) (λht=> ?_)
   ·rw [if_pos ht] at hv;exact b5.1 _ mok s E h c0 hv G a w H Q λe p j q f o u B D=>F e p j q f o u B (D.mono (λd L=>je.2 (.inl L)) (λ_ e=>e) (λ_ e=>e) (λ_ e=>e))
   ·rw [if_neg (by rw [ht];simp)] at hv;exact V.1 _ mok s E h Y hv G a w H Q λe p j q f o u B D=>F e p j q f o u B (D.mono (λd L=>je.2 (.inr L)) (λ_ e=>e) (λ_ e=>e) (λ_ e=>e))
  ·exact hv.elim
 | block id x ih=>
  refine ⟨?_,λl r e=>by simp [qN] at e,λl r e=>by simp [nC] at e⟩;intro A mok s E h J hv G a w H Q F;refine wp_block ?_;unfold liftM at hv;split at hv
  ·rename_i js mm _;obtain ⟨b7,R,hA,hB⟩:=ko hv;have U:=GC b7;refine ih.1 _ mm s _ h J hA G a w H _ λe p j q f o u B D=> ?_;have c6:nV C.tb js p (λx=>R x j)->Q .normal f o:=λhg=>by obtain ⟨z,hz,Z,b2⟩:=wJ ok H D B hg;exact F .gL _ j q f o (hB z j hz) Z (b2.mono (λ_ e=>e) U (λ_ e=>e) (λ_ e=>e))
   cases e with
   | gL=>exact c6 u
   | ret=>exact F .ret p j q f o u B (D.mono (λ_ e=>e) U (λ_ e=>e) (λ_ e=>e))
   | ext i=>
    simp only [pB,Exit.inBlock];by_cases X:i=id
    ·subst X;simp only [Env.zG,Nat.beq_refl,cond_true] at u;grind
    ·rw [if_neg X];simp only [Env.zG,pK X,cond_false] at u;exact F (.ext i) p j q f o u B (D.mono (λ_ e=>e) U (λ_ e=>e) (λ_ e=>e))
   | kI i=>exact F (.kI i) p j q f o u B (D.mono (λ_ e=>e) U (λ_ e=>e) (λ_ e=>e))
  ·refine ih.1 _ mok s _ h J hv G a w H _ λe p j q f o u B D=> ?_;cases e with
   | gL=>exact F .gL p j q f o u B D
   | ret=>exact F .ret p j q f o u B D
   | ext i=>
    simp only [pB,Exit.inBlock];by_cases X:i=id
    ·subst X;simp only [Env.zG,Nat.beq_refl,cond_true] at u;rw [if_pos rfl];exact F .gL p j q f o u B D
    ·rw [if_neg X];simp only [Env.zG,pK X,cond_false] at u;exact F (.ext i) p j q f o u B D
   | kI i=>exact F (.kI i) p j q f o u B D
 | scope x ih=>
  refine ⟨?_,λl r e=>by simp [qN] at e,λl r e=>by simp [nC] at e⟩;intro A mok s E h J hv G a w H Q F;unfold liftM at hv;split at hv
  ·rename_i l _;split at hv
   ·rename_i r c2;refine wp_scope_jumps l (λf o=>r.wp C.P (Exit.noGoto Q) f o) (λ_ _=>0) (SD c2) ?_ λf o hJ=>wp_seq (wp_skip (wp_mono hJ λ_ _ _=>Jw));exact (ih.2.1 l r c2).2.2 _ mok s E h J hv G a w H Q λe p j q f o _ u B D=>F e p j q f o u B D
   ·exact hv.elim
  ·rename_i l0 a0 x0;refine QR (J7 ?_);have chain:∀(A:bw) (E':Env),(∀e p j q f o,E' e p j->Rel n q p f j o->gX (fa x) mok (de s) G a h w (de p) q f j o->ve C.P x Q (pB e) f o)->
     ∀e p j q f o,vy (λl f E s h=>match nC x l with
      | some _=>liftM C x (.rz l) f mok s E h
      | none=>False) A E' e p j->Rel n q p f j o->gX (fa x) mok (de s) G a h w (de p) q f j o->ve C.P x Q (pB e) f o:=by
    intro A
    induction A with
    | gd l b y _ V=>
     intro E' hE;refine V _ λe p j q f o u B D=> ?_;cases e with
     | gL=>exact hE .gL p j q f o u B D
     | ret=>exact hE .ret p j q f o u B D
     | ext i=>exact hE (.ext i) p j q f o u B D
     | kI i=>
      by_cases X:i=l
      ·subst X;simp only [Env.put,Nat.beq_refl,cond_true] at u;split at u
       ·rename_i r c2;refine ⟨_,QP c2,J7 (wp_seq (wp_skip ?_))⟩;exact ih.2.2 i r c2 _ mok p _ j J u q f o B _ λe2 s2 M N a2 O a8 Z b2=>hE e2 s2 M N a2 O a8 Z (D.trans b2)
       ·exact u.elim
      ·simp only [Env.put,pK X,cond_false] at u;exact hE (.kI i) p j q f o u B D
    | _=>intro E' hE;exact hE
   refine ih.1 _ mok s _ h J hv G a w H _ λe p j q f o u B D=> ?_;refine chain (.gd l0 a0 x0) E.mD (λe p j q f o u B D=> ?_) e p j q f o u B D;cases e with
   | gL=>exact F .gL p j q f o u B D
   | ret=>exact F .ret p j q f o u B D
   | ext i=>exact F (.ext i) p j q f o u B D
   | kI i=>exact u.elim
  ·refine wp_scope_straight ?_;refine ih.1 _ mok s _ h J hv G a w H _ λe p j q f o u B D=> ?_;cases e with
   | gL=>exact F .gL p j q f o u B D
   | ret=>exact F .ret p j q f o u B D
   | ext i=>exact F (.ext i) p j q f o u B D
   | kI i=>exact u.elim
 | loop x ih=>
  refine ⟨?_,λl r e=>by simp [qN] at e,λl r e=>by simp [nC] at e⟩;intro A mok s E h J hv G a w H Q F;unfold liftM at hv;split at hv
  ·rename_i js mm _;obtain ⟨b7,hv⟩:=ko hv;have U:=GC b7;obtain ⟨x0,d9,a9,c3⟩:=wJ ok H (gX.refl (l:=fa x) (mm:=mm)) H hv;obtain ⟨I,μ,hI,d4⟩:=d9;refine ad5 (λm f o=>∃z j q,I z j/\μ z j=m/\Rel n q (ot C.tb js z (s.forget (fa x) mm)) f j o/\gX (fa x) mm (de s) G a h w (de (ot C.tb js z (s.forget (fa x) mm))) q f j o)
    ⟨_,x0,h,G,hI,rfl,a9,c3⟩ ?_
   rintro m f o ⟨z,j,q,hz,rfl,c7,b1⟩;refine ih.1 _ mm _ _ j J (d4 z j hz) q f o c7 _ λe s2 M N a2 O u Z b2=> ?_;have c5:=b1.trans b2;cases e with
   | gL=>obtain ⟨z2,d0,c1,c8⟩:=wJ ok H c5 Z u;exact ⟨_,d0.2,z2,M,N,d0.1,rfl,c1,c8⟩
   | ret=>exact F .ret s2 M N a2 O u Z (c5.mono (λ_ e=>e) U (λ_ e=>e) (λ_ e=>e))
   | ext i=>exact F (.ext i) s2 M N a2 O u Z (c5.mono (λ_ e=>e) U (λ_ e=>e) (λ_ e=>e))
   | kI i=>exact F (.kI i) s2 M N a2 O u Z (c5.mono (λ_ e=>e) U (λ_ e=>e) (λ_ e=>e))
  ·exact hv.elim
 | _=>exact ⟨λA mok s E h _ hv=>hv.elim,λl r e=>by simp [qN] at e,λl r e=>by simp [nC] at e⟩
theorem nZ {C:Ctx} (ok:C.tb.Ok C.P) {n:Nat} (c:Code) (A:bw) (g:List Nat) (s:St) (E:Env) (h:Hp) (o:∀d∈fa c,d<n) (hv:liftM C c .full A g s E h) (k:Nat->Nat) (a:Act) (w:World) (p:Rel n k s a h w)
  (Q:Exit->Act->World->Prop) (m:∀e i f l b j,E e i f->Rel n l i b f j->gX (fa c) g (de s) k a h w (de i) l b f j->Q (pB e) b j):c.wp C.P Q a w:=
 (SG ok c).1 A g s E h o hv k a w p Q m
def pL (b:Array Value):ResultVar->Sem Value
 | .tmp t=>pure (b.getD t undef)
 | .cell a t=>do loadVar t (<-asAddr (b.getD a undef))
def E0 :List Value->Value
 | [v]=>v
 | vs=>.tuple vs.toArray
theorem ng {P:Program} {fn:Func} {b:Array Value} {a:List Value} {w:World} (h:(fn.results.toList.mapM (pL b)).run P w=.ok a w):(results fn b).run P w=.ok (E0 a) w:=by
 have e:results fn b=((fn.results.mapM (pL b))>>=λa=>pure (if h:a.size=1 then a[0] else .tuple a)):=by unfold results;congr 1
 rw [e,Array.mapM_eq_mapM_toList,map_eq_pure_bind];simp only [Sem.run_bind,h,Result.andThen_ok,Sem.run_pure];cases a with
 | nil=>rfl
 | cons v a=>cases a<;>simp [E0]
theorem V8 {P:Program} {tb:Tb} (ok:tb.Ok P) {t:Nat} {e:Ty} (c:tb.ty t=some e) {w:World} {a:Addr} {x:(eg tb t).T}
  (b:∀(j:Nat) (v:Value),(bu ((eg tb t).enc x))[j]? =some v->w.cell? (a.add j)=some v):(loadVar t a).run P w=.ok ((eg tb t).enc x) w:=by
 revert x;rw [Ly,c];intro x b;exact Oy ok c b
section
variable {C:Ctx} {n:Nat} {β:Nat->Nat} {s:St} {a:Act} {h:Hp} {w:World}
theorem pe (ok:C.tb.Ok C.P) (d:Rel n β s a h w) {r:ResultVar} {t:Nat} {K:(eg C.tb t).T->Prop} (hv:nv C s r t K):∃x,K x/\(pL a.tmps r).run C.P w=.ok ((eg C.tb t).enc x) w:=by
 cases r with
 | tmp i=>
  simp only [nv] at hv;split at hv
  ·rename_i v c
   ·obtain ⟨x,f,hv⟩:=zy hv;refine ⟨x,hv,?_⟩;have:=(d.cur i _ [] c trivial (bS _)).1;rw [f];simp only [pL,Sem.run_pure];exact congrArg (λv=>Result.ok v w) this
  ·exact hv.elim
 | cell i y=>
  simp only [nv] at hv;obtain ⟨b,hv⟩:=ko hv;have b:=Nat.eq_of_beq_eq_true b;subst b;split at hv
  ·rename_i k e c q;split at hv
   ·rename_i l u;split at hv
    ·rename_i v p
     ·obtain ⟨x,f,hv⟩:=zy hv;refine ⟨x,hv,?_⟩;have o:=J5 ok p f;obtain ⟨_,z,hb⟩:=d.box k l u trivial;have:=(d.cur i _ [] c trivial (bS _)).1;have m:a.tmps.getD i undef=.pointer (some ⟨β k,0,none⟩):=this;simp only [pL,m,asAddr,Sem.run_bind,Sem.run_pure,Result.andThen_ok];refine V8 ok q λj v g=> ?_;rw [o] at g;rw [kH,FL hb];simpa using g
    ·exact hv.elim
   ·exact hv.elim
  ·exact hv.elim
theorem rB (ok:C.tb.Ok C.P) (b:Rel n β s a h w) {rs:List ResultVar} {p:List Nat} {K:(cl C.tb p).T->Hp->Prop} (hv:ux C s h rs p K):
  ∃x k,K x h/\(rs.mapM (pL a.tmps)).run C.P w=.ok k w/\E0 k=(cl C.tb p).enc x:=by
 have step:∀ {r:ResultVar} {rs:List ResultVar} {v:Value} {k:List Value},(pL a.tmps r).run C.P w=.ok v w->(rs.mapM (pL a.tmps)).run C.P w=.ok k w->((r::rs).mapM (pL a.tmps)).run C.P w=.ok (v::k) w:=by intro r rs v k c d;simp only [List.mapM_cons,Sem.run_bind,c,d,Result.andThen_ok,Sem.run_pure]
 have nil:(([]:List ResultVar).mapM (pL a.tmps)).run C.P w=.ok [] w:=by simp
 unfold ux at hv;split at hv
 ·exact ⟨(),[],hv,nil,rfl⟩
 ·obtain ⟨x,e,c⟩:=pe ok b hv;exact ⟨x,_,e,step c nil,rfl⟩
 ·obtain ⟨f,hv,c⟩:=pe ok b hv;obtain ⟨g,e,d⟩:=pe ok b hv;exact ⟨(f,g),_,e,step c (step d nil),rfl⟩
 ·obtain ⟨f,hv,c⟩:=pe ok b hv;obtain ⟨g,hv,d⟩:=pe ok b hv;obtain ⟨j,e,i⟩:=pe ok b hv;exact ⟨(f,g,j),_,e,step c (step d (step i nil)),rfl⟩
 ·obtain ⟨f,hv,c⟩:=pe ok b hv;obtain ⟨g,hv,d⟩:=pe ok b hv;obtain ⟨j,hv,i⟩:=pe ok b hv;obtain ⟨m,e,l⟩:=pe ok b hv;exact ⟨(f,g,j,m),_,e,step c (step d (step i (step l nil))),rfl⟩
 ·obtain ⟨f,hv,c⟩:=pe ok b hv;obtain ⟨g,hv,d⟩:=pe ok b hv;obtain ⟨j,hv,i⟩:=pe ok b hv;obtain ⟨m,hv,l⟩:=pe ok b hv;obtain ⟨q,e,o⟩:=pe ok b hv;exact ⟨(f,g,j,m,q),_,e,step c (step d (step i (step l (step o nil)))),rfl⟩
 ·obtain ⟨f,hv,c⟩:=pe ok b hv;obtain ⟨g,hv,d⟩:=pe ok b hv;obtain ⟨j,hv,i⟩:=pe ok b hv;obtain ⟨m,hv,l⟩:=pe ok b hv;obtain ⟨q,hv,o⟩:=pe ok b hv;obtain ⟨y,hv,t⟩:=pe ok b hv;obtain ⟨z,e,u⟩:=pe ok b hv;exact ⟨(f,g,j,m,q,y,z),_,e,step c (step d (step i (step l (step o (step t (step u nil)))))),rfl⟩
 ·exact hv.elim
end
theorem pV {n:Nat} {l:List Nat} (h:tr n l=true):∀d∈l,d<n:=by
 induction l with
 | nil=>simp
 | cons a l e=>
  simp only [tr] at h;obtain ⟨b,c⟩:=fL h;intro d hd;rcases List.mem_cons.1 hd with rfl | hd
  ·have:d+1<=n:=by simpa [Nat.blt] using b
   exact this
  grind
theorem bT {C:Ctx} (ok:C.tb.Ok C.P) {g:FuncId} {f:Func} {c:Code} {A:bw} {args:List Value} {K:(cl C.tb f.resultTypes.toList).T->Hp->Prop} {h:Hp} (G:C.P.funcs[g]? =some f) (hb:f.body=some c)
  (hv:G3 C f A args K h):aa C.P g args (cl C.tb f.resultTypes.toList) K h:=by
 intro w N;unfold G3 at hv;obtain ⟨F,hv⟩:=ko hv;obtain ⟨s,d⟩:=fL F;have s:args.length<=f.ntmps:=Nat.le_of_ble_eq_true s;have E:we f=c:=by unfold we;rw [hb]
 rw [E] at hv d;refine calls_of_wp G hb ?_;have H:∀(t:Nat) (v:Value),args[t]? =some v->(args.toArray++Array.replicate (f.ntmps-args.toArray.size) undef)[t]? =some v:=by grind
 have z:∀(t:Nat) (l:LV) (c:ba),tu args t=some (l,c)->∃v,args[t]? =some v/\l=.v v/\c=[]:=by intro t l c e;unfold tu at e;rw [nh] at e;grind
 have L:Rel f.ntmps (λ_=>0) {f:=tu args,m:=λ_=>none} {tmps:=args.toArray++Array.replicate (f.ntmps-args.toArray.size) undef,defers:=[]} h w:=by
  refine ⟨by simp;omega,N,λt l c e=> ?_,λt l c e p hp=> ?_,λt l c e _ _=> ?_,λt l c e _ I=> ?_,λk U e _=>(by cases e),λk V e=>absurd rfl e,λ_ e=>e.elim,λ_ e=>e.elim⟩
  ·grind
  ·grind
  ·obtain ⟨v,y,rfl,rfl⟩:=z t l c e;refine ⟨?_,λ_ _ _=>trivial⟩;simp only [Act.eval,LVal,Array.getD_eq_getD_getElem?,H t v y,Option.getD_some]
  ·obtain ⟨v,y,rfl,rfl⟩:=z t l c e;exact absurd (bS _) I
 refine nZ ok c A C.aV _ _ h (pV d) hv _ _ w L _ λe S o X r n j D a=> ?_;have O:Step h o w n:=⟨D.sub,a.size,λb hb B=>⟨a.cW b hb B (λk _ q=>absurd rfl q.1),a.xa b hb B (λk _ q=>absurd rfl q.1)⟩,a.os,a.tape,a.output⟩;have done:ux C S o f.results.toList f.resultTypes.toList K->r.defers=[]/\∃v,(results f r.tmps).run C.P n=.ok v n/\∃u d,Ending.returned v=.returned u/\(∃x,u=(cl C.tb f.resultTypes.toList).enc x/\K x d)/\Step h d w n:=by intro R;obtain ⟨x,W,J,M,Q⟩:=rB ok D R;exact ⟨a.defers,_,ng M,_,o,rfl,⟨x,Q,J⟩,O⟩
 cases e with
 | gL=>exact done j
 | ret=>exact done j
 | ext i=>exact j.elim
 | kI i=>exact j.elim
def cC (A:(Hp->Prop)->Prop) (B:Hp->Prop):Prop:=
 nI (σ:=Unit) (λR=>A (λh=>R () h)) (λ_ h=>B  h)
theorem cC.intro {A:(Hp->Prop)->Prop} {B:Hp->Prop} (R:Hp->Prop) (a:A R) (b:∀h,R h->B h):cC A B:=
 ⟨λ_ h=>R  h,a,λ_ h c=>b  h c⟩
theorem cC.direct {A:(Hp->Prop)->Prop} {B:Hp->Prop} (a:A B):cC A B:=cC.intro B a (λ_ b=>b)
def kK (a:(Hp->Prop)->Hp->Prop)  (h:Hp):Prop:=
 qQ (σ:=Unit) (λR _ h=>a (λh=>R () h)  h) () h
theorem kK.intro {b:(Hp->Prop)->Hp->Prop} {h:Hp} (I:Hp->Prop) (a:Hp->Nat)
  (h0:I  h) (e:∀  k,I  k->b (fun  c=>I  c/\a  c<a  k)  k):kK b  h:=
 ⟨λ_ h=>I  h,λ_ h=>a  h,h0,λ_ k d=>e  k d⟩
def dp {α1:Type} (A:(α1->Hp->Prop)->Prop) (B:α1->Hp->Prop):Prop:=
 nI (σ:=α1) (λR=>A (λa h=>R a h)) (λp h=>B p h)
theorem dp.intro {a:Type} {A:(a->Hp->Prop)->Prop} {B:a->Hp->Prop} (R:a->Hp->Prop) (c:A R) (d:∀b h,R b h->B b h):dp A B:=
 ⟨λp h=>R p h,c,λp h e=>d p h e⟩
theorem dp.direct {a:Type} {A:(a->Hp->Prop)->Prop} {B:a->Hp->Prop} (b:A B):dp A B:=dp.intro B b (λ_ _ c=>c)
def aA {α1:Type} (b:(α1->Hp->Prop)->α1->Hp->Prop) (a:α1) (h:Hp):Prop:=
 qQ (σ:=α1) (λR p h=>b (λa h=>R a h) p h) a h
theorem aA.intro {b:Type} {d:(b->Hp->Prop)->b->Hp->Prop} {a:b} {h:Hp} (I:b->Hp->Prop) (c:b->Hp->Nat)
  (h0:I a h) (i:∀a k,I a k->d (λf e=>I f e/\c f e<c a k) a k):aA d a h:=
 ⟨λp h=>I p h,λp h=>c p h,h0,λp k g=>i p k g⟩
def iJ {α1 α2:Type} (A:(α1->α2->Hp->Prop)->Prop) (B:α1->α2->Hp->Prop):Prop:=
 nI (σ:=α1×α2) (λR=>A (λa b h=>R (a,b) h)) (λp h=>B p.1 p.2 h)
theorem iJ.intro {a b:Type} {A:(a->b->Hp->Prop)->Prop} {B:a->b->Hp->Prop} (R:a->b->Hp->Prop) (e:A R) (f:∀c d h,R c d h->B c d h):iJ A B:=
 ⟨λp h=>R p.1 p.2 h,e,λp h g=>f p.1 p.2 h g⟩
theorem iJ.direct {a b:Type} {A:(a->b->Hp->Prop)->Prop} {B:a->b->Hp->Prop} (c:A B):iJ A B:=iJ.intro B c (λ_ _ _ d=>d)
def dx {α1 α2:Type} (c:(α1->α2->Hp->Prop)->α1->α2->Hp->Prop) (a:α1) (b:α2) (h:Hp):Prop:=
 qQ (σ:=α1×α2) (λR p h=>c (λa b h=>R (a,b) h) p.1 p.2 h) (a,b) h
theorem dx.intro {c d:Type} {f:(c->d->Hp->Prop)->c->d->Hp->Prop} {a:c} {b:d} {h:Hp} (I:c->d->Hp->Prop) (e:c->d->Hp->Nat)
  (h0:I a b h) (m:∀a b k,I a b k->f (λi j g=>I i j g/\e i j g<e a b k) a b k):dx f a b h:=
 ⟨λp h=>I p.1 p.2 h,λp h=>e p.1 p.2 h,h0,λp k l=>m p.1 p.2 k l⟩
def mM {α1 α2 α3:Type} (d:(α1->α2->α3->Hp->Prop)->α1->α2->α3->Hp->Prop) (a:α1) (b:α2) (c:α3) (h:Hp):Prop:=
 qQ (σ:=α1×α2×α3) (λR p h=>d (λa b c h=>R (a,b,c) h) p.1 p.2.1 p.2.2 h) (a,b,c) h
theorem mM.intro {d e f:Type} {i:(d->e->f->Hp->Prop)->d->e->f->Hp->Prop} {a:d} {b:e} {c:f} {h:Hp} (I:d->e->f->Hp->Prop) (g:d->e->f->Hp->Nat)
  (h0:I a b c h) (q:∀a b c k,I a b c k->i (λl m n j=>I l m n j/\g l m n j<g a b c k) a b c k):mM i a b c h:=
 ⟨λp h=>I p.1 p.2.1 p.2.2 h,λp h=>g p.1 p.2.1 p.2.2 h,h0,λp k o=>q p.1 p.2.1 p.2.2 k o⟩
def bF (P:Program) (g:FuncId) (args:List Value) (s1 s2:Shape) (K:s1.T->s2.T->Hp->Prop) (h:Hp):Prop:=
 aa P g args (nj s1 s2) (λp a=>K p.1 p.2 a) h
def mh (P:Program) (g:FuncId) (args:List Value) (s1 s2 a:Shape) (K:s1.T->s2.T->a.T->Hp->Prop) (h:Hp):Prop:=
 aa P g args (qJ s1 s2 a) (λp b=>K p.1 p.2.1 p.2.2 b) h
def pP (P:Program) (g:FuncId) (args:List Value) (s1 s2 a b:Shape) (K:s1.T->s2.T->a.T->b.T->Hp->Prop) (h:Hp):Prop:=
 aa P g args (wb s1 s2 a b) (λp c=>K p.1 p.2.1 p.2.2.1 p.2.2.2 c) h
def zA (P:Program) (g:FuncId) (args:List Value) (s1 s2 a b c:Shape) (K:s1.T->s2.T->a.T->b.T->c.T->Hp->Prop) (h:Hp):Prop:=
 aa P g args (yg s1 s2 a b c) (λp d=>K p.1 p.2.1 p.2.2.1 p.2.2.2.1 p.2.2.2.2 d) h
def bV (P:Program) (g:FuncId) (args:List Value) (K:Hp->Prop) (h:Hp):Prop:=
 aa P g args uf (λ_ a=>K a) h
def mY (P:Program) (s:Sem Value) (_:Shape) (K:Hp->Prop) (h:Hp):Prop:=ku P s uf (λ_ a=>K a) h
def Rw {a:Type} (h:Hp) (sz:Nat) (enc:a->List Value) (l:Sl) (xs:List a):Prop:=
 l.len=xs.length/\pI h l.base (xs.length*sz) (xs.flatMap enc)
section
variable {α:Type} {h d:Hp} {sz:Nat} {enc:α->List Value} {l:Sl} {xs:List α}
theorem M8 (b:h<=d) {a:Addr} {v:Value} (e:dw h a=some v):dw d a=some v:=by
 unfold dw at e ⊢;split at e
 ·rename_i c t f hb;rw [b _ _ hb];exact e
 ·cases e
theorem qk (b:h<=d) {a:Addr} {cs:List Value} (e:bG h a cs):bG d a cs:=λi v hv=>M8 b (e i v hv)
theorem Rw.mono (i:h<=d) (r:Rw h sz enc l xs):Rw d sz enc l xs:=by obtain ⟨b,c,e⟩:=r;refine ⟨b,c,e.imp id ?_⟩;rintro ⟨a,f,g⟩;exact ⟨a,f,qk i g⟩
theorem J9 (b:∀x,(enc x).length=sz):∀(xs:List α) (i:Nat) (x:α),xs[i]? =some x->∀j v,(enc x)[j]? =some v->(xs.flatMap enc)[i*sz+j]? =some v
 | [],i,x,a,_,_,_=>by simp at a
 | y::xs,0,x,a,j,v,hv=>by grind
 | y::xs,i+1,x,a,j,v,hv=>by have:=J9 b xs i x (by simpa using a) j v hv;grind
theorem Lz (a:∀x,(enc x).length=sz):∀(xs:List α) (i:Nat) (v:Value),(xs.flatMap enc)[i]? =some v->∃q x j,xs[q]? =some x/\(enc x)[j]? =some v/\i=q*sz+j
 | [],i,v,hv=>by simp at hv
 | y::xs,i,v,hv=>by
  simp only [List.flatMap_cons] at hv;by_cases b:i<(enc y).length
  ·rw [List.getElem?_append_left b] at hv;exact ⟨0,y,i,rfl,hv,by simp⟩
  ·rw [List.getElem?_append_right (by omega)] at hv;obtain ⟨q,x,j,c,e,f⟩:=Lz a xs _ v hv;rw [a] at f b;exact ⟨q+1,x,j,by simpa using c,e,by grind⟩
theorem Rw.read (r:Rw h sz enc l xs) (m:∀x,(enc x).length=sz) (o:0<sz) {i:Int} (e:0<=i) (f:i<(l.len:Int)):
  br l.base l.len i/\∃x,xs[i.toNat]? =some x/\bG h (sat l.base sz i) (enc x):=by
 obtain ⟨p,q,g⟩:=r;have c:i.toNat<xs.length:=by omega
 have n:xs.length*sz≠0:=by
  have:0<xs.length:=by omega
  exact Nat.ne_of_gt (Nat.mul_pos this o)
 obtain ⟨a,b,k⟩:=g.resolve_left n;refine ⟨⟨by simp [b],e,f⟩,xs[i.toNat],by simp [c],λj v hv=> ?_⟩;have:=k (i.toNat*sz+j) v (J9 m xs i.toNat _ (by simp [c]) j v hv);unfold sat;rw [b,Option.getD_some,s6];exact this
def Own (h0 h:Hp) (sz:Nat) (enc:α->List Value) (l:Sl) (xs:List α):Prop:=
 l.len=xs.length/\l.len<=l.cap/\((l.base=none/\l.cap=0)\/
  ∃(b:Nat) (a:List Value) (t:Nat),l.base=some ⟨b,0,none⟩/\h b=some (.cells a.toArray t (0,0))/\a.length=l.cap*sz/\a.take (l.len*sz)=xs.flatMap enc/\h0 b=none)
theorem jo (a:∀x,(enc x).length=sz):∀xs:List α,(xs.flatMap enc).length=xs.length*sz
 | []=>by simp
 | x::xs=>by simp only [List.flatMap_cons,List.length_append,a,jo a xs,List.length_cons,Nat.add_mul,Nat.one_mul];omega
theorem sZ (f:∀x,jE (enc x)=true):∀xs:List α,jE (xs.flatMap enc)=true:=by
 have app:∀a b:List Value,jE a=true->jE b=true->jE (a++b)=true:=by
  intro a b c hb
  induction a with
  | nil=>exact hb
  | cons v a e=>cases v<;>first | (exact e c) | (cases c)
 intro xs
 induction xs with
 | nil=>rfl
 | cons x xs e=>grind
theorem En {b:Nat} {a:List Value} {t:Nat} (e:h b=some (.cells a.toArray t (0,0))) (i:Nat):dw h ⟨b,i,none⟩=a[i]?:=by unfold dw;simp [e]
theorem Own.rw {h0:Hp} (o:Own h0 h sz enc l xs) (c:∀x,(enc x).length=sz):Rw h sz enc l xs:=by
 obtain ⟨h1,g,a⟩:=o;refine ⟨h1,jo c xs,?_⟩;rcases a with ⟨e,f⟩ | ⟨b,cs,t,e,hb,i,k,_⟩
 ·grind
 ·right;refine ⟨_,e,λj v hv=> ?_⟩;rw [kH,En hb,Nat.zero_add];grind
theorem Own.mono {h0:Hp} (j:h<=d) (o:Own h0 h sz enc l xs):Own h0 d sz enc l xs:=by obtain ⟨f,g,i⟩:=o;refine ⟨f,g,i.imp id ?_⟩;rintro ⟨b,cs,t,a,c,e⟩;exact ⟨b,cs,t,a,j _ _ c,e⟩
theorem LA {q:Hp} {zero:List Value} {bytes:Nat} {x:Sl} {f:List α} {K:Sl->Hp->Prop} (v:q<=h) (o:Own q h sz enc l xs) (r:Rw h sz enc x f) (j:∀x,(enc x).length=sz) (T:∀x,jE (enc x)=true)
  (W:zero.length=sz) (hb:xs.length+f.length<=140737488355328/\(xs.length+f.length)*bytes<=140737488355328)
  (A:∀J d,q<=d->Own q d sz enc J (xs++f)->(∀b g,h b=some g->(∀a,l.base=some a->a.block≠b)->d b=some g)->K J d):gF sz bytes zero l x K h:=by
 have U:=o.rw j;obtain ⟨m,Q,R⟩:=o;obtain ⟨n,a9⟩:=r;refine ⟨f.flatMap enc,by grind,xs.flatMap enc,by rw [m];exact U.2,by grind,sZ T f,λE=> ?_,λE c b t S D=> ?_⟩
 ·rcases R with ⟨e,P⟩ | ⟨b,p,t,e,z,G,I,H⟩
  · -- nothing is put
   have N:f.length=0:=by omega
   have O:f=[]:=List.length_eq_zero_iff.1 N;subst O;refine ⟨λa y=>(by grind),?_⟩;have w:gC h l.base (l.len*sz) (([]:List α).flatMap enc)=h:=by rw [e];rfl
   rw [w,n];refine A _ h v ⟨by simp [m],by simpa using Q,.inl ⟨e,P⟩⟩ λ_ _ e _=>e
  ·have s:l.len*sz+(f.flatMap enc).length<=p.length:=by rw [G,jo j,<-Nat.add_mul];exact Nat.mul_le_mul_right sz (by omega)
   obtain ⟨L,Z⟩:=yu b t (f.flatMap enc) h 0 (l.len*sz) p (by simpa using s) z;have V:∀(k:Nat),l.len*sz+k<=p.length->qT h (⟨b,l.len*sz,none⟩:Addr) k:=by
    intro k
    induction k with
    | zero=>intro _;trivial
    | succ k Y=>
     intro a8;refine ⟨Y (by omega),⟨p[l.len*sz+k]'(by omega),?_⟩,?_⟩
     ·rw [kH,En z];simp
     ·rw [kH];unfold gS;simp [z]
   refine ⟨λa y=> ?_,?_⟩
   ·rw [e] at y;cases y;rw [kH,Nat.zero_add];refine V _ ?_;rw [n,<-jo j f];exact s
   ·have w:gC h l.base (l.len*sz) (f.flatMap enc)=kB h ⟨b,l.len*sz,none⟩ (f.flatMap enc) 0:=by rw [e];simp only [gC,kH,Nat.zero_add]
    rw [w];rw [Nat.add_zero] at L;refine A _ _ (λi g eb=> ?_) ⟨by simp [m,n],E,.inr ⟨b,_,t,e,L,?_,?_,H⟩⟩ λi g eb u=> ?_
    ·have u:i≠b:=λB=>by rw [B,H] at eb;cases eb
     rw [Z i u];exact v _ _ eb
    ·rw [Sh _ _ _ s,G]
    ·rw [zv _ _ _ s];have C:(l.len+x.len)*sz=(p.take (l.len*sz)++f.flatMap enc).length:=by rw [List.length_append,I,jo j,jo j,m,n,Nat.add_mul]
     rw [C,List.take_left,I,List.flatMap_append]
    grind
 ·have F:∀i g,h i=some g->(h.set b (.cells (xs.flatMap enc++f.flatMap enc++fW zero (c-(l.len+x.len))).toArray t (0,0))) i=some g:=λi g eb=>by
   have u:i≠b:=λB=>by grind
   simp [Hp.set,u,eb]
  refine A _ _ (λi g eb=>F i g (v _ _ eb)) ⟨by simp [m,n],S,.inr ⟨b,xs.flatMap enc++f.flatMap enc++fW zero (c-(l.len+x.len)),t,rfl,by simp [Hp.set],?_,?_,?_⟩⟩ λi g eb _=>F i g eb
  ·have X:∀k,(fW zero k).length=k*sz:=λk=>by simp [fW,W]
   rw [List.length_append,List.length_append,jo j,jo j,X,<-Nat.add_mul,<-Nat.add_mul];grind
  ·have C:(l.len+x.len)*sz=(xs.flatMap enc++f.flatMap enc).length:=by rw [List.length_append,jo j,jo j,m,n,Nat.add_mul]
   grind
  ·cases M:q b with
   | none=>rfl
   | some g=>rw [v _ _ M] at D;cases D
end
abbrev Rs (h:Hp) (sh:Shape) (sz:Nat) (l:Sl) (xs:List sh.T):Prop:=Rw h sz (λx=>bu (sh.enc x)) l xs
section
variable {h b:Hp} {sh:Shape} {sz:Nat} {l:Sl} {xs:List sh.T} {K:sh.T->Prop} {i:Int}
theorem Rs.get (r:Rs h sh sz l xs) (e:∀x,(bu (sh.enc x)).length=sz) (j:0<sz) (c:0<=i) (d:i<(xs.length:Int)) (f:∀x,xs[i.toNat]? =some x->K x):
  br l.base l.len i/\aQ none sh h (sat l.base sz i) K:=by
 obtain ⟨a,x,k,g⟩:=Rw.read r e j c (by rw [r.1];exact d);exact ⟨a,x,g,f x k⟩
theorem Rs.qZ {c:Bool} (r:Rs h sh sz l xs) (f:sh.T) (j:∀x,(bu (sh.enc x)).length=sz) (m:0<sz) (a:c=true->0<=i/\i<(xs.length:Int)) (d:∀x,(c=true->xs[i.toNat]? =some x)->K x):
  (c=true->br l.base l.len i)/\aQ (some c) sh h (sat l.base sz i) K:=by
 cases c with
 | false=>exact ⟨λe=>(by cases e),f,λe=>(by cases e),d f λe=>(by cases e)⟩
 | true=>obtain ⟨g,x,n,k⟩:=Rw.read r j m (a rfl).1 (by rw [r.1];exact (a rfl).2);exact ⟨λ_=>g,x,λ_=>k,d x λ_=>n⟩
theorem qc {a:Addr} (x:sh.T) (d:bG h a (bu (sh.enc x))) (c:K x):aQ none sh h a K:=⟨x,d,c⟩
theorem aJ {a:Type} {x:a} {K:a->Prop} (c:K x):aI x K:=λ_ e=>e▸c
theorem wrap64 {n:Int} (a: -9223372036854775808<=n) (c:n<9223372036854775808):yw n=n:=by
 (try unfold yw);unfold IntKind.wrap
 simp only [IntKind.signed,IntKind.bits];grind
end
theorem zz {g:Type} {h0 h:Hp} {sz:Nat} {enc:g->List Value} {c:List Value} {xs:List g} {K:Addr->Hp->Prop} (p:h0<=h) (k:c=xs.flatMap enc) (f:∀x,(enc x).length=sz)
  (l:∀a d,h<=d->Own h0 d sz enc ⟨some a,xs.length,xs.length⟩ xs->K a d):bP c K h:=by
 intro b t hb;have m:h<=h.set b (.cells c.toArray t (0,0)):=λi o e=>by
  have n:i≠b:=λq=>by grind
  simp [Hp.set,n,e]
 refine l _ _ m ⟨rfl,Nat.le_refl _,.inr ⟨b,c,t,rfl,by simp [Hp.set],?_,?_,?_⟩⟩
 ·rw [k,jo f]
 ·have:(xs.length*sz)=(xs.flatMap enc).length:=(jo f xs).symm;grind
 ·cases j:h0 b with
  | none=>rfl
  | some r=>rw [p _ _ j] at hb;cases hb
def pO (h b:Hp):Prop:=∀a v,dw h a=some v->dw b a=some v
theorem pO.of_le {h a:Hp} (b:h<=a):pO h a:=λ_ _ e=>M8 b e
theorem LB {h c:Hp} (d:pO h c) {a:Addr} {b:List Value} (e:bG h a b):bG c a b:=λi v hv=>d _ _ (e i v hv)
theorem Rw.ck {d:Type} {h b:Hp} {sz:Nat} {enc:d->List Value} {l:Sl} {c:List d} (k:pO h b) (r:Rw h sz enc l c):Rw b sz enc l c:=by obtain ⟨e,f,g⟩:=r;refine ⟨e,f,g.imp id ?_⟩;rintro ⟨a,i,j⟩;exact ⟨a,i,LB k j⟩
theorem aet {h:Hp} {m:Nat} {o b:Obj} (e:h m=some o) (f:isCells o=false):pO h (h.set m b):=by
 intro a v hv;obtain ⟨c,t,fr,hb,j,i⟩:=Gt hv;have g:a.block≠m:=λd=>by rw [d,e] at hb;cases hb;cases f
 unfold dw at hv ⊢;have:(h.set m b) a.block=h a.block:=by simp [Hp.set,g]
 rw [this];exact hv
theorem nu {h:Hp} {b:Nat} {o:Obj} (d:h b=none):h<=h.set b o:=λa g e=>by
 have f:a≠b:=λc=>by rw [c,d] at e;cases e
 simp [Hp.set,f,e]
theorem oX {h:Hp} {b:Nat} {o:Obj}:(h.set b o) b=some o:=by simp [Hp.set]
theorem Ka {h a:Hp} {b:Nat} {o:Obj} (f:a<=h) (g:a b=none):a<=h.set b o:=λc j e=>by
 have i:c≠b:=λd=>by rw [d,g] at e;cases e
 simp only [Hp.set,i,if_false];exact f _ _ e
theorem tV {a h:Hp} {b:Nat} (d:a<=h) (c:h b=none):a b=none:=by
 cases e:a b with
 | none=>rfl
 | some o=>rw [d _ _ e] at c;cases c
theorem FW {h:Hp} {b t:Nat} {cs:List Value}:bG (h.set b (.cells cs.toArray t (0,0))) ⟨b,0,none⟩ cs:=λi v hv=>by rw [kH,En oX,Nat.zero_add];exact hv
theorem OV {a:Type} {A:(a->Hp->Prop)->Hp->Prop} {K:a->Hp->Prop} {h:Hp} (b:A K h):cP (some true) A K h:=⟨λ_=>b,λe=>by cases e⟩
theorem aY {p:Addr} {c:Option Bool} {K:Addr->Prop} (a:K p):ah c (some p) K:=by
 refine ⟨p,?_,a⟩;cases c with
 | none=>rfl
 | some b=>exact λ_=>rfl
theorem FX {P:Program} {t:Nat} {d:TypeDesc} (b:P.underlying t=some d) {K:TypeDesc->Hp->Prop} {h:Hp} (a:K d h):du P (underlying t) K h:=by
 show du P (match P.underlying t with
  | some d=>Sem.pure d
  | none=>_) K h
 rw [b];exact a
theorem Fm {P:Program} {tb:Tb} (ok:tb.Ok P) {t:Nat} {e:Ty} (f:tb.ty t=some e) {K:Value->Hp->Prop} {h:Hp} (g:K e.zero h):du P (zeroValue t) K h:=by
 obtain ⟨i,b,_,_,c⟩:=ok.info t e f;have key:du P (match P.info? t with
  | some d=>(match d.zero with
   | some v=>Sem.pure v
   | none=>unsupported (.resourceLimit "a value of more than 2^22 cells"))
  | none=>stuck "no such type") K h:=by
  rw [b];dsimp only;rw [c];exact g
 cases a:P.info? t with
 | none=>rw [b] at a;cases a
 | some d=>
  rw [a] at key;show du P (Sem.bind (match P.info? t with
   | some d=>Sem.pure d
   | none=>_) _) K h
  rw [a];exact key
theorem Kg {P:Program} {s:Sem Value} {h:Hp} {v:Value} (e:du P s (λu b=>u=v/\b=h) h):ia P s h v:=by intro w g;obtain ⟨a,j,b,f,⟨c,d⟩,i⟩:=M1 s g e;subst c;subst d;exact ⟨j,f,i⟩
theorem Eo {P:Program} {s:Sem Value} {h:Hp} {v:Value} (a:∀w,s.run P w=.ok v w):ia P s h v:=λw b=>⟨w,a w,.refl b⟩
theorem OB {P:Program} {t e:Nat} {x y:Operand} {h:Hp} (g:P.underlying t=some (.slice e)) (s:Sl):ia P (cT .eql t x y s.v (.slice none 0 0)) h (.bool s.base.isNone):=by
 have key:∀d,du P (Op.equalIn (d+1) t s.v (.slice none 0 0)) (λu c=>u=s.base.isNone/\c=h) h:=by
  intro d;unfold Op.equalIn;refine (E2 _ _).2 (FX g ?_);cases hb:s.base with
  | none=>simp only [Sl.v,hb];exact ⟨rfl,rfl⟩
  | some a=>simp only [Sl.v,hb];exact ⟨rfl,rfl⟩
 refine Kg ?_;show du P (Sem.bind (Op.equal t s.v (.slice none 0 0)) λb=>Sem.pure (Value.bool b)) _ h;refine (E2 _ _).2 (X0 _ (λa k f=> ?_) (key 9999));obtain ⟨rfl,rfl⟩:=f;exact ⟨rfl,rfl⟩
theorem Y8 {h:Hp} {a:Addr} {b:List Value} (e:bG h a b) (n:Nat):bG h (a.add n) (b.drop n):=λi v hv=>by rw [s6];exact e (n+i) v (by simpa [List.getElem?_drop] using hv)
theorem yV {c:Type} {sz:Nat} {enc:c->List Value} (b:∀x,(enc x).length=sz):∀(a:List c) (n:Nat),(a.drop n).flatMap enc=(a.flatMap enc).drop (n*sz)
 | [],n=>by simp
 | x::a,0=>by simp
 | x::a,n+1=>by simp only [List.drop_succ_cons,List.flatMap_cons];have e:(enc x).drop (n*sz+sz)=[]:=List.drop_eq_nil_of_le (by rw [b];omega);rw [yV b a n,Nat.add_mul,Nat.one_mul,List.drop_append,b,e,List.nil_append,Nat.add_sub_cancel]
theorem Cc {c:Type} {sz:Nat} {enc:c->List Value} (b:∀x,(enc x).length=sz):∀(a:List c) (n:Nat),(a.take n).flatMap enc=(a.flatMap enc).take (n*sz)
 | [],n=>by simp
 | x::a,0=>by simp
 | x::a,n+1=>by simp only [List.take_succ_cons,List.flatMap_cons];have e:(enc x).take (n*sz+sz)=enc x:=List.take_of_length_le (by rw [b];omega);rw [Cc b a n,Nat.add_mul,Nat.one_mul,List.take_append,b,e,Nat.add_sub_cancel]
theorem Rw.cut {k:Type} {h:Hp} {sz:Nat} {enc:k->List Value} {l:Sl} {d:List k} (r:Rw h sz enc l d) (g:∀x,(enc x).length=sz) {a b c n m:Nat} (z:a<=b) (hb:b<=d.length) (B:b<=c) (s:n=b-a):
  Rw h sz enc ⟨bh l.base sz a c,n,m⟩ ((d.drop a).take (b-a)):=by
 obtain ⟨w,y,o⟩:=r;have j:((d.drop a).take (b-a)).length=b-a:=by rw [List.length_take,List.length_drop];omega
 refine ⟨s.trans j.symm,jo g _,?_⟩;rw [j];by_cases f:(b-a)*sz=0
 ·exact .inl f
 ·right;have A:b-a≠0:=λe=>f (by rw [e,Nat.zero_mul]);have t:sz≠0:=λe=>f (by rw [e,Nat.mul_zero]);have u:d.length*sz≠0:=Nat.mul_ne_zero (by omega) t;obtain ⟨p,hp,q⟩:=o.resolve_left u;refine ⟨p.add (a*sz),?_,λi v hv=> ?_⟩
  ·unfold bh;rw [if_neg (show ¬c=a by omega),hp];rfl
  ·rw [Cc g,yV g,List.getElem?_take] at hv;split at hv
   ·exact Y8 q (a*sz) i v hv
   ·cases hv
structure Mv (F:List Nat) (h:Hp) (F':List Nat) (h':Hp):Prop where
 cW:∀b o,h b=some o->b∉F->h' b=some o
 from_:∀b∈F',b∈F\/h b=none
theorem Mv.refl (F:List Nat) (h:Hp):Mv F h F h:=⟨λ_ _ e _=>e,λ_ e=>.inl e⟩
theorem Mv.trans {F d f:List Nat} {h g j:Hp} (a:Mv F h d g) (b:Mv d g f j):Mv F h f j:=by
 refine ⟨λi o e c=>b.cW i o (a.cW i o e c) λk=> ?_,λi l=> ?_⟩
 ·rcases a.from_ i k with h1 | h1
  ·exact c h1
  grind
 ·rcases b.from_ i l with h1 | h1
  ·exact a.from_ i h1
  ·cases e:h i with
   | none=>exact .inr rfl
   | some o=>left;refine Classical.byContradiction λc=> ?_;rw [a.cW i o e c] at h1;cases h1
theorem Mv.of_le {h a:Hp} (F:List Nat) (c:h<=a):Mv F h F a:=⟨λb o e _=>c b o e,λ_ e=>.inl e⟩
theorem Mv.le {F c:List Nat} {h0 h d:Hp} (a:Mv F h c d) (f:h0<=h) (g:∀b∈F,h0 b=none):h0<=d/\∀b∈c,h0 b=none:=by
 refine ⟨λb o e=>a.cW b o (f b o e) λhb=>(by grind),λb hb=> ?_⟩;rcases a.from_ b hb with h1 | h1
 ·exact g b h1
 ·exact tV f h1
theorem Mv.wide {F c:List Nat} {h d:Hp} (a:Mv F h c d) (G:List Nat):Mv (F++G) h (c++G) d:=
 ⟨λb o e f=>a.cW b o e λhb=>f (List.mem_append_left _ hb),λb hb=>by
  rcases List.mem_append.1 hb with hb | hb
  ·rcases a.from_ b hb with h1 | h1
   ·exact .inl (List.mem_append_left _ h1)
   ·exact .inr h1
  grind⟩
theorem Mv.sub {F c G d:List Nat} {h f:Hp} (a:Mv F h c f) (g:∀b∈F,b∈G) (i:∀b∈d,b∈c\/b∈G\/h b=none):Mv G h d f:=
 ⟨λb o e j=>a.cW b o e λhb=>j (g b hb),λb hb=>by
  rcases i b hb with h3 | h3
  ·rcases a.from_ b h3 with h4 | h4
   ·grind
   ·exact .inr h4
  ·exact h3⟩
theorem Mv.set {h:Hp} {b:Nat} {o:Obj}:Mv [b] h [b] (h.set b o):=by refine ⟨λi x e c=> ?_,λi a=>.inl a⟩;have d:i≠b:=λf=>c (by grind);simp only [Hp.set,d,if_false];exact e
theorem Mv.new {h:Hp} {b:Nat} {o:Obj} (a:h b=none):Mv [] h [b] (h.set b o):=
 ⟨λi x e _=>nu a i x e,λi c=>.inr (by grind)⟩
def gE (h:Hp) (b:Nat) (a:List Value):Prop:=∃t,h b=some (.cells a.toArray t (0,0))
theorem gE.mv {F f:List Nat} {h d:Hp} {b:Nat} {c:List Value} (k:gE h b c) (a:Mv F h f d) (g:b∉F):gE d b c:=by obtain ⟨t,e⟩:=k;exact ⟨t,a.cW b _ e g⟩
theorem gE.le {h c:Hp} {b:Nat} {a:List Value} (k:gE h b a) (d:h<=c):gE c b a:=by obtain ⟨t,e⟩:=k;exact ⟨t,d _ _ e⟩
theorem gE.known {h:Hp} {b:Nat} {a:List Value} (k:gE h b a):h b≠none:=by obtain ⟨t,e⟩:=k;rw [e];simp
def at_ (b off:Nat):Addr:=⟨b,off,none⟩
theorem gE.nY {h:Hp} {b:Nat} {cs:List Value} (k:gE h b cs) {off n:Nat} {a:List Value} (e:(cs.drop off).take n=a):bG h ⟨b,off,none⟩ a:=by obtain ⟨t,hb⟩:=k;intro i v hv;rw [kH,En hb];grind
theorem gE.sM {h:Hp} {b:Nat} {a:List Value} (k:gE h b a) {off:Nat}:∀n,off+n<=a.length->qT h ⟨b,off,none⟩ n
 | 0,_=>trivial
 | n+1,c=>by
  obtain ⟨t,hb⟩:=k;refine ⟨gE.sM ⟨t,hb⟩ n (by omega),⟨a[off+n]'(by omega),?_⟩,?_⟩
  ·rw [kH,En hb];simp
  ·rw [kH];unfold gS;simp [hb]
theorem gE.put {h:Hp} {b:Nat} {a new:List Value} (k:gE h b a) {off:Nat} (d:off+new.length<=a.length):
  gE (kB h ⟨b,off,none⟩ new 0) b (a.take off++new++a.drop (off+new.length))/\∀c,c≠b->(kB h ⟨b,off,none⟩ new 0) c=h c:=by
 obtain ⟨t,hb⟩:=k;obtain ⟨e,f⟩:=yu b t new h 0 off a (by simpa using d) hb;rw [Nat.add_zero,zv _ _ _ d] at e;exact ⟨⟨t,e⟩,f⟩
theorem Mv.kS {h c:Hp} {b:Nat} (g:∀a,a≠b->c a=h a):Mv [b] h [b] c:=
 ⟨λi o e f=>by grind,λi d=>.inl d⟩
theorem rP {h:Hp} {b:Nat} {cs new:List Value} {off:Nat} {K:Hp->Prop} (k:gE h b cs) (c:off+new.length<=cs.length)
  (d:∀a,Mv [b] h [b] a->gE a b (cs.take off++new++cs.drop (off+new.length))->K a):da h ⟨b,off,none⟩ new K:=by
 obtain ⟨e,f⟩:=k.put c;exact ⟨k.sM _ c,d _ (Mv.kS f) e⟩
section
variable {α:Type} {h:Hp} {sz:Nat} {enc:α->List Value} {l:Sl} {xs:List α}
def dJ (h:Hp) (sz:Nat) (enc:α->List Value) (l:Sl) (xs:List α) (F:List Nat):Prop:=
 l.len=xs.length/\l.len<=l.cap/\((l.base=none/\l.cap=0/\F=[])\/
  ∃(b:Nat) (a:List Value),l.base=some ⟨b,0,none⟩/\F=[b]/\gE h b a/\a.length=l.cap*sz/\a.take (l.len*sz)=xs.flatMap enc)
theorem dJ.own {F:List Nat} {h0:Hp} (o:dJ h sz enc l xs F) (m:∀b∈F,h0 b=none):Own h0 h sz enc l xs:=by
 obtain ⟨d,e,f⟩:=o;refine ⟨d,e,?_⟩;rcases f with ⟨a,c,_⟩ | ⟨b,g,a,rfl,⟨t,i⟩,j,k⟩
 ·exact .inl ⟨a,c⟩
 grind
theorem dJ.rw {F:List Nat} (o:dJ h sz enc l xs F) (a:∀x,(enc x).length=sz):Rw h sz enc l xs:=(o.own (h0:=λ_=>none) λ_ _=>rfl).rw a
theorem Own.xE {c:Hp} (o:Own c h sz enc l xs):∃F,dJ h sz enc l xs F/\∀b∈F,c b=none:=by
 obtain ⟨d,e,m⟩:=o;rcases m with ⟨a,g⟩ | ⟨b,f,t,a,i,j,k,p⟩
 ·exact ⟨[],⟨d,e,.inl ⟨a,g,rfl⟩⟩,λb hb=>by cases hb⟩
 ·exact ⟨[b],⟨d,e,.inr ⟨b,f,a,rfl,⟨t,i⟩,j,k⟩⟩,λn hb=>by grind⟩
theorem dJ.known {F:List Nat} (o:dJ h sz enc l xs F):∀b∈F,h b≠none:=by
 obtain ⟨_,_,c⟩:=o;rcases c with ⟨_,_,rfl⟩ | ⟨b,e,_,rfl,a,_,_⟩
 ·simp
 ·intro d hb;rw [List.mem_singleton.1 hb];exact a.known
theorem dJ.same {F:List Nat} {a:Hp} (o:dJ h sz enc l xs F) (k:∀b∈F,a b=h b):dJ a sz enc l xs F:=by obtain ⟨f,g,i⟩:=o;refine ⟨f,g,i.imp id ?_⟩;rintro ⟨b,c,d,rfl,⟨t,j⟩,e⟩;exact ⟨b,c,d,rfl,⟨t,by grind⟩,e⟩
theorem dJ.mv {F G d:List Nat} {c:Hp} (o:dJ h sz enc l xs F) (a:Mv G h d c) (n:∀b∈F,b∉G):dJ c sz enc l xs F:=by obtain ⟨j,k,m⟩:=o;refine ⟨j,k,m.imp id ?_⟩;rintro ⟨b,e,f,rfl,g,i⟩;exact ⟨b,e,f,rfl,g.mv a (n b (List.mem_singleton.2 rfl)),i⟩
theorem CD {c:List Value} {K:Addr->Hp->Prop} (e:c=xs.flatMap enc) (d:∀x,(enc x).length=sz)
  (f:∀b a,h b=none->h<=a->Mv [] h [b] a->dJ a sz enc ⟨some ⟨b,0,none⟩,xs.length,xs.length⟩ xs [b]->K ⟨b,0,none⟩ a):bP c K h:=by
 intro b t hb;refine f b _ hb (nu hb) (Mv.new hb) ⟨rfl,Nat.le_refl _,.inr ⟨b,c,rfl,rfl,⟨t,oX⟩,?_,?_⟩⟩
 ·rw [e,jo d]
 ·have:(xs.length*sz)=(xs.flatMap enc).length:=(jo d xs).symm;grind
theorem xt {F:List Nat} {zero:List Value} {bytes:Nat} {x:Sl} {d:List α} {K:Sl->Hp->Prop} (o:dJ h sz enc l xs F) (r:Rw h sz enc x d) (f:∀x,(enc x).length=sz) (J:∀x,jE (enc x)=true)
  (N:zero.length=sz) (hb:xs.length+d.length<=140737488355328/\(xs.length+d.length)*bytes<=140737488355328)
  (n:∀w k p,dJ k sz enc w (xs++d) p->Mv F h p k->K w k):gF sz bytes zero l x K h:=by
 have L:=o.rw f;obtain ⟨g,C,D⟩:=o;obtain ⟨i,Q⟩:=r;refine ⟨d.flatMap enc,by grind,xs.flatMap enc,by rw [g];exact L.2,by grind,sZ J d,λu=> ?_,λu c b t G E=> ?_⟩
 ·rcases D with ⟨e,B,rfl⟩ | ⟨b,q,e,rfl,s,H,M⟩
  ·have y:d.length=0:=by omega
   have z:d=[]:=List.length_eq_zero_iff.1 y;subst z;refine ⟨λa m=>(by grind),?_⟩;have j:gC h l.base (l.len*sz) (([]:List α).flatMap enc)=h:=by rw [e];rfl
   rw [j,i];exact n _ h [] ⟨by simp [g],by simpa using C,.inl ⟨e,B,rfl⟩⟩ (Mv.refl _ _)
  ·have v:l.len*sz+(d.flatMap enc).length<=q.length:=by rw [H,jo f,<-Nat.add_mul];exact Nat.mul_le_mul_right sz (by omega)
   obtain ⟨O,P⟩:=s.put v;refine ⟨λa m=> ?_,?_⟩
   ·rw [e] at m;cases m;rw [kH,Nat.zero_add];refine s.sM _ ?_;rw [i,<-jo f d];exact v
   ·have j:gC h l.base (l.len*sz) (d.flatMap enc)=kB h ⟨b,l.len*sz,none⟩ (d.flatMap enc) 0:=by rw [e];simp only [gC,kH,Nat.zero_add]
    rw [j];refine n _ _ [b] ⟨by simp [g,i],u,.inr ⟨b,_,e,rfl,O,?_,?_⟩⟩ (Mv.kS P)
    ·grind
    ·have A:(l.len+x.len)*sz=(q.take (l.len*sz)++d.flatMap enc).length:=by rw [List.length_append,M,jo f,jo f,g,i,Nat.add_mul]
     grind
 ·have I:Mv F h [b] (h.set b (.cells (xs.flatMap enc++d.flatMap enc++fW zero (c-(l.len+x.len))).toArray t (0,0))):=
   (Mv.new E).sub (λb hb=>by cases hb) λb hb=>.inl hb
  refine n _ _ [b] ⟨by simp [g,i],G,.inr ⟨b,xs.flatMap enc++d.flatMap enc++fW zero (c-(l.len+x.len)),rfl,rfl,⟨t,oX⟩,?_,?_⟩⟩ I
  ·rw [List.length_append,List.length_append,jo f,jo f,yA,N,<-Nat.add_mul,<-Nat.add_mul];grind
  ·have A:(l.len+x.len)*sz=(xs.flatMap enc++d.flatMap enc).length:=by rw [List.length_append,jo f,jo f,g,i,Nat.add_mul]
   grind
end
theorem DN {F e E:List Nat} {k d:Hp} (m:Mv F k e d) (f:∀c∈E,k c≠none) (g:∀c∈E,c∉F):∀c∈E,d c=k c:=λc a=>by
 cases b:k c with
 | none=>exact absurd b (f c a)
 | some o=>exact m.cW c o b (g c a)
theorem adm {F a E:List Nat} {k g:Hp} (m:Mv F k a g) (d:∀c∈E,k c≠none) (e:∀c∈E,c∉F):∀c∈E,c∉a:=λc b f=>by
 rcases m.from_ c f with h | h
 ·exact e c b h
 ·exact d c b h
theorem Mv.less {F d E:List Nat} {h e:Hp} (a:Mv F h d e) (f:∀c∈E,c∈d):Mv F h E e:=⟨a.cW,λb hb=>a.from_ b (f b hb)⟩
structure nL (h k:Hp) (Rg:List (List Nat)):Prop where
 sep:∀(a b:Nat) E G,Rg[a]? =some E->Rg[b]? =some G->a≠b->∀c∈E,c∉G
 known:∀(a:Nat) E,Rg[a]? =some E->∀c∈E,k c≠none
 fresh:∀(a:Nat) E,Rg[a]? =some E->∀c∈E,h c=none
 le:h<=k
theorem nL.grow {h k f:Hp} {b:List (List Nat)} (r:nL h k b) (d:k<=f):nL h f b:=
 ⟨r.sep,λa E g c i e=>r.known a E g c i (tV d e),r.fresh,Hp.le_trans r.le d⟩
theorem nL.step {h k t:Hp} {l:List (List Nat)} {j:Nat} {F i:List Nat} (r:nL h k l) (o:l[j]? =some F) (m:Mv F k i t) (C:∀c∈i,t c≠none):nL h t (l.set j i):=by
 have A:j<l.length:=(List.getElem?_eq_some_iff.1 o).1;have n:∀a E,(l.set j i)[a]? =some E->(a=j/\E=i)\/(a≠j/\l[a]? =some E):=by
  intro a E d;rw [List.getElem?_set,if_pos A] at d;split at d
  ·rename_i e;exact .inl ⟨e.symm,(Option.some.inj d).symm⟩
  ·rename_i e;exact .inr ⟨λy=>e y.symm,d⟩
 have x:∀a E,a≠j->l[a]? =some E->∀c∈E,c∉i:=λa E B d=>adm m (r.known a E d) (r.sep a j E F d o B);have z:∀c∈i,h c=none:=(m.le r.le (r.fresh j F o)).2;refine ⟨λa b E G d v w c f s=> ?_,λa E d c f=> ?_,λa E d c f=> ?_,(m.le r.le (r.fresh j F o)).1⟩
 ·rcases n a E d with ⟨rfl,rfl⟩ | ⟨p,g⟩
  ·rcases n b G v with ⟨rfl,rfl⟩ | ⟨u,q⟩
   ·exact w rfl
   ·exact x b G u q c s f
  ·rcases n b G v with ⟨rfl,rfl⟩ | ⟨u,q⟩
   ·exact x a E p g c f s
   ·exact r.sep a b E G g q w c f s
 ·rcases n a E d with ⟨rfl,rfl⟩ | ⟨p,g⟩
  ·exact C c f
  ·have:=DN m (r.known a E g) (r.sep a j E F g o p) c f;rw [this];exact r.known a E g c f
 ·rcases n a E d with ⟨rfl,rfl⟩ | ⟨p,g⟩
  ·exact z c f
  ·exact r.fresh a E g c f
theorem nL.other {h k e:Hp} {b:List (List Nat)} {j a:Nat} {F f E:List Nat} (r:nL h k b) (g:b[j]? =some F) (m:Mv F k f e) (d:b[a]? =some E) (i:a≠j):∀c∈E,e c=k c:=
 DN m (r.known a E d) (r.sep a j E F d g i)
theorem nL.push {h k p:Hp} {f:List (List Nat)} {E:List Nat} (r:nL h k f) (t:k<=p) (o:∀c∈E,k c=none) (v:∀c∈E,p c≠none):nL h p (f++ [E]):=by
 have l:∀a G,(f++ [E])[a]? =some G->(a=f.length/\G=E)\/(a<f.length/\f[a]? =some G):=by
  intro a G i;by_cases h1:a<f.length
  ·rw [List.getElem?_append_left h1] at i;exact .inr ⟨h1,i⟩
  ·rw [List.getElem?_append_right (by omega)] at i;have g:a-f.length=0:=by have:=(List.getElem?_eq_some_iff.1 i).1;simp at this;omega
   rw [g] at i;exact .inl ⟨by omega,(Option.some.inj i).symm⟩
 refine ⟨λa b A B j q s c d n=> ?_,λa A j c d=> ?_,λa A j c d=> ?_,Hp.le_trans r.le t⟩
 ·rcases l a A j with ⟨rfl,rfl⟩ | ⟨h1,g⟩
  ·rcases l b B q with ⟨rfl,rfl⟩ | ⟨u,m⟩
   ·exact s rfl
   ·exact r.known b B m c n (o c d)
  ·rcases l b B q with ⟨rfl,rfl⟩ | ⟨u,m⟩
   ·exact r.known a A g c d (o c n)
   ·exact r.sep a b A B g m s c d n
 ·rcases l a A j with ⟨rfl,rfl⟩ | ⟨h1,g⟩
  ·exact v c d
  ·exact λe=>r.known a A g c d (tV t e)
 ·rcases l a A j with ⟨rfl,rfl⟩ | ⟨h1,g⟩
  ·exact tV r.le (o c d)
  ·exact r.fresh a A g c d
structure eh where
 R:Hp->(Nat->Prop)->Prop
 same:∀ {k k':Hp} {F:Nat->Prop},R k F->(∀b,F b->k' b=k b)->R k' F
 known:∀ {k:Hp} {F:Nat->Prop},R k F->∀b,F b->k b≠none
def Has (h0:Hp) (A:eh) (k:Hp):Prop:=h0<=k/\∃F,A.R k F/\∀b,F b->h0 b=none
def eh.star (A B:eh):eh where
 R k F:=∃f g:Nat->Prop,(∀b,F b↔f b\/g b)/\(∀b,f b->¬g b)/\A.R k f/\B.R k g
 same:=by rintro k i F ⟨f,g,e,d,a,b⟩ h;exact ⟨f,g,e,d,A.same a λc hc=>h c ((e c).2 (.inl hc)),B.same b λc hc=>h c ((e c).2 (.inr hc))⟩
 known:=by
  rintro k F ⟨f,g,e,d,a,b⟩ c hc;rcases (e c).1 hc with hc | hc
  ·exact A.known a c hc
  ·exact B.known b c hc
def eh.fact (p:Prop):eh:=⟨λ_ F=>p/\∀b,¬F b,λh _=>h,λh b hb=>absurd hb (h.2 b)⟩
def eh.some_ {b:Type} (A:b->eh):eh:=⟨λk F=>∃x,(A x).R k F,λ⟨x,h⟩ a=>⟨x,(A x).same h a⟩,λ⟨x,h⟩=>(A x).known h⟩
def eh.first (A:Nat->eh):Nat->eh
 | 0=>.fact True
 | n+1=>(eh.first A n).star (A n)
noncomputable def Hp.less (k:Hp) (F:Nat->Prop):Hp:=λb=>open Classical in if F b then none else k b
theorem Hp.tG {k:Hp} {F:Nat->Prop}:k.less F<=k:=λb o e=>by unfold Hp.less at e;grind
theorem Hp.nw {k:Hp} {F:Nat->Prop} {b:Nat} (h:¬F b):k.less F b=k b:=if_neg h
theorem Hp.tF {k:Hp} {F:Nat->Prop} {b:Nat} (h:F b):k.less F b=none:=if_pos h
section
variable {h0 h1 k f:Hp} {A g B C D:eh}
theorem Has.le (o:Has h0 A k):h0<=k:=o.1
theorem Has.fst (o:Has h0 (A.star B) k):∃h1,h0<=h1/\Has h1 A k/\(∃i,B.R h1 i/\∀b,i b->h0 b=none)/\∀g f,Has h1 g f->Has h0 (g.star B) f:=by
 obtain ⟨w,F,⟨l,i,e,d,a,b⟩,u⟩:=o;have n:B.R (k.less l) i:=B.same b λc hc=>Hp.nw λh=>d c h hc;have f2:∀b,i b->h0 b=none:=λc hc=>u c ((e c).2 (.inr hc));have p:h0<=k.less l:=λc j m=>by
  have:¬l c:=λh=>by grind
  rw [Hp.nw this];exact w c j m
 refine ⟨k.less l,p,⟨Hp.tG,l,a,λc hc=>Hp.tF hc⟩,⟨i,n,f2⟩,λg f j=> ?_⟩;obtain ⟨r,q,s,v⟩:=j;refine ⟨Hp.le_trans p r,λc=>q c\/i c,⟨q,i,λ_=>Iff.rfl,λc hc t=> ?_,s,B.same n λc hc=> ?_⟩,λc hc=> ?_⟩
 ·exact B.known n c t (v c hc)
 ·cases m:(k.less l) c with
  | none=>exact absurd m (B.known n c hc)
  | some j=>exact r c j m
 ·rcases hc with hc | hc
  ·cases m:h0 c with
   | none=>rfl
   | some j=>have:=p c j m;grind
  ·exact f2 c hc
theorem Has.map (h:∀k F,A.R k F->g.R k F) (o:Has h0 A k):Has h0 g k:=by obtain ⟨c,F,a,b⟩:=o;exact ⟨c,F,h k F a,b⟩
theorem xj {F:Nat->Prop} (h:(A.star B).R k F):(B.star A).R k F:=by obtain ⟨i,j,e,d,a,b⟩:=h;exact ⟨j,i,λc=>(e c).trans or_comm,λc h1 l=>d c l h1,b,a⟩
theorem B9 {F:Nat->Prop} (h:((A.star B).star C).R k F):(A.star (B.star C)).R k F:=by
 obtain ⟨o,j,e,d,⟨n,i,l,p,a,b⟩,c⟩:=h;refine ⟨n,λx=>i x\/j x,λx=> ?_,λx h1 m=> ?_,a,i,j,λ_=>Iff.rfl,λx h1 m=>d x ((l x).2 (.inr h1)) m,b,c⟩
 ·rw [e,l,or_assoc]
 grind
theorem Cd {F:Nat->Prop} (j:∀F,A.R k F->C.R k F) (hb:∀F,B.R k F->D.R k F) (h:(A.star B).R k F):(C.star D).R k F:=by obtain ⟨c,i,e,d,a,b⟩:=h;exact ⟨c,i,e,d,j _ a,hb _ b⟩
theorem Has.comm (o:Has h0 (A.star B) k):Has h0 (B.star A) k:=o.map λ_ _=>xj
theorem Has.assoc (o:Has h0 ((A.star B).star C) k):Has h0 (A.star (B.star C)) k:=o.map λ_ _=>B9
theorem Has.Cq (o:Has h0 (A.star (B.star C)) k):Has h0 ((A.star B).star C) k:=o.map λ_ _ h=>xj (B9 (xj (B9 (xj h))))
theorem Has.snd (o:Has h0 (A.star B) k):∃h1,h0<=h1/\Has h1 B k/\(∃h,A.R h1 h/\∀b,h b->h0 b=none)/\∀e f,Has h1 e f->Has h0 (A.star e) f:=by obtain ⟨h1,a,b,c,d⟩:=o.comm.fst;exact ⟨h1,a,b,c,λe f i=>(d e f i).comm⟩
theorem Has.left (o:Has h0 (A.star B) k):Has h0 A k:=by obtain ⟨l,F,⟨h,m,e,d,a,b⟩,j⟩:=o;exact ⟨l,h,a,λc i=>j c ((e c).2 (.inl i))⟩
theorem Has.right (o:Has h0 (A.star B) k):Has h0 B k:=o.comm.left
theorem Has.mono (o:Has h1 A k) (c:h0<=h1):Has h0 A k:=by obtain ⟨h,F,a,d⟩:=o;exact ⟨Hp.le_trans c h,F,a,λb hb=>tV c (d b hb)⟩
theorem Has.grow (o:Has h0 A k) (c:k<=f):Has h0 A f:=by
 obtain ⟨h,F,a,d⟩:=o;refine ⟨Hp.le_trans h c,F,A.same a λb hb=> ?_,d⟩;cases e:k b with
 | none=>exact absurd e (A.known a b hb)
 | some i=>exact c b i e
theorem Has.beside (o:Has h0 A k) (n:Has k B f):Has h0 (A.star B) f:=by
 obtain ⟨h,F,a,l⟩:=o;obtain ⟨i,G,b,d⟩:=n;refine ⟨Hp.le_trans h i,λc=>F c\/G c,⟨F,G,λ_=>Iff.rfl,λc h1 j=>A.known a c h1 (d c j),A.same a λc hc=> ?_,b⟩,λc hc=> ?_⟩
 ·cases e:k c with
  | none=>exact absurd e (A.known a c hc)
  | some m=>exact i c m e
 ·rcases hc with hc | hc
  ·exact l c hc
  ·exact tV h (d c hc)
theorem Has.carry {X:eh} (put:∀f,Has h1 A f->Has h0 X f) (o:Has h1 (A.star B) k):Has h0 (X.star B) k:=by
 obtain ⟨p,F,⟨l,j,e,d,a,b⟩,n⟩:=o;have ol:Has h1 A (k.less j):=⟨λc r m=>by
  have q:¬j c:=λh=>by grind
  rw [Hp.nw q];exact p c r m,l,A.same a λc i=>Hp.nw (λh=>d c i h),λc i=>n c ((e c).2 (.inl i))⟩
 exact (put _ ol).beside ⟨Hp.tG,j,b,λc i=>Hp.tF i⟩
theorem Has.fact {p:Prop} (hp:p) (a:h0<=k):Has h0 (.fact p) k:=⟨a,λ_=>False,⟨hp,λ_ h=>h⟩,λ_ h=>h.elim⟩
theorem Has.vF {p:Prop} (o:Has h0 (.fact p) k):p:=by obtain ⟨_,_,h,_⟩:=o;exact h.1
theorem Has.fV {p:Prop} (o:Has h0 A k) (hp:p):Has h0 (A.star (.fact p)) k:=o.beside (Has.fact hp (Hp.le_refl _))
theorem Has.j8 {p:Prop} (o:Has h0 (A.star (.fact p)) k):Has h0 A k/\p:=⟨o.left,o.right.vF⟩
theorem Has.ex {d:Type} {A:d->eh}:Has h0 (.some_ A) k↔∃x,Has h0 (A x) k:=
 ⟨λ⟨c,F,⟨x,a⟩,b⟩=>⟨x,c,F,a,b⟩,λ⟨x,c,F,a,b⟩=>⟨c,F,⟨x,a⟩,b⟩⟩
end
theorem tT {A B:Nat->eh}:∀ {n:Nat},(∀i,i<n->A i=B i)->eh.first A n=eh.first B n
 | 0,_=>rfl
 | n+1,h=>by show (eh.first A n).star (A n)=(eh.first B n).star (B n);rw [tT λi a=>h i (by omega),h n (by omega)]
section
variable {h0 k:Hp} {A:Nat->eh} {B:eh}
theorem Has.one {n i:Nat} (J:i<n) (o:Has h0 (eh.first A n) k):∃f,h0<=f/\Has f (A i) k/\(∀j,j<n->j≠i->∃l,(A j).R f l)/\∀g h,Has f g h->Has h0 (eh.first (cN A i g) n) h:=by
 induction n generalizing h0 with
 | zero=>omega
 | succ n r=>
  by_cases e:i=n
  ·subst e;obtain ⟨f,a,b,c,d⟩:=Has.snd o;obtain ⟨l,H,x⟩:=c;refine ⟨f,a,b,λj q G=> ?_,λg h p=> ?_⟩
   ·have key:∀m (F:Nat->Prop),(eh.first A m).R f F->j<m->∃l,(A j).R f l:=by
     intro m
     induction m with
     | zero=>intro F _ q;omega
     | succ m r=>
      rintro F ⟨u,v,_,_,C,D⟩ q;by_cases e:j=m
      ·subst e;exact ⟨v,D⟩
      ·exact r u C (by omega)
    grind
   ·have:=d g h p;show Has h0 ((eh.first (cN A i g) i).star (cN A i g i)) h;rw [kg,tT (B:=A) λj q=>kp (by omega)];exact this
  ·obtain ⟨f,a,b,c,d⟩:=Has.fst o;obtain ⟨E,a2,w,x,y⟩:=r (h0:=f) (by omega) b;obtain ⟨l,s,I⟩:=c;refine ⟨E,Hp.le_trans a a2,w,λj q G=> ?_,λg h p=> ?_⟩
   ·by_cases z:j=n
    ·subst z;refine ⟨l,(A j).same s λb hb=> ?_⟩;cases t:f b with
     | none=>exact absurd t ((A j).known s b hb)
     | some p=>exact a2 b p t
    grind
   ·have:=d _ _ (y g h p);show Has h0 ((eh.first (cN A i g) n).star (cN A i g n)) h;rw [kp (by omega)];exact this
theorem Has.at_ {n i:Nat} (c:i<n) (o:Has h0 (eh.first A n) k):Has h0 (A i) k:=by obtain ⟨d,a,b,_,_⟩:=o.one c;exact b.mono a
end
def Ci (b:Nat) (a:List Value):eh:=⟨λk F=>gE k b a/\∀c,F c↔c=b,λh f=>⟨h.1.imp λt e=>(by grind),h.2⟩,λh c d=>by rw [(h.2 c).1 d];exact h.1.known⟩
theorem Has.zG {d k:Hp} {b:Nat} {c:List Value} (o:Has d (Ci b c) k):gE k b c/\d b=none:=by obtain ⟨_,F,⟨a,e⟩,f⟩:=o;grind
theorem Has.Hf {a k:Hp} {b:Nat} {d:List Value} (f:a<=k) (hb:gE k b d) (g:a b=none):Has a (Ci b d) k:=
 ⟨f,λc=>c=b,⟨hb,λ_=>Iff.rfl⟩,λc e=>by rw [e];exact g⟩
def dR (sh:Shape) (p:Addr) (x:sh.T):eh:=(Ci p.block (bu (sh.enc x))).star (.fact (p=⟨p.block,0,none⟩))
section
variable {h0 k:Hp} {sh:Shape} {p:Addr} {x:sh.T}
theorem Has.qD (o:Has h0 (dR sh p x) k):∃b,p=⟨b,0,none⟩/\gE k b (bu (sh.enc x))/\h0 b=none:=⟨p.block,o.right.vF,(Has.left o).zG⟩
theorem Has.zV {b:Nat} (a:h0<=k) (hb:gE k b (bu (sh.enc x))) (c:h0 b=none):Has h0 (dR sh ⟨b,0,none⟩ x) k:=(Has.Hf a hb c).fV rfl
theorem Has.ld (o:Has h0 (dR sh p x) k) {shf:Shape} (v:shf.T) {off:Nat} (hv:((bu (sh.enc x)).drop off).take (bu (shf.enc v)).length=bu (shf.enc v)) {K:shf.T->Prop} (a:K v):aQ none shf k (p.add off) K:=by obtain ⟨b,rfl,hb,_⟩:=o.qD;refine ⟨v,?_,a⟩;rw [kH,Nat.zero_add];exact hb.nY hv
theorem Has.uR (o:Has h0 (dR sh p x) k) {shf:Shape} (v:shf.T) (hv:(bu (sh.enc x)).take (bu (shf.enc v)).length=bu (shf.enc v)) {K:shf.T->Prop} (a:K v):aQ none shf k p K:=by obtain ⟨b,rfl,hb,_⟩:=o.qD;exact ⟨v,hb.nY (off:=0) (by simpa using hv),a⟩
theorem Has.Cz (o:Has h0 (dR sh p x) k) {shf:Shape} {c:Bool} (v:shf.T) {off:Nat} (hv:((bu (sh.enc x)).drop off).take (bu (shf.enc v)).length=bu (shf.enc v)) {K:shf.T->Prop} (a:K v):aQ (some c) shf k (p.add off) K:=by obtain ⟨b,rfl,hb,_⟩:=o.qD;refine ⟨v,λ_=> ?_,a⟩;rw [kH,Nat.zero_add];exact hb.nY hv
theorem Has.fq (o:Has h0 (dR sh p x) k) {off n:Nat} {vs:List Value} (hv:((bu (sh.enc x)).drop off).take n=vs):bG k (p.add off) vs:=by obtain ⟨b,rfl,hb,_⟩:=o.qD;rw [kH,Nat.zero_add];exact hb.nY hv
theorem Has.st (o:Has h0 (dR sh p x) k) (x':sh.T) {off:Nat} {new:List Value} (g:off+new.length<=(bu (sh.enc x)).length) (l:(bu (sh.enc x)).take off++new++(bu (sh.enc x)).drop (off+new.length)=bu (sh.enc x'))
  {K:Hp->Prop} (f:∀a,Has h0 (dR sh p x') a->K a):da k (p.add off) new K:=by
 obtain ⟨b,rfl,hb,h⟩:=o.qD;rw [kH,Nat.zero_add];refine rP hb g λa m i=>f a (Has.zV (λc d e=> ?_) (by grind) h);exact m.cW c d (o.1 c d e) λj=>by grind
theorem Has.CO (o:Has h0 (dR sh p x) k) (a:sh.T) {new:List Value} (f:new.length<=(bu (sh.enc x)).length) (g:new++(bu (sh.enc x)).drop new.length=bu (sh.enc a))
  {K:Hp->Prop} (d:∀c,Has h0 (dR sh p a) c->K c):da k p new K:=by
 obtain ⟨b,e,_⟩:=o.qD;have:=o.st a (off:=0) (new:=new) (by omega) (by grind) d;subst e;simpa [kH] using this
theorem oY {k:Hp} (x:sh.T) {c:List Value} (d:c=bu (sh.enc x)) {K:Addr->Hp->Prop} (e:∀p a,k<=a->Has k (dR sh p x) a->K p a):bP c K k:=by intro b t hb;refine e _ _ (nu hb) ?_;exact Has.zV (nu hb) ⟨t,by rw [<-d];exact oX⟩ hb
end
section
variable {P:Program} {h:Hp}
theorem cG {b c:Type} (s:Sem b) (f:b->Sem c) {K:c->Hp->Prop}:du P (s>>=f) K h↔du P s (λa h=>du P (f a) K h) h:=E2 s f
theorem Za {t:Nat} {i:TypeInfo} (a:P.info? t=some i) {K:Nat->Hp->Prop} (b:K i.size h):du P (sizeOf t) K h:=by
 show du P (Sem.bind (match P.info? t with
  | some d=>Sem.pure d
  | none=>_) _) K h
 rw [a];exact b
theorem OC {a:Addr} {o:Obj} (e:h a.block=some o) {K:Bool->Hp->Prop} (b:K (gS h a) h):du P (frozen a) K h:=⟨⟨o,e⟩,b⟩
theorem xX {r:Nat} {o:Obj} (e:h r=some o) {K:Option (TypeId×Nat)->Hp->Prop} (a:K (DB o) h):du P (shape r) K h:=⟨o,e,a⟩
theorem FY {b:Nat} {a:List Value} (k:gE h b a) (off:Nat):gS h ⟨b,off,none⟩=false:=by obtain ⟨t,e⟩:=k;unfold gS;simp [e]
theorem LW {b off:Nat} {a:List Value} (k:gE h b a) {K:Unit->Hp->Prop} (c:K () h):du P (noView ⟨b,off,none⟩) K h:=by obtain ⟨t,e⟩:=k;unfold noView viewAt;refine (cG _ _).2 ((cG _ _).2 (xX (r:=b) e ?_));exact c
theorem Jy {b off:Nat} {d:List Value} (k:gE h b d) {K:Bool->Hp->Prop} (f:K false h):du P (stringish ⟨b,off,none⟩) K h:=by have c:=k;obtain ⟨t,e⟩:=k;unfold stringish;refine (cG _ _).2 (OC (a:=⟨b,off,none⟩) e ?_);rw [FY c];refine (cG _ _).2 (xX (r:=b) e ?_);refine OC (a:=⟨b,_,none⟩) e ?_;rw [FY c];exact f
theorem aci {j z e:Nat} {i:TypeInfo} {a b c f o q p t:Nat} {s u:List Value} {K:Bool->Hp->Prop} (y:P.underlying j=some (.slice e)) (x:P.info? e=some i) (g:gE h a s) (k:gE h b u) (n:a≠b)
  (m:K false h):ku P (Extern.SlicesOverlaps.overlaps #[j,j] #[z] #[.slice (some ⟨a,c,none⟩) o q,.slice (some ⟨b,f,none⟩) p t]) aR K h:=by
 have v:((⟨a,c,none⟩:Addr).block !=(⟨b,f,none⟩:Addr).block)=true:=by simpa using n
 have w:((⟨a,c,none⟩:Addr).block==(⟨b,f,none⟩:Addr).block)=false:=by simpa using n
 obtain ⟨A,ea⟩:=id g;obtain ⟨tb,eb⟩:=id k;unfold ku;show du P (α:=Value) (underlying j>>=λd=>_) _ h;refine (cG _ _).2 (FX y ?_);refine (cG _ _).2 (Za x ?_);dsimp only;by_cases l:o=0\/p=0\/i.size=0
 ·rw [if_pos l];exact ⟨false,rfl,m⟩
 ·rw [if_neg l];refine (cG _ _).2 (OC (a:=⟨a,c,none⟩) ea ?_);refine (cG _ _).2 (OC (a:=⟨b,f,none⟩) eb ?_);rw [v,FY g];simp only [Bool.true_and,Bool.false_and,Bool.false_eq_true,if_false,if_true];refine (cG _ _).2 (LW g ?_);refine (cG _ _).2 (LW k ?_);refine (cG _ _).2 ?_;unfold mayBeOne;refine (cG _ _).2 (Jy g ?_);refine (cG _ _).2 (Jy k ?_);refine (cG _ _).2 ((cG _ _).2 (xX (r:=a) ea ?_));refine (cG _ _).2 ((cG _ _).2 (xX (r:=b) eb ?_));simp only [Bool.false_and,Bool.or_false];refine ⟨false,?_,m⟩;rw [w];rfl
theorem Iz {a:Addr}:∀(b:List Value) (i:Nat) {h:Hp} {K:Unit->Hp->Prop},jE b=true->(∀j,j<b.length->(∃v,dw h (a.add (i+j))=some v)/\gS h (a.add (i+j))=false)->
  K () (kB h a b i)->du P (storeCells a b i) K h
 | [],i,h,K,_,_,c=>c
 | v::b,i,h,K,d,m,c=>by
  obtain ⟨f,g⟩:=m 0 (by simp);rw [Nat.add_zero] at f g;have o:jE b=true:=by cases v<;>first | (exact d) | (cases d)
  have step:du P (storeCells a b (i+1)) K (h.put (a.add i) v):=by
   refine Iz b (i+1) o (λj n=> ?_) c;obtain ⟨⟨u,k⟩,l⟩:=m (j+1) (by simpa using n);have e:i+(j+1)=i+1+j:=by omega
   rw [e] at k l;exact ⟨Ie ⟨u,k⟩,(by rw [If];exact l)⟩
  show du P (Sem.store Mode.plain (a.add i) v (storeCells a b (i+1))) K h;cases v<;>first | (exact ⟨f,g,step⟩) | (cases d)
theorem Ip {t e b off n c:Nat} {z:Value} {a:List Value} {K:Hp->Prop} (o:P.underlying t=some (.slice e)) (p:∀ {K:Value->Hp->Prop} {h:Hp},K z h->du P (zeroValue e) K h) (l:∀n,jE (fW (bu z) n)=true) (g:gE h b a)
  (s:off+n*(bu z).length<=a.length)
  (i:∀f,Mv [b] h [b] f->gE f b (a.take off++fW (bu z) n++a.drop (off+n*(bu z).length))->K f):
  mY P (Builtin.clear_ #[t] 0 #[.slice (some ⟨b,off,none⟩) n c]) uf K h:=by
 unfold mY ku;show du P (α:=Value) (underlying t>>=λd=>_) _ h;refine (cG _ _).2 (FX o ?_);cases n with
 | zero=>refine ⟨(),rfl,i h (Mv.refl _ _) ?_⟩;simp [fW];exact g
 | succ n=>
  refine (cG _ _).2 ?_;refine p ?_;have q:(Builtin.zeroCells z.cells (n+1)).toList=fW (bu z) (n+1):=by rw [Gq,oV]
  have u:(fW (bu z) (n+1)).length=(n+1)*(bu z).length:=yA _ _;obtain ⟨v,r⟩:=g.put (off:=off) (new:=fW (bu z) (n+1)) (by omega);have m:=g.sM (off:=off) (fW (bu z) (n+1)).length (by omega);refine (cG _ _).2 ?_;rw [q];refine Iz _ 0 (l _) (λj k=> ?_) ⟨(),rfl,i _ (Mv.kS r) (by grind)⟩;rw [Nat.zero_add];exact uA m j k
end
section
variable {α:Type} {h:Hp} {sz:Nat} {enc:α->List Value} {l:Sl} {xs:List α}
theorem Rw.vv (r:Rw h sz enc l xs) (d:∀x,(enc x).length=sz) (k:0<sz) {sh:Shape} (g:α->sh.T) {j:Nat} (n:∀x,((enc x).drop j).take (bu (sh.enc (g x))).length=bu (sh.enc (g x))) {i:Int} (b:0<=i) (c:i<(xs.length:Int))
  {K:sh.T->Prop} (e:∀x,xs[i.toNat]? =some x->K (g x)):br l.base l.len i/\aQ none sh h ((sat l.base sz i).add j) K:=by
 obtain ⟨a,x,m,f⟩:=r.read d k b (by rw [r.1];exact c);refine ⟨a,g x,λq v hv=> ?_,e x m⟩;rw [s6];refine f (j+q) v ?_;grind
theorem Rw.OZ (r:Rw h sz enc l xs) (m:∀x,(enc x).length=sz) (p:0<sz) {sh:Shape} (g:α->sh.T) {j:Nat} (n:∀x,((enc x).drop j).take (bu (sh.enc (g x))).length=bu (sh.enc (g x))) (d:sh.T) {c:Bool} {i:Int} (a:c=true->0<=i/\i<(xs.length:Int))
  {K:sh.T->Prop} (b:∀y,(c=true->∃x,xs[i.toNat]? =some x/\y=g x)->K y):(c=true->br l.base l.len i)/\aQ (some c) sh h ((sat l.base sz i).add j) K:=by
 cases c with
 | false=>exact ⟨λe=>(by cases e),d,λe=>(by cases e),b d λe=>(by cases e)⟩
 | true=>obtain ⟨a,k⟩:=a rfl;obtain ⟨f,y,s,o⟩:=r.vv m p g n a k (K:=λy=>∃x,xs[i.toNat]? =some x/\y=g x) λx q=>⟨x,q,rfl⟩;exact ⟨λ_=>f,y,λ_=>s,b y λ_=>o⟩
theorem uG {b o a c:Nat} (d:c≠a):bh (some ⟨b,o,none⟩) sz a c=some ⟨b,o+a*sz,none⟩:=by unfold bh;rw [if_neg d];show some ((⟨b,o,none⟩:Addr).add (a*sz))=_;rw [kH]
theorem gE.rd {b:Nat} {a new:List Value} (k:gE h b a) {off n:Nat} (c:new.length=n) (e:(a.drop off).take n=new):pI h (some ⟨b,off,none⟩) n new:=⟨c,.inr ⟨_,rfl,k.nY e⟩⟩
theorem Fz {b off dl j n:Nat} {c new:List Value} {x:Sl} {K:Int->Hp->Prop} (g:gE h b c) (q:min x.len dl=n) (f:pI h x.base (n*sz) new) (r:jE new=true) (o:off+n*sz<=c.length)
  (m:∀d,Mv [b] h [b] d->gE d b (c.take off++new++c.drop (off+n*sz))->K (n:Nat) d):gz sz ⟨some ⟨b,off,none⟩,dl,j⟩ x K h:=by
 subst q;have p:new.length=min x.len dl*sz:=f.1;refine ⟨new,f,r,λa k=> ?_,?_⟩
 ·cases k;exact g.sM _ o
 ·obtain ⟨i,s⟩:=g.put (off:=off) (new:=new) (by omega);have e:gC h (some ⟨b,off,none⟩) 0 new=kB h ⟨b,off,none⟩ new 0:=by simp only [gC,kH,Nat.add_zero]
  show K _ (gC h (some ⟨b,off,none⟩) 0 new);rw [e];rw [p] at i;exact m _ (Mv.kS s) i
theorem abp {bytes:Nat} {zero:List Value} {l:Sl} {m:Int} {e:List Value} {K:Sl->Hp->Prop} (j:0<=m) (k:pI h l.base (l.len*sz) e) (hb:l.len+m.toNat<=140737488355328/\(l.len+m.toNat)*bytes<=140737488355328)
  (n:jE (fW zero m.toNat)=true) (o:l.cap<l.len+m.toNat) (i:∀b c a,h b=none->l.len+m.toNat<=c->h<=a->Mv [] h [b] a->gE a b (e++fW zero m.toNat++fW zero (c-(l.len+m.toNat)))->K ⟨some ⟨b,0,none⟩,l.len+m.toNat,c⟩ a):
  yX sz bytes zero l m K h:=
 ⟨j,e,k,hb,n,λf=>absurd f (by omega),λ_ c b t g d=>i b c _ d g (nu d) (Mv.new d) ⟨t,oX⟩⟩
theorem My {bytes b off c g n:Nat} {zero:List Value} {x:Sl} {d new k:List Value} {K:Sl->Hp->Prop} (j:gE h b d) (v:pI h (some ⟨b,off,none⟩) (c*sz) k) (i:pI h x.base (x.len*sz) new) (t:x.len=n) (u:jE new=true)
  (hb:c+n<=140737488355328/\(c+n)*bytes<=140737488355328) (y:c+n<=g) (r:off+c*sz+n*sz<=d.length)
  (q:∀f,Mv [b] h [b] f->gE f b (d.take (off+c*sz)++new++d.drop (off+c*sz+n*sz))->K ⟨some ⟨b,off,none⟩,c+n,g⟩ f):gF sz bytes zero ⟨some ⟨b,off,none⟩,c,g⟩ x K h:=by
 subst t;have s:new.length=x.len*sz:=i.1;refine ⟨new,i,k,v,hb,u,λ_=>⟨λa p=> ?_,?_⟩,λo=>absurd o (by grind)⟩
 ·cases p;rw [kH];exact j.sM _ r
 ·obtain ⟨m,w⟩:=j.put (off:=off+c*sz) (new:=new) (by omega);have e:gC h (some ⟨b,off,none⟩) (c*sz) new=kB h ⟨b,off+c*sz,none⟩ new 0:=by simp only [gC,kH]
  show K _ (gC h (some ⟨b,off,none⟩) (c*sz) new);rw [e];rw [s] at m;exact q _ (Mv.kS w) m
theorem Fo {xs:List α} {i:Nat} (x:α) (a:i<xs.length):xs.set i x=xs.take i++x::xs.drop (i+1):=by rw [List.set_eq_take_append_cons_drop,if_pos a]
theorem dJ.store {F:List Nat} (o:dJ h sz enc l xs F) (e:∀x,(enc x).length=sz) {i:Int} (k:0<=i) (y:i<(xs.length:Int)) (x:α) {K:Hp->Prop} (p:∀a,dJ a sz enc l (xs.set i.toNat x) F->Mv F h F a->K a):
  br l.base l.len i/\da h (sat l.base sz i) (enc x) K:=by
 obtain ⟨t,j,u⟩:=o;rcases u with ⟨_,v,_⟩ | ⟨b,c,d,rfl,r,w,f⟩
 ·omega
 ·refine ⟨⟨by rw [d];simp,k,by omega⟩,?_⟩;have n:i.toNat<xs.length:=by omega
  have m:sat l.base sz i=⟨b,i.toNat*sz,none⟩:=by unfold sat;rw [d,Option.getD_some,kH,Nat.zero_add]
  rw [m];have z:i.toNat*sz+sz<=l.len*sz:=by have:=Nat.mul_le_mul_right sz (show i.toNat+1<=l.len by omega);grind
  have A:l.len*sz<=l.cap*sz:=Nat.mul_le_mul_right sz j;refine rP r (by grind) λa s g=> ?_;rw [e] at g;refine p a ⟨by simp [t],j,.inr ⟨b,_,d,rfl,g,?_,?_⟩⟩ s
  ·grind
  ·rw [Fo x n];have t1:c.take (i.toNat*sz)=(xs.take i.toNat).flatMap enc:=by rw [Cc e,<-f,List.take_take];congr 1;omega
   have t2:(c.drop (i.toNat*sz+sz)).take (l.len*sz-(i.toNat*sz+sz))=(xs.drop (i.toNat+1)).flatMap enc:=by rw [yV e,<-f,Nat.add_mul,Nat.one_mul,List.drop_take]
   have q:(c.take (i.toNat*sz)++enc x).length=i.toNat*sz+sz:=by grind
   rw [List.take_append,q,t2,List.take_of_length_le (by omega),t1];simp
end
section
variable {P:Program} {α:Type} {h:Hp} {sz:Nat} {enc:α->List Value}
def G6 (P:Program) (sz bytes:Nat) (zero:List Value) (j k:Nat) (R:Sl->(Hp->Prop)->Hp->Prop) (s:Sl) (i:Int) (v:Sl) (Q:Sl->Hp->Prop) (h:Hp):Prop:=
 (((0:Int)<=i/\i<=((s.len:Nat):Int))/\aI (α:=Sl) ⟨(bh s.base sz (Int.toNat i) s.cap),(s.len-(Int.toNat i)),(s.cap-(Int.toNat i))⟩ λ_=>
 (if (((v.len:Nat):Int)==(0:Int))=true then
 Q s h
 else
 (if (i==((s.len:Nat):Int))=true then
 gF sz bytes zero s v (λr b=>
 Q r b) h
 else
 (if (decide ((yw (((s.len:Nat):Int)+((v.len:Nat):Int)))>((s.cap:Nat):Int)))=true then
 (((0:Int)<=i/\i<=((s.cap:Nat):Int))/\aI (α:=Sl) ⟨(bh s.base sz 0 s.cap),((Int.toNat i)-0),(s.cap-0)⟩ λa=>
 yX sz bytes zero a (yw ((yw (((s.len:Nat):Int)+((v.len:Nat):Int)))-i)) (λr b=>
 (((0:Int)<=i/\i<=((r.len:Nat):Int))/\aI (α:=Sl) ⟨(bh r.base sz (Int.toNat i) r.cap),(r.len-(Int.toNat i)),(r.cap-(Int.toNat i))⟩ λg=>
 gz sz g v (λ_ c=>
 (((0:Int)<=(yw (i+((v.len:Nat):Int)))/\(yw (i+((v.len:Nat):Int)))<=((r.len:Nat):Int))/\aI (α:=Sl) ⟨(bh r.base sz (Int.toNat (yw (i+((v.len:Nat):Int)))) r.cap),(r.len-(Int.toNat (yw (i+((v.len:Nat):Int))))),(r.cap-(Int.toNat (yw (i+((v.len:Nat):Int)))))⟩ λe=>
 (((0:Int)<=i/\i<=((s.len:Nat):Int))/\aI (α:=Sl) ⟨(bh s.base sz (Int.toNat i) s.cap),(s.len-(Int.toNat i)),(s.cap-(Int.toNat i))⟩ λf=>
 gz sz e f (λ_ d=>
 Q r d) c))) b)) h)
 else
 (((0:Int)<=(yw (((s.len:Nat):Int)+((v.len:Nat):Int)))/\(yw (((s.len:Nat):Int)+((v.len:Nat):Int)))<=((s.cap:Nat):Int))/\aI (α:=Sl) ⟨(bh s.base sz 0 s.cap),((Int.toNat (yw (((s.len:Nat):Int)+((v.len:Nat):Int))))-0),(s.cap-0)⟩ λa=>
 (((0:Int)<=(yw (i+((v.len:Nat):Int)))/\(yw (i+((v.len:Nat):Int)))<=((a.len:Nat):Int))/\aI (α:=Sl) ⟨(bh a.base sz (Int.toNat (yw (i+((v.len:Nat):Int)))) a.cap),(a.len-(Int.toNat (yw (i+((v.len:Nat):Int))))),(a.cap-(Int.toNat (yw (i+((v.len:Nat):Int)))))⟩ λg=>
 ku P (Extern.SlicesOverlaps.overlaps #[j,j] #[k] #[v.v,g.v]) aR (λr b=>
 (if (!r)=true then
 (((0:Int)<=(yw (i+((v.len:Nat):Int)))/\(yw (i+((v.len:Nat):Int)))<=((a.len:Nat):Int))/\aI (α:=Sl) ⟨(bh a.base sz (Int.toNat (yw (i+((v.len:Nat):Int)))) a.cap),(a.len-(Int.toNat (yw (i+((v.len:Nat):Int))))),(a.cap-(Int.toNat (yw (i+((v.len:Nat):Int)))))⟩ λe=>
 (((0:Int)<=i/\i<=((a.len:Nat):Int))/\aI (α:=Sl) ⟨(bh a.base sz (Int.toNat i) a.cap),(a.len-(Int.toNat i)),(a.cap-(Int.toNat i))⟩ λf=>
 gz sz e f (λ_ c=>
 (((0:Int)<=i/\i<=((a.len:Nat):Int))/\aI (α:=Sl) ⟨(bh a.base sz (Int.toNat i) a.cap),(a.len-(Int.toNat i)),(a.cap-(Int.toNat i))⟩ λl=>
 gz sz l v (λ_ d=>
 Q a d) c)) b))
 else
 (((0:Int)<=((s.len:Nat):Int)/\((s.len:Nat):Int)<=((a.len:Nat):Int))/\aI (α:=Sl) ⟨(bh a.base sz (Int.toNat ((s.len:Nat):Int)) a.cap),(a.len-(Int.toNat ((s.len:Nat):Int))),(a.cap-(Int.toNat ((s.len:Nat):Int)))⟩ λe=>
 gz sz e v (λ_ c=>
 (((0:Int)<=i/\i<=((a.len:Nat):Int))/\aI (α:=Sl) ⟨(bh a.base sz (Int.toNat i) a.cap),(a.len-(Int.toNat i)),(a.cap-(Int.toNat i))⟩ λf=>
 R f (λd=>Q a d) c)) b))) h))))))
theorem aew {bytes tS tR tE y:Nat} {i0:TypeInfo} {zero b3:List Value} {R:Sl->(Hp->Prop)->Hp->Prop} {s v:Sl} {d:List α} {e:α} {F:List Nat} {i:Nat} {Q:Sl->Hp->Prop}
  (ht:P.underlying tS=some (.slice tE)) (c1:P.info? tE=some i0) (r:∀x,(enc x).length=sz) (f4:0<sz) (D:∀x,jE (enc x)=true) (hz:zero.length=sz) (c6:∀n,jE (fW zero n)=true)
  (o:dJ h sz enc s d F) (J:Rw h sz enc v [e]) (hv:v.base=some ⟨y,0,none⟩) (I:gE h y b3) (a8:y∉F) (hi:i<=d.length) (hb:d.length+1<=140737488355328/\(d.length+1)*bytes<=140737488355328)
  (hq:∀T z K,dJ z sz enc T (d.take i++e::d.drop i) K->Mv F h K z->Q T z):G6 P sz bytes zero tS tR R s (i:Int) v Q h:=by
 have hs:=o.1;have f0:=o.2.1;have a9:v.len=1:=J.1;have w1:yw ((s.len:Int)+(v.len:Int))=(s.len:Int)+1:=by rw [a9,wrap64 (by omega) (by omega)];rfl
 have w2:yw ((i:Int)+(v.len:Int))=((i+1:Nat):Int):=by rw [a9,wrap64 (by omega) (by omega)];omega
 have d6:pI h v.base (1*sz) (enc e):=by simpa using J.2
 unfold G6;rw [w1,w2];have it:(i:Int).toNat=i:=by omega
 have c7:((i+1:Nat):Int).toNat=i+1:=by omega
 rw [it,c7];refine ⟨by omega,aJ ?_⟩;rw [if_neg (show ¬(((v.len:Int)==0)=true) by simp;omega)];by_cases e5:i=d.length
 ·rw [if_pos (show ((i:Int)==(s.len:Int))=true by simp;omega)];refine xt o J r D hz (by simpa using hb) λT z K o' m'=> ?_;grind
 rw [if_neg (show ¬(((i:Int)==(s.len:Int))=true) by simp;omega)];have e6:i<d.length:=by omega
 have O:∀a b:Nat,a<=b->a*sz<=b*sz:=λa b b7=>Nat.mul_le_mul_right sz b7;have E:((d.take i).flatMap enc).length=i*sz:=by rw [jo r,List.length_take];congr 1;omega
 have q7:((d.drop i).flatMap enc).length=(d.length-i)*sz:=by rw [jo r,List.length_drop]
 have c5:d.flatMap enc=(d.take i).flatMap enc++(d.drop i).flatMap enc:=by rw [<-List.flatMap_append,List.take_append_drop]
 have f5:(d.take i++e::d.drop i).flatMap enc=(d.take i).flatMap enc++enc e++(d.drop i).flatMap enc:=by simp
 have b0:(d.take i++e::d.drop i).length=d.length+1:=by simp;omega
 have j:(i+1)*sz=i*sz+sz:=by grind
 have e2:(d.length+1)*sz=i*sz+sz+(d.length-i)*sz:=by grind
 have Z:=sZ D (d.drop i);rcases o.2.2 with ⟨ob,oc,_⟩ | ⟨b,f,ob,rfl,m,k,Y⟩
 ·omega
 have e3:s.cap≠0:=by omega
 rw [ob];rw [hs] at Y;have e4:d.length*sz<=f.length:=by rw [k];exact O _ _ (by omega)
 have V:bh (some (⟨b,0,none⟩:Addr)) sz 0 s.cap=some ⟨b,0,none⟩:=by rw [uG (by omega)];simp
 have W:bh (some (⟨b,0,none⟩:Addr)) sz i s.cap=some ⟨b,i*sz,none⟩:=by rw [uG (by omega)];simp
 have f6:d.length*sz=i*sz+(d.length-i)*sz:=by grind
 have d3:pI h (some ⟨b,0,none⟩) (i*sz) ((d.take i).flatMap enc):=m.rd E (by
  rw [List.drop_zero];have:f.take (i*sz)=(f.take (d.length*sz)).take (i*sz):=by rw [List.take_take];congr 1;omega
  grind)
 have d1:pI h (some ⟨b,i*sz,none⟩) ((d.length-i)*sz) ((d.drop i).flatMap enc):=m.rd q7 (by
  have:(f.drop (i*sz)).take ((d.length-i)*sz)=(f.take (d.length*sz)).drop (i*sz):=by rw [List.drop_take];congr 1;omega
  grind)
 by_cases e9:s.cap<d.length+1
 ·rw [if_pos (show (decide ((s.len:Int)+1>(s.cap:Int)))=true by simp;omega)];refine ⟨by omega,aJ ?_⟩;rw [V];have w3:yw ((s.len:Int)+1-(i:Int))=((d.length+1-i:Nat):Int):=by rw [wrap64 (by omega) (by omega)];omega
  rw [w3];have C:(((d.length+1-i:Nat):Int)).toNat=d.length+1-i:=by omega
  refine abp (l:=⟨some ⟨b,0,none⟩,i-0,s.cap-0⟩) (by omega) d3 ?_ (c6 _) ?_ λg c M B hc l1 m1 k1=> ?_
  ·grind
  ·grind
  rw [C] at hc k1;have b5:(i-0)+(d.length+1-i)=d.length+1:=by omega
  have X:d.length+1<=c:=by grind
  have c8:gE M g ((d.take i).flatMap enc++fW zero (d.length+1-i)++fW zero (c-(d.length+1))):=by grind
  have c3:(⟨some ⟨b,0,none⟩,i-0,s.cap-0⟩:Sl).len+(((d.length+1-i:Nat):Int)).toNat=d.length+1:=by rw [C];exact b5
  rw [c3];have e7:g≠b:=λp=>by rw [p] at B;exact m.known B
  have e8:g≠y:=λp=>by rw [p] at B;exact I.known B
  refine ⟨by grind,aJ ?_⟩;rw [uG (show c≠i by omega),Nat.zero_add];have b1:∀n,(fW zero n).length=n*sz:=λn=>by rw [yA,hz]
  have d7:((d.take i).flatMap enc++fW zero (d.length+1-i)++fW zero (c-(d.length+1))).length=c*sz:=by rw [List.length_append,List.length_append,E,b1,b1,<-Nat.add_mul,<-Nat.add_mul];congr 1;omega
  have d4:pI M v.base (1*sz) (enc e):=by simpa using (J.mono l1).2
  refine Fz (n:=1) c8 (by grind) d4 (D e) (by grind) λA w S=> ?_;refine ⟨by grind,aJ ⟨by omega,aJ ?_⟩⟩;rw [uG (show c≠i+1 by omega),Nat.zero_add,W];have c9:gE A b f:=(m.le l1).mv w (by grind);have d2:pI A (some ⟨b,i*sz,none⟩) ((d.length-i)*sz) ((d.drop i).flatMap enc):=c9.rd q7 (by
   grind)
  have G:=S;rw [Nat.one_mul] at G;have L:((d.take i).flatMap enc++fW zero (d.length+1-i)++fW zero (c-(d.length+1))).take (i*sz)=(d.take i).flatMap enc:=by grind
  rw [L] at G;have c4:(((d.take i).flatMap enc++fW zero (d.length+1-i)++fW zero (c-(d.length+1))).drop (i*sz+sz)).length=c*sz-(i*sz+sz):=by grind
  generalize ((d.take i).flatMap enc++fW zero (d.length+1-i)++fW zero (c-(d.length+1))).drop (i*sz+sz)=rest at G c4;have d9:=O _ _ X;refine Fz (n:=d.length-i) G (by grind) d2 Z (by
   grind) λh3 U H=> ?_
  refine hq _ _ [g] ⟨b0.symm,X,.inr ⟨g,_,rfl,rfl,H,?_,?_⟩⟩ ?_
  ·grind
  ·grind
  ·have d0:Mv [b] h [g] M:=m1.sub (λb hb=>by cases hb) λb hb=>.inl hb;exact d0.trans (w.trans U)
 ·rw [if_neg (show ¬(decide ((s.len:Int)+1>(s.cap:Int)))=true by simp;omega)];refine ⟨by omega,aJ ⟨?_,aJ ?_⟩⟩
  ·show (0:Int)<=((i+1:Nat):Int)/\((i+1:Nat):Int)<=(((((s.len:Int)+1).toNat-0:Nat)):Int);omega
  have c2:((s.len:Int)+1).toNat-0=d.length+1:=by omega
  have c0:s.cap-0=s.cap:=by omega
  rw [V,c2,c0];have b9:bh (some (⟨b,0,none⟩:Addr)) sz (i+1) s.cap=some ⟨b,(i+1)*sz,none⟩:=by rw [uG (by omega)];simp
  show ku P (Extern.SlicesOverlaps.overlaps #[tS,tS] #[tR] #[.slice v.base v.len v.cap,.slice (bh (some (⟨b,0,none⟩:Addr)) sz (i+1) s.cap) (d.length+1-(i+1)) (s.cap-(i+1))]) aR _ h;rw [b9,hv];refine aci ht c1 I m (λp=>a8 (by rw [p];exact List.mem_singleton.2 rfl)) ?_;rw [if_pos (by rfl)];refine ⟨by show (0:Int)<=((i+1:Nat):Int)/\((i+1:Nat):Int)<=((d.length+1:Nat):Int);omega,aJ ⟨by show (0:Int)<=i/\(i:Int)<=((d.length+1:Nat):Int);omega,aJ ?_⟩⟩;have d8:(d.length+1)*sz<=s.cap*sz:=O _ _ (by omega);have b8:bh (some (⟨b,0,none⟩:Addr)) sz i s.cap=some ⟨b,i*sz,none⟩:=W;show gz sz ⟨some ⟨b,(i+1)*sz,none⟩,d.length+1-(i+1),s.cap-(i+1)⟩ ⟨bh (some (⟨b,0,none⟩:Addr)) sz i s.cap,d.length+1-i,s.cap-i⟩ _ h;rw [b8];refine Fz (n:=d.length-i) m (by show min (d.length+1-i) (d.length+1-(i+1))=_;omega) d1 Z (by rw [k,j];omega) λA w S=> ?_;refine ⟨by show (0:Int)<=i/\(i:Int)<=((d.length+1:Nat):Int);omega,aJ ?_⟩;have d5:pI A v.base (1*sz) (enc e):=by
   refine ⟨by rw [r,Nat.one_mul],?_⟩;rcases d6.2 with e0 | ⟨a,N,hl⟩
   ·exact .inl e0
   ·refine .inr ⟨a,N,λq u hu=> ?_⟩;have:=hl q u hu;rw [hv] at N;cases N;rw [kH] at this ⊢;obtain ⟨t,ek⟩:=id I;obtain ⟨t',b6⟩:=I.mv w (λC=>a8 C);rw [En ek] at this;rw [En b6];exact this
  have L:(f.take ((i+1)*sz)++(d.drop i).flatMap enc++f.drop ((i+1)*sz+(d.length-i)*sz)).take (i*sz)=(d.take i).flatMap enc:=by
   rw [List.append_assoc,List.take_append_of_le_length (by rw [List.length_take,k];rw [j];omega),List.take_take];have:f.take (min (i*sz) ((i+1)*sz))=(f.take (d.length*sz)).take (i*sz):=by rw [List.take_take];congr 1;rw [j];omega
   rw [this,Y,c5,<-E,List.take_left]
  have b4:(f.take ((i+1)*sz)++(d.drop i).flatMap enc++f.drop ((i+1)*sz+(d.length-i)*sz)).drop (i*sz+1*sz)=(d.drop i).flatMap enc++f.drop ((i+1)*sz+(d.length-i)*sz):=by
   have:i*sz+1*sz=(f.take ((i+1)*sz)).length:=by rw [List.length_take,k,j,Nat.one_mul];omega
   rw [List.append_assoc,this,List.drop_left]
  refine Fz (n:=1) S (by show min v.len (d.length+1-i)=1;omega) d5 (D e) (by
   simp only [List.length_append,List.length_take,List.length_drop,q7,k,j,Nat.one_mul];omega) λh3 U H=> ?_
  rw [L,b4] at H;refine hq _ _ [b] ⟨b0.symm,by show d.length+1<=s.cap;omega,.inr ⟨b,_,rfl,rfl,H,?_,?_⟩⟩ (w.trans U)
  ·simp only [List.length_append,List.length_drop,E,r,q7,k,j];show _=s.cap*sz;omega
  grind
def xv (P:Program) (sz bytes:Nat) (zero:List Value) (c:Nat) (s:Sl) (i j:Int) (Q:Sl->Hp->Prop) (h:Hp):Prop:=
 (((0:Int)<=i/\(i<=j/\(j<=((s.len:Nat):Int)/\((s.len:Nat):Int)<=((s.cap:Nat):Int))))/\aI (α:=Sl) ⟨(bh s.base sz (Int.toNat i) (Int.toNat ((s.len:Nat):Int))),((Int.toNat j)-(Int.toNat i)),((Int.toNat ((s.len:Nat):Int))-(Int.toNat i))⟩ λ_=>
 (if (i==j)=true then
 Q s h
 else
 (((0:Int)<=i/\i<=((s.cap:Nat):Int))/\aI (α:=Sl) ⟨(bh s.base sz 0 s.cap),((Int.toNat i)-0),(s.cap-0)⟩ λd=>
 (((0:Int)<=j/\j<=((s.len:Nat):Int))/\aI (α:=Sl) ⟨(bh s.base sz (Int.toNat j) s.cap),(s.len-(Int.toNat j)),(s.cap-(Int.toNat j))⟩ λe=>
 gF sz bytes zero d e (λr a=>
 (((0:Int)<=((r.len:Nat):Int)/\(((r.len:Nat):Int)<=((s.len:Nat):Int)/\((s.len:Nat):Int)<=((r.cap:Nat):Int)))/\aI (α:=Sl) ⟨(bh r.base sz (Int.toNat ((r.len:Nat):Int)) r.cap),((Int.toNat ((s.len:Nat):Int))-(Int.toNat ((r.len:Nat):Int))),(r.cap-(Int.toNat ((r.len:Nat):Int)))⟩ λf=>
 mY P (Builtin.clear_ #[c] 0 #[f.v]) uf (λb=>
 Q r b) a)) h))))
theorem aey {bytes tS tE:Nat} {z:Value} {s:Sl} {c:List α} {F:List Nat} {i j:Nat} {Q:Sl->Hp->Prop}
  (R:P.underlying tS=some (.slice tE)) (V:∀ {K:Value->Hp->Prop} {h:Hp},K z h->du P (zeroValue tE) K h) (f:∀x,(enc x).length=sz) (L:∀x,jE (enc x)=true) (u:(bu z).length=sz) (U:∀n,jE (fW (bu z) n)=true)
  (o:dJ h sz enc s c F) (b2:i<j) (H:j<=c.length) (hb:c.length<=140737488355328/\c.length*bytes<=140737488355328)
  (M:∀w g,dJ g sz enc w (c.take i++c.drop j) F->Mv F h F g->Q w g):xv P sz bytes (bu z) tS s (i:Int) (j:Int) Q h:=by
 have O:=o.1;have b5:=o.2.1;unfold xv;have W:(i:Int).toNat=i:=by omega
 have X:(j:Int).toNat=j:=by omega
 have st:(s.len:Int).toNat=c.length:=by omega
 rw [W,X,st];refine ⟨by omega,aJ ?_⟩;rw [if_neg (show ¬(((i:Int)==(j:Int))=true) by simp;omega)];have e:∀a b:Nat,a<=b->a*sz<=b*sz:=λa b B=>Nat.mul_le_mul_right sz B;have T:((c.take i).flatMap enc).length=i*sz:=by rw [jo f,List.length_take];congr 1;omega
 have q7:((c.drop j).flatMap enc).length=(c.length-j)*sz:=by rw [jo f,List.length_drop]
 rcases o.2.2 with ⟨y,oc,_⟩ | ⟨b,d,y,rfl,l,m,k⟩
 ·omega
 rw [y];rw [O] at k;have b1:c.length*sz<=d.length:=by rw [m];exact e _ _ (by omega)
 have C:bh (some (⟨b,0,none⟩:Addr)) sz 0 s.cap=some ⟨b,0,none⟩:=by rw [uG (by omega)];simp
 have b3:=e i c.length (by omega);have b4:=e j c.length H;have b7:c.length*sz=j*sz+(c.length-j)*sz:=by rw [<-Nat.add_mul];congr 1;omega
 have b6:i*sz<=j*sz:=e _ _ (by omega);have S:d.take (i*sz)=(c.take i).flatMap enc:=by rw [Cc f,<-k,List.take_take];congr 1;omega
 have a9:pI h (some ⟨b,0,none⟩) ((i-0)*sz) ((c.take i).flatMap enc):=l.rd T (by rw [List.drop_zero];exact S);have a8:pI h (bh (some (⟨b,0,none⟩:Addr)) sz j s.cap) ((c.length-j)*sz) ((c.drop j).flatMap enc):=by
  by_cases E:s.cap=j
  ·refine ⟨q7,.inl ?_⟩;have:c.length-j=0:=by omega
   rw [this,Nat.zero_mul]
  ·rw [uG E,Nat.zero_add];refine l.rd q7 ?_;rw [yV f,<-k,List.drop_take];congr 1;omega
 refine ⟨by omega,aJ ⟨by omega,aJ ?_⟩⟩;rw [C];have J:i-0+(c.length-j)<=c.length:=by omega
 have b0:(i-0+(c.length-j))*bytes<=c.length*bytes:=Nat.mul_le_mul_right _ J;have t:(⟨bh (some (⟨b,0,none⟩:Addr)) sz j s.cap,s.len-j,s.cap-j⟩:Sl).len=c.length-j:=by show s.len-j=_;omega
 refine My (n:=c.length-j) l a9 (by rw [t];exact a8) t (sZ L _) ⟨by omega,by omega⟩ (by omega) (by
  have:i-0=i:=by omega
  rw [this,Nat.zero_add,m];have:=e (i+(c.length-j)) s.cap (by omega);rw [Nat.add_mul] at this;exact this) λA Z v=> ?_
 have p:i-0=i:=by omega
 rw [p,Nat.zero_add] at v;show ((0:Int)<=((i-0+(c.length-j):Nat):Int)/\((i-0+(c.length-j):Nat):Int)<=(s.len:Int)/\(s.len:Int)<=((s.cap-0:Nat):Int))/\aI (α:=Sl) ⟨bh (some ⟨b,0,none⟩) sz (((i-0+(c.length-j):Nat):Int)).toNat (s.cap-0),c.length-(((i-0+(c.length-j):Nat):Int)).toNat,s.cap-0-(((i-0+(c.length-j):Nat):Int)).toNat⟩ _;refine ⟨by omega,aJ ?_⟩;have I:(((i-0+(c.length-j):Nat):Int)).toNat=i+(c.length-j):=by omega
 have D:s.cap-0=s.cap:=by omega
 rw [I,D,uG (show s.cap≠i+(c.length-j) by omega),Nat.zero_add];have G:c.length-(i+(c.length-j))=j-i:=by omega
 have r:(i+(c.length-j))*sz=i*sz+(c.length-j)*sz:=Nat.add_mul _ _ _;have q:(d.take (i*sz)++(c.drop j).flatMap enc++d.drop (i*sz+(c.length-j)*sz)).length=d.length:=by simp only [List.length_append,List.length_take,List.length_drop,q7];omega
 show mY P (Builtin.clear_ #[tS] 0 #[.slice (some ⟨b,(i+(c.length-j))*sz,none⟩) (c.length-(i+(c.length-j))) (s.cap-(i+(c.length-j)))]) uf _ A;rw [G];refine Ip R V U v (by
  rw [q,u,r];have:i*sz+(j-i)*sz=j*sz:=by rw [<-Nat.add_mul];congr 1;omega
  omega) λh2 m2 Y=> ?_
 have N:(c.take i++c.drop j).length=i+(c.length-j):=by simp;omega
 refine M _ _ ⟨?_,?_,.inr ⟨b,_,rfl,rfl,Y,?_,?_⟩⟩ (Z.trans m2)
 ·rw [N,p]
 ·show i-0+(c.length-j)<=s.cap;omega
 ·simp only [List.length_append,List.length_take,List.length_drop,q,yA,u];show _=s.cap*sz;have:i*sz+(j-i)*sz=j*sz:=by rw [<-Nat.add_mul];congr 1;omega
  rw [r];omega
 grind
end
def eu {g:Type} (sz:Nat) (enc:g->List Value) (l:Sl) (xs:List g):eh where
 R k F:=l.len=xs.length/\l.len<=l.cap/\((l.base=none/\l.cap=0/\∀b,¬F b)\/∃(b off:Nat) (cs:List Value),l.base=some ⟨b,off,none⟩/\(∀c,F c↔c=b)/\gE k b cs/\off+l.cap*sz<=cs.length/\(cs.drop off).take (l.len*sz)=xs.flatMap enc)
 same:=by rintro k p F ⟨j,m,d⟩ o;refine ⟨j,m,d.imp id ?_⟩;rintro ⟨b,off,cs,e,a,⟨t,f⟩,i⟩;exact ⟨b,off,cs,e,a,⟨t,by grind⟩,i⟩
 known:=by
  rintro k F ⟨_,_,d⟩ c n;rcases d with ⟨_,_,h⟩ | ⟨b,off,cs,e,a,f,_⟩
  ·grind
  ·rw [(a c).1 n];exact f.known
section
variable {α:Type} {h0 k:Hp} {sz:Nat} {enc:α->List Value} {l:Sl} {xs:List α}
theorem Has.jO {h0 k:Hp} (a:h0<=k):Has h0 (eu sz enc ⟨none,0,0⟩ ([]:List α)) k:=⟨a,λ_=>False,⟨rfl,Nat.le_refl _,.inl ⟨rfl,rfl,λ_ h=>h⟩⟩,λ_ h=>h.elim⟩
theorem Has.iR (o:Has h0 (eu sz enc l xs) k):l.len=xs.length:=by obtain ⟨_,_,h,_⟩:=o;exact h.1
theorem Has.vR (o:Has h0 (eu sz enc l xs) k):l.len<=l.cap:=by obtain ⟨_,_,h,_⟩:=o;exact h.2.1
theorem Has.jb (o:Has h0 (eu sz enc l xs) k) (c:∀x,(enc x).length=sz):Rw k sz enc l xs:=by
 obtain ⟨_,F,⟨h1,h,a⟩,_⟩:=o;refine ⟨h1,jo c xs,?_⟩;rcases a with ⟨e,g,_⟩ | ⟨b,off,f,e,_,hb,i,d⟩
 ·grind
 ·right;exact ⟨_,e,hb.nY (n:=l.len*sz) d⟩
theorem Has.vG {b:Nat} {cs:List Value} (h:h0<=k) (i:h0 b=none) (hb:gE k b cs) (f:l.base=some ⟨b,0,none⟩) (a:l.len=xs.length) (d:l.len<=l.cap) (j:cs.length=l.cap*sz) (e:cs.take (l.len*sz)=xs.flatMap enc):Has h0 (eu sz enc l xs) k:=
 ⟨h,λc=>c=b,⟨a,d,.inr ⟨b,0,cs,f,λ_=>Iff.rfl,hb,by omega,by simpa using e⟩⟩,λc g=>by rw [g];exact i⟩
theorem Has.CF {F:List Nat} (o:dJ k sz enc l xs F) (d:h0<=k) (j:∀b∈F,h0 b=none):Has h0 (eu sz enc l xs) k:=by
 obtain ⟨a,c,g⟩:=o;rcases g with ⟨e,f,rfl⟩ | ⟨b,n,e,rfl,hb,i,m⟩
 ·exact ⟨d,λ_=>False,⟨a,c,.inl ⟨e,f,λ_ h=>h⟩⟩,λ_ h=>h.elim⟩
 ·exact Has.vG d (j b (List.mem_singleton.2 rfl)) hb e a c i m
theorem iA {k:Hp} {cs:List Value} {K:Addr->Hp->Prop} (d:cs=xs.flatMap enc) (e:∀x,(enc x).length=sz) (f:∀a c,k<=c->Has k (eu sz enc ⟨some a,xs.length,xs.length⟩ xs) c->K a c):bP cs K k:=by intro b t hb;refine f _ _ (nu hb) (Has.vG (b:=b) (cs:=cs) (nu hb) hb ⟨t,oX⟩ rfl rfl (Nat.le_refl _) (by rw [d,jo e]) ?_);rw [d];show List.take (xs.length*sz) _=_;rw [<-jo e xs,List.take_length]
theorem Has.app {zero:List Value} {bytes:Nat} {x:Sl} {d:List α} {K:Sl->Hp->Prop} (o:Has h0 (eu sz enc l xs) k) (r:Rw k sz enc x d) (f:∀x,(enc x).length=sz) (J:∀x,jE (enc x)=true)
  (N:zero.length=sz) (hb:xs.length+d.length<=140737488355328/\(xs.length+d.length)*bytes<=140737488355328)
  (q:∀z y,Has h0 (eu sz enc z (xs++d)) y->K z y):gF sz bytes zero l x K k:=by
 have L:=o.jb f;obtain ⟨i,F,⟨h1,D,E⟩,p⟩:=o;obtain ⟨g,X⟩:=r;refine ⟨d.flatMap enc,by grind,xs.flatMap enc,by rw [h1];exact L.2,by grind,sZ J d,λw=> ?_,λw c b t G v=> ?_⟩
 ·rcases E with ⟨e,m,h⟩ | ⟨b,off,cs,e,h,u,T,M⟩
  ·have A:d.length=0:=by omega
   have B:d=[]:=List.length_eq_zero_iff.1 A;subst B;refine ⟨λa n=>(by grind),?_⟩;have j:gC k l.base (l.len*sz) (([]:List α).flatMap enc)=k:=by rw [e];rfl
   rw [j,g];exact q _ k ⟨i,F,⟨by simp [h1],by simpa using D,.inl ⟨e,m,h⟩⟩,p⟩
  ·have V:l.len*sz+(d.flatMap enc).length<=l.cap*sz:=by rw [jo f,<-Nat.add_mul];exact Nat.mul_le_mul_right sz (by omega)
   obtain ⟨P,Q⟩:=u.put (off:=off+l.len*sz) (new:=d.flatMap enc) (by omega);have W:h0 b=none:=p b ((h b).2 rfl);refine ⟨λa n=> ?_,?_⟩
   ·rw [e] at n;cases n;rw [kH];refine u.sM _ ?_;rw [g,<-jo f d];omega
   ·have j:gC k l.base (l.len*sz) (d.flatMap enc)=kB k ⟨b,off+l.len*sz,none⟩ (d.flatMap enc) 0:=by rw [e];simp only [gC,kH]
    rw [j];refine q _ _ ⟨λc O m=> ?_,F,⟨by simp [h1,g],w,.inr ⟨b,off,_,e,h,P,?_,?_⟩⟩,p⟩
    ·have I:c≠b:=λR=>by grind
     rw [Q c I];exact i c O m
    ·grind
    ·have U:off+l.len*sz<=cs.length:=by omega
     have s:(l.len+x.len)*sz=l.len*sz+(d.flatMap enc).length:=by rw [g,jo f,Nat.add_mul]
     have C:(cs.take (off+l.len*sz)).drop off=xs.flatMap enc:=by rw [List.drop_take,<-M];congr 1;omega
     show List.take ((l.len+x.len)*sz) _=_;rw [s,List.append_assoc,List.drop_append_of_le_length (by rw [List.length_take];omega),C,List.flatMap_append,<-List.append_assoc];have S:l.len*sz+(d.flatMap enc).length=(xs.flatMap enc++d.flatMap enc).length:=by rw [List.length_append,jo f xs,h1]
     grind
 ·have H:h0 b=none:=tV i v;refine q _ _ (Has.vG (b:=b) (cs:=xs.flatMap enc++d.flatMap enc++fW zero (c-(l.len+x.len))) (Hp.le_trans i (nu v)) H ⟨t,oX⟩ rfl (by simp [h1,g]) G ?_ ?_)
  ·rw [List.length_append,List.length_append,jo f,jo f,yA,N,<-Nat.add_mul,<-Nat.add_mul];grind
  ·have s:(l.len+x.len)*sz=(xs.flatMap enc++d.flatMap enc).length:=by rw [List.length_append,jo f,jo f,h1,g,Nat.add_mul]
   grind
theorem Has.push {zero:List Value} {bytes:Nat} {e:α} {cs:List Value} {K:Sl->Hp->Prop} (o:Has h0 (eu sz enc l xs) k) (g:cs=enc e) (b:∀x,(enc x).length=sz) (j:∀x,jE (enc x)=true)
  (m:zero.length=sz) (hb:xs.length+1<=140737488355328/\(xs.length+1)*bytes<=140737488355328)
  (h:∀f c,Has h0 (eu sz enc f (xs++ [e])) c->K f c):bP cs (λa d=>gF sz bytes zero l ⟨some a,1,1⟩ K d) k:=by
 refine iA (xs:=[e]) (sz:=sz) (enc:=enc) (by rw [g];simp) b λa d i n=> ?_;exact (o.grow i).app (n.jb b) b j m hb h
theorem Has.xu (o:Has h0 (eu sz enc l xs) k) (i:∀x,(enc x).length=sz) {n c:Nat} (w:n<=xs.length) (t:n<=c) (u:c<=l.cap):Has h0 (eu sz enc ⟨bh l.base sz 0 c,n-0,c-0⟩ (xs.take n)) k:=by
 obtain ⟨m,F,⟨r,s,g⟩,j⟩:=o;have hb:bh l.base sz 0 c=l.base:=by
  unfold bh;split
  ·rfl
  ·cases l.base with
   | none=>rfl
   | some a=>obtain ⟨b,off,sp⟩:=a;simp [Addr.add]
 refine ⟨m,F,⟨by simp;omega,by simp;omega,?_⟩,j⟩;rw [hb];rcases g with ⟨e,q,d⟩ | ⟨b,off,f,e,d,h,v,p⟩
 ·grind
 ·refine .inr ⟨b,off,f,e,d,h,?_,?_⟩
  ·have:(c-0)*sz<=l.cap*sz:=Nat.mul_le_mul_right sz (by omega);grind
  ·show List.take ((n-0)*sz) _=_;rw [Cc i,<-p,List.take_take];congr 1;have:n*sz<=l.len*sz:=Nat.mul_le_mul_right sz (by omega);grind
theorem Has.qq {a:α} {r:List α} (o:Has h0 (eu sz enc l (a::r)) k) (y:∀x,(enc x).length=sz) {c:Nat} (v:l.len<=c) (w:c<=l.cap):Has h0 (eu sz enc ⟨bh l.base sz 1 c,l.len-1,c-1⟩ r) k:=by
 obtain ⟨n,F,⟨h1,u,j⟩,m⟩:=o;have p:l.len=r.length+1:=by simpa using h1
 refine ⟨n,F,⟨by grind,by grind,?_⟩,m⟩;rcases j with ⟨e,t,d⟩ | ⟨b,off,f,e,d,g,z,s⟩
 ·omega
 ·by_cases h:c=1
  ·have q:r=[]:=List.length_eq_zero_iff.1 (by omega);subst q;refine .inr ⟨b,off,f,?_,d,g,?_,?_⟩
   ·show bh l.base sz 1 c=_;unfold bh;rw [if_pos h];exact e
   ·show off+(c-1)*sz<=_;have:(c-1)*sz<=l.cap*sz:=Nat.mul_le_mul_right sz (by omega);omega
   grind
  ·refine .inr ⟨b,off+1*sz,f,?_,d,g,?_,?_⟩
   ·show bh l.base sz 1 c=_;rw [e,uG h]
   ·show off+1*sz+(c-1)*sz<=_;have:1*sz+(c-1)*sz<=l.cap*sz:=by rw [<-Nat.add_mul];exact Nat.mul_le_mul_right sz (by omega)
    omega
   ·show List.take ((l.len-1)*sz) _=_;have i:(List.flatMap enc (a::r)).drop sz=r.flatMap enc:=by grind
    rw [<-i,<-s,List.drop_take,List.drop_drop,Nat.one_mul];congr 1;rw [p,Nat.add_mul,Nat.one_mul];simp
theorem Zc (b:∀x,(enc x).length=sz) {off n:Nat} {a:List Value} (h:n=xs.length) (f:off+n*sz<=a.length) (d:(a.drop off).take (n*sz)=xs.flatMap enc) {i:Nat} (c:i<xs.length) (x:α):
  ((a.take (off+i*sz)++enc x++a.drop (off+i*sz+sz)).drop off).take (n*sz)=(xs.set i x).flatMap enc:=by
 have g:i*sz+sz<=n*sz:=by have:=Nat.mul_le_mul_right sz (show i+1<=n by omega);rw [Nat.add_mul,Nat.one_mul] at this;exact this
 rw [Fo x c,List.flatMap_append,List.flatMap_cons,Cc b,yV b,<-d];have t1:((a.take (off+i*sz)).drop off)=(a.drop off).take (i*sz):=by rw [List.drop_take];congr 1;omega
 rw [List.append_assoc,List.drop_append_of_le_length (by rw [List.length_take];omega),t1,List.take_take,Nat.min_eq_left (by omega)];have e:((a.drop off).take (i*sz)).length=i*sz:=by rw [List.length_take,List.length_drop];omega
 rw [List.take_append,e,List.take_of_length_le (by omega),List.take_append,b,List.take_of_length_le (l:=enc x) (by rw [b];omega)];congr 2;rw [List.drop_take,List.drop_drop];grind
theorem Has.CN (o:Has h0 (eu sz enc l xs) k) (g:∀x,(enc x).length=sz) {i:Nat} {x x':α} (s:xs[i]? =some x) {off:Nat} {new:List Value} (R:off+new.length<=sz) (L:(enc x).take off++new++(enc x).drop (off+new.length)=enc x')
  {K:Hp->Prop} (I:∀j,Has h0 (eu sz enc l (xs.set i x')) j->K j):da k ((sat l.base sz (i:Int)).add off) new K:=by
 have r:i<xs.length:=(List.getElem?_eq_some_iff.1 s).1;obtain ⟨J,F,⟨t,f,n⟩,w⟩:=o;rcases n with ⟨e,h,q⟩ | ⟨b,a,d,e,q,G,O,A⟩
 ·omega
 ·have M:h0 b=none:=w b ((q b).2 rfl);have P:i*sz+sz<=l.len*sz:=by have:=Nat.mul_le_mul_right sz (show i+1<=l.len by omega);rw [Nat.add_mul,Nat.one_mul] at this;exact this
  have Q:l.len*sz<=l.cap*sz:=Nat.mul_le_mul_right sz f;have ea:(sat l.base sz (i:Int)).add off=⟨b,a+i*sz+off,none⟩:=by unfold sat;rw [e,Option.getD_some,kH,kH,Int.toNat_natCast]
  rw [ea];have N:(d.drop (a+i*sz)).take sz=enc x:=by
   have f:(xs.drop i).flatMap enc=enc x++(xs.drop (i+1)).flatMap enc:=by rw [List.drop_eq_getElem_cons r,List.flatMap_cons];rw [List.getElem?_eq_getElem r] at s;rw [Option.some.inj s]
   have n:(xs.drop i).flatMap enc=(d.drop (a+i*sz)).take (l.len*sz-i*sz):=by rw [yV g,<-A,List.drop_take,List.drop_drop]
   rw [n] at f;have p:=congrArg (List.take sz) f;rw [List.take_take,Nat.min_eq_left (by omega),<-g x,List.take_left] at p;rw [g x] at p;exact p
  have v:d=d.take (a+i*sz)++(enc x++d.drop (a+i*sz+sz)):=by
   have E:d.drop (a+i*sz+sz)=(d.drop (a+i*sz)).drop sz:=by rw [List.drop_drop]
   rw [<-N,E,List.take_append_drop,List.take_append_drop]
  have y:(d.take (a+i*sz)).length=a+i*sz:=by rw [List.length_take];omega
  have z:(enc x).length=sz:=g x;have C:d.take (a+i*sz+off)=d.take (a+i*sz)++(enc x).take off:=by
   conv=>lhs;rw [v]
   rw [List.take_append,y,List.take_of_length_le (by omega),List.take_append,z,show a+i*sz+off-(a+i*sz)=off by omega,show off-sz=0 by omega,List.take_zero,List.append_nil]
  have D:d.drop (a+i*sz+off+new.length)=(enc x).drop (off+new.length)++d.drop (a+i*sz+sz):=by
   conv=>lhs;rw [v]
   rw [List.drop_append,y,List.drop_eq_nil_of_le (by omega),List.nil_append,List.drop_append,z,show a+i*sz+off+new.length-(a+i*sz)=off+new.length by omega,show off+new.length-sz=0 by omega,List.drop_zero]
  refine rP G (by omega) λj m u=> ?_;rw [C,D,show d.take (a+i*sz)++(enc x).take off++new++((enc x).drop (off+new.length)++d.drop (a+i*sz+sz))=d.take (a+i*sz)++enc x'++d.drop (a+i*sz+sz) by rw [<-L];simp] at u;refine I j ⟨λc B h=>m.cW c B (J c B h) (λH=>(by rw [List.mem_singleton.1 H,M] at h;cases h)),F,⟨by simp [t],f,.inr ⟨b,a,_,e,q,u,?_,Zc g t (by omega) A r x'⟩⟩,w⟩;grind
end
end Lf
