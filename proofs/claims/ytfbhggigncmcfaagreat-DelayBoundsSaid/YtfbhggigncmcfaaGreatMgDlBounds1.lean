/-
  Part 2 of the texts that the claim leans on.
-/
import Derived.Orders
import Derived.ScopeJumps
import Derived.Test.YtfbhggigncmcfaaGreatRows
import Derived.Laws.Externs
import Derived.Test.YtfbhggigncmcfaaGreatMgDlBounds0
set_option maxRecDepth 100000
namespace Lf
open Go
section
variable {P:Program} {tb:Tb} {o:Oper} {ch:aP} {s:St} {h:Hp} {K:LV->Prop}
theorem As (a:holds s ch):dX s ch=none\/dX s ch=some true:=by
 cases ch with
 | nil=>exact .inl rfl
 | cons q r=>obtain ⟨t,w⟩:=q;obtain ⟨b,hb,c⟩:=Iq (s:=s) t w r;grind
theorem Uz (ok:tb.Ok P) {t:Nat} {x:Operand} {I H A:Option Operand} (j:o.op=.slice t x I H A) (hv:gW (ev s ch x) λv=>match nI s ch I,nI s ch H,nI s ch A with
  | some I,some H,some A=>BY (dX s ch) tb t v I H A K
  | _,_,_=>False):dP P tb o ch s h K:=by
 obtain ⟨v,L,f⟩:=jC hv;clear hv;split at f
 ·rename_i l n m N O B;have q:holds s ch->∀(p:Nat->Nat) (i:Operand->Value),(∀x∈o.op.operands,dY p s i x)->∀ {y:Option Operand} {r:Option Int},nI s ch y=some r->(∀z,y=some z->z∈o.op.operands)->
    (r=none/\y.map i=none\/∃k n,r=some n/\y.map i=some (.int k n)):=by
   intro c p i g y r Z B;rcases Wi c Z (λz d=>g z (B z d)) with ⟨T,U⟩ | ⟨z,k,n,T,U,h3⟩
   ·exact .inl ⟨U,by rw [T];rfl⟩
   grind
  unfold BY at f;split at f
  ·rename_i base len cap;split at f
   ·rename_i e J;obtain ⟨y,u,S,R,M⟩:=uH J;obtain ⟨W,Y,X,C,E⟩:=Bx (P:=P) f;refine jW _ (C _ rfl) λc p i w g=> ?_;have G:=bn (g x (by simp [j,Op.operands])) c L;have F:=au ok S w;have Q:=bI ok M w;rw [R] at F;have D:=E (As c) _ _ _ (q c p i g N (by intro z d;simp [j,Op.operands,d])) (q c p i g O (by intro z d;simp [j,Op.operands,d]))
     (q c p i g B (by intro z d;simp [j,Op.operands,d])) w
    simp only [execOp,j,G,LVal,Instr.sliceAt,Instr.slice,Sem.run_bind,F,Result.andThen_ok,D,Q,Sem.run_pure,aS]
   ·exact f.elim
  ·rename_i a;split at f
   ·rename_i n' e J;obtain ⟨y',u,b0,a9,M⟩:=zZ J;obtain ⟨W,Y,X,C,E⟩:=Bx (P:=P) f;refine jW _ (C _ rfl) λc p i w g=> ?_;have G:=bn (g x (by simp [j,Op.operands])) c L;have V:=au ok b0 w;have Q:=bI ok M w;rw [a9] at V;have D:=E (As c) _ _ _ (q c p i g N (by intro z d;simp [j,Op.operands,d])) (q c p i g O (by intro z d;simp [j,Op.operands,d]))
     (q c p i g B (by intro z d;simp [j,Op.operands,d])) w
    simp only [execOp,j,G,LVal,Instr.sliceAt,Instr.slice,Instr.sureAddr,Sem.run_bind,Result.andThen_ok,V,D,Q,Sem.run_pure,aS];split<;>simp_all
   ·exact f.elim
  ·rename_i b;split at f
   ·rename_i e S;split at f
    ·rename_i R;obtain ⟨W,Y,X,C,E⟩:=Bx (P:=P) f;refine jW _ C λc p i w g=> ?_;have G:=bn (g x (by simp [j,Op.operands])) c L;have F:=au ok S w;rw [R] at F;have a8:A=none:=by
      cases A with
      | none=>rfl
      | some z=>simp only [nI] at B;grind
     have D:=E (As c) _ _ none (q c p i g N (by intro z d;simp [j,Op.operands,d])) (q c p i g O (by intro z d;simp [j,Op.operands,d])) (.inl ⟨rfl,rfl⟩) w;subst a8;simp [execOp,j,G,LVal,Instr.sliceAt,Instr.slice,F,D]
    ·exact f.elim
   ·exact f.elim
  ·exact f.elim
 ·exact f.elim
theorem UB (ok:tb.Ok P) {t:Nat} {x:Operand} (a:o.op=.makeInterface t x) (hv:gW (ev s ch x) λv=>match tb.ty t with
  | some e=>match e.bE with
   | .interface _=>False
   | _=>K (.v (.iface t v))
  | none=>False):dP P tb o ch s h K:=by
 obtain ⟨v,d,b⟩:=jC hv;clear hv;split at b
 ·rename_i e c;have run:(∀n,e.bE≠ .interface n)->K (.v (.iface t v))->dP P tb o ch s h K:=λi g=>
   jW _ g λf p q w j=>by have m:=bn (j x (by simp [a,Op.operands])) f d;have l:=au ok c w;simp only [execOp,a,m,LVal,Instr.makeInterface,Sem.run_bind,l,Result.andThen_ok];cases k:e.bE<;>first | exact absurd k (i _) | rfl
  grind
 ·exact b.elim
theorem Wj {fn:Fn} {first captured:Array Operand} (c:o.op=.makeFunc fn first captured)
  (hv:nc (dO s ch first.toList) λa=>nc (dO s ch captured.toList) λb=>K (.v (.func fn a.toArray b.toArray))):dP P tb o ch s h K:=by
 obtain ⟨a,i,k⟩:=CM hv;obtain ⟨b,hb,j⟩:=CM k;refine jW _ j λd β ρ w e=> ?_;have m:=xB (β:=β) (ρ:=ρ) d i λx l=>e x (by simp [c,Op.operands];grind);have n:=xB (β:=β) (ρ:=ρ) d hb λx l=>e x (by simp [c,Op.operands];grind);have f:first.map ρ=a.toArray:=by grind
 have g:captured.map ρ=b.toArray:=by grind
 simp only [execOp,c,Instr.makeFunc,Sem.run_bind,Sem.run_pure,Result.andThen_ok,f,g,LVal]
theorem Sn (ok:tb.Ok P) {l c:Nat} {x:Operand} (r:o.op=.convert l c x) (hv:gW (ev s ch x) λv=>match tb.ty l,tb.ty c,v with
  | some _,some e,.int _ n=>match e.bE with
   | .int k=>K (.v (.int k (k.wrap n)))
   | _=>mi (dX s ch) P tb c (convert l c v) h K
  | some _,some _,v=>mi (dX s ch) P tb c (convert l c v) h K
  | _,_,_=>False):dP P tb o ch s h K:=by
 obtain ⟨v,z,i⟩:=jC hv;clear hv;have m:holds s ch->∀(b:Nat->Nat) (a:Operand->Value),(∀x∈o.op.operands,dY b s a x)->∀(w g:World) (u:Value),(convert l c v).run P w=.ok u g->(execOp a o).run P w=.ok (.value u) g:=by intro d b a f w g u j;have C:=bn (f x (by simp [r,Op.operands])) d z;simp only [execOp,r,C,LVal,Sem.run_bind,j,Result.andThen_ok,Sem.run_pure]
 split at i
 ·rename_i t e k n A y;split at i
  ·rename_i E B;refine jW _ i λd b a w f=>m d b a f w w _ ?_;have p:=au ok A w;have q:=au ok y w;rw [B] at q;generalize t.bE=D at p;simp only [convert,Sem.run_bind,p,q,Result.andThen_ok];cases D<;>rfl
  ·exact Cg (by simp_all [cf]) i λd b a f w g u j=>m d b a f w g u j
 ·exact Cg (by simp_all [cf]) i λd b a f w g u j=>m d b a f w g u j
 ·exact i.elim
theorem xC :∀(l:List Value) (i:Nat) (new:List Value),i+new.length<=l.length->j6 l i new=l.take i++new++l.drop (i+new.length)
 | l,0,[],_=>by cases l<;>simp [j6]
 | [],0,b::new,h=>by simp at h
 | a::l,0,b::new,h=>by have:=xC l 0 new (by grind);simp only [j6,this];simp
 | [],n+1,new,h=>by simp at h
 | a::l,n+1,new,h=>by have:=xC l n new (by simp at h ⊢;omega);simp only [j6,this];grind
theorem So (l:List Value) (i:Nat) (new:List Value) (h:i+new.length<=l.length):(j6 l i new).length=l.length:=by rw [xC l i new h];simp;omega
theorem Iz :∀(new:List Value) (k:Nat) (l:List Value) (off:Nat),off+k+new.length<=l.length->
  ((new.zipIdx k).foldl (λ(a:Array Value) (p:Value×Nat)=>a.setIfInBounds (off+p.2) p.1) l.toArray).toList=l.take (off+k)++new++l.drop (off+k+new.length)
 | [],k,l,off,_=>by simp
 | v::new,k,l,off,h=>by
  simp only [List.zipIdx_cons,List.foldl_cons];have b:off+(k+1)+new.length<=(l.set (off+k) v).length:=by simp at h ⊢;omega
  have:=Iz new (k+1) (l.set (off+k) v) off b;rw [show (l.toArray.setIfInBounds (off+k) v)=(l.set (off+k) v).toArray by simp];rw [this];simp at h;apply List.ext_getElem?;intro j;simp only [List.getElem?_append,List.length_append,List.length_take,List.length_set,List.length_cons,List.getElem?_take,List.getElem?_drop,List.getElem?_set];grind
theorem IA (v:Value) (l:List Value) (off:Nat) (h:off+(aY v).length<=l.length):
  (v.cells.zipIdx.foldl (λ(a:Array Value) (p:Value×Nat)=>a.setIfInBounds (off+p.2) p.1) l.toArray)=(j6 l off (aY v)).toArray:=by
 apply Array.ext';rw [<-Array.foldl_toList];have:v.cells.zipIdx.toList=(aY v).zipIdx:=by rw [Array.toList_zipIdx,nt]
 rw [this,Iz (aY v) 0 l off (by omega),xC l off _ h];simp
theorem A4 {size:Nat}:∀ {e:List (Nat×Value)} {a b:List Value},mV size a e=some b->
  Instr.fill (λi=>some (i*size,size)) a.toArray e=some b.toArray
 | [],a,b,h=>by cases h;rfl
 | (i,v)::r,a,b,h=>by
  simp only [mV] at h;cases c:Nat.beq (aY v).length size with
  | false=>simp [c] at h
  | true=>
   cases d:Nat.ble (i*size+size) a.length with
   | false=>simp [c,d] at h
   | true=>
    simp only [c,d,cond_true] at h;have f:=Nat.eq_of_beq_eq_true c;have j:=Nat.le_of_ble_eq_true d;have g:v.cells.size=size:=by rw [<-Array.length_toList,nt,f]
    have:=A4 h;simp only [Instr.fill,g,ne_eq,not_true,decide_false,Bool.false_or,decide_eq_true_eq];rw [if_neg (by simp;omega)];have k:=IA v a (i*size) (by omega);grind
theorem IB {fs:List Field} {pl:Nat->Option (Nat×Nat)} (j:∀i f e,fs[i]? =some f->tb.ty f.type=some e->pl i=some (f.offset,e.size)):
  ∀ {k:List (Nat×Value)} {a b:List Value},pM tb fs a k=some b->Instr.fill pl a.toArray k=some b.toArray
 | [],a,b,h=>by cases h;rfl
 | (i,v)::r,a,b,h=>by
  simp only [pM] at h;split at h
  ·rename_i f g;split at h
   ·rename_i e n;cases c:Nat.beq (aY v).length e.size with
    | false=>simp [c] at h
    | true=>
     cases d:Nat.ble (f.offset+e.size) a.length with
     | false=>simp [c,d] at h
     | true=>
      simp only [c,d,cond_true] at h;have l:=Nat.eq_of_beq_eq_true c;have p:=Nat.le_of_ble_eq_true d;have m:v.cells.size=e.size:=by rw [<-Array.length_toList,nt,l]
      have:=IB j h;rw [mr] at g;simp only [Instr.fill,j i f e g n,m];rw [if_neg (by simp;omega)];rw [IA v a f.offset (by omega)];exact this
   ·cases h
  ·cases h
theorem GL (ok:tb.Ok P) {w:World}:∀(fs:List Field),(∀f∈fs,∃e,tb.ty f.type=some e)->
  ∃a:List (Nat×Nat),(fs.mapM λf=>(do pure (f.offset,<-Go.sizeOf f.type):Sem (Nat×Nat))).run P w=.ok a w/\a.length=fs.length/\
   ∀(i:Nat) f e,fs[i]? =some f->tb.ty f.type=some e->a[i]? =some (f.offset,e.size)
 | [],_=>⟨[],by simp,rfl,by simp⟩
 | f::fs,b=>by
  obtain ⟨e,c⟩:=b f (List.mem_cons_self ..);obtain ⟨a,k,j,hp⟩:=GL ok (w:=w) fs λg d=>b g (List.mem_cons_of_mem _ d);refine ⟨(f.offset,e.size)::a,?_,by simp [j],?_⟩
  ·simp only [List.mapM_cons,Sem.run_bind,bI ok c,Result.andThen_ok,Sem.run_pure,k]
  grind
theorem Hs :∀ {fs:List Field},oj tb fs=true->∀f∈fs,∃e,tb.ty f.type=some e
 | [],_,f,hf=>by cases hf
 | g::fs,h,f,hf=>by
  simp only [oj] at h;split at h
  ·rename_i e a;rcases List.mem_cons.1 hf with rfl | hf
   ·exact ⟨e,a⟩
   ·exact Hs h f hf
  ·cases h
theorem UC (ok:tb.Ok P) {t:Nat} {parts:Array (Nat×Operand)} (y:o.op=.build t parts)
  (hv:nc ((lh s ch parts.toList).map λ_=> []) λ_=>match lh s ch parts.toList,tb.ty t with
  | some b,some e=>match e.bE with
   | .struct fs=>cond (oj tb fs.toList) (match pM tb fs.toList (aY e.zero) b with
    | some c=>K (.v (.agg c.toArray))
    | none=>False) False
   | .array _ u=>match tb.ty u with
    | some g=>match mV g.size (aY e.zero) b with
     | some c=>K (.v (.agg c.toArray))
     | none=>False
    | none=>False
   | _=>False
  | _,_=>False):dP P tb o ch s h K:=by
 obtain ⟨_,_,a⟩:=CM hv;clear hv;split at a
 ·rename_i b e G m;have C:holds s ch->∀(β:Nat->Nat) (ρ:Operand->Value),(∀x∈o.op.operands,dY β s ρ x)->(parts.map λ(i,x)=>(i,ρ x)).toList=b:=by intro j β ρ k;have:=A3 (β:=β) (ρ:=ρ) j G λx J=>k x (by simp [y,Op.operands];simpa using J);simpa using this
  split at a
  ·rename_i fs A;cases z:oj tb fs.toList with
   | false=>simp [z] at a
   | true=>
    simp only [z,cond_true] at a;split at a
    ·rename_i c r;refine jW _ a λj β ρ w k=> ?_;have l:=au ok m w;rw [A] at l;have B:=bX ok m w;obtain ⟨pl,H,L,hp⟩:=GL ok (w:=w) fs.toList (Hs z);have F:(fs.mapM λf=>(do pure (f.offset,<-Go.sizeOf f.type):Sem (Nat×Nat))).run P w=.ok pl.toArray w:=by rw [Array.mapM_eq_mapM_toList];simp only [Sem.run_map,H,Result.andThen_ok]
     have d:=IB (tb:=tb) (fs:=fs.toList) (pl:=λ(i:Nat)=>pl[i]?) hp r;have p:(parts.map λ(i,x)=>(i,ρ x)).toList=b:=C j β ρ k;have q:(aY e.zero).toArray=e.zero.cells:=by apply Array.ext';simp [nt]
     rw [q] at d;simp only [execOp,y,Instr.build,Sem.run_bind,B,Result.andThen_ok,l,F,p];have D:(λ(i:Nat)=>pl.toArray[i]?)=λ(i:Nat)=>pl[i]?:=by funext i;simp
     rw [D,d];simp [LVal]
    ·exact a.elim
  ·rename_i n u A;split at a
   ·rename_i g E;split at a
    ·rename_i c r;refine jW _ a λj β ρ w k=> ?_;have l:=au ok m w;rw [A] at l;have B:=bX ok m w;have I:=bI ok E w;have d:=A4 r;have p:(parts.map λ(i,x)=>(i,ρ x)).toList=b:=C j β ρ k;have q:(aY e.zero).toArray=e.zero.cells:=by apply Array.ext';simp [nt]
     rw [q] at d;simp only [execOp,y,Instr.build,Sem.run_bind,B,Result.andThen_ok,l,I,p,d];simp [LVal]
    ·exact a.elim
   ·exact a.elim
  ·exact a.elim
 ·exact a.elim
end
section
variable {P:Program} {tb:Tb} {o:Oper} {ch:aP} {s:St} {h:Hp} {K:LV->Prop}
theorem AU (ok:tb.Ok P) {k:Nat} {e:Ty} {b:Bool} {v:Value} {w:World} (c:tb.ty k=some e) (a:qy e.bE=true):
  (Instr.checkKey b 10000 k v).run P w=.ok () w:=by
 have f:=au ok c w;have key:∀n,(Instr.checkKey b (n+1) k v).run P w=.ok () w:=by intro n;unfold Instr.checkKey;simp only [Sem.run_bind,f,Result.andThen_ok];generalize e.bE=d at a;cases d<;>first | rfl | (simp [qy] at a)
 exact key 9999
theorem ym (ok:tb.Ok P) {k:Nat} {e:Ty} {v:Value} {a:List MapEntry} {r:Option (Nat×Value)} {w:World} (b:tb.ty k=some e)
  (c:Instr.findNow e.bE v a 0=some r):(Instr.findKey k v a).run P w=.ok r w:=by
 simp only [Instr.findKey,Sem.run_bind,au ok b,Result.andThen_ok,c,Sem.run_pure]
theorem I8 {r:Nat} {a:Array MapEntry} {ck:Nat} {w:World} (hb:w.heap[r]? =some (.map a ck)):(getObj r).run P w=.ok (.map a ck) w:=by simp [getObj,Sem.run,hb]
theorem Lk (ok:tb.Ok P) {t k u:Nat} {e j q:Ty} {m:Option Nat} {b v:Value} {y l:Bool} {w:World} (x:tb.ty t=some e) (C:e.bE=.map k u)
  (d:tb.ty k=some j) (p:tb.ty u=some q) (n:qy j.bE=true) (B:Sub h w) (f:xp j.bE q.zero m b h v y):
  (Instr.lookup t (.map m) b l).run P w=.ok (if l then .tuple #[v,.bool y] else v) w:=by
 have g:=au ok x w;rw [C] at g;obtain ⟨D,z,f⟩:=f;rcases z with ⟨rfl,rfl⟩ | ⟨r,ck,rfl,A⟩
 ·simp only [Instr.lookup,Sem.run_bind,g,Result.andThen_ok,Sem.run_pure,AU ok d n];rcases f with ⟨a,hv,c⟩ | ⟨i,a,c⟩
  ·simp only [ym ok d a,Result.andThen_ok,Sem.run_bind,bX ok p,Sem.run_pure,hv,c]
  ·simp only [ym ok d a,Result.andThen_ok,Sem.run_bind,Sem.run_pure,c]
 ·simp only [Instr.lookup,Sem.run_bind,g,Result.andThen_ok,I8 (B r _ A),Sem.run_pure,AU ok d n];rcases f with ⟨a,hv,c⟩ | ⟨i,a,c⟩
  ·simp only [ym ok d a,Result.andThen_ok,Sem.run_bind,bX ok p,Sem.run_pure,hv,c]
  ·simp only [ym ok d a,Result.andThen_ok,Sem.run_bind,Sem.run_pure,c]
theorem Tx (ok:tb.Ok P) {t:Nat} {x i:Operand} {l:Bool} (n:o.op=.lookup t x i l) (hv:gW (ev s ch x) λa=>gW (ev s ch i) λb=>match a,tb.ty t with
  | .map m,some e=>match e.bE with
   | .map k u=>match tb.ty k,tb.ty u with
    | some A,some p=>cond (qy A.bE) (lS (dX s ch) A.bE p.sh p.zero m b h λx y=>cond l (K (.v (.tuple #[p.sh.enc x,.bool y]))) (K (.v (p.sh.enc x))))
      (mi (dX s ch) P tb o.type (Instr.lookup t a b l) h K)
    | _,_=>False
   | _=>False
  | _,_=>False):dP P tb o ch s h K:=by
 obtain ⟨a,J,I⟩:=jC hv;clear hv;obtain ⟨b,L,hv⟩:=jC I;clear I;have B:holds s ch->∀(g:Nat->Nat) (d:Operand->Value),(∀x∈o.op.operands,dY g s d x)->∀(w q:World) (u:Value),(Instr.lookup t a b l).run P w=.ok u q->(execOp d o).run P w=.ok (.value u) q:=by intro c g d f w q u j;have N:=bn (f x (by simp [n,Op.operands])) c J;have M:=bn (f i (by simp [n,Op.operands])) c L;simp only [execOp,n,N,M,LVal,Sem.run_bind,j,Result.andThen_ok,Sem.run_pure]
 split at hv
 ·rename_i m e D;split at hv
  ·rename_i k u G;split at hv
   ·rename_i A p E H;cases r:qy A.bE with
    | false=>simp only [r,cond_false] at hv;exact Cg (by simp_all [cf]) hv λc g d f w q u j=>B c g d f w q u j
    | true=>
     simp only [r,cond_true] at hv;obtain ⟨y,z,j,F⟩:=hv;cases l with
     | true=>refine Aq (by simp [cf,n]) _ F λc g d w f C=>B c g d f w w _ ?_;rw [Lk ok D G E H r C (nv j c)];rfl
     | false=>refine Aq (by simp [cf,n]) _ F λc g d w f C=>B c g d f w w _ ?_;rw [Lk ok D G E H r C (nv j c)];rfl
   ·exact hv.elim
  ·exact hv.elim
 ·exact hv.elim
theorem Jz {k:IntKind} {w:World}:∀ {r:List Value} {x:Int} {v:Value},qN ir k x r=some v->(r.foldlM Builtin.min2 (.int k x)).run P w=.ok v w
 | [],x,v,h=>by cases h;rfl
 | a::r,x,v,h=>by
  cases a<;>simp only [qN] at h<;>first
   |cases h
   | (simp only [List.foldlM_cons,Sem.run_bind,Builtin.min2,Sem.run_pure,Result.andThen_ok]
      exact Jz h)
theorem JA {k:IntKind} {w:World}:∀ {r:List Value} {x:Int} {v:Value},qN iq k x r=some v->(r.foldlM Builtin.max2 (.int k x)).run P w=.ok v w
 | [],x,v,h=>by cases h;rfl
 | a::r,x,v,h=>by
  cases a<;>simp only [qN] at h<;>first
   |cases h
   | (simp only [List.foldlM_cons,Sem.run_bind,Builtin.max2,Sem.run_pure,Result.andThen_ok]
      exact JA h)
theorem Sq (ok:tb.Ok P) {b:Builtin} {G:Array Operand} {z:Array TypeId} (j:o.op=.call {callee:=.builtin b,args:=G,argTypes:=z})
  (hv:nc (dO s ch G.toList) λF=>LI (dX s ch) P tb b F z.toList o.type h K):dP P tb o ch s h K:=by
 obtain ⟨F,J,a⟩:=CM hv;clear hv;have q:holds s ch->∀(β:Nat->Nat) (ρ:Operand->Value),(∀x∈o.op.operands,dY β s ρ x)->G.map ρ=F.toArray:=by intro d β ρ f;have:=xB (β:=β) (ρ:=ρ) d J λx L=>f x (by simp [j,Op.operands,Call.operands];simpa using L);grind
 unfold LI at a;split at a
 ·rename_i x ty D;have E:z= #[ty]:=by apply Array.ext';simpa using D
  have t:holds s ch->∀(β:Nat->Nat) (ρ:Operand->Value),(∀x∈o.op.operands,dY β s ρ x)->∀(w m:World) (u:Value),(Builtin.len_ #[ty] o.type #[x]).run P w=.ok u m->(execOp ρ o).run P w=.ok (.value u) m:=by intro d β ρ f w m u C;have g:=q d β ρ f;simp only [execOp,j,resolve,invoke,builtin,Sem.run_bind,Sem.run_pure,Result.andThen_ok,g,E,C]
  unfold Dt at a;split at a
  ·rename_i e A;have l:=λw=>au ok A w;split at a
   ·rename_i M i;refine jW _ a λd β ρ w f=>t d β ρ f w w _ ?_;simp [Builtin.len_,l,i,goInt,LVal]
   ·rename_i I p n c i;refine jW _ a λd β ρ w f=>t d β ρ f w w _ ?_;simp [Builtin.len_,l,i,goInt,LVal]
   ·rename_i y n I i;refine jW _ a λd β ρ w f=>t d β ρ f w w _ ?_;cases y<;>simp [Builtin.len_,l,i,goInt,LVal]
   ·exact Cg (by simp_all [cf]) a λd β ρ f w m u C=>t d β ρ f w m u C
  ·exact a.elim
 ·rename_i p n c ty D;have E:z= #[ty]:=by apply Array.ext';simpa using D
  split at a
  ·rename_i e A;split at a
   ·rename_i u l;refine jW _ a λd β ρ w f=> ?_;have g:=q d β ρ f;have H:=au ok A w;rw [l] at H;simp [execOp,j,resolve,invoke,builtin,g,E,Builtin.cap_,H,goInt,LVal]
   ·exact a.elim
  ·exact a.elim
 ·rename_i k x r;split at a
  ·rename_i v B;refine jW _ a λd β ρ w f=> ?_;have g:=q d β ρ f;simp [execOp,j,resolve,invoke,builtin,g,Builtin.min_,Jz B,LVal]
  ·exact a.elim
 ·rename_i k x r;split at a
  ·rename_i v B;refine jW _ a λd β ρ w f=> ?_;have g:=q d β ρ f;simp [execOp,j,resolve,invoke,builtin,g,Builtin.max_,JA B,LVal]
  ·exact a.elim
 ·exact a.elim
theorem GM (ok:tb.Ok P) (hv:um P tb o ch s h K):dP P tb o ch s h K:=by
 obtain ⟨e,op,ty,pos,after,guard⟩:=o;cases op with
 | move x=>exact Iw (.inl rfl) hv
 | assign x=>exact Iw (.inr rfl) hv
 | pick x a b=>exact Wf rfl hv
 | extract x i=>exact Sm rfl hv
 | binOp op t x y p=>exact NG ok rfl hv
 | unOp op t x=>exact Pt rfl hv
 | nilCheck x=>exact NH rfl hv
 | load t x=>exact Wg ok rfl hv
 | fieldAddr t x i=>exact QK ok rfl hv
 | field t x i=>exact Ux ok rfl hv
 | indexAddr t x i=>exact QM ok rfl hv
 | index t x i=>exact Uy ok rfl hv
 | slice t x j g l=>exact Uz ok rfl hv
 | makeInterface t x=>exact UB ok rfl hv
 | makeFunc fn a b=>exact Wj rfl hv
 | convert a b x=>exact Sn ok rfl hv
 | build t n=>exact UC ok rfl hv
 | lookup t x i k=>exact Tx ok rfl hv
 | call c=>
  obtain ⟨callee,args,d⟩:=c;cases callee with
  | builtin b=>exact Sq ok rfl hv
  | value f=>exact hv.elim
  | invoke r m=>exact hv.elim
 | _=>exact hv.elim
end
section
variable {P:Program} {tb:Tb} {o:Oper} {ch:aP} {s:St} {h:Hp} {K:LV->Hp->Prop}
theorem NI (s:St) (t:Nat) (w:Bool) (r:aP):∃b,dX s ((t,w)::r)=some b/\(b=true↔holds s ((t,w)::r)):=by
 induction r generalizing t w with
 | nil=>
  simp only [dX];split
  ·rename_i b c a;refine ⟨_,rfl,λh=> ?_,λh=> ?_⟩
   ·intro p hp;simp at hp;subst hp;simp only [hb,a];grind
   ·have:=h (t,w) (List.mem_cons_self ..);simp only [hb,a] at this;grind
  ·refine ⟨false,rfl,λh=>(by cases h),λh=> ?_⟩;have:=h (t,w) (List.mem_cons_self ..);unfold hb at this;split at this
   ·rename_i f _ b c a;exact absurd a (f b c)
   ·cases this
 | cons p r k=>
  obtain ⟨l,m⟩:=p;obtain ⟨g,j,i⟩:=k l m;simp only [dX];split
  ·rename_i b c a;rw [j];refine ⟨_,rfl,λh=> ?_,λh=> ?_⟩
   ·have e:g=true/\b=w:=by grind
    intro q hq;rcases List.mem_cons.1 hq with rfl | hq
    ·simp only [hb,a,e.2]
    ·exact i.1 e.1 q hq
   ·have d:=h (t,w) (List.mem_cons_self ..);simp only [hb,a] at d;injection d with d
    have e:g=true:=i.2 λq hq=>h q (List.mem_cons_of_mem _ hq);grind
  ·refine ⟨false,rfl,λh=>(by cases h),λh=> ?_⟩;have:=h (t,w) (List.mem_cons_self ..);unfold hb at this;split at this
   ·rename_i f _ b c a;exact absurd a (f b c)
   ·cases this
def fI (P:Program) (o:Oper) (ch:aP) (s:St) (h:Hp) (K:LV->Hp->Prop):Prop:=
 (holds s ch->∀(β:Nat->Nat) (a:Act) (w:World),(∀x∈o.op.operands,dY β s a.eval x)->Sub h w->∀(next:Act->World->Prop) (Q:Exit->Act->World->Prop),
  (∀x b c,K (.v x) b->Step h b w c->next (a.put o.dst x) c)->o.wp P a w next Q)/\
 (¬holds s ch->∃x,K (.v x) h)
theorem At {d:Type} {A:(d->Hp->Prop)->Hp->Prop} {K:d->Hp->Prop} (a:dA (dX s ch) A K h):(holds s ch->A K h)/\(¬holds s ch->∃x,K x h):=by
 cases ch with
 | nil=>exact ⟨λ_=>a,λc=>absurd (bp s) c⟩
 | cons p r=>obtain ⟨t,w⟩:=p;obtain ⟨b,hb,f⟩:=NI s t w r;rw [hb] at a;exact ⟨λe=>a.1 (f.2 e),λc=>a.2 (by grind)⟩
theorem sr {e:Type} {A:(e->Hp->Prop)->Hp->Prop} {f:e->Value} (j:dA (dX s ch) A (λx b=>K (.v (f x)) b) h)
  (c:holds s ch->∀(β:Nat->Nat) (ρ:Operand->Value) (w:World),(∀x∈o.op.operands,dY β s ρ x)->Sub h w->∀(K:e->Hp->Prop),A K h->
   ∃x b d,(execOp ρ o).run P w=.ok (.value (f x)) d/\K x b/\Step h b w d):fI P o ch s h K:=by
 obtain ⟨i,m⟩:=At j;refine ⟨λhh β a w ho hs next Q g=> ?_,λg=> ?_⟩
 ·obtain ⟨x,b,d,c,k,l⟩:=c hh β a.eval w ho hs _ (i hh);unfold Oper.wp;rw [c,Oper.upon_value];exact g _ _ _ k l
 grind
theorem Ht {h:Hp} {a b:Addr} {v:Value} (i:∃u,cM h b=some u):∃u,cM (h.put a v) b=some u:=by
 obtain ⟨u,j⟩:=i;obtain ⟨c,t,fr,hb,g,d⟩:=CG j;unfold Hp.put;split
 ·rename_i k l m f;unfold cM Hp.set;by_cases e:b.block=a.block
  ·rw [e] at hb;rw [hb] at f;cases f;simp only [e,if_true,g,Option.isSome_none,Bool.false_eq_true,if_false];split
   ·exact ⟨u,d⟩
   ·rw [Array.getElem?_setIfInBounds];split
    ·rename_i n;have:b.off<c.size:=by
      rcases Nat.lt_or_ge b.off c.size with h | h
      ·exact h
      ·rw [Array.getElem?_eq_none h] at d;cases d
     rw [if_pos (by omega)];exact ⟨v,rfl⟩
    ·exact ⟨u,d⟩
  ·simp only [if_neg e,hb,g];exact ⟨u,by simpa using d⟩
 grind
theorem Hu (h:Hp) (a b:Addr) (v:Value):fY (h.put a v) b=fY h b:=by
 unfold Hp.put;split
 ·rename_i c e fr hb;unfold fY Hp.set;grind
 ·rfl
theorem CT {h:Hp} {a:Addr}:∀ {n:Nat},pG h a n->∀i,i<n->(∃v,cM h (a.add i)=some v)/\fY h (a.add i)=false
 | 0,_,i,c=>by omega
 | n+1,b,i,c=>by
  rcases Nat.lt_or_ge i n with h | h
  ·exact CT b.1 i h
  ·have:i=n:=by omega
   subst this;exact b.2
theorem CA {a:Addr}:∀(b:List Value) (i:Nat) (h:Hp) (w:World),Sub h w->iF b=true->
  (∀j,j<b.length->(∃v,cM h (a.add (i+j))=some v)/\fY h (a.add (i+j))=false)->
  ∃f,(storeCells a b i).run P w=.ok () f/\Step h (jA h a b i) w f
 | [],i,h,w,d,_,_=>⟨w,rfl,.refl d⟩
 | v::b,i,h,w,d,g,k=>by
  obtain ⟨⟨v0,e⟩,l⟩:=k 0 (by simp);rw [Nat.add_zero] at e l;have n:=Io (v:=v) d e;have m:iF b=true/\v.oneCell'=true:=by cases v<;>simp only [iF] at g<;>first | exact ⟨g,rfl⟩ | cases g
  obtain ⟨f,r,u⟩:=CA b (i+1) (h.put (a.add i) v) (w.setCell (a.add i) v) n.sub m.1 (λj y=>by
   have:=k (j+1) (by simp;omega);rw [show i+1+j=i+(j+1) from by omega];exact ⟨Ht this.1,by rw [Hu];exact this.2⟩)
  refine ⟨f,?_,n.trans u⟩;simp only [storeCells,Sem.run_bind];have x:(store (a.add i) v).run P w=.ok () (w.setCell (a.add i) v):=by
   have p:=uN d e;obtain ⟨c,t,fr,hb,_,_⟩:=CG e;have q:w.frozen? (a.add i)=false:=by rw [Al d hb];exact l
   have hv:=m.2;cases v<;>first
    | (simp [Value.oneCell'] at hv;done)
    |simp only [store,Sem.run,p,q,Bool.false_eq_true,if_false]
  rw [x];simp only [Result.andThen_ok];exact r
theorem UF (ok:tb.Ok P) {t:Nat} {x y:Operand} (d:o.op=.store t x y) (hv:match ev s ch x,ev s ch y with
  | some (.v (.pointer (some a))),some (.v v)=>match ch,tb.ty t with
   | [],some e=>cond (Nat.beq (aY v).length e.size) (cond (iF (aY v)) (cq h a (aY v) λg=>K (.v (.tuple #[])) g) False) False
   | _,_=>False
  | _,_=>False):fI P o ch s h K:=by
 split at hv
 ·rename_i a v k l;split at hv
  ·rename_i e i;cases b:Nat.beq (aY v).length e.size with
   | false=>simp [b] at hv
   | true=>
    cases f:iF (aY v) with
    | false=>grind
    | true=>
     simp only [b,f,cond_true] at hv;refine ⟨λhh β act w ho hs next Q c=> ?_,λc=>absurd (bp s) c⟩;have z:act.eval x=_:=bn (ho x (by simp [d,Op.operands])) hh k;have A:act.eval y=_:=bn (ho y (by simp [d,Op.operands])) hh l;obtain ⟨B,p,r⟩:=CA (P:=P) (aY v) 0 h w hs f (λj m=>by simpa using CT hv.1 j m);have u:=bI ok i w;have n:v.cells.size=e.size:=by rw [<-Array.length_toList,nt];exact Nat.eq_of_beq_eq_true b
     unfold Oper.wp;have q:(execOp act.eval o).run P w=.ok .skip B:=by
      simp only [execOp,d,z,A,LVal,Instr.storeAt,Instr.sureAddr,Sem.run_bind,Sem.run_pure,Result.andThen_ok,storeVar,u,n,ne_eq,not_true,if_false,nt];have:(if False then (stuck "storeVar: the value has not the size of the variable" :Sem Unit) else pure PUnit.unit).run P w=.ok () w:=rfl
      first | rw [this] | skip
      simp only [p,Result.andThen_ok]
     rw [q,Oper.upon_skip];exact c _ _ _ hv.2 r
  ·exact hv.elim
 ·exact hv.elim
theorem rK {e:TypeId} {a:Array Value} {w:World}:(newRow e a).run P w=.ok ⟨w.heap.size,0,none⟩ {w with heap:=w.heap.push (.cells a e)}:=by simp [newRow]
theorem A5 {a:List Value} {K:Addr->Hp->Prop} {t:Nat} {w:World} (e:Sub h w) (c:bq a K h):
  ∃b,K ⟨w.heap.size,0,none⟩ b/\Step h b w {w with heap:=w.heap.push (.cells a.toArray t)}:=by
 obtain ⟨d,f⟩:=yq e (.cells a.toArray t);exact ⟨_,c _ t d,f⟩
theorem TA {b:List Value} {K:Addr->Hp->Prop} {t:Nat} {w:World} (d:Sub h w) (a:xo t b K h):
  ∃c,K ⟨w.heap.size,0,none⟩ c/\Step h c w {w with heap:=w.heap.push (.cells b.toArray t)}:=by
 unfold xo at a;split at a
 ·obtain ⟨e,f⟩:=yq d (.cells (List.toArray [.pointer none,.slice none 0 0]) t);exact ⟨_,a _ e,f⟩
 ·exact A5 d a
theorem UH (ok:tb.Ok P) {t:Nat} (j:o.op=.alloc t) (hv:match tb.ty t with
  | some e=>dA (dX s ch) (xo t (aY e.zero)) (λa b=>K (.v (.pointer (some a))) b) h
  | none=>False):fI P o ch s h K:=by
 split at hv
 ·rename_i e d;refine sr (f:=λa=>.pointer (some a)) hv λm p q w n k K g=> ?_;obtain ⟨b,i,l⟩:=TA (t:=t) k g;refine ⟨_,b,_,?_,i,l⟩;have c:(aY e.zero).toArray=e.zero.cells:=by apply Array.ext';simp [nt]
  rw [c];simp [execOp,j,Instr.alloc,bX ok d,newVar,rK]
 ·exact hv.elim
theorem NJ {t:Nat} {x:Operand} (c:o.op=.box t x) (hv:gW (ev s ch x) λv=>dA (dX s ch) (bq (aY v)) (λa b=>K (.v (.pointer (some a))) b) h):
  fI P o ch s h K:=by
 obtain ⟨v,e,n⟩:=jC hv;refine sr (f:=λa=>.pointer (some a)) n λg q r w k l K i=> ?_;obtain ⟨b,j,m⟩:=A5 (t:=t) l i;refine ⟨_,b,_,?_,j,m⟩;have p:=bn (k x (by simp [c,Op.operands])) g e;have d:(aY v).toArray=v.cells:=by apply Array.ext';simp [nt]
 rw [d];simp [execOp,c,p,LVal,Instr.box,newVar,rK]
theorem La {a:Type} (l:List a):∀n,(j8 l n).length=n*l.length
 | 0=>by simp [j8]
 | n+1=>by simp [j8,La l n,Nat.add_mul,Nat.add_comm]
theorem IC (l:List Value):∀n i,i<n*l.length->(j8 l n)[i]? =l[i%l.length]?
 | 0,i,h=>by simp at h
 | n+1,i,h=>by
  simp only [j8];rcases Nat.lt_or_ge i l.length with hi | hi
  ·rw [List.getElem?_append_left hi,Nat.mod_eq_of_lt hi]
  ·rw [List.getElem?_append_right hi,IC l n (i-l.length) (by grind)];congr 1;rw [<-Nat.mod_eq_sub_mod hi]
theorem Au (z:List Value) (n size:Nat) (a:z.length=size):((Array.range (n*size)).map (λi=>z.toArray[i%z.toArray.size]!))=(j8 z n).toArray:=by
 apply Array.ext';apply List.ext_getElem?;intro i;rcases Nat.lt_or_ge i (n*size) with hi | hi
 ·have b:(j8 z n)[i]? =z[i%z.length]?:=IC z n i (by rw [a];exact hi);have d:0<size:=by
   rcases Nat.eq_zero_or_pos size with h | h
   ·subst h;simp at hi
   ·exact h
  have c:i%z.length<z.length:=Nat.mod_lt _ (by omega);grind
 ·have b:(j8 z n).length<=i:=by rw [La,a];exact hi
  grind
theorem Qd (ok:tb.Ok P) {t len:Nat} {parts:Array (Nat×Operand)} (n:o.op=.buildSlice t len parts) (hv:match lh s ch parts.toList,fX tb t with
  | some l,some e=>cond (Nat.ble (len*e.size) 16777216) (match mV e.size (j8 (aY e.zero) len) l with
   | some m=>dA (dX s ch) (bq m) (λa d=>K (.v (.slice (some a) len len)) d) h
   | none=>False) False
  | _,_=>False):fI P o ch s h K:=by
 split at hv
 ·rename_i l e G A;obtain ⟨y,u,O,M,k⟩:=uH A;cases g:Nat.ble (len*e.size) 16777216 with
  | false=>simp [g] at hv
  | true=>
   simp only [g,cond_true] at hv;have R:=Nat.le_of_ble_eq_true g;split at hv
   ·rename_i m z;refine sr (f:=λa=>.slice (some a) len len) hv λB β ρ w E I K C=> ?_;obtain ⟨d,D,J⟩:=A5 (t:=u) I C;refine ⟨_,d,_,?_,D,J⟩;have F:(parts.map λ(i,x)=>(i,ρ x)).toList=l:=by have:=A3 (β:=β) (ρ:=ρ) B G λx N=>E x (by simp [n,Op.operands];simpa using N);simpa using this
    have p:=au ok O w;rw [M] at p;have L:=bI ok k w;have Q:=bX ok k w;have q:=ok.xg u e k;have j:=A4 z;have r:e.zero.cells=(aY e.zero).toArray:=by apply Array.ext';simp [nt]
    simp only [execOp,n,Instr.buildSlice,Sem.run_bind,p,Result.andThen_ok,L,F];rw [pW];by_cases b:len*e.size=0
    ·have H:j8 (aY e.zero) len=[]:=by apply List.length_eq_zero_iff.1;rw [La,q];exact b
     rw [H] at j;have c:(Array.map (λx=>(#[]:Array Value)[x%(#[]:Array Value).size]!) (Array.range (len*e.size)))=([]:List Value).toArray:=by rw [b];simp
     simp only [b,if_true,Sem.run_pure,Result.andThen_ok,Sem.run_bind];rw [b] at c;simp only [c,j,Sem.run_bind,rK,Result.andThen_ok,Sem.run_pure]
    ·have c:=Au (aY e.zero) len e.size q;simp only [b,if_false,Sem.run_bind,Q,Result.andThen_ok,Sem.run_pure,r];simp only [c,j,Sem.run_bind,rK,Result.andThen_ok,Sem.run_pure]
   ·exact hv.elim
 ·exact hv.elim
end
section
variable {P:Program} {tb:Tb} {o:Oper} {ch:aP} {s:St} {h:Hp} {K:LV->Hp->Prop}
theorem wz {base:Option Addr} {n:Nat} {b:List Value} {w:World} (q:Sub h w) (p:nL h base n b) {m c:Nat} {size:Nat} (l:n=m*size):
  (Builtin.firstCells size m (.slice base m c)).run P w=.ok b.toArray w:=by
 obtain ⟨k,f⟩:=p;subst l;cases base with
 | none=>
  rcases f with g | ⟨a,d,_⟩
  ·have:b=[]:=List.length_eq_zero_iff.1 (by omega);subst this;rfl
  ·cases d
 | some a=>
  have e:∀j v,b[j]? =some v->w.cell? (a.add j)=some v:=by
   intro j v i;rcases f with g | ⟨r,d,e⟩
   ·grind
   ·cases d;exact uN q (e j v i)
  simp only [Builtin.firstCells];rw [<-k];exact TQ e
theorem Gg {a cap:Nat} (h:cap<a):Builtin.nextslicecap a cap<=2*a:=by
 unfold Builtin.nextslicecap;split
 ·omega
 ·split
  ·omega
  ·have key:∀r c,c<2*a->(c<a->256<=c)->Builtin.growBy a r c<=2*a:=by
    intro r
    induction r with
    | zero=>intro c d _;simp only [Builtin.growBy];omega
    | succ r e=>
     intro c d b;simp only [Builtin.growBy];split
     ·omega
     ·rename_i f;have:=b (by omega);exact e _ (by omega) (by omega)
   grind
theorem JD (z:List Value):∀n,eS z n=j8 z n
 | 0=>rfl
 | n+1=>by simp only [eS,List.replicate_succ,List.flatten_cons,j8];rw [<-JD z n,eS]
theorem CD (z:Array Value) (n:Nat):Builtin.zeroCells z n=(eS z.toList n).toArray:=by rw [JD];have:=Au z.toList n z.size (by simp);unfold Builtin.zeroCells;rw [<-this]
theorem B7 :IntKind.i64.max=9223372036854775807:=by decide
theorem GN (ok:tb.Ok P) {t I u rt n:Nat} {y e m:Ty} {l:Sl} {x:Value} {new:List Value} {K:Sl->Hp->Prop} {w:World}
  (hy:tb.ty t=some y) (hu:y.bE=.slice u) (z:tb.ty u=some e) (b2:tb.ty I=some m) (b7:∀k,m.bE≠ .int k)
  (b:Sub h w) (M:Ls u e.size e.bytes (aY e.zero) l n new K h) (B:∀w:World,(Builtin.lenOf x).run P w=.ok n w)
  (D:∀w:World,Sub h w->(Builtin.firstCells e.size n x).run P w=.ok new.toArray w) (b8:new.length=n*e.size):
  ∃r p g,(Builtin.append_ #[t,I] rt #[.slice l.base l.len l.cap,x]).run P w=.ok (.slice r.base r.len r.cap) g/\K r p/\Step h p w g:=by
 obtain ⟨d,hold,⟨b4,b3⟩,X,U,R⟩:=M;have f:=λw=>au ok hy w;have q:=λw=>au ok b2 w;have v:=λw=>bI ok z w;have L:=λw=>bX ok z w;obtain ⟨i,S,_,T,_⟩:=ok.info u e z;have J:∀w,(typeInfo u).run P w=.ok i w:=λw=>by simp [typeInfo,S]
 have F:(match m.bE with | .int _=>true | _=>false)=false:=by simp
 simp only [hu] at f;by_cases A:l.len+n<=l.cap
 ·obtain ⟨E,G⟩:=U A;cases hb:l.base with
  | none=>
   refine ⟨_,_,w,?_,G,?_⟩
   ·simp [Builtin.append_,f,q,v,F,B,A,D w b,hb]
   ·simp only [fG,hb];exact .refl b
  | some a=>
   obtain ⟨g,Z,b0⟩:=CA (P:=P) new 0 h w b X (a:=a.add (l.len*e.size)) (λj hj=>by
    have:=CT (E a hb) j (by omega);simpa using this)
   refine ⟨_,_,g,?_,G,?_⟩
   ·simp [Builtin.append_,f,q,v,F,B,A,D w b,hb,Z]
   ·simp only [fG,hb];exact b0
 ·have C:l.cap<l.len+n:=by omega
  have Q:=Gg C;have b5:¬(Builtin.nextslicecap (l.len+n) l.cap*e.bytes>281474976710656):=by
   have:Builtin.nextslicecap (l.len+n) l.cap*e.bytes<=2*(l.len+n)*e.bytes:=Nat.mul_le_mul_right _ Q;have p:2*(l.len+n)*e.bytes=2*((l.len+n)*e.bytes):=by rw [Nat.mul_assoc]
   omega
  have b6:¬(((l.len+n:Nat):Int)>IntKind.i64.max):=by rw [B7];omega
  have b1:Sub h {w with drawn:=w.drawn+1}:=b;have Y:∀w:World,Sub h w->(Builtin.firstCells e.size l.len (.slice l.base l.len l.cap)).run P w=.ok d.toArray w:=λw b=>wz b hold rfl;let c:=(Question.appendCap (l.len+n) l.cap u).cut (w.tape w.drawn (.appendCap (l.len+n) l.cap u));have O:l.len+n<=c:=by simp only [c,Question.cut];omega
  have a8:(d.toArray++new.toArray++Builtin.zeroCells e.zero.cells (c-(l.len+n)))=(d++new++eS (aY e.zero) (c-(l.len+n))).toArray:=by rw [CD,nt];simp
  obtain ⟨W,E⟩:=yq b1 (.cells (d++new++eS (aY e.zero) (c-(l.len+n))).toArray u);refine ⟨_,_,_,?_,R C c _ O W,E.drew⟩;have V:¬(9223372036854775807<(l.len:Int)+(n:Int)):=by omega
  have H:Sub h w.drew:=b;have N:¬(281474976710656<Builtin.nextslicecap (l.len+n) l.cap*i.bytes):=by rw [T];omega
  have a9:d.toArray++(new.toArray++Builtin.zeroCells e.zero.cells (c-(l.len+n)))=(d++(new++eS (aY e.zero) (c-(l.len+n)))).toArray:=by rw [<-Array.append_assoc,a8,List.append_assoc]
  simp [Builtin.append_,f,q,v,J,L,F,B,Nat.not_le.2 C,V,N,Question.forced,Y _ H,D _ H,rK];refine ⟨rfl,?_⟩;rw [<-a9];rfl
theorem wO (z:List Value) (n:Nat):(eS z n).length=n*z.length:=by simp [eS]
theorem Sr (ok:tb.Ok P) {t Z u rt:Nat} {m:Int} {y e M:Ty} {l:Sl} {K:Sl->Hp->Prop} {w:World}
  (hy:tb.ty t=some y) (hu:y.bE=.slice u) (E:tb.ty u=some e) (b7:tb.ty Z=some M) (hint:M.bE=.int .i64)
  (z:Sub h w) (hm:0<=m) (ha:jG e.size e.bytes (aY e.zero) l m.toNat (eS (aY e.zero) m.toNat) K h):
  ∃r H G,(Builtin.append_ #[t,Z] rt #[.slice l.base l.len l.cap,.int .i64 m]).run P w=.ok (.slice r.base r.len r.cap) G/\K r H/\Step h H w G:=by
 obtain ⟨B,hold,⟨a9,a8⟩,U,Q,O⟩:=ha;have d:=λw=>au ok hy w;have f:=λw=>au ok b7 w;have g:=λw=>bI ok E w;have C:=λw=>bX ok E w;obtain ⟨i,hi,_,b1,_⟩:=ok.info u e E;have p:∀w,(typeInfo u).run P w=.ok i w:=λw=>by simp [typeInfo,hi]
 simp only [hu] at d;simp only [hint] at f;have L:=ok.xg u e E;have A:IntKind.i64.wrap m=m:=by
  (try unfold yw);unfold IntKind.wrap
  simp only [IntKind.signed,IntKind.bits];grind
 have c2:¬m<0:=by omega
 obtain ⟨n,rfl⟩:=Int.eq_ofNat_of_zero_le hm;have b2:((n:Int)).toNat=n:=by omega
 rw [b2] at a9 a8 U Q O;have c0:¬((n:Int)*(i.bytes:Int)>281474976710656):=by grind
 have v:¬(281474976710656<(n:Int)*(i.bytes:Int)):=by omega
 have b9:∀w:World,(if n*e.size=0 then (pure #[]:Sem (Array Value)) else do pure (Builtin.zeroCells (<-zeroValue u).cells n)).run P w=.ok (eS (aY e.zero) n).toArray w:=by
  intro w;by_cases b:n*e.size=0
  ·have:eS (aY e.zero) n=[]:=List.length_eq_zero_iff.1 (by rw [wO,L];exact b);rw [if_pos b,this];rfl
  ·rw [if_neg b];simp only [Sem.run_bind,C,Result.andThen_ok,Sem.run_pure];congr 1;rw [CD,nt]
 have q:∀w:World,(asInt (.int .i64 (n:Int))).run P w=.ok (n:Int) w:=λw=>rfl;have x:¬(n:Int)<0:=by omega
 have b8:Builtin.zeroCells e.zero.cells n=(eS (aY e.zero) n).toArray:=by rw [CD,nt]
 have X:n*e.size=0->eS (aY e.zero) n=[]:=λb=>List.length_eq_zero_iff.1 (by rw [wO,L];exact b);by_cases D:l.len+n<=l.cap
 ·obtain ⟨J,S⟩:=Q D;cases hb:l.base with
  | none=>
   refine ⟨_,_,w,?_,S,?_⟩
   ·by_cases b:n*e.size=0
    ·simp [Builtin.append_,d,f,g,p,q,A,x,v,D,b,hb]
    ·simp [Builtin.append_,d,f,g,p,C,q,A,x,v,D,b,hb]
   ·simp only [fG,hb];exact .refl z
  | some a=>
   obtain ⟨G,I,b5⟩:=CA (P:=P) (eS (aY e.zero) n) 0 h w z U (a:=a.add (l.len*e.size)) (λj R=>by
    have:=CT (J a hb) j (by rw [wO,L] at R;exact R);simpa using this)
   refine ⟨_,_,G,?_,S,?_⟩
   ·by_cases b:n*e.size=0
    ·rw [X b] at I;simp [Builtin.append_,d,f,g,p,q,A,x,v,D,b,hb,I]
    ·simp [Builtin.append_,d,f,g,p,C,q,A,x,v,D,b,b8,hb,I]
   ·simp only [fG,hb];exact b5
 ·have F:l.cap<l.len+n:=by omega
  have b0:=Gg F;have c1:¬(Builtin.nextslicecap (l.len+n) l.cap*e.bytes>281474976710656):=by
   have:Builtin.nextslicecap (l.len+n) l.cap*e.bytes<=2*(l.len+n)*e.bytes:=Nat.mul_le_mul_right _ b0;have H:2*(l.len+n)*e.bytes=2*((l.len+n)*e.bytes):=by rw [Nat.mul_assoc]
   omega
  have b6:Sub h {w with drawn:=w.drawn+1}:=z;have V:∀w:World,Sub h w->(Builtin.firstCells e.size l.len (.slice l.base l.len l.cap)).run P w=.ok B.toArray w:=λw z=>wz z hold rfl;let c:=(Question.appendCap (l.len+n) l.cap u).cut (w.tape w.drawn (.appendCap (l.len+n) l.cap u));have hc:l.len+n<=c:=by simp only [c,Question.cut];omega
  have b3:(B.toArray++(eS (aY e.zero) n).toArray++Builtin.zeroCells e.zero.cells (c-(l.len+n)))=(B++eS (aY e.zero) n++eS (aY e.zero) (c-(l.len+n))).toArray:=by rw [CD,nt];simp
  obtain ⟨hn,J⟩:=yq b6 (.cells (B++eS (aY e.zero) n++eS (aY e.zero) (c-(l.len+n))).toArray u);refine ⟨_,_,_,?_,O F c _ u hc hn,J.drew⟩;have T:¬(9223372036854775807<(l.len:Int)+(n:Int)):=by omega
  have W:Sub h w.drew:=z;have N:¬(281474976710656<Builtin.nextslicecap (l.len+n) l.cap*i.bytes):=by rw [b1];omega
  have b4:B.toArray++((eS (aY e.zero) n).toArray++Builtin.zeroCells e.zero.cells (c-(l.len+n)))=(B++(eS (aY e.zero) n++eS (aY e.zero) (c-(l.len+n)))).toArray:=by rw [<-Array.append_assoc,b3,List.append_assoc]
  have Y:∀k,Builtin.zeroCells e.zero.cells k=(eS (aY e.zero) k).toArray:=λk=>by rw [CD,nt]
  by_cases b:n*e.size=0
  ·simp only [X b] at b4 ⊢;simp [Builtin.append_,d,f,g,p,C,q,A,x,v,Nat.not_le.2 F,B7,T,N,Question.forced,V _ W,b,rK,Y];exact ⟨rfl,rfl⟩
  ·simp [Builtin.append_,d,f,g,p,C,q,A,x,v,Nat.not_le.2 F,B7,T,N,Question.forced,V _ W,b,rK,Y];exact ⟨rfl,rfl⟩
theorem TC (ok:tb.Ok P) {O:Array Operand} {F:Array TypeId} (H:o.op=.call {callee:=.builtin .append,args:=O,argTypes:=F}) {N:List Value} (Y:dO s ch O.toList=some N)
  (hv:yO tb (dX s ch) F.toList N h K):fI P o ch s h K:=by
 have J:holds s ch->∀(β:Nat->Nat) (ρ:Operand->Value),(∀x∈o.op.operands,dY β s ρ x)->O.map ρ=N.toArray:=by intro d β ρ g;have:=xB (β:=β) (ρ:=ρ) d Y λx Z=>g x (by simp [H,Op.operands,Call.operands];simpa using Z);apply Array.ext';simpa using this
 unfold yO at hv;split at hv
 ·rename_i p n c p' n' U t E I;have D:F= #[t,E]:=by grind
  split at hv
  ·rename_i e Q v W;obtain ⟨y,u,j,i,b⟩:=uH v;obtain ⟨y',u',a8,b1,a9⟩:=uH W;refine sr (f:=λ(l:Sl)=>.slice l.base l.len l.cap) hv λd β ρ w g a K z=> ?_;obtain ⟨new,R,q⟩:=z;obtain ⟨r,k,G,B,A,C⟩:=GN (P:=P) (rt:=o.type) (x:=.slice p' n' U) (l:=⟨p,n,c⟩) ok j i b a8 (by grind) a (q.u u) (λw=>rfl)
    (λw a=>wz a R rfl) R.1
   refine ⟨r,k,G,?_,A,C⟩;simp only [execOp,H,resolve,invoke,builtin,Sem.run_bind,Sem.run_pure,Result.andThen_ok,J d β ρ g,D,B]
  ·exact hv.elim
 ·rename_i p n c x t E I;have D:F= #[t,E]:=by apply Array.ext';simpa using I
  split at hv
  ·rename_i e Q v M;obtain ⟨y,u,j,i,b⟩:=uH v;split at hv
   ·rename_i T b0;cases L:Nat.beq e.bytes 1 with
    | false=>simp [L] at hv
    | true=>
     simp only [L,cond_true] at hv;have V:=Nat.eq_of_beq_eq_true L;have S:e.size=1:=(ok.leaf u e b (by rw [T];rfl)).1;refine sr (f:=λ(l:Sl)=>.slice l.base l.len l.cap) hv λd β ρ w g a K z=> ?_;have hz:aY e.zero=[.int .u8 0]:=ok.yl u e b T;have hid:BX tb t=u:=by unfold BX;rw [j];simp only [i]
     have q:Ls u e.size e.bytes (aY e.zero) ⟨p,n,c⟩ x.size (xE x) K h:=by rw [S,V,hz,<-hid];exact z
     obtain ⟨r,k,G,B,A,C⟩:=GN (P:=P) (rt:=o.type) (x:=.string x) (l:=⟨p,n,c⟩) ok j i b M (by grind) a q (λw=>rfl)
      (λw a=>by
       have:(x.extract 0 x.size)=x:=by simp
       simp only [Builtin.firstCells,this,Sem.run_pure];congr 1;apply Array.ext';simp [xE]) (by simp [xE,S])
     refine ⟨r,k,G,?_,A,C⟩;simp only [execOp,H,resolve,invoke,builtin,Sem.run_bind,Sem.run_pure,Result.andThen_ok,J d β ρ g,D,B]
   ·exact hv.elim
  ·exact hv.elim
 ·rename_i p n c m t E I;have D:F= #[t,E]:=by apply Array.ext';simpa using I
  split at hv
  ·rename_i e Q v M;obtain ⟨y,u,j,i,b⟩:=uH v;split at hv
   ·rename_i hint;refine sr (f:=λ(l:Sl)=>.slice l.base l.len l.cap) hv λd β ρ w g a K z=> ?_;obtain ⟨X,q⟩:=z;obtain ⟨r,k,G,B,A,C⟩:=Sr (P:=P) (rt:=o.type) (l:=⟨p,n,c⟩) ok j i b M hint a X q;refine ⟨r,k,G,?_,A,C⟩;simp only [execOp,H,resolve,invoke,builtin,Sem.run_bind,Sem.run_pure,Result.andThen_ok,J d β ρ g,D,B]
   ·exact hv.elim
  ·exact hv.elim
 ·exact hv.elim
theorem Wk (ok:tb.Ok P) {B:Array Operand} {A:Array TypeId} (r:o.op=.call {callee:=.builtin .copy,args:=B,argTypes:=A}) {p g:Option Addr} {n b c d:Nat} {t L:Nat}
  (W:dO s ch B.toList=some [.slice p n c,.slice g b d]) (a8:A.toList=[t,L]) {e:Ty} (N:fX tb t=some e)
  (hv:dA (dX s ch) (fq e.size ⟨p,n,c⟩ ⟨g,b,d⟩) (λk M=>K (.v (.int .i64 k)) M) h):fI P o ch s h K:=by
 have D:holds s ch->∀(β:Nat->Nat) (ρ:Operand->Value),(∀x∈o.op.operands,dY β s ρ x)->B.map ρ= #[.slice p n c,.slice g b d]:=by intro i β ρ l;have:=xB (β:=β) (ρ:=ρ) i W λx X=>l x (by simp [r,Op.operands,Call.operands];simpa using X);apply Array.ext';simpa using this
 have J:A= #[t,L]:=by grind
 obtain ⟨y,u,Y,V,O⟩:=uH N;refine sr (f:=λ(k:Int)=>.int .i64 k) hv λi β ρ w l z K Q=> ?_;obtain ⟨new,H,R,T,F⟩:=Q;have q:=λw=>au ok Y w;have C:=λw=>bI ok O w;rw [V] at q;have G:Nat.min b n=min b n:=rfl;have I:(Builtin.firstCells e.size (min b n) (.slice g b d)).run P w=.ok new.toArray w:=by have:=wz (P:=P) (m:=min b n) (c:=d) z H rfl;cases g<;>exact this
 cases hp:p with
 | none=>subst hp;refine ⟨_,_,w,?_,F,by simp only [fG];exact .refl z⟩;simp only [execOp,r,resolve,invoke,builtin,Sem.run_bind,Sem.run_pure,Result.andThen_ok,D i β ρ l,J];simp [Builtin.copy_,q,C,Builtin.lenOf,G,I,goInt]
 | some a=>
  subst hp;obtain ⟨Z,S,U⟩:=CA (P:=P) (a:=a) new 0 h w z R (λj E=>by
   have:=CT (T a rfl) j (by rw [H.1] at E;exact E);simpa using this)
  refine ⟨_,_,Z,?_,F,by simp only [fG,show a.add 0=a from by simp [Addr.add]];exact U⟩;simp only [execOp,r,resolve,invoke,builtin,Sem.run_bind,Sem.run_pure,Result.andThen_ok,D i β ρ l,J];simp [Builtin.copy_,q,C,Builtin.lenOf,G,I,goInt,S]
theorem Wl (ok:tb.Ok P) {t:Nat} {x y:Operand} (c:o.op=.makeSlice t x y) {m n:Int} {e:Ty} (E:ev s ch x=some (.v (.int .i64 m))) (F:ev s ch y=some (.v (.int .i64 n)))
  (D:fX tb t=some e) (hv:dA (dX s ch) (dw e.bytes (aY e.zero) m n) (λl r=>K (.v (.slice l.base l.len l.cap)) r) h):fI P o ch s h K:=by
 obtain ⟨y',u,R,O,a⟩:=uH D;refine sr (f:=λ(l:Sl)=>.slice l.base l.len l.cap) hv λg β p w j M K I=> ?_;obtain ⟨⟨h0,b1,a8,a9⟩,J⟩:=I;have Q:p x=_:=bn (j x (by simp [c,Op.operands])) g E;have S:p y=_:=bn (j y (by simp [c,Op.operands])) g F;have d:=au ok R w;rw [O] at d;have z:=λw=>bI ok a w;have B:=λw=>bX ok a w;obtain ⟨i,G,_,H,_⟩:=ok.info u e a;have A:∀w,(typeInfo u).run P w=.ok i w:=λw=>by simp [typeInfo,G]
 have U:=ok.xg u e a;have V:IntKind.i64.wrap m=m:=by simp [IntKind.wrap,IntKind.bits,IntKind.signed];omega
 have W:IntKind.i64.wrap n=n:=by simp [IntKind.wrap,IntKind.bits,IntKind.signed];omega
 have b0:¬((e.bytes:Int)*n>281474976710656):=by grind
 obtain ⟨L,N⟩:=yq M (.cells (eS (aY e.zero) n.toNat).toArray u);refine ⟨_,_,_,?_,J _ u L,N⟩;have X:¬n<0:=by omega
 have Y:¬m<0:=by omega
 have Z:¬m>n:=by omega
 have C:((n<0 || decide ((e.bytes:Int)*n>2^48)) || decide (m<0) || decide (m>n))=false:=by grind
 have b2:(if n.toNat*e.size=0 then (#[]:Array Value) else e.zero.cells)=e.zero.cells\/n.toNat*e.size=0:=by grind
 have k:(Array.range (n.toNat*e.size)).map (λi=>e.zero.cells[i%e.zero.cells.size]!)=(eS (aY e.zero) n.toNat).toArray:=by
  have:=Au (aY e.zero) n.toNat e.size U;rw [JD,<-this];have q:e.zero.cells=(aY e.zero).toArray:=by apply Array.ext';simp [nt]
  rw [q]
 simp only [execOp,c,Q,S,LVal,Instr.makeSlice,Sem.run_bind,d,Result.andThen_ok,asInt,asIntOf,Sem.run_pure,A,V,W,H];have hb:((n<0 || decide ((e.bytes:Int)*n>2^48)) || decide (m<0) || decide (m>n))=false:=C;simp only [hb,Bool.false_eq_true,if_false,Sem.run_bind,run_askRoom,Result.andThen_ok,z];by_cases b:n.toNat*e.size=0
 ·have T:(eS (aY e.zero) n.toNat).toArray= #[]:=by rw [<-k,b];simp
  simp [b,T,rK];grind
 ·simp [b,B,rK,k]
end
section
variable {P:Program} {tb:Tb} {o:Oper} {ch:aP} {s:St} {h:Hp} {K:LV->Hp->Prop}
theorem Ss {t:Nat} (d:o.op=.makeMap t none) (hv:dA (dX s ch) BP (λm a=>K (.v (.map m)) a) h):fI P o ch s h K:=by refine sr (f:=λm=>.map m) hv λi k l w j e K b=> ?_;obtain ⟨c,g⟩:=yq e (.map #[] 0);refine ⟨_,_,_,?_,b _ c,g⟩;simp [execOp,d,Instr.makeMap]
theorem UJ (ok:tb.Ok P) {p d:Nat} {x:Operand} (m:o.op=.convert p d x) {b:ByteArray} {e g:Ty} (C:ev s ch x=some (.v (.string b))) (O:tb.ty p=some e)
  (B:fX tb d=some g) (A:e.bE=.string) (F:g.bE=.int .u8)
  (hv:dA (dX s ch) (FE b) (λl q=>K (.v (.slice l.base l.len l.cap)) q) h):fI P o ch s h K:=by
 obtain ⟨y,u,U,R,E⟩:=uH B;refine sr (f:=λ(l:Sl)=>.slice l.base l.len l.cap) hv λG X W w L M K H=> ?_;have T:W x=_:=bn (L x (by simp [m,Op.operands])) G C;have i:=λw=>au ok O w;have j:=λw=>au ok U w;have k:=λw=>au ok E w;rw [A] at i;rw [R] at j;rw [F] at k;let c:=(Question.appendCap b.size 0 u).cut (w.tape w.drawn (.appendCap b.size 0 u));have t:b.size<=c:=by simp only [c,Question.cut];omega
 have S:Sub h w.drew:=M;let a:=xE b++eS [.int .u8 0] (c-b.size);have z:a.length=c:=by
  have:(xE b).length=b.size:=by simp [xE]
  simp only [a,List.length_append,JD,La,this];simp;omega
 obtain ⟨J,Q⟩:=yq S (.cells a.toArray u (c,c+1));refine ⟨_,_,_,?_,H c _ u t J,Step.drew Q⟩;have r:(b.data.map λx=>(.int .u8 x.toNat:Value))++Array.replicate (c-b.size) (.int .u8 0)=a.toArray:=by
  apply Array.ext';simp only [a,xE,JD];have:∀n,List.replicate n (.int .u8 0:Value)=j8 [.int .u8 0] n:=by
   intro n;induction n with
   | zero=>rfl
   | succ n V=>simp only [List.replicate_succ,j8,V];rfl
  simp [this]
 simp only [execOp,m,T,LVal,convert,Sem.run_bind,i,j,k,Result.andThen_ok,Conv.stringToBytes,run_choose,Question.forced,Bool.false_eq_true,if_false,rK,Sem.run_pure];change _=Result.ok (Next.value (.slice (some ⟨w.heap.size,0,none⟩) b.size c)) _;rw [show ((Question.appendCap b.size 0 u).cut (w.tape w.drawn (.appendCap b.size 0 u)))=c from rfl,r];have N:({w.drew with heap:=w.heap.push (.cells a.toArray u)}:World).shape? w.heap.size=some (u,c):=by simp [World.shape?,z]
 have D:({w.drew with heap:=w.heap.push (.cells a.toArray u)}:World).freeze ⟨w.heap.size,c,none⟩ 1={w.drew with heap:=w.heap.push (.cells a.toArray u (c,c+1))}:=by simp only [World.freeze,Nat.one_ne_zero,if_false];congr 1;grind
 have I:(markStringish ⟨w.heap.size,0,none⟩).run P {w.drew with heap:=w.heap.push (.cells a.toArray u)}=.ok () {w.drew with heap:=w.heap.push (.cells a.toArray u (c,c+1))}:=by simp only [markStringish,Sem.run_bind,run_shape,Result.andThen_ok,N,run_freeze];rw [D]
 change (((markStringish ⟨w.heap.size,0,none⟩).run P {w.drew with heap:=w.heap.push (.cells a.toArray u)}).andThen _).andThen _=_;rw [I];rfl
theorem Wm (ok:tb.Ok P) {i d:Nat} {x:Operand} (q:o.op=.convert i d x) {p:Option Addr} {n c:Nat} {e g:Ty} {U:Nat} (E:ev s ch x=some (.v (.slice p n c))) (O:tb.ty i=some e)
  (D:fX tb d=some g) (C:e.bE=.slice U) (H:g.bE=.int .u8) (M:i=d)
  (hv:dA (dX s ch) (xJ p) (λ_ z=>K (.v (.slice p n c)) z) h):fI P o ch s h K:=by
 obtain ⟨y,u,T,R,G⟩:=uH D;refine sr (f:=λ(_:Unit)=>.slice p n c) hv λI W V w L r K j=> ?_;have S:V x=_:=bn (L x (by simp [q,Op.operands])) I E;have k:=λw=>au ok O w;have l:=λw=>au ok T w;have m:=λw=>au ok G w;rw [C] at k;rw [R] at l;rw [H] at m;obtain ⟨b,off,a,t,rfl,hb,j⟩:=j;have Q:=CR r hb (o:=.cells a t (a.size,a.size+1));refine ⟨_,_,_,?_,j,Q⟩;have B:w.heap[b]? =some (.cells a t (0,0)):=r _ _ hb;have F:w.freeze ⟨b,a.size,none⟩ 1={w with heap:=w.heap.setIfInBounds b (.cells a t (a.size,a.size+1))}:=by simp only [World.freeze,Nat.one_ne_zero,if_false];congr 1;grind
 have J:(markStringish ⟨b,off,none⟩).run P w=.ok () {w with heap:=w.heap.setIfInBounds b (.cells a t (a.size,a.size+1))}:=by
  have N:w.shape? b=some (t,a.size):=by simp [World.shape?,B]
  simp only [markStringish,Sem.run_bind,run_shape,Result.andThen_ok,N,run_freeze];rw [F]
 have A:(i==d)=true:=by rw [M];simp
 simp only [execOp,q,S,LVal,convert,Sem.run_bind,k,l,m,Result.andThen_ok,A,J,Sem.run_pure]
end
section
variable {P:Program} {tb:Tb} {o:Oper} {ch:aP} {s:St} {h:Hp} {K:LV->Hp->Prop}
theorem A6 {g:Type} {A:(g->Hp->Prop)->Hp->Prop} (k:dA (dX s ch) A (λ_ b=>K (.v (.tuple #[])) b) h)
  (c:holds s ch->∀(e:Nat->Nat) (i:Operand->Value) (w:World),(∀x∈o.op.operands,dY e s i x)->Sub h w->∀(K:g->Hp->Prop),A K h->
   ∃x b d,(execOp i o).run P w=.ok .skip d/\K x b/\Step h b w d):fI P o ch s h K:=by
 obtain ⟨j,n⟩:=At k;refine ⟨λhh e a w ho hs next Q f=> ?_,λf=> ?_⟩
 ·obtain ⟨x,b,d,c,l,m⟩:=c hh e a.eval w ho hs _ (j hh);unfold Oper.wp;rw [c,Oper.upon_skip];exact f _ _ _ l m
 grind
theorem xv {sh:Shape} {c:Sem Value} (hv:Km (dX s ch) P sh c K h)
  (q:holds s ch->∀(d:Nat->Nat) (b:Operand->Value),(∀x∈o.op.operands,dY d s b x)->∀(w a:World) (v:Value),c.run P w=.ok v a->(execOp b o).run P w=.ok (.value v) a):
  fI P o ch s h K:=by
 refine sr (f:=sh.enc) hv λg d b w k m K i=> ?_;obtain ⟨v,a,e,l,⟨x,p,j⟩,n⟩:=IQ c m i;subst p;exact ⟨x,e,a,q g d b k w a _ l,j,n⟩
theorem uC {t:Nat} {a:Sem Value} (hv:qJ (dX s ch) P tb t a K h)
  (d:holds s ch->∀(β:Nat->Nat) (c:Operand->Value),(∀x∈o.op.operands,dY β s c x)->∀(w b:World) (v:Value),a.run P w=.ok v b->(execOp c o).run P w=.ok (.value v) b):
  fI P o ch s h K:=by
 unfold qJ at hv;split at hv
 ·exact xv hv d
 ·exact hv.elim
theorem UL {a b:ByteArray} (h:(a==b)=true):(b==a)=true:=by
 have:a=b:=by cases a;cases b;congr;exact eq_of_beq h
 grind
theorem UN {c:TypeDesc} {a b:Value} {n:Nat} (d:qy c=true) (h:Instr.sameNow c a b=some true):Instr.sameBits n b a=true:=by
 cases c with
 | bool=>
  cases a<;>cases b<;>simp only [Instr.sameNow] at h<;>try (cases h;done)
  injection h with h
  have:∀x y:Bool,(x==y)=true->(y==x)=true:=by decide
  cases n<;>exact this _ _ h
 | int k=>
  cases a<;>cases b<;>simp only [Instr.sameNow] at h<;>try (cases h;done)
  split at h
  ·injection h with h
   have e:=eq_of_beq h;subst e;rename_i f;cases n<;>simp_all [Instr.sameBits]
  ·cases h
 | string=>
  cases a<;>cases b<;>simp only [Instr.sameNow] at h<;>try (cases h;done)
  injection h with h
  cases n<;>exact UL h
 | _=>simp [qy] at d
theorem Gj {b:TypeDesc} {k:Value}:∀ {a:List MapEntry} {j i:Nat} {u:Value},Instr.findNow b k a j=some (some (i,u))->
  j<=i/\∃e,a[i-j]? =some e/\e.val=u/\Instr.sameNow b k e.key=some true
 | [],j,i,u,h=>by simp [Instr.findNow] at h
 | e::a,j,i,u,h=>by
  simp only [Instr.findNow] at h;split at h
  ·grind
  ·obtain ⟨f,c,d,l,g⟩:=Gj h;grind
  ·cases h
theorem Ll {r:Nat} {o a:Obj} {w:World} (hb:w.heap[r]? =some a) (b:isCells a=false):(setObj r o).run P w=.ok () {w with heap:=w.heap.setIfInBounds r o}:=by simp only [setObj,Sem.run,hb];cases a<;>first | rfl | simp [isCells] at b
theorem TD (ok:tb.Ok P) {t k u:Nat} {e p:Ty} {m:Option Nat} {b v:Value} {w:World} {K:Hp->Prop} (B:tb.ty t=some e) (H:e.bE=.map k u)
  (c:tb.ty k=some p) (f:qy p.bE=true) (j:Sub h w) (E:yu p.bE m b v K h):
  ∃q y,(Instr.mapUpdate t (.map m) b v).run P w=.ok () y/\K q/\Step h q w y:=by
 obtain ⟨r,A,ck,rfl,g,a⟩:=E;have l:=au ok B w;rw [H] at l;have hb:=j r _ g;rcases a with ⟨a,d⟩ | ⟨i,x,a,d⟩
 ·refine ⟨_,_,?_,d,CR j g⟩;simp only [Instr.mapUpdate,Sem.run_bind,l,Result.andThen_ok,I8 hb,AU ok c f,ym ok c a,Ll hb rfl]
 ·refine ⟨_,_,?_,d,CR j g⟩;obtain ⟨_,z,C,_,G⟩:=Gj a;have D:A[i]? =some z:=by simpa using C
  have F:=UN (n:=10000) f G;simp only [Instr.mapUpdate,Sem.run_bind,l,Result.andThen_ok,I8 hb,AU ok c f,ym ok c a,D,Option.map_some,Option.getD_some,Instr.keyThatStays,F,if_true,Sem.run_pure,
   Ll hb rfl]
theorem TF (ok:tb.Ok P) {t k u rt:Nat} {t':TypeId} {e n:Ty} {m:Option Nat} {b:Value} {w:World} {K:Hp->Prop} (v:tb.ty t=some e) (z:e.bE=.map k u)
  (d:tb.ty k=some n) (j:qy n.bE=true) (f:Sub h w) (y:sj n.bE m b K h):
  ∃p q,(Builtin.delete_ #[t,t'] rt #[.map m,b]).run P w=.ok (.tuple #[]) q/\K p/\Step h p w q:=by
 have g:=au ok v w;rw [z] at g;rcases y with ⟨rfl,a⟩ | ⟨r,A,ck,rfl,l,c⟩
 ·refine ⟨_,w,?_,a,.refl f⟩;simp [Builtin.delete_,g,AU ok d j]
 ·have hb:=f r _ l;rcases c with ⟨c,a⟩ | ⟨i,x,c,a⟩
  ·refine ⟨_,_,?_,a,CR f l⟩;simp [Builtin.delete_,g,I8 hb,AU ok d j,ym ok d c,Ll hb rfl]
  ·refine ⟨_,_,?_,a,CR f l⟩;simp [Builtin.delete_,g,I8 hb,AU ok d j,ym ok d c,Ll hb rfl]
theorem GO (ok:tb.Ok P) {t:Nat} {x y z:Operand} (n:o.op=.mapUpdate t x y z\/o.op=.insert t x y z)
  (hv:Bu P tb (dX s ch) t (ev s ch x) (ev s ch y) (ev s ch z) K h):fI P o ch s h K:=by
 obtain ⟨a,G,D⟩:=jC hv;obtain ⟨b,H,E⟩:=jC D;obtain ⟨v,I,c⟩:=jC E;clear hv D E;have run:holds s ch->∀(j:Nat->Nat) (d:Operand->Value),(∀x∈o.op.operands,dY j s d x)->∀(w f:World),(Instr.mapUpdate t a b v).run P w=.ok () f->(execOp d o).run P w=.ok .skip f:=by intro g j d i w f l;have M:d x=_:=bn (i x (by rcases n with h | h<;>simp [h,Op.operands])) g G;have N:d y=_:=bn (i y (by rcases n with h | h<;>simp [h,Op.operands])) g H;have O:d z=_:=bn (i z (by rcases n with h | h<;>simp [h,Op.operands])) g I;rcases n with h | h<;>simp only [execOp,h,M,N,O,LVal,Sem.run_bind,l,Result.andThen_ok,Sem.run_pure]
 split at c
 ·rename_i m e F;split at c
  ·rename_i k u L;split at c
   ·rename_i Q J;cases A:qy Q.bE with
    | true=>simp only [A,cond_true] at c;refine A6 c λg j d w i B K r=> ?_;obtain ⟨p,f,l,q,C⟩:=TD ok F L J A B r;exact ⟨(),p,f,run g j d i w f l,q,C⟩
    | false=>simp only [A,cond_false] at c;refine A6 c λg j d w i B K r=> ?_;obtain ⟨R,f,p,l,q,C⟩:=IQ _ B r;exact ⟨(),p,f,run g j d i w f l,q,C⟩
   ·exact c.elim
  ·exact c.elim
 ·exact c.elim
theorem JB (ok:tb.Ok P) {f:Operand} {j:Array Operand} {k:Array TypeId} {g:FuncId} {first captured:Array Value} {b:List Value} {e:Ty} {a:Act} {w:World}
  (q:o.op=.call {callee:=.value f,args:=j,argTypes:=k}) (p:tb.call g=true) (n:a.eval f=.func (.func g) first captured) (u:j.map a.eval=b.toArray)
  {c:e.sh.T->Hp->Prop} (m:aa P g (first.toList++b++captured.toList) e.sh c h) (t:Sub h w) {next:Act->World->Prop} {Q:Exit->Act->World->Prop}
  (v:∀x d i,c x d->Step h d w i->next (a.put o.dst (e.sh.enc x)) i):o.wp P a w next Q:=by
 have r:(execOp a.eval o).run P w=.ok (.enter g (first.toList++b++captured.toList).toArray) w:=by
  have l:first++b.toArray++captured=(first.toList++b++captured.toList).toArray:=by apply Array.ext';simp
  simp only [execOp,q,resolve,Deferred.ofValue,n,u,Sem.run_bind,Sem.run_pure,Result.andThen_ok,invoke,l];exact ok.call g p _ w
 unfold Oper.wp;rw [r,Oper.upon_enter];refine (m w t).mono ?_;grind
theorem Av {d:Type} {A:(d->Hp->Prop)->Hp->Prop} {f:d->Value} (j:dA (dX s ch) A (λx b=>K (.v (f x)) b) h)
  (l:holds s ch->∀(e:Nat->Nat) (a:Act) (w:World),(∀x∈o.op.operands,dY e s a.eval x)->Sub h w->∀(K:d->Hp->Prop),A K h->∀(next:Act->World->Prop) (Q:Exit->Act->World->Prop),
   (∀x b c,K x b->Step h b w c->next (a.put o.dst (f x)) c)->o.wp P a w next Q):fI P o ch s h K:=by
 obtain ⟨i,n⟩:=At j;refine ⟨λhh e a w ho hs next Q g=> ?_,λg=> ?_⟩
 ·exact l hh e a w ho hs _ (i hh) next Q λx b c k m=>g _ _ _ k m
 grind
theorem TH (ok:tb.Ok P) (hv:vR P tb o ch s h K):fI P o ch s h K:=by
 obtain ⟨b0,op,ty,pos,after,guard⟩:=o;cases op with
 | store t x y=>exact UF ok rfl hv
 | alloc t=>exact UH ok rfl hv
 | box t x=>exact NJ rfl hv
 | buildSlice t n ps=>exact Qd ok rfl hv
 | makeMap t r=>
  cases r with
  | none=>exact Ss rfl hv
  | some x=>exact hv.elim
 | makeSlice t x y=>
  obtain ⟨a,B,q⟩:=jC hv;obtain ⟨b,I,E⟩:=jC q;clear hv q;split at E
  ·rename_i m n e J;exact Wl ok rfl B I J E
  ·exact E.elim
 | mapUpdate t x y z=>exact GO ok (.inl rfl) hv
 | insert t x y z=>exact GO ok (.inr rfl) hv
 | mapEntry t x y=>obtain ⟨a,B,q⟩:=jC hv;obtain ⟨b,I,E⟩:=jC q;refine uC E λi β ρ j w C v l=> ?_;have A:ρ x=_:=bn (j x (by simp [Op.operands])) i B;have O:ρ y=_:=bn (j y (by simp [Op.operands])) i I;simp only [execOp,A,O,LVal,Sem.run_bind,l,Result.andThen_ok,Sem.run_pure]
 | binOp op t x y g=>obtain ⟨a,B,q⟩:=jC hv;obtain ⟨b,I,E⟩:=jC q;refine uC E λi β ρ j w C v l=> ?_;have A:ρ x=_:=bn (j x (by simp [Op.operands])) i B;have O:ρ y=_:=bn (j y (by simp [Op.operands])) i I;have l:(do eqGuard op t x y a b;binOp op t a b:Sem Value).run P w=.ok v C:=l;simp only [execOp,A,O,LVal,Sem.run_bind] at l ⊢;rw [l];rfl
 | entryStore t x y z=>obtain ⟨a,B,q⟩:=jC hv;obtain ⟨b,I,E⟩:=jC q;obtain ⟨c,b2,b7⟩:=jC E;refine A6 b7 λi β ρ w j F K D=> ?_;have A:ρ x=_:=bn (j x (by simp [Op.operands])) i B;have O:ρ y=_:=bn (j y (by simp [Op.operands])) i I;have hz:ρ z=_:=bn (j z (by simp [Op.operands])) i b2;obtain ⟨u',C,U,l,V,X⟩:=IQ _ F D;refine ⟨(),U,C,?_,V,X⟩;simp only [execOp,A,O,hz,LVal,Sem.run_bind,l,Result.andThen_ok,Sem.run_pure]
 | range t x=>obtain ⟨a,B,q⟩:=jC hv;refine xv q λi β ρ j w C v l=> ?_;have A:ρ x=_:=bn (j x (by simp [Op.operands])) i B;simp only [execOp,A,LVal,Sem.run_bind,l,Result.andThen_ok,Sem.run_pure]
 | next x b=>obtain ⟨a,B,q⟩:=jC hv;refine xv q λi β ρ j w C v l=> ?_;have A:ρ x=_:=bn (j x (by simp [Op.operands])) i B;simp only [execOp,A,LVal,Sem.run_bind,l,Result.andThen_ok,Sem.run_pure]
 | convert b8 b1 x=>
  obtain ⟨a,B,q⟩:=jC hv;clear hv;split at q
  ·rename_i b e g H J;split at q
   ·rename_i Y Z;exact UJ ok rfl B H J Y Z q
   ·exact q.elim
  ·rename_i p n c e g H J;split at q
   ·rename_i u0 Y Z;cases hb:Nat.beq b8 b1 with
    | false=>grind
    | true=>simp only [hb,cond_true] at q;exact Wm ok rfl B H J Y Z (Nat.eq_of_beq_eq_true hb) q
   ·exact q.elim
  ·exact q.elim
 | call c=>
  obtain ⟨callee,S,T⟩:=c;cases callee with
  | invoke r m=>exact hv.elim
  | builtin b=>
   obtain ⟨R,N,d⟩:=CM hv;clear hv;have G:holds s ch->∀(β:Nat->Nat) (ρ:Operand->Value),(∀x∈(Op.call {callee:=.builtin b,args:=S,argTypes:=T}).operands,dY β s ρ x)->S.map ρ=R.toArray:=by intro i β ρ j;have:=xB (β:=β) (ρ:=ρ) i N λx A=>j x (by simp [Op.operands,Call.operands];simpa using A);grind
   cases b with
   | append=>exact TC ok rfl N d
   | copy=>
    replace d:tx _ _ _ _ _ _ _ _:=d;unfold tx at d;split at d
    ·rename_i p n c p' n' c' t t' a9;split at d
     ·rename_i e J;exact Wk ok rfl N a9 J d
     ·exact d.elim
    ·refine uC d λi β ρ j w C v l=> ?_;simp only [execOp,resolve,invoke,builtin,Sem.run_bind,Sem.run_pure,Result.andThen_ok,G i β ρ j,l]
   | delete=>
    replace d:yT _ _ _ _ _ _ _ _:=d;unfold yT at d;split at d
    ·rename_i m k t t' a9;have b6:T= #[t,t']:=by grind
     split at d
     ·rename_i e H;split at d
      ·rename_i kt u hu;split at d
       ·rename_i ke D;cases a8:qy ke.bE with
        | true=>simp only [a8,cond_true] at d;refine sr (f:=λ_=>.tuple #[]) d λi β ρ w j F K b4=> ?_;obtain ⟨U,C,l,V,X⟩:=TF (rt:=ty) (t':=t') ok H hu D a8 F b4;refine ⟨(),U,C,?_,V,X⟩;have ha:=G i β ρ j;simp only [execOp,resolve,invoke,builtin,Sem.run_bind,Sem.run_pure,Result.andThen_ok,ha,b6,l]
        | false=>simp only [a8,cond_false] at d;refine uC d λi β ρ j w C v l=> ?_;simp only [execOp,resolve,invoke,builtin,Sem.run_bind,Sem.run_pure,Result.andThen_ok,G i β ρ j,l]
       ·exact d.elim
      ·exact d.elim
     ·exact d.elim
    ·exact d.elim
   | clear=>refine uC d λi β ρ j w C v l=> ?_;simp only [execOp,resolve,invoke,builtin,Sem.run_bind,Sem.run_pure,Result.andThen_ok,G i β ρ j,l]
   | _=>exact d.elim
  | value f=>
   obtain ⟨R,N,d⟩:=CM hv;clear hv;have G:holds s ch->∀(β:Nat->Nat) (ρ:Operand->Value),(∀x∈(Op.call {callee:=.value f,args:=S,argTypes:=T}).operands,dY β s ρ x)->S.map ρ=R.toArray:=by intro i β ρ j;have:=xB (β:=β) (ρ:=ρ) i N λx A=>j x (by simp [Op.operands,Call.operands];right;simpa using A);grind
   cases f with
   | func g=>
    replace d:BZ _ _ _ _ _ _ _ _:=d;unfold BZ at d;split at d
    ·rename_i e H;cases M:tb.call g with
     | false=>
      simp only [M,cond_false] at d;split at d
      ·rename_i fx A;refine Av (f:=e.sh.enc) d λi β a w j F K D next Q W=> ?_
       obtain ⟨u,C,U,l,⟨x,rfl,V⟩,X⟩:=IQ _ F D;have L:a.eval (.func g)=.func (.func g) #[] #[]:=rfl;have b5:(execOp a.eval {dst:=b0,op:=.call {callee:=.value (.func g),args:=S,argTypes:=T},type:=ty,pos:=pos,after:=after,guard:=guard}).run P w=.ok (.value (e.sh.enc x)) C:=by
        simp only [execOp,resolve,Deferred.ofValue,L,G i β a.eval j,Sem.run_bind,Sem.run_pure,Result.andThen_ok,invoke];have e1: #[]++R.toArray++ #[]=R.toArray:=by simp
        rw [e1,ok.ext g fx A _ w,l];rfl
       unfold Oper.wp;rw [b5,Oper.upon_value];grind
      ·exact d.elim
     | true=>
      simp only [M,cond_true] at d;refine Av (f:=e.sh.enc) d λi β a w j F K D next Q W=> ?_
      have L:a.eval (.func g)=.func (.func g) #[] #[]:=rfl;exact JB (first:= #[]) (captured:= #[]) ok rfl M L (G i β a.eval j) (by simpa using D) F W
    ·exact d.elim
   | tmp t=>
    replace d:B0 _ _ _ _ _ _ _ _:=d;unfold B0 at d;split at d
    ·rename_i e H;obtain ⟨fv,b3,E⟩:=jC d;refine Av (f:=e.sh.enc) E λi β a w j F K D next Q W=> ?_
     obtain ⟨g,first,captured,rfl,M,D⟩:=D;have L:a.eval (.tmp t)=_:=bn (j (.tmp t) (by simp [Op.operands,Call.operands])) i b3;exact JB ok rfl M L (G i β a.eval j) D F W
    ·exact d.elim
   | const v=>exact d.elim
   | global g=>exact d.elim
 | _=>exact hv.elim
theorem TJ {C:Ctx} {k:List Oper} (hv:yX C k o ch s h K):fI C.P o ch s h K:=by
 obtain ⟨m,op,ty,pos,after,guard⟩:=o;unfold yX at hv;split at hv
 ·rename_i x d b n;subst b;obtain ⟨a,c,i⟩:=jC hv;refine xv i λe q l f w p v g=> ?_;have j:l x=_:=bn (f x (by simp [Op.operands])) e c;simp only [execOp,j,LVal,Sem.run_bind,g,Result.andThen_ok,Sem.run_pure]
 ·exact hv.elim
end
theorem VZ {s a:St} {c:aP} (b:∀p∈c,a.f p.1=s.f p.1):holds a c↔holds s c:=by
 have key:∀p∈c,hb a p.1=hb s p.1:=λp hp=>by unfold hb;rw [b p hp]
 exact ⟨λh p hp=>by rw [<-key p hp];exact h p hp,λh p hp=>by rw [key p hp];exact h p hp⟩
theorem BR (s:St) (d:Nat) (l:LV) (ch:aP):(s.put (some d) l ch).f d=some (l,ch):=by simp [St.put]
theorem vx {i j:Nat} (h:i≠j):Nat.beq i j=false:=by
 cases e:Nat.beq i j with
 | false=>rfl
 | true=>exact absurd (Nat.eq_of_beq_eq_true e) h
theorem qV (s:St) {d t:Nat} (l:LV) (ch:aP) (h:t≠d):(s.put (some d) l ch).f t=s.f t:=by simp [St.put,vx h]
theorem Lt (s:St) (k:Nat) (a:List Value):(s.fU k a).m k=some a:=by simp [St.fU]
theorem u4 (s:St) {k j:Nat} (a:List Value) (h:j≠k):(s.fU k a).m j=s.m j:=by simp [St.fU,vx h]
theorem TY {a:Act} {d:Nat} {v:Value} (h:d<a.tmps.size):(a.put (some d) v).eval (.tmp d)=v:=by simp [Act.put,Act.eval,h]
theorem CH {a:Act} {d t:Nat} {v:Value} (h:t≠d):(a.put (some d) v).eval (.tmp t)=a.eval (.tmp t):=by simp [Act.put,Act.eval,Array.getElem?_setIfInBounds_ne (Ne.symm h)]
structure RR (n:Nat) (Cur Liv D N:Nat->Prop) (β:Nat->Nat) (s:St) (a:Act) (h:Hp) (w:World):Prop where
 sz:a.tmps.size=n
 sub:Sub h w
 lt:∀t l c,s.f t=some (l,c)->t<n
 chain:∀t l c,s.f t=some (l,c)->∀p∈c,D p.1
 cur:∀t l c,s.f t=some (l,c)->Cur t->holds s c->a.eval (.tmp t)=LVal β l/\∀k o,(l=.box k o\/l=.dv k o)->Liv k
 bE:∀t l c,s.f t=some (l,c)->Cur t->¬holds s c->a.eval (.tmp t)=undef
 box:∀k cs,s.m k=some cs->Liv k->h (β k)=none/\∃ct,w.heap[β k]? =some (.cells cs.toArray ct (0,0))
 inj:∀k k',s.m k≠none->s.m k'≠none->Liv k->Liv k'->β k=β k'->k=k'
 km:∀k,N k->s.m k=none
 jz:∀k,N k->∀t l c,s.f t=some (l,c)->holds s c->∀o,l≠ .box k o/\l≠ .dv k o
def live (s:St) (a:Nat->Prop) (k:Nat):Prop:=s.m k≠none/\a k
structure gr (l mm:List Nat) (lv:Nat->Prop) (β:Nat->Nat) (a:Act) (h:Hp) (w:World) (lv':Nat->Prop) (β':Nat->Nat) (a':Act) (h':Hp) (w':World):Prop where
 tmp:∀i,i∉l->a'.eval (.tmp i)=a.eval (.tmp i)
 beta:∀k,(k∉l\/k∉mm)->β' k=β k
 size:w.heap.size<=w'.heap.size
 vg:∀b,b<w.heap.size->h b=none->(∀k∈mm,lv k->β k≠b)->h' b=none
 cv:∀b,b<w.heap.size->h b=none->(∀k∈mm,lv k->β k≠b)->w'.heap[b]? =w.heap[b]?
 fresh:∀k,lv' k->(lv k/\β' k=β k)\/w.heap.size<=β' k
 os:w'.os=w.os
 tape:w'.tape=w.tape
 output:w'.output=w.output
 defers:a'.defers=a.defers
section
variable {n:Nat} {q Liv D N:Nat->Prop} {β:Nat->Nat} {s:St} {a:Act} {h:Hp} {w:World}
theorem gA {w:World} {b:Nat} {o:Obj} (h:w.heap[b]? =some o):b<w.heap.size:=by grind
theorem Wn (c:Sub h w) {b:Nat} (hb:w.heap.size<=b):h b=none:=by
 cases e:h b with
 | none=>rfl
 | some x=>exact absurd (c.lt e) (Nat.not_lt.2 hb)
theorem gr.refl (l mm:List Nat):gr l mm (live s Liv) β a h w (live s Liv) β a h w:=
 ⟨λ_ _=>rfl,λ_ _=>rfl,Nat.le_refl _,λ_ _ e _=>e,λ_ _ _ _=>rfl,λ_ e=>.inl ⟨e,rfl⟩,rfl,rfl,rfl,rfl⟩
theorem gr.trans {l e:List Nat} {lv lv1 m:Nat->Prop} {β β1 p:Nat->Nat} {a a1 a2:Act} {h h1 d:Hp} {w w1 o:World}
  (x:gr l e lv β a h w lv1 β1 a1 h1 w1) (y:gr l e lv1 β1 a1 h1 w1 m p a2 d o):gr l e lv β a h w m p a2 d o:=by
 have j:∀b,b<w.heap.size->(∀k∈e,lv k->β k≠b)->∀k∈e,lv1 k->β1 k≠b:=λb hb c k t r=>by
  rcases x.fresh k r with ⟨h1,d⟩ | h1
  ·rw [d];exact c k t h1
  omega
 refine ⟨λi g=>(y.tmp i g).trans (x.tmp i g),λk c=>(y.beta k c).trans (x.beta k c),Nat.le_trans x.size y.size,λb hb f c=> ?_,λb hb f c=> ?_,λk c=> ?_,
  y.os.trans x.os,y.tape.trans x.tape,y.output.trans x.output,y.defers.trans x.defers⟩
 ·exact y.vg b (Nat.lt_of_lt_of_le hb x.size) (x.vg b hb f c) (j b hb c)
 ·exact (y.cv b (Nat.lt_of_lt_of_le hb x.size) (x.vg b hb f c) (j b hb c)).trans (x.cv b hb f c)
 ·rcases y.fresh k c with ⟨h1,d⟩ | h1
  ·rw [d];exact x.fresh k h1
  ·exact .inr (Nat.le_trans x.size h1)
theorem gr.mono {l v l' mm':List Nat} {p t r u:Nat->Prop} {β z:Nat->Nat} {a a1:Act} {h d:Hp} {w y:World}
  (x:gr l v p β a h w t z a1 d y) (o:∀i∈l,i∈l') (j:∀i∈v,i∈mm') (hv:∀k,p k->r k) (B:∀k,u k->t k):gr l' mm' r β a h w u z a1 d y:=
 ⟨λi A=>x.tmp i λe=>A (o i e),λk c=>x.beta k (c.imp (λe f=>e (o k f)) (λe f=>e (j k f))),x.size,λb hb m c=>x.vg b hb m λk d g=>c k (j k d) (hv k g),λb hb m c=>x.cv b hb m λk d g=>c k (j k d) (hv k g),
  λk c=>(x.fresh k (B k c)).imp (λe=>⟨hv k e.1,e.2⟩) id,x.os,x.tape,x.output,x.defers⟩
theorem gr.step {l i:List Nat} {lv:Nat->Prop} {f:Hp} {g:World} (c:Step h f w g):gr l i lv β a h w lv β a f g:=
 ⟨λ_ _=>rfl,λ_ _=>rfl,c.size,λb hb d _=>(c.cv b hb d).2,λb hb d _=>(c.cv b hb d).1,λ_ e=>.inl ⟨e,rfl⟩,c.os,c.tape,c.output,rfl⟩
theorem gr.put {l mm:List Nat} {lv:Nat->Prop} {d:Option Nat} {v:Value} (b:∀i,d=some i->i∈l):gr l mm lv β a h w lv β (a.put d v) h w:=by
 refine ⟨λi c=> ?_,λ_ _=>rfl,Nat.le_refl _,λ_ _ e _=>e,λ_ _ _ _=>rfl,λ_ e=>.inl ⟨e,rfl⟩,rfl,rfl,rfl,by cases d<;>rfl⟩;cases d with
 | none=>rfl
 | some d=>exact CH λe=>c (e▸b d rfl)
theorem RR.step (b:RR n q Liv D N β s a h w) {c:Hp} {e:World} (d:Step h c w e):RR n q Liv D N β s a c e:=
 ⟨b.sz,d.sub,b.lt,b.chain,b.cur,b.bE,λk f l j=>by
  obtain ⟨g,m,i⟩:=b.box k f l j;obtain ⟨o,p⟩:=d.cv _ (gA i) g;grind,b.inj,b.km,b.jz⟩
theorem RR.congr (b:RR n q Liv D N β s a h w) {m u r v:Nat->Prop} (j:∀t,m t↔q t) (g:∀t,u t↔Liv t) (z:∀t,D t->r t) (x:∀t,v t->N t):
  RR n m u r v β s a h w:=
 ⟨b.sz,b.sub,b.lt,λt l c e p hp=>z _ (b.chain t l c e p hp),λt l c e d f=>⟨(b.cur t l c e ((j t).1 d) f).1,λk o i=>(g k).2 ((b.cur t l c e ((j t).1 d) f).2 k o i)⟩,
  λt l c e d f=>b.bE t l c e ((j t).1 d) f,λk cs e d=>b.box k cs e ((g k).1 d),λk y e i d f=>b.inj k y e i ((g k).1 d) ((g y).1 f),
  λk e=>b.km k (x k e),λk e=>b.jz k (x k e)⟩
theorem BK {d:Nat} {l:LV} {ch c:aP} (b:¬D d) (f:∀p∈c,D p.1):holds (s.put (some d) l ch) c↔holds s c:=
 VZ λp hp=>qV s l ch λe=>b (e▸f p hp)
theorem Bz (d:RR n q Liv D N β s a h w) {x:Operand} (i:∀t,x=.tmp t->q t):dY β s a.eval x:=by
 cases x with
 | tmp t=>exact λl c e b=>(d.cur t l c e (i t rfl) b).1
 | const v=>rfl
 | global g=>rfl
 | func f=>rfl
theorem JC (b:RR n q Liv D N β s a h w) {o:Oper} (i:∀t,Operand.tmp t∈o.op.operands->q t):oK β s o w:=by
 intro t g k off c hf e d f;rcases hf with hf | hf
 ·exact (b.box k d f ((b.cur t _ c hf (i t g) e).2 k off (.inl rfl))).2
 ·exact (b.box k d f ((b.cur t _ c hf (i t g) e).2 k off (.inr rfl))).2
theorem RR.lift (g:RR n q Liv D N β s a h w) {d:Nat} {l:LV} {ch:aP} (y:d<n) (r:¬D d) (u:∀p∈ch,D p.1) (A:holds s ch->∀k o,(l=.box k o\/l=.dv k o)->¬N k):
  RR n (λt=>t≠d/\q t) Liv D N β (s.put (some d) l ch) a h w:=by
 have key:∀t b c,(s.put (some d) l ch).f t=some (b,c)->t=d/\b=l/\c=ch\/t≠d/\s.f t=some (b,c):=λt b c e=>by
  by_cases v:t=d
  ·subst v;rw [BR] at e;grind
  ·rw [qV _ _ _ v] at e;grind
 refine ⟨g.sz,g.sub,λt b c e=> ?_,λt b c e=> ?_,λt b c e m j=> ?_,λt b c e m j=> ?_,g.box,g.inj,g.km,λk z t b c e j o=> ?_⟩
 ·rcases key t b c e with ⟨rfl,_,_⟩ | ⟨_,i⟩
  ·exact y
  ·exact g.lt t b c i
 ·rcases key t b c e with ⟨_,_,rfl⟩ | ⟨_,i⟩
  ·exact u
  ·exact g.chain t b c i
 ·rcases key t b c e with ⟨rfl,_,_⟩ | ⟨_,i⟩
  ·exact absurd rfl m.1
  ·exact g.cur t b c i m.2 ((BK r (g.chain t b c i)).1 j)
 ·rcases key t b c e with ⟨rfl,_,_⟩ | ⟨_,i⟩
  ·exact absurd rfl m.1
  ·exact g.bE t b c i m.2 λx=>j ((BK r (g.chain t b c i)).2 x)
 ·rcases key t b c e with ⟨_,rfl,rfl⟩ | ⟨_,i⟩
  ·have B:=(BK r u).1 j;grind
  ·exact g.jz k z t b c i ((BK r (g.chain t b c i)).1 j) o
theorem RR.exec (b:RR n q Liv D N β s a h w) {d:Nat} {l:LV} {ch:aP} {v:Value} (m:s.f d=some (l,ch)) (y:¬q d)
  (u:holds s ch->v=LVal β l/\∀k o,(l=.box k o\/l=.dv k o)->Liv k) (x:¬holds s ch->v=undef):
  RR n (λt=>t=d\/q t) Liv D N β s (a.put (some d) v) h w:=by
 have r:=b.lt d l ch m;refine ⟨by simpa [Act.put] using b.sz,b.sub,b.lt,b.chain,λt p c e j i=> ?_,λt p c e j i=> ?_,b.box,b.inj,b.km,b.jz⟩
 ·by_cases g:t=d
  ·subst g;rw [m] at e;cases e;rw [TY (by rw [b.sz];exact r)];exact u i
  ·rw [CH g];exact b.cur t p c e (j.resolve_left g) i
 ·by_cases g:t=d
  ·subst g;rw [m] at e;cases e;rw [TY (by rw [b.sz];exact r)];exact x i
  ·rw [CH g];exact b.bE t p c e (j.resolve_left g) i
theorem RR.xU (b:RR n q Liv D N β s a h w) {d:Nat} (u:List Value) (I:d<n) (G:¬D d) (H:N d):
  RR n (λt=>t≠d/\q t) (λk=>k≠d/\Liv k) D (λk=>k≠d/\N k) β ((s.put (some d) (.box d 0) []).fU d u) a h w:=by
 have r:∀t,t≠d->((s.put (some d) (.box d 0) []).fU d u).f t=s.f t:=λt i=>qV s _ _ i;have J:((s.put (some d) (.box d 0) []).fU d u).f d=some (.box d 0,[]):=BR s _ _ _;have z:∀k,k≠d->((s.put (some d) (.box d 0) []).fU d u).m k=s.m k:=λk g=>u4 _ _ g;have A:∀c:aP,(∀p∈c,D p.1)->(holds ((s.put (some d) (.box d 0) []).fU d u) c↔holds s c):=λc j=>VZ λp hp=>r _ λe=>G (e▸j p hp);refine ⟨b.sz,b.sub,λt l c e=> ?_,λt l c e=> ?_,λt l c e j v=> ?_,λt l c e j v=> ?_,λk E e g=> ?_,λk C e x g B=> ?_,λk g=> ?_,λk g t l c e v o=> ?_⟩
 ·by_cases i:t=d
  ·exact i▸I
  ·exact b.lt t l c (by rwa [r t i] at e)
 ·by_cases i:t=d
  ·grind
  ·exact b.chain t l c (by rwa [r t i] at e)
 ·rw [r t j.1] at e;have y:=(A c (b.chain t l c e)).1 v;have:=b.cur t l c e j.2 y;refine ⟨this.1,λk o x=>⟨λF=> ?_,this.2 k o x⟩⟩;subst F;have:=b.jz k H t l c e y o;grind
 ·rw [r t j.1] at e;exact b.bE t l c e j.2 λy=>v ((A c (b.chain t l c e)).2 y)
 ·rw [z k g.1] at e;exact b.box k E e g.2
 ·rw [z k g.1] at e;rw [z C B.1] at x;exact b.inj k C e x g.2 B.2
 ·rw [z k g.1];exact b.km k g.2
 ·by_cases i:t=d
  ·grind
  ·rw [r t i] at e;exact b.jz k g.2 t l c e ((A c (b.chain t l c e)).1 v) o
theorem Hv (c:Sub h w) (o:Obj):Step h h w {w with heap:=w.heap.push o}:=by
 refine ⟨λb x e=> ?_,by simp,λb hb f=>⟨?_,f⟩,rfl,rfl,rfl⟩
 ·have d:=c.lt e;simp only [Array.getElem?_push,if_neg (Nat.ne_of_lt d)];exact c b x e
 grind
def sJ (β:Nat->Nat) (d b:Nat):Nat->Nat:=λk=>if k=d then b else β k
theorem RR.xP (b:RR n q Liv D N β s a h w) {d:Nat} {C:List Value} (t:Nat) (G:s.f d=some (.box d 0,[])) (O:s.m d=some C) (R:¬q d) (H:¬Liv d):
  RR n (λt=>t=d\/q t) (λk=>k=d\/Liv k) D N (sJ β d w.heap.size) s (a.put (some d) (.pointer (some ⟨w.heap.size,0,none⟩))) h {w with heap:=w.heap.push (.cells C.toArray t (0,0))}:=by
 have P:h w.heap.size=none:=Wn b.sub (Nat.le_refl _);have J:∀k,s.m k≠none->Liv k->β k<w.heap.size:=λk i M=>by obtain ⟨E,e⟩:=Option.ne_none_iff_exists'.1 i;obtain ⟨_,Q,K⟩:=b.box k E e M;exact gA K
 have b:=b.step (Hv b.sub (.cells C.toArray t (0,0)));have L:=b.lt d _ _ G;have p:∀k,k≠d->sJ β d w.heap.size k=β k:=λk i=>by simp [sJ,i]
 refine ⟨by simpa [Act.put] using b.sz,b.sub,b.lt,b.chain,λz B c e F A=> ?_,λz B c e F A=> ?_,λk E e i=> ?_,λk u e y i I r=> ?_,b.km,b.jz⟩
 ·by_cases l:z=d
  ·subst l;rw [G] at e;cases e;rw [TY (by rw [b.sz];exact L)];refine ⟨by simp [LVal,sJ],λk o y=>.inl ?_⟩;grind
  ·rw [CH l];have:=b.cur z B c e (F.resolve_left l) A;refine ⟨?_,λk o y=>.inr (this.2 k o y)⟩;rw [this.1];cases B with
   | v x=>rfl
   | box k o=>have i:k≠d:=λg=>H (g▸this.2 k o (.inl rfl));simp [LVal,p k i]
   | dv k o=>have i:k≠d:=λg=>H (g▸this.2 k o (.inr rfl));simp [LVal,p k i]
 ·by_cases l:z=d
  ·subst l;rw [G] at e;cases e;exact absurd (bp s) A
  ·rw [CH l];exact b.bE z B c e (F.resolve_left l) A
 ·by_cases g:k=d
  ·subst g;rw [O] at e;cases e;refine ⟨?_,t,?_⟩
   ·simpa [sJ] using P
   ·simp [sJ]
  ·rw [p k g];exact b.box k E e (i.resolve_left g)
 ·by_cases g:k=d
  ·by_cases j:u=d
   ·rw [g,j]
   ·rw [p u j,g] at r;have:=J u y (I.resolve_left j);simp only [sJ,if_true] at r;omega
  ·by_cases j:u=d
   ·rw [p k g,j] at r;have:=J k e (i.resolve_left g);simp only [sJ,if_true] at r;omega
   ·rw [p k g,p u j] at r;exact b.inj k u e y (i.resolve_left g) (I.resolve_left j) r
theorem DH {l mm:List Nat} {d:Nat} {g:List Value} (t:Nat) (r:Sub h w) (v:s.m d=some g) (u:¬Liv d) (o:d∈l) (x:d∈mm):
  gr l mm (live s Liv) β a h w (live s λk=>k=d\/Liv k) (sJ β d w.heap.size) (a.put (some d) (.pointer (some ⟨w.heap.size,0,none⟩))) h {w with heap:=w.heap.push (.cells g.toArray t (0,0))}:=by
 refine ⟨λi j=>CH λe=>j (e▸o),λk f=> ?_,by simp,λ_ _ e _=>e,λb hb p _=>((Hv r _).cv b hb p).1,λk f=> ?_,rfl,rfl,rfl,rfl⟩
 ·have:k≠d:=λe=>by grind
  simp [sJ,this]
 ·by_cases c:k=d
  ·subst c;exact .inr (by simp [sJ])
  ·exact .inl ⟨⟨f.1,f.2.resolve_left c⟩,by simp [sJ,c]⟩
theorem Lu (b:Nat) (d:Nat):∀(new:List Value) (h:Hp) (i off:Nat) (c:List Value),off+i+new.length<=c.length->h b=some (.cells c.toArray d (0,0))->
  (jA h ⟨b,off,none⟩ new i) b=some (.cells (j6 c (off+i) new).toArray d (0,0))/\∀f,f≠b->(jA h ⟨b,off,none⟩ new i) f=h f
 | [],h,i,off,c,g,e=>by refine ⟨?_,λ_ _=>rfl⟩;rw [xC _ _ _ (by simpa using g)];simpa [jA] using e
 | v::new,h,i,off,c,g,e=>by
  simp at g;have l:(h.put ((⟨b,off,none⟩:Addr).add i) v)=h.set b (.cells (c.set (off+i) v).toArray d (0,0)):=by rw [jD];unfold Hp.put;grind
  have m:(h.set b (.cells (c.set (off+i) v).toArray d (0,0))) b=some (.cells (c.set (off+i) v).toArray d (0,0)):=by simp [Hp.set]
  obtain ⟨o,p⟩:=Lu b d new _ (i+1) off (c.set (off+i) v) (by simp;omega) m;simp only [jA,l];refine ⟨?_,λf k=> ?_⟩
  ·rw [o,xC _ _ _ (by simp;omega),xC _ _ _ (by simp;omega)];congr 3;apply List.ext_getElem?;intro j;simp only [List.getElem?_append,List.length_append,List.length_take,List.length_set,List.length_cons,List.getElem?_take,List.getElem?_drop,List.getElem?_set];grind
  ·rw [p f k];simp [Hp.set,k]
theorem Rv {P:Program} {b k off:Nat} {d new:List Value} (z:Sub h w) (hb:w.heap[b]? =some (.cells d.toArray k (0,0))) (F:h b=none) (x:iF new=true) (E:off+new.length<=d.length):
  ∃c,(storeCells ⟨b,off,none⟩ new 0).run P w=.ok () c/\c.heap[b]? =some (.cells (j6 d off new).toArray k (0,0))/\(∀f,f<w.heap.size->f≠b->h f=none->c.heap[f]? =w.heap[f]?)/\
   Sub h c/\w.heap.size<=c.heap.size/\c.os=w.os/\c.tape=w.tape/\c.output=w.output:=by
 have A:Sub (h.set b (.cells d.toArray k (0,0))) w:=by
  intro i o e;unfold Hp.set at e;by_cases l:i=b
  ·grind
  ·simp [l] at e;exact z i o e
 have m:(h.set b (.cells d.toArray k (0,0))) b=some (.cells d.toArray k (0,0)):=by simp [Hp.set]
 obtain ⟨c,y,g⟩:=CA (P:=P) (a:=⟨b,off,none⟩) new 0 _ w A x (λj C=>by
  rw [jD];refine ⟨⟨d[off+(0+j)]'(by omega),?_⟩,?_⟩
  ·simp only [cM,m];simp
  ·simp only [fY,m];simp)
 obtain ⟨p,r⟩:=Lu b k new _ 0 off d (by omega) m;refine ⟨c,y,g.sub _ _ p,λf t v u=>(g.cv f t (by simp [Hp.set,v,u])).1,λi o e=>g.sub i o ?_,g.size,g.os,g.tape,g.output⟩;have l:i≠b:=λB=>by grind
 rw [r i l];simp [Hp.set,l,e]
theorem RR.zw (b:RR n q Liv D N β s a h w) {k l:Nat} {i j:List Value} {g:World} (v:s.m k=some i) (r:Liv k)
  (hb:g.heap[β k]? =some (.cells j.toArray l (0,0))) (F:∀f,f<w.heap.size->f≠β k->h f=none->g.heap[f]? =w.heap[f]?) (G:Sub h g):
  RR n q Liv D N β (s.fU k j) a h g:=by
 refine ⟨b.sz,G,b.lt,b.chain,b.cur,b.bE,λd z e u=> ?_,λx y C E=>b.inj x y ?_ ?_,λd t=> ?_,b.jz⟩
 ·by_cases c:d=k
  ·subst c;rw [Lt] at e;cases e;exact ⟨(b.box d i v r).1,l,hb⟩
  ·rw [u4 _ _ c] at e;obtain ⟨o,A,p⟩:=b.box d z e u;refine ⟨o,A,?_⟩;rw [F _ (gA p) (λB=>c (b.inj d k (by simp [e]) (by simp [v]) u r B)) o];exact p
 ·intro e;by_cases c:x=k
  ·grind
  ·exact C (by rw [u4 _ _ c];exact e)
 ·intro e;by_cases c:y=k
  ·grind
  ·exact E (by rw [u4 _ _ c];exact e)
 ·by_cases c:d=k
  ·have:=b.km d t;grind
  ·rw [u4 _ _ c];exact b.km d t
end
section
variable {n:Nat} {g Liv D N:Nat->Prop} {β:Nat->Nat} {s:St} {a:Act} {h:Hp} {w:World}
theorem RR.fG (j:RR n g Liv D N β s a h w) {dst:Option Nat} {l:LV} {ch:aP} {v:Value} (q:∀d,dst=some d->d<n/\¬D d) (f:∀p∈ch,D p.1)
  (i:holds s ch->v=LVal β l/\∀k o,(l=.box k o\/l=.dv k o)->Liv k/\¬N k) (m:¬holds s ch->v=undef):
  RR n (λt=>dst=some t\/g t) Liv D N β (s.put dst l ch) (a.put dst v) h w:=by
 cases dst with
 | none=>exact j.congr (λt=>by simp) (λ_=>.rfl) (λ_ e=>e) (λ_ e=>e)
 | some d=>
  obtain ⟨r,c⟩:=q d rfl;have u:=(j.lift r c f λb k o e=>(((i b).2 k o e).2)).exec (v:=v) (BR s d l ch) (λe=>e.1 rfl)
   (λb=>⟨(i ((BK c f).1 b)).1,λk o e=>((i ((BK c f).1 b)).2 k o e).1⟩) (λb=>m λe=>b ((BK c f).2 e))
  grind
theorem JE (v:RR n g Liv D N β s a h w) {c:aP} {k:List Oper} {m:Nat} {o:Oper} (e:ot k m o=some c) (f:rL s c=true)
  (z:∀j b p d,o.guard=some (j,b)->nth k j=some p->p.dst=some d->D d):∀p∈c,D p.1:=by
 cases m with
 | zero=>simp [ot] at e
 | succ m=>
  simp only [ot] at e;split at e
  ·cases e;simp
  ·rename_i j b A;split at e
   ·rename_i p hp;split at e
    ·rename_i d l y x;cases e;simp only [rL] at f;split at f
     ·rename_i t r u;cases i:nD r l with
      | false=>simp [i] at f
      | true=>
       have:=wQ i;subst this;intro q hq;rcases List.mem_cons.1 hq with rfl | hq
       ·grind
       ·exact v.chain d _ _ u q hq
     ·cases f
    ·cases e
   ·cases e
theorem GP (r:RR n g Liv D N β s a h w) {ch:aP} {ops:Array Oper} {m:Nat} {o:Oper} (c:ot ops.toList m o=some ch) (i:rL s ch=true)
  (B:∀j b p d,o.guard=some (j,b)->nth ops.toList j=some p->p.dst=some d->g d):Region.wanted o (yielded ops a.tmps)=true↔holds s ch:=by
 cases m with
 | zero=>simp [ot] at c
 | succ m=>
  simp only [ot] at c;split at c
  ·rename_i k;cases c;simp [Region.wanted,k,bp]
  ·rename_i j b k;split at c
   ·rename_i p hp;split at c
    ·rename_i d A y F;cases c;simp only [rL] at i;split at i
     ·rename_i t u f;cases v:nD u A with
      | false=>simp [v] at i
      | true=>
       have:=wQ v;subst this;have x:=B j b p d k hp y;have z:d<a.tmps.size:=by rw [r.sz];exact r.lt d _ _ f
       have C:ops[j]? =some p:=by rw [mr] at hp;simpa using hp
       have E:yielded ops a.tmps j=match a.eval (.tmp d) with | .bool b=>some b | _=>none:=by unfold yielded;simp only [C,Option.bind_some,y,Act.eval];have:a.tmps[d]? =some (a.tmps[d]'z):=Array.getElem?_eq_getElem z;simp only [this,Array.getD_eq_getD_getElem?,Option.getD_some];grind
       simp only [Region.wanted,k,E];by_cases l:holds s u
       ·have:=(r.cur d _ _ f x l).1;rw [this];simp only [LVal];constructor
        ·intro e;have e:t=b:=by simpa using e
         subst e;intro q hq;rcases List.mem_cons.1 hq with rfl | hq
         ·simp [hb,f]
         ·exact l q hq
        ·intro e;have:=e (d,b) (List.mem_cons_self ..);simp only [hb,f] at this;simpa using this
       ·have:=r.bE d _ _ f x l;rw [this];simp only [undef];refine ⟨λe=>by simp at e,λe=>absurd (λq hq=>e q (List.mem_cons_of_mem _ hq)) l⟩
     ·cases i
    ·cases c
   ·cases c
def cl (aJ:List Nat) (o:Oper) (k:Nat):Prop:=lG aJ o=true/\o.dst=some k
structure s6 (C:Ctx) (l mok:List Nat) (n:Nat) (g Liv D N:Nat->Prop) (o:Oper) (β:Nat->Nat) (s:St) (a:Act) (h:Hp) (w:World) (β':Nat->Nat) (s':St) (a':Act) (h':Hp) (w':World):Prop where
 rr:RR n (λt=>o.dst=some t\/g t) (λk=>cl C.aJ o k\/Liv k) D (λk=>¬cl C.aJ o k/\N k) β' s' a' h' w'
 ub:gr l mok (live s Liv) β a h w (live s' λk=>cl C.aJ o k\/Liv k) β' a' h' w'
 f:∀t,o.dst≠some t->s'.f t=s.f t
 m:∀k,s'.m k=s.m k\/cl C.aJ o k\/(tv o s k=true/\isVal C.tb o=false/\s.m k≠none/\Liv k)
 hv:isVal C.tb o=true->h'=h
 hp:lG C.aJ o=true->h'=h
theorem A7 {C:Ctx} {o:Oper} (h:lG C.aJ o=false) (k:Nat):¬cl C.aJ o k:=λe=>by have:=e.1;grind
theorem ID {C:Ctx} {l p:List Nat} {o:Oper} {b:St} {d:Act} {c:Hp} {i:World} (hp:lG C.aJ o=false)
  (rr:RR n (λt=>o.dst=some t\/g t) Liv D N β b d c i) (ub:gr l p (live s Liv) β a h w (live b Liv) β d c i)
  (f:∀t,o.dst≠some t->b.f t=s.f t) (m:∀k,b.m k=s.m k\/(tv o s k=true/\isVal C.tb o=false/\s.m k≠none/\Liv k)) (hv:isVal C.tb o=true->c=h):
  s6 C l p n g Liv D N o β s a h w β b d c i:=by
 have j:∀k,(cl C.aJ o k\/Liv k)↔Liv k:=λk=>⟨λe=>e.resolve_left (A7 hp k),.inr⟩;refine ⟨rr.congr (λ_=>.rfl) j (λ_ e=>e) (λ_ e=>e.2),ub.mono (λ_ e=>e) (λ_ e=>e) (λ_ e=>e) (λk e=>⟨e.1,(j k).1 e.2⟩),f,λk=>(m k).imp id .inr,hv,λe=>by grind⟩
theorem tY (s:St) (d:Option Nat) (l:LV) (ch:aP) (t:Nat) (h:d≠some t):(s.put d l ch).f t=s.f t:=by
 cases d with
 | none=>rfl
 | some d=>exact qV s l ch λe=>h (by rw [e])
theorem lY (s:St) (d:Option Nat) (l:LV) (ch:aP):(s.put d l ch).m=s.m:=by cases d<;>rfl
theorem K3 {C:Ctx} {o:Oper} (h:isVal C.tb o=true):lG C.aJ o=false:=by obtain ⟨b,op,ty,pos,after,guard⟩:=o;cases op<;>first | rfl | (simp [isVal] at h;done) | (cases b<;>simp [isVal,lG] at h ⊢)
theorem JF (f:RR n g Liv D N β s a h w) {o:Oper} {ch:aP} {l:LV} (hp:lH o ch s l) (p:holds s ch) (m:∀t,Operand.tmp t∈o.op.operands->g t):
  ∀k off,(l=.box k off\/l=.dv k off)->Liv k/\¬N k:=by
 intro k off e;obtain ⟨x,q,i,hev⟩:=hp k off e;rcases hev with hev | hev
 ·obtain ⟨t,c,rfl,d,b⟩:=qU hev (by simp) p;exact ⟨(f.cur t _ c d (m t q) b).2 k i (.inl rfl),λj=>(f.jz k j t _ c d b i).1 rfl⟩
 ·obtain ⟨t,c,rfl,d,b⟩:=qU hev (by simp) p;exact ⟨(f.cur t _ c d (m t q) b).2 k i (.inr rfl),λj=>(f.jz k j t _ c d b i).2 rfl⟩
theorem JG {C:Ctx} (ok:C.tb.Ok C.P) {G:Array Oper} {l M:List Nat} {K:St->Hp->Prop} {i:Nat} {o:Oper} (hi:G[i]? =some o) (hv:zm C G.toList M o s h K)
  (q:RR n g Liv D N β s a h w) (a8:∀t,Operand.tmp t∈o.op.operands->g t)
  (b9:∀j b p d,o.guard=some (j,b)->nth G.toList j=some p->p.dst=some d->g d/\D d) (b0:∀d,o.dst=some d->d<n/\¬D d/\d∈l)
  (hN:∀d,cl C.aJ o d->N d/\¬Liv d) (next:Act->World->Prop) (Q:Exit->Act->World->Prop)
  (T:∀s' z f9 a' u,K s' z->s6 C l M n g Liv D N o β s a h w f9 s' a' z u->next a' u):wpOp C.P G Q i next a w:=by
 unfold zm at hv;split at hv
 ·exact hv.elim
 rename_i ch b6;cases hg:rL s ch with
 | false=>simp [hg] at hv
 | true=>
 simp only [hg,cond_true] at hv;have d8:∀j b p d,o.guard=some (j,b)->nth G.toList j=some p->p.dst=some d->g d:=λj b p d e1 e2 e3=>(b9 j b p d e1 e2 e3).1;have L:=GP q b6 hg d8;have hD:=JE q b6 hg λj b p d e1 e2 e3=>(b9 j b p d e1 e2 e3).2;have U:∀x∈o.op.operands,dY β s a.eval x:=λx H=>Bz q λt e=>a8 t (e▸H);have b7:∀d,o.dst=some d->d<n/\¬D d:=λd e=>⟨(b0 d e).1,(b0 d e).2.1⟩;have b8:∀d,o.dst=some d->d∈l:=λd e=>(b0 d e).2.2;unfold wpOp;simp only [hi];have f8:∀(l:LV) k,live (s.put o.dst l ch) Liv k↔live s Liv k:=λl k=>by unfold live;rw [lY]
 have Y:∀(lv:LV) (z:Hp) (v:Value) (u:World),K (s.put o.dst lv ch) z->lG C.aJ o=false->(isVal C.tb o=true->z=h)->Step h z w u->
   (holds s ch->v=LVal β lv/\∀k off,(lv=.box k off\/lv=.dv k off)->Liv k/\¬N k)->(¬holds s ch->v=undef)->next (a.put o.dst v) u:=by
  intro lv z v u B hp f7 J h1 F;refine T _ _ β _ _ B (ID hp ((q.step J).fG b7 hD h1 F) ?_ (λt W=>tY s _ _ _ t W) (λk=>.inl (by rw [lY])) f7);refine ((gr.step J).trans (gr.put (lv:=live s Liv) b8)).mono (λ_ e=>e) (λ_ e=>e) (λ_ e=>e) (λk e=>(f8 lv k).1 e)
 cases X:isVal C.tb o with
 | true=>
  simp only [X,cond_true] at hv;obtain ⟨lv,B,V,e4⟩:=GM ok hv;by_cases A:holds s ch
  ·rw [if_pos (L.2 A)];left;obtain ⟨u,e6,c4,J⟩:=V A β a.eval w U (λ_=>q.sub) (λ_=>JC q a8);unfold Oper.wp;rw [e6];have e9:Step h h w u:=by
    cases b2:cf C.tb o ch s with
    | mem=>exact J b2
    | pure=>rw [c4 (by rw [b2];simp)];exact .refl q.sub
    | box=>rw [c4 (by rw [b2];simp)];exact .refl q.sub
   exact Y lv h _ u B (K3 X) (λ_=>rfl) e9 (λ_=>⟨rfl,JF q e4 A a8⟩) (λe=>absurd A e)
  ·rw [if_neg (λe=>A (L.1 e))];exact Y lv h _ w B (K3 X) (λ_=>rfl) (.refl q.sub) (λe=>absurd e A) (λ_=>rfl)
 | false=>
  simp only [X,cond_false] at hv;have b4:lG C.aJ o=false->(fI C.P o ch s h λl z=>K (s.put o.dst l ch) z)->
    if Region.wanted o (yielded G a.tmps)=true then o.wp C.P a w next Q\/o.asks C.P a w/\LetsOut Q else next (a.put o.dst undef) w:=by
   intro hp hv;obtain ⟨h1,F⟩:=hv;by_cases A:holds s ch
   ·rw [if_pos (L.2 A)];left;refine h1 A β a w U q.sub next Q λx z u B J=> ?_
    exact Y (.v x) z x u B hp (λe=>by grind) J (λ_=>⟨rfl,λk off e=>by grind⟩) (λe=>absurd A e)
   ·rw [if_neg (λe=>A (L.1 e))];obtain ⟨x,B⟩:=F A;exact Y (.v x) h undef w B hp (λ_=>rfl) (.refl q.sub) (λe=>absurd e A) (λ_=>rfl)
  have c6:lG C.aJ o=false->(vR C.P C.tb o ch s h λl z=>K (s.put o.dst l ch) z)->
    if Region.wanted o (yielded G a.tmps)=true then o.wp C.P a w next Q\/o.asks C.P a w/\LetsOut Q else next (a.put o.dst undef) w:=λhp hv=>b4 hp (TH ok hv)
  have b5:∀(d:Nat) (r:List Value) (t:Nat),K ((s.put (some d) (.box d 0) []).fU d r) h->cl C.aJ o d->ch=[]->has M d=true->
    (execOp a.eval o).run C.P w=.ok (.value (.pointer (some ⟨w.heap.size,0,none⟩))) {w with heap:=w.heap.push (.cells r.toArray t (0,0))}->
    if Region.wanted o (yielded G a.tmps)=true then o.wp C.P a w next Q\/o.asks C.P a w/\LetsOut Q else next (a.put o.dst undef) w:=by
   intro d r t B hp he I V;subst he;rw [if_pos (L.2 (bp s))];left;unfold Oper.wp;rw [V];show next (a.put o.dst _) _
   rw [hp.2];obtain ⟨d3,d1,d2⟩:=b0 d hp.2;obtain ⟨c7,g0⟩:=hN d hp;have hl:=q.xU r d3 d1 c7;have d7:((s.put (some d) (.box d 0) []).fU d r).f d=some (.box d 0,[]):=BR s _ _ _;have c1:((s.put (some d) (.box d 0) []).fU d r).m d=some r:=Lt _ _ _;have H:=hl.xP t d7 c1 (λe=>e.1 rfl) (λe=>e.1 rfl);have d9:∀k,cl C.aJ o k↔k=d:=λk=>⟨λe=>by have:=e.2;rw [hp.2] at this;cases this;rfl,λe=>e▸hp⟩;refine T _ _ _ _ _ B ⟨H.congr (λt=> ?_) (λk=> ?_) (λ_ e=>e) (λk e=> ?_),?_,λt W=> ?_,λk=> ?_,λ_=>rfl,λ_=>rfl⟩
   ·rw [hp.2];grind
   ·grind
   ·grind
   ·refine (DH (s:=(s.put (some d) (.box d 0) []).fU d r) (Liv:=λk=>k≠d/\Liv k) (β:=β) (a:=a) (l:=l) (mm:=M) t q.sub c1 (λe=>e.1 rfl) d2 ((qq _ _).1 I)).mono
     (λ_ e=>e) (λ_ e=>e) (λk e=>⟨λe'=>e.1 ?_,e.2.2⟩) (λk e=>⟨e.1,?_⟩)
    ·rw [u4 _ _ e.2.1];exact e'
    ·rcases e.2 with e2 | e2
     ·exact .inl ((d9 k).1 e2)
     grind
   ·exact qV s _ _ λe=>W (by rw [hp.2,e])
   ·by_cases ek:k=d
    ·grind
    ·exact .inl (u4 _ _ ek)
  split at hv
  ·rename_i d R;have a9:o.dst=some d/\has C.aJ d=true:=by unfold pJ at R;grind
   cases I:has M d with
   | false=>simp [I] at hv
   | true=>
    simp only [I,cond_true] at hv;split at hv
    ·rename_i t E;split at hv
     ·rename_i e he;refine b5 d (aY e.zero) t hv ⟨by simp [lG,E,a9],a9.1⟩ rfl I ?_;have e2:(aY e.zero).toArray=e.zero.cells:=by apply Array.ext';simp [nt]
      rw [e2];simp [execOp,E,Instr.alloc,bX ok he,newVar,rK]
     ·exact hv.elim
    ·rename_i t x E;obtain ⟨v,d5,f6⟩:=jC hv;refine b5 d (aY v) t f6 ⟨by simp [lG,E,a9],a9.1⟩ rfl I ?_;have H:=bn (U x (by simp [E,Op.operands])) (bp s) d5;have e2:(aY v).toArray=v.cells:=by apply Array.ext';simp [nt]
     rw [e2];simp [execOp,E,H,LVal,Instr.box,newVar,rK]
    ·exact hv.elim
  ·exact hv.elim
  ·rename_i R;have b3:lG C.aJ o=false:=by
    unfold pJ at R;unfold lG;split at R
    ·rename_i d' e;cases h1:has C.aJ d' with
     | true=>simp [h1] at R
     | false=>rw [e];cases o.op<;>simp [h1]
    ·rename_i e;rw [e];cases o.op<;>simp
   split at hv
   ·rename_i t x y E;split at hv
    ·rename_i k off v b1 d6;split at hv
     ·rename_i r e S f5;cases h1:has M k with
      | false=>simp [h1] at hv
      | true=>
      cases F:Nat.beq (aY v).length e.size with
      | false=>simp [h1,F] at hv
      | true=>
      cases Z:Nat.ble (off+e.size) r.length with
      | false=>simp [h1,F,Z] at hv
      | true=>
      cases h4:iF (aY v) with
      | false=>simp [h1,F,Z,h4] at hv
      | true=>
      simp only [h1,F,Z,h4,cond_true] at hv;rw [if_pos (L.2 (bp s))];left;have c5:x∈o.op.operands:=by simp [E,Op.operands]
      have H:=bn (U x c5) (bp s) b1;have hy:=bn (U y (by simp [E,Op.operands])) (bp s) d6;obtain ⟨tt,c,rfl,hf,hc⟩:=qU b1 (by simp) (bp s);have hL:Liv k:=(q.cur tt _ c hf (a8 tt c5) hc).2 k off (.inl rfl);obtain ⟨c9,ct,d0⟩:=q.box k r S hL;have c0:(aY v).length=e.size:=Nat.eq_of_beq_eq_true F;obtain ⟨u,V,c8,c2,f0,e7,h5,h6,h7⟩:=Rv (P:=C.P) (off:=off) q.sub d0 c9 h4 (by rw [c0];exact Nat.le_of_ble_eq_true Z);have f4:=bI ok f5 w;have e0:v.cells.size=e.size:=by rw [<-Array.length_toList,nt];exact c0
      unfold Oper.wp;have e5:(execOp a.eval o).run C.P w=.ok .skip u:=by
       simp only [execOp,E,H,hy,LVal,Instr.storeAt,Instr.sureAddr,Sem.run_bind,Sem.run_pure,Result.andThen_ok,storeVar,f4,e0,ne_eq,not_true,if_false,nt];have:(if False then (stuck "storeVar: the value has not the size of the variable" :Sem Unit) else pure PUnit.unit).run C.P w=.ok () w:=rfl
       first | rw [this] | skip
       simp only [V,Result.andThen_ok]
      rw [e5,Oper.upon_skip];have c3:=(q.zw S hL c8 c2 f0).fG (dst:=o.dst) (l:=.v (.tuple #[])) (ch:=[]) (v:=undef) b7 (by simp) (λ_=>⟨rfl,λk off e=>by rcases e with e | e<;>cases e⟩) (λe=>absurd (bp _) e);have d4:((s.fU k (j6 r off (aY v))).put o.dst (.v (.tuple #[])) [])=((s.put o.dst (.v (.tuple #[])) []).fU k (j6 r off (aY v))):=by cases o.dst<;>rfl
      rw [d4] at c3;have e8:∀j,((s.put o.dst (.v (.tuple #[])) []).fU k (j6 r off (aY v))).m j≠none->s.m j≠none:=λj hj=>by
       by_cases O:j=k
       ·rw [O,S];simp
       ·rw [u4 _ _ O,lY] at hj;exact hj
      refine T _ _ _ _ _ hv (ID b3 c3 ?_ (λt W=>tY s _ _ _ t W) (λj=> ?_) (λ_=>rfl))
      ·refine gr.trans (lv1:=live s Liv) (β1:=β) (a1:=a) (h1:=h) (w1:=u) ⟨λ_ _=>rfl,λ_ _=>rfl,e7,λ_ _ e _=>e,λb hb T B=> ?_,λ_ e=>.inl ⟨e,rfl⟩,h5,h6,h7,rfl⟩ ((gr.put (lv:=live s Liv) b8).mono (λ_ e=>e) (λ_ e=>e) (λ_ e=>e) (λj e=>⟨e8 j e.1,e.2⟩));exact c2 b hb (λe=>B k ((qq _ _).1 h1) ⟨by rw [S];simp,hL⟩ e.symm) T
      ·by_cases O:j=k
       ·subst O;exact .inr ⟨by simp [tv,E,b1],X,by rw [S];simp,hL⟩
       ·exact .inl (by rw [u4 _ _ O,lY])
     ·exact hv.elim
    ·exact c6 b3 hv
   ·exact b4 b3 (TJ hv)
   grind
end
abbrev Rel (n:Nat) (b:Nat->Nat) (s:St) (a:Act) (h:Hp) (w:World):Prop:=
 RR n (λ_=>True) (λ_=>True) (λ_=>False) (λ_=>False) b s a h w
abbrev cg (s:St):Nat->Prop:=live s λ_=>True
section
variable {n:Nat} {q Liv D N:Nat->Prop} {β:Nat->Nat} {s:St} {a:Act} {h:Hp} {w:World}
theorem wR {s:St} {t:Nat} {l:LV} {c:aP} (e:s.clean.f t=some (l,c)):s.f t=some (l,[])/\c=[]:=by simp only [St.clean] at e;grind
theorem RR.clean (b:RR n (λ_=>True) (λ_=>True) D N β s a h w):Rel n β s.clean a h w:=by
 refine ⟨b.sz,b.sub,λt l c e=>b.lt t l _ (wR e).1,λt l c e p hp=> ?_,λt l c e _ _=>b.cur t l _ (wR e).1 trivial (bp _),λt l c e _ d=> ?_,b.box,b.inj,λ_ e=>e.elim,λ_ e=>e.elim⟩
 ·rw [(wR e).2] at hp;cases hp
 ·rw [(wR e).2] at d;exact absurd (bp _) d
theorem lV {l:List Nat} {x:Option (LV×aP)} {v:LV} {c:aP} (e:oX l x=some (v,c)):x=some (v,c)/\∀k o,(v=.box k o\/v=.dv k o)->k∉l:=by
 unfold oX at e;split at e
 ·rename_i k o d;cases b:has l k with
  | true=>simp [b] at e
  | false=>
   simp only [b,cond_false] at e;cases e;refine ⟨rfl,λf g e'=> ?_⟩;rcases e' with e' | e'<;>cases e'
   exact xd b
 ·rename_i k o d;cases b:has l k with
  | true=>simp [b] at e
  | false=>
   simp only [b,cond_false] at e;cases e;refine ⟨rfl,λf g e'=> ?_⟩;rcases e' with e' | e'<;>cases e'
   exact xd b
 ·grind
 ·cases e
theorem qm {l:List Nat} {t:Nat} {v:LV} {c:aP} (e:(s.kh l).f t=some (v,c)):s.f t=some (v,c)/\∀k o,(v=.box k o\/v=.dv k o)->k∉l:=by
 cases l with
 | nil=>exact ⟨e,λ_ _ _ e=>by cases e⟩
 | cons x l=>exact lV e
theorem uR {l:List Nat} {k:Nat} {c:List Value} (e:(s.kh l).m k=some c):s.m k=some c/\k∉l:=by
 cases l with
 | nil=>exact ⟨e,λe=>by cases e⟩
 | cons x l=>
  simp only [St.kh] at e;cases b:has (x::l) k with
  | true=>simp [b] at e
  | false=>simp only [b,cond_false] at e;exact ⟨e,xd b⟩
theorem RR.start (b:Rel n β s a h w) (l:List Nat):RR n (λ_=>True) (λk=>k∉l) (λ_=>False) (λk=>k∈l) β (s.kh l) a h w:=by
 refine ⟨b.sz,b.sub,λt v c e=>b.lt t v c (qm e).1,λt v c e=>b.chain t v c (qm e).1,λt v c e _ j=> ?_,λt v c e _ j=> ?_,λk g e _=>b.box k g (uR e).1 trivial,λk y e d _ _ x=> ?_,λk f=> ?_,λk f t v c e _ o=> ?_⟩
 ·have i:c=[]:=by
   cases c with
   | nil=>rfl
   | cons p c=>exact (b.chain t v _ (qm e).1 p (List.mem_cons_self ..)).elim
  subst i;exact ⟨(b.cur t v [] (qm e).1 trivial (bp _)).1,(qm e).2⟩
 ·have i:c=[]:=by
   cases c with
   | nil=>rfl
   | cons p c=>exact (b.chain t v _ (qm e).1 p (List.mem_cons_self ..)).elim
  subst i;exact absurd (bp _) j
 ·obtain ⟨g,r⟩:=Option.ne_none_iff_exists'.1 e;obtain ⟨z,u⟩:=Option.ne_none_iff_exists'.1 d;exact b.inj k y (by simp [(uR r).1]) (by simp [(uR u).1]) trivial trivial x
 ·cases e:(s.kh l).m k with
  | none=>rfl
  | some g=>exact absurd f (uR e).2
 ·exact ⟨λd=>(qm e).2 k o (.inl d) f,λd=>(qm e).2 k o (.inr d) f⟩
theorem Hw {l:List Nat} {k:Nat} (e:live (s.kh l) (λk=>k∉l) k):cg s k:=by obtain ⟨c,b⟩:=Option.ne_none_iff_exists'.1 e.1;exact ⟨by simp [(uR b).1],trivial⟩
theorem UP :∀(x y:List Oper),bH (x++y)=bH x++bH y
 | [],y=>rfl
 | o::x,y=>by simp only [List.cons_append,bH,UP x y];cases o.dst<;>rfl
theorem vq {l:List Oper} {o:Oper} {d:Nat} (hm:o∈l) (b:o.dst=some d):d∈bH l:=by
 induction l with
 | nil=>cases hm
 | cons p l c=>
  rcases List.mem_cons.1 hm with rfl | hm
  ·simp [bH,b]
  ·have:=c hm;simp only [bH];grind
theorem Lv :∀ {l:List Nat},nodup l=true->l.Nodup
 | [],_=>.nil
 | a::l,h=>by
  simp only [nodup] at h;cases b:has l a with
  | true=>simp [b] at h
  | false=>simp only [b,cond_false] at h;exact List.nodup_cons.2 ⟨xd b,Lv h⟩
theorem Su {l:List Oper} {o:Oper} (h:Ce l=true) (b:o∈l):o.guard=none:=by
 induction l with
 | nil=>cases b
 | cons p l c=>simp only [Ce] at h;grind
theorem Yj :∀ {l:List Oper} {i j:Nat} {o:Oper} {g:Nat} {b:Bool},wL l i=true->l[j]? =some o->o.guard=some (g,b)->g<i+j
 | [],_,_,_,_,_,_,e,_=>by simp at e
 | p::l,i,0,o,g,b,h,e,c=>by
  simp at e;subst e;simp only [wL,c] at h;cases hb:Nat.blt g i with
  | true=>simp [Nat.blt] at hb;omega
  | false=>simp [hb] at h
 | p::l,i,j+1,o,g,b,h,e,c=>by
  simp at e;have d:wL l (i+1)=true:=by simp only [wL] at h;grind
  have:=Yj d e c;omega
theorem K4 {aJ:List Nat} {o:Oper} {d:Nat} {r:List Oper} (h:cl aJ o d):j4 aJ (o::r)=d::j4 aJ r:=by simp [j4,h.1,h.2]
theorem V1 {aJ:List Nat} {o:Oper} {r:List Oper} (h:∀d,¬cl aJ o d):j4 aJ (o::r)=j4 aJ r:=by
 cases hp:lG aJ o with
 | false=>simp [j4,hp]
 | true=>
  cases b:o.dst with
  | none=>simp [j4,hp,b]
  | some d=>exact absurd ⟨hp,b⟩ (h d)
theorem Hx {C:Ctx} (ok:C.tb.Ok C.P) {c:Array Oper} {mok:List Nat} {K:St->Hp->Prop} {Q:Exit->Act->World->Prop} (g:Bool)
  (O:∀d∈bH c.toList,d<n) (M:g=false->Ce c.toList=true) (G:g=true->(bH c.toList).Nodup/\wL c.toList 0=true):
  ∀(r pre:List Oper) (β:Nat->Nat) (s:St) (a:Act) (h:Hp) (w:World),c.toList=pre++r->(j4 C.aJ r).Nodup->zt C c.toList mok r s h K->
   RR n (λ_=>True) (λk=>k∉j4 C.aJ r) (λt=>g=true/\t∈bH pre) (λk=>k∈j4 C.aJ r) β s a h w->
   (∀v u A m x,K v u->RR n (λ_=>True) (λ_=>True) (λt=>g=true/\t∈bH c.toList) (λ_=>False) A v m u x->
    gr (bH c.toList) mok (live s λk=>k∉j4 C.aJ r) β a h w (cg v) A m u x->Q .normal m x)->
   wpOps C.P c Q (List.range' pre.length r.length) a w
 | [],pre,β,s,a,h,w,f,_,hv,J,I=>by simp only [List.length_nil,List.range'_zero];rw [List.append_nil] at f;exact I s h β a w hv (J.congr (λ_=>.rfl) (λk=>by simp [j4]) (λt e=>by rw [f];exact e) (λk e=>e.elim)) ((gr.refl _ _).mono (λ_ e=>e) (λ_ e=>e) (λ_ e=>e) (λk e=>⟨e.1,by simp [j4]⟩))
 | o::r,pre,β,s,a,h,w,f,i,hv,J,I=>by
  simp only [List.length_cons,List.range'_succ,wpOps_cons];have V:c[pre.length]? =some o:=by
   have:c.toList[pre.length]? =some o:=by rw [f];simp
   simpa using this
  have H:o∈c.toList:=by rw [f];simp
  have y:∀k,(cl C.aJ o k\/k∉j4 C.aJ (o::r))↔k∉j4 C.aJ r:=by
   intro k;by_cases hp:∃d,cl C.aJ o d
   ·obtain ⟨d,hp⟩:=hp;rw [K4 hp] at i ⊢;have i:=List.nodup_cons.1 i;constructor
    ·rintro (e | e)
     ·have:k=d:=by have F:=e.2;rw [hp.2] at F;cases F;rfl
      rw [this];exact i.1
     ·exact λB=>e (List.mem_cons_of_mem _ B)
    grind
   ·have Z:∀d,¬cl C.aJ o d:=λd e=>hp ⟨d,e⟩;rw [V1 Z];grind
  have T:∀k,k∈j4 C.aJ r->¬cl C.aJ o k/\k∈j4 C.aJ (o::r):=λk z=>
   ⟨λe=>(y k).1 (.inl e) z,Classical.byContradiction λe=>(y k).1 (.inr e) z⟩
  have X:(j4 C.aJ r).Nodup:=by
   by_cases hp:∃d,cl C.aJ o d
   ·obtain ⟨d,hp⟩:=hp;rw [K4 hp] at i;grind
   ·rwa [V1 λd e=>hp ⟨d,e⟩] at i
  refine JG (l:=bH c.toList) ok V hv J (λ_ _=>trivial) (λj b p d E L R=>⟨trivial,?_⟩) (λd e=>⟨O d (vq H e),λB=> ?_,vq H e⟩) (λd hp=> ?_) _ Q λv u A m x z out=> ?_
  ·cases g with
   | false=>rw [Su (M rfl) H] at E;cases E
   | true=>refine ⟨rfl,?_⟩;have hj:=Yj (j:=pre.length) (G rfl).2 (by rw [f];simp) E;rw [mr,f,List.getElem?_append_left (by omega)] at L;exact vq (List.mem_of_getElem? L) R
  ·have U:=(G B.1).1;rw [f,UP] at U;have F:d∈bH (o::r):=vq (List.mem_cons_self ..) e;grind
  ·have:d∈j4 C.aJ (o::r):=by rw [K4 hp];simp
   grind
  ·have Y:c.toList=(pre++ [o])++r:=by rw [f];simp
   have:=Hx ok g O M G r (pre++ [o]) A v m u x Y X z
    (out.rr.congr (λt=>by simp) (λk=>(y k).symm) (λt e=>⟨e.1,by rw [UP];grind⟩) T)
    (λs2 S b0 a2 w2 W a8 a9=>I s2 S b0 a2 w2 W a8 (out.ub.trans (a9.mono (λ_ e=>e) (λ_ e=>e) (λk e=>⟨e.1,(y k).2 e.2⟩) (λ_ e=>e))))
   simpa using this
end
theorem eO {b x:Bool} (h:cond b x false=true):b=true/\x=true:=by grind
theorem Lb :∀(n:Nat) (l:List Nat),l.Nodup->(∀x∈l,x<n)->l.length<=n
 | 0,l,_,h=>by
  cases l with
  | nil=>simp
  | cons a l=>exact absurd (h a (List.mem_cons_self ..)) (Nat.not_lt_zero _)
 | n+1,l,b,h=>by
  by_cases f:n∈l
  ·have e:=Lb n (l.erase n) (b.erase n) (λx d=>by
    have c:=(b.mem_erase_iff).1 d;have:=h x c.2;have:=c.1;omega)
   grind
  ·have:=Lb n l b (λx d=>by
    grind)
   omega
theorem xw {n:Nat} {l:List Nat} (b:l.Nodup) (h:∀x∈l,x<n) (c:n<=l.length) {j:Nat} (a:j<n):j∈l:=by
 refine Classical.byContradiction λe=> ?_;have:=Lb n (j::l) (List.nodup_cons.2 ⟨e,b⟩) (λx hx=>by
  rcases List.mem_cons.1 hx with rfl | hx
  ·exact a
  ·exact h x hx)
 grind
def sX (L:List Oper) (X:Nat->Prop):Prop:=∀i o,L[i]? =some o->X i->∀j∈waits o,X j
def kQ (L:List Oper) (i j:Nat):Prop:=∀X:Nat->Prop,sX L X->(∀o,L[i]? =some o->∀k∈waits o,X k)->X j
theorem CN {l m:List Nat} (h:jK l m=true):∀x∈l,x∈m:=by
 induction l with
 | nil=>simp
 | cons a l c=>
  simp only [jK] at h;cases b:has m a with
  | false=>simp [b] at h
  | true=>
   simp only [b,cond_true] at h;intro x hx;rcases List.mem_cons.1 hx with rfl | hx
   ·exact (qq _ _).1 b
   ·exact c h x hx
theorem UQ {o:Oper} {e:Edge} (a:e∈o.after) (hb:Region.binds .any e=true):e.on∈waits o:=by
 have key:∀l:List Edge,e∈l->e.on∈waits.go l:=by
  intro l
  induction l with
  | nil=>intro h;cases h
  | cons x l c=>
   intro h;simp only [waits.go];rcases List.mem_cons.1 h with rfl | h
   ·have:CS e=true:=by unfold Region.binds at hb;unfold CS;cases b:e.ground<;>simp [b] at hb ⊢
    simp [this]
   grind
 exact key _ (by simpa using a)
theorem IE {k:Nat} {l:List Nat} {j:Nat} (h:j∈tn k l):j=k\/j∈l:=by unfold tn at h;grind
theorem IF {j:Nat}:∀ {a b:List Nat},j∈zd a b->j∈a\/j∈b
 | [],_,h=>.inr h
 | k::r,b,h=>by
  rcases IF (a:=r) (b:=tn k b) h with h | h
  ·grind
  ·rcases IE h with rfl | h
   ·simp
   ·exact .inr h
theorem Hy {a:List (List Nat)}:∀ {l:List Nat} {j:Nat},j∈bh.union l a->j∈l\/∃k∈l,∃x,nth a k=some x/\j∈x
 | [],j,h=>by simp [bh.union] at h
 | k::l,j,h=>by
  simp only [bh.union] at h;rcases IE h with rfl | h
  ·simp
  ·rcases IF h with h | h
   ·grind
   ·rcases Hy h with h | ⟨d,b,c⟩
    ·exact .inl (List.mem_cons_of_mem _ h)
    grind
theorem Hz {L:List Oper}:∀(r pre:List Oper) (a:List (List Nat)),L=pre++r->a.length=pre.length->(∀i x,nth a i=some x->∀j∈x,kQ L i j)->
  ∀i x,nth (bh r a) i=some x->∀j∈x,kQ L i j
 | [],_,a,_,_,h=>h
 | o::r,pre,a,d,f,h=>by
  refine Hz r (pre++ [o]) _ (by simp [d]) (by simp [qk,f]) λi x b j c=> ?_;rw [mr,qk] at b;rcases Nat.lt_trichotomy i a.length with hi | hi | hi
  ·rw [List.getElem?_append_left hi,<-mr] at b;exact h i x b j c
  ·subst hi;simp at b;subst b;intro X e l;have g:L[a.length]? =some o:=by rw [d,f];simp
   rcases Hy c with c | ⟨k,n,y,s,m⟩
   ·exact l o g j c
   ·exact h k y s j m X e λu q t p=>e k u q (l o g k n) t p
  grind
theorem wP {L:List Oper} {i j:Nat} (h:j∈kO (bh L []) i):kQ L i j:=by
 unfold kO at h;split at h
 ·rename_i x a;exact Hz L [] [] rfl rfl (λi x a=>by simp [nth] at a) i x a j h
 ·cases h
theorem BA :∀l:List (Nat×Operand),wa l=l.map (·.2)
 | []=>rfl
 | (_,x)::l=>by simp [wa,BA l]
theorem JH :∀l:Option Operand,tU l=l.toArray.toList
 | none=>rfl
 | some x=>rfl
theorem GQ {op:Op} {l:List Operand} (h:B5 op=some l):∀x∈op.operands,x∈l:=by
 cases op with
 | call c=>
  obtain ⟨callee,args,g⟩:=c;cases callee with
  | value f=>cases h;intro x d;simpa [Op.operands,Call.operands] using d
  | builtin b=>cases h;intro x d;simpa [Op.operands,Call.operands] using d
  | invoke r m=>cases h
 | build t e=>cases h;intro x d;simpa [Op.operands,BA] using d
 | buildSlice t n e=>cases h;intro x d;simpa [Op.operands,BA] using d
 | makeFunc fn a b=>cases h;intro x d;simpa [Op.operands,qk] using d
 | makeMap t r=>cases h;intro x d;simpa [Op.operands,JH] using d
 | slice t x j i k=>cases h;intro x d;simpa [Op.operands,qk,JH,or_assoc] using d
 | alloc t=>cases h;intro x d;simp [Op.operands] at d
 | _=>first | (cases h;done) | (cases h;intro x d;simpa [Op.operands] using d)
theorem GR {rows:List (List Nat)} {i t:Nat}:∀ {l:List Oper} {j0:Nat},su rows i t l j0=true->∀j p,l[j]? =some p->p.dst=some t->
  j0+j∈kO rows i\/i=j0+j\/i∈kO rows (j0+j)
 | [],_,_,j,p,e,_=>by simp at e
 | q::l,j0,h,j,p,e,d=>by
  simp only [su] at h;cases a:(cond (ri q t) (cond (has (kO rows i) j0) true (cond (Nat.beq i j0) true (has (kO rows j0) i))) true) with
  | false=>grind
  | true=>
   rw [a] at h;cases j with
   | zero=>
    simp at e;subst e;have:ri q t=true:=by simp [ri,d]
    rw [this] at a;simp only [cond_true] at a;cases b:has (kO rows i) j0 with
    | true=>exact .inl ((qq _ _).1 b)
    | false=>
     rw [b] at a;simp only [cond_false] at a;cases c:Nat.beq i j0 with
     | true=>exact .inr (.inl (Nat.eq_of_beq_eq_true c))
     | false=>rw [c] at a;exact .inr (.inr ((qq _ _).1 a))
   | succ j=>have:=GR (l:=l) (j0:=j0+1) h j p (by simpa using e) d;grind
theorem V2 {L:List Oper} {rows:List (List Nat)} {i t:Nat}:∀ {l:List Operand},cZ.go L rows i l=true->Operand.tmp t∈l->su rows i t L 0=true
 | [],_,hm=>by cases hm
 | x::l,h,hm=>by
  cases x with
  | tmp u=>
   simp only [cZ.go] at h;cases a:su rows i u L 0 with
   | false=>simp [a] at h
   | true=>
    simp only [a,cond_true] at h;rcases List.mem_cons.1 hm with e | hm
    ·cases e;exact a
    ·exact V2 h hm
  | _=>
   simp only [cZ.go] at h;rcases List.mem_cons.1 hm with e | hm
   ·cases e
   ·exact V2 h hm
theorem TL {L:List Oper} {rows:List (List Nat)} {i t:Nat} {o:Oper} (h:cZ L rows i o=true) (e:Operand.tmp t∈o.op.operands) {j:Nat} {p:Oper} (c:L[j]? =some p) (b:p.dst=some t):
  j∈kO rows i\/i=j\/i∈kO rows j:=by
 unfold cZ at h;split at h
 ·rename_i l d;cases a:cZ.go L rows i l with
  | false=>simp [a] at h
  | true=>have:=GR (V2 a (GQ d _ e)) j p c b;simpa using this
 ·cases h
theorem V4 {L:List Oper} {rows:List (List Nat)} {i j:Nat} {b:Bool} {o:Oper} (h:cZ L rows i o=true) (c:o.guard=some (j,b)):j∈kO rows i:=by
 unfold cZ at h;split at h
 ·rename_i l d;cases a:cZ.go L rows i l with
  | false=>simp [a] at h
  | true=>simp only [a,cond_true,c] at h;exact (qq _ _).1 h
 ·cases h
theorem Sv {o:Oper} {t:Nat} (b:Operand.tmp t∈o.op.operands):looksAt o t=true:=by
 unfold looksAt;split
 ·rename_i l a;have hm':=GQ a _ b;clear a b
  induction l with
  | nil=>cases hm'
  | cons x l c=>
   rcases List.mem_cons.1 hm' with e | hm'
   ·subst e;simp [looksAt.go]
   ·have:=c hm';cases x<;>simp only [looksAt.go]
    ·rw [this];simp
    all_goals exact this
 ·rfl
theorem uD {rows:List (List Nat)} {j d:Nat} {o:Oper} (b:o.dst=some d):∀ {l:List Oper} {i0:Nat},gE rows j o l i0=false->∀i p,l[i]? =some p->Operand.tmp d∈p.op.operands->j∈kO rows (i0+i)
 | [],_,_,i,p,e,_=>by simp at e
 | q::l,i0,h,i,p,e,c=>by
  simp only [gE,b] at h;cases a:(cond (looksAt q d) (cond (has (kO rows i0) j) false true) false) with
  | true=>grind
  | false=>
   rw [a] at h;cases i with
   | zero=>
    simp at e;subst e;rw [Sv c] at a;simp only [cond_true] at a;cases f:has (kO rows i0) j with
    | true=>exact (qq _ _).1 f
    | false=>grind
   | succ i=>have:=uD b (l:=l) (i0:=i0+1) h i p (by simpa using e) c;grind
theorem Il {tb:Tb} {aJ:List Nat} {a:List Oper} {rows:List (List Nat)} {i:Nat} {d:List Nat} {r:List (Nat×List Nat)} {done:List Nat} {last:Option Nat}
  (h:dN tb aJ a rows ((i,d)::r) done last=true):∃o,a[i]? =some o/\(∀k∈waits o,k∈done)/\cZ a rows i o=true/\i∉done/\(∀e,last=some e->e∈kO rows i)/\
   (((isVal tb o=true\/lG aJ o=true)/\gE rows i o a 0=false/\dN tb aJ a rows r (i::done) last=true)\/
    ((isVal tb o=true\/lG aJ o=true)/\gE rows i o a 0=true/\dN tb aJ a rows r (i::done) (some i)=true)\/
    (isVal tb o=false/\lG aJ o=false/\dN.watched tb a rows d i done=true/\dN tb aJ a rows r (i::done) (some i)=true)):=by
 simp only [dN] at h;split at h
 ·rename_i o c;rw [mr] at c;obtain ⟨g,h⟩:=eO h;obtain ⟨f,j⟩:=eO g;cases b:has done i with
  | true=>simp [b] at h
  | false=>
   simp only [b,cond_false] at h;obtain ⟨l,h⟩:=eO h;refine ⟨o,c,CN f,j,xd b,λe m=> ?_,?_⟩
   ·subst m;exact (qq _ _).1 l
   grind
 ·cases h
theorem Gn {tb:Tb} {g:List Oper} {rows:List (List Nat)} {b:List Nat} {e:Nat}:∀ {l:List Nat},dN.watched tb g rows b e l=true->∀i∈l,∀o,g[i]? =some o->isVal tb o=true->qj tb o=true->
  i∈b\/i∈kO rows e
 | [],_,i,hi,_,_,_,_=>by cases hi
 | r::l,h,i,hi,o,d,hv,f=>by
  simp only [dN.watched] at h;obtain ⟨a,h⟩:=eO h;rcases List.mem_cons.1 hi with rfl | hi
  ·rw [mr,d] at a;simp only [hv,f,cond_true] at a;cases c:has b i with
   | true=>exact .inl ((qq _ _).1 c)
   | false=>rw [c] at a;exact .inr ((qq _ _).1 a)
  ·exact Gn h i hi o d hv f
theorem GS {tb:Tb} {aJ:List Nat} {L:List Oper}:∀ {r:List (Nat×List Nat)} {done:List Nat} {e:Nat},dN tb aJ L (bh L []) r done (some e)=true->
  ∀j∈r.map (·.1),kQ L j e
 | [],_,_,_,j,hj=>by cases hj
 | (i,ws)::r,done,e,h,j,hj=>by
  obtain ⟨o,u,_,_,_,n,t⟩:=Il h;have d:=wP (n e rfl);rcases List.mem_cons.1 hj with rfl | hj
  ·exact d
  ·have step:∀a,(a=e\/a=i)->dN tb aJ L (bh L []) r (i::done) (some a)=true->kQ L j e:=by
    intro a l f;have c:=GS f j hj;rcases l with rfl | rfl
    ·exact c
    ·intro X b q;have g:X a:=c X b q;exact d X b λs p k m=>b a s p g k m
   grind
def vE (tb:Tb) (o:Oper) (ch:aP) (s:St) (l:LV):Prop:=
 cf tb o ch s=.mem->∀t x,o.op=.load t x->∃(e:Ty) (y:e.sh.T),tb.ty t=some e/\l=.v (e.sh.enc y)
theorem UR {P:Program} {tb:Tb} (ok:tb.Ok P) {o:Oper} {ch:aP} {s:St} {h:Hp} {K:LV->Prop} (hv:um P tb o ch s h K):
  ∃l,K l/\(holds s ch->nW (cf tb o ch s) P o s h l)/\lH o ch s l/\vE tb o ch s l:=by
 by_cases k:∃t x a,o.op=.load t x/\ev s ch x=some (.v (.pointer (some a)))
 ·obtain ⟨t,x,a,b,g⟩:=k;unfold um at hv;simp only [b,g] at hv;split at hv
  ·rename_i e r;obtain ⟨y,f,c⟩:=hv;refine ⟨.v (e.sh.enc y),c,λi=> ?_,uQ _ _ _ _,λ_ A B z=> ?_⟩
   ·intro C D w p m hb;have d:cf tb o ch s=.mem:=by simp [cf,b,g]
    have u:=bn (p x (by simp [b,Op.operands])) i g;have q:=K9 ok r (λj v n=>uN (m d) (nv f i j v n));refine ⟨w,?_,λ_=>rfl,λe=>.refl (m e)⟩;simp only [execOp,b,u,LVal,Instr.loadAt,Instr.sureAddr,Sem.run_bind,Sem.run_pure,Result.andThen_ok,q]
   grind
  ·exact hv.elim
 ·obtain ⟨l,c,f,hp⟩:=GM ok hv;refine ⟨l,c,f,hp,λd t x b=> ?_⟩;refine absurd ?_ k;unfold um at hv;simp only [b] at hv;simp only [cf,b] at d;grind
def mO (C:Ctx) (L:List Oper) (o:Oper) (s:St) (h:Hp):Prop:=
 ∃ch,ot L L.length o=some ch/\rL s ch=true/\
  ((isVal C.tb o=true/\(qj C.tb o=true\/cf C.tb o ch s=.pure)/\∃l,(∀d,o.dst=some d->s.f d=some (l,ch))/\(holds s ch->nW (cf C.tb o ch s) C.P o s h l)/\lH o ch s l/\vE C.tb o ch s l)\/
   (ch=[]/\isVal C.tb o=false/\∃d a,cl C.aJ o d/\s.f d=some (.box d 0,[])/\s.m d=some a/\
      ∀(c:Nat->Nat) (b:Operand->Value) (w:World),(∀x∈o.op.operands,dY c s b x)->
       ∃t,(execOp b o).run C.P w=.ok (.value (.pointer (some ⟨w.heap.size,0,none⟩))) {w with heap:=w.heap.push (.cells a.toArray t (0,0))}))
section
variable {C:Ctx} {L:List Oper} {o:Oper} {s s':St} {h n:Hp} {D:Nat->Prop}
structure ja (D:Nat->Prop) (o:Oper) (s s':St):Prop where
 dn:∀t,D t->s'.f t=s.f t
 op:∀t,Operand.tmp t∈o.op.operands->s'.f t=s.f t
 ch:∀t l c,s.f t=some (l,c)->∀p∈c,D p.1
theorem ja.lI (k:ja D o s s') {c:aP} (a:∀p∈c,D p.1):holds s' c↔holds s c:=VZ λp hp=>k.dn _ (a p hp)
theorem ja.DA (k:ja D o s s') {b:Nat->Nat} {d:Operand->Value} {x:Operand} (j:x∈o.op.operands) (a:dY b s' d x):dY b s d x:=by
 cases x with
 | tmp t=>exact λl c e i=>a l c (by rw [k.op t j];exact e) ((k.lI (k.ch t l c e)).2 i)
 | const v=>exact a
 | global g=>exact a
 | func f=>exact a
theorem ja.Cq (k:ja D o s s') {ch:aP} {x:Operand} (a:x∈o.op.operands):ev s' ch x=ev s ch x:=by
 cases x with
 | tmp t=>simp only [ev,k.op t a]
 | const v=>rfl
 | global g=>rfl
 | func f=>rfl
theorem GU {s s':St} {ch:aP}:∀ {l:List Operand},(∀x∈l,ev s' ch x=ev s ch x)->dO s' ch l=dO s ch l
 | [],_=>rfl
 | x::l,h=>by simp only [dO];rw [h x (List.mem_cons_self ..),GU λy a=>h y (List.mem_cons_of_mem _ a)]
theorem ja.kind (k:ja D o s s') {tb:Tb} {ch:aP}:cf tb o ch s'=cf tb o ch s:=by
 unfold cf;cases d:o.op with
 | load t x=>simp only [k.Cq (ch:=ch) (x:=x) (by simp [d,Op.operands])]
 | binOp op t x y u=>simp only [k.Cq (ch:=ch) (x:=x) (by simp [d,Op.operands]),k.Cq (ch:=ch) (x:=y) (by simp [d,Op.operands])]
 | convert a b x=>simp only [k.Cq (ch:=ch) (x:=x) (by simp [d,Op.operands])]
 | call c=>
  obtain ⟨callee,e,g⟩:=c;cases callee with
  | builtin b=>
   cases b with
   | len=>have:dO s' ch e.toList=dO s ch e.toList:=GU λx f=>k.Cq (by simp [d,Op.operands,Call.operands];simpa using f);simp only [this]
   | _=>rfl
  | _=>rfl
 | _=>rfl
theorem ja.zn (k:ja D o s s') {ch:aP} {l:LV} (hp:lH o ch s l):lH o ch s' l:=λb off e=>by obtain ⟨x,a,c,h⟩:=hp b off e;exact ⟨x,a,c,by rw [k.Cq a];exact h⟩
theorem K5 (k:ja D o s s'):∀ {ch:aP},(∀p∈ch,D p.1)->rL s' ch=rL s ch
 | [],_=>rfl
 | (d,b)::c,a=>by simp only [rL,k.dn d (a (d,b) (List.mem_cons_self ..)),K5 k λp hp=>a p (List.mem_cons_of_mem _ hp)]
theorem UT (k:ja D o s s') {e:Nat->Nat} {w:World} (j:∀t,Operand.tmp t∈o.op.operands->∀b off c,(s.f t=some (.box b off,c)\/s.f t=some (.dv b off,c))->holds s c->s'.m b=s.m b)
  (hb:oK e s' o w):oK e s o w:=by
 intro t d b off c hf a g i;refine hb t d b off c (by rw [k.op t d];exact hf) ?_ g (by grind);rcases hf with hf | hf
 ·exact (k.lI (k.ch t _ c hf)).2 a
 ·exact (k.lI (k.ch t _ c hf)).2 a
theorem Jb (k:ja D o s s') {a:Kd} {P:Program} {l:LV} (i:a≠ .pure->∀t,Operand.tmp t∈o.op.operands->∀b off c,(s.f t=some (.box b off,c)\/s.f t=some (.dv b off,c))->holds s c->s'.m b=s.m b)
  (g:a=.mem->n=h) (p:nW a P o s h l):nW a P o s' n l:=by
 intro r u w j q hb;obtain ⟨A,v,y,z⟩:=p r u w (λx d=>k.DA d (j x d)) (λe=>by rw [<-g e];exact q e) (λe=>UT k (i e) (hb e));grind
theorem Aa (k:ja D o s s') {P:Program} {c:List Value}
  (f : ∀ (b : Nat -> Nat) (a : Operand -> Value) (w : World), (∀ x ∈ o.op.operands, dY b s a x) ->
        ∃t,(execOp a o).run P w=.ok (.value (.pointer (some ⟨w.heap.size,0,none⟩))) {w with heap:=w.heap.push (.cells c.toArray t (0,0))}):
  ∀ (b : Nat -> Nat) (a : Operand -> Value) (w : World), (∀ x ∈ o.op.operands, dY b s' a x) ->
        ∃t,(execOp a o).run P w=.ok (.value (.pointer (some ⟨w.heap.size,0,none⟩))) {w with heap:=w.heap.push (.cells c.toArray t (0,0))}:=
 λb a w e=>f b a w λx d=>k.DA d (e x d)
theorem wS {s:St} {ch:aP} {t:Nat} {l a:LV} {c:aP} (h:ev s ch (.tmp t)=some l) (b:s.f t=some (a,c)):l=a:=by simp only [ev,b] at h;grind
theorem Sw {tb:Tb} (Z:C.tb=tb) (ok:tb.Ok C.P) {K:Nat->Bool} {ch:aP} {l:LV} {d:Nat} (g:nN C K o ch s' n) (M:o.dst=some d) (G:∃c,s'.f d=some (l,c)) (B:holds s' ch)
  (A:vE tb o ch s' l):cf tb o ch s'=.pure\/(cf tb o ch s'=.box/\∀t b off c,Operand.tmp t∈o.op.operands->(s'.f t=some (.box b off,c)\/s'.f t=some (.dv b off,c))->K b=false)\/(cf tb o ch s'=.mem/\nW .mem C.P o s' n l):=by
 subst Z;obtain ⟨c,G⟩:=G;unfold nN at g;split at g
 ·rename_i t x T q z;rw [M] at z;cases z;rw [G] at g;split at g
  ·rename_i v R e;cases e;split at g
   ·rename_i a r;right;right;have hkd:cf C.tb o ch s'=.mem:=by simp [cf,q,r]
    obtain ⟨e,y,b3,p⟩:=A hkd t x q;cases p;refine ⟨hkd,λβ ρ w E A hb=> ?_⟩;have b5:=bn (E x (by simp [q,Op.operands])) B r;have I:=K9 ok b3 (λj v hj=>uN (A rfl) (nv g B j v hj));refine ⟨w,?_,λe=>absurd rfl e,λ_=>.refl (A rfl)⟩;simp only [execOp,q,b5,LVal,Instr.loadAt,Instr.sureAddr,Sem.run_bind,Sem.run_pure,Result.andThen_ok,I]
   ·rename_i k off r;cases H:K k with
    | true=>rw [H] at g;exact g.elim
    | false=>
     refine .inr (.inl ⟨by simp [cf,q,r],λt1 b b7 Y O hf1=> ?_⟩);have Q:x=.tmp t1:=by simpa [q,Op.operands,eq_comm] using O
     rw [Q] at r;rcases hf1 with hf1 | hf1
     ·have:=wS r hf1;cases this;exact H
     ·have:=wS r hf1;cases this
   ·rename_i k off r;cases H:K k with
    | true=>rw [H] at g;exact g.elim
    | false=>
     refine .inr (.inl ⟨by simp [cf,q,r],λt1 b b7 Y O hf1=> ?_⟩);have Q:x=.tmp t1:=by simpa [q,Op.operands,eq_comm] using O
     rw [Q] at r;rcases hf1 with hf1 | hf1
     ·have:=wS r hf1;cases this
     ·have:=wS r hf1;cases this;exact H
   ·exact g.elim
  ·exact g.elim
 ·rename_i t x i S T q z;rw [M] at z;cases z;rw [G] at g;split at g
  ·rename_i v R e;cases e;obtain ⟨a,b1,a8⟩:=jC g;obtain ⟨b,b2,a9⟩:=jC a8;have p:=nv a9 B;right;right;have b6:∀w,Sub n w->∃F,(Instr.lookup t a b S).run C.P w=.ok v F/\Step n n w F:=by
    intro w J;unfold Ho at p;split at p
    ·rename_i m e U;split at p
     ·rename_i k u W;split at p
      ·rename_i ke ue V X;cases hkd:qy ke.bE with
       | true=>
        simp only [hkd,cond_true] at p;cases S with
        | true=>
         simp only [cond_true] at p;split at p
         ·rename_i x1 y1;exact ⟨w,by rw [Lk ok U W V X hkd J p];rfl,.refl J⟩
         ·exact p.elim
        | false=>simp only [cond_false] at p;obtain ⟨y1,p⟩:=p;exact ⟨w,by rw [Lk ok U W V X hkd J p];rfl,.refl J⟩
       | false=>simp only [hkd,cond_false] at p;exact Ar p J
      ·exact p.elim
     ·exact p.elim
    ·exact p.elim
   refine ⟨by simp [cf,q],λβ ρ w E A hb=> ?_⟩;have r:=bn (E x (by simp [q,Op.operands])) B b1;have hi:=bn (E i (by simp [q,Op.operands])) B b2;obtain ⟨F,I,N⟩:=b6 w (A rfl);refine ⟨F,?_,λe=>absurd rfl e,λ_=>N⟩;simp only [execOp,q,r,hi,LVal,Sem.run_bind,I,Result.andThen_ok,Sem.run_pure]
  ·exact g.elim
 ·rename_i xs ts T q z;rw [M] at z;cases z;rw [G] at g;split at g
  ·rename_i v R e;cases e;split at g
   ·rename_i x b4;have hkd:cf C.tb o ch s'=.pure\/cf C.tb o ch s'=.mem:=by unfold cf;grind
    rcases hkd with hkd | hkd
    ·exact .inl hkd
    right;right;refine ⟨hkd,λβ ρ w E A hb=> ?_⟩;have b0:xs.map ρ= #[x]:=by have:=xB (β:=β) (ρ:=ρ) B b4 λx r=>E x (by simp [q,Op.operands,Call.operands];simpa using r);grind
    obtain ⟨F,I,N⟩:=Ar (nv g B) (A rfl);refine ⟨F,?_,λe=>absurd rfl e,λ_=>N⟩;simp only [execOp,q,resolve,invoke,builtin,Sem.run_bind,Sem.run_pure,Result.andThen_ok,b0,I,LVal]
   ·exact g.elim
  ·exact g.elim
 ·exact g.elim
end
theorem UU (e:Edge):CS e=Region.binds .any e:=by unfold Region.binds CS;grind
theorem UW {o:Oper} {k:Nat} (h:k∈waits o):∃e∈o.after,e.on=k/\Region.binds .any e=true:=by
 have key:∀l:List Edge,k∈waits.go l->∃e∈l,e.on=k/\Region.binds .any e=true:=by
  intro l
  induction l with
  | nil=>intro h;cases h
  | cons x l d=>
   intro h;simp only [waits.go] at h;cases c:CS x with
   | false=>simp only [c,cond_false] at h;obtain ⟨e,a,b⟩:=d h;exact ⟨e,List.mem_cons_of_mem _ a,b⟩
   | true=>
    simp only [c,cond_true] at h;rcases List.mem_cons.1 h with e | h
    ·exact ⟨x,List.mem_cons_self ..,e.symm,by rw [<-UU,c]⟩
    ·obtain ⟨e,a,b⟩:=d h;exact ⟨e,List.mem_cons_of_mem _ a,b⟩
 obtain ⟨e,a,b⟩:=key _ h;grind
theorem rO {t:Nat}:∀ {L:List Oper} {i j:Nat} {o p:Oper},(bH L).Nodup->L[i]? =some o->L[j]? =some p->o.dst=some t->p.dst=some t->i=j
 | [],_,_,_,_,_,e,_,_,_=>by simp at e
 | x::L,0,0,_,_,_,_,_,_,_=>rfl
 | x::L,0,j+1,o,p,b,e,a,h,c=>by simp at e a;subst e;simp only [bH,h] at b;exact absurd (vq (List.mem_of_getElem? a) c) (List.nodup_cons.1 b).1
 | x::L,i+1,0,o,p,b,e,a,h,c=>by simp at e a;subst a;simp only [bH,c] at b;exact absurd (vq (List.mem_of_getElem? e) h) (List.nodup_cons.1 b).1
 | x::L,i+1,j+1,o,p,b,e,a,h,c=>by
  have g:(bH L).Nodup:=by simp only [bH] at b;grind
  have d:L[i]? =some o:=by simpa using e
  have f:L[j]? =some p:=by simpa using a
  have:=rO g d f h c;omega
def tg (L:List Oper):List Nat->Prop
 | []=>True
 | i::d=>(∀o,L[i]? =some o->∀k∈waits o,k∈d)/\tg L d
theorem Lm {L:List Oper} {a:List Nat}:∀ {d:List Nat},tg L d->(∃i∈d,i∉a)->∃i∈d,i∉a/\∀o,L[i]? =some o->∀k∈waits o,k∈a
 | [],_,⟨i,g,_⟩=>by cases g
 | i::d,c,n=>by
  by_cases b:∃j∈d,j∉a
  ·obtain ⟨j,p,q⟩:=Lm c.2 b;grind
  ·have f:∀j∈d,j∈a:=λj hj=>Classical.byContradiction λe=>b ⟨j,hj,e⟩;obtain ⟨j,hj,l⟩:=n;rcases List.mem_cons.1 hj with rfl | hj
   ·exact ⟨j,List.mem_cons_self ..,l,λo m k h=>f k (c.1 o m k h)⟩
   grind
def kA (L:List Oper) (done ls:List Nat) (t:Nat):Prop:=∀i o,i∈done->i∉ls->L[i]? =some o->o.dst≠some t
def qw (L:List Oper) (done:List Nat) (t:Nat):Prop:=∃i o,i∈done/\L[i]? =some o/\o.dst=some t
def py (C:Ctx) (L:List Oper) (done:List Nat) (k:Nat):Prop:=∃i o,i∉done/\L[i]? =some o/\cl C.aJ o k
def gJ (C:Ctx) (L:List Oper) (done ls:List Nat) (k:Nat):Prop:=(∀i o,i∈done->i∉ls->L[i]? =some o->¬cl C.aJ o k)/\¬py C L done k
structure mP (C:Ctx) (L:List Oper) (mok:List Nat) (n:Nat) (lv0:Nat->Prop) (β0:Nat->Nat) (a0:Act) (h0:Hp) (w0:World) (done ls:List Nat) (listed:Array Bool) (β:Nat->Nat) (s:St) (a:Act) (h:Hp) (w:World):Prop where
 xW:listed.size=L.length
 xV:∀i,listed.getD i false=true↔i∈ls
 zb:ls.Nodup
 iP:∀i∈ls,i∈done
 qx:∀i∈done,i<L.length
 pH:sX L (· ∈ls)
 kg:sX L (· ∈done)
 qS:tg L done
 rr:RR n (kA L done ls) (gJ C L done ls) (qw L done) (py C L done) β s a h w
 facts:∀i o,i∈done->i∉ls->L[i]? =some o->mO C L o s h/\cZ L (bh L []) i o=true/\gE (bh L []) i o L 0=false/\∀d,cl C.aJ o d->d∈mok
 ub:gr (bH L) mok lv0 β0 a0 h0 w0 (live s (gJ C L done ls)) β a h w
section
variable {C:Ctx} {L:List Oper} {mok:List Nat} {n:Nat} {lv0:Nat->Prop} {β0:Nat->Nat} {a0:Act} {h0:Hp} {w0:World} {done c:List Nat} {f:Array Bool} {β:Nat->Nat} {s:St} {a:Act} {h:Hp} {w:World}
theorem wA {i:Nat} {o p:Oper} (h:L[i]? =some o) (b:L[i]? =some p):p=o:=by grind
theorem Aw (m:(bH L).Nodup) {i:Nat} {o:Oper} (l:L[i]? =some o) (q:i∈done) (t:Nat):kA L done (i::c) t↔(o.dst=some t\/kA L done c t):=by
 constructor
 ·intro hc;by_cases k:o.dst=some t
  ·exact .inl k
  ·refine .inr λj p d g b=> ?_;by_cases r:j=i
   ·grind
   ·exact hc j p d (λe=>by grind) b
 ·rintro (k | hc) j p d g b
  ·intro e;exact g (by rw [rO m b l e k];simp)
  ·exact hc j p d (λe=>g (List.mem_cons_of_mem _ e)) b
theorem Ax (r:(bH L).Nodup) {i:Nat} {o:Oper} (q:L[i]? =some o) (u:i∈done) (k:Nat):gJ C L done (i::c) k↔(cl C.aJ o k\/gJ C L done c k):=by
 constructor
 ·rintro ⟨m,l⟩;by_cases hp:cl C.aJ o k
  ·exact .inl hp
  ·refine .inr ⟨λj p g b d=> ?_,l⟩;grind
 ·rintro (hp | ⟨m,l⟩)
  ·refine ⟨λj p g b d t=>b (by rw [rO r d q t.2 hp.2];simp),?_⟩;rintro ⟨j,p,g,b,d⟩;exact g (by rw [rO r b q d.2 hp.2];exact u)
  ·exact ⟨λj p g b d=>m j p g (λe=>b (List.mem_cons_of_mem _ e)) d,l⟩
theorem GV {i j:Nat} (g:f.size=L.length) (d:i<L.length) (e:∀i,f.getD i false=true↔i∈c):(f.setIfInBounds i true).getD j false=true↔j∈i::c:=by
 by_cases b:j=i
 ·subst b;simp [g,d]
 ·have:=e j;simp [Array.getElem?_setIfInBounds_ne (Ne.symm b),b] at this ⊢;exact this
theorem BB (e:mP C L mok n lv0 β0 a0 h0 w0 done c f β s a h w) {i:Nat} {o:Oper} (u:L[i]? =some o) (x:∀k∈waits o,k∈done) (t:cZ L (bh L []) i o=true) {ch:aP}
  (q:ot L L.length o=some ch) (r:rL s ch=true):∀p∈ch,qw L done p.1:=
 JE e.rr q r λj b p d g l m=>⟨j,p,wP (V4 t g) (· ∈done) e.kg (λy v=>by grind),by rw [<-mr];exact l,m⟩
theorem Ay (ok:C.tb.Ok C.P) {ops:Array Oper} (c0:ops.toList=L) (A:(bH L).Nodup)
  (g:mP C L mok n lv0 β0 a0 h0 w0 done c f β s a h w) {i:Nat} {o:Oper} (r:L[i]? =some o) (q:i∈done) (G:i∉c) (hw:∀k∈waits o,k∈c)
  (next:Act->World->Prop) (Q:Exit->Act->World->Prop)
  (hk:∀D u m,mP C L mok n lv0 β0 a0 h0 w0 done (i::c) (f.setIfInBounds i true) D s u h m->next u m):wpOp C.P ops Q i next a w:=by
 obtain ⟨⟨ch,b3,hg,c1⟩,b7,c8,b8⟩:=g.facts i o q G r;have b2:∀j∈kO (bh L []) i,j∈c:=λj hj=>wP hj (· ∈c) g.pH (λo' c7=>by grind);have K:∀t,Operand.tmp t∈o.op.operands->kA L done c t:=λt ht j p B z E J=>by have:=uD J (g.facts j p B z E).2.2.1 i o r ht;grind
 have c5:∀j b p d,o.guard=some (j,b)->nth L j=some p->p.dst=some d->kA L done c d:=λj b p d e1 T e3 j' p' B z E J=>by rw [mr] at T;have:=rO A E T J e3;subst this;exact z (b2 _ (V4 b7 e1))
 have a8:∀x∈o.op.operands,dY β s a.eval x:=λx hx=>Bz g.rr λt e=>K t (e▸hx);have S:=GP (ops:=ops) g.rr (by rw [c0];exact b3) hg (by grind);have b9:ops[i]? =some o:=by grind
 have b5:i<L.length:=g.qx i q;have Y:∀d,o.dst=some d->¬kA L done c d:=λd e hc=>hc i o q G r e;have U:∀D u m,RR n (kA L done (i::c)) (gJ C L done (i::c)) (qw L done) (py C L done) D s u h m->gr (bH L) mok (live s (gJ C L done c)) β a h w (live s (gJ C L done (i::c))) D u h m->next u m:=by
  intro D u m H c3;refine hk D u m ⟨by simpa using g.xW,λj=>GV g.xW b5 g.xV,List.nodup_cons.2 ⟨G,g.zb⟩,λj hj=> ?_,g.qx,?_,g.kg,g.qS,H,λj p B z E=>g.facts j p B (λe=>z (List.mem_cons_of_mem _ e)) E,g.ub.trans c3⟩
  ·rcases List.mem_cons.1 hj with rfl | hj
   ·exact q
   ·exact g.iP j hj
  ·intro j p hj hjm k b6;rcases List.mem_cons.1 hjm with rfl | hjm
   ·grind
   ·exact List.mem_cons_of_mem _ (g.pH j p hj hjm k b6)
 have V:∀d,o.dst=some d->d∈bH L:=λd e=>vq (List.mem_of_getElem? r) e;unfold wpOp;simp only [b9];rcases c1 with ⟨a9,_,l,hl,O,c2,_⟩ | ⟨rfl,a9,d,cs,hp,b4,X,O⟩
 ·have c6:∀k,¬cl C.aJ o k:=A7 (K3 a9);have N:∀k,gJ C L done (i::c) k↔gJ C L done c k:=λk=>by rw [Ax A r q k];grind
  have b1:∀(v:Value) (m:World),Step h h w m->(holds s ch->v=LVal β l)->(¬holds s ch->v=undef)->next (a.put o.dst v) m:=by
   intro v m I B z;refine U β _ m ?_ (((gr.step I).trans (gr.put (lv:=live s (gJ C L done c)) V)).mono (λ_ e=>e) (λ_ e=>e) (λ_ e=>e) (λk e=>⟨e.1,(N k).1 e.2⟩));have H:=g.rr.step I;cases F:o.dst with
   | none=>exact H.congr (λt=>by rw [Aw A r q t];simp [F]) N (λ_ e=>e) (λ_ e=>e)
   | some d=>have:=H.exec (v:=v) (hl d F) (Y d F) (λy=>⟨B y,λk off e=>(JF g.rr c2 y K k off e).1⟩) z;refine this.congr (λt=> ?_) N (λ_ e=>e) (λ_ e=>e);rw [Aw A r q t,F];grind
  by_cases y:holds s ch
  ·rw [if_pos (S.2 y)];left;obtain ⟨m,R,b0,I⟩:=O y β a.eval w a8 (λ_=>g.rr.sub) (λ_=>JC g.rr K);unfold Oper.wp;rw [R];have c4:Step h h w m:=by
    cases M:cf C.tb o ch s with
    | mem=>exact I M
    | pure=>rw [b0 (by rw [M];simp)];exact .refl g.rr.sub
    | box=>rw [b0 (by rw [M];simp)];exact .refl g.rr.sub
   exact b1 _ m c4 (λ_=>rfl) (λe=>absurd y e)
  ·rw [if_neg (λe=>y (S.1 e))];exact b1 _ w (.refl g.rr.sub) (λe=>absurd e y) (λ_=>rfl)
 ·rw [if_pos (S.2 (bp s))];left;obtain ⟨t,R⟩:=O β a.eval w a8;unfold Oper.wp;rw [R];show next (a.put o.dst _) _
  have Z:¬gJ C L done c d:=λe=>e.1 i o q G r hp;rw [hp.2];have W:∀k,cl C.aJ o k↔k=d:=λk=>⟨λe=>by have:=e.2;rw [hp.2] at this;cases this;rfl,λe=>e▸hp⟩;refine U _ _ _ ((g.rr.xP t b4 X (Y d hp.2) Z).congr (λt=> ?_) (λk=> ?_) (λ_ e=>e) (λ_ e=>e)) ((DH (a:=a) (β:=β) t g.rr.sub X Z (V d hp.2) (b8 d hp)).mono (λ_ e=>e) (λ_ e=>e) (λ_ e=>e) (λk e=>⟨e.1,?_⟩))
  ·rw [Aw A r q t,hp.2];grind
  ·rw [Ax A r q k,W]
  ·have:=e.2;rw [Ax A r q k,W] at this;exact this
end
section
variable {C:Ctx} {L:List Oper} {mok:List Nat} {n:Nat} {lv0:Nat->Prop} {β0:Nat->Nat} {a0:Act} {h0:Hp} {w0:World} {done g:List Nat} {r:Array Bool} {β:Nat->Nat} {s:St} {a:Act} {h:Hp} {w:World}
theorem TN {D:Nat->Prop} {o:Oper} {s':St} (k:ja D o s s') (i:∀ch,ot L L.length o=some ch->rL s ch=true->∀p∈ch,D p.1) (v:∀d,o.dst=some d->D d)
  (G:∀t,Operand.tmp t∈o.op.operands->∀b off c,(s.f t=some (.box b off,c)\/s.f t=some (.dv b off,c))->holds s c->s'.m b=s.m b) (M:∀d,cl C.aJ o d->s'.m d=s.m d)
  (hp:mO C L o s h):mO C L o s' h:=by
 obtain ⟨ch,u,x,H⟩:=hp;have i:=i ch u x;refine ⟨ch,u,by rw [K5 k i];exact x,?_⟩;rcases H with ⟨q,J,l,F,j,I,K⟩ | ⟨rfl,q,d,z,y,A,N,j⟩
 ·refine .inl ⟨q,by rw [k.kind];exact J,l,λd e=>by rw [k.dn d (v d e)];exact F d e,λB=> ?_,k.zn I,λE=>K (by rw [<-k.kind (s':=s')];exact E)⟩;rw [k.kind];exact Jb k (λ_=>G) (λ_=>rfl) (j ((k.lI i).1 B))
 ·exact .inr ⟨rfl,q,d,z,y,by rw [k.dn d (v d y.2)];exact A,by grind,Aa k j⟩
theorem IG (x:(bH L).Nodup) (A:mP C L mok n lv0 β0 a0 h0 w0 done g r β s a h w) {i:Nat} {o:Oper} (v:L[i]? =some o) (F:i∉done) {k:St} (d:∀t,o.dst≠some t->k.f t=s.f t)
  {j:Nat} {p:Oper} (D:L[j]? =some p) (E:j∈done) (y:∀t,Operand.tmp t∈p.op.operands->o.dst=some t->False):ja (qw L done) p s k:=by
 refine ⟨λt b=>d t λe=> ?_,λt b=>d t λe=>y t b e,λt l c e q z=>A.rr.chain t l c e q z⟩;obtain ⟨G,H,B,m,u⟩:=b;have:=rO x m v u e;grind
theorem xO (b:mP C L mok n lv0 β0 a0 h0 w0 done g r β s a h w) {j:Nat} {p:Oper} (f:L[j]? =some p) (c:j∈done) {i:Nat} (h:i∈kO (bh L []) j):i∈done:=
 wP h (· ∈done) b.kg λe d=>b.kg j e d c
theorem GW (D:(bH L).Nodup) (q:mP C L mok n lv0 β0 a0 h0 w0 done g r β s a h w) {i:Nat} {o:Oper} (x:L[i]? =some o) (hid:i∉done) (N:gE (bh L []) i o L 0=false)
  {v:St} (I:∀t,o.dst≠some t->v.f t=s.f t) (B:∀k,v.m k=s.m k\/cl C.aJ o k) {j:Nat} {p:Oper} (u:j∈done) (K:j∉g) (l:L[j]? =some p):
  mO C L p v h/\cZ L (bh L []) j p=true/\gE (bh L []) j p L 0=false/\∀d,cl C.aJ p d->d∈mok:=by
 obtain ⟨F,y,G⟩:=q.facts j p u K l;refine ⟨?_,y,G⟩;have k:ja (qw L done) p s v:=IG D q x hid I l u λt E e=>by have:=uD e N j p l E;rw [Nat.zero_add] at this;exact hid (xO q l u this)
 refine TN k (λch H J=>BB q l (q.kg j p l u) y H J) (λd e=>⟨j,p,u,l,e⟩) (λt E b off c hfb A=> ?_) (λd hp=> ?_) F
 ·refine (B b).resolve_right λhp=> ?_;have z:py C L done b:=⟨i,o,hid,x,hp⟩;rcases hfb with hfb | hfb
  ·exact (q.rr.jz b z t _ c hfb A off).1 rfl
  ·exact (q.rr.jz b z t _ c hfb A off).2 rfl
 ·refine (B d).resolve_right λM=> ?_;have:=rO D x l M.2 hp.2;grind
theorem HB (b:mP C L mok n lv0 β0 a0 h0 w0 done g r β s a h w) {i:Nat} {o:Oper} (q:L[i]? =some o) (hid:i∉done) (u:∀k∈waits o,k∈done) {c:St}
  (l:RR n (kA L (i::done) g) (gJ C L (i::done) g) (qw L (i::done)) (py C L (i::done)) β c a h w)
  (e:∀j p,j∈i::done->j∉g->L[j]? =some p->mO C L p c h/\cZ L (bh L []) j p=true/\gE (bh L []) j p L 0=false/\∀d,cl C.aJ p d->d∈mok)
  (m:gr (bH L) mok lv0 β0 a0 h0 w0 (live c (gJ C L (i::done) g)) β a h w):mP C L mok n lv0 β0 a0 h0 w0 (i::done) g r β c a h w:=by
 refine ⟨b.xW,b.xV,b.zb,λj hj=>List.mem_cons_of_mem _ (b.iP j hj),λj hj=> ?_,b.pH,?_,⟨λv t=>by grind,b.qS⟩,l,e,m⟩
 ·rcases List.mem_cons.1 hj with rfl | hj
  ·grind
  ·exact b.qx j hj
 ·intro j p hj hjm k f;rcases List.mem_cons.1 hjm with rfl | hjm
  ·grind
  ·exact List.mem_cons_of_mem _ (b.kg j p hj hjm k f)
theorem Az (q:mP C L mok n lv0 β0 a0 h0 w0 done g r β s a h w) {i:Nat} {o:Oper} (m:L[i]? =some o) (hid:i∉done) (t:Nat):kA L (i::done) g t↔(o.dst≠some t/\kA L done g t):=by
 constructor
 ·exact λd=>⟨d i o (List.mem_cons_self ..) (λe=>hid (q.iP i e)) m,λj p c b l=>d j p (List.mem_cons_of_mem _ c) b l⟩
 ·rintro ⟨c,b⟩ j p e1 f k;rcases List.mem_cons.1 e1 with rfl | e1
  ·grind
  ·exact b j p e1 f k
theorem yr (l:(bH L).Nodup) {i:Nat} {o:Oper} (f:L[i]? =some o) (hid:i∉done) (k:Nat):py C L (i::done) k↔(¬cl C.aJ o k/\py C L done k):=by
 constructor
 ·rintro ⟨j,p,d,b,c⟩;refine ⟨λe=> ?_,j,p,λe=>d (List.mem_cons_of_mem _ e),b,c⟩;exact d (by rw [rO l b f c.2 e.2];simp)
 ·rintro ⟨h0,j,p,d,b,c⟩;refine ⟨j,p,λe=> ?_,b,c⟩;grind
theorem Lw (q:(bH L).Nodup) (t:mP C L mok n lv0 β0 a0 h0 w0 done g r β s a h w) {i:Nat} {o:Oper} (d:L[i]? =some o) (hid:i∉done) (k:Nat):
  gJ C L (i::done) g k↔(¬cl C.aJ o k/\gJ C L done g k):=by
 constructor
 ·rintro ⟨b,c⟩;have hp:¬cl C.aJ o k:=b i o (List.mem_cons_self ..) (λe=>hid (t.iP i e)) d;exact ⟨hp,λj p f l m=>b j p (List.mem_cons_of_mem _ f) l m,λe=>c ((yr q d hid k).2 ⟨hp,e⟩)⟩
 ·rintro ⟨hp,b,c⟩;refine ⟨λj p f l m=> ?_,λe=>c ((yr q d hid k).1 e).2⟩;grind
theorem wB {i:Nat} (t:Nat) (h:qw L done t):qw L (i::done) t:=by obtain ⟨j,p,b,c,d⟩:=h;exact ⟨j,p,List.mem_cons_of_mem _ b,c,d⟩
theorem Wo (ok:C.tb.Ok C.P) (z:(bH L).Nodup) (c1:∀d∈bH L,d<n) (u:mP C L mok n lv0 β0 a0 h0 w0 done g r β s a h w) {i:Nat} {o:Oper} (y:L[i]? =some o) (hid:i∉done)
  (hw:∀k∈waits o,k∈done) (a9:cZ L (bh L []) i o=true) (M:gE (bh L []) i o L 0=false) (c7:isVal C.tb o=true\/lG C.aJ o=true) {K:St->Hp->Prop}
  (a8:B4 C L o s=true) (hv:zm C L mok o s h K):∃s',K s' h/\mP C L mok n lv0 β0 a0 h0 w0 (i::done) g r β s' a h w:=by
 unfold zm at hv;split at hv
 ·exact hv.elim
 rename_i ch W;cases O:rL s ch with
 | false=>simp [O] at hv
 | true=>
 simp only [O,cond_true] at hv;have U:∀p∈ch,qw L done p.1:=BB u y hw a9 W O;have b4:∀d,o.dst=some d->¬qw L done d:=λd e ⟨j,p,h1,F,A⟩=>hid (by rw [<-rO z F y A e];exact h1);have b5:∀d,o.dst=some d->d<n:=λd e=>c1 d (vq (List.mem_of_getElem? y) e);have b9:∀ {s':St},(∀t,o.dst≠some t->s'.f t=s.f t)->ja (qw L done) o s s':=λD=>by refine ⟨λt ⟨j,p,h1,F,A⟩=>D t λe=>hid (by grind),λt J=>D t λe=> ?_,λt l c e q hq=>u.rr.chain t l c e q hq⟩;have:=uD e M i o y J;rw [Nat.zero_add] at this;exact hid (wP this (· ∈done) u.kg λo' c8=>by grind)
 cases H:isVal C.tb o with
 | true=>
  simp only [H,cond_true] at hv;obtain ⟨l,I,b1,b8,c5⟩:=UR ok hv;have c2:∀k,¬cl C.aJ o k:=A7 (K3 H);have c4:qj C.tb o=true\/cf C.tb o ch s=.pure:=by unfold B4 at a8;grind
  have D:∀t,o.dst≠some t->(s.put o.dst l ch).f t=s.f t:=λt J=>tY s _ _ _ t J;have k:=b9 D;refine ⟨_,I,HB u y hid hw ?_ (λj p h1 F A=> ?_) ?_⟩
  ·have hb:holds s ch->∀k o',(l=.box k o'\/l=.dv k o')->¬py C L done k:=λQ b off e N=>by
    obtain ⟨x,hx,c0,hev⟩:=b8 b off e;rcases hev with hev | hev
    ·obtain ⟨t,c,rfl,Y,V⟩:=qU hev (by simp) Q;exact (u.rr.jz b N t _ c Y V c0).1 rfl
    ·obtain ⟨t,c,rfl,Y,V⟩:=qU hev (by simp) Q;exact (u.rr.jz b N t _ c Y V c0).2 rfl
   have b6:∀k,gJ C L (i::done) g k↔gJ C L done g k:=λk=>by rw [Lw z u y hid k];grind
   have b7:∀k,py C L (i::done) k->py C L done k:=λk e=>((yr z y hid k).1 e).2;cases B:o.dst with
   | none=>exact u.rr.congr (λt=>by rw [Az u y hid t,B];simp) b6 wB b7
   | some d=>refine (u.rr.lift (l:=l) (ch:=ch) (b5 d B) (b4 d B) U hb).congr (λt=> ?_) b6 wB b7;rw [Az u y hid t,B];grind
  ·rcases List.mem_cons.1 h1 with rfl | h1
   ·rw [wA y A];refine ⟨⟨ch,W,by rw [K5 k U];exact O,.inl ⟨H,by rw [k.kind];exact c4,l,λd e=>by rw [e];exact BR _ _ _ _,λQ=> ?_,k.zn b8,λa8=>c5 (by rw [<-k.kind (s':=s.put o.dst l ch)];exact a8)⟩⟩,a9,M,λd hp=>absurd hp (c2 d)⟩;rw [k.kind];exact Jb k (λ_ t _ b off c _ _=>by rw [lY]) (λ_=>rfl) (b1 ((k.lI U).1 Q))
   ·exact GW z u y hid M D (λk=>.inl (by rw [lY])) h1 F A
  ·refine u.ub.mono (λ_ e=>e) (λ_ e=>e) (λ_ e=>e) (λk e=>⟨?_,((Lw z u y hid k).1 e.2).2⟩);have:=e.1
   rwa [lY] at this
 | false=>
  simp only [H,cond_false] at hv;have b0:lG C.aJ o=true:=c7.resolve_left (by rw [H];simp);have b2:∀(d:Nat) (E:List Value),K ((s.put (some d) (.box d 0) []).fU d E) h->cl C.aJ o d->ch=[]->has mok d=true->
    (∀(β:Nat->Nat) (S:Operand->Value) (w:World),(∀x∈o.op.operands,dY β s S x)->
     ∃t,(execOp S o).run C.P w=.ok (.value (.pointer (some ⟨w.heap.size,0,none⟩))) {w with heap:=w.heap.push (.cells E.toArray t (0,0))})->
    ∃s',K s' h/\mP C L mok n lv0 β0 a0 h0 w0 (i::done) g r β s' a h w:=by
   intro d E I hp X G b1;subst X;have Z:∀k,cl C.aJ o k↔k=d:=λk=>⟨λe=>by have:=e.2;rw [hp.2] at this;cases this;rfl,λe=>e▸hp⟩;have D:∀t,o.dst≠some t->((s.put (some d) (.box d 0) []).fU d E).f t=s.f t:=λt J=>qV s _ _ λe=>J (by rw [hp.2,e]);have hm:∀k,k≠d->((s.put (some d) (.box d 0) []).fU d E).m k=s.m k:=λk I=>u4 _ _ I;have k:=b9 D;have N:py C L done d:=⟨i,o,hid,y,hp⟩;refine ⟨_,I,HB u y hid hw ?_ (λj p h1 F A=> ?_) ?_⟩
   ·refine (u.rr.xU E (b5 d hp.2) (b4 d hp.2) N).congr (λt=> ?_) (λk=> ?_) wB (λk e=> ?_)
    ·rw [Az u y hid t,hp.2];grind
    ·rw [Lw z u y hid k,Z]
    ·have:=(yr z y hid k).1 e;grind
   ·rcases List.mem_cons.1 h1 with rfl | h1
    ·rw [wA y A];refine ⟨⟨[],W,rfl,.inr ⟨rfl,H,d,E,hp,BR _ _ _ _,Lt _ _ _,Aa k b1⟩⟩,a9,M,λd' c3=> ?_⟩;rw [(Z d').1 c3];exact (qq _ _).1 G
    ·exact GW z u y hid M D (λk=>by
      grind) h1 F A
   ·refine u.ub.mono (λ_ e=>e) (λ_ e=>e) (λ_ e=>e) (λk e=> ?_);have hl:=(Lw z u y hid k).1 e.2;rw [Z] at hl;refine ⟨?_,hl.2⟩;have:=e.1;grind
  split at hv
  ·rename_i d B;have b3:o.dst=some d/\has C.aJ d=true:=by unfold pJ at B;grind
   cases G:has mok d with
   | false=>simp [G] at hv
   | true=>
    simp only [G,cond_true] at hv;split at hv
    ·rename_i t R;split at hv
     ·rename_i e X;refine b2 d (aY e.zero) hv ⟨b0,b3.1⟩ rfl G λβ S w _=>⟨t,?_⟩;have T:(aY e.zero).toArray=e.zero.cells:=by apply Array.ext';simp [nt]
      rw [T];simp [execOp,R,Instr.alloc,bX ok X,newVar,rK]
     ·exact hv.elim
    ·rename_i t x R;obtain ⟨v,hev,c6⟩:=jC hv;refine b2 d (aY v) c6 ⟨b0,b3.1⟩ rfl G λβ S w ho=>⟨t,?_⟩;have hx:=bn (ho x (by simp [R,Op.operands])) (bp s) hev;have T:(aY v).toArray=v.cells:=by apply Array.ext';simp [nt]
     rw [T];simp [execOp,R,hx,LVal,Instr.box,newVar,rK]
    ·exact hv.elim
  ·exact hv.elim
  ·rename_i B;exfalso;unfold pJ at B;unfold lG at b0;grind
end
theorem jo {b:Bool} {p:Prop} (h:cond b p False):b=true/\p:=by grind
theorem HC {C:Ctx} {m:Nat->Bool} {L:List Oper} {s:St} {h:Hp}:∀ {a:List Nat},BQ C m L s h a->∀ {j:Nat} {p:Oper} {ch:aP},j∈a->L[j]? =some p->ot L L.length p=some ch->nN C m p ch s h
 | [],_,_,_,_,hj,_,_=>by cases hj
 | r::a,d,j,p,ch,hj,hp,e=>by
  obtain ⟨b,c⟩:=d;rcases List.mem_cons.1 hj with rfl | hj
  ·rw [mr,hp] at b;grind
  ·exact HC c hj hp e
theorem UY {C:Ctx} {m:Nat->Bool} {p:Oper} {ch:aP} {s:St} {h:Hp} (a:nN C m p ch s h):∃d,p.dst=some d:=by
 cases b:p.dst with
 | some d=>simp
 | none=>unfold nN at a;grind
section
variable {C:Ctx} {L:List Oper} {mok:List Nat} {n:Nat} {lv0:Nat->Prop} {β0:Nat->Nat} {a0:Act} {h0:Hp} {w0:World} {done g:List Nat} {q:Array Bool} {β:Nat->Nat} {s:St} {a:Act} {h:Hp} {w:World}
theorem Wp (k:(bH L).Nodup) {i:Nat} {o:Oper} (f:L[i]? =some o) (hid:i∉done) (t:Nat):kA L (i::done) (i::g) t↔(o.dst=some t\/kA L done g t):=by
 constructor
 ·intro hc;by_cases d:o.dst=some t
  ·exact .inl d
  ·exact .inr λj p h1 c b=>hc j p (List.mem_cons_of_mem _ h1) (λe=>by
    grind) b
 ·rintro (d | hc) j p h1 c b
  ·intro e;exact c (by rw [rO k b f e d];simp)
  ·rcases List.mem_cons.1 h1 with e | h1
   ·grind
   ·exact hc j p h1 (λe=>c (List.mem_cons_of_mem _ e)) b
theorem IH (d:(bH L).Nodup) {i:Nat} {o:Oper} (c:L[i]? =some o) (hid:i∉done) (k:Nat):gJ C L (i::done) (i::g) k↔(cl C.aJ o k\/gJ C L done g k):=by
 constructor
 ·rintro ⟨r,m⟩;by_cases hp:cl C.aJ o k
  ·exact .inl hp
  ·exact .inr ⟨λj p f l b=>r j p (List.mem_cons_of_mem _ f) (λe=>by
    grind) b,λe=>m ((yr d c hid k).2 ⟨hp,e⟩)⟩
 ·rintro (hp | ⟨r,m⟩)
  ·exact ⟨λj p f l b t=>l (by rw [rO d b c t.2 hp.2];simp),λe=>((yr d c hid k).1 e).1 hp⟩
  ·refine ⟨λj p f l b=> ?_,λe=>m ((yr d c hid k).1 e).2⟩;grind
theorem TP (ok:C.tb.Ok C.P) (Y:(bH L).Nodup) (x:mP C L mok n lv0 β0 a0 h0 w0 done g q β s a h w) {i:Nat} {o:Oper} (B:L[i]? =some o) (hid:i∉done) (b1:∀j∈kO (bh L []) i,j∈g)
  {Q:List Nat} (hwatch:(isVal C.tb o=true\/lG C.aJ o=true)\/∀j p,j∈done->L[j]? =some p->isVal C.tb p=true->qj C.tb p=true->j∈Q\/j∈kO (bh L []) i)
  {l:List Nat} {c3:Nat->Nat} {s':St} {a':Act} {z:Hp} {w':World} (out:s6 C l mok n (kA L done g) (gJ C L done g) (qw L done) (py C L done) o β s a h w c3 s' a' z w')
  (b0:BQ C (tv o s) L s' z Q) {j:Nat} {p:Oper} (u:j∈done) (J:j∉g) (r:L[j]? =some p):
  mO C L p s' z/\cZ L (bh L []) j p=true/\gE (bh L []) j p L 0=false/\∀d,cl C.aJ p d->d∈mok:=by
 obtain ⟨⟨ch,G,U,b7⟩,M,c0⟩:=x.facts j p u J r;refine ⟨?_,M,c0⟩;have k:ja (qw L done) p s s':=IG Y x B hid out.f r u λt v e=>by
  rcases TL M v B e with h1 | h1 | h1
  ·exact hid (xO x r u h1)
  ·exact hid (h1▸u)
  grind
 have R:=BB x r (x.kg j p r u) M G U;have I:∀d,p.dst=some d->qw L done d:=λd e=>⟨j,p,u,r,e⟩;have X:∀t,Operand.tmp t∈p.op.operands->∀b off c,(s.f t=some (.box b off,c)\/s.f t=some (.dv b off,c))->holds s c->s'.m b=s.m b\/(tv o s b=true/\isVal C.tb o=false):=by
  intro t v b off c hfb A;rcases out.m b with e | e | e
  ·exact .inl e
  ·exfalso;have S:py C L done b:=⟨i,o,hid,B,e⟩;rcases hfb with hfb | hfb
   ·exact (x.rr.jz b S t _ c hfb A off).1 rfl
   ·exact (x.rr.jz b S t _ c hfb A off).2 rfl
  grind
 refine ⟨ch,G,by rw [K5 k R];exact U,?_⟩;rcases b7 with ⟨E,Z,lv,W,O,b8,c1⟩ | ⟨rfl,E,d,cs,D,b2,b5,O⟩
 ·have a8:vE C.tb p ch s' lv:=λb4=>c1 (by rw [<-k.kind (s':=s')];exact b4);refine .inl ⟨E,by rw [k.kind];exact Z,lv,λd e=>by rw [k.dn d (I d e)];exact W d e,λV=> ?_,k.zn b8,a8⟩;have A:=(k.lI R).1 V;have y:=O A;have K:cf C.tb p ch s'=cf C.tb p ch s:=k.kind;rw [K];by_cases N:cf C.tb p ch s=.pure
  ·rw [N] at y ⊢;exact Jb k (λe=>absurd rfl e) (λe=>by cases e) y
  ·have b9:=Z.resolve_right N;rcases hwatch with a9 | hwatch
   ·have b6:∀b,¬(tv o s b=true/\isVal C.tb o=false):=by
     rintro b ⟨e1,e2⟩;rcases a9 with e | e
     ·grind
     ·unfold tv at e1;unfold lG at e;grind
    have b3:z=h:=by
     rcases a9 with e | e
     ·exact out.hv e
     ·exact out.hp e
    exact Jb k (λ_ t v b off c hfb F=>(X t v b off c hfb F).resolve_right (b6 b)) (λ_=>b3) y
   ·have c2:j∈Q:=(hwatch j p u r E b9).resolve_right λe=>J (b1 j e);have T:=HC b0 c2 r G;obtain ⟨d,H⟩:=UY T;rcases Sw rfl ok T H ⟨ch,by rw [k.dn d (I d H)];exact W d H⟩ V a8 with h1 | ⟨h1,h2⟩ | ⟨h1,h2⟩
    ·rw [K] at h1;exact absurd h1 N
    ·rw [K] at h1;rw [h1] at y ⊢;exact Jb k (λ_ t v b off c hfb F=>(X t v b off c hfb F).resolve_right λe=>by rw [h2 t b off c v (by rw [k.op t v];exact hfb)] at e;cases e.1) (λe=>by cases e) y
    grind
 ·refine .inr ⟨rfl,E,d,cs,D,by rw [k.dn d (I d D.2)];exact b2,?_,Aa k O⟩;rcases out.m d with e | e | e
  ·rw [e];exact b5
  ·exact absurd u (by rw [rO Y r B D.2 e.2];exact hid)
  ·exact absurd D (e.2.2.2.1 j p u J r)
theorem Wq (ok:C.tb.Ok C.P) {T:Array Oper} (R:T.toList=L) (v:(bH L).Nodup) (Z:∀d∈bH L,d<n) (c:mP C L mok n lv0 β0 a0 h0 w0 done g q β s a h w) {i:Nat} {o:Oper} (f:L[i]? =some o) (hid:i∉done)
  (S:∀k∈waits o,k∈g) (Y:cZ L (bh L []) i o=true) {U:List Nat}
  (a9:(isVal C.tb o=true\/lG C.aJ o=true)\/∀j p,j∈done->L[j]? =some p->isVal C.tb p=true->qj C.tb p=true->j∈U\/j∈kO (bh L []) i)
  {K:St->Hp->Prop} (W:∀s1 m,K s1 m->BQ C (tv o s) L s1 m U) (hv:zm C L mok o s h K) (next:Act->World->Prop) (Q:Exit->Act->World->Prop)
  (hn:∀B z G y D,K B z->mP C L mok n lv0 β0 a0 h0 w0 (i::done) (i::g) (q.setIfInBounds i true) G B y z D->next y D):wpOp C.P T Q i next a w:=by
 have J:∀j∈kO (bh L []) i,j∈g:=λj hj=>wP hj (· ∈g) c.pH (λo' O=>by grind);have M:i<L.length:=(List.getElem?_eq_some_iff.1 f).1;have N:=List.mem_of_getElem? f;refine JG (l:=bH L) ok (by grind) (by rw [R];exact hv) c.rr (λt ht j p m r u F=> ?_) (λj b p d V E H=> ?_) (λd e=>⟨Z d (vq N e),?_,vq N e⟩) (λd hp=> ?_) next Q λB z G y D A out=> ?_
 ·have:=uD F (c.facts j p m r u).2.2.1 i o f ht;grind
 ·rw [R,mr] at E;have X:=J _ (V4 Y V);refine ⟨λj' p' m r u F=> ?_,j,p,c.iP j X,E,H⟩;have:=rO v u E F H;grind
 ·rintro ⟨j,p,m,r,u⟩;exact hid (by rw [<-rO v r f u e];exact m)
 ·have I:py C L done d:=⟨i,o,hid,f,hp⟩;exact ⟨I,λe=>e.2 I⟩
 ·refine hn B z G y D A ⟨by simpa using c.xW,λj=>GV c.xW M c.xV,List.nodup_cons.2 ⟨λe=>hid (c.iP i e),c.zb⟩,λj hj=> ?_,λj hj=> ?_,?_,?_,
   ⟨λo' O=>by rw [wA f O];exact λk A=>c.iP k (S k A),c.qS⟩,out.rr.congr (λt=>Wp v f hid t) (λk=>IH v f hid k) wB (λk e=>(yr v f hid k).1 e),λj p m r u=> ?_,
   c.ub.trans (out.ub.mono (λ_ e=>e) (λ_ e=>e) (λ_ e=>e) (λk e=>⟨e.1,(IH v f hid k).1 e.2⟩))⟩
  ·rcases List.mem_cons.1 hj with rfl | hj
   ·simp
   ·exact List.mem_cons_of_mem _ (c.iP j hj)
  ·rcases List.mem_cons.1 hj with rfl | hj
   ·exact M
   ·exact c.qx j hj
  ·intro j p hj hjm k x;rcases List.mem_cons.1 hjm with rfl | hjm
   ·grind
   ·exact List.mem_cons_of_mem _ (c.pH j p hj hjm k x)
  ·intro j p hj hjm k x;rcases List.mem_cons.1 hjm with rfl | hjm
   ·rw [wA f hj] at x;exact List.mem_cons_of_mem _ (c.iP k (S k x))
   ·exact List.mem_cons_of_mem _ (c.kg j p hj hjm k x)
  ·have a8:j≠i:=λe=>r (e▸List.mem_cons_self ..);exact TP ok v c f hid J a9 out (W _ _ A) ((List.mem_cons.1 m).resolve_left a8) (λe=>r (List.mem_cons_of_mem _ e)) u
theorem xf {i:Array Oper} (t:i.toList=L) (b:mP C L mok n lv0 β0 a0 h0 w0 done g q β s a h w) {j:Nat}:
  j∈Region.ready .any i q↔j∉g/\∃o,L[j]? =some o/\∀k∈waits o,k∈g:=by
 rw [mem_ready];have m:∀j:Nat,i[j]? =L[j]?:=λj=>by grind
 constructor
 ·rintro ⟨l,o,c,d⟩;rw [m] at c;refine ⟨λe=> ?_,o,c,λk p=> ?_⟩
  ·have r:j<q.size:=by rw [b.xW];exact (List.getElem?_eq_some_iff.1 c).1
   have:=(b.xV j).2 e;grind
  ·obtain ⟨e,f,rfl,hb⟩:=UW p;exact (b.xV _).1 (d e f hb)
 ·rintro ⟨l,o,c,d⟩;refine ⟨?_,o,by grind,λe f hb=>(b.xV _).2 (d _ (UQ f hb))⟩;have r:j<q.size:=by rw [b.xW];exact (List.getElem?_eq_some_iff.1 c).1
  cases e:q.getD j true with
  | false=>rfl
  | true=>refine absurd ((b.xV j).1 ?_) l;grind
theorem Im {tb:Tb} {aJ:List Nat}:∀ {r:List (Nat×List Nat)} {done:List Nat} {last:Option Nat} {c:List Nat} {d:Option Nat},dN tb aJ L (bh L []) r done last=true->sL tb aJ L (bh L []) r done last=(c,d)->
  (∀x,x∈c↔x∈done\/x∈r.map (·.1))/\(done.Nodup->c.Nodup)/\(∀e,last=some e->∃b,d=some b/\(b=e\/kQ L b e))
 | [],done,last,c,d,_,he=>by cases he;grind
 | (i,ws)::r,done,last,c,d,h,he=>by
  obtain ⟨o,F,_,_,hid,D,J⟩:=Il h;have key:∀f,dN tb aJ L (bh L []) r (i::done) f=true->sL tb aJ L (bh L []) r (i::done) f=(c,d)->(f=last\/f=some i)->
    (∀x,x∈c↔x∈done\/x∈((i,ws)::r).map (·.1))/\(done.Nodup->c.Nodup)/\(∀e,last=some e->∃b,d=some b/\(b=e\/kQ L b e)):=by
   intro f y z B;obtain ⟨u,v,l⟩:=Im y z;refine ⟨λx=> ?_,λE=>v (List.nodup_cons.2 ⟨hid,E⟩),λe m=> ?_⟩
   ·rw [u,List.mem_cons,List.map_cons,List.mem_cons];constructor
    ·rintro ((h | h) | h)
     ·exact .inr (.inl h)
     ·exact .inl h
     ·exact .inr (.inr h)
    ·rintro (h | h | h)
     ·exact .inl (.inr h)
     ·exact .inl (.inl h)
     ·exact .inr h
   ·rcases B with rfl | rfl
    ·exact l e m
    ·obtain ⟨b,t,e2⟩:=l i rfl;have p:=wP (D e m);refine ⟨b,t,.inr ?_⟩;rcases e2 with rfl | e2
     ·exact p
     ·intro X j H;exact p X j λI G k A=>j i I G (e2 X j H) k A
  simp only [sL,mr,F] at he;grind
theorem II (ok:C.tb.Ok C.P) {m:Array Oper} (u:m.toList=L) (G:(bH L).Nodup) (S:∀d∈bH L,d<n) {K0:St->Hp->Prop} {Q:Exit->Act->World->Prop} {dE:List Nat} {lE:Option Nat}
  (a8:∀j,j<L.length->j∉dE->∀e,lE=some e->kQ L j e)
  (K:∀(fuel:Nat) (g:List Nat) (q:Array Bool) (β:Nat->Nat) (s:St) (a:Act) (h:Hp) (w:World),mP C L mok n lv0 β0 a0 h0 w0 dE g q β s a h w->K0 s h->L.length<=fuel+g.length->wpAny C.P .any m Q fuel q a w):
  ∀(fuel:Nat) (r:List (Nat×List Nat)) (done g:List Nat) (q:Array Bool) (last:Option Nat) (β:Nat->Nat) (s:St) (a:Act) (h:Hp) (w:World),
   mP C L mok n lv0 β0 a0 h0 w0 done g q β s a h w->dN C.tb C.aJ L (bh L []) r done last=true->sL C.tb C.aJ L (bh L []) r done last=(dE,lE)->nJ C L mok r s h K0->
   L.length<=fuel+g.length->wpAny C.P .any m Q fuel q a w:=by
 intro fuel
 induction fuel with
 | zero=>
  intro r done g q last β s a h w hs hp he hv hf;have b0:∀j,j<L.length->j∈g:=λj t=>xw hs.zb (λx B=>hs.qx x (hs.iP x B)) (by omega) t;cases r with
  | nil=>cases he;exact K 0 g q β s a h w hs hv hf
  | cons x r=>obtain ⟨i,ws⟩:=x;obtain ⟨o,c,_,_,hid,_⟩:=Il hp;exact absurd (hs.iP i (b0 i (List.getElem?_eq_some_iff.1 c).1)) hid
 | succ fuel Z=>
  intro r
  induction r with
  | nil=>intro done g q last β s a h w hs hp he hv hf;cases he;exact K (fuel+1) g q β s a h w hs hv hf
  | cons x r c2=>
   intro done g q last β s a h w hs hp he hv hf;obtain ⟨i,ws⟩:=x;obtain ⟨o,c,A,R,hid,b9,hc⟩:=Il hp;obtain ⟨c0,_,_⟩:=Im hp he;simp only [nJ,mr,c] at hv;obtain ⟨b5,U⟩:=jo hv;have rest:dN C.tb C.aJ L (bh L []) r (i::done) (some i)=true->sL C.tb C.aJ L (bh L []) r (i::done) (some i)=(dE,lE)->
     ((isVal C.tb o=true\/lG C.aJ o=true)\/∀j p,j∈done->L[j]? =some p->isVal C.tb p=true->qj C.tb p=true->j∈ws\/j∈kO (bh L []) i)->wpAny C.P .any m Q (fuel+1) q a w:=by
    intro f N b7;have M:∀s1 b,(match (generalizing:=false) ws with
     | []=>nJ C L mok r s1 b K0
     | ws=>BQ C (tv o s) L s1 b ws/\nJ C L mok r s1 b K0)->BQ C (tv o s) L s1 b ws/\nJ C L mok r s1 b K0:=by
     intro s1 b e;cases ws with
     | nil=>exact ⟨trivial,e⟩
     | cons x ws=>exact e
    refine ⟨λhr=> ?_,λj t=> ?_⟩
    ·exfalso;by_cases B:∃j∈done,j∉g
     ·obtain ⟨j,b,v,h3⟩:=Lm hs.qS B;have O:=List.getElem?_eq_getElem (hs.qx j b);have:j∈Region.ready .any m q:=(xf u hs).2 ⟨v,_,O,h3 _ O⟩;grind
     ·have:i∈Region.ready .any m q:=(xf u hs).2 ⟨λe=>hid (hs.iP i e),o,c,λk l=>Classical.byContradiction λe=>B ⟨k,A k l,e⟩⟩;grind
    ·obtain ⟨b,p,y,v⟩:=(xf u hs).1 t;by_cases F:j∈done
     ·exact Ay ok u G hs y F b v _ Q λI D H z=>Z ((i,ws)::r) done (j::g) _ last I s D h H z hp he (by
       simp only [nJ,mr,c];omega) (by simp;omega)
     ·by_cases b2:j=i
      ·subst b2;rw [c] at y;cases y;exact Wq ok u G S hs c hid v R b7 (λs h e=>(M s h e).1) U _ Q λs' h' I D H l z=>Z r (j::done) (j::g) _ (some j) I s' D h' H z f N (M _ _ l).2 (by simp;omega)
      ·exfalso;have b3:=(List.getElem?_eq_some_iff.1 y).1;have a9:kQ L j i:=by
        by_cases b4:j∈r.map (·.1)
        ·exact GS f j b4
        ·have b1:j∉dE:=λh=>by grind
         obtain ⟨_,_,g3⟩:=Im f N;obtain ⟨J,e1,e2⟩:=g3 i rfl;have b:=a8 j b3 b1 J e1;rcases e2 with rfl | e2
         ·exact b
         ·intro X E A;exact e2 X E λo' T k l=>E J o' T (b X E A) k l
       have:=a9 (· ∈g) hs.pH λo' T=>by grind
       exact hid (hs.iP i this)
   simp only [sL,mr,c] at he;rcases hc with ⟨W,Y,f⟩ | ⟨W,Y,f⟩ | ⟨V,c1,b8,f⟩
   ·obtain ⟨s',l,z⟩:=Wo ok G S hs c hid A R Y W b5 U;grind
   ·grind
   ·exact rest f (by grind) (.inr λj p F t V b6=>Gn b8 j F p t V b6)
theorem IJ {tb:Tb} {aJ:List Nat} {rows:List (List Nat)}:∀ {r:List (Nat×List Nat)} {done:List Nat} {last:Option Nat},dN tb aJ L rows r done last=true->
  (r.map (·.1)).Nodup/\∀j∈r.map (·.1),j∉done/\j<L.length
 | [],_,_,_=>⟨.nil,λj d=>(nomatch d)⟩
 | (i,ws)::r,done,last,h=>by obtain ⟨o,f,_,_,hid,_,e⟩:=Il h;have k:∀b,dN tb aJ L rows r (i::done) b=true->_:=λb c=>IJ c;grind
theorem GX {aJ:List Nat} {k:Nat}:∀ {L:List Oper},k∈j4 aJ L↔∃(i:Nat) (o:Oper),L[i]? =some o/\cl aJ o k
 | []=>by simp [j4]
 | o::L=>by
  have f:=GX (aJ:=aJ) (k:=k) (L:=L);have key:(∃(i:Nat) (p:Oper),(o::L)[i]? =some p/\cl aJ p k)↔(cl aJ o k\/∃(i:Nat) (p:Oper),L[i]? =some p/\cl aJ p k):=by
   constructor
   ·grind
   ·rintro (h | ⟨i,p,b,c⟩)
    ·exact ⟨0,o,by simp,h⟩
    ·exact ⟨i+1,p,by simpa using b,c⟩
  rw [key,<-f];by_cases hp:∃d,cl aJ o d
  ·obtain ⟨d,hp⟩:=hp;rw [K4 hp,List.mem_cons];refine or_congr ⟨λe=>e▸hp,λe=> ?_⟩ .rfl;have:=e.2;rw [hp.2] at this;cases this;rfl
  ·rw [V1 λd e=>hp ⟨d,e⟩];grind
end
theorem BS :∀(l:List Oper) (j i k:Nat),(dT l j i)[k]? =(l[k]?).map λo=>if k=j then {o with after:=⟨app o.after.toList [⟨i,.data⟩]⟩} else o
 | [],_,_,k=>by simp [dT]
 | o::r,0,i,0=>by simp [dT]
 | o::r,0,i,k+1=>by simp [dT]
 | o::r,j+1,i,0=>by simp [dT]
 | o::r,j+1,i,k+1=>by simp [dT,BS r j i k]
theorem CU :∀(l:List Oper) (j i:Nat),(dT l j i).length=l.length
 | [],_,_=>rfl
 | _::_,0,_=>rfl
 | o::r,j+1,i=>by simp [dT,CU r j i]
theorem yo :∀(l:List Oper) (j i:Nat),bH (dT l j i)=bH l
 | [],_,_=>rfl
 | _::_,0,_=>rfl
 | o::r,j+1,i=>by simp only [dT,bH,yo r j i]
section
variable {P:Program} {Q:Exit->Act->World->Prop} {ops b:Array Oper} {i j:Nat}
theorem AA (d:b.toList=dT ops.toList j i) {k:Nat} {K:Act->World->Prop} {a:Act} {w:World} (h:wpOp P b Q k K a w):wpOp P ops Q k K a w:=by
 have f:∀k:Nat,b[k]? =(ops[k]?).map λo=>if k=j then {o with after:=⟨app o.after.toList [⟨i,.data⟩]⟩} else o:=λk=>by rw [<-Array.getElem?_toList,d,BS,Array.getElem?_toList]
 have l:∀c,yielded b c=yielded ops c:=λc=>by funext q;unfold yielded;grind
 unfold wpOp at*;rw [f] at h;cases g:ops[k]? with
 | none=>grind
 | some o=>
  rw [g] at h;simp only [Option.map_some,l] at h;by_cases e:k=j
  ·rw [if_pos e] at h;exact h
  grind
theorem Jd (g:b.toList=dT ops.toList j i) {k:Nat} {c:Array Bool}:(k∈Region.ready .any b c->k∈Region.ready .any ops c)/\(k∈Region.ready .any ops c->(k≠j\/c.getD i false=true)->k∈Region.ready .any b c):=by
 have l:∀k:Nat,b[k]? =(ops[k]?).map λo=>if k=j then {o with after:=⟨app o.after.toList [⟨i,.data⟩]⟩} else o:=λk=>by rw [<-Array.getElem?_toList,g,BS,Array.getElem?_toList]
 simp only [mem_ready,l];constructor
 ·rintro ⟨d,n,a,f⟩;refine ⟨d,?_⟩;cases e:ops[k]? with
  | none=>grind
  | some o=>
   rw [e] at a;refine ⟨o,rfl,λx hx=>f x ?_⟩;simp at a;subst a;split
   ·rw [qk];grind
   ·exact hx
 ·rintro ⟨d,o,a,f⟩ m;refine ⟨d,_,by rw [a];rfl,λx hx hb=> ?_⟩;dsimp only at hx;by_cases e:k=j
  ·rw [if_pos e] at hx;have hx:x∈(⟨app o.after.toList [⟨i,.data⟩]⟩:Array Edge):=hx;rw [qk] at hx;simp at hx;rcases hx with hx | hx
   ·exact f x (by simpa using hx) hb
   ·subst hx;exact m.resolve_left λh=>h e
  grind
theorem HD (f:b.toList=dT ops.toList j i):∀(fuel:Nat) (c:Array Bool) (a:Act) (w:World),c.getD i false=true->wpAny P .any b Q fuel c a w->wpAny P .any ops Q fuel c a w:=by
 have l:∀c:Array Bool,c.getD i false=true->Region.ready .any ops c=[]->Region.ready .any b c=[]:=λc d g=>by refine List.eq_nil_iff_forall_not_mem.2 λk e=> ?_;have:=(Jd f).1 e;grind
 have m:∀c:Array Bool,c.getD i false=true->Region.ready .any b c=[]->Region.ready .any ops c=[]:=λc d g=>by refine List.eq_nil_iff_forall_not_mem.2 λk e=> ?_;have:=(Jd f).2 e (.inr d);grind
 intro fuel
 induction fuel with
 | zero=>exact λc a w d h=>⟨m c d h.1,h.2⟩
 | succ fuel n=>intro c a w d h;refine ⟨λg=>h.1 (l c d g),λk e=> ?_⟩;exact wpOp_mono (λa w h=>n _ a w (getD_set_true d) h) (AA f (h.2 k ((Jd f).2 e (.inr d))))
end
section
variable {C:Ctx} {L:List Oper} {mok:List Nat} {n:Nat} {lv0:Nat->Prop} {β0:Nat->Nat} {a0:Act} {h0:Hp} {w0:World} {done c:List Nat} {f:Array Bool} {β:Nat->Nat} {s:St} {a:Act} {h:Hp} {w:World} {i j:Nat}
theorem JI {k:Nat} (b:k≠j):(dT L j i)[k]? =L[k]?:=by rw [BS];grind
theorem U0 (k:Nat) {o:Oper}:(dT L j i)[k]? =some o->∃p,L[k]? =some p/\o.dst=p.dst/\o.op=p.op/\o.guard=p.guard:=by rw [BS];grind
theorem mQ (k:Nat) {p:Oper} (h:L[k]? =some p):∃o,(dT L j i)[k]? =some o/\o.dst=p.dst/\o.op=p.op/\o.guard=p.guard:=by rw [BS,h];grind
theorem GY :∀(m:Nat) (o:Oper),ot (dT L j i) m o=ot L m o
 | 0,_=>rfl
 | m+1,o=>by
  unfold ot;cases o.guard with
  | none=>rfl
  | some g=>
   obtain ⟨q,b⟩:=g;dsimp only;rw [mr,mr];cases e:L[q]? with
   | none=>
    have:(dT L j i)[q]? =none:=by rw [BS,e];rfl
    rw [this]
   | some p=>
    obtain ⟨d,k,l,_,r⟩:=mQ (i:=i) (j:=j) q e;rw [k];dsimp only;have:∀m,ot L m d=ot L m p:=λm=>by cases m<;>simp [ot,r]
    rw [GY m d,this,l]
theorem GZ {aJ:List Nat} {o p:Oper} (b:o.dst=p.dst) (d:o.op=p.op) (k:Nat):cl aJ o k↔cl aJ p k:=by unfold cl lG;rw [b,d]
theorem IK {b:List Oper} {e rows:List (List Nat)}:∀ {done:List Nat},sx b e L rows done=true->∀k∈done,∀o,L[k]? =some o->gE e k o b 0=false->cZ L rows k o=true/\gE rows k o L 0=false
 | [],_,k,hk,_,_,_=>by cases hk
 | q::r,h,k,hk,o,d,m=>by
  unfold sx at h;obtain ⟨g,l⟩:=eO h;rcases List.mem_cons.1 hk with rfl | hk
  ·rw [mr,d] at g;grind
  ·exact IK l k hk o d m
theorem BC {rows:List (List Nat)} {i:Nat} {done:List Nat}:∀ {m:Nat},sv rows i done m=true->∀k,k<m->k∉done->k≠i->i∈kO rows k
 | 0,_,k,q,_,_=>by omega
 | m+1,h,k,q,d,g=>by
  unfold sv at h;obtain ⟨b,p⟩:=eO h;by_cases e:k=m
  ·subst e;have l:has done k=false:=by
    cases e:has done k with
    | false=>rfl
    | true=>exact absurd ((qq _ _).1 e) d
   have o:Nat.beq k i=false:=by
    cases e:Nat.beq k i with
    | false=>rfl
    | true=>exact absurd (Nat.eq_of_beq_eq_true e) g
   rw [l,o] at b;exact (qq _ _).1 b
  ·exact BC p k (by omega) d g
theorem JL (l:mP C L mok n lv0 β0 a0 h0 w0 done c f β s a h w) (P:j∉done) (Q:sx L (bh L []) (dT L j i) (bh (dT L j i) []) done=true):
  mP C (dT L j i) mok n lv0 β0 a0 h0 w0 done c f β s a h w:=by
 have m:∀q,q∈done->(dT L j i)[q]? =L[q]?:=λq r=>JI λe=>P (e▸r);have N:kA (dT L j i) done c=kA L done c:=funext λt=>propext ⟨λh q o b k g=>h q o b k ((m q b).trans g),λh q o b k g=>h q o b k ((m q b).symm.trans g)⟩;have O:qw (dT L j i) done=qw L done:=funext λt=>propext ⟨λ⟨q,o,b,k,g⟩=>⟨q,o,b,(m q b).symm.trans k,g⟩,λ⟨q,o,b,k,g⟩=>⟨q,o,b,(m q b).trans k,g⟩⟩;have E:py C (dT L j i) done=py C L done:=funext λt=>propext ⟨λ⟨q,o,b,k,g⟩=>by
   obtain ⟨p,u,v,y,_⟩:=U0 q k;exact ⟨q,p,b,u,(GZ v y t).1 g⟩,λ⟨q,o,b,k,g⟩=>by
   obtain ⟨p,u,v,y,_⟩:=mQ (i:=i) (j:=j) q k;exact ⟨q,p,b,u,(GZ v y t).2 g⟩⟩
 have D:gJ C (dT L j i) done c=gJ C L done c:=funext λt=>propext (by
  unfold gJ;rw [E];grind)
 have A:∀X:List Nat,(∀q∈X,q∈done)->sX L (· ∈X)->sX (dT L j i) (· ∈X):=λX K M q o z r=>M q o ((m q (K q r)).symm.trans z) r;have R:∀d:List Nat,(∀q∈d,q∈done)->tg L d->tg (dT L j i) d:=by
  intro d
  induction d with
  | nil=>intro _ _;trivial
  | cons q d T=>intro B F;exact ⟨λo z=>F.1 o ((m q (B q (List.mem_cons_self ..))).symm.trans z),T (λx S=>B x (List.mem_cons_of_mem _ S)) F.2⟩
 refine ⟨by rw [CU];exact l.xW,l.xV,l.zb,l.iP,λq r=>by rw [CU];exact l.qx q r,A c l.iP l.pH,A done (λ_ h=>h) l.kg,R done (λ_ h=>h) l.qS,?_,λq o b k g=> ?_,?_⟩
 ·rw [N,D,O,E];exact l.rr
 ·have J:=(m q b).symm.trans g;obtain ⟨f1,f2,f3,G⟩:=l.facts q o b k J;obtain ⟨H,I⟩:=IK Q q b o g f3;refine ⟨?_,H,I,G⟩;unfold mO at*;rw [CU,GY];exact f1
 ·rw [yo,D];exact l.ub
end
theorem U2 {l m:List Nat} (b:m.Nodup) (h:l.Nodup) (c:∀x∈l,x∈m):l.length<=m.length:=by
 induction l generalizing m with
 | nil=>simp
 | cons a l i=>obtain ⟨f,g⟩:=List.nodup_cons.1 h;have j:=c a (List.mem_cons_self ..);have:=i (m:=m.erase a) (b.erase a) g λx d=>(b.mem_erase_iff).2 ⟨λe=>f (e▸d),c x (List.mem_cons_of_mem _ d)⟩;grind
theorem JN {C:Ctx} {L:List Oper} {u:List Nat} {n:Nat} {r:Nat->Prop} {z:Nat->Nat} {a0:Act} {l:Hp} {v:World} {K:St->Hp->Prop} {Q:Exit->Act->World->Prop} {done ls:List Nat} {F:Array Bool} {x:Nat->Nat} {s:St} {a:Act} {h:Hp} {w:World}
  (q:mP C L u n r z a0 l v done ls F x s a h w) (D:∀j,j<L.length->j∈done) (o:∀j∈done,j∈ls) (E:K s h)
  (B:∀g f y d i,K g f->RR n (λ_=>True) (λ_=>True) (λ_=>True) (λ_=>False) y g d f i->gr (bH L) u r z a0 l v (cg g) y d f i->Q .normal d i):Q .normal a w:=by
 have A:∀k,¬py C L done k:=λk ⟨j,p,b,c,_⟩=>b (D j (List.getElem?_eq_some_iff.1 c).1);have m:∀k,True↔gJ C L done ls k:=λk=>⟨λ_=>⟨λj p b c _=>absurd (o j b) c,A k⟩,λ_=>trivial⟩;exact B s h x a w E (q.rr.congr (λt=>⟨λ_ j p b c _=>absurd (o j b) c,λ_=>trivial⟩) m (λ_ _=>trivial) (λ_ e=>e.elim)) (q.ub.mono (λ_ e=>e) (λ_ e=>e) (λ_ e=>e) (λk e=>⟨e.1,(m k).1 trivial⟩))
theorem TR {C:Ctx} (ok:C.tb.Ok C.P) {mok:List Nat} {n:Nat} {lv0:Nat->Prop} {β0:Nat->Nat} {a0:Act} {h0:Hp} {w0:World} {K:St->Hp->Prop} {Q:Exit->Act->World->Prop}:
  ∀(A:iw) (c:Array Oper) (done:List Nat) (last:Option Nat),(bH c.toList).Nodup->(∀d∈bH c.toList,d<n)->ng C.tb C.aJ A c.toList done last=true->done.Nodup->
  (∀s' S J D G,K s' S->RR n (λ_=>True) (λ_=>True) (λ_=>True) (λ_=>False) J s' D S G->gr (bH c.toList) mok lv0 β0 a0 h0 w0 (cg s') J D S G->Q .normal D G)->
  ∀(fuel:Nat) (l:List Nat) (g:Array Bool) (v:Nat->Nat) (s:St) (a:Act) (h:Hp) (w:World),mP C c.toList mok n lv0 β0 a0 h0 w0 done l g v s a h w->tZ C mok K A c.toList s h->c.toList.length<=fuel+l.length->
   wpAny C.P .any c Q fuel g a w:=by
 intro A
 induction A with
 | rg R=>
  intro c done last hnd F hp hdn hQ fuel l g v s a h w b hv t;unfold ng at hp;obtain ⟨b4,hp⟩:=eO hp;have b4:=Nat.eq_of_beq_eq_true b4;have H:∀dE lE,sL C.tb C.aJ c.toList (bh c.toList []) R done last=(dE,lE)->∀j,j<c.toList.length->j∈dE:=λdE lE B j u=>by
   obtain ⟨Z,M,_⟩:=Im hp B;have a8:=IJ hp;refine xw (M hdn) (λx r=> ?_) ?_ u
   ·rcases (Z x).1 r with h1 | h1
    ·exact b.qx x h1
    grind
   ·have h1:(done++R.map (·.1)).Nodup:=List.nodup_append.2 ⟨hdn,a8.1,λx r y hy e=>(a8.2 y hy).1 (e▸r)⟩;have z:=U2 (M hdn) h1 λx r=>by rw [List.mem_append] at r;exact (Z x).2 r
    grind
  cases B:sL C.tb C.aJ c.toList (bh c.toList []) R done last with
  | mk dE lE=>
   have H:=H dE lE B;refine II (mok:=mok) (K0:=K) ok rfl hnd F (dE:=dE) (lE:=lE) (λj u O=>absurd (H j u) O) ?_ fuel R done l g last v s a h w b hp B hv t;clear b hv t;intro fuel
   induction fuel with
   | zero=>intro l g v s a h w b hv t;have hl:∀j,j<c.toList.length->j∈l:=λj u=>xw b.zb (λx r=>b.qx x (b.iP x r)) (by omega) u;refine ⟨List.eq_nil_iff_forall_not_mem.2 λk m=> ?_,JN b H (λj u=>hl j (b.qx j u)) hv hQ⟩;obtain ⟨h1,o,U,_⟩:=(xf rfl b).1 m;grind
   | succ fuel Y=>
    intro l g v s a h w b hv t;refine ⟨λhr=>JN b H (λj u=>Classical.byContradiction λe=> ?_) hv hQ,λj u=> ?_⟩
    ·obtain ⟨i,h1,z,T⟩:=Lm b.qS ⟨j,u,e⟩;have L:=List.getElem?_eq_getElem (b.qx i h1);have:i∈Region.ready .any c g:=(xf rfl b).2 ⟨z,_,L,T _ L⟩;grind
    ·obtain ⟨h1,o,U,z⟩:=(xf rfl b).1 u;exact Ay ok rfl hnd b U (H j (List.getElem?_eq_some_iff.1 U).1) h1 z _ Q λJ D G X=>Y (j::l) _ J s D h G X hv (by grind)
 | r2 pre i j x y c9 d0=>
  intro c done last hnd F hp hdn hQ fuel l g v s a h w b hv t;unfold ng at hp;obtain ⟨b5,hp⟩:=eO hp;cases B:sL C.tb C.aJ c.toList (bh c.toList []) pre done last with
  | mk dE lE=>
   rw [B] at hp;dsimp only at hp;obtain ⟨f,hp⟩:=eO hp;obtain ⟨c6,c7⟩:=eO hp;obtain ⟨Z,M,_⟩:=Im b5 B;unfold FG at f;cases I:Nat.beq i j with
   | true=>grind
   | false=>
    rw [I] at f;have I:i≠j:=λe=>by rw [e] at I;simp at I
    simp only [cond_false,mr] at f;cases V:c.toList[i]? with
    | none=>grind
    | some o=>
     cases c5:c.toList[j]? with
     | none=>grind
     | some p=>
      rw [V,c5] at f;dsimp only at f;cases E:has dE i with
      | true=>grind
      | false=>
       cases N:has dE j with
       | true=>grind
       | false=>
        rw [E,N] at f;simp only [cond_false] at f;have E:=xd E;have N:=xd N;obtain ⟨c8,f⟩:=eO f;obtain ⟨d2,f⟩:=eO f;obtain ⟨b3,f⟩:=eO f;obtain ⟨b7,f⟩:=eO f;obtain ⟨d1,f⟩:=eO f;obtain ⟨c0,c1⟩:=eO f;refine II (mok:=mok) ok rfl hnd F (dE:=dE) (lE:=lE) (λk m O e c3=> ?_) ?_ fuel pre done l g last v s a h w b b5 B hv t
        ·subst c3;by_cases b0:k=e
         ·subst b0;exact absurd ((qq _ _).1 (eO b3).1) O
         ·exact wP (BC (eO b3).2 k m O b0)
        ·clear b hv t;have b9:i<c.toList.length:=(List.getElem?_eq_some_iff.1 V).1;intro fuel
         induction fuel with
         | zero=>intro l g v s a h w b hv t;exact absurd (b.iP i (xw b.zb (λx r=>b.qx x (b.iP x r)) (by omega) b9)) E
         | succ fuel Y=>
          intro l g v s a h w b hv t;have s1:=JL b N c0;have s2:=JL b E c1;have kx:=c9 (dT c.toList j i).toArray dE lE (by simpa [yo] using hnd) (by simpa [yo] using F) c6 (M hdn) (by simpa [yo] using hQ) (fuel+1) l g v s a h w s1 hv.1 (by simpa [CU] using t);have ky:=d0 (dT c.toList i j).toArray dE lE (by simpa [yo] using hnd) (by simpa [yo] using F) c7 (M hdn) (by simpa [yo] using hQ) (fuel+1) l g v s a h w s2 hv.2 (by simpa [CU] using t);have b6:∀ {k:Nat},k∈Region.ready .any c g->(g.setIfInBounds k true).getD k false=true:=λ{k} m=>by
           have h0:=(mem_ready.1 m).1;have F:k<g.size:=by grind
           simp [F]
          refine ⟨λhr=> ?_,λk m=> ?_⟩
          ·exfalso;by_cases r:∃j∈dE,j∉l
           ·obtain ⟨q,h1,z,T⟩:=Lm b.qS r;have L:=List.getElem?_eq_getElem (b.qx q h1);have:q∈Region.ready .any c g:=(xf rfl b).2 ⟨z,_,L,T _ L⟩;grind
           ·have:i∈Region.ready .any c g:=(xf rfl b).2 ⟨λe=>E (b.iP i e),o,V,λk m=>Classical.byContradiction λe=>r ⟨k,CN c8 k m,e⟩⟩;grind
          ·obtain ⟨h1,q,W,z⟩:=(xf rfl b).1 m;by_cases a9:k∈dE
           ·exact Ay ok rfl hnd b W a9 h1 z _ Q λJ D G X=>Y (k::l) _ J s D h G X hv (by grind)
           ·by_cases b1:k=i
            ·subst b1;exact wpOp_mono (λa w h=>HD rfl _ _ a w (b6 m) h) (AA rfl (kx.2 k ((Jd rfl).2 m (.inl I))))
            ·by_cases b2:k=j
             ·subst b2;exact wpOp_mono (λa w h=>HD rfl _ _ a w (b6 m) h) (AA rfl (ky.2 k ((Jd rfl).2 m (.inl λe=>I e.symm))))
             ·exfalso;have c2:=(List.getElem?_eq_some_iff.1 W).1;have b8:=wP (BC b7 k c2 a9 b1) (· ∈l) s1.pH λo' c4=>by rw [JI b2,W] at c4;grind
              exact E (b.iP i b8)
 | _=>intro c done last _ _ hp;cases hp
theorem U3 {C:Ctx} (ok:C.tb.Ok C.P) {b:Array Oper} {mok:List Nat} {n:Nat} {A:iw} {m:Nat->Nat} {s:St} {a:Act} {h:Hp} {w:World} {K:St->Hp->Prop} {Q:Exit->Act->World->Prop} {id:Nat}
  (q:nodup (bH b.toList)=true) (hp:ng C.tb C.aJ A b.toList [] none=true) (F:∀d∈bH b.toList,d<n) (z:Rel n m s a h w) (hv:tZ C mok K A b.toList (s.kh (j4 C.aJ b.toList)) h)
  (D:∀g f p c j,K g f->Rel n p g.clean c f j->gr (bH b.toList) mok (cg s) m a h w (cg g) p c f j->Q .normal c j):(Code.region id b true).wp C.P Q a w:=by
 have G:=Lv q;refine wp_region_any ok.mixed ?_;have B:Step h h w {w with drawn:=w.drawn+1}:=⟨z.sub,Nat.le_refl _,λ_ _ e=>⟨rfl,e⟩,rfl,rfl,rfl⟩;have I:=(z.step B).start (j4 C.aJ b.toList);have x:∀k,py C b.toList [] k↔k∈j4 C.aJ b.toList:=λk=>by rw [GX];exact ⟨λ⟨i,o,_,r,u⟩=>⟨i,o,r,u⟩,λ⟨i,o,r,u⟩=>⟨i,o,by simp,r,u⟩⟩
 have v:∀k,gJ C b.toList [] [] k↔k∉j4 C.aJ b.toList:=λk=>by rw [<-x];exact ⟨λe=>e.2,λe=>⟨λi o q=>absurd q List.not_mem_nil,e⟩⟩
 refine TR (mok:=mok) (n:=n) (lv0:=cg s) (β0:=m) (a0:=a) (h0:=h) (w0:=w) (K:=K) ok A b [] none G F hp .nil (λg f p c j E H J=>D g f p c j E H.clean J) b.size [] _ m (s.kh (j4 C.aJ b.toList)) a h _
  ⟨by simp,λi=> ?_,.nil,λi e=>absurd e List.not_mem_nil,λi e=>absurd e List.not_mem_nil,λi o _ e=>absurd e List.not_mem_nil,λi o _ e=>absurd e List.not_mem_nil,trivial,?_,λi o e=>absurd e List.not_mem_nil,?_⟩ hv (by simp)
 ·by_cases y:i<b.size
  ·simp [y]
  ·simp [y]
 ·exact I.congr (λt=>⟨λ_=>trivial,λ_ i o e=>absurd e List.not_mem_nil⟩) v (λ_ e=>e.elim) (λk e=>(x k).1 e)
 ·exact (gr.step (lv:=cg s) B).mono (λ_ e=>e) (λ_ e=>e) (λ_ e=>e) (λk e=>Hw (l:=j4 C.aJ b.toList) ⟨e.1,(v k).1 e.2⟩)
def nG :Ex->Exit
 | .fQ=>.normal
 | .ret=>.ret
 | .ext i=>.exit i
 | .jF i=>.goto i
theorem IL {p:Nat->Prop}:(∃n,p n)->∃n,p n/\∀m,p m->n<=m:=by
 rintro ⟨n,a⟩
 induction n using Nat.strongRecOn with
 | _ n b=>grind
theorem QU {P:Program} {c:Code} {Q:Exit->Act->World->Prop} {a:Act} {w:World} (J:Nat->Act->World->Prop) (g:∃n,J n a w)
  (round:∀n a w,J n a w->c.wp P (Exit.then (λd f=>∃m,m<n/\J m d f) Q) a w):(Code.loop c).wp P Q a w:=by
 classical
 let b:Act->World->Nat:=λa w=>if h:∃n,J n a w then Classical.choose (IL h) else 0
 have j:∀a w,(h:∃n,J n a w)->J (b a w) a w/\∀m,J m a w->b a w<=m:=λa w h=>by have:=Classical.choose_spec (IL h);simp only [b,dif_pos h];exact this
 refine wp_loop (λa w=>∃n,J n a w) b g λa w i=> ?_;refine wp_mono (round (b a w) a w (j a w i).1) λe d f k=> ?_;grind
section
variable {n:Nat} {β:Nat->Nat} {s:St} {a:Act} {h:Hp} {w:World}
structure Co (s s' s2:St) (a':Act) (n:Nat) (l mm:List Nat):Prop where
 f:∀t v c,s2.f t=some (v,c)->c=[]/\((s.f t=some (v,[])/\t∉l/\∀k o,(v=.box k o\/v=.dv k o)->k∉l)\/(∃x,v=.v x/\a'.eval (.tmp t)=x/\t<n))
 m:∀k cs,s2.m k=some cs->(s.m k=some cs/\k∉mm)\/s'.m k=some cs
theorem Pu {l B:List Nat} {u:Nat->Nat} {G s2:St} {z:Act} {A:Hp} {C:World} (r:Rel n β s a h w) (b:gr l B (cg s) β a h w (cg G) u z A C) (F:Rel n u G z A C) (j:Co s G s2 z n l B):
  Rel n u s2 z A C/\gr l B (cg s) β a h w (cg s2) u z A C:=by
 have E:∀k g,s.m k=some g->k∉B->u k=β k/\β k<w.heap.size/\A (β k)=none/\∃H,C.heap[β k]? =some (.cells g.toArray H (0,0)):=by intro k g e O;obtain ⟨h1,H,i⟩:=r.box k g e trivial;have P:∀d∈B,cg s d->β d≠β k:=λd R S y=>O (by rw [r.inj k d (by simp [e]) S.1 trivial trivial y.symm];exact R);refine ⟨b.beta k (.inr O),gA i,b.vg _ (gA i) h1 P,H,?_⟩;rw [b.cv _ (gA i) h1 P];exact i
 have Q:∀k,G.m k≠none->(s.m k≠none/\u k=β k)\/w.heap.size<=u k:=λk e=>(b.fresh k ⟨e,trivial⟩).imp (λe=>⟨e.1.1,e.2⟩) id;refine ⟨⟨F.sz,F.sub,λt v c e=> ?_,λt v c e p hp=> ?_,λt v c e _ _=> ?_,λt v c e _ N=> ?_,λk g e _=> ?_,λk d e y _ _ q=> ?_,λ_ e=>e.elim,λ_ e=>e.elim⟩,?_⟩
 ·obtain ⟨_,h1 | ⟨x,_,_,h1⟩⟩:=j.f t v c e
  ·exact r.lt t v [] h1.1
  ·exact h1
 ·rw [(j.f t v c e).1] at hp;cases hp
 ·refine ⟨?_,λ_ _ _=>trivial⟩;obtain ⟨_,⟨h1,i,M⟩ | ⟨x,rfl,h1,_⟩⟩:=j.f t v c e
  ·rw [b.tmp t i,(r.cur t v [] h1 trivial (bp _)).1];cases v with
   | v x=>rfl
   | box k o=>simp only [LVal,b.beta k (.inl (M k o (.inl rfl)))]
   | dv k o=>simp only [LVal,b.beta k (.inl (M k o (.inr rfl)))]
  ·exact h1
 ·rw [(j.f t v c e).1] at N;exact absurd (bp _) N
 ·rcases j.m k g e with ⟨h1,i⟩ | h1
  ·grind
  ·exact F.box k g h1 trivial
 ·obtain ⟨g,e⟩:=Option.ne_none_iff_exists'.1 e;obtain ⟨D,y⟩:=Option.ne_none_iff_exists'.1 y;rcases j.m k g e with ⟨h1,i⟩ | h1
  ·obtain ⟨L,T,_⟩:=E k g h1 i;rcases j.m d D y with ⟨h1',K⟩ | h1'
   ·obtain ⟨I,_⟩:=E d D h1' K;rw [L,I] at q;exact r.inj k d (by simp [h1]) (by simp [h1']) trivial trivial q
   ·rcases Q d (by simp [h1']) with ⟨e3,J⟩ | e3
    ·rw [L,J] at q;exact r.inj k d (by simp [h1]) e3 trivial trivial q
    omega
  ·rcases j.m d D y with ⟨h1',K⟩ | h1'
   ·obtain ⟨I,U,_⟩:=E d D h1' K;rcases Q k (by simp [h1]) with ⟨e3,J⟩ | e3
    ·rw [I,J] at q;exact r.inj k d e3 (by simp [h1']) trivial trivial q
    omega
   ·exact F.inj k d (by simp [h1]) (by simp [h1']) trivial trivial q
 ·refine ⟨b.tmp,b.beta,b.size,b.vg,b.cv,λk e=> ?_,b.os,b.tape,b.output,b.defers⟩;obtain ⟨g,e⟩:=Option.ne_none_iff_exists'.1 e.1;rcases j.m k g e with ⟨h1,i⟩ | h1
  ·exact .inl ⟨⟨by simp [h1],trivial⟩,(E k g h1 i).1⟩
  ·exact b.fresh k ⟨by simp [h1],trivial⟩
def WK :Option Ty->Shape
 | some e=>e.sh
 | none=>rQ
theorem JO (tb:Tb) (t:Nat):dp tb t=WK (tb.ty t):=by unfold dp WK;grind
theorem NK {P:Program} {tb:Tb} (ok:tb.Ok P) {t:Nat} (c:xt tb t=false):∀(x:(dp tb t).T) (b:Array Value),(dp tb t).enc x≠ .agg b:=by
 rw [JO];unfold xt at c;cases d:tb.ty t with
 | none=>intro x b e;cases e
 | some e=>rw [d] at c;intro x b;exact ((ok.leaf t e d c).2 x).2 b
theorem wT {tb:Tb} {t:Nat} {v:Value} {K:(dp tb t).T->Prop} (h:rX tb t v K):∃x,(dp tb t).enc x=v/\K x:=by
 unfold rX at h;cases b:xS tb t with
 | true=>rw [b] at h;exact h
 | false=>
  rw [b] at h;simp only [cond_false] at h;split at h
  ·rename_i x c;exact ⟨x,(dp tb t).ok v x c,h⟩
  ·exact h.elim
theorem IM {P:Program} {tb:Tb} (ok:tb.Ok P) {t:Nat} {c:List Value} {v:Value} {x:(dp tb t).T} (b:wN tb t c=some v) (hv:(dp tb t).enc x=v):aY ((dp tb t).enc x)=c:=by
 rw [hv];unfold wN at b;cases d:xt tb t with
 | true=>rw [d] at b;cases b;rfl
 | false=>
  rw [d] at b;simp only [cond_false] at b;split at b
  ·cases b;have f:∀c,v≠ .agg c:=λc e=>NK ok d x c (hv.trans e);cases v<;>first | rfl | grind
  ·cases b
theorem G0 {P:Program} {tb:Tb} (ok:tb.Ok P) {l B:List Nat} {G:Nat->Nat} {o s2:St} {p:Act} {D:Hp} {F:World} (z:Rel n G o p D F) {j:J} {K:(dp tb j.t).T->Prop} (b:xu tb o j K)
  (g:Co s o s2 p n l B):∃x,K x/\Co s o (uO tb j x s2) p n l B:=by
 unfold xu at b;cases d:j.LU with
 | true=>
  rw [d] at b;simp only [cond_true] at b;split at b
  ·rename_i r H;split at b
   ·rename_i v hv
    ·obtain ⟨x,q,b⟩:=wT b;refine ⟨x,b,?_⟩;have E:=IM ok hv q;unfold uO;rw [d];simp only [cond_true,E];refine ⟨g.f,λk C e=> ?_⟩;by_cases y:k=j.i
     ·subst y;rw [Lt] at e;grind
     ·rw [u4 _ _ y] at e;exact g.m k C e
   ·exact b.elim
  ·exact b.elim
 | false=>
  rw [d] at b;simp only [cond_false] at b;split at b
  ·rename_i v hv
   ·obtain ⟨x,q,b⟩:=wT b;refine ⟨x,b,?_⟩;unfold uO;rw [d];simp only [cond_false];rw [q];refine ⟨λt u c e=> ?_,λk r e=>g.m k r (by rwa [lY] at e)⟩;by_cases A:t=j.i
    ·subst A;rw [BR] at e;cases e;exact ⟨rfl,.inr ⟨v,rfl,(z.cur j.i _ [] hv trivial (bp _)).1,z.lt _ _ _ hv⟩⟩
    ·rw [qV _ _ _ A] at e;exact g.f t u c e
  ·exact b.elim
theorem IN {P:Program} {tb:Tb} (ok:tb.Ok P) {l e:List Nat} {q:Nat->Nat} {s':St} {a':Act} {f:Hp} {p:World} (d:Rel n q s' a' f p):∀ {js:List J} {s2:St} {K:nz tb js->Prop},mW tb js s' K->
  Co s s' s2 a' n l e->∃x,K x/\Co s s' (nm tb js x s2) a' n l e
 | [],s2,K,b,c=>⟨(),b,c⟩
 | [j],s2,K,b,c=>G0 ok d b c
 | j::o::js,s2,K,b,c=>by obtain ⟨x,k,g⟩:=G0 ok d b c;obtain ⟨y,m,i⟩:=IN ok d (js:=o::js) k g;exact ⟨(x,y),m,i⟩
theorem TS (m:Rel n β s a h w) {l f:List Nat} {s':St} {a':Act}:Co s s' (s.forget l f) a' n l f:=by
 refine ⟨λt v c e=> ?_,λk o e=> ?_⟩
 ·simp only [St.forget] at e;cases d:has l t with
  | true=>simp [d] at e
  | false=>
   simp only [d,cond_false] at e;obtain ⟨g,i⟩:=lV e;have j:c=[]:=by
    cases c with
    | nil=>rfl
    | cons p c=>exact (m.chain t v _ g p (List.mem_cons_self ..)).elim
   subst j;exact ⟨rfl,.inl ⟨g,xd d,i⟩⟩
 ·simp only [St.forget] at e;cases b:has f k with
  | true=>simp [b] at e
  | false=>simp only [b,cond_false] at e;exact .inl ⟨e,xd b⟩
theorem Ka {P:Program} {tb:Tb} (ok:tb.Ok P) {l mm:List Nat} {e:Nat->Nat} {s':St} {a':Act} {b:Hp} {d:World} (f:Rel n β s a h w) (k:gr l mm (cg s) β a h w (cg s') e a' b d) (g:Rel n e s' a' b d)
  {c:List J} {K:nz tb c->Prop} (i:mW tb c s' K):
  ∃x,K x/\Rel n e (nm tb c x (s.forget l mm)) a' b d/\gr l mm (cg s) β a h w (cg (nm tb c x (s.forget l mm))) e a' b d:=by
 obtain ⟨x,p,j⟩:=IN ok g i (TS (s':=s') (a':=a') f);obtain ⟨m,o⟩:=Pu f k g j;grind
end
theorem NM {n:Nat} {Q:Nat->Nat} {s:St} {a:Act} {h:Hp} {w:World} {l L:List Nat} {r:Nat->Nat} {u:St} {C:Act} {z:Hp} {E:World} {k:Nat} {K:St->Hp->Prop} (hk:k∈L) (g:gr l L (cg s) Q a h w (cg u) r C z E) (d:Rel n r u C z E) (hp:zo k u z K):
  ∃s2 q,K s2 q/\Rel n r s2 C q E/\gr l L (cg s) Q a h w (cg s2) r C q E:=by
 unfold zo at hp;split at hp
 ·rename_i k' off F M I;obtain ⟨A,O⟩:=jo hp;obtain ⟨q,a8⟩:=jo O;clear hp O;have A:=Nat.eq_of_beq_eq_true A;have q:=Nat.eq_of_beq_eq_true q;subst A q;obtain ⟨X,G,hw⟩:=d.box k F I trivial;have J:∀x,(z.set (r k) (.cells F.toArray G (0,0))) x=if x=r k then some (.cells F.toArray G (0,0)) else z x:=λx=>rfl
  have W:∀i y,cond (Nat.beq i k) none (u.m i)=some y->i≠k/\u.m i=some y:=λi y e=>by grind
  have B:∀t v c,cond (Nat.beq t k) (some (LV.v (.pointer (some ⟨r k,0,none⟩)),([]:aP))) (u.f t)=some (v,c)->(t=k/\v=LV.v (.pointer (some ⟨r k,0,none⟩))/\c=[])\/u.f t=some (v,c):=λt v c e=>by
   by_cases H:t=k
   ·grind
   ·rw [vx H] at e;exact .inr e
  refine ⟨_,_,a8 (r k) G X,⟨d.sz,λb o e=> ?_,λt v c e=> ?_,λt v c e p P=> ?_,λt v c e _ N=> ?_,λt v c e _ N=> ?_,λi y e _=> ?_,λi j e D _ _ U=> ?_,λ_ e=>e.elim,λ_ e=>e.elim⟩,?_⟩
  ·rw [J] at e;split at e
   ·grind
   ·exact d.sub b o e
  ·rcases B t v c e with ⟨rfl,_,_⟩ | e
   ·exact d.lt t _ _ M
   ·exact d.lt t v c e
  ·rcases B t v c e with ⟨rfl,_,rfl⟩ | e
   ·cases P
   ·exact d.chain t v c e p P
  ·have V:holds u c:=by
    have:c=[]:=by
     rcases B t v c e with ⟨_,_,h⟩ | e
     ·exact h
     ·cases c with
      | nil=>rfl
      | cons p c=>exact (d.chain t v _ e p (List.mem_cons_self ..)).elim
    subst this;exact bp _
   rcases B t v c e with ⟨rfl,rfl,rfl⟩ | e
   ·refine ⟨?_,λ_ _ _=>trivial⟩;exact (d.cur t _ _ M trivial (bp _)).1
   ·exact ⟨(d.cur t v c e trivial V).1,λ_ _ _=>trivial⟩
  ·have:c=[]:=by
    rcases B t v c e with ⟨_,_,h⟩ | e
    ·exact h
    ·cases c with
     | nil=>rfl
     | cons p c=>exact (d.chain t v _ e p (List.mem_cons_self ..)).elim
   subst this;exact absurd (bp _) N
  ·obtain ⟨A,q⟩:=W i y e;obtain ⟨S,R,T⟩:=d.box i y q trivial;refine ⟨?_,R,T⟩;rw [J,if_neg]
   ·exact S
   ·intro D;exact A (d.inj i k (by simp [q]) (by simp [I]) trivial trivial D)
  ·obtain ⟨ci,e⟩:=Option.ne_none_iff_exists'.1 e;obtain ⟨cj,D⟩:=Option.ne_none_iff_exists'.1 D;exact d.inj i j (by grind) (by grind) trivial trivial U
  ·refine ⟨g.tmp,g.beta,g.size,λb hb Y Z=> ?_,g.cv,λi H=> ?_,g.os,g.tape,g.output,g.defers⟩
   ·rw [J,if_neg]
    ·exact g.vg b hb Y Z
    ·rintro rfl;rcases g.fresh k ⟨by simp [I],trivial⟩ with ⟨e1,e2⟩ | e1
     ·grind
     ·omega
   ·obtain ⟨ci,e⟩:=Option.ne_none_iff_exists'.1 H.1;exact g.fresh i ⟨by grind,trivial⟩
 ·exact hp.elim
theorem il {x y:List Nat} {d:Nat}:d∈app x y↔d∈x\/d∈y:=by rw [qk,List.mem_append]
theorem n0 {a:Type} {c:Bool} {x:Option a} {y:a} (e:cond c x none=some y):c=true/\x=some y:=by grind
theorem G3 {l:Nat}:∀ {c:Code},kj c l=true->findLabel c l=none:=by
 intro c
 induction c with
 | seq a b g h=>
  intro e;simp only [kj] at e;cases d:kj a l with
  | false=>grind
  | true=>rw [d] at e;simp only [findLabel,g d];exact h e
 | label i=>
  intro e;simp only [kj] at e;by_cases f:i=l
  ·subst f;simp at e
  ·simp [findLabel,f]
 | _=>intro _;rfl
theorem G4 {x y:Code} {l:Nat} (b:∀a,x≠ .label a):pB (.seq x y) l=cond (kj x l) (pB y l) none:=by cases x<;>first | rfl | grind
theorem Wr {C:Ctx} {x y:Code} {l:Nat} {A:iw} {a:List Nat} {s:St} {E:Env} {h:Hp} (c:∀d,x≠ .label d):
  liftM C (.seq x y) (.fr l) A a s E h=liftM C x .full A.fst a s (E.fQ λe b=>liftM C y (.fr l) A.snd a e E b) h:=by
 cases x<;>first | rfl | exact absurd rfl (c _)
theorem Ws {C:Ctx} {x y:Code} {l:Nat} {A:iw} {b:List Nat} {s:St} {E:Env} {h:Hp} (f:∀g,x≠ .label g):
  liftM C (.seq x y) (.pr l) A b s E h=match (generalizing:=false) A with
   | .gj _ d e z _=>cond (jK e b) (liftM C x .full .tt b s (E.lg.fQ λc a=>
     mM (λ(R:nz C.tb d->Hp->Prop)=>liftM C y (.fr l) z e c (E.Ki l λc a=>mW C.tb d c λx=>R x a) a)
      (λx a=>liftM C y (.rs l) A.snd b (nm C.tb d x (c.forget (dH y) e)) E.lg a)) h) False
   | _=>liftM C x .full A.fst b s (E.lg.fQ λc a=>liftM C y (.pr l) A.snd b c E a) h:=by
 cases x<;>first | rfl | exact absurd rfl (f _)
theorem Yk {l:Nat} {Q:Exit->Act->World->Prop} {J:Act->World->Prop} {e:Exit} {a:Act} {w:World} (b:Exit.noGoto Q e a w):Exit.jump l J Q e a w:=by cases e<;>first | exact b | exact b.elim
theorem Wt {C:Ctx} {x y:Code} {l:Nat} {A:iw} {a:List Nat} {s:St} {E:Env} {h:Hp} (c:∀b,x≠ .label b):
  liftM C (.seq x y) (.rs l) A a s E h=liftM C y (.rs l) A a s E h:=by
 cases x<;>first | rfl | grind
theorem Sx {l:Nat} {r:Code}:∀ {c:Code},pB c l=some r->findLabel c l=some (.seq .skip r):=by
 intro c
 induction c with
 | seq x y g f=>
  intro e;by_cases d:∃a,x=.label a
  ·obtain ⟨a,rfl⟩:=d;obtain ⟨b,e⟩:=n0 e;obtain rfl:y=r:=Option.some.inj e;obtain rfl:=Nat.eq_of_beq_eq_true b;simp [findLabel]
  ·rw [G4 (λa e=>d ⟨a,e⟩)] at e;obtain ⟨b,e⟩:=n0 e;simp only [findLabel,G3 b];exact f e
 | _=>intro e;simp [pB] at e
theorem Gp {x y:Code} {l:Nat} (b:∀a,x≠ .label a):mI (.seq x y) l=cond (kj x l) (mI y l) none:=by cases x<;>first | rfl | grind
theorem Wu {C:Ctx} {x y:Code} {l:Nat} {A:iw} {a:List Nat} {s:St} {E:Env} {h:Hp} (c:∀b,x≠ .label b):
  liftM C (.seq x y) (.rz l) A a s E h=liftM C y (.rz l) A a s E h:=by
 cases x<;>first | rfl | grind
theorem RA {l:Nat} {r:Code}:∀ {c:Code},mI c l=some r->findLabel c l=some (.seq .skip r):=by
 intro c
 induction c with
 | seq x y i f=>
  intro e;by_cases d:∃a,x=.label a
  ·obtain ⟨a,rfl⟩:=d;by_cases b:a=l
   ·subst b;simp only [mI,Nat.beq_refl,cond_true] at e;obtain rfl:y=r:=Option.some.inj e;simp [findLabel]
   ·simp only [mI,vx b,cond_false] at e;have hb:¬((a==l)=true):=λh=>b (by simpa using h);simp only [findLabel,if_neg hb];exact f e
  ·rw [Gp (λa e=>d ⟨a,e⟩)] at e;obtain ⟨g,e⟩:=n0 e;simp only [findLabel,G3 g];exact f e
 | _=>intro e;simp [mI] at e
def s7 (P:Program) (x:Code) (Q:Exit->Act->World->Prop) (c:Code) (a:Act) (w:World):Prop:=
 ∀b k f,∃e d g,Q e d g/\Arrives P (lone (b.at a (.code c:: .inScope x::k)) f w) b k f e d g
def tf (P:Program) (x:Code) (Q:Exit->Act->World->Prop):Exit->Act->World->Prop
 | .goto l,a,w=>∃r,findLabel x l=some r/\s7 P x Q r a w
 | e,a,w=>Q e a w
theorem IP {P:Program} {x c:Code} {Q:Exit->Act->World->Prop} {a:Act} {w:World} (h:c.wp P (tf P x Q) a w):s7 P x Q c a w:=by
 intro b k j;obtain ⟨e,g,i,f,d⟩:=h b (.inScope x::k) j;cases e with
 | normal=>exact ⟨.normal,g,i,f,Steps.trans d (.one step_inScope)⟩
 | exit id=>exact ⟨.exit id,g,i,f,λv s=>d v (by simp [exitTo,s])⟩
 | goto l=>
  obtain ⟨r,p,u⟩:=f;have q:gotoIn l (.inScope x::k)=some (.code r:: .inScope x::k):=by simp [gotoIn,p]
  obtain ⟨n,m,y,t,o⟩:=u b k j;exact ⟨n,m,y,t,.of_steps (d _ q) o⟩
 | ret=>exact ⟨_,g,i,f,d⟩
 | panic ch=>exact ⟨_,g,i,f,d⟩
 | outgrown=>exact ⟨_,g,i,f,d⟩
theorem RB {P:Program} {x:Code} {Q:Exit->Act->World->Prop} {a:Act} {w:World} (h:s7 P x Q x a w):(Code.scope x).wp P Q a w:=by intro b k d;obtain ⟨e,c,i,g,f⟩:=h b k d;exact ⟨e,c,i,g,.of_steps (.one step_scope) f⟩
theorem Sy {C:Ctx} (ok:C.tb.Ok C.P) {n:Nat}:∀(c:Code),
  (∀(A:iw) (mok:List Nat) (s:St) (E:Env) (h:Hp),(∀d∈dH c,d<n)->liftM C c .full A mok s E h->∀(G:Nat->Nat) (a:Act) (w:World),Rel n G s a h w->
   ∀Q:Exit->Act->World->Prop,(∀e p j q f o,E e p j->Rel n q p f j o->gr (dH c) mok (cg s) G a h w (cg p) q f j o->Q (nG e) f o)->c.wp C.P Q a w)/\
  (∀l r,pB c l=some r->
   (∀(A:iw) (mok:List Nat) (s:St) (E:Env) (h:Hp),(∀d∈dH c,d<n)->liftM C c (.fr l) A mok s E h->∀(G:Nat->Nat) (a:Act) (w:World),Rel n G s a h w->
    ∀Q:Exit->Act->World->Prop,(∀p j q f o,E .fQ p j->Rel n q p f j o->gr (dH c) mok (cg s) G a h w (cg p) q f j o->r.wp C.P Q f o)->
    (∀e p j q f o,e≠ .fQ->E e p j->Rel n q p f j o->gr (dH c) mok (cg s) G a h w (cg p) q f j o->Q (nG e) f o)->c.wp C.P Q a w)/\
   (∀(A:iw) (mok:List Nat) (s:St) (E:Env) (h:Hp),(∀d∈dH c,d<n)->liftM C c (.rs l) A mok s E h->∀(G:Nat->Nat) (a:Act) (w:World),Rel n G s a h w->
    ∀Q:Exit->Act->World->Prop,(∀e p j q f o,E e p j->Rel n q p f j o->gr (dH c) mok (cg s) G a h w (cg p) q f j o->Q (nG e) f o)->r.wp C.P Q a w)/\
   (∀(A:iw) (mok:List Nat) (s:St) (E:Env) (h:Hp),(∀d∈dH c,d<n)->liftM C c (.pr l) A mok s E h->∀(G:Nat->Nat) (a:Act) (w:World),Rel n G s a h w->
    ∀Q:Exit->Act->World->Prop,(∀e p j q f o,(∀i,e≠ .jF i)->E e p j->Rel n q p f j o->gr (dH c) mok (cg s) G a h w (cg p) q f j o->Q (nG e) f o)->
    c.wp C.P (Exit.jump l (λf o=>r.wp C.P (Exit.noGoto Q) f o) Q) a w))/\
  ∀l r,mI c l=some r->
   ∀(A:iw) (mok:List Nat) (s:St) (E:Env) (h:Hp),(∀d∈dH c,d<n)->liftM C c (.rz l) A mok s E h->∀(G:Nat->Nat) (a:Act) (w:World),Rel n G s a h w->
    ∀Q:Exit->Act->World->Prop,(∀e p j q f o,E e p j->Rel n q p f j o->gr (dH c) mok (cg s) G a h w (cg p) q f j o->Q (nG e) f o)->r.wp C.P Q a w:=by
 intro c
 induction c with
 | skip=>refine ⟨?_,λl r e=>by simp [pB] at e,λl r e=>by simp [mI] at e⟩;intro A mok s E h _ hv G a w H Q F;exact wp_skip (F .fQ s h G a w hv H (gr.refl _ _))
 | ret=>refine ⟨?_,λl r e=>by simp [pB] at e,λl r e=>by simp [mI] at e⟩;intro A mok s E h _ hv G a w H Q F;exact wp_ret (F .ret s h G a w hv H (gr.refl _ _))
 | exit i=>refine ⟨?_,λl r e=>by simp [pB] at e,λl r e=>by simp [mI] at e⟩;intro A mok s E h _ hv G a w H Q F;exact wp_exit (F (.ext i) s h G a w hv H (gr.refl _ _))
 | goto i=>refine ⟨?_,λl r e=>by simp [pB] at e,λl r e=>by simp [mI] at e⟩;intro A mok s E h _ hv G a w H Q F;exact wp_goto (F (.jF i) s h G a w hv H (gr.refl _ _))
 | label i=>refine ⟨?_,λl r e=>by simp [pB] at e,λl r e=>by simp [mI] at e⟩;intro A mok s E h _ hv G a w H Q F;exact wp_label (F .fQ s h G a w hv H (gr.refl _ _))
 | region id b8 d2=>
  refine ⟨?_,λl r e=>by simp [pB] at e,λl r e=>by simp [mI] at e⟩;intro A mok s E h J hv G a w H Q F;have e0:∀p:St,∀k,cg p.clean k↔cg p k:=λp k=>.rfl;cases d2 with
  | true=>simp only [liftM] at hv;obtain ⟨hp,hv⟩:=jo hv;obtain ⟨h1,hp⟩:=eO hp;exact U3 ok h1 hp J H hv λp j q f o hk B D=>F .fQ p.clean j q f o hk B D
  | false=>
   simp only [liftM] at hv;obtain ⟨hp,hv⟩:=jo hv;unfold yb at hp;obtain ⟨h1,hp⟩:=eO hp;have d8:=H.start (j4 C.aJ b8.toList);have d1:∀g:Bool,(g=false->Ce b8.toList=true)->(g=true->(bH b8.toList).Nodup/\wL b8.toList 0=true)->(Code.region id b8 false).wp C.P Q a w:=by
    intro g d6 d7;refine wp_region ?_;have:=Hx (n:=n) (mok:=mok) (K:=λp j=>E .fQ p.clean j) (Q:=Q) ok g J d6 d7 b8.toList [] G _ a h w rfl (Lv h1) hv
     (d8.congr (λ_=>.rfl) (λ_=>.rfl) (λ_ e=>e.elim) (λ_ e=>e)) (λp j q f o hk B D=>F .fQ p.clean j q f o hk B.clean
      (D.mono (λ_ e=>e) (λ_ e=>e) (λk e=>Hw e) (λ_ e=>e)))
    rw [List.range_eq_range'];simpa using this
   cases c9:Ce b8.toList with
   | true=>exact d1 false (λ_=>c9) (λe=>by cases e)
   | false=>rw [c9] at hp;simp only [cond_false] at hp;obtain ⟨M,h3⟩:=eO hp;exact d1 true (λe=>by cases e) (λ_=>⟨Lv M,h3⟩)
 | seq x y b5 V=>
  have S:∀d∈dH x,d∈dH (.seq x y):=λd L=>il.2 (.inl L);have T:∀d∈dH y,d∈dH (.seq x y):=λd L=>il.2 (.inr L);refine ⟨?_,λl r e=> ?_,λl r e=> ?_⟩
  rotate_left
  rotate_left
  ·intro A mok s E h J hv G a w H Q F;have Y:∀d∈dH y,d<n:=λd L=>J d (T d L);by_cases hx:∃l',x=.label l'
   ·obtain ⟨l',rfl⟩:=hx;by_cases hl:l'=l
    ·subst hl;simp only [mI,Nat.beq_refl,cond_true] at e;obtain rfl:y=r:=Option.some.inj e;simp only [liftM,Nat.beq_refl,cond_true] at hv;exact V.1 _ _ _ _ _ Y hv G a w H Q λe p j q f o u B D=>F e p j q f o u B (D.mono T (λ_ e=>e) (λ_ e=>e) (λ_ e=>e))
    ·simp only [mI,vx hl,cond_false] at e;simp only [liftM,vx hl,cond_false] at hv;exact V.2.2 l r e _ mok s E h Y hv G a w H Q λW p j q f o u B D=>F W p j q f o u B (D.mono T (λ_ e=>e) (λ_ e=>e) (λ_ e=>e))
   ·rw [Gp (λl' e=>hx ⟨l',e⟩)] at e;obtain ⟨-,e⟩:=n0 e;rw [Wu (λl' e=>hx ⟨l',e⟩)] at hv;exact V.2.2 l r e _ mok s E h Y hv G a w H Q λW p j q f o u B D=>F W p j q f o u B (D.mono T (λ_ e=>e) (λ_ e=>e) (λ_ e=>e))
  rotate_left
  ·by_cases hx:∃l',x=.label l'
   ·obtain ⟨l',rfl⟩:=hx;obtain ⟨-,e⟩:=n0 e;obtain rfl:y=r:=Option.some.inj e;refine ⟨λA mok s E h J hv G a w H Q h1 _=> ?_,λA mok s E h J hv G a w H Q F=> ?_,λA mok s E h J hv=>hv.elim⟩
    ·exact wp_seq (wp_label (h1 s h G a w hv H (gr.refl _ _)))
    ·exact V.1 _ _ _ _ _ (λd L=>J d (T d L)) hv G a w H Q λe p j q f o u B D=>F e p j q f o u B (D.mono T (λ_ e=>e) (λ_ e=>e) (λ_ e=>e))
   ·rw [G4 (λl' e=>hx ⟨l',e⟩)] at e;obtain ⟨-,e⟩:=n0 e;refine ⟨λA mok s E h J hv G a w H Q h1 M=> ?_,λA mok s E h J hv G a w H Q F=> ?_,λA mok s E h J hv G a w H Q F=> ?_⟩
    ·rw [Wr (λl' e=>hx ⟨l',e⟩)] at hv;refine wp_seq ?_;refine b5.1 _ mok s _ h (λd L=>J d (S d L)) hv G a w H _ λW p j q f o u B D=> ?_;have b1:=D.mono (mm':=mok) S (λ_ e=>e) (λ_ e=>e) (λ_ e=>e);cases W with
     | fQ=>
      exact ((V.2.1 l r e).1 _ mok _ E j (λd L=>J d (T d L)) u q f o B Q
       (λs2 M N a2 O a8 b0 b3=>h1 s2 M N a2 O a8 b0 (b1.trans (b3.mono T (λ_ e=>e) (λ_ e=>e) (λ_ e=>e))))
       (λe2 s2 d3 N a2 O c4 a8 b0 b3=>M e2 s2 d3 N a2 O c4 a8 b0 (b1.trans (b3.mono T (λ_ e=>e) (λ_ e=>e) (λ_ e=>e)))))
     | ret=>exact M .ret p j q f o (by simp) u B b1
     | ext i=>exact M (.ext i) p j q f o (by simp) u B b1
     | jF i=>exact M (.jF i) p j q f o (by simp) u B b1
    ·rw [Wt (λl' e=>hx ⟨l',e⟩)] at hv;exact (V.2.1 l r e).2.1 _ mok s E h (λd L=>J d (T d L)) hv G a w H Q λW p j q f o u B D=>F W p j q f o u B (D.mono T (λ_ e=>e) (λ_ e=>e) (λ_ e=>e))
    ·rw [Ws (λl' e=>hx ⟨l',e⟩)] at hv;have Y:∀d∈dH y,d<n:=λd L=>J d (T d L);refine wp_seq ?_;split at hv
     ·rename_i js mm z _;obtain ⟨b7,hv⟩:=jo hv;have U:=CN b7;refine b5.1 _ mok s _ h (λd L=>J d (S d L)) hv G a w H _ λW s0 h0 b6 a0 w0 u a9 c3=> ?_;have b4:=c3.mono (mm':=mok) S (λ_ e=>e) (λ_ e=>e) (λ_ e=>e);cases W with
      | fQ=>
       obtain ⟨R,hA,hB⟩:=u;have c6:∀p j q f o,Rel n q p f j o->gr (dH y) mm (cg s0) b6 a0 h0 w0 (cg p) q f j o->mW C.tb js p (λz=>R z j)->r.wp C.P (Exit.noGoto Q) f o:=by
        intro p j q f o B D hg;obtain ⟨z,hz,Z,b2⟩:=Ka ok a9 D B hg;refine (V.2.1 l r e).2.1 _ mok _ _ j Y (hB z j hz) q f o Z _ λe s2 M N a2 O u c1 c8=> ?_;have b9:=b4.trans (((b2.mono (l':=dH y) (mm':=mok) (λ_ e=>e) U (λ_ e=>e) (λ_ e=>e)).trans c8).mono T (λ_ e=>e) (λ_ e=>e) (λ_ e=>e));cases e with
        | fQ=>exact F .fQ s2 M N a2 O (by simp) u c1 b9
        | ret=>exact F .ret s2 M N a2 O (by simp) u c1 b9
        | ext i=>exact F (.ext i) s2 M N a2 O (by simp) u c1 b9
        | jF i=>exact u.elim
       refine (V.2.1 l r e).1 _ mm s0 _ h0 Y hA b6 a0 w0 a9 _ (λp j q f o u B D=> ?_) λe p j q f o c4 u B D=> ?_
       ·exact wp_mono (c6 p j q f o B D u) λ_ _ _=>Yk
       ·have b9:=b4.trans (D.mono (mm':=mok) T U (λ_ e=>e) (λ_ e=>e));cases e with
        | fQ=>grind
        | ret=>exact F .ret p j q f o (by simp) u B b9
        | ext i=>exact F (.ext i) p j q f o (by simp) u B b9
        | jF i=>
         by_cases X:i=l
         ·subst X;simp only [Env.Ki,Nat.beq_refl,cond_true] at u;exact ⟨rfl,c6 p j q f o B D u⟩
         ·simp only [Env.Ki,vx X,cond_false] at u
      | ret=>exact F .ret s0 h0 b6 a0 w0 (by simp) u a9 b4
      | ext i=>exact F (.ext i) s0 h0 b6 a0 w0 (by simp) u a9 b4
      | jF i=>exact u.elim
     ·refine b5.1 _ mok s _ h (λd L=>J d (S d L)) hv G a w H _ λW s0 h0 b6 a0 w0 u a9 c3=> ?_;have b4:=c3.mono (mm':=mok) S (λ_ e=>e) (λ_ e=>e) (λ_ e=>e);cases W with
      | fQ=>exact (V.2.1 l r e).2.2 _ mok s0 E h0 Y u b6 a0 w0 a9 Q λW p j q f o c4 u B D=>F W p j q f o c4 u B (b4.trans (D.mono T (λ_ e=>e) (λ_ e=>e) (λ_ e=>e)))
      | ret=>exact F .ret s0 h0 b6 a0 w0 (by simp) u a9 b4
      | ext i=>exact F (.ext i) s0 h0 b6 a0 w0 (by simp) u a9 b4
      | jF i=>exact u.elim
  intro A mok s E h J hv G a w H Q F;have c0:∀d∈dH x,d<n:=λd L=>J d (il.2 (.inl L));have Y:∀d∈dH y,d<n:=λd L=>J d (il.2 (.inr L));refine wp_seq ?_;unfold liftM at hv;split at hv
  ·rename_i js mm _ _;obtain ⟨b7,R,hA,hB⟩:=jo hv;have U:=CN b7;refine b5.1 _ mm s _ h c0 hA G a w H _ λe p j q f o u B D=> ?_;cases e with
   | fQ=>obtain ⟨z,hz,Z,b2⟩:=Ka ok H D B u;refine V.1 _ mok _ E j Y (hB z j hz) q f o Z Q λe2 s2 M N a2 O a8 b0 b3=> ?_;exact F e2 s2 M N a2 O a8 b0 ((b2.mono S U (λ_ e=>e) (λ_ e=>e)).trans (b3.mono T (λ_ e=>e) (λ_ e=>e) (λ_ e=>e)))
   | ret=>exact F .ret p j q f o u B (D.mono S U (λ_ e=>e) (λ_ e=>e))
   | ext i=>exact F (.ext i) p j q f o u B (D.mono S U (λ_ e=>e) (λ_ e=>e))
   | jF i=>exact F (.jF i) p j q f o u B (D.mono S U (λ_ e=>e) (λ_ e=>e))
  ·rename_i k _ _;obtain ⟨hk,hv⟩:=jo hv;have hk:=(qq _ _).1 hk;refine b5.1 _ mok s _ h c0 hv G a w H _ λe p j q f o u B D=> ?_;cases e with
   | fQ=>obtain ⟨s1,h1,u,c7,b1⟩:=NM (K:=λs2 M=>liftM C y .full _ mok s2 E M) hk D B u;refine V.1 _ mok _ E h1 Y u q f o c7 Q λe2 s2 M N a2 O a8 b0 b3=> ?_;exact F e2 s2 M N a2 O a8 b0 ((b1.mono S (λ_ e=>e) (λ_ e=>e) (λ_ e=>e)).trans (b3.mono T (λ_ e=>e) (λ_ e=>e) (λ_ e=>e)))
   | ret=>exact F .ret p j q f o u B (D.mono S (λ_ e=>e) (λ_ e=>e) (λ_ e=>e))
   | ext i=>exact F (.ext i) p j q f o u B (D.mono S (λ_ e=>e) (λ_ e=>e) (λ_ e=>e))
   | jF i=>exact F (.jF i) p j q f o u B (D.mono S (λ_ e=>e) (λ_ e=>e) (λ_ e=>e))
  ·refine b5.1 _ mok s _ h c0 hv G a w H _ λe p j q f o u B D=> ?_;cases e with
   | fQ=>refine V.1 _ mok _ E j Y u q f o B Q λe2 s2 M N a2 O a8 b0 b3=> ?_;exact F e2 s2 M N a2 O a8 b0 ((D.mono S (λ_ e=>e) (λ_ e=>e) (λ_ e=>e)).trans (b3.mono T (λ_ e=>e) (λ_ e=>e) (λ_ e=>e)))
   | ret=>exact F .ret p j q f o u B (D.mono S (λ_ e=>e) (λ_ e=>e) (λ_ e=>e))
   | ext i=>exact F (.ext i) p j q f o u B (D.mono S (λ_ e=>e) (λ_ e=>e) (λ_ e=>e))
   | jF i=>exact F (.jF i) p j q f o u B (D.mono S (λ_ e=>e) (λ_ e=>e) (λ_ e=>e))
 | cond c x y b5 V=>
  refine ⟨?_,λl r e=>by simp [pB] at e,λl r e=>by simp [mI] at e⟩;intro A mok s E h J hv G a w H Q F;have c0:∀d∈dH x,d<n:=λd L=>J d (il.2 (.inl L));have Y:∀d∈dH y,d<n:=λd L=>J d (il.2 (.inr L));simp only [liftM] at hv;obtain ⟨v,d5,hv⟩:=jC hv;split at hv
  ·rename_i t;have hc:=bn (Bz H (x:=c) λ_ _=>trivial) (bp s) d5;refine wp_cond_split (t:=t) hc (λht=> ?_) (λht=> ?_)
   ·rw [if_pos ht] at hv;exact b5.1 _ mok s E h c0 hv G a w H Q λe p j q f o u B D=>F e p j q f o u B (D.mono (λd L=>il.2 (.inl L)) (λ_ e=>e) (λ_ e=>e) (λ_ e=>e))
   ·rw [if_neg (by rw [ht];simp)] at hv;exact V.1 _ mok s E h Y hv G a w H Q λe p j q f o u B D=>F e p j q f o u B (D.mono (λd L=>il.2 (.inr L)) (λ_ e=>e) (λ_ e=>e) (λ_ e=>e))
  ·exact hv.elim
 | block id x ih=>
  refine ⟨?_,λl r e=>by simp [pB] at e,λl r e=>by simp [mI] at e⟩;intro A mok s E h J hv G a w H Q F;refine wp_block ?_;unfold liftM at hv;split at hv
  ·rename_i js mm _;obtain ⟨b7,R,hA,hB⟩:=jo hv;have U:=CN b7;refine ih.1 _ mm s _ h J hA G a w H _ λe p j q f o u B D=> ?_;have c6:mW C.tb js p (λx=>R x j)->Q .normal f o:=λhg=>by obtain ⟨z,hz,Z,b2⟩:=Ka ok H D B hg;exact F .fQ _ j q f o (hB z j hz) Z (b2.mono (λ_ e=>e) U (λ_ e=>e) (λ_ e=>e))
   cases e with
   | fQ=>exact c6 u
   | ret=>exact F .ret p j q f o u B (D.mono (λ_ e=>e) U (λ_ e=>e) (λ_ e=>e))
   | ext i=>
    simp only [nG,Exit.inBlock];by_cases X:i=id
    ·subst X;simp only [Env.xL,Nat.beq_refl,cond_true] at u;grind
    ·rw [if_neg X];simp only [Env.xL,vx X,cond_false] at u;exact F (.ext i) p j q f o u B (D.mono (λ_ e=>e) U (λ_ e=>e) (λ_ e=>e))
   | jF i=>exact F (.jF i) p j q f o u B (D.mono (λ_ e=>e) U (λ_ e=>e) (λ_ e=>e))
  ·refine ih.1 _ mok s _ h J hv G a w H _ λe p j q f o u B D=> ?_;cases e with
   | fQ=>exact F .fQ p j q f o u B D
   | ret=>exact F .ret p j q f o u B D
   | ext i=>
    simp only [nG,Exit.inBlock];by_cases X:i=id
    ·subst X;simp only [Env.xL,Nat.beq_refl,cond_true] at u;rw [if_pos rfl];exact F .fQ p j q f o u B D
    ·rw [if_neg X];simp only [Env.xL,vx X,cond_false] at u;exact F (.ext i) p j q f o u B D
   | jF i=>exact F (.jF i) p j q f o u B D
 | scope x ih=>
  refine ⟨?_,λl r e=>by simp [pB] at e,λl r e=>by simp [mI] at e⟩;intro A mok s E h J hv G a w H Q F;unfold liftM at hv;split at hv
  ·rename_i l _;split at hv
   ·rename_i r c2;refine wp_scope_jumps l (λf o=>r.wp C.P (Exit.noGoto Q) f o) (λ_ _=>0) (Sx c2) ?_ λf o hJ=>wp_seq (wp_skip (wp_mono hJ λ_ _ _=>Yk));exact (ih.2.1 l r c2).2.2 _ mok s E h J hv G a w H Q λe p j q f o _ u B D=>F e p j q f o u B D
   ·exact hv.elim
  ·rename_i l0 a0 x0;refine RB (IP ?_);have chain:∀(A:iw) (E':Env),(∀e p j q f o,E' e p j->Rel n q p f j o->gr (dH x) mok (cg s) G a h w (cg p) q f j o->tf C.P x Q (nG e) f o)->
     ∀e p j q f o,tG (λl f E s h=>match mI x l with
      | some _=>liftM C x (.rz l) f mok s E h
      | none=>False) A E' e p j->Rel n q p f j o->gr (dH x) mok (cg s) G a h w (cg p) q f j o->tf C.P x Q (nG e) f o:=by
    intro A
    induction A with
    | gd l b y _ V=>
     intro E' hE;refine V _ λe p j q f o u B D=> ?_;cases e with
     | fQ=>exact hE .fQ p j q f o u B D
     | ret=>exact hE .ret p j q f o u B D
     | ext i=>exact hE (.ext i) p j q f o u B D
     | jF i=>
      by_cases X:i=l
      ·subst X;simp only [Env.put,Nat.beq_refl,cond_true] at u;split at u
       ·rename_i r c2;refine ⟨_,RA c2,IP (wp_seq (wp_skip ?_))⟩;exact ih.2.2 i r c2 _ mok p _ j J u q f o B _ λe2 s2 M N a2 O a8 Z b2=>hE e2 s2 M N a2 O a8 Z (D.trans b2)
       ·exact u.elim
      ·simp only [Env.put,vx X,cond_false] at u;exact hE (.jF i) p j q f o u B D
    | _=>intro E' hE;exact hE
   refine ih.1 _ mok s _ h J hv G a w H _ λe p j q f o u B D=> ?_;refine chain (.gd l0 a0 x0) E.lg (λe p j q f o u B D=> ?_) e p j q f o u B D;cases e with
   | fQ=>exact F .fQ p j q f o u B D
   | ret=>exact F .ret p j q f o u B D
   | ext i=>exact F (.ext i) p j q f o u B D
   | jF i=>exact u.elim
  ·refine wp_scope_straight ?_;refine ih.1 _ mok s _ h J hv G a w H _ λe p j q f o u B D=> ?_;cases e with
   | fQ=>exact F .fQ p j q f o u B D
   | ret=>exact F .ret p j q f o u B D
   | ext i=>exact F (.ext i) p j q f o u B D
   | jF i=>exact u.elim
 | loop x ih=>
  refine ⟨?_,λl r e=>by simp [pB] at e,λl r e=>by simp [mI] at e⟩;intro A mok s E h J hv G a w H Q F;unfold liftM at hv;split at hv
  ·rename_i js mm _;obtain ⟨b7,hv⟩:=jo hv;have U:=CN b7;obtain ⟨x0,d9,a9,c3⟩:=Ka ok H (gr.refl (l:=dH x) (mm:=mm)) H hv;obtain ⟨I,μ,hI,d4⟩:=d9;refine QU (λm f o=>∃z j q,I z j/\μ z j=m/\Rel n q (nm C.tb js z (s.forget (dH x) mm)) f j o/\gr (dH x) mm (cg s) G a h w (cg (nm C.tb js z (s.forget (dH x) mm))) q f j o)
    ⟨_,x0,h,G,hI,rfl,a9,c3⟩ ?_
   rintro m f o ⟨z,j,q,hz,rfl,c7,b1⟩;refine ih.1 _ mm _ _ j J (d4 z j hz) q f o c7 _ λe s2 M N a2 O u Z b2=> ?_;have c5:=b1.trans b2;cases e with
   | fQ=>obtain ⟨z2,d0,c1,c8⟩:=Ka ok H c5 Z u;exact ⟨_,d0.2,z2,M,N,d0.1,rfl,c1,c8⟩
   | ret=>exact F .ret s2 M N a2 O u Z (c5.mono (λ_ e=>e) U (λ_ e=>e) (λ_ e=>e))
   | ext i=>exact F (.ext i) s2 M N a2 O u Z (c5.mono (λ_ e=>e) U (λ_ e=>e) (λ_ e=>e))
   | jF i=>exact F (.jF i) s2 M N a2 O u Z (c5.mono (λ_ e=>e) U (λ_ e=>e) (λ_ e=>e))
  ·exact hv.elim
 | _=>exact ⟨λA mok s E h _ hv=>hv.elim,λl r e=>by simp [pB] at e,λl r e=>by simp [mI] at e⟩
theorem mZ {C:Ctx} (ok:C.tb.Ok C.P) {n:Nat} (c:Code) (A:iw) (g:List Nat) (s:St) (E:Env) (h:Hp) (o:∀d∈dH c,d<n) (hv:liftM C c .full A g s E h) (k:Nat->Nat) (a:Act) (w:World) (p:Rel n k s a h w)
  (Q:Exit->Act->World->Prop) (m:∀e i f l b j,E e i f->Rel n l i b f j->gr (dH c) g (cg s) k a h w (cg i) l b f j->Q (nG e) b j):c.wp C.P Q a w:=
 (Sy ok c).1 A g s E h o hv k a w p Q m
def vy (b:Array Value):ResultVar->Sem Value
 | .tmp t=>pure (b.getD t undef)
 | .cell a t=>do loadVar t (<-asAddr (b.getD a undef))
def B8 :List Value->Value
 | [v]=>v
 | vs=>.tuple vs.toArray
theorem lZ {P:Program} {fn:Func} {b:Array Value} {a:List Value} {w:World} (h:(fn.results.toList.mapM (vy b)).run P w=.ok a w):(results fn b).run P w=.ok (B8 a) w:=by
 have e:results fn b=((fn.results.mapM (vy b))>>=λa=>pure (if h:a.size=1 then a[0] else .tuple a)):=by unfold results;congr 1
 rw [e,Array.mapM_eq_mapM_toList,map_eq_pure_bind];simp only [Sem.run_bind,h,Result.andThen_ok,Sem.run_pure];cases a with
 | nil=>rfl
 | cons v a=>cases a<;>simp [B8]
theorem TT {P:Program} {tb:Tb} (ok:tb.Ok P) {t:Nat} {e:Ty} (c:tb.ty t=some e) {w:World} {a:Addr} {x:(dp tb t).T}
  (b:∀(j:Nat) (v:Value),(aY ((dp tb t).enc x))[j]? =some v->w.cell? (a.add j)=some v):(loadVar t a).run P w=.ok ((dp tb t).enc x) w:=by
 revert x;rw [JO,c];intro x b;exact K9 ok c b
section
variable {C:Ctx} {n:Nat} {β:Nat->Nat} {s:St} {a:Act} {h:Hp} {w:World}
theorem nu (ok:C.tb.Ok C.P) (d:Rel n β s a h w) {r:ResultVar} {t:Nat} {K:(dp C.tb t).T->Prop} (hv:mz C s r t K):∃x,K x/\(vy a.tmps r).run C.P w=.ok ((dp C.tb t).enc x) w:=by
 cases r with
 | tmp i=>
  simp only [mz] at hv;split at hv
  ·rename_i v c
   ·obtain ⟨x,f,hv⟩:=wT hv;refine ⟨x,hv,?_⟩;have:=(d.cur i _ [] c trivial (bp _)).1;rw [f];simp only [vy,Sem.run_pure];exact congrArg (λv=>Result.ok v w) this
  ·exact hv.elim
 | cell i y=>
  simp only [mz] at hv;obtain ⟨b,hv⟩:=jo hv;have b:=Nat.eq_of_beq_eq_true b;subst b;split at hv
  ·rename_i k e c q;split at hv
   ·rename_i l u;split at hv
    ·rename_i v p
     ·obtain ⟨x,f,hv⟩:=wT hv;refine ⟨x,hv,?_⟩;have o:=IM ok p f;obtain ⟨_,z,hb⟩:=d.box k l u trivial;have:=(d.cur i _ [] c trivial (bp _)).1;have m:a.tmps.getD i undef=.pointer (some ⟨β k,0,none⟩):=this;simp only [vy,m,asAddr,Sem.run_bind,Sem.run_pure,Result.andThen_ok];refine TT ok q λj v g=> ?_;rw [o] at g;rw [jD,A2 hb];simpa using g
    ·exact hv.elim
   ·exact hv.elim
  ·exact hv.elim
theorem qc (ok:C.tb.Ok C.P) (b:Rel n β s a h w) {rs:List ResultVar} {p:List Nat} {K:(bm C.tb p).T->Hp->Prop} (hv:se C s h rs p K):
  ∃x k,K x h/\(rs.mapM (vy a.tmps)).run C.P w=.ok k w/\B8 k=(bm C.tb p).enc x:=by
 have step:∀ {r:ResultVar} {rs:List ResultVar} {v:Value} {k:List Value},(vy a.tmps r).run C.P w=.ok v w->(rs.mapM (vy a.tmps)).run C.P w=.ok k w->((r::rs).mapM (vy a.tmps)).run C.P w=.ok (v::k) w:=by intro r rs v k c d;simp only [List.mapM_cons,Sem.run_bind,c,d,Result.andThen_ok,Sem.run_pure]
 have nil:(([]:List ResultVar).mapM (vy a.tmps)).run C.P w=.ok [] w:=by simp
 unfold se at hv;split at hv
 ·exact ⟨(),[],hv,nil,rfl⟩
 ·obtain ⟨x,e,c⟩:=nu ok b hv;exact ⟨x,_,e,step c nil,rfl⟩
 ·obtain ⟨f,hv,c⟩:=nu ok b hv;obtain ⟨g,e,d⟩:=nu ok b hv;exact ⟨(f,g),_,e,step c (step d nil),rfl⟩
 ·obtain ⟨f,hv,c⟩:=nu ok b hv;obtain ⟨g,hv,d⟩:=nu ok b hv;obtain ⟨j,e,i⟩:=nu ok b hv;exact ⟨(f,g,j),_,e,step c (step d (step i nil)),rfl⟩
 ·obtain ⟨f,hv,c⟩:=nu ok b hv;obtain ⟨g,hv,d⟩:=nu ok b hv;obtain ⟨j,hv,i⟩:=nu ok b hv;obtain ⟨m,e,l⟩:=nu ok b hv;exact ⟨(f,g,j,m),_,e,step c (step d (step i (step l nil))),rfl⟩
 ·obtain ⟨f,hv,c⟩:=nu ok b hv;obtain ⟨g,hv,d⟩:=nu ok b hv;obtain ⟨j,hv,i⟩:=nu ok b hv;obtain ⟨m,hv,l⟩:=nu ok b hv;obtain ⟨q,e,o⟩:=nu ok b hv;exact ⟨(f,g,j,m,q),_,e,step c (step d (step i (step l (step o nil)))),rfl⟩
 ·obtain ⟨f,hv,c⟩:=nu ok b hv;obtain ⟨g,hv,d⟩:=nu ok b hv;obtain ⟨j,hv,i⟩:=nu ok b hv;obtain ⟨m,hv,l⟩:=nu ok b hv;obtain ⟨q,hv,o⟩:=nu ok b hv;obtain ⟨y,hv,t⟩:=nu ok b hv;obtain ⟨z,e,u⟩:=nu ok b hv;exact ⟨(f,g,j,m,q,y,z),_,e,step c (step d (step i (step l (step o (step t (step u nil)))))),rfl⟩
 ·exact hv.elim
end
theorem nX {n:Nat} {l:List Nat} (h:ra n l=true):∀d∈l,d<n:=by
 induction l with
 | nil=>simp
 | cons a l e=>
  simp only [ra] at h;obtain ⟨b,c⟩:=eO h;intro d hd;rcases List.mem_cons.1 hd with rfl | hd
  ·have:d+1<=n:=by simpa [Nat.blt] using b
   exact this
  grind
theorem U4 {C:Ctx} (ok:C.tb.Ok C.P) {g:FuncId} {f:Func} {c:Code} {A:iw} {args:List Value} {K:(bm C.tb f.resultTypes.toList).T->Hp->Prop} {h:Hp} (G:C.P.funcs[g]? =some f) (hb:f.body=some c)
  (hv:yZ C f A args K h):aa C.P g args (bm C.tb f.resultTypes.toList) K h:=by
 intro w N;unfold yZ at hv;obtain ⟨F,hv⟩:=jo hv;obtain ⟨s,d⟩:=eO F;have s:args.length<=f.ntmps:=Nat.le_of_ble_eq_true s;have E:uP f=c:=by unfold uP;rw [hb]
 rw [E] at hv d;refine calls_of_wp G hb ?_;have H:∀(t:Nat) (v:Value),args[t]? =some v->(args.toArray++Array.replicate (f.ntmps-args.toArray.size) undef)[t]? =some v:=by grind
 have z:∀(t:Nat) (l:LV) (c:aP),re args t=some (l,c)->∃v,args[t]? =some v/\l=.v v/\c=[]:=by intro t l c e;unfold re at e;rw [mr] at e;grind
 have L:Rel f.ntmps (λ_=>0) {f:=re args,m:=λ_=>none} {tmps:=args.toArray++Array.replicate (f.ntmps-args.toArray.size) undef,defers:=[]} h w:=by
  refine ⟨by simp;omega,N,λt l c e=> ?_,λt l c e p hp=> ?_,λt l c e _ _=> ?_,λt l c e _ I=> ?_,λk U e _=>(by cases e),λk V e=>absurd rfl e,λ_ e=>e.elim,λ_ e=>e.elim⟩
  ·grind
  ·grind
  ·obtain ⟨v,y,rfl,rfl⟩:=z t l c e;refine ⟨?_,λ_ _ _=>trivial⟩;simp only [Act.eval,LVal,Array.getD_eq_getD_getElem?,H t v y,Option.getD_some]
  ·obtain ⟨v,y,rfl,rfl⟩:=z t l c e;exact absurd (bp _) I
 refine mZ ok c A C.aJ _ _ h (nX d) hv _ _ w L _ λe S o X r n j D a=> ?_;have O:Step h o w n:=⟨D.sub,a.size,λb hb B=>⟨a.cv b hb B (λk _ q=>absurd rfl q.1),a.vg b hb B (λk _ q=>absurd rfl q.1)⟩,a.os,a.tape,a.output⟩;have done:se C S o f.results.toList f.resultTypes.toList K->r.defers=[]/\∃v,(results f r.tmps).run C.P n=.ok v n/\∃u d,Ending.returned v=.returned u/\(∃x,u=(bm C.tb f.resultTypes.toList).enc x/\K x d)/\Step h d w n:=by intro R;obtain ⟨x,W,J,M,Q⟩:=qc ok D R;exact ⟨a.defers,_,lZ M,_,o,rfl,⟨x,Q,J⟩,O⟩
 cases e with
 | fQ=>exact done j
 | ret=>exact done j
 | ext i=>exact j.elim
 | jF i=>exact j.elim
section
variable {α β:Type _} {p q:Nat->α->Prop}
def rowAll (p:Nat->α->Prop):Nat->List (Option α)->Prop
 | _,[]=>True
 | n,none::l=>rowAll p (n+1) l
 | n,some a::l=>p n a/\rowAll p (n+1) l
def kL (p:Nat->α->Prop):Nat->List (List (Option α))->Prop
 | _,[]=>True
 | n,r::l=>rowAll p n r/\kL p (n+16) l
def ji (f:Nat->α->β):Nat->List (Option α)->List β
 | _,[]=> []
 | n,none::l=>ji f (n+1) l
 | n,some a::l=>f n a::ji f (n+1) l
def hU (f:Nat->α->β):Nat->List (List (Option α))->List (List β)
 | _,[]=> []
 | n,r::l=>ji f n r::hU f (n+16) l
theorem rowAll.at :∀ {l:List (Option α)} {n j:Nat} {a:α},rowAll p n l->nth l j=some (some a)->p (n+j) a
 | [],_,_,_,_,h=>by cases h
 | none::l,n,0,_,_,h=>by cases h
 | some b::l,n,0,a,h,e=>by cases e;exact h.1
 | none::l,n,j+1,a,h,e=>by have:=rowAll.at (l:=l) (n:=n+1) h e;rwa [Nat.add_right_comm] at this
 | some b::l,n,j+1,a,h,e=>by have:=rowAll.at (l:=l) (n:=n+1) h.2 e;rwa [Nat.add_right_comm] at this
theorem kL.at :∀ {l:List (List (Option α))} {n i j:Nat} {r:List (Option α)} {a:α},kL p n l->nth l i=some r->nth r j=some (some a)->p (n+16*i+j) a
 | [],_,_,_,_,_,_,h,_=>by cases h
 | r::l,n,0,j,_,a,h,e,b=>by cases e;exact h.1.at b
 | r::l,n,i+1,j,_,a,h,e,b=>by
  have:=kL.at (l:=l) (n:=n+16) h.2 e b
  rwa [show n+16+16*i+j=n+16*(i+1)+j by omega] at this
theorem ji.all {f g:Nat->α->β}:∀ {l:List (Option α)} {n:Nat},ji f n l=ji g n l->rowAll (λt e=>f t e=g t e) n l
 | [],_,_=>trivial
 | none::l,n,h=>ji.all (l:=l) (n:=n+1) h
 | some a::l,n,h=>by obtain ⟨b,c⟩:=List.cons.inj h;exact ⟨b,ji.all c⟩
theorem hU.all {f g:Nat->α->β}:∀ {l:List (List (Option α))} {n:Nat},hU f n l=hU g n l->kL (λt e=>f t e=g t e) n l
 | [],_,_=>trivial
 | r::l,n,h=>by obtain ⟨a,b⟩:=List.cons.inj h;exact ⟨ji.all a,hU.all b⟩
def qd (c:Nat->Bool):Nat->List Bool->Bool
 | _,[]=>true
 | n,b::l=>(!b || c n)&&qd c (n+1) l
def qf (c:Nat->Bool):Nat->List (List Bool)->Bool
 | _,[]=>true
 | n,r::l=>qd c n r&&qf c (n+16) l
theorem qd.at {c:Nat->Bool}:∀ {l:List Bool} {n j:Nat},qd c n l=true->nth l j=some true->c (n+j)=true
 | [],_,_,_,h=>by cases h
 | b::l,n,0,h,e=>by cases e;simp [qd] at h;exact h.1
 | b::l,n,j+1,h,e=>by
  simp only [qd,Bool.and_eq_true] at h;have:=qd.at (l:=l) (n:=n+1) h.2 e
  rwa [Nat.add_right_comm] at this
theorem qf.at {c:Nat->Bool}:∀ {l:List (List Bool)} {n i j:Nat} {r:List Bool},qf c n l=true->nth l i=some r->nth r j=some true->c (n+16*i+j)=true
 | [],_,_,_,_,_,h,_=>by cases h
 | r::l,n,0,j,_,h,e,a=>by cases e;simp only [qf,Bool.and_eq_true] at h;exact qd.at h.1 a
 | r::l,n,i+1,j,_,h,e,a=>by
  simp only [qf,Bool.and_eq_true] at h;have:=qf.at (l:=l) (n:=n+16) h.2 e a
  rwa [show n+16+16*i+j=n+16*(i+1)+j by omega] at this
end
def rh (P:Program) (g:Nat):Bool:=match P.funcs[g]? with
 | some fn=>fn.body.isSome&& !(fn.name== "runtime.NumGoroutine")
 | none=>false
theorem rh.call {P:Program} {g:Nat} (h:rh P g=true) (args:Array Value) (w:World):(callFunc g args).run P w=.ok (.enter g args) w:=by
 unfold rh at h;cases a:P.funcs[g]? with
 | none=>rw [a] at h;cases h
 | some fn=>
  rw [a] at h;simp only [Bool.and_eq_true,Bool.not_eq_true'] at h;obtain ⟨c,d⟩:=h;have e:fn.body.isNone=false:=by cases hb:fn.body with
   | none=>rw [hb] at c;cases c
   | some b=>rfl
  simp only [callFunc,Sem.run_bind,run_program,Result.andThen_ok,a,d,e,Bool.false_eq_true,if_false,Sem.run_pure]
theorem NO {P:Program} {t:Nat} {e:Ty} (h:(P.info? t).map (λi=>(i.size,i.bytes,i.zero))=some (e.size,e.bytes,some e.zero)):∃i,P.info? t=some i/\i.size=e.size/\i.bytes=e.bytes/\i.zero=some e.zero:=by
 cases a:P.info? t with
 | none=>rw [a] at h;cases h
 | some i=>rw [a] at h;simp only [Option.map_some,Option.some.injEq,Prod.mk.injEq] at h;exact ⟨i,rfl,h⟩
theorem NQ (x:C2):(aY x.v).length=1/\∀a,x.v≠ .agg a:=by obtain ⟨v,h⟩:=x;cases v<;>first | exact ⟨rfl,λa h=>by cases h⟩ | cases h
end Lf
namespace Lf
open Go Go.Proofs Tryz
theorem ZP {e:Ty} {q:Prop} (h:(none:Option Ty)=some e):q:=by cases h
theorem nr {p:Nat->Ty->Prop} (h:kL p 0 xF):∀t e,zC t=some e->p t e:=λt e a=>by
 unfold zC at a;cases b:nth xF (t / 16) with
 | none=>rw [b] at a;cases a
 | some r=>
  rw [b] at a;dsimp only at a;cases c:nth r (t%16) with
  | none=>rw [c] at a;cases a
  | some x=>
   rw [c] at a;dsimp only at a;subst a;have:=h.at b c
   rwa [show 0+16*(t / 16)+t%16=t by omega] at this
theorem Dl {c:Nat->Bool} (h:qf c 0 B6=true):∀g,yY g=true->c g=true:=λg a=>by
 unfold yY at a;cases b:nth B6 (g / 16) with
 | none=>rw [b] at a;cases a
 | some r=>
  rw [b] at a;dsimp only at a;cases d:nth r (g%16) with
  | none=>rw [d] at a;cases a
  | some x=>
   rw [d] at a;dsimp only at a;subst a;have:=qf.at h b d
   rwa [show 0+16*(g / 16)+g%16=g by omega] at this
theorem Fq :hU (λt _=>prog.underlying t) 0 xF=hU (λ_ e=>some e.bE) 0 xF:=by kernel_rfl
theorem Pv :hU (λt _=>(prog.info? t).map (λi=>(i.size,i.bytes,i.zero))) 0 xF=hU (λ_ e=>some (e.size,e.bytes,some e.zero)) 0 xF:=by kernel_rfl
theorem uT :kL (λ_ e=>(nM e.bE=true->(∀x,∃a,e.sh.enc x=.agg a/\a.size=e.size)/\∃a,e.zero=.agg a)/\(nM e.bE=false->e.size=1/\∀x,(aY (e.sh.enc x)).length=1/\∀a,e.sh.enc x≠ .agg a)/\(aY e.zero).length=e.size/\(e.bE=.int .u8->aY e.zero=[.int .u8 0])) 0 xF:=by
 unfold xF
 repeat' refine And.intro ?_ ?_
 all_goals first | exact trivial | exact rfl | (intro h;cases h;done) | exact (λ_=>rfl) | exact (λ_=>⟨λx=>⟨_,rfl,rfl⟩,_,rfl⟩) | exact (λ_=>⟨λx=>⟨_,rfl,x.size⟩,_,rfl⟩) | exact (λ_=>⟨rfl,NQ⟩) | (refine λ_=>⟨rfl,λx=>⟨rfl,λa h=> ?_⟩⟩;cases h;done)
theorem bK :tb.Ok prog where
 bE:=nr (hU.all Fq)
 info:=λt e h=>NO (nr (hU.all Pv) t e h)
 agg:=λt e h b=>((nr uT t e h).1 b).1
 leaf:=λt e h=>(nr uT t e h).2.1
 xg:=λt e h=>(nr uT t e h).2.2.1
 yl:=λt e h=>(nr uT t e h).2.2.2
 MM:=λt e h b=>((nr uT t e h).1 b).2
 call:=λg h=>rh.call (Dl (by kernel_rfl) g h)
 ext:=by
  intro g f h args w;have h:tB g=some f:=h;unfold tB at h;cases c:Nat.beq g 173 with
  | true=>have a:g=173:=Nat.eq_of_beq_eq_true c;subst a;exact run_callFunc_extern func173 (by kernel_rfl) (by kernel_rfl) (by kernel_rfl) (show _=_ from (show _=some _ by kernel_rfl:_=some _).trans h) args w
  | false=>
  simp only [c,cond_false] at h;cases d:Nat.beq g 217 with
  | true=>have a:g=217:=Nat.eq_of_beq_eq_true d;subst a;exact run_callFunc_extern func217 (by kernel_rfl) (by kernel_rfl) (by kernel_rfl) (show _=_ from (show _=some _ by kernel_rfl:_=some _).trans h) args w
  | false=>
  simp only [d,cond_false] at h;cases i:Nat.beq g 218 with
  | true=>have a:g=218:=Nat.eq_of_beq_eq_true i;subst a;exact run_callFunc_extern func218 (by kernel_rfl) (by kernel_rfl) (by kernel_rfl) (show _=_ from (show _=some _ by kernel_rfl:_=some _).trans h) args w
  | false=>
  simp only [i,cond_false] at h;cases j:Nat.beq g 229 with
  | true=>have a:g=229:=Nat.eq_of_beq_eq_true j;subst a;exact run_callFunc_extern func229 (by kernel_rfl) (by kernel_rfl) (by kernel_rfl) (show _=_ from (show _=some _ by kernel_rfl:_=some _).trans h) args w
  | false=>
  simp only [j,cond_false] at h;cases h
 mixed:=by kernel_rfl
theorem bT (p:List Nat) (A:iw) {g:FuncId} {f:Func} {args:List Value} {K:(bm tb f.resultTypes.toList).T->Hp->Prop} {h:Hp} {X:Prop} (a:prog.funcs[g]? =some f) (hv:X) {c:Code} (hb:f.body=some c:=by exact rfl) (k:yZ ⟨prog,tb,p⟩ f A args K h=X:=by kernel_rfl):aa prog g args (bm tb f.resultTypes.toList) K h:=
 U4 (C:=⟨prog,tb,p⟩) (A:=A) bK a hb (k.mpr hv)
theorem fT {c l Q h} (hv:Oa prog c l Q h):aa prog YU [(aB).enc c,(al).enc l] (bu) Q h:=
 bT [2,8] (.s (.s (.s (.s (.sq (.s (.bk (.lp [⟨false,7,3⟩] [8] .tt))) .tt))))) func4 hv
theorem Y6 {Q h} (hv:Qr prog  Q h):aa prog Xm [] (bu) Q h:=
 bT [1] .tt func12 hv
theorem Zi {c Q h} (hv:QR prog c Q h):aa prog Xy [(aB).enc c] (bu) Q h:=
 bT [1] (.s (.s (.s (.sq (.s (.bk (.lp [⟨false,3,3⟩,⟨false,4,3⟩] [] .tt))) .tt)))) func13 hv
theorem XN {c part place f Q h} (hv:SJ prog c part place f Q h):aa prog Sz [(aB).enc c,yH.enc part,yH.enc place,yH.enc f] yH Q h:=
 bT [4,9] (.s (.s (.s (.s (.sq (.s (.bk (.lp [⟨false,11,2⟩,⟨false,39,3⟩] [] (.s (.s (.sq (.bj [⟨false,11,2⟩] [] .tt) .tt)))))) (.sq (.rg (bV 0 4++ [(5,[]),(6,[]),(8,[]),(4,[0,6]),(7,[0]),(9,[0]),(10,[]),(11,[])])) .tt)))))) func14 hv
theorem Yc {c part lock hold Q h} (hv:UD prog c part lock hold Q h):aa prog Ut [(aB).enc c,yH.enc part,yH.enc lock,yH.enc hold] yH Q h:=
 bT [4,9] (.s (.s (.s (.s (.sq (.s (.bk (.lp [⟨false,11,2⟩,⟨false,12,2⟩,⟨false,13,3⟩] [] (.s (.sq (.bk (.sq (.rg (bV 0 4++bV 5 3++ [(4,[6])]++bV 8 4)) .tt)) .tt))))) .tt))))) func15 hv
theorem YW {c part at_ f Q h} (hv:Ph prog c part at_ f Q h):aa prog Xe [(aB).enc c,yH.enc part,yH.enc at_,yH.enc f] yH Q h:=
 bT [4] (.s (.s (.s (.s (.sq (.s (.bk (.lp [⟨false,12,2⟩,⟨false,13,3⟩] [] (.s (.sq (.bj [⟨false,12,2⟩] [] (.sq (.rg (bV 0 12)) .tt)) .tt))))) .tt))))) func16 hv
theorem Ze {c part lock hold Q h} (hv:QG prog c part lock hold Q h):aa prog Xv [(aB).enc c,yH.enc part,yH.enc lock,yH.enc hold] yH Q h:=
 bT [4] (.s (.s (.s (.s (.s (.sq (.s (.bk (.lp [⟨false,12,2⟩,⟨false,13,2⟩,⟨false,14,3⟩] [] .tt))) .tt)))))) func17 hv
theorem Zj {c Q h} (hv:QS prog c Q h):aZ prog QL [(aB).enc c] yH yH Q h:=
 show aa prog QL [(aB).enc c] (bm tb [33,3]) (λr=>Q r.1 r.2) h from bT [1,7] (.s (.s (.s (.sq (.rg ([(0,[]),(1,[]),(3,[]),(4,[]),(6,[]),(7,[]),(9,[]),(10,[]),(13,[]),(2,[4,7,10]),(5,[7,10]),(8,[10]),(11,[]),(12,[]),(14,[])])) (.sq (.s (.bk (.lp [⟨false,8,3⟩] [] .tt))) (.s (.s (.sq (.s (.bk (.lp [⟨false,9,3⟩] [] (.s (.sq (.bk (.sq (.sq (.rg (bV 0 12)) .tt) (.sq (.rg (bV 0 14)) .tt))) .tt))))) .tt)))))))) func18 hv
theorem NL {c Q h} (hv:Ts prog c Q h):aZ prog Tn [(aB).enc c] (aj) yH Q h:=
 show aa prog Tn [(aB).enc c] (bm tb [73,33]) (λr=>Q r.1 r.2) h from bT [1] (.s (.s (.sq (.rg ([(0,[]),(1,[]),(2,[0])]++bV 3 3)) .tt))) func26 hv
theorem YZ {m Q h} (hv:Kw prog m Q h):aa prog Xh [(aj).enc m] (AS) Q h:=
 bT [2,3] (.s (.s (.sq (.s (.bk (.lp [⟨false,26,3⟩,⟨true,3,48⟩] [3] (.s (.s (.sq (.bk (.s (.s (.rg (bV 0 10++bV 11 10++ [(10,[1,5,14,18]),(21,[]),(22,[1])]++bV 23 3))))) .tt)))))) (.sq (.s (.bk (.lp [⟨false,69,3⟩,⟨true,3,48⟩] [3] (.s (.s (.sq (.bk (.s (.s (.sq (.rg (bV 0 14++ [(14,[3,7,9,12])]++bV 15 6)) (.sq (.rg (bV 0 14++ [(14,[3,7,9,12])]++bV 15 6)) (.rg (bV 0 25++ [(25,[1])]++bV 26 3))))))) .tt)))))) .tt)))) func31 hv
theorem Y7 {Q h} (hv:Qs prog  Q h):aa prog Xn [] (aB) Q h:=
 bT [0] .tt func32 hv
theorem NN {c l Q h} (hv:Tu prog c l Q h):gB prog Tp [(aB).enc c,(al).enc l] (al) (al) yH Q h:=
 show aa prog Tp [(aB).enc c,(al).enc l] (bm tb [93,94,33]) (λr=>Q r.1 r.2.1 r.2.2) h from bT [2,13] (.s (.s (.s (.s (.s (.s (.s (.sq (.s (.bk (.lp [⟨false,43,3⟩] [13] (.s (.s (.sq (.bj [] [13] (.s (.s (.bj [] [] (.s (.sq (.sq (.sq (.rg (bV 0 13)) .tt) (.s (.bk (.lp [⟨false,66,3⟩] [] .tt)))) .tt)))))) .tt)))))) (.sq (.rg (bV 0 11)) .tt))))))))) func33 hv
theorem Yv {c part Q h} (hv:zI prog c part Q h):aZ prog Lg [(aB).enc c,yH.enc part] (Cy) (bu) Q h:=
 show aa prog Lg [(aB).enc c,yH.enc part] (bm tb [100,4]) (λr=>Q r.1 r.2) h from bT [2,4,11,13] (.s (.s (.s (.s (.sq (.rg ([(0,[]),(1,[]),(3,[]),(4,[]),(6,[]),(2,[4]),(5,[]),(7,[])])) (.sq (.s (.bk (.lp [⟨false,55,3⟩,⟨true,11,100⟩] [11,13] (.s (.s (.sq (.bj [⟨true,11,100⟩] [11,13] .tt) .tt)))))) (.sq (.rg (bV 0 9++ [(9,[6]),(10,[])])) .tt))))))) func34 hv
theorem Xr {x units Q h} (hv:Rc prog x units Q h):aa prog Q8 [(Cy).enc x,yH.enc units] yH Q h:=
 bT [2] (.s (.s (.jn [⟨false,5,2⟩] [] .tt .tt))) func35 hv
theorem Cx {a b Q h} (hv:Tw prog a b Q h):aa prog AI [yH.enc a,yH.enc b] yH Q h:=
 bT [] .tt func36 hv
theorem Yd {a b Q h} (hv:UE prog a b Q h):aa prog Uu [yH.enc a,yH.enc b] yH Q h:=
 bT [] .tt func37 hv
theorem Xa {c part Q h} (hv:Qt prog c part Q h):gB prog Ky [(aB).enc c,yH.enc part] yH yH (bu) Q h:=
 show aa prog Ky [(aB).enc c,yH.enc part] (bm tb [2,2,4]) (λr=>Q r.1 r.2.1 r.2.2) h from bT [2] (.s (.s (.s (.s (.s (.sq (.s (.bk (.lp [⟨false,12,2⟩,⟨false,13,3⟩] [] (.s (.sq (.bj [⟨false,12,2⟩] [] .tt) .tt))))) .tt)))))) func38 hv
theorem Y8 {a b Q h} (hv:Qu prog a b Q h):aa prog Xo [(ae .u64).enc a,(ae .u64).enc b] (bu) Q h:=
 bT [] (.s (.sq (.s (.bk (.lp [⟨false,5,3⟩] [] .tt))) .tt)) func39 hv
theorem Ct {a b Q h} (hv:Qv prog a b Q h):aa prog zQ [yH.enc a,yH.enc b] yH Q h:=
 bT [] .tt func40 hv
theorem Xb {c n9 units Q h} (hv:Qw prog c n9 units Q h):aa prog Qm [(aB).enc c,yH.enc n9,yH.enc units] yH Q h:=
 bT [3] (.s (.s (.jn [⟨false,7,2⟩] [] .tt .tt))) func41 hv
theorem Xg {a b Q h} (hv:Xw prog a b Q h):aa prog QE [yH.enc a,yH.enc b] yH Q h:=
 bT [] .tt func42 hv
theorem Zk {l Q h} (hv:Xz prog l Q h):aZ prog QN [(al).enc l] yH yH Q h:=
 show aa prog QN [(al).enc l] (bm tb [33,3]) (λr=>Q r.1 r.2) h from bT [] (.s (.s (.s (.sq (.s (.bk (.lp [⟨false,4,3⟩] [] (.s (.sq (.bk (.sq (.sq (.rg (bV 0 10)) .tt) (.sq (.rg (bV 0 10)) .tt))) .tt))))) .tt)))) func43 hv
theorem Y0 {l parts Q h} (hv:PK prog l parts Q h):aa prog Xi [(al).enc l,yH.enc parts] yH Q h:=
 bT [] (.s (.s (.s (.sq (.s (.bk (.lp [⟨false,5,3⟩] [] .tt))) .tt)))) func44 hv
theorem Cs {n least kH Q h} (hv:PM prog n least kH Q h):aa prog zJ [yH.enc n,yH.enc least,yH.enc kH] (bu) Q h:=
 bT [] .tt func45 hv
theorem Zl {l ai Q h} (hv:QT prog l ai Q h):aZ prog QO [(al).enc l,yH.enc ai] yH yH Q h:=
 show aa prog QO [(al).enc l,yH.enc ai] (bm tb [33,3]) (λr=>Q r.1 r.2) h from bT [] (.s (.s (.s (.sq (.s (.bk (.lp [⟨false,6,3⟩] [] .tt))) .tt)))) func46 hv
theorem T6 {c Q h} (hv:zK prog c Q h):aZ prog IW [(aB).enc c] yH yH Q h:=
 show aa prog IW [(aB).enc c] (bm tb [33,3]) (λr=>Q r.1 r.2) h from bT [1,15] (.s (.s (.s (.s (.sq (.s (.bk (.lp [⟨false,57,3⟩] [] .tt))) (.s (.sq (.s (.bk (.lp [⟨false,80,3⟩] [15] .tt))) .tt))))))) func58 hv
theorem Nt {c s Q h} (hv:Te prog c s Q h):aa prog Yh [(aB).enc c,(AS).enc s] (aj) Q h:=
 bT [2,3,7,11,12] (.s (.sq (.rg ([(0,[]),(2,[]),(3,[]),(1,[3])]++bV 4 3)) (.s (.s (.sq (.s (.bk (.lp [⟨false,48,3⟩] [7] (.s (.s (.sq (.bk (.s (.s (.rg (bV 0 9++bV 10 5++ [(9,[4,6,11,13]),(15,[4,6,11,13]),(16,[]),(17,[4]),(18,[4])]++bV 19 4))))) .tt)))))) (.sq (.s (.bk (.lp [⟨false,86,3⟩] [11,12] (.s (.s (.sq (.bj [] [11,12] (.s (.s (.s (.sq (.rg (bV 0 21++ [(21,[4]),(22,[4])]++bV 23 4)) (.sq (.rg (bV 0 9)) (.s (.jn [] [] (.s (.sq (.rg (bV 0 5++ [(6,[]),(7,[]),(5,[3,7]),(8,[])])) .tt)) (.s (.sq (.rg (bV 0 5++ [(6,[]),(7,[]),(5,[3,7]),(8,[])])) .tt)))))))))) .tt)))))) .tt)))))) func59 hv
theorem ZI {c Q h} (hv:SK prog c Q h):aa prog X5 [(aB).enc c] (AS) Q h:=
 bT [1,2,3] (.s (.sq (.r2 [(0,[]),(1,[]),(2,[]),(4,[]),(5,[]),(6,[]),(9,[])] 3 7 (.rg ([(3,[5]),(7,[]),(8,[]),(10,[])])) (.rg ([(7,[1]),(3,[5]),(8,[]),(10,[])]))) (.sq (.s (.bk (.lp [⟨false,18,3⟩] [] (.s (.s (.sq (.bj [] [] (.s (.r2 [(0,[]),(1,[]),(2,[]),(3,[]),(4,[]),(5,[]),(7,[]),(8,[]),(10,[]),(11,[])] 6 12 (.r2 [(6,[1,4,8,11])] 9 12 (.r2 [(9,[1,4,11]),(13,[]),(14,[])] 12 15 (.rg ([(12,[1,4]),(15,[4])]++bV 16 3)) (.rg ([(15,[4,11]),(12,[1,4])]++bV 16 3))) (.rg ([(12,[1,4,8]),(9,[1,4,11]),(13,[]),(14,[]),(15,[4,11])]++bV 16 3))) (.rg ([(12,[1,4,8]),(6,[1,4,8,11]),(9,[1,4,11]),(13,[]),(14,[]),(15,[4,11])]++bV 16 3))))) .tt)))))) (.sq (.s (.bk (.lp [⟨false,42,3⟩] [] (.s (.s (.sq (.bk (.s (.rg (bV 0 7++ [(7,[1])]++bV 8 3)))) .tt)))))) .tt)))) func60 hv
theorem Zo {l Q h} (hv:Rd prog l Q h):aZ prog KB [(aj).enc l] (al) (al) Q h:=
 show aa prog KB [(aj).enc l] (bm tb [23,84]) (λr=>Q r.1 r.2) h from bT [7] (.s (.s (.s (.sq (.s (.bk (.lp [⟨false,4,23⟩,⟨false,5,84⟩,⟨false,13,3⟩] [7] .tt))) .tt)))) func66 hv
theorem WS {s Q h} (hv:NC prog s Q h):aa prog FA [(al).enc s] (al) Q h:=
 bT [] .tt func67 hv
theorem Zu {p Q h} (hv:RH prog p Q h):aZ prog KH [(aj).enc p] (al) yH Q h:=
 show aa prog KH [(aj).enc p] (bm tb [89,3]) (λr=>Q r.1 r.2) h from bT [] (.s (.s (.sq (.s (.bk (.lp [⟨false,4,89⟩,⟨false,12,3⟩] [] .tt))) (.sq (.rg (bV 0 7)) .tt)))) func68 hv
theorem XA {w df Q h} (hv:KK prog w df Q h):aZ prog Cw [(aj).enc w,yH.enc df] yH (bu) Q h:=
 show aa prog Cw [(aj).enc w,yH.enc df] (bm tb [2,4]) (λr=>Q r.1 r.2) h from bT [6] .tt func69 hv
theorem Gl {p Q h} (hv:KR prog p Q h):aa prog vn [yH.enc p] yH Q h:=
 bT [] .tt func70 hv
theorem Gm {p Q h} (hv:KS prog p Q h):aa prog wx [yH.enc p] yH Q h:=
 bT [] .tt func71 hv
theorem Kx {w Q h} (hv:QV prog w Q h):bx prog Cv [(aj).enc w] (Q) h:=
 show aa prog Cv [(aj).enc w] (bm tb []) (λ_=>Q) h from bT [2,4,6,9] (.s (.sq (.s (.bk (.lp [⟨false,19,3⟩] [4,6] (.s (.s (.sq (.bk (.s (.s (.bk (.lp [⟨false,27,3⟩] [6] .tt))))) .tt)))))) (.s (.bk (.lp [⟨false,43,3⟩] [9] (.s (.s (.sq (.bj [] [9] (.s (.sq (.rg (bV 0 13)) (.s (.s (.jn [] [] (.s (.sq (.sq (.rg (bV 0 13)) .tt) .tt)) (.s (.sq (.sq (.rg (bV 0 13)) (.rg (bV 0 12++ [(12,[4])]++bV 13 4))) .tt)))))))) .tt)))))))) func72 hv
theorem Xc {m Q h} (hv:KA prog m Q h):aa prog Xp [(aj).enc m] yH Q h:=
 bT [] (.s (.sq (.rg (bV 0 10)) (.s (.s (.s (.sq (.s (.bj [] [] (.lp [⟨false,32,3⟩] [] (.s (.s (.sq (.bk (.sq (.s (.bk (.lp [⟨false,39,3⟩] [] (.s (.s (.sq (.bk (.s (.sq (.rg (bV 0 13)) (.sq (.rg (bV 0 14)) .tt)))) .tt)))))) .tt)) .tt)))))) .tt)))))) func73 hv
theorem YX {m p v Q h} (hv:Kv prog m p v Q h):aa prog Xf [(aj).enc m,yH.enc p,yH.enc v] yH Q h:=
 bT [] (.s (.s (.sq (.rg (bV 0 14)) .tt))) func74 hv
theorem Ti {table parts Q h} (hv:Ii prog table parts Q h):gB prog Ih [(al).enc table,yH.enc parts] (aj) yH yH Q h:=
 show aa prog Ih [(al).enc table,yH.enc parts] (bm tb [136,33,3]) (λr=>Q r.1 r.2.1 r.2.2) h from bT [] (.s (.s (.s (.sq (.rg ([(0,[]),(2,[]),(1,[2])]++bV 3 5)) .tt)))) func76 hv
theorem Zv {s part Q h} (hv:RI prog s part Q h):aa prog XP [(aj).enc s,yH.enc part] yH Q h:=
 bT [] (.s (.s (.s (.s (.sq (.s (.bk (.lp [⟨false,5,3⟩,⟨false,20,3⟩] [] (.s (.s (.sq (.bj [⟨false,5,3⟩] [] (.s (.s (.bk (.lp [⟨false,5,3⟩,⟨false,28,3⟩] [] (.s (.s (.sq (.bk (.s (.sq (.rg (bV 0 17)) .tt))) .tt)))))))) .tt)))))) .tt))))) func77 hv
theorem XB {x y Q h} (hv:Gr prog x y Q h):aZ prog KI [(ae .u64).enc x,(ae .u64).enc y] (ae .u64) (ae .u64) Q h:=
 show aa prog KI [(ae .u64).enc x,(ae .u64).enc y] (bm tb [28,28]) (λr=>Q r.1 r.2) h from bT [] .tt func78 hv
theorem Zm {table parts Q h} (hv:QW prog table parts Q h):gB prog QP [(al).enc table,yH.enc parts] (aj) yH yH Q h:=
 show aa prog QP [(al).enc table,yH.enc parts] (bm tb [171,33,3]) (λr=>Q r.1 r.2.1 r.2.2) h from bT [] (.s (.s (.s (.sq (.s (.bk (.lp [⟨false,7,3⟩] [] .tt))) .tt)))) func79 hv
theorem YT {s part Q h} (hv:OB prog s part Q h):aa prog W7 [(aj).enc s,yH.enc part] yH Q h:=
 bT [] (.s (.s (.s (.bk (.lp [⟨false,5,3⟩] [] (.sq (.bk (.s (.sq (.s (.bk (.lp [⟨false,6,4⟩,⟨false,7,3⟩] [] .tt))) .tt))) .tt)))))) func80 hv
theorem Xl {a n Q h} (hv:QY prog a n Q h):aa prog QQ [(ae .u64).enc a,yH.enc n] (bu) Q h:=
 bT [] .tt func81 hv
theorem Y9 {x n ai Q h} (hv:Qx prog x n ai Q h):aa prog Xq [(be).enc x,yH.enc n,yH.enc ai] yH Q h:=
 bT [3] .tt func82 hv
theorem NP {part n Q h} (hv:Tz prog part n Q h):aa prog Yq [yH.enc part,yH.enc n] yH Q h:=
 bT [] .tt func89 hv
theorem Yl {n kH Q h} (hv:VP prog n kH Q h):aa prog VF [yH.enc n,yH.enc kH] yH Q h:=
 bT [] .tt func91 hv
theorem Tj {l Q h} (hv:Ij prog l Q h):aZ prog K6 [(al).enc l] yH yH Q h:=
 show aa prog K6 [(al).enc l] (bm tb [33,3]) (λr=>Q r.1 r.2) h from bT [] (.s (.s (.sq (.s (.bk (.lp [⟨false,4,3⟩] [] (.s (.sq (.bk (.bk (.sq (.rg (bV 0 11)) (.s (.sq (.rg (bV 0 11)) .tt))))) .tt))))) .tt))) func94 hv
theorem GG {n from_ to Q h} (hv:TB prog n from_ to Q h):aa prog CB [yH.enc n,yH.enc from_,yH.enc to] (bu) Q h:=
 bT [] .tt func95 hv
theorem QX {l ai Q h} (hv:zN prog l ai Q h):aZ prog zE [(al).enc l,yH.enc ai] yH yH Q h:=
 show aa prog zE [(al).enc l,yH.enc ai] (bm tb [33,3]) (λr=>Q r.1 r.2) h from bT [7] (.s (.s (.sq (.s (.bk (.lp [⟨false,22,3⟩] [7] .tt))) .tt))) func96 hv
theorem ZD {c Q h} (hv:Sa prog c Q h):aa prog X0 [(aB).enc c] (aB) Q h:=
 bT [1,2,4] (.s (.sq (.rg ([(0,[]),(1,[]),(3,[]),(4,[]),(6,[]),(7,[]),(2,[4,7]),(9,[]),(5,[7]),(8,[])]++bV 10 5)) (.sq (.s (.bk (.lp [⟨false,20,3⟩] [4] (.s (.s (.sq (.bk (.s (.rg (bV 0 5++ [(5,[1])]++bV 6 3)))) .tt)))))) .tt))) func97 hv
theorem Qe {l Q h} (hv:Ik prog l Q h):gB prog VH [(al).enc l] (aj) yH yH Q h:=
 show aa prog VH [(al).enc l] (bm tb [135,33,3]) (λr=>Q r.1 r.2.1 r.2.2) h from bT [] (.s (.s (.s (.sq (.s (.bk (.lp [⟨false,29,3⟩] [] .tt))) .tt)))) func98 hv
theorem Qf {ax an Q h} (hv:VQ prog ax an Q h):aZ prog K7 [(al).enc ax,(al).enc an] (aj) yH Q h:=
 show aa prog K7 [(al).enc ax,(al).enc an] (bm tb [143,33]) (λr=>Q r.1 r.2) h from bT [] (.s (.s (.s (.s (.sq (.s (.bk (.lp [⟨false,30,3⟩] [] (.s (.s (.sq (.bk (.s (.s (.s (.s (.bk (.lp [⟨false,65,3⟩] [] (.s (.s (.sq (.bk (.s (.s (.rg (bV 0 14++ [(14,[3,8,12]),(15,[3])]++bV 16 3))))) .tt)))))))))) .tt)))))) .tt))))) func99 hv
theorem Qg {Q h} (hv:K8 prog  Q h):aa prog VJ [] (aj) Q h:=
 bT [] .tt func100 hv
theorem QZ {room l af Q h} (hv:zO prog room l af Q h):aZ prog Lh [yH.enc room,(al).enc l,yH.enc af] (aj) yH Q h:=
 show aa prog Lh [yH.enc room,(al).enc l,yH.enc af] (bm tb [153,33]) (λr=>Q r.1 r.2) h from bT [10] (.s (.s (.s (.sq (.s (.bk (.lp [⟨false,44,3⟩] [10] .tt))) .tt)))) func101 hv
theorem Q0 {w df due Q h} (hv:KL prog w df due Q h):aa prog vj [(aj).enc w,yH.enc df,yH.enc due] yH Q h:=
 bT [7] (.s (.s (.s (.s (.sq (.rg (bV 0 11)) (.sq (.rg (bV 0 7++ [(7,[4])]++bV 8 4)) (.sq (.rg (bV 0 7)) .tt))))))) func102 hv
theorem Y1 {x count Q h} (hv:PO prog x count Q h):aa prog rI [(al).enc x,yH.enc count] (al) Q h:=
 bT [] (.s (.jn [] [] .tt (.s (.jn [] [] .tt (.s (.s (.sq (.bk (.lp [⟨false,8,3⟩] [] (.s (.bk (.rg (bV 0 10)))))) .tt))))))) func103 hv
theorem Ku {s Q h} (hv:Cu prog s Q h):aa prog Kz [(al).enc s] (al) Q h:=
 bT [] .tt func104 hv
theorem XC {l Q h} (hv:RJ prog l Q h):aa prog RC [(aj).enc l] (bS) Q h:=
 bT [2] (.s (.sq (.rg (bV 0 4++bV 5 4++bV 10 8++ [(4,[8,13,17]),(9,[13,17]),(18,[]),(19,[])])) .tt)) func105 hv
theorem QI {w at_ l Q h} (hv:Gk prog w at_ l Q h):bx prog Ro [(aj).enc w,(Tm).enc at_,(bS).enc l] (Q) h:=
 show aa prog Ro [(aj).enc w,(Tm).enc at_,(bS).enc l] (bm tb []) (λ_=>Q) h from bT [4,5,6] (.s (.sq (.rg (bV 0 8)) (.sq (.bk (.lp [⟨true,6,257⟩] [6] (.sq (.sq (.rg (bV 0 19)) .tt) (.bk (.sq (.rg (bV 0 15)) .tt))))) (.jn [⟨true,6,257⟩] [6] (.s (.sq (.s (.bk (.lp [⟨false,7,3⟩,⟨true,6,257⟩] [6] (.s (.sq (.bk (.sq (.rg (bV 0 7++ [(7,[1])]++bV 8 3)) (.sq (.rg (bV 0 15++ [(15,[4])]++bV 16 4)) (.rg (bV 0 10++ [(10,[4])]++bV 11 4))))) .tt))))) .tt)) (.sq (.rg (bV 0 6++ [(6,[3]),(7,[]),(8,[])])) (.rg (bV 0 7))))))) func106 hv
theorem O4 {s part p Q h} (hv:UG prog s part p Q h):aa prog FJ [(AS).enc s,yH.enc part,yH.enc p] yH Q h:=
 bT [3] .tt func107 hv
theorem Zp {s t Q h} (hv:Re prog s t Q h):aa prog XF [(aj).enc s,yH.enc t] yH Q h:=
 bT [] (.s (.s (.sq (.rg (bV 0 14)) .tt))) func108 hv
theorem Zf {m x Q h} (hv:QH prog m x Q h):bx prog QF [(aj).enc m,(aj).enc x] (Q) h:=
 show aa prog QF [(aj).enc m,(aj).enc x] (bm tb []) (λ_=>Q) h from bT [] (.sq (.rg (bV 0 8++ [(10,[]),(8,[]),(9,[])])) (.bk (.lp [⟨false,17,3⟩] [] (.s (.s (.sq (.bj [] [] .tt) .tt)))))) func109 hv
theorem Za {m p Q h} (hv:Qy prog m p Q h):bx prog Qn [(aj).enc m,(aj).enc p] (Q) h:=
 show aa prog Qn [(aj).enc m,(aj).enc p] (bm tb []) (λ_=>Q) h from bT [4,5] (.sq (.rg (bV 0 16++ [(20,[]),(21,[])]++bV 16 4++ [(22,[]),(23,[])])) (.s (.sq (.rg (bV 0 11)) (.s (.bk (.s (.s (.s (.s (.jn [⟨false,61,4⟩] [] .tt (.s (.s (.sq (.s (.sq (.rg (bV 0 8++ [(8,[3]),(9,[])])) (.s (.sq (.rg (bV 0 8++bV 9 8++ [(8,[3,12,14]),(17,[])])) .tt)))) (.s (.sq (.sq (.rg (bV 0 8++bV 9 9++ [(8,[3,12,14]),(18,[])])) .tt) (.s (.sq (.sq (.rg (bV 0 16)) .tt) (.s (.sq (.sq (.rg (bV 0 8++ [(9,[]),(10,[]),(8,[10]),(11,[])])) (.sq (.sq (.rg (bV 0 16)) .tt) .tt)) (.s (.sq (.sq (.rg (bV 0 11)) (.sq (.rg (bV 0 16++ [(16,[4])]++bV 17 4)) .tt)) .tt))))))))))))))))))))) func110 hv
theorem Y2 {m p Q h} (hv:PR prog m p Q h):aa prog Xj [(aj).enc m,yH.enc p] yH Q h:=
 bT [] .tt func111 hv
theorem Rx {p lane v Q h} (hv:KT prog p lane v Q h):aa prog KO [(aj).enc p,yH.enc lane,yH.enc v] yH Q h:=
 bT [] .tt func112 hv
theorem XJ {p lane Q h} (hv:KN prog p lane Q h):bx prog GF [(aj).enc p,yH.enc lane] (Q) h:=
 show aa prog GF [(aj).enc p,yH.enc lane] (bm tb []) (λ_=>Q) h from bT [] .tt func113 hv
theorem O3 {m q Q h} (hv:Qz prog m q Q h):bx prog F0 [(aj).enc m,(aj).enc q] (Q) h:=
 show aa prog F0 [(aj).enc m,(aj).enc q] (bm tb []) (λ_=>Q) h from bT [] .tt func114 hv
theorem Zb {m p state Q h} (hv:QA prog m p state Q h):bx prog Qo [(aj).enc m,(aj).enc p,yH.enc state] (Q) h:=
 show aa prog Qo [(aj).enc m,(aj).enc p,yH.enc state] (bm tb []) (λ_=>Q) h from bT [10,12] (.sq (.rg (bV 0 11)) (.s (.sq (.s (.bk (.lp [⟨false,35,3⟩] [] (.s (.s (.sq (.bk (.s (.rg (bV 0 15)))) .tt)))))) (.sq (.sq (.rg (bV 0 8++ [(10,[]),(8,[]),(9,[])])) (.bk (.lp [⟨false,65,3⟩] [10] .tt))) (.sq (.rg (bV 0 8++ [(8,[3]),(9,[])])) (.sq (.rg (bV 0 8++ [(8,[3]),(9,[])])) (.s (.bk (.lp [⟨false,100,3⟩] [12] (.s (.s (.sq (.bk (.s (.rg (bV 0 10)))) .tt)))))))))))) func115 hv
theorem W4 {s f Q h} (hv:OD prog s f Q h):aa prog W8 [(al).enc s,(kK).enc f] yH Q h:=
 bT [] (.s (.sq (.s (.bk (.lp [⟨false,8,3⟩] [] .tt))) .tt)) func116 hv
theorem X3 {p a1 Q h} (hv:TE prog p a1 Q h):aa prog Hm [yH.enc p,.pointer (some a1)] (bu) Q h:=
 bT [] .tt func117 hv
theorem Oi {s v Q h} (hv:OT prog s v Q h):aa prog FB [(al).enc s,yH.enc v] (bu) Q h:=
 bT [] .tt func118 hv
theorem Ol {s part n Q h} (hv:OV prog s part n Q h):aa prog Ks [(aj).enc s,yH.enc part,yH.enc n] yH Q h:=
 bT [] (.s (.s (.sq (.s (.bk (.lp [⟨false,7,2⟩,⟨false,8,3⟩] [] (.s (.sq (.bj [⟨false,7,2⟩] [] .tt) .tt))))) .tt))) func119 hv
theorem YS {s part from_ to Q h} (hv:Od prog s part from_ to Q h):aa prog W6 [(aj).enc s,yH.enc part,yH.enc from_,yH.enc to] yH Q h:=
 bT [] .tt func120 hv
theorem Zc {x n ai Q h} (hv:QB prog x n ai Q h):aZ prog Qp [(be).enc x,yH.enc n,yH.enc ai] yH yH Q h:=
 show aa prog Qp [(be).enc x,yH.enc n,yH.enc ai] (bm tb [33,3]) (λr=>Q r.1 r.2) h from bT [3] .tt func121 hv
theorem Ye {x n ai Q h} (hv:UI prog x n ai Q h):aa prog Uw [(be).enc x,yH.enc n,yH.enc ai] yH Q h:=
 bT [3] .tt func125 hv
theorem WX {s Q h} (hv:Kr prog s Q h):aa prog N6 [(al).enc s] (al) Q h:=
 bT [] .tt func127 hv
theorem YQ {s Q h} (hv:WW prog s Q h):aa prog WU [(al).enc s] (al) Q h:=
 bT [] .tt func128 hv
theorem YR {s Q h} (hv:W1 prog s Q h):aa prog WZ [(al).enc s] (al) Q h:=
 bT [] .tt func129 hv
theorem Xs {l p Q h} (hv:Rf prog l p Q h):aZ prog KC [(aj).enc l,yH.enc p] yH (bu) Q h:=
 show aa prog KC [(aj).enc l,yH.enc p] (bm tb [3,4]) (λr=>Q r.1 r.2) h from bT [7] (.s (.sq (.s (.bk (.lp [⟨false,13,3⟩] [7] .tt))) .tt)) func130 hv
theorem Q1 {room s Q h} (hv:zP prog room s Q h):aZ prog zF [yH.enc room,(bS).enc s] (aj) yH Q h:=
 show aa prog zF [yH.enc room,(bS).enc s] (bm tb [202,33]) (λr=>Q r.1 r.2) h from bT [3] (.s (.s (.s (.s (.sq (.rg (bV 0 4++ [(5,[]),(6,[]),(4,[6])]++bV 7 7)) (.sq (.rg (bV 0 8++ [(8,[5])]++bV 9 3)) .tt)))))) func131 hv
theorem F8 {w df Q h} (hv:KF prog w df Q h):aa prog Ai [(aj).enc w,yH.enc df] (bu) Q h:=
 bT [5,8] (.s (.s (.s (.sq (.s (.bk (.lp [⟨false,25,3⟩] [8] .tt))) .tt)))) func132 hv
theorem YL {x target cmp Q h} (hv:MU prog x target cmp Q h):aZ prog Ko [(al).enc x,(aO).enc target,(kK).enc cmp] yH (bu) Q h:=
 show aa prog Ko [(al).enc x,(aO).enc target,(kK).enc cmp] (bm tb [3,4]) (λr=>Q r.1 r.2) h from bT [4] (.s (.s (.s (.sq (.bk (.lp [⟨false,9,3⟩,⟨false,10,3⟩] [] (.s (.bj [⟨false,9,3⟩,⟨false,10,3⟩] [] (.s (.sq (.rg (bV 0 8)) .tt)))))) (.sq (.rg (bV 0 16)) .tt))))) func133 hv
theorem X4 {a b Q h} (hv:TG prog a b Q h):aa prog Hn [(aO).enc a,(aO).enc b] yH Q h:=
 bT [2,3] (.s (.sq (.rg (bV 0 4++bV 5 4++ [(4,[6,8])]++bV 9 4)) .tt)) func134 hv
theorem YN {s i v Q h} (hv:WN prog s i v Q h):aa prog Nl [(al).enc s,yH.enc i,(al).enc v] (al) Q h:=
 bT [] (.s (.s (.s (.s (.s (.s (.sq (.s (.sq (.s (.s (.sq (.rg (bV 0 9)) .tt))) .tt)) (.s (.sq (.s (.sq (.sq (.rg (bV 0 9)) .tt) .tt)) .tt))))))))) func135 hv
theorem ZJ {x y Q h} (hv:Ya prog x y Q h):aZ prog SD [(ae .u64).enc x,(ae .u64).enc y] (ae .u64) (ae .u64) Q h:=
 show aa prog SD [(ae .u64).enc x,(ae .u64).enc y] (bm tb [230,230]) (λr=>Q r.1 r.2) h from bT [] .tt func136 hv
theorem W5 {s Q h} (hv:OF prog s Q h):aa prog Oz [(al).enc s] (al) Q h:=
 bT [] .tt func137 hv
theorem WQ {s Q h} (hv:NB prog s Q h):aa prog Ny [(al).enc s] (al) Q h:=
 bT [] .tt func138 hv
theorem Zw {w now Q h} (hv:KM prog w now Q h):aa prog XQ [(aj).enc w,yH.enc now] (al) Q h:=
 bT [] (.s (.s (.sq (.bk (.lp [⟨false,5,23⟩] [] .tt)) .tt))) func141 hv
theorem O6 {m p c Q h} (hv:QC prog m p c Q h):bx prog F7 [(aj).enc m,(aj).enc p,(eo).enc c] (Q) h:=
 show aa prog F7 [(aj).enc m,(aj).enc p,(eo).enc c] (bm tb []) (λ_=>Q) h from bT [5] (.s (.rg (bV 0 5++ [(5,[2])]++bV 6 3))) func142 hv
theorem AQ {c Q h} (hv:zR prog c Q h):aa prog vp [(eo).enc c] (eo) Q h:=
 bT [1,2] .tt func143 hv
theorem Q3 {c l tick self Q h} (hv:zS prog c l tick self Q h):aZ prog zG [(eo).enc c,(al).enc l,yH.enc tick,yH.enc self] (eo) (Ba) Q h:=
 show aa prog zG [(eo).enc c,(al).enc l,yH.enc tick,yH.enc self] (bm tb [152,264]) (λr=>Q r.1 r.2) h from bT [8,9,10,12,15] (.s (.s (.s (.sq (.s (.s (.sq (.sq (.s (.sq (.sq (.rg ([(0,[]),(1,[]),(2,[1]),(3,[])])) .tt) .tt)) (.sq (.rg ([(0,[]),(2,[]),(1,[2]),(3,[2]),(4,[])])) .tt)) .tt))) (.s (.s (.sq (.s (.bj [⟨true,8,152⟩,⟨true,9,264⟩] [8,9] (.s (.s (.s (.sq (.rg (bV 0 7)) (.s (.s (.s (.s (.s (.s (.s (.s (.sq (.rg (bV 0 16)) (.jn [⟨false,16,2⟩] [] (.s (.sq (.rg (bV 0 15)) .tt)) .tt)))))))))))))))) .tt))))))) func144 hv
theorem Y3 {m p to v Q h} (hv:PU prog m p to v Q h):bx prog PB [(aj).enc m,(aj).enc p,yH.enc to,yH.enc v] (Q) h:=
 show aa prog PB [(aj).enc m,(aj).enc p,yH.enc to,yH.enc v] (bm tb []) (λ_=>Q) h from bT [] (.s (.s (.bk (.sq (.rg (bV 0 15)) (.sq (.sq (.rg (bV 0 23++ [(23,[3,7,9])]++bV 24 3)) .tt) (.sq (.rg (bV 0 10)) (.s (.jn [] [] (.sq (.rg (bV 0 19)) (.sq (.rg (bV 0 9)) .tt)) .tt)))))))) func145 hv
theorem W9 {m p try_ Q h} (hv:PW prog m p try_ Q h):bx prog PE [(aj).enc m,(aj).enc p,(bu).enc try_] (Q) h:=
 show aa prog PE [(aj).enc m,(aj).enc p,(bu).enc try_] (bm tb []) (λ_=>Q) h from bT [8] (.s (.bk (.s (.sq (.sq (.rg (bV 0 15)) (.s (.sq (.rg (bV 0 10)) .tt))) (.s (.sq (.s (.rg (bV 0 13))) (.s (.sq (.rg (bV 0 13)) .tt)))))))) func146 hv
theorem Zt {l n p Q h} (hv:Rr prog l n p Q h):aZ prog KG [(aj).enc l,yH.enc n,yH.enc p] (bu) yH Q h:=
 show aa prog KG [(aj).enc l,yH.enc n,yH.enc p] (bm tb [4,33]) (λr=>Q r.1 r.2) h from bT [] (.s (.s (.s (.s (.jn [] [] .tt .tt))))) func147 hv
theorem Xt {l p Q h} (hv:Rg prog l p Q h):aa prog KD [(aj).enc l,yH.enc p] (al) Q h:=
 bT [7] (.s (.s (.sq (.s (.bk (.lp [⟨false,5,23⟩,⟨false,13,3⟩] [7] (.s (.s (.sq (.bj [⟨false,5,23⟩] [7] .tt) .tt)))))) .tt))) func148 hv
theorem Xx {l n p Q h} (hv:Rt prog l n p Q h):aZ prog Gi [(aj).enc l,yH.enc n,yH.enc p] yH yH Q h:=
 show aa prog Gi [(aj).enc l,yH.enc n,yH.enc p] (bm tb [3,33]) (λr=>Q r.1 r.2) h from bT [] (.s (.s (.s (.sq (.bk (.s (.s (.s (.s (.s (.rg (bV 0 19)))))))) .tt)))) func149 hv
theorem OI {m j9 Q h} (hv:PY prog m j9 Q h):bx prog zM [(aj).enc m,yH.enc j9] (Q) h:=
 show aa prog zM [(aj).enc m,yH.enc j9] (bm tb []) (λ_=>Q) h from bT [] (.s (.sq (.rg (bV 0 18++ [(18,[4,7]),(19,[])])) .tt)) func150 hv
theorem XY {n Q h} (hv:Tf prog n Q h):aa prog KV [yH.enc n] yH Q h:=
 bT [] .tt func151 hv
theorem Ry {state Q h} (hv:SM prog state Q h):aa prog KP [yH.enc state] (bu) Q h:=
 bT [] .tt func152 hv
theorem Q2 {p n Q h} (hv:RL prog p n Q h):aa prog KJ [(aj).enc p,yH.enc n] (bu) Q h:=
 bT [] .tt func153 hv
theorem ZK {l v Q h} (hv:SN prog l v Q h):aa prog X6 [(aj).enc l,yH.enc v] yH Q h:=
 bT [] .tt func154 hv
theorem ZE {l Q h} (hv:Sb prog l Q h):bx prog R2 [(aj).enc l] (Q) h:=
 show aa prog R2 [(aj).enc l] (bm tb []) (λ_=>Q) h from bT [] .tt func155 hv
theorem Zx {p proc Q h} (hv:RM prog p proc Q h):aa prog RE [(aj).enc p,yH.enc proc] (bu) Q h:=
 bT [] (.s (.s (.sq (.s (.bk (.lp [⟨false,5,4⟩,⟨false,13,3⟩] [] (.s (.s (.sq (.bj [⟨false,5,4⟩] [] .tt) .tt)))))) .tt))) func156 hv
theorem Zy {l p Q h} (hv:RN prog l p Q h):aa prog XR [(aj).enc l,yH.enc p] (al) Q h:=
 bT [] (.s (.sq (.s (.bk (.lp [⟨false,17,3⟩] [] (.s (.s (.sq (.bj [] [] (.s (.s (.s (.sq (.rg (bV 0 16++ [(16,[3])]++bV 17 3)) .tt))))) .tt)))))) (.s (.sq (.s (.bk (.lp [⟨false,7,275⟩,⟨false,56,3⟩] [] .tt))) .tt)))) func157 hv
theorem ZL {p Q h} (hv:SO prog p Q h):aa prog X7 [(aj).enc p] (al) Q h:=
 bT [] (.s (.s (.sq (.s (.bk (.lp [⟨false,3,132⟩,⟨false,11,3⟩] [] .tt))) .tt))) func158 hv
theorem zD {m p reply Q h} (hv:OX prog m p reply Q h):bx prog vi [(aj).enc m,(aj).enc p,yH.enc reply] (Q) h:=
 show aa prog vi [(aj).enc m,(aj).enc p,yH.enc reply] (bm tb []) (λ_=>Q) h from bT [] (.rg (bV 0 13)) func159 hv
theorem Xd {s v Q h} (hv:QD prog s v Q h):aa prog Qq [(al).enc s,yH.enc v] yH Q h:=
 bT [] (.s (.sq (.s (.bk (.lp [⟨false,8,3⟩] [] .tt))) .tt)) func160 hv
theorem WY {s part t Q h} (hv:Of prog s part t Q h):aa prog N8 [(aj).enc s,yH.enc part,yH.enc t] yH Q h:=
 bT [] (.s (.s (.s (.sq (.rg (bV 0 10++bV 12 5++ [(10,[]),(11,[])]++bV 17 3)) .tt)))) func161 hv
theorem Y4 {op Q h} (hv:P0 prog op Q h):nR prog PH [yH.enc op] (bu) (bu) (bu) (bu) Q h:=
 show aa prog PH [yH.enc op] (bm tb [4,4,4,4]) (λr=>Q r.1 r.2.1 r.2.2.1 r.2.2.2) h from bT [] (.s (.sq (.s (.bk (.s (.s (.jn [⟨false,9,4⟩] [] .tt (.s (.jn [⟨false,15,4⟩] [] .tt (.s (.jn [⟨false,28,4⟩] [] .tt (.s (.jn [⟨false,35,4⟩] [] .tt (.s (.s (.s (.jn [⟨false,41,4⟩] [] .tt .tt))))))))))))))) .tt)) func162 hv
theorem On {n has Q h} (hv:OZ prog n has Q h):aa prog Kt [yH.enc n,(bu).enc has] yH Q h:=
 bT [] .tt func163 hv
theorem O7 {x n ai Q h} (hv:UK prog x n ai Q h):aZ prog UA [(be).enc x,yH.enc n,yH.enc ai] yH yH Q h:=
 show aa prog UA [(be).enc x,yH.enc n,yH.enc ai] (bm tb [33,3]) (λr=>Q r.1 r.2) h from bT [3] .tt func164 hv
theorem NR {op Q h} (hv:TI prog op Q h):nR prog Tq [yH.enc op] (bu) (bu) (bu) (bu) Q h:=
 show aa prog Tq [yH.enc op] (bm tb [4,4,4,4]) (λr=>Q r.1 r.2.1 r.2.2.1 r.2.2.2) h from bT [] .tt func165 hv
theorem Q4 {room Q h} (hv:zT prog room Q h):aZ prog zH [yH.enc room] (aj) yH Q h:=
 show aa prog zH [yH.enc room] (bm tb [202,33]) (λr=>Q r.1 r.2) h from bT [] .tt func166 hv
theorem Sk {n from_ to Q h} (hv:KX prog n from_ to Q h):aa prog KW [yH.enc n,yH.enc from_,yH.enc to] (bu) Q h:=
 bT [] .tt func167 hv
theorem O9 {l Q h} (hv:UM prog l Q h):aa prog FL [(al).enc l] (bu) Q h:=
 bT [5] (.s (.s (.sq (.s (.bk (.lp [⟨false,9,3⟩] [5] .tt))) .tt))) func168 hv
theorem YO {s i j Q h} (hv:WO prog s i j Q h):aa prog WM [(al).enc s,yH.enc i,yH.enc j] (al) Q h:=
 bT [] (.s (.s (.s (.s (.sq (.rg (bV 0 8)) .tt))))) func169 hv
theorem Pb {dO Q h} (hv:UO prog dO Q h):aa prog FN [(al).enc dO] yH Q h:=
 bT [] (.s (.s (.sq (.s (.bk (.lp [⟨false,8,3⟩] [] .tt))) .tt))) func170 hv
theorem Zq {x y Q h} (hv:Rh prog x y Q h):aa prog XG [yH.enc x,yH.enc y] yH Q h:=
 bT [] .tt func171 hv
theorem Zz {x y Q h} (hv:RO prog x y Q h):aa prog XS [yH.enc x,yH.enc y] yH Q h:=
 bT [] .tt func172 hv
theorem V6 {c l Q h} (hv:AY prog c l Q h):aZ prog J9 [(eo).enc c,(al).enc l] (be) (bu) Q h:=
 show aa prog J9 [(eo).enc c,(al).enc l] (bm tb [70,4]) (λr=>Q r.1 r.2) h from bT [2,4] .tt func176 hv
theorem Qh {x r Q h} (hv:VS prog x r Q h):gB prog VL [(be).enc x,(vo).enc r] (Ba) (bu) (bu) Q h:=
 show aa prog VL [(be).enc x,(vo).enc r] (bm tb [264,4,4]) (λr=>Q r.1 r.2.1 r.2.2) h from bT [2,3,4] (.s (.sq (.s (.bk (.s (.s (.s (.sq (.sq (.rg (bV 0 12)) .tt) .tt)))))) .tt)) func177 hv
theorem yk {c reg v Q h} (hv:Tg prog c reg v Q h):bx prog uB [(aj).enc c,yH.enc reg,yH.enc v] (Q) h:=
 show aa prog uB [(aj).enc c,yH.enc reg,yH.enc v] (bm tb []) (λ_=>Q) h from bT [] .tt func178 hv
theorem SA {op b c Q h} (hv:AZ prog op b c Q h):aZ prog AW [yH.enc op,yH.enc b,yH.enc c] yH yH Q h:=
 show aa prog AW [yH.enc op,yH.enc b,yH.enc c] (bm tb [2,33]) (λr=>Q r.1 r.2) h from bT [] .tt func179 hv
theorem SB {op b c Q h} (hv:A0 prog op b c Q h):aZ prog AX [yH.enc op,yH.enc b,yH.enc c] yH yH Q h:=
 show aa prog AX [yH.enc op,yH.enc b,yH.enc c] (bm tb [2,33]) (λr=>Q r.1 r.2) h from bT [] .tt func180 hv
theorem Zr {t i j Q h} (hv:Ri prog t i j Q h):aa prog XH [(aj).enc t,yH.enc i,yH.enc j] (bu) Q h:=
 bT [] (.s (.sq (.rg (bV 0 26)) .tt)) func181 hv
theorem YY {m p q v Q h} (hv:Pl prog m p q v Q h):bx prog Pf [(aj).enc m,(aj).enc p,(aj).enc q,yH.enc v] (Q) h:=
 show aa prog Pf [(aj).enc m,(aj).enc p,(aj).enc q,yH.enc v] (bm tb []) (λ_=>Q) h from bT [] (.bk (.s (.s (.sq (.rg (bV 0 12)) (.sq (.sq (.rg (bV 0 14)) .tt) .tt))))) func182 hv
theorem T9 {c code v from_ Q h} (hv:zU prog c code v from_ Q h):aa prog Li [(eo).enc c,(al).enc code,yH.enc v,yH.enc from_] (eo) Q h:=
 bT [8,9] (.s (.jn [] [9] .tt .tt)) func184 hv
theorem Xu {l n p Q h} (hv:Rj prog l n p Q h):aa prog Ra [(aj).enc l,yH.enc n,yH.enc p] yH Q h:=
 bT [] .tt func185 hv
theorem XK {l Q h} (hv:Sc prog l Q h):aa prog R6 [(aj).enc l] (bu) Q h:=
 bT [] (.s (.sq (.rg (bV 0 11)) .tt)) func186 hv
theorem Ym {n Q h} (hv:VU prog n Q h):aa prog VM [yH.enc n] yH Q h:=
 bT [] .tt func187 hv
theorem ZA {l p Q h} (hv:RP prog l p Q h):aa prog XT [(aj).enc l,yH.enc p] (bu) Q h:=
 bT [] .tt func188 hv
theorem Y5 {s i j Q h} (hv:P2 prog s i j Q h):aa prog Xk [(al).enc s,yH.enc i,yH.enc j] (al) Q h:=
 bT [] (.s (.s (.s (.s (.sq (.rg (bV 0 8)) .tt))))) func189 hv
theorem ZM {l Q h} (hv:SQ prog l Q h):aa prog X8 [(aj).enc l] (al) Q h:=
 bT [] (.s (.sq (.rg (bV 0 16)) .tt)) func190 hv
theorem Q5 {c code reply Q h} (hv:zV prog c code reply Q h):aa prog GH [(eo).enc c,(al).enc code,yH.enc reply] (eo) Q h:=
 bT [6,7] (.s (.jn [] [7] .tt .tt)) func191 hv
theorem Rz {has n Q h} (hv:SS prog has n Q h):aa prog KQ [(bu).enc has,yH.enc n] yH Q h:=
 bT [] .tt func192 hv
theorem NT {x has n ai Q h} (hv:TK prog x has n ai Q h):aa prog Yr [(be).enc x,(bu).enc has,yH.enc n,yH.enc ai] yH Q h:=
 bT [4] .tt func193 hv
theorem NV {op Q h} (hv:TM prog op Q h):aa prog Ys [yH.enc op] (og) Q h:=
 bT [] .tt func194 hv
theorem ZN {field a1 Q h} (hv:Yb prog field a1 Q h):aa prog X9 [(og).enc field,.pointer (some a1)] (bu) Q h:=
 bT [] .tt func195 hv
theorem XD {x Q h} (hv:RQ prog x Q h):aa prog RF [yH.enc x] (bu) Q h:=
 bT [] .tt func197 hv
theorem XO {x Q h} (hv:SU prog x Q h):aa prog SH [yH.enc x] (bu) Q h:=
 bT [] .tt func198 hv
theorem XZ {b c Q h} (hv:Th prog b c Q h):aa prog Td [yH.enc b,yH.enc c] yH Q h:=
 bT [] .tt func200 hv
theorem Q6 {b c Q h} (hv:GJ prog b c Q h):aa prog GI [yH.enc b,yH.enc c] yH Q h:=
 bT [] .tt func201 hv
theorem Qi {b c Q h} (hv:Ge prog b c Q h):aa prog Gc [yH.enc b,yH.enc c] yH Q h:=
 bT [] .tt func202 hv
theorem FU {is Q h} (hv:Ap prog is Q h):aa prog Ao [(bu).enc is] yH Q h:=
 bT [] .tt func203 hv
theorem Yn {bits Q h} (hv:VV prog bits Q h):aa prog VO [yH.enc bits] (iS .f64) Q h:=
 bT [] .tt func204 hv
theorem HA {f Q h} (hv:zW prog f Q h):aa prog CK [(iS .f64).enc f] yH Q h:=
 bT [] .tt func205 hv
theorem Qj {f Q h} (hv:VW prog f Q h):aa prog Gd [(iS .f64).enc f] yH Q h:=
 bT [] .tt func206 hv
theorem XL {t i Q h} (hv:Sd prog t i Q h):aa prog R7 [(aj).enc t,yH.enc i] (bu) Q h:=
 bT [] .tt func207 hv
theorem NX {a b Q h} (hv:TO prog a b Q h):aa prog Yt [(ae .u64).enc a,(ae .u64).enc b] (bu) Q h:=
 bT [] .tt func208 hv
theorem ZF {p lane proc v Q h} (hv:Sf prog p lane proc v Q h):aa prog X1 [(aj).enc p,yH.enc lane,yH.enc proc,yH.enc v] yH Q h:=
 bT [] .tt func209 hv
theorem ZB {p Q h} (hv:XW prog p Q h):aa prog XU [(aj).enc p] (kK) Q h:=
 bT [4] (.s (.sp 4 (.rg (bV 0 9++ [(10,[]),(9,[3,7]),(11,[7]),(12,[])])) .tt)) func210 hv
theorem ZO {l Q h} (hv:SW prog l Q h):aa prog Ou [(aj).enc l] yH Q h:=
 bT [] .tt func211 hv
theorem ZG {l Q h} (hv:Sh prog l Q h):nR prog R9 [(aj).enc l] yH (aE) (bu) yH Q h:=
 show aa prog R9 [(aj).enc l] (bm tb [2,192,4,33]) (λr=>Q r.1 r.2.1 r.2.2.1 r.2.2.2) h from bT [3] (.s (.s (.s (.sq (.rg (bV 0 11)) (.s (.s (.sq (.s (.sq (.s (.sq (.rg (bV 0 19)) (.rg (bV 0 7++ [(7,[4])]++bV 8 4)))) .tt)) (.sq (.rg (bV 0 7)) .tt)))))))) func212 hv
theorem XE {l p Q h} (hv:RT prog l p Q h):aa prog RG [(aj).enc l,yH.enc p] yH Q h:=
 bT [] .tt func213 hv
theorem YP {s i j Q h} (hv:Nr prog s i j Q h):aa prog WR [(al).enc s,yH.enc i,yH.enc j] (al) Q h:=
 bT [] (.s (.s (.s (.s (.sq (.rg (bV 0 8)) .tt))))) func214 hv
theorem ZC {p proc Q h} (hv:RU prog p proc Q h):aa prog XV [(aj).enc p,yH.enc proc] yH Q h:=
 bT [8] (.s (.sq (.s (.bk (.lp [⟨false,14,3⟩] [8] (.s (.s (.sq (.bk (.s (.s (.bk (.lp [⟨false,23,3⟩] [8] .tt))))) .tt)))))) .tt)) func219 hv
theorem ZH {l p v Q h} (hv:Sj prog l p v Q h):aa prog X2 [(aj).enc l,yH.enc p,yH.enc v] yH Q h:=
 bT [] .tt func220 hv
theorem YM {s f Q h} (hv:Nj prog s f Q h):aa prog WL [(al).enc s,(kK).enc f] yH Q h:=
 bT [] (.s (.sq (.s (.bk (.lp [⟨false,8,3⟩] [] .tt))) .tt)) func222 hv
theorem Zs {w a1 Q h} (hv:XI prog w a1 Q h):aa prog KE [(aE).enc w,.pointer (some a1)] (bu) Q h:=
 bT [2] .tt func223 hv
end Lf
