/-
  Part 7 of the texts that the claim leans on.
-/
import Derived.Test.YtloapcmhhcbonaaGreatMgSnKeeps5
namespace Lf
open Go Go.Proofs
def Ow {α β:Type} (R:α→β→Hp→List Nat→Prop) (v:α) (p:β) (h0:Hp) (G:List Nat) (h:Hp):Prop:=∃B,R v p h B∧B.Nodup∧Mv G h0 B h
section
variable {α β α' β':Type} {R:α→β→Hp→List Nat→Prop} {R':α'→β'→Hp→List Nat→Prop} {v v':α} {p p':β} {h0 h h':Hp} {G:List Nat}
theorem Ow.start {B:List Nat} (r:R v p h B) (nd:B.Nodup):Ow R v p h B h:=⟨B,r,nd,Mv.refl _ _⟩
theorem Ow.then_ {B:List Nat} (m:Mv G h0 B h) (o:Ow R v p h B h'):Ow R v p h0 G h':=by
 obtain ⟨B',r,nd,m'⟩:=o
 exact ⟨B',r,nd,m.trans m'⟩
theorem Ow.le (ok:AsOk R) (o:Ow R v p h0 G h) (hl:h≤h'):Ow R v p h0 G h':=by
 obtain ⟨B,r,nd,m⟩:=o
 exact ⟨B,ok.same r (zbb hl (ok.known r)),nd,m.trans (Mv.of_le B hl)⟩
theorem Ow.keep (o:Ow R v p h0 G h) {b:Nat} {ob:Obj} (e:h0 b=some ob) (hn:b∉G):h b=some ob:=by
 obtain ⟨B,r,nd,m⟩:=o
 exact m.keep b ob e hn
theorem Ow.mid {P M S:List Nat} (nd:(P++(M++S)).Nodup) (m:Mv G h0 (P++(M++S)) h) (kn:∀b∈P++S,h b≠none) {w:α'} {q:β'} (i:Ow R' w q h M h'):
  ∃M',R' w q h' M'∧(P++(M'++S)).Nodup∧Mv G h0 (P++(M'++S)) h'∧∀b∈P++S,h' b=h b:=by
 obtain ⟨M',r,nd',m'⟩:=i
 have n:=List.nodup_append.1 nd
 have n2:=List.nodup_append.1 n.2.1
 have hout:∀b∈P++S,b∉M:=fun b hb hm=>by
  rcases List.mem_append.1 hb with hb | hb
  ·exact n.2.2 b hb b (List.mem_append_left _ hm) rfl
  ·exact n2.2.2 b hm b hb rfl
 refine ⟨M',r,Lf.mid (B':=[]) nd nd' (fun c hc=>by simpa using m'.from_ c hc) kn (fun c hc=>by cases hc),⟨fun b o e hg=> ?_,fun b hb=> ?_⟩,fun b hb=> ?_⟩
 ·have e1:=m.keep b o e hg
  refine m'.keep b o e1 fun hm=> ?_
  rcases m.from_ b (List.mem_append_right _ (List.mem_append_left _ hm)) with h1 | h1
  ·exact hg h1
  ·rw [h1] at e;cases e
 ·have key:b∈P++(M++S)∨h b=none→b∈G∨h0 b=none:=fun h1=>by
   rcases h1 with h1 | h1
   ·exact m.from_ b h1
   ·cases e:h0 b with
    | none=>exact .inr rfl
    | some o=>
     refine .inl (Classical.byContradiction fun hn=> ?_)
     rw [m.keep b o e hn] at h1;cases h1
  rcases List.mem_append.1 hb with hb | hb
  ·exact key (.inl (List.mem_append_left _ hb))
  ·rcases List.mem_append.1 hb with hb | hb
   ·rcases m'.from_ b hb with h1 | h1
    ·exact key (.inl (List.mem_append_right _ (List.mem_append_left _ h1)))
    ·exact key (.inr h1)
   ·exact key (.inl (List.mem_append_right _ (List.mem_append_right _ hb)))
 ·cases e:h b with
  | none=>exact absurd e (kn b hb)
  | some o=>exact m'.keep b o e (hout b hb)
end
def Fr (M:List Nat) (h h':Hp):Prop:=∀b o,h b=some o→b∉M→h' b=some o
theorem Fr.refl (M:List Nat) (h:Hp):Fr M h h:=fun _ _ e _=>e
theorem Fr.le {M:List Nat} {h h1 h2:Hp} (f:Fr M h h1) (hl:h1≤h2):Fr M h h2:=fun b o e hn=>hl b o (f b o e hn)
theorem Ow.fr {α β:Type} {R:α→β→Hp→List Nat→Prop} {v:α} {p:β} {h h':Hp} {M:List Nat} (o:Ow R v p h M h'):Fr M h h':=fun _ _ e hn=>o.keep e hn
theorem Fr.then_ {M M':List Nat} {h h1 h2:Hp} (f:Fr M h h1) (g:Fr M' h1 h2) (hs:∀b∈M',b∈M∨h b=none):Fr M h h2:=fun b o e hn=>g b o (f b o e hn) fun hb=>by
 rcases hs b hb with h1 | h1
 ·exact hn h1
 ·rw [h1] at e;cases e
section
variable {α β:Type} {R:α→β→Hp→List Nat→Prop} {h h':Hp}
theorem LsO.at_ (ok:AsOk R):∀ {l:List α} {m:List β} {B:List Nat} {i:Nat} {p:β},LsO R l m h B→m[i]?=some p→
  ∃v P M S,l[i]?=some v∧B=P++(M++S)∧R v p h M∧∀h' v' p' M',(∀b∈P++S,h' b=h b)→R v' p' h' M'→LsO R (l.set i v') (m.set i p') h' (P++(M'++S))
 | [],[],_,i,p,_,hp=>by cases hp
 | a::l,b::m,_,0,p,⟨B1,B2,e,o1,o2⟩,hp=>by
  cases hp
  refine ⟨a,[],B1,B2,rfl,by rw [e];rfl,o1,fun h' v' p' M' hs r=>⟨M',B2,rfl,r,o2.same ok fun c hc=>hs c (by simpa using hc)⟩⟩
 | a::l,b::m,_,i+1,p,⟨B1,B2,e,o1,o2⟩,hp=>by
  obtain ⟨v,P,M,S,hv,e2,r,k⟩:=LsO.at_ ok o2 (i:=i) (p:=p) (by simpa using hp)
  refine ⟨v,B1++P,M,S,by simpa using hv,by rw [e,e2,List.append_assoc],r,fun h' v' p' M' hs r'=> ?_⟩
  refine ⟨B1,P++(M'++S),by rw [List.append_assoc],ok.same o1 fun c hc=>hs c (by simp [hc]),k h' v' p' M' (fun c hc=>hs c ?_) r'⟩
  rcases List.mem_append.1 hc with hc | hc<;>simp [hc]
 | [],_::_,_,_,_,o,_=>o.elim
 | _::_,[],_,_,_,o,_=>o.elim
end
section
variable {α:Type} {h:Hp} {sz:Nat} {enc:α→List Value} {l:Sl} {xs:List α}
theorem zhy2 {b o:Nat} {i:Int}:sat (some ⟨b,o,none⟩) sz i=⟨b,o+i.toNat*sz,none⟩:=by unfold sat;rw [Option.getD_some,zdh]
theorem OwnF.put {F:List Nat} (o:OwnF h sz enc l xs F) (henc:∀x,(enc x).length=sz) {i:Nat} {x x':α} (hx:xs[i]?=some x) {off:Nat} {new:List Value} (hoff:off+new.length≤sz) (hn:enc x'=(enc x).take off++new++(enc x).drop (off+new.length))
  {K:Hp→Prop} (hk:∀h',OwnF h' sz enc l (xs.set i x') F→Mv F h F h'→K h'):StW h ((sat l.base sz (i:Int)).add off) new K:=by
 have hi:i<xs.length:=by
  refine Classical.byContradiction fun hh=> ?_
  rw [List.getElem?_eq_none (by omega)] at hx;cases hx
 obtain ⟨o1,o2,o3⟩:=o
 rcases o3 with ⟨_,e2,_⟩ | ⟨b,cs,e1,rfl,kb,e4,e5⟩
 ·omega
 ·rw [e1,zhy2,zdh,show ((i:Int)).toNat=i from rfl,Nat.zero_add]
  have hmul:i*sz+sz≤l.len*sz:=by
   have:=Nat.mul_le_mul_right sz (show i+1≤l.len by omega)
   rw [Nat.add_mul,Nat.one_mul] at this
   exact this
  have hmul2:l.len*sz≤l.cap*sz:=Nat.mul_le_mul_right sz o2
  refine zdp kb (by rw [e4];omega) fun h' m' k'=> ?_
  refine hk h' ⟨by simp [o1],o2,.inr ⟨b,_,e1,rfl,k',?_,?_⟩⟩ m'
  ·simp only [List.length_append,List.length_take,List.length_drop,e4]
   omega
  ·have t1:cs.take (i*sz)=(xs.take i).flatMap enc:=by
    rw [zgl1 henc,←e5,List.take_take];congr 1;omega
   have t2:(cs.drop (i*sz+sz)).take (l.len*sz-(i*sz+sz))=(xs.drop (i+1)).flatMap enc:=by
    rw [zar1 henc,←e5,Nat.add_mul,Nat.one_mul,List.drop_take]
   have t3:(cs.drop (i*sz)).take sz=enc x:=by
    have h2:(xs.drop i).flatMap enc=enc x++(xs.drop (i+1)).flatMap enc:=by
     rw [List.drop_eq_getElem_cons hi,List.flatMap_cons]
     rw [List.getElem?_eq_getElem hi] at hx
     rw [Option.some.inj hx]
    have h3:(xs.drop i).flatMap enc=(cs.drop (i*sz)).take (l.len*sz-i*sz):=by
     rw [zar1 henc,←e5,List.drop_take]
    rw [h3] at h2
    have h4:=congrArg (List.take sz) h2
    rw [List.take_take,Nat.min_eq_left (by omega),←henc x,List.take_left] at h4
    rw [henc x] at h4
    exact h4
   have hcs:cs=cs.take (i*sz)++(enc x++cs.drop (i*sz+sz)):=by
    rw [←t3,←List.drop_drop,List.take_append_drop,List.take_append_drop]
   have hl0:(cs.take (i*sz)).length=i*sz:=by rw [List.length_take];omega
   have hle:(enc x).length=sz:=henc x
   have d1:cs.take (i*sz+off)=cs.take (i*sz)++(enc x).take off:=by
    conv=>lhs;rw [hcs]
    rw [List.take_append,hl0,List.take_of_length_le (by omega),List.take_append,hle,show i*sz+off-i*sz=off by omega,show off-sz=0 by omega,List.take_zero,List.append_nil]
   have d2:cs.drop (i*sz+off+new.length)=(enc x).drop (off+new.length)++cs.drop (i*sz+sz):=by
    conv=>lhs;rw [hcs]
    rw [List.drop_append,hl0,List.drop_eq_nil_of_le (by omega),List.nil_append,List.drop_append,hle,show i*sz+off+new.length-i*sz=off+new.length by omega,show off+new.length-sz=0 by omega,List.drop_zero]
   rw [d1,d2,show cs.take (i*sz)++(enc x).take off++new++((enc x).drop (off+new.length)++cs.drop (i*sz+sz))=(cs.take (i*sz)++enc x')++cs.drop (i*sz+sz) by rw [hn];simp]
   rw [zrb1 x' hi]
   have hl1:(cs.take (i*sz)++enc x').length=i*sz+sz:=by
    rw [List.length_append,hl0,henc]
   rw [List.take_append,hl1,t2,List.take_of_length_le (by rw [hl1];exact hmul),t1]
   simp
end
section
variable {β:Type} {sh:Shape} {sz:Nat} {R:sh.T→β→Hp→List Nat→Prop} {l:Sl} {ps:List β} {h0 h h':Hp} {G:List Nat}
theorem Ow.len (o:Ow (RowsO sh sz R) l ps h0 G h):l.len=ps.length:=by
 obtain ⟨B,r,_⟩:=o
 exact r.len
theorem Ow.atF (ok:AsOk R) (henc:∀x,(zad (sh.enc x)).length=sz) (hsz:0<sz) (o:Ow (RowsO sh sz R) l ps h0 G h) {i:Nat} {p:β} (hp:ps[i]?=some p):
  ∃(v:sh.T) (M:List Nat),InB l.base l.len (i:Int)∧Ow R v p h M h∧
   (∀h' p',Ow R v p' h M h'→LdIs h' (sat l.base sz (i:Int)) (zad (sh.enc v))∧Ow (RowsO sh sz R) l (ps.set i p') h0 G h')∧
   (∀h' v' p' (off:Nat) (new:List Value) (K:Hp→Prop),Ow R v' p' h M h'→off+new.length≤sz→zad (sh.enc v')=(zad (sh.enc v)).take off++new++(zad (sh.enc v)).drop (off+new.length)→(∀h'',Ow (RowsO sh sz R) l (ps.set i p') h0 G h''→K h'')→StW h' ((sat l.base sz (i:Int)).add off) new K)∧
   (∀b∈M,b∈G∨h0 b=none)∧(∀h',Fr M h h'→LdIs h' (sat l.base sz (i:Int)) (zad (sh.enc v))):=by
 obtain ⟨B,⟨xs,B1,B2,rfl,o1,o2⟩,nd,m⟩:=o
 obtain ⟨v,P,M,S,hv,rfl,r,k⟩:=o2.at_ ok hp
 have hi:i<xs.length:=by
  refine Classical.byContradiction fun hh=> ?_
  rw [List.getElem?_eq_none (by omega)] at hv;cases hv
 have nd':((B1++P)++(M++S)).Nodup:=by simpa using nd
 have m1:Mv G h0 ((B1++P)++(M++S)) h:=by simpa using m
 have kn2:=o2.known ok
 have kn:∀b∈(B1++P)++S,h b≠none:=fun b hb=>by
  rcases List.mem_append.1 hb with hb | hb
  ·rcases List.mem_append.1 hb with hb | hb
   ·exact o1.known b hb
   ·exact kn2 b (mem_a hb)
  ·exact kn2 b (mem_b (mem_b hb))
 have ndM:M.Nodup:=(List.nodup_append.1 (List.nodup_append.1 nd').2.1).1
 have hread:=Rw.read (o1.rw henc) henc hsz (i:=(i:Int)) (by omega) (by rw [o1.1];omega)
 refine ⟨v,M,hread.1,Ow.start r ndM,fun h' p' i'=> ?_,fun h' v' p' off new K i' hoff hn hk=> ?_,fun b hb=>m.from_ b (mem_b (mem_b (mem_a hb))),fun h' f=> ?_⟩
 ·obtain ⟨M',r',nd2,m2,hs⟩:=Ow.mid nd' m1 kn i'
  have o1':=o1.same fun b hb=>hs b (mem_a (mem_a hb))
  have hread2:=Rw.read (o1'.rw henc) henc hsz (i:=(i:Int)) (by omega) (by rw [o1.1];omega)
  obtain ⟨_,x,hx,hld⟩:=hread2
  have hx:xs[i]?=some x:=hx
  rw [hv] at hx
  cases hx
  refine ⟨hld,(B1++P)++(M'++S),⟨xs.set i v,B1,P++(M'++S),by simp,?_,k h' v p' M' (fun b hb=>hs b ?_) r'⟩,nd2,m2⟩
  ·rw [show xs.set i v=xs by
    rw [List.getElem?_eq_getElem hi] at hv
    rw [←Option.some.inj hv]
    exact List.set_getElem_self hi]
   exact o1'
  ·rcases List.mem_append.1 hb with hb | hb
   ·exact mem_a (mem_b hb)
   ·exact mem_b hb
 ·obtain ⟨M',r',nd2,m2,hs⟩:=Ow.mid nd' m1 kn i'
  have o1':=o1.same fun b hb=>hs b (mem_a (mem_a hb))
  refine o1'.put henc hv hoff hn fun h'' o1'' m''=>hk h'' ?_
  have nd3:(B1++(P++(M'++S))).Nodup:=by simpa using nd2
  have hB1:∀b∈P++(M'++S),b∉B1:=fun b hb h1=>(List.nodup_append.1 nd3).2.2 b h1 b hb rfl
  have r'':LsO R (xs.set i v') (ps.set i p') h' (P++(M'++S)):=k h' v' p' M' (fun b hb=>hs b (by
   rcases List.mem_append.1 hb with hb | hb
   ·exact mem_a (mem_b hb)
   ·exact mem_b hb)) r'
  have m3:Mv G h0 (B1++(P++(M'++S))) h':=by simpa using m2
  refine ⟨B1++(P++(M'++S)),⟨xs.set i v',B1,P++(M'++S),rfl,o1'',r''.same ok (zmv m'' (r''.known ok) hB1)⟩,nd3,m3.trans ?_⟩
  exact m''.wide (P++(M'++S))
 ·have hs:∀b∈B1,h' b=h b:=fun b hb=>by
   cases e:h b with
   | none=>exact absurd e (o1.known b hb)
   | some ob=>exact f b ob e fun hm=>(List.nodup_append.1 nd').2.2 b (mem_a hb) b (mem_a hm) rfl
  have o1':=o1.same hs
  obtain ⟨_,x,hx,hld⟩:=Rw.read (o1'.rw henc) henc hsz (i:=(i:Int)) (by omega) (by rw [o1.1];omega)
  have hx:xs[i]?=some x:=hx
  rw [hv] at hx
  cases hx
  exact hld
theorem Ow.at_ (ok:AsOk R) (henc:∀x,(zad (sh.enc x)).length=sz) (hsz:0<sz) (o:Ow (RowsO sh sz R) l ps h0 G h) {i:Nat} {p:β} (hp:ps[i]?=some p):
  ∃(v:sh.T) (M:List Nat),InB l.base l.len (i:Int)∧Ow R v p h M h∧
   (∀h' p',Ow R v p' h M h'→LdIs h' (sat l.base sz (i:Int)) (zad (sh.enc v))∧Ow (RowsO sh sz R) l (ps.set i p') h0 G h')∧
   (∀h' v' p' (off:Nat) (new:List Value) (K:Hp→Prop),Ow R v' p' h M h'→off+new.length≤sz→zad (sh.enc v')=(zad (sh.enc v)).take off++new++(zad (sh.enc v)).drop (off+new.length)→(∀h'',Ow (RowsO sh sz R) l (ps.set i p') h0 G h''→K h'')→StW h' ((sat l.base sz (i:Int)).add off) new K):=by
 obtain ⟨v,M,h1,h2,h3,h4,_⟩:=o.atF ok henc hsz hp
 exact ⟨v,M,h1,h2,h3,h4⟩
theorem Ow.app {S:sh.T→β→Prop} (o:Ow (RowsO sh sz (PureO S)) l ps h0 G h) {x:Sl} {vs:List sh.T} {qs:List β} (hS:All2 S vs qs) (hx:Rs h sh sz x vs) (henc:∀x,(zad (sh.enc x)).length=sz) (hok:∀x,zcz (zad (sh.enc x))=true)
  {zero:List Value} {bytes:Nat} (hz:zero.length=sz) (hb:ps.length+vs.length≤140737488355328∧(ps.length+vs.length)*bytes≤140737488355328) {K:Sl→Hp→Prop}
  (hk:∀l' h',Ow (RowsO sh sz (PureO S)) l' (ps++qs) h0 G h'→K l' h'):zaj sz bytes zero l x K h:=by
 have hlen:=o.len
 obtain ⟨B,⟨xs,B1,B2,rfl,o1,o2⟩,nd,m⟩:=o
 have hB2:∀ {l:List sh.T} {m:List β} {B:List Nat} {h:Hp},LsO (PureO S) l m h B→B=[]:=fun {l}=>by
  induction l with
  | nil=>intro m B h o;cases m with
   | nil=>exact o
   | cons _ _=>exact o.elim
  | cons a l ih=>intro m B h o;cases m with
   | nil=>exact o.elim
   | cons b m=>
    obtain ⟨C1,C2,e,g1,g2⟩:=o
    rw [e,g1.1,ih g2];rfl
 have e2:=hB2 o2
 subst e2
 have hxl:xs.length=ps.length:=by rw [←hlen];exact o1.1.symm
 rw [List.append_nil] at nd m
 have happ:∀ {l:List sh.T} {m:List β} {h':Hp},LsO (PureO S) l m h []→LsO (PureO S) (l++vs) (m++qs) h' []:=fun {l}=>by
  induction l with
  | nil=>intro m h' o;cases m with
   | nil=>
    have hgo:∀ {l:List sh.T} {m:List β},All2 S l m→LsO (PureO S) l m h' []:=fun {l}=>by
     induction l with
     | nil=>intro m a;cases m with
      | nil=>rfl
      | cons _ _=>exact a.elim
     | cons a l ih=>intro m q;cases m with
      | nil=>exact q.elim
      | cons b m=>exact ⟨[],[],rfl,⟨rfl,q.1⟩,ih q.2⟩
    exact hgo hS
   | cons _ _=>exact o.elim
  | cons a l ih=>intro m h' o;cases m with
   | nil=>exact o.elim
   | cons b m=>
    obtain ⟨C1,C2,e,g1,g2⟩:=o
    have e3:=hB2 g2
    subst e3
    exact ⟨[],[],rfl,⟨rfl,g1.2⟩,ih g2⟩
 refine appF o1 hx henc hok hz (by rw [hxl];exact hb) fun l' h' F' o1' m'=>hk l' h' ⟨F',⟨xs++vs,F',[],by simp,o1',happ o2⟩,o1'.nodup,m.trans m'⟩
end
end Lf

namespace Lf
open Go Go.Proofs
theorem zeg {h:Hp} {a:Addr} {cs vs:List Value} (e:LdIs h a cs) {j n:Nat} (hv:(cs.drop j).take n=vs):LdIs h (a.add j) vs:=fun i v hi=>by
 refine zra1 e j i v ?_
 rw [←hv,List.getElem?_take] at hi
 by_cases hn:i<n
 ·rwa [if_pos hn] at hi
 ·rw [if_neg hn] at hi;cases hi
theorem zlm1 (a:Addr):a.add 0=a:=by unfold Addr.add;rw [if_pos rfl]
section
variable {h0 h:Hp} {G:List Nat}
theorem zln1 {y:S_api_Lane} {q:PLane} (o:Ow LaneO y q h0 G h):∃M,Ow IsO y.Values q.values h M h∧∀h' l' vs',Ow IsO l' vs' h M h'→Ow LaneO {y with Values:=l'} {q with values:=vs'} h0 G h':=by
 obtain ⟨B,⟨B1,B2,rfl,o1,o2,o3,o4⟩,nd,m⟩:=o
 refine ⟨B1,Ow.start o1 (List.nodup_append.1 nd).1,fun h' l' vs' i=> ?_⟩
 obtain ⟨M',r',nd2,m2,hs⟩:=Ow.mid (P:=[]) (S:=B2) (by simpa using nd) (by simpa using m) (by simpa using okWs.known o2) i
 exact ⟨M'++B2,⟨M',B2,rfl,r',okWs.same o2 fun b hb=>hs b (by simpa using hb),o3,o4⟩,by simpa using nd2,by simpa using m2⟩
theorem zpy1 {y:S_api_Lane} {q:PLane} (o:Ow LaneO y q h0 G h):∃M,Ow WsO y.Waiters q.waiters h M h∧∀h' l' ws',Ow WsO l' ws' h M h'→Ow LaneO {y with Waiters:=l'} {q with waiters:=ws'} h0 G h':=by
 obtain ⟨B,⟨B1,B2,rfl,o1,o2,o3,o4⟩,nd,m⟩:=o
 refine ⟨B2,Ow.start o2 (List.nodup_append.1 nd).2.1,fun h' l' ws' i=> ?_⟩
 obtain ⟨M',r',nd2,m2,hs⟩:=Ow.mid (P:=B1) (S:=[]) (by simpa using nd) (by simpa using m) (by simpa using okIs.known o1) i
 exact ⟨B1++M',⟨B1,M',rfl,okIs.same o1 fun b hb=>hs b (by simpa using hb),r',o3,o4⟩,by simpa using nd2,by simpa using m2⟩
theorem zpz1 {y:S_api_Part} {q:PPart} (o:Ow PartO y q h0 G h):∃M,Ow LogO y.Log q.log h M h∧∀h' l' vs',Ow LogO l' vs' h M h'→Ow PartO {y with Log:=l'} {q with log:=vs'} h0 G h':=by
 obtain ⟨B,⟨B1,B2,B3,rfl,o1,o2,o3,o4⟩,nd,m⟩:=o
 refine ⟨B1,Ow.start o1 (List.nodup_append.1 nd).1,fun h' l' vs' i=> ?_⟩
 obtain ⟨M',r',nd2,m2,hs⟩:=Ow.mid (P:=[]) (S:=B2++B3) (by simpa using nd) (by simpa using m) (by simpa using zfw (okIs.known o2) (okQs.known o3)) i
 exact ⟨M'++(B2++B3),⟨M',B2,B3,rfl,r',okIs.same o2 fun b hb=>hs b (by simp [hb]),okQs.same o3 fun b hb=>hs b (by simp [hb]),o4⟩,by simpa using nd2,by simpa using m2⟩
theorem zer1 {y:S_api_Part} {q:PPart} (o:Ow PartO y q h0 G h):∃M,Ow IsO y.Owners q.owners h M h∧∀h' l' vs',Ow IsO l' vs' h M h'→Ow PartO {y with Owners:=l'} {q with owners:=vs'} h0 G h':=by
 obtain ⟨B,⟨B1,B2,B3,rfl,o1,o2,o3,o4⟩,nd,m⟩:=o
 refine ⟨B2,Ow.start o2 (List.nodup_append.1 (List.nodup_append.1 nd).2.1).1,fun h' l' vs' i=> ?_⟩
 obtain ⟨M',r',nd2,m2,hs⟩:=Ow.mid (P:=B1) (S:=B3) nd m (zfw (okLog.known o1) (okQs.known o3)) i
 exact ⟨B1++(M'++B3),⟨B1,M',B3,rfl,okLog.same o1 fun b hb=>hs b (mem_a hb),r',okQs.same o3 fun b hb=>hs b (mem_b hb),o4⟩,nd2,m2⟩
theorem zlo1 {y:S_api_Part} {q:PPart} (o:Ow PartO y q h0 G h):∃M,Ow QsO y.Queues q.queues h M h∧(∀b∈M,b∈G∨h0 b=none)∧∀h' l' vs',Ow QsO l' vs' h M h'→Ow PartO {y with Queues:=l'} {q with queues:=vs'} h0 G h':=by
 obtain ⟨B,⟨B1,B2,B3,rfl,o1,o2,o3,o4⟩,nd,m⟩:=o
 refine ⟨B3,Ow.start o3 (List.nodup_append.1 (List.nodup_append.1 nd).2.1).2.1,fun b hb=>m.from_ b (mem_b (mem_b hb)),fun h' l' vs' i=> ?_⟩
 obtain ⟨M',r',nd2,m2,hs⟩:=Ow.mid (P:=B1++B2) (S:=[]) (by simpa using nd) (by simpa using m) (by simpa using zfw (okLog.known o1) (okIs.known o2)) i
 exact ⟨B1++(B2++M'),⟨B1,B2,M',rfl,okLog.same o1 fun b hb=>hs b (by simp [hb]),okIs.same o2 fun b hb=>hs b (by simp [hb]),r',o4⟩,by simpa using nd2,by simpa using m2⟩
theorem zyz1 {x:S_api_Process} {p:PProcess} (o:Ow ProcessO x p h0 G h):∃M,Ow zgv1 x.Lanes p.lanes h M h∧∀h' l' vs',Ow zgv1 l' vs' h M h'→Ow ProcessO {x with Lanes:=l'} {p with lanes:=vs'} h0 G h':=by
 obtain ⟨B,⟨o1,o2⟩,nd,m⟩:=o
 refine ⟨B,Ow.start o1 nd,fun h' l' vs' i=> ?_⟩
 obtain ⟨M',r',nd2,m2⟩:=i
 exact ⟨M',⟨r',o2⟩,nd2,m.trans m2⟩
theorem zlp1 {v:S_api_State} {s:PState} (o:Ow StateO v s h0 G h):∃M,Ow zeq1 v.Procs s.procs h M h∧∀h' l' vs',Ow zeq1 l' vs' h M h'→Ow StateO {v with Procs:=l'} {s with procs:=vs'} h0 G h':=by
 obtain ⟨B,⟨B1,B2,rfl,o1,o2,o3⟩,nd,m⟩:=o
 refine ⟨B2,Ow.start o2 (List.nodup_append.1 nd).2.1,fun h' l' vs' i=> ?_⟩
 obtain ⟨M',r',nd2,m2,hs⟩:=Ow.mid (P:=B1) (S:=[]) (by simpa using nd) (by simpa using m) (by simpa using okParts.known o1) i
 exact ⟨B1++M',⟨B1,M',rfl,okParts.same o1 fun b hb=>hs b (by simpa using hb),r',o3⟩,by simpa using nd2,by simpa using m2⟩
theorem zlq1 {v:S_api_State} {s:PState} (o:Ow StateO v s h0 G h):∃M,Ow zgw1 v.Parts s.parts h M h∧∀h' l' vs',Ow zgw1 l' vs' h M h'→Ow StateO {v with Parts:=l'} {s with parts:=vs'} h0 G h':=by
 obtain ⟨B,⟨B1,B2,rfl,o1,o2,o3⟩,nd,m⟩:=o
 refine ⟨B1,Ow.start o1 (List.nodup_append.1 nd).1,fun h' l' vs' i=> ?_⟩
 obtain ⟨M',r',nd2,m2,hs⟩:=Ow.mid (P:=[]) (S:=B2) (by simpa using nd) (by simpa using m) (by simpa using okProcss.known o2) i
 exact ⟨M'++B2,⟨M',B2,rfl,r',okProcss.same o2 fun b hb=>hs b (by simpa using hb),o3⟩,by simpa using nd2,by simpa using m2⟩
theorem zhz2 {v:S_api_State} {s:PState} (o:Ow StateO v s h0 G h) {i:Nat} {p:PProcess} (hp:s.procs[i]?=some p):
  ∃(l:Sl) (M:List Nat),InB v.Procs.base v.Procs.len (i:Int)∧Ow zgv1 l p.lanes h M h∧
   ∀h' ls',Ow zgv1 l ls' h M h'→LdIs h' (Addr.add (sat v.Procs.base 15 (i:Int)) 14) [l.v]∧Ow StateO v {s with procs:=s.procs.set i {p with lanes:=ls'}} h0 G h':=by
 obtain ⟨M1,o1,back1⟩:=zlp1 o
 obtain ⟨x,M2,hin,o2,back2, -⟩:=o1.at_ okProcess (fun _=>rfl) (by omega) hp
 obtain ⟨M3,o3,back3⟩:=zyz1 o2
 refine ⟨x.Lanes,M3,hin,o3,fun h' ls' i'=> ?_⟩
 obtain ⟨l4,o4⟩:=back2 h' {p with lanes:=ls'} (back3 h' x.Lanes ls' i')
 exact ⟨zeg l4 (n:=1) rfl,back1 h' v.Procs _ o4⟩
theorem zct2 {v:S_api_State} {s:PState} (o:Ow StateO v s h0 G h) {i:Nat} {p:PPart} (hp:s.parts[i]?=some p):
  ∃(x:S_api_Part) (M:List Nat),InB v.Parts.base v.Parts.len (i:Int)∧Ow PartO x p h M h∧
   (∀h' p',Ow PartO x p' h M h'→LdIs h' (sat v.Parts.base 6 (i:Int)) (zad (sh_api_Part.enc x))∧Ow StateO v {s with parts:=s.parts.set i p'} h0 G h')∧
   (∀h' x' p' (off:Nat) (new:List Value) (K:Hp→Prop),Ow PartO x' p' h M h'→off+new.length≤6→zad (sh_api_Part.enc x')=(zad (sh_api_Part.enc x)).take off++new++(zad (sh_api_Part.enc x)).drop (off+new.length)→
    (∀h'',Ow StateO v {s with parts:=s.parts.set i p'} h0 G h''→K h'')→StW h' (Addr.add (sat v.Parts.base 6 (i:Int)) off) new K)∧
   (∀h',Fr M h h'→LdIs h' (sat v.Parts.base 6 (i:Int)) (zad (sh_api_Part.enc x))):=by
 obtain ⟨M1,o1,back1⟩:=zlq1 o
 obtain ⟨x,M2,hin,o2,back2,put2,_,fr2⟩:=o1.atF okPart (fun _=>rfl) (by omega) hp
 refine ⟨x,M2,hin,o2,fun h' p' i'=> ?_,fun h' x' p' off new K i' h1 h2 hk=>put2 h' x' p' off new K i' h1 h2 fun h'' o''=>hk h'' (back1 h'' v.Parts _ o''),fr2⟩
 obtain ⟨l4,o4⟩:=back2 h' p' i'
 exact ⟨l4,back1 h' v.Parts _ o4⟩
end
end Lf

namespace Lf
open Go Go.Proofs
def zge2 (n:Int) (q:PLane):Prop:=(∀v∈q.values,v=n)∧(∀w∈q.waiters,w.proc=n)∧q.values.length≤2199023255552∧q.waiters.length≤2199023255552
def LaneS (q:PLane):Prop:=q.values.length≤1099511627776∧q.waiters.length≤1099511627776
section
variable {h0 h:Hp} {G:List Nat} {l:Sl} {ls:List PLane} {k:Nat} {q:PLane} {N:Int}
end
end Lf

namespace Lf
open Go Go.Proofs
def LogIs (n:Int) (l:List ziy):Prop:=(∀e∈l,e.proc=n)∧l.length≤2199023255552
def QIs (n:Int) (l:List Int):Prop:=(∀x∈l,x=n)∧l.length≤2199023255552
section
variable {h0 h:Hp} {G:List Nat} {v:S_api_State} {s:PState} {i k:Nat} {p:PPart} {N:Int}
variable {qv:List Int}
end
end Lf

namespace Lf
open Go Go.Proofs
def sumTo (S:List Nat) (i:Nat):Nat:=(S.take i).sum
def zdn (i k i' k':Nat):Prop:=i'<i∨(i'=i∧k'<k)
theorem done_step {i k i' k':Nat}:zdn i (k+1) i' k'↔zdn i k i' k'∨(i'=i∧k'=k):=by unfold zdn;omega
structure LanesT (S:List Nat) (t i k:Nat) (ps:List PProcess):Prop where
 shape:ps.map (fun p=>p.lanes.length)=S
 is:∀i' p k' q,ps[i']?=some p→p.lanes[k']?=some q→(t=1∨zdn i k i' k')→zge2 ((sumTo S i'+k'+1:Nat):Int) q
 short:∀i' p k' q,ps[i']?=some p→p.lanes[k']?=some q→(t=0∨¬zdn i k i' k')→LaneS q
theorem znb {α:Type} {l:List α} {i j:Nat} {x y:α} (h:(l.set i x)[j]?=some y):(j=i∧y=x)∨(j≠i∧l[j]?=some y):=by
 rw [List.getElem?_set] at h
 by_cases hij:i=j
 ·rw [if_pos hij] at h
  by_cases hl:i<l.length
  ·rw [if_pos hl] at h
   exact .inl ⟨hij.symm,(Option.some.inj h).symm⟩
  ·rw [if_neg hl] at h;cases h
 ·rw [if_neg hij] at h
  exact .inr ⟨fun e=>hij e.symm,h⟩
theorem zax1 {α β:Type} {f:α→β} {l:List α} {i:Nat} {x y:α} (h:l[i]?=some x) (e:f y=f x):(l.set i y).map f=l.map f:=by
 rw [List.map_set,e]
 obtain ⟨hi,hx⟩:=List.getElem?_eq_some_iff.1 h
 refine List.ext_getElem? fun j=> ?_
 rw [List.getElem?_set]
 by_cases hij:i=j
 ·subst hij
  rw [if_pos rfl,if_pos (by simpa using hi),List.getElem?_map,h];rfl
 ·rw [if_neg hij]
section
variable {S:List Nat} {t i k:Nat} {ps:List PProcess}
theorem LanesT.at_ (a:LanesT S t i k ps) {j:Nat} {p:PProcess} (h:ps[j]?=some p):S[j]?=some p.lanes.length:=by
 rw [←a.shape,List.getElem?_map,h];rfl
theorem LanesT.len (a:LanesT S t i k ps):ps.length=S.length:=by
 rw [←a.shape,List.length_map]
theorem LanesT.step (a:LanesT S t i k ps) {p:PProcess} {q q':PLane} (hp:ps[i]?=some p) (hq:p.lanes[k]?=some q) (h1:zge2 ((sumTo S i+k+1:Nat):Int) q') (h2:t=0→LaneS q'):
  LanesT S t i (k+1) (ps.set i {p with lanes:=p.lanes.set k q'}) where
 shape:=by
  rw [zax1 hp (by simp)]
  exact a.shape
 is:=fun i' p2 k' q2 hp2 hq2 hd=>by
  rcases znb hp2 with ⟨rfl,rfl⟩ | ⟨hne,hp3⟩
  ·rcases znb hq2 with ⟨rfl,rfl⟩ | ⟨hne,hq3⟩
   ·exact h1
   ·refine a.is i' p k' q2 hp hq3 ?_
    rcases hd with hd | hd
    ·exact .inl hd
    ·rcases done_step.1 hd with hd | hd
     ·exact .inr hd
     ·exact absurd hd.2 hne
  ·refine a.is i' p2 k' q2 hp3 hq2 ?_
   rcases hd with hd | hd
   ·exact .inl hd
   ·rcases done_step.1 hd with hd | hd
    ·exact .inr hd
    ·exact absurd hd.1 hne
 short:=fun i' p2 k' q2 hp2 hq2 hd=>by
  rcases znb hp2 with ⟨rfl,rfl⟩ | ⟨hne,hp3⟩
  ·rcases znb hq2 with ⟨rfl,rfl⟩ | ⟨hne,hq3⟩
   ·rcases hd with hd | hd
    ·exact h2 hd
    ·exact absurd (done_step.2 (.inr ⟨rfl,rfl⟩)) hd
   ·refine a.short i' p k' q2 hp hq3 ?_
    rcases hd with hd | hd
    ·exact .inl hd
    ·exact .inr fun hd2=>hd (done_step.2 (.inl hd2))
  ·refine a.short i' p2 k' q2 hp3 hq2 ?_
   rcases hd with hd | hd
   ·exact .inl hd
   ·exact .inr fun hd2=>hd (done_step.2 (.inl hd2))
theorem LanesT.next (a:LanesT S t i k ps) {p:PProcess} (hp:ps[i]?=some p) (hk:k=p.lanes.length):LanesT S t (i+1) 0 ps where
 shape:=a.shape
 is:=fun i' p2 k' q2 hp2 hq2 hd=>a.is i' p2 k' q2 hp2 hq2 (by
  rcases hd with hd | hd
  ·exact .inl hd
  ·right
   unfold zdn at*
   by_cases h:i'=i
   ·subst h
    rw [hp] at hp2
    cases hp2
    have:=(List.getElem?_eq_some_iff.1 hq2).1
    omega
   ·omega)
 short:=fun i' p2 k' q2 hp2 hq2 hd=>a.short i' p2 k' q2 hp2 hq2 (by
  rcases hd with hd | hd
  ·exact .inl hd
  ·right
   unfold zdn at*
   omega)
end
def sumT (T:List Nat) (i:Nat):Nat:=sumTo (T.map (· +1)) i
structure PartsT (T:List Nat) (L t i k:Nat) (ps:List PPart):Prop where
 shape:ps.map (fun p=>p.queues.length)=T
 logIs:∀i' p,ps[i']?=some p→(t=1∨zdn i k i' 0)→LogIs ((L+sumT T i'+1:Nat):Int) p.log
 logS:∀i' p,ps[i']?=some p→(t=0∨¬zdn i k i' 0)→p.log.length≤1099511627776
 qIs:∀i' p k' q,ps[i']?=some p→p.queues[k']?=some q→(t=1∨zdn i k i' (k'+1))→QIs ((L+sumT T i'+1+k'+1:Nat):Int) q
 qS:∀i' p k' q,ps[i']?=some p→p.queues[k']?=some q→(t=0∨¬zdn i k i' (k'+1))→q.length≤1099511627776
section
variable {T:List Nat} {L t i k:Nat} {ps:List PPart}
theorem PartsT.at_ (a:PartsT T L t i k ps) {j:Nat} {p:PPart} (h:ps[j]?=some p):T[j]?=some p.queues.length:=by
 rw [←a.shape,List.getElem?_map,h];rfl
theorem PartsT.len (a:PartsT T L t i k ps):ps.length=T.length:=by
 rw [←a.shape,List.length_map]
theorem PartsT.log (a:PartsT T L t i 0 ps) {p:PPart} {lg:List ziy} (hp:ps[i]?=some p) (h1:LogIs ((L+sumT T i+1:Nat):Int) lg) (h2:t=0→lg.length≤1099511627776):PartsT T L t i 1 (ps.set i {p with log:=lg}) where
 shape:=by
  exact (zax1 (f:=fun p:PPart=>p.queues.length) (y:={p with log:=lg}) hp rfl).trans a.shape
 logIs:=fun i' p2 hp2 hd=>by
  rcases znb hp2 with ⟨rfl,rfl⟩ | ⟨hne,hp3⟩
  ·exact h1
  ·refine a.logIs i' p2 hp3 ?_
   rcases hd with hd | hd
   ·exact .inl hd
   ·right;unfold zdn at*;omega
 logS:=fun i' p2 hp2 hd=>by
  rcases znb hp2 with ⟨rfl,rfl⟩ | ⟨hne,hp3⟩
  ·rcases hd with hd | hd
   ·exact h2 hd
   ·exact absurd (by unfold zdn;omega) hd
  ·refine a.logS i' p2 hp3 ?_
   rcases hd with hd | hd
   ·exact .inl hd
   ·right;unfold zdn at*;omega
 qIs:=fun i' p2 k' q hp2 hq hd=>by
  rcases znb hp2 with ⟨rfl,rfl⟩ | ⟨hne,hp3⟩
  ·refine a.qIs i' p k' q hp hq ?_
   rcases hd with hd | hd
   ·exact .inl hd
   ·right;unfold zdn at*;omega
  ·refine a.qIs i' p2 k' q hp3 hq ?_
   rcases hd with hd | hd
   ·exact .inl hd
   ·right;unfold zdn at*;omega
 qS:=fun i' p2 k' q hp2 hq hd=>by
  rcases znb hp2 with ⟨rfl,rfl⟩ | ⟨hne,hp3⟩
  ·refine a.qS i' p k' q hp hq ?_
   rcases hd with hd | hd
   ·exact .inl hd
   ·right;unfold zdn at*;omega
  ·refine a.qS i' p2 k' q hp3 hq ?_
   rcases hd with hd | hd
   ·exact .inl hd
   ·right;unfold zdn at*;omega
theorem PartsT.step (a:PartsT T L t i (k+1) ps) {p:PPart} {q q':List Int} (hp:ps[i]?=some p) (hq:p.queues[k]?=some q) (h1:QIs ((L+sumT T i+1+k+1:Nat):Int) q') (h2:t=0→q'.length≤1099511627776):
  PartsT T L t i (k+1+1) (ps.set i {p with queues:=p.queues.set k q'}) where
 shape:=by
  rw [zax1 hp (by simp)]
  exact a.shape
 logIs:=fun i' p2 hp2 hd=>by
  rcases znb hp2 with ⟨rfl,rfl⟩ | ⟨hne,hp3⟩
  ·refine a.logIs i' p hp ?_
   rcases hd with hd | hd
   ·exact .inl hd
   ·right;unfold zdn at*;omega
  ·refine a.logIs i' p2 hp3 ?_
   rcases hd with hd | hd
   ·exact .inl hd
   ·right;unfold zdn at*;omega
 logS:=fun i' p2 hp2 hd=>by
  rcases znb hp2 with ⟨rfl,rfl⟩ | ⟨hne,hp3⟩
  ·refine a.logS i' p hp ?_
   rcases hd with hd | hd
   ·exact .inl hd
   ·right;unfold zdn at*;omega
  ·refine a.logS i' p2 hp3 ?_
   rcases hd with hd | hd
   ·exact .inl hd
   ·right;unfold zdn at*;omega
 qIs:=fun i' p2 k' q2 hp2 hq2 hd=>by
  rcases znb hp2 with ⟨rfl,rfl⟩ | ⟨hne,hp3⟩
  ·rcases znb hq2 with ⟨rfl,rfl⟩ | ⟨hne,hq3⟩
   ·exact h1
   ·refine a.qIs i' p k' q2 hp hq3 ?_
    rcases hd with hd | hd
    ·exact .inl hd
    ·right;unfold zdn at*;omega
  ·refine a.qIs i' p2 k' q2 hp3 hq2 ?_
   rcases hd with hd | hd
   ·exact .inl hd
   ·right;unfold zdn at*;omega
 qS:=fun i' p2 k' q2 hp2 hq2 hd=>by
  rcases znb hp2 with ⟨rfl,rfl⟩ | ⟨hne,hp3⟩
  ·rcases znb hq2 with ⟨rfl,rfl⟩ | ⟨hne,hq3⟩
   ·rcases hd with hd | hd
    ·exact h2 hd
    ·exact absurd (by unfold zdn;omega) hd
   ·refine a.qS i' p k' q2 hp hq3 ?_
    rcases hd with hd | hd
    ·exact .inl hd
    ·right;unfold zdn at*;omega
  ·refine a.qS i' p2 k' q2 hp3 hq2 ?_
   rcases hd with hd | hd
   ·exact .inl hd
   ·right;unfold zdn at*;omega
theorem PartsT.next (a:PartsT T L t i (k+1) ps) {p:PPart} (hp:ps[i]?=some p) (hk:k=p.queues.length):PartsT T L t (i+1) 0 ps where
 shape:=a.shape
 logIs:=fun i' p2 hp2 hd=>a.logIs i' p2 hp2 (by
  rcases hd with hd | hd
  ·exact .inl hd
  ·right;unfold zdn at*;omega)
 logS:=fun i' p2 hp2 hd=>a.logS i' p2 hp2 (by
  rcases hd with hd | hd
  ·exact .inl hd
  ·right;unfold zdn at*;omega)
 qIs:=fun i' p2 k' q2 hp2 hq2 hd=>a.qIs i' p2 k' q2 hp2 hq2 (by
  rcases hd with hd | hd
  ·exact .inl hd
  ·right
   unfold zdn at*
   by_cases h:i'=i
   ·subst h
    rw [hp] at hp2
    cases hp2
    have:=(List.getElem?_eq_some_iff.1 hq2).1
    omega
   ·omega)
 qS:=fun i' p2 k' q2 hp2 hq2 hd=>a.qS i' p2 k' q2 hp2 hq2 (by
  rcases hd with hd | hd
  ·exact .inl hd
  ·right;unfold zdn at*;omega)
end
end Lf

namespace Lf
open Go Go.Proofs
section
variable {v:S_api_State} {s:PState} {h:Hp} {B:List Nat}
theorem Ow.procs_len {h0:Hp} {G:List Nat} (o:Ow StateO v s h0 G h):v.Procs.len=s.procs.length:=by
 obtain ⟨M,o1, -⟩:=zlp1 o
 exact o1.len
theorem Ow.parts_len {h0:Hp} {G:List Nat} (o:Ow StateO v s h0 G h):v.Parts.len=s.parts.length:=by
 obtain ⟨M,o1, -⟩:=zlq1 o
 exact o1.len
end
end Lf

namespace Lf
open Go Go.Proofs
section
variable {v:S_api_State} {s:PState} {h:Hp}
end
end Lf

namespace Lf
open Go Go.Proofs
structure SmallS (s:PState):Prop where
 procs:s.procs.length≤32
 parts:s.parts.length≤8
 lanes:∀p∈s.procs,p.lanes.length≤9∧∀l∈p.lanes,LaneS l
 lists:∀p∈s.parts,p.log.length≤1099511627776∧p.queues.length≤8∧∀q∈p.queues,q.length≤1099511627776
theorem zcu2 {c:PCfg} {s:PState} (few:Few c) (h:StateV c s):SmallS s:=by
 obtain ⟨_,a1,a2,_⟩:=h
 obtain ⟨b1,b2⟩:=zew a1
 obtain ⟨b3,b4⟩:=zew a2
 have f1:=few.nl
 have f2:=few.np
 have f3:=few.locks
 refine ⟨by omega,by omega,fun p hp=> ?_,fun p hp=> ?_⟩
 ·obtain ⟨_,_,_,_,_,_,_,g1,_⟩:=b4 p hp
  obtain ⟨g2,g3⟩:=zew g1
  refine ⟨by omega,fun l hl=> ?_⟩
  obtain ⟨⟨⟨_,h1⟩,_⟩,_,⟨⟨_,h2⟩,_⟩,_⟩:=g3 l hl
  have h1:((l.values.length:Nat):Int)<256:=h1
  have h2:((l.waiters.length:Nat):Int)<256:=h2
  exact ⟨by omega,by omega⟩
 ·obtain ⟨_,⟨⟨_,h0⟩,_⟩,_,_,_,⟨xs,g1,g2,g3⟩,g4⟩:=b2 p hp
  have h0:((p.log.length:Nat):Int)<65536:=h0
  rw [List.nil_append] at g1
  have g3:=(zfq (V:=LockV (c.procs.length:Int)) xs []).1 g3
  have hq:p.queues.length=xs.length:=by rw [←g1,List.length_zip,g4];simp
  refine ⟨by omega,by omega,fun q hq=> ?_⟩
  obtain ⟨z,hz1,hz2⟩:=zli1 g4 q hq
  rw [g1] at hz1
  obtain ⟨_,⟨⟨_,h2⟩,_⟩,_⟩:=g3 z hz1
  have h2:((z.2.length:Nat):Int)<256:=h2
  rw [←hz2]
  omega
theorem zcv2 {n:Nat}:∀(l:List Nat),(∀x∈l,x≤n)→l.sum≤l.length*n
 | [],_=>by simp
 | x::l,h=>by
  have h1:=h x (List.mem_cons_self ..)
  have h2:=zcv2 l fun y hy=>h y (List.mem_cons_of_mem _ hy)
  rw [List.sum_cons,List.length_cons,Nat.add_mul,Nat.one_mul]
  omega
theorem SmallS.start {s:PState} (a:SmallS s) (L:Nat):LanesT (s.procs.map fun p=>p.lanes.length) 0 0 0 s.procs∧PartsT (s.parts.map fun p=>p.queues.length) L 0 0 0 s.parts∧
  ((s.procs.map fun p=>p.lanes.length).sum≤1000000∧(s.procs.map fun p=>p.lanes.length).length≤1000000)∧(((s.parts.map fun p=>p.queues.length).map (· +1)).sum≤1000000∧(s.parts.map fun p=>p.queues.length).length≤1000000):=by
 have h1:=a.procs
 have h2:=a.parts
 refine ⟨⟨rfl,fun i' p k' q hp hq hd=> ?_,fun i' p k' q hp hq _=>(a.lanes p (List.mem_of_getElem? hp)).2 q (List.mem_of_getElem? hq)⟩,⟨rfl,fun i' p hp hd=> ?_,fun i' p hp _=>(a.lists p (List.mem_of_getElem? hp)).1,fun i' p k' q hp hq hd=> ?_,fun i' p k' q hp hq _=>(a.lists p (List.mem_of_getElem? hp)).2.2 q (List.mem_of_getElem? hq)⟩,
  ⟨?_,by rw [List.length_map];omega⟩,⟨?_,by rw [List.length_map];omega⟩⟩
 ·unfold zdn at hd;omega
 ·unfold zdn at hd;omega
 ·unfold zdn at hd;omega
 ·have:=zcv2 (n:=9) (s.procs.map fun p=>p.lanes.length) fun x hx=>by
   obtain ⟨p,hp,rfl⟩:=List.mem_map.1 hx
   exact (a.lanes p hp).1
  rw [List.length_map] at this
  omega
 ·have:=zcv2 (n:=9) ((s.parts.map fun p=>p.queues.length).map (· +1)) fun x hx=>by
   obtain ⟨y,hy,rfl⟩:=List.mem_map.1 hx
   obtain ⟨p,hp,rfl⟩:=List.mem_map.1 hy
   have:=(a.lists p hp).2.1
   omega
  rw [List.length_map,List.length_map] at this
  omega
theorem zcw2 {h:Hp}:StateO st0 stNil h []:=⟨[],[],rfl,RowsO.nil,RowsO.nil,rfl⟩
end Lf

namespace Lf
open Go Go.Proofs
def PartF (p:PPart):Prop:=p.log.length≤1048576∧p.owners.length≤1048576∧p.queues.length≤1048576∧∀q∈p.queues,q.length≤1048576
def ProcF (p:PProcess):Prop:=p.lanes.length≤1048576∧∀l∈p.lanes,l.values.length≤1048576∧l.waiters.length≤1048576
structure FewS (s:PState):Prop where
 np:s.parts.length≤1048576
 nq:s.procs.length≤1048576
 parts:∀p∈s.parts,PartF p
 procs:∀p∈s.procs,ProcF p
section
variable {h:Hp} {Q:Bool→Hp→Prop}
theorem zxg1 {α:Type} {R:α→Prop} {xs:List α} (h:∀j x,j<xs.length→xs[j]?=some x→R x):∀x∈xs,R x:=fun x hx=>by
 obtain ⟨i,hi⟩:=List.getElem?_of_mem hx
 exact h i x (List.getElem?_eq_some_iff.1 hi).1 hi
theorem zjl1 {α:Type} {R:α→Prop} {xs:List α} {n:Nat} {p:α} (h:∀j x,j<n→xs[j]?=some x→R x) (hp:xs[n]?=some p) (hr:R p):∀j x,j<n+1→xs[j]?=some x→R x:=fun j x hj hx=>by
 by_cases e:j=n
 ·subst e
  rw [hp] at hx
  cases hx
  exact hr
 ·exact h j x (by omega) hx
set_option maxRecDepth 20000 in
theorem zza1 {x:S_api_Config} {y:S_api_State} {c:PCfg} {s:PState} (a:CfgAt h x c) (hc:CfgLe c) (b:StateAt h y s) (hs:StLe s) (hq:∀r,(r=false→FewS s)→Q r h):zil Tryz.prog x y Q h:=by
 unfold zil
 obtain ⟨ps,hps,hallp⟩:=b.parts
 obtain ⟨qs,hqs,hallq⟩:=b.procs
 have e1:=hallp.len
 have e2:=hallq.len
 have e3:y.Parts.len=ps.length:=hps.1
 have e4:y.Procs.len=qs.length:=hqs.1
 refine zwt (zfg2 a hc fun r=>letW (letW ?_))
 by_cases hy:(((!r) || (decide (((y.Parts.len:Nat):Int)>(1048576:Int)))) || (decide (((y.Procs.len:Nat):Int)>(1048576:Int))))=true
 ·rw [if_pos hy]
  exact hq _ fun e=>by cases e
 rw [if_neg hy]
 simp only [Bool.or_eq_true,decide_eq_true_eq,not_or] at hy
 have n1:ps.length≤1048576:=by omega
 have n2:qs.length≤1048576:=by omega
 refine LoopW2.intro (fun left i k=>k=h∧∃n:Nat,i=(n:Int)∧n≤ps.length∧left≤1048576∧ -1125899906842624≤left∧(0≤left→∀j p,j<n→s.parts[j]?=some p→PartF p)) (fun _ i _=>(ps.length-i).toNat) ⟨rfl,0,rfl,by omega,by omega,by omega,fun _ j p hj=>by omega⟩ ?_
 rintro left i k ⟨rfl,n,rfl,hn,hl1,hl2,hfew⟩
 refine letW ?_
 by_cases hlt:((decide ((n:Int)<((y.Parts.len:Nat):Int)))&&(decide (left≥(0:Int))))=true
 ·rw [if_pos hlt]
  rw [Bool.and_eq_true,decide_eq_true_eq,decide_eq_true_eq] at hlt
  obtain ⟨hlt,hpos⟩:=hlt
  have hfew:=hfew hpos
  refine Rs.get (sh:=sh_api_Part) hps (fun _=>rfl) (by omega) (by omega) (by omega) fun z hz=> ?_
  have hz:ps[n]?=some z:=hz
  obtain ⟨p,hp1,hp2⟩:=hallp.get hz
  obtain ⟨us,hus,hallu⟩:=hp2.queues
  obtain ⟨es,hes,hem⟩:=hp2.log
  have e5:=hallu.len
  have e6:z.Queues.len=us.length:=hus.1
  have e7:z.Log.len=es.length:=hes.1
  have e8:es.length=p.log.length:=by rw [←hem,List.length_map]
  have e9:z.Owners.len=p.owners.length:=hp2.owners.1
  obtain ⟨n3,n4,n5,n6⟩:=hs.log p (List.mem_of_getElem? hp1)
  rw [zal (n:=(1:Int)+((z.Log.len:Nat):Int)) (by omega) (by omega),zal (n:=(1:Int)+((z.Log.len:Nat):Int)+((z.Owners.len:Nat):Int)) (by omega) (by omega),zal (n:=(1:Int)+((z.Log.len:Nat):Int)+((z.Owners.len:Nat):Int)+((z.Queues.len:Nat):Int)) (by omega) (by omega),zal (n:=left-_) (by omega) (by omega)]
  refine LoopW2.intro (fun left1 i k'=>k'=k∧∃m:Nat,i=(m:Int)∧m≤us.length∧left1≤1048576∧ -1125899906842624≤left1∧(0≤left1→(p.log.length≤1048576∧p.owners.length≤1048576∧p.queues.length≤1048576)∧∀j q,j<m→p.queues[j]?=some q→q.length≤1048576)) (fun _ i _=>(us.length-i).toNat)
   ⟨rfl,0,rfl,by omega,by omega,by omega,fun _=>⟨by omega,fun j q hj=>by omega⟩⟩ ?_
  rintro left1 i k' ⟨rfl,m,rfl,hm,hm1,hm2,hfew1⟩
  refine letW ?_
  by_cases hlt2:((decide ((m:Int)<((z.Queues.len:Nat):Int)))&&(decide (left1≥(0:Int))))=true
  ·rw [if_pos hlt2]
   rw [Bool.and_eq_true,decide_eq_true_eq,decide_eq_true_eq] at hlt2
   obtain ⟨hlt2,hpos1⟩:=hlt2
   obtain ⟨hfew1,hfew2⟩:=hfew1 hpos1
   refine Rs.get (sh:=shSl) hus (fun _=>rfl) (by omega) (by omega) (by omega) fun u hu=> ?_
   have hu:us[m]?=some u:=hu
   obtain ⟨q,hq1,hq2⟩:=hallu.get hu
   have e10:u.len=q.length:=hq2.1
   have n7:=n6 q (List.mem_of_getElem? hq1)
   rw [zal (n:=(m:Int)+1) (by omega) (by omega),zal (n:=left1-((u.len:Nat):Int)) (by omega) (by omega)]
   exact ⟨⟨rfl,m+1,by omega,by omega,by omega,by omega,fun h0=>⟨hfew1,zjl1 hfew2 hq1 (by omega)⟩⟩,by omega⟩
  ·rw [if_neg hlt2,zal (n:=(n:Int)+1) (by omega) (by omega)]
   simp only [Bool.and_eq_true,decide_eq_true_eq,not_and] at hlt2
   refine ⟨⟨rfl,n+1,by omega,by omega,by omega,by omega,fun h0=> ?_⟩,by omega⟩
   obtain ⟨g1,g2⟩:=hfew1 h0
   refine zjl1 hfew hp1 ⟨g1.1,g1.2.1,g1.2.2,zxg1 fun j q hj hq=>g2 j q ?_ hq⟩
   have:¬((m:Int)<((z.Queues.len:Nat):Int)):=fun e=>by have:=hlt2 e;omega
   omega
 ·rw [if_neg hlt]
  simp only [Bool.and_eq_true,decide_eq_true_eq,not_and] at hlt
  have hparts:0≤left→∀p∈s.parts,PartF p:=fun h0=>zxg1 fun j p hj hp=>hfew h0 j p (by
   have:¬((n:Int)<((y.Parts.len:Nat):Int)):=fun e=>by have:=hlt e;omega
   omega) hp
  refine LoopW2.intro (fun left i k'=>k'=k∧∃n:Nat,i=(n:Int)∧n≤qs.length∧left≤1048576∧ -1125899906842624≤left∧(0≤left→(∀p∈s.parts,PartF p)∧∀j p,j<n→s.procs[j]?=some p→ProcF p)) (fun _ i _=>(qs.length-i).toNat) ⟨rfl,0,rfl,by omega,by omega,by omega,fun h0=>⟨hparts h0,fun j p hj=>by omega⟩⟩ ?_
  rintro left i k' ⟨rfl,n,rfl,hn,hl1,hl2,hfew⟩
  refine letW ?_
  by_cases hlt:((decide ((n:Int)<((y.Procs.len:Nat):Int)))&&(decide (left≥(0:Int))))=true
  ·rw [if_pos hlt]
   rw [Bool.and_eq_true,decide_eq_true_eq,decide_eq_true_eq] at hlt
   obtain ⟨hlt,hpos⟩:=hlt
   obtain ⟨hfp,hfew⟩:=hfew hpos
   refine Rw.fld hqs (fun _=>rfl) (by omega) (sh:=shSl) (fun q=>q.Lanes) (fun _=>rfl) (by omega) (by omega) fun z hz=> ?_
   have hz:qs[n]?=some z:=hz
   obtain ⟨p,hp1,hp2⟩:=hallq.get hz
   obtain ⟨us,hus,hallu⟩:=hp2.lanes
   have e5:=hallu.len
   have e6:z.Lanes.len=us.length:=hus.1
   obtain ⟨n3,n4⟩:=hs.lanes p (List.mem_of_getElem? hp1)
   rw [zal (n:=(1:Int)+((z.Lanes.len:Nat):Int)) (by omega) (by omega),zal (n:=left-((1:Int)+((z.Lanes.len:Nat):Int))) (by omega) (by omega)]
   refine LoopW2.intro (fun left1 i k2=>k2=k'∧∃m:Nat,i=(m:Int)∧m≤us.length∧left1≤1048576∧ -1125899906842624≤left1∧(0≤left1→p.lanes.length≤1048576∧∀j l,j<m→p.lanes[j]?=some l→l.values.length≤1048576∧l.waiters.length≤1048576)) (fun _ i _=>(us.length-i).toNat)
    ⟨rfl,0,rfl,by omega,by omega,by omega,fun _=>⟨by omega,fun j q hj=>by omega⟩⟩ ?_
   rintro left1 i k2 ⟨rfl,m,rfl,hm,hm1,hm2,hfew1⟩
   refine letW ?_
   by_cases hlt2:((decide ((m:Int)<((z.Lanes.len:Nat):Int)))&&(decide (left1≥(0:Int))))=true
   ·rw [if_pos hlt2]
    rw [Bool.and_eq_true,decide_eq_true_eq,decide_eq_true_eq] at hlt2
    obtain ⟨hlt2,hpos1⟩:=hlt2
    obtain ⟨hfew1,hfew2⟩:=hfew1 hpos1
    refine Rw.fld hus (fun _=>rfl) (by omega) (sh:=shSl) (fun q=>q.Values) (fun _=>rfl) (by omega) (by omega) fun u hu=> ?_
    have hu:us[m]?=some u:=hu
    obtain ⟨l,hl1,hl2⟩:=hallu.get hu
    refine Rw.fld hus (fun _=>rfl) (by omega) (sh:=shSl) (fun q=>q.Waiters) (fun _=>rfl) (by omega) (by omega) fun u' hu'=> ?_
    have hu':us[m]?=some u':=hu'
    rw [hu] at hu'
    cases hu'
    obtain ⟨ws,hws,hwm⟩:=hl2.waiters
    have e7:u.Values.len=l.values.length:=hl2.values.1
    have e8:u.Waiters.len=ws.length:=hws.1
    have e9:ws.length=l.waiters.length:=by rw [←hwm,List.length_map]
    obtain ⟨n5,n6⟩:=n4 l (List.mem_of_getElem? hl1)
    rw [zal (n:=(m:Int)+1) (by omega) (by omega),zal (n:=((u.Values.len:Nat):Int)+((u.Waiters.len:Nat):Int)) (by omega) (by omega),zal (n:=left1-(((u.Values.len:Nat):Int)+((u.Waiters.len:Nat):Int))) (by omega) (by omega)]
    exact ⟨⟨rfl,m+1,by omega,by omega,by omega,by omega,fun h0=>⟨hfew1,zjl1 (R:=fun l:PLane=>l.values.length≤1048576∧l.waiters.length≤1048576) hfew2 hl1 ⟨by omega,by omega⟩⟩⟩,by omega⟩
   ·rw [if_neg hlt2,zal (n:=(n:Int)+1) (by omega) (by omega)]
    simp only [Bool.and_eq_true,decide_eq_true_eq,not_and] at hlt2
    refine ⟨⟨rfl,n+1,by omega,by omega,by omega,by omega,fun h0=> ?_⟩,by omega⟩
    obtain ⟨g1,g2⟩:=hfew1 h0
    refine ⟨hfp,zjl1 hfew hp1 ⟨g1,zxg1 fun j q hj hq=>g2 j q ?_ hq⟩⟩
    have:¬((m:Int)<((z.Lanes.len:Nat):Int)):=fun e=>by have:=hlt2 e;omega
    omega
  ·rw [if_neg hlt]
   simp only [Bool.and_eq_true,decide_eq_true_eq,not_and] at hlt
   refine hq _ fun hr=> ?_
   have h0:0≤left:=by simpa using hr
   obtain ⟨g1,g2⟩:=hfew h0
   refine ⟨by omega,by omega,g1,zxg1 fun j p hj hp=>g2 j p ?_ hp⟩
   have:¬((n:Int)<((y.Procs.len:Nat):Int)):=fun e=>by have:=hlt e;omega
   omega
end
end Lf

namespace Lf
open Go Go.Proofs
section
variable {α β:Type} {R:α→β→Hp→List Nat→Prop} {v:α} {p:β} {h0 h h1:Hp} {G:List Nat}
theorem Ow.up (o:Ow R v p h0 [] h):h0≤h:=fun _ _ e=>o.keep e (fun hb=>by cases hb)
end
section
variable {β:Type} {sh:Shape} {sz:Nat} {R:sh.T→β→Hp→List Nat→Prop} {l:Sl} {ps:List β} {h0 h h1:Hp} {G:List Nat}
theorem Ow.snoc (ok:AsOk R) (o:Ow (RowsO sh sz R) l ps h0 G h) {v:sh.T} {p:β} (e:Ow R v p h [] h1) {x:Sl} (hx:Rs h1 sh sz x [v]) (henc:∀x,(zad (sh.enc x)).length=sz) (hok:∀x,zcz (zad (sh.enc x))=true)
  {zero:List Value} {bytes:Nat} (hz:zero.length=sz) (hb:ps.length+1≤140737488355328∧(ps.length+1)*bytes≤140737488355328) {K:Sl→Hp→Prop}
  (hk:∀l' h',Ow (RowsO sh sz R) l' (ps++ [p]) h0 G h'→K l' h'):zaj sz bytes zero l x K h1:=by
 have hle:=e.up
 obtain ⟨B,r,nd,m⟩:=o
 obtain ⟨B',r',nd',m'⟩:=e
 have okR:AsOk (RowsO sh sz R):=RowsO.ok ok
 have kn:=okR.known r
 have r1:=okR.same r (zbb hle kn)
 have hB':∀b∈B',h b=none:=fun b hb=>by
  rcases m'.from_ b hb with h2 | h2
  ·cases h2
  ·exact h2
 have hG:∀c,h c=none→c∈G∨h0 c=none:=fun c hc=>by
  cases e:h0 c with
  | none=>exact .inr rfl
  | some o=>
   refine .inl (Classical.byContradiction fun hn=> ?_)
   rw [m.keep c o e hn] at hc;cases hc
 refine zqr ok r1 r' (by
  rw [List.nodup_append]
  exact ⟨nd,nd',fun a ha b hb e=>kn a ha (by rw [e];exact hB' b hb)⟩) hx henc hok hz hb fun l' h' B'' r'' nd'' keep'' from''=>hk l' h' ⟨B'',r'',nd'',⟨fun b ob eb hg=> ?_,fun c hc=> ?_⟩⟩
 ·have e1:=m.keep b ob eb hg
  refine keep'' b ob (hle b ob e1) fun hb=> ?_
  rcases m.from_ b hb with h2 | h2
  ·exact hg h2
  ·rw [h2] at eb;cases eb
 ·rcases from'' c hc with hc | hc
  ·rcases List.mem_append.1 hc with hc | hc
   ·exact m.from_ c hc
   ·exact hG c (hB' c hc)
  ·exact hG c (zbc hle hc)
theorem zxh1 :Ow (RowsO sh sz R) ⟨none,0,0⟩ [] h [] h:=Ow.start RowsO.nil List.nodup_nil
theorem zxt (henc:∀x,(zad (sh.enc x)).length=sz) {K:Addr→Hp→Prop} (hk:∀b h',h≤h'→Ow (RowsO sh sz R) ⟨some ⟨b,0,none⟩,0,0⟩ [] h [] h'→K ⟨b,0,none⟩ h'):NewW [] K h:=by
 refine newF (xs:=([]:List sh.T)) (enc:=fun x=>zad (sh.enc x)) (sz:=sz) rfl henc fun b h' hn hle m o=>hk b h' hle ?_
 exact ⟨[b],⟨[],[b],[],rfl,o,rfl⟩,by simp,m⟩
end
section
variable {h h1 h2 h3:Hp}
theorem zqa1 {α β α' β':Type} {R:α→β→Hp→List Nat→Prop} {R':α'→β'→Hp→List Nat→Prop} {v:α} {p:β} {v':α'} {p':β'} (ok:AsOk R) (o1:Ow R v p h [] h1) (o2:Ow R' v' p' h1 [] h2):
  ∃B1 B2,R v p h2 B1∧R' v' p' h2 B2∧(B1++B2).Nodup∧Mv [] h (B1++B2) h2:=by
 have l1:=o1.up
 have l2:=o2.up
 obtain ⟨B1,r1,nd1,m1⟩:=o1
 obtain ⟨B2,r2,nd2,m2⟩:=o2
 have f1:∀b∈B1,h b=none:=fun b hb=>(m1.from_ b hb).resolve_left (fun h=>by cases h)
 have f2:∀b∈B2,h1 b=none:=fun b hb=>(m2.from_ b hb).resolve_left (fun h=>by cases h)
 refine ⟨B1,B2,ok.same r1 (zbb l2 (ok.known r1)),r2,?_,⟨fun b o e _=>l2 b o (l1 b o e),fun b hb=>.inr ?_⟩⟩
 ·rw [List.nodup_append]
  exact ⟨nd1,nd2,fun a ha b hb e=>ok.known r1 a ha (by rw [e];exact f2 b hb)⟩
 ·rcases List.mem_append.1 hb with hb | hb
  ·exact f1 b hb
  ·exact zbc l1 (f2 b hb)
theorem zcx2 {l1 l2:Sl} {vs:List Int} {ws:List PWaiter} {t d:Int} (o1:Ow IsO l1 vs h [] h1) (o2:Ow WsO l2 ws h1 [] h2):Ow LaneO ⟨l1,l2,t,d⟩ ⟨vs,ws,t,d⟩ h [] h2:=by
 obtain ⟨B1,B2,r1,r2,nd,m⟩:=zqa1 okIs o1 o2
 exact ⟨B1++B2,⟨B1,B2,rfl,r1,r2,rfl,rfl⟩,nd,m⟩
theorem zcy2 {l1 l2 l3:Sl} {es:List ziy} {os:List Int} {qs:List (List Int)} {cu lo fo:Int} (o1:Ow LogO l1 es h [] h1) (o2:Ow IsO l2 os h1 [] h2) (o3:Ow QsO l3 qs h2 [] h3):Ow PartO ⟨cu,l1,lo,fo,l2,l3⟩ ⟨cu,es,lo,fo,os,qs⟩ h [] h3:=by
 obtain ⟨B1,B2,r1,r2,nd,m⟩:=zqa1 okLog o1 o2
 have o12:Ow (fun (_:Unit) (_:Unit) h B=>∃B1 B2,B=B1++B2∧LogO l1 es h B1∧IsO l2 os h B2) () () h [] h2:=⟨B1++B2,⟨B1,B2,rfl,r1,r2⟩,nd,m⟩
 have ok12:AsOk (fun (_:Unit) (_:Unit) h B=>∃B1 B2,B=B1++B2∧LogO l1 es h B1∧IsO l2 os h B2):={
  same:=by
   rintro a b h h' B ⟨B1,B2,rfl,r1,r2⟩ hs
   exact ⟨B1,B2,rfl,okLog.same r1 fun c hc=>hs c (mem_a hc),okIs.same r2 fun c hc=>hs c (mem_b hc)⟩
  known:=by
   rintro a b h B ⟨B1,B2,rfl,r1,r2⟩
   exact zfw (okLog.known r1) (okIs.known r2)}
 obtain ⟨C,B3,⟨C1,C2,rfl,s1,s2⟩,r3,nd3,m3⟩:=zqa1 ok12 o12 o3
 exact ⟨C1++(C2++B3),⟨C1,C2,B3,rfl,s1,s2,r3,rfl,rfl,rfl⟩,by simpa using nd3,by simpa using m3⟩
theorem zzb1 {l1 l2:Sl} {ps:List PPart} {qs:List PProcess} {t:Int} (o1:Ow zgw1 l1 ps h [] h1) (o2:Ow zeq1 l2 qs h1 [] h2):Ow StateO ⟨t,l1,l2⟩ ⟨t,ps,qs⟩ h [] h2:=by
 obtain ⟨B1,B2,r1,r2,nd,m⟩:=zqa1 okParts o1 o2
 exact ⟨B1++B2,⟨B1,B2,rfl,r1,r2,rfl⟩,nd,m⟩
theorem zes1 {α:Type}:∀xs:List α,All2 Eq xs xs
 | []=>trivial
 | _::xs=>⟨rfl,zes1 xs⟩
theorem zet1 {α β:Type} {f:α→β}:∀ {xs:List α} {ys:List β},xs.map f=ys→All2 (fun x y=>f x=y) xs ys
 | [],[],_=>trivial
 | x::xs,y::ys,h=>by
  rw [List.map_cons] at h
  injection h with h1 h2
  exact ⟨h1,zet1 h2⟩
 | [],_::_,h=>by cases h
 | _::_,[],h=>by cases h
theorem zhe1 {α:Type} {xs:List α} {i:Nat} {x:α} (h:xs[i]?=some x):xs.take (i+1)=xs.take i++ [x]:=by
 rw [List.take_add_one,h];rfl
set_option maxRecDepth 20000 in
theorem zsl1 {P:Program} {v:S_api_State} {s:PState} {Q:S_api_State→Hp→Prop} (a:StateAt h v s) (few:FewS s) (hq:∀v' h',Ow StateO v' s h [] h'→Q v' h'):zej P v Q h:=by
 unfold zej
 obtain ⟨ps,hps,hallp⟩:=a.parts
 obtain ⟨qs,hqs,hallq⟩:=a.procs
 have np:=few.np
 have nq:=few.nq
 have lp:=hallp.len
 have lq:=hallq.len
 have vp:v.Parts.len=ps.length:=hps.1
 have vq:v.Procs.len=qs.length:=hqs.1
 refine LoopW2.intro (fun i out k=>∃i':Nat,i=(i':Int)∧i'≤ps.length∧out.Tick=v.Tick∧out.Procs=⟨none,0,0⟩∧Ow zgw1 out.Parts (s.parts.take i') h [] k) (fun i _ _=>((ps.length:Int)-i).toNat) ⟨0,rfl,by omega,rfl,rfl,zxh1⟩ ?_
 rintro i out k ⟨i',rfl,hi,ht,hpr,o⟩
 by_cases hlt:i'<ps.length
 ·have hlt':(i':Int)<((v.Parts.len:Nat):Int):=by omega
  rw [if_pos (decide_eq_true hlt')]
  have hk:=o.up
  refine Rs.get (sh:=sh_api_Part) (Rw.mono hk hps) (fun _=>rfl) (by omega) (by omega) (by omega) fun x hx=> ?_
  have hx:ps[i']?=some x:=hx
  obtain ⟨p,hp1,hp2⟩:=hallp.get hx
  obtain ⟨f1,f2,f3,f4⟩:=few.parts p (List.mem_of_getElem? hp1)
  obtain ⟨es,hes,hem⟩:=hp2.log
  have le:es.length=p.log.length:=by rw [←hem,List.length_map]
  have lo:x.Owners.len=p.owners.length:=hp2.owners.1
  obtain ⟨us,hus,hallu⟩:=hp2.queues
  have lu:=hallu.len
  have vu:x.Queues.len=us.length:=hus.1
  refine zxt (sz:=3) (sh:=sh_api_Entry) (R:=PureO fun x p=>zht x=p) (fun _=>rfl) fun b2 h2 l2 o2=> ?_
  refine o2.app (vs:=es) (qs:=p.log) (zet1 hem) (Rw.mono (Hp.le_trans hk l2) hes) (fun _=>rfl) (fun _=>rfl) rfl (by simp;omega) fun lg h3 o3=> ?_
  rw [List.nil_append] at o3
  have l3:=Hp.le_trans hk o3.up
  refine zxt (sz:=1) (sh:=shInt .i64) (R:=PureO Eq) (fun _=>rfl) fun b4 h4 l4 o4=> ?_
  refine o4.app (vs:=p.owners) (qs:=p.owners) (zes1 _) (Rw.mono (Hp.le_trans l3 l4) hp2.owners) (fun _=>rfl) (fun _=>rfl) rfl (by simp;omega) fun ow h5 o5=> ?_
  rw [List.nil_append] at o5
  have l5:=Hp.le_trans l3 o5.up
  refine zxt (sz:=1) (sh:=shSl) (R:=IsO) (fun _=>rfl) fun b6 h6 l6 o6=> ?_
  refine LoopW2.intro (fun q k2 h7=>∃k':Nat,k2=(k':Int)∧k'≤us.length∧Ow QsO q (p.queues.take k') h5 [] h7) (fun _ k2 _=>((us.length:Int)-k2).toNat) ⟨0,rfl,by omega,o6⟩ ?_
  rintro q k2 h7 ⟨k',rfl,hk',o7⟩
  have l7:=Hp.le_trans l5 o7.up
  by_cases hlt2:k'<us.length
  ·have hlt2':(k':Int)<((x.Queues.len:Nat):Int):=by omega
   rw [if_pos (decide_eq_true hlt2')]
   refine zxt (sz:=1) (sh:=shInt .i64) (R:=PureO Eq) (fun _=>rfl) fun b8 h8 l8 o8=> ?_
   have l08:=Hp.le_trans l7 l8
   refine Rs.get (sh:=shSl) (Rw.mono l08 hus) (fun _=>rfl) (by omega) (by omega) (by omega) fun u hu=> ?_
   have hu:us[k']?=some u:=hu
   obtain ⟨w,hw1,hw2⟩:=hallu.get hu
   have fw:=f4 w (List.mem_of_getElem? hw1)
   refine o8.app (vs:=w) (qs:=w) (zes1 _) (Rw.mono l08 hw2) (fun _=>rfl) (fun _=>rfl) rfl (by simp;omega) fun ql h9 o9=> ?_
   rw [List.nil_append] at o9
   refine newF (xs:=[ql]) (enc:=fun x=>zad (shSl.enc x)) (sz:=1) rfl (fun _=>rfl) fun b10 h10 _ l10 _ w10=> ?_
   refine o7.snoc okIs (o9.le okIs l10) (w10.rw fun _=>rfl) (fun _=>rfl) (fun _=>rfl) rfl (by rw [List.length_take];omega) fun l11 h11 o11=> ?_
   rw [zal (by omega) (by omega)]
   exact ⟨⟨k'+1,by push_cast;rfl,by omega,by rw [zhe1 hw1];exact o11⟩,by omega⟩
  ·have hlt2':¬(k':Int)<((x.Queues.len:Nat):Int):=by omega
   rw [if_neg (fun e=>hlt2' (of_decide_eq_true e))]
   rw [List.take_of_length_le (by omega)] at o7
   have pm:=zcy2 (cu:=x.Cursor) (lo:=x.Lost) (fo:=x.Forbidden) o3 o5 o7
   have hpe:(⟨x.Cursor,p.log,x.Lost,x.Forbidden,p.owners,p.queues⟩:PPart)=p:=by
    rw [hp2.cursor,hp2.lost,hp2.forbidden]
   rw [hpe] at pm
   refine newF (xs:=[(⟨x.Cursor,lg,x.Lost,x.Forbidden,ow,q⟩:S_api_Part)]) (enc:=fun x=>zad (sh_api_Part.enc x)) (sz:=6) rfl (fun _=>rfl) fun b8 h8 _ l8 _ w8=> ?_
   refine o.snoc okPart (pm.le okPart l8) (w8.rw fun _=>rfl) (fun _=>rfl) (fun _=>rfl) rfl (by rw [List.length_take];omega) fun l9 h9 o9=> ?_
   rw [zal (by omega) (by omega)]
   exact ⟨⟨i'+1,by push_cast;rfl,by omega,ht,hpr,by rw [zhe1 hp1];exact o9⟩,by omega⟩
 have hlt':¬(i':Int)<((v.Parts.len:Nat):Int):=by omega
 rw [if_neg (fun e=>hlt' (of_decide_eq_true e))]
 rw [List.take_of_length_le (by omega)] at o
 have hk0:=o.up
 refine LoopW2.intro (fun i out2 k2=>∃i':Nat,i=(i':Int)∧i'≤qs.length∧out2.Tick=v.Tick∧out2.Parts=out.Parts∧Ow zeq1 out2.Procs (s.procs.take i') k [] k2) (fun i _ _=>((qs.length:Int)-i).toNat) ⟨0,rfl,by omega,ht,rfl,by rw [hpr];exact zxh1⟩ ?_
 rintro i out2 k2 ⟨i',rfl,hi2,ht2,hpa,o2⟩
 by_cases hlt:i'<qs.length
 ·have hlt':(i':Int)<((v.Procs.len:Nat):Int):=by omega
  rw [if_pos (decide_eq_true hlt')]
  have hk:=Hp.le_trans hk0 o2.up
  refine Rs.get (sh:=sh_api_Process) (Rw.mono hk hqs) (fun _=>rfl) (by omega) (by omega) (by omega) fun x hx=> ?_
  have hx:qs[i']?=some x:=hx
  obtain ⟨p,hp1,hp2⟩:=hallq.get hx
  obtain ⟨f1,f2⟩:=few.procs p (List.mem_of_getElem? hp1)
  obtain ⟨ls,hls,halll⟩:=hp2.lanes
  have ll:=halll.len
  have vl:x.Lanes.len=ls.length:=hls.1
  refine zxt (sz:=4) (sh:=sh_api_Lane) (R:=LaneO) (fun _=>rfl) fun b3 h3 l3 o3=> ?_
  refine LoopW2.intro (fun l j h4=>∃j':Nat,j=(j':Int)∧j'≤ls.length∧Ow zgv1 l (p.lanes.take j') k2 [] h4) (fun _ j _=>((ls.length:Int)-j).toNat) ⟨0,rfl,by omega,o3⟩ ?_
  rintro l j h4 ⟨j',rfl,hj,o4⟩
  have l4:=Hp.le_trans hk o4.up
  by_cases hlt2:j'<ls.length
  ·have hlt2':(j':Int)<((x.Lanes.len:Nat):Int):=by omega
   rw [if_pos (decide_eq_true hlt2')]
   refine Rs.get (sh:=sh_api_Lane) (Rw.mono l4 hls) (fun _=>rfl) (by omega) (by omega) (by omega) fun y hy=> ?_
   have hy:ls[j']?=some y:=hy
   obtain ⟨q,hq1,hq2⟩:=halll.get hy
   obtain ⟨g1,g2⟩:=f2 q (List.mem_of_getElem? hq1)
   obtain ⟨ws,hws,hwm⟩:=hq2.waiters
   have lw:ws.length=q.waiters.length:=by rw [←hwm,List.length_map]
   refine zxt (sz:=1) (sh:=shInt .i64) (R:=PureO Eq) (fun _=>rfl) fun b5 h5 l5 o5=> ?_
   refine o5.app (vs:=q.values) (qs:=q.values) (zes1 _) (Rw.mono (Hp.le_trans l4 l5) hq2.values) (fun _=>rfl) (fun _=>rfl) rfl (by simp;omega) fun r h6 o6=> ?_
   rw [List.nil_append] at o6
   refine zxt (sz:=2) (sh:=sh_api_Waiter) (R:=PureO fun x p=>zcn x=p) (fun _=>rfl) fun b7 h7 l7 o7=> ?_
   refine o7.app (vs:=ws) (qs:=q.waiters) (zet1 hwm) (Rw.mono (Hp.le_trans l4 (Hp.le_trans o6.up l7)) hws) (fun _=>rfl) (fun _=>rfl) rfl (by simp;omega) fun r1 h8 o8=> ?_
   rw [List.nil_append] at o8
   have lm:=zcx2 (t:=y.Taken) (d:=y.Dropped) o6 o8
   have hqe:(⟨q.values,q.waiters,y.Taken,y.Dropped⟩:PLane)=q:=by
    rw [hq2.taken,hq2.dropped]
   rw [hqe] at lm
   refine newF (xs:=[(⟨r,r1,y.Taken,y.Dropped⟩:S_api_Lane)]) (enc:=fun x=>zad (sh_api_Lane.enc x)) (sz:=4) rfl (fun _=>rfl) fun b9 h9 _ l9 _ w9=> ?_
   refine o4.snoc okLane (lm.le okLane l9) (w9.rw fun _=>rfl) (fun _=>rfl) (fun _=>rfl) rfl (by rw [List.length_take];omega) fun l10 h10 o10=> ?_
   rw [zal (by omega) (by omega)]
   exact ⟨⟨j'+1,by push_cast;rfl,by omega,by rw [zhe1 hq1];exact o10⟩,by omega⟩
  ·have hlt2':¬(j':Int)<((x.Lanes.len:Nat):Int):=by omega
   rw [if_neg (fun e=>hlt2' (of_decide_eq_true e))]
   rw [List.take_of_length_le (by omega)] at o4
   have pm:Ow ProcessO ⟨x.State,x.PC,x.Regs_0,x.Regs_1,x.Regs_2,x.Regs_3,x.Regs_4,x.Regs_5,x.Regs_6,x.Regs_7,x.Cursor,x.Timer,x.Fired,x.Wake,l⟩ p k2 [] h4:=by
    obtain ⟨B,r,nd,m⟩:=o4
    exact ⟨B,⟨r,hp2.state,hp2.pc,hp2.regs,hp2.cursor,hp2.timer,hp2.fired,hp2.wake⟩,nd,m⟩
   refine newF (xs:=[(⟨x.State,x.PC,x.Regs_0,x.Regs_1,x.Regs_2,x.Regs_3,x.Regs_4,x.Regs_5,x.Regs_6,x.Regs_7,x.Cursor,x.Timer,x.Fired,x.Wake,l⟩:S_api_Process)]) (enc:=fun x=>zad (sh_api_Process.enc x)) (sz:=15) rfl (fun _=>rfl) fun b5 h5 _ l5 _ w5=> ?_
   refine o2.snoc okProcess (pm.le okProcess l5) (w5.rw fun _=>rfl) (fun _=>rfl) (fun _=>rfl) rfl (by rw [List.length_take];omega) fun l6 h6 o6=> ?_
   rw [zal (by omega) (by omega)]
   exact ⟨⟨i'+1,by push_cast;rfl,by omega,ht2,hpa,by rw [zhe1 hp1];exact o6⟩,by omega⟩
 have hlt':¬(i':Int)<((v.Procs.len:Nat):Int):=by omega
 rw [if_neg (fun e=>hlt' (of_decide_eq_true e))]
 rw [List.take_of_length_le (by omega)] at o2
 have sm:=zzb1 (t:=s.tick) o o2
 have e1:out2=⟨s.tick,out.Parts,out2.Procs⟩:=by
  rw [←hpa,←a.tick,←ht2]
 rw [e1]
 exact hq _ k2 sm
end
end Lf

namespace Lf
open Go Go.Proofs
theorem zzc1 {y:S_api_Lane} {q:PLane} {h0 h:Hp} {G:List Nat} (t:Int) (o:Ow LaneO y q h0 G h):Ow LaneO {y with Taken:=t} {q with taken:=t} h0 G h:=by
 obtain ⟨B,⟨B1,B2,e,r1,r2,_,g2⟩,nd,m⟩:=o
 exact ⟨B,⟨B1,B2,e,r1,r2,rfl,g2⟩,nd,m⟩
theorem zay1 {α:Type} {xs ys:List α} {i:Nat} {x:α} (h:∀j,i≤j→xs[j]?=ys[j]?):∀j,i+1≤j→(xs.set i x)[j]?=ys[j]?:=fun j hj=>by
 rw [List.getElem?_set,if_neg (by omega)]
 exact h j (by omega)
theorem zbp1 {α β:Type} {S:α→β→Prop} {v v':α} {p p':β} {h:Hp} {M:List Nat} (o:Ow (PureO S) v p h M h) (hs:S v' p'):Ow (PureO S) v' p' h M h:=by
 obtain ⟨B,⟨rfl,_⟩,nd,m⟩:=o
 exact ⟨[],⟨rfl,hs⟩,nd,m⟩
set_option maxRecDepth 20000 in
theorem zxi1 {P:Program} {v:S_api_State} {s:PState} {h:Hp} {B:List Nat} {mark:Int} {Q:Hp→Prop} (r:StateO v s h B) (nd:B.Nodup) (few:FewS s) (hq:∀h',Fr B h h'→Q h'):zhh P v mark Q h:=by
 unfold zhh
 have np:=few.np
 have nq:=few.nq
 refine LoopW1.intro (fun i h1=>∃(i':Nat) (s':PState),i=(i':Int)∧i'≤s.parts.length∧Ow StateO v s' h B h1∧s'.parts.length=s.parts.length∧(∀j,i'≤j→s'.parts[j]?=s.parts[j]?)∧s'.procs=s.procs) (fun i _=>((s.parts.length:Int)-i).toNat)
  ⟨0,s,rfl,by omega,Ow.start r nd,rfl,fun _ _=>rfl,rfl⟩ ?_
 rintro i h1 ⟨i',s1,rfl,hi,o1,hl1,hs1,hpr1⟩
 have hlen1:=o1.parts_len
 by_cases hlt:i'<s.parts.length
 ·have hlt':(i':Int)<((v.Parts.len:Nat):Int):=by omega
  rw [if_pos (decide_eq_true hlt')]
  obtain ⟨p,hp⟩:∃p,s.parts[i']?=some p:=⟨_,List.getElem?_eq_getElem hlt⟩
  obtain ⟨f1,f2,f3,f4⟩:=few.parts p (List.mem_of_getElem? hp)
  obtain ⟨x,M,hin,oi,keep,put,fr⟩:=zct2 o1 ((hs1 i' (Nat.le_refl _)).trans hp)
  refine ⟨hin,zab (ld_at (sh:=shSl) x.Log (zeg (keep h1 _ oi).1 (j:=1) (n:=1) rfl) ?_)⟩
  have hxl:x.Log.len=p.log.length:=by
   obtain ⟨M1,o5, -⟩:=zpz1 oi
   exact o5.len
  have hxo:x.Owners.len=p.owners.length:=by
   obtain ⟨M1,o5, -⟩:=zer1 oi
   exact o5.len
  have hxq:x.Queues.len=p.queues.length:=by
   obtain ⟨M1,o5, -⟩:=zlo1 oi
   exact o5.len
  refine LoopW1.intro (fun j h2=>∃(j':Nat) (lg:List ziy),j=(j':Int)∧j'≤p.log.length∧lg.length=p.log.length∧Ow PartO x {p with log:=lg} h1 M h2) (fun j _=>((p.log.length:Int)-j).toNat) ⟨0,p.log,rfl,by omega,rfl,oi⟩ ?_
  rintro j h2 ⟨j',lg,rfl,hj,hlg,o2⟩
  have ld2:=(keep h2 _ o2).1
  by_cases hj1:j'<lg.length
  ·have hj1':(j':Int)<((x.Log.len:Nat):Int):=by omega
   rw [if_pos (decide_eq_true hj1')]
   refine zab (ld_at (sh:=shSl) x.Log (zeg ld2 (j:=1) (n:=1) rfl) ?_)
   obtain ⟨M1,o3,back3⟩:=zpz1 o2
   obtain ⟨e,he⟩:∃e,lg[j']?=some e:=⟨_,List.getElem?_eq_getElem hj1⟩
   obtain ⟨e',M2,hin2,o4, -,put4⟩:=o3.at_ (PureO.ok _) (fun _=>rfl) (by omega) he
   refine ⟨hin2,?_⟩
   rw [←zlm1 (sat x.Log.base 3 (j':Int))]
   refine put4 h2 ⟨0,mark,0⟩ ⟨0,mark,0⟩ 0 [.int .i64 0,.int .i64 mark,.int .i64 0] _ (zbp1 o4 rfl) (by simp) rfl fun h5 o5=> ?_
   rw [zal (by omega) (by omega)]
   exact ⟨⟨j'+1,_,by push_cast;rfl,by omega,by simp [hlg],back3 h5 x.Log _ o5⟩,by omega⟩
  have hj1':¬(j':Int)<((x.Log.len:Nat):Int):=by omega
  rw [if_neg (fun e=>hj1' (of_decide_eq_true e))]
  refine zab (ld_at (sh:=shSl) x.Owners (zeg ld2 (j:=4) (n:=1) rfl) ?_)
  refine LoopW1.intro (fun j h3=>∃(j':Nat) (os:List Int),j=(j':Int)∧j'≤p.owners.length∧os.length=p.owners.length∧Ow PartO x {p with log:=lg,owners:=os} h1 M h3) (fun j _=>((p.owners.length:Int)-j).toNat) ⟨0,p.owners,rfl,by omega,rfl,o2⟩ ?_
  rintro j h3 ⟨j2,os,rfl,hj2,hos,o3⟩
  have ld3:=(keep h3 _ o3).1
  by_cases hj3:j2<os.length
  ·have hj3':(j2:Int)<((x.Owners.len:Nat):Int):=by omega
   rw [if_pos (decide_eq_true hj3')]
   refine zab (ld_at (sh:=shSl) x.Owners (zeg ld3 (j:=4) (n:=1) rfl) ?_)
   obtain ⟨M1,o4,back4⟩:=zer1 o3
   obtain ⟨e,he⟩:∃e,os[j2]?=some e:=⟨_,List.getElem?_eq_getElem hj3⟩
   obtain ⟨e',M2,hin2,o5, -,put5⟩:=o4.at_ (PureO.ok _) (fun _=>rfl) (by omega) he
   refine ⟨hin2,?_⟩
   rw [←zlm1 (sat x.Owners.base 1 (j2:Int))]
   refine put5 h3 mark mark 0 [.int .i64 mark] _ (zbp1 o5 rfl) (by simp) rfl fun h6 o6=> ?_
   rw [zal (by omega) (by omega)]
   exact ⟨⟨j2+1,_,by push_cast;rfl,by omega,by simp [hos],back4 h6 x.Owners _ o6⟩,by omega⟩
  have hj3':¬(j2:Int)<((x.Owners.len:Nat):Int):=by omega
  rw [if_neg (fun e=>hj3' (of_decide_eq_true e))]
  refine zab (ld_at (sh:=shSl) x.Queues (zeg ld3 (j:=5) (n:=1) rfl) ?_)
  refine LoopW1.intro (fun k h4=>∃(k':Nat) (qs:List (List Int)),k=(k':Int)∧k'≤p.queues.length∧qs.length=p.queues.length∧(∀j,k'≤j→qs[j]?=p.queues[j]?)∧Ow PartO x {p with log:=lg,owners:=os,queues:=qs} h1 M h4) (fun k _=>((p.queues.length:Int)-k).toNat) ⟨0,p.queues,rfl,by omega,rfl,fun _ _=>rfl,o3⟩ ?_
  rintro k h4 ⟨k',qs,rfl,hk,hql,hqs,o4⟩
  have ld4:=(keep h4 _ o4).1
  by_cases hk1:k'<p.queues.length
  ·have hk1':(k':Int)<((x.Queues.len:Nat):Int):=by omega
   rw [if_pos (decide_eq_true hk1')]
   refine zab (ld_at (sh:=shSl) x.Queues (zeg ld4 (j:=5) (n:=1) rfl) ?_)
   obtain ⟨q,hq1⟩:∃q,p.queues[k']?=some q:=⟨_,List.getElem?_eq_getElem hk1⟩
   have fq:=f4 q (List.mem_of_getElem? hq1)
   obtain ⟨Mq,oq,subq,backq⟩:=zlo1 o4
   obtain ⟨y,M4,hin4,o5,keep4,put4,sub4,fr4⟩:=oq.atF okIs (fun _=>rfl) (by omega) ((hqs k' (Nat.le_refl _)).trans hq1)
   have ldp:∀h',Fr M4 h4 h'→LdIs h' (Addr.add (sat v.Parts.base 6 (i':Int)) 5) [x.Queues.v]:=fun h' f=>zeg (fr h' (o4.fr.then_ ((Fr.refl Mq h4).then_ f sub4) subq)) (n:=1) rfl
   have ldq:∀h',Fr M4 h4 h'→LdIs h' (sat x.Queues.base 1 (k':Int)) [y.v]:=fun h' f=>fr4 h' f
   have hyl:y.len=q.length:=o5.len
   refine ⟨hin4,ld_at (sh:=shSl) y (ldq h4 (Fr.refl _ _)) ?_⟩
   refine LoopW1.intro (fun j h5=>∃(j':Nat) (ws:List Int),j=(j':Int)∧j'≤q.length∧ws.length=q.length∧Ow IsO y ws h4 M4 h5) (fun j _=>((q.length:Int)-j).toNat) ⟨0,q,rfl,by omega,rfl,o5⟩ ?_
   rintro j h5 ⟨j',ws,rfl,hj,hwl,o6⟩
   by_cases hj4:j'<ws.length
   ·have hj4':(j':Int)<((y.len:Nat):Int):=by omega
    rw [if_pos (decide_eq_true hj4')]
    obtain ⟨e,he⟩:∃e,ws[j']?=some e:=⟨_,List.getElem?_eq_getElem hj4⟩
    obtain ⟨e',M5,hin5,o7, -,put7⟩:=o6.at_ (PureO.ok _) (fun _=>rfl) (by omega) he
    refine zab (ld_at (sh:=shSl) x.Queues (ldp h5 o6.fr) ⟨hin4,ld_at (sh:=shSl) y (ldq h5 o6.fr) ⟨hin5,?_⟩⟩)
    rw [←zlm1 (sat y.base 1 (j':Int))]
    refine put7 h5 mark mark 0 [.int .i64 mark] _ (zbp1 o7 rfl) (by simp) rfl fun h8 o8=> ?_
    rw [zal (by omega) (by omega)]
    exact ⟨⟨j'+1,_,by push_cast;rfl,by omega,by simp [hwl],o8⟩,by omega⟩
   have hj4':¬(j':Int)<((y.len:Nat):Int):=by omega
   rw [if_neg (fun e=>hj4' (of_decide_eq_true e))]
   refine zab (ld_at (sh:=shSl) x.Queues (ldp h5 o6.fr) (zab (ld_at (sh:=shSl) x.Queues (ldp h5 o6.fr) ⟨hin4,ld_at (sh:=shSl) y (ldq h5 o6.fr) ?_⟩)))
   refine newF (xs:=[mark,mark,mark]) (enc:=fun x=>zad ((shInt .i64).enc x)) (sz:=1) rfl (fun _=>rfl) fun b8 h8 _ hle8 _ w8=> ?_
   have f8:Fr M4 h4 h8:=o6.fr.le hle8
   refine ⟨⟨ldp h8 f8,ldp h8 f8,ldq h8 f8,trivial⟩,?_⟩
   refine (o6.le okIs hle8).app (vs:=[mark,mark,mark]) (qs:=[mark,mark,mark]) (zes1 _) (w8.rw fun _=>rfl) (fun _=>rfl) (fun _=>rfl) rfl (by simp;omega) fun l9 h9 o9=> ?_
   refine ⟨⟨ldp h9 o9.fr,trivial⟩,hin4,?_⟩
   rw [←zlm1 (sat x.Queues.base 1 (k':Int))]
   refine put4 h9 l9 _ 0 [l9.v] _ o9 (by simp) rfl fun h10 o10=> ?_
   rw [zal (by omega) (by omega)]
   exact ⟨⟨k'+1,_,by push_cast;rfl,by omega,by simp [hql],zay1 hqs,backq h10 x.Queues _ o10⟩,by omega⟩
  have hk1':¬(k':Int)<((x.Queues.len:Nat):Int):=by omega
  rw [if_neg (fun e=>hk1' (of_decide_eq_true e))]
  refine zab (ld_at (sh:=shSl) x.Log (zeg ld4 (j:=1) (n:=1) rfl) ?_)
  refine newF (xs:=[(⟨0,mark,0⟩:S_api_Entry),⟨0,mark,0⟩]) (enc:=fun x=>zad (sh_api_Entry.enc x)) (sz:=3) rfl (fun _=>rfl) fun b5 h5 _ hle5 _ w5=> ?_
  obtain ⟨M5,o5,back5⟩:=zpz1 (o4.le okPart hle5)
  refine o5.app (vs:=[(⟨0,mark,0⟩:S_api_Entry),⟨0,mark,0⟩]) (qs:=[⟨0,mark,0⟩,⟨0,mark,0⟩]) ⟨rfl,rfl,trivial⟩ (w5.rw fun _=>rfl) (fun _=>rfl) (fun _=>rfl) rfl (by simp;omega) fun l6 h6 o6=> ?_
  refine zab (put h6 {x with Log:=l6} _ 1 [l6.v] _ (back5 h6 l6 _ o6) (by simp) rfl fun h7 o7=> ?_)
  have hpl:i'<s1.parts.length:=by omega
  obtain ⟨x2,M7, -,oi7,keep7,put7, -⟩:=zct2 o7 (List.getElem?_set_self hpl)
  refine zab (ld_at (sh:=shSl) x2.Owners (zeg (keep7 h7 _ oi7).1 (j:=4) (n:=1) rfl) ?_)
  refine newF (xs:=[mark,mark]) (enc:=fun x=>zad ((shInt .i64).enc x)) (sz:=1) rfl (fun _=>rfl) fun b8 h8 _ hle8 _ w8=> ?_
  obtain ⟨M8,o8,back8⟩:=zer1 (oi7.le okPart hle8)
  refine o8.app (vs:=[mark,mark]) (qs:=[mark,mark]) (zes1 _) (w8.rw fun _=>rfl) (fun _=>rfl) (fun _=>rfl) rfl (by simp;omega) fun l9 h9 o9=> ?_
  refine zab (put7 h9 {x2 with Owners:=l9} _ 4 [l9.v] _ (back8 h9 l9 _ o9) (by simp) rfl fun h10 o10=> ?_)
  rw [zal (by omega) (by omega)]
  refine ⟨⟨i'+1,_,by push_cast;rfl,by omega,o10,by simp [hl1],?_,hpr1⟩,by omega⟩
  show ∀j,i'+1≤j→((s1.parts.set i' _).set i' _)[j]?=s.parts[j]?
  rw [List.set_set]
  exact zay1 hs1
 have hlt':¬(i':Int)<((v.Parts.len:Nat):Int):=by omega
 rw [if_neg (fun e=>hlt' (of_decide_eq_true e))]
 refine LoopW1.intro (fun i h2=>∃(i':Nat) (s':PState),i=(i':Int)∧i'≤s.procs.length∧Ow StateO v s' h B h2∧s'.procs.length=s.procs.length∧(∀j,i'≤j→s'.procs[j]?=s.procs[j]?)) (fun i _=>((s.procs.length:Int)-i).toNat)
  ⟨0,s1,rfl,by omega,o1,by rw [hpr1],fun _ _=>by rw [hpr1]⟩ ?_
 rintro i h2 ⟨i2,s2,rfl,hi2,o2,hl2,hs2⟩
 have hlen2:=o2.procs_len
 by_cases hlt2:i2<s.procs.length
 ·have hlt2':(i2:Int)<((v.Procs.len:Nat):Int):=by omega
  rw [if_pos (decide_eq_true hlt2')]
  obtain ⟨p,hp⟩:∃p,s.procs[i2]?=some p:=⟨_,List.getElem?_eq_getElem hlt2⟩
  obtain ⟨f1,f2⟩:=few.procs p (List.mem_of_getElem? hp)
  obtain ⟨l,M,hin,ol,back⟩:=zhz2 o2 ((hs2 i2 (Nat.le_refl _)).trans hp)
  have hll:l.len=p.lanes.length:=ol.len
  refine ⟨hin,ld_at (sh:=shSl) l (back h2 _ ol).1 ?_⟩
  refine LoopW1.intro (fun k h3=>∃(k':Nat) (ls:List PLane),k=(k':Int)∧k'≤p.lanes.length∧ls.length=p.lanes.length∧(∀j,k'≤j→ls[j]?=p.lanes[j]?)∧Ow zgv1 l ls h2 M h3) (fun k _=>((p.lanes.length:Int)-k).toNat) ⟨0,p.lanes,rfl,by omega,rfl,fun _ _=>rfl,ol⟩ ?_
  rintro k h3 ⟨k',ls,rfl,hk,hlsl,hls,ol3⟩
  by_cases hk1:k'<p.lanes.length
  ·have hk1':(k':Int)<((l.len:Nat):Int):=by omega
   rw [if_pos (decide_eq_true hk1')]
   obtain ⟨q,hq1⟩:∃q,p.lanes[k']?=some q:=⟨_,List.getElem?_eq_getElem hk1⟩
   obtain ⟨g1,g2⟩:=f2 q (List.mem_of_getElem? hq1)
   obtain ⟨y,M4,hin4,oy,keep4,put4⟩:=ol3.at_ okLane (fun _=>rfl) (by omega) ((hls k' (Nat.le_refl _)).trans hq1)
   have hyv:y.Values.len=q.values.length:=by
    obtain ⟨M5,o5, -⟩:=zln1 oy
    exact o5.len
   have hyw:y.Waiters.len=q.waiters.length:=by
    obtain ⟨M5,o5, -⟩:=zpy1 oy
    exact o5.len
   refine ⟨hin,ld_at (sh:=shSl) l (back h3 _ ol3).1 ⟨hin4,zab (ld_at (sh:=shSl) y.Values (zeg (keep4 h3 _ oy).1 (j:=0) (n:=1) rfl) ?_)⟩⟩
   refine LoopW1.intro (fun j h4=>∃(j':Nat) (vs:List Int),j=(j':Int)∧j'≤q.values.length∧vs.length=q.values.length∧Ow LaneO y {q with values:=vs} h3 M4 h4) (fun j _=>((q.values.length:Int)-j).toNat) ⟨0,q.values,rfl,by omega,rfl,oy⟩ ?_
   rintro j h4 ⟨j',vs,rfl,hj,hvl,o4⟩
   have ld4:=(keep4 h4 _ o4).1
   by_cases hj1:j'<vs.length
   ·have hj1':(j':Int)<((y.Values.len:Nat):Int):=by omega
    rw [if_pos (decide_eq_true hj1')]
    refine zab (ld_at (sh:=shSl) y.Values (zeg ld4 (j:=0) (n:=1) rfl) ?_)
    obtain ⟨M5,o5,back5⟩:=zln1 o4
    obtain ⟨e,he⟩:∃e,vs[j']?=some e:=⟨_,List.getElem?_eq_getElem hj1⟩
    obtain ⟨e',M6,hin6,o6, -,put6⟩:=o5.at_ (PureO.ok _) (fun _=>rfl) (by omega) he
    refine ⟨hin6,?_⟩
    rw [←zlm1 (sat y.Values.base 1 (j':Int))]
    refine put6 h4 mark mark 0 [.int .i64 mark] _ (zbp1 o6 rfl) (by simp) rfl fun h7 o7=> ?_
    rw [zal (by omega) (by omega)]
    exact ⟨⟨j'+1,_,by push_cast;rfl,by omega,by simp [hvl],back5 h7 y.Values _ o7⟩,by omega⟩
   have hj1':¬(j':Int)<((y.Values.len:Nat):Int):=by omega
   rw [if_neg (fun e=>hj1' (of_decide_eq_true e))]
   refine zab (ld_at (sh:=shSl) y.Waiters (zeg ld4 (j:=1) (n:=1) rfl) ?_)
   refine LoopW1.intro (fun j h5=>∃(j':Nat) (ws:List PWaiter),j=(j':Int)∧j'≤q.waiters.length∧ws.length=q.waiters.length∧Ow LaneO y {q with values:=vs,waiters:=ws} h3 M4 h5) (fun j _=>((q.waiters.length:Int)-j).toNat) ⟨0,q.waiters,rfl,by omega,rfl,o4⟩ ?_
   rintro j h5 ⟨j2,ws,rfl,hj2,hwl,o5⟩
   have ld5:=(keep4 h5 _ o5).1
   by_cases hj3:j2<ws.length
   ·have hj3':(j2:Int)<((y.Waiters.len:Nat):Int):=by omega
    rw [if_pos (decide_eq_true hj3')]
    refine zab (ld_at (sh:=shSl) y.Waiters (zeg ld5 (j:=1) (n:=1) rfl) ?_)
    obtain ⟨M6,o6,back6⟩:=zpy1 o5
    obtain ⟨e,he⟩:∃e,ws[j2]?=some e:=⟨_,List.getElem?_eq_getElem hj3⟩
    obtain ⟨e',M7,hin7,o7, -,put7⟩:=o6.at_ (PureO.ok _) (fun _=>rfl) (by omega) he
    refine ⟨hin7,?_⟩
    rw [←zlm1 (sat y.Waiters.base 2 (j2:Int))]
    refine put7 h5 ⟨mark,0⟩ ⟨mark,0⟩ 0 [.int .i64 mark,.int .i64 0] _ (zbp1 o7 rfl) (by simp) rfl fun h8 o8=> ?_
    rw [zal (by omega) (by omega)]
    exact ⟨⟨j2+1,_,by push_cast;rfl,by omega,by simp [hwl],back6 h8 y.Waiters _ o8⟩,by omega⟩
   have hj3':¬(j2:Int)<((y.Waiters.len:Nat):Int):=by omega
   rw [if_neg (fun e=>hj3' (of_decide_eq_true e))]
   refine zab (ld_at (sh:=shSl) y.Values (zeg ld5 (j:=0) (n:=1) rfl) ?_)
   refine newF (xs:=[mark,mark]) (enc:=fun x=>zad ((shInt .i64).enc x)) (sz:=1) rfl (fun _=>rfl) fun b6 h6 _ hle6 _ w6=> ?_
   obtain ⟨M6,o6,back6⟩:=zln1 (o5.le okLane hle6)
   refine o6.app (vs:=[mark,mark]) (qs:=[mark,mark]) (zes1 _) (w6.rw fun _=>rfl) (fun _=>rfl) (fun _=>rfl) rfl (by simp;omega) fun l7 h7 o7=> ?_
   refine zab (put4 h7 {y with Values:=l7} _ 0 [l7.v] _ (back6 h7 l7 _ o7) (by simp) rfl fun h8 o8=> ?_)
   have hkl:k'<ls.length:=by omega
   obtain ⟨y2,M8, -,oy8,keep8,put8⟩:=o8.at_ okLane (fun _=>rfl) (by omega) (List.getElem?_set_self hkl)
   refine zab (ld_at (sh:=shSl) y2.Waiters (zeg (keep8 h8 _ oy8).1 (j:=1) (n:=1) rfl) ?_)
   refine newF (xs:=[(⟨mark,0⟩:S_api_Waiter),⟨mark,0⟩]) (enc:=fun x=>zad (sh_api_Waiter.enc x)) (sz:=2) rfl (fun _=>rfl) fun b9 h9 _ hle9 _ w9=> ?_
   obtain ⟨M9,o9,back9⟩:=zpy1 (oy8.le okLane hle9)
   refine o9.app (vs:=[(⟨mark,0⟩:S_api_Waiter),⟨mark,0⟩]) (qs:=[⟨mark,0⟩,⟨mark,0⟩]) ⟨rfl,rfl,trivial⟩ (w9.rw fun _=>rfl) (fun _=>rfl) (fun _=>rfl) rfl (by simp;omega) fun l10 h10 o10=> ?_
   refine zab (put8 h10 {y2 with Waiters:=l10} _ 1 [l10.v] _ (back9 h10 l10 _ o10) (by simp) rfl fun h11 o11=> ?_)
   rw [List.set_set] at o11
   obtain ⟨y3,M11, -,oy11,keep11,put11⟩:=o11.at_ okLane (fun _=>rfl) (by omega) (List.getElem?_set_self hkl)
   refine zab (put11 h11 {y3 with Taken:=mark} _ 2 [.int .i64 mark] _ (zzc1 mark oy11) (by simp) rfl fun h12 o12=> ?_)
   rw [List.set_set] at o12
   rw [zal (by omega) (by omega)]
   exact ⟨⟨k'+1,_,by push_cast;rfl,by omega,by simp [hlsl],zay1 hls,o12⟩,by omega⟩
  have hk1':¬(k':Int)<((l.len:Nat):Int):=by omega
  rw [if_neg (fun e=>hk1' (of_decide_eq_true e)),zal (by omega) (by omega)]
  exact ⟨⟨i2+1,_,by push_cast;rfl,by omega,(back h3 _ ol3).2,by simp [hl2],zay1 hs2⟩,by omega⟩
 have hlt2':¬(i2:Int)<((v.Procs.len:Nat):Int):=by omega
 rw [if_neg (fun e=>hlt2' (of_decide_eq_true e))]
 exact hq h2 o2.fr
end Lf

namespace Lf
open Go Go.Proofs
section
variable {h0 h:Hp} {G:List Nat}
theorem zcz2 {x:S_api_Config} {c:PCfg} (o:Ow CfgO x c h0 G h):∃M,Ow zlc1 x.Procs c.procs h M h∧∀h' l' ps',Ow zlc1 l' ps' h M h'→Ow CfgO {x with Procs:=l'} {c with procs:=ps'} h0 G h':=by
 obtain ⟨B,⟨B1,B2,B3,rfl,o1,o2,o3,o4⟩,nd,m⟩:=o
 refine ⟨B3,Ow.start o3 (List.nodup_append.1 (List.nodup_append.1 nd).2.1).2.1,fun h' l' vs' i=> ?_⟩
 obtain ⟨M',r',nd2,m2,hs⟩:=Ow.mid (P:=B1++B2) (S:=[]) (by simpa using nd) (by simpa using m) (by simpa using zfw (okUs.known o1) (okIs.known o2)) i
 exact ⟨B1++(B2++M'),⟨B1,B2,M',rfl,okUs.same o1 fun b hb=>hs b (by simp [hb]),okIs.same o2 fun b hb=>hs b (by simp [hb]),r',o4⟩,by simpa using nd2,by simpa using m2⟩
theorem zlr1 {q:S_api_Proc} {p:PProc} (o:Ow ProcO q p h0 G h):∃M,Ow InsO q.Code p.code h M h∧∀h' l' cs',Ow InsO l' cs' h M h'→Ow ProcO {q with Code:=l'} {p with code:=cs'} h0 G h':=by
 obtain ⟨B,⟨o1,o2⟩,nd,m⟩:=o
 refine ⟨B,Ow.start o2 nd,fun h' l' cs' i=> ?_⟩
 obtain ⟨M',r',nd2,m2⟩:=i
 exact ⟨M',⟨o1,r'⟩,nd2,m.trans m2⟩
end
def zls1 (x:S_api_Config) (K:Hp→Prop) (h:Hp):Prop:=
 LoopW1 (α1:=Int) (fun again3 t211 h23=>
 (if (decide (t211<((x.Procs.len:Nat):Int)))=true then
 ((InB x.Procs.base x.Procs.len t211)∧LdW none shSl h23 (Addr.add (sat x.Procs.base 2 t211) 1) fun x11=>
 LoopW1 (α1:=Int) (fun again4 t221 h24=>
 (if (decide (t221<((x11.len:Nat):Int)))=true then
 ((InB x.Procs.base x.Procs.len t211)∧LdW none shSl h24 (Addr.add (sat x.Procs.base 2 t211) 1) fun x12=>
 ((InB x12.base x12.len t221)∧StW h24 (sat x12.base 5 t221) [(.int .i64 (55:Int)),(.int .i64 (0:Int)),(.int .i64 (0:Int)),(.int .i64 (0:Int)),(.int .i64 (0:Int))] (fun h25=>
 again4 (IntKind.wrap .i64 (t221+(1:Int))) h25)))
 else
 ((InB x.Procs.base x.Procs.len t211)∧LdW none shSl h24 (Addr.add (sat x.Procs.base 2 t211) 1) fun x12=>
 NewW [(.int .i64 (55:Int)),(.int .i64 (0:Int)),(.int .i64 (0:Int)),(.int .i64 (0:Int)),(.int .i64 (0:Int))] (fun a1 h25=>
 ((True∧(True∧((LdIs h25 (Addr.add (sat x.Procs.base 2 t211) 1) [x12.v])∧True)))∧zaj 5 40 [(.int .i64 (0:Int)),(.int .i64 (0:Int)),(.int .i64 (0:Int)),(.int .i64 (0:Int)),(.int .i64 (0:Int))] x12 ⟨(some a1),1,1⟩ (fun r28 h26=>
 ((True∧True)∧((InB x.Procs.base x.Procs.len t211)∧StW h26 (Addr.add (sat x.Procs.base 2 t211) 1) [r28.v] (fun h27=>
 again3 (IntKind.wrap .i64 (t211+(1:Int))) h27)))) h25)) h24))) (0:Int) h23)
 else
 K h23)) (0:Int) h
set_option maxRecDepth 20000 in
theorem zsm1 {x:S_api_Config} {c:PCfg} {h:Hp} {B:List Nat} {K:Hp→Prop} (r:CfgO x c h B) (nd:B.Nodup) (hn:c.procs.length≤1048576) (hc:∀p∈c.procs,p.code.length≤1048576) (hK:∀h',Fr B h h'→K h'):zls1 x K h:=by
 unfold zls1
 obtain ⟨M0,op,back⟩:=zcz2 (Ow.start r nd)
 have hpl:x.Procs.len=c.procs.length:=op.len
 refine LoopW1.intro (fun i h1=>∃(i':Nat) (ps:List PProc),i=(i':Int)∧i'≤c.procs.length∧Ow zlc1 x.Procs ps h M0 h1∧ps.length=c.procs.length∧(∀j,i'≤j→ps[j]?=c.procs[j]?)) (fun i _=>((c.procs.length:Int)-i).toNat) ⟨0,c.procs,rfl,by omega,op,rfl,fun _ _=>rfl⟩ ?_
 rintro i h1 ⟨i',ps,rfl,hi,o1,hl1,hs1⟩
 by_cases hlt:i'<c.procs.length
 ·have hlt':(i':Int)<((x.Procs.len:Nat):Int):=by omega
  rw [if_pos (decide_eq_true hlt')]
  obtain ⟨p,hp⟩:∃p,c.procs[i']?=some p:=⟨_,List.getElem?_eq_getElem hlt⟩
  have fp:=hc p (List.mem_of_getElem? hp)
  obtain ⟨q,M,hin,oq,keep,put⟩:=o1.at_ zrt1 (fun _=>rfl) (by omega) ((hs1 i' (Nat.le_refl _)).trans hp)
  obtain ⟨M1,oc,backc⟩:=zlr1 oq
  have hql:q.Code.len=p.code.length:=oc.len
  refine ⟨hin,ld_at (sh:=shSl) q.Code (zeg (keep h1 _ oq).1 (j:=1) (n:=1) rfl) ?_⟩
  refine LoopW1.intro (fun j h2=>∃(j':Nat) (cs:List PIns),j=(j':Int)∧j'≤p.code.length∧cs.length=p.code.length∧Ow ProcO q {p with code:=cs} h1 M h2) (fun j _=>((p.code.length:Int)-j).toNat) ⟨0,p.code,rfl,by omega,rfl,oq⟩ ?_
  rintro j h2 ⟨j',cs,rfl,hj,hcl,o2⟩
  have ld2:LdIs h2 (Addr.add (sat x.Procs.base 2 (i':Int)) 1) [q.Code.v]:=zeg (keep h2 _ o2).1 (j:=1) (n:=1) rfl
  by_cases hj1:j'<cs.length
  ·have hj1':(j':Int)<((q.Code.len:Nat):Int):=by omega
   rw [if_pos (decide_eq_true hj1')]
   obtain ⟨M2,o3,back3⟩:=zlr1 o2
   obtain ⟨e,he⟩:∃e,cs[j']?=some e:=⟨_,List.getElem?_eq_getElem hj1⟩
   obtain ⟨e',M3,hin3,o4, -,put4⟩:=o3.at_ (PureO.ok _) (fun _=>rfl) (by omega) he
   refine ⟨hin,ld_at (sh:=shSl) q.Code ld2 ⟨hin3,?_⟩⟩
   rw [←zlm1 (sat q.Code.base 5 (j':Int))]
   refine put4 h2 ⟨55,0,0,0,0⟩ ⟨55,0,0,0,0⟩ 0 [.int .i64 55,.int .i64 0,.int .i64 0,.int .i64 0,.int .i64 0] _ (zbp1 o4 rfl) (by simp) rfl fun h5 o5=> ?_
   rw [zal (by omega) (by omega)]
   exact ⟨⟨j'+1,_,by push_cast;rfl,by omega,by simp [hcl],back3 h5 q.Code _ o5⟩,by omega⟩
  have hj1':¬(j':Int)<((q.Code.len:Nat):Int):=by omega
  rw [if_neg (fun e=>hj1' (of_decide_eq_true e))]
  refine ⟨hin,ld_at (sh:=shSl) q.Code ld2 ?_⟩
  refine newF (xs:=[(⟨55,0,0,0,0⟩:S_api_Ins)]) (enc:=fun x=>zad (sh_api_Ins.enc x)) (sz:=5) rfl (fun _=>rfl) fun b3 h3 _ hle3 _ w3=> ?_
  refine ⟨⟨trivial,trivial,zev hle3 ld2,trivial⟩,?_⟩
  obtain ⟨M3,o3,back3⟩:=zlr1 (o2.le zrt1 hle3)
  refine o3.app (vs:=[(⟨55,0,0,0,0⟩:S_api_Ins)]) (qs:=[⟨55,0,0,0,0⟩]) ⟨rfl,trivial⟩ (w3.rw fun _=>rfl) (fun _=>rfl) (fun _=>rfl) rfl (by simp;omega) fun l4 h4 o4=> ?_
  refine ⟨⟨trivial,trivial⟩,hin,put h4 {q with Code:=l4} _ 1 [l4.v] _ (back3 h4 l4 _ o4) (by simp) rfl fun h5 o5=> ?_⟩
  rw [zal (by omega) (by omega)]
  exact ⟨⟨i'+1,_,by push_cast;rfl,by omega,o5,by simp [hl1],zay1 hs1⟩,by omega⟩
 have hlt':¬(i':Int)<((x.Procs.len:Nat):Int):=by omega
 rw [if_neg (fun e=>hlt' (of_decide_eq_true e))]
 exact hK h1 (back h1 x.Procs ps o1).fr
def DecR (bs:List UInt8) (e:Int) (x:S_api_Config) (v:S_api_State) (c:PCfg) (s:PState):Prop:=
 (e≠0∧(∃p,SnapErr bs e p)∧x=cfg0∧v=st0∧c=zgy∧s=stNil)∨(e=0∧zdz snapD bs=.ok (c,s)∧(cfgE c).1=0∧MayP c s)
theorem DecR.uniq {bs:List UInt8} {e e':Int} {x x':S_api_Config} {v v':S_api_State} {c c':PCfg} {s s':PState} (a:DecR bs e x v c s) (b:DecR bs e' x' v' c' s'):e'=e∧c'=c∧s'=s:=by
 rcases a with ⟨e1,⟨p,e2⟩, -, -,rfl,rfl⟩ | ⟨rfl,e2,e3,e4⟩
 ·rcases b with ⟨f1,⟨p',f2⟩, -, -,rfl,rfl⟩ | ⟨rfl,f2,f3,f4⟩
  ·exact ⟨(e2.uniq f2).1.symm,rfl,rfl⟩
  ·exact (e2.not_ok e1 f2 f3 f4).elim
 ·rcases b with ⟨f1,⟨p',f2⟩, -, -,rfl,rfl⟩ | ⟨rfl,f2,f3,f4⟩
  ·exact (f2.not_ok f1 e2 e3 e4).elim
  ·rw [e2] at f2
   cases f2
   exact ⟨rfl,rfl,rfl⟩
theorem DecR.small {bs:List UInt8} {e:Int} {x:S_api_Config} {v:S_api_State} {c:PCfg} {s:PState} (a:DecR bs e x v c s):CfgLe c∧StLe s∧FewS s∧c.procs.length≤1048576∧∀p∈c.procs,p.code.length≤1048576:=by
 rcases a with ⟨-, -, -, -,rfl,rfl⟩ | ⟨-,e2, -, -⟩
 ·exact ⟨ziy2,zhx2,⟨by decide,by decide,fun p hp=>(by cases hp),fun p hp=>(by cases hp)⟩,by decide,fun p hp=>(by cases hp)⟩
 ·obtain ⟨⟨⟨hcv,hcb⟩,hsv⟩,_,_⟩:=znz law_snap e2
  have few:=zxb1 _ (zoc c) hcv
  have sm:=zcu2 few hsv
  obtain ⟨_,h2⟩:=(zxl (zoc c)).2 hcv
  obtain ⟨_,_,_,_,_,_,_,_,_,_,g⟩:=cfgP_zero.1 h2
  have f2:=few.np
  refine ⟨Few.le hcv,StateV.le few hsv,⟨Nat.le_trans sm.parts (by decide),Nat.le_trans sm.procs (by decide),fun p hp=> ?_,fun p hp=> ?_⟩,by omega,fun p hp=> ?_⟩
  ·obtain ⟨_,a1,_,_⟩:=hsv
   obtain ⟨b1,b2⟩:=zew a1
   obtain ⟨_,⟨⟨_,h0⟩,_⟩,_,_,_,⟨xs,g1,g2,g3⟩,g4⟩:=b2 p hp
   have h0:((p.log.length:Nat):Int)<65536:=h0
   obtain ⟨s1,s2,s3⟩:=sm.lists p hp
   rw [List.nil_append] at g1
   have g3:=(zfq (V:=LockV (c.procs.length:Int)) xs []).1 g3
   refine ⟨by omega,by omega,by omega,fun q hq=> ?_⟩
   obtain ⟨z,hz1,hz2⟩:=zli1 g4 q hq
   rw [g1] at hz1
   obtain ⟨_,⟨⟨_,h2⟩,_⟩,_⟩:=g3 z hz1
   have h2:((z.2.length:Nat):Int)<256:=h2
   rw [←hz2]
   omega
  ·obtain ⟨_,_,a2,_⟩:=hsv
   obtain ⟨b3,b4⟩:=zew a2
   obtain ⟨_,_,_,_,_,_,_,g1,_⟩:=b4 p hp
   obtain ⟨g2,g3⟩:=zew g1
   obtain ⟨s1,s2⟩:=sm.lanes p hp
   refine ⟨by omega,fun l hl=> ?_⟩
   obtain ⟨⟨⟨_,h1⟩,_⟩,_,⟨⟨_,h2⟩,_⟩,_⟩:=g3 l hl
   have h1:((l.values.length:Nat):Int)<256:=h1
   have h2:((l.waiters.length:Nat):Int)<256:=h2
   exact ⟨by omega,by omega⟩
  ·have:=(g p hp).2
   unfold codeP at this
   split at this
   ·cases this
   ·split at this
    ·cases this
    ·omega
section
variable {h:Hp} {b:Sl} {bs:List UInt8} {Q:S_api_Config→S_api_State→Int→Int→Hp→Prop}
theorem zio1 (hB:Bs h b bs) (hcap:b.len≤b.cap) (hq:∀x v e p c s B1 B2 h',h≤h'→DecR bs e x v c s→CfgO x c h' B1→StateO v s h' B2→(B1++B2).Nodup→(∀b∈B1++B2,h b=none)→Q x v e p h'):zpu Tryz.prog b Q h:=
 zxo hB hcap (fun e p h' l he hs=>hq _ _ e _ zgy stNil [] [] h' l (.inl ⟨he,⟨p,hs⟩,rfl,rfl,rfl,rfl⟩) zsq zcw2 List.nodup_nil fun b hb=>by cases hb)
  fun x v c s B1 B2 h' l hw h01 h02 o1 o2 nd fr=>hq x v 0 0 c s B1 B2 h' l (.inr ⟨rfl,hw,h01,h02⟩) o1 o2 nd fr
theorem zvc1 (hB:Bs h b bs) (hcap:b.len≤b.cap) (hq:∀x v e p c s B1 B2 h',h≤h'→DecR bs e x v c s→CfgO x c h' B1→StateO v s h' B2→(B1++B2).Nodup→(∀b∈B1++B2,h b=none)→Q x v e p h'):zdr Tryz.prog b Q h:=
 zsk1 hB hcap (fun e p h' l he hs=>hq _ _ e _ zgy stNil [] [] h' l (.inl ⟨he,⟨p,hs⟩,rfl,rfl,rfl,rfl⟩) zsq zcw2 List.nodup_nil fun b hb=>by cases hb)
  fun x v c s B1 B2 h' l hw h01 h02 o1 o2 nd fr=>hq x v 0 0 c s B1 B2 h' l (.inr ⟨rfl,hw,h01,h02⟩) o1 o2 nd fr
end
end Lf

namespace Lf
open Go Go.Proofs
theorem Fr.same {M B:List Nat} {h h':Hp} (f:Fr M h h') (kn:∀b∈B,h b≠none) (dis:∀b∈B,b∉M):∀b∈B,h' b=h b:=fun b hb=>by
 cases e:h b with
 | none=>exact absurd e (kn b hb)
 | some o=>exact f b o e (dis b hb)
theorem Fr.le0 {M:List Nat} {h0 h h':Hp} (f:Fr M h h') (hl:h0≤h) (hM:∀b∈M,h0 b=none):h0≤h':=fun b o e=>f b o (hl b o e) fun hb=>by
 rw [hM b hb] at e;cases e
def eN (n:Int):List Value:=[.int .u8 n]
theorem ownN {h:Hp} {l:Sl} {bs:List UInt8} {F:List Nat} (o:OwnF h 1 eB l bs F):OwnF h 1 eN l (bs.map fun b=>(b.toNat:Int)) F:=by
 obtain ⟨h1,h2,h3⟩:=o
 refine ⟨by simpa using h1,h2,?_⟩
 rcases h3 with h3 | ⟨b,cs,e1,e2,e3,e4,e5⟩
 ·exact .inl h3
 ·refine .inr ⟨b,cs,e1,e2,e3,e4,?_⟩
  rw [e5,List.flatMap_map]
  rfl
theorem zda2 {h:Hp} {a b w:S_api_State} {s:PState} {Q:Bool→Hp→Prop} (ra:StateAt h a s) (rb:StateAt h b s) (rw_:StateAt h w s) (sl:StLe s) (hq:Q true h):zio Tryz.prog a b w Q h:=by
 unfold zio
 refine zcj (zav1 ra rw_ sl ?_)
 exact ⟨fun _=>zcj (zav1 rb rw_ sl (letW hq)),fun e=>(by cases e)⟩
def zdb2 (y3 r12:Sl) (r13 r17:S_api_Config) (r14 r18:S_api_State) (r15:Int) (Q:Bool→Hp→Prop) (h16:Hp):Prop:=
 (((0:Int)≤((y3.len:Nat):Int)∧((y3.len:Nat):Int)≤((r12.cap:Nat):Int))∧LetW (α:=Sl) ⟨(sbase r12.base 1 0 r12.cap),((Int.toNat ((y3.len:Nat):Int))-0),(r12.cap-0)⟩ fun y6=>
 SemV none Tryz.prog (convert 33 9 y6.v) shStr h16 fun x7=>
 SemV none Tryz.prog (convert 33 9 y3.v) shStr h16 fun x8=>
 (((!(!((ByteArray.toList x7)==(ByteArray.toList x8))))=true→(InB r12.base r12.len ((y3.len:Nat):Int)))∧LdW (some (!(!((ByteArray.toList x7)==(ByteArray.toList x8))))) (shInt .u8) h16 (sat r12.base 1 ((y3.len:Nat):Int)) fun x9=>
 LetW ((!((ByteArray.toList x7)==(ByteArray.toList x8))) || (x9 !=(161:Int))) fun y7=>
 (((!y7)=true→(InB r12.base r12.len (IntKind.wrap .i64 (((y3.len:Nat):Int)+(1:Int)))))∧LdW (some (!y7)) (shInt .u8) h16 (sat r12.base 1 (IntKind.wrap .i64 (((y3.len:Nat):Int)+(1:Int)))) fun x10=>
 LetW (y7 || (x10 !=(162:Int))) fun y8=>
 (if y8=true then
 Q false h16
 else
 LoopW1 (α1:=Int) (fun again2 t167 h17=>
 (if (decide (t167<((r12.len:Nat):Int)))=true then
 ((InB r12.base r12.len t167)∧LdW none (shInt .u8) h17 (sat r12.base 1 t167) fun x11=>
 ((InB r12.base r12.len t167)∧StW h17 (sat r12.base 1 t167) [(.int .u8 (bitsI .xor .u8 x11 (66:Int)))] (fun h18=>
 again2 (IntKind.wrap .i64 (t167+(1:Int))) h18)))
 else
 Call4 Tryz.prog zdq [y3.v] sh_api_Config sh_api_State (shInt .i64) (shInt .i64) (fun r21 r22 r23 r24 h18=>
 EffC (some (!(r15 !=r23))) (CallT Tryz.prog zbp [r13.v,r21.v] zag) (fun r25 h19=>
 LetW ((r15 !=r23) || (!r25)) fun y9=>
 EffC (some (!y9)) (CallT Tryz.prog zbp [r17.v,r21.v] zag) (fun r26 h20=>
 LetW (y9 || (!r26)) fun y10=>
 EffC (some (!y10)) (CallT Tryz.prog zig [r14.v,r18.v,r22.v] zag) (fun r27 h21=>
 LetW (y10 || (!r27)) fun y11=>
 (if y11=true then
 Q false h21
 else
 Call0 Tryz.prog zce [r14.v,(.int .i64 (55:Int))] (fun h22=>
 zls1 r13 (fun h23=>
 CallT Tryz.prog zbp [r17.v,r21.v] zag (fun r28 h24=>
 EffC (some r28) (CallT Tryz.prog zbq [r18.v,r22.v] zag) (fun r29 h25=>
 LetW (r28&&r29) fun y12=>
 Q y12 h25) h24) h23) h22) h21)) h20) h19) h18) h17)) (0:Int) h16))))
set_option maxRecDepth 20000 in
theorem zdc2 {y3 r12:Sl} {r13 r17:S_api_Config} {r14 r18:S_api_State} {e e':Int} {Q:Bool→Hp→Prop} {h0 h16:Hp} {bs:List UInt8} {F A1 A2 C1 C2:List Nat} {c c':PCfg} {s s':PState} (l0:h0≤h16) (hB:Bs h0 y3 bs) (hcap:y3.len≤y3.cap) (hlen:bs.length≤2097152)
  (oo:OwnF h16 1 eB r12 (bs++ [161,162]) F) (D1:DecR bs e r13 r14 c s) (D2:DecR bs e' r17 r18 c' s') (o13:CfgO r13 c h16 A1) (o14:StateO r14 s h16 A2) (nd:(A1++A2).Nodup) (o17:CfgO r17 c' h16 C1) (o18:StateO r18 s' h16 C2)
  (dA:∀b∈A1++A2,b∉F) (dC:∀b∈C1++C2,b∉F) (dCA:∀b∈C1++C2,b∉A1++A2) (fF:∀b∈F,h0 b=none) (fA:∀b∈A1++A2,h0 b=none) (hq:∀h',h0≤h'→Q true h'):zdb2 y3 r12 r13 r17 r14 r18 e Q h16:=by
 unfold zdb2
 obtain ⟨rfl,rfl,rfl⟩:=D1.uniq D2
 have hyl:y3.len=bs.length:=hB.1
 have hol:r12.len=(bs++ [161,162]).length:=oo.1
 have hol2:r12.len=bs.length+2:=by rw [hol];simp
 have hoc:r12.len≤r12.cap:=oo.2.1
 have hrw:=oo.rw zcb
 have hu33:=tb_ok.und 33 ty33 rfl
 have hu5:=tb_ok.und 5 ty5 rfl
 have hu9:=tb_ok.und 9 ty9 rfl
 refine ⟨⟨by omega,by omega⟩,letW ?_⟩
 have hcut:=hrw.cut (a:=0) (b:=bs.length) (c:=r12.cap) (n:=bs.length-0) (m:=r12.cap-0) zcb (by omega) (by simp) (by omega) rfl
 rw [List.drop_zero,Nat.sub_zero,List.take_left] at hcut
 have e2:(Int.toNat ((y3.len:Nat):Int))-0=bs.length:=by omega
 rw [e2]
 refine ⟨_,zlo hu33 hu5 hu9 hcut,_,zlo hu33 hu5 hu9 (Rw.mono l0 hB),?_⟩
 obtain ⟨in1,x9,hx9,ld9⟩:=Rw.read hrw zcb (by omega) (i:=((y3.len:Nat):Int)) (by omega) (by omega)
 have hx9:(bs++ [161,162])[y3.len]?=some x9:=hx9
 rw [hyl,List.getElem?_append_right (Nat.le_refl _),Nat.sub_self] at hx9
 have hx9:(161:UInt8)=x9:=Option.some.inj hx9
 subst hx9
 obtain ⟨in2,x10,hx10,ld10⟩:=Rw.read hrw zcb (by omega) (i:=((y3.len:Nat):Int)+1) (by omega) (by omega)
 have hx10:(bs++ [161,162])[y3.len+1]?=some x10:=hx10
 rw [hyl,List.getElem?_append_right (by omega),show bs.length+1-bs.length=1 by omega] at hx10
 have hx10:(162:UInt8)=x10:=Option.some.inj hx10
 subst hx10
 refine ⟨fun _=>in1,ldC (sh:=shInt .u8) (161:Int) ld9 (letW ?_)⟩
 rw [zal (n:=((y3.len:Nat):Int)+1) (by omega) (by omega)]
 refine ⟨fun _=>in2,ldC (sh:=shInt .u8) (162:Int) ld10 (letW ?_)⟩
 rw [if_neg (by simp)]
 refine LoopW1.intro (fun i h=>∃(i':Nat) (xs:List Int),i=(i':Int)∧i'≤r12.len∧OwnF h 1 eN r12 xs F∧Fr F h16 h) (fun i _=>((r12.len:Int)-i).toNat) ⟨0,_,rfl,by omega,ownN oo,Fr.refl _ _⟩ ?_
 rintro i h17 ⟨i',xs,rfl,hi,o1,f1⟩
 by_cases hlt:i'<r12.len
 ·have hlt':(i':Int)<((r12.len:Nat):Int):=by omega
  rw [if_pos (decide_eq_true hlt')]
  have hxl:r12.len=xs.length:=o1.1
  obtain ⟨in3,x11,hx11,ld11⟩:=Rw.read (o1.rw fun _=>rfl) (fun _=>rfl) (by omega) (i:=(i':Int)) (by omega) (by omega)
  refine ⟨in3,ld_at (sh:=shInt .u8) x11 ld11 ?_⟩
  refine OwnF.store o1 (fun _=>rfl) (by omega) (by omega) (bitsI .xor .u8 x11 66) fun h18 o2 m2=> ?_
  rw [zal (by omega) (by omega)]
  exact ⟨⟨i'+1,_,by push_cast;rfl,by omega,o2,fun b o e hn=>m2.keep b o (f1 b o e hn) hn⟩,by omega⟩
 have hlt':¬(i':Int)<((r12.len:Nat):Int):=by omega
 rw [if_neg (fun e=>hlt' (of_decide_eq_true e))]
 have l17:=f1.le0 l0 fF
 refine zry (zvc1 (Rw.mono l17 hB) hcap fun r21 r22 e3 p3 c3 s3 E1 E2 h18 l18 D3 o21 o22 nd3 fr3=> ?_)
 obtain ⟨rfl,rfl,rfl⟩:=D1.uniq D3
 obtain ⟨cl,sl,few,hc1,hc2⟩:=D1.small
 have k13:=okCfg.known o13
 have k14:=okState.known o14
 have a13:=okCfg.same o13 (f1.same k13 fun b hb=>dA b (mem_a hb))
 have a14:=okState.same o14 (f1.same k14 fun b hb=>dA b (mem_b hb))
 have a17:=okCfg.same o17 (f1.same (okCfg.known o17) fun b hb=>dC b (mem_a hb))
 have a18:=okState.same o18 (f1.same (okState.known o18) fun b hb=>dC b (mem_b hb))
 have b13:=okCfg.same a13 (zbb l18 (okCfg.known a13))
 have b14:=okState.same a14 (zbb l18 (okState.known a14))
 have b17:=okCfg.same a17 (zbb l18 (okCfg.known a17))
 have b18:=okState.same a18 (zbb l18 (okState.known a18))
 refine ⟨fun _=>zdl (zgx1 b13.rd o21.rd cl (letW ?_)),fun h=>(by simp at h)⟩
 refine ⟨fun _=>zdl (zgx1 b17.rd o21.rd cl (letW ?_)),fun h=>(by simp at h)⟩
 refine ⟨fun _=>zuk (zda2 b14.rd b18.rd o22.rd sl (letW ?_)),fun h=>(by simp at h)⟩
 rw [if_neg (by simp)]
 have ndA:=List.nodup_append.1 nd
 refine zkr (zxi1 b14 ndA.2.1 few fun h22 f22=> ?_)
 have eA:∀b∈E1++E2,b∉A1++A2:=fun b hb h=>by
  rcases List.mem_append.1 h with h | h
  ·exact okCfg.known a13 b h (fr3 b hb)
  ·exact okState.known a14 b h (fr3 b hb)
 have c13:=okCfg.same b13 (f22.same (okCfg.known b13) fun b hb h=>ndA.2.2 b hb b h rfl)
 have c17:=okCfg.same b17 (f22.same (okCfg.known b17) fun b hb h=>dCA b (mem_a hb) (mem_b h))
 have c18:=okState.same b18 (f22.same (okState.known b18) fun b hb h=>dCA b (mem_b hb) (mem_b h))
 have c21:=okCfg.same o21 (f22.same (okCfg.known o21) fun b hb h=>eA b (mem_a hb) (mem_b h))
 have c22:=okState.same o22 (f22.same (okState.known o22) fun b hb h=>eA b (mem_b hb) (mem_b h))
 refine zsm1 c13 ndA.1 hc1 hc2 fun h23 f23=> ?_
 have d17:=okCfg.same c17 (f23.same (okCfg.known c17) fun b hb h=>dCA b (mem_a hb) (mem_a h))
 have d18:=okState.same c18 (f23.same (okState.known c18) fun b hb h=>dCA b (mem_b hb) (mem_a h))
 have d21:=okCfg.same c21 (f23.same (okCfg.known c21) fun b hb h=>eA b (mem_a hb) (mem_a h))
 have d22:=okState.same c22 (f23.same (okState.known c22) fun b hb h=>eA b (mem_b hb) (mem_a h))
 refine zdl (zgx1 d17.rd d21.rd cl ?_)
 refine ⟨fun _=>zcj (zav1 d18.rd d22.rd sl (letW ?_)),fun h=>(by cases h)⟩
 exact hq h23 (f23.le0 (f22.le0 (Hp.le_trans l17 l18) fun b hb=>fA b (mem_b hb)) fun b hb=>fA b (mem_a hb))
end Lf

namespace Lf
open Go Go.Proofs
theorem zfl2 {h:Hp} {n:Int} {K:Sl→Hp→Prop} (h0:0≤n) (h1:n≤1099511627776) (hk:∀l h' F,h≤h'→OwnF h' 1 eB l [] F→(∀b∈F,h b=none)→K l h'):MakeW 1 [.int .u8 0] 0 n K h:=by
 refine ⟨⟨by omega,h0,by omega,by omega⟩,fun b t hb=> ?_⟩
 refine hk _ _ [b] (zny hb) ⟨rfl,by simp,.inr ⟨b,zbu [.int .u8 0] n.toNat,rfl,rfl,⟨t,zid⟩,?_,rfl⟩⟩ fun c hc=>by rw [List.mem_singleton.1 hc];exact hb
 simp [zbu]
theorem zfm2 (n:Nat):min2I ((n:Nat):Int) 2097152=((min n 2097152:Nat):Int):=by
 unfold min2I
 split<;>omega
def zxj1 (b:Sl) (Q:Bool→Hp→Prop) (h10:Hp):Prop:=
 (((0:Int)≤(min2I ((b.len:Nat):Int) (2097152:Int))∧(min2I ((b.len:Nat):Int) (2097152:Int))≤((b.cap:Nat):Int))∧LetW (α:=Sl) ⟨(sbase b.base 1 0 b.cap),((Int.toNat (min2I ((b.len:Nat):Int) (2097152:Int)))-0),(b.cap-0)⟩ fun y3=>
 MakeW 1 [(.int .u8 (0:Int))] (0:Int) (IntKind.wrap .i64 (((y3.len:Nat):Int)+(2:Int))) (fun r10 h11=>
 zaj 1 1 [(.int .u8 (0:Int))] r10 y3 (fun r11 h12=>
 NewW [(.int .u8 (161:Int)),(.int .u8 (162:Int))] (fun a h13=>
 zaj 1 1 [(.int .u8 (0:Int))] r11 ⟨(some a),2,2⟩ (fun r12 h14=>
 (((0:Int)≤((y3.len:Nat):Int)∧((y3.len:Nat):Int)≤((r12.cap:Nat):Int))∧LetW (α:=Sl) ⟨(sbase r12.base 1 0 r12.cap),((Int.toNat ((y3.len:Nat):Int))-0),(r12.cap-0)⟩ fun y4=>
 Call4 Tryz.prog zeo [y4.v] sh_api_Config sh_api_State (shInt .i64) (shInt .i64) (fun r13 r14 r15 r16 h15=>
 (((0:Int)≤((y3.len:Nat):Int)∧((y3.len:Nat):Int)≤((r12.cap:Nat):Int))∧LetW (α:=Sl) ⟨(sbase r12.base 1 0 r12.cap),((Int.toNat ((y3.len:Nat):Int))-0),(r12.cap-0)⟩ fun y5=>
 Call4 Tryz.prog zeo [y5.v] sh_api_Config sh_api_State (shInt .i64) (shInt .i64) (fun r17 r18 r19 r20 h16=>
 zdb2 y3 r12 r13 r17 r14 r18 r15 Q h16) h15)) h14)) h13) h12) h11) h10)
set_option maxRecDepth 20000 in
theorem zdd2 {b:Sl} {bs:List UInt8} {Q:Bool→Hp→Prop} {h:Hp} (hB:Bs h b bs) (hcap:b.len≤b.cap) (hq:∀h',h≤h'→Q true h'):zxj1 b Q h:=by
 unfold zxj1
 have hl:b.len=bs.length:=hB.1
 rw [zfm2]
 have hN:min b.len 2097152≤b.len:=Nat.min_le_left _ _
 have hN2:min b.len 2097152≤2097152:=Nat.min_le_right _ _
 generalize min b.len 2097152=N at hN hN2 ⊢
 have e1:((N:Nat):Int).toNat=N:=rfl
 rw [e1]
 have hcut:=hB.cut (a:=0) (b:=N) (c:=b.cap) (n:=N-0) (m:=b.cap-0) zcb (by omega) (by omega) (by omega) rfl
 refine ⟨⟨by omega,by omega⟩,letW ?_⟩
 generalize hy:(⟨sbase b.base 1 0 b.cap,N-0,b.cap-0⟩:Sl)=y3 at hcut ⊢
 have hy3:y3.len=N:=by rw [←hy];rfl
 have hy3c:y3.len≤y3.cap:=by rw [←hy];show N-0≤b.cap-0;omega
 rw [List.drop_zero,Nat.sub_zero] at hcut
 generalize hbs:bs.take N=cs at hcut
 have hcl:cs.length=N:=by rw [←hcut.1,hy3]
 rw [zal (n:=((y3.len:Nat):Int)+2) (by omega) (by omega)]
 refine zfl2 (by omega) (by omega) fun r10 h11 F10 l11 o10 f10=> ?_
 refine appF o10 (Rw.mono l11 hcut) zcb (fun _=>rfl) rfl (by simp;omega) fun r11 h12 F11 o11 m11=> ?_
 have l12:=m11.le l11 f10
 refine newF (xs:=[(161:UInt8),162]) (enc:=eB) (sz:=1) rfl zcb fun b13 h13 _ l13 m13 w13=> ?_
 have o11':=o11.same (zbb l13 o11.known)
 refine appF o11' (w13.rw zcb) zcb (fun _=>rfl) rfl (by simp;omega) fun r12 h14 F12 o12 m12=> ?_
 have l14:=m12.le (Hp.le_trans l12.1 l13) l12.2
 rw [List.nil_append] at o12
 have hol:r12.len=cs.length+2:=by rw [o12.1];simp
 have hoc:r12.len≤r12.cap:=o12.2.1
 have e2:(Int.toNat ((y3.len:Nat):Int))-0=cs.length:=by omega
 rw [e2]
 have hcutY:∀h',OwnF h' 1 eB r12 (cs++ [161,162]) F12→Bs h' ⟨sbase r12.base 1 0 r12.cap,cs.length,r12.cap-0⟩ cs:=fun h' o=>by
  have:=(o.rw zcb).cut (a:=0) (b:=cs.length) (c:=r12.cap) (n:=cs.length-0) (m:=r12.cap-0) zcb (by omega) (by simp) (by omega) rfl
  rw [List.drop_zero,Nat.sub_zero,List.take_left] at this
  exact this
 refine ⟨⟨by omega,by omega⟩,letW ?_⟩
 refine zkx (zio1 (hcutY h14 o12) (by show cs.length≤r12.cap-0;omega) fun r13 r14 r15 r16 c s A1 A2 h15 l15 D1 o13 o14 nd1 fr1=> ?_)
 have o12':=o12.same (zbb l15 o12.known)
 refine ⟨⟨by omega,by omega⟩,letW ?_⟩
 refine zkx (zio1 (hcutY h15 o12') (by show cs.length≤r12.cap-0;omega) fun r17 r18 r19 r20 c2 s2 C1 C2 h16 l16 D2 o17 o18 nd2 fr2=> ?_)
 have o12'':=o12'.same (zbb l16 o12'.known)
 have k13:=okCfg.known o13
 have k14:=okState.known o14
 have b13:=okCfg.same o13 (zbb l16 k13)
 have b14:=okState.same o14 (zbb l16 k14)
 have lh:h≤h16:=Hp.le_trans l14.1 (Hp.le_trans l15 l16)
 refine zdc2 lh hcut hy3c (by omega) o12'' D1 D2 b13 b14 nd1 o17 o18 (fun b hb hf=>o12.known b hf (fr1 b hb)) (fun b hb hf=>o12'.known b hf (fr2 b hb)) (fun b hb ha=> ?_) l14.2 (fun b hb=>zbc l14.1 (fr1 b hb)) hq
 rcases List.mem_append.1 ha with ha | ha
 ·exact k13 b ha (fr2 b hb)
 ·exact k14 b ha (fr2 b hb)
end Lf

namespace Lf
open Go Go.Proofs
theorem zxx {h0 h:Hp} {l0:Sl} {bs:List UInt8} {n:Nat} {len:Int} {es:List (List UInt8)} {B:(Sl→Int→Hp→Prop)→Sl→Int→Hp→Prop} {X:Sl→Int→Hp→Prop} (hn:len=(n:Int)) (hle:h0≤h) (o:OwnB h0 h l0 bs) (hes:es.length=n) (hnb:n≤4611686018427387904) (hb:bs.length+es.flatten.length≤2000000)
  (hs:∀(i:Nat) e,es[i]?=some e→∀l bs' h',h0≤h'→OwnB h0 h' l bs'→bs'.length+e.length≤2000000→∀K:Sl→Int→Hp→Prop,(∀l2 h2,h0≤h2→OwnB h0 h2 l2 (bs'++e)→K l2 (IntKind.wrap .i64 ((i:Int)+1)) h2)→B K l (i:Int) h')
  (hx:∀l h',h0≤h'→OwnB h0 h' l (bs++es.flatten)→X l (n:Int) h'):
  LoopW2 (fun again x t h=>if decide (t<len)=true then B again x t h else X x t h) l0 (0:Int) h:=by
 refine forA hn hnb (fun i l h'=>h0≤h'∧OwnB h0 h' l (bs++(es.take i).flatten)) ⟨hle,by simpa using o⟩ ?_ ?_
 ·rintro i hi l h' ⟨hle',o'⟩ K hK
  have he:=List.getElem?_eq_getElem (show i<es.length by omega)
  obtain ⟨s1,s2⟩:=zpp1 (bs:=bs) he
  refine hs i _ he l _ h' hle' o' (by omega) K fun l2 h2 hle2 o2=>hK l2 h2 ⟨hle2,?_⟩
  rw [←s1];exact o2
 ·rintro l h' ⟨hle',o'⟩
  rw [List.take_of_length_le (by omega)] at o'
  exact hx l h' hle' o'
theorem zgz {n:Int}: [Value.int .u8 (IntKind.wrap .u8 n)]=(leB n 1).map fun b=>Value.int .u8 (b.toNat:Int):=by simp [leB,wrap8]
section
variable {h0 h:Hp} {l:Sl} {bs:List UInt8} {Q:Sl→Hp→Prop}
theorem zbk {P:Program} {n m:Int} {k:Nat} (hm:m=(k:Int)) (hk8:k≤8) (hle:h0≤h) (o:OwnB h0 h l bs) (hb:bs.length≤2000000) (hk:∀l' h',h0≤h'→OwnB h0 h' l' (bs++leB n k)→Q l' h'):zgh P l n m Q h:=by
 unfold zgh
 exact zpg1 hm hk8 hle o (by omega) hk
theorem zde2 {P:Program} {x:S_api_Ins} (hle:h0≤h) (o:OwnB h0 h l bs) (hb:bs.length≤2000000) (hk:∀l' h',h0≤h'→OwnB h0 h' l' (bs++insB (insOf x))→Q l' h'):zjx P l x Q h:=by
 unfold zjx
 refine zca hle o (leB x.Op 1++(leB x.A 1++(leB x.B 1++leB x.C 1))) (by simp [leB,wrap8]) rfl (by simp only [List.length_append,zaf];omega) fun l1 h1 le1 o1 _=> ?_
 refine zpg1 (k:=8) rfl (by omega) le1 o1 (by simp only [List.length_append,zaf];omega) fun l2 h2 le2 o2=>hk l2 h2 le2 ?_
 rw [zcm (by omega)] at o2
 simpa [insB,insOf,List.append_assoc] using o2
set_option maxRecDepth 20000 in
theorem zsn1 {c:S_api_Config} {p:PCfg} {Q:Sl→Int→Hp→Prop} (a:CfgAt h c p) (hlen:(cfgE p).1=0→(cfgB p).length≤1048576) (h0':(cfgE p).1≠0→Q ⟨none,0,0⟩ (cfgE p).1 h)
  (h1:(cfgE p).1=0→∀out h',h≤h'→OwnB h h' out (cfgB p)→Q out 0 h'):zgg Tryz.prog c Q h:=by
 unfold zgg
 refine zmn (zij1 a fun _=> ?_)
 by_cases he:(cfgE p).1≠0
 ·rw [if_pos (by simpa using he)]
  exact h0' he
 rw [if_neg (by simpa using he)]
 have he:=Classical.not_not.1 he
 have hlen:=hlen he
 obtain ⟨ps,hps,hall⟩:=a.procs
 have hll:c.Labels.len=p.labels.length:=a.labels.1
 have hlt:c.Table.len=p.table.length:=a.table.1
 have hlp:c.Procs.len=ps.length:=hps.1
 have hlp2:=hall.len
 have g1:(p.labels.map fun v=>leB v 8).flatten.length=8*p.labels.length:=zmy _ fun _=>zaf _ _
 have g2:(p.table.map fun v=>leB v 1).flatten.length=1*p.table.length:=zmy _ fun _=>zaf _ _
 have hL:(cfgB p).length=14+(p.labels.map fun v=>leB v 8).flatten.length+(p.table.map fun v=>leB v 1).flatten.length+(p.procs.map procB).flatten.length:=by
  simp only [cfgB,List.length_append,zaf,List.flatMap_def,List.length_cons,List.length_nil]
  omega
 obtain ⟨-, -, -, -,⟨hP1,hP32⟩, -⟩:=zoa he
 refine zaq1 (h0:=h) (xs:=[70,66,67,70,1]++leB (c.Labels.len:Int) 1) (enc:=eB) (sz:=1) (Hp.le_refl h) (by simp [leB,wrap8,eB]) zcb fun a1 k1 le1 o1=> ?_
 refine zxx (n:=p.labels.length) (es:=p.labels.map fun v=>leB v 8) (by omega) le1 o1 (by simp) (by omega) (by simp only [List.length_append,zaf,List.length_cons,List.length_nil];omega) ?_ fun b1 k2 le2 o2=> ?_
 ·intro i e hi l' bs' h' le' o' hb' K hK
  rw [List.getElem?_map] at hi
  cases hv:p.labels[i]? with
  | none=>rw [hv] at hi;cases hi
  | some v=>
   rw [hv] at hi;cases hi
   have hil:=(List.getElem?_eq_some_iff.1 hv).1
   refine Rs.get (sh:=shInt .u64) (Rw.mono le' a.labels) (fun _=>rfl) (by omega) (by omega) (by omega) fun (x:Int) hx=> ?_
   have hx:p.labels[i]?=some x:=hx
   rw [hv] at hx;cases hx
   exact zah (zbk (k:=8) rfl (by omega) le' o' (by omega) hK)
 refine zca le2 o2 (leB (c.Table.len:Int) 1) zgz rfl (by simp only [List.length_append,zaf,List.length_cons,List.length_nil];omega) fun b3 k3 le3 o3 _=> ?_
 refine zxx (n:=p.table.length) (es:=p.table.map fun v=>leB v 1) (by omega) le3 o3 (by simp) (by omega) (by simp only [List.length_append,zaf,List.length_cons,List.length_nil];omega) ?_ fun b4 k4 le4 o4=> ?_
 ·intro i e hi l' bs' h' le' o' hb' K hK
  rw [List.getElem?_map] at hi
  cases hv:p.table[i]? with
  | none=>rw [hv] at hi;cases hi
  | some v=>
   rw [hv] at hi;cases hi
   have hil:=(List.getElem?_eq_some_iff.1 hv).1
   refine Rs.get (sh:=shInt .i64) (Rw.mono le' a.table) (fun _=>rfl) (by omega) (by omega) (by omega) fun (x:Int) hx=> ?_
   have hx:p.table[i]?=some x:=hx
   rw [hv] at hx;cases hx
   exact zca le' o' (leB v 1) zgz rfl (by simp only [zaf] at hb' ⊢;omega) fun l2 h2 hle2 o2 _=>hK l2 h2 hle2 o2
 refine zah (zbk (k:=2) rfl (by omega) le4 o4 (by simp only [List.length_append,zaf,List.length_cons,List.length_nil];omega) fun b5 k5 le5 o5=> ?_)
 rw [zcm (by omega)] at o5
 refine zca le5 o5 (leB c.Lane 1++leB c.Locks 1) (by simp [leB,wrap8]) rfl (by simp only [List.length_append,zaf,List.length_cons,List.length_nil];omega) fun b6 k6 le6 o6 _=> ?_
 refine zah (zbk (k:=2) rfl (by omega) le6 o6 (by simp only [List.length_append,zaf,List.length_cons,List.length_nil];omega) fun b7 k7 le7 o7=> ?_)
 rw [zcm (by omega)] at o7
 refine zca le7 o7 (leB (c.Procs.len:Int) 1) zgz rfl (by simp only [List.length_append,zaf,List.length_cons,List.length_nil];omega) fun b8 k8 le8 o8 _=> ?_
 refine zxx (n:=ps.length) (es:=p.procs.map procB) (by omega) le8 o8 (by rw [List.length_map,hlp2]) (by omega) (by simp only [List.length_append,zaf,List.length_cons,List.length_nil];omega) ?_ fun b9 k9 le9 o9=> ?_
 ·intro i e hi l' bs' h' le' o' hb' K hK
  rw [List.getElem?_map] at hi
  cases hv:p.procs[i]? with
  | none=>rw [hv] at hi;cases hi
  | some v=>
   rw [hv] at hi;cases hi
   obtain ⟨q,hq,hq1,is,his,hmap⟩:=hall.get' hv
   have hil:=(List.getElem?_eq_some_iff.1 hq).1
   have hcl:q.Code.len=is.length:=his.1
   have hml:is.length=v.code.length:=by rw [←hmap,List.length_map]
   have hcb:(v.code.map insB).flatten.length=12*v.code.length:=zmy _ fun _=>by simp [insB,zaf]
   have hpl:(procB v).length=3+(v.code.map insB).flatten.length:=by
    simp only [procB,codeB,List.length_append,zaf,List.flatMap_def]
    omega
   refine Rs.get (sh:=sh_api_Proc) (Rw.mono le' hps) (fun _=>rfl) (by omega) (by omega) (by omega) fun x hx=> ?_
   have hx:ps[i]?=some x:=hx
   rw [hq] at hx;cases hx
   refine zca le' o' (leB q.Part 1) zgz rfl (by rw [zaf];omega) fun l2 h2 hle2 o2 _=> ?_
   refine zah (zbk (k:=2) rfl (by omega) hle2 o2 (by simp only [List.length_append,zaf];omega) fun l3 h3 hle3 o3=> ?_)
   rw [zcm (by omega)] at o3
   refine zxx (n:=is.length) (es:=v.code.map insB) (by omega) hle3 o3 (by rw [List.length_map,hml]) (by omega) (by simp only [List.length_append,zaf];omega) ?_ fun l4 h4 hle4 o4=> ?_
   ·intro j e hj l' bs' h' le' o' hb' K hK
    rw [List.getElem?_map] at hj
    cases hv':v.code[j]? with
    | none=>rw [hv'] at hj;cases hj
    | some u=>
     rw [hv'] at hj;cases hj
     rw [←hmap,List.getElem?_map] at hv'
     cases hw:is[j]? with
     | none=>rw [hw] at hv';cases hv'
     | some w=>
      rw [hw] at hv';cases hv'
      have hjl:=(List.getElem?_eq_some_iff.1 hw).1
      refine Rs.get (sh:=sh_api_Ins) (Rw.mono le' his) (fun _=>rfl) (by omega) (by omega) (by omega) fun x hx=> ?_
      have hx:is[j]?=some x:=hx
      rw [hw] at hx;cases hx
      exact zww (zde2 le' o' (by omega) hK)
   ·refine hK l4 h4 hle4 ?_
    have e:procB v=leB q.Part 1++(leB (q.Code.len:Int) 2++(v.code.map insB).flatten):=by rw [hq1,hcl,hml];simp [procB,codeB,List.flatMap_def]
    rw [e]
    simpa [List.append_assoc] using o4
 ·refine h1 he b9 k9 le9 ?_
  rw [hll,hlt,a.fuel,a.lane,a.locks,a.log,hlp,hlp2] at o9
  simpa [cfgB,List.append_assoc,List.flatMap_def] using o9
set_option maxRecDepth 20000 in
theorem zqb1 {x:S_api_Part} {p:PPart} (hle:h0≤h) (o:OwnB h0 h l bs) (a:PartAt h0 x p) (hoq:p.owners.length=p.queues.length) (hb:bs.length+(partB p).length≤2000000) (hk:∀l' h',h0≤h'→OwnB h0 h' l' (bs++partB p)→Q l' h'):ziq Tryz.prog l x Q h:=by
 unfold ziq
 obtain ⟨es,hes,hmap⟩:=a.log
 obtain ⟨qs,hqs,hallq⟩:=a.queues
 have hel:x.Log.len=es.length:=hes.1
 have hol:x.Owners.len=p.owners.length:=a.owners.1
 have hql:x.Queues.len=qs.length:=hqs.1
 have hql2:=hallq.len
 have hxl:p.log.length=es.length:=by rw [←hmap,List.length_map]
 have hlog:(p.log.map zow).flatten.length=17*p.log.length:=zmy _ fun _=>by simp [zow,zaf]
 have hzl:(p.owners.zip p.queues).length=p.owners.length:=by rw [List.length_zip];omega
 have hL:(partB p).length=7+(p.log.map zow).flatten.length+((p.owners.zip p.queues).map lockB).flatten.length:=by
  simp only [partB,List.length_append,zaf,List.flatMap_def]
  omega
 have hbnd:p.owners.length≤((p.owners.zip p.queues).map lockB).flatten.length:=by
  rw [←hzl]
  generalize p.owners.zip p.queues=z
  induction z with
  | nil=>simp
  | cons y z ih=>
   have:0<(lockB y).length:=by simp [lockB,zaf];omega
   simp only [List.map_cons,List.flatten_cons,List.length_append,List.length_cons]
   omega
 refine zca hle o (leB x.Cursor 1) zgz rfl (by rw [zaf];omega) fun l1 h1 le1 o1 _=> ?_
 refine zah (zbk (k:=2) rfl (by omega) le1 o1 (by simp only [List.length_append,zaf];omega) fun l2 h2 le2 o2=> ?_)
 rw [zcm (by omega)] at o2
 refine zxx (n:=es.length) (es:=p.log.map zow) (by omega) le2 o2 (by rw [List.length_map,hxl]) (by omega) (by simp only [List.length_append,zaf];omega) ?_ fun l3 h3 le3 o3=> ?_
 ·intro i e hi l' bs' h' le' o' hb' K hK
  rw [←hmap,List.map_map,List.getElem?_map] at hi
  cases hv:es[i]? with
  | none=>rw [hv] at hi;cases hi
  | some v=>
   rw [hv] at hi;cases hi
   have hil:=(List.getElem?_eq_some_iff.1 hv).1
   have hb':bs'.length+17≤2000000:=by simpa [zow,zaf] using hb'
   have hm:∀h2,h0≤h2→EntS h2 x.Log es:=fun h2 hl2=>Rw.mono hl2 hes
   refine Rw.fld (hm _ le') (fun _=>rfl) (by omega) (sh:=shInt .i64) (fun q=>q.Tick) (fun _=>rfl) (by omega) (by omega) fun w hw=> ?_
   have hw:es[i]?=some w:=hw
   rw [hv] at hw;cases hw
   refine zah (zbk (k:=8) rfl (by omega) le' o' (by omega) fun l4 h4 le4 o4=> ?_)
   rw [zcm (by omega)] at o4
   refine Rw.fld (hm _ le4) (fun _=>rfl) (by omega) (sh:=shInt .i64) (fun q=>q.Proc) (fun _=>rfl) (by omega) (by omega) fun w hw=> ?_
   have hw:es[i]?=some w:=hw
   rw [hv] at hw;cases hw
   refine zca le4 o4 (leB v.Proc 1) zgz rfl (by simp only [List.length_append,zaf];omega) fun l5 h5 le5 o5 _=> ?_
   refine Rw.fld (hm _ le5) (fun _=>rfl) (by omega) (sh:=shInt .i64) (fun q=>q.Value_) (fun _=>rfl) (by omega) (by omega) fun w hw=> ?_
   have hw:es[i]?=some w:=hw
   rw [hv] at hw;cases hw
   refine zah (zbk (k:=8) rfl (by omega) le5 o5 (by simp only [List.length_append,zaf];omega) fun l6 h6 le6 o6=>hK l6 h6 le6 ?_)
   rw [zcm (by omega)] at o6
   simpa [zow,zht,List.append_assoc] using o6
 refine zah (zbk (k:=2) rfl (by omega) le3 o3 (by simp only [List.length_append,zaf];omega) fun l4 h4 le4 o4=> ?_)
 rw [zcm (by omega)] at o4
 refine zah (zbk (k:=2) rfl (by omega) le4 o4 (by simp only [List.length_append,zaf];omega) fun l5 h5 le5 o5=> ?_)
 rw [zcm (by omega)] at o5
 refine zxx (n:=p.owners.length) (es:=(p.owners.zip p.queues).map lockB) (by omega) le5 o5 (by rw [List.length_map,hzl]) (by omega) (by simp only [List.length_append,zaf];omega) ?_ fun l6 h6 le6 o6=> ?_
 ·intro i e hi l' bs' h' le' o' hb' K hK
  rw [List.getElem?_map] at hi
  cases hz:(p.owners.zip p.queues)[i]? with
  | none=>rw [hz] at hi;cases hi
  | some z=>
   rw [hz] at hi;cases hi
   obtain ⟨z1,z2⟩:=zbu2 hz
   obtain ⟨q,hq1,hq2⟩:=hallq.get' z2
   have hi:=(List.getElem?_eq_some_iff.1 hq1).1
   have hqlen:Sl.len q=z.2.length:=hq2.1
   have hz8:(z.2.map fun p=>leB p 1).flatten.length=1*z.2.length:=zmy _ fun _=>zaf _ _
   have hlk:(lockB z).length=2+(z.2.map fun p=>leB p 1).flatten.length:=by
    simp only [lockB,List.length_append,zaf,List.flatMap_def]
    omega
   have hgq:∀h2,h0≤h2→∀ {K':Sl→Prop},K' q→((InB x.Queues.base x.Queues.len (i:Int))∧LdW none shSl h2 (sat x.Queues.base 1 (i:Int)) K'):=fun h2 hl2 {K'} hk=>by
    refine Rs.get (sh:=shSl) (Rw.mono hl2 hqs) (fun _=>rfl) (by omega) (by omega) (by omega) fun v hv=> ?_
    have hv:qs[i]?=some v:=hv
    rw [hq1] at hv;cases hv
    exact hk
   refine Rs.get (sh:=shInt .i64) (Rw.mono le' a.owners) (fun _=>rfl) (by omega) (by omega) (by omega) fun (w:Int) hw=> ?_
   have hw:p.owners[i]?=some w:=hw
   rw [z1] at hw;cases hw
   refine hgq h' le' ?_
   refine zca le' o' (leB (IntKind.wrap .i64 (z.1+1)) 1++leB (q.len:Int) 1) (by simp [leB,wrap8]) rfl (by simp only [List.length_append,zaf];omega) fun l7 h7 le7 o7 _=> ?_
   rw [zrs1 (by omega)] at o7
   refine loopA (n:=z.2.length) (by omega) (fun n l h'=>h0≤h'∧OwnB h0 h' l ((bs'++(leB (z.1+1) 1++leB (q.len:Int) 1))++((z.2.map fun p=>leB p 1).take n).flatten)) ⟨le7,by simpa using o7⟩ ?_
   rintro n hn l8 h8 ⟨le8,o8⟩ K2 hK2
   refine hgq h8 le8 ?_
   by_cases hlt:n<z.2.length
   ·rw [if_pos (decide_eq_true (by omega))]
    refine hgq h8 le8 ?_
    refine Rs.get (sh:=shInt .i64) (Rw.mono le8 hq2) (fun _=>rfl) (by omega) (by omega) (by omega) fun (v:Int) hv=> ?_
    have hv:z.2[n]?=some v:=hv
    have he:(z.2.map fun p=>leB p 1)[n]?=some (leB v 1):=by rw [List.getElem?_map,hv];rfl
    obtain ⟨s1,s2⟩:=zpp1 (bs:=bs'++(leB (z.1+1) 1++leB (q.len:Int) 1)) he
    simp only [List.length_append,zaf] at s2
    refine zca le8 o8 (leB v 1) zgz rfl (by simp only [List.length_append,zaf];omega) fun l9 h9 le9 o9 _=>hK2 hlt l9 h9 ⟨le9,?_⟩
    rw [←s1];exact o9
   ·rw [if_neg (fun e=>hlt (by have:=of_decide_eq_true e;omega))]
    rw [List.take_of_length_le (by rw [List.length_map];omega),hqlen] at o8
    refine hK l8 h8 le8 ?_
    simpa [lockB,List.append_assoc,List.flatMap_def] using o8
 ·refine hk l6 h6 le6 ?_
  rw [a.cursor,hel,←hxl,a.lost,a.forbidden] at o6
  simpa [partB,List.append_assoc,List.flatMap_def] using o6
end
end Lf

namespace Lf
open Go Go.Proofs
section
variable {h0 h:Hp} {l:Sl} {bs:List UInt8} {Q:Sl→Hp→Prop}
set_option maxRecDepth 20000 in
theorem zqc1 {x:S_api_Process} {p:PProcess} (hle:h0≤h) (o:OwnB h0 h l bs) (a:ProcessAt h0 x p) (hb:bs.length+(zie p).length≤2000000) (hk:∀l' h',h0≤h'→OwnB h0 h' l' (bs++zie p)→Q l' h'):zfj Tryz.prog l x Q h:=by
 unfold zfj
 obtain ⟨ls,hls,hall⟩:=a.lanes
 have hll:x.Lanes.len=ls.length:=hls.1
 have hll2:=hall.len
 have hr8:(p.regs.map fun v=>leB v 8).flatten.length=8*p.regs.length:=zmy _ fun _=>zaf _ _
 have hrl:p.regs.length=8:=by rw [←a.regs];rfl
 have hL:(zie p).length=21+(p.regs.map fun v=>leB v 8).flatten.length+(p.lanes.map laneB).flatten.length:=by
  simp only [zie,List.length_append,zaf,List.flatMap_def]
  omega
 have hbnd:p.lanes.length≤(p.lanes.map laneB).flatten.length:=by
  generalize p.lanes=z
  induction z with
  | nil=>simp
  | cons y z ih=>
   have:0<(laneB y).length:=by simp [laneB,zaf];omega
   simp only [List.map_cons,List.flatten_cons,List.length_append,List.length_cons]
   omega
 refine zca hle o (leB x.State 1) zgz rfl (by rw [zaf];omega) fun l1 h1 le1 o1 _=> ?_
 refine zah (zbk (k:=2) rfl (by omega) le1 o1 (by simp only [List.length_append,zaf];omega) fun l2 h2 le2 o2=> ?_)
 rw [zcm (by omega)] at o2
 refine zxx (n:=8) (es:=p.regs.map fun v=>leB v 8) rfl le2 o2 (by rw [List.length_map,hrl]) (by omega) (by simp only [List.length_append,zaf];omega) ?_ fun l3 h3 le3 o3=> ?_
 ·intro i e hi l' bs' h' le' o' hb' K hK
  have hi8:=(List.getElem?_eq_some_iff.1 hi).1
  rw [List.length_map,hrl] at hi8
  rw [List.getElem?_map] at hi
  cases hv:p.regs[i]? with
  | none=>rw [hv] at hi;cases hi
  | some v=>
   rw [hv] at hi;cases hi
   have hg:([x.Regs_0,x.Regs_1,x.Regs_2,x.Regs_3,x.Regs_4,x.Regs_5,x.Regs_6,x.Regs_7]:List Int)[i]?=some v:=by rw [a.regs];exact hv
   have hb':bs'.length+8≤2000000:=by simpa [zaf] using hb'
   refine ⟨⟨by omega,by omega⟩,v,?_,zah (zbk (k:=8) rfl (by omega) le' o' (by omega) fun l4 h4 le4 o4=>hK l4 h4 le4 ?_)⟩
   ·refine (zgr1 x (n:=i) (by omega)).trans ?_
    rw [List.getD_eq_getElem?_getD,hg];rfl
   ·rw [zcm (by omega)] at o4
    exact o4
 refine zca le3 o3 (leB x.Cursor 1) zgz rfl (by simp only [List.length_append,zaf];omega) fun l4 h4 le4 o4 _=> ?_
 refine zah (zbk (k:=8) rfl (by omega) le4 o4 (by simp only [List.length_append,zaf];omega) fun l5 h5 le5 o5=> ?_)
 rw [zcm (by omega)] at o5
 have hone:∀K:Int→Hp→Prop,K (zup x.Fired) h5→zjy Tryz.prog x.Fired K h5:=fun K hK=>by
  unfold zjy
  unfold zup at hK
  by_cases hf:x.Fired=true
  ·rw [if_pos hf] at hK ⊢;exact hK
  ·rw [if_neg hf] at hK ⊢;exact hK
 refine zwx (hone _ ?_)
 have h8:([Value.int .u8 (zup x.Fired)]:List Value)=(leB (zup x.Fired) 1).map fun b=>Value.int .u8 (b.toNat:Int):=by
  cases x.Fired<;>rfl
 refine zca le5 o5 (leB (zup x.Fired) 1) h8 rfl (by simp only [List.length_append,zaf];omega) fun l6 h6 le6 o6 _=> ?_
 refine zah (zbk (k:=8) rfl (by omega) le6 o6 (by simp only [List.length_append,zaf];omega) fun l7 h7 le7 o7=> ?_)
 rw [zcm (by omega)] at o7
 refine zxx (n:=ls.length) (es:=p.lanes.map laneB) (by omega) le7 o7 (by rw [List.length_map,hll2]) (by omega) (by simp only [List.length_append,zaf];omega) ?_ fun l8 h8 le8 o8=> ?_
 ·intro i e hi l' bs' h' le' o' hb' K hK
  rw [List.getElem?_map] at hi
  cases hv:p.lanes[i]? with
  | none=>rw [hv] at hi;cases hi
  | some v=>
   rw [hv] at hi;cases hi
   obtain ⟨L,hL1,hL2⟩:=hall.get' hv
   have hil:=(List.getElem?_eq_some_iff.1 hL1).1
   obtain ⟨ws,hws,hmap⟩:=hL2.waiters
   have hvl:L.Values.len=v.values.length:=hL2.values.1
   have hwl:L.Waiters.len=ws.length:=hws.1
   have hwl2:v.waiters.length=ws.length:=by rw [←hmap,List.length_map]
   have hl':(laneB v).length=6+(v.values.map fun v=>leB v 8).flatten.length+(v.waiters.map ziz).flatten.length:=by
    simp only [laneB,List.length_append,zaf,List.flatMap_def]
    omega
   have hv8:(v.values.map fun v=>leB v 8).flatten.length=8*v.values.length:=zmy _ fun _=>zaf _ _
   have hw9:(v.waiters.map ziz).flatten.length=9*v.waiters.length:=zmy _ fun _=>by simp [ziz,zaf]
   refine Rs.get (sh:=sh_api_Lane) (Rw.mono le' hls) (fun _=>rfl) (by omega) (by omega) (by omega) fun w hw=> ?_
   have hw:ls[i]?=some w:=hw
   rw [hL1] at hw;cases hw
   refine zca le' o' (leB (L.Values.len:Int) 1) zgz rfl (by rw [zaf];omega) fun m1 g1 q1 r1 _=> ?_
   refine zxx (n:=v.values.length) (es:=v.values.map fun v=>leB v 8) (by omega) q1 r1 (by simp) (by omega) (by simp only [List.length_append,zaf];omega) ?_ fun m2 g2 q2 r2=> ?_
   ·intro j e hj l' bs' h' le' o' hb' K hK
    rw [List.getElem?_map] at hj
    cases hv':v.values[j]? with
    | none=>rw [hv'] at hj;cases hj
    | some u=>
     rw [hv'] at hj;cases hj
     have hjl:=(List.getElem?_eq_some_iff.1 hv').1
     have hb':bs'.length+8≤2000000:=by simpa [zaf] using hb'
     refine Rs.get (sh:=shInt .i64) (Rw.mono le' hL2.values) (fun _=>rfl) (by omega) (by omega) (by omega) fun (x:Int) hx=> ?_
     have hx:v.values[j]?=some x:=hx
     rw [hv'] at hx;cases hx
     refine zah (zbk (k:=8) rfl (by omega) le' o' (by omega) fun l4 h4 le4 o4=>hK l4 h4 le4 ?_)
     rw [zcm (by omega)] at o4
     exact o4
   refine zca q2 r2 (leB (L.Waiters.len:Int) 1) zgz rfl (by simp only [List.length_append,zaf];omega) fun m3 g3 q3 r3 _=> ?_
   refine zxx (n:=ws.length) (es:=v.waiters.map ziz) (by omega) q3 r3 (by rw [List.length_map,hwl2]) (by omega) (by simp only [List.length_append,zaf];omega) ?_ fun m4 g4 q4 r4=> ?_
   ·intro j e hj l' bs' h' le' o' hb' K hK
    rw [←hmap,List.map_map,List.getElem?_map] at hj
    cases hv':ws[j]? with
    | none=>rw [hv'] at hj;cases hj
    | some u=>
     rw [hv'] at hj;cases hj
     have hjl:=(List.getElem?_eq_some_iff.1 hv').1
     have hb':bs'.length+9≤2000000:=by simpa [ziz,zaf] using hb'
     refine Rw.fld (Rw.mono le' hws) (fun _=>rfl) (by omega) (sh:=shInt .i64) (fun q=>q.Proc) (fun _=>rfl) (by omega) (by omega) fun w hw=> ?_
     have hw:ws[j]?=some w:=hw
     rw [hv'] at hw;cases hw
     refine zca le' o' (leB u.Proc 1) zgz rfl (by rw [zaf];omega) fun n1 e1 s1 t1 _=> ?_
     refine Rw.fld (Rw.mono s1 hws) (fun _=>rfl) (by omega) (sh:=shInt .i64) (fun q=>q.Value_) (fun _=>rfl) (by omega) (by omega) fun w hw=> ?_
     have hw:ws[j]?=some w:=hw
     rw [hv'] at hw;cases hw
     refine zah (zbk (k:=8) rfl (by omega) s1 t1 (by simp only [List.length_append,zaf];omega) fun l4 h4 le4 o4=>hK l4 h4 le4 ?_)
     rw [zcm (by omega)] at o4
     simpa [ziz,zcn,List.append_assoc] using o4
   refine zah (zbk (k:=2) rfl (by omega) q4 r4 (by simp only [List.length_append,zaf];omega) fun m5 g5 q5 r5=> ?_)
   rw [zcm (by omega)] at r5
   refine zah (zbk (k:=2) rfl (by omega) q5 r5 (by simp only [List.length_append,zaf];omega) fun m6 g6 q6 r6=>hK m6 g6 q6 ?_)
   rw [zcm (by omega)] at r6
   rw [hvl,hwl,←hwl2,hL2.taken,hL2.dropped] at r6
   simpa [laneB,List.append_assoc,List.flatMap_def] using r6
 ·refine hk l8 h8 le8 ?_
  rw [a.state,a.pc,a.cursor,a.timer,a.wake,a.fired] at o8
  simpa [zie,List.append_assoc,List.flatMap_def] using o8
set_option maxRecDepth 20000 in
theorem zni1 {x:S_api_Config} {y:S_api_State} {c:PCfg} {s:PState} {Q:Sl→Int→Hp→Prop} (cx:CfgAt h x c) (sy:StateAt h y s) (hu:∀l∈c.labels,InU l) (hS:StLe s)
  (hlen:(cfgE c).1=0→MayP c s→(snapB c s).length≤1048576) (he:∀e h',h≤h'→e≠0→MayIs c s e→Q ⟨none,0,0⟩ e h')
  (h1:(cfgE c).1=0→MayP c s→∀out h',h≤h'→OwnB h h' out (snapB c s)→Q out 0 h'):zgf Tryz.prog x y Q h:=by
 unfold zgf
 refine zmm (zsg1 cx sy hu hS fun e k1 le1 hm=> ?_)
 by_cases he0:e≠0
 ·rw [if_pos (by simpa using he0)]
  exact he e k1 le1 he0 hm
 rw [if_neg (by simpa using he0)]
 have he0:=Classical.not_not.1 he0
 subst he0
 obtain ⟨hc,hM⟩:(cfgE c).1=0∧MayP c s:=by
  rcases hm with ⟨h1,h2⟩ | ⟨h1,⟨_,h2⟩ | ⟨h2,_⟩⟩
  ·exact absurd h2.symm h1
  ·exact ⟨h1,h2⟩
  ·cases h2
 have hlen:=hlen hc hM
 have a1:=cx.mono le1
 have b1:=sy.mono le1
 have hL:(snapB c s).length=17+(cfgB c).length+(s.parts.map partB).flatten.length+(s.procs.map zie).flatten.length:=by
  simp only [snapB,List.length_append,zaf,List.flatMap_def,List.length_cons,List.length_nil]
  omega
 refine zrz (zsn1 a1 (fun _=>by omega) (fun hn=>absurd hc hn) fun _ out k2 le2 o2=> ?_)
 have b2:=b1.mono le2
 obtain ⟨qs,hqs,hallq⟩:=b2.procs
 obtain ⟨pa,has,halla⟩:=b2.parts
 have e2:=hallq.len
 have e3:=halla.len
 have e4:y.Procs.len=qs.length:=hqs.1
 have e5:y.Parts.len=pa.length:=has.1
 have hR:=o2.rw zcb
 have hol:out.len=(cfgB c).length:=hR.1
 have f1:=hS.parts
 have f2:=hS.procs
 have hMM:=hM
 obtain ⟨-,hPa, -⟩:=hM
 refine zaq1 (h0:=k2) (xs:=([70,66,83,78,1]:List UInt8)) (enc:=eB) (sz:=1) (Hp.le_refl k2) (by simp [eB]) zcb fun a3 k3 le3 o3=> ?_
 refine zah (b:=⟨some a3,5,5⟩) (zbk (k:=4) rfl (by omega) le3 o3 (by simp) fun b4 k4 le4 o4=> ?_)
 rw [zcm (by omega)] at o4
 refine zko1 (x:=⟨out.base,out.len,out.cap⟩) le4 o4 (Rw.mono le4 hR) zcb eB_ok rfl (by simp only [List.length_append,zaf,List.length_cons,List.length_nil];omega) fun b5 k5 le5 o5 _=> ?_
 refine zah (zbk (k:=8) rfl (by omega) le5 o5 (by simp only [List.length_append,zaf,List.length_cons,List.length_nil];omega) fun b6 k6 le6 o6=> ?_)
 rw [zcm (by omega)] at o6
 refine zxx (n:=pa.length) (es:=s.parts.map partB) (by omega) le6 o6 (by rw [List.length_map,e3]) (by omega) (by simp only [List.length_append,zaf,List.length_cons,List.length_nil];omega) ?_ fun b7 k7 le7 o7=> ?_
 ·intro i e hi l' bs' h' le' o' hb' K hK
  rw [List.getElem?_map] at hi
  cases hv:s.parts[i]? with
  | none=>rw [hv] at hi;cases hi
  | some v=>
   rw [hv] at hi;cases hi
   obtain ⟨q,hq1,hq2⟩:=halla.get' hv
   have hil:=(List.getElem?_eq_some_iff.1 hq1).1
   refine Rs.get (sh:=sh_api_Part) (Rw.mono le' has) (fun _=>rfl) (by omega) (by omega) (by omega) fun w hw=> ?_
   have hw:pa[i]?=some w:=hw
   rw [hq1] at hw;cases hw
   have hp:=hPa i v hv
   exact zul (zqb1 le' o' hq2 (by have:=hp.2.2.2.2.2.1;have:=hp.2.2.2.2.2.2.1;omega) hb' hK)
 refine zxx (n:=qs.length) (es:=s.procs.map zie) (by omega) le7 o7 (by rw [List.length_map,e2]) (by omega) (by simp only [List.length_append,zaf,List.length_cons,List.length_nil];omega) ?_ fun b8 k8 le8 o8=> ?_
 ·intro i e hi l' bs' h' le' o' hb' K hK
  rw [List.getElem?_map] at hi
  cases hv:s.procs[i]? with
  | none=>rw [hv] at hi;cases hi
  | some v=>
   rw [hv] at hi;cases hi
   obtain ⟨q,hq1,hq2⟩:=hallq.get' hv
   have hil:=(List.getElem?_eq_some_iff.1 hq1).1
   refine Rs.get (sh:=sh_api_Process) (Rw.mono le' hqs) (fun _=>rfl) (by omega) (by omega) (by omega) fun w hw=> ?_
   have hw:qs[i]?=some w:=hw
   rw [hq1] at hw;cases hw
   exact zrp (zqc1 le' o' hq2 hb' hK)
 refine h1 hc hMM b8 k8 (Hp.le_trans le1 (Hp.le_trans le2 le8)) ?_
 rw [hol,b2.tick] at o8
 have:=zkw1 (Hp.le_trans le1 le2) o8
 simpa [snapB,List.append_assoc,List.flatMap_def] using this
end
end Lf

namespace Lf
open Go Go.Proofs
end Lf

namespace Lf
open Go Go.Proofs
def zdf2 (s r2:S_api_State) (r3 r5 r7:Sl) (r4 r8:Int) (b:Sl) (Q:Bool→Hp→Prop) (h6:Hp):Prop:=
 EffC (some (!(r4 !=r8))) (CallT Tryz.prog zbq [r2.v,s.v] zag) (fun r9 h7=>
 LetW ((r4 !=r8) || (!r9)) fun y=>
 (if y=true then
 Q false h7
 else
 Call0 Tryz.prog zce [r2.v,(.int .i64 (99:Int))] (fun h8=>
 SemV none Tryz.prog (convert 33 9 r3.v) shStr h8 fun x=>
 SemV none Tryz.prog (convert 33 9 r7.v) shStr h8 fun x1=>
 SemV (some (!(!((ByteArray.toList x)==(ByteArray.toList x1))))) Tryz.prog (convert 33 9 r5.v) shStr h8 fun x2=>
 SemV (some (!(!((ByteArray.toList x)==(ByteArray.toList x1))))) Tryz.prog (convert 33 9 r7.v) shStr h8 fun x3=>
 LetW ((!((ByteArray.toList x)==(ByteArray.toList x1))) || (!((ByteArray.toList x2)==(ByteArray.toList x3)))) fun y1=>
 (if y1=true then
 Q false h8
 else
 LoopW1 (α1:=Int) (fun again t81 h9=>
 (if (decide (t81<((r3.len:Nat):Int)))=true then
 ((InB r3.base r3.len t81)∧StW h9 (sat r3.base 1 t81) [(.int .u8 (7:Int))] (fun h10=>
 again (IntKind.wrap .i64 (t81+(1:Int))) h10))
 else
 LoopW2 (α1:=Sl) (α2:=Int) (fun again1 x4 t88 h10=>
 (if (decide (t88<(40:Int)))=true then
 NewW [(.int .u8 (8:Int))] (fun a h11=>
 zaj 1 1 [(.int .u8 (0:Int))] ⟨x4.base,x4.len,x4.cap⟩ ⟨(some a),1,1⟩ (fun r10 h12=>
 again1 r10 (IntKind.wrap .i64 (t88+(1:Int))) h12) h11) h10
 else
 SemV none Tryz.prog (convert 33 9 r5.v) shStr h10 fun x5=>
 SemV none Tryz.prog (convert 33 9 r7.v) shStr h10 fun x6=>
 LetW ((!((ByteArray.toList x5)==(ByteArray.toList x6))) || (((x4.len:Nat):Int) !=(IntKind.wrap .i64 (((r7.len:Nat):Int)+(40:Int))))) fun y2=>
 (if y2=true then
 Q false h10
 else
 zxj1 b Q h10))) ⟨r3.base,r3.len,r3.cap⟩ (0:Int) h9)) (0:Int) h8)) h7)) h6
set_option maxRecDepth 20000 in
theorem zdg2 {y mine:S_api_State} {r3 r5 r7 b:Sl} {e:Int} {Q:Bool→Hp→Prop} {h0 h6:Hp} {s:PState} {X:List UInt8} {Bm Fx Fy Fw:List Nat} (l0:h0≤h6) (sy:StateAt h6 y s) (om:StateO mine s h6 Bm) (ndm:Bm.Nodup) (few:FewS s) (ls:StLe s)
  (ox:OwnF h6 1 eB r3 X Fx) (oy:OwnF h6 1 eB r5 X Fy) (ow:OwnF h6 1 eB r7 X Fw) (hX:X.length≤1048576) (dx:∀b∈Fx,b∉Bm) (dy:∀b∈Fy,b∉Bm∧b∉Fx) (dw:∀b∈Fw,b∉Bm∧b∉Fx) (fm:∀b∈Bm,h0 b=none) (fx:∀b∈Fx,h0 b=none)
  (hK:∀h',h0≤h'→zxj1 b Q h'):zdf2 y mine r3 r5 r7 e e b Q h6:=by
 unfold zdf2
 have hu33:=tb_ok.und 33 ty33 rfl
 have hu5:=tb_ok.und 5 ty5 rfl
 have hu9:=tb_ok.und 9 ty9 rfl
 refine ⟨fun _=>zcj (zav1 om.rd sy ls (letW ?_)),fun h=>(by simp at h)⟩
 rw [if_neg (by simp)]
 refine zkr (zxi1 om ndm few fun h8 f8=> ?_)
 have px:=ox.same (f8.same ox.known dx)
 have py:=oy.same (f8.same oy.known fun b hb=>(dy b hb).1)
 have pw:=ow.same (f8.same ow.known fun b hb=>(dw b hb).1)
 have l8:=f8.le0 l0 fm
 refine ⟨_,zlo hu33 hu5 hu9 (px.rw zcb),_,zlo hu33 hu5 hu9 (pw.rw zcb),_,fun _=>zlo hu33 hu5 hu9 (py.rw zcb),_,fun _=>zlo hu33 hu5 hu9 (pw.rw zcb),letW ?_⟩
 rw [if_neg (by simp)]
 have hxl:r3.len=X.length:=ox.1
 refine LoopW1.intro (fun i h=>∃(i':Nat) (xs:List UInt8),i=(i':Int)∧i'≤X.length∧xs.length=X.length∧OwnF h 1 eB r3 xs Fx∧Mv Fx h8 Fx h) (fun i _=>((X.length:Int)-i).toNat) ⟨0,X,rfl,by omega,rfl,px,Mv.refl _ _⟩ ?_
 rintro i h9 ⟨i',xs,rfl,hi,hxs,o9,m9⟩
 by_cases hlt:i'<X.length
 ·have hlt':(i':Int)<((r3.len:Nat):Int):=by omega
  rw [if_pos (decide_eq_true hlt')]
  refine OwnF.store o9 zcb (by omega) (by omega) (7:UInt8) fun h10 o10 m10=> ?_
  rw [zal (by omega) (by omega)]
  exact ⟨⟨i'+1,_,by push_cast;rfl,by omega,by simp [hxs],o10,m9.trans m10⟩,by omega⟩
 have hlt':¬(i':Int)<((r3.len:Nat):Int):=by omega
 rw [if_neg (fun e=>hlt' (of_decide_eq_true e))]
 refine LoopW2.intro (fun x4 i h=>∃(i':Nat) (xs:List UInt8) (F':List Nat),i=(i':Int)∧i'≤40∧xs.length=X.length+i'∧OwnF h 1 eB x4 xs F'∧Mv Fx h8 F' h) (fun _ i _=>((40:Int)-i).toNat) ⟨0,xs,Fx,rfl,by omega,hxs,o9,m9⟩ ?_
 rintro x4 i h10 ⟨i2,xs2,F2,rfl,hi2,hx2,o10,m10⟩
 by_cases hlt2:i2<40
 ·have hlt2':(i2:Int)<40:=by omega
  rw [if_pos (decide_eq_true hlt2')]
  refine newF (xs:=[(8:UInt8)]) (enc:=eB) (sz:=1) rfl zcb fun b11 h11 _ l11 _ w11=> ?_
  have o11:=o10.same (zbb l11 o10.known)
  refine appF o11 (w11.rw zcb) zcb (fun _=>rfl) rfl (by simp;omega) fun r10 h12 F3 o12 m12=> ?_
  rw [zal (by omega) (by omega)]
  exact ⟨⟨i2+1,_,F3,by push_cast;rfl,by omega,by simp [hx2];omega,o12,(m10.trans (Mv.of_le F2 l11)).trans m12⟩,by omega⟩
 have hlt2':¬(i2:Int)<40:=by omega
 rw [if_neg (fun e=>hlt2' (of_decide_eq_true e))]
 have f10:Fr Fx h8 h10:=fun b o e hn=>m10.keep b o e hn
 have qy:=py.same (f10.same py.known fun b hb=>(dy b hb).2)
 have qw:=pw.same (f10.same pw.known fun b hb=>(dw b hb).2)
 have hwl:r7.len=X.length:=ow.1
 have hx4:x4.len=xs2.length:=o10.1
 refine ⟨_,zlo hu33 hu5 hu9 (qy.rw zcb),_,zlo hu33 hu5 hu9 (qw.rw zcb),letW ?_⟩
 have hne:((x4.len:Nat):Int)=IntKind.wrap .i64 (((r7.len:Nat):Int)+40):=by
  rw [zal (by omega) (by omega)]
  omega
 rw [if_neg (by simp [hne])]
 exact hK h10 (f10.le0 l8 fx)
theorem zvd1 {h:Hp}:OwnF h 1 eB ⟨none,0,0⟩ [] []:=⟨rfl,Nat.le_refl _,.inl ⟨rfl,rfl,rfl⟩⟩
set_option maxRecDepth 20000 in
theorem snapKeeps_ok {h:Hp} {x:S_api_Config} {y:S_api_State} {b:Sl} {c:PCfg} {s:PState} {bs:List UInt8} {Q:Bool→Hp→Prop} (cx:CfgAt h x c) (tc:Typed c) (lc:CfgLe c) (sy:StateAt h y s) (ts:zwo1 s) (ls:StLe s)
  (hB:Bs h b bs) (hcap:b.len≤b.cap) (hq:∀h',h≤h'→Q true h'):zei Tryz.prog x y b Q h:=by
 unfold zei
 refine ztj (zyv1 fun h1 l1=> ?_)
 rw [if_neg (by simp)]
 refine zuj (zza1 (cx.mono l1) lc (sy.mono l1) ls fun r1 hfew=> ?_)
 cases r1 with
 | true=>
  rw [if_pos rfl]
  exact hq h1 l1
 | false=>
 rw [if_neg (by simp)]
 have few:=hfew rfl
 refine zpf (zsl1 (sy.mono l1) few fun mine h3 om=> ?_)
 have l13:=om.up
 have l3:=Hp.le_trans l1 l13
 obtain ⟨Bm,rm,ndm,mm⟩:=om
 have fm:∀b∈Bm,h1 b=none:=fun b hb=>(mm.from_ b hb).resolve_left (fun h=>by cases h)
 have km:=okState.known rm
 have hshort:(cfgE c).1=0→MayP c s→(snapB c s).length≤1048576:=fun h0 hM=>Nat.le_of_lt (zyx1 tc ts h0 hM)
 have fin:∀(h4 h5 h6:Hp) (e:Int) (r3 r5 r7:Sl) (X:List UInt8) (Fx Fy Fw:List Nat),h3≤h4→h4≤h5→h5≤h6→OwnF h4 1 eB r3 X Fx→(∀b∈Fx,h3 b=none)→OwnF h5 1 eB r5 X Fy→(∀b∈Fy,h4 b=none)→OwnF h6 1 eB r7 X Fw→(∀b∈Fw,h5 b=none)→X.length≤1048576→
   zdf2 y mine r3 r5 r7 e e b Q h6:=fun h4 h5 h6 e r3 r5 r7 X Fx Fy Fw l4 l5 l6 ox fx oy fy ow fw hX=>by
  have l46:=Hp.le_trans l5 l6
  have rm6:=okState.same rm (zbb (Hp.le_trans l4 l46) km)
  have km4:∀b∈Bm,h4 b≠none:=fun b hb=>by rw [zbb l4 km b hb];exact km b hb
  have km5:∀b∈Bm,h5 b≠none:=fun b hb=>by rw [zbb l5 km4 b hb];exact km4 b hb
  have ox5:=ox.same (zbb l5 ox.known)
  have ox6:=ox5.same (zbb l6 ox5.known)
  have oy6:=oy.same (zbb l6 oy.known)
  refine zdg2 (h0:=h) (Hp.le_trans l3 (Hp.le_trans l4 l46)) (sy.mono (Hp.le_trans l3 (Hp.le_trans l4 l46))) rm6 ndm few ls ox6 oy6 ow hX (fun b hb hm=>km b hm (fx b hb)) (fun b hb=>⟨fun hm=>km4 b hm (fy b hb),fun hx=>ox.known b hx (fy b hb)⟩) (fun b hb=>⟨fun hm=>km5 b hm (fw b hb),fun hx=>ox5.known b hx (fw b hb)⟩)
   (fun b hb=>zbc l1 (fm b hb)) (fun b hb=>zbc l3 (fx b hb)) fun h' l'=>zdd2 (Rw.mono l' hB) hcap fun h'' l''=>hq h'' (Hp.le_trans l' l'')
 refine zkw (zqq (cx.mono l3) rm.rd (zhb1 tc) (zcn2 ls) hshort (fun e h4 l4 he hm=> ?_) fun h01 h02 out h4 l4 oo=> ?_)
 ·have l04:=Hp.le_trans l3 l4
  refine zkw (zqq (cx.mono l04) (rm.rd.mono l4) (zhb1 tc) (zcn2 ls) hshort (fun e' h5 l5 he' hm'=> ?_) fun h01 h02=> ?_)
  ·have l05:=Hp.le_trans l04 l5
   have:=hm.uniq hm'
   subst this
   refine zjh (zni1 (cx.mono l05) (sy.mono l05) (zhb1 tc) ls hshort (fun e'' h6 l6 he'' hm''=> ?_) fun h01 h02=> ?_)
   ·have:=hm.uniq hm''
    subst this
    exact fin h4 h5 h6 e _ _ _ [] [] [] [] l4 l5 l6 zvd1 (fun b hb=>by cases hb) zvd1 (fun b hb=>by cases hb) zvd1 (fun b hb=>by cases hb) (by decide)
   ·exact absurd (hm.uniq (.inr ⟨h01,.inl ⟨rfl,h02⟩⟩)) he
  ·exact absurd (hm.uniq (.inr ⟨h01,.inl ⟨rfl,h02⟩⟩)) he
 ·have l04:=Hp.le_trans l3 l4
  refine zkw (zqq (cx.mono l04) (rm.rd.mono l4) (zhb1 tc) (zcn2 ls) hshort (fun e' h5 l5 he' hm'=> ?_) fun _ _ out2 h5 l5 oo2=> ?_)
  ·exact absurd (hm'.uniq (.inr ⟨h01,.inl ⟨rfl,h02⟩⟩)) he'
  have l05:=Hp.le_trans l04 l5
  refine zjh (zni1 (cx.mono l05) (sy.mono l05) (zhb1 tc) ls hshort (fun e'' h6 l6 he'' hm''=> ?_) fun _ _ out3 h6 l6 oo3=> ?_)
  ·exact absurd (hm''.uniq (.inr ⟨h01,.inl ⟨rfl,h02⟩⟩)) he''
  obtain ⟨F1,w1,g1⟩:=oo.ownF
  obtain ⟨F2,w2,g2⟩:=oo2.ownF
  obtain ⟨F3,w3,g3⟩:=oo3.ownF
  exact fin h4 h5 h6 0 out out2 out3 (snapB c s) F1 F2 F3 l4 l5 l6 w1 g1 w2 g2 w3 g3 (hshort h01 h02)
end Lf

