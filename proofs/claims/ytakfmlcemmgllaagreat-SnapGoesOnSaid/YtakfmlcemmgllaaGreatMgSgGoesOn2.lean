/-
  Part 3 of the texts that the claim leans on.
-/
import Derived.Test.YtakfmlcemmgllaaGreatRows
import Derived.Laws.Externs
import Derived.Test.YtakfmlcemmgllaaGreatMgSgGoesOn1
set_option maxRecDepth 100000
set_option linter.unusedVariables false
namespace Lf
open Go
abbrev yI(x:Int):Value:=.int .i64 x
abbrev yP(x:Option Addr):Value:=.pointer x
abbrev yN:Value:=.slice none 0 0
abbrev yH:Shape:=af .i64
abbrev fy(h:Hp)(p:Addr)(n:Nat)(K:Int->Prop):Prop:=aN none (af .i64) h (Addr.add p n) K
abbrev dI(h:Hp)(p:Addr)(n:Nat)(K:Sl->Prop):Prop:=aN none aw h (Addr.add p n) K
abbrev ot(h:Hp)(p:Addr)(n:Nat)(K:Option Addr->Prop):Prop:=aN none al h (Addr.add p n) K
def Up (P:Program) (c:an) (e:Sl) (more:Sl) (Q:(Bool->(Hp->Prop))) (h:Hp):Prop:=
 ae P zpp [] bH (λr n=>(if (!r)=true then
 Q false n
 else
 bt P zyf [c.v] al yH (λa r2 q=>aF ((r2 !=0) || (Option.isNone a)) λy=>(if y then
 bt P X0 [c.v] yH yH (λd l b=>aF ((r2==d)&&(Option.isNone a)) λm=>Q m b) q
 else
 aB (α1:=Int) (λu i b=>aF ((decide (i<(e.len:Int)))&&(decide (i<300))) λm=>(if m then
 ((bI e.base e.len i)/\aN none dB b (sat e.base 3 i) λx=>bt P Mc [(yP a),x.v] yH yH (λd l g=>u (yw (i+1)) g) b)
 else
 ae P zno [(yP a)] aA (λd g=>ae P QQ [(yP a)] ov (λl C=>bt P Rr [d.v,l.v] aw yH (λM N D=>lJ P Ob [M.v] aA ov yH yH (λO R S Y s=>aF ((N !=0) || (S !=0)) λU=>(if U then
 Q false s
 else
 bt P zyg [O.v,R.v] al yH (λk E t=>aF ((Option.isNone k) || (E !=0)) λV=>(if V then
 Q false t
 else
 aB (α1:=Int) (λw i1 j=>aF ((decide (i1<(more.len:Int)))&&(decide (i1<100))) λW=>(if W then
 ((bI more.base more.len i1)/\aN none dB j (sat more.base 3 i1) λx=>bt P Mc [(yP a),x.v] yH yH (λF G o=>((bI more.base more.len i1)/\aN none dB o (sat more.base 3 i1) λT=>bt P Mc [(yP k),T.v] yH yH (λH I z=>aF ((F !=H) || (G !=I)) λf=>dm (some (!f)) (ae P QQ [(yP a)] ov) (λJ A=>dm (some (!f)) (ae P QQ [(yP k)] ov) (λK B=>dm (some (!f)) (ae P Xg [J.v,K.v] bH) (λL p=>aF (f || (!L)) λX=>(if X then
 Q false p
 else
 w (yw (i1+1)) p)) B) A) z) o)) j)
 else
 Q true j)) 0 t)) s)) D) C) g) b)) 0 q)) n)) h
def zyp (P:Program) (c:an) (Q:(Option Addr->(Int->(Hp->Prop)))) (h:Hp):Prop:=
 bt P Qf [c.v] yH yH (λr f a=>(if (r !=0)=true then
 Q none r a
 else
 ae P Lh [c.v] ov (λr2 b=>((True/\True)/\ae P zvq [c.v,r2.v] al (λe d=>Q e 0 d) b)) a)) h
def Xo (P:Program) (a:aH) (b:aH) (Q:(Bool->(Hp->Prop))) (h:Hp):Prop:=
 aF ((a.eZ !=b.eZ) || ((a.cS.len:Int) !=(b.cS.len:Int))) λy=>aF (y || ((a.aD.len:Int) !=(b.aD.len:Int))) λk=>(if k then
 Q false h
 else
 aB (α1:=Int) (λg i d=>(if decide (i<(a.cS.len:Int)) then
 ((bI a.cS.base a.cS.len i)/\aN none bx d (sat a.cS.base 6 i) λx=>((bI b.cS.base b.cS.len i)/\aN none bx d (sat b.cS.base 6 i) λe=>ae P zmf [x.v,e.v] bH (λr c=>(if (!r)=true then
 Q false c
 else
 g (yw (i+1)) c)) d))
 else
 aB (α1:=Int) (λj i1 c=>(if decide (i1<(a.aD.len:Int)) then
 ((bI a.aD.base a.aD.len i1)/\aN none aI c (sat a.aD.base 15 i1) λx=>((bI b.aD.base b.aD.len i1)/\aN none aI c (sat b.aD.base 15 i1) λe=>ae P zjg [x.v,e.v] bH (λr f=>(if (!r)=true then
 Q false f
 else
 j (yw (i1+1)) f)) c))
 else
 Q true c)) 0 d)) 0 h)
def LP (P:Program) (m:Option Addr) (Q:(aH->(Hp->Prop))) (h:Hp):Prop:=
 ah none m λp=>fy h p 9 λx=>ah none m λU=>dI h U 10 λC=>bL (α1:=Int) (α2:=aH) (λO B s n=>(if decide (B<(C.len:Int)) then
 ((bI C.base C.len B)/\aN none al n (sat C.base 1 B) λd=>ah none d λF=>ot n F 5 λe=>bt P Q0 [(yP e)] aw aw (λr G b=>ah none d λz=>fy b z 1 λE=>ah none d λA=>dI b A 2 λj=>ah none d λt=>fy b t 3 λk=>ah none d λu=>fy b u 4 λw=>ae P Ls [j.v] aw (λr2 c=>((True/\((aZ c (Addr.add z 1) [(yI E)])/\((aZ c (Addr.add t 3) [(yI k)])/\((aZ c (Addr.add u 4) [(yI w)])/\True))))/\bc [(yI E),r2.v,(yI k),(yI w),r.v,G.v] (λa g=>((True/\True)/\eC 6 96 [(yI 0),yN,(yI 0),(yI 0),yN,yN] ⟨s.cS.base,s.cS.len,s.cS.cap⟩ ⟨(some a),1,1⟩ (λH i=>O (yw (B+1)) ⟨s.eZ,H,s.aD⟩ i) g)) c)) b) n)
 else
 ah none m λF=>dI n F 11 λd=>bL (α1:=Int) (α2:=aH) (λR l s1 b=>(if decide (l<(d.len:Int)) then
 ((bI d.base d.len l)/\aN none al b (sat d.base 1 l) λe=>ah none e λz=>ot b z 14 λE=>bt P Rd [(yP E)] aw yH (λr G c=>ah none m λA=>dI c A 10 λj=>ah none e λt=>fy c t 1 λk=>((bI j.base j.len k)/\aN none al c (sat j.base 1 k) λw=>ah none w λu=>ot c u 6 λN=>ae P Ae [(yI l)] yH (λr2 g=>(((aZ g (Addr.add A 10) [j.v])/\((aZ g (Addr.add t 1) [(yI k)])/\((aZ g (sat j.base 1 k) [(yP w)])/\((aZ g (Addr.add u 6) [(yP N)])/\True))))/\bt P Hu [(yP N),(yI r2)] yH bH (λH r4 i=>ah none m λI=>dI i I 10 λy=>ah none e λJ=>fy i J 1 λD=>((bI y.base y.len D)/\aN none al i (sat y.base 1 D) λL=>ah none L λK=>ot i K 6 λM=>ae P Bb [(yI l)] yH (λZ o=>(((aZ o (Addr.add I 10) [y.v])/\((aZ o (Addr.add J 1) [(yI D)])/\((aZ o (sat y.base 1 D) [(yP L)])/\((aZ o (Addr.add K 6) [(yP M)])/\True))))/\bt P Hu [(yP M),(yI Z)] yH bH (λr6 r7 q=>ah none e λV=>fy q V 3 λa8=>ah none e λW=>aN none yH q (Addr.add (Addr.add W 4) 0) λa9=>ah none e λX=>aN none Af q (Addr.add (Addr.add X 4) 1) λf=>ah none e λY=>aN none bH q (Addr.add Y 13) λb0=>bc [(yI a8),(yI a9),(yI f.a0),(yI f.a1),(yI f.a2),(yI f.a3),(yI f.a4),(yI f.a5),(yI f.a6),(yI f.a7),(yI G),(yI H),(.bool b0),(yI r6),r.v] (λa S=>((True/\True)/\eC 15 136 [(yI 0),(yI 0),(yI 0),(yI 0),(yI 0),(yI 0),(yI 0),(yI 0),(yI 0),(yI 0),(yI 0),(yI 0),(.bool false),(yI 0),yN] ⟨s1.aD.base,s1.aD.len,s1.aD.cap⟩ ⟨(some a),1,1⟩ (λr8 T=>R (yw (l+1)) ⟨s1.eZ,s1.cS,r8⟩ T) S)) q) o)) i)) g)) c)) b)
 else
 Q s1 b)) 0 s n)) 0 ⟨x,⟨none,0,0⟩,⟨none,0,0⟩⟩ h
def LS (P:Program) (m:Option Addr) (Q:(Int->(Hp->Prop))) (h:Hp):Prop:=
 ah none m λp=>ot h p 8 λx=>ah none m λC=>fy h C 9 λL=>ae P ztn [(yP x),(yI L)] yH (λr f=>ah none m λF=>dI f F 10 λj=>((bI j.base j.len r)/\aN none al f (sat j.base 1 r) λb=>aM P Xi [(yP m),(yP b)] (λs=>ah none m λG=>aN none yH s (Addr.add (Addr.add G 0) 2) λN=>da (λk=>aB (α1:=Int) (λy t c=>(if decide (t<N) then
 ah none b λg=>dI c g 0 λl=>aB (α1:=Int) (λz d a=>(if decide (d<(l.len:Int)) then
 ah none b λi=>fy a i 1 λn=>ah none b λH=>dI a H 0 λe=>((e.len:Int)≠0/\ah none m λI=>dI a I 11 λo=>ah none b λJ=>dI a J 0 λq=>((bI q.base q.len (Int.tmod (yw (n+d)) (e.len:Int)))/\aN none yH a (sat q.base 1 (Int.tmod (yw (n+d)) (e.len:Int))) λu=>((bI o.base o.len u)/\aN none al a (sat o.base 1 u) λv=>ah none v λK=>fy a K 3 λM=>(if (M==0)=true then
 ah none b λD=>dI a D 0 λw=>((w.len:Int)≠0/\ah none b λE=>cX a (Addr.add E 1) [(yI (Int.tmod (yw ((Int.tmod (yw (n+d)) (e.len:Int))+1)) (w.len:Int)))] (λA=>aM P We [(yP m),(yP v)] (λB=>y (yw (t+1)) B) A))
 else
 z (yw (d+1)) a))))
 else
 k a)) 0 c
 else
 k c)) 0 s)
 (λc=>ah none m λg=>fy c g 9 λl=>ah none m λi=>cX c (Addr.add i 9) [(yI (yw (l+1)))] (λa=>Q r a))) f)) h
def Wo (P:Program)  (Q:(Bool->(Hp->Prop))) (h:Hp):Prop:=
 bt P Wf [] aA ov (λr b e=>bt P Rr [r.v,b.v] aw yH (λr2 s f=>lJ P Ob [r2.v] aA ov yH yH (λt u w x g=>bc [(.int .u8 70),(.int .u8 66),(.int .u8 83),(.int .u8 78),(.int .u8 2)] (λa i=>qX (some a) (λE j=>lJ P Ob [(.slice (some a) 5 5)] aA ov yH yH (λF D n o k=>aF ((s==0)&&((r2.len:Int)==147)) λy=>aF (y&&(w==0)) λz=>aF (z&&(x==0)) λc=>dm (some c) (ae P zrg [r.v,t.v] bH) (λp l=>aF (c&&p) λd=>dm (some d) (ae P Xg [b.v,u.v] bH) (λq m=>aF (d&&q) λA=>aF (A&&(n==4)) λB=>aF (B&&(o==4)) λC=>Q C m) l) k) j) i) g) f) e) h
def Yg (P:Program) (c:an) (Q:(Int->(Int->(Hp->Prop)))) (h:Hp):Prop:=
 bt P X2 [c.aQ.v] yH yH (λr z e=>(if (r !=0)=true then
 Q r 0 e
 else
 ae P zod [c.Table.v,(yI (c.aQ.len:Int))] yH (λr2 g=>(if (r2 !=0)=true then
 Q r2 1 g
 else
 ae P DX [(yI c.Fuel),(yI 1),(yI 256)] bH (λq m=>((True/\(True/\(True/\True)))/\ae P DX [(yI c.fD),(yI 1),(yI 64)] bH (λs n=>((True/\(True/\True))/\ae P DX [(yI c.bE),(yI 0),(yI 8)] bH (λt o=>((True/\True)/\ae P DX [(yI c.Log),(yI 0),(yI 4096)] bH (λu p=>aB (α1:=Int) (λk i a=>(if decide (i<4) then
 ((0<=i/\i<4)/\∃x:Bool,((List.get?Internal (α:=Value) [(.bool q),(.bool s),(.bool t),(.bool u)] (0+((Int.toNat i)*1)))=(some (.bool x))/\(if (!x)=true then
 Q 2 (yw (2+i)) a
 else
 k (yw (i+1)) a)))
 else
 (if ((c.aD.len:Int)==0)=true then
 Q 1 6 a
 else
 (if decide ((c.aD.len:Int)>32) then
 Q 3 6 a
 else
 aB (α1:=Int) (λl i1 b=>(if decide (i1<(c.aD.len:Int)) then
 ((bI c.aD.base c.aD.len i1)/\aN none yH b (Addr.add (sat c.aD.base 2 i1) 0) λx=>ae P DX [(yI x),(yI 0),(yI (yw ((c.aQ.len:Int)-1)))] bH (λw d=>(if (!w)=true then
 Q 2 (yw (7+i1)) d
 else
 ((bI c.aD.base c.aD.len i1)/\aN none aw d (Addr.add (sat c.aD.base 2 i1) 1) λy=>bt P X4 [y.v,(yI c.bE)] yH yH (λj A f=>(if (j !=0)=true then
 Q j (yw (7+i1)) f
 else
 l (yw (i1+1)) f)) d))) b)
 else
 Q 0 0 b)) 0 a)))) 0 p) o)) n)) m)) g)) e)) h
def Me (P:Program) (m:Option Addr) (s:dv) (Q:(Int->(Int->(Hp->Prop)))) (h:Hp):Prop:=
 (if (s.Kind==2)=true then
 ae P znp [(yP m),(yI s.N),(yI s.V)] yH (λr a=>Q 0 r a) h
 else
 (if (s.Kind==3)=true then
 ae P zpq [(yP m),(yI s.N)] yH (λr a=>Q 0 r a) h
 else
 ae P zpo [(yP m)] yH (λr a=>Q r 0 a) h))
def zyq (P:Program) (c:an) (s:aH) (Q:(Sl->(Int->(Hp->Prop)))) (h:Hp):Prop:=
 ae P Rt [c.v,s.v] yH (λr j=>(if (r !=0)=true then
 Q ⟨none,0,0⟩ r j
 else
 bt P zyh [c.v] aw yH (λe r2 k=>(if (r2 !=0)=true then
 Q ⟨none,0,0⟩ r2 k
 else
 bc [(.int .u8 70),(.int .u8 66),(.int .u8 83),(.int .u8 78),(.int .u8 1)] (λa q=>qX (some a) (λF t=>bc [(.slice (some a) 5 5)] (λa1 u=>ah none (some a1) λp=>aM P ou [(yP (some (Addr.add p 0))),(yI (e.len:Int)),(yI 4)] (λl=>ah none (some a1) λA=>aN none aw l (Addr.add (Addr.add A 0) 0) λx=>eC 1 1 [(.int .u8 0)] x ⟨e.base,e.len,e.cap⟩ (λE w=>ah none (some a1) λB=>cX w (Addr.add (Addr.add B 0) 0) [E.v] (λy=>ah none (some a1) λC=>aM P u4 [(yP (some (Addr.add C 0))),(yI s.eZ),(yI 8)] (λz=>aB (α1:=Int) (λm f i=>(if decide (f<(s.cS.len:Int)) then
 ((bI s.cS.base s.cS.len f)/\aN none bx i (sat s.cS.base 6 f) λd=>aM P Q7 [(yP (some a1)),d.v] (λb=>m (yw (f+1)) b) i)
 else
 aB (α1:=Int) (λn g b=>(if decide (g<(s.aD.len:Int)) then
 ((bI s.aD.base s.aD.len g)/\aN none aI b (sat s.aD.base 15 g) λd=>aM P Q8 [(yP (some a1)),d.v] (λo=>n (yw (g+1)) o) b)
 else
 ah none (some a1) λD=>aN none aw b (Addr.add (Addr.add D 0) 0) λd=>Q d 0 b)) 0 i)) 0 z) y)) l) u) t) q) k)) j)) h
def QP (P:Program) (m:Option Addr) (Q:(an->(Hp->Prop))) (h:Hp):Prop:=
 ah none m λp=>aN none aA h (Addr.add p 0) λx=>ae P zrp [x.v] aA (λr a=>Q r a) h
def zyr (P:Program) (b:Sl) (Q:(an->(aH->(Int->(Int->(Hp->Prop)))))) (h:Hp):Prop:=
 (if decide ((b.len:Int)>1048576) then
 Q ⟨⟨none,0,0⟩,⟨none,0,0⟩,0,0,0,0,⟨none,0,0⟩⟩ ⟨0,⟨none,0,0⟩,⟨none,0,0⟩⟩ 22 1048576 h
 else
 bc [b.v,(yI 0),(yI 0),(yI 0),yN,yN,(yI 0),(yI 0),(yI 0),(yI 0),yN] (λa j=>ae P zto [(yP (some a))] ov (λr g=>da (λk=>ah none (some a) λp=>aN none yH g (Addr.add (Addr.add p 0) 2) λx=>(if (x==0)=true then
 ah none (some a) λd=>ah none (some a) λf=>aN none aA g (Addr.add f 4) λe=>ae P Rt [e.v,r.v] yH (λm c=>aM P yO [(yP (some (Addr.add d 0))),(yI m),(yI 0)] (λl=>k l) c) g
 else
 k g))
 (λc=>ah none (some a) λp=>aN none yH c (Addr.add (Addr.add p 0) 2) λx=>(if (x !=0)=true then
 ah none (some a) λd=>aN none yH c (Addr.add (Addr.add d 0) 2) λe=>ah none (some a) λf=>aN none yH c (Addr.add (Addr.add f 0) 3) λi=>(((aZ c (Addr.add (Addr.add d 0) 2) [(yI e)])/\((aZ c (Addr.add (Addr.add f 0) 3) [(yI i)])/\True))/\(((aZ c (Addr.add (Addr.add d 0) 2) [(yI e)])/\((aZ c (Addr.add (Addr.add f 0) 3) [(yI i)])/\True))/\Q ⟨⟨none,0,0⟩,⟨none,0,0⟩,0,0,0,0,⟨none,0,0⟩⟩ ⟨0,⟨none,0,0⟩,⟨none,0,0⟩⟩ e i c))
 else
 ah none (some a) λd=>aN none aA c (Addr.add d 4) λe=>((True/\True)/\Q e r 0 0 c)))) j) h)
def zys (P:Program) (c:an) (s:aH) (Q:(Option Addr->(Int->(Hp->Prop)))) (h:Hp):Prop:=
 ae P Rt [c.v,s.v] yH (λr a=>(if (r !=0)=true then
 Q none r a
 else
 ae P zvq [c.v,s.v] al (λd b=>Q d 0 b) a)) h
def UU (P:Program) (a:an) (b:an) (Q:(Bool->(Hp->Prop))) (h:Hp):Prop:=
 ae P zka [a.aQ.v,b.aQ.v] bH (λr f=>dm (some (!(!r))) (ae P zmg [a.Table.v,b.Table.v] bH) (λg d=>aF ((!r) || (!g)) λy=>aF (y || (a.Fuel !=b.Fuel)) λk=>aF (k || (a.fD !=b.fD)) λl=>aF (l || (a.bE !=b.bE)) λm=>aF (m || (a.Log !=b.Log)) λn=>aF (n || ((a.aD.len:Int) !=(b.aD.len:Int))) λo=>(if o then
 Q false d
 else
 aB (α1:=Int) (λe i c=>(if decide (i<(a.aD.len:Int)) then
 ((bI a.aD.base a.aD.len i)/\aN none yH c (Addr.add (sat a.aD.base 2 i) 0) λx=>((bI b.aD.base b.aD.len i)/\aN none yH c (Addr.add (sat b.aD.base 2 i) 0) λj=>(if (x !=j)=true then
 Q false c
 else
 e (yw (i+1)) c)))
 else
 Q true c)) 0 d)) f) h
def EG (P:Program) (c:an) (Q:(Int->(Int->(Hp->Prop)))) (h:Hp):Prop:=
 bt P RN [c.aQ.v] yH yH (λr w j=>(if (r !=0)=true then
 Q r 0 j
 else
 ae P RO [(yI (c.Table.len:Int)),(yI 64)] yH (λr2 k=>(if (r2 !=0)=true then
 Q r2 1 k
 else
 jz P RP [c.Table.v,(yI (c.aQ.len:Int))] al yH yH (λy o z l=>(if (o !=0)=true then
 Q o 1 l
 else
 bc [(yI 0),(yI 0),(yI c.Fuel),(yI c.fD),(yI c.bE),(yI c.Log)] (λa t=>aB (α1:=Int) (λq b g=>(if decide (b<6) then
 ((bI (some a) 6 b)/\aN none yH g (sat (some a) 1 b) λx=>ae P zyl [(yI b),(yI x)] yH (λf e=>(if (f !=0)=true then
 Q f b e
 else
 q (yw (b+1)) e)) g)
 else
 ae P RO [(yI (c.aD.len:Int)),(yI 32)] yH (λf e=>(if (f !=0)=true then
 Q f 6 e
 else
 aB (α1:=Int) (λs d i=>(if decide (d<(c.aD.len:Int)) then
 ((bI c.aD.base c.aD.len d)/\aN none bT i (sat c.aD.base 2 d) λx=>ae P Hx [(yI x.Part),(yI 0),(yI (yw ((c.aQ.len:Int)-1)))] bH (λu m=>(if (!u)=true then
 Q 2 (yw (7+d)) m
 else
 bt P A5 [x.Code.v,(yI c.bE)] yH yH (λp A n=>(if (p !=0)=true then
 Q p (yw (7+d)) n
 else
 s (yw (d+1)) n)) m)) i)
 else
 Q 0 0 i)) 0 e)) g)) 0 t) l)) k)) j)) h
def zvs (P:Program) (c:an) (s:aH) (Q:(Option Addr->(Hp->Prop))) (h:Hp):Prop:=
 ae P zrp [c.v] aA (λr M=>((True/\True)/\bc [r.aQ.v,r.Table.v,(yI r.Fuel),(yI r.fD),(yI r.bE),(yI r.Log),r.aD.v,(yP none),(yP none),(yI s.eZ),yN,yN] (λa R=>jz P RQ [c.aQ.v] al yH yH (λr1 r2 r3 S=>ah none (some a) λp=>cX S (Addr.add p 7) [(yP r1)] (λT=>jz P RP [c.Table.v,(yI (c.aQ.len:Int))] al yH yH (λr4 r5 r6 U=>ah none (some a) λW=>cX U (Addr.add W 8) [(yP r4)] (λV=>aB (α1:=Int) (λK y D=>(if decide (y<(s.cS.len:Int)) then
 ((bI s.cS.base s.cS.len y)/\aN none bx D (sat s.cS.base 6 y) λx=>bt P RT [x.cE.v,x.bQ.v] al yH (λF r8 e=>ah none (some a) λg=>dI e g 10 λd=>ae P Ls [x.Log.v] aw (λG f=>(((aZ f (Addr.add g 10) [d.v])/\(True/\(True/\(True/\True))))/\ae P Eg [] al (λE l=>(((aZ l (Addr.add g 10) [d.v])/\(True/\(True/\(True/\True))))/\bc [yN,(yI x.Cursor),G.v,(yI x.lu),(yI x.dp),(yP F),(yP E)] (λa1 m=>(((aZ m (Addr.add g 10) [d.v])/\True)/\bc [(yP (some a1))] (λa2 u=>(((aZ u (Addr.add g 10) [d.v])/\True)/\eC 1 8 [(yP none)] d ⟨(some a2),1,1⟩ (λq i=>ah none (some a) λn=>cX i (Addr.add n 10) [q.v] (λB=>K (yw (y+1)) B)) u)) m)) l)) f)) e) D)
 else
 aB (α1:=Int) (λL b e=>(if decide (b<(s.aD.len:Int)) then
 da (λk=>((bI s.aD.base s.aD.len b)/\aN none aI e (sat s.aD.base 15 b) λx=>ah none (some a) λg=>aN none aw e (Addr.add (Addr.add g 0) 6) λd=>((bI d.base d.len b)/\aN none bT e (sat d.base 2 b) λz=>bt P A6 [(yI c.fD),x.cR.v,(yI x.Cursor)] al yH (λF r8 f=>ah none (some a) λn=>dI f n 11 λH=>bc [(yI b),(yI z.Part),z.Code.v,(yI x.State),(yI x.PC),(yI x.cl),(yI x.cm),(yI x.cn),(yI x.cp),(yI x.cq),(yI x.cv),(yI x.cw),(yI x.cC),(.bool x.fH),(yP F)] (λa1 l=>(((aZ l (Addr.add n 11) [H.v])/\True)/\bc [(yP (some a1))] (λa2 m=>(((aZ m (Addr.add n 11) [H.v])/\True)/\eC 1 8 [(yP none)] H ⟨(some a2),1,1⟩ (λG u=>ah none (some a) λX=>cX u (Addr.add X 11) [G.v] (λi=>ah none (some a) λY=>dI i Y 10 λI=>((bI I.base I.len z.Part)/\aN none al i (sat I.base 1 z.Part) λA=>ah none A λZ=>dI i Z 0 λx6=>bc [(yI b)] (λa3 B=>eC 1 8 [(yI 0)] x6 ⟨(some a3),1,1⟩ (λE N=>ah none A λp7=>cX N (Addr.add p7 0) [E.v] (λC=>da (λJ=>(if decide (x.Timer>0) then
 ah none A λo=>ot C o 6 λt=>ae P Ae [(yI b)] yH (λq j=>(((aZ j (Addr.add o 6) [(yP t)])/\(True/\True))/\ae P Ac [(yP t),(yI q),(yI x.Timer)] yH (λa8 w=>J w) j)) C
 else
 J C))
 (λj=>(if decide (x.iU>0) then
 ah none A λo=>ot j o 6 λt=>ae P Bb [(yI b)] yH (λq w=>(((aZ w (Addr.add o 6) [(yP t)])/\(True/\True))/\ae P Ac [(yP t),(yI q),(yI x.iU)] yH (λa8 O=>k O) w)) j
 else
 k j)))) B) i))) m)) l)) f) e)))
 (λf=>L (yw (b+1)) f)
 else
 Q (some a) e)) 0 D)) 0 V)) T)) R) M)) h
def zts (P:Program) (c:an) (Q:(aH->(Hp->Prop))) (h:Hp):Prop:=
 (dU 96 [(yI 0),yN,(yI 0),(yI 0),yN,yN] (c.aQ.len:Int) (c.aQ.len:Int) (λr q=>((True/\True)/\dU 136 [(yI 0),(yI 0),(yI 0),(yI 0),(yI 0),(yI 0),(yI 0),(yI 0),(yI 0),(yI 0),(yI 0),(yI 0),(.bool false),(yI 0),yN] (c.aD.len:Int) (c.aD.len:Int) (λd s=>aB (α1:=Int) (λo b n=>(if decide (b<(r.len:Int)) then
 da (λk=>(bc [(yI (-1))] (λa e=>((True/\(True/\(True/\(True/\True))))/\(ae P vQ [(.slice (some a) 1 1),(yI c.bE)] aw (λr2 g=>((True/\(True/\(True/\True)))/\((bI r.base r.len b)/\(dU 24 [yN] c.bE c.bE (λl f=>((True/\(True/\True))/\cX f (Addr.add (sat r.base 6 b) 4) [r2.v] (λi=>((True/\True)/\((bI r.base r.len b)/\cX i (Addr.add (sat r.base 6 b) 5) [l.v] (λj=>k j)))))) g/\cX g (Addr.add (sat r.base 6 b) 4) [r2.v] (λf=>((True/\(True/\True))/\dU 24 [yN] c.bE c.bE (λl i=>((True/\(True/\True))/\((bI r.base r.len b)/\cX i (Addr.add (sat r.base 6 b) 5) [l.v] (λj=>k j)))) f)))))) e/\dU 24 [yN] c.bE c.bE (λr2 g=>((True/\(True/\(True/\True)))/\ae P vQ [(.slice (some a) 1 1),(yI c.bE)] aw (λl f=>((True/\(True/\(True/\True)))/\((bI r.base r.len b)/\cX f (Addr.add (sat r.base 6 b) 4) [l.v] (λi=>((True/\(True/\True))/\((bI r.base r.len b)/\cX i (Addr.add (sat r.base 6 b) 5) [r2.v] (λj=>k j))))))) g)) e))) n/\dU 24 [yN] c.bE c.bE (λr2 e=>((True/\(True/\(True/\True)))/\bc [(yI (-1))] (λa g=>((True/\(True/\(True/\(True/\True))))/\ae P vQ [(.slice (some a) 1 1),(yI c.bE)] aw (λl f=>((True/\(True/\(True/\True)))/\((bI r.base r.len b)/\cX f (Addr.add (sat r.base 6 b) 4) [l.v] (λi=>((True/\(True/\True))/\((bI r.base r.len b)/\cX i (Addr.add (sat r.base 6 b) 5) [r2.v] (λj=>k j))))))) g)) e)) n))
 (λe=>o (yw (b+1)) e)
 else
 aB (α1:=Int) (λp m e=>(if decide (m<(d.len:Int)) then
 dU 64 [yN,yN,(yI 0),(yI 0)] (yw ((c.aQ.len:Int)+1)) (yw ((c.aQ.len:Int)+1)) (λr2 g=>((True/\True)/\((bI d.base d.len m)/\cX g (Addr.add (sat d.base 15 m) 14) [r2.v] (λf=>p (yw (m+1)) f)))) e
 else
 Q ⟨0,r,d⟩ e)) 0 n)) 0 s) q)) h/\dU 136 [(yI 0),(yI 0),(yI 0),(yI 0),(yI 0),(yI 0),(yI 0),(yI 0),(yI 0),(yI 0),(yI 0),(yI 0),(.bool false),(yI 0),yN] (c.aD.len:Int) (c.aD.len:Int) (λr q=>((True/\True)/\dU 96 [(yI 0),yN,(yI 0),(yI 0),yN,yN] (c.aQ.len:Int) (c.aQ.len:Int) (λd s=>((True/\True)/\aB (α1:=Int) (λo b n=>(if decide (b<(d.len:Int)) then
 da (λk=>(bc [(yI (-1))] (λa e=>((True/\(True/\(True/\(True/\True))))/\(ae P vQ [(.slice (some a) 1 1),(yI c.bE)] aw (λr2 g=>((True/\(True/\(True/\True)))/\((bI d.base d.len b)/\(dU 24 [yN] c.bE c.bE (λl f=>((True/\(True/\True))/\cX f (Addr.add (sat d.base 6 b) 4) [r2.v] (λi=>((True/\True)/\((bI d.base d.len b)/\cX i (Addr.add (sat d.base 6 b) 5) [l.v] (λj=>k j)))))) g/\cX g (Addr.add (sat d.base 6 b) 4) [r2.v] (λf=>((True/\(True/\True))/\dU 24 [yN] c.bE c.bE (λl i=>((True/\(True/\True))/\((bI d.base d.len b)/\cX i (Addr.add (sat d.base 6 b) 5) [l.v] (λj=>k j)))) f)))))) e/\dU 24 [yN] c.bE c.bE (λr2 g=>((True/\(True/\(True/\True)))/\ae P vQ [(.slice (some a) 1 1),(yI c.bE)] aw (λl f=>((True/\(True/\(True/\True)))/\((bI d.base d.len b)/\cX f (Addr.add (sat d.base 6 b) 4) [l.v] (λi=>((True/\(True/\True))/\((bI d.base d.len b)/\cX i (Addr.add (sat d.base 6 b) 5) [r2.v] (λj=>k j))))))) g)) e))) n/\dU 24 [yN] c.bE c.bE (λr2 e=>((True/\(True/\(True/\True)))/\bc [(yI (-1))] (λa g=>((True/\(True/\(True/\(True/\True))))/\ae P vQ [(.slice (some a) 1 1),(yI c.bE)] aw (λl f=>((True/\(True/\(True/\True)))/\((bI d.base d.len b)/\cX f (Addr.add (sat d.base 6 b) 4) [l.v] (λi=>((True/\(True/\True))/\((bI d.base d.len b)/\cX i (Addr.add (sat d.base 6 b) 5) [r2.v] (λj=>k j))))))) g)) e)) n))
 (λe=>o (yw (b+1)) e)
 else
 aB (α1:=Int) (λp m e=>(if decide (m<(r.len:Int)) then
 dU 64 [yN,yN,(yI 0),(yI 0)] (yw ((c.aQ.len:Int)+1)) (yw ((c.aQ.len:Int)+1)) (λr2 g=>((True/\True)/\((bI r.base r.len m)/\cX g (Addr.add (sat r.base 15 m) 14) [r2.v] (λf=>p (yw (m+1)) f)))) e
 else
 Q ⟨0,d,r⟩ e)) 0 n)) 0 s)) q)) h)
def LO (P:Program) (m:Option Addr) (p:Int) (v:Int) (Q:(Int->(Hp->Prop))) (h:Hp):Prop:=
 ae P Vy [(yP m),(yI p)] yH (λr a=>(if (r !=0)=true then
 Q r a
 else
 ah none m λg=>dI a g 11 λx=>((bI x.base x.len p)/\aN none al a (sat x.base 1 p) λd=>ah none m λi=>dI a i 10 λf=>ah none d λj=>ot a j 14 λl=>ae P Rk [(yP l),(yI (f.len:Int)),(yI v)] yH (λe b=>(if (e !=0)=true then
 ah none d λk=>ot b k 14 λn=>aM P MZ [(yP n),(yI (f.len:Int))] (λc=>Q e c) b
 else
 aM P LQ [(yP m),(yP d)] (λc=>Q 0 c) b)) a))) h
def LU (P:Program) (m:Option Addr) (p:Int) (Q:(Int->(Hp->Prop))) (h:Hp):Prop:=
 ae P Vy [(yP m),(yI p)] yH (λr a=>(if (r !=0)=true then
 Q r a
 else
 ah none m λc=>dI a c 11 λx=>((bI x.base x.len p)/\aN none al a (sat x.base 1 p) λd=>aM P QS [(yP m),(yP d),(yI 6)] (λb=>Q 0 b) a))) h
def UX (P:Program) (a:bM) (b:bM) (Q:(Bool->(Hp->Prop))) (h:Hp):Prop:=
 aF ((a.Cursor !=b.Cursor) || (a.lu !=b.lu)) λy=>aF (y || (a.dp !=b.dp)) λl=>aF (l || ((a.Log.len:Int) !=(b.Log.len:Int))) λm=>aF (m || ((a.bQ.len:Int) !=(b.bQ.len:Int))) λn=>(if n then
 Q false h
 else
 aB (α1:=Int) (λg i c=>(if decide (i<(a.Log.len:Int)) then
 ((bI a.Log.base a.Log.len i)/\aN none cW c (sat a.Log.base 3 i) λx=>((bI b.Log.base b.Log.len i)/\aN none cW c (sat b.Log.base 3 i) λf=>jC none P (dx .neq 121 (.tmp 56) (.tmp 61) x.v f.v) bH c λk=>(if k then
 Q false c
 else
 g (yw (i+1)) c)))
 else
 aB (α1:=Int) (λj i1 d=>(if decide (i1<(a.bQ.len:Int)) then
 ((bI a.bQ.base a.bQ.len i1)/\aN none aw d (sat a.bQ.base 1 i1) λx=>((bI b.bQ.base b.bQ.len i1)/\aN none aw d (sat b.bQ.base 1 i1) λf=>ae P Xl [x.v,f.v] bH (λr e=>(if (!r)=true then
 Q false e
 else
 j (yw (i1+1)) e)) d))
 else
 ae P Xl [a.cE.v,b.cE.v] bH (λr e=>Q r e) d)) 0 c)) 0 h)
def Ul (P:Program) (a:aK) (b:aK) (Q:(Bool->(Hp->Prop))) (h:Hp):Prop:=
 aF ((a.State !=b.State) || (a.PC !=b.PC)) λy=>jC (some (!y)) P (dx .neq 79 (.tmp 21) (.tmp 23) (.agg #[(yI a.cl),(yI a.cm),(yI a.cn),(yI a.cp),(yI a.cq),(yI a.cv),(yI a.cw),(yI a.cC)]) (.agg #[(yI b.cl),(yI b.cm),(yI b.cn),(yI b.cp),(yI b.cq),(yI b.cv),(yI b.cw),(yI b.cC)])) bH h λx=>aF (y || x) λj=>aF (j || (a.Cursor !=b.Cursor)) λk=>aF (k || (a.Timer !=b.Timer)) λl=>aF (l || (!(a.fH==b.fH))) λm=>aF (m || (a.iU !=b.iU)) λn=>aF (n || ((a.cR.len:Int) !=(b.cR.len:Int))) λo=>(if o then
 Q false h
 else
 aB (α1:=Int) (λe i c=>(if decide (i<(a.cR.len:Int)) then
 ((bI a.cR.base a.cR.len i)/\aN none bd c (sat a.cR.base 4 i) λf=>((bI b.cR.base b.cR.len i)/\aN none bd c (sat b.cR.base 4 i) λg=>ae P zmh [f.v,g.v] bH (λr d=>(if (!r)=true then
 Q false d
 else
 e (yw (i+1)) d)) c))
 else
 Q true c)) 0 h)
def Zf (P:Program) (l:Option Addr) (Q:(Sl->(Sl->(Hp->Prop)))) (h:Hp):Prop:=
 ah none l λp=>dI h p 0 λx=>rR (α1:=Sl) (α2:=Sl) (α3:=Int) (λe ax au b c=>(if decide (b<(x.len:Int)) then
 ((bI x.base x.len b)/\aN none fO c (sat x.base 2 b) λd=>bc [(yI d.owner)] (λa f=>eC 1 8 [(yI 0)] ⟨ax.base,ax.len,ax.cap⟩ ⟨(some a),1,1⟩ (λr g=>ae P QT [d.queue.v] aw (λm i=>bc [m.v] (λa1 j=>eC 1 24 [yN] ⟨au.base,au.len,au.cap⟩ ⟨(some a1),1,1⟩ (λr2 k=>e r r2 (yw (b+1)) k) j) i) g) f) c)
 else
 Q ⟨ax.base,ax.len,ax.cap⟩ ⟨au.base,au.len,au.cap⟩ c)) ⟨none,0,0⟩ ⟨none,0,0⟩ 0 h
def TC (P:Program) (s:Sl) (Q:(Sl->(Hp->Prop))) (h:Hp):Prop:=
 jC none P (dx .eql 101 (.tmp 3) (.const yN) s.v yN) bH h λx=>(if x then
 Q ⟨none,0,0⟩ h
 else
 bc [] (λa b=>eC 3 24 [(yI 0),(yI 0),(yI 0)] ⟨(some a),0,0⟩ s (λr c=>Q r c) b) h)
def zqh (P:Program) (p:Option Addr) (Q:(Sl->(Int->(Hp->Prop)))) (h:Hp):Prop:=
 ah none p λj=>dI h j 0 λx=>bL (α1:=Sl) (α2:=Int) (λe out c b=>(if decide (c<(x.len:Int)) then
 ((bI x.base x.len c)/\aN none al b (sat x.base 1 c) λd=>ae P zqb [(yP d)] bd (λr f=>bc [r.cF.v,r.bJ.v,(yI r.jc),(yI r.fL)] (λa g=>eC 4 64 [yN,yN,(yI 0),(yI 0)] ⟨out.base,out.len,out.cap⟩ ⟨(some a),1,1⟩ (λl i=>e l (yw (c+1)) i) g) f) b)
 else
 ah none p λk=>fy b k 1 λd=>Q ⟨out.base,out.len,out.cap⟩ d b)) ⟨none,0,0⟩ 0 h
def Rf (P:Program) (w:Option Addr) (dY:Int) (Q:(Int->(Bool->(Hp->Prop)))) (h:Hp):Prop:=
 ah none w λp=>aN none ig h (Addr.add p 1) λx=>pA none (.int .i64) bn (.agg #[(yI 0),(yI 0)]) x (yI dY) h λa ok=>Q a.due ok h
def Rm (P:Program) (p:Int) (Q:(Int->(Hp->Prop))) (h:Hp):Prop:=
 Q (yw (2*p)) h
def Rn (P:Program) (p:Int) (Q:(Int->(Hp->Prop))) (h:Hp):Prop:=
 Q (yw ((yw (2*p))+1)) h
def Zi (P:Program) (s:Option Addr) (t:Int) (Q:(Int->(Hp->Prop))) (h:Hp):Prop:=
 (if decide (t<0) then
 Q (-1) h
 else
 ah none s λp=>dI h p 0 λx=>ah none s λb=>dI h b 0 λa=>((a.len:Int)≠0/\((bI x.base x.len (Int.tmod t (a.len:Int)))/\aN none yH h (sat x.base 1 (Int.tmod t (a.len:Int))) λc=>Q c h)))
def Xq (P:Program) (m:Option Addr) (x:Option Addr) (Q:(Hp->Prop)) (h:Hp):Prop:=
 ah none x λp=>ot h p 6 λz=>ah none m λq=>fy h q 9 λA=>ae P zww [(yP z),(yI A)] aw (λr o=>aB (α1:=Int) (λn e a=>(if decide (e<(r.len:Int)) then
 da (λk=>((bI r.base r.len e)/\aN none yH a (sat r.base 1 e) λi=>ah none m λs=>dI a s 11 λj=>((2:Int)≠(0:Int)/\((bI j.base j.len (yw (Int.tdiv i (2:Int))))/\aN none al a (sat j.base 1 (yw (Int.tdiv i (2:Int)))) λb=>ah none b λt=>fy a t 0 λB=>ae P Bb [(yI B)] yH (λy c=>(if (i==y)=true then
 ah none b λg=>aN none fM c (Addr.add g 4) λl=>ae P Ag [l.v] fM (λr2 d=>aM P LR [(yP m),(yP b),r2.v] (λf=>k f) d) c
 else
 ah none b λg=>cX c (Addr.add g 13) [(.bool true)] (λd=>ah none b λu=>fy d u 3 λl=>(if (l==(1:Int))=true then
 ah none b λw=>cX d (Addr.add w 3) [(yI (0:Int))] (λf=>k f)
 else
 k d)))) a))))
 (λc=>n (yw (e+(1:Int))) c)
 else
 Q a)) (0:Int) o) h
def Wq (P:Program) (m:Option Addr) (p:Option Addr) (Q:(Hp->Prop)) (h:Hp):Prop:=
 ah none p λH=>aN none fM h (Addr.add H 4) λx=>ah none p λI=>dI h I 2 λS=>ah none m λJ=>fy h J 9 λT=>ah none p λK=>fy h K 0 λU=>bt P ED [x.v,S.v,(yI T),(yI U)] fM FP (λr d F=>ah none p λL=>cX F (Addr.add L 4) [(yI r.PC),(yI r.cl),(yI r.cm),(yI r.cn),(yI r.cp),(yI r.cq),(yI r.cv),(yI r.cw),(yI r.cC)] (λu=>ah none m λM=>dI u M 10 λD=>ah none p λN=>fy u N 1 λE=>((bI D.base D.len E)/\aN none al u (sat D.base 1 E) λn=>(if (d.Kind==1)=true then
 aM P QS [(yP m),(yP p),(yI 5)] (λb=>Q b) u
 else
 (if (d.Kind==2)=true then
 aM P VA [(yP m),(yP p),(yI d.To),(yI d.dt)] (λb=>Q b) u
 else
 dj (α1:=Bool) (λk=>(if (d.Kind==3)=true then
 k (d.Kind==3) u
 else
 k (d.Kind==4) u))
 (λR b=>(if R then
 aM P VC [(yP m),(yP p),(.bool (d.Kind==4))] (λc=>Q c) b
 else
 (if (d.Kind==5)=true then
 ah none p λq=>cX b (Addr.add q 13) [(.bool false)] (λc=>ah none n λs=>ot c s 6 λo=>ah none p λf=>fy c f 0 λt=>ae P Ae [(yI t)] yH (λr2 e=>(((aZ e (Addr.add s 6) [(yP o)])/\True)/\ae P D4 [(yP o),(yI r2)] bH (λA i=>(if decide (d.dt>0) then
 ah none n λl=>ot i l 6 λg=>ah none p λC=>fy i C 0 λy=>ah none m λz=>fy i z 9 λB=>ae P Ae [(yI y)] yH (λj w=>(((aZ w (Addr.add l 6) [(yP g)])/\((aZ w (Addr.add z 9) [(yI B)])/\(True/\True)))/\ae P Ac [(yP g),(yI j),(yI (yw (B+(jV d.dt 1099511627776))))] yH (λO G=>Q G) w)) i
 else
 Q i)) e)) c)
 else
 (if (d.Kind==6)=true then
 ah none n λq=>ot b q 6 λo=>ah none p λs=>fy b s 0 λt=>ah none m λf=>fy b f 9 λg=>ae P Bb [(yI t)] yH (λr2 c=>(((aZ c (Addr.add q 6) [(yP o)])/\((aZ c (Addr.add f 9) [(yI g)])/\(True/\True)))/\ae P Ac [(yP o),(yI r2),(yI (yw (g+(jV (rD d.dt 1) 1099511627776))))] yH (λA e=>ah none p λl=>cX e (Addr.add l 3) [(yI 4)] (λi=>Q i)) c)) b
 else
 (if (d.Kind==7)=true then
 ah none n λq=>ot b q 5 λo=>ah none p λs=>fy b s 0 λt=>bt P Q9 [(yP o),(yI d.To),(yI t)] bH yH (λr2 A c=>(if r2 then
 ah none p λf=>aN none fM c (Addr.add f 4) λg=>ae P Ag [g.v] fM (λj e=>ah none p λl=>cX e (Addr.add l 4) [(yI j.PC),(yI j.cl),(yI j.cm),(yI j.cn),(yI j.cp),(yI j.cq),(yI j.cv),(yI j.cw),(yI j.cC)] (λi=>Q i)) c
 else
 ah none p λf=>cX c (Addr.add f 3) [(yI 3)] (λe=>Q e))) b
 else
 (if (d.Kind==8)=true then
 ah none n λq=>ot b q 5 λo=>ah none p λs=>fy b s 0 λt=>ae P Q1 [(yP o),(yI t)] aw (λr2 c=>((True/\True)/\ae P QM [r2.v,(yI d.To)] bH (λA e=>(if A then
 ah none n λf=>ot e f 5 λg=>ah none p λl=>fy e l 0 λy=>bt P Mi [(yP g),(yI d.To),(yI y)] yH yH (λj O i=>aM P DY [(yP m),(yI j)] (λw=>Q w) i) e
 else
 Q e)) c)) b
 else
 (if (d.Kind==9)=true then
 ah none n λq=>dI b q 2 λo=>ah none m λs=>aN none yH b (Addr.add (Addr.add s 0) 5) λt=>(if decide ((o.len:Int)<t) then
 ah none n λf=>dI b f 2 λg=>ah none m λl=>fy b l 9 λy=>ah none p λC=>fy b C 0 λB=>bc [(yI y),(yI B),(yI d.dt)] (λa c=>(((aZ c (Addr.add f 2) [g.v])/\True)/\eC 3 24 [(yI 0),(yI 0),(yI 0)] g ⟨(some a),1,1⟩ (λr2 e=>ah none n λz=>cX e (Addr.add z 2) [r2.v] (λi=>Q i)) c)) b
 else
 ah none n λf=>fy b f 3 λg=>ae P Rq [(yI g)] yH (λr2 c=>ah none n λl=>cX c (Addr.add l 3) [(yI r2)] (λe=>Q e)) b)
 else
 Q b)))))))))))) h
def Wt (P:Program)  (Q:(an->(aH->(Hp->Prop)))) (h:Hp):Prop:=
 bc [(.int .u64 0)] (λa b=>bc [(yI 0)] (λa1 c=>bc [(yI 0),yN] (λa2 d=>bc [(yI 0),yN,(yI 0),(yI 0),yN,yN] (λa3 e=>bc [yN,yN,(yI 0),(yI 0),yN,yN,(yI 0),(yI 0)] (λa4 f=>bc [(yI 0),(yI 0),(yI 0),(yI 0),(yI 0),(yI 0),(yI 0),(yI 0),(yI 0),(yI 0),(yI 0),(yI 0),(.bool false),(yI 0),(.slice (some a4) 2 2)] (λa5 g=>Q ⟨⟨(some a),1,1⟩,⟨(some a1),1,1⟩,1,1,0,0,⟨(some a2),1,1⟩⟩ ⟨0,⟨(some a3),1,1⟩,⟨(some a5),1,1⟩⟩ g) f) e) d) c) b) h
def Xs (P:Program) (a:an) (b:an) (Q:(Bool->(Hp->Prop))) (h:Hp):Prop:=
 ae P zme [a.v,b.v] bH (λr e=>bL (α1:=Bool) (α2:=Int) (λd ok i c=>aF (ok&&(decide (i<(a.aD.len:Int)))) λy=>(if y then
 ((bI a.aD.base a.aD.len i)/\aN none aw c (Addr.add (sat a.aD.base 2 i) 1) λx=>((bI b.aD.base b.aD.len i)/\aN none aw c (Addr.add (sat b.aD.base 2 i) 1) λj=>ae P zrh [x.v,j.v] bH (λg f=>d g (yw (i+1)) f) c))
 else
 Q ok c)) r 0 e) h
def zsk (P:Program) (l:Sl) (Q:(Int->(Int->(Hp->Prop)))) (h:Hp):Prop:=
 (if ((l.len:Int)==0)=true then
 Q 1 0 h
 else
 (if decide ((l.len:Int)>8) then
 Q 3 8 h
 else
 aB (α1:=Int) (λb i a=>(if decide (i<(l.len:Int)) then
 ((bI l.base l.len i)/\aN none (af .u64) a (sat l.base 1 i) λx=>((bI l.base l.len (yw (i-1)))/\aN none (af .u64) a (sat l.base 1 (yw (i-1))) λc=>(if (x==c)=true then
 Q 8 i a
 else
 ((bI l.base l.len i)/\aN none (af .u64) a (sat l.base 1 i) λd=>((bI l.base l.len (yw (i-1)))/\aN none (af .u64) a (sat l.base 1 (yw (i-1))) λe=>(if decide (d<e) then
 Q 7 i a
 else
 b (yw (i+1)) a))))))
 else
 Q 0 0 a)) 1 h))
def VL (P:Program) (l:Sl) (parts:Int) (Q:(Int->(Hp->Prop))) (h:Hp):Prop:=
 (if ((l.len:Int)==0)=true then
 Q 1 h
 else
 (if decide ((l.len:Int)>64) then
 Q 3 h
 else
 aB (α1:=Int) (λc i a=>(if decide (i<(l.len:Int)) then
 ((bI l.base l.len i)/\aN none yH a (sat l.base 1 i) λx=>ae P DX [(yI x),(yI 0),(yI (yw (parts-1)))] bH (λr b=>(if (!r)=true then
 Q 2 b
 else
 c (yw (i+1)) b)) a)
 else
 Q 0 a)) 0 h))
def VN (P:Program) (n:Int) (a:Int) (dS:Int) (Q:(Bool->(Hp->Prop))) (h:Hp):Prop:=
 aF ((decide (n>=a))&&(decide (n<=dS))) λy=>Q y h
def Yj (P:Program) (l:Sl) (ag:Int) (Q:(Int->(Int->(Hp->Prop)))) (h:Hp):Prop:=
 aF ((decide (ag<0)) || (decide (ag>8))) λy=>(if y then
 Q 1 0 h
 else
 (if decide ((l.len:Int)>256) then
 Q 3 256 h
 else
 aB (α1:=Int) (λc i a=>(if decide (i<(l.len:Int)) then
 ((bI l.base l.len i)/\aN none aT a (sat l.base 5 i) λx=>ae P zpr [x.v,(yI (l.len:Int)),(yI ag)] yH (λr b=>(if (r !=0)=true then
 Q r i b
 else
 c (yw (i+1)) b)) a)
 else
 Q 0 0 a)) 0 h))
def Ry (P:Program) (c:an) (s:aH) (Q:(Int->(Hp->Prop))) (h:Hp):Prop:=
 bt P Qf [c.v] yH yH (λr o g=>(if (r !=0)=true then
 Q r g
 else
 jz P RQ [c.aQ.v] al yH yH (λr2 p q i=>aF ((decide (s.eZ<0)) || (decide (s.eZ>4611686018427387904))) λy=>aF (y || ((s.cS.len:Int) !=(c.aQ.len:Int))) λm=>aF (m || ((s.aD.len:Int) !=(c.aD.len:Int))) λn=>(if n then
 Q 4 i
 else
 aB (α1:=Int) (λk e j=>(if decide (e<(s.cS.len:Int)) then
 ae P zsh [(.agg #[c.aQ.v,c.Table.v,(yI c.Fuel),(yI c.fD),(yI c.bE),(yI c.Log),c.aD.v,(yI s.eZ),s.cS.v,s.aD.v,(yP r2)]),(yI e)] bH (λd a=>(if (!d)=true then
 Q 4 a
 else
 k (yw (e+1)) a)) j
 else
 aB (α1:=Int) (λl f a=>(if decide (f<(s.aD.len:Int)) then
 ae P zsi [(.agg #[c.aQ.v,c.Table.v,(yI c.Fuel),(yI c.fD),(yI c.bE),(yI c.Log),c.aD.v,(yI s.eZ),s.cS.v,s.aD.v,(yP r2)]),(yI f)] bH (λd b=>(if (!d)=true then
 Q 4 b
 else
 l (yw (f+1)) b)) a
 else
 ae P zri [(.agg #[c.aQ.v,c.Table.v,(yI c.Fuel),(yI c.fD),(yI c.bE),(yI c.Log),c.aD.v,(yI s.eZ),s.cS.v,s.aD.v,(yP r2)])] bH (λd b=>(if (!d)=true then
 Q 4 b
 else
 Q 0 b)) a)) 0 j)) 0 i)) g)) h
def zyt (P:Program) (c:an) (Q:(Sl->(Int->(Hp->Prop)))) (h:Hp):Prop:=
 bt P Qf [c.v] yH yH (λr W t=>(if (r !=0)=true then
 Q ⟨none,0,0⟩ r t
 else
 bc [(.int .u8 70),(.int .u8 66),(.int .u8 67),(.int .u8 70),(.int .u8 1)] (λa G=>qX (some a) (λr2 J=>bc [(.int .u8 (IntKind.wrap .u8 (c.aQ.len:Int)))] (λa1 K=>eC 1 1 [(.int .u8 0)] ⟨(some a),5,5⟩ ⟨(some a1),1,1⟩ (λS L=>bL (α1:=Sl) (α2:=Int) (λu b f m=>(if decide (f<(c.aQ.len:Int)) then
 ((bI c.aQ.base c.aQ.len f)/\aN none (af .u64) m (sat c.aQ.base 1 f) λx=>ae P FY [b.v,(.int .u64 x),(yI 8)] aw (λp n=>u p (yw (f+1)) n) m)
 else
 bc [(.int .u8 (IntKind.wrap .u8 (c.Table.len:Int)))] (λa2 n=>eC 1 1 [(.int .u8 0)] ⟨b.base,b.len,b.cap⟩ ⟨(some a2),1,1⟩ (λp M=>bL (α1:=Sl) (α2:=Int) (λw e g o=>(if decide (g<(c.Table.len:Int)) then
 ((bI c.Table.base c.Table.len g)/\aN none yH o (sat c.Table.base 1 g) λx=>bc [(.int .u8 (IntKind.wrap .u8 x))] (λa3 j=>eC 1 1 [(.int .u8 0)] ⟨e.base,e.len,e.cap⟩ ⟨(some a3),1,1⟩ (λq k=>w q (yw (g+1)) k) j) o)
 else
 ae P FY [e.v,(.int .u64 (IntKind.wrap .u64 c.Fuel)),(yI 2)] aw (λq j=>bc [(.int .u8 (IntKind.wrap .u8 c.fD)),(.int .u8 (IntKind.wrap .u8 c.bE))] (λa3 k=>eC 1 1 [(.int .u8 0)] q ⟨(some a3),2,2⟩ (λT z=>ae P FY [T.v,(.int .u64 (IntKind.wrap .u64 c.Log)),(yI 2)] aw (λU A=>bc [(.int .u8 (IntKind.wrap .u8 (c.aD.len:Int)))] (λa4 B=>eC 1 1 [(.int .u8 0)] U ⟨(some a4),1,1⟩ (λV C=>bL (α1:=Sl) (α2:=Int) (λy d i l=>(if decide (i<(c.aD.len:Int)) then
 ((bI c.aD.base c.aD.len i)/\aN none bT l (sat c.aD.base 2 i) λx=>jz P Ru [x.Code.v] aw yH yH (λs X Y D=>bc [(.int .u8 (IntKind.wrap .u8 x.Part))] (λa5 E=>eC 1 1 [(.int .u8 0)] ⟨d.base,d.len,d.cap⟩ ⟨(some a5),1,1⟩ (λN F=>ae P FY [N.v,(.int .u64 (IntKind.wrap .u64 (x.Code.len:Int))),(yI 2)] aw (λO H=>eC 1 1 [(.int .u8 0)] O ⟨s.base,s.len,s.cap⟩ (λR I=>y R (yw (i+1)) I) H) F) E) D) l)
 else
 Q ⟨d.base,d.len,d.cap⟩ 0 l)) V 0 C) B) A) z) k) j) o)) p 0 M) n) m)) S 0 L) K) J) G) t)) h
def Ym (P:Program) (w:Option Addr) (n:Int) (many:Int) (Q:(Hp->Prop)) (h:Hp):Prop:=
 aM P u4 [(yP w),(yI n),(yI many)] (λa=>Q a) h
def ZV (P:Program) (w:Option Addr) (n:Int) (many:Int) (Q:(Hp->Prop)) (h:Hp):Prop:=
 aB (α1:=Int) (λe b c=>(if decide (b<many) then
 ah none w λp=>dI c p 0 λx=>(0<=(yw (8*b))/\bc [(.int .u8 (IntKind.wrap .u8 (gQ .u64 (IntKind.wrap .u64 n) (yw (8*b)))))] (λa d=>(((aZ d (Addr.add p 0) [x.v])/\True)/\eC 1 1 [(.int .u8 0)] x ⟨(some a),1,1⟩ (λr f=>ah none w λi=>cX f (Addr.add i 0) [r.v] (λg=>e (yw (b+1)) g)) d)) c)
 else
 Q c)) 0 h
def ZX (P:Program) (w:Option Addr) (x:bM) (Q:(Hp->Prop)) (h:Hp):Prop:=
 ah none w λp=>aM P ou [(yP (some (Addr.add p 0))),(yI x.Cursor),(yI 1)] (λu=>ah none w λz=>aM P ou [(yP (some (Addr.add z 0))),(yI (x.Log.len:Int)),(yI 2)] (λy=>aB (α1:=Int) (λr d g=>(if decide (d<(x.Log.len:Int)) then
 ((bI x.Log.base x.Log.len d)/\aN none cW g (sat x.Log.base 3 d) λc=>ah none w λl=>aM P u4 [(yP (some (Addr.add l 0))),(yI c.eZ),(yI 8)] (λi=>ah none w λm=>aM P ou [(yP (some (Addr.add m 0))),(yI c.cU),(yI 1)] (λj=>ah none w λn=>aM P u4 [(yP (some (Addr.add n 0))),(yI c.dt),(yI 8)] (λb=>r (yw (d+1)) b) j) i) g)
 else
 ah none w λl=>aM P ou [(yP (some (Addr.add l 0))),(yI x.lu),(yI 2)] (λi=>ah none w λm=>aM P ou [(yP (some (Addr.add m 0))),(yI x.dp),(yI 2)] (λj=>aB (α1:=Int) (λs a b=>(if decide (a<(x.cE.len:Int)) then
 ((bI x.cE.base x.cE.len a)/\aN none yH b (sat x.cE.base 1 a) λc=>ah none w λn=>aM P ou [(yP (some (Addr.add n 0))),(yI (yw (c+1))),(yI 1)] (λo=>ah none w λA=>((bI x.bQ.base x.bQ.len a)/\aN none aw o (sat x.bQ.base 1 a) λC=>aM P ou [(yP (some (Addr.add A 0))),(yI (C.len:Int)),(yI 1)] (λq=>((bI x.bQ.base x.bQ.len a)/\aN none aw q (sat x.bQ.base 1 a) λf=>aB (α1:=Int) (λt e k=>(if decide (e<(f.len:Int)) then
 ((bI f.base f.len e)/\aN none yH k (sat f.base 1 e) λD=>ah none w λB=>aM P ou [(yP (some (Addr.add B 0))),(yI D),(yI 1)] (λv=>t (yw (e+1)) v) k)
 else
 s (yw (a+1)) k)) 0 q)) o)) b)
 else
 Q b)) 0 j) i) g)) 0 y) u) h
def ZZ (P:Program) (w:Option Addr) (x:aK) (Q:(Hp->Prop)) (h:Hp):Prop:=
 ah none w λp=>aM P ou [(yP (some (Addr.add p 0))),(yI x.State),(yI 1)] (λm=>ah none w λt=>aM P ou [(yP (some (Addr.add t 0))),(yI x.PC),(yI 2)] (λo=>aB (α1:=Int) (λj a g=>(if decide (a<8) then
 ((0<=a/\a<8)/\∃c:Int,((List.get?Internal (α:=Value) [(yI x.cl),(yI x.cm),(yI x.cn),(yI x.cp),(yI x.cq),(yI x.cv),(yI x.cw),(yI x.cC)] ((Int.toNat a)*1))=(some (yI c))/\ah none w λf=>aM P u4 [(yP (some (Addr.add f 0))),(yI c),(yI 8)] (λd=>j (yw (a+1)) d) g))
 else
 ah none w λf=>aM P ou [(yP (some (Addr.add f 0))),(yI x.Cursor),(yI 1)] (λd=>ah none w λu=>aM P u4 [(yP (some (Addr.add u 0))),(yI x.Timer),(yI 8)] (λi=>dj (α1:=Int) (λk=>(if x.fH=true then
 k 1 i
 else
 k 0 i))
 (λbB q=>ah none w λy=>aM P ou [(yP (some (Addr.add y 0))),(yI bB),(yI 1)] (λr=>ah none w λz=>aM P u4 [(yP (some (Addr.add z 0))),(yI x.iU),(yI 8)] (λs=>aB (α1:=Int) (λl b e=>(if decide (b<(x.cR.len:Int)) then
 ((bI x.cR.base x.cR.len b)/\aN none bd e (sat x.cR.base 4 b) λc=>aM P Ra [(yP w),c.v] (λn=>l (yw (b+1)) n) e)
 else
 Q e)) 0 s) r) q)) d) g)) 0 o) m) h
def zrv (P:Program) (c:an) (Q:(an->(Hp->Prop))) (h:Hp):Prop:=
 ae P Uj [c.aQ.v] aw (λr e=>((True/\(True/\True))/\ae P QT [c.Table.v] aw (λk f=>((True/\True)/\ae P zfy [c.aD.v] aw (λr2 g=>aB (α1:=Int) (λd a b=>(if decide (a<(r2.len:Int)) then
 ((bI r2.base r2.len a)/\aN none bT b (sat r2.base 2 a) λx=>ae P zgs [x.Code.v] aw (λl i=>((True/\True)/\((bI r2.base r2.len a)/\cX i (Addr.add (sat r2.base 2 a) 1) [l.v] (λj=>d (yw (a+1)) j)))) b)
 else
 Q ⟨r,k,c.Fuel,c.fD,c.bE,c.Log,r2⟩ b)) 0 g) f)) e)) h
def Zl (P:Program) (r:Option Addr) (Q:(aH->(Hp->Prop))) (h:Hp):Prop:=
 aB (α1:=Int) (λu e g=>(if decide (e<5) then
 da (λk=>ah none r λp=>aN none yH g (Addr.add (Addr.add p 0) 1) λx=>ah none r λl=>ae P yQ [(yP (some (Addr.add l 0))),(yI 1)] yH (λn c=>((0<=e/\e<5)/\(if ((IntKind.wrap .u8 n) !=(((UInt8.toNat (List.getD [70,66,83,78,1] (Int.toNat e) 0)):Nat):Int))=true then
 ah none r λm=>aM P yO [(yP (some (Addr.add m 0))),(yI 4),(yI x)] (λf=>k f) c
 else
 k c))) g)
 (λc=>u (yw (e+1)) c)
 else
 aM P X6 [(yP r)] (λc=>ah none r λp=>ae P yQ [(yP (some (Addr.add p 0))),(yI 8)] yH (λn f=>ah none r λl=>aN none aw f (Addr.add (Addr.add l 4) 0) λx=>bL (α1:=Int) (α2:=aH) (λw q s i=>(if decide (q<(x.len:Int)) then
 ae P zve [(yP r)] bx (λr2 b=>((True/\True)/\bc [(yI r2.Cursor),r2.Log.v,(yI r2.lu),(yI r2.dp),r2.cE.v,r2.bQ.v] (λa d=>((True/\True)/\eC 6 96 [(yI 0),yN,(yI 0),(yI 0),yN,yN] ⟨s.cS.base,s.cS.len,s.cS.cap⟩ ⟨(some a),1,1⟩ (λo j=>w (yw (q+1)) ⟨s.eZ,o,s.aD⟩ j) d)) b)) i
 else
 ah none r λm=>aN none aw i (Addr.add (Addr.add m 4) 6) λE=>bL (α1:=Int) (α2:=aH) (λy t s1 b=>(if decide (t<(E.len:Int)) then
 ae P zvf [(yP r)] aI (λr2 d=>((True/\True)/\bc [(yI r2.State),(yI r2.PC),(yI r2.cl),(yI r2.cm),(yI r2.cn),(yI r2.cp),(yI r2.cq),(yI r2.cv),(yI r2.cw),(yI r2.cC),(yI r2.Cursor),(yI r2.Timer),(.bool r2.fH),(yI r2.iU),r2.cR.v] (λa j=>((True/\True)/\eC 15 136 [(yI 0),(yI 0),(yI 0),(yI 0),(yI 0),(yI 0),(yI 0),(yI 0),(yI 0),(yI 0),(yI 0),(yI 0),(.bool false),(yI 0),yN] ⟨s1.aD.base,s1.aD.len,s1.aD.cap⟩ ⟨(some a),1,1⟩ (λo z=>y (yw (t+1)) ⟨s1.eZ,s1.cS,o⟩ z) j)) d)) b
 else
 ah none r λA=>aN none yH b (Addr.add (Addr.add A 0) 1) λF=>ah none r λB=>aN none aw b (Addr.add (Addr.add B 0) 0) λG=>(if decide (F<(G.len:Int)) then
 ah none r λC=>ah none r λD=>aN none yH b (Addr.add (Addr.add D 0) 1) λH=>aM P yO [(yP (some (Addr.add C 0))),(yI 6),(yI H)] (λd=>Q s1 d) b
 else
 Q s1 b))) 0 s i)) 0 ⟨n,⟨none,0,0⟩,⟨none,0,0⟩⟩ f) c) g)) 0 h
def Rb (P:Program) (r:Option Addr) (e:Int) (place:Int) (Q:(Hp->Prop)) (h:Hp):Prop:=
 ah none r λp=>fy h p 2 λx=>(if (x==0)=true then
 ah none r λc=>cX h (Addr.add c 2) [(yI e)] (λa=>ah none r λd=>cX a (Addr.add d 3) [(yI place)] (λb=>Q b))
 else
 Q h)
def Wv (P:Program) (s:Sl) (v:Int) (Q:(Int->(Hp->Prop))) (h:Hp):Prop:=
 aB (α1:=Int) (λc a b=>(if decide (a<(s.len:Int)) then
 ((bI s.base s.len a)/\aN none yH b (sat s.base 1 a) λx=>(if (v==x)=true then
 Q a b
 else
 c (yw (a+1)) b))
 else
 Q (-1) b)) 0 h
def Uq (P:Program) (a:Sl) (b:Sl) (Q:(Bool->(Hp->Prop))) (h:Hp):Prop:=
 (if ((a.len:Int) !=(b.len:Int))=true then
 Q false h
 else
 aB (α1:=Int) (λd i c=>(if decide (i<(a.len:Int)) then
 ((bI a.base a.len i)/\aN none (af .u64) c (sat a.base 1 i) λx=>((bI b.base b.len i)/\aN none (af .u64) c (sat b.base 1 i) λe=>(if (x !=e)=true then
 Q false c
 else
 d (yw (i+1)) c)))
 else
 Q true c)) 0 h)
def UY (P:Program) (a:Sl) (b:Sl) (Q:(Bool->(Hp->Prop))) (h:Hp):Prop:=
 (if ((a.len:Int) !=(b.len:Int))=true then
 Q false h
 else
 aB (α1:=Int) (λd i c=>(if decide (i<(a.len:Int)) then
 ((bI a.base a.len i)/\aN none yH c (sat a.base 1 i) λx=>((bI b.base b.len i)/\aN none yH c (sat b.base 1 i) λe=>(if (x !=e)=true then
 Q false c
 else
 d (yw (i+1)) c)))
 else
 Q true c)) 0 h)
def Po (P:Program) (l:Sl) (Q:(Int->(Int->(Hp->Prop)))) (h:Hp):Prop:=
 (if ((l.len:Int)==0)=true then
 Q 1 0 h
 else
 (if decide ((l.len:Int)>8) then
 Q 3 8 h
 else
 aB (α1:=Int) (λb i a=>(if decide (i<(l.len:Int)) then
 ((bI l.base l.len i)/\aN none (af .u64) a (sat l.base 1 i) λx=>((bI l.base l.len (yw (i-1)))/\aN none (af .u64) a (sat l.base 1 (yw (i-1))) λc=>(if (x==c)=true then
 Q 8 i a
 else
 ((bI l.base l.len i)/\aN none (af .u64) a (sat l.base 1 i) λd=>((bI l.base l.len (yw (i-1)))/\aN none (af .u64) a (sat l.base 1 (yw (i-1))) λe=>(if decide (d<e) then
 Q 7 i a
 else
 b (yw (i+1)) a))))))
 else
 Q 0 0 a)) 1 h))
def Ek (P:Program) (n:Int) (dS:Int) (Q:(Int->(Hp->Prop))) (h:Hp):Prop:=
 (if (n==0)=true then
 Q 1 h
 else
 (if decide (n>dS) then
 Q 3 h
 else
 Q 0 h))
def Pq (P:Program) (table:Sl) (parts:Int) (Q:(Option Addr->(Int->(Int->(Hp->Prop))))) (h:Hp):Prop:=
 bc [(yI parts)] (λa b=>aN none yH b a λx=>aN (some (!(decide (x<1)))) yH b a λi=>aF ((decide (x<1)) || (decide (i>8))) λy=>aF (y || ((table.len:Int)==0)) λj=>(if j then
 Q none 1 0 b
 else
 (if decide ((table.len:Int)>64) then
 Q none 3 64 b
 else
 ae P Uz [table.v,(.func (.func 190) #[] #[(yP (some a))])] yH (λr c=>(if decide (r>=0) then
 Q none 2 r c
 else
 aN none yH c a λe=>ae P QT [table.v] aw (λg d=>(((aZ d a [(yI e)])/\True)/\bc [g.v,(yI e)] (λa1 f=>Q (some a1) 0 0 f) d)) c)) b))) h
def zyu (P:Program) (part:Int) (n:Int) (Q:(Int->(Hp->Prop))) (h:Hp):Prop:=
 (if (part==2)=true then
 ae P Hx [(yI n),(yI 1),(yI 256)] bH (λr a=>(if (!r)=true then
 Q 2 a
 else
 Q 0 a)) h
 else
 (if (part==3)=true then
 ae P Hx [(yI n),(yI 1),(yI 64)] bH (λr a=>(if (!r)=true then
 Q 2 a
 else
 Q 0 a)) h
 else
 (if (part==4)=true then
 ae P Hx [(yI n),(yI 0),(yI 8)] bH (λr a=>(if (!r)=true then
 Q 2 a
 else
 Q 0 a)) h
 else
 (if (part==5)=true then
 ae P Hx [(yI n),(yI 0),(yI 4096)] bH (λr a=>(if (!r)=true then
 Q 2 a
 else
 Q 0 a)) h
 else
 Q 0 h))))
def zyv (P:Program) (n:Int) (from_:Int) (to:Int) (Q:(Bool->(Hp->Prop))) (h:Hp):Prop:=
 aF ((decide (n>=from_))&&(decide (n<=to))) λy=>Q y h
def EI (P:Program) (l:Sl) (ag:Int) (Q:(Int->(Int->(Hp->Prop)))) (h:Hp):Prop:=
 aF ((decide (ag<0)) || (decide (ag>8))) λy=>(if y then
 Q 1 0 h
 else
 (if decide ((l.len:Int)>256) then
 Q 3 256 h
 else
 aB (α1:=Int) (λd a b=>(if decide (a<(l.len:Int)) then
 ((bI l.base l.len a)/\aN none aT b (sat l.base 5 a) λx=>ae P RH [x.v,(yI (l.len:Int)),(yI ag)] yH (λr c=>(if (r !=0)=true then
 Q r a c
 else
 d (yw (a+1)) c)) b)
 else
 Q 0 0 b)) 0 h))
def Pt (P:Program) (l:Sl) (Q:(Option Addr->(Int->(Int->(Hp->Prop))))) (h:Hp):Prop:=
 bt P RN [l.v] yH yH (λr m d=>(if (r !=0)=true then
 Q none r m d
 else
 ae P Uj [l.v] aw (λr2 g=>yV  (λn i=>bc [r2.v,(.map n)] (λa e=>ah none (some a) λp=>dI e p 0 λx=>aB (α1:=Int) (λf b c=>(if decide (b<(x.len:Int)) then
 ((bI x.base x.len b)/\aN none (af .u64) c (sat x.base 1 b) λo=>ah none (some a) λk=>aN none ig c (Addr.add k 1) λq=>u5 (.int .u64) q (.int .u64 o) (yI b) (λj=>f (yw (b+1)) j) c)
 else
 Q (some a) 0 0 c)) 0 e) i) g) d)) h
def El (P:Program) (ax:Sl) (au:Sl) (Q:(Option Addr->(Int->(Hp->Prop)))) (h:Hp):Prop:=
 aF ((decide ((ax.len:Int)>8)) || (decide ((au.len:Int)>8))) λy=>(if y then
 Q none 3 h
 else
 (if ((ax.len:Int) !=(au.len:Int))=true then
 Q none 4 h
 else
 bc [yN] (λa w=>aB (α1:=Int) (λt b c=>(if decide (b<(ax.len:Int)) then
 ((bI ax.base ax.len b)/\aN none yH c (sat ax.base 1 b) λx=>((((!(decide (x<(-1))))&&(x==(-1)))=true->(bI au.base au.len b))/\aN (some ((!(decide (x<(-1))))&&(x==(-1)))) aw c (sat au.base 1 b) λE=>aF ((x==(-1))&&(decide ((E.len:Int)>0))) λy1=>aF ((decide (x<(-1))) || y1) λG=>(if G then
 Q none 4 c
 else
 ah none (some a) λp=>dI c p 0 λF=>bc [(yI x),yN] (λa1 A=>eC 2 32 [(yI 0),yN] F ⟨(some a1),1,1⟩ (λr B=>ah none (some a) λC=>cX B (Addr.add C 0) [r.v] (λn=>((bI au.base au.len b)/\aN none aw n (sat au.base 1 b) λj=>aB (α1:=Int) (λu i l=>(if decide (i<(j.len:Int)) then
 ((bI j.base j.len i)/\aN none yH l (sat j.base 1 i) λk=>bt P Q2 [(yP (some a)),(yI k)] yH bH (λJ r2 d=>aF (r2 || (decide (k<0))) λH=>aF (H || (k==x)) λI=>(if I then
 Q none 4 d
 else
 ah none (some a) λm=>dI d m 0 λe=>ah none (some a) λq=>dI d q 0 λf=>((bI f.base f.len b)/\aN none aw d (Addr.add (sat f.base 2 b) 1) λs=>bc [(yI k)] (λa2 g=>(((aZ g (Addr.add m 0) [e.v])/\((aZ g (Addr.add q 0) [f.v])/\((aZ g (Addr.add (sat f.base 2 b) 1) [s.v])/\True)))/\eC 1 8 [(yI 0)] s ⟨(some a2),1,1⟩ (λD o=>(((aZ o (Addr.add m 0) [e.v])/\True)/\((bI e.base e.len b)/\cX o (Addr.add (sat e.base 2 b) 1) [D.v] (λz=>u (yw (i+1)) z)))) g)) d))) l)
 else
 t (yw (b+1)) l)) 0 n))) A) c)))
 else
 Q (some a) 0 c)) 0 w) h))
def RU (P:Program)  (Q:(Option Addr->(Hp->Prop))) (h:Hp):Prop:=
 yV  (λr b=>bc [yN,(.map r)] (λa c=>Q (some a) c) b) h
def EJ (P:Program) (room:Int) (l:Sl) (ai:Int) (Q:(Option Addr->(Int->(Hp->Prop)))) (h:Hp):Prop:=
 aF ((decide ((l.len:Int)<1)) || (decide ((l.len:Int)>9))) λy=>aF (y || (decide (room<1))) λo=>aF (o || (decide (room>64))) λq=>(if q then
 Q none 1 h
 else
 aF ((decide (ai<0)) || (decide (ai>=(l.len:Int)))) λs=>(if s then
 Q none 2 h
 else
 bc [yN,(yI ai)] (λa f=>aB (α1:=Int) (λe b c=>(if decide (b<(l.len:Int)) then
 ((bI l.base l.len b)/\aN none bd c (sat l.base 4 b) λx=>bt P EE [(yI room),x.v] al yH (λr m d=>(if (m !=0)=true then
 Q none 4 d
 else
 ah none (some a) λp=>dI d p 0 λn=>bc [(yP r)] (λa1 g=>eC 1 8 [(yP none)] n ⟨(some a1),1,1⟩ (λr2 i=>ah none (some a) λk=>cX i (Addr.add k 0) [r2.v] (λj=>e (yw (b+1)) j)) g) d)) c)
 else
 Q (some a) 0 c)) 0 f) h))
def Rg (P:Program) (w:Option Addr) (dY:Int) (due:Int) (Q:(Int->(Hp->Prop))) (h:Hp):Prop:=
 aF ((decide (dY<0)) || (decide (due<0))) λy=>(if y then
 Q 1 h
 else
 ae P D4 [(yP w),(yI dY)] bH (λr b=>ah none w λp=>dI b p 0 λx=>bt P QK [x.v,(.agg #[(yI due),(yI dY)]),(.func (.func 195) #[] #[])] yH bH (λm r2 c=>ah none w λf=>dI c f 0 λg=>bc [(yI due),(yI dY)] (λa d=>(((aZ d (Addr.add f 0) [g.v])/\True)/\ae P Td [g.v,(yI m),(.slice (some a) 1 1)] aw (λn i=>ah none w λk=>cX i (Addr.add k 0) [n.v] (λe=>ah none w λl=>aN none ig e (Addr.add l 1) λo=>u5 (.int .i64) o (yI dY) (.agg #[(yI due),(yI dY)]) (λj=>Q 0 j) e)) d)) c) b) h)
def VP (P:Program) (x:Sl) (count:Int) (Q:(Sl->(Hp->Prop))) (h:Hp):Prop:=
 da (λk=>(if decide (count<0) then
 False
 else
 k h))
 (λd=>bt P ztp [(.int .u64 (IntKind.wrap .u64 (x.len:Int))),(.int .u64 (IntKind.wrap .u64 count))] (af .u64) (af .u64) (λr a e=>da (λk=>aF ((decide (r>0)) || (decide (a>9223372036854775807))) λy=>(if y then
 False
 else
 k e))
 (λf=>dU 8 [(yI 0)] (yw a) (yw a) (λr2 g=>gE 1 r2 x (λl i=>aB (α1:=Int) (λc n b=>(if decide (n<(r2.len:Int)) then
 ((0<=n/\n<=(r2.len:Int))/\aF (α:=Sl) ⟨(bq r2.base 1 (Int.toNat n) r2.cap),(r2.len-(Int.toNat n)),(r2.cap-(Int.toNat n))⟩ λy=>((0<=n/\n<=(r2.cap:Int))/\aF (α:=Sl) ⟨(bq r2.base 1 0 r2.cap),((Int.toNat n)-0),(r2.cap-0)⟩ λo=>gE 1 y o (λm j=>c (yw (n+m)) j) b))
 else
 Q r2 b)) l i) g) f)) d)
def VR (P:Program) (m:Option Addr) (p:Int) (Q:(Int->(Hp->Prop))) (h:Hp):Prop:=
 ah (some (!(decide (p<0)))) m λc=>aN (some (!(decide (p<0)))) aw h (Addr.add c 11) λx=>aF ((decide (p<0)) || (decide (p>=(x.len:Int)))) λy=>(if y then
 Q 17 h
 else
 ah none m λd=>dI h d 11 λa=>((bI a.base a.len p)/\aN none al h (sat a.base 1 p) λf=>ah none f λe=>fy h e 3 λg=>ae P D7 [(yI g)] bH (λr b=>(if (!r)=true then
 Q 18 b
 else
 Q 0 b)) h))
def Ro (P:Program) (p:Option Addr) (lane:Int) (v:Int) (Q:(Int->(Hp->Prop))) (h:Hp):Prop:=
 ae P Re [(yP p),(yI lane)] bH (λr a=>(if (!r)=true then
 Q 2 a
 else
 ah none p λc=>dI a c 0 λx=>((bI x.base x.len lane)/\aN none al a (sat x.base 1 lane) λe=>ae P Lj [(yP e),(yI v)] yH (λd b=>Q d b) a))) h
def Rj (P:Program) (p:Option Addr) (lane:Int) (Q:(Hp->Prop)) (h:Hp):Prop:=
 ae P Re [(yP p),(yI lane)] bH (λr a=>(if r then
 ah none p λc=>dI a c 0 λx=>((bI x.base x.len lane)/\aN none al a (sat x.base 1 lane) λd=>aM P zrq [(yP d)] (λb=>Q b) a)
 else
 Q a)) h
def Ww (P:Program) (m:Option Addr) (q:Option Addr) (Q:(Hp->Prop)) (h:Hp):Prop:=
 ah none q λp=>fy h p 3 λx=>(if (x==1)=true then
 ah none q λb=>cX h (Addr.add b 3) [(yI 0)] (λa=>Q a)
 else
 Q h)
def Wy (P:Program) (m:Option Addr) (p:Option Addr) (state:Int) (Q:(Hp->Prop)) (h:Hp):Prop:=
 ah none m λM=>dI h M 10 λx=>ah none p λS=>fy h S 1 λE=>((bI x.base x.len E)/\aN none al h (sat x.base 1 E) λn=>ah none p λT=>cX h (Addr.add T 3) [(yI state)] (λJ=>ah none p λU=>cX J (Addr.add U 13) [(.bool false)] (λA=>ah none n λV=>dI A V 0 λo=>aB (α1:=Int) (λG k a=>(if decide (k<(o.len:Int)) then
 ((bI o.base o.len k)/\aN none yH a (sat o.base 1 k) λq=>ah none m λv=>dI a v 11 λe=>((bI e.base e.len q)/\aN none al a (sat e.base 1 q) λb=>ah none b λw=>ot a w 14 λz=>ah none p λg=>fy a g 0 λs=>ae P zqd [(yP z),(yI s)] bH (λr t=>G (yw (k+1)) t) a))
 else
 ah none n λv=>ot a v 5 λq=>ah none p λw=>fy a w 0 λe=>ae P zwx [(yP q),(yI e)] aw (λr t=>aB (α1:=Int) (λH l d=>(if decide (l<(r.len:Int)) then
 ((bI r.base r.len l)/\aN none Rp d (sat r.base 2 l) λb=>aM P DY [(yP m),(yI b.cU)] (λf=>H (yw (l+1)) f) d)
 else
 ah none n λg=>ot d g 6 λb=>ah none p λW=>fy d W 0 λz=>ae P Ae [(yI z)] yH (λX f=>(((aZ f (Addr.add g 6) [(yP b)])/\True)/\ae P D4 [(yP b),(yI X)] bH (λr2 u=>ah none n λD=>ot u D 6 λs=>ah none p λN=>fy u N 0 λx9=>ae P Bb [(yI x9)] yH (λY B=>(((aZ B (Addr.add D 6) [(yP s)])/\True)/\ae P D4 [(yP s),(yI Y)] bH (λr4 C=>ah none p λO=>ot C O 14 λZ=>ae P Ll [(yP Z)] aw (λi K=>aB (α1:=Int) (λI j c=>(if decide (j<(i.len:Int)) then
 ((bI i.base i.len j)/\aN none aC c (sat i.base 2 j) λF=>ah none m λR=>dI c R 11 λy=>((bI y.base y.len F.cU)/\aN none al c (sat y.base 1 F.cU) λa8=>aM P zZ [(yP m),(yP a8),(yI 2)] (λL=>I (yw (j+1)) L) c))
 else
 Q c)) 0 K) C) B)) u) f)) d)) 0 t) a)) 0 A)))
def Xu (P:Program) (a:Sl) (b:Sl) (Q:(Bool->(Hp->Prop))) (h:Hp):Prop:=
 (if ((a.len:Int) !=(b.len:Int))=true then
 Q false h
 else
 aB (α1:=Int) (λd i c=>(if decide (i<(a.len:Int)) then
 ((bI a.base a.len i)/\aN none yH c (sat a.base 1 i) λx=>((bI b.base b.len i)/\aN none yH c (sat b.base 1 i) λe=>(if (x !=e)=true then
 Q false c
 else
 d (yw (i+1)) c)))
 else
 Q true c)) 0 h)
def U0 (P:Program) (a:bF) (b:bF) (Q:(Bool->(Hp->Prop))) (h:Hp):Prop:=
 aF (((a.cF.len:Int) !=(b.cF.len:Int)) || ((a.bJ.len:Int) !=(b.bJ.len:Int))) λy=>aF (y || (a.jc !=b.jc)) λk=>aF (k || (a.fL !=b.fL)) λl=>(if l then
 Q false h
 else
 aB (α1:=Int) (λf i d=>(if decide (i<(a.cF.len:Int)) then
 ((bI a.cF.base a.cF.len i)/\aN none yH d (sat a.cF.base 1 i) λx=>((bI b.cF.base b.cF.len i)/\aN none yH d (sat b.cF.base 1 i) λe=>(if (x !=e)=true then
 Q false d
 else
 f (yw (i+1)) d)))
 else
 aB (α1:=Int) (λg i1 c=>(if decide (i1<(a.bJ.len:Int)) then
 ((bI a.bJ.base a.bJ.len i1)/\aN none aC c (sat a.bJ.base 2 i1) λx=>((bI b.bJ.base b.bJ.len i1)/\aN none aC c (sat b.bJ.base 2 i1) λe=>jC none P (dx .neq 254 (.tmp 66) (.tmp 71) x.v e.v) bH c λj=>(if j then
 Q false c
 else
 g (yw (i1+1)) c)))
 else
 Q true c)) 0 d)) 0 h)
def Hq (P:Program) (s:Sl) (Q:(Sl->(Hp->Prop))) (h:Hp):Prop:=
 jC none P (dx .eql 23 (.tmp 3) (.const yN) s.v yN) bH h λx=>(if x then
 Q ⟨none,0,0⟩ h
 else
 bc [] (λa b=>eC 1 8 [(yI 0)] ⟨(some a),0,0⟩ s (λr c=>Q r c) b) h)
def zqi (P:Program) (l:Option Addr) (Q:(bF->(Hp->Prop))) (h:Hp):Prop:=
 ah none l λp=>dI h p 1 λx=>ah none l λg=>dI h g 2 λi=>ah none l λc=>fy h c 3 λe=>ah none l λd=>fy h d 4 λf=>ae P Ux [x.v] aw (λr a=>(((aZ a (Addr.add g 2) [i.v])/\((aZ a (Addr.add c 3) [(yI e)])/\((aZ a (Addr.add d 4) [(yI f)])/\True)))/\ae P Tm [i.v] aw (λj b=>(((aZ b (Addr.add c 3) [(yI e)])/\((aZ b (Addr.add d 4) [(yI f)])/\True))/\Q ⟨r,j,e,f⟩ b)) a)) h
def Rh (P:Program) (w:Option Addr) (k:Int) (Q:(Sl->(Hp->Prop))) (h:Hp):Prop:=
 aB (α1:=Sl) (λf out b=>ah none w λp=>dI b p 0 λx=>ah (some (decide ((x.len:Int)>0))) w λl=>aN (some (decide ((x.len:Int)>0))) aw b (Addr.add l 0) λc=>(((decide ((x.len:Int)>0))=true->(bI c.base c.len 0))/\aN (some (decide ((x.len:Int)>0))) yH b (Addr.add (sat c.base 2 0) 0) λn=>aF ((decide ((x.len:Int)>0))&&(decide (n<=k))) λy=>(if y then
 ah none w λm=>dI b m 0 λd=>((bI d.base d.len 0)/\aN none yH b (Addr.add (sat d.base 2 0) 1) λe=>bc [(yI e)] (λa g=>eC 1 8 [(yI 0)] out ⟨(some a),1,1⟩ (λr i=>ae P D4 [(yP w),(yI e)] bH (λo j=>f r j) i) g) b)
 else
 Q out b))) ⟨none,0,0⟩ h
def WA (P:Program) (m:Option Addr) (p:Option Addr) (c:br) (Q:(Hp->Prop)) (h:Hp):Prop:=
 ah none p λd=>cX h (Addr.add d 3) [(yI 0)] (λa=>((True/\True)/\ah none p λe=>cX a (Addr.add e 4) [(yI c.PC),(yI c.cl),(yI c.cm),(yI c.cn),(yI c.cp),(yI c.cq),(yI c.cv),(yI c.cw),(yI c.cC)] (λb=>Q b)))
def EM (P:Program) (c:br) (Q:(br->(Hp->Prop))) (h:Hp):Prop:=
 Q ⟨(yw (c.PC+1)),c.cl,c.cm,c.cn,c.cp,c.cq,c.cv,c.cw,c.cC⟩ h
def EN (P:Program) (c:br) (l:Sl) (tick:Int) (H:Int) (Q:(br->(fe->(Hp->Prop)))) (h:Hp):Prop:=
 bc [(yI c.PC),(yI c.cl),(yI c.cm),(yI c.cn),(yI c.cp),(yI c.cq),(yI c.cv),(yI c.cw),(yI c.cC)] (λa o=>aN none fM o a λx=>bt P yX [x.v,l.v] aT bH (λr q w=>dm (some (!(!q))) (ae P RH [r.v,(yI (l.len:Int)),(yI 8)] yH) (λr2 j=>aF ((!q) || (r2 !=0)) λy=>(if y then
 aN none fM j a λn=>Q n ⟨1,0,0⟩ j
 else
 aN none Af j (Addr.add a 1) λn=>jz P Eh [r.v,n.v] FP bH bH (λs D E e=>(if E then
 (if D then
 aN none fM e a λb=>((True/\True)/\Q b s e)
 else
 aN none fM e a λb=>ae P Ag [b.v] fM (λi d=>((True/\True)/\((True/\True)/\Q i s d))) e)
 else
 aN none Af e (Addr.add a 1) λb=>kL (α1:=br) (α2:=fe) (λk=>(if (r.Op==1)=true then
 aM P yU [(yP (some a)),(yI r.A),(yI r.jM)] (λd=>k ⟨0,0,0,0,0,0,0,0,0⟩ ⟨0,0,0⟩ d) e
 else
 (if (r.Op==2)=true then
 ((0<=r.B/\r.B<8)/\∃f:Int,((List.get?Internal (α:=Value) [(yI b.a0),(yI b.a1),(yI b.a2),(yI b.a3),(yI b.a4),(yI b.a5),(yI b.a6),(yI b.a7)] (0+((Int.toNat r.B)*1)))=(some (yI f))/\aM P yU [(yP (some a)),(yI r.A),(yI f)] (λd=>k ⟨0,0,0,0,0,0,0,0,0⟩ ⟨0,0,0⟩ d) e))
 else
 (if (r.Op==32)=true then
 aM P yU [(yP (some a)),(yI r.A),(yI tick)] (λd=>k ⟨0,0,0,0,0,0,0,0,0⟩ ⟨0,0,0⟩ d) e
 else
 (if (r.Op==33)=true then
 aM P yU [(yP (some a)),(yI r.A),(yI H)] (λd=>k ⟨0,0,0,0,0,0,0,0,0⟩ ⟨0,0,0⟩ d) e
 else
 (if (r.Op==22)=true then
 cX e (Addr.add a 0) [(yI r.jM)] (λd=>aN none fM d a λf=>Q f ⟨0,0,0⟩ d)
 else
 (if (r.Op==23)=true then
 ((0<=r.A/\r.A<8)/\∃f:Int,((List.get?Internal (α:=Value) [(yI b.a0),(yI b.a1),(yI b.a2),(yI b.a3),(yI b.a4),(yI b.a5),(yI b.a6),(yI b.a7)] (0+((Int.toNat r.A)*1)))=(some (yI f))/\(if (f==0)=true then
 k ⟨0,0,0,0,0,0,0,0,0⟩ ⟨0,0,0⟩ e
 else
 cX e (Addr.add a 0) [(yI r.jM)] (λd=>aN none fM d a λm=>Q m ⟨0,0,0⟩ d))))
 else
 ((0<=r.B/\r.B<8)/\∃f:Int,((List.get?Internal (α:=Value) [(yI b.a0),(yI b.a1),(yI b.a2),(yI b.a3),(yI b.a4),(yI b.a5),(yI b.a6),(yI b.a7)] (0+((Int.toNat r.B)*1)))=(some (yI f))/\((0<=r.C/\r.C<8)/\∃m:Int,((List.get?Internal (α:=Value) [(yI b.a0),(yI b.a1),(yI b.a2),(yI b.a3),(yI b.a4),(yI b.a5),(yI b.a6),(yI b.a7)] (0+((Int.toNat r.C)*1)))=(some (yI m))/\bt P F0 [(yI r.Op),(yI f),(yI m)] yH yH (λi F d=>dj (α1:=Int) (λp=>(if (F !=0)=true then
 ((0<=r.B/\r.B<8)/\∃t:Int,((List.get?Internal (α:=Value) [(yI b.a0),(yI b.a1),(yI b.a2),(yI b.a3),(yI b.a4),(yI b.a5),(yI b.a6),(yI b.a7)] (0+((Int.toNat r.B)*1)))=(some (yI t))/\((0<=r.C/\r.C<8)/\∃u:Int,((List.get?Internal (α:=Value) [(yI b.a0),(yI b.a1),(yI b.a2),(yI b.a3),(yI b.a4),(yI b.a5),(yI b.a6),(yI b.a7)] (0+((Int.toNat r.C)*1)))=(some (yI u))/\bt P F6 [(yI r.Op),(yI t),(yI u)] yH yH (λG I g=>p G g) d))))
 else
 p i d))
 (λv g=>aM P yU [(yP (some a)),(yI r.A),(yI v)] (λz=>k ⟨0,0,0,0,0,0,0,0,0⟩ ⟨0,0,0⟩ z) g)) e)))))))))))
 (λJ K d=>aN none fM d a λf=>ae P Ag [f.v] fM (λi g=>Q i ⟨0,0,0⟩ g) d))) j)) w) o) h
def VT (P:Program) (m:Option Addr) (p:Option Addr) (to:Int) (v:Int) (Q:(Hp->Prop)) (h:Hp):Prop:=
 ah (some (!(decide (to<0)))) m λC=>aN (some (!(decide (to<0)))) aw h (Addr.add C 11) λx=>aF ((decide (to<0)) || (decide (to>=(x.len:Int)))) λy=>(if y then
 aM P zZ [(yP m),(yP p),(yI 1)] (λa=>Q a) h
 else
 ah none m λE=>dI h E 11 λz=>((bI z.base z.len to)/\aN none al h (sat z.base 1 to) λe=>ah none m λF=>ot h F 7 λI=>ah none p λG=>fy h G 1 λJ=>ah none e λH=>fy h H 1 λK=>ae P Y5 [(yP I),(yI J),(yI K)] bH (λr a=>(if (!r)=true then
 ah none m λl=>dI a l 10 λf=>ah none p λn=>fy a n 1 λg=>((bI f.base f.len g)/\aN none al a (sat f.base 1 g) λq=>ah none m λu=>dI a u 10 λj=>ah none p λw=>fy a w 1 λo=>((bI j.base j.len o)/\aN none al a (sat j.base 1 o) λA=>ah none A λs=>fy a s 4 λB=>ae P Rq [(yI B)] yH (λd b=>(((aZ b (Addr.add l 10) [f.v])/\((aZ b (Addr.add n 1) [(yI g)])/\((aZ b (sat f.base 1 g) [(yP q)])/\True)))/\ah none q λt=>cX b (Addr.add t 4) [(yI d)] (λc=>aM P zZ [(yP m),(yP p),(yI 0)] (λi=>Q i) c))) a))
 else
 ah none p λl=>fy a l 1 λf=>ah none e λn=>fy a n 1 λg=>(if (f==g)=true then
 aM P Vd [(yP m),(yP p),(yP e),(yI v)] (λb=>Q b) a
 else
 da (λk=>ah none e λu=>fy a u 3 λq=>ae P D7 [(yI q)] bH (λd b=>ah (some (!(!d))) e λw=>aN (some (!(!d))) al b (Addr.add w 14) λj=>ah (some (!(!d))) p λs=>aN (some (!(!d))) yH b (Addr.add s 1) λo=>dm (some (!(!d))) (ae P Rk [(yP j),(yI o),(yI v)] yH) (λr2 c=>aF ((!d) || (r2 !=0)) λL=>(if L then
 ah none e λt=>ot c t 14 λA=>ah none p λD=>fy c D 1 λB=>aM P MZ [(yP A),(yI B)] (λi=>k i) c
 else
 aM P LQ [(yP m),(yP e)] (λi=>k i) c)) b) a)
 (λb=>aM P zZ [(yP m),(yP p),(yI 0)] (λc=>Q c) b)))) h))
def VU (P:Program) (m:Option Addr) (p:Option Addr) (w:Bool) (Q:(Hp->Prop)) (h:Hp):Prop:=
 ah none p λo=>ot h o 14 λx=>Cz P zrr [(yP x)] yH yH aC bH yH (λr s r2 t u b=>(if (u==0)=true then
 ah none p λl=>aN none fM b (Addr.add l 4) λn=>ah none p λe=>dI b e 2 λj=>ae P A7 [n.v,j.v,(yI r),(yI s)] fM (λa c=>ah none p λg=>cX c (Addr.add g 4) [(yI a.PC),(yI a.cl),(yI a.cm),(yI a.cn),(yI a.cp),(yI a.cq),(yI a.cv),(yI a.cw),(yI a.cC)] (λd=>(if t then
 ah none m λi=>dI d i 11 λf=>((bI f.base f.len r2.cU)/\aN none al d (sat f.base 1 r2.cU) λy=>aM P zZ [(yP m),(yP y),(yI 0)] (λk=>Q k) d)
 else
 Q d))) b
 else
 ah none p λl=>aN none bH b (Addr.add l 13) λn=>(if n then
 ah none p λe=>cX b (Addr.add e 13) [(.bool false)] (λc=>ah none p λg=>aN none fM c (Addr.add g 4) λj=>ah none p λi=>dI c i 2 λf=>ae P A7 [j.v,f.v,(yI 0),(yI (-2))] fM (λa d=>ah none p λq=>cX d (Addr.add q 4) [(yI a.PC),(yI a.cl),(yI a.cm),(yI a.cn),(yI a.cp),(yI a.cq),(yI a.cv),(yI a.cw),(yI a.cC)] (λk=>Q k)) c)
 else
 (if w then
 ah none p λe=>aN none fM b (Addr.add e 4) λj=>ah none p λg=>dI b g 2 λf=>ae P A7 [j.v,f.v,(yI 0),(yI (-1))] fM (λa c=>ah none p λi=>cX c (Addr.add i 4) [(yI a.PC),(yI a.cl),(yI a.cm),(yI a.cn),(yI a.cp),(yI a.cq),(yI a.cv),(yI a.cw),(yI a.cC)] (λd=>Q d)) b
 else
 ah none p λe=>cX b (Addr.add e 3) [(yI 1)] (λc=>Q c))))) h
def Q6 (P:Program) (w:Option Addr) (dY:Int) (Q:(Bool->(Hp->Prop))) (h:Hp):Prop:=
 ah none w λp=>aN none ig h (Addr.add p 1) λx=>pA none (.int .i64) bn (.agg #[(yI 0),(yI 0)]) x (yI dY) h λn ok=>(if (!ok)=true then
 Q false h
 else
 ah none w λk=>dI h k 0 λc=>aB (α1:=Int) (λi b a=>(if decide (b<(c.len:Int)) then
 ((bI c.base c.len b)/\aN none bn a (sat c.base 2 b) λf=>jC none P (dx .eql 216 (.tmp 30) (.tmp 31) f.v n.v) bH a λo=>(if o then
 ah none w λe=>dI a e 0 λq=>ae P zdp [q.v,(yI b),(yI (yw (b+1)))] aw (λr d=>ah none w λl=>cX d (Addr.add l 0) [r.v] (λg=>ah none w λm=>aN none ig g (Addr.add m 1) λs=>zk (.int .i64) s (yI dY) (λj=>Q true j) g)) a
 else
 i (yw (b+1)) a))
 else
 ah none w λe=>aN none ig a (Addr.add e 1) λf=>zk (.int .i64) f (yI dY) (λd=>Q true d) a)) 0 h)
def Z2 (P:Program) (l:Option Addr) (n:Int) (p:Int) (Q:(Bool->(Int->(Hp->Prop)))) (h:Hp):Prop:=
 ae P Y7 [(yP l),(yI n),(yI p)] yH (λr i=>(if (r !=0)=true then
 Q false r i
 else
 bt P Q2 [(yP l),(yI p)] yH bH (λy r2 c=>(if r2 then
 Q false 20 c
 else
 ah none l λq=>dI c q 0 λx=>((bI x.base x.len n)/\da (λk=>ah none (some (sat x.base 2 n)) λe=>fy c e 0 λf=>(if (f==(-1))=true then
 ah none (some (sat x.base 2 n)) λd=>cX c (Addr.add d 0) [(yI p)] (λb=>k b)
 else
 k c))
 (λb=>ah none (some (sat x.base 2 n)) λe=>fy b e 0 λf=>(if (f !=p)=true then
 ah none (some (sat x.base 2 n)) λd=>dI b d 1 λg=>bc [(yI p)] (λa m=>eC 1 8 [(yI 0)] g ⟨(some a),1,1⟩ (λu o=>ah none (some (sat x.base 2 n)) λs=>cX o (Addr.add s 1) [u.v] (λj=>ah none (some (sat x.base 2 n)) λt=>fy j t 0 λw=>Q (w==p) 0 j)) m) b
 else
 ah none (some (sat x.base 2 n)) λd=>fy b d 0 λg=>Q (g==p) 0 b))))) i)) h
def U1 (P:Program) (s:Sl) (v:Int) (Q:(Bool->(Hp->Prop))) (h:Hp):Prop:=
 ae P Wg [s.v,(yI v)] yH (λr a=>Q (decide (r>=0)) a) h
def Zo (P:Program) (l:Option Addr) (p:Int) (Q:(Sl->(Hp->Prop))) (h:Hp):Prop:=
 ah none l λi=>dI h i 0 λx=>bL (α1:=Sl) (α2:=Int) (λe out b c=>(if decide (b<(x.len:Int)) then
 dj (α1:=Sl) (λk=>((bI x.base x.len b)/\aN none fO c (sat x.base 2 b) λj=>aF ((j.owner==p)&&(p !=(-1))) λy=>(if y then
 bc [(yI b)] (λa d=>eC 1 8 [(yI 0)] ⟨out.base,out.len,out.cap⟩ ⟨(some a),1,1⟩ (λr f=>k r f) d) c
 else
 k ⟨out.base,out.len,out.cap⟩ c)))
 (λg d=>e g (yw (b+1)) d)
 else
 Q ⟨out.base,out.len,out.cap⟩ c)) ⟨none,0,0⟩ 0 h
def Z4 (P:Program) (l:Option Addr) (n:Int) (p:Int) (Q:(Int->(Int->(Hp->Prop)))) (h:Hp):Prop:=
 ae P Y7 [(yP l),(yI n),(yI p)] yH (λr a=>(if (r !=(0:Int))=true then
 Q (0:Int) r a
 else
 ah none l λo=>dI a o 0 λx=>((bI x.base x.len n)/\ah none (some (sat x.base 2 n)) λs=>fy a s 0 λA=>(if (A !=p)=true then
 ah none (some (sat x.base 2 n)) λe=>fy a e 0 λi=>Q i (0:Int) a
 else
 ah none (some (sat x.base 2 n)) λe=>dI a e 1 λi=>(if ((i.len:Int)==(0:Int))=true then
 ah none (some (sat x.base 2 n)) λf=>cX a (Addr.add f 0) [(yI (-1:Int))] (λb=>ah none (some (sat x.base 2 n)) λg=>fy b g 0 λc=>Q c (0:Int) b)
 else
 ah none (some (sat x.base 2 n)) λf=>dI a f 1 λc=>((bI c.base c.len (0:Int))/\aN none yH a (sat c.base 1 (0:Int)) λB=>ah none (some (sat x.base 2 n)) λg=>cX a (Addr.add g 0) [(yI B)] (λb=>ah none (some (sat x.base 2 n)) λt=>dI b t 1 λm=>ah none (some (sat x.base 2 n)) λu=>dI b u 1 λj=>ah none (some (sat x.base 2 n)) λw=>dI b w 1 λd=>(((0:Int)<=(1:Int)/\((1:Int)<=(j.len:Int)/\((j.len:Int)<=(d.len:Int)/\(d.len:Int)<=(m.cap:Int))))/\aF (α:=Sl) ⟨(bq m.base 1 1 (Int.toNat (d.len:Int))),((Int.toNat (j.len:Int))-1),((Int.toNat (d.len:Int))-1)⟩ λy=>ah none (some (sat x.base 2 n)) λz=>cX b (Addr.add z 1) [y.v] (λk=>ah none (some (sat x.base 2 n)) λq=>fy k q 0 λC=>Q C (0:Int) k))))))))) h
def VX (P:Program) (m:Option Addr) (my:Int) (Q:(Hp->Prop)) (h:Hp):Prop:=
 (if decide (my>=0) then
 ah none m λp=>dI h p 11 λx=>((bI x.base x.len my)/\aN none al h (sat x.base 1 my) λc=>ah none m λe=>dI h e 11 λb=>((bI b.base b.len my)/\aN none al h (sat b.base 1 my) λg=>ah none g λf=>aN none fM h (Addr.add f 4) λi=>ae P Ag [i.v] fM (λr a=>(((aZ a (Addr.add p 11) [x.v])/\((aZ a (sat x.base 1 my) [(yP c)])/\True))/\aM P LR [(yP m),(yP c),r.v] (λd=>Q d) a)) h))
 else
 Q h)
def zvt (P:Program) (n:Int) (Q:(Int->(Hp->Prop))) (h:Hp):Prop:=
 Q (jV (yw (n+1)) 65535) h
def Xw (P:Program) (a:Sl) (b:Sl) (Q:(Bool->(Hp->Prop))) (h:Hp):Prop:=
 (if ((a.len:Int) !=(b.len:Int))=true then
 Q false h
 else
 aB (α1:=Int) (λd i c=>(if decide (i<(a.len:Int)) then
 ((bI a.base a.len i)/\aN none aT c (sat a.base 5 i) λx=>((bI b.base b.len i)/\aN none aT c (sat b.base 5 i) λe=>jC none P (dx .neq 87 (.tmp 20) (.tmp 24) x.v e.v) bH c λf=>(if f then
 Q false c
 else
 d (yw (i+1)) c)))
 else
 Q true c)) 0 h)
def WC (P:Program) (x:aS) (n:Int) (ag:Int) (Q:(Int->(Hp->Prop))) (h:Hp):Prop:=
 bt P Wi [x.v,(yI n),(yI ag)] yH yH (λr b a=>Q r a) h
def Yo (P:Program) (a:be) (i:Int) (Q:(Bool->(Hp->Prop))) (h:Hp):Prop:=
 bc [a.dq.v,a.fw.v,(yI a.iV),(yI a.gC),(yI a.fR),(yI a.iL),a.bW.v,(yI a.kg),a.gz.v,a.cT.v,(yP a.t)] (λa1 z=>bc [(yI i)] (λa2 e=>aN none aw e (Addr.add (Addr.add a1 7) 1) λx=>aN none yH e a2 λp=>((bI x.base x.len p)/\aN none bx e (sat x.base 6 p) λb=>aN (some ((!(decide (b.Cursor<0)))&&(decide (b.Cursor>0)))) bz e a1 λC=>aN (some ((!(decide (b.Cursor<0)))&&(decide (b.Cursor>0)))) yH e a2 λD=>dm (some ((!(decide (b.Cursor<0)))&&(decide (b.Cursor>0)))) (ae P zsj [C.v,(yI D)] yH) (λr m=>((True/\True)/\aF ((decide (b.Cursor>0))&&(decide (b.Cursor>=r))) λy=>aF ((decide (b.Cursor<0)) || y) λq=>aN (some (!q)) yH m (Addr.add (Addr.add a1 0) 5) λE=>aF (q || (decide ((b.Log.len:Int)>E))) λG=>(if G then
 Q false m
 else
 bL (α1:=Int) (α2:=Int) (λw last l f=>(if decide (l<(b.Log.len:Int)) then
 ((bI b.Log.base b.Log.len l)/\aN none cW f (sat b.Log.base 3 l) λc=>aN (some (!(decide (c.eZ<last)))) yH f (Addr.add (Addr.add a1 7) 0) λn=>aF ((decide (c.eZ<last)) || (decide (c.eZ>=n))) λd=>aN (some (!d)) bz f a1 λo=>aN (some (!d)) yH f a2 λF=>dm (some (!d)) (ae P Mj [o.v,(yI c.cU),(yI F)] bH) (λk j=>aF (d || (!k)) λy4=>(if y4 then
 Q false j
 else
 w c.eZ (yw (l+1)) j)) f)
 else
 ae P Nt [(yI b.lu)] bH (λk j=>dm (some (!(!k))) (ae P Nt [(yI b.dp)] bH) (λr2 g=>aF ((!k) || (!r2)) λd=>aN (some ((!d)&&(decide (b.lu>0)))) yH g (Addr.add (Addr.add a1 0) 5) λc=>aF ((decide (b.lu>0))&&(decide ((b.Log.len:Int)<c))) λy4=>aF (d || y4) λs=>aN (some (!s)) yH g (Addr.add (Addr.add a1 0) 4) λn=>aF (s || ((b.cE.len:Int) !=n)) λu=>aN (some (!u)) yH g (Addr.add (Addr.add a1 0) 4) λo=>aF (u || ((b.bQ.len:Int) !=o)) λH=>(if H then
 Q false g
 else
 ae P zia [b.cE.v,(.func (.func 223) #[] #[(yP (some a1)),(yP (some a2))])] bH (λB A=>Q (!B) A) g)) j) f)) 0 0 m))) e)) z) h
def Yq (P:Program) (a:be) (p:Int) (Q:(Bool->(Hp->Prop))) (h:Hp):Prop:=
 ((bI a.cT.base a.cT.len p)/\aN none aI h (sat a.cT.base 15 p) λx=>((bI a.bW.base a.bW.len p)/\aN none bT h (sat a.bW.base 2 p) λl=>((True/\((aZ h (sat a.bW.base 2 p) [(yI l.Part),l.Code.v])/\True))/\dj (α1:=Bool) (λk=>aF ((decide (x.State<0)) || (decide (x.State>6))) λy=>(if y then
 k y h
 else
 aF ((decide (x.PC<0)) || (decide (x.PC>(l.Code.len:Int)))) λf=>(if f then
 k f h
 else
 (if ((x.cR.len:Int) !=(yw ((a.dq.len:Int)+1)))=true then
 k ((x.cR.len:Int) !=(yw ((a.dq.len:Int)+1))) h
 else
 aF ((decide (x.Cursor<0)) || (decide (x.Cursor>=(x.cR.len:Int)))) λi=>k i h))))
 (λC j=>(if C then
 Q false j
 else
 dj (α1:=Bool) (λk=>aF ((decide (x.Timer<0)) || (decide (x.Timer>(yw (a.kg+1099511627776))))) λy=>(if y then
 k y j
 else
 aF ((decide (x.iU<0)) || (decide (x.iU>(yw (a.kg+1099511627776))))) λf=>(if f then
 k f j
 else
 k (!((decide (x.iU>0))==(x.State==4))) j)))
 (λD n=>(if D then
 Q false n
 else
 ae P D7 [(yI x.State)] bH (λr o=>aF ((x.Timer !=0) || x.fH) λy=>aF ((!r)&&y) λf=>(if f then
 Q false o
 else
 bL (α1:=Bool) (α2:=Int) (λz some_ g e=>(if decide (g<(x.cR.len:Int)) then
 ((bI x.cR.base x.cR.len g)/\aN none bd e (sat x.cR.base 4 g) λd=>aF ((decide ((d.cF.len:Int)>0)) || (decide (d.jc>0))) λi=>aF (i || (decide (d.fL>0))) λm=>dm (some (!(decide ((d.cF.len:Int)>a.gC)))) (ae P Nt [(yI d.jc)] bH) (λc b=>aF ((decide ((d.cF.len:Int)>a.gC)) || (!c)) λs=>dm (some (!s)) (ae P Nt [(yI d.fL)] bH) (λr2 A=>aF (s || (!r2)) λu=>aF (m&&(decide (g<(a.dq.len:Int)))) λw=>dm (some ((!u)&&w)) (ae P Y5 [(yP a.t),(yI g),(yI l.Part)] bH) (λB q=>aF (w&&(!B)) λy7=>aF (u || y7) λE=>(if E then
 Q false q
 else
 aF (some_ || (decide ((d.cF.len:Int)>0))) λF=>z F (yw (g+1)) q)) A) b) e)
 else
 (if (x.State==1)=true then
 ae P Ml [a.v,(yI p)] yH (λc b=>aF ((c==25)&&(!some_)) λi=>aF (i&&(!x.fH)) λm=>Q m b) e
 else
 (if (x.State==2)=true then
 ae P Ml [a.v,(yI p)] yH (λc b=>Q (c==24) b) e
 else
 (if (x.State==3)=true then
 ae P Ml [a.v,(yI p)] yH (λc b=>Q (c==29) b) e
 else
 (if (x.State==4)=true then
 ae P Ml [a.v,(yI p)] yH (λc b=>Q (c==28) b) e
 else
 Q true e)))))) false 0 o)) n)))))))
def Xy (P:Program) (a:be) (Q:(Bool->(Hp->Prop))) (h:Hp):Prop:=
 dU 8 [(yI 0)] (a.cT.len:Int) (a.cT.len:Int) (λr H=>aB (α1:=Int) (λF q A=>(if decide (q<(a.gz.len:Int)) then
 ((bI a.gz.base a.gz.len q)/\aN none bx A (sat a.gz.base 6 q) λx=>aB (α1:=Int) (λz f g=>(if decide (f<(x.bQ.len:Int)) then
 ((bI x.bQ.base x.bQ.len f)/\aN none aw g (sat x.bQ.base 1 f) λd=>aB (α1:=Int) (λo u c=>(if decide (u<(d.len:Int)) then
 ((bI d.base d.len u)/\aN none yH c (sat d.base 1 u) λb=>ae P Mj [a.v,(yI b),(yI q)] bH (λp e=>(((!(!p))=true->(bI a.cT.base a.cT.len b))/\aN (some (!(!p))) yH e (Addr.add (sat a.cT.base 15 b) 0) λw=>aF ((!p) || (w !=3)) λy=>dm (some (!y)) (ae P Q3 [a.v,(yI b)] aT) (λr2 i=>aF (y || (r2.jM !=f)) λs=>(((!s)=true->(bI x.cE.base x.cE.len f))/\aN (some (!s)) yH i (sat x.cE.base 1 f) λD=>aF (s || (decide (D<0))) λn=>(((!n)=true->(bI x.cE.base x.cE.len f))/\aN (some (!n)) yH i (sat x.cE.base 1 f) λK=>aF (n || (K==b)) λE=>(if E then
 Q false i
 else
 ((bI r.base r.len b)/\aN none yH i (sat r.base 1 b) λL=>((bI r.base r.len b)/\cX i (sat r.base 1 b) [(yI (yw (L+1)))] (λB=>o (yw (u+1)) B))))))) e)) c)
 else
 z (yw (f+1)) c)) 0 g)
 else
 F (yw (q+1)) g)) 0 A)
 else
 aB (α1:=Int) (λz j g=>(if decide (j<(a.cT.len:Int)) then
 ((bI a.cT.base a.cT.len j)/\aN none aI g (sat a.cT.base 15 j) λx=>aB (α1:=Int) (λo l c=>(if decide (l<(x.cR.len:Int)) then
 ((bI x.cR.base x.cR.len l)/\aN none bd c (sat x.cR.base 4 l) λd=>aB (α1:=Int) (λG t e=>(if decide (t<(d.bJ.len:Int)) then
 ((bI d.bJ.base d.bJ.len t)/\aN none aC e (sat d.bJ.base 2 t) λb=>((bI a.bW.base a.bW.len j)/\aN none yH e (Addr.add (sat a.bW.base 2 j) 0) λw=>dm (some (!(l !=w))) (ae P Mj [a.v,(yI b.cU),(yI l)] bH) (λp i=>aF ((l !=w) || (!p)) λy=>dm (some (!y)) (ae P D7 [(yI x.State)] bH) (λr2 B=>aF (y || (!r2)) λs=>aF (s || ((d.cF.len:Int) !=a.gC)) λn=>dm (some (!n)) (ae P zrj [a.v,b.v,(yI j)] bH) (λJ C=>aF (n || (!J)) λE=>(if E then
 Q false C
 else
 ((bI r.base r.len b.cU)/\aN none yH C (sat r.base 1 b.cU) λD=>((bI r.base r.len b.cU)/\cX C (sat r.base 1 b.cU) [(yI (yw (D+1)))] (λI=>G (yw (t+1)) I))))) B) i) e))
 else
 o (yw (l+1)) e)) 0 c)
 else
 z (yw (j+1)) c)) 0 g)
 else
 aB (α1:=Int) (λo m c=>(if decide (m<(a.cT.len:Int)) then
 ((bI a.cT.base a.cT.len m)/\aN none aI c (sat a.cT.base 15 m) λx=>dj (α1:=Int) (λk=>aF ((x.State==3) || (x.State==2)) λy=>(if y then
 k 1 c
 else
 k 0 c))
 (λcQ e=>((bI r.base r.len m)/\aN none yH e (sat r.base 1 m) λd=>(if (d !=cQ)=true then
 Q false e
 else
 o (yw (m+1)) e))))
 else
 Q true c)) 0 g)) 0 A)) 0 H) h
def EO (P:Program) (b:Sl) (n:Int) (many:Int) (Q:(Sl->(Hp->Prop))) (h:Hp):Prop:=
 bL (α1:=Sl) (α2:=Int) (λf c d e=>(if decide (d<many) then
 (0<=(yw (8*d))/\bc [(.int .u8 (IntKind.wrap .u8 (gQ .u64 n (yw (8*d)))))] (λa g=>eC 1 1 [(.int .u8 0)] ⟨c.base,c.len,c.cap⟩ ⟨(some a),1,1⟩ (λr i=>f r (yw (d+1)) i) g) e)
 else
 Q ⟨c.base,c.len,c.cap⟩ e)) b 0 h
def zyx (P:Program) (l:Sl) (Q:(Sl->(Int->(Int->(Hp->Prop))))) (h:Hp):Prop:=
 bt P A5 [l.v,(yI 8)] yH yH (λr s g=>(if (r !=0)=true then
 Q ⟨none,0,0⟩ r s g
 else
 dU 1 [(.int .u8 0)] 0 (yw (12*(l.len:Int))) (λr2 m=>bL (α1:=Sl) (α2:=Int) (λj b d f=>(if decide (d<(l.len:Int)) then
 ((bI l.base l.len d)/\aN none aT f (sat l.base 5 d) λx=>bc [(.int .u8 (IntKind.wrap .u8 x.Op)),(.int .u8 (IntKind.wrap .u8 x.A)),(.int .u8 (IntKind.wrap .u8 x.B)),(.int .u8 (IntKind.wrap .u8 x.C))] (λa n=>eC 1 1 [(.int .u8 0)] ⟨b.base,b.len,b.cap⟩ ⟨(some a),4,4⟩ (λt o=>bL (α1:=Sl) (α2:=Int) (λk c e i=>(if decide (e<8) then
 (0<=(yw (8*e))/\bc [(.int .u8 (IntKind.wrap .u8 (gQ .u64 (IntKind.wrap .u64 x.jM) (yw (8*e)))))] (λa1 p=>eC 1 1 [(.int .u8 0)] ⟨c.base,c.len,c.cap⟩ ⟨(some a1),1,1⟩ (λu q=>k u (yw (e+1)) q) p) i)
 else
 j ⟨c.base,c.len,c.cap⟩ (yw (d+1)) i)) t 0 o) n) f)
 else
 Q ⟨b.base,b.len,b.cap⟩ 0 0 f)) r2 0 m) g)) h
def Z6 (P:Program) (w:Option Addr) (x:bF) (Q:(Hp->Prop)) (h:Hp):Prop:=
 ah none w λp=>aM P ou [(yP (some (Addr.add p 0))),(yI (x.cF.len:Int)),(yI 1)] (λo=>aB (α1:=Int) (λm a d=>(if decide (a<(x.cF.len:Int)) then
 ((bI x.cF.base x.cF.len a)/\aN none yH d (sat x.cF.base 1 a) λc=>ah none w λj=>aM P u4 [(yP (some (Addr.add j 0))),(yI c),(yI 8)] (λe=>m (yw (a+1)) e) d)
 else
 ah none w λj=>aM P ou [(yP (some (Addr.add j 0))),(yI (x.bJ.len:Int)),(yI 1)] (λe=>aB (α1:=Int) (λn b f=>(if decide (b<(x.bJ.len:Int)) then
 ((bI x.bJ.base x.bJ.len b)/\aN none aC f (sat x.bJ.base 2 b) λc=>ah none w λk=>aM P ou [(yP (some (Addr.add k 0))),(yI c.cU),(yI 1)] (λg=>ah none w λl=>aM P u4 [(yP (some (Addr.add l 0))),(yI c.dt),(yI 8)] (λi=>n (yw (b+1)) i) g) f)
 else
 ah none w λk=>aM P ou [(yP (some (Addr.add k 0))),(yI x.jc),(yI 2)] (λg=>ah none w λl=>aM P ou [(yP (some (Addr.add l 0))),(yI x.fL),(yI 2)] (λi=>Q i) g) f)) 0 e) d)) 0 o) h
def QL (P:Program) (s:Sl) (Q:(Sl->(Hp->Prop))) (h:Hp):Prop:=
 jC none P (dx .eql 22 (.tmp 3) (.const yN) s.v yN) bH h λx=>(if x then
 Q ⟨none,0,0⟩ h
 else
 bc [] (λa b=>eC 1 8 [(.int .u64 0)] ⟨(some a),0,0⟩ s (λr c=>Q r c) b) h)
def zga (P:Program) (s:Sl) (Q:(Sl->(Hp->Prop))) (h:Hp):Prop:=
 jC none P (dx .eql 24 (.tmp 3) (.const yN) s.v yN) bH h λx=>(if x then
 Q ⟨none,0,0⟩ h
 else
 bc [] (λa b=>eC 2 32 [(yI 0),yN] ⟨(some a),0,0⟩ s (λr c=>Q r c) b) h)
def zgt (P:Program) (s:Sl) (Q:(Sl->(Hp->Prop))) (h:Hp):Prop:=
 jC none P (dx .eql 75 (.tmp 3) (.const yN) s.v yN) bH h λx=>(if x then
 Q ⟨none,0,0⟩ h
 else
 bc [] (λa b=>eC 5 40 [(yI 0),(yI 0),(yI 0),(yI 0),(yI 0)] ⟨(some a),0,0⟩ s (λr c=>Q r c) b) h)
def zqj (P:Program) (r:Option Addr) (many:Int) (Q:(Int->(Hp->Prop))) (h:Hp):Prop:=
 ah none r λp=>fy h p 2 λx=>(if (x !=0)=true then
 Q 0 h
 else
 ah none r λk=>dI h k 0 λt=>ah none r λl=>fy h l 1 λu=>(if (decide ((yw ((t.len:Int)-u))<many))=true then
 ah none r λe=>dI h e 0 λc=>aM P yO [(yP r),(yI 5),(yI (c.len:Int))] (λa=>Q 0 a) h
 else
 ah none r λe=>dI h e 0 λc=>ah none r λm=>fy h m 1 λd=>ah none r λo=>fy h o 1 λf=>((0<=d/\(d<=(yw (f+many))/\(yw (f+many))<=(c.cap:Int)))/\aF (α:=Sl) ⟨(bq c.base 1 (Int.toNat d) c.cap),((Int.toNat (yw (f+many)))-(Int.toNat d)),(c.cap-(Int.toNat d))⟩ λy=>bL (α1:=Int) (α2:=Int) (λi n b a=>(if decide (b<(y.len:Int)) then
 ((bI y.base y.len b)/\aN none (af .u8) a (sat y.base 1 b) λg=>(0<=(yw (8*b))/\i (eK .or .u64 n (qJ .u64 (IntKind.wrap .u64 g) (yw (8*b)))) (yw (b+1)) a))
 else
 ah none r λq=>fy a q 1 λg=>ah none r λs=>cX a (Addr.add s 1) [(yI (yw (g+many)))] (λj=>Q (yw n) j))) 0 0 h)))
def Ys (P:Program) (r:Option Addr) (Q:(Hp->Prop)) (h:Hp):Prop:=
 ah none r λp=>ae P sM [(yP (some (Addr.add p 0))),(yI 4)] yH (λd a=>ah none r λq=>aN none yH a (Addr.add (Addr.add q 0) 2) λx=>(if (x !=0)=true then
 Q a
 else
 ah none r λs=>aN none aw a (Addr.add (Addr.add s 0) 0) λA=>ah none r λt=>aN none yH a (Addr.add (Addr.add t 0) 1) λB=>(if (decide ((yw ((A.len:Int)-B))<d))=true then
 ah none r λg=>ah none r λi=>aN none aw a (Addr.add (Addr.add i 0) 0) λb=>aM P yO [(yP (some (Addr.add g 0))),(yI 5),(yI (b.len:Int))] (λc=>Q c) a
 else
 ah none r λg=>aN none aw a (Addr.add (Addr.add g 0) 0) λb=>ah none r λi=>aN none yH a (Addr.add (Addr.add i 0) 1) λe=>ah none r λu=>aN none yH a (Addr.add (Addr.add u 0) 1) λl=>((0<=e/\(e<=(yw (l+d))/\(yw (l+d))<=(b.cap:Int)))/\aF (α:=Sl) ⟨(bq b.base 1 (Int.toNat e) b.cap),((Int.toNat (yw (l+d)))-(Int.toNat e)),(b.cap-(Int.toNat e))⟩ λy=>jz P zyo [y.v] aA yH yH (λr2 n z c=>(if (n !=0)=true then
 ah none r λj=>ah none r λk=>aN none yH c (Addr.add (Addr.add k 0) 1) λm=>aM P yO [(yP (some (Addr.add j 0))),(yI n),(yI (yw (m+z)))] (λf=>Q f) c
 else
 ah none r λj=>cX c (Addr.add j 4) [r2.aQ.v,r2.Table.v,(yI r2.Fuel),(yI r2.fD),(yI r2.bE),(yI r2.Log),r2.aD.v] (λf=>ah none r λk=>aN none yH f (Addr.add (Addr.add k 0) 1) λm=>ah none r λw=>cX f (Addr.add (Addr.add w 0) 1) [(yI (yw (m+d)))] (λo=>Q o)))) a)))) h
def Z8 (P:Program) (r:Option Addr) (Q:(bM->(Hp->Prop))) (h:Hp):Prop:=
 ah none r λp=>ae P sM [(yP (some (Addr.add p 0))),(yI 1)] yH (λT y=>ah none r λL=>ah none r λM=>aN none yH y (Addr.add (Addr.add M 4) 5) λx=>ae P Hs [(yP (some (Addr.add L 0))),(yI 2),(yI x)] yH (λr2 K=>bL (α1:=Int) (α2:=bM) (λF C b A=>(if decide (C<r2) then
 ah none r λl=>ah none r λm=>ah none r λn=>ae P yQ [(yP (some (Addr.add l 0))),(yI 8)] yH (λo i=>((True/\True)/\ae P sM [(yP (some (Addr.add m 0))),(yI 1)] yH (λs d=>((True/\True)/\ae P yQ [(yP (some (Addr.add n 0))),(yI 8)] yH (λt e=>((True/\True)/\bc [(yI o),(yI s),(yI t)] (λa j=>((True/\True)/\eC 3 24 [(yI 0),(yI 0),(yI 0)] ⟨b.Log.base,b.Log.len,b.Log.cap⟩ ⟨(some a),1,1⟩ (λu k=>F (yw (C+1)) ⟨b.Cursor,u,b.lu,b.dp,b.cE,b.bQ⟩ k) j)) e)) d)) i)) A
 else
 ah none r λl=>ah none r λm=>ae P sM [(yP (some (Addr.add l 0))),(yI 2)] yH (λo i=>ae P sM [(yP (some (Addr.add m 0))),(yI 2)] yH (λs d=>ah none r λn=>aN none yH d (Addr.add (Addr.add n 4) 4) λW=>bL (α1:=Int) (α2:=bM) (λG D c e=>(if decide (D<W) then
 ah none r λN=>ae P sM [(yP (some (Addr.add N 0))),(yI 1)] yH (λt j=>((True/\True)/\bc [(yI (yw (t-1)))] (λa k=>((True/\True)/\eC 1 8 [(yI 0)] ⟨c.cE.base,c.cE.len,c.cE.cap⟩ ⟨(some a),1,1⟩ (λu B=>ah none r λO=>ah none r λR=>aN none aw B (Addr.add (Addr.add R 4) 6) λX=>ae P Hs [(yP (some (Addr.add O 0))),(yI 1),(yI (X.len:Int))] yH (λU I=>bL (α1:=Sl) (α2:=Int) (λH q E z=>(if decide (E<U) then
 ah none r λS=>ae P sM [(yP (some (Addr.add S 0))),(yI 1)] yH (λw f=>bc [(yI w)] (λa1 g=>eC 1 8 [(yI 0)] ⟨q.base,q.len,q.cap⟩ ⟨(some a1),1,1⟩ (λV J=>H V (yw (E+1)) J) g) f) z
 else
 bc [q.v] (λa1 f=>eC 1 24 [yN] ⟨c.bQ.base,c.bQ.len,c.bQ.cap⟩ ⟨(some a1),1,1⟩ (λw g=>G (yw (D+1)) ⟨c.Cursor,c.Log,c.lu,c.dp,u,w⟩ g) f) z)) ⟨none,0,0⟩ 0 I) B) k)) j)) e
 else
 Q c e)) 0 ⟨b.Cursor,b.Log,o,s,b.cE,b.bQ⟩ d) i) A)) 0 ⟨T,⟨none,0,0⟩,0,0,⟨none,0,0⟩,⟨none,0,0⟩⟩ K) y) h
def zou (P:Program) (r:Option Addr) (Q:(aK->(Hp->Prop))) (h:Hp):Prop:=
 ah none r λp=>ah none r λJ=>ae P sM [(yP (some (Addr.add p 0))),(yI 1)] yH (λO B=>ae P sM [(yP (some (Addr.add J 0))),(yI 2)] yH (λr2 G=>bc [(yI O),(yI r2),(yI 0),(yI 0),(yI 0),(yI 0),(yI 0),(yI 0),(yI 0),(yI 0),(yI 0),(yI 0),(.bool false),(yI 0),yN] (λa H=>aB (α1:=Int) (λz b s=>(if decide (b<8) then
 ah none r λj=>ae P yQ [(yP (some (Addr.add j 0))),(yI 8)] yH (λm g=>((0<=b/\b<8)/\cX g (Addr.add (Addr.add a 2) ((Int.toNat b)*1)) [(yI m)] (λi=>z (yw (b+1)) i))) s
 else
 ah none r λj=>ae P sM [(yP (some (Addr.add j 0))),(yI 1)] yH (λm g=>cX g (Addr.add a 10) [(yI m)] (λi=>ah none r λK=>ae P yQ [(yP (some (Addr.add K 0))),(yI 8)] yH (λR I=>cX I (Addr.add a 11) [(yI R)] (λt=>ah none r λL=>aN none yH t (Addr.add (Addr.add L 0) 1) λx=>ah none r λM=>ae P sM [(yP (some (Addr.add M 0))),(yI 1)] yH (λw u=>da (λk=>(if decide (w>1) then
 ah none r λl=>aM P yO [(yP (some (Addr.add l 0))),(yI 4),(yI x)] (λf=>k f) u
 else
 k u))
 (λf=>cX f (Addr.add a 12) [(.bool (w==1))] (λC=>ah none r λl=>ae P yQ [(yP (some (Addr.add l 0))),(yI 8)] yH (λS D=>cX D (Addr.add a 13) [(yI S)] (λn=>ah none r λN=>aN none aw n (Addr.add (Addr.add N 4) 0) λU=>aB (α1:=Int) (λA y d=>(if (decide (y<(yw ((U.len:Int)+1))))=true then
 dI d a 14 λc=>ae P zvh [(yP r)] bd (λe o=>(((aZ o (Addr.add a 14) [c.v])/\True)/\bc [e.cF.v,e.bJ.v,(yI e.jc),(yI e.fL)] (λa1 q=>(((aZ q (Addr.add a 14) [c.v])/\True)/\eC 4 64 [yN,yN,(yI 0),(yI 0)] c ⟨(some a1),1,1⟩ (λT E=>cX E (Addr.add a 14) [T.v] (λF=>A (yw (y+1)) F)) q)) o)) d
 else
 aN none aI d a λc=>Q c d)) 0 n)) C))) t)) i)) s)) 0 H) G) B) h
def zyy (P:Program) (a:Int) (b:Int) (Q:(Bool->(Hp->Prop))) (h:Hp):Prop:=
 Q ((eK .andNot .u64 a b)==0) h
def UA (P:Program) (s:Sl) (Q:(Sl->(Hp->Prop))) (h:Hp):Prop:=
 jC none P (dx .eql 200 (.tmp 3) (.const yN) s.v yN) bH h λx=>(if x then
 Q ⟨none,0,0⟩ h
 else
 bc [] (λa b=>eC 1 8 [(yI 0)] ⟨(some a),0,0⟩ s (λr c=>Q r c) b) h)
def Tq (P:Program) (s:Sl) (Q:(Sl->(Hp->Prop))) (h:Hp):Prop:=
 jC none P (dx .eql 201 (.tmp 3) (.const yN) s.v yN) bH h λx=>(if x then
 Q ⟨none,0,0⟩ h
 else
 bc [] (λa b=>eC 2 16 [(yI 0),(yI 0)] ⟨(some a),0,0⟩ s (λr c=>Q r c) b) h)
def UB (P:Program) (s:Sl) (f:xK) (Q:(Int->(Hp->Prop))) (h:Hp):Prop:=
 aB (α1:=Int) (λd a b=>(if decide (a<(s.len:Int)) then
 ((bI s.base s.len a)/\aN none yH b (sat s.base 1 a) λx=>iK P tb (.func (.func f.g) f.first f.captured) [(yI x)] bH (λr c=>(if r then
 Q a c
 else
 d (yw (a+1)) c)) b)
 else
 Q (-1) b)) 0 h
def zyz (P:Program) (p:Int) (a1:Addr) (Q:(Bool->(Hp->Prop))) (h:Hp):Prop:=
 aN (some (!(decide (p<0)))) yH h a1 λx=>aF ((decide (p<0)) || (decide (p>=x))) λy=>Q y h
def DT (P:Program) (x:aS) (n:Int) (ag:Int) (Q:(Int->(Hp->Prop))) (h:Hp):Prop:=
 bt P DS [x.v,(yI n),(yI ag)] yH yH (λr b a=>Q r a) h
def Zr (P:Program) (l:Option Addr) (p:Int) (Q:(Int->(Bool->(Hp->Prop)))) (h:Hp):Prop:=
 ah none l λe=>dI h e 0 λx=>aB (α1:=Int) (λd a b=>(if decide (a<(x.len:Int)) then
 ((bI x.base x.len a)/\aN none fO b (sat x.base 2 a) λf=>ae P QM [f.queue.v,(yI p)] bH (λr c=>(if r then
 Q a true c
 else
 d (yw (a+1)) c)) b)
 else
 Q 0 false b)) 0 h
def EP (P:Program) (room:Int) (s:bF) (Q:(Option Addr->(Int->(Hp->Prop)))) (h:Hp):Prop:=
 bt P EF [(yI room)] al yH (λr c a=>(if (c !=0)=true then
 Q none c a
 else
 aF ((decide ((s.bJ.len:Int)>0))&&(decide ((s.cF.len:Int)<room))) λy=>aF ((decide ((s.cF.len:Int)>room)) || y) λd=>dm (some (!d)) (ae P Rv [(yI s.jc),(yI 0),(yI 65535)] bH) (λr2 i=>aF (d || (!r2)) λe=>dm (some (!e)) (ae P Rv [(yI s.fL),(yI 0),(yI 65535)] bH) (λw j=>aF (e || (!w)) λf=>dm (some (!f)) (ae P Nd [s.bJ.v] bH) (λr4 b=>aF (f || r4) λA=>(if A then
 Q none 4 b
 else
 ae P Ux [s.cF.v] aw (λx k=>((True/\True)/\ae P Tm [s.bJ.v] aw (λz l=>ah none r λp=>cX l (Addr.add p 1) [x.v] (λm=>ah none r λq=>cX m (Addr.add q 2) [z.v] (λn=>ah none r λt=>cX n (Addr.add t 3) [(yI s.jc)] (λo=>((True/\True)/\ah none r λu=>cX o (Addr.add u 4) [(yI s.fL)] (λg=>Q r 0 g)))))) k)) b)) j) i) a)) h
def S1 (P:Program) (x:Sl) (target:az) (cmp:xK) (Q:(Int->(Bool->(Hp->Prop)))) (h:Hp):Prop:=
 bL (α1:=Int) (α2:=Int) (λd i j b=>(if decide (i<j) then
 kL (α1:=Int) (α2:=Int) (λk=>((0:Int)<=(1:Int)/\((bI x.base x.len (yw (gQ .u64 (IntKind.wrap .u64 (yw (i+j))) (1:Int))))/\aN none bn b (sat x.base 2 (yw (gQ .u64 (IntKind.wrap .u64 (yw (i+j))) (1:Int)))) λc=>iK P tb (.func (.func cmp.g) cmp.first cmp.captured) [c.v,target.v] yH (λr a=>(if decide (r<(0:Int)) then
 k (yw ((yw (gQ .u64 (IntKind.wrap .u64 (yw (i+j))) (1:Int)))+(1:Int))) j a
 else
 k i (yw (gQ .u64 (IntKind.wrap .u64 (yw (i+j))) (1:Int))) a)) b)))
 (λi1 e a=>d i1 e a)
 else
 (((decide (i<(x.len:Int)))=true->(bI x.base x.len i))/\aN (some (decide (i<(x.len:Int)))) bn b (sat x.base 2 i) λc=>dm (some (decide (i<(x.len:Int)))) (iK P tb (.func (.func cmp.g) cmp.first cmp.captured) [c.v,target.v] yH) (λr a=>aF ((decide (i<(x.len:Int)))&&(r==(0:Int))) λy=>Q i y a) b))) (0:Int) (x.len:Int) h
def zza (P:Program) (a:az) (b:az) (Q:(Int->(Hp->Prop))) (h:Hp):Prop:=
 ae P ztq [(yI a.due),(yI b.due)] yH (λr c=>((True/\(True/\True))/\ae P zwy [(yI a.dY),(yI b.dY)] yH (λg d=>bc [(yI r),(yI g)] (λa1 e=>ae P Nf [(.slice (some a1) 2 2)] yH (λr2 f=>Q r2 f) e) d) c)) h
def zdq (P:Program) (s:Sl) (i:Int) (v:Sl) (Q:(Sl->(Hp->Prop))) (h:Hp):Prop:=
 ((0<=i/\i<=(s.len:Int))/\aF (α:=Sl) ⟨(bq s.base 2 (Int.toNat i) s.cap),(s.len-(Int.toNat i)),(s.cap-(Int.toNat i))⟩ λy=>(if ((v.len:Int)==0)=true then
 Q s h
 else
 (if (i==(s.len:Int))=true then
 eC 2 16 [(yI 0),(yI 0)] s v (λr b=>Q r b) h
 else
 (if (decide ((yw ((s.len:Int)+(v.len:Int)))>(s.cap:Int)))=true then
 ((0<=i/\i<=(s.cap:Int))/\aF (α:=Sl) ⟨(bq s.base 2 0 s.cap),((Int.toNat i)-0),(s.cap-0)⟩ λa=>Bv 2 16 [(yI 0),(yI 0)] a (yw ((yw ((s.len:Int)+(v.len:Int)))-i)) (λr b=>((0<=i/\i<=(r.len:Int))/\aF (α:=Sl) ⟨(bq r.base 2 (Int.toNat i) r.cap),(r.len-(Int.toNat i)),(r.cap-(Int.toNat i))⟩ λg=>gE 2 g v (λj c=>((0<=(yw (i+(v.len:Int)))/\(yw (i+(v.len:Int)))<=(r.len:Int))/\aF (α:=Sl) ⟨(bq r.base 2 (Int.toNat (yw (i+(v.len:Int)))) r.cap),(r.len-(Int.toNat (yw (i+(v.len:Int))))),(r.cap-(Int.toNat (yw (i+(v.len:Int)))))⟩ λe=>((0<=i/\i<=(s.len:Int))/\aF (α:=Sl) ⟨(bq s.base 2 (Int.toNat i) s.cap),(s.len-(Int.toNat i)),(s.cap-(Int.toNat i))⟩ λf=>gE 2 e f (λr2 d=>Q r d) c))) b)) h)
 else
 ((0<=(yw ((s.len:Int)+(v.len:Int)))/\(yw ((s.len:Int)+(v.len:Int)))<=(s.cap:Int))/\aF (α:=Sl) ⟨(bq s.base 2 0 s.cap),((Int.toNat (yw ((s.len:Int)+(v.len:Int))))-0),(s.cap-0)⟩ λa=>((0<=(yw (i+(v.len:Int)))/\(yw (i+(v.len:Int)))<=(a.len:Int))/\aF (α:=Sl) ⟨(bq a.base 2 (Int.toNat (yw (i+(v.len:Int)))) a.cap),(a.len-(Int.toNat (yw (i+(v.len:Int))))),(a.cap-(Int.toNat (yw (i+(v.len:Int)))))⟩ λg=>lx P (Extern.SlicesOverlaps.overlaps #[218,218] #[4] #[v.v,g.v]) bH (λr b=>(if (!r)=true then
 ((0<=(yw (i+(v.len:Int)))/\(yw (i+(v.len:Int)))<=(a.len:Int))/\aF (α:=Sl) ⟨(bq a.base 2 (Int.toNat (yw (i+(v.len:Int)))) a.cap),(a.len-(Int.toNat (yw (i+(v.len:Int))))),(a.cap-(Int.toNat (yw (i+(v.len:Int)))))⟩ λe=>((0<=i/\i<=(a.len:Int))/\aF (α:=Sl) ⟨(bq a.base 2 (Int.toNat i) a.cap),(a.len-(Int.toNat i)),(a.cap-(Int.toNat i))⟩ λf=>gE 2 e f (λj c=>((0<=i/\i<=(a.len:Int))/\aF (α:=Sl) ⟨(bq a.base 2 (Int.toNat i) a.cap),(a.len-(Int.toNat i)),(a.cap-(Int.toNat i))⟩ λk=>gE 2 k v (λr2 d=>Q a d) c)) b))
 else
 ((0<=(s.len:Int)/\(s.len:Int)<=(a.len:Int))/\aF (α:=Sl) ⟨(bq a.base 2 (Int.toNat (s.len:Int)) a.cap),(a.len-(Int.toNat (s.len:Int))),(a.cap-(Int.toNat (s.len:Int)))⟩ λe=>gE 2 e v (λj c=>((0<=i/\i<=(a.len:Int))/\aF (α:=Sl) ⟨(bq a.base 2 (Int.toNat i) a.cap),(a.len-(Int.toNat i)),(a.cap-(Int.toNat i))⟩ λf=>aM P zfz [f.v,(yI (v.len:Int))] (λd=>Q a d) c)) b))) h))))))
def Lu (P:Program) (x:Int) (y:Int) (Q:(Int->(Int->(Hp->Prop)))) (h:Hp):Prop:=
 bt P zqe [(.int .u64 x),(.int .u64 y)] (af .u64) (af .u64) (λr b a=>Q r b a) h
def Nu (P:Program) (state:Int) (Q:(Bool->(Hp->Prop))) (h:Hp):Prop:=
 aF ((state !=5)&&(state !=6)) λy=>Q y h
def zqk (P:Program) (p:Option Addr) (n:Int) (Q:(Bool->(Hp->Prop))) (h:Hp):Prop:=
 ah (some (decide (n>=0))) p λa=>aN (some (decide (n>=0))) aw h (Addr.add a 0) λx=>aF ((decide (n>=0))&&(decide (n<(x.len:Int)))) λy=>Q y h
def ztw (P:Program) (l:Option Addr) (v:Int) (Q:(Int->(Hp->Prop))) (h:Hp):Prop:=
 ae P zrs [(yP l)] bH (λr b=>(if r then
 Q 19 b
 else
 ah none l λp=>dI b p 1 λx=>bc [(yI v)] (λa c=>eC 1 8 [(yI 0)] x ⟨(some a),1,1⟩ (λg d=>ah none l λf=>cX d (Addr.add f 1) [g.v] (λe=>Q 0 e)) c) b)) h
def zrw (P:Program) (l:Option Addr) (Q:(Hp->Prop)) (h:Hp):Prop:=
 ah none l λp=>fy h p 4 λx=>ae P Ei [(yI x)] yH (λr a=>ah none l λc=>cX a (Addr.add c 4) [(yI r)] (λb=>Q b)) h
def zql (P:Program) (p:Option Addr) (proc:Int) (Q:(Bool->(Hp->Prop))) (h:Hp):Prop:=
 ah none p λc=>dI h c 0 λx=>bL (α1:=Bool) (α2:=Int) (λagain left t13 h1=>(if decide (t13<(x.len:Int)) then
 dj (α1:=Bool) (λk=>((bI x.base x.len t13)/\aN none al h1 (sat x.base 1 t13) λd=>ae P zwz [(yP d),(yI proc)] bH (λr a=>(if r then
 k true a
 else
 k left a)) h1))
 (λb a=>again b (yw (t13+1)) a)
 else
 Q left h1)) false 0 h
def zqm (P:Program) (l:Option Addr) (p:Int) (Q:(Sl->(Hp->Prop))) (h:Hp):Prop:=
 ah none l λw=>dI h w 0 λx=>aB (α1:=Int) (λq c f=>(if decide (c<(x.len:Int)) then
 da (λk=>ah none l λy=>dI f y 0 λe=>((bI e.base e.len c)/\aN none aw f (Addr.add (sat e.base 2 c) 1) λB=>ae P Wg [B.v,(yI p)] yH (λr b=>(if decide (r>=0) then
 ah none l λo=>dI b o 0 λi=>ah none l λz=>dI b z 0 λn=>((bI n.base n.len c)/\aN none aw b (Addr.add (sat n.base 2 c) 1) λC=>ae P zoh [C.v,(yI r),(yI (yw (r+1)))] aw (λm d=>(((aZ d (Addr.add o 0) [i.v])/\True)/\((bI i.base i.len c)/\cX d (Addr.add (sat i.base 2 c) 1) [m.v] (λj=>k j)))) b)
 else
 k b)) f))
 (λb=>q (yw (c+1)) b)
 else
 ae P Q1 [(yP l),(yI p)] aw (λr b=>bL (α1:=Sl) (α2:=Int) (λs out g d=>(if decide (g<(r.len:Int)) then
 ((bI r.base r.len g)/\aN none yH d (sat r.base 1 g) λe=>bt P Mi [(yP l),(yI e),(yI p)] yH yH (λm r2 j=>bc [(yI e),(yI m)] (λa t=>eC 2 16 [(yI 0),(yI 0)] ⟨out.base,out.len,out.cap⟩ ⟨(some a),1,1⟩ (λA u=>s A (yw (g+1)) u) t) j) d)
 else
 Q ⟨out.base,out.len,out.cap⟩ d)) ⟨none,0,0⟩ 0 b) f)) 0 h
def ztx (P:Program) (p:Option Addr) (Q:(Sl->(Hp->Prop))) (h:Hp):Prop:=
 ah none p λf=>dI h f 0 λx=>bL (α1:=Sl) (α2:=Int) (λc out a b=>(if decide (a<(x.len:Int)) then
 ((bI x.base x.len a)/\aN none al b (sat x.base 1 a) λi=>ae P Lo [(yP i)] aw (λr d=>eC 2 16 [(yI 0),(yI 0)] ⟨out.base,out.len,out.cap⟩ r (λg e=>c g (yw (a+1)) e) d) b)
 else
 Q ⟨out.base,out.len,out.cap⟩ b)) ⟨none,0,0⟩ 0 h
def U3 (P:Program) (m:Option Addr) (p:Option Addr) (e:Int) (Q:(Hp->Prop)) (h:Hp):Prop:=
 ah none p λc=>aN none fM h (Addr.add c 4) λx=>ah none p λd=>dI h d 2 λf=>ae P OA [x.v,f.v,(yI e)] fM (λr a=>aM P LR [(yP m),(yP p),r.v] (λb=>Q b) a) h
def F7 (P:Program) (c:br) (l:Sl) (Q:(aS->(Bool->(Hp->Prop)))) (h:Hp):Prop:=
 aF ((decide (c.PC<0)) || (decide (c.PC>=(l.len:Int)))) λy=>(if y then
 Q ⟨0,0,0,0,0⟩ false h
 else
 ((bI l.base l.len c.PC)/\aN none aT h (sat l.base 5 c.PC) λx=>Q x true h))
def Em (P:Program) (x:aS) (r:il) (Q:(fe->(Bool->(Bool->(Hp->Prop))))) (h:Hp):Prop:=
 (if (x.Op==0)=true then
 Q ⟨1,0,0⟩ true true h
 else
 (if (x.Op==24)=true then
 ((0<=x.B/\x.B<8)/\∃a:Int,((List.get?Internal (α:=Value) [(yI r.a0),(yI r.a1),(yI r.a2),(yI r.a3),(yI r.a4),(yI r.a5),(yI r.a6),(yI r.a7)] (0+((Int.toNat x.B)*1)))=(some (yI a))/\((0<=x.C/\x.C<8)/\∃b:Int,((List.get?Internal (α:=Value) [(yI r.a0),(yI r.a1),(yI r.a2),(yI r.a3),(yI r.a4),(yI r.a5),(yI r.a6),(yI r.a7)] (0+((Int.toNat x.C)*1)))=(some (yI b))/\Q ⟨2,a,b⟩ true true h))))
 else
 (if (x.Op==25)=true then
 Q ⟨3,0,0⟩ true true h
 else
 (if (x.Op==26)=true then
 Q ⟨4,0,0⟩ true true h
 else
 (if (x.Op==27)=true then
 ((0<=x.A/\x.A<8)/\∃a:Int,((List.get?Internal (α:=Value) [(yI r.a0),(yI r.a1),(yI r.a2),(yI r.a3),(yI r.a4),(yI r.a5),(yI r.a6),(yI r.a7)] (0+((Int.toNat x.A)*1)))=(some (yI a))/\Q ⟨5,0,a⟩ false true h))
 else
 (if (x.Op==28)=true then
 ((0<=x.A/\x.A<8)/\∃a:Int,((List.get?Internal (α:=Value) [(yI r.a0),(yI r.a1),(yI r.a2),(yI r.a3),(yI r.a4),(yI r.a5),(yI r.a6),(yI r.a7)] (0+((Int.toNat x.A)*1)))=(some (yI a))/\Q ⟨6,0,a⟩ true true h))
 else
 (if (x.Op==29)=true then
 Q ⟨7,x.jM,0⟩ true true h
 else
 (if (x.Op==30)=true then
 Q ⟨8,x.jM,0⟩ false true h
 else
 (if (x.Op==31)=true then
 ((0<=x.A/\x.A<8)/\∃a:Int,((List.get?Internal (α:=Value) [(yI r.a0),(yI r.a1),(yI r.a2),(yI r.a3),(yI r.a4),(yI r.a5),(yI r.a6),(yI r.a7)] (0+((Int.toNat x.A)*1)))=(some (yI a))/\Q ⟨9,0,a⟩ false true h))
 else
 Q ⟨0,0,0⟩ false false h)))))))))
def zvu (P:Program) (c:Option Addr) (a:Int) (v:Int) (Q:(Hp->Prop)) (h:Hp):Prop:=
 aF ((decide (a>=0))&&(decide (a<8))) λy=>(if y then
 ah none c λp=>((0<=a/\a<8)/\cX h (Addr.add (Addr.add p 1) ((Int.toNat a)*1)) [(yI v)] (λb=>Q b))
 else
 Q h)
def F8 (P:Program) (op:Int) (b:Int) (c:Int) (Q:(Int->(Int->(Hp->Prop)))) (h:Hp):Prop:=
 (if (op==3)=true then
 Q (yw (b+c)) 0 h
 else
 (if (op==4)=true then
 Q (yw (b-c)) 0 h
 else
 (if (op==5)=true then
 Q (yw (b*c)) 0 h
 else
 (if (op==6)=true then
 ae P zvr [(yI b),(yI c)] yH (λr a=>Q r 0 a) h
 else
 (if (op==7)=true then
 ae P zvr [(yI b),(yI c)] yH (λr a=>Q (yw (b-(yw (r*c)))) 0 a) h
 else
 (if (op==8)=true then
 Q (eK .and .i64 b c) 0 h
 else
 (if (op==9)=true then
 Q (eK .or .i64 b c) 0 h
 else
 (if (op==10)=true then
 Q (eK .xor .i64 b c) 0 h
 else
 (if (op==11)=true then
 ae P OB [(yI b),(yI c)] yH (λr a=>Q r 0 a) h
 else
 (if (op==12)=true then
 ae P NA [(yI b),(yI c)] yH (λr a=>Q r 0 a) h
 else
 (if (op==13)=true then
 ae P FA [(.bool (decide (b<c)))] yH (λr a=>Q r 0 a) h
 else
 (if (op==14)=true then
 ae P FA [(.bool (b==c))] yH (λr a=>Q r 0 a) h
 else
 Q 0 9 h))))))))))))
def F9 (P:Program) (op:Int) (b:Int) (c:Int) (Q:(Int->(Int->(Hp->Prop)))) (h:Hp):Prop:=
 ae P Ej [(yI b)] (ks .f64) (λr i=>ae P Ej [(yI c)] (ks .f64) (λg a=>(if (op==15)=true then
 lx P (dx .add 351 (.tmp 17) (.tmp 18) (.float .f64 r) (.float .f64 g)) (ks .f64) (λr2 d=>ae P HE [(.float .f64 r2)] yH (λf e=>Q f 0 e) d) a
 else
 (if (op==16)=true then
 lx P (dx .sub 351 (.tmp 23) (.tmp 24) (.float .f64 r) (.float .f64 g)) (ks .f64) (λr2 d=>ae P HE [(.float .f64 r2)] yH (λf e=>Q f 0 e) d) a
 else
 (if (op==17)=true then
 lx P (dx .mul 351 (.tmp 29) (.tmp 30) (.float .f64 r) (.float .f64 g)) (ks .f64) (λr2 d=>ae P HE [(.float .f64 r2)] yH (λf e=>Q f 0 e) d) a
 else
 (if (op==18)=true then
 lx P (dx .quo 351 (.tmp 35) (.tmp 36) (.float .f64 r) (.float .f64 g)) (ks .f64) (λr2 d=>ae P HE [(.float .f64 r2)] yH (λf e=>Q f 0 e) d) a
 else
 (if (op==19)=true then
 jC none P (dx .lss 351 (.tmp 41) (.tmp 42) (.float .f64 r) (.float .f64 g)) bH a λx=>(if x then
 Q 1 0 a
 else
 Q 0 0 a)
 else
 (if (op==20)=true then
 jC none P (convert 2 351 (yI b)) (ks .f64) a λx=>ae P HE [(.float .f64 x)] yH (λr2 d=>Q r2 0 d) a
 else
 (if (op==21)=true then
 ae P NB [(.float .f64 r)] yH (λr2 d=>Q r2 0 d) a
 else
 Q 0 9 a)))))))) i) h
def Zu (P:Program) (t:Option Addr) (i:Int) (j:Int) (Q:(Bool->(Hp->Prop))) (h:Hp):Prop:=
 ae P zrt [(yP t),(yI i)] bH (λr c=>dm (some r) (ae P zrt [(yP t),(yI j)] bH) (λf a=>aF (r&&f) λy=>ah (some y) t λp=>aN (some y) aw a (Addr.add p 0) λx=>((y=true->(bI x.base x.len i))/\aN (some y) (af .u64) a (sat x.base 1 i) λg=>ah (some y) t λe=>aN (some y) aw a (Addr.add e 0) λb=>((y=true->(bI b.base b.len j))/\aN (some y) (af .u64) a (sat b.base 1 j) λk=>dm (some y) (ae P MB [(.int .u64 g),(.int .u64 k)] bH) (λr2 d=>aF (y&&r2) λl=>Q l d) a))) c) h
def Vi (P:Program) (m:Option Addr) (p:Option Addr) (q:Option Addr) (v:Int) (Q:(Hp->Prop)) (h:Hp):Prop:=
 ah none q λe=>fy h e 3 λx=>ae P D7 [(yI x)] bH (λr b=>(if (!r)=true then
 aM P zZ [(yP m),(yP p),(yI 2)] (λa=>Q a) b
 else
 ah none q λf=>ot b f 14 λo=>ah none p λg=>fy b g 1 λs=>ae P Rk [(yP o),(yI s),(yI v)] yH (λn a=>(if (n !=0)=true then
 ah none q λi=>ot a i 14 λt=>ah none p λj=>fy a j 1 λu=>ah none p λk=>fy a k 0 λw=>ae P KH [(yP t),(yI u),(yI w),(yI v)] yH (λr2 c=>ah none p λl=>cX c (Addr.add l 3) [(yI 2)] (λd=>Q d)) a
 else
 aM P LQ [(yP m),(yP q)] (λc=>aM P zZ [(yP m),(yP p),(yI 0)] (λd=>Q d) c) a)) b)) h
def ES (P:Program) (c:br) (code:Sl) (v:Int) (from_:Int) (Q:(br->(Hp->Prop))) (h:Hp):Prop:=
 bc [(yI c.PC),(yI c.cl),(yI c.cm),(yI c.cn),(yI c.cp),(yI c.cq),(yI c.cv),(yI c.cw),(yI c.cC)] (λa e=>da (λk=>aN none fM e a λx=>bt P yX [x.v,code.v] aT bH (λr g b=>(if g then
 aM P yU [(yP (some a)),(yI r.A),(yI v)] (λd=>aM P yU [(yP (some a)),(yI r.B),(yI from_)] (λf=>k f) d) b
 else
 k b)) e)
 (λb=>aN none fM b a λx=>ae P Ag [x.v] fM (λr d=>Q r d) b)) h
def zdr (P:Program) (s:Sl) (i:Int) (j:Int) (Q:(Sl->(Hp->Prop))) (h:Hp):Prop:=
 ((0<=i/\(i<=j/\(j<=(s.len:Int)/\(s.len:Int)<=(s.cap:Int))))/\aF (α:=Sl) ⟨(bq s.base 2 (Int.toNat i) (Int.toNat (s.len:Int))),((Int.toNat j)-(Int.toNat i)),((Int.toNat (s.len:Int))-(Int.toNat i))⟩ λy=>(if (i==j)=true then
 Q s h
 else
 ((0<=i/\i<=(s.cap:Int))/\aF (α:=Sl) ⟨(bq s.base 2 0 s.cap),((Int.toNat i)-0),(s.cap-0)⟩ λc=>((0<=j/\j<=(s.len:Int))/\aF (α:=Sl) ⟨(bq s.base 2 (Int.toNat j) s.cap),(s.len-(Int.toNat j)),(s.cap-(Int.toNat j))⟩ λd=>eC 2 16 [(yI 0),(yI 0)] c d (λr a=>((0<=(r.len:Int)/\((r.len:Int)<=(s.len:Int)/\(s.len:Int)<=(r.cap:Int)))/\aF (α:=Sl) ⟨(bq r.base 2 (Int.toNat (r.len:Int)) r.cap),((Int.toNat (s.len:Int))-(Int.toNat (r.len:Int))),(r.cap-(Int.toNat (r.len:Int)))⟩ λe=>n0 P (Builtin.clear_ #[218] 0 #[e.v]) v7 (λb=>Q r b) a)) h))))
def Zx (P:Program) (l:Option Addr) (n:Int) (p:Int) (Q:(Int->(Hp->Prop))) (h:Hp):Prop:=
 ah (some (!(decide (n<0)))) l λa=>aN (some (!(decide (n<0)))) aw h (Addr.add a 0) λx=>aF ((decide (n<0)) || (decide (n>=(x.len:Int)))) λy=>(if y then
 Q 2 h
 else
 (if decide (p<0) then
 Q 1 h
 else
 Q 0 h))
def WE (P:Program) (x:aS) (n:Int) (ag:Int) (Q:(Int->(Int->(Hp->Prop)))) (h:Hp):Prop:=
 aF ((decide (x.Op<0)) || (decide (x.Op>=34))) λy=>(if y then
 Q 9 0 h
 else
 lJ P VF [(yI x.Op)] bH bH bH bH (λr i r2 j g=>ae P QN [(yI x.A),(.bool r)] yH (λd b=>(if (d !=0)=true then
 Q d 1 b
 else
 ae P QN [(yI x.B),(.bool i)] yH (λe c=>(if (e !=0)=true then
 Q e 2 c
 else
 ae P QN [(yI x.C),(.bool r2)] yH (λf a=>(if (f !=0)=true then
 Q f 3 a
 else
 aF ((!j)&&(x.jM !=0)) λk=>(if k then
 Q 11 4 a
 else
 aF ((x.Op==22) || (x.Op==23)) λl=>aF ((decide (x.jM<0)) || (decide (x.jM>n))) λm=>aF (l&&m) λo=>(if o then
 Q 12 4 a
 else
 aF ((x.Op==29) || (x.Op==30)) λp=>aF ((decide (x.jM<0)) || (decide (x.jM>=ag))) λq=>aF (p&&q) λs=>(if s then
 Q 13 4 a
 else
 Q 0 0 a))))) c)) b)) g) h)
def Yu (P:Program) (a:be) (i:Int) (Q:(Int->(Hp->Prop))) (h:Hp):Prop:=
 bL (α1:=Int) (α2:=Int) (λd n c b=>(if decide (c<(a.bW.len:Int)) then
 dj (α1:=Int) (λk=>((bI a.bW.base a.bW.len c)/\aN none bT b (sat a.bW.base 2 c) λx=>(if (x.Part==i)=true then
 k (yw (n+1)) b
 else
 k n b)))
 (λf e=>d f (yw (c+1)) e)
 else
 Q n b)) 0 0 h
def zov (P:Program) (a:be) (p:Int) (i:Int) (Q:(Bool->(Hp->Prop))) (h:Hp):Prop:=
 aF ((decide (p>=0))&&(decide (p<(a.bW.len:Int)))) λy=>((y=true->(bI a.bW.base a.bW.len p))/\aN (some y) yH h (Addr.add (sat a.bW.base 2 p) 0) λx=>aF (y&&(x==i)) λb=>Q b h)
def zty (P:Program) (n:Int) (Q:(Bool->(Hp->Prop))) (h:Hp):Prop:=
 aF ((decide (n>=0))&&(decide (n<=65535))) λy=>Q y h
def zib (P:Program) (s:Sl) (f:xK) (Q:(Bool->(Hp->Prop))) (h:Hp):Prop:=
 ae P Uz [s.v,(.func (.func f.g) f.first f.captured)] yH (λr a=>Q (decide (r>=0)) a) h
def WH (P:Program) (p:Int) (a1:Addr) (a2:Addr) (Q:(Bool->(Hp->Prop))) (h:Hp):Prop:=
 aN (some (p !=(-1))) bz h a1 λx=>aN (some (p !=(-1))) yH h a2 λe=>dm (some (p !=(-1))) (ae P Mj [x.v,(yI p),(yI e)] bH) (λr a=>aN (some ((p !=(-1))&&(!(!r)))) aw a (Addr.add (Addr.add a1 7) 2) λb=>((((p !=(-1))&&(!(!r)))=true->(bI b.base b.len p))/\aN (some ((p !=(-1))&&(!(!r)))) yH a (Addr.add (sat b.base 15 p) 0) λf=>dm (some ((p !=(-1))&&(!(!r)))) (ae P D7 [(yI f)] bH) (λd c=>aF ((!r) || (!d)) λy=>aF ((p !=(-1))&&y) λg=>Q g c) a)) h
def zow (P:Program) (a:be) (p:Int) (Q:(Int->(Hp->Prop))) (h:Hp):Prop:=
 ae P Q3 [a.v,(yI p)] aT (λr b=>Q r.Op b) h
def ZA (P:Program) (a:be) (p:Int) (Q:(aS->(Hp->Prop))) (h:Hp):Prop:=
 ((bI a.bW.base a.bW.len p)/\aN none aw h (Addr.add (sat a.bW.base 2 p) 1) λx=>((bI a.cT.base a.cT.len p)/\aN none yH h (Addr.add (sat a.cT.base 15 p) 1) λb=>aF ((decide (b<0)) || (decide (b>=(x.len:Int)))) λy=>(if y then
 Q ⟨(-1),0,0,0,0⟩ h
 else
 ((bI x.base x.len b)/\aN none aT h (sat x.base 5 b) λc=>Q c h))))
def XB (P:Program) (a:be) (w:bN) (r:Int) (Q:(Bool->(Hp->Prop))) (h:Hp):Prop:=
 ((bI a.cT.base a.cT.len w.cU)/\aN none aI h (sat a.cT.base 15 w.cU) λx=>ae P Q3 [a.v,(yI w.cU)] aT (λb d=>((True/\(True/\((aZ d (sat a.cT.base 15 w.cU) [(yI x.State),(yI x.PC),(yI x.cl),(yI x.cm),(yI x.cn),(yI x.cp),(yI x.cq),(yI x.cv),(yI x.cw),(yI x.cC),(yI x.Cursor),(yI x.Timer),(.bool x.fH),(yI x.iU),x.cR.v])/\True)))/\aF ((x.State==2)&&(b.Op==24)) λy=>((y=true->(0<=b.B/\b.B<8))/\∃e:Int,((y=true->(List.get?Internal (α:=Value) [(yI x.State),(yI x.PC),(yI x.cl),(yI x.cm),(yI x.cn),(yI x.cp),(yI x.cq),(yI x.cv),(yI x.cw),(yI x.cC),(yI x.Cursor),(yI x.Timer),(.bool x.fH),(yI x.iU),x.cR.v] (2+((Int.toNat b.B)*1)))=(some (yI e)))/\aF (y&&(e==r)) λc=>((c=true->(0<=b.C/\b.C<8))/\∃f:Int,((c=true->(List.get?Internal (α:=Value) [(yI x.State),(yI x.PC),(yI x.cl),(yI x.cm),(yI x.cn),(yI x.cp),(yI x.cq),(yI x.cv),(yI x.cw),(yI x.cC),(yI x.Cursor),(yI x.Timer),(.bool x.fH),(yI x.iU),x.cR.v] (2+((Int.toNat b.C)*1)))=(some (yI f)))/\aF (c&&(f==w.dt)) λg=>Q g d)))))) h)
def ZD (P:Program) (r:Option Addr) (many:Int) (Q:(Int->(Hp->Prop))) (h:Hp):Prop:=
 ae P yQ [(yP r),(yI many)] yH (λb a=>Q b a) h
def zzb (P:Program) (b:Sl) (Q:(an->(Int->(Int->(Hp->Prop))))) (h:Hp):Prop:=
 bc [yN,yN,(yI 0),(yI 0),(yI 0),(yI 0),yN] (λa q=>bc [b.v,(yI 0),(yI 0),(yI 0)] (λa1 j=>dj (α1:=an) (λk=>(if decide ((b.len:Int)>1048576) then
 aM P AW [(yP (some a1)),(yI 22),(yI 1048576)] (λe=>k ⟨⟨none,0,0⟩,⟨none,0,0⟩,0,0,0,0,⟨none,0,0⟩⟩ e) j
 else
 aM P X9 [(yP (some a1))] (λe=>ae P xy [(yP (some a1))] bH (λr c=>(if r then
 k ⟨⟨none,0,0⟩,⟨none,0,0⟩,0,0,0,0,⟨none,0,0⟩⟩ c
 else
 aM P Yb [(yP (some a1)),(yP (some a))] (λE=>ae P xy [(yP (some a1))] bH (λH l=>(if H then
 k ⟨⟨none,0,0⟩,⟨none,0,0⟩,0,0,0,0,⟨none,0,0⟩⟩ l
 else
 aM P Y9 [(yP (some a1)),(yP (some a))] (λF=>ae P xy [(yP (some a1))] bH (λr2 m=>(if r2 then
 k ⟨⟨none,0,0⟩,⟨none,0,0⟩,0,0,0,0,⟨none,0,0⟩⟩ m
 else
 ae P Hr [(yP (some a1)),(yI 2),(yI 2)] yH (λI G=>cX G (Addr.add a 2) [(yI I)] (λs=>ae P Hr [(yP (some a1)),(yI 3),(yI 1)] yH (λJ t=>cX t (Addr.add a 3) [(yI J)] (λu=>ae P Hr [(yP (some a1)),(yI 4),(yI 1)] yH (λK w=>cX w (Addr.add a 4) [(yI K)] (λz=>ae P Hr [(yP (some a1)),(yI 5),(yI 2)] yH (λL A=>cX A (Addr.add a 5) [(yI L)] (λB=>ae P QV [(yP (some a1)),(yI 32)] yH (λM C=>aB (α1:=Int) (λo n D=>dm (some (decide (n>0))) (ae P xy [(yP (some a1))] bH) (λN d=>aF ((decide (n>0))&&(!N)) λy=>(if y then
 aM P ZT [(yP (some a1)),(yP (some a))] (λi=>o (yw (n-1)) i) d
 else
 ah none (some a1) λp=>fy d p 1 λx=>(if decide (x<(b.len:Int)) then
 ah none (some a1) λf=>fy d f 1 λg=>aM P AW [(yP (some a1)),(yI 6),(yI g)] (λi=>k ⟨⟨none,0,0⟩,⟨none,0,0⟩,0,0,0,0,⟨none,0,0⟩⟩ i) d
 else
 k ⟨⟨none,0,0⟩,⟨none,0,0⟩,0,0,0,0,⟨none,0,0⟩⟩ d))) D) M C) B)) z)) u)) s)) m)) F) l)) E) c)) e) j))
 (λt2 e=>ae P xy [(yP (some a1))] bH (λr c=>(if r then
 ah none (some a1) λp=>fy c p 2 λx=>ah none (some a1) λf=>fy c f 3 λg=>(((aZ c (Addr.add p 2) [(yI x)])/\((aZ c (Addr.add f 3) [(yI g)])/\True))/\Q ⟨⟨none,0,0⟩,⟨none,0,0⟩,0,0,0,0,⟨none,0,0⟩⟩ x g c)
 else
 aN none aA c a λx=>Q x 0 0 c)) e)) q) h
def zox (P:Program) (r:Option Addr) (bytes:Int) (dS:Int) (Q:(Int->(Hp->Prop))) (h:Hp):Prop:=
 ah none r λp=>fy h p 1 λx=>ae P sM [(yP r),(yI bytes)] yH (λd a=>(if decide (d>dS) then
 aM P yO [(yP r),(yI 3),(yI x)] (λb=>ah none r λc=>fy b c 2 λe=>(if (e !=0)=true then
 Q 0 b
 else
 Q d b)) a
 else
 ah none r λc=>fy a c 2 λe=>(if (e !=0)=true then
 Q 0 a
 else
 Q d a))) h
def zoy (P:Program) (r:Option Addr) (Q:(bF->(Hp->Prop))) (h:Hp):Prop:=
 ah none r λp=>ah none r λy=>aN none yH h (Addr.add (Addr.add y 4) 3) λx=>ae P Hs [(yP (some (Addr.add p 0))),(yI 1),(yI x)] yH (λA u=>bL (α1:=Int) (α2:=bF) (λs o c g=>(if decide (o<A) then
 ah none r λk=>ae P yQ [(yP (some (Addr.add k 0))),(yI 8)] yH (λr2 i=>((True/\True)/\bc [(yI r2)] (λa f=>((True/\True)/\eC 1 8 [(yI 0)] ⟨c.cF.base,c.cF.len,c.cF.cap⟩ ⟨(some a),1,1⟩ (λe d=>s (yw (o+1)) ⟨e,c.bJ,c.jc,c.fL⟩ d) f)) i)) g
 else
 ah none r λk=>ah none r λz=>aN none aw g (Addr.add (Addr.add z 4) 6) λC=>ae P Hs [(yP (some (Addr.add k 0))),(yI 1),(yI (C.len:Int))] yH (λr2 i=>bL (α1:=Int) (α2:=bF) (λt q b f=>(if decide (q<r2) then
 ah none r λl=>ah none r λm=>ae P sM [(yP (some (Addr.add l 0))),(yI 1)] yH (λe d=>((True/\True)/\ae P yQ [(yP (some (Addr.add m 0))),(yI 8)] yH (λn j=>((True/\True)/\bc [(yI e),(yI n)] (λa v=>((True/\True)/\eC 2 16 [(yI 0),(yI 0)] ⟨b.bJ.base,b.bJ.len,b.bJ.cap⟩ ⟨(some a),1,1⟩ (λB w=>t (yw (q+1)) ⟨b.cF,B,b.jc,b.fL⟩ w) v)) j)) d)) f
 else
 ah none r λl=>ah none r λm=>ae P sM [(yP (some (Addr.add l 0))),(yI 2)] yH (λe d=>ae P sM [(yP (some (Addr.add m 0))),(yI 2)] yH (λn j=>Q ⟨b.cF,b.bJ,e,n⟩ j) d) f)) 0 c i) g)) 0 ⟨⟨none,0,0⟩,⟨none,0,0⟩,0,0⟩ u) h
def DU (P:Program) (x:aS) (n:Int) (ag:Int) (Q:(Int->(Int->(Hp->Prop)))) (h:Hp):Prop:=
 aF ((decide (x.Op<0)) || (decide (x.Op>=34))) λy=>(if y then
 Q 9 0 h
 else
 lJ P Rx [(yI x.Op)] bH bH bH bH (λr j r2 k g=>ae P Rl [(.bool r),(yI x.A)] yH (λd a=>(if (d !=0)=true then
 Q d 1 a
 else
 ae P Rl [(.bool j),(yI x.B)] yH (λe b=>(if (e !=0)=true then
 Q e 2 b
 else
 ae P Rl [(.bool r2),(yI x.C)] yH (λf c=>(if (f !=0)=true then
 Q f 3 c
 else
 ae P MD [x.v,(.bool k),(yI n),(yI ag)] yH (λl i=>Q l 4 i) c)) b)) a)) g) h)
def ET (P:Program) (room:Int) (Q:(Option Addr->(Int->(Hp->Prop)))) (h:Hp):Prop:=
 ae P Rv [(yI room),(yI 1),(yI 64)] bH (λr b=>(if (!r)=true then
 Q none 1 b
 else
 bc [(yI room),yN,yN,(yI 0),(yI 0)] (λa c=>Q (some a) 0 c) b)) h
def Rz (P:Program) (n:Int) (from_:Int) (to:Int) (Q:(Bool->(Hp->Prop))) (h:Hp):Prop:=
 aF ((decide (n>=from_))&&(decide (n<=to))) λy=>Q y h
def DV (P:Program) (l:Sl) (Q:(Bool->(Hp->Prop))) (h:Hp):Prop:=
 yV  (λr e=>aB (α1:=Int) (λd b a=>(if decide (b<(l.len:Int)) then
 ((bI l.base l.len b)/\aN none aC a (sat l.base 2 b) λx=>pA none (.int .i64) yH (yI 0) r (yI x.cU) a λf ok=>u5 (.int .i64) r (yI x.cU) (yI (yw (f+1))) (λc=>pA none (.int .i64) yH (yI 0) r (yI x.cU) c λg i=>(if decide (g>1) then
 Q true c
 else
 d (yw (b+1)) c)) a)
 else
 Q false a)) 0 e) h
def DW (P:Program) (fk:Sl) (Q:(Int->(Hp->Prop))) (h:Hp):Prop:=
 aB (α1:=Int) (λc b a=>(if decide (b<(fk.len:Int)) then
 ((bI fk.base fk.len b)/\aN none yH a (sat fk.base 1 b) λx=>(if (x !=0)=true then
 Q x a
 else
 c (yw (b+1)) a))
 else
 Q 0 a)) 0 h
def ZG (P:Program) (x:Int) (y:Int) (Q:(Int->(Hp->Prop))) (h:Hp):Prop:=
 ae P zqf [(yI x)] bH (λr c=>ae P zqf [(yI y)] bH (λb a=>(if r then
 (if b then
 Q 0 a
 else
 Q (-1) a)
 else
 (if b then
 Q 1 a
 else
 (if decide (x<y) then
 Q (-1) a
 else
 (if decide (x>y) then
 Q 1 a
 else
 Q 0 a))))) c) h
def zqn (P:Program) (x:Int) (y:Int) (Q:(Int->(Hp->Prop))) (h:Hp):Prop:=
 ae P ztr [(yI x)] bH (λr c=>ae P ztr [(yI y)] bH (λb a=>(if r then
 (if b then
 Q 0 a
 else
 Q (-1) a)
 else
 (if b then
 Q 1 a
 else
 (if decide (x<y) then
 Q (-1) a
 else
 (if decide (x>y) then
 Q 1 a
 else
 Q 0 a))))) c) h
def zqo (P:Program) (x:Int) (y:Int) (Q:(Int->(Int->(Hp->Prop)))) (h:Hp):Prop:=
 ((0:Int)<=(32:Int)/\((0:Int)<=(32:Int)/\((0:Int)<=(32:Int)/\((0:Int)<=(32:Int)/\((0:Int)<=(32:Int)/\Q (IntKind.wrap .u64 ((IntKind.wrap .u64 ((IntKind.wrap .u64 ((gQ .u64 x (32:Int))*(gQ .u64 y (32:Int))))+(gQ .u64 (IntKind.wrap .u64 ((IntKind.wrap .u64 ((gQ .u64 x (32:Int))*(eK .and .u64 y (4294967295:Int))))+(gQ .u64 (IntKind.wrap .u64 ((eK .and .u64 x (4294967295:Int))*(eK .and .u64 y (4294967295:Int)))) (32:Int)))) (32:Int))))+(gQ .u64 (IntKind.wrap .u64 ((eK .and .u64 (IntKind.wrap .u64 ((IntKind.wrap .u64 ((gQ .u64 x (32:Int))*(eK .and .u64 y (4294967295:Int))))+(gQ .u64 (IntKind.wrap .u64 ((eK .and .u64 x (4294967295:Int))*(eK .and .u64 y (4294967295:Int)))) (32:Int)))) (4294967295:Int))+(IntKind.wrap .u64 ((eK .and .u64 x (4294967295:Int))*(gQ .u64 y (32:Int)))))) (32:Int)))) (IntKind.wrap .u64 (x*y)) h)))))
def zrx (P:Program) (l:Option Addr) (Q:(Bool->(Hp->Prop))) (h:Hp):Prop:=
 ah none l λp=>dI h p 1 λx=>ah none l λa=>fy h a 0 λb=>Q (decide ((x.len:Int)>=b)) h
def En (P:Program) (n:Int) (Q:(Int->(Hp->Prop))) (h:Hp):Prop:=
 Q (jV (yw (n+1)) 65535) h
def zqp (P:Program) (l:Option Addr) (p:Int) (Q:(Bool->(Hp->Prop))) (h:Hp):Prop:=
 ae P zqg [(yP l),(yI p)] yH (λr a=>(if decide (r<0) then
 Q false a
 else
 ah none l λd=>dI a d 2 λx=>ae P zdz [x.v,(yI r),(yI (yw (r+1)))] aw (λf b=>ah none l λe=>cX b (Addr.add e 2) [f.v] (λc=>Q true c)) a)) h
def VZ (P:Program) (s:Sl) (i:Int) (j:Int) (Q:(Sl->(Hp->Prop))) (h:Hp):Prop:=
 ((0<=i/\(i<=j/\(j<=(s.len:Int)/\(s.len:Int)<=(s.cap:Int))))/\aF (α:=Sl) ⟨(bq s.base 1 (Int.toNat i) (Int.toNat (s.len:Int))),((Int.toNat j)-(Int.toNat i)),((Int.toNat (s.len:Int))-(Int.toNat i))⟩ λy=>(if (i==j)=true then
 Q s h
 else
 ((0<=i/\i<=(s.cap:Int))/\aF (α:=Sl) ⟨(bq s.base 1 0 s.cap),((Int.toNat i)-0),(s.cap-0)⟩ λc=>((0<=j/\j<=(s.len:Int))/\aF (α:=Sl) ⟨(bq s.base 1 (Int.toNat j) s.cap),(s.len-(Int.toNat j)),(s.cap-(Int.toNat j))⟩ λd=>eC 1 8 [(yI 0)] c d (λr a=>((0<=(r.len:Int)/\((r.len:Int)<=(s.len:Int)/\(s.len:Int)<=(r.cap:Int)))/\aF (α:=Sl) ⟨(bq r.base 1 (Int.toNat (r.len:Int)) r.cap),((Int.toNat (s.len:Int))-(Int.toNat (r.len:Int))),(r.cap-(Int.toNat (r.len:Int)))⟩ λe=>n0 P (Builtin.clear_ #[23] 0 #[e.v]) v7 (λb=>Q r b) a)) h))))
def ztz (P:Program) (l:Option Addr) (Q:(Sl->(Hp->Prop))) (h:Hp):Prop:=
 ah none l λp=>dI h p 2 λx=>ah none l λd=>dI h d 2 λb=>ah none l λe=>dI h e 2 λa=>((0<=(b.len:Int)/\((b.len:Int)<=(a.len:Int)/\(a.len:Int)<=(x.cap:Int)))/\aF (α:=Sl) ⟨(bq x.base 2 0 (Int.toNat (a.len:Int))),((Int.toNat (b.len:Int))-0),((Int.toNat (a.len:Int))-0)⟩ λy=>ah none l λf=>cX h (Addr.add f 2) [yN] (λc=>Q y c))
def EU (P:Program) (c:br) (code:Sl) (g:Int) (Q:(br->(Hp->Prop))) (h:Hp):Prop:=
 bc [(yI c.PC),(yI c.cl),(yI c.cm),(yI c.cn),(yI c.cp),(yI c.cq),(yI c.cv),(yI c.cw),(yI c.cC)] (λa e=>da (λk=>aN none fM e a λx=>bt P yX [x.v,code.v] aT bH (λr f b=>(if f then
 aM P yU [(yP (some a)),(yI r.A),(yI g)] (λd=>k d) b
 else
 k b)) e)
 (λb=>aN none fM b a λx=>ae P Ag [x.v] fM (λr d=>Q r d) b)) h
def zvv (P:Program) (b:Int) (c:Int) (Q:(Int->(Hp->Prop))) (h:Hp):Prop:=
 (if (c==0)=true then
 Q 0 h
 else
 (if (c==(-1))=true then
 Q (yw (0-b)) h
 else
 (c≠0/\Q (yw (Int.tdiv b c)) h)))
def OC (P:Program) (b:Int) (c:Int) (Q:(Int->(Hp->Prop))) (h:Hp):Prop:=
 (if decide (c<0) then
 Q b h
 else
 (0<=(IntKind.wrap .u64 c)/\Q (qJ .i64 b (IntKind.wrap .u64 c)) h))
def NC (P:Program) (b:Int) (c:Int) (Q:(Int->(Hp->Prop))) (h:Hp):Prop:=
 (if decide (c<0) then
 Q b h
 else
 (0<=(IntKind.wrap .u64 c)/\Q (gQ .i64 b (IntKind.wrap .u64 c)) h))
def FB (P:Program) (a:Bool) (Q:(Int->(Hp->Prop))) (h:Hp):Prop:=
 (if a then
 Q 1 h
 else
 Q 0 h)
def Ep (P:Program) (bits:Int) (Q:(Nat->(Hp->Prop))) (h:Hp):Prop:=
 lx P (Extern.MathFloatBits.float64frombits #[(.int .u64 (IntKind.wrap .u64 bits))]) (ks .f64) (λr a=>Q r a) h
def EV (P:Program) (f:Nat) (Q:(Int->(Hp->Prop))) (h:Hp):Prop:=
 jC none P (dx .neq 351 (.tmp 3) (.tmp 4) (.float .f64 f) (.float .f64 f)) bH h λx=>(if x then
 Q 9221120237041090560 h
 else
 lx P (Extern.MathFloatBits.float64bits #[(.float .f64 f)]) (af .u64) (λr a=>Q (yw r) a) h)
def Er (P:Program) (f:Nat) (Q:(Int->(Hp->Prop))) (h:Hp):Prop:=
 jC none P (dx .neq 351 (.tmp 4) (.tmp 5) (.float .f64 f) (.float .f64 f)) bH h λx=>(if x then
 Q 0 h
 else
 jC none P (dx .geq 351 (.tmp 8) (.const (.float .f64 4890909195324358656)) (.float .f64 f) (.float .f64 4890909195324358656)) bH h λa=>(if a then
 Q 9223372036854775807 h
 else
 jC none P (dx .lss 351 (.tmp 11) (.const (.float .f64 14114281232179134464)) (.float .f64 f) (.float .f64 14114281232179134464)) bH h λb=>(if b then
 Q (-9223372036854775808) h
 else
 jC none P (convert 351 2 (.float .f64 f)) yH h λc=>Q c h)))
def zry (P:Program) (t:Option Addr) (i:Int) (Q:(Bool->(Hp->Prop))) (h:Hp):Prop:=
 ah (some (decide (i>=0))) t λp=>aN (some (decide (i>=0))) aw h (Addr.add p 0) λx=>aF ((decide (i>=0))&&(decide (i<(x.len:Int)))) λy=>Q y h
def zrz (P:Program) (p:Option Addr) (lane:Int) (proc:Int) (v:Int) (Q:(Int->(Hp->Prop))) (h:Hp):Prop:=
 ae P Re [(yP p),(yI lane)] bH (λr b=>(if (!r)=true then
 Q 2 b
 else
 ae P zxb [(yP p),(yI proc)] yH (λe a=>(if decide (e>=0) then
 Q 8 a
 else
 ah none p λd=>dI a d 0 λx=>((bI x.base x.len lane)/\aN none al a (sat x.base 1 lane) λf=>ae P KJ [(yP f),(yI proc),(yI v)] yH (λr2 c=>Q r2 c) a))) b)) h
def zxd (P:Program) (p:Option Addr) (Q:(xK->(Hp->Prop))) (h:Hp):Prop:=
 ah none p λf=>fy h f 1 λx=>ah none p λc=>dI h c 0 λd=>bc [(yI 0)] (λa b=>(((aZ b (Addr.add f 1) [(yI x)])/\((aZ b (Addr.add c 0) [d.v])/\True))/\cX b a [(yI x)] (λe=>(((aZ e (Addr.add c 0) [d.v])/\True)/\bc [(yI (d.len:Int))] (λa1 g=>Q ⟨312, #[], #[(yP (some a1)),(yP (some a))]⟩ g) e)))) h
def zua (P:Program) (l:Option Addr) (Q:(Int->(Hp->Prop))) (h:Hp):Prop:=
 ah none l λp=>dI h p 1 λx=>Q (x.len:Int) h
def zsa (P:Program) (l:Option Addr) (Q:(Int->(bN->(Bool->(Int->(Hp->Prop)))))) (h:Hp):Prop:=
 ah none l λp=>dI h p 1 λx=>(if ((x.len:Int)==(0:Int))=true then
 Q (0:Int) ⟨(0:Int),(0:Int)⟩ false (21:Int) h
 else
 ah none l λB=>dI h B 1 λf=>((bI f.base f.len (0:Int))/\aN none yH h (sat f.base 1 (0:Int)) λt=>ah none l λH=>dI h H 1 λS=>ah none l λI=>dI h I 1 λc=>(((0:Int)<=(1:Int)/\(1:Int)<=(c.len:Int))/\aF (α:=Sl) ⟨(bq c.base 1 1 c.cap),(c.len-1),(c.cap-1)⟩ λy=>gE 1 S y (λr j=>ah none l λJ=>dI j J 1 λe=>(((0:Int)<=r/\r<=(e.cap:Int))/\aF (α:=Sl) ⟨(bq e.base 1 0 e.cap),((Int.toNat r)-0),(e.cap-0)⟩ λV=>ah none l λK=>cX j (Addr.add K 1) [V.v] (λk=>ah none l λL=>fy k L 3 λT=>ae P Ei [(yI T)] yH (λR w=>ah none l λM=>cX w (Addr.add M 3) [(yI R)] (λb=>ah none l λN=>dI b N 2 λU=>(if decide ((U.len:Int)>(0:Int)) then
 ah none l λO=>dI b O 2 λi=>((bI i.base i.len (0:Int))/\aN none aC b (sat i.base 2 (0:Int)) λu=>ah none l λC=>dI b C 2 λq=>ah none l λD=>dI b D 2 λg=>ah none l λE=>dI b E 2 λd=>(((0:Int)<=(1:Int)/\((1:Int)<=(g.len:Int)/\((g.len:Int)<=(d.len:Int)/\(d.len:Int)<=(q.cap:Int))))/\aF (α:=Sl) ⟨(bq q.base 2 1 (Int.toNat (d.len:Int))),((Int.toNat (g.len:Int))-1),((Int.toNat (d.len:Int))-1)⟩ λW=>ah none l λF=>cX b (Addr.add F 2) [W.v] (λm=>ah none l λo=>dI m o 1 λs=>bc [(yI u.dt)] (λa n=>(((aZ n (Addr.add o 1) [s.v])/\True)/\eC 1 8 [(yI (0:Int))] s ⟨(some a),1,1⟩ (λr2 z=>ah none l λG=>cX z (Addr.add G 1) [r2.v] (λA=>Q t u true (0:Int) A)) n)) m)))
 else
 Q t ⟨(0:Int),(0:Int)⟩ false (0:Int) b))) k))) h)))
def V0 (P:Program) (op:Int) (Q:(Bool->(Bool->(Bool->(Bool->(Hp->Prop)))))) (h:Hp):Prop:=
 (if (op==1)=true then
 Q true false false true h
 else
 dj (α1:=Bool) (λk=>(if (op==2)=true then
 k (op==2) h
 else
 (if (op==20)=true then
 k (op==20) h
 else
 (if (op==21)=true then
 k (op==21) h
 else
 (if (op==25)=true then
 k (op==25) h
 else
 k (op==26) h)))))
 (λl a=>(if l then
 Q true true false false a
 else
 dj (α1:=Bool) (λk=>(if (op==3)=true then
 k (op==3) a
 else
 (if (op==4)=true then
 k (op==4) a
 else
 (if (op==5)=true then
 k (op==5) a
 else
 (if (op==6)=true then
 k (op==6) a
 else
 (if (op==7)=true then
 k (op==7) a
 else
 (if (op==8)=true then
 k (op==8) a
 else
 (if (op==9)=true then
 k (op==9) a
 else
 (if (op==10)=true then
 k (op==10) a
 else
 (if (op==11)=true then
 k (op==11) a
 else
 (if (op==12)=true then
 k (op==12) a
 else
 (if (op==13)=true then
 k (op==13) a
 else
 k (op==14) a))))))))))))
 (λf b=>(if f then
 Q true true true false b
 else
 dj (α1:=Bool) (λk=>(if (op==15)=true then
 k (op==15) b
 else
 (if (op==16)=true then
 k (op==16) b
 else
 (if (op==17)=true then
 k (op==17) b
 else
 (if (op==18)=true then
 k (op==18) b
 else
 (if (op==19)=true then
 k (op==19) b
 else
 k (op==24) b))))))
 (λg d=>(if g then
 Q true true true false d
 else
 dj (α1:=Bool) (λk=>(if (op==22)=true then
 k (op==22) d
 else
 (if (op==29)=true then
 k (op==29) d
 else
 k (op==30) d)))
 (λi c=>(if i then
 Q false false false true c
 else
 (if (op==23)=true then
 Q true false false true c
 else
 dj (α1:=Bool) (λk=>(if (op==27)=true then
 k (op==27) c
 else
 (if (op==28)=true then
 k (op==28) c
 else
 (if (op==31)=true then
 k (op==31) c
 else
 (if (op==32)=true then
 k (op==32) c
 else
 k (op==33) c)))))
 (λj e=>(if j then
 Q true false false false e
 else
 Q false false false false e))))))))))))
def U4 (P:Program) (n:Int) (has:Bool) (Q:(Int->(Hp->Prop))) (h:Hp):Prop:=
 aF ((!has)&&(n !=0)) λy=>(if y then
 Q 11 h
 else
 aF ((decide (n<0)) || (decide (n>=8))) λa=>aF (has&&a) λb=>(if b then
 Q 10 h
 else
 Q 0 h))
def zoz (P:Program) (r:Option Addr) (e:Int) (place:Int) (Q:(Hp->Prop)) (h:Hp):Prop:=
 dm (some (e !=0)) (ae P xy [(yP r)] bH) (λf a=>aF ((e !=0)&&(!f)) λy=>(if y then
 ah none r λp=>cX a (Addr.add p 2) [(yI e)] (λb=>ah none r λd=>cX b (Addr.add d 3) [(yI place)] (λc=>Q c))
 else
 Q a)) h
def Yw (P:Program) (r:Option Addr) (Q:(Hp->Prop)) (h:Hp):Prop:=
 aB (α1:=Int) (λd b c=>(if decide (b<5) then
 bc [(yI 0)] (λa e=>cX e a [(yI b)] (λf=>ae P Aa [(yP r),(yI 1),(.func (.func 314) #[] #[(yP (some a))])] (af .u64) (λi g=>d (yw (b+1)) g) f)) c
 else
 Q c)) 0 h
def Ri (P:Program) (r:Option Addr) (Q:(Bool->(Hp->Prop))) (h:Hp):Prop:=
 ah none r λp=>fy h p 2 λx=>Q (x !=0) h
def Yy (P:Program) (r:Option Addr) (c:Option Addr) (Q:(Hp->Prop)) (h:Hp):Prop:=
 bc [(yP c)] (λa k=>ae P QV [(yP r),(yI 8)] yH (λs l=>aB (α1:=Int) (λj n m=>dm (some (decide (n>0))) (ae P xy [(yP r)] bH) (λr2 e=>aF ((decide (n>0))&&(!r2)) λy=>(if y then
 ae P Aa [(yP r),(yI 8),(.func (.func 315) #[] #[(yP (some a))])] (af .u64) (λt b=>aN none al b a λx=>aN none al b a λg=>ah none g λp=>dI b p 0 λi=>bc [(.int .u64 t)] (λa1 d=>(((aZ d a [(yP x)])/\((aZ d a [(yP g)])/\((aZ d (Addr.add p 0) [i.v])/\True)))/\eC 1 8 [(.int .u64 0)] i ⟨(some a1),1,1⟩ (λu f=>(((aZ f a [(yP x)])/\True)/\ah none x λq=>cX f (Addr.add q 0) [u.v] (λo=>j (yw (n-1)) o))) d)) b) e
 else
 Q e)) m) s l) k) h
def ZJ (P:Program) (r:Option Addr) (c:Option Addr) (Q:(Hp->Prop)) (h:Hp):Prop:=
 ae P QV [(yP r),(yI 64)] yH (λm g=>aB (α1:=Int) (λf n i=>dm (some (decide (n>0))) (ae P xy [(yP r)] bH) (λr2 b=>aF ((decide (n>0))&&(!r2)) λy=>(if y then
 ah none c λp=>dI b p 1 λx=>ae P VG [(yP r),(yP c)] yH (λo d=>(((aZ d (Addr.add p 1) [x.v])/\True)/\bc [(yI o)] (λa e=>(((aZ e (Addr.add p 1) [x.v])/\True)/\eC 1 8 [(yI 0)] x ⟨(some a),1,1⟩ (λq j=>ah none c λl=>cX j (Addr.add l 1) [q.v] (λk=>f (yw (n-1)) k)) e)) d)) b
 else
 Q b)) i) m g) h
def YA (P:Program) (r:Option Addr) (part:Int) (bytes:Int) (Q:(Int->(Hp->Prop))) (h:Hp):Prop:=
 bc [(yI part)] (λa b=>ae P MJ [(yP r),(yI bytes),(.func (.func 318) #[] #[(yP (some a))])] yH (λd c=>Q d c) b) h
def XD (P:Program) (r:Option Addr) (dS:Int) (Q:(Int->(Hp->Prop))) (h:Hp):Prop:=
 bc [(yI dS)] (λa b=>ae P MJ [(yP r),(yI 1),(.func (.func 319) #[] #[(yP (some a))])] yH (λd c=>Q d c) b) h
def zpa (P:Program) (r:Option Addr) (c:Option Addr) (Q:(Hp->Prop)) (h:Hp):Prop:=
 ae P VG [(yP r),(yP c)] yH (λq l=>ae P MJ [(yP r),(yI 2),(.func (.func 320) #[] #[])] yH (λr2 m=>bL (α1:=Int) (α2:=bR) (λk i p n=>dm (some (decide (i<r2))) (ae P xy [(yP r)] bH) (λs d=>aF ((decide (i<r2))&&(!s)) λy=>(if y then
 ah none c λf=>fy d f 4 λx=>ae P zxc [(yP r),(yI r2),(yI x)] aT (λb e=>((True/\True)/\bc [(yI b.Op),(yI b.A),(yI b.B),(yI b.C),(yI b.jM)] (λa g=>((True/\True)/\eC 5 40 [(yI 0),(yI 0),(yI 0),(yI 0),(yI 0)] ⟨p.Code.base,p.Code.len,p.Code.cap⟩ ⟨(some a),1,1⟩ (λt j=>k (yw (i+1)) ⟨p.Part,t⟩ j) g)) e)) d
 else
 ah none c λf=>dI d f 6 λx=>bc [(yI p.Part),p.Code.v] (λa e=>(((aZ e (Addr.add f 6) [x.v])/\True)/\eC 2 32 [(yI 0),yN] x ⟨(some a),1,1⟩ (λb g=>ah none c λo=>cX g (Addr.add o 6) [b.v] (λj=>Q j)) e)) d)) n) 0 ⟨q,⟨none,0,0⟩⟩ m) l) h
def zzc (P:Program) (op:Int) (Q:(Bool->(Bool->(Bool->(Bool->(Hp->Prop)))))) (h:Hp):Prop:=
 ae P ME [(yI op)] rH (λr b=>bc [(.string ⟨#[]⟩)] (λa c=>cX c a [(.string r)] (λd=>iK P tb (.func (.func 328) #[] #[(yP (some a))]) [(.string ⟨#[97]⟩)] bH (λj e=>iK P tb (.func (.func 328) #[] #[(yP (some a))]) [(.string ⟨#[98]⟩)] bH (λr2 f=>iK P tb (.func (.func 328) #[] #[(yP (some a))]) [(.string ⟨#[99]⟩)] bH (λk g=>iK P tb (.func (.func 328) #[] #[(yP (some a))]) [(.string ⟨#[105]⟩)] bH (λl i=>Q j r2 k l i) g) f) e) d)) b) h
def zub (P:Program) (has:Bool) (n:Int) (Q:(Int->(Hp->Prop))) (h:Hp):Prop:=
 aF ((!has)&&(n !=0)) λy=>(if y then
 Q 11 h
 else
 aF ((decide (n<0)) || (decide (n>=8))) λa=>(if a then
 Q 10 h
 else
 Q 0 h))
def zzd (P:Program) (x:aS) (has:Bool) (n:Int) (ag:Int) (Q:(Int->(Hp->Prop))) (h:Hp):Prop:=
 aF ((!has)&&(x.jM !=0)) λy=>(if y then
 Q 11 h
 else
 aF ((x.Op==22) || (x.Op==23)) λb=>(if b then
 aF ((decide (x.jM<0)) || (decide (x.jM>n))) λa=>(if a then
 Q 12 h
 else
 Q 0 h)
 else
 aF ((x.Op==29) || (x.Op==30)) λa=>(if a then
 aF ((decide (x.jM<0)) || (decide (x.jM>=ag))) λc=>(if c then
 Q 13 h
 else
 Q 0 h)
 else
 Q 0 h)))
def zqq (P:Program) (x:Int) (Q:(Bool->(Hp->Prop))) (h:Hp):Prop:=
 Q (x !=x) h
def zuc (P:Program) (x:Int) (Q:(Bool->(Hp->Prop))) (h:Hp):Prop:=
 Q (x !=x) h
def zqr (P:Program) (l:Option Addr) (p:Int) (Q:(Int->(Hp->Prop))) (h:Hp):Prop:=
 bc [(yI p)] (λa b=>ah none l λd=>dI b d 2 λx=>ae P zdk [x.v,(.func (.func 332) #[] #[(yP (some a))])] yH (λr c=>Q r c) b) h
def Tf (P:Program) (s:Sl) (i:Int) (j:Int) (Q:(Sl->(Hp->Prop))) (h:Hp):Prop:=
 ((0<=i/\(i<=j/\(j<=(s.len:Int)/\(s.len:Int)<=(s.cap:Int))))/\aF (α:=Sl) ⟨(bq s.base 2 (Int.toNat i) (Int.toNat (s.len:Int))),((Int.toNat j)-(Int.toNat i)),((Int.toNat (s.len:Int))-(Int.toNat i))⟩ λy=>(if (i==j)=true then
 Q s h
 else
 ((0<=i/\i<=(s.cap:Int))/\aF (α:=Sl) ⟨(bq s.base 2 0 s.cap),((Int.toNat i)-0),(s.cap-0)⟩ λc=>((0<=j/\j<=(s.len:Int))/\aF (α:=Sl) ⟨(bq s.base 2 (Int.toNat j) s.cap),(s.len-(Int.toNat j)),(s.cap-(Int.toNat j))⟩ λd=>eC 2 16 [(yI 0),(yI 0)] c d (λr a=>((0<=(r.len:Int)/\((r.len:Int)<=(s.len:Int)/\(s.len:Int)<=(r.cap:Int)))/\aF (α:=Sl) ⟨(bq r.base 2 (Int.toNat (r.len:Int)) r.cap),((Int.toNat (s.len:Int))-(Int.toNat (r.len:Int))),(r.cap-(Int.toNat (r.len:Int)))⟩ λe=>n0 P (Builtin.clear_ #[201] 0 #[e.v]) v7 (λb=>Q r b) a)) h))))
def zqs (P:Program) (p:Option Addr) (proc:Int) (Q:(Int->(Hp->Prop))) (h:Hp):Prop:=
 ah none p λi=>dI h i 0 λx=>aB (α1:=Int) (λe a d=>(if decide (a<(x.len:Int)) then
 ((bI x.base x.len a)/\aN none al d (sat x.base 1 a) λj=>ae P zqb [(yP j)] bd (λr g=>aB (α1:=Int) (λf c b=>(if decide (c<(r.bJ.len:Int)) then
 ((bI r.bJ.base r.bJ.len c)/\aN none aC b (sat r.bJ.base 2 c) λk=>(if (k.cU==proc)=true then
 Q a b
 else
 f (yw (c+1)) b))
 else
 e (yw (a+1)) b)) 0 g) d)
 else
 Q (-1) d)) 0 h
def zsb (P:Program) (l:Option Addr) (p:Int) (v:Int) (Q:(Int->(Hp->Prop))) (h:Hp):Prop:=
 ae P zrs [(yP l)] bH (λr c=>(if (!r)=true then
 Q 20 c
 else
 ae P zqg [(yP l),(yI p)] yH (λj b=>(if decide (j>=0) then
 Q 8 b
 else
 ah none l λg=>dI b g 2 λx=>bc [(yI p),(yI v)] (λa d=>eC 2 16 [(yI 0),(yI 0)] x ⟨(some a),1,1⟩ (λr2 e=>ah none l λi=>cX e (Addr.add i 2) [r2.v] (λf=>Q 0 f)) d) b)) c)) h
def YC (P:Program) (r:Option Addr) (many:Int) (j:xK) (Q:(Int->(Hp->Prop))) (h:Hp):Prop:=
 ae P xy [(yP r)] bH (λA a=>(if A then
 Q 0 a
 else
 ah none r λp=>dI a p 0 λx=>ah none r λt=>fy a t 1 λB=>(if (decide ((yw ((x.len:Int)-B))<many))=true then
 ah none r λi=>dI a i 0 λd=>aM P AW [(yP r),(yI 5),(yI (d.len:Int))] (λb=>Q 0 b) a
 else
 ah none r λi=>dI a i 0 λd=>ah none r λu=>fy a u 1 λe=>ah none r λv=>fy a v 1 λk=>((0<=e/\(e<=(yw (k+many))/\(yw (k+many))<=(d.cap:Int)))/\aF (α:=Sl) ⟨(bq d.base 1 (Int.toNat e) d.cap),((Int.toNat (yw (k+many)))-(Int.toNat e)),(d.cap-(Int.toNat e))⟩ λy=>bL (α1:=Int) (α2:=Int) (λq n c b=>(if decide (c<(y.len:Int)) then
 ((bI y.base y.len c)/\aN none (af .u8) b (sat y.base 1 c) λf=>(0<=(yw (8*c))/\q (eK .or .u64 n (qJ .u64 (IntKind.wrap .u64 f) (yw (8*c)))) (yw (c+1)) b))
 else
 ah none r λo=>fy b o 1 λf=>iK P tb (.func (.func j.g) j.first j.captured) [(.int .u64 n)] yH (λr2 l=>(((aZ l (Addr.add o 1) [(yI f)])/\True)/\aM P AW [(yP r),(yI r2),(yI f)] (λm=>ah none r λw=>fy m w 1 λC=>ah none r λz=>cX m (Addr.add z 1) [(yI (yw (C+many)))] (λs=>Q n s)) l)) b)) 0 0 a)))) h
def WJ (P:Program) (n:Int) (a1:Addr) (Q:(Int->(Hp->Prop))) (h:Hp):Prop:=
 aN none yH h a1 λx=>((0<=x/\x<5)/\(if ((IntKind.wrap .u8 n) !=(((UInt8.toNat (List.getD [70,66,67,70,1] (Int.toNat x) 0)):Nat):Int))=true then
 Q 4 h
 else
 Q 0 h))
def WL (P:Program) (a:Int) (a1:Addr) (Q:(Int->(Hp->Prop))) (h:Hp):Prop:=
 aN none al h a1 λx=>ah none x λp=>dI h p 0 λb=>aN (some (decide ((yw ((b.len:Int)-1))>=0))) al h a1 λg=>ah (some (decide ((yw ((b.len:Int)-1))>=0))) g λe=>aN (some (decide ((yw ((b.len:Int)-1))>=0))) aw h (Addr.add e 0) λc=>(((decide ((yw ((b.len:Int)-1))>=0))=true->(bI c.base c.len (yw ((b.len:Int)-1))))/\aN (some (decide ((yw ((b.len:Int)-1))>=0))) (af .u64) h (sat c.base 1 (yw ((b.len:Int)-1))) λi=>aF ((decide ((yw ((b.len:Int)-1))>=0))&&(a==i)) λy=>(if y then
 Q 8 h
 else
 aN (some (decide ((yw ((b.len:Int)-1))>=0))) al h a1 λj=>ah (some (decide ((yw ((b.len:Int)-1))>=0))) j λf=>aN (some (decide ((yw ((b.len:Int)-1))>=0))) aw h (Addr.add f 0) λd=>(((decide ((yw ((b.len:Int)-1))>=0))=true->(bI d.base d.len (yw ((b.len:Int)-1))))/\aN (some (decide ((yw ((b.len:Int)-1))>=0))) (af .u64) h (sat d.base 1 (yw ((b.len:Int)-1))) λk=>aF ((decide ((yw ((b.len:Int)-1))>=0))&&(decide (a<k))) λl=>(if l then
 Q 7 h
 else
 Q 0 h))))
def V2 (P:Program) (r:Option Addr) (c:Option Addr) (Q:(Int->(Hp->Prop))) (h:Hp):Prop:=
 bc [(yP c)] (λa b=>ae P MJ [(yP r),(yI 1),(.func (.func 333) #[] #[(yP (some a))])] yH (λe d=>Q e d) b) h
def zqt (P:Program) (r:Option Addr) (many:Int) (wrong:xK) (Q:(Int->(Hp->Prop))) (h:Hp):Prop:=
 bc [(.func (.func wrong.g) wrong.first wrong.captured)] (λa b=>ae P Aa [(yP r),(yI many),(.func (.func 334) #[] #[(yP (some a))])] (af .u64) (λd c=>Q (yw d) c) b) h
def zps (P:Program) (n:Int) (a1:Addr) (Q:(Int->(Hp->Prop))) (h:Hp):Prop:=
 aN none yH h a1 λx=>ae P zyl [(yI x),(yI n)] yH (λr a=>Q r a) h
def zpb (P:Program) (n:Int) (a1:Addr) (Q:(Int->(Hp->Prop))) (h:Hp):Prop:=
 aN none yH h a1 λx=>ae P RO [(yI n),(yI x)] yH (λr a=>Q r a) h
def YE (P:Program) (n:Int) (Q:(Int->(Hp->Prop))) (h:Hp):Prop:=
 (if decide (n>256) then
 Q 3 h
 else
 Q 0 h)
def zqu (P:Program) (r:Option Addr) (n:Int) (ag:Int) (Q:(aS->(Hp->Prop))) (h:Hp):Prop:=
 ae P xy [(yP r)] bH (λu a=>(if u then
 Q ⟨0,0,0,0,0⟩ a
 else
 ah none r λp=>fy a p 1 λx=>ah none r λs=>dI a s 0 λw=>(if (decide ((yw ((w.len:Int)-x))<12))=true then
 ah none r λt=>dI a t 0 λy=>aM P AW [(yP r),(yI 5),(yI (y.len:Int))] (λf=>Q ⟨0,0,0,0,0⟩ f) a
 else
 ae P Aa [(yP r),(yI 1),(.func (.func 335) #[] #[])] (af .u64) (λr2 f=>ae P Aa [(yP r),(yI 1),(.func (.func 335) #[] #[])] (af .u64) (λb j=>ae P Aa [(yP r),(yI 1),(.func (.func 335) #[] #[])] (af .u64) (λc k=>ae P Aa [(yP r),(yI 1),(.func (.func 335) #[] #[])] (af .u64) (λd l=>ae P Aa [(yP r),(yI 8),(.func (.func 335) #[] #[])] (af .u64) (λe m=>ae P RH [(.agg #[(yI (yw r2)),(yI (yw b)),(yI (yw c)),(yI (yw d)),(yI (yw e))]),(yI n),(yI ag)] yH (λg i=>(if (g !=0)=true then
 ae P MF [(.agg #[(yI (yw r2)),(yI (yw b)),(yI (yw c)),(yI (yw d)),(yI (yw e))]),(yI g)] yH (λv o=>aM P AW [(yP r),(yI g),(yI (yw (x+v)))] (λq=>Q ⟨(yw r2),(yw b),(yw c),(yw d),(yw e)⟩ q) o) i
 else
 Q ⟨(yw r2),(yw b),(yw c),(yw d),(yw e)⟩ i)) m) l) k) j) f) a))) h
def zze (P:Program) (op:Int) (Q:(ByteArray->(Hp->Prop))) (h:Hp):Prop:=
 aF ((decide (op<0)) || (decide (op>=34))) λy=>(if y then
 Q ⟨#[]⟩ h
 else
 ((0<=op/\op<34)/\∃x:ByteArray,((List.get?Internal (α:=Value) [(.string ⟨#[]⟩),(.string ⟨#[97,105]⟩),(.string ⟨#[97,98]⟩),(.string ⟨#[97,98,99]⟩),(.string ⟨#[97,98,99]⟩),(.string ⟨#[97,98,99]⟩),(.string ⟨#[97,98,99]⟩),(.string ⟨#[97,98,99]⟩),(.string ⟨#[97,98,99]⟩),(.string ⟨#[97,98,99]⟩),(.string ⟨#[97,98,99]⟩),(.string ⟨#[97,98,99]⟩),(.string ⟨#[97,98,99]⟩),(.string ⟨#[97,98,99]⟩),(.string ⟨#[97,98,99]⟩),(.string ⟨#[97,98,99]⟩),(.string ⟨#[97,98,99]⟩),(.string ⟨#[97,98,99]⟩),(.string ⟨#[97,98,99]⟩),(.string ⟨#[97,98,99]⟩),(.string ⟨#[97,98]⟩),(.string ⟨#[97,98]⟩),(.string ⟨#[105]⟩),(.string ⟨#[97,105]⟩),(.string ⟨#[97,98,99]⟩),(.string ⟨#[97,98]⟩),(.string ⟨#[97,98]⟩),(.string ⟨#[97]⟩),(.string ⟨#[97]⟩),(.string ⟨#[105]⟩),(.string ⟨#[105]⟩),(.string ⟨#[97]⟩),(.string ⟨#[97]⟩),(.string ⟨#[97]⟩)] ((Int.toNat op)*1))=(some (.string x))/\Q x h)))
def Lz (P:Program) (field:ByteArray) (a1:Addr) (Q:(Bool->(Hp->Prop))) (h:Hp):Prop:=
 aN none rH h a1 λx=>ae P zvi [(.string x),(.string field)] bH (λr a=>Q r a) h
def Tc (P:Program) (s:Sl) (f:xK) (Q:(Int->(Hp->Prop))) (h:Hp):Prop:=
 aB (α1:=Int) (λd a b=>(if decide (a<(s.len:Int)) then
 ((bI s.base s.len a)/\aN none aC b (sat s.base 2 a) λx=>iK P tb (.func (.func f.g) f.first f.captured) [x.v] bH (λr c=>(if r then
 Q a c
 else
 d (yw (a+1)) c)) b)
 else
 Q (-1) b)) 0 h
def zud (P:Program) (w:bN) (a1:Addr) (Q:(Bool->(Hp->Prop))) (h:Hp):Prop:=
 aN none yH h a1 λx=>Q (w.cU==x) h
def zmi (P:Program) (n:Int) (a1:Addr) (Q:(Int->(Hp->Prop))) (h:Hp):Prop:=
 aN none al h a1 λx=>ah none x λp=>dI h p 0 λa=>(if decide (n>=(a.len:Int)) then
 Q 2 h
 else
 Q 0 h)
def zue (P:Program) (n:Int) (a1:Addr) (Q:(Int->(Hp->Prop))) (h:Hp):Prop:=
 aN none gX h a1 λx=>iK P tb (.func (.func x.g) x.first x.captured) [(yI (yw n))] yH (λr a=>Q r a) h
def zuf (P:Program) (a0:Int) (Q:(Int->(Hp->Prop))) (h:Hp):Prop:=
 Q 0 h
def zzf (P:Program) (x:aS) (e:Int) (Q:(Int->(Hp->Prop))) (h:Hp):Prop:=
 (if (e==9)=true then
 Q 0 h
 else
 lJ P Rx [(yI x.Op)] bH bH bH bH (λr j r2 l g=>bc [(.bool r),(yI x.A),(.bool j),(yI x.B),(.bool r2),(yI x.C)] (λa i=>aB (α1:=Int) (λf b c=>(if decide (b<3) then
 ((bI (some a) 3 b)/\aN none LN c (sat (some a) 2 b) λd=>aF (d.has&&(decide (d.n>=8))) λy=>aF ((!d.has)&&(d.n !=0)) λy1=>aF (y || y1) λk=>(if k then
 Q (yw (1+b)) c
 else
 f (yw (b+1)) c))
 else
 Q 4 c)) 0 i) g) h)
end Lf
namespace Lf
open Go
def j3.s (a:j3):j3:=.sq .tt a
def bS (a n:Nat):List (Nat×List Nat):=(List.range' a n).map λi=>(i,[])
section
variable {α β:Type _} {p q:Nat->α->Prop}
def rowAll (p:Nat->α->Prop):Nat->List (Option α)->Prop
 | _,[]=>True
 | n,none::l=>rowAll p (n+1) l
 | n,some a::l=>p n a/\rowAll p (n+1) l
def mX (p:Nat->α->Prop):Nat->List (List (Option α))->Prop
 | _,[]=>True
 | n,r::l=>rowAll p n r/\mX p (n+16) l
def kX (f:Nat->α->β):Nat->List (Option α)->List β
 | _,[]=> []
 | n,none::l=>kX f (n+1) l
 | n,some a::l=>f n a::kX f (n+1) l
def jK (f:Nat->α->β):Nat->List (List (Option α))->List (List β)
 | _,[]=> []
 | n,r::l=>kX f n r::jK f (n+16) l
theorem rowAll.at :∀ {l:List (Option α)} {n j:Nat} {a:α},rowAll p n l->nth l j=some (some a)->p (n+j) a
 | [],_,_,_,_,h=>by cases h
 | none::l,n,0,_,_,h=>by cases h
 | some b::l,n,0,a,h,e=>by cases e;exact h.1
 | none::l,n,j+1,a,h,e=>by have:=rowAll.at (l:=l) (n:=n+1) h e;rwa [Nat.add_right_comm] at this
 | some b::l,n,j+1,a,h,e=>by have:=rowAll.at (l:=l) (n:=n+1) h.2 e;rwa [Nat.add_right_comm] at this
theorem mX.at :∀ {l:List (List (Option α))} {n i j:Nat} {r:List (Option α)} {a:α},mX p n l->nth l i=some r->nth r j=some (some a)->p (n+16*i+j) a
 | [],_,_,_,_,_,_,h,_=>by cases h
 | r::l,n,0,j,_,a,h,e,b=>by cases e;exact h.1.at b
 | r::l,n,i+1,j,_,a,h,e,b=>by
  have:=mX.at (l:=l) (n:=n+16) h.2 e b
  rwa [show n+16+16*i+j=n+16*(i+1)+j by omega] at this
theorem kX.all {f g:Nat->α->β}:∀ {l:List (Option α)} {n:Nat},kX f n l=kX g n l->rowAll (λt e=>f t e=g t e) n l
 | [],_,_=>trivial
 | none::l,n,h=>kX.all (l:=l) (n:=n+1) h
 | some a::l,n,h=>by obtain ⟨b,c⟩:=List.cons.inj h;exact ⟨b,kX.all c⟩
theorem jK.all {f g:Nat->α->β}:∀ {l:List (List (Option α))} {n:Nat},jK f n l=jK g n l->mX (λt e=>f t e=g t e) n l
 | [],_,_=>trivial
 | r::l,n,h=>by obtain ⟨a,b⟩:=List.cons.inj h;exact ⟨kX.all a,jK.all b⟩
def tN (c:Nat->Bool):Nat->List Bool->Bool
 | _,[]=>true
 | n,b::l=>(!b || c n)&&tN c (n+1) l
def tP (c:Nat->Bool):Nat->List (List Bool)->Bool
 | _,[]=>true
 | n,r::l=>tN c n r&&tP c (n+16) l
theorem tN.at {c:Nat->Bool}:∀ {l:List Bool} {n j:Nat},tN c n l=true->nth l j=some true->c (n+j)=true
 | [],_,_,_,h=>by cases h
 | b::l,n,0,h,e=>by cases e;simp [tN] at h;exact h.1
 | b::l,n,j+1,h,e=>by
  simp only [tN,Bool.and_eq_true] at h;have:=tN.at (l:=l) (n:=n+1) h.2 e
  rwa [Nat.add_right_comm] at this
theorem tP.at {c:Nat->Bool}:∀ {l:List (List Bool)} {n i j:Nat} {r:List Bool},tP c n l=true->nth l i=some r->nth r j=some true->c (n+16*i+j)=true
 | [],_,_,_,_,_,h,_=>by cases h
 | r::l,n,0,j,_,h,e,a=>by cases e;simp only [tP,Bool.and_eq_true] at h;exact tN.at h.1 a
 | r::l,n,i+1,j,_,h,e,a=>by
  simp only [tP,Bool.and_eq_true] at h;have:=tP.at (l:=l) (n:=n+16) h.2 e a
  rwa [show n+16+16*i+j=n+16*(i+1)+j by omega] at this
end
def vA (P:Program) (g:Nat):Bool:=match P.funcs[g]? with
 | some fn=>fn.body.isSome&& !(fn.name== "runtime.NumGoroutine")
 | none=>false
theorem vA.call {P:Program} {g:Nat} (h:vA P g=true) (args:Array Value) (w:World):(callFunc g args).run P w=.ok (.enter g args) w:=by
 unfold vA at h;cases a:P.funcs[g]? with
 | none=>rw [a] at h;cases h
 | some fn=>
  rw [a] at h;simp only [Bool.and_eq_true,Bool.not_eq_true'] at h;obtain ⟨c,d⟩:=h;have e:fn.body.isNone=false:=by cases hb:fn.body with
   | none=>rw [hb] at c;cases c
   | some b=>rfl
  simp only [callFunc,Sem.run_bind,run_program,Result.andThen_ok,a,d,e,Bool.false_eq_true,if_false,Sem.run_pure]
theorem aab {P:Program} {t:Nat} {e:Ty} (h:(P.info? t).map (λi=>(i.size,i.bytes,i.zero))=some (e.size,e.bytes,some e.zero)):∃i,P.info? t=some i/\i.size=e.size/\i.bytes=e.bytes/\i.zero=some e.zero:=by
 cases a:P.info? t with
 | none=>rw [a] at h;cases h
 | some i=>rw [a] at h;simp only [Option.map_some,Option.some.injEq,Prod.mk.injEq] at h;exact ⟨i,rfl,h⟩
theorem aad (x:HM):(bA x.v).length=1/\∀a,x.v≠ .agg a:=by obtain ⟨v,h⟩:=x;cases v<;>first | exact ⟨rfl,λa h=>by cases h⟩ | cases h
end Lf
namespace Lf
open Go Go.Proofs Tryz
theorem tyN {e:Ty} {q:Prop} (h:(none:Option Ty)=some e):q:=by cases h
theorem qg {p:Nat->Ty->Prop} (h:mX p 0 sC):∀t e,DN t=some e->p t e:=λt e a=>by
 unfold DN at a;cases b:nth sC (t / 16) with
 | none=>rw [b] at a;cases a
 | some r=>
  rw [b] at a;dsimp only at a;cases c:nth r (t%16) with
  | none=>rw [c] at a;cases a
  | some x=>
   rw [c] at a;dsimp only at a;subst a;have:=h.at b c
   rwa [show 0+16*(t / 16)+t%16=t by omega] at this
theorem H6 {c:Nat->Bool} (h:tP c 0 Ey=true):∀g,Dn g=true->c g=true:=λg a=>by
 unfold Dn at a;cases b:nth Ey (g / 16) with
 | none=>rw [b] at a;cases a
 | some r=>
  rw [b] at a;dsimp only at a;cases d:nth r (g%16) with
  | none=>rw [d] at a;cases a
  | some x=>
   rw [d] at a;dsimp only at a;subst a;have:=tP.at h b d
   rwa [show 0+16*(g / 16)+g%16=g by omega] at this
theorem Kz :jK (λt _=>prog.underlying t) 0 sC=jK (λ_ e=>some e.cH) 0 sC:=by kernel_rfl
theorem ab0 :jK (λt _=>(prog.info? t).map (λi=>(i.size,i.bytes,i.zero))) 0 sC=jK (λ_ e=>some (e.size,e.bytes,some e.zero)) 0 sC:=by kernel_rfl
theorem zF :mX (λ_ e=>(qR e.cH=true->(∀x,∃a,e.sh.enc x=.agg a/\a.size=e.size)/\∃a,e.zero=.agg a)/\(qR e.cH=false->e.size=1/\∀x,(bA (e.sh.enc x)).length=1/\∀a,e.sh.enc x≠ .agg a)/\(bA e.zero).length=e.size/\(e.cH=.int .u8->bA e.zero=[.int .u8 0])) 0 sC:=by
 unfold sC
 repeat' refine And.intro ?_ ?_
 all_goals first | exact trivial | exact rfl | (intro h;cases h;done) | exact (λ_=>rfl) | exact (λ_=>⟨λx=>⟨_,rfl,rfl⟩,_,rfl⟩) | exact (λ_=>⟨λx=>⟨_,rfl,x.size⟩,_,rfl⟩) | exact (λ_=>⟨rfl,aad⟩) | (refine λ_=>⟨rfl,λx=>⟨rfl,λa h=> ?_⟩⟩;cases h;done)
theorem cD :tb.Ok prog where
 cH:=qg (jK.all Kz)
 info:=λt e h=>aab (qg (jK.all ab0) t e h)
 agg:=λt e h b=>((qg zF t e h).1 b).1
 leaf:=λt e h=>(qg zF t e h).2.1
 BQ:=λt e h=>(qg zF t e h).2.2.1
 CY:=λt e h=>(qg zF t e h).2.2.2
 SQ:=λt e h b=>((qg zF t e h).1 b).2
 call:=λg h=>vA.call (H6 (by kernel_rfl) g h)
 ext:=by
  intro g f h args w;have h:yd g=some f:=h;unfold yd at h;cases c:Nat.beq g 255 with
  | true=>have a:g=255:=Nat.eq_of_beq_eq_true c;subst a;exact run_callFunc_extern func255 (by kernel_rfl) (by kernel_rfl) (by kernel_rfl) (show _=_ from (show _=some _ by kernel_rfl:_=some _).trans h) args w
  | false=>
  simp only [c,cond_false] at h;cases d:Nat.beq g 308 with
  | true=>have a:g=308:=Nat.eq_of_beq_eq_true d;subst a;exact run_callFunc_extern func308 (by kernel_rfl) (by kernel_rfl) (by kernel_rfl) (show _=_ from (show _=some _ by kernel_rfl:_=some _).trans h) args w
  | false=>
  simp only [d,cond_false] at h;cases i:Nat.beq g 309 with
  | true=>have a:g=309:=Nat.eq_of_beq_eq_true i;subst a;exact run_callFunc_extern func309 (by kernel_rfl) (by kernel_rfl) (by kernel_rfl) (show _=_ from (show _=some _ by kernel_rfl:_=some _).trans h) args w
  | false=>
  simp only [i,cond_false] at h;cases j:Nat.beq g 344 with
  | true=>have a:g=344:=Nat.eq_of_beq_eq_true j;subst a;exact run_callFunc_extern func344 (by kernel_rfl) (by kernel_rfl) (by kernel_rfl) (show _=_ from (show _=some _ by kernel_rfl:_=some _).trans h) args w
  | false=>
  simp only [j,cond_false] at h;cases h
 mixed:=by kernel_rfl
theorem bZ (p:List Nat) (A:j3) {g:FuncId} {f:Func} {args:List Value} {K:(bC tb f.resultTypes.toList).T->Hp->Prop} {h:Hp} {X:Prop} (a:prog.funcs[g]? =some f) (hv:X) {c:Code} (hb:f.body=some c:=by exact rfl) (k:Dp ⟨prog,tb,p⟩ f A args K h=X:=by kernel_rfl):ae prog g args (bC tb f.resultTypes.toList) K h:=
 U6 (C:=⟨prog,tb,p⟩) (A:=A) cD a hb (k.mpr hv)
theorem ir {c script more Q h} (hv:Up prog c script more Q h):ae prog ztm [(aA).enc c,(aw).enc script,(aw).enc more] (bH) Q h:=
 bZ [3,13,14] (.s (.s (.s (.s (.sq (.s (.bk (.lp [⟨false,11,3⟩] [] .tt))) (.s (.s (.s (.s (.s (.sq (.s (.bk (.lp [⟨false,19,3⟩] [] .tt))) .tt))))))))))) func4 hv
theorem WS {c Q h} (hv:zyp prog c Q h):bt prog zyf [(aA).enc c] (al) yH Q h:=
 show ae prog zyf [(aA).enc c] (bC tb [38,39]) (λr=>Q r.1 r.2) h from bZ [1] (.s (.s (.sq (.rg ([(0,[]),(1,[]),(2,[0])]++bS 3 3)) .tt))) func12 hv
theorem znq {a b Q h} (hv:Xo prog a b Q h):ae prog Xg [(ov).enc a,(ov).enc b] (bH) Q h:=
 bZ [2,3] (.s (.s (.sq (.s (.bk (.lp [⟨false,5,3⟩] [] (.s (.sq (.bk (.sq (.rg (bS 0 12)) .tt)) .tt))))) (.sq (.s (.bk (.lp [⟨false,7,3⟩] [] (.s (.sq (.bk (.sq (.rg (bS 0 12)) .tt)) .tt))))) .tt)))) func14 hv
theorem UD {m Q h} (hv:LP prog m Q h):ae prog QQ [(al).enc m] (ov) Q h:=
 bZ [2,3] (.s (.s (.sq (.s (.bk (.lp [⟨false,26,3⟩,⟨true,3,49⟩] [3] (.s (.s (.sq (.bk (.s (.s (.rg (bS 0 10++bS 11 10++ [(10,[1,5,14,18]),(21,[]),(22,[1])]++bS 23 3))))) .tt)))))) (.sq (.s (.bk (.lp [⟨false,69,3⟩,⟨true,3,49⟩] [3] (.s (.s (.sq (.bk (.s (.s (.sq (.rg (bS 0 14++ [(14,[3,7,9,12])]++bS 15 6)) (.sq (.rg (bS 0 14++ [(14,[3,7,9,12])]++bS 15 6)) (.rg (bS 0 25++ [(25,[1])]++bS 26 3))))))) .tt)))))) .tt)))) func16 hv
theorem zmj {m Q h} (hv:LS prog m Q h):ae prog zpo [(al).enc m] yH Q h:=
 bZ [] (.s (.sq (.rg (bS 0 10)) (.s (.s (.s (.sq (.s (.bj [] [] (.lp [⟨false,32,3⟩] [] (.s (.s (.sq (.bk (.sq (.s (.bk (.lp [⟨false,39,3⟩] [] (.s (.s (.sq (.bk (.s (.sq (.rg (bS 0 13)) (.sq (.rg (bS 0 14)) .tt)))) .tt)))))) .tt)) .tt)))))) .tt)))))) func17 hv
theorem zvw {Q h} (hv:Wo prog  Q h):ae prog zpp [] (bH) Q h:=
 bZ [1,2,5,6,9,10] .tt func18 hv
theorem zzg {c Q h} (hv:Yg prog c Q h):bt prog X0 [(aA).enc c] yH yH Q h:=
 show ae prog X0 [(aA).enc c] (bC tb [39,3]) (λr=>Q r.1 r.2) h from bZ [1,7] (.s (.s (.s (.sq (.rg ([(0,[]),(1,[]),(3,[]),(4,[]),(6,[]),(7,[]),(9,[]),(10,[]),(13,[]),(2,[4,7,10]),(5,[7,10]),(8,[10]),(11,[]),(12,[]),(14,[])])) (.sq (.s (.bk (.lp [⟨false,8,3⟩] [] .tt))) (.s (.s (.sq (.s (.bk (.lp [⟨false,9,3⟩] [] (.s (.sq (.bk (.sq (.sq (.rg (bS 0 12)) .tt) (.sq (.rg (bS 0 14)) .tt))) .tt))))) .tt)))))))) func19 hv
theorem WN {m s Q h} (hv:Me prog m s Q h):bt prog Mc [(al).enc m,(dB).enc s] yH yH Q h:=
 show ae prog Mc [(al).enc m,(dB).enc s] (bC tb [3,39]) (λr=>Q r.1 r.2) h from bZ [3] .tt func20 hv
theorem KL {c s Q h} (hv:zyq prog c s Q h):bt prog Rr [(aA).enc c,(ov).enc s] (aw) yH Q h:=
 show ae prog Rr [(aA).enc c,(ov).enc s] (bC tb [57,39]) (λr=>Q r.1 r.2) h from bZ [2,3,11,13] (.s (.s (.s (.s (.s (.s (.s (.sq (.rg (bS 0 6)) (.sq (.s (.bk (.lp [⟨false,59,3⟩] [11] .tt))) (.sq (.s (.bk (.lp [⟨false,70,3⟩] [13] .tt))) .tt)))))))))) func21 hv
theorem zug {m Q h} (hv:QP prog m Q h):ae prog zno [(al).enc m] (aA) Q h:=
 bZ [2] .tt func22 hv
theorem zsc {b Q h} (hv:zyr prog b Q h):lJ prog Ob [(aw).enc b] (aA) (ov) yH yH Q h:=
 show ae prog Ob [(aw).enc b] (bC tb [26,49,39,3]) (λr=>Q r.1 r.2.1 r.2.2.1 r.2.2.2) h from bZ [2,3,7] (.s (.s (.s (.s (.jn [] [] (.s (.sq (.rg (bS 0 10)) .tt)) (.sq (.s (.sq (.sq (.rg (bS 0 12++ [(12,[6,11]),(13,[6,11]),(14,[]),(15,[])])) .tt) .tt)) (.sq (.rg (bS 0 5++ [(5,[4])]++bS 6 3)) .tt))))))) func23 hv
theorem WV {c s Q h} (hv:zys prog c s Q h):bt prog zyg [(aA).enc c,(ov).enc s] (al) yH Q h:=
 show ae prog zyg [(aA).enc c,(ov).enc s] (bC tb [38,39]) (λr=>Q r.1 r.2) h from bZ [2,3] .tt func24 hv
theorem zsx {a b Q h} (hv:UU prog a b Q h):ae prog zme [(aA).enc a,(aA).enc b] (bH) Q h:=
 bZ [2,3] (.s (.s (.sq (.s (.bk (.lp [⟨false,5,3⟩] [] (.s (.sq (.bk (.sq (.rg (bS 0 13)) .tt)) .tt))))) .tt))) func37 hv
theorem zzh {c Q h} (hv:EG prog c Q h):bt prog Qf [(aA).enc c] yH yH Q h:=
 show ae prog Qf [(aA).enc c] (bC tb [39,3]) (λr=>Q r.1 r.2) h from bZ [1,15] (.s (.s (.s (.s (.sq (.s (.bk (.lp [⟨false,57,3⟩] [] .tt))) (.s (.sq (.s (.bk (.lp [⟨false,80,3⟩] [15] .tt))) .tt))))))) func50 hv
theorem zxe {c s Q h} (hv:zvs prog c s Q h):ae prog zvq [(aA).enc c,(ov).enc s] (al) Q h:=
 bZ [2,3,7,11,12] (.s (.sq (.rg ([(0,[]),(2,[]),(3,[]),(1,[3])]++bS 4 3)) (.s (.s (.sq (.s (.bk (.lp [⟨false,48,3⟩] [7] (.s (.s (.sq (.bk (.s (.s (.rg (bS 0 9++bS 10 5++ [(9,[4,6,11,13]),(15,[4,6,11,13]),(16,[]),(17,[4]),(18,[4])]++bS 19 4))))) .tt)))))) (.sq (.s (.bk (.lp [⟨false,86,3⟩] [11,12] (.s (.s (.sq (.bj [] [11,12] (.s (.s (.s (.sq (.rg (bS 0 21++ [(21,[4]),(22,[4])]++bS 23 4)) (.sq (.rg (bS 0 9)) (.s (.jn [] [] (.s (.sq (.rg (bS 0 5++ [(6,[]),(7,[]),(5,[3,7]),(8,[])])) .tt)) (.s (.sq (.rg (bS 0 5++ [(6,[]),(7,[]),(5,[3,7]),(8,[])])) .tt)))))))))) .tt)))))) .tt)))))) func51 hv
theorem Vb {c Q h} (hv:zts prog c Q h):ae prog Lh [(aA).enc c] (ov) Q h:=
 bZ [1,2,3] (.s (.sq (.r2 [(0,[]),(1,[]),(2,[]),(4,[]),(5,[]),(6,[]),(9,[])] 3 7 (.rg ([(3,[5]),(7,[]),(8,[]),(10,[])])) (.rg ([(7,[1]),(3,[5]),(8,[]),(10,[])]))) (.sq (.s (.bk (.lp [⟨false,18,3⟩] [] (.s (.s (.sq (.bj [] [] (.s (.r2 [(0,[]),(1,[]),(2,[]),(3,[]),(4,[]),(5,[]),(7,[]),(8,[]),(10,[]),(11,[])] 6 12 (.r2 [(6,[1,4,8,11])] 9 12 (.r2 [(9,[1,4,11]),(13,[]),(14,[])] 12 15 (.rg ([(12,[1,4]),(15,[4])]++bS 16 3)) (.rg ([(15,[4,11]),(12,[1,4])]++bS 16 3))) (.rg ([(12,[1,4,8]),(9,[1,4,11]),(13,[]),(14,[]),(15,[4,11])]++bS 16 3))) (.rg ([(12,[1,4,8]),(6,[1,4,8,11]),(9,[1,4,11]),(13,[]),(14,[]),(15,[4,11])]++bS 16 3))))) .tt)))))) (.sq (.s (.bk (.lp [⟨false,42,3⟩] [] (.s (.s (.sq (.bk (.s (.rg (bS 0 7++ [(7,[1])]++bS 8 3)))) .tt)))))) .tt)))) func52 hv
theorem zkm {m p v Q h} (hv:LO prog m p v Q h):ae prog znp [(al).enc m,yH.enc p,yH.enc v] yH Q h:=
 bZ [] (.s (.s (.sq (.rg (bS 0 14)) .tt))) func53 hv
theorem zmk {m p Q h} (hv:LU prog m p Q h):ae prog zpq [(al).enc m,yH.enc p] yH Q h:=
 bZ [] .tt func54 hv
theorem zsy {a b Q h} (hv:UX prog a b Q h):ae prog zmf [(bx).enc a,(bx).enc b] (bH) Q h:=
 bZ [2,3] (.s (.s (.sq (.s (.bk (.lp [⟨false,5,3⟩] [] (.s (.sq (.bk (.sq (.rg (bS 0 11)) .tt)) .tt))))) (.sq (.s (.bk (.lp [⟨false,6,3⟩] [] (.s (.sq (.bk (.sq (.rg (bS 0 12)) .tt)) .tt))))) .tt)))) func55 hv
theorem zqv {a b Q h} (hv:Ul prog a b Q h):ae prog zjg [(aI).enc a,(aI).enc b] (bH) Q h:=
 bZ [2,3] (.s (.s (.sq (.s (.bk (.lp [⟨false,5,3⟩] [] (.s (.sq (.bk (.sq (.rg (bS 0 12)) .tt)) .tt))))) .tt))) func56 hv
theorem SU {l Q h} (hv:Zf prog l Q h):bt prog Q0 [(al).enc l] (aw) (aw) Q h:=
 show ae prog Q0 [(al).enc l] (bC tb [23,102]) (λr=>Q r.1 r.2) h from bZ [7] (.s (.s (.s (.sq (.s (.bk (.lp [⟨false,4,23⟩,⟨false,5,102⟩,⟨false,13,3⟩] [7] .tt))) .tt)))) func58 hv
theorem zea {s Q h} (hv:TC prog s Q h):ae prog Ls [(aw).enc s] (aw) Q h:=
 bZ [] .tt func59 hv
theorem TO {p Q h} (hv:zqh prog p Q h):bt prog Rd [(al).enc p] (aw) yH Q h:=
 show ae prog Rd [(al).enc p] (bC tb [80,3]) (λr=>Q r.1 r.2) h from bZ [] (.s (.s (.sq (.s (.bk (.lp [⟨false,4,80⟩,⟨false,12,3⟩] [] .tt))) (.sq (.rg (bS 0 7)) .tt)))) func60 hv
theorem zsl {w dY Q h} (hv:Rf prog w dY Q h):bt prog Hu [(al).enc w,yH.enc dY] yH (bH) Q h:=
 show ae prog Hu [(al).enc w,yH.enc dY] (bC tb [2,4]) (λr=>Q r.1 r.2) h from bZ [6] .tt func61 hv
theorem Mo {p Q h} (hv:Rm prog p Q h):ae prog Ae [yH.enc p] yH Q h:=
 bZ [] .tt func62 hv
theorem Mq {p Q h} (hv:Rn prog p Q h):ae prog Bb [yH.enc p] yH Q h:=
 bZ [] .tt func63 hv
theorem SV {s t Q h} (hv:Zi prog s t Q h):ae prog ztn [(al).enc s,yH.enc t] yH Q h:=
 bZ [] (.s (.s (.sq (.rg (bS 0 14)) .tt))) func64 hv
theorem zxf {m x Q h} (hv:Xq prog m x Q h):aM prog Xi [(al).enc m,(al).enc x] (Q) h:=
 show ae prog Xi [(al).enc m,(al).enc x] (bC tb []) (λ_=>Q) h from bZ [] (.sq (.rg (bS 0 8++ [(10,[]),(8,[]),(9,[])])) (.bk (.lp [⟨false,17,3⟩] [] (.s (.s (.sq (.bj [] [] .tt) .tt)))))) func65 hv
theorem zvx {m p Q h} (hv:Wq prog m p Q h):aM prog We [(al).enc m,(al).enc p] (Q) h:=
 show ae prog We [(al).enc m,(al).enc p] (bC tb []) (λ_=>Q) h from bZ [4,5] (.sq (.rg (bS 0 16++ [(20,[]),(21,[])]++bS 16 4++ [(22,[]),(23,[])])) (.s (.sq (.rg (bS 0 11)) (.s (.bk (.s (.s (.s (.s (.jn [⟨false,61,4⟩] [] .tt (.s (.s (.sq (.s (.sq (.rg (bS 0 8++ [(8,[3]),(9,[])])) (.s (.sq (.rg (bS 0 8++bS 9 8++ [(8,[3,12,14]),(17,[])])) .tt)))) (.s (.sq (.sq (.rg (bS 0 8++bS 9 9++ [(8,[3,12,14]),(18,[])])) .tt) (.s (.sq (.sq (.rg (bS 0 16)) .tt) (.s (.sq (.sq (.rg (bS 0 8++ [(9,[]),(10,[]),(8,[10]),(11,[])])) (.sq (.sq (.rg (bS 0 16)) .tt) .tt)) (.s (.sq (.sq (.rg (bS 0 11)) (.sq (.rg (bS 0 16++ [(16,[4])]++bS 17 4)) .tt)) .tt))))))))))))))))))))) func66 hv
theorem zvy {Q h} (hv:Wt prog  Q h):bt prog Wf [] (aA) (ov) Q h:=
 show ae prog Wf [] (bC tb [26,49]) (λr=>Q r.1 r.2) h from bZ [0,1,2] .tt func67 hv
theorem zxg {a b Q h} (hv:Xs prog a b Q h):ae prog zrg [(aA).enc a,(aA).enc b] (bH) Q h:=
 bZ [2,3] (.s (.s (.sq (.s (.bk (.lp [⟨false,5,4⟩,⟨false,6,3⟩] [] (.s (.sq (.bk (.rg (bS 0 14))) .tt))))) .tt))) func68 hv
theorem zzi {l Q h} (hv:zsk prog l Q h):bt prog X2 [(aw).enc l] yH yH Q h:=
 show ae prog X2 [(aw).enc l] (bC tb [39,3]) (λr=>Q r.1 r.2) h from bZ [] (.s (.s (.s (.sq (.s (.bk (.lp [⟨false,4,3⟩] [] (.s (.sq (.bk (.sq (.sq (.rg (bS 0 10)) .tt) (.sq (.rg (bS 0 10)) .tt))) .tt))))) .tt)))) func69 hv
theorem zur {l parts Q h} (hv:VL prog l parts Q h):ae prog zod [(aw).enc l,yH.enc parts] yH Q h:=
 bZ [] (.s (.s (.s (.sq (.s (.bk (.lp [⟨false,5,3⟩] [] .tt))) .tt)))) func70 hv
theorem Ho {n least dS Q h} (hv:VN prog n least dS Q h):ae prog DX [yH.enc n,yH.enc least,yH.enc dS] (bH) Q h:=
 bZ [] .tt func71 hv
theorem zzj {l ag Q h} (hv:Yj prog l ag Q h):bt prog X4 [(aw).enc l,yH.enc ag] yH yH Q h:=
 show ae prog X4 [(aw).enc l,yH.enc ag] (bC tb [39,3]) (λr=>Q r.1 r.2) h from bZ [] (.s (.s (.s (.sq (.s (.bk (.lp [⟨false,6,3⟩] [] .tt))) .tt)))) func72 hv
theorem zsd {c s Q h} (hv:Ry prog c s Q h):ae prog Rt [(aA).enc c,(ov).enc s] yH Q h:=
 bZ [2,3,10] (.s (.s (.s (.s (.s (.sq (.s (.bk (.lp [⟨false,61,3⟩] [] .tt))) (.sq (.s (.bk (.lp [⟨false,72,3⟩] [] .tt))) .tt))))))) func73 hv
theorem WX {c Q h} (hv:zyt prog c Q h):bt prog zyh [(aA).enc c] (aw) yH Q h:=
 show ae prog zyh [(aA).enc c] (bC tb [57,39]) (λr=>Q r.1 r.2) h from bZ [1,12] (.s (.s (.s (.sq (.s (.bk (.lp [⟨false,6,57⟩,⟨false,35,3⟩] [] .tt))) (.s (.sq (.s (.bk (.lp [⟨false,6,57⟩,⟨false,53,3⟩] [] .tt))) (.s (.s (.s (.s (.sq (.s (.bk (.lp [⟨false,6,57⟩,⟨false,92,3⟩] [12] .tt))) .tt))))))))))) func74 hv
theorem sL {w n many Q h} (hv:Ym prog w n many Q h):aM prog ou [(al).enc w,yH.enc n,yH.enc many] (Q) h:=
 show ae prog ou [(al).enc w,yH.enc n,yH.enc many] (bC tb []) (λ_=>Q) h from bZ [] .tt func75 hv
theorem AO {w n many Q h} (hv:ZV prog w n many Q h):aM prog u4 [(al).enc w,yH.enc n,yH.enc many] (Q) h:=
 show ae prog u4 [(al).enc w,yH.enc n,yH.enc many] (bC tb []) (λ_=>Q) h from bZ [] (.s (.bk (.lp [⟨false,8,3⟩] [] (.s (.s (.sq (.bk (.s (.rg (bS 0 11++ [(11,[4])]++bS 12 4)))) .tt)))))) func76 hv
theorem S3 {w x Q h} (hv:ZX prog w x Q h):aM prog Q7 [(al).enc w,(bx).enc x] (Q) h:=
 show ae prog Q7 [(al).enc w,(bx).enc x] (bC tb []) (λ_=>Q) h from bZ [3,5] (.s (.sq (.rg (bS 0 6)) (.sq (.rg (bS 0 7)) (.sq (.s (.bk (.lp [⟨false,26,3⟩] [5] (.s (.s (.sq (.bk (.s (.sq (.rg (bS 0 6)) (.sq (.rg (bS 0 6)) (.rg (bS 0 6)))))) .tt)))))) (.sq (.rg (bS 0 6)) (.sq (.rg (bS 0 6)) (.s (.bk (.lp [⟨false,64,3⟩] [] (.s (.s (.sq (.bk (.s (.s (.sq (.rg (bS 0 10)) (.s (.bk (.lp [⟨false,91,3⟩] [] .tt))))))) .tt)))))))))))) func77 hv
theorem S4 {w x Q h} (hv:ZZ prog w x Q h):aM prog Q8 [(al).enc w,(aI).enc x] (Q) h:=
 show ae prog Q8 [(al).enc w,(aI).enc x] (bC tb []) (λ_=>Q) h from bZ [3,8] (.s (.sq (.rg (bS 0 6)) (.sq (.rg (bS 0 6)) (.sq (.s (.bk (.lp [⟨false,23,3⟩] [] .tt))) (.sq (.rg (bS 0 6)) (.sq (.rg (bS 0 6)) (.s (.jn [⟨false,6,3⟩] [] .tt (.s (.sq (.rg (bS 0 6)) (.s (.bk (.lp [⟨false,60,3⟩] [8] .tt))))))))))))) func78 hv
theorem zuh {c Q h} (hv:zrv prog c Q h):ae prog zrp [(aA).enc c] (aA) Q h:=
 bZ [1,2,4] (.s (.sq (.rg ([(0,[]),(1,[]),(3,[]),(4,[]),(6,[]),(7,[]),(2,[4,7]),(9,[]),(5,[7]),(8,[])]++bS 10 5)) (.sq (.s (.bk (.lp [⟨false,20,3⟩] [4] (.s (.s (.sq (.bk (.s (.rg (bS 0 5++ [(5,[1])]++bS 6 3)))) .tt)))))) .tt))) func79 hv
theorem SW {r Q h} (hv:Zl prog r Q h):ae prog zto [(al).enc r] (ov) Q h:=
 bZ [2,6] (.s (.sq (.s (.bk (.lp [⟨false,7,3⟩] [] (.s (.s (.sq (.bj [] [] .tt) .tt)))))) (.s (.s (.sq (.s (.bk (.lp [⟨false,43,3⟩,⟨true,6,49⟩] [6] (.s (.s (.sq (.bk (.rg (bS 0 3++ [(3,[1]),(4,[1])]++bS 5 3))) .tt)))))) (.sq (.s (.bk (.lp [⟨false,59,3⟩,⟨true,6,49⟩] [6] (.s (.s (.sq (.bk (.rg (bS 0 3++ [(3,[1]),(4,[1])]++bS 5 3))) .tt)))))) (.sq (.sq (.rg (bS 0 12)) (.sq (.rg (bS 0 9)) .tt)) .tt))))))) func80 hv
theorem AP {r e place Q h} (hv:Rb prog r e place Q h):aM prog yO [(al).enc r,yH.enc e,yH.enc place] (Q) h:=
 show ae prog yO [(al).enc r,yH.enc e,yH.enc place] (bC tb []) (λ_=>Q) h from bZ [] .tt func81 hv
theorem zml {s v Q h} (hv:Wv prog s v Q h):ae prog Wg [(aw).enc s,yH.enc v] yH Q h:=
 bZ [] (.s (.sq (.s (.bk (.lp [⟨false,8,3⟩] [] .tt))) .tt)) func91 hv
theorem zrk {a b Q h} (hv:Uq prog a b Q h):ae prog zka [(aw).enc a,(aw).enc b] (bH) Q h:=
 bZ [] (.s (.s (.sq (.s (.bk (.lp [⟨false,5,3⟩] [] (.s (.sq (.bk (.sq (.rg (bS 0 9)) .tt)) .tt))))) .tt))) func96 hv
theorem zsz {a b Q h} (hv:UY prog a b Q h):ae prog zmg [(aw).enc a,(aw).enc b] (bH) Q h:=
 bZ [] (.s (.s (.sq (.s (.bk (.lp [⟨false,5,3⟩] [] (.s (.sq (.bk (.sq (.rg (bS 0 9)) .tt)) .tt))))) .tt))) func97 hv
theorem zvz {l Q h} (hv:Po prog l Q h):bt prog RN [(aw).enc l] yH yH Q h:=
 show ae prog RN [(aw).enc l] (bC tb [39,3]) (λr=>Q r.1 r.2) h from bZ [] (.s (.s (.sq (.s (.bk (.lp [⟨false,4,3⟩] [] (.s (.sq (.bk (.bk (.sq (.rg (bS 0 11)) (.s (.sq (.rg (bS 0 11)) .tt))))) .tt))))) .tt))) func110 hv
theorem zwa {n dS Q h} (hv:Ek prog n dS Q h):ae prog RO [yH.enc n,yH.enc dS] yH Q h:=
 bZ [] .tt func111 hv
theorem L3 {table parts Q h} (hv:Pq prog table parts Q h):jz prog RP [(aw).enc table,yH.enc parts] (al) yH yH Q h:=
 show ae prog RP [(aw).enc table,yH.enc parts] (bC tb [107,39,3]) (λr=>Q r.1 r.2.1 r.2.2) h from bZ [] (.s (.s (.s (.sq (.rg ([(0,[]),(2,[]),(1,[2])]++bS 3 5)) .tt)))) func112 hv
theorem KM {part n Q h} (hv:zyu prog part n Q h):ae prog zyl [yH.enc part,yH.enc n] yH Q h:=
 bZ [] .tt func113 hv
theorem M1 {n from_ to Q h} (hv:zyv prog n from_ to Q h):ae prog Hx [yH.enc n,yH.enc from_,yH.enc to] (bH) Q h:=
 bZ [] .tt func114 hv
theorem MG {l ag Q h} (hv:EI prog l ag Q h):bt prog A5 [(aw).enc l,yH.enc ag] yH yH Q h:=
 show ae prog A5 [(aw).enc l,yH.enc ag] (bC tb [39,3]) (λr=>Q r.1 r.2) h from bZ [7] (.s (.s (.sq (.s (.bk (.lp [⟨false,22,3⟩] [7] .tt))) .tt))) func115 hv
theorem L4 {l Q h} (hv:Pt prog l Q h):jz prog RQ [(aw).enc l] (al) yH yH Q h:=
 show ae prog RQ [(aw).enc l] (bC tb [106,39,3]) (λr=>Q r.1 r.2.1 r.2.2) h from bZ [] (.s (.s (.s (.sq (.s (.bk (.lp [⟨false,29,3⟩] [] .tt))) .tt)))) func116 hv
theorem ZB {ax au Q h} (hv:El prog ax au Q h):bt prog RT [(aw).enc ax,(aw).enc au] (al) yH Q h:=
 show ae prog RT [(aw).enc ax,(aw).enc au] (bC tb [114,39]) (λr=>Q r.1 r.2) h from bZ [] (.s (.s (.s (.s (.sq (.s (.bk (.lp [⟨false,30,3⟩] [] (.s (.s (.sq (.bk (.s (.s (.s (.s (.bk (.lp [⟨false,65,3⟩] [] (.s (.s (.sq (.bk (.s (.s (.rg (bS 0 14++ [(14,[3,8,12]),(15,[3])]++bS 16 3))))) .tt)))))))))) .tt)))))) .tt))))) func117 hv
theorem ZE {Q h} (hv:RU prog  Q h):ae prog Eg [] (al) Q h:=
 bZ [] .tt func118 hv
theorem abd {room l ai Q h} (hv:EJ prog room l ai Q h):bt prog A6 [yH.enc room,(aw).enc l,yH.enc ai] (al) yH Q h:=
 show ae prog A6 [yH.enc room,(aw).enc l,yH.enc ai] (bC tb [126,39]) (λr=>Q r.1 r.2) h from bZ [10] (.s (.s (.s (.sq (.s (.bk (.lp [⟨false,44,3⟩] [10] .tt))) .tt)))) func119 hv
theorem YG {w dY due Q h} (hv:Rg prog w dY due Q h):ae prog Ac [(al).enc w,yH.enc dY,yH.enc due] yH Q h:=
 bZ [7] (.s (.s (.s (.s (.sq (.rg (bS 0 11)) (.sq (.rg (bS 0 7++ [(7,[4])]++bS 8 4)) (.sq (.rg (bS 0 7)) .tt))))))) func120 hv
theorem zus {x count Q h} (hv:VP prog x count Q h):ae prog vQ [(aw).enc x,yH.enc count] (aw) Q h:=
 bZ [] (.s (.jn [] [] .tt (.s (.jn [] [] .tt (.s (.s (.sq (.bk (.lp [⟨false,8,3⟩] [] (.s (.bk (.rg (bS 0 10)))))) .tt))))))) func121 hv
theorem zld {m p Q h} (hv:VR prog m p Q h):ae prog Vy [(al).enc m,yH.enc p] yH Q h:=
 bZ [] .tt func122 hv
theorem zpc {p lane v Q h} (hv:Ro prog p lane v Q h):ae prog Rk [(al).enc p,yH.enc lane,yH.enc v] yH Q h:=
 bZ [] .tt func123 hv
theorem zui {p lane Q h} (hv:Rj prog p lane Q h):aM prog MZ [(al).enc p,yH.enc lane] (Q) h:=
 show ae prog MZ [(al).enc p,yH.enc lane] (bC tb []) (λ_=>Q) h from bZ [] .tt func124 hv
theorem U5 {m q Q h} (hv:Ww prog m q Q h):aM prog LQ [(al).enc m,(al).enc q] (Q) h:=
 show ae prog LQ [(al).enc m,(al).enc q] (bC tb []) (λ_=>Q) h from bZ [] .tt func125 hv
theorem zmm {m p state Q h} (hv:Wy prog m p state Q h):aM prog QS [(al).enc m,(al).enc p,yH.enc state] (Q) h:=
 show ae prog QS [(al).enc m,(al).enc p,yH.enc state] (bC tb []) (λ_=>Q) h from bZ [10,12] (.sq (.rg (bS 0 11)) (.s (.sq (.s (.bk (.lp [⟨false,35,3⟩] [] (.s (.s (.sq (.bk (.s (.rg (bS 0 15)))) .tt)))))) (.sq (.sq (.rg (bS 0 8++ [(10,[]),(8,[]),(9,[])])) (.bk (.lp [⟨false,65,3⟩] [10] .tt))) (.sq (.rg (bS 0 8++ [(8,[3]),(9,[])])) (.sq (.rg (bS 0 8++ [(8,[3]),(9,[])])) (.s (.bk (.lp [⟨false,100,3⟩] [12] (.s (.s (.sq (.bk (.s (.rg (bS 0 10)))) .tt)))))))))))) func126 hv
theorem znr {a b Q h} (hv:Xu prog a b Q h):ae prog Xl [(aw).enc a,(aw).enc b] (bH) Q h:=
 bZ [] (.s (.s (.sq (.s (.bk (.lp [⟨false,5,3⟩] [] (.s (.sq (.bk (.sq (.rg (bS 0 9)) .tt)) .tt))))) .tt))) func127 hv
theorem zta {a b Q h} (hv:U0 prog a b Q h):ae prog zmh [(bd).enc a,(bd).enc b] (bH) Q h:=
 bZ [2,3] (.s (.s (.sq (.s (.bk (.lp [⟨false,5,3⟩] [] (.s (.sq (.bk (.sq (.rg (bS 0 11)) .tt)) .tt))))) (.sq (.s (.bk (.lp [⟨false,6,3⟩] [] (.s (.sq (.bk (.sq (.rg (bS 0 11)) .tt)) .tt))))) .tt)))) func128 hv
theorem QO {s Q h} (hv:Hq prog s Q h):ae prog QT [(aw).enc s] (aw) Q h:=
 bZ [] .tt func130 hv
theorem zsm {l Q h} (hv:zqi prog l Q h):ae prog zqb [(al).enc l] (bd) Q h:=
 bZ [2] (.s (.sq (.rg (bS 0 4++bS 5 4++bS 10 8++ [(4,[8,13,17]),(9,[13,17]),(18,[]),(19,[])])) .tt)) func131 hv
theorem TQ {w now Q h} (hv:Rh prog w now Q h):ae prog zww [(al).enc w,yH.enc now] (aw) Q h:=
 bZ [] (.s (.s (.sq (.bk (.lp [⟨false,5,23⟩] [] .tt)) .tt))) func132 hv
theorem U7 {m p c Q h} (hv:WA prog m p c Q h):aM prog LR [(al).enc m,(al).enc p,(fM).enc c] (Q) h:=
 show ae prog LR [(al).enc m,(al).enc p,(fM).enc c] (bC tb []) (λ_=>Q) h from bZ [5] (.s (.rg (bS 0 5++ [(5,[2])]++bS 6 3))) func133 hv
theorem EL {c Q h} (hv:EM prog c Q h):ae prog Ag [(fM).enc c] (fM) Q h:=
 bZ [1,2] .tt func134 hv
theorem abg {c l tick self Q h} (hv:EN prog c l tick self Q h):bt prog ED [(fM).enc c,(aw).enc l,yH.enc tick,yH.enc self] (fM) (FP) Q h:=
 show ae prog ED [(fM).enc c,(aw).enc l,yH.enc tick,yH.enc self] (bC tb [125,228]) (λr=>Q r.1 r.2) h from bZ [8,9,10,12,15] (.s (.s (.s (.sq (.s (.s (.sq (.sq (.s (.sq (.sq (.rg ([(0,[]),(1,[]),(2,[1]),(3,[])])) .tt) .tt)) (.sq (.rg ([(0,[]),(2,[]),(1,[2]),(3,[2]),(4,[])])) .tt)) .tt))) (.s (.s (.sq (.s (.bj [⟨true,8,125⟩,⟨true,9,228⟩] [8,9] (.s (.s (.s (.sq (.rg (bS 0 7)) (.s (.s (.s (.s (.s (.s (.s (.s (.sq (.rg (bS 0 16)) (.jn [⟨false,16,2⟩] [] (.s (.sq (.rg (bS 0 15)) .tt)) .tt)))))))))))))))) .tt))))))) func135 hv
theorem zut {m p to v Q h} (hv:VT prog m p to v Q h):aM prog VA [(al).enc m,(al).enc p,yH.enc to,yH.enc v] (Q) h:=
 show ae prog VA [(al).enc m,(al).enc p,yH.enc to,yH.enc v] (bC tb []) (λ_=>Q) h from bZ [] (.s (.s (.bk (.sq (.rg (bS 0 15)) (.sq (.sq (.rg (bS 0 23++ [(23,[3,7,9])]++bS 24 3)) .tt) (.sq (.rg (bS 0 10)) (.s (.jn [] [] (.sq (.rg (bS 0 19)) (.sq (.rg (bS 0 9)) .tt)) .tt)))))))) func136 hv
theorem zle {m p try_ Q h} (hv:VU prog m p try_ Q h):aM prog VC [(al).enc m,(al).enc p,(bH).enc try_] (Q) h:=
 show ae prog VC [(al).enc m,(al).enc p,(bH).enc try_] (bC tb []) (λ_=>Q) h from bZ [8] (.s (.bk (.s (.sq (.sq (.rg (bS 0 15)) (.s (.sq (.rg (bS 0 10)) .tt))) (.s (.sq (.s (.rg (bS 0 13))) (.s (.sq (.rg (bS 0 13)) .tt)))))))) func137 hv
theorem LW {w dY Q h} (hv:Q6 prog w dY Q h):ae prog D4 [(al).enc w,yH.enc dY] (bH) Q h:=
 bZ [5,8] (.s (.s (.s (.sq (.s (.bk (.lp [⟨false,25,3⟩] [8] .tt))) .tt)))) func138 hv
theorem S5 {l n p Q h} (hv:Z2 prog l n p Q h):bt prog Q9 [(al).enc l,yH.enc n,yH.enc p] (bH) yH Q h:=
 show ae prog Q9 [(al).enc l,yH.enc n,yH.enc p] (bC tb [4,39]) (λr=>Q r.1 r.2) h from bZ [] (.s (.s (.s (.s (.jn [] [] .tt .tt))))) func139 hv
theorem zjm {s v Q h} (hv:U1 prog s v Q h):ae prog QM [(aw).enc s,yH.enc v] (bH) Q h:=
 bZ [] .tt func140 hv
theorem zpt {l p Q h} (hv:Zo prog l p Q h):ae prog Q1 [(al).enc l,yH.enc p] (aw) Q h:=
 bZ [7] (.s (.s (.sq (.s (.bk (.lp [⟨false,5,23⟩,⟨false,13,3⟩] [7] (.s (.s (.sq (.bj [⟨false,5,23⟩] [7] .tt) .tt)))))) .tt))) func141 hv
theorem zrl {l n p Q h} (hv:Z4 prog l n p Q h):bt prog Mi [(al).enc l,yH.enc n,yH.enc p] yH yH Q h:=
 show ae prog Mi [(al).enc l,yH.enc n,yH.enc p] (bC tb [3,39]) (λr=>Q r.1 r.2) h from bZ [] (.s (.s (.s (.sq (.bk (.s (.s (.s (.s (.s (.rg (bS 0 19)))))))) .tt)))) func142 hv
theorem UF {m my Q h} (hv:VX prog m my Q h):aM prog DY [(al).enc m,yH.enc my] (Q) h:=
 show ae prog DY [(al).enc m,yH.enc my] (bC tb []) (λ_=>Q) h from bZ [] (.s (.sq (.rg (bS 0 18++ [(18,[4,7]),(19,[])])) .tt)) func143 hv
theorem zxh {n Q h} (hv:zvt prog n Q h):ae prog Rq [yH.enc n] yH Q h:=
 bZ [] .tt func144 hv
theorem zxi {a b Q h} (hv:Xw prog a b Q h):ae prog zrh [(aw).enc a,(aw).enc b] (bH) Q h:=
 bZ [] (.s (.s (.sq (.s (.bk (.lp [⟨false,5,3⟩] [] (.s (.sq (.bk (.sq (.rg (bS 0 9)) .tt)) .tt))))) .tt))) func145 hv
theorem zwb {x n ag Q h} (hv:WC prog x n ag Q h):ae prog zpr [(aT).enc x,yH.enc n,yH.enc ag] yH Q h:=
 bZ [3] .tt func146 hv
theorem zzk {a i Q h} (hv:Yo prog a i Q h):ae prog zsh [(bz).enc a,yH.enc i] (bH) Q h:=
 bZ [5,8] (.s (.s (.sq (.sq (.rg (bS 0 12++ [(12,[9])]++bS 13 12)) .tt) (.s (.sq (.s (.bk (.lp [⟨false,6,2⟩,⟨false,43,3⟩] [8] .tt))) .tt))))) func147 hv
theorem zzl {a p Q h} (hv:Yq prog a p Q h):ae prog zsi [(bz).enc a,yH.enc p] (bH) Q h:=
 bZ [2,5,6,10] (.s (.sq (.rg (bS 0 14++ [(14,[8,11]),(15,[])])) (.s (.sq (.bk (.jn [⟨false,28,4⟩] [] .tt (.s (.jn [⟨false,68,4⟩] [] .tt .tt)))) (.s (.sq (.s (.bk (.lp [⟨false,8,4⟩,⟨false,111,3⟩] [10] .tt))) .tt)))))) func148 hv
theorem zxj {a Q h} (hv:Xy prog a Q h):ae prog zri [(bz).enc a] (bH) Q h:=
 bZ [1,5,11,13,15,17] (.s (.s (.sq (.s (.bk (.lp [⟨false,28,3⟩] [5] (.s (.s (.sq (.bk (.s (.s (.bk (.lp [⟨false,36,3⟩] [] (.s (.s (.sq (.bk (.s (.s (.bk (.lp [⟨false,43,3⟩] [] .tt))))) .tt)))))))) .tt)))))) (.sq (.s (.bk (.lp [⟨false,100,3⟩] [11,13,15] (.s (.s (.sq (.bk (.s (.s (.bk (.lp [⟨false,108,3⟩] [13,15] (.s (.s (.sq (.bk (.s (.s (.bk (.lp [⟨false,116,3⟩] [15] .tt))))) .tt)))))))) .tt)))))) (.sq (.s (.bk (.lp [⟨false,173,3⟩] [17] (.s (.s (.sq (.bk (.s (.s (.jn [⟨false,18,3⟩] [] .tt .tt)))) .tt)))))) .tt))))) func149 hv
theorem RA {b n many Q h} (hv:EO prog b n many Q h):ae prog FY [(aw).enc b,(af .u64).enc n,yH.enc many] (aw) Q h:=
 bZ [] (.s (.sq (.s (.bk (.lp [⟨false,0,57⟩,⟨false,9,3⟩] [] .tt))) .tt)) func150 hv
theorem WY {l Q h} (hv:zyx prog l Q h):jz prog Ru [(aw).enc l] (aw) yH yH Q h:=
 show ae prog Ru [(aw).enc l] (bC tb [57,39,3]) (λr=>Q r.1 r.2.1 r.2.2) h from bZ [9] (.s (.s (.s (.sq (.s (.bk (.lp [⟨false,7,57⟩,⟨false,26,3⟩] [9] (.s (.s (.sq (.bk (.s (.s (.s (.bk (.lp [⟨false,7,57⟩,⟨false,45,3⟩] [] .tt)))))) .tt)))))) .tt)))) func151 hv
theorem S6 {w x Q h} (hv:Z6 prog w x Q h):aM prog Ra [(al).enc w,(bd).enc x] (Q) h:=
 show ae prog Ra [(al).enc w,(bd).enc x] (bC tb []) (λ_=>Q) h from bZ [3,7] (.s (.sq (.rg (bS 0 7)) (.sq (.s (.bk (.lp [⟨false,18,3⟩] [] .tt))) (.sq (.rg (bS 0 7)) (.sq (.s (.bk (.lp [⟨false,38,3⟩] [7] (.s (.s (.sq (.bk (.s (.sq (.rg (bS 0 6)) (.rg (bS 0 6))))) .tt)))))) (.sq (.rg (bS 0 6)) (.rg (bS 0 6)))))))) func152 hv
theorem zgj {s Q h} (hv:QL prog s Q h):ae prog Uj [(aw).enc s] (aw) Q h:=
 bZ [] .tt func153 hv
theorem znl {s Q h} (hv:zga prog s Q h):ae prog zfy [(aw).enc s] (aw) Q h:=
 bZ [] .tt func154 hv
theorem zpd {s Q h} (hv:zgt prog s Q h):ae prog zgs [(aw).enc s] (aw) Q h:=
 bZ [] .tt func155 hv
theorem Ab {r many Q h} (hv:zqj prog r many Q h):ae prog yQ [(al).enc r,yH.enc many] yH Q h:=
 bZ [] (.s (.s (.sq (.sq (.rg (bS 0 12)) .tt) (.s (.sq (.sq (.rg (bS 0 17)) (.bk (.lp [⟨false,5,28⟩,⟨false,48,3⟩] [] .tt))) .tt))))) func156 hv
theorem zzm {r Q h} (hv:Ys prog r Q h):aM prog X6 [(al).enc r] (Q) h:=
 show ae prog X6 [(al).enc r] (bC tb []) (λ_=>Q) h from bZ [3] (.s (.s (.sq (.sq (.rg (bS 0 14)) (.sq (.sq (.rg (bS 0 10)) .tt) .tt)) (.sq (.rg (bS 0 18++ [(23,[])]++bS 18 5++bS 24 3)) (.sq (.s (.sq (.sq (.rg (bS 0 12)) .tt) .tt)) .tt))))) func157 hv
theorem S7 {r Q h} (hv:Z8 prog r Q h):ae prog zve [(al).enc r] (bx) Q h:=
 bZ [2,3] (.s (.s (.sq (.sq (.rg (bS 0 8++ [(9,[]),(8,[])])) (.bk (.lp [⟨false,19,3⟩,⟨true,3,104⟩] [3] (.s (.s (.sq (.bk (.rg (bS 0 5++bS 6 3++bS 10 3++ [(5,[1]),(9,[1]),(13,[1]),(14,[]),(15,[1])]++bS 16 3))) .tt)))))) (.sq (.rg (bS 0 3++bS 4 3++ [(3,[]),(8,[]),(7,[])]++bS 9 3)) (.sq (.s (.bk (.lp [⟨false,55,3⟩,⟨true,3,104⟩] [3] (.s (.s (.sq (.bk (.sq (.rg (bS 0 5++ [(5,[1]),(6,[]),(7,[1])]++bS 8 3)) (.s (.sq (.sq (.rg (bS 0 9++ [(10,[]),(9,[])])) (.bk (.lp [⟨false,4,23⟩,⟨false,77,3⟩] [] .tt))) .tt)))) .tt)))))) .tt))))) func158 hv
theorem S8 {r Q h} (hv:zou prog r Q h):ae prog zvf [(al).enc r] (aI) Q h:=
 bZ [2,3] (.s (.sp 3 (.rg (bS 0 3++bS 4 3++ [(9,[]),(3,[]),(7,[]),(8,[]),(10,[])])) (.sq (.s (.bk (.lp [⟨false,16,3⟩] [] .tt))) (.s (.s (.s (.s (.jn [] [] .tt (.s (.s (.sq (.s (.bk (.lp [⟨false,68,3⟩] [] (.s (.s (.sq (.bk (.rg (bS 0 3++ [(3,[1]),(4,[1])]++bS 5 3))) .tt)))))) .tt))))))))))) func159 hv
theorem WZ {a b Q h} (hv:zyy prog a b Q h):ae prog MB [(af .u64).enc a,(af .u64).enc b] (bH) Q h:=
 bZ [] .tt func174 hv
theorem zid {s Q h} (hv:UA prog s Q h):ae prog Ux [(aw).enc s] (aw) Q h:=
 bZ [] .tt func177 hv
theorem zds {s Q h} (hv:Tq prog s Q h):ae prog Tm [(aw).enc s] (aw) Q h:=
 bZ [] .tt func178 hv
theorem Ud {s f Q h} (hv:UB prog s f Q h):ae prog Uz [(aw).enc s,(gX).enc f] yH Q h:=
 bZ [] (.s (.sq (.s (.bk (.lp [⟨false,8,3⟩] [] .tt))) .tt)) func189 hv
theorem KO {p a1 Q h} (hv:zyz prog p a1 Q h):ae prog Oi [yH.enc p,.pointer (some a1)] (bH) Q h:=
 bZ [] .tt func190 hv
theorem zuj {x n ag Q h} (hv:DT prog x n ag Q h):ae prog RH [(aT).enc x,yH.enc n,yH.enc ag] yH Q h:=
 bZ [3] .tt func191 hv
theorem zpu {l p Q h} (hv:Zr prog l p Q h):bt prog Q2 [(al).enc l,yH.enc p] yH (bH) Q h:=
 show ae prog Q2 [(al).enc l,yH.enc p] (bC tb [3,4]) (λr=>Q r.1 r.2) h from bZ [7] (.s (.sq (.s (.bk (.lp [⟨false,13,3⟩] [7] .tt))) .tt)) func192 hv
theorem abj {room s Q h} (hv:EP prog room s Q h):bt prog EE [yH.enc room,(bd).enc s] (al) yH Q h:=
 show ae prog EE [yH.enc room,(bd).enc s] (bC tb [213,39]) (λr=>Q r.1 r.2) h from bZ [3] (.s (.s (.s (.s (.sq (.rg (bS 0 4++ [(5,[]),(6,[]),(4,[6])]++bS 7 7)) (.sq (.rg (bS 0 8++ [(8,[5])]++bS 9 3)) .tt)))))) func193 hv
theorem zda {x target cmp Q h} (hv:S1 prog x target cmp Q h):bt prog QK [(aw).enc x,(bn).enc target,(gX).enc cmp] yH (bH) Q h:=
 show ae prog QK [(aw).enc x,(bn).enc target,(gX).enc cmp] (bC tb [3,4]) (λr=>Q r.1 r.2) h from bZ [4] (.s (.s (.s (.sq (.bk (.lp [⟨false,9,3⟩,⟨false,10,3⟩] [] (.s (.bj [⟨false,9,3⟩,⟨false,10,3⟩] [] (.s (.sq (.rg (bS 0 8)) .tt)))))) (.sq (.rg (bS 0 16)) .tt))))) func194 hv
theorem KQ {a b Q h} (hv:zza prog a b Q h):ae prog Om [(bn).enc a,(bn).enc b] yH Q h:=
 bZ [2,3] (.s (.sq (.rg (bS 0 4++bS 5 4++ [(4,[6,8])]++bS 9 4)) .tt)) func195 hv
theorem zie {s i v Q h} (hv:zdq prog s i v Q h):ae prog Td [(aw).enc s,yH.enc i,(aw).enc v] (aw) Q h:=
 bZ [] (.s (.s (.s (.s (.s (.s (.sq (.s (.sq (.s (.s (.sq (.rg (bS 0 9)) .tt))) .tt)) (.s (.sq (.s (.sq (.sq (.rg (bS 0 9)) .tt) .tt)) .tt))))))))) func196 hv
theorem Vc {x y Q h} (hv:Lu prog x y Q h):bt prog ztp [(af .u64).enc x,(af .u64).enc y] (af .u64) (af .u64) Q h:=
 show ae prog ztp [(af .u64).enc x,(af .u64).enc y] (bC tb [286,286]) (λr=>Q r.1 r.2) h from bZ [] .tt func197 hv
theorem Ht {state Q h} (hv:Nu prog state Q h):ae prog D7 [yH.enc state] (bH) Q h:=
 bZ [] .tt func198 hv
theorem YI {p n Q h} (hv:zqk prog p n Q h):ae prog Re [(al).enc p,yH.enc n] (bH) Q h:=
 bZ [] .tt func199 hv
theorem Ve {l v Q h} (hv:ztw prog l v Q h):ae prog Lj [(al).enc l,yH.enc v] yH Q h:=
 bZ [] .tt func200 hv
theorem UI {l Q h} (hv:zrw prog l Q h):aM prog zrq [(al).enc l] (Q) h:=
 show ae prog zrq [(al).enc l] (bC tb []) (λ_=>Q) h from bZ [] .tt func201 hv
theorem TS {p proc Q h} (hv:zql prog p proc Q h):ae prog zqd [(al).enc p,yH.enc proc] (bH) Q h:=
 bZ [] (.s (.s (.sq (.s (.bk (.lp [⟨false,5,4⟩,⟨false,13,3⟩] [] (.s (.s (.sq (.bj [⟨false,5,4⟩] [] .tt) .tt)))))) .tt))) func202 hv
theorem TU {l p Q h} (hv:zqm prog l p Q h):ae prog zwx [(al).enc l,yH.enc p] (aw) Q h:=
 bZ [] (.s (.sq (.s (.bk (.lp [⟨false,17,3⟩] [] (.s (.s (.sq (.bj [] [] (.s (.s (.s (.sq (.rg (bS 0 16++ [(16,[3])]++bS 17 3)) .tt))))) .tt)))))) (.s (.sq (.s (.bk (.lp [⟨false,7,290⟩,⟨false,56,3⟩] [] .tt))) .tt)))) func203 hv
theorem Vg {p Q h} (hv:ztx prog p Q h):ae prog Ll [(al).enc p] (aw) Q h:=
 bZ [] (.s (.s (.sq (.s (.bk (.lp [⟨false,3,201⟩,⟨false,11,3⟩] [] .tt))) .tt))) func204 hv
theorem DR {m p reply Q h} (hv:U3 prog m p reply Q h):aM prog zZ [(al).enc m,(al).enc p,yH.enc reply] (Q) h:=
 show ae prog zZ [(al).enc m,(al).enc p,yH.enc reply] (bC tb []) (λ_=>Q) h from bZ [] (.rg (bS 0 13)) func205 hv
theorem Es {c l Q h} (hv:F7 prog c l Q h):bt prog yX [(fM).enc c,(aw).enc l] (aT) (bH) Q h:=
 show ae prog yX [(fM).enc c,(aw).enc l] (bC tb [87,4]) (λr=>Q r.1 r.2) h from bZ [2,4] .tt func207 hv
theorem ZH {x r Q h} (hv:Em prog x r Q h):jz prog Eh [(aT).enc x,(Af).enc r] (FP) (bH) (bH) Q h:=
 show ae prog Eh [(aT).enc x,(Af).enc r] (bC tb [228,4,4]) (λr=>Q r.1 r.2.1 r.2.2) h from bZ [2,3,4] (.s (.sq (.s (.bk (.s (.s (.s (.sq (.sq (.rg (bS 0 12)) .tt) .tt)))))) .tt)) func208 hv
theorem CX {c reg v Q h} (hv:zvu prog c reg v Q h):aM prog yU [(al).enc c,yH.enc reg,yH.enc v] (Q) h:=
 show ae prog yU [(al).enc c,yH.enc reg,yH.enc v] (bC tb []) (λ_=>Q) h from bZ [] .tt func209 hv
theorem adD {op b c Q h} (hv:F8 prog op b c Q h):bt prog F0 [yH.enc op,yH.enc b,yH.enc c] yH yH Q h:=
 show ae prog F0 [yH.enc op,yH.enc b,yH.enc c] (bC tb [2,39]) (λr=>Q r.1 r.2) h from bZ [] .tt func210 hv
theorem adE {op b c Q h} (hv:F9 prog op b c Q h):bt prog F6 [yH.enc op,yH.enc b,yH.enc c] yH yH Q h:=
 show ae prog F6 [yH.enc op,yH.enc b,yH.enc c] (bC tb [2,39]) (λr=>Q r.1 r.2) h from bZ [] .tt func211 hv
theorem zpv {t i j Q h} (hv:Zu prog t i j Q h):ae prog Y5 [(al).enc t,yH.enc i,yH.enc j] (bH) Q h:=
 bZ [] (.s (.sq (.rg (bS 0 26)) .tt)) func212 hv
theorem zuk {m p q v Q h} (hv:Vi prog m p q v Q h):aM prog Vd [(al).enc m,(al).enc p,(al).enc q,yH.enc v] (Q) h:=
 show ae prog Vd [(al).enc m,(al).enc p,(al).enc q,yH.enc v] (bC tb []) (λ_=>Q) h from bZ [] (.bk (.s (.s (.sq (.rg (bS 0 12)) (.sq (.sq (.rg (bS 0 14)) .tt) .tt))))) func213 hv
theorem zzn {c code v from_ Q h} (hv:ES prog c code v from_ Q h):ae prog A7 [(fM).enc c,(aw).enc code,yH.enc v,yH.enc from_] (fM) Q h:=
 bZ [8,9] (.s (.jn [] [9] .tt .tt)) func215 hv
theorem zif {s i j Q h} (hv:zdr prog s i j Q h):ae prog zdp [(aw).enc s,yH.enc i,yH.enc j] (aw) Q h:=
 bZ [] (.s (.s (.s (.s (.sq (.rg (bS 0 8)) .tt))))) func216 hv
theorem zpw {l n p Q h} (hv:Zx prog l n p Q h):ae prog Y7 [(al).enc l,yH.enc n,yH.enc p] yH Q h:=
 bZ [] .tt func217 hv
theorem zwc {x n ag Q h} (hv:WE prog x n ag Q h):bt prog Wi [(aT).enc x,yH.enc n,yH.enc ag] yH yH Q h:=
 show ae prog Wi [(aT).enc x,yH.enc n,yH.enc ag] (bC tb [39,3]) (λr=>Q r.1 r.2) h from bZ [3] .tt func218 hv
theorem zzo {a i Q h} (hv:Yu prog a i Q h):ae prog zsj [(bz).enc a,yH.enc i] yH Q h:=
 bZ [2,7] (.s (.s (.sq (.s (.bk (.lp [⟨false,5,3⟩,⟨false,12,3⟩] [7] (.s (.s (.sq (.bj [⟨false,5,3⟩] [7] .tt) .tt)))))) .tt))) func219 hv
theorem QW {a p i Q h} (hv:zov prog a p i Q h):ae prog Mj [(bz).enc a,yH.enc p,yH.enc i] (bH) Q h:=
 bZ [3] .tt func220 hv
theorem Rc {n Q h} (hv:zty prog n Q h):ae prog Nt [yH.enc n] (bH) Q h:=
 bZ [] .tt func221 hv
theorem zpm {s f Q h} (hv:zib prog s f Q h):ae prog zia [(aw).enc s,(gX).enc f] (bH) Q h:=
 bZ [] .tt func222 hv
theorem zwd {p a1 a2 Q h} (hv:WH prog p a1 a2 Q h):ae prog QU [yH.enc p,.pointer (some a1),.pointer (some a2)] (bH) Q h:=
 bZ [] .tt func223 hv
theorem QX {a p Q h} (hv:zow prog a p Q h):ae prog Ml [(bz).enc a,yH.enc p] yH Q h:=
 bZ [2] .tt func224 hv
theorem WQ {a p Q h} (hv:ZA prog a p Q h):ae prog Q3 [(bz).enc a,yH.enc p] (aT) Q h:=
 bZ [2,4] (.s (.sq (.rg (bS 0 16)) .tt)) func225 hv
theorem zxk {a w r Q h} (hv:XB prog a w r Q h):ae prog zrj [(bz).enc a,(aC).enc w,yH.enc r] (bH) Q h:=
 bZ [3,4,7,8] (.s (.sq (.rg (bS 0 10++ [(11,[]),(12,[]),(10,[2,4,6]),(13,[]),(14,[])])) (.sq (.rg (bS 0 28)) .tt))) func226 hv
theorem u3 {r many Q h} (hv:ZD prog r many Q h):ae prog sM [(al).enc r,yH.enc many] yH Q h:=
 bZ [] .tt func227 hv
theorem W4 {b Q h} (hv:zzb prog b Q h):jz prog zyo [(aw).enc b] (aA) yH yH Q h:=
 show ae prog zyo [(aw).enc b] (bC tb [26,39,3]) (λr=>Q r.1 r.2.1 r.2.2) h from bZ [2] (.s (.gs 0 (.s (.s (.gj 0 [⟨true,2,26⟩] [2] (.s (.s (.s (.s (.s (.s (.s (.s (.s (.s (.s (.sq (.s (.bk (.lp [⟨false,6,3⟩] [] .tt))) (.sq .tt .tt))))))))))))) (.sq (.s (.sq (.sq (.rg (bS 0 9++ [(9,[4,8]),(10,[]),(11,[])])) .tt) .tt)) .tt)))))) func228 hv
theorem QY {r bytes dS Q h} (hv:zox prog r bytes dS Q h):ae prog Hs [(al).enc r,yH.enc bytes,yH.enc dS] yH Q h:=
 bZ [] .tt func229 hv
theorem S9 {r Q h} (hv:zoy prog r Q h):ae prog zvh [(al).enc r] (bd) Q h:=
 bZ [2,3] (.s (.s (.sq (.sq (.rg (bS 0 8++ [(9,[]),(8,[])])) (.bk (.lp [⟨false,13,3⟩,⟨true,3,203⟩] [3] (.s (.s (.sq (.bk (.rg (bS 0 5++ [(5,[1]),(6,[1])]++bS 7 3))) .tt)))))) (.sq (.sq (.rg (bS 0 9++ [(10,[]),(9,[])])) (.bk (.lp [⟨false,35,3⟩,⟨true,3,203⟩] [3] (.s (.s (.sq (.bk (.rg (bS 0 5++bS 6 3++ [(5,[1]),(9,[1]),(10,[]),(11,[1])]++bS 12 3))) .tt)))))) (.sq (.rg (bS 0 3++bS 4 3++ [(3,[]),(8,[]),(7,[])]++bS 9 3)) .tt))))) func230 hv
theorem Ye {x n ag Q h} (hv:DU prog x n ag Q h):bt prog DS [(aT).enc x,yH.enc n,yH.enc ag] yH yH Q h:=
 show ae prog DS [(aT).enc x,yH.enc n,yH.enc ag] (bC tb [39,3]) (λr=>Q r.1 r.2) h from bZ [3] .tt func248 hv
theorem abm {room Q h} (hv:ET prog room Q h):bt prog EF [yH.enc room] (al) yH Q h:=
 show ae prog EF [yH.enc room] (bC tb [213,39]) (λr=>Q r.1 r.2) h from bZ [] .tt func249 hv
theorem zse {n from_ to Q h} (hv:Rz prog n from_ to Q h):ae prog Rv [yH.enc n,yH.enc from_,yH.enc to] (bH) Q h:=
 bZ [] .tt func250 hv
theorem Yh {l Q h} (hv:DV prog l Q h):ae prog Nd [(aw).enc l] (bH) Q h:=
 bZ [5] (.s (.s (.sq (.s (.bk (.lp [⟨false,9,3⟩] [5] .tt))) .tt))) func251 hv
theorem Yk {fk Q h} (hv:DW prog fk Q h):ae prog Nf [(aw).enc fk] yH Q h:=
 bZ [] (.s (.s (.sq (.s (.bk (.lp [⟨false,8,3⟩] [] .tt))) .tt))) func252 hv
theorem SX {x y Q h} (hv:ZG prog x y Q h):ae prog ztq [yH.enc x,yH.enc y] yH Q h:=
 bZ [] .tt func253 hv
theorem TX {x y Q h} (hv:zqn prog x y Q h):ae prog zwy [yH.enc x,yH.enc y] yH Q h:=
 bZ [] .tt func254 hv
theorem TZ {x y Q h} (hv:zqo prog x y Q h):bt prog zqe [(af .u64).enc x,(af .u64).enc y] (af .u64) (af .u64) Q h:=
 show ae prog zqe [(af .u64).enc x,(af .u64).enc y] (bC tb [28,28]) (λr=>Q r.1 r.2) h from bZ [] .tt func258 hv
theorem zul {l Q h} (hv:zrx prog l Q h):ae prog zrs [(al).enc l] (bH) Q h:=
 bZ [] (.s (.sq (.rg (bS 0 11)) .tt)) func259 hv
theorem L5 {n Q h} (hv:En prog n Q h):ae prog Ei [yH.enc n] yH Q h:=
 bZ [] .tt func260 hv
theorem T1 {l p Q h} (hv:zqp prog l p Q h):ae prog zwz [(al).enc l,yH.enc p] (bH) Q h:=
 bZ [] .tt func261 hv
theorem zuu {s i j Q h} (hv:VZ prog s i j Q h):ae prog zoh [(aw).enc s,yH.enc i,yH.enc j] (aw) Q h:=
 bZ [] (.s (.s (.s (.s (.sq (.rg (bS 0 8)) .tt))))) func262 hv
theorem Vj {l Q h} (hv:ztz prog l Q h):ae prog Lo [(al).enc l] (aw) Q h:=
 bZ [] (.s (.sq (.rg (bS 0 16)) .tt)) func263 hv
theorem abp {c code reply Q h} (hv:EU prog c code reply Q h):ae prog OA [(fM).enc c,(aw).enc code,yH.enc reply] (fM) Q h:=
 bZ [6,7] (.s (.jn [] [7] .tt .tt)) func264 hv
theorem zxl {b c Q h} (hv:zvv prog b c Q h):ae prog zvr [yH.enc b,yH.enc c] yH Q h:=
 bZ [] .tt func265 hv
theorem abt {b c Q h} (hv:OC prog b c Q h):ae prog OB [yH.enc b,yH.enc c] yH Q h:=
 bZ [] .tt func266 hv
theorem ZK {b c Q h} (hv:NC prog b c Q h):ae prog NA [yH.enc b,yH.enc c] yH Q h:=
 bZ [] .tt func267 hv
theorem Ng {is Q h} (hv:FB prog is Q h):ae prog FA [(bH).enc is] yH Q h:=
 bZ [] .tt func268 hv
theorem L6 {bits Q h} (hv:Ep prog bits Q h):ae prog Ej [yH.enc bits] (ks .f64) Q h:=
 bZ [] .tt func269 hv
theorem OO {f Q h} (hv:EV prog f Q h):ae prog HE [(ks .f64).enc f] yH Q h:=
 bZ [] .tt func270 hv
theorem ZM {f Q h} (hv:Er prog f Q h):ae prog NB [(ks .f64).enc f] yH Q h:=
 bZ [] .tt func271 hv
theorem zum {t i Q h} (hv:zry prog t i Q h):ae prog zrt [(al).enc t,yH.enc i] (bH) Q h:=
 bZ [] .tt func272 hv
theorem UK {p lane proc v Q h} (hv:zrz prog p lane proc v Q h):ae prog KH [(al).enc p,yH.enc lane,yH.enc proc,yH.enc v] yH Q h:=
 bZ [] .tt func273 hv
theorem T3 {p Q h} (hv:zxd prog p Q h):ae prog zxa [(al).enc p] (gX) Q h:=
 bZ [4] (.s (.sp 4 (.rg (bS 0 9++ [(10,[]),(9,[3,7]),(11,[7]),(12,[])])) .tt)) func274 hv
theorem Vl {l Q h} (hv:zua prog l Q h):ae prog X7 [(al).enc l] yH Q h:=
 bZ [] .tt func275 hv
theorem UL {l Q h} (hv:zsa prog l Q h):lJ prog zru [(al).enc l] yH (aC) (bH) yH Q h:=
 show ae prog zru [(al).enc l] (bC tb [2,254,4,39]) (λr=>Q r.1 r.2.1 r.2.2.1 r.2.2.2) h from bZ [3] (.s (.s (.s (.sq (.rg (bS 0 11)) (.s (.s (.sq (.s (.sq (.s (.sq (.rg (bS 0 19)) (.rg (bS 0 7++ [(7,[4])]++bS 8 4)))) .tt)) (.sq (.rg (bS 0 7)) .tt)))))))) func276 hv
theorem zuv {op Q h} (hv:V0 prog op Q h):lJ prog VF [yH.enc op] (bH) (bH) (bH) (bH) Q h:=
 show ae prog VF [yH.enc op] (bC tb [4,4,4,4]) (λr=>Q r.1 r.2.1 r.2.2.1 r.2.2.2) h from bZ [] (.s (.sq (.s (.bk (.s (.s (.jn [⟨false,9,4⟩] [] .tt (.s (.jn [⟨false,15,4⟩] [] .tt (.s (.jn [⟨false,28,4⟩] [] .tt (.s (.jn [⟨false,35,4⟩] [] .tt (.s (.s (.s (.jn [⟨false,41,4⟩] [] .tt .tt))))))))))))))) .tt)) func277 hv
theorem Un {n has Q h} (hv:U4 prog n has Q h):ae prog QN [yH.enc n,(bH).enc has] yH Q h:=
 bZ [] .tt func278 hv
theorem D2 {r e place Q h} (hv:zoz prog r e place Q h):aM prog AW [(al).enc r,yH.enc e,yH.enc place] (Q) h:=
 show ae prog AW [(al).enc r,yH.enc e,yH.enc place] (bC tb []) (λ_=>Q) h from bZ [] .tt func279 hv
theorem zzp {r Q h} (hv:Yw prog r Q h):aM prog X9 [(al).enc r] (Q) h:=
 show ae prog X9 [(al).enc r] (bC tb []) (λ_=>Q) h from bZ [] (.s (.bk (.lp [⟨false,3,3⟩] [] .tt))) func280 hv
theorem xx {r Q h} (hv:Ri prog r Q h):ae prog xy [(al).enc r] (bH) Q h:=
 bZ [] .tt func281 hv
theorem zzq {r c Q h} (hv:Yy prog r c Q h):aM prog Yb [(al).enc r,(al).enc c] (Q) h:=
 show ae prog Yb [(al).enc r,(al).enc c] (bC tb []) (λ_=>Q) h from bZ [] (.s (.s (.bk (.lp [⟨false,4,3⟩] [] (.s (.sq (.bk (.s (.rg (bS 0 6++ [(6,[0,1,4]),(7,[0])]++bS 8 3)))) .tt)))))) func282 hv
theorem SY {r c Q h} (hv:ZJ prog r c Q h):aM prog Y9 [(al).enc r,(al).enc c] (Q) h:=
 show ae prog Y9 [(al).enc r,(al).enc c] (bC tb []) (λ_=>Q) h from bZ [] (.s (.bk (.lp [⟨false,4,3⟩] [] (.s (.sq (.bk (.rg (bS 0 7++ [(7,[4]),(8,[4])]++bS 9 4))) .tt))))) func283 hv
theorem zzr {r part bytes Q h} (hv:YA prog r part bytes Q h):ae prog Hr [(al).enc r,yH.enc part,yH.enc bytes] yH Q h:=
 bZ [] .tt func284 hv
theorem Vn {r dS Q h} (hv:XD prog r dS Q h):ae prog QV [(al).enc r,yH.enc dS] yH Q h:=
 bZ [] .tt func285 hv
theorem Ta {r c Q h} (hv:zpa prog r c Q h):aM prog ZT [(al).enc r,(al).enc c] (Q) h:=
 show ae prog ZT [(al).enc r,(al).enc c] (bC tb []) (λ_=>Q) h from bZ [4] (.s (.s (.sq (.s (.bk (.lp [⟨false,6,3⟩,⟨true,4,77⟩] [4] (.s (.sq (.bk (.rg (bS 0 8++ [(8,[1]),(9,[1])]++bS 10 3))) .tt))))) (.rg (bS 0 6++ [(6,[4])]++bS 7 4))))) func286 hv
theorem KS {op Q h} (hv:zzc prog op Q h):lJ prog Rx [yH.enc op] (bH) (bH) (bH) (bH) Q h:=
 show ae prog Rx [yH.enc op] (bC tb [4,4,4,4]) (λr=>Q r.1 r.2.1 r.2.2.1 r.2.2.2) h from bZ [] .tt func300 hv
theorem zpf {has n Q h} (hv:zub prog has n Q h):ae prog Rl [(bH).enc has,yH.enc n] yH Q h:=
 bZ [] .tt func301 hv
theorem W6 {x has n ag Q h} (hv:zzd prog x has n ag Q h):ae prog MD [(aT).enc x,(bH).enc has,yH.enc n,yH.enc ag] yH Q h:=
 bZ [4] .tt func302 hv
theorem zsn {x Q h} (hv:zqq prog x Q h):ae prog zqf [yH.enc x] (bH) Q h:=
 bZ [] .tt func303 hv
theorem zvj {x Q h} (hv:zuc prog x Q h):ae prog ztr [yH.enc x] (bH) Q h:=
 bZ [] .tt func304 hv
theorem zso {l p Q h} (hv:zqr prog l p Q h):ae prog zqg [(al).enc l,yH.enc p] yH Q h:=
 bZ [] .tt func306 hv
theorem zjr {s i j Q h} (hv:Tf prog s i j Q h):ae prog zdz [(aw).enc s,yH.enc i,yH.enc j] (aw) Q h:=
 bZ [] (.s (.s (.s (.s (.sq (.rg (bS 0 8)) .tt))))) func307 hv
theorem T5 {p proc Q h} (hv:zqs prog p proc Q h):ae prog zxb [(al).enc p,yH.enc proc] yH Q h:=
 bZ [8] (.s (.sq (.s (.bk (.lp [⟨false,14,3⟩] [8] (.s (.s (.sq (.bk (.s (.s (.bk (.lp [⟨false,23,3⟩] [8] .tt))))) .tt)))))) .tt)) func310 hv
theorem UM {l p v Q h} (hv:zsb prog l p v Q h):ae prog KJ [(al).enc l,yH.enc p,yH.enc v] yH Q h:=
 bZ [] .tt func311 hv
theorem QR {r many wrong Q h} (hv:YC prog r many wrong Q h):ae prog Aa [(al).enc r,yH.enc many,(gX).enc wrong] (af .u64) Q h:=
 bZ [] (.s (.s (.sq (.sq (.rg (bS 0 12)) .tt) (.s (.sq (.sq (.rg (bS 0 17)) (.bk (.lp [⟨false,7,28⟩,⟨false,47,3⟩] [] .tt))) (.sq (.rg (bS 0 3++bS 4 4++ [(3,[7]),(8,[])])) .tt)))))) func313 hv
theorem zwe {n a1 Q h} (hv:WJ prog n a1 Q h):ae prog Wk [(af .u64).enc n,.pointer (some a1)] yH Q h:=
 bZ [] .tt func314 hv
theorem zwf {a a1 Q h} (hv:WL prog a a1 Q h):ae prog Wm [(af .u64).enc a,.pointer (some a1)] yH Q h:=
 bZ [] .tt func315 hv
theorem zlf {r c Q h} (hv:V2 prog r c Q h):ae prog VG [(al).enc r,(al).enc c] yH Q h:=
 bZ [] .tt func316 hv
theorem QZ {r many wrong Q h} (hv:zqt prog r many wrong Q h):ae prog MJ [(al).enc r,yH.enc many,(gX).enc wrong] yH Q h:=
 bZ [] .tt func317 hv
theorem zwg {n a1 Q h} (hv:zps prog n a1 Q h):ae prog Wn [yH.enc n,.pointer (some a1)] yH Q h:=
 bZ [] .tt func318 hv
theorem zuw {n a1 Q h} (hv:zpb prog n a1 Q h):ae prog VI [yH.enc n,.pointer (some a1)] yH Q h:=
 bZ [] .tt func319 hv
theorem zzs {n Q h} (hv:YE prog n Q h):ae prog Yd [yH.enc n] yH Q h:=
 bZ [] .tt func320 hv
theorem T7 {r n ag Q h} (hv:zqu prog r n ag Q h):ae prog zxc [(al).enc r,yH.enc n,yH.enc ag] (aT) Q h:=
 bZ [6,9] .tt func321 hv
theorem W8 {op Q h} (hv:zze prog op Q h):ae prog ME [yH.enc op] (rH) Q h:=
 bZ [] .tt func327 hv
theorem Vo {field a1 Q h} (hv:Lz prog field a1 Q h):ae prog Lq [(rH).enc field,.pointer (some a1)] (bH) Q h:=
 bZ [] .tt func328 hv
theorem zhu {s f Q h} (hv:Tc prog s f Q h):ae prog zdk [(aw).enc s,(gX).enc f] yH Q h:=
 bZ [] (.s (.sq (.s (.bk (.lp [⟨false,8,3⟩] [] .tt))) .tt)) func331 hv
theorem SZ {w a1 Q h} (hv:zud prog w a1 Q h):ae prog Q4 [(aC).enc w,.pointer (some a1)] (bH) Q h:=
 bZ [2] .tt func332 hv
theorem ztc {n a1 Q h} (hv:zmi prog n a1 Q h):ae prog UT [yH.enc n,.pointer (some a1)] yH Q h:=
 bZ [] .tt func333 hv
theorem S0 {n a1 Q h} (hv:zue prog n a1 Q h):ae prog Zc [(af .u64).enc n,.pointer (some a1)] yH Q h:=
 bZ [] .tt func334 hv
theorem S2 {a0 Q h} (hv:zuf prog a0 Q h):ae prog Q5 [(af .u64).enc a0] yH Q h:=
 bZ [] .tt func335 hv
theorem Xa {x e Q h} (hv:zzf prog x e Q h):ae prog MF [(aT).enc x,yH.enc e] yH Q h:=
 bZ [2,10] (.s (.s (.s (.sq (.s (.bk (.lp [⟨false,35,3⟩] [10] .tt))) .tt)))) func336 hv
abbrev f64 :FloatKind:=.f64
def rG (b c:Int):Int:=if c=0 then 0 else if c= -1 then yw ((0:Int)-b) else yw (Int.tdiv b c)
def tG (b:Bool):Int:=if b then 1 else 0
def xU (op b c:Int):Int:=
 if op=3 then yw (b+c)
 else if op=4 then yw (b-c)
 else if op=5 then yw (b*c)
 else if op=6 then rG b c
 else if op=7 then yw (b-yw (rG b c*c))
 else if op=8 then eK .and .i64 b c
 else if op=9 then eK .or .i64 b c
 else if op=10 then eK .xor .i64 b c
 else if op=11 then (if c<0 then b else qJ .i64 b (IntKind.wrap .u64 c))
 else if op=12 then (if c<0 then b else gQ .i64 b (IntKind.wrap .u64 c))
 else if op=13 then tG (decide (b<c))
 else if op=14 then tG (decide (b=c))
 else 0
def yh :Int:=9221120237041090560
def isNaN (f:Nat):Bool:=f64.format.order f f !=some .eq
def n7 (f:Nat):Int:=if isNaN f then yh else yw (f:Int)
def wG :Option Nat->Int
 | some r=>n7 r
 | none=>yh
def uC (b:Int):Nat:=(IntKind.wrap .u64 b).toNat
def zG (f:Nat):Int:=
 if isNaN f then 0
 else if f64.format.order f 4890909195324358656=some .gt\/f64.format.order f 4890909195324358656=some .eq then 9223372036854775807
 else if f64.format.order f 14114281232179134464=some .lt then -9223372036854775808
 else ((f64.decode f).toInt .zero).getD 0
def wx (op b c:Int):Int:=
 if op=15 then wG (f64.format.add (uC b) (uC c))
 else if op=16 then wG (f64.format.sub (uC b) (uC c))
 else if op=17 then wG (f64.format.mul (uC b) (uC c))
 else if op=18 then wG (f64.format.div (uC b) (uC c))
 else if op=19 then tG (f64.format.order (uC b) (uC c)==some .lt)
 else if op=20 then n7 (f64.nearest b)
 else if op=21 then zG (uC b)
 else 0
def fF (op b c:Int):Int:=if 3<=op/\op<=14 then xU op b c else wx op b c
section
variable {P:Program} {h:Hp}
theorem ND {b c:Int} {Q:Int->Hp->Prop} (a:Q (rG b c) h):zvv prog b c Q h:=by
 unfold zvv;unfold rG at a;by_cases d:c=0
 ·rw [if_pos (by simp [d])];rw [if_pos d] at a;exact a
 ·rw [if_neg (by simp [d])];rw [if_neg d] at a;by_cases e:c= -1
  ·rw [if_pos (by simp [e])];rw [if_pos e] at a;exact a
  ·rw [if_neg (by simp [e])];rw [if_neg e] at a;exact ⟨d,a⟩
theorem Nh (c:Int):(0:Int)<=IntKind.wrap .u64 c:=by
 (try unfold yw);unfold IntKind.wrap
 simp only [IntKind.signed,IntKind.bits];simp;omega
theorem NW {b:Bool} {Q:Int->Hp->Prop} (a:Q (tG b) h):FB prog b Q h:=by unfold FB;unfold tG at a;cases b<;>simpa using a
theorem XG {op b c:Int} {Q:Int->Int->Hp->Prop} (a:3<=op/\op<=14->Q (xU op b c) 0 h) (t:¬(3<=op/\op<=14)->Q 0 9 h):F8 prog op b c Q h:=by
 have case:∀n:Int,(op==n)=decide (op=n):=λn=>by by_cases e:op=n<;>simp [e]
 unfold F8;unfold xU at a;simp only [case];by_cases l:op=3
 ·subst l;simpa using a
 by_cases m:op=4
 ·subst m;simpa using a
 by_cases o:op=5
 ·subst o;simpa using a
 by_cases p:op=6
 ·subst p;simp only [decide_true,if_true];simp at a ⊢;exact zxl (ND a)
 by_cases q:op=7
 ·subst q;simp at a ⊢;exact zxl (ND a)
 by_cases r:op=8
 ·subst r;simpa using a
 by_cases s:op=9
 ·subst s;simpa using a
 by_cases f:op=10
 ·subst f;simpa using a
 by_cases g:op=11
 ·subst g;simp at a ⊢;refine abt ?_;unfold OC;by_cases d:c<0
  ·rw [if_pos (by simpa using d)];rw [if_pos d] at a;exact a
  ·rw [if_neg (by simpa using d)];rw [if_neg d] at a;exact ⟨Nh c,a⟩
 by_cases i:op=12
 ·subst i;simp at a ⊢;refine ZK ?_;unfold NC;by_cases d:c<0
  ·rw [if_pos (by simpa using d)];rw [if_pos d] at a;exact a
  ·rw [if_neg (by simpa using d)];rw [if_neg d] at a;exact ⟨Nh c,a⟩
 by_cases j:op=13
 ·subst j;simp at a ⊢;exact Ng (NW a)
 by_cases k:op=14
 ·subst k;have e:(b==c)=decide (b=c):=by by_cases e:b=c<;>simp [e]
  simp at a ⊢;rw [e];exact Ng (NW a)
 simp only [l,m,o,p,q,r,s,f,g,i,j,k,decide_false,if_false,Bool.false_eq_true];exact t (by omega)
theorem aaf (x y t:Nat):isNaN ((Question.nanBits .f64 x y).cut t)=true:=by
 have key:∀s z:Nat,s<2->z<2^52-1->isNaN (s*2^63+0x7ff0000000000000+1+z)=true:=by
  intro s z e f;have c:(s*2^63+0x7ff0000000000000+1+z)%Ieee.double.signWeight=0x7ff0000000000000+1+z:=by show (s*2^63+0x7ff0000000000000+1+z)%9223372036854775808=_;omega
  have d:Ieee.double.read (s*2^63+0x7ff0000000000000+1+z)=.nan ((s*2^63+0x7ff0000000000000+1+z) / Ieee.double.signWeight%2==1) (1+z):=by unfold Ieee.Format.read;rw [c];have a:Ieee.double.binade=4503599627370496:=rfl;have b:Ieee.double.infRung=9218868437227405312:=rfl;dsimp only;rw [a,b,if_neg (by omega),if_neg (by omega),if_neg (by omega),show 0x7ff0000000000000+1+z-9218868437227405312=1+z by omega]
  unfold isNaN;show ((Ieee.double.read _).order (Ieee.double.read _) !=some .eq)=true;rw [d];rfl
 have:=key (t%2) ((t / 2)%(2^52-1)) (by omega) (Nat.mod_lt _ (by decide));exact this
end
section
variable {P:Program} {h:Hp}
theorem aah {P:Program} {s:Sem Value} {sh:Shape} {K:sh.T->Hp->Prop} {h:Hp} (b:dz P s (λv a=>∃x,v=sh.enc x/\K x a) h):lx P s sh K h:=b
theorem A8 {op : BinOp} {t : Nat} {x y : Operand} {a b : Nat} {r : Option Nat} {K : Nat -> Hp -> Prop} (d : dx op t x y (.float .f64 a) (.float .f64 b) = (match r with
      | some r=>Sem.pure (Value.float .f64 r)
      | none=>Sem.bind (choose (.nanBits .f64 a b)) λn=>Sem.pure (Value.float .f64 n)))
  (c:∀f,(∀v,r=some v->f=v)->(r=none->isNaN f=true)->K f h):lx P (dx op t x y (.float .f64 a) (.float .f64 b)) (ks .f64) K h:=by
 refine aah ?_;rw [d];cases r with
 | some r=>exact ⟨r,rfl,c r (λv e=>(Option.some.inj e)) λe=>by cases e⟩
 | none=>intro n;exact ⟨_,rfl,c _ (λv e=>by cases e) λ_=>aaf a b n⟩
theorem aaj {t : Nat} {x y : Operand} {a b : Nat} : dx .add t x y (.float .f64 a) (.float .f64 b) = (match f64.format.add a b with
      | some r=>Sem.pure (Value.float .f64 r)
      | none=>Sem.bind (choose (.nanBits .f64 a b)) λn=>Sem.pure (Value.float .f64 n)):=by
 cases e:f64.format.add a b<;>(show Op.floatArith .add .f64 a b=_;unfold Op.floatArith;simp only [pure,bind,Sem.bind,e])
theorem aal {t : Nat} {x y : Operand} {a b : Nat} : dx .sub t x y (.float .f64 a) (.float .f64 b) = (match f64.format.sub a b with
      | some r=>Sem.pure (Value.float .f64 r)
      | none=>Sem.bind (choose (.nanBits .f64 a b)) λn=>Sem.pure (Value.float .f64 n)):=by
 cases e:f64.format.sub a b<;>(show Op.floatArith .sub .f64 a b=_;unfold Op.floatArith;simp only [pure,bind,Sem.bind,e])
theorem aan {t : Nat} {x y : Operand} {a b : Nat} : dx .mul t x y (.float .f64 a) (.float .f64 b) = (match f64.format.mul a b with
      | some r=>Sem.pure (Value.float .f64 r)
      | none=>Sem.bind (choose (.nanBits .f64 a b)) λn=>Sem.pure (Value.float .f64 n)):=by
 cases e:f64.format.mul a b<;>(show Op.floatArith .mul .f64 a b=_;unfold Op.floatArith;simp only [pure,bind,Sem.bind,e])
theorem aao {t : Nat} {x y : Operand} {a b : Nat} : dx .quo t x y (.float .f64 a) (.float .f64 b) = (match f64.format.div a b with
      | some r=>Sem.pure (Value.float .f64 r)
      | none=>Sem.bind (choose (.nanBits .f64 a b)) λn=>Sem.pure (Value.float .f64 n)):=by
 cases e:f64.format.div a b<;>(show Op.floatArith .quo .f64 a b=_;unfold Op.floatArith;simp only [pure,bind,Sem.bind,e])
theorem yR {s:Sem Value} {sh:Shape} {v:sh.T} {K:sh.T->Prop} (a:s=Sem.pure (sh.enc v)) (b:K v):jC none P s sh h K:=by refine ⟨v,Mz ?_,b⟩;rw [a];exact ⟨rfl,rfl⟩
theorem KK {b:Int} {Q:Nat->Hp->Prop} (a:Q (uC b) h):Ep prog b Q h:=by unfold Ep;exact ⟨_,rfl,a⟩
theorem zo {f:Nat} {Q:Int->Hp->Prop} (a:Q (n7 f) h):EV prog f Q h:=by
 unfold EV;refine yR (sh:=bH) (v:=isNaN f) rfl ?_;unfold n7 at a;by_cases e:isNaN f=true
 ·rw [if_pos e];rw [if_pos e] at a;exact a
 ·rw [if_neg e];rw [if_neg e] at a;exact ⟨(f:Int),rfl,a⟩
theorem XH {s:Bool} {n d:Nat}:Ieee.Toward.zero.cut s n d*2^d<=n:=by
 unfold Ieee.Toward.cut;simp only [Bool.toNat_false,Nat.add_zero,Nat.shiftLeft_eq,Nat.one_mul];by_cases a:d<=n.log2+2
 ·rw [Nat.min_eq_left a];exact Nat.div_mul_le_self n (2^d)
 ·rw [Nat.min_eq_right (by omega)];have:n<2^(n.log2+2):=by
   by_cases b:n=0
   ·grind
   ·have:=Nat.lt_log2_self (n:=n);grind
  rw [Nat.div_eq_of_lt this,Nat.zero_mul];omega
theorem zr (m i:Nat):m<<<i=m*2^i:=Nat.shiftLeft_eq m i
theorem XI {s:Bool} {m:Nat} {i:Int} (a:Ieee.Datum.order (.number s m i) (.number false 4503599627370496 11)=some .lt) (b:Ieee.Datum.order (.number s m i) (.number true 4503599627370496 11)≠some .lt):
  ∃n,(Ieee.Datum.number s m i).toInt .zero=some n/\ -9223372036854775808<=n/\n<=9223372036854775807:=by
 refine ⟨_,rfl,?_⟩;have a:compare (Ieee.signed s m (i-min i 11).toNat) (Ieee.signed false 4503599627370496 (11-min i 11).toNat)=.lt:=Option.some.inj a;have b:compare (Ieee.signed s m (i-min i 11).toNat) (Ieee.signed true 4503599627370496 (11-min i 11).toNat)≠ .lt:=λe=>b (congrArg some e);rw [Int.compare_eq_lt] at a;rw [ne_eq,Int.compare_eq_lt] at b;have g:=XH (s:=s) (n:=m<<<i.toNat) (d:=(-i).toNat);generalize y:Ieee.Toward.zero.cut s (m<<<i.toNat) (-i).toNat=w at g;have o:Ieee.signed s w 0=if s then -(w:Int) else (w:Int):=by unfold Ieee.signed;simp
 show -9223372036854775808<=Ieee.signed s w 0/\Ieee.signed s w 0<=9223372036854775807;rw [o];have key:∃C B:Nat,0<C/\0<B/\w*B<=(m<<<(i-min i 11).toNat)*C/\(4503599627370496<<<(11-min i 11).toNat)*C=9223372036854775808*B:=by
  by_cases x:i<=11
  ·have j:min i 11=i:=by omega
   rw [j,Int.sub_self];by_cases u:0<=i
   ·refine ⟨2^i.toNat,1,Nat.two_pow_pos _,by decide,?_,?_⟩
    ·have k:(-i).toNat=0:=by omega
     rw [k,Nat.pow_zero,zr] at g;grind
    ·rw [zr,Nat.mul_assoc,<-Nat.pow_add,show (11-i).toNat+i.toNat=11 by omega]
   ·refine ⟨1,2^(-i).toNat,by decide,Nat.two_pow_pos _,?_,?_⟩
    ·grind
    ·rw [zr,Nat.mul_one,show (11-i).toNat=11+(-i).toNat by omega,Nat.pow_add,<-Nat.mul_assoc]
  ·have j:min i 11=11:=by omega
   rw [j];refine ⟨2^11,1,by decide,by decide,?_,by decide⟩;have k:(-i).toNat=0:=by omega
   rw [k,Nat.pow_zero,zr] at g;rw [zr,Nat.mul_assoc,<-Nat.pow_add,show (i-11).toNat+11=i.toNat by omega];exact g
 obtain ⟨C,B,q,p,z,v⟩:=key;generalize r:m<<<(i-min i 11).toNat=c at*;generalize l:4503599627370496<<<(11-min i 11).toNat=f at*;have s1:Ieee.signed s m (i-min i 11).toNat=if s then -(c:Int) else (c:Int):=by unfold Ieee.signed;rw [r]
 have s2:Ieee.signed false 4503599627370496 (11-min i 11).toNat=(f:Int):=by unfold Ieee.signed;rw [l];rfl
 have t:Ieee.signed true 4503599627370496 (11-min i 11).toNat= -(f:Int):=by unfold Ieee.signed;rw [l];rfl
 rw [s1,s2] at a;rw [s1,t] at b;cases s with
 | false=>
  simp only [Bool.false_eq_true,if_false] at a ⊢;have a:c<f:=by omega
  have:c*C<f*C:=Nat.mul_lt_mul_of_pos_right a q;have:w*B<9223372036854775808*B:=by omega
  have:=Nat.lt_of_mul_lt_mul_right this;omega
 | true=>
  simp only [if_true] at b ⊢;have b:c<=f:=by omega
  have:c*C<=f*C:=Nat.mul_le_mul_right C b;have:w*B<=9223372036854775808*B:=by omega
  have:=Nat.le_of_mul_le_mul_right this p;omega
theorem aaq {b:Nat} {n:Int} (a:(f64.decode b).toInt .zero=some n) (c:IntKind.min .i64<=n/\n<=IntKind.max .i64):kY prog (convert 351 2 (.float .f64 b)) h (.int .i64 n):=by refine OW λw=> ?_;have d:=ay (e:=yJ) cD (t:=351) rfl w;have f:=ay (e:=wJ) cD (t:=2) rfl w;simp only [convert,Sem.run_bind,d,f,Result.andThen_ok];show (Conv.floatToInt .f64 b .i64).run prog w=_;unfold Conv.floatToInt;rw [a];dsimp only;rw [if_pos c];rfl
theorem aar {b:Int}:kY prog (convert 2 351 (.int .i64 b)) h (.float .f64 (f64.nearest b)):=by refine OW λw=> ?_;have a:=ay (e:=yJ) cD (t:=351) rfl w;have c:=ay (e:=wJ) cD (t:=2) rfl w;simp only [convert,Sem.run_bind,a,c,Result.andThen_ok];rfl
theorem aas :f64.format.read 4890909195324358656=.number false 4503599627370496 11:=by decide
theorem aau :f64.format.read 14114281232179134464=.number true 4503599627370496 11:=by decide
theorem OD {f:Nat} (g:isNaN f=false) (e:¬(f64.format.order f 4890909195324358656=some .gt\/f64.format.order f 4890909195324358656=some .eq)) (j:f64.format.order f 14114281232179134464≠some .lt):
  ∃n,(f64.decode f).toInt .zero=some n/\IntKind.min .i64<=n/\n<=IntKind.max .i64:=by
 have k:f64.format.order f 4890909195324358656=(f64.format.read f).order (.number false 4503599627370496 11):=by show (f64.format.read f).order (f64.format.read _)=_;rw [aas]
 have l:f64.format.order f 14114281232179134464=(f64.format.read f).order (.number true 4503599627370496 11):=by show (f64.format.read f).order (f64.format.read _)=_;rw [aau]
 rw [k] at e;rw [l] at j;unfold isNaN at g;have g:(((f64.format.read f).order (f64.format.read f)) !=some .eq)=false:=g;show ∃n,(f64.format.read f).toInt .zero=some n/\_;generalize f64.format.read f=d at*;cases d with
 | nan a b=>simp [Ieee.Datum.order] at g
 | infinity a=>cases a<;>simp [Ieee.Datum.order] at e j
 | number a m i=>refine XI ?_ j;have e:¬(some (compare _ _)=_\/some (compare _ _)=_):=e;show some (compare _ _)=some .lt;generalize compare (Ieee.signed a m (i-min i 11).toNat) (Ieee.signed false 4503599627370496 (11-min i 11).toNat)=c at*;cases c<;>simp at e ⊢
theorem Va {f:Nat} {Q:Int->Hp->Prop} (a:Q (zG f) h):Er prog f Q h:=by
 unfold Er;refine yR (sh:=bH) (v:=isNaN f) rfl ?_;unfold zG at a;by_cases e:isNaN f=true
 ·rw [if_pos e];rw [if_pos e] at a;exact a
 rw [if_neg e];rw [if_neg e] at a;refine yR (sh:=bH) (v:=f64.format.order f 4890909195324358656==some .gt || f64.format.order f 4890909195324358656==some .eq) rfl ?_;by_cases b:f64.format.order f 4890909195324358656=some .gt\/f64.format.order f 4890909195324358656=some .eq
 ·grind
 rw [if_neg (by simpa using b)];rw [if_neg b] at a;refine yR (sh:=bH) (v:=f64.format.order f 14114281232179134464==some .lt) rfl ?_;by_cases c:f64.format.order f 14114281232179134464=some .lt
 ·grind
 rw [if_neg (by simpa using c)];rw [if_neg c] at a;obtain ⟨n,d,g⟩:=OD (by simpa using e) b c;rw [d] at a;exact ⟨n,aaq d g,a⟩
theorem AN {o:Option Nat} {f:Nat} (a:∀v,o=some v->f=v) (b:o=none->isNaN f=true):n7 f=wG o:=by
 cases o with
 | some v=>rw [a v rfl];rfl
 | none=>unfold n7;rw [if_pos (b rfl)];rfl
theorem XJ {op b c:Int} {Q:Int->Int->Hp->Prop} (a:15<=op/\op<=21->Q (wx op b c) 0 h) (q:¬(15<=op/\op<=21)->Q 0 9 h):F9 prog op b c Q h:=by
 have case:∀n:Int,(op==n)=decide (op=n):=λn=>by by_cases e:op=n<;>simp [e]
 unfold F9;refine L6 (KK ?_);refine L6 (KK ?_);unfold wx at a;simp only [case];by_cases i:op=15
 ·subst i;refine A8 aaj λf d g=>OO (zo ?_);rw [AN d g];simpa using a
 by_cases j:op=16
 ·subst j;refine A8 aal λf d g=>OO (zo ?_);rw [AN d g];simpa using a
 by_cases k:op=17
 ·subst k;refine A8 aan λf d g=>OO (zo ?_);rw [AN d g];simpa using a
 by_cases l:op=18
 ·subst l;refine A8 aao λf d g=>OO (zo ?_);rw [AN d g];simpa using a
 by_cases m:op=19
 ·subst m;refine yR (sh:=bH) (v:=f64.format.order (uC b) (uC c)==some .lt) rfl ?_;simp [tG] at a ⊢;by_cases e:f64.format.order (uC b) (uC c)=some .lt
  ·rw [if_pos e];rw [if_pos e] at a;exact a
  ·rw [if_neg e];rw [if_neg e] at a;exact a
 by_cases o:op=20
 ·subst o;refine ⟨f64.nearest b,aar,OO (zo ?_)⟩;simpa using a
 by_cases p:op=21
 ·subst p;refine ZM (Va ?_);simpa using a
 grind
end
end Lf
namespace Lf
structure df where
 op:Int
 a:Int
 b:Int
 c:Int
 gR:Int
def iI (op:Int):Bool×Bool×Bool×Bool:=
 if op=1 then (true,false,false,true)
 else if op=2\/op=20\/op=21\/op=25\/op=26 then (true,true,false,false)
 else if (3<=op/\op<=14)\/(15<=op/\op<=19)\/op=24 then (true,true,true,false)
 else if op=22\/op=29\/op=30 then (false,false,false,true)
 else if op=23 then (true,false,false,true)
 else if op=27\/op=28\/op=31\/op=32\/op=33 then (true,false,false,false)
 else (false,false,false,false)
def du (has:Bool) (n:Int):Int:=if has=false/\n≠0 then 11 else if n<0\/8<=n then 10 else 0
def ja (x:df) (n ag:Int):Int×Int:=
 if x.op<0\/34<=x.op then (9,0)
 else if du (iI x.op).1 x.a≠0 then (du (iI x.op).1 x.a,1)
 else if du (iI x.op).2.1 x.b≠0 then (du (iI x.op).2.1 x.b,2)
 else if du (iI x.op).2.2.1 x.c≠0 then (du (iI x.op).2.2.1 x.c,3)
 else if (iI x.op).2.2.2=false/\x.gR≠0 then (11,4)
 else if (x.op=22\/x.op=23)/\(x.gR<0\/n<x.gR) then (12,4)
 else if (x.op=29\/x.op=30)/\(x.gR<0\/ag<=x.gR) then (13,4)
 else (0,0)
def lf (n ag:Int):List df->Int->Int×Int
 | [],_=>(0,0)
 | x::r,i=>if (ja x n ag).1≠0 then ((ja x n ag).1,i) else lf n ag r (i+1)
def je (l:List df) (ag:Int):Int×Int:=
 if ag<0\/8<ag then (1,0) else if 256<l.length then (3,256) else lf l.length ag l 0
structure fI where
 part:Int
 code:List df
structure aL where
 labels:List Int
 table:List Int
 fuel:Int
 lane:Int
 ag:Int
 log:Int
 procs:List fI
def within (n a b:Int):Bool:=decide (a<=n)&&decide (n<=b)
def wa (parts ag:Int):List fI->Int->Int×Int
 | [],_=>(0,0)
 | p::r,i=>if within p.part 0 (parts-1)=false then (2,7+i) else if (je p.code ag).1≠0 then ((je p.code ag).1,7+i) else wa parts ag r (i+1)
def uK (m:Int) (c:aL):Int×Int:=
 if m≠0 then (m,0)
 else if c.table=[] then (1,1)
 else if 64<c.table.length then (3,1)
 else if c.table.all (λp=>within p 0 (c.labels.length-1))=false then (2,1)
 else if within c.fuel 1 256=false then (2,2)
 else if within c.lane 1 64=false then (2,3)
 else if within c.ag 0 8=false then (2,4)
 else if within c.log 0 4096=false then (2,5)
 else if c.procs=[] then (1,6)
 else if 32<c.procs.length then (3,6)
 else wa c.labels.length c.ag c.procs 0
def bG (n:Int):Nat->List UInt8
 | 0=> []
 | k+1=>UInt8.ofNat (n%256).toNat::bG (n / 256) k
def iR :List UInt8->Nat
 | []=>0
 | b::r=>b.toNat+256*iR r
theorem eN (n:Int) (k:Nat):(bG n k).length=k:=by
 induction k generalizing n with
 | zero=>rfl
 | succ k a=>simp [bG,a]
theorem za (n:Int) (k:Nat):(iR (bG n k):Int)=n%((256^k:Nat):Int):=by
 induction k generalizing n with
 | zero=>show ((0:Nat):Int)=n%1;omega
 | succ k b=>
  have a:(UInt8.ofNat (n%256).toNat).toNat=(n%256).toNat:=by
   rw [UInt8.toNat_ofNat'];have:(n%256).toNat<256:=by omega
   omega
  have c:=b (n / 256);have e:((256^(k+1):Nat):Int)=256*((256^k:Nat):Int):=by rw [Nat.pow_succ,Int.natCast_mul,Int.mul_comm];rfl
  rw [e];show (((UInt8.ofNat (n%256).toNat).toNat+256*iR (bG (n / 256) k):Nat):Int)=_;rw [a];generalize ((256^k:Nat):Int)=q at*;have d:(0:Int)<=n%256:=by omega
  have f:=Int.emod_add_mul_ediv n (256*q);have g:=Int.emod_add_mul_ediv (n / 256) q;have h:=Int.emod_add_mul_ediv n 256;have i:n / (256*q)=n / 256 / q:=(Int.ediv_ediv_of_nonneg (by decide)).symm;grind
theorem zt :∀l:List UInt8,iR l<256^l.length
 | []=>by simp [iR]
 | b::r=>by have a:=zt r;have c:=b.toNat_lt;simp only [iR,List.length_cons,Nat.pow_succ];omega
theorem Hh :∀l:List UInt8,bG (iR l:Int) l.length=l
 | []=>rfl
 | b::r=>by
  have d:=b.toNat_lt;have a:(((b.toNat+256*iR r:Nat):Int)%256).toNat=b.toNat:=by omega
  have c:((b.toNat+256*iR r:Nat):Int) / 256=(iR r:Int):=by omega
  simp only [iR,List.length_cons,bG];rw [a,c,Hh r];simp
def nk (x:df):List UInt8:=bG x.op 1++(bG x.a 1++(bG x.b 1++(bG x.c 1++bG x.gR 8)))
def mF (l:List df):List UInt8:=l.flatMap nk
def gW (p:fI):List UInt8:=bG p.part 1++(bG p.code.length 2++mF p.code)
def fg (c:aL):List UInt8:=
 [70,66,67,70,1]++(bG c.labels.length 1++(c.labels.flatMap (λa=>bG a 8)++(bG c.table.length 1++(c.table.flatMap (λa=>bG a 1)++
  (bG c.fuel 2++(bG c.lane 1++(bG c.ag 1++(bG c.log 2++(bG c.procs.length 1++c.procs.flatMap gW)))))))))
structure qS where
 tick:Int
 proc:Int
 value:Int
structure cd where
 proc:Int
 value:Int
structure aX where
 values:List Int
 waiters:List cd
 taken:Int
 dropped:Int
structure aj where
 state:Int
 pc:Int
 aP:List Int
 ai:Int
 timer:Int
 bB:Bool
 bP:Int
 ak:List aX
structure cJ where
 ai:Int
 log:List qS
 lost:Int
 forbidden:Int
 ax:List Int
 au:List (List Int)
structure aR where
 tick:Int
 parts:List cJ
 procs:List aj
section
variable (c:aL) (s:aR)
def qF (p:Int) (i:Nat):Prop:=0<=p/\∃y,c.procs[p.toNat]? =some y/\y.part=(i:Int)
def Iy (p:Int) (q:aj->Prop):Prop:=∃x,s.procs[p.toNat]? =some x/\q x
def og (i:Nat):Nat:=(c.procs.filter λy=>decide (y.part=(i:Int))).length
def ji (n:Int):Prop:=0<=n/\n<=65535
def jE (y:fI) (pc:Int):Option df:=if 0<=pc then y.code[pc.toNat]? else none
def sW (i:Nat):Int->List qS->Prop
 | _,[]=>True
 | last,e::r=>last<=e.tick/\e.tick<s.tick/\qF c e.proc i/\sW i e.tick r
def vu (i:Nat) (x:cJ):Prop:=
 (0<=x.ai/\(0<x.ai->x.ai<og c i)/\(x.log.length:Int)<=c.log)/\sW c s i 0 x.log/\ji x.lost/\ji x.forbidden/\(0<x.lost->c.log<=x.log.length)/\
 (x.ax.length:Int)=c.ag/\(x.au.length:Int)=c.ag/\∀p∈x.ax,p≠ -1->qF c p i/\Iy s p λz=>z.state≠5/\z.state≠6
def rX (l:aX):Prop:=l.values≠ []\/0<l.taken\/0<l.dropped
def nZ (fl:Nat->Int->Prop) (x:aj) (y:fI):Prop:=
 (0<=x.state/\x.state<=6)/\(0<=x.pc/\x.pc<=y.code.length)/\x.ak.length=c.labels.length+1/\(0<=x.ai/\x.ai<x.ak.length)/\
 (0<=x.timer/\x.timer<=s.tick+1099511627776)/\(0<=x.bP/\x.bP<=s.tick+1099511627776)/\(0<x.bP↔x.state=4)/\
 (x.state=5\/x.state=6->x.timer=0/\x.bB=false)/\
 (∀(i:Nat) l,x.ak[i]? =some l->(l.values.length:Int)<=c.lane/\ji l.taken/\ji l.dropped/\(rX l->i<c.labels.length->fl i y.part))/\
 (x.state=1->(∃n,jE y x.pc=some n/\n.op=25)/\(∀l∈x.ak,l.values=[])/\x.bB=false)/\
 (x.state=2->∃n,jE y x.pc=some n/\n.op=24)/\(x.state=3->∃n,jE y x.pc=some n/\n.op=29)/\(x.state=4->∃n,jE y x.pc=some n/\n.op=28)
def HZ (p:Int) (q:aj->df->Prop):Prop:=∃x y n,s.procs[p.toNat]? =some x/\c.procs[p.toNat]? =some y/\jE y x.pc=some n/\q x n
def xg (p v:Int) (r:Nat):Prop:=HZ c s p λx n=>x.state=2/\n.op=24/\x.aP[n.b.toNat]? =some (r:Int)/\x.aP[n.c.toNat]? =some v
def j5 (p:Int) (x:cJ):Nat:=(x.au.map λq=>q.countP (λz=>decide (z=p))).sum
def qC (p:Int) (l:aX):Nat:=l.waiters.countP λw=>decide (w.proc=p)
def j4 (p:Int) (x:aj):Nat:=(x.ak.map (qC p)).sum
def xh :Prop:=
 (∀(i:Nat) x,s.parts[i]? =some x->∀(k:Nat) q,x.au[k]? =some q->∀p∈q,qF c p i/\(HZ c s p λz n=>z.state=3/\n.gR=(k:Int))/\∃o,x.ax[k]? =some o/\0<=o/\o≠p)/\
 (∀(r:Nat) x y,s.procs[r]? =some x->c.procs[r]? =some y->∀(i:Nat) l,x.ak[i]? =some l->∀w∈l.waiters,(i:Int)=y.part/\qF c w.proc i/\(x.state≠5/\x.state≠6)/\(l.values.length:Int)=c.lane/\xg c s w.proc w.value r)/\
 (∀(p:Nat) x,s.procs[p]? =some x->(s.parts.map (j5 (p:Int))).sum+(s.procs.map (j4 (p:Int))).sum=if x.state=3\/x.state=2 then 1 else 0)
def Ez :Prop:=(0<=s.tick/\s.tick<=4611686018427387904)/\s.parts.length=c.labels.length/\s.procs.length=c.procs.length
def wg (fl:Nat->Int->Prop):Prop:=
 Ez c s/\(∀(i:Nat) x,s.parts[i]? =some x->vu c s i x)/\(∀(p:Nat) x y,s.procs[p]? =some x->c.procs[p]? =some y->nZ c s fl x y)/\xh c s
end
theorem zb {b:Type} (f:b->Nat):∀(l:List b) (i:Nat),(∀j x,l[j]? =some x->j≠i->f x=0)->(l.map f).sum=((l[i]?).map f).getD 0
 | [],i,_=>by simp
 | x::r,0,h=>by
  have:(r.map f).sum=0:=by rw [List.sum_eq_zero_iff_forall_eq_nat];intro y d;obtain ⟨z,e,rfl⟩:=List.mem_map.1 d;obtain ⟨j,a⟩:=List.getElem?_of_mem e;exact h (j+1) z (by simpa using a) (by omega)
  simp [this]
 | x::r,i+1,h=>by have c:=h 0 x rfl (by omega);have:=zb f r i λj y a g=>h (j+1) y (by simpa using a) (by omega);simp [c,this]
section
variable {c:aL} {s:aR}
theorem MH {i:Nat}:∀ {l:List qS} {last:Int},sW c s i last l->∀(k:Nat) e,l[k]? =some e->last<=e.tick/\e.tick<s.tick/\qF c e.proc i/\∀d,0<k->l[k-1]? =some d->d.tick<=e.tick
 | [],_,_,k,e,a=>by simp at a
 | x::r,last,h,0,e,a=>by obtain ⟨b,f,g,_⟩:=h;grind
 | x::r,last,h,k+1,e,a=>by obtain ⟨b,f,g,j⟩:=h;obtain ⟨m,n,o,p⟩:=MH j k e (by simpa using a);grind
end
section
variable {c:aL} {s:aR} {fl:Nat->Int->Prop}
theorem NY {d e:Type} {l:List d} {m:List e} {i:Nat} {a:d} (h:l[i]? =some a) (f:l.length=m.length):∃b,m[i]? =some b:=by have:=(List.getElem?_eq_some_iff.1 h).1;exact ⟨m[i]'(by omega),by simp⟩
end
abbrev D (α:Type):Type:=List UInt8->Nat->Except (Int×Nat) (α×Nat)
namespace D
variable {α β:Type}
def ret (x:α):D α:=λ_ at_=>.ok (x,at_)
def bind (d:D α) (f:α->D β):D β:=λb at_=>match d b at_ with
 | .ok (x,a)=>f x b a
 | .error e=>.error e
def num (k:Nat):D Nat:=λb at_=>if b.length<at_+k then .error (5,b.length) else .ok (iR ((b.drop at_).take k),at_+k)
def cQ (d:D α) (wrong:α->Int):D α:=λb at_=>match d b at_ with
 | .ok (x,a)=>if wrong x=0 then .ok (x,a) else .error (wrong x,at_)
 | .error e=>.error e
def many (d:List α->D α):Nat->List α->D (List α)
 | 0,a=>ret a
 | n+1,a=>bind (d a) λx=>many d n (a++ [x])
def map (f:α->β) (d:D α):D β:=bind d λx=>ret (f x)
structure jj (d:D α) (enc:α->List UInt8) (valid:α->Prop):Prop where
 back:∀x,valid x->∀u t,d (u++(enc x++t)) u.length=.ok (x,u.length+(enc x).length)
 sound:∀b at_ x at2,d b at_=.ok (x,at2)->at_<=b.length->valid x/\at2=at_+(enc x).length/\∃t,b.drop at_=enc x++t
 cut:∀x,valid x->∀u t r,enc x=t++r->r≠ []->d (u++t) u.length=.error (5,u.length+t.length)
theorem jj.within {d:D α} {enc:α->List UInt8} {f:α->Prop} (L:jj d enc f) {b:List UInt8} {at_ a:Nat} {x:α} (h:d b at_=.ok (x,a)) (c:at_<=b.length):a<=b.length:=by obtain ⟨_,g,t,e⟩:=L.sound b at_ x a h c;have:=congrArg List.length e;grind
theorem kR (k:Nat):jj (num k) (λn=>bG (n:Int) k) (λn=>n<256^k) where
 back:=λx f u t=>by
  unfold num;have a:=eN (x:Int) k;rw [if_neg (by simp [a])];have e:((u++(bG (x:Int) k++t)).drop u.length).take k=bG (x:Int) k:=by rw [List.drop_left,List.take_left' a]
  rw [e];have c:=za (x:Int) k;have d:(x:Int)%((256^k:Nat):Int)=(x:Int):=Int.emod_eq_of_lt (by omega) (by exact_mod_cast f);grind
 sound:=λb at_ x l h m=>by
  unfold num at h;by_cases g:b.length<at_+k
  ·grind
  ·rw [if_neg g] at h;cases h;have a:((b.drop at_).take k).length=k:=by grind
   have c:=zt ((b.drop at_).take k);rw [a] at c;have d:=Hh ((b.drop at_).take k);rw [a] at d;refine ⟨c,by rw [eN],(b.drop at_).drop k,?_⟩;rw [d,List.take_append_drop]
 cut:=λx f u t r i j=>by unfold num;have a:=eN (x:Int) k;rw [i,List.length_append] at a;have:0<r.length:=List.length_pos_iff.2 j;grind
theorem gx (x:α):jj (ret x) (λ_=> []) (λy=>y=x) where
 back:=λy d u t=>by subst d;rfl
 sound:=λb at_ y e h _=>by cases h;simp
 cut:=λy _ u t r a c=>by exact absurd (List.append_eq_nil_iff.1 a.symm).2 c
theorem sd {γ:Type} {d1:D α} {d2:α->D β} {d:α->List UInt8} {e2:α->β->List UInt8} {v1:α->Prop} {v:α->β->Prop} (f:α->β->γ) (g:γ->α×β) (H:∀x y,v1 x->v x y->g (f x y)=(x,y)) (M:∀z,f (g z).1 (g z).2=z)
  (j:jj d1 d v1) (m:∀x,v1 x->jj (d2 x) (e2 x) (v x)):
  jj (bind d1 λx=>bind (d2 x) λy=>ret (f x y)) (λz=>d (g z).1++e2 (g z).1 (g z).2) (λz=>v1 (g z).1/\v (g z).1 (g z).2) where
 back:=λz s u t=>by obtain ⟨c,i⟩:=s;have a:=j.back _ c u (e2 (g z).1 (g z).2++t);have b:=(m _ c).back _ i (u++d (g z).1) t;rw [List.append_assoc] at b;simp only [bind];rw [List.append_assoc,a];dsimp only;rw [List.length_append] at b;rw [b];dsimp only [ret];grind
 sound:=λb at_ z L h w=>by
  simp only [bind] at h;cases c:d1 b at_ with
  | error e=>grind
  | ok p=>
   obtain ⟨x,a1⟩:=p;rw [c] at h;dsimp only at h;obtain ⟨n,E,t1,F⟩:=j.sound b at_ x a1 c w;cases i:d2 x b a1 with
   | error e=>grind
   | ok q=>obtain ⟨y,a2⟩:=q;rw [i] at h;dsimp only [ret] at h;cases h;obtain ⟨B,N,t2,C⟩:=(m x n).sound b a1 y _ i (j.within c w);rw [H x y n B];dsimp only;refine ⟨⟨n,B⟩,by rw [List.length_append];omega,t2,?_⟩;rw [E] at C;rw [<-List.drop_drop,F,List.drop_left] at C;grind
 cut:=λz s u t r l K=>by
  obtain ⟨c,i⟩:=s;simp only [bind];by_cases I:t.length<(d (g z).1).length
  · -- cut in the first
   obtain ⟨k,A⟩:∃k,d (g z).1=t++k:=by have hp:t<+:d (g z).1:=List.prefix_of_prefix_length_le ⟨r,l.symm⟩ (List.prefix_append _ _) (Nat.le_of_lt I);obtain ⟨k,A⟩:=hp;grind
   have J:k≠ []:=λe=>by grind
   rw [j.cut _ c u t k A J]
  ·obtain ⟨t2,o⟩:∃t2,t=d (g z).1++t2:=by have hp:d (g z).1<+:t:=List.prefix_of_prefix_length_le (List.prefix_append _ _) ⟨r,l.symm⟩ (by omega);obtain ⟨t2,o⟩:=hp;exact ⟨t2,o.symm⟩
   subst o;have G:e2 (g z).1 (g z).2=t2++r:=by rw [List.append_assoc] at l;exact List.append_cancel_left l
   have a:=j.back _ c u t2;rw [a];dsimp only;have b:=(m _ c).cut _ i (u++d (g z).1) t2 r G K;grind
theorem dQ {d:D α} {enc:α->List UInt8} {i:α->Prop} (L:jj d enc i) (c:α->Int):jj (cQ d c) enc (λx=>i x/\c x=0) where
 back:=λx a u t=>by simp only [cQ,L.back x a.1 u t,if_pos a.2]
 sound:=λb at_ x j h n=>by
  simp only [cQ] at h;cases f:d b at_ with
  | error e=>grind
  | ok p=>
   obtain ⟨y,a1⟩:=p;rw [f] at h;dsimp only at h;by_cases g:c y=0
   ·rw [if_pos g] at h;cases h;obtain ⟨k,l,m⟩:=L.sound b at_ x j f n;exact ⟨⟨k,g⟩,l,m⟩
   grind
 cut:=λx a u t r o q=>by simp only [cQ,L.cut x a.1 u t r o q]
theorem jj.congr {d:D α} {enc enc':α->List UInt8} {c valid':α->Prop} (L:jj d enc c) (hv:∀x,c x↔valid' x) (e:∀x,c x->enc x=enc' x):jj d enc' valid' where
 back:=λx a u t=>by have a:=(hv x).2 a;rw [<-e x a];exact L.back x a u t
 sound:=λb at_ x g h i=>by obtain ⟨k,l,m⟩:=L.sound b at_ x g h i;grind
 cut:=λx a u t r f j=>by have a:=(hv x).2 a;rw [<-e x a] at f;exact L.cut x a u t r f j
theorem mh {d:D α} {enc:α->List UInt8} {g:α->Prop} (h:α->β) {enc':β->List UInt8} {valid':β->Prop} (L:jj d enc g) (hv:∀y,valid' y↔∃x,g x/\h x=y) (j:∀x,g x->enc' (h x)=enc x):jj (map h d) enc' valid' where
 back:=λy f u t=>by obtain ⟨x,a,rfl⟩:=(hv y).1 f;rw [j x a];simp only [map,bind,L.back x a u t];rfl
 sound:=λb at_ y n c l=>by
  simp only [map,bind] at c;cases i:d b at_ with
  | error e=>grind
  | ok p=>obtain ⟨x,a1⟩:=p;rw [i] at c;dsimp only [ret] at c;cases c;obtain ⟨o,q,s⟩:=L.sound b at_ x _ i l;grind
 cut:=λy f u t r k m=>by obtain ⟨x,a,rfl⟩:=(hv y).1 f;rw [j x a] at k;simp only [map,bind,L.cut x a u t r k m]
def dJ (v:List α->α->Prop):List α->List α->Prop
 | _,[]=>True
 | acc,x::r=>v acc x/\dJ v (acc++ [x]) r
theorem MI (a:D α) (c:α->D β):map (λz:α×β=>z.2) (bind a λx=>bind (c x) λy=>ret (x,y))=bind a c:=by
 funext b at_;simp only [map,bind];cases a b at_ with
 | error e=>rfl
 | ok p=>
  obtain ⟨x,a1⟩:=p;dsimp only;cases c x b a1 with
  | error e=>rfl
  | ok q=>rfl
theorem jG {d:List α->D α} {e:α->List UInt8} {v:List α->α->Prop} (L:∀a,jj (d a) e (v a)):∀(n:Nat) (a:List α),
  jj (many d n a) (λz=>(z.drop a.length).flatMap e) (λz=>∃b,z=a++b/\b.length=n/\dJ v a b)
 | 0,a=>by
  refine (gx a).congr (λz=>⟨λh=>⟨[],by rw [h,List.append_nil],rfl,trivial⟩,?_⟩) λz h=> ?_
  ·rintro ⟨b,rfl,c,_⟩;rw [List.length_eq_zero_iff.1 c,List.append_nil]
  grind
 | n+1,a=>by
  have h:=sd (γ:=α×List α) (d1:=d a) (d2:=λx=>many d n (a++ [x])) Prod.mk id (λ_ _ _ _=>rfl) (λ_=>rfl) (L a) λx _=>jG L n (a++ [x]);have g:=mh (h:=λz:α×List α=>z.2) (enc':=λz=>(z.drop a.length).flatMap e) (valid':=λz=>∃b,z=a++b/\b.length=n+1/\dJ v a b) h (λy=>⟨?_,?_⟩) ?_
  ·rw [MI] at g;exact g
  ·rintro ⟨b,rfl,c,i⟩;cases b with
   | nil=>simp at c
   | cons x r=>exact ⟨(x,a++x::r),⟨i.1,r,by simp,by simpa using c,i.2⟩,rfl⟩
  ·rintro ⟨⟨x,z⟩,⟨j,r,f,k,l⟩,rfl⟩;have f:z=a++ [x]++r:=f;refine ⟨x::r,by simp [f],by simp [k],j,l⟩
  grind
end D
end Lf
namespace Lf
namespace D
variable {α γ:Type}
theorem lQ {d:D α} {d2:α->D γ} {c:α->List UInt8} {e2:α->γ->List UInt8} {v1:α->Prop} {v2:α->γ->Prop} (g:γ->α) (j:∀x z,v1 x->v2 x z->g z=x)
  (f:jj d c v1) (i:∀x,v1 x->jj (d2 x) (e2 x) (v2 x)):jj (bind d d2) (λz=>c (g z)++e2 (g z) z) (λz=>v1 (g z)/\v2 (g z) z):=by
 have h:=sd (γ:=α×γ) Prod.mk id (λ_ _ _ _=>rfl) (λ_=>rfl) f i;have e:=mh (h:=λz:α×γ=>z.2) (enc':=λz=>c (g z)++e2 (g z) z) (valid':=λz=>v1 (g z)/\v2 (g z) z) h (λy=>⟨?_,?_⟩) ?_
 ·rw [MI] at e;exact e
 ·rintro ⟨a,b⟩;exact ⟨(g y,y),⟨a,b⟩,rfl⟩
 ·rintro ⟨⟨x,z⟩,⟨a,b⟩,rfl⟩;have a:v1 x:=a;have b:v2 x z:=b;show v1 (g z)/\v2 (g z) z;rw [j x z a b];exact ⟨a,b⟩
 grind
theorem bD {a:D α} {b:α->D γ} {c:α->List UInt8} {v1:α->Prop} {E:γ->List UInt8} {P W:γ->Prop} (g:γ->α)
  (d:jj a c v1) (e:∀x,v1 x->jj (b x) E (λz=>(g z=x/\P z)/\W z)):jj (bind a b) (λz=>c (g z)++E z) (λz=>P z/\(v1 (g z)/\W z)):=by
 have h:=lQ (e2:=λ_=>E) (v2:=λx z=>(g z=x/\P z)/\W z) g (λx z _ h=>h.1.1) d e;grind
theorem gN {c:D Int} {d:Int->List α->D α} {f:Int->List α->D γ} {i:Int->List UInt8} {v1:Int->Prop} {e:α->List UInt8} {v:Int->List α->α->Prop} {E:γ->List UInt8} {P W:γ->Prop} (g:γ->List α)
  (m:∀n,v1 n->0<=n) (j:jj c i v1) (L:∀n b,jj (d n b) e (v n b)) (k:∀n l,(l.length:Int)=n->jj (f n l) E (λz=>(g z=l/\P z)/\W z)):
  jj (bind c λn=>bind (many (d n) n.toNat []) λl=>f n l) (λz=>i (g z).length++((g z).flatMap e++E z)) (λz=>P z/\(v1 (g z).length/\(dJ (v (g z).length) [] (g z)/\W z))):=by
 refine bD (λz=>((g z).length:Int)) j λn p=> ?_;have o:∀l:List α,(∃a,l=[]++a/\a.length=n.toNat/\dJ (v n) [] a)->(l.length:Int)=n:=by rintro l ⟨a,rfl,r,_⟩;have:=m n p;omega
 have h:=lQ (e2:=λ_=>E) (v2:=λl z=>(g z=l/\P z)/\W z) g (λx z _ h=>h.1.1) (jG (L n) n.toNat []) λl q=>k n l (o l q);grind
def iv (d:D α) (a:α->Int×Int):D α:=λb at_=>match d b at_ with
 | .ok (x,c)=>if (a x).1=0 then .ok (x,c) else .error ((a x).1,at_+(a x).2.toNat)
 | .error e=>.error e
theorem uP {d:D α} {enc:α->List UInt8} {i:α->Prop} (L:jj d enc i) (c:α->Int×Int):jj (iv d c) enc (λx=>i x/\(c x).1=0) where
 back:=λx a u t=>by simp only [iv,L.back x a.1 u t,if_pos a.2]
 sound:=λb at_ x j h n=>by
  simp only [iv] at h;cases f:d b at_ with
  | error e=>grind
  | ok p=>
   obtain ⟨y,a1⟩:=p;rw [f] at h;dsimp only at h;by_cases g:(c y).1=0
   ·rw [if_pos g] at h;cases h;obtain ⟨k,l,m⟩:=L.sound b at_ x j f n;exact ⟨⟨k,g⟩,l,m⟩
   grind
 cut:=λx a u t r o q=>by simp only [iv,L.cut x a.1 u t r o q]
end D
open D
def i64 (n:Nat):Int:=if n<9223372036854775808 then n else (n:Int)-18446744073709551616
def cN (x:Int):Prop:= -9223372036854775808<=x/\x<9223372036854775808
theorem Cx :jj (map i64 (num 8)) (λx=>bG x 8) cN:=by
 refine mh i64 (kR 8) (λy=>⟨λh=> ?_,?_⟩) λx c=> ?_
 ·obtain ⟨d,e⟩:=h;refine ⟨(y%18446744073709551616).toNat,?_,?_⟩
  ·omega
  ·unfold i64;split<;>omega
 ·rintro ⟨x,c,rfl⟩;have c:x<18446744073709551616:=c;unfold i64 cN;split<;>omega
 ·have c:x<18446744073709551616:=c;have key:∀(k:Nat) (a b:Int),a%((256^k:Nat):Int)=b%((256^k:Nat):Int)->bG a k=bG b k:=by
   intro k a b h;have d:=za a k;have e:=za b k;rw [h,<-e] at d;have i:iR (bG a k)=iR (bG b k):=by exact_mod_cast d
   have f:=Hh (bG a k);have g:=Hh (bG b k);rw [eN] at f g;grind
  refine key 8 _ _ ?_;show i64 x%18446744073709551616=(x:Int)%18446744073709551616;unfold i64;split<;>omega
def vN (n:Nat):Int:=n
theorem mQ (k:Nat):jj (map vN (num k)) (λx=>bG x k) (λx=>0<=x/\x<((256^k:Nat):Int)):=
 mh vN (kR k) (λy=>⟨λh=>⟨y.toNat,by omega,by unfold vN;omega⟩,by rintro ⟨x,a,rfl⟩;unfold vN;omega⟩) λx _=>rfl
def zD (k:Nat):D Int:=map vN (num k)
def sD :D df:=bind (zD 1) λop=>bind (zD 1) λa=>bind (zD 1) λb=>bind (zD 1) λc=>bind (map i64 (num 8)) λgR=>ret ⟨op,a,b,c,gR⟩
def pJ (n ag:Int):D df:=iv sD λx=>ja x n ag
def dD (a b:Int) (n:Int):Int:=if within n a b then 0 else 2
def gg (dS:Int) (n:Int):Int:=if n=0 then 1 else if dS<n then 3 else 0
def nL (b:List Int) (a:Int):Int:=match b.getLast? with
 | none=>0
 | some l=>if a=l then 8 else if a<l then 7 else 0
def nx (parts ag:Int):D fI:=bind (cQ (zD 1) (dD 0 (parts-1))) λpart=>bind (cQ (zD 2) λn=>if 256<n then 3 else 0) λn=>
 bind (many (λ_=>pJ n ag) n.toNat []) λcode=>ret ⟨part,code⟩
def jU :List UInt8->D Unit
 | []=>ret ()
 | c::r=>bind (cQ (num 1) λn=>if n=c.toNat then 0 else 4) λ_=>jU r
def An :D aL:=bind (jU [70,66,67,70,1]) λ_=>bind (cQ (zD 1) (gg 8)) λnl=>bind (many (λa=>cQ (zD 8) (nL a)) nl.toNat []) λlabels=>
 bind (cQ (zD 1) (gg 64)) λb=>bind (many (λ_=>cQ (zD 1) (dD 0 (nl-1))) b.toNat []) λtable=>
 bind (cQ (zD 2) (dD 1 256)) λfuel=>bind (cQ (zD 1) (dD 1 64)) λlane=>bind (cQ (zD 1) (dD 0 8)) λag=>bind (cQ (zD 2) (dD 0 4096)) λlog=>
 bind (cQ (zD 1) (gg 32)) λnp=>bind (many (λ_=>nx nl ag) np.toNat []) λprocs=>ret ⟨labels,table,fuel,lane,ag,log,procs⟩
def oy {a:Type} (d:D a) (b:List UInt8):Except (Int×Nat) a:=
 if 1048576<b.length then .error (22,1048576) else match d b 0 with
  | .error e=>.error e
  | .ok (x,at_)=>if at_<b.length then .error (6,at_) else .ok x
def ve (b:List UInt8):Except (Int×Nat) aL:=oy An b
theorem Ga :∀m:List UInt8,jj (jU m) (λ_=>m) (λ_=>True)
 | []=>(gx ()).congr (λ_=>by simp) λ_ _=>rfl
 | c::r=>by
  have a:∀(x:Nat) (z:Unit),(x<256^1/\(if x=c.toNat then (0:Int) else 4)=0)->True->c.toNat=x:=λx z a _=>by omega
  have h:=lQ (g:=λ_:Unit=>c.toNat) (d2:=λ_=>jU r) (e2:=λ_ _=>r) (v2:=λ_ _=>True) a (dQ (kR 1) λn=>if n=c.toNat then (0:Int) else 4) λ_ _=>Ga r
  ·refine h.congr (λ_=> ?_) λ_ _=> ?_
   ·simp;exact c.toNat_lt
   ·have:=Hh [c];simp only [iR,List.length_cons,List.length_nil] at this;grind
theorem pg :D.jj sD nk λx=>(0<=x.op/\x.op<256)/\(0<=x.a/\x.a<256)/\(0<=x.b/\x.b<256)/\(0<=x.c/\x.c<256)/\cN x.gR:=by
 have h:=D.bD (P:=λ_=>True) (W:=λz=>(0<=z.a/\z.a<((256^1:Nat):Int))/\((0<=z.b/\z.b<((256^1:Nat):Int))/\((0<=z.c/\z.c<((256^1:Nat):Int))/\(cN z.gR/\True)))) (E:=λz=>bG z.a 1++(bG z.b 1++(bG z.c 1++(bG z.gR 8++ [])))) (λz:df=>z.op) (mQ 1) λop _=>
  D.bD (W:=λz=>(0<=z.b/\z.b<((256^1:Nat):Int))/\((0<=z.c/\z.c<((256^1:Nat):Int))/\(cN z.gR/\True))) (E:=λz=>bG z.b 1++(bG z.c 1++(bG z.gR 8++ []))) (λz:df=>z.a) (mQ 1) λa _=>
  D.bD (W:=λz=>(0<=z.c/\z.c<((256^1:Nat):Int))/\(cN z.gR/\True)) (E:=λz=>bG z.c 1++(bG z.gR 8++ [])) (λz:df=>z.b) (mQ 1) λb _=>
  D.bD (W:=λz=>cN z.gR/\True) (E:=λz=>bG z.gR 8++ []) (λz:df=>z.c) (mQ 1) λc _=>
  D.bD (W:=λz=>True) (E:=λz=> []) (λz:df=>z.gR) Cx λgR _=>
  (D.gx (⟨op,a,b,c,gR⟩:df)).congr (λz=>⟨λh=>by subst h;simp,λh=>by cases z;simp at h;simp [h]⟩) λ_ _=>rfl
 refine h.congr (λz=> ?_) λz _=> ?_
 ·simp
 ·simp [nk]
theorem zl {b:Type} {V:b->Prop}:∀(l a:List b),dJ (λ_ x=>V x) a l↔∀x∈l,V x
 | [],_=>by simp [dJ]
 | x::r,a=>by simp [dJ,zl r]
def Dc (x:df):Prop:=(0<=x.op/\x.op<256)/\(0<=x.a/\x.a<256)/\(0<=x.b/\x.b<256)/\(0<=x.c/\x.c<256)/\cN x.gR
def sY (parts ag:Int) (z:fI):Prop:=
 (0<=z.part/\z.part<256)/\dD 0 (parts-1) z.part=0/\z.code.length<=256/\∀x∈z.code,Dc x/\(ja x z.code.length ag).1=0
theorem XK (parts ag:Int):D.jj (nx parts ag) gW (sY parts ag):=by
 have h:=D.bD (P:=λ_=>True) (W:=λz:fI=>((0<=(z.code.length:Int)/\(z.code.length:Int)<((256^2:Nat):Int))/\(if 256<(z.code.length:Int) then (3:Int) else 0)=0)/\(dJ (λ_ x=>Dc x/\(ja x z.code.length ag).1=0) [] z.code/\True))
  (E:=λz=>bG z.code.length 2++(z.code.flatMap nk++ [])) fI.part (D.dQ (mQ 1) (dD 0 (parts-1))) λpart _=>
  D.gN (d:=λn _=>pJ n ag) (v:=λn _ x=>Dc x/\(ja x n ag).1=0) (W:=λ_=>True) (E:=λ_=> []) fI.code (λn a=>a.1.1) (D.dQ (mQ 2) λn=>if 256<n then (3:Int) else 0)
   (λn _=>D.uP pg _) λn l _=>(D.gx (⟨part,l⟩:fI)).congr (λz=>⟨λh=>by subst h;simp,λh=>by cases z;simp at h;simp [h]⟩) λ_ _=>rfl
 refine h.congr (λz=> ?_) λz _=> ?_
 ·rw [zl];unfold sY;grind
 ·simp [gW,mF]
end Lf
namespace Lf
open D (dJ)
abbrev By (k:Nat) (x:Int):Prop:=0<=x/\x<((256^k:Nat):Int)
abbrev qV (nl ag:Int) (z:aL):Prop:=(By 2 z.log/\dD 0 4096 z.log=0)/\((By 1 z.procs.length/\gg 32 z.procs.length=0)/\(dJ (λ_ p=>sY nl ag p) [] z.procs/\True))
abbrev xI (nl:Int) (z:aL):Prop:=
 (By 1 z.table.length/\gg 64 z.table.length=0)/\(dJ (λ_ x=>By 1 x/\dD 0 (nl-1) x=0) [] z.table/\((By 2 z.fuel/\dD 1 256 z.fuel=0)/\((By 1 z.lane/\dD 1 64 z.lane=0)/\((By 1 z.ag/\dD 0 8 z.ag=0)/\qV nl z.ag z))))
abbrev nF (z:aL):Prop:=(By 1 z.labels.length/\gg 8 z.labels.length=0)/\(dJ (λb a=>By 8 a/\nL b a=0) [] z.labels/\xI z.labels.length z)
theorem EW :D.jj An fg nF:=by
 have i:∀(labels table:List Int) (fuel lane:Int) (nl ag:Int),D.jj (D.bind (D.cQ (zD 2) (dD 0 4096)) λlog=>D.bind (D.cQ (zD 1) (gg 32)) λnp=>D.bind (D.many (λ_=>nx nl ag) np.toNat []) λprocs=>D.ret (⟨labels,table,fuel,lane,ag,log,procs⟩:aL))
   (λz=>bG z.log 2++(bG z.procs.length 1++(z.procs.flatMap gW++ []))) (λz=>(z.ag=ag/\(z.lane=lane/\(z.fuel=fuel/\(z.table=table/\(z.labels=labels/\True)))))/\qV nl ag z):=λlabels table fuel lane nl ag=>
  D.bD (γ:=aL) (P:=λz=>z.ag=ag/\(z.lane=lane/\(z.fuel=fuel/\(z.table=table/\(z.labels=labels/\True))))) (W:=λz=>(By 1 z.procs.length/\gg 32 z.procs.length=0)/\(dJ (λ_ p=>sY nl ag p) [] z.procs/\True))
   (E:=λz=>bG z.procs.length 1++(z.procs.flatMap gW++ [])) aL.log (D.dQ (mQ 2) (dD 0 4096)) λlog _=>
   D.gN (γ:=aL) (d:=λ_ _=>nx nl ag) (v:=λ_ _ p=>sY nl ag p) (W:=λ_=>True) (E:=λ_=> []) aL.procs (λn c=>c.1.1) (D.dQ (mQ 1) (gg 32)) (λ_ _=>XK nl ag) λn l _=>
   (D.gx (⟨labels,table,fuel,lane,ag,log,l⟩:aL)).congr (λz=>⟨λh=>by subst h;simp,λh=>by cases z;simp at h;simp [h]⟩) λ_ _=>rfl
 have f:∀(labels:List Int) (nl:Int),D.jj (D.bind (D.cQ (zD 1) (gg 64)) λk=>D.bind (D.many (λ_=>D.cQ (zD 1) (dD 0 (nl-1))) k.toNat []) λtable=>
   D.bind (D.cQ (zD 2) (dD 1 256)) λfuel=>D.bind (D.cQ (zD 1) (dD 1 64)) λlane=>D.bind (D.cQ (zD 1) (dD 0 8)) λag=>D.bind (D.cQ (zD 2) (dD 0 4096)) λlog=>
   D.bind (D.cQ (zD 1) (gg 32)) λnp=>D.bind (D.many (λ_=>nx nl ag) np.toNat []) λprocs=>D.ret (⟨labels,table,fuel,lane,ag,log,procs⟩:aL))
   (λz=>bG z.table.length 1++(z.table.flatMap (λa=>bG a 1)++(bG z.fuel 2++(bG z.lane 1++(bG z.ag 1++(bG z.log 2++(bG z.procs.length 1++(z.procs.flatMap gW++ []))))))))
   (λz=>(z.labels=labels/\True)/\xI nl z):=λlabels nl=>
  D.gN (γ:=aL) (d:=λ_ _=>D.cQ (zD 1) (dD 0 (nl-1))) (v:=λ_ _ x=>By 1 x/\dD 0 (nl-1) x=0) (P:=λz=>z.labels=labels/\True)
   (W:=λz=>(By 2 z.fuel/\dD 1 256 z.fuel=0)/\((By 1 z.lane/\dD 1 64 z.lane=0)/\((By 1 z.ag/\dD 0 8 z.ag=0)/\qV nl z.ag z)))
   (E:=λz=>bG z.fuel 2++(bG z.lane 1++(bG z.ag 1++(bG z.log 2++(bG z.procs.length 1++(z.procs.flatMap gW++ [])))))) aL.table (λn c=>c.1.1) (D.dQ (mQ 1) (gg 64)) (λ_ _=>D.dQ (mQ 1) (dD 0 (nl-1))) λn table _=>
   D.bD (γ:=aL) (W:=λz=>(By 1 z.lane/\dD 1 64 z.lane=0)/\((By 1 z.ag/\dD 0 8 z.ag=0)/\qV nl z.ag z)) (E:=λz=>bG z.lane 1++(bG z.ag 1++(bG z.log 2++(bG z.procs.length 1++(z.procs.flatMap gW++ []))))) aL.fuel (D.dQ (mQ 2) (dD 1 256)) λfuel _=>
   D.bD (γ:=aL) (W:=λz=>(By 1 z.ag/\dD 0 8 z.ag=0)/\qV nl z.ag z) (E:=λz=>bG z.ag 1++(bG z.log 2++(bG z.procs.length 1++(z.procs.flatMap gW++ [])))) aL.lane (D.dQ (mQ 1) (dD 1 64)) λlane _=>
   D.bD (γ:=aL) (W:=λz=>qV nl z.ag z) (E:=λz=>bG z.log 2++(bG z.procs.length 1++(z.procs.flatMap gW++ []))) aL.ag (D.dQ (mQ 1) (dD 0 8)) λag _=>
   (i labels table fuel lane nl ag).congr (λz=>and_congr_right λh=>by rw [h.1]) λ_ _=>rfl
 have e:=D.lQ (g:=λ_:aL=>()) (v2:=λ_ z=>True/\nF z) (e2:=λ_ z=>bG z.labels.length 1++(z.labels.flatMap (λa=>bG a 8)++(bG z.table.length 1++(z.table.flatMap (λa=>bG a 1)++(bG z.fuel 2++(bG z.lane 1++(bG z.ag 1++(bG z.log 2++(bG z.procs.length 1++(z.procs.flatMap gW++ []))))))))))
  (λx z _ _=>rfl) (Ga [70,66,67,70,1]) λ_ _=>
  D.gN (γ:=aL) (d:=λ_ b=>D.cQ (zD 8) (nL b)) (v:=λ_ b a=>By 8 a/\nL b a=0) (P:=λ_=>True) (W:=λz=>xI z.labels.length z)
   (E:=λz=>bG z.table.length 1++(z.table.flatMap (λa=>bG a 1)++(bG z.fuel 2++(bG z.lane 1++(bG z.ag 1++(bG z.log 2++(bG z.procs.length 1++(z.procs.flatMap gW++ [])))))))) aL.labels (λn c=>c.1.1) (D.dQ (mQ 1) (gg 8)) (λ_ b=>D.dQ (mQ 8) (nL b)) λnl labels j=>
   (f labels nl).congr (λz=>and_congr_right λh=>by rw [h.1,j]) λ_ _=>rfl
 refine e.congr (λz=>by simp) λz _=> ?_;simp [fg]
end Lf
namespace Lf
open D (dJ)
def qk (e:qS):List UInt8:=bG e.tick 8++(bG e.proc 1++bG e.value 8)
def zP (w:cd):List UInt8:=bG w.proc 1++bG w.value 8
def fU (l:aX):List UInt8:=bG l.values.length 1++(l.values.flatMap (λv=>bG v 8)++(bG l.waiters.length 1++(l.waiters.flatMap zP++(bG l.taken 2++bG l.dropped 2))))
def iN (x:Int×List Int):List UInt8:=bG (x.1+1) 1++(bG x.2.length 1++x.2.flatMap λp=>bG p 1)
def uh (b:Bool):Int:=if b=true then 1 else 0
def uw (x:aj):List UInt8:=
 bG x.state 1++(bG x.pc 2++(x.aP.flatMap (λv=>bG v 8)++(bG x.ai 1++(bG x.timer 8++(bG (uh x.bB) 1++(bG x.bP 8++x.ak.flatMap fU))))))
def jf (x:cJ):List UInt8:=
 bG x.ai 1++(bG x.log.length 2++(x.log.flatMap qk++(bG x.lost 2++(bG x.forbidden 2++(x.ax.zip x.au).flatMap iN))))
def iO (c:aL) (s:aR):List UInt8:=
 [70,66,83,78,1]++(bG (fg c).length 4++(fg c++(bG s.tick 8++(s.parts.flatMap jf++s.procs.flatMap uw))))
def iD :D Int:=D.map i64 (D.num 8)
def fK (dS:Int) (n:Int):Int:=if dS<n then 3 else 0
def vj :D qS:=D.bind iD λtick=>D.bind (zD 1) λproc=>D.bind iD λvalue=>D.ret ⟨tick,proc,value⟩
def tY :D cd:=D.bind (zD 1) λproc=>D.bind iD λvalue=>D.ret ⟨proc,value⟩
def oa (lane np:Int):D aX:=D.bind (D.cQ (zD 1) (fK lane)) λn=>D.bind (D.many (λ_=>iD) n.toNat []) λvalues=>
 D.bind (D.cQ (zD 1) (fK np)) λm=>D.bind (D.many (λ_=>tY) m.toNat []) λwaiters=>D.bind (zD 2) λtaken=>D.bind (zD 2) λdropped=>D.ret ⟨values,waiters,taken,dropped⟩
theorem Vf :D.jj vj qk λz=>cN z.tick/\By 1 z.proc/\cN z.value:=by
 have h:=D.bD (P:=λ_=>True) (W:=λz=>By 1 z.proc/\(cN z.value/\True)) (E:=λz=>bG z.proc 1++(bG z.value 8++ [])) (λz:qS=>z.tick) Cx λtick _=>
  D.bD (W:=λz=>cN z.value/\True) (E:=λz=>bG z.value 8++ []) (λz:qS=>z.proc) (mQ 1) λproc _=>
  D.bD (W:=λz=>True) (E:=λz=> []) (λz:qS=>z.value) Cx λvalue _=>
  (D.gx (⟨tick,proc,value⟩:qS)).congr (λz=>⟨λh=>by subst h;simp,λh=>by cases z;simp at h;simp [h]⟩) λ_ _=>rfl
 refine h.congr (λz=> ?_) λz _=> ?_
 ·simp
 ·simp [qk]
theorem Tx :D.jj tY zP λz=>By 1 z.proc/\cN z.value:=by
 have h:=D.bD (P:=λ_=>True) (W:=λz=>cN z.value/\True) (E:=λz=>bG z.value 8++ []) (λz:cd=>z.proc) (mQ 1) λproc _=>
  D.bD (W:=λz=>True) (E:=λz=> []) (λz:cd=>z.value) Cx λvalue _=>
  (D.gx (⟨proc,value⟩:cd)).congr (λz=>⟨λh=>by subst h;simp,λh=>by cases z;simp at h;simp [h]⟩) λ_ _=>rfl
 refine h.congr (λz=> ?_) λz _=> ?_
 ·simp
 ·simp [zP]
def mC (lane np:Int) (z:aX):Prop:=
 (By 1 z.values.length/\fK lane z.values.length=0)/\(dJ (λ_ v=>cN v) [] z.values/\((By 1 z.waiters.length/\fK np z.waiters.length=0)/\(dJ (λ_ w=>By 1 w.proc/\cN w.value) [] z.waiters/\(By 2 z.taken/\(By 2 z.dropped/\True)))))
theorem XL (lane np:Int):D.jj (oa lane np) fU (mC lane np):=by
 have h:=D.gN (γ:=aX) (d:=λ_ _=>iD) (v:=λ_ _ v=>cN v) (P:=λ_=>True) (W:=λz=>(By 1 z.waiters.length/\fK np z.waiters.length=0)/\(dJ (λ_ w=>By 1 w.proc/\cN w.value) [] z.waiters/\(By 2 z.taken/\(By 2 z.dropped/\True))))
  (E:=λz=>bG z.waiters.length 1++(z.waiters.flatMap zP++(bG z.taken 2++(bG z.dropped 2++ [])))) aX.values (λn a=>a.1.1) (D.dQ (mQ 1) (fK lane)) (λ_ _=>Cx) λn values _=>
  D.gN (γ:=aX) (d:=λ_ _=>tY) (v:=λ_ _ w=>By 1 w.proc/\cN w.value) (P:=λz=>z.values=values/\True) (W:=λz=>By 2 z.taken/\(By 2 z.dropped/\True)) (E:=λz=>bG z.taken 2++(bG z.dropped 2++ [])) aX.waiters (λn a=>a.1.1) (D.dQ (mQ 1) (fK np)) (λ_ _=>Tx) λm waiters _=>
  D.bD (γ:=aX) (W:=λz=>By 2 z.dropped/\True) (E:=λz=>bG z.dropped 2++ []) aX.taken (mQ 2) λtaken _=>
  D.bD (γ:=aX) (W:=λz=>True) (E:=λz=> []) aX.dropped (mQ 2) λdropped _=>
  (D.gx (⟨values,waiters,taken,dropped⟩:aX)).congr (λz=>⟨λh=>by subst h;simp,λh=>by cases z;simp at h;simp [h]⟩) λ_ _=>rfl
 refine h.congr (λz=> ?_) λz _=> ?_
 ·exact ⟨λh=>h.2,λh=>⟨trivial,h⟩⟩
 ·simp [fU]
def less (n:Int):Int:=n-1
def od (np:Int):D (Int×List Int):=D.bind (D.map less (zD 1)) λo=>D.bind (D.cQ (zD 1) (fK np)) λn=>D.bind (D.many (λ_=>zD 1) n.toNat []) λq=>D.ret (o,q)
theorem XM :D.jj (D.map less (zD 1)) (λo=>bG (o+1) 1) (λo=>By 1 (o+1)):=
 D.mh less (mQ 1) (λy=>⟨λh=>⟨y+1,h,by unfold less;omega⟩,by rintro ⟨x,a,rfl⟩;unfold less;omega⟩) λx _=>by unfold less;simp
def nW (np:Int) (z:Int×List Int):Prop:=By 1 (z.1+1)/\((By 1 z.2.length/\fK np z.2.length=0)/\(dJ (λ_ p=>By 1 p) [] z.2/\True))
theorem XN (np:Int):D.jj (od np) iN (nW np):=by
 have h:=D.bD (γ:=Int×List Int) (P:=λ_=>True) (W:=λz=>(By 1 z.2.length/\fK np z.2.length=0)/\(dJ (λ_ p=>By 1 p) [] z.2/\True)) (E:=λz=>bG z.2.length 1++(z.2.flatMap (λp=>bG p 1)++ [])) Prod.fst XM λo _=>
  D.gN (γ:=Int×List Int) (d:=λ_ _=>zD 1) (v:=λ_ _ p=>By 1 p) (P:=λz=>z.1=o/\True) (W:=λ_=>True) (E:=λ_=> []) Prod.snd (λn a=>a.1.1) (D.dQ (mQ 1) (fK np)) (λ_ _=>mQ 1) λn q _=>
  (D.gx ((o,q):Int×List Int)).congr (λz=>⟨λh=>by subst h;simp,λh=>by cases z;simp at h;simp [h]⟩) λ_ _=>rfl
 refine h.congr (λz=>⟨λh=>h.2,λh=>⟨trivial,h⟩⟩) λz _=> ?_;simp [iN]
def ui (ai:Int) (log:List qS) (lost forbidden:Int) (l:List (Int×List Int)):cJ:=⟨ai,log,lost,forbidden,l.map Prod.fst,l.map Prod.snd⟩
def pU (dS ag np:Int):D cJ:=D.bind (zD 1) λai=>D.bind (D.cQ (zD 2) (fK dS)) λn=>D.bind (D.many (λ_=>vj) n.toNat []) λlog=>D.bind (zD 2) λlost=>D.bind (zD 2) λforbidden=>
 D.bind (D.many (λ_=>od np) ag.toNat []) λl=>D.ret (ui ai log lost forbidden l)
def vv (dS ag np:Int) (z:cJ):Prop:=
 By 1 z.ai/\((By 2 z.log.length/\fK dS z.log.length=0)/\(dJ (λ_ e=>cN e.tick/\By 1 e.proc/\cN e.value) [] z.log/\(By 2 z.lost/\(By 2 z.forbidden/\
  ((∃a,z.ax.zip z.au=[]++a/\a.length=ag.toNat/\dJ (λ_=>nW np) [] a)/\z.ax.length=z.au.length)))))
theorem aav (ai:Int) (log:List qS) (lost forbidden:Int) (l:List (Int×List Int)) (z:cJ):
  z=ui ai log lost forbidden l↔(z.ax.zip z.au=l/\(z.forbidden=forbidden/\(z.lost=lost/\(z.log=log/\(z.ai=ai/\True)))))/\z.ax.length=z.au.length:=by
 constructor
 ·rintro rfl;refine ⟨⟨?_,rfl,rfl,rfl,rfl,trivial⟩,by simp [ui]⟩;show (l.map Prod.fst).zip (l.map Prod.snd)=l
  induction l with
  | nil=>rfl
  | cons x r i=>simp [i]
 ·obtain ⟨j,k,m,n,g,h⟩:=z;rintro ⟨⟨a,b,c,d,e,_⟩,f⟩;have a:g.zip h=l:=a;have f:g.length=h.length:=f;simp only at b c d e;subst a b c d e;unfold ui;rw [List.map_fst_zip (by omega),List.map_snd_zip (by omega)]
theorem XO (dS ag np:Int):D.jj (pU dS ag np) jf (vv dS ag np):=by
 have h:=D.bD (γ:=cJ) (P:=λ_=>True) (W:=λz=>(By 2 z.log.length/\fK dS z.log.length=0)/\(dJ (λ_ e=>cN e.tick/\By 1 e.proc/\cN e.value) [] z.log/\(By 2 z.lost/\(By 2 z.forbidden/\
   ((∃a,z.ax.zip z.au=[]++a/\a.length=ag.toNat/\dJ (λ_=>nW np) [] a)/\z.ax.length=z.au.length)))))
   (E:=λz=>bG z.log.length 2++(z.log.flatMap qk++(bG z.lost 2++(bG z.forbidden 2++(((z.ax.zip z.au).drop 0).flatMap iN++ []))))) cJ.ai (mQ 1) λai _=>
  D.gN (γ:=cJ) (d:=λ_ _=>vj) (v:=λ_ _ e=>cN e.tick/\By 1 e.proc/\cN e.value) (P:=λz=>z.ai=ai/\True) (W:=λz=>By 2 z.lost/\(By 2 z.forbidden/\
   ((∃a,z.ax.zip z.au=[]++a/\a.length=ag.toNat/\dJ (λ_=>nW np) [] a)/\z.ax.length=z.au.length)))
   (E:=λz=>bG z.lost 2++(bG z.forbidden 2++(((z.ax.zip z.au).drop 0).flatMap iN++ []))) cJ.log (λn b=>b.1.1) (D.dQ (mQ 2) (fK dS)) (λ_ _=>Vf) λn log _=>
  D.bD (γ:=cJ) (W:=λz=>By 2 z.forbidden/\((∃a,z.ax.zip z.au=[]++a/\a.length=ag.toNat/\dJ (λ_=>nW np) [] a)/\z.ax.length=z.au.length))
   (E:=λz=>bG z.forbidden 2++(((z.ax.zip z.au).drop 0).flatMap iN++ [])) cJ.lost (mQ 2) λlost _=>
  D.bD (γ:=cJ) (W:=λz=>(∃a,z.ax.zip z.au=[]++a/\a.length=ag.toNat/\dJ (λ_=>nW np) [] a)/\z.ax.length=z.au.length)
   (E:=λz=>((z.ax.zip z.au).drop 0).flatMap iN++ []) cJ.forbidden (mQ 2) λforbidden _=>
  D.bD (γ:=cJ) (W:=λz=>z.ax.length=z.au.length) (E:=λ_=> []) (λz=>z.ax.zip z.au) (D.jG (λ_=>XN np) ag.toNat []) λl _=>
  (D.gx (ui ai log lost forbidden l)).congr (λz=>aav ai log lost forbidden l z) λ_ _=>rfl
 refine h.congr (λz=>⟨λh=>h.2,λh=>⟨trivial,h⟩⟩) λz _=> ?_;simp [jf]
def n9 (n:Int):Bool:=decide (n=1)
def sv (n:Int):Int:=if 1<n then 4 else 0
theorem Vh :D.jj (D.map n9 (D.cQ (zD 1) sv)) (λb=>bG (uh b) 1) (λ_=>True):=by
 refine D.mh n9 (D.dQ (mQ 1) sv) (λy=>⟨λ_=> ?_,λ_=>trivial⟩) λx c=> ?_
 ·cases y with
  | true=>exact ⟨1,⟨⟨by decide,by decide⟩,by decide⟩,by decide⟩
  | false=>exact ⟨0,⟨⟨by decide,by decide⟩,by decide⟩,by decide⟩
 ·obtain ⟨⟨d,_⟩,a⟩:=c;unfold sv at a;have:x=0\/x=1:=by omega
  rcases this with rfl | rfl<;>rfl
def uj (nl:Nat) (lane np:Int):D aj:=D.bind (zD 1) λstate=>D.bind (zD 2) λpc=>D.bind (D.many (λ_=>iD) 8 []) λaP=>D.bind (zD 1) λai=>D.bind iD λtimer=>
 D.bind (D.map n9 (D.cQ (zD 1) sv)) λbB=>D.bind iD λbP=>D.bind (D.many (λ_=>oa lane np) (nl+1) []) λak=>D.ret ⟨state,pc,aP,ai,timer,bB,bP,ak⟩
abbrev hZ {b:Type} (V:b->Prop) (n:Nat) (l:List b):Prop:=∃a,l=[]++a/\a.length=n/\dJ (λ_=>V) [] a
def zH (nl:Nat) (lane np:Int) (z:aj):Prop:=
 By 1 z.state/\(By 2 z.pc/\(hZ cN 8 z.aP/\(By 1 z.ai/\(cN z.timer/\(True/\(cN z.bP/\(hZ (mC lane np) (nl+1) z.ak/\True)))))))
theorem Vk (nl:Nat) (lane np:Int):D.jj (uj nl lane np) uw (zH nl lane np):=by
 have h:=D.bD (γ:=aj) (P:=λ_=>True) (W:=λz=>By 2 z.pc/\(hZ cN 8 z.aP/\(By 1 z.ai/\(cN z.timer/\(True/\(cN z.bP/\(hZ (mC lane np) (nl+1) z.ak/\True)))))))
   (E:=λz=>bG z.pc 2++((z.aP.drop 0).flatMap (λv=>bG v 8)++(bG z.ai 1++(bG z.timer 8++(bG (uh z.bB) 1++(bG z.bP 8++((z.ak.drop 0).flatMap fU++ []))))))) aj.state (mQ 1) λstate _=>
  D.bD (γ:=aj) (W:=λz=>hZ cN 8 z.aP/\(By 1 z.ai/\(cN z.timer/\(True/\(cN z.bP/\(hZ (mC lane np) (nl+1) z.ak/\True))))))
   (E:=λz=>(z.aP.drop 0).flatMap (λv=>bG v 8)++(bG z.ai 1++(bG z.timer 8++(bG (uh z.bB) 1++(bG z.bP 8++((z.ak.drop 0).flatMap fU++ [])))))) aj.pc (mQ 2) λpc _=>
  D.bD (γ:=aj) (W:=λz=>By 1 z.ai/\(cN z.timer/\(True/\(cN z.bP/\(hZ (mC lane np) (nl+1) z.ak/\True)))))
   (E:=λz=>bG z.ai 1++(bG z.timer 8++(bG (uh z.bB) 1++(bG z.bP 8++((z.ak.drop 0).flatMap fU++ []))))) aj.aP (D.jG (λ_=>Cx) 8 []) λaP _=>
  D.bD (γ:=aj) (W:=λz=>cN z.timer/\(True/\(cN z.bP/\(hZ (mC lane np) (nl+1) z.ak/\True))))
   (E:=λz=>bG z.timer 8++(bG (uh z.bB) 1++(bG z.bP 8++((z.ak.drop 0).flatMap fU++ [])))) aj.ai (mQ 1) λai _=>
  D.bD (γ:=aj) (W:=λz=>True/\(cN z.bP/\(hZ (mC lane np) (nl+1) z.ak/\True)))
   (E:=λz=>bG (uh z.bB) 1++(bG z.bP 8++((z.ak.drop 0).flatMap fU++ []))) aj.timer Cx λtimer _=>
  D.bD (γ:=aj) (W:=λz=>cN z.bP/\(hZ (mC lane np) (nl+1) z.ak/\True))
   (E:=λz=>bG z.bP 8++((z.ak.drop 0).flatMap fU++ [])) aj.bB Vh λbB _=>
  D.bD (γ:=aj) (W:=λz=>hZ (mC lane np) (nl+1) z.ak/\True) (E:=λz=>(z.ak.drop 0).flatMap fU++ []) aj.bP Cx λbP _=>
  D.bD (γ:=aj) (W:=λ_=>True) (E:=λ_=> []) aj.ak (D.jG (λ_=>XL lane np) (nl+1) []) λak _=>
  (D.gx (⟨state,pc,aP,ai,timer,bB,bP,ak⟩:aj)).congr (λz=>⟨λh=>by subst h;simp,λh=>by cases z;simp at h;simp [h]⟩) λ_ _=>rfl
 refine h.congr (λz=>⟨λh=>h.2,λh=>⟨trivial,h⟩⟩) λz _=> ?_;simp [uw]
end Lf
namespace Lf
open D (dJ)
def zI (s:aR):List UInt8:=bG s.tick 8++(s.parts.flatMap jf++s.procs.flatMap uw)
def zJ (c:aL):D aR:=D.bind iD λtick=>D.bind (D.many (λ_=>pU c.log c.ag c.procs.length) c.labels.length []) λparts=>
 D.bind (D.many (λ_=>uj c.labels.length c.lane c.procs.length) c.procs.length []) λprocs=>D.ret ⟨tick,parts,procs⟩
def lM (c:aL) (z:aR):Prop:=cN z.tick/\(hZ (vv c.log c.ag c.procs.length) c.labels.length z.parts/\(hZ (zH c.labels.length c.lane c.procs.length) c.procs.length z.procs/\True))
theorem Vm (c:aL):D.jj (zJ c) zI (lM c):=by
 have h:=D.bD (γ:=aR) (P:=λ_=>True) (W:=λz=>hZ (vv c.log c.ag c.procs.length) c.labels.length z.parts/\(hZ (zH c.labels.length c.lane c.procs.length) c.procs.length z.procs/\True))
   (E:=λz=>(z.parts.drop 0).flatMap jf++((z.procs.drop 0).flatMap uw++ [])) aR.tick Cx λtick _=>
  D.bD (γ:=aR) (W:=λz=>hZ (zH c.labels.length c.lane c.procs.length) c.procs.length z.procs/\True) (E:=λz=>(z.procs.drop 0).flatMap uw++ []) aR.parts (D.jG (λ_=>XO c.log c.ag c.procs.length) c.labels.length []) λparts _=>
  D.bD (γ:=aR) (W:=λ_=>True) (E:=λ_=> []) aR.procs (D.jG (λ_=>Vk c.labels.length c.lane c.procs.length) c.procs.length []) λprocs _=>
  (D.gx (⟨tick,parts,procs⟩:aR)).congr (λz=>⟨λh=>by subst h;simp,λh=>by cases z;grind⟩) λ_ _=>rfl
 refine h.congr (λz=>⟨λh=>h.2,λh=>⟨trivial,h⟩⟩) λz _=> ?_;simp [zI]
theorem Pc {a:Type} {d:D a} {enc:a->List UInt8} {b:a->Prop} (L:D.jj d enc b) {x:a} (c:b x) (e:(enc x).length<=1048576):oy d (enc x)=.ok x:=by have h:=L.back x c [] [];rw [List.append_nil,List.nil_append] at h;unfold oy;grind
theorem Et {a:Type} {d:D a} {enc:a->List UInt8} {i:a->Prop} (L:D.jj d enc i) {b:List UInt8} {x:a} (h:oy d b=.ok x):i x/\enc x=b/\b.length<=1048576:=by
 unfold oy at h;by_cases k:1048576<b.length
 ·grind
 ·rw [if_neg k] at h;cases g:d b 0 with
  | error e=>grind
  | ok p=>
   obtain ⟨y,c⟩:=p;rw [g] at h;dsimp only at h;by_cases l:c<b.length
   ·grind
   ·rw [if_neg l] at h;cases h;obtain ⟨m,n,t,f⟩:=L.sound b 0 _ c g (Nat.zero_le _);rw [List.drop_zero] at f;have j:=congrArg List.length f;rw [List.length_append] at j;have o:t=[]:=List.length_eq_zero_iff.1 (by omega);grind
def va :D aL:=λb at_=>match D.num 4 b at_ with
 | .error e=>.error e
 | .ok (n,a)=>if b.length<a+n then .error (5,b.length) else match ve ((b.drop a).take n) with
  | .error (e,p)=>.error (e,a+p)
  | .ok c=>.ok (c,a+n)
theorem aaw :D.jj va (λc=>bG (fg c).length 4++fg c) (λc=>nF c/\(fg c).length<=1048576) where
 back:=λc d u t=>by
  obtain ⟨m,o⟩:=d;have j:=(D.kR 4).back (fg c).length (show (fg c).length<4294967296 by omega) u (fg c++t);unfold va;rw [List.append_assoc,j];dsimp only;have f:(bG ((fg c).length:Int) 4).length=4:=eN _ _;rw [if_neg (by simp [f];omega)];have e:((u++(bG ((fg c).length:Int) 4++(fg c++t))).drop (u.length+(bG ((fg c).length:Int) 4).length)).take (fg c).length=fg c:=by rw [<-List.append_assoc,<-List.length_append,List.drop_left,List.take_left]
  rw [e];have k:ve (fg c)=.ok c:=Pc EW m o;grind
 sound:=λb at_ c H h j=>by
  unfold va at h;cases q:D.num 4 b at_ with
  | error e=>grind
  | ok p=>
   obtain ⟨n,a⟩:=p;rw [q] at h;dsimp only at h;obtain ⟨I,y,t,l⟩:=(D.kR 4).sound b at_ n a q j;by_cases d:b.length<a+n
   ·grind
   ·rw [if_neg d] at h;cases k:ve ((b.drop a).take n) with
    | error e=>grind
    | ok x=>
     rw [k] at h;dsimp only at h;cases h;obtain ⟨G,v,w⟩:=Et EW k;have f:((b.drop a).take n).length=n:=by grind
     rw [<-v] at f w;refine ⟨⟨G,w⟩,?_,(b.drop a).drop n,?_⟩
     ·grind
     ·have z:b.drop a=t:=by rw [y,<-List.drop_drop,l,List.drop_left]
      rw [f,l,List.append_assoc];congr 1;rw [v,List.take_append_drop,z]
 cut:=λc d u t r i E=>by
  obtain ⟨m,o⟩:=d;have f:(bG ((fg c).length:Int) 4).length=4:=eN _ _;unfold va;by_cases J:t.length<4
  ·obtain ⟨g,s⟩:∃g,bG ((fg c).length:Int) 4=t++g:=by have hp:t<+:bG ((fg c).length:Int) 4:=List.prefix_of_prefix_length_le ⟨r,i.symm⟩ (List.prefix_append _ _) (by omega);obtain ⟨g,s⟩:=hp;grind
   have C:g≠ []:=λe=>by grind
   rw [(D.kR 4).cut (fg c).length (show (fg c).length<4294967296 by omega) u t g s C]
  ·obtain ⟨t2,rfl⟩:∃t2,t=bG ((fg c).length:Int) 4++t2:=by have hp:bG ((fg c).length:Int) 4<+:t:=List.prefix_of_prefix_length_le (List.prefix_append _ _) ⟨r,i.symm⟩ (by omega);obtain ⟨t2,F⟩:=hp;exact ⟨t2,F.symm⟩
   have B:fg c=t2++r:=by rw [List.append_assoc] at i;exact List.append_cancel_left i
   have A:=congrArg List.length B;rw [List.length_append] at A;have:0<r.length:=List.length_pos_iff.2 E;rw [(D.kR 4).back (fg c).length (show (fg c).length<4294967296 by omega) u t2];grind
def iP :D (aL×aR):=D.bind (jU [70,66,83,78,1]) λ_=>D.bind va λc=>D.bind (zJ c) λs=>D.ret (c,s)
theorem XP (c:aL) (s:aR):iO c s=[70,66,83,78,1]++((bG (fg c).length 4++fg c)++zI s):=by simp [iO,zI]
theorem pL :D.jj iP (λz=>iO z.1 z.2) (λz=>(nF z.1/\(fg z.1).length<=1048576)/\lM z.1 z.2):=by have a:=D.sd (γ:=aL×aR) (d2:=zJ) (e2:=λ_=>zI) Prod.mk id (λ_ _ _ _=>rfl) (λ_=>rfl) aaw λc _=>Vm c;have b:=D.lQ (g:=λ_:aL×aR=>()) (λ_ _ _ _=>rfl) (Ga [70,66,83,78,1]) λ_ _=>a;refine b.congr (λz=>⟨λh=>h.2,λh=>⟨trivial,h⟩⟩) λz _=> ?_;rw [XP];rfl
end Lf
