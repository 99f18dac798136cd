/-
  Part 3 of the texts that the claim leans on.
-/
import Derived.Test.YtgplfmccdkfddaaGreatRows
import Derived.Laws.Externs
import Derived.Shelf.Strings.Search1
import Derived.Shelf.Strings.Search2
import Derived.Shelf.Strings.Search3
import Derived.Shelf.LaysM
import Derived.Test.YtgplfmccdkfddaaGreatProg
import Derived.Test.YtgplfmccdkfddaaGreatMgRnOwners1
set_option maxRecDepth 100000
set_option linter.unusedVariables false
namespace Lf
open Go
abbrev yI(x:Int):Value:=.int .i64 x
abbrev yP(x:Option Addr):Value:=.pointer x
abbrev yN:Value:=.slice none 0 0
abbrev yH:Shape:=af .i64
abbrev di(h:Hp)(p:Addr)(n:Nat)(K:Int->Prop):Prop:=aP none (af .i64) h (Addr.add p n) K
abbrev cT(h:Hp)(p:Addr)(n:Nat)(K:Sl->Prop):Prop:=aP none av h (Addr.add p n) K
abbrev kM(h:Hp)(p:Addr)(n:Nat)(K:Option Addr->Prop):Prop:=aP none ah h (Addr.add p n) K
def Qk (P:Program) (p:Sl) (b:Sl) (ticks:Int) (Q:(Bool->(Hp->Prop))) (h:Hp):Prop:=
 ae P znk [] bB (λr n=>(if (!r)=true then
 Q false n
 else
 fW P xu [p.v] ah yH yH (λf r2 G u=>fW P QS [p.v] aO yH yH (λa A H j=>aJ ((r2 !=A) || (!((Option.isNone f)==(r2 !=(0:Int))))) λy=>(if y then
 Q false j
 else
 (if (Option.isNone f)=true then
 Q true j
 else
 ER  (λo w=>((300:Int)≠(0:Int)/\bD (α1:=Int) (α2:=Int) (λq t i c=>(if (decide (i<(Int.tmod ticks (300:Int))))=true then
 bF (λk=>(if decide ((b.len:Int)>(0:Int)) then
 ((b.len:Int)≠(0:Int)/\((bJ b.base b.len (Int.tmod i (b.len:Int)))/\aP none dJ c (sat b.base 3 (Int.tmod i (b.len:Int))) λx=>(if (x.Kind !=(1:Int))=true then
 ae P Ke [(yP f),x.v] Fz (λe l=>k l) c
 else
 k c)))
 else
 k c))
 (λl=>ae P Ke [(yP f),(.agg #[(yI (1:Int)),(yI (1:Int)),(yI (0:Int))])] Fz (λe m=>aJ ((e.E !=(0:Int)) || (e.gO !=(yw (t+(1:Int))))) λg=>(((!g)=true->(a.Table.len:Int)≠(0:Int))/\(((!g)=true->(bJ a.Table.base a.Table.len (Int.tmod t (a.Table.len:Int))))/\aP (some (!g)) yH m (sat a.Table.base 1 (Int.tmod t (a.Table.len:Int))) λx=>aJ (g || (e.rZ !=x)) λD=>(if D then
 Q false m
 else
 uh (.int .i64) o (yI e.rZ) (yI t) (λz=>aC (α1:=Int) (λs k d=>aJ ((decide (k<(a.Table.len:Int)))&&(decide ((yw (t+(1:Int)))>=(a.Table.len:Int)))) λF=>(if F then
 ((bJ a.Table.base a.Table.len k)/\aP none yH d (sat a.Table.base 1 k) λB=>kR none (.int .i64) yH (yI (0:Int)) o (yI B) d λC ok=>(if (decide ((yw ((yw ((yw (t+(1:Int)))-(1:Int)))-C))>=(a.Table.len:Int)))=true then
 Q false d
 else
 s (yw (k+(1:Int))) d))
 else
 q (yw (t+(1:Int))) (yw (i+(1:Int))) d)) (0:Int) z) m)))) l)
 else
 Q true c)) (0:Int) (0:Int) w)) j))) u) n)) h
def R2 (P:Program)  (Q:(Bool->(Hp->Prop))) (h:Hp):Prop:=
 bh P QA [] av bB (λr i e=>fW P xu [r.v] ah yH yH (λr2 j k d=>aJ ((!i) || (Option.isNone r2)) λy=>aJ (y || (j !=0)) λp=>aJ (p || (k !=0)) λq=>(if q then
 Q false d
 else
 ae P Ke [(yP r2),(.agg #[(yI 1),(yI 2),(yI 0)])] Fz (λl f=>ae P Ke [(yP r2),(.agg #[(yI 3),(yI 9),(yI 0)])] Fz (λm g=>ae P Hr [(yP r2)] A9 (λa b=>iC none P (cX .eql 43 (.tmp 41) (.tmp 42) l.v (.agg #[(yI 0),(yI 2),(yI 0)])) bB b λx=>iC (some x) P (cX .eql 43 (.tmp 45) (.tmp 46) m.v (.agg #[(yI 17),(yI 2),(yI 0)])) bB b λn=>aJ (x&&n) λs=>aJ (s&&(a.gO==2)) λt=>aJ (t&&((a.aQ.len:Int)==2)) λc=>((c=true->(bJ a.aQ.base a.aQ.len 1))/\aP (some c) yH b (Addr.add (sat a.aQ.base 15 1) 0) λo=>aJ (c&&(o==5)) λu=>Q u b)) g) f) d)) e) h
def Df (P:Program) (i:Sl) (Q:(Option Addr->(Int->(Int->(Hp->Prop))))) (h:Hp):Prop:=
 fW P zwk [i.v] aO yH yH (λr d r2 b=>(if (d !=0)=true then
 Q none d r2 b
 else
 bh P zwl [r.v] ah yH (λg e c=>(if (e !=0)=true then
 Q none e 0 c
 else
 bc [(yP g),(yI 0),(yI (-1))] (λa f=>Q (some a) 0 0 f) c)) b)) h
def Rb (P:Program) (b:Sl) (Q:(al->(Int->(Int->(Hp->Prop))))) (h:Hp):Prop:=
 (if decide ((b.len:Int)>1048576) then
 Q ⟨⟨none,0,0⟩,⟨none,0,0⟩,0,0,0,0,⟨none,0,0⟩⟩ 22 1048576 h
 else
 bc [b.v,(yI 0),(yI 0),(yI 0)] (λa j=>ae P zfx [(yP (some a))] aO (λr d=>bF (λk=>ai none (some a) λp=>di d p 2 λx=>ai (some (x==0)) (some a) λe=>aP (some (x==0)) yH d (Addr.add e 1) λg=>aJ ((x==0)&&(decide (g<(b.len:Int)))) λy=>(if y then
 ai none (some a) λf=>di d f 1 λi=>aY P tv [(yP (some a)),(yI 6),(yI i)] (λc=>k c) d
 else
 k d))
 (λc=>ai none (some a) λp=>di c p 2 λx=>(if (x !=0)=true then
 ai none (some a) λe=>di c e 2 λg=>ai none (some a) λf=>di c f 3 λi=>(((aV c (Addr.add e 2) [(yI g)])/\((aV c (Addr.add f 3) [(yI i)])/\True))/\Q ⟨⟨none,0,0⟩,⟨none,0,0⟩,0,0,0,0,⟨none,0,0⟩⟩ g i c)
 else
 Q r 0 0 c))) j) h)
def Kg (P:Program) (r:Option Addr) (s:cI) (Q:(eC->(Hp->Prop))) (h:Hp):Prop:=
 cY (α1:=Int) (λk=>ae P La [] fN (λd a=>((True/\True)/\kR none (.int .i64) jh .nilFunc d (yI s.Kind) a λx ok=>(if ok then
 fX P tb x.v [(yP r),s.v] yH (λr2 b=>k r2 b) a
 else
 k 1 a))) h)
 (λe a=>ai none r λp=>di a p 1 λx=>ai none r λc=>di a c 2 λf=>Q ⟨e,x,f⟩ a)
def QF (P:Program)  (Q:(Sl->(Bool->(Hp->Prop)))) (h:Hp):Prop:=
 bc [(.int .u64 0),(.int .u64 1)] (λa b=>bc [(yI 1),(yI 0),(yI 1)] (λa1 c=>bc [(yI 22),(yI 0),(yI 0),(yI 0),(yI 0)] (λa2 d=>bc [(yI 0),(.slice (some a2) 1 1),(yI 1),yN] (λa3 e=>bh P QU [(.agg #[(.slice (some a) 2 2),(.slice (some a1) 3 3),(yI 2),(yI 1),(yI 0),(yI 4),(.slice (some a3) 2 2)])] av yH (λr g f=>Q ⟨r.base,r.len,r.cap⟩ (g==0) f) e) d) c) b) h
def HA (P:Program) (r:Option Addr) (Q:(aZ->(Hp->Prop))) (h:Hp):Prop:=
 ai none r λp=>kM h p 0 λx=>ae P zmi [(yP x)] A9 (λb a=>Q b a) h
def zwr (P:Program) (b:Sl) (Q:(al->(Int->(Int->(Hp->Prop))))) (h:Hp):Prop:=
 bc [yN,yN,(yI 0),(yI 0),(yI 0),(yI 0),yN] (λa q=>bc [b.v,(yI 0),(yI 0),(yI 0)] (λa1 j=>cY (α1:=al) (λk=>(if decide ((b.len:Int)>1048576) then
 aY P xn [(yP (some a1)),(yI 22),(yI 1048576)] (λe=>k ⟨⟨none,0,0⟩,⟨none,0,0⟩,0,0,0,0,⟨none,0,0⟩⟩ e) j
 else
 aY P Tq [(yP (some a1))] (λe=>ae P uf [(yP (some a1))] bB (λr c=>(if r then
 k ⟨⟨none,0,0⟩,⟨none,0,0⟩,0,0,0,0,⟨none,0,0⟩⟩ c
 else
 aY P Ts [(yP (some a1)),(yP (some a))] (λE=>ae P uf [(yP (some a1))] bB (λH l=>(if H then
 k ⟨⟨none,0,0⟩,⟨none,0,0⟩,0,0,0,0,⟨none,0,0⟩⟩ l
 else
 aY P Ux [(yP (some a1)),(yP (some a))] (λF=>ae P uf [(yP (some a1))] bB (λr2 m=>(if r2 then
 k ⟨⟨none,0,0⟩,⟨none,0,0⟩,0,0,0,0,⟨none,0,0⟩⟩ m
 else
 ae P Fv [(yP (some a1)),(yI 2),(yI 2)] yH (λI G=>bW G (Addr.add a 2) [(yI I)] (λs=>ae P Fv [(yP (some a1)),(yI 3),(yI 1)] yH (λJ t=>bW t (Addr.add a 3) [(yI J)] (λu=>ae P Fv [(yP (some a1)),(yI 4),(yI 1)] yH (λK w=>bW w (Addr.add a 4) [(yI K)] (λz=>ae P Fv [(yP (some a1)),(yI 5),(yI 2)] yH (λL A=>bW A (Addr.add a 5) [(yI L)] (λB=>ae P MN [(yP (some a1)),(yI 32)] yH (λM C=>aC (α1:=Int) (λo n D=>dy (some (decide (n>0))) (ae P uf [(yP (some a1))] bB) (λN d=>aJ ((decide (n>0))&&(!N)) λy=>(if y then
 aY P U7 [(yP (some a1)),(yP (some a))] (λi=>o (yw (n-1)) i) d
 else
 ai none (some a1) λp=>di d p 1 λx=>(if decide (x<(b.len:Int)) then
 ai none (some a1) λf=>di d f 1 λg=>aY P xn [(yP (some a1)),(yI 6),(yI g)] (λi=>k ⟨⟨none,0,0⟩,⟨none,0,0⟩,0,0,0,0,⟨none,0,0⟩⟩ i) d
 else
 k ⟨⟨none,0,0⟩,⟨none,0,0⟩,0,0,0,0,⟨none,0,0⟩⟩ d))) D) M C) B)) z)) u)) s)) m)) F) l)) E) c)) e) j))
 (λt2 e=>ae P uf [(yP (some a1))] bB (λr c=>(if r then
 ai none (some a1) λp=>di c p 2 λx=>ai none (some a1) λf=>di c f 3 λg=>(((aV c (Addr.add p 2) [(yI x)])/\((aV c (Addr.add f 3) [(yI g)])/\True))/\Q ⟨⟨none,0,0⟩,⟨none,0,0⟩,0,0,0,0,⟨none,0,0⟩⟩ x g c)
 else
 aP none aO c a λx=>Q x 0 0 c)) e)) q) h
def zws (P:Program) (c:al) (Q:(Option Addr->(Int->(Hp->Prop)))) (h:Hp):Prop:=
 bh P Da [c.v] yH yH (λr f a=>(if (r !=0)=true then
 Q none r a
 else
 ae P Hs [c.v] A9 (λr2 b=>((True/\True)/\ae P HO [c.v,r2.v] ah (λe d=>Q e 0 d) b)) a)) h
def PK (P:Program) (r:Option Addr) (Q:(al->(Hp->Prop))) (h:Hp):Prop:=
 aY P P8 [(yP r),(.string ⟨#[70,66,67,70,1]⟩)] (λJ=>ae P vo [(yP r),(yI 1),(yI 1),(yI 8),(yI 1),(yI 3)] yH (λo S=>bD (α1:=Int) (α2:=al) (λG i c u=>ai (some (decide (i<o))) r λp=>aP (some (decide (i<o))) yH u (Addr.add p 2) λx=>aJ ((decide (i<o))&&(x==0)) λy=>(if y then
 ai none r λC=>di u C 1 λA=>ae P Mx [(yP r),(yI 8)] (af .u64) (λr2 j=>bF (λk=>ai none r λn=>di j n 2 λs=>aJ ((s==0)&&(decide (i>0))) λf=>((f=true->(bJ c.aE.base c.aE.len (yw (i-1))))/\aP (some f) (af .u64) j (sat c.aE.base 1 (yw (i-1))) λF=>aJ (f&&(r2==F)) λt=>(if t then
 aY P tv [(yP r),(yI 8),(yI A)] (λe=>k e) j
 else
 k j)))
 (λe=>bF (λk=>ai none r λn=>di e n 2 λs=>aJ ((s==0)&&(decide (i>0))) λf=>((f=true->(bJ c.aE.base c.aE.len (yw (i-1))))/\aP (some f) (af .u64) e (sat c.aE.base 1 (yw (i-1))) λF=>aJ (f&&(decide (r2<F))) λt=>(if t then
 aY P tv [(yP r),(yI 7),(yI A)] (λg=>k g) e
 else
 k e)))
 (λg=>bc [(.int .u64 r2)] (λa l=>eS 1 8 [(.int .u64 0)] ⟨c.aE.base,c.aE.len,c.aE.cap⟩ ⟨(some a),1,1⟩ (λq m=>G (yw (i+1)) ⟨q,c.Table,c.Fuel,c.gz,c.bG,c.Log,c.aQ⟩ m) l) g))) u
 else
 ae P vo [(yP r),(yI 1),(yI 1),(yI 64),(yI 1),(yI 3)] yH (λr2 j=>bD (α1:=Int) (α2:=al) (λH w b e=>ai (some (decide (w<r2))) r λC=>aP (some (decide (w<r2))) yH e (Addr.add C 2) λA=>aJ ((decide (w<r2))&&(A==0)) λf=>(if f then
 ae P vo [(yP r),(yI 1),(yI 0),(yI (yw (o-1))),(yI 2),(yI 2)] yH (λq g=>((True/\True)/\bc [(yI q)] (λa l=>((True/\True)/\eS 1 8 [(yI 0)] ⟨b.Table.base,b.Table.len,b.Table.cap⟩ ⟨(some a),1,1⟩ (λD m=>H (yw (w+1)) ⟨b.aE,D,b.Fuel,b.gz,b.bG,b.Log,b.aQ⟩ m) l)) g)) e
 else
 ae P vo [(yP r),(yI 2),(yI 1),(yI 256),(yI 2),(yI 2)] yH (λq g=>ae P vo [(yP r),(yI 1),(yI 1),(yI 64),(yI 2),(yI 2)] yH (λD l=>ae P vo [(yP r),(yI 1),(yI 0),(yI 8),(yI 2),(yI 2)] yH (λW m=>ae P vo [(yP r),(yI 2),(yI 0),(yI 4096),(yI 2),(yI 2)] yH (λX T=>ae P vo [(yP r),(yI 1),(yI 1),(yI 32),(yI 1),(yI 3)] yH (λE K=>bD (α1:=Int) (α2:=al) (λI z d B=>ai (some (decide (z<E))) r λn=>aP (some (decide (z<E))) yH B (Addr.add n 2) λs=>aJ ((decide (z<E))&&(s==0)) λt=>(if t then
 ae P vo [(yP r),(yI 1),(yI 0),(yI (yw (o-1))),(yI 2),(yI 2)] yH (λY L=>ae P vo [(yP r),(yI 2),(yI 0),(yI 256),(yI 3),(yI 3)] yH (λZ M=>ae P zif [(yP r),(yI Z),(yI d.bG)] av (λU N=>((True/\True)/\bc [(yI Y),U.v] (λa O=>((True/\True)/\eS 2 32 [(yI 0),yN] ⟨d.aQ.base,d.aQ.len,d.aQ.cap⟩ ⟨(some a),1,1⟩ (λV R=>I (yw (z+1)) ⟨d.aE,d.Table,d.Fuel,d.gz,d.bG,d.Log,V⟩ R) O)) N)) M) L) B
 else
 Q d B)) 0 ⟨b.aE,b.Table,q,D,W,X,b.aQ⟩ K) T) m) l) g) e)) 0 c j) u)) 0 ⟨⟨none,0,0⟩,⟨none,0,0⟩,0,0,0,0,⟨none,0,0⟩⟩ S) J) h
def My (P:Program) (r:Option Addr) (e:Int) (at_:Int) (Q:(Hp->Prop)) (h:Hp):Prop:=
 ai none r λp=>di h p 2 λx=>(if (x==0)=true then
 ai none r λc=>bW h (Addr.add c 2) [(yI e)] (λa=>ai none r λd=>bW a (Addr.add d 3) [(yI at_)] (λb=>Q b))
 else
 Q h)
def Dg (P:Program)  (Q:(Option Nat->(Hp->Prop))) (h:Hp):Prop:=
 ER  (λr a=>uh (.int .i64) r (yI 1) (.func (.func 51) #[] #[]) (λb=>uh (.int .i64) r (yI 2) (.func (.func 52) #[] #[]) (λc=>uh (.int .i64) r (yI 3) (.func (.func 53) #[] #[]) (λd=>Q r d) c) b) a) h
def MF (P:Program) (m:Option Addr) (Q:(aZ->(Hp->Prop))) (h:Hp):Prop:=
 ai none m λp=>di h p 9 λx=>ai none m λU=>cT h U 10 λC=>bD (α1:=Int) (α2:=aZ) (λO B s n=>(if decide (B<(C.len:Int)) then
 ((bJ C.base C.len B)/\aP none ah n (sat C.base 1 B) λd=>ai none d λF=>kM n F 5 λe=>bh P MP [(yP e)] av av (λr G b=>ai none d λz=>di b z 1 λE=>ai none d λA=>cT b A 2 λj=>ai none d λt=>di b t 3 λk=>ai none d λu=>di b u 4 λw=>ae P Hy [j.v] av (λr2 c=>((True/\((aV c (Addr.add z 1) [(yI E)])/\((aV c (Addr.add t 3) [(yI k)])/\((aV c (Addr.add u 4) [(yI w)])/\True))))/\bc [(yI E),r2.v,(yI k),(yI w),r.v,G.v] (λa g=>((True/\True)/\eS 6 96 [(yI 0),yN,(yI 0),(yI 0),yN,yN] ⟨s.eo.base,s.eo.len,s.eo.cap⟩ ⟨(some a),1,1⟩ (λH i=>O (yw (B+1)) ⟨s.gO,H,s.aQ⟩ i) g)) c)) b) n)
 else
 ai none m λF=>cT n F 11 λd=>bD (α1:=Int) (α2:=aZ) (λR l s1 b=>(if decide (l<(d.len:Int)) then
 ((bJ d.base d.len l)/\aP none ah b (sat d.base 1 l) λe=>ai none e λz=>kM b z 14 λE=>bh P MX [(yP E)] av yH (λr G c=>ai none m λA=>cT c A 10 λj=>ai none e λt=>di c t 1 λk=>((bJ j.base j.len k)/\aP none ah c (sat j.base 1 k) λw=>ai none w λu=>kM c u 6 λN=>ae P wz [(yI l)] yH (λr2 g=>(((aV g (Addr.add A 10) [j.v])/\((aV g (Addr.add t 1) [(yI k)])/\((aV g (sat j.base 1 k) [(yP w)])/\((aV g (Addr.add u 6) [(yP N)])/\True))))/\bh P Fw [(yP N),(yI r2)] yH bB (λH r4 i=>ai none m λI=>cT i I 10 λy=>ai none e λJ=>di i J 1 λD=>((bJ y.base y.len D)/\aP none ah i (sat y.base 1 D) λL=>ai none L λK=>kM i K 6 λM=>ae P xA [(yI l)] yH (λZ o=>(((aV o (Addr.add I 10) [y.v])/\((aV o (Addr.add J 1) [(yI D)])/\((aV o (sat y.base 1 D) [(yP L)])/\((aV o (Addr.add K 6) [(yP M)])/\True))))/\bh P Fw [(yP M),(yI Z)] yH bB (λr6 r7 q=>ai none e λV=>di q V 3 λa8=>ai none e λW=>aP none yH q (Addr.add (Addr.add W 4) 0) λa9=>ai none e λX=>aP none wA q (Addr.add (Addr.add X 4) 1) λf=>ai none e λY=>aP none bB q (Addr.add Y 13) λb0=>bc [(yI a8),(yI a9),(yI f.a0),(yI f.a1),(yI f.a2),(yI f.a3),(yI f.a4),(yI f.a5),(yI f.a6),(yI f.a7),(yI G),(yI H),(.bool b0),(yI r6),r.v] (λa S=>((True/\True)/\eS 15 136 [(yI 0),(yI 0),(yI 0),(yI 0),(yI 0),(yI 0),(yI 0),(yI 0),(yI 0),(yI 0),(yI 0),(yI 0),(.bool false),(yI 0),yN] ⟨s1.aQ.base,s1.aQ.len,s1.aQ.cap⟩ ⟨(some a),1,1⟩ (λr8 T=>R (yw (l+1)) ⟨s1.gO,s1.eo,r8⟩ T) S)) q) o)) i)) g)) c)) b)
 else
 Q s1 b)) 0 s n)) 0 ⟨x,⟨none,0,0⟩,⟨none,0,0⟩⟩ h
def Rc (P:Program) (c:al) (Q:(Sl->(Int->(Hp->Prop)))) (h:Hp):Prop:=
 bh P Tu [c.v] yH yH (λr U u=>(if (r !=0)=true then
 Q ⟨none,0,0⟩ r u
 else
 bc [(.int .u8 70),(.int .u8 66),(.int .u8 67),(.int .u8 70),(.int .u8 1),(.int .u8 (IntKind.wrap .u8 (c.aE.len:Int)))] (λa I=>bD (α1:=Sl) (α2:=Int) (λw b i n=>(if decide (i<(c.aE.len:Int)) then
 ((bJ c.aE.base c.aE.len i)/\aP none (af .u64) n (sat c.aE.base 1 i) λx=>ae P HE [b.v,(.int .u64 x),(yI 8)] av (λr2 o=>w r2 (yw (i+1)) o) n)
 else
 bc [(.int .u8 (IntKind.wrap .u8 (c.Table.len:Int)))] (λa1 o=>eS 1 1 [(.int .u8 0)] ⟨b.base,b.len,b.cap⟩ ⟨(some a1),1,1⟩ (λr2 J=>bD (α1:=Sl) (α2:=Int) (λy e g p=>(if decide (g<(c.Table.len:Int)) then
 ((bJ c.Table.base c.Table.len g)/\aP none yH p (sat c.Table.base 1 g) λx=>bc [(.int .u8 (IntKind.wrap .u8 x))] (λa2 q=>eS 1 1 [(.int .u8 0)] ⟨e.base,e.len,e.cap⟩ ⟨(some a2),1,1⟩ (λt s=>y t (yw (g+1)) s) q) p)
 else
 ae P HE [e.v,(.int .u64 (IntKind.wrap .u64 c.Fuel)),(yI 2)] av (λt q=>bc [(.int .u8 (IntKind.wrap .u8 c.gz)),(.int .u8 (IntKind.wrap .u8 c.bG))] (λa2 s=>eS 1 1 [(.int .u8 0)] t ⟨(some a2),2,2⟩ (λL K=>ae P HE [L.v,(.int .u64 (IntKind.wrap .u64 c.Log)),(yI 2)] av (λM B=>bc [(.int .u8 (IntKind.wrap .u8 (c.aQ.len:Int)))] (λa3 C=>eS 1 1 [(.int .u8 0)] M ⟨(some a3),1,1⟩ (λN D=>bD (α1:=Sl) (α2:=Int) (λz d j l=>(if decide (j<(c.aQ.len:Int)) then
 ((bJ c.aQ.base c.aQ.len j)/\aP none bC l (sat c.aQ.base 2 j) λx=>bc [(.int .u8 (IntKind.wrap .u8 x.Part))] (λa4 E=>eS 1 1 [(.int .u8 0)] ⟨d.base,d.len,d.cap⟩ ⟨(some a4),1,1⟩ (λO F=>ae P HE [O.v,(.int .u64 (IntKind.wrap .u64 (x.Code.len:Int))),(yI 2)] av (λR G=>bD (α1:=Sl) (α2:=Int) (λA f k m=>(if decide (k<(x.Code.len:Int)) then
 ((bJ x.Code.base x.Code.len k)/\aP none aM m (sat x.Code.base 5 k) λT=>ae P zqa [f.v,T.v] av (λS H=>A S (yw (k+1)) H) m)
 else
 z ⟨f.base,f.len,f.cap⟩ (yw (j+1)) m)) R 0 G) F) E) l)
 else
 Q ⟨d.base,d.len,d.cap⟩ 0 l)) N 0 D) C) B) K) s) q) p)) r2 0 J) o) n)) ⟨(some a),6,6⟩ 0 I) u)) h
def Vn (P:Program) (r:Option Addr) (e:Int) (place:Int) (Q:(Hp->Prop)) (h:Hp):Prop:=
 dy (some (e !=0)) (ae P uf [(yP r)] bB) (λf a=>aJ ((e !=0)&&(!f)) λy=>(if y then
 ai none r λp=>bW a (Addr.add p 2) [(yI e)] (λb=>ai none r λd=>bW b (Addr.add d 3) [(yI place)] (λc=>Q c))
 else
 Q a)) h
def TE (P:Program) (r:Option Addr) (Q:(Hp->Prop)) (h:Hp):Prop:=
 aC (α1:=Int) (λd b c=>(if decide (b<5) then
 bc [(yI 0)] (λa e=>bW e a [(yI b)] (λf=>ae P wv [(yP r),(yI 1),(.func (.func 79) #[] #[(yP (some a))])] (af .u64) (λi g=>d (yw (b+1)) g) f)) c
 else
 Q c)) 0 h
def MZ (P:Program) (r:Option Addr) (Q:(Bool->(Hp->Prop))) (h:Hp):Prop:=
 ai none r λp=>di h p 2 λx=>Q (x !=0) h
def TG (P:Program) (r:Option Addr) (c:Option Addr) (Q:(Hp->Prop)) (h:Hp):Prop:=
 bc [(yP c)] (λa k=>ae P MN [(yP r),(yI 8)] yH (λs l=>aC (α1:=Int) (λj n m=>dy (some (decide (n>0))) (ae P uf [(yP r)] bB) (λr2 e=>aJ ((decide (n>0))&&(!r2)) λy=>(if y then
 ae P wv [(yP r),(yI 8),(.func (.func 80) #[] #[(yP (some a))])] (af .u64) (λt b=>aP none ah b a λx=>aP none ah b a λg=>ai none g λp=>cT b p 0 λi=>bc [(.int .u64 t)] (λa1 d=>(((aV d a [(yP x)])/\((aV d a [(yP g)])/\((aV d (Addr.add p 0) [i.v])/\True)))/\eS 1 8 [(.int .u64 0)] i ⟨(some a1),1,1⟩ (λu f=>(((aV f a [(yP x)])/\True)/\ai none x λq=>bW f (Addr.add q 0) [u.v] (λo=>j (yw (n-1)) o))) d)) b) e
 else
 Q e)) m) s l) k) h
def UD (P:Program) (r:Option Addr) (c:Option Addr) (Q:(Hp->Prop)) (h:Hp):Prop:=
 ae P MN [(yP r),(yI 64)] yH (λm g=>aC (α1:=Int) (λf n i=>dy (some (decide (n>0))) (ae P uf [(yP r)] bB) (λr2 b=>aJ ((decide (n>0))&&(!r2)) λy=>(if y then
 ai none c λp=>cT b p 1 λx=>ae P QX [(yP r),(yP c)] yH (λo d=>(((aV d (Addr.add p 1) [x.v])/\True)/\bc [(yI o)] (λa e=>(((aV e (Addr.add p 1) [x.v])/\True)/\eS 1 8 [(yI 0)] x ⟨(some a),1,1⟩ (λq j=>ai none c λl=>bW j (Addr.add l 1) [q.v] (λk=>f (yw (n-1)) k)) e)) d)) b
 else
 Q b)) i) m g) h
def TJ (P:Program) (r:Option Addr) (part:Int) (bytes:Int) (Q:(Int->(Hp->Prop))) (h:Hp):Prop:=
 bc [(yI part)] (λa b=>ae P Iw [(yP r),(yI bytes),(.func (.func 83) #[] #[(yP (some a))])] yH (λd c=>Q d c) b) h
def SO (P:Program) (r:Option Addr) (dR:Int) (Q:(Int->(Hp->Prop))) (h:Hp):Prop:=
 bc [(yI dR)] (λa b=>ae P Iw [(yP r),(yI 1),(.func (.func 85) #[] #[(yP (some a))])] yH (λd c=>Q d c) b) h
def Vq (P:Program) (r:Option Addr) (c:Option Addr) (Q:(Hp->Prop)) (h:Hp):Prop:=
 ae P QX [(yP r),(yP c)] yH (λq l=>ae P Iw [(yP r),(yI 2),(.func (.func 87) #[] #[])] yH (λr2 m=>bD (α1:=Int) (α2:=bK) (λk i p n=>dy (some (decide (i<r2))) (ae P uf [(yP r)] bB) (λs d=>aJ ((decide (i<r2))&&(!s)) λy=>(if y then
 ai none c λf=>di d f 4 λx=>ae P zva [(yP r),(yI r2),(yI x)] aM (λb e=>((True/\True)/\bc [(yI b.Op),(yI b.A),(yI b.B),(yI b.C),(yI b.jm)] (λa g=>((True/\True)/\eS 5 40 [(yI 0),(yI 0),(yI 0),(yI 0),(yI 0)] ⟨p.Code.base,p.Code.len,p.Code.cap⟩ ⟨(some a),1,1⟩ (λt j=>k (yw (i+1)) ⟨p.Part,t⟩ j) g)) e)) d
 else
 ai none c λf=>cT d f 6 λx=>bc [(yI p.Part),p.Code.v] (λa e=>(((aV e (Addr.add f 6) [x.v])/\True)/\eS 2 32 [(yI 0),yN] x ⟨(some a),1,1⟩ (λb g=>ai none c λo=>bW g (Addr.add o 6) [b.v] (λj=>Q j)) e)) d)) n) 0 ⟨q,⟨none,0,0⟩⟩ m) l) h
def Dh (P:Program) (c:al) (Q:(Int->(Int->(Hp->Prop)))) (h:Hp):Prop:=
 bh P Nx [c.aE.v] yH yH (λr w j=>(if (r !=0)=true then
 Q r 0 j
 else
 ae P Nw [(yI (c.Table.len:Int)),(yI 64)] yH (λr2 k=>(if (r2 !=0)=true then
 Q r2 1 k
 else
 fW P Ny [c.Table.v,(yI (c.aE.len:Int))] ah yH yH (λy o z l=>(if (o !=0)=true then
 Q o 1 l
 else
 bc [(yI 0),(yI 0),(yI c.Fuel),(yI c.gz),(yI c.bG),(yI c.Log)] (λa t=>aC (α1:=Int) (λq b g=>(if decide (b<6) then
 ((bJ (some a) 6 b)/\aP none yH g (sat (some a) 1 b) λx=>ae P zwm [(yI b),(yI x)] yH (λf e=>(if (f !=0)=true then
 Q f b e
 else
 q (yw (b+1)) e)) g)
 else
 ae P Nw [(yI (c.aQ.len:Int)),(yI 32)] yH (λf e=>(if (f !=0)=true then
 Q f 6 e
 else
 aC (α1:=Int) (λs d i=>(if decide (d<(c.aQ.len:Int)) then
 ((bJ c.aQ.base c.aQ.len d)/\aP none bC i (sat c.aQ.base 2 d) λx=>ae P FA [(yI x.Part),(yI 0),(yI (yw ((c.aE.len:Int)-1)))] bB (λu m=>(if (!u)=true then
 Q 2 (yw (7+d)) m
 else
 bh P Db [x.Code.v,(yI c.bG)] yH yH (λp A n=>(if (p !=0)=true then
 Q p (yw (7+d)) n
 else
 s (yw (d+1)) n)) m)) i)
 else
 Q 0 0 i)) 0 e)) g)) 0 t) l)) k)) j)) h
def ZH (P:Program) (c:al) (s:aZ) (Q:(Option Addr->(Hp->Prop))) (h:Hp):Prop:=
 ae P zyw [c.v] aO (λr M=>((True/\True)/\bc [r.aE.v,r.Table.v,(yI r.Fuel),(yI r.gz),(yI r.bG),(yI r.Log),r.aQ.v,(yP none),(yP none),(yI s.gO),yN,yN] (λa R=>fW P CR [c.aE.v] ah yH yH (λr1 r2 r3 S=>ai none (some a) λp=>bW S (Addr.add p 7) [(yP r1)] (λT=>fW P Ny [c.Table.v,(yI (c.aE.len:Int))] ah yH yH (λr4 r5 r6 U=>ai none (some a) λW=>bW U (Addr.add W 8) [(yP r4)] (λV=>aC (α1:=Int) (λK y D=>(if decide (y<(s.eo.len:Int)) then
 ((bJ s.eo.base s.eo.len y)/\aP none dI D (sat s.eo.base 6 y) λx=>bh P Nz [x.eA.v,x.gl.v] ah yH (λF r8 e=>ai none (some a) λg=>cT e g 10 λd=>ae P Hy [x.Log.v] av (λG f=>(((aV f (Addr.add g 10) [d.v])/\(True/\(True/\(True/\True))))/\ae P CS [] ah (λE l=>(((aV l (Addr.add g 10) [d.v])/\(True/\(True/\(True/\True))))/\bc [yN,(yI x.Cursor),G.v,(yI x.pP),(yI x.fE),(yP F),(yP E)] (λa1 m=>(((aV m (Addr.add g 10) [d.v])/\True)/\bc [(yP (some a1))] (λa2 u=>(((aV u (Addr.add g 10) [d.v])/\True)/\eS 1 8 [(yP none)] d ⟨(some a2),1,1⟩ (λq i=>ai none (some a) λn=>bW i (Addr.add n 10) [q.v] (λB=>K (yw (y+1)) B)) u)) m)) l)) f)) e) D)
 else
 aC (α1:=Int) (λL b e=>(if decide (b<(s.aQ.len:Int)) then
 bF (λk=>((bJ s.aQ.base s.aQ.len b)/\aP none cO e (sat s.aQ.base 15 b) λx=>ai none (some a) λg=>aP none av e (Addr.add (Addr.add g 0) 6) λd=>((bJ d.base d.len b)/\aP none bC e (sat d.base 2 b) λz=>bh P xv [(yI c.gz),x.jH.v,(yI x.Cursor)] ah yH (λF r8 f=>ai none (some a) λn=>cT f n 11 λH=>bc [(yI b),(yI z.Part),z.Code.v,(yI x.State),(yI x.PC),(yI x.cv),(yI x.cw),(yI x.cx),(yI x.cC),(yI x.cD),(yI x.cE),(yI x.cF),(yI x.cG),(.bool x.kP),(yP F)] (λa1 l=>(((aV l (Addr.add n 11) [H.v])/\True)/\bc [(yP (some a1))] (λa2 m=>(((aV m (Addr.add n 11) [H.v])/\True)/\eS 1 8 [(yP none)] H ⟨(some a2),1,1⟩ (λG u=>ai none (some a) λX=>bW u (Addr.add X 11) [G.v] (λi=>ai none (some a) λY=>cT i Y 10 λI=>((bJ I.base I.len z.Part)/\aP none ah i (sat I.base 1 z.Part) λA=>ai none A λZ=>cT i Z 0 λx6=>bc [(yI b)] (λa3 B=>eS 1 8 [(yI 0)] x6 ⟨(some a3),1,1⟩ (λE N=>ai none A λp7=>bW N (Addr.add p7 0) [E.v] (λC=>bF (λJ=>(if decide (x.Timer>0) then
 ai none A λo=>kM C o 6 λt=>ae P wz [(yI b)] yH (λq j=>(((aV j (Addr.add o 6) [(yP t)])/\(True/\True))/\ae P wx [(yP t),(yI q),(yI x.Timer)] yH (λa8 w=>J w) j)) C
 else
 J C))
 (λj=>(if decide (x.pT>0) then
 ai none A λo=>kM j o 6 λt=>ae P xA [(yI b)] yH (λq w=>(((aV w (Addr.add o 6) [(yP t)])/\(True/\True))/\ae P wx [(yP t),(yI q),(yI x.pT)] yH (λa8 O=>k O) w)) j
 else
 k j)))) B) i))) m)) l)) f) e)))
 (λf=>L (yw (b+1)) f)
 else
 Q (some a) e)) 0 D)) 0 V)) T)) R) M)) h
def Ys (P:Program) (c:al) (Q:(aZ->(Hp->Prop))) (h:Hp):Prop:=
 (dA 96 [(yI 0),yN,(yI 0),(yI 0),yN,yN] (c.aE.len:Int) (c.aE.len:Int) (λr q=>((True/\True)/\dA 136 [(yI 0),(yI 0),(yI 0),(yI 0),(yI 0),(yI 0),(yI 0),(yI 0),(yI 0),(yI 0),(yI 0),(yI 0),(.bool false),(yI 0),yN] (c.aQ.len:Int) (c.aQ.len:Int) (λd s=>aC (α1:=Int) (λo b n=>(if decide (b<(r.len:Int)) then
 bF (λk=>(bc [(yI (-1))] (λa e=>((True/\(True/\(True/\(True/\True))))/\(ae P sK [(.slice (some a) 1 1),(yI c.bG)] av (λr2 g=>((True/\(True/\(True/\True)))/\((bJ r.base r.len b)/\(dA 24 [yN] c.bG c.bG (λl f=>((True/\(True/\True))/\bW f (Addr.add (sat r.base 6 b) 4) [r2.v] (λi=>((True/\True)/\((bJ r.base r.len b)/\bW i (Addr.add (sat r.base 6 b) 5) [l.v] (λj=>k j)))))) g/\bW g (Addr.add (sat r.base 6 b) 4) [r2.v] (λf=>((True/\(True/\True))/\dA 24 [yN] c.bG c.bG (λl i=>((True/\(True/\True))/\((bJ r.base r.len b)/\bW i (Addr.add (sat r.base 6 b) 5) [l.v] (λj=>k j)))) f)))))) e/\dA 24 [yN] c.bG c.bG (λr2 g=>((True/\(True/\(True/\True)))/\ae P sK [(.slice (some a) 1 1),(yI c.bG)] av (λl f=>((True/\(True/\(True/\True)))/\((bJ r.base r.len b)/\bW f (Addr.add (sat r.base 6 b) 4) [l.v] (λi=>((True/\(True/\True))/\((bJ r.base r.len b)/\bW i (Addr.add (sat r.base 6 b) 5) [r2.v] (λj=>k j))))))) g)) e))) n/\dA 24 [yN] c.bG c.bG (λr2 e=>((True/\(True/\(True/\True)))/\bc [(yI (-1))] (λa g=>((True/\(True/\(True/\(True/\True))))/\ae P sK [(.slice (some a) 1 1),(yI c.bG)] av (λl f=>((True/\(True/\(True/\True)))/\((bJ r.base r.len b)/\bW f (Addr.add (sat r.base 6 b) 4) [l.v] (λi=>((True/\(True/\True))/\((bJ r.base r.len b)/\bW i (Addr.add (sat r.base 6 b) 5) [r2.v] (λj=>k j))))))) g)) e)) n))
 (λe=>o (yw (b+1)) e)
 else
 aC (α1:=Int) (λp m e=>(if decide (m<(d.len:Int)) then
 dA 64 [yN,yN,(yI 0),(yI 0)] (yw ((c.aE.len:Int)+1)) (yw ((c.aE.len:Int)+1)) (λr2 g=>((True/\True)/\((bJ d.base d.len m)/\bW g (Addr.add (sat d.base 15 m) 14) [r2.v] (λf=>p (yw (m+1)) f)))) e
 else
 Q ⟨0,r,d⟩ e)) 0 n)) 0 s) q)) h/\dA 136 [(yI 0),(yI 0),(yI 0),(yI 0),(yI 0),(yI 0),(yI 0),(yI 0),(yI 0),(yI 0),(yI 0),(yI 0),(.bool false),(yI 0),yN] (c.aQ.len:Int) (c.aQ.len:Int) (λr q=>((True/\True)/\dA 96 [(yI 0),yN,(yI 0),(yI 0),yN,yN] (c.aE.len:Int) (c.aE.len:Int) (λd s=>((True/\True)/\aC (α1:=Int) (λo b n=>(if decide (b<(d.len:Int)) then
 bF (λk=>(bc [(yI (-1))] (λa e=>((True/\(True/\(True/\(True/\True))))/\(ae P sK [(.slice (some a) 1 1),(yI c.bG)] av (λr2 g=>((True/\(True/\(True/\True)))/\((bJ d.base d.len b)/\(dA 24 [yN] c.bG c.bG (λl f=>((True/\(True/\True))/\bW f (Addr.add (sat d.base 6 b) 4) [r2.v] (λi=>((True/\True)/\((bJ d.base d.len b)/\bW i (Addr.add (sat d.base 6 b) 5) [l.v] (λj=>k j)))))) g/\bW g (Addr.add (sat d.base 6 b) 4) [r2.v] (λf=>((True/\(True/\True))/\dA 24 [yN] c.bG c.bG (λl i=>((True/\(True/\True))/\((bJ d.base d.len b)/\bW i (Addr.add (sat d.base 6 b) 5) [l.v] (λj=>k j)))) f)))))) e/\dA 24 [yN] c.bG c.bG (λr2 g=>((True/\(True/\(True/\True)))/\ae P sK [(.slice (some a) 1 1),(yI c.bG)] av (λl f=>((True/\(True/\(True/\True)))/\((bJ d.base d.len b)/\bW f (Addr.add (sat d.base 6 b) 4) [l.v] (λi=>((True/\(True/\True))/\((bJ d.base d.len b)/\bW i (Addr.add (sat d.base 6 b) 5) [r2.v] (λj=>k j))))))) g)) e))) n/\dA 24 [yN] c.bG c.bG (λr2 e=>((True/\(True/\(True/\True)))/\bc [(yI (-1))] (λa g=>((True/\(True/\(True/\(True/\True))))/\ae P sK [(.slice (some a) 1 1),(yI c.bG)] av (λl f=>((True/\(True/\(True/\True)))/\((bJ d.base d.len b)/\bW f (Addr.add (sat d.base 6 b) 4) [l.v] (λi=>((True/\(True/\True))/\((bJ d.base d.len b)/\bW i (Addr.add (sat d.base 6 b) 5) [r2.v] (λj=>k j))))))) g)) e)) n))
 (λe=>o (yw (b+1)) e)
 else
 aC (α1:=Int) (λp m e=>(if decide (m<(r.len:Int)) then
 dA 64 [yN,yN,(yI 0),(yI 0)] (yw ((c.aE.len:Int)+1)) (yw ((c.aE.len:Int)+1)) (λr2 g=>((True/\True)/\((bJ r.base r.len m)/\bW g (Addr.add (sat r.base 15 m) 14) [r2.v] (λf=>p (yw (m+1)) f)))) e
 else
 Q ⟨0,d,r⟩ e)) 0 n)) 0 s)) q)) h)
def Qd (P:Program) (r:Option Addr) (s:ByteArray) (Q:(Hp->Prop)) (h:Hp):Prop:=
 aC (α1:=Int) (λd i b=>(if (decide (i<(((ByteArray.size s):Nat):Int)))=true then
 bF (λk=>ai none r λp=>di b p 1 λx=>ae P Mx [(yP r),(yI 1)] (af .u64) (λg a=>ai none r λf=>di a f 2 λc=>(((c==0)=true->(0<=i/\i<(((ByteArray.size s):Nat):Int)))/\aJ ((c==0)&&(g !=(IntKind.wrap .u64 (((UInt8.toNat (List.getD s.data.toList (Int.toNat i) 0)):Nat):Int)))) λy=>(if y then
 aY P tv [(yP r),(yI 4),(yI x)] (λe=>k e) a
 else
 k a))) b)
 (λa=>d (yw (i+1)) a)
 else
 Q b)) 0 h
def Qi (P:Program) (r:Option Addr) (many:Int) (e:Int) (dR:Int) (low:Int) (high:Int) (Q:(Int->(Hp->Prop))) (h:Hp):Prop:=
 ai none r λp=>di h p 1 λx=>ae P Mx [(yP r),(yI many)] (af .u64) (λc a=>ai none r λf=>di a f 2 λg=>(if (g !=0)=true then
 Q 0 a
 else
 bF (λk=>(if decide ((yw c)<e) then
 aY P tv [(yP r),(yI low),(yI x)] (λb=>k b) a
 else
 k a))
 (λb=>(if decide ((yw c)>dR) then
 aY P tv [(yP r),(yI high),(yI x)] (λd=>Q (yw c) d) b
 else
 Q (yw c) b)))) h
def PM (P:Program) (r:Option Addr) (many:Int) (Q:(Int->(Hp->Prop))) (h:Hp):Prop:=
 ai none r λp=>di h p 2 λx=>(if (x !=0)=true then
 Q 0 h
 else
 ai none r λj=>cT h j 0 λl=>ai none r λk=>di h k 1 λm=>(if (decide ((yw ((l.len:Int)-m))<many))=true then
 ai none r λc=>cT h c 0 λb=>aY P tv [(yP r),(yI 5),(yI (b.len:Int))] (λa=>Q 0 a) h
 else
 bD (α1:=Int) (α2:=Int) (λf n i a=>(if decide (i<many) then
 ai none r λc=>cT a c 0 λb=>ai none r λd=>di a d 1 λe=>((bJ b.base b.len (yw (e+i)))/\aP none (af .u8) a (sat b.base 1 (yw (e+i))) λo=>(0<=(yw (8*i))/\f (du .or .u64 n (ni .u64 (IntKind.wrap .u64 o) (yw (8*i)))) (yw (i+1)) a))
 else
 ai none r λc=>di a c 1 λb=>ai none r λd=>bW a (Addr.add d 1) [(yI (yw (b+many)))] (λg=>Q n g))) 0 0 h))
def Qf (P:Program) (r:Option Addr) (many:Int) (ag:Int) (Q:(Sl->(Hp->Prop))) (h:Hp):Prop:=
 bc [] (λa s=>bD (α1:=Sl) (α2:=Int) (λq l k b=>ai (some (decide (k<many))) r λp=>aP (some (decide (k<many))) yH b (Addr.add p 2) λx=>aJ ((decide (k<many))&&(x==0)) λy=>(if y then
 ai none r λu=>cT b u 0 λG=>ai none r λw=>di b w 1 λH=>(if (decide ((yw ((G.len:Int)-H))<12))=true then
 ai none r λj=>cT b j 0 λc=>aY P tv [(yP r),(yI 5),(yI (c.len:Int))] (λf=>Q ⟨l.base,l.len,l.cap⟩ f) b
 else
 ai none r λj=>cT b j 0 λc=>ai none r λz=>di b z 1 λe=>((0<=e/\e<=(c.len:Int))/\aJ (α:=Sl) ⟨(aW c.base 1 (Int.toNat e) c.cap),(c.len-(Int.toNat e)),(c.cap-(Int.toNat e))⟩ λI=>ae P zqb [I.v] aM (λd f=>bh P MH [d.v,(yI many),(yI ag)] yH yH (λr2 E g=>(if (r2 !=0)=true then
 ai none r λm=>di g m 1 λn=>aY P tv [(yP r),(yI r2),(yI (yw (n+E)))] (λi=>Q ⟨l.base,l.len,l.cap⟩ i) g
 else
 bc [(yI d.Op),(yI d.A),(yI d.B),(yI d.C),(yI d.jm)] (λa1 i=>eS 5 40 [(yI 0),(yI 0),(yI 0),(yI 0),(yI 0)] ⟨l.base,l.len,l.cap⟩ ⟨(some a1),1,1⟩ (λF o=>ai none r λm=>di o m 1 λn=>ai none r λD=>bW o (Addr.add D 1) [(yI (yw (n+12)))] (λt=>q F (yw (k+1)) t)) i) g)) f) b))
 else
 Q ⟨l.base,l.len,l.cap⟩ b)) ⟨(some a),0,0⟩ 0 s) h
def ZJ (P:Program) (r:Option Addr) (s:cI) (Q:(Int->(Hp->Prop))) (h:Hp):Prop:=
 (if decide (s.N<1) then
 Q 1 h
 else
 ai none r λp=>di h p 1 λx=>(if (decide (s.N>(yw (65536-x))))=true then
 Q 3 h
 else
 aC (α1:=Int) (λg f a=>(if decide (f<s.N) then
 ai none r λc=>kM a c 0 λe=>ae P znm [(yP e)] yH (λj b=>ai none r λd=>bW b (Addr.add d 2) [(yI j)] (λi=>g (yw (f+1)) i)) a
 else
 ai none r λc=>di a c 1 λe=>ai none r λd=>bW a (Addr.add d 1) [(yI (yw (e+s.N)))] (λb=>Q 0 b))) 0 h))
def zyz (P:Program) (r:Option Addr) (s:cI) (Q:(Int->(Hp->Prop))) (h:Hp):Prop:=
 ai none r λp=>kM h p 0 λx=>ae P zls [(yP x),(yI s.N),(yI s.V)] yH (λb a=>Q b a) h
def HQ (P:Program) (r:Option Addr) (s:cI) (Q:(Int->(Hp->Prop))) (h:Hp):Prop:=
 ai none r λp=>kM h p 0 λx=>ae P znl [(yP x),(yI s.N)] yH (λb a=>Q b a) h
def ME (P:Program) (m:Option Addr) (p:Int) (v:Int) (Q:(Int->(Hp->Prop))) (h:Hp):Prop:=
 ae P Q1 [(yP m),(yI p)] yH (λr a=>(if (r !=0)=true then
 Q r a
 else
 ai none m λg=>cT a g 11 λx=>((bJ x.base x.len p)/\aP none ah a (sat x.base 1 p) λd=>ai none m λi=>cT a i 10 λf=>ai none d λj=>kM a j 14 λl=>ae P M5 [(yP l),(yI (f.len:Int)),(yI v)] yH (λe b=>(if (e !=0)=true then
 ai none d λk=>kM b k 14 λn=>aY P I7 [(yP n),(yI (f.len:Int))] (λc=>Q e c) b
 else
 aY P HF [(yP m),(yP d)] (λc=>Q 0 c) b)) a))) h
def ML (P:Program) (m:Option Addr) (p:Int) (Q:(Int->(Hp->Prop))) (h:Hp):Prop:=
 ae P Q1 [(yP m),(yI p)] yH (λr a=>(if (r !=0)=true then
 Q r a
 else
 ai none m λc=>cT a c 11 λx=>((bJ x.base x.len p)/\aP none ah a (sat x.base 1 p) λd=>aY P MI [(yP m),(yP d),(yI 6)] (λb=>Q 0 b) a))) h
def UE (P:Program) (l:Option Addr) (Q:(Sl->(Sl->(Hp->Prop)))) (h:Hp):Prop:=
 ai none l λp=>cT h p 0 λx=>ph (α1:=Sl) (α2:=Sl) (α3:=Int) (λe az aw b c=>(if decide (b<(x.len:Int)) then
 ((bJ x.base x.len b)/\aP none eO c (sat x.base 2 b) λd=>bc [(yI d.owner)] (λa f=>eS 1 8 [(yI 0)] ⟨az.base,az.len,az.cap⟩ ⟨(some a),1,1⟩ (λr g=>ae P MJ [d.queue.v] av (λm i=>bc [m.v] (λa1 j=>eS 1 24 [yN] ⟨aw.base,aw.len,aw.cap⟩ ⟨(some a1),1,1⟩ (λr2 k=>e r r2 (yw (b+1)) k) j) i) g) f) c)
 else
 Q ⟨az.base,az.len,az.cap⟩ ⟨aw.base,aw.len,aw.cap⟩ c)) ⟨none,0,0⟩ ⟨none,0,0⟩ 0 h
def O8 (P:Program) (s:Sl) (Q:(Sl->(Hp->Prop))) (h:Hp):Prop:=
 iC none P (cX .eql 112 (.tmp 3) (.const yN) s.v yN) bB h λx=>(if x then
 Q ⟨none,0,0⟩ h
 else
 bc [] (λa b=>eS 3 24 [(yI 0),(yI 0),(yI 0)] ⟨(some a),0,0⟩ s (λr c=>Q r c) b) h)
def V6 (P:Program) (p:Option Addr) (Q:(Sl->(Int->(Hp->Prop)))) (h:Hp):Prop:=
 ai none p λj=>cT h j 0 λx=>bD (α1:=Sl) (α2:=Int) (λe out c b=>(if decide (c<(x.len:Int)) then
 ((bJ x.base x.len c)/\aP none ah b (sat x.base 1 c) λd=>ae P VZ [(yP d)] cL (λr f=>bc [r.fK.v,r.dk.v,(yI r.kT),(yI r.ie)] (λa g=>eS 4 64 [yN,yN,(yI 0),(yI 0)] ⟨out.base,out.len,out.cap⟩ ⟨(some a),1,1⟩ (λl i=>e l (yw (c+1)) i) g) f) b)
 else
 ai none p λk=>di b k 1 λd=>Q ⟨out.base,out.len,out.cap⟩ d b)) ⟨none,0,0⟩ 0 h
def M0 (P:Program) (w:Option Addr) (dg:Int) (Q:(Int->(Bool->(Hp->Prop)))) (h:Hp):Prop:=
 ai none w λp=>aP none fN h (Addr.add p 1) λx=>kR none (.int .i64) aR (.agg #[(yI 0),(yI 0)]) x (yI dg) h λa ok=>Q a.due ok h
def M8 (P:Program) (p:Int) (Q:(Int->(Hp->Prop))) (h:Hp):Prop:=
 Q (yw (2*p)) h
def M9 (P:Program) (p:Int) (Q:(Int->(Hp->Prop))) (h:Hp):Prop:=
 Q (yw ((yw (2*p))+1)) h
def MM (P:Program) (m:Option Addr) (Q:(Int->(Hp->Prop))) (h:Hp):Prop:=
 ai none m λp=>kM h p 8 λx=>ai none m λC=>di h C 9 λL=>ae P zrf [(yP x),(yI L)] yH (λr f=>ai none m λF=>cT f F 10 λj=>((bJ j.base j.len r)/\aP none ah f (sat j.base 1 r) λb=>aY P SM [(yP m),(yP b)] (λs=>ai none m λG=>aP none yH s (Addr.add (Addr.add G 0) 2) λN=>bF (λk=>aC (α1:=Int) (λy t c=>(if decide (t<N) then
 ai none b λg=>cT c g 0 λl=>aC (α1:=Int) (λz d a=>(if decide (d<(l.len:Int)) then
 ai none b λi=>di a i 1 λn=>ai none b λH=>cT a H 0 λe=>((e.len:Int)≠0/\ai none m λI=>cT a I 11 λo=>ai none b λJ=>cT a J 0 λq=>((bJ q.base q.len (Int.tmod (yw (n+d)) (e.len:Int)))/\aP none yH a (sat q.base 1 (Int.tmod (yw (n+d)) (e.len:Int))) λu=>((bJ o.base o.len u)/\aP none ah a (sat o.base 1 u) λv=>ai none v λK=>di a K 3 λM=>(if (M==0)=true then
 ai none b λD=>cT a D 0 λw=>((w.len:Int)≠0/\ai none b λE=>bW a (Addr.add E 1) [(yI (Int.tmod (yw ((Int.tmod (yw (n+d)) (e.len:Int))+1)) (w.len:Int)))] (λA=>aY P RX [(yP m),(yP v)] (λB=>y (yw (t+1)) B) A))
 else
 z (yw (d+1)) a))))
 else
 k a)) 0 c
 else
 k c)) 0 s)
 (λc=>ai none m λg=>di c g 9 λl=>ai none m λi=>bW c (Addr.add i 9) [(yI (yw (l+1)))] (λa=>Q r a))) f)) h
def zwt (P:Program) (a:Int) (b:Int) (Q:(Bool->(Hp->Prop))) (h:Hp):Prop:=
 Q ((du .andNot .u64 a b)==0) h
def TM (P:Program) (c:al) (Q:(Int->(Int->(Hp->Prop)))) (h:Hp):Prop:=
 bh P Tz [c.aE.v] yH yH (λr A f=>(if (r !=0)=true then
 Q r 0 f
 else
 ae P zml [c.Table.v,(yI (c.aE.len:Int))] yH (λr2 j=>(if (r2 !=0)=true then
 Q r2 1 j
 else
 ae P Co [(yI c.Fuel),(yI 1),(yI 256)] bB (λs n=>((True/\(True/\(True/\True)))/\ae P Co [(yI c.gz),(yI 1),(yI 64)] bB (λt o=>((True/\(True/\True))/\ae P Co [(yI c.bG),(yI 0),(yI 8)] bB (λu p=>((True/\True)/\ae P Co [(yI c.Log),(yI 0),(yI 4096)] bB (λw q=>aC (α1:=Int) (λl i b=>(if decide (i<4) then
 ((0<=i/\i<4)/\∃x:Bool,((List.get?Internal (α:=Value) [(.bool s),(.bool t),(.bool u),(.bool w)] (0+((Int.toNat i)*1)))=(some (.bool x))/\(if (!x)=true then
 Q 2 (yw (2+i)) b
 else
 l (yw (i+1)) b)))
 else
 (if ((c.aQ.len:Int)==0)=true then
 Q 1 6 b
 else
 (if decide ((c.aQ.len:Int)>32) then
 Q 3 6 b
 else
 aC (α1:=Int) (λm a d=>(if decide (a<(c.aQ.len:Int)) then
 ((bJ c.aQ.base c.aQ.len a)/\aP none yH d (Addr.add (sat c.aQ.base 2 a) 0) λx=>ae P Co [(yI x),(yI 0),(yI (yw ((c.aE.len:Int)-1)))] bB (λy e=>(if (!y)=true then
 Q 2 (yw (7+a)) e
 else
 ((bJ c.aQ.base c.aQ.len a)/\aP none av e (Addr.add (sat c.aQ.base 2 a) 1) λz=>bh P TC [z.v,(yI c.bG)] yH yH (λk B g=>(if (k !=0)=true then
 Q k (yw (7+a)) g
 else
 m (yw (a+1)) g)) e))) d)
 else
 Q 0 0 d)) 0 b)))) 0 q) p)) o)) n)) j)) f)) h
def Rd (P:Program) (b:Sl) (n:Int) (many:Int) (Q:(Sl->(Hp->Prop))) (h:Hp):Prop:=
 bD (α1:=Sl) (α2:=Int) (λe c i d=>(if decide (i<many) then
 (0<=(yw (8*i))/\bc [(.int .u8 (IntKind.wrap .u8 (gF .u64 n (yw (8*i)))))] (λa f=>eS 1 1 [(.int .u8 0)] ⟨c.base,c.len,c.cap⟩ ⟨(some a),1,1⟩ (λr g=>e r (yw (i+1)) g) f) d)
 else
 Q ⟨c.base,c.len,c.cap⟩ d)) b 0 h
def TP (P:Program) (b:Sl) (x:aL) (Q:(Sl->(Hp->Prop))) (h:Hp):Prop:=
 bc [(.int .u8 (IntKind.wrap .u8 x.Op)),(.int .u8 (IntKind.wrap .u8 x.A)),(.int .u8 (IntKind.wrap .u8 x.B)),(.int .u8 (IntKind.wrap .u8 x.C))] (λa f=>eS 1 1 [(.int .u8 0)] b ⟨(some a),4,4⟩ (λr g=>bD (α1:=Sl) (α2:=Int) (λe c i d=>(if decide (i<8) then
 (0<=(yw (8*i))/\bc [(.int .u8 (IntKind.wrap .u8 (gF .u64 (IntKind.wrap .u64 x.jm) (yw (8*i)))))] (λa1 j=>eS 1 1 [(.int .u8 0)] ⟨c.base,c.len,c.cap⟩ ⟨(some a1),1,1⟩ (λl k=>e l (yw (i+1)) k) j) d)
 else
 Q ⟨c.base,c.len,c.cap⟩ d)) r 0 g) f) h
def TS (P:Program) (r:Option Addr) (many:Int) (j:wg) (Q:(Int->(Hp->Prop))) (h:Hp):Prop:=
 ae P uf [(yP r)] bB (λA a=>(if A then
 Q 0 a
 else
 ai none r λp=>cT a p 0 λx=>ai none r λt=>di a t 1 λB=>(if (decide ((yw ((x.len:Int)-B))<many))=true then
 ai none r λi=>cT a i 0 λd=>aY P xn [(yP r),(yI 5),(yI (d.len:Int))] (λb=>Q 0 b) a
 else
 ai none r λi=>cT a i 0 λd=>ai none r λu=>di a u 1 λe=>ai none r λv=>di a v 1 λk=>((0<=e/\(e<=(yw (k+many))/\(yw (k+many))<=(d.cap:Int)))/\aJ (α:=Sl) ⟨(aW d.base 1 (Int.toNat e) d.cap),((Int.toNat (yw (k+many)))-(Int.toNat e)),(d.cap-(Int.toNat e))⟩ λy=>bD (α1:=Int) (α2:=Int) (λq n c b=>(if decide (c<(y.len:Int)) then
 ((bJ y.base y.len c)/\aP none (af .u8) b (sat y.base 1 c) λf=>(0<=(yw (8*c))/\q (du .or .u64 n (ni .u64 (IntKind.wrap .u64 f) (yw (8*c)))) (yw (c+1)) b))
 else
 ai none r λo=>di b o 1 λf=>fX P tb (.func (.func j.g) j.first j.captured) [(.int .u64 n)] yH (λr2 l=>(((aV l (Addr.add o 1) [(yI f)])/\True)/\aY P xn [(yP r),(yI r2),(yI f)] (λm=>ai none r λw=>di m w 1 λC=>ai none r λz=>bW m (Addr.add z 1) [(yI (yw (C+many)))] (λs=>Q n s)) l)) b)) 0 0 a)))) h
def R4 (P:Program) (n:Int) (a1:Addr) (Q:(Int->(Hp->Prop))) (h:Hp):Prop:=
 aP none yH h a1 λx=>((0<=x/\x<5)/\(if ((IntKind.wrap .u8 n) !=(((UInt8.toNat (List.getD [70,66,67,70,1] (Int.toNat x) 0)):Nat):Int))=true then
 Q 4 h
 else
 Q 0 h))
def R7 (P:Program) (a:Int) (a1:Addr) (Q:(Int->(Hp->Prop))) (h:Hp):Prop:=
 aP none ah h a1 λx=>ai none x λp=>cT h p 0 λb=>aP (some (decide ((yw ((b.len:Int)-1))>=0))) ah h a1 λg=>ai (some (decide ((yw ((b.len:Int)-1))>=0))) g λe=>aP (some (decide ((yw ((b.len:Int)-1))>=0))) av h (Addr.add e 0) λc=>(((decide ((yw ((b.len:Int)-1))>=0))=true->(bJ c.base c.len (yw ((b.len:Int)-1))))/\aP (some (decide ((yw ((b.len:Int)-1))>=0))) (af .u64) h (sat c.base 1 (yw ((b.len:Int)-1))) λi=>aJ ((decide ((yw ((b.len:Int)-1))>=0))&&(a==i)) λy=>(if y then
 Q 8 h
 else
 aP (some (decide ((yw ((b.len:Int)-1))>=0))) ah h a1 λj=>ai (some (decide ((yw ((b.len:Int)-1))>=0))) j λf=>aP (some (decide ((yw ((b.len:Int)-1))>=0))) av h (Addr.add f 0) λd=>(((decide ((yw ((b.len:Int)-1))>=0))=true->(bJ d.base d.len (yw ((b.len:Int)-1))))/\aP (some (decide ((yw ((b.len:Int)-1))>=0))) (af .u64) h (sat d.base 1 (yw ((b.len:Int)-1))) λk=>aJ ((decide ((yw ((b.len:Int)-1))>=0))&&(decide (a<k))) λl=>(if l then
 Q 7 h
 else
 Q 0 h))))
def Re (P:Program) (r:Option Addr) (c:Option Addr) (Q:(Int->(Hp->Prop))) (h:Hp):Prop:=
 bc [(yP c)] (λa b=>ae P Iw [(yP r),(yI 1),(.func (.func 131) #[] #[(yP (some a))])] yH (λe d=>Q e d) b) h
def V7 (P:Program) (r:Option Addr) (many:Int) (wrong:wg) (Q:(Int->(Hp->Prop))) (h:Hp):Prop:=
 bc [(.func (.func wrong.g) wrong.first wrong.captured)] (λa b=>ae P wv [(yP r),(yI many),(.func (.func 132) #[] #[(yP (some a))])] (af .u64) (λd c=>Q (yw d) c) b) h
def zno (P:Program) (n:Int) (a1:Addr) (Q:(Int->(Hp->Prop))) (h:Hp):Prop:=
 aP none yH h a1 λx=>ae P zwm [(yI x),(yI n)] yH (λr a=>Q r a) h
def zwu (P:Program) (part:Int) (n:Int) (Q:(Int->(Hp->Prop))) (h:Hp):Prop:=
 (if (part==2)=true then
 ae P FA [(yI n),(yI 1),(yI 256)] bB (λr a=>(if (!r)=true then
 Q 2 a
 else
 Q 0 a)) h
 else
 (if (part==3)=true then
 ae P FA [(yI n),(yI 1),(yI 64)] bB (λr a=>(if (!r)=true then
 Q 2 a
 else
 Q 0 a)) h
 else
 (if (part==4)=true then
 ae P FA [(yI n),(yI 0),(yI 8)] bB (λr a=>(if (!r)=true then
 Q 2 a
 else
 Q 0 a)) h
 else
 (if (part==5)=true then
 ae P FA [(yI n),(yI 0),(yI 4096)] bB (λr a=>(if (!r)=true then
 Q 2 a
 else
 Q 0 a)) h
 else
 Q 0 h))))
def zmv (P:Program) (n:Int) (a1:Addr) (Q:(Int->(Hp->Prop))) (h:Hp):Prop:=
 aP none yH h a1 λx=>ae P Nw [(yI n),(yI x)] yH (λr a=>Q r a) h
def CW (P:Program) (n:Int) (dR:Int) (Q:(Int->(Hp->Prop))) (h:Hp):Prop:=
 (if (n==0)=true then
 Q 1 h
 else
 (if decide (n>dR) then
 Q 3 h
 else
 Q 0 h))
def TV (P:Program) (n:Int) (Q:(Int->(Hp->Prop))) (h:Hp):Prop:=
 (if decide (n>256) then
 Q 3 h
 else
 Q 0 h)
def V9 (P:Program) (r:Option Addr) (n:Int) (ag:Int) (Q:(aL->(Hp->Prop))) (h:Hp):Prop:=
 ae P uf [(yP r)] bB (λu a=>(if u then
 Q ⟨0,0,0,0,0⟩ a
 else
 ai none r λp=>di a p 1 λx=>ai none r λs=>cT a s 0 λw=>(if (decide ((yw ((w.len:Int)-x))<12))=true then
 ai none r λt=>cT a t 0 λy=>aY P xn [(yP r),(yI 5),(yI (y.len:Int))] (λf=>Q ⟨0,0,0,0,0⟩ f) a
 else
 ae P wv [(yP r),(yI 1),(.func (.func 133) #[] #[])] (af .u64) (λr2 f=>ae P wv [(yP r),(yI 1),(.func (.func 133) #[] #[])] (af .u64) (λb j=>ae P wv [(yP r),(yI 1),(.func (.func 133) #[] #[])] (af .u64) (λc k=>ae P wv [(yP r),(yI 1),(.func (.func 133) #[] #[])] (af .u64) (λd l=>ae P wv [(yP r),(yI 8),(.func (.func 133) #[] #[])] (af .u64) (λe m=>ae P Np [(.agg #[(yI (yw r2)),(yI (yw b)),(yI (yw c)),(yI (yw d)),(yI (yw e))]),(yI n),(yI ag)] yH (λg i=>(if (g !=0)=true then
 ae P I8 [(.agg #[(yI (yw r2)),(yI (yw b)),(yI (yw c)),(yI (yw d)),(yI (yw e))]),(yI g)] yH (λv o=>aY P xn [(yP r),(yI g),(yI (yw (x+v)))] (λq=>Q ⟨(yw r2),(yw b),(yw c),(yw d),(yw e)⟩ q) o) i
 else
 Q ⟨(yw r2),(yw b),(yw c),(yw d),(yw e)⟩ i)) m) l) k) j) f) a))) h
def Kt (P:Program) (l:Sl) (Q:(Int->(Int->(Hp->Prop)))) (h:Hp):Prop:=
 (if ((l.len:Int)==0)=true then
 Q 1 0 h
 else
 (if decide ((l.len:Int)>8) then
 Q 3 8 h
 else
 aC (α1:=Int) (λb i a=>(if decide (i<(l.len:Int)) then
 ((bJ l.base l.len i)/\aP none (af .u64) a (sat l.base 1 i) λx=>((bJ l.base l.len (yw (i-1)))/\aP none (af .u64) a (sat l.base 1 (yw (i-1))) λc=>(if (x==c)=true then
 Q 8 i a
 else
 ((bJ l.base l.len i)/\aP none (af .u64) a (sat l.base 1 i) λd=>((bJ l.base l.len (yw (i-1)))/\aP none (af .u64) a (sat l.base 1 (yw (i-1))) λe=>(if decide (d<e) then
 Q 7 i a
 else
 b (yw (i+1)) a))))))
 else
 Q 0 0 a)) 1 h))
def Kv (P:Program) (table:Sl) (parts:Int) (Q:(Option Addr->(Int->(Int->(Hp->Prop))))) (h:Hp):Prop:=
 bc [(yI parts)] (λa b=>aP none yH b a λx=>aP (some (!(decide (x<1)))) yH b a λi=>aJ ((decide (x<1)) || (decide (i>8))) λy=>aJ (y || ((table.len:Int)==0)) λj=>(if j then
 Q none 1 0 b
 else
 (if decide ((table.len:Int)>64) then
 Q none 3 64 b
 else
 ae P zjr [table.v,(.func (.func 137) #[] #[(yP (some a))])] yH (λr c=>(if decide (r>=0) then
 Q none 2 r c
 else
 aP none yH c a λe=>ae P MJ [table.v] av (λg d=>(((aV d a [(yI e)])/\True)/\bc [g.v,(yI e)] (λa1 f=>Q (some a1) 0 0 f) d)) c)) b))) h
def zwv (P:Program) (n:Int) (from_:Int) (to:Int) (Q:(Bool->(Hp->Prop))) (h:Hp):Prop:=
 aJ ((decide (n>=from_))&&(decide (n<=to))) λy=>Q y h
def Di (P:Program) (l:Sl) (ag:Int) (Q:(Int->(Int->(Hp->Prop)))) (h:Hp):Prop:=
 aJ ((decide (ag<0)) || (decide (ag>8))) λy=>(if y then
 Q 1 0 h
 else
 (if decide ((l.len:Int)>256) then
 Q 3 256 h
 else
 aC (α1:=Int) (λd a b=>(if decide (a<(l.len:Int)) then
 ((bJ l.base l.len a)/\aP none aM b (sat l.base 5 a) λx=>ae P Np [x.v,(yI (l.len:Int)),(yI ag)] yH (λr c=>(if (r !=0)=true then
 Q r a c
 else
 d (yw (a+1)) c)) b)
 else
 Q 0 0 b)) 0 h))
def Xk (P:Program) (c:al) (Q:(al->(Hp->Prop))) (h:Hp):Prop:=
 ae P Qb [c.aE.v] av (λr e=>((True/\(True/\True))/\ae P MJ [c.Table.v] av (λk f=>((True/\True)/\ae P zfh [c.aQ.v] av (λr2 g=>aC (α1:=Int) (λd a b=>(if decide (a<(r2.len:Int)) then
 ((bJ r2.base r2.len a)/\aP none bC b (sat r2.base 2 a) λx=>ae P zfy [x.Code.v] av (λl i=>((True/\True)/\((bJ r2.base r2.len a)/\bW i (Addr.add (sat r2.base 2 a) 1) [l.v] (λj=>d (yw (a+1)) j)))) b)
 else
 Q ⟨r,k,c.Fuel,c.gz,c.bG,c.Log,r2⟩ b)) 0 g) f)) e)) h
def Kw (P:Program) (l:Sl) (Q:(Option Addr->(Int->(Int->(Hp->Prop))))) (h:Hp):Prop:=
 bh P Nx [l.v] yH yH (λr m d=>(if (r !=0)=true then
 Q none r m d
 else
 ae P Qb [l.v] av (λr2 g=>ER  (λn i=>bc [r2.v,(.map n)] (λa e=>ai none (some a) λp=>cT e p 0 λx=>aC (α1:=Int) (λf b c=>(if decide (b<(x.len:Int)) then
 ((bJ x.base x.len b)/\aP none (af .u64) c (sat x.base 1 b) λo=>ai none (some a) λk=>aP none fN c (Addr.add k 1) λq=>uh (.int .u64) q (.int .u64 o) (yI b) (λj=>f (yw (b+1)) j) c)
 else
 Q (some a) 0 0 c)) 0 e) i) g) d)) h
def CX (P:Program) (az:Sl) (aw:Sl) (Q:(Option Addr->(Int->(Hp->Prop)))) (h:Hp):Prop:=
 aJ ((decide ((az.len:Int)>8)) || (decide ((aw.len:Int)>8))) λy=>(if y then
 Q none 3 h
 else
 (if ((az.len:Int) !=(aw.len:Int))=true then
 Q none 4 h
 else
 bc [yN] (λa w=>aC (α1:=Int) (λt b c=>(if decide (b<(az.len:Int)) then
 ((bJ az.base az.len b)/\aP none yH c (sat az.base 1 b) λx=>((((!(decide (x<(-1))))&&(x==(-1)))=true->(bJ aw.base aw.len b))/\aP (some ((!(decide (x<(-1))))&&(x==(-1)))) av c (sat aw.base 1 b) λE=>aJ ((x==(-1))&&(decide ((E.len:Int)>0))) λy1=>aJ ((decide (x<(-1))) || y1) λG=>(if G then
 Q none 4 c
 else
 ai none (some a) λp=>cT c p 0 λF=>bc [(yI x),yN] (λa1 A=>eS 2 32 [(yI 0),yN] F ⟨(some a1),1,1⟩ (λr B=>ai none (some a) λC=>bW B (Addr.add C 0) [r.v] (λn=>((bJ aw.base aw.len b)/\aP none av n (sat aw.base 1 b) λj=>aC (α1:=Int) (λu i l=>(if decide (i<(j.len:Int)) then
 ((bJ j.base j.len i)/\aP none yH l (sat j.base 1 i) λk=>bh P MR [(yP (some a)),(yI k)] yH bB (λJ r2 d=>aJ (r2 || (decide (k<0))) λH=>aJ (H || (k==x)) λI=>(if I then
 Q none 4 d
 else
 ai none (some a) λm=>cT d m 0 λe=>ai none (some a) λq=>cT d q 0 λf=>((bJ f.base f.len b)/\aP none av d (Addr.add (sat f.base 2 b) 1) λs=>bc [(yI k)] (λa2 g=>(((aV g (Addr.add m 0) [e.v])/\((aV g (Addr.add q 0) [f.v])/\((aV g (Addr.add (sat f.base 2 b) 1) [s.v])/\True)))/\eS 1 8 [(yI 0)] s ⟨(some a2),1,1⟩ (λD o=>(((aV o (Addr.add m 0) [e.v])/\True)/\((bJ e.base e.len b)/\bW o (Addr.add (sat e.base 2 b) 1) [D.v] (λz=>u (yw (i+1)) z)))) g)) d))) l)
 else
 t (yw (b+1)) l)) 0 n))) A) c)))
 else
 Q (some a) 0 c)) 0 w) h))
def NA (P:Program)  (Q:(Option Addr->(Hp->Prop))) (h:Hp):Prop:=
 ER  (λr b=>bc [yN,(.map r)] (λa c=>Q (some a) c) b) h
def Dj (P:Program) (room:Int) (l:Sl) (aj:Int) (Q:(Option Addr->(Int->(Hp->Prop)))) (h:Hp):Prop:=
 aJ ((decide ((l.len:Int)<1)) || (decide ((l.len:Int)>9))) λy=>aJ (y || (decide (room<1))) λo=>aJ (o || (decide (room>64))) λq=>(if q then
 Q none 1 h
 else
 aJ ((decide (aj<0)) || (decide (aj>=(l.len:Int)))) λs=>(if s then
 Q none 2 h
 else
 bc [yN,(yI aj)] (λa f=>aC (α1:=Int) (λe b c=>(if decide (b<(l.len:Int)) then
 ((bJ l.base l.len b)/\aP none cL c (sat l.base 4 b) λx=>bh P Dc [(yI room),x.v] ah yH (λr m d=>(if (m !=0)=true then
 Q none 4 d
 else
 ai none (some a) λp=>cT d p 0 λn=>bc [(yP r)] (λa1 g=>eS 1 8 [(yP none)] n ⟨(some a1),1,1⟩ (λr2 i=>ai none (some a) λk=>bW i (Addr.add k 0) [r2.v] (λj=>e (yw (b+1)) j)) g) d)) c)
 else
 Q (some a) 0 c)) 0 f) h))
def M1 (P:Program) (w:Option Addr) (dg:Int) (due:Int) (Q:(Int->(Hp->Prop))) (h:Hp):Prop:=
 aJ ((decide (dg<0)) || (decide (due<0))) λy=>(if y then
 Q 1 h
 else
 ae P Cy [(yP w),(yI dg)] bB (λr b=>ai none w λp=>cT b p 0 λx=>bh P Mw [x.v,(.agg #[(yI due),(yI dg)]),(.func (.func 145) #[] #[])] yH bB (λm r2 c=>ai none w λf=>cT c f 0 λg=>bc [(yI due),(yI dg)] (λa d=>(((aV d (Addr.add f 0) [g.v])/\True)/\ae P OM [g.v,(yI m),(.slice (some a) 1 1)] av (λn i=>ai none w λk=>bW i (Addr.add k 0) [n.v] (λe=>ai none w λl=>aP none fN e (Addr.add l 1) λo=>uh (.int .i64) o (yI dg) (.agg #[(yI due),(yI dg)]) (λj=>Q 0 j) e)) d)) c) b) h)
def Rf (P:Program) (x:Sl) (count:Int) (Q:(Sl->(Hp->Prop))) (h:Hp):Prop:=
 bF (λk=>(if decide (count<0) then
 False
 else
 k h))
 (λd=>bh P Ym [(.int .u64 (IntKind.wrap .u64 (x.len:Int))),(.int .u64 (IntKind.wrap .u64 count))] (af .u64) (af .u64) (λr a e=>bF (λk=>aJ ((decide (r>0)) || (decide (a>9223372036854775807))) λy=>(if y then
 False
 else
 k e))
 (λf=>dA 8 [(yI 0)] (yw a) (yw a) (λr2 g=>fD 1 r2 x (λl i=>aC (α1:=Int) (λc n b=>(if decide (n<(r2.len:Int)) then
 ((0<=n/\n<=(r2.len:Int))/\aJ (α:=Sl) ⟨(aW r2.base 1 (Int.toNat n) r2.cap),(r2.len-(Int.toNat n)),(r2.cap-(Int.toNat n))⟩ λy=>((0<=n/\n<=(r2.cap:Int))/\aJ (α:=Sl) ⟨(aW r2.base 1 0 r2.cap),((Int.toNat n)-0),(r2.cap-0)⟩ λo=>fD 1 y o (λm j=>c (yw (n+m)) j) b))
 else
 Q r2 b)) l i) g) f)) d)
def TZ (P:Program) (b:Sl) (Q:(aL->(Hp->Prop))) (h:Hp):Prop:=
 bD (α1:=Int) (α2:=Int) (λc n i a=>(if decide (i<8) then
 ((bJ b.base b.len (yw (4+i)))/\aP none (af .u8) a (sat b.base 1 (yw (4+i))) λx=>(0<=(yw (8*i))/\c (du .or .u64 n (ni .u64 (IntKind.wrap .u64 x) (yw (8*i)))) (yw (i+1)) a))
 else
 ((bJ b.base b.len 0)/\aP none (af .u8) a (sat b.base 1 0) λx=>((bJ b.base b.len 1)/\aP none (af .u8) a (sat b.base 1 1) λd=>((bJ b.base b.len 2)/\aP none (af .u8) a (sat b.base 1 2) λe=>((bJ b.base b.len 3)/\aP none (af .u8) a (sat b.base 1 3) λf=>Q ⟨(yw x),(yw d),(yw e),(yw f),(yw n)⟩ a)))))) 0 0 h
def Sa (P:Program) (x:aL) (n:Int) (ag:Int) (Q:(Int->(Int->(Hp->Prop)))) (h:Hp):Prop:=
 aJ ((decide (x.Op<0)) || (decide (x.Op>=34))) λy=>(if y then
 Q 9 0 h
 else
 mH P Q5 [(yI x.Op)] bB bB bB bB (λr i r2 j g=>ae P MB [(yI x.A),(.bool r)] yH (λd b=>(if (d !=0)=true then
 Q d 1 b
 else
 ae P MB [(yI x.B),(.bool i)] yH (λe c=>(if (e !=0)=true then
 Q e 2 c
 else
 ae P MB [(yI x.C),(.bool r2)] yH (λf a=>(if (f !=0)=true then
 Q f 3 a
 else
 aJ ((!j)&&(x.jm !=0)) λk=>(if k then
 Q 11 4 a
 else
 aJ ((x.Op==22) || (x.Op==23)) λl=>aJ ((decide (x.jm<0)) || (decide (x.jm>n))) λm=>aJ (l&&m) λo=>(if o then
 Q 12 4 a
 else
 aJ ((x.Op==29) || (x.Op==30)) λp=>aJ ((decide (x.jm<0)) || (decide (x.jm>=ag))) λq=>aJ (p&&q) λs=>(if s then
 Q 13 4 a
 else
 Q 0 0 a))))) c)) b)) g) h)
def Rh (P:Program) (m:Option Addr) (p:Int) (Q:(Int->(Hp->Prop))) (h:Hp):Prop:=
 ai (some (!(decide (p<0)))) m λc=>aP (some (!(decide (p<0)))) av h (Addr.add c 11) λx=>aJ ((decide (p<0)) || (decide (p>=(x.len:Int)))) λy=>(if y then
 Q 17 h
 else
 ai none m λd=>cT h d 11 λa=>((bJ a.base a.len p)/\aP none ah h (sat a.base 1 p) λf=>ai none f λe=>di h e 3 λg=>ae P M6 [(yI g)] bB (λr b=>(if (!r)=true then
 Q 18 b
 else
 Q 0 b)) h))
def Na (P:Program) (p:Option Addr) (lane:Int) (v:Int) (Q:(Int->(Hp->Prop))) (h:Hp):Prop:=
 ae P MY [(yP p),(yI lane)] bB (λr a=>(if (!r)=true then
 Q 2 a
 else
 ai none p λc=>cT a c 0 λx=>((bJ x.base x.len lane)/\aP none ah a (sat x.base 1 lane) λe=>ae P Ht [(yP e),(yI v)] yH (λd b=>Q d b) a))) h
def M4 (P:Program) (p:Option Addr) (lane:Int) (Q:(Hp->Prop)) (h:Hp):Prop:=
 ae P MY [(yP p),(yI lane)] bB (λr a=>(if r then
 ai none p λc=>cT a c 0 λx=>((bJ x.base x.len lane)/\aP none ah a (sat x.base 1 lane) λd=>aY P W5 [(yP d)] (λb=>Q b) a)
 else
 Q a)) h
def Sd (P:Program) (m:Option Addr) (q:Option Addr) (Q:(Hp->Prop)) (h:Hp):Prop:=
 ai none q λp=>di h p 3 λx=>(if (x==1)=true then
 ai none q λb=>bW h (Addr.add b 3) [(yI 0)] (λa=>Q a)
 else
 Q h)
def Sg (P:Program) (m:Option Addr) (p:Option Addr) (state:Int) (Q:(Hp->Prop)) (h:Hp):Prop:=
 ai none m λM=>cT h M 10 λx=>ai none p λS=>di h S 1 λE=>((bJ x.base x.len E)/\aP none ah h (sat x.base 1 E) λn=>ai none p λT=>bW h (Addr.add T 3) [(yI state)] (λJ=>ai none p λU=>bW J (Addr.add U 13) [(.bool false)] (λA=>ai none n λV=>cT A V 0 λo=>aC (α1:=Int) (λG k a=>(if decide (k<(o.len:Int)) then
 ((bJ o.base o.len k)/\aP none yH a (sat o.base 1 k) λq=>ai none m λv=>cT a v 11 λe=>((bJ e.base e.len q)/\aP none ah a (sat e.base 1 q) λb=>ai none b λw=>kM a w 14 λz=>ai none p λg=>di a g 0 λs=>ae P V0 [(yP z),(yI s)] bB (λr t=>G (yw (k+1)) t) a))
 else
 ai none n λv=>kM a v 5 λq=>ai none p λw=>di a w 0 λe=>ae P zvb [(yP q),(yI e)] av (λr t=>aC (α1:=Int) (λH l d=>(if decide (l<(r.len:Int)) then
 ((bJ r.base r.len l)/\aP none Nc d (sat r.base 2 l) λb=>aY P Cp [(yP m),(yI b.dd)] (λf=>H (yw (l+1)) f) d)
 else
 ai none n λg=>kM d g 6 λb=>ai none p λW=>di d W 0 λz=>ae P wz [(yI z)] yH (λX f=>(((aV f (Addr.add g 6) [(yP b)])/\True)/\ae P Cy [(yP b),(yI X)] bB (λr2 u=>ai none n λD=>kM u D 6 λs=>ai none p λN=>di u N 0 λx9=>ae P xA [(yI x9)] yH (λY B=>(((aV B (Addr.add D 6) [(yP s)])/\True)/\ae P Cy [(yP s),(yI Y)] bB (λr4 C=>ai none p λO=>kM C O 14 λZ=>ae P Hv [(yP Z)] av (λi K=>aC (α1:=Int) (λI j c=>(if decide (j<(i.len:Int)) then
 ((bJ i.base i.len j)/\aP none aF c (sat i.base 2 j) λF=>ai none m λR=>cT c R 11 λy=>((bJ y.base y.len F.dd)/\aP none ah c (sat y.base 1 F.dd) λa8=>aY P wu [(yP m),(yP a8),(yI 2)] (λL=>I (yw (j+1)) L) c))
 else
 Q c)) 0 K) C) B)) u) f)) d)) 0 t) a)) 0 A)))
def Fu (P:Program) (s:Sl) (Q:(Sl->(Hp->Prop))) (h:Hp):Prop:=
 iC none P (cX .eql 23 (.tmp 3) (.const yN) s.v yN) bB h λx=>(if x then
 Q ⟨none,0,0⟩ h
 else
 bc [] (λa b=>eS 1 8 [(yI 0)] ⟨(some a),0,0⟩ s (λr c=>Q r c) b) h)
def Ql (P:Program) (s:Sl) (Q:(Sl->(Hp->Prop))) (h:Hp):Prop:=
 iC none P (cX .eql 184 (.tmp 3) (.const yN) s.v yN) bB h λx=>(if x then
 Q ⟨none,0,0⟩ h
 else
 bc [] (λa b=>eS 1 8 [(yI 0)] ⟨(some a),0,0⟩ s (λr c=>Q r c) b) h)
def OY (P:Program) (s:Sl) (Q:(Sl->(Hp->Prop))) (h:Hp):Prop:=
 iC none P (cX .eql 185 (.tmp 3) (.const yN) s.v yN) bB h λx=>(if x then
 Q ⟨none,0,0⟩ h
 else
 bc [] (λa b=>eS 2 16 [(yI 0),(yI 0)] ⟨(some a),0,0⟩ s (λr c=>Q r c) b) h)
def Wb (P:Program) (l:Option Addr) (Q:(cH->(Hp->Prop))) (h:Hp):Prop:=
 ai none l λp=>cT h p 1 λx=>ai none l λg=>cT h g 2 λi=>ai none l λc=>di h c 3 λe=>ai none l λd=>di h d 4 λf=>ae P Qj [x.v] av (λr a=>(((aV a (Addr.add g 2) [i.v])/\((aV a (Addr.add c 3) [(yI e)])/\((aV a (Addr.add d 4) [(yI f)])/\True)))/\ae P OV [i.v] av (λj b=>(((aV b (Addr.add c 3) [(yI e)])/\((aV b (Addr.add d 4) [(yI f)])/\True))/\Q ⟨r,j,e,f⟩ b)) a)) h
def UG (P:Program) (s:Option Addr) (t:Int) (Q:(Int->(Hp->Prop))) (h:Hp):Prop:=
 (if decide (t<0) then
 Q (-1) h
 else
 ai none s λp=>cT h p 0 λx=>ai none s λb=>cT h b 0 λa=>((a.len:Int)≠0/\((bJ x.base x.len (Int.tmod t (a.len:Int)))/\aP none yH h (sat x.base 1 (Int.tmod t (a.len:Int))) λc=>Q c h)))
def SQ (P:Program) (m:Option Addr) (x:Option Addr) (Q:(Hp->Prop)) (h:Hp):Prop:=
 ai none x λp=>kM h p 6 λz=>ai none m λq=>di h q 9 λA=>ae P zvc [(yP z),(yI A)] av (λr o=>aC (α1:=Int) (λn e a=>(if decide (e<(r.len:Int)) then
 bF (λk=>((bJ r.base r.len e)/\aP none yH a (sat r.base 1 e) λi=>ai none m λs=>cT a s 11 λj=>((2:Int)≠(0:Int)/\((bJ j.base j.len (yw (Int.tdiv i (2:Int))))/\aP none ah a (sat j.base 1 (yw (Int.tdiv i (2:Int)))) λb=>ai none b λt=>di a t 0 λB=>ae P xA [(yI B)] yH (λy c=>(if (i==y)=true then
 ai none b λg=>aP none eJ c (Addr.add g 4) λl=>ae P wB [l.v] eJ (λr2 d=>aY P HH [(yP m),(yP b),r2.v] (λf=>k f) d) c
 else
 ai none b λg=>bW c (Addr.add g 13) [(.bool true)] (λd=>ai none b λu=>di d u 3 λl=>(if (l==(1:Int))=true then
 ai none b λw=>bW d (Addr.add w 3) [(yI (0:Int))] (λf=>k f)
 else
 k d)))) a))))
 (λc=>n (yw (e+(1:Int))) c)
 else
 Q a)) (0:Int) o) h
def Sj (P:Program) (m:Option Addr) (p:Option Addr) (Q:(Hp->Prop)) (h:Hp):Prop:=
 ai none p λH=>aP none eJ h (Addr.add H 4) λx=>ai none p λI=>cT h I 2 λS=>ai none m λJ=>di h J 9 λT=>ai none p λK=>di h K 0 λU=>bh P Dd [x.v,S.v,(yI T),(yI U)] eJ Dz (λr d F=>ai none p λL=>bW F (Addr.add L 4) [(yI r.PC),(yI r.cv),(yI r.cw),(yI r.cx),(yI r.cC),(yI r.cD),(yI r.cE),(yI r.cF),(yI r.cG)] (λu=>ai none m λM=>cT u M 10 λD=>ai none p λN=>di u N 1 λE=>((bJ D.base D.len E)/\aP none ah u (sat D.base 1 E) λn=>(if (d.Kind==1)=true then
 aY P MI [(yP m),(yP p),(yI 5)] (λb=>Q b) u
 else
 (if (d.Kind==2)=true then
 aY P Q6 [(yP m),(yP p),(yI d.To),(yI d.dV)] (λb=>Q b) u
 else
 cY (α1:=Bool) (λk=>(if (d.Kind==3)=true then
 k (d.Kind==3) u
 else
 k (d.Kind==4) u))
 (λR b=>(if R then
 aY P Q8 [(yP m),(yP p),(.bool (d.Kind==4))] (λc=>Q c) b
 else
 (if (d.Kind==5)=true then
 ai none p λq=>bW b (Addr.add q 13) [(.bool false)] (λc=>ai none n λs=>kM c s 6 λo=>ai none p λf=>di c f 0 λt=>ae P wz [(yI t)] yH (λr2 e=>(((aV e (Addr.add s 6) [(yP o)])/\True)/\ae P Cy [(yP o),(yI r2)] bB (λA i=>(if decide (d.dV>0) then
 ai none n λl=>kM i l 6 λg=>ai none p λC=>di i C 0 λy=>ai none m λz=>di i z 9 λB=>ae P wz [(yI y)] yH (λj w=>(((aV w (Addr.add l 6) [(yP g)])/\((aV w (Addr.add z 9) [(yI B)])/\(True/\True)))/\ae P wx [(yP g),(yI j),(yI (yw (B+(im d.dV 1099511627776))))] yH (λO G=>Q G) w)) i
 else
 Q i)) e)) c)
 else
 (if (d.Kind==6)=true then
 ai none n λq=>kM b q 6 λo=>ai none p λs=>di b s 0 λt=>ai none m λf=>di b f 9 λg=>ae P xA [(yI t)] yH (λr2 c=>(((aV c (Addr.add q 6) [(yP o)])/\((aV c (Addr.add f 9) [(yI g)])/\(True/\True)))/\ae P wx [(yP o),(yI r2),(yI (yw (g+(im (oK d.dV 1) 1099511627776))))] yH (λA e=>ai none p λl=>bW e (Addr.add l 3) [(yI 4)] (λi=>Q i)) c)) b
 else
 (if (d.Kind==7)=true then
 ai none n λq=>kM b q 5 λo=>ai none p λs=>di b s 0 λt=>bh P MW [(yP o),(yI d.To),(yI t)] bB yH (λr2 A c=>(if r2 then
 ai none p λf=>aP none eJ c (Addr.add f 4) λg=>ae P wB [g.v] eJ (λj e=>ai none p λl=>bW e (Addr.add l 4) [(yI j.PC),(yI j.cv),(yI j.cw),(yI j.cx),(yI j.cC),(yI j.cD),(yI j.cE),(yI j.cF),(yI j.cG)] (λi=>Q i)) c
 else
 ai none p λf=>bW c (Addr.add f 3) [(yI 3)] (λe=>Q e))) b
 else
 (if (d.Kind==8)=true then
 ai none n λq=>kM b q 5 λo=>ai none p λs=>di b s 0 λt=>ae P MT [(yP o),(yI t)] av (λr2 c=>((True/\True)/\ae P MC [r2.v,(yI d.To)] bB (λA e=>(if A then
 ai none n λf=>kM e f 5 λg=>ai none p λl=>di e l 0 λy=>bh P H8 [(yP g),(yI d.To),(yI y)] yH yH (λj O i=>aY P Cp [(yP m),(yI j)] (λw=>Q w) i) e
 else
 Q e)) c)) b
 else
 (if (d.Kind==9)=true then
 ai none n λq=>cT b q 2 λo=>ai none m λs=>aP none yH b (Addr.add (Addr.add s 0) 5) λt=>(if decide ((o.len:Int)<t) then
 ai none n λf=>cT b f 2 λg=>ai none m λl=>di b l 9 λy=>ai none p λC=>di b C 0 λB=>bc [(yI y),(yI B),(yI d.dV)] (λa c=>(((aV c (Addr.add f 2) [g.v])/\True)/\eS 3 24 [(yI 0),(yI 0),(yI 0)] g ⟨(some a),1,1⟩ (λr2 e=>ai none n λz=>bW e (Addr.add z 2) [r2.v] (λi=>Q i)) c)) b
 else
 ai none n λf=>di b f 3 λg=>ae P Nd [(yI g)] yH (λr2 c=>ai none n λl=>bW c (Addr.add l 3) [(yI r2)] (λe=>Q e)) b)
 else
 Q b)))))))))))) h
def zqc (P:Program) (l:Sl) (Q:(Int->(Int->(Hp->Prop)))) (h:Hp):Prop:=
 (if ((l.len:Int)==0)=true then
 Q 1 0 h
 else
 (if decide ((l.len:Int)>8) then
 Q 3 8 h
 else
 aC (α1:=Int) (λb i a=>(if decide (i<(l.len:Int)) then
 ((bJ l.base l.len i)/\aP none (af .u64) a (sat l.base 1 i) λx=>((bJ l.base l.len (yw (i-1)))/\aP none (af .u64) a (sat l.base 1 (yw (i-1))) λc=>(if (x==c)=true then
 Q 8 i a
 else
 ((bJ l.base l.len i)/\aP none (af .u64) a (sat l.base 1 i) λd=>((bJ l.base l.len (yw (i-1)))/\aP none (af .u64) a (sat l.base 1 (yw (i-1))) λe=>(if decide (d<e) then
 Q 7 i a
 else
 b (yw (i+1)) a))))))
 else
 Q 0 0 a)) 1 h))
def Ri (P:Program) (l:Sl) (parts:Int) (Q:(Int->(Hp->Prop))) (h:Hp):Prop:=
 (if ((l.len:Int)==0)=true then
 Q 1 h
 else
 (if decide ((l.len:Int)>64) then
 Q 3 h
 else
 aC (α1:=Int) (λc i a=>(if decide (i<(l.len:Int)) then
 ((bJ l.base l.len i)/\aP none yH a (sat l.base 1 i) λx=>ae P Co [(yI x),(yI 0),(yI (yw (parts-1)))] bB (λr b=>(if (!r)=true then
 Q 2 b
 else
 c (yw (i+1)) b)) a)
 else
 Q 0 a)) 0 h))
def Rj (P:Program) (n:Int) (a:Int) (dR:Int) (Q:(Bool->(Hp->Prop))) (h:Hp):Prop:=
 aJ ((decide (n>=a))&&(decide (n<=dR))) λy=>Q y h
def T1 (P:Program) (l:Sl) (ag:Int) (Q:(Int->(Int->(Hp->Prop)))) (h:Hp):Prop:=
 aJ ((decide (ag<0)) || (decide (ag>8))) λy=>(if y then
 Q 1 0 h
 else
 (if decide ((l.len:Int)>256) then
 Q 3 256 h
 else
 aC (α1:=Int) (λc i a=>(if decide (i<(l.len:Int)) then
 ((bJ l.base l.len i)/\aP none aM a (sat l.base 5 i) λx=>ae P znn [x.v,(yI (l.len:Int)),(yI ag)] yH (λr b=>(if (r !=0)=true then
 Q r i b
 else
 c (yw (i+1)) b)) a)
 else
 Q 0 0 a)) 0 h))
def zkr (P:Program) (n:Int) (a1:Addr) (Q:(Int->(Hp->Prop))) (h:Hp):Prop:=
 aP none ah h a1 λx=>ai none x λp=>cT h p 0 λa=>(if decide (n>=(a.len:Int)) then
 Q 2 h
 else
 Q 0 h)
def zro (P:Program) (n:Int) (a1:Addr) (Q:(Int->(Hp->Prop))) (h:Hp):Prop:=
 aP none gv h a1 λx=>fX P tb (.func (.func x.g) x.first x.captured) [(yI (yw n))] yH (λr a=>Q r a) h
def zrp (P:Program) (a0:Int) (Q:(Int->(Hp->Prop))) (h:Hp):Prop:=
 Q 0 h
def Cf (P:Program) (x:aL) (n:Int) (ag:Int) (Q:(Int->(Hp->Prop))) (h:Hp):Prop:=
 bh P Cc [x.v,(yI n),(yI ag)] yH yH (λr b a=>Q r a) h
def zwx (P:Program) (x:aL) (e:Int) (Q:(Int->(Hp->Prop))) (h:Hp):Prop:=
 (if (e==9)=true then
 Q 0 h
 else
 mH P Nf [(yI x.Op)] bB bB bB bB (λr j r2 l g=>bc [(.bool r),(yI x.A),(.bool j),(yI x.B),(.bool r2),(yI x.C)] (λa i=>aC (α1:=Int) (λf b c=>(if decide (b<3) then
 ((bJ (some a) 3 b)/\aP none HD c (sat (some a) 2 b) λd=>aJ (d.has&&(decide (d.n>=8))) λy=>aJ ((!d.has)&&(d.n !=0)) λy1=>aJ (y || y1) λk=>(if k then
 Q (yw (1+b)) c
 else
 f (yw (b+1)) c))
 else
 Q 4 c)) 0 i) g) h)
def Qm (P:Program) (s:Sl) (f:wg) (Q:(Int->(Hp->Prop))) (h:Hp):Prop:=
 aC (α1:=Int) (λd a b=>(if decide (a<(s.len:Int)) then
 ((bJ s.base s.len a)/\aP none yH b (sat s.base 1 a) λx=>fX P tb (.func (.func f.g) f.first f.captured) [(yI x)] bB (λr c=>(if r then
 Q a c
 else
 d (yw (a+1)) c)) b)
 else
 Q (-1) b)) 0 h
def zwy (P:Program) (p:Int) (a1:Addr) (Q:(Bool->(Hp->Prop))) (h:Hp):Prop:=
 aP (some (!(decide (p<0)))) yH h a1 λx=>aJ ((decide (p<0)) || (decide (p>=x))) λy=>Q y h
def Mz (P:Program) (s:Sl) (Q:(Sl->(Hp->Prop))) (h:Hp):Prop:=
 iC none P (cX .eql 22 (.tmp 3) (.const yN) s.v yN) bB h λx=>(if x then
 Q ⟨none,0,0⟩ h
 else
 bc [] (λa b=>eS 1 8 [(.int .u64 0)] ⟨(some a),0,0⟩ s (λr c=>Q r c) b) h)
def zfj (P:Program) (s:Sl) (Q:(Sl->(Hp->Prop))) (h:Hp):Prop:=
 iC none P (cX .eql 24 (.tmp 3) (.const yN) s.v yN) bB h λx=>(if x then
 Q ⟨none,0,0⟩ h
 else
 bc [] (λa b=>eS 2 32 [(yI 0),yN] ⟨(some a),0,0⟩ s (λr c=>Q r c) b) h)
def zfz (P:Program) (s:Sl) (Q:(Sl->(Hp->Prop))) (h:Hp):Prop:=
 iC none P (cX .eql 48 (.tmp 3) (.const yN) s.v yN) bB h λx=>(if x then
 Q ⟨none,0,0⟩ h
 else
 bc [] (λa b=>eS 5 40 [(yI 0),(yI 0),(yI 0),(yI 0),(yI 0)] ⟨(some a),0,0⟩ s (λr c=>Q r c) b) h)
def UH (P:Program) (l:Option Addr) (p:Int) (Q:(Int->(Bool->(Hp->Prop)))) (h:Hp):Prop:=
 ai none l λe=>cT h e 0 λx=>aC (α1:=Int) (λd a b=>(if decide (a<(x.len:Int)) then
 ((bJ x.base x.len a)/\aP none eO b (sat x.base 2 a) λf=>ae P MC [f.queue.v,(yI p)] bB (λr c=>(if r then
 Q a true c
 else
 d (yw (a+1)) c)) b)
 else
 Q 0 false b)) 0 h
def Dk (P:Program) (room:Int) (s:cH) (Q:(Option Addr->(Int->(Hp->Prop)))) (h:Hp):Prop:=
 bh P De [(yI room)] ah yH (λr c a=>(if (c !=0)=true then
 Q none c a
 else
 aJ ((decide ((s.dk.len:Int)>0))&&(decide ((s.fK.len:Int)<room))) λy=>aJ ((decide ((s.fK.len:Int)>room)) || y) λd=>dy (some (!d)) (ae P Ng [(yI s.kT),(yI 0),(yI 65535)] bB) (λr2 i=>aJ (d || (!r2)) λe=>dy (some (!e)) (ae P Ng [(yI s.ie),(yI 0),(yI 65535)] bB) (λw j=>aJ (e || (!w)) λf=>dy (some (!f)) (ae P JC [s.dk.v] bB) (λr4 b=>aJ (f || r4) λA=>(if A then
 Q none 4 b
 else
 ae P Qj [s.fK.v] av (λx k=>((True/\True)/\ae P OV [s.dk.v] av (λz l=>ai none r λp=>bW l (Addr.add p 1) [x.v] (λm=>ai none r λq=>bW m (Addr.add q 2) [z.v] (λn=>ai none r λt=>bW n (Addr.add t 3) [(yI s.kT)] (λo=>((True/\True)/\ai none r λu=>bW o (Addr.add u 4) [(yI s.ie)] (λg=>Q r 0 g)))))) k)) b)) j) i) a)) h
def MV (P:Program) (w:Option Addr) (dg:Int) (Q:(Bool->(Hp->Prop))) (h:Hp):Prop:=
 ai none w λp=>aP none fN h (Addr.add p 1) λx=>kR none (.int .i64) aR (.agg #[(yI 0),(yI 0)]) x (yI dg) h λn ok=>(if (!ok)=true then
 Q false h
 else
 ai none w λk=>cT h k 0 λc=>aC (α1:=Int) (λi b a=>(if decide (b<(c.len:Int)) then
 ((bJ c.base c.len b)/\aP none aR a (sat c.base 2 b) λf=>iC none P (cX .eql 203 (.tmp 30) (.tmp 31) f.v n.v) bB a λo=>(if o then
 ai none w λe=>cT a e 0 λq=>ae P zdk [q.v,(yI b),(yI (yw (b+1)))] av (λr d=>ai none w λl=>bW d (Addr.add l 0) [r.v] (λg=>ai none w λm=>aP none fN g (Addr.add m 1) λs=>vO (.int .i64) s (yI dg) (λj=>Q true j) g)) a
 else
 i (yw (b+1)) a))
 else
 ai none w λe=>aP none fN a (Addr.add e 1) λf=>vO (.int .i64) f (yI dg) (λd=>Q true d) a)) 0 h)
def Om (P:Program) (x:Sl) (target:ay) (cmp:wg) (Q:(Int->(Bool->(Hp->Prop)))) (h:Hp):Prop:=
 bD (α1:=Int) (α2:=Int) (λd i j b=>(if decide (i<j) then
 iT (α1:=Int) (α2:=Int) (λk=>((0:Int)<=(1:Int)/\((bJ x.base x.len (yw (gF .u64 (IntKind.wrap .u64 (yw (i+j))) (1:Int))))/\aP none aR b (sat x.base 2 (yw (gF .u64 (IntKind.wrap .u64 (yw (i+j))) (1:Int)))) λc=>fX P tb (.func (.func cmp.g) cmp.first cmp.captured) [c.v,target.v] yH (λr a=>(if decide (r<(0:Int)) then
 k (yw ((yw (gF .u64 (IntKind.wrap .u64 (yw (i+j))) (1:Int)))+(1:Int))) j a
 else
 k i (yw (gF .u64 (IntKind.wrap .u64 (yw (i+j))) (1:Int))) a)) b)))
 (λe f a=>d e f a)
 else
 (((decide (i<(x.len:Int)))=true->(bJ x.base x.len i))/\aP (some (decide (i<(x.len:Int)))) aR b (sat x.base 2 i) λc=>dy (some (decide (i<(x.len:Int)))) (fX P tb (.func (.func cmp.g) cmp.first cmp.captured) [c.v,target.v] yH) (λr a=>aJ ((decide (i<(x.len:Int)))&&(r==(0:Int))) λy=>Q i y a) b))) (0:Int) (x.len:Int) h
def zwz (P:Program) (a:ay) (b:ay) (Q:(Int->(Hp->Prop))) (h:Hp):Prop:=
 ae P zrh [(yI a.due),(yI b.due)] yH (λr c=>((True/\(True/\True))/\ae P zvd [(yI a.dg),(yI b.dg)] yH (λg d=>bc [(yI r),(yI g)] (λa1 e=>ae P JD [(.slice (some a1) 2 2)] yH (λr2 f=>Q r2 f) e) d) c)) h
def zdn (P:Program) (s:Sl) (i:Int) (v:Sl) (Q:(Sl->(Hp->Prop))) (h:Hp):Prop:=
 ((0<=i/\i<=(s.len:Int))/\aJ (α:=Sl) ⟨(aW s.base 2 (Int.toNat i) s.cap),(s.len-(Int.toNat i)),(s.cap-(Int.toNat i))⟩ λy=>(if ((v.len:Int)==0)=true then
 Q s h
 else
 (if (i==(s.len:Int))=true then
 eS 2 16 [(yI 0),(yI 0)] s v (λr b=>Q r b) h
 else
 (if (decide ((yw ((s.len:Int)+(v.len:Int)))>(s.cap:Int)))=true then
 ((0<=i/\i<=(s.cap:Int))/\aJ (α:=Sl) ⟨(aW s.base 2 0 s.cap),((Int.toNat i)-0),(s.cap-0)⟩ λa=>yq 2 16 [(yI 0),(yI 0)] a (yw ((yw ((s.len:Int)+(v.len:Int)))-i)) (λr b=>((0<=i/\i<=(r.len:Int))/\aJ (α:=Sl) ⟨(aW r.base 2 (Int.toNat i) r.cap),(r.len-(Int.toNat i)),(r.cap-(Int.toNat i))⟩ λg=>fD 2 g v (λj c=>((0<=(yw (i+(v.len:Int)))/\(yw (i+(v.len:Int)))<=(r.len:Int))/\aJ (α:=Sl) ⟨(aW r.base 2 (Int.toNat (yw (i+(v.len:Int)))) r.cap),(r.len-(Int.toNat (yw (i+(v.len:Int))))),(r.cap-(Int.toNat (yw (i+(v.len:Int)))))⟩ λe=>((0<=i/\i<=(s.len:Int))/\aJ (α:=Sl) ⟨(aW s.base 2 (Int.toNat i) s.cap),(s.len-(Int.toNat i)),(s.cap-(Int.toNat i))⟩ λf=>fD 2 e f (λr2 d=>Q r d) c))) b)) h)
 else
 ((0<=(yw ((s.len:Int)+(v.len:Int)))/\(yw ((s.len:Int)+(v.len:Int)))<=(s.cap:Int))/\aJ (α:=Sl) ⟨(aW s.base 2 0 s.cap),((Int.toNat (yw ((s.len:Int)+(v.len:Int))))-0),(s.cap-0)⟩ λa=>((0<=(yw (i+(v.len:Int)))/\(yw (i+(v.len:Int)))<=(a.len:Int))/\aJ (α:=Sl) ⟨(aW a.base 2 (Int.toNat (yw (i+(v.len:Int)))) a.cap),(a.len-(Int.toNat (yw (i+(v.len:Int))))),(a.cap-(Int.toNat (yw (i+(v.len:Int)))))⟩ λg=>jy P (Extern.SlicesOverlaps.overlaps #[205,205] #[4] #[v.v,g.v]) bB (λr b=>(if (!r)=true then
 ((0<=(yw (i+(v.len:Int)))/\(yw (i+(v.len:Int)))<=(a.len:Int))/\aJ (α:=Sl) ⟨(aW a.base 2 (Int.toNat (yw (i+(v.len:Int)))) a.cap),(a.len-(Int.toNat (yw (i+(v.len:Int))))),(a.cap-(Int.toNat (yw (i+(v.len:Int)))))⟩ λe=>((0<=i/\i<=(a.len:Int))/\aJ (α:=Sl) ⟨(aW a.base 2 (Int.toNat i) a.cap),(a.len-(Int.toNat i)),(a.cap-(Int.toNat i))⟩ λf=>fD 2 e f (λj c=>((0<=i/\i<=(a.len:Int))/\aJ (α:=Sl) ⟨(aW a.base 2 (Int.toNat i) a.cap),(a.len-(Int.toNat i)),(a.cap-(Int.toNat i))⟩ λk=>fD 2 k v (λr2 d=>Q a d) c)) b))
 else
 ((0<=(s.len:Int)/\(s.len:Int)<=(a.len:Int))/\aJ (α:=Sl) ⟨(aW a.base 2 (Int.toNat (s.len:Int)) a.cap),(a.len-(Int.toNat (s.len:Int))),(a.cap-(Int.toNat (s.len:Int)))⟩ λe=>fD 2 e v (λj c=>((0<=i/\i<=(a.len:Int))/\aJ (α:=Sl) ⟨(aW a.base 2 (Int.toNat i) a.cap),(a.len-(Int.toNat i)),(a.cap-(Int.toNat i))⟩ λf=>aY P zfi [f.v,(yI (v.len:Int))] (λd=>Q a d) c)) b))) h))))))
def HB (P:Program) (x:Int) (y:Int) (Q:(Int->(Int->(Hp->Prop)))) (h:Hp):Prop:=
 bh P V2 [(.int .u64 x),(.int .u64 y)] (af .u64) (af .u64) (λr b a=>Q r b a) h
def Rk (P:Program) (op:Int) (Q:(Bool->(Bool->(Bool->(Bool->(Hp->Prop)))))) (h:Hp):Prop:=
 (if (op==1)=true then
 Q true false false true h
 else
 cY (α1:=Bool) (λk=>(if (op==2)=true then
 k (op==2) h
 else
 (if (op==20)=true then
 k (op==20) h
 else
 (if (op==21)=true then
 k (op==21) h
 else
 (if (op==25)=true then
 k (op==25) h
 else
 k (op==26) h)))))
 (λl a=>(if l then
 Q true true false false a
 else
 cY (α1:=Bool) (λk=>(if (op==3)=true then
 k (op==3) a
 else
 (if (op==4)=true then
 k (op==4) a
 else
 (if (op==5)=true then
 k (op==5) a
 else
 (if (op==6)=true then
 k (op==6) a
 else
 (if (op==7)=true then
 k (op==7) a
 else
 (if (op==8)=true then
 k (op==8) a
 else
 (if (op==9)=true then
 k (op==9) a
 else
 (if (op==10)=true then
 k (op==10) a
 else
 (if (op==11)=true then
 k (op==11) a
 else
 (if (op==12)=true then
 k (op==12) a
 else
 (if (op==13)=true then
 k (op==13) a
 else
 k (op==14) a))))))))))))
 (λf b=>(if f then
 Q true true true false b
 else
 cY (α1:=Bool) (λk=>(if (op==15)=true then
 k (op==15) b
 else
 (if (op==16)=true then
 k (op==16) b
 else
 (if (op==17)=true then
 k (op==17) b
 else
 (if (op==18)=true then
 k (op==18) b
 else
 (if (op==19)=true then
 k (op==19) b
 else
 k (op==24) b))))))
 (λg d=>(if g then
 Q true true true false d
 else
 cY (α1:=Bool) (λk=>(if (op==22)=true then
 k (op==22) d
 else
 (if (op==29)=true then
 k (op==29) d
 else
 k (op==30) d)))
 (λi c=>(if i then
 Q false false false true c
 else
 (if (op==23)=true then
 Q true false false true c
 else
 cY (α1:=Bool) (λk=>(if (op==27)=true then
 k (op==27) c
 else
 (if (op==28)=true then
 k (op==28) c
 else
 (if (op==31)=true then
 k (op==31) c
 else
 (if (op==32)=true then
 k (op==32) c
 else
 k (op==33) c)))))
 (λj e=>(if j then
 Q true false false false e
 else
 Q false false false false e))))))))))))
def Qp (P:Program) (n:Int) (has:Bool) (Q:(Int->(Hp->Prop))) (h:Hp):Prop:=
 aJ ((!has)&&(n !=0)) λy=>(if y then
 Q 11 h
 else
 aJ ((decide (n<0)) || (decide (n>=8))) λa=>aJ (has&&a) λb=>(if b then
 Q 10 h
 else
 Q 0 h))
def Yz (P:Program) (state:Int) (Q:(Bool->(Hp->Prop))) (h:Hp):Prop:=
 aJ ((state !=5)&&(state !=6)) λy=>Q y h
def Wd (P:Program) (p:Option Addr) (n:Int) (Q:(Bool->(Hp->Prop))) (h:Hp):Prop:=
 ai (some (decide (n>=0))) p λa=>aP (some (decide (n>=0))) av h (Addr.add a 0) λx=>aJ ((decide (n>=0))&&(decide (n<(x.len:Int)))) λy=>Q y h
def YB (P:Program) (l:Option Addr) (v:Int) (Q:(Int->(Hp->Prop))) (h:Hp):Prop:=
 ae P W8 [(yP l)] bB (λr b=>(if r then
 Q 19 b
 else
 ai none l λp=>cT b p 1 λx=>bc [(yI v)] (λa c=>eS 1 8 [(yI 0)] x ⟨(some a),1,1⟩ (λg d=>ai none l λf=>bW d (Addr.add f 1) [g.v] (λe=>Q 0 e)) c) b)) h
def Xn (P:Program) (l:Option Addr) (Q:(Hp->Prop)) (h:Hp):Prop:=
 ai none l λp=>di h p 4 λx=>ae P CT [(yI x)] yH (λr a=>ai none l λc=>bW a (Addr.add c 4) [(yI r)] (λb=>Q b)) h
def Wf (P:Program) (p:Option Addr) (proc:Int) (Q:(Bool->(Hp->Prop))) (h:Hp):Prop:=
 ai none p λc=>cT h c 0 λx=>bD (α1:=Bool) (α2:=Int) (λagain left t13 h1=>(if decide (t13<(x.len:Int)) then
 cY (α1:=Bool) (λk=>((bJ x.base x.len t13)/\aP none ah h1 (sat x.base 1 t13) λd=>ae P zve [(yP d),(yI proc)] bB (λr a=>(if r then
 k true a
 else
 k left a)) h1))
 (λb a=>again b (yw (t13+1)) a)
 else
 Q left h1)) false 0 h
def Wi (P:Program) (l:Option Addr) (p:Int) (Q:(Sl->(Hp->Prop))) (h:Hp):Prop:=
 ai none l λw=>cT h w 0 λx=>aC (α1:=Int) (λq c f=>(if decide (c<(x.len:Int)) then
 bF (λk=>ai none l λy=>cT f y 0 λe=>((bJ e.base e.len c)/\aP none av f (Addr.add (sat e.base 2 c) 1) λB=>ae P RZ [B.v,(yI p)] yH (λr b=>(if decide (r>=0) then
 ai none l λo=>cT b o 0 λi=>ai none l λz=>cT b z 0 λn=>((bJ n.base n.len c)/\aP none av b (Addr.add (sat n.base 2 c) 1) λC=>ae P zmp [C.v,(yI r),(yI (yw (r+1)))] av (λm d=>(((aV d (Addr.add o 0) [i.v])/\True)/\((bJ i.base i.len c)/\bW d (Addr.add (sat i.base 2 c) 1) [m.v] (λj=>k j)))) b)
 else
 k b)) f))
 (λb=>q (yw (c+1)) b)
 else
 ae P MT [(yP l),(yI p)] av (λr b=>bD (α1:=Sl) (α2:=Int) (λs out g d=>(if decide (g<(r.len:Int)) then
 ((bJ r.base r.len g)/\aP none yH d (sat r.base 1 g) λe=>bh P H8 [(yP l),(yI e),(yI p)] yH yH (λm r2 j=>bc [(yI e),(yI m)] (λa t=>eS 2 16 [(yI 0),(yI 0)] ⟨out.base,out.len,out.cap⟩ ⟨(some a),1,1⟩ (λA u=>s A (yw (g+1)) u) t) j) d)
 else
 Q ⟨out.base,out.len,out.cap⟩ d)) ⟨none,0,0⟩ 0 b) f)) 0 h
def Rl (P:Program) (m:Option Addr) (kf:Int) (Q:(Hp->Prop)) (h:Hp):Prop:=
 (if decide (kf>=0) then
 ai none m λp=>cT h p 11 λx=>((bJ x.base x.len kf)/\aP none ah h (sat x.base 1 kf) λc=>ai none m λe=>cT h e 11 λb=>((bJ b.base b.len kf)/\aP none ah h (sat b.base 1 kf) λg=>ai none g λf=>aP none eJ h (Addr.add f 4) λi=>ae P wB [i.v] eJ (λr a=>(((aV a (Addr.add p 11) [x.v])/\((aV a (sat x.base 1 kf) [(yP c)])/\True))/\aY P HH [(yP m),(yP c),r.v] (λd=>Q d) a)) h))
 else
 Q h)
def YE (P:Program) (p:Option Addr) (Q:(Sl->(Hp->Prop))) (h:Hp):Prop:=
 ai none p λf=>cT h f 0 λx=>bD (α1:=Sl) (α2:=Int) (λc out a b=>(if decide (a<(x.len:Int)) then
 ((bJ x.base x.len a)/\aP none ah b (sat x.base 1 a) λi=>ae P Hw [(yP i)] av (λr d=>eS 2 16 [(yI 0),(yI 0)] ⟨out.base,out.len,out.cap⟩ r (λg e=>c g (yw (a+1)) e) d) b)
 else
 Q ⟨out.base,out.len,out.cap⟩ b)) ⟨none,0,0⟩ 0 h
def Qq (P:Program) (m:Option Addr) (p:Option Addr) (e:Int) (Q:(Hp->Prop)) (h:Hp):Prop:=
 ai none p λc=>aP none eJ h (Addr.add c 4) λx=>ai none p λd=>cT h d 2 λf=>ae P Lb [x.v,f.v,(yI e)] eJ (λr a=>aY P HH [(yP m),(yP p),r.v] (λb=>Q b) a) h
def M3 (P:Program) (w:Option Addr) (k:Int) (Q:(Sl->(Hp->Prop))) (h:Hp):Prop:=
 aC (α1:=Sl) (λf out b=>ai none w λp=>cT b p 0 λx=>ai (some (decide ((x.len:Int)>0))) w λl=>aP (some (decide ((x.len:Int)>0))) av b (Addr.add l 0) λc=>(((decide ((x.len:Int)>0))=true->(bJ c.base c.len 0))/\aP (some (decide ((x.len:Int)>0))) yH b (Addr.add (sat c.base 2 0) 0) λn=>aJ ((decide ((x.len:Int)>0))&&(decide (n<=k))) λy=>(if y then
 ai none w λm=>cT b m 0 λd=>((bJ d.base d.len 0)/\aP none yH b (Addr.add (sat d.base 2 0) 1) λe=>bc [(yI e)] (λa g=>eS 1 8 [(yI 0)] out ⟨(some a),1,1⟩ (λr i=>ae P Cy [(yP w),(yI e)] bB (λo j=>f r j) i) g) b)
 else
 Q out b))) ⟨none,0,0⟩ h
def Sn (P:Program) (m:Option Addr) (p:Option Addr) (c:aX) (Q:(Hp->Prop)) (h:Hp):Prop:=
 ai none p λd=>bW h (Addr.add d 3) [(yI 0)] (λa=>((True/\True)/\ai none p λe=>bW a (Addr.add e 4) [(yI c.PC),(yI c.cv),(yI c.cw),(yI c.cx),(yI c.cC),(yI c.cD),(yI c.cE),(yI c.cF),(yI c.cG)] (λb=>Q b)))
def Dl (P:Program) (c:aX) (Q:(aX->(Hp->Prop))) (h:Hp):Prop:=
 Q ⟨(yw (c.PC+1)),c.cv,c.cw,c.cx,c.cC,c.cD,c.cE,c.cF,c.cG⟩ h
def Dm (P:Program) (c:aX) (l:Sl) (tick:Int) (H:Int) (Q:(aX->(eD->(Hp->Prop)))) (h:Hp):Prop:=
 bc [(yI c.PC),(yI c.cv),(yI c.cw),(yI c.cx),(yI c.cC),(yI c.cD),(yI c.cE),(yI c.cF),(yI c.cG)] (λa o=>aP none eJ o a λx=>bh P vD [x.v,l.v] aM bB (λr q w=>dy (some (!(!q))) (ae P Np [r.v,(yI (l.len:Int)),(yI 8)] yH) (λr2 j=>aJ ((!q) || (r2 !=0)) λy=>(if y then
 aP none eJ j a λn=>Q n ⟨1,0,0⟩ j
 else
 aP none wA j (Addr.add a 1) λn=>fW P CU [r.v,n.v] Dz bB bB (λs D E e=>(if E then
 (if D then
 aP none eJ e a λb=>((True/\True)/\Q b s e)
 else
 aP none eJ e a λb=>ae P wB [b.v] eJ (λi d=>((True/\True)/\((True/\True)/\Q i s d))) e)
 else
 aP none wA e (Addr.add a 1) λb=>iT (α1:=aX) (α2:=eD) (λk=>(if (r.Op==1)=true then
 aY P vx [(yP (some a)),(yI r.A),(yI r.jm)] (λd=>k ⟨0,0,0,0,0,0,0,0,0⟩ ⟨0,0,0⟩ d) e
 else
 (if (r.Op==2)=true then
 ((0<=r.B/\r.B<8)/\∃f:Int,((List.get?Internal (α:=Value) [(yI b.a0),(yI b.a1),(yI b.a2),(yI b.a3),(yI b.a4),(yI b.a5),(yI b.a6),(yI b.a7)] (0+((Int.toNat r.B)*1)))=(some (yI f))/\aY P vx [(yP (some a)),(yI r.A),(yI f)] (λd=>k ⟨0,0,0,0,0,0,0,0,0⟩ ⟨0,0,0⟩ d) e))
 else
 (if (r.Op==32)=true then
 aY P vx [(yP (some a)),(yI r.A),(yI tick)] (λd=>k ⟨0,0,0,0,0,0,0,0,0⟩ ⟨0,0,0⟩ d) e
 else
 (if (r.Op==33)=true then
 aY P vx [(yP (some a)),(yI r.A),(yI H)] (λd=>k ⟨0,0,0,0,0,0,0,0,0⟩ ⟨0,0,0⟩ d) e
 else
 (if (r.Op==22)=true then
 bW e (Addr.add a 0) [(yI r.jm)] (λd=>aP none eJ d a λf=>Q f ⟨0,0,0⟩ d)
 else
 (if (r.Op==23)=true then
 ((0<=r.A/\r.A<8)/\∃f:Int,((List.get?Internal (α:=Value) [(yI b.a0),(yI b.a1),(yI b.a2),(yI b.a3),(yI b.a4),(yI b.a5),(yI b.a6),(yI b.a7)] (0+((Int.toNat r.A)*1)))=(some (yI f))/\(if (f==0)=true then
 k ⟨0,0,0,0,0,0,0,0,0⟩ ⟨0,0,0⟩ e
 else
 bW e (Addr.add a 0) [(yI r.jm)] (λd=>aP none eJ d a λm=>Q m ⟨0,0,0⟩ d))))
 else
 ((0<=r.B/\r.B<8)/\∃f:Int,((List.get?Internal (α:=Value) [(yI b.a0),(yI b.a1),(yI b.a2),(yI b.a3),(yI b.a4),(yI b.a5),(yI b.a6),(yI b.a7)] (0+((Int.toNat r.B)*1)))=(some (yI f))/\((0<=r.C/\r.C<8)/\∃m:Int,((List.get?Internal (α:=Value) [(yI b.a0),(yI b.a1),(yI b.a2),(yI b.a3),(yI b.a4),(yI b.a5),(yI b.a6),(yI b.a7)] (0+((Int.toNat r.C)*1)))=(some (yI m))/\bh P EL [(yI r.Op),(yI f),(yI m)] yH yH (λi F d=>cY (α1:=Int) (λp=>(if (F !=0)=true then
 ((0<=r.B/\r.B<8)/\∃t:Int,((List.get?Internal (α:=Value) [(yI b.a0),(yI b.a1),(yI b.a2),(yI b.a3),(yI b.a4),(yI b.a5),(yI b.a6),(yI b.a7)] (0+((Int.toNat r.B)*1)))=(some (yI t))/\((0<=r.C/\r.C<8)/\∃u:Int,((List.get?Internal (α:=Value) [(yI b.a0),(yI b.a1),(yI b.a2),(yI b.a3),(yI b.a4),(yI b.a5),(yI b.a6),(yI b.a7)] (0+((Int.toNat r.C)*1)))=(some (yI u))/\bh P EM [(yI r.Op),(yI t),(yI u)] yH yH (λG I g=>p G g) d))))
 else
 p i d))
 (λv g=>aY P vx [(yP (some a)),(yI r.A),(yI v)] (λz=>k ⟨0,0,0,0,0,0,0,0,0⟩ ⟨0,0,0⟩ z) g)) e)))))))))))
 (λJ K d=>aP none eJ d a λf=>ae P wB [f.v] eJ (λi g=>Q i ⟨0,0,0⟩ g) d))) j)) w) o) h
def Rm (P:Program) (m:Option Addr) (p:Option Addr) (to:Int) (v:Int) (Q:(Hp->Prop)) (h:Hp):Prop:=
 ai (some (!(decide (to<0)))) m λC=>aP (some (!(decide (to<0)))) av h (Addr.add C 11) λx=>aJ ((decide (to<0)) || (decide (to>=(x.len:Int)))) λy=>(if y then
 aY P wu [(yP m),(yP p),(yI 1)] (λa=>Q a) h
 else
 ai none m λE=>cT h E 11 λz=>((bJ z.base z.len to)/\aP none ah h (sat z.base 1 to) λe=>ai none m λF=>kM h F 7 λI=>ai none p λG=>di h G 1 λJ=>ai none e λH=>di h H 1 λK=>ae P zri [(yP I),(yI J),(yI K)] bB (λr a=>(if (!r)=true then
 ai none m λl=>cT a l 10 λf=>ai none p λn=>di a n 1 λg=>((bJ f.base f.len g)/\aP none ah a (sat f.base 1 g) λq=>ai none m λu=>cT a u 10 λj=>ai none p λw=>di a w 1 λo=>((bJ j.base j.len o)/\aP none ah a (sat j.base 1 o) λA=>ai none A λs=>di a s 4 λB=>ae P Nd [(yI B)] yH (λd b=>(((aV b (Addr.add l 10) [f.v])/\((aV b (Addr.add n 1) [(yI g)])/\((aV b (sat f.base 1 g) [(yP q)])/\True)))/\ai none q λt=>bW b (Addr.add t 4) [(yI d)] (λc=>aY P wu [(yP m),(yP p),(yI 0)] (λi=>Q i) c))) a))
 else
 ai none p λl=>di a l 1 λf=>ai none e λn=>di a n 1 λg=>(if (f==g)=true then
 aY P QD [(yP m),(yP p),(yP e),(yI v)] (λb=>Q b) a
 else
 bF (λk=>ai none e λu=>di a u 3 λq=>ae P M6 [(yI q)] bB (λd b=>ai (some (!(!d))) e λw=>aP (some (!(!d))) ah b (Addr.add w 14) λj=>ai (some (!(!d))) p λs=>aP (some (!(!d))) yH b (Addr.add s 1) λo=>dy (some (!(!d))) (ae P M5 [(yP j),(yI o),(yI v)] yH) (λr2 c=>aJ ((!d) || (r2 !=0)) λL=>(if L then
 ai none e λt=>kM c t 14 λA=>ai none p λD=>di c D 1 λB=>aY P I7 [(yP A),(yI B)] (λi=>k i) c
 else
 aY P HF [(yP m),(yP e)] (λi=>k i) c)) b) a)
 (λb=>aY P wu [(yP m),(yP p),(yI 0)] (λc=>Q c) b)))) h))
def Rn (P:Program) (m:Option Addr) (p:Option Addr) (w:Bool) (Q:(Hp->Prop)) (h:Hp):Prop:=
 ai none p λo=>kM h o 14 λx=>y9 P Xb [(yP x)] yH yH aF bB yH (λr s r2 t u b=>(if (u==0)=true then
 ai none p λl=>aP none eJ b (Addr.add l 4) λn=>ai none p λe=>cT b e 2 λj=>ae P xw [n.v,j.v,(yI r),(yI s)] eJ (λa c=>ai none p λg=>bW c (Addr.add g 4) [(yI a.PC),(yI a.cv),(yI a.cw),(yI a.cx),(yI a.cC),(yI a.cD),(yI a.cE),(yI a.cF),(yI a.cG)] (λd=>(if t then
 ai none m λi=>cT d i 11 λf=>((bJ f.base f.len r2.dd)/\aP none ah d (sat f.base 1 r2.dd) λy=>aY P wu [(yP m),(yP y),(yI 0)] (λk=>Q k) d)
 else
 Q d))) b
 else
 ai none p λl=>aP none bB b (Addr.add l 13) λn=>(if n then
 ai none p λe=>bW b (Addr.add e 13) [(.bool false)] (λc=>ai none p λg=>aP none eJ c (Addr.add g 4) λj=>ai none p λi=>cT c i 2 λf=>ae P xw [j.v,f.v,(yI 0),(yI (-2))] eJ (λa d=>ai none p λq=>bW d (Addr.add q 4) [(yI a.PC),(yI a.cv),(yI a.cw),(yI a.cx),(yI a.cC),(yI a.cD),(yI a.cE),(yI a.cF),(yI a.cG)] (λk=>Q k)) c)
 else
 (if w then
 ai none p λe=>aP none eJ b (Addr.add e 4) λj=>ai none p λg=>cT b g 2 λf=>ae P xw [j.v,f.v,(yI 0),(yI (-1))] eJ (λa c=>ai none p λi=>bW c (Addr.add i 4) [(yI a.PC),(yI a.cv),(yI a.cw),(yI a.cx),(yI a.cC),(yI a.cD),(yI a.cE),(yI a.cF),(yI a.cG)] (λd=>Q d)) b
 else
 ai none p λe=>bW b (Addr.add e 3) [(yI 1)] (λc=>Q c))))) h
def Vz (P:Program) (l:Option Addr) (n:Int) (p:Int) (Q:(Bool->(Int->(Hp->Prop)))) (h:Hp):Prop:=
 ae P UB [(yP l),(yI n),(yI p)] yH (λr i=>(if (r !=0)=true then
 Q false r i
 else
 bh P MR [(yP l),(yI p)] yH bB (λy r2 c=>(if r2 then
 Q false 20 c
 else
 ai none l λq=>cT c q 0 λx=>((bJ x.base x.len n)/\bF (λk=>ai none (some (sat x.base 2 n)) λe=>di c e 0 λf=>(if (f==(-1))=true then
 ai none (some (sat x.base 2 n)) λd=>bW c (Addr.add d 0) [(yI p)] (λb=>k b)
 else
 k c))
 (λb=>ai none (some (sat x.base 2 n)) λe=>di b e 0 λf=>(if (f !=p)=true then
 ai none (some (sat x.base 2 n)) λd=>cT b d 1 λg=>bc [(yI p)] (λa m=>eS 1 8 [(yI 0)] g ⟨(some a),1,1⟩ (λu o=>ai none (some (sat x.base 2 n)) λs=>bW o (Addr.add s 1) [u.v] (λj=>ai none (some (sat x.base 2 n)) λt=>di j t 0 λw=>Q (w==p) 0 j)) m) b
 else
 ai none (some (sat x.base 2 n)) λd=>di b d 0 λg=>Q (g==p) 0 b))))) i)) h
def Qr (P:Program) (s:Sl) (v:Int) (Q:(Bool->(Hp->Prop))) (h:Hp):Prop:=
 ae P RZ [s.v,(yI v)] yH (λr a=>Q (decide (r>=0)) a) h
def UJ (P:Program) (l:Option Addr) (p:Int) (Q:(Sl->(Hp->Prop))) (h:Hp):Prop:=
 ai none l λi=>cT h i 0 λx=>bD (α1:=Sl) (α2:=Int) (λe out b c=>(if decide (b<(x.len:Int)) then
 cY (α1:=Sl) (λk=>((bJ x.base x.len b)/\aP none eO c (sat x.base 2 b) λj=>aJ ((j.owner==p)&&(p !=(-1))) λy=>(if y then
 bc [(yI b)] (λa d=>eS 1 8 [(yI 0)] ⟨out.base,out.len,out.cap⟩ ⟨(some a),1,1⟩ (λr f=>k r f) d) c
 else
 k ⟨out.base,out.len,out.cap⟩ c)))
 (λg d=>e g (yw (b+1)) d)
 else
 Q ⟨out.base,out.len,out.cap⟩ c)) ⟨none,0,0⟩ 0 h
def VB (P:Program) (l:Option Addr) (n:Int) (p:Int) (Q:(Int->(Int->(Hp->Prop)))) (h:Hp):Prop:=
 ae P UB [(yP l),(yI n),(yI p)] yH (λr a=>(if (r !=(0:Int))=true then
 Q (0:Int) r a
 else
 ai none l λo=>cT a o 0 λx=>((bJ x.base x.len n)/\ai none (some (sat x.base 2 n)) λs=>di a s 0 λA=>(if (A !=p)=true then
 ai none (some (sat x.base 2 n)) λe=>di a e 0 λi=>Q i (0:Int) a
 else
 ai none (some (sat x.base 2 n)) λe=>cT a e 1 λi=>(if ((i.len:Int)==(0:Int))=true then
 ai none (some (sat x.base 2 n)) λf=>bW a (Addr.add f 0) [(yI (-1:Int))] (λb=>ai none (some (sat x.base 2 n)) λg=>di b g 0 λc=>Q c (0:Int) b)
 else
 ai none (some (sat x.base 2 n)) λf=>cT a f 1 λc=>((bJ c.base c.len (0:Int))/\aP none yH a (sat c.base 1 (0:Int)) λB=>ai none (some (sat x.base 2 n)) λg=>bW a (Addr.add g 0) [(yI B)] (λb=>ai none (some (sat x.base 2 n)) λt=>cT b t 1 λm=>ai none (some (sat x.base 2 n)) λu=>cT b u 1 λj=>ai none (some (sat x.base 2 n)) λw=>cT b w 1 λd=>(((0:Int)<=(1:Int)/\((1:Int)<=(j.len:Int)/\((j.len:Int)<=(d.len:Int)/\(d.len:Int)<=(m.cap:Int))))/\aJ (α:=Sl) ⟨(aW m.base 1 1 (Int.toNat (d.len:Int))),((Int.toNat (j.len:Int))-1),((Int.toNat (d.len:Int))-1)⟩ λy=>ai none (some (sat x.base 2 n)) λz=>bW b (Addr.add z 1) [y.v] (λk=>ai none (some (sat x.base 2 n)) λq=>di k q 0 λC=>Q C (0:Int) k))))))))) h
def ZL (P:Program) (n:Int) (Q:(Int->(Hp->Prop))) (h:Hp):Prop:=
 Q (im (yw (n+1)) 65535) h
def Sr (P:Program) (x:aL) (n:Int) (ag:Int) (Q:(Int->(Hp->Prop))) (h:Hp):Prop:=
 bh P MH [x.v,(yI n),(yI ag)] yH yH (λr b a=>Q r a) h
def Ci (P:Program) (x:aL) (n:Int) (ag:Int) (Q:(Int->(Int->(Hp->Prop)))) (h:Hp):Prop:=
 aJ ((decide (x.Op<0)) || (decide (x.Op>=34))) λy=>(if y then
 Q 9 0 h
 else
 mH P Nf [(yI x.Op)] bB bB bB bB (λr j r2 k g=>ae P M7 [(.bool r),(yI x.A)] yH (λd a=>(if (d !=0)=true then
 Q d 1 a
 else
 ae P M7 [(.bool j),(yI x.B)] yH (λe b=>(if (e !=0)=true then
 Q e 2 b
 else
 ae P M7 [(.bool r2),(yI x.C)] yH (λf c=>(if (f !=0)=true then
 Q f 3 c
 else
 ae P Ja [x.v,(.bool k),(yI n),(yI ag)] yH (λl i=>Q l 4 i) c)) b)) a)) g) h)
def zxa (P:Program) (op:Int) (Q:(Bool->(Bool->(Bool->(Bool->(Hp->Prop)))))) (h:Hp):Prop:=
 ae P Jb [(yI op)] lY (λr b=>bc [(.string ⟨#[]⟩)] (λa c=>bW c a [(.string r)] (λd=>fX P tb (.func (.func 215) #[] #[(yP (some a))]) [(.string ⟨#[97]⟩)] bB (λj e=>fX P tb (.func (.func 215) #[] #[(yP (some a))]) [(.string ⟨#[98]⟩)] bB (λr2 f=>fX P tb (.func (.func 215) #[] #[(yP (some a))]) [(.string ⟨#[99]⟩)] bB (λk g=>fX P tb (.func (.func 215) #[] #[(yP (some a))]) [(.string ⟨#[105]⟩)] bB (λl i=>Q j r2 k l i) g) f) e) d)) b) h
def Dn (P:Program) (room:Int) (Q:(Option Addr->(Int->(Hp->Prop)))) (h:Hp):Prop:=
 ae P Ng [(yI room),(yI 1),(yI 64)] bB (λr b=>(if (!r)=true then
 Q none 1 b
 else
 bc [(yI room),yN,yN,(yI 0),(yI 0)] (λa c=>Q (some a) 0 c) b)) h
def Nh (P:Program) (n:Int) (from_:Int) (to:Int) (Q:(Bool->(Hp->Prop))) (h:Hp):Prop:=
 aJ ((decide (n>=from_))&&(decide (n<=to))) λy=>Q y h
def Ck (P:Program) (l:Sl) (Q:(Bool->(Hp->Prop))) (h:Hp):Prop:=
 ER  (λr e=>aC (α1:=Int) (λd b a=>(if decide (b<(l.len:Int)) then
 ((bJ l.base l.len b)/\aP none aF a (sat l.base 2 b) λx=>kR none (.int .i64) yH (yI 0) r (yI x.dd) a λf ok=>uh (.int .i64) r (yI x.dd) (yI (yw (f+1))) (λc=>kR none (.int .i64) yH (yI 0) r (yI x.dd) c λg i=>(if decide (g>1) then
 Q true c
 else
 d (yw (b+1)) c)) a)
 else
 Q false a)) 0 e) h
def zdo (P:Program) (s:Sl) (i:Int) (j:Int) (Q:(Sl->(Hp->Prop))) (h:Hp):Prop:=
 ((0<=i/\(i<=j/\(j<=(s.len:Int)/\(s.len:Int)<=(s.cap:Int))))/\aJ (α:=Sl) ⟨(aW s.base 2 (Int.toNat i) (Int.toNat (s.len:Int))),((Int.toNat j)-(Int.toNat i)),((Int.toNat (s.len:Int))-(Int.toNat i))⟩ λy=>(if (i==j)=true then
 Q s h
 else
 ((0<=i/\i<=(s.cap:Int))/\aJ (α:=Sl) ⟨(aW s.base 2 0 s.cap),((Int.toNat i)-0),(s.cap-0)⟩ λc=>((0<=j/\j<=(s.len:Int))/\aJ (α:=Sl) ⟨(aW s.base 2 (Int.toNat j) s.cap),(s.len-(Int.toNat j)),(s.cap-(Int.toNat j))⟩ λd=>eS 2 16 [(yI 0),(yI 0)] c d (λr a=>((0<=(r.len:Int)/\((r.len:Int)<=(s.len:Int)/\(s.len:Int)<=(r.cap:Int)))/\aJ (α:=Sl) ⟨(aW r.base 2 (Int.toNat (r.len:Int)) r.cap),((Int.toNat (s.len:Int))-(Int.toNat (r.len:Int))),(r.cap-(Int.toNat (r.len:Int)))⟩ λe=>lT P (Builtin.clear_ #[205] 0 #[e.v]) sW (λb=>Q r b) a)) h))))
def Cl (P:Program) (dN:Sl) (Q:(Int->(Hp->Prop))) (h:Hp):Prop:=
 aC (α1:=Int) (λc b a=>(if decide (b<(dN.len:Int)) then
 ((bJ dN.base dN.len b)/\aP none yH a (sat dN.base 1 b) λx=>(if (x !=0)=true then
 Q x a
 else
 c (yw (b+1)) a))
 else
 Q 0 a)) 0 h
def UK (P:Program) (x:Int) (y:Int) (Q:(Int->(Hp->Prop))) (h:Hp):Prop:=
 ae P V4 [(yI x)] bB (λr c=>ae P V4 [(yI y)] bB (λb a=>(if r then
 (if b then
 Q 0 a
 else
 Q (-1) a)
 else
 (if b then
 Q 1 a
 else
 (if decide (x<y) then
 Q (-1) a
 else
 (if decide (x>y) then
 Q 1 a
 else
 Q 0 a))))) c) h
def Wk (P:Program) (x:Int) (y:Int) (Q:(Int->(Hp->Prop))) (h:Hp):Prop:=
 ae P Yq [(yI x)] bB (λr c=>ae P Yq [(yI y)] bB (λb a=>(if r then
 (if b then
 Q 0 a
 else
 Q (-1) a)
 else
 (if b then
 Q 1 a
 else
 (if decide (x<y) then
 Q (-1) a
 else
 (if decide (x>y) then
 Q 1 a
 else
 Q 0 a))))) c) h
def Wm (P:Program) (x:Int) (y:Int) (Q:(Int->(Int->(Hp->Prop)))) (h:Hp):Prop:=
 ((0:Int)<=(32:Int)/\((0:Int)<=(32:Int)/\((0:Int)<=(32:Int)/\((0:Int)<=(32:Int)/\((0:Int)<=(32:Int)/\Q (IntKind.wrap .u64 ((IntKind.wrap .u64 ((IntKind.wrap .u64 ((gF .u64 x (32:Int))*(gF .u64 y (32:Int))))+(gF .u64 (IntKind.wrap .u64 ((IntKind.wrap .u64 ((gF .u64 x (32:Int))*(du .and .u64 y (4294967295:Int))))+(gF .u64 (IntKind.wrap .u64 ((du .and .u64 x (4294967295:Int))*(du .and .u64 y (4294967295:Int)))) (32:Int)))) (32:Int))))+(gF .u64 (IntKind.wrap .u64 ((du .and .u64 (IntKind.wrap .u64 ((IntKind.wrap .u64 ((gF .u64 x (32:Int))*(du .and .u64 y (4294967295:Int))))+(gF .u64 (IntKind.wrap .u64 ((du .and .u64 x (4294967295:Int))*(du .and .u64 y (4294967295:Int)))) (32:Int)))) (4294967295:Int))+(IntKind.wrap .u64 ((du .and .u64 x (4294967295:Int))*(gF .u64 y (32:Int)))))) (32:Int)))) (IntKind.wrap .u64 (x*y)) h)))))
def Xq (P:Program) (l:Option Addr) (Q:(Bool->(Hp->Prop))) (h:Hp):Prop:=
 ai none l λp=>cT h p 1 λx=>ai none l λa=>di h a 0 λb=>Q (decide ((x.len:Int)>=b)) h
def CY (P:Program) (n:Int) (Q:(Int->(Hp->Prop))) (h:Hp):Prop:=
 Q (im (yw (n+1)) 65535) h
def Wn (P:Program) (l:Option Addr) (p:Int) (Q:(Bool->(Hp->Prop))) (h:Hp):Prop:=
 ae P V5 [(yP l),(yI p)] yH (λr a=>(if decide (r<0) then
 Q false a
 else
 ai none l λd=>cT a d 2 λx=>ae P zdu [x.v,(yI r),(yI (yw (r+1)))] av (λf b=>ai none l λe=>bW b (Addr.add e 2) [f.v] (λc=>Q true c)) a)) h
def Su (P:Program) (s:Sl) (v:Int) (Q:(Int->(Hp->Prop))) (h:Hp):Prop:=
 aC (α1:=Int) (λc a b=>(if decide (a<(s.len:Int)) then
 ((bJ s.base s.len a)/\aP none yH b (sat s.base 1 a) λx=>(if (v==x)=true then
 Q a b
 else
 c (yw (a+1)) b))
 else
 Q (-1) b)) 0 h
def Rp (P:Program) (s:Sl) (i:Int) (j:Int) (Q:(Sl->(Hp->Prop))) (h:Hp):Prop:=
 ((0<=i/\(i<=j/\(j<=(s.len:Int)/\(s.len:Int)<=(s.cap:Int))))/\aJ (α:=Sl) ⟨(aW s.base 1 (Int.toNat i) (Int.toNat (s.len:Int))),((Int.toNat j)-(Int.toNat i)),((Int.toNat (s.len:Int))-(Int.toNat i))⟩ λy=>(if (i==j)=true then
 Q s h
 else
 ((0<=i/\i<=(s.cap:Int))/\aJ (α:=Sl) ⟨(aW s.base 1 0 s.cap),((Int.toNat i)-0),(s.cap-0)⟩ λc=>((0<=j/\j<=(s.len:Int))/\aJ (α:=Sl) ⟨(aW s.base 1 (Int.toNat j) s.cap),(s.len-(Int.toNat j)),(s.cap-(Int.toNat j))⟩ λd=>eS 1 8 [(yI 0)] c d (λr a=>((0<=(r.len:Int)/\((r.len:Int)<=(s.len:Int)/\(s.len:Int)<=(r.cap:Int)))/\aJ (α:=Sl) ⟨(aW r.base 1 (Int.toNat (r.len:Int)) r.cap),((Int.toNat (s.len:Int))-(Int.toNat (r.len:Int))),(r.cap-(Int.toNat (r.len:Int)))⟩ λe=>lT P (Builtin.clear_ #[23] 0 #[e.v]) sW (λb=>Q r b) a)) h))))
def YH (P:Program) (l:Option Addr) (Q:(Sl->(Hp->Prop))) (h:Hp):Prop:=
 ai none l λp=>cT h p 2 λx=>ai none l λd=>cT h d 2 λb=>ai none l λe=>cT h e 2 λa=>((0<=(b.len:Int)/\((b.len:Int)<=(a.len:Int)/\(a.len:Int)<=(x.cap:Int)))/\aJ (α:=Sl) ⟨(aW x.base 2 0 (Int.toNat (a.len:Int))),((Int.toNat (b.len:Int))-0),((Int.toNat (a.len:Int))-0)⟩ λy=>ai none l λf=>bW h (Addr.add f 2) [yN] (λc=>Q y c))
def Dp (P:Program) (c:aX) (code:Sl) (g:Int) (Q:(aX->(Hp->Prop))) (h:Hp):Prop:=
 bc [(yI c.PC),(yI c.cv),(yI c.cw),(yI c.cx),(yI c.cC),(yI c.cD),(yI c.cE),(yI c.cF),(yI c.cG)] (λa e=>bF (λk=>aP none eJ e a λx=>bh P vD [x.v,code.v] aM bB (λr f b=>(if f then
 aY P vx [(yP (some a)),(yI r.A),(yI g)] (λd=>k d) b
 else
 k b)) e)
 (λb=>aP none eJ b a λx=>ae P wB [x.v] eJ (λr d=>Q r d) b)) h
def EN (P:Program) (c:aX) (l:Sl) (Q:(aL->(Bool->(Hp->Prop)))) (h:Hp):Prop:=
 aJ ((decide (c.PC<0)) || (decide (c.PC>=(l.len:Int)))) λy=>(if y then
 Q ⟨0,0,0,0,0⟩ false h
 else
 ((bJ l.base l.len c.PC)/\aP none aM h (sat l.base 5 c.PC) λx=>Q x true h))
def CZ (P:Program) (x:aL) (r:gV) (Q:(eD->(Bool->(Bool->(Hp->Prop))))) (h:Hp):Prop:=
 (if (x.Op==0)=true then
 Q ⟨1,0,0⟩ true true h
 else
 (if (x.Op==24)=true then
 ((0<=x.B/\x.B<8)/\∃a:Int,((List.get?Internal (α:=Value) [(yI r.a0),(yI r.a1),(yI r.a2),(yI r.a3),(yI r.a4),(yI r.a5),(yI r.a6),(yI r.a7)] (0+((Int.toNat x.B)*1)))=(some (yI a))/\((0<=x.C/\x.C<8)/\∃b:Int,((List.get?Internal (α:=Value) [(yI r.a0),(yI r.a1),(yI r.a2),(yI r.a3),(yI r.a4),(yI r.a5),(yI r.a6),(yI r.a7)] (0+((Int.toNat x.C)*1)))=(some (yI b))/\Q ⟨2,a,b⟩ true true h))))
 else
 (if (x.Op==25)=true then
 Q ⟨3,0,0⟩ true true h
 else
 (if (x.Op==26)=true then
 Q ⟨4,0,0⟩ true true h
 else
 (if (x.Op==27)=true then
 ((0<=x.A/\x.A<8)/\∃a:Int,((List.get?Internal (α:=Value) [(yI r.a0),(yI r.a1),(yI r.a2),(yI r.a3),(yI r.a4),(yI r.a5),(yI r.a6),(yI r.a7)] (0+((Int.toNat x.A)*1)))=(some (yI a))/\Q ⟨5,0,a⟩ false true h))
 else
 (if (x.Op==28)=true then
 ((0<=x.A/\x.A<8)/\∃a:Int,((List.get?Internal (α:=Value) [(yI r.a0),(yI r.a1),(yI r.a2),(yI r.a3),(yI r.a4),(yI r.a5),(yI r.a6),(yI r.a7)] (0+((Int.toNat x.A)*1)))=(some (yI a))/\Q ⟨6,0,a⟩ true true h))
 else
 (if (x.Op==29)=true then
 Q ⟨7,x.jm,0⟩ true true h
 else
 (if (x.Op==30)=true then
 Q ⟨8,x.jm,0⟩ false true h
 else
 (if (x.Op==31)=true then
 ((0<=x.A/\x.A<8)/\∃a:Int,((List.get?Internal (α:=Value) [(yI r.a0),(yI r.a1),(yI r.a2),(yI r.a3),(yI r.a4),(yI r.a5),(yI r.a6),(yI r.a7)] (0+((Int.toNat x.A)*1)))=(some (yI a))/\Q ⟨9,0,a⟩ false true h))
 else
 Q ⟨0,0,0⟩ false false h)))))))))
def ZN (P:Program) (c:Option Addr) (a:Int) (v:Int) (Q:(Hp->Prop)) (h:Hp):Prop:=
 aJ ((decide (a>=0))&&(decide (a<8))) λy=>(if y then
 ai none c λp=>((0<=a/\a<8)/\bW h (Addr.add (Addr.add p 1) ((Int.toNat a)*1)) [(yI v)] (λb=>Q b))
 else
 Q h)
def EO (P:Program) (op:Int) (b:Int) (c:Int) (Q:(Int->(Int->(Hp->Prop)))) (h:Hp):Prop:=
 (if (op==3)=true then
 Q (yw (b+c)) 0 h
 else
 (if (op==4)=true then
 Q (yw (b-c)) 0 h
 else
 (if (op==5)=true then
 Q (yw (b*c)) 0 h
 else
 (if (op==6)=true then
 ae P ZF [(yI b),(yI c)] yH (λr a=>Q r 0 a) h
 else
 (if (op==7)=true then
 ae P ZF [(yI b),(yI c)] yH (λr a=>Q (yw (b-(yw (r*c)))) 0 a) h
 else
 (if (op==8)=true then
 Q (du .and .i64 b c) 0 h
 else
 (if (op==9)=true then
 Q (du .or .i64 b c) 0 h
 else
 (if (op==10)=true then
 Q (du .xor .i64 b c) 0 h
 else
 (if (op==11)=true then
 ae P Lc [(yI b),(yI c)] yH (λr a=>Q r 0 a) h
 else
 (if (op==12)=true then
 ae P J9 [(yI b),(yI c)] yH (λr a=>Q r 0 a) h
 else
 (if (op==13)=true then
 ae P Eb [(.bool (decide (b<c)))] yH (λr a=>Q r 0 a) h
 else
 (if (op==14)=true then
 ae P Eb [(.bool (b==c))] yH (λr a=>Q r 0 a) h
 else
 Q 0 9 h))))))))))))
def EP (P:Program) (op:Int) (b:Int) (c:Int) (Q:(Int->(Int->(Hp->Prop)))) (h:Hp):Prop:=
 ae P CV [(yI b)] (iO .f64) (λr i=>ae P CV [(yI c)] (iO .f64) (λg a=>(if (op==15)=true then
 jy P (cX .add 314 (.tmp 17) (.tmp 18) (.float .f64 r) (.float .f64 g)) (iO .f64) (λr2 d=>ae P FJ [(.float .f64 r2)] yH (λf e=>Q f 0 e) d) a
 else
 (if (op==16)=true then
 jy P (cX .sub 314 (.tmp 23) (.tmp 24) (.float .f64 r) (.float .f64 g)) (iO .f64) (λr2 d=>ae P FJ [(.float .f64 r2)] yH (λf e=>Q f 0 e) d) a
 else
 (if (op==17)=true then
 jy P (cX .mul 314 (.tmp 29) (.tmp 30) (.float .f64 r) (.float .f64 g)) (iO .f64) (λr2 d=>ae P FJ [(.float .f64 r2)] yH (λf e=>Q f 0 e) d) a
 else
 (if (op==18)=true then
 jy P (cX .quo 314 (.tmp 35) (.tmp 36) (.float .f64 r) (.float .f64 g)) (iO .f64) (λr2 d=>ae P FJ [(.float .f64 r2)] yH (λf e=>Q f 0 e) d) a
 else
 (if (op==19)=true then
 iC none P (cX .lss 314 (.tmp 41) (.tmp 42) (.float .f64 r) (.float .f64 g)) bB a λx=>(if x then
 Q 1 0 a
 else
 Q 0 0 a)
 else
 (if (op==20)=true then
 iC none P (convert 2 314 (yI b)) (iO .f64) a λx=>ae P FJ [(.float .f64 x)] yH (λr2 d=>Q r2 0 d) a
 else
 (if (op==21)=true then
 ae P Ka [(.float .f64 r)] yH (λr2 d=>Q r2 0 d) a
 else
 Q 0 9 a)))))))) i) h
def UL (P:Program) (t:Option Addr) (i:Int) (j:Int) (Q:(Bool->(Hp->Prop))) (h:Hp):Prop:=
 ae P Xe [(yP t),(yI i)] bB (λr c=>dy (some r) (ae P Xe [(yP t),(yI j)] bB) (λf a=>aJ (r&&f) λy=>ai (some y) t λp=>aP (some y) av a (Addr.add p 0) λx=>((y=true->(bJ x.base x.len i))/\aP (some y) (af .u64) a (sat x.base 1 i) λg=>ai (some y) t λe=>aP (some y) av a (Addr.add e 0) λb=>((y=true->(bJ b.base b.len j))/\aP (some y) (af .u64) a (sat b.base 1 j) λk=>dy (some y) (ae P I6 [(.int .u64 g),(.int .u64 k)] bB) (λr2 d=>aJ (y&&r2) λl=>Q l d) a))) c) h
def QH (P:Program) (m:Option Addr) (p:Option Addr) (q:Option Addr) (v:Int) (Q:(Hp->Prop)) (h:Hp):Prop:=
 ai none q λe=>di h e 3 λx=>ae P M6 [(yI x)] bB (λr b=>(if (!r)=true then
 aY P wu [(yP m),(yP p),(yI 2)] (λa=>Q a) b
 else
 ai none q λf=>kM b f 14 λo=>ai none p λg=>di b g 1 λs=>ae P M5 [(yP o),(yI s),(yI v)] yH (λn a=>(if (n !=0)=true then
 ai none q λi=>kM a i 14 λt=>ai none p λj=>di a j 1 λu=>ai none p λk=>di a k 0 λw=>ae P zyx [(yP t),(yI u),(yI w),(yI v)] yH (λr2 c=>ai none p λl=>bW c (Addr.add l 3) [(yI 2)] (λd=>Q d)) a
 else
 aY P HF [(yP m),(yP q)] (λc=>aY P wu [(yP m),(yP p),(yI 0)] (λd=>Q d) c) a)) b)) h
def Dq (P:Program) (c:aX) (code:Sl) (v:Int) (from_:Int) (Q:(aX->(Hp->Prop))) (h:Hp):Prop:=
 bc [(yI c.PC),(yI c.cv),(yI c.cw),(yI c.cx),(yI c.cC),(yI c.cD),(yI c.cE),(yI c.cF),(yI c.cG)] (λa e=>bF (λk=>aP none eJ e a λx=>bh P vD [x.v,code.v] aM bB (λr g b=>(if g then
 aY P vx [(yP (some a)),(yI r.A),(yI v)] (λd=>aY P vx [(yP (some a)),(yI r.B),(yI from_)] (λf=>k f) d) b
 else
 k b)) e)
 (λb=>aP none eJ b a λx=>ae P wB [x.v] eJ (λr d=>Q r d) b)) h
def UM (P:Program) (l:Option Addr) (n:Int) (p:Int) (Q:(Int->(Hp->Prop))) (h:Hp):Prop:=
 ai (some (!(decide (n<0)))) l λa=>aP (some (!(decide (n<0)))) av h (Addr.add a 0) λx=>aJ ((decide (n<0)) || (decide (n>=(x.len:Int)))) λy=>(if y then
 Q 2 h
 else
 (if decide (p<0) then
 Q 1 h
 else
 Q 0 h))
def YK (P:Program) (has:Bool) (n:Int) (Q:(Int->(Hp->Prop))) (h:Hp):Prop:=
 aJ ((!has)&&(n !=0)) λy=>(if y then
 Q 11 h
 else
 aJ ((decide (n<0)) || (decide (n>=8))) λa=>(if a then
 Q 10 h
 else
 Q 0 h))
def zxb (P:Program) (x:aL) (has:Bool) (n:Int) (ag:Int) (Q:(Int->(Hp->Prop))) (h:Hp):Prop:=
 aJ ((!has)&&(x.jm !=0)) λy=>(if y then
 Q 11 h
 else
 aJ ((x.Op==22) || (x.Op==23)) λb=>(if b then
 aJ ((decide (x.jm<0)) || (decide (x.jm>n))) λa=>(if a then
 Q 12 h
 else
 Q 0 h)
 else
 aJ ((x.Op==29) || (x.Op==30)) λa=>(if a then
 aJ ((decide (x.jm<0)) || (decide (x.jm>=ag))) λc=>(if c then
 Q 13 h
 else
 Q 0 h)
 else
 Q 0 h)))
def zxc (P:Program) (op:Int) (Q:(ByteArray->(Hp->Prop))) (h:Hp):Prop:=
 aJ ((decide (op<0)) || (decide (op>=34))) λy=>(if y then
 Q ⟨#[]⟩ h
 else
 ((0<=op/\op<34)/\∃x:ByteArray,((List.get?Internal (α:=Value) [(.string ⟨#[]⟩),(.string ⟨#[97,105]⟩),(.string ⟨#[97,98]⟩),(.string ⟨#[97,98,99]⟩),(.string ⟨#[97,98,99]⟩),(.string ⟨#[97,98,99]⟩),(.string ⟨#[97,98,99]⟩),(.string ⟨#[97,98,99]⟩),(.string ⟨#[97,98,99]⟩),(.string ⟨#[97,98,99]⟩),(.string ⟨#[97,98,99]⟩),(.string ⟨#[97,98,99]⟩),(.string ⟨#[97,98,99]⟩),(.string ⟨#[97,98,99]⟩),(.string ⟨#[97,98,99]⟩),(.string ⟨#[97,98,99]⟩),(.string ⟨#[97,98,99]⟩),(.string ⟨#[97,98,99]⟩),(.string ⟨#[97,98,99]⟩),(.string ⟨#[97,98,99]⟩),(.string ⟨#[97,98]⟩),(.string ⟨#[97,98]⟩),(.string ⟨#[105]⟩),(.string ⟨#[97,105]⟩),(.string ⟨#[97,98,99]⟩),(.string ⟨#[97,98]⟩),(.string ⟨#[97,98]⟩),(.string ⟨#[97]⟩),(.string ⟨#[97]⟩),(.string ⟨#[105]⟩),(.string ⟨#[105]⟩),(.string ⟨#[97]⟩),(.string ⟨#[97]⟩),(.string ⟨#[97]⟩)] ((Int.toNat op)*1))=(some (.string x))/\Q x h)))
def HC (P:Program) (field:ByteArray) (a1:Addr) (Q:(Bool->(Hp->Prop))) (h:Hp):Prop:=
 aP none lY h a1 λx=>ae P ztj [(.string x),(.string field)] bB (λr a=>Q r a) h
def Wo (P:Program) (x:Int) (Q:(Bool->(Hp->Prop))) (h:Hp):Prop:=
 Q (x !=x) h
def YN (P:Program) (x:Int) (Q:(Bool->(Hp->Prop))) (h:Hp):Prop:=
 Q (x !=x) h
def Wq (P:Program) (l:Option Addr) (p:Int) (Q:(Int->(Hp->Prop))) (h:Hp):Prop:=
 bc [(yI p)] (λa b=>ai none l λd=>cT b d 2 λx=>ae P zdf [x.v,(.func (.func 237) #[] #[(yP (some a))])] yH (λr c=>Q r c) b) h
def OO (P:Program) (s:Sl) (i:Int) (j:Int) (Q:(Sl->(Hp->Prop))) (h:Hp):Prop:=
 ((0<=i/\(i<=j/\(j<=(s.len:Int)/\(s.len:Int)<=(s.cap:Int))))/\aJ (α:=Sl) ⟨(aW s.base 2 (Int.toNat i) (Int.toNat (s.len:Int))),((Int.toNat j)-(Int.toNat i)),((Int.toNat (s.len:Int))-(Int.toNat i))⟩ λy=>(if (i==j)=true then
 Q s h
 else
 ((0<=i/\i<=(s.cap:Int))/\aJ (α:=Sl) ⟨(aW s.base 2 0 s.cap),((Int.toNat i)-0),(s.cap-0)⟩ λc=>((0<=j/\j<=(s.len:Int))/\aJ (α:=Sl) ⟨(aW s.base 2 (Int.toNat j) s.cap),(s.len-(Int.toNat j)),(s.cap-(Int.toNat j))⟩ λd=>eS 2 16 [(yI 0),(yI 0)] c d (λr a=>((0<=(r.len:Int)/\((r.len:Int)<=(s.len:Int)/\(s.len:Int)<=(r.cap:Int)))/\aJ (α:=Sl) ⟨(aW r.base 2 (Int.toNat (r.len:Int)) r.cap),((Int.toNat (s.len:Int))-(Int.toNat (r.len:Int))),(r.cap-(Int.toNat (r.len:Int)))⟩ λe=>lT P (Builtin.clear_ #[185] 0 #[e.v]) sW (λb=>Q r b) a)) h))))
def ZP (P:Program) (b:Int) (c:Int) (Q:(Int->(Hp->Prop))) (h:Hp):Prop:=
 (if (c==0)=true then
 Q 0 h
 else
 (if (c==(-1))=true then
 Q (yw (0-b)) h
 else
 (c≠0/\Q (yw (Int.tdiv b c)) h)))
def Ld (P:Program) (b:Int) (c:Int) (Q:(Int->(Hp->Prop))) (h:Hp):Prop:=
 (if decide (c<0) then
 Q b h
 else
 (0<=(IntKind.wrap .u64 c)/\Q (ni .i64 b (IntKind.wrap .u64 c)) h))
def Kb (P:Program) (b:Int) (c:Int) (Q:(Int->(Hp->Prop))) (h:Hp):Prop:=
 (if decide (c<0) then
 Q b h
 else
 (0<=(IntKind.wrap .u64 c)/\Q (gF .i64 b (IntKind.wrap .u64 c)) h))
def Ee (P:Program) (a:Bool) (Q:(Int->(Hp->Prop))) (h:Hp):Prop:=
 (if a then
 Q 1 h
 else
 Q 0 h)
def C0 (P:Program) (bits:Int) (Q:(Nat->(Hp->Prop))) (h:Hp):Prop:=
 jy P (Extern.MathFloatBits.float64frombits #[(.int .u64 (IntKind.wrap .u64 bits))]) (iO .f64) (λr a=>Q r a) h
def Dr (P:Program) (f:Nat) (Q:(Int->(Hp->Prop))) (h:Hp):Prop:=
 iC none P (cX .neq 314 (.tmp 3) (.tmp 4) (.float .f64 f) (.float .f64 f)) bB h λx=>(if x then
 Q 9221120237041090560 h
 else
 jy P (Extern.MathFloatBits.float64bits #[(.float .f64 f)]) (af .u64) (λr a=>Q (yw r) a) h)
def C1 (P:Program) (f:Nat) (Q:(Int->(Hp->Prop))) (h:Hp):Prop:=
 iC none P (cX .neq 314 (.tmp 4) (.tmp 5) (.float .f64 f) (.float .f64 f)) bB h λx=>(if x then
 Q 0 h
 else
 iC none P (cX .geq 314 (.tmp 8) (.const (.float .f64 4890909195324358656)) (.float .f64 f) (.float .f64 4890909195324358656)) bB h λa=>(if a then
 Q 9223372036854775807 h
 else
 iC none P (cX .lss 314 (.tmp 11) (.const (.float .f64 14114281232179134464)) (.float .f64 f) (.float .f64 14114281232179134464)) bB h λb=>(if b then
 Q (-9223372036854775808) h
 else
 iC none P (convert 314 2 (.float .f64 f)) yH h λc=>Q c h)))
def Xt (P:Program) (t:Option Addr) (i:Int) (Q:(Bool->(Hp->Prop))) (h:Hp):Prop:=
 ai (some (decide (i>=0))) t λp=>aP (some (decide (i>=0))) av h (Addr.add p 0) λx=>aJ ((decide (i>=0))&&(decide (i<(x.len:Int)))) λy=>Q y h
def Xw (P:Program) (p:Option Addr) (lane:Int) (proc:Int) (v:Int) (Q:(Int->(Hp->Prop))) (h:Hp):Prop:=
 ae P MY [(yP p),(yI lane)] bB (λr b=>(if (!r)=true then
 Q 2 b
 else
 ae P zvg [(yP p),(yI proc)] yH (λe a=>(if decide (e>=0) then
 Q 8 a
 else
 ai none p λd=>cT a d 0 λx=>((bJ x.base x.len lane)/\aP none ah a (sat x.base 1 lane) λf=>ae P zyy [(yP f),(yI proc),(yI v)] yH (λr2 c=>Q r2 c) a))) b)) h
def zvh (P:Program) (p:Option Addr) (Q:(wg->(Hp->Prop))) (h:Hp):Prop:=
 ai none p λf=>di h f 1 λx=>ai none p λc=>cT h c 0 λd=>bc [(yI 0)] (λa b=>(((aV b (Addr.add f 1) [(yI x)])/\((aV b (Addr.add c 0) [d.v])/\True))/\bW b a [(yI x)] (λe=>(((aV e (Addr.add c 0) [d.v])/\True)/\bc [(yI (d.len:Int))] (λa1 g=>Q ⟨242, #[], #[(yP (some a1)),(yP (some a))]⟩ g) e)))) h
def YQ (P:Program) (l:Option Addr) (Q:(Int->(Hp->Prop))) (h:Hp):Prop:=
 ai none l λp=>cT h p 1 λx=>Q (x.len:Int) h
def Xz (P:Program) (l:Option Addr) (Q:(Int->(bH->(Bool->(Int->(Hp->Prop)))))) (h:Hp):Prop:=
 ai none l λp=>cT h p 1 λx=>(if ((x.len:Int)==(0:Int))=true then
 Q (0:Int) ⟨(0:Int),(0:Int)⟩ false (21:Int) h
 else
 ai none l λB=>cT h B 1 λf=>((bJ f.base f.len (0:Int))/\aP none yH h (sat f.base 1 (0:Int)) λt=>ai none l λH=>cT h H 1 λS=>ai none l λI=>cT h I 1 λc=>(((0:Int)<=(1:Int)/\(1:Int)<=(c.len:Int))/\aJ (α:=Sl) ⟨(aW c.base 1 1 c.cap),(c.len-1),(c.cap-1)⟩ λy=>fD 1 S y (λr j=>ai none l λJ=>cT j J 1 λe=>(((0:Int)<=r/\r<=(e.cap:Int))/\aJ (α:=Sl) ⟨(aW e.base 1 0 e.cap),((Int.toNat r)-0),(e.cap-0)⟩ λV=>ai none l λK=>bW j (Addr.add K 1) [V.v] (λk=>ai none l λL=>di k L 3 λT=>ae P CT [(yI T)] yH (λR w=>ai none l λM=>bW w (Addr.add M 3) [(yI R)] (λb=>ai none l λN=>cT b N 2 λU=>(if decide ((U.len:Int)>(0:Int)) then
 ai none l λO=>cT b O 2 λi=>((bJ i.base i.len (0:Int))/\aP none aF b (sat i.base 2 (0:Int)) λu=>ai none l λC=>cT b C 2 λq=>ai none l λD=>cT b D 2 λg=>ai none l λE=>cT b E 2 λd=>(((0:Int)<=(1:Int)/\((1:Int)<=(g.len:Int)/\((g.len:Int)<=(d.len:Int)/\(d.len:Int)<=(q.cap:Int))))/\aJ (α:=Sl) ⟨(aW q.base 2 1 (Int.toNat (d.len:Int))),((Int.toNat (g.len:Int))-1),((Int.toNat (d.len:Int))-1)⟩ λW=>ai none l λF=>bW b (Addr.add F 2) [W.v] (λm=>ai none l λo=>cT m o 1 λs=>bc [(yI u.dV)] (λa n=>(((aV n (Addr.add o 1) [s.v])/\True)/\eS 1 8 [(yI (0:Int))] s ⟨(some a),1,1⟩ (λr2 z=>ai none l λG=>bW z (Addr.add G 1) [r2.v] (λA=>Q t u true (0:Int) A)) n)) m)))
 else
 Q t ⟨(0:Int),(0:Int)⟩ false (0:Int) b))) k))) h)))
def OK (P:Program) (s:Sl) (f:wg) (Q:(Int->(Hp->Prop))) (h:Hp):Prop:=
 aC (α1:=Int) (λd a b=>(if decide (a<(s.len:Int)) then
 ((bJ s.base s.len a)/\aP none aF b (sat s.base 2 a) λx=>fX P tb (.func (.func f.g) f.first f.captured) [x.v] bB (λr c=>(if r then
 Q a c
 else
 d (yw (a+1)) c)) b)
 else
 Q (-1) b)) 0 h
def zrx (P:Program) (w:bH) (a1:Addr) (Q:(Bool->(Hp->Prop))) (h:Hp):Prop:=
 aP none yH h a1 λx=>Q (w.dd==x) h
def Wr (P:Program) (p:Option Addr) (proc:Int) (Q:(Int->(Hp->Prop))) (h:Hp):Prop:=
 ai none p λi=>cT h i 0 λx=>aC (α1:=Int) (λe a d=>(if decide (a<(x.len:Int)) then
 ((bJ x.base x.len a)/\aP none ah d (sat x.base 1 a) λj=>ae P VZ [(yP j)] cL (λr g=>aC (α1:=Int) (λf c b=>(if decide (c<(r.dk.len:Int)) then
 ((bJ r.dk.base r.dk.len c)/\aP none aF b (sat r.dk.base 2 c) λk=>(if (k.dd==proc)=true then
 Q a b
 else
 f (yw (c+1)) b))
 else
 e (yw (a+1)) b)) 0 g) d)
 else
 Q (-1) d)) 0 h
def XC (P:Program) (l:Option Addr) (p:Int) (v:Int) (Q:(Int->(Hp->Prop))) (h:Hp):Prop:=
 ae P W8 [(yP l)] bB (λr c=>(if (!r)=true then
 Q 20 c
 else
 ae P V5 [(yP l),(yI p)] yH (λj b=>(if decide (j>=0) then
 Q 8 b
 else
 ai none l λg=>cT b g 2 λx=>bc [(yI p),(yI v)] (λa d=>eS 2 16 [(yI 0),(yI 0)] x ⟨(some a),1,1⟩ (λr2 e=>ai none l λi=>bW e (Addr.add i 2) [r2.v] (λf=>Q 0 f)) d) b)) c)) h
end Lf
namespace Lf
open Go
def bp.s (a:bp):bp:=.sq .tt a
def bU (a n:Nat):List (Nat×List Nat):=(List.range' a n).map λi=>(i,[])
def zsm :List Nat:=[10,17,18]
def zsn :bp:=(.s (.s (.s (.s (.s (.s (.s (.s (.s (.sq (.s (.bk (.lp [⟨false,14,2⟩,⟨false,16,3⟩] [17,18] (.s (.sq (.bk (.jn [] [17] .tt (.s (.sq (.sq (.rg (bU 0 24)) .tt) (.s (.s (.s (.bk (.lp [⟨false,19,3⟩] [] (.s (.sq (.bk (.sq (.rg (bU 0 14)) .tt)) .tt))))))))))) .tt))))) .tt))))))))))
def zzf :List Nat:=[6,7,8]
def zzg :bp:=.tt
def RO :List Nat:=[5]
def RT :bp:=.tt
def zxd :List Nat:=[2,6]
def zxe :bp:=(.s (.s (.s (.s (.jn [] [] .tt (.sq (.s (.sq (.sq (.rg (bU 0 9++ [(9,[4,8]),(10,[]),(11,[])])) .tt) .tt)) .tt))))))
def ab6 :List Nat:=[3,4]
def ab7 :bp:=(.s (.s (.jn [⟨false,5,36⟩] [] (.sq (.rg ([(1,[]),(2,[]),(0,[2])]++bU 3 6)) .tt) (.sq (.rg (bU 0 11)) .tt))))
def zvi :List Nat:=[2]
def zvj :bp:=.tt
def WA :List Nat:=[2]
def WC :bp:=.tt
def aaE :List Nat:=[2]
def aaG :bp:=(.s (.gs 0 (.s (.s (.gj 0 [⟨true,2,26⟩] [2] (.s (.s (.s (.s (.s (.s (.s (.s (.s (.s (.s (.sq (.s (.bk (.lp [⟨false,6,3⟩] [] .tt))) (.sq .tt .tt))))))))))))) (.sq (.s (.sq (.sq (.rg (bU 0 9++ [(9,[4,8]),(10,[]),(11,[])])) .tt) .tt)) .tt))))))
def aaI :List Nat:=[1]
def aaK :bp:=(.s (.s (.sq (.rg ([(0,[]),(1,[]),(2,[0])]++bU 3 3)) .tt)))
def zpa :List Nat:=[2,3]
def zpb :bp:=(.s (.s (.s (.s (.sq (.s (.bk (.lp [⟨false,5,3⟩,⟨true,3,26⟩] [3] (.s (.sq (.bk (.s (.s (.jn [] [] .tt (.jn [] [] .tt .tt))))) .tt))))) (.s (.sq (.s (.bk (.lp [⟨false,9,3⟩,⟨true,3,26⟩] [3] (.s (.sq (.bk (.rg (bU 0 5++ [(5,[1]),(6,[1])]++bU 7 3))) .tt))))) (.s (.s (.s (.s (.s (.sq (.s (.bk (.lp [⟨false,11,3⟩,⟨true,3,26⟩] [3] (.s (.sq (.bk (.s (.s (.rg (bU 0 7++ [(7,[1]),(8,[]),(9,[1])]++bU 10 3))))) .tt))))) .tt)))))))))))))
def zqm :List Nat:=[]
def zqn :bp:=.tt
def RW :List Nat:=[]
def RY :bp:=.tt
def zxf :List Nat:=[2,3]
def zxg :bp:=(.s (.s (.sq (.s (.bk (.lp [⟨false,26,3⟩,⟨true,3,63⟩] [3] (.s (.s (.sq (.bk (.s (.s (.rg (bU 0 10++bU 11 10++ [(10,[1,5,14,18]),(21,[]),(22,[1])]++bU 23 3))))) .tt)))))) (.sq (.s (.bk (.lp [⟨false,69,3⟩,⟨true,3,63⟩] [3] (.s (.s (.sq (.bk (.s (.s (.sq (.rg (bU 0 14++ [(14,[3,7,9,12])]++bU 15 6)) (.sq (.rg (bU 0 14++ [(14,[3,7,9,12])]++bU 15 6)) (.rg (bU 0 25++ [(25,[1])]++bU 26 3))))))) .tt)))))) .tt))))
def zxh :List Nat:=[1,10]
def zxi :bp:=(.s (.s (.s (.sq (.s (.bk (.lp [⟨false,6,34⟩,⟨false,7,3⟩] [] .tt))) (.s (.sq (.s (.bk (.lp [⟨false,6,34⟩,⟨false,8,3⟩] [] .tt))) (.s (.s (.s (.s (.sq (.s (.bk (.lp [⟨false,6,34⟩,⟨false,9,3⟩] [10] (.s (.sq (.bk (.s (.s (.s (.s (.bk (.lp [⟨false,6,34⟩,⟨false,11,3⟩] [] .tt))))))) .tt))))) .tt)))))))))))
def RB :List Nat:=[]
def RD :bp:=.tt
def Pk :List Nat:=[]
def Pm :bp:=(.s (.bk (.lp [⟨false,3,3⟩] [] .tt)))
def Te :List Nat:=[]
def Tg :bp:=.tt
def Pn :List Nat:=[]
def Pp :bp:=(.s (.s (.bk (.lp [⟨false,4,3⟩] [] (.s (.sq (.bk (.s (.rg (bU 0 6++ [(6,[0,1,4]),(7,[0])]++bU 8 3)))) .tt))))))
def Qu :List Nat:=[]
def Qv :bp:=(.s (.bk (.lp [⟨false,4,3⟩] [] (.s (.sq (.bk (.rg (bU 0 7++ [(7,[4]),(8,[4])]++bU 9 4))) .tt)))))
def Pr :List Nat:=[]
def Pu :bp:=.tt
def Oz :List Nat:=[]
def OB :bp:=.tt
def RF :List Nat:=[4]
def RH :bp:=(.s (.s (.sq (.s (.bk (.lp [⟨false,6,3⟩,⟨true,4,50⟩] [4] (.s (.sq (.bk (.rg (bU 0 8++ [(8,[1]),(9,[1])]++bU 10 3))) .tt))))) (.rg (bU 0 6++ [(6,[4])]++bU 7 4)))))
def R1 :List Nat:=[1,15]
def R3 :bp:=(.s (.s (.s (.s (.sq (.s (.bk (.lp [⟨false,57,3⟩] [] .tt))) (.s (.sq (.s (.bk (.lp [⟨false,80,3⟩] [15] .tt))) .tt)))))))
def YX :List Nat:=[2,3,7,11,12]
def YZ :bp:=(.s (.sq (.rg ([(0,[]),(2,[]),(3,[]),(1,[3])]++bU 4 3)) (.s (.s (.sq (.s (.bk (.lp [⟨false,48,3⟩] [7] (.s (.s (.sq (.bk (.s (.s (.rg (bU 0 9++bU 10 5++ [(9,[4,6,11,13]),(15,[4,6,11,13]),(16,[]),(17,[4]),(18,[4])]++bU 19 4))))) .tt)))))) (.sq (.s (.bk (.lp [⟨false,86,3⟩] [11,12] (.s (.s (.sq (.bj [] [11,12] (.s (.s (.s (.sq (.rg (bU 0 21++ [(21,[4]),(22,[4])]++bU 23 4)) (.sq (.rg (bU 0 9)) (.s (.jn [] [] (.s (.sq (.rg (bU 0 5++ [(6,[]),(7,[]),(5,[3,7]),(8,[])])) .tt)) (.s (.sq (.rg (bU 0 5++ [(6,[]),(7,[]),(5,[3,7]),(8,[])])) .tt)))))))))) .tt)))))) .tt))))))
def WE :List Nat:=[1,2,3]
def WG :bp:=(.s (.sq (.r2 [(0,[]),(1,[]),(2,[]),(4,[]),(5,[]),(6,[]),(9,[])] 3 7 (.rg ([(3,[5]),(7,[]),(8,[]),(10,[])])) (.rg ([(7,[1]),(3,[5]),(8,[]),(10,[])]))) (.sq (.s (.bk (.lp [⟨false,18,3⟩] [] (.s (.s (.sq (.bj [] [] (.s (.r2 [(0,[]),(1,[]),(2,[]),(3,[]),(4,[]),(5,[]),(7,[]),(8,[]),(10,[]),(11,[])] 6 12 (.r2 [(6,[1,4,8,11])] 9 12 (.r2 [(9,[1,4,11]),(13,[]),(14,[])] 12 15 (.rg ([(12,[1,4]),(15,[4])]++bU 16 3)) (.rg ([(15,[4,11]),(12,[1,4])]++bU 16 3))) (.rg ([(12,[1,4,8]),(9,[1,4,11]),(13,[]),(14,[]),(15,[4,11])]++bU 16 3))) (.rg ([(12,[1,4,8]),(6,[1,4,8,11]),(9,[1,4,11]),(13,[]),(14,[]),(15,[4,11])]++bU 16 3))))) .tt)))))) (.sq (.s (.bk (.lp [⟨false,42,3⟩] [] (.s (.s (.sq (.bk (.s (.rg (bU 0 7++ [(7,[1])]++bU 8 3)))) .tt)))))) .tt))))
def zqo :List Nat:=[]
def zqp :bp:=(.s (.bk (.lp [⟨false,4,3⟩] [] (.s (.sq (.bj [] [] .tt) .tt)))))
def zry :List Nat:=[]
def zrz :bp:=(.s (.s (.s (.s (.jn [] [] .tt .tt)))))
def zpc :List Nat:=[]
def zpd :bp:=(.s (.s (.sq (.sq (.rg (bU 0 12)) .tt) (.s (.sq (.s (.bk (.lp [⟨false,5,28⟩,⟨false,6,3⟩] [] (.s (.sq (.bk (.rg (bU 0 19))) .tt))))) .tt)))))
def zqq :List Nat:=[9]
def zqr :bp:=(.s (.s (.sq (.s (.bk (.lp [⟨false,7,48⟩,⟨false,8,3⟩] [9] (.s (.sq (.bk (.sq (.sq (.rg (bU 0 11)) .tt) (.sq (.rg (bU 0 9++ [(10,[]),(9,[]),(11,[])])) .tt))) .tt))))) .tt)))
def Y1 :List Nat:=[3]
def Y3 :bp:=(.s (.sq (.bk (.s (.s (.sq (.rg (bU 0 9)) .tt)))) (.sq (.s (.bk (.lp [⟨false,20,3⟩] [] .tt))) (.sq (.rg (bU 0 10)) .tt))))
def U1 :List Nat:=[3]
def U3 :bp:=(.s (.sq (.rg (bU 0 10)) .tt))
def Y6 :List Nat:=[3]
def Y8 :bp:=(.s (.sq (.rg (bU 0 8)) .tt))
def zvk :List Nat:=[]
def zvl :bp:=(.s (.s (.sq (.rg (bU 0 14)) .tt)))
def zzh :List Nat:=[]
def zzi :bp:=.tt
def Qw :List Nat:=[7]
def Qx :bp:=(.s (.s (.s (.sq (.s (.bk (.lp [⟨false,4,23⟩,⟨false,5,113⟩,⟨false,13,3⟩] [7] .tt))) .tt))))
def zlx :List Nat:=[]
def zly :bp:=.tt
def Ti :List Nat:=[]
def Tk :bp:=(.s (.s (.sq (.s (.bk (.lp [⟨false,4,66⟩,⟨false,12,3⟩] [] .tt))) (.sq (.rg (bU 0 7)) .tt))))
def Tm :List Nat:=[6]
def Tn :bp:=.tt
def WI :List Nat:=[]
def WK :bp:=.tt
def WM :List Nat:=[]
def WO :bp:=.tt
def zzj :List Nat:=[]
def zzk :bp:=(.s (.sq (.rg (bU 0 10)) (.s (.s (.s (.sq (.s (.bj [] [] (.lp [⟨false,32,3⟩] [] (.s (.s (.sq (.bk (.sq (.s (.bk (.lp [⟨false,39,3⟩] [] (.s (.s (.sq (.bk (.s (.sq (.rg (bU 0 13)) (.sq (.rg (bU 0 14)) .tt)))) .tt)))))) .tt)) .tt)))))) .tt))))))
def aaM :List Nat:=[]
def aaO :bp:=.tt
def Pw :List Nat:=[1,7]
def Px :bp:=(.s (.s (.s (.sq (.rg ([(0,[]),(1,[]),(3,[]),(4,[]),(6,[]),(7,[]),(9,[]),(10,[]),(13,[]),(2,[4,7,10]),(5,[7,10]),(8,[10]),(11,[]),(12,[]),(14,[])])) (.sq (.s (.bk (.lp [⟨false,8,3⟩] [] .tt))) (.s (.s (.sq (.s (.bk (.lp [⟨false,9,3⟩] [] (.s (.sq (.bk (.sq (.sq (.rg (bU 0 12)) .tt) (.sq (.rg (bU 0 14)) .tt))) .tt))))) .tt))))))))
def zxj :List Nat:=[]
def zxk :bp:=(.s (.sq (.s (.bk (.lp [⟨false,0,34⟩,⟨false,7,3⟩] [] .tt))) .tt))
def Py :List Nat:=[3]
def PA :bp:=(.s (.s (.sq (.s (.bk (.lp [⟨false,0,34⟩,⟨false,5,3⟩] [] .tt))) .tt)))
def PB :List Nat:=[]
def PD :bp:=(.s (.s (.sq (.sq (.rg (bU 0 12)) .tt) (.s (.sq (.sq (.rg (bU 0 17)) (.bk (.lp [⟨false,7,28⟩,⟨false,47,3⟩] [] .tt))) (.sq (.rg (bU 0 3++bU 4 4++ [(3,[7]),(8,[])])) .tt))))))
def zzl :List Nat:=[]
def zzm :bp:=.tt
def zzn :List Nat:=[]
def zzo :bp:=.tt
def zxl :List Nat:=[]
def zxm :bp:=.tt
def Tr :List Nat:=[]
def Tt :bp:=.tt
def zzp :List Nat:=[]
def zzq :bp:=.tt
def aaQ :List Nat:=[]
def aaS :bp:=.tt
def zxn :List Nat:=[]
def zxo :bp:=.tt
def OR :List Nat:=[]
def OS :bp:=.tt
def PE :List Nat:=[]
def PF :bp:=.tt
def Tv :List Nat:=[6,9]
def Tx :bp:=.tt
def OT :List Nat:=[]
def OU :bp:=(.s (.s (.sq (.s (.bk (.lp [⟨false,4,3⟩] [] (.s (.sq (.bk (.bk (.sq (.rg (bU 0 11)) (.s (.sq (.rg (bU 0 11)) .tt))))) .tt))))) .tt)))
def OW :List Nat:=[]
def OX :bp:=(.s (.s (.s (.sq (.rg ([(0,[]),(2,[]),(1,[2])]++bU 3 5)) .tt))))
def aaU :List Nat:=[]
def aaW :bp:=.tt
def R6 :List Nat:=[7]
def R9 :bp:=(.s (.s (.sq (.s (.bk (.lp [⟨false,22,3⟩] [7] .tt))) .tt)))
def U4 :List Nat:=[1,2,4]
def U6 :bp:=(.s (.sq (.rg ([(0,[]),(1,[]),(3,[]),(4,[]),(6,[]),(7,[]),(2,[4,7]),(9,[]),(5,[7]),(8,[])]++bU 10 5)) (.sq (.s (.bk (.lp [⟨false,20,3⟩] [4] (.s (.s (.sq (.bk (.s (.rg (bU 0 5++ [(5,[1])]++bU 6 3)))) .tt)))))) .tt)))
def OZ :List Nat:=[]
def O0 :bp:=(.s (.s (.s (.sq (.s (.bk (.lp [⟨false,29,3⟩] [] .tt))) .tt))))
def O1 :List Nat:=[]
def O2 :bp:=(.s (.s (.s (.s (.sq (.s (.bk (.lp [⟨false,30,3⟩] [] (.s (.s (.sq (.bk (.s (.s (.s (.s (.bk (.lp [⟨false,65,3⟩] [] (.s (.s (.sq (.bk (.s (.s (.rg (bU 0 14++ [(14,[3,8,12]),(15,[3])]++bU 16 3))))) .tt)))))))))) .tt)))))) .tt)))))
def O3 :List Nat:=[]
def O4 :bp:=.tt
def Sc :List Nat:=[10]
def Sf :bp:=(.s (.s (.s (.sq (.s (.bk (.lp [⟨false,44,3⟩] [10] .tt))) .tt))))
def TA :List Nat:=[7]
def TD :bp:=(.s (.s (.s (.s (.sq (.rg (bU 0 11)) (.sq (.rg (bU 0 7++ [(7,[4])]++bU 8 4)) (.sq (.rg (bU 0 7)) .tt)))))))
def zxp :List Nat:=[]
def zxq :bp:=(.s (.jn [] [] .tt (.s (.jn [] [] .tt (.s (.s (.sq (.bk (.lp [⟨false,8,3⟩] [] (.s (.bk (.rg (bU 0 10)))))) .tt)))))))
def PG :List Nat:=[2]
def PI :bp:=(.s (.s (.sq (.s (.bk (.lp [⟨false,3,28⟩,⟨false,4,3⟩] [] .tt))) (.sq (.rg (bU 0 20)) .tt))))
def zzr :List Nat:=[3]
def zzs :bp:=.tt
def zxr :List Nat:=[]
def zxs :bp:=.tt
def WR :List Nat:=[]
def WU :bp:=.tt
def U8 :List Nat:=[]
def Va :bp:=.tt
def zzt :List Nat:=[]
def zzu :bp:=.tt
def zzv :List Nat:=[10,12]
def zzw :bp:=(.sq (.rg (bU 0 11)) (.s (.sq (.s (.bk (.lp [⟨false,35,3⟩] [] (.s (.s (.sq (.bk (.s (.rg (bU 0 15)))) .tt)))))) (.sq (.sq (.rg (bU 0 8++ [(10,[]),(8,[]),(9,[])])) (.bk (.lp [⟨false,65,3⟩] [10] .tt))) (.sq (.rg (bU 0 8++ [(8,[3]),(9,[])])) (.sq (.rg (bU 0 8++ [(8,[3]),(9,[])])) (.s (.bk (.lp [⟨false,100,3⟩] [12] (.s (.s (.sq (.bk (.s (.rg (bU 0 10)))) .tt))))))))))))
def zzx :List Nat:=[]
def zzy :bp:=.tt
def zso :List Nat:=[]
def zsp :bp:=.tt
def zks :List Nat:=[]
def zkt :bp:=.tt
def TF :List Nat:=[2]
def TH :bp:=(.s (.sq (.rg (bU 0 4++bU 5 4++bU 10 8++ [(4,[8,13,17]),(9,[13,17]),(18,[]),(19,[])])) .tt))
def Qy :List Nat:=[]
def Qz :bp:=(.s (.s (.sq (.rg (bU 0 14)) .tt)))
def OD :List Nat:=[]
def OF :bp:=(.sq (.rg (bU 0 8++ [(10,[]),(8,[]),(9,[])])) (.bk (.lp [⟨false,17,3⟩] [] (.s (.s (.sq (.bj [] [] .tt) .tt))))))
def zzz :List Nat:=[4,5]
def NX :bp:=(.sq (.rg (bU 0 16++ [(20,[]),(21,[])]++bU 16 4++ [(22,[]),(23,[])])) (.s (.sq (.rg (bU 0 11)) (.s (.bk (.s (.s (.s (.s (.jn [⟨false,61,4⟩] [] .tt (.s (.s (.sq (.s (.sq (.rg (bU 0 8++ [(8,[3]),(9,[])])) (.s (.sq (.rg (bU 0 8++bU 9 8++ [(8,[3,12,14]),(17,[])])) .tt)))) (.s (.sq (.sq (.rg (bU 0 8++bU 9 9++ [(8,[3,12,14]),(18,[])])) .tt) (.s (.sq (.sq (.rg (bU 0 16)) .tt) (.s (.sq (.sq (.rg (bU 0 8++ [(9,[]),(10,[]),(8,[10]),(11,[])])) (.sq (.sq (.rg (bU 0 16)) .tt) .tt)) (.s (.sq (.sq (.rg (bU 0 11)) (.sq (.rg (bU 0 16++ [(16,[4])]++bU 17 4)) .tt)) .tt)))))))))))))))))))))
def PL :List Nat:=[]
def PN :bp:=(.s (.s (.s (.sq (.s (.bk (.lp [⟨false,4,3⟩] [] (.s (.sq (.bk (.sq (.sq (.rg (bU 0 10)) .tt) (.sq (.rg (bU 0 10)) .tt))) .tt))))) .tt))))
def zxt :List Nat:=[]
def zxu :bp:=(.s (.s (.s (.sq (.s (.bk (.lp [⟨false,5,3⟩] [] .tt))) .tt))))
def zxv :List Nat:=[]
def zxw :bp:=.tt
def PQ :List Nat:=[]
def PS :bp:=(.s (.s (.s (.sq (.s (.bk (.lp [⟨false,6,3⟩] [] .tt))) .tt))))
def zts :List Nat:=[]
def ztt :bp:=.tt
def QB :List Nat:=[]
def QC :bp:=.tt
def QE :List Nat:=[]
def QG :bp:=.tt
def ab9 :List Nat:=[3]
def aca :bp:=.tt
def aaY :List Nat:=[2,10]
def aa0 :bp:=(.s (.s (.s (.sq (.s (.bk (.lp [⟨false,35,3⟩] [10] .tt))) .tt))))
def zsq :List Nat:=[]
def zsr :bp:=(.s (.sq (.s (.bk (.lp [⟨false,8,3⟩] [] .tt))) .tt))
def aa2 :List Nat:=[]
def aa4 :bp:=.tt
def zqs :List Nat:=[]
def zqt :bp:=.tt
def znh :List Nat:=[]
def zni :bp:=.tt
def zpe :List Nat:=[]
def zpf :bp:=.tt
def QI :List Nat:=[7]
def QK :bp:=(.s (.sq (.s (.bk (.lp [⟨false,13,3⟩] [7] .tt))) .tt))
def Si :List Nat:=[3]
def Sm :bp:=(.s (.s (.s (.s (.sq (.rg (bU 0 4++ [(5,[]),(6,[]),(4,[6])]++bU 7 7)) (.sq (.rg (bU 0 8++ [(8,[5])]++bU 9 3)) .tt))))))
def QL :List Nat:=[5,8]
def QM :bp:=(.s (.s (.s (.sq (.s (.bk (.lp [⟨false,25,3⟩] [8] .tt))) .tt))))
def zcx :List Nat:=[4]
def zcy :bp:=(.s (.s (.s (.sq (.bk (.lp [⟨false,9,3⟩,⟨false,10,3⟩] [] (.s (.bj [⟨false,9,3⟩,⟨false,10,3⟩] [] (.s (.sq (.rg (bU 0 8)) .tt)))))) (.sq (.rg (bU 0 16)) .tt)))))
def aa6 :List Nat:=[2,3]
def aa9 :bp:=(.s (.sq (.rg (bU 0 4++bU 5 4++ [(4,[6,8])]++bU 9 4)) .tt))
def zix :List Nat:=[]
def ziy :bp:=(.s (.s (.s (.s (.s (.s (.sq (.s (.sq (.s (.s (.sq (.rg (bU 0 9)) .tt))) .tt)) (.s (.sq (.s (.sq (.sq (.rg (bU 0 9)) .tt) .tt)) .tt)))))))))
def WW :List Nat:=[]
def WY :bp:=.tt
def zxx :List Nat:=[]
def zxy :bp:=(.s (.sq (.s (.bk (.s (.s (.jn [⟨false,9,4⟩] [] .tt (.s (.jn [⟨false,15,4⟩] [] .tt (.s (.jn [⟨false,28,4⟩] [] .tt (.s (.jn [⟨false,35,4⟩] [] .tt (.s (.s (.s (.jn [⟨false,41,4⟩] [] .tt .tt))))))))))))))) .tt))
def ztu :List Nat:=[]
def ztv :bp:=.tt
def W1 :List Nat:=[]
def W6 :bp:=.tt
def TK :List Nat:=[]
def TN :bp:=.tt
def W9 :List Nat:=[]
def Xc :bp:=.tt
def Vc :List Nat:=[]
def Ve :bp:=.tt
def TQ :List Nat:=[]
def TT :bp:=(.s (.s (.sq (.s (.bk (.lp [⟨false,5,4⟩,⟨false,13,3⟩] [] (.s (.s (.sq (.bj [⟨false,5,4⟩] [] .tt) .tt)))))) .tt)))
def TX :List Nat:=[]
def T0 :bp:=(.s (.sq (.s (.bk (.lp [⟨false,17,3⟩] [] (.s (.s (.sq (.bj [] [] (.s (.s (.s (.sq (.rg (bU 0 16++ [(16,[3])]++bU 17 3)) .tt))))) .tt)))))) (.s (.sq (.s (.bk (.lp [⟨false,7,246⟩,⟨false,56,3⟩] [] .tt))) .tt))))
def zxz :List Nat:=[]
def zya :bp:=(.s (.sq (.rg (bU 0 18++ [(18,[4,7]),(19,[])])) .tt))
def Xf :List Nat:=[]
def Xi :bp:=(.s (.s (.sq (.s (.bk (.lp [⟨false,3,185⟩,⟨false,11,3⟩] [] .tt))) .tt)))
def ztw :List Nat:=[]
def ztx :bp:=(.rg (bU 0 13))
def T2 :List Nat:=[]
def T3 :bp:=(.s (.s (.sq (.bk (.lp [⟨false,5,23⟩] [] .tt)) .tt)))
def NY :List Nat:=[5]
def NZ :bp:=(.s (.rg (bU 0 5++ [(5,[2])]++bU 6 3)))
def Sq :List Nat:=[1,2]
def Ss :bp:=.tt
def Sv :List Nat:=[8,9,10,12,15]
def Sw :bp:=(.s (.s (.s (.sq (.s (.s (.sq (.sq (.s (.sq (.sq (.rg ([(0,[]),(1,[]),(2,[1]),(3,[])])) .tt) .tt)) (.sq (.rg ([(0,[]),(2,[]),(1,[2]),(3,[2]),(4,[])])) .tt)) .tt))) (.s (.s (.sq (.s (.bj [⟨true,8,137⟩,⟨true,9,262⟩] [8,9] (.s (.s (.s (.sq (.rg (bU 0 7)) (.s (.s (.s (.s (.s (.s (.s (.s (.sq (.rg (bU 0 16)) (.jn [⟨false,16,2⟩] [] (.s (.sq (.rg (bU 0 15)) .tt)) .tt)))))))))))))))) .tt)))))))
def zyb :List Nat:=[]
def zyc :bp:=(.s (.s (.bk (.sq (.rg (bU 0 15)) (.sq (.sq (.rg (bU 0 23++ [(23,[3,7,9])]++bU 24 3)) .tt) (.sq (.rg (bU 0 10)) (.s (.jn [] [] (.sq (.rg (bU 0 19)) (.sq (.rg (bU 0 9)) .tt)) .tt))))))))
def zyd :List Nat:=[8]
def zye :bp:=(.s (.bk (.s (.sq (.sq (.rg (bU 0 15)) (.s (.sq (.rg (bU 0 10)) .tt))) (.s (.sq (.s (.rg (bU 0 13))) (.s (.sq (.rg (bU 0 13)) .tt))))))))
def RJ :List Nat:=[]
def RN :bp:=(.s (.s (.s (.s (.jn [] [] .tt .tt)))))
def zty :List Nat:=[]
def ztz :bp:=.tt
def QN :List Nat:=[7]
def QO :bp:=(.s (.s (.sq (.s (.bk (.lp [⟨false,5,23⟩,⟨false,13,3⟩] [7] (.s (.s (.sq (.bj [⟨false,5,23⟩] [7] .tt) .tt)))))) .tt)))
def RQ :List Nat:=[]
def RV :bp:=(.s (.s (.s (.sq (.bk (.s (.s (.s (.s (.s (.rg (bU 0 19)))))))) .tt))))
def Za :List Nat:=[]
def Zc :bp:=.tt
def N0 :List Nat:=[3]
def N2 :bp:=.tt
def acb :List Nat:=[3]
def acd :bp:=.tt
def abb :List Nat:=[]
def abd :bp:=.tt
def Sx :List Nat:=[]
def Sy :bp:=.tt
def abf :List Nat:=[]
def abh :bp:=.tt
def ace :List Nat:=[5]
def acf :bp:=(.s (.s (.sq (.s (.bk (.lp [⟨false,9,3⟩] [5] .tt))) .tt)))
def ziz :List Nat:=[]
def zja :bp:=(.s (.s (.s (.s (.sq (.rg (bU 0 8)) .tt)))))
def acg :List Nat:=[]
def ach :bp:=(.s (.s (.sq (.s (.bk (.lp [⟨false,8,3⟩] [] .tt))) .tt)))
def QP :List Nat:=[]
def QQ :bp:=.tt
def T5 :List Nat:=[]
def T8 :bp:=.tt
def Ua :List Nat:=[]
def Uc :bp:=.tt
def Vg :List Nat:=[]
def Vi :bp:=(.s (.sq (.rg (bU 0 11)) .tt))
def O5 :List Nat:=[]
def O6 :bp:=.tt
def Ue :List Nat:=[]
def Ug :bp:=.tt
def N3 :List Nat:=[]
def N5 :bp:=(.s (.sq (.s (.bk (.lp [⟨false,8,3⟩] [] .tt))) .tt))
def zyf :List Nat:=[]
def zyg :bp:=(.s (.s (.s (.s (.sq (.rg (bU 0 8)) .tt)))))
def Xl :List Nat:=[]
def Xo :bp:=(.s (.sq (.rg (bU 0 16)) .tt))
def Sz :List Nat:=[6,7]
def SA :bp:=(.s (.jn [] [7] .tt .tt))
def Xv :List Nat:=[2,4]
def Xy :bp:=.tt
def O7 :List Nat:=[2,3,4]
def O9 :bp:=(.s (.sq (.s (.bk (.s (.s (.s (.sq (.sq (.rg (bU 0 12)) .tt) .tt)))))) .tt))
def Ze :List Nat:=[]
def Zg :bp:=.tt
def XB :List Nat:=[]
def XE :bp:=.tt
def XH :List Nat:=[]
def XJ :bp:=.tt
def QR :List Nat:=[]
def QT :bp:=(.s (.sq (.rg (bU 0 26)) .tt))
def zvm :List Nat:=[]
def zvn :bp:=(.bk (.s (.s (.sq (.rg (bU 0 12)) (.sq (.sq (.rg (bU 0 14)) .tt) .tt)))))
def SB :List Nat:=[8,9]
def SC :bp:=(.s (.jn [] [9] .tt .tt))
def QV :List Nat:=[]
def QW :bp:=.tt
def Xr :List Nat:=[]
def Xu :bp:=.tt
def abj :List Nat:=[4]
def abm :bp:=.tt
def abo :List Nat:=[]
def abq :bp:=.tt
def Xx :List Nat:=[]
def XA :bp:=.tt
def Uh :List Nat:=[]
def Ui :bp:=.tt
def XD :List Nat:=[]
def XG :bp:=.tt
def Uj :List Nat:=[]
def Uk :bp:=.tt
def zkm :List Nat:=[]
def zkn :bp:=(.s (.s (.s (.s (.sq (.rg (bU 0 8)) .tt)))))
def Zi :List Nat:=[]
def Zk :bp:=.tt
def SD :List Nat:=[]
def SE :bp:=.tt
def Pa :List Nat:=[]
def Pb :bp:=.tt
def UQ :List Nat:=[]
def UR :bp:=.tt
def Pc :List Nat:=[]
def Pd :bp:=.tt
def SF :List Nat:=[]
def SG :bp:=.tt
def Pe :List Nat:=[]
def Pf :bp:=.tt
def Vk :List Nat:=[]
def Vm :bp:=.tt
def Vo :List Nat:=[]
def Vr :bp:=.tt
def Ul :List Nat:=[4]
def Un :bp:=(.s (.sp 4 (.rg (bU 0 9++ [(10,[]),(9,[3,7]),(11,[7]),(12,[])])) .tt))
def XI :List Nat:=[]
def XK :bp:=.tt
def Vt :List Nat:=[3]
def Vu :bp:=(.s (.s (.s (.sq (.rg (bU 0 11)) (.s (.s (.sq (.s (.sq (.s (.sq (.rg (bU 0 19)) (.rg (bU 0 7++ [(7,[4])]++bU 8 4)))) .tt)) (.sq (.rg (bU 0 7)) .tt))))))))
def zik :List Nat:=[]
def zil :bp:=(.s (.sq (.s (.bk (.lp [⟨false,8,3⟩] [] .tt))) .tt))
def QY :List Nat:=[2]
def Q0 :bp:=.tt
def Uo :List Nat:=[8]
def Uq :bp:=(.s (.sq (.s (.bk (.lp [⟨false,14,3⟩] [8] (.s (.s (.sq (.bk (.s (.s (.bk (.lp [⟨false,23,3⟩] [8] .tt))))) .tt)))))) .tt))
def Vv :List Nat:=[]
def Vx :bp:=.tt
end Lf
namespace Lf
open Go Go.Proofs Tryz
theorem Ir {a:Type _} {l:List a} {i:Nat} (h:l.length<=i):nth l i=none:=by rw [ma];exact List.getElem?_eq_none h
theorem cl {a e:Ty} {p:Ty->Prop} (h:some a=some e) (x:p a):p e:=Option.some.inj h▸x
theorem bA {e:Ty} {q:Prop} (h:(none:Option Ty)=some e):q:=by cases h
theorem nm {p:Nat->Ty->Prop} (b:p 0 ty0) (X:p 2 wj) (h3:p 3 Fs) (h4:p 4 ty4) (h5:p 5 NV) (h9:p 9 ty9) (Y:p 20 GI) (b7:p 22 xi) (c1:p 23 rA) (c7:p 24 BU) (d6:p 26 GJ) (e0:p 27 xj) (e4:p 28 GK) (g2:p 32 BV) (g6:p 34 xk) (g7:p 35 GL) (g8:p 36 BW) (g9:p 37 GM) (h1:p 39 GN) (h6:p 41 GO) (h7:p 43 BX) (h8:p 47 GP) (i0:p 48 BY) (i1:p 50 GQ) (i2:p 52 GR) (i3:p 53 GS) (i4:p 58 GU) (i5:p 60 GV) (i6:p 61 GW) (i7:p 63 GX) (i9:p 65 GY) (j0:p 66 GZ) (j1:p 68 G0) (j2:p 69 G3) (j3:p 70 G4) (k0:p 73 G5) (k1:p 74 G6) (k2:p 76 G7) (k3:p 79 G8) (k4:p 80 G9) (k5:p 81 Ha) (k6:p 83 Hb) (k7:p 85 Hc) (k8:p 92 Hd) (k9:p 94 He) (l0:p 96 Hf) (l1:p 98 Hg) (c:p 101 zx) (d:p 111 zy) (f:p 112 sE) (g:p 113 zz) (j:p 115 zA) (k:p 118 zB) (m:p 119 zC) (o:p 120 zE) (q:p 121 zF) (r:p 123 zG) (s:p 124 zH) (u:p 125 zI) (v:p 126 zJ) (w:p 127 zK) (x:p 129 zM) (y:p 133 zN) (z:p 134 zO) (A:p 135 zP) (B:p 137 zQ) (C:p 138 zR) (D:p 140 zS) (E:p 142 zT) (F:p 145 zU) (G:p 147 zV) (H:p 149 zW) (I:p 151 zZ) (J:p 157 Aa) (K:p 163 Ab) (L:p 168 Ac) (M:p 170 Ad) (N:p 173 Ae) (O:p 184 sH) (P:p 185 qw) (Q:p 187 Af) (R:p 191 vj) (S:p 192 Ag) (T:p 194 Ah) (U:p 196 Ai) (V:p 197 Aj) (W:p 199 Ak) (Z:p 200 Al) (a8:p 203 qx) (a9:p 204 Am) (b0:p 205 sI) (b1:p 206 An) (b2:p 208 Ao) (b3:p 210 Ap) (b4:p 212 Aq) (b5:p 215 Ar) (b6:p 219 As) (b8:p 223 Au) (b9:p 225 Av) (c0:p 229 Aw) (c2:p 231 Ax) (c3:p 232 Ay) (c4:p 234 Az) (c5:p 237 AA) (c6:p 239 AB) (c8:p 240 AD) (d0:p 242 AE) (d1:p 246 AF) (d2:p 249 AG) (d3:p 253 AH) (d4:p 255 AI) (d5:p 257 AJ) (d7:p 262 AK) (d8:p 263 AL) (d9:p 267 AM) (e1:p 271 AN) (e2:p 274 AO) (e3:p 275 AP) (e5:p 283 AQ) (e6:p 284 AR) (e7:p 286 AS) (e8:p 291 AT) (e9:p 293 AU) (f0:p 296 AV) (f4:p 299 AW) (f5:p 302 AX) (f6:p 307 AY) (f7:p 308 AZ) (f8:p 311 A0) (f9:p 314 sJ) (g0:p 318 A2) (g1:p 319 A3) (g3:p 321 A4) (g4:p 323 A5) (g5:p 327 A6):∀t e,BZ t=some e->p t e:=by
 intro t e h;by_cases a:t<336
 ·match t,a,h with
  | 0,_,h=>exact cl h b
  | 1,_,h=>exact bA h
  | 2,_,h=>exact cl h X
  | 3,_,h=>exact cl h h3
  | 4,_,h=>exact cl h h4
  | 5,_,h=>exact cl h h5
  | 6,_,h=>exact bA h
  | 7,_,h=>exact bA h
  | 8,_,h=>exact bA h
  | 9,_,h=>exact cl h h9
  | 10,_,h=>exact bA h
  | 11,_,h=>exact bA h
  | 12,_,h=>exact bA h
  | 13,_,h=>exact bA h
  | 14,_,h=>exact bA h
  | 15,_,h=>exact bA h
  | 16,_,h=>exact bA h
  | 17,_,h=>exact bA h
  | 18,_,h=>exact bA h
  | 19,_,h=>exact bA h
  | 20,_,h=>exact cl h Y
  | 21,_,h=>exact bA h
  | 22,_,h=>exact cl h b7
  | 23,_,h=>exact cl h c1
  | 24,_,h=>exact cl h c7
  | 25,_,h=>exact bA h
  | 26,_,h=>exact cl h d6
  | 27,_,h=>exact cl h e0
  | 28,_,h=>exact cl h e4
  | 29,_,h=>exact bA h
  | 30,_,h=>exact bA h
  | 31,_,h=>exact bA h
  | 32,_,h=>exact cl h g2
  | 33,_,h=>exact bA h
  | 34,_,h=>exact cl h g6
  | 35,_,h=>exact cl h g7
  | 36,_,h=>exact cl h g8
  | 37,_,h=>exact cl h g9
  | 38,_,h=>exact bA h
  | 39,_,h=>exact cl h h1
  | 40,_,h=>exact bA h
  | 41,_,h=>exact cl h h6
  | 42,_,h=>exact bA h
  | 43,_,h=>exact cl h h7
  | 44,_,h=>exact bA h
  | 45,_,h=>exact bA h
  | 46,_,h=>exact bA h
  | 47,_,h=>exact cl h h8
  | 48,_,h=>exact cl h i0
  | 49,_,h=>exact bA h
  | 50,_,h=>exact cl h i1
  | 51,_,h=>exact bA h
  | 52,_,h=>exact cl h i2
  | 53,_,h=>exact cl h i3
  | 54,_,h=>exact bA h
  | 55,_,h=>exact bA h
  | 56,_,h=>exact bA h
  | 57,_,h=>exact bA h
  | 58,_,h=>exact cl h i4
  | 59,_,h=>exact bA h
  | 60,_,h=>exact cl h i5
  | 61,_,h=>exact cl h i6
  | 62,_,h=>exact bA h
  | 63,_,h=>exact cl h i7
  | 64,_,h=>exact bA h
  | 65,_,h=>exact cl h i9
  | 66,_,h=>exact cl h j0
  | 67,_,h=>exact bA h
  | 68,_,h=>exact cl h j1
  | 69,_,h=>exact cl h j2
  | 70,_,h=>exact cl h j3
  | 71,_,h=>exact bA h
  | 72,_,h=>exact bA h
  | 73,_,h=>exact cl h k0
  | 74,_,h=>exact cl h k1
  | 75,_,h=>exact bA h
  | 76,_,h=>exact cl h k2
  | 77,_,h=>exact bA h
  | 78,_,h=>exact bA h
  | 79,_,h=>exact cl h k3
  | 80,_,h=>exact cl h k4
  | 81,_,h=>exact cl h k5
  | 82,_,h=>exact bA h
  | 83,_,h=>exact cl h k6
  | 84,_,h=>exact bA h
  | 85,_,h=>exact cl h k7
  | 86,_,h=>exact bA h
  | 87,_,h=>exact bA h
  | 88,_,h=>exact bA h
  | 89,_,h=>exact bA h
  | 90,_,h=>exact bA h
  | 91,_,h=>exact bA h
  | 92,_,h=>exact cl h k8
  | 93,_,h=>exact bA h
  | 94,_,h=>exact cl h k9
  | 95,_,h=>exact bA h
  | 96,_,h=>exact cl h l0
  | 97,_,h=>exact bA h
  | 98,_,h=>exact cl h l1
  | 99,_,h=>exact bA h
  | 100,_,h=>exact bA h
  | 101,_,h=>exact cl h c
  | 102,_,h=>exact bA h
  | 103,_,h=>exact bA h
  | 104,_,h=>exact bA h
  | 105,_,h=>exact bA h
  | 106,_,h=>exact bA h
  | 107,_,h=>exact bA h
  | 108,_,h=>exact bA h
  | 109,_,h=>exact bA h
  | 110,_,h=>exact bA h
  | 111,_,h=>exact cl h d
  | 112,_,h=>exact cl h f
  | 113,_,h=>exact cl h g
  | 114,_,h=>exact bA h
  | 115,_,h=>exact cl h j
  | 116,_,h=>exact bA h
  | 117,_,h=>exact bA h
  | 118,_,h=>exact cl h k
  | 119,_,h=>exact cl h m
  | 120,_,h=>exact cl h o
  | 121,_,h=>exact cl h q
  | 122,_,h=>exact bA h
  | 123,_,h=>exact cl h r
  | 124,_,h=>exact cl h s
  | 125,_,h=>exact cl h u
  | 126,_,h=>exact cl h v
  | 127,_,h=>exact cl h w
  | 128,_,h=>exact bA h
  | 129,_,h=>exact cl h x
  | 130,_,h=>exact bA h
  | 131,_,h=>exact bA h
  | 132,_,h=>exact bA h
  | 133,_,h=>exact cl h y
  | 134,_,h=>exact cl h z
  | 135,_,h=>exact cl h A
  | 136,_,h=>exact bA h
  | 137,_,h=>exact cl h B
  | 138,_,h=>exact cl h C
  | 139,_,h=>exact bA h
  | 140,_,h=>exact cl h D
  | 141,_,h=>exact bA h
  | 142,_,h=>exact cl h E
  | 143,_,h=>exact bA h
  | 144,_,h=>exact bA h
  | 145,_,h=>exact cl h F
  | 146,_,h=>exact bA h
  | 147,_,h=>exact cl h G
  | 148,_,h=>exact bA h
  | 149,_,h=>exact cl h H
  | 150,_,h=>exact bA h
  | 151,_,h=>exact cl h I
  | 152,_,h=>exact bA h
  | 153,_,h=>exact bA h
  | 154,_,h=>exact bA h
  | 155,_,h=>exact bA h
  | 156,_,h=>exact bA h
  | 157,_,h=>exact cl h J
  | 158,_,h=>exact bA h
  | 159,_,h=>exact bA h
  | 160,_,h=>exact bA h
  | 161,_,h=>exact bA h
  | 162,_,h=>exact bA h
  | 163,_,h=>exact cl h K
  | 164,_,h=>exact bA h
  | 165,_,h=>exact bA h
  | 166,_,h=>exact bA h
  | 167,_,h=>exact bA h
  | 168,_,h=>exact cl h L
  | 169,_,h=>exact bA h
  | 170,_,h=>exact cl h M
  | 171,_,h=>exact bA h
  | 172,_,h=>exact bA h
  | 173,_,h=>exact cl h N
  | 174,_,h=>exact bA h
  | 175,_,h=>exact bA h
  | 176,_,h=>exact bA h
  | 177,_,h=>exact bA h
  | 178,_,h=>exact bA h
  | 179,_,h=>exact bA h
  | 180,_,h=>exact bA h
  | 181,_,h=>exact bA h
  | 182,_,h=>exact bA h
  | 183,_,h=>exact bA h
  | 184,_,h=>exact cl h O
  | 185,_,h=>exact cl h P
  | 186,_,h=>exact bA h
  | 187,_,h=>exact cl h Q
  | 188,_,h=>exact bA h
  | 189,_,h=>exact bA h
  | 190,_,h=>exact bA h
  | 191,_,h=>exact cl h R
  | 192,_,h=>exact cl h S
  | 193,_,h=>exact bA h
  | 194,_,h=>exact cl h T
  | 195,_,h=>exact bA h
  | 196,_,h=>exact cl h U
  | 197,_,h=>exact cl h V
  | 198,_,h=>exact bA h
  | 199,_,h=>exact cl h W
  | 200,_,h=>exact cl h Z
  | 201,_,h=>exact bA h
  | 202,_,h=>exact bA h
  | 203,_,h=>exact cl h a8
  | 204,_,h=>exact cl h a9
  | 205,_,h=>exact cl h b0
  | 206,_,h=>exact cl h b1
  | 207,_,h=>exact bA h
  | 208,_,h=>exact cl h b2
  | 209,_,h=>exact bA h
  | 210,_,h=>exact cl h b3
  | 211,_,h=>exact bA h
  | 212,_,h=>exact cl h b4
  | 213,_,h=>exact bA h
  | 214,_,h=>exact bA h
  | 215,_,h=>exact cl h b5
  | 216,_,h=>exact bA h
  | 217,_,h=>exact bA h
  | 218,_,h=>exact bA h
  | 219,_,h=>exact cl h b6
  | 220,_,h=>exact bA h
  | 221,_,h=>exact bA h
  | 222,_,h=>exact bA h
  | 223,_,h=>exact cl h b8
  | 224,_,h=>exact bA h
  | 225,_,h=>exact cl h b9
  | 226,_,h=>exact bA h
  | 227,_,h=>exact bA h
  | 228,_,h=>exact bA h
  | 229,_,h=>exact cl h c0
  | 230,_,h=>exact bA h
  | 231,_,h=>exact cl h c2
  | 232,_,h=>exact cl h c3
  | 233,_,h=>exact bA h
  | 234,_,h=>exact cl h c4
  | 235,_,h=>exact bA h
  | 236,_,h=>exact bA h
  | 237,_,h=>exact cl h c5
  | 238,_,h=>exact bA h
  | 239,_,h=>exact cl h c6
  | 240,_,h=>exact cl h c8
  | 241,_,h=>exact bA h
  | 242,_,h=>exact cl h d0
  | 243,_,h=>exact bA h
  | 244,_,h=>exact bA h
  | 245,_,h=>exact bA h
  | 246,_,h=>exact cl h d1
  | 247,_,h=>exact bA h
  | 248,_,h=>exact bA h
  | 249,_,h=>exact cl h d2
  | 250,_,h=>exact bA h
  | 251,_,h=>exact bA h
  | 252,_,h=>exact bA h
  | 253,_,h=>exact cl h d3
  | 254,_,h=>exact bA h
  | 255,_,h=>exact cl h d4
  | 256,_,h=>exact bA h
  | 257,_,h=>exact cl h d5
  | 258,_,h=>exact bA h
  | 259,_,h=>exact bA h
  | 260,_,h=>exact bA h
  | 261,_,h=>exact bA h
  | 262,_,h=>exact cl h d7
  | 263,_,h=>exact cl h d8
  | 264,_,h=>exact bA h
  | 265,_,h=>exact bA h
  | 266,_,h=>exact bA h
  | 267,_,h=>exact cl h d9
  | 268,_,h=>exact bA h
  | 269,_,h=>exact bA h
  | 270,_,h=>exact bA h
  | 271,_,h=>exact cl h e1
  | 272,_,h=>exact bA h
  | 273,_,h=>exact bA h
  | 274,_,h=>exact cl h e2
  | 275,_,h=>exact cl h e3
  | 276,_,h=>exact bA h
  | 277,_,h=>exact bA h
  | 278,_,h=>exact bA h
  | 279,_,h=>exact bA h
  | 280,_,h=>exact bA h
  | 281,_,h=>exact bA h
  | 282,_,h=>exact bA h
  | 283,_,h=>exact cl h e5
  | 284,_,h=>exact cl h e6
  | 285,_,h=>exact bA h
  | 286,_,h=>exact cl h e7
  | 287,_,h=>exact bA h
  | 288,_,h=>exact bA h
  | 289,_,h=>exact bA h
  | 290,_,h=>exact bA h
  | 291,_,h=>exact cl h e8
  | 292,_,h=>exact bA h
  | 293,_,h=>exact cl h e9
  | 294,_,h=>exact bA h
  | 295,_,h=>exact bA h
  | 296,_,h=>exact cl h f0
  | 297,_,h=>exact bA h
  | 298,_,h=>exact bA h
  | 299,_,h=>exact cl h f4
  | 300,_,h=>exact bA h
  | 301,_,h=>exact bA h
  | 302,_,h=>exact cl h f5
  | 303,_,h=>exact bA h
  | 304,_,h=>exact bA h
  | 305,_,h=>exact bA h
  | 306,_,h=>exact bA h
  | 307,_,h=>exact cl h f6
  | 308,_,h=>exact cl h f7
  | 309,_,h=>exact bA h
  | 310,_,h=>exact bA h
  | 311,_,h=>exact cl h f8
  | 312,_,h=>exact bA h
  | 313,_,h=>exact bA h
  | 314,_,h=>exact cl h f9
  | 315,_,h=>exact bA h
  | 316,_,h=>exact bA h
  | 317,_,h=>exact bA h
  | 318,_,h=>exact cl h g0
  | 319,_,h=>exact cl h g1
  | 320,_,h=>exact bA h
  | 321,_,h=>exact cl h g3
  | 322,_,h=>exact bA h
  | 323,_,h=>exact cl h g4
  | 324,_,h=>exact bA h
  | 325,_,h=>exact bA h
  | 326,_,h=>exact bA h
  | 327,_,h=>exact cl h g5
  | 328,_,h=>exact bA h
  | 329,_,h=>exact bA h
  | 330,_,h=>exact bA h
  | 331,_,h=>exact bA h
  | 332,_,h=>exact bA h
  | 333,_,h=>exact bA h
  | 334,_,h=>exact bA h
  | 335,_,h=>exact bA h
  | n+336,a,_=>omega
 ·have hl:pF.length=21:=rfl;have:nth pF (t / 16)=none:=Ir (l:=pF) (i:=t / 16) (by rw [hl];omega);unfold BZ at h;rw [this] at h;cases h
theorem ZA (x:pg):(bg x.v).length=1/\∀a,x.v≠ .agg a:=by obtain ⟨v,h⟩:=x;cases v<;>first | exact ⟨rfl,λa h=>by cases h⟩ | cases h
theorem an :tb.Ok prog where
 aN:=nm (p:=λt e=>prog.underlying t=some e.aN) underlying0 underlying2 underlying3 underlying4 underlying5 underlying9 underlying20 underlying22 underlying23 underlying24 underlying26 underlying27 underlying28 underlying32 underlying34 underlying35 underlying36 underlying37 underlying39 underlying41 underlying43 underlying47 underlying48 underlying50 underlying52 underlying53 underlying58 underlying60 underlying61 underlying63 underlying65 underlying66 underlying68 underlying69 underlying70 underlying73 underlying74 underlying76 underlying79 underlying80 underlying81 underlying83 underlying85 underlying92 underlying94 underlying96 underlying98 underlying101 underlying111 underlying112 underlying113 underlying115 underlying118 underlying119 underlying120 underlying121 underlying123 underlying124 underlying125 underlying126 underlying127 underlying129 underlying133 underlying134 underlying135 underlying137 underlying138 underlying140 underlying142 underlying145 underlying147 underlying149 underlying151 underlying157 underlying163 underlying168 underlying170 underlying173 underlying184 underlying185 underlying187 underlying191 underlying192 underlying194 underlying196 underlying197 underlying199 underlying200 underlying203 underlying204 underlying205 underlying206 underlying208 underlying210 underlying212 underlying215 underlying219 underlying223 underlying225 underlying229 underlying231 underlying232 underlying234 underlying237 underlying239 underlying240 underlying242 underlying246 underlying249 underlying253 underlying255 underlying257 underlying262 underlying263 underlying267 underlying271 underlying274 underlying275 underlying283 underlying284 underlying286 underlying291 underlying293 underlying296 underlying299 underlying302 underlying307 underlying308 underlying311 underlying314 underlying318 underlying319 underlying321 underlying323 underlying327
 info:=nm (p:=λt e=>∃i,prog.info? t=some i/\i.size=e.size/\i.bytes=e.bytes/\i.zero=some e.zero) ⟨t0,type0,rfl,rfl,rfl⟩ ⟨t2,type2,rfl,rfl,rfl⟩ ⟨t3,type3,rfl,rfl,rfl⟩ ⟨t4,type4,rfl,rfl,rfl⟩ ⟨t5,type5,rfl,rfl,rfl⟩ ⟨t9,type9,rfl,rfl,rfl⟩ ⟨t20,type20,rfl,rfl,rfl⟩ ⟨t22,type22,rfl,rfl,rfl⟩ ⟨t23,type23,rfl,rfl,rfl⟩ ⟨t24,type24,rfl,rfl,rfl⟩ ⟨t26,type26,rfl,rfl,rfl⟩ ⟨t27,type27,rfl,rfl,rfl⟩ ⟨t28,type28,rfl,rfl,rfl⟩ ⟨t32,type32,rfl,rfl,rfl⟩ ⟨t34,type34,rfl,rfl,rfl⟩ ⟨t35,type35,rfl,rfl,rfl⟩ ⟨t36,type36,rfl,rfl,rfl⟩ ⟨t37,type37,rfl,rfl,rfl⟩ ⟨t39,type39,rfl,rfl,rfl⟩ ⟨t41,type41,rfl,rfl,rfl⟩ ⟨t43,type43,rfl,rfl,rfl⟩ ⟨t47,type47,rfl,rfl,rfl⟩ ⟨t48,type48,rfl,rfl,rfl⟩ ⟨t50,type50,rfl,rfl,rfl⟩ ⟨t52,type52,rfl,rfl,rfl⟩ ⟨t53,type53,rfl,rfl,rfl⟩ ⟨t58,type58,rfl,rfl,rfl⟩ ⟨t60,type60,rfl,rfl,rfl⟩ ⟨t61,type61,rfl,rfl,rfl⟩ ⟨t63,type63,rfl,rfl,rfl⟩ ⟨t65,type65,rfl,rfl,rfl⟩ ⟨t66,type66,rfl,rfl,rfl⟩ ⟨t68,type68,rfl,rfl,rfl⟩ ⟨t69,type69,rfl,rfl,rfl⟩ ⟨t70,type70,rfl,rfl,rfl⟩ ⟨t73,type73,rfl,rfl,rfl⟩ ⟨t74,type74,rfl,rfl,rfl⟩ ⟨t76,type76,rfl,rfl,rfl⟩ ⟨t79,type79,rfl,rfl,rfl⟩ ⟨t80,type80,rfl,rfl,rfl⟩ ⟨t81,type81,rfl,rfl,rfl⟩ ⟨t83,type83,rfl,rfl,rfl⟩ ⟨t85,type85,rfl,rfl,rfl⟩ ⟨t92,type92,rfl,rfl,rfl⟩ ⟨t94,type94,rfl,rfl,rfl⟩ ⟨t96,type96,rfl,rfl,rfl⟩ ⟨t98,type98,rfl,rfl,rfl⟩ ⟨t101,type101,rfl,rfl,rfl⟩ ⟨t111,type111,rfl,rfl,rfl⟩ ⟨t112,type112,rfl,rfl,rfl⟩ ⟨t113,type113,rfl,rfl,rfl⟩ ⟨t115,type115,rfl,rfl,rfl⟩ ⟨t118,type118,rfl,rfl,rfl⟩ ⟨t119,type119,rfl,rfl,rfl⟩ ⟨t120,type120,rfl,rfl,rfl⟩ ⟨t121,type121,rfl,rfl,rfl⟩ ⟨t123,type123,rfl,rfl,rfl⟩ ⟨t124,type124,rfl,rfl,rfl⟩ ⟨t125,type125,rfl,rfl,rfl⟩ ⟨t126,type126,rfl,rfl,rfl⟩ ⟨t127,type127,rfl,rfl,rfl⟩ ⟨t129,type129,rfl,rfl,rfl⟩ ⟨t133,type133,rfl,rfl,rfl⟩ ⟨t134,type134,rfl,rfl,rfl⟩ ⟨t135,type135,rfl,rfl,rfl⟩ ⟨t137,type137,rfl,rfl,rfl⟩ ⟨t138,type138,rfl,rfl,rfl⟩ ⟨t140,type140,rfl,rfl,rfl⟩ ⟨t142,type142,rfl,rfl,rfl⟩ ⟨t145,type145,rfl,rfl,rfl⟩ ⟨t147,type147,rfl,rfl,rfl⟩ ⟨t149,type149,rfl,rfl,rfl⟩ ⟨t151,type151,rfl,rfl,rfl⟩ ⟨t157,type157,rfl,rfl,rfl⟩ ⟨t163,type163,rfl,rfl,rfl⟩ ⟨t168,type168,rfl,rfl,rfl⟩ ⟨t170,type170,rfl,rfl,rfl⟩ ⟨t173,type173,rfl,rfl,rfl⟩ ⟨t184,type184,rfl,rfl,rfl⟩ ⟨t185,type185,rfl,rfl,rfl⟩ ⟨t187,type187,rfl,rfl,rfl⟩ ⟨t191,type191,rfl,rfl,rfl⟩ ⟨t192,type192,rfl,rfl,rfl⟩ ⟨t194,type194,rfl,rfl,rfl⟩ ⟨t196,type196,rfl,rfl,rfl⟩ ⟨t197,type197,rfl,rfl,rfl⟩ ⟨t199,type199,rfl,rfl,rfl⟩ ⟨t200,type200,rfl,rfl,rfl⟩ ⟨t203,type203,rfl,rfl,rfl⟩ ⟨t204,type204,rfl,rfl,rfl⟩ ⟨t205,type205,rfl,rfl,rfl⟩ ⟨t206,type206,rfl,rfl,rfl⟩ ⟨t208,type208,rfl,rfl,rfl⟩ ⟨t210,type210,rfl,rfl,rfl⟩ ⟨t212,type212,rfl,rfl,rfl⟩ ⟨t215,type215,rfl,rfl,rfl⟩ ⟨t219,type219,rfl,rfl,rfl⟩ ⟨t223,type223,rfl,rfl,rfl⟩ ⟨t225,type225,rfl,rfl,rfl⟩ ⟨t229,type229,rfl,rfl,rfl⟩ ⟨t231,type231,rfl,rfl,rfl⟩ ⟨t232,type232,rfl,rfl,rfl⟩ ⟨t234,type234,rfl,rfl,rfl⟩ ⟨t237,type237,rfl,rfl,rfl⟩ ⟨t239,type239,rfl,rfl,rfl⟩ ⟨t240,type240,rfl,rfl,rfl⟩ ⟨t242,type242,rfl,rfl,rfl⟩ ⟨t246,type246,rfl,rfl,rfl⟩ ⟨t249,type249,rfl,rfl,rfl⟩ ⟨t253,type253,rfl,rfl,rfl⟩ ⟨t255,type255,rfl,rfl,rfl⟩ ⟨t257,type257,rfl,rfl,rfl⟩ ⟨t262,type262,rfl,rfl,rfl⟩ ⟨t263,type263,rfl,rfl,rfl⟩ ⟨t267,type267,rfl,rfl,rfl⟩ ⟨t271,type271,rfl,rfl,rfl⟩ ⟨t274,type274,rfl,rfl,rfl⟩ ⟨t275,type275,rfl,rfl,rfl⟩ ⟨t283,type283,rfl,rfl,rfl⟩ ⟨t284,type284,rfl,rfl,rfl⟩ ⟨t286,type286,rfl,rfl,rfl⟩ ⟨t291,type291,rfl,rfl,rfl⟩ ⟨t293,type293,rfl,rfl,rfl⟩ ⟨t296,type296,rfl,rfl,rfl⟩ ⟨t299,type299,rfl,rfl,rfl⟩ ⟨t302,type302,rfl,rfl,rfl⟩ ⟨t307,type307,rfl,rfl,rfl⟩ ⟨t308,type308,rfl,rfl,rfl⟩ ⟨t311,type311,rfl,rfl,rfl⟩ ⟨t314,type314,rfl,rfl,rfl⟩ ⟨t318,type318,rfl,rfl,rfl⟩ ⟨t319,type319,rfl,rfl,rfl⟩ ⟨t321,type321,rfl,rfl,rfl⟩ ⟨t323,type323,rfl,rfl,rfl⟩ ⟨t327,type327,rfl,rfl,rfl⟩
 agg:=by apply nm (p:=λt e=>nB e.aN=true->∀x,∃cs,e.sh.enc x=.agg cs/\cs.size=e.size)<;>first | (intro h;cases h;done) | exact (λ_ x=>⟨_,rfl,rfl⟩) | exact (λ_ x=>⟨_,rfl,x.size⟩)
 leaf:=by apply nm (p:=λt e=>nB e.aN=false->e.size=1/\∀x,(bg (e.sh.enc x)).length=1/\∀cs,e.sh.enc x≠ .agg cs)<;>first | (intro h;cases h;done) | (refine λ_=>⟨rfl,λx=>⟨rfl,λcs h=> ?_⟩⟩;cases h;done) | exact (λ_=>⟨rfl,ZA⟩)
 yj:=by apply nm (p:=λt e=>(bg e.zero).length=e.size)<;>first | exact rfl
 A8:=by apply nm (p:=λt e=>e.aN=.int .u8->bg e.zero=[.int .u8 0])<;>first | (intro h;cases h;done) | exact (λ_=>rfl)
 N6:=by apply nm (p:=λt e=>nB e.aN=true->∃cs,e.zero=.agg cs)<;>first | (intro h;cases h;done) | exact (λ_=>⟨_,rfl⟩)
 call:=by
  intro g h;by_cases k:g<256
  ·match g,k,h with
   | 0,_,h=>exact absurd (show false=true from h) (by simp)
   | 1,_,h=>exact absurd (show false=true from h) (by simp)
   | 2,_,_=>exact call2
   | 3,_,_=>exact call3
   | 4,_,_=>exact call4
   | 5,_,_=>exact call5
   | 6,_,_=>exact call6
   | 7,_,_=>exact call7
   | 8,_,_=>exact call8
   | 9,_,_=>exact call9
   | 10,_,_=>exact call10
   | 11,_,_=>exact call11
   | 12,_,_=>exact call12
   | 13,_,_=>exact call13
   | 14,_,_=>exact call14
   | 15,_,_=>exact call15
   | 16,_,_=>exact call16
   | 17,_,_=>exact call17
   | 18,_,_=>exact call18
   | 19,_,_=>exact call19
   | 20,_,_=>exact call20
   | 21,_,_=>exact call21
   | 22,_,_=>exact call22
   | 23,_,_=>exact call23
   | 24,_,_=>exact call24
   | 25,_,_=>exact call25
   | 26,_,_=>exact call26
   | 27,_,_=>exact call27
   | 28,_,_=>exact call28
   | 29,_,_=>exact call29
   | 30,_,_=>exact call30
   | 31,_,_=>exact call31
   | 32,_,_=>exact call32
   | 33,_,_=>exact call33
   | 34,_,_=>exact call34
   | 35,_,_=>exact call35
   | 36,_,_=>exact call36
   | 37,_,_=>exact call37
   | 38,_,_=>exact call38
   | 39,_,_=>exact call39
   | 40,_,_=>exact call40
   | 41,_,_=>exact call41
   | 42,_,_=>exact call42
   | 43,_,_=>exact call43
   | 44,_,_=>exact call44
   | 45,_,_=>exact call45
   | 46,_,_=>exact call46
   | 47,_,_=>exact call47
   | 48,_,_=>exact call48
   | 49,_,_=>exact call49
   | 50,_,_=>exact call50
   | 51,_,_=>exact call51
   | 52,_,_=>exact call52
   | 53,_,_=>exact call53
   | 54,_,_=>exact call54
   | 55,_,_=>exact call55
   | 56,_,_=>exact call56
   | 57,_,_=>exact call57
   | 58,_,_=>exact call58
   | 59,_,_=>exact call59
   | 60,_,_=>exact call60
   | 61,_,_=>exact call61
   | 62,_,_=>exact call62
   | 63,_,_=>exact call63
   | 64,_,_=>exact call64
   | 65,_,_=>exact call65
   | 66,_,_=>exact call66
   | 67,_,_=>exact call67
   | 68,_,_=>exact call68
   | 69,_,_=>exact call69
   | 70,_,_=>exact call70
   | 71,_,_=>exact call71
   | 72,_,_=>exact call72
   | 73,_,_=>exact call73
   | 74,_,_=>exact call74
   | 75,_,_=>exact call75
   | 76,_,_=>exact call76
   | 77,_,_=>exact call77
   | 78,_,_=>exact call78
   | 79,_,_=>exact call79
   | 80,_,_=>exact call80
   | 81,_,_=>exact call81
   | 82,_,_=>exact call82
   | 83,_,_=>exact call83
   | 84,_,_=>exact call84
   | 85,_,_=>exact call85
   | 86,_,_=>exact call86
   | 87,_,_=>exact call87
   | 88,_,_=>exact call88
   | 89,_,_=>exact call89
   | 90,_,_=>exact call90
   | 91,_,_=>exact call91
   | 92,_,_=>exact call92
   | 93,_,_=>exact call93
   | 94,_,_=>exact call94
   | 95,_,_=>exact call95
   | 96,_,_=>exact call96
   | 97,_,_=>exact call97
   | 98,_,_=>exact call98
   | 99,_,_=>exact call99
   | 100,_,_=>exact call100
   | 101,_,_=>exact call101
   | 102,_,_=>exact call102
   | 103,_,_=>exact call103
   | 104,_,_=>exact call104
   | 105,_,_=>exact call105
   | 106,_,_=>exact call106
   | 107,_,_=>exact call107
   | 108,_,_=>exact call108
   | 109,_,_=>exact call109
   | 110,_,_=>exact call110
   | 111,_,_=>exact call111
   | 112,_,_=>exact call112
   | 113,_,_=>exact call113
   | 114,_,_=>exact call114
   | 115,_,_=>exact call115
   | 116,_,_=>exact call116
   | 117,_,_=>exact call117
   | 118,_,_=>exact call118
   | 119,_,_=>exact call119
   | 120,_,_=>exact call120
   | 121,_,_=>exact call121
   | 122,_,_=>exact call122
   | 123,_,_=>exact call123
   | 124,_,_=>exact call124
   | 125,_,_=>exact call125
   | 126,_,_=>exact call126
   | 127,_,_=>exact call127
   | 128,_,_=>exact call128
   | 129,_,_=>exact call129
   | 130,_,_=>exact call130
   | 131,_,_=>exact call131
   | 132,_,_=>exact call132
   | 133,_,_=>exact call133
   | 134,_,_=>exact call134
   | 135,_,_=>exact call135
   | 136,_,_=>exact call136
   | 137,_,_=>exact call137
   | 138,_,_=>exact call138
   | 139,_,_=>exact call139
   | 140,_,_=>exact call140
   | 141,_,_=>exact call141
   | 142,_,_=>exact call142
   | 143,_,_=>exact call143
   | 144,_,_=>exact call144
   | 145,_,_=>exact call145
   | 146,_,_=>exact call146
   | 147,_,_=>exact call147
   | 148,_,_=>exact call148
   | 149,_,_=>exact call149
   | 150,_,_=>exact call150
   | 151,_,_=>exact call151
   | 152,_,_=>exact call152
   | 153,_,_=>exact call153
   | 154,_,_=>exact call154
   | 155,_,_=>exact call155
   | 156,_,_=>exact call156
   | 157,_,_=>exact call157
   | 158,_,_=>exact call158
   | 159,_,_=>exact call159
   | 160,_,_=>exact call160
   | 161,_,_=>exact call161
   | 162,_,_=>exact call162
   | 163,_,_=>exact call163
   | 164,_,_=>exact call164
   | 165,_,_=>exact call165
   | 166,_,_=>exact call166
   | 167,_,_=>exact call167
   | 168,_,_=>exact call168
   | 169,_,_=>exact call169
   | 170,_,_=>exact call170
   | 171,_,_=>exact call171
   | 172,_,_=>exact call172
   | 173,_,_=>exact call173
   | 174,_,_=>exact call174
   | 175,_,_=>exact call175
   | 176,_,_=>exact call176
   | 177,_,_=>exact call177
   | 178,_,_=>exact call178
   | 179,_,_=>exact call179
   | 180,_,_=>exact call180
   | 181,_,_=>exact call181
   | 182,_,_=>exact call182
   | 183,_,_=>exact call183
   | 184,_,_=>exact call184
   | 185,_,_=>exact call185
   | 186,_,_=>exact call186
   | 187,_,_=>exact call187
   | 188,_,_=>exact call188
   | 189,_,h=>exact absurd (show false=true from h) (by simp)
   | 190,_,_=>exact call190
   | 191,_,_=>exact call191
   | 192,_,_=>exact call192
   | 193,_,_=>exact call193
   | 194,_,_=>exact call194
   | 195,_,_=>exact call195
   | 196,_,_=>exact call196
   | 197,_,_=>exact call197
   | 198,_,_=>exact call198
   | 199,_,_=>exact call199
   | 200,_,_=>exact call200
   | 201,_,_=>exact call201
   | 202,_,_=>exact call202
   | 203,_,_=>exact call203
   | 204,_,_=>exact call204
   | 205,_,_=>exact call205
   | 206,_,_=>exact call206
   | 207,_,_=>exact call207
   | 208,_,_=>exact call208
   | 209,_,_=>exact call209
   | 210,_,_=>exact call210
   | 211,_,_=>exact call211
   | 212,_,_=>exact call212
   | 213,_,_=>exact call213
   | 214,_,_=>exact call214
   | 215,_,_=>exact call215
   | 216,_,_=>exact call216
   | 217,_,_=>exact call217
   | 218,_,_=>exact call218
   | 219,_,_=>exact call219
   | 220,_,_=>exact call220
   | 221,_,_=>exact call221
   | 222,_,_=>exact call222
   | 223,_,_=>exact call223
   | 224,_,_=>exact call224
   | 225,_,_=>exact call225
   | 226,_,_=>exact call226
   | 227,_,_=>exact call227
   | 228,_,_=>exact call228
   | 229,_,_=>exact call229
   | 230,_,_=>exact call230
   | 231,_,_=>exact call231
   | 232,_,_=>exact call232
   | 233,_,_=>exact call233
   | 234,_,_=>exact call234
   | 235,_,_=>exact call235
   | 236,_,_=>exact call236
   | 237,_,_=>exact call237
   | 238,_,h=>exact absurd (show false=true from h) (by simp)
   | 239,_,h=>exact absurd (show false=true from h) (by simp)
   | 240,_,_=>exact call240
   | 241,_,_=>exact call241
   | 242,_,_=>exact call242
   | 243,_,_=>exact call243
   | 244,_,_=>exact call244
   | 245,_,h=>exact absurd (show false=true from h) (by simp)
   | 246,_,_=>exact call246
   | 247,_,_=>exact call247
   | 248,_,h=>exact absurd (show false=true from h) (by simp)
   | 249,_,_=>exact call249
   | 250,_,h=>exact absurd (show false=true from h) (by simp)
   | 251,_,h=>exact absurd (show false=true from h) (by simp)
   | 252,_,h=>exact absurd (show false=true from h) (by simp)
   | 253,_,h=>exact absurd (show false=true from h) (by simp)
   | 254,_,h=>exact absurd (show false=true from h) (by simp)
   | 255,_,h=>exact absurd (show false=true from h) (by simp)
   | n+256,k,_=>omega
  ·have m:py.length=16:=rfl;have:nth py (g / 16)=none:=Ir (l:=py) (i:=g / 16) (by rw [m];omega);have h:Bw g=true:=h;unfold Bw at h;rw [this] at h;cases h
 ext:=by
  intro g f h args w;have h:uP g=some f:=h;unfold uP at h;cases b:Nat.beq g 189 with
  | true=>have a:g=189:=Nat.eq_of_beq_eq_true b;subst a;exact run_callFunc_extern func189 (by kernel_rfl) (by kernel_rfl) (by kernel_rfl) (show _=_ from (show _=some _ by kernel_rfl:_=some _).trans h) args w
  | false=>
  simp only [b,cond_false] at h;cases c:Nat.beq g 238 with
  | true=>have a:g=238:=Nat.eq_of_beq_eq_true c;subst a;exact run_callFunc_extern func238 (by kernel_rfl) (by kernel_rfl) (by kernel_rfl) (show _=_ from (show _=some _ by kernel_rfl:_=some _).trans h) args w
  | false=>
  simp only [c,cond_false] at h;cases d:Nat.beq g 239 with
  | true=>have a:g=239:=Nat.eq_of_beq_eq_true d;subst a;exact run_callFunc_extern func239 (by kernel_rfl) (by kernel_rfl) (by kernel_rfl) (show _=_ from (show _=some _ by kernel_rfl:_=some _).trans h) args w
  | false=>
  simp only [d,cond_false] at h;cases j:Nat.beq g 248 with
  | true=>have a:g=248:=Nat.eq_of_beq_eq_true j;subst a;exact run_callFunc_extern func248 (by kernel_rfl) (by kernel_rfl) (by kernel_rfl) (show _=_ from (show _=some _ by kernel_rfl:_=some _).trans h) args w
  | false=>
  simp only [j,cond_false] at h;cases h
 mixed:=by kernel_rfl
theorem gB {raw script ticks Q h} (hv:Qk prog raw script ticks Q h):ae prog zsl [(av).enc raw,(av).enc script,yH.enc ticks] (bB) Q h:=
 bM (C:=⟨prog,tb,zsm⟩) (A:=zsn) an func5 rfl (Eq.mpr (by kernel_rfl) hv)
theorem zua {Q h} (hv:R2 prog  Q h):ae prog znk [] (bB) Q h:=
 bM (C:=⟨prog,tb,zzf⟩) (A:=zzg) an func9 rfl (Eq.mpr (by kernel_rfl) hv)
theorem Jc {raw Q h} (hv:Df prog raw Q h):fW prog xu [(av).enc raw] (ah) yH yH Q h:=
 show ae prog xu [(av).enc raw] (bn tb [35,36,3]) (λr=>Q r.1 r.2.1 r.2.2) h from bM (C:=⟨prog,tb,RO⟩) (A:=RT) an func10 rfl (Eq.mpr (by kernel_rfl) hv)
theorem zjs {b Q h} (hv:Rb prog b Q h):fW prog QS [(av).enc b] (aO) yH yH Q h:=
 show ae prog QS [(av).enc b] (bn tb [26,36,3]) (λr=>Q r.1 r.2.1 r.2.2) h from bM (C:=⟨prog,tb,zxd⟩) (A:=zxe) an func11 rfl (Eq.mpr (by kernel_rfl) hv)
theorem Nb {r s Q h} (hv:Kg prog r s Q h):ae prog Ke [(ah).enc r,(dJ).enc s] (Fz) Q h:=
 bM (C:=⟨prog,tb,ab6⟩) (A:=ab7) an func12 rfl (Eq.mpr (by kernel_rfl) hv)
theorem zsa {Q h} (hv:QF prog  Q h):bh prog QA [] (av) (bB) Q h:=
 show ae prog QA [] (bn tb [34,4]) (λr=>Q r.1 r.2) h from bM (C:=⟨prog,tb,zvi⟩) (A:=zvj) an func17 rfl (Eq.mpr (by kernel_rfl) hv)
theorem R0 {r Q h} (hv:HA prog r Q h):ae prog Hr [(ah).enc r] (A9) Q h:=
 bM (C:=⟨prog,tb,WA⟩) (A:=WC) an func18 rfl (Eq.mpr (by kernel_rfl) hv)
theorem VA {b Q h} (hv:zwr prog b Q h):fW prog zwk [(av).enc b] (aO) yH yH Q h:=
 show ae prog zwk [(av).enc b] (bn tb [26,36,3]) (λr=>Q r.1 r.2.1 r.2.2) h from bM (C:=⟨prog,tb,aaE⟩) (A:=aaG) an func19 rfl (Eq.mpr (by kernel_rfl) hv)
theorem VC {c Q h} (hv:zws prog c Q h):bh prog zwl [(aO).enc c] (ah) yH Q h:=
 show ae prog zwl [(aO).enc c] (bn tb [69,36]) (λr=>Q r.1 r.2) h from bM (C:=⟨prog,tb,aaI⟩) (A:=aaK) an func20 rfl (Eq.mpr (by kernel_rfl) hv)
theorem zna {r Q h} (hv:PK prog r Q h):ae prog zfx [(ah).enc r] (aO) Q h:=
 bM (C:=⟨prog,tb,zpa⟩) (A:=zpb) an func21 rfl (Eq.mpr (by kernel_rfl) hv)
theorem xm {r e at_ Q h} (hv:My prog r e at_ Q h):aY prog tv [(ah).enc r,yH.enc e,yH.enc at_] (Q) h:=
 show ae prog tv [(ah).enc r,yH.enc e,yH.enc at_] (bn tb []) (λ_=>Q) h from bM (C:=⟨prog,tb,zqm⟩) (A:=zqn) an func22 rfl (Eq.mpr (by kernel_rfl) hv)
theorem Jd {Q h} (hv:Dg prog  Q h):ae prog La [] (fN) Q h:=
 bM (C:=⟨prog,tb,RW⟩) (A:=RY) an func23 rfl (Eq.mpr (by kernel_rfl) hv)
theorem zss {m Q h} (hv:MF prog m Q h):ae prog zmi [(ah).enc m] (A9) Q h:=
 bM (C:=⟨prog,tb,zxf⟩) (A:=zxg) an func26 rfl (Eq.mpr (by kernel_rfl) hv)
theorem zst {c Q h} (hv:Rc prog c Q h):bh prog QU [(aO).enc c] (av) yH Q h:=
 show ae prog QU [(aO).enc c] (bn tb [34,36]) (λr=>Q r.1 r.2) h from bM (C:=⟨prog,tb,zxh⟩) (A:=zxi) an func35 rfl (Eq.mpr (by kernel_rfl) hv)
theorem Ct {r e place Q h} (hv:Vn prog r e place Q h):aY prog xn [(ah).enc r,yH.enc e,yH.enc place] (Q) h:=
 show ae prog xn [(ah).enc r,yH.enc e,yH.enc place] (bn tb []) (λ_=>Q) h from bM (C:=⟨prog,tb,RB⟩) (A:=RD) an func36 rfl (Eq.mpr (by kernel_rfl) hv)
theorem zyh {r Q h} (hv:TE prog r Q h):aY prog Tq [(ah).enc r] (Q) h:=
 show ae prog Tq [(ah).enc r] (bn tb []) (λ_=>Q) h from bM (C:=⟨prog,tb,Pk⟩) (A:=Pm) an func37 rfl (Eq.mpr (by kernel_rfl) hv)
theorem ud {r Q h} (hv:MZ prog r Q h):ae prog uf [(ah).enc r] (bB) Q h:=
 bM (C:=⟨prog,tb,Te⟩) (A:=Tg) an func38 rfl (Eq.mpr (by kernel_rfl) hv)
theorem zyi {r c Q h} (hv:TG prog r c Q h):aY prog Ts [(ah).enc r,(ah).enc c] (Q) h:=
 show ae prog Ts [(ah).enc r,(ah).enc c] (bn tb []) (λ_=>Q) h from bM (C:=⟨prog,tb,Pn⟩) (A:=Pp) an func39 rfl (Eq.mpr (by kernel_rfl) hv)
theorem N7 {r c Q h} (hv:UD prog r c Q h):aY prog Ux [(ah).enc r,(ah).enc c] (Q) h:=
 show ae prog Ux [(ah).enc r,(ah).enc c] (bn tb []) (λ_=>Q) h from bM (C:=⟨prog,tb,Qu⟩) (A:=Qv) an func40 rfl (Eq.mpr (by kernel_rfl) hv)
theorem zyj {r part bytes Q h} (hv:TJ prog r part bytes Q h):ae prog Fv [(ah).enc r,yH.enc part,yH.enc bytes] yH Q h:=
 bM (C:=⟨prog,tb,Pr⟩) (A:=Pu) an func41 rfl (Eq.mpr (by kernel_rfl) hv)
theorem QJ {r dR Q h} (hv:SO prog r dR Q h):ae prog MN [(ah).enc r,yH.enc dR] yH Q h:=
 bM (C:=⟨prog,tb,Oz⟩) (A:=OB) an func42 rfl (Eq.mpr (by kernel_rfl) hv)
theorem OH {r c Q h} (hv:Vq prog r c Q h):aY prog U7 [(ah).enc r,(ah).enc c] (Q) h:=
 show ae prog U7 [(ah).enc r,(ah).enc c] (bn tb []) (λ_=>Q) h from bM (C:=⟨prog,tb,RF⟩) (A:=RH) an func43 rfl (Eq.mpr (by kernel_rfl) hv)
theorem abt {c Q h} (hv:Dh prog c Q h):bh prog Da [(aO).enc c] yH yH Q h:=
 show ae prog Da [(aO).enc c] (bn tb [36,3]) (λr=>Q r.1 r.2) h from bM (C:=⟨prog,tb,R1⟩) (A:=R3) an func44 rfl (Eq.mpr (by kernel_rfl) hv)
theorem Ut {c s Q h} (hv:ZH prog c s Q h):ae prog HO [(aO).enc c,(A9).enc s] (ah) Q h:=
 bM (C:=⟨prog,tb,YX⟩) (A:=YZ) an func45 rfl (Eq.mpr (by kernel_rfl) hv)
theorem R5 {c Q h} (hv:Ys prog c Q h):ae prog Hs [(aO).enc c] (A9) Q h:=
 bM (C:=⟨prog,tb,WE⟩) (A:=WG) an func46 rfl (Eq.mpr (by kernel_rfl) hv)
theorem zom {r s Q h} (hv:Qd prog r s Q h):aY prog P8 [(ah).enc r,(lY).enc s] (Q) h:=
 show ae prog P8 [(ah).enc r,(lY).enc s] (bn tb []) (λ_=>Q) h from bM (C:=⟨prog,tb,zqo⟩) (A:=zqp) an func47 rfl (Eq.mpr (by kernel_rfl) hv)
theorem wq {r many least dR low high Q h} (hv:Qi prog r many least dR low high Q h):ae prog vo [(ah).enc r,yH.enc many,yH.enc least,yH.enc dR,yH.enc low,yH.enc high] yH Q h:=
 bM (C:=⟨prog,tb,zry⟩) (A:=zrz) an func48 rfl (Eq.mpr (by kernel_rfl) hv)
theorem Ph {r many Q h} (hv:PM prog r many Q h):ae prog Mx [(ah).enc r,yH.enc many] (af .u64) Q h:=
 bM (C:=⟨prog,tb,zpc⟩) (A:=zpd) an func49 rfl (Eq.mpr (by kernel_rfl) hv)
theorem zon {r many ag Q h} (hv:Qf prog r many ag Q h):ae prog zif [(ah).enc r,yH.enc many,yH.enc ag] (av) Q h:=
 bM (C:=⟨prog,tb,zqq⟩) (A:=zqr) an func50 rfl (Eq.mpr (by kernel_rfl) hv)
theorem Uv {r s Q h} (hv:ZJ prog r s Q h):ae prog YT [(ah).enc r,(dJ).enc s] yH Q h:=
 bM (C:=⟨prog,tb,Y1⟩) (A:=Y3) an func51 rfl (Eq.mpr (by kernel_rfl) hv)
theorem Q2 {r s Q h} (hv:zyz prog r s Q h):ae prog UZ [(ah).enc r,(dJ).enc s] yH Q h:=
 bM (C:=⟨prog,tb,U1⟩) (A:=U3) an func52 rfl (Eq.mpr (by kernel_rfl) hv)
theorem Uy {r s Q h} (hv:HQ prog r s Q h):ae prog YV [(ah).enc r,(dJ).enc s] yH Q h:=
 bM (C:=⟨prog,tb,Y6⟩) (A:=Y8) an func53 rfl (Eq.mpr (by kernel_rfl) hv)
theorem zsb {m p v Q h} (hv:ME prog m p v Q h):ae prog zls [(ah).enc m,yH.enc p,yH.enc v] yH Q h:=
 bM (C:=⟨prog,tb,zvk⟩) (A:=zvl) an func54 rfl (Eq.mpr (by kernel_rfl) hv)
theorem zub {m p Q h} (hv:ML prog m p Q h):ae prog znl [(ah).enc m,yH.enc p] yH Q h:=
 bM (C:=⟨prog,tb,zzh⟩) (A:=zzi) an func55 rfl (Eq.mpr (by kernel_rfl) hv)
theorem N8 {l Q h} (hv:UE prog l Q h):bh prog MP [(ah).enc l] (av) (av) Q h:=
 show ae prog MP [(ah).enc l] (bn tb [23,113]) (λr=>Q r.1 r.2) h from bM (C:=⟨prog,tb,Qw⟩) (A:=Qx) an func58 rfl (Eq.mpr (by kernel_rfl) hv)
theorem zdv {s Q h} (hv:O8 prog s Q h):ae prog Hy [(av).enc s] (av) Q h:=
 bM (C:=⟨prog,tb,zlx⟩) (A:=zly) an func59 rfl (Eq.mpr (by kernel_rfl) hv)
theorem PU {p Q h} (hv:V6 prog p Q h):bh prog MX [(ah).enc p] (av) yH Q h:=
 show ae prog MX [(ah).enc p] (bn tb [66,3]) (λr=>Q r.1 r.2) h from bM (C:=⟨prog,tb,Ti⟩) (A:=Tk) an func60 rfl (Eq.mpr (by kernel_rfl) hv)
theorem zqd {w dg Q h} (hv:M0 prog w dg Q h):bh prog Fw [(ah).enc w,yH.enc dg] yH (bB) Q h:=
 show ae prog Fw [(ah).enc w,yH.enc dg] (bn tb [2,4]) (λr=>Q r.1 r.2) h from bM (C:=⟨prog,tb,Tm⟩) (A:=Tn) an func61 rfl (Eq.mpr (by kernel_rfl) hv)
theorem Ia {p Q h} (hv:M8 prog p Q h):ae prog wz [yH.enc p] yH Q h:=
 bM (C:=⟨prog,tb,WI⟩) (A:=WK) an func62 rfl (Eq.mpr (by kernel_rfl) hv)
theorem Ib {p Q h} (hv:M9 prog p Q h):ae prog xA [yH.enc p] yH Q h:=
 bM (C:=⟨prog,tb,WM⟩) (A:=WO) an func63 rfl (Eq.mpr (by kernel_rfl) hv)
theorem zuc {m Q h} (hv:MM prog m Q h):ae prog znm [(ah).enc m] yH Q h:=
 bM (C:=⟨prog,tb,zzj⟩) (A:=zzk) an func68 rfl (Eq.mpr (by kernel_rfl) hv)
theorem VE {a b Q h} (hv:zwt prog a b Q h):ae prog I6 [(af .u64).enc a,(af .u64).enc b] (bB) Q h:=
 bM (C:=⟨prog,tb,aaM⟩) (A:=aaO) an func74 rfl (Eq.mpr (by kernel_rfl) hv)
theorem zyk {c Q h} (hv:TM prog c Q h):bh prog Tu [(aO).enc c] yH yH Q h:=
 show ae prog Tu [(aO).enc c] (bn tb [36,3]) (λr=>Q r.1 r.2) h from bM (C:=⟨prog,tb,Pw⟩) (A:=Px) an func75 rfl (Eq.mpr (by kernel_rfl) hv)
theorem MA {b n many Q h} (hv:Rd prog b n many Q h):ae prog HE [(av).enc b,(af .u64).enc n,yH.enc many] (av) Q h:=
 bM (C:=⟨prog,tb,zxj⟩) (A:=zxk) an func76 rfl (Eq.mpr (by kernel_rfl) hv)
theorem zyl {b x Q h} (hv:TP prog b x Q h):ae prog zqa [(av).enc b,(aM).enc x] (av) Q h:=
 bM (C:=⟨prog,tb,Py⟩) (A:=PA) an func77 rfl (Eq.mpr (by kernel_rfl) hv)
theorem MG {r many wrong Q h} (hv:TS prog r many wrong Q h):ae prog wv [(ah).enc r,yH.enc many,(gv).enc wrong] (af .u64) Q h:=
 bM (C:=⟨prog,tb,PB⟩) (A:=PD) an func78 rfl (Eq.mpr (by kernel_rfl) hv)
theorem zud {n a1 Q h} (hv:R4 prog n a1 Q h):ae prog RM [(af .u64).enc n,.pointer (some a1)] yH Q h:=
 bM (C:=⟨prog,tb,zzl⟩) (A:=zzm) an func79 rfl (Eq.mpr (by kernel_rfl) hv)
theorem zue {a a1 Q h} (hv:R7 prog a a1 Q h):ae prog RP [(af .u64).enc a,.pointer (some a1)] yH Q h:=
 bM (C:=⟨prog,tb,zzn⟩) (A:=zzo) an func80 rfl (Eq.mpr (by kernel_rfl) hv)
theorem zjt {r c Q h} (hv:Re prog r c Q h):ae prog QX [(ah).enc r,(ah).enc c] yH Q h:=
 bM (C:=⟨prog,tb,zxl⟩) (A:=zxm) an func81 rfl (Eq.mpr (by kernel_rfl) hv)
theorem MO {r many wrong Q h} (hv:V7 prog r many wrong Q h):ae prog Iw [(ah).enc r,yH.enc many,(gv).enc wrong] yH Q h:=
 bM (C:=⟨prog,tb,Tr⟩) (A:=Tt) an func82 rfl (Eq.mpr (by kernel_rfl) hv)
theorem zuf {n a1 Q h} (hv:zno prog n a1 Q h):ae prog RU [yH.enc n,.pointer (some a1)] yH Q h:=
 bM (C:=⟨prog,tb,zzp⟩) (A:=zzq) an func83 rfl (Eq.mpr (by kernel_rfl) hv)
theorem zza {part n Q h} (hv:zwu prog part n Q h):ae prog zwm [yH.enc part,yH.enc n] yH Q h:=
 bM (C:=⟨prog,tb,aaQ⟩) (A:=aaS) an func84 rfl (Eq.mpr (by kernel_rfl) hv)
theorem zsu {n a1 Q h} (hv:zmv prog n a1 Q h):ae prog QZ [yH.enc n,.pointer (some a1)] yH Q h:=
 bM (C:=⟨prog,tb,zxn⟩) (A:=zxo) an func85 rfl (Eq.mpr (by kernel_rfl) hv)
theorem Z5 {n dR Q h} (hv:CW prog n dR Q h):ae prog Nw [yH.enc n,yH.enc dR] yH Q h:=
 bM (C:=⟨prog,tb,OR⟩) (A:=OS) an func86 rfl (Eq.mpr (by kernel_rfl) hv)
theorem zym {n Q h} (hv:TV prog n Q h):ae prog Tw [yH.enc n] yH Q h:=
 bM (C:=⟨prog,tb,PE⟩) (A:=PF) an func87 rfl (Eq.mpr (by kernel_rfl) hv)
theorem PW {r n ag Q h} (hv:V9 prog r n ag Q h):ae prog zva [(ah).enc r,yH.enc n,yH.enc ag] (aM) Q h:=
 bM (C:=⟨prog,tb,Tv⟩) (A:=Tx) an func88 rfl (Eq.mpr (by kernel_rfl) hv)
theorem Z7 {l Q h} (hv:Kt prog l Q h):bh prog Nx [(av).enc l] yH yH Q h:=
 show ae prog Nx [(av).enc l] (bn tb [36,3]) (λr=>Q r.1 r.2) h from bM (C:=⟨prog,tb,OT⟩) (A:=OU) an func89 rfl (Eq.mpr (by kernel_rfl) hv)
theorem HR {table parts Q h} (hv:Kv prog table parts Q h):fW prog Ny [(av).enc table,yH.enc parts] (ah) yH yH Q h:=
 show ae prog Ny [(av).enc table,yH.enc parts] (bn tb [119,36,3]) (λr=>Q r.1 r.2.1 r.2.2) h from bM (C:=⟨prog,tb,OW⟩) (A:=OX) an func90 rfl (Eq.mpr (by kernel_rfl) hv)
theorem I9 {n from_ to Q h} (hv:zwv prog n from_ to Q h):ae prog FA [yH.enc n,yH.enc from_,yH.enc to] (bB) Q h:=
 bM (C:=⟨prog,tb,aaU⟩) (A:=aaW) an func91 rfl (Eq.mpr (by kernel_rfl) hv)
theorem abv {l ag Q h} (hv:Di prog l ag Q h):bh prog Db [(av).enc l,yH.enc ag] yH yH Q h:=
 show ae prog Db [(av).enc l,yH.enc ag] (bn tb [36,3]) (λr=>Q r.1 r.2) h from bM (C:=⟨prog,tb,R6⟩) (A:=R9) an func92 rfl (Eq.mpr (by kernel_rfl) hv)
theorem Q3 {c Q h} (hv:Xk prog c Q h):ae prog zyw [(aO).enc c] (aO) Q h:=
 bM (C:=⟨prog,tb,U4⟩) (A:=U6) an func93 rfl (Eq.mpr (by kernel_rfl) hv)
theorem Zl {l Q h} (hv:Kw prog l Q h):fW prog CR [(av).enc l] (ah) yH yH Q h:=
 show ae prog CR [(av).enc l] (bn tb [118,36,3]) (λr=>Q r.1 r.2.1 r.2.2) h from bM (C:=⟨prog,tb,OZ⟩) (A:=O0) an func94 rfl (Eq.mpr (by kernel_rfl) hv)
theorem Zm {az aw Q h} (hv:CX prog az aw Q h):bh prog Nz [(av).enc az,(av).enc aw] (ah) yH Q h:=
 show ae prog Nz [(av).enc az,(av).enc aw] (bn tb [126,36]) (λr=>Q r.1 r.2) h from bM (C:=⟨prog,tb,O1⟩) (A:=O2) an func95 rfl (Eq.mpr (by kernel_rfl) hv)
theorem Zn {Q h} (hv:NA prog  Q h):ae prog CS [] (ah) Q h:=
 bM (C:=⟨prog,tb,O3⟩) (A:=O4) an func96 rfl (Eq.mpr (by kernel_rfl) hv)
theorem abx {room l aj Q h} (hv:Dj prog room l aj Q h):bh prog xv [yH.enc room,(av).enc l,yH.enc aj] (ah) yH Q h:=
 show ae prog xv [yH.enc room,(av).enc l,yH.enc aj] (bn tb [138,36]) (λr=>Q r.1 r.2) h from bM (C:=⟨prog,tb,Sc⟩) (A:=Sf) an func97 rfl (Eq.mpr (by kernel_rfl) hv)
theorem T7 {w dg due Q h} (hv:M1 prog w dg due Q h):ae prog wx [(ah).enc w,yH.enc dg,yH.enc due] yH Q h:=
 bM (C:=⟨prog,tb,TA⟩) (A:=TD) an func98 rfl (Eq.mpr (by kernel_rfl) hv)
theorem zsv {x count Q h} (hv:Rf prog x count Q h):ae prog sK [(av).enc x,yH.enc count] (av) Q h:=
 bM (C:=⟨prog,tb,zxp⟩) (A:=zxq) an func99 rfl (Eq.mpr (by kernel_rfl) hv)
theorem zyn {b Q h} (hv:TZ prog b Q h):ae prog zqb [(av).enc b] (aM) Q h:=
 bM (C:=⟨prog,tb,PG⟩) (A:=PI) an func100 rfl (Eq.mpr (by kernel_rfl) hv)
theorem zku {x n ag Q h} (hv:Sa prog x n ag Q h):bh prog MH [(aM).enc x,yH.enc n,yH.enc ag] yH yH Q h:=
 show ae prog MH [(aM).enc x,yH.enc n,yH.enc ag] (bn tb [36,3]) (λr=>Q r.1 r.2) h from bM (C:=⟨prog,tb,zzr⟩) (A:=zzs) an func101 rfl (Eq.mpr (by kernel_rfl) hv)
theorem zju {m p Q h} (hv:Rh prog m p Q h):ae prog Q1 [(ah).enc m,yH.enc p] yH Q h:=
 bM (C:=⟨prog,tb,zxr⟩) (A:=zxs) an func102 rfl (Eq.mpr (by kernel_rfl) hv)
theorem VI {p lane v Q h} (hv:Na prog p lane v Q h):ae prog M5 [(ah).enc p,yH.enc lane,yH.enc v] yH Q h:=
 bM (C:=⟨prog,tb,WR⟩) (A:=WU) an func103 rfl (Eq.mpr (by kernel_rfl) hv)
theorem zsc {p lane Q h} (hv:M4 prog p lane Q h):aY prog I7 [(ah).enc p,yH.enc lane] (Q) h:=
 show ae prog I7 [(ah).enc p,yH.enc lane] (bn tb []) (λ_=>Q) h from bM (C:=⟨prog,tb,U8⟩) (A:=Va) an func104 rfl (Eq.mpr (by kernel_rfl) hv)
theorem Qs {m q Q h} (hv:Sd prog m q Q h):aY prog HF [(ah).enc m,(ah).enc q] (Q) h:=
 show ae prog HF [(ah).enc m,(ah).enc q] (bn tb []) (λ_=>Q) h from bM (C:=⟨prog,tb,zzt⟩) (A:=zzu) an func105 rfl (Eq.mpr (by kernel_rfl) hv)
theorem zkv {m p state Q h} (hv:Sg prog m p state Q h):aY prog MI [(ah).enc m,(ah).enc p,yH.enc state] (Q) h:=
 show ae prog MI [(ah).enc m,(ah).enc p,yH.enc state] (bn tb []) (λ_=>Q) h from bM (C:=⟨prog,tb,zzv⟩) (A:=zzw) an func106 rfl (Eq.mpr (by kernel_rfl) hv)
theorem MD {s Q h} (hv:Fu prog s Q h):ae prog MJ [(av).enc s] (av) Q h:=
 bM (C:=⟨prog,tb,zzx⟩) (A:=zzy) an func107 rfl (Eq.mpr (by kernel_rfl) hv)
theorem zhi {s Q h} (hv:Ql prog s Q h):ae prog Qj [(av).enc s] (av) Q h:=
 bM (C:=⟨prog,tb,zso⟩) (A:=zsp) an func110 rfl (Eq.mpr (by kernel_rfl) hv)
theorem zdp {s Q h} (hv:OY prog s Q h):ae prog OV [(av).enc s] (av) Q h:=
 bM (C:=⟨prog,tb,zks⟩) (A:=zkt) an func111 rfl (Eq.mpr (by kernel_rfl) hv)
theorem zqe {l Q h} (hv:Wb prog l Q h):ae prog VZ [(ah).enc l] (cL) Q h:=
 bM (C:=⟨prog,tb,TF⟩) (A:=TH) an func112 rfl (Eq.mpr (by kernel_rfl) hv)
theorem Oa {s t Q h} (hv:UG prog s t Q h):ae prog zrf [(ah).enc s,yH.enc t] yH Q h:=
 bM (C:=⟨prog,tb,Qy⟩) (A:=Qz) an func123 rfl (Eq.mpr (by kernel_rfl) hv)
theorem zvo {m x Q h} (hv:SQ prog m x Q h):aY prog SM [(ah).enc m,(ah).enc x] (Q) h:=
 show ae prog SM [(ah).enc m,(ah).enc x] (bn tb []) (λ_=>Q) h from bM (C:=⟨prog,tb,OD⟩) (A:=OF) an func124 rfl (Eq.mpr (by kernel_rfl) hv)
theorem zui {m p Q h} (hv:Sj prog m p Q h):aY prog RX [(ah).enc m,(ah).enc p] (Q) h:=
 show ae prog RX [(ah).enc m,(ah).enc p] (bn tb []) (λ_=>Q) h from bM (C:=⟨prog,tb,zzz⟩) (A:=NX) an func125 rfl (Eq.mpr (by kernel_rfl) hv)
theorem zyo {l Q h} (hv:zqc prog l Q h):bh prog Tz [(av).enc l] yH yH Q h:=
 show ae prog Tz [(av).enc l] (bn tb [36,3]) (λr=>Q r.1 r.2) h from bM (C:=⟨prog,tb,PL⟩) (A:=PN) an func127 rfl (Eq.mpr (by kernel_rfl) hv)
theorem zsw {l parts Q h} (hv:Ri prog l parts Q h):ae prog zml [(av).enc l,yH.enc parts] yH Q h:=
 bM (C:=⟨prog,tb,zxt⟩) (A:=zxu) an func128 rfl (Eq.mpr (by kernel_rfl) hv)
theorem Ft {n least dR Q h} (hv:Rj prog n least dR Q h):ae prog Co [yH.enc n,yH.enc least,yH.enc dR] (bB) Q h:=
 bM (C:=⟨prog,tb,zxv⟩) (A:=zxw) an func129 rfl (Eq.mpr (by kernel_rfl) hv)
theorem zyp {l ag Q h} (hv:T1 prog l ag Q h):bh prog TC [(av).enc l,yH.enc ag] yH yH Q h:=
 show ae prog TC [(av).enc l,yH.enc ag] (bn tb [36,3]) (λr=>Q r.1 r.2) h from bM (C:=⟨prog,tb,PQ⟩) (A:=PS) an func130 rfl (Eq.mpr (by kernel_rfl) hv)
theorem zqu {n a1 Q h} (hv:zkr prog n a1 Q h):ae prog Qo [yH.enc n,.pointer (some a1)] yH Q h:=
 bM (C:=⟨prog,tb,zts⟩) (A:=ztt) an func131 rfl (Eq.mpr (by kernel_rfl) hv)
theorem Oc {n a1 Q h} (hv:zro prog n a1 Q h):ae prog UA [(af .u64).enc n,.pointer (some a1)] yH Q h:=
 bM (C:=⟨prog,tb,QB⟩) (A:=QC) an func132 rfl (Eq.mpr (by kernel_rfl) hv)
theorem Oe {a0 Q h} (hv:zrp prog a0 Q h):ae prog MQ [(af .u64).enc a0] yH Q h:=
 bM (C:=⟨prog,tb,QE⟩) (A:=QG) an func133 rfl (Eq.mpr (by kernel_rfl) hv)
theorem Y5 {x n ag Q h} (hv:Cf prog x n ag Q h):ae prog Np [(aM).enc x,yH.enc n,yH.enc ag] yH Q h:=
 bM (C:=⟨prog,tb,ab9⟩) (A:=aca) an func134 rfl (Eq.mpr (by kernel_rfl) hv)
theorem VG {x e Q h} (hv:zwx prog x e Q h):ae prog I8 [(aM).enc x,yH.enc e] yH Q h:=
 bM (C:=⟨prog,tb,aaY⟩) (A:=aa0) an func135 rfl (Eq.mpr (by kernel_rfl) hv)
theorem zhj {s f Q h} (hv:Qm prog s f Q h):ae prog zjr [(av).enc s,(gv).enc f] yH Q h:=
 bM (C:=⟨prog,tb,zsq⟩) (A:=zsr) an func136 rfl (Eq.mpr (by kernel_rfl) hv)
theorem zzb {p a1 Q h} (hv:zwy prog p a1 Q h):ae prog JP [yH.enc p,.pointer (some a1)] (bB) Q h:=
 bM (C:=⟨prog,tb,aa2⟩) (A:=aa4) an func137 rfl (Eq.mpr (by kernel_rfl) hv)
theorem zfu {s Q h} (hv:Mz prog s Q h):ae prog Qb [(av).enc s] (av) Q h:=
 bM (C:=⟨prog,tb,zqs⟩) (A:=zqt) an func138 rfl (Eq.mpr (by kernel_rfl) hv)
theorem zlo {s Q h} (hv:zfj prog s Q h):ae prog zfh [(av).enc s] (av) Q h:=
 bM (C:=⟨prog,tb,znh⟩) (A:=zni) an func139 rfl (Eq.mpr (by kernel_rfl) hv)
theorem znc {s Q h} (hv:zfz prog s Q h):ae prog zfy [(av).enc s] (av) Q h:=
 bM (C:=⟨prog,tb,zpe⟩) (A:=zpf) an func140 rfl (Eq.mpr (by kernel_rfl) hv)
theorem znp {l p Q h} (hv:UH prog l p Q h):bh prog MR [(ah).enc l,yH.enc p] yH (bB) Q h:=
 show ae prog MR [(ah).enc l,yH.enc p] (bn tb [3,4]) (λr=>Q r.1 r.2) h from bM (C:=⟨prog,tb,QI⟩) (A:=QK) an func141 rfl (Eq.mpr (by kernel_rfl) hv)
theorem abz {room s Q h} (hv:Dk prog room s Q h):bh prog Dc [yH.enc room,(cL).enc s] (ah) yH Q h:=
 show ae prog Dc [yH.enc room,(cL).enc s] (bn tb [200,36]) (λr=>Q r.1 r.2) h from bM (C:=⟨prog,tb,Si⟩) (A:=Sm) an func142 rfl (Eq.mpr (by kernel_rfl) hv)
theorem HI {w dg Q h} (hv:MV prog w dg Q h):ae prog Cy [(ah).enc w,yH.enc dg] (bB) Q h:=
 bM (C:=⟨prog,tb,QL⟩) (A:=QM) an func143 rfl (Eq.mpr (by kernel_rfl) hv)
theorem zcn {x target cmp Q h} (hv:Om prog x target cmp Q h):bh prog Mw [(av).enc x,(aR).enc target,(gv).enc cmp] yH (bB) Q h:=
 show ae prog Mw [(av).enc x,(aR).enc target,(gv).enc cmp] (bn tb [3,4]) (λr=>Q r.1 r.2) h from bM (C:=⟨prog,tb,zcx⟩) (A:=zcy) an func144 rfl (Eq.mpr (by kernel_rfl) hv)
theorem zzc {a b Q h} (hv:zwz prog a b Q h):ae prog JQ [(aR).enc a,(aR).enc b] yH Q h:=
 bM (C:=⟨prog,tb,aa6⟩) (A:=aa9) an func145 rfl (Eq.mpr (by kernel_rfl) hv)
theorem zhk {s i v Q h} (hv:zdn prog s i v Q h):ae prog OM [(av).enc s,yH.enc i,(av).enc v] (av) Q h:=
 bM (C:=⟨prog,tb,zix⟩) (A:=ziy) an func146 rfl (Eq.mpr (by kernel_rfl) hv)
theorem R8 {x y Q h} (hv:HB prog x y Q h):bh prog Ym [(af .u64).enc x,(af .u64).enc y] (af .u64) (af .u64) Q h:=
 show ae prog Ym [(af .u64).enc x,(af .u64).enc y] (bn tb [239,239]) (λr=>Q r.1 r.2) h from bM (C:=⟨prog,tb,WW⟩) (A:=WY) an func147 rfl (Eq.mpr (by kernel_rfl) hv)
theorem zsx {op Q h} (hv:Rk prog op Q h):mH prog Q5 [yH.enc op] (bB) (bB) (bB) (bB) Q h:=
 show ae prog Q5 [yH.enc op] (bn tb [4,4,4,4]) (λr=>Q r.1 r.2.1 r.2.2.1 r.2.2.2) h from bM (C:=⟨prog,tb,zxx⟩) (A:=zxy) an func148 rfl (Eq.mpr (by kernel_rfl) hv)
theorem Qh {n has Q h} (hv:Qp prog n has Q h):ae prog MB [yH.enc n,(bB).enc has] yH Q h:=
 bM (C:=⟨prog,tb,ztu⟩) (A:=ztv) an func149 rfl (Eq.mpr (by kernel_rfl) hv)
theorem VN {state Q h} (hv:Yz prog state Q h):ae prog M6 [yH.enc state] (bB) Q h:=
 bM (C:=⟨prog,tb,W1⟩) (A:=W6) an func150 rfl (Eq.mpr (by kernel_rfl) hv)
theorem T9 {p n Q h} (hv:Wd prog p n Q h):ae prog MY [(ah).enc p,yH.enc n] (bB) Q h:=
 bM (C:=⟨prog,tb,TK⟩) (A:=TN) an func151 rfl (Eq.mpr (by kernel_rfl) hv)
theorem Sb {l v Q h} (hv:YB prog l v Q h):ae prog Ht [(ah).enc l,yH.enc v] yH Q h:=
 bM (C:=⟨prog,tb,W9⟩) (A:=Xc) an func152 rfl (Eq.mpr (by kernel_rfl) hv)
theorem Q4 {l Q h} (hv:Xn prog l Q h):aY prog W5 [(ah).enc l] (Q) h:=
 show ae prog W5 [(ah).enc l] (bn tb []) (λ_=>Q) h from bM (C:=⟨prog,tb,Vc⟩) (A:=Ve) an func153 rfl (Eq.mpr (by kernel_rfl) hv)
theorem PY {p proc Q h} (hv:Wf prog p proc Q h):ae prog V0 [(ah).enc p,yH.enc proc] (bB) Q h:=
 bM (C:=⟨prog,tb,TQ⟩) (A:=TT) an func154 rfl (Eq.mpr (by kernel_rfl) hv)
theorem P0 {l p Q h} (hv:Wi prog l p Q h):ae prog zvb [(ah).enc l,yH.enc p] (av) Q h:=
 bM (C:=⟨prog,tb,TX⟩) (A:=T0) an func155 rfl (Eq.mpr (by kernel_rfl) hv)
theorem Qn {m kf Q h} (hv:Rl prog m kf Q h):aY prog Cp [(ah).enc m,yH.enc kf] (Q) h:=
 show ae prog Cp [(ah).enc m,yH.enc kf] (bn tb []) (λ_=>Q) h from bM (C:=⟨prog,tb,zxz⟩) (A:=zya) an func156 rfl (Eq.mpr (by kernel_rfl) hv)
theorem Se {p Q h} (hv:YE prog p Q h):ae prog Hv [(ah).enc p] (av) Q h:=
 bM (C:=⟨prog,tb,Xf⟩) (A:=Xi) an func157 rfl (Eq.mpr (by kernel_rfl) hv)
theorem Cb {m p reply Q h} (hv:Qq prog m p reply Q h):aY prog wu [(ah).enc m,(ah).enc p,yH.enc reply] (Q) h:=
 show ae prog wu [(ah).enc m,(ah).enc p,yH.enc reply] (bn tb []) (λ_=>Q) h from bM (C:=⟨prog,tb,ztw⟩) (A:=ztx) an func158 rfl (Eq.mpr (by kernel_rfl) hv)
theorem P2 {w now Q h} (hv:M3 prog w now Q h):ae prog zvc [(ah).enc w,yH.enc now] (av) Q h:=
 bM (C:=⟨prog,tb,T2⟩) (A:=T3) an func167 rfl (Eq.mpr (by kernel_rfl) hv)
theorem Qt {m p c Q h} (hv:Sn prog m p c Q h):aY prog HH [(ah).enc m,(ah).enc p,(eJ).enc c] (Q) h:=
 show ae prog HH [(ah).enc m,(ah).enc p,(eJ).enc c] (bn tb []) (λ_=>Q) h from bM (C:=⟨prog,tb,NY⟩) (A:=NZ) an func168 rfl (Eq.mpr (by kernel_rfl) hv)
theorem C5 {c Q h} (hv:Dl prog c Q h):ae prog wB [(eJ).enc c] (eJ) Q h:=
 bM (C:=⟨prog,tb,Sq⟩) (A:=Ss) an func169 rfl (Eq.mpr (by kernel_rfl) hv)
theorem abB {c l tick self Q h} (hv:Dm prog c l tick self Q h):bh prog Dd [(eJ).enc c,(av).enc l,yH.enc tick,yH.enc self] (eJ) (Dz) Q h:=
 show ae prog Dd [(eJ).enc c,(av).enc l,yH.enc tick,yH.enc self] (bn tb [137,262]) (λr=>Q r.1 r.2) h from bM (C:=⟨prog,tb,Sv⟩) (A:=Sw) an func170 rfl (Eq.mpr (by kernel_rfl) hv)
theorem zsy {m p to v Q h} (hv:Rm prog m p to v Q h):aY prog Q6 [(ah).enc m,(ah).enc p,yH.enc to,yH.enc v] (Q) h:=
 show ae prog Q6 [(ah).enc m,(ah).enc p,yH.enc to,yH.enc v] (bn tb []) (λ_=>Q) h from bM (C:=⟨prog,tb,zyb⟩) (A:=zyc) an func171 rfl (Eq.mpr (by kernel_rfl) hv)
theorem zjv {m p try_ Q h} (hv:Rn prog m p try_ Q h):aY prog Q8 [(ah).enc m,(ah).enc p,(bB).enc try_] (Q) h:=
 show ae prog Q8 [(ah).enc m,(ah).enc p,(bB).enc try_] (bn tb []) (λ_=>Q) h from bM (C:=⟨prog,tb,zyd⟩) (A:=zye) an func172 rfl (Eq.mpr (by kernel_rfl) hv)
theorem OI {l n p Q h} (hv:Vz prog l n p Q h):bh prog MW [(ah).enc l,yH.enc n,yH.enc p] (bB) yH Q h:=
 show ae prog MW [(ah).enc l,yH.enc n,yH.enc p] (bn tb [4,36]) (λr=>Q r.1 r.2) h from bM (C:=⟨prog,tb,RJ⟩) (A:=RN) an func173 rfl (Eq.mpr (by kernel_rfl) hv)
theorem zih {s v Q h} (hv:Qr prog s v Q h):ae prog MC [(av).enc s,yH.enc v] (bB) Q h:=
 bM (C:=⟨prog,tb,zty⟩) (A:=ztz) an func174 rfl (Eq.mpr (by kernel_rfl) hv)
theorem znq {l p Q h} (hv:UJ prog l p Q h):ae prog MT [(ah).enc l,yH.enc p] (av) Q h:=
 bM (C:=⟨prog,tb,QN⟩) (A:=QO) an func175 rfl (Eq.mpr (by kernel_rfl) hv)
theorem zpg {l n p Q h} (hv:VB prog l n p Q h):bh prog H8 [(ah).enc l,yH.enc n,yH.enc p] yH yH Q h:=
 show ae prog H8 [(ah).enc l,yH.enc n,yH.enc p] (bn tb [3,36]) (λr=>Q r.1 r.2) h from bM (C:=⟨prog,tb,RQ⟩) (A:=RV) an func176 rfl (Eq.mpr (by kernel_rfl) hv)
theorem zvp {n Q h} (hv:ZL prog n Q h):ae prog Nd [yH.enc n] yH Q h:=
 bM (C:=⟨prog,tb,Za⟩) (A:=Zc) an func177 rfl (Eq.mpr (by kernel_rfl) hv)
theorem zuj {x n ag Q h} (hv:Sr prog x n ag Q h):ae prog znn [(aM).enc x,yH.enc n,yH.enc ag] yH Q h:=
 bM (C:=⟨prog,tb,N0⟩) (A:=N2) an func179 rfl (Eq.mpr (by kernel_rfl) hv)
theorem XM {x n ag Q h} (hv:Ci prog x n ag Q h):bh prog Cc [(aM).enc x,yH.enc n,yH.enc ag] yH yH Q h:=
 show ae prog Cc [(aM).enc x,yH.enc n,yH.enc ag] (bn tb [36,3]) (λr=>Q r.1 r.2) h from bM (C:=⟨prog,tb,acb⟩) (A:=acd) an func180 rfl (Eq.mpr (by kernel_rfl) hv)
theorem zzd {op Q h} (hv:zxa prog op Q h):mH prog Nf [yH.enc op] (bB) (bB) (bB) (bB) Q h:=
 show ae prog Nf [yH.enc op] (bn tb [4,4,4,4]) (λr=>Q r.1 r.2.1 r.2.2.1 r.2.2.2) h from bM (C:=⟨prog,tb,abb⟩) (A:=abd) an func181 rfl (Eq.mpr (by kernel_rfl) hv)
theorem abE {room Q h} (hv:Dn prog room Q h):bh prog De [yH.enc room] (ah) yH Q h:=
 show ae prog De [yH.enc room] (bn tb [200,36]) (λr=>Q r.1 r.2) h from bM (C:=⟨prog,tb,Sx⟩) (A:=Sy) an func182 rfl (Eq.mpr (by kernel_rfl) hv)
theorem XF {n from_ to Q h} (hv:Nh prog n from_ to Q h):ae prog Ng [yH.enc n,yH.enc from_,yH.enc to] (bB) Q h:=
 bM (C:=⟨prog,tb,abf⟩) (A:=abh) an func183 rfl (Eq.mpr (by kernel_rfl) hv)
theorem XO {l Q h} (hv:Ck prog l Q h):ae prog JC [(av).enc l] (bB) Q h:=
 bM (C:=⟨prog,tb,ace⟩) (A:=acf) an func184 rfl (Eq.mpr (by kernel_rfl) hv)
theorem zhl {s i j Q h} (hv:zdo prog s i j Q h):ae prog zdk [(av).enc s,yH.enc i,yH.enc j] (av) Q h:=
 bM (C:=⟨prog,tb,ziz⟩) (A:=zja) an func185 rfl (Eq.mpr (by kernel_rfl) hv)
theorem XQ {dN Q h} (hv:Cl prog dN Q h):ae prog JD [(av).enc dN] yH Q h:=
 bM (C:=⟨prog,tb,acg⟩) (A:=ach) an func186 rfl (Eq.mpr (by kernel_rfl) hv)
theorem Og {x y Q h} (hv:UK prog x y Q h):ae prog zrh [yH.enc x,yH.enc y] yH Q h:=
 bM (C:=⟨prog,tb,QP⟩) (A:=QQ) an func187 rfl (Eq.mpr (by kernel_rfl) hv)
theorem P3 {x y Q h} (hv:Wk prog x y Q h):ae prog zvd [yH.enc x,yH.enc y] yH Q h:=
 bM (C:=⟨prog,tb,T5⟩) (A:=T8) an func188 rfl (Eq.mpr (by kernel_rfl) hv)
theorem P5 {x y Q h} (hv:Wm prog x y Q h):bh prog V2 [(af .u64).enc x,(af .u64).enc y] (af .u64) (af .u64) Q h:=
 show ae prog V2 [(af .u64).enc x,(af .u64).enc y] (bn tb [28,28]) (λr=>Q r.1 r.2) h from bM (C:=⟨prog,tb,Ua⟩) (A:=Uc) an func192 rfl (Eq.mpr (by kernel_rfl) hv)
theorem zse {l Q h} (hv:Xq prog l Q h):ae prog W8 [(ah).enc l] (bB) Q h:=
 bM (C:=⟨prog,tb,Vg⟩) (A:=Vi) an func193 rfl (Eq.mpr (by kernel_rfl) hv)
theorem HS {n Q h} (hv:CY prog n Q h):ae prog CT [yH.enc n] yH Q h:=
 bM (C:=⟨prog,tb,O5⟩) (A:=O6) an func194 rfl (Eq.mpr (by kernel_rfl) hv)
theorem P7 {l p Q h} (hv:Wn prog l p Q h):ae prog zve [(ah).enc l,yH.enc p] (bB) Q h:=
 bM (C:=⟨prog,tb,Ue⟩) (A:=Ug) an func195 rfl (Eq.mpr (by kernel_rfl) hv)
theorem zkw {s v Q h} (hv:Su prog s v Q h):ae prog RZ [(av).enc s,yH.enc v] yH Q h:=
 bM (C:=⟨prog,tb,N3⟩) (A:=N5) an func196 rfl (Eq.mpr (by kernel_rfl) hv)
theorem zsz {s i j Q h} (hv:Rp prog s i j Q h):ae prog zmp [(av).enc s,yH.enc i,yH.enc j] (av) Q h:=
 bM (C:=⟨prog,tb,zyf⟩) (A:=zyg) an func197 rfl (Eq.mpr (by kernel_rfl) hv)
theorem Sh {l Q h} (hv:YH prog l Q h):ae prog Hw [(ah).enc l] (av) Q h:=
 bM (C:=⟨prog,tb,Xl⟩) (A:=Xo) an func198 rfl (Eq.mpr (by kernel_rfl) hv)
theorem abG {c code reply Q h} (hv:Dp prog c code reply Q h):ae prog Lb [(eJ).enc c,(av).enc code,yH.enc reply] (eJ) Q h:=
 bM (C:=⟨prog,tb,Sz⟩) (A:=SA) an func199 rfl (Eq.mpr (by kernel_rfl) hv)
theorem C2 {c l Q h} (hv:EN prog c l Q h):bh prog vD [(eJ).enc c,(av).enc l] (aM) (bB) Q h:=
 show ae prog vD [(eJ).enc c,(av).enc l] (bn tb [47,4]) (λr=>Q r.1 r.2) h from bM (C:=⟨prog,tb,Xv⟩) (A:=Xy) an func202 rfl (Eq.mpr (by kernel_rfl) hv)
theorem Zo {x r Q h} (hv:CZ prog x r Q h):fW prog CU [(aM).enc x,(wA).enc r] (Dz) (bB) (bB) Q h:=
 show ae prog CU [(aM).enc x,(wA).enc r] (bn tb [262,4,4]) (λr=>Q r.1 r.2.1 r.2.2) h from bM (C:=⟨prog,tb,O7⟩) (A:=O9) an func203 rfl (Eq.mpr (by kernel_rfl) hv)
theorem A7 {c reg v Q h} (hv:ZN prog c reg v Q h):aY prog vx [(ah).enc c,yH.enc reg,yH.enc v] (Q) h:=
 show ae prog vx [(ah).enc c,yH.enc reg,yH.enc v] (bn tb []) (λ_=>Q) h from bM (C:=⟨prog,tb,Ze⟩) (A:=Zg) an func204 rfl (Eq.mpr (by kernel_rfl) hv)
theorem Pg {op b c Q h} (hv:EO prog op b c Q h):bh prog EL [yH.enc op,yH.enc b,yH.enc c] yH yH Q h:=
 show ae prog EL [yH.enc op,yH.enc b,yH.enc c] (bn tb [2,36]) (λr=>Q r.1 r.2) h from bM (C:=⟨prog,tb,XB⟩) (A:=XE) an func205 rfl (Eq.mpr (by kernel_rfl) hv)
theorem Pj {op b c Q h} (hv:EP prog op b c Q h):bh prog EM [yH.enc op,yH.enc b,yH.enc c] yH yH Q h:=
 show ae prog EM [yH.enc op,yH.enc b,yH.enc c] (bn tb [2,36]) (λr=>Q r.1 r.2) h from bM (C:=⟨prog,tb,XH⟩) (A:=XJ) an func206 rfl (Eq.mpr (by kernel_rfl) hv)
theorem Oh {t i j Q h} (hv:UL prog t i j Q h):ae prog zri [(ah).enc t,yH.enc i,yH.enc j] (bB) Q h:=
 bM (C:=⟨prog,tb,QR⟩) (A:=QT) an func207 rfl (Eq.mpr (by kernel_rfl) hv)
theorem zsf {m p q v Q h} (hv:QH prog m p q v Q h):aY prog QD [(ah).enc m,(ah).enc p,(ah).enc q,yH.enc v] (Q) h:=
 show ae prog QD [(ah).enc m,(ah).enc p,(ah).enc q,yH.enc v] (bn tb []) (λ_=>Q) h from bM (C:=⟨prog,tb,zvm⟩) (A:=zvn) an func208 rfl (Eq.mpr (by kernel_rfl) hv)
theorem zyq {c code v from_ Q h} (hv:Dq prog c code v from_ Q h):ae prog xw [(eJ).enc c,(av).enc code,yH.enc v,yH.enc from_] (eJ) Q h:=
 bM (C:=⟨prog,tb,SB⟩) (A:=SC) an func210 rfl (Eq.mpr (by kernel_rfl) hv)
theorem znr {l n p Q h} (hv:UM prog l n p Q h):ae prog UB [(ah).enc l,yH.enc n,yH.enc p] yH Q h:=
 bM (C:=⟨prog,tb,QV⟩) (A:=QW) an func211 rfl (Eq.mpr (by kernel_rfl) hv)
theorem VO {has n Q h} (hv:YK prog has n Q h):ae prog M7 [(bB).enc has,yH.enc n] yH Q h:=
 bM (C:=⟨prog,tb,Xr⟩) (A:=Xu) an func212 rfl (Eq.mpr (by kernel_rfl) hv)
theorem VJ {x has n ag Q h} (hv:zxb prog x has n ag Q h):ae prog Ja [(aM).enc x,(bB).enc has,yH.enc n,yH.enc ag] yH Q h:=
 bM (C:=⟨prog,tb,abj⟩) (A:=abm) an func213 rfl (Eq.mpr (by kernel_rfl) hv)
theorem VL {op Q h} (hv:zxc prog op Q h):ae prog Jb [yH.enc op] (lY) Q h:=
 bM (C:=⟨prog,tb,abo⟩) (A:=abq) an func214 rfl (Eq.mpr (by kernel_rfl) hv)
theorem Sk {field a1 Q h} (hv:HC prog field a1 Q h):ae prog Hz [(lY).enc field,.pointer (some a1)] (bB) Q h:=
 bM (C:=⟨prog,tb,Xx⟩) (A:=XA) an func215 rfl (Eq.mpr (by kernel_rfl) hv)
theorem zqf {x Q h} (hv:Wo prog x Q h):ae prog V4 [yH.enc x] (bB) Q h:=
 bM (C:=⟨prog,tb,Uh⟩) (A:=Ui) an func217 rfl (Eq.mpr (by kernel_rfl) hv)
theorem ztk {x Q h} (hv:YN prog x Q h):ae prog Yq [yH.enc x] (bB) Q h:=
 bM (C:=⟨prog,tb,XD⟩) (A:=XG) an func218 rfl (Eq.mpr (by kernel_rfl) hv)
theorem zqg {l p Q h} (hv:Wq prog l p Q h):ae prog V5 [(ah).enc l,yH.enc p] yH Q h:=
 bM (C:=⟨prog,tb,Uj⟩) (A:=Uk) an func220 rfl (Eq.mpr (by kernel_rfl) hv)
theorem zim {s i j Q h} (hv:OO prog s i j Q h):ae prog zdu [(av).enc s,yH.enc i,yH.enc j] (av) Q h:=
 bM (C:=⟨prog,tb,zkm⟩) (A:=zkn) an func221 rfl (Eq.mpr (by kernel_rfl) hv)
theorem zvq {b c Q h} (hv:ZP prog b c Q h):ae prog ZF [yH.enc b,yH.enc c] yH Q h:=
 bM (C:=⟨prog,tb,Zi⟩) (A:=Zk) an func222 rfl (Eq.mpr (by kernel_rfl) hv)
theorem abI {b c Q h} (hv:Ld prog b c Q h):ae prog Lc [yH.enc b,yH.enc c] yH Q h:=
 bM (C:=⟨prog,tb,SD⟩) (A:=SE) an func223 rfl (Eq.mpr (by kernel_rfl) hv)
theorem Zp {b c Q h} (hv:Kb prog b c Q h):ae prog J9 [yH.enc b,yH.enc c] yH Q h:=
 bM (C:=⟨prog,tb,Pa⟩) (A:=Pb) an func224 rfl (Eq.mpr (by kernel_rfl) hv)
theorem JE {is Q h} (hv:Ee prog is Q h):ae prog Eb [(bB).enc is] yH Q h:=
 bM (C:=⟨prog,tb,UQ⟩) (A:=UR) an func225 rfl (Eq.mpr (by kernel_rfl) hv)
theorem HT {bits Q h} (hv:C0 prog bits Q h):ae prog CV [yH.enc bits] (iO .f64) Q h:=
 bM (C:=⟨prog,tb,Pc⟩) (A:=Pd) an func226 rfl (Eq.mpr (by kernel_rfl) hv)
theorem JT {f Q h} (hv:Dr prog f Q h):ae prog FJ [(iO .f64).enc f] yH Q h:=
 bM (C:=⟨prog,tb,SF⟩) (A:=SG) an func227 rfl (Eq.mpr (by kernel_rfl) hv)
theorem Zq {f Q h} (hv:C1 prog f Q h):ae prog Ka [(iO .f64).enc f] yH Q h:=
 bM (C:=⟨prog,tb,Pe⟩) (A:=Pf) an func228 rfl (Eq.mpr (by kernel_rfl) hv)
theorem zsg {t i Q h} (hv:Xt prog t i Q h):ae prog Xe [(ah).enc t,yH.enc i] (bB) Q h:=
 bM (C:=⟨prog,tb,Vk⟩) (A:=Vm) an func229 rfl (Eq.mpr (by kernel_rfl) hv)
theorem Q7 {p lane proc v Q h} (hv:Xw prog p lane proc v Q h):ae prog zyx [(ah).enc p,yH.enc lane,yH.enc proc,yH.enc v] yH Q h:=
 bM (C:=⟨prog,tb,Vo⟩) (A:=Vr) an func230 rfl (Eq.mpr (by kernel_rfl) hv)
theorem P9 {p Q h} (hv:zvh prog p Q h):ae prog zvf [(ah).enc p] (gv) Q h:=
 bM (C:=⟨prog,tb,Ul⟩) (A:=Un) an func231 rfl (Eq.mpr (by kernel_rfl) hv)
theorem So {l Q h} (hv:YQ prog l Q h):ae prog Wy [(ah).enc l] yH Q h:=
 bM (C:=⟨prog,tb,XI⟩) (A:=XK) an func232 rfl (Eq.mpr (by kernel_rfl) hv)
theorem Q9 {l Q h} (hv:Xz prog l Q h):mH prog Xh [(ah).enc l] yH (aF) (bB) yH Q h:=
 show ae prog Xh [(ah).enc l] (bn tb [2,191,4,36]) (λr=>Q r.1 r.2.1 r.2.2.1 r.2.2.2) h from bM (C:=⟨prog,tb,Vt⟩) (A:=Vu) an func233 rfl (Eq.mpr (by kernel_rfl) hv)
theorem zhd {s f Q h} (hv:OK prog s f Q h):ae prog zdf [(av).enc s,(gv).enc f] yH Q h:=
 bM (C:=⟨prog,tb,zik⟩) (A:=zil) an func236 rfl (Eq.mpr (by kernel_rfl) hv)
theorem Oi {w a1 Q h} (hv:zrx prog w a1 Q h):ae prog MU [(aF).enc w,.pointer (some a1)] (bB) Q h:=
 bM (C:=⟨prog,tb,QY⟩) (A:=Q0) an func237 rfl (Eq.mpr (by kernel_rfl) hv)
theorem Qc {p proc Q h} (hv:Wr prog p proc Q h):ae prog zvg [(ah).enc p,yH.enc proc] yH Q h:=
 bM (C:=⟨prog,tb,Uo⟩) (A:=Uq) an func240 rfl (Eq.mpr (by kernel_rfl) hv)
theorem Ra {l p v Q h} (hv:XC prog l p v Q h):ae prog zyy [(ah).enc l,yH.enc p,yH.enc v] yH Q h:=
 bM (C:=⟨prog,tb,Vv⟩) (A:=Vx) an func241 rfl (Eq.mpr (by kernel_rfl) hv)
section
variable {V:Type}
def ja (a:Int):List (Int×V)->Option (Nat×V)
 | []=>none
 | (k,v)::r=>if a=k then some (0,v) else (ja a r).map λp=>(p.1+1,p.2)
def fU (a:Int):List (Int×V)->Option V
 | []=>none
 | (k,v)::r=>if a=k then some v else fU a r
def jb (a:Int) (v:V):List (Int×V)->List (Int×V)
 | []=> [(a,v)]
 | (k,u)::r=>if a=k then (a,v)::r else (k,u)::jb a v r
def lM (a:Int):List (Int×V)->List (Int×V)
 | []=> []
 | (k,u)::r=>if a=k then r else (k,u)::lM a r
theorem vE (a b:Int) (v:V):∀l:List (Int×V),fU a (jb b v l)=if a=b then some v else fU a l
 | []=>by simp [jb,fU]
 | (k,u)::r=>by
  simp only [jb];by_cases h:b=k
  ·rw [if_pos h];subst h;simp only [fU];split<;>rfl
  ·rw [if_neg h];simp only [fU,vE a b v r];grind
theorem LW {a:Int}:∀ {l:List (Int×V)},a∉l.map (·.1)->fU a l=none
 | [],_=>rfl
 | (k,u)::r,h=>by simp only [List.map_cons,List.mem_cons,not_or] at h;simp only [fU];rw [if_neg h.1];exact LW h.2
theorem Iu (a b:Int):∀l:List (Int×V),(l.map (·.1)).Nodup->fU a (lM b l)=if a=b then none else fU a l
 | [],_=>by simp [lM,fU]
 | (k,u)::r,c=>by
  simp only [List.map_cons,List.nodup_cons] at c;simp only [lM];by_cases h:b=k
  ·rw [if_pos h];subst h;simp only [fU];by_cases d:a=b
   ·subst d;rw [if_pos rfl];exact LW c.1
   grind
  ·rw [if_neg h];simp only [fU,Iu a b r c.2];grind
theorem LX (b:Int) (v:V):∀(l:List (Int×V)) (a:Int),a∈(jb b v l).map (·.1)↔a=b\/a∈l.map (·.1)
 | [],a=>by simp [jb]
 | (k,u)::r,a=>by
  simp only [jb];by_cases h:b=k
  ·subst h;simp
  ·rw [if_neg h];simp only [List.map_cons,List.mem_cons,LX b v r a];grind
theorem Le (b:Int) (v:V):∀ {l:List (Int×V)},(l.map (·.1)).Nodup->((jb b v l).map (·.1)).Nodup
 | [],_=>by simp [jb]
 | (k,u)::r,a=>by
  simp only [List.map_cons,List.nodup_cons] at a;simp only [jb];by_cases h:b=k
  ·grind
  ·rw [if_neg h];simp only [List.map_cons,List.nodup_cons];refine ⟨λe=> ?_,Le b v a.2⟩;rcases (LX b v r k).1 e with e | e
   ·exact h e.symm
   ·exact a.1 e
theorem Iv (b:Int):∀(l:List (Int×V)),(lM b l).Sublist l
 | []=>.slnil
 | (k,u)::r=>by
  simp only [lM];split
  ·simp
  ·exact .cons_cons _ (Iv b r)
theorem SH (b:Int) {l:List (Int×V)} (h:(l.map (·.1)).Nodup):((lM b l).map (·.1)).Nodup:=h.sublist ((Iv b l).map _)
theorem LY {b:Int}:∀ {l:List (Int×V)},fU b l=none->lM b l=l
 | [],_=>rfl
 | (k,u)::r,h=>by
  simp only [fU] at h;simp only [lM];split at h
  ·cases h
  ·rename_i e;rw [if_neg e,LY h]
theorem EX (a:Int):∀l:List (Int×V),fU a l=(ja a l).map (·.2)
 | []=>rfl
 | (k,v)::r=>by
  simp only [fU,ja];split
  ·rfl
  ·rw [EX a r];simp [Function.comp_def]
def eT (h:Hp) (m:Nat) (k:IntKind) (ev:V->Value) (c:List (Int×V)):Prop:=
 ∃(a:List MapEntry) (ck:Nat),h m=some (.map a.toArray ck)/\a.map (λe=>(e.key,e.val))=c.map λp=>(Value.int k p.1,ev p.2)
variable {h:Hp} {m:Nat} {k:IntKind} {ev:V->Value} {c:List (Int×V)}
theorem yS (a:Int):∀(d:List MapEntry) (c:List (Int×V)) (j:Nat),d.map (λe=>(e.key,e.val))=c.map (λp=>(Value.int k p.1,ev p.2))->
  Instr.findNow (.int k) (.int k a) d j=some ((ja a c).map λp=>(p.1+j,ev p.2))
 | [],[],j,_=>rfl
 | [],_::_,j,h=>by simp at h
 | _::_,[],j,h=>by simp at h
 | e::d,(b,v)::r,j,h=>by
  simp only [List.map_cons,List.cons.injEq,Prod.mk.injEq] at h;obtain ⟨⟨g,i⟩,l⟩:=h;simp only [Instr.findNow,g,Instr.sameNow,if_true,ja];by_cases f:a=b
  ·simp [f,i]
  ·have n:(a==b)=false:=by simpa using f
   rw [n,if_neg f];simp only;rw [yS a d r (j+1) l];cases ja a r with
   | none=>rfl
   | some p=>simp;omega
theorem Fh {e:IntKind} {sh:Shape} {c:List (Int×sh.T)} {a:Int} {z:sh.T} {zero:Value} {K:sh.T->Bool->Prop} (o:eT h m e sh.enc c) (q:sh.enc z=zero) (l:fU a c=none->K z false)
  (n:∀v,fU a c=some v->K v true):kR none (.int e) sh zero (some m) (.int e a) h K:=by
 obtain ⟨f,ck,g,j⟩:=o;have b:=yS (ev:=sh.enc) a f c 0 j;have d:=EX a c;cases i:ja a c with
 | none=>rw [i] at b d;exact ⟨z,false,⟨f,.inr ⟨m,ck,rfl,g⟩,.inl ⟨b,q,rfl⟩⟩,l d⟩
 | some p=>rw [i] at b d;exact ⟨p.2,true,⟨f,.inr ⟨m,ck,rfl,g⟩,.inr ⟨_,b,rfl⟩⟩,n p.2 d⟩
theorem LZ {a:Int} {v:V}:∀ {l:List (Int×V)},ja a l=none->jb a v l=l++ [(a,v)]
 | [],_=>rfl
 | (k,u)::r,h=>by
  simp only [ja] at h;split at h
  ·cases h
  ·rename_i e;simp only [jb];rw [if_neg e,LZ (by simpa using h)];rfl
theorem Ix {a:Int} {v u:V} {ev:V->Value}:∀ {g:List MapEntry} {l:List (Int×V)} {i:Nat},g.map (λe=>(e.key,e.val))=l.map (λp=>(Value.int k p.1,ev p.2))->ja a l=some (i,u)->
  (g.modify i λe=>{e with key:=.int k a,val:=ev v}).map (λe=>(e.key,e.val))=(jb a v l).map λp=>(Value.int k p.1,ev p.2)
 | _,[],_,_,h=>by simp [ja] at h
 | [],_::_,_,h,_=>by simp at h
 | e::g,(b,w)::r,i,h,d=>by
  simp only [List.map_cons,List.cons.injEq] at h;simp only [ja] at d;simp only [jb];split at d
  ·grind
  ·rename_i j;rw [if_neg j];cases f:ja a r with
   | none=>rw [f] at d;simp at d
   | some p=>rw [f] at d;simp at d;obtain ⟨rfl,rfl⟩:=d;simp only [List.modify_succ_cons,List.map_cons,h.1];rw [Ix h.2 f]
theorem Lg {a:Int} {u:V} {ev:V->Value}:∀ {g:List MapEntry} {l:List (Int×V)} {i:Nat},g.map (λe=>(e.key,e.val))=l.map (λp=>(Value.int k p.1,ev p.2))->ja a l=some (i,u)->
  (g.eraseIdx i).map (λe=>(e.key,e.val))=(lM a l).map λp=>(Value.int k p.1,ev p.2)
 | _,[],_,_,h=>by simp [ja] at h
 | [],_::_,_,h,_=>by simp at h
 | e::g,(b,w)::r,i,h,d=>by
  simp only [List.map_cons,List.cons.injEq] at h;simp only [ja] at d;simp only [lM];split at d
  ·grind
  ·rename_i j;rw [if_neg j];cases f:ja a r with
   | none=>rw [f] at d;simp at d
   | some p=>rw [f] at d;simp at d;obtain ⟨rfl,rfl⟩:=d;simp only [List.eraseIdx_cons_succ,List.map_cons,h.1];rw [Lg h.2 f]
theorem FO {a:Int} {v:V} {K:Hp->Prop} (l:eT h m k ev c) (i:∀o,isCells o=false->eT (h.set m o) m k ev (jb a v c)->K (h.set m o)):uh (.int k) (some m) (.int k a) (ev v) K h:=by
 obtain ⟨f,ck,j,g⟩:=l;have b:=yS (ev:=ev) a f c 0 g;refine ⟨m,f.toArray,ck,rfl,j,?_⟩;cases d:ja a c with
 | none=>
  rw [d] at b;refine .inl ⟨b,i _ rfl ⟨f++ [{key:=.int k a,val:=ev v,born:=ck}],ck+1,?_,?_⟩⟩
  ·rw [lZ];simp
  ·rw [LZ d];simp [g]
 | some p=>rw [d] at b;refine .inr ⟨p.1,ev p.2,b,i _ rfl ⟨f.modify p.1 λe=>{e with key:=.int k a,val:=ev v},ck,?_,Ix (u:=p.2) g d⟩⟩;rw [lZ];simp
theorem US {a:Int} {K:Hp->Prop} (j:eT h m k ev c) (g:∀o,isCells o=false->eT (h.set m o) m k ev (lM a c)->K (h.set m o)):vO (.int k) (some m) (.int k a) K h:=by
 obtain ⟨e,ck,i,f⟩:=j;have b:=yS (ev:=ev) a e c 0 f;refine .inr ⟨m,e.toArray,ck,rfl,i,?_⟩;cases d:ja a c with
 | none=>rw [d] at b;refine .inl ⟨b,g _ rfl ⟨e,ck,lZ,?_⟩⟩;rw [LY (by rw [EX,d];rfl)];exact f
 | some p=>rw [d] at b;refine .inr ⟨p.1,ev p.2,b,g _ rfl ⟨e.eraseIdx p.1,ck,?_,Lg (u:=p.2) f d⟩⟩;rw [lZ];simp
end
abbrev fo :Int->List Value:=λx=> [.int .i64 x]
abbrev eW :mr->List Value:=λw=> [.int .i64 w.proc,.int .i64 w.value]
def nk (w:mr):bH:=⟨w.proc,w.value⟩
section
variable {h0 k:Hp} {A B C:dh}
theorem Has.f1 (o:Has h0 (A.star (B.star C)) k):∃c,h0<=c/\Has c A k/\∀e f,Has c e f->Has h0 (e.star (B.star C)) f:=by obtain ⟨c,a,b,_,d⟩:=o.fst;grind
theorem Has.f2 (o:Has h0 (A.star (B.star C)) k):∃c,h0<=c/\Has c B k/\∀B' e,Has c B' e->Has h0 (A.star (B'.star C)) e:=by obtain ⟨c,a,b,_,d⟩:=o.snd;obtain ⟨h,a2,f,_,g⟩:=b.fst;exact ⟨h,Hp.le_trans a a2,f,λB' e i=>d _ _ (g _ _ i)⟩
theorem Has.f3 (o:Has h0 (A.star (B.star C)) k):∃h1,h0<=h1/\Has h1 C k/\∀e c,Has h1 e c->Has h0 (A.star (B.star e)) c:=by obtain ⟨h1,a,b,_,d⟩:=o.snd;obtain ⟨h,a2,f,_,g⟩:=b.snd;exact ⟨h,Hp.le_trans a a2,f,λj c i=>d _ _ (g _ _ i)⟩
theorem KH {l:Option Addr} {sz c:Nat}:aW l sz 0 c=l:=by
 unfold aW;split
 ·rfl
 ·cases l with
  | none=>rfl
  | some a=>obtain ⟨b,off,sp⟩:=a;simp [Addr.add]
theorem Has.shift {i:Type} {sz:Nat} {enc:i->List Value} {l:Sl} {a:i} {r:List i} {K:Int->Hp->Prop} (o:Has h0 (dK sz enc l (a::r)) k) (h:∀x,(enc x).length=sz) (D:∀x,hH (enc x)=true)
  (w:∀f,Has h0 (dK sz enc ⟨l.base,r.length,l.cap⟩ r) f->K (r.length:Nat) f):fD sz l ⟨aW l.base sz 1 l.cap,l.len-1,l.cap-1⟩ K k:=by
 have H:=o.ic;have g:=o.vc;have G:=(o.pn h (c:=l.cap) g (Nat.le_refl _)).jE h;obtain ⟨y,F,⟨J,L,t⟩,p⟩:=o;have N:l.len=r.length+1:=by simpa using H
 rcases t with ⟨e,d,_⟩ | ⟨b,off,I,e,j,v,M,P⟩
 ·omega
 ·have z:h0 b=none:=p b ((j b).2 rfl);have O:r.length*sz<=l.cap*sz:=Nat.mul_le_mul_right sz (by omega);have s:l=⟨some ⟨b,off,none⟩,l.len,l.cap⟩:=by cases l;simp at e;subst e;rfl
  have E:(r.flatMap enc).length=r.length*sz:=iH h r;rw [show (fD sz l:Sl->_)=fD sz ⟨some ⟨b,off,none⟩,l.len,l.cap⟩ by rw [<-s]];refine Er (n:=r.length) (new:=r.flatMap enc) v (by show min (l.len-1) l.len=_;omega) G.2 (rE D r) (by omega) λf m u=>w f ⟨λc q d=>m.bq c q (y c q d) (λg=>(by rw [List.mem_singleton.1 g,z] at d;cases d)),F,⟨rfl,by show r.length<=l.cap;omega,.inr ⟨b,off,_,e,j,u,?_,?_⟩⟩,p⟩
  ·simp only [List.length_append,List.length_take,List.length_drop,E];show off+l.cap*sz<=_;omega
  grind
theorem Rw.map {a β:Type} {sz:Nat} {enc:β->List Value} {f:a->β} {l:Sl} {xs:List a} (r:Rw k sz (λx=>enc (f x)) l xs):Rw k sz enc l (xs.map f):=by obtain ⟨c,b⟩:=r;refine ⟨by grind,?_⟩;rw [List.length_map,List.flatMap_map];exact b
theorem Iy {n:Int} (h:jl n):im (yw (n+(1:Int))) (65535:Int)=more n:=by rw [wrap64 (by have:=h.1;omega) (by have:=h.2;omega)];unfold im more;omega
end
def dm (q:Addr) (room:Int) (l:bm):dh:=
 .some_ λx:dp=>((da C7 q x).star ((dK 1 fo x.values l.values).star (dK 2 eW x.waiters l.waiters))).star (.fact (x.room=room/\x.taken=l.taken/\x.dropped=l.dropped))
section
variable {h0 k:Hp} {q:Addr} {room:Int} {l:bm}
theorem Has.bE (o:Has h0 (dm q room l) k):∃x:dp,x.room=room/\x.taken=l.taken/\x.dropped=l.dropped/\Has h0 ((da C7 q x).star ((dK 1 fo x.values l.values).star (dK 2 eW x.waiters l.waiters))) k:=by obtain ⟨x,o⟩:=Has.ex.1 o;obtain ⟨o,a,b,c⟩:=o.jc;grind
theorem Has.je {x:dp} (o:Has h0 ((da C7 q x).star ((dK 1 fo x.values l.values).star (dK 2 eW x.waiters l.waiters))) k) (a:x.room=room) (b:x.taken=l.taken) (c:x.dropped=l.dropped):Has h0 (dm q room l) k:=
 Has.ex.2 ⟨x,o.fj ⟨a,b,c⟩⟩
theorem aa1 {Q:Int->Hp->Prop} (o:Has h0 (dm q room l) k) (a:Q (l.values.length:Int) k):YQ prog (some q) Q k:=by obtain ⟨x,_,_,_,o⟩:=o.bE;unfold YQ;refine aD (o.left.ld (shf:=av) x.values rfl ?_);rw [o.right.left.ic];exact a
theorem JF {Q:Bool->Hp->Prop} (o:Has h0 (dm q room l) k) (b:Q (decide (room<=(l.values.length:Int))) k):Xq prog (some q) Q k:=by obtain ⟨x,a,_,_,o⟩:=o.bE;unfold Xq;refine aD (o.left.ld (shf:=av) x.values rfl ?_);refine aD (o.left.ld (shf:=af .i64) x.room rfl ?_);rw [o.right.left.ic,a];exact b
theorem ZB {v:Int} {Q:Int->Hp->Prop} (o:Has h0 (dm q room l) k) (u:room<=64) (t:room<=(l.values.length:Int)->Q 19 k) (g:∀b,¬room<=(l.values.length:Int)->Has h0 (dm q room (uT v l)) b->Q 0 b):YB prog (some q) v Q k:=by
 unfold YB;refine zse (JF o ?_);by_cases a:room<=(l.values.length:Int)
 ·grind
 ·rw [if_neg (λh=>a (of_decide_eq_true h))];obtain ⟨x,d,e,f,o⟩:=o.bE;refine aD (o.left.ld (shf:=av) x.values rfl ?_);obtain ⟨r,_,j,put⟩:=o.f2;refine j.push rfl (λ_=>rfl) (λ_=>rfl) rfl ⟨by omega,by omega⟩ λc w m=> ?_;have o:=put _ _ m;obtain ⟨s,_,n,put⟩:=o.f1;refine aD (n.st {x with values:=c} (show (2:Nat)<=5 by decide) rfl λi p=> ?_);exact g i a (Has.je (x:={x with values:=c}) (put _ _ p) d e f)
theorem XL {Q:Hp->Prop} (o:Has h0 (dm q room l) k) (e:jl l.dropped) (f:∀a,Has h0 (dm q room (lf l)) a->Q a):Xn prog (some q) Q k:=by obtain ⟨x,b,c,d,o⟩:=o.bE;unfold Xn;refine aD (o.left.ld (shf:=af .i64) x.dropped rfl ?_);refine HS ?_;unfold CY;rw [d,Iy e];obtain ⟨j,_,h,put⟩:=o.f1;refine aD (h.st {x with dropped:=more l.dropped} (show (5:Nat)<=5 by decide) rfl λg i=> ?_);exact f g (Has.je (x:={x with dropped:=more l.dropped}) (put _ _ i) b c rfl)
theorem XN {Q:Int->bH->Bool->Int->Hp->Prop} (o:Has h0 (dm q room l) k) (E:jl l.taken) (i:l.values.length<=64) (Y:l.values=[]->Q 0 ⟨0,0⟩ false 21 k)
  (C:∀v b h,l.values=v::b->l.waiters=[]->Has h0 (dm q room (dw l)) h->Q v ⟨0,0⟩ false 0 h)
  (D:∀v b w g h,l.values=v::b->l.waiters=w::g->Has h0 (dm q room (dw l)) h->Q v (nk w) true 0 h):Xz prog (some q) Q k:=by
 obtain ⟨x,p,B,r,o⟩:=o.bE;unfold Xz;have j:=o.right.left.ic;refine aD (o.left.ld (shf:=av) x.values rfl ?_);cases hv:l.values with
 | nil=>grind
 | cons v b=>
  rw [hv] at o j i;have j:x.values.len=b.length+1:=by simpa using j
  rw [if_neg (show ¬((x.values.len:Int)==0)=true by simp;omega)];refine aD (o.left.ld (shf:=av) x.values rfl ?_);have W:Rs k (af .i64) 1 x.values (v::b):=o.right.left.jE (λ_=>rfl);refine W.get (λ_=>rfl) (by omega) (by omega) (by simp) λ(y:Int) t=> ?_;have t:y=v:=by grind
  subst t;refine aD (o.left.ld (shf:=av) x.values rfl ?_);refine aD (o.left.ld (shf:=av) x.values rfl ?_);refine ⟨by omega,aU ?_⟩;obtain ⟨e,_,J,put⟩:=o.f2;refine J.shift (λ_=>rfl) (λ_=>rfl) λZ A=> ?_;have o:=put _ _ A;have s:=A.vc;refine aD (o.left.ld (shf:=av) x.values rfl ?_);have s:b.length<=x.values.cap:=s;refine ⟨by omega,aU ?_⟩;rw [KH,Int.toNat_natCast,Nat.sub_zero,Nat.sub_zero];obtain ⟨e,_,O,put⟩:=o.f1;refine aD (O.st {x with values:=⟨x.values.base,b.length,x.values.cap⟩} (show (2:Nat)<=5 by decide) rfl λk2 P=> ?_);have o:=put _ _ P;refine aD (o.left.ld (shf:=af .i64) x.taken rfl ?_);refine HS ?_;unfold CY;rw [B,Iy E];obtain ⟨e,_,R,put⟩:=o.f1;refine aD (R.st {x with values:=⟨x.values.base,b.length,x.values.cap⟩,taken:=more l.taken} (show (4:Nat)<=5 by decide) rfl λu S=> ?_);have o:=put _ _ S;refine aD (o.left.ld (shf:=av) x.waiters rfl ?_);have f:=o.right.right.ic;cases d:l.waiters with
  | nil=>
   rw [d] at f;rw [if_neg (show ¬(decide ((x.waiters.len:Int)>0))=true by simp at f;simp [f])];refine C y b u hv d (Has.je (x:={x with values:=⟨x.values.base,b.length,x.values.cap⟩,taken:=more l.taken}) ?_ p (by unfold dw;rw [d]) (by unfold dw;rw [d];exact r));have:dw l={l with values:=b,taken:=more l.taken}:=by unfold dw;rw [d,hv];rfl
   grind
  | cons w g=>
   rw [d] at f o;have f:x.waiters.len=g.length+1:=by simpa using f
   rw [if_pos (decide_eq_true (show (x.waiters.len:Int)>0 by omega))];refine aD (o.left.ld (shf:=av) x.waiters rfl ?_);have Ms:Rs u aF 2 x.waiters ((w::g).map nk):=(o.right.right.jE (λ_=>rfl)).map (enc:=λx=>bg (aF.enc x));refine Ms.get (λ_=>rfl) (by omega) (by omega) (by simp) λ(X:bH) m=> ?_;have m:X=nk w:=by simpa using m.symm
   subst m;refine aD (o.left.ld (shf:=av) x.waiters rfl ?_);refine aD (o.left.ld (shf:=av) x.waiters rfl ?_);refine aD (o.left.ld (shf:=av) x.waiters rfl ?_);have G:=o.right.right.vc;refine ⟨by omega,aU ?_⟩;rw [Int.toNat_natCast];obtain ⟨e,_,T,put⟩:=o.f3;have U:=T.pn (λ_=>rfl) (c:=x.waiters.len) (Nat.le_refl _) G;have o:=put _ _ U;obtain ⟨e,_,V,put⟩:=o.f1;refine aD (V.st {x with values:=⟨x.values.base,b.length,x.values.cap⟩,taken:=more l.taken,waiters:=⟨aW x.waiters.base 2 1 x.waiters.len,x.waiters.len-1,x.waiters.len-1⟩} (show (3:Nat)<=5 by decide) rfl λk4 K=> ?_);have o:=put _ _ K;refine aD (o.left.ld (shf:=av) ⟨x.values.base,b.length,x.values.cap⟩ rfl ?_);refine ju (xs:=[w.value]) (sz:=1) (enc:=fo) rfl (λ_=>rfl) λa k5 F I=> ?_;have o:=o.grow F;refine ⟨⟨?_,trivial⟩,?_⟩
   ·exact (Has.left o).eh (n:=1) rfl
   obtain ⟨e,_,L,put⟩:=o.f2;refine L.app (I.jE (λ_=>rfl)) (λ_=>rfl) (λ_=>rfl) rfl ⟨by simp at i ⊢;omega,by simp at i ⊢;omega⟩ λz k6 M=> ?_;have o:=put _ _ M;obtain ⟨e,_,N,put⟩:=o.f1;refine aD (N.st {x with values:=z,taken:=more l.taken,waiters:=⟨aW x.waiters.base 2 1 x.waiters.len,x.waiters.len-1,x.waiters.len-1⟩} (show (2:Nat)<=5 by decide) rfl λH a8=> ?_);refine D y b w g H hv d (Has.je (x:={x with values:=z,taken:=more l.taken,waiters:=⟨aW x.waiters.base 2 1 x.waiters.len,x.waiters.len-1,x.waiters.len-1⟩}) ?_ p (by unfold dw;rw [d]) (by unfold dw;rw [d];exact r));have:dw l={values:=b++ [w.value],waiters:=g,taken:=more l.taken,dropped:=l.dropped}:=by unfold dw;rw [d,hv];rfl
   grind
end
theorem cV {P:Program} {g:FuncId} {first captured:Array Value} {args:List Value} {sh:Shape} {K:sh.T->Hp->Prop} {h:Hp} (b:tb.call g=true) (a:ae P g (first.toList++args++captured.toList) sh K h):fX P tb (.func (.func g) first captured) args sh K h:=
 ⟨g,first,captured,rfl,b,a⟩
def mo (p:Int) (a:List mr):Int:=ia (λw=>decide (w.proc=p)) a
def nS (v:Int) (xs:List Int):Int:=ia (λz=>decide (z=v)) xs
theorem UT {k:Hp} {s:Sl} {b:List mr} {a:Addr} {p:Int} {Q:Int->Hp->Prop} (r:Rw k 2 eW s b) (u:b.length<=1000000) (o:aV k a [.int .i64 p]) (m:Q (mo p b) k):
  OK prog s ⟨MU, #[], #[.pointer (some a)]⟩ Q k:=by
 unfold OK;have v:=r.1;have r:Rs k aF 2 s (b.map nk):=r.map (enc:=λx=>bg (aF.enc x));refine aC.intro (λi t=>t=k/\0<=i/\i<=(b.length:Int)/\∀(j:Nat) y,j<i.toNat->b[j]? =some y->decide (y.proc=p)=false) (λi _=>(b.length-i).toNat) ⟨rfl,by omega,by omega,λj y c=>by simp at c⟩ ?_;rintro i _ ⟨rfl,q,z,l⟩;by_cases n:i<(b.length:Int)
 ·rw [if_pos (decide_eq_true (by omega))];refine r.get (λ_=>rfl) (by omega) q (by grind) λ(x:bH) h=> ?_;rw [List.getElem?_map] at h;cases d:b[i.toNat]? with
  | none=>grind
  | some w=>
   rw [d] at h;have h:x=nk w:=by grind
   subst h;refine cV (g:=MU) rfl (Oi ?_);unfold zrx;refine bt (sh:=af .i64) p o ?_;dsimp only;by_cases e:w.proc=p
   ·rw [if_pos (show ((nk w).dd==p)=true by unfold nk;simp [e])];have:mo p b=i:=by have:=JB (f:=λw=>decide (w.proc=p)) d (by simp [e]) l;unfold mo;rw [this];omega
    grind
   ·rw [if_neg (show ¬((nk w).dd==p)=true by unfold nk;simp [e]),wrap64 (by omega) (by omega)];grind
 ·rw [if_neg (λe=>n (by have:=of_decide_eq_true e;omega))];have:mo p b= -1:=xW λw d=>by obtain ⟨j,c⟩:=List.getElem?_of_mem d;have:=(List.getElem?_eq_some_iff.1 c).1;exact l j w (by omega) c
  rw [this] at m;exact m
theorem L3 {k:Hp} {s:Sl} {a:List Int} {v:Int} {Q:Int->Hp->Prop} (r:Rw k 1 fo s a) (p:a.length<=1000000) (g:Q (nS v a) k):Su prog s v Q k:=by
 unfold Su;have q:=r.1;have r:Rs k (af .i64) 1 s a:=r;refine aC.intro (λi o=>o=k/\0<=i/\i<=(a.length:Int)/\∀(j:Nat) y,j<i.toNat->a[j]? =some y->decide (y=v)=false) (λi _=>(a.length-i).toNat) ⟨rfl,by omega,by omega,λj y b=>by simp at b⟩ ?_;rintro i _ ⟨rfl,n,t,d⟩;by_cases c:i<(a.length:Int)
 ·rw [if_pos (decide_eq_true (by omega))];refine r.get (λ_=>rfl) (by omega) n c λ(x:Int) m=> ?_;by_cases e:x=v
  ·rw [if_pos (show (v==x)=true by simp [e])];have:nS v a=i:=by have:=JB (f:=λz=>decide (z=v)) m (by simp [e]) d;unfold nS;rw [this];omega
   grind
  ·rw [if_neg (show ¬(v==x)=true by simp;exact λh=>e h.symm),wrap64 (by omega) (by omega)];grind
 ·rw [if_neg (λe=>c (by have:=of_decide_eq_true e;omega))];have:nS v a= -1:=xW λw l=>by obtain ⟨j,b⟩:=List.getElem?_of_mem l;have:=(List.getElem?_eq_some_iff.1 b).1;exact d j w (by omega) b
  rw [this] at g;exact g
theorem XP {a:Type} {f:a->Bool} {xs:List a}:0<=ia f xs↔∃x∈xs,f x=true:=by
 constructor
 ·intro h;refine Classical.byContradiction λd=> ?_;rw [xW λx b=>by
   grind] at h
  omega
 ·rintro ⟨x,b,c⟩;unfold ia;grind
theorem JG {k:Hp} {s:Sl} {a:List Int} {v:Int} {Q:Bool->Hp->Prop} (r:Rw k 1 fo s a) (b:a.length<=1000000) (d:Q (decide (v∈a)) k):Qr prog s v Q k:=by
 unfold Qr;refine zkw (L3 r b ?_);have:decide (nS v a>=0)=decide (v∈a):=by have:(nS v a>=0)↔v∈a:=(XP (f:=λz=>decide (z=v))).trans ⟨λ⟨x,c,e⟩=>(of_decide_eq_true e)▸c,λh=>⟨v,h,(by simp)⟩⟩;simp only [this]
 grind
section
variable {h0 k:Hp} {q:Addr} {room:Int} {l:bm}
theorem Iz {p:Int} {Q:Int->Hp->Prop} (o:Has h0 (dm q room l) k) (d:l.waiters.length<=1000000) (i:∀b,Has h0 (dm q room l) b->Q (mo p l.waiters) b):Wq prog (some q) p Q k:=by
 unfold Wq;refine ju (xs:=[p]) (sz:=1) (enc:=fo) rfl (λ_=>rfl) λa j g n=> ?_;have o:=o.grow g;obtain ⟨x,_,_,_,c⟩:=o.bE;refine aD (c.left.ld (shf:=av) x.waiters rfl ?_);refine zhd (f:=⟨MU, #[], #[.pointer (some a)]⟩) (UT (p:=p) (c.right.right.jE (λ_=>rfl)) d ?_ (i j o));obtain ⟨_,h⟩:=n.jE (λ_=>rfl);rcases h.2 with e | ⟨m,r,s⟩
 ·simp at e
 grind
theorem XR {p v:Int} {Q:Int->Hp->Prop} (o:Has h0 (dm q room l) k) (z:l.waiters.length<=100) (g:room<=(l.values.length:Int)) (h:∀w∈l.waiters,w.proc≠p) (i:∀a,Has h0 (dm q room (gZ p v l)) a->Q 0 a):XC prog (some q) p v Q k:=by
 unfold XC;refine zse (JF o ?_);rw [if_neg (by simp;exact g)];refine zqg (Iz o (by omega) λA o=> ?_);have:mo p l.waiters= -1:=xW λw j=>by simp [h w j]
 rw [this,if_neg (by decide)];obtain ⟨x,c,d,f,o⟩:=o.bE;refine aD (o.left.ld (shf:=av) x.waiters rfl ?_);obtain ⟨u,_,n,put⟩:=o.f3;refine n.push (e:=⟨p,v⟩) rfl (λ_=>rfl) (λ_=>rfl) rfl ⟨by omega,by omega⟩ λb B r=> ?_;have o:=put _ _ r;obtain ⟨y,_,s,put⟩:=o.f1;refine aD (s.st {x with waiters:=b} (show (3:Nat)<=5 by decide) rfl λm t=> ?_);exact i m (Has.je (x:={x with waiters:=b}) (put _ _ t) c d f)
def qK (p:Int) (l:bm):bm:={l with waiters:=gP (λw=>decide (w.proc=p)) l.waiters}
theorem UU {p:Int} {Q:Bool->Hp->Prop} (o:Has h0 (dm q room l) k) (K:l.waiters.length<=100) (g:∀b a,Has h0 (dm q room (qK p l)) a->Q b a):Wn prog (some q) p Q k:=by
 unfold Wn;refine zqg (Iz o (by omega) λi o=> ?_);have A:=Ca (λw:mr=>decide (w.proc=p)) l.waiters;by_cases hp:mo p l.waiters<0
 ·rw [if_pos (decide_eq_true hp)];refine g false i ?_;have:qK p l=l:=by unfold qK;rw [A,if_neg (show ¬0<=ia (λw:mr=>decide (w.proc=p)) l.waiters by unfold mo at hp;omega)]
  rw [this];exact o
 ·rw [if_neg (λh=>hp (of_decide_eq_true h))];have t:0<=mo p l.waiters:=by omega
  have L:mo p l.waiters<l.waiters.length:=JA t;obtain ⟨x,j,r,s,o⟩:=o.bE;refine aD (o.left.ld (shf:=av) x.waiters rfl ?_);obtain ⟨u,_,F,put⟩:=o.f3;have C:prog.underlying 185=some (.slice 191):=an.aN 185 qw rfl;obtain ⟨n,f⟩:∃n:Nat,mo p l.waiters=n:=⟨(mo p l.waiters).toNat,by omega⟩;have B:∀(d:Sl->Hp->Prop),(∀c a,Has u (dK 2 eW c (l.waiters.take n++l.waiters.drop (n+1))) a->d c a)->OO prog x.waiters (n:Int) ((n+1:Nat):Int) d i:=λd y=>by
   unfold OO;exact Has.Gy (bytes:=16) (z:=.agg #[.int .i64 0,.int .i64 0]) C (λv=>D9 an (e:=vj) rfl v) (λ_=>rfl) (λ_=>rfl) rfl (λm=>by induction m with
    | zero=>rfl
    | succ m D=>exact D) F (by omega) (by omega) ⟨by omega,by omega⟩ y
  rw [f,wrap64 (by omega) (by omega)];refine zim (B _ λc N G=> ?_);have o:=put _ _ G;obtain ⟨J,_,H,put⟩:=o.f1;refine aD (H.st {x with waiters:=c} (show (3:Nat)<=5 by decide) rfl λE I=> ?_);refine g true E (Has.je (x:={x with waiters:=c}) ?_ j r s);have:(qK p l).waiters=l.waiters.take n++l.waiters.drop (n+1):=by show gP (λw=>decide (w.proc=p)) l.waiters=_;have M:ia (λw:mr=>decide (w.proc=p)) l.waiters=n:=f;grind
  rw [this];exact put _ _ I
def tj (l:bm):bm:={l with waiters:=[]}
theorem ZC {Q:Sl->Hp->Prop} (o:Has h0 (dm q room l) k) (i:∀s b,Has h0 ((dm q room (tj l)).star (dK 2 eW s l.waiters)) b->Q s b):YH prog (some q) Q k:=by unfold YH;obtain ⟨x,e,f,g,o⟩:=o.bE;refine aD (o.left.ld (shf:=av) x.waiters rfl ?_);refine aD (o.left.ld (shf:=av) x.waiters rfl ?_);refine aD (o.left.ld (shf:=av) x.waiters rfl ?_);have z:=o.right.right.ic;have h:=o.right.right.vc;refine ⟨by omega,aU ?_⟩;rw [Int.toNat_natCast];obtain ⟨v,_,j,put⟩:=o.f3;have d:=j.wR (λ_=>rfl) (n:=x.waiters.len) (c:=x.waiters.len) (by omega) (Nat.le_refl _) h;rw [List.take_of_length_le (by omega)] at d;have o:=put _ _ d;obtain ⟨w,_,m,put⟩:=o.f1;refine aD (m.st {x with waiters:=⟨none,0,0⟩} (show (3:Nat)<=5 by decide) rfl λa p=> ?_);have o:=put _ _ p;refine i _ a ?_;have u:=o.Br;obtain ⟨y,_,r,_,put⟩:=u.fst;have nil:Has a (dK 2 eW (⟨none,0,0⟩:Sl) ([]:List mr)) a:=Has.km (Hp.le_refl _);have t:=(r.beside nil).assoc;exact put _ _ (Has.je (l:=tj l) (x:={x with waiters:=⟨none,0,0⟩}) t e f g)
end
end Lf
namespace Go.Proofs
open Go.Shelf
def Tryz.qg :Go.Shelf.Ren:=⟨λ| 144=>216 | 143=>234 | 219=>243 | 217=>244 | 225=>245 | 224=>246 | 267=>247 | 266=>248 | 314=>249 | n=>n,λ| 9=>9 | 4=>4 | 3=>3 | 5=>5 | 46=>239 | 146=>284 | 51=>283 | n=>n,λ| 1=>1 | n=>n⟩
theorem Tryz.w9 :Go.Proofs.Lays.n144 Tryz.prog Tryz.qg:={
 mixed:=by kernel_rfl
 f143:=Tryz.func234.trans (congrArg some (by kernel_rfl))
 f144:=Tryz.func216.trans (congrArg some (by kernel_rfl))
 f217:=Tryz.func244.trans (congrArg some (by kernel_rfl))
 f219:=Tryz.func243.trans (congrArg some (by kernel_rfl))
 f224:=Tryz.func246.trans (congrArg some (by kernel_rfl))
 f225:=Tryz.func245.trans (congrArg some (by kernel_rfl))
 f266:=Tryz.func248.trans (congrArg some (by kernel_rfl))
 f267:=Tryz.func247.trans (congrArg some (by kernel_rfl))
 f314:=Tryz.func249.trans (congrArg some (by kernel_rfl))
 t3:=Tryz.underlying3
 a3:=Tryz.isAgg3
 z3:=Tryz.sizeOf3
 v3:=Tryz.zeroValue3
 t4:=Tryz.underlying4
 a4:=Tryz.isAgg4
 z4:=Tryz.sizeOf4
 v4:=Tryz.zeroValue4
 t5:=Tryz.underlying5
 a5:=Tryz.isAgg5
 z5:=Tryz.sizeOf5
 v5:=Tryz.zeroValue5
 t9:=Tryz.underlying9
 a9:=Tryz.isAgg9
 z9:=Tryz.sizeOf9
 v9:=Tryz.zeroValue9
 t46:=Tryz.underlying239
 a46:=Tryz.isAgg239
 z46:=Tryz.sizeOf239
 v46:=Tryz.zeroValue239
 t51:=Tryz.underlying283
 a51:=Tryz.isAgg283
 z51:=Tryz.sizeOf283
 v51:=Tryz.zeroValue283
 t146:=Tryz.underlying284
 a146:=Tryz.isAgg284
 z146:=Tryz.sizeOf284
 v146:=Tryz.zeroValue284
 g1:=by kernel_rfl}
open Go.RowKit Go.Lib in
theorem Tryz.strings_Contains_one (s:ByteArray) (c:UInt8) (w:World):
  Calls Tryz.prog 216 #[.string s,.string ⟨#[c]⟩] w λe a=>e=.returned (.bool (decide (0<=Lib.indexByte s.data.toList c)))/\a=w:=Any.strings_Contains_one Tryz.w9 s c w
end Go.Proofs
namespace Lf
open Go
def lJ (k:Hp) (R:List Nat):Hp:=λb=>if b∈R then none else k b
theorem aa3 {k:Hp} {R:List Nat}:lJ k R<=k:=λb o e=>by unfold lJ at e;grind
theorem XS {k:Hp} {R:List Nat} {b:Nat} (h:b∈R):lJ k R b=none:=by unfold lJ;rw [if_pos h]
theorem rN {k:Hp} {R:List Nat} {b:Nat} (h:b∉R):lJ k R b=k b:=by unfold lJ;rw [if_neg h]
theorem aa5 {d k:Hp} {R:List Nat} (a:d<=k) (c:∀b∈R,d b=none):d<=lJ k R:=λb o e=>by rw [rN λhb=>by grind];exact a b o e
theorem SI {h b:Hp} {a:Addr} (e:b a.block=h a.block):cQ b a=cQ h a:=by unfold cQ;rw [e]
theorem Lh (a:Addr) (n:Nat):(a.add n).block=a.block:=by unfold Addr.add;split<;>rfl
theorem UW {h b:Hp} {a:Addr} {c:List Value} (l:aV h a c) (e:b a.block=h a.block):aV b a c:=λi v hv=>by have:cQ b (a.add i)=cQ h (a.add i):=SI (a:=a.add i) (by rw [Lh];exact e);rw [this];exact l i v hv
section
variable {α:Type} {h c:Hp} {sz:Nat} {enc:α->List Value} {l:Sl} {xs:List α} {F:List Nat}
theorem Rw.same (r:Rw h sz enc l xs) (e:∀a,l.base=some a->c a.block=h a.block):Rw c sz enc l xs:=by obtain ⟨d,f,g⟩:=r;refine ⟨d,f,g.imp id ?_⟩;rintro ⟨a,b,i⟩;exact ⟨a,b,UW i (e a b)⟩
theorem Rw.nil {l:Sl} (a:l.len=0):Rw h sz enc l ([]:List α):=⟨a,(by simp),.inl (by simp)⟩
theorem c9.grow (o:c9 h sz enc l xs F) (j:h<=c):c9 c sz enc l xs F:=by obtain ⟨h1,g,i⟩:=o;refine ⟨h1,g,i.imp id ?_⟩;rintro ⟨b,a,d,rfl,e,f⟩;exact ⟨b,a,d,rfl,e.le j,f⟩
theorem c9.cut {R:List Nat} (o:c9 h sz enc l xs F) (a:∀b∈F,b∉R):c9 (lJ h R) sz enc l xs F:=o.same λb hb=>rN (a b hb)
theorem c9.base (o:c9 h sz enc l xs F) {a:Addr} (d:l.base=some a):F=[a.block]:=by obtain ⟨_,_,b⟩:=o;grind
end
theorem Pl {h:Hp} {a:Addr} {v:Value} (e:cQ h a=some v):∃o,h a.block=some o:=by unfold cQ at e;grind
section
variable {α:Type} {h c:Hp} {sz:Nat} {enc:α->List Value} {l:Sl} {xs:List α} {F b:List Nat}
theorem Rw.known (r:Rw h sz enc l xs) {a:Addr} (j:l.base=some a) (d:xs.length*sz≠0):h a.block≠none:=by
 obtain ⟨n,g,i⟩:=r;obtain ⟨m,e,k⟩:=i.resolve_left d;rw [j] at e;cases e;have p:(xs.flatMap enc).length≠0:=by rw [g];exact d
 obtain ⟨v,hv⟩:∃v,(xs.flatMap enc)[0]? =some v:=⟨(xs.flatMap enc)[0]'(by omega),List.getElem?_eq_getElem (by omega)⟩;obtain ⟨o,f⟩:=Pl (k 0 v hv);rw [Lh] at f;rw [f];simp
end
end Lf
namespace Lf
abbrev D (α:Type):Type:=List UInt8->Nat->Except (Int×Nat) (α×Nat)
namespace D
variable {α β:Type}
def ret (x:α):D α:=λ_ at_=>.ok (x,at_)
def bind (d:D α) (f:α->D β):D β:=λb at_=>match d b at_ with
 | .ok (x,a)=>f x b a
 | .error e=>.error e
def num (k:Nat):D Nat:=λb at_=>if b.length<at_+k then .error (5,b.length) else .ok (eN ((b.drop at_).take k),at_+k)
def bV (d:D α) (wrong:α->Int):D α:=λb at_=>match d b at_ with
 | .ok (x,a)=>if wrong x=0 then .ok (x,a) else .error (wrong x,at_)
 | .error e=>.error e
def many (d:List α->D α):Nat->List α->D (List α)
 | 0,a=>ret a
 | n+1,a=>bind (d a) λx=>many d n (a++ [x])
def map (f:α->β) (d:D α):D β:=bind d λx=>ret (f x)
structure jx (d:D α) (enc:α->List UInt8) (valid:α->Prop):Prop where
 back:∀x,valid x->∀u t,d (u++(enc x++t)) u.length=.ok (x,u.length+(enc x).length)
 sound:∀b at_ x at2,d b at_=.ok (x,at2)->at_<=b.length->valid x/\at2=at_+(enc x).length/\∃t,b.drop at_=enc x++t
 cut:∀x,valid x->∀u t r,enc x=t++r->r≠ []->d (u++t) u.length=.error (5,u.length+t.length)
theorem jx.within {d:D α} {enc:α->List UInt8} {f:α->Prop} (L:jx d enc f) {b:List UInt8} {at_ a:Nat} {x:α} (h:d b at_=.ok (x,a)) (c:at_<=b.length):a<=b.length:=by obtain ⟨_,g,t,e⟩:=L.sound b at_ x a h c;have:=congrArg List.length e;grind
theorem Cz (k:Nat):jx (num k) (λn=>cM (n:Int) k) (λn=>n<256^k) where
 back:=λx f u t=>by
  unfold num;have a:=lQ (x:Int) k;rw [if_neg (by simp [a])];have e:((u++(cM (x:Int) k++t)).drop u.length).take k=cM (x:Int) k:=by rw [List.drop_left,List.take_left' a]
  rw [e];have c:=vB (x:Int) k;have d:(x:Int)%((256^k:Nat):Int)=(x:Int):=Int.emod_eq_of_lt (by omega) (by exact_mod_cast f);grind
 sound:=λb at_ x l h m=>by
  unfold num at h;by_cases g:b.length<at_+k
  ·grind
  ·rw [if_neg g] at h;cases h;have a:((b.drop at_).take k).length=k:=by grind
   have c:=qz ((b.drop at_).take k);rw [a] at c;have d:=EW ((b.drop at_).take k);rw [a] at d;refine ⟨c,by rw [lQ],(b.drop at_).drop k,?_⟩;rw [d,List.take_append_drop]
 cut:=λx f u t r i j=>by unfold num;have a:=lQ (x:Int) k;rw [i,List.length_append] at a;have:0<r.length:=List.length_pos_iff.2 j;grind
theorem kZ (x:α):jx (ret x) (λ_=> []) (λy=>y=x) where
 back:=λy d u t=>by subst d;rfl
 sound:=λb at_ y e h _=>by cases h;simp
 cut:=λy _ u t r a c=>by exact absurd (List.append_eq_nil_iff.1 a.symm).2 c
theorem JJ {γ:Type} {d1:D α} {d2:α->D β} {d:α->List UInt8} {l:α->β->List UInt8} {v1:α->Prop} {w:α->β->Prop} (f:α->β->γ) (g:γ->α×β) (I:∀x y,v1 x->w x y->g (f x y)=(x,y)) (N:∀z,f (g z).1 (g z).2=z)
  (j:jx d1 d v1) (n:∀x,v1 x->jx (d2 x) (l x) (w x)):
  jx (bind d1 λx=>bind (d2 x) λy=>ret (f x y)) (λz=>d (g z).1++l (g z).1 (g z).2) (λz=>v1 (g z).1/\w (g z).1 (g z).2) where
 back:=λz v u t=>by obtain ⟨c,i⟩:=v;have a:=j.back _ c u (l (g z).1 (g z).2++t);have b:=(n _ c).back _ i (u++d (g z).1) t;rw [List.append_assoc] at b;simp only [bind];rw [List.append_assoc,a];dsimp only;rw [List.length_append] at b;rw [b];dsimp only [ret];grind
 sound:=λb at_ z M h A=>by
  simp only [bind] at h;cases c:d1 b at_ with
  | error e=>grind
  | ok p=>
   obtain ⟨x,a1⟩:=p;rw [c] at h;dsimp only at h;obtain ⟨o,F,t1,G⟩:=j.sound b at_ x a1 c A;cases i:d2 x b a1 with
   | error e=>grind
   | ok q=>obtain ⟨y,a2⟩:=q;rw [i] at h;dsimp only [ret] at h;cases h;obtain ⟨C,O,t2,E⟩:=(n x o).sound b a1 y _ i (j.within c A);rw [I x y o C];dsimp only;refine ⟨⟨o,C⟩,by rw [List.length_append];omega,t2,?_⟩;rw [F] at E;rw [<-List.drop_drop,G,List.drop_left] at E;grind
 cut:=λz v u t r m L=>by
  obtain ⟨c,i⟩:=v;simp only [bind];by_cases J:t.length<(d (g z).1).length
  · -- cut in the first
   obtain ⟨k,B⟩:∃k,d (g z).1=t++k:=by have hp:t<+:d (g z).1:=List.prefix_of_prefix_length_le ⟨r,m.symm⟩ (List.prefix_append _ _) (Nat.le_of_lt J);obtain ⟨k,B⟩:=hp;grind
   have K:k≠ []:=λe=>by grind
   rw [j.cut _ c u t k B K]
  ·obtain ⟨t2,s⟩:∃t2,t=d (g z).1++t2:=by have hp:d (g z).1<+:t:=List.prefix_of_prefix_length_le (List.prefix_append _ _) ⟨r,m.symm⟩ (by omega);obtain ⟨t2,s⟩:=hp;exact ⟨t2,s.symm⟩
   subst s;have H:l (g z).1 (g z).2=t2++r:=by rw [List.append_assoc] at m;exact List.append_cancel_left m
   have a:=j.back _ c u t2;rw [a];dsimp only;have b:=(n _ c).cut _ i (u++d (g z).1) t2 r H L;grind
theorem eM {d:D α} {enc:α->List UInt8} {i:α->Prop} (L:jx d enc i) (c:α->Int):jx (bV d c) enc (λx=>i x/\c x=0) where
 back:=λx a u t=>by simp only [bV,L.back x a.1 u t,if_pos a.2]
 sound:=λb at_ x j h n=>by
  simp only [bV] at h;cases f:d b at_ with
  | error e=>grind
  | ok p=>
   obtain ⟨y,a1⟩:=p;rw [f] at h;dsimp only at h;by_cases g:c y=0
   ·rw [if_pos g] at h;cases h;obtain ⟨k,l,m⟩:=L.sound b at_ x j f n;exact ⟨⟨k,g⟩,l,m⟩
   grind
 cut:=λx a u t r o q=>by simp only [bV,L.cut x a.1 u t r o q]
theorem jx.congr {d:D α} {enc enc':α->List UInt8} {c valid':α->Prop} (L:jx d enc c) (hv:∀x,c x↔valid' x) (e:∀x,c x->enc x=enc' x):jx d enc' valid' where
 back:=λx a u t=>by have a:=(hv x).2 a;rw [<-e x a];exact L.back x a u t
 sound:=λb at_ x g h i=>by obtain ⟨k,l,m⟩:=L.sound b at_ x g h i;grind
 cut:=λx a u t r f j=>by have a:=(hv x).2 a;rw [<-e x a] at f;exact L.cut x a u t r f j
theorem yT {d:D α} {enc:α->List UInt8} {g:α->Prop} (h:α->β) {enc':β->List UInt8} {valid':β->Prop} (L:jx d enc g) (hv:∀y,valid' y↔∃x,g x/\h x=y) (j:∀x,g x->enc' (h x)=enc x):jx (map h d) enc' valid' where
 back:=λy f u t=>by obtain ⟨x,a,rfl⟩:=(hv y).1 f;rw [j x a];simp only [map,bind,L.back x a u t];rfl
 sound:=λb at_ y n c l=>by
  simp only [map,bind] at c;cases i:d b at_ with
  | error e=>grind
  | ok p=>obtain ⟨x,a1⟩:=p;rw [i] at c;dsimp only [ret] at c;cases c;obtain ⟨o,q,s⟩:=L.sound b at_ x _ i l;grind
 cut:=λy f u t r k m=>by obtain ⟨x,a,rfl⟩:=(hv y).1 f;rw [j x a] at k;simp only [map,bind,L.cut x a u t r k m]
def fp (v:List α->α->Prop):List α->List α->Prop
 | _,[]=>True
 | acc,x::r=>v acc x/\fp v (acc++ [x]) r
theorem JL (a:D α) (c:α->D β):map (λz:α×β=>z.2) (bind a λx=>bind (c x) λy=>ret (x,y))=bind a c:=by
 funext b at_;simp only [map,bind];cases a b at_ with
 | error e=>rfl
 | ok p=>
  obtain ⟨x,a1⟩:=p;dsimp only;cases c x b a1 with
  | error e=>rfl
  | ok q=>rfl
theorem IA {d:List α->D α} {e:α->List UInt8} {v:List α->α->Prop} (L:∀a,jx (d a) e (v a)):∀(n:Nat) (a:List α),
  jx (many d n a) (λz=>(z.drop a.length).flatMap e) (λz=>∃b,z=a++b/\b.length=n/\fp v a b)
 | 0,a=>by
  refine (kZ a).congr (λz=>⟨λh=>⟨[],by rw [h,List.append_nil],rfl,trivial⟩,?_⟩) λz h=> ?_
  ·rintro ⟨b,rfl,c,_⟩;rw [List.length_eq_zero_iff.1 c,List.append_nil]
  grind
 | n+1,a=>by
  have h:=JJ (γ:=α×List α) (d1:=d a) (d2:=λx=>many d n (a++ [x])) Prod.mk id (λ_ _ _ _=>rfl) (λ_=>rfl) (L a) λx _=>IA L n (a++ [x]);have g:=yT (h:=λz:α×List α=>z.2) (enc':=λz=>(z.drop a.length).flatMap e) (valid':=λz=>∃b,z=a++b/\b.length=n+1/\fp v a b) h (λy=>⟨?_,?_⟩) ?_
  ·rw [JL] at g;exact g
  ·rintro ⟨b,rfl,c,i⟩;cases b with
   | nil=>simp at c
   | cons x r=>exact ⟨(x,a++x::r),⟨i.1,r,by simp,by simpa using c,i.2⟩,rfl⟩
  ·rintro ⟨⟨x,z⟩,⟨j,r,f,k,l⟩,rfl⟩;have f:z=a++ [x]++r:=f;refine ⟨x::r,by simp [f],by simp [k],j,l⟩
  grind
end D
end Lf
namespace Lf
namespace D
variable {α γ:Type}
theorem kX {d:D α} {d2:α->D γ} {c:α->List UInt8} {e2:α->γ->List UInt8} {v1:α->Prop} {v2:α->γ->Prop} (g:γ->α) (j:∀x z,v1 x->v2 x z->g z=x)
  (f:jx d c v1) (i:∀x,v1 x->jx (d2 x) (e2 x) (v2 x)):jx (bind d d2) (λz=>c (g z)++e2 (g z) z) (λz=>v1 (g z)/\v2 (g z) z):=by
 have h:=JJ (γ:=α×γ) Prod.mk id (λ_ _ _ _=>rfl) (λ_=>rfl) f i;have e:=yT (h:=λz:α×γ=>z.2) (enc':=λz=>c (g z)++e2 (g z) z) (valid':=λz=>v1 (g z)/\v2 (g z) z) h (λy=>⟨?_,?_⟩) ?_
 ·rw [JL] at e;exact e
 ·rintro ⟨a,b⟩;exact ⟨(g y,y),⟨a,b⟩,rfl⟩
 ·rintro ⟨⟨x,z⟩,⟨a,b⟩,rfl⟩;have a:v1 x:=a;have b:v2 x z:=b;show v1 (g z)/\v2 (g z) z;rw [j x z a b];exact ⟨a,b⟩
 grind
theorem dX {a:D α} {b:α->D γ} {c:α->List UInt8} {v1:α->Prop} {E:γ->List UInt8} {P W:γ->Prop} (g:γ->α)
  (d:jx a c v1) (e:∀x,v1 x->jx (b x) E (λz=>(g z=x/\P z)/\W z)):jx (bind a b) (λz=>c (g z)++E z) (λz=>P z/\(v1 (g z)/\W z)):=by
 have h:=kX (e2:=λ_=>E) (v2:=λx z=>(g z=x/\P z)/\W z) g (λx z _ h=>h.1.1) d e;grind
theorem j5 {c:D Int} {d:Int->List α->D α} {f:Int->List α->D γ} {i:Int->List UInt8} {v1:Int->Prop} {e:α->List UInt8} {v:Int->List α->α->Prop} {E:γ->List UInt8} {P W:γ->Prop} (g:γ->List α)
  (m:∀n,v1 n->0<=n) (j:jx c i v1) (L:∀n b,jx (d n b) e (v n b)) (k:∀n l,(l.length:Int)=n->jx (f n l) E (λz=>(g z=l/\P z)/\W z)):
  jx (bind c λn=>bind (many (d n) n.toNat []) λl=>f n l) (λz=>i (g z).length++((g z).flatMap e++E z)) (λz=>P z/\(v1 (g z).length/\(fp (v (g z).length) [] (g z)/\W z))):=by
 refine dX (λz=>((g z).length:Int)) j λn p=> ?_;have o:∀l:List α,(∃a,l=[]++a/\a.length=n.toNat/\fp (v n) [] a)->(l.length:Int)=n:=by rintro l ⟨a,rfl,r,_⟩;have:=m n p;omega
 have h:=kX (e2:=λ_=>E) (v2:=λl z=>(g z=l/\P z)/\W z) g (λx z _ h=>h.1.1) (IA (L n) n.toNat []) λl q=>k n l (o l q);grind
def gr (d:D α) (a:α->Int×Int):D α:=λb at_=>match d b at_ with
 | .ok (x,c)=>if (a x).1=0 then .ok (x,c) else .error ((a x).1,at_+(a x).2.toNat)
 | .error e=>.error e
theorem rh {d:D α} {enc:α->List UInt8} {i:α->Prop} (L:jx d enc i) (c:α->Int×Int):jx (gr d c) enc (λx=>i x/\(c x).1=0) where
 back:=λx a u t=>by simp only [gr,L.back x a.1 u t,if_pos a.2]
 sound:=λb at_ x j h n=>by
  simp only [gr] at h;cases f:d b at_ with
  | error e=>grind
  | ok p=>
   obtain ⟨y,a1⟩:=p;rw [f] at h;dsimp only at h;by_cases g:(c y).1=0
   ·rw [if_pos g] at h;cases h;obtain ⟨k,l,m⟩:=L.sound b at_ x j f n;exact ⟨⟨k,g⟩,l,m⟩
   grind
 cut:=λx a u t r o q=>by simp only [gr,L.cut x a.1 u t r o q]
end D
open D
def i64 (n:Nat):Int:=if n<9223372036854775808 then n else (n:Int)-18446744073709551616
def n7 (x:Int):Prop:= -9223372036854775808<=x/\x<9223372036854775808
theorem ZD :jx (map i64 (num 8)) (λx=>cM x 8) n7:=by
 refine yT i64 (Cz 8) (λy=>⟨λh=> ?_,?_⟩) λx c=> ?_
 ·obtain ⟨d,e⟩:=h;refine ⟨(y%18446744073709551616).toNat,?_,?_⟩
  ·omega
  ·unfold i64;split<;>omega
 ·rintro ⟨x,c,rfl⟩;have c:x<18446744073709551616:=c;unfold i64 n7;split<;>omega
 ·have c:x<18446744073709551616:=c;have key:∀(k:Nat) (a b:Int),a%((256^k:Nat):Int)=b%((256^k:Nat):Int)->cM a k=cM b k:=by
   intro k a b h;have d:=vB a k;have e:=vB b k;rw [h,<-e] at d;have i:eN (cM a k)=eN (cM b k):=by exact_mod_cast d
   have f:=EW (cM a k);have g:=EW (cM b k);rw [lQ] at f g;grind
  refine key 8 _ _ ?_;show i64 x%18446744073709551616=(x:Int)%18446744073709551616;unfold i64;split<;>omega
def vi (n:Nat):Int:=n
theorem rJ (k:Nat):jx (map vi (num k)) (λx=>cM x k) (λx=>0<=x/\x<((256^k:Nat):Int)):=
 yT vi (Cz k) (λy=>⟨λh=>⟨y.toNat,by omega,by unfold vi;omega⟩,by rintro ⟨x,a,rfl⟩;unfold vi;omega⟩) λx _=>rfl
def zD (k:Nat):D Int:=map vi (num k)
def qR :D cp:=bind (zD 1) λop=>bind (zD 1) λa=>bind (zD 1) λb=>bind (zD 1) λc=>bind (map i64 (num 8)) λgW=>ret ⟨op,a,b,c,gW⟩
def kI (n ag:Int):D cp:=gr qR λx=>gG x n ag
def cn (a b:Int) (n:Int):Int:=if within n a b then 0 else 2
def eK (dR:Int) (n:Int):Int:=if n=0 then 1 else if dR<n then 3 else 0
def hZ (b:List Int) (a:Int):Int:=match b.getLast? with
 | none=>0
 | some l=>if a=l then 8 else if a<l then 7 else 0
def ks (parts ag:Int):D fq:=bind (bV (zD 1) (cn 0 (parts-1))) λpart=>bind (bV (zD 2) λn=>if 256<n then 3 else 0) λn=>
 bind (many (λ_=>kI n ag) n.toNat []) λcode=>ret ⟨part,code⟩
def jr :List UInt8->D Unit
 | []=>ret ()
 | c::r=>bind (bV (num 1) λn=>if n=c.toNat then 0 else 4) λ_=>jr r
def vY :D aI:=bind (jr [70,66,67,70,1]) λ_=>bind (bV (zD 1) (eK 8)) λa=>bind (many (λb=>bV (zD 8) (hZ b)) a.toNat []) λlabels=>
 bind (bV (zD 1) (eK 64)) λd=>bind (many (λ_=>bV (zD 1) (cn 0 (a-1))) d.toNat []) λtable=>
 bind (bV (zD 2) (cn 1 256)) λfuel=>bind (bV (zD 1) (cn 1 64)) λlane=>bind (bV (zD 1) (cn 0 8)) λag=>bind (bV (zD 2) (cn 0 4096)) λlog=>
 bind (bV (zD 1) (eK 32)) λc=>bind (many (λ_=>ks a ag) c.toNat []) λprocs=>ret ⟨labels,table,fuel,lane,ag,log,procs⟩
def rO {a:Type} (d:D a) (b:List UInt8):Except (Int×Nat) a:=
 if 1048576<b.length then .error (22,1048576) else match d b 0 with
  | .error e=>.error e
  | .ok (x,at_)=>if at_<b.length then .error (6,at_) else .ok x
def pa (b:List UInt8):Except (Int×Nat) aI:=rO vY b
theorem IB :∀m:List UInt8,jx (jr m) (λ_=>m) (λ_=>True)
 | []=>(kZ ()).congr (λ_=>by simp) λ_ _=>rfl
 | c::r=>by
  have a:∀(x:Nat) (z:Unit),(x<256^1/\(if x=c.toNat then (0:Int) else 4)=0)->True->c.toNat=x:=λx z a _=>by omega
  have h:=kX (g:=λ_:Unit=>c.toNat) (d2:=λ_=>jr r) (e2:=λ_ _=>r) (v2:=λ_ _=>True) a (eM (Cz 1) λn=>if n=c.toNat then (0:Int) else 4) λ_ _=>IB r
  ·refine h.congr (λ_=> ?_) λ_ _=> ?_
   ·simp;exact c.toNat_lt
   ·have:=EW [c];simp only [eN,List.length_cons,List.length_nil] at this;grind
theorem kY :D.jx qR lL λx=>(0<=x.op/\x.op<256)/\(0<=x.a/\x.a<256)/\(0<=x.b/\x.b<256)/\(0<=x.c/\x.c<256)/\n7 x.gW:=by
 have h:=D.dX (P:=λ_=>True) (W:=λz=>(0<=z.a/\z.a<((256^1:Nat):Int))/\((0<=z.b/\z.b<((256^1:Nat):Int))/\((0<=z.c/\z.c<((256^1:Nat):Int))/\(n7 z.gW/\True)))) (E:=λz=>cM z.a 1++(cM z.b 1++(cM z.c 1++(cM z.gW 8++ [])))) (λz:cp=>z.op) (rJ 1) λop _=>
  D.dX (W:=λz=>(0<=z.b/\z.b<((256^1:Nat):Int))/\((0<=z.c/\z.c<((256^1:Nat):Int))/\(n7 z.gW/\True))) (E:=λz=>cM z.b 1++(cM z.c 1++(cM z.gW 8++ []))) (λz:cp=>z.a) (rJ 1) λa _=>
  D.dX (W:=λz=>(0<=z.c/\z.c<((256^1:Nat):Int))/\(n7 z.gW/\True)) (E:=λz=>cM z.c 1++(cM z.gW 8++ [])) (λz:cp=>z.b) (rJ 1) λb _=>
  D.dX (W:=λz=>n7 z.gW/\True) (E:=λz=>cM z.gW 8++ []) (λz:cp=>z.c) (rJ 1) λc _=>
  D.dX (W:=λz=>True) (E:=λz=> []) (λz:cp=>z.gW) ZD λgW _=>
  (D.kZ (⟨op,a,b,c,gW⟩:cp)).congr (λz=>⟨λh=>by subst h;simp,λh=>by cases z;simp at h;simp [h]⟩) λ_ _=>rfl
 refine h.congr (λz=> ?_) λz _=> ?_
 ·simp
 ·simp [lL]
theorem Ef {b:Type} {V:b->Prop}:∀(l a:List b),fp (λ_ x=>V x) a l↔∀x∈l,V x
 | [],_=>by simp [fp]
 | x::r,a=>by simp [fp,Ef r]
def Bj (x:cp):Prop:=(0<=x.op/\x.op<256)/\(0<=x.a/\x.a<256)/\(0<=x.b/\x.b<256)/\(0<=x.c/\x.c<256)/\n7 x.gW
def pQ (parts ag:Int) (z:fq):Prop:=
 (0<=z.part/\z.part<256)/\cn 0 (parts-1) z.part=0/\z.code.length<=256/\∀x∈z.code,Bj x/\(gG x z.code.length ag).1=0
theorem XT (parts ag:Int):D.jx (ks parts ag) gg (pQ parts ag):=by
 have h:=D.dX (P:=λ_=>True) (W:=λz:fq=>((0<=(z.code.length:Int)/\(z.code.length:Int)<((256^2:Nat):Int))/\(if 256<(z.code.length:Int) then (3:Int) else 0)=0)/\(fp (λ_ x=>Bj x/\(gG x z.code.length ag).1=0) [] z.code/\True))
  (E:=λz=>cM z.code.length 2++(z.code.flatMap lL++ [])) fq.part (D.eM (rJ 1) (cn 0 (parts-1))) λpart _=>
  D.j5 (d:=λn _=>kI n ag) (v:=λn _ x=>Bj x/\(gG x n ag).1=0) (W:=λ_=>True) (E:=λ_=> []) fq.code (λn a=>a.1.1) (D.eM (rJ 2) λn=>if 256<n then (3:Int) else 0)
   (λn _=>D.rh kY _) λn l _=>(D.kZ (⟨part,l⟩:fq)).congr (λz=>⟨λh=>by subst h;simp,λh=>by cases z;simp at h;simp [h]⟩) λ_ _=>rfl
 refine h.congr (λz=> ?_) λz _=> ?_
 ·rw [Ef];unfold pQ;grind
 ·simp [gg,sk]
end Lf
namespace Lf
open D (fp)
abbrev By (k:Nat) (x:Int):Prop:=0<=x/\x<((256^k:Nat):Int)
abbrev n0 (a ag:Int) (z:aI):Prop:=(By 2 z.log/\cn 0 4096 z.log=0)/\((By 1 z.procs.length/\eK 32 z.procs.length=0)/\(fp (λ_ p=>pQ a ag p) [] z.procs/\True))
abbrev uv (a:Int) (z:aI):Prop:=
 (By 1 z.table.length/\eK 64 z.table.length=0)/\(fp (λ_ x=>By 1 x/\cn 0 (a-1) x=0) [] z.table/\((By 2 z.fuel/\cn 1 256 z.fuel=0)/\((By 1 z.lane/\cn 1 64 z.lane=0)/\((By 1 z.ag/\cn 0 8 z.ag=0)/\n0 a z.ag z))))
abbrev Bi (z:aI):Prop:=(By 1 z.labels.length/\eK 8 z.labels.length=0)/\(fp (λb a=>By 8 a/\hZ b a=0) [] z.labels/\uv z.labels.length z)
theorem SJ :D.jx vY nI Bi:=by
 have k:∀(labels table:List Int) (fuel lane:Int) (b ag:Int),D.jx (D.bind (D.bV (zD 2) (cn 0 4096)) λlog=>D.bind (D.bV (zD 1) (eK 32)) λf=>D.bind (D.many (λ_=>ks b ag) f.toNat []) λprocs=>D.ret (⟨labels,table,fuel,lane,ag,log,procs⟩:aI))
   (λz=>cM z.log 2++(cM z.procs.length 1++(z.procs.flatMap gg++ []))) (λz=>(z.ag=ag/\(z.lane=lane/\(z.fuel=fuel/\(z.table=table/\(z.labels=labels/\True)))))/\n0 b ag z):=λlabels table fuel lane b ag=>
  D.dX (γ:=aI) (P:=λz=>z.ag=ag/\(z.lane=lane/\(z.fuel=fuel/\(z.table=table/\(z.labels=labels/\True))))) (W:=λz=>(By 1 z.procs.length/\eK 32 z.procs.length=0)/\(fp (λ_ p=>pQ b ag p) [] z.procs/\True))
   (E:=λz=>cM z.procs.length 1++(z.procs.flatMap gg++ [])) aI.log (D.eM (rJ 2) (cn 0 4096)) λlog _=>
   D.j5 (γ:=aI) (d:=λ_ _=>ks b ag) (v:=λ_ _ p=>pQ b ag p) (W:=λ_=>True) (E:=λ_=> []) aI.procs (λn e=>e.1.1) (D.eM (rJ 1) (eK 32)) (λ_ _=>XT b ag) λn l _=>
   (D.kZ (⟨labels,table,fuel,lane,ag,log,l⟩:aI)).congr (λz=>⟨λh=>by subst h;simp,λh=>by cases z;simp at h;simp [h]⟩) λ_ _=>rfl
 have j:∀(labels:List Int) (b:Int),D.jx (D.bind (D.bV (zD 1) (eK 64)) λo=>D.bind (D.many (λ_=>D.bV (zD 1) (cn 0 (b-1))) o.toNat []) λtable=>
   D.bind (D.bV (zD 2) (cn 1 256)) λfuel=>D.bind (D.bV (zD 1) (cn 1 64)) λlane=>D.bind (D.bV (zD 1) (cn 0 8)) λag=>D.bind (D.bV (zD 2) (cn 0 4096)) λlog=>
   D.bind (D.bV (zD 1) (eK 32)) λf=>D.bind (D.many (λ_=>ks b ag) f.toNat []) λprocs=>D.ret (⟨labels,table,fuel,lane,ag,log,procs⟩:aI))
   (λz=>cM z.table.length 1++(z.table.flatMap (λa=>cM a 1)++(cM z.fuel 2++(cM z.lane 1++(cM z.ag 1++(cM z.log 2++(cM z.procs.length 1++(z.procs.flatMap gg++ []))))))))
   (λz=>(z.labels=labels/\True)/\uv b z):=λlabels b=>
  D.j5 (γ:=aI) (d:=λ_ _=>D.bV (zD 1) (cn 0 (b-1))) (v:=λ_ _ x=>By 1 x/\cn 0 (b-1) x=0) (P:=λz=>z.labels=labels/\True)
   (W:=λz=>(By 2 z.fuel/\cn 1 256 z.fuel=0)/\((By 1 z.lane/\cn 1 64 z.lane=0)/\((By 1 z.ag/\cn 0 8 z.ag=0)/\n0 b z.ag z)))
   (E:=λz=>cM z.fuel 2++(cM z.lane 1++(cM z.ag 1++(cM z.log 2++(cM z.procs.length 1++(z.procs.flatMap gg++ [])))))) aI.table (λn e=>e.1.1) (D.eM (rJ 1) (eK 64)) (λ_ _=>D.eM (rJ 1) (cn 0 (b-1))) λn table _=>
   D.dX (γ:=aI) (W:=λz=>(By 1 z.lane/\cn 1 64 z.lane=0)/\((By 1 z.ag/\cn 0 8 z.ag=0)/\n0 b z.ag z)) (E:=λz=>cM z.lane 1++(cM z.ag 1++(cM z.log 2++(cM z.procs.length 1++(z.procs.flatMap gg++ []))))) aI.fuel (D.eM (rJ 2) (cn 1 256)) λfuel _=>
   D.dX (γ:=aI) (W:=λz=>(By 1 z.ag/\cn 0 8 z.ag=0)/\n0 b z.ag z) (E:=λz=>cM z.ag 1++(cM z.log 2++(cM z.procs.length 1++(z.procs.flatMap gg++ [])))) aI.lane (D.eM (rJ 1) (cn 1 64)) λlane _=>
   D.dX (γ:=aI) (W:=λz=>n0 b z.ag z) (E:=λz=>cM z.log 2++(cM z.procs.length 1++(z.procs.flatMap gg++ []))) aI.ag (D.eM (rJ 1) (cn 0 8)) λag _=>
   (k labels table fuel lane b ag).congr (λz=>and_congr_right λh=>by rw [h.1]) λ_ _=>rfl
 have i:=D.kX (g:=λ_:aI=>()) (v2:=λ_ z=>True/\Bi z) (e2:=λ_ z=>cM z.labels.length 1++(z.labels.flatMap (λa=>cM a 8)++(cM z.table.length 1++(z.table.flatMap (λa=>cM a 1)++(cM z.fuel 2++(cM z.lane 1++(cM z.ag 1++(cM z.log 2++(cM z.procs.length 1++(z.procs.flatMap gg++ []))))))))))
  (λx z _ _=>rfl) (IB [70,66,67,70,1]) λ_ _=>
  D.j5 (γ:=aI) (d:=λ_ c=>D.bV (zD 8) (hZ c)) (v:=λ_ c a=>By 8 a/\hZ c a=0) (P:=λ_=>True) (W:=λz=>uv z.labels.length z)
   (E:=λz=>cM z.table.length 1++(z.table.flatMap (λa=>cM a 1)++(cM z.fuel 2++(cM z.lane 1++(cM z.ag 1++(cM z.log 2++(cM z.procs.length 1++(z.procs.flatMap gg++ [])))))))) aI.labels (λn e=>e.1.1) (D.eM (rJ 1) (eK 8)) (λ_ c=>D.eM (rJ 8) (hZ c)) λb labels m=>
   (j labels b).congr (λz=>and_congr_right λh=>by rw [h.1,m]) λ_ _=>rfl
 refine i.congr (λz=>by simp) λz _=> ?_;simp [nI]
end Lf
namespace Lf
open D (fp)
def less (n:Int):Int:=n-1
end Lf
namespace Lf
open D (fp)
theorem Po {a:Type} {d:D a} {enc:a->List UInt8} {i:a->Prop} (L:D.jx d enc i) {b:List UInt8} {x:a} (h:rO d b=.ok x):i x/\enc x=b/\b.length<=1048576:=by
 unfold rO at h;by_cases k:1048576<b.length
 ·grind
 ·rw [if_neg k] at h;cases g:d b 0 with
  | error e=>grind
  | ok p=>
   obtain ⟨y,c⟩:=p;rw [g] at h;dsimp only at h;by_cases l:c<b.length
   ·grind
   ·rw [if_neg l] at h;cases h;obtain ⟨m,n,t,f⟩:=L.sound b 0 _ c g (Nat.zero_le _);rw [List.drop_zero] at f;have j:=congrArg List.length f;rw [List.length_append] at j;have o:t=[]:=List.length_eq_zero_iff.1 (by omega);grind
end Lf
namespace Lf
open D (fp)
theorem dF {a b n:Int}:cn a b n=0↔a<=n/\n<=b:=by unfold cn within;simp
theorem cR {a b n:Int}:within n a b=true↔a<=n/\n<=b:=by unfold within;simp
theorem fP {a b n:Int}:within n a b=false↔¬(a<=n/\n<=b):=by rw [<-Bool.not_eq_true,cR]
theorem gR {m n:Int}:eK m n=0↔n≠0/\n<=m:=by unfold eK;omega
theorem UX {b:List Int} {a:Int}:hZ b a=0↔∀x,b.getLast? =some x->x<a:=by unfold hZ;grind
theorem DA :∀(l b:List Int),fp (λb a=>By 8 a/\hZ b a=0) b l↔(∀a∈l,By 8 a)/\l.Pairwise (· < ·)/\∀x,b.getLast? =some x->∀a∈l,x<a
 | [],b=>by simp [fp]
 | a::r,b=>by
  have c:=DA r (b++ [a]);have d:(b++ [a]).getLast? =some a:=by simp
  simp only [fp];rw [c,UX,List.pairwise_cons];grind
theorem lP {has:Bool} {n:Int}:cS has n=0↔(has=false->n=0)/\0<=n/\n<8:=by unfold cS;grind
theorem UY {x:cp} {n ag:Int} (h:(gG x n ag).1=0):(0<=x.op/\x.op<34)/\(0<=x.a/\x.a<8)/\(0<=x.b/\x.b<8)/\(0<=x.c/\x.c<8):=by
 unfold gG at h;by_cases g:x.op<0\/34<=x.op
 ·rw [if_pos g] at h;cases h
 rw [if_neg g] at h;by_cases d:cS (gQ x.op).1 x.a≠0
 ·rw [if_pos d] at h;exact absurd h d
 rw [if_neg d] at h;by_cases e:cS (gQ x.op).2.1 x.b≠0
 ·rw [if_pos e] at h;exact absurd h e
 rw [if_neg e] at h;by_cases f:cS (gQ x.op).2.2.1 x.c≠0
 ·rw [if_pos f] at h;exact absurd h f
 have i:=(lP.1 (Decidable.not_not.1 d)).2;have j:=(lP.1 (Decidable.not_not.1 e)).2;have k:=(lP.1 (Decidable.not_not.1 f)).2;omega
theorem Li {n ag:Int}:∀ {l:List cp} {i:Int},(jo n ag l i).1=0↔∀x∈l,(gG x n ag).1=0
 | [],i=>by simp [jo]
 | x::r,i=>by
  simp only [jo];by_cases h:(gG x n ag).1=0
  ·rw [if_neg (λa=>a h),Li];simp [h]
  grind
theorem xx {l:List cp} {ag:Int} (a:0<=ag/\ag<=8):(iK l ag).1=0↔l.length<=256/\∀x∈l,(gG x l.length ag).1=0:=by
 unfold iK;rw [if_neg (by omega)];by_cases h:256<l.length
 ·grind
 ·rw [if_neg h,Li];grind
theorem Ki {parts ag:Int}:∀ {l:List fq} {i:Int},(sX parts ag l i).1=0↔∀p∈l,(0<=p.part/\p.part<=parts-1)/\(iK p.code ag).1=0
 | [],i=>by simp [sX]
 | p::r,i=>by
  simp only [sX];by_cases a:within p.part 0 (parts-1)=false
  ·rw [if_pos a];have:=fP.1 a;grind
  ·rw [if_neg a];have c:=cR.1 (Bool.not_eq_false _▸a:within p.part 0 (parts-1)=true);by_cases b:(iK p.code ag).1=0
   ·rw [if_neg (λd=>d b),Ki];simp [b,c]
   grind
def za (l:List Int):Prop:=l≠ []/\l.length<=8/\l.Pairwise (· < ·)
def Typed (c:aI):Prop:=(∀a∈c.labels,By 8 a)/\∀p∈c.procs,∀x∈p.code,n7 x.gW
theorem j4 {m:Int} {c:aI}:(qX m c).1=0↔m=0/\c.table≠ []/\c.table.length<=64/\(∀x∈c.table,0<=x/\x<=c.labels.length-1)/\(1<=c.fuel/\c.fuel<=256)/\(1<=c.lane/\c.lane<=64)/\(0<=c.ag/\c.ag<=8)/\
  (0<=c.log/\c.log<=4096)/\c.procs≠ []/\c.procs.length<=32/\∀p∈c.procs,(0<=p.part/\p.part<=c.labels.length-1)/\(iK p.code c.ag).1=0:=by
 unfold qX;by_cases b:m=0
 case neg=>rw [if_pos b];exact ⟨λe=>absurd e b,λe=>absurd e.1 b⟩
 rw [if_neg (λo=>o b)];by_cases i:c.table=[]
 ·rw [if_pos i];exact ⟨λe=>(by cases e),λe=>absurd i e.2.1⟩
 rw [if_neg i];by_cases l:64<c.table.length
 ·rw [if_pos l];exact ⟨λe=>(by cases e),λe=>(by have:=e.2.2.1;omega)⟩
 rw [if_neg l];by_cases a:c.table.all (λp=>within p 0 (c.labels.length-1))=false
 ·rw [if_pos a];refine ⟨λe=>(by cases e),λe=> ?_⟩;have:c.table.all (λp=>within p 0 (c.labels.length-1))=true:=List.all_eq_true.2 λx k=>cR.2 (e.2.2.2.1 x k);rw [this] at a;cases a
 rw [if_neg a];have q:∀x∈c.table,0<=x/\x<=c.labels.length-1:=λx k=>cR.1 (List.all_eq_true.1 (Bool.not_eq_false _▸a:c.table.all (λp=>within p 0 (c.labels.length-1))=true) x k);by_cases d:within c.fuel 1 256=false
 ·rw [if_pos d];exact ⟨λe=>(by cases e),λe=>absurd e.2.2.2.2.1 (fP.1 d)⟩
 rw [if_neg d];have r:=cR.1 (Bool.not_eq_false _▸d:within c.fuel 1 256=true);by_cases f:within c.lane 1 64=false
 ·rw [if_pos f];exact ⟨λe=>(by cases e),λe=>absurd e.2.2.2.2.2.1 (fP.1 f)⟩
 rw [if_neg f];have s:=cR.1 (Bool.not_eq_false _▸f:within c.lane 1 64=true);by_cases g:within c.ag 0 8=false
 ·rw [if_pos g];exact ⟨λe=>(by cases e),λe=>absurd e.2.2.2.2.2.2.1 (fP.1 g)⟩
 rw [if_neg g];have t:=cR.1 (Bool.not_eq_false _▸g:within c.ag 0 8=true);by_cases h:within c.log 0 4096=false
 ·rw [if_pos h];exact ⟨λe=>(by cases e),λe=>absurd e.2.2.2.2.2.2.2.1 (fP.1 h)⟩
 rw [if_neg h];have u:=cR.1 (Bool.not_eq_false _▸h:within c.log 0 4096=true);by_cases j:c.procs=[]
 ·rw [if_pos j];exact ⟨λe=>(by cases e),λe=>absurd j e.2.2.2.2.2.2.2.2.1⟩
 rw [if_neg j];by_cases n:32<c.procs.length
 ·rw [if_pos n];exact ⟨λe=>(by cases e),λe=>(by have:=e.2.2.2.2.2.2.2.2.2.1;omega)⟩
 rw [if_neg n,Ki];grind
theorem XU {m:Int} {c:aI} (A:m=0↔za c.labels):Typed c/\(qX m c).1=0↔Bi c:=by
 rw [j4,A];have h:∀ {o:Type} {V:o->Prop} {l:List o},fp (λ_ x=>V x) [] l↔∀x∈l,V x:=Ef _ _;constructor
 ·rintro ⟨⟨t1,t2⟩,⟨B,J,C⟩,a1,a2,a3,a4,a5,a6,a7,r,D,q⟩;have K:0<c.labels.length:=List.length_pos_iff.2 B;have L:0<c.table.length:=List.length_pos_iff.2 a1;have M:0<c.procs.length:=List.length_pos_iff.2 r;refine ⟨⟨⟨by omega,by omega⟩,gR.2 (by omega)⟩,(DA _ _).2 ⟨t1,C,λx a=>by cases a⟩,⟨⟨by omega,by omega⟩,gR.2 (by omega)⟩,
   h.2 λx a=>⟨⟨(a3 x a).1,by grind⟩,dF.2 (a3 x a)⟩,⟨⟨by omega,by omega⟩,dF.2 a4⟩,⟨⟨by omega,by omega⟩,dF.2 a5⟩,
   ⟨⟨by omega,by omega⟩,dF.2 a6⟩,⟨⟨by omega,by omega⟩,dF.2 a7⟩,⟨⟨by omega,by omega⟩,gR.2 (by omega)⟩,h.2 λp hp=> ?_,trivial⟩
  obtain ⟨d,i⟩:=q p hp;obtain ⟨j,b⟩:=(xx a6).1 i;refine ⟨⟨d.1,by omega⟩,dF.2 d,j,λx a=>⟨?_,b x a⟩⟩;obtain ⟨k,n,E,F⟩:=UY (b x a);exact ⟨by omega,by omega,by omega,by omega,t2 p hp x a⟩
 ·rintro ⟨⟨_,d⟩,i,⟨_,j⟩,b,⟨_,s⟩,⟨_,t⟩,⟨_,g⟩,⟨_,u⟩,⟨_,v⟩,f,_⟩;obtain ⟨k,n,_⟩:=(DA _ _).1 i;have b:=h.1 b;have f:=h.1 f;have g:=dF.1 g;have G:=gR.1 d;have H:=gR.1 j;have I:=gR.1 v;refine ⟨⟨k,λp hp x a=>((f p hp).2.2.2 x a).1.2.2.2.2⟩,⟨λe=> ?_,by omega,n⟩,λe=> ?_,by omega,λx a=>dF.1 (b x a).2,dF.1 s,dF.1 t,g,dF.1 u,λe=> ?_,by omega,λp hp=> ?_⟩
  ·grind
  ·grind
  ·grind
  ·obtain ⟨_,w,y,z⟩:=f p hp;exact ⟨dF.1 w,(xx g).2 ⟨y,λx a=>(z x a).2⟩⟩
end Lf
namespace Lf
open D (fp)
theorem vF :∀(n:Nat) (l:List Int),l.Nodup->(∀x∈l,0<=x/\x<n)->l.length<=n
 | 0,l,_,h=>by
  cases l with
  | nil=>simp
  | cons x r=>have:=h x (List.mem_cons_self ..);omega
 | n+1,l,b,h=>by
  by_cases f:(n:Int)∈l
  ·have:=vF n (l.erase (n:Int)) (b.erase _) λx a=>by
    have c:=h x (List.mem_of_mem_erase a);have d:x≠(n:Int):=λe=>by rw [e] at a;exact (b.not_mem_erase) a
    omega
   grind
  ·have:=vF n l b λx a=>by grind
   omega
section
variable {c:aI} {s:gN} {fl:Nat->Int->Prop}
end
end Lf
namespace Lf
open Go Go.Proofs Go.RowKit
theorem SK {P:Program} {g:FuncId} {args:List Value} {sh:Shape} {K:sh.T->Hp->Prop} {h:Hp} {x:sh.T} (c:∀w,Sub h w->Calls P g args.toArray w λe b=>e=.returned (sh.enc x)/\b=w) (d:K x h):ae P g args sh K h:=by intro w a;refine (c w a).mono ?_;rintro e b ⟨rfl,rfl⟩;exact ⟨_,h,rfl,⟨x,rfl,d⟩,⟨a,Nat.le_refl _,λi j f=>⟨rfl,f⟩,rfl,rfl,rfl⟩⟩
def qa (s:ByteArray) (c:UInt8):Bool:=decide (0<=Lib.indexByte s.data.toList c)
theorem Pq {s:ByteArray} {c:UInt8} {K:Bool->Hp->Prop} {h:Hp} (a:K (qa s c) h):ae Tryz.prog ztj [.string s,.string ⟨#[c]⟩] bB K h:=by refine SK (x:=qa s c) (λw _=> ?_) a;exact Tryz.strings_Contains_one s c w
def ba (x:aL):cp:=⟨x.Op,x.A,x.B,x.C,x.jm⟩
def fw :List (List UInt8):=[[],[97,105],[97,98],[97,98,99],[97,98,99],[97,98,99],[97,98,99],[97,98,99],[97,98,99],[97,98,99],[97,98,99],[97,98,99],[97,98,99],[97,98,99],[97,98,99],[97,98,99],[97,98,99],[97,98,99],[97,98,99],[97,98,99],[97,98],[97,98],[105],[97,105],[97,98,99],[97,98],[97,98],[97],[97],[105],[105],[97],[97],[97]]
def tM (op:Int):ByteArray:=if 0<=op/\op<34 then ⟨(fw.getD op.toNat []).toArray⟩ else ⟨#[]⟩
theorem Pt :∀n,n<34->(decide (0<=Lib.indexByte (fw.getD n []) 97),decide (0<=Lib.indexByte (fw.getD n []) 98),decide (0<=Lib.indexByte (fw.getD n []) 99),decide (0<=Lib.indexByte (fw.getD n []) 105))=gQ (n:Int):=by decide
theorem SL (op:Int):(qa (tM op) 97,qa (tM op) 98,qa (tM op) 99,qa (tM op) 105)=gQ op:=by
 by_cases h:0<=op/\op<34
 ·have e:=Pt op.toNat (by omega);rw [Int.toNat_of_nonneg h.1] at e;rw [<-e];simp [qa,tM,h]
 ·have a:tM op=⟨#[]⟩:=if_neg h;rw [a];have b:gQ op=(false,false,false,false):=by unfold gQ;grind
  rw [b];decide
theorem ZE :∀n,n<34->fw[n]? =some (fw.getD n []):=by decide
theorem aci {a:Type} (l:List a) (i:Nat):List.get?Internal l i=l[i]?:=by simp
theorem abJ {op:Int} {Q:ByteArray->Hp->Prop} {h:Hp} (c:Q (tM op) h):zxc Tryz.prog op Q h:=by
 unfold zxc;refine aU ?_;by_cases a:0<=op/\op<34
 ·rw [if_neg (by simp;omega)];refine ⟨a,tM op,?_,c⟩;have e:tM op=⟨(fw.getD op.toNat []).toArray⟩:=if_pos a;rw [aci,e];have d:=ZE op.toNat (by omega);rw [Nat.mul_one];have b:(fw.map λl=>Value.string ⟨l.toArray⟩)[op.toNat]? =some (Value.string ⟨(fw.getD op.toNat []).toArray⟩):=by grind
  exact b
 ·rw [if_pos (by simp;omega)];have e:tM op=⟨#[]⟩:=if_neg a;grind
theorem sN {P:Program} {g:FuncId} {first captured:Array Value} {args:List Value} {sh:Shape} {K:sh.T->Hp->Prop} {h:Hp} (b:tb.call g=true) (a:ae P g (first.toList++args++captured.toList) sh K h):fX P tb (.func (.func g) first captured) args sh K h:=
 ⟨g,first,captured,rfl,b,a⟩
theorem Je {op:Int} {Q:Bool->Bool->Bool->Bool->Hp->Prop} {h:Hp} (l:∀d,h<=d->Q (gQ op).1 (gQ op).2.1 (gQ op).2.2.1 (gQ op).2.2.2 d):zxa Tryz.prog op Q h:=by
 unfold zxa;refine VL (abJ ?_);intro b t j;refine qE (b:=b) (off:=0) (cs:=[.string ⟨#[]⟩]) ⟨t,lZ⟩ (by simp) λa i hb=> ?_;have k:h<=a:=(((Mv.new j).trans i).le (Hp.le_refl h) (by simp)).1;have g:aV a ⟨b,0,none⟩ [.string (tM op)]:=hb.bI (n:=1) (by rfl);have one:∀(c:UInt8) (K:Bool->Hp->Prop),K (qa (tM op) c) a->fX Tryz.prog tb (.func (.func Hz) #[] #[.pointer (some ⟨b,0,none⟩)]) [.string ⟨#[c]⟩] bB K a:=λc K f=>by refine sN rfl (Sk ?_);unfold HC;refine bt (sh:=lY) (tM op) g ?_;exact Pq f
 have e:=SL op;grind
theorem C3 {P:Program} {has:Bool} {n:Int} {Q:Int->Hp->Prop} {h:Hp} (b:Q (cS has n) h):YK P has n Q h:=by
 unfold YK;refine aU ?_;unfold cS at b;by_cases a:has=false/\n≠0
 ·grind
 ·rw [if_neg a] at b;rw [if_neg (by cases has<;>simp at a ⊢;exact a)];refine aU ?_;grind
theorem U0 {P:Program} {x:aL} {has:Bool} {n ag:Int} {Q:Int->Hp->Prop} {h:Hp}
  (c:Q (if has=false/\x.jm≠0 then 11 else if (x.Op=22\/x.Op=23)/\(x.jm<0\/n<x.jm) then 12 else if (x.Op=29\/x.Op=30)/\(x.jm<0\/ag<=x.jm) then 13 else 0) h):zxb P x has n ag Q h:=by
 unfold zxb;refine aU ?_;by_cases a:has=false/\x.jm≠0
 ·grind
 ·rw [if_neg a] at c;rw [if_neg (by cases has<;>simp at a ⊢;exact a)];refine aU ?_;by_cases b:x.Op=22\/x.Op=23
  ·rw [if_pos (by simp;exact b)];refine aU ?_;grind
  ·rw [if_neg (λe=>b e.1)] at c;rw [if_neg (by simp;omega)];refine aU ?_;by_cases d:x.Op=29\/x.Op=30
   ·rw [if_pos (by simp;exact d)];refine aU ?_;grind
   grind
theorem XV {x:aL} {n ag:Int} {Q:Int->Int->Hp->Prop} {h:Hp} (a:∀b at_,h<=b->((gG (ba x) n ag).1≠0->at_=(gG (ba x) n ag).2)->Q (gG (ba x) n ag).1 at_ b):Ci Tryz.prog x n ag Q h:=by
 unfold Ci;refine aU ?_;have le:=Hp.le_refl h;rw [show gG (ba x) n ag=(if x.Op<0\/34<=x.Op then (9,0)
  else if cS (gQ x.Op).1 x.A≠0 then (cS (gQ x.Op).1 x.A,1)
  else if cS (gQ x.Op).2.1 x.B≠0 then (cS (gQ x.Op).2.1 x.B,2)
  else if cS (gQ x.Op).2.2.1 x.C≠0 then (cS (gQ x.Op).2.2.1 x.C,3)
  else if (gQ x.Op).2.2.2=false/\x.jm≠0 then (11,4)
  else if (x.Op=22\/x.Op=23)/\(x.jm<0\/n<x.jm) then (12,4)
  else if (x.Op=29\/x.Op=30)/\(x.jm<0\/ag<=x.jm) then (13,4)
  else (0,0)) from rfl] at a
 by_cases c:x.Op<0\/34<=x.Op
 ·grind
 ·rw [if_neg c] at a;rw [if_neg (by simp;omega)];refine zzd (Je λc g=> ?_);dsimp only;refine VO (C3 ?_);by_cases d:cS (gQ x.Op).1 x.A≠0
  ·grind
  ·rw [if_neg d] at a;rw [if_neg (by simpa using d)];refine VO (C3 ?_);by_cases e:cS (gQ x.Op).2.1 x.B≠0
   ·grind
   ·rw [if_neg e] at a;rw [if_neg (by simpa using e)];refine VO (C3 ?_);by_cases f:cS (gQ x.Op).2.2.1 x.C≠0
    ·grind
    ·rw [if_neg f] at a;rw [if_neg (by simpa using f)];refine VJ (U0 ?_);grind
theorem EY {x:aL} {n ag:Int} {Q:Int->Hp->Prop} {h:Hp} (b:∀a,h<=a->Q (gG (ba x) n ag).1 a):Cf Tryz.prog x n ag Q h:=by unfold Cf;exact XM (XV λa _ l _=>b a l)
abbrev nF (h:Hp) (l:Sl) (a:List aL):Prop:=Rs h aM 5 l a
theorem SN {l:Sl} {a:List aL} {ag:Int} {Q:Int->Int->Hp->Prop} {h:Hp} (r:nF h l a) (b:∀g,h<=g->Q (iK (a.map ba) ag).1 (iK (a.map ba) ag).2 g):Di Tryz.prog l ag Q h:=by
 unfold Di;have q:=r.1;refine aU ?_;unfold iK at b;by_cases j:ag<0\/8<ag
 ·rw [if_pos j] at b;rw [if_pos (by simp;omega)];exact b h (Hp.le_refl h)
 ·rw [if_neg j,List.length_map] at b;rw [if_neg (by simp;omega)];by_cases m:256<a.length
  ·rw [if_pos m] at b;rw [if_pos (by simp;omega)];exact b h (Hp.le_refl h)
  ·rw [if_neg m] at b;rw [if_neg (by simp;omega)];refine aC.intro (λi k=>h<=k/\0<=i/\i<=(a.length:Int)/\jo a.length ag ((a.drop i.toNat).map ba) i=jo a.length ag (a.map ba) 0) (λi _=>(a.length-i).toNat) ⟨Hp.le_refl h,by omega,by omega,rfl⟩ ?_;rintro i k ⟨e,o,w,c⟩;by_cases p:i<(a.length:Int)
   ·rw [if_pos (decide_eq_true (by omega))];refine Rs.get (sh:=aM) (Rw.mono e r) (λ_=>rfl) (by omega) o p λx t=> ?_;refine Y5 (EY λv n=> ?_);have f:a.drop i.toNat=x::a.drop (i.toNat+1):=by obtain ⟨y,u⟩:=List.getElem?_eq_some_iff.1 t;rw [<-u];simp
    rw [f,List.map_cons,jo] at c;rw [q];by_cases d:(gG (ba x) a.length ag).1≠0
    ·rw [if_pos d] at c;rw [if_pos (by simpa using d)];rw [<-c] at b;exact b v (Hp.le_trans e n)
    ·rw [if_neg d] at c;rw [if_neg (by simpa using d)];have s:yw (i+1)=i+1:=wrap64 (by omega) (by omega);rw [s];refine ⟨⟨Hp.le_trans e n,by omega,by omega,?_⟩,by omega⟩;grind
   ·rw [if_neg (by simp;omega)];have f:a.drop i.toNat=[]:=List.drop_eq_nil_of_le (by omega);rw [f] at c;rw [<-c] at b;exact b k e
end Lf
