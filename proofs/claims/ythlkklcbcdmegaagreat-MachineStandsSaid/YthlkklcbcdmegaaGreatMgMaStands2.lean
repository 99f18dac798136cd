/-
  Part 3 of the texts that the claim leans on.
-/
import Derived.Test.YthlkklcbcdmegaaGreatRows
import Derived.Laws.Externs
import Derived.Shelf.Strings.Search1
import Derived.Shelf.Strings.Search2
import Derived.Shelf.Strings.Search3
import Derived.Shelf.LaysM
import Derived.Test.YthlkklcbcdmegaaGreatProg
import Derived.Test.YthlkklcbcdmegaaGreatMgMaStands1
set_option maxRecDepth 100000
set_option linter.unusedVariables false
namespace Lf
open Go
abbrev yI(x:Int):Value:=.int .i64 x
abbrev yP(x:Option Addr):Value:=.pointer x
abbrev yN:Value:=.slice none 0 0
abbrev yH:Shape:=shInt .i64
abbrev yLi(h:Hp)(p:Addr)(n:Nat)(K:Int->Prop):Prop:=LdW none (shInt .i64) h (Addr.add p n) K
abbrev yLs(h:Hp)(p:Addr)(n:Nat)(K:Sl->Prop):Prop:=LdW none shSl h (Addr.add p n) K
abbrev yLp(h:Hp)(p:Addr)(n:Nat)(K:Option Addr->Prop):Prop:=LdW none shPtr h (Addr.add p n) K
def zdd (P:Program) (c:S_api_Config) (script:Sl) (at_:Int) (Q:(Bool->(Hp->Prop))) (h:Hp):Prop:=
 CallT P zmf [] zad (fun r h1=>
 (if (!r)=true then
 Q false h1
 else
 Call2 P zpb [c.v] shPtr yH (fun r1 r2 h2=>
 (if (r2 !=0)=true then
 Call2 P zja [c.v] shPtr yH (fun r3 r4 h3=>
 LetW ((Option.isNone r1)&&(r2==r4)) fun y=>
 Q y h3) h2
 else
 (if (Option.isNone r1)=true then
 Q false h2
 else
 LoopW2 (α1:=Option Addr) (α2:=Int) (fun again n i h3=>
 (if decide (i<(script.len:Int)) then
 CallT P zau [(yP r1)] zba (fun r3 h4=>
 CallT P zlf [c.v,r3.v] yH (fun r4 h5=>
 (if (r4 !=0)=true then
 Q false h5
 else
 JoinW1 (α1:=Option Addr) (fun k=>
 LetW ((Option.isNone n)&&(i==5)) fun y=>
 LetW ((i==at_) || y) fun y1=>
 (if y1 then
 Call2 P zug [c.v,r3.v] shPtr yH (fun r5 r6 h6=>
 LetW ((Option.isNone r5) || (r6 !=0)) fun y2=>
 (if y2 then
 Q false h6
 else
 k r5 h6)) h5
 else
 k n h5))
 (fun n1 h6=>
 ((InB script.base script.len i)/\LdW none sh_firebreaklaw15_Op h6 (sat script.base 3 i) fun x=>
 JoinW0 (fun k=>
 (if (x.Kind==1)=true then
 LoopW1 (α1:=Int) (fun again1 k1 h7=>
 CallT P zmg [(yI x.N)] yH (fun r5 h8=>
 (if decide (k1<r5) then
 CallT P zbn [(yP r1)] yH (fun r6 h9=>
 EffC (some (!(Option.isNone n1))) (CallT P zbn [(yP n1)] yH) (fun r7 h10=>
 LetW ((!(Option.isNone n1))&&(r7 !=r6)) fun y=>
 (if y then
 Q false h10
 else
 again1 (IntKind.wrap .i64 (k1+1)) h10)) h9) h8
 else
 k h8)) h7) 0 h6
 else
 (if (x.Kind==2)=true then
 CallT P zbj [(yP r1),(yI x.N),(yI x.V)] yH (fun r5 h7=>
 EffC (some (!(Option.isNone n1))) (CallT P zbj [(yP n1),(yI x.N),(yI x.V)] yH) (fun r6 h8=>
 LetW ((!(Option.isNone n1))&&(r6 !=r5)) fun y=>
 (if y then
 Q false h8
 else
 k h8)) h7) h6
 else
 (if (x.Kind==3)=true then
 CallT P zcn [(yP r1),(yI x.N)] yH (fun r5 h7=>
 EffC (some (!(Option.isNone n1))) (CallT P zcn [(yP n1),(yI x.N)] yH) (fun r6 h8=>
 LetW ((!(Option.isNone n1))&&(r6 !=r5)) fun y=>
 (if y then
 Q false h8
 else
 k h8)) h7) h6
 else
 k h6))))
 (fun h7=>
 EffC (some (!(Option.isNone n1))) (CallT P zau [(yP r1)] zba) (fun r5 h8=>
 EffC (some (!(Option.isNone n1))) (CallT P zau [(yP n1)] zba) (fun r6 h9=>
 EffC (some (!(Option.isNone n1))) (CallT P zhv [r5.v,r6.v] zad) (fun r7 h10=>
 LetW ((!(Option.isNone n1))&&(!r7)) fun y=>
 (if y then
 Q false h10
 else
 again n1 (IntKind.wrap .i64 (i+1)) h10)) h9) h8) h7))))) h4) h3
 else
 CallT P zau [(yP r1)] zba (fun r3 h4=>
 ((True/\True)/\CallT P zlf [c.v,r3.v] yH (fun r4 h5=>
 Q (r4==0) h5) h4)) h3)) none 0 h2))) h1)) h
def zdy (P:Program)  (Q:(Bool->(Hp->Prop))) (h:Hp):Prop:=
 CallT P zko [] sh_api_Config (fun r h1=>
 Call2 P zpb [r.v] shPtr yH (fun r1 r2 h2=>
 LetW ((Option.isNone r1) || (r2 !=0)) fun y=>
 (if y then
 Q false h2
 else
 LoopW2 (α1:=Int) (α2:=Int) (fun again owners i h3=>
 (if decide (i<4) then
 CallT P zbn [(yP r1)] yH (fun r3 h4=>
 again (IntKind.wrap .i64 ((IntKind.wrap .i64 (2*owners))+r3)) (IntKind.wrap .i64 (i+1)) h4) h3
 else
 CallT P zau [(yP r1)] zba (fun r3 h4=>
 LetW ((owners !=5) || (r3.Tick !=4)) fun y1=>
 LetW (y1 || ((r3.Parts.len:Int) !=2)) fun y2=>
 LetW (y2 || ((r3.Procs.len:Int) !=2)) fun y3=>
 (((!y3)=true->(InB r3.Parts.base r3.Parts.len 1))/\LdW (some (!y3)) shSl h4 (Addr.add (sat r3.Parts.base 6 1) 1) fun x=>
 LetW (y3 || ((x.len:Int) !=1)) fun y4=>
 (if y4 then
 Q false h4
 else
 ((InB r3.Parts.base r3.Parts.len 1)/\LdW none shSl h4 (Addr.add (sat r3.Parts.base 6 1) 1) fun x1=>
 ((InB x1.base x1.len 0)/\LdW none sh_api_Entry h4 (sat x1.base 3 0) fun x2=>
 SemV none P (binS .eql 68 (.tmp 62) (.tmp 63) x2.v (.agg #[(yI 3),(yI 1),(yI 5)])) zad h4 fun x3=>
 ((x3=true->(InB r3.Procs.base r3.Procs.len 0))/\LdW (some x3) yH h4 (Addr.add (sat r3.Procs.base 15 0) 0) fun x4=>
 LetW (x3&&(x4==5)) fun y5=>
 EffC (some y5) (CallT P zbj [(yP r1),(yI 5),(yI 1)] yH) (fun r4 h5=>
 LetW (y5&&(r4==17)) fun y6=>
 Q y6 h5) h4)))))) h3)) 0 0 h2)) h1) h
def zou (P:Program) (c:S_api_Config) (Q:(Option Addr->(Int->(Hp->Prop)))) (h:Hp):Prop:=
 Call2 P zjb [c.v] yH yH (fun r r1 h1=>
 (if (r !=0)=true then
 Q none r h1
 else
 LoopW2 (α1:=Int) (α2:=S_api_State) (fun again i s h2=>
 (if decide (i<(c.Labels.len:Int)) then
 LoopW2 (α1:=Int) (α2:=S_api_Part) (fun again1 k p h3=>
 (if decide (k<c.Locks) then
 NewW [(yI (-1))] (fun a h4=>
 zao 1 8 [(yI 0)] ⟨p.Owners.base,p.Owners.len,p.Owners.cap⟩ ⟨(some a),1,1⟩ (fun r2 h5=>
 NewW [yN] (fun a1 h6=>
 zao 1 24 [yN] ⟨p.Queues.base,p.Queues.len,p.Queues.cap⟩ ⟨(some a1),1,1⟩ (fun r3 h7=>
 again1 (IntKind.wrap .i64 (k+1)) ⟨p.Cursor,p.Log,p.Lost,p.Forbidden,r2,r3⟩ h7) h6) h5) h4) h3
 else
 NewW [(yI p.Cursor),p.Log.v,(yI p.Lost),(yI p.Forbidden),p.Owners.v,p.Queues.v] (fun a h4=>
 zao 6 96 [(yI 0),yN,(yI 0),(yI 0),yN,yN] ⟨s.Parts.base,s.Parts.len,s.Parts.cap⟩ ⟨(some a),1,1⟩ (fun r2 h5=>
 again (IntKind.wrap .i64 (i+1)) ⟨s.Tick,r2,s.Procs⟩ h5) h4) h3)) 0 ⟨0,⟨none,0,0⟩,0,0,⟨none,0,0⟩,⟨none,0,0⟩⟩ h2
 else
 LoopW2 (α1:=Int) (α2:=S_api_State) (fun again1 i1 s1 h3=>
 (if decide (i1<(c.Procs.len:Int)) then
 MakeW 64 [yN,yN,(yI 0),(yI 0)] (IntKind.wrap .i64 ((c.Labels.len:Int)+1)) (IntKind.wrap .i64 ((c.Labels.len:Int)+1)) (fun r2 h4=>
 ((True/\True)/\NewW [(yI 0),(yI 0),(yI 0),(yI 0),(yI 0),(yI 0),(yI 0),(yI 0),(yI 0),(yI 0),(yI 0),(yI 0),(.bool false),(yI 0),r2.v] (fun a h5=>
 ((True/\True)/\zao 15 136 [(yI 0),(yI 0),(yI 0),(yI 0),(yI 0),(yI 0),(yI 0),(yI 0),(yI 0),(yI 0),(yI 0),(yI 0),(.bool false),(yI 0),yN] ⟨s1.Procs.base,s1.Procs.len,s1.Procs.cap⟩ ⟨(some a),1,1⟩ (fun r3 h6=>
 again1 (IntKind.wrap .i64 (i1+1)) ⟨s1.Tick,s1.Parts,r3⟩ h6) h5)) h4)) h3
 else
 NewW [c.Labels.v,c.Table.v,(yI c.Fuel),(yI c.Lane),(yI c.Locks),(yI c.Log),c.Procs.v,(yI s1.Tick),s1.Parts.v,s1.Procs.v] (fun a h4=>
 Q (some a) 0 h4) h3)) 0 s h2)) 0 ⟨0,⟨none,0,0⟩,⟨none,0,0⟩⟩ h1)) h
def zum (P:Program) (c:S_api_Config) (Q:(Option Addr->(Int->(Hp->Prop)))) (h:Hp):Prop:=
 Call2 P zzu [c.v] yH yH (fun r r1 h1=>
 (if (r !=0)=true then
 Q none r h1
 else
 CallT P zxy [c.v] zba (fun r2 h2=>
 ((True/\True)/\CallT P zrj [c.v,r2.v] shPtr (fun r3 h3=>
 Q r3 0 h3) h2)) h1)) h
def zck (P:Program) (m:Option Addr) (Q:(S_api_State->(Hp->Prop))) (h:Hp):Prop:=
 NilW none m fun p=>
 yLi h p 9 fun x=>
 NilW none m fun p1=>
 yLs h p1 10 fun x1=>
 LoopW2 (α1:=Int) (α2:=S_api_State) (fun again t26 s h1=>
 (if decide (t26<(x1.len:Int)) then
 ((InB x1.base x1.len t26)/\LdW none shPtr h1 (sat x1.base 1 t26) fun x2=>
 NilW none x2 fun p2=>
 yLp h1 p2 5 fun x3=>
 Call2 P zfm [(yP x3)] shSl shSl (fun r r1 h2=>
 NilW none x2 fun p3=>
 yLi h2 p3 1 fun x4=>
 NilW none x2 fun p4=>
 yLs h2 p4 2 fun x5=>
 NilW none x2 fun p5=>
 yLi h2 p5 3 fun x6=>
 NilW none x2 fun p6=>
 yLi h2 p6 4 fun x7=>
 CallT P zat [x5.v] shSl (fun r2 h3=>
 ((True/\((LdIs h3 (Addr.add p3 1) [(yI x4)])/\((LdIs h3 (Addr.add p5 3) [(yI x6)])/\((LdIs h3 (Addr.add p6 4) [(yI x7)])/\True))))/\NewW [(yI x4),r2.v,(yI x6),(yI x7),r.v,r1.v] (fun a h4=>
 ((True/\True)/\zao 6 96 [(yI 0),yN,(yI 0),(yI 0),yN,yN] ⟨s.Parts.base,s.Parts.len,s.Parts.cap⟩ ⟨(some a),1,1⟩ (fun r3 h5=>
 again (IntKind.wrap .i64 (t26+1)) ⟨s.Tick,r3,s.Procs⟩ h5) h4)) h3)) h2) h1)
 else
 NilW none m fun p2=>
 yLs h1 p2 11 fun x2=>
 LoopW2 (α1:=Int) (α2:=S_api_State) (fun again1 t69 s1 h2=>
 (if decide (t69<(x2.len:Int)) then
 ((InB x2.base x2.len t69)/\LdW none shPtr h2 (sat x2.base 1 t69) fun x3=>
 NilW none x3 fun p3=>
 yLp h2 p3 14 fun x4=>
 Call2 P zip [(yP x4)] shSl yH (fun r r1 h3=>
 NilW none m fun p4=>
 yLs h3 p4 10 fun x5=>
 NilW none x3 fun p5=>
 yLi h3 p5 1 fun x6=>
 ((InB x5.base x5.len x6)/\LdW none shPtr h3 (sat x5.base 1 x6) fun x7=>
 NilW none x7 fun p6=>
 yLp h3 p6 6 fun x8=>
 CallT P zbs [(yI t69)] yH (fun r2 h4=>
 (((LdIs h4 (Addr.add p4 10) [x5.v])/\((LdIs h4 (Addr.add p5 1) [(yI x6)])/\((LdIs h4 (sat x5.base 1 x6) [(yP x7)])/\((LdIs h4 (Addr.add p6 6) [(yP x8)])/\True))))/\Call2 P zdr [(yP x8),(yI r2)] yH zad (fun r3 r4 h5=>
 NilW none m fun p7=>
 yLs h5 p7 10 fun x9=>
 NilW none x3 fun p8=>
 yLi h5 p8 1 fun x10=>
 ((InB x9.base x9.len x10)/\LdW none shPtr h5 (sat x9.base 1 x10) fun x11=>
 NilW none x11 fun p9=>
 yLp h5 p9 6 fun x12=>
 CallT P zcj [(yI t69)] yH (fun r5 h6=>
 (((LdIs h6 (Addr.add p7 10) [x9.v])/\((LdIs h6 (Addr.add p8 1) [(yI x10)])/\((LdIs h6 (sat x9.base 1 x10) [(yP x11)])/\((LdIs h6 (Addr.add p9 6) [(yP x12)])/\True))))/\Call2 P zdr [(yP x12),(yI r5)] yH zad (fun r6 r7 h7=>
 NilW none x3 fun p10=>
 yLi h7 p10 3 fun x13=>
 NilW none x3 fun p11=>
 LdW none yH h7 (Addr.add (Addr.add p11 4) 0) fun x14=>
 NilW none x3 fun p12=>
 LdW none zeo h7 (Addr.add (Addr.add p12 4) 1) fun x15=>
 NilW none x3 fun p13=>
 LdW none zad h7 (Addr.add p13 13) fun x16=>
 NewW [(yI x13),(yI x14),(yI x15.a0),(yI x15.a1),(yI x15.a2),(yI x15.a3),(yI x15.a4),(yI x15.a5),(yI x15.a6),(yI x15.a7),(yI r1),(yI r3),(.bool x16),(yI r6),r.v] (fun a h8=>
 ((True/\True)/\zao 15 136 [(yI 0),(yI 0),(yI 0),(yI 0),(yI 0),(yI 0),(yI 0),(yI 0),(yI 0),(yI 0),(yI 0),(yI 0),(.bool false),(yI 0),yN] ⟨s1.Procs.base,s1.Procs.len,s1.Procs.cap⟩ ⟨(some a),1,1⟩ (fun r8 h9=>
 again1 (IntKind.wrap .i64 (t69+1)) ⟨s1.Tick,s1.Parts,r8⟩ h9) h8)) h7) h6)) h5)) h4)) h3)) h2)
 else
 Q s1 h2)) 0 s h1)) 0 ⟨x,⟨none,0,0⟩,⟨none,0,0⟩⟩ h
def zpd (P:Program) (c:S_api_Config) (s:S_api_State) (Q:(Int->(Hp->Prop))) (h:Hp):Prop:=
 Call2 P zzu [c.v] yH yH (fun r r1 h1=>
 (if (r !=0)=true then
 Q r h1
 else
 Call3 P zuh [c.Labels.v] shPtr yH yH (fun r2 r3 r4 h2=>
 LetW ((decide (s.Tick<0)) || (decide (s.Tick>4611686018427387904))) fun y=>
 LetW (y || ((s.Parts.len:Int) !=(c.Labels.len:Int))) fun y1=>
 LetW (y1 || ((s.Procs.len:Int) !=(c.Procs.len:Int))) fun y2=>
 (if y2 then
 Q 4 h2
 else
 LoopW1 (α1:=Int) (fun again t61 h3=>
 (if decide (t61<(s.Parts.len:Int)) then
 CallT P zor [(.agg #[c.Labels.v,c.Table.v,(yI c.Fuel),(yI c.Lane),(yI c.Locks),(yI c.Log),c.Procs.v,(yI s.Tick),s.Parts.v,s.Procs.v,(yP r2)]),(yI t61)] zad (fun r5 h4=>
 (if (!r5)=true then
 Q 4 h4
 else
 again (IntKind.wrap .i64 (t61+1)) h4)) h3
 else
 LoopW1 (α1:=Int) (fun again1 t72 h4=>
 (if decide (t72<(s.Procs.len:Int)) then
 CallT P zos [(.agg #[c.Labels.v,c.Table.v,(yI c.Fuel),(yI c.Lane),(yI c.Locks),(yI c.Log),c.Procs.v,(yI s.Tick),s.Parts.v,s.Procs.v,(yP r2)]),(yI t72)] zad (fun r5 h5=>
 (if (!r5)=true then
 Q 4 h5
 else
 again1 (IntKind.wrap .i64 (t72+1)) h5)) h4
 else
 CallT P znp [(.agg #[c.Labels.v,c.Table.v,(yI c.Fuel),(yI c.Lane),(yI c.Locks),(yI c.Log),c.Procs.v,(yI s.Tick),s.Parts.v,s.Procs.v,(yP r2)])] zad (fun r5 h5=>
 (if (!r5)=true then
 Q 4 h5
 else
 Q 0 h5)) h4)) 0 h3)) 0 h2)) h1)) h
def zun (P:Program) (c:S_api_Config) (s:S_api_State) (Q:(Option Addr->(Int->(Hp->Prop)))) (h:Hp):Prop:=
 CallT P zlf [c.v,s.v] yH (fun r h1=>
 (if (r !=0)=true then
 Q none r h1
 else
 CallT P zrj [c.v,s.v] shPtr (fun r1 h2=>
 Q r1 0 h2) h1)) h
def zgv (P:Program) (n:Int) (Q:(Int->(Hp->Prop))) (h:Hp):Prop:=
 ((50:Int)≠(0:Int)/\(if (decide ((Int.tmod n (50:Int))<(0:Int)))=true then
 Q (IntKind.wrap .i64 ((0:Int)-(Int.tmod n (50:Int)))) h
 else
 Q (Int.tmod n (50:Int)) h))
def zcq (P:Program) (m:Option Addr) (Q:(Int->(Hp->Prop))) (h:Hp):Prop:=
 NilW none m fun p=>
 yLp h p 8 fun x=>
 NilW none m fun p1=>
 yLi h p1 9 fun x1=>
 CallT P zpt [(yP x),(yI x1)] yH (fun r h1=>
 NilW none m fun p2=>
 yLs h1 p2 10 fun x2=>
 ((InB x2.base x2.len r)/\LdW none shPtr h1 (sat x2.base 1 r) fun x3=>
 Call0 P zhw [(yP m),(yP x3)] (fun h2=>
 NilW none m fun p3=>
 LdW none yH h2 (Addr.add (Addr.add p3 0) 2) fun x4=>
 JoinW0 (fun k=>
 LoopW1 (α1:=Int) (fun again t32 h3=>
 (if decide (t32<x4) then
 NilW none x3 fun p4=>
 yLs h3 p4 0 fun x5=>
 LoopW1 (α1:=Int) (fun again1 t39 h4=>
 (if decide (t39<(x5.len:Int)) then
 NilW none x3 fun p5=>
 yLi h4 p5 1 fun x6=>
 NilW none x3 fun p6=>
 yLs h4 p6 0 fun x7=>
 ((x7.len:Int)≠0/\NilW none m fun p7=>
 yLs h4 p7 11 fun x8=>
 NilW none x3 fun p8=>
 yLs h4 p8 0 fun x9=>
 ((InB x9.base x9.len (Int.tmod (IntKind.wrap .i64 (x6+t39)) (x7.len:Int)))/\LdW none yH h4 (sat x9.base 1 (Int.tmod (IntKind.wrap .i64 (x6+t39)) (x7.len:Int))) fun x10=>
 ((InB x8.base x8.len x10)/\LdW none shPtr h4 (sat x8.base 1 x10) fun x11=>
 NilW none x11 fun p9=>
 yLi h4 p9 3 fun x12=>
 (if (x12==0)=true then
 NilW none x3 fun p10=>
 yLs h4 p10 0 fun x13=>
 ((x13.len:Int)≠0/\NilW none x3 fun p11=>
 StW h4 (Addr.add p11 1) [(yI (Int.tmod (IntKind.wrap .i64 ((Int.tmod (IntKind.wrap .i64 (x6+t39)) (x7.len:Int))+1)) (x13.len:Int)))] (fun h5=>
 Call0 P zgs [(yP m),(yP x11)] (fun h6=>
 again (IntKind.wrap .i64 (t32+1)) h6) h5))
 else
 again1 (IntKind.wrap .i64 (t39+1)) h4))))
 else
 k h4)) 0 h3
 else
 k h3)) 0 h2)
 (fun h3=>
 NilW none m fun p4=>
 yLi h3 p4 9 fun x5=>
 NilW none m fun p5=>
 StW h3 (Addr.add p5 9) [(yI (IntKind.wrap .i64 (x5+1)))] (fun h4=>
 Q r h4))) h1)) h
def zca (P:Program) (m:Option Addr) (p:Int) (v:Int) (Q:(Int->(Hp->Prop))) (h:Hp):Prop:=
 CallT P zfn [(yP m),(yI p)] yH (fun r h1=>
 (if (r !=0)=true then
 Q r h1
 else
 NilW none m fun p1=>
 yLs h1 p1 11 fun x=>
 ((InB x.base x.len p)/\LdW none shPtr h1 (sat x.base 1 p) fun x1=>
 NilW none m fun p2=>
 yLs h1 p2 10 fun x2=>
 NilW none x1 fun p3=>
 yLp h1 p3 14 fun x3=>
 CallT P zlg [(yP x3),(yI (x2.len:Int)),(yI v)] yH (fun r1 h2=>
 (if (r1 !=0)=true then
 NilW none x1 fun p4=>
 yLp h2 p4 14 fun x4=>
 Call0 P zgi [(yP x4),(yI (x2.len:Int))] (fun h3=>
 Q r1 h3) h2
 else
 Call0 P zco [(yP m),(yP x1)] (fun h3=>
 Q 0 h3) h2)) h1))) h
def zcr (P:Program) (m:Option Addr) (p:Int) (Q:(Int->(Hp->Prop))) (h:Hp):Prop:=
 CallT P zfn [(yP m),(yI p)] yH (fun r h1=>
 (if (r !=0)=true then
 Q r h1
 else
 NilW none m fun p1=>
 yLs h1 p1 11 fun x=>
 ((InB x.base x.len p)/\LdW none shPtr h1 (sat x.base 1 p) fun x1=>
 Call0 P zdv [(yP m),(yP x1),(yI 6)] (fun h2=>
 Q 0 h2) h1))) h
def zhz (P:Program) (a:S_api_State) (b:S_api_State) (Q:(Bool->(Hp->Prop))) (h:Hp):Prop:=
 LetW ((a.Tick !=b.Tick) || ((a.Parts.len:Int) !=(b.Parts.len:Int))) fun y=>
 LetW (y || ((a.Procs.len:Int) !=(b.Procs.len:Int))) fun y1=>
 (if y1 then
 Q false h
 else
 LoopW1 (α1:=Int) (fun again i h1=>
 (if decide (i<(a.Parts.len:Int)) then
 ((InB a.Parts.base a.Parts.len i)/\LdW none sh_api_Part h1 (sat a.Parts.base 6 i) fun x=>
 ((InB b.Parts.base b.Parts.len i)/\LdW none sh_api_Part h1 (sat b.Parts.base 6 i) fun x1=>
 CallT P zjo [x.v,x1.v] zad (fun r h2=>
 (if (!r)=true then
 Q false h2
 else
 again (IntKind.wrap .i64 (i+1)) h2)) h1))
 else
 LoopW1 (α1:=Int) (fun again1 i1 h2=>
 (if decide (i1<(a.Procs.len:Int)) then
 ((InB a.Procs.base a.Procs.len i1)/\LdW none sh_api_Process h2 (sat a.Procs.base 15 i1) fun x=>
 ((InB b.Procs.base b.Procs.len i1)/\LdW none sh_api_Process h2 (sat b.Procs.base 15 i1) fun x1=>
 CallT P zhh [x.v,x1.v] zad (fun r h3=>
 (if (!r)=true then
 Q false h3
 else
 again1 (IntKind.wrap .i64 (i1+1)) h3)) h2))
 else
 Q true h2)) 0 h1)) 0 h)
def zff (P:Program)  (Q:(S_api_Config->(Hp->Prop))) (h:Hp):Prop:=
 NewW [(yI 1),(yI 0),(yI 0),(yI 0),(yI 1),(yI 1),(yI 1),(yI 0),(yI 0),(yI 5),(yI 24),(yI 2),(yI 0),(yI 1),(yI 0),(yI 0),(yI 0),(yI 0),(yI 0),(yI 0)] (fun a h1=>
 NewW [(yI 25),(yI 3),(yI 4),(yI 0),(yI 0),(yI 31),(yI 3),(yI 0),(yI 0),(yI 0),(yI 0),(yI 0),(yI 0),(yI 0),(yI 0)] (fun a1 h2=>
 NewW [(.int .u64 0),(.int .u64 1)] (fun a2 h3=>
 NewW [(yI 0),(yI 1)] (fun a3 h4=>
 NewW [(yI 0),(.slice (some a) 4 4),(yI 1),(.slice (some a1) 3 3)] (fun a4 h5=>
 Q ⟨⟨(some a2),2,2⟩,⟨(some a3),2,2⟩,2,1,1,4,⟨(some a4),2,2⟩⟩ h5) h4) h3) h2) h1) h
def zje (P:Program) (c:S_api_Config) (Q:(Int->(Int->(Hp->Prop)))) (h:Hp):Prop:=
 Call2 P zjc [c.Labels.v] yH yH (fun r r1 h1=>
 (if (r !=0)=true then
 Q r 0 h1
 else
 CallT P zlh [c.Table.v,(yI (c.Labels.len:Int))] yH (fun r2 h2=>
 (if (r2 !=0)=true then
 Q r2 1 h2
 else
 CallT P zbc [(yI c.Fuel),(yI 1),(yI 256)] zad (fun r3 h3=>
 ((True/\(True/\(True/\True)))/\CallT P zbc [(yI c.Lane),(yI 1),(yI 64)] zad (fun r4 h4=>
 ((True/\(True/\True))/\CallT P zbc [(yI c.Locks),(yI 0),(yI 8)] zad (fun r5 h5=>
 ((True/\True)/\CallT P zbc [(yI c.Log),(yI 0),(yI 4096)] zad (fun r6 h6=>
 LoopW1 (α1:=Int) (fun again i h7=>
 (if decide (i<4) then
 ((0<=i/\i<4)/\∃x:Bool,((List.get?Internal (α:=Value) [(.bool r3),(.bool r4),(.bool r5),(.bool r6)] (0+((Int.toNat i)*1)))=(some (.bool x))/\(if (!x)=true then
 Q 2 (IntKind.wrap .i64 (2+i)) h7
 else
 again (IntKind.wrap .i64 (i+1)) h7)))
 else
 (if ((c.Procs.len:Int)==0)=true then
 Q 1 6 h7
 else
 (if decide ((c.Procs.len:Int)>32) then
 Q 3 6 h7
 else
 LoopW1 (α1:=Int) (fun again1 i1 h8=>
 (if decide (i1<(c.Procs.len:Int)) then
 ((InB c.Procs.base c.Procs.len i1)/\LdW none yH h8 (Addr.add (sat c.Procs.base 2 i1) 0) fun x=>
 CallT P zbc [(yI x),(yI 0),(yI (IntKind.wrap .i64 ((c.Labels.len:Int)-1)))] zad (fun r7 h9=>
 (if (!r7)=true then
 Q 2 (IntKind.wrap .i64 (7+i1)) h9
 else
 ((InB c.Procs.base c.Procs.len i1)/\LdW none shSl h9 (Addr.add (sat c.Procs.base 2 i1) 1) fun x1=>
 Call2 P zjd [x1.v,(yI c.Locks)] yH yH (fun r8 r9 h10=>
 (if (r8 !=0)=true then
 Q r8 (IntKind.wrap .i64 (7+i1)) h10
 else
 again1 (IntKind.wrap .i64 (i1+1)) h10)) h9))) h8)
 else
 Q 0 0 h8)) 0 h7)))) 0 h6) h5)) h4)) h3)) h2)) h1)) h
def zfm1 (P:Program) (c:S_api_Config) (Q:(Int->(Int->(Hp->Prop)))) (h:Hp):Prop:=
 Call2 P zui [c.Labels.v] yH yH (fun r r1 h1=>
 (if (r !=0)=true then
 Q r 0 h1
 else
 CallT P zby1 [(yI (c.Table.len:Int)),(yI 64)] yH (fun r2 h2=>
 (if (r2 !=0)=true then
 Q r2 1 h2
 else
 Call3 P zuj [c.Table.v,(yI (c.Labels.len:Int))] shPtr yH yH (fun r3 r4 r5 h3=>
 (if (r4 !=0)=true then
 Q r4 1 h3
 else
 NewW [(yI 0),(yI 0),(yI c.Fuel),(yI c.Lane),(yI c.Locks),(yI c.Log)] (fun a h4=>
 LoopW1 (α1:=Int) (fun again t57 h5=>
 (if decide (t57<6) then
 ((InB (some a) 6 t57)/\LdW none yH h5 (sat (some a) 1 t57) fun x=>
 CallT P zdx1 [(yI t57),(yI x)] yH (fun r6 h6=>
 (if (r6 !=0)=true then
 Q r6 t57 h6
 else
 again (IntKind.wrap .i64 (t57+1)) h6)) h5)
 else
 CallT P zby1 [(yI (c.Procs.len:Int)),(yI 32)] yH (fun r6 h6=>
 (if (r6 !=0)=true then
 Q r6 6 h6
 else
 LoopW1 (α1:=Int) (fun again1 t80 h7=>
 (if decide (t80<(c.Procs.len:Int)) then
 ((InB c.Procs.base c.Procs.len t80)/\LdW none sh_api_Proc h7 (sat c.Procs.base 2 t80) fun x=>
 CallT P ziq [(yI x.Part),(yI 0),(yI (IntKind.wrap .i64 ((c.Labels.len:Int)-1)))] zad (fun r7 h8=>
 (if (!r7)=true then
 Q 2 (IntKind.wrap .i64 (7+t80)) h8
 else
 Call2 P zfi1 [x.Code.v,(yI c.Locks)] yH yH (fun r8 r9 h9=>
 (if (r8 !=0)=true then
 Q r8 (IntKind.wrap .i64 (7+t80)) h9
 else
 again1 (IntKind.wrap .i64 (t80+1)) h9)) h8)) h7)
 else
 Q 0 0 h7)) 0 h6)) h5)) 0 h4) h3)) h2)) h1)) h
def zrl (P:Program) (c:S_api_Config) (s:S_api_State) (Q:(Option Addr->(Hp->Prop))) (h:Hp):Prop:=
 CallT P zwh [c.v] sh_api_Config (fun r h1=>
 ((True/\True)/\NewW [r.Labels.v,r.Table.v,(yI r.Fuel),(yI r.Lane),(yI r.Locks),(yI r.Log),r.Procs.v,(yP none),(yP none),(yI s.Tick),yN,yN] (fun a h2=>
 Call3 P zuh [c.Labels.v] shPtr yH yH (fun r1 r2 r3 h3=>
 NilW none (some a) fun p=>
 StW h3 (Addr.add p 7) [(yP r1)] (fun h4=>
 Call3 P zuj [c.Table.v,(yI (c.Labels.len:Int))] shPtr yH yH (fun r4 r5 r6 h5=>
 NilW none (some a) fun p1=>
 StW h5 (Addr.add p1 8) [(yP r4)] (fun h6=>
 LoopW1 (α1:=Int) (fun again t48 h7=>
 (if decide (t48<(s.Parts.len:Int)) then
 ((InB s.Parts.base s.Parts.len t48)/\LdW none sh_api_Part h7 (sat s.Parts.base 6 t48) fun x=>
 Call2 P zuk [x.Owners.v,x.Queues.v] shPtr yH (fun r7 r8 h8=>
 NilW none (some a) fun p2=>
 yLs h8 p2 10 fun x1=>
 CallT P zat [x.Log.v] shSl (fun r9 h9=>
 (((LdIs h9 (Addr.add p2 10) [x1.v])/\(True/\(True/\(True/\True))))/\CallT P zbz1 [] shPtr (fun r10 h10=>
 (((LdIs h10 (Addr.add p2 10) [x1.v])/\(True/\(True/\(True/\True))))/\NewW [yN,(yI x.Cursor),r9.v,(yI x.Lost),(yI x.Forbidden),(yP r7),(yP r10)] (fun a1 h11=>
 (((LdIs h11 (Addr.add p2 10) [x1.v])/\True)/\NewW [(yP (some a1))] (fun a2 h12=>
 (((LdIs h12 (Addr.add p2 10) [x1.v])/\True)/\zao 1 8 [(yP none)] x1 ⟨(some a2),1,1⟩ (fun r11 h13=>
 NilW none (some a) fun p3=>
 StW h13 (Addr.add p3 10) [r11.v] (fun h14=>
 again (IntKind.wrap .i64 (t48+1)) h14)) h12)) h11)) h10)) h9)) h8) h7)
 else
 LoopW1 (α1:=Int) (fun again1 t86 h8=>
 (if decide (t86<(s.Procs.len:Int)) then
 JoinW0 (fun k=>
 ((InB s.Procs.base s.Procs.len t86)/\LdW none sh_api_Process h8 (sat s.Procs.base 15 t86) fun x=>
 NilW none (some a) fun p2=>
 LdW none shSl h8 (Addr.add (Addr.add p2 0) 6) fun x1=>
 ((InB x1.base x1.len t86)/\LdW none sh_api_Proc h8 (sat x1.base 2 t86) fun x2=>
 Call2 P zzv [(yI c.Lane),x.Lanes.v,(yI x.Cursor)] shPtr yH (fun r7 r8 h9=>
 NilW none (some a) fun p3=>
 yLs h9 p3 11 fun x3=>
 NewW [(yI t86),(yI x2.Part),x2.Code.v,(yI x.State),(yI x.PC),(yI x.Regs_0),(yI x.Regs_1),(yI x.Regs_2),(yI x.Regs_3),(yI x.Regs_4),(yI x.Regs_5),(yI x.Regs_6),(yI x.Regs_7),(.bool x.Fired),(yP r7)] (fun a1 h10=>
 (((LdIs h10 (Addr.add p3 11) [x3.v])/\True)/\NewW [(yP (some a1))] (fun a2 h11=>
 (((LdIs h11 (Addr.add p3 11) [x3.v])/\True)/\zao 1 8 [(yP none)] x3 ⟨(some a2),1,1⟩ (fun r9 h12=>
 NilW none (some a) fun p4=>
 StW h12 (Addr.add p4 11) [r9.v] (fun h13=>
 NilW none (some a) fun p5=>
 yLs h13 p5 10 fun x4=>
 ((InB x4.base x4.len x2.Part)/\LdW none shPtr h13 (sat x4.base 1 x2.Part) fun x5=>
 NilW none x5 fun p6=>
 yLs h13 p6 0 fun x6=>
 NewW [(yI t86)] (fun a3 h14=>
 zao 1 8 [(yI 0)] x6 ⟨(some a3),1,1⟩ (fun r10 h15=>
 NilW none x5 fun p7=>
 StW h15 (Addr.add p7 0) [r10.v] (fun h16=>
 JoinW0 (fun k1=>
 (if decide (x.Timer>0) then
 NilW none x5 fun p8=>
 yLp h16 p8 6 fun x7=>
 CallT P zbs [(yI t86)] yH (fun r11 h17=>
 (((LdIs h17 (Addr.add p8 6) [(yP x7)])/\(True/\True))/\CallT P zbf [(yP x7),(yI r11),(yI x.Timer)] yH (fun r12 h18=>
 k1 h18) h17)) h16
 else
 k1 h16))
 (fun h17=>
 (if decide (x.Wake>0) then
 NilW none x5 fun p8=>
 yLp h17 p8 6 fun x7=>
 CallT P zcj [(yI t86)] yH (fun r11 h18=>
 (((LdIs h18 (Addr.add p8 6) [(yP x7)])/\(True/\True))/\CallT P zbf [(yP x7),(yI r11),(yI x.Wake)] yH (fun r12 h19=>
 k h19) h18)) h17
 else
 k h17)))) h14) h13))) h11)) h10)) h9) h8)))
 (fun h9=>
 again1 (IntKind.wrap .i64 (t86+1)) h9)
 else
 Q (some a) h8)) 0 h7)) 0 h6)) h4)) h2) h1)) h
def zpx (P:Program) (c:S_api_Config) (Q:(S_api_State->(Hp->Prop))) (h:Hp):Prop:=
 (MakeW 96 [(yI 0),yN,(yI 0),(yI 0),yN,yN] (c.Labels.len:Int) (c.Labels.len:Int) (fun r h1=>
 ((True/\True)/\MakeW 136 [(yI 0),(yI 0),(yI 0),(yI 0),(yI 0),(yI 0),(yI 0),(yI 0),(yI 0),(yI 0),(yI 0),(yI 0),(.bool false),(yI 0),yN] (c.Procs.len:Int) (c.Procs.len:Int) (fun r1 h2=>
 LoopW1 (α1:=Int) (fun again t18 h3=>
 (if decide (t18<(r.len:Int)) then
 JoinW0 (fun k=>
 (NewW [(yI (-1))] (fun a h4=>
 ((True/\(True/\(True/\(True/\True))))/\(CallT P zag [(.slice (some a) 1 1),(yI c.Locks)] shSl (fun r2 h5=>
 ((True/\(True/\(True/\True)))/\((InB r.base r.len t18)/\(MakeW 24 [yN] c.Locks c.Locks (fun r3 h6=>
 ((True/\(True/\True))/\StW h6 (Addr.add (sat r.base 6 t18) 4) [r2.v] (fun h7=>
 ((True/\True)/\((InB r.base r.len t18)/\StW h7 (Addr.add (sat r.base 6 t18) 5) [r3.v] (fun h8=>
 k h8)))))) h5/\StW h5 (Addr.add (sat r.base 6 t18) 4) [r2.v] (fun h6=>
 ((True/\(True/\True))/\MakeW 24 [yN] c.Locks c.Locks (fun r3 h7=>
 ((True/\(True/\True))/\((InB r.base r.len t18)/\StW h7 (Addr.add (sat r.base 6 t18) 5) [r3.v] (fun h8=>
 k h8)))) h6)))))) h4/\MakeW 24 [yN] c.Locks c.Locks (fun r2 h5=>
 ((True/\(True/\(True/\True)))/\CallT P zag [(.slice (some a) 1 1),(yI c.Locks)] shSl (fun r3 h6=>
 ((True/\(True/\(True/\True)))/\((InB r.base r.len t18)/\StW h6 (Addr.add (sat r.base 6 t18) 4) [r3.v] (fun h7=>
 ((True/\(True/\True))/\((InB r.base r.len t18)/\StW h7 (Addr.add (sat r.base 6 t18) 5) [r2.v] (fun h8=>
 k h8))))))) h5)) h4))) h3/\MakeW 24 [yN] c.Locks c.Locks (fun r2 h4=>
 ((True/\(True/\(True/\True)))/\NewW [(yI (-1))] (fun a h5=>
 ((True/\(True/\(True/\(True/\True))))/\CallT P zag [(.slice (some a) 1 1),(yI c.Locks)] shSl (fun r3 h6=>
 ((True/\(True/\(True/\True)))/\((InB r.base r.len t18)/\StW h6 (Addr.add (sat r.base 6 t18) 4) [r3.v] (fun h7=>
 ((True/\(True/\True))/\((InB r.base r.len t18)/\StW h7 (Addr.add (sat r.base 6 t18) 5) [r2.v] (fun h8=>
 k h8))))))) h5)) h4)) h3))
 (fun h4=>
 again (IntKind.wrap .i64 (t18+1)) h4)
 else
 LoopW1 (α1:=Int) (fun again1 t42 h4=>
 (if decide (t42<(r1.len:Int)) then
 MakeW 64 [yN,yN,(yI 0),(yI 0)] (IntKind.wrap .i64 ((c.Labels.len:Int)+1)) (IntKind.wrap .i64 ((c.Labels.len:Int)+1)) (fun r2 h5=>
 ((True/\True)/\((InB r1.base r1.len t42)/\StW h5 (Addr.add (sat r1.base 15 t42) 14) [r2.v] (fun h6=>
 again1 (IntKind.wrap .i64 (t42+1)) h6)))) h4
 else
 Q ⟨0,r,r1⟩ h4)) 0 h3)) 0 h2) h1)) h/\MakeW 136 [(yI 0),(yI 0),(yI 0),(yI 0),(yI 0),(yI 0),(yI 0),(yI 0),(yI 0),(yI 0),(yI 0),(yI 0),(.bool false),(yI 0),yN] (c.Procs.len:Int) (c.Procs.len:Int) (fun r h1=>
 ((True/\True)/\MakeW 96 [(yI 0),yN,(yI 0),(yI 0),yN,yN] (c.Labels.len:Int) (c.Labels.len:Int) (fun r1 h2=>
 ((True/\True)/\LoopW1 (α1:=Int) (fun again t18 h3=>
 (if decide (t18<(r1.len:Int)) then
 JoinW0 (fun k=>
 (NewW [(yI (-1))] (fun a h4=>
 ((True/\(True/\(True/\(True/\True))))/\(CallT P zag [(.slice (some a) 1 1),(yI c.Locks)] shSl (fun r2 h5=>
 ((True/\(True/\(True/\True)))/\((InB r1.base r1.len t18)/\(MakeW 24 [yN] c.Locks c.Locks (fun r3 h6=>
 ((True/\(True/\True))/\StW h6 (Addr.add (sat r1.base 6 t18) 4) [r2.v] (fun h7=>
 ((True/\True)/\((InB r1.base r1.len t18)/\StW h7 (Addr.add (sat r1.base 6 t18) 5) [r3.v] (fun h8=>
 k h8)))))) h5/\StW h5 (Addr.add (sat r1.base 6 t18) 4) [r2.v] (fun h6=>
 ((True/\(True/\True))/\MakeW 24 [yN] c.Locks c.Locks (fun r3 h7=>
 ((True/\(True/\True))/\((InB r1.base r1.len t18)/\StW h7 (Addr.add (sat r1.base 6 t18) 5) [r3.v] (fun h8=>
 k h8)))) h6)))))) h4/\MakeW 24 [yN] c.Locks c.Locks (fun r2 h5=>
 ((True/\(True/\(True/\True)))/\CallT P zag [(.slice (some a) 1 1),(yI c.Locks)] shSl (fun r3 h6=>
 ((True/\(True/\(True/\True)))/\((InB r1.base r1.len t18)/\StW h6 (Addr.add (sat r1.base 6 t18) 4) [r3.v] (fun h7=>
 ((True/\(True/\True))/\((InB r1.base r1.len t18)/\StW h7 (Addr.add (sat r1.base 6 t18) 5) [r2.v] (fun h8=>
 k h8))))))) h5)) h4))) h3/\MakeW 24 [yN] c.Locks c.Locks (fun r2 h4=>
 ((True/\(True/\(True/\True)))/\NewW [(yI (-1))] (fun a h5=>
 ((True/\(True/\(True/\(True/\True))))/\CallT P zag [(.slice (some a) 1 1),(yI c.Locks)] shSl (fun r3 h6=>
 ((True/\(True/\(True/\True)))/\((InB r1.base r1.len t18)/\StW h6 (Addr.add (sat r1.base 6 t18) 4) [r3.v] (fun h7=>
 ((True/\(True/\True))/\((InB r1.base r1.len t18)/\StW h7 (Addr.add (sat r1.base 6 t18) 5) [r2.v] (fun h8=>
 k h8))))))) h5)) h4)) h3))
 (fun h4=>
 again (IntKind.wrap .i64 (t18+1)) h4)
 else
 LoopW1 (α1:=Int) (fun again1 t42 h4=>
 (if decide (t42<(r.len:Int)) then
 MakeW 64 [yN,yN,(yI 0),(yI 0)] (IntKind.wrap .i64 ((c.Labels.len:Int)+1)) (IntKind.wrap .i64 ((c.Labels.len:Int)+1)) (fun r2 h5=>
 ((True/\True)/\((InB r.base r.len t42)/\StW h5 (Addr.add (sat r.base 15 t42) 14) [r2.v] (fun h6=>
 again1 (IntKind.wrap .i64 (t42+1)) h6)))) h4
 else
 Q ⟨0,r1,r⟩ h4)) 0 h3)) 0 h2)) h1)) h)
def zod (P:Program) (c:S_api_Config) (Q:(S_api_Config->(Hp->Prop))) (h:Hp):Prop:=
 CallT P zdn [c.Labels.v] shSl (fun r h1=>
 ((True/\(True/\True))/\CallT P zdw [c.Table.v] shSl (fun r1 h2=>
 ((True/\True)/\CallT P zex [c.Procs.v] shSl (fun r2 h3=>
 LoopW1 (α1:=Int) (fun again t20 h4=>
 (if decide (t20<(r2.len:Int)) then
 ((InB r2.base r2.len t20)/\LdW none sh_api_Proc h4 (sat r2.base 2 t20) fun x=>
 CallT P zfj [x.Code.v] shSl (fun r3 h5=>
 ((True/\True)/\((InB r2.base r2.len t20)/\StW h5 (Addr.add (sat r2.base 2 t20) 1) [r3.v] (fun h6=>
 again (IntKind.wrap .i64 (t20+1)) h6)))) h4)
 else
 Q ⟨r,r1,c.Fuel,c.Lane,c.Locks,c.Log,r2⟩ h4)) 0 h3) h2)) h1)) h
def zkd (P:Program) (l:Option Addr) (Q:(Sl->(Sl->(Hp->Prop)))) (h:Hp):Prop:=
 NilW none l fun p=>
 yLs h p 0 fun x=>
 LoopW3 (α1:=Sl) (α2:=Sl) (α3:=Int) (fun again owners queues t13 h1=>
 (if decide (t13<(x.len:Int)) then
 ((InB x.base x.len t13)/\LdW none sh_locks_lock h1 (sat x.base 2 t13) fun x1=>
 NewW [(yI x1.owner)] (fun a h2=>
 zao 1 8 [(yI 0)] ⟨owners.base,owners.len,owners.cap⟩ ⟨(some a),1,1⟩ (fun r h3=>
 CallT P zdw [x1.queue.v] shSl (fun r1 h4=>
 NewW [r1.v] (fun a1 h5=>
 zao 1 24 [yN] ⟨queues.base,queues.len,queues.cap⟩ ⟨(some a1),1,1⟩ (fun r2 h6=>
 again r r2 (IntKind.wrap .i64 (t13+1)) h6) h5) h4) h3) h2) h1)
 else
 Q ⟨owners.base,owners.len,owners.cap⟩ ⟨queues.base,queues.len,queues.cap⟩ h1)) ⟨none,0,0⟩ ⟨none,0,0⟩ 0 h
def zce (P:Program) (s:Sl) (Q:(Sl->(Hp->Prop))) (h:Hp):Prop:=
 SemV none P (binS .eql 63 (.tmp 3) (.const yN) s.v yN) zad h fun x=>
 (if x then
 Q ⟨none,0,0⟩ h
 else
 NewW [] (fun a h1=>
 zao 3 24 [(yI 0),(yI 0),(yI 0)] ⟨(some a),0,0⟩ s (fun r h2=>
 Q r h2) h1) h)
def zmt (P:Program) (p:Option Addr) (Q:(Sl->(Int->(Hp->Prop)))) (h:Hp):Prop:=
 NilW none p fun p1=>
 yLs h p1 0 fun x=>
 LoopW2 (α1:=Sl) (α2:=Int) (fun again out t12 h1=>
 (if decide (t12<(x.len:Int)) then
 ((InB x.base x.len t12)/\LdW none shPtr h1 (sat x.base 1 t12) fun x1=>
 CallT P zmo [(yP x1)] sh_api_Lane (fun r h2=>
 NewW [r.Values.v,r.Waiters.v,(yI r.Taken),(yI r.Dropped)] (fun a h3=>
 zao 4 64 [yN,yN,(yI 0),(yI 0)] ⟨out.base,out.len,out.cap⟩ ⟨(some a),1,1⟩ (fun r1 h4=>
 again r1 (IntKind.wrap .i64 (t12+1)) h4) h3) h2) h1)
 else
 NilW none p fun p2=>
 yLi h1 p2 1 fun x1=>
 Q ⟨out.base,out.len,out.cap⟩ x1 h1)) ⟨none,0,0⟩ 0 h
def zis (P:Program) (w:Option Addr) (id_:Int) (Q:(Int->(Bool->(Hp->Prop)))) (h:Hp):Prop:=
 NilW none w fun p=>
 LdW none shMap h (Addr.add p 1) fun x=>
 LookW none (.int .i64) sh_wheel_entry (.agg #[(yI 0),(yI 0)]) x (yI id_) h fun x1 ok=>
 Q x1.due ok h
def zlm (P:Program) (p:Int) (Q:(Int->(Hp->Prop))) (h:Hp):Prop:=
 Q (IntKind.wrap .i64 (2*p)) h
def zln (P:Program) (p:Int) (Q:(Int->(Hp->Prop))) (h:Hp):Prop:=
 Q (IntKind.wrap .i64 ((IntKind.wrap .i64 (2*p))+1)) h
def zpy (P:Program) (l:Sl) (Q:(Option Addr->(Int->(Int->(Hp->Prop))))) (h:Hp):Prop:=
 Call2 P zui [l.v] yH yH (fun r r1 h1=>
 (if (r !=0)=true then
 Q none r r1 h1
 else
 CallT P zdn [l.v] shSl (fun r2 h2=>
 zdn1  (fun r3 h3=>
 NewW [r2.v,(.map r3)] (fun a h4=>
 NilW none (some a) fun p=>
 yLs h4 p 0 fun x=>
 LoopW1 (α1:=Int) (fun again t29 h5=>
 (if decide (t29<(x.len:Int)) then
 ((InB x.base x.len t29)/\LdW none (shInt .u64) h5 (sat x.base 1 t29) fun x1=>
 NilW none (some a) fun p1=>
 LdW none shMap h5 (Addr.add p1 1) fun x2=>
 zbo1 (.int .u64) x2 (.int .u64 x1) (yI t29) (fun h6=>
 again (IntKind.wrap .i64 (t29+1)) h6) h5)
 else
 Q (some a) 0 0 h5)) 0 h4) h3) h2) h1)) h
def zjf (P:Program) (a:S_machine_asked) (i:Int) (Q:(Bool->(Hp->Prop))) (h:Hp):Prop:=
 NewW [a.c_Labels.v,a.c_Table.v,(yI a.c_Fuel),(yI a.c_Lane),(yI a.c_Locks),(yI a.c_Log),a.c_Procs.v,(yI a.s_Tick),a.s_Parts.v,a.s_Procs.v,(yP a.t)] (fun a1 h1=>
 NewW [(yI i)] (fun a2 h2=>
 LdW none shSl h2 (Addr.add (Addr.add a1 7) 1) fun x=>
 LdW none yH h2 a2 fun x1=>
 ((InB x.base x.len x1)/\LdW none sh_api_Part h2 (sat x.base 6 x1) fun x2=>
 LdW (some ((!(decide (x2.Cursor<0)))&&(decide (x2.Cursor>0)))) sh_machine_asked h2 a1 fun x3=>
 LdW (some ((!(decide (x2.Cursor<0)))&&(decide (x2.Cursor>0)))) yH h2 a2 fun x4=>
 EffC (some ((!(decide (x2.Cursor<0)))&&(decide (x2.Cursor>0)))) (CallT P zot [x3.v,(yI x4)] yH) (fun r h3=>
 ((True/\True)/\LetW ((decide (x2.Cursor>0))&&(decide (x2.Cursor>=r))) fun y=>
 LetW ((decide (x2.Cursor<0)) || y) fun y1=>
 LdW (some (!y1)) yH h3 (Addr.add (Addr.add a1 0) 5) fun x5=>
 LetW (y1 || (decide ((x2.Log.len:Int)>x5))) fun y2=>
 (if y2 then
 Q false h3
 else
 LoopW2 (α1:=Int) (α2:=Int) (fun again last t43 h4=>
 (if decide (t43<(x2.Log.len:Int)) then
 ((InB x2.Log.base x2.Log.len t43)/\LdW none sh_api_Entry h4 (sat x2.Log.base 3 t43) fun x6=>
 LdW (some (!(decide (x6.Tick<last)))) yH h4 (Addr.add (Addr.add a1 7) 0) fun x7=>
 LetW ((decide (x6.Tick<last)) || (decide (x6.Tick>=x7))) fun y3=>
 LdW (some (!y3)) sh_machine_asked h4 a1 fun x8=>
 LdW (some (!y3)) yH h4 a2 fun x9=>
 EffC (some (!y3)) (CallT P zeg [x8.v,(yI x6.Proc),(yI x9)] zad) (fun r1 h5=>
 LetW (y3 || (!r1)) fun y4=>
 (if y4 then
 Q false h5
 else
 again x6.Tick (IntKind.wrap .i64 (t43+1)) h5)) h4)
 else
 CallT P zhx [(yI x2.Lost)] zad (fun r1 h5=>
 EffC (some (!(!r1))) (CallT P zhx [(yI x2.Forbidden)] zad) (fun r2 h6=>
 LetW ((!r1) || (!r2)) fun y3=>
 LdW (some ((!y3)&&(decide (x2.Lost>0)))) yH h6 (Addr.add (Addr.add a1 0) 5) fun x6=>
 LetW ((decide (x2.Lost>0))&&(decide ((x2.Log.len:Int)<x6))) fun y4=>
 LetW (y3 || y4) fun y5=>
 LdW (some (!y5)) yH h6 (Addr.add (Addr.add a1 0) 4) fun x7=>
 LetW (y5 || ((x2.Owners.len:Int) !=x7)) fun y6=>
 LdW (some (!y6)) yH h6 (Addr.add (Addr.add a1 0) 4) fun x8=>
 LetW (y6 || ((x2.Queues.len:Int) !=x8)) fun y7=>
 (if y7 then
 Q false h6
 else
 CallT P zgj [x2.Owners.v,(.func (.func 95) #[] #[(yP (some a1)),(yP (some a2))])] zad (fun r3 h7=>
 Q (!r3) h7) h6)) h5) h4)) 0 0 h3))) h2)) h1) h
def zjg (P:Program) (a:S_machine_asked) (p:Int) (Q:(Bool->(Hp->Prop))) (h:Hp):Prop:=
 ((InB a.s_Procs.base a.s_Procs.len p)/\LdW none sh_api_Process h (sat a.s_Procs.base 15 p) fun x=>
 ((InB a.c_Procs.base a.c_Procs.len p)/\LdW none sh_api_Proc h (sat a.c_Procs.base 2 p) fun x1=>
 ((True/\((LdIs h (sat a.c_Procs.base 2 p) [(yI x1.Part),x1.Code.v])/\True))/\JoinW1 (α1:=Bool) (fun k=>
 LetW ((decide (x.State<0)) || (decide (x.State>6))) fun y=>
 (if y then
 k y h
 else
 LetW ((decide (x.PC<0)) || (decide (x.PC>(x1.Code.len:Int)))) fun y1=>
 (if y1 then
 k y1 h
 else
 (if ((x.Lanes.len:Int) !=(IntKind.wrap .i64 ((a.c_Labels.len:Int)+1)))=true then
 k ((x.Lanes.len:Int) !=(IntKind.wrap .i64 ((a.c_Labels.len:Int)+1))) h
 else
 LetW ((decide (x.Cursor<0)) || (decide (x.Cursor>=(x.Lanes.len:Int)))) fun y2=>
 k y2 h))))
 (fun t28 h1=>
 (if t28 then
 Q false h1
 else
 JoinW1 (α1:=Bool) (fun k=>
 LetW ((decide (x.Timer<0)) || (decide (x.Timer>(IntKind.wrap .i64 (a.s_Tick+1099511627776))))) fun y=>
 (if y then
 k y h1
 else
 LetW ((decide (x.Wake<0)) || (decide (x.Wake>(IntKind.wrap .i64 (a.s_Tick+1099511627776))))) fun y1=>
 (if y1 then
 k y1 h1
 else
 k (!((decide (x.Wake>0))==(x.State==4))) h1)))
 (fun t68 h2=>
 (if t68 then
 Q false h2
 else
 CallT P zdt [(yI x.State)] zad (fun r h3=>
 LetW ((x.Timer !=0) || x.Fired) fun y=>
 LetW ((!r)&&y) fun y1=>
 (if y1 then
 Q false h3
 else
 LoopW2 (α1:=Bool) (α2:=Int) (fun again some_ t111 h4=>
 (if decide (t111<(x.Lanes.len:Int)) then
 ((InB x.Lanes.base x.Lanes.len t111)/\LdW none sh_api_Lane h4 (sat x.Lanes.base 4 t111) fun x2=>
 LetW ((decide ((x2.Values.len:Int)>0)) || (decide (x2.Taken>0))) fun y2=>
 LetW (y2 || (decide (x2.Dropped>0))) fun y3=>
 EffC (some (!(decide ((x2.Values.len:Int)>a.c_Lane)))) (CallT P zhx [(yI x2.Taken)] zad) (fun r1 h5=>
 LetW ((decide ((x2.Values.len:Int)>a.c_Lane)) || (!r1)) fun y4=>
 EffC (some (!y4)) (CallT P zhx [(yI x2.Dropped)] zad) (fun r2 h6=>
 LetW (y4 || (!r2)) fun y5=>
 LetW (y3&&(decide (t111<(a.c_Labels.len:Int)))) fun y6=>
 EffC (some ((!y5)&&y6)) (CallT P zkb [(yP a.t),(yI t111),(yI x1.Part)] zad) (fun r3 h7=>
 LetW (y6&&(!r3)) fun y7=>
 LetW (y5 || y7) fun y8=>
 (if y8 then
 Q false h7
 else
 LetW (some_ || (decide ((x2.Values.len:Int)>0))) fun y9=>
 again y9 (IntKind.wrap .i64 (t111+1)) h7)) h6) h5) h4)
 else
 (if (x.State==1)=true then
 CallT P zeh [a.v,(yI p)] yH (fun r1 h5=>
 LetW ((r1==25)&&(!some_)) fun y2=>
 LetW (y2&&(!x.Fired)) fun y3=>
 Q y3 h5) h4
 else
 (if (x.State==2)=true then
 CallT P zeh [a.v,(yI p)] yH (fun r1 h5=>
 Q (r1==24) h5) h4
 else
 (if (x.State==3)=true then
 CallT P zeh [a.v,(yI p)] yH (fun r1 h5=>
 Q (r1==29) h5) h4
 else
 (if (x.State==4)=true then
 CallT P zeh [a.v,(yI p)] yH (fun r1 h5=>
 Q (r1==28) h5) h4
 else
 Q true h4)))))) false 0 h3)) h2)))))))
def zia (P:Program) (a:S_machine_asked) (Q:(Bool->(Hp->Prop))) (h:Hp):Prop:=
 MakeW 8 [(yI 0)] (a.s_Procs.len:Int) (a.s_Procs.len:Int) (fun r h1=>
 LoopW1 (α1:=Int) (fun again t28 h2=>
 (if decide (t28<(a.s_Parts.len:Int)) then
 ((InB a.s_Parts.base a.s_Parts.len t28)/\LdW none sh_api_Part h2 (sat a.s_Parts.base 6 t28) fun x=>
 LoopW1 (α1:=Int) (fun again1 t36 h3=>
 (if decide (t36<(x.Queues.len:Int)) then
 ((InB x.Queues.base x.Queues.len t36)/\LdW none shSl h3 (sat x.Queues.base 1 t36) fun x1=>
 LoopW1 (α1:=Int) (fun again2 t43 h4=>
 (if decide (t43<(x1.len:Int)) then
 ((InB x1.base x1.len t43)/\LdW none yH h4 (sat x1.base 1 t43) fun x2=>
 CallT P zeg [a.v,(yI x2),(yI t28)] zad (fun r1 h5=>
 (((!(!r1))=true->(InB a.s_Procs.base a.s_Procs.len x2))/\LdW (some (!(!r1))) yH h5 (Addr.add (sat a.s_Procs.base 15 x2) 0) fun x3=>
 LetW ((!r1) || (x3 !=3)) fun y=>
 EffC (some (!y)) (CallT P zfo [a.v,(yI x2)] sh_api_Ins) (fun r2 h6=>
 LetW (y || (r2.Imm !=t36)) fun y1=>
 (((!y1)=true->(InB x.Owners.base x.Owners.len t36))/\LdW (some (!y1)) yH h6 (sat x.Owners.base 1 t36) fun x4=>
 LetW (y1 || (decide (x4<0))) fun y2=>
 (((!y2)=true->(InB x.Owners.base x.Owners.len t36))/\LdW (some (!y2)) yH h6 (sat x.Owners.base 1 t36) fun x5=>
 LetW (y2 || (x5==x2)) fun y3=>
 (if y3 then
 Q false h6
 else
 ((InB r.base r.len x2)/\LdW none yH h6 (sat r.base 1 x2) fun x6=>
 ((InB r.base r.len x2)/\StW h6 (sat r.base 1 x2) [(yI (IntKind.wrap .i64 (x6+1)))] (fun h7=>
 again2 (IntKind.wrap .i64 (t43+1)) h7))))))) h5)) h4)
 else
 again1 (IntKind.wrap .i64 (t36+1)) h4)) 0 h3)
 else
 again (IntKind.wrap .i64 (t28+1)) h3)) 0 h2)
 else
 LoopW1 (α1:=Int) (fun again1 t100 h3=>
 (if decide (t100<(a.s_Procs.len:Int)) then
 ((InB a.s_Procs.base a.s_Procs.len t100)/\LdW none sh_api_Process h3 (sat a.s_Procs.base 15 t100) fun x=>
 LoopW1 (α1:=Int) (fun again2 t108 h4=>
 (if decide (t108<(x.Lanes.len:Int)) then
 ((InB x.Lanes.base x.Lanes.len t108)/\LdW none sh_api_Lane h4 (sat x.Lanes.base 4 t108) fun x1=>
 LoopW1 (α1:=Int) (fun again3 t116 h5=>
 (if decide (t116<(x1.Waiters.len:Int)) then
 ((InB x1.Waiters.base x1.Waiters.len t116)/\LdW none sh_api_Waiter h5 (sat x1.Waiters.base 2 t116) fun x2=>
 ((InB a.c_Procs.base a.c_Procs.len t100)/\LdW none yH h5 (Addr.add (sat a.c_Procs.base 2 t100) 0) fun x3=>
 EffC (some (!(t108 !=x3))) (CallT P zeg [a.v,(yI x2.Proc),(yI t108)] zad) (fun r1 h6=>
 LetW ((t108 !=x3) || (!r1)) fun y=>
 EffC (some (!y)) (CallT P zdt [(yI x.State)] zad) (fun r2 h7=>
 LetW (y || (!r2)) fun y1=>
 LetW (y1 || ((x1.Values.len:Int) !=a.c_Lane)) fun y2=>
 EffC (some (!y2)) (CallT P znq [a.v,x2.v,(yI t100)] zad) (fun r3 h8=>
 LetW (y2 || (!r3)) fun y3=>
 (if y3 then
 Q false h8
 else
 ((InB r.base r.len x2.Proc)/\LdW none yH h8 (sat r.base 1 x2.Proc) fun x4=>
 ((InB r.base r.len x2.Proc)/\StW h8 (sat r.base 1 x2.Proc) [(yI (IntKind.wrap .i64 (x4+1)))] (fun h9=>
 again3 (IntKind.wrap .i64 (t116+1)) h9))))) h7) h6) h5))
 else
 again2 (IntKind.wrap .i64 (t108+1)) h5)) 0 h4)
 else
 again1 (IntKind.wrap .i64 (t100+1)) h4)) 0 h3)
 else
 LoopW1 (α1:=Int) (fun again2 t173 h4=>
 (if decide (t173<(a.s_Procs.len:Int)) then
 ((InB a.s_Procs.base a.s_Procs.len t173)/\LdW none sh_api_Process h4 (sat a.s_Procs.base 15 t173) fun x=>
 JoinW1 (α1:=Int) (fun k=>
 LetW ((x.State==3) || (x.State==2)) fun y=>
 (if y then
 k 1 h4
 else
 k 0 h4))
 (fun must h5=>
 ((InB r.base r.len t173)/\LdW none yH h5 (sat r.base 1 t173) fun x1=>
 (if (x1 !=must)=true then
 Q false h5
 else
 again2 (IntKind.wrap .i64 (t173+1)) h5))))
 else
 Q true h4)) 0 h3)) 0 h2)) 0 h1) h
def zke (P:Program) (s:Option Addr) (t:Int) (Q:(Int->(Hp->Prop))) (h:Hp):Prop:=
 (if decide (t<0) then
 Q (-1) h
 else
 NilW none s fun p=>
 yLs h p 0 fun x=>
 NilW none s fun p1=>
 yLs h p1 0 fun x1=>
 ((x1.len:Int)≠0/\((InB x.base x.len (Int.tmod t (x1.len:Int)))/\LdW none yH h (sat x.base 1 (Int.tmod t (x1.len:Int))) fun x2=>
 Q x2 h)))
def zib (P:Program) (m:Option Addr) (x:Option Addr) (Q:(Hp->Prop)) (h:Hp):Prop:=
 NilW none x fun p=>
 yLp h p 6 fun x1=>
 NilW none m fun p1=>
 yLi h p1 9 fun x2=>
 CallT P zsu [(yP x1),(yI x2)] shSl (fun r h1=>
 LoopW1 (α1:=Int) (fun again t17 h2=>
 (if decide (t17<(r.len:Int)) then
 JoinW0 (fun k=>
 ((InB r.base r.len t17)/\LdW none yH h2 (sat r.base 1 t17) fun x3=>
 NilW none m fun p2=>
 yLs h2 p2 11 fun x4=>
 ((2:Int)≠(0:Int)/\((InB x4.base x4.len (IntKind.wrap .i64 (Int.tdiv x3 (2:Int))))/\LdW none shPtr h2 (sat x4.base 1 (IntKind.wrap .i64 (Int.tdiv x3 (2:Int)))) fun x5=>
 NilW none x5 fun p3=>
 yLi h2 p3 0 fun x6=>
 CallT P zcj [(yI x6)] yH (fun r1 h3=>
 (if (x3==r1)=true then
 NilW none x5 fun p4=>
 LdW none zae h3 (Addr.add p4 4) fun x7=>
 CallT P zgr [x7.v] zae (fun r2 h4=>
 Call0 P zcp [(yP m),(yP x5),r2.v] (fun h5=>
 k h5) h4) h3
 else
 NilW none x5 fun p4=>
 StW h3 (Addr.add p4 13) [(.bool true)] (fun h4=>
 NilW none x5 fun p5=>
 yLi h4 p5 3 fun x7=>
 (if (x7==(1:Int))=true then
 NilW none x5 fun p6=>
 StW h4 (Addr.add p6 3) [(yI (0:Int))] (fun h5=>
 k h5)
 else
 k h4)))) h2))))
 (fun h3=>
 again (IntKind.wrap .i64 (t17+(1:Int))) h3)
 else
 Q h2)) (0:Int) h1) h
def zgw (P:Program) (m:Option Addr) (p:Option Addr) (Q:(Hp->Prop)) (h:Hp):Prop:=
 NilW none p fun p1=>
 LdW none zae h (Addr.add p1 4) fun x=>
 NilW none p fun p2=>
 yLs h p2 2 fun x1=>
 NilW none m fun p3=>
 yLi h p3 9 fun x2=>
 NilW none p fun p4=>
 yLi h p4 0 fun x3=>
 Call2 P zfj1 [x.v,x1.v,(yI x2),(yI x3)] zae zka (fun r r1 h1=>
 NilW none p fun p5=>
 StW h1 (Addr.add p5 4) [(yI r.PC),(yI r.Regs_0),(yI r.Regs_1),(yI r.Regs_2),(yI r.Regs_3),(yI r.Regs_4),(yI r.Regs_5),(yI r.Regs_6),(yI r.Regs_7)] (fun h2=>
 NilW none m fun p6=>
 yLs h2 p6 10 fun x4=>
 NilW none p fun p7=>
 yLi h2 p7 1 fun x5=>
 ((InB x4.base x4.len x5)/\LdW none shPtr h2 (sat x4.base 1 x5) fun x6=>
 (if (r1.Kind==1)=true then
 Call0 P zdv [(yP m),(yP p),(yI 5)] (fun h3=>
 Q h3) h2
 else
 (if (r1.Kind==2)=true then
 Call0 P zfp [(yP m),(yP p),(yI r1.To),(yI r1.Value_)] (fun h3=>
 Q h3) h2
 else
 JoinW1 (α1:=Bool) (fun k=>
 (if (r1.Kind==3)=true then
 k (r1.Kind==3) h2
 else
 k (r1.Kind==4) h2))
 (fun t61 h3=>
 (if t61 then
 Call0 P zfq [(yP m),(yP p),(.bool (r1.Kind==4))] (fun h4=>
 Q h4) h3
 else
 (if (r1.Kind==5)=true then
 NilW none p fun p8=>
 StW h3 (Addr.add p8 13) [(.bool false)] (fun h4=>
 NilW none x6 fun p9=>
 yLp h4 p9 6 fun x7=>
 NilW none p fun p10=>
 yLi h4 p10 0 fun x8=>
 CallT P zbs [(yI x8)] yH (fun r2 h5=>
 (((LdIs h5 (Addr.add p9 6) [(yP x7)])/\True)/\CallT P zby [(yP x7),(yI r2)] zad (fun r3 h6=>
 (if decide (r1.Value_>0) then
 NilW none x6 fun p11=>
 yLp h6 p11 6 fun x9=>
 NilW none p fun p12=>
 yLi h6 p12 0 fun x10=>
 NilW none m fun p13=>
 yLi h6 p13 9 fun x11=>
 CallT P zbs [(yI x10)] yH (fun r4 h7=>
 (((LdIs h7 (Addr.add p11 6) [(yP x9)])/\((LdIs h7 (Addr.add p13 9) [(yI x11)])/\(True/\True)))/\CallT P zbf [(yP x9),(yI r4),(yI (IntKind.wrap .i64 (x11+(min2I r1.Value_ 1099511627776))))] yH (fun r5 h8=>
 Q h8) h7)) h6
 else
 Q h6)) h5)) h4)
 else
 (if (r1.Kind==6)=true then
 NilW none x6 fun p8=>
 yLp h3 p8 6 fun x7=>
 NilW none p fun p9=>
 yLi h3 p9 0 fun x8=>
 NilW none m fun p10=>
 yLi h3 p10 9 fun x9=>
 CallT P zcj [(yI x8)] yH (fun r2 h4=>
 (((LdIs h4 (Addr.add p8 6) [(yP x7)])/\((LdIs h4 (Addr.add p10 9) [(yI x9)])/\(True/\True)))/\CallT P zbf [(yP x7),(yI r2),(yI (IntKind.wrap .i64 (x9+(min2I (max2I r1.Value_ 1) 1099511627776))))] yH (fun r3 h5=>
 NilW none p fun p11=>
 StW h5 (Addr.add p11 3) [(yI 4)] (fun h6=>
 Q h6)) h4)) h3
 else
 (if (r1.Kind==7)=true then
 NilW none x6 fun p8=>
 yLp h3 p8 5 fun x7=>
 NilW none p fun p9=>
 yLi h3 p9 0 fun x8=>
 Call2 P zhi [(yP x7),(yI r1.To),(yI x8)] zad yH (fun r2 r3 h4=>
 (if r2 then
 NilW none p fun p10=>
 LdW none zae h4 (Addr.add p10 4) fun x9=>
 CallT P zgr [x9.v] zae (fun r4 h5=>
 NilW none p fun p11=>
 StW h5 (Addr.add p11 4) [(yI r4.PC),(yI r4.Regs_0),(yI r4.Regs_1),(yI r4.Regs_2),(yI r4.Regs_3),(yI r4.Regs_4),(yI r4.Regs_5),(yI r4.Regs_6),(yI r4.Regs_7)] (fun h6=>
 Q h6)) h4
 else
 NilW none p fun p10=>
 StW h4 (Addr.add p10 3) [(yI 3)] (fun h5=>
 Q h5))) h3
 else
 (if (r1.Kind==8)=true then
 NilW none x6 fun p8=>
 yLp h3 p8 5 fun x7=>
 NilW none p fun p9=>
 yLi h3 p9 0 fun x8=>
 CallT P zfr [(yP x7),(yI x8)] shSl (fun r2 h4=>
 ((True/\True)/\CallT P zcx [r2.v,(yI r1.To)] zad (fun r3 h5=>
 (if r3 then
 NilW none x6 fun p10=>
 yLp h5 p10 5 fun x9=>
 NilW none p fun p11=>
 yLi h5 p11 0 fun x10=>
 Call2 P zei [(yP x9),(yI r1.To),(yI x10)] yH yH (fun r4 r5 h6=>
 Call0 P zbd [(yP m),(yI r4)] (fun h7=>
 Q h7) h6) h5
 else
 Q h5)) h4)) h3
 else
 (if (r1.Kind==9)=true then
 NilW none x6 fun p8=>
 yLs h3 p8 2 fun x7=>
 NilW none m fun p9=>
 LdW none yH h3 (Addr.add (Addr.add p9 0) 5) fun x8=>
 (if decide ((x7.len:Int)<x8) then
 NilW none x6 fun p10=>
 yLs h3 p10 2 fun x9=>
 NilW none m fun p11=>
 yLi h3 p11 9 fun x10=>
 NilW none p fun p12=>
 yLi h3 p12 0 fun x11=>
 NewW [(yI x10),(yI x11),(yI r1.Value_)] (fun a h4=>
 (((LdIs h4 (Addr.add p10 2) [x9.v])/\True)/\zao 3 24 [(yI 0),(yI 0),(yI 0)] x9 ⟨(some a),1,1⟩ (fun r2 h5=>
 NilW none x6 fun p13=>
 StW h5 (Addr.add p13 2) [r2.v] (fun h6=>
 Q h6)) h4)) h3
 else
 NilW none x6 fun p10=>
 yLi h3 p10 3 fun x9=>
 CallT P znj [(yI x9)] yH (fun r2 h4=>
 NilW none x6 fun p11=>
 StW h4 (Addr.add p11 3) [(yI r2)] (fun h5=>
 Q h5)) h3)
 else
 Q h3)))))))))))) h
def zfv (P:Program) (m:Option Addr) (p:Int) (Q:(Int->(Hp->Prop))) (h:Hp):Prop:=
 NilW (some (!(decide (p<0)))) m fun p1=>
 LdW (some (!(decide (p<0)))) shSl h (Addr.add p1 11) fun x=>
 LetW ((decide (p<0)) || (decide (p>=(x.len:Int)))) fun y=>
 (if y then
 Q 17 h
 else
 NilW none m fun p2=>
 yLs h p2 11 fun x1=>
 ((InB x1.base x1.len p)/\LdW none shPtr h (sat x1.base 1 p) fun x2=>
 NilW none x2 fun p3=>
 yLi h p3 3 fun x3=>
 CallT P zdt [(yI x3)] zad (fun r h1=>
 (if (!r)=true then
 Q 18 h1
 else
 Q 0 h1)) h))
def zlo (P:Program) (p:Option Addr) (lane:Int) (v:Int) (Q:(Int->(Hp->Prop))) (h:Hp):Prop:=
 CallT P zir [(yP p),(yI lane)] zad (fun r h1=>
 (if (!r)=true then
 Q 2 h1
 else
 NilW none p fun p1=>
 yLs h1 p1 0 fun x=>
 ((InB x.base x.len lane)/\LdW none shPtr h1 (sat x.base 1 lane) fun x1=>
 CallT P zxz [(yP x1),(yI v)] yH (fun r1 h2=>
 Q r1 h2) h1))) h
def zjx (P:Program) (p:Option Addr) (lane:Int) (Q:(Hp->Prop)) (h:Hp):Prop:=
 CallT P zir [(yP p),(yI lane)] zad (fun r h1=>
 (if r then
 NilW none p fun p1=>
 yLs h1 p1 0 fun x=>
 ((InB x.base x.len lane)/\LdW none shPtr h1 (sat x.base 1 lane) fun x1=>
 Call0 P zny [(yP x1)] (fun h2=>
 Q h2) h1)
 else
 Q h1)) h
def zgx (P:Program) (m:Option Addr) (q:Option Addr) (Q:(Hp->Prop)) (h:Hp):Prop:=
 NilW none q fun p=>
 yLi h p 3 fun x=>
 (if (x==1)=true then
 NilW none q fun p1=>
 StW h (Addr.add p1 3) [(yI 0)] (fun h1=>
 Q h1)
 else
 Q h)
def zgy (P:Program) (m:Option Addr) (p:Option Addr) (state:Int) (Q:(Hp->Prop)) (h:Hp):Prop:=
 NilW none m fun p1=>
 yLs h p1 10 fun x=>
 NilW none p fun p2=>
 yLi h p2 1 fun x1=>
 ((InB x.base x.len x1)/\LdW none shPtr h (sat x.base 1 x1) fun x2=>
 NilW none p fun p3=>
 StW h (Addr.add p3 3) [(yI state)] (fun h1=>
 NilW none p fun p4=>
 StW h1 (Addr.add p4 13) [(.bool false)] (fun h2=>
 NilW none x2 fun p5=>
 yLs h2 p5 0 fun x3=>
 LoopW1 (α1:=Int) (fun again t35 h3=>
 (if decide (t35<(x3.len:Int)) then
 ((InB x3.base x3.len t35)/\LdW none yH h3 (sat x3.base 1 t35) fun x4=>
 NilW none m fun p6=>
 yLs h3 p6 11 fun x5=>
 ((InB x5.base x5.len x4)/\LdW none shPtr h3 (sat x5.base 1 x4) fun x6=>
 NilW none x6 fun p7=>
 yLp h3 p7 14 fun x7=>
 NilW none p fun p8=>
 yLi h3 p8 0 fun x8=>
 CallT P zmp [(yP x7),(yI x8)] zad (fun r h4=>
 again (IntKind.wrap .i64 (t35+1)) h4) h3))
 else
 NilW none x2 fun p6=>
 yLp h3 p6 5 fun x4=>
 NilW none p fun p7=>
 yLi h3 p7 0 fun x5=>
 CallT P zsv [(yP x4),(yI x5)] shSl (fun r h4=>
 LoopW1 (α1:=Int) (fun again1 t65 h5=>
 (if decide (t65<(r.len:Int)) then
 ((InB r.base r.len t65)/\LdW none zni h5 (sat r.base 2 t65) fun x6=>
 Call0 P zbd [(yP m),(yI x6.Proc)] (fun h6=>
 again1 (IntKind.wrap .i64 (t65+1)) h6) h5)
 else
 NilW none x2 fun p8=>
 yLp h5 p8 6 fun x6=>
 NilW none p fun p9=>
 yLi h5 p9 0 fun x7=>
 CallT P zbs [(yI x7)] yH (fun r1 h6=>
 (((LdIs h6 (Addr.add p8 6) [(yP x6)])/\True)/\CallT P zby [(yP x6),(yI r1)] zad (fun r2 h7=>
 NilW none x2 fun p10=>
 yLp h7 p10 6 fun x8=>
 NilW none p fun p11=>
 yLi h7 p11 0 fun x9=>
 CallT P zcj [(yI x9)] yH (fun r3 h8=>
 (((LdIs h8 (Addr.add p10 6) [(yP x8)])/\True)/\CallT P zby [(yP x8),(yI r3)] zad (fun r4 h9=>
 NilW none p fun p12=>
 yLp h9 p12 14 fun x10=>
 CallT P zya [(yP x10)] shSl (fun r5 h10=>
 LoopW1 (α1:=Int) (fun again2 t100 h11=>
 (if decide (t100<(r5.len:Int)) then
 ((InB r5.base r5.len t100)/\LdW none sh_api_Waiter h11 (sat r5.base 2 t100) fun x11=>
 NilW none m fun p13=>
 yLs h11 p13 11 fun x12=>
 ((InB x12.base x12.len x11.Proc)/\LdW none shPtr h11 (sat x12.base 1 x11.Proc) fun x13=>
 Call0 P zak [(yP m),(yP x13),(yI 2)] (fun h12=>
 again2 (IntKind.wrap .i64 (t100+1)) h12) h11))
 else
 Q h11)) 0 h10) h9) h8)) h7) h6)) h5)) 0 h4) h3)) 0 h2)))
def zep (P:Program) (a:S_api_Part) (b:S_api_Part) (Q:(Bool->(Hp->Prop))) (h:Hp):Prop:=
 LetW ((a.Cursor !=b.Cursor) || (a.Lost !=b.Lost)) fun y=>
 LetW (y || (a.Forbidden !=b.Forbidden)) fun y1=>
 LetW (y1 || ((a.Log.len:Int) !=(b.Log.len:Int))) fun y2=>
 LetW (y2 || ((a.Queues.len:Int) !=(b.Queues.len:Int))) fun y3=>
 (if y3 then
 Q false h
 else
 LoopW1 (α1:=Int) (fun again i h1=>
 (if decide (i<(a.Log.len:Int)) then
 ((InB a.Log.base a.Log.len i)/\LdW none sh_api_Entry h1 (sat a.Log.base 3 i) fun x=>
 ((InB b.Log.base b.Log.len i)/\LdW none sh_api_Entry h1 (sat b.Log.base 3 i) fun x1=>
 SemV none P (binS .neq 68 (.tmp 56) (.tmp 61) x.v x1.v) zad h1 fun x2=>
 (if x2 then
 Q false h1
 else
 again (IntKind.wrap .i64 (i+1)) h1)))
 else
 LoopW1 (α1:=Int) (fun again1 i1 h2=>
 (if decide (i1<(a.Queues.len:Int)) then
 ((InB a.Queues.base a.Queues.len i1)/\LdW none shSl h2 (sat a.Queues.base 1 i1) fun x=>
 ((InB b.Queues.base b.Queues.len i1)/\LdW none shSl h2 (sat b.Queues.base 1 i1) fun x1=>
 CallT P zhy [x.v,x1.v] zad (fun r h3=>
 (if (!r)=true then
 Q false h3
 else
 again1 (IntKind.wrap .i64 (i1+1)) h3)) h2))
 else
 CallT P zhy [a.Owners.v,b.Owners.v] zad (fun r h3=>
 Q r h3) h2)) 0 h1)) 0 h)
def zdo (P:Program) (a:S_api_Process) (b:S_api_Process) (Q:(Bool->(Hp->Prop))) (h:Hp):Prop:=
 LetW ((a.State !=b.State) || (a.PC !=b.PC)) fun y=>
 SemV (some (!y)) P (binS .neq 69 (.tmp 21) (.tmp 23) (.agg #[(yI a.Regs_0),(yI a.Regs_1),(yI a.Regs_2),(yI a.Regs_3),(yI a.Regs_4),(yI a.Regs_5),(yI a.Regs_6),(yI a.Regs_7)]) (.agg #[(yI b.Regs_0),(yI b.Regs_1),(yI b.Regs_2),(yI b.Regs_3),(yI b.Regs_4),(yI b.Regs_5),(yI b.Regs_6),(yI b.Regs_7)])) zad h fun x=>
 LetW (y || x) fun y1=>
 LetW (y1 || (a.Cursor !=b.Cursor)) fun y2=>
 LetW (y2 || (a.Timer !=b.Timer)) fun y3=>
 LetW (y3 || (!(a.Fired==b.Fired))) fun y4=>
 LetW (y4 || (a.Wake !=b.Wake)) fun y5=>
 LetW (y5 || ((a.Lanes.len:Int) !=(b.Lanes.len:Int))) fun y6=>
 (if y6 then
 Q false h
 else
 LoopW1 (α1:=Int) (fun again i h1=>
 (if decide (i<(a.Lanes.len:Int)) then
 ((InB a.Lanes.base a.Lanes.len i)/\LdW none sh_api_Lane h1 (sat a.Lanes.base 4 i) fun x1=>
 ((InB b.Lanes.base b.Lanes.len i)/\LdW none sh_api_Lane h1 (sat b.Lanes.base 4 i) fun x2=>
 CallT P zjp [x1.v,x2.v] zad (fun r h2=>
 (if (!r)=true then
 Q false h2
 else
 again (IntKind.wrap .i64 (i+1)) h2)) h1))
 else
 Q true h1)) 0 h)
def zov (P:Program) (l:Sl) (Q:(Int->(Int->(Hp->Prop)))) (h:Hp):Prop:=
 (if ((l.len:Int)==0)=true then
 Q 1 0 h
 else
 (if decide ((l.len:Int)>8) then
 Q 3 8 h
 else
 LoopW1 (α1:=Int) (fun again i h1=>
 (if decide (i<(l.len:Int)) then
 ((InB l.base l.len i)/\LdW none (shInt .u64) h1 (sat l.base 1 i) fun x=>
 ((InB l.base l.len (IntKind.wrap .i64 (i-1)))/\LdW none (shInt .u64) h1 (sat l.base 1 (IntKind.wrap .i64 (i-1))) fun x1=>
 (if (x==x1)=true then
 Q 8 i h1
 else
 ((InB l.base l.len i)/\LdW none (shInt .u64) h1 (sat l.base 1 i) fun x2=>
 ((InB l.base l.len (IntKind.wrap .i64 (i-1)))/\LdW none (shInt .u64) h1 (sat l.base 1 (IntKind.wrap .i64 (i-1))) fun x3=>
 (if decide (x2<x3) then
 Q 7 i h1
 else
 again (IntKind.wrap .i64 (i+1)) h1))))))
 else
 Q 0 0 h1)) 1 h))
def zfw (P:Program) (l:Sl) (parts:Int) (Q:(Int->(Hp->Prop))) (h:Hp):Prop:=
 (if ((l.len:Int)==0)=true then
 Q 1 h
 else
 (if decide ((l.len:Int)>64) then
 Q 3 h
 else
 LoopW1 (α1:=Int) (fun again i h1=>
 (if decide (i<(l.len:Int)) then
 ((InB l.base l.len i)/\LdW none yH h1 (sat l.base 1 i) fun x=>
 CallT P zbc [(yI x),(yI 0),(yI (IntKind.wrap .i64 (parts-1)))] zad (fun r h2=>
 (if (!r)=true then
 Q 2 h2
 else
 again (IntKind.wrap .i64 (i+1)) h2)) h1)
 else
 Q 0 h1)) 0 h))
def zfx (P:Program) (n:Int) (least:Int) (most:Int) (Q:(Bool->(Hp->Prop))) (h:Hp):Prop:=
 LetW ((decide (n>=least))&&(decide (n<=most))) fun y=>
 Q y h
def zjh (P:Program) (l:Sl) (locks:Int) (Q:(Int->(Int->(Hp->Prop)))) (h:Hp):Prop:=
 LetW ((decide (locks<0)) || (decide (locks>8))) fun y=>
 (if y then
 Q 1 0 h
 else
 (if decide ((l.len:Int)>256) then
 Q 3 256 h
 else
 LoopW1 (α1:=Int) (fun again i h1=>
 (if decide (i<(l.len:Int)) then
 ((InB l.base l.len i)/\LdW none sh_api_Ins h1 (sat l.base 5 i) fun x=>
 CallT P zmh [x.v,(yI (l.len:Int)),(yI locks)] yH (fun r h2=>
 (if (r !=0)=true then
 Q r i h2
 else
 again (IntKind.wrap .i64 (i+1)) h2)) h1)
 else
 Q 0 0 h1)) 0 h))
def zpz (P:Program) (l:Sl) (Q:(Int->(Int->(Hp->Prop)))) (h:Hp):Prop:=
 (if ((l.len:Int)==0)=true then
 Q 1 0 h
 else
 (if decide ((l.len:Int)>8) then
 Q 3 8 h
 else
 LoopW1 (α1:=Int) (fun again i h1=>
 (if decide (i<(l.len:Int)) then
 ((InB l.base l.len i)/\LdW none (shInt .u64) h1 (sat l.base 1 i) fun x=>
 ((InB l.base l.len (IntKind.wrap .i64 (i-1)))/\LdW none (shInt .u64) h1 (sat l.base 1 (IntKind.wrap .i64 (i-1))) fun x1=>
 (if (x==x1)=true then
 Q 8 i h1
 else
 ((InB l.base l.len i)/\LdW none (shInt .u64) h1 (sat l.base 1 i) fun x2=>
 ((InB l.base l.len (IntKind.wrap .i64 (i-1)))/\LdW none (shInt .u64) h1 (sat l.base 1 (IntKind.wrap .i64 (i-1))) fun x3=>
 (if decide (x2<x3) then
 Q 7 i h1
 else
 again (IntKind.wrap .i64 (i+1)) h1))))))
 else
 Q 0 0 h1)) 1 h))
def zcd1 (P:Program) (n:Int) (most:Int) (Q:(Int->(Hp->Prop))) (h:Hp):Prop:=
 (if (n==0)=true then
 Q 1 h
 else
 (if decide (n>most) then
 Q 3 h
 else
 Q 0 h))
def zqa (P:Program) (table:Sl) (parts:Int) (Q:(Option Addr->(Int->(Int->(Hp->Prop))))) (h:Hp):Prop:=
 NewW [(yI parts)] (fun a h1=>
 LdW none yH h1 a fun x=>
 LdW (some (!(decide (x<1)))) yH h1 a fun x1=>
 LetW ((decide (x<1)) || (decide (x1>8))) fun y=>
 LetW (y || ((table.len:Int)==0)) fun y1=>
 (if y1 then
 Q none 1 0 h1
 else
 (if decide ((table.len:Int)>64) then
 Q none 3 64 h1
 else
 CallT P zea [table.v,(.func (.func 131) #[] #[(yP (some a))])] yH (fun r h2=>
 (if decide (r>=0) then
 Q none 2 r h2
 else
 LdW none yH h2 a fun x2=>
 CallT P zdw [table.v] shSl (fun r1 h3=>
 (((LdIs h3 a [(yI x2)])/\True)/\NewW [r1.v,(yI x2)] (fun a1 h4=>
 Q (some a1) 0 0 h4) h3)) h2)) h1))) h
def zuo (P:Program) (part:Int) (n:Int) (Q:(Int->(Hp->Prop))) (h:Hp):Prop:=
 (if (part==2)=true then
 CallT P ziq [(yI n),(yI 1),(yI 256)] zad (fun r h1=>
 (if (!r)=true then
 Q 2 h1
 else
 Q 0 h1)) h
 else
 (if (part==3)=true then
 CallT P ziq [(yI n),(yI 1),(yI 64)] zad (fun r h1=>
 (if (!r)=true then
 Q 2 h1
 else
 Q 0 h1)) h
 else
 (if (part==4)=true then
 CallT P ziq [(yI n),(yI 0),(yI 8)] zad (fun r h1=>
 (if (!r)=true then
 Q 2 h1
 else
 Q 0 h1)) h
 else
 (if (part==5)=true then
 CallT P ziq [(yI n),(yI 0),(yI 4096)] zad (fun r h1=>
 (if (!r)=true then
 Q 2 h1
 else
 Q 0 h1)) h
 else
 Q 0 h))))
def zup (P:Program) (n:Int) (from_:Int) (to:Int) (Q:(Bool->(Hp->Prop))) (h:Hp):Prop:=
 LetW ((decide (n>=from_))&&(decide (n<=to))) fun y=>
 Q y h
def zfn1 (P:Program) (l:Sl) (locks:Int) (Q:(Int->(Int->(Hp->Prop)))) (h:Hp):Prop:=
 LetW ((decide (locks<0)) || (decide (locks>8))) fun y=>
 (if y then
 Q 1 0 h
 else
 (if decide ((l.len:Int)>256) then
 Q 3 256 h
 else
 LoopW1 (α1:=Int) (fun again t22 h1=>
 (if decide (t22<(l.len:Int)) then
 ((InB l.base l.len t22)/\LdW none sh_api_Ins h1 (sat l.base 5 t22) fun x=>
 CallT P zyb [x.v,(yI (l.len:Int)),(yI locks)] yH (fun r h2=>
 (if (r !=0)=true then
 Q r t22 h2
 else
 again (IntKind.wrap .i64 (t22+1)) h2)) h1)
 else
 Q 0 0 h1)) 0 h))
def zce1 (P:Program) (owners:Sl) (queues:Sl) (Q:(Option Addr->(Int->(Hp->Prop)))) (h:Hp):Prop:=
 LetW ((decide ((owners.len:Int)>8)) || (decide ((queues.len:Int)>8))) fun y=>
 (if y then
 Q none 3 h
 else
 (if ((owners.len:Int) !=(queues.len:Int))=true then
 Q none 4 h
 else
 NewW [yN] (fun a h1=>
 LoopW1 (α1:=Int) (fun again t30 h2=>
 (if decide (t30<(owners.len:Int)) then
 ((InB owners.base owners.len t30)/\LdW none yH h2 (sat owners.base 1 t30) fun x=>
 ((((!(decide (x<(-1))))&&(x==(-1)))=true->(InB queues.base queues.len t30))/\LdW (some ((!(decide (x<(-1))))&&(x==(-1)))) shSl h2 (sat queues.base 1 t30) fun x1=>
 LetW ((x==(-1))&&(decide ((x1.len:Int)>0))) fun y1=>
 LetW ((decide (x<(-1))) || y1) fun y2=>
 (if y2 then
 Q none 4 h2
 else
 NilW none (some a) fun p=>
 yLs h2 p 0 fun x2=>
 NewW [(yI x),yN] (fun a1 h3=>
 zao 2 32 [(yI 0),yN] x2 ⟨(some a1),1,1⟩ (fun r h4=>
 NilW none (some a) fun p1=>
 StW h4 (Addr.add p1 0) [r.v] (fun h5=>
 ((InB queues.base queues.len t30)/\LdW none shSl h5 (sat queues.base 1 t30) fun x3=>
 LoopW1 (α1:=Int) (fun again1 t65 h6=>
 (if decide (t65<(x3.len:Int)) then
 ((InB x3.base x3.len t65)/\LdW none yH h6 (sat x3.base 1 t65) fun x4=>
 Call2 P zfs [(yP (some a)),(yI x4)] yH zad (fun r1 r2 h7=>
 LetW (r2 || (decide (x4<0))) fun y3=>
 LetW (y3 || (x4==x)) fun y4=>
 (if y4 then
 Q none 4 h7
 else
 NilW none (some a) fun p2=>
 yLs h7 p2 0 fun x5=>
 NilW none (some a) fun p3=>
 yLs h7 p3 0 fun x6=>
 ((InB x6.base x6.len t30)/\LdW none shSl h7 (Addr.add (sat x6.base 2 t30) 1) fun x7=>
 NewW [(yI x4)] (fun a2 h8=>
 (((LdIs h8 (Addr.add p2 0) [x5.v])/\((LdIs h8 (Addr.add p3 0) [x6.v])/\((LdIs h8 (Addr.add (sat x6.base 2 t30) 1) [x7.v])/\True)))/\zao 1 8 [(yI 0)] x7 ⟨(some a2),1,1⟩ (fun r3 h9=>
 (((LdIs h9 (Addr.add p2 0) [x5.v])/\True)/\((InB x5.base x5.len t30)/\StW h9 (Addr.add (sat x5.base 2 t30) 1) [r3.v] (fun h10=>
 again1 (IntKind.wrap .i64 (t65+1)) h10)))) h8)) h7))) h6)
 else
 again (IntKind.wrap .i64 (t30+1)) h6)) 0 h5))) h3) h2)))
 else
 Q (some a) 0 h2)) 0 h1) h))
def zuq (P:Program)  (Q:(Option Addr->(Hp->Prop))) (h:Hp):Prop:=
 zdn1  (fun r h1=>
 NewW [yN,(.map r)] (fun a h2=>
 Q (some a) h2) h1) h
def zfo1 (P:Program) (room:Int) (l:Sl) (cursor:Int) (Q:(Option Addr->(Int->(Hp->Prop)))) (h:Hp):Prop:=
 LetW ((decide ((l.len:Int)<1)) || (decide ((l.len:Int)>9))) fun y=>
 LetW (y || (decide (room<1))) fun y1=>
 LetW (y1 || (decide (room>64))) fun y2=>
 (if y2 then
 Q none 1 h
 else
 LetW ((decide (cursor<0)) || (decide (cursor>=(l.len:Int)))) fun y3=>
 (if y3 then
 Q none 2 h
 else
 NewW [yN,(yI cursor)] (fun a h1=>
 LoopW1 (α1:=Int) (fun again t44 h2=>
 (if decide (t44<(l.len:Int)) then
 ((InB l.base l.len t44)/\LdW none sh_api_Lane h2 (sat l.base 4 t44) fun x=>
 Call2 P zfk1 [(yI room),x.v] shPtr yH (fun r r1 h3=>
 (if (r1 !=0)=true then
 Q none 4 h3
 else
 NilW none (some a) fun p=>
 yLs h3 p 0 fun x1=>
 NewW [(yP r)] (fun a1 h4=>
 zao 1 8 [(yP none)] x1 ⟨(some a1),1,1⟩ (fun r2 h5=>
 NilW none (some a) fun p1=>
 StW h5 (Addr.add p1 0) [r2.v] (fun h6=>
 again (IntKind.wrap .i64 (t44+1)) h6)) h4) h3)) h2)
 else
 Q (some a) 0 h2)) 0 h1) h))
def zit (P:Program) (w:Option Addr) (id_:Int) (due:Int) (Q:(Int->(Hp->Prop))) (h:Hp):Prop:=
 LetW ((decide (id_<0)) || (decide (due<0))) fun y=>
 (if y then
 Q 1 h
 else
 CallT P zby [(yP w),(yI id_)] zad (fun r h1=>
 NilW none w fun p=>
 yLs h1 p 0 fun x=>
 Call2 P zah [x.v,(.agg #[(yI due),(yI id_)]),(.func (.func 136) #[] #[])] yH zad (fun r1 r2 h2=>
 NilW none w fun p1=>
 yLs h2 p1 0 fun x1=>
 NewW [(yI due),(yI id_)] (fun a h3=>
 (((LdIs h3 (Addr.add p1 0) [x1.v])/\True)/\CallT P zbk [x1.v,(yI r1),(.slice (some a) 1 1)] shSl (fun r3 h4=>
 NilW none w fun p2=>
 StW h4 (Addr.add p2 0) [r3.v] (fun h5=>
 NilW none w fun p3=>
 LdW none shMap h5 (Addr.add p3 1) fun x2=>
 zbo1 (.int .i64) x2 (yI id_) (.agg #[(yI due),(yI id_)]) (fun h6=>
 Q 0 h6) h5)) h3)) h2) h1) h)
def zfy (P:Program) (x:Sl) (count:Int) (Q:(Sl->(Hp->Prop))) (h:Hp):Prop:=
 JoinW0 (fun k=>
 (if decide (count<0) then
 False
 else
 k h))
 (fun h1=>
 Call2 P zpu [(.int .u64 (IntKind.wrap .u64 (x.len:Int))),(.int .u64 (IntKind.wrap .u64 count))] (shInt .u64) (shInt .u64) (fun r r1 h2=>
 JoinW0 (fun k=>
 LetW ((decide (r>0)) || (decide (r1>9223372036854775807))) fun y=>
 (if y then
 False
 else
 k h2))
 (fun h3=>
 MakeW 8 [(yI 0)] (IntKind.wrap .i64 r1) (IntKind.wrap .i64 r1) (fun r2 h4=>
 CopyW 1 r2 x (fun r3 h5=>
 LoopW1 (α1:=Int) (fun again n h6=>
 (if decide (n<(r2.len:Int)) then
 ((0<=n/\n<=(r2.len:Int))/\LetW (α:=Sl) ⟨(sbase r2.base 1 (Int.toNat n) r2.cap),(r2.len-(Int.toNat n)),(r2.cap-(Int.toNat n))⟩ fun y=>
 ((0<=n/\n<=(r2.cap:Int))/\LetW (α:=Sl) ⟨(sbase r2.base 1 0 r2.cap),((Int.toNat n)-0),(r2.cap-0)⟩ fun y1=>
 CopyW 1 y y1 (fun r4 h7=>
 again (IntKind.wrap .i64 (n+r4)) h7) h6))
 else
 Q r2 h6)) r3 h5) h4) h3)) h1)
def zcc (P:Program) (s:Sl) (Q:(Sl->(Hp->Prop))) (h:Hp):Prop:=
 SemV none P (binS .eql 23 (.tmp 3) (.const yN) s.v yN) zad h fun x=>
 (if x then
 Q ⟨none,0,0⟩ h
 else
 NewW [] (fun a h1=>
 zao 1 8 [(.int .u64 0)] ⟨(some a),0,0⟩ s (fun r h2=>
 Q r h2) h1) h)
def zbo (P:Program) (s:Sl) (Q:(Sl->(Hp->Prop))) (h:Hp):Prop:=
 SemV none P (binS .eql 24 (.tmp 3) (.const yN) s.v yN) zad h fun x=>
 (if x then
 Q ⟨none,0,0⟩ h
 else
 NewW [] (fun a h1=>
 zao 1 8 [(yI 0)] ⟨(some a),0,0⟩ s (fun r h2=>
 Q r h2) h1) h)
def zez (P:Program) (s:Sl) (Q:(Sl->(Hp->Prop))) (h:Hp):Prop:=
 SemV none P (binS .eql 25 (.tmp 3) (.const yN) s.v yN) zad h fun x=>
 (if x then
 Q ⟨none,0,0⟩ h
 else
 NewW [] (fun a h1=>
 zao 2 32 [(yI 0),yN] ⟨(some a),0,0⟩ s (fun r h2=>
 Q r h2) h1) h)
def zfk (P:Program) (s:Sl) (Q:(Sl->(Hp->Prop))) (h:Hp):Prop:=
 SemV none P (binS .eql 77 (.tmp 3) (.const yN) s.v yN) zad h fun x=>
 (if x then
 Q ⟨none,0,0⟩ h
 else
 NewW [] (fun a h1=>
 zao 5 40 [(yI 0),(yI 0),(yI 0),(yI 0),(yI 0)] ⟨(some a),0,0⟩ s (fun r h2=>
 Q r h2) h1) h)
def zmu (P:Program) (l:Option Addr) (Q:(S_api_Lane->(Hp->Prop))) (h:Hp):Prop:=
 NilW none l fun p=>
 yLs h p 1 fun x=>
 NilW none l fun p1=>
 yLs h p1 2 fun x1=>
 NilW none l fun p2=>
 yLi h p2 3 fun x2=>
 NilW none l fun p3=>
 yLi h p3 4 fun x3=>
 CallT P zeb [x.v] shSl (fun r h1=>
 (((LdIs h1 (Addr.add p1 2) [x1.v])/\((LdIs h1 (Addr.add p2 3) [(yI x2)])/\((LdIs h1 (Addr.add p3 4) [(yI x3)])/\True)))/\CallT P zbt [x1.v] shSl (fun r1 h2=>
 (((LdIs h2 (Addr.add p2 3) [(yI x2)])/\((LdIs h2 (Addr.add p3 4) [(yI x3)])/\True))/\Q ⟨r,r1,x2,x3⟩ h2)) h1)) h
def zji (P:Program) (a:S_machine_asked) (i:Int) (Q:(Int->(Hp->Prop))) (h:Hp):Prop:=
 LoopW2 (α1:=Int) (α2:=Int) (fun again n t12 h1=>
 (if decide (t12<(a.c_Procs.len:Int)) then
 JoinW1 (α1:=Int) (fun k=>
 ((InB a.c_Procs.base a.c_Procs.len t12)/\LdW none sh_api_Proc h1 (sat a.c_Procs.base 2 t12) fun x=>
 (if (x.Part==i)=true then
 k (IntKind.wrap .i64 (n+1)) h1
 else
 k n h1)))
 (fun n1 h2=>
 again n1 (IntKind.wrap .i64 (t12+1)) h2)
 else
 Q n h1)) 0 0 h
def zlp (P:Program) (a:S_machine_asked) (p:Int) (i:Int) (Q:(Bool->(Hp->Prop))) (h:Hp):Prop:=
 LetW ((decide (p>=0))&&(decide (p<(a.c_Procs.len:Int)))) fun y=>
 ((y=true->(InB a.c_Procs.base a.c_Procs.len p))/\LdW (some y) yH h (Addr.add (sat a.c_Procs.base 2 p) 0) fun x=>
 LetW (y&&(x==i)) fun y1=>
 Q y1 h)
def zqb (P:Program) (n:Int) (Q:(Bool->(Hp->Prop))) (h:Hp):Prop:=
 LetW ((decide (n>=0))&&(decide (n<=65535))) fun y=>
 Q y h
def zgk (P:Program) (s:Sl) (f:FnV) (Q:(Bool->(Hp->Prop))) (h:Hp):Prop:=
 CallT P zea [s.v,(.func (.func f.g) f.first f.captured)] yH (fun r h1=>
 Q (decide (r>=0)) h1) h
def zgz (P:Program) (p:Int) (a1:Addr) (a2:Addr) (Q:(Bool->(Hp->Prop))) (h:Hp):Prop:=
 LdW (some (p !=(-1))) sh_machine_asked h a1 fun x=>
 LdW (some (p !=(-1))) yH h a2 fun x1=>
 EffC (some (p !=(-1))) (CallT P zeg [x.v,(yI p),(yI x1)] zad) (fun r h1=>
 LdW (some ((p !=(-1))&&(!(!r)))) shSl h1 (Addr.add (Addr.add a1 7) 2) fun x2=>
 ((((p !=(-1))&&(!(!r)))=true->(InB x2.base x2.len p))/\LdW (some ((p !=(-1))&&(!(!r)))) yH h1 (Addr.add (sat x2.base 15 p) 0) fun x3=>
 EffC (some ((p !=(-1))&&(!(!r)))) (CallT P zdt [(yI x3)] zad) (fun r1 h2=>
 LetW ((!r) || (!r1)) fun y=>
 LetW ((p !=(-1))&&y) fun y1=>
 Q y1 h2) h1)) h
def zic (P:Program) (state:Int) (Q:(Bool->(Hp->Prop))) (h:Hp):Prop:=
 LetW ((state !=5)&&(state !=6)) fun y=>
 Q y h
def zkf (P:Program) (t:Option Addr) (i:Int) (j:Int) (Q:(Bool->(Hp->Prop))) (h:Hp):Prop:=
 CallT P znz [(yP t),(yI i)] zad (fun r h1=>
 EffC (some r) (CallT P znz [(yP t),(yI j)] zad) (fun r1 h2=>
 LetW (r&&r1) fun y=>
 NilW (some y) t fun p=>
 LdW (some y) shSl h2 (Addr.add p 0) fun x=>
 ((y=true->(InB x.base x.len i))/\LdW (some y) (shInt .u64) h2 (sat x.base 1 i) fun x1=>
 NilW (some y) t fun p1=>
 LdW (some y) shSl h2 (Addr.add p1 0) fun x2=>
 ((y=true->(InB x2.base x2.len j))/\LdW (some y) (shInt .u64) h2 (sat x2.base 1 j) fun x3=>
 EffC (some y) (CallT P zdy1 [(.int .u64 x1),(.int .u64 x3)] zad) (fun r2 h3=>
 LetW (y&&r2) fun y1=>
 Q y1 h3) h2))) h1) h
def zlq (P:Program) (a:S_machine_asked) (p:Int) (Q:(Int->(Hp->Prop))) (h:Hp):Prop:=
 CallT P zfo [a.v,(yI p)] sh_api_Ins (fun r h1=>
 Q r.Op h1) h
def zkg (P:Program) (a:S_machine_asked) (p:Int) (Q:(S_api_Ins->(Hp->Prop))) (h:Hp):Prop:=
 ((InB a.c_Procs.base a.c_Procs.len p)/\LdW none shSl h (Addr.add (sat a.c_Procs.base 2 p) 1) fun x=>
 ((InB a.s_Procs.base a.s_Procs.len p)/\LdW none yH h (Addr.add (sat a.s_Procs.base 15 p) 1) fun x1=>
 LetW ((decide (x1<0)) || (decide (x1>=(x.len:Int)))) fun y=>
 (if y then
 Q ⟨(-1),0,0,0,0⟩ h
 else
 ((InB x.base x.len x1)/\LdW none sh_api_Ins h (sat x.base 5 x1) fun x2=>
 Q x2 h))))
def zid (P:Program) (a:S_machine_asked) (w:S_api_Waiter) (r:Int) (Q:(Bool->(Hp->Prop))) (h:Hp):Prop:=
 ((InB a.s_Procs.base a.s_Procs.len w.Proc)/\LdW none sh_api_Process h (sat a.s_Procs.base 15 w.Proc) fun x=>
 CallT P zfo [a.v,(yI w.Proc)] sh_api_Ins (fun r1 h1=>
 ((True/\(True/\((LdIs h1 (sat a.s_Procs.base 15 w.Proc) [(yI x.State),(yI x.PC),(yI x.Regs_0),(yI x.Regs_1),(yI x.Regs_2),(yI x.Regs_3),(yI x.Regs_4),(yI x.Regs_5),(yI x.Regs_6),(yI x.Regs_7),(yI x.Cursor),(yI x.Timer),(.bool x.Fired),(yI x.Wake),x.Lanes.v])/\True)))/\LetW ((x.State==2)&&(r1.Op==24)) fun y=>
 ((y=true->(0<=r1.B/\r1.B<8))/\∃x1:Int,((y=true->(List.get?Internal (α:=Value) [(yI x.State),(yI x.PC),(yI x.Regs_0),(yI x.Regs_1),(yI x.Regs_2),(yI x.Regs_3),(yI x.Regs_4),(yI x.Regs_5),(yI x.Regs_6),(yI x.Regs_7),(yI x.Cursor),(yI x.Timer),(.bool x.Fired),(yI x.Wake),x.Lanes.v] (2+((Int.toNat r1.B)*1)))=(some (yI x1)))/\LetW (y&&(x1==r)) fun y1=>
 ((y1=true->(0<=r1.C/\r1.C<8))/\∃x2:Int,((y1=true->(List.get?Internal (α:=Value) [(yI x.State),(yI x.PC),(yI x.Regs_0),(yI x.Regs_1),(yI x.Regs_2),(yI x.Regs_3),(yI x.Regs_4),(yI x.Regs_5),(yI x.Regs_6),(yI x.Regs_7),(yI x.Cursor),(yI x.Timer),(.bool x.Fired),(yI x.Wake),x.Lanes.v] (2+((Int.toNat r1.C)*1)))=(some (yI x2)))/\LetW (y1&&(x2==w.Value_)) fun y2=>
 Q y2 h1)))))) h)
def ziu (P:Program) (w:Option Addr) (now:Int) (Q:(Sl->(Hp->Prop))) (h:Hp):Prop:=
 LoopW1 (α1:=Sl) (fun again out h1=>
 NilW none w fun p=>
 yLs h1 p 0 fun x=>
 NilW (some (decide ((x.len:Int)>0))) w fun p1=>
 LdW (some (decide ((x.len:Int)>0))) shSl h1 (Addr.add p1 0) fun x1=>
 (((decide ((x.len:Int)>0))=true->(InB x1.base x1.len 0))/\LdW (some (decide ((x.len:Int)>0))) yH h1 (Addr.add (sat x1.base 2 0) 0) fun x2=>
 LetW ((decide ((x.len:Int)>0))&&(decide (x2<=now))) fun y=>
 (if y then
 NilW none w fun p2=>
 yLs h1 p2 0 fun x3=>
 ((InB x3.base x3.len 0)/\LdW none yH h1 (Addr.add (sat x3.base 2 0) 1) fun x4=>
 NewW [(yI x4)] (fun a h2=>
 zao 1 8 [(yI 0)] out ⟨(some a),1,1⟩ (fun r h3=>
 CallT P zby [(yP w),(yI x4)] zad (fun r1 h4=>
 again r h4) h3) h2) h1)
 else
 Q out h1))) ⟨none,0,0⟩ h
def zha (P:Program) (m:Option Addr) (p:Option Addr) (c:S_cpu_Core) (Q:(Hp->Prop)) (h:Hp):Prop:=
 NilW none p fun p1=>
 StW h (Addr.add p1 3) [(yI 0)] (fun h1=>
 ((True/\True)/\NilW none p fun p2=>
 StW h1 (Addr.add p2 4) [(yI c.PC),(yI c.Regs_0),(yI c.Regs_1),(yI c.Regs_2),(yI c.Regs_3),(yI c.Regs_4),(yI c.Regs_5),(yI c.Regs_6),(yI c.Regs_7)] (fun h2=>
 Q h2)))
def zfp1 (P:Program) (c:S_cpu_Core) (Q:(S_cpu_Core->(Hp->Prop))) (h:Hp):Prop:=
 Q ⟨(IntKind.wrap .i64 (c.PC+1)),c.Regs_0,c.Regs_1,c.Regs_2,c.Regs_3,c.Regs_4,c.Regs_5,c.Regs_6,c.Regs_7⟩ h
def zfq1 (P:Program) (c:S_cpu_Core) (l:Sl) (tick:Int) (self:Int) (Q:(S_cpu_Core->(S_cpu_Want->(Hp->Prop)))) (h:Hp):Prop:=
 NewW [(yI c.PC),(yI c.Regs_0),(yI c.Regs_1),(yI c.Regs_2),(yI c.Regs_3),(yI c.Regs_4),(yI c.Regs_5),(yI c.Regs_6),(yI c.Regs_7)] (fun a h1=>
 LdW none zae h1 a fun x=>
 Call2 P zdz1 [x.v,l.v] sh_api_Ins zad (fun r r1 h2=>
 EffC (some (!(!r1))) (CallT P zyb [r.v,(yI (l.len:Int)),(yI 8)] yH) (fun r2 h3=>
 LetW ((!r1) || (r2 !=0)) fun y=>
 (if y then
 LdW none zae h3 a fun x1=>
 Q x1 ⟨1,0,0⟩ h3
 else
 LdW none zeo h3 (Addr.add a 1) fun x1=>
 Call3 P zca1 [r.v,x1.v] zka zad zad (fun r3 r4 r5 h4=>
 (if r5 then
 (if r4 then
 LdW none zae h4 a fun x2=>
 ((True/\True)/\Q x2 r3 h4)
 else
 LdW none zae h4 a fun x2=>
 CallT P zgr [x2.v] zae (fun r6 h5=>
 ((True/\True)/\((True/\True)/\Q r6 r3 h5))) h4)
 else
 LdW none zeo h4 (Addr.add a 1) fun x2=>
 JoinW2 (α1:=S_cpu_Core) (α2:=S_cpu_Want) (fun k=>
 (if (r.Op==1)=true then
 Call0 P zbu [(yP (some a)),(yI r.A),(yI r.Imm)] (fun h5=>
 k ⟨0,0,0,0,0,0,0,0,0⟩ ⟨0,0,0⟩ h5) h4
 else
 (if (r.Op==2)=true then
 ((0<=r.B/\r.B<8)/\∃x3:Int,((List.get?Internal (α:=Value) [(yI x2.a0),(yI x2.a1),(yI x2.a2),(yI x2.a3),(yI x2.a4),(yI x2.a5),(yI x2.a6),(yI x2.a7)] (0+((Int.toNat r.B)*1)))=(some (yI x3))/\Call0 P zbu [(yP (some a)),(yI r.A),(yI x3)] (fun h5=>
 k ⟨0,0,0,0,0,0,0,0,0⟩ ⟨0,0,0⟩ h5) h4))
 else
 (if (r.Op==32)=true then
 Call0 P zbu [(yP (some a)),(yI r.A),(yI tick)] (fun h5=>
 k ⟨0,0,0,0,0,0,0,0,0⟩ ⟨0,0,0⟩ h5) h4
 else
 (if (r.Op==33)=true then
 Call0 P zbu [(yP (some a)),(yI r.A),(yI self)] (fun h5=>
 k ⟨0,0,0,0,0,0,0,0,0⟩ ⟨0,0,0⟩ h5) h4
 else
 (if (r.Op==22)=true then
 StW h4 (Addr.add a 0) [(yI r.Imm)] (fun h5=>
 LdW none zae h5 a fun x3=>
 Q x3 ⟨0,0,0⟩ h5)
 else
 (if (r.Op==23)=true then
 ((0<=r.A/\r.A<8)/\∃x3:Int,((List.get?Internal (α:=Value) [(yI x2.a0),(yI x2.a1),(yI x2.a2),(yI x2.a3),(yI x2.a4),(yI x2.a5),(yI x2.a6),(yI x2.a7)] (0+((Int.toNat r.A)*1)))=(some (yI x3))/\(if (x3==0)=true then
 k ⟨0,0,0,0,0,0,0,0,0⟩ ⟨0,0,0⟩ h4
 else
 StW h4 (Addr.add a 0) [(yI r.Imm)] (fun h5=>
 LdW none zae h5 a fun x4=>
 Q x4 ⟨0,0,0⟩ h5))))
 else
 ((0<=r.B/\r.B<8)/\∃x3:Int,((List.get?Internal (α:=Value) [(yI x2.a0),(yI x2.a1),(yI x2.a2),(yI x2.a3),(yI x2.a4),(yI x2.a5),(yI x2.a6),(yI x2.a7)] (0+((Int.toNat r.B)*1)))=(some (yI x3))/\((0<=r.C/\r.C<8)/\∃x4:Int,((List.get?Internal (α:=Value) [(yI x2.a0),(yI x2.a1),(yI x2.a2),(yI x2.a3),(yI x2.a4),(yI x2.a5),(yI x2.a6),(yI x2.a7)] (0+((Int.toNat r.C)*1)))=(some (yI x4))/\Call2 P zpt1 [(yI r.Op),(yI x3),(yI x4)] yH yH (fun r6 r7 h5=>
 JoinW1 (α1:=Int) (fun k1=>
 (if (r7 !=0)=true then
 ((0<=r.B/\r.B<8)/\∃x5:Int,((List.get?Internal (α:=Value) [(yI x2.a0),(yI x2.a1),(yI x2.a2),(yI x2.a3),(yI x2.a4),(yI x2.a5),(yI x2.a6),(yI x2.a7)] (0+((Int.toNat r.B)*1)))=(some (yI x5))/\((0<=r.C/\r.C<8)/\∃x6:Int,((List.get?Internal (α:=Value) [(yI x2.a0),(yI x2.a1),(yI x2.a2),(yI x2.a3),(yI x2.a4),(yI x2.a5),(yI x2.a6),(yI x2.a7)] (0+((Int.toNat r.C)*1)))=(some (yI x6))/\Call2 P zpu1 [(yI r.Op),(yI x5),(yI x6)] yH yH (fun r8 r9 h6=>
 k1 r8 h6) h5))))
 else
 k1 r6 h5))
 (fun v h6=>
 Call0 P zbu [(yP (some a)),(yI r.A),(yI v)] (fun h7=>
 k ⟨0,0,0,0,0,0,0,0,0⟩ ⟨0,0,0⟩ h7) h6)) h4)))))))))))
 (fun t8 t9 h5=>
 LdW none zae h5 a fun x3=>
 CallT P zgr [x3.v] zae (fun r6 h6=>
 Q r6 ⟨0,0,0⟩ h6) h5))) h3)) h2) h1) h
def zfz (P:Program) (m:Option Addr) (p:Option Addr) (to:Int) (v:Int) (Q:(Hp->Prop)) (h:Hp):Prop:=
 NilW (some (!(decide (to<0)))) m fun p1=>
 LdW (some (!(decide (to<0)))) shSl h (Addr.add p1 11) fun x=>
 LetW ((decide (to<0)) || (decide (to>=(x.len:Int)))) fun y=>
 (if y then
 Call0 P zak [(yP m),(yP p),(yI 1)] (fun h1=>
 Q h1) h
 else
 NilW none m fun p2=>
 yLs h p2 11 fun x1=>
 ((InB x1.base x1.len to)/\LdW none shPtr h (sat x1.base 1 to) fun x2=>
 NilW none m fun p3=>
 yLp h p3 7 fun x3=>
 NilW none p fun p4=>
 yLi h p4 1 fun x4=>
 NilW none x2 fun p5=>
 yLi h p5 1 fun x5=>
 CallT P zkb [(yP x3),(yI x4),(yI x5)] zad (fun r h1=>
 (if (!r)=true then
 NilW none m fun p6=>
 yLs h1 p6 10 fun x6=>
 NilW none p fun p7=>
 yLi h1 p7 1 fun x7=>
 ((InB x6.base x6.len x7)/\LdW none shPtr h1 (sat x6.base 1 x7) fun x8=>
 NilW none m fun p8=>
 yLs h1 p8 10 fun x9=>
 NilW none p fun p9=>
 yLi h1 p9 1 fun x10=>
 ((InB x9.base x9.len x10)/\LdW none shPtr h1 (sat x9.base 1 x10) fun x11=>
 NilW none x11 fun p10=>
 yLi h1 p10 4 fun x12=>
 CallT P znj [(yI x12)] yH (fun r1 h2=>
 (((LdIs h2 (Addr.add p6 10) [x6.v])/\((LdIs h2 (Addr.add p7 1) [(yI x7)])/\((LdIs h2 (sat x6.base 1 x7) [(yP x8)])/\True)))/\NilW none x8 fun p11=>
 StW h2 (Addr.add p11 4) [(yI r1)] (fun h3=>
 Call0 P zak [(yP m),(yP p),(yI 0)] (fun h4=>
 Q h4) h3))) h1))
 else
 NilW none p fun p6=>
 yLi h1 p6 1 fun x6=>
 NilW none x2 fun p7=>
 yLi h1 p7 1 fun x7=>
 (if (x6==x7)=true then
 Call0 P zfe [(yP m),(yP p),(yP x2),(yI v)] (fun h2=>
 Q h2) h1
 else
 JoinW0 (fun k=>
 NilW none x2 fun p8=>
 yLi h1 p8 3 fun x8=>
 CallT P zdt [(yI x8)] zad (fun r1 h2=>
 NilW (some (!(!r1))) x2 fun p9=>
 LdW (some (!(!r1))) shPtr h2 (Addr.add p9 14) fun x9=>
 NilW (some (!(!r1))) p fun p10=>
 LdW (some (!(!r1))) yH h2 (Addr.add p10 1) fun x10=>
 EffC (some (!(!r1))) (CallT P zlg [(yP x9),(yI x10),(yI v)] yH) (fun r2 h3=>
 LetW ((!r1) || (r2 !=0)) fun y1=>
 (if y1 then
 NilW none x2 fun p11=>
 yLp h3 p11 14 fun x11=>
 NilW none p fun p12=>
 yLi h3 p12 1 fun x12=>
 Call0 P zgi [(yP x11),(yI x12)] (fun h4=>
 k h4) h3
 else
 Call0 P zco [(yP m),(yP x2)] (fun h4=>
 k h4) h3)) h2) h1)
 (fun h2=>
 Call0 P zak [(yP m),(yP p),(yI 0)] (fun h3=>
 Q h3) h2)))) h))
def zga (P:Program) (m:Option Addr) (p:Option Addr) (try_:Bool) (Q:(Hp->Prop)) (h:Hp):Prop:=
 NilW none p fun p1=>
 yLp h p1 14 fun x=>
 Call5 P zoa [(yP x)] yH yH sh_api_Waiter zad yH (fun r r1 r2 r3 r4 h1=>
 (if (r4==0)=true then
 NilW none p fun p2=>
 LdW none zae h1 (Addr.add p2 4) fun x1=>
 NilW none p fun p3=>
 yLs h1 p3 2 fun x2=>
 CallT P zzw [x1.v,x2.v,(yI r),(yI r1)] zae (fun r5 h2=>
 NilW none p fun p4=>
 StW h2 (Addr.add p4 4) [(yI r5.PC),(yI r5.Regs_0),(yI r5.Regs_1),(yI r5.Regs_2),(yI r5.Regs_3),(yI r5.Regs_4),(yI r5.Regs_5),(yI r5.Regs_6),(yI r5.Regs_7)] (fun h3=>
 (if r3 then
 NilW none m fun p5=>
 yLs h3 p5 11 fun x3=>
 ((InB x3.base x3.len r2.Proc)/\LdW none shPtr h3 (sat x3.base 1 r2.Proc) fun x4=>
 Call0 P zak [(yP m),(yP x4),(yI 0)] (fun h4=>
 Q h4) h3)
 else
 Q h3))) h1
 else
 NilW none p fun p2=>
 LdW none zad h1 (Addr.add p2 13) fun x1=>
 (if x1 then
 NilW none p fun p3=>
 StW h1 (Addr.add p3 13) [(.bool false)] (fun h2=>
 NilW none p fun p4=>
 LdW none zae h2 (Addr.add p4 4) fun x2=>
 NilW none p fun p5=>
 yLs h2 p5 2 fun x3=>
 CallT P zzw [x2.v,x3.v,(yI 0),(yI (-2))] zae (fun r5 h3=>
 NilW none p fun p6=>
 StW h3 (Addr.add p6 4) [(yI r5.PC),(yI r5.Regs_0),(yI r5.Regs_1),(yI r5.Regs_2),(yI r5.Regs_3),(yI r5.Regs_4),(yI r5.Regs_5),(yI r5.Regs_6),(yI r5.Regs_7)] (fun h4=>
 Q h4)) h2)
 else
 (if try_ then
 NilW none p fun p3=>
 LdW none zae h1 (Addr.add p3 4) fun x2=>
 NilW none p fun p4=>
 yLs h1 p4 2 fun x3=>
 CallT P zzw [x2.v,x3.v,(yI 0),(yI (-1))] zae (fun r5 h2=>
 NilW none p fun p5=>
 StW h2 (Addr.add p5 4) [(yI r5.PC),(yI r5.Regs_0),(yI r5.Regs_1),(yI r5.Regs_2),(yI r5.Regs_3),(yI r5.Regs_4),(yI r5.Regs_5),(yI r5.Regs_6),(yI r5.Regs_7)] (fun h3=>
 Q h3)) h1
 else
 NilW none p fun p3=>
 StW h1 (Addr.add p3 3) [(yI 1)] (fun h2=>
 Q h2))))) h
def zgb (P:Program) (w:Option Addr) (id_:Int) (Q:(Bool->(Hp->Prop))) (h:Hp):Prop:=
 NilW none w fun p=>
 LdW none shMap h (Addr.add p 1) fun x=>
 LookW none (.int .i64) sh_wheel_entry (.agg #[(yI 0),(yI 0)]) x (yI id_) h fun x1 ok=>
 (if (!ok)=true then
 Q false h
 else
 NilW none w fun p1=>
 yLs h p1 0 fun x2=>
 LoopW1 (α1:=Int) (fun again t25 h1=>
 (if decide (t25<(x2.len:Int)) then
 ((InB x2.base x2.len t25)/\LdW none sh_wheel_entry h1 (sat x2.base 2 t25) fun x3=>
 SemV none P (binS .eql 165 (.tmp 30) (.tmp 31) x3.v x1.v) zad h1 fun x4=>
 (if x4 then
 NilW none w fun p2=>
 yLs h1 p2 0 fun x5=>
 CallT P zdc [x5.v,(yI t25),(yI (IntKind.wrap .i64 (t25+1)))] shSl (fun r h2=>
 NilW none w fun p3=>
 StW h2 (Addr.add p3 0) [r.v] (fun h3=>
 NilW none w fun p4=>
 LdW none shMap h3 (Addr.add p4 1) fun x6=>
 zjf1 (.int .i64) x6 (yI id_) (fun h4=>
 Q true h4) h3)) h1
 else
 again (IntKind.wrap .i64 (t25+1)) h1))
 else
 NilW none w fun p2=>
 LdW none shMap h1 (Addr.add p2 1) fun x3=>
 zjf1 (.int .i64) x3 (yI id_) (fun h2=>
 Q true h2) h1)) 0 h)
def zlr (P:Program) (l:Option Addr) (n:Int) (p:Int) (Q:(Bool->(Int->(Hp->Prop)))) (h:Hp):Prop:=
 CallT P zkc [(yP l),(yI n),(yI p)] yH (fun r h1=>
 (if (r !=0)=true then
 Q false r h1
 else
 Call2 P zfs [(yP l),(yI p)] yH zad (fun r1 r2 h2=>
 (if r2 then
 Q false 20 h2
 else
 NilW none l fun p1=>
 yLs h2 p1 0 fun x=>
 ((InB x.base x.len n)/\JoinW0 (fun k=>
 NilW none (some (sat x.base 2 n)) fun p2=>
 yLi h2 p2 0 fun x1=>
 (if (x1==(-1))=true then
 NilW none (some (sat x.base 2 n)) fun p3=>
 StW h2 (Addr.add p3 0) [(yI p)] (fun h3=>
 k h3)
 else
 k h2))
 (fun h3=>
 NilW none (some (sat x.base 2 n)) fun p2=>
 yLi h3 p2 0 fun x1=>
 (if (x1 !=p)=true then
 NilW none (some (sat x.base 2 n)) fun p3=>
 yLs h3 p3 1 fun x2=>
 NewW [(yI p)] (fun a h4=>
 zao 1 8 [(yI 0)] x2 ⟨(some a),1,1⟩ (fun r3 h5=>
 NilW none (some (sat x.base 2 n)) fun p4=>
 StW h5 (Addr.add p4 1) [r3.v] (fun h6=>
 NilW none (some (sat x.base 2 n)) fun p5=>
 yLi h6 p5 0 fun x3=>
 Q (x3==p) 0 h6)) h4) h3
 else
 NilW none (some (sat x.base 2 n)) fun p3=>
 yLi h3 p3 0 fun x2=>
 Q (x2==p) 0 h3))))) h1)) h
def zeq (P:Program) (s:Sl) (v:Int) (Q:(Bool->(Hp->Prop))) (h:Hp):Prop:=
 CallT P zgt [s.v,(yI v)] yH (fun r h1=>
 Q (decide (r>=0)) h1) h
def zkh (P:Program) (l:Option Addr) (p:Int) (Q:(Sl->(Hp->Prop))) (h:Hp):Prop:=
 NilW none l fun p1=>
 yLs h p1 0 fun x=>
 LoopW2 (α1:=Sl) (α2:=Int) (fun again out t13 h1=>
 (if decide (t13<(x.len:Int)) then
 JoinW1 (α1:=Sl) (fun k=>
 ((InB x.base x.len t13)/\LdW none sh_locks_lock h1 (sat x.base 2 t13) fun x1=>
 LetW ((x1.owner==p)&&(p !=(-1))) fun y=>
 (if y then
 NewW [(yI t13)] (fun a h2=>
 zao 1 8 [(yI 0)] ⟨out.base,out.len,out.cap⟩ ⟨(some a),1,1⟩ (fun r h3=>
 k r h3) h2) h1
 else
 k ⟨out.base,out.len,out.cap⟩ h1)))
 (fun out1 h2=>
 again out1 (IntKind.wrap .i64 (t13+1)) h2)
 else
 Q ⟨out.base,out.len,out.cap⟩ h1)) ⟨none,0,0⟩ 0 h
def zls (P:Program) (l:Option Addr) (n:Int) (p:Int) (Q:(Int->(Int->(Hp->Prop)))) (h:Hp):Prop:=
 CallT P zkc [(yP l),(yI n),(yI p)] yH (fun r h1=>
 (if (r !=(0:Int))=true then
 Q (0:Int) r h1
 else
 NilW none l fun p1=>
 yLs h1 p1 0 fun x=>
 ((InB x.base x.len n)/\NilW none (some (sat x.base 2 n)) fun p2=>
 yLi h1 p2 0 fun x1=>
 (if (x1 !=p)=true then
 NilW none (some (sat x.base 2 n)) fun p3=>
 yLi h1 p3 0 fun x2=>
 Q x2 (0:Int) h1
 else
 NilW none (some (sat x.base 2 n)) fun p3=>
 yLs h1 p3 1 fun x2=>
 (if ((x2.len:Int)==(0:Int))=true then
 NilW none (some (sat x.base 2 n)) fun p4=>
 StW h1 (Addr.add p4 0) [(yI (-1:Int))] (fun h2=>
 NilW none (some (sat x.base 2 n)) fun p5=>
 yLi h2 p5 0 fun x3=>
 Q x3 (0:Int) h2)
 else
 NilW none (some (sat x.base 2 n)) fun p4=>
 yLs h1 p4 1 fun x3=>
 ((InB x3.base x3.len (0:Int))/\LdW none yH h1 (sat x3.base 1 (0:Int)) fun x4=>
 NilW none (some (sat x.base 2 n)) fun p5=>
 StW h1 (Addr.add p5 0) [(yI x4)] (fun h2=>
 NilW none (some (sat x.base 2 n)) fun p6=>
 yLs h2 p6 1 fun x5=>
 NilW none (some (sat x.base 2 n)) fun p7=>
 yLs h2 p7 1 fun x6=>
 NilW none (some (sat x.base 2 n)) fun p8=>
 yLs h2 p8 1 fun x7=>
 (((0:Int)<=(1:Int)/\((1:Int)<=(x6.len:Int)/\((x6.len:Int)<=(x7.len:Int)/\(x7.len:Int)<=(x5.cap:Int))))/\LetW (α:=Sl) ⟨(sbase x5.base 1 1 (Int.toNat (x7.len:Int))),((Int.toNat (x6.len:Int))-1),((Int.toNat (x7.len:Int))-1)⟩ fun y=>
 NilW none (some (sat x.base 2 n)) fun p9=>
 StW h2 (Addr.add p9 1) [y.v] (fun h3=>
 NilW none (some (sat x.base 2 n)) fun p10=>
 yLi h3 p10 0 fun x8=>
 Q x8 (0:Int) h3))))))))) h
def zgc (P:Program) (m:Option Addr) (who:Int) (Q:(Hp->Prop)) (h:Hp):Prop:=
 (if decide (who>=0) then
 NilW none m fun p=>
 yLs h p 11 fun x=>
 ((InB x.base x.len who)/\LdW none shPtr h (sat x.base 1 who) fun x1=>
 NilW none m fun p1=>
 yLs h p1 11 fun x2=>
 ((InB x2.base x2.len who)/\LdW none shPtr h (sat x2.base 1 who) fun x3=>
 NilW none x3 fun p2=>
 LdW none zae h (Addr.add p2 4) fun x4=>
 CallT P zgr [x4.v] zae (fun r h1=>
 (((LdIs h1 (Addr.add p 11) [x.v])/\((LdIs h1 (sat x.base 1 who) [(yP x1)])/\True))/\Call0 P zcp [(yP m),(yP x1),r.v] (fun h2=>
 Q h2) h1)) h))
 else
 Q h)
def zrm (P:Program) (n:Int) (Q:(Int->(Hp->Prop))) (h:Hp):Prop:=
 Q (min2I (IntKind.wrap .i64 (n+1)) 65535) h
def zmv (P:Program) (p:Option Addr) (n:Int) (Q:(Bool->(Hp->Prop))) (h:Hp):Prop:=
 NilW (some (decide (n>=0))) p fun p1=>
 LdW (some (decide (n>=0))) shSl h (Addr.add p1 0) fun x=>
 LetW ((decide (n>=0))&&(decide (n<(x.len:Int)))) fun y=>
 Q y h
def zqc (P:Program) (l:Option Addr) (v:Int) (Q:(Int->(Hp->Prop))) (h:Hp):Prop:=
 CallT P zob [(yP l)] zad (fun r h1=>
 (if r then
 Q 19 h1
 else
 NilW none l fun p=>
 yLs h1 p 1 fun x=>
 NewW [(yI v)] (fun a h2=>
 zao 1 8 [(yI 0)] x ⟨(some a),1,1⟩ (fun r1 h3=>
 NilW none l fun p1=>
 StW h3 (Addr.add p1 1) [r1.v] (fun h4=>
 Q 0 h4)) h2) h1)) h
def zoe (P:Program) (l:Option Addr) (Q:(Hp->Prop)) (h:Hp):Prop:=
 NilW none l fun p=>
 yLi h p 4 fun x=>
 CallT P zcb1 [(yI x)] yH (fun r h1=>
 NilW none l fun p1=>
 StW h1 (Addr.add p1 4) [(yI r)] (fun h2=>
 Q h2)) h
def zmw (P:Program) (p:Option Addr) (proc:Int) (Q:(Bool->(Hp->Prop))) (h:Hp):Prop:=
 NilW none p fun p1=>
 yLs h p1 0 fun x=>
 LoopW2 (α1:=Bool) (α2:=Int) (fun again left t13 h1=>
 (if decide (t13<(x.len:Int)) then
 JoinW1 (α1:=Bool) (fun k=>
 ((InB x.base x.len t13)/\LdW none shPtr h1 (sat x.base 1 t13) fun x1=>
 CallT P zsw [(yP x1),(yI proc)] zad (fun r h2=>
 (if r then
 k true h2
 else
 k left h2)) h1))
 (fun left1 h2=>
 again left1 (IntKind.wrap .i64 (t13+1)) h2)
 else
 Q left h1)) false 0 h
def zmx (P:Program) (l:Option Addr) (p:Int) (Q:(Sl->(Hp->Prop))) (h:Hp):Prop:=
 NilW none l fun p1=>
 yLs h p1 0 fun x=>
 LoopW1 (α1:=Int) (fun again t17 h1=>
 (if decide (t17<(x.len:Int)) then
 JoinW0 (fun k=>
 NilW none l fun p2=>
 yLs h1 p2 0 fun x1=>
 ((InB x1.base x1.len t17)/\LdW none shSl h1 (Addr.add (sat x1.base 2 t17) 1) fun x2=>
 CallT P zgt [x2.v,(yI p)] yH (fun r h2=>
 (if decide (r>=0) then
 NilW none l fun p3=>
 yLs h2 p3 0 fun x3=>
 NilW none l fun p4=>
 yLs h2 p4 0 fun x4=>
 ((InB x4.base x4.len t17)/\LdW none shSl h2 (Addr.add (sat x4.base 2 t17) 1) fun x5=>
 CallT P zlk [x5.v,(yI r),(yI (IntKind.wrap .i64 (r+1)))] shSl (fun r1 h3=>
 (((LdIs h3 (Addr.add p3 0) [x3.v])/\True)/\((InB x3.base x3.len t17)/\StW h3 (Addr.add (sat x3.base 2 t17) 1) [r1.v] (fun h4=>
 k h4)))) h2)
 else
 k h2)) h1))
 (fun h2=>
 again (IntKind.wrap .i64 (t17+1)) h2)
 else
 CallT P zfr [(yP l),(yI p)] shSl (fun r h2=>
 LoopW2 (α1:=Sl) (α2:=Int) (fun again1 out t56 h3=>
 (if decide (t56<(r.len:Int)) then
 ((InB r.base r.len t56)/\LdW none yH h3 (sat r.base 1 t56) fun x1=>
 Call2 P zei [(yP l),(yI x1),(yI p)] yH yH (fun r1 r2 h4=>
 NewW [(yI x1),(yI r1)] (fun a h5=>
 zao 2 16 [(yI 0),(yI 0)] ⟨out.base,out.len,out.cap⟩ ⟨(some a),1,1⟩ (fun r3 h6=>
 again1 r3 (IntKind.wrap .i64 (t56+1)) h6) h5) h4) h3)
 else
 Q ⟨out.base,out.len,out.cap⟩ h3)) ⟨none,0,0⟩ 0 h2) h1)) 0 h
def zqd (P:Program) (p:Option Addr) (Q:(Sl->(Hp->Prop))) (h:Hp):Prop:=
 NilW none p fun p1=>
 yLs h p1 0 fun x=>
 LoopW2 (α1:=Sl) (α2:=Int) (fun again out t11 h1=>
 (if decide (t11<(x.len:Int)) then
 ((InB x.base x.len t11)/\LdW none shPtr h1 (sat x.base 1 t11) fun x1=>
 CallT P zyc [(yP x1)] shSl (fun r h2=>
 zao 2 16 [(yI 0),(yI 0)] ⟨out.base,out.len,out.cap⟩ r (fun r1 h3=>
 again r1 (IntKind.wrap .i64 (t11+1)) h3) h2) h1)
 else
 Q ⟨out.base,out.len,out.cap⟩ h1)) ⟨none,0,0⟩ 0 h
def zer (P:Program) (m:Option Addr) (p:Option Addr) (reply:Int) (Q:(Hp->Prop)) (h:Hp):Prop:=
 NilW none p fun p1=>
 LdW none zae h (Addr.add p1 4) fun x=>
 NilW none p fun p2=>
 yLs h p2 2 fun x1=>
 CallT P zoi1 [x.v,x1.v,(yI reply)] zae (fun r h1=>
 Call0 P zcp [(yP m),(yP p),r.v] (fun h2=>
 Q h2) h1) h
def zie (P:Program) (a:Sl) (b:Sl) (Q:(Bool->(Hp->Prop))) (h:Hp):Prop:=
 (if ((a.len:Int) !=(b.len:Int))=true then
 Q false h
 else
 LoopW1 (α1:=Int) (fun again i h1=>
 (if decide (i<(a.len:Int)) then
 ((InB a.base a.len i)/\LdW none yH h1 (sat a.base 1 i) fun x=>
 ((InB b.base b.len i)/\LdW none yH h1 (sat b.base 1 i) fun x1=>
 (if (x !=x1)=true then
 Q false h1
 else
 again (IntKind.wrap .i64 (i+1)) h1)))
 else
 Q true h1)) 0 h)
def zes (P:Program) (a:S_api_Lane) (b:S_api_Lane) (Q:(Bool->(Hp->Prop))) (h:Hp):Prop:=
 LetW (((a.Values.len:Int) !=(b.Values.len:Int)) || ((a.Waiters.len:Int) !=(b.Waiters.len:Int))) fun y=>
 LetW (y || (a.Taken !=b.Taken)) fun y1=>
 LetW (y1 || (a.Dropped !=b.Dropped)) fun y2=>
 (if y2 then
 Q false h
 else
 LoopW1 (α1:=Int) (fun again i h1=>
 (if decide (i<(a.Values.len:Int)) then
 ((InB a.Values.base a.Values.len i)/\LdW none yH h1 (sat a.Values.base 1 i) fun x=>
 ((InB b.Values.base b.Values.len i)/\LdW none yH h1 (sat b.Values.base 1 i) fun x1=>
 (if (x !=x1)=true then
 Q false h1
 else
 again (IntKind.wrap .i64 (i+1)) h1)))
 else
 LoopW1 (α1:=Int) (fun again1 i1 h2=>
 (if decide (i1<(a.Waiters.len:Int)) then
 ((InB a.Waiters.base a.Waiters.len i1)/\LdW none sh_api_Waiter h2 (sat a.Waiters.base 2 i1) fun x=>
 ((InB b.Waiters.base b.Waiters.len i1)/\LdW none sh_api_Waiter h2 (sat b.Waiters.base 2 i1) fun x1=>
 SemV none P (binS .neq 149 (.tmp 66) (.tmp 71) x.v x1.v) zad h2 fun x2=>
 (if x2 then
 Q false h2
 else
 again1 (IntKind.wrap .i64 (i1+1)) h2)))
 else
 Q true h2)) 0 h1)) 0 h)
def zhb (P:Program) (x:S_api_Ins) (n:Int) (locks:Int) (Q:(Int->(Hp->Prop))) (h:Hp):Prop:=
 Call2 P zgu [x.v,(yI n),(yI locks)] yH yH (fun r r1 h1=>
 Q r h1) h
def zec (P:Program) (s:Sl) (f:FnV) (Q:(Int->(Hp->Prop))) (h:Hp):Prop:=
 LoopW1 (α1:=Int) (fun again t8 h1=>
 (if decide (t8<(s.len:Int)) then
 ((InB s.base s.len t8)/\LdW none yH h1 (sat s.base 1 t8) fun x=>
 CallV P tb (.func (.func f.g) f.first f.captured) [(yI x)] zad (fun r h2=>
 (if r then
 Q t8 h2
 else
 again (IntKind.wrap .i64 (t8+1)) h2)) h1)
 else
 Q (-1) h1)) 0 h
def zur (P:Program) (p:Int) (a1:Addr) (Q:(Bool->(Hp->Prop))) (h:Hp):Prop:=
 LdW (some (!(decide (p<0)))) yH h a1 fun x=>
 LetW ((decide (p<0)) || (decide (p>=x))) fun y=>
 Q y h
def zyf (P:Program) (x:S_api_Ins) (n:Int) (locks:Int) (Q:(Int->(Hp->Prop))) (h:Hp):Prop:=
 Call2 P zyd [x.v,(yI n),(yI locks)] yH yH (fun r r1 h1=>
 Q r h1) h
def zki (P:Program) (l:Option Addr) (p:Int) (Q:(Int->(Bool->(Hp->Prop)))) (h:Hp):Prop:=
 NilW none l fun p1=>
 yLs h p1 0 fun x=>
 LoopW1 (α1:=Int) (fun again t13 h1=>
 (if decide (t13<(x.len:Int)) then
 ((InB x.base x.len t13)/\LdW none sh_locks_lock h1 (sat x.base 2 t13) fun x1=>
 CallT P zcx [x1.queue.v,(yI p)] zad (fun r h2=>
 (if r then
 Q t13 true h2
 else
 again (IntKind.wrap .i64 (t13+1)) h2)) h1)
 else
 Q 0 false h1)) 0 h
def zfr1 (P:Program) (room:Int) (s:S_api_Lane) (Q:(Option Addr->(Int->(Hp->Prop)))) (h:Hp):Prop:=
 Call2 P zfl1 [(yI room)] shPtr yH (fun r r1 h1=>
 (if (r1 !=0)=true then
 Q none r1 h1
 else
 LetW ((decide ((s.Waiters.len:Int)>0))&&(decide ((s.Values.len:Int)<room))) fun y=>
 LetW ((decide ((s.Values.len:Int)>room)) || y) fun y1=>
 EffC (some (!y1)) (CallT P zpc [(yI s.Taken),(yI 0),(yI 65535)] zad) (fun r2 h2=>
 LetW (y1 || (!r2)) fun y2=>
 EffC (some (!y2)) (CallT P zpc [(yI s.Dropped),(yI 0),(yI 65535)] zad) (fun r3 h3=>
 LetW (y2 || (!r3)) fun y3=>
 EffC (some (!y3)) (CallT P zhj1 [s.Waiters.v] zad) (fun r4 h4=>
 LetW (y3 || r4) fun y4=>
 (if y4 then
 Q none 4 h4
 else
 CallT P zeb [s.Values.v] shSl (fun r5 h5=>
 ((True/\True)/\CallT P zbt [s.Waiters.v] shSl (fun r6 h6=>
 NilW none r fun p=>
 StW h6 (Addr.add p 1) [r5.v] (fun h7=>
 NilW none r fun p1=>
 StW h7 (Addr.add p1 2) [r6.v] (fun h8=>
 NilW none r fun p2=>
 StW h8 (Addr.add p2 3) [(yI s.Taken)] (fun h9=>
 ((True/\True)/\NilW none r fun p3=>
 StW h9 (Addr.add p3 4) [(yI s.Dropped)] (fun h10=>
 Q r 0 h10)))))) h5)) h4)) h3) h2) h1)) h
def zam (P:Program) (x:Sl) (target:S_wheel_entry) (cmp:FnV) (Q:(Int->(Bool->(Hp->Prop)))) (h:Hp):Prop:=
 LoopW2 (α1:=Int) (α2:=Int) (fun again i j h1=>
 (if decide (i<j) then
 JoinW2 (α1:=Int) (α2:=Int) (fun k=>
 ((0:Int)<=(1:Int)/\((InB x.base x.len (IntKind.wrap .i64 (shrI .u64 (IntKind.wrap .u64 (IntKind.wrap .i64 (i+j))) (1:Int))))/\LdW none sh_wheel_entry h1 (sat x.base 2 (IntKind.wrap .i64 (shrI .u64 (IntKind.wrap .u64 (IntKind.wrap .i64 (i+j))) (1:Int)))) fun x1=>
 CallV P tb (.func (.func cmp.g) cmp.first cmp.captured) [x1.v,target.v] yH (fun r h2=>
 (if decide (r<(0:Int)) then
 k (IntKind.wrap .i64 ((IntKind.wrap .i64 (shrI .u64 (IntKind.wrap .u64 (IntKind.wrap .i64 (i+j))) (1:Int)))+(1:Int))) j h2
 else
 k i (IntKind.wrap .i64 (shrI .u64 (IntKind.wrap .u64 (IntKind.wrap .i64 (i+j))) (1:Int))) h2)) h1)))
 (fun i1 j1 h2=>
 again i1 j1 h2)
 else
 (((decide (i<(x.len:Int)))=true->(InB x.base x.len i))/\LdW (some (decide (i<(x.len:Int)))) sh_wheel_entry h1 (sat x.base 2 i) fun x1=>
 EffC (some (decide (i<(x.len:Int)))) (CallV P tb (.func (.func cmp.g) cmp.first cmp.captured) [x1.v,target.v] yH) (fun r h2=>
 LetW ((decide (i<(x.len:Int)))&&(r==(0:Int))) fun y=>
 Q i y h2) h1))) (0:Int) (x.len:Int) h
def zus (P:Program) (a:S_wheel_entry) (b:S_wheel_entry) (Q:(Int->(Hp->Prop))) (h:Hp):Prop:=
 CallT P zpv [(yI a.due),(yI b.due)] yH (fun r h1=>
 ((True/\(True/\True))/\CallT P zsx [(yI a.id_),(yI b.id_)] yH (fun r1 h2=>
 NewW [(yI r),(yI r1)] (fun a1 h3=>
 CallT P zhk1 [(.slice (some a1) 2 2)] yH (fun r2 h4=>
 Q r2 h4) h3) h2) h1)) h
def zde (P:Program) (s:Sl) (i:Int) (v:Sl) (Q:(Sl->(Hp->Prop))) (h:Hp):Prop:=
 ((0<=i/\i<=(s.len:Int))/\LetW (α:=Sl) ⟨(sbase s.base 2 (Int.toNat i) s.cap),(s.len-(Int.toNat i)),(s.cap-(Int.toNat i))⟩ fun y=>
 (if ((v.len:Int)==0)=true then
 Q s h
 else
 (if (i==(s.len:Int))=true then
 zao 2 16 [(yI 0),(yI 0)] s v (fun r h1=>
 Q r h1) h
 else
 (if (decide ((IntKind.wrap .i64 ((s.len:Int)+(v.len:Int)))>(s.cap:Int)))=true then
 ((0<=i/\i<=(s.cap:Int))/\LetW (α:=Sl) ⟨(sbase s.base 2 0 s.cap),((Int.toNat i)-0),(s.cap-0)⟩ fun y1=>
 zin1 2 16 [(yI 0),(yI 0)] y1 (IntKind.wrap .i64 ((IntKind.wrap .i64 ((s.len:Int)+(v.len:Int)))-i)) (fun r h1=>
 ((0<=i/\i<=(r.len:Int))/\LetW (α:=Sl) ⟨(sbase r.base 2 (Int.toNat i) r.cap),(r.len-(Int.toNat i)),(r.cap-(Int.toNat i))⟩ fun y2=>
 CopyW 2 y2 v (fun r1 h2=>
 ((0<=(IntKind.wrap .i64 (i+(v.len:Int)))/\(IntKind.wrap .i64 (i+(v.len:Int)))<=(r.len:Int))/\LetW (α:=Sl) ⟨(sbase r.base 2 (Int.toNat (IntKind.wrap .i64 (i+(v.len:Int)))) r.cap),(r.len-(Int.toNat (IntKind.wrap .i64 (i+(v.len:Int))))),(r.cap-(Int.toNat (IntKind.wrap .i64 (i+(v.len:Int)))))⟩ fun y3=>
 ((0<=i/\i<=(s.len:Int))/\LetW (α:=Sl) ⟨(sbase s.base 2 (Int.toNat i) s.cap),(s.len-(Int.toNat i)),(s.cap-(Int.toNat i))⟩ fun y4=>
 CopyW 2 y3 y4 (fun r2 h3=>
 Q r h3) h2))) h1)) h)
 else
 ((0<=(IntKind.wrap .i64 ((s.len:Int)+(v.len:Int)))/\(IntKind.wrap .i64 ((s.len:Int)+(v.len:Int)))<=(s.cap:Int))/\LetW (α:=Sl) ⟨(sbase s.base 2 0 s.cap),((Int.toNat (IntKind.wrap .i64 ((s.len:Int)+(v.len:Int))))-0),(s.cap-0)⟩ fun y1=>
 ((0<=(IntKind.wrap .i64 (i+(v.len:Int)))/\(IntKind.wrap .i64 (i+(v.len:Int)))<=(y1.len:Int))/\LetW (α:=Sl) ⟨(sbase y1.base 2 (Int.toNat (IntKind.wrap .i64 (i+(v.len:Int)))) y1.cap),(y1.len-(Int.toNat (IntKind.wrap .i64 (i+(v.len:Int))))),(y1.cap-(Int.toNat (IntKind.wrap .i64 (i+(v.len:Int)))))⟩ fun y2=>
 SemE P (Extern.SlicesOverlaps.overlaps #[167,167] #[4] #[v.v,y2.v]) zad (fun r h1=>
 (if (!r)=true then
 ((0<=(IntKind.wrap .i64 (i+(v.len:Int)))/\(IntKind.wrap .i64 (i+(v.len:Int)))<=(y1.len:Int))/\LetW (α:=Sl) ⟨(sbase y1.base 2 (Int.toNat (IntKind.wrap .i64 (i+(v.len:Int)))) y1.cap),(y1.len-(Int.toNat (IntKind.wrap .i64 (i+(v.len:Int))))),(y1.cap-(Int.toNat (IntKind.wrap .i64 (i+(v.len:Int)))))⟩ fun y3=>
 ((0<=i/\i<=(y1.len:Int))/\LetW (α:=Sl) ⟨(sbase y1.base 2 (Int.toNat i) y1.cap),(y1.len-(Int.toNat i)),(y1.cap-(Int.toNat i))⟩ fun y4=>
 CopyW 2 y3 y4 (fun r1 h2=>
 ((0<=i/\i<=(y1.len:Int))/\LetW (α:=Sl) ⟨(sbase y1.base 2 (Int.toNat i) y1.cap),(y1.len-(Int.toNat i)),(y1.cap-(Int.toNat i))⟩ fun y5=>
 CopyW 2 y5 v (fun r2 h3=>
 Q y1 h3) h2)) h1))
 else
 ((0<=(s.len:Int)/\(s.len:Int)<=(y1.len:Int))/\LetW (α:=Sl) ⟨(sbase y1.base 2 (Int.toNat (s.len:Int)) y1.cap),(y1.len-(Int.toNat (s.len:Int))),(y1.cap-(Int.toNat (s.len:Int)))⟩ fun y3=>
 CopyW 2 y3 v (fun r1 h2=>
 ((0<=i/\i<=(y1.len:Int))/\LetW (α:=Sl) ⟨(sbase y1.base 2 (Int.toNat i) y1.cap),(y1.len-(Int.toNat i)),(y1.cap-(Int.toNat i))⟩ fun y4=>
 Call0 P zey [y4.v,(yI (v.len:Int))] (fun h3=>
 Q y1 h3) h2)) h1))) h))))))
def zyg (P:Program) (x:Int) (y:Int) (Q:(Int->(Int->(Hp->Prop)))) (h:Hp):Prop:=
 Call2 P zmq [(.int .u64 x),(.int .u64 y)] (shInt .u64) (shInt .u64) (fun r r1 h1=>
 Q r r1 h1) h
def zed (P:Program) (s:Sl) (Q:(Sl->(Hp->Prop))) (h:Hp):Prop:=
 SemV none P (binS .eql 141 (.tmp 3) (.const yN) s.v yN) zad h fun x=>
 (if x then
 Q ⟨none,0,0⟩ h
 else
 NewW [] (fun a h1=>
 zao 1 8 [(yI 0)] ⟨(some a),0,0⟩ s (fun r h2=>
 Q r h2) h1) h)
def zbv (P:Program) (s:Sl) (Q:(Sl->(Hp->Prop))) (h:Hp):Prop:=
 SemV none P (binS .eql 142 (.tmp 3) (.const yN) s.v yN) zad h fun x=>
 (if x then
 Q ⟨none,0,0⟩ h
 else
 NewW [] (fun a h1=>
 zao 2 16 [(yI 0),(yI 0)] ⟨(some a),0,0⟩ s (fun r h2=>
 Q r h2) h1) h)
def zof (P:Program) (t:Option Addr) (i:Int) (Q:(Bool->(Hp->Prop))) (h:Hp):Prop:=
 NilW (some (decide (i>=0))) t fun p=>
 LdW (some (decide (i>=0))) shSl h (Addr.add p 0) fun x=>
 LetW ((decide (i>=0))&&(decide (i<(x.len:Int)))) fun y=>
 Q y h
def zut (P:Program) (a:Int) (b:Int) (Q:(Bool->(Hp->Prop))) (h:Hp):Prop:=
 Q ((bitsI .andNot .u64 a b)==0) h
def zpv1 (P:Program) (c:S_cpu_Core) (l:Sl) (Q:(S_api_Ins->(Bool->(Hp->Prop)))) (h:Hp):Prop:=
 LetW ((decide (c.PC<0)) || (decide (c.PC>=(l.len:Int)))) fun y=>
 (if y then
 Q ⟨0,0,0,0,0⟩ false h
 else
 ((InB l.base l.len c.PC)/\LdW none sh_api_Ins h (sat l.base 5 c.PC) fun x=>
 Q x true h))
def zcf1 (P:Program) (x:S_api_Ins) (r:S_n8_int64) (Q:(S_cpu_Want->(Bool->(Bool->(Hp->Prop))))) (h:Hp):Prop:=
 (if (x.Op==0)=true then
 Q ⟨1,0,0⟩ true true h
 else
 (if (x.Op==24)=true then
 ((0<=x.B/\x.B<8)/\∃x1:Int,((List.get?Internal (α:=Value) [(yI r.a0),(yI r.a1),(yI r.a2),(yI r.a3),(yI r.a4),(yI r.a5),(yI r.a6),(yI r.a7)] (0+((Int.toNat x.B)*1)))=(some (yI x1))/\((0<=x.C/\x.C<8)/\∃x2:Int,((List.get?Internal (α:=Value) [(yI r.a0),(yI r.a1),(yI r.a2),(yI r.a3),(yI r.a4),(yI r.a5),(yI r.a6),(yI r.a7)] (0+((Int.toNat x.C)*1)))=(some (yI x2))/\Q ⟨2,x1,x2⟩ true true h))))
 else
 (if (x.Op==25)=true then
 Q ⟨3,0,0⟩ true true h
 else
 (if (x.Op==26)=true then
 Q ⟨4,0,0⟩ true true h
 else
 (if (x.Op==27)=true then
 ((0<=x.A/\x.A<8)/\∃x1:Int,((List.get?Internal (α:=Value) [(yI r.a0),(yI r.a1),(yI r.a2),(yI r.a3),(yI r.a4),(yI r.a5),(yI r.a6),(yI r.a7)] (0+((Int.toNat x.A)*1)))=(some (yI x1))/\Q ⟨5,0,x1⟩ false true h))
 else
 (if (x.Op==28)=true then
 ((0<=x.A/\x.A<8)/\∃x1:Int,((List.get?Internal (α:=Value) [(yI r.a0),(yI r.a1),(yI r.a2),(yI r.a3),(yI r.a4),(yI r.a5),(yI r.a6),(yI r.a7)] (0+((Int.toNat x.A)*1)))=(some (yI x1))/\Q ⟨6,0,x1⟩ true true h))
 else
 (if (x.Op==29)=true then
 Q ⟨7,x.Imm,0⟩ true true h
 else
 (if (x.Op==30)=true then
 Q ⟨8,x.Imm,0⟩ false true h
 else
 (if (x.Op==31)=true then
 ((0<=x.A/\x.A<8)/\∃x1:Int,((List.get?Internal (α:=Value) [(yI r.a0),(yI r.a1),(yI r.a2),(yI r.a3),(yI r.a4),(yI r.a5),(yI r.a6),(yI r.a7)] (0+((Int.toNat x.A)*1)))=(some (yI x1))/\Q ⟨9,0,x1⟩ false true h))
 else
 Q ⟨0,0,0⟩ false false h)))))))))
def zrn (P:Program) (c:Option Addr) (reg:Int) (v:Int) (Q:(Hp->Prop)) (h:Hp):Prop:=
 LetW ((decide (reg>=0))&&(decide (reg<8))) fun y=>
 (if y then
 NilW none c fun p=>
 ((0<=reg/\reg<8)/\StW h (Addr.add (Addr.add p 1) ((Int.toNat reg)*1)) [(yI v)] (fun h1=>
 Q h1))
 else
 Q h)
def zpw1 (P:Program) (op:Int) (b:Int) (c:Int) (Q:(Int->(Int->(Hp->Prop)))) (h:Hp):Prop:=
 (if (op==3)=true then
 Q (IntKind.wrap .i64 (b+c)) 0 h
 else
 (if (op==4)=true then
 Q (IntKind.wrap .i64 (b-c)) 0 h
 else
 (if (op==5)=true then
 Q (IntKind.wrap .i64 (b*c)) 0 h
 else
 (if (op==6)=true then
 CallT P zrk [(yI b),(yI c)] yH (fun r h1=>
 Q r 0 h1) h
 else
 (if (op==7)=true then
 CallT P zrk [(yI b),(yI c)] yH (fun r h1=>
 Q (IntKind.wrap .i64 (b-(IntKind.wrap .i64 (r*c)))) 0 h1) h
 else
 (if (op==8)=true then
 Q (bitsI .and .i64 b c) 0 h
 else
 (if (op==9)=true then
 Q (bitsI .or .i64 b c) 0 h
 else
 (if (op==10)=true then
 Q (bitsI .xor .i64 b c) 0 h
 else
 (if (op==11)=true then
 CallT P zoj1 [(yI b),(yI c)] yH (fun r h1=>
 Q r 0 h1) h
 else
 (if (op==12)=true then
 CallT P zkd1 [(yI b),(yI c)] yH (fun r h1=>
 Q r 0 h1) h
 else
 (if (op==13)=true then
 CallT P zke1 [(.bool (decide (b<c)))] yH (fun r h1=>
 Q r 0 h1) h
 else
 (if (op==14)=true then
 CallT P zke1 [(.bool (b==c))] yH (fun r h1=>
 Q r 0 h1) h
 else
 Q 0 9 h))))))))))))
def zpx1 (P:Program) (op:Int) (b:Int) (c:Int) (Q:(Int->(Int->(Hp->Prop)))) (h:Hp):Prop:=
 CallT P zcc1 [(yI b)] (shFlt .f64) (fun r h1=>
 CallT P zcc1 [(yI c)] (shFlt .f64) (fun r1 h2=>
 (if (op==15)=true then
 SemE P (binS .add 268 (.tmp 17) (.tmp 18) (.float .f64 r) (.float .f64 r1)) (shFlt .f64) (fun r2 h3=>
 CallT P zpm [(.float .f64 r2)] yH (fun r3 h4=>
 Q r3 0 h4) h3) h2
 else
 (if (op==16)=true then
 SemE P (binS .sub 268 (.tmp 23) (.tmp 24) (.float .f64 r) (.float .f64 r1)) (shFlt .f64) (fun r2 h3=>
 CallT P zpm [(.float .f64 r2)] yH (fun r3 h4=>
 Q r3 0 h4) h3) h2
 else
 (if (op==17)=true then
 SemE P (binS .mul 268 (.tmp 29) (.tmp 30) (.float .f64 r) (.float .f64 r1)) (shFlt .f64) (fun r2 h3=>
 CallT P zpm [(.float .f64 r2)] yH (fun r3 h4=>
 Q r3 0 h4) h3) h2
 else
 (if (op==18)=true then
 SemE P (binS .quo 268 (.tmp 35) (.tmp 36) (.float .f64 r) (.float .f64 r1)) (shFlt .f64) (fun r2 h3=>
 CallT P zpm [(.float .f64 r2)] yH (fun r3 h4=>
 Q r3 0 h4) h3) h2
 else
 (if (op==19)=true then
 SemV none P (binS .lss 268 (.tmp 41) (.tmp 42) (.float .f64 r) (.float .f64 r1)) zad h2 fun x=>
 (if x then
 Q 1 0 h2
 else
 Q 0 0 h2)
 else
 (if (op==20)=true then
 SemV none P (convert 2 268 (yI b)) (shFlt .f64) h2 fun x=>
 CallT P zpm [(.float .f64 x)] yH (fun r2 h3=>
 Q r2 0 h3) h2
 else
 (if (op==21)=true then
 CallT P zkf1 [(.float .f64 r)] yH (fun r2 h3=>
 Q r2 0 h3) h2
 else
 Q 0 9 h2)))))))) h1) h
def zfg (P:Program) (m:Option Addr) (p:Option Addr) (q:Option Addr) (v:Int) (Q:(Hp->Prop)) (h:Hp):Prop:=
 NilW none q fun p1=>
 yLi h p1 3 fun x=>
 CallT P zdt [(yI x)] zad (fun r h1=>
 (if (!r)=true then
 Call0 P zak [(yP m),(yP p),(yI 2)] (fun h2=>
 Q h2) h1
 else
 NilW none q fun p2=>
 yLp h1 p2 14 fun x1=>
 NilW none p fun p3=>
 yLi h1 p3 1 fun x2=>
 CallT P zlg [(yP x1),(yI x2),(yI v)] yH (fun r1 h2=>
 (if (r1 !=0)=true then
 NilW none q fun p4=>
 yLp h2 p4 14 fun x3=>
 NilW none p fun p5=>
 yLi h2 p5 1 fun x4=>
 NilW none p fun p6=>
 yLi h2 p6 0 fun x5=>
 CallT P zwi [(yP x3),(yI x4),(yI x5),(yI v)] yH (fun r2 h3=>
 NilW none p fun p7=>
 StW h3 (Addr.add p7 3) [(yI 2)] (fun h4=>
 Q h4)) h2
 else
 Call0 P zco [(yP m),(yP q)] (fun h3=>
 Call0 P zak [(yP m),(yP p),(yI 0)] (fun h4=>
 Q h4) h3) h2)) h1)) h
def zfs1 (P:Program) (c:S_cpu_Core) (code:Sl) (v:Int) (from_:Int) (Q:(S_cpu_Core->(Hp->Prop))) (h:Hp):Prop:=
 NewW [(yI c.PC),(yI c.Regs_0),(yI c.Regs_1),(yI c.Regs_2),(yI c.Regs_3),(yI c.Regs_4),(yI c.Regs_5),(yI c.Regs_6),(yI c.Regs_7)] (fun a h1=>
 JoinW0 (fun k=>
 LdW none zae h1 a fun x=>
 Call2 P zdz1 [x.v,code.v] sh_api_Ins zad (fun r r1 h2=>
 (if r1 then
 Call0 P zbu [(yP (some a)),(yI r.A),(yI v)] (fun h3=>
 Call0 P zbu [(yP (some a)),(yI r.B),(yI from_)] (fun h4=>
 k h4) h3) h2
 else
 k h2)) h1)
 (fun h2=>
 LdW none zae h2 a fun x=>
 CallT P zgr [x.v] zae (fun r h3=>
 Q r h3) h2)) h
def zdf (P:Program) (s:Sl) (i:Int) (j:Int) (Q:(Sl->(Hp->Prop))) (h:Hp):Prop:=
 ((0<=i/\(i<=j/\(j<=(s.len:Int)/\(s.len:Int)<=(s.cap:Int))))/\LetW (α:=Sl) ⟨(sbase s.base 2 (Int.toNat i) (Int.toNat (s.len:Int))),((Int.toNat j)-(Int.toNat i)),((Int.toNat (s.len:Int))-(Int.toNat i))⟩ fun y=>
 (if (i==j)=true then
 Q s h
 else
 ((0<=i/\i<=(s.cap:Int))/\LetW (α:=Sl) ⟨(sbase s.base 2 0 s.cap),((Int.toNat i)-0),(s.cap-0)⟩ fun y1=>
 ((0<=j/\j<=(s.len:Int))/\LetW (α:=Sl) ⟨(sbase s.base 2 (Int.toNat j) s.cap),(s.len-(Int.toNat j)),(s.cap-(Int.toNat j))⟩ fun y2=>
 zao 2 16 [(yI 0),(yI 0)] y1 y2 (fun r h1=>
 ((0<=(r.len:Int)/\((r.len:Int)<=(s.len:Int)/\(s.len:Int)<=(r.cap:Int)))/\LetW (α:=Sl) ⟨(sbase r.base 2 (Int.toNat (r.len:Int)) r.cap),((Int.toNat (s.len:Int))-(Int.toNat (r.len:Int))),(r.cap-(Int.toNat (r.len:Int)))⟩ fun y3=>
 SemE0 P (Builtin.clear_ #[167] 0 #[y3.v]) zqz (fun h2=>
 Q r h2) h1)) h))))
def zkj (P:Program) (l:Option Addr) (n:Int) (p:Int) (Q:(Int->(Hp->Prop))) (h:Hp):Prop:=
 NilW (some (!(decide (n<0)))) l fun p1=>
 LdW (some (!(decide (n<0)))) shSl h (Addr.add p1 0) fun x=>
 LetW ((decide (n<0)) || (decide (n>=(x.len:Int)))) fun y=>
 (if y then
 Q 2 h
 else
 (if decide (p<0) then
 Q 1 h
 else
 Q 0 h))
def zhc (P:Program) (s:Sl) (v:Int) (Q:(Int->(Hp->Prop))) (h:Hp):Prop:=
 LoopW1 (α1:=Int) (fun again t8 h1=>
 (if decide (t8<(s.len:Int)) then
 ((InB s.base s.len t8)/\LdW none yH h1 (sat s.base 1 t8) fun x=>
 (if (v==x)=true then
 Q t8 h1
 else
 again (IntKind.wrap .i64 (t8+1)) h1))
 else
 Q (-1) h1)) 0 h
def zog (P:Program) (l:Option Addr) (Q:(Bool->(Hp->Prop))) (h:Hp):Prop:=
 NilW none l fun p=>
 yLs h p 1 fun x=>
 NilW none l fun p1=>
 yLi h p1 0 fun x1=>
 Q (decide ((x.len:Int)>=x1)) h
def zcg1 (P:Program) (n:Int) (Q:(Int->(Hp->Prop))) (h:Hp):Prop:=
 Q (min2I (IntKind.wrap .i64 (n+1)) 65535) h
def zmy (P:Program) (l:Option Addr) (p:Int) (Q:(Bool->(Hp->Prop))) (h:Hp):Prop:=
 CallT P zmr [(yP l),(yI p)] yH (fun r h1=>
 (if decide (r<0) then
 Q false h1
 else
 NilW none l fun p1=>
 yLs h1 p1 2 fun x=>
 CallT P zdl [x.v,(yI r),(yI (IntKind.wrap .i64 (r+1)))] shSl (fun r1 h2=>
 NilW none l fun p2=>
 StW h2 (Addr.add p2 2) [r1.v] (fun h3=>
 Q true h3)) h1)) h
def zgd (P:Program) (s:Sl) (i:Int) (j:Int) (Q:(Sl->(Hp->Prop))) (h:Hp):Prop:=
 ((0<=i/\(i<=j/\(j<=(s.len:Int)/\(s.len:Int)<=(s.cap:Int))))/\LetW (α:=Sl) ⟨(sbase s.base 1 (Int.toNat i) (Int.toNat (s.len:Int))),((Int.toNat j)-(Int.toNat i)),((Int.toNat (s.len:Int))-(Int.toNat i))⟩ fun y=>
 (if (i==j)=true then
 Q s h
 else
 ((0<=i/\i<=(s.cap:Int))/\LetW (α:=Sl) ⟨(sbase s.base 1 0 s.cap),((Int.toNat i)-0),(s.cap-0)⟩ fun y1=>
 ((0<=j/\j<=(s.len:Int))/\LetW (α:=Sl) ⟨(sbase s.base 1 (Int.toNat j) s.cap),(s.len-(Int.toNat j)),(s.cap-(Int.toNat j))⟩ fun y2=>
 zao 1 8 [(yI 0)] y1 y2 (fun r h1=>
 ((0<=(r.len:Int)/\((r.len:Int)<=(s.len:Int)/\(s.len:Int)<=(r.cap:Int)))/\LetW (α:=Sl) ⟨(sbase r.base 1 (Int.toNat (r.len:Int)) r.cap),((Int.toNat (s.len:Int))-(Int.toNat (r.len:Int))),(r.cap-(Int.toNat (r.len:Int)))⟩ fun y3=>
 SemE0 P (Builtin.clear_ #[24] 0 #[y3.v]) zqz (fun h2=>
 Q r h2) h1)) h))))
def zqe (P:Program) (l:Option Addr) (Q:(Sl->(Hp->Prop))) (h:Hp):Prop:=
 NilW none l fun p=>
 yLs h p 2 fun x=>
 NilW none l fun p1=>
 yLs h p1 2 fun x1=>
 NilW none l fun p2=>
 yLs h p2 2 fun x2=>
 ((0<=(x1.len:Int)/\((x1.len:Int)<=(x2.len:Int)/\(x2.len:Int)<=(x.cap:Int)))/\LetW (α:=Sl) ⟨(sbase x.base 2 0 (Int.toNat (x2.len:Int))),((Int.toNat (x1.len:Int))-0),((Int.toNat (x2.len:Int))-0)⟩ fun y=>
 NilW none l fun p3=>
 StW h (Addr.add p3 2) [yN] (fun h1=>
 Q y h1))
def zft1 (P:Program) (c:S_cpu_Core) (code:Sl) (reply:Int) (Q:(S_cpu_Core->(Hp->Prop))) (h:Hp):Prop:=
 NewW [(yI c.PC),(yI c.Regs_0),(yI c.Regs_1),(yI c.Regs_2),(yI c.Regs_3),(yI c.Regs_4),(yI c.Regs_5),(yI c.Regs_6),(yI c.Regs_7)] (fun a h1=>
 JoinW0 (fun k=>
 LdW none zae h1 a fun x=>
 Call2 P zdz1 [x.v,code.v] sh_api_Ins zad (fun r r1 h2=>
 (if r1 then
 Call0 P zbu [(yP (some a)),(yI r.A),(yI reply)] (fun h3=>
 k h3) h2
 else
 k h2)) h1)
 (fun h2=>
 LdW none zae h2 a fun x=>
 CallT P zgr [x.v] zae (fun r h3=>
 Q r h3) h2)) h
def zhd (P:Program) (x:S_api_Ins) (n:Int) (locks:Int) (Q:(Int->(Int->(Hp->Prop)))) (h:Hp):Prop:=
 LetW ((decide (x.Op<0)) || (decide (x.Op>=34))) fun y=>
 (if y then
 Q 9 0 h
 else
 Call4 P zft [(yI x.Op)] zad zad zad zad (fun r r1 r2 r3 h1=>
 CallT P zcy [(yI x.A),(.bool r)] yH (fun r4 h2=>
 (if (r4 !=0)=true then
 Q r4 1 h2
 else
 CallT P zcy [(yI x.B),(.bool r1)] yH (fun r5 h3=>
 (if (r5 !=0)=true then
 Q r5 2 h3
 else
 CallT P zcy [(yI x.C),(.bool r2)] yH (fun r6 h4=>
 (if (r6 !=0)=true then
 Q r6 3 h4
 else
 LetW ((!r3)&&(x.Imm !=0)) fun y1=>
 (if y1 then
 Q 11 4 h4
 else
 LetW ((x.Op==22) || (x.Op==23)) fun y2=>
 LetW ((decide (x.Imm<0)) || (decide (x.Imm>n))) fun y3=>
 LetW (y2&&y3) fun y4=>
 (if y4 then
 Q 12 4 h4
 else
 LetW ((x.Op==29) || (x.Op==30)) fun y5=>
 LetW ((decide (x.Imm<0)) || (decide (x.Imm>=locks))) fun y6=>
 LetW (y5&&y6) fun y7=>
 (if y7 then
 Q 13 4 h4
 else
 Q 0 0 h4))))) h3)) h2)) h1) h)
def zyh (P:Program) (x:S_api_Ins) (n:Int) (locks:Int) (Q:(Int->(Int->(Hp->Prop)))) (h:Hp):Prop:=
 LetW ((decide (x.Op<0)) || (decide (x.Op>=34))) fun y=>
 (if y then
 Q 9 0 h
 else
 Call4 P zul [(yI x.Op)] zad zad zad zad (fun r r1 r2 r3 h1=>
 CallT P zll [(.bool r),(yI x.A)] yH (fun r4 h2=>
 (if (r4 !=0)=true then
 Q r4 1 h2
 else
 CallT P zll [(.bool r1),(yI x.B)] yH (fun r5 h3=>
 (if (r5 !=0)=true then
 Q r5 2 h3
 else
 CallT P zll [(.bool r2),(yI x.C)] yH (fun r6 h4=>
 (if (r6 !=0)=true then
 Q r6 3 h4
 else
 CallT P zea1 [x.v,(.bool r3),(yI n),(yI locks)] yH (fun r7 h5=>
 Q r7 4 h5) h4)) h3)) h2)) h1) h)
def zfu1 (P:Program) (room:Int) (Q:(Option Addr->(Int->(Hp->Prop)))) (h:Hp):Prop:=
 CallT P zpc [(yI room),(yI 1),(yI 64)] zad (fun r h1=>
 (if (!r)=true then
 Q none 1 h1
 else
 NewW [(yI room),yN,yN,(yI 0),(yI 0)] (fun a h2=>
 Q (some a) 0 h2) h1)) h
def zpe (P:Program) (n:Int) (from_:Int) (to:Int) (Q:(Bool->(Hp->Prop))) (h:Hp):Prop:=
 LetW ((decide (n>=from_))&&(decide (n<=to))) fun y=>
 Q y h
def zyi (P:Program) (l:Sl) (Q:(Bool->(Hp->Prop))) (h:Hp):Prop:=
 zdn1  (fun r h1=>
 LoopW1 (α1:=Int) (fun again t9 h2=>
 (if decide (t9<(l.len:Int)) then
 ((InB l.base l.len t9)/\LdW none sh_api_Waiter h2 (sat l.base 2 t9) fun x=>
 LookW none (.int .i64) yH (yI 0) r (yI x.Proc) h2 fun x1 ok=>
 zbo1 (.int .i64) r (yI x.Proc) (yI (IntKind.wrap .i64 (x1+1))) (fun h3=>
 LookW none (.int .i64) yH (yI 0) r (yI x.Proc) h3 fun x2 ok1=>
 (if decide (x2>1) then
 Q true h3
 else
 again (IntKind.wrap .i64 (t9+1)) h3)) h2)
 else
 Q false h2)) 0 h1) h
def zyj (P:Program) (vals:Sl) (Q:(Int->(Hp->Prop))) (h:Hp):Prop:=
 LoopW1 (α1:=Int) (fun again t8 h1=>
 (if decide (t8<(vals.len:Int)) then
 ((InB vals.base vals.len t8)/\LdW none yH h1 (sat vals.base 1 t8) fun x=>
 (if (x !=0)=true then
 Q x h1
 else
 again (IntKind.wrap .i64 (t8+1)) h1))
 else
 Q 0 h1)) 0 h
def zkk (P:Program) (x:Int) (y:Int) (Q:(Int->(Hp->Prop))) (h:Hp):Prop:=
 CallT P zms [(yI x)] zad (fun r h1=>
 CallT P zms [(yI y)] zad (fun r1 h2=>
 (if r then
 (if r1 then
 Q 0 h2
 else
 Q (-1) h2)
 else
 (if r1 then
 Q 1 h2
 else
 (if decide (x<y) then
 Q (-1) h2
 else
 (if decide (x>y) then
 Q 1 h2
 else
 Q 0 h2))))) h1) h
def zmz (P:Program) (x:Int) (y:Int) (Q:(Int->(Hp->Prop))) (h:Hp):Prop:=
 CallT P zpw [(yI x)] zad (fun r h1=>
 CallT P zpw [(yI y)] zad (fun r1 h2=>
 (if r then
 (if r1 then
 Q 0 h2
 else
 Q (-1) h2)
 else
 (if r1 then
 Q 1 h2
 else
 (if decide (x<y) then
 Q (-1) h2
 else
 (if decide (x>y) then
 Q 1 h2
 else
 Q 0 h2))))) h1) h
def zna (P:Program) (x:Int) (y:Int) (Q:(Int->(Int->(Hp->Prop)))) (h:Hp):Prop:=
 ((0:Int)<=(32:Int)/\((0:Int)<=(32:Int)/\((0:Int)<=(32:Int)/\((0:Int)<=(32:Int)/\((0:Int)<=(32:Int)/\Q (IntKind.wrap .u64 ((IntKind.wrap .u64 ((IntKind.wrap .u64 ((shrI .u64 x (32:Int))*(shrI .u64 y (32:Int))))+(shrI .u64 (IntKind.wrap .u64 ((IntKind.wrap .u64 ((shrI .u64 x (32:Int))*(bitsI .and .u64 y (4294967295:Int))))+(shrI .u64 (IntKind.wrap .u64 ((bitsI .and .u64 x (4294967295:Int))*(bitsI .and .u64 y (4294967295:Int)))) (32:Int)))) (32:Int))))+(shrI .u64 (IntKind.wrap .u64 ((bitsI .and .u64 (IntKind.wrap .u64 ((IntKind.wrap .u64 ((shrI .u64 x (32:Int))*(bitsI .and .u64 y (4294967295:Int))))+(shrI .u64 (IntKind.wrap .u64 ((bitsI .and .u64 x (4294967295:Int))*(bitsI .and .u64 y (4294967295:Int)))) (32:Int)))) (4294967295:Int))+(IntKind.wrap .u64 ((bitsI .and .u64 x (4294967295:Int))*(shrI .u64 y (32:Int)))))) (32:Int)))) (IntKind.wrap .u64 (x*y)) h)))))
def zro (P:Program) (b:Int) (c:Int) (Q:(Int->(Hp->Prop))) (h:Hp):Prop:=
 (if (c==0)=true then
 Q 0 h
 else
 (if (c==(-1))=true then
 Q (IntKind.wrap .i64 (0-b)) h
 else
 (c≠0/\Q (IntKind.wrap .i64 (Int.tdiv b c)) h)))
def zok1 (P:Program) (b:Int) (c:Int) (Q:(Int->(Hp->Prop))) (h:Hp):Prop:=
 (if decide (c<0) then
 Q b h
 else
 (0<=(IntKind.wrap .u64 c)/\Q (shlI .i64 b (IntKind.wrap .u64 c)) h))
def zkh1 (P:Program) (b:Int) (c:Int) (Q:(Int->(Hp->Prop))) (h:Hp):Prop:=
 (if decide (c<0) then
 Q b h
 else
 (0<=(IntKind.wrap .u64 c)/\Q (shrI .i64 b (IntKind.wrap .u64 c)) h))
def zki1 (P:Program) (is:Bool) (Q:(Int->(Hp->Prop))) (h:Hp):Prop:=
 (if is then
 Q 1 h
 else
 Q 0 h)
def zch1 (P:Program) (bits:Int) (Q:(Nat->(Hp->Prop))) (h:Hp):Prop:=
 SemE P (Extern.MathFloatBits.float64frombits #[(.int .u64 (IntKind.wrap .u64 bits))]) (shFlt .f64) (fun r h1=>
 Q r h1) h
def zfv1 (P:Program) (f:Nat) (Q:(Int->(Hp->Prop))) (h:Hp):Prop:=
 SemV none P (binS .neq 268 (.tmp 3) (.tmp 4) (.float .f64 f) (.float .f64 f)) zad h fun x=>
 (if x then
 Q 9221120237041090560 h
 else
 SemE P (Extern.MathFloatBits.float64bits #[(.float .f64 f)]) (shInt .u64) (fun r h1=>
 Q (IntKind.wrap .i64 r) h1) h)
def zci1 (P:Program) (f:Nat) (Q:(Int->(Hp->Prop))) (h:Hp):Prop:=
 SemV none P (binS .neq 268 (.tmp 4) (.tmp 5) (.float .f64 f) (.float .f64 f)) zad h fun x=>
 (if x then
 Q 0 h
 else
 SemV none P (binS .geq 268 (.tmp 8) (.const (.float .f64 4890909195324358656)) (.float .f64 f) (.float .f64 4890909195324358656)) zad h fun x1=>
 (if x1 then
 Q 9223372036854775807 h
 else
 SemV none P (binS .lss 268 (.tmp 11) (.const (.float .f64 14114281232179134464)) (.float .f64 f) (.float .f64 14114281232179134464)) zad h fun x2=>
 (if x2 then
 Q (-9223372036854775808) h
 else
 SemV none P (convert 268 2 (.float .f64 f)) yH h fun x3=>
 Q x3 h)))
def zoh (P:Program) (p:Option Addr) (lane:Int) (proc:Int) (v:Int) (Q:(Int->(Hp->Prop))) (h:Hp):Prop:=
 CallT P zir [(yP p),(yI lane)] zad (fun r h1=>
 (if (!r)=true then
 Q 2 h1
 else
 CallT P zsz [(yP p),(yI proc)] yH (fun r1 h2=>
 (if decide (r1>=0) then
 Q 8 h2
 else
 NilW none p fun p1=>
 yLs h2 p1 0 fun x=>
 ((InB x.base x.len lane)/\LdW none shPtr h2 (sat x.base 1 lane) fun x1=>
 CallT P zwj [(yP x1),(yI proc),(yI v)] yH (fun r2 h3=>
 Q r2 h3) h2))) h1)) h
def zta (P:Program) (p:Option Addr) (Q:(FnV->(Hp->Prop))) (h:Hp):Prop:=
 NilW none p fun p1=>
 yLi h p1 1 fun x=>
 NilW none p fun p2=>
 yLs h p2 0 fun x1=>
 NewW [(yI 0)] (fun a h1=>
 (((LdIs h1 (Addr.add p1 1) [(yI x)])/\((LdIs h1 (Addr.add p2 0) [x1.v])/\True))/\StW h1 a [(yI x)] (fun h2=>
 (((LdIs h2 (Addr.add p2 0) [x1.v])/\True)/\NewW [(yI (x1.len:Int))] (fun a1 h3=>
 Q ⟨218, #[], #[(yP (some a1)),(yP (some a))]⟩ h3) h2)))) h
def zqf (P:Program) (l:Option Addr) (Q:(Int->(Hp->Prop))) (h:Hp):Prop:=
 NilW none l fun p=>
 yLs h p 1 fun x=>
 Q (x.len:Int) h
def zoi (P:Program) (l:Option Addr) (Q:(Int->(S_api_Waiter->(Bool->(Int->(Hp->Prop)))))) (h:Hp):Prop:=
 NilW none l fun p=>
 yLs h p 1 fun x=>
 (if ((x.len:Int)==(0:Int))=true then
 Q (0:Int) ⟨(0:Int),(0:Int)⟩ false (21:Int) h
 else
 NilW none l fun p1=>
 yLs h p1 1 fun x1=>
 ((InB x1.base x1.len (0:Int))/\LdW none yH h (sat x1.base 1 (0:Int)) fun x2=>
 NilW none l fun p2=>
 yLs h p2 1 fun x3=>
 NilW none l fun p3=>
 yLs h p3 1 fun x4=>
 (((0:Int)<=(1:Int)/\(1:Int)<=(x4.len:Int))/\LetW (α:=Sl) ⟨(sbase x4.base 1 1 x4.cap),(x4.len-1),(x4.cap-1)⟩ fun y=>
 CopyW 1 x3 y (fun r h1=>
 NilW none l fun p4=>
 yLs h1 p4 1 fun x5=>
 (((0:Int)<=r/\r<=(x5.cap:Int))/\LetW (α:=Sl) ⟨(sbase x5.base 1 0 x5.cap),((Int.toNat r)-0),(x5.cap-0)⟩ fun y1=>
 NilW none l fun p5=>
 StW h1 (Addr.add p5 1) [y1.v] (fun h2=>
 NilW none l fun p6=>
 yLi h2 p6 3 fun x6=>
 CallT P zcb1 [(yI x6)] yH (fun r1 h3=>
 NilW none l fun p7=>
 StW h3 (Addr.add p7 3) [(yI r1)] (fun h4=>
 NilW none l fun p8=>
 yLs h4 p8 2 fun x7=>
 (if decide ((x7.len:Int)>(0:Int)) then
 NilW none l fun p9=>
 yLs h4 p9 2 fun x8=>
 ((InB x8.base x8.len (0:Int))/\LdW none sh_api_Waiter h4 (sat x8.base 2 (0:Int)) fun x9=>
 NilW none l fun p10=>
 yLs h4 p10 2 fun x10=>
 NilW none l fun p11=>
 yLs h4 p11 2 fun x11=>
 NilW none l fun p12=>
 yLs h4 p12 2 fun x12=>
 (((0:Int)<=(1:Int)/\((1:Int)<=(x11.len:Int)/\((x11.len:Int)<=(x12.len:Int)/\(x12.len:Int)<=(x10.cap:Int))))/\LetW (α:=Sl) ⟨(sbase x10.base 2 1 (Int.toNat (x12.len:Int))),((Int.toNat (x11.len:Int))-1),((Int.toNat (x12.len:Int))-1)⟩ fun y2=>
 NilW none l fun p13=>
 StW h4 (Addr.add p13 2) [y2.v] (fun h5=>
 NilW none l fun p14=>
 yLs h5 p14 1 fun x13=>
 NewW [(yI x9.Value_)] (fun a h6=>
 (((LdIs h6 (Addr.add p14 1) [x13.v])/\True)/\zao 1 8 [(yI (0:Int))] x13 ⟨(some a),1,1⟩ (fun r2 h7=>
 NilW none l fun p15=>
 StW h7 (Addr.add p15 1) [r2.v] (fun h8=>
 Q x2 x9 true (0:Int) h8)) h6)) h5)))
 else
 Q x2 ⟨(0:Int),(0:Int)⟩ false (0:Int) h4))) h2))) h)))
def znb (P:Program) (l:Option Addr) (p:Int) (Q:(Int->(Hp->Prop))) (h:Hp):Prop:=
 NewW [(yI p)] (fun a h1=>
 NilW none l fun p1=>
 yLs h1 p1 2 fun x=>
 CallT P zcw [x.v,(.func (.func 220) #[] #[(yP (some a))])] yH (fun r h2=>
 Q r h2) h1) h
def zbm (P:Program) (s:Sl) (i:Int) (j:Int) (Q:(Sl->(Hp->Prop))) (h:Hp):Prop:=
 ((0<=i/\(i<=j/\(j<=(s.len:Int)/\(s.len:Int)<=(s.cap:Int))))/\LetW (α:=Sl) ⟨(sbase s.base 2 (Int.toNat i) (Int.toNat (s.len:Int))),((Int.toNat j)-(Int.toNat i)),((Int.toNat (s.len:Int))-(Int.toNat i))⟩ fun y=>
 (if (i==j)=true then
 Q s h
 else
 ((0<=i/\i<=(s.cap:Int))/\LetW (α:=Sl) ⟨(sbase s.base 2 0 s.cap),((Int.toNat i)-0),(s.cap-0)⟩ fun y1=>
 ((0<=j/\j<=(s.len:Int))/\LetW (α:=Sl) ⟨(sbase s.base 2 (Int.toNat j) s.cap),(s.len-(Int.toNat j)),(s.cap-(Int.toNat j))⟩ fun y2=>
 zao 2 16 [(yI 0),(yI 0)] y1 y2 (fun r h1=>
 ((0<=(r.len:Int)/\((r.len:Int)<=(s.len:Int)/\(s.len:Int)<=(r.cap:Int)))/\LetW (α:=Sl) ⟨(sbase r.base 2 (Int.toNat (r.len:Int)) r.cap),((Int.toNat (s.len:Int))-(Int.toNat (r.len:Int))),(r.cap-(Int.toNat (r.len:Int)))⟩ fun y3=>
 SemE0 P (Builtin.clear_ #[142] 0 #[y3.v]) zqz (fun h2=>
 Q r h2) h1)) h))))
def zge (P:Program) (op:Int) (Q:(Bool->(Bool->(Bool->(Bool->(Hp->Prop)))))) (h:Hp):Prop:=
 (if (op==1)=true then
 Q true false false true h
 else
 JoinW1 (α1:=Bool) (fun k=>
 (if (op==2)=true then
 k (op==2) h
 else
 (if (op==20)=true then
 k (op==20) h
 else
 (if (op==21)=true then
 k (op==21) h
 else
 (if (op==25)=true then
 k (op==25) h
 else
 k (op==26) h)))))
 (fun t9 h1=>
 (if t9 then
 Q true true false false h1
 else
 JoinW1 (α1:=Bool) (fun k=>
 (if (op==3)=true then
 k (op==3) h1
 else
 (if (op==4)=true then
 k (op==4) h1
 else
 (if (op==5)=true then
 k (op==5) h1
 else
 (if (op==6)=true then
 k (op==6) h1
 else
 (if (op==7)=true then
 k (op==7) h1
 else
 (if (op==8)=true then
 k (op==8) h1
 else
 (if (op==9)=true then
 k (op==9) h1
 else
 (if (op==10)=true then
 k (op==10) h1
 else
 (if (op==11)=true then
 k (op==11) h1
 else
 (if (op==12)=true then
 k (op==12) h1
 else
 (if (op==13)=true then
 k (op==13) h1
 else
 k (op==14) h1))))))))))))
 (fun t15 h2=>
 (if t15 then
 Q true true true false h2
 else
 JoinW1 (α1:=Bool) (fun k=>
 (if (op==15)=true then
 k (op==15) h2
 else
 (if (op==16)=true then
 k (op==16) h2
 else
 (if (op==17)=true then
 k (op==17) h2
 else
 (if (op==18)=true then
 k (op==18) h2
 else
 (if (op==19)=true then
 k (op==19) h2
 else
 k (op==24) h2))))))
 (fun t28 h3=>
 (if t28 then
 Q true true true false h3
 else
 JoinW1 (α1:=Bool) (fun k=>
 (if (op==22)=true then
 k (op==22) h3
 else
 (if (op==29)=true then
 k (op==29) h3
 else
 k (op==30) h3)))
 (fun t35 h4=>
 (if t35 then
 Q false false false true h4
 else
 (if (op==23)=true then
 Q true false false true h4
 else
 JoinW1 (α1:=Bool) (fun k=>
 (if (op==27)=true then
 k (op==27) h4
 else
 (if (op==28)=true then
 k (op==28) h4
 else
 (if (op==31)=true then
 k (op==31) h4
 else
 (if (op==32)=true then
 k (op==32) h4
 else
 k (op==33) h4)))))
 (fun t41 h5=>
 (if t41 then
 Q true false false false h5
 else
 Q false false false false h5))))))))))))
def zet (P:Program) (n:Int) (has:Bool) (Q:(Int->(Hp->Prop))) (h:Hp):Prop:=
 LetW ((!has)&&(n !=0)) fun y=>
 (if y then
 Q 11 h
 else
 LetW ((decide (n<0)) || (decide (n>=8))) fun y1=>
 LetW (has&&y1) fun y2=>
 (if y2 then
 Q 10 h
 else
 Q 0 h))
def zuu (P:Program) (op:Int) (Q:(Bool->(Bool->(Bool->(Bool->(Hp->Prop)))))) (h:Hp):Prop:=
 CallT P zeb1 [(yI op)] shStr (fun r h1=>
 NewW [(.string ⟨#[]⟩)] (fun a h2=>
 StW h2 a [(.string r)] (fun h3=>
 CallV P tb (.func (.func 222) #[] #[(yP (some a))]) [(.string ⟨#[97]⟩)] zad (fun r1 h4=>
 CallV P tb (.func (.func 222) #[] #[(yP (some a))]) [(.string ⟨#[98]⟩)] zad (fun r2 h5=>
 CallV P tb (.func (.func 222) #[] #[(yP (some a))]) [(.string ⟨#[99]⟩)] zad (fun r3 h6=>
 CallV P tb (.func (.func 222) #[] #[(yP (some a))]) [(.string ⟨#[105]⟩)] zad (fun r4 h7=>
 Q r1 r2 r3 r4 h7) h6) h5) h4) h3)) h1) h
def zqg (P:Program) (has:Bool) (n:Int) (Q:(Int->(Hp->Prop))) (h:Hp):Prop:=
 LetW ((!has)&&(n !=0)) fun y=>
 (if y then
 Q 11 h
 else
 LetW ((decide (n<0)) || (decide (n>=8))) fun y1=>
 (if y1 then
 Q 10 h
 else
 Q 0 h))
def zuv (P:Program) (x:S_api_Ins) (has:Bool) (n:Int) (locks:Int) (Q:(Int->(Hp->Prop))) (h:Hp):Prop:=
 LetW ((!has)&&(x.Imm !=0)) fun y=>
 (if y then
 Q 11 h
 else
 LetW ((x.Op==22) || (x.Op==23)) fun y1=>
 (if y1 then
 LetW ((decide (x.Imm<0)) || (decide (x.Imm>n))) fun y2=>
 (if y2 then
 Q 12 h
 else
 Q 0 h)
 else
 LetW ((x.Op==29) || (x.Op==30)) fun y2=>
 (if y2 then
 LetW ((decide (x.Imm<0)) || (decide (x.Imm>=locks))) fun y3=>
 (if y3 then
 Q 13 h
 else
 Q 0 h)
 else
 Q 0 h)))
def znc (P:Program) (x:Int) (Q:(Bool->(Hp->Prop))) (h:Hp):Prop:=
 Q (x !=x) h
def zqh (P:Program) (x:Int) (Q:(Bool->(Hp->Prop))) (h:Hp):Prop:=
 Q (x !=x) h
def znd (P:Program) (p:Option Addr) (proc:Int) (Q:(Int->(Hp->Prop))) (h:Hp):Prop:=
 NilW none p fun p1=>
 yLs h p1 0 fun x=>
 LoopW1 (α1:=Int) (fun again t14 h1=>
 (if decide (t14<(x.len:Int)) then
 ((InB x.base x.len t14)/\LdW none shPtr h1 (sat x.base 1 t14) fun x1=>
 CallT P zmo [(yP x1)] sh_api_Lane (fun r h2=>
 LoopW1 (α1:=Int) (fun again1 t23 h3=>
 (if decide (t23<(r.Waiters.len:Int)) then
 ((InB r.Waiters.base r.Waiters.len t23)/\LdW none sh_api_Waiter h3 (sat r.Waiters.base 2 t23) fun x2=>
 (if (x2.Proc==proc)=true then
 Q t14 h3
 else
 again1 (IntKind.wrap .i64 (t23+1)) h3))
 else
 again (IntKind.wrap .i64 (t14+1)) h3)) 0 h2) h1)
 else
 Q (-1) h1)) 0 h
def zoj (P:Program) (l:Option Addr) (p:Int) (v:Int) (Q:(Int->(Hp->Prop))) (h:Hp):Prop:=
 CallT P zob [(yP l)] zad (fun r h1=>
 (if (!r)=true then
 Q 20 h1
 else
 CallT P zmr [(yP l),(yI p)] yH (fun r1 h2=>
 (if decide (r1>=0) then
 Q 8 h2
 else
 NilW none l fun p1=>
 yLs h2 p1 2 fun x=>
 NewW [(yI p),(yI v)] (fun a h3=>
 zao 2 16 [(yI 0),(yI 0)] x ⟨(some a),1,1⟩ (fun r2 h4=>
 NilW none l fun p2=>
 StW h4 (Addr.add p2 2) [r2.v] (fun h5=>
 Q 0 h5)) h3) h2)) h1)) h
def zbi (P:Program) (s:Sl) (f:FnV) (Q:(Int->(Hp->Prop))) (h:Hp):Prop:=
 LoopW1 (α1:=Int) (fun again t8 h1=>
 (if decide (t8<(s.len:Int)) then
 ((InB s.base s.len t8)/\LdW none sh_api_Waiter h1 (sat s.base 2 t8) fun x=>
 CallV P tb (.func (.func f.g) f.first f.captured) [x.v] zad (fun r h2=>
 (if r then
 Q t8 h2
 else
 again (IntKind.wrap .i64 (t8+1)) h2)) h1)
 else
 Q (-1) h1)) 0 h
def zqi (P:Program) (w:S_api_Waiter) (a1:Addr) (Q:(Bool->(Hp->Prop))) (h:Hp):Prop:=
 LdW none yH h a1 fun x=>
 Q (w.Proc==x) h
def zuw (P:Program) (op:Int) (Q:(ByteArray->(Hp->Prop))) (h:Hp):Prop:=
 LetW ((decide (op<0)) || (decide (op>=34))) fun y=>
 (if y then
 Q ⟨#[]⟩ h
 else
 ((0<=op/\op<34)/\∃x:ByteArray,((List.get?Internal (α:=Value) [(.string ⟨#[]⟩),(.string ⟨#[97,105]⟩),(.string ⟨#[97,98]⟩),(.string ⟨#[97,98,99]⟩),(.string ⟨#[97,98,99]⟩),(.string ⟨#[97,98,99]⟩),(.string ⟨#[97,98,99]⟩),(.string ⟨#[97,98,99]⟩),(.string ⟨#[97,98,99]⟩),(.string ⟨#[97,98,99]⟩),(.string ⟨#[97,98,99]⟩),(.string ⟨#[97,98,99]⟩),(.string ⟨#[97,98,99]⟩),(.string ⟨#[97,98,99]⟩),(.string ⟨#[97,98,99]⟩),(.string ⟨#[97,98,99]⟩),(.string ⟨#[97,98,99]⟩),(.string ⟨#[97,98,99]⟩),(.string ⟨#[97,98,99]⟩),(.string ⟨#[97,98,99]⟩),(.string ⟨#[97,98]⟩),(.string ⟨#[97,98]⟩),(.string ⟨#[105]⟩),(.string ⟨#[97,105]⟩),(.string ⟨#[97,98,99]⟩),(.string ⟨#[97,98]⟩),(.string ⟨#[97,98]⟩),(.string ⟨#[97]⟩),(.string ⟨#[97]⟩),(.string ⟨#[105]⟩),(.string ⟨#[105]⟩),(.string ⟨#[97]⟩),(.string ⟨#[97]⟩),(.string ⟨#[97]⟩)] ((Int.toNat op)*1))=(some (.string x))/\Q x h)))
def zyk (P:Program) (field:ByteArray) (a1:Addr) (Q:(Bool->(Hp->Prop))) (h:Hp):Prop:=
 LdW none shStr h a1 fun x=>
 CallT P zrg [(.string x),(.string field)] zad (fun r h1=>
 Q r h1) h
end Lf
namespace Lf
open Go
def Ann.s (a:Ann):Ann:=.sq .tt a
def rgR (a n:Nat):List (Nat×List Nat):=(List.range' a n).map fun i=>(i,[])
def znr :List Nat:=[3,13,14]
def zns :Ann:=(.s (.s (.s (.s (.s (.s (.sq (.s (.bk (.lp [⟨false,11,34⟩,⟨false,12,3⟩] [13,14] (.s (.sq (.bk (.s (.s (.jn [⟨false,11,34⟩] [] .tt (.s (.sq (.s (.bj [] [] (.s (.sq (.s (.bk (.lp [⟨false,15,3⟩] [] .tt))) .tt)))) .tt)))))) .tt))))) (.sq (.rg ([(0,[]),(1,[]),(2,[0])]++rgR 3 3)) .tt))))))))
def zwp :List Nat:=[5]
def zwq :Ann:=(.s (.s (.s (.s (.sq (.s (.bk (.lp [⟨false,3,3⟩,⟨false,4,3⟩] [] .tt))) .tt)))))
def zad1 :List Nat:=[1,6,8]
def zae1 :Ann:=(.s (.s (.s (.s (.sq (.s (.bk (.lp [⟨false,7,3⟩,⟨true,6,51⟩] [6,8] (.s (.sq (.bk (.s (.sq (.s (.bk (.lp [⟨false,9,3⟩,⟨true,8,66⟩] [8] .tt))) .tt))) .tt))))) (.sq (.s (.bk (.lp [⟨false,10,3⟩,⟨true,6,51⟩] [6] (.s (.sq (.bk (.rg (rgR 0 6++ [(6,[1]),(7,[]),(8,[1])]++rgR 9 3))) .tt))))) .tt))))))
def zpy1 :List Nat:=[1]
def zpz1 :Ann:=(.s (.s (.sq (.rg ([(0,[]),(1,[]),(2,[0])]++rgR 3 3)) .tt)))
def zux :List Nat:=[2,3]
def zuy :Ann:=(.s (.s (.sq (.s (.bk (.lp [⟨false,26,3⟩,⟨true,3,51⟩] [3] (.s (.s (.sq (.bk (.s (.s (.rg (rgR 0 10++rgR 11 10++ [(10,[1,5,14,18]),(21,[]),(22,[1])]++rgR 23 3))))) .tt)))))) (.sq (.s (.bk (.lp [⟨false,69,3⟩,⟨true,3,51⟩] [3] (.s (.s (.sq (.bk (.s (.s (.sq (.rg (rgR 0 14++ [(14,[3,7,9,12])]++rgR 15 6)) (.sq (.rg (rgR 0 14++ [(14,[3,7,9,12])]++rgR 15 6)) (.rg (rgR 0 25++ [(25,[1])]++rgR 26 3))))))) .tt)))))) .tt))))
def zqa1 :List Nat:=[2,3,10]
def zqb1 :Ann:=(.s (.s (.s (.s (.s (.sq (.s (.bk (.lp [⟨false,61,3⟩] [] .tt))) (.sq (.s (.bk (.lp [⟨false,72,3⟩] [] .tt))) .tt)))))))
def zqc1 :List Nat:=[2,3]
def zqd1 :Ann:=.tt
def zwr :List Nat:=[]
def zws :Ann:=.tt
def zwt :List Nat:=[]
def zwu :Ann:=(.s (.sq (.rg (rgR 0 10)) (.s (.s (.s (.sq (.s (.bj [] [] (.lp [⟨false,32,3⟩] [] (.s (.s (.sq (.bk (.sq (.s (.bk (.lp [⟨false,39,3⟩] [] (.s (.s (.sq (.bk (.s (.sq (.rg (rgR 0 13)) (.sq (.rg (rgR 0 14)) .tt)))) .tt)))))) .tt)) .tt)))))) .tt))))))
def ztb :List Nat:=[]
def ztc :Ann:=(.s (.s (.sq (.rg (rgR 0 14)) .tt)))
def zwv :List Nat:=[]
def zww :Ann:=.tt
def zyl :List Nat:=[2,3]
def zym :Ann:=(.s (.s (.sq (.s (.bk (.lp [⟨false,5,3⟩] [] (.s (.sq (.bk (.sq (.rg (rgR 0 12)) .tt)) .tt))))) (.sq (.s (.bk (.lp [⟨false,7,3⟩] [] (.s (.sq (.bk (.sq (.rg (rgR 0 12)) .tt)) .tt))))) .tt))))
def ztd :List Nat:=[0]
def zte :Ann:=.tt
def zaf1 :List Nat:=[1,7]
def zag1 :Ann:=(.s (.s (.s (.sq (.rg ([(0,[]),(1,[]),(3,[]),(4,[]),(6,[]),(7,[]),(9,[]),(10,[]),(13,[]),(2,[4,7,10]),(5,[7,10]),(8,[10]),(11,[]),(12,[]),(14,[])])) (.sq (.s (.bk (.lp [⟨false,8,3⟩] [] .tt))) (.s (.s (.sq (.s (.bk (.lp [⟨false,9,3⟩] [] (.s (.sq (.bk (.sq (.sq (.rg (rgR 0 12)) .tt) (.sq (.rg (rgR 0 14)) .tt))) .tt))))) .tt))))))))
def zce2 :List Nat:=[1,15]
def zcf2 :Ann:=(.s (.s (.s (.s (.sq (.s (.bk (.lp [⟨false,57,3⟩] [] .tt))) (.s (.sq (.s (.bk (.lp [⟨false,80,3⟩] [15] .tt))) .tt)))))))
def zmw1 :List Nat:=[2,3,7,11,12]
def zmx1 :Ann:=(.s (.sq (.rg ([(0,[]),(2,[]),(3,[]),(1,[3])]++rgR 4 3)) (.s (.s (.sq (.s (.bk (.lp [⟨false,48,3⟩] [7] (.s (.s (.sq (.bk (.s (.s (.rg (rgR 0 9++rgR 10 5++ [(9,[4,6,11,13]),(15,[4,6,11,13]),(16,[]),(17,[4]),(18,[4])]++rgR 19 4))))) .tt)))))) (.sq (.s (.bk (.lp [⟨false,86,3⟩] [11,12] (.s (.s (.sq (.bj [] [11,12] (.s (.s (.s (.sq (.rg (rgR 0 21++ [(21,[4]),(22,[4])]++rgR 23 4)) (.sq (.rg (rgR 0 9)) (.s (.jn [] [] (.s (.sq (.rg (rgR 0 5++ [(6,[]),(7,[]),(5,[3,7]),(8,[])])) .tt)) (.s (.sq (.rg (rgR 0 5++ [(6,[]),(7,[]),(5,[3,7]),(8,[])])) .tt)))))))))) .tt)))))) .tt))))))
def zkj1 :List Nat:=[1,2,3]
def zkk1 :Ann:=(.s (.sq (.r2 [(0,[]),(1,[]),(2,[]),(4,[]),(5,[]),(6,[]),(9,[])] 3 7 (.rg ([(3,[5]),(7,[]),(8,[]),(10,[])])) (.rg ([(7,[1]),(3,[5]),(8,[]),(10,[])]))) (.sq (.s (.bk (.lp [⟨false,18,3⟩] [] (.s (.s (.sq (.bj [] [] (.s (.r2 [(0,[]),(1,[]),(2,[]),(3,[]),(4,[]),(5,[]),(7,[]),(8,[]),(10,[]),(11,[])] 6 12 (.r2 [(6,[1,4,8,11])] 9 12 (.r2 [(9,[1,4,11]),(13,[]),(14,[])] 12 15 (.rg ([(12,[1,4]),(15,[4])]++rgR 16 3)) (.rg ([(15,[4,11]),(12,[1,4])]++rgR 16 3))) (.rg ([(12,[1,4,8]),(9,[1,4,11]),(13,[]),(14,[]),(15,[4,11])]++rgR 16 3))) (.rg ([(12,[1,4,8]),(6,[1,4,8,11]),(9,[1,4,11]),(13,[]),(14,[]),(15,[4,11])]++rgR 16 3))))) .tt)))))) (.sq (.s (.bk (.lp [⟨false,42,3⟩] [] (.s (.s (.sq (.bk (.s (.rg (rgR 0 7++ [(7,[1])]++rgR 8 3)))) .tt)))))) .tt))))
def zhr1 :List Nat:=[1,2,4]
def zhs1 :Ann:=(.s (.sq (.rg ([(0,[]),(1,[]),(3,[]),(4,[]),(6,[]),(7,[]),(2,[4,7]),(9,[]),(5,[7]),(8,[])]++rgR 10 5)) (.sq (.s (.bk (.lp [⟨false,20,3⟩] [4] (.s (.s (.sq (.bk (.s (.rg (rgR 0 5++ [(5,[1])]++rgR 6 3)))) .tt)))))) .tt)))
def zcj1 :List Nat:=[7]
def zck1 :Ann:=(.s (.s (.s (.sq (.s (.bk (.lp [⟨false,4,24⟩,⟨false,5,64⟩,⟨false,13,3⟩] [7] .tt))) .tt))))
def zkt :List Nat:=[]
def zku :Ann:=.tt
def zfw1 :List Nat:=[]
def zfx1 :Ann:=(.s (.s (.sq (.s (.bk (.lp [⟨false,4,70⟩,⟨false,12,3⟩] [] .tt))) (.sq (.rg (rgR 0 7)) .tt))))
def zfy1 :List Nat:=[6]
def zfz1 :Ann:=.tt
def zkl1 :List Nat:=[]
def zkm1 :Ann:=.tt
def zkn1 :List Nat:=[]
def zko1 :Ann:=.tt
def zwk1 :List Nat:=[]
def zwl1 :Ann:=(.s (.s (.s (.sq (.s (.bk (.lp [⟨false,29,3⟩] [] .tt))) .tt))))
def zah1 :List Nat:=[5,8]
def zai1 :Ann:=(.s (.s (.sq (.sq (.rg (rgR 0 12++ [(12,[9])]++rgR 13 12)) .tt) (.s (.sq (.s (.bk (.lp [⟨false,6,2⟩,⟨false,43,3⟩] [8] .tt))) .tt)))))
def zaj1 :List Nat:=[2,5,6,10]
def zak1 :Ann:=(.s (.sq (.rg (rgR 0 14++ [(14,[8,11]),(15,[])])) (.s (.sq (.bk (.jn [⟨false,28,4⟩] [] .tt (.s (.jn [⟨false,68,4⟩] [] .tt .tt)))) (.s (.sq (.s (.bk (.lp [⟨false,8,4⟩,⟨false,111,3⟩] [10] .tt))) .tt))))))
def zyn :List Nat:=[1,5,11,13,15,17]
def zyo :Ann:=(.s (.s (.sq (.s (.bk (.lp [⟨false,28,3⟩] [5] (.s (.s (.sq (.bk (.s (.s (.bk (.lp [⟨false,36,3⟩] [] (.s (.s (.sq (.bk (.s (.s (.bk (.lp [⟨false,43,3⟩] [] .tt))))) .tt)))))))) .tt)))))) (.sq (.s (.bk (.lp [⟨false,100,3⟩] [11,13,15] (.s (.s (.sq (.bk (.s (.s (.bk (.lp [⟨false,108,3⟩] [13,15] (.s (.s (.sq (.bk (.s (.s (.bk (.lp [⟨false,116,3⟩] [15] .tt))))) .tt)))))))) .tt)))))) (.sq (.s (.bk (.lp [⟨false,173,3⟩] [17] (.s (.s (.sq (.bk (.s (.s (.jn [⟨false,18,3⟩] [] .tt .tt)))) .tt)))))) .tt)))))
def zcl1 :List Nat:=[]
def zcm1 :Ann:=(.s (.s (.sq (.rg (rgR 0 14)) .tt)))
def zyp :List Nat:=[]
def zyq :Ann:=(.sq (.rg (rgR 0 8++ [(10,[]),(8,[]),(9,[])])) (.bk (.lp [⟨false,17,3⟩] [] (.s (.s (.sq (.bj [] [] .tt) .tt))))))
def zwx :List Nat:=[4,5]
def zwy :Ann:=(.sq (.rg (rgR 0 16++ [(20,[]),(21,[])]++rgR 16 4++ [(22,[]),(23,[])])) (.s (.sq (.rg (rgR 0 11)) (.s (.bk (.s (.s (.s (.s (.jn [⟨false,61,4⟩] [] .tt (.s (.s (.sq (.s (.sq (.rg (rgR 0 8++ [(8,[3]),(9,[])])) (.s (.sq (.rg (rgR 0 8++rgR 9 8++ [(8,[3,12,14]),(17,[])])) .tt)))) (.s (.sq (.sq (.rg (rgR 0 8++rgR 9 9++ [(8,[3,12,14]),(18,[])])) .tt) (.s (.sq (.sq (.rg (rgR 0 16)) .tt) (.s (.sq (.sq (.rg (rgR 0 8++ [(9,[]),(10,[]),(8,[10]),(11,[])])) (.sq (.sq (.rg (rgR 0 16)) .tt) .tt)) (.s (.sq (.sq (.rg (rgR 0 11)) (.sq (.rg (rgR 0 16++ [(16,[4])]++rgR 17 4)) .tt)) .tt)))))))))))))))))))))
def zuz :List Nat:=[]
def zva :Ann:=.tt
def zkp1 :List Nat:=[]
def zkq1 :Ann:=.tt
def zht1 :List Nat:=[]
def zhu1 :Ann:=.tt
def zwz :List Nat:=[]
def zxa :Ann:=.tt
def zxb :List Nat:=[10,12]
def zxc :Ann:=(.sq (.rg (rgR 0 11)) (.s (.sq (.s (.bk (.lp [⟨false,35,3⟩] [] (.s (.s (.sq (.bk (.s (.rg (rgR 0 15)))) .tt)))))) (.sq (.sq (.rg (rgR 0 8++ [(10,[]),(8,[]),(9,[])])) (.bk (.lp [⟨false,65,3⟩] [10] .tt))) (.sq (.rg (rgR 0 8++ [(8,[3]),(9,[])])) (.sq (.rg (rgR 0 8++ [(8,[3]),(9,[])])) (.s (.bk (.lp [⟨false,100,3⟩] [12] (.s (.s (.sq (.bk (.s (.rg (rgR 0 10)))) .tt))))))))))))
def zrp :List Nat:=[2,3]
def zrq :Ann:=(.s (.s (.sq (.s (.bk (.lp [⟨false,5,3⟩] [] (.s (.sq (.bk (.sq (.rg (rgR 0 11)) .tt)) .tt))))) (.sq (.s (.bk (.lp [⟨false,6,3⟩] [] (.s (.sq (.bk (.sq (.rg (rgR 0 12)) .tt)) .tt))))) .tt))))
def zpf :List Nat:=[2,3]
def zpg :Ann:=(.s (.s (.sq (.s (.bk (.lp [⟨false,5,3⟩] [] (.s (.sq (.bk (.sq (.rg (rgR 0 12)) .tt)) .tt))))) .tt)))
def zal1 :List Nat:=[]
def zam1 :Ann:=(.s (.s (.s (.sq (.s (.bk (.lp [⟨false,4,3⟩] [] (.s (.sq (.bk (.sq (.sq (.rg (rgR 0 10)) .tt) (.sq (.rg (rgR 0 10)) .tt))) .tt))))) .tt))))
def zvb :List Nat:=[]
def zvc :Ann:=(.s (.s (.s (.sq (.s (.bk (.lp [⟨false,5,3⟩] [] .tt))) .tt))))
def zvd :List Nat:=[]
def zve :Ann:=.tt
def zan1 :List Nat:=[]
def zao1 :Ann:=(.s (.s (.s (.sq (.s (.bk (.lp [⟨false,6,3⟩] [] .tt))) .tt))))
def zwm1 :List Nat:=[]
def zwn1 :Ann:=(.s (.s (.sq (.s (.bk (.lp [⟨false,4,3⟩] [] (.s (.sq (.bk (.bk (.sq (.rg (rgR 0 11)) (.s (.sq (.rg (rgR 0 11)) .tt))))) .tt))))) .tt)))
def zwo1 :List Nat:=[]
def zwp1 :Ann:=.tt
def zwq1 :List Nat:=[]
def zwr1 :Ann:=(.s (.s (.s (.sq (.rg ([(0,[]),(2,[]),(1,[2])]++rgR 3 5)) .tt))))
def zqe1 :List Nat:=[]
def zqf1 :Ann:=.tt
def zqg1 :List Nat:=[]
def zqh1 :Ann:=.tt
def zcg2 :List Nat:=[7]
def zch2 :Ann:=(.s (.s (.sq (.s (.bk (.lp [⟨false,22,3⟩] [7] .tt))) .tt)))
def zws1 :List Nat:=[]
def zwt1 :Ann:=(.s (.s (.s (.s (.sq (.s (.bk (.lp [⟨false,30,3⟩] [] (.s (.s (.sq (.bk (.s (.s (.s (.s (.bk (.lp [⟨false,65,3⟩] [] (.s (.s (.sq (.bk (.s (.s (.rg (rgR 0 14++ [(14,[3,8,12]),(15,[3])]++rgR 16 3))))) .tt)))))))))) .tt)))))) .tt)))))
def zwu1 :List Nat:=[]
def zwv1 :Ann:=.tt
def zci2 :List Nat:=[10]
def zcj2 :Ann:=(.s (.s (.s (.sq (.s (.bk (.lp [⟨false,44,3⟩] [10] .tt))) .tt))))
def zga1 :List Nat:=[7]
def zgb1 :Ann:=(.s (.s (.s (.s (.sq (.rg (rgR 0 11)) (.sq (.rg (rgR 0 7++ [(7,[4])]++rgR 8 4)) (.sq (.rg (rgR 0 7)) .tt)))))))
def zvf :List Nat:=[]
def zvg :Ann:=(.s (.jn [] [] .tt (.s (.jn [] [] .tt (.s (.s (.sq (.bk (.lp [⟨false,8,3⟩] [] (.s (.bk (.rg (rgR 0 10)))))) .tt)))))))
def zph :List Nat:=[]
def zpi :Ann:=.tt
def zxd :List Nat:=[]
def zxe :Ann:=.tt
def zly :List Nat:=[]
def zlz :Ann:=.tt
def znt :List Nat:=[]
def znu :Ann:=.tt
def zgc1 :List Nat:=[2]
def zgd1 :Ann:=(.s (.sq (.rg (rgR 0 4++rgR 5 4++rgR 10 8++ [(4,[8,13,17]),(9,[13,17]),(18,[]),(19,[])])) .tt))
def zap1 :List Nat:=[2,7]
def zaq1 :Ann:=(.s (.s (.sq (.s (.bk (.lp [⟨false,5,3⟩,⟨false,12,3⟩] [7] (.s (.s (.sq (.bj [⟨false,5,3⟩] [7] .tt) .tt)))))) .tt)))
def zec1 :List Nat:=[3]
def zed1 :Ann:=.tt
def zkr1 :List Nat:=[]
def zks1 :Ann:=.tt
def zok :List Nat:=[]
def zol :Ann:=.tt
def zxf :List Nat:=[]
def zxg :Ann:=.tt
def zkt1 :List Nat:=[]
def zku1 :Ann:=.tt
def zcn1 :List Nat:=[]
def zco1 :Ann:=(.s (.sq (.rg (rgR 0 26)) .tt))
def zee1 :List Nat:=[2]
def zef1 :Ann:=.tt
def zcp1 :List Nat:=[2,4]
def zcq1 :Ann:=(.s (.sq (.rg (rgR 0 16)) .tt))
def zyr :List Nat:=[3,4,7,8]
def zys :Ann:=(.s (.sq (.rg (rgR 0 10++ [(11,[]),(12,[]),(10,[2,4,6]),(13,[]),(14,[])])) (.sq (.rg (rgR 0 28)) .tt)))
def zge1 :List Nat:=[]
def zgf1 :Ann:=(.s (.s (.sq (.bk (.lp [⟨false,5,24⟩] [] .tt)) .tt)))
def zxh :List Nat:=[5]
def zxi :Ann:=(.s (.rg (rgR 0 5++ [(5,[2])]++rgR 6 3)))
def zck2 :List Nat:=[1,2]
def zcl2 :Ann:=.tt
def zcm2 :List Nat:=[8,9,10,12,15]
def zcn2 :Ann:=(.s (.s (.s (.sq (.s (.s (.sq (.sq (.s (.sq (.sq (.rg ([(0,[]),(1,[]),(2,[1]),(3,[])])) .tt) .tt)) (.sq (.rg ([(0,[]),(2,[]),(1,[2]),(3,[2]),(4,[])])) .tt)) .tt))) (.s (.s (.sq (.s (.bj [⟨true,8,105⟩,⟨true,9,184⟩] [8,9] (.s (.s (.s (.sq (.rg (rgR 0 7)) (.s (.s (.s (.s (.s (.s (.s (.s (.sq (.rg (rgR 0 16)) (.jn [⟨false,16,2⟩] [] (.s (.sq (.rg (rgR 0 15)) .tt)) .tt)))))))))))))))) .tt)))))))
def zvh :List Nat:=[]
def zvi :Ann:=(.s (.s (.bk (.sq (.rg (rgR 0 15)) (.sq (.sq (.rg (rgR 0 23++ [(23,[3,7,9])]++rgR 24 3)) .tt) (.sq (.rg (rgR 0 10)) (.s (.jn [] [] (.sq (.rg (rgR 0 19)) (.sq (.rg (rgR 0 9)) .tt)) .tt))))))))
def zvj :List Nat:=[8]
def zvk :Ann:=(.s (.bk (.s (.sq (.sq (.rg (rgR 0 15)) (.s (.sq (.rg (rgR 0 10)) .tt))) (.s (.sq (.s (.rg (rgR 0 13))) (.s (.sq (.rg (rgR 0 13)) .tt))))))))
def zcr1 :List Nat:=[5,8]
def zcs1 :Ann:=(.s (.s (.s (.sq (.s (.bk (.lp [⟨false,25,3⟩] [8] .tt))) .tt))))
def zeg1 :List Nat:=[]
def zeh1 :Ann:=(.s (.s (.s (.s (.jn [] [] .tt .tt)))))
def zrr :List Nat:=[]
def zrs :Ann:=.tt
def zct1 :List Nat:=[7]
def zcu1 :Ann:=(.s (.s (.sq (.s (.bk (.lp [⟨false,5,24⟩,⟨false,13,3⟩] [7] (.s (.s (.sq (.bj [⟨false,5,24⟩] [7] .tt) .tt)))))) .tt)))
def zei1 :List Nat:=[]
def zej1 :Ann:=(.s (.s (.s (.sq (.bk (.s (.s (.s (.s (.s (.rg (rgR 0 19)))))))) .tt))))
def zvl :List Nat:=[]
def zvm :Ann:=(.s (.sq (.rg (rgR 0 18++ [(18,[4,7]),(19,[])])) .tt))
def zmy1 :List Nat:=[]
def zmz1 :Ann:=.tt
def zgg1 :List Nat:=[]
def zgh1 :Ann:=.tt
def zkv1 :List Nat:=[]
def zkw1 :Ann:=.tt
def zhv1 :List Nat:=[]
def zhw1 :Ann:=.tt
def zgi1 :List Nat:=[]
def zgj1 :Ann:=(.s (.s (.sq (.s (.bk (.lp [⟨false,5,4⟩,⟨false,13,3⟩] [] (.s (.s (.sq (.bj [⟨false,5,4⟩] [] .tt) .tt)))))) .tt)))
def zgk1 :List Nat:=[]
def zgl1 :Ann:=(.s (.sq (.s (.bk (.lp [⟨false,17,3⟩] [] (.s (.s (.sq (.bj [] [] (.s (.s (.s (.sq (.rg (rgR 0 16++ [(16,[3])]++rgR 17 3)) .tt))))) .tt)))))) (.s (.sq (.s (.bk (.lp [⟨false,7,195⟩,⟨false,56,3⟩] [] .tt))) .tt))))
def zkx1 :List Nat:=[]
def zky1 :Ann:=(.s (.s (.sq (.s (.bk (.lp [⟨false,3,142⟩,⟨false,11,3⟩] [] .tt))) .tt)))
def zrt :List Nat:=[]
def zru :Ann:=(.rg (rgR 0 13))
def zyt :List Nat:=[]
def zyu :Ann:=(.s (.s (.sq (.s (.bk (.lp [⟨false,5,3⟩] [] (.s (.sq (.bk (.sq (.rg (rgR 0 9)) .tt)) .tt))))) .tt)))
def zrv :List Nat:=[2,3]
def zrw :Ann:=(.s (.s (.sq (.s (.bk (.lp [⟨false,5,3⟩] [] (.s (.sq (.bk (.sq (.rg (rgR 0 11)) .tt)) .tt))))) (.sq (.s (.bk (.lp [⟨false,6,3⟩] [] (.s (.sq (.bk (.sq (.rg (rgR 0 11)) .tt)) .tt))))) .tt))))
def zxj :List Nat:=[3]
def zxk :Ann:=.tt
def zqq :List Nat:=[]
def zqr :Ann:=(.s (.sq (.s (.bk (.lp [⟨false,8,3⟩] [] .tt))) .tt))
def zqi1 :List Nat:=[]
def zqj1 :Ann:=.tt
def ztd1 :List Nat:=[3]
def zte1 :Ann:=.tt
def zcv1 :List Nat:=[7]
def zcw1 :Ann:=(.s (.sq (.s (.bk (.lp [⟨false,13,3⟩] [7] .tt))) .tt))
def zco2 :List Nat:=[3]
def zcp2 :Ann:=(.s (.s (.s (.s (.sq (.rg (rgR 0 4++ [(5,[]),(6,[]),(4,[6])]++rgR 7 7)) (.sq (.rg (rgR 0 8++ [(8,[5])]++rgR 9 3)) .tt))))))
def zcl :List Nat:=[4]
def zcm :Ann:=(.s (.s (.s (.sq (.bk (.lp [⟨false,9,3⟩,⟨false,10,3⟩] [] (.s (.bj [⟨false,9,3⟩,⟨false,10,3⟩] [] (.s (.sq (.rg (rgR 0 8)) .tt)))))) (.sq (.rg (rgR 0 16)) .tt)))))
def zqk1 :List Nat:=[2,3]
def zql1 :Ann:=(.s (.sq (.rg (rgR 0 4++rgR 5 4++ [(4,[6,8])]++rgR 9 4)) .tt))
def zif :List Nat:=[]
def zig :Ann:=(.s (.s (.s (.s (.s (.s (.sq (.s (.sq (.s (.s (.sq (.rg (rgR 0 9)) .tt))) .tt)) (.s (.sq (.s (.sq (.sq (.rg (rgR 0 9)) .tt) .tt)) .tt)))))))))
def zkz1 :List Nat:=[]
def zla1 :Ann:=.tt
def zqs :List Nat:=[]
def zqt :Ann:=.tt
def zjq :List Nat:=[]
def zjr :Ann:=.tt
def zhx1 :List Nat:=[]
def zhy1 :Ann:=.tt
def zqm1 :List Nat:=[]
def zqn1 :Ann:=.tt
def zjo2 :List Nat:=[2,4]
def zjp2 :Ann:=.tt
def zww1 :List Nat:=[2,3,4]
def zwx1 :Ann:=(.s (.sq (.s (.bk (.s (.s (.s (.sq (.sq (.rg (rgR 0 12)) .tt) .tt)))))) .tt))
def zna1 :List Nat:=[]
def znb1 :Ann:=.tt
def zjq2 :List Nat:=[]
def zjr2 :Ann:=.tt
def zjs2 :List Nat:=[]
def zjt2 :Ann:=.tt
def ztf :List Nat:=[]
def ztg :Ann:=(.bk (.s (.s (.sq (.rg (rgR 0 12)) (.sq (.sq (.rg (rgR 0 14)) .tt) .tt)))))
def zcq2 :List Nat:=[8,9]
def zcr2 :Ann:=(.s (.jn [] [9] .tt .tt))
def zih :List Nat:=[]
def zii :Ann:=(.s (.s (.s (.s (.sq (.rg (rgR 0 8)) .tt)))))
def zcx1 :List Nat:=[]
def zcy1 :Ann:=.tt
def zxl :List Nat:=[]
def zxm :Ann:=(.s (.sq (.s (.bk (.lp [⟨false,8,3⟩] [] .tt))) .tt))
def zhz1 :List Nat:=[]
def zia1 :Ann:=(.s (.sq (.rg (rgR 0 11)) .tt))
def zwy1 :List Nat:=[]
def zwz1 :Ann:=.tt
def zgm1 :List Nat:=[]
def zgn1 :Ann:=.tt
def zvn :List Nat:=[]
def zvo :Ann:=(.s (.s (.s (.s (.sq (.rg (rgR 0 8)) .tt)))))
def zlb1 :List Nat:=[]
def zlc1 :Ann:=(.s (.sq (.rg (rgR 0 16)) .tt))
def zcs2 :List Nat:=[6,7]
def zct2 :Ann:=(.s (.jn [] [7] .tt .tt))
def zxn :List Nat:=[3]
def zxo :Ann:=.tt
def ztf1 :List Nat:=[3]
def ztg1 :Ann:=.tt
def zcu2 :List Nat:=[]
def zcv2 :Ann:=.tt
def zqo1 :List Nat:=[]
def zqp1 :Ann:=.tt
def zth1 :List Nat:=[5]
def zti1 :Ann:=(.s (.s (.sq (.s (.bk (.lp [⟨false,9,3⟩] [5] .tt))) .tt)))
def ztj1 :List Nat:=[]
def ztk1 :Ann:=(.s (.s (.sq (.s (.bk (.lp [⟨false,8,3⟩] [] .tt))) .tt)))
def zcz1 :List Nat:=[]
def zda1 :Ann:=.tt
def zgo1 :List Nat:=[]
def zgp1 :Ann:=.tt
def zgq1 :List Nat:=[]
def zgr1 :Ann:=.tt
def znc1 :List Nat:=[]
def znd1 :Ann:=.tt
def zcw2 :List Nat:=[]
def zcx2 :Ann:=.tt
def zxa1 :List Nat:=[]
def zxb1 :Ann:=.tt
def zgd2 :List Nat:=[]
def zge2 :Ann:=.tt
def zxc1 :List Nat:=[]
def zxd1 :Ann:=.tt
def zcy2 :List Nat:=[]
def zcz2 :Ann:=.tt
def zxe1 :List Nat:=[]
def zxf1 :Ann:=.tt
def zib1 :List Nat:=[]
def zic1 :Ann:=.tt
def zgs1 :List Nat:=[4]
def zgt1 :Ann:=(.s (.sp 4 (.rg (rgR 0 9++ [(10,[]),(9,[3,7]),(11,[7]),(12,[])])) .tt))
def zld1 :List Nat:=[]
def zle1 :Ann:=.tt
def zid1 :List Nat:=[3]
def zie1 :Ann:=(.s (.s (.s (.sq (.rg (rgR 0 11)) (.s (.s (.sq (.s (.sq (.s (.sq (.rg (rgR 0 19)) (.rg (rgR 0 7++ [(7,[4])]++rgR 8 4)))) .tt)) (.sq (.rg (rgR 0 7)) .tt))))))))
def zgu1 :List Nat:=[]
def zgv1 :Ann:=.tt
def zjj :List Nat:=[]
def zjk :Ann:=(.s (.s (.s (.s (.sq (.rg (rgR 0 8)) .tt)))))
def zvp :List Nat:=[]
def zvq :Ann:=(.s (.sq (.s (.bk (.s (.s (.jn [⟨false,9,4⟩] [] .tt (.s (.jn [⟨false,15,4⟩] [] .tt (.s (.jn [⟨false,28,4⟩] [] .tt (.s (.jn [⟨false,35,4⟩] [] .tt (.s (.s (.s (.jn [⟨false,41,4⟩] [] .tt .tt))))))))))))))) .tt))
def zrx :List Nat:=[]
def zry :Ann:=.tt
def zqq1 :List Nat:=[]
def zqr1 :Ann:=.tt
def zlf1 :List Nat:=[]
def zlg1 :Ann:=.tt
def zqs1 :List Nat:=[4]
def zqt1 :Ann:=.tt
def zgw1 :List Nat:=[]
def zgx1 :Ann:=.tt
def zlh1 :List Nat:=[]
def zli1 :Ann:=.tt
def zgy1 :List Nat:=[8]
def zgz1 :Ann:=(.s (.sq (.s (.bk (.lp [⟨false,14,3⟩] [8] (.s (.s (.sq (.bk (.s (.s (.bk (.lp [⟨false,23,3⟩] [8] .tt))))) .tt)))))) .tt))
def zif1 :List Nat:=[]
def zig1 :Ann:=.tt
def zhm :List Nat:=[]
def zhn :Ann:=(.s (.sq (.s (.bk (.lp [⟨false,8,3⟩] [] .tt))) .tt))
def zdb1 :List Nat:=[2]
def zdc1 :Ann:=.tt
def zqu1 :List Nat:=[]
def zqv1 :Ann:=.tt
def zlj1 :List Nat:=[]
def zlk1 :Ann:=.tt
end Lf
namespace Lf
open Go Go.Proofs Tryz
theorem zzy1 {α:Type _} {l:List α} {i:Nat} (h:l.length<=i):nth l i=none:=by rw [zda];exact List.getElem?_eq_none h
theorem tyS {a e:Ty} {p:Ty->Prop} (h:some a=some e) (x:p a):p e:=Option.some.inj h▸x
theorem tyN {e:Ty} {q:Prop} (h:(none:Option Ty)=some e):q:=by cases h
theorem tyAll {p:Nat->Ty->Prop} (h0:p 0 ty0) (h2:p 2 ty2) (h3:p 3 ty3) (h4:p 4 ty4) (h5:p 5 ty5) (h9:p 9 ty9) (h20:p 20 ty20) (h23:p 23 ty23) (h24:p 24 ty24) (h25:p 25 ty25) (h27:p 27 ty27) (h28:p 28 ty28) (h29:p 29 ty29) (h30:p 30 ty30) (h31:p 31 ty31) (h34:p 34 ty34) (h35:p 35 ty35) (h40:p 40 ty40) (h42:p 42 ty42) (h45:p 45 ty45) (h48:p 48 ty48) (h49:p 49 ty49) (h51:p 51 ty51) (h63:p 63 ty63) (h64:p 64 ty64) (h66:p 66 ty66) (h68:p 68 ty68) (h69:p 69 ty69) (h70:p 70 ty70) (h72:p 72 ty72) (h73:p 73 ty73) (h76:p 76 ty76) (h77:p 77 ty77) (h79:p 79 ty79) (h82:p 82 ty82) (h84:p 84 ty84) (h88:p 88 ty88) (h89:p 89 ty89) (h90:p 90 ty90) (h91:p 91 ty91) (h93:p 93 ty93) (h94:p 94 ty94) (h95:p 95 ty95) (h96:p 96 ty96) (h97:p 97 ty97) (h99:p 99 ty99) (h102:p 102 ty102) (h103:p 103 ty103) (h105:p 105 ty105) (h106:p 106 ty106) (h108:p 108 ty108) (h110:p 110 ty110) (h112:p 112 ty112) (h115:p 115 ty115) (h116:p 116 ty116) (h128:p 128 ty128) (h131:p 131 ty131) (h133:p 133 ty133) (h136:p 136 ty136) (h141:p 141 ty141) (h142:p 142 ty142) (h144:p 144 ty144) (h147:p 147 ty147) (h149:p 149 ty149) (h154:p 154 ty154) (h156:p 156 ty156) (h158:p 158 ty158) (h159:p 159 ty159) (h161:p 161 ty161) (h162:p 162 ty162) (h165:p 165 ty165) (h166:p 166 ty166) (h167:p 167 ty167) (h168:p 168 ty168) (h170:p 170 ty170) (h171:p 171 ty171) (h173:p 173 ty173) (h179:p 179 ty179) (h184:p 184 ty184) (h185:p 185 ty185) (h189:p 189 ty189) (h192:p 192 ty192) (h195:p 195 ty195) (h198:p 198 ty198) (h204:p 204 ty204) (h206:p 206 ty206) (h210:p 210 ty210) (h212:p 212 ty212) (h215:p 215 ty215) (h217:p 217 ty217) (h218:p 218 ty218) (h220:p 220 ty220) (h223:p 223 ty223) (h224:p 224 ty224) (h231:p 231 ty231) (h235:p 235 ty235) (h237:p 237 ty237) (h240:p 240 ty240) (h244:p 244 ty244) (h256:p 256 ty256) (h257:p 257 ty257) (h259:p 259 ty259) (h262:p 262 ty262) (h265:p 265 ty265) (h268:p 268 ty268) (h272:p 272 ty272) (h273:p 273 ty273) (h275:p 275 ty275) (h279:p 279 ty279) (h284:p 284 ty284) (h287:p 287 ty287) (h291:p 291 ty291) (h294:p 294 ty294) (h302:p 302 ty302) (h303:p 303 ty303) (h305:p 305 ty305) (h308:p 308 ty308) (h319:p 319 ty319) (h322:p 322 ty322):∀t e,tyAt t=some e->p t e:=by
 intro t e h
 by_cases hlt:t<336
 ·match t,hlt,h with
  | 0,_,h=>exact tyS h h0
  | 1,_,h=>exact tyN h
  | 2,_,h=>exact tyS h h2
  | 3,_,h=>exact tyS h h3
  | 4,_,h=>exact tyS h h4
  | 5,_,h=>exact tyS h h5
  | 6,_,h=>exact tyN h
  | 7,_,h=>exact tyN h
  | 8,_,h=>exact tyN h
  | 9,_,h=>exact tyS h h9
  | 10,_,h=>exact tyN h
  | 11,_,h=>exact tyN h
  | 12,_,h=>exact tyN h
  | 13,_,h=>exact tyN h
  | 14,_,h=>exact tyN h
  | 15,_,h=>exact tyN h
  | 16,_,h=>exact tyN h
  | 17,_,h=>exact tyN h
  | 18,_,h=>exact tyN h
  | 19,_,h=>exact tyN h
  | 20,_,h=>exact tyS h h20
  | 21,_,h=>exact tyN h
  | 22,_,h=>exact tyN h
  | 23,_,h=>exact tyS h h23
  | 24,_,h=>exact tyS h h24
  | 25,_,h=>exact tyS h h25
  | 26,_,h=>exact tyN h
  | 27,_,h=>exact tyS h h27
  | 28,_,h=>exact tyS h h28
  | 29,_,h=>exact tyS h h29
  | 30,_,h=>exact tyS h h30
  | 31,_,h=>exact tyS h h31
  | 32,_,h=>exact tyN h
  | 33,_,h=>exact tyN h
  | 34,_,h=>exact tyS h h34
  | 35,_,h=>exact tyS h h35
  | 36,_,h=>exact tyN h
  | 37,_,h=>exact tyN h
  | 38,_,h=>exact tyN h
  | 39,_,h=>exact tyN h
  | 40,_,h=>exact tyS h h40
  | 41,_,h=>exact tyN h
  | 42,_,h=>exact tyS h h42
  | 43,_,h=>exact tyN h
  | 44,_,h=>exact tyN h
  | 45,_,h=>exact tyS h h45
  | 46,_,h=>exact tyN h
  | 47,_,h=>exact tyN h
  | 48,_,h=>exact tyS h h48
  | 49,_,h=>exact tyS h h49
  | 50,_,h=>exact tyN h
  | 51,_,h=>exact tyS h h51
  | 52,_,h=>exact tyN h
  | 53,_,h=>exact tyN h
  | 54,_,h=>exact tyN h
  | 55,_,h=>exact tyN h
  | 56,_,h=>exact tyN h
  | 57,_,h=>exact tyN h
  | 58,_,h=>exact tyN h
  | 59,_,h=>exact tyN h
  | 60,_,h=>exact tyN h
  | 61,_,h=>exact tyN h
  | 62,_,h=>exact tyN h
  | 63,_,h=>exact tyS h h63
  | 64,_,h=>exact tyS h h64
  | 65,_,h=>exact tyN h
  | 66,_,h=>exact tyS h h66
  | 67,_,h=>exact tyN h
  | 68,_,h=>exact tyS h h68
  | 69,_,h=>exact tyS h h69
  | 70,_,h=>exact tyS h h70
  | 71,_,h=>exact tyN h
  | 72,_,h=>exact tyS h h72
  | 73,_,h=>exact tyS h h73
  | 74,_,h=>exact tyN h
  | 75,_,h=>exact tyN h
  | 76,_,h=>exact tyS h h76
  | 77,_,h=>exact tyS h h77
  | 78,_,h=>exact tyN h
  | 79,_,h=>exact tyS h h79
  | 80,_,h=>exact tyN h
  | 81,_,h=>exact tyN h
  | 82,_,h=>exact tyS h h82
  | 83,_,h=>exact tyN h
  | 84,_,h=>exact tyS h h84
  | 85,_,h=>exact tyN h
  | 86,_,h=>exact tyN h
  | 87,_,h=>exact tyN h
  | 88,_,h=>exact tyS h h88
  | 89,_,h=>exact tyS h h89
  | 90,_,h=>exact tyS h h90
  | 91,_,h=>exact tyS h h91
  | 92,_,h=>exact tyN h
  | 93,_,h=>exact tyS h h93
  | 94,_,h=>exact tyS h h94
  | 95,_,h=>exact tyS h h95
  | 96,_,h=>exact tyS h h96
  | 97,_,h=>exact tyS h h97
  | 98,_,h=>exact tyN h
  | 99,_,h=>exact tyS h h99
  | 100,_,h=>exact tyN h
  | 101,_,h=>exact tyN h
  | 102,_,h=>exact tyS h h102
  | 103,_,h=>exact tyS h h103
  | 104,_,h=>exact tyN h
  | 105,_,h=>exact tyS h h105
  | 106,_,h=>exact tyS h h106
  | 107,_,h=>exact tyN h
  | 108,_,h=>exact tyS h h108
  | 109,_,h=>exact tyN h
  | 110,_,h=>exact tyS h h110
  | 111,_,h=>exact tyN h
  | 112,_,h=>exact tyS h h112
  | 113,_,h=>exact tyN h
  | 114,_,h=>exact tyN h
  | 115,_,h=>exact tyS h h115
  | 116,_,h=>exact tyS h h116
  | 117,_,h=>exact tyN h
  | 118,_,h=>exact tyN h
  | 119,_,h=>exact tyN h
  | 120,_,h=>exact tyN h
  | 121,_,h=>exact tyN h
  | 122,_,h=>exact tyN h
  | 123,_,h=>exact tyN h
  | 124,_,h=>exact tyN h
  | 125,_,h=>exact tyN h
  | 126,_,h=>exact tyN h
  | 127,_,h=>exact tyN h
  | 128,_,h=>exact tyS h h128
  | 129,_,h=>exact tyN h
  | 130,_,h=>exact tyN h
  | 131,_,h=>exact tyS h h131
  | 132,_,h=>exact tyN h
  | 133,_,h=>exact tyS h h133
  | 134,_,h=>exact tyN h
  | 135,_,h=>exact tyN h
  | 136,_,h=>exact tyS h h136
  | 137,_,h=>exact tyN h
  | 138,_,h=>exact tyN h
  | 139,_,h=>exact tyN h
  | 140,_,h=>exact tyN h
  | 141,_,h=>exact tyS h h141
  | 142,_,h=>exact tyS h h142
  | 143,_,h=>exact tyN h
  | 144,_,h=>exact tyS h h144
  | 145,_,h=>exact tyN h
  | 146,_,h=>exact tyN h
  | 147,_,h=>exact tyS h h147
  | 148,_,h=>exact tyN h
  | 149,_,h=>exact tyS h h149
  | 150,_,h=>exact tyN h
  | 151,_,h=>exact tyN h
  | 152,_,h=>exact tyN h
  | 153,_,h=>exact tyN h
  | 154,_,h=>exact tyS h h154
  | 155,_,h=>exact tyN h
  | 156,_,h=>exact tyS h h156
  | 157,_,h=>exact tyN h
  | 158,_,h=>exact tyS h h158
  | 159,_,h=>exact tyS h h159
  | 160,_,h=>exact tyN h
  | 161,_,h=>exact tyS h h161
  | 162,_,h=>exact tyS h h162
  | 163,_,h=>exact tyN h
  | 164,_,h=>exact tyN h
  | 165,_,h=>exact tyS h h165
  | 166,_,h=>exact tyS h h166
  | 167,_,h=>exact tyS h h167
  | 168,_,h=>exact tyS h h168
  | 169,_,h=>exact tyN h
  | 170,_,h=>exact tyS h h170
  | 171,_,h=>exact tyS h h171
  | 172,_,h=>exact tyN h
  | 173,_,h=>exact tyS h h173
  | 174,_,h=>exact tyN h
  | 175,_,h=>exact tyN h
  | 176,_,h=>exact tyN h
  | 177,_,h=>exact tyN h
  | 178,_,h=>exact tyN h
  | 179,_,h=>exact tyS h h179
  | 180,_,h=>exact tyN h
  | 181,_,h=>exact tyN h
  | 182,_,h=>exact tyN h
  | 183,_,h=>exact tyN h
  | 184,_,h=>exact tyS h h184
  | 185,_,h=>exact tyS h h185
  | 186,_,h=>exact tyN h
  | 187,_,h=>exact tyN h
  | 188,_,h=>exact tyN h
  | 189,_,h=>exact tyS h h189
  | 190,_,h=>exact tyN h
  | 191,_,h=>exact tyN h
  | 192,_,h=>exact tyS h h192
  | 193,_,h=>exact tyN h
  | 194,_,h=>exact tyN h
  | 195,_,h=>exact tyS h h195
  | 196,_,h=>exact tyN h
  | 197,_,h=>exact tyN h
  | 198,_,h=>exact tyS h h198
  | 199,_,h=>exact tyN h
  | 200,_,h=>exact tyN h
  | 201,_,h=>exact tyN h
  | 202,_,h=>exact tyN h
  | 203,_,h=>exact tyN h
  | 204,_,h=>exact tyS h h204
  | 205,_,h=>exact tyN h
  | 206,_,h=>exact tyS h h206
  | 207,_,h=>exact tyN h
  | 208,_,h=>exact tyN h
  | 209,_,h=>exact tyN h
  | 210,_,h=>exact tyS h h210
  | 211,_,h=>exact tyN h
  | 212,_,h=>exact tyS h h212
  | 213,_,h=>exact tyN h
  | 214,_,h=>exact tyN h
  | 215,_,h=>exact tyS h h215
  | 216,_,h=>exact tyN h
  | 217,_,h=>exact tyS h h217
  | 218,_,h=>exact tyS h h218
  | 219,_,h=>exact tyN h
  | 220,_,h=>exact tyS h h220
  | 221,_,h=>exact tyN h
  | 222,_,h=>exact tyN h
  | 223,_,h=>exact tyS h h223
  | 224,_,h=>exact tyS h h224
  | 225,_,h=>exact tyN h
  | 226,_,h=>exact tyN h
  | 227,_,h=>exact tyN h
  | 228,_,h=>exact tyN h
  | 229,_,h=>exact tyN h
  | 230,_,h=>exact tyN h
  | 231,_,h=>exact tyS h h231
  | 232,_,h=>exact tyN h
  | 233,_,h=>exact tyN h
  | 234,_,h=>exact tyN h
  | 235,_,h=>exact tyS h h235
  | 236,_,h=>exact tyN h
  | 237,_,h=>exact tyS h h237
  | 238,_,h=>exact tyN h
  | 239,_,h=>exact tyN h
  | 240,_,h=>exact tyS h h240
  | 241,_,h=>exact tyN h
  | 242,_,h=>exact tyN h
  | 243,_,h=>exact tyN h
  | 244,_,h=>exact tyS h h244
  | 245,_,h=>exact tyN h
  | 246,_,h=>exact tyN h
  | 247,_,h=>exact tyN h
  | 248,_,h=>exact tyN h
  | 249,_,h=>exact tyN h
  | 250,_,h=>exact tyN h
  | 251,_,h=>exact tyN h
  | 252,_,h=>exact tyN h
  | 253,_,h=>exact tyN h
  | 254,_,h=>exact tyN h
  | 255,_,h=>exact tyN h
  | 256,_,h=>exact tyS h h256
  | 257,_,h=>exact tyS h h257
  | 258,_,h=>exact tyN h
  | 259,_,h=>exact tyS h h259
  | 260,_,h=>exact tyN h
  | 261,_,h=>exact tyN h
  | 262,_,h=>exact tyS h h262
  | 263,_,h=>exact tyN h
  | 264,_,h=>exact tyN h
  | 265,_,h=>exact tyS h h265
  | 266,_,h=>exact tyN h
  | 267,_,h=>exact tyN h
  | 268,_,h=>exact tyS h h268
  | 269,_,h=>exact tyN h
  | 270,_,h=>exact tyN h
  | 271,_,h=>exact tyN h
  | 272,_,h=>exact tyS h h272
  | 273,_,h=>exact tyS h h273
  | 274,_,h=>exact tyN h
  | 275,_,h=>exact tyS h h275
  | 276,_,h=>exact tyN h
  | 277,_,h=>exact tyN h
  | 278,_,h=>exact tyN h
  | 279,_,h=>exact tyS h h279
  | 280,_,h=>exact tyN h
  | 281,_,h=>exact tyN h
  | 282,_,h=>exact tyN h
  | 283,_,h=>exact tyN h
  | 284,_,h=>exact tyS h h284
  | 285,_,h=>exact tyN h
  | 286,_,h=>exact tyN h
  | 287,_,h=>exact tyS h h287
  | 288,_,h=>exact tyN h
  | 289,_,h=>exact tyN h
  | 290,_,h=>exact tyN h
  | 291,_,h=>exact tyS h h291
  | 292,_,h=>exact tyN h
  | 293,_,h=>exact tyN h
  | 294,_,h=>exact tyS h h294
  | 295,_,h=>exact tyN h
  | 296,_,h=>exact tyN h
  | 297,_,h=>exact tyN h
  | 298,_,h=>exact tyN h
  | 299,_,h=>exact tyN h
  | 300,_,h=>exact tyN h
  | 301,_,h=>exact tyN h
  | 302,_,h=>exact tyS h h302
  | 303,_,h=>exact tyS h h303
  | 304,_,h=>exact tyN h
  | 305,_,h=>exact tyS h h305
  | 306,_,h=>exact tyN h
  | 307,_,h=>exact tyN h
  | 308,_,h=>exact tyS h h308
  | 309,_,h=>exact tyN h
  | 310,_,h=>exact tyN h
  | 311,_,h=>exact tyN h
  | 312,_,h=>exact tyN h
  | 313,_,h=>exact tyN h
  | 314,_,h=>exact tyN h
  | 315,_,h=>exact tyN h
  | 316,_,h=>exact tyN h
  | 317,_,h=>exact tyN h
  | 318,_,h=>exact tyN h
  | 319,_,h=>exact tyS h h319
  | 320,_,h=>exact tyN h
  | 321,_,h=>exact tyN h
  | 322,_,h=>exact tyS h h322
  | 323,_,h=>exact tyN h
  | 324,_,h=>exact tyN h
  | 325,_,h=>exact tyN h
  | 326,_,h=>exact tyN h
  | 327,_,h=>exact tyN h
  | 328,_,h=>exact tyN h
  | 329,_,h=>exact tyN h
  | 330,_,h=>exact tyN h
  | 331,_,h=>exact tyN h
  | 332,_,h=>exact tyN h
  | 333,_,h=>exact tyN h
  | 334,_,h=>exact tyN h
  | 335,_,h=>exact tyN h
  | n+336,hlt,_=>omega
 ·have hl:tyRows.length=21:=rfl
  have:nth tyRows (t / 16)=none:=zzy1 (l:=tyRows) (i:=t / 16) (by rw [hl];omega)
  unfold tyAt at h
  rw [this] at h
  cases h
theorem zmo2 (x:Leaf):(zac x.v).length=1/\∀cs,x.v≠ .agg cs:=by
 obtain ⟨v,h⟩:=x
 cases v<;>first | exact ⟨rfl,fun cs h=>by cases h⟩ | cases h
theorem tb_ok :tb.Ok prog where
 und:=tyAll (p:=fun t e=>prog.underlying t=some e.und) underlying0 underlying2 underlying3 underlying4 underlying5 underlying9 underlying20 underlying23 underlying24 underlying25 underlying27 underlying28 underlying29 underlying30 underlying31 underlying34 underlying35 underlying40 underlying42 underlying45 underlying48 underlying49 underlying51 underlying63 underlying64 underlying66 underlying68 underlying69 underlying70 underlying72 underlying73 underlying76 underlying77 underlying79 underlying82 underlying84 underlying88 underlying89 underlying90 underlying91 underlying93 underlying94 underlying95 underlying96 underlying97 underlying99 underlying102 underlying103 underlying105 underlying106 underlying108 underlying110 underlying112 underlying115 underlying116 underlying128 underlying131 underlying133 underlying136 underlying141 underlying142 underlying144 underlying147 underlying149 underlying154 underlying156 underlying158 underlying159 underlying161 underlying162 underlying165 underlying166 underlying167 underlying168 underlying170 underlying171 underlying173 underlying179 underlying184 underlying185 underlying189 underlying192 underlying195 underlying198 underlying204 underlying206 underlying210 underlying212 underlying215 underlying217 underlying218 underlying220 underlying223 underlying224 underlying231 underlying235 underlying237 underlying240 underlying244 underlying256 underlying257 underlying259 underlying262 underlying265 underlying268 underlying272 underlying273 underlying275 underlying279 underlying284 underlying287 underlying291 underlying294 underlying302 underlying303 underlying305 underlying308 underlying319 underlying322
 info:=tyAll (p:=fun t e=>∃i,prog.info? t=some i/\i.size=e.size/\i.bytes=e.bytes/\i.zero=some e.zero) ⟨t0,type0,rfl,rfl,rfl⟩ ⟨t2,type2,rfl,rfl,rfl⟩ ⟨t3,type3,rfl,rfl,rfl⟩ ⟨t4,type4,rfl,rfl,rfl⟩ ⟨t5,type5,rfl,rfl,rfl⟩ ⟨t9,type9,rfl,rfl,rfl⟩ ⟨t20,type20,rfl,rfl,rfl⟩ ⟨t23,type23,rfl,rfl,rfl⟩ ⟨t24,type24,rfl,rfl,rfl⟩ ⟨t25,type25,rfl,rfl,rfl⟩ ⟨t27,type27,rfl,rfl,rfl⟩ ⟨t28,type28,rfl,rfl,rfl⟩ ⟨t29,type29,rfl,rfl,rfl⟩ ⟨t30,type30,rfl,rfl,rfl⟩ ⟨t31,type31,rfl,rfl,rfl⟩ ⟨t34,type34,rfl,rfl,rfl⟩ ⟨t35,type35,rfl,rfl,rfl⟩ ⟨t40,type40,rfl,rfl,rfl⟩ ⟨t42,type42,rfl,rfl,rfl⟩ ⟨t45,type45,rfl,rfl,rfl⟩ ⟨t48,type48,rfl,rfl,rfl⟩ ⟨t49,type49,rfl,rfl,rfl⟩ ⟨t51,type51,rfl,rfl,rfl⟩ ⟨t63,type63,rfl,rfl,rfl⟩ ⟨t64,type64,rfl,rfl,rfl⟩ ⟨t66,type66,rfl,rfl,rfl⟩ ⟨t68,type68,rfl,rfl,rfl⟩ ⟨t69,type69,rfl,rfl,rfl⟩ ⟨t70,type70,rfl,rfl,rfl⟩ ⟨t72,type72,rfl,rfl,rfl⟩ ⟨t73,type73,rfl,rfl,rfl⟩ ⟨t76,type76,rfl,rfl,rfl⟩ ⟨t77,type77,rfl,rfl,rfl⟩ ⟨t79,type79,rfl,rfl,rfl⟩ ⟨t82,type82,rfl,rfl,rfl⟩ ⟨t84,type84,rfl,rfl,rfl⟩ ⟨t88,type88,rfl,rfl,rfl⟩ ⟨t89,type89,rfl,rfl,rfl⟩ ⟨t90,type90,rfl,rfl,rfl⟩ ⟨t91,type91,rfl,rfl,rfl⟩ ⟨t93,type93,rfl,rfl,rfl⟩ ⟨t94,type94,rfl,rfl,rfl⟩ ⟨t95,type95,rfl,rfl,rfl⟩ ⟨t96,type96,rfl,rfl,rfl⟩ ⟨t97,type97,rfl,rfl,rfl⟩ ⟨t99,type99,rfl,rfl,rfl⟩ ⟨t102,type102,rfl,rfl,rfl⟩ ⟨t103,type103,rfl,rfl,rfl⟩ ⟨t105,type105,rfl,rfl,rfl⟩ ⟨t106,type106,rfl,rfl,rfl⟩ ⟨t108,type108,rfl,rfl,rfl⟩ ⟨t110,type110,rfl,rfl,rfl⟩ ⟨t112,type112,rfl,rfl,rfl⟩ ⟨t115,type115,rfl,rfl,rfl⟩ ⟨t116,type116,rfl,rfl,rfl⟩ ⟨t128,type128,rfl,rfl,rfl⟩ ⟨t131,type131,rfl,rfl,rfl⟩ ⟨t133,type133,rfl,rfl,rfl⟩ ⟨t136,type136,rfl,rfl,rfl⟩ ⟨t141,type141,rfl,rfl,rfl⟩ ⟨t142,type142,rfl,rfl,rfl⟩ ⟨t144,type144,rfl,rfl,rfl⟩ ⟨t147,type147,rfl,rfl,rfl⟩ ⟨t149,type149,rfl,rfl,rfl⟩ ⟨t154,type154,rfl,rfl,rfl⟩ ⟨t156,type156,rfl,rfl,rfl⟩ ⟨t158,type158,rfl,rfl,rfl⟩ ⟨t159,type159,rfl,rfl,rfl⟩ ⟨t161,type161,rfl,rfl,rfl⟩ ⟨t162,type162,rfl,rfl,rfl⟩ ⟨t165,type165,rfl,rfl,rfl⟩ ⟨t166,type166,rfl,rfl,rfl⟩ ⟨t167,type167,rfl,rfl,rfl⟩ ⟨t168,type168,rfl,rfl,rfl⟩ ⟨t170,type170,rfl,rfl,rfl⟩ ⟨t171,type171,rfl,rfl,rfl⟩ ⟨t173,type173,rfl,rfl,rfl⟩ ⟨t179,type179,rfl,rfl,rfl⟩ ⟨t184,type184,rfl,rfl,rfl⟩ ⟨t185,type185,rfl,rfl,rfl⟩ ⟨t189,type189,rfl,rfl,rfl⟩ ⟨t192,type192,rfl,rfl,rfl⟩ ⟨t195,type195,rfl,rfl,rfl⟩ ⟨t198,type198,rfl,rfl,rfl⟩ ⟨t204,type204,rfl,rfl,rfl⟩ ⟨t206,type206,rfl,rfl,rfl⟩ ⟨t210,type210,rfl,rfl,rfl⟩ ⟨t212,type212,rfl,rfl,rfl⟩ ⟨t215,type215,rfl,rfl,rfl⟩ ⟨t217,type217,rfl,rfl,rfl⟩ ⟨t218,type218,rfl,rfl,rfl⟩ ⟨t220,type220,rfl,rfl,rfl⟩ ⟨t223,type223,rfl,rfl,rfl⟩ ⟨t224,type224,rfl,rfl,rfl⟩ ⟨t231,type231,rfl,rfl,rfl⟩ ⟨t235,type235,rfl,rfl,rfl⟩ ⟨t237,type237,rfl,rfl,rfl⟩ ⟨t240,type240,rfl,rfl,rfl⟩ ⟨t244,type244,rfl,rfl,rfl⟩ ⟨t256,type256,rfl,rfl,rfl⟩ ⟨t257,type257,rfl,rfl,rfl⟩ ⟨t259,type259,rfl,rfl,rfl⟩ ⟨t262,type262,rfl,rfl,rfl⟩ ⟨t265,type265,rfl,rfl,rfl⟩ ⟨t268,type268,rfl,rfl,rfl⟩ ⟨t272,type272,rfl,rfl,rfl⟩ ⟨t273,type273,rfl,rfl,rfl⟩ ⟨t275,type275,rfl,rfl,rfl⟩ ⟨t279,type279,rfl,rfl,rfl⟩ ⟨t284,type284,rfl,rfl,rfl⟩ ⟨t287,type287,rfl,rfl,rfl⟩ ⟨t291,type291,rfl,rfl,rfl⟩ ⟨t294,type294,rfl,rfl,rfl⟩ ⟨t302,type302,rfl,rfl,rfl⟩ ⟨t303,type303,rfl,rfl,rfl⟩ ⟨t305,type305,rfl,rfl,rfl⟩ ⟨t308,type308,rfl,rfl,rfl⟩ ⟨t319,type319,rfl,rfl,rfl⟩ ⟨t322,type322,rfl,rfl,rfl⟩
 agg:=by
  apply tyAll (p:=fun t e=>ziw e.und=true->∀x,∃cs,e.sh.enc x=.agg cs/\cs.size=e.size)<;>first | (intro h;cases h;done) | exact (fun _ x=>⟨_,rfl,rfl⟩) | exact (fun _ x=>⟨_,rfl,x.size⟩)
 leaf:=by
  apply tyAll (p:=fun t e=>ziw e.und=false->e.size=1/\∀x,(zac (e.sh.enc x)).length=1/\∀cs,e.sh.enc x≠ .agg cs)<;>first | (intro h;cases h;done) | (refine fun _=>⟨rfl,fun x=>⟨rfl,fun cs h=> ?_⟩⟩;cases h;done) | exact (fun _=>⟨rfl,zmo2⟩)
 zlen:=by
  apply tyAll (p:=fun t e=>(zac e.zero).length=e.size)<;>first | exact rfl
 zero8:=by
  apply tyAll (p:=fun t e=>e.und=.int .u8->zac e.zero=[.int .u8 0])<;>first | (intro h;cases h;done) | exact (fun _=>rfl)
 zagg:=by
  apply tyAll (p:=fun t e=>ziw e.und=true->∃cs,e.zero=.agg cs)<;>first | (intro h;cases h;done) | exact (fun _=>⟨_,rfl⟩)
 call:=by
  intro g h
  by_cases hlt:g<272
  ·match g,hlt,h with
   | 0,_,h=>exact absurd (show false=true from h) (by simp)
   | 1,_,h=>exact absurd (show false=true from h) (by simp)
   | 2,_,_=>exact call2
   | 3,_,_=>exact call3
   | 4,_,_=>exact call4
   | 5,_,_=>exact call5
   | 6,_,_=>exact call6
   | 7,_,_=>exact call7
   | 8,_,_=>exact call8
   | 9,_,_=>exact call9
   | 10,_,_=>exact call10
   | 11,_,_=>exact call11
   | 12,_,_=>exact call12
   | 13,_,_=>exact call13
   | 14,_,_=>exact call14
   | 15,_,_=>exact call15
   | 16,_,_=>exact call16
   | 17,_,_=>exact call17
   | 18,_,_=>exact call18
   | 19,_,_=>exact call19
   | 20,_,_=>exact call20
   | 21,_,_=>exact call21
   | 22,_,_=>exact call22
   | 23,_,_=>exact call23
   | 24,_,_=>exact call24
   | 25,_,_=>exact call25
   | 26,_,_=>exact call26
   | 27,_,_=>exact call27
   | 28,_,_=>exact call28
   | 29,_,_=>exact call29
   | 30,_,_=>exact call30
   | 31,_,_=>exact call31
   | 32,_,_=>exact call32
   | 33,_,_=>exact call33
   | 34,_,_=>exact call34
   | 35,_,_=>exact call35
   | 36,_,_=>exact call36
   | 37,_,_=>exact call37
   | 38,_,_=>exact call38
   | 39,_,_=>exact call39
   | 40,_,_=>exact call40
   | 41,_,_=>exact call41
   | 42,_,_=>exact call42
   | 43,_,_=>exact call43
   | 44,_,_=>exact call44
   | 45,_,_=>exact call45
   | 46,_,_=>exact call46
   | 47,_,_=>exact call47
   | 48,_,_=>exact call48
   | 49,_,_=>exact call49
   | 50,_,_=>exact call50
   | 51,_,_=>exact call51
   | 52,_,_=>exact call52
   | 53,_,_=>exact call53
   | 54,_,_=>exact call54
   | 55,_,_=>exact call55
   | 56,_,_=>exact call56
   | 57,_,_=>exact call57
   | 58,_,_=>exact call58
   | 59,_,_=>exact call59
   | 60,_,_=>exact call60
   | 61,_,_=>exact call61
   | 62,_,_=>exact call62
   | 63,_,_=>exact call63
   | 64,_,_=>exact call64
   | 65,_,_=>exact call65
   | 66,_,_=>exact call66
   | 67,_,_=>exact call67
   | 68,_,_=>exact call68
   | 69,_,_=>exact call69
   | 70,_,_=>exact call70
   | 71,_,_=>exact call71
   | 72,_,_=>exact call72
   | 73,_,_=>exact call73
   | 74,_,_=>exact call74
   | 75,_,_=>exact call75
   | 76,_,_=>exact call76
   | 77,_,_=>exact call77
   | 78,_,_=>exact call78
   | 79,_,_=>exact call79
   | 80,_,_=>exact call80
   | 81,_,_=>exact call81
   | 82,_,_=>exact call82
   | 83,_,_=>exact call83
   | 84,_,_=>exact call84
   | 85,_,_=>exact call85
   | 86,_,_=>exact call86
   | 87,_,_=>exact call87
   | 88,_,_=>exact call88
   | 89,_,_=>exact call89
   | 90,_,_=>exact call90
   | 91,_,_=>exact call91
   | 92,_,_=>exact call92
   | 93,_,_=>exact call93
   | 94,_,_=>exact call94
   | 95,_,_=>exact call95
   | 96,_,_=>exact call96
   | 97,_,_=>exact call97
   | 98,_,_=>exact call98
   | 99,_,_=>exact call99
   | 100,_,_=>exact call100
   | 101,_,_=>exact call101
   | 102,_,_=>exact call102
   | 103,_,_=>exact call103
   | 104,_,_=>exact call104
   | 105,_,_=>exact call105
   | 106,_,_=>exact call106
   | 107,_,_=>exact call107
   | 108,_,_=>exact call108
   | 109,_,_=>exact call109
   | 110,_,_=>exact call110
   | 111,_,_=>exact call111
   | 112,_,_=>exact call112
   | 113,_,_=>exact call113
   | 114,_,_=>exact call114
   | 115,_,_=>exact call115
   | 116,_,_=>exact call116
   | 117,_,_=>exact call117
   | 118,_,_=>exact call118
   | 119,_,_=>exact call119
   | 120,_,_=>exact call120
   | 121,_,_=>exact call121
   | 122,_,_=>exact call122
   | 123,_,_=>exact call123
   | 124,_,_=>exact call124
   | 125,_,_=>exact call125
   | 126,_,_=>exact call126
   | 127,_,_=>exact call127
   | 128,_,_=>exact call128
   | 129,_,_=>exact call129
   | 130,_,_=>exact call130
   | 131,_,_=>exact call131
   | 132,_,_=>exact call132
   | 133,_,_=>exact call133
   | 134,_,_=>exact call134
   | 135,_,_=>exact call135
   | 136,_,_=>exact call136
   | 137,_,_=>exact call137
   | 138,_,_=>exact call138
   | 139,_,_=>exact call139
   | 140,_,_=>exact call140
   | 141,_,_=>exact call141
   | 142,_,_=>exact call142
   | 143,_,_=>exact call143
   | 144,_,_=>exact call144
   | 145,_,_=>exact call145
   | 146,_,_=>exact call146
   | 147,_,_=>exact call147
   | 148,_,_=>exact call148
   | 149,_,_=>exact call149
   | 150,_,_=>exact call150
   | 151,_,_=>exact call151
   | 152,_,_=>exact call152
   | 153,_,_=>exact call153
   | 154,_,_=>exact call154
   | 155,_,_=>exact call155
   | 156,_,_=>exact call156
   | 157,_,_=>exact call157
   | 158,_,_=>exact call158
   | 159,_,_=>exact call159
   | 160,_,_=>exact call160
   | 161,_,_=>exact call161
   | 162,_,_=>exact call162
   | 163,_,_=>exact call163
   | 164,_,_=>exact call164
   | 165,_,_=>exact call165
   | 166,_,_=>exact call166
   | 167,_,_=>exact call167
   | 168,_,_=>exact call168
   | 169,_,_=>exact call169
   | 170,_,_=>exact call170
   | 171,_,_=>exact call171
   | 172,_,_=>exact call172
   | 173,_,_=>exact call173
   | 174,_,_=>exact call174
   | 175,_,_=>exact call175
   | 176,_,_=>exact call176
   | 177,_,_=>exact call177
   | 178,_,_=>exact call178
   | 179,_,_=>exact call179
   | 180,_,h=>exact absurd (show false=true from h) (by simp)
   | 181,_,_=>exact call181
   | 182,_,_=>exact call182
   | 183,_,_=>exact call183
   | 184,_,_=>exact call184
   | 185,_,_=>exact call185
   | 186,_,_=>exact call186
   | 187,_,_=>exact call187
   | 188,_,_=>exact call188
   | 189,_,_=>exact call189
   | 190,_,_=>exact call190
   | 191,_,_=>exact call191
   | 192,_,_=>exact call192
   | 193,_,_=>exact call193
   | 194,_,_=>exact call194
   | 195,_,_=>exact call195
   | 196,_,_=>exact call196
   | 197,_,_=>exact call197
   | 198,_,_=>exact call198
   | 199,_,_=>exact call199
   | 200,_,_=>exact call200
   | 201,_,_=>exact call201
   | 202,_,_=>exact call202
   | 203,_,_=>exact call203
   | 204,_,_=>exact call204
   | 205,_,_=>exact call205
   | 206,_,_=>exact call206
   | 207,_,_=>exact call207
   | 208,_,_=>exact call208
   | 209,_,_=>exact call209
   | 210,_,_=>exact call210
   | 211,_,_=>exact call211
   | 212,_,_=>exact call212
   | 213,_,_=>exact call213
   | 214,_,h=>exact absurd (show false=true from h) (by simp)
   | 215,_,h=>exact absurd (show false=true from h) (by simp)
   | 216,_,_=>exact call216
   | 217,_,_=>exact call217
   | 218,_,_=>exact call218
   | 219,_,_=>exact call219
   | 220,_,_=>exact call220
   | 221,_,_=>exact call221
   | 222,_,_=>exact call222
   | 223,_,_=>exact call223
   | 224,_,_=>exact call224
   | 225,_,_=>exact call225
   | 226,_,_=>exact call226
   | 227,_,_=>exact call227
   | 228,_,_=>exact call228
   | 229,_,_=>exact call229
   | 230,_,_=>exact call230
   | 231,_,_=>exact call231
   | 232,_,_=>exact call232
   | 233,_,_=>exact call233
   | 234,_,_=>exact call234
   | 235,_,_=>exact call235
   | 236,_,_=>exact call236
   | 237,_,_=>exact call237
   | 238,_,_=>exact call238
   | 239,_,_=>exact call239
   | 240,_,_=>exact call240
   | 241,_,_=>exact call241
   | 242,_,_=>exact call242
   | 243,_,_=>exact call243
   | 244,_,_=>exact call244
   | 245,_,_=>exact call245
   | 246,_,_=>exact call246
   | 247,_,_=>exact call247
   | 248,_,_=>exact call248
   | 249,_,_=>exact call249
   | 250,_,_=>exact call250
   | 251,_,_=>exact call251
   | 252,_,_=>exact call252
   | 253,_,_=>exact call253
   | 254,_,h=>exact absurd (show false=true from h) (by simp)
   | 255,_,_=>exact call255
   | 256,_,_=>exact call256
   | 257,_,h=>exact absurd (show false=true from h) (by simp)
   | 258,_,_=>exact call258
   | 259,_,h=>exact absurd (show false=true from h) (by simp)
   | 260,_,h=>exact absurd (show false=true from h) (by simp)
   | 261,_,h=>exact absurd (show false=true from h) (by simp)
   | 262,_,h=>exact absurd (show false=true from h) (by simp)
   | 263,_,h=>exact absurd (show false=true from h) (by simp)
   | 264,_,h=>exact absurd (show false=true from h) (by simp)
   | 265,_,h=>exact absurd (show false=true from h) (by simp)
   | 266,_,h=>exact absurd (show false=true from h) (by simp)
   | 267,_,h=>exact absurd (show false=true from h) (by simp)
   | 268,_,h=>exact absurd (show false=true from h) (by simp)
   | 269,_,h=>exact absurd (show false=true from h) (by simp)
   | 270,_,h=>exact absurd (show false=true from h) (by simp)
   | 271,_,h=>exact absurd (show false=true from h) (by simp)
   | n+272,hlt,_=>omega
  ·have hl:fnRows.length=17:=rfl
   have:nth fnRows (g / 16)=none:=zzy1 (l:=fnRows) (i:=g / 16) (by rw [hl];omega)
   have h:fnAt g=true:=h
   unfold fnAt at h
   rw [this] at h
   cases h
 ext:=by
  intro g f h args w
  have h:extAt g=some f:=h
  unfold extAt at h
  cases e180:Nat.beq g 180 with
  | true=>
   have hg:g=180:=Nat.eq_of_beq_eq_true e180
   subst hg
   exact run_callFunc_extern func180 (by kernel_rfl) (by kernel_rfl) (by kernel_rfl) (show _=_ from (show _=some _ by kernel_rfl:_=some _).trans h) args w
  | false=>
  simp only [e180,cond_false] at h
  cases e214:Nat.beq g 214 with
  | true=>
   have hg:g=214:=Nat.eq_of_beq_eq_true e214
   subst hg
   exact run_callFunc_extern func214 (by kernel_rfl) (by kernel_rfl) (by kernel_rfl) (show _=_ from (show _=some _ by kernel_rfl:_=some _).trans h) args w
  | false=>
  simp only [e214,cond_false] at h
  cases e215:Nat.beq g 215 with
  | true=>
   have hg:g=215:=Nat.eq_of_beq_eq_true e215
   subst hg
   exact run_callFunc_extern func215 (by kernel_rfl) (by kernel_rfl) (by kernel_rfl) (show _=_ from (show _=some _ by kernel_rfl:_=some _).trans h) args w
  | false=>
  simp only [e215,cond_false] at h
  cases h
 mixed:=by kernel_rfl
theorem firebreaklaw15_MachineStands_call {c script at_ Q h} (hv:zdd prog c script at_ Q h):CallT prog zno [(sh_api_Config).enc c,(shSl).enc script,yH.enc at_] (zad) Q h:=
 zaa (C:=⟨prog,tb,znr⟩) (A:=zns) tb_ok func5 rfl (Eq.mpr (by kernel_rfl) hv)
theorem zrz {Q h} (hv:zdy prog  Q h):CallT prog zmf [] (zad) Q h:=
 zaa (C:=⟨prog,tb,zwp⟩) (A:=zwq) tb_ok func7 rfl (Eq.mpr (by kernel_rfl) hv)
theorem zvr {c Q h} (hv:zou prog c Q h):Call2 prog zja [(sh_api_Config).enc c] (shPtr) yH Q h:=
 show CallT prog zja [(sh_api_Config).enc c] (shRes tb [29,30]) (fun r=>Q r.1 r.2) h from zaa (C:=⟨prog,tb,zad1⟩) (A:=zae1) tb_ok func8 rfl (Eq.mpr (by kernel_rfl) hv)
theorem zwk {c Q h} (hv:zum prog c Q h):Call2 prog zpb [(sh_api_Config).enc c] (shPtr) yH Q h:=
 show CallT prog zpb [(sh_api_Config).enc c] (shRes tb [34,30]) (fun r=>Q r.1 r.2) h from zaa (C:=⟨prog,tb,zpy1⟩) (A:=zpz1) tb_ok func10 rfl (Eq.mpr (by kernel_rfl) hv)
theorem zbl {m Q h} (hv:zck prog m Q h):CallT prog zau [(shPtr).enc m] (zba) Q h:=
 zaa (C:=⟨prog,tb,zux⟩) (A:=zuy) tb_ok func18 rfl (Eq.mpr (by kernel_rfl) hv)
theorem zwl {c s Q h} (hv:zpd prog c s Q h):CallT prog zlf [(sh_api_Config).enc c,(zba).enc s] yH Q h:=
 zaa (C:=⟨prog,tb,zqa1⟩) (A:=zqb1) tb_ok func19 rfl (Eq.mpr (by kernel_rfl) hv)
theorem zih1 {c s Q h} (hv:zun prog c s Q h):Call2 prog zug [(sh_api_Config).enc c,(zba).enc s] (shPtr) yH Q h:=
 show CallT prog zug [(sh_api_Config).enc c,(zba).enc s] (shRes tb [34,30]) (fun r=>Q r.1 r.2) h from zaa (C:=⟨prog,tb,zqc1⟩) (A:=zqd1) tb_ok func20 rfl (Eq.mpr (by kernel_rfl) hv)
theorem zsa {n Q h} (hv:zgv prog n Q h):CallT prog zmg [yH.enc n] yH Q h:=
 zaa (C:=⟨prog,tb,zwr⟩) (A:=zws) tb_ok func21 rfl (Eq.mpr (by kernel_rfl) hv)
theorem zeu {m Q h} (hv:zcq prog m Q h):CallT prog zbn [(shPtr).enc m] yH Q h:=
 zaa (C:=⟨prog,tb,zwt⟩) (A:=zwu) tb_ok func22 rfl (Eq.mpr (by kernel_rfl) hv)
theorem zdu {m p v Q h} (hv:zca prog m p v Q h):CallT prog zbj [(shPtr).enc m,yH.enc p,yH.enc v] yH Q h:=
 zaa (C:=⟨prog,tb,ztb⟩) (A:=ztc) tb_ok func23 rfl (Eq.mpr (by kernel_rfl) hv)
theorem zjs {m p Q h} (hv:zcr prog m p Q h):CallT prog zcn [(shPtr).enc m,yH.enc p] yH Q h:=
 zaa (C:=⟨prog,tb,zwv⟩) (A:=zww) tb_ok func24 rfl (Eq.mpr (by kernel_rfl) hv)
theorem zth {a b Q h} (hv:zhz prog a b Q h):CallT prog zhv [(zba).enc a,(zba).enc b] (zad) Q h:=
 zaa (C:=⟨prog,tb,zyl⟩) (A:=zym) tb_ok func25 rfl (Eq.mpr (by kernel_rfl) hv)
theorem zqj {Q h} (hv:zff prog  Q h):CallT prog zko [] (sh_api_Config) Q h:=
 zaa (C:=⟨prog,tb,ztd⟩) (A:=zte) tb_ok func28 rfl (Eq.mpr (by kernel_rfl) hv)
theorem zvs {c Q h} (hv:zje prog c Q h):Call2 prog zjb [(sh_api_Config).enc c] yH yH Q h:=
 show CallT prog zjb [(sh_api_Config).enc c] (shRes tb [30,3]) (fun r=>Q r.1 r.2) h from zaa (C:=⟨prog,tb,zaf1⟩) (A:=zag1) tb_ok func29 rfl (Eq.mpr (by kernel_rfl) hv)
theorem zek1 {c Q h} (hv:zfm1 prog c Q h):Call2 prog zzu [(sh_api_Config).enc c] yH yH Q h:=
 show CallT prog zzu [(sh_api_Config).enc c] (shRes tb [30,3]) (fun r=>Q r.1 r.2) h from zaa (C:=⟨prog,tb,zce2⟩) (A:=zcf2) tb_ok func30 rfl (Eq.mpr (by kernel_rfl) hv)
theorem zti {c s Q h} (hv:zrl prog c s Q h):CallT prog zrj [(sh_api_Config).enc c,(zba).enc s] (shPtr) Q h:=
 zaa (C:=⟨prog,tb,zmw1⟩) (A:=zmx1) tb_ok func31 rfl (Eq.mpr (by kernel_rfl) hv)
theorem zel1 {c Q h} (hv:zpx prog c Q h):CallT prog zxy [(sh_api_Config).enc c] (zba) Q h:=
 zaa (C:=⟨prog,tb,zkj1⟩) (A:=zkk1) tb_ok func32 rfl (Eq.mpr (by kernel_rfl) hv)
theorem zdd1 {c Q h} (hv:zod prog c Q h):CallT prog zwh [(sh_api_Config).enc c] (sh_api_Config) Q h:=
 zaa (C:=⟨prog,tb,zhr1⟩) (A:=zhs1) tb_ok func39 rfl (Eq.mpr (by kernel_rfl) hv)
theorem zxp {l Q h} (hv:zkd prog l Q h):Call2 prog zfm [(shPtr).enc l] (shSl) (shSl) Q h:=
 show CallT prog zfm [(shPtr).enc l] (shRes tb [24,64]) (fun r=>Q r.1 r.2) h from zaa (C:=⟨prog,tb,zcj1⟩) (A:=zck1) tb_ok func40 rfl (Eq.mpr (by kernel_rfl) hv)
theorem zdm {s Q h} (hv:zce prog s Q h):CallT prog zat [(shSl).enc s] (shSl) Q h:=
 zaa (C:=⟨prog,tb,zkt⟩) (A:=zku) tb_ok func41 rfl (Eq.mpr (by kernel_rfl) hv)
theorem zar1 {p Q h} (hv:zmt prog p Q h):Call2 prog zip [(shPtr).enc p] (shSl) yH Q h:=
 show CallT prog zip [(shPtr).enc p] (shRes tb [70,3]) (fun r=>Q r.1 r.2) h from zaa (C:=⟨prog,tb,zfw1⟩) (A:=zfx1) tb_ok func42 rfl (Eq.mpr (by kernel_rfl) hv)
theorem zow {w id_ Q h} (hv:zis prog w id_ Q h):Call2 prog zdr [(shPtr).enc w,yH.enc id_] yH (zad) Q h:=
 show CallT prog zdr [(shPtr).enc w,yH.enc id_] (shRes tb [2,4]) (fun r=>Q r.1 r.2) h from zaa (C:=⟨prog,tb,zfy1⟩) (A:=zfz1) tb_ok func43 rfl (Eq.mpr (by kernel_rfl) hv)
theorem zej {p Q h} (hv:zlm prog p Q h):CallT prog zbs [yH.enc p] yH Q h:=
 zaa (C:=⟨prog,tb,zkl1⟩) (A:=zkm1) tb_ok func44 rfl (Eq.mpr (by kernel_rfl) hv)
theorem zek {p Q h} (hv:zln prog p Q h):CallT prog zcj [yH.enc p] yH Q h:=
 zaa (C:=⟨prog,tb,zkn1⟩) (A:=zko1) tb_ok func45 rfl (Eq.mpr (by kernel_rfl) hv)
theorem zbh1 {l Q h} (hv:zpy prog l Q h):Call3 prog zuh [(shSl).enc l] (shPtr) yH yH Q h:=
 show CallT prog zuh [(shSl).enc l] (shRes tb [88,30,3]) (fun r=>Q r.1 r.2.1 r.2.2) h from zaa (C:=⟨prog,tb,zwk1⟩) (A:=zwl1) tb_ok func46 rfl (Eq.mpr (by kernel_rfl) hv)
theorem zvt {a i Q h} (hv:zjf prog a i Q h):CallT prog zor [(sh_machine_asked).enc a,yH.enc i] (zad) Q h:=
 zaa (C:=⟨prog,tb,zah1⟩) (A:=zai1) tb_ok func47 rfl (Eq.mpr (by kernel_rfl) hv)
theorem zvu {a p Q h} (hv:zjg prog a p Q h):CallT prog zos [(sh_machine_asked).enc a,yH.enc p] (zad) Q h:=
 zaa (C:=⟨prog,tb,zaj1⟩) (A:=zak1) tb_ok func48 rfl (Eq.mpr (by kernel_rfl) hv)
theorem ztj {a Q h} (hv:zia prog a Q h):CallT prog znp [(sh_machine_asked).enc a] (zad) Q h:=
 zaa (C:=⟨prog,tb,zyn⟩) (A:=zyo) tb_ok func49 rfl (Eq.mpr (by kernel_rfl) hv)
theorem zxq {s t Q h} (hv:zke prog s t Q h):CallT prog zpt [(shPtr).enc s,yH.enc t] yH Q h:=
 zaa (C:=⟨prog,tb,zcl1⟩) (A:=zcm1) tb_ok func50 rfl (Eq.mpr (by kernel_rfl) hv)
theorem ztk {m x Q h} (hv:zib prog m x Q h):Call0 prog zhw [(shPtr).enc m,(shPtr).enc x] (Q) h:=
 show CallT prog zhw [(shPtr).enc m,(shPtr).enc x] (shRes tb []) (fun _=>Q) h from zaa (C:=⟨prog,tb,zyp⟩) (A:=zyq) tb_ok func51 rfl (Eq.mpr (by kernel_rfl) hv)
theorem zsb {m p Q h} (hv:zgw prog m p Q h):Call0 prog zgs [(shPtr).enc m,(shPtr).enc p] (Q) h:=
 show CallT prog zgs [(shPtr).enc m,(shPtr).enc p] (shRes tb []) (fun _=>Q) h from zaa (C:=⟨prog,tb,zwx⟩) (A:=zwy) tb_ok func52 rfl (Eq.mpr (by kernel_rfl) hv)
theorem ziy {m p Q h} (hv:zfv prog m p Q h):CallT prog zfn [(shPtr).enc m,yH.enc p] yH Q h:=
 zaa (C:=⟨prog,tb,zuz⟩) (A:=zva) tb_ok func53 rfl (Eq.mpr (by kernel_rfl) hv)
theorem zlt {p lane v Q h} (hv:zlo prog p lane v Q h):CallT prog zlg [(shPtr).enc p,yH.enc lane,yH.enc v] yH Q h:=
 zaa (C:=⟨prog,tb,zkp1⟩) (A:=zkq1) tb_ok func54 rfl (Eq.mpr (by kernel_rfl) hv)
theorem zqk {p lane Q h} (hv:zjx prog p lane Q h):Call0 prog zgi [(shPtr).enc p,yH.enc lane] (Q) h:=
 show CallT prog zgi [(shPtr).enc p,yH.enc lane] (shRes tb []) (fun _=>Q) h from zaa (C:=⟨prog,tb,zht1⟩) (A:=zhu1) tb_ok func55 rfl (Eq.mpr (by kernel_rfl) hv)
theorem zev {m q Q h} (hv:zgx prog m q Q h):Call0 prog zco [(shPtr).enc m,(shPtr).enc q] (Q) h:=
 show CallT prog zco [(shPtr).enc m,(shPtr).enc q] (shRes tb []) (fun _=>Q) h from zaa (C:=⟨prog,tb,zwz⟩) (A:=zxa) tb_ok func56 rfl (Eq.mpr (by kernel_rfl) hv)
theorem zjt {m p state Q h} (hv:zgy prog m p state Q h):Call0 prog zdv [(shPtr).enc m,(shPtr).enc p,yH.enc state] (Q) h:=
 show CallT prog zdv [(shPtr).enc m,(shPtr).enc p,yH.enc state] (shRes tb []) (fun _=>Q) h from zaa (C:=⟨prog,tb,zxb⟩) (A:=zxc) tb_ok func57 rfl (Eq.mpr (by kernel_rfl) hv)
theorem zpj {a b Q h} (hv:zep prog a b Q h):CallT prog zjo [(sh_api_Part).enc a,(sh_api_Part).enc b] (zad) Q h:=
 zaa (C:=⟨prog,tb,zrp⟩) (A:=zrq) tb_ok func58 rfl (Eq.mpr (by kernel_rfl) hv)
theorem zne {a b Q h} (hv:zdo prog a b Q h):CallT prog zhh [(sh_api_Process).enc a,(sh_api_Process).enc b] (zad) Q h:=
 zaa (C:=⟨prog,tb,zpf⟩) (A:=zpg) tb_ok func59 rfl (Eq.mpr (by kernel_rfl) hv)
theorem zvv {l Q h} (hv:zov prog l Q h):Call2 prog zjc [(shSl).enc l] yH yH Q h:=
 show CallT prog zjc [(shSl).enc l] (shRes tb [30,3]) (fun r=>Q r.1 r.2) h from zaa (C:=⟨prog,tb,zal1⟩) (A:=zam1) tb_ok func64 rfl (Eq.mpr (by kernel_rfl) hv)
theorem zqu {l parts Q h} (hv:zfw prog l parts Q h):CallT prog zlh [(shSl).enc l,yH.enc parts] yH Q h:=
 zaa (C:=⟨prog,tb,zvb⟩) (A:=zvc) tb_ok func65 rfl (Eq.mpr (by kernel_rfl) hv)
theorem zbb {n least most Q h} (hv:zfx prog n least most Q h):CallT prog zbc [yH.enc n,yH.enc least,yH.enc most] (zad) Q h:=
 zaa (C:=⟨prog,tb,zvd⟩) (A:=zve) tb_ok func66 rfl (Eq.mpr (by kernel_rfl) hv)
theorem zvw {l locks Q h} (hv:zjh prog l locks Q h):Call2 prog zjd [(shSl).enc l,yH.enc locks] yH yH Q h:=
 show CallT prog zjd [(shSl).enc l,yH.enc locks] (shRes tb [30,3]) (fun r=>Q r.1 r.2) h from zaa (C:=⟨prog,tb,zan1⟩) (A:=zao1) tb_ok func67 rfl (Eq.mpr (by kernel_rfl) hv)
theorem zsc {l Q h} (hv:zpz prog l Q h):Call2 prog zui [(shSl).enc l] yH yH Q h:=
 show CallT prog zui [(shSl).enc l] (shRes tb [30,3]) (fun r=>Q r.1 r.2) h from zaa (C:=⟨prog,tb,zwm1⟩) (A:=zwn1) tb_ok func68 rfl (Eq.mpr (by kernel_rfl) hv)
theorem zbi1 {n most Q h} (hv:zcd1 prog n most Q h):CallT prog zby1 [yH.enc n,yH.enc most] yH Q h:=
 zaa (C:=⟨prog,tb,zwo1⟩) (A:=zwp1) tb_ok func69 rfl (Eq.mpr (by kernel_rfl) hv)
theorem zbj1 {table parts Q h} (hv:zqa prog table parts Q h):Call3 prog zuj [(shSl).enc table,yH.enc parts] (shPtr) yH yH Q h:=
 show CallT prog zuj [(shSl).enc table,yH.enc parts] (shRes tb [89,30,3]) (fun r=>Q r.1 r.2.1 r.2.2) h from zaa (C:=⟨prog,tb,zwq1⟩) (A:=zwr1) tb_ok func70 rfl (Eq.mpr (by kernel_rfl) hv)
theorem zii1 {part n Q h} (hv:zuo prog part n Q h):CallT prog zdx1 [yH.enc part,yH.enc n] yH Q h:=
 zaa (C:=⟨prog,tb,zqe1⟩) (A:=zqf1) tb_ok func71 rfl (Eq.mpr (by kernel_rfl) hv)
theorem zgl {n from_ to Q h} (hv:zup prog n from_ to Q h):CallT prog ziq [yH.enc n,yH.enc from_,yH.enc to] (zad) Q h:=
 zaa (C:=⟨prog,tb,zqg1⟩) (A:=zqh1) tb_ok func72 rfl (Eq.mpr (by kernel_rfl) hv)
theorem zqw1 {l locks Q h} (hv:zfn1 prog l locks Q h):Call2 prog zfi1 [(shSl).enc l,yH.enc locks] yH yH Q h:=
 show CallT prog zfi1 [(shSl).enc l,yH.enc locks] (shRes tb [30,3]) (fun r=>Q r.1 r.2) h from zaa (C:=⟨prog,tb,zcg2⟩) (A:=zch2) tb_ok func73 rfl (Eq.mpr (by kernel_rfl) hv)
theorem zne1 {owners queues Q h} (hv:zce1 prog owners queues Q h):Call2 prog zuk [(shSl).enc owners,(shSl).enc queues] (shPtr) yH Q h:=
 show CallT prog zuk [(shSl).enc owners,(shSl).enc queues] (shRes tb [96,30]) (fun r=>Q r.1 r.2) h from zaa (C:=⟨prog,tb,zws1⟩) (A:=zwt1) tb_ok func74 rfl (Eq.mpr (by kernel_rfl) hv)
theorem znf1 {Q h} (hv:zuq prog  Q h):CallT prog zbz1 [] (shPtr) Q h:=
 zaa (C:=⟨prog,tb,zwu1⟩) (A:=zwv1) tb_ok func75 rfl (Eq.mpr (by kernel_rfl) hv)
theorem zqx1 {room l cursor Q h} (hv:zfo1 prog room l cursor Q h):Call2 prog zzv [yH.enc room,(shSl).enc l,yH.enc cursor] (shPtr) yH Q h:=
 show CallT prog zzv [yH.enc room,(shSl).enc l,yH.enc cursor] (shRes tb [106,30]) (fun r=>Q r.1 r.2) h from zaa (C:=⟨prog,tb,zci2⟩) (A:=zcj2) tb_ok func76 rfl (Eq.mpr (by kernel_rfl) hv)
theorem zjl {w id_ due Q h} (hv:zit prog w id_ due Q h):CallT prog zbf [(shPtr).enc w,yH.enc id_,yH.enc due] yH Q h:=
 zaa (C:=⟨prog,tb,zga1⟩) (A:=zgb1) tb_ok func77 rfl (Eq.mpr (by kernel_rfl) hv)
theorem zqv {x count Q h} (hv:zfy prog x count Q h):CallT prog zag [(shSl).enc x,yH.enc count] (shSl) Q h:=
 zaa (C:=⟨prog,tb,zvf⟩) (A:=zvg) tb_ok func78 rfl (Eq.mpr (by kernel_rfl) hv)
theorem zfh {s Q h} (hv:zcc prog s Q h):CallT prog zdn [(shSl).enc s] (shSl) Q h:=
 zaa (C:=⟨prog,tb,zph⟩) (A:=zpi) tb_ok func86 rfl (Eq.mpr (by kernel_rfl) hv)
theorem zcz {s Q h} (hv:zbo prog s Q h):CallT prog zdw [(shSl).enc s] (shSl) Q h:=
 zaa (C:=⟨prog,tb,zxd⟩) (A:=zxe) tb_ok func87 rfl (Eq.mpr (by kernel_rfl) hv)
theorem zkl {s Q h} (hv:zez prog s Q h):CallT prog zex [(shSl).enc s] (shSl) Q h:=
 zaa (C:=⟨prog,tb,zly⟩) (A:=zlz) tb_ok func88 rfl (Eq.mpr (by kernel_rfl) hv)
theorem zlu {s Q h} (hv:zfk prog s Q h):CallT prog zfj [(shSl).enc s] (shSl) Q h:=
 zaa (C:=⟨prog,tb,znt⟩) (A:=znu) tb_ok func89 rfl (Eq.mpr (by kernel_rfl) hv)
theorem zox {l Q h} (hv:zmu prog l Q h):CallT prog zmo [(shPtr).enc l] (sh_api_Lane) Q h:=
 zaa (C:=⟨prog,tb,zgc1⟩) (A:=zgd1) tb_ok func90 rfl (Eq.mpr (by kernel_rfl) hv)
theorem zvx {a i Q h} (hv:zji prog a i Q h):CallT prog zot [(sh_machine_asked).enc a,yH.enc i] yH Q h:=
 zaa (C:=⟨prog,tb,zap1⟩) (A:=zaq1) tb_ok func91 rfl (Eq.mpr (by kernel_rfl) hv)
theorem zel {a p i Q h} (hv:zlp prog a p i Q h):CallT prog zeg [(sh_machine_asked).enc a,yH.enc p,yH.enc i] (zad) Q h:=
 zaa (C:=⟨prog,tb,zec1⟩) (A:=zed1) tb_ok func92 rfl (Eq.mpr (by kernel_rfl) hv)
theorem zhj {n Q h} (hv:zqb prog n Q h):CallT prog zhx [yH.enc n] (zad) Q h:=
 zaa (C:=⟨prog,tb,zkr1⟩) (A:=zks1) tb_ok func93 rfl (Eq.mpr (by kernel_rfl) hv)
theorem zma {s f Q h} (hv:zgk prog s f Q h):CallT prog zgj [(shSl).enc s,(shFn).enc f] (zad) Q h:=
 zaa (C:=⟨prog,tb,zok⟩) (A:=zol) tb_ok func94 rfl (Eq.mpr (by kernel_rfl) hv)
theorem zsd {p a1 a2 Q h} (hv:zgz prog p a1 a2 Q h):CallT prog zdx [yH.enc p,.pointer (some a1),.pointer (some a2)] (zad) Q h:=
 zaa (C:=⟨prog,tb,zxf⟩) (A:=zxg) tb_ok func95 rfl (Eq.mpr (by kernel_rfl) hv)
theorem zdj {state Q h} (hv:zic prog state Q h):CallT prog zdt [yH.enc state] (zad) Q h:=
 zaa (C:=⟨prog,tb,zkt1⟩) (A:=zku1) tb_ok func96 rfl (Eq.mpr (by kernel_rfl) hv)
theorem zmi {t i j Q h} (hv:zkf prog t i j Q h):CallT prog zkb [(shPtr).enc t,yH.enc i,yH.enc j] (zad) Q h:=
 zaa (C:=⟨prog,tb,zcn1⟩) (A:=zco1) tb_ok func97 rfl (Eq.mpr (by kernel_rfl) hv)
theorem zem {a p Q h} (hv:zlq prog a p Q h):CallT prog zeh [(sh_machine_asked).enc a,yH.enc p] yH Q h:=
 zaa (C:=⟨prog,tb,zee1⟩) (A:=zef1) tb_ok func98 rfl (Eq.mpr (by kernel_rfl) hv)
theorem zhe {a p Q h} (hv:zkg prog a p Q h):CallT prog zfo [(sh_machine_asked).enc a,yH.enc p] (sh_api_Ins) Q h:=
 zaa (C:=⟨prog,tb,zcp1⟩) (A:=zcq1) tb_ok func99 rfl (Eq.mpr (by kernel_rfl) hv)
theorem ztl {a w r Q h} (hv:zid prog a w r Q h):CallT prog znq [(sh_machine_asked).enc a,(sh_api_Waiter).enc w,yH.enc r] (zad) Q h:=
 zaa (C:=⟨prog,tb,zyr⟩) (A:=zys) tb_ok func100 rfl (Eq.mpr (by kernel_rfl) hv)
theorem zas1 {w now Q h} (hv:ziu prog w now Q h):CallT prog zsu [(shPtr).enc w,yH.enc now] (shSl) Q h:=
 zaa (C:=⟨prog,tb,zge1⟩) (A:=zgf1) tb_ok func101 rfl (Eq.mpr (by kernel_rfl) hv)
theorem zew {m p c Q h} (hv:zha prog m p c Q h):Call0 prog zcp [(shPtr).enc m,(shPtr).enc p,(zae).enc c] (Q) h:=
 show CallT prog zcp [(shPtr).enc m,(shPtr).enc p,(zae).enc c] (shRes tb []) (fun _=>Q) h from zaa (C:=⟨prog,tb,zxh⟩) (A:=zxi) tb_ok func102 rfl (Eq.mpr (by kernel_rfl) hv)
theorem zgf {c Q h} (hv:zfp1 prog c Q h):CallT prog zgr [(zae).enc c] (zae) Q h:=
 zaa (C:=⟨prog,tb,zck2⟩) (A:=zcl2) tb_ok func103 rfl (Eq.mpr (by kernel_rfl) hv)
theorem zqy1 {c l tick self Q h} (hv:zfq1 prog c l tick self Q h):Call2 prog zfj1 [(zae).enc c,(shSl).enc l,yH.enc tick,yH.enc self] (zae) (zka) Q h:=
 show CallT prog zfj1 [(zae).enc c,(shSl).enc l,yH.enc tick,yH.enc self] (shRes tb [105,184]) (fun r=>Q r.1 r.2) h from zaa (C:=⟨prog,tb,zcm2⟩) (A:=zcn2) tb_ok func104 rfl (Eq.mpr (by kernel_rfl) hv)
theorem zqw {m p to v Q h} (hv:zfz prog m p to v Q h):Call0 prog zfp [(shPtr).enc m,(shPtr).enc p,yH.enc to,yH.enc v] (Q) h:=
 show CallT prog zfp [(shPtr).enc m,(shPtr).enc p,yH.enc to,yH.enc v] (shRes tb []) (fun _=>Q) h from zaa (C:=⟨prog,tb,zvh⟩) (A:=zvi) tb_ok func105 rfl (Eq.mpr (by kernel_rfl) hv)
theorem ziz {m p try_ Q h} (hv:zga prog m p try_ Q h):Call0 prog zfq [(shPtr).enc m,(shPtr).enc p,(zad).enc try_] (Q) h:=
 show CallT prog zfq [(shPtr).enc m,(shPtr).enc p,(zad).enc try_] (shRes tb []) (fun _=>Q) h from zaa (C:=⟨prog,tb,zvj⟩) (A:=zvk) tb_ok func106 rfl (Eq.mpr (by kernel_rfl) hv)
theorem zcs {w id_ Q h} (hv:zgb prog w id_ Q h):CallT prog zby [(shPtr).enc w,yH.enc id_] (zad) Q h:=
 zaa (C:=⟨prog,tb,zcr1⟩) (A:=zcs1) tb_ok func107 rfl (Eq.mpr (by kernel_rfl) hv)
theorem zyv {l n p Q h} (hv:zlr prog l n p Q h):Call2 prog zhi [(shPtr).enc l,yH.enc n,yH.enc p] (zad) yH Q h:=
 show CallT prog zhi [(shPtr).enc l,yH.enc n,yH.enc p] (shRes tb [4,30]) (fun r=>Q r.1 r.2) h from zaa (C:=⟨prog,tb,zeg1⟩) (A:=zeh1) tb_ok func108 rfl (Eq.mpr (by kernel_rfl) hv)
theorem zhk {s v Q h} (hv:zeq prog s v Q h):CallT prog zcx [(shSl).enc s,yH.enc v] (zad) Q h:=
 zaa (C:=⟨prog,tb,zrr⟩) (A:=zrs) tb_ok func109 rfl (Eq.mpr (by kernel_rfl) hv)
theorem zmj {l p Q h} (hv:zkh prog l p Q h):CallT prog zfr [(shPtr).enc l,yH.enc p] (shSl) Q h:=
 zaa (C:=⟨prog,tb,zct1⟩) (A:=zcu1) tb_ok func110 rfl (Eq.mpr (by kernel_rfl) hv)
theorem znv {l n p Q h} (hv:zls prog l n p Q h):Call2 prog zei [(shPtr).enc l,yH.enc n,yH.enc p] yH yH Q h:=
 show CallT prog zei [(shPtr).enc l,yH.enc n,yH.enc p] (shRes tb [3,30]) (fun r=>Q r.1 r.2) h from zaa (C:=⟨prog,tb,zei1⟩) (A:=zej1) tb_ok func111 rfl (Eq.mpr (by kernel_rfl) hv)
theorem zee {m who Q h} (hv:zgc prog m who Q h):Call0 prog zbd [(shPtr).enc m,yH.enc who] (Q) h:=
 show CallT prog zbd [(shPtr).enc m,yH.enc who] (shRes tb []) (fun _=>Q) h from zaa (C:=⟨prog,tb,zvl⟩) (A:=zvm) tb_ok func112 rfl (Eq.mpr (by kernel_rfl) hv)
theorem ztm {n Q h} (hv:zrm prog n Q h):CallT prog znj [yH.enc n] yH Q h:=
 zaa (C:=⟨prog,tb,zmy1⟩) (A:=zmz1) tb_ok func113 rfl (Eq.mpr (by kernel_rfl) hv)
theorem zjm {p n Q h} (hv:zmv prog p n Q h):CallT prog zir [(shPtr).enc p,yH.enc n] (zad) Q h:=
 zaa (C:=⟨prog,tb,zgg1⟩) (A:=zgh1) tb_ok func114 rfl (Eq.mpr (by kernel_rfl) hv)
theorem zem1 {l v Q h} (hv:zqc prog l v Q h):CallT prog zxz [(shPtr).enc l,yH.enc v] yH Q h:=
 zaa (C:=⟨prog,tb,zkv1⟩) (A:=zkw1) tb_ok func115 rfl (Eq.mpr (by kernel_rfl) hv)
theorem zde1 {l Q h} (hv:zoe prog l Q h):Call0 prog zny [(shPtr).enc l] (Q) h:=
 show CallT prog zny [(shPtr).enc l] (shRes tb []) (fun _=>Q) h from zaa (C:=⟨prog,tb,zhv1⟩) (A:=zhw1) tb_ok func116 rfl (Eq.mpr (by kernel_rfl) hv)
theorem zat1 {p proc Q h} (hv:zmw prog p proc Q h):CallT prog zmp [(shPtr).enc p,yH.enc proc] (zad) Q h:=
 zaa (C:=⟨prog,tb,zgi1⟩) (A:=zgj1) tb_ok func117 rfl (Eq.mpr (by kernel_rfl) hv)
theorem zau1 {l p Q h} (hv:zmx prog l p Q h):CallT prog zsv [(shPtr).enc l,yH.enc p] (shSl) Q h:=
 zaa (C:=⟨prog,tb,zgk1⟩) (A:=zgl1) tb_ok func118 rfl (Eq.mpr (by kernel_rfl) hv)
theorem zen1 {p Q h} (hv:zqd prog p Q h):CallT prog zya [(shPtr).enc p] (shSl) Q h:=
 zaa (C:=⟨prog,tb,zkx1⟩) (A:=zky1) tb_ok func119 rfl (Eq.mpr (by kernel_rfl) hv)
theorem zaq {m p reply Q h} (hv:zer prog m p reply Q h):Call0 prog zak [(shPtr).enc m,(shPtr).enc p,yH.enc reply] (Q) h:=
 show CallT prog zak [(shPtr).enc m,(shPtr).enc p,yH.enc reply] (shRes tb []) (fun _=>Q) h from zaa (C:=⟨prog,tb,zrt⟩) (A:=zru) tb_ok func120 rfl (Eq.mpr (by kernel_rfl) hv)
theorem zkp {a b Q h} (hv:zie prog a b Q h):CallT prog zhy [(shSl).enc a,(shSl).enc b] (zad) Q h:=
 zaa (C:=⟨prog,tb,zyt⟩) (A:=zyu) tb_ok func121 rfl (Eq.mpr (by kernel_rfl) hv)
theorem zpk {a b Q h} (hv:zes prog a b Q h):CallT prog zjp [(sh_api_Lane).enc a,(sh_api_Lane).enc b] (zad) Q h:=
 zaa (C:=⟨prog,tb,zrv⟩) (A:=zrw) tb_ok func122 rfl (Eq.mpr (by kernel_rfl) hv)
theorem zse {x n locks Q h} (hv:zhb prog x n locks Q h):CallT prog zmh [(sh_api_Ins).enc x,yH.enc n,yH.enc locks] yH Q h:=
 zaa (C:=⟨prog,tb,zxj⟩) (A:=zxk) tb_ok func129 rfl (Eq.mpr (by kernel_rfl) hv)
theorem zdk {s f Q h} (hv:zec prog s f Q h):CallT prog zea [(shSl).enc s,(shFn).enc f] yH Q h:=
 zaa (C:=⟨prog,tb,zqq⟩) (A:=zqr) tb_ok func130 rfl (Eq.mpr (by kernel_rfl) hv)
theorem zwm {p a1 Q h} (hv:zur prog p a1 Q h):CallT prog zli [yH.enc p,.pointer (some a1)] (zad) Q h:=
 zaa (C:=⟨prog,tb,zqi1⟩) (A:=zqj1) tb_ok func131 rfl (Eq.mpr (by kernel_rfl) hv)
theorem zyw {x n locks Q h} (hv:zyf prog x n locks Q h):CallT prog zyb [(sh_api_Ins).enc x,yH.enc n,yH.enc locks] yH Q h:=
 zaa (C:=⟨prog,tb,ztd1⟩) (A:=zte1) tb_ok func132 rfl (Eq.mpr (by kernel_rfl) hv)
theorem zmk {l p Q h} (hv:zki prog l p Q h):Call2 prog zfs [(shPtr).enc l,yH.enc p] yH (zad) Q h:=
 show CallT prog zfs [(shPtr).enc l,yH.enc p] (shRes tb [3,4]) (fun r=>Q r.1 r.2) h from zaa (C:=⟨prog,tb,zcv1⟩) (A:=zcw1) tb_ok func133 rfl (Eq.mpr (by kernel_rfl) hv)
theorem zqz1 {room s Q h} (hv:zfr1 prog room s Q h):Call2 prog zfk1 [yH.enc room,(sh_api_Lane).enc s] (shPtr) yH Q h:=
 show CallT prog zfk1 [yH.enc room,(sh_api_Lane).enc s] (shRes tb [162,30]) (fun r=>Q r.1 r.2) h from zaa (C:=⟨prog,tb,zco2⟩) (A:=zcp2) tb_ok func134 rfl (Eq.mpr (by kernel_rfl) hv)
theorem zcf {x target cmp Q h} (hv:zam prog x target cmp Q h):Call2 prog zah [(shSl).enc x,(sh_wheel_entry).enc target,(shFn).enc cmp] yH (zad) Q h:=
 show CallT prog zah [(shSl).enc x,(sh_wheel_entry).enc target,(shFn).enc cmp] (shRes tb [3,4]) (fun r=>Q r.1 r.2) h from zaa (C:=⟨prog,tb,zcl⟩) (A:=zcm) tb_ok func135 rfl (Eq.mpr (by kernel_rfl) hv)
theorem zwn {a b Q h} (hv:zus prog a b Q h):CallT prog zlj [(sh_wheel_entry).enc a,(sh_wheel_entry).enc b] yH Q h:=
 zaa (C:=⟨prog,tb,zqk1⟩) (A:=zql1) tb_ok func136 rfl (Eq.mpr (by kernel_rfl) hv)
theorem zgm {s i v Q h} (hv:zde prog s i v Q h):CallT prog zbk [(shSl).enc s,yH.enc i,(shSl).enc v] (shSl) Q h:=
 zaa (C:=⟨prog,tb,zif⟩) (A:=zig) tb_ok func137 rfl (Eq.mpr (by kernel_rfl) hv)
theorem zeo1 {x y Q h} (hv:zyg prog x y Q h):Call2 prog zpu [(shInt .u64).enc x,(shInt .u64).enc y] (shInt .u64) (shInt .u64) Q h:=
 show CallT prog zpu [(shInt .u64).enc x,(shInt .u64).enc y] (shRes tb [217,217]) (fun r=>Q r.1 r.2) h from zaa (C:=⟨prog,tb,zkz1⟩) (A:=zla1) tb_ok func138 rfl (Eq.mpr (by kernel_rfl) hv)
theorem zgn {s Q h} (hv:zed prog s Q h):CallT prog zeb [(shSl).enc s] (shSl) Q h:=
 zaa (C:=⟨prog,tb,zqs⟩) (A:=zqt) tb_ok func150 rfl (Eq.mpr (by kernel_rfl) hv)
theorem zdg {s Q h} (hv:zbv prog s Q h):CallT prog zbt [(shSl).enc s] (shSl) Q h:=
 zaa (C:=⟨prog,tb,zjq⟩) (A:=zjr) tb_ok func151 rfl (Eq.mpr (by kernel_rfl) hv)
theorem zql {t i Q h} (hv:zof prog t i Q h):CallT prog znz [(shPtr).enc t,yH.enc i] (zad) Q h:=
 zaa (C:=⟨prog,tb,zhx1⟩) (A:=zhy1) tb_ok func152 rfl (Eq.mpr (by kernel_rfl) hv)
theorem zij1 {a b Q h} (hv:zut prog a b Q h):CallT prog zdy1 [(shInt .u64).enc a,(shInt .u64).enc b] (zad) Q h:=
 zaa (C:=⟨prog,tb,zqm1⟩) (A:=zqn1) tb_ok func153 rfl (Eq.mpr (by kernel_rfl) hv)
theorem zdf1 {c l Q h} (hv:zpv1 prog c l Q h):Call2 prog zdz1 [(zae).enc c,(shSl).enc l] (sh_api_Ins) (zad) Q h:=
 show CallT prog zdz1 [(zae).enc c,(shSl).enc l] (shRes tb [84,4]) (fun r=>Q r.1 r.2) h from zaa (C:=⟨prog,tb,zjo2⟩) (A:=zjp2) tb_ok func154 rfl (Eq.mpr (by kernel_rfl) hv)
theorem zng1 {x r Q h} (hv:zcf1 prog x r Q h):Call3 prog zca1 [(sh_api_Ins).enc x,(zeo).enc r] (zka) (zad) (zad) Q h:=
 show CallT prog zca1 [(sh_api_Ins).enc x,(zeo).enc r] (shRes tb [184,4,4]) (fun r=>Q r.1 r.2.1 r.2.2) h from zaa (C:=⟨prog,tb,zww1⟩) (A:=zwx1) tb_ok func155 rfl (Eq.mpr (by kernel_rfl) hv)
theorem zcb {c reg v Q h} (hv:zrn prog c reg v Q h):Call0 prog zbu [(shPtr).enc c,yH.enc reg,yH.enc v] (Q) h:=
 show CallT prog zbu [(shPtr).enc c,yH.enc reg,yH.enc v] (shRes tb []) (fun _=>Q) h from zaa (C:=⟨prog,tb,zna1⟩) (A:=znb1) tb_ok func156 rfl (Eq.mpr (by kernel_rfl) hv)
theorem zxg1 {op b c Q h} (hv:zpw1 prog op b c Q h):Call2 prog zpt1 [yH.enc op,yH.enc b,yH.enc c] yH yH Q h:=
 show CallT prog zpt1 [yH.enc op,yH.enc b,yH.enc c] (shRes tb [2,30]) (fun r=>Q r.1 r.2) h from zaa (C:=⟨prog,tb,zjq2⟩) (A:=zjr2) tb_ok func157 rfl (Eq.mpr (by kernel_rfl) hv)
theorem zxh1 {op b c Q h} (hv:zpx1 prog op b c Q h):Call2 prog zpu1 [yH.enc op,yH.enc b,yH.enc c] yH yH Q h:=
 show CallT prog zpu1 [yH.enc op,yH.enc b,yH.enc c] (shRes tb [2,30]) (fun r=>Q r.1 r.2) h from zaa (C:=⟨prog,tb,zjs2⟩) (A:=zjt2) tb_ok func158 rfl (Eq.mpr (by kernel_rfl) hv)
theorem zqm {m p q v Q h} (hv:zfg prog m p q v Q h):Call0 prog zfe [(shPtr).enc m,(shPtr).enc p,(shPtr).enc q,yH.enc v] (Q) h:=
 show CallT prog zfe [(shPtr).enc m,(shPtr).enc p,(shPtr).enc q,yH.enc v] (shRes tb []) (fun _=>Q) h from zaa (C:=⟨prog,tb,ztf⟩) (A:=ztg) tb_ok func159 rfl (Eq.mpr (by kernel_rfl) hv)
theorem zvy {c code v from_ Q h} (hv:zfs1 prog c code v from_ Q h):CallT prog zzw [(zae).enc c,(shSl).enc code,yH.enc v,yH.enc from_] (zae) Q h:=
 zaa (C:=⟨prog,tb,zcq2⟩) (A:=zcr2) tb_ok func161 rfl (Eq.mpr (by kernel_rfl) hv)
theorem zgo {s i j Q h} (hv:zdf prog s i j Q h):CallT prog zdc [(shSl).enc s,yH.enc i,yH.enc j] (shSl) Q h:=
 zaa (C:=⟨prog,tb,zih⟩) (A:=zii) tb_ok func162 rfl (Eq.mpr (by kernel_rfl) hv)
theorem zml {l n p Q h} (hv:zkj prog l n p Q h):CallT prog zkc [(shPtr).enc l,yH.enc n,yH.enc p] yH Q h:=
 zaa (C:=⟨prog,tb,zcx1⟩) (A:=zcy1) tb_ok func163 rfl (Eq.mpr (by kernel_rfl) hv)
theorem zju {s v Q h} (hv:zhc prog s v Q h):CallT prog zgt [(shSl).enc s,yH.enc v] yH Q h:=
 zaa (C:=⟨prog,tb,zxl⟩) (A:=zxm) tb_ok func164 rfl (Eq.mpr (by kernel_rfl) hv)
theorem zqn {l Q h} (hv:zog prog l Q h):CallT prog zob [(shPtr).enc l] (zad) Q h:=
 zaa (C:=⟨prog,tb,zhz1⟩) (A:=zia1) tb_ok func165 rfl (Eq.mpr (by kernel_rfl) hv)
theorem zbk1 {n Q h} (hv:zcg1 prog n Q h):CallT prog zcb1 [yH.enc n] yH Q h:=
 zaa (C:=⟨prog,tb,zwy1⟩) (A:=zwz1) tb_ok func166 rfl (Eq.mpr (by kernel_rfl) hv)
theorem zav1 {l p Q h} (hv:zmy prog l p Q h):CallT prog zsw [(shPtr).enc l,yH.enc p] (zad) Q h:=
 zaa (C:=⟨prog,tb,zgm1⟩) (A:=zgn1) tb_ok func167 rfl (Eq.mpr (by kernel_rfl) hv)
theorem zqx {s i j Q h} (hv:zgd prog s i j Q h):CallT prog zlk [(shSl).enc s,yH.enc i,yH.enc j] (shSl) Q h:=
 zaa (C:=⟨prog,tb,zvn⟩) (A:=zvo) tb_ok func168 rfl (Eq.mpr (by kernel_rfl) hv)
theorem zep1 {l Q h} (hv:zqe prog l Q h):CallT prog zyc [(shPtr).enc l] (shSl) Q h:=
 zaa (C:=⟨prog,tb,zlb1⟩) (A:=zlc1) tb_ok func169 rfl (Eq.mpr (by kernel_rfl) hv)
theorem zra1 {c code reply Q h} (hv:zft1 prog c code reply Q h):CallT prog zoi1 [(zae).enc c,(shSl).enc code,yH.enc reply] (zae) Q h:=
 zaa (C:=⟨prog,tb,zcs2⟩) (A:=zct2) tb_ok func170 rfl (Eq.mpr (by kernel_rfl) hv)
theorem zsf {x n locks Q h} (hv:zhd prog x n locks Q h):Call2 prog zgu [(sh_api_Ins).enc x,yH.enc n,yH.enc locks] yH yH Q h:=
 show CallT prog zgu [(sh_api_Ins).enc x,yH.enc n,yH.enc locks] (shRes tb [30,3]) (fun r=>Q r.1 r.2) h from zaa (C:=⟨prog,tb,zxn⟩) (A:=zxo) tb_ok func172 rfl (Eq.mpr (by kernel_rfl) hv)
theorem zll1 {x n locks Q h} (hv:zyh prog x n locks Q h):Call2 prog zyd [(sh_api_Ins).enc x,yH.enc n,yH.enc locks] yH yH Q h:=
 show CallT prog zyd [(sh_api_Ins).enc x,yH.enc n,yH.enc locks] (shRes tb [30,3]) (fun r=>Q r.1 r.2) h from zaa (C:=⟨prog,tb,ztf1⟩) (A:=ztg1) tb_ok func173 rfl (Eq.mpr (by kernel_rfl) hv)
theorem zrb1 {room Q h} (hv:zfu1 prog room Q h):Call2 prog zfl1 [yH.enc room] (shPtr) yH Q h:=
 show CallT prog zfl1 [yH.enc room] (shRes tb [162,30]) (fun r=>Q r.1 r.2) h from zaa (C:=⟨prog,tb,zcu2⟩) (A:=zcv2) tb_ok func174 rfl (Eq.mpr (by kernel_rfl) hv)
theorem zom {n from_ to Q h} (hv:zpe prog n from_ to Q h):CallT prog zpc [yH.enc n,yH.enc from_,yH.enc to] (zad) Q h:=
 zaa (C:=⟨prog,tb,zqo1⟩) (A:=zqp1) tb_ok func175 rfl (Eq.mpr (by kernel_rfl) hv)
theorem zlm1 {l Q h} (hv:zyi prog l Q h):CallT prog zhj1 [(shSl).enc l] (zad) Q h:=
 zaa (C:=⟨prog,tb,zth1⟩) (A:=zti1) tb_ok func176 rfl (Eq.mpr (by kernel_rfl) hv)
theorem zln1 {vals Q h} (hv:zyj prog vals Q h):CallT prog zhk1 [(shSl).enc vals] yH Q h:=
 zaa (C:=⟨prog,tb,ztj1⟩) (A:=ztk1) tb_ok func177 rfl (Eq.mpr (by kernel_rfl) hv)
theorem zxr {x y Q h} (hv:zkk prog x y Q h):CallT prog zpv [yH.enc x,yH.enc y] yH Q h:=
 zaa (C:=⟨prog,tb,zcz1⟩) (A:=zda1) tb_ok func178 rfl (Eq.mpr (by kernel_rfl) hv)
theorem zaw1 {x y Q h} (hv:zmz prog x y Q h):CallT prog zsx [yH.enc x,yH.enc y] yH Q h:=
 zaa (C:=⟨prog,tb,zgo1⟩) (A:=zgp1) tb_ok func179 rfl (Eq.mpr (by kernel_rfl) hv)
theorem zax1 {x y Q h} (hv:zna prog x y Q h):Call2 prog zmq [(shInt .u64).enc x,(shInt .u64).enc y] (shInt .u64) (shInt .u64) Q h:=
 show CallT prog zmq [(shInt .u64).enc x,(shInt .u64).enc y] (shRes tb [82,82]) (fun r=>Q r.1 r.2) h from zaa (C:=⟨prog,tb,zgq1⟩) (A:=zgr1) tb_ok func183 rfl (Eq.mpr (by kernel_rfl) hv)
theorem ztn {b c Q h} (hv:zro prog b c Q h):CallT prog zrk [yH.enc b,yH.enc c] yH Q h:=
 zaa (C:=⟨prog,tb,znc1⟩) (A:=znd1) tb_ok func189 rfl (Eq.mpr (by kernel_rfl) hv)
theorem zrc1 {b c Q h} (hv:zok1 prog b c Q h):CallT prog zoj1 [yH.enc b,yH.enc c] yH Q h:=
 zaa (C:=⟨prog,tb,zcw2⟩) (A:=zcx2) tb_ok func190 rfl (Eq.mpr (by kernel_rfl) hv)
theorem znh1 {b c Q h} (hv:zkh1 prog b c Q h):CallT prog zkd1 [yH.enc b,yH.enc c] yH Q h:=
 zaa (C:=⟨prog,tb,zxa1⟩) (A:=zxb1) tb_ok func191 rfl (Eq.mpr (by kernel_rfl) hv)
theorem zhl1 {is Q h} (hv:zki1 prog is Q h):CallT prog zke1 [(zad).enc is] yH Q h:=
 zaa (C:=⟨prog,tb,zgd2⟩) (A:=zge2) tb_ok func192 rfl (Eq.mpr (by kernel_rfl) hv)
theorem zbl1 {bits Q h} (hv:zch1 prog bits Q h):CallT prog zcc1 [yH.enc bits] (shFlt .f64) Q h:=
 zaa (C:=⟨prog,tb,zxc1⟩) (A:=zxd1) tb_ok func193 rfl (Eq.mpr (by kernel_rfl) hv)
theorem zlv {f Q h} (hv:zfv1 prog f Q h):CallT prog zpm [(shFlt .f64).enc f] yH Q h:=
 zaa (C:=⟨prog,tb,zcy2⟩) (A:=zcz2) tb_ok func194 rfl (Eq.mpr (by kernel_rfl) hv)
theorem zni1 {f Q h} (hv:zci1 prog f Q h):CallT prog zkf1 [(shFlt .f64).enc f] yH Q h:=
 zaa (C:=⟨prog,tb,zxe1⟩) (A:=zxf1) tb_ok func195 rfl (Eq.mpr (by kernel_rfl) hv)
theorem zdg1 {p lane proc v Q h} (hv:zoh prog p lane proc v Q h):CallT prog zwi [(shPtr).enc p,yH.enc lane,yH.enc proc,yH.enc v] yH Q h:=
 zaa (C:=⟨prog,tb,zib1⟩) (A:=zic1) tb_ok func196 rfl (Eq.mpr (by kernel_rfl) hv)
theorem zay1 {p Q h} (hv:zta prog p Q h):CallT prog zsy [(shPtr).enc p] (shFn) Q h:=
 zaa (C:=⟨prog,tb,zgs1⟩) (A:=zgt1) tb_ok func197 rfl (Eq.mpr (by kernel_rfl) hv)
theorem zeq1 {l Q h} (hv:zqf prog l Q h):CallT prog zkg1 [(shPtr).enc l] yH Q h:=
 zaa (C:=⟨prog,tb,zld1⟩) (A:=zle1) tb_ok func198 rfl (Eq.mpr (by kernel_rfl) hv)
theorem zdh1 {l Q h} (hv:zoi prog l Q h):Call4 prog zoc [(shPtr).enc l] yH (sh_api_Waiter) (zad) yH Q h:=
 show CallT prog zoc [(shPtr).enc l] (shRes tb [2,149,4,30]) (fun r=>Q r.1 r.2.1 r.2.2.1 r.2.2.2) h from zaa (C:=⟨prog,tb,zid1⟩) (A:=zie1) tb_ok func199 rfl (Eq.mpr (by kernel_rfl) hv)
theorem zoy {l p Q h} (hv:znb prog l p Q h):CallT prog zmr [(shPtr).enc l,yH.enc p] yH Q h:=
 zaa (C:=⟨prog,tb,zgu1⟩) (A:=zgv1) tb_ok func200 rfl (Eq.mpr (by kernel_rfl) hv)
theorem zho {s i j Q h} (hv:zbm prog s i j Q h):CallT prog zdl [(shSl).enc s,yH.enc i,yH.enc j] (shSl) Q h:=
 zaa (C:=⟨prog,tb,zjj⟩) (A:=zjk) tb_ok func201 rfl (Eq.mpr (by kernel_rfl) hv)
theorem zqy {op Q h} (hv:zge prog op Q h):Call4 prog zft [yH.enc op] (zad) (zad) (zad) (zad) Q h:=
 show CallT prog zft [yH.enc op] (shRes tb [4,4,4,4]) (fun r=>Q r.1 r.2.1 r.2.2.1 r.2.2.2) h from zaa (C:=⟨prog,tb,zvp⟩) (A:=zvq) tb_ok func203 rfl (Eq.mpr (by kernel_rfl) hv)
theorem zdp {n has Q h} (hv:zet prog n has Q h):CallT prog zcy [yH.enc n,(zad).enc has] yH Q h:=
 zaa (C:=⟨prog,tb,zrx⟩) (A:=zry) tb_ok func204 rfl (Eq.mpr (by kernel_rfl) hv)
theorem zik1 {op Q h} (hv:zuu prog op Q h):Call4 prog zul [yH.enc op] (zad) (zad) (zad) (zad) Q h:=
 show CallT prog zul [yH.enc op] (shRes tb [4,4,4,4]) (fun r=>Q r.1 r.2.1 r.2.2.1 r.2.2.2) h from zaa (C:=⟨prog,tb,zqq1⟩) (A:=zqr1) tb_ok func205 rfl (Eq.mpr (by kernel_rfl) hv)
theorem zlw {has n Q h} (hv:zqg prog has n Q h):CallT prog zll [(zad).enc has,yH.enc n] yH Q h:=
 zaa (C:=⟨prog,tb,zlf1⟩) (A:=zlg1) tb_ok func206 rfl (Eq.mpr (by kernel_rfl) hv)
theorem zil1 {x has n locks Q h} (hv:zuv prog x has n locks Q h):CallT prog zea1 [(sh_api_Ins).enc x,(zad).enc has,yH.enc n,yH.enc locks] yH Q h:=
 zaa (C:=⟨prog,tb,zqs1⟩) (A:=zqt1) tb_ok func207 rfl (Eq.mpr (by kernel_rfl) hv)
theorem zoz {x Q h} (hv:znc prog x Q h):CallT prog zms [yH.enc x] (zad) Q h:=
 zaa (C:=⟨prog,tb,zgw1⟩) (A:=zgx1) tb_ok func208 rfl (Eq.mpr (by kernel_rfl) hv)
theorem zrh {x Q h} (hv:zqh prog x Q h):CallT prog zpw [yH.enc x] (zad) Q h:=
 zaa (C:=⟨prog,tb,zlh1⟩) (A:=zli1) tb_ok func209 rfl (Eq.mpr (by kernel_rfl) hv)
theorem zaz1 {p proc Q h} (hv:znd prog p proc Q h):CallT prog zsz [(shPtr).enc p,yH.enc proc] yH Q h:=
 zaa (C:=⟨prog,tb,zgy1⟩) (A:=zgz1) tb_ok func216 rfl (Eq.mpr (by kernel_rfl) hv)
theorem zdi1 {l p v Q h} (hv:zoj prog l p v Q h):CallT prog zwj [(shPtr).enc l,yH.enc p,yH.enc v] yH Q h:=
 zaa (C:=⟨prog,tb,zif1⟩) (A:=zig1) tb_ok func217 rfl (Eq.mpr (by kernel_rfl) hv)
theorem zgg {s f Q h} (hv:zbi prog s f Q h):CallT prog zcw [(shSl).enc s,(shFn).enc f] yH Q h:=
 zaa (C:=⟨prog,tb,zhm⟩) (A:=zhn) tb_ok func219 rfl (Eq.mpr (by kernel_rfl) hv)
theorem zxs {w a1 Q h} (hv:zqi prog w a1 Q h):CallT prog zfu [(sh_api_Waiter).enc w,.pointer (some a1)] (zad) Q h:=
 zaa (C:=⟨prog,tb,zdb1⟩) (A:=zdc1) tb_ok func220 rfl (Eq.mpr (by kernel_rfl) hv)
theorem zim1 {op Q h} (hv:zuw prog op Q h):CallT prog zeb1 [yH.enc op] (shStr) Q h:=
 zaa (C:=⟨prog,tb,zqu1⟩) (A:=zqv1) tb_ok func221 rfl (Eq.mpr (by kernel_rfl) hv)
theorem zer1 {field a1 Q h} (hv:zyk prog field a1 Q h):CallT prog zye [(shStr).enc field,.pointer (some a1)] (zad) Q h:=
 zaa (C:=⟨prog,tb,zlj1⟩) (A:=zlk1) tb_ok func222 rfl (Eq.mpr (by kernel_rfl) hv)
section
variable {V:Type}
def kidx (a:Int):List (Int×V)->Option (Nat×V)
  | []=>none
  | (k,v)::r=>if a=k then some (0,v) else (kidx a r).map fun p=>(p.1+1,p.2)
def kget (a:Int):List (Int×V)->Option V
  | []=>none
  | (k,v)::r=>if a=k then some v else kget a r
def kset (a:Int) (v:V):List (Int×V)->List (Int×V)
  | []=> [(a,v)]
  | (k,u)::r=>if a=k then (a,v)::r else (k,u)::kset a v r
def kdel (a:Int):List (Int×V)->List (Int×V)
  | []=> []
  | (k,u)::r=>if a=k then r else (k,u)::kdel a r
theorem zir1 (a b:Int) (v:V):∀l:List (Int×V),kget a (kset b v l)=if a=b then some v else kget a l
  | []=>by simp [kset,kget]
  | (k,u)::r=>by
    simp only [kset]
    by_cases h:b=k
    · rw [if_pos h]
      subst h
      simp only [kget]
      split<;>rfl
    · rw [if_neg h]
      simp only [kget,zir1 a b v r]
      grind
theorem ztl1 {a:Int}:∀ {l:List (Int×V)},a∉l.map (·.1)->kget a l=none
  | [],_=>rfl
  | (k,u)::r,h=>by
    simp only [List.map_cons,List.mem_cons,not_or] at h
    simp only [kget]
    rw [if_neg h.1]
    exact ztl1 h.2
theorem zzz1 (a b:Int):∀l:List (Int×V),(l.map (·.1)).Nodup->kget a (kdel b l)=if a=b then none else kget a l
  | [],_=>by simp [kdel,kget]
  | (k,u)::r,hn=>by
    simp only [List.map_cons,List.nodup_cons] at hn
    simp only [kdel]
    by_cases h:b=k
    · rw [if_pos h]
      subst h
      simp only [kget]
      by_cases h2:a=b
      · subst h2
        rw [if_pos rfl]
        exact ztl1 hn.1
      grind
    · rw [if_neg h]
      simp only [kget,zzz1 a b r hn.2]
      grind
theorem ztm1 (b:Int) (v:V):∀(l:List (Int×V)) (a:Int),a∈(kset b v l).map (·.1)↔a=b\/a∈l.map (·.1)
  | [],a=>by simp [kset]
  | (k,u)::r,a=>by
    simp only [kset]
    by_cases h:b=k
    · subst h
      simp
    · rw [if_neg h]
      simp only [List.map_cons,List.mem_cons,ztm1 b v r a]
      grind
theorem zol1 (b:Int) (v:V):∀ {l:List (Int×V)},(l.map (·.1)).Nodup->((kset b v l).map (·.1)).Nodup
  | [],_=>by simp [kset]
  | (k,u)::r,hn=>by
    simp only [List.map_cons,List.nodup_cons] at hn
    simp only [kset]
    by_cases h:b=k
    · grind
    · rw [if_neg h]
      simp only [List.map_cons,List.nodup_cons]
      refine ⟨fun e=> ?_,zol1 b v hn.2⟩
      rcases (ztm1 b v r k).1 e with e | e
      · exact h e.symm
      · exact hn.1 e
theorem zaa2 (b:Int):∀(l:List (Int×V)),(kdel b l).Sublist l
  | []=>.slnil
  | (k,u)::r=>by
    simp only [kdel]
    split
    · simp
    · exact .cons_cons _ (zaa2 b r)
theorem zda2 (b:Int) {l:List (Int×V)} (h:(l.map (·.1)).Nodup):((kdel b l).map (·.1)).Nodup:=h.sublist ((zaa2 b l).map _)
theorem ztn1 {b:Int}:∀ {l:List (Int×V)},kget b l=none->kdel b l=l
  | [],_=>rfl
  | (k,u)::r,h=>by
    simp only [kget] at h
    simp only [kdel]
    split at h
    · cases h
    · rename_i e
      rw [if_neg e,ztn1 h]
theorem zrd1 (a:Int):∀l:List (Int×V),kget a l=(kidx a l).map (·.2)
  | []=>rfl
  | (k,v)::r=>by
    simp only [kget,kidx]
    split
    · rfl
    · rw [zrd1 a r]
      simp [Function.comp_def]
def MapKv (h:Hp) (m:Nat) (k:IntKind) (ev:V->Value) (kvs:List (Int×V)):Prop:=
  ∃(mes:List MapEntry) (ck:Nat),h m=some (.map mes.toArray ck)/\mes.map (fun e=>(e.key,e.val))=kvs.map fun p=>(Value.int k p.1,ev p.2)
variable {h:Hp} {m:Nat} {k:IntKind} {ev:V->Value} {kvs:List (Int×V)}
theorem zre1 (a:Int):∀(mes:List MapEntry) (kvs:List (Int×V)) (j:Nat),mes.map (fun e=>(e.key,e.val))=kvs.map (fun p=>(Value.int k p.1,ev p.2))->
    Instr.findNow (.int k) (.int k a) mes j=some ((kidx a kvs).map fun p=>(p.1+j,ev p.2))
  | [],[],j,_=>rfl
  | [],_::_,j,h=>by simp at h
  | _::_,[],j,h=>by simp at h
  | e::mes,(b,v)::r,j,h=>by
    simp only [List.map_cons,List.cons.injEq,Prod.mk.injEq] at h
    obtain ⟨⟨h1,h2⟩,h3⟩:=h
    simp only [Instr.findNow,h1,Instr.sameNow,if_true,kidx]
    by_cases hab:a=b
    · simp [hab,h2]
    · have hf:(a==b)=false:=by simpa using hab
      rw [hf,if_neg hab]
      simp only
      rw [zre1 a mes r (j+1) h3]
      cases kidx a r with
      | none=>rfl
      | some p=>simp;omega
theorem zis1 {kd:IntKind} {sh:Shape} {kvs:List (Int×sh.T)} {a:Int} {z:sh.T} {zero:Value} {K:sh.T->Bool->Prop} (hm:MapKv h m kd sh.enc kvs) (hz:sh.enc z=zero) (h0:kget a kvs=none->K z false)
    (h1:∀v,kget a kvs=some v->K v true):LookW none (.int kd) sh zero (some m) (.int kd a) h K:=by
  obtain ⟨mes,ck,e1,e2⟩:=hm
  have hf:=zre1 (ev:=sh.enc) a mes kvs 0 e2
  have hg:=zrd1 a kvs
  cases hi:kidx a kvs with
  | none=>
    rw [hi] at hf hg
    exact ⟨z,false,⟨mes,.inr ⟨m,ck,rfl,e1⟩,.inl ⟨hf,hz,rfl⟩⟩,h0 hg⟩
  | some p=>
    rw [hi] at hf hg
    exact ⟨p.2,true,⟨mes,.inr ⟨m,ck,rfl,e1⟩,.inr ⟨_,hf,rfl⟩⟩,h1 p.2 hg⟩
theorem zto1 {a:Int} {v:V}:∀ {l:List (Int×V)},kidx a l=none->kset a v l=l++ [(a,v)]
  | [],_=>rfl
  | (k,u)::r,h=>by
    simp only [kidx] at h
    split at h
    · cases h
    · rename_i e
      simp only [kset]
      rw [if_neg e,zto1 (by simpa using h)]
      rfl
theorem zab2 {a:Int} {v u:V} {ev:V->Value}:∀ {mes:List MapEntry} {l:List (Int×V)} {i:Nat},mes.map (fun e=>(e.key,e.val))=l.map (fun p=>(Value.int k p.1,ev p.2))->kidx a l=some (i,u)->
    (mes.modify i fun e=>{e with key:=.int k a,val:=ev v}).map (fun e=>(e.key,e.val))=(kset a v l).map fun p=>(Value.int k p.1,ev p.2)
  | _,[],_,_,h=>by simp [kidx] at h
  | [],_::_,_,h,_=>by simp at h
  | e::mes,(b,w)::r,i,h,hi=>by
    simp only [List.map_cons,List.cons.injEq] at h
    simp only [kidx] at hi
    simp only [kset]
    split at hi
    · grind
    · rename_i hab
      rw [if_neg hab]
      cases hr:kidx a r with
      | none=>rw [hr] at hi;simp at hi
      | some p=>
        rw [hr] at hi
        simp at hi
        obtain ⟨rfl,rfl⟩:=hi
        simp only [List.modify_succ_cons,List.map_cons,h.1]
        rw [zab2 h.2 hr]
theorem zom1 {a:Int} {u:V} {ev:V->Value}:∀ {mes:List MapEntry} {l:List (Int×V)} {i:Nat},mes.map (fun e=>(e.key,e.val))=l.map (fun p=>(Value.int k p.1,ev p.2))->kidx a l=some (i,u)->
    (mes.eraseIdx i).map (fun e=>(e.key,e.val))=(kdel a l).map fun p=>(Value.int k p.1,ev p.2)
  | _,[],_,_,h=>by simp [kidx] at h
  | [],_::_,_,h,_=>by simp at h
  | e::mes,(b,w)::r,i,h,hi=>by
    simp only [List.map_cons,List.cons.injEq] at h
    simp only [kidx] at hi
    simp only [kdel]
    split at hi
    · grind
    · rename_i hab
      rw [if_neg hab]
      cases hr:kidx a r with
      | none=>rw [hr] at hi;simp at hi
      | some p=>
        rw [hr] at hi
        simp at hi
        obtain ⟨rfl,rfl⟩:=hi
        simp only [List.eraseIdx_cons_succ,List.map_cons,h.1]
        rw [zom1 h.2 hr]
theorem ztp1 {a:Int} {v:V} {K:Hp->Prop} (hm:MapKv h m k ev kvs) (hk:∀o,isCells o=false->MapKv (h.set m o) m k ev (kset a v kvs)->K (h.set m o)):zbo1 (.int k) (some m) (.int k a) (ev v) K h:=by
  obtain ⟨mes,ck,e1,e2⟩:=hm
  have hf:=zre1 (ev:=ev) a mes kvs 0 e2
  refine ⟨m,mes.toArray,ck,rfl,e1,?_⟩
  cases hi:kidx a kvs with
  | none=>
    rw [hi] at hf
    refine .inl ⟨hf,hk _ rfl ⟨mes++ [{key:=.int k a,val:=ev v,born:=ck}],ck+1,?_,?_⟩⟩
    · rw [zbw];simp
    · rw [zto1 hi];simp [e2]
  | some p=>
    rw [hi] at hf
    refine .inr ⟨p.1,ev p.2,hf,hk _ rfl ⟨mes.modify p.1 fun e=>{e with key:=.int k a,val:=ev v},ck,?_,zab2 (u:=p.2) e2 hi⟩⟩
    rw [zbw];simp
theorem zgf2 {a:Int} {K:Hp->Prop} (hm:MapKv h m k ev kvs) (hk:∀o,isCells o=false->MapKv (h.set m o) m k ev (kdel a kvs)->K (h.set m o)):zjf1 (.int k) (some m) (.int k a) K h:=by
  obtain ⟨mes,ck,e1,e2⟩:=hm
  have hf:=zre1 (ev:=ev) a mes kvs 0 e2
  refine .inr ⟨m,mes.toArray,ck,rfl,e1,?_⟩
  cases hi:kidx a kvs with
  | none=>
    rw [hi] at hf
    refine .inl ⟨hf,hk _ rfl ⟨mes,ck,zbw,?_⟩⟩
    rw [ztn1 (by rw [zrd1,hi];rfl)]
    exact e2
  | some p=>
    rw [hi] at hf
    refine .inr ⟨p.1,ev p.2,hf,hk _ rfl ⟨mes.eraseIdx p.1,ck,?_,zom1 (u:=p.2) e2 hi⟩⟩
    rw [zbw];simp
end
abbrev eNum :Int->List Value:=fun x=> [.int .i64 x]
abbrev eW :zdb->List Value:=fun w=> [.int .i64 w.proc,.int .i64 w.value]
def toW (w:zdb):S_api_Waiter:=⟨w.proc,w.value⟩
section
variable {h0 k:Hp} {A B C:Asn}
theorem Has.f1 (o:Has h0 (A.star (B.star C)) k):∃h1,h0<=h1/\Has h1 A k/\∀A' k',Has h1 A' k'->Has h0 (A'.star (B.star C)) k':=by
 obtain ⟨h1,a,b,_,d⟩:=o.fst
 grind
theorem Has.f2 (o:Has h0 (A.star (B.star C)) k):∃h1,h0<=h1/\Has h1 B k/\∀B' k',Has h1 B' k'->Has h0 (A.star (B'.star C)) k':=by
 obtain ⟨h1,a,b,_,d⟩:=o.snd
 obtain ⟨h2,a2,b2,_,d2⟩:=b.fst
 exact ⟨h2,Hp.le_trans a a2,b2,fun B' k' o'=>d _ _ (d2 _ _ o')⟩
theorem Has.f3 (o:Has h0 (A.star (B.star C)) k):∃h1,h0<=h1/\Has h1 C k/\∀C' k',Has h1 C' k'->Has h0 (A.star (B.star C')) k':=by
 obtain ⟨h1,a,b,_,d⟩:=o.snd
 obtain ⟨h2,a2,b2,_,d2⟩:=b.snd
 exact ⟨h2,Hp.le_trans a a2,b2,fun B' k' o'=>d _ _ (d2 _ _ o')⟩
theorem zlw2 {l:Option Addr} {sz c:Nat}:sbase l sz 0 c=l:=by
 unfold sbase
 split
 ·rfl
 ·cases l with
  | none=>rfl
  | some a=>obtain ⟨b,off,sp⟩:=a;simp [Addr.add]
theorem Has.shift {α:Type} {sz:Nat} {enc:α->List Value} {l:Sl} {a:α} {r:List α} {K:Int->Hp->Prop} (o:Has h0 (SlA sz enc l (a::r)) k) (henc:∀x,(enc x).length=sz) (hok:∀x,zax (enc x)=true)
  (hk:∀k',Has h0 (SlA sz enc ⟨l.base,r.length,l.cap⟩ r) k'->K (r.length:Nat) k'):CopyW sz l ⟨sbase l.base sz 1 l.cap,l.len-1,l.cap-1⟩ K k:=by
 have hs:=o.slen
 have hc:=o.scap
 have hrt:=(o.cutTail henc (c:=l.cap) hc (Nat.le_refl _)).srw henc
 obtain ⟨hle,F,⟨h1,h2,h3⟩,hf⟩:=o
 have hlen:l.len=r.length+1:=by simpa using hs
 rcases h3 with ⟨e,ec,_⟩ | ⟨b,off,cs,e,hF,hbk,hl,ht⟩
 ·omega
 ·have hn:h0 b=none:=hf b ((hF b).2 rfl)
  have hm:r.length*sz<=l.cap*sz:=Nat.mul_le_mul_right sz (by omega)
  have e0:l=⟨some ⟨b,off,none⟩,l.len,l.cap⟩:=by cases l;simp at e;subst e;rfl
  have hrl:(r.flatMap enc).length=r.length*sz:=zap henc r
  rw [show (CopyW sz l:Sl->_)=CopyW sz ⟨some ⟨b,off,none⟩,l.len,l.cap⟩ by rw [<-e0]]
  refine zps (n:=r.length) (new:=r.flatMap enc) hbk (by show min (l.len-1) l.len=_;omega) hrt.2 (zbw1 hok r) (by omega) fun k' m hb'=>hk k' ⟨fun c ob ec=>m.keep c ob (hle c ob ec) (fun hc=>(by rw [List.mem_singleton.1 hc,hn] at ec;cases ec)),F,⟨rfl,by show r.length<=l.cap;omega,.inr ⟨b,off,_,e,hF,hb',?_,?_⟩⟩,hf⟩
  ·simp only [List.length_append,List.length_take,List.length_drop,hrl]
   show off+l.cap*sz<=_
   omega
  grind
theorem Rw.map {α β:Type} {sz:Nat} {enc:β->List Value} {f:α->β} {l:Sl} {xs:List α} (r:Rw k sz (fun x=>enc (f x)) l xs):Rw k sz enc l (xs.map f):=by
 obtain ⟨h1,h2⟩:=r
 refine ⟨by grind,?_⟩
 rw [List.length_map,List.flatMap_map]
 exact h2
theorem zac2 {n:Int} (h:Cnt n):min2I (IntKind.wrap .i64 (n+(1:Int))) (65535:Int)=more n:=by
 rw [wrap64 (by have:=h.1;omega) (by have:=h.2;omega)]
 unfold min2I more
 omega
end
def LaneA (q:Addr) (room:Int) (l:PLane):Asn:=
 .some_ fun x:S_lane_Lane=>((RecA zhu q x).star ((SlA 1 eNum x.values l.values).star (SlA 2 eW x.waiters l.waiters))).star (.fact (x.room=room/\x.taken=l.taken/\x.dropped=l.dropped))
section
variable {h0 k:Hp} {q:Addr} {room:Int} {l:PLane}
theorem Has.laneX (o:Has h0 (LaneA q room l) k):∃x:S_lane_Lane,x.room=room/\x.taken=l.taken/\x.dropped=l.dropped/\Has h0 ((RecA zhu q x).star ((SlA 1 eNum x.values l.values).star (SlA 2 eW x.waiters l.waiters))) k:=by
 obtain ⟨x,o⟩:=Has.ex.1 o
 obtain ⟨o,e1,e2,e3⟩:=o.noFact
 grind
theorem Has.ofLane {x:S_lane_Lane} (o:Has h0 ((RecA zhu q x).star ((SlA 1 eNum x.values l.values).star (SlA 2 eW x.waiters l.waiters))) k) (e1:x.room=room) (e2:x.taken=l.taken) (e3:x.dropped=l.dropped):Has h0 (LaneA q room l) k:=
 Has.ex.2 ⟨x,o.withFact ⟨e1,e2,e3⟩⟩
theorem zos2 {Q:Int->Hp->Prop} (o:Has h0 (LaneA q room l) k) (hq:Q (l.values.length:Int) k):zqf prog (some q) Q k:=by
 obtain ⟨x,_,_,_,o⟩:=o.laneX
 unfold zqf
 refine zab (o.left.ld (shf:=shSl) x.values rfl ?_)
 rw [o.right.left.slen]
 exact hq
theorem zgg2 {Q:Bool->Hp->Prop} (o:Has h0 (LaneA q room l) k) (hq:Q (decide (room<=(l.values.length:Int))) k):zog prog (some q) Q k:=by
 obtain ⟨x,e1,_,_,o⟩:=o.laneX
 unfold zog
 refine zab (o.left.ld (shf:=shSl) x.values rfl ?_)
 refine zab (o.left.ld (shf:=shInt .i64) x.room rfl ?_)
 rw [o.right.left.slen,e1]
 exact hq
theorem zmp2 {v:Int} {Q:Int->Hp->Prop} (o:Has h0 (LaneA q room l) k) (hr:room<=64) (hf:room<=(l.values.length:Int)->Q 19 k) (hq:∀k',¬room<=(l.values.length:Int)->Has h0 (LaneA q room (inL v l)) k'->Q 0 k'):zqc prog (some q) v Q k:=by
 unfold zqc
 refine zqn (zgg2 o ?_)
 by_cases hfull:room<=(l.values.length:Int)
 ·grind
 ·rw [if_neg (fun h=>hfull (of_decide_eq_true h))]
  obtain ⟨x,e1,e2,e3,o⟩:=o.laneX
  refine zab (o.left.ld (shf:=shSl) x.values rfl ?_)
  obtain ⟨h1,_,o1,put⟩:=o.f2
  refine o1.push rfl (fun _=>rfl) (fun _=>rfl) rfl ⟨by omega,by omega⟩ fun l' k1 o2=> ?_
  have o:=put _ _ o2
  obtain ⟨h2,_,o3,put⟩:=o.f1
  refine zab (o3.st {x with values:=l'} (show (2:Nat)<=5 by decide) rfl fun k2 o4=> ?_)
  exact hq k2 hfull (Has.ofLane (x:={x with values:=l'}) (put _ _ o4) e1 e2 e3)
theorem zju2 {Q:Hp->Prop} (o:Has h0 (LaneA q room l) k) (hc:Cnt l.dropped) (hq:∀k',Has h0 (LaneA q room (missL l)) k'->Q k'):zoe prog (some q) Q k:=by
 obtain ⟨x,e1,e2,e3,o⟩:=o.laneX
 unfold zoe
 refine zab (o.left.ld (shf:=shInt .i64) x.dropped rfl ?_)
 refine zbk1 ?_
 unfold zcg1
 rw [e3,zac2 hc]
 obtain ⟨h2,_,o3,put⟩:=o.f1
 refine zab (o3.st {x with dropped:=more l.dropped} (show (5:Nat)<=5 by decide) rfl fun k2 o4=> ?_)
 exact hq k2 (Has.ofLane (x:={x with dropped:=more l.dropped}) (put _ _ o4) e1 e2 rfl)
theorem zjv2 {Q:Int->S_api_Waiter->Bool->Int->Hp->Prop} (o:Has h0 (LaneA q room l) k) (hc:Cnt l.taken) (hl:l.values.length<=64) (h1:l.values=[]->Q 0 ⟨0,0⟩ false 21 k)
  (h2:∀v vs k',l.values=v::vs->l.waiters=[]->Has h0 (LaneA q room (tookL l)) k'->Q v ⟨0,0⟩ false 0 k')
  (h3:∀v vs w ws k',l.values=v::vs->l.waiters=w::ws->Has h0 (LaneA q room (tookL l)) k'->Q v (toW w) true 0 k'):zoi prog (some q) Q k:=by
 obtain ⟨x,e1,e2,e3,o⟩:=o.laneX
 unfold zoi
 have hvl:=o.right.left.slen
 refine zab (o.left.ld (shf:=shSl) x.values rfl ?_)
 cases hv:l.values with
 | nil=>
  grind
 | cons v vs=>
  rw [hv] at o hvl hl
  have hvl:x.values.len=vs.length+1:=by simpa using hvl
  rw [if_neg (show ¬((x.values.len:Int)==0)=true by simp;omega)]
  refine zab (o.left.ld (shf:=shSl) x.values rfl ?_)
  have rv:Rs k (shInt .i64) 1 x.values (v::vs):=o.right.left.srw (fun _=>rfl)
  refine rv.get (fun _=>rfl) (by omega) (by omega) (by simp) fun (y:Int) hy=> ?_
  have hy:y=v:=by grind
  subst hy
  refine zab (o.left.ld (shf:=shSl) x.values rfl ?_)
  refine zab (o.left.ld (shf:=shSl) x.values rfl ?_)
  refine ⟨by omega,letW ?_⟩
  obtain ⟨hh,_,o1,put⟩:=o.f2
  refine o1.shift (fun _=>rfl) (fun _=>rfl) fun k1 o2=> ?_
  have o:=put _ _ o2
  have hcap:=o2.scap
  refine zab (o.left.ld (shf:=shSl) x.values rfl ?_)
  have hcap:vs.length<=x.values.cap:=hcap
  refine ⟨by omega,letW ?_⟩
  rw [zlw2,Int.toNat_natCast,Nat.sub_zero,Nat.sub_zero]
  obtain ⟨hh,_,o3,put⟩:=o.f1
  refine zab (o3.st {x with values:=⟨x.values.base,vs.length,x.values.cap⟩} (show (2:Nat)<=5 by decide) rfl fun k2 o4=> ?_)
  have o:=put _ _ o4
  refine zab (o.left.ld (shf:=shInt .i64) x.taken rfl ?_)
  refine zbk1 ?_
  unfold zcg1
  rw [e2,zac2 hc]
  obtain ⟨hh,_,o5,put⟩:=o.f1
  refine zab (o5.st {x with values:=⟨x.values.base,vs.length,x.values.cap⟩,taken:=more l.taken} (show (4:Nat)<=5 by decide) rfl fun k3 o6=> ?_)
  have o:=put _ _ o6
  refine zab (o.left.ld (shf:=shSl) x.waiters rfl ?_)
  have hwl:=o.right.right.slen
  cases hw:l.waiters with
  | nil=>
   rw [hw] at hwl
   rw [if_neg (show ¬(decide ((x.waiters.len:Int)>0))=true by simp at hwl;simp [hwl])]
   refine h2 y vs k3 hv hw (Has.ofLane (x:={x with values:=⟨x.values.base,vs.length,x.values.cap⟩,taken:=more l.taken}) ?_ e1 (by unfold tookL;rw [hw]) (by unfold tookL;rw [hw];exact e3))
   have:tookL l={l with values:=vs,taken:=more l.taken}:=by unfold tookL;rw [hw,hv];rfl
   grind
  | cons w ws=>
   rw [hw] at hwl o
   have hwl:x.waiters.len=ws.length+1:=by simpa using hwl
   rw [if_pos (decide_eq_true (show (x.waiters.len:Int)>0 by omega))]
   refine zab (o.left.ld (shf:=shSl) x.waiters rfl ?_)
   have rw_:Rs k3 sh_api_Waiter 2 x.waiters ((w::ws).map toW):=(o.right.right.srw (fun _=>rfl)).map (enc:=fun x=>zac (sh_api_Waiter.enc x))
   refine rw_.get (fun _=>rfl) (by omega) (by omega) (by simp) fun (y2:S_api_Waiter) hy2=> ?_
   have hy2:y2=toW w:=by simpa using hy2.symm
   subst hy2
   refine zab (o.left.ld (shf:=shSl) x.waiters rfl ?_)
   refine zab (o.left.ld (shf:=shSl) x.waiters rfl ?_)
   refine zab (o.left.ld (shf:=shSl) x.waiters rfl ?_)
   have hwc:=o.right.right.scap
   refine ⟨by omega,letW ?_⟩
   rw [Int.toNat_natCast]
   obtain ⟨hh,_,o7,put⟩:=o.f3
   have o8:=o7.cutTail (fun _=>rfl) (c:=x.waiters.len) (Nat.le_refl _) hwc
   have o:=put _ _ o8
   obtain ⟨hh,_,o9,put⟩:=o.f1
   refine zab (o9.st {x with values:=⟨x.values.base,vs.length,x.values.cap⟩,taken:=more l.taken,waiters:=⟨sbase x.waiters.base 2 1 x.waiters.len,x.waiters.len-1,x.waiters.len-1⟩} (show (3:Nat)<=5 by decide) rfl fun k4 o10=> ?_)
   have o:=put _ _ o10
   refine zab (o.left.ld (shf:=shSl) ⟨x.values.base,vs.length,x.values.cap⟩ rfl ?_)
   refine newSl (xs:=[w.value]) (sz:=1) (enc:=eNum) rfl (fun _=>rfl) fun a k5 hl5 n5=> ?_
   have o:=o.grow hl5
   refine ⟨⟨?_,trivial⟩,?_⟩
   ·exact (Has.left o).ldis (n:=1) rfl
   obtain ⟨hh,_,o11,put⟩:=o.f2
   refine o11.app (n5.srw (fun _=>rfl)) (fun _=>rfl) (fun _=>rfl) rfl ⟨by simp at hl ⊢;omega,by simp at hl ⊢;omega⟩ fun l' k6 o12=> ?_
   have o:=put _ _ o12
   obtain ⟨hh,_,o13,put⟩:=o.f1
   refine zab (o13.st {x with values:=l',taken:=more l.taken,waiters:=⟨sbase x.waiters.base 2 1 x.waiters.len,x.waiters.len-1,x.waiters.len-1⟩} (show (2:Nat)<=5 by decide) rfl fun k7 o14=> ?_)
   refine h3 y vs w ws k7 hv hw (Has.ofLane (x:={x with values:=l',taken:=more l.taken,waiters:=⟨sbase x.waiters.base 2 1 x.waiters.len,x.waiters.len-1,x.waiters.len-1⟩}) ?_ e1 (by unfold tookL;rw [hw]) (by unfold tookL;rw [hw];exact e3))
   have:tookL l={values:=vs++ [w.value],waiters:=ws,taken:=more l.taken,dropped:=l.dropped}:=by unfold tookL;rw [hw,hv];rfl
   grind
end
theorem cV {P:Program} {g:FuncId} {first captured:Array Value} {args:List Value} {sh:Shape} {K:sh.T->Hp->Prop} {h:Hp} (hg:tb.call g=true) (hc:CallT P g (first.toList++args++captured.toList) sh K h):CallV P tb (.func (.func g) first captured) args sh K h:=
 ⟨g,first,captured,rfl,hg,hc⟩
def posW (p:Int) (ws:List zdb):Int:=posF (fun w=>decide (w.proc=p)) ws
def posI (v:Int) (xs:List Int):Int:=posF (fun z=>decide (z=v)) xs
theorem zgh2 {k:Hp} {s:Sl} {ws:List zdb} {a:Addr} {p:Int} {Q:Int->Hp->Prop} (r:Rw k 2 eW s ws) (hl:ws.length<=1000000) (ha:LdIs k a [.int .i64 p]) (hq:Q (posW p ws) k):
  zbi prog s ⟨zfu, #[], #[.pointer (some a)]⟩ Q k:=by
 unfold zbi
 have hlen:=r.1
 have r:Rs k sh_api_Waiter 2 s (ws.map toW):=r.map (enc:=fun x=>zac (sh_api_Waiter.enc x))
 refine LoopW1.intro (fun i k'=>k'=k/\0<=i/\i<=(ws.length:Int)/\∀(j:Nat) y,j<i.toNat->ws[j]?=some y->decide (y.proc=p)=false) (fun i _=>(ws.length-i).toNat) ⟨rfl,by omega,by omega,fun j y hj=>by simp at hj⟩ ?_
 rintro i _ ⟨rfl,i0,i1,hall⟩
 by_cases h3:i<(ws.length:Int)
 ·rw [if_pos (decide_eq_true (by omega))]
  refine r.get (fun _=>rfl) (by omega) i0 (by grind) fun (x:S_api_Waiter) hx=> ?_
  rw [List.getElem?_map] at hx
  cases hw:ws[i.toNat]? with
  | none=>grind
  | some w=>
   rw [hw] at hx
   have hx:x=toW w:=by grind
   subst hx
   refine cV (g:=zfu) rfl (zxs ?_)
   unfold zqi
   refine ld_at (sh:=shInt .i64) p ha ?_
   dsimp only
   by_cases e:w.proc=p
   ·rw [if_pos (show ((toW w).Proc==p)=true by unfold toW;simp [e])]
    have:posW p ws=i:=by
     have:=zgc2 (f:=fun w=>decide (w.proc=p)) hw (by simp [e]) hall
     unfold posW
     rw [this]
     omega
    grind
   ·rw [if_neg (show ¬((toW w).Proc==p)=true by unfold toW;simp [e]),wrap64 (by omega) (by omega)]
    grind
 ·rw [if_neg (fun e=>h3 (by have:=of_decide_eq_true e;omega))]
  have:posW p ws= -1:=zdw1 fun w hw=>by
   obtain ⟨j,hj⟩:=List.getElem?_of_mem hw
   have:=(List.getElem?_eq_some_iff.1 hj).1
   exact hall j w (by omega) hj
  rw [this] at hq
  exact hq
theorem ztq1 {k:Hp} {s:Sl} {xs:List Int} {v:Int} {Q:Int->Hp->Prop} (r:Rw k 1 eNum s xs) (hl:xs.length<=1000000) (hq:Q (posI v xs) k):zhc prog s v Q k:=by
 unfold zhc
 have hlen:=r.1
 have r:Rs k (shInt .i64) 1 s xs:=r
 refine LoopW1.intro (fun i k'=>k'=k/\0<=i/\i<=(xs.length:Int)/\∀(j:Nat) y,j<i.toNat->xs[j]?=some y->decide (y=v)=false) (fun i _=>(xs.length-i).toNat) ⟨rfl,by omega,by omega,fun j y hj=>by simp at hj⟩ ?_
 rintro i _ ⟨rfl,i0,i1,hall⟩
 by_cases h3:i<(xs.length:Int)
 ·rw [if_pos (decide_eq_true (by omega))]
  refine r.get (fun _=>rfl) (by omega) i0 h3 fun (x:Int) hx=> ?_
  by_cases e:x=v
  ·rw [if_pos (show (v==x)=true by simp [e])]
   have:posI v xs=i:=by
    have:=zgc2 (f:=fun z=>decide (z=v)) hx (by simp [e]) hall
    unfold posI
    rw [this]
    omega
   grind
  ·rw [if_neg (show ¬(v==x)=true by simp;exact fun h=>e h.symm),wrap64 (by omega) (by omega)]
   grind
 ·rw [if_neg (fun e=>h3 (by have:=of_decide_eq_true e;omega))]
  have:posI v xs= -1:=zdw1 fun w hw=>by
   obtain ⟨j,hj⟩:=List.getElem?_of_mem hw
   have:=(List.getElem?_eq_some_iff.1 hj).1
   exact hall j w (by omega) hj
  rw [this] at hq
  exact hq
theorem zjw2 {α:Type} {f:α->Bool} {xs:List α}:0<=posF f xs↔∃x∈xs,f x=true:=by
 constructor
 ·intro h
  refine Classical.byContradiction fun hn=> ?_
  rw [zdw1 fun x hx=>by
   grind] at h
  omega
 ·rintro ⟨x,hx,hf⟩
  unfold posF
  grind
theorem zhm1 {k:Hp} {s:Sl} {xs:List Int} {v:Int} {Q:Bool->Hp->Prop} (r:Rw k 1 eNum s xs) (hl:xs.length<=1000000) (hq:Q (decide (v∈xs)) k):zeq prog s v Q k:=by
 unfold zeq
 refine zju (ztq1 r hl ?_)
 have:decide (posI v xs>=0)=decide (v∈xs):=by
  have:(posI v xs>=0)↔v∈xs:=(zjw2 (f:=fun z=>decide (z=v))).trans ⟨fun ⟨x,hx,e⟩=>(of_decide_eq_true e)▸hx,fun h=>⟨v,h,(by simp)⟩⟩
  simp only [this]
 grind
section
variable {h0 k:Hp} {q:Addr} {room:Int} {l:PLane}
theorem zad2 {p:Int} {Q:Int->Hp->Prop} (o:Has h0 (LaneA q room l) k) (hl:l.waiters.length<=1000000) (hq:∀k',Has h0 (LaneA q room l) k'->Q (posW p l.waiters) k'):znb prog (some q) p Q k:=by
 unfold znb
 refine newSl (xs:=[p]) (sz:=1) (enc:=eNum) rfl (fun _=>rfl) fun a k1 hl1 n=> ?_
 have o:=o.grow hl1
 obtain ⟨x,_,_,_,o2⟩:=o.laneX
 refine zab (o2.left.ld (shf:=shSl) x.waiters rfl ?_)
 refine zgg (f:=⟨zfu, #[], #[.pointer (some a)]⟩) (zgh2 (p:=p) (o2.right.right.srw (fun _=>rfl)) hl ?_ (hq k1 o))
 obtain ⟨_,h⟩:=n.srw (fun _=>rfl)
 rcases h.2 with e | ⟨a',ha,hld⟩
 ·simp at e
 grind
theorem zjx2 {p v:Int} {Q:Int->Hp->Prop} (o:Has h0 (LaneA q room l) k) (hl:l.waiters.length<=100) (hf:room<=(l.values.length:Int)) (hn:∀w∈l.waiters,w.proc≠p) (hq:∀k',Has h0 (LaneA q room (waitL p v l)) k'->Q 0 k'):zoj prog (some q) p v Q k:=by
 unfold zoj
 refine zqn (zgg2 o ?_)
 rw [if_neg (by simp;exact hf)]
 refine zoy (zad2 o (by omega) fun k1 o=> ?_)
 have:posW p l.waiters= -1:=zdw1 fun w hw=>by simp [hn w hw]
 rw [this,if_neg (by decide)]
 obtain ⟨x,e1,e2,e3,o⟩:=o.laneX
 refine zab (o.left.ld (shf:=shSl) x.waiters rfl ?_)
 obtain ⟨h1,_,o1,put⟩:=o.f3
 refine o1.push (e:=⟨p,v⟩) rfl (fun _=>rfl) (fun _=>rfl) rfl ⟨by omega,by omega⟩ fun l' k2 o2=> ?_
 have o:=put _ _ o2
 obtain ⟨h2,_,o3,put⟩:=o.f1
 refine zab (o3.st {x with waiters:=l'} (show (3:Nat)<=5 by decide) rfl fun k3 o4=> ?_)
 exact hq k3 (Has.ofLane (x:={x with waiters:=l'}) (put _ _ o4) e1 e2 e3)
def zhn1 (p:Int) (l:PLane):PLane:={l with waiters:=zaf (fun w=>decide (w.proc=p)) l.waiters}
theorem zgi2 {p:Int} {Q:Bool->Hp->Prop} (o:Has h0 (LaneA q room l) k) (hl:l.waiters.length<=100) (hq:∀b k',Has h0 (LaneA q room (zhn1 p l)) k'->Q b k'):zmy prog (some q) p Q k:=by
 unfold zmy
 refine zoy (zad2 o (by omega) fun k1 o=> ?_)
 have hd:=zxx (fun w:zdb=>decide (w.proc=p)) l.waiters
 by_cases hp:posW p l.waiters<0
 ·rw [if_pos (decide_eq_true hp)]
  refine hq false k1 ?_
  have:zhn1 p l=l:=by
   unfold zhn1
   rw [hd,if_neg (show ¬0<=posF (fun w:zdb=>decide (w.proc=p)) l.waiters by unfold posW at hp;omega)]
  rw [this];exact o
 ·rw [if_neg (fun h=>hp (of_decide_eq_true h))]
  have h0p:0<=posW p l.waiters:=by omega
  have hlt:posW p l.waiters<l.waiters.length:=zgb2 h0p
  obtain ⟨x,e1,e2,e3,o⟩:=o.laneX
  refine zab (o.left.ld (shf:=shSl) x.waiters rfl ?_)
  obtain ⟨h1,_,o1,put⟩:=o.f3
  have hz:prog.underlying 142=some (.slice 149):=tb_ok.und 142 ty142 rfl
  obtain ⟨n,hn⟩:∃n:Nat,posW p l.waiters=n:=⟨(posW p l.waiters).toNat,by omega⟩
  have hdel:∀(Q':Sl->Hp->Prop),(∀l' k',Has h1 (SlA 2 eW l' (l.waiters.take n++l.waiters.drop (n+1))) k'->Q' l' k')->zbm prog x.waiters (n:Int) ((n+1:Nat):Int) Q' k1:=fun Q' hQ'=>by
   unfold zbm
   exact Has.sdel (bytes:=16) (z:=.agg #[.int .i64 0,.int .i64 0]) hz (fun hK=>zjz1 tb_ok (e:=ty149) rfl hK) (fun _=>rfl) (fun _=>rfl) rfl (fun m=>by induction m with
    | zero=>rfl
    | succ m ih=>exact ih) o1 (by omega) (by omega) ⟨by omega,by omega⟩ hQ'
  rw [hn,wrap64 (by omega) (by omega)]
  refine zho (hdel _ fun l' k2 o2=> ?_)
  have o:=put _ _ o2
  obtain ⟨h2,_,o3,put⟩:=o.f1
  refine zab (o3.st {x with waiters:=l'} (show (3:Nat)<=5 by decide) rfl fun k3 o4=> ?_)
  refine hq true k3 (Has.ofLane (x:={x with waiters:=l'}) ?_ e1 e2 e3)
  have:(zhn1 p l).waiters=l.waiters.take n++l.waiters.drop (n+1):=by
   show zaf (fun w=>decide (w.proc=p)) l.waiters=_
   have hn':posF (fun w:zdb=>decide (w.proc=p)) l.waiters=n:=hn
   grind
  rw [this]
  exact put _ _ o4
def endL (l:PLane):PLane:={l with waiters:=[]}
theorem zmq2 {Q:Sl->Hp->Prop} (o:Has h0 (LaneA q room l) k) (hq:∀s k',Has h0 ((LaneA q room (endL l)).star (SlA 2 eW s l.waiters)) k'->Q s k'):zqe prog (some q) Q k:=by
 unfold zqe
 obtain ⟨x,e1,e2,e3,o⟩:=o.laneX
 refine zab (o.left.ld (shf:=shSl) x.waiters rfl ?_)
 refine zab (o.left.ld (shf:=shSl) x.waiters rfl ?_)
 refine zab (o.left.ld (shf:=shSl) x.waiters rfl ?_)
 have hs:=o.right.right.slen
 have hc:=o.right.right.scap
 refine ⟨by omega,letW ?_⟩
 rw [Int.toNat_natCast]
 obtain ⟨h1,_,o1,put⟩:=o.f3
 have o2:=o1.cutHead (fun _=>rfl) (n:=x.waiters.len) (c:=x.waiters.len) (by omega) (Nat.le_refl _) hc
 rw [List.take_of_length_le (by omega)] at o2
 have o:=put _ _ o2
 obtain ⟨h2,_,o3,put⟩:=o.f1
 refine zab (o3.st {x with waiters:=⟨none,0,0⟩} (show (3:Nat)<=5 by decide) rfl fun k3 o4=> ?_)
 have o:=put _ _ o4
 refine hq _ k3 ?_
 have oo:=o.assoc'
 obtain ⟨h3,_,o5,_,put⟩:=oo.fst
 have nil:Has k3 (SlA 2 eW (⟨none,0,0⟩:Sl) ([]:List zdb)) k3:=Has.nilSl (Hp.le_refl _)
 have o6:=(o5.beside nil).assoc
 exact put _ _ (Has.ofLane (l:=endL l) (x:={x with waiters:=⟨none,0,0⟩}) o6 e1 e2 e3)
end
end Lf
namespace Go.Proofs
open Go.Shelf
def Tryz.lays144_ren :Go.Shelf.Ren:=⟨fun | 144=>223 | 143=>237 | 219=>248 | 217=>253 | 225=>254 | 224=>255 | 267=>256 | 266=>257 | 314=>258 | n=>n,fun | 9=>9 | 4=>4 | 3=>3 | 5=>5 | 46=>217 | 146=>257 | 51=>256 | n=>n,fun | 1=>1 | n=>n⟩
theorem Tryz.lays144 :Go.Proofs.Lays.n144 Tryz.prog Tryz.lays144_ren:={
 mixed:=by kernel_rfl
 f143:=Tryz.func237.trans (congrArg some (by kernel_rfl))
 f144:=Tryz.func223.trans (congrArg some (by kernel_rfl))
 f217:=Tryz.func253.trans (congrArg some (by kernel_rfl))
 f219:=Tryz.func248.trans (congrArg some (by kernel_rfl))
 f224:=Tryz.func255.trans (congrArg some (by kernel_rfl))
 f225:=Tryz.func254.trans (congrArg some (by kernel_rfl))
 f266:=Tryz.func257.trans (congrArg some (by kernel_rfl))
 f267:=Tryz.func256.trans (congrArg some (by kernel_rfl))
 f314:=Tryz.func258.trans (congrArg some (by kernel_rfl))
 t3:=Tryz.underlying3
 a3:=Tryz.isAgg3
 z3:=Tryz.sizeOf3
 v3:=Tryz.zeroValue3
 t4:=Tryz.underlying4
 a4:=Tryz.isAgg4
 z4:=Tryz.sizeOf4
 v4:=Tryz.zeroValue4
 t5:=Tryz.underlying5
 a5:=Tryz.isAgg5
 z5:=Tryz.sizeOf5
 v5:=Tryz.zeroValue5
 t9:=Tryz.underlying9
 a9:=Tryz.isAgg9
 z9:=Tryz.sizeOf9
 v9:=Tryz.zeroValue9
 t46:=Tryz.underlying217
 a46:=Tryz.isAgg217
 z46:=Tryz.sizeOf217
 v46:=Tryz.zeroValue217
 t51:=Tryz.underlying256
 a51:=Tryz.isAgg256
 z51:=Tryz.sizeOf256
 v51:=Tryz.zeroValue256
 t146:=Tryz.underlying257
 a146:=Tryz.isAgg257
 z146:=Tryz.sizeOf257
 v146:=Tryz.zeroValue257
 g1:=by kernel_rfl}
open Go.RowKit Go.Lib in
theorem Tryz.strings_Contains_one (s:ByteArray) (c:UInt8) (w:World):
  Calls Tryz.prog 223 #[.string s,.string ⟨#[c]⟩] w fun e w'=>e=.returned (.bool (decide (0<=Lib.indexByte s.data.toList c)))/\w'=w:=Any.strings_Contains_one Tryz.lays144 s c w
end Go.Proofs
namespace Lf
open Go
def cutH (k:Hp) (R:List Nat):Hp:=fun b=>if b∈R then none else k b
theorem zot2 {k:Hp} {R:List Nat} {b:Nat} (h:b∉R):cutH k R b=k b:=by
  unfold cutH
  rw [if_neg h]
theorem zdb2 {h h':Hp} {a:Addr} (e:h' a.block=h a.block):hcell h' a=hcell h a:=by
  unfold hcell
  rw [e]
theorem zon1 (a:Addr) (n:Nat):(a.add n).block=a.block:=by
  unfold Addr.add
  split<;>rfl
theorem zgj2 {h h':Hp} {a:Addr} {cs:List Value} (l:LdIs h a cs) (e:h' a.block=h a.block):LdIs h' a cs:=fun i v hv=>by
  have:hcell h' (a.add i)=hcell h (a.add i):=zdb2 (a:=a.add i) (by rw [zon1];exact e)
  rw [this]
  exact l i v hv
section
variable {α:Type} {h h':Hp} {sz:Nat} {enc:α->List Value} {l:Sl} {xs:List α} {F:List Nat}
theorem Rw.same (r:Rw h sz enc l xs) (e:∀a,l.base=some a->h' a.block=h a.block):Rw h' sz enc l xs:=by
  obtain ⟨h1,h2,h3⟩:=r
  refine ⟨h1,h2,h3.imp id ?_⟩
  rintro ⟨a,ha,hl⟩
  exact ⟨a,ha,zgj2 hl (e a ha)⟩
theorem Rw.nil {l:Sl} (hl:l.len=0):Rw h sz enc l ([]:List α):=⟨hl,(by simp),.inl (by simp)⟩
theorem OwnF.grow (o:OwnF h sz enc l xs F) (hl:h<=h'):OwnF h' sz enc l xs F:=by
  obtain ⟨h1,h2,h3⟩:=o
  refine ⟨h1,h2,h3.imp id ?_⟩
  rintro ⟨b,cs,e1,rfl,e3,e4⟩
  exact ⟨b,cs,e1,rfl,e3.le hl,e4⟩
theorem OwnF.cut {R:List Nat} (o:OwnF h sz enc l xs F) (hd:∀b∈F,b∉R):OwnF (cutH h R) sz enc l xs F:=o.same fun b hb=>zot2 (hd b hb)
theorem OwnF.base (o:OwnF h sz enc l xs F) {a:Addr} (ha:l.base=some a):F=[a.block]:=by
  obtain ⟨_,_,h3⟩:=o
  grind
end
theorem zxi1 {h:Hp} {a:Addr} {v:Value} (e:hcell h a=some v):∃o,h a.block=some o:=by
  unfold hcell at e
  grind
section
variable {α:Type} {h h':Hp} {sz:Nat} {enc:α->List Value} {l:Sl} {xs:List α} {F F':List Nat}
theorem Rw.known (r:Rw h sz enc l xs) {a:Addr} (ha:l.base=some a) (h0:xs.length*sz≠0):h a.block≠none:=by
  obtain ⟨h1,h2,h3⟩:=r
  obtain ⟨a',ha',hl⟩:=h3.resolve_left h0
  rw [ha] at ha'
  cases ha'
  have hne:(xs.flatMap enc).length≠0:=by rw [h2];exact h0
  obtain ⟨v,hv⟩:∃v,(xs.flatMap enc)[0]?=some v:=⟨(xs.flatMap enc)[0]'(by omega),List.getElem?_eq_getElem (by omega)⟩
  obtain ⟨o,ho⟩:=zxi1 (hl 0 v hv)
  rw [zon1] at ho
  rw [ho]
  simp
end
end Lf
namespace Lf
abbrev D (α:Type):Type:=List UInt8->Nat->Except (Int×Nat) (α×Nat)
namespace D
variable {α β:Type}
def ret (x:α):D α:=fun _ at_=>.ok (x,at_)
def bind (d:D α) (f:α->D β):D β:=fun b at_=>match d b at_ with
 | .ok (x,at2)=>f x b at2
 | .error e=>.error e
def num (k:Nat):D Nat:=fun b at_=>if b.length<at_+k then .error (5,b.length) else .ok (valB ((b.drop at_).take k),at_+k)
def must (d:D α) (wrong:α->Int):D α:=fun b at_=>match d b at_ with
 | .ok (x,at2)=>if wrong x=0 then .ok (x,at2) else .error (wrong x,at_)
 | .error e=>.error e
def many (d:List α->D α):Nat->List α->D (List α)
 | 0,acc=>ret acc
 | n+1,acc=>bind (d acc) fun x=>many d n (acc++ [x])
def map (f:α->β) (d:D α):D β:=bind d fun x=>ret (f x)
end D
end Lf
namespace Lf
namespace D
variable {α γ:Type}
end D
open D
def i64 (n:Nat):Int:=if n<9223372036854775808 then n else (n:Int)-18446744073709551616
def I64 (x:Int):Prop:= -9223372036854775808<=x/\x<9223372036854775808
def rngE (a b:Int) (n:Int):Int:=if zbq n a b then 0 else 2
def cntE (most:Int) (n:Int):Int:=if n=0 then 1 else if most<n then 3 else 0
end Lf
namespace Lf
abbrev By (k:Nat) (x:Int):Prop:=0<=x/\x<((256^k:Nat):Int)
def less (n:Int):Int:=n-1
theorem within_true {a b n:Int}:zbq n a b=true↔a<=n/\n<=b:=by
 unfold zbq
 simp
theorem within_false {a b n:Int}:zbq n a b=false↔¬(a<=n/\n<=b):=by
 rw [<-Bool.not_eq_true,within_true]
theorem zoo1 {n locks:Int}:∀ {l:List PIns} {i:Int},(codeR n locks l i).1=0↔∀x∈l,(zds x n locks).1=0
 | [],i=>by simp [codeR]
 | x::r,i=>by
  simp only [codeR]
  by_cases h:(zds x n locks).1=0
  ·rw [if_neg (fun hh=>hh h),zoo1]
   simp [h]
  grind
theorem zop1 {l:List PIns} {locks:Int} (hl:0<=locks/\locks<=8):(codeP l locks).1=0↔l.length<=256/\∀x∈l,(zds x l.length locks).1=0:=by
 unfold codeP
 rw [if_neg (by omega)]
 by_cases h:256<l.length
 ·grind
 ·rw [if_neg h,zoo1]
  grind
theorem zlo1 {parts locks:Int}:∀ {l:List PProc} {i:Int},(zre parts locks l i).1=0↔∀p∈l,(0<=p.part/\p.part<=parts-1)/\(codeP p.code locks).1=0
 | [],i=>by simp [zre]
 | p::r,i=>by
  simp only [zre]
  by_cases h1:zbq p.part 0 (parts-1)=false
  ·rw [if_pos h1]
   have:=within_false.1 h1
   grind
  ·rw [if_neg h1]
   have g1:=within_true.1 (Bool.not_eq_false _▸h1:zbq p.part 0 (parts-1)=true)
   by_cases h2:(codeP p.code locks).1=0
   ·rw [if_neg (fun hh=>hh h2),zlo1]
    simp [h2,g1]
   grind
def Typed (c:PCfg):Prop:=(∀a∈c.labels,By 8 a)/\∀p∈c.procs,∀x∈p.code,I64 x.imm
theorem cfgP_zero {m:Int} {c:PCfg}:(cfgP m c).1=0↔m=0/\c.table≠ []/\c.table.length<=64/\(∀x∈c.table,0<=x/\x<=c.labels.length-1)/\(1<=c.fuel/\c.fuel<=256)/\(1<=c.lane/\c.lane<=64)/\(0<=c.locks/\c.locks<=8)/\
  (0<=c.log/\c.log<=4096)/\c.procs≠ []/\c.procs.length<=32/\∀p∈c.procs,(0<=p.part/\p.part<=c.labels.length-1)/\(codeP p.code c.locks).1=0:=by
 unfold cfgP
 by_cases h0:m=0
 case neg=>rw [if_pos h0];exact ⟨fun e=>absurd e h0,fun e=>absurd e.1 h0⟩
 rw [if_neg (fun hh=>hh h0)]
 by_cases h1:c.table=[]
 ·rw [if_pos h1];exact ⟨fun e=>(by cases e),fun e=>absurd h1 e.2.1⟩
 rw [if_neg h1]
 by_cases h2:64<c.table.length
 ·rw [if_pos h2];exact ⟨fun e=>(by cases e),fun e=>(by have:=e.2.2.1;omega)⟩
 rw [if_neg h2]
 by_cases h3:c.table.all (fun p=>zbq p 0 (c.labels.length-1))=false
 ·rw [if_pos h3]
  refine ⟨fun e=>(by cases e),fun e=> ?_⟩
  have:c.table.all (fun p=>zbq p 0 (c.labels.length-1))=true:=List.all_eq_true.2 fun x hx=>within_true.2 (e.2.2.2.1 x hx)
  rw [this] at h3;cases h3
 rw [if_neg h3]
 have g3:∀x∈c.table,0<=x/\x<=c.labels.length-1:=fun x hx=>within_true.1 (List.all_eq_true.1 (Bool.not_eq_false _▸h3:c.table.all (fun p=>zbq p 0 (c.labels.length-1))=true) x hx)
 by_cases h4:zbq c.fuel 1 256=false
 ·rw [if_pos h4];exact ⟨fun e=>(by cases e),fun e=>absurd e.2.2.2.2.1 (within_false.1 h4)⟩
 rw [if_neg h4]
 have g4:=within_true.1 (Bool.not_eq_false _▸h4:zbq c.fuel 1 256=true)
 by_cases h5:zbq c.lane 1 64=false
 ·rw [if_pos h5];exact ⟨fun e=>(by cases e),fun e=>absurd e.2.2.2.2.2.1 (within_false.1 h5)⟩
 rw [if_neg h5]
 have g5:=within_true.1 (Bool.not_eq_false _▸h5:zbq c.lane 1 64=true)
 by_cases h6:zbq c.locks 0 8=false
 ·rw [if_pos h6];exact ⟨fun e=>(by cases e),fun e=>absurd e.2.2.2.2.2.2.1 (within_false.1 h6)⟩
 rw [if_neg h6]
 have g6:=within_true.1 (Bool.not_eq_false _▸h6:zbq c.locks 0 8=true)
 by_cases h7:zbq c.log 0 4096=false
 ·rw [if_pos h7];exact ⟨fun e=>(by cases e),fun e=>absurd e.2.2.2.2.2.2.2.1 (within_false.1 h7)⟩
 rw [if_neg h7]
 have g7:=within_true.1 (Bool.not_eq_false _▸h7:zbq c.log 0 4096=true)
 by_cases h8:c.procs=[]
 ·rw [if_pos h8];exact ⟨fun e=>(by cases e),fun e=>absurd h8 e.2.2.2.2.2.2.2.2.1⟩
 rw [if_neg h8]
 by_cases h9:32<c.procs.length
 ·rw [if_pos h9];exact ⟨fun e=>(by cases e),fun e=>(by have:=e.2.2.2.2.2.2.2.2.2.1;omega)⟩
 rw [if_neg h9,zlo1]
 grind
theorem zes1 :∀(n:Nat) (l:List Int),l.Nodup->(∀x∈l,0<=x/\x<n)->l.length<=n
 | 0,l,_,h=>by
  cases l with
  | nil=>simp
  | cons x r=>have:=h x (List.mem_cons_self ..);omega
 | n+1,l,hn,h=>by
  by_cases hm:(n:Int)∈l
  ·have:=zes1 n (l.erase (n:Int)) (hn.erase _) fun x hx=>by
    have h1:=h x (List.mem_of_mem_erase hx)
    have h2:x≠(n:Int):=fun e=>by
     rw [e] at hx
     exact (hn.not_mem_erase) hx
    omega
   grind
  ·have:=zes1 n l hn fun x hx=>by
    grind
   omega
section
variable {c:PCfg} {s:zaz} {fl:Nat->Int->Prop}
end
end Lf
namespace Lf
open Go Go.Proofs Go.RowKit
theorem zdc2 {P:Program} {g:FuncId} {args:List Value} {sh:Shape} {K:sh.T->Hp->Prop} {h:Hp} {x:sh.T} (hc:∀w,Sub h w->Calls P g args.toArray w fun e w'=>e=.returned (sh.enc x)/\w'=w) (hk:K x h):CallT P g args sh K h:=by
 intro w hs
 refine (hc w hs).mono ?_
 rintro e w' ⟨rfl,rfl⟩
 exact ⟨_,h,rfl,⟨x,rfl,hk⟩,⟨hs,Nat.le_refl _,fun i hi hn=>⟨rfl,hn⟩,rfl,rfl,rfl⟩⟩
def hasC (s:ByteArray) (c:UInt8):Bool:=decide (0<=Lib.indexByte s.data.toList c)
theorem zxj1 {s:ByteArray} {c:UInt8} {K:Bool->Hp->Prop} {h:Hp} (hk:K (hasC s c) h):CallT Tryz.prog zrg [.string s,.string ⟨#[c]⟩] zad K h:=by
 refine zdc2 (x:=hasC s c) (fun w _=> ?_) hk
 exact Tryz.strings_Contains_one s c w
def insOf (x:S_api_Ins):PIns:=⟨x.Op,x.A,x.B,x.C,x.Imm⟩
def fieldTab :List (List UInt8):=[[],[97,105],[97,98],[97,98,99],[97,98,99],[97,98,99],[97,98,99],[97,98,99],[97,98,99],[97,98,99],[97,98,99],[97,98,99],[97,98,99],[97,98,99],[97,98,99],[97,98,99],[97,98,99],[97,98,99],[97,98,99],[97,98,99],[97,98],[97,98],[105],[97,105],[97,98,99],[97,98],[97,98],[97],[97],[105],[105],[97],[97],[97]]
def ziv (op:Int):ByteArray:=if 0<=op/\op<34 then ⟨(fieldTab.getD op.toNat []).toArray⟩ else ⟨#[]⟩
theorem zxk1 :∀n,n<34->(decide (0<=Lib.indexByte (fieldTab.getD n []) 97),decide (0<=Lib.indexByte (fieldTab.getD n []) 98),decide (0<=Lib.indexByte (fieldTab.getD n []) 99),decide (0<=Lib.indexByte (fieldTab.getD n []) 105))=zbe (n:Int):=by decide
theorem zdd2 (op:Int):(hasC (ziv op) 97,hasC (ziv op) 98,hasC (ziv op) 99,hasC (ziv op) 105)=zbe op:=by
 by_cases h:0<=op/\op<34
 ·have e:=zxk1 op.toNat (by omega)
  rw [Int.toNat_of_nonneg h.1] at e
  rw [<-e]
  simp [hasC,ziv,h]
 ·have e1:ziv op=⟨#[]⟩:=if_neg h
  rw [e1]
  have e2:zbe op=(false,false,false,false):=by
   unfold zbe
   grind
  rw [e2]
  decide
theorem zmr2 :∀n,n<34->fieldTab[n]?=some (fieldTab.getD n []):=by decide
theorem ztr1 {α:Type} (l:List α) (i:Nat):List.get?Internal l i=l[i]?:=by
 simp
theorem zrf1 {op:Int} {Q:ByteArray->Hp->Prop} {h:Hp} (hq:Q (ziv op) h):zuw Tryz.prog op Q h:=by
 unfold zuw
 refine letW ?_
 by_cases h0:0<=op/\op<34
 ·rw [if_neg (by simp;omega)]
  refine ⟨h0,ziv op,?_,hq⟩
  have e:ziv op=⟨(fieldTab.getD op.toNat []).toArray⟩:=if_pos h0
  rw [ztr1,e]
  have e2:=zmr2 op.toNat (by omega)
  rw [Nat.mul_one]
  have e3:(fieldTab.map fun l=>Value.string ⟨l.toArray⟩)[op.toNat]?=some (Value.string ⟨(fieldTab.getD op.toNat []).toArray⟩):=by grind
  exact e3
 ·rw [if_pos (by simp;omega)]
  have e:ziv op=⟨#[]⟩:=if_neg h0
  grind
theorem zit1 {P:Program} {g:FuncId} {first captured:Array Value} {args:List Value} {sh:Shape} {K:sh.T->Hp->Prop} {h:Hp} (hg:tb.call g=true) (hc:CallT P g (first.toList++args++captured.toList) sh K h):CallV P tb (.func (.func g) first captured) args sh K h:=
 ⟨g,first,captured,rfl,hg,hc⟩
theorem zrg1 {op:Int} {Q:Bool->Bool->Bool->Bool->Hp->Prop} {h:Hp} (hq:∀h',h<=h'->Q (zbe op).1 (zbe op).2.1 (zbe op).2.2.1 (zbe op).2.2.2 h'):zuu Tryz.prog op Q h:=by
 unfold zuu
 refine zim1 (zrf1 ?_)
 intro b t hn
 refine zxv (b:=b) (off:=0) (cs:=[.string ⟨#[]⟩]) ⟨t,zbw⟩ (by simp) fun h3 hm hb=> ?_
 have hle:h<=h3:=(((Mv.new hn).trans hm).le (Hp.le_refl h) (by simp)).1
 have hl:LdIs h3 ⟨b,0,none⟩ [.string (ziv op)]:=hb.ldIs (n:=1) (by rfl)
 have one:∀(c:UInt8) (K:Bool->Hp->Prop),K (hasC (ziv op) c) h3->CallV Tryz.prog tb (.func (.func zye) #[] #[.pointer (some ⟨b,0,none⟩)]) [.string ⟨#[c]⟩] zad K h3:=fun c K hk=>by
  refine zit1 rfl (zer1 ?_)
  unfold zyk
  refine ld_at (sh:=shStr) (ziv op) hl ?_
  exact zxj1 hk
 have e:=zdd2 op
 grind
theorem zdj1 {P:Program} {has:Bool} {n:Int} {Q:Int->Hp->Prop} {h:Hp} (hq:Q (regP has n) h):zqg P has n Q h:=by
 unfold zqg
 refine letW ?_
 unfold regP at hq
 by_cases h1:has=false/\n≠0
 ·grind
 ·rw [if_neg h1] at hq
  rw [if_neg (by cases has<;>simp at h1 ⊢;exact h1)]
  refine letW ?_
  grind
theorem zgk2 {P:Program} {x:S_api_Ins} {has:Bool} {n locks:Int} {Q:Int->Hp->Prop} {h:Hp}
  (hq:Q (if has=false/\x.Imm≠0 then 11 else if (x.Op=22\/x.Op=23)/\(x.Imm<0\/n<x.Imm) then 12 else if (x.Op=29\/x.Op=30)/\(x.Imm<0\/locks<=x.Imm) then 13 else 0) h):zuv P x has n locks Q h:=by
 unfold zuv
 refine letW ?_
 by_cases h1:has=false/\x.Imm≠0
 ·grind
 ·rw [if_neg h1] at hq
  rw [if_neg (by cases has<;>simp at h1 ⊢;exact h1)]
  refine letW ?_
  by_cases h2:x.Op=22\/x.Op=23
  ·rw [if_pos (by simp;exact h2)]
   refine letW ?_
   grind
  ·rw [if_neg (fun e=>h2 e.1)] at hq
   rw [if_neg (by simp;omega)]
   refine letW ?_
   by_cases h4:x.Op=29\/x.Op=30
   ·rw [if_pos (by simp;exact h4)]
    refine letW ?_
    by_cases h5:x.Imm<0\/locks<=x.Imm
    ·rw [if_pos ⟨h4,h5⟩] at hq
     rw [if_pos (by simp;omega)]
     exact hq
    ·rw [if_neg (fun e=>h5 e.2)] at hq
     rw [if_neg (by simp;omega)]
     exact hq
   grind
theorem zjy2 {x:S_api_Ins} {n locks:Int} {Q:Int->Int->Hp->Prop} {h:Hp} (hq:∀h' at_,h<=h'->((zds (insOf x) n locks).1≠0->at_=(zds (insOf x) n locks).2)->Q (zds (insOf x) n locks).1 at_ h'):zyh Tryz.prog x n locks Q h:=by
 unfold zyh
 refine letW ?_
 have le:=Hp.le_refl h
 rw [show zds (insOf x) n locks=(if x.Op<0\/34<=x.Op then (9,0)
  else if regP (zbe x.Op).1 x.A≠0 then (regP (zbe x.Op).1 x.A,1)
  else if regP (zbe x.Op).2.1 x.B≠0 then (regP (zbe x.Op).2.1 x.B,2)
  else if regP (zbe x.Op).2.2.1 x.C≠0 then (regP (zbe x.Op).2.2.1 x.C,3)
  else if (zbe x.Op).2.2.2=false/\x.Imm≠0 then (11,4)
  else if (x.Op=22\/x.Op=23)/\(x.Imm<0\/n<x.Imm) then (12,4)
  else if (x.Op=29\/x.Op=30)/\(x.Imm<0\/locks<=x.Imm) then (13,4)
  else (0,0)) from rfl] at hq
 by_cases h1:x.Op<0\/34<=x.Op
 ·grind
 ·rw [if_neg h1] at hq
  rw [if_neg (by simp;omega)]
  refine zik1 (zrg1 fun h1 l1=> ?_)
  dsimp only
  refine zlw (zdj1 ?_)
  by_cases h2:regP (zbe x.Op).1 x.A≠0
  ·grind
  ·rw [if_neg h2] at hq
   rw [if_neg (by simpa using h2)]
   refine zlw (zdj1 ?_)
   by_cases h3:regP (zbe x.Op).2.1 x.B≠0
   ·grind
   ·rw [if_neg h3] at hq
    rw [if_neg (by simpa using h3)]
    refine zlw (zdj1 ?_)
    by_cases h4:regP (zbe x.Op).2.2.1 x.C≠0
    ·grind
    ·rw [if_neg h4] at hq
     rw [if_neg (by simpa using h4)]
     refine zil1 (zgk2 ?_)
     grind
theorem zae2 {x:S_api_Ins} {n locks:Int} {Q:Int->Hp->Prop} {h:Hp} (hq:∀h',h<=h'->Q (zds (insOf x) n locks).1 h'):zyf Tryz.prog x n locks Q h:=by
 unfold zyf
 exact zll1 (zjy2 fun h' _ l _=>hq h' l)
abbrev InsS (h:Hp) (l:Sl) (xs:List S_api_Ins):Prop:=Rs h sh_api_Ins 5 l xs
theorem zde2 {l:Sl} {xs:List S_api_Ins} {locks:Int} {Q:Int->Int->Hp->Prop} {h:Hp} (r:InsS h l xs) (hq:∀h',h<=h'->Q (codeP (xs.map insOf) locks).1 (codeP (xs.map insOf) locks).2 h'):zfn1 Tryz.prog l locks Q h:=by
 unfold zfn1
 have hlen:=r.1
 refine letW ?_
 unfold codeP at hq
 by_cases h1:locks<0\/8<locks
 ·rw [if_pos h1] at hq
  rw [if_pos (by simp;omega)]
  exact hq h (Hp.le_refl h)
 ·rw [if_neg h1,List.length_map] at hq
  rw [if_neg (by simp;omega)]
  by_cases h2:256<xs.length
  ·rw [if_pos h2] at hq
   rw [if_pos (by simp;omega)]
   exact hq h (Hp.le_refl h)
  ·rw [if_neg h2] at hq
   rw [if_neg (by simp;omega)]
   refine LoopW1.intro (fun i k=>h<=k/\0<=i/\i<=(xs.length:Int)/\codeR xs.length locks ((xs.drop i.toNat).map insOf) i=codeR xs.length locks (xs.map insOf) 0) (fun i _=>(xs.length-i).toNat) ⟨Hp.le_refl h,by omega,by omega,rfl⟩ ?_
   rintro i k ⟨hle,h0,hi,he⟩
   by_cases h3:i<(xs.length:Int)
   ·rw [if_pos (decide_eq_true (by omega))]
    refine Rs.get (sh:=sh_api_Ins) (Rw.mono hle r) (fun _=>rfl) (by omega) h0 h3 fun x hx=> ?_
    refine zyw (zae2 fun k' hle'=> ?_)
    have hd:xs.drop i.toNat=x::xs.drop (i.toNat+1):=by
     obtain ⟨hx1,hx2⟩:=List.getElem?_eq_some_iff.1 hx
     rw [<-hx2];simp
    rw [hd,List.map_cons,codeR] at he
    rw [hlen]
    by_cases h4:(zds (insOf x) xs.length locks).1≠0
    ·rw [if_pos h4] at he
     rw [if_pos (by simpa using h4)]
     rw [<-he] at hq
     exact hq k' (Hp.le_trans hle hle')
    ·rw [if_neg h4] at he
     rw [if_neg (by simpa using h4)]
     have hw:IntKind.wrap .i64 (i+1)=i+1:=wrap64 (by omega) (by omega)
     rw [hw]
     refine ⟨⟨Hp.le_trans hle hle',by omega,by omega,?_⟩,by omega⟩
     grind
   ·rw [if_neg (by simp;omega)]
    have hd:xs.drop i.toNat=[]:=List.drop_eq_nil_of_le (by omega)
    rw [hd] at he
    rw [<-he] at hq
    exact hq k hle
end Lf
namespace Lf
open Go
abbrev InU (x:Int):Prop:=0<=x/\x<18446744073709551616
def bit (x:Int) (n:Nat):Bool:=x.toNat.testBit n
theorem wrapU {x:Int} (h:InU x):IntKind.wrap .u64 x=x:=by
  unfold IntKind.wrap
  simp only [IntKind.signed,IntKind.bits]
  have:=h.1
  have:=h.2
  simp
  omega
theorem zts1 {x:Int} (h:InU x):BitVec.ofInt 64 x=BitVec.ofNat 64 x.toNat:=by
  obtain ⟨n,rfl⟩:=Int.eq_ofNat_of_zero_le h.1
  rfl
theorem zms2 {a b:Int} (ha:InU a) (hb:InU b):(bitsI .andNot .u64 a b==0)=true↔∀n,n<64->bit a n=true->bit b n=true:=by
  have e:bitsI .andNot .u64 a b=(((BitVec.ofNat 64 a.toNat)&&& ~~~ (BitVec.ofNat 64 b.toNat)).toNat:Int):=by
    show IntKind.wrap .u64 ((BitVec.ofInt 64 a&&& ~~~ BitVec.ofInt 64 b).toNat:Int)=_
    rw [zts1 ha,zts1 hb,wrapU ⟨by omega,by have:=((BitVec.ofNat 64 a.toNat)&&& ~~~ (BitVec.ofNat 64 b.toNat)).isLt;omega⟩]
  rw [e]
  have e2:((((BitVec.ofNat 64 a.toNat)&&& ~~~ (BitVec.ofNat 64 b.toNat)).toNat:Int)==0)=true↔(BitVec.ofNat 64 a.toNat)&&& ~~~ (BitVec.ofNat 64 b.toNat)=0#64:=by
    rw [BitVec.toNat_eq]
    simp
  rw [e2]
  have ga:∀n,n<64->(BitVec.ofNat 64 a.toNat).getLsbD n=bit a n:=fun n hn=>by rw [BitVec.getLsbD_ofNat];simp [bit,hn]
  have gb:∀n,n<64->(BitVec.ofNat 64 b.toNat).getLsbD n=bit b n:=fun n hn=>by rw [BitVec.getLsbD_ofNat];simp [bit,hn]
  constructor
  · intro h n hn h1
    have:=congrArg (fun v=>v.getLsbD n) h
    simp only [BitVec.getLsbD_and,BitVec.getLsbD_not,ga n hn,gb n hn,h1,hn,decide_true,Bool.true_and,BitVec.getLsbD_zero] at this
    simpa using this
  · intro h
    apply BitVec.eq_of_getLsbD_eq
    intro n hn
    simp only [BitVec.getLsbD_and,BitVec.getLsbD_not,ga n hn,gb n hn,hn,decide_true,Bool.true_and,BitVec.getLsbD_zero]
    cases h1:bit a n with
    | false=>rfl
    | true=>simp [h n hn h1]
end Lf
namespace Lf
open Go Go.Proofs Tryz
abbrev Us (h:Hp) (l:Sl) (xs:List Int):Prop:=Rs h (shInt .u64) 1 l xs
abbrev Is (h:Hp) (l:Sl) (xs:List Int):Prop:=Rs h (shInt .i64) 1 l xs
theorem zou2 {P:Program} {l:Sl} {xs:List Int} {Q:Int->Int->Hp->Prop} {h:Hp} (r:Us h l xs) (hl:xs.length<=8) (asc:xs.Pairwise (· < ·)) (h0:xs=[]->Q 1 0 h) (h1:xs≠ []->Q 0 0 h):zpz P l Q h:=by
 unfold zpz
 have hlen:=r.1
 split
 ·rename_i e
  have e:(l.len:Int)=0:=by simpa using e
  exact h0 (List.length_eq_zero_iff.1 (by omega))
 ·rename_i e
  have e:¬(l.len:Int)=0:=by simpa using e
  split
  ·grind
  ·refine LoopW1.intro (fun i k=>k=h/\1<=i/\i<=(xs.length:Int)) (fun i _=>(xs.length-i).toNat) ⟨rfl,by omega,by omega⟩ ?_
   rintro i k ⟨rfl,hi1,hi2⟩
   split
   ·rename_i e3
    have e3:i<(l.len:Int):=by simpa using e3
    have hw:IntKind.wrap .i64 (i-1)=i-1:=wrap64 (by omega) (by omega)
    rw [hw]
    refine r.get (fun _=>rfl) (by omega) (by omega) (by omega) fun (x:Int) hx=> ?_
    refine r.get (fun _=>rfl) (by omega) (by omega) (by omega) fun (y:Int) hy=> ?_
    have hxy:y<x:=by
     have e4:(i-1).toNat<i.toNat:=by omega
     have hxl:=(List.getElem?_eq_some_iff.1 hx)
     have hyl:=(List.getElem?_eq_some_iff.1 hy)
     obtain ⟨hx1,hx2⟩:=hxl
     obtain ⟨hy1,hy2⟩:=hyl
     rw [<-hx2,<-hy2]
     exact List.pairwise_iff_getElem.1 asc _ _ hy1 hx1 e4
    rw [if_neg (show ¬((x==y)=true) by simp;omega)]
    refine r.get (fun _=>rfl) (by omega) (by omega) (by omega) fun (x':Int) hx'=> ?_
    rw [hx] at hx';cases hx'
    refine r.get (fun _=>rfl) (by omega) (by omega) (by omega) fun (y':Int) hy'=> ?_
    rw [hy] at hy';cases hy'
    rw [if_neg (show ¬(decide (x<y)=true) by simp;omega)]
    have hw2:IntKind.wrap .i64 (i+1)=i+1:=wrap64 (by omega) (by omega)
    rw [hw2]
    exact ⟨⟨rfl,by omega,by omega⟩,by omega⟩
   grind
abbrev OwnU (h0 h:Hp) (l:Sl) (xs:List Int):Prop:=Own h0 h 1 (fun x=>zac ((shInt .u64).enc x)) l xs
abbrev OwnI (h0 h:Hp) (l:Sl) (xs:List Int):Prop:=Own h0 h 1 (fun x=>zac ((shInt .i64).enc x)) l xs
def flows (a b:Int):Bool:=(List.range 64).all fun n=> !bit a n || bit b n
theorem zgl2 {a b:Int}:flows a b=true↔∀n,n<64->bit a n=true->bit b n=true:=by
 unfold flows
 grind
theorem zrh1 {a b:Int} {Q:Bool->Hp->Prop} {h:Hp} (ha:InU a) (hb:InU b) (hq:Q (flows a b) h):zut prog a b Q h:=by
 unfold zut
 have:(bitsI .andNot .u64 a b==0)=flows a b:=by
  rw [Bool.eq_iff_iff,zms2 ha hb,zgl2]
 grind
def fl (xs:List Int) (i j:Int):Bool:=if 0<=i/\i<(xs.length:Int)/\0<=j/\j<(xs.length:Int) then flows (xs.getD i.toNat 0) (xs.getD j.toNat 0) else false
theorem fl_in {xs:List Int} {i j:Int} {x y:Int} (h:0<=i/\0<=j) (hx:xs[i.toNat]?=some x) (hy:xs[j.toNat]?=some y):fl xs i j=flows x y:=by
 have h1:=(List.getElem?_eq_some_iff.1 hx).1
 have h2:=(List.getElem?_eq_some_iff.1 hy).1
 unfold fl
 grind
theorem zlx2 {xs:List Int} {i j:Int} (h:¬(0<=i/\i<(xs.length:Int)/\0<=j/\j<(xs.length:Int))):fl xs i j=false:=by
 unfold fl
 rw [if_neg h]
def ents :List Int->Nat->List MapEntry
 | [],_=> []
 | x::r,j=>{key:=.int .u64 x,val:=.int .i64 (j:Int),born:=j}::ents r (j+1)
def place (a:Int):List Int->Nat->Option Nat
 | [],_=>none
 | x::r,j=>if a=x then some j else place a r (j+1)
theorem ztt1 (a:Int):∀(ls:List Int) (j:Nat),Instr.findNow (.int .u64) (.int .u64 a) (ents ls j) j=some ((place a ls j).map fun (k:Nat)=>(k,Value.int .i64 (k:Int)))
 | [],j=>rfl
 | x::r,j=>by
  simp only [ents,Instr.findNow,Instr.sameNow,if_true,place]
  by_cases h:a=x
  ·simp [h]
  ·have:(a==x)=false:=by simpa using h
   rw [this]
   simp only [if_neg h]
   exact ztt1 a r (j+1)
theorem ztu1 :∀(ls:List Int) (x:Int) (j:Nat),ents (ls++ [x]) j=ents ls j++ [{key:=.int .u64 x,val:=.int .i64 ((j+ls.length:Nat):Int),born:=j+ls.length}]
 | [],x,j=>by simp [ents]
 | y::r,x,j=>by
  simp only [List.cons_append,ents,ztu1 r x (j+1),List.length_cons]
  grind
theorem zoq1 {a:Int}:∀ {ls:List Int} {j:Nat},a∉ls->place a ls j=none
 | [],_,_=>rfl
 | x::r,j,h=>by
  simp only [place]
  rw [if_neg fun e=>h (by grind)]
  exact zoq1 fun e=>h (List.mem_cons_of_mem _ e)
structure Tab (h:Hp) (p:Addr) (ls:List Int):Prop where
 ex:∃(sl:Sl) (m:Nat),LdIs h p [sl.v,.map (some m)]/\Us h sl ls/\h m=some (.map (ents ls 0).toArray ls.length)
theorem Tab.mono {h h':Hp} {p:Addr} {ls:List Int} (hl:h<=h') (t:Tab h p ls):Tab h' p ls:=by
 obtain ⟨sl,m,h1,h2,h3⟩:=t.ex
 exact ⟨sl,m,zbh hl h1,h2.mono hl,hl _ _ h3⟩
theorem Tab.sl {h:Hp} {p:Addr} {ls:List Int} (t:Tab h p ls) {K:Sl->Prop} (hk:∀sl,Us h sl ls->K sl):LdW none shSl h (p.add 0) K:=by
 obtain ⟨sl,m,h1,h2,h3⟩:=t.ex
 refine ⟨sl,fun i v hv=> ?_,hk sl h2⟩
 cases i with
 | zero=>
  have:=h1 0 v (by simpa [zac,Sl.v] using hv)
  rw [zkx]
  exact this
 | succ i=>simp [zac] at hv
theorem Tab.slC {h:Hp} {p:Addr} {ls:List Int} (t:Tab h p ls) {c:Bool} {K:Sl->Prop} (hk:∀sl,Us h sl ls->K sl):LdW (some c) shSl h (p.add 0) K:=by
 obtain ⟨sl,h1,h2⟩:=t.sl hk
 exact ⟨sl,fun _=>h1,h2⟩
theorem Tab.map {h:Hp} {p:Addr} {ls:List Int} (t:Tab h p ls) {K:Option Nat->Prop} (hk:∀m,h m=some (.map (ents ls 0).toArray ls.length)->K (some m)):LdW none shMap h (p.add 1) K:=by
 obtain ⟨sl,m,h1,h2,h3⟩:=t.ex
 refine ⟨some m,fun i v hv=> ?_,hk m h3⟩
 cases i with
 | zero=>
  have:=h1 1 v (by simpa [zac] using hv)
  rw [zkx]
  exact this
 | succ i=>simp [zac] at hv
theorem zaf2 {p:Addr} {ls:List Int} {i:Int} {Q:Bool->Hp->Prop} {h:Hp} (t:Tab h p ls) (hq:Q (decide (0<=i)&&decide (i<(ls.length:Int))) h):zof prog (some p) i Q h:=by
 unfold zof
 refine zab (t.slC fun sl hs=>letW ?_)
 rw [hs.1]
 exact hq
theorem zlp1 {p:Addr} {ls:List Int} {i j:Int} {Q:Bool->Hp->Prop} {h:Hp} (t:Tab h p ls) (hu:∀x∈ls,InU x) (hq:Q (fl ls i j) h):zkf prog (some p) i j Q h:=by
 unfold zkf
 refine zql (zaf2 t ?_)
 generalize hc:(decide (0<=i)&&decide (i<(ls.length:Int)))=ci
 refine ⟨fun e=>zql (zaf2 t ?_),fun e=>⟨false,?_⟩⟩
 ·generalize hd:(decide (0<=j)&&decide (j<(ls.length:Int)))=cj
  refine letW ?_
  subst e
  rw [Bool.true_and]
  simp at hc
  refine zab (t.slC fun sl hs=> ?_)
  refine Rs.getC hs (0:Int) (fun _=>rfl) (by omega) (fun _=>hc) fun (x:Int) hx=> ?_
  refine zab (t.slC fun sl2 hs2=> ?_)
  refine Rs.getC hs2 (0:Int) (fun _=>rfl) (by omega) (fun e=>by grind) fun (y:Int) hy=> ?_
  refine ⟨fun e=> ?_,fun e=>⟨false,?_⟩⟩
  ·have ex:=hx e
   have ey:=hy e
   rw [e] at hd
   simp at hd
   refine zij1 (zrh1 (hu x (List.mem_of_getElem? ex)) (hu y (List.mem_of_getElem? ey)) (letW ?_))
   rw [e,Bool.true_and,<-fl_in ⟨hc.1,hd.1⟩ ex ey]
   exact hq
  ·refine letW ?_
   rw [e] at hd ⊢
   rw [Bool.false_and,<-zlx2 (xs:=ls) (i:=i) (j:=j) (by simp at hd;omega)]
   exact hq
 ·subst e
  simp at hc
  refine letW ?_
  rw [Bool.false_and]
  refine zab (t.slC fun sl hs=> ?_)
  refine Rs.getC hs (0:Int) (fun _=>rfl) (by omega) (fun e=>by cases e) fun (x:Int) hx=> ?_
  refine zab (t.slC fun sl2 hs2=> ?_)
  refine Rs.getC hs2 (0:Int) (fun _=>rfl) (by omega) (fun e=>by cases e) fun (y:Int) hy=> ?_
  refine ⟨fun e=>(by cases e),fun e=>⟨false,letW ?_⟩⟩
  rw [Bool.false_and,<-zlx2 (xs:=ls) (i:=i) (j:=j) (by omega)]
  exact hq
theorem zjz2 {s:Sl} {xs:List Int} {Q:Sl->Hp->Prop} {h:Hp} (r:Us h s xs) (hl:xs.length<=1000000) (hq:∀out h',h<=h'->OwnU h h' out xs->Q out h'):zcc prog s Q h:=by
 unfold zcc
 refine ⟨s.base.isNone,zuc (tb_ok.und 23 ty23 rfl) s,?_⟩
 cases hb:s.base with
 | none=>
  rw [if_pos (show (none:Option Addr).isNone=true from rfl)]
  have:xs=[]:=by
   rcases r.2.2 with e | ⟨a,ha,_⟩
   ·exact List.length_eq_zero_iff.1 (by omega)
   grind
  subst this
  exact hq _ h (Hp.le_refl h) ⟨rfl,Nat.le_refl _,.inl ⟨rfl,rfl⟩⟩
 | some a=>
  rw [if_neg (by simp)]
  refine zpq1 (xs:=([]:List Int)) (enc:=fun x=>zac ((shInt .u64).enc x)) (sz:=1) (Hp.le_refl h) rfl (fun _=>rfl) fun a h1 hle1 ho1=> ?_
  refine zfu2 hle1 ho1 (Rw.mono hle1 r) (fun _=>rfl) (fun _=>rfl) rfl ?_ fun l' h' hle' hown _=> ?_
  ·simp;omega
  grind
theorem zdf2 {ls:List Int} (hn:ls.Pairwise (· < ·)) {t:Nat} {x:Int} (hx:ls[t]?=some x):x∉ls.take t:=by
 intro hm
 obtain ⟨i,hi⟩:=List.mem_iff_getElem?.1 hm
 rw [List.getElem?_take] at hi
 split at hi
 ·rename_i hlt
  obtain ⟨h1,e1⟩:=List.getElem?_eq_some_iff.1 hi
  obtain ⟨h2,e2⟩:=List.getElem?_eq_some_iff.1 hx
  have:=List.pairwise_iff_getElem.1 hn i t h1 h2 hlt
  omega
 ·cases hi
theorem zov2 {l:Sl} {ls:List Int} {Q:Option Addr->Int->Int->Hp->Prop} {h:Hp} (r:Us h l ls) (hl:ls.length<=8) (asc:ls.Pairwise (· < ·)) (h0:ls=[]->Q none 1 0 h)
  (h1:ls≠ []->∀p h',h<=h'->Tab h' p ls->Q (some p) 0 0 h'):zpy prog l Q h:=by
 unfold zpy
 refine zsc (zou2 r hl asc (fun e=> ?_) (fun e=> ?_))
 ·grind
 rw [if_neg (by simp)]
 refine zfh (zjz2 r (by omega) fun out k1 hle1 ho1=> ?_)
 intro m hm
 have hle2:k1<=k1.set m (.map #[] 0):=zcu hm
 intro b t hb
 have hle3:=zcu (o:=.cells (([out.v,.map (some m)]:List Value).toArray) t (0,0)) hb
 have hm0:h m=none:=zdi hle1 hm
 have hbm:b≠m:=fun e=>by rw [e,zbw] at hb;cases hb
 have rout:Us k1 out ls:=ho1.rw fun _=>rfl
 refine ⟨_,rfl,out,?_,?_⟩
 ·intro i v hv
  cases i with
  | zero=>
   rw [zkx]
   exact zub 0 v (by simpa [zac,Sl.v] using hv)
  | succ i=>simp [zac] at hv
 refine LoopW1.intro (fun i k=>h<=k/\0<=i/\i<=(ls.length:Int)/\Us k out ls/\LdIs k ⟨b,0,none⟩ [out.v,.map (some m)]/\k m=some (.map (ents (ls.take i.toNat) 0).toArray i.toNat)) (fun i _=>(ls.length-i).toNat)
  ⟨Hp.le_trans hle1 (Hp.le_trans hle2 hle3),by omega,by omega,Rw.mono (Hp.le_trans hle2 hle3) rout,zub,hle3 _ _ zbw⟩ ?_
 rintro i k ⟨hk,hi0,hi1,hr,hp,hmk⟩
 have hlen:=hr.1
 split
 ·rename_i e
  have e:i<(out.len:Int):=by simpa using e
  refine Rs.get hr (fun _=>rfl) (by omega) hi0 (by omega) fun (x:Int) hx=> ?_
  refine ⟨_,rfl,some m,?_,?_⟩
  ·intro j v hv
   cases j with
   | zero=>
    have:=hp 1 v (by simpa [zac] using hv)
    rw [zkx]
    exact this
   | succ j=>simp [zac] at hv
  have hlt:(ls.take i.toNat).length=i.toNat:=by grind
  refine ⟨m,_,_,rfl,hmk,.inl ⟨?_,?_⟩⟩
  ·have:=ztt1 x (ls.take i.toNat) 0
   rw [zoq1 (zdf2 asc hx)] at this
   exact this
  ·have hck:∀o,CKeep k (k.set m o):=fun o=>zop2 hmk rfl
   rw [wrap64 (by omega) (by omega)]
   refine ⟨⟨zzx1 hk hm0,by omega,by omega,Rw.ck (hck _) hr,zfv2 (hck _) hp,?_⟩,by omega⟩
   rw [zbw]
   have e1:(i+1).toNat=i.toNat+1:=by omega
   have e2:ls.take (i.toNat+1)=ls.take i.toNat++ [x]:=by rw [List.take_add_one,hx];rfl
   rw [e1,e2,ztu1,hlt]
   grind
 ·rename_i e2
  have e2:¬i<(out.len:Int):=by simpa using e2
  have e3:i.toNat=ls.length:=by omega
  rw [e3,List.take_length] at hmk
  exact h1 e _ _ hk ⟨out,m,hp,hr,hmk⟩
def mayR :Int->List Int->Int->Int×Int
 | _,[],_=>(0,0)
 | p,x::r,i=>if x=p then (8,i) else if x<p then (7,i) else mayR x r (i+1)
def mayP :List Int->Int×Int
 | []=>(1,0)
 | x::r=>if 8<r.length+1 then (3,8) else mayR x r 1
theorem ztv1 :∀ {r:List Int} {p i:Int},(mayR p r i).1=0↔(p::r).Pairwise (· < ·)
 | [],p,i=>by simp [mayR]
 | x::r,p,i=>by
  simp only [mayR]
  by_cases h1:x=p
  ·rw [if_pos h1,List.pairwise_cons]
   refine ⟨fun e=>(by cases e),fun h=> ?_⟩
   have:=h.1 x (List.mem_cons_self ..)
   omega
  ·rw [if_neg h1]
   by_cases h2:x<p
   ·rw [if_pos h2,List.pairwise_cons]
    refine ⟨fun e=>(by cases e),fun h=> ?_⟩
    have:=h.1 x (List.mem_cons_self ..)
    omega
   ·rw [if_neg h2,ztv1,List.pairwise_cons (a:=p)]
    refine ⟨fun h=>⟨fun y hy=> ?_,h⟩,fun h=>h.2⟩
    rcases List.mem_cons.1 hy with rfl | hy
    ·omega
    ·have:=(List.pairwise_cons.1 h).1 y hy
     omega
theorem mayP_zero {xs:List Int}:(mayP xs).1=0↔xs≠ []/\xs.length<=8/\xs.Pairwise (· < ·):=by
 cases xs with
 | nil=>simp [mayP]
 | cons x r=>
  simp only [mayP,List.length_cons]
  by_cases h:8<r.length+1
  ·grind
  ·rw [if_neg h,ztv1]
   grind
theorem zxl1 {P:Program} {l:Sl} {xs:List Int} {Q:Int->Int->Hp->Prop} {h:Hp} (r:Us h l xs) (hq:Q (mayP xs).1 (mayP xs).2 h):zpz P l Q h:=by
 unfold zpz
 have hlen:=r.1
 cases hxs:xs with
 | nil=>
  subst hxs
  rw [if_pos (by simp [hlen])]
  exact hq
 | cons x0 r0=>
  subst hxs
  simp only [List.length_cons] at hlen
  rw [if_neg (show ¬(((l.len:Int)==0)=true) by simp;omega)]
  by_cases h8:(l.len:Int)>8
  ·rw [if_pos (decide_eq_true h8)]
   have:mayP (x0::r0)=(3,8):=by simp only [mayP];rw [if_pos (by omega)]
   grind
  rw [if_neg fun hh=>h8 (of_decide_eq_true hh)]
  have hm:mayP (x0::r0)=mayR x0 r0 1:=by simp only [mayP];grind
  rw [hm] at hq
  refine LoopW1.intro (fun i k=>k=h/\1<=i/\i<=((r0.length:Int)+1)/\∃p,(x0::r0)[(i-1).toNat]?=some p/\mayR p ((x0::r0).drop i.toNat) i=mayR x0 r0 1) (fun i _=>(r0.length+1-i).toNat)
   ⟨rfl,by omega,by omega,x0,rfl,rfl⟩ ?_
  rintro i k ⟨rfl,hi1,hi2,p,hp,hmr⟩
  split
  ·rename_i e3
   have e3:i<(l.len:Int):=by simpa using e3
   have hll:((x0::r0).length:Int)=(r0.length:Int)+1:=by simp
   rw [wrap64 (n:=i-1) (by omega) (by omega)]
   refine r.get (fun _=>rfl) (by omega) (by omega) (by omega) fun (x:Int) hx=> ?_
   refine r.get (fun _=>rfl) (by omega) (by omega) (by omega) fun (y:Int) hy=> ?_
   rw [hp] at hy;cases hy
   have hd:(x0::r0).drop i.toNat=x::(x0::r0).drop (i.toNat+1):=by
    obtain ⟨h3,h4⟩:=List.getElem?_eq_some_iff.1 hx
    rw [List.drop_eq_getElem_cons h3,h4]
   rw [hd] at hmr
   simp only [mayR] at hmr
   by_cases hxp:x=p
   ·grind
   rw [if_neg (by simpa using hxp)]
   rw [if_neg hxp] at hmr
   refine r.get (fun _=>rfl) (by omega) (by omega) (by omega) fun (x':Int) hx'=> ?_
   rw [hx] at hx';cases hx'
   refine r.get (fun _=>rfl) (by omega) (by omega) (by omega) fun (y':Int) hy'=> ?_
   rw [hp] at hy';cases hy'
   by_cases hlt:x<p
   ·grind
   rw [if_neg fun hh=>hlt (of_decide_eq_true hh)]
   rw [if_neg hlt] at hmr
   rw [wrap64 (by omega) (by omega)]
   have e1:(i+1).toNat=i.toNat+1:=by omega
   have e2:(i+1-1).toNat=i.toNat:=by omega
   exact ⟨⟨rfl,by omega,by omega,x,by rw [e2];exact hx,by rw [e1];exact hmr⟩,by omega⟩
  ·rename_i e3
   have e3:¬i<(l.len:Int):=by simpa using e3
   rw [List.drop_eq_nil_of_le (by simp;omega)] at hmr
   rw [<-hmr] at hq
   exact hq
theorem zgm2 {l:Sl} {ls:List Int} {Q:Option Addr->Int->Int->Hp->Prop} {h:Hp} (r:Us h l ls) (h0:(mayP ls).1≠0->Q none (mayP ls).1 (mayP ls).2 h)
  (h1:(mayP ls).1=0->∀p h',h<=h'->Tab h' p ls->Q (some p) 0 0 h'):zpy prog l Q h:=by
 by_cases hm:(mayP ls).1=0
 ·obtain ⟨hne,hl,hasc⟩:=mayP_zero.1 hm
  exact zov2 r hl hasc (fun e=>absurd e hne) fun _=>h1 hm
 ·unfold zpy
  refine zsc (zxl1 r ?_)
  grind
def All2 {α β:Type} (R:α->β->Prop):List α->List β->Prop
 | [],[]=>True
 | a::l,b::m=>R a b/\All2 R l m
 | _,_=>False
section
variable {α β:Type} {R S:α->β->Prop}
theorem All2.len :∀ {l:List α} {m:List β},All2 R l m->l.length=m.length
 | [],[],_=>rfl
 | _::l,_::m,h=>by simp [All2.len h.2]
 | [],_::_,h=>h.elim
 | _::_,[],h=>h.elim
theorem All2.imp (hi:∀a b,R a b->S a b):∀ {l:List α} {m:List β},All2 R l m->All2 S l m
 | [],[],_=>trivial
 | _::_,_::_,h=>⟨hi _ _ h.1,All2.imp hi h.2⟩
 | [],_::_,h=>h.elim
 | _::_,[],h=>h.elim
theorem All2.get :∀ {l:List α} {m:List β} {i:Nat} {a:α},All2 R l m->l[i]?=some a->∃b,m[i]?=some b/\R a b
 | [],_,_,_,_,e=>by simp at e
 | _::_,[],_,_,h,_=>h.elim
 | _::_,b::_,0,_,h,e=>by simp at e;subst e;exact ⟨b,rfl,h.1⟩
 | _::_,_::_,i+1,_,h,e=>by
  rw [List.getElem?_cons_succ] at e
  obtain ⟨b,h1,h2⟩:=All2.get h.2 e
  grind
theorem All2.get' :∀ {l:List α} {m:List β} {i:Nat} {b:β},All2 R l m->m[i]?=some b->∃a,l[i]?=some a/\R a b
 | _,[],_,_,_,e=>by simp at e
 | [],_::_,_,_,h,_=>h.elim
 | a::_,_::_,0,_,h,e=>by simp at e;subst e;exact ⟨a,rfl,h.1⟩
 | _::_,_::_,i+1,_,h,e=>by
  rw [List.getElem?_cons_succ] at e
  obtain ⟨b,h1,h2⟩:=All2.get' h.2 e
  grind
theorem All2.app :∀ {l l':List α} {m m':List β},All2 R l m->All2 R l' m'->All2 R (l++l') (m++m')
 | [],_,[],_,_,h=>h
 | _::_,_,_::_,_,h,h'=>⟨h.1,All2.app h.2 h'⟩
 | [],_,_::_,_,h,_=>h.elim
 | _::_,_,[],_,h,_=>h.elim
theorem All2.drop :∀ {l:List α} {m:List β} (n:Nat),All2 R l m->All2 R (l.drop n) (m.drop n)
 | _,_,0,h=>h
 | [],[],_+1,h=>h
 | _::_,_::_,n+1,h=>All2.drop n h.2
 | [],_::_,_+1,h=>h.elim
 | _::_,[],_+1,h=>h.elim
theorem All2.take :∀ {l:List α} {m:List β} (n:Nat),All2 R l m->All2 R (l.take n) (m.take n)
 | _,_,0,_=>trivial
 | [],[],_+1,h=>h
 | _::_,_::_,n+1,h=>⟨h.1,All2.take n h.2⟩
 | [],_::_,_+1,h=>h.elim
 | _::_,[],_+1,h=>h.elim
end
def ProcAt (h:Hp) (q:S_api_Proc) (p:PProc):Prop:=q.Part=p.part/\∃is,InsS h q.Code is/\is.map insOf=p.code
abbrev ProcS (h:Hp) (l:Sl) (ps:List S_api_Proc):Prop:=Rs h sh_api_Proc 2 l ps
structure CfgAt (h:Hp) (c:S_api_Config) (p:PCfg):Prop where
 labels:Us h c.Labels p.labels
 table:Is h c.Table p.table
 fuel:c.Fuel=p.fuel
 lane:c.Lane=p.lane
 locks:c.Locks=p.locks
 log:c.Log=p.log
 procs:∃ps,ProcS h c.Procs ps/\All2 (ProcAt h) ps p.procs
section
variable {h h':Hp}
theorem ProcAt.mono (hl:h<=h') {q:S_api_Proc} {p:PProc} (a:ProcAt h q p):ProcAt h' q p:=by
 obtain ⟨h1,is,h2,h3⟩:=a
 exact ⟨h1,is,Rw.mono hl h2,h3⟩
theorem CfgAt.mono (hl:h<=h') {c:S_api_Config} {p:PCfg} (a:CfgAt h c p):CfgAt h' c p:=by
 obtain ⟨ps,h1,h2⟩:=a.procs
 exact ⟨Rw.mono hl a.labels,Rw.mono hl a.table,a.fuel,a.lane,a.locks,a.log,ps,Rw.mono hl h1,h2.imp fun _ _ e=>e.mono hl⟩
end
section
variable {P:Program} {h:Hp}
theorem zyx {n a b:Int} {Q:Bool->Hp->Prop} (hq:Q (zbq n a b) h):zup P n a b Q h:=by
 unfold zup
 exact letW hq
theorem zgn2 {n most:Int} {Q:Int->Hp->Prop} (hq:Q (cntE most n) h):zcd1 P n most Q h:=by
 unfold zcd1
 unfold cntE at hq
 grind
def zqo (part n:Int):Int:=if part=2 then rngE 1 256 n else if part=3 then rngE 1 64 n else if part=4 then rngE 0 8 n else if part=5 then rngE 0 4096 n else 0
theorem zgo2 {part n:Int} {Q:Int->Hp->Prop} (hq:Q (zqo part n) h):zuo prog part n Q h:=by
 unfold zuo
 unfold zqo at hq
 have one:∀a b,Q (rngE a b n) h->(if (!(zbq n a b))=true then Q 2 h else Q 0 h):=fun a b hq=>by
  unfold rngE at hq
  grind
 by_cases h2:part=2
 ·rw [if_pos h2] at hq;rw [if_pos (by simpa using h2)]
  exact zgl (zyx (one 1 256 hq))
 ·rw [if_neg h2] at hq;rw [if_neg (by simpa using h2)]
  by_cases h3:part=3
  ·rw [if_pos h3] at hq;rw [if_pos (by simpa using h3)]
   exact zgl (zyx (one 1 64 hq))
  ·rw [if_neg h3] at hq;rw [if_neg (by simpa using h3)]
   by_cases h4:part=4
   ·rw [if_pos h4] at hq;rw [if_pos (by simpa using h4)]
    exact zgl (zyx (one 0 8 hq))
   ·rw [if_neg h4] at hq;rw [if_neg (by simpa using h4)]
    by_cases h5:part=5
    ·rw [if_pos h5] at hq;rw [if_pos (by simpa using h5)]
     exact zgl (zyx (one 0 4096 hq))
    grind
end
theorem zyy {h:Hp} {s:Sl} {xs:List Int} {p:Int->Bool} {f:FnV} {Q:Int->Hp->Prop} (r:Is h s xs) (hl:xs.length<=1000000)
  (hc:∀x∈xs,∀(k:Hp) (K:Bool->Hp->Prop),h<=k->(∀k',h<=k'->K (p x) k')->CallV prog tb (.func (.func f.g) f.first f.captured) [.int .i64 x] zad K k)
  (hq:∀i h',h<=h'->(0<=i↔xs.any p=true)->Q i h'):zec prog s f Q h:=by
 unfold zec
 have hlen:=r.1
 refine LoopW1.intro (fun i k=>h<=k/\0<=i/\i<=(xs.length:Int)/\∀x∈xs.take i.toNat,p x=false) (fun i _=>(xs.length-i).toNat) ⟨Hp.le_refl h,by omega,by omega,fun x hx=>by simp at hx⟩ ?_
 rintro i k ⟨hle,h0,hi,hall⟩
 by_cases h3:i<(xs.length:Int)
 ·rw [if_pos (decide_eq_true (by omega))]
  refine Rs.get (sh:=shInt .i64) (Rw.mono hle r) (fun _=>rfl) (by omega) h0 h3 fun x hx=> ?_
  refine hc x (List.mem_of_getElem? hx) k _ hle fun k' hle'=> ?_
  cases hp:p x with
  | true=>
   grind
  | false=>
   rw [if_neg (by simp),wrap64 (by omega) (by omega)]
   refine ⟨⟨hle',by omega,by omega,fun y hy=> ?_⟩,by omega⟩
   have:(i+1).toNat=i.toNat+1:=by omega
   rw [this,List.take_add_one,hx] at hy
   grind
 ·rw [if_neg (fun e=>h3 (by have:=of_decide_eq_true e;omega))]
  refine hq (-1) k hle ⟨fun e=>by omega,fun e=> ?_⟩
  obtain ⟨x,hx,hp⟩:=List.any_eq_true.1 e
  have:xs.take i.toNat=xs:=List.take_of_length_le (by omega)
  grind
theorem zgp2 {s:Sl} {xs:List Int} {Q:Sl->Hp->Prop} {h:Hp} (r:Is h s xs) (hl:xs.length<=1000000) (hq:∀out h',h<=h'->OwnI h h' out xs->Q out h'):zbo prog s Q h:=by
 unfold zbo
 refine ⟨s.base.isNone,zuc (tb_ok.und 24 ty24 rfl) s,?_⟩
 cases hb:s.base with
 | none=>
  rw [if_pos (show (none:Option Addr).isNone=true from rfl)]
  have:xs=[]:=by
   rcases r.2.2 with e | ⟨a,ha,_⟩
   ·exact List.length_eq_zero_iff.1 (by omega)
   grind
  subst this
  exact hq _ h (Hp.le_refl h) ⟨rfl,Nat.le_refl _,.inl ⟨rfl,rfl⟩⟩
 | some a=>
  rw [if_neg (by simp)]
  refine zpq1 (xs:=([]:List Int)) (enc:=fun x=>zac ((shInt .i64).enc x)) (sz:=1) (Hp.le_refl h) rfl (fun _=>rfl) fun a h1 hle1 ho1=> ?_
  refine zfu2 hle1 ho1 (Rw.mono hle1 r) (fun _=>rfl) (fun _=>rfl) rfl ?_ fun l' h' hle' hown _=> ?_
  ·simp;omega
  grind
theorem zxm1 {h:Hp} {t:Sl} {xs:List Int} {n:Int} {Q:Option Addr->Int->Int->Hp->Prop} (r:Is h t xs) (h1:1<=n) (h8:n<=8) (hne:xs≠ []) (hl:xs.length<=64)
  (hq:∀p i h',h<=h'->Q p (if (xs.all fun x=>zbq x 0 (n-1))=false then 2 else 0) i h'):zqa prog t n Q h:=by
 unfold zqa
 have hlen:=r.1
 have hpos:0<xs.length:=List.length_pos_iff.2 hne
 intro b ty hn
 have hle:=zcu (o:=.cells (#[Value.int .i64 n]) ty (0,0)) hn
 have hld:LdIs (h.set b (.cells (#[Value.int .i64 n]) ty (0,0))) ⟨b,0,none⟩ [.int .i64 n]:=zub (cs:=[Value.int .i64 n])
 refine ld_at (sh:=shInt .i64) n hld ?_
 refine ⟨n,fun _=>hld,?_⟩
 refine letW (letW ?_)
 rw [if_neg (by simp;omega),if_neg (by simp;omega)]
 have hany:(xs.any fun x=>decide (x<0) || decide (x>=n))= !(xs.all fun x=>zbq x 0 (n-1)):=by
  rw [Bool.eq_iff_iff]
  simp only [List.any_eq_true,Bool.not_eq_true',List.all_eq_false,Bool.or_eq_true,decide_eq_true_eq]
  constructor
  ·rintro ⟨x,hx,hb⟩
   exact ⟨x,hx,by rw [within_true];omega⟩
  ·rintro ⟨x,hx,hb⟩
   exact ⟨x,hx,by rw [within_true] at hb;omega⟩
 refine zdk (f:=⟨zli, #[], #[.pointer (some ⟨b,0,none⟩)]⟩) (zyy (p:=fun x=>decide (x<0) || decide (x>=n)) (Rw.mono hle r) (by omega) (fun x _ k K hk hK=> ?_) fun i h' hle' hi=> ?_)
 ·refine zit1 (g:=zli) rfl (zwm ?_)
  unfold zur
  refine ⟨n,fun _=>zbh hk hld,letW (hK k hk)⟩
 ·dsimp only
  rw [hany] at hi
  cases ha:(xs.all fun x=>zbq x 0 (n-1)) with
  | false=>
   rw [ha] at hi hq
   rw [if_pos (decide_eq_true (hi.2 rfl))]
   exact hq none i h' (Hp.le_trans hle hle')
  | true=>
   rw [ha] at hi hq
   rw [if_neg (fun e=>by grind)]
   refine ld_at (sh:=shInt .i64) n (zbh hle' hld) ?_
   refine zcz (zgp2 (Rw.mono (Hp.le_trans hle hle') r) (by omega) fun out h2 hle2 ho=> ?_)
   refine ⟨⟨zbh (Hp.le_trans hle' hle2) hld,trivial⟩,?_⟩
   intro b2 t2 hn2
   exact hq _ 0 _ (Hp.le_trans (Hp.le_trans hle hle') (Hp.le_trans hle2 (zcu hn2)))
def numsR :List Int->Int->Int×Int->Int×Int
 | [],_,z=>z
 | n::r,i,z=>if zqo i n≠0 then (zqo i n,i) else numsR r (i+1) z
def restP (c:PCfg):Int×Int:=if c.procs=[] then (1,6) else if 32<c.procs.length then (3,6) else zre c.labels.length c.locks c.procs 0
theorem zgq2 (m:Int) (c:PCfg):cfgP m c=if m≠0 then (m,0) else if c.table=[] then (1,1) else if 64<c.table.length then (3,1)
  else if (c.table.all fun p=>zbq p 0 (c.labels.length-1))=false then (2,1) else numsR [0,0,c.fuel,c.lane,c.locks,c.log] 0 (restP c):=by
 unfold cfgP
 have h0:zqo 0 0=0:=rfl
 have h1:zqo (0+1) 0=0:=rfl
 have h2:zqo (0+1+1) c.fuel=rngE 1 256 c.fuel:=rfl
 have h3:zqo (0+1+1+1) c.lane=rngE 1 64 c.lane:=rfl
 have h4:zqo (0+1+1+1+1) c.locks=rngE 0 8 c.locks:=rfl
 have h5:zqo (0+1+1+1+1+1) c.log=rngE 0 4096 c.log:=rfl
 simp only [numsR,h0,h1,h2,h3,h4,h5,ne_eq,not_true_eq_false,if_false]
 unfold rngE restP
 grind
def cfgE (c:PCfg):Int×Int:=cfgP (mayP c.labels).1 c
theorem zor1 {h:Hp} {c:S_api_Config} {p:PCfg} {Q:Int->Int->Hp->Prop} (a:CfgAt h c p) (hq:∀h',h<=h'->Q (cfgE p).1 (cfgE p).2 h'):zfm1 prog c Q h:=by
 unfold zfm1
 have le:=Hp.le_refl h
 unfold cfgE at hq
 rw [zgq2] at hq
 refine zsc (zxl1 a.labels ?_)
 dsimp only
 by_cases h1:(mayP p.labels).1≠0
 ·grind
 rw [if_neg h1] at hq
 rw [if_neg (by simpa using h1)]
 obtain ⟨hl1,hl2,_⟩:=mayP_zero.1 (Classical.not_not.1 h1)
 have hll:=a.labels.1
 have hlt:=a.table.1
 have hpos:0<p.labels.length:=List.length_pos_iff.2 hl1
 refine zbi1 (zgn2 ?_)
 by_cases h2:p.table=[]
 ·rw [if_pos h2] at hq
  have e:cntE 64 (c.Table.len:Int)=1:=by unfold cntE;rw [if_pos (by rw [hlt,h2];rfl)]
  grind
 rw [if_neg h2] at hq
 have hpt:0<p.table.length:=List.length_pos_iff.2 h2
 by_cases h3:64<p.table.length
 ·rw [if_pos h3] at hq
  have e:cntE 64 (c.Table.len:Int)=3:=by unfold cntE;rw [if_neg (by omega),if_pos (by omega)]
  grind
 rw [if_neg h3] at hq
 have e:cntE 64 (c.Table.len:Int)=0:=by unfold cntE;omega
 rw [e,if_neg (by simp)]
 rw [hll]
 refine zbj1 (zxm1 a.table (by omega) (by omega) h2 (by omega) fun sp si h3' le3=> ?_)
 dsimp only
 by_cases h4:(p.table.all fun x=>zbq x 0 (p.labels.length-1))=false
 ·grind
 rw [if_neg h4] at hq
 rw [if_neg (by grind)]
 refine zpq1 (h0:=h3') (xs:=([0,0,p.fuel,p.lane,p.locks,p.log]:List Int)) (enc:=fun x=>zac ((shInt .i64).enc x)) (sz:=1) (Hp.le_refl h3') (by rw [a.fuel,a.lane,a.locks,a.log];rfl) (fun _=>rfl) fun ad h4' le4 o4=> ?_
 have r4:Is h4' ⟨some ad,6,6⟩ [0,0,p.fuel,p.lane,p.locks,p.log]:=o4.rw fun _=>rfl
 have le4':=Hp.le_trans le3 le4
 obtain ⟨ps,hps,hall⟩:=a.procs
 have hlp:=hps.1
 have hlp2:=hall.len
 refine LoopW1.intro (fun i k=>h4'<=k/\0<=i/\i<=6/\numsR (([0,0,p.fuel,p.lane,p.locks,p.log]:List Int).drop i.toNat) i (restP p)=numsR [0,0,p.fuel,p.lane,p.locks,p.log] 0 (restP p)) (fun i _=>(6-i).toNat) ⟨Hp.le_refl _,by omega,by omega,rfl⟩ ?_
 rintro i k ⟨hle,h0,hi,he⟩
 have hlek:=Hp.le_trans le4' hle
 by_cases h5:i<6
 ·rw [if_pos (decide_eq_true h5)]
  refine Rs.get (sh:=shInt .i64) (l:=⟨some ad,6,6⟩) (Rw.mono hle r4) (fun _=>rfl) (by omega) h0 (by simpa using h5) fun x hx=> ?_
  refine zii1 (zgo2 ?_)
  have hd:([0,0,p.fuel,p.lane,p.locks,p.log]:List Int).drop i.toNat=x::([0,0,p.fuel,p.lane,p.locks,p.log]:List Int).drop (i.toNat+1):=by
   grind
  rw [hd,numsR] at he
  by_cases h6:zqo i x≠0
  ·grind
  ·rw [if_neg h6] at he
   rw [if_neg (by simpa using h6),wrap64 (by omega) (by omega)]
   refine ⟨⟨hle,by omega,by omega,?_⟩,by omega⟩
   have:(i+1).toNat=i.toNat+1:=by omega
   grind
 ·rw [if_neg (fun e=>h5 (of_decide_eq_true e))]
  have:i=6:=by omega
  subst this
  rw [show ([0,0,p.fuel,p.lane,p.locks,p.log]:List Int).drop (6:Int).toNat=[] from rfl,numsR] at he
  rw [<-he] at hq
  unfold restP at hq
  refine zbi1 (zgn2 ?_)
  by_cases h6:p.procs=[]
  ·rw [if_pos h6] at hq
   have e:cntE 32 (c.Procs.len:Int)=1:=by unfold cntE;rw [if_pos (by rw [hlp,hlp2,h6];rfl)]
   grind
  rw [if_neg h6] at hq
  have hpp:0<p.procs.length:=List.length_pos_iff.2 h6
  by_cases h7:32<p.procs.length
  ·rw [if_pos h7] at hq
   have e:cntE 32 (c.Procs.len:Int)=3:=by unfold cntE;rw [if_neg (by omega),if_pos (by omega)]
   grind
  rw [if_neg h7] at hq
  have e:cntE 32 (c.Procs.len:Int)=0:=by unfold cntE;omega
  rw [e,if_neg (by simp)]
  refine LoopW1.intro (fun i k'=>k<=k'/\0<=i/\i<=(ps.length:Int)/\zre p.labels.length p.locks (p.procs.drop i.toNat) i=zre p.labels.length p.locks p.procs 0) (fun i _=>(ps.length-i).toNat) ⟨Hp.le_refl _,by omega,by omega,rfl⟩ ?_
  rintro i k' ⟨hle',h0,hi,he⟩
  have hlk:=Hp.le_trans hlek hle'
  by_cases h8:i<(ps.length:Int)
  ·rw [if_pos (decide_eq_true (by omega))]
   refine Rs.get (sh:=sh_api_Proc) (Rw.mono hlk hps) (fun _=>rfl) (by omega) h0 h8 fun q hx=> ?_
   obtain ⟨pp,hpp1,hq1,is,his,hmap⟩:=hall.get hx
   have hd:p.procs.drop i.toNat=pp::p.procs.drop (i.toNat+1):=by
    obtain ⟨hx1,hx2⟩:=List.getElem?_eq_some_iff.1 hpp1
    rw [<-hx2];simp
   rw [hd,zre] at he
   rw [wrap64 (n:=(p.labels.length:Int)-1) (by omega) (by omega)]
   refine zgl (zyx ?_)
   rw [hq1]
   by_cases h9:zbq pp.part 0 ((p.labels.length:Int)-1)=false
   ·rw [if_pos h9] at he
    rw [if_pos (by rw [h9];rfl),wrap64 (by omega) (by omega)]
    grind
   rw [if_neg h9] at he
   rw [if_neg (by grind)]
   refine zqw1 (zde2 (Rw.mono hlk his) fun k2 le2=> ?_)
   dsimp only
   rw [hmap,a.locks]
   by_cases h10:(codeP pp.code p.locks).1≠0
   ·rw [if_pos h10] at he
    rw [if_pos (by simpa using h10),wrap64 (by omega) (by omega)]
    rw [<-he] at hq
    exact hq k2 (Hp.le_trans hlk le2)
   ·rw [if_neg h10] at he
    rw [if_neg (by simpa using h10),wrap64 (by omega) (by omega)]
    refine ⟨⟨Hp.le_trans hle' le2,by omega,by omega,?_⟩,by omega⟩
    grind
  ·rw [if_neg (fun e=>h8 (by have:=of_decide_eq_true e;omega))]
   rw [List.drop_eq_nil_of_le (by omega),zre] at he
   grind
end Lf
