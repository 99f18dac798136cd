/-
  Part 3 of the texts that the claim leans on.
-/
import Derived.Test.YthlkklcbcdmegaaGreatRows
import Derived.Laws.Externs
import Derived.Shelf.Strings.Search1
import Derived.Shelf.Strings.Search2
import Derived.Shelf.Strings.Search3
import Derived.Shelf.LaysM
import Derived.Test.YthlkklcbcdmegaaGreatProg
import Derived.Test.YthlkklcbcdmegaaGreatMgMaNames1
set_option maxRecDepth 100000
set_option linter.unusedVariables false
namespace Lf
open Go
abbrev yI(x:Int):Value:=.int .i64 x
abbrev yP(x:Option Addr):Value:=.pointer x
abbrev yN:Value:=.slice none 0 0
abbrev yH:Shape:=shInt .i64
abbrev yLi(h:Hp)(p:Addr)(n:Nat)(K:Int->Prop):Prop:=LdW none (shInt .i64) h (Addr.add p n) K
abbrev yLs(h:Hp)(p:Addr)(n:Nat)(K:Sl->Prop):Prop:=LdW none shSl h (Addr.add p n) K
abbrev yLp(h:Hp)(p:Addr)(n:Nat)(K:Option Addr->Prop):Prop:=LdW none shPtr h (Addr.add p n) K
def zcx (P:Program)  (Q:(Bool->(Hp->Prop))) (h:Hp):Prop:=
 EffC (some true) (CallT P zjp [] zae) (fun r h1=>
 LetW (true&&r) fun y=>
 Q y h1) h
def zfn (P:Program)  (Q:(Bool->(Hp->Prop))) (h:Hp):Prop:=
 CallT P zie [] zbl (fun r h1=>
 Call2 P zqk [r.v] shPtr yH (fun r1 r2 h2=>
 LetW ((Option.isNone r1) || (r2 !=0)) fun y=>
 (if y then
 Q false h2
 else
 LoopW2 (α1:=Int) (α2:=Int) (fun again owners i h3=>
 (if decide (i<4) then
 CallT P zjq [(yP r1)] yH (fun r3 h4=>
 again (IntKind.wrap .i64 ((IntKind.wrap .i64 (2*owners))+r3)) (IntKind.wrap .i64 (i+1)) h4) h3
 else
 CallT P ziq [(yP r1)] zic (fun r3 h4=>
 LetW ((owners !=5) || (r3.Tick !=4)) fun y1=>
 LetW (y1 || ((r3.Parts.len:Int) !=2)) fun y2=>
 LetW (y2 || ((r3.Procs.len:Int) !=2)) fun y3=>
 (((!y3)=true->(InB r3.Parts.base r3.Parts.len 1))/\LdW (some (!y3)) shSl h4 (Addr.add (sat r3.Parts.base 6 1) 1) fun x=>
 LetW (y3 || ((x.len:Int) !=1)) fun y4=>
 (if y4 then
 Q false h4
 else
 ((InB r3.Parts.base r3.Parts.len 1)/\LdW none shSl h4 (Addr.add (sat r3.Parts.base 6 1) 1) fun x1=>
 ((InB x1.base x1.len 0)/\LdW none sh_api_Entry h4 (sat x1.base 3 0) fun x2=>
 SemV none P (binS .eql 68 (.tmp 62) (.tmp 63) x2.v (.agg #[(yI 3),(yI 1),(yI 5)])) zae h4 fun x3=>
 ((x3=true->(InB r3.Procs.base r3.Procs.len 0))/\LdW (some x3) yH h4 (Addr.add (sat r3.Procs.base 15 0) 0) fun x4=>
 LetW (x3&&(x4==5)) fun y5=>
 EffC (some y5) (CallT P zid [(yP r1),(yI 5),(yI 1)] yH) (fun r4 h5=>
 LetW (y5&&(r4==17)) fun y6=>
 Q y6 h5) h4)))))) h3)) 0 0 h2)) h1) h
def zqp (P:Program) (c:S_api_Config) (Q:(Option Addr->(Int->(Hp->Prop)))) (h:Hp):Prop:=
 Call2 P zzf [c.v] yH yH (fun r r1 h1=>
 (if (r !=0)=true then
 Q none r h1
 else
 CallT P ztb [c.v] zic (fun r2 h2=>
 ((True/\True)/\CallT P zvm [c.v,r2.v] shPtr (fun r3 h3=>
 Q r3 0 h3) h2)) h1)) h
def zdb (P:Program) (m:Option Addr) (Q:(S_api_State->(Hp->Prop))) (h:Hp):Prop:=
 NilW none m fun p=>
 yLi h p 9 fun x=>
 NilW none m fun p1=>
 yLs h p1 10 fun x1=>
 LoopW2 (α1:=Int) (α2:=S_api_State) (fun again t26 s h1=>
 (if decide (t26<(x1.len:Int)) then
 ((InB x1.base x1.len t26)/\LdW none shPtr h1 (sat x1.base 1 t26) fun x2=>
 NilW none x2 fun p2=>
 yLp h1 p2 5 fun x3=>
 Call2 P zel [(yP x3)] shSl shSl (fun r r1 h2=>
 NilW none x2 fun p3=>
 yLi h2 p3 1 fun x4=>
 NilW none x2 fun p4=>
 yLs h2 p4 2 fun x5=>
 NilW none x2 fun p5=>
 yLi h2 p5 3 fun x6=>
 NilW none x2 fun p6=>
 yLi h2 p6 4 fun x7=>
 CallT P zat [x5.v] shSl (fun r2 h3=>
 ((True/\((LdIs h3 (Addr.add p3 1) [(yI x4)])/\((LdIs h3 (Addr.add p5 3) [(yI x6)])/\((LdIs h3 (Addr.add p6 4) [(yI x7)])/\True))))/\NewW [(yI x4),r2.v,(yI x6),(yI x7),r.v,r1.v] (fun a h4=>
 ((True/\True)/\zap 6 96 [(yI 0),yN,(yI 0),(yI 0),yN,yN] ⟨s.Parts.base,s.Parts.len,s.Parts.cap⟩ ⟨(some a),1,1⟩ (fun r3 h5=>
 again (IntKind.wrap .i64 (t26+1)) ⟨s.Tick,r3,s.Procs⟩ h5) h4)) h3)) h2) h1)
 else
 NilW none m fun p2=>
 yLs h1 p2 11 fun x2=>
 LoopW2 (α1:=Int) (α2:=S_api_State) (fun again1 t69 s1 h2=>
 (if decide (t69<(x2.len:Int)) then
 ((InB x2.base x2.len t69)/\LdW none shPtr h2 (sat x2.base 1 t69) fun x3=>
 NilW none x3 fun p3=>
 yLp h2 p3 14 fun x4=>
 Call2 P zgs [(yP x4)] shSl yH (fun r r1 h3=>
 NilW none m fun p4=>
 yLs h3 p4 10 fun x5=>
 NilW none x3 fun p5=>
 yLi h3 p5 1 fun x6=>
 ((InB x5.base x5.len x6)/\LdW none shPtr h3 (sat x5.base 1 x6) fun x7=>
 NilW none x7 fun p6=>
 yLp h3 p6 6 fun x8=>
 CallT P zbh [(yI t69)] yH (fun r2 h4=>
 (((LdIs h4 (Addr.add p4 10) [x5.v])/\((LdIs h4 (Addr.add p5 1) [(yI x6)])/\((LdIs h4 (sat x5.base 1 x6) [(yP x7)])/\((LdIs h4 (Addr.add p6 6) [(yP x8)])/\True))))/\Call2 P zdd [(yP x8),(yI r2)] yH zae (fun r3 r4 h5=>
 NilW none m fun p7=>
 yLs h5 p7 10 fun x9=>
 NilW none x3 fun p8=>
 yLi h5 p8 1 fun x10=>
 ((InB x9.base x9.len x10)/\LdW none shPtr h5 (sat x9.base 1 x10) fun x11=>
 NilW none x11 fun p9=>
 yLp h5 p9 6 fun x12=>
 CallT P zcb [(yI t69)] yH (fun r5 h6=>
 (((LdIs h6 (Addr.add p7 10) [x9.v])/\((LdIs h6 (Addr.add p8 1) [(yI x10)])/\((LdIs h6 (sat x9.base 1 x10) [(yP x11)])/\((LdIs h6 (Addr.add p9 6) [(yP x12)])/\True))))/\Call2 P zdd [(yP x12),(yI r5)] yH zae (fun r6 r7 h7=>
 NilW none x3 fun p10=>
 yLi h7 p10 3 fun x13=>
 NilW none x3 fun p11=>
 LdW none yH h7 (Addr.add (Addr.add p11 4) 0) fun x14=>
 NilW none x3 fun p12=>
 LdW none zdr h7 (Addr.add (Addr.add p12 4) 1) fun x15=>
 NilW none x3 fun p13=>
 LdW none zae h7 (Addr.add p13 13) fun x16=>
 NewW [(yI x13),(yI x14),(yI x15.a0),(yI x15.a1),(yI x15.a2),(yI x15.a3),(yI x15.a4),(yI x15.a5),(yI x15.a6),(yI x15.a7),(yI r1),(yI r3),(.bool x16),(yI r6),r.v] (fun a h8=>
 ((True/\True)/\zap 15 136 [(yI 0),(yI 0),(yI 0),(yI 0),(yI 0),(yI 0),(yI 0),(yI 0),(yI 0),(yI 0),(yI 0),(yI 0),(.bool false),(yI 0),yN] ⟨s1.Procs.base,s1.Procs.len,s1.Procs.cap⟩ ⟨(some a),1,1⟩ (fun r8 h9=>
 again1 (IntKind.wrap .i64 (t69+1)) ⟨s1.Tick,s1.Parts,r8⟩ h9) h8)) h7) h6)) h5)) h4)) h3)) h2)
 else
 Q s1 h2)) 0 s h1)) 0 ⟨x,⟨none,0,0⟩,⟨none,0,0⟩⟩ h
def zdg (P:Program) (m:Option Addr) (Q:(Int->(Hp->Prop))) (h:Hp):Prop:=
 NilW none m fun p=>
 yLp h p 8 fun x=>
 NilW none m fun p1=>
 yLi h p1 9 fun x1=>
 CallT P zmk [(yP x),(yI x1)] yH (fun r h1=>
 NilW none m fun p2=>
 yLs h1 p2 10 fun x2=>
 ((InB x2.base x2.len r)/\LdW none shPtr h1 (sat x2.base 1 r) fun x3=>
 Call0 P zgh [(yP m),(yP x3)] (fun h2=>
 NilW none m fun p3=>
 LdW none yH h2 (Addr.add (Addr.add p3 0) 2) fun x4=>
 JoinW0 (fun k=>
 LoopW1 (α1:=Int) (fun again t32 h3=>
 (if decide (t32<x4) then
 NilW none x3 fun p4=>
 yLs h3 p4 0 fun x5=>
 LoopW1 (α1:=Int) (fun again1 t39 h4=>
 (if decide (t39<(x5.len:Int)) then
 NilW none x3 fun p5=>
 yLi h4 p5 1 fun x6=>
 NilW none x3 fun p6=>
 yLs h4 p6 0 fun x7=>
 ((x7.len:Int)≠0/\NilW none m fun p7=>
 yLs h4 p7 11 fun x8=>
 NilW none x3 fun p8=>
 yLs h4 p8 0 fun x9=>
 ((InB x9.base x9.len (Int.tmod (IntKind.wrap .i64 (x6+t39)) (x7.len:Int)))/\LdW none yH h4 (sat x9.base 1 (Int.tmod (IntKind.wrap .i64 (x6+t39)) (x7.len:Int))) fun x10=>
 ((InB x8.base x8.len x10)/\LdW none shPtr h4 (sat x8.base 1 x10) fun x11=>
 NilW none x11 fun p9=>
 yLi h4 p9 3 fun x12=>
 (if (x12==0)=true then
 NilW none x3 fun p10=>
 yLs h4 p10 0 fun x13=>
 ((x13.len:Int)≠0/\NilW none x3 fun p11=>
 StW h4 (Addr.add p11 1) [(yI (Int.tmod (IntKind.wrap .i64 ((Int.tmod (IntKind.wrap .i64 (x6+t39)) (x7.len:Int))+1)) (x13.len:Int)))] (fun h5=>
 Call0 P zfk [(yP m),(yP x11)] (fun h6=>
 again (IntKind.wrap .i64 (t32+1)) h6) h5))
 else
 again1 (IntKind.wrap .i64 (t39+1)) h4))))
 else
 k h4)) 0 h3
 else
 k h3)) 0 h2)
 (fun h3=>
 NilW none m fun p4=>
 yLi h3 p4 9 fun x5=>
 NilW none m fun p5=>
 StW h3 (Addr.add p5 9) [(yI (IntKind.wrap .i64 (x5+1)))] (fun h4=>
 Q r h4))) h1)) h
def zcu (P:Program) (m:Option Addr) (p:Int) (v:Int) (Q:(Int->(Hp->Prop))) (h:Hp):Prop:=
 CallT P zir [(yP m),(yI p)] yH (fun r h1=>
 (if (r !=0)=true then
 Q r h1
 else
 NilW none m fun p1=>
 yLs h1 p1 11 fun x=>
 ((InB x.base x.len p)/\LdW none shPtr h1 (sat x.base 1 p) fun x1=>
 NilW none m fun p2=>
 yLs h1 p2 10 fun x2=>
 NilW none x1 fun p3=>
 yLp h1 p3 14 fun x3=>
 CallT P zis [(yP x3),(yI (x2.len:Int)),(yI v)] yH (fun r1 h2=>
 (if (r1 !=0)=true then
 NilW none x1 fun p4=>
 yLp h2 p4 14 fun x4=>
 Call0 P zfb [(yP x4),(yI (x2.len:Int))] (fun h3=>
 Q r1 h3) h2
 else
 Call0 P zcg [(yP m),(yP x1)] (fun h3=>
 Q 0 h3) h2)) h1))) h
def zee (P:Program)  (Q:(S_api_Config->(Hp->Prop))) (h:Hp):Prop:=
 NewW [(yI 1),(yI 0),(yI 0),(yI 0),(yI 1),(yI 1),(yI 1),(yI 0),(yI 0),(yI 5),(yI 24),(yI 2),(yI 0),(yI 1),(yI 0),(yI 0),(yI 0),(yI 0),(yI 0),(yI 0)] (fun a h1=>
 NewW [(yI 25),(yI 3),(yI 4),(yI 0),(yI 0),(yI 31),(yI 3),(yI 0),(yI 0),(yI 0),(yI 0),(yI 0),(yI 0),(yI 0),(yI 0)] (fun a1 h2=>
 NewW [(.int .u64 0),(.int .u64 1)] (fun a2 h3=>
 NewW [(yI 0),(yI 1)] (fun a3 h4=>
 NewW [(yI 0),(.slice (some a) 4 4),(yI 1),(.slice (some a1) 3 3)] (fun a4 h5=>
 Q ⟨⟨(some a2),2,2⟩,⟨(some a3),2,2⟩,2,1,1,4,⟨(some a4),2,2⟩⟩ h5) h4) h3) h2) h1) h
def zzk (P:Program) (c:S_api_Config) (Q:(Int->(Int->(Hp->Prop)))) (h:Hp):Prop:=
 Call2 P zql [c.Labels.v] yH yH (fun r r1 h1=>
 (if (r !=0)=true then
 Q r 0 h1
 else
 CallT P zwe [(yI (c.Table.len:Int)),(yI 64)] yH (fun r2 h2=>
 (if (r2 !=0)=true then
 Q r2 1 h2
 else
 Call3 P zqm [c.Table.v,(yI (c.Labels.len:Int))] shPtr yH yH (fun r3 r4 r5 h3=>
 (if (r4 !=0)=true then
 Q r4 1 h3
 else
 NewW [(yI 0),(yI 0),(yI c.Fuel),(yI c.Lane),(yI c.Locks),(yI c.Log)] (fun a h4=>
 LoopW1 (α1:=Int) (fun again t57 h5=>
 (if decide (t57<6) then
 ((InB (some a) 6 t57)/\LdW none yH h5 (sat (some a) 1 t57) fun x=>
 CallT P zyc [(yI t57),(yI x)] yH (fun r6 h6=>
 (if (r6 !=0)=true then
 Q r6 t57 h6
 else
 again (IntKind.wrap .i64 (t57+1)) h6)) h5)
 else
 CallT P zwe [(yI (c.Procs.len:Int)),(yI 32)] yH (fun r6 h6=>
 (if (r6 !=0)=true then
 Q r6 6 h6
 else
 LoopW1 (α1:=Int) (fun again1 t80 h7=>
 (if decide (t80<(c.Procs.len:Int)) then
 ((InB c.Procs.base c.Procs.len t80)/\LdW none sh_api_Proc h7 (sat c.Procs.base 2 t80) fun x=>
 CallT P zgt [(yI x.Part),(yI 0),(yI (IntKind.wrap .i64 ((c.Labels.len:Int)-1)))] zae (fun r7 h8=>
 (if (!r7)=true then
 Q 2 (IntKind.wrap .i64 (7+t80)) h8
 else
 Call2 P zzg [x.Code.v,(yI c.Locks)] yH yH (fun r8 r9 h9=>
 (if (r8 !=0)=true then
 Q r8 (IntKind.wrap .i64 (7+t80)) h9
 else
 again1 (IntKind.wrap .i64 (t80+1)) h9)) h8)) h7)
 else
 Q 0 0 h7)) 0 h6)) h5)) 0 h4) h3)) h2)) h1)) h
def zod (P:Program) (c:S_api_Config) (s:S_api_State) (Q:(Option Addr->(Hp->Prop))) (h:Hp):Prop:=
 CallT P zru [c.v] zbl (fun r h1=>
 ((True/\True)/\NewW [r.Labels.v,r.Table.v,(yI r.Fuel),(yI r.Lane),(yI r.Locks),(yI r.Log),r.Procs.v,(yP none),(yP none),(yI s.Tick),yN,yN] (fun a h2=>
 Call3 P zwd [c.Labels.v] shPtr yH yH (fun r1 r2 r3 h3=>
 NilW none (some a) fun p=>
 StW h3 (Addr.add p 7) [(yP r1)] (fun h4=>
 Call3 P zqm [c.Table.v,(yI (c.Labels.len:Int))] shPtr yH yH (fun r4 r5 r6 h5=>
 NilW none (some a) fun p1=>
 StW h5 (Addr.add p1 8) [(yP r4)] (fun h6=>
 LoopW1 (α1:=Int) (fun again t48 h7=>
 (if decide (t48<(s.Parts.len:Int)) then
 ((InB s.Parts.base s.Parts.len t48)/\LdW none sh_api_Part h7 (sat s.Parts.base 6 t48) fun x=>
 Call2 P zqn [x.Owners.v,x.Queues.v] shPtr yH (fun r7 r8 h8=>
 NilW none (some a) fun p2=>
 yLs h8 p2 10 fun x1=>
 CallT P zat [x.Log.v] shSl (fun r9 h9=>
 (((LdIs h9 (Addr.add p2 10) [x1.v])/\(True/\(True/\(True/\True))))/\CallT P zwf [] shPtr (fun r10 h10=>
 (((LdIs h10 (Addr.add p2 10) [x1.v])/\(True/\(True/\(True/\True))))/\NewW [yN,(yI x.Cursor),r9.v,(yI x.Lost),(yI x.Forbidden),(yP r7),(yP r10)] (fun a1 h11=>
 (((LdIs h11 (Addr.add p2 10) [x1.v])/\True)/\NewW [(yP (some a1))] (fun a2 h12=>
 (((LdIs h12 (Addr.add p2 10) [x1.v])/\True)/\zap 1 8 [(yP none)] x1 ⟨(some a2),1,1⟩ (fun r11 h13=>
 NilW none (some a) fun p3=>
 StW h13 (Addr.add p3 10) [r11.v] (fun h14=>
 again (IntKind.wrap .i64 (t48+1)) h14)) h12)) h11)) h10)) h9)) h8) h7)
 else
 LoopW1 (α1:=Int) (fun again1 t86 h8=>
 (if decide (t86<(s.Procs.len:Int)) then
 JoinW0 (fun k=>
 ((InB s.Procs.base s.Procs.len t86)/\LdW none sh_api_Process h8 (sat s.Procs.base 15 t86) fun x=>
 NilW none (some a) fun p2=>
 LdW none shSl h8 (Addr.add (Addr.add p2 0) 6) fun x1=>
 ((InB x1.base x1.len t86)/\LdW none sh_api_Proc h8 (sat x1.base 2 t86) fun x2=>
 Call2 P zuo [(yI c.Lane),x.Lanes.v,(yI x.Cursor)] shPtr yH (fun r7 r8 h9=>
 NilW none (some a) fun p3=>
 yLs h9 p3 11 fun x3=>
 NewW [(yI t86),(yI x2.Part),x2.Code.v,(yI x.State),(yI x.PC),(yI x.Regs_0),(yI x.Regs_1),(yI x.Regs_2),(yI x.Regs_3),(yI x.Regs_4),(yI x.Regs_5),(yI x.Regs_6),(yI x.Regs_7),(.bool x.Fired),(yP r7)] (fun a1 h10=>
 (((LdIs h10 (Addr.add p3 11) [x3.v])/\True)/\NewW [(yP (some a1))] (fun a2 h11=>
 (((LdIs h11 (Addr.add p3 11) [x3.v])/\True)/\zap 1 8 [(yP none)] x3 ⟨(some a2),1,1⟩ (fun r9 h12=>
 NilW none (some a) fun p4=>
 StW h12 (Addr.add p4 11) [r9.v] (fun h13=>
 NilW none (some a) fun p5=>
 yLs h13 p5 10 fun x4=>
 ((InB x4.base x4.len x2.Part)/\LdW none shPtr h13 (sat x4.base 1 x2.Part) fun x5=>
 NilW none x5 fun p6=>
 yLs h13 p6 0 fun x6=>
 NewW [(yI t86)] (fun a3 h14=>
 zap 1 8 [(yI 0)] x6 ⟨(some a3),1,1⟩ (fun r10 h15=>
 NilW none x5 fun p7=>
 StW h15 (Addr.add p7 0) [r10.v] (fun h16=>
 JoinW0 (fun k1=>
 (if decide (x.Timer>0) then
 NilW none x5 fun p8=>
 yLp h16 p8 6 fun x7=>
 CallT P zbh [(yI t86)] yH (fun r11 h17=>
 (((LdIs h17 (Addr.add p8 6) [(yP x7)])/\(True/\True))/\CallT P zaz [(yP x7),(yI r11),(yI x.Timer)] yH (fun r12 h18=>
 k1 h18) h17)) h16
 else
 k1 h16))
 (fun h17=>
 (if decide (x.Wake>0) then
 NilW none x5 fun p8=>
 yLp h17 p8 6 fun x7=>
 CallT P zcb [(yI t86)] yH (fun r11 h18=>
 (((LdIs h18 (Addr.add p8 6) [(yP x7)])/\(True/\True))/\CallT P zaz [(yP x7),(yI r11),(yI x.Wake)] yH (fun r12 h19=>
 k h19) h18)) h17
 else
 k h17)))) h14) h13))) h11)) h10)) h9) h8)))
 (fun h9=>
 again1 (IntKind.wrap .i64 (t86+1)) h9)
 else
 Q (some a) h8)) 0 h7)) 0 h6)) h4)) h2) h1)) h
def zmp (P:Program) (c:S_api_Config) (Q:(S_api_State->(Hp->Prop))) (h:Hp):Prop:=
 (MakeW 96 [(yI 0),yN,(yI 0),(yI 0),yN,yN] (c.Labels.len:Int) (c.Labels.len:Int) (fun r h1=>
 ((True/\True)/\MakeW 136 [(yI 0),(yI 0),(yI 0),(yI 0),(yI 0),(yI 0),(yI 0),(yI 0),(yI 0),(yI 0),(yI 0),(yI 0),(.bool false),(yI 0),yN] (c.Procs.len:Int) (c.Procs.len:Int) (fun r1 h2=>
 LoopW1 (α1:=Int) (fun again t18 h3=>
 (if decide (t18<(r.len:Int)) then
 JoinW0 (fun k=>
 (NewW [(yI (-1))] (fun a h4=>
 ((True/\(True/\(True/\(True/\True))))/\(CallT P zah [(.slice (some a) 1 1),(yI c.Locks)] shSl (fun r2 h5=>
 ((True/\(True/\(True/\True)))/\((InB r.base r.len t18)/\(MakeW 24 [yN] c.Locks c.Locks (fun r3 h6=>
 ((True/\(True/\True))/\StW h6 (Addr.add (sat r.base 6 t18) 4) [r2.v] (fun h7=>
 ((True/\True)/\((InB r.base r.len t18)/\StW h7 (Addr.add (sat r.base 6 t18) 5) [r3.v] (fun h8=>
 k h8)))))) h5/\StW h5 (Addr.add (sat r.base 6 t18) 4) [r2.v] (fun h6=>
 ((True/\(True/\True))/\MakeW 24 [yN] c.Locks c.Locks (fun r3 h7=>
 ((True/\(True/\True))/\((InB r.base r.len t18)/\StW h7 (Addr.add (sat r.base 6 t18) 5) [r3.v] (fun h8=>
 k h8)))) h6)))))) h4/\MakeW 24 [yN] c.Locks c.Locks (fun r2 h5=>
 ((True/\(True/\(True/\True)))/\CallT P zah [(.slice (some a) 1 1),(yI c.Locks)] shSl (fun r3 h6=>
 ((True/\(True/\(True/\True)))/\((InB r.base r.len t18)/\StW h6 (Addr.add (sat r.base 6 t18) 4) [r3.v] (fun h7=>
 ((True/\(True/\True))/\((InB r.base r.len t18)/\StW h7 (Addr.add (sat r.base 6 t18) 5) [r2.v] (fun h8=>
 k h8))))))) h5)) h4))) h3/\MakeW 24 [yN] c.Locks c.Locks (fun r2 h4=>
 ((True/\(True/\(True/\True)))/\NewW [(yI (-1))] (fun a h5=>
 ((True/\(True/\(True/\(True/\True))))/\CallT P zah [(.slice (some a) 1 1),(yI c.Locks)] shSl (fun r3 h6=>
 ((True/\(True/\(True/\True)))/\((InB r.base r.len t18)/\StW h6 (Addr.add (sat r.base 6 t18) 4) [r3.v] (fun h7=>
 ((True/\(True/\True))/\((InB r.base r.len t18)/\StW h7 (Addr.add (sat r.base 6 t18) 5) [r2.v] (fun h8=>
 k h8))))))) h5)) h4)) h3))
 (fun h4=>
 again (IntKind.wrap .i64 (t18+1)) h4)
 else
 LoopW1 (α1:=Int) (fun again1 t42 h4=>
 (if decide (t42<(r1.len:Int)) then
 MakeW 64 [yN,yN,(yI 0),(yI 0)] (IntKind.wrap .i64 ((c.Labels.len:Int)+1)) (IntKind.wrap .i64 ((c.Labels.len:Int)+1)) (fun r2 h5=>
 ((True/\True)/\((InB r1.base r1.len t42)/\StW h5 (Addr.add (sat r1.base 15 t42) 14) [r2.v] (fun h6=>
 again1 (IntKind.wrap .i64 (t42+1)) h6)))) h4
 else
 Q ⟨0,r,r1⟩ h4)) 0 h3)) 0 h2) h1)) h/\MakeW 136 [(yI 0),(yI 0),(yI 0),(yI 0),(yI 0),(yI 0),(yI 0),(yI 0),(yI 0),(yI 0),(yI 0),(yI 0),(.bool false),(yI 0),yN] (c.Procs.len:Int) (c.Procs.len:Int) (fun r h1=>
 ((True/\True)/\MakeW 96 [(yI 0),yN,(yI 0),(yI 0),yN,yN] (c.Labels.len:Int) (c.Labels.len:Int) (fun r1 h2=>
 ((True/\True)/\LoopW1 (α1:=Int) (fun again t18 h3=>
 (if decide (t18<(r1.len:Int)) then
 JoinW0 (fun k=>
 (NewW [(yI (-1))] (fun a h4=>
 ((True/\(True/\(True/\(True/\True))))/\(CallT P zah [(.slice (some a) 1 1),(yI c.Locks)] shSl (fun r2 h5=>
 ((True/\(True/\(True/\True)))/\((InB r1.base r1.len t18)/\(MakeW 24 [yN] c.Locks c.Locks (fun r3 h6=>
 ((True/\(True/\True))/\StW h6 (Addr.add (sat r1.base 6 t18) 4) [r2.v] (fun h7=>
 ((True/\True)/\((InB r1.base r1.len t18)/\StW h7 (Addr.add (sat r1.base 6 t18) 5) [r3.v] (fun h8=>
 k h8)))))) h5/\StW h5 (Addr.add (sat r1.base 6 t18) 4) [r2.v] (fun h6=>
 ((True/\(True/\True))/\MakeW 24 [yN] c.Locks c.Locks (fun r3 h7=>
 ((True/\(True/\True))/\((InB r1.base r1.len t18)/\StW h7 (Addr.add (sat r1.base 6 t18) 5) [r3.v] (fun h8=>
 k h8)))) h6)))))) h4/\MakeW 24 [yN] c.Locks c.Locks (fun r2 h5=>
 ((True/\(True/\(True/\True)))/\CallT P zah [(.slice (some a) 1 1),(yI c.Locks)] shSl (fun r3 h6=>
 ((True/\(True/\(True/\True)))/\((InB r1.base r1.len t18)/\StW h6 (Addr.add (sat r1.base 6 t18) 4) [r3.v] (fun h7=>
 ((True/\(True/\True))/\((InB r1.base r1.len t18)/\StW h7 (Addr.add (sat r1.base 6 t18) 5) [r2.v] (fun h8=>
 k h8))))))) h5)) h4))) h3/\MakeW 24 [yN] c.Locks c.Locks (fun r2 h4=>
 ((True/\(True/\(True/\True)))/\NewW [(yI (-1))] (fun a h5=>
 ((True/\(True/\(True/\(True/\True))))/\CallT P zah [(.slice (some a) 1 1),(yI c.Locks)] shSl (fun r3 h6=>
 ((True/\(True/\(True/\True)))/\((InB r1.base r1.len t18)/\StW h6 (Addr.add (sat r1.base 6 t18) 4) [r3.v] (fun h7=>
 ((True/\(True/\True))/\((InB r1.base r1.len t18)/\StW h7 (Addr.add (sat r1.base 6 t18) 5) [r2.v] (fun h8=>
 k h8))))))) h5)) h4)) h3))
 (fun h4=>
 again (IntKind.wrap .i64 (t18+1)) h4)
 else
 LoopW1 (α1:=Int) (fun again1 t42 h4=>
 (if decide (t42<(r.len:Int)) then
 MakeW 64 [yN,yN,(yI 0),(yI 0)] (IntKind.wrap .i64 ((c.Labels.len:Int)+1)) (IntKind.wrap .i64 ((c.Labels.len:Int)+1)) (fun r2 h5=>
 ((True/\True)/\((InB r.base r.len t42)/\StW h5 (Addr.add (sat r.base 15 t42) 14) [r2.v] (fun h6=>
 again1 (IntKind.wrap .i64 (t42+1)) h6)))) h4
 else
 Q ⟨0,r1,r⟩ h4)) 0 h3)) 0 h2)) h1)) h)
def zlh (P:Program) (c:S_api_Config) (Q:(S_api_Config->(Hp->Prop))) (h:Hp):Prop:=
 CallT P zda [c.Labels.v] shSl (fun r h1=>
 ((True/\(True/\True))/\CallT P zdf [c.Table.v] shSl (fun r1 h2=>
 ((True/\True)/\CallT P zdw [c.Procs.v] shSl (fun r2 h3=>
 LoopW1 (α1:=Int) (fun again t20 h4=>
 (if decide (t20<(r2.len:Int)) then
 ((InB r2.base r2.len t20)/\LdW none sh_api_Proc h4 (sat r2.base 2 t20) fun x=>
 CallT P zei [x.Code.v] shSl (fun r3 h5=>
 ((True/\True)/\((InB r2.base r2.len t20)/\StW h5 (Addr.add (sat r2.base 2 t20) 1) [r3.v] (fun h6=>
 again (IntKind.wrap .i64 (t20+1)) h6)))) h4)
 else
 Q ⟨r,r1,c.Fuel,c.Lane,c.Locks,c.Log,r2⟩ h4)) 0 h3) h2)) h1)) h
def zhs (P:Program) (l:Option Addr) (Q:(Sl->(Sl->(Hp->Prop)))) (h:Hp):Prop:=
 NilW none l fun p=>
 yLs h p 0 fun x=>
 LoopW3 (α1:=Sl) (α2:=Sl) (α3:=Int) (fun again owners queues t13 h1=>
 (if decide (t13<(x.len:Int)) then
 ((InB x.base x.len t13)/\LdW none sh_locks_lock h1 (sat x.base 2 t13) fun x1=>
 NewW [(yI x1.owner)] (fun a h2=>
 zap 1 8 [(yI 0)] ⟨owners.base,owners.len,owners.cap⟩ ⟨(some a),1,1⟩ (fun r h3=>
 CallT P zdf [x1.queue.v] shSl (fun r1 h4=>
 NewW [r1.v] (fun a1 h5=>
 zap 1 24 [yN] ⟨queues.base,queues.len,queues.cap⟩ ⟨(some a1),1,1⟩ (fun r2 h6=>
 again r r2 (IntKind.wrap .i64 (t13+1)) h6) h5) h4) h3) h2) h1)
 else
 Q ⟨owners.base,owners.len,owners.cap⟩ ⟨queues.base,queues.len,queues.cap⟩ h1)) ⟨none,0,0⟩ ⟨none,0,0⟩ 0 h
def zbu (P:Program) (s:Sl) (Q:(Sl->(Hp->Prop))) (h:Hp):Prop:=
 SemV none P (binS .eql 63 (.tmp 3) (.const yN) s.v yN) zae h fun x=>
 (if x then
 Q ⟨none,0,0⟩ h
 else
 NewW [] (fun a h1=>
 zap 3 24 [(yI 0),(yI 0),(yI 0)] ⟨(some a),0,0⟩ s (fun r h2=>
 Q r h2) h1) h)
def zkd (P:Program) (p:Option Addr) (Q:(Sl->(Int->(Hp->Prop)))) (h:Hp):Prop:=
 NilW none p fun p1=>
 yLs h p1 0 fun x=>
 LoopW2 (α1:=Sl) (α2:=Int) (fun again out t12 h1=>
 (if decide (t12<(x.len:Int)) then
 ((InB x.base x.len t12)/\LdW none shPtr h1 (sat x.base 1 t12) fun x1=>
 CallT P zjy [(yP x1)] sh_api_Lane (fun r h2=>
 NewW [r.Values.v,r.Waiters.v,(yI r.Taken),(yI r.Dropped)] (fun a h3=>
 zap 4 64 [yN,yN,(yI 0),(yI 0)] ⟨out.base,out.len,out.cap⟩ ⟨(some a),1,1⟩ (fun r1 h4=>
 again r1 (IntKind.wrap .i64 (t12+1)) h4) h3) h2) h1)
 else
 NilW none p fun p2=>
 yLi h1 p2 1 fun x1=>
 Q ⟨out.base,out.len,out.cap⟩ x1 h1)) ⟨none,0,0⟩ 0 h
def zgv (P:Program) (w:Option Addr) (id_:Int) (Q:(Int->(Bool->(Hp->Prop)))) (h:Hp):Prop:=
 NilW none w fun p=>
 LdW none shMap h (Addr.add p 1) fun x=>
 LookW none (.int .i64) sh_wheel_entry (.agg #[(yI 0),(yI 0)]) x (yI id_) h fun x1 ok=>
 Q x1.due ok h
def ziy (P:Program) (p:Int) (Q:(Int->(Hp->Prop))) (h:Hp):Prop:=
 Q (IntKind.wrap .i64 (2*p)) h
def ziz (P:Program) (p:Int) (Q:(Int->(Hp->Prop))) (h:Hp):Prop:=
 Q (IntKind.wrap .i64 ((IntKind.wrap .i64 (2*p))+1)) h
def zmq (P:Program) (l:Sl) (Q:(Option Addr->(Int->(Int->(Hp->Prop))))) (h:Hp):Prop:=
 Call2 P zql [l.v] yH yH (fun r r1 h1=>
 (if (r !=0)=true then
 Q none r r1 h1
 else
 CallT P zda [l.v] shSl (fun r2 h2=>
 zxq  (fun r3 h3=>
 NewW [r2.v,(.map r3)] (fun a h4=>
 NilW none (some a) fun p=>
 yLs h4 p 0 fun x=>
 LoopW1 (α1:=Int) (fun again t29 h5=>
 (if decide (t29<(x.len:Int)) then
 ((InB x.base x.len t29)/\LdW none (shInt .u64) h5 (sat x.base 1 t29) fun x1=>
 NilW none (some a) fun p1=>
 LdW none shMap h5 (Addr.add p1 1) fun x2=>
 zvt (.int .u64) x2 (.int .u64 x1) (yI t29) (fun h6=>
 again (IntKind.wrap .i64 (t29+1)) h6) h5)
 else
 Q (some a) 0 0 h5)) 0 h4) h3) h2) h1)) h
def zht (P:Program) (s:Option Addr) (t:Int) (Q:(Int->(Hp->Prop))) (h:Hp):Prop:=
 (if decide (t<0) then
 Q (-1) h
 else
 NilW none s fun p=>
 yLs h p 0 fun x=>
 NilW none s fun p1=>
 yLs h p1 0 fun x1=>
 ((x1.len:Int)≠0/\((InB x.base x.len (Int.tmod t (x1.len:Int)))/\LdW none yH h (sat x.base 1 (Int.tmod t (x1.len:Int))) fun x2=>
 Q x2 h)))
def zgi (P:Program) (m:Option Addr) (x:Option Addr) (Q:(Hp->Prop)) (h:Hp):Prop:=
 NilW none x fun p=>
 yLp h p 6 fun x1=>
 NilW none m fun p1=>
 yLi h p1 9 fun x2=>
 CallT P zpc [(yP x1),(yI x2)] shSl (fun r h1=>
 LoopW1 (α1:=Int) (fun again t17 h2=>
 (if decide (t17<(r.len:Int)) then
 JoinW0 (fun k=>
 ((InB r.base r.len t17)/\LdW none yH h2 (sat r.base 1 t17) fun x3=>
 NilW none m fun p2=>
 yLs h2 p2 11 fun x4=>
 ((2:Int)≠(0:Int)/\((InB x4.base x4.len (IntKind.wrap .i64 (Int.tdiv x3 (2:Int))))/\LdW none shPtr h2 (sat x4.base 1 (IntKind.wrap .i64 (Int.tdiv x3 (2:Int)))) fun x5=>
 NilW none x5 fun p3=>
 yLi h2 p3 0 fun x6=>
 CallT P zcb [(yI x6)] yH (fun r1 h3=>
 (if (x3==r1)=true then
 NilW none x5 fun p4=>
 LdW none zad h3 (Addr.add p4 4) fun x7=>
 CallT P zfj [x7.v] zad (fun r2 h4=>
 Call0 P zch [(yP m),(yP x5),r2.v] (fun h5=>
 k h5) h4) h3
 else
 NilW none x5 fun p4=>
 StW h3 (Addr.add p4 13) [(.bool true)] (fun h4=>
 NilW none x5 fun p5=>
 yLi h4 p5 3 fun x7=>
 (if (x7==(1:Int))=true then
 NilW none x5 fun p6=>
 StW h4 (Addr.add p6 3) [(yI (0:Int))] (fun h5=>
 k h5)
 else
 k h4)))) h2))))
 (fun h3=>
 again (IntKind.wrap .i64 (t17+(1:Int))) h3)
 else
 Q h2)) (0:Int) h1) h
def zfo (P:Program) (m:Option Addr) (p:Option Addr) (Q:(Hp->Prop)) (h:Hp):Prop:=
 NilW none p fun p1=>
 LdW none zad h (Addr.add p1 4) fun x=>
 NilW none p fun p2=>
 yLs h p2 2 fun x1=>
 NilW none m fun p3=>
 yLi h p3 9 fun x2=>
 NilW none p fun p4=>
 yLi h p4 0 fun x3=>
 Call2 P zzh [x.v,x1.v,(yI x2),(yI x3)] zad zhq (fun r r1 h1=>
 NilW none p fun p5=>
 StW h1 (Addr.add p5 4) [(yI r.PC),(yI r.Regs_0),(yI r.Regs_1),(yI r.Regs_2),(yI r.Regs_3),(yI r.Regs_4),(yI r.Regs_5),(yI r.Regs_6),(yI r.Regs_7)] (fun h2=>
 NilW none m fun p6=>
 yLs h2 p6 10 fun x4=>
 NilW none p fun p7=>
 yLi h2 p7 1 fun x5=>
 ((InB x4.base x4.len x5)/\LdW none shPtr h2 (sat x4.base 1 x5) fun x6=>
 (if (r1.Kind==1)=true then
 Call0 P zfl [(yP m),(yP p),(yI 5)] (fun h3=>
 Q h3) h2
 else
 (if (r1.Kind==2)=true then
 Call0 P zem [(yP m),(yP p),(yI r1.To),(yI r1.Value_)] (fun h3=>
 Q h3) h2
 else
 JoinW1 (α1:=Bool) (fun k=>
 (if (r1.Kind==3)=true then
 k (r1.Kind==3) h2
 else
 k (r1.Kind==4) h2))
 (fun t61 h3=>
 (if t61 then
 Call0 P zen [(yP m),(yP p),(.bool (r1.Kind==4))] (fun h4=>
 Q h4) h3
 else
 (if (r1.Kind==5)=true then
 NilW none p fun p8=>
 StW h3 (Addr.add p8 13) [(.bool false)] (fun h4=>
 NilW none x6 fun p9=>
 yLp h4 p9 6 fun x7=>
 NilW none p fun p10=>
 yLi h4 p10 0 fun x8=>
 CallT P zbh [(yI x8)] yH (fun r2 h5=>
 (((LdIs h5 (Addr.add p9 6) [(yP x7)])/\True)/\CallT P zbo [(yP x7),(yI r2)] zae (fun r3 h6=>
 (if decide (r1.Value_>0) then
 NilW none x6 fun p11=>
 yLp h6 p11 6 fun x9=>
 NilW none p fun p12=>
 yLi h6 p12 0 fun x10=>
 NilW none m fun p13=>
 yLi h6 p13 9 fun x11=>
 CallT P zbh [(yI x10)] yH (fun r4 h7=>
 (((LdIs h7 (Addr.add p11 6) [(yP x9)])/\((LdIs h7 (Addr.add p13 9) [(yI x11)])/\(True/\True)))/\CallT P zaz [(yP x9),(yI r4),(yI (IntKind.wrap .i64 (x11+(min2I r1.Value_ 1099511627776))))] yH (fun r5 h8=>
 Q h8) h7)) h6
 else
 Q h6)) h5)) h4)
 else
 (if (r1.Kind==6)=true then
 NilW none x6 fun p8=>
 yLp h3 p8 6 fun x7=>
 NilW none p fun p9=>
 yLi h3 p9 0 fun x8=>
 NilW none m fun p10=>
 yLi h3 p10 9 fun x9=>
 CallT P zcb [(yI x8)] yH (fun r2 h4=>
 (((LdIs h4 (Addr.add p8 6) [(yP x7)])/\((LdIs h4 (Addr.add p10 9) [(yI x9)])/\(True/\True)))/\CallT P zaz [(yP x7),(yI r2),(yI (IntKind.wrap .i64 (x9+(min2I (max2I r1.Value_ 1) 1099511627776))))] yH (fun r3 h5=>
 NilW none p fun p11=>
 StW h5 (Addr.add p11 3) [(yI 4)] (fun h6=>
 Q h6)) h4)) h3
 else
 (if (r1.Kind==7)=true then
 NilW none x6 fun p8=>
 yLp h3 p8 5 fun x7=>
 NilW none p fun p9=>
 yLi h3 p9 0 fun x8=>
 Call2 P zfu [(yP x7),(yI r1.To),(yI x8)] zae yH (fun r2 r3 h4=>
 (if r2 then
 NilW none p fun p10=>
 LdW none zad h4 (Addr.add p10 4) fun x9=>
 CallT P zfj [x9.v] zad (fun r4 h5=>
 NilW none p fun p11=>
 StW h5 (Addr.add p11 4) [(yI r4.PC),(yI r4.Regs_0),(yI r4.Regs_1),(yI r4.Regs_2),(yI r4.Regs_3),(yI r4.Regs_4),(yI r4.Regs_5),(yI r4.Regs_6),(yI r4.Regs_7)] (fun h6=>
 Q h6)) h4
 else
 NilW none p fun p10=>
 StW h4 (Addr.add p10 3) [(yI 3)] (fun h5=>
 Q h5))) h3
 else
 (if (r1.Kind==8)=true then
 NilW none x6 fun p8=>
 yLp h3 p8 5 fun x7=>
 NilW none p fun p9=>
 yLi h3 p9 0 fun x8=>
 CallT P zeo [(yP x7),(yI x8)] shSl (fun r2 h4=>
 ((True/\True)/\CallT P zcl [r2.v,(yI r1.To)] zae (fun r3 h5=>
 (if r3 then
 NilW none x6 fun p10=>
 yLp h5 p10 5 fun x9=>
 NilW none p fun p11=>
 yLi h5 p11 0 fun x10=>
 Call2 P zdo [(yP x9),(yI r1.To),(yI x10)] yH yH (fun r4 r5 h6=>
 Call0 P zay [(yP m),(yI r4)] (fun h7=>
 Q h7) h6) h5
 else
 Q h5)) h4)) h3
 else
 (if (r1.Kind==9)=true then
 NilW none x6 fun p8=>
 yLs h3 p8 2 fun x7=>
 NilW none m fun p9=>
 LdW none yH h3 (Addr.add (Addr.add p9 0) 5) fun x8=>
 (if decide ((x7.len:Int)<x8) then
 NilW none x6 fun p10=>
 yLs h3 p10 2 fun x9=>
 NilW none m fun p11=>
 yLi h3 p11 9 fun x10=>
 NilW none p fun p12=>
 yLi h3 p12 0 fun x11=>
 NewW [(yI x10),(yI x11),(yI r1.Value_)] (fun a h4=>
 (((LdIs h4 (Addr.add p10 2) [x9.v])/\True)/\zap 3 24 [(yI 0),(yI 0),(yI 0)] x9 ⟨(some a),1,1⟩ (fun r2 h5=>
 NilW none x6 fun p13=>
 StW h5 (Addr.add p13 2) [r2.v] (fun h6=>
 Q h6)) h4)) h3
 else
 NilW none x6 fun p10=>
 yLi h3 p10 3 fun x9=>
 CallT P zks [(yI x9)] yH (fun r2 h4=>
 NilW none x6 fun p11=>
 StW h4 (Addr.add p11 3) [(yI r2)] (fun h5=>
 Q h5)) h3)
 else
 Q h3)))))))))))) h
def zer (P:Program) (m:Option Addr) (p:Int) (Q:(Int->(Hp->Prop))) (h:Hp):Prop:=
 NilW (some (!(decide (p<0)))) m fun p1=>
 LdW (some (!(decide (p<0)))) shSl h (Addr.add p1 11) fun x=>
 LetW ((decide (p<0)) || (decide (p>=(x.len:Int)))) fun y=>
 (if y then
 Q 17 h
 else
 NilW none m fun p2=>
 yLs h p2 11 fun x1=>
 ((InB x1.base x1.len p)/\LdW none shPtr h (sat x1.base 1 p) fun x2=>
 NilW none x2 fun p3=>
 yLi h p3 3 fun x3=>
 CallT P zit [(yI x3)] zae (fun r h1=>
 (if (!r)=true then
 Q 18 h1
 else
 Q 0 h1)) h))
def zja (P:Program) (p:Option Addr) (lane:Int) (v:Int) (Q:(Int->(Hp->Prop))) (h:Hp):Prop:=
 CallT P zgu [(yP p),(yI lane)] zae (fun r h1=>
 (if (!r)=true then
 Q 2 h1
 else
 NilW none p fun p1=>
 yLs h1 p1 0 fun x=>
 ((InB x.base x.len lane)/\LdW none shPtr h1 (sat x.base 1 lane) fun x1=>
 CallT P ztc [(yP x1),(yI v)] yH (fun r1 h2=>
 Q r1 h2) h1))) h
def zhn (P:Program) (p:Option Addr) (lane:Int) (Q:(Hp->Prop)) (h:Hp):Prop:=
 CallT P zgu [(yP p),(yI lane)] zae (fun r h1=>
 (if r then
 NilW none p fun p1=>
 yLs h1 p1 0 fun x=>
 ((InB x.base x.len lane)/\LdW none shPtr h1 (sat x.base 1 lane) fun x1=>
 Call0 P zlc [(yP x1)] (fun h2=>
 Q h2) h1)
 else
 Q h1)) h
def zfp (P:Program) (m:Option Addr) (q:Option Addr) (Q:(Hp->Prop)) (h:Hp):Prop:=
 NilW none q fun p=>
 yLi h p 3 fun x=>
 (if (x==1)=true then
 NilW none q fun p1=>
 StW h (Addr.add p1 3) [(yI 0)] (fun h1=>
 Q h1)
 else
 Q h)
def zfq (P:Program) (m:Option Addr) (p:Option Addr) (state:Int) (Q:(Hp->Prop)) (h:Hp):Prop:=
 NilW none m fun p1=>
 yLs h p1 10 fun x=>
 NilW none p fun p2=>
 yLi h p2 1 fun x1=>
 ((InB x.base x.len x1)/\LdW none shPtr h (sat x.base 1 x1) fun x2=>
 NilW none p fun p3=>
 StW h (Addr.add p3 3) [(yI state)] (fun h1=>
 NilW none p fun p4=>
 StW h1 (Addr.add p4 13) [(.bool false)] (fun h2=>
 NilW none x2 fun p5=>
 yLs h2 p5 0 fun x3=>
 LoopW1 (α1:=Int) (fun again t35 h3=>
 (if decide (t35<(x3.len:Int)) then
 ((InB x3.base x3.len t35)/\LdW none yH h3 (sat x3.base 1 t35) fun x4=>
 NilW none m fun p6=>
 yLs h3 p6 11 fun x5=>
 ((InB x5.base x5.len x4)/\LdW none shPtr h3 (sat x5.base 1 x4) fun x6=>
 NilW none x6 fun p7=>
 yLp h3 p7 14 fun x7=>
 NilW none p fun p8=>
 yLi h3 p8 0 fun x8=>
 CallT P zjz [(yP x7),(yI x8)] zae (fun r h4=>
 again (IntKind.wrap .i64 (t35+1)) h4) h3))
 else
 NilW none x2 fun p6=>
 yLp h3 p6 5 fun x4=>
 NilW none p fun p7=>
 yLi h3 p7 0 fun x5=>
 CallT P zpd [(yP x4),(yI x5)] shSl (fun r h4=>
 LoopW1 (α1:=Int) (fun again1 t65 h5=>
 (if decide (t65<(r.len:Int)) then
 ((InB r.base r.len t65)/\LdW none zkr h5 (sat r.base 2 t65) fun x6=>
 Call0 P zay [(yP m),(yI x6.Proc)] (fun h6=>
 again1 (IntKind.wrap .i64 (t65+1)) h6) h5)
 else
 NilW none x2 fun p8=>
 yLp h5 p8 6 fun x6=>
 NilW none p fun p9=>
 yLi h5 p9 0 fun x7=>
 CallT P zbh [(yI x7)] yH (fun r1 h6=>
 (((LdIs h6 (Addr.add p8 6) [(yP x6)])/\True)/\CallT P zbo [(yP x6),(yI r1)] zae (fun r2 h7=>
 NilW none x2 fun p10=>
 yLp h7 p10 6 fun x8=>
 NilW none p fun p11=>
 yLi h7 p11 0 fun x9=>
 CallT P zcb [(yI x9)] yH (fun r3 h8=>
 (((LdIs h8 (Addr.add p10 6) [(yP x8)])/\True)/\CallT P zbo [(yP x8),(yI r3)] zae (fun r4 h9=>
 NilW none p fun p12=>
 yLp h9 p12 14 fun x10=>
 CallT P ztd [(yP x10)] shSl (fun r5 h10=>
 LoopW1 (α1:=Int) (fun again2 t100 h11=>
 (if decide (t100<(r5.len:Int)) then
 ((InB r5.base r5.len t100)/\LdW none sh_api_Waiter h11 (sat r5.base 2 t100) fun x11=>
 NilW none m fun p13=>
 yLs h11 p13 11 fun x12=>
 ((InB x12.base x12.len x11.Proc)/\LdW none shPtr h11 (sat x12.base 1 x11.Proc) fun x13=>
 Call0 P zal [(yP m),(yP x13),(yI 2)] (fun h12=>
 again2 (IntKind.wrap .i64 (t100+1)) h12) h11))
 else
 Q h11)) 0 h10) h9) h8)) h7) h6)) h5)) 0 h4) h3)) 0 h2)))
def zmr (P:Program) (l:Sl) (Q:(Int->(Int->(Hp->Prop)))) (h:Hp):Prop:=
 (if ((l.len:Int)==0)=true then
 Q 1 0 h
 else
 (if decide ((l.len:Int)>8) then
 Q 3 8 h
 else
 LoopW1 (α1:=Int) (fun again i h1=>
 (if decide (i<(l.len:Int)) then
 ((InB l.base l.len i)/\LdW none (shInt .u64) h1 (sat l.base 1 i) fun x=>
 ((InB l.base l.len (IntKind.wrap .i64 (i-1)))/\LdW none (shInt .u64) h1 (sat l.base 1 (IntKind.wrap .i64 (i-1))) fun x1=>
 (if (x==x1)=true then
 Q 8 i h1
 else
 ((InB l.base l.len i)/\LdW none (shInt .u64) h1 (sat l.base 1 i) fun x2=>
 ((InB l.base l.len (IntKind.wrap .i64 (i-1)))/\LdW none (shInt .u64) h1 (sat l.base 1 (IntKind.wrap .i64 (i-1))) fun x3=>
 (if decide (x2<x3) then
 Q 7 i h1
 else
 again (IntKind.wrap .i64 (i+1)) h1))))))
 else
 Q 0 0 h1)) 1 h))
def zwj (P:Program) (n:Int) (most:Int) (Q:(Int->(Hp->Prop))) (h:Hp):Prop:=
 (if (n==0)=true then
 Q 1 h
 else
 (if decide (n>most) then
 Q 3 h
 else
 Q 0 h))
def zms (P:Program) (table:Sl) (parts:Int) (Q:(Option Addr->(Int->(Int->(Hp->Prop))))) (h:Hp):Prop:=
 NewW [(yI parts)] (fun a h1=>
 LdW none yH h1 a fun x=>
 LdW (some (!(decide (x<1)))) yH h1 a fun x1=>
 LetW ((decide (x<1)) || (decide (x1>8))) fun y=>
 LetW (y || ((table.len:Int)==0)) fun y1=>
 (if y1 then
 Q none 1 0 h1
 else
 (if decide ((table.len:Int)>64) then
 Q none 3 64 h1
 else
 CallT P zhb [table.v,(.func (.func 131) #[] #[(yP (some a))])] yH (fun r h2=>
 (if decide (r>=0) then
 Q none 2 r h2
 else
 LdW none yH h2 a fun x2=>
 CallT P zdf [table.v] shSl (fun r1 h3=>
 (((LdIs h3 a [(yI x2)])/\True)/\NewW [r1.v,(yI x2)] (fun a1 h4=>
 Q (some a1) 0 0 h4) h3)) h2)) h1))) h
def zqq (P:Program) (part:Int) (n:Int) (Q:(Int->(Hp->Prop))) (h:Hp):Prop:=
 (if (part==2)=true then
 CallT P zgt [(yI n),(yI 1),(yI 256)] zae (fun r h1=>
 (if (!r)=true then
 Q 2 h1
 else
 Q 0 h1)) h
 else
 (if (part==3)=true then
 CallT P zgt [(yI n),(yI 1),(yI 64)] zae (fun r h1=>
 (if (!r)=true then
 Q 2 h1
 else
 Q 0 h1)) h
 else
 (if (part==4)=true then
 CallT P zgt [(yI n),(yI 0),(yI 8)] zae (fun r h1=>
 (if (!r)=true then
 Q 2 h1
 else
 Q 0 h1)) h
 else
 (if (part==5)=true then
 CallT P zgt [(yI n),(yI 0),(yI 4096)] zae (fun r h1=>
 (if (!r)=true then
 Q 2 h1
 else
 Q 0 h1)) h
 else
 Q 0 h))))
def zqr (P:Program) (n:Int) (from_:Int) (to:Int) (Q:(Bool->(Hp->Prop))) (h:Hp):Prop:=
 LetW ((decide (n>=from_))&&(decide (n<=to))) fun y=>
 Q y h
def zzl (P:Program) (l:Sl) (locks:Int) (Q:(Int->(Int->(Hp->Prop)))) (h:Hp):Prop:=
 LetW ((decide (locks<0)) || (decide (locks>8))) fun y=>
 (if y then
 Q 1 0 h
 else
 (if decide ((l.len:Int)>256) then
 Q 3 256 h
 else
 LoopW1 (α1:=Int) (fun again t22 h1=>
 (if decide (t22<(l.len:Int)) then
 ((InB l.base l.len t22)/\LdW none sh_api_Ins h1 (sat l.base 5 t22) fun x=>
 CallT P zte [x.v,(yI (l.len:Int)),(yI locks)] yH (fun r h2=>
 (if (r !=0)=true then
 Q r t22 h2
 else
 again (IntKind.wrap .i64 (t22+1)) h2)) h1)
 else
 Q 0 0 h1)) 0 h))
def zwk (P:Program) (owners:Sl) (queues:Sl) (Q:(Option Addr->(Int->(Hp->Prop)))) (h:Hp):Prop:=
 LetW ((decide ((owners.len:Int)>8)) || (decide ((queues.len:Int)>8))) fun y=>
 (if y then
 Q none 3 h
 else
 (if ((owners.len:Int) !=(queues.len:Int))=true then
 Q none 4 h
 else
 NewW [yN] (fun a h1=>
 LoopW1 (α1:=Int) (fun again t30 h2=>
 (if decide (t30<(owners.len:Int)) then
 ((InB owners.base owners.len t30)/\LdW none yH h2 (sat owners.base 1 t30) fun x=>
 ((((!(decide (x<(-1))))&&(x==(-1)))=true->(InB queues.base queues.len t30))/\LdW (some ((!(decide (x<(-1))))&&(x==(-1)))) shSl h2 (sat queues.base 1 t30) fun x1=>
 LetW ((x==(-1))&&(decide ((x1.len:Int)>0))) fun y1=>
 LetW ((decide (x<(-1))) || y1) fun y2=>
 (if y2 then
 Q none 4 h2
 else
 NilW none (some a) fun p=>
 yLs h2 p 0 fun x2=>
 NewW [(yI x),yN] (fun a1 h3=>
 zap 2 32 [(yI 0),yN] x2 ⟨(some a1),1,1⟩ (fun r h4=>
 NilW none (some a) fun p1=>
 StW h4 (Addr.add p1 0) [r.v] (fun h5=>
 ((InB queues.base queues.len t30)/\LdW none shSl h5 (sat queues.base 1 t30) fun x3=>
 LoopW1 (α1:=Int) (fun again1 t65 h6=>
 (if decide (t65<(x3.len:Int)) then
 ((InB x3.base x3.len t65)/\LdW none yH h6 (sat x3.base 1 t65) fun x4=>
 Call2 P zep [(yP (some a)),(yI x4)] yH zae (fun r1 r2 h7=>
 LetW (r2 || (decide (x4<0))) fun y3=>
 LetW (y3 || (x4==x)) fun y4=>
 (if y4 then
 Q none 4 h7
 else
 NilW none (some a) fun p2=>
 yLs h7 p2 0 fun x5=>
 NilW none (some a) fun p3=>
 yLs h7 p3 0 fun x6=>
 ((InB x6.base x6.len t30)/\LdW none shSl h7 (Addr.add (sat x6.base 2 t30) 1) fun x7=>
 NewW [(yI x4)] (fun a2 h8=>
 (((LdIs h8 (Addr.add p2 0) [x5.v])/\((LdIs h8 (Addr.add p3 0) [x6.v])/\((LdIs h8 (Addr.add (sat x6.base 2 t30) 1) [x7.v])/\True)))/\zap 1 8 [(yI 0)] x7 ⟨(some a2),1,1⟩ (fun r3 h9=>
 (((LdIs h9 (Addr.add p2 0) [x5.v])/\True)/\((InB x5.base x5.len t30)/\StW h9 (Addr.add (sat x5.base 2 t30) 1) [r3.v] (fun h10=>
 again1 (IntKind.wrap .i64 (t65+1)) h10)))) h8)) h7))) h6)
 else
 again (IntKind.wrap .i64 (t30+1)) h6)) 0 h5))) h3) h2)))
 else
 Q (some a) 0 h2)) 0 h1) h))
def zqs (P:Program)  (Q:(Option Addr->(Hp->Prop))) (h:Hp):Prop:=
 zxq  (fun r h1=>
 NewW [yN,(.map r)] (fun a h2=>
 Q (some a) h2) h1) h
def zzm (P:Program) (room:Int) (l:Sl) (cursor:Int) (Q:(Option Addr->(Int->(Hp->Prop)))) (h:Hp):Prop:=
 LetW ((decide ((l.len:Int)<1)) || (decide ((l.len:Int)>9))) fun y=>
 LetW (y || (decide (room<1))) fun y1=>
 LetW (y1 || (decide (room>64))) fun y2=>
 (if y2 then
 Q none 1 h
 else
 LetW ((decide (cursor<0)) || (decide (cursor>=(l.len:Int)))) fun y3=>
 (if y3 then
 Q none 2 h
 else
 NewW [yN,(yI cursor)] (fun a h1=>
 LoopW1 (α1:=Int) (fun again t44 h2=>
 (if decide (t44<(l.len:Int)) then
 ((InB l.base l.len t44)/\LdW none sh_api_Lane h2 (sat l.base 4 t44) fun x=>
 Call2 P zzi [(yI room),x.v] shPtr yH (fun r r1 h3=>
 (if (r1 !=0)=true then
 Q none 4 h3
 else
 NilW none (some a) fun p=>
 yLs h3 p 0 fun x1=>
 NewW [(yP r)] (fun a1 h4=>
 zap 1 8 [(yP none)] x1 ⟨(some a1),1,1⟩ (fun r2 h5=>
 NilW none (some a) fun p1=>
 StW h5 (Addr.add p1 0) [r2.v] (fun h6=>
 again (IntKind.wrap .i64 (t44+1)) h6)) h4) h3)) h2)
 else
 Q (some a) 0 h2)) 0 h1) h))
def zgw (P:Program) (w:Option Addr) (id_:Int) (due:Int) (Q:(Int->(Hp->Prop))) (h:Hp):Prop:=
 LetW ((decide (id_<0)) || (decide (due<0))) fun y=>
 (if y then
 Q 1 h
 else
 CallT P zbo [(yP w),(yI id_)] zae (fun r h1=>
 NilW none w fun p=>
 yLs h1 p 0 fun x=>
 Call2 P zai [x.v,(.agg #[(yI due),(yI id_)]),(.func (.func 136) #[] #[])] yH zae (fun r1 r2 h2=>
 NilW none w fun p1=>
 yLs h2 p1 0 fun x1=>
 NewW [(yI due),(yI id_)] (fun a h3=>
 (((LdIs h3 (Addr.add p1 0) [x1.v])/\True)/\CallT P zbc [x1.v,(yI r1),(.slice (some a) 1 1)] shSl (fun r3 h4=>
 NilW none w fun p2=>
 StW h4 (Addr.add p2 0) [r3.v] (fun h5=>
 NilW none w fun p3=>
 LdW none shMap h5 (Addr.add p3 1) fun x2=>
 zvt (.int .i64) x2 (yI id_) (.agg #[(yI due),(yI id_)]) (fun h6=>
 Q 0 h6) h5)) h3)) h2) h1) h)
def zes (P:Program) (x:Sl) (count:Int) (Q:(Sl->(Hp->Prop))) (h:Hp):Prop:=
 JoinW0 (fun k=>
 (if decide (count<0) then
 False
 else
 k h))
 (fun h1=>
 Call2 P zmm [(.int .u64 (IntKind.wrap .u64 (x.len:Int))),(.int .u64 (IntKind.wrap .u64 count))] (shInt .u64) (shInt .u64) (fun r r1 h2=>
 JoinW0 (fun k=>
 LetW ((decide (r>0)) || (decide (r1>9223372036854775807))) fun y=>
 (if y then
 False
 else
 k h2))
 (fun h3=>
 MakeW 8 [(yI 0)] (IntKind.wrap .i64 r1) (IntKind.wrap .i64 r1) (fun r2 h4=>
 CopyW 1 r2 x (fun r3 h5=>
 LoopW1 (α1:=Int) (fun again n h6=>
 (if decide (n<(r2.len:Int)) then
 ((0<=n/\n<=(r2.len:Int))/\LetW (α:=Sl) ⟨(sbase r2.base 1 (Int.toNat n) r2.cap),(r2.len-(Int.toNat n)),(r2.cap-(Int.toNat n))⟩ fun y=>
 ((0<=n/\n<=(r2.cap:Int))/\LetW (α:=Sl) ⟨(sbase r2.base 1 0 r2.cap),((Int.toNat n)-0),(r2.cap-0)⟩ fun y1=>
 CopyW 1 y y1 (fun r4 h7=>
 again (IntKind.wrap .i64 (n+r4)) h7) h6))
 else
 Q r2 h6)) r3 h5) h4) h3)) h1)
def zbs (P:Program) (s:Sl) (Q:(Sl->(Hp->Prop))) (h:Hp):Prop:=
 SemV none P (binS .eql 23 (.tmp 3) (.const yN) s.v yN) zae h fun x=>
 (if x then
 Q ⟨none,0,0⟩ h
 else
 NewW [] (fun a h1=>
 zap 1 8 [(.int .u64 0)] ⟨(some a),0,0⟩ s (fun r h2=>
 Q r h2) h1) h)
def zbe (P:Program) (s:Sl) (Q:(Sl->(Hp->Prop))) (h:Hp):Prop:=
 SemV none P (binS .eql 24 (.tmp 3) (.const yN) s.v yN) zae h fun x=>
 (if x then
 Q ⟨none,0,0⟩ h
 else
 NewW [] (fun a h1=>
 zap 1 8 [(yI 0)] ⟨(some a),0,0⟩ s (fun r h2=>
 Q r h2) h1) h)
def zdy (P:Program) (s:Sl) (Q:(Sl->(Hp->Prop))) (h:Hp):Prop:=
 SemV none P (binS .eql 25 (.tmp 3) (.const yN) s.v yN) zae h fun x=>
 (if x then
 Q ⟨none,0,0⟩ h
 else
 NewW [] (fun a h1=>
 zap 2 32 [(yI 0),yN] ⟨(some a),0,0⟩ s (fun r h2=>
 Q r h2) h1) h)
def zej (P:Program) (s:Sl) (Q:(Sl->(Hp->Prop))) (h:Hp):Prop:=
 SemV none P (binS .eql 77 (.tmp 3) (.const yN) s.v yN) zae h fun x=>
 (if x then
 Q ⟨none,0,0⟩ h
 else
 NewW [] (fun a h1=>
 zap 5 40 [(yI 0),(yI 0),(yI 0),(yI 0),(yI 0)] ⟨(some a),0,0⟩ s (fun r h2=>
 Q r h2) h1) h)
def zke (P:Program) (l:Option Addr) (Q:(S_api_Lane->(Hp->Prop))) (h:Hp):Prop:=
 NilW none l fun p=>
 yLs h p 1 fun x=>
 NilW none l fun p1=>
 yLs h p1 2 fun x1=>
 NilW none l fun p2=>
 yLi h p2 3 fun x2=>
 NilW none l fun p3=>
 yLi h p3 4 fun x3=>
 CallT P zdi [x.v] shSl (fun r h1=>
 (((LdIs h1 (Addr.add p1 2) [x1.v])/\((LdIs h1 (Addr.add p2 3) [(yI x2)])/\((LdIs h1 (Addr.add p3 4) [(yI x3)])/\True)))/\CallT P zbi [x1.v] shSl (fun r1 h2=>
 (((LdIs h2 (Addr.add p2 3) [(yI x2)])/\((LdIs h2 (Addr.add p3 4) [(yI x3)])/\True))/\Q ⟨r,r1,x2,x3⟩ h2)) h1)) h
def zmt (P:Program) (state:Int) (Q:(Bool->(Hp->Prop))) (h:Hp):Prop:=
 LetW ((state !=5)&&(state !=6)) fun y=>
 Q y h
def zhu (P:Program) (t:Option Addr) (i:Int) (j:Int) (Q:(Bool->(Hp->Prop))) (h:Hp):Prop:=
 CallT P zld [(yP t),(yI i)] zae (fun r h1=>
 EffC (some r) (CallT P zld [(yP t),(yI j)] zae) (fun r1 h2=>
 LetW (r&&r1) fun y=>
 NilW (some y) t fun p=>
 LdW (some y) shSl h2 (Addr.add p 0) fun x=>
 ((y=true->(InB x.base x.len i))/\LdW (some y) (shInt .u64) h2 (sat x.base 1 i) fun x1=>
 NilW (some y) t fun p1=>
 LdW (some y) shSl h2 (Addr.add p1 0) fun x2=>
 ((y=true->(InB x2.base x2.len j))/\LdW (some y) (shInt .u64) h2 (sat x2.base 1 j) fun x3=>
 EffC (some y) (CallT P zyd [(.int .u64 x1),(.int .u64 x3)] zae) (fun r2 h3=>
 LetW (y&&r2) fun y1=>
 Q y1 h3) h2))) h1) h
def zgx (P:Program) (w:Option Addr) (now:Int) (Q:(Sl->(Hp->Prop))) (h:Hp):Prop:=
 LoopW1 (α1:=Sl) (fun again out h1=>
 NilW none w fun p=>
 yLs h1 p 0 fun x=>
 NilW (some (decide ((x.len:Int)>0))) w fun p1=>
 LdW (some (decide ((x.len:Int)>0))) shSl h1 (Addr.add p1 0) fun x1=>
 (((decide ((x.len:Int)>0))=true->(InB x1.base x1.len 0))/\LdW (some (decide ((x.len:Int)>0))) yH h1 (Addr.add (sat x1.base 2 0) 0) fun x2=>
 LetW ((decide ((x.len:Int)>0))&&(decide (x2<=now))) fun y=>
 (if y then
 NilW none w fun p2=>
 yLs h1 p2 0 fun x3=>
 ((InB x3.base x3.len 0)/\LdW none yH h1 (Addr.add (sat x3.base 2 0) 1) fun x4=>
 NewW [(yI x4)] (fun a h2=>
 zap 1 8 [(yI 0)] out ⟨(some a),1,1⟩ (fun r h3=>
 CallT P zbo [(yP w),(yI x4)] zae (fun r1 h4=>
 again r h4) h3) h2) h1)
 else
 Q out h1))) ⟨none,0,0⟩ h
def zfr (P:Program) (m:Option Addr) (p:Option Addr) (c:S_cpu_Core) (Q:(Hp->Prop)) (h:Hp):Prop:=
 NilW none p fun p1=>
 StW h (Addr.add p1 3) [(yI 0)] (fun h1=>
 ((True/\True)/\NilW none p fun p2=>
 StW h1 (Addr.add p2 4) [(yI c.PC),(yI c.Regs_0),(yI c.Regs_1),(yI c.Regs_2),(yI c.Regs_3),(yI c.Regs_4),(yI c.Regs_5),(yI c.Regs_6),(yI c.Regs_7)] (fun h2=>
 Q h2)))
def zzn (P:Program) (c:S_cpu_Core) (Q:(S_cpu_Core->(Hp->Prop))) (h:Hp):Prop:=
 Q ⟨(IntKind.wrap .i64 (c.PC+1)),c.Regs_0,c.Regs_1,c.Regs_2,c.Regs_3,c.Regs_4,c.Regs_5,c.Regs_6,c.Regs_7⟩ h
def zzo (P:Program) (c:S_cpu_Core) (l:Sl) (tick:Int) (self:Int) (Q:(S_cpu_Core->(S_cpu_Want->(Hp->Prop)))) (h:Hp):Prop:=
 NewW [(yI c.PC),(yI c.Regs_0),(yI c.Regs_1),(yI c.Regs_2),(yI c.Regs_3),(yI c.Regs_4),(yI c.Regs_5),(yI c.Regs_6),(yI c.Regs_7)] (fun a h1=>
 LdW none zad h1 a fun x=>
 Call2 P zye [x.v,l.v] sh_api_Ins zae (fun r r1 h2=>
 EffC (some (!(!r1))) (CallT P zte [r.v,(yI (l.len:Int)),(yI 8)] yH) (fun r2 h3=>
 LetW ((!r1) || (r2 !=0)) fun y=>
 (if y then
 LdW none zad h3 a fun x1=>
 Q x1 ⟨1,0,0⟩ h3
 else
 LdW none zdr h3 (Addr.add a 1) fun x1=>
 Call3 P zwg [r.v,x1.v] zhq zae zae (fun r3 r4 r5 h4=>
 (if r5 then
 (if r4 then
 LdW none zad h4 a fun x2=>
 ((True/\True)/\Q x2 r3 h4)
 else
 LdW none zad h4 a fun x2=>
 CallT P zfj [x2.v] zad (fun r6 h5=>
 ((True/\True)/\((True/\True)/\Q r6 r3 h5))) h4)
 else
 LdW none zdr h4 (Addr.add a 1) fun x2=>
 JoinW2 (α1:=S_cpu_Core) (α2:=S_cpu_Want) (fun k=>
 (if (r.Op==1)=true then
 Call0 P zbj [(yP (some a)),(yI r.A),(yI r.Imm)] (fun h5=>
 k ⟨0,0,0,0,0,0,0,0,0⟩ ⟨0,0,0⟩ h5) h4
 else
 (if (r.Op==2)=true then
 ((0<=r.B/\r.B<8)/\∃x3:Int,((List.get?Internal (α:=Value) [(yI x2.a0),(yI x2.a1),(yI x2.a2),(yI x2.a3),(yI x2.a4),(yI x2.a5),(yI x2.a6),(yI x2.a7)] (0+((Int.toNat r.B)*1)))=(some (yI x3))/\Call0 P zbj [(yP (some a)),(yI r.A),(yI x3)] (fun h5=>
 k ⟨0,0,0,0,0,0,0,0,0⟩ ⟨0,0,0⟩ h5) h4))
 else
 (if (r.Op==32)=true then
 Call0 P zbj [(yP (some a)),(yI r.A),(yI tick)] (fun h5=>
 k ⟨0,0,0,0,0,0,0,0,0⟩ ⟨0,0,0⟩ h5) h4
 else
 (if (r.Op==33)=true then
 Call0 P zbj [(yP (some a)),(yI r.A),(yI self)] (fun h5=>
 k ⟨0,0,0,0,0,0,0,0,0⟩ ⟨0,0,0⟩ h5) h4
 else
 (if (r.Op==22)=true then
 StW h4 (Addr.add a 0) [(yI r.Imm)] (fun h5=>
 LdW none zad h5 a fun x3=>
 Q x3 ⟨0,0,0⟩ h5)
 else
 (if (r.Op==23)=true then
 ((0<=r.A/\r.A<8)/\∃x3:Int,((List.get?Internal (α:=Value) [(yI x2.a0),(yI x2.a1),(yI x2.a2),(yI x2.a3),(yI x2.a4),(yI x2.a5),(yI x2.a6),(yI x2.a7)] (0+((Int.toNat r.A)*1)))=(some (yI x3))/\(if (x3==0)=true then
 k ⟨0,0,0,0,0,0,0,0,0⟩ ⟨0,0,0⟩ h4
 else
 StW h4 (Addr.add a 0) [(yI r.Imm)] (fun h5=>
 LdW none zad h5 a fun x4=>
 Q x4 ⟨0,0,0⟩ h5))))
 else
 ((0<=r.B/\r.B<8)/\∃x3:Int,((List.get?Internal (α:=Value) [(yI x2.a0),(yI x2.a1),(yI x2.a2),(yI x2.a3),(yI x2.a4),(yI x2.a5),(yI x2.a6),(yI x2.a7)] (0+((Int.toNat r.B)*1)))=(some (yI x3))/\((0<=r.C/\r.C<8)/\∃x4:Int,((List.get?Internal (α:=Value) [(yI x2.a0),(yI x2.a1),(yI x2.a2),(yI x2.a3),(yI x2.a4),(yI x2.a5),(yI x2.a6),(yI x2.a7)] (0+((Int.toNat r.C)*1)))=(some (yI x4))/\Call2 P zjg1 [(yI r.Op),(yI x3),(yI x4)] yH yH (fun r6 r7 h5=>
 JoinW1 (α1:=Int) (fun k1=>
 (if (r7 !=0)=true then
 ((0<=r.B/\r.B<8)/\∃x5:Int,((List.get?Internal (α:=Value) [(yI x2.a0),(yI x2.a1),(yI x2.a2),(yI x2.a3),(yI x2.a4),(yI x2.a5),(yI x2.a6),(yI x2.a7)] (0+((Int.toNat r.B)*1)))=(some (yI x5))/\((0<=r.C/\r.C<8)/\∃x6:Int,((List.get?Internal (α:=Value) [(yI x2.a0),(yI x2.a1),(yI x2.a2),(yI x2.a3),(yI x2.a4),(yI x2.a5),(yI x2.a6),(yI x2.a7)] (0+((Int.toNat r.C)*1)))=(some (yI x6))/\Call2 P zjh1 [(yI r.Op),(yI x5),(yI x6)] yH yH (fun r8 r9 h6=>
 k1 r8 h6) h5))))
 else
 k1 r6 h5))
 (fun v h6=>
 Call0 P zbj [(yP (some a)),(yI r.A),(yI v)] (fun h7=>
 k ⟨0,0,0,0,0,0,0,0,0⟩ ⟨0,0,0⟩ h7) h6)) h4)))))))))))
 (fun t8 t9 h5=>
 LdW none zad h5 a fun x3=>
 CallT P zfj [x3.v] zad (fun r6 h6=>
 Q r6 ⟨0,0,0⟩ h6) h5))) h3)) h2) h1) h
def zet (P:Program) (m:Option Addr) (p:Option Addr) (to:Int) (v:Int) (Q:(Hp->Prop)) (h:Hp):Prop:=
 NilW (some (!(decide (to<0)))) m fun p1=>
 LdW (some (!(decide (to<0)))) shSl h (Addr.add p1 11) fun x=>
 LetW ((decide (to<0)) || (decide (to>=(x.len:Int)))) fun y=>
 (if y then
 Call0 P zal [(yP m),(yP p),(yI 1)] (fun h1=>
 Q h1) h
 else
 NilW none m fun p2=>
 yLs h p2 11 fun x1=>
 ((InB x1.base x1.len to)/\LdW none shPtr h (sat x1.base 1 to) fun x2=>
 NilW none m fun p3=>
 yLp h p3 7 fun x3=>
 NilW none p fun p4=>
 yLi h p4 1 fun x4=>
 NilW none x2 fun p5=>
 yLi h p5 1 fun x5=>
 CallT P zml [(yP x3),(yI x4),(yI x5)] zae (fun r h1=>
 (if (!r)=true then
 NilW none m fun p6=>
 yLs h1 p6 10 fun x6=>
 NilW none p fun p7=>
 yLi h1 p7 1 fun x7=>
 ((InB x6.base x6.len x7)/\LdW none shPtr h1 (sat x6.base 1 x7) fun x8=>
 NilW none m fun p8=>
 yLs h1 p8 10 fun x9=>
 NilW none p fun p9=>
 yLi h1 p9 1 fun x10=>
 ((InB x9.base x9.len x10)/\LdW none shPtr h1 (sat x9.base 1 x10) fun x11=>
 NilW none x11 fun p10=>
 yLi h1 p10 4 fun x12=>
 CallT P zks [(yI x12)] yH (fun r1 h2=>
 (((LdIs h2 (Addr.add p6 10) [x6.v])/\((LdIs h2 (Addr.add p7 1) [(yI x7)])/\((LdIs h2 (sat x6.base 1 x7) [(yP x8)])/\True)))/\NilW none x8 fun p11=>
 StW h2 (Addr.add p11 4) [(yI r1)] (fun h3=>
 Call0 P zal [(yP m),(yP p),(yI 0)] (fun h4=>
 Q h4) h3))) h1))
 else
 NilW none p fun p6=>
 yLi h1 p6 1 fun x6=>
 NilW none x2 fun p7=>
 yLi h1 p7 1 fun x7=>
 (if (x6==x7)=true then
 Call0 P zed [(yP m),(yP p),(yP x2),(yI v)] (fun h2=>
 Q h2) h1
 else
 JoinW0 (fun k=>
 NilW none x2 fun p8=>
 yLi h1 p8 3 fun x8=>
 CallT P zit [(yI x8)] zae (fun r1 h2=>
 NilW (some (!(!r1))) x2 fun p9=>
 LdW (some (!(!r1))) shPtr h2 (Addr.add p9 14) fun x9=>
 NilW (some (!(!r1))) p fun p10=>
 LdW (some (!(!r1))) yH h2 (Addr.add p10 1) fun x10=>
 EffC (some (!(!r1))) (CallT P zis [(yP x9),(yI x10),(yI v)] yH) (fun r2 h3=>
 LetW ((!r1) || (r2 !=0)) fun y1=>
 (if y1 then
 NilW none x2 fun p11=>
 yLp h3 p11 14 fun x11=>
 NilW none p fun p12=>
 yLi h3 p12 1 fun x12=>
 Call0 P zfb [(yP x11),(yI x12)] (fun h4=>
 k h4) h3
 else
 Call0 P zcg [(yP m),(yP x2)] (fun h4=>
 k h4) h3)) h2) h1)
 (fun h2=>
 Call0 P zal [(yP m),(yP p),(yI 0)] (fun h3=>
 Q h3) h2)))) h))
def zeu (P:Program) (m:Option Addr) (p:Option Addr) (try_:Bool) (Q:(Hp->Prop)) (h:Hp):Prop:=
 NilW none p fun p1=>
 yLp h p1 14 fun x=>
 Call5 P zle [(yP x)] yH yH sh_api_Waiter zae yH (fun r r1 r2 r3 r4 h1=>
 (if (r4==0)=true then
 NilW none p fun p2=>
 LdW none zad h1 (Addr.add p2 4) fun x1=>
 NilW none p fun p3=>
 yLs h1 p3 2 fun x2=>
 CallT P zup [x1.v,x2.v,(yI r),(yI r1)] zad (fun r5 h2=>
 NilW none p fun p4=>
 StW h2 (Addr.add p4 4) [(yI r5.PC),(yI r5.Regs_0),(yI r5.Regs_1),(yI r5.Regs_2),(yI r5.Regs_3),(yI r5.Regs_4),(yI r5.Regs_5),(yI r5.Regs_6),(yI r5.Regs_7)] (fun h3=>
 (if r3 then
 NilW none m fun p5=>
 yLs h3 p5 11 fun x3=>
 ((InB x3.base x3.len r2.Proc)/\LdW none shPtr h3 (sat x3.base 1 r2.Proc) fun x4=>
 Call0 P zal [(yP m),(yP x4),(yI 0)] (fun h4=>
 Q h4) h3)
 else
 Q h3))) h1
 else
 NilW none p fun p2=>
 LdW none zae h1 (Addr.add p2 13) fun x1=>
 (if x1 then
 NilW none p fun p3=>
 StW h1 (Addr.add p3 13) [(.bool false)] (fun h2=>
 NilW none p fun p4=>
 LdW none zad h2 (Addr.add p4 4) fun x2=>
 NilW none p fun p5=>
 yLs h2 p5 2 fun x3=>
 CallT P zup [x2.v,x3.v,(yI 0),(yI (-2))] zad (fun r5 h3=>
 NilW none p fun p6=>
 StW h3 (Addr.add p6 4) [(yI r5.PC),(yI r5.Regs_0),(yI r5.Regs_1),(yI r5.Regs_2),(yI r5.Regs_3),(yI r5.Regs_4),(yI r5.Regs_5),(yI r5.Regs_6),(yI r5.Regs_7)] (fun h4=>
 Q h4)) h2)
 else
 (if try_ then
 NilW none p fun p3=>
 LdW none zad h1 (Addr.add p3 4) fun x2=>
 NilW none p fun p4=>
 yLs h1 p4 2 fun x3=>
 CallT P zup [x2.v,x3.v,(yI 0),(yI (-1))] zad (fun r5 h2=>
 NilW none p fun p5=>
 StW h2 (Addr.add p5 4) [(yI r5.PC),(yI r5.Regs_0),(yI r5.Regs_1),(yI r5.Regs_2),(yI r5.Regs_3),(yI r5.Regs_4),(yI r5.Regs_5),(yI r5.Regs_6),(yI r5.Regs_7)] (fun h3=>
 Q h3)) h1
 else
 NilW none p fun p3=>
 StW h1 (Addr.add p3 3) [(yI 1)] (fun h2=>
 Q h2))))) h
def zev (P:Program) (w:Option Addr) (id_:Int) (Q:(Bool->(Hp->Prop))) (h:Hp):Prop:=
 NilW none w fun p=>
 LdW none shMap h (Addr.add p 1) fun x=>
 LookW none (.int .i64) sh_wheel_entry (.agg #[(yI 0),(yI 0)]) x (yI id_) h fun x1 ok=>
 (if (!ok)=true then
 Q false h
 else
 NilW none w fun p1=>
 yLs h p1 0 fun x2=>
 LoopW1 (α1:=Int) (fun again t25 h1=>
 (if decide (t25<(x2.len:Int)) then
 ((InB x2.base x2.len t25)/\LdW none sh_wheel_entry h1 (sat x2.base 2 t25) fun x3=>
 SemV none P (binS .eql 165 (.tmp 30) (.tmp 31) x3.v x1.v) zae h1 fun x4=>
 (if x4 then
 NilW none w fun p2=>
 yLs h1 p2 0 fun x5=>
 CallT P zco [x5.v,(yI t25),(yI (IntKind.wrap .i64 (t25+1)))] shSl (fun r h2=>
 NilW none w fun p3=>
 StW h2 (Addr.add p3 0) [r.v] (fun h3=>
 NilW none w fun p4=>
 LdW none shMap h3 (Addr.add p4 1) fun x6=>
 zdc1 (.int .i64) x6 (yI id_) (fun h4=>
 Q true h4) h3)) h1
 else
 again (IntKind.wrap .i64 (t25+1)) h1))
 else
 NilW none w fun p2=>
 LdW none shMap h1 (Addr.add p2 1) fun x3=>
 zdc1 (.int .i64) x3 (yI id_) (fun h2=>
 Q true h2) h1)) 0 h)
def zjb (P:Program) (l:Option Addr) (n:Int) (p:Int) (Q:(Bool->(Int->(Hp->Prop)))) (h:Hp):Prop:=
 CallT P zhr [(yP l),(yI n),(yI p)] yH (fun r h1=>
 (if (r !=0)=true then
 Q false r h1
 else
 Call2 P zep [(yP l),(yI p)] yH zae (fun r1 r2 h2=>
 (if r2 then
 Q false 20 h2
 else
 NilW none l fun p1=>
 yLs h2 p1 0 fun x=>
 ((InB x.base x.len n)/\JoinW0 (fun k=>
 NilW none (some (sat x.base 2 n)) fun p2=>
 yLi h2 p2 0 fun x1=>
 (if (x1==(-1))=true then
 NilW none (some (sat x.base 2 n)) fun p3=>
 StW h2 (Addr.add p3 0) [(yI p)] (fun h3=>
 k h3)
 else
 k h2))
 (fun h3=>
 NilW none (some (sat x.base 2 n)) fun p2=>
 yLi h3 p2 0 fun x1=>
 (if (x1 !=p)=true then
 NilW none (some (sat x.base 2 n)) fun p3=>
 yLs h3 p3 1 fun x2=>
 NewW [(yI p)] (fun a h4=>
 zap 1 8 [(yI 0)] x2 ⟨(some a),1,1⟩ (fun r3 h5=>
 NilW none (some (sat x.base 2 n)) fun p4=>
 StW h5 (Addr.add p4 1) [r3.v] (fun h6=>
 NilW none (some (sat x.base 2 n)) fun p5=>
 yLi h6 p5 0 fun x3=>
 Q (x3==p) 0 h6)) h4) h3
 else
 NilW none (some (sat x.base 2 n)) fun p3=>
 yLi h3 p3 0 fun x2=>
 Q (x2==p) 0 h3))))) h1)) h
def zds (P:Program) (s:Sl) (v:Int) (Q:(Bool->(Hp->Prop))) (h:Hp):Prop:=
 CallT P zfm [s.v,(yI v)] yH (fun r h1=>
 Q (decide (r>=0)) h1) h
def zhv (P:Program) (l:Option Addr) (p:Int) (Q:(Sl->(Hp->Prop))) (h:Hp):Prop:=
 NilW none l fun p1=>
 yLs h p1 0 fun x=>
 LoopW2 (α1:=Sl) (α2:=Int) (fun again out t13 h1=>
 (if decide (t13<(x.len:Int)) then
 JoinW1 (α1:=Sl) (fun k=>
 ((InB x.base x.len t13)/\LdW none sh_locks_lock h1 (sat x.base 2 t13) fun x1=>
 LetW ((x1.owner==p)&&(p !=(-1))) fun y=>
 (if y then
 NewW [(yI t13)] (fun a h2=>
 zap 1 8 [(yI 0)] ⟨out.base,out.len,out.cap⟩ ⟨(some a),1,1⟩ (fun r h3=>
 k r h3) h2) h1
 else
 k ⟨out.base,out.len,out.cap⟩ h1)))
 (fun out1 h2=>
 again out1 (IntKind.wrap .i64 (t13+1)) h2)
 else
 Q ⟨out.base,out.len,out.cap⟩ h1)) ⟨none,0,0⟩ 0 h
def zjc (P:Program) (l:Option Addr) (n:Int) (p:Int) (Q:(Int->(Int->(Hp->Prop)))) (h:Hp):Prop:=
 CallT P zhr [(yP l),(yI n),(yI p)] yH (fun r h1=>
 (if (r !=(0:Int))=true then
 Q (0:Int) r h1
 else
 NilW none l fun p1=>
 yLs h1 p1 0 fun x=>
 ((InB x.base x.len n)/\NilW none (some (sat x.base 2 n)) fun p2=>
 yLi h1 p2 0 fun x1=>
 (if (x1 !=p)=true then
 NilW none (some (sat x.base 2 n)) fun p3=>
 yLi h1 p3 0 fun x2=>
 Q x2 (0:Int) h1
 else
 NilW none (some (sat x.base 2 n)) fun p3=>
 yLs h1 p3 1 fun x2=>
 (if ((x2.len:Int)==(0:Int))=true then
 NilW none (some (sat x.base 2 n)) fun p4=>
 StW h1 (Addr.add p4 0) [(yI (-1:Int))] (fun h2=>
 NilW none (some (sat x.base 2 n)) fun p5=>
 yLi h2 p5 0 fun x3=>
 Q x3 (0:Int) h2)
 else
 NilW none (some (sat x.base 2 n)) fun p4=>
 yLs h1 p4 1 fun x3=>
 ((InB x3.base x3.len (0:Int))/\LdW none yH h1 (sat x3.base 1 (0:Int)) fun x4=>
 NilW none (some (sat x.base 2 n)) fun p5=>
 StW h1 (Addr.add p5 0) [(yI x4)] (fun h2=>
 NilW none (some (sat x.base 2 n)) fun p6=>
 yLs h2 p6 1 fun x5=>
 NilW none (some (sat x.base 2 n)) fun p7=>
 yLs h2 p7 1 fun x6=>
 NilW none (some (sat x.base 2 n)) fun p8=>
 yLs h2 p8 1 fun x7=>
 (((0:Int)<=(1:Int)/\((1:Int)<=(x6.len:Int)/\((x6.len:Int)<=(x7.len:Int)/\(x7.len:Int)<=(x5.cap:Int))))/\LetW (α:=Sl) ⟨(sbase x5.base 1 1 (Int.toNat (x7.len:Int))),((Int.toNat (x6.len:Int))-1),((Int.toNat (x7.len:Int))-1)⟩ fun y=>
 NilW none (some (sat x.base 2 n)) fun p9=>
 StW h2 (Addr.add p9 1) [y.v] (fun h3=>
 NilW none (some (sat x.base 2 n)) fun p10=>
 yLi h3 p10 0 fun x8=>
 Q x8 (0:Int) h3))))))))) h
def zew (P:Program) (m:Option Addr) (who:Int) (Q:(Hp->Prop)) (h:Hp):Prop:=
 (if decide (who>=0) then
 NilW none m fun p=>
 yLs h p 11 fun x=>
 ((InB x.base x.len who)/\LdW none shPtr h (sat x.base 1 who) fun x1=>
 NilW none m fun p1=>
 yLs h p1 11 fun x2=>
 ((InB x2.base x2.len who)/\LdW none shPtr h (sat x2.base 1 who) fun x3=>
 NilW none x3 fun p2=>
 LdW none zad h (Addr.add p2 4) fun x4=>
 CallT P zfj [x4.v] zad (fun r h1=>
 (((LdIs h1 (Addr.add p 11) [x.v])/\((LdIs h1 (sat x.base 1 who) [(yP x1)])/\True))/\Call0 P zch [(yP m),(yP x1),r.v] (fun h2=>
 Q h2) h1)) h))
 else
 Q h)
def zoe (P:Program) (n:Int) (Q:(Int->(Hp->Prop))) (h:Hp):Prop:=
 Q (min2I (IntKind.wrap .i64 (n+1)) 65535) h
def zkf (P:Program) (p:Option Addr) (n:Int) (Q:(Bool->(Hp->Prop))) (h:Hp):Prop:=
 NilW (some (decide (n>=0))) p fun p1=>
 LdW (some (decide (n>=0))) shSl h (Addr.add p1 0) fun x=>
 LetW ((decide (n>=0))&&(decide (n<(x.len:Int)))) fun y=>
 Q y h
def zmu (P:Program) (l:Option Addr) (v:Int) (Q:(Int->(Hp->Prop))) (h:Hp):Prop:=
 CallT P zlf [(yP l)] zae (fun r h1=>
 (if r then
 Q 19 h1
 else
 NilW none l fun p=>
 yLs h1 p 1 fun x=>
 NewW [(yI v)] (fun a h2=>
 zap 1 8 [(yI 0)] x ⟨(some a),1,1⟩ (fun r1 h3=>
 NilW none l fun p1=>
 StW h3 (Addr.add p1 1) [r1.v] (fun h4=>
 Q 0 h4)) h2) h1)) h
def zli (P:Program) (l:Option Addr) (Q:(Hp->Prop)) (h:Hp):Prop:=
 NilW none l fun p=>
 yLi h p 4 fun x=>
 CallT P zwh [(yI x)] yH (fun r h1=>
 NilW none l fun p1=>
 StW h1 (Addr.add p1 4) [(yI r)] (fun h2=>
 Q h2)) h
def zkg (P:Program) (p:Option Addr) (proc:Int) (Q:(Bool->(Hp->Prop))) (h:Hp):Prop:=
 NilW none p fun p1=>
 yLs h p1 0 fun x=>
 LoopW2 (α1:=Bool) (α2:=Int) (fun again left t13 h1=>
 (if decide (t13<(x.len:Int)) then
 JoinW1 (α1:=Bool) (fun k=>
 ((InB x.base x.len t13)/\LdW none shPtr h1 (sat x.base 1 t13) fun x1=>
 CallT P zpe [(yP x1),(yI proc)] zae (fun r h2=>
 (if r then
 k true h2
 else
 k left h2)) h1))
 (fun left1 h2=>
 again left1 (IntKind.wrap .i64 (t13+1)) h2)
 else
 Q left h1)) false 0 h
def zkh (P:Program) (l:Option Addr) (p:Int) (Q:(Sl->(Hp->Prop))) (h:Hp):Prop:=
 NilW none l fun p1=>
 yLs h p1 0 fun x=>
 LoopW1 (α1:=Int) (fun again t17 h1=>
 (if decide (t17<(x.len:Int)) then
 JoinW0 (fun k=>
 NilW none l fun p2=>
 yLs h1 p2 0 fun x1=>
 ((InB x1.base x1.len t17)/\LdW none shSl h1 (Addr.add (sat x1.base 2 t17) 1) fun x2=>
 CallT P zfm [x2.v,(yI p)] yH (fun r h2=>
 (if decide (r>=0) then
 NilW none l fun p3=>
 yLs h2 p3 0 fun x3=>
 NilW none l fun p4=>
 yLs h2 p4 0 fun x4=>
 ((InB x4.base x4.len t17)/\LdW none shSl h2 (Addr.add (sat x4.base 2 t17) 1) fun x5=>
 CallT P ziw [x5.v,(yI r),(yI (IntKind.wrap .i64 (r+1)))] shSl (fun r1 h3=>
 (((LdIs h3 (Addr.add p3 0) [x3.v])/\True)/\((InB x3.base x3.len t17)/\StW h3 (Addr.add (sat x3.base 2 t17) 1) [r1.v] (fun h4=>
 k h4)))) h2)
 else
 k h2)) h1))
 (fun h2=>
 again (IntKind.wrap .i64 (t17+1)) h2)
 else
 CallT P zeo [(yP l),(yI p)] shSl (fun r h2=>
 LoopW2 (α1:=Sl) (α2:=Int) (fun again1 out t56 h3=>
 (if decide (t56<(r.len:Int)) then
 ((InB r.base r.len t56)/\LdW none yH h3 (sat r.base 1 t56) fun x1=>
 Call2 P zdo [(yP l),(yI x1),(yI p)] yH yH (fun r1 r2 h4=>
 NewW [(yI x1),(yI r1)] (fun a h5=>
 zap 2 16 [(yI 0),(yI 0)] ⟨out.base,out.len,out.cap⟩ ⟨(some a),1,1⟩ (fun r3 h6=>
 again1 r3 (IntKind.wrap .i64 (t56+1)) h6) h5) h4) h3)
 else
 Q ⟨out.base,out.len,out.cap⟩ h3)) ⟨none,0,0⟩ 0 h2) h1)) 0 h
def zmv (P:Program) (p:Option Addr) (Q:(Sl->(Hp->Prop))) (h:Hp):Prop:=
 NilW none p fun p1=>
 yLs h p1 0 fun x=>
 LoopW2 (α1:=Sl) (α2:=Int) (fun again out t11 h1=>
 (if decide (t11<(x.len:Int)) then
 ((InB x.base x.len t11)/\LdW none shPtr h1 (sat x.base 1 t11) fun x1=>
 CallT P ztf [(yP x1)] shSl (fun r h2=>
 zap 2 16 [(yI 0),(yI 0)] ⟨out.base,out.len,out.cap⟩ r (fun r1 h3=>
 again r1 (IntKind.wrap .i64 (t11+1)) h3) h2) h1)
 else
 Q ⟨out.base,out.len,out.cap⟩ h1)) ⟨none,0,0⟩ 0 h
def zdt (P:Program) (m:Option Addr) (p:Option Addr) (reply:Int) (Q:(Hp->Prop)) (h:Hp):Prop:=
 NilW none p fun p1=>
 LdW none zad h (Addr.add p1 4) fun x=>
 NilW none p fun p2=>
 yLs h p2 2 fun x1=>
 CallT P zhz1 [x.v,x1.v,(yI reply)] zad (fun r h1=>
 Call0 P zch [(yP m),(yP p),r.v] (fun h2=>
 Q h2) h1) h
def zdj (P:Program) (s:Sl) (f:FnV) (Q:(Int->(Hp->Prop))) (h:Hp):Prop:=
 LoopW1 (α1:=Int) (fun again t8 h1=>
 (if decide (t8<(s.len:Int)) then
 ((InB s.base s.len t8)/\LdW none yH h1 (sat s.base 1 t8) fun x=>
 CallV P tb (.func (.func f.g) f.first f.captured) [(yI x)] zae (fun r h2=>
 (if r then
 Q t8 h2
 else
 again (IntKind.wrap .i64 (t8+1)) h2)) h1)
 else
 Q (-1) h1)) 0 h
def zqt (P:Program) (p:Int) (a1:Addr) (Q:(Bool->(Hp->Prop))) (h:Hp):Prop:=
 LdW (some (!(decide (p<0)))) yH h a1 fun x=>
 LetW ((decide (p<0)) || (decide (p>=x))) fun y=>
 Q y h
def zti (P:Program) (x:S_api_Ins) (n:Int) (locks:Int) (Q:(Int->(Hp->Prop))) (h:Hp):Prop:=
 Call2 P ztg [x.v,(yI n),(yI locks)] yH yH (fun r r1 h1=>
 Q r h1) h
def zhw (P:Program) (l:Option Addr) (p:Int) (Q:(Int->(Bool->(Hp->Prop)))) (h:Hp):Prop:=
 NilW none l fun p1=>
 yLs h p1 0 fun x=>
 LoopW1 (α1:=Int) (fun again t13 h1=>
 (if decide (t13<(x.len:Int)) then
 ((InB x.base x.len t13)/\LdW none sh_locks_lock h1 (sat x.base 2 t13) fun x1=>
 CallT P zcl [x1.queue.v,(yI p)] zae (fun r h2=>
 (if r then
 Q t13 true h2
 else
 again (IntKind.wrap .i64 (t13+1)) h2)) h1)
 else
 Q 0 false h1)) 0 h
def zzp (P:Program) (room:Int) (s:S_api_Lane) (Q:(Option Addr->(Int->(Hp->Prop)))) (h:Hp):Prop:=
 Call2 P zzj [(yI room)] shPtr yH (fun r r1 h1=>
 (if (r1 !=0)=true then
 Q none r1 h1
 else
 LetW ((decide ((s.Waiters.len:Int)>0))&&(decide ((s.Values.len:Int)<room))) fun y=>
 LetW ((decide ((s.Values.len:Int)>room)) || y) fun y1=>
 EffC (some (!y1)) (CallT P zly [(yI s.Taken),(yI 0),(yI 65535)] zae) (fun r2 h2=>
 LetW (y1 || (!r2)) fun y2=>
 EffC (some (!y2)) (CallT P zly [(yI s.Dropped),(yI 0),(yI 65535)] zae) (fun r3 h3=>
 LetW (y2 || (!r3)) fun y3=>
 EffC (some (!y3)) (CallT P zbh1 [s.Waiters.v] zae) (fun r4 h4=>
 LetW (y3 || r4) fun y4=>
 (if y4 then
 Q none 4 h4
 else
 CallT P zdi [s.Values.v] shSl (fun r5 h5=>
 ((True/\True)/\CallT P zbi [s.Waiters.v] shSl (fun r6 h6=>
 NilW none r fun p=>
 StW h6 (Addr.add p 1) [r5.v] (fun h7=>
 NilW none r fun p1=>
 StW h7 (Addr.add p1 2) [r6.v] (fun h8=>
 NilW none r fun p2=>
 StW h8 (Addr.add p2 3) [(yI s.Taken)] (fun h9=>
 ((True/\True)/\NilW none r fun p3=>
 StW h9 (Addr.add p3 4) [(yI s.Dropped)] (fun h10=>
 Q r 0 h10)))))) h5)) h4)) h3) h2) h1)) h
def zam (P:Program) (x:Sl) (target:S_wheel_entry) (cmp:FnV) (Q:(Int->(Bool->(Hp->Prop)))) (h:Hp):Prop:=
 LoopW2 (α1:=Int) (α2:=Int) (fun again i j h1=>
 (if decide (i<j) then
 JoinW2 (α1:=Int) (α2:=Int) (fun k=>
 ((0:Int)<=(1:Int)/\((InB x.base x.len (IntKind.wrap .i64 (shrI .u64 (IntKind.wrap .u64 (IntKind.wrap .i64 (i+j))) (1:Int))))/\LdW none sh_wheel_entry h1 (sat x.base 2 (IntKind.wrap .i64 (shrI .u64 (IntKind.wrap .u64 (IntKind.wrap .i64 (i+j))) (1:Int)))) fun x1=>
 CallV P tb (.func (.func cmp.g) cmp.first cmp.captured) [x1.v,target.v] yH (fun r h2=>
 (if decide (r<(0:Int)) then
 k (IntKind.wrap .i64 ((IntKind.wrap .i64 (shrI .u64 (IntKind.wrap .u64 (IntKind.wrap .i64 (i+j))) (1:Int)))+(1:Int))) j h2
 else
 k i (IntKind.wrap .i64 (shrI .u64 (IntKind.wrap .u64 (IntKind.wrap .i64 (i+j))) (1:Int))) h2)) h1)))
 (fun i1 j1 h2=>
 again i1 j1 h2)
 else
 (((decide (i<(x.len:Int)))=true->(InB x.base x.len i))/\LdW (some (decide (i<(x.len:Int)))) sh_wheel_entry h1 (sat x.base 2 i) fun x1=>
 EffC (some (decide (i<(x.len:Int)))) (CallV P tb (.func (.func cmp.g) cmp.first cmp.captured) [x1.v,target.v] yH) (fun r h2=>
 LetW ((decide (i<(x.len:Int)))&&(r==(0:Int))) fun y=>
 Q i y h2) h1))) (0:Int) (x.len:Int) h
def zqu (P:Program) (a:S_wheel_entry) (b:S_wheel_entry) (Q:(Int->(Hp->Prop))) (h:Hp):Prop:=
 CallT P zmn [(yI a.due),(yI b.due)] yH (fun r h1=>
 ((True/\(True/\True))/\CallT P zpf [(yI a.id_),(yI b.id_)] yH (fun r1 h2=>
 NewW [(yI r),(yI r1)] (fun a1 h3=>
 CallT P zbi1 [(.slice (some a1) 2 2)] yH (fun r2 h4=>
 Q r2 h4) h3) h2) h1)) h
def zcp (P:Program) (s:Sl) (i:Int) (v:Sl) (Q:(Sl->(Hp->Prop))) (h:Hp):Prop:=
 ((0<=i/\i<=(s.len:Int))/\LetW (α:=Sl) ⟨(sbase s.base 2 (Int.toNat i) s.cap),(s.len-(Int.toNat i)),(s.cap-(Int.toNat i))⟩ fun y=>
 (if ((v.len:Int)==0)=true then
 Q s h
 else
 (if (i==(s.len:Int))=true then
 zap 2 16 [(yI 0),(yI 0)] s v (fun r h1=>
 Q r h1) h
 else
 (if (decide ((IntKind.wrap .i64 ((s.len:Int)+(v.len:Int)))>(s.cap:Int)))=true then
 ((0<=i/\i<=(s.cap:Int))/\LetW (α:=Sl) ⟨(sbase s.base 2 0 s.cap),((Int.toNat i)-0),(s.cap-0)⟩ fun y1=>
 zcn1 2 16 [(yI 0),(yI 0)] y1 (IntKind.wrap .i64 ((IntKind.wrap .i64 ((s.len:Int)+(v.len:Int)))-i)) (fun r h1=>
 ((0<=i/\i<=(r.len:Int))/\LetW (α:=Sl) ⟨(sbase r.base 2 (Int.toNat i) r.cap),(r.len-(Int.toNat i)),(r.cap-(Int.toNat i))⟩ fun y2=>
 CopyW 2 y2 v (fun r1 h2=>
 ((0<=(IntKind.wrap .i64 (i+(v.len:Int)))/\(IntKind.wrap .i64 (i+(v.len:Int)))<=(r.len:Int))/\LetW (α:=Sl) ⟨(sbase r.base 2 (Int.toNat (IntKind.wrap .i64 (i+(v.len:Int)))) r.cap),(r.len-(Int.toNat (IntKind.wrap .i64 (i+(v.len:Int))))),(r.cap-(Int.toNat (IntKind.wrap .i64 (i+(v.len:Int)))))⟩ fun y3=>
 ((0<=i/\i<=(s.len:Int))/\LetW (α:=Sl) ⟨(sbase s.base 2 (Int.toNat i) s.cap),(s.len-(Int.toNat i)),(s.cap-(Int.toNat i))⟩ fun y4=>
 CopyW 2 y3 y4 (fun r2 h3=>
 Q r h3) h2))) h1)) h)
 else
 ((0<=(IntKind.wrap .i64 ((s.len:Int)+(v.len:Int)))/\(IntKind.wrap .i64 ((s.len:Int)+(v.len:Int)))<=(s.cap:Int))/\LetW (α:=Sl) ⟨(sbase s.base 2 0 s.cap),((Int.toNat (IntKind.wrap .i64 ((s.len:Int)+(v.len:Int))))-0),(s.cap-0)⟩ fun y1=>
 ((0<=(IntKind.wrap .i64 (i+(v.len:Int)))/\(IntKind.wrap .i64 (i+(v.len:Int)))<=(y1.len:Int))/\LetW (α:=Sl) ⟨(sbase y1.base 2 (Int.toNat (IntKind.wrap .i64 (i+(v.len:Int)))) y1.cap),(y1.len-(Int.toNat (IntKind.wrap .i64 (i+(v.len:Int))))),(y1.cap-(Int.toNat (IntKind.wrap .i64 (i+(v.len:Int)))))⟩ fun y2=>
 SemE P (Extern.SlicesOverlaps.overlaps #[167,167] #[4] #[v.v,y2.v]) zae (fun r h1=>
 (if (!r)=true then
 ((0<=(IntKind.wrap .i64 (i+(v.len:Int)))/\(IntKind.wrap .i64 (i+(v.len:Int)))<=(y1.len:Int))/\LetW (α:=Sl) ⟨(sbase y1.base 2 (Int.toNat (IntKind.wrap .i64 (i+(v.len:Int)))) y1.cap),(y1.len-(Int.toNat (IntKind.wrap .i64 (i+(v.len:Int))))),(y1.cap-(Int.toNat (IntKind.wrap .i64 (i+(v.len:Int)))))⟩ fun y3=>
 ((0<=i/\i<=(y1.len:Int))/\LetW (α:=Sl) ⟨(sbase y1.base 2 (Int.toNat i) y1.cap),(y1.len-(Int.toNat i)),(y1.cap-(Int.toNat i))⟩ fun y4=>
 CopyW 2 y3 y4 (fun r1 h2=>
 ((0<=i/\i<=(y1.len:Int))/\LetW (α:=Sl) ⟨(sbase y1.base 2 (Int.toNat i) y1.cap),(y1.len-(Int.toNat i)),(y1.cap-(Int.toNat i))⟩ fun y5=>
 CopyW 2 y5 v (fun r2 h3=>
 Q y1 h3) h2)) h1))
 else
 ((0<=(s.len:Int)/\(s.len:Int)<=(y1.len:Int))/\LetW (α:=Sl) ⟨(sbase y1.base 2 (Int.toNat (s.len:Int)) y1.cap),(y1.len-(Int.toNat (s.len:Int))),(y1.cap-(Int.toNat (s.len:Int)))⟩ fun y3=>
 CopyW 2 y3 v (fun r1 h2=>
 ((0<=i/\i<=(y1.len:Int))/\LetW (α:=Sl) ⟨(sbase y1.base 2 (Int.toNat i) y1.cap),(y1.len-(Int.toNat i)),(y1.cap-(Int.toNat i))⟩ fun y4=>
 Call0 P zdx [y4.v,(yI (v.len:Int))] (fun h3=>
 Q y1 h3) h2)) h1))) h))))))
def ztj (P:Program) (x:Int) (y:Int) (Q:(Int->(Int->(Hp->Prop)))) (h:Hp):Prop:=
 Call2 P zka [(.int .u64 x),(.int .u64 y)] (shInt .u64) (shInt .u64) (fun r r1 h1=>
 Q r r1 h1) h
def zdk (P:Program) (s:Sl) (Q:(Sl->(Hp->Prop))) (h:Hp):Prop:=
 SemV none P (binS .eql 141 (.tmp 3) (.const yN) s.v yN) zae h fun x=>
 (if x then
 Q ⟨none,0,0⟩ h
 else
 NewW [] (fun a h1=>
 zap 1 8 [(yI 0)] ⟨(some a),0,0⟩ s (fun r h2=>
 Q r h2) h1) h)
def zbk (P:Program) (s:Sl) (Q:(Sl->(Hp->Prop))) (h:Hp):Prop:=
 SemV none P (binS .eql 142 (.tmp 3) (.const yN) s.v yN) zae h fun x=>
 (if x then
 Q ⟨none,0,0⟩ h
 else
 NewW [] (fun a h1=>
 zap 2 16 [(yI 0),(yI 0)] ⟨(some a),0,0⟩ s (fun r h2=>
 Q r h2) h1) h)
def zlj (P:Program) (t:Option Addr) (i:Int) (Q:(Bool->(Hp->Prop))) (h:Hp):Prop:=
 NilW (some (decide (i>=0))) t fun p=>
 LdW (some (decide (i>=0))) shSl h (Addr.add p 0) fun x=>
 LetW ((decide (i>=0))&&(decide (i<(x.len:Int)))) fun y=>
 Q y h
def zqv (P:Program) (a:Int) (b:Int) (Q:(Bool->(Hp->Prop))) (h:Hp):Prop:=
 Q ((bitsI .andNot .u64 a b)==0) h
def zji1 (P:Program) (c:S_cpu_Core) (l:Sl) (Q:(S_api_Ins->(Bool->(Hp->Prop)))) (h:Hp):Prop:=
 LetW ((decide (c.PC<0)) || (decide (c.PC>=(l.len:Int)))) fun y=>
 (if y then
 Q ⟨0,0,0,0,0⟩ false h
 else
 ((InB l.base l.len c.PC)/\LdW none sh_api_Ins h (sat l.base 5 c.PC) fun x=>
 Q x true h))
def zwl (P:Program) (x:S_api_Ins) (r:S_n8_int64) (Q:(S_cpu_Want->(Bool->(Bool->(Hp->Prop))))) (h:Hp):Prop:=
 (if (x.Op==0)=true then
 Q ⟨1,0,0⟩ true true h
 else
 (if (x.Op==24)=true then
 ((0<=x.B/\x.B<8)/\∃x1:Int,((List.get?Internal (α:=Value) [(yI r.a0),(yI r.a1),(yI r.a2),(yI r.a3),(yI r.a4),(yI r.a5),(yI r.a6),(yI r.a7)] (0+((Int.toNat x.B)*1)))=(some (yI x1))/\((0<=x.C/\x.C<8)/\∃x2:Int,((List.get?Internal (α:=Value) [(yI r.a0),(yI r.a1),(yI r.a2),(yI r.a3),(yI r.a4),(yI r.a5),(yI r.a6),(yI r.a7)] (0+((Int.toNat x.C)*1)))=(some (yI x2))/\Q ⟨2,x1,x2⟩ true true h))))
 else
 (if (x.Op==25)=true then
 Q ⟨3,0,0⟩ true true h
 else
 (if (x.Op==26)=true then
 Q ⟨4,0,0⟩ true true h
 else
 (if (x.Op==27)=true then
 ((0<=x.A/\x.A<8)/\∃x1:Int,((List.get?Internal (α:=Value) [(yI r.a0),(yI r.a1),(yI r.a2),(yI r.a3),(yI r.a4),(yI r.a5),(yI r.a6),(yI r.a7)] (0+((Int.toNat x.A)*1)))=(some (yI x1))/\Q ⟨5,0,x1⟩ false true h))
 else
 (if (x.Op==28)=true then
 ((0<=x.A/\x.A<8)/\∃x1:Int,((List.get?Internal (α:=Value) [(yI r.a0),(yI r.a1),(yI r.a2),(yI r.a3),(yI r.a4),(yI r.a5),(yI r.a6),(yI r.a7)] (0+((Int.toNat x.A)*1)))=(some (yI x1))/\Q ⟨6,0,x1⟩ true true h))
 else
 (if (x.Op==29)=true then
 Q ⟨7,x.Imm,0⟩ true true h
 else
 (if (x.Op==30)=true then
 Q ⟨8,x.Imm,0⟩ false true h
 else
 (if (x.Op==31)=true then
 ((0<=x.A/\x.A<8)/\∃x1:Int,((List.get?Internal (α:=Value) [(yI r.a0),(yI r.a1),(yI r.a2),(yI r.a3),(yI r.a4),(yI r.a5),(yI r.a6),(yI r.a7)] (0+((Int.toNat x.A)*1)))=(some (yI x1))/\Q ⟨9,0,x1⟩ false true h))
 else
 Q ⟨0,0,0⟩ false false h)))))))))
def zof (P:Program) (c:Option Addr) (reg:Int) (v:Int) (Q:(Hp->Prop)) (h:Hp):Prop:=
 LetW ((decide (reg>=0))&&(decide (reg<8))) fun y=>
 (if y then
 NilW none c fun p=>
 ((0<=reg/\reg<8)/\StW h (Addr.add (Addr.add p 1) ((Int.toNat reg)*1)) [(yI v)] (fun h1=>
 Q h1))
 else
 Q h)
def zjj1 (P:Program) (op:Int) (b:Int) (c:Int) (Q:(Int->(Int->(Hp->Prop)))) (h:Hp):Prop:=
 (if (op==3)=true then
 Q (IntKind.wrap .i64 (b+c)) 0 h
 else
 (if (op==4)=true then
 Q (IntKind.wrap .i64 (b-c)) 0 h
 else
 (if (op==5)=true then
 Q (IntKind.wrap .i64 (b*c)) 0 h
 else
 (if (op==6)=true then
 CallT P zoc [(yI b),(yI c)] yH (fun r h1=>
 Q r 0 h1) h
 else
 (if (op==7)=true then
 CallT P zoc [(yI b),(yI c)] yH (fun r h1=>
 Q (IntKind.wrap .i64 (b-(IntKind.wrap .i64 (r*c)))) 0 h1) h
 else
 (if (op==8)=true then
 Q (bitsI .and .i64 b c) 0 h
 else
 (if (op==9)=true then
 Q (bitsI .or .i64 b c) 0 h
 else
 (if (op==10)=true then
 Q (bitsI .xor .i64 b c) 0 h
 else
 (if (op==11)=true then
 CallT P zia1 [(yI b),(yI c)] yH (fun r h1=>
 Q r 0 h1) h
 else
 (if (op==12)=true then
 CallT P zeb1 [(yI b),(yI c)] yH (fun r h1=>
 Q r 0 h1) h
 else
 (if (op==13)=true then
 CallT P zec1 [(.bool (decide (b<c)))] yH (fun r h1=>
 Q r 0 h1) h
 else
 (if (op==14)=true then
 CallT P zec1 [(.bool (b==c))] yH (fun r h1=>
 Q r 0 h1) h
 else
 Q 0 9 h))))))))))))
def zjk1 (P:Program) (op:Int) (b:Int) (c:Int) (Q:(Int->(Int->(Hp->Prop)))) (h:Hp):Prop:=
 CallT P zwi [(yI b)] (shFlt .f64) (fun r h1=>
 CallT P zwi [(yI c)] (shFlt .f64) (fun r1 h2=>
 (if (op==15)=true then
 SemE P (binS .add 268 (.tmp 17) (.tmp 18) (.float .f64 r) (.float .f64 r1)) (shFlt .f64) (fun r2 h3=>
 CallT P zmd [(.float .f64 r2)] yH (fun r3 h4=>
 Q r3 0 h4) h3) h2
 else
 (if (op==16)=true then
 SemE P (binS .sub 268 (.tmp 23) (.tmp 24) (.float .f64 r) (.float .f64 r1)) (shFlt .f64) (fun r2 h3=>
 CallT P zmd [(.float .f64 r2)] yH (fun r3 h4=>
 Q r3 0 h4) h3) h2
 else
 (if (op==17)=true then
 SemE P (binS .mul 268 (.tmp 29) (.tmp 30) (.float .f64 r) (.float .f64 r1)) (shFlt .f64) (fun r2 h3=>
 CallT P zmd [(.float .f64 r2)] yH (fun r3 h4=>
 Q r3 0 h4) h3) h2
 else
 (if (op==18)=true then
 SemE P (binS .quo 268 (.tmp 35) (.tmp 36) (.float .f64 r) (.float .f64 r1)) (shFlt .f64) (fun r2 h3=>
 CallT P zmd [(.float .f64 r2)] yH (fun r3 h4=>
 Q r3 0 h4) h3) h2
 else
 (if (op==19)=true then
 SemV none P (binS .lss 268 (.tmp 41) (.tmp 42) (.float .f64 r) (.float .f64 r1)) zae h2 fun x=>
 (if x then
 Q 1 0 h2
 else
 Q 0 0 h2)
 else
 (if (op==20)=true then
 SemV none P (convert 2 268 (yI b)) (shFlt .f64) h2 fun x=>
 CallT P zmd [(.float .f64 x)] yH (fun r2 h3=>
 Q r2 0 h3) h2
 else
 (if (op==21)=true then
 CallT P zed1 [(.float .f64 r)] yH (fun r2 h3=>
 Q r2 0 h3) h2
 else
 Q 0 9 h2)))))))) h1) h
def zef (P:Program) (m:Option Addr) (p:Option Addr) (q:Option Addr) (v:Int) (Q:(Hp->Prop)) (h:Hp):Prop:=
 NilW none q fun p1=>
 yLi h p1 3 fun x=>
 CallT P zit [(yI x)] zae (fun r h1=>
 (if (!r)=true then
 Call0 P zal [(yP m),(yP p),(yI 2)] (fun h2=>
 Q h2) h1
 else
 NilW none q fun p2=>
 yLp h1 p2 14 fun x1=>
 NilW none p fun p3=>
 yLi h1 p3 1 fun x2=>
 CallT P zis [(yP x1),(yI x2),(yI v)] yH (fun r1 h2=>
 (if (r1 !=0)=true then
 NilW none q fun p4=>
 yLp h2 p4 14 fun x3=>
 NilW none p fun p5=>
 yLi h2 p5 1 fun x4=>
 NilW none p fun p6=>
 yLi h2 p6 0 fun x5=>
 CallT P zrv [(yP x3),(yI x4),(yI x5),(yI v)] yH (fun r2 h3=>
 NilW none p fun p7=>
 StW h3 (Addr.add p7 3) [(yI 2)] (fun h4=>
 Q h4)) h2
 else
 Call0 P zcg [(yP m),(yP q)] (fun h3=>
 Call0 P zal [(yP m),(yP p),(yI 0)] (fun h4=>
 Q h4) h3) h2)) h1)) h
def zzq (P:Program) (c:S_cpu_Core) (code:Sl) (v:Int) (from_:Int) (Q:(S_cpu_Core->(Hp->Prop))) (h:Hp):Prop:=
 NewW [(yI c.PC),(yI c.Regs_0),(yI c.Regs_1),(yI c.Regs_2),(yI c.Regs_3),(yI c.Regs_4),(yI c.Regs_5),(yI c.Regs_6),(yI c.Regs_7)] (fun a h1=>
 JoinW0 (fun k=>
 LdW none zad h1 a fun x=>
 Call2 P zye [x.v,code.v] sh_api_Ins zae (fun r r1 h2=>
 (if r1 then
 Call0 P zbj [(yP (some a)),(yI r.A),(yI v)] (fun h3=>
 Call0 P zbj [(yP (some a)),(yI r.B),(yI from_)] (fun h4=>
 k h4) h3) h2
 else
 k h2)) h1)
 (fun h2=>
 LdW none zad h2 a fun x=>
 CallT P zfj [x.v] zad (fun r h3=>
 Q r h3) h2)) h
def zcq (P:Program) (s:Sl) (i:Int) (j:Int) (Q:(Sl->(Hp->Prop))) (h:Hp):Prop:=
 ((0<=i/\(i<=j/\(j<=(s.len:Int)/\(s.len:Int)<=(s.cap:Int))))/\LetW (α:=Sl) ⟨(sbase s.base 2 (Int.toNat i) (Int.toNat (s.len:Int))),((Int.toNat j)-(Int.toNat i)),((Int.toNat (s.len:Int))-(Int.toNat i))⟩ fun y=>
 (if (i==j)=true then
 Q s h
 else
 ((0<=i/\i<=(s.cap:Int))/\LetW (α:=Sl) ⟨(sbase s.base 2 0 s.cap),((Int.toNat i)-0),(s.cap-0)⟩ fun y1=>
 ((0<=j/\j<=(s.len:Int))/\LetW (α:=Sl) ⟨(sbase s.base 2 (Int.toNat j) s.cap),(s.len-(Int.toNat j)),(s.cap-(Int.toNat j))⟩ fun y2=>
 zap 2 16 [(yI 0),(yI 0)] y1 y2 (fun r h1=>
 ((0<=(r.len:Int)/\((r.len:Int)<=(s.len:Int)/\(s.len:Int)<=(r.cap:Int)))/\LetW (α:=Sl) ⟨(sbase r.base 2 (Int.toNat (r.len:Int)) r.cap),((Int.toNat (s.len:Int))-(Int.toNat (r.len:Int))),(r.cap-(Int.toNat (r.len:Int)))⟩ fun y3=>
 SemE0 P (Builtin.clear_ #[167] 0 #[y3.v]) znt (fun h2=>
 Q r h2) h1)) h))))
def zhx (P:Program) (l:Option Addr) (n:Int) (p:Int) (Q:(Int->(Hp->Prop))) (h:Hp):Prop:=
 NilW (some (!(decide (n<0)))) l fun p1=>
 LdW (some (!(decide (n<0)))) shSl h (Addr.add p1 0) fun x=>
 LetW ((decide (n<0)) || (decide (n>=(x.len:Int)))) fun y=>
 (if y then
 Q 2 h
 else
 (if decide (p<0) then
 Q 1 h
 else
 Q 0 h))
def zfs (P:Program) (s:Sl) (v:Int) (Q:(Int->(Hp->Prop))) (h:Hp):Prop:=
 LoopW1 (α1:=Int) (fun again t8 h1=>
 (if decide (t8<(s.len:Int)) then
 ((InB s.base s.len t8)/\LdW none yH h1 (sat s.base 1 t8) fun x=>
 (if (v==x)=true then
 Q t8 h1
 else
 again (IntKind.wrap .i64 (t8+1)) h1))
 else
 Q (-1) h1)) 0 h
def zlk (P:Program) (l:Option Addr) (Q:(Bool->(Hp->Prop))) (h:Hp):Prop:=
 NilW none l fun p=>
 yLs h p 1 fun x=>
 NilW none l fun p1=>
 yLi h p1 0 fun x1=>
 Q (decide ((x.len:Int)>=x1)) h
def zwm (P:Program) (n:Int) (Q:(Int->(Hp->Prop))) (h:Hp):Prop:=
 Q (min2I (IntKind.wrap .i64 (n+1)) 65535) h
def zki (P:Program) (l:Option Addr) (p:Int) (Q:(Bool->(Hp->Prop))) (h:Hp):Prop:=
 CallT P zkb [(yP l),(yI p)] yH (fun r h1=>
 (if decide (r<0) then
 Q false h1
 else
 NilW none l fun p1=>
 yLs h1 p1 2 fun x=>
 CallT P zcy [x.v,(yI r),(yI (IntKind.wrap .i64 (r+1)))] shSl (fun r1 h2=>
 NilW none l fun p2=>
 StW h2 (Addr.add p2 2) [r1.v] (fun h3=>
 Q true h3)) h1)) h
def zex (P:Program) (s:Sl) (i:Int) (j:Int) (Q:(Sl->(Hp->Prop))) (h:Hp):Prop:=
 ((0<=i/\(i<=j/\(j<=(s.len:Int)/\(s.len:Int)<=(s.cap:Int))))/\LetW (α:=Sl) ⟨(sbase s.base 1 (Int.toNat i) (Int.toNat (s.len:Int))),((Int.toNat j)-(Int.toNat i)),((Int.toNat (s.len:Int))-(Int.toNat i))⟩ fun y=>
 (if (i==j)=true then
 Q s h
 else
 ((0<=i/\i<=(s.cap:Int))/\LetW (α:=Sl) ⟨(sbase s.base 1 0 s.cap),((Int.toNat i)-0),(s.cap-0)⟩ fun y1=>
 ((0<=j/\j<=(s.len:Int))/\LetW (α:=Sl) ⟨(sbase s.base 1 (Int.toNat j) s.cap),(s.len-(Int.toNat j)),(s.cap-(Int.toNat j))⟩ fun y2=>
 zap 1 8 [(yI 0)] y1 y2 (fun r h1=>
 ((0<=(r.len:Int)/\((r.len:Int)<=(s.len:Int)/\(s.len:Int)<=(r.cap:Int)))/\LetW (α:=Sl) ⟨(sbase r.base 1 (Int.toNat (r.len:Int)) r.cap),((Int.toNat (s.len:Int))-(Int.toNat (r.len:Int))),(r.cap-(Int.toNat (r.len:Int)))⟩ fun y3=>
 SemE0 P (Builtin.clear_ #[24] 0 #[y3.v]) znt (fun h2=>
 Q r h2) h1)) h))))
def zmw (P:Program) (l:Option Addr) (Q:(Sl->(Hp->Prop))) (h:Hp):Prop:=
 NilW none l fun p=>
 yLs h p 2 fun x=>
 NilW none l fun p1=>
 yLs h p1 2 fun x1=>
 NilW none l fun p2=>
 yLs h p2 2 fun x2=>
 ((0<=(x1.len:Int)/\((x1.len:Int)<=(x2.len:Int)/\(x2.len:Int)<=(x.cap:Int)))/\LetW (α:=Sl) ⟨(sbase x.base 2 0 (Int.toNat (x2.len:Int))),((Int.toNat (x1.len:Int))-0),((Int.toNat (x2.len:Int))-0)⟩ fun y=>
 NilW none l fun p3=>
 StW h (Addr.add p3 2) [yN] (fun h1=>
 Q y h1))
def zzr (P:Program) (c:S_cpu_Core) (code:Sl) (reply:Int) (Q:(S_cpu_Core->(Hp->Prop))) (h:Hp):Prop:=
 NewW [(yI c.PC),(yI c.Regs_0),(yI c.Regs_1),(yI c.Regs_2),(yI c.Regs_3),(yI c.Regs_4),(yI c.Regs_5),(yI c.Regs_6),(yI c.Regs_7)] (fun a h1=>
 JoinW0 (fun k=>
 LdW none zad h1 a fun x=>
 Call2 P zye [x.v,code.v] sh_api_Ins zae (fun r r1 h2=>
 (if r1 then
 Call0 P zbj [(yP (some a)),(yI r.A),(yI reply)] (fun h3=>
 k h3) h2
 else
 k h2)) h1)
 (fun h2=>
 LdW none zad h2 a fun x=>
 CallT P zfj [x.v] zad (fun r h3=>
 Q r h3) h2)) h
def ztk (P:Program) (x:S_api_Ins) (n:Int) (locks:Int) (Q:(Int->(Int->(Hp->Prop)))) (h:Hp):Prop:=
 LetW ((decide (x.Op<0)) || (decide (x.Op>=34))) fun y=>
 (if y then
 Q 9 0 h
 else
 Call4 P zqo [(yI x.Op)] zae zae zae zae (fun r r1 r2 r3 h1=>
 CallT P zix [(.bool r),(yI x.A)] yH (fun r4 h2=>
 (if (r4 !=0)=true then
 Q r4 1 h2
 else
 CallT P zix [(.bool r1),(yI x.B)] yH (fun r5 h3=>
 (if (r5 !=0)=true then
 Q r5 2 h3
 else
 CallT P zix [(.bool r2),(yI x.C)] yH (fun r6 h4=>
 (if (r6 !=0)=true then
 Q r6 3 h4
 else
 CallT P zyf [x.v,(.bool r3),(yI n),(yI locks)] yH (fun r7 h5=>
 Q r7 4 h5) h4)) h3)) h2)) h1) h)
def zzs (P:Program) (room:Int) (Q:(Option Addr->(Int->(Hp->Prop)))) (h:Hp):Prop:=
 CallT P zly [(yI room),(yI 1),(yI 64)] zae (fun r h1=>
 (if (!r)=true then
 Q none 1 h1
 else
 NewW [(yI room),yN,yN,(yI 0),(yI 0)] (fun a h2=>
 Q (some a) 0 h2) h1)) h
def zlz (P:Program) (n:Int) (from_:Int) (to:Int) (Q:(Bool->(Hp->Prop))) (h:Hp):Prop:=
 LetW ((decide (n>=from_))&&(decide (n<=to))) fun y=>
 Q y h
def ztl (P:Program) (l:Sl) (Q:(Bool->(Hp->Prop))) (h:Hp):Prop:=
 zxq  (fun r h1=>
 LoopW1 (α1:=Int) (fun again t9 h2=>
 (if decide (t9<(l.len:Int)) then
 ((InB l.base l.len t9)/\LdW none sh_api_Waiter h2 (sat l.base 2 t9) fun x=>
 LookW none (.int .i64) yH (yI 0) r (yI x.Proc) h2 fun x1 ok=>
 zvt (.int .i64) r (yI x.Proc) (yI (IntKind.wrap .i64 (x1+1))) (fun h3=>
 LookW none (.int .i64) yH (yI 0) r (yI x.Proc) h3 fun x2 ok1=>
 (if decide (x2>1) then
 Q true h3
 else
 again (IntKind.wrap .i64 (t9+1)) h3)) h2)
 else
 Q false h2)) 0 h1) h
def ztm (P:Program) (vals:Sl) (Q:(Int->(Hp->Prop))) (h:Hp):Prop:=
 LoopW1 (α1:=Int) (fun again t8 h1=>
 (if decide (t8<(vals.len:Int)) then
 ((InB vals.base vals.len t8)/\LdW none yH h1 (sat vals.base 1 t8) fun x=>
 (if (x !=0)=true then
 Q x h1
 else
 again (IntKind.wrap .i64 (t8+1)) h1))
 else
 Q 0 h1)) 0 h
def zhy (P:Program) (x:Int) (y:Int) (Q:(Int->(Hp->Prop))) (h:Hp):Prop:=
 CallT P zkc [(yI x)] zae (fun r h1=>
 CallT P zkc [(yI y)] zae (fun r1 h2=>
 (if r then
 (if r1 then
 Q 0 h2
 else
 Q (-1) h2)
 else
 (if r1 then
 Q 1 h2
 else
 (if decide (x<y) then
 Q (-1) h2
 else
 (if decide (x>y) then
 Q 1 h2
 else
 Q 0 h2))))) h1) h
def zkj (P:Program) (x:Int) (y:Int) (Q:(Int->(Hp->Prop))) (h:Hp):Prop:=
 CallT P zmo [(yI x)] zae (fun r h1=>
 CallT P zmo [(yI y)] zae (fun r1 h2=>
 (if r then
 (if r1 then
 Q 0 h2
 else
 Q (-1) h2)
 else
 (if r1 then
 Q 1 h2
 else
 (if decide (x<y) then
 Q (-1) h2
 else
 (if decide (x>y) then
 Q 1 h2
 else
 Q 0 h2))))) h1) h
def zkk (P:Program) (x:Int) (y:Int) (Q:(Int->(Int->(Hp->Prop)))) (h:Hp):Prop:=
 ((0:Int)<=(32:Int)/\((0:Int)<=(32:Int)/\((0:Int)<=(32:Int)/\((0:Int)<=(32:Int)/\((0:Int)<=(32:Int)/\Q (IntKind.wrap .u64 ((IntKind.wrap .u64 ((IntKind.wrap .u64 ((shrI .u64 x (32:Int))*(shrI .u64 y (32:Int))))+(shrI .u64 (IntKind.wrap .u64 ((IntKind.wrap .u64 ((shrI .u64 x (32:Int))*(bitsI .and .u64 y (4294967295:Int))))+(shrI .u64 (IntKind.wrap .u64 ((bitsI .and .u64 x (4294967295:Int))*(bitsI .and .u64 y (4294967295:Int)))) (32:Int)))) (32:Int))))+(shrI .u64 (IntKind.wrap .u64 ((bitsI .and .u64 (IntKind.wrap .u64 ((IntKind.wrap .u64 ((shrI .u64 x (32:Int))*(bitsI .and .u64 y (4294967295:Int))))+(shrI .u64 (IntKind.wrap .u64 ((bitsI .and .u64 x (4294967295:Int))*(bitsI .and .u64 y (4294967295:Int)))) (32:Int)))) (4294967295:Int))+(IntKind.wrap .u64 ((bitsI .and .u64 x (4294967295:Int))*(shrI .u64 y (32:Int)))))) (32:Int)))) (IntKind.wrap .u64 (x*y)) h)))))
def zog (P:Program) (b:Int) (c:Int) (Q:(Int->(Hp->Prop))) (h:Hp):Prop:=
 (if (c==0)=true then
 Q 0 h
 else
 (if (c==(-1))=true then
 Q (IntKind.wrap .i64 (0-b)) h
 else
 (c≠0/\Q (IntKind.wrap .i64 (Int.tdiv b c)) h)))
def zib1 (P:Program) (b:Int) (c:Int) (Q:(Int->(Hp->Prop))) (h:Hp):Prop:=
 (if decide (c<0) then
 Q b h
 else
 (0<=(IntKind.wrap .u64 c)/\Q (shlI .i64 b (IntKind.wrap .u64 c)) h))
def zef1 (P:Program) (b:Int) (c:Int) (Q:(Int->(Hp->Prop))) (h:Hp):Prop:=
 (if decide (c<0) then
 Q b h
 else
 (0<=(IntKind.wrap .u64 c)/\Q (shrI .i64 b (IntKind.wrap .u64 c)) h))
def zeg1 (P:Program) (is:Bool) (Q:(Int->(Hp->Prop))) (h:Hp):Prop:=
 (if is then
 Q 1 h
 else
 Q 0 h)
def zwn (P:Program) (bits:Int) (Q:(Nat->(Hp->Prop))) (h:Hp):Prop:=
 SemE P (Extern.MathFloatBits.float64frombits #[(.int .u64 (IntKind.wrap .u64 bits))]) (shFlt .f64) (fun r h1=>
 Q r h1) h
def zzt (P:Program) (f:Nat) (Q:(Int->(Hp->Prop))) (h:Hp):Prop:=
 SemV none P (binS .neq 268 (.tmp 3) (.tmp 4) (.float .f64 f) (.float .f64 f)) zae h fun x=>
 (if x then
 Q 9221120237041090560 h
 else
 SemE P (Extern.MathFloatBits.float64bits #[(.float .f64 f)]) (shInt .u64) (fun r h1=>
 Q (IntKind.wrap .i64 r) h1) h)
def zwo (P:Program) (f:Nat) (Q:(Int->(Hp->Prop))) (h:Hp):Prop:=
 SemV none P (binS .neq 268 (.tmp 4) (.tmp 5) (.float .f64 f) (.float .f64 f)) zae h fun x=>
 (if x then
 Q 0 h
 else
 SemV none P (binS .geq 268 (.tmp 8) (.const (.float .f64 4890909195324358656)) (.float .f64 f) (.float .f64 4890909195324358656)) zae h fun x1=>
 (if x1 then
 Q 9223372036854775807 h
 else
 SemV none P (binS .lss 268 (.tmp 11) (.const (.float .f64 14114281232179134464)) (.float .f64 f) (.float .f64 14114281232179134464)) zae h fun x2=>
 (if x2 then
 Q (-9223372036854775808) h
 else
 SemV none P (convert 268 2 (.float .f64 f)) yH h fun x3=>
 Q x3 h)))
def zll (P:Program) (p:Option Addr) (lane:Int) (proc:Int) (v:Int) (Q:(Int->(Hp->Prop))) (h:Hp):Prop:=
 CallT P zgu [(yP p),(yI lane)] zae (fun r h1=>
 (if (!r)=true then
 Q 2 h1
 else
 CallT P zph [(yP p),(yI proc)] yH (fun r1 h2=>
 (if decide (r1>=0) then
 Q 8 h2
 else
 NilW none p fun p1=>
 yLs h2 p1 0 fun x=>
 ((InB x.base x.len lane)/\LdW none shPtr h2 (sat x.base 1 lane) fun x1=>
 CallT P zrw [(yP x1),(yI proc),(yI v)] yH (fun r2 h3=>
 Q r2 h3) h2))) h1)) h
def zpi (P:Program) (p:Option Addr) (Q:(FnV->(Hp->Prop))) (h:Hp):Prop:=
 NilW none p fun p1=>
 yLi h p1 1 fun x=>
 NilW none p fun p2=>
 yLs h p2 0 fun x1=>
 NewW [(yI 0)] (fun a h1=>
 (((LdIs h1 (Addr.add p1 1) [(yI x)])/\((LdIs h1 (Addr.add p2 0) [x1.v])/\True))/\StW h1 a [(yI x)] (fun h2=>
 (((LdIs h2 (Addr.add p2 0) [x1.v])/\True)/\NewW [(yI (x1.len:Int))] (fun a1 h3=>
 Q ⟨218, #[], #[(yP (some a1)),(yP (some a))]⟩ h3) h2)))) h
def zmx (P:Program) (l:Option Addr) (Q:(Int->(Hp->Prop))) (h:Hp):Prop:=
 NilW none l fun p=>
 yLs h p 1 fun x=>
 Q (x.len:Int) h
def zlm (P:Program) (l:Option Addr) (Q:(Int->(S_api_Waiter->(Bool->(Int->(Hp->Prop)))))) (h:Hp):Prop:=
 NilW none l fun p=>
 yLs h p 1 fun x=>
 (if ((x.len:Int)==(0:Int))=true then
 Q (0:Int) ⟨(0:Int),(0:Int)⟩ false (21:Int) h
 else
 NilW none l fun p1=>
 yLs h p1 1 fun x1=>
 ((InB x1.base x1.len (0:Int))/\LdW none yH h (sat x1.base 1 (0:Int)) fun x2=>
 NilW none l fun p2=>
 yLs h p2 1 fun x3=>
 NilW none l fun p3=>
 yLs h p3 1 fun x4=>
 (((0:Int)<=(1:Int)/\(1:Int)<=(x4.len:Int))/\LetW (α:=Sl) ⟨(sbase x4.base 1 1 x4.cap),(x4.len-1),(x4.cap-1)⟩ fun y=>
 CopyW 1 x3 y (fun r h1=>
 NilW none l fun p4=>
 yLs h1 p4 1 fun x5=>
 (((0:Int)<=r/\r<=(x5.cap:Int))/\LetW (α:=Sl) ⟨(sbase x5.base 1 0 x5.cap),((Int.toNat r)-0),(x5.cap-0)⟩ fun y1=>
 NilW none l fun p5=>
 StW h1 (Addr.add p5 1) [y1.v] (fun h2=>
 NilW none l fun p6=>
 yLi h2 p6 3 fun x6=>
 CallT P zwh [(yI x6)] yH (fun r1 h3=>
 NilW none l fun p7=>
 StW h3 (Addr.add p7 3) [(yI r1)] (fun h4=>
 NilW none l fun p8=>
 yLs h4 p8 2 fun x7=>
 (if decide ((x7.len:Int)>(0:Int)) then
 NilW none l fun p9=>
 yLs h4 p9 2 fun x8=>
 ((InB x8.base x8.len (0:Int))/\LdW none sh_api_Waiter h4 (sat x8.base 2 (0:Int)) fun x9=>
 NilW none l fun p10=>
 yLs h4 p10 2 fun x10=>
 NilW none l fun p11=>
 yLs h4 p11 2 fun x11=>
 NilW none l fun p12=>
 yLs h4 p12 2 fun x12=>
 (((0:Int)<=(1:Int)/\((1:Int)<=(x11.len:Int)/\((x11.len:Int)<=(x12.len:Int)/\(x12.len:Int)<=(x10.cap:Int))))/\LetW (α:=Sl) ⟨(sbase x10.base 2 1 (Int.toNat (x12.len:Int))),((Int.toNat (x11.len:Int))-1),((Int.toNat (x12.len:Int))-1)⟩ fun y2=>
 NilW none l fun p13=>
 StW h4 (Addr.add p13 2) [y2.v] (fun h5=>
 NilW none l fun p14=>
 yLs h5 p14 1 fun x13=>
 NewW [(yI x9.Value_)] (fun a h6=>
 (((LdIs h6 (Addr.add p14 1) [x13.v])/\True)/\zap 1 8 [(yI (0:Int))] x13 ⟨(some a),1,1⟩ (fun r2 h7=>
 NilW none l fun p15=>
 StW h7 (Addr.add p15 1) [r2.v] (fun h8=>
 Q x2 x9 true (0:Int) h8)) h6)) h5)))
 else
 Q x2 ⟨(0:Int),(0:Int)⟩ false (0:Int) h4))) h2))) h)))
def zkl (P:Program) (l:Option Addr) (p:Int) (Q:(Int->(Hp->Prop))) (h:Hp):Prop:=
 NewW [(yI p)] (fun a h1=>
 NilW none l fun p1=>
 yLs h1 p1 2 fun x=>
 CallT P zck [x.v,(.func (.func 220) #[] #[(yP (some a))])] yH (fun r h2=>
 Q r h2) h1) h
def zbd (P:Program) (s:Sl) (i:Int) (j:Int) (Q:(Sl->(Hp->Prop))) (h:Hp):Prop:=
 ((0<=i/\(i<=j/\(j<=(s.len:Int)/\(s.len:Int)<=(s.cap:Int))))/\LetW (α:=Sl) ⟨(sbase s.base 2 (Int.toNat i) (Int.toNat (s.len:Int))),((Int.toNat j)-(Int.toNat i)),((Int.toNat (s.len:Int))-(Int.toNat i))⟩ fun y=>
 (if (i==j)=true then
 Q s h
 else
 ((0<=i/\i<=(s.cap:Int))/\LetW (α:=Sl) ⟨(sbase s.base 2 0 s.cap),((Int.toNat i)-0),(s.cap-0)⟩ fun y1=>
 ((0<=j/\j<=(s.len:Int))/\LetW (α:=Sl) ⟨(sbase s.base 2 (Int.toNat j) s.cap),(s.len-(Int.toNat j)),(s.cap-(Int.toNat j))⟩ fun y2=>
 zap 2 16 [(yI 0),(yI 0)] y1 y2 (fun r h1=>
 ((0<=(r.len:Int)/\((r.len:Int)<=(s.len:Int)/\(s.len:Int)<=(r.cap:Int)))/\LetW (α:=Sl) ⟨(sbase r.base 2 (Int.toNat (r.len:Int)) r.cap),((Int.toNat (s.len:Int))-(Int.toNat (r.len:Int))),(r.cap-(Int.toNat (r.len:Int)))⟩ fun y3=>
 SemE0 P (Builtin.clear_ #[142] 0 #[y3.v]) znt (fun h2=>
 Q r h2) h1)) h))))
def zqw (P:Program) (op:Int) (Q:(Bool->(Bool->(Bool->(Bool->(Hp->Prop)))))) (h:Hp):Prop:=
 CallT P zyg [(yI op)] shStr (fun r h1=>
 NewW [(.string ⟨#[]⟩)] (fun a h2=>
 StW h2 a [(.string r)] (fun h3=>
 CallV P tb (.func (.func 222) #[] #[(yP (some a))]) [(.string ⟨#[97]⟩)] zae (fun r1 h4=>
 CallV P tb (.func (.func 222) #[] #[(yP (some a))]) [(.string ⟨#[98]⟩)] zae (fun r2 h5=>
 CallV P tb (.func (.func 222) #[] #[(yP (some a))]) [(.string ⟨#[99]⟩)] zae (fun r3 h6=>
 CallV P tb (.func (.func 222) #[] #[(yP (some a))]) [(.string ⟨#[105]⟩)] zae (fun r4 h7=>
 Q r1 r2 r3 r4 h7) h6) h5) h4) h3)) h1) h
def zmy (P:Program) (has:Bool) (n:Int) (Q:(Int->(Hp->Prop))) (h:Hp):Prop:=
 LetW ((!has)&&(n !=0)) fun y=>
 (if y then
 Q 11 h
 else
 LetW ((decide (n<0)) || (decide (n>=8))) fun y1=>
 (if y1 then
 Q 10 h
 else
 Q 0 h))
def zqx (P:Program) (x:S_api_Ins) (has:Bool) (n:Int) (locks:Int) (Q:(Int->(Hp->Prop))) (h:Hp):Prop:=
 LetW ((!has)&&(x.Imm !=0)) fun y=>
 (if y then
 Q 11 h
 else
 LetW ((x.Op==22) || (x.Op==23)) fun y1=>
 (if y1 then
 LetW ((decide (x.Imm<0)) || (decide (x.Imm>n))) fun y2=>
 (if y2 then
 Q 12 h
 else
 Q 0 h)
 else
 LetW ((x.Op==29) || (x.Op==30)) fun y2=>
 (if y2 then
 LetW ((decide (x.Imm<0)) || (decide (x.Imm>=locks))) fun y3=>
 (if y3 then
 Q 13 h
 else
 Q 0 h)
 else
 Q 0 h)))
def zkm (P:Program) (x:Int) (Q:(Bool->(Hp->Prop))) (h:Hp):Prop:=
 Q (x !=x) h
def zmz (P:Program) (x:Int) (Q:(Bool->(Hp->Prop))) (h:Hp):Prop:=
 Q (x !=x) h
def zkn (P:Program) (p:Option Addr) (proc:Int) (Q:(Int->(Hp->Prop))) (h:Hp):Prop:=
 NilW none p fun p1=>
 yLs h p1 0 fun x=>
 LoopW1 (α1:=Int) (fun again t14 h1=>
 (if decide (t14<(x.len:Int)) then
 ((InB x.base x.len t14)/\LdW none shPtr h1 (sat x.base 1 t14) fun x1=>
 CallT P zjy [(yP x1)] sh_api_Lane (fun r h2=>
 LoopW1 (α1:=Int) (fun again1 t23 h3=>
 (if decide (t23<(r.Waiters.len:Int)) then
 ((InB r.Waiters.base r.Waiters.len t23)/\LdW none sh_api_Waiter h3 (sat r.Waiters.base 2 t23) fun x2=>
 (if (x2.Proc==proc)=true then
 Q t14 h3
 else
 again1 (IntKind.wrap .i64 (t23+1)) h3))
 else
 again (IntKind.wrap .i64 (t14+1)) h3)) 0 h2) h1)
 else
 Q (-1) h1)) 0 h
def zln (P:Program) (l:Option Addr) (p:Int) (v:Int) (Q:(Int->(Hp->Prop))) (h:Hp):Prop:=
 CallT P zlf [(yP l)] zae (fun r h1=>
 (if (!r)=true then
 Q 20 h1
 else
 CallT P zkb [(yP l),(yI p)] yH (fun r1 h2=>
 (if decide (r1>=0) then
 Q 8 h2
 else
 NilW none l fun p1=>
 yLs h2 p1 2 fun x=>
 NewW [(yI p),(yI v)] (fun a h3=>
 zap 2 16 [(yI 0),(yI 0)] x ⟨(some a),1,1⟩ (fun r2 h4=>
 NilW none l fun p2=>
 StW h4 (Addr.add p2 2) [r2.v] (fun h5=>
 Q 0 h5)) h3) h2)) h1)) h
def zbb (P:Program) (s:Sl) (f:FnV) (Q:(Int->(Hp->Prop))) (h:Hp):Prop:=
 LoopW1 (α1:=Int) (fun again t8 h1=>
 (if decide (t8<(s.len:Int)) then
 ((InB s.base s.len t8)/\LdW none sh_api_Waiter h1 (sat s.base 2 t8) fun x=>
 CallV P tb (.func (.func f.g) f.first f.captured) [x.v] zae (fun r h2=>
 (if r then
 Q t8 h2
 else
 again (IntKind.wrap .i64 (t8+1)) h2)) h1)
 else
 Q (-1) h1)) 0 h
def zna (P:Program) (w:S_api_Waiter) (a1:Addr) (Q:(Bool->(Hp->Prop))) (h:Hp):Prop:=
 LdW none yH h a1 fun x=>
 Q (w.Proc==x) h
def zqy (P:Program) (op:Int) (Q:(ByteArray->(Hp->Prop))) (h:Hp):Prop:=
 LetW ((decide (op<0)) || (decide (op>=34))) fun y=>
 (if y then
 Q ⟨#[]⟩ h
 else
 ((0<=op/\op<34)/\∃x:ByteArray,((List.get?Internal (α:=Value) [(.string ⟨#[]⟩),(.string ⟨#[97,105]⟩),(.string ⟨#[97,98]⟩),(.string ⟨#[97,98,99]⟩),(.string ⟨#[97,98,99]⟩),(.string ⟨#[97,98,99]⟩),(.string ⟨#[97,98,99]⟩),(.string ⟨#[97,98,99]⟩),(.string ⟨#[97,98,99]⟩),(.string ⟨#[97,98,99]⟩),(.string ⟨#[97,98,99]⟩),(.string ⟨#[97,98,99]⟩),(.string ⟨#[97,98,99]⟩),(.string ⟨#[97,98,99]⟩),(.string ⟨#[97,98,99]⟩),(.string ⟨#[97,98,99]⟩),(.string ⟨#[97,98,99]⟩),(.string ⟨#[97,98,99]⟩),(.string ⟨#[97,98,99]⟩),(.string ⟨#[97,98,99]⟩),(.string ⟨#[97,98]⟩),(.string ⟨#[97,98]⟩),(.string ⟨#[105]⟩),(.string ⟨#[97,105]⟩),(.string ⟨#[97,98,99]⟩),(.string ⟨#[97,98]⟩),(.string ⟨#[97,98]⟩),(.string ⟨#[97]⟩),(.string ⟨#[97]⟩),(.string ⟨#[105]⟩),(.string ⟨#[105]⟩),(.string ⟨#[97]⟩),(.string ⟨#[97]⟩),(.string ⟨#[97]⟩)] ((Int.toNat op)*1))=(some (.string x))/\Q x h)))
def ztn (P:Program) (field:ByteArray) (a1:Addr) (Q:(Bool->(Hp->Prop))) (h:Hp):Prop:=
 LdW none shStr h a1 fun x=>
 CallT P znz [(.string x),(.string field)] zae (fun r h1=>
 Q r h1) h
end Lf
namespace Lf
open Go
def Ann.s (a:Ann):Ann:=.sq .tt a
def rgR (a n:Nat):List (Nat×List Nat):=(List.range' a n).map fun i=>(i,[])
def zlo :List Nat:=[]
def zlp :Ann:=.tt
def zsa :List Nat:=[5]
def zsb :Ann:=(.s (.s (.s (.s (.sq (.s (.bk (.lp [⟨false,3,3⟩,⟨false,4,3⟩] [] .tt))) .tt)))))
def zjl1 :List Nat:=[1]
def zjm1 :Ann:=(.s (.s (.sq (.rg ([(0,[]),(1,[]),(2,[0])]++rgR 3 3)) .tt)))
def zqz :List Nat:=[2,3]
def zra :Ann:=(.s (.s (.sq (.s (.bk (.lp [⟨false,26,3⟩,⟨true,3,51⟩] [3] (.s (.s (.sq (.bk (.s (.s (.rg (rgR 0 10++rgR 11 10++ [(10,[1,5,14,18]),(21,[]),(22,[1])]++rgR 23 3))))) .tt)))))) (.sq (.s (.bk (.lp [⟨false,69,3⟩,⟨true,3,51⟩] [3] (.s (.s (.sq (.bk (.s (.s (.sq (.rg (rgR 0 14++ [(14,[3,7,9,12])]++rgR 15 6)) (.sq (.rg (rgR 0 14++ [(14,[3,7,9,12])]++rgR 15 6)) (.rg (rgR 0 25++ [(25,[1])]++rgR 26 3))))))) .tt)))))) .tt))))
def zsc :List Nat:=[]
def zsd :Ann:=(.s (.sq (.rg (rgR 0 10)) (.s (.s (.s (.sq (.s (.bj [] [] (.lp [⟨false,32,3⟩] [] (.s (.s (.sq (.bk (.sq (.s (.bk (.lp [⟨false,39,3⟩] [] (.s (.s (.sq (.bk (.s (.sq (.rg (rgR 0 13)) (.sq (.rg (rgR 0 14)) .tt)))) .tt)))))) .tt)) .tt)))))) .tt))))))
def zpj :List Nat:=[]
def zpk :Ann:=(.s (.s (.sq (.rg (rgR 0 14)) .tt)))
def zpl :List Nat:=[0]
def zpm :Ann:=.tt
def zui1 :List Nat:=[1,15]
def zuj1 :Ann:=(.s (.s (.s (.s (.sq (.s (.bk (.lp [⟨false,57,3⟩] [] .tt))) (.s (.sq (.s (.bk (.lp [⟨false,80,3⟩] [15] .tt))) .tt)))))))
def zgp1 :List Nat:=[2,3,7,11,12]
def zgq1 :Ann:=(.s (.sq (.rg ([(0,[]),(2,[]),(3,[]),(1,[3])]++rgR 4 3)) (.s (.s (.sq (.s (.bk (.lp [⟨false,48,3⟩] [7] (.s (.s (.sq (.bk (.s (.s (.rg (rgR 0 9++rgR 10 5++ [(9,[4,6,11,13]),(15,[4,6,11,13]),(16,[]),(17,[4]),(18,[4])]++rgR 19 4))))) .tt)))))) (.sq (.s (.bk (.lp [⟨false,86,3⟩] [11,12] (.s (.s (.sq (.bj [] [11,12] (.s (.s (.s (.sq (.rg (rgR 0 21++ [(21,[4]),(22,[4])]++rgR 23 4)) (.sq (.rg (rgR 0 9)) (.s (.jn [] [] (.s (.sq (.rg (rgR 0 5++ [(6,[]),(7,[]),(5,[3,7]),(8,[])])) .tt)) (.s (.sq (.rg (rgR 0 5++ [(6,[]),(7,[]),(5,[3,7]),(8,[])])) .tt)))))))))) .tt)))))) .tt))))))
def zeh1 :List Nat:=[1,2,3]
def zei1 :Ann:=(.s (.sq (.r2 [(0,[]),(1,[]),(2,[]),(4,[]),(5,[]),(6,[]),(9,[])] 3 7 (.rg ([(3,[5]),(7,[]),(8,[]),(10,[])])) (.rg ([(7,[1]),(3,[5]),(8,[]),(10,[])]))) (.sq (.s (.bk (.lp [⟨false,18,3⟩] [] (.s (.s (.sq (.bj [] [] (.s (.r2 [(0,[]),(1,[]),(2,[]),(3,[]),(4,[]),(5,[]),(7,[]),(8,[]),(10,[]),(11,[])] 6 12 (.r2 [(6,[1,4,8,11])] 9 12 (.r2 [(9,[1,4,11]),(13,[]),(14,[])] 12 15 (.rg ([(12,[1,4]),(15,[4])]++rgR 16 3)) (.rg ([(15,[4,11]),(12,[1,4])]++rgR 16 3))) (.rg ([(12,[1,4,8]),(9,[1,4,11]),(13,[]),(14,[]),(15,[4,11])]++rgR 16 3))) (.rg ([(12,[1,4,8]),(6,[1,4,8,11]),(9,[1,4,11]),(13,[]),(14,[]),(15,[4,11])]++rgR 16 3))))) .tt)))))) (.sq (.s (.bk (.lp [⟨false,42,3⟩] [] (.s (.s (.sq (.bk (.s (.rg (rgR 0 7++ [(7,[1])]++rgR 8 3)))) .tt)))))) .tt))))
def zbr1 :List Nat:=[1,2,4]
def zbs1 :Ann:=(.s (.sq (.rg ([(0,[]),(1,[]),(3,[]),(4,[]),(6,[]),(7,[]),(2,[4,7]),(9,[]),(5,[7]),(8,[])]++rgR 10 5)) (.sq (.s (.bk (.lp [⟨false,20,3⟩] [4] (.s (.s (.sq (.bk (.s (.rg (rgR 0 5++ [(5,[1])]++rgR 6 3)))) .tt)))))) .tt)))
def zwp :List Nat:=[7]
def zwq :Ann:=(.s (.s (.s (.sq (.s (.bk (.lp [⟨false,4,24⟩,⟨false,5,64⟩,⟨false,13,3⟩] [7] .tt))) .tt))))
def zih :List Nat:=[]
def zii :Ann:=.tt
def zzu :List Nat:=[]
def zzv :Ann:=(.s (.s (.sq (.s (.bk (.lp [⟨false,4,70⟩,⟨false,12,3⟩] [] .tt))) (.sq (.rg (rgR 0 7)) .tt))))
def zzw :List Nat:=[6]
def zzx :Ann:=.tt
def zej1 :List Nat:=[]
def zek1 :Ann:=.tt
def zel1 :List Nat:=[]
def zem1 :Ann:=.tt
def zpg1 :List Nat:=[]
def zph1 :Ann:=(.s (.s (.s (.sq (.s (.bk (.lp [⟨false,29,3⟩] [] .tt))) .tt))))
def zwr :List Nat:=[]
def zws :Ann:=(.s (.s (.sq (.rg (rgR 0 14)) .tt)))
def zto :List Nat:=[]
def ztp :Ann:=(.sq (.rg (rgR 0 8++ [(10,[]),(8,[]),(9,[])])) (.bk (.lp [⟨false,17,3⟩] [] (.s (.s (.sq (.bj [] [] .tt) .tt))))))
def zse :List Nat:=[4,5]
def zsf :Ann:=(.sq (.rg (rgR 0 16++ [(20,[]),(21,[])]++rgR 16 4++ [(22,[]),(23,[])])) (.s (.sq (.rg (rgR 0 11)) (.s (.bk (.s (.s (.s (.s (.jn [⟨false,61,4⟩] [] .tt (.s (.s (.sq (.s (.sq (.rg (rgR 0 8++ [(8,[3]),(9,[])])) (.s (.sq (.rg (rgR 0 8++rgR 9 8++ [(8,[3,12,14]),(17,[])])) .tt)))) (.s (.sq (.sq (.rg (rgR 0 8++rgR 9 9++ [(8,[3,12,14]),(18,[])])) .tt) (.s (.sq (.sq (.rg (rgR 0 16)) .tt) (.s (.sq (.sq (.rg (rgR 0 8++ [(9,[]),(10,[]),(8,[10]),(11,[])])) (.sq (.sq (.rg (rgR 0 16)) .tt) .tt)) (.s (.sq (.sq (.rg (rgR 0 11)) (.sq (.rg (rgR 0 16++ [(16,[4])]++rgR 17 4)) .tt)) .tt)))))))))))))))))))))
def zrb :List Nat:=[]
def zrc :Ann:=.tt
def zen1 :List Nat:=[]
def zeo1 :Ann:=.tt
def zbt1 :List Nat:=[]
def zbu1 :Ann:=.tt
def zsg :List Nat:=[]
def zsh :Ann:=.tt
def zsi :List Nat:=[10,12]
def zsj :Ann:=(.sq (.rg (rgR 0 11)) (.s (.sq (.s (.bk (.lp [⟨false,35,3⟩] [] (.s (.s (.sq (.bk (.s (.rg (rgR 0 15)))) .tt)))))) (.sq (.sq (.rg (rgR 0 8++ [(10,[]),(8,[]),(9,[])])) (.bk (.lp [⟨false,65,3⟩] [10] .tt))) (.sq (.rg (rgR 0 8++ [(8,[3]),(9,[])])) (.sq (.rg (rgR 0 8++ [(8,[3]),(9,[])])) (.s (.bk (.lp [⟨false,100,3⟩] [12] (.s (.s (.sq (.bk (.s (.rg (rgR 0 10)))) .tt))))))))))))
def zpi1 :List Nat:=[]
def zpj1 :Ann:=(.s (.s (.sq (.s (.bk (.lp [⟨false,4,3⟩] [] (.s (.sq (.bk (.bk (.sq (.rg (rgR 0 11)) (.s (.sq (.rg (rgR 0 11)) .tt))))) .tt))))) .tt)))
def zpk1 :List Nat:=[]
def zpl1 :Ann:=.tt
def zpm1 :List Nat:=[]
def zpn1 :Ann:=(.s (.s (.s (.sq (.rg ([(0,[]),(2,[]),(1,[2])]++rgR 3 5)) .tt))))
def zjn1 :List Nat:=[]
def zjo1 :Ann:=.tt
def zjp1 :List Nat:=[]
def zjq1 :Ann:=.tt
def zuk1 :List Nat:=[7]
def zul1 :Ann:=(.s (.s (.sq (.s (.bk (.lp [⟨false,22,3⟩] [7] .tt))) .tt)))
def zpo1 :List Nat:=[]
def zpp1 :Ann:=(.s (.s (.s (.s (.sq (.s (.bk (.lp [⟨false,30,3⟩] [] (.s (.s (.sq (.bk (.s (.s (.s (.s (.bk (.lp [⟨false,65,3⟩] [] (.s (.s (.sq (.bk (.s (.s (.rg (rgR 0 14++ [(14,[3,8,12]),(15,[3])]++rgR 16 3))))) .tt)))))))))) .tt)))))) .tt)))))
def zpq1 :List Nat:=[]
def zpr1 :Ann:=.tt
def zum1 :List Nat:=[10]
def zun1 :Ann:=(.s (.s (.s (.sq (.s (.bk (.lp [⟨false,44,3⟩] [10] .tt))) .tt))))
def zzy :List Nat:=[7]
def zzz :Ann:=(.s (.s (.s (.s (.sq (.rg (rgR 0 11)) (.sq (.rg (rgR 0 7++ [(7,[4])]++rgR 8 4)) (.sq (.rg (rgR 0 7)) .tt)))))))
def zrd :List Nat:=[]
def zre :Ann:=(.s (.jn [] [] .tt (.s (.jn [] [] .tt (.s (.s (.sq (.bk (.lp [⟨false,8,3⟩] [] (.s (.bk (.rg (rgR 0 10)))))) .tt)))))))
def zma :List Nat:=[]
def zmb :Ann:=.tt
def zsk :List Nat:=[]
def zsl :Ann:=.tt
def zjj :List Nat:=[]
def zjk :Ann:=.tt
def zkx :List Nat:=[]
def zky :Ann:=.tt
def zaa1 :List Nat:=[2]
def zab1 :Ann:=(.s (.sq (.rg (rgR 0 4++rgR 5 4++rgR 10 8++ [(4,[8,13,17]),(9,[13,17]),(18,[]),(19,[])])) .tt))
def zep1 :List Nat:=[]
def zeq1 :Ann:=.tt
def zwt :List Nat:=[]
def zwu :Ann:=(.s (.sq (.rg (rgR 0 26)) .tt))
def zac1 :List Nat:=[]
def zad1 :Ann:=(.s (.s (.sq (.bk (.lp [⟨false,5,24⟩] [] .tt)) .tt)))
def zsm :List Nat:=[5]
def zsn :Ann:=(.s (.rg (rgR 0 5++ [(5,[2])]++rgR 6 3)))
def zuo1 :List Nat:=[1,2]
def zup1 :Ann:=.tt
def zuq1 :List Nat:=[8,9,10,12,15]
def zur1 :Ann:=(.s (.s (.s (.sq (.s (.s (.sq (.sq (.s (.sq (.sq (.rg ([(0,[]),(1,[]),(2,[1]),(3,[])])) .tt) .tt)) (.sq (.rg ([(0,[]),(2,[]),(1,[2]),(3,[2]),(4,[])])) .tt)) .tt))) (.s (.s (.sq (.s (.bj [⟨true,8,105⟩,⟨true,9,184⟩] [8,9] (.s (.s (.s (.sq (.rg (rgR 0 7)) (.s (.s (.s (.s (.s (.s (.s (.s (.sq (.rg (rgR 0 16)) (.jn [⟨false,16,2⟩] [] (.s (.sq (.rg (rgR 0 15)) .tt)) .tt)))))))))))))))) .tt)))))))
def zrf :List Nat:=[]
def zrg :Ann:=(.s (.s (.bk (.sq (.rg (rgR 0 15)) (.sq (.sq (.rg (rgR 0 23++ [(23,[3,7,9])]++rgR 24 3)) .tt) (.sq (.rg (rgR 0 10)) (.s (.jn [] [] (.sq (.rg (rgR 0 19)) (.sq (.rg (rgR 0 9)) .tt)) .tt))))))))
def zrh :List Nat:=[8]
def zri :Ann:=(.s (.bk (.s (.sq (.sq (.rg (rgR 0 15)) (.s (.sq (.rg (rgR 0 10)) .tt))) (.s (.sq (.s (.rg (rgR 0 13))) (.s (.sq (.rg (rgR 0 13)) .tt))))))))
def zwv :List Nat:=[5,8]
def zww :Ann:=(.s (.s (.s (.sq (.s (.bk (.lp [⟨false,25,3⟩] [8] .tt))) .tt))))
def zyh :List Nat:=[]
def zyi :Ann:=(.s (.s (.s (.s (.jn [] [] .tt .tt)))))
def zoh :List Nat:=[]
def zoi :Ann:=.tt
def zwx :List Nat:=[7]
def zwy :Ann:=(.s (.s (.sq (.s (.bk (.lp [⟨false,5,24⟩,⟨false,13,3⟩] [7] (.s (.s (.sq (.bj [⟨false,5,24⟩] [7] .tt) .tt)))))) .tt)))
def zyj :List Nat:=[]
def zyk :Ann:=(.s (.s (.s (.sq (.bk (.s (.s (.s (.s (.s (.rg (rgR 0 19)))))))) .tt))))
def zrj :List Nat:=[]
def zrk :Ann:=(.s (.sq (.rg (rgR 0 18++ [(18,[4,7]),(19,[])])) .tt))
def zgr1 :List Nat:=[]
def zgs1 :Ann:=.tt
def zae1 :List Nat:=[]
def zaf1 :Ann:=.tt
def zer1 :List Nat:=[]
def zes1 :Ann:=.tt
def zbv1 :List Nat:=[]
def zbw1 :Ann:=.tt
def zag1 :List Nat:=[]
def zah1 :Ann:=(.s (.s (.sq (.s (.bk (.lp [⟨false,5,4⟩,⟨false,13,3⟩] [] (.s (.s (.sq (.bj [⟨false,5,4⟩] [] .tt) .tt)))))) .tt)))
def zai1 :List Nat:=[]
def zaj1 :Ann:=(.s (.sq (.s (.bk (.lp [⟨false,17,3⟩] [] (.s (.s (.sq (.bj [] [] (.s (.s (.s (.sq (.rg (rgR 0 16++ [(16,[3])]++rgR 17 3)) .tt))))) .tt)))))) (.s (.sq (.s (.bk (.lp [⟨false,7,195⟩,⟨false,56,3⟩] [] .tt))) .tt))))
def zet1 :List Nat:=[]
def zeu1 :Ann:=(.s (.s (.sq (.s (.bk (.lp [⟨false,3,142⟩,⟨false,11,3⟩] [] .tt))) .tt)))
def zoj :List Nat:=[]
def zok :Ann:=(.rg (rgR 0 13))
def znk :List Nat:=[]
def znl :Ann:=(.s (.sq (.s (.bk (.lp [⟨false,8,3⟩] [] .tt))) .tt))
def zjr1 :List Nat:=[]
def zjs1 :Ann:=.tt
def zmi1 :List Nat:=[3]
def zmj1 :Ann:=.tt
def zwz :List Nat:=[7]
def zxa :Ann:=(.s (.sq (.s (.bk (.lp [⟨false,13,3⟩] [7] .tt))) .tt))
def zus1 :List Nat:=[3]
def zut1 :Ann:=(.s (.s (.s (.s (.sq (.rg (rgR 0 4++ [(5,[]),(6,[]),(4,[6])]++rgR 7 7)) (.sq (.rg (rgR 0 8++ [(8,[5])]++rgR 9 3)) .tt))))))
def zcc :List Nat:=[4]
def zcd :Ann:=(.s (.s (.s (.sq (.bk (.lp [⟨false,9,3⟩,⟨false,10,3⟩] [] (.s (.bj [⟨false,9,3⟩,⟨false,10,3⟩] [] (.s (.sq (.rg (rgR 0 8)) .tt)))))) (.sq (.rg (rgR 0 16)) .tt)))))
def zjt1 :List Nat:=[2,3]
def zju1 :Ann:=(.s (.sq (.rg (rgR 0 4++rgR 5 4++ [(4,[6,8])]++rgR 9 4)) .tt))
def zgj :List Nat:=[]
def zgk :Ann:=(.s (.s (.s (.s (.s (.s (.sq (.s (.sq (.s (.s (.sq (.rg (rgR 0 9)) .tt))) .tt)) (.s (.sq (.s (.sq (.sq (.rg (rgR 0 9)) .tt) .tt)) .tt)))))))))
def zev1 :List Nat:=[]
def zew1 :Ann:=.tt
def znm :List Nat:=[]
def znn :Ann:=.tt
def zhi :List Nat:=[]
def zhj :Ann:=.tt
def zbx1 :List Nat:=[]
def zby1 :Ann:=.tt
def zjv1 :List Nat:=[]
def zjw1 :Ann:=.tt
def zbe2 :List Nat:=[2,4]
def zbf2 :Ann:=.tt
def zps1 :List Nat:=[2,3,4]
def zpt1 :Ann:=(.s (.sq (.s (.bk (.s (.s (.s (.sq (.sq (.rg (rgR 0 12)) .tt) .tt)))))) .tt))
def zgt1 :List Nat:=[]
def zgu1 :Ann:=.tt
def zbg2 :List Nat:=[]
def zbh2 :Ann:=.tt
def zbi2 :List Nat:=[]
def zbj2 :Ann:=.tt
def zpn :List Nat:=[]
def zpo :Ann:=(.bk (.s (.s (.sq (.rg (rgR 0 12)) (.sq (.sq (.rg (rgR 0 14)) .tt) .tt)))))
def zuu1 :List Nat:=[8,9]
def zuv1 :Ann:=(.s (.jn [] [9] .tt .tt))
def zgl :List Nat:=[]
def zgm :Ann:=(.s (.s (.s (.s (.sq (.rg (rgR 0 8)) .tt)))))
def zxb :List Nat:=[]
def zxc :Ann:=.tt
def zso :List Nat:=[]
def zsp :Ann:=(.s (.sq (.s (.bk (.lp [⟨false,8,3⟩] [] .tt))) .tt))
def zbz1 :List Nat:=[]
def zca1 :Ann:=(.s (.sq (.rg (rgR 0 11)) .tt))
def zpu1 :List Nat:=[]
def zpv1 :Ann:=.tt
def zak1 :List Nat:=[]
def zal1 :Ann:=.tt
def zrl :List Nat:=[]
def zrm :Ann:=(.s (.s (.s (.s (.sq (.rg (rgR 0 8)) .tt)))))
def zex1 :List Nat:=[]
def zey1 :Ann:=(.s (.sq (.rg (rgR 0 16)) .tt))
def zuw1 :List Nat:=[6,7]
def zux1 :Ann:=(.s (.jn [] [7] .tt .tt))
def zmk1 :List Nat:=[3]
def zml1 :Ann:=.tt
def zuy1 :List Nat:=[]
def zuz1 :Ann:=.tt
def zjx1 :List Nat:=[]
def zjy1 :Ann:=.tt
def zmm1 :List Nat:=[5]
def zmn1 :Ann:=(.s (.s (.sq (.s (.bk (.lp [⟨false,9,3⟩] [5] .tt))) .tt)))
def zmo1 :List Nat:=[]
def zmp1 :Ann:=(.s (.s (.sq (.s (.bk (.lp [⟨false,8,3⟩] [] .tt))) .tt)))
def zxd :List Nat:=[]
def zxe :Ann:=.tt
def zam1 :List Nat:=[]
def zan1 :Ann:=.tt
def zao1 :List Nat:=[]
def zap1 :Ann:=.tt
def zgv1 :List Nat:=[]
def zgw1 :Ann:=.tt
def zva1 :List Nat:=[]
def zvb1 :Ann:=.tt
def zpw1 :List Nat:=[]
def zpx1 :Ann:=.tt
def zye1 :List Nat:=[]
def zyf1 :Ann:=.tt
def zpy1 :List Nat:=[]
def zpz1 :Ann:=.tt
def zvc1 :List Nat:=[]
def zvd1 :Ann:=.tt
def zqa1 :List Nat:=[]
def zqb1 :Ann:=.tt
def zcb1 :List Nat:=[]
def zcc1 :Ann:=.tt
def zaq1 :List Nat:=[4]
def zar1 :Ann:=(.s (.sp 4 (.rg (rgR 0 9++ [(10,[]),(9,[3,7]),(11,[7]),(12,[])])) .tt))
def zez1 :List Nat:=[]
def zfa1 :Ann:=.tt
def zcd1 :List Nat:=[3]
def zce1 :Ann:=(.s (.s (.s (.sq (.rg (rgR 0 11)) (.s (.s (.sq (.s (.sq (.s (.sq (.rg (rgR 0 19)) (.rg (rgR 0 7++ [(7,[4])]++rgR 8 4)))) .tt)) (.sq (.rg (rgR 0 7)) .tt))))))))
def zas1 :List Nat:=[]
def zat1 :Ann:=.tt
def zhd :List Nat:=[]
def zhe :Ann:=(.s (.s (.s (.s (.sq (.rg (rgR 0 8)) .tt)))))
def zjz1 :List Nat:=[]
def zka1 :Ann:=.tt
def zfb1 :List Nat:=[]
def zfc1 :Ann:=.tt
def zkb1 :List Nat:=[4]
def zkc1 :Ann:=.tt
def zau1 :List Nat:=[]
def zav1 :Ann:=.tt
def zfd1 :List Nat:=[]
def zfe1 :Ann:=.tt
def zaw1 :List Nat:=[8]
def zax1 :Ann:=(.s (.sq (.s (.bk (.lp [⟨false,14,3⟩] [8] (.s (.s (.sq (.bk (.s (.s (.bk (.lp [⟨false,23,3⟩] [8] .tt))))) .tt)))))) .tt))
def zcf1 :List Nat:=[]
def zcg1 :Ann:=.tt
def zfx :List Nat:=[]
def zfy :Ann:=(.s (.sq (.s (.bk (.lp [⟨false,8,3⟩] [] .tt))) .tt))
def zxf :List Nat:=[2]
def zxg :Ann:=.tt
def zkd1 :List Nat:=[]
def zke1 :Ann:=.tt
def zff1 :List Nat:=[]
def zfg1 :Ann:=.tt
end Lf
namespace Lf
open Go Go.Proofs Tryz
theorem zsm1 {α:Type _} {l:List α} {i:Nat} (h:l.length<=i):nth l i=none:=by rw [zcn];exact List.getElem?_eq_none h
theorem tyS {a e:Ty} {p:Ty->Prop} (h:some a=some e) (x:p a):p e:=Option.some.inj h▸x
theorem tyN {e:Ty} {q:Prop} (h:(none:Option Ty)=some e):q:=by cases h
theorem tyAll {p:Nat->Ty->Prop} (h0:p 0 ty0) (h2:p 2 ty2) (h3:p 3 ty3) (h4:p 4 ty4) (h5:p 5 ty5) (h9:p 9 ty9) (h20:p 20 ty20) (h23:p 23 ty23) (h24:p 24 ty24) (h25:p 25 ty25) (h27:p 27 ty27) (h28:p 28 ty28) (h29:p 29 ty29) (h30:p 30 ty30) (h31:p 31 ty31) (h34:p 34 ty34) (h35:p 35 ty35) (h40:p 40 ty40) (h42:p 42 ty42) (h45:p 45 ty45) (h48:p 48 ty48) (h49:p 49 ty49) (h51:p 51 ty51) (h63:p 63 ty63) (h64:p 64 ty64) (h66:p 66 ty66) (h68:p 68 ty68) (h69:p 69 ty69) (h70:p 70 ty70) (h72:p 72 ty72) (h73:p 73 ty73) (h76:p 76 ty76) (h77:p 77 ty77) (h79:p 79 ty79) (h82:p 82 ty82) (h84:p 84 ty84) (h88:p 88 ty88) (h89:p 89 ty89) (h90:p 90 ty90) (h91:p 91 ty91) (h93:p 93 ty93) (h94:p 94 ty94) (h95:p 95 ty95) (h96:p 96 ty96) (h97:p 97 ty97) (h99:p 99 ty99) (h102:p 102 ty102) (h103:p 103 ty103) (h105:p 105 ty105) (h106:p 106 ty106) (h108:p 108 ty108) (h110:p 110 ty110) (h112:p 112 ty112) (h115:p 115 ty115) (h116:p 116 ty116) (h128:p 128 ty128) (h131:p 131 ty131) (h133:p 133 ty133) (h136:p 136 ty136) (h141:p 141 ty141) (h142:p 142 ty142) (h144:p 144 ty144) (h147:p 147 ty147) (h149:p 149 ty149) (h154:p 154 ty154) (h156:p 156 ty156) (h158:p 158 ty158) (h159:p 159 ty159) (h161:p 161 ty161) (h162:p 162 ty162) (h165:p 165 ty165) (h166:p 166 ty166) (h167:p 167 ty167) (h168:p 168 ty168) (h170:p 170 ty170) (h171:p 171 ty171) (h173:p 173 ty173) (h179:p 179 ty179) (h184:p 184 ty184) (h185:p 185 ty185) (h189:p 189 ty189) (h192:p 192 ty192) (h195:p 195 ty195) (h198:p 198 ty198) (h204:p 204 ty204) (h206:p 206 ty206) (h210:p 210 ty210) (h212:p 212 ty212) (h215:p 215 ty215) (h217:p 217 ty217) (h218:p 218 ty218) (h220:p 220 ty220) (h223:p 223 ty223) (h224:p 224 ty224) (h231:p 231 ty231) (h235:p 235 ty235) (h237:p 237 ty237) (h240:p 240 ty240) (h244:p 244 ty244) (h256:p 256 ty256) (h257:p 257 ty257) (h259:p 259 ty259) (h262:p 262 ty262) (h265:p 265 ty265) (h268:p 268 ty268) (h272:p 272 ty272) (h273:p 273 ty273) (h275:p 275 ty275) (h279:p 279 ty279) (h284:p 284 ty284) (h287:p 287 ty287) (h291:p 291 ty291) (h294:p 294 ty294) (h302:p 302 ty302) (h303:p 303 ty303) (h305:p 305 ty305) (h308:p 308 ty308) (h319:p 319 ty319) (h322:p 322 ty322):∀t e,tyAt t=some e->p t e:=by
 intro t e h
 by_cases hlt:t<336
 ·match t,hlt,h with
  | 0,_,h=>exact tyS h h0
  | 1,_,h=>exact tyN h
  | 2,_,h=>exact tyS h h2
  | 3,_,h=>exact tyS h h3
  | 4,_,h=>exact tyS h h4
  | 5,_,h=>exact tyS h h5
  | 6,_,h=>exact tyN h
  | 7,_,h=>exact tyN h
  | 8,_,h=>exact tyN h
  | 9,_,h=>exact tyS h h9
  | 10,_,h=>exact tyN h
  | 11,_,h=>exact tyN h
  | 12,_,h=>exact tyN h
  | 13,_,h=>exact tyN h
  | 14,_,h=>exact tyN h
  | 15,_,h=>exact tyN h
  | 16,_,h=>exact tyN h
  | 17,_,h=>exact tyN h
  | 18,_,h=>exact tyN h
  | 19,_,h=>exact tyN h
  | 20,_,h=>exact tyS h h20
  | 21,_,h=>exact tyN h
  | 22,_,h=>exact tyN h
  | 23,_,h=>exact tyS h h23
  | 24,_,h=>exact tyS h h24
  | 25,_,h=>exact tyS h h25
  | 26,_,h=>exact tyN h
  | 27,_,h=>exact tyS h h27
  | 28,_,h=>exact tyS h h28
  | 29,_,h=>exact tyS h h29
  | 30,_,h=>exact tyS h h30
  | 31,_,h=>exact tyS h h31
  | 32,_,h=>exact tyN h
  | 33,_,h=>exact tyN h
  | 34,_,h=>exact tyS h h34
  | 35,_,h=>exact tyS h h35
  | 36,_,h=>exact tyN h
  | 37,_,h=>exact tyN h
  | 38,_,h=>exact tyN h
  | 39,_,h=>exact tyN h
  | 40,_,h=>exact tyS h h40
  | 41,_,h=>exact tyN h
  | 42,_,h=>exact tyS h h42
  | 43,_,h=>exact tyN h
  | 44,_,h=>exact tyN h
  | 45,_,h=>exact tyS h h45
  | 46,_,h=>exact tyN h
  | 47,_,h=>exact tyN h
  | 48,_,h=>exact tyS h h48
  | 49,_,h=>exact tyS h h49
  | 50,_,h=>exact tyN h
  | 51,_,h=>exact tyS h h51
  | 52,_,h=>exact tyN h
  | 53,_,h=>exact tyN h
  | 54,_,h=>exact tyN h
  | 55,_,h=>exact tyN h
  | 56,_,h=>exact tyN h
  | 57,_,h=>exact tyN h
  | 58,_,h=>exact tyN h
  | 59,_,h=>exact tyN h
  | 60,_,h=>exact tyN h
  | 61,_,h=>exact tyN h
  | 62,_,h=>exact tyN h
  | 63,_,h=>exact tyS h h63
  | 64,_,h=>exact tyS h h64
  | 65,_,h=>exact tyN h
  | 66,_,h=>exact tyS h h66
  | 67,_,h=>exact tyN h
  | 68,_,h=>exact tyS h h68
  | 69,_,h=>exact tyS h h69
  | 70,_,h=>exact tyS h h70
  | 71,_,h=>exact tyN h
  | 72,_,h=>exact tyS h h72
  | 73,_,h=>exact tyS h h73
  | 74,_,h=>exact tyN h
  | 75,_,h=>exact tyN h
  | 76,_,h=>exact tyS h h76
  | 77,_,h=>exact tyS h h77
  | 78,_,h=>exact tyN h
  | 79,_,h=>exact tyS h h79
  | 80,_,h=>exact tyN h
  | 81,_,h=>exact tyN h
  | 82,_,h=>exact tyS h h82
  | 83,_,h=>exact tyN h
  | 84,_,h=>exact tyS h h84
  | 85,_,h=>exact tyN h
  | 86,_,h=>exact tyN h
  | 87,_,h=>exact tyN h
  | 88,_,h=>exact tyS h h88
  | 89,_,h=>exact tyS h h89
  | 90,_,h=>exact tyS h h90
  | 91,_,h=>exact tyS h h91
  | 92,_,h=>exact tyN h
  | 93,_,h=>exact tyS h h93
  | 94,_,h=>exact tyS h h94
  | 95,_,h=>exact tyS h h95
  | 96,_,h=>exact tyS h h96
  | 97,_,h=>exact tyS h h97
  | 98,_,h=>exact tyN h
  | 99,_,h=>exact tyS h h99
  | 100,_,h=>exact tyN h
  | 101,_,h=>exact tyN h
  | 102,_,h=>exact tyS h h102
  | 103,_,h=>exact tyS h h103
  | 104,_,h=>exact tyN h
  | 105,_,h=>exact tyS h h105
  | 106,_,h=>exact tyS h h106
  | 107,_,h=>exact tyN h
  | 108,_,h=>exact tyS h h108
  | 109,_,h=>exact tyN h
  | 110,_,h=>exact tyS h h110
  | 111,_,h=>exact tyN h
  | 112,_,h=>exact tyS h h112
  | 113,_,h=>exact tyN h
  | 114,_,h=>exact tyN h
  | 115,_,h=>exact tyS h h115
  | 116,_,h=>exact tyS h h116
  | 117,_,h=>exact tyN h
  | 118,_,h=>exact tyN h
  | 119,_,h=>exact tyN h
  | 120,_,h=>exact tyN h
  | 121,_,h=>exact tyN h
  | 122,_,h=>exact tyN h
  | 123,_,h=>exact tyN h
  | 124,_,h=>exact tyN h
  | 125,_,h=>exact tyN h
  | 126,_,h=>exact tyN h
  | 127,_,h=>exact tyN h
  | 128,_,h=>exact tyS h h128
  | 129,_,h=>exact tyN h
  | 130,_,h=>exact tyN h
  | 131,_,h=>exact tyS h h131
  | 132,_,h=>exact tyN h
  | 133,_,h=>exact tyS h h133
  | 134,_,h=>exact tyN h
  | 135,_,h=>exact tyN h
  | 136,_,h=>exact tyS h h136
  | 137,_,h=>exact tyN h
  | 138,_,h=>exact tyN h
  | 139,_,h=>exact tyN h
  | 140,_,h=>exact tyN h
  | 141,_,h=>exact tyS h h141
  | 142,_,h=>exact tyS h h142
  | 143,_,h=>exact tyN h
  | 144,_,h=>exact tyS h h144
  | 145,_,h=>exact tyN h
  | 146,_,h=>exact tyN h
  | 147,_,h=>exact tyS h h147
  | 148,_,h=>exact tyN h
  | 149,_,h=>exact tyS h h149
  | 150,_,h=>exact tyN h
  | 151,_,h=>exact tyN h
  | 152,_,h=>exact tyN h
  | 153,_,h=>exact tyN h
  | 154,_,h=>exact tyS h h154
  | 155,_,h=>exact tyN h
  | 156,_,h=>exact tyS h h156
  | 157,_,h=>exact tyN h
  | 158,_,h=>exact tyS h h158
  | 159,_,h=>exact tyS h h159
  | 160,_,h=>exact tyN h
  | 161,_,h=>exact tyS h h161
  | 162,_,h=>exact tyS h h162
  | 163,_,h=>exact tyN h
  | 164,_,h=>exact tyN h
  | 165,_,h=>exact tyS h h165
  | 166,_,h=>exact tyS h h166
  | 167,_,h=>exact tyS h h167
  | 168,_,h=>exact tyS h h168
  | 169,_,h=>exact tyN h
  | 170,_,h=>exact tyS h h170
  | 171,_,h=>exact tyS h h171
  | 172,_,h=>exact tyN h
  | 173,_,h=>exact tyS h h173
  | 174,_,h=>exact tyN h
  | 175,_,h=>exact tyN h
  | 176,_,h=>exact tyN h
  | 177,_,h=>exact tyN h
  | 178,_,h=>exact tyN h
  | 179,_,h=>exact tyS h h179
  | 180,_,h=>exact tyN h
  | 181,_,h=>exact tyN h
  | 182,_,h=>exact tyN h
  | 183,_,h=>exact tyN h
  | 184,_,h=>exact tyS h h184
  | 185,_,h=>exact tyS h h185
  | 186,_,h=>exact tyN h
  | 187,_,h=>exact tyN h
  | 188,_,h=>exact tyN h
  | 189,_,h=>exact tyS h h189
  | 190,_,h=>exact tyN h
  | 191,_,h=>exact tyN h
  | 192,_,h=>exact tyS h h192
  | 193,_,h=>exact tyN h
  | 194,_,h=>exact tyN h
  | 195,_,h=>exact tyS h h195
  | 196,_,h=>exact tyN h
  | 197,_,h=>exact tyN h
  | 198,_,h=>exact tyS h h198
  | 199,_,h=>exact tyN h
  | 200,_,h=>exact tyN h
  | 201,_,h=>exact tyN h
  | 202,_,h=>exact tyN h
  | 203,_,h=>exact tyN h
  | 204,_,h=>exact tyS h h204
  | 205,_,h=>exact tyN h
  | 206,_,h=>exact tyS h h206
  | 207,_,h=>exact tyN h
  | 208,_,h=>exact tyN h
  | 209,_,h=>exact tyN h
  | 210,_,h=>exact tyS h h210
  | 211,_,h=>exact tyN h
  | 212,_,h=>exact tyS h h212
  | 213,_,h=>exact tyN h
  | 214,_,h=>exact tyN h
  | 215,_,h=>exact tyS h h215
  | 216,_,h=>exact tyN h
  | 217,_,h=>exact tyS h h217
  | 218,_,h=>exact tyS h h218
  | 219,_,h=>exact tyN h
  | 220,_,h=>exact tyS h h220
  | 221,_,h=>exact tyN h
  | 222,_,h=>exact tyN h
  | 223,_,h=>exact tyS h h223
  | 224,_,h=>exact tyS h h224
  | 225,_,h=>exact tyN h
  | 226,_,h=>exact tyN h
  | 227,_,h=>exact tyN h
  | 228,_,h=>exact tyN h
  | 229,_,h=>exact tyN h
  | 230,_,h=>exact tyN h
  | 231,_,h=>exact tyS h h231
  | 232,_,h=>exact tyN h
  | 233,_,h=>exact tyN h
  | 234,_,h=>exact tyN h
  | 235,_,h=>exact tyS h h235
  | 236,_,h=>exact tyN h
  | 237,_,h=>exact tyS h h237
  | 238,_,h=>exact tyN h
  | 239,_,h=>exact tyN h
  | 240,_,h=>exact tyS h h240
  | 241,_,h=>exact tyN h
  | 242,_,h=>exact tyN h
  | 243,_,h=>exact tyN h
  | 244,_,h=>exact tyS h h244
  | 245,_,h=>exact tyN h
  | 246,_,h=>exact tyN h
  | 247,_,h=>exact tyN h
  | 248,_,h=>exact tyN h
  | 249,_,h=>exact tyN h
  | 250,_,h=>exact tyN h
  | 251,_,h=>exact tyN h
  | 252,_,h=>exact tyN h
  | 253,_,h=>exact tyN h
  | 254,_,h=>exact tyN h
  | 255,_,h=>exact tyN h
  | 256,_,h=>exact tyS h h256
  | 257,_,h=>exact tyS h h257
  | 258,_,h=>exact tyN h
  | 259,_,h=>exact tyS h h259
  | 260,_,h=>exact tyN h
  | 261,_,h=>exact tyN h
  | 262,_,h=>exact tyS h h262
  | 263,_,h=>exact tyN h
  | 264,_,h=>exact tyN h
  | 265,_,h=>exact tyS h h265
  | 266,_,h=>exact tyN h
  | 267,_,h=>exact tyN h
  | 268,_,h=>exact tyS h h268
  | 269,_,h=>exact tyN h
  | 270,_,h=>exact tyN h
  | 271,_,h=>exact tyN h
  | 272,_,h=>exact tyS h h272
  | 273,_,h=>exact tyS h h273
  | 274,_,h=>exact tyN h
  | 275,_,h=>exact tyS h h275
  | 276,_,h=>exact tyN h
  | 277,_,h=>exact tyN h
  | 278,_,h=>exact tyN h
  | 279,_,h=>exact tyS h h279
  | 280,_,h=>exact tyN h
  | 281,_,h=>exact tyN h
  | 282,_,h=>exact tyN h
  | 283,_,h=>exact tyN h
  | 284,_,h=>exact tyS h h284
  | 285,_,h=>exact tyN h
  | 286,_,h=>exact tyN h
  | 287,_,h=>exact tyS h h287
  | 288,_,h=>exact tyN h
  | 289,_,h=>exact tyN h
  | 290,_,h=>exact tyN h
  | 291,_,h=>exact tyS h h291
  | 292,_,h=>exact tyN h
  | 293,_,h=>exact tyN h
  | 294,_,h=>exact tyS h h294
  | 295,_,h=>exact tyN h
  | 296,_,h=>exact tyN h
  | 297,_,h=>exact tyN h
  | 298,_,h=>exact tyN h
  | 299,_,h=>exact tyN h
  | 300,_,h=>exact tyN h
  | 301,_,h=>exact tyN h
  | 302,_,h=>exact tyS h h302
  | 303,_,h=>exact tyS h h303
  | 304,_,h=>exact tyN h
  | 305,_,h=>exact tyS h h305
  | 306,_,h=>exact tyN h
  | 307,_,h=>exact tyN h
  | 308,_,h=>exact tyS h h308
  | 309,_,h=>exact tyN h
  | 310,_,h=>exact tyN h
  | 311,_,h=>exact tyN h
  | 312,_,h=>exact tyN h
  | 313,_,h=>exact tyN h
  | 314,_,h=>exact tyN h
  | 315,_,h=>exact tyN h
  | 316,_,h=>exact tyN h
  | 317,_,h=>exact tyN h
  | 318,_,h=>exact tyN h
  | 319,_,h=>exact tyS h h319
  | 320,_,h=>exact tyN h
  | 321,_,h=>exact tyN h
  | 322,_,h=>exact tyS h h322
  | 323,_,h=>exact tyN h
  | 324,_,h=>exact tyN h
  | 325,_,h=>exact tyN h
  | 326,_,h=>exact tyN h
  | 327,_,h=>exact tyN h
  | 328,_,h=>exact tyN h
  | 329,_,h=>exact tyN h
  | 330,_,h=>exact tyN h
  | 331,_,h=>exact tyN h
  | 332,_,h=>exact tyN h
  | 333,_,h=>exact tyN h
  | 334,_,h=>exact tyN h
  | 335,_,h=>exact tyN h
  | n+336,hlt,_=>omega
 ·have hl:tyRows.length=21:=rfl
  have:nth tyRows (t / 16)=none:=zsm1 (l:=tyRows) (i:=t / 16) (by rw [hl];omega)
  unfold tyAt at h
  rw [this] at h
  cases h
theorem zef2 (x:Leaf):(zac x.v).length=1/\∀cs,x.v≠ .agg cs:=by
 obtain ⟨v,h⟩:=x
 cases v<;>first | exact ⟨rfl,fun cs h=>by cases h⟩ | cases h
theorem tb_ok :tb.Ok prog where
 und:=tyAll (p:=fun t e=>prog.underlying t=some e.und) underlying0 underlying2 underlying3 underlying4 underlying5 underlying9 underlying20 underlying23 underlying24 underlying25 underlying27 underlying28 underlying29 underlying30 underlying31 underlying34 underlying35 underlying40 underlying42 underlying45 underlying48 underlying49 underlying51 underlying63 underlying64 underlying66 underlying68 underlying69 underlying70 underlying72 underlying73 underlying76 underlying77 underlying79 underlying82 underlying84 underlying88 underlying89 underlying90 underlying91 underlying93 underlying94 underlying95 underlying96 underlying97 underlying99 underlying102 underlying103 underlying105 underlying106 underlying108 underlying110 underlying112 underlying115 underlying116 underlying128 underlying131 underlying133 underlying136 underlying141 underlying142 underlying144 underlying147 underlying149 underlying154 underlying156 underlying158 underlying159 underlying161 underlying162 underlying165 underlying166 underlying167 underlying168 underlying170 underlying171 underlying173 underlying179 underlying184 underlying185 underlying189 underlying192 underlying195 underlying198 underlying204 underlying206 underlying210 underlying212 underlying215 underlying217 underlying218 underlying220 underlying223 underlying224 underlying231 underlying235 underlying237 underlying240 underlying244 underlying256 underlying257 underlying259 underlying262 underlying265 underlying268 underlying272 underlying273 underlying275 underlying279 underlying284 underlying287 underlying291 underlying294 underlying302 underlying303 underlying305 underlying308 underlying319 underlying322
 info:=tyAll (p:=fun t e=>∃i,prog.info? t=some i/\i.size=e.size/\i.bytes=e.bytes/\i.zero=some e.zero) ⟨t0,type0,rfl,rfl,rfl⟩ ⟨t2,type2,rfl,rfl,rfl⟩ ⟨t3,type3,rfl,rfl,rfl⟩ ⟨t4,type4,rfl,rfl,rfl⟩ ⟨t5,type5,rfl,rfl,rfl⟩ ⟨t9,type9,rfl,rfl,rfl⟩ ⟨t20,type20,rfl,rfl,rfl⟩ ⟨t23,type23,rfl,rfl,rfl⟩ ⟨t24,type24,rfl,rfl,rfl⟩ ⟨t25,type25,rfl,rfl,rfl⟩ ⟨t27,type27,rfl,rfl,rfl⟩ ⟨t28,type28,rfl,rfl,rfl⟩ ⟨t29,type29,rfl,rfl,rfl⟩ ⟨t30,type30,rfl,rfl,rfl⟩ ⟨t31,type31,rfl,rfl,rfl⟩ ⟨t34,type34,rfl,rfl,rfl⟩ ⟨t35,type35,rfl,rfl,rfl⟩ ⟨t40,type40,rfl,rfl,rfl⟩ ⟨t42,type42,rfl,rfl,rfl⟩ ⟨t45,type45,rfl,rfl,rfl⟩ ⟨t48,type48,rfl,rfl,rfl⟩ ⟨t49,type49,rfl,rfl,rfl⟩ ⟨t51,type51,rfl,rfl,rfl⟩ ⟨t63,type63,rfl,rfl,rfl⟩ ⟨t64,type64,rfl,rfl,rfl⟩ ⟨t66,type66,rfl,rfl,rfl⟩ ⟨t68,type68,rfl,rfl,rfl⟩ ⟨t69,type69,rfl,rfl,rfl⟩ ⟨t70,type70,rfl,rfl,rfl⟩ ⟨t72,type72,rfl,rfl,rfl⟩ ⟨t73,type73,rfl,rfl,rfl⟩ ⟨t76,type76,rfl,rfl,rfl⟩ ⟨t77,type77,rfl,rfl,rfl⟩ ⟨t79,type79,rfl,rfl,rfl⟩ ⟨t82,type82,rfl,rfl,rfl⟩ ⟨t84,type84,rfl,rfl,rfl⟩ ⟨t88,type88,rfl,rfl,rfl⟩ ⟨t89,type89,rfl,rfl,rfl⟩ ⟨t90,type90,rfl,rfl,rfl⟩ ⟨t91,type91,rfl,rfl,rfl⟩ ⟨t93,type93,rfl,rfl,rfl⟩ ⟨t94,type94,rfl,rfl,rfl⟩ ⟨t95,type95,rfl,rfl,rfl⟩ ⟨t96,type96,rfl,rfl,rfl⟩ ⟨t97,type97,rfl,rfl,rfl⟩ ⟨t99,type99,rfl,rfl,rfl⟩ ⟨t102,type102,rfl,rfl,rfl⟩ ⟨t103,type103,rfl,rfl,rfl⟩ ⟨t105,type105,rfl,rfl,rfl⟩ ⟨t106,type106,rfl,rfl,rfl⟩ ⟨t108,type108,rfl,rfl,rfl⟩ ⟨t110,type110,rfl,rfl,rfl⟩ ⟨t112,type112,rfl,rfl,rfl⟩ ⟨t115,type115,rfl,rfl,rfl⟩ ⟨t116,type116,rfl,rfl,rfl⟩ ⟨t128,type128,rfl,rfl,rfl⟩ ⟨t131,type131,rfl,rfl,rfl⟩ ⟨t133,type133,rfl,rfl,rfl⟩ ⟨t136,type136,rfl,rfl,rfl⟩ ⟨t141,type141,rfl,rfl,rfl⟩ ⟨t142,type142,rfl,rfl,rfl⟩ ⟨t144,type144,rfl,rfl,rfl⟩ ⟨t147,type147,rfl,rfl,rfl⟩ ⟨t149,type149,rfl,rfl,rfl⟩ ⟨t154,type154,rfl,rfl,rfl⟩ ⟨t156,type156,rfl,rfl,rfl⟩ ⟨t158,type158,rfl,rfl,rfl⟩ ⟨t159,type159,rfl,rfl,rfl⟩ ⟨t161,type161,rfl,rfl,rfl⟩ ⟨t162,type162,rfl,rfl,rfl⟩ ⟨t165,type165,rfl,rfl,rfl⟩ ⟨t166,type166,rfl,rfl,rfl⟩ ⟨t167,type167,rfl,rfl,rfl⟩ ⟨t168,type168,rfl,rfl,rfl⟩ ⟨t170,type170,rfl,rfl,rfl⟩ ⟨t171,type171,rfl,rfl,rfl⟩ ⟨t173,type173,rfl,rfl,rfl⟩ ⟨t179,type179,rfl,rfl,rfl⟩ ⟨t184,type184,rfl,rfl,rfl⟩ ⟨t185,type185,rfl,rfl,rfl⟩ ⟨t189,type189,rfl,rfl,rfl⟩ ⟨t192,type192,rfl,rfl,rfl⟩ ⟨t195,type195,rfl,rfl,rfl⟩ ⟨t198,type198,rfl,rfl,rfl⟩ ⟨t204,type204,rfl,rfl,rfl⟩ ⟨t206,type206,rfl,rfl,rfl⟩ ⟨t210,type210,rfl,rfl,rfl⟩ ⟨t212,type212,rfl,rfl,rfl⟩ ⟨t215,type215,rfl,rfl,rfl⟩ ⟨t217,type217,rfl,rfl,rfl⟩ ⟨t218,type218,rfl,rfl,rfl⟩ ⟨t220,type220,rfl,rfl,rfl⟩ ⟨t223,type223,rfl,rfl,rfl⟩ ⟨t224,type224,rfl,rfl,rfl⟩ ⟨t231,type231,rfl,rfl,rfl⟩ ⟨t235,type235,rfl,rfl,rfl⟩ ⟨t237,type237,rfl,rfl,rfl⟩ ⟨t240,type240,rfl,rfl,rfl⟩ ⟨t244,type244,rfl,rfl,rfl⟩ ⟨t256,type256,rfl,rfl,rfl⟩ ⟨t257,type257,rfl,rfl,rfl⟩ ⟨t259,type259,rfl,rfl,rfl⟩ ⟨t262,type262,rfl,rfl,rfl⟩ ⟨t265,type265,rfl,rfl,rfl⟩ ⟨t268,type268,rfl,rfl,rfl⟩ ⟨t272,type272,rfl,rfl,rfl⟩ ⟨t273,type273,rfl,rfl,rfl⟩ ⟨t275,type275,rfl,rfl,rfl⟩ ⟨t279,type279,rfl,rfl,rfl⟩ ⟨t284,type284,rfl,rfl,rfl⟩ ⟨t287,type287,rfl,rfl,rfl⟩ ⟨t291,type291,rfl,rfl,rfl⟩ ⟨t294,type294,rfl,rfl,rfl⟩ ⟨t302,type302,rfl,rfl,rfl⟩ ⟨t303,type303,rfl,rfl,rfl⟩ ⟨t305,type305,rfl,rfl,rfl⟩ ⟨t308,type308,rfl,rfl,rfl⟩ ⟨t319,type319,rfl,rfl,rfl⟩ ⟨t322,type322,rfl,rfl,rfl⟩
 agg:=by
  apply tyAll (p:=fun t e=>zgz e.und=true->∀x,∃cs,e.sh.enc x=.agg cs/\cs.size=e.size)<;>first | (intro h;cases h;done) | exact (fun _ x=>⟨_,rfl,rfl⟩) | exact (fun _ x=>⟨_,rfl,x.size⟩)
 leaf:=by
  apply tyAll (p:=fun t e=>zgz e.und=false->e.size=1/\∀x,(zac (e.sh.enc x)).length=1/\∀cs,e.sh.enc x≠ .agg cs)<;>first | (intro h;cases h;done) | (refine fun _=>⟨rfl,fun x=>⟨rfl,fun cs h=> ?_⟩⟩;cases h;done) | exact (fun _=>⟨rfl,zef2⟩)
 zlen:=by
  apply tyAll (p:=fun t e=>(zac e.zero).length=e.size)<;>first | exact rfl
 zero8:=by
  apply tyAll (p:=fun t e=>e.und=.int .u8->zac e.zero=[.int .u8 0])<;>first | (intro h;cases h;done) | exact (fun _=>rfl)
 zagg:=by
  apply tyAll (p:=fun t e=>zgz e.und=true->∃cs,e.zero=.agg cs)<;>first | (intro h;cases h;done) | exact (fun _=>⟨_,rfl⟩)
 call:=by
  intro g h
  by_cases hlt:g<272
  ·match g,hlt,h with
   | 0,_,h=>exact absurd (show false=true from h) (by simp)
   | 1,_,h=>exact absurd (show false=true from h) (by simp)
   | 2,_,_=>exact call2
   | 3,_,_=>exact call3
   | 4,_,_=>exact call4
   | 5,_,_=>exact call5
   | 6,_,_=>exact call6
   | 7,_,_=>exact call7
   | 8,_,_=>exact call8
   | 9,_,_=>exact call9
   | 10,_,_=>exact call10
   | 11,_,_=>exact call11
   | 12,_,_=>exact call12
   | 13,_,_=>exact call13
   | 14,_,_=>exact call14
   | 15,_,_=>exact call15
   | 16,_,_=>exact call16
   | 17,_,_=>exact call17
   | 18,_,_=>exact call18
   | 19,_,_=>exact call19
   | 20,_,_=>exact call20
   | 21,_,_=>exact call21
   | 22,_,_=>exact call22
   | 23,_,_=>exact call23
   | 24,_,_=>exact call24
   | 25,_,_=>exact call25
   | 26,_,_=>exact call26
   | 27,_,_=>exact call27
   | 28,_,_=>exact call28
   | 29,_,_=>exact call29
   | 30,_,_=>exact call30
   | 31,_,_=>exact call31
   | 32,_,_=>exact call32
   | 33,_,_=>exact call33
   | 34,_,_=>exact call34
   | 35,_,_=>exact call35
   | 36,_,_=>exact call36
   | 37,_,_=>exact call37
   | 38,_,_=>exact call38
   | 39,_,_=>exact call39
   | 40,_,_=>exact call40
   | 41,_,_=>exact call41
   | 42,_,_=>exact call42
   | 43,_,_=>exact call43
   | 44,_,_=>exact call44
   | 45,_,_=>exact call45
   | 46,_,_=>exact call46
   | 47,_,_=>exact call47
   | 48,_,_=>exact call48
   | 49,_,_=>exact call49
   | 50,_,_=>exact call50
   | 51,_,_=>exact call51
   | 52,_,_=>exact call52
   | 53,_,_=>exact call53
   | 54,_,_=>exact call54
   | 55,_,_=>exact call55
   | 56,_,_=>exact call56
   | 57,_,_=>exact call57
   | 58,_,_=>exact call58
   | 59,_,_=>exact call59
   | 60,_,_=>exact call60
   | 61,_,_=>exact call61
   | 62,_,_=>exact call62
   | 63,_,_=>exact call63
   | 64,_,_=>exact call64
   | 65,_,_=>exact call65
   | 66,_,_=>exact call66
   | 67,_,_=>exact call67
   | 68,_,_=>exact call68
   | 69,_,_=>exact call69
   | 70,_,_=>exact call70
   | 71,_,_=>exact call71
   | 72,_,_=>exact call72
   | 73,_,_=>exact call73
   | 74,_,_=>exact call74
   | 75,_,_=>exact call75
   | 76,_,_=>exact call76
   | 77,_,_=>exact call77
   | 78,_,_=>exact call78
   | 79,_,_=>exact call79
   | 80,_,_=>exact call80
   | 81,_,_=>exact call81
   | 82,_,_=>exact call82
   | 83,_,_=>exact call83
   | 84,_,_=>exact call84
   | 85,_,_=>exact call85
   | 86,_,_=>exact call86
   | 87,_,_=>exact call87
   | 88,_,_=>exact call88
   | 89,_,_=>exact call89
   | 90,_,_=>exact call90
   | 91,_,_=>exact call91
   | 92,_,_=>exact call92
   | 93,_,_=>exact call93
   | 94,_,_=>exact call94
   | 95,_,_=>exact call95
   | 96,_,_=>exact call96
   | 97,_,_=>exact call97
   | 98,_,_=>exact call98
   | 99,_,_=>exact call99
   | 100,_,_=>exact call100
   | 101,_,_=>exact call101
   | 102,_,_=>exact call102
   | 103,_,_=>exact call103
   | 104,_,_=>exact call104
   | 105,_,_=>exact call105
   | 106,_,_=>exact call106
   | 107,_,_=>exact call107
   | 108,_,_=>exact call108
   | 109,_,_=>exact call109
   | 110,_,_=>exact call110
   | 111,_,_=>exact call111
   | 112,_,_=>exact call112
   | 113,_,_=>exact call113
   | 114,_,_=>exact call114
   | 115,_,_=>exact call115
   | 116,_,_=>exact call116
   | 117,_,_=>exact call117
   | 118,_,_=>exact call118
   | 119,_,_=>exact call119
   | 120,_,_=>exact call120
   | 121,_,_=>exact call121
   | 122,_,_=>exact call122
   | 123,_,_=>exact call123
   | 124,_,_=>exact call124
   | 125,_,_=>exact call125
   | 126,_,_=>exact call126
   | 127,_,_=>exact call127
   | 128,_,_=>exact call128
   | 129,_,_=>exact call129
   | 130,_,_=>exact call130
   | 131,_,_=>exact call131
   | 132,_,_=>exact call132
   | 133,_,_=>exact call133
   | 134,_,_=>exact call134
   | 135,_,_=>exact call135
   | 136,_,_=>exact call136
   | 137,_,_=>exact call137
   | 138,_,_=>exact call138
   | 139,_,_=>exact call139
   | 140,_,_=>exact call140
   | 141,_,_=>exact call141
   | 142,_,_=>exact call142
   | 143,_,_=>exact call143
   | 144,_,_=>exact call144
   | 145,_,_=>exact call145
   | 146,_,_=>exact call146
   | 147,_,_=>exact call147
   | 148,_,_=>exact call148
   | 149,_,_=>exact call149
   | 150,_,_=>exact call150
   | 151,_,_=>exact call151
   | 152,_,_=>exact call152
   | 153,_,_=>exact call153
   | 154,_,_=>exact call154
   | 155,_,_=>exact call155
   | 156,_,_=>exact call156
   | 157,_,_=>exact call157
   | 158,_,_=>exact call158
   | 159,_,_=>exact call159
   | 160,_,_=>exact call160
   | 161,_,_=>exact call161
   | 162,_,_=>exact call162
   | 163,_,_=>exact call163
   | 164,_,_=>exact call164
   | 165,_,_=>exact call165
   | 166,_,_=>exact call166
   | 167,_,_=>exact call167
   | 168,_,_=>exact call168
   | 169,_,_=>exact call169
   | 170,_,_=>exact call170
   | 171,_,_=>exact call171
   | 172,_,_=>exact call172
   | 173,_,_=>exact call173
   | 174,_,_=>exact call174
   | 175,_,_=>exact call175
   | 176,_,_=>exact call176
   | 177,_,_=>exact call177
   | 178,_,_=>exact call178
   | 179,_,_=>exact call179
   | 180,_,h=>exact absurd (show false=true from h) (by simp)
   | 181,_,_=>exact call181
   | 182,_,_=>exact call182
   | 183,_,_=>exact call183
   | 184,_,_=>exact call184
   | 185,_,_=>exact call185
   | 186,_,_=>exact call186
   | 187,_,_=>exact call187
   | 188,_,_=>exact call188
   | 189,_,_=>exact call189
   | 190,_,_=>exact call190
   | 191,_,_=>exact call191
   | 192,_,_=>exact call192
   | 193,_,_=>exact call193
   | 194,_,_=>exact call194
   | 195,_,_=>exact call195
   | 196,_,_=>exact call196
   | 197,_,_=>exact call197
   | 198,_,_=>exact call198
   | 199,_,_=>exact call199
   | 200,_,_=>exact call200
   | 201,_,_=>exact call201
   | 202,_,_=>exact call202
   | 203,_,_=>exact call203
   | 204,_,_=>exact call204
   | 205,_,_=>exact call205
   | 206,_,_=>exact call206
   | 207,_,_=>exact call207
   | 208,_,_=>exact call208
   | 209,_,_=>exact call209
   | 210,_,_=>exact call210
   | 211,_,_=>exact call211
   | 212,_,_=>exact call212
   | 213,_,_=>exact call213
   | 214,_,h=>exact absurd (show false=true from h) (by simp)
   | 215,_,h=>exact absurd (show false=true from h) (by simp)
   | 216,_,_=>exact call216
   | 217,_,_=>exact call217
   | 218,_,_=>exact call218
   | 219,_,_=>exact call219
   | 220,_,_=>exact call220
   | 221,_,_=>exact call221
   | 222,_,_=>exact call222
   | 223,_,_=>exact call223
   | 224,_,_=>exact call224
   | 225,_,_=>exact call225
   | 226,_,_=>exact call226
   | 227,_,_=>exact call227
   | 228,_,_=>exact call228
   | 229,_,_=>exact call229
   | 230,_,_=>exact call230
   | 231,_,_=>exact call231
   | 232,_,_=>exact call232
   | 233,_,_=>exact call233
   | 234,_,_=>exact call234
   | 235,_,_=>exact call235
   | 236,_,_=>exact call236
   | 237,_,_=>exact call237
   | 238,_,_=>exact call238
   | 239,_,_=>exact call239
   | 240,_,_=>exact call240
   | 241,_,_=>exact call241
   | 242,_,_=>exact call242
   | 243,_,_=>exact call243
   | 244,_,_=>exact call244
   | 245,_,_=>exact call245
   | 246,_,_=>exact call246
   | 247,_,_=>exact call247
   | 248,_,_=>exact call248
   | 249,_,_=>exact call249
   | 250,_,_=>exact call250
   | 251,_,_=>exact call251
   | 252,_,_=>exact call252
   | 253,_,_=>exact call253
   | 254,_,h=>exact absurd (show false=true from h) (by simp)
   | 255,_,_=>exact call255
   | 256,_,_=>exact call256
   | 257,_,h=>exact absurd (show false=true from h) (by simp)
   | 258,_,_=>exact call258
   | 259,_,h=>exact absurd (show false=true from h) (by simp)
   | 260,_,h=>exact absurd (show false=true from h) (by simp)
   | 261,_,h=>exact absurd (show false=true from h) (by simp)
   | 262,_,h=>exact absurd (show false=true from h) (by simp)
   | 263,_,h=>exact absurd (show false=true from h) (by simp)
   | 264,_,h=>exact absurd (show false=true from h) (by simp)
   | 265,_,h=>exact absurd (show false=true from h) (by simp)
   | 266,_,h=>exact absurd (show false=true from h) (by simp)
   | 267,_,h=>exact absurd (show false=true from h) (by simp)
   | 268,_,h=>exact absurd (show false=true from h) (by simp)
   | 269,_,h=>exact absurd (show false=true from h) (by simp)
   | 270,_,h=>exact absurd (show false=true from h) (by simp)
   | 271,_,h=>exact absurd (show false=true from h) (by simp)
   | n+272,hlt,_=>omega
  ·have hl:fnRows.length=17:=rfl
   have:nth fnRows (g / 16)=none:=zsm1 (l:=fnRows) (i:=g / 16) (by rw [hl];omega)
   have h:fnAt g=true:=h
   unfold fnAt at h
   rw [this] at h
   cases h
 ext:=by
  intro g f h args w
  have h:extAt g=some f:=h
  unfold extAt at h
  cases e180:Nat.beq g 180 with
  | true=>
   have hg:g=180:=Nat.eq_of_beq_eq_true e180
   subst hg
   exact run_callFunc_extern func180 (by kernel_rfl) (by kernel_rfl) (by kernel_rfl) (show _=_ from (show _=some _ by kernel_rfl:_=some _).trans h) args w
  | false=>
  simp only [e180,cond_false] at h
  cases e214:Nat.beq g 214 with
  | true=>
   have hg:g=214:=Nat.eq_of_beq_eq_true e214
   subst hg
   exact run_callFunc_extern func214 (by kernel_rfl) (by kernel_rfl) (by kernel_rfl) (show _=_ from (show _=some _ by kernel_rfl:_=some _).trans h) args w
  | false=>
  simp only [e214,cond_false] at h
  cases e215:Nat.beq g 215 with
  | true=>
   have hg:g=215:=Nat.eq_of_beq_eq_true e215
   subst hg
   exact run_callFunc_extern func215 (by kernel_rfl) (by kernel_rfl) (by kernel_rfl) (show _=_ from (show _=some _ by kernel_rfl:_=some _).trans h) args w
  | false=>
  simp only [e215,cond_false] at h
  cases h
 mixed:=by kernel_rfl
theorem firebreaklaw15_MachineNames_call {Q h} (hv:zcx prog  Q h):CallT prog zlb [] (zae) Q h:=
 zab (C:=⟨prog,tb,zlo⟩) (A:=zlp) tb_ok func3 rfl (Eq.mpr (by kernel_rfl) hv)
theorem zol {Q h} (hv:zfn prog  Q h):CallT prog zjp [] (zae) Q h:=
 zab (C:=⟨prog,tb,zsa⟩) (A:=zsb) tb_ok func7 rfl (Eq.mpr (by kernel_rfl) hv)
theorem zch1 {c Q h} (hv:zqp prog c Q h):Call2 prog zqk [(zbl).enc c] (shPtr) yH Q h:=
 show CallT prog zqk [(zbl).enc c] (shRes tb [34,30]) (fun r=>Q r.1 r.2) h from zab (C:=⟨prog,tb,zjl1⟩) (A:=zjm1) tb_ok func10 rfl (Eq.mpr (by kernel_rfl) hv)
theorem zno {m Q h} (hv:zdb prog m Q h):CallT prog ziq [(shPtr).enc m] (zic) Q h:=
 zab (C:=⟨prog,tb,zqz⟩) (A:=zra) tb_ok func18 rfl (Eq.mpr (by kernel_rfl) hv)
theorem zom {m Q h} (hv:zdg prog m Q h):CallT prog zjq [(shPtr).enc m] yH Q h:=
 zab (C:=⟨prog,tb,zsc⟩) (A:=zsd) tb_ok func22 rfl (Eq.mpr (by kernel_rfl) hv)
theorem znb {m p v Q h} (hv:zcu prog m p v Q h):CallT prog zid [(shPtr).enc m,yH.enc p,yH.enc v] yH Q h:=
 zab (C:=⟨prog,tb,zpj⟩) (A:=zpk) tb_ok func23 rfl (Eq.mpr (by kernel_rfl) hv)
theorem znc {Q h} (hv:zee prog  Q h):CallT prog zie [] (zbl) Q h:=
 zab (C:=⟨prog,tb,zpl⟩) (A:=zpm) tb_ok func28 rfl (Eq.mpr (by kernel_rfl) hv)
theorem zkf1 {c Q h} (hv:zzk prog c Q h):Call2 prog zzf [(zbl).enc c] yH yH Q h:=
 show CallT prog zzf [(zbl).enc c] (shRes tb [30,3]) (fun r=>Q r.1 r.2) h from zab (C:=⟨prog,tb,zui1⟩) (A:=zuj1) tb_ok func30 rfl (Eq.mpr (by kernel_rfl) hv)
theorem zay1 {c s Q h} (hv:zod prog c s Q h):CallT prog zvm [(zbl).enc c,(zic).enc s] (shPtr) Q h:=
 zab (C:=⟨prog,tb,zgp1⟩) (A:=zgq1) tb_ok func31 rfl (Eq.mpr (by kernel_rfl) hv)
theorem zyl {c Q h} (hv:zmp prog c Q h):CallT prog ztb [(zbl).enc c] (zic) Q h:=
 zab (C:=⟨prog,tb,zeh1⟩) (A:=zei1) tb_ok func32 rfl (Eq.mpr (by kernel_rfl) hv)
theorem zxh {c Q h} (hv:zlh prog c Q h):CallT prog zru [(zbl).enc c] (zbl) Q h:=
 zab (C:=⟨prog,tb,zbr1⟩) (A:=zbs1) tb_ok func39 rfl (Eq.mpr (by kernel_rfl) hv)
theorem zsq {l Q h} (hv:zhs prog l Q h):Call2 prog zel [(shPtr).enc l] (shSl) (shSl) Q h:=
 show CallT prog zel [(shPtr).enc l] (shRes tb [24,64]) (fun r=>Q r.1 r.2) h from zab (C:=⟨prog,tb,zwp⟩) (A:=zwq) tb_ok func40 rfl (Eq.mpr (by kernel_rfl) hv)
theorem zcz {s Q h} (hv:zbu prog s Q h):CallT prog zat [(shSl).enc s] (shSl) Q h:=
 zab (C:=⟨prog,tb,zih⟩) (A:=zii) tb_ok func41 rfl (Eq.mpr (by kernel_rfl) hv)
theorem zuv {p Q h} (hv:zkd prog p Q h):Call2 prog zgs [(shPtr).enc p] (shSl) yH Q h:=
 show CallT prog zgs [(shPtr).enc p] (shRes tb [70,3]) (fun r=>Q r.1 r.2) h from zab (C:=⟨prog,tb,zzu⟩) (A:=zzv) tb_ok func42 rfl (Eq.mpr (by kernel_rfl) hv)
theorem zlt {w id_ Q h} (hv:zgv prog w id_ Q h):Call2 prog zdd [(shPtr).enc w,yH.enc id_] yH (zae) Q h:=
 show CallT prog zdd [(shPtr).enc w,yH.enc id_] (shRes tb [2,4]) (fun r=>Q r.1 r.2) h from zab (C:=⟨prog,tb,zzw⟩) (A:=zzx) tb_ok func43 rfl (Eq.mpr (by kernel_rfl) hv)
theorem zdp {p Q h} (hv:ziy prog p Q h):CallT prog zbh [yH.enc p] yH Q h:=
 zab (C:=⟨prog,tb,zej1⟩) (A:=zek1) tb_ok func44 rfl (Eq.mpr (by kernel_rfl) hv)
theorem zdq {p Q h} (hv:ziz prog p Q h):CallT prog zcb [yH.enc p] yH Q h:=
 zab (C:=⟨prog,tb,zel1⟩) (A:=zem1) tb_ok func45 rfl (Eq.mpr (by kernel_rfl) hv)
theorem zgx1 {l Q h} (hv:zmq prog l Q h):Call3 prog zwd [(shSl).enc l] (shPtr) yH yH Q h:=
 show CallT prog zwd [(shSl).enc l] (shRes tb [88,30,3]) (fun r=>Q r.1 r.2.1 r.2.2) h from zab (C:=⟨prog,tb,zpg1⟩) (A:=zph1) tb_ok func46 rfl (Eq.mpr (by kernel_rfl) hv)
theorem zsr {s t Q h} (hv:zht prog s t Q h):CallT prog zmk [(shPtr).enc s,yH.enc t] yH Q h:=
 zab (C:=⟨prog,tb,zwr⟩) (A:=zws) tb_ok func50 rfl (Eq.mpr (by kernel_rfl) hv)
theorem zpp {m x Q h} (hv:zgi prog m x Q h):Call0 prog zgh [(shPtr).enc m,(shPtr).enc x] (Q) h:=
 show CallT prog zgh [(shPtr).enc m,(shPtr).enc x] (shRes tb []) (fun _=>Q) h from zab (C:=⟨prog,tb,zto⟩) (A:=ztp) tb_ok func51 rfl (Eq.mpr (by kernel_rfl) hv)
theorem zon {m p Q h} (hv:zfo prog m p Q h):Call0 prog zfk [(shPtr).enc m,(shPtr).enc p] (Q) h:=
 show CallT prog zfk [(shPtr).enc m,(shPtr).enc p] (shRes tb []) (fun _=>Q) h from zab (C:=⟨prog,tb,zse⟩) (A:=zsf) tb_ok func52 rfl (Eq.mpr (by kernel_rfl) hv)
theorem znp {m p Q h} (hv:zer prog m p Q h):CallT prog zir [(shPtr).enc m,yH.enc p] yH Q h:=
 zab (C:=⟨prog,tb,zrb⟩) (A:=zrc) tb_ok func53 rfl (Eq.mpr (by kernel_rfl) hv)
theorem zjd {p lane v Q h} (hv:zja prog p lane v Q h):CallT prog zis [(shPtr).enc p,yH.enc lane,yH.enc v] yH Q h:=
 zab (C:=⟨prog,tb,zen1⟩) (A:=zeo1) tb_ok func54 rfl (Eq.mpr (by kernel_rfl) hv)
theorem znd {p lane Q h} (hv:zhn prog p lane Q h):Call0 prog zfb [(shPtr).enc p,yH.enc lane] (Q) h:=
 show CallT prog zfb [(shPtr).enc p,yH.enc lane] (shRes tb []) (fun _=>Q) h from zab (C:=⟨prog,tb,zbt1⟩) (A:=zbu1) tb_ok func55 rfl (Eq.mpr (by kernel_rfl) hv)
theorem zdu {m q Q h} (hv:zfp prog m q Q h):Call0 prog zcg [(shPtr).enc m,(shPtr).enc q] (Q) h:=
 show CallT prog zcg [(shPtr).enc m,(shPtr).enc q] (shRes tb []) (fun _=>Q) h from zab (C:=⟨prog,tb,zsg⟩) (A:=zsh) tb_ok func56 rfl (Eq.mpr (by kernel_rfl) hv)
theorem zoo {m p state Q h} (hv:zfq prog m p state Q h):Call0 prog zfl [(shPtr).enc m,(shPtr).enc p,yH.enc state] (Q) h:=
 show CallT prog zfl [(shPtr).enc m,(shPtr).enc p,yH.enc state] (shRes tb []) (fun _=>Q) h from zab (C:=⟨prog,tb,zsi⟩) (A:=zsj) tb_ok func57 rfl (Eq.mpr (by kernel_rfl) hv)
theorem zop {l Q h} (hv:zmr prog l Q h):Call2 prog zql [(shSl).enc l] yH yH Q h:=
 show CallT prog zql [(shSl).enc l] (shRes tb [30,3]) (fun r=>Q r.1 r.2) h from zab (C:=⟨prog,tb,zpi1⟩) (A:=zpj1) tb_ok func68 rfl (Eq.mpr (by kernel_rfl) hv)
theorem zvn {n most Q h} (hv:zwj prog n most Q h):CallT prog zwe [yH.enc n,yH.enc most] yH Q h:=
 zab (C:=⟨prog,tb,zpk1⟩) (A:=zpl1) tb_ok func69 rfl (Eq.mpr (by kernel_rfl) hv)
theorem zvo {table parts Q h} (hv:zms prog table parts Q h):Call3 prog zqm [(shSl).enc table,yH.enc parts] (shPtr) yH yH Q h:=
 show CallT prog zqm [(shSl).enc table,yH.enc parts] (shRes tb [89,30,3]) (fun r=>Q r.1 r.2.1 r.2.2) h from zab (C:=⟨prog,tb,zpm1⟩) (A:=zpn1) tb_ok func70 rfl (Eq.mpr (by kernel_rfl) hv)
theorem zci1 {part n Q h} (hv:zqq prog part n Q h):CallT prog zyc [yH.enc part,yH.enc n] yH Q h:=
 zab (C:=⟨prog,tb,zjn1⟩) (A:=zjo1) tb_ok func71 rfl (Eq.mpr (by kernel_rfl) hv)
theorem zfc {n from_ to Q h} (hv:zqr prog n from_ to Q h):CallT prog zgt [yH.enc n,yH.enc from_,yH.enc to] (zae) Q h:=
 zab (C:=⟨prog,tb,zjp1⟩) (A:=zjq1) tb_ok func72 rfl (Eq.mpr (by kernel_rfl) hv)
theorem zkg1 {l locks Q h} (hv:zzl prog l locks Q h):Call2 prog zzg [(shSl).enc l,yH.enc locks] yH yH Q h:=
 show CallT prog zzg [(shSl).enc l,yH.enc locks] (shRes tb [30,3]) (fun r=>Q r.1 r.2) h from zab (C:=⟨prog,tb,zuk1⟩) (A:=zul1) tb_ok func73 rfl (Eq.mpr (by kernel_rfl) hv)
theorem zgy1 {owners queues Q h} (hv:zwk prog owners queues Q h):Call2 prog zqn [(shSl).enc owners,(shSl).enc queues] (shPtr) yH Q h:=
 show CallT prog zqn [(shSl).enc owners,(shSl).enc queues] (shRes tb [96,30]) (fun r=>Q r.1 r.2) h from zab (C:=⟨prog,tb,zpo1⟩) (A:=zpp1) tb_ok func74 rfl (Eq.mpr (by kernel_rfl) hv)
theorem zgz1 {Q h} (hv:zqs prog  Q h):CallT prog zwf [] (shPtr) Q h:=
 zab (C:=⟨prog,tb,zpq1⟩) (A:=zpr1) tb_ok func75 rfl (Eq.mpr (by kernel_rfl) hv)
theorem zkh1 {room l cursor Q h} (hv:zzm prog room l cursor Q h):Call2 prog zuo [yH.enc room,(shSl).enc l,yH.enc cursor] (shPtr) yH Q h:=
 show CallT prog zuo [yH.enc room,(shSl).enc l,yH.enc cursor] (shRes tb [106,30]) (fun r=>Q r.1 r.2) h from zab (C:=⟨prog,tb,zum1⟩) (A:=zun1) tb_ok func76 rfl (Eq.mpr (by kernel_rfl) hv)
theorem zhf {w id_ due Q h} (hv:zgw prog w id_ due Q h):CallT prog zaz [(shPtr).enc w,yH.enc id_,yH.enc due] yH Q h:=
 zab (C:=⟨prog,tb,zzy⟩) (A:=zzz) tb_ok func77 rfl (Eq.mpr (by kernel_rfl) hv)
theorem znq {x count Q h} (hv:zes prog x count Q h):CallT prog zah [(shSl).enc x,yH.enc count] (shSl) Q h:=
 zab (C:=⟨prog,tb,zrd⟩) (A:=zre) tb_ok func78 rfl (Eq.mpr (by kernel_rfl) hv)
theorem zeg {s Q h} (hv:zbs prog s Q h):CallT prog zda [(shSl).enc s] (shSl) Q h:=
 zab (C:=⟨prog,tb,zma⟩) (A:=zmb) tb_ok func86 rfl (Eq.mpr (by kernel_rfl) hv)
theorem zcm {s Q h} (hv:zbe prog s Q h):CallT prog zdf [(shSl).enc s] (shSl) Q h:=
 zab (C:=⟨prog,tb,zsk⟩) (A:=zsl) tb_ok func87 rfl (Eq.mpr (by kernel_rfl) hv)
theorem zhz {s Q h} (hv:zdy prog s Q h):CallT prog zdw [(shSl).enc s] (shSl) Q h:=
 zab (C:=⟨prog,tb,zjj⟩) (A:=zjk) tb_ok func88 rfl (Eq.mpr (by kernel_rfl) hv)
theorem zje {s Q h} (hv:zej prog s Q h):CallT prog zei [(shSl).enc s] (shSl) Q h:=
 zab (C:=⟨prog,tb,zkx⟩) (A:=zky) tb_ok func89 rfl (Eq.mpr (by kernel_rfl) hv)
theorem zlu {l Q h} (hv:zke prog l Q h):CallT prog zjy [(shPtr).enc l] (sh_api_Lane) Q h:=
 zab (C:=⟨prog,tb,zaa1⟩) (A:=zab1) tb_ok func90 rfl (Eq.mpr (by kernel_rfl) hv)
theorem zjf {state Q h} (hv:zmt prog state Q h):CallT prog zit [yH.enc state] (zae) Q h:=
 zab (C:=⟨prog,tb,zep1⟩) (A:=zeq1) tb_ok func96 rfl (Eq.mpr (by kernel_rfl) hv)
theorem zss {t i j Q h} (hv:zhu prog t i j Q h):CallT prog zml [(shPtr).enc t,yH.enc i,yH.enc j] (zae) Q h:=
 zab (C:=⟨prog,tb,zwt⟩) (A:=zwu) tb_ok func97 rfl (Eq.mpr (by kernel_rfl) hv)
theorem zuw {w now Q h} (hv:zgx prog w now Q h):CallT prog zpc [(shPtr).enc w,yH.enc now] (shSl) Q h:=
 zab (C:=⟨prog,tb,zac1⟩) (A:=zad1) tb_ok func101 rfl (Eq.mpr (by kernel_rfl) hv)
theorem zdv {m p c Q h} (hv:zfr prog m p c Q h):Call0 prog zch [(shPtr).enc m,(shPtr).enc p,(zad).enc c] (Q) h:=
 show CallT prog zch [(shPtr).enc m,(shPtr).enc p,(zad).enc c] (shRes tb []) (fun _=>Q) h from zab (C:=⟨prog,tb,zsm⟩) (A:=zsn) tb_ok func102 rfl (Eq.mpr (by kernel_rfl) hv)
theorem zey {c Q h} (hv:zzn prog c Q h):CallT prog zfj [(zad).enc c] (zad) Q h:=
 zab (C:=⟨prog,tb,zuo1⟩) (A:=zup1) tb_ok func103 rfl (Eq.mpr (by kernel_rfl) hv)
theorem zki1 {c l tick self Q h} (hv:zzo prog c l tick self Q h):Call2 prog zzh [(zad).enc c,(shSl).enc l,yH.enc tick,yH.enc self] (zad) (zhq) Q h:=
 show CallT prog zzh [(zad).enc c,(shSl).enc l,yH.enc tick,yH.enc self] (shRes tb [105,184]) (fun r=>Q r.1 r.2) h from zab (C:=⟨prog,tb,zuq1⟩) (A:=zur1) tb_ok func104 rfl (Eq.mpr (by kernel_rfl) hv)
theorem znr {m p to v Q h} (hv:zet prog m p to v Q h):Call0 prog zem [(shPtr).enc m,(shPtr).enc p,yH.enc to,yH.enc v] (Q) h:=
 show CallT prog zem [(shPtr).enc m,(shPtr).enc p,yH.enc to,yH.enc v] (shRes tb []) (fun _=>Q) h from zab (C:=⟨prog,tb,zrf⟩) (A:=zrg) tb_ok func105 rfl (Eq.mpr (by kernel_rfl) hv)
theorem zhc {m p try_ Q h} (hv:zeu prog m p try_ Q h):Call0 prog zen [(shPtr).enc m,(shPtr).enc p,(zae).enc try_] (Q) h:=
 show CallT prog zen [(shPtr).enc m,(shPtr).enc p,(zae).enc try_] (shRes tb []) (fun _=>Q) h from zab (C:=⟨prog,tb,zrh⟩) (A:=zri) tb_ok func106 rfl (Eq.mpr (by kernel_rfl) hv)
theorem zci {w id_ Q h} (hv:zev prog w id_ Q h):CallT prog zbo [(shPtr).enc w,yH.enc id_] (zae) Q h:=
 zab (C:=⟨prog,tb,zwv⟩) (A:=zww) tb_ok func107 rfl (Eq.mpr (by kernel_rfl) hv)
theorem ztq {l n p Q h} (hv:zjb prog l n p Q h):Call2 prog zfu [(shPtr).enc l,yH.enc n,yH.enc p] (zae) yH Q h:=
 show CallT prog zfu [(shPtr).enc l,yH.enc n,yH.enc p] (shRes tb [4,30]) (fun r=>Q r.1 r.2) h from zab (C:=⟨prog,tb,zyh⟩) (A:=zyi) tb_ok func108 rfl (Eq.mpr (by kernel_rfl) hv)
theorem zfv {s v Q h} (hv:zds prog s v Q h):CallT prog zcl [(shSl).enc s,yH.enc v] (zae) Q h:=
 zab (C:=⟨prog,tb,zoh⟩) (A:=zoi) tb_ok func109 rfl (Eq.mpr (by kernel_rfl) hv)
theorem zjr {l p Q h} (hv:zhv prog l p Q h):CallT prog zeo [(shPtr).enc l,yH.enc p] (shSl) Q h:=
 zab (C:=⟨prog,tb,zwx⟩) (A:=zwy) tb_ok func110 rfl (Eq.mpr (by kernel_rfl) hv)
theorem zkz {l n p Q h} (hv:zjc prog l n p Q h):Call2 prog zdo [(shPtr).enc l,yH.enc n,yH.enc p] yH yH Q h:=
 show CallT prog zdo [(shPtr).enc l,yH.enc n,yH.enc p] (shRes tb [3,30]) (fun r=>Q r.1 r.2) h from zab (C:=⟨prog,tb,zyj⟩) (A:=zyk) tb_ok func111 rfl (Eq.mpr (by kernel_rfl) hv)
theorem zdl {m who Q h} (hv:zew prog m who Q h):Call0 prog zay [(shPtr).enc m,yH.enc who] (Q) h:=
 show CallT prog zay [(shPtr).enc m,yH.enc who] (shRes tb []) (fun _=>Q) h from zab (C:=⟨prog,tb,zrj⟩) (A:=zrk) tb_ok func112 rfl (Eq.mpr (by kernel_rfl) hv)
theorem zpq {n Q h} (hv:zoe prog n Q h):CallT prog zks [yH.enc n] yH Q h:=
 zab (C:=⟨prog,tb,zgr1⟩) (A:=zgs1) tb_ok func113 rfl (Eq.mpr (by kernel_rfl) hv)
theorem zhg {p n Q h} (hv:zkf prog p n Q h):CallT prog zgu [(shPtr).enc p,yH.enc n] (zae) Q h:=
 zab (C:=⟨prog,tb,zae1⟩) (A:=zaf1) tb_ok func114 rfl (Eq.mpr (by kernel_rfl) hv)
theorem zym {l v Q h} (hv:zmu prog l v Q h):CallT prog ztc [(shPtr).enc l,yH.enc v] yH Q h:=
 zab (C:=⟨prog,tb,zer1⟩) (A:=zes1) tb_ok func115 rfl (Eq.mpr (by kernel_rfl) hv)
theorem zxi {l Q h} (hv:zli prog l Q h):Call0 prog zlc [(shPtr).enc l] (Q) h:=
 show CallT prog zlc [(shPtr).enc l] (shRes tb []) (fun _=>Q) h from zab (C:=⟨prog,tb,zbv1⟩) (A:=zbw1) tb_ok func116 rfl (Eq.mpr (by kernel_rfl) hv)
theorem zux {p proc Q h} (hv:zkg prog p proc Q h):CallT prog zjz [(shPtr).enc p,yH.enc proc] (zae) Q h:=
 zab (C:=⟨prog,tb,zag1⟩) (A:=zah1) tb_ok func117 rfl (Eq.mpr (by kernel_rfl) hv)
theorem zuy {l p Q h} (hv:zkh prog l p Q h):CallT prog zpd [(shPtr).enc l,yH.enc p] (shSl) Q h:=
 zab (C:=⟨prog,tb,zai1⟩) (A:=zaj1) tb_ok func118 rfl (Eq.mpr (by kernel_rfl) hv)
theorem zyn {p Q h} (hv:zmv prog p Q h):CallT prog ztd [(shPtr).enc p] (shSl) Q h:=
 zab (C:=⟨prog,tb,zet1⟩) (A:=zeu1) tb_ok func119 rfl (Eq.mpr (by kernel_rfl) hv)
theorem zaq {m p reply Q h} (hv:zdt prog m p reply Q h):Call0 prog zal [(shPtr).enc m,(shPtr).enc p,yH.enc reply] (Q) h:=
 show CallT prog zal [(shPtr).enc m,(shPtr).enc p,yH.enc reply] (shRes tb []) (fun _=>Q) h from zab (C:=⟨prog,tb,zoj⟩) (A:=zok) tb_ok func120 rfl (Eq.mpr (by kernel_rfl) hv)
theorem zfd {s f Q h} (hv:zdj prog s f Q h):CallT prog zhb [(shSl).enc s,(shFn).enc f] yH Q h:=
 zab (C:=⟨prog,tb,znk⟩) (A:=znl) tb_ok func130 rfl (Eq.mpr (by kernel_rfl) hv)
theorem zrx {p a1 Q h} (hv:zqt prog p a1 Q h):CallT prog ziu [yH.enc p,.pointer (some a1)] (zae) Q h:=
 zab (C:=⟨prog,tb,zjr1⟩) (A:=zjs1) tb_ok func131 rfl (Eq.mpr (by kernel_rfl) hv)
theorem ztr {x n locks Q h} (hv:zti prog x n locks Q h):CallT prog zte [(sh_api_Ins).enc x,yH.enc n,yH.enc locks] yH Q h:=
 zab (C:=⟨prog,tb,zmi1⟩) (A:=zmj1) tb_ok func132 rfl (Eq.mpr (by kernel_rfl) hv)
theorem zjs {l p Q h} (hv:zhw prog l p Q h):Call2 prog zep [(shPtr).enc l,yH.enc p] yH (zae) Q h:=
 show CallT prog zep [(shPtr).enc l,yH.enc p] (shRes tb [3,4]) (fun r=>Q r.1 r.2) h from zab (C:=⟨prog,tb,zwz⟩) (A:=zxa) tb_ok func133 rfl (Eq.mpr (by kernel_rfl) hv)
theorem zkj1 {room s Q h} (hv:zzp prog room s Q h):Call2 prog zzi [yH.enc room,(sh_api_Lane).enc s] (shPtr) yH Q h:=
 show CallT prog zzi [yH.enc room,(sh_api_Lane).enc s] (shRes tb [162,30]) (fun r=>Q r.1 r.2) h from zab (C:=⟨prog,tb,zus1⟩) (A:=zut1) tb_ok func134 rfl (Eq.mpr (by kernel_rfl) hv)
theorem zbw {x target cmp Q h} (hv:zam prog x target cmp Q h):Call2 prog zai [(shSl).enc x,(sh_wheel_entry).enc target,(shFn).enc cmp] yH (zae) Q h:=
 show CallT prog zai [(shSl).enc x,(sh_wheel_entry).enc target,(shFn).enc cmp] (shRes tb [3,4]) (fun r=>Q r.1 r.2) h from zab (C:=⟨prog,tb,zcc⟩) (A:=zcd) tb_ok func135 rfl (Eq.mpr (by kernel_rfl) hv)
theorem zry {a b Q h} (hv:zqu prog a b Q h):CallT prog ziv [(sh_wheel_entry).enc a,(sh_wheel_entry).enc b] yH Q h:=
 zab (C:=⟨prog,tb,zjt1⟩) (A:=zju1) tb_ok func136 rfl (Eq.mpr (by kernel_rfl) hv)
theorem zfe {s i v Q h} (hv:zcp prog s i v Q h):CallT prog zbc [(shSl).enc s,yH.enc i,(shSl).enc v] (shSl) Q h:=
 zab (C:=⟨prog,tb,zgj⟩) (A:=zgk) tb_ok func137 rfl (Eq.mpr (by kernel_rfl) hv)
theorem zyo {x y Q h} (hv:ztj prog x y Q h):Call2 prog zmm [(shInt .u64).enc x,(shInt .u64).enc y] (shInt .u64) (shInt .u64) Q h:=
 show CallT prog zmm [(shInt .u64).enc x,(shInt .u64).enc y] (shRes tb [217,217]) (fun r=>Q r.1 r.2) h from zab (C:=⟨prog,tb,zev1⟩) (A:=zew1) tb_ok func138 rfl (Eq.mpr (by kernel_rfl) hv)
theorem zff {s Q h} (hv:zdk prog s Q h):CallT prog zdi [(shSl).enc s] (shSl) Q h:=
 zab (C:=⟨prog,tb,znm⟩) (A:=znn) tb_ok func150 rfl (Eq.mpr (by kernel_rfl) hv)
theorem zcr {s Q h} (hv:zbk prog s Q h):CallT prog zbi [(shSl).enc s] (shSl) Q h:=
 zab (C:=⟨prog,tb,zhi⟩) (A:=zhj) tb_ok func151 rfl (Eq.mpr (by kernel_rfl) hv)
theorem zne {t i Q h} (hv:zlj prog t i Q h):CallT prog zld [(shPtr).enc t,yH.enc i] (zae) Q h:=
 zab (C:=⟨prog,tb,zbx1⟩) (A:=zby1) tb_ok func152 rfl (Eq.mpr (by kernel_rfl) hv)
theorem zcj1 {a b Q h} (hv:zqv prog a b Q h):CallT prog zyd [(shInt .u64).enc a,(shInt .u64).enc b] (zae) Q h:=
 zab (C:=⟨prog,tb,zjv1⟩) (A:=zjw1) tb_ok func153 rfl (Eq.mpr (by kernel_rfl) hv)
theorem zxj {c l Q h} (hv:zji1 prog c l Q h):Call2 prog zye [(zad).enc c,(shSl).enc l] (sh_api_Ins) (zae) Q h:=
 show CallT prog zye [(zad).enc c,(shSl).enc l] (shRes tb [84,4]) (fun r=>Q r.1 r.2) h from zab (C:=⟨prog,tb,zbe2⟩) (A:=zbf2) tb_ok func154 rfl (Eq.mpr (by kernel_rfl) hv)
theorem zha1 {x r Q h} (hv:zwl prog x r Q h):Call3 prog zwg [(sh_api_Ins).enc x,(zdr).enc r] (zhq) (zae) (zae) Q h:=
 show CallT prog zwg [(sh_api_Ins).enc x,(zdr).enc r] (shRes tb [184,4,4]) (fun r=>Q r.1 r.2.1 r.2.2) h from zab (C:=⟨prog,tb,zps1⟩) (A:=zpt1) tb_ok func155 rfl (Eq.mpr (by kernel_rfl) hv)
theorem zbr {c reg v Q h} (hv:zof prog c reg v Q h):Call0 prog zbj [(shPtr).enc c,yH.enc reg,yH.enc v] (Q) h:=
 show CallT prog zbj [(shPtr).enc c,yH.enc reg,yH.enc v] (shRes tb []) (fun _=>Q) h from zab (C:=⟨prog,tb,zgt1⟩) (A:=zgu1) tb_ok func156 rfl (Eq.mpr (by kernel_rfl) hv)
theorem zqc1 {op b c Q h} (hv:zjj1 prog op b c Q h):Call2 prog zjg1 [yH.enc op,yH.enc b,yH.enc c] yH yH Q h:=
 show CallT prog zjg1 [yH.enc op,yH.enc b,yH.enc c] (shRes tb [2,30]) (fun r=>Q r.1 r.2) h from zab (C:=⟨prog,tb,zbg2⟩) (A:=zbh2) tb_ok func157 rfl (Eq.mpr (by kernel_rfl) hv)
theorem zqd1 {op b c Q h} (hv:zjk1 prog op b c Q h):Call2 prog zjh1 [yH.enc op,yH.enc b,yH.enc c] yH yH Q h:=
 show CallT prog zjh1 [yH.enc op,yH.enc b,yH.enc c] (shRes tb [2,30]) (fun r=>Q r.1 r.2) h from zab (C:=⟨prog,tb,zbi2⟩) (A:=zbj2) tb_ok func158 rfl (Eq.mpr (by kernel_rfl) hv)
theorem znf {m p q v Q h} (hv:zef prog m p q v Q h):Call0 prog zed [(shPtr).enc m,(shPtr).enc p,(shPtr).enc q,yH.enc v] (Q) h:=
 show CallT prog zed [(shPtr).enc m,(shPtr).enc p,(shPtr).enc q,yH.enc v] (shRes tb []) (fun _=>Q) h from zab (C:=⟨prog,tb,zpn⟩) (A:=zpo) tb_ok func159 rfl (Eq.mpr (by kernel_rfl) hv)
theorem zrn {c code v from_ Q h} (hv:zzq prog c code v from_ Q h):CallT prog zup [(zad).enc c,(shSl).enc code,yH.enc v,yH.enc from_] (zad) Q h:=
 zab (C:=⟨prog,tb,zuu1⟩) (A:=zuv1) tb_ok func161 rfl (Eq.mpr (by kernel_rfl) hv)
theorem zfg {s i j Q h} (hv:zcq prog s i j Q h):CallT prog zco [(shSl).enc s,yH.enc i,yH.enc j] (shSl) Q h:=
 zab (C:=⟨prog,tb,zgl⟩) (A:=zgm) tb_ok func162 rfl (Eq.mpr (by kernel_rfl) hv)
theorem zjt {l n p Q h} (hv:zhx prog l n p Q h):CallT prog zhr [(shPtr).enc l,yH.enc n,yH.enc p] yH Q h:=
 zab (C:=⟨prog,tb,zxb⟩) (A:=zxc) tb_ok func163 rfl (Eq.mpr (by kernel_rfl) hv)
theorem zhk {s v Q h} (hv:zfs prog s v Q h):CallT prog zfm [(shSl).enc s,yH.enc v] yH Q h:=
 zab (C:=⟨prog,tb,zso⟩) (A:=zsp) tb_ok func164 rfl (Eq.mpr (by kernel_rfl) hv)
theorem zng {l Q h} (hv:zlk prog l Q h):CallT prog zlf [(shPtr).enc l] (zae) Q h:=
 zab (C:=⟨prog,tb,zbz1⟩) (A:=zca1) tb_ok func165 rfl (Eq.mpr (by kernel_rfl) hv)
theorem zvp {n Q h} (hv:zwm prog n Q h):CallT prog zwh [yH.enc n] yH Q h:=
 zab (C:=⟨prog,tb,zpu1⟩) (A:=zpv1) tb_ok func166 rfl (Eq.mpr (by kernel_rfl) hv)
theorem zuz {l p Q h} (hv:zki prog l p Q h):CallT prog zpe [(shPtr).enc l,yH.enc p] (zae) Q h:=
 zab (C:=⟨prog,tb,zak1⟩) (A:=zal1) tb_ok func167 rfl (Eq.mpr (by kernel_rfl) hv)
theorem zns {s i j Q h} (hv:zex prog s i j Q h):CallT prog ziw [(shSl).enc s,yH.enc i,yH.enc j] (shSl) Q h:=
 zab (C:=⟨prog,tb,zrl⟩) (A:=zrm) tb_ok func168 rfl (Eq.mpr (by kernel_rfl) hv)
theorem zyp {l Q h} (hv:zmw prog l Q h):CallT prog ztf [(shPtr).enc l] (shSl) Q h:=
 zab (C:=⟨prog,tb,zex1⟩) (A:=zey1) tb_ok func169 rfl (Eq.mpr (by kernel_rfl) hv)
theorem zkk1 {c code reply Q h} (hv:zzr prog c code reply Q h):CallT prog zhz1 [(zad).enc c,(shSl).enc code,yH.enc reply] (zad) Q h:=
 zab (C:=⟨prog,tb,zuw1⟩) (A:=zux1) tb_ok func170 rfl (Eq.mpr (by kernel_rfl) hv)
theorem zfh1 {x n locks Q h} (hv:ztk prog x n locks Q h):Call2 prog ztg [(sh_api_Ins).enc x,yH.enc n,yH.enc locks] yH yH Q h:=
 show CallT prog ztg [(sh_api_Ins).enc x,yH.enc n,yH.enc locks] (shRes tb [30,3]) (fun r=>Q r.1 r.2) h from zab (C:=⟨prog,tb,zmk1⟩) (A:=zml1) tb_ok func173 rfl (Eq.mpr (by kernel_rfl) hv)
theorem zkl1 {room Q h} (hv:zzs prog room Q h):Call2 prog zzj [yH.enc room] (shPtr) yH Q h:=
 show CallT prog zzj [yH.enc room] (shRes tb [162,30]) (fun r=>Q r.1 r.2) h from zab (C:=⟨prog,tb,zuy1⟩) (A:=zuz1) tb_ok func174 rfl (Eq.mpr (by kernel_rfl) hv)
theorem zlq {n from_ to Q h} (hv:zlz prog n from_ to Q h):CallT prog zly [yH.enc n,yH.enc from_,yH.enc to] (zae) Q h:=
 zab (C:=⟨prog,tb,zjx1⟩) (A:=zjy1) tb_ok func175 rfl (Eq.mpr (by kernel_rfl) hv)
theorem zfi1 {l Q h} (hv:ztl prog l Q h):CallT prog zbh1 [(shSl).enc l] (zae) Q h:=
 zab (C:=⟨prog,tb,zmm1⟩) (A:=zmn1) tb_ok func176 rfl (Eq.mpr (by kernel_rfl) hv)
theorem zfj1 {vals Q h} (hv:ztm prog vals Q h):CallT prog zbi1 [(shSl).enc vals] yH Q h:=
 zab (C:=⟨prog,tb,zmo1⟩) (A:=zmp1) tb_ok func177 rfl (Eq.mpr (by kernel_rfl) hv)
theorem zst {x y Q h} (hv:zhy prog x y Q h):CallT prog zmn [yH.enc x,yH.enc y] yH Q h:=
 zab (C:=⟨prog,tb,zxd⟩) (A:=zxe) tb_ok func178 rfl (Eq.mpr (by kernel_rfl) hv)
theorem zva {x y Q h} (hv:zkj prog x y Q h):CallT prog zpf [yH.enc x,yH.enc y] yH Q h:=
 zab (C:=⟨prog,tb,zam1⟩) (A:=zan1) tb_ok func179 rfl (Eq.mpr (by kernel_rfl) hv)
theorem zvb {x y Q h} (hv:zkk prog x y Q h):Call2 prog zka [(shInt .u64).enc x,(shInt .u64).enc y] (shInt .u64) (shInt .u64) Q h:=
 show CallT prog zka [(shInt .u64).enc x,(shInt .u64).enc y] (shRes tb [82,82]) (fun r=>Q r.1 r.2) h from zab (C:=⟨prog,tb,zao1⟩) (A:=zap1) tb_ok func183 rfl (Eq.mpr (by kernel_rfl) hv)
theorem zpr {b c Q h} (hv:zog prog b c Q h):CallT prog zoc [yH.enc b,yH.enc c] yH Q h:=
 zab (C:=⟨prog,tb,zgv1⟩) (A:=zgw1) tb_ok func189 rfl (Eq.mpr (by kernel_rfl) hv)
theorem zkm1 {b c Q h} (hv:zib1 prog b c Q h):CallT prog zia1 [yH.enc b,yH.enc c] yH Q h:=
 zab (C:=⟨prog,tb,zva1⟩) (A:=zvb1) tb_ok func190 rfl (Eq.mpr (by kernel_rfl) hv)
theorem zhb1 {b c Q h} (hv:zef1 prog b c Q h):CallT prog zeb1 [yH.enc b,yH.enc c] yH Q h:=
 zab (C:=⟨prog,tb,zpw1⟩) (A:=zpx1) tb_ok func191 rfl (Eq.mpr (by kernel_rfl) hv)
theorem zbj1 {is Q h} (hv:zeg1 prog is Q h):CallT prog zec1 [(zae).enc is] yH Q h:=
 zab (C:=⟨prog,tb,zye1⟩) (A:=zyf1) tb_ok func192 rfl (Eq.mpr (by kernel_rfl) hv)
theorem zvq {bits Q h} (hv:zwn prog bits Q h):CallT prog zwi [yH.enc bits] (shFlt .f64) Q h:=
 zab (C:=⟨prog,tb,zpy1⟩) (A:=zpz1) tb_ok func193 rfl (Eq.mpr (by kernel_rfl) hv)
theorem zjg {f Q h} (hv:zzt prog f Q h):CallT prog zmd [(shFlt .f64).enc f] yH Q h:=
 zab (C:=⟨prog,tb,zvc1⟩) (A:=zvd1) tb_ok func194 rfl (Eq.mpr (by kernel_rfl) hv)
theorem zhc1 {f Q h} (hv:zwo prog f Q h):CallT prog zed1 [(shFlt .f64).enc f] yH Q h:=
 zab (C:=⟨prog,tb,zqa1⟩) (A:=zqb1) tb_ok func195 rfl (Eq.mpr (by kernel_rfl) hv)
theorem zxk {p lane proc v Q h} (hv:zll prog p lane proc v Q h):CallT prog zrv [(shPtr).enc p,yH.enc lane,yH.enc proc,yH.enc v] yH Q h:=
 zab (C:=⟨prog,tb,zcb1⟩) (A:=zcc1) tb_ok func196 rfl (Eq.mpr (by kernel_rfl) hv)
theorem zvc {p Q h} (hv:zpi prog p Q h):CallT prog zpg [(shPtr).enc p] (shFn) Q h:=
 zab (C:=⟨prog,tb,zaq1⟩) (A:=zar1) tb_ok func197 rfl (Eq.mpr (by kernel_rfl) hv)
theorem zyq {l Q h} (hv:zmx prog l Q h):CallT prog zee1 [(shPtr).enc l] yH Q h:=
 zab (C:=⟨prog,tb,zez1⟩) (A:=zfa1) tb_ok func198 rfl (Eq.mpr (by kernel_rfl) hv)
theorem zxl {l Q h} (hv:zlm prog l Q h):Call4 prog zlg [(shPtr).enc l] yH (sh_api_Waiter) (zae) yH Q h:=
 show CallT prog zlg [(shPtr).enc l] (shRes tb [2,149,4,30]) (fun r=>Q r.1 r.2.1 r.2.2.1 r.2.2.2) h from zab (C:=⟨prog,tb,zcd1⟩) (A:=zce1) tb_ok func199 rfl (Eq.mpr (by kernel_rfl) hv)
theorem zlv {l p Q h} (hv:zkl prog l p Q h):CallT prog zkb [(shPtr).enc l,yH.enc p] yH Q h:=
 zab (C:=⟨prog,tb,zas1⟩) (A:=zat1) tb_ok func200 rfl (Eq.mpr (by kernel_rfl) hv)
theorem zfz {s i j Q h} (hv:zbd prog s i j Q h):CallT prog zcy [(shSl).enc s,yH.enc i,yH.enc j] (shSl) Q h:=
 zab (C:=⟨prog,tb,zhd⟩) (A:=zhe) tb_ok func201 rfl (Eq.mpr (by kernel_rfl) hv)
theorem zck1 {op Q h} (hv:zqw prog op Q h):Call4 prog zqo [yH.enc op] (zae) (zae) (zae) (zae) Q h:=
 show CallT prog zqo [yH.enc op] (shRes tb [4,4,4,4]) (fun r=>Q r.1 r.2.1 r.2.2.1 r.2.2.2) h from zab (C:=⟨prog,tb,zjz1⟩) (A:=zka1) tb_ok func205 rfl (Eq.mpr (by kernel_rfl) hv)
theorem zjh {has n Q h} (hv:zmy prog has n Q h):CallT prog zix [(zae).enc has,yH.enc n] yH Q h:=
 zab (C:=⟨prog,tb,zfb1⟩) (A:=zfc1) tb_ok func206 rfl (Eq.mpr (by kernel_rfl) hv)
theorem zcl1 {x has n locks Q h} (hv:zqx prog x has n locks Q h):CallT prog zyf [(sh_api_Ins).enc x,(zae).enc has,yH.enc n,yH.enc locks] yH Q h:=
 zab (C:=⟨prog,tb,zkb1⟩) (A:=zkc1) tb_ok func207 rfl (Eq.mpr (by kernel_rfl) hv)
theorem zlw {x Q h} (hv:zkm prog x Q h):CallT prog zkc [yH.enc x] (zae) Q h:=
 zab (C:=⟨prog,tb,zau1⟩) (A:=zav1) tb_ok func208 rfl (Eq.mpr (by kernel_rfl) hv)
theorem zoa {x Q h} (hv:zmz prog x Q h):CallT prog zmo [yH.enc x] (zae) Q h:=
 zab (C:=⟨prog,tb,zfd1⟩) (A:=zfe1) tb_ok func209 rfl (Eq.mpr (by kernel_rfl) hv)
theorem zvd {p proc Q h} (hv:zkn prog p proc Q h):CallT prog zph [(shPtr).enc p,yH.enc proc] yH Q h:=
 zab (C:=⟨prog,tb,zaw1⟩) (A:=zax1) tb_ok func216 rfl (Eq.mpr (by kernel_rfl) hv)
theorem zxm {l p v Q h} (hv:zln prog l p v Q h):CallT prog zrw [(shPtr).enc l,yH.enc p,yH.enc v] yH Q h:=
 zab (C:=⟨prog,tb,zcf1⟩) (A:=zcg1) tb_ok func217 rfl (Eq.mpr (by kernel_rfl) hv)
theorem zez {s f Q h} (hv:zbb prog s f Q h):CallT prog zck [(shSl).enc s,(shFn).enc f] yH Q h:=
 zab (C:=⟨prog,tb,zfx⟩) (A:=zfy) tb_ok func219 rfl (Eq.mpr (by kernel_rfl) hv)
theorem zsu {w a1 Q h} (hv:zna prog w a1 Q h):CallT prog zeq [(sh_api_Waiter).enc w,.pointer (some a1)] (zae) Q h:=
 zab (C:=⟨prog,tb,zxf⟩) (A:=zxg) tb_ok func220 rfl (Eq.mpr (by kernel_rfl) hv)
theorem zcm1 {op Q h} (hv:zqy prog op Q h):CallT prog zyg [yH.enc op] (shStr) Q h:=
 zab (C:=⟨prog,tb,zkd1⟩) (A:=zke1) tb_ok func221 rfl (Eq.mpr (by kernel_rfl) hv)
theorem zyr {field a1 Q h} (hv:ztn prog field a1 Q h):CallT prog zth [(shStr).enc field,.pointer (some a1)] (zae) Q h:=
 zab (C:=⟨prog,tb,zff1⟩) (A:=zfg1) tb_ok func222 rfl (Eq.mpr (by kernel_rfl) hv)
section
variable {V:Type}
def kidx (a:Int):List (Int×V)->Option (Nat×V)
  | []=>none
  | (k,v)::r=>if a=k then some (0,v) else (kidx a r).map fun p=>(p.1+1,p.2)
def kget (a:Int):List (Int×V)->Option V
  | []=>none
  | (k,v)::r=>if a=k then some v else kget a r
def kset (a:Int) (v:V):List (Int×V)->List (Int×V)
  | []=> [(a,v)]
  | (k,u)::r=>if a=k then (a,v)::r else (k,u)::kset a v r
def kdel (a:Int):List (Int×V)->List (Int×V)
  | []=> []
  | (k,u)::r=>if a=k then r else (k,u)::kdel a r
theorem zcq1 (a b:Int) (v:V):∀l:List (Int×V),kget a (kset b v l)=if a=b then some v else kget a l
  | []=>by simp [kset,kget]
  | (k,u)::r=>by
    simp only [kset]
    by_cases h:b=k
    · rw [if_pos h]
      subst h
      simp only [kget]
      split<;>rfl
    · rw [if_neg h]
      simp only [kget,zcq1 a b v r]
      by_cases h2:a=k
      · subst h2
        rw [if_pos rfl,if_neg fun e=>h e.symm,if_pos rfl]
      · rw [if_neg h2,if_neg h2]
theorem zmq1 {a:Int}:∀ {l:List (Int×V)},a∉l.map (·.1)->kget a l=none
  | [],_=>rfl
  | (k,u)::r,h=>by
    simp only [List.map_cons,List.mem_cons,not_or] at h
    simp only [kget]
    rw [if_neg h.1]
    exact zmq1 h.2
theorem zsn1 (a b:Int):∀l:List (Int×V),(l.map (·.1)).Nodup->kget a (kdel b l)=if a=b then none else kget a l
  | [],_=>by simp [kdel,kget]
  | (k,u)::r,hn=>by
    simp only [List.map_cons,List.nodup_cons] at hn
    simp only [kdel]
    by_cases h:b=k
    · rw [if_pos h]
      subst h
      simp only [kget]
      by_cases h2:a=b
      · subst h2
        rw [if_pos rfl]
        exact zmq1 hn.1
      · rw [if_neg h2,if_neg h2]
    · rw [if_neg h]
      simp only [kget,zsn1 a b r hn.2]
      by_cases h2:a=k
      · subst h2
        rw [if_pos rfl,if_neg fun e=>h e.symm,if_pos rfl]
      · rw [if_neg h2,if_neg h2]
theorem zmr1 (b:Int) (v:V):∀(l:List (Int×V)) (a:Int),a∈(kset b v l).map (·.1)↔a=b\/a∈l.map (·.1)
  | [],a=>by simp [kset]
  | (k,u)::r,a=>by
    simp only [kset]
    by_cases h:b=k
    · subst h
      simp
    · rw [if_neg h]
      simp only [List.map_cons,List.mem_cons,zmr1 b v r a]
      constructor
      · rintro (e | e | e)
        · exact .inr (.inl e)
        · exact .inl e
        · exact .inr (.inr e)
      · rintro (e | e | e)
        · exact .inr (.inl e)
        · exact .inl e
        · exact .inr (.inr e)
theorem zic1 (b:Int) (v:V):∀ {l:List (Int×V)},(l.map (·.1)).Nodup->((kset b v l).map (·.1)).Nodup
  | [],_=>by simp [kset]
  | (k,u)::r,hn=>by
    simp only [List.map_cons,List.nodup_cons] at hn
    simp only [kset]
    by_cases h:b=k
    · subst h
      simp only [if_true,List.map_cons,List.nodup_cons]
      exact hn
    · rw [if_neg h]
      simp only [List.map_cons,List.nodup_cons]
      refine ⟨fun e=> ?_,zic1 b v hn.2⟩
      rcases (zmr1 b v r k).1 e with e | e
      · exact h e.symm
      · exact hn.1 e
theorem zso1 (b:Int):∀(l:List (Int×V)),(kdel b l).Sublist l
  | []=>.slnil
  | (k,u)::r=>by
    simp only [kdel]
    split
    · exact .cons _ (List.Sublist.refl r)
    · exact .cons_cons _ (zso1 b r)
theorem zve1 (b:Int) {l:List (Int×V)} (h:(l.map (·.1)).Nodup):((kdel b l).map (·.1)).Nodup:=h.sublist ((zso1 b l).map _)
theorem zms1 {b:Int}:∀ {l:List (Int×V)},kget b l=none->kdel b l=l
  | [],_=>rfl
  | (k,u)::r,h=>by
    simp only [kget] at h
    simp only [kdel]
    split at h
    · cases h
    · rename_i e
      rw [if_neg e,zms1 h]
theorem zkn1 (a:Int):∀l:List (Int×V),kget a l=(kidx a l).map (·.2)
  | []=>rfl
  | (k,v)::r=>by
    simp only [kget,kidx]
    split
    · rfl
    · rw [zkn1 a r]
      simp [Function.comp_def]
def MapKv (h:Hp) (m:Nat) (k:IntKind) (ev:V->Value) (kvs:List (Int×V)):Prop:=
  ∃(mes:List MapEntry) (ck:Nat),h m=some (.map mes.toArray ck)/\mes.map (fun e=>(e.key,e.val))=kvs.map fun p=>(Value.int k p.1,ev p.2)
variable {h:Hp} {m:Nat} {k:IntKind} {ev:V->Value} {kvs:List (Int×V)}
theorem zko1 (a:Int):∀(mes:List MapEntry) (kvs:List (Int×V)) (j:Nat),mes.map (fun e=>(e.key,e.val))=kvs.map (fun p=>(Value.int k p.1,ev p.2))->
    Instr.findNow (.int k) (.int k a) mes j=some ((kidx a kvs).map fun p=>(p.1+j,ev p.2))
  | [],[],j,_=>rfl
  | [],_::_,j,h=>by simp at h
  | _::_,[],j,h=>by simp at h
  | e::mes,(b,v)::r,j,h=>by
    simp only [List.map_cons,List.cons.injEq,Prod.mk.injEq] at h
    obtain ⟨⟨h1,h2⟩,h3⟩:=h
    simp only [Instr.findNow,h1,Instr.sameNow,if_true,kidx]
    by_cases hab:a=b
    · simp [hab,h2]
    · have hf:(a==b)=false:=by simpa using hab
      rw [hf,if_neg hab]
      simp only
      rw [zko1 a mes r (j+1) h3]
      cases kidx a r with
      | none=>rfl
      | some p=>simp;omega
theorem zcr1 {kd:IntKind} {sh:Shape} {kvs:List (Int×sh.T)} {a:Int} {z:sh.T} {zero:Value} {K:sh.T->Bool->Prop} (hm:MapKv h m kd sh.enc kvs) (hz:sh.enc z=zero) (h0:kget a kvs=none->K z false)
    (h1:∀v,kget a kvs=some v->K v true):LookW none (.int kd) sh zero (some m) (.int kd a) h K:=by
  obtain ⟨mes,ck,e1,e2⟩:=hm
  have hf:=zko1 (ev:=sh.enc) a mes kvs 0 e2
  have hg:=zkn1 a kvs
  cases hi:kidx a kvs with
  | none=>
    rw [hi] at hf hg
    exact ⟨z,false,⟨mes,.inr ⟨m,ck,rfl,e1⟩,.inl ⟨hf,hz,rfl⟩⟩,h0 hg⟩
  | some p=>
    rw [hi] at hf hg
    exact ⟨p.2,true,⟨mes,.inr ⟨m,ck,rfl,e1⟩,.inr ⟨_,hf,rfl⟩⟩,h1 p.2 hg⟩
theorem zmt1 {a:Int} {v:V}:∀ {l:List (Int×V)},kidx a l=none->kset a v l=l++ [(a,v)]
  | [],_=>rfl
  | (k,u)::r,h=>by
    simp only [kidx] at h
    split at h
    · cases h
    · rename_i e
      simp only [kset]
      rw [if_neg e,zmt1 (by simpa using h)]
      rfl
theorem zsp1 {a:Int} {v u:V} {ev:V->Value}:∀ {mes:List MapEntry} {l:List (Int×V)} {i:Nat},mes.map (fun e=>(e.key,e.val))=l.map (fun p=>(Value.int k p.1,ev p.2))->kidx a l=some (i,u)->
    (mes.modify i fun e=>{e with key:=.int k a,val:=ev v}).map (fun e=>(e.key,e.val))=(kset a v l).map fun p=>(Value.int k p.1,ev p.2)
  | _,[],_,_,h=>by simp [kidx] at h
  | [],_::_,_,h,_=>by simp at h
  | e::mes,(b,w)::r,i,h,hi=>by
    simp only [List.map_cons,List.cons.injEq] at h
    simp only [kidx] at hi
    simp only [kset]
    split at hi
    · rename_i hab
      cases hi
      rw [if_pos hab]
      simp [h.2]
    · rename_i hab
      rw [if_neg hab]
      cases hr:kidx a r with
      | none=>rw [hr] at hi;simp at hi
      | some p=>
        rw [hr] at hi
        simp at hi
        obtain ⟨rfl,rfl⟩:=hi
        simp only [List.modify_succ_cons,List.map_cons,h.1]
        rw [zsp1 h.2 hr]
theorem zid1 {a:Int} {u:V} {ev:V->Value}:∀ {mes:List MapEntry} {l:List (Int×V)} {i:Nat},mes.map (fun e=>(e.key,e.val))=l.map (fun p=>(Value.int k p.1,ev p.2))->kidx a l=some (i,u)->
    (mes.eraseIdx i).map (fun e=>(e.key,e.val))=(kdel a l).map fun p=>(Value.int k p.1,ev p.2)
  | _,[],_,_,h=>by simp [kidx] at h
  | [],_::_,_,h,_=>by simp at h
  | e::mes,(b,w)::r,i,h,hi=>by
    simp only [List.map_cons,List.cons.injEq] at h
    simp only [kidx] at hi
    simp only [kdel]
    split at hi
    · rename_i hab
      cases hi
      rw [if_pos hab]
      simp [h.2]
    · rename_i hab
      rw [if_neg hab]
      cases hr:kidx a r with
      | none=>rw [hr] at hi;simp at hi
      | some p=>
        rw [hr] at hi
        simp at hi
        obtain ⟨rfl,rfl⟩:=hi
        simp only [List.eraseIdx_cons_succ,List.map_cons,h.1]
        rw [zid1 h.2 hr]
theorem zmu1 {a:Int} {v:V} {K:Hp->Prop} (hm:MapKv h m k ev kvs) (hk:∀o,isCells o=false->MapKv (h.set m o) m k ev (kset a v kvs)->K (h.set m o)):zvt (.int k) (some m) (.int k a) (ev v) K h:=by
  obtain ⟨mes,ck,e1,e2⟩:=hm
  have hf:=zko1 (ev:=ev) a mes kvs 0 e2
  refine ⟨m,mes.toArray,ck,rfl,e1,?_⟩
  cases hi:kidx a kvs with
  | none=>
    rw [hi] at hf
    refine .inl ⟨hf,hk _ rfl ⟨mes++ [{key:=.int k a,val:=ev v,born:=ck}],ck+1,?_,?_⟩⟩
    · rw [zbx];simp
    · rw [zmt1 hi];simp [e2]
  | some p=>
    rw [hi] at hf
    refine .inr ⟨p.1,ev p.2,hf,hk _ rfl ⟨mes.modify p.1 fun e=>{e with key:=.int k a,val:=ev v},ck,?_,zsp1 (u:=p.2) e2 hi⟩⟩
    rw [zbx];simp
theorem zyg1 {a:Int} {K:Hp->Prop} (hm:MapKv h m k ev kvs) (hk:∀o,isCells o=false->MapKv (h.set m o) m k ev (kdel a kvs)->K (h.set m o)):zdc1 (.int k) (some m) (.int k a) K h:=by
  obtain ⟨mes,ck,e1,e2⟩:=hm
  have hf:=zko1 (ev:=ev) a mes kvs 0 e2
  refine .inr ⟨m,mes.toArray,ck,rfl,e1,?_⟩
  cases hi:kidx a kvs with
  | none=>
    rw [hi] at hf
    refine .inl ⟨hf,hk _ rfl ⟨mes,ck,zbx,?_⟩⟩
    rw [zms1 (by rw [zkn1,hi];rfl)]
    exact e2
  | some p=>
    rw [hi] at hf
    refine .inr ⟨p.1,ev p.2,hf,hk _ rfl ⟨mes.eraseIdx p.1,ck,?_,zid1 (u:=p.2) e2 hi⟩⟩
    rw [zbx];simp
end
abbrev eNum :Int->List Value:=fun x=> [.int .i64 x]
abbrev eW :zcw->List Value:=fun w=> [.int .i64 w.proc,.int .i64 w.value]
def toW (w:zcw):S_api_Waiter:=⟨w.proc,w.value⟩
section
variable {h0 k:Hp} {A B C:Asn}
theorem Has.f1 (o:Has h0 (A.star (B.star C)) k):∃h1,h0<=h1/\Has h1 A k/\∀A' k',Has h1 A' k'->Has h0 (A'.star (B.star C)) k':=by
 obtain ⟨h1,a,b,_,d⟩:=o.fst
 exact ⟨h1,a,b,d⟩
theorem Has.f2 (o:Has h0 (A.star (B.star C)) k):∃h1,h0<=h1/\Has h1 B k/\∀B' k',Has h1 B' k'->Has h0 (A.star (B'.star C)) k':=by
 obtain ⟨h1,a,b,_,d⟩:=o.snd
 obtain ⟨h2,a2,b2,_,d2⟩:=b.fst
 exact ⟨h2,Hp.le_trans a a2,b2,fun B' k' o'=>d _ _ (d2 _ _ o')⟩
theorem Has.f3 (o:Has h0 (A.star (B.star C)) k):∃h1,h0<=h1/\Has h1 C k/\∀C' k',Has h1 C' k'->Has h0 (A.star (B.star C')) k':=by
 obtain ⟨h1,a,b,_,d⟩:=o.snd
 obtain ⟨h2,a2,b2,_,d2⟩:=b.snd
 exact ⟨h2,Hp.le_trans a a2,b2,fun B' k' o'=>d _ _ (d2 _ _ o')⟩
theorem zdo2 {l:Option Addr} {sz c:Nat}:sbase l sz 0 c=l:=by
 unfold sbase
 split
 ·rfl
 ·cases l with
  | none=>rfl
  | some a=>obtain ⟨b,off,sp⟩:=a;simp [Addr.add]
theorem Has.shift {α:Type} {sz:Nat} {enc:α->List Value} {l:Sl} {a:α} {r:List α} {K:Int->Hp->Prop} (o:Has h0 (SlA sz enc l (a::r)) k) (henc:∀x,(enc x).length=sz) (hok:∀x,zaw (enc x)=true)
  (hk:∀k',Has h0 (SlA sz enc ⟨l.base,r.length,l.cap⟩ r) k'->K (r.length:Nat) k'):CopyW sz l ⟨sbase l.base sz 1 l.cap,l.len-1,l.cap-1⟩ K k:=by
 have hs:=o.slen
 have hc:=o.scap
 have hrt:=(o.cutTail henc (c:=l.cap) hc (Nat.le_refl _)).srw henc
 obtain ⟨hle,F,⟨h1,h2,h3⟩,hf⟩:=o
 have hlen:l.len=r.length+1:=by simpa using hs
 rcases h3 with ⟨e,ec,_⟩ | ⟨b,off,cs,e,hF,hbk,hl,ht⟩
 ·omega
 ·have hn:h0 b=none:=hf b ((hF b).2 rfl)
  have hm:r.length*sz<=l.cap*sz:=Nat.mul_le_mul_right sz (by omega)
  have e0:l=⟨some ⟨b,off,none⟩,l.len,l.cap⟩:=by cases l;simp at e;subst e;rfl
  have hrl:(r.flatMap enc).length=r.length*sz:=zao henc r
  rw [show (CopyW sz l:Sl->_)=CopyW sz ⟨some ⟨b,off,none⟩,l.len,l.cap⟩ by rw [<-e0]]
  refine zmj (n:=r.length) (new:=r.flatMap enc) hbk (by show min (l.len-1) l.len=_;omega) hrt.2 (zwb hok r) (by omega) fun k' m hb'=>hk k' ⟨fun c ob ec=>m.keep c ob (hle c ob ec) (fun hc=>(by rw [List.mem_singleton.1 hc,hn] at ec;cases ec)),F,⟨rfl,by show r.length<=l.cap;omega,.inr ⟨b,off,_,e,hF,hb',?_,?_⟩⟩,hf⟩
  ·simp only [List.length_append,List.length_take,List.length_drop,hrl]
   show off+l.cap*sz<=_
   omega
  ·show List.take (r.length*sz) _=_
   rw [List.append_assoc,List.drop_append_of_le_length (by rw [List.length_take];omega),List.drop_of_length_le (by rw [List.length_take];omega),List.nil_append,<-hrl,List.take_left]
theorem Rw.map {α β:Type} {sz:Nat} {enc:β->List Value} {f:α->β} {l:Sl} {xs:List α} (r:Rw k sz (fun x=>enc (f x)) l xs):Rw k sz enc l (xs.map f):=by
 obtain ⟨h1,h2⟩:=r
 refine ⟨by rw [List.length_map];exact h1,?_⟩
 rw [List.length_map,List.flatMap_map]
 exact h2
theorem zsq1 {n:Int} (h:Cnt n):min2I (IntKind.wrap .i64 (n+(1:Int))) (65535:Int)=more n:=by
 rw [wrap64 (by have:=h.1;omega) (by have:=h.2;omega)]
 unfold min2I more
 by_cases e:n+1<=65535
 ·rw [if_pos e]
  split<;>omega
 ·rw [if_neg e]
  split<;>omega
end
def LaneA (q:Addr) (room:Int) (l:PLane):Asn:=
 .some_ fun x:S_lane_Lane=>((RecA zgg q x).star ((SlA 1 eNum x.values l.values).star (SlA 2 eW x.waiters l.waiters))).star (.fact (x.room=room/\x.taken=l.taken/\x.dropped=l.dropped))
section
variable {h0 k:Hp} {q:Addr} {room:Int} {l:PLane}
theorem Has.laneX (o:Has h0 (LaneA q room l) k):∃x:S_lane_Lane,x.room=room/\x.taken=l.taken/\x.dropped=l.dropped/\Has h0 ((RecA zgg q x).star ((SlA 1 eNum x.values l.values).star (SlA 2 eW x.waiters l.waiters))) k:=by
 obtain ⟨x,o⟩:=Has.ex.1 o
 obtain ⟨o,e1,e2,e3⟩:=o.noFact
 exact ⟨x,e1,e2,e3,o⟩
theorem Has.ofLane {x:S_lane_Lane} (o:Has h0 ((RecA zgg q x).star ((SlA 1 eNum x.values l.values).star (SlA 2 eW x.waiters l.waiters))) k) (e1:x.room=room) (e2:x.taken=l.taken) (e3:x.dropped=l.dropped):Has h0 (LaneA q room l) k:=
 Has.ex.2 ⟨x,o.withFact ⟨e1,e2,e3⟩⟩
theorem zgi2 {Q:Int->Hp->Prop} (o:Has h0 (LaneA q room l) k) (hq:Q (l.values.length:Int) k):zmx prog (some q) Q k:=by
 obtain ⟨x,_,_,_,o⟩:=o.laneX
 unfold zmx
 refine zaa (o.left.ld (shf:=shSl) x.values rfl ?_)
 rw [o.right.left.slen]
 exact hq
theorem zyh1 {Q:Bool->Hp->Prop} (o:Has h0 (LaneA q room l) k) (hq:Q (decide (room<=(l.values.length:Int))) k):zlk prog (some q) Q k:=by
 obtain ⟨x,e1,_,_,o⟩:=o.laneX
 unfold zlk
 refine zaa (o.left.ld (shf:=shSl) x.values rfl ?_)
 refine zaa (o.left.ld (shf:=shInt .i64) x.room rfl ?_)
 rw [o.right.left.slen,e1]
 exact hq
theorem zeg2 {v:Int} {Q:Int->Hp->Prop} (o:Has h0 (LaneA q room l) k) (hr:room<=64) (hf:room<=(l.values.length:Int)->Q 19 k) (hq:∀k',¬room<=(l.values.length:Int)->Has h0 (LaneA q room (inL v l)) k'->Q 0 k'):zmu prog (some q) v Q k:=by
 unfold zmu
 refine zng (zyh1 o ?_)
 by_cases hfull:room<=(l.values.length:Int)
 ·rw [if_pos (decide_eq_true hfull)]
  exact hf hfull
 ·rw [if_neg (fun h=>hfull (of_decide_eq_true h))]
  obtain ⟨x,e1,e2,e3,o⟩:=o.laneX
  refine zaa (o.left.ld (shf:=shSl) x.values rfl ?_)
  obtain ⟨h1,_,o1,put⟩:=o.f2
  refine o1.push rfl (fun _=>rfl) (fun _=>rfl) rfl ⟨by omega,by omega⟩ fun l' k1 o2=> ?_
  have o:=put _ _ o2
  obtain ⟨h2,_,o3,put⟩:=o.f1
  refine zaa (o3.st {x with values:=l'} (show (2:Nat)<=5 by decide) rfl fun k2 o4=> ?_)
  exact hq k2 hfull (Has.ofLane (x:={x with values:=l'}) (put _ _ o4) e1 e2 e3)
theorem zbk2 {Q:Hp->Prop} (o:Has h0 (LaneA q room l) k) (hc:Cnt l.dropped) (hq:∀k',Has h0 (LaneA q room (missL l)) k'->Q k'):zli prog (some q) Q k:=by
 obtain ⟨x,e1,e2,e3,o⟩:=o.laneX
 unfold zli
 refine zaa (o.left.ld (shf:=shInt .i64) x.dropped rfl ?_)
 refine zvp ?_
 unfold zwm
 rw [e3,zsq1 hc]
 obtain ⟨h2,_,o3,put⟩:=o.f1
 refine zaa (o3.st {x with dropped:=more l.dropped} (show (5:Nat)<=5 by decide) rfl fun k2 o4=> ?_)
 exact hq k2 (Has.ofLane (x:={x with dropped:=more l.dropped}) (put _ _ o4) e1 e2 rfl)
theorem zbl2 {Q:Int->S_api_Waiter->Bool->Int->Hp->Prop} (o:Has h0 (LaneA q room l) k) (hc:Cnt l.taken) (hl:l.values.length<=64) (h1:l.values=[]->Q 0 ⟨0,0⟩ false 21 k)
  (h2:∀v vs k',l.values=v::vs->l.waiters=[]->Has h0 (LaneA q room (tookL l)) k'->Q v ⟨0,0⟩ false 0 k')
  (h3:∀v vs w ws k',l.values=v::vs->l.waiters=w::ws->Has h0 (LaneA q room (tookL l)) k'->Q v (toW w) true 0 k'):zlm prog (some q) Q k:=by
 obtain ⟨x,e1,e2,e3,o⟩:=o.laneX
 unfold zlm
 have hvl:=o.right.left.slen
 refine zaa (o.left.ld (shf:=shSl) x.values rfl ?_)
 cases hv:l.values with
 | nil=>
  rw [hv] at hvl
  rw [if_pos (show ((x.values.len:Int)==0)=true by simp at hvl;simp [hvl])]
  exact h1 hv
 | cons v vs=>
  rw [hv] at o hvl hl
  have hvl:x.values.len=vs.length+1:=by simpa using hvl
  rw [if_neg (show ¬((x.values.len:Int)==0)=true by simp;omega)]
  refine zaa (o.left.ld (shf:=shSl) x.values rfl ?_)
  have rv:Rs k (shInt .i64) 1 x.values (v::vs):=o.right.left.srw (fun _=>rfl)
  refine rv.get (fun _=>rfl) (by omega) (by omega) (by simp) fun (y:Int) hy=> ?_
  have hy:y=v:=by simpa using hy.symm
  subst hy
  refine zaa (o.left.ld (shf:=shSl) x.values rfl ?_)
  refine zaa (o.left.ld (shf:=shSl) x.values rfl ?_)
  refine ⟨by omega,letW ?_⟩
  obtain ⟨hh,_,o1,put⟩:=o.f2
  refine o1.shift (fun _=>rfl) (fun _=>rfl) fun k1 o2=> ?_
  have o:=put _ _ o2
  have hcap:=o2.scap
  refine zaa (o.left.ld (shf:=shSl) x.values rfl ?_)
  have hcap:vs.length<=x.values.cap:=hcap
  refine ⟨by omega,letW ?_⟩
  rw [zdo2,Int.toNat_natCast,Nat.sub_zero,Nat.sub_zero]
  obtain ⟨hh,_,o3,put⟩:=o.f1
  refine zaa (o3.st {x with values:=⟨x.values.base,vs.length,x.values.cap⟩} (show (2:Nat)<=5 by decide) rfl fun k2 o4=> ?_)
  have o:=put _ _ o4
  refine zaa (o.left.ld (shf:=shInt .i64) x.taken rfl ?_)
  refine zvp ?_
  unfold zwm
  rw [e2,zsq1 hc]
  obtain ⟨hh,_,o5,put⟩:=o.f1
  refine zaa (o5.st {x with values:=⟨x.values.base,vs.length,x.values.cap⟩,taken:=more l.taken} (show (4:Nat)<=5 by decide) rfl fun k3 o6=> ?_)
  have o:=put _ _ o6
  refine zaa (o.left.ld (shf:=shSl) x.waiters rfl ?_)
  have hwl:=o.right.right.slen
  cases hw:l.waiters with
  | nil=>
   rw [hw] at hwl
   rw [if_neg (show ¬(decide ((x.waiters.len:Int)>0))=true by simp at hwl;simp [hwl])]
   refine h2 y vs k3 hv hw (Has.ofLane (x:={x with values:=⟨x.values.base,vs.length,x.values.cap⟩,taken:=more l.taken}) ?_ e1 (by unfold tookL;rw [hw]) (by unfold tookL;rw [hw];exact e3))
   have:tookL l={l with values:=vs,taken:=more l.taken}:=by unfold tookL;rw [hw,hv];rfl
   rw [this]
   exact o
  | cons w ws=>
   rw [hw] at hwl o
   have hwl:x.waiters.len=ws.length+1:=by simpa using hwl
   rw [if_pos (decide_eq_true (show (x.waiters.len:Int)>0 by omega))]
   refine zaa (o.left.ld (shf:=shSl) x.waiters rfl ?_)
   have rw_:Rs k3 sh_api_Waiter 2 x.waiters ((w::ws).map toW):=(o.right.right.srw (fun _=>rfl)).map (enc:=fun x=>zac (sh_api_Waiter.enc x))
   refine rw_.get (fun _=>rfl) (by omega) (by omega) (by simp) fun (y2:S_api_Waiter) hy2=> ?_
   have hy2:y2=toW w:=by simpa using hy2.symm
   subst hy2
   refine zaa (o.left.ld (shf:=shSl) x.waiters rfl ?_)
   refine zaa (o.left.ld (shf:=shSl) x.waiters rfl ?_)
   refine zaa (o.left.ld (shf:=shSl) x.waiters rfl ?_)
   have hwc:=o.right.right.scap
   refine ⟨by omega,letW ?_⟩
   rw [Int.toNat_natCast]
   obtain ⟨hh,_,o7,put⟩:=o.f3
   have o8:=o7.cutTail (fun _=>rfl) (c:=x.waiters.len) (Nat.le_refl _) hwc
   have o:=put _ _ o8
   obtain ⟨hh,_,o9,put⟩:=o.f1
   refine zaa (o9.st {x with values:=⟨x.values.base,vs.length,x.values.cap⟩,taken:=more l.taken,waiters:=⟨sbase x.waiters.base 2 1 x.waiters.len,x.waiters.len-1,x.waiters.len-1⟩} (show (3:Nat)<=5 by decide) rfl fun k4 o10=> ?_)
   have o:=put _ _ o10
   refine zaa (o.left.ld (shf:=shSl) ⟨x.values.base,vs.length,x.values.cap⟩ rfl ?_)
   refine newSl (xs:=[w.value]) (sz:=1) (enc:=eNum) rfl (fun _=>rfl) fun a k5 hl5 n5=> ?_
   have o:=o.grow hl5
   refine ⟨⟨?_,trivial⟩,?_⟩
   ·exact (Has.left o).ldis (n:=1) rfl
   obtain ⟨hh,_,o11,put⟩:=o.f2
   refine o11.app (n5.srw (fun _=>rfl)) (fun _=>rfl) (fun _=>rfl) rfl ⟨by simp at hl ⊢;omega,by simp at hl ⊢;omega⟩ fun l' k6 o12=> ?_
   have o:=put _ _ o12
   obtain ⟨hh,_,o13,put⟩:=o.f1
   refine zaa (o13.st {x with values:=l',taken:=more l.taken,waiters:=⟨sbase x.waiters.base 2 1 x.waiters.len,x.waiters.len-1,x.waiters.len-1⟩} (show (2:Nat)<=5 by decide) rfl fun k7 o14=> ?_)
   refine h3 y vs w ws k7 hv hw (Has.ofLane (x:={x with values:=l',taken:=more l.taken,waiters:=⟨sbase x.waiters.base 2 1 x.waiters.len,x.waiters.len-1,x.waiters.len-1⟩}) ?_ e1 (by unfold tookL;rw [hw]) (by unfold tookL;rw [hw];exact e3))
   have:tookL l={values:=vs++ [w.value],waiters:=ws,taken:=more l.taken,dropped:=l.dropped}:=by unfold tookL;rw [hw,hv];rfl
   rw [this]
   exact put _ _ o14
end
theorem cV {P:Program} {g:FuncId} {first captured:Array Value} {args:List Value} {sh:Shape} {K:sh.T->Hp->Prop} {h:Hp} (hg:tb.call g=true) (hc:CallT P g (first.toList++args++captured.toList) sh K h):CallV P tb (.func (.func g) first captured) args sh K h:=
 ⟨g,first,captured,rfl,hg,hc⟩
def posW (p:Int) (ws:List zcw):Int:=posF (fun w=>decide (w.proc=p)) ws
def posI (v:Int) (xs:List Int):Int:=posF (fun z=>decide (z=v)) xs
theorem zyi1 {k:Hp} {s:Sl} {ws:List zcw} {a:Addr} {p:Int} {Q:Int->Hp->Prop} (r:Rw k 2 eW s ws) (hl:ws.length<=1000000) (ha:LdIs k a [.int .i64 p]) (hq:Q (posW p ws) k):
  zbb prog s ⟨zeq, #[], #[.pointer (some a)]⟩ Q k:=by
 unfold zbb
 have hlen:=r.1
 have r:Rs k sh_api_Waiter 2 s (ws.map toW):=r.map (enc:=fun x=>zac (sh_api_Waiter.enc x))
 refine LoopW1.intro (fun i k'=>k'=k/\0<=i/\i<=(ws.length:Int)/\∀(j:Nat) y,j<i.toNat->ws[j]?=some y->decide (y.proc=p)=false) (fun i _=>(ws.length-i).toNat) ⟨rfl,by omega,by omega,fun j y hj=>by simp at hj⟩ ?_
 rintro i _ ⟨rfl,i0,i1,hall⟩
 by_cases h3:i<(ws.length:Int)
 ·rw [if_pos (decide_eq_true (by omega))]
  refine r.get (fun _=>rfl) (by omega) i0 (by rw [List.length_map];exact h3) fun (x:S_api_Waiter) hx=> ?_
  rw [List.getElem?_map] at hx
  cases hw:ws[i.toNat]? with
  | none=>rw [hw] at hx;cases hx
  | some w=>
   rw [hw] at hx
   have hx:x=toW w:=by simpa using hx.symm
   subst hx
   refine cV (g:=zeq) rfl (zsu ?_)
   unfold zna
   refine ld_at (sh:=shInt .i64) p ha ?_
   dsimp only
   by_cases e:w.proc=p
   ·rw [if_pos (show ((toW w).Proc==p)=true by unfold toW;simp [e])]
    have:posW p ws=i:=by
     have:=zyd1 (f:=fun w=>decide (w.proc=p)) hw (by simp [e]) hall
     unfold posW
     rw [this]
     omega
    rw [this] at hq
    exact hq
   ·rw [if_neg (show ¬((toW w).Proc==p)=true by unfold toW;simp [e]),wrap64 (by omega) (by omega)]
    refine ⟨⟨rfl,by omega,by omega,fun j y hj hy=> ?_⟩,by omega⟩
    by_cases e2:j=i.toNat
    ·subst e2;rw [hw] at hy;cases hy;simp [e]
    ·exact hall j y (by omega) hy
 ·rw [if_neg (fun e=>h3 (by have:=of_decide_eq_true e;omega))]
  have:posW p ws= -1:=zyb fun w hw=>by
   obtain ⟨j,hj⟩:=List.getElem?_of_mem hw
   have:=(List.getElem?_eq_some_iff.1 hj).1
   exact hall j w (by omega) hj
  rw [this] at hq
  exact hq
theorem zmv1 {k:Hp} {s:Sl} {xs:List Int} {v:Int} {Q:Int->Hp->Prop} (r:Rw k 1 eNum s xs) (hl:xs.length<=1000000) (hq:Q (posI v xs) k):zfs prog s v Q k:=by
 unfold zfs
 have hlen:=r.1
 have r:Rs k (shInt .i64) 1 s xs:=r
 refine LoopW1.intro (fun i k'=>k'=k/\0<=i/\i<=(xs.length:Int)/\∀(j:Nat) y,j<i.toNat->xs[j]?=some y->decide (y=v)=false) (fun i _=>(xs.length-i).toNat) ⟨rfl,by omega,by omega,fun j y hj=>by simp at hj⟩ ?_
 rintro i _ ⟨rfl,i0,i1,hall⟩
 by_cases h3:i<(xs.length:Int)
 ·rw [if_pos (decide_eq_true (by omega))]
  refine r.get (fun _=>rfl) (by omega) i0 h3 fun (x:Int) hx=> ?_
  by_cases e:x=v
  ·rw [if_pos (show (v==x)=true by simp [e])]
   have:posI v xs=i:=by
    have:=zyd1 (f:=fun z=>decide (z=v)) hx (by simp [e]) hall
    unfold posI
    rw [this]
    omega
   rw [this] at hq
   exact hq
  ·rw [if_neg (show ¬(v==x)=true by simp;exact fun h=>e h.symm),wrap64 (by omega) (by omega)]
   refine ⟨⟨rfl,by omega,by omega,fun j y hj hy=> ?_⟩,by omega⟩
   by_cases e2:j=i.toNat
   ·subst e2;rw [hx] at hy;cases hy;simp [e]
   ·exact hall j y (by omega) hy
 ·rw [if_neg (fun e=>h3 (by have:=of_decide_eq_true e;omega))]
  have:posI v xs= -1:=zyb fun w hw=>by
   obtain ⟨j,hj⟩:=List.getElem?_of_mem hw
   have:=(List.getElem?_eq_some_iff.1 hj).1
   exact hall j w (by omega) hj
  rw [this] at hq
  exact hq
theorem zbm2 {α:Type} {f:α->Bool} {xs:List α}:0<=posF f xs↔∃x∈xs,f x=true:=by
 constructor
 ·intro h
  refine Classical.byContradiction fun hn=> ?_
  rw [zyb fun x hx=>by
   cases e:f x with
   | false=>rfl
   | true=>exact absurd ⟨x,hx,e⟩ hn] at h
  omega
 ·rintro ⟨x,hx,hf⟩
  unfold posF
  cases e:xs.findIdx? f with
  | none=>rw [List.findIdx?_eq_none_iff] at e;rw [e x hx] at hf;cases hf
  | some i=>show (0:Int)<=(i:Int);omega
theorem zbk1 {k:Hp} {s:Sl} {xs:List Int} {v:Int} {Q:Bool->Hp->Prop} (r:Rw k 1 eNum s xs) (hl:xs.length<=1000000) (hq:Q (decide (v∈xs)) k):zds prog s v Q k:=by
 unfold zds
 refine zhk (zmv1 r hl ?_)
 have:decide (posI v xs>=0)=decide (v∈xs):=by
  have:(posI v xs>=0)↔v∈xs:=(zbm2 (f:=fun z=>decide (z=v))).trans ⟨fun ⟨x,hx,e⟩=>(of_decide_eq_true e)▸hx,fun h=>⟨v,h,(by simp)⟩⟩
  simp only [this]
 rw [this]
 exact hq
section
variable {h0 k:Hp} {q:Addr} {room:Int} {l:PLane}
theorem zsr1 {p:Int} {Q:Int->Hp->Prop} (o:Has h0 (LaneA q room l) k) (hl:l.waiters.length<=1000000) (hq:∀k',Has h0 (LaneA q room l) k'->Q (posW p l.waiters) k'):zkl prog (some q) p Q k:=by
 unfold zkl
 refine newSl (xs:=[p]) (sz:=1) (enc:=eNum) rfl (fun _=>rfl) fun a k1 hl1 n=> ?_
 have o:=o.grow hl1
 obtain ⟨x,_,_,_,o2⟩:=o.laneX
 refine zaa (o2.left.ld (shf:=shSl) x.waiters rfl ?_)
 refine zez (f:=⟨zeq, #[], #[.pointer (some a)]⟩) (zyi1 (p:=p) (o2.right.right.srw (fun _=>rfl)) hl ?_ (hq k1 o))
 obtain ⟨_,h⟩:=n.srw (fun _=>rfl)
 rcases h.2 with e | ⟨a',ha,hld⟩
 ·simp at e
 ·cases ha;exact hld
theorem zbn2 {p v:Int} {Q:Int->Hp->Prop} (o:Has h0 (LaneA q room l) k) (hl:l.waiters.length<=100) (hf:room<=(l.values.length:Int)) (hn:∀w∈l.waiters,w.proc≠p) (hq:∀k',Has h0 (LaneA q room (waitL p v l)) k'->Q 0 k'):zln prog (some q) p v Q k:=by
 unfold zln
 refine zng (zyh1 o ?_)
 rw [if_neg (by simp;exact hf)]
 refine zlv (zsr1 o (by omega) fun k1 o=> ?_)
 have:posW p l.waiters= -1:=zyb fun w hw=>by simp [hn w hw]
 rw [this,if_neg (by decide)]
 obtain ⟨x,e1,e2,e3,o⟩:=o.laneX
 refine zaa (o.left.ld (shf:=shSl) x.waiters rfl ?_)
 obtain ⟨h1,_,o1,put⟩:=o.f3
 refine o1.push (e:=⟨p,v⟩) rfl (fun _=>rfl) (fun _=>rfl) rfl ⟨by omega,by omega⟩ fun l' k2 o2=> ?_
 have o:=put _ _ o2
 obtain ⟨h2,_,o3,put⟩:=o.f1
 refine zaa (o3.st {x with waiters:=l'} (show (3:Nat)<=5 by decide) rfl fun k3 o4=> ?_)
 exact hq k3 (Has.ofLane (x:={x with waiters:=l'}) (put _ _ o4) e1 e2 e3)
def zbl1 (p:Int) (l:PLane):PLane:={l with waiters:=zag (fun w=>decide (w.proc=p)) l.waiters}
theorem zyj1 {p:Int} {Q:Bool->Hp->Prop} (o:Has h0 (LaneA q room l) k) (hl:l.waiters.length<=100) (hq:∀b k',Has h0 (LaneA q room (zbl1 p l)) k'->Q b k'):zki prog (some q) p Q k:=by
 unfold zki
 refine zlv (zsr1 o (by omega) fun k1 o=> ?_)
 have hd:=zta (fun w:zcw=>decide (w.proc=p)) l.waiters
 by_cases hp:posW p l.waiters<0
 ·rw [if_pos (decide_eq_true hp)]
  refine hq false k1 ?_
  have:zbl1 p l=l:=by
   unfold zbl1
   rw [hd,if_neg (show ¬0<=posF (fun w:zcw=>decide (w.proc=p)) l.waiters by unfold posW at hp;omega)]
  rw [this];exact o
 ·rw [if_neg (fun h=>hp (of_decide_eq_true h))]
  have h0p:0<=posW p l.waiters:=by omega
  have hlt:posW p l.waiters<l.waiters.length:=zyc1 h0p
  obtain ⟨x,e1,e2,e3,o⟩:=o.laneX
  refine zaa (o.left.ld (shf:=shSl) x.waiters rfl ?_)
  obtain ⟨h1,_,o1,put⟩:=o.f3
  have hz:prog.underlying 142=some (.slice 149):=tb_ok.und 142 ty142 rfl
  obtain ⟨n,hn⟩:∃n:Nat,posW p l.waiters=n:=⟨(posW p l.waiters).toNat,by omega⟩
  have hdel:∀(Q':Sl->Hp->Prop),(∀l' k',Has h1 (SlA 2 eW l' (l.waiters.take n++l.waiters.drop (n+1))) k'->Q' l' k')->zbd prog x.waiters (n:Int) ((n+1:Nat):Int) Q' k1:=fun Q' hQ'=>by
   unfold zbd
   exact Has.sdel (bytes:=16) (z:=.agg #[.int .i64 0,.int .i64 0]) hz (fun hK=>zdx1 tb_ok (e:=ty149) rfl hK) (fun _=>rfl) (fun _=>rfl) rfl (fun m=>by induction m with
    | zero=>rfl
    | succ m ih=>exact ih) o1 (by omega) (by omega) ⟨by omega,by omega⟩ hQ'
  rw [hn,wrap64 (by omega) (by omega)]
  refine zfz (hdel _ fun l' k2 o2=> ?_)
  have o:=put _ _ o2
  obtain ⟨h2,_,o3,put⟩:=o.f1
  refine zaa (o3.st {x with waiters:=l'} (show (3:Nat)<=5 by decide) rfl fun k3 o4=> ?_)
  refine hq true k3 (Has.ofLane (x:={x with waiters:=l'}) ?_ e1 e2 e3)
  have:(zbl1 p l).waiters=l.waiters.take n++l.waiters.drop (n+1):=by
   show zag (fun w=>decide (w.proc=p)) l.waiters=_
   have hn':posF (fun w:zcw=>decide (w.proc=p)) l.waiters=n:=hn
   rw [hd,hn',if_pos (by omega),Int.toNat_natCast]
  rw [this]
  exact put _ _ o4
def endL (l:PLane):PLane:={l with waiters:=[]}
theorem zeh2 {Q:Sl->Hp->Prop} (o:Has h0 (LaneA q room l) k) (hq:∀s k',Has h0 ((LaneA q room (endL l)).star (SlA 2 eW s l.waiters)) k'->Q s k'):zmw prog (some q) Q k:=by
 unfold zmw
 obtain ⟨x,e1,e2,e3,o⟩:=o.laneX
 refine zaa (o.left.ld (shf:=shSl) x.waiters rfl ?_)
 refine zaa (o.left.ld (shf:=shSl) x.waiters rfl ?_)
 refine zaa (o.left.ld (shf:=shSl) x.waiters rfl ?_)
 have hs:=o.right.right.slen
 have hc:=o.right.right.scap
 refine ⟨by omega,letW ?_⟩
 rw [Int.toNat_natCast]
 obtain ⟨h1,_,o1,put⟩:=o.f3
 have o2:=o1.cutHead (fun _=>rfl) (n:=x.waiters.len) (c:=x.waiters.len) (by omega) (Nat.le_refl _) hc
 rw [List.take_of_length_le (by omega)] at o2
 have o:=put _ _ o2
 obtain ⟨h2,_,o3,put⟩:=o.f1
 refine zaa (o3.st {x with waiters:=⟨none,0,0⟩} (show (3:Nat)<=5 by decide) rfl fun k3 o4=> ?_)
 have o:=put _ _ o4
 refine hq _ k3 ?_
 have oo:=o.assoc'
 obtain ⟨h3,_,o5,_,put⟩:=oo.fst
 have nil:Has k3 (SlA 2 eW (⟨none,0,0⟩:Sl) ([]:List zcw)) k3:=Has.nilSl (Hp.le_refl _)
 have o6:=(o5.beside nil).assoc
 exact put _ _ (Has.ofLane (l:=endL l) (x:={x with waiters:=⟨none,0,0⟩}) o6 e1 e2 e3)
end
end Lf
namespace Go.Proofs
open Go.Shelf
def Tryz.lays144_ren :Go.Shelf.Ren:=⟨fun | 144=>223 | 143=>237 | 219=>248 | 217=>253 | 225=>254 | 224=>255 | 267=>256 | 266=>257 | 314=>258 | n=>n,fun | 9=>9 | 4=>4 | 3=>3 | 5=>5 | 46=>217 | 146=>257 | 51=>256 | n=>n,fun | 1=>1 | n=>n⟩
theorem Tryz.lays144 :Go.Proofs.Lays.n144 Tryz.prog Tryz.lays144_ren:={
 mixed:=by kernel_rfl
 f143:=Tryz.func237.trans (congrArg some (by kernel_rfl))
 f144:=Tryz.func223.trans (congrArg some (by kernel_rfl))
 f217:=Tryz.func253.trans (congrArg some (by kernel_rfl))
 f219:=Tryz.func248.trans (congrArg some (by kernel_rfl))
 f224:=Tryz.func255.trans (congrArg some (by kernel_rfl))
 f225:=Tryz.func254.trans (congrArg some (by kernel_rfl))
 f266:=Tryz.func257.trans (congrArg some (by kernel_rfl))
 f267:=Tryz.func256.trans (congrArg some (by kernel_rfl))
 f314:=Tryz.func258.trans (congrArg some (by kernel_rfl))
 t3:=Tryz.underlying3
 a3:=Tryz.isAgg3
 z3:=Tryz.sizeOf3
 v3:=Tryz.zeroValue3
 t4:=Tryz.underlying4
 a4:=Tryz.isAgg4
 z4:=Tryz.sizeOf4
 v4:=Tryz.zeroValue4
 t5:=Tryz.underlying5
 a5:=Tryz.isAgg5
 z5:=Tryz.sizeOf5
 v5:=Tryz.zeroValue5
 t9:=Tryz.underlying9
 a9:=Tryz.isAgg9
 z9:=Tryz.sizeOf9
 v9:=Tryz.zeroValue9
 t46:=Tryz.underlying217
 a46:=Tryz.isAgg217
 z46:=Tryz.sizeOf217
 v46:=Tryz.zeroValue217
 t51:=Tryz.underlying256
 a51:=Tryz.isAgg256
 z51:=Tryz.sizeOf256
 v51:=Tryz.zeroValue256
 t146:=Tryz.underlying257
 a146:=Tryz.isAgg257
 z146:=Tryz.sizeOf257
 v146:=Tryz.zeroValue257
 g1:=by kernel_rfl}
open Go.RowKit Go.Lib in
theorem Tryz.strings_Contains_one (s:ByteArray) (c:UInt8) (w:World):
  Calls Tryz.prog 223 #[.string s,.string ⟨#[c]⟩] w fun e w'=>e=.returned (.bool (decide (0<=Lib.indexByte s.data.toList c)))/\w'=w:=Any.strings_Contains_one Tryz.lays144 s c w
end Go.Proofs
namespace Lf
open Go
def cutH (k:Hp) (R:List Nat):Hp:=fun b=>if b∈R then none else k b
theorem zgj2 {k:Hp} {R:List Nat} {b:Nat} (h:b∉R):cutH k R b=k b:=by
  unfold cutH
  rw [if_neg h]
theorem zvf1 {h h':Hp} {a:Addr} (e:h' a.block=h a.block):hcell h' a=hcell h a:=by
  unfold hcell
  rw [e]
theorem zie1 (a:Addr) (n:Nat):(a.add n).block=a.block:=by
  unfold Addr.add
  split<;>rfl
theorem zyk1 {h h':Hp} {a:Addr} {cs:List Value} (l:LdIs h a cs) (e:h' a.block=h a.block):LdIs h' a cs:=fun i v hv=>by
  have:hcell h' (a.add i)=hcell h (a.add i):=zvf1 (a:=a.add i) (by rw [zie1];exact e)
  rw [this]
  exact l i v hv
section
variable {α:Type} {h h':Hp} {sz:Nat} {enc:α->List Value} {l:Sl} {xs:List α} {F:List Nat}
theorem Rw.same (r:Rw h sz enc l xs) (e:∀a,l.base=some a->h' a.block=h a.block):Rw h' sz enc l xs:=by
  obtain ⟨h1,h2,h3⟩:=r
  refine ⟨h1,h2,h3.imp id ?_⟩
  rintro ⟨a,ha,hl⟩
  exact ⟨a,ha,zyk1 hl (e a ha)⟩
theorem Rw.nil {l:Sl} (hl:l.len=0):Rw h sz enc l ([]:List α):=⟨hl,(by simp),.inl (by simp)⟩
theorem OwnF.grow (o:OwnF h sz enc l xs F) (hl:h<=h'):OwnF h' sz enc l xs F:=by
  obtain ⟨h1,h2,h3⟩:=o
  refine ⟨h1,h2,h3.imp id ?_⟩
  rintro ⟨b,cs,e1,rfl,e3,e4⟩
  exact ⟨b,cs,e1,rfl,e3.le hl,e4⟩
theorem OwnF.cut {R:List Nat} (o:OwnF h sz enc l xs F) (hd:∀b∈F,b∉R):OwnF (cutH h R) sz enc l xs F:=o.same fun b hb=>zgj2 (hd b hb)
theorem OwnF.base (o:OwnF h sz enc l xs F) {a:Addr} (ha:l.base=some a):F=[a.block]:=by
  obtain ⟨_,_,h3⟩:=o
  rcases h3 with ⟨e,_⟩ | ⟨b,cs,e1,rfl,_⟩
  · rw [e] at ha;cases ha
  · rw [e1] at ha;cases ha;rfl
end
theorem zqe1 {h:Hp} {a:Addr} {v:Value} (e:hcell h a=some v):∃o,h a.block=some o:=by
  unfold hcell at e
  split at e
  · rename_i c t f hb
    exact ⟨_,hb⟩
  · cases e
section
variable {α:Type} {h h':Hp} {sz:Nat} {enc:α->List Value} {l:Sl} {xs:List α} {F F':List Nat}
theorem Rw.known (r:Rw h sz enc l xs) {a:Addr} (ha:l.base=some a) (h0:xs.length*sz≠0):h a.block≠none:=by
  obtain ⟨h1,h2,h3⟩:=r
  obtain ⟨a',ha',hl⟩:=h3.resolve_left h0
  rw [ha] at ha'
  cases ha'
  have hne:(xs.flatMap enc).length≠0:=by rw [h2];exact h0
  obtain ⟨v,hv⟩:∃v,(xs.flatMap enc)[0]?=some v:=⟨(xs.flatMap enc)[0]'(by omega),List.getElem?_eq_getElem (by omega)⟩
  obtain ⟨o,ho⟩:=zqe1 (hl 0 v hv)
  rw [zie1] at ho
  rw [ho]
  simp
end
end Lf
namespace Lf
abbrev D (α:Type):Type:=List UInt8->Nat->Except (Int×Nat) (α×Nat)
namespace D
variable {α β:Type}
def ret (x:α):D α:=fun _ at_=>.ok (x,at_)
def bind (d:D α) (f:α->D β):D β:=fun b at_=>match d b at_ with
 | .ok (x,at2)=>f x b at2
 | .error e=>.error e
def num (k:Nat):D Nat:=fun b at_=>if b.length<at_+k then .error (5,b.length) else .ok (valB ((b.drop at_).take k),at_+k)
def must (d:D α) (wrong:α->Int):D α:=fun b at_=>match d b at_ with
 | .ok (x,at2)=>if wrong x=0 then .ok (x,at2) else .error (wrong x,at_)
 | .error e=>.error e
def many (d:List α->D α):Nat->List α->D (List α)
 | 0,acc=>ret acc
 | n+1,acc=>bind (d acc) fun x=>many d n (acc++ [x])
def map (f:α->β) (d:D α):D β:=bind d fun x=>ret (f x)
end D
end Lf
namespace Lf
namespace D
variable {α γ:Type}
end D
open D
def i64 (n:Nat):Int:=if n<9223372036854775808 then n else (n:Int)-18446744073709551616
def rngE (a b:Int) (n:Int):Int:=if zce n a b then 0 else 2
def cntE (most:Int) (n:Int):Int:=if n=0 then 1 else if most<n then 3 else 0
end Lf
namespace Lf
def less (n:Int):Int:=n-1
theorem within_true {a b n:Int}:zce n a b=true↔a<=n/\n<=b:=by
 unfold zce
 simp
theorem within_false {a b n:Int}:zce n a b=false↔¬(a<=n/\n<=b):=by
 rw [<-Bool.not_eq_true,within_true]
theorem zif1 {n locks:Int}:∀ {l:List PIns} {i:Int},(codeR n locks l i).1=0↔∀x∈l,(zft x n locks).1=0
 | [],i=>by simp [codeR]
 | x::r,i=>by
  simp only [codeR]
  by_cases h:(zft x n locks).1=0
  ·rw [if_neg (fun hh=>hh h),zif1]
   simp [h]
  ·rw [if_pos h]
   simp [h]
theorem zvg1 {l:List PIns} {locks:Int} (hl:0<=locks/\locks<=8):(codeP l locks).1=0↔l.length<=256/\∀x∈l,(zft x l.length locks).1=0:=by
 unfold codeP
 rw [if_neg (by omega)]
 by_cases h:256<l.length
 ·rw [if_pos h]
  exact ⟨fun e=>(by cases e),fun e=>by omega⟩
 ·rw [if_neg h,zif1]
  exact ⟨fun e=>⟨by omega,e⟩,fun e=>e.2⟩
theorem zfk1 {parts locks:Int}:∀ {l:List PProc} {i:Int},(zvj parts locks l i).1=0↔∀p∈l,(0<=p.part/\p.part<=parts-1)/\(codeP p.code locks).1=0
 | [],i=>by simp [zvj]
 | p::r,i=>by
  simp only [zvj]
  by_cases h1:zce p.part 0 (parts-1)=false
  ·rw [if_pos h1]
   have:=within_false.1 h1
   exact ⟨fun e=>(by cases e),fun e=>absurd (e p (List.mem_cons_self ..)).1 this⟩
  ·rw [if_neg h1]
   have g1:=within_true.1 (Bool.not_eq_false _▸h1:zce p.part 0 (parts-1)=true)
   by_cases h2:(codeP p.code locks).1=0
   ·rw [if_neg (fun hh=>hh h2),zfk1]
    simp [h2,g1]
   ·rw [if_pos h2]
    exact ⟨fun e=>absurd e h2,fun e=>absurd (e p (List.mem_cons_self ..)).2 h2⟩
theorem cfgP_zero {m:Int} {c:PCfg}:(cfgP m c).1=0↔m=0/\c.table≠ []/\c.table.length<=64/\(∀x∈c.table,0<=x/\x<=c.labels.length-1)/\(1<=c.fuel/\c.fuel<=256)/\(1<=c.lane/\c.lane<=64)/\(0<=c.locks/\c.locks<=8)/\
  (0<=c.log/\c.log<=4096)/\c.procs≠ []/\c.procs.length<=32/\∀p∈c.procs,(0<=p.part/\p.part<=c.labels.length-1)/\(codeP p.code c.locks).1=0:=by
 unfold cfgP
 by_cases h0:m=0
 case neg=>rw [if_pos h0];exact ⟨fun e=>absurd e h0,fun e=>absurd e.1 h0⟩
 rw [if_neg (fun hh=>hh h0)]
 by_cases h1:c.table=[]
 ·rw [if_pos h1];exact ⟨fun e=>(by cases e),fun e=>absurd h1 e.2.1⟩
 rw [if_neg h1]
 by_cases h2:64<c.table.length
 ·rw [if_pos h2];exact ⟨fun e=>(by cases e),fun e=>(by have:=e.2.2.1;omega)⟩
 rw [if_neg h2]
 by_cases h3:c.table.all (fun p=>zce p 0 (c.labels.length-1))=false
 ·rw [if_pos h3]
  refine ⟨fun e=>(by cases e),fun e=> ?_⟩
  have:c.table.all (fun p=>zce p 0 (c.labels.length-1))=true:=List.all_eq_true.2 fun x hx=>within_true.2 (e.2.2.2.1 x hx)
  rw [this] at h3;cases h3
 rw [if_neg h3]
 have g3:∀x∈c.table,0<=x/\x<=c.labels.length-1:=fun x hx=>within_true.1 (List.all_eq_true.1 (Bool.not_eq_false _▸h3:c.table.all (fun p=>zce p 0 (c.labels.length-1))=true) x hx)
 by_cases h4:zce c.fuel 1 256=false
 ·rw [if_pos h4];exact ⟨fun e=>(by cases e),fun e=>absurd e.2.2.2.2.1 (within_false.1 h4)⟩
 rw [if_neg h4]
 have g4:=within_true.1 (Bool.not_eq_false _▸h4:zce c.fuel 1 256=true)
 by_cases h5:zce c.lane 1 64=false
 ·rw [if_pos h5];exact ⟨fun e=>(by cases e),fun e=>absurd e.2.2.2.2.2.1 (within_false.1 h5)⟩
 rw [if_neg h5]
 have g5:=within_true.1 (Bool.not_eq_false _▸h5:zce c.lane 1 64=true)
 by_cases h6:zce c.locks 0 8=false
 ·rw [if_pos h6];exact ⟨fun e=>(by cases e),fun e=>absurd e.2.2.2.2.2.2.1 (within_false.1 h6)⟩
 rw [if_neg h6]
 have g6:=within_true.1 (Bool.not_eq_false _▸h6:zce c.locks 0 8=true)
 by_cases h7:zce c.log 0 4096=false
 ·rw [if_pos h7];exact ⟨fun e=>(by cases e),fun e=>absurd e.2.2.2.2.2.2.2.1 (within_false.1 h7)⟩
 rw [if_neg h7]
 have g7:=within_true.1 (Bool.not_eq_false _▸h7:zce c.log 0 4096=true)
 by_cases h8:c.procs=[]
 ·rw [if_pos h8];exact ⟨fun e=>(by cases e),fun e=>absurd h8 e.2.2.2.2.2.2.2.2.1⟩
 rw [if_neg h8]
 by_cases h9:32<c.procs.length
 ·rw [if_pos h9];exact ⟨fun e=>(by cases e),fun e=>(by have:=e.2.2.2.2.2.2.2.2.2.1;omega)⟩
 rw [if_neg h9,zfk1]
 exact ⟨fun e=>⟨h0,h1,by omega,g3,g4,g5,g6,g7,h8,by omega,e⟩,fun e=>e.2.2.2.2.2.2.2.2.2.2⟩
theorem zys :∀(n:Nat) (l:List Int),l.Nodup->(∀x∈l,0<=x/\x<n)->l.length<=n
 | 0,l,_,h=>by
  cases l with
  | nil=>simp
  | cons x r=>have:=h x (List.mem_cons_self ..);omega
 | n+1,l,hn,h=>by
  by_cases hm:(n:Int)∈l
  ·have:=zys n (l.erase (n:Int)) (hn.erase _) fun x hx=>by
    have h1:=h x (List.mem_of_mem_erase hx)
    have h2:x≠(n:Int):=fun e=>by
     rw [e] at hx
     exact (hn.not_mem_erase) hx
    omega
   rw [List.length_erase_of_mem hm] at this
   omega
  ·have:=zys n l hn fun x hx=>by
    have h1:=h x hx
    have h2:x≠(n:Int):=fun e=>hm (e▸hx)
    omega
   omega
section
variable {c:PCfg} {s:zcf} {fl:Nat->Int->Prop}
end
end Lf
namespace Lf
open Go Go.Proofs Go.RowKit
theorem zvh1 {P:Program} {g:FuncId} {args:List Value} {sh:Shape} {K:sh.T->Hp->Prop} {h:Hp} {x:sh.T} (hc:∀w,Sub h w->Calls P g args.toArray w fun e w'=>e=.returned (sh.enc x)/\w'=w) (hk:K x h):CallT P g args sh K h:=by
 intro w hs
 refine (hc w hs).mono ?_
 rintro e w' ⟨rfl,rfl⟩
 exact ⟨_,h,rfl,⟨x,rfl,hk⟩,⟨hs,Nat.le_refl _,fun i hi hn=>⟨rfl,hn⟩,rfl,rfl,rfl⟩⟩
def hasC (s:ByteArray) (c:UInt8):Bool:=decide (0<=Lib.indexByte s.data.toList c)
theorem zqf1 {s:ByteArray} {c:UInt8} {K:Bool->Hp->Prop} {h:Hp} (hk:K (hasC s c) h):CallT Tryz.prog znz [.string s,.string ⟨#[c]⟩] zae K h:=by
 refine zvh1 (x:=hasC s c) (fun w _=> ?_) hk
 exact Tryz.strings_Contains_one s c w
def insOf (x:S_api_Ins):PIns:=⟨x.Op,x.A,x.B,x.C,x.Imm⟩
def fieldTab :List (List UInt8):=[[],[97,105],[97,98],[97,98,99],[97,98,99],[97,98,99],[97,98,99],[97,98,99],[97,98,99],[97,98,99],[97,98,99],[97,98,99],[97,98,99],[97,98,99],[97,98,99],[97,98,99],[97,98,99],[97,98,99],[97,98,99],[97,98,99],[97,98],[97,98],[105],[97,105],[97,98,99],[97,98],[97,98],[97],[97],[105],[105],[97],[97],[97]]
def zgy (op:Int):ByteArray:=if 0<=op/\op<34 then ⟨(fieldTab.getD op.toNat []).toArray⟩ else ⟨#[]⟩
theorem zqg1 :∀n,n<34->(decide (0<=Lib.indexByte (fieldTab.getD n []) 97),decide (0<=Lib.indexByte (fieldTab.getD n []) 98),decide (0<=Lib.indexByte (fieldTab.getD n []) 99),decide (0<=Lib.indexByte (fieldTab.getD n []) 105))=zby (n:Int):=by decide
theorem zvi1 (op:Int):(hasC (zgy op) 97,hasC (zgy op) 98,hasC (zgy op) 99,hasC (zgy op) 105)=zby op:=by
 by_cases h:0<=op/\op<34
 ·have e:=zqg1 op.toNat (by omega)
  rw [Int.toNat_of_nonneg h.1] at e
  rw [<-e]
  simp [hasC,zgy,h]
 ·have e1:zgy op=⟨#[]⟩:=if_neg h
  rw [e1]
  have e2:zby op=(false,false,false,false):=by
   unfold zby
   rw [if_neg (by omega),if_neg (by omega),if_neg (by omega),if_neg (by omega),if_neg (by omega),if_neg (by omega)]
  rw [e2]
  decide
theorem zei2 :∀n,n<34->fieldTab[n]?=some (fieldTab.getD n []):=by decide
theorem zmw1 {α:Type} (l:List α) (i:Nat):List.get?Internal l i=l[i]?:=by
 rw [<-List.get?Internal_eq_getElem?]
theorem zkp1 {op:Int} {Q:ByteArray->Hp->Prop} {h:Hp} (hq:Q (zgy op) h):zqy Tryz.prog op Q h:=by
 unfold zqy
 refine letW ?_
 by_cases h0:0<=op/\op<34
 ·rw [if_neg (by simp;omega)]
  refine ⟨h0,zgy op,?_,hq⟩
  have e:zgy op=⟨(fieldTab.getD op.toNat []).toArray⟩:=if_pos h0
  rw [zmw1,e]
  have e2:=zei2 op.toNat (by omega)
  rw [Nat.mul_one]
  have e3:(fieldTab.map fun l=>Value.string ⟨l.toArray⟩)[op.toNat]?=some (Value.string ⟨(fieldTab.getD op.toNat []).toArray⟩):=by rw [List.getElem?_map,e2];rfl
  exact e3
 ·rw [if_pos (by simp;omega)]
  have e:zgy op=⟨#[]⟩:=if_neg h0
  rw [e] at hq
  exact hq
theorem zkq1 {P:Program} {g:FuncId} {first captured:Array Value} {args:List Value} {sh:Shape} {K:sh.T->Hp->Prop} {h:Hp} (hg:tb.call g=true) (hc:CallT P g (first.toList++args++captured.toList) sh K h):CallV P tb (.func (.func g) first captured) args sh K h:=
 ⟨g,first,captured,rfl,hg,hc⟩
theorem zkr1 {op:Int} {Q:Bool->Bool->Bool->Bool->Hp->Prop} {h:Hp} (hq:∀h',h<=h'->Q (zby op).1 (zby op).2.1 (zby op).2.2.1 (zby op).2.2.2 h'):zqw Tryz.prog op Q h:=by
 unfold zqw
 refine zcm1 (zkp1 ?_)
 intro b t hn
 refine zsy (b:=b) (off:=0) (cs:=[.string ⟨#[]⟩]) ⟨t,zbx⟩ (by simp) fun h3 hm hb=> ?_
 have hle:h<=h3:=(((Mv.new hn).trans hm).le (Hp.le_refl h) (by simp)).1
 have hl:LdIs h3 ⟨b,0,none⟩ [.string (zgy op)]:=hb.ldIs (n:=1) (by rfl)
 have one:∀(c:UInt8) (K:Bool->Hp->Prop),K (hasC (zgy op) c) h3->CallV Tryz.prog tb (.func (.func zth) #[] #[.pointer (some ⟨b,0,none⟩)]) [.string ⟨#[c]⟩] zae K h3:=fun c K hk=>by
  refine zkq1 rfl (zyr ?_)
  unfold ztn
  refine ld_at (sh:=shStr) (zgy op) hl ?_
  exact zqf1 hk
 have e:=zvi1 op
 rw [<-e] at hq
 exact one 97 _ (one 98 _ (one 99 _ (one 105 _ (hq h3 hle))))
theorem zxn {P:Program} {has:Bool} {n:Int} {Q:Int->Hp->Prop} {h:Hp} (hq:Q (regP has n) h):zmy P has n Q h:=by
 unfold zmy
 refine letW ?_
 unfold regP at hq
 by_cases h1:has=false/\n≠0
 ·rw [if_pos h1] at hq
  rw [if_pos (by simp [h1.1,h1.2])]
  exact hq
 ·rw [if_neg h1] at hq
  rw [if_neg (by cases has<;>simp at h1 ⊢;exact h1)]
  refine letW ?_
  by_cases h2:n<0\/8<=n
  ·rw [if_pos h2] at hq
   rw [if_pos (by simp;omega)]
   exact hq
  ·rw [if_neg h2] at hq
   rw [if_neg (by simp;omega)]
   exact hq
theorem zyl1 {P:Program} {x:S_api_Ins} {has:Bool} {n locks:Int} {Q:Int->Hp->Prop} {h:Hp}
  (hq:Q (if has=false/\x.Imm≠0 then 11 else if (x.Op=22\/x.Op=23)/\(x.Imm<0\/n<x.Imm) then 12 else if (x.Op=29\/x.Op=30)/\(x.Imm<0\/locks<=x.Imm) then 13 else 0) h):zqx P x has n locks Q h:=by
 unfold zqx
 refine letW ?_
 by_cases h1:has=false/\x.Imm≠0
 ·rw [if_pos h1] at hq
  rw [if_pos (by simp [h1.1,h1.2])]
  exact hq
 ·rw [if_neg h1] at hq
  rw [if_neg (by cases has<;>simp at h1 ⊢;exact h1)]
  refine letW ?_
  by_cases h2:x.Op=22\/x.Op=23
  ·rw [if_pos (by simp;exact h2)]
   refine letW ?_
   by_cases h3:x.Imm<0\/n<x.Imm
   ·rw [if_pos ⟨h2,h3⟩] at hq
    rw [if_pos (by simp;omega)]
    exact hq
   ·rw [if_neg (fun e=>h3 e.2),if_neg (by omega)] at hq
    rw [if_neg (by simp;omega)]
    exact hq
  ·rw [if_neg (fun e=>h2 e.1)] at hq
   rw [if_neg (by simp;omega)]
   refine letW ?_
   by_cases h4:x.Op=29\/x.Op=30
   ·rw [if_pos (by simp;exact h4)]
    refine letW ?_
    by_cases h5:x.Imm<0\/locks<=x.Imm
    ·rw [if_pos ⟨h4,h5⟩] at hq
     rw [if_pos (by simp;omega)]
     exact hq
    ·rw [if_neg (fun e=>h5 e.2)] at hq
     rw [if_neg (by simp;omega)]
     exact hq
   ·rw [if_neg (fun e=>h4 e.1)] at hq
    rw [if_neg (by simp;omega)]
    exact hq
theorem zbo2 {x:S_api_Ins} {n locks:Int} {Q:Int->Int->Hp->Prop} {h:Hp} (hq:∀h' at_,h<=h'->((zft (insOf x) n locks).1≠0->at_=(zft (insOf x) n locks).2)->Q (zft (insOf x) n locks).1 at_ h'):ztk Tryz.prog x n locks Q h:=by
 unfold ztk
 refine letW ?_
 have le:=Hp.le_refl h
 rw [show zft (insOf x) n locks=(if x.Op<0\/34<=x.Op then (9,0)
  else if regP (zby x.Op).1 x.A≠0 then (regP (zby x.Op).1 x.A,1)
  else if regP (zby x.Op).2.1 x.B≠0 then (regP (zby x.Op).2.1 x.B,2)
  else if regP (zby x.Op).2.2.1 x.C≠0 then (regP (zby x.Op).2.2.1 x.C,3)
  else if (zby x.Op).2.2.2=false/\x.Imm≠0 then (11,4)
  else if (x.Op=22\/x.Op=23)/\(x.Imm<0\/n<x.Imm) then (12,4)
  else if (x.Op=29\/x.Op=30)/\(x.Imm<0\/locks<=x.Imm) then (13,4)
  else (0,0)) from rfl] at hq
 by_cases h1:x.Op<0\/34<=x.Op
 ·rw [if_pos h1] at hq
  rw [if_pos (by simp;omega)]
  exact hq h 0 le fun _=>rfl
 ·rw [if_neg h1] at hq
  rw [if_neg (by simp;omega)]
  refine zck1 (zkr1 fun h1 l1=> ?_)
  dsimp only
  refine zjh (zxn ?_)
  by_cases h2:regP (zby x.Op).1 x.A≠0
  ·rw [if_pos h2] at hq
   rw [if_pos (by simpa using h2)]
   exact hq h1 1 l1 fun _=>rfl
  ·rw [if_neg h2] at hq
   rw [if_neg (by simpa using h2)]
   refine zjh (zxn ?_)
   by_cases h3:regP (zby x.Op).2.1 x.B≠0
   ·rw [if_pos h3] at hq
    rw [if_pos (by simpa using h3)]
    exact hq h1 2 l1 fun _=>rfl
   ·rw [if_neg h3] at hq
    rw [if_neg (by simpa using h3)]
    refine zjh (zxn ?_)
    by_cases h4:regP (zby x.Op).2.2.1 x.C≠0
    ·rw [if_pos h4] at hq
     rw [if_pos (by simpa using h4)]
     exact hq h1 3 l1 fun _=>rfl
    ·rw [if_neg h4] at hq
     rw [if_neg (by simpa using h4)]
     refine zcl1 (zyl1 ?_)
     by_cases h5:(zby x.Op).2.2.2=false/\x.Imm≠0
     ·rw [if_pos h5] at hq ⊢
      exact hq h1 4 l1 fun _=>rfl
     ·rw [if_neg h5] at hq ⊢
      by_cases h6:(x.Op=22\/x.Op=23)/\(x.Imm<0\/n<x.Imm)
      ·rw [if_pos h6] at hq ⊢
       exact hq h1 4 l1 fun _=>rfl
      ·rw [if_neg h6] at hq ⊢
       by_cases h7:(x.Op=29\/x.Op=30)/\(x.Imm<0\/locks<=x.Imm)
       ·rw [if_pos h7] at hq ⊢
        exact hq h1 4 l1 fun _=>rfl
       ·rw [if_neg h7] at hq ⊢
        exact hq h1 4 l1 fun e=>absurd rfl e
theorem zss1 {x:S_api_Ins} {n locks:Int} {Q:Int->Hp->Prop} {h:Hp} (hq:∀h',h<=h'->Q (zft (insOf x) n locks).1 h'):zti Tryz.prog x n locks Q h:=by
 unfold zti
 exact zfh1 (zbo2 fun h' _ l _=>hq h' l)
abbrev InsS (h:Hp) (l:Sl) (xs:List S_api_Ins):Prop:=Rs h sh_api_Ins 5 l xs
theorem zvj1 {l:Sl} {xs:List S_api_Ins} {locks:Int} {Q:Int->Int->Hp->Prop} {h:Hp} (r:InsS h l xs) (hq:∀h',h<=h'->Q (codeP (xs.map insOf) locks).1 (codeP (xs.map insOf) locks).2 h'):zzl Tryz.prog l locks Q h:=by
 unfold zzl
 have hlen:=r.1
 refine letW ?_
 unfold codeP at hq
 by_cases h1:locks<0\/8<locks
 ·rw [if_pos h1] at hq
  rw [if_pos (by simp;omega)]
  exact hq h (Hp.le_refl h)
 ·rw [if_neg h1,List.length_map] at hq
  rw [if_neg (by simp;omega)]
  by_cases h2:256<xs.length
  ·rw [if_pos h2] at hq
   rw [if_pos (by simp;omega)]
   exact hq h (Hp.le_refl h)
  ·rw [if_neg h2] at hq
   rw [if_neg (by simp;omega)]
   refine LoopW1.intro (fun i k=>h<=k/\0<=i/\i<=(xs.length:Int)/\codeR xs.length locks ((xs.drop i.toNat).map insOf) i=codeR xs.length locks (xs.map insOf) 0) (fun i _=>(xs.length-i).toNat) ⟨Hp.le_refl h,by omega,by omega,rfl⟩ ?_
   rintro i k ⟨hle,h0,hi,he⟩
   by_cases h3:i<(xs.length:Int)
   ·rw [if_pos (decide_eq_true (by omega))]
    refine Rs.get (sh:=sh_api_Ins) (Rw.mono hle r) (fun _=>rfl) (by omega) h0 h3 fun x hx=> ?_
    refine ztr (zss1 fun k' hle'=> ?_)
    have hd:xs.drop i.toNat=x::xs.drop (i.toNat+1):=by
     obtain ⟨hx1,hx2⟩:=List.getElem?_eq_some_iff.1 hx
     rw [<-hx2];exact List.drop_eq_getElem_cons hx1
    rw [hd,List.map_cons,codeR] at he
    rw [hlen]
    by_cases h4:(zft (insOf x) xs.length locks).1≠0
    ·rw [if_pos h4] at he
     rw [if_pos (by simpa using h4)]
     rw [<-he] at hq
     exact hq k' (Hp.le_trans hle hle')
    ·rw [if_neg h4] at he
     rw [if_neg (by simpa using h4)]
     have hw:IntKind.wrap .i64 (i+1)=i+1:=wrap64 (by omega) (by omega)
     rw [hw]
     refine ⟨⟨Hp.le_trans hle hle',by omega,by omega,?_⟩,by omega⟩
     have:(i+1).toNat=i.toNat+1:=by omega
     rw [this];exact he
   ·rw [if_neg (by simp;omega)]
    have hd:xs.drop i.toNat=[]:=List.drop_eq_nil_of_le (by omega)
    rw [hd] at he
    rw [<-he] at hq
    exact hq k hle
end Lf
namespace Lf
open Go
abbrev InU (x:Int):Prop:=0<=x/\x<18446744073709551616
def bit (x:Int) (n:Nat):Bool:=x.toNat.testBit n
theorem wrapU {x:Int} (h:InU x):IntKind.wrap .u64 x=x:=by
  unfold IntKind.wrap
  simp only [IntKind.signed,IntKind.bits]
  have:=h.1
  have:=h.2
  simp
  omega
theorem zmx1 {x:Int} (h:InU x):BitVec.ofInt 64 x=BitVec.ofNat 64 x.toNat:=by
  obtain ⟨n,rfl⟩:=Int.eq_ofNat_of_zero_le h.1
  rfl
theorem zej2 {a b:Int} (ha:InU a) (hb:InU b):(bitsI .andNot .u64 a b==0)=true↔∀n,n<64->bit a n=true->bit b n=true:=by
  have e:bitsI .andNot .u64 a b=(((BitVec.ofNat 64 a.toNat)&&& ~~~ (BitVec.ofNat 64 b.toNat)).toNat:Int):=by
    show IntKind.wrap .u64 ((BitVec.ofInt 64 a&&& ~~~ BitVec.ofInt 64 b).toNat:Int)=_
    rw [zmx1 ha,zmx1 hb,wrapU ⟨by omega,by have:=((BitVec.ofNat 64 a.toNat)&&& ~~~ (BitVec.ofNat 64 b.toNat)).isLt;omega⟩]
  rw [e]
  have e2:((((BitVec.ofNat 64 a.toNat)&&& ~~~ (BitVec.ofNat 64 b.toNat)).toNat:Int)==0)=true↔(BitVec.ofNat 64 a.toNat)&&& ~~~ (BitVec.ofNat 64 b.toNat)=0#64:=by
    rw [BitVec.toNat_eq]
    simp
  rw [e2]
  have ga:∀n,n<64->(BitVec.ofNat 64 a.toNat).getLsbD n=bit a n:=fun n hn=>by rw [BitVec.getLsbD_ofNat];simp [bit,hn]
  have gb:∀n,n<64->(BitVec.ofNat 64 b.toNat).getLsbD n=bit b n:=fun n hn=>by rw [BitVec.getLsbD_ofNat];simp [bit,hn]
  constructor
  · intro h n hn h1
    have:=congrArg (fun v=>v.getLsbD n) h
    simp only [BitVec.getLsbD_and,BitVec.getLsbD_not,ga n hn,gb n hn,h1,hn,decide_true,Bool.true_and,BitVec.getLsbD_zero] at this
    simpa using this
  · intro h
    apply BitVec.eq_of_getLsbD_eq
    intro n hn
    simp only [BitVec.getLsbD_and,BitVec.getLsbD_not,ga n hn,gb n hn,hn,decide_true,Bool.true_and,BitVec.getLsbD_zero]
    cases h1:bit a n with
    | false=>rfl
    | true=>simp [h n hn h1]
end Lf
namespace Lf
open Go Go.Proofs Tryz
abbrev Us (h:Hp) (l:Sl) (xs:List Int):Prop:=Rs h (shInt .u64) 1 l xs
abbrev Is (h:Hp) (l:Sl) (xs:List Int):Prop:=Rs h (shInt .i64) 1 l xs
theorem zgk2 {P:Program} {l:Sl} {xs:List Int} {Q:Int->Int->Hp->Prop} {h:Hp} (r:Us h l xs) (hl:xs.length<=8) (asc:xs.Pairwise (· < ·)) (h0:xs=[]->Q 1 0 h) (h1:xs≠ []->Q 0 0 h):zmr P l Q h:=by
 unfold zmr
 have hlen:=r.1
 split
 ·rename_i e
  have e:(l.len:Int)=0:=by simpa using e
  exact h0 (List.length_eq_zero_iff.1 (by omega))
 ·rename_i e
  have e:¬(l.len:Int)=0:=by simpa using e
  split
  ·rename_i e2
   have e2:(l.len:Int)>8:=by simpa using e2
   omega
  ·refine LoopW1.intro (fun i k=>k=h/\1<=i/\i<=(xs.length:Int)) (fun i _=>(xs.length-i).toNat) ⟨rfl,by omega,by omega⟩ ?_
   rintro i k ⟨rfl,hi1,hi2⟩
   split
   ·rename_i e3
    have e3:i<(l.len:Int):=by simpa using e3
    have hw:IntKind.wrap .i64 (i-1)=i-1:=wrap64 (by omega) (by omega)
    rw [hw]
    refine r.get (fun _=>rfl) (by omega) (by omega) (by omega) fun (x:Int) hx=> ?_
    refine r.get (fun _=>rfl) (by omega) (by omega) (by omega) fun (y:Int) hy=> ?_
    have hxy:y<x:=by
     have e4:(i-1).toNat<i.toNat:=by omega
     have hxl:=(List.getElem?_eq_some_iff.1 hx)
     have hyl:=(List.getElem?_eq_some_iff.1 hy)
     obtain ⟨hx1,hx2⟩:=hxl
     obtain ⟨hy1,hy2⟩:=hyl
     rw [<-hx2,<-hy2]
     exact List.pairwise_iff_getElem.1 asc _ _ hy1 hx1 e4
    rw [if_neg (show ¬((x==y)=true) by simp;omega)]
    refine r.get (fun _=>rfl) (by omega) (by omega) (by omega) fun (x':Int) hx'=> ?_
    rw [hx] at hx';cases hx'
    refine r.get (fun _=>rfl) (by omega) (by omega) (by omega) fun (y':Int) hy'=> ?_
    rw [hy] at hy';cases hy'
    rw [if_neg (show ¬(decide (x<y)=true) by simp;omega)]
    have hw2:IntKind.wrap .i64 (i+1)=i+1:=wrap64 (by omega) (by omega)
    rw [hw2]
    exact ⟨⟨rfl,by omega,by omega⟩,by omega⟩
   ·exact h1 fun e4=>by rw [e4] at hlen;simp at hlen;omega
abbrev OwnU (h0 h:Hp) (l:Sl) (xs:List Int):Prop:=Own h0 h 1 (fun x=>zac ((shInt .u64).enc x)) l xs
abbrev OwnI (h0 h:Hp) (l:Sl) (xs:List Int):Prop:=Own h0 h 1 (fun x=>zac ((shInt .i64).enc x)) l xs
def flows (a b:Int):Bool:=(List.range 64).all fun n=> !bit a n || bit b n
theorem zym1 {a b:Int}:flows a b=true↔∀n,n<64->bit a n=true->bit b n=true:=by
 unfold flows
 rw [List.all_eq_true]
 constructor
 ·intro h n hn ha
  have:=h n (List.mem_range.2 hn)
  rw [ha] at this
  simpa using this
 ·intro h n hn
  have:=h n (List.mem_range.1 hn)
  cases ha:bit a n with
  | false=>rfl
  | true=>simp [this ha]
theorem zks1 {a b:Int} {Q:Bool->Hp->Prop} {h:Hp} (ha:InU a) (hb:InU b) (hq:Q (flows a b) h):zqv prog a b Q h:=by
 unfold zqv
 have:(bitsI .andNot .u64 a b==0)=flows a b:=by
  rw [Bool.eq_iff_iff,zej2 ha hb,zym1]
 rw [this]
 exact hq
def fl (xs:List Int) (i j:Int):Bool:=if 0<=i/\i<(xs.length:Int)/\0<=j/\j<(xs.length:Int) then flows (xs.getD i.toNat 0) (xs.getD j.toNat 0) else false
theorem fl_in {xs:List Int} {i j:Int} {x y:Int} (h:0<=i/\0<=j) (hx:xs[i.toNat]?=some x) (hy:xs[j.toNat]?=some y):fl xs i j=flows x y:=by
 have h1:=(List.getElem?_eq_some_iff.1 hx).1
 have h2:=(List.getElem?_eq_some_iff.1 hy).1
 unfold fl
 rw [if_pos (by omega),List.getD_eq_getElem?_getD,List.getD_eq_getElem?_getD,hx,hy]
 rfl
theorem zdp2 {xs:List Int} {i j:Int} (h:¬(0<=i/\i<(xs.length:Int)/\0<=j/\j<(xs.length:Int))):fl xs i j=false:=by
 unfold fl
 rw [if_neg h]
def ents :List Int->Nat->List MapEntry
 | [],_=> []
 | x::r,j=>{key:=.int .u64 x,val:=.int .i64 (j:Int),born:=j}::ents r (j+1)
def place (a:Int):List Int->Nat->Option Nat
 | [],_=>none
 | x::r,j=>if a=x then some j else place a r (j+1)
theorem zmy1 (a:Int):∀(ls:List Int) (j:Nat),Instr.findNow (.int .u64) (.int .u64 a) (ents ls j) j=some ((place a ls j).map fun (k:Nat)=>(k,Value.int .i64 (k:Int)))
 | [],j=>rfl
 | x::r,j=>by
  simp only [ents,Instr.findNow,Instr.sameNow,if_true,place]
  by_cases h:a=x
  ·simp [h]
  ·have:(a==x)=false:=by simpa using h
   rw [this]
   simp only [if_neg h]
   exact zmy1 a r (j+1)
theorem zmz1 :∀(ls:List Int) (x:Int) (j:Nat),ents (ls++ [x]) j=ents ls j++ [{key:=.int .u64 x,val:=.int .i64 ((j+ls.length:Nat):Int),born:=j+ls.length}]
 | [],x,j=>by simp [ents]
 | y::r,x,j=>by
  simp only [List.cons_append,ents,zmz1 r x (j+1),List.length_cons]
  have:j+1+r.length=j+(r.length+1):=by omega
  rw [this]
theorem zig1 {a:Int}:∀ {ls:List Int} {j:Nat},a∉ls->place a ls j=none
 | [],_,_=>rfl
 | x::r,j,h=>by
  simp only [place]
  rw [if_neg fun e=>h (by rw [e];exact List.mem_cons_self ..)]
  exact zig1 fun e=>h (List.mem_cons_of_mem _ e)
structure Tab (h:Hp) (p:Addr) (ls:List Int):Prop where
 ex:∃(sl:Sl) (m:Nat),LdIs h p [sl.v,.map (some m)]/\Us h sl ls/\h m=some (.map (ents ls 0).toArray ls.length)
theorem Tab.mono {h h':Hp} {p:Addr} {ls:List Int} (hl:h<=h') (t:Tab h p ls):Tab h' p ls:=by
 obtain ⟨sl,m,h1,h2,h3⟩:=t.ex
 exact ⟨sl,m,zbp hl h1,h2.mono hl,hl _ _ h3⟩
theorem Tab.sl {h:Hp} {p:Addr} {ls:List Int} (t:Tab h p ls) {K:Sl->Prop} (hk:∀sl,Us h sl ls->K sl):LdW none shSl h (p.add 0) K:=by
 obtain ⟨sl,m,h1,h2,h3⟩:=t.ex
 refine ⟨sl,fun i v hv=> ?_,hk sl h2⟩
 cases i with
 | zero=>
  have:=h1 0 v (by simpa [zac,Sl.v] using hv)
  rw [zjv]
  exact this
 | succ i=>simp [zac] at hv
theorem Tab.slC {h:Hp} {p:Addr} {ls:List Int} (t:Tab h p ls) {c:Bool} {K:Sl->Prop} (hk:∀sl,Us h sl ls->K sl):LdW (some c) shSl h (p.add 0) K:=by
 obtain ⟨sl,h1,h2⟩:=t.sl hk
 exact ⟨sl,fun _=>h1,h2⟩
theorem Tab.map {h:Hp} {p:Addr} {ls:List Int} (t:Tab h p ls) {K:Option Nat->Prop} (hk:∀m,h m=some (.map (ents ls 0).toArray ls.length)->K (some m)):LdW none shMap h (p.add 1) K:=by
 obtain ⟨sl,m,h1,h2,h3⟩:=t.ex
 refine ⟨some m,fun i v hv=> ?_,hk m h3⟩
 cases i with
 | zero=>
  have:=h1 1 v (by simpa [zac] using hv)
  rw [zjv]
  exact this
 | succ i=>simp [zac] at hv
theorem zst1 {p:Addr} {ls:List Int} {i:Int} {Q:Bool->Hp->Prop} {h:Hp} (t:Tab h p ls) (hq:Q (decide (0<=i)&&decide (i<(ls.length:Int))) h):zlj prog (some p) i Q h:=by
 unfold zlj
 refine zaa (t.slC fun sl hs=>letW ?_)
 rw [hs.1]
 exact hq
theorem zqh1 {p:Addr} {ls:List Int} {i j:Int} {Q:Bool->Hp->Prop} {h:Hp} (t:Tab h p ls) (hu:∀x∈ls,InU x) (hq:Q (fl ls i j) h):zhu prog (some p) i j Q h:=by
 unfold zhu
 refine zne (zst1 t ?_)
 generalize hc:(decide (0<=i)&&decide (i<(ls.length:Int)))=ci
 refine ⟨fun e=>zne (zst1 t ?_),fun e=>⟨false,?_⟩⟩
 ·generalize hd:(decide (0<=j)&&decide (j<(ls.length:Int)))=cj
  refine letW ?_
  subst e
  rw [Bool.true_and]
  simp at hc
  refine zaa (t.slC fun sl hs=> ?_)
  refine Rs.getC hs (0:Int) (fun _=>rfl) (by omega) (fun _=>hc) fun (x:Int) hx=> ?_
  refine zaa (t.slC fun sl2 hs2=> ?_)
  refine Rs.getC hs2 (0:Int) (fun _=>rfl) (by omega) (fun e=>by rw [e] at hd;simpa using hd) fun (y:Int) hy=> ?_
  refine ⟨fun e=> ?_,fun e=>⟨false,?_⟩⟩
  ·have ex:=hx e
   have ey:=hy e
   rw [e] at hd
   simp at hd
   refine zcj1 (zks1 (hu x (List.mem_of_getElem? ex)) (hu y (List.mem_of_getElem? ey)) (letW ?_))
   rw [e,Bool.true_and,<-fl_in ⟨hc.1,hd.1⟩ ex ey]
   exact hq
  ·refine letW ?_
   rw [e] at hd ⊢
   rw [Bool.false_and,<-zdp2 (xs:=ls) (i:=i) (j:=j) (by simp at hd;omega)]
   exact hq
 ·subst e
  simp at hc
  refine letW ?_
  rw [Bool.false_and]
  refine zaa (t.slC fun sl hs=> ?_)
  refine Rs.getC hs (0:Int) (fun _=>rfl) (by omega) (fun e=>by cases e) fun (x:Int) hx=> ?_
  refine zaa (t.slC fun sl2 hs2=> ?_)
  refine Rs.getC hs2 (0:Int) (fun _=>rfl) (by omega) (fun e=>by cases e) fun (y:Int) hy=> ?_
  refine ⟨fun e=>(by cases e),fun e=>⟨false,letW ?_⟩⟩
  rw [Bool.false_and,<-zdp2 (xs:=ls) (i:=i) (j:=j) (by omega)]
  exact hq
theorem zbp2 {s:Sl} {xs:List Int} {Q:Sl->Hp->Prop} {h:Hp} (r:Us h s xs) (hl:xs.length<=1000000) (hq:∀out h',h<=h'->OwnU h h' out xs->Q out h'):zbs prog s Q h:=by
 unfold zbs
 refine ⟨s.base.isNone,zqg (tb_ok.und 23 ty23 rfl) s,?_⟩
 cases hb:s.base with
 | none=>
  rw [if_pos (show (none:Option Addr).isNone=true from rfl)]
  have:xs=[]:=by
   rcases r.2.2 with e | ⟨a,ha,_⟩
   ·exact List.length_eq_zero_iff.1 (by omega)
   ·rw [hb] at ha;cases ha
  subst this
  exact hq _ h (Hp.le_refl h) ⟨rfl,Nat.le_refl _,.inl ⟨rfl,rfl⟩⟩
 | some a=>
  rw [if_neg (by simp)]
  refine zjd1 (xs:=([]:List Int)) (enc:=fun x=>zac ((shInt .u64).enc x)) (sz:=1) (Hp.le_refl h) rfl (fun _=>rfl) fun a h1 hle1 ho1=> ?_
  refine zxx1 hle1 ho1 (Rw.mono hle1 r) (fun _=>rfl) (fun _=>rfl) rfl ?_ fun l' h' hle' hown _=> ?_
  ·simp;omega
  ·exact hq l' h' hle' hown
theorem zvk1 {ls:List Int} (hn:ls.Pairwise (· < ·)) {t:Nat} {x:Int} (hx:ls[t]?=some x):x∉ls.take t:=by
 intro hm
 obtain ⟨i,hi⟩:=List.mem_iff_getElem?.1 hm
 rw [List.getElem?_take] at hi
 split at hi
 ·rename_i hlt
  obtain ⟨h1,e1⟩:=List.getElem?_eq_some_iff.1 hi
  obtain ⟨h2,e2⟩:=List.getElem?_eq_some_iff.1 hx
  have:=List.pairwise_iff_getElem.1 hn i t h1 h2 hlt
  omega
 ·cases hi
theorem zgl2 {l:Sl} {ls:List Int} {Q:Option Addr->Int->Int->Hp->Prop} {h:Hp} (r:Us h l ls) (hl:ls.length<=8) (asc:ls.Pairwise (· < ·)) (h0:ls=[]->Q none 1 0 h)
  (h1:ls≠ []->∀p h',h<=h'->Tab h' p ls->Q (some p) 0 0 h'):zmq prog l Q h:=by
 unfold zmq
 refine zop (zgk2 r hl asc (fun e=> ?_) (fun e=> ?_))
 ·rw [if_pos (by simp)]
  exact h0 e
 rw [if_neg (by simp)]
 refine zeg (zbp2 r (by omega) fun out k1 hle1 ho1=> ?_)
 intro m hm
 have hle2:k1<=k1.set m (.map #[] 0):=zcv hm
 intro b t hb
 have hle3:=zcv (o:=.cells (([out.v,.map (some m)]:List Value).toArray) t (0,0)) hb
 have hm0:h m=none:=zct hle1 hm
 have hbm:b≠m:=fun e=>by rw [e,zbx] at hb;cases hb
 have rout:Us k1 out ls:=ho1.rw fun _=>rfl
 refine ⟨_,rfl,out,?_,?_⟩
 ·intro i v hv
  cases i with
  | zero=>
   rw [zjv]
   exact zqf 0 v (by simpa [zac,Sl.v] using hv)
  | succ i=>simp [zac] at hv
 refine LoopW1.intro (fun i k=>h<=k/\0<=i/\i<=(ls.length:Int)/\Us k out ls/\LdIs k ⟨b,0,none⟩ [out.v,.map (some m)]/\k m=some (.map (ents (ls.take i.toNat) 0).toArray i.toNat)) (fun i _=>(ls.length-i).toNat)
  ⟨Hp.le_trans hle1 (Hp.le_trans hle2 hle3),by omega,by omega,Rw.mono (Hp.le_trans hle2 hle3) rout,zqf,hle3 _ _ zbx⟩ ?_
 rintro i k ⟨hk,hi0,hi1,hr,hp,hmk⟩
 have hlen:=hr.1
 split
 ·rename_i e
  have e:i<(out.len:Int):=by simpa using e
  refine Rs.get hr (fun _=>rfl) (by omega) hi0 (by omega) fun (x:Int) hx=> ?_
  refine ⟨_,rfl,some m,?_,?_⟩
  ·intro j v hv
   cases j with
   | zero=>
    have:=hp 1 v (by simpa [zac] using hv)
    rw [zjv]
    exact this
   | succ j=>simp [zac] at hv
  have hlt:(ls.take i.toNat).length=i.toNat:=by rw [List.length_take];omega
  refine ⟨m,_,_,rfl,hmk,.inl ⟨?_,?_⟩⟩
  ·have:=zmy1 x (ls.take i.toNat) 0
   rw [zig1 (zvk1 asc hx)] at this
   exact this
  ·have hck:∀o,CKeep k (k.set m o):=fun o=>zgd2 hmk rfl
   rw [wrap64 (by omega) (by omega)]
   refine ⟨⟨zsl1 hk hm0,by omega,by omega,Rw.ck (hck _) hr,zxy1 (hck _) hp,?_⟩,by omega⟩
   rw [zbx]
   have e1:(i+1).toNat=i.toNat+1:=by omega
   have e2:ls.take (i.toNat+1)=ls.take i.toNat++ [x]:=by rw [List.take_add_one,hx];rfl
   rw [e1,e2,zmz1,hlt]
   have e3:((0+i.toNat:Nat):Int)=i:=by omega
   rw [e3,Nat.zero_add,List.push_toArray]
 ·rename_i e2
  have e2:¬i<(out.len:Int):=by simpa using e2
  have e3:i.toNat=ls.length:=by omega
  rw [e3,List.take_length] at hmk
  exact h1 e _ _ hk ⟨out,m,hp,hr,hmk⟩
def mayR :Int->List Int->Int->Int×Int
 | _,[],_=>(0,0)
 | p,x::r,i=>if x=p then (8,i) else if x<p then (7,i) else mayR x r (i+1)
def mayP :List Int->Int×Int
 | []=>(1,0)
 | x::r=>if 8<r.length+1 then (3,8) else mayR x r 1
theorem zna1 :∀ {r:List Int} {p i:Int},(mayR p r i).1=0↔(p::r).Pairwise (· < ·)
 | [],p,i=>by simp [mayR]
 | x::r,p,i=>by
  simp only [mayR]
  by_cases h1:x=p
  ·rw [if_pos h1,List.pairwise_cons]
   refine ⟨fun e=>(by cases e),fun h=> ?_⟩
   have:=h.1 x (List.mem_cons_self ..)
   omega
  ·rw [if_neg h1]
   by_cases h2:x<p
   ·rw [if_pos h2,List.pairwise_cons]
    refine ⟨fun e=>(by cases e),fun h=> ?_⟩
    have:=h.1 x (List.mem_cons_self ..)
    omega
   ·rw [if_neg h2,zna1,List.pairwise_cons (a:=p)]
    refine ⟨fun h=>⟨fun y hy=> ?_,h⟩,fun h=>h.2⟩
    rcases List.mem_cons.1 hy with rfl | hy
    ·omega
    ·have:=(List.pairwise_cons.1 h).1 y hy
     omega
theorem mayP_zero {xs:List Int}:(mayP xs).1=0↔xs≠ []/\xs.length<=8/\xs.Pairwise (· < ·):=by
 cases xs with
 | nil=>simp [mayP]
 | cons x r=>
  simp only [mayP,List.length_cons]
  by_cases h:8<r.length+1
  ·rw [if_pos h]
   refine ⟨fun e=>(by cases e),fun e=> ?_⟩
   omega
  ·rw [if_neg h,zna1]
   exact ⟨fun e=>⟨by simp,by omega,e⟩,fun e=>e.2.2⟩
theorem zyn1 {P:Program} {l:Sl} {xs:List Int} {Q:Int->Int->Hp->Prop} {h:Hp} (r:Us h l xs) (hq:Q (mayP xs).1 (mayP xs).2 h):zmr P l Q h:=by
 unfold zmr
 have hlen:=r.1
 cases hxs:xs with
 | nil=>
  subst hxs
  rw [if_pos (by simp [hlen])]
  exact hq
 | cons x0 r0=>
  subst hxs
  simp only [List.length_cons] at hlen
  rw [if_neg (show ¬(((l.len:Int)==0)=true) by simp;omega)]
  by_cases h8:(l.len:Int)>8
  ·rw [if_pos (decide_eq_true h8)]
   have:mayP (x0::r0)=(3,8):=by simp only [mayP];rw [if_pos (by omega)]
   rw [this] at hq
   exact hq
  rw [if_neg fun hh=>h8 (of_decide_eq_true hh)]
  have hm:mayP (x0::r0)=mayR x0 r0 1:=by simp only [mayP];rw [if_neg (by omega)]
  rw [hm] at hq
  refine LoopW1.intro (fun i k=>k=h/\1<=i/\i<=((r0.length:Int)+1)/\∃p,(x0::r0)[(i-1).toNat]?=some p/\mayR p ((x0::r0).drop i.toNat) i=mayR x0 r0 1) (fun i _=>(r0.length+1-i).toNat)
   ⟨rfl,by omega,by omega,x0,rfl,rfl⟩ ?_
  rintro i k ⟨rfl,hi1,hi2,p,hp,hmr⟩
  split
  ·rename_i e3
   have e3:i<(l.len:Int):=by simpa using e3
   have hll:((x0::r0).length:Int)=(r0.length:Int)+1:=by simp
   rw [wrap64 (n:=i-1) (by omega) (by omega)]
   refine r.get (fun _=>rfl) (by omega) (by omega) (by omega) fun (x:Int) hx=> ?_
   refine r.get (fun _=>rfl) (by omega) (by omega) (by omega) fun (y:Int) hy=> ?_
   rw [hp] at hy;cases hy
   have hd:(x0::r0).drop i.toNat=x::(x0::r0).drop (i.toNat+1):=by
    obtain ⟨h3,h4⟩:=List.getElem?_eq_some_iff.1 hx
    rw [List.drop_eq_getElem_cons h3,h4]
   rw [hd] at hmr
   simp only [mayR] at hmr
   by_cases hxp:x=p
   ·rw [if_pos (by simpa using hxp)]
    rw [if_pos hxp] at hmr
    rw [<-hmr] at hq
    exact hq
   rw [if_neg (by simpa using hxp)]
   rw [if_neg hxp] at hmr
   refine r.get (fun _=>rfl) (by omega) (by omega) (by omega) fun (x':Int) hx'=> ?_
   rw [hx] at hx';cases hx'
   refine r.get (fun _=>rfl) (by omega) (by omega) (by omega) fun (y':Int) hy'=> ?_
   rw [hp] at hy';cases hy'
   by_cases hlt:x<p
   ·rw [if_pos (decide_eq_true hlt)]
    rw [if_pos hlt] at hmr
    rw [<-hmr] at hq
    exact hq
   rw [if_neg fun hh=>hlt (of_decide_eq_true hh)]
   rw [if_neg hlt] at hmr
   rw [wrap64 (by omega) (by omega)]
   have e1:(i+1).toNat=i.toNat+1:=by omega
   have e2:(i+1-1).toNat=i.toNat:=by omega
   exact ⟨⟨rfl,by omega,by omega,x,by rw [e2];exact hx,by rw [e1];exact hmr⟩,by omega⟩
  ·rename_i e3
   have e3:¬i<(l.len:Int):=by simpa using e3
   rw [List.drop_eq_nil_of_le (by simp;omega)] at hmr
   rw [<-hmr] at hq
   exact hq
theorem zek2 {l:Sl} {ls:List Int} {Q:Option Addr->Int->Int->Hp->Prop} {h:Hp} (r:Us h l ls) (h0:(mayP ls).1≠0->Q none (mayP ls).1 (mayP ls).2 h)
  (h1:(mayP ls).1=0->∀p h',h<=h'->Tab h' p ls->Q (some p) 0 0 h'):zmq prog l Q h:=by
 by_cases hm:(mayP ls).1=0
 ·obtain ⟨hne,hl,hasc⟩:=mayP_zero.1 hm
  exact zgl2 r hl hasc (fun e=>absurd e hne) fun _=>h1 hm
 ·unfold zmq
  refine zop (zyn1 r ?_)
  rw [if_pos (by simpa using hm)]
  exact h0 hm
def All2 {α β:Type} (R:α->β->Prop):List α->List β->Prop
 | [],[]=>True
 | a::l,b::m=>R a b/\All2 R l m
 | _,_=>False
section
variable {α β:Type} {R S:α->β->Prop}
theorem All2.len :∀ {l:List α} {m:List β},All2 R l m->l.length=m.length
 | [],[],_=>rfl
 | _::l,_::m,h=>by simp [All2.len h.2]
 | [],_::_,h=>h.elim
 | _::_,[],h=>h.elim
theorem All2.imp (hi:∀a b,R a b->S a b):∀ {l:List α} {m:List β},All2 R l m->All2 S l m
 | [],[],_=>trivial
 | _::_,_::_,h=>⟨hi _ _ h.1,All2.imp hi h.2⟩
 | [],_::_,h=>h.elim
 | _::_,[],h=>h.elim
theorem All2.get :∀ {l:List α} {m:List β} {i:Nat} {a:α},All2 R l m->l[i]?=some a->∃b,m[i]?=some b/\R a b
 | [],_,_,_,_,e=>by simp at e
 | _::_,[],_,_,h,_=>h.elim
 | _::_,b::_,0,_,h,e=>by simp at e;subst e;exact ⟨b,rfl,h.1⟩
 | _::_,_::_,i+1,_,h,e=>by
  rw [List.getElem?_cons_succ] at e
  obtain ⟨b,h1,h2⟩:=All2.get h.2 e
  exact ⟨b,by simpa using h1,h2⟩
theorem All2.get' :∀ {l:List α} {m:List β} {i:Nat} {b:β},All2 R l m->m[i]?=some b->∃a,l[i]?=some a/\R a b
 | _,[],_,_,_,e=>by simp at e
 | [],_::_,_,_,h,_=>h.elim
 | a::_,_::_,0,_,h,e=>by simp at e;subst e;exact ⟨a,rfl,h.1⟩
 | _::_,_::_,i+1,_,h,e=>by
  rw [List.getElem?_cons_succ] at e
  obtain ⟨b,h1,h2⟩:=All2.get' h.2 e
  exact ⟨b,by simpa using h1,h2⟩
theorem All2.app :∀ {l l':List α} {m m':List β},All2 R l m->All2 R l' m'->All2 R (l++l') (m++m')
 | [],_,[],_,_,h=>h
 | _::_,_,_::_,_,h,h'=>⟨h.1,All2.app h.2 h'⟩
 | [],_,_::_,_,h,_=>h.elim
 | _::_,_,[],_,h,_=>h.elim
theorem All2.drop :∀ {l:List α} {m:List β} (n:Nat),All2 R l m->All2 R (l.drop n) (m.drop n)
 | _,_,0,h=>h
 | [],[],_+1,h=>h
 | _::_,_::_,n+1,h=>All2.drop n h.2
 | [],_::_,_+1,h=>h.elim
 | _::_,[],_+1,h=>h.elim
theorem All2.take :∀ {l:List α} {m:List β} (n:Nat),All2 R l m->All2 R (l.take n) (m.take n)
 | _,_,0,_=>trivial
 | [],[],_+1,h=>h
 | _::_,_::_,n+1,h=>⟨h.1,All2.take n h.2⟩
 | [],_::_,_+1,h=>h.elim
 | _::_,[],_+1,h=>h.elim
end
def ProcAt (h:Hp) (q:S_api_Proc) (p:PProc):Prop:=q.Part=p.part/\∃is,InsS h q.Code is/\is.map insOf=p.code
abbrev ProcS (h:Hp) (l:Sl) (ps:List S_api_Proc):Prop:=Rs h sh_api_Proc 2 l ps
structure CfgAt (h:Hp) (c:S_api_Config) (p:PCfg):Prop where
 labels:Us h c.Labels p.labels
 table:Is h c.Table p.table
 fuel:c.Fuel=p.fuel
 lane:c.Lane=p.lane
 locks:c.Locks=p.locks
 log:c.Log=p.log
 procs:∃ps,ProcS h c.Procs ps/\All2 (ProcAt h) ps p.procs
section
variable {h h':Hp}
theorem ProcAt.mono (hl:h<=h') {q:S_api_Proc} {p:PProc} (a:ProcAt h q p):ProcAt h' q p:=by
 obtain ⟨h1,is,h2,h3⟩:=a
 exact ⟨h1,is,Rw.mono hl h2,h3⟩
theorem CfgAt.mono (hl:h<=h') {c:S_api_Config} {p:PCfg} (a:CfgAt h c p):CfgAt h' c p:=by
 obtain ⟨ps,h1,h2⟩:=a.procs
 exact ⟨Rw.mono hl a.labels,Rw.mono hl a.table,a.fuel,a.lane,a.locks,a.log,ps,Rw.mono hl h1,h2.imp fun _ _ e=>e.mono hl⟩
end
section
variable {P:Program} {h:Hp}
theorem zts {n a b:Int} {Q:Bool->Hp->Prop} (hq:Q (zce n a b) h):zqr P n a b Q h:=by
 unfold zqr
 exact letW hq
theorem zyo1 {n most:Int} {Q:Int->Hp->Prop} (hq:Q (cntE most n) h):zwj P n most Q h:=by
 unfold zwj
 unfold cntE at hq
 by_cases h1:n=0
 ·rw [if_pos h1] at hq;rw [if_pos (by simpa using h1)];exact hq
 ·rw [if_neg h1] at hq
  rw [if_neg (by simpa using h1)]
  by_cases h2:most<n
  ·rw [if_pos h2] at hq;rw [if_pos (decide_eq_true h2)];exact hq
  ·rw [if_neg h2] at hq;rw [if_neg (fun e=>h2 (of_decide_eq_true e))];exact hq
def znh (part n:Int):Int:=if part=2 then rngE 1 256 n else if part=3 then rngE 1 64 n else if part=4 then rngE 0 8 n else if part=5 then rngE 0 4096 n else 0
theorem zyp1 {part n:Int} {Q:Int->Hp->Prop} (hq:Q (znh part n) h):zqq prog part n Q h:=by
 unfold zqq
 unfold znh at hq
 have one:∀a b,Q (rngE a b n) h->(if (!(zce n a b))=true then Q 2 h else Q 0 h):=fun a b hq=>by
  unfold rngE at hq
  cases hw:zce n a b with
  | true=>rw [hw] at hq;exact hq
  | false=>rw [hw] at hq;exact hq
 by_cases h2:part=2
 ·rw [if_pos h2] at hq;rw [if_pos (by simpa using h2)]
  exact zfc (zts (one 1 256 hq))
 ·rw [if_neg h2] at hq;rw [if_neg (by simpa using h2)]
  by_cases h3:part=3
  ·rw [if_pos h3] at hq;rw [if_pos (by simpa using h3)]
   exact zfc (zts (one 1 64 hq))
  ·rw [if_neg h3] at hq;rw [if_neg (by simpa using h3)]
   by_cases h4:part=4
   ·rw [if_pos h4] at hq;rw [if_pos (by simpa using h4)]
    exact zfc (zts (one 0 8 hq))
   ·rw [if_neg h4] at hq;rw [if_neg (by simpa using h4)]
    by_cases h5:part=5
    ·rw [if_pos h5] at hq;rw [if_pos (by simpa using h5)]
     exact zfc (zts (one 0 4096 hq))
    ·rw [if_neg h5] at hq;rw [if_neg (by simpa using h5)]
     exact hq
end
theorem zbm1 {h:Hp} {s:Sl} {xs:List Int} {p:Int->Bool} {f:FnV} {Q:Int->Hp->Prop} (r:Is h s xs) (hl:xs.length<=1000000)
  (hc:∀x∈xs,∀(k:Hp) (K:Bool->Hp->Prop),h<=k->(∀k',h<=k'->K (p x) k')->CallV prog tb (.func (.func f.g) f.first f.captured) [.int .i64 x] zae K k)
  (hq:∀i h',h<=h'->(0<=i↔xs.any p=true)->Q i h'):zdj prog s f Q h:=by
 unfold zdj
 have hlen:=r.1
 refine LoopW1.intro (fun i k=>h<=k/\0<=i/\i<=(xs.length:Int)/\∀x∈xs.take i.toNat,p x=false) (fun i _=>(xs.length-i).toNat) ⟨Hp.le_refl h,by omega,by omega,fun x hx=>by simp at hx⟩ ?_
 rintro i k ⟨hle,h0,hi,hall⟩
 by_cases h3:i<(xs.length:Int)
 ·rw [if_pos (decide_eq_true (by omega))]
  refine Rs.get (sh:=shInt .i64) (Rw.mono hle r) (fun _=>rfl) (by omega) h0 h3 fun x hx=> ?_
  refine hc x (List.mem_of_getElem? hx) k _ hle fun k' hle'=> ?_
  cases hp:p x with
  | true=>
   rw [if_pos rfl]
   exact hq i k' hle' ⟨fun _=>List.any_eq_true.2 ⟨x,List.mem_of_getElem? hx,hp⟩,fun _=>h0⟩
  | false=>
   rw [if_neg (by simp),wrap64 (by omega) (by omega)]
   refine ⟨⟨hle',by omega,by omega,fun y hy=> ?_⟩,by omega⟩
   have:(i+1).toNat=i.toNat+1:=by omega
   rw [this,List.take_add_one,hx] at hy
   rcases List.mem_append.1 hy with hy | hy
   ·exact hall y hy
   ·simp at hy;rw [hy];exact hp
 ·rw [if_neg (fun e=>h3 (by have:=of_decide_eq_true e;omega))]
  refine hq (-1) k hle ⟨fun e=>by omega,fun e=> ?_⟩
  obtain ⟨x,hx,hp⟩:=List.any_eq_true.1 e
  have:xs.take i.toNat=xs:=List.take_of_length_le (by omega)
  rw [hall x (by rw [this];exact hx)] at hp
  cases hp
theorem zyq1 {s:Sl} {xs:List Int} {Q:Sl->Hp->Prop} {h:Hp} (r:Is h s xs) (hl:xs.length<=1000000) (hq:∀out h',h<=h'->OwnI h h' out xs->Q out h'):zbe prog s Q h:=by
 unfold zbe
 refine ⟨s.base.isNone,zqg (tb_ok.und 24 ty24 rfl) s,?_⟩
 cases hb:s.base with
 | none=>
  rw [if_pos (show (none:Option Addr).isNone=true from rfl)]
  have:xs=[]:=by
   rcases r.2.2 with e | ⟨a,ha,_⟩
   ·exact List.length_eq_zero_iff.1 (by omega)
   ·rw [hb] at ha;cases ha
  subst this
  exact hq _ h (Hp.le_refl h) ⟨rfl,Nat.le_refl _,.inl ⟨rfl,rfl⟩⟩
 | some a=>
  rw [if_neg (by simp)]
  refine zjd1 (xs:=([]:List Int)) (enc:=fun x=>zac ((shInt .i64).enc x)) (sz:=1) (Hp.le_refl h) rfl (fun _=>rfl) fun a h1 hle1 ho1=> ?_
  refine zxx1 hle1 ho1 (Rw.mono hle1 r) (fun _=>rfl) (fun _=>rfl) rfl ?_ fun l' h' hle' hown _=> ?_
  ·simp;omega
  ·exact hq l' h' hle' hown
theorem zqi1 {h:Hp} {t:Sl} {xs:List Int} {n:Int} {Q:Option Addr->Int->Int->Hp->Prop} (r:Is h t xs) (h1:1<=n) (h8:n<=8) (hne:xs≠ []) (hl:xs.length<=64)
  (hq:∀p i h',h<=h'->Q p (if (xs.all fun x=>zce x 0 (n-1))=false then 2 else 0) i h'):zms prog t n Q h:=by
 unfold zms
 have hlen:=r.1
 have hpos:0<xs.length:=List.length_pos_iff.2 hne
 intro b ty hn
 have hle:=zcv (o:=.cells (#[Value.int .i64 n]) ty (0,0)) hn
 have hld:LdIs (h.set b (.cells (#[Value.int .i64 n]) ty (0,0))) ⟨b,0,none⟩ [.int .i64 n]:=zqf (cs:=[Value.int .i64 n])
 refine ld_at (sh:=shInt .i64) n hld ?_
 refine ⟨n,fun _=>hld,?_⟩
 refine letW (letW ?_)
 rw [if_neg (by simp;omega),if_neg (by simp;omega)]
 have hany:(xs.any fun x=>decide (x<0) || decide (x>=n))= !(xs.all fun x=>zce x 0 (n-1)):=by
  rw [Bool.eq_iff_iff]
  simp only [List.any_eq_true,Bool.not_eq_true',List.all_eq_false,Bool.or_eq_true,decide_eq_true_eq]
  constructor
  ·rintro ⟨x,hx,hb⟩
   exact ⟨x,hx,by rw [within_true];omega⟩
  ·rintro ⟨x,hx,hb⟩
   exact ⟨x,hx,by rw [within_true] at hb;omega⟩
 refine zfd (f:=⟨ziu, #[], #[.pointer (some ⟨b,0,none⟩)]⟩) (zbm1 (p:=fun x=>decide (x<0) || decide (x>=n)) (Rw.mono hle r) (by omega) (fun x _ k K hk hK=> ?_) fun i h' hle' hi=> ?_)
 ·refine zkq1 (g:=ziu) rfl (zrx ?_)
  unfold zqt
  refine ⟨n,fun _=>zbp hk hld,letW (hK k hk)⟩
 ·dsimp only
  rw [hany] at hi
  cases ha:(xs.all fun x=>zce x 0 (n-1)) with
  | false=>
   rw [ha] at hi hq
   rw [if_pos (decide_eq_true (hi.2 rfl))]
   exact hq none i h' (Hp.le_trans hle hle')
  | true=>
   rw [ha] at hi hq
   rw [if_neg (fun e=>by have:=hi.1 (of_decide_eq_true e);cases this)]
   refine ld_at (sh:=shInt .i64) n (zbp hle' hld) ?_
   refine zcm (zyq1 (Rw.mono (Hp.le_trans hle hle') r) (by omega) fun out h2 hle2 ho=> ?_)
   refine ⟨⟨zbp (Hp.le_trans hle' hle2) hld,trivial⟩,?_⟩
   intro b2 t2 hn2
   exact hq _ 0 _ (Hp.le_trans (Hp.le_trans hle hle') (Hp.le_trans hle2 (zcv hn2)))
def numsR :List Int->Int->Int×Int->Int×Int
 | [],_,z=>z
 | n::r,i,z=>if znh i n≠0 then (znh i n,i) else numsR r (i+1) z
def restP (c:PCfg):Int×Int:=if c.procs=[] then (1,6) else if 32<c.procs.length then (3,6) else zvj c.labels.length c.locks c.procs 0
theorem zyr1 (m:Int) (c:PCfg):cfgP m c=if m≠0 then (m,0) else if c.table=[] then (1,1) else if 64<c.table.length then (3,1)
  else if (c.table.all fun p=>zce p 0 (c.labels.length-1))=false then (2,1) else numsR [0,0,c.fuel,c.lane,c.locks,c.log] 0 (restP c):=by
 unfold cfgP
 have h0:znh 0 0=0:=rfl
 have h1:znh (0+1) 0=0:=rfl
 have h2:znh (0+1+1) c.fuel=rngE 1 256 c.fuel:=rfl
 have h3:znh (0+1+1+1) c.lane=rngE 1 64 c.lane:=rfl
 have h4:znh (0+1+1+1+1) c.locks=rngE 0 8 c.locks:=rfl
 have h5:znh (0+1+1+1+1+1) c.log=rngE 0 4096 c.log:=rfl
 simp only [numsR,h0,h1,h2,h3,h4,h5,ne_eq,not_true_eq_false,if_false]
 unfold rngE restP
 cases zce c.fuel 1 256<;>cases zce c.lane 1 64<;>cases zce c.locks 0 8<;>cases zce c.log 0 4096<;>simp
def cfgE (c:PCfg):Int×Int:=cfgP (mayP c.labels).1 c
theorem zvl1 {h:Hp} {c:S_api_Config} {p:PCfg} {Q:Int->Int->Hp->Prop} (a:CfgAt h c p) (hq:∀h',h<=h'->Q (cfgE p).1 (cfgE p).2 h'):zzk prog c Q h:=by
 unfold zzk
 have le:=Hp.le_refl h
 unfold cfgE at hq
 rw [zyr1] at hq
 refine zop (zyn1 a.labels ?_)
 dsimp only
 by_cases h1:(mayP p.labels).1≠0
 ·rw [if_pos h1] at hq
  rw [if_pos (by simpa using h1)]
  exact hq h le
 rw [if_neg h1] at hq
 rw [if_neg (by simpa using h1)]
 obtain ⟨hl1,hl2,_⟩:=mayP_zero.1 (Classical.not_not.1 h1)
 have hll:=a.labels.1
 have hlt:=a.table.1
 have hpos:0<p.labels.length:=List.length_pos_iff.2 hl1
 refine zvn (zyo1 ?_)
 by_cases h2:p.table=[]
 ·rw [if_pos h2] at hq
  have e:cntE 64 (c.Table.len:Int)=1:=by unfold cntE;rw [if_pos (by rw [hlt,h2];rfl)]
  rw [e,if_pos (by rfl)]
  exact hq h le
 rw [if_neg h2] at hq
 have hpt:0<p.table.length:=List.length_pos_iff.2 h2
 by_cases h3:64<p.table.length
 ·rw [if_pos h3] at hq
  have e:cntE 64 (c.Table.len:Int)=3:=by unfold cntE;rw [if_neg (by omega),if_pos (by omega)]
  rw [e,if_pos (by rfl)]
  exact hq h le
 rw [if_neg h3] at hq
 have e:cntE 64 (c.Table.len:Int)=0:=by unfold cntE;rw [if_neg (by omega),if_neg (by omega)]
 rw [e,if_neg (by simp)]
 rw [hll]
 refine zvo (zqi1 a.table (by omega) (by omega) h2 (by omega) fun sp si h3' le3=> ?_)
 dsimp only
 by_cases h4:(p.table.all fun x=>zce x 0 (p.labels.length-1))=false
 ·rw [if_pos h4] at hq
  rw [if_pos (by rw [if_pos h4];rfl),if_pos h4]
  exact hq h3' le3
 rw [if_neg h4] at hq
 rw [if_neg (by rw [if_neg h4];simp)]
 refine zjd1 (h0:=h3') (xs:=([0,0,p.fuel,p.lane,p.locks,p.log]:List Int)) (enc:=fun x=>zac ((shInt .i64).enc x)) (sz:=1) (Hp.le_refl h3') (by rw [a.fuel,a.lane,a.locks,a.log];rfl) (fun _=>rfl) fun ad h4' le4 o4=> ?_
 have r4:Is h4' ⟨some ad,6,6⟩ [0,0,p.fuel,p.lane,p.locks,p.log]:=o4.rw fun _=>rfl
 have le4':=Hp.le_trans le3 le4
 obtain ⟨ps,hps,hall⟩:=a.procs
 have hlp:=hps.1
 have hlp2:=hall.len
 refine LoopW1.intro (fun i k=>h4'<=k/\0<=i/\i<=6/\numsR (([0,0,p.fuel,p.lane,p.locks,p.log]:List Int).drop i.toNat) i (restP p)=numsR [0,0,p.fuel,p.lane,p.locks,p.log] 0 (restP p)) (fun i _=>(6-i).toNat) ⟨Hp.le_refl _,by omega,by omega,rfl⟩ ?_
 rintro i k ⟨hle,h0,hi,he⟩
 have hlek:=Hp.le_trans le4' hle
 by_cases h5:i<6
 ·rw [if_pos (decide_eq_true h5)]
  refine Rs.get (sh:=shInt .i64) (l:=⟨some ad,6,6⟩) (Rw.mono hle r4) (fun _=>rfl) (by omega) h0 (by simpa using h5) fun x hx=> ?_
  refine zci1 (zyp1 ?_)
  have hd:([0,0,p.fuel,p.lane,p.locks,p.log]:List Int).drop i.toNat=x::([0,0,p.fuel,p.lane,p.locks,p.log]:List Int).drop (i.toNat+1):=by
   obtain ⟨hx1,hx2⟩:=List.getElem?_eq_some_iff.1 hx
   rw [<-hx2];exact List.drop_eq_getElem_cons hx1
  rw [hd,numsR] at he
  by_cases h6:znh i x≠0
  ·rw [if_pos h6] at he
   rw [if_pos (by simpa using h6)]
   rw [<-he] at hq
   exact hq k hlek
  ·rw [if_neg h6] at he
   rw [if_neg (by simpa using h6),wrap64 (by omega) (by omega)]
   refine ⟨⟨hle,by omega,by omega,?_⟩,by omega⟩
   have:(i+1).toNat=i.toNat+1:=by omega
   rw [this];exact he
 ·rw [if_neg (fun e=>h5 (of_decide_eq_true e))]
  have:i=6:=by omega
  subst this
  rw [show ([0,0,p.fuel,p.lane,p.locks,p.log]:List Int).drop (6:Int).toNat=[] from rfl,numsR] at he
  rw [<-he] at hq
  unfold restP at hq
  refine zvn (zyo1 ?_)
  by_cases h6:p.procs=[]
  ·rw [if_pos h6] at hq
   have e:cntE 32 (c.Procs.len:Int)=1:=by unfold cntE;rw [if_pos (by rw [hlp,hlp2,h6];rfl)]
   rw [e,if_pos (by rfl)]
   exact hq k hlek
  rw [if_neg h6] at hq
  have hpp:0<p.procs.length:=List.length_pos_iff.2 h6
  by_cases h7:32<p.procs.length
  ·rw [if_pos h7] at hq
   have e:cntE 32 (c.Procs.len:Int)=3:=by unfold cntE;rw [if_neg (by omega),if_pos (by omega)]
   rw [e,if_pos (by rfl)]
   exact hq k hlek
  rw [if_neg h7] at hq
  have e:cntE 32 (c.Procs.len:Int)=0:=by unfold cntE;rw [if_neg (by omega),if_neg (by omega)]
  rw [e,if_neg (by simp)]
  refine LoopW1.intro (fun i k'=>k<=k'/\0<=i/\i<=(ps.length:Int)/\zvj p.labels.length p.locks (p.procs.drop i.toNat) i=zvj p.labels.length p.locks p.procs 0) (fun i _=>(ps.length-i).toNat) ⟨Hp.le_refl _,by omega,by omega,rfl⟩ ?_
  rintro i k' ⟨hle',h0,hi,he⟩
  have hlk:=Hp.le_trans hlek hle'
  by_cases h8:i<(ps.length:Int)
  ·rw [if_pos (decide_eq_true (by omega))]
   refine Rs.get (sh:=sh_api_Proc) (Rw.mono hlk hps) (fun _=>rfl) (by omega) h0 h8 fun q hx=> ?_
   obtain ⟨pp,hpp1,hq1,is,his,hmap⟩:=hall.get hx
   have hd:p.procs.drop i.toNat=pp::p.procs.drop (i.toNat+1):=by
    obtain ⟨hx1,hx2⟩:=List.getElem?_eq_some_iff.1 hpp1
    rw [<-hx2];exact List.drop_eq_getElem_cons hx1
   rw [hd,zvj] at he
   rw [wrap64 (n:=(p.labels.length:Int)-1) (by omega) (by omega)]
   refine zfc (zts ?_)
   rw [hq1]
   by_cases h9:zce pp.part 0 ((p.labels.length:Int)-1)=false
   ·rw [if_pos h9] at he
    rw [if_pos (by rw [h9];rfl),wrap64 (by omega) (by omega)]
    rw [<-he] at hq
    exact hq k' hlk
   rw [if_neg h9] at he
   rw [if_neg (by cases hw:zce pp.part 0 ((p.labels.length:Int)-1)<;>simp_all)]
   refine zkg1 (zvj1 (Rw.mono hlk his) fun k2 le2=> ?_)
   dsimp only
   rw [hmap,a.locks]
   by_cases h10:(codeP pp.code p.locks).1≠0
   ·rw [if_pos h10] at he
    rw [if_pos (by simpa using h10),wrap64 (by omega) (by omega)]
    rw [<-he] at hq
    exact hq k2 (Hp.le_trans hlk le2)
   ·rw [if_neg h10] at he
    rw [if_neg (by simpa using h10),wrap64 (by omega) (by omega)]
    refine ⟨⟨Hp.le_trans hle' le2,by omega,by omega,?_⟩,by omega⟩
    have:(i+1).toNat=i.toNat+1:=by omega
    rw [this];exact he
  ·rw [if_neg (fun e=>h8 (by have:=of_decide_eq_true e;omega))]
   rw [List.drop_eq_nil_of_le (by omega),zvj] at he
   rw [<-he] at hq
   exact hq k' hlk
def zyt (x:S_api_Waiter):zcw:=⟨x.Proc,x.Value_⟩
def zni (x:S_api_Entry):zvk:=⟨x.Tick,x.Proc,x.Value_⟩
abbrev WaitS (h:Hp) (l:Sl) (xs:List S_api_Waiter):Prop:=Rs h sh_api_Waiter 2 l xs
abbrev EntS (h:Hp) (l:Sl) (xs:List S_api_Entry):Prop:=Rs h sh_api_Entry 3 l xs
structure LaneAt (h:Hp) (x:S_api_Lane) (p:PLane):Prop where
 values:Is h x.Values p.values
 waiters:∃ws,WaitS h x.Waiters ws/\ws.map zyt=p.waiters
 taken:x.Taken=p.taken
 dropped:x.Dropped=p.dropped
structure ProcessAt (h:Hp) (x:S_api_Process) (p:PProcess):Prop where
 state:x.State=p.state
 pc:x.PC=p.pc
 regs: [x.Regs_0,x.Regs_1,x.Regs_2,x.Regs_3,x.Regs_4,x.Regs_5,x.Regs_6,x.Regs_7]=p.regs
 cursor:x.Cursor=p.cursor
 timer:x.Timer=p.timer
 fired:x.Fired=p.fired
 wake:x.Wake=p.wake
 lanes:∃ls,Rs h sh_api_Lane 4 x.Lanes ls/\All2 (LaneAt h) ls p.lanes
structure PartAt (h:Hp) (x:S_api_Part) (p:PPart):Prop where
 cursor:x.Cursor=p.cursor
 log:∃es,EntS h x.Log es/\es.map zni=p.log
 lost:x.Lost=p.lost
 forbidden:x.Forbidden=p.forbidden
 owners:Is h x.Owners p.owners
 queues:∃qs,Rs h shSl 1 x.Queues qs/\All2 (Is h) qs p.queues
structure StateAt (h:Hp) (x:S_api_State) (p:zcf):Prop where
 tick:x.Tick=p.tick
 parts:∃ps,Rs h sh_api_Part 6 x.Parts ps/\All2 (PartAt h) ps p.parts
 procs:∃ps,Rs h sh_api_Process 15 x.Procs ps/\All2 (ProcessAt h) ps p.procs
section
variable {h h':Hp}
theorem LaneAt.mono (hl:h<=h') {x:S_api_Lane} {p:PLane} (a:LaneAt h x p):LaneAt h' x p:=by
 obtain ⟨ws,h1,h2⟩:=a.waiters
 exact ⟨Rw.mono hl a.values,⟨ws,Rw.mono hl h1,h2⟩,a.taken,a.dropped⟩
theorem ProcessAt.mono (hl:h<=h') {x:S_api_Process} {p:PProcess} (a:ProcessAt h x p):ProcessAt h' x p:=by
 obtain ⟨ls,h1,h2⟩:=a.lanes
 exact ⟨a.state,a.pc,a.regs,a.cursor,a.timer,a.fired,a.wake,ls,Rw.mono hl h1,h2.imp fun _ _ e=>e.mono hl⟩
theorem PartAt.mono (hl:h<=h') {x:S_api_Part} {p:PPart} (a:PartAt h x p):PartAt h' x p:=by
 obtain ⟨es,h1,h2⟩:=a.log
 obtain ⟨qs,h3,h4⟩:=a.queues
 exact ⟨a.cursor,⟨es,Rw.mono hl h1,h2⟩,a.lost,a.forbidden,Rw.mono hl a.owners,qs,Rw.mono hl h3,h4.imp fun _ _ e=>Rw.mono hl e⟩
theorem StateAt.mono (hl:h<=h') {x:S_api_State} {p:zcf} (a:StateAt h x p):StateAt h' x p:=by
 obtain ⟨ps,h1,h2⟩:=a.parts
 obtain ⟨qs,h3,h4⟩:=a.procs
 exact ⟨a.tick,⟨ps,Rw.mono hl h1,h2.imp fun _ _ e=>e.mono hl⟩,qs,Rw.mono hl h3,h4.imp fun _ _ e=>e.mono hl⟩
end
section
variable {h:Hp} {a:S_machine_asked} {c:PCfg} {s:zcf}
end
theorem ldC {sh:Shape} {c:Bool} {h:Hp} {a:Addr} {K:sh.T->Prop} (x:sh.T) (hl:LdIs h a (zac (sh.enc x))) (hk:K x):LdW (some c) sh h a K:=⟨x,fun _=>hl,hk⟩
section
variable {h:Hp} {a:S_machine_asked} {c:PCfg} {s:zcf}
end
def LsO {α β:Type} (R:α->β->Hp->List Nat->Prop):List α->List β->Hp->List Nat->Prop
 | [],[],_,B=>B=[]
 | a::l,b::m,h,B=>∃B1 B2,B=B1++B2/\R a b h B1/\LsO R l m h B2
 | _,_,_,_=>False
structure AsOk {α β:Type} (R:α->β->Hp->List Nat->Prop):Prop where
 same:∀ {a b h h' B},R a b h B->(∀c∈B,h' c=h c)->R a b h' B
 known:∀ {a b h B},R a b h B->∀c∈B,h c≠none
section
variable {α β:Type} {R:α->β->Hp->List Nat->Prop} {h h':Hp}
theorem LsO.same (ok:AsOk R):∀ {l:List α} {m:List β} {B:List Nat},LsO R l m h B->(∀c∈B,h' c=h c)->LsO R l m h' B
 | [],[],_,o,_=>o
 | _::_,_::_,_,⟨B1,B2,e,o1,o2⟩,hs=>⟨B1,B2,e,ok.same o1 fun c hc=>hs c (by rw [e];exact List.mem_append_left _ hc),LsO.same ok o2 fun c hc=>hs c (by rw [e];exact List.mem_append_right _ hc)⟩
 | [],_::_,_,o,_=>o.elim
 | _::_,[],_,o,_=>o.elim
theorem LsO.known (ok:AsOk R):∀ {l:List α} {m:List β} {B:List Nat},LsO R l m h B->∀c∈B,h c≠none
 | [],[],_,o,c,hc=>by rw [show _=[] from o] at hc;cases hc
 | _::_,_::_,_,⟨B1,B2,e,o1,o2⟩,c,hc=>by
  rw [e] at hc
  rcases List.mem_append.1 hc with hc | hc
  ·exact ok.known o1 c hc
  ·exact LsO.known ok o2 c hc
 | [],_::_,_,o,_,_=>o.elim
 | _::_,[],_,o,_,_=>o.elim
theorem LsO.snoc {a:α} {b:β} {B':List Nat} (e:R a b h B'):∀ {l:List α} {m:List β} {B:List Nat},LsO R l m h B->LsO R (l++ [a]) (m++ [b]) h (B++B')
 | [],[],_,o=>by
  rw [show _=[] from o]
  exact ⟨B',[],by simp,e,rfl⟩
 | _::_,_::_,_,⟨B1,B2,e1,o1,o2⟩=>⟨B1,B2++B',by rw [e1,List.append_assoc],o1,LsO.snoc e o2⟩
 | [],_::_,_,o=>o.elim
 | _::_,[],_,o=>o.elim
theorem LsO.all2 {S:α->β->Prop} (hi:∀a b B,R a b h B->S a b):∀ {l:List α} {m:List β} {B:List Nat},LsO R l m h B->All2 S l m
 | [],[],_,_=>trivial
 | _::_,_::_,_,⟨B1,_,_,o1,o2⟩=>⟨hi _ _ B1 o1,LsO.all2 hi o2⟩
 | [],_::_,_,o=>o.elim
 | _::_,[],_,o=>o.elim
theorem OwnF.one {sz:Nat} {enc:α->List Value} {l:Sl} {xs:List α} {F:List Nat} (o:OwnF h sz enc l xs F):F=[]\/∃b,F=[b]:=by
 obtain ⟨_,_,o⟩:=o
 rcases o with ⟨_,_,e⟩ | ⟨b,_,_,e,_⟩
 ·exact .inl e
 ·exact .inr ⟨b,e⟩
theorem OwnF.nodup {sz:Nat} {enc:α->List Value} {l:Sl} {xs:List α} {F:List Nat} (o:OwnF h sz enc l xs F):F.Nodup:=by
 rcases o.one with e | ⟨b,e⟩<;>rw [e]<;>simp
end
def PureO {α β:Type} (S:α->β->Prop) (a:α) (b:β) (_:Hp) (B:List Nat):Prop:=B=[]/\S a b
theorem PureO.ok {α β:Type} (S:α->β->Prop):AsOk (PureO S):=⟨fun o _=>o,fun o c hc=>by rw [o.1] at hc;cases hc⟩
def RowsO {β:Type} (sh:Shape) (sz:Nat) (R:sh.T->β->Hp->List Nat->Prop) (l:Sl) (ps:List β) (h:Hp) (B:List Nat):Prop:=
 ∃(xs:List sh.T) (B1 B2:List Nat),B=B1++B2/\OwnF h sz (fun x=>zac (sh.enc x)) l xs B1/\LsO R xs ps h B2
section
variable {β:Type} {sh:Shape} {sz:Nat} {R:sh.T->β->Hp->List Nat->Prop} {l:Sl} {ps:List β} {h h':Hp} {B:List Nat}
theorem RowsO.nil :RowsO sh sz R ⟨none,0,0⟩ [] h []:=⟨[],[],[],rfl,⟨rfl,Nat.le_refl _,.inl ⟨rfl,rfl,rfl⟩⟩,rfl⟩
theorem RowsO.ok (ok:AsOk R):AsOk (RowsO sh sz R) where
 same:=by
  rintro a b h h' B ⟨xs,B1,B2,e,o1,o2⟩ hs
  exact ⟨xs,B1,B2,e,o1.same fun c hc=>hs c (by rw [e];exact List.mem_append_left _ hc),o2.same ok fun c hc=>hs c (by rw [e];exact List.mem_append_right _ hc)⟩
 known:=by
  rintro a b h B ⟨xs,B1,B2,e,o1,o2⟩ c hc
  rw [e] at hc
  rcases List.mem_append.1 hc with hc | hc
  ·exact o1.known c hc
  ·exact o2.known ok c hc
theorem RowsO.len (o:RowsO sh sz R l ps h B):l.len=ps.length:=by
 obtain ⟨xs,B1,B2,e,o1,o2⟩:=o
 have:=(o2.all2 (S:=fun _ _=>True) fun _ _ _ _=>trivial).len
 rw [<-this]
 exact o1.1
theorem RowsO.rows {S:sh.T->β->Prop} (henc:∀x,(zac (sh.enc x)).length=sz) (hi:∀a b B,R a b h B->S a b) (o:RowsO sh sz R l ps h B):∃xs,Rs h sh sz l xs/\All2 S xs ps:=by
 obtain ⟨xs,B1,B2,e,o1,o2⟩:=o
 exact ⟨xs,o1.rw henc,o2.all2 hi⟩
theorem zbq2 (ok:AsOk R) (o:RowsO sh sz R l ps h B) {v:sh.T} {p:β} {B':List Nat} (e:R v p h B') (nd:(B++B').Nodup) {x:Sl} (hx:Rs h sh sz x [v]) (henc:∀x,(zac (sh.enc x)).length=sz) (hok:∀x,zaw (zac (sh.enc x))=true)
  {zero:List Value} {bytes:Nat} (hz:zero.length=sz) (hb:ps.length+1<=140737488355328/\(ps.length+1)*bytes<=140737488355328) {K:Sl->Hp->Prop}
  (hk:∀l' h' B'',RowsO sh sz R l' (ps++ [p]) h' B''->B''.Nodup->(∀b ob,h b=some ob->b∉B->h' b=some ob)->(∀c∈B'',c∈B++B'\/h c=none)->K l' h'):zap sz bytes zero l x K h:=by
 have hlen:=o.len
 obtain ⟨xs,B1,B2,e1,o1,o2⟩:=o
 have hxl:xs.length=ps.length:=by rw [<-hlen];exact o1.1.symm
 have k2:=o2.known ok
 have k3:=ok.known e
 refine appF o1 hx henc hok hz (by rw [hxl];exact hb) fun l' h' F' o1' m=> ?_
 rw [e1] at nd
 have nd2:=nd
 rw [List.append_assoc,List.nodup_append] at nd
 obtain ⟨nd1,nd3,nd4⟩:=nd
 have d2:∀c∈B2++B',c∉B1:=fun c hc hb=>nd4 c hb c hc rfl
 have kk:∀c∈B2++B',h c≠none:=fun c hc=>by
  rcases List.mem_append.1 hc with hc | hc
  ·exact k2 c hc
  ·exact k3 c hc
 have hs:∀c∈B2++B',h' c=h c:=zpf1 m kk d2
 have o2':=(o2.same ok fun c hc=>hs c (List.mem_append_left _ hc)).snoc (ok.same e fun c hc=>hs c (List.mem_append_right _ hc))
 have hf:∀c∈F'++(B2++B'),c∈B++B'\/h c=none:=fun c hc=>by
  rcases List.mem_append.1 hc with hc | hc
  ·rcases m.from_ c hc with hc | hc
   ·exact .inl (by rw [e1];simp [hc])
   ·exact .inr hc
  ·refine .inl ?_
   rw [e1,List.append_assoc]
   exact List.mem_append_right _ hc
 refine hk l' h' (F'++(B2++B')) ⟨xs++ [v],F',B2++B',rfl,o1',o2'⟩ ?_ (fun b ob hb hn=>m.keep b ob hb fun hb1=>hn (by rw [e1];simp [hb1])) hf
 rw [List.nodup_append]
 refine ⟨o1'.nodup,nd3,fun a ha b hb hab=> ?_⟩
 subst hab
 rcases m.from_ a ha with hc | hc
 ·exact d2 a hb hc
 ·exact kk a hb hc
end
abbrev IsO (l:Sl) (xs:List Int) (h:Hp) (B:List Nat):Prop:=RowsO (shInt .i64) 1 (PureO Eq) l xs h B
abbrev UsO (l:Sl) (xs:List Int) (h:Hp) (B:List Nat):Prop:=RowsO (shInt .u64) 1 (PureO Eq) l xs h B
abbrev InsO (l:Sl) (xs:List PIns) (h:Hp) (B:List Nat):Prop:=RowsO sh_api_Ins 5 (PureO fun x p=>insOf x=p) l xs h B
def ProcO (q:S_api_Proc) (p:PProc) (h:Hp) (B:List Nat):Prop:=q.Part=p.part/\InsO q.Code p.code h B
abbrev zdq2 (l:Sl) (ps:List PProc) (h:Hp) (B:List Nat):Prop:=RowsO sh_api_Proc 2 ProcO l ps h B
def LaneO (x:S_api_Lane) (p:PLane) (h:Hp) (B:List Nat):Prop:=
 ∃B1 B2,B=B1++B2/\IsO x.Values p.values h B1/\RowsO sh_api_Waiter 2 (PureO fun x p=>zyt x=p) x.Waiters p.waiters h B2/\x.Taken=p.taken/\x.Dropped=p.dropped
def ProcessO (x:S_api_Process) (p:PProcess) (h:Hp) (B:List Nat):Prop:=
 RowsO sh_api_Lane 4 LaneO x.Lanes p.lanes h B/\x.State=p.state/\x.PC=p.pc/\ [x.Regs_0,x.Regs_1,x.Regs_2,x.Regs_3,x.Regs_4,x.Regs_5,x.Regs_6,x.Regs_7]=p.regs/\x.Cursor=p.cursor/\x.Timer=p.timer/\x.Fired=p.fired/\x.Wake=p.wake
def PartO (x:S_api_Part) (p:PPart) (h:Hp) (B:List Nat):Prop:=
 ∃B1 B2 B3,B=B1++(B2++B3)/\RowsO sh_api_Entry 3 (PureO fun x p=>zni x=p) x.Log p.log h B1/\IsO x.Owners p.owners h B2/\RowsO shSl 1 IsO x.Queues p.queues h B3/\x.Cursor=p.cursor/\x.Lost=p.lost/\x.Forbidden=p.forbidden
def StateO (x:S_api_State) (p:zcf) (h:Hp) (B:List Nat):Prop:=
 ∃B1 B2,B=B1++B2/\RowsO sh_api_Part 6 PartO x.Parts p.parts h B1/\RowsO sh_api_Process 15 ProcessO x.Procs p.procs h B2/\x.Tick=p.tick
def CfgO (x:S_api_Config) (c:PCfg) (h:Hp) (B:List Nat):Prop:=
 ∃B1 B2 B3,B=B1++(B2++B3)/\UsO x.Labels c.labels h B1/\IsO x.Table c.table h B2/\zdq2 x.Procs c.procs h B3/\x.Fuel=c.fuel/\x.Lane=c.lane/\x.Locks=c.locks/\x.Log=c.log
theorem okIs :AsOk IsO:=RowsO.ok (PureO.ok _)
theorem okUs :AsOk UsO:=RowsO.ok (PureO.ok _)
theorem okIns :AsOk InsO:=RowsO.ok (PureO.ok _)
theorem znb1 :AsOk ProcO:=⟨fun o hs=>⟨o.1,okIns.same o.2 hs⟩,fun o=>okIns.known o.2⟩
theorem okProcs :AsOk zdq2:=RowsO.ok znb1
theorem mem_a {B1 B2:List Nat} {c:Nat} (h:c∈B1):c∈B1++B2:=List.mem_append_left _ h
theorem mem_b {B1 B2:List Nat} {c:Nat} (h:c∈B2):c∈B1++B2:=List.mem_append_right _ h
theorem zfl1 :AsOk LaneO where
 same:=by
  rintro a b h h' B ⟨B1,B2,rfl,o1,o2,o3⟩ hs
  exact ⟨B1,B2,rfl,okIs.same o1 fun c hc=>hs c (mem_a hc),(RowsO.ok (PureO.ok _)).same o2 fun c hc=>hs c (mem_b hc),o3⟩
 known:=by
  rintro a b h B ⟨B1,B2,rfl,o1,o2,o3⟩ c hc
  rcases List.mem_append.1 hc with hc | hc
  ·exact okIs.known o1 c hc
  ·exact (RowsO.ok (PureO.ok _)).known o2 c hc
theorem ztt :AsOk ProcessO:=⟨fun o hs=>⟨(RowsO.ok zfl1).same o.1 hs,o.2⟩,fun o=>(RowsO.ok zfl1).known o.1⟩
theorem znc1 :AsOk PartO where
 same:=by
  rintro a b h h' B ⟨B1,B2,B3,rfl,o1,o2,o3,o4⟩ hs
  exact ⟨B1,B2,B3,rfl,(RowsO.ok (PureO.ok _)).same o1 fun c hc=>hs c (mem_a hc),okIs.same o2 fun c hc=>hs c (mem_b (mem_a hc)),(RowsO.ok okIs).same o3 fun c hc=>hs c (mem_b (mem_b hc)),o4⟩
 known:=by
  rintro a b h B ⟨B1,B2,B3,rfl,o1,o2,o3,o4⟩ c hc
  rcases List.mem_append.1 hc with hc | hc
  ·exact (RowsO.ok (PureO.ok _)).known o1 c hc
  ·rcases List.mem_append.1 hc with hc | hc
   ·exact okIs.known o2 c hc
   ·exact (RowsO.ok okIs).known o3 c hc
theorem zel2 :AsOk StateO where
 same:=by
  rintro a b h h' B ⟨B1,B2,rfl,o1,o2,o3⟩ hs
  exact ⟨B1,B2,rfl,(RowsO.ok znc1).same o1 fun c hc=>hs c (mem_a hc),(RowsO.ok ztt).same o2 fun c hc=>hs c (mem_b hc),o3⟩
 known:=by
  rintro a b h B ⟨B1,B2,rfl,o1,o2,o3⟩ c hc
  rcases List.mem_append.1 hc with hc | hc
  ·exact (RowsO.ok znc1).known o1 c hc
  ·exact (RowsO.ok ztt).known o2 c hc
theorem okCfg :AsOk CfgO where
 same:=by
  rintro a b h h' B ⟨B1,B2,B3,rfl,o1,o2,o3,o4⟩ hs
  exact ⟨B1,B2,B3,rfl,okUs.same o1 fun c hc=>hs c (mem_a hc),okIs.same o2 fun c hc=>hs c (mem_b (mem_a hc)),okProcs.same o3 fun c hc=>hs c (mem_b (mem_b hc)),o4⟩
 known:=by
  rintro a b h B ⟨B1,B2,B3,rfl,o1,o2,o3,o4⟩ c hc
  rcases List.mem_append.1 hc with hc | hc
  ·exact okUs.known o1 c hc
  ·rcases List.mem_append.1 hc with hc | hc
   ·exact okIs.known o2 c hc
   ·exact okProcs.known o3 c hc
theorem zqj1 {α:Type}:∀ {l m:List α},All2 Eq l m->l=m
 | [],[],_=>rfl
 | _::_,_::_,h=>by rw [h.1,zqj1 h.2]
 | [],_::_,h=>h.elim
 | _::_,[],h=>h.elim
theorem zcs1 {α β:Type} {f:α->β}:∀ {l:List α} {m:List β},All2 (fun x p=>f x=p) l m->l.map f=m
 | [],[],_=>rfl
 | _::_,_::_,h=>by rw [List.map_cons,h.1,zcs1 h.2]
 | [],_::_,h=>h.elim
 | _::_,[],h=>h.elim
section
variable {h:Hp} {B:List Nat}
theorem IsO.rd {l:Sl} {xs:List Int} (o:IsO l xs h B):Is h l xs:=by
 obtain ⟨ys,h1,h2⟩:=RowsO.rows (S:=Eq) (fun _=>rfl) (fun a b B o=>o.2) o
 rw [<-zqj1 h2];exact h1
theorem UsO.rd {l:Sl} {xs:List Int} (o:UsO l xs h B):Us h l xs:=by
 obtain ⟨ys,h1,h2⟩:=RowsO.rows (S:=Eq) (fun _=>rfl) (fun a b B o=>o.2) o
 rw [<-zqj1 h2];exact h1
theorem ProcO.rd {q:S_api_Proc} {p:PProc} (o:ProcO q p h B):ProcAt h q p:=by
 obtain ⟨e,o⟩:=o
 obtain ⟨ys,h1,h2⟩:=RowsO.rows (S:=fun x p=>insOf x=p) (fun _=>rfl) (fun a b B o=>o.2) o
 exact ⟨e,ys,h1,zcs1 h2⟩
theorem CfgO.rd {x:S_api_Config} {c:PCfg} (o:CfgO x c h B):CfgAt h x c:=by
 obtain ⟨B1,B2,B3,_,o1,o2,o3,f1,f2,f3,f4⟩:=o
 exact ⟨o1.rd,o2.rd,f1,f2,f3,f4,RowsO.rows (fun _=>rfl) (fun a b B o=>o.rd) o3⟩
theorem LaneO.rd {x:S_api_Lane} {p:PLane} (o:LaneO x p h B):LaneAt h x p:=by
 obtain ⟨B1,B2,_,o1,o2,f1,f2⟩:=o
 obtain ⟨ys,h1,h2⟩:=RowsO.rows (S:=fun x p=>zyt x=p) (fun _=>rfl) (fun a b B o=>o.2) o2
 exact ⟨o1.rd,⟨ys,h1,zcs1 h2⟩,f1,f2⟩
theorem ProcessO.rd {x:S_api_Process} {p:PProcess} (o:ProcessO x p h B):ProcessAt h x p:=by
 obtain ⟨o1,f1,f2,f3,f4,f5,f6,f7⟩:=o
 exact ⟨f1,f2,f3,f4,f5,f6,f7,RowsO.rows (fun _=>rfl) (fun a b B o=>o.rd) o1⟩
theorem PartO.rd {x:S_api_Part} {p:PPart} (o:PartO x p h B):PartAt h x p:=by
 obtain ⟨B1,B2,B3,_,o1,o2,o3,f1,f2,f3⟩:=o
 obtain ⟨ys,h1,h2⟩:=RowsO.rows (S:=fun x p=>zni x=p) (fun _=>rfl) (fun a b B o=>o.2) o1
 exact ⟨f1,⟨ys,h1,zcs1 h2⟩,f2,f3,o2.rd,RowsO.rows (fun _=>rfl) (fun a b B o=>IsO.rd o) o3⟩
theorem StateO.rd {x:S_api_State} {p:zcf} (o:StateO x p h B):StateAt h x p:=by
 obtain ⟨B1,B2,_,o1,o2,f1⟩:=o
 exact ⟨f1,RowsO.rows (fun _=>rfl) (fun a b B o=>o.rd) o1,RowsO.rows (fun _=>rfl) (fun a b B o=>o.rd) o2⟩
end
def AsA {α β:Type} {R:α->β->Hp->List Nat->Prop} (ok:AsOk R) (v:α) (p:β):Asn where
 R k F:=∃B,R v p k B/\B.Nodup/\∀b,F b↔b∈B
 same:=fun ⟨B,h,n,e⟩ hs=>⟨B,ok.same h fun c hc=>hs c ((e c).2 hc),n,e⟩
 known:=fun ⟨B,h,n,e⟩ c hc=>ok.known h c ((e c).1 hc)
def OwnA {α:Type} (sz:Nat) (enc:α->List Value) (l:Sl) (xs:List α):Asn where
 R k F:=∃B,OwnF k sz enc l xs B/\∀b,F b↔b∈B
 same:=fun ⟨B,h,e⟩ hs=>⟨B,h.same fun c hc=>hs c ((e c).2 hc),e⟩
 known:=fun ⟨B,h,e⟩ c hc=>h.known c ((e c).1 hc)
section
variable {h0 k:Hp} {α β:Type} {R:α->β->Hp->List Nat->Prop} {ok:AsOk R}
theorem Has.as_ {v:α} {p:β} (o:Has h0 (AsA ok v p) k):∃B,R v p k B/\B.Nodup/\∀b∈B,h0 b=none:=by
 obtain ⟨_,F,⟨B,h,n,e⟩,hf⟩:=o
 exact ⟨B,h,n,fun b hb=>hf b ((e b).2 hb)⟩
theorem Has.ofAs {v:α} {p:β} {B:List Nat} (hl:h0<=k) (h:R v p k B) (n:B.Nodup) (hf:∀b∈B,h0 b=none):Has h0 (AsA ok v p) k:=⟨hl,(· ∈B),⟨B,h,n,fun _=>Iff.rfl⟩,hf⟩
theorem Has.ownSl {sz:Nat} {enc:α->List Value} {l:Sl} {xs:List α} (o:Has h0 (OwnA sz enc l xs) k):Has h0 (SlA sz enc l xs) k:=by
 obtain ⟨hl,F,⟨B,h,e⟩,hf⟩:=o
 exact Has.ofOwnF h hl fun b hb=>hf b ((e b).2 hb)
theorem zkt1 {γ δ:Type} {S:γ->δ->Prop} {h:Hp}:∀ {l:List γ} {m:List δ},All2 S l m->LsO (PureO S) l m h []
 | [],[],_=>rfl
 | _::_,_::_,a=>⟨[],[],rfl,⟨rfl,a.1⟩,zkt1 a.2⟩
 | [],_::_,a=>a.elim
 | _::_,[],a=>a.elim
theorem Has.two {α' β':Type} {R':α'->β'->Hp->List Nat->Prop} {ok':AsOk R'} {v:α} {p:β} {v':α'} {p':β'} (o:Has h0 ((AsA ok v p).star (AsA ok' v' p')) k):
  ∃B B',R v p k B/\R' v' p' k B'/\(B++B').Nodup/\∀b∈B++B',h0 b=none:=by
 obtain ⟨_,F,⟨F1,F2,e,d,⟨B,a,n,ea⟩,⟨B',b,n',eb⟩⟩,hf⟩:=o
 refine ⟨B,B',a,b,List.nodup_append.2 ⟨n,n',fun x hx y hy e'=>d x ((ea x).2 hx) ((eb x).2 (e'▸hy))⟩,fun x hx=>hf x ((e x).2 ?_)⟩
 rcases List.mem_append.1 hx with hx | hx
 ·exact .inl ((ea x).2 hx)
 ·exact .inr ((eb x).2 hx)
theorem Has.row {γ:Type} {sh:Shape} {sz:Nat} {Q:sh.T->γ->Hp->List Nat->Prop} {okQ:AsOk Q} {l:Sl} {ps:List γ} {v:sh.T} {p:γ} {cs zero:List Value} {bytes:Nat} {K:Sl->Hp->Prop} (o:Has h0 ((AsA (RowsO.ok (sh:=sh) (sz:=sz) okQ) l ps).star (AsA okQ v p)) k)
  (hcs:cs=zac (sh.enc v)) (henc:∀x,(zac (sh.enc x)).length=sz) (hok:∀x,zaw (zac (sh.enc x))=true) (hz:zero.length=sz) (hb:ps.length+1<=140737488355328/\(ps.length+1)*bytes<=140737488355328)
  (hk:∀l' k',Has h0 (AsA (RowsO.ok (sh:=sh) (sz:=sz) okQ) l' (ps++ [p])) k'->K l' k'):NewW cs (fun a k1=>zap sz bytes zero l ⟨some a,1,1⟩ K k1) k:=by
 refine newSl (xs:=[v]) (sz:=sz) (enc:=fun x=>zac (sh.enc x)) (by rw [hcs];simp) henc fun a k1 hl1 n=> ?_
 have o:=o.grow hl1
 obtain ⟨B,B',r,e,nd,hf⟩:=o.two
 refine zbq2 okQ r e nd (n.srw henc) henc hok hz hb fun l' k' B'' r' nd' hkeep hfrom=> ?_
 refine hk l' k' (Has.ofAs (fun b ob eb=>hkeep b ob (o.1 b ob eb) fun hb=> ?_) r' nd' fun c hc=> ?_)
 ·rw [hf b (List.mem_append_left _ hb)] at eb;cases eb
 ·rcases hfrom c hc with h | h
  ·exact hf c h
  ·exact zct o.1 h
theorem Has.noRows {γ:Type} {sh:Shape} {sz:Nat} {Q:sh.T->γ->Hp->List Nat->Prop} {okQ:AsOk Q} (hl:h0<=k):Has h0 (AsA (RowsO.ok (sh:=sh) (sz:=sz) okQ) (⟨none,0,0⟩:Sl) ([]:List γ)) k:=
 Has.ofAs hl RowsO.nil .nil fun _ h=>by cases h
theorem Has.pureRows {γ:Type} {sh:Shape} {sz:Nat} {enc:γ->List Value} {S:sh.T->γ->Prop} {f:γ->sh.T} {l:Sl} {ps:List γ} (o:Has h0 (OwnA sz enc l ps) k) (he:∀x,enc x=zac (sh.enc (f x))) (hS:∀x,S (f x) x):
  Has h0 (AsA (RowsO.ok (sh:=sh) (sz:=sz) (PureO.ok S)) l ps) k:=by
 obtain ⟨hl,F,⟨B,⟨h1,h2,h3⟩,e⟩,hf⟩:=o
 have hfm:ps.flatMap enc=(ps.map f).flatMap fun x=>zac (sh.enc x):=by
  rw [List.flatMap_map]
  congr 1
  exact funext he
 have hA:∀m:List γ,All2 S (m.map f) m:=fun m=>by
  induction m with
  | nil=>trivial
  | cons a m ih=>exact ⟨hS a,ih⟩
 have hown:OwnF k sz (fun x=>zac (sh.enc x)) l (ps.map f) B:=⟨by rw [List.length_map];exact h1,h2,by rw [<-hfm];exact h3⟩
 refine Has.ofAs hl ⟨ps.map f,B,[],by simp,hown,zkt1 (hA ps)⟩ hown.nodup fun b hb=>hf b ((e b).2 hb)
theorem zhl {P:Program} {sz:Nat} {enc:α->List Value} {s:Sl} {xs:List α} {tS tE bytes:Nat} {zero:List Value} {x y:Operand} {Q:Sl->Hp->Prop} (hu:P.underlying tS=some (.slice tE)) (r:Rw k sz enc s xs) (hsz:0<sz) (henc:∀x,(enc x).length=sz) (hok:∀x,zaw (enc x)=true) (hz:zero.length=sz)
  (hb:xs.length<=140737488355328/\xs.length*bytes<=140737488355328) (hk:∀l' k',k<=k'->Has k (OwnA sz enc l' xs) k'->Q l' k'):
  SemV none P (binS .eql tS x y s.v (.slice none 0 0)) zae k fun x=>(if x=true then Q ⟨none,0,0⟩ k else NewW [] (fun a h1=>zap sz bytes zero ⟨(some a),0,0⟩ s (fun r h2=>Q r h2) h1) k):=by
 refine ⟨s.base.isNone,zqg hu s,?_⟩
 cases hb0:s.base with
 | none=>
  rw [if_pos (show (none:Option Addr).isNone=true from rfl)]
  have:xs=[]:=by
   rcases r.2.2 with e | ⟨a,ha,_⟩
   ·exact List.length_eq_zero_iff.1 ((Nat.mul_eq_zero.1 e).resolve_right (by omega))
   ·rw [hb0] at ha;cases ha
  subst this
  exact hk _ k (Hp.le_refl k) ⟨Hp.le_refl k,fun _=>False,⟨[],⟨rfl,Nat.le_refl _,.inl ⟨rfl,rfl,rfl⟩⟩,fun b=>by simp⟩,fun _ h=>h.elim⟩
 | some a=>
  rw [if_neg (by simp)]
  refine newF (xs:=([]:List α)) (enc:=enc) (sz:=sz) rfl henc fun b k1 hb1 hl1 m1 o1=> ?_
  refine appF o1 (Rw.mono hl1 r) henc hok hz (by simpa using hb) fun l' k' F' o m=> ?_
  have ml:=m.le (h0:=k) hl1 fun c hc=>by rw [List.mem_singleton.1 hc];exact hb1
  exact hk l' k' ml.1 ⟨ml.1,(· ∈F'),⟨F',by simpa using o,fun _=>Iff.rfl⟩,ml.2⟩
end
abbrev VRow (l:Sl) (xs:List Int):Asn:=AsA okIs l xs
abbrev WRow (l:Sl) (xs:List zcw):Asn:=AsA (RowsO.ok (sh:=sh_api_Waiter) (sz:=2) (PureO.ok fun x p=>zyt x=p)) l xs
section
variable {h0 k:Hp} {q:Addr} {room:Int} {l:PLane}
theorem znd1 {Q:S_api_Lane->Hp->Prop} (o:Has h0 (LaneA q room l) k) (hv:l.values.length<=100) (hw:l.waiters.length<=100) (hq:∀r k',Has h0 ((LaneA q room l).star (AsA zfl1 r l)) k'->Q r k'):zke prog (some q) Q k:=by
 unfold zke
 obtain ⟨x,e1,e2,e3,o⟩:=o.laneX
 refine zaa (o.left.ld (shf:=shSl) x.values rfl ?_)
 refine zaa (o.left.ld (shf:=shSl) x.waiters rfl ?_)
 refine zaa (o.left.ld (shf:=shInt .i64) x.taken rfl ?_)
 refine zaa (o.left.ld (shf:=shInt .i64) x.dropped rfl ?_)
 refine zff ?_
 unfold zdk
 refine zhl (tb_ok.und 141 ty141 rfl) (o.right.left.srw (fun _=>rfl)) (by decide) (fun _=>rfl) (fun _=>rfl) rfl ⟨by omega,by omega⟩ fun vl k1 hl1 n1=> ?_
 have o1:=o.grow hl1
 refine ⟨⟨o1.left.ldis (n:=1) rfl,o1.left.ldis (n:=1) rfl,o1.left.ldis (n:=1) rfl,trivial⟩,?_⟩
 refine zcr ?_
 unfold zbk
 refine zhl (tb_ok.und 142 ty142 rfl) (o1.right.right.srw (fun _=>rfl)) (by decide) (fun _=>rfl) (fun _=>rfl) rfl ⟨by omega,by omega⟩ fun wl k2 hl2 n2=> ?_
 have o2:=o1.grow hl2
 refine ⟨⟨o2.left.ldis (n:=1) rfl,o2.left.ldis (n:=1) rfl,trivial⟩,?_⟩
 refine hq _ k2 ?_
 have b1:Has k (VRow vl l.values) k1:=n1.pureRows (f:=fun x=>x) (fun _=>rfl) fun _=>rfl
 have b2:Has k1 (WRow wl l.waiters) k2:=n2.pureRows (f:=toW) (fun _=>rfl) fun _=>rfl
 have both:=b1.beside b2
 have lane:Has k (AsA zfl1 (⟨vl,wl,x.taken,x.dropped⟩:S_api_Lane) l) k2:=by
  obtain ⟨B,B',r,e,nd,hf⟩:=both.two
  exact Has.ofAs both.le ⟨B,B',rfl,r,e,e2,e3⟩ nd hf
 exact (Has.ofLane o e1 e2 e3).beside lane
end
section
variable {h0 k:Hp} {q:Addr} {room:Int} {l:PLane}
theorem zbr2 {s:Sl} {ws:List zcw} {Q:Bool->Hp->Prop} (r:Rw k 2 eW s ws) (hl:ws.length<=1000000) (hn:(ws.map (·.proc)).Nodup) (hq:∀k',k<=k'->Q false k'):ztl prog s Q k:=by
 unfold ztl
 have hlen:=r.1
 intro m hm
 have hle:k<=k.set m (.map #[] 0):=zcv hm
 refine LoopW1.intro (fun i k'=>k<=k'/\0<=i/\i<=(ws.length:Int)/\∃kvs:List (Int×Int),MapKv k' m .i64 (shInt .i64).enc kvs/\(∀a,kget a kvs≠none->a∈(ws.take i.toNat).map (·.proc))) (fun i _=>(ws.length-i).toNat)
  ⟨hle,by omega,by omega,[],⟨[],0,zbx,rfl⟩,fun a h=>absurd rfl h⟩ ?_
 rintro i k' ⟨hk,i0,i1,kvs,hmap,hks⟩
 by_cases h3:i<(ws.length:Int)
 ·rw [if_pos (decide_eq_true (by omega))]
  have rs:Rs k' sh_api_Waiter 2 s (ws.map toW):=(r.mono hk).map (enc:=fun x=>zac (sh_api_Waiter.enc x))
  refine rs.get (fun _=>rfl) (by omega) i0 (by rw [List.length_map];exact h3) fun (x:S_api_Waiter) hx=> ?_
  rw [List.getElem?_map] at hx
  cases hw:ws[i.toNat]? with
  | none=>rw [hw] at hx;cases hx
  | some w=>
   rw [hw] at hx
   have hx:x=toW w:=by simpa using hx.symm
   subst hx
   have hnew:kget w.proc kvs=none:=by
    cases e:kget w.proc kvs with
    | none=>rfl
    | some v=>
     have h1:=hks w.proc (by rw [e];simp)
     obtain ⟨h2,h4⟩:=List.getElem?_eq_some_iff.1 hw
     have h5:(ws.map (·.proc))=(ws.take i.toNat).map (·.proc)++(w.proc::(ws.drop (i.toNat+1)).map (·.proc)):=by
      have:ws=ws.take i.toNat++w::ws.drop (i.toNat+1):=by rw [<-h4,<-List.drop_eq_getElem_cons h2,List.take_append_drop]
      conv=>lhs;rw [this]
      simp
     rw [h5] at hn
     exact absurd rfl ((List.nodup_append.1 hn).2.2 _ h1 _ (List.mem_cons_self ..))
   refine zcr1 (sh:=shInt .i64) (z:=(0:Int)) hmap rfl (fun _=> ?_) fun v hv=>by rw [show (toW w).Proc=w.proc from rfl,hnew] at hv;cases hv
   rw [wrap64 (by omega) (by omega)]
   refine zmu1 (ev:=(shInt .i64).enc) (v:=(1:Int)) hmap fun o hoc hm2=> ?_
   have hmk:k m=none:=hm
   have hk2:k<=k'.set m o:=zsl1 hk hmk
   have hget:kget w.proc (kset w.proc (1:Int) kvs)=some 1:=by rw [zcq1,if_pos rfl]
   refine zcr1 (sh:=shInt .i64) (z:=(0:Int)) hm2 rfl (fun hv=>by rw [show (toW w).Proc=w.proc from rfl,hget] at hv;cases hv) fun v hv=> ?_
   have hv1:v=1:=by rw [show (toW w).Proc=w.proc from rfl,hget] at hv;exact (Option.some.inj hv).symm
   subst hv1
   dsimp only
   rw [if_neg (by decide),wrap64 (by omega) (by omega)]
   refine ⟨⟨hk2,by omega,by omega,_,hm2,fun a ha=> ?_⟩,by omega⟩
   have e1:(i+1).toNat=i.toNat+1:=by omega
   rw [e1,List.take_add_one,hw]
   rw [zcq1] at ha
   by_cases e:a=(toW w).Proc
   ·rw [e]
    simp [toW]
   ·rw [if_neg e] at ha
    have:=hks a ha
    simp only [List.map_append,List.mem_append]
    exact .inl this
 ·rw [if_neg (fun e=>h3 (by have:=of_decide_eq_true e;omega))]
  exact hq k' hk
theorem zem2 {Q:Option Addr->Int->Hp->Prop} (h1:1<=room/\room<=64) (hq:∀p k',k<=k'->Has k (RecA zgg p ⟨room,⟨none,0,0⟩,⟨none,0,0⟩,0,0⟩) k'->Q (some p) 0 k'):zzs prog room Q k:=by
 unfold zzs
 refine zlq ?_
 unfold zlz
 refine letW ?_
 rw [show (decide (room>=1)&&decide (room<=64))=true by simp;omega]
 dsimp only
 rw [if_neg (by decide)]
 exact zdy1 (sh:=zgg) ⟨room,⟨none,0,0⟩,⟨none,0,0⟩,0,0⟩ rfl fun p k' hl o=>hq p k' hl o
structure LnV (room:Int) (l:PLane):Prop where
 len:(l.values.length:Int)<=room
 full:l.waiters≠ []->(l.values.length:Int)=room
 taken:Cnt l.taken
 dropped:Cnt l.dropped
 once:(l.waiters.map (·.proc)).Nodup
 few:l.waiters.length<=100
theorem zsu1 {n:Int} {Q:Bool->Hp->Prop} (h:Cnt n) (hq:Q true k):zlz prog n 0 65535 Q k:=by
 unfold zlz
 refine letW ?_
 have:(decide (n>=0)&&decide (n<=65535))=true:=by unfold Cnt at h;simp;omega
 rw [this]
 exact hq
theorem zen2 {x:S_api_Lane} {Q:Option Addr->Int->Hp->Prop} (h1:1<=room/\room<=64) (a:LaneAt k x l) (v:LnV room l) (hq:∀p k',k<=k'->Has k (LaneA p room l) k'->Q (some p) 0 k'):zzp prog room x Q k:=by
 unfold zzp
 refine zkl1 (zem2 h1 fun p k1 hl1 o1=> ?_)
 have hv:=a.values.1
 obtain ⟨ws,hws,hwm⟩:=a.waiters
 have hwl:ws.length=l.waiters.length:=by rw [<-hwm,List.length_map]
 have hw:=hws.1
 have hlen:=v.len
 have hfew:=v.few
 rw [if_neg (by decide)]
 have e1:(decide (((x.Waiters.len:Nat):Int)>(0:Int))&&decide (((x.Values.len:Nat):Int)<room))=false:=by
  by_cases e:l.waiters=[]
  ·have:x.Waiters.len=0:=by rw [hw,hwl,e];rfl
   simp [this]
  ·have:=v.full e
   simp
   intro _
   omega
 refine letW (letW ?_)
 rw [e1,Bool.or_false,show decide (((x.Values.len:Nat):Int)>room)=false by simp;omega]
 refine ⟨fun _=>zlq (zsu1 (by rw [a.taken];exact v.taken) ?_),fun e=>by cases e⟩
 refine letW ⟨fun _=>zlq (zsu1 (by rw [a.dropped];exact v.dropped) ?_),fun e=>by cases e⟩
 refine letW ⟨fun _=>zfi1 ?_,fun e=>by cases e⟩
 have hrw:Rw k1 2 eW x.Waiters l.waiters:=by
  have h2:Rw k1 2 (fun x=>zac (sh_api_Waiter.enc x)) x.Waiters ws:=Rw.mono hl1 hws
  obtain ⟨g1,g2⟩:=h2
  refine ⟨by rw [g1,hwl],?_⟩
  rw [<-hwl,<-hwm,List.flatMap_map]
  exact g2
 refine zbr2 hrw (by omega) v.once fun k2 hl2=> ?_
 refine letW ?_
 rw [if_neg (by decide)]
 refine zff ?_
 unfold zdk
 have hb:=h1.2
 refine zmg1 (tb_ok.und 141 ty141 rfl) (xs:=l.values) (enc:=eNum) (Rw.mono (Hp.le_trans hl1 hl2) a.values) (by decide) (fun _=>rfl) (fun _=>rfl) rfl ⟨by omega,by omega⟩ fun vl k3 hl3 n1=> ?_
 refine ⟨⟨trivial,trivial⟩,?_⟩
 refine zcr ?_
 unfold zbk
 refine zmg1 (tb_ok.und 142 ty142 rfl) (xs:=l.waiters) (Rw.mono (Hp.le_trans hl2 hl3) hrw) (by decide) (fun _=>rfl) (fun _=>rfl) rfl ⟨by omega,by omega⟩ fun wl k4 hl4 n2=> ?_
 have o:=(o1.grow (Hp.le_trans hl2 (Hp.le_trans hl3 hl4)))
 have o:Has k ((RecA zgg p ⟨room,⟨none,0,0⟩,⟨none,0,0⟩,0,0⟩).star ((SlA 1 eNum vl l.values).star (SlA 2 eW wl l.waiters))) k4:=(o1.grow hl2).grow (Hp.le_refl _) |>.beside (n1.beside n2)
 obtain ⟨hh,_,o2,put⟩:=o.f1
 refine zaa (o2.st (⟨room,vl,⟨none,0,0⟩,0,0⟩:S_lane_Lane) (show (2:Nat)<=5 by decide) rfl fun k5 o3=> ?_)
 refine zaa (o3.st (⟨room,vl,wl,0,0⟩:S_lane_Lane) (show (3:Nat)<=5 by decide) rfl fun k6 o4=> ?_)
 refine zaa (o4.st (⟨room,vl,wl,x.Taken,0⟩:S_lane_Lane) (show (4:Nat)<=5 by decide) rfl fun k7 o5=> ?_)
 refine ⟨⟨trivial,trivial⟩,?_⟩
 refine zaa (o5.st (⟨room,vl,wl,x.Taken,x.Dropped⟩:S_lane_Lane) (show (5:Nat)<=5 by decide) rfl fun k8 o6=> ?_)
 have oo:=put _ _ o6
 exact hq p k8 oo.le (Has.ofLane oo rfl a.taken a.dropped)
end
abbrev eP :Addr->List Value:=fun a=> [.pointer (some a)]
def a0 :Addr:=⟨0,0,none⟩
def laneZ :PLane:=⟨[],[],0,0⟩
def zne1 (ptrs:List Addr) (room:Int) (ls:List PLane):Asn:=Asn.first (fun i=>LaneA (ptrs.getD i a0) room (ls.getD i laneZ)) ls.length
def PostB (p:Addr) (x:S_post_Post) (ptrs:List Addr) (room:Int) (ls:List PLane):Asn:=(RecA zny p x).star ((SlA 1 eP x.lanes ptrs).star (zne1 ptrs room ls))
def PostA (p:Addr) (room:Int) (ls:List PLane) (cursor:Int):Asn:=
 .some_ fun x:S_post_Post=>.some_ fun ptrs:List Addr=>(PostB p x ptrs room ls).star (.fact (x.cursor=cursor/\ptrs.length=ls.length))
section
variable {h0 k:Hp} {p:Addr} {room cursor:Int} {ls:List PLane} {x:S_post_Post} {ptrs:List Addr}
theorem zdm {α:Type} {l:List α} {i:Nat} {a d:α} (h:l[i]?=some a):l.getD i d=a:=by simp [List.getD,h]
theorem Has.postX (o:Has h0 (PostA p room ls cursor) k):∃x ptrs,x.cursor=cursor/\ptrs.length=ls.length/\Has h0 (PostB p x ptrs room ls) k:=by
 obtain ⟨x,o⟩:=Has.ex.1 o
 obtain ⟨ptrs,o⟩:=Has.ex.1 o
 obtain ⟨o,e1,e2⟩:=o.noFact
 exact ⟨x,ptrs,e1,e2,o⟩
theorem Has.ofPost (o:Has h0 (PostB p x ptrs room ls) k) (e1:x.cursor=cursor) (e2:ptrs.length=ls.length):Has h0 (PostA p room ls cursor) k:=Has.ex.2 ⟨x,Has.ex.2 ⟨ptrs,o.withFact ⟨e1,e2⟩⟩⟩
theorem Has.lane1 {i:Nat} {l:PLane} (o:Has h0 (PostB p x ptrs room ls) k) (hl:ls[i]?=some l):∃h1,h0<=h1/\Has h1 (LaneA (ptrs.getD i a0) room l) k/\∀l' k',Has h1 (LaneA (ptrs.getD i a0) room l') k'->Has h0 (PostB p x ptrs room (ls.set i l')) k':=by
 obtain ⟨h1,a1,o1,put⟩:=o.f3
 have hi:i<ls.length:=(List.getElem?_eq_some_iff.1 hl).1
 obtain ⟨h2,a2,o2,_,put2⟩:=o1.one hi
 rw [zdm hl] at o2
 refine ⟨h2,Hp.le_trans a1 a2,o2,fun l' k' o'=>put _ _ ?_⟩
 have:=put2 _ _ o'
 unfold zne1
 rw [List.length_set]
 refine cast (congrArg (fun A=>Has h1 A k') (zbn fun j hj=> ?_)) this
 by_cases e:j=i
 ·subst e
  rw [zbm,zdm (List.getElem?_set_self hj)]
 ·rw [zbf e]
  congr 1
  simp [List.getD,List.getElem?_set_ne (Ne.symm e)]
theorem Has.ptr (o:Has h0 (PostB p x ptrs room ls) k) (e2:ptrs.length=ls.length) {i:Nat} (hi:i<ls.length) {K:Option Addr->Prop} (hk:K (some (ptrs.getD i a0))):InB x.lanes.base x.lanes.len (i:Int)/\LdW none shPtr k (sat x.lanes.base 1 (i:Int)) K:=by
 have rs:Rs k shPtr 1 x.lanes (ptrs.map some):=(o.right.left.srw (fun _=>rfl)).map (f:=some) (enc:=fun x=>zac (shPtr.enc x))
 refine rs.get (fun _=>rfl) (by omega) (by omega) (by rw [List.length_map];omega) fun (y:Option Addr) hy=> ?_
 have:y=some (ptrs.getD i a0):=by
  rw [Int.toNat_natCast,List.getElem?_map,List.getElem?_eq_getElem (show i<ptrs.length by omega)] at hy
  simp at hy
  rw [<-hy]
  congr 1
  simp [List.getD,List.getElem?_eq_getElem (show i<ptrs.length by omega)]
 rw [this];exact hk
theorem zku1 {n:Int} {Q:Bool->Hp->Prop} (o:Has h0 (PostA p room ls cursor) k) (hn:0<=n/\n<ls.length) (hq:Q true k):zkf prog (some p) n Q k:=by
 obtain ⟨x,ptrs,e1,e2,o⟩:=o.postX
 unfold zkf
 have hs:=o.right.left.slen
 refine zaa ((Has.left o).ldC (shf:=shSl) x.lanes rfl ?_)
 refine letW ?_
 rw [show (decide (n>=0)&&decide (n<(x.lanes.len:Int)))=true by simp;omega]
 exact hq
theorem Has.laneN {i:Nat} {l:PLane} (o:Has h0 (PostA p room ls cursor) k) (hl:ls[i]?=some l):∃(x:S_post_Post) (a:Addr) (h1:Hp),(∀ {K:Sl->Prop},K x.lanes->LdW none shSl k (p.add 0) K)/\(∀ {K:Option Addr->Prop},K (some a)->InB x.lanes.base x.lanes.len (i:Int)/\LdW none shPtr k (sat x.lanes.base 1 (i:Int)) K)/\h0<=h1/\Has h1 (LaneA a room l) k/\
  ∀l' k',Has h1 (LaneA a room l') k'->Has h0 (PostA p room (ls.set i l') cursor) k':=by
 obtain ⟨x,ptrs,e1,e2,o⟩:=o.postX
 obtain ⟨h1,a1,o1,put⟩:=o.lane1 hl
 exact ⟨x,_,h1,fun hK=>(Has.left o).ld (shf:=shSl) x.lanes rfl hK,fun hK=>o.ptr e2 (List.getElem?_eq_some_iff.1 hl).1 hK,a1,o1,fun l' k' o'=>(put l' k' o').ofPost e1 (by rw [List.length_set];exact e2)⟩
theorem zeo2 {i:Nat} {l:PLane} {v:Int} {Q:Int->Hp->Prop} (o:Has h0 (PostA p room ls cursor) k) (hl:ls[i]?=some l) (hr:room<=64) (hf:room<=(l.values.length:Int)->Q 19 k)
  (hq:∀k',¬room<=(l.values.length:Int)->Has h0 (PostA p room (ls.set i (inL v l)) cursor) k'->Q 0 k'):zja prog (some p) (i:Int) v Q k:=by
 unfold zja
 refine zhg (zku1 o ⟨by omega,by have:=(List.getElem?_eq_some_iff.1 hl).1;omega⟩ ?_)
 obtain ⟨x,a,h1,ld,ix,_,o1,put⟩:=o.laneN hl
 rw [if_neg (by decide)]
 refine zaa (ld (ix ?_))
 exact zym (zeg2 o1 hr hf fun k' hn o'=>hq k' hn (put _ _ o'))
theorem zbs2 {i:Nat} {l:PLane} {Q:Hp->Prop} (o:Has h0 (PostA p room ls cursor) k) (hl:ls[i]?=some l) (hc:Cnt l.dropped) (hq:∀k',Has h0 (PostA p room (ls.set i (missL l)) cursor) k'->Q k'):zhn prog (some p) (i:Int) Q k:=by
 unfold zhn
 refine zhg (zku1 o ⟨by omega,by have:=(List.getElem?_eq_some_iff.1 hl).1;omega⟩ ?_)
 obtain ⟨x,a,h1,ld,ix,_,o1,put⟩:=o.laneN hl
 rw [if_pos rfl]
 refine zaa (ld (ix ?_))
 exact zxi (zbk2 o1 hc fun k' o'=>hq k' (put _ _ o'))
theorem zct1 {α:Type} {f:α->α} {xs:List α} {t:Nat} {y:α} (h:xs[t]?=some y):((xs.take t).map f++xs.drop t).set t (f y)=(xs.take (t+1)).map f++xs.drop (t+1):=by
 obtain ⟨h1,h2⟩:=List.getElem?_eq_some_iff.1 h
 have hl:((xs.take t).map f).length=t:=by rw [List.length_map,List.length_take];omega
 have e:xs.drop t=y::xs.drop (t+1):=by rw [List.drop_eq_getElem_cons h1,h2]
 rw [e,List.set_append_right _ _ (by omega),hl,Nat.sub_self,List.set_cons_zero,List.take_add_one,h]
 simp
theorem zkv1 {α:Type} {f:α->α} {xs:List α} {t:Nat} {y:α} (h:xs[t]?=some y):((xs.take t).map f++xs.drop t)[t]?=some y:=by
 have h1:=(List.getElem?_eq_some_iff.1 h).1
 have hl:((xs.take t).map f).length=t:=by rw [List.length_map,List.length_take];omega
 rw [List.getElem?_append_right (by omega),hl,Nat.sub_self,List.getElem?_drop]
 simpa using h
theorem zcu1 {α:Type} {f:α->α} {xs:List α} {t:Nat}:((xs.take t).map f++xs.drop t).length=xs.length:=by
 rw [List.length_append,List.length_map,List.length_take,List.length_drop];omega
theorem zys1 {w:Int} {Q:Bool->Hp->Prop} (o:Has h0 (PostA p room ls cursor) k) (hw:ls.length<=1000000/\∀l∈ls,l.waiters.length<=100) (hq:∀b k',Has h0 (PostA p room (ls.map (zbl1 w)) cursor) k'->Q b k'):zkg prog (some p) w Q k:=by
 obtain ⟨x,ptrs,e1,e2,o⟩:=o.postX
 unfold zkg
 have hs:=o.right.left.slen
 refine zaa ((Has.left o).ld (shf:=shSl) x.lanes rfl ?_)
 refine LoopW2.intro (fun (_:Bool) (i:Int) k'=>0<=i/\i<=(ls.length:Int)/\Has h0 (PostB p x ptrs room ((ls.take i.toNat).map (zbl1 w)++ls.drop i.toNat)) k') (fun _ i _=>(ls.length-i).toNat) ⟨by omega,by omega,by simpa using o⟩ ?_
 rintro b i k' ⟨i0,i1,o⟩
 by_cases h3:i<(ls.length:Int)
 ·rw [if_pos (decide_eq_true (by omega))]
  have hi:i.toNat<ls.length:=by omega
  have hl:=List.getElem?_eq_getElem hi
  generalize ls[i.toNat]=l at hl
  have e2':ptrs.length=((ls.take i.toNat).map (zbl1 w)++ls.drop i.toNat).length:=by rw [zcu1];exact e2
  obtain ⟨h1,_,o1,put⟩:=o.lane1 (zkv1 hl)
  have hix:=o.ptr e2' (i:=i.toNat) (by rw [zcu1];exact hi) (K:=fun y=>y=some (ptrs.getD i.toNat a0)) rfl
  have ei:((i.toNat:Nat):Int)=i:=by omega
  rw [ei] at hix
  refine ⟨fun r h2=>0<=i/\i<(ls.length:Int)/\Has h0 (PostB p x ptrs room ((ls.take (i.toNat+1)).map (zbl1 w)++ls.drop (i.toNat+1))) h2,⟨hix.1,?_⟩,?_⟩
  ·obtain ⟨y,hy,rfl⟩:=hix.2
   refine ⟨_,hy,?_⟩
   refine zuz (zyj1 o1 (hw.2 l (List.mem_of_getElem? hl)) fun b' k2 o2=> ?_)
   have o:=put _ _ o2
   rw [zct1 hl] at o
   dsimp only
   split
   ·exact ⟨i0,h3,o⟩
   ·exact ⟨i0,h3,o⟩
  ·rintro b' k2 ⟨_,_,o⟩
   rw [wrap64 (by omega) (by omega)]
   refine ⟨⟨by omega,by omega,?_⟩,by omega⟩
   rw [show (i+1).toNat=i.toNat+1 by omega]
   exact o
 ·rw [if_neg (fun e=>h3 (by have:=of_decide_eq_true e;omega))]
  refine hq b k' ?_
  have ei:i.toNat=ls.length:=by omega
  rw [ei,List.take_length,List.drop_length,List.append_nil] at o
  exact o.ofPost e1 (by rw [List.length_map];exact e2)
end
end Lf
