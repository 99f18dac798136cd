/-
  Part 3 of the texts that the claim leans on.
-/
import Derived.Test.YtgplfmccdkfddaaGreatRows
import Derived.Laws.Externs
import Derived.Shelf.Strings.Search1
import Derived.Shelf.Strings.Search2
import Derived.Shelf.Strings.Search3
import Derived.Shelf.LaysM
import Derived.Test.YtgplfmccdkfddaaGreatProg
import Derived.Test.YtgplfmccdkfddaaGreatMgRnNames1
set_option maxRecDepth 100000
set_option linter.unusedVariables false
namespace Lf
open Go
def zel (P:Program)  (Q:(Bool->(Hp->Prop))) (h:Hp):Prop:=
 EffC (some true) (CallT P zmi [] zae) (fun r h1=>
 LetW (true&&r) fun y=>
 Q y h1) h
def zhc (P:Program)  (Q:(Bool->(Hp->Prop))) (h:Hp):Prop:=
 Call2 P zey [] shSl zae (fun r r1 h1=>
 Call3 P zha1 [r.v] shPtr (shInt .i64) (shInt .i64) (fun r2 r3 r4 h2=>
 LetW ((!r1) || (Option.isNone r2)) fun y=>
 LetW (y || (r3 !=(0:Int))) fun y1=>
 LetW (y1 || (r4 !=(0:Int))) fun y2=>
 (if y2 then
 Q false h2
 else
 CallT P zyv [(.pointer r2),(.agg #[(.int .i64 (1:Int)),(.int .i64 (2:Int)),(.int .i64 (0:Int))])] zoy (fun r5 h3=>
 CallT P zyv [(.pointer r2),(.agg #[(.int .i64 (3:Int)),(.int .i64 (9:Int)),(.int .i64 (0:Int))])] zoy (fun r6 h4=>
 CallT P zyw [(.pointer r2)] zfg (fun r7 h5=>
 SemV none P (binS .eql 43 (.tmp 41) (.tmp 42) r5.v (.agg #[(.int .i64 (0:Int)),(.int .i64 (2:Int)),(.int .i64 (0:Int))])) zae h5 fun x=>
 SemV (some x) P (binS .eql 43 (.tmp 45) (.tmp 46) r6.v (.agg #[(.int .i64 (17:Int)),(.int .i64 (2:Int)),(.int .i64 (0:Int))])) zae h5 fun x1=>
 LetW (x&&x1) fun y3=>
 LetW (y3&&(r7.Tick==(2:Int))) fun y4=>
 LetW (y4&&((r7.Procs.len:Int)==(2:Int))) fun y5=>
 ((y5=true->(InB r7.Procs.base r7.Procs.len (1:Int)))/\LdW (some y5) (shInt .i64) h5 (Addr.add (sat r7.Procs.base 15 (1:Int)) 0) fun x2=>
 LetW (y5&&(x2==(5:Int))) fun y6=>
 Q y6 h5)) h4) h3) h2)) h1) h
def zhg1 (P:Program) (raw:Sl) (Q:(Option Addr->(Int->(Int->(Hp->Prop))))) (h:Hp):Prop:=
 Call3 P zup [raw.v] sh_api_Config (shInt .i64) (shInt .i64) (fun r r1 r2 h1=>
 (if (r1 !=(0:Int))=true then
 Q none r1 r2 h1
 else
 Call2 P zuq [r.v] shPtr (shInt .i64) (fun r3 r4 h2=>
 (if (r4 !=(0:Int))=true then
 Q none r4 (0:Int) h2
 else
 NewW [(.pointer r3),(.int .i64 (0:Int)),(.int .i64 (-1:Int))] (fun a h3=>
 Q (some a) (0:Int) (0:Int) h3) h2)) h1)) h
def znu (P:Program) (r:Option Addr) (s:S_api_Step) (Q:(S_api_Answer->(Hp->Prop))) (h:Hp):Prop:=
 JoinW1 (α1:=Int) (fun k=>
 CallT P zrb1 [] shMap (fun r1 h1=>
 ((True/\True)/\LookW none (.int .i64) shLeaf .nilFunc r1 (.int .i64 s.Kind) h1 fun x ok=>
 (if ok then
 CallV P tb x.v [(.pointer r),s.v] (shInt .i64) (fun r2 h2=>
 k r2 h2) h1
 else
 k (1:Int) h1))) h)
 (fun e h1=>
 NilW none r fun p=>
 LdW none (shInt .i64) h1 (Addr.add p 1) fun x=>
 NilW none r fun p1=>
 LdW none (shInt .i64) h1 (Addr.add p1 2) fun x1=>
 Q ⟨e,x,x1⟩ h1)
def zfb (P:Program)  (Q:(Sl->(Bool->(Hp->Prop)))) (h:Hp):Prop:=
 NewW [(.int .u64 (0:Int)),(.int .u64 (1:Int))] (fun a h1=>
 NewW [(.int .i64 (1:Int)),(.int .i64 (0:Int)),(.int .i64 (1:Int))] (fun a1 h2=>
 NewW [(.int .i64 (22:Int)),(.int .i64 (0:Int)),(.int .i64 (0:Int)),(.int .i64 (0:Int)),(.int .i64 (0:Int))] (fun a2 h3=>
 NewW [(.int .i64 (0:Int)),(.slice (some a2) 1 1),(.int .i64 (1:Int)),(.slice none 0 0)] (fun a3 h4=>
 Call2 P zfk [(.agg #[(.slice (some a) 2 2),(.slice (some a1) 3 3),(.int .i64 (2:Int)),(.int .i64 (1:Int)),(.int .i64 (0:Int)),(.int .i64 (4:Int)),(.slice (some a3) 2 2)])] shSl (shInt .i64) (fun r r1 h5=>
 Q ⟨r.base,r.len,r.cap⟩ (r1==(0:Int)) h5) h4) h3) h2) h1) h
def zzd (P:Program) (r:Option Addr) (Q:(S_api_State->(Hp->Prop))) (h:Hp):Prop:=
 NilW none r fun p=>
 LdW none shPtr h (Addr.add p 0) fun x=>
 CallT P zli [(.pointer x)] zfg (fun r1 h1=>
 Q r1 h1) h
def zuw (P:Program) (b:Sl) (Q:(S_api_Config->(Int->(Int->(Hp->Prop))))) (h:Hp):Prop:=
 NewW [(.slice none 0 0),(.slice none 0 0),(.int .i64 (0:Int)),(.int .i64 (0:Int)),(.int .i64 (0:Int)),(.int .i64 (0:Int)),(.slice none 0 0)] (fun a h1=>
 NewW [b.v,(.int .i64 (0:Int)),(.int .i64 (0:Int)),(.int .i64 (0:Int))] (fun a1 h2=>
 JoinW1 (α1:=S_api_Config) (fun k=>
 (if decide ((b.len:Int)>(1048576:Int)) then
 Call0 P zbj [(.pointer (some a1)),(.int .i64 (22:Int)),(.int .i64 (1048576:Int))] (fun h3=>
 k ⟨⟨none,0,0⟩,⟨none,0,0⟩,(0:Int),(0:Int),(0:Int),(0:Int),⟨none,0,0⟩⟩ h3) h2
 else
 Call0 P zjc [(.pointer (some a1))] (fun h3=>
 CallT P zay [(.pointer (some a1))] zae (fun r h4=>
 (if r then
 k ⟨⟨none,0,0⟩,⟨none,0,0⟩,(0:Int),(0:Int),(0:Int),(0:Int),⟨none,0,0⟩⟩ h4
 else
 Call0 P zjd [(.pointer (some a1)),(.pointer (some a))] (fun h5=>
 CallT P zay [(.pointer (some a1))] zae (fun r1 h6=>
 (if r1 then
 k ⟨⟨none,0,0⟩,⟨none,0,0⟩,(0:Int),(0:Int),(0:Int),(0:Int),⟨none,0,0⟩⟩ h6
 else
 Call0 P zkg [(.pointer (some a1)),(.pointer (some a))] (fun h7=>
 CallT P zay [(.pointer (some a1))] zae (fun r2 h8=>
 (if r2 then
 k ⟨⟨none,0,0⟩,⟨none,0,0⟩,(0:Int),(0:Int),(0:Int),(0:Int),⟨none,0,0⟩⟩ h8
 else
 CallT P zcn [(.pointer (some a1)),(.int .i64 (2:Int)),(.int .i64 (2:Int))] (shInt .i64) (fun r3 h9=>
 StW h9 (Addr.add a 2) [(.int .i64 r3)] (fun h10=>
 CallT P zcn [(.pointer (some a1)),(.int .i64 (3:Int)),(.int .i64 (1:Int))] (shInt .i64) (fun r4 h11=>
 StW h11 (Addr.add a 3) [(.int .i64 r4)] (fun h12=>
 CallT P zcn [(.pointer (some a1)),(.int .i64 (4:Int)),(.int .i64 (1:Int))] (shInt .i64) (fun r5 h13=>
 StW h13 (Addr.add a 4) [(.int .i64 r5)] (fun h14=>
 CallT P zcn [(.pointer (some a1)),(.int .i64 (5:Int)),(.int .i64 (2:Int))] (shInt .i64) (fun r6 h15=>
 StW h15 (Addr.add a 5) [(.int .i64 r6)] (fun h16=>
 CallT P zee [(.pointer (some a1)),(.int .i64 (32:Int))] (shInt .i64) (fun r7 h17=>
 LoopW1 (α1:=Int) (fun again n h18=>
 EffC (some (decide (n>(0:Int)))) (CallT P zay [(.pointer (some a1))] zae) (fun r8 h19=>
 LetW ((decide (n>(0:Int)))&&(!r8)) fun y=>
 (if y then
 Call0 P zlj [(.pointer (some a1)),(.pointer (some a))] (fun h20=>
 again (IntKind.wrap .i64 (n-(1:Int))) h20) h19
 else
 NilW none (some a1) fun p=>
 LdW none (shInt .i64) h19 (Addr.add p 1) fun x=>
 (if decide (x<(b.len:Int)) then
 NilW none (some a1) fun p1=>
 LdW none (shInt .i64) h19 (Addr.add p1 1) fun x1=>
 Call0 P zbj [(.pointer (some a1)),(.int .i64 (6:Int)),(.int .i64 x1)] (fun h20=>
 k ⟨⟨none,0,0⟩,⟨none,0,0⟩,(0:Int),(0:Int),(0:Int),(0:Int),⟨none,0,0⟩⟩ h20) h19
 else
 k ⟨⟨none,0,0⟩,⟨none,0,0⟩,(0:Int),(0:Int),(0:Int),(0:Int),⟨none,0,0⟩⟩ h19))) h18) r7 h17) h16)) h14)) h12)) h10)) h8)) h7) h6)) h5) h4)) h3) h2))
 (fun t2 h3=>
 CallT P zay [(.pointer (some a1))] zae (fun r h4=>
 (if r then
 NilW none (some a1) fun p=>
 LdW none (shInt .i64) h4 (Addr.add p 2) fun x=>
 NilW none (some a1) fun p1=>
 LdW none (shInt .i64) h4 (Addr.add p1 3) fun x1=>
 (((LdIs h4 (Addr.add p 2) [(.int .i64 x)])/\((LdIs h4 (Addr.add p1 3) [(.int .i64 x1)])/\True))/\Q ⟨⟨none,0,0⟩,⟨none,0,0⟩,(0:Int),(0:Int),(0:Int),(0:Int),⟨none,0,0⟩⟩ x x1 h4)
 else
 LdW none sh_api_Config h4 a fun x=>
 Q x (0:Int) (0:Int) h4)) h3)) h1) h
def zux (P:Program) (c:S_api_Config) (Q:(Option Addr->(Int->(Hp->Prop)))) (h:Hp):Prop:=
 Call2 P zhb1 [c.v] (shInt .i64) (shInt .i64) (fun r r1 h1=>
 (if (r !=(0:Int))=true then
 Q none r h1
 else
 CallT P zyx [c.v] zfg (fun r2 h2=>
 ((True/\True)/\CallT P zch1 [c.v,r2.v] shPtr (fun r3 h3=>
 Q r3 (0:Int) h3) h2)) h1)) h
def zhh1 (P:Program)  (Q:(Option Nat->(Hp->Prop))) (h:Hp):Prop:=
 zaf1  (fun r h1=>
 zrq (.int .i64) r (.int .i64 (1:Int)) (.func (.func 51) #[] #[]) (fun h2=>
 zrq (.int .i64) r (.int .i64 (2:Int)) (.func (.func 52) #[] #[]) (fun h3=>
 zrq (.int .i64) r (.int .i64 (3:Int)) (.func (.func 53) #[] #[]) (fun h4=>
 Q r h4) h3) h2) h1) h
def zdn (P:Program) (m:Option Addr) (Q:(S_api_State->(Hp->Prop))) (h:Hp):Prop:=
 NilW none m fun p=>
 LdW none (shInt .i64) h (Addr.add p 9) fun x=>
 NilW none m fun p1=>
 LdW none shSl h (Addr.add p1 10) fun x1=>
 LoopW2 (α1:=Int) (α2:=S_api_State) (fun again t26 s h1=>
 (if decide (t26<(x1.len:Int)) then
 ((InB x1.base x1.len t26)/\LdW none shPtr h1 (sat x1.base 1 t26) fun x2=>
 NilW none x2 fun p2=>
 LdW none shPtr h1 (Addr.add p2 5) fun x3=>
 Call2 P zfl [(.pointer x3)] shSl shSl (fun r r1 h2=>
 NilW none x2 fun p3=>
 LdW none (shInt .i64) h2 (Addr.add p3 1) fun x4=>
 NilW none x2 fun p4=>
 LdW none shSl h2 (Addr.add p4 2) fun x5=>
 NilW none x2 fun p5=>
 LdW none (shInt .i64) h2 (Addr.add p5 3) fun x6=>
 NilW none x2 fun p6=>
 LdW none (shInt .i64) h2 (Addr.add p6 4) fun x7=>
 CallT P zaw [x5.v] shSl (fun r2 h3=>
 ((True/\((LdIs h3 (Addr.add p3 1) [(.int .i64 x4)])/\((LdIs h3 (Addr.add p5 3) [(.int .i64 x6)])/\((LdIs h3 (Addr.add p6 4) [(.int .i64 x7)])/\True))))/\NewW [(.int .i64 x4),r2.v,(.int .i64 x6),(.int .i64 x7),r.v,r1.v] (fun a h4=>
 ((True/\True)/\zai 6 96 [(.int .i64 (0:Int)),(.slice none 0 0),(.int .i64 (0:Int)),(.int .i64 (0:Int)),(.slice none 0 0),(.slice none 0 0)] ⟨s.Parts.base,s.Parts.len,s.Parts.cap⟩ ⟨(some a),1,1⟩ (fun r3 h5=>
 again (IntKind.wrap .i64 (t26+(1:Int))) ⟨s.Tick,r3,s.Procs⟩ h5) h4)) h3)) h2) h1)
 else
 NilW none m fun p2=>
 LdW none shSl h1 (Addr.add p2 11) fun x2=>
 LoopW2 (α1:=Int) (α2:=S_api_State) (fun again1 t69 s1 h2=>
 (if decide (t69<(x2.len:Int)) then
 ((InB x2.base x2.len t69)/\LdW none shPtr h2 (sat x2.base 1 t69) fun x3=>
 NilW none x3 fun p3=>
 LdW none shPtr h2 (Addr.add p3 14) fun x4=>
 Call2 P zin [(.pointer x4)] shSl (shInt .i64) (fun r r1 h3=>
 NilW none m fun p4=>
 LdW none shSl h3 (Addr.add p4 10) fun x5=>
 NilW none x3 fun p5=>
 LdW none (shInt .i64) h3 (Addr.add p5 1) fun x6=>
 ((InB x5.base x5.len x6)/\LdW none shPtr h3 (sat x5.base 1 x6) fun x7=>
 NilW none x7 fun p6=>
 LdW none shPtr h3 (Addr.add p6 6) fun x8=>
 CallT P zbs [(.int .i64 t69)] (shInt .i64) (fun r2 h4=>
 (((LdIs h4 (Addr.add p4 10) [x5.v])/\((LdIs h4 (Addr.add p5 1) [(.int .i64 x6)])/\((LdIs h4 (sat x5.base 1 x6) [(.pointer x7)])/\((LdIs h4 (Addr.add p6 6) [(.pointer x8)])/\True))))/\Call2 P zdr [(.pointer x8),(.int .i64 r2)] (shInt .i64) zae (fun r3 r4 h5=>
 NilW none m fun p7=>
 LdW none shSl h5 (Addr.add p7 10) fun x9=>
 NilW none x3 fun p8=>
 LdW none (shInt .i64) h5 (Addr.add p8 1) fun x10=>
 ((InB x9.base x9.len x10)/\LdW none shPtr h5 (sat x9.base 1 x10) fun x11=>
 NilW none x11 fun p9=>
 LdW none shPtr h5 (Addr.add p9 6) fun x12=>
 CallT P zcl [(.int .i64 t69)] (shInt .i64) (fun r5 h6=>
 (((LdIs h6 (Addr.add p7 10) [x9.v])/\((LdIs h6 (Addr.add p8 1) [(.int .i64 x10)])/\((LdIs h6 (sat x9.base 1 x10) [(.pointer x11)])/\((LdIs h6 (Addr.add p9 6) [(.pointer x12)])/\True))))/\Call2 P zdr [(.pointer x12),(.int .i64 r5)] (shInt .i64) zae (fun r6 r7 h7=>
 NilW none x3 fun p10=>
 LdW none (shInt .i64) h7 (Addr.add p10 3) fun x13=>
 NilW none x3 fun p11=>
 LdW none (shInt .i64) h7 (Addr.add (Addr.add p11 4) 0) fun x14=>
 NilW none x3 fun p12=>
 LdW none zej h7 (Addr.add (Addr.add p12 4) 1) fun x15=>
 NilW none x3 fun p13=>
 LdW none zae h7 (Addr.add p13 13) fun x16=>
 NewW [(.int .i64 x13),(.int .i64 x14),(.int .i64 x15.a0),(.int .i64 x15.a1),(.int .i64 x15.a2),(.int .i64 x15.a3),(.int .i64 x15.a4),(.int .i64 x15.a5),(.int .i64 x15.a6),(.int .i64 x15.a7),(.int .i64 r1),(.int .i64 r3),(.bool x16),(.int .i64 r6),r.v] (fun a h8=>
 ((True/\True)/\zai 15 136 [(.int .i64 (0:Int)),(.int .i64 (0:Int)),(.int .i64 (0:Int)),(.int .i64 (0:Int)),(.int .i64 (0:Int)),(.int .i64 (0:Int)),(.int .i64 (0:Int)),(.int .i64 (0:Int)),(.int .i64 (0:Int)),(.int .i64 (0:Int)),(.int .i64 (0:Int)),(.int .i64 (0:Int)),(.bool false),(.int .i64 (0:Int)),(.slice none 0 0)] ⟨s1.Procs.base,s1.Procs.len,s1.Procs.cap⟩ ⟨(some a),1,1⟩ (fun r8 h9=>
 again1 (IntKind.wrap .i64 (t69+(1:Int))) ⟨s1.Tick,s1.Parts,r8⟩ h9) h8)) h7) h6)) h5)) h4)) h3)) h2)
 else
 Q s1 h2)) (0:Int) s h1)) (0:Int) ⟨x,⟨none,0,0⟩,⟨none,0,0⟩⟩ h
def zfw (P:Program) (c:S_api_Config) (Q:(Sl->(Int->(Hp->Prop)))) (h:Hp):Prop:=
 Call2 P zje [c.v] (shInt .i64) (shInt .i64) (fun r r1 h1=>
 (if (r !=(0:Int))=true then
 Q ⟨none,0,0⟩ r h1
 else
 NewW [(.int .u8 (70:Int)),(.int .u8 (66:Int)),(.int .u8 (67:Int)),(.int .u8 (70:Int)),(.int .u8 (1:Int)),(.int .u8 (IntKind.wrap .u8 (c.Labels.len:Int)))] (fun a h2=>
 LoopW2 (α1:=Sl) (α2:=Int) (fun again b i h3=>
 (if decide (i<(c.Labels.len:Int)) then
 ((InB c.Labels.base c.Labels.len i)/\LdW none (shInt .u64) h3 (sat c.Labels.base 1 i) fun x=>
 CallT P zcm [b.v,(.int .u64 x),(.int .i64 (8:Int))] shSl (fun r2 h4=>
 again r2 (IntKind.wrap .i64 (i+(1:Int))) h4) h3)
 else
 NewW [(.int .u8 (IntKind.wrap .u8 (c.Table.len:Int)))] (fun a1 h4=>
 zai 1 1 [(.int .u8 (0:Int))] ⟨b.base,b.len,b.cap⟩ ⟨(some a1),1,1⟩ (fun r2 h5=>
 LoopW2 (α1:=Sl) (α2:=Int) (fun again1 b1 i1 h6=>
 (if decide (i1<(c.Table.len:Int)) then
 ((InB c.Table.base c.Table.len i1)/\LdW none (shInt .i64) h6 (sat c.Table.base 1 i1) fun x=>
 NewW [(.int .u8 (IntKind.wrap .u8 x))] (fun a2 h7=>
 zai 1 1 [(.int .u8 (0:Int))] ⟨b1.base,b1.len,b1.cap⟩ ⟨(some a2),1,1⟩ (fun r3 h8=>
 again1 r3 (IntKind.wrap .i64 (i1+(1:Int))) h8) h7) h6)
 else
 CallT P zcm [b1.v,(.int .u64 (IntKind.wrap .u64 c.Fuel)),(.int .i64 (2:Int))] shSl (fun r3 h7=>
 NewW [(.int .u8 (IntKind.wrap .u8 c.Lane)),(.int .u8 (IntKind.wrap .u8 c.Locks))] (fun a2 h8=>
 zai 1 1 [(.int .u8 (0:Int))] r3 ⟨(some a2),2,2⟩ (fun r4 h9=>
 CallT P zcm [r4.v,(.int .u64 (IntKind.wrap .u64 c.Log)),(.int .i64 (2:Int))] shSl (fun r5 h10=>
 NewW [(.int .u8 (IntKind.wrap .u8 (c.Procs.len:Int)))] (fun a3 h11=>
 zai 1 1 [(.int .u8 (0:Int))] r5 ⟨(some a3),1,1⟩ (fun r6 h12=>
 LoopW2 (α1:=Sl) (α2:=Int) (fun again2 b2 i2 h13=>
 (if decide (i2<(c.Procs.len:Int)) then
 ((InB c.Procs.base c.Procs.len i2)/\LdW none sh_api_Proc h13 (sat c.Procs.base 2 i2) fun x=>
 NewW [(.int .u8 (IntKind.wrap .u8 x.Part))] (fun a4 h14=>
 zai 1 1 [(.int .u8 (0:Int))] ⟨b2.base,b2.len,b2.cap⟩ ⟨(some a4),1,1⟩ (fun r7 h15=>
 CallT P zcm [r7.v,(.int .u64 (IntKind.wrap .u64 (x.Code.len:Int))),(.int .i64 (2:Int))] shSl (fun r8 h16=>
 LoopW2 (α1:=Sl) (α2:=Int) (fun again3 b3 k h17=>
 (if decide (k<(x.Code.len:Int)) then
 ((InB x.Code.base x.Code.len k)/\LdW none sh_api_Ins h17 (sat x.Code.base 5 k) fun x1=>
 CallT P zor [b3.v,x1.v] shSl (fun r9 h18=>
 again3 r9 (IntKind.wrap .i64 (k+(1:Int))) h18) h17)
 else
 again2 ⟨b3.base,b3.len,b3.cap⟩ (IntKind.wrap .i64 (i2+(1:Int))) h17)) r8 (0:Int) h16) h15) h14) h13)
 else
 Q ⟨b2.base,b2.len,b2.cap⟩ (0:Int) h13)) r6 (0:Int) h12) h11) h10) h9) h8) h7) h6)) r2 (0:Int) h5) h4) h3)) ⟨(some a),6,6⟩ (0:Int) h2) h1)) h
def zlr (P:Program) (r:Option Addr) (e:Int) (place:Int) (Q:(Hp->Prop)) (h:Hp):Prop:=
 EffC (some (e !=(0:Int))) (CallT P zay [(.pointer r)] zae) (fun r1 h1=>
 LetW ((e !=(0:Int))&&(!r1)) fun y=>
 (if y then
 NilW none r fun p=>
 StW h1 (Addr.add p 2) [(.int .i64 e)] (fun h2=>
 NilW none r fun p1=>
 StW h2 (Addr.add p1 3) [(.int .i64 place)] (fun h3=>
 Q h3))
 else
 Q h1)) h
def zji (P:Program) (r:Option Addr) (Q:(Hp->Prop)) (h:Hp):Prop:=
 LoopW1 (α1:=Int) (fun again t3 h1=>
 (if decide (t3<(5:Int)) then
 NewW [(.int .i64 (0:Int))] (fun a h2=>
 StW h2 a [(.int .i64 t3)] (fun h3=>
 CallT P zav [(.pointer r),(.int .i64 (1:Int)),(.func (.func 79) #[] #[(.pointer (some a))])] (shInt .u64) (fun r1 h4=>
 again (IntKind.wrap .i64 (t3+(1:Int))) h4) h3)) h1
 else
 Q h1)) (0:Int) h
def ziq (P:Program) (r:Option Addr) (Q:(Bool->(Hp->Prop))) (h:Hp):Prop:=
 NilW none r fun p=>
 LdW none (shInt .i64) h (Addr.add p 2) fun x=>
 Q (x !=(0:Int)) h
def zjj (P:Program) (r:Option Addr) (c:Option Addr) (Q:(Hp->Prop)) (h:Hp):Prop:=
 NewW [(.pointer c)] (fun a h1=>
 CallT P zee [(.pointer r),(.int .i64 (8:Int))] (shInt .i64) (fun r1 h2=>
 LoopW1 (α1:=Int) (fun again n h3=>
 EffC (some (decide (n>(0:Int)))) (CallT P zay [(.pointer r)] zae) (fun r2 h4=>
 LetW ((decide (n>(0:Int)))&&(!r2)) fun y=>
 (if y then
 CallT P zav [(.pointer r),(.int .i64 (8:Int)),(.func (.func 80) #[] #[(.pointer (some a))])] (shInt .u64) (fun r3 h5=>
 LdW none shPtr h5 a fun x=>
 LdW none shPtr h5 a fun x1=>
 NilW none x1 fun p=>
 LdW none shSl h5 (Addr.add p 0) fun x2=>
 NewW [(.int .u64 r3)] (fun a1 h6=>
 (((LdIs h6 a [(.pointer x)])/\((LdIs h6 a [(.pointer x1)])/\((LdIs h6 (Addr.add p 0) [x2.v])/\True)))/\zai 1 8 [(.int .u64 (0:Int))] x2 ⟨(some a1),1,1⟩ (fun r4 h7=>
 (((LdIs h7 a [(.pointer x)])/\True)/\NilW none x fun p1=>
 StW h7 (Addr.add p1 0) [r4.v] (fun h8=>
 again (IntKind.wrap .i64 (n-(1:Int))) h8))) h6)) h5) h4
 else
 Q h4)) h3) r1 h2) h1) h
def zkj (P:Program) (r:Option Addr) (c:Option Addr) (Q:(Hp->Prop)) (h:Hp):Prop:=
 CallT P zee [(.pointer r),(.int .i64 (64:Int))] (shInt .i64) (fun r1 h1=>
 LoopW1 (α1:=Int) (fun again n h2=>
 EffC (some (decide (n>(0:Int)))) (CallT P zay [(.pointer r)] zae) (fun r2 h3=>
 LetW ((decide (n>(0:Int)))&&(!r2)) fun y=>
 (if y then
 NilW none c fun p=>
 LdW none shSl h3 (Addr.add p 1) fun x=>
 CallT P zfm [(.pointer r),(.pointer c)] (shInt .i64) (fun r3 h4=>
 (((LdIs h4 (Addr.add p 1) [x.v])/\True)/\NewW [(.int .i64 r3)] (fun a h5=>
 (((LdIs h5 (Addr.add p 1) [x.v])/\True)/\zai 1 8 [(.int .i64 (0:Int))] x ⟨(some a),1,1⟩ (fun r4 h6=>
 NilW none c fun p1=>
 StW h6 (Addr.add p1 1) [r4.v] (fun h7=>
 again (IntKind.wrap .i64 (n-(1:Int))) h7)) h5)) h4)) h3
 else
 Q h3)) h2) r1 h1) h
def zjk (P:Program) (r:Option Addr) (part:Int) (bytes:Int) (Q:(Int->(Hp->Prop))) (h:Hp):Prop:=
 NewW [(.int .i64 part)] (fun a h1=>
 CallT P zez [(.pointer r),(.int .i64 bytes),(.func (.func 83) #[] #[(.pointer (some a))])] (shInt .i64) (fun r1 h2=>
 Q r1 h2) h1) h
def zic (P:Program) (r:Option Addr) (most:Int) (Q:(Int->(Hp->Prop))) (h:Hp):Prop:=
 NewW [(.int .i64 most)] (fun a h1=>
 CallT P zez [(.pointer r),(.int .i64 (1:Int)),(.func (.func 85) #[] #[(.pointer (some a))])] (shInt .i64) (fun r1 h2=>
 Q r1 h2) h1) h
def zls (P:Program) (r:Option Addr) (c:Option Addr) (Q:(Hp->Prop)) (h:Hp):Prop:=
 CallT P zfm [(.pointer r),(.pointer c)] (shInt .i64) (fun r1 h1=>
 CallT P zez [(.pointer r),(.int .i64 (2:Int)),(.func (.func 87) #[] #[])] (shInt .i64) (fun r2 h2=>
 LoopW2 (α1:=Int) (α2:=S_api_Proc) (fun again i p h3=>
 EffC (some (decide (i<r2))) (CallT P zay [(.pointer r)] zae) (fun r3 h4=>
 LetW ((decide (i<r2))&&(!r3)) fun y=>
 (if y then
 NilW none c fun p1=>
 LdW none (shInt .i64) h4 (Addr.add p1 4) fun x=>
 CallT P ztj [(.pointer r),(.int .i64 r2),(.int .i64 x)] sh_api_Ins (fun r4 h5=>
 ((True/\True)/\NewW [(.int .i64 r4.Op),(.int .i64 r4.A),(.int .i64 r4.B),(.int .i64 r4.C),(.int .i64 r4.Imm)] (fun a h6=>
 ((True/\True)/\zai 5 40 [(.int .i64 (0:Int)),(.int .i64 (0:Int)),(.int .i64 (0:Int)),(.int .i64 (0:Int)),(.int .i64 (0:Int))] ⟨p.Code.base,p.Code.len,p.Code.cap⟩ ⟨(some a),1,1⟩ (fun r5 h7=>
 again (IntKind.wrap .i64 (i+(1:Int))) ⟨p.Part,r5⟩ h7) h6)) h5)) h4
 else
 NilW none c fun p1=>
 LdW none shSl h4 (Addr.add p1 6) fun x=>
 NewW [(.int .i64 p.Part),p.Code.v] (fun a h5=>
 (((LdIs h5 (Addr.add p1 6) [x.v])/\True)/\zai 2 32 [(.int .i64 (0:Int)),(.slice none 0 0)] x ⟨(some a),1,1⟩ (fun r4 h6=>
 NilW none c fun p2=>
 StW h6 (Addr.add p2 6) [r4.v] (fun h7=>
 Q h7)) h5)) h4)) h3) (0:Int) ⟨r1,⟨none,0,0⟩⟩ h2) h1) h
def zhi1 (P:Program) (c:S_api_Config) (Q:(Int->(Int->(Hp->Prop)))) (h:Hp):Prop:=
 Call2 P zut [c.Labels.v] (shInt .i64) (shInt .i64) (fun r r1 h1=>
 (if (r !=(0:Int))=true then
 Q r (0:Int) h1
 else
 CallT P zus [(.int .i64 (c.Table.len:Int)),(.int .i64 (64:Int))] (shInt .i64) (fun r2 h2=>
 (if (r2 !=(0:Int))=true then
 Q r2 (1:Int) h2
 else
 Call3 P zuu [c.Table.v,(.int .i64 (c.Labels.len:Int))] shPtr (shInt .i64) (shInt .i64) (fun r3 r4 r5 h3=>
 (if (r4 !=(0:Int))=true then
 Q r4 (1:Int) h3
 else
 NewW [(.int .i64 (0:Int)),(.int .i64 (0:Int)),(.int .i64 c.Fuel),(.int .i64 c.Lane),(.int .i64 c.Locks),(.int .i64 c.Log)] (fun a h4=>
 LoopW1 (α1:=Int) (fun again t57 h5=>
 (if decide (t57<(6:Int)) then
 ((InB (some a) 6 t57)/\LdW none (shInt .i64) h5 (sat (some a) 1 t57) fun x=>
 CallT P zur [(.int .i64 t57),(.int .i64 x)] (shInt .i64) (fun r6 h6=>
 (if (r6 !=(0:Int))=true then
 Q r6 t57 h6
 else
 again (IntKind.wrap .i64 (t57+(1:Int))) h6)) h5)
 else
 CallT P zus [(.int .i64 (c.Procs.len:Int)),(.int .i64 (32:Int))] (shInt .i64) (fun r6 h6=>
 (if (r6 !=(0:Int))=true then
 Q r6 (6:Int) h6
 else
 LoopW1 (α1:=Int) (fun again1 t80 h7=>
 (if decide (t80<(c.Procs.len:Int)) then
 ((InB c.Procs.base c.Procs.len t80)/\LdW none sh_api_Proc h7 (sat c.Procs.base 2 t80) fun x=>
 CallT P zio [(.int .i64 x.Part),(.int .i64 (0:Int)),(.int .i64 (IntKind.wrap .i64 ((c.Labels.len:Int)-(1:Int))))] zae (fun r7 h8=>
 (if (!r7)=true then
 Q (2:Int) (IntKind.wrap .i64 ((7:Int)+t80)) h8
 else
 Call2 P zhc1 [x.Code.v,(.int .i64 c.Locks)] (shInt .i64) (shInt .i64) (fun r8 r9 h9=>
 (if (r8 !=(0:Int))=true then
 Q r8 (IntKind.wrap .i64 ((7:Int)+t80)) h9
 else
 again1 (IntKind.wrap .i64 (t80+(1:Int))) h9)) h8)) h7)
 else
 Q (0:Int) (0:Int) h7)) (0:Int) h6)) h5)) (0:Int) h4) h3)) h2)) h1)) h
def zrt (P:Program) (c:S_api_Config) (s:S_api_State) (Q:(Option Addr->(Hp->Prop))) (h:Hp):Prop:=
 CallT P zwx [c.v] sh_api_Config (fun r h1=>
 ((True/\True)/\NewW [r.Labels.v,r.Table.v,(.int .i64 r.Fuel),(.int .i64 r.Lane),(.int .i64 r.Locks),(.int .i64 r.Log),r.Procs.v,(.pointer none),(.pointer none),(.int .i64 s.Tick),(.slice none 0 0),(.slice none 0 0)] (fun a h2=>
 Call3 P zcy1 [c.Labels.v] shPtr (shInt .i64) (shInt .i64) (fun r1 r2 r3 h3=>
 NilW none (some a) fun p=>
 StW h3 (Addr.add p 7) [(.pointer r1)] (fun h4=>
 Call3 P zuu [c.Table.v,(.int .i64 (c.Labels.len:Int))] shPtr (shInt .i64) (shInt .i64) (fun r4 r5 r6 h5=>
 NilW none (some a) fun p1=>
 StW h5 (Addr.add p1 8) [(.pointer r4)] (fun h6=>
 LoopW1 (α1:=Int) (fun again t48 h7=>
 (if decide (t48<(s.Parts.len:Int)) then
 ((InB s.Parts.base s.Parts.len t48)/\LdW none sh_api_Part h7 (sat s.Parts.base 6 t48) fun x=>
 Call2 P zuv [x.Owners.v,x.Queues.v] shPtr (shInt .i64) (fun r7 r8 h8=>
 NilW none (some a) fun p2=>
 LdW none shSl h8 (Addr.add p2 10) fun x1=>
 CallT P zaw [x.Log.v] shSl (fun r9 h9=>
 (((LdIs h9 (Addr.add p2 10) [x1.v])/\(True/\(True/\(True/\True))))/\CallT P zcz1 [] shPtr (fun r10 h10=>
 (((LdIs h10 (Addr.add p2 10) [x1.v])/\(True/\(True/\(True/\True))))/\NewW [(.slice none 0 0),(.int .i64 x.Cursor),r9.v,(.int .i64 x.Lost),(.int .i64 x.Forbidden),(.pointer r7),(.pointer r10)] (fun a1 h11=>
 (((LdIs h11 (Addr.add p2 10) [x1.v])/\True)/\NewW [(.pointer (some a1))] (fun a2 h12=>
 (((LdIs h12 (Addr.add p2 10) [x1.v])/\True)/\zai 1 8 [(.pointer none)] x1 ⟨(some a2),1,1⟩ (fun r11 h13=>
 NilW none (some a) fun p3=>
 StW h13 (Addr.add p3 10) [r11.v] (fun h14=>
 again (IntKind.wrap .i64 (t48+(1:Int))) h14)) h12)) h11)) h10)) h9)) h8) h7)
 else
 LoopW1 (α1:=Int) (fun again1 t86 h8=>
 (if decide (t86<(s.Procs.len:Int)) then
 JoinW0 (fun k=>
 ((InB s.Procs.base s.Procs.len t86)/\LdW none sh_api_Process h8 (sat s.Procs.base 15 t86) fun x=>
 NilW none (some a) fun p2=>
 LdW none shSl h8 (Addr.add (Addr.add p2 0) 6) fun x1=>
 ((InB x1.base x1.len t86)/\LdW none sh_api_Proc h8 (sat x1.base 2 t86) fun x2=>
 Call2 P zap1 [(.int .i64 c.Lane),x.Lanes.v,(.int .i64 x.Cursor)] shPtr (shInt .i64) (fun r7 r8 h9=>
 NilW none (some a) fun p3=>
 LdW none shSl h9 (Addr.add p3 11) fun x3=>
 NewW [(.int .i64 t86),(.int .i64 x2.Part),x2.Code.v,(.int .i64 x.State),(.int .i64 x.PC),(.int .i64 x.Regs_0),(.int .i64 x.Regs_1),(.int .i64 x.Regs_2),(.int .i64 x.Regs_3),(.int .i64 x.Regs_4),(.int .i64 x.Regs_5),(.int .i64 x.Regs_6),(.int .i64 x.Regs_7),(.bool x.Fired),(.pointer r7)] (fun a1 h10=>
 (((LdIs h10 (Addr.add p3 11) [x3.v])/\True)/\NewW [(.pointer (some a1))] (fun a2 h11=>
 (((LdIs h11 (Addr.add p3 11) [x3.v])/\True)/\zai 1 8 [(.pointer none)] x3 ⟨(some a2),1,1⟩ (fun r9 h12=>
 NilW none (some a) fun p4=>
 StW h12 (Addr.add p4 11) [r9.v] (fun h13=>
 NilW none (some a) fun p5=>
 LdW none shSl h13 (Addr.add p5 10) fun x4=>
 ((InB x4.base x4.len x2.Part)/\LdW none shPtr h13 (sat x4.base 1 x2.Part) fun x5=>
 NilW none x5 fun p6=>
 LdW none shSl h13 (Addr.add p6 0) fun x6=>
 NewW [(.int .i64 t86)] (fun a3 h14=>
 zai 1 8 [(.int .i64 (0:Int))] x6 ⟨(some a3),1,1⟩ (fun r10 h15=>
 NilW none x5 fun p7=>
 StW h15 (Addr.add p7 0) [r10.v] (fun h16=>
 JoinW0 (fun k1=>
 (if decide (x.Timer>(0:Int)) then
 NilW none x5 fun p8=>
 LdW none shPtr h16 (Addr.add p8 6) fun x7=>
 CallT P zbs [(.int .i64 t86)] (shInt .i64) (fun r11 h17=>
 (((LdIs h17 (Addr.add p8 6) [(.pointer x7)])/\(True/\True))/\CallT P zbg [(.pointer x7),(.int .i64 r11),(.int .i64 x.Timer)] (shInt .i64) (fun r12 h18=>
 k1 h18) h17)) h16
 else
 k1 h16))
 (fun h17=>
 (if decide (x.Wake>(0:Int)) then
 NilW none x5 fun p8=>
 LdW none shPtr h17 (Addr.add p8 6) fun x7=>
 CallT P zcl [(.int .i64 t86)] (shInt .i64) (fun r11 h18=>
 (((LdIs h18 (Addr.add p8 6) [(.pointer x7)])/\(True/\True))/\CallT P zbg [(.pointer x7),(.int .i64 r11),(.int .i64 x.Wake)] (shInt .i64) (fun r12 h19=>
 k h19) h18)) h17
 else
 k h17)))) h14) h13))) h11)) h10)) h9) h8)))
 (fun h9=>
 again1 (IntKind.wrap .i64 (t86+(1:Int))) h9)
 else
 Q (some a) h8)) (0:Int) h7)) (0:Int) h6)) h4)) h2) h1)) h
def zpv (P:Program) (c:S_api_Config) (Q:(S_api_State->(Hp->Prop))) (h:Hp):Prop:=
 (MakeW 96 [(.int .i64 (0:Int)),(.slice none 0 0),(.int .i64 (0:Int)),(.int .i64 (0:Int)),(.slice none 0 0),(.slice none 0 0)] (c.Labels.len:Int) (c.Labels.len:Int) (fun r h1=>
 ((True/\True)/\MakeW 136 [(.int .i64 (0:Int)),(.int .i64 (0:Int)),(.int .i64 (0:Int)),(.int .i64 (0:Int)),(.int .i64 (0:Int)),(.int .i64 (0:Int)),(.int .i64 (0:Int)),(.int .i64 (0:Int)),(.int .i64 (0:Int)),(.int .i64 (0:Int)),(.int .i64 (0:Int)),(.int .i64 (0:Int)),(.bool false),(.int .i64 (0:Int)),(.slice none 0 0)] (c.Procs.len:Int) (c.Procs.len:Int) (fun r1 h2=>
 LoopW1 (α1:=Int) (fun again t18 h3=>
 (if decide (t18<(r.len:Int)) then
 JoinW0 (fun k=>
 (NewW [(.int .i64 (-1:Int))] (fun a h4=>
 ((True/\(True/\(True/\(True/\True))))/\(CallT P zag [(.slice (some a) 1 1),(.int .i64 c.Locks)] shSl (fun r2 h5=>
 ((True/\(True/\(True/\True)))/\((InB r.base r.len t18)/\(MakeW 24 [(.slice none 0 0)] c.Locks c.Locks (fun r3 h6=>
 ((True/\(True/\True))/\StW h6 (Addr.add (sat r.base 6 t18) 4) [r2.v] (fun h7=>
 ((True/\True)/\((InB r.base r.len t18)/\StW h7 (Addr.add (sat r.base 6 t18) 5) [r3.v] (fun h8=>
 k h8)))))) h5/\StW h5 (Addr.add (sat r.base 6 t18) 4) [r2.v] (fun h6=>
 ((True/\(True/\True))/\MakeW 24 [(.slice none 0 0)] c.Locks c.Locks (fun r3 h7=>
 ((True/\(True/\True))/\((InB r.base r.len t18)/\StW h7 (Addr.add (sat r.base 6 t18) 5) [r3.v] (fun h8=>
 k h8)))) h6)))))) h4/\MakeW 24 [(.slice none 0 0)] c.Locks c.Locks (fun r2 h5=>
 ((True/\(True/\(True/\True)))/\CallT P zag [(.slice (some a) 1 1),(.int .i64 c.Locks)] shSl (fun r3 h6=>
 ((True/\(True/\(True/\True)))/\((InB r.base r.len t18)/\StW h6 (Addr.add (sat r.base 6 t18) 4) [r3.v] (fun h7=>
 ((True/\(True/\True))/\((InB r.base r.len t18)/\StW h7 (Addr.add (sat r.base 6 t18) 5) [r2.v] (fun h8=>
 k h8))))))) h5)) h4))) h3/\MakeW 24 [(.slice none 0 0)] c.Locks c.Locks (fun r2 h4=>
 ((True/\(True/\(True/\True)))/\NewW [(.int .i64 (-1:Int))] (fun a h5=>
 ((True/\(True/\(True/\(True/\True))))/\CallT P zag [(.slice (some a) 1 1),(.int .i64 c.Locks)] shSl (fun r3 h6=>
 ((True/\(True/\(True/\True)))/\((InB r.base r.len t18)/\StW h6 (Addr.add (sat r.base 6 t18) 4) [r3.v] (fun h7=>
 ((True/\(True/\True))/\((InB r.base r.len t18)/\StW h7 (Addr.add (sat r.base 6 t18) 5) [r2.v] (fun h8=>
 k h8))))))) h5)) h4)) h3))
 (fun h4=>
 again (IntKind.wrap .i64 (t18+(1:Int))) h4)
 else
 LoopW1 (α1:=Int) (fun again1 t42 h4=>
 (if decide (t42<(r1.len:Int)) then
 MakeW 64 [(.slice none 0 0),(.slice none 0 0),(.int .i64 (0:Int)),(.int .i64 (0:Int))] (IntKind.wrap .i64 ((c.Labels.len:Int)+(1:Int))) (IntKind.wrap .i64 ((c.Labels.len:Int)+(1:Int))) (fun r2 h5=>
 ((True/\True)/\((InB r1.base r1.len t42)/\StW h5 (Addr.add (sat r1.base 15 t42) 14) [r2.v] (fun h6=>
 again1 (IntKind.wrap .i64 (t42+(1:Int))) h6)))) h4
 else
 Q ⟨(0:Int),r,r1⟩ h4)) (0:Int) h3)) (0:Int) h2) h1)) h/\MakeW 136 [(.int .i64 (0:Int)),(.int .i64 (0:Int)),(.int .i64 (0:Int)),(.int .i64 (0:Int)),(.int .i64 (0:Int)),(.int .i64 (0:Int)),(.int .i64 (0:Int)),(.int .i64 (0:Int)),(.int .i64 (0:Int)),(.int .i64 (0:Int)),(.int .i64 (0:Int)),(.int .i64 (0:Int)),(.bool false),(.int .i64 (0:Int)),(.slice none 0 0)] (c.Procs.len:Int) (c.Procs.len:Int) (fun r h1=>
 ((True/\True)/\MakeW 96 [(.int .i64 (0:Int)),(.slice none 0 0),(.int .i64 (0:Int)),(.int .i64 (0:Int)),(.slice none 0 0),(.slice none 0 0)] (c.Labels.len:Int) (c.Labels.len:Int) (fun r1 h2=>
 ((True/\True)/\LoopW1 (α1:=Int) (fun again t18 h3=>
 (if decide (t18<(r1.len:Int)) then
 JoinW0 (fun k=>
 (NewW [(.int .i64 (-1:Int))] (fun a h4=>
 ((True/\(True/\(True/\(True/\True))))/\(CallT P zag [(.slice (some a) 1 1),(.int .i64 c.Locks)] shSl (fun r2 h5=>
 ((True/\(True/\(True/\True)))/\((InB r1.base r1.len t18)/\(MakeW 24 [(.slice none 0 0)] c.Locks c.Locks (fun r3 h6=>
 ((True/\(True/\True))/\StW h6 (Addr.add (sat r1.base 6 t18) 4) [r2.v] (fun h7=>
 ((True/\True)/\((InB r1.base r1.len t18)/\StW h7 (Addr.add (sat r1.base 6 t18) 5) [r3.v] (fun h8=>
 k h8)))))) h5/\StW h5 (Addr.add (sat r1.base 6 t18) 4) [r2.v] (fun h6=>
 ((True/\(True/\True))/\MakeW 24 [(.slice none 0 0)] c.Locks c.Locks (fun r3 h7=>
 ((True/\(True/\True))/\((InB r1.base r1.len t18)/\StW h7 (Addr.add (sat r1.base 6 t18) 5) [r3.v] (fun h8=>
 k h8)))) h6)))))) h4/\MakeW 24 [(.slice none 0 0)] c.Locks c.Locks (fun r2 h5=>
 ((True/\(True/\(True/\True)))/\CallT P zag [(.slice (some a) 1 1),(.int .i64 c.Locks)] shSl (fun r3 h6=>
 ((True/\(True/\(True/\True)))/\((InB r1.base r1.len t18)/\StW h6 (Addr.add (sat r1.base 6 t18) 4) [r3.v] (fun h7=>
 ((True/\(True/\True))/\((InB r1.base r1.len t18)/\StW h7 (Addr.add (sat r1.base 6 t18) 5) [r2.v] (fun h8=>
 k h8))))))) h5)) h4))) h3/\MakeW 24 [(.slice none 0 0)] c.Locks c.Locks (fun r2 h4=>
 ((True/\(True/\(True/\True)))/\NewW [(.int .i64 (-1:Int))] (fun a h5=>
 ((True/\(True/\(True/\(True/\True))))/\CallT P zag [(.slice (some a) 1 1),(.int .i64 c.Locks)] shSl (fun r3 h6=>
 ((True/\(True/\(True/\True)))/\((InB r1.base r1.len t18)/\StW h6 (Addr.add (sat r1.base 6 t18) 4) [r3.v] (fun h7=>
 ((True/\(True/\True))/\((InB r1.base r1.len t18)/\StW h7 (Addr.add (sat r1.base 6 t18) 5) [r2.v] (fun h8=>
 k h8))))))) h5)) h4)) h3))
 (fun h4=>
 again (IntKind.wrap .i64 (t18+(1:Int))) h4)
 else
 LoopW1 (α1:=Int) (fun again1 t42 h4=>
 (if decide (t42<(r.len:Int)) then
 MakeW 64 [(.slice none 0 0),(.slice none 0 0),(.int .i64 (0:Int)),(.int .i64 (0:Int))] (IntKind.wrap .i64 ((c.Labels.len:Int)+(1:Int))) (IntKind.wrap .i64 ((c.Labels.len:Int)+(1:Int))) (fun r2 h5=>
 ((True/\True)/\((InB r.base r.len t42)/\StW h5 (Addr.add (sat r.base 15 t42) 14) [r2.v] (fun h6=>
 again1 (IntKind.wrap .i64 (t42+(1:Int))) h6)))) h4
 else
 Q ⟨(0:Int),r1,r⟩ h4)) (0:Int) h3)) (0:Int) h2)) h1)) h)
def zru (P:Program) (r:Option Addr) (s:S_api_Step) (Q:(Int->(Hp->Prop))) (h:Hp):Prop:=
 (if decide (s.N<(1:Int)) then
 Q (1:Int) h
 else
 NilW none r fun p=>
 LdW none (shInt .i64) h (Addr.add p 1) fun x=>
 (if (decide (s.N>(IntKind.wrap .i64 ((65536:Int)-x))))=true then
 Q (3:Int) h
 else
 LoopW1 (α1:=Int) (fun again t20 h1=>
 (if decide (t20<s.N) then
 NilW none r fun p1=>
 LdW none shPtr h1 (Addr.add p1 0) fun x1=>
 CallT P zmk [(.pointer x1)] (shInt .i64) (fun r1 h2=>
 NilW none r fun p2=>
 StW h2 (Addr.add p2 2) [(.int .i64 r1)] (fun h3=>
 again (IntKind.wrap .i64 (t20+(1:Int))) h3)) h1
 else
 NilW none r fun p1=>
 LdW none (shInt .i64) h1 (Addr.add p1 1) fun x1=>
 NilW none r fun p2=>
 StW h1 (Addr.add p2 1) [(.int .i64 (IntKind.wrap .i64 (x1+s.N)))] (fun h2=>
 Q (0:Int) h2))) (0:Int) h))
def zxa (P:Program) (r:Option Addr) (s:S_api_Step) (Q:(Int->(Hp->Prop))) (h:Hp):Prop:=
 NilW none r fun p=>
 LdW none shPtr h (Addr.add p 0) fun x=>
 CallT P zku [(.pointer x),(.int .i64 s.N),(.int .i64 s.V)] (shInt .i64) (fun r1 h1=>
 Q r1 h1) h
def zci1 (P:Program) (r:Option Addr) (s:S_api_Step) (Q:(Int->(Hp->Prop))) (h:Hp):Prop:=
 NilW none r fun p=>
 LdW none shPtr h (Addr.add p 0) fun x=>
 CallT P zmj [(.pointer x),(.int .i64 s.N)] (shInt .i64) (fun r1 h1=>
 Q r1 h1) h
def zdh (P:Program) (m:Option Addr) (p:Int) (v:Int) (Q:(Int->(Hp->Prop))) (h:Hp):Prop:=
 CallT P zfo [(.pointer m),(.int .i64 p)] (shInt .i64) (fun r h1=>
 (if (r !=(0:Int))=true then
 Q r h1
 else
 NilW none m fun p1=>
 LdW none shSl h1 (Addr.add p1 11) fun x=>
 ((InB x.base x.len p)/\LdW none shPtr h1 (sat x.base 1 p) fun x1=>
 NilW none m fun p2=>
 LdW none shSl h1 (Addr.add p2 10) fun x2=>
 NilW none x1 fun p3=>
 LdW none shPtr h1 (Addr.add p3 14) fun x3=>
 CallT P zlk [(.pointer x3),(.int .i64 (x2.len:Int)),(.int .i64 v)] (shInt .i64) (fun r1 h2=>
 (if (r1 !=(0:Int))=true then
 NilW none x1 fun p4=>
 LdW none shPtr h2 (Addr.add p4 14) fun x4=>
 Call0 P zgn [(.pointer x4),(.int .i64 (x2.len:Int))] (fun h3=>
 Q r1 h3) h2
 else
 Call0 P zcr [(.pointer m),(.pointer x1)] (fun h3=>
 Q (0:Int) h3) h2)) h1))) h
def zdv (P:Program) (m:Option Addr) (p:Int) (Q:(Int->(Hp->Prop))) (h:Hp):Prop:=
 CallT P zfo [(.pointer m),(.int .i64 p)] (shInt .i64) (fun r h1=>
 (if (r !=(0:Int))=true then
 Q r h1
 else
 NilW none m fun p1=>
 LdW none shSl h1 (Addr.add p1 11) fun x=>
 ((InB x.base x.len p)/\LdW none shPtr h1 (sat x.base 1 p) fun x1=>
 Call0 P zdt [(.pointer m),(.pointer x1),(.int .i64 (6:Int))] (fun h2=>
 Q (0:Int) h2) h1))) h
def zkk (P:Program) (l:Option Addr) (Q:(Sl->(Sl->(Hp->Prop)))) (h:Hp):Prop:=
 NilW none l fun p=>
 LdW none shSl h (Addr.add p 0) fun x=>
 LoopW3 (α1:=Sl) (α2:=Sl) (α3:=Int) (fun again owners queues t13 h1=>
 (if decide (t13<(x.len:Int)) then
 ((InB x.base x.len t13)/\LdW none sh_locks_lock h1 (sat x.base 2 t13) fun x1=>
 NewW [(.int .i64 x1.owner)] (fun a h2=>
 zai 1 8 [(.int .i64 (0:Int))] ⟨owners.base,owners.len,owners.cap⟩ ⟨(some a),1,1⟩ (fun r h3=>
 CallT P zdu [x1.queue.v] shSl (fun r1 h4=>
 NewW [r1.v] (fun a1 h5=>
 zai 1 24 [(.slice none 0 0)] ⟨queues.base,queues.len,queues.cap⟩ ⟨(some a1),1,1⟩ (fun r2 h6=>
 again r r2 (IntKind.wrap .i64 (t13+(1:Int))) h6) h5) h4) h3) h2) h1)
 else
 Q ⟨owners.base,owners.len,owners.cap⟩ ⟨queues.base,queues.len,queues.cap⟩ h1)) ⟨none,0,0⟩ ⟨none,0,0⟩ (0:Int) h
def zcf (P:Program) (s:Sl) (Q:(Sl->(Hp->Prop))) (h:Hp):Prop:=
 SemV none P (binS .eql 112 (.tmp 3) (.const (.slice none 0 0)) s.v (.slice none 0 0)) zae h fun x=>
 (if x then
 Q ⟨none,0,0⟩ h
 else
 NewW [] (fun a h1=>
 zai 3 24 [(.int .i64 (0:Int)),(.int .i64 (0:Int)),(.int .i64 (0:Int))] ⟨(some a),0,0⟩ s (fun r h2=>
 Q r h2) h1) h)
def zmz (P:Program) (p:Option Addr) (Q:(Sl->(Int->(Hp->Prop)))) (h:Hp):Prop:=
 NilW none p fun p1=>
 LdW none shSl h (Addr.add p1 0) fun x=>
 LoopW2 (α1:=Sl) (α2:=Int) (fun again out t12 h1=>
 (if decide (t12<(x.len:Int)) then
 ((InB x.base x.len t12)/\LdW none shPtr h1 (sat x.base 1 t12) fun x1=>
 CallT P zmu [(.pointer x1)] sh_api_Lane (fun r h2=>
 NewW [r.Values.v,r.Waiters.v,(.int .i64 r.Taken),(.int .i64 r.Dropped)] (fun a h3=>
 zai 4 64 [(.slice none 0 0),(.slice none 0 0),(.int .i64 (0:Int)),(.int .i64 (0:Int))] ⟨out.base,out.len,out.cap⟩ ⟨(some a),1,1⟩ (fun r1 h4=>
 again r1 (IntKind.wrap .i64 (t12+(1:Int))) h4) h3) h2) h1)
 else
 NilW none p fun p2=>
 LdW none (shInt .i64) h1 (Addr.add p2 1) fun x1=>
 Q ⟨out.base,out.len,out.cap⟩ x1 h1)) ⟨none,0,0⟩ (0:Int) h
def zir (P:Program) (w:Option Addr) (id_:Int) (Q:(Int->(Bool->(Hp->Prop)))) (h:Hp):Prop:=
 NilW none w fun p=>
 LdW none shMap h (Addr.add p 1) fun x=>
 LookW none (.int .i64) sh_wheel_entry (.agg #[(.int .i64 (0:Int)),(.int .i64 (0:Int))]) x (.int .i64 id_) h fun x1 ok=>
 Q x1.due ok h
def zlt (P:Program) (p:Int) (Q:(Int->(Hp->Prop))) (h:Hp):Prop:=
 Q (IntKind.wrap .i64 ((2:Int)*p)) h
def zlu (P:Program) (p:Int) (Q:(Int->(Hp->Prop))) (h:Hp):Prop:=
 Q (IntKind.wrap .i64 ((IntKind.wrap .i64 ((2:Int)*p))+(1:Int))) h
def zdw (P:Program) (m:Option Addr) (Q:(Int->(Hp->Prop))) (h:Hp):Prop:=
 NilW none m fun p=>
 LdW none shPtr h (Addr.add p 8) fun x=>
 NilW none m fun p1=>
 LdW none (shInt .i64) h (Addr.add p1 9) fun x1=>
 CallT P zpq [(.pointer x),(.int .i64 x1)] (shInt .i64) (fun r h1=>
 NilW none m fun p2=>
 LdW none shSl h1 (Addr.add p2 10) fun x2=>
 ((InB x2.base x2.len r)/\LdW none shPtr h1 (sat x2.base 1 r) fun x3=>
 Call0 P zib [(.pointer m),(.pointer x3)] (fun h2=>
 NilW none m fun p3=>
 LdW none (shInt .i64) h2 (Addr.add (Addr.add p3 0) 2) fun x4=>
 JoinW0 (fun k=>
 LoopW1 (α1:=Int) (fun again t32 h3=>
 (if decide (t32<x4) then
 NilW none x3 fun p4=>
 LdW none shSl h3 (Addr.add p4 0) fun x5=>
 LoopW1 (α1:=Int) (fun again1 t39 h4=>
 (if decide (t39<(x5.len:Int)) then
 NilW none x3 fun p5=>
 LdW none (shInt .i64) h4 (Addr.add p5 1) fun x6=>
 NilW none x3 fun p6=>
 LdW none shSl h4 (Addr.add p6 0) fun x7=>
 ((x7.len:Int)≠(0:Int)/\NilW none m fun p7=>
 LdW none shSl h4 (Addr.add p7 11) fun x8=>
 NilW none x3 fun p8=>
 LdW none shSl h4 (Addr.add p8 0) fun x9=>
 ((InB x9.base x9.len (Int.tmod (IntKind.wrap .i64 (x6+t39)) (x7.len:Int)))/\LdW none (shInt .i64) h4 (sat x9.base 1 (Int.tmod (IntKind.wrap .i64 (x6+t39)) (x7.len:Int))) fun x10=>
 ((InB x8.base x8.len x10)/\LdW none shPtr h4 (sat x8.base 1 x10) fun x11=>
 NilW none x11 fun p9=>
 LdW none (shInt .i64) h4 (Addr.add p9 3) fun x12=>
 (if (x12==(0:Int))=true then
 NilW none x3 fun p10=>
 LdW none shSl h4 (Addr.add p10 0) fun x13=>
 ((x13.len:Int)≠(0:Int)/\NilW none x3 fun p11=>
 StW h4 (Addr.add p11 1) [(.int .i64 (Int.tmod (IntKind.wrap .i64 ((Int.tmod (IntKind.wrap .i64 (x6+t39)) (x7.len:Int))+(1:Int))) (x13.len:Int)))] (fun h5=>
 Call0 P zha [(.pointer m),(.pointer x11)] (fun h6=>
 again (IntKind.wrap .i64 (t32+(1:Int))) h6) h5))
 else
 again1 (IntKind.wrap .i64 (t39+(1:Int))) h4))))
 else
 k h4)) (0:Int) h3
 else
 k h3)) (0:Int) h2)
 (fun h3=>
 NilW none m fun p4=>
 LdW none (shInt .i64) h3 (Addr.add p4 9) fun x5=>
 NilW none m fun p5=>
 StW h3 (Addr.add p5 9) [(.int .i64 (IntKind.wrap .i64 (x5+(1:Int))))] (fun h4=>
 Q r h4))) h1)) h
def zuy (P:Program) (a:Int) (b:Int) (Q:(Bool->(Hp->Prop))) (h:Hp):Prop:=
 Q ((bitsI .andNot .u64 a b)==(0:Int)) h
def zjl (P:Program) (c:S_api_Config) (Q:(Int->(Int->(Hp->Prop)))) (h:Hp):Prop:=
 Call2 P zjg [c.Labels.v] (shInt .i64) (shInt .i64) (fun r r1 h1=>
 (if (r !=(0:Int))=true then
 Q r (0:Int) h1
 else
 CallT P zll [c.Table.v,(.int .i64 (c.Labels.len:Int))] (shInt .i64) (fun r2 h2=>
 (if (r2 !=(0:Int))=true then
 Q r2 (1:Int) h2
 else
 CallT P zbe [(.int .i64 c.Fuel),(.int .i64 (1:Int)),(.int .i64 (256:Int))] zae (fun r3 h3=>
 ((True/\(True/\(True/\True)))/\CallT P zbe [(.int .i64 c.Lane),(.int .i64 (1:Int)),(.int .i64 (64:Int))] zae (fun r4 h4=>
 ((True/\(True/\True))/\CallT P zbe [(.int .i64 c.Locks),(.int .i64 (0:Int)),(.int .i64 (8:Int))] zae (fun r5 h5=>
 ((True/\True)/\CallT P zbe [(.int .i64 c.Log),(.int .i64 (0:Int)),(.int .i64 (4096:Int))] zae (fun r6 h6=>
 LoopW1 (α1:=Int) (fun again i h7=>
 (if decide (i<(4:Int)) then
 (((0:Int)<=i/\i<(4:Int))/\∃x:Bool,((List.get?Internal (α:=Value) [(.bool r3),(.bool r4),(.bool r5),(.bool r6)] (0+((Int.toNat i)*1)))=(some (.bool x))/\(if (!x)=true then
 Q (2:Int) (IntKind.wrap .i64 ((2:Int)+i)) h7
 else
 again (IntKind.wrap .i64 (i+(1:Int))) h7)))
 else
 (if ((c.Procs.len:Int)==(0:Int))=true then
 Q (1:Int) (6:Int) h7
 else
 (if decide ((c.Procs.len:Int)>(32:Int)) then
 Q (3:Int) (6:Int) h7
 else
 LoopW1 (α1:=Int) (fun again1 i1 h8=>
 (if decide (i1<(c.Procs.len:Int)) then
 ((InB c.Procs.base c.Procs.len i1)/\LdW none (shInt .i64) h8 (Addr.add (sat c.Procs.base 2 i1) 0) fun x=>
 CallT P zbe [(.int .i64 x),(.int .i64 (0:Int)),(.int .i64 (IntKind.wrap .i64 ((c.Labels.len:Int)-(1:Int))))] zae (fun r7 h9=>
 (if (!r7)=true then
 Q (2:Int) (IntKind.wrap .i64 ((7:Int)+i1)) h9
 else
 ((InB c.Procs.base c.Procs.len i1)/\LdW none shSl h9 (Addr.add (sat c.Procs.base 2 i1) 1) fun x1=>
 Call2 P zjh [x1.v,(.int .i64 c.Locks)] (shInt .i64) (shInt .i64) (fun r8 r9 h10=>
 (if (r8 !=(0:Int))=true then
 Q r8 (IntKind.wrap .i64 ((7:Int)+i1)) h10
 else
 again1 (IntKind.wrap .i64 (i1+(1:Int))) h10)) h9))) h8)
 else
 Q (0:Int) (0:Int) h8)) (0:Int) h7)))) (0:Int) h6) h5)) h4)) h3)) h2)) h1)) h
def zfx (P:Program) (b:Sl) (n:Int) (many:Int) (Q:(Sl->(Hp->Prop))) (h:Hp):Prop:=
 LoopW2 (α1:=Sl) (α2:=Int) (fun again b1 i h1=>
 (if decide (i<many) then
 ((0:Int)<=(IntKind.wrap .i64 ((8:Int)*i))/\NewW [(.int .u8 (IntKind.wrap .u8 (shrI .u64 n (IntKind.wrap .i64 ((8:Int)*i)))))] (fun a h2=>
 zai 1 1 [(.int .u8 (0:Int))] ⟨b1.base,b1.len,b1.cap⟩ ⟨(some a),1,1⟩ (fun r h3=>
 again r (IntKind.wrap .i64 (i+(1:Int))) h3) h2) h1)
 else
 Q ⟨b1.base,b1.len,b1.cap⟩ h1)) b (0:Int) h
def zjm (P:Program) (b:Sl) (x:S_api_Ins) (Q:(Sl->(Hp->Prop))) (h:Hp):Prop:=
 NewW [(.int .u8 (IntKind.wrap .u8 x.Op)),(.int .u8 (IntKind.wrap .u8 x.A)),(.int .u8 (IntKind.wrap .u8 x.B)),(.int .u8 (IntKind.wrap .u8 x.C))] (fun a h1=>
 zai 1 1 [(.int .u8 (0:Int))] b ⟨(some a),4,4⟩ (fun r h2=>
 LoopW2 (α1:=Sl) (α2:=Int) (fun again b1 i h3=>
 (if decide (i<(8:Int)) then
 ((0:Int)<=(IntKind.wrap .i64 ((8:Int)*i))/\NewW [(.int .u8 (IntKind.wrap .u8 (shrI .u64 (IntKind.wrap .u64 x.Imm) (IntKind.wrap .i64 ((8:Int)*i)))))] (fun a1 h4=>
 zai 1 1 [(.int .u8 (0:Int))] ⟨b1.base,b1.len,b1.cap⟩ ⟨(some a1),1,1⟩ (fun r1 h5=>
 again r1 (IntKind.wrap .i64 (i+(1:Int))) h5) h4) h3)
 else
 Q ⟨b1.base,b1.len,b1.cap⟩ h3)) r (0:Int) h2) h1) h
def zjn (P:Program) (r:Option Addr) (many:Int) (wrong:FnV) (Q:(Int->(Hp->Prop))) (h:Hp):Prop:=
 CallT P zay [(.pointer r)] zae (fun r1 h1=>
 (if r1 then
 Q (0:Int) h1
 else
 NilW none r fun p=>
 LdW none shSl h1 (Addr.add p 0) fun x=>
 NilW none r fun p1=>
 LdW none (shInt .i64) h1 (Addr.add p1 1) fun x1=>
 (if (decide ((IntKind.wrap .i64 ((x.len:Int)-x1))<many))=true then
 NilW none r fun p2=>
 LdW none shSl h1 (Addr.add p2 0) fun x2=>
 Call0 P zbj [(.pointer r),(.int .i64 (5:Int)),(.int .i64 (x2.len:Int))] (fun h2=>
 Q (0:Int) h2) h1
 else
 NilW none r fun p2=>
 LdW none shSl h1 (Addr.add p2 0) fun x2=>
 NilW none r fun p3=>
 LdW none (shInt .i64) h1 (Addr.add p3 1) fun x3=>
 NilW none r fun p4=>
 LdW none (shInt .i64) h1 (Addr.add p4 1) fun x4=>
 (((0:Int)<=x3/\(x3<=(IntKind.wrap .i64 (x4+many))/\(IntKind.wrap .i64 (x4+many))<=(x2.cap:Int)))/\LetW (α:=Sl) ⟨(sbase x2.base 1 (Int.toNat x3) x2.cap),((Int.toNat (IntKind.wrap .i64 (x4+many)))-(Int.toNat x3)),(x2.cap-(Int.toNat x3))⟩ fun y=>
 LoopW2 (α1:=Int) (α2:=Int) (fun again n t47 h2=>
 (if decide (t47<(y.len:Int)) then
 ((InB y.base y.len t47)/\LdW none (shInt .u8) h2 (sat y.base 1 t47) fun x5=>
 ((0:Int)<=(IntKind.wrap .i64 ((8:Int)*t47))/\again (bitsI .or .u64 n (shlI .u64 (IntKind.wrap .u64 x5) (IntKind.wrap .i64 ((8:Int)*t47)))) (IntKind.wrap .i64 (t47+(1:Int))) h2))
 else
 NilW none r fun p5=>
 LdW none (shInt .i64) h2 (Addr.add p5 1) fun x5=>
 CallV P tb (.func (.func wrong.g) wrong.first wrong.captured) [(.int .u64 n)] (shInt .i64) (fun r2 h3=>
 (((LdIs h3 (Addr.add p5 1) [(.int .i64 x5)])/\True)/\Call0 P zbj [(.pointer r),(.int .i64 r2),(.int .i64 x5)] (fun h4=>
 NilW none r fun p6=>
 LdW none (shInt .i64) h4 (Addr.add p6 1) fun x6=>
 NilW none r fun p7=>
 StW h4 (Addr.add p7 1) [(.int .i64 (IntKind.wrap .i64 (x6+many)))] (fun h5=>
 Q n h5)) h3)) h2)) (0:Int) (0:Int) h1)))) h
def zhd (P:Program) (n:Int) (a1:Addr) (Q:(Int->(Hp->Prop))) (h:Hp):Prop:=
 LdW none (shInt .i64) h a1 fun x=>
 (((0:Int)<=x/\x<(5:Int))/\(if ((IntKind.wrap .u8 n) !=(((UInt8.toNat (List.getD [70,66,67,70,1] (Int.toNat x) 0)):Nat):Int))=true then
 Q (4:Int) h
 else
 Q (0:Int) h))
def zhe (P:Program) (a:Int) (a1:Addr) (Q:(Int->(Hp->Prop))) (h:Hp):Prop:=
 LdW none shPtr h a1 fun x=>
 NilW none x fun p=>
 LdW none shSl h (Addr.add p 0) fun x1=>
 LdW (some (decide ((IntKind.wrap .i64 ((x1.len:Int)-(1:Int)))>=(0:Int)))) shPtr h a1 fun x2=>
 NilW (some (decide ((IntKind.wrap .i64 ((x1.len:Int)-(1:Int)))>=(0:Int)))) x2 fun p1=>
 LdW (some (decide ((IntKind.wrap .i64 ((x1.len:Int)-(1:Int)))>=(0:Int)))) shSl h (Addr.add p1 0) fun x3=>
 (((decide ((IntKind.wrap .i64 ((x1.len:Int)-(1:Int)))>=(0:Int)))=true->(InB x3.base x3.len (IntKind.wrap .i64 ((x1.len:Int)-(1:Int)))))/\LdW (some (decide ((IntKind.wrap .i64 ((x1.len:Int)-(1:Int)))>=(0:Int)))) (shInt .u64) h (sat x3.base 1 (IntKind.wrap .i64 ((x1.len:Int)-(1:Int)))) fun x4=>
 LetW ((decide ((IntKind.wrap .i64 ((x1.len:Int)-(1:Int)))>=(0:Int)))&&(a==x4)) fun y=>
 (if y then
 Q (8:Int) h
 else
 LdW (some (decide ((IntKind.wrap .i64 ((x1.len:Int)-(1:Int)))>=(0:Int)))) shPtr h a1 fun x5=>
 NilW (some (decide ((IntKind.wrap .i64 ((x1.len:Int)-(1:Int)))>=(0:Int)))) x5 fun p2=>
 LdW (some (decide ((IntKind.wrap .i64 ((x1.len:Int)-(1:Int)))>=(0:Int)))) shSl h (Addr.add p2 0) fun x6=>
 (((decide ((IntKind.wrap .i64 ((x1.len:Int)-(1:Int)))>=(0:Int)))=true->(InB x6.base x6.len (IntKind.wrap .i64 ((x1.len:Int)-(1:Int)))))/\LdW (some (decide ((IntKind.wrap .i64 ((x1.len:Int)-(1:Int)))>=(0:Int)))) (shInt .u64) h (sat x6.base 1 (IntKind.wrap .i64 ((x1.len:Int)-(1:Int)))) fun x7=>
 LetW ((decide ((IntKind.wrap .i64 ((x1.len:Int)-(1:Int)))>=(0:Int)))&&(decide (a<x7))) fun y1=>
 (if y1 then
 Q (7:Int) h
 else
 Q (0:Int) h))))
def zfy (P:Program) (r:Option Addr) (c:Option Addr) (Q:(Int->(Hp->Prop))) (h:Hp):Prop:=
 NewW [(.pointer c)] (fun a h1=>
 CallT P zez [(.pointer r),(.int .i64 (1:Int)),(.func (.func 131) #[] #[(.pointer (some a))])] (shInt .i64) (fun r1 h2=>
 Q r1 h2) h1) h
def zna (P:Program) (r:Option Addr) (many:Int) (wrong:FnV) (Q:(Int->(Hp->Prop))) (h:Hp):Prop:=
 NewW [(.func (.func wrong.g) wrong.first wrong.captured)] (fun a h1=>
 CallT P zav [(.pointer r),(.int .i64 many),(.func (.func 132) #[] #[(.pointer (some a))])] (shInt .u64) (fun r1 h2=>
 Q (IntKind.wrap .i64 r1) h2) h1) h
def zmm (P:Program) (n:Int) (a1:Addr) (Q:(Int->(Hp->Prop))) (h:Hp):Prop:=
 LdW none (shInt .i64) h a1 fun x=>
 CallT P zur [(.int .i64 x),(.int .i64 n)] (shInt .i64) (fun r h1=>
 Q r h1) h
def zuz (P:Program) (part:Int) (n:Int) (Q:(Int->(Hp->Prop))) (h:Hp):Prop:=
 (if (part==(2:Int))=true then
 CallT P zio [(.int .i64 n),(.int .i64 (1:Int)),(.int .i64 (256:Int))] zae (fun r h1=>
 (if (!r)=true then
 Q (2:Int) h1
 else
 Q (0:Int) h1)) h
 else
 (if (part==(3:Int))=true then
 CallT P zio [(.int .i64 n),(.int .i64 (1:Int)),(.int .i64 (64:Int))] zae (fun r h1=>
 (if (!r)=true then
 Q (2:Int) h1
 else
 Q (0:Int) h1)) h
 else
 (if (part==(4:Int))=true then
 CallT P zio [(.int .i64 n),(.int .i64 (0:Int)),(.int .i64 (8:Int))] zae (fun r h1=>
 (if (!r)=true then
 Q (2:Int) h1
 else
 Q (0:Int) h1)) h
 else
 (if (part==(5:Int))=true then
 CallT P zio [(.int .i64 n),(.int .i64 (0:Int)),(.int .i64 (4096:Int))] zae (fun r h1=>
 (if (!r)=true then
 Q (2:Int) h1
 else
 Q (0:Int) h1)) h
 else
 Q (0:Int) h))))
def zlv (P:Program) (n:Int) (a1:Addr) (Q:(Int->(Hp->Prop))) (h:Hp):Prop:=
 LdW none (shInt .i64) h a1 fun x=>
 CallT P zus [(.int .i64 n),(.int .i64 x)] (shInt .i64) (fun r h1=>
 Q r h1) h
def zdd1 (P:Program) (n:Int) (most:Int) (Q:(Int->(Hp->Prop))) (h:Hp):Prop:=
 (if (n==(0:Int))=true then
 Q (1:Int) h
 else
 (if decide (n>most) then
 Q (3:Int) h
 else
 Q (0:Int) h))
def zjo (P:Program) (n:Int) (Q:(Int->(Hp->Prop))) (h:Hp):Prop:=
 (if decide (n>(256:Int)) then
 Q (3:Int) h
 else
 Q (0:Int) h)
def znb (P:Program) (r:Option Addr) (n:Int) (locks:Int) (Q:(S_api_Ins->(Hp->Prop))) (h:Hp):Prop:=
 CallT P zay [(.pointer r)] zae (fun r1 h1=>
 (if r1 then
 Q ⟨(0:Int),(0:Int),(0:Int),(0:Int),(0:Int)⟩ h1
 else
 NilW none r fun p=>
 LdW none (shInt .i64) h1 (Addr.add p 1) fun x=>
 NilW none r fun p1=>
 LdW none shSl h1 (Addr.add p1 0) fun x1=>
 (if (decide ((IntKind.wrap .i64 ((x1.len:Int)-x))<(12:Int)))=true then
 NilW none r fun p2=>
 LdW none shSl h1 (Addr.add p2 0) fun x2=>
 Call0 P zbj [(.pointer r),(.int .i64 (5:Int)),(.int .i64 (x2.len:Int))] (fun h2=>
 Q ⟨(0:Int),(0:Int),(0:Int),(0:Int),(0:Int)⟩ h2) h1
 else
 CallT P zav [(.pointer r),(.int .i64 (1:Int)),(.func (.func 133) #[] #[])] (shInt .u64) (fun r2 h2=>
 CallT P zav [(.pointer r),(.int .i64 (1:Int)),(.func (.func 133) #[] #[])] (shInt .u64) (fun r3 h3=>
 CallT P zav [(.pointer r),(.int .i64 (1:Int)),(.func (.func 133) #[] #[])] (shInt .u64) (fun r4 h4=>
 CallT P zav [(.pointer r),(.int .i64 (1:Int)),(.func (.func 133) #[] #[])] (shInt .u64) (fun r5 h5=>
 CallT P zav [(.pointer r),(.int .i64 (8:Int)),(.func (.func 133) #[] #[])] (shInt .u64) (fun r6 h6=>
 CallT P zrm [(.agg #[(.int .i64 (IntKind.wrap .i64 r2)),(.int .i64 (IntKind.wrap .i64 r3)),(.int .i64 (IntKind.wrap .i64 r4)),(.int .i64 (IntKind.wrap .i64 r5)),(.int .i64 (IntKind.wrap .i64 r6))]),(.int .i64 n),(.int .i64 locks)] (shInt .i64) (fun r7 h7=>
 (if (r7 !=(0:Int))=true then
 CallT P zfg1 [(.agg #[(.int .i64 (IntKind.wrap .i64 r2)),(.int .i64 (IntKind.wrap .i64 r3)),(.int .i64 (IntKind.wrap .i64 r4)),(.int .i64 (IntKind.wrap .i64 r5)),(.int .i64 (IntKind.wrap .i64 r6))]),(.int .i64 r7)] (shInt .i64) (fun r8 h8=>
 Call0 P zbj [(.pointer r),(.int .i64 r7),(.int .i64 (IntKind.wrap .i64 (x+r8)))] (fun h9=>
 Q ⟨(IntKind.wrap .i64 r2),(IntKind.wrap .i64 r3),(IntKind.wrap .i64 r4),(IntKind.wrap .i64 r5),(IntKind.wrap .i64 r6)⟩ h9) h8) h7
 else
 Q ⟨(IntKind.wrap .i64 r2),(IntKind.wrap .i64 r3),(IntKind.wrap .i64 r4),(IntKind.wrap .i64 r5),(IntKind.wrap .i64 r6)⟩ h7)) h6) h5) h4) h3) h2) h1))) h
def zpw (P:Program) (l:Sl) (Q:(Int->(Int->(Hp->Prop)))) (h:Hp):Prop:=
 (if ((l.len:Int)==(0:Int))=true then
 Q (1:Int) (0:Int) h
 else
 (if decide ((l.len:Int)>(8:Int)) then
 Q (3:Int) (8:Int) h
 else
 LoopW1 (α1:=Int) (fun again i h1=>
 (if decide (i<(l.len:Int)) then
 ((InB l.base l.len i)/\LdW none (shInt .u64) h1 (sat l.base 1 i) fun x=>
 ((InB l.base l.len (IntKind.wrap .i64 (i-(1:Int))))/\LdW none (shInt .u64) h1 (sat l.base 1 (IntKind.wrap .i64 (i-(1:Int)))) fun x1=>
 (if (x==x1)=true then
 Q (8:Int) i h1
 else
 ((InB l.base l.len i)/\LdW none (shInt .u64) h1 (sat l.base 1 i) fun x2=>
 ((InB l.base l.len (IntKind.wrap .i64 (i-(1:Int))))/\LdW none (shInt .u64) h1 (sat l.base 1 (IntKind.wrap .i64 (i-(1:Int)))) fun x3=>
 (if decide (x2<x3) then
 Q (7:Int) i h1
 else
 again (IntKind.wrap .i64 (i+(1:Int))) h1))))))
 else
 Q (0:Int) (0:Int) h1)) (1:Int) h))
def zpx (P:Program) (table:Sl) (parts:Int) (Q:(Option Addr->(Int->(Int->(Hp->Prop))))) (h:Hp):Prop:=
 NewW [(.int .i64 parts)] (fun a h1=>
 LdW none (shInt .i64) h1 a fun x=>
 LdW (some (!(decide (x<(1:Int))))) (shInt .i64) h1 a fun x1=>
 LetW ((decide (x<(1:Int))) || (decide (x1>(8:Int)))) fun y=>
 LetW (y || ((table.len:Int)==(0:Int))) fun y1=>
 (if y1 then
 Q none (1:Int) (0:Int) h1
 else
 (if decide ((table.len:Int)>(64:Int)) then
 Q none (3:Int) (64:Int) h1
 else
 CallT P ziy [table.v,(.func (.func 137) #[] #[(.pointer (some a))])] (shInt .i64) (fun r h2=>
 (if decide (r>=(0:Int)) then
 Q none (2:Int) r h2
 else
 LdW none (shInt .i64) h2 a fun x2=>
 CallT P zdu [table.v] shSl (fun r1 h3=>
 (((LdIs h3 a [(.int .i64 x2)])/\True)/\NewW [r1.v,(.int .i64 x2)] (fun a1 h4=>
 Q (some a1) (0:Int) (0:Int) h4) h3)) h2)) h1))) h
def zva (P:Program) (n:Int) (from_:Int) (to:Int) (Q:(Bool->(Hp->Prop))) (h:Hp):Prop:=
 LetW ((decide (n>=from_))&&(decide (n<=to))) fun y=>
 Q y h
def zhj1 (P:Program) (l:Sl) (locks:Int) (Q:(Int->(Int->(Hp->Prop)))) (h:Hp):Prop:=
 LetW ((decide (locks<(0:Int))) || (decide (locks>(8:Int)))) fun y=>
 (if y then
 Q (1:Int) (0:Int) h
 else
 (if decide ((l.len:Int)>(256:Int)) then
 Q (3:Int) (256:Int) h
 else
 LoopW1 (α1:=Int) (fun again t22 h1=>
 (if decide (t22<(l.len:Int)) then
 ((InB l.base l.len t22)/\LdW none sh_api_Ins h1 (sat l.base 5 t22) fun x=>
 CallT P zrm [x.v,(.int .i64 (l.len:Int)),(.int .i64 locks)] (shInt .i64) (fun r h2=>
 (if (r !=(0:Int))=true then
 Q r t22 h2
 else
 again (IntKind.wrap .i64 (t22+(1:Int))) h2)) h1)
 else
 Q (0:Int) (0:Int) h1)) (0:Int) h))
def zog (P:Program) (c:S_api_Config) (Q:(S_api_Config->(Hp->Prop))) (h:Hp):Prop:=
 CallT P zdm [c.Labels.v] shSl (fun r h1=>
 ((True/\(True/\True))/\CallT P zdu [c.Table.v] shSl (fun r1 h2=>
 ((True/\True)/\CallT P zer [c.Procs.v] shSl (fun r2 h3=>
 LoopW1 (α1:=Int) (fun again t20 h4=>
 (if decide (t20<(r2.len:Int)) then
 ((InB r2.base r2.len t20)/\LdW none sh_api_Proc h4 (sat r2.base 2 t20) fun x=>
 CallT P zfh [x.Code.v] shSl (fun r3 h5=>
 ((True/\True)/\((InB r2.base r2.len t20)/\StW h5 (Addr.add (sat r2.base 2 t20) 1) [r3.v] (fun h6=>
 again (IntKind.wrap .i64 (t20+(1:Int))) h6)))) h4)
 else
 Q ⟨r,r1,c.Fuel,c.Lane,c.Locks,c.Log,r2⟩ h4)) (0:Int) h3) h2)) h1)) h
def zpy (P:Program) (l:Sl) (Q:(Option Addr->(Int->(Int->(Hp->Prop))))) (h:Hp):Prop:=
 Call2 P zut [l.v] (shInt .i64) (shInt .i64) (fun r r1 h1=>
 (if (r !=(0:Int))=true then
 Q none r r1 h1
 else
 CallT P zdm [l.v] shSl (fun r2 h2=>
 zaf1  (fun r3 h3=>
 NewW [r2.v,(.map r3)] (fun a h4=>
 NilW none (some a) fun p=>
 LdW none shSl h4 (Addr.add p 0) fun x=>
 LoopW1 (α1:=Int) (fun again t29 h5=>
 (if decide (t29<(x.len:Int)) then
 ((InB x.base x.len t29)/\LdW none (shInt .u64) h5 (sat x.base 1 t29) fun x1=>
 NilW none (some a) fun p1=>
 LdW none shMap h5 (Addr.add p1 1) fun x2=>
 zrq (.int .u64) x2 (.int .u64 x1) (.int .i64 t29) (fun h6=>
 again (IntKind.wrap .i64 (t29+(1:Int))) h6) h5)
 else
 Q (some a) (0:Int) (0:Int) h5)) (0:Int) h4) h3) h2) h1)) h
def zde1 (P:Program) (owners:Sl) (queues:Sl) (Q:(Option Addr->(Int->(Hp->Prop)))) (h:Hp):Prop:=
 LetW ((decide ((owners.len:Int)>(8:Int))) || (decide ((queues.len:Int)>(8:Int)))) fun y=>
 (if y then
 Q none (3:Int) h
 else
 (if ((owners.len:Int) !=(queues.len:Int))=true then
 Q none (4:Int) h
 else
 NewW [(.slice none 0 0)] (fun a h1=>
 LoopW1 (α1:=Int) (fun again t30 h2=>
 (if decide (t30<(owners.len:Int)) then
 ((InB owners.base owners.len t30)/\LdW none (shInt .i64) h2 (sat owners.base 1 t30) fun x=>
 ((((!(decide (x<(-1:Int))))&&(x==(-1:Int)))=true->(InB queues.base queues.len t30))/\LdW (some ((!(decide (x<(-1:Int))))&&(x==(-1:Int)))) shSl h2 (sat queues.base 1 t30) fun x1=>
 LetW ((x==(-1:Int))&&(decide ((x1.len:Int)>(0:Int)))) fun y1=>
 LetW ((decide (x<(-1:Int))) || y1) fun y2=>
 (if y2 then
 Q none (4:Int) h2
 else
 NilW none (some a) fun p=>
 LdW none shSl h2 (Addr.add p 0) fun x2=>
 NewW [(.int .i64 x),(.slice none 0 0)] (fun a1 h3=>
 zai 2 32 [(.int .i64 (0:Int)),(.slice none 0 0)] x2 ⟨(some a1),1,1⟩ (fun r h4=>
 NilW none (some a) fun p1=>
 StW h4 (Addr.add p1 0) [r.v] (fun h5=>
 ((InB queues.base queues.len t30)/\LdW none shSl h5 (sat queues.base 1 t30) fun x3=>
 LoopW1 (α1:=Int) (fun again1 t65 h6=>
 (if decide (t65<(x3.len:Int)) then
 ((InB x3.base x3.len t65)/\LdW none (shInt .i64) h6 (sat x3.base 1 t65) fun x4=>
 Call2 P zfq [(.pointer (some a)),(.int .i64 x4)] (shInt .i64) zae (fun r1 r2 h7=>
 LetW (r2 || (decide (x4<(0:Int)))) fun y3=>
 LetW (y3 || (x4==x)) fun y4=>
 (if y4 then
 Q none (4:Int) h7
 else
 NilW none (some a) fun p2=>
 LdW none shSl h7 (Addr.add p2 0) fun x5=>
 NilW none (some a) fun p3=>
 LdW none shSl h7 (Addr.add p3 0) fun x6=>
 ((InB x6.base x6.len t30)/\LdW none shSl h7 (Addr.add (sat x6.base 2 t30) 1) fun x7=>
 NewW [(.int .i64 x4)] (fun a2 h8=>
 (((LdIs h8 (Addr.add p2 0) [x5.v])/\((LdIs h8 (Addr.add p3 0) [x6.v])/\((LdIs h8 (Addr.add (sat x6.base 2 t30) 1) [x7.v])/\True)))/\zai 1 8 [(.int .i64 (0:Int))] x7 ⟨(some a2),1,1⟩ (fun r3 h9=>
 (((LdIs h9 (Addr.add p2 0) [x5.v])/\True)/\((InB x5.base x5.len t30)/\StW h9 (Addr.add (sat x5.base 2 t30) 1) [r3.v] (fun h10=>
 again1 (IntKind.wrap .i64 (t65+(1:Int))) h10)))) h8)) h7))) h6)
 else
 again (IntKind.wrap .i64 (t30+(1:Int))) h6)) (0:Int) h5))) h3) h2)))
 else
 Q (some a) (0:Int) h2)) (0:Int) h1) h))
def zvb (P:Program)  (Q:(Option Addr->(Hp->Prop))) (h:Hp):Prop:=
 zaf1  (fun r h1=>
 NewW [(.slice none 0 0),(.map r)] (fun a h2=>
 Q (some a) h2) h1) h
def zhk1 (P:Program) (room:Int) (l:Sl) (cursor:Int) (Q:(Option Addr->(Int->(Hp->Prop)))) (h:Hp):Prop:=
 LetW ((decide ((l.len:Int)<(1:Int))) || (decide ((l.len:Int)>(9:Int)))) fun y=>
 LetW (y || (decide (room<(1:Int)))) fun y1=>
 LetW (y1 || (decide (room>(64:Int)))) fun y2=>
 (if y2 then
 Q none (1:Int) h
 else
 LetW ((decide (cursor<(0:Int))) || (decide (cursor>=(l.len:Int)))) fun y3=>
 (if y3 then
 Q none (2:Int) h
 else
 NewW [(.slice none 0 0),(.int .i64 cursor)] (fun a h1=>
 LoopW1 (α1:=Int) (fun again t44 h2=>
 (if decide (t44<(l.len:Int)) then
 ((InB l.base l.len t44)/\LdW none sh_api_Lane h2 (sat l.base 4 t44) fun x=>
 Call2 P zhd1 [(.int .i64 room),x.v] shPtr (shInt .i64) (fun r r1 h3=>
 (if (r1 !=(0:Int))=true then
 Q none (4:Int) h3
 else
 NilW none (some a) fun p=>
 LdW none shSl h3 (Addr.add p 0) fun x1=>
 NewW [(.pointer r)] (fun a1 h4=>
 zai 1 8 [(.pointer none)] x1 ⟨(some a1),1,1⟩ (fun r2 h5=>
 NilW none (some a) fun p1=>
 StW h5 (Addr.add p1 0) [r2.v] (fun h6=>
 again (IntKind.wrap .i64 (t44+(1:Int))) h6)) h4) h3)) h2)
 else
 Q (some a) (0:Int) h2)) (0:Int) h1) h))
def zis (P:Program) (w:Option Addr) (id_:Int) (due:Int) (Q:(Int->(Hp->Prop))) (h:Hp):Prop:=
 LetW ((decide (id_<(0:Int))) || (decide (due<(0:Int)))) fun y=>
 (if y then
 Q (1:Int) h
 else
 CallT P zby [(.pointer w),(.int .i64 id_)] zae (fun r h1=>
 NilW none w fun p=>
 LdW none shSl h1 (Addr.add p 0) fun x=>
 Call2 P zah [x.v,(.agg #[(.int .i64 due),(.int .i64 id_)]),(.func (.func 145) #[] #[])] (shInt .i64) zae (fun r1 r2 h2=>
 NilW none w fun p1=>
 LdW none shSl h2 (Addr.add p1 0) fun x1=>
 NewW [(.int .i64 due),(.int .i64 id_)] (fun a h3=>
 (((LdIs h3 (Addr.add p1 0) [x1.v])/\True)/\CallT P zbm [x1.v,(.int .i64 r1),(.slice (some a) 1 1)] shSl (fun r3 h4=>
 NilW none w fun p2=>
 StW h4 (Addr.add p2 0) [r3.v] (fun h5=>
 NilW none w fun p3=>
 LdW none shMap h5 (Addr.add p3 1) fun x2=>
 zrq (.int .i64) x2 (.int .i64 id_) (.agg #[(.int .i64 due),(.int .i64 id_)]) (fun h6=>
 Q (0:Int) h6) h5)) h3)) h2) h1) h)
def zfz (P:Program) (x:Sl) (count:Int) (Q:(Sl->(Hp->Prop))) (h:Hp):Prop:=
 JoinW0 (fun k=>
 (if decide (count<(0:Int)) then
 False
 else
 k h))
 (fun h1=>
 Call2 P zpr [(.int .u64 (IntKind.wrap .u64 (x.len:Int))),(.int .u64 (IntKind.wrap .u64 count))] (shInt .u64) (shInt .u64) (fun r r1 h2=>
 JoinW0 (fun k=>
 LetW ((decide (r>(0:Int))) || (decide (r1>(9223372036854775807:Int)))) fun y=>
 (if y then
 False
 else
 k h2))
 (fun h3=>
 MakeW 8 [(.int .i64 (0:Int))] (IntKind.wrap .i64 r1) (IntKind.wrap .i64 r1) (fun r2 h4=>
 CopyW 1 r2 x (fun r3 h5=>
 LoopW1 (α1:=Int) (fun again n h6=>
 (if decide (n<(r2.len:Int)) then
 (((0:Int)<=n/\n<=(r2.len:Int))/\LetW (α:=Sl) ⟨(sbase r2.base 1 (Int.toNat n) r2.cap),(r2.len-(Int.toNat n)),(r2.cap-(Int.toNat n))⟩ fun y=>
 (((0:Int)<=n/\n<=(r2.cap:Int))/\LetW (α:=Sl) ⟨(sbase r2.base 1 0 r2.cap),((Int.toNat n)-0),(r2.cap-0)⟩ fun y1=>
 CopyW 1 y y1 (fun r4 h7=>
 again (IntKind.wrap .i64 (n+r4)) h7) h6))
 else
 Q r2 h6)) r3 h5) h4) h3)) h1)
def zhf (P:Program) (x:S_api_Ins) (n:Int) (locks:Int) (Q:(Int->(Int->(Hp->Prop)))) (h:Hp):Prop:=
 LetW ((decide (x.Op<(0:Int))) || (decide (x.Op>=(34:Int)))) fun y=>
 (if y then
 Q (9:Int) (0:Int) h
 else
 Call4 P zfr [(.int .i64 x.Op)] zae zae zae zae (fun r r1 r2 r3 h1=>
 CallT P zcx [(.int .i64 x.A),(.bool r)] (shInt .i64) (fun r4 h2=>
 (if (r4 !=(0:Int))=true then
 Q r4 (1:Int) h2
 else
 CallT P zcx [(.int .i64 x.B),(.bool r1)] (shInt .i64) (fun r5 h3=>
 (if (r5 !=(0:Int))=true then
 Q r5 (2:Int) h3
 else
 CallT P zcx [(.int .i64 x.C),(.bool r2)] (shInt .i64) (fun r6 h4=>
 (if (r6 !=(0:Int))=true then
 Q r6 (3:Int) h4
 else
 LetW ((!r3)&&(x.Imm !=(0:Int))) fun y1=>
 (if y1 then
 Q (11:Int) (4:Int) h4
 else
 LetW ((x.Op==(22:Int)) || (x.Op==(23:Int))) fun y2=>
 LetW ((decide (x.Imm<(0:Int))) || (decide (x.Imm>n))) fun y3=>
 LetW (y2&&y3) fun y4=>
 (if y4 then
 Q (12:Int) (4:Int) h4
 else
 LetW ((x.Op==(29:Int)) || (x.Op==(30:Int))) fun y5=>
 LetW ((decide (x.Imm<(0:Int))) || (decide (x.Imm>=locks))) fun y6=>
 LetW (y5&&y6) fun y7=>
 (if y7 then
 Q (13:Int) (4:Int) h4
 else
 Q (0:Int) (0:Int) h4))))) h3)) h2)) h1) h)
def zga (P:Program) (m:Option Addr) (p:Int) (Q:(Int->(Hp->Prop))) (h:Hp):Prop:=
 NilW (some (!(decide (p<(0:Int))))) m fun p1=>
 LdW (some (!(decide (p<(0:Int))))) shSl h (Addr.add p1 11) fun x=>
 LetW ((decide (p<(0:Int))) || (decide (p>=(x.len:Int)))) fun y=>
 (if y then
 Q (17:Int) h
 else
 NilW none m fun p2=>
 LdW none shSl h (Addr.add p2 11) fun x1=>
 ((InB x1.base x1.len p)/\LdW none shPtr h (sat x1.base 1 p) fun x2=>
 NilW none x2 fun p3=>
 LdW none (shInt .i64) h (Addr.add p3 3) fun x3=>
 CallT P zlo [(.int .i64 x3)] zae (fun r h1=>
 (if (!r)=true then
 Q (18:Int) h1
 else
 Q (0:Int) h1)) h))
def zlw (P:Program) (p:Option Addr) (lane:Int) (v:Int) (Q:(Int->(Hp->Prop))) (h:Hp):Prop:=
 CallT P zip [(.pointer p),(.int .i64 lane)] zae (fun r h1=>
 (if (!r)=true then
 Q (2:Int) h1
 else
 NilW none p fun p1=>
 LdW none shSl h1 (Addr.add p1 0) fun x=>
 ((InB x.base x.len lane)/\LdW none shPtr h1 (sat x.base 1 lane) fun x1=>
 CallT P zyy [(.pointer x1),(.int .i64 v)] (shInt .i64) (fun r1 h2=>
 Q r1 h2) h1))) h
def zkd (P:Program) (p:Option Addr) (lane:Int) (Q:(Hp->Prop)) (h:Hp):Prop:=
 CallT P zip [(.pointer p),(.int .i64 lane)] zae (fun r h1=>
 (if r then
 NilW none p fun p1=>
 LdW none shSl h1 (Addr.add p1 0) fun x=>
 ((InB x.base x.len lane)/\LdW none shPtr h1 (sat x.base 1 lane) fun x1=>
 Call0 P zob [(.pointer x1)] (fun h2=>
 Q h2) h1)
 else
 Q h1)) h
def zhg (P:Program) (m:Option Addr) (q:Option Addr) (Q:(Hp->Prop)) (h:Hp):Prop:=
 NilW none q fun p=>
 LdW none (shInt .i64) h (Addr.add p 3) fun x=>
 (if (x==(1:Int))=true then
 NilW none q fun p1=>
 StW h (Addr.add p1 3) [(.int .i64 (0:Int))] (fun h1=>
 Q h1)
 else
 Q h)
def zhh (P:Program) (m:Option Addr) (p:Option Addr) (state:Int) (Q:(Hp->Prop)) (h:Hp):Prop:=
 NilW none m fun p1=>
 LdW none shSl h (Addr.add p1 10) fun x=>
 NilW none p fun p2=>
 LdW none (shInt .i64) h (Addr.add p2 1) fun x1=>
 ((InB x.base x.len x1)/\LdW none shPtr h (sat x.base 1 x1) fun x2=>
 NilW none p fun p3=>
 StW h (Addr.add p3 3) [(.int .i64 state)] (fun h1=>
 NilW none p fun p4=>
 StW h1 (Addr.add p4 13) [(.bool false)] (fun h2=>
 NilW none x2 fun p5=>
 LdW none shSl h2 (Addr.add p5 0) fun x3=>
 LoopW1 (α1:=Int) (fun again t35 h3=>
 (if decide (t35<(x3.len:Int)) then
 ((InB x3.base x3.len t35)/\LdW none (shInt .i64) h3 (sat x3.base 1 t35) fun x4=>
 NilW none m fun p6=>
 LdW none shSl h3 (Addr.add p6 11) fun x5=>
 ((InB x5.base x5.len x4)/\LdW none shPtr h3 (sat x5.base 1 x4) fun x6=>
 NilW none x6 fun p7=>
 LdW none shPtr h3 (Addr.add p7 14) fun x7=>
 NilW none p fun p8=>
 LdW none (shInt .i64) h3 (Addr.add p8 0) fun x8=>
 CallT P zmv [(.pointer x7),(.int .i64 x8)] zae (fun r h4=>
 again (IntKind.wrap .i64 (t35+(1:Int))) h4) h3))
 else
 NilW none x2 fun p6=>
 LdW none shPtr h3 (Addr.add p6 5) fun x4=>
 NilW none p fun p7=>
 LdW none (shInt .i64) h3 (Addr.add p7 0) fun x5=>
 CallT P ztk [(.pointer x4),(.int .i64 x5)] shSl (fun r h4=>
 LoopW1 (α1:=Int) (fun again1 t65 h5=>
 (if decide (t65<(r.len:Int)) then
 ((InB r.base r.len t65)/\LdW none znp h5 (sat r.base 2 t65) fun x6=>
 Call0 P zbf [(.pointer m),(.int .i64 x6.Proc)] (fun h6=>
 again1 (IntKind.wrap .i64 (t65+(1:Int))) h6) h5)
 else
 NilW none x2 fun p8=>
 LdW none shPtr h5 (Addr.add p8 6) fun x6=>
 NilW none p fun p9=>
 LdW none (shInt .i64) h5 (Addr.add p9 0) fun x7=>
 CallT P zbs [(.int .i64 x7)] (shInt .i64) (fun r1 h6=>
 (((LdIs h6 (Addr.add p8 6) [(.pointer x6)])/\True)/\CallT P zby [(.pointer x6),(.int .i64 r1)] zae (fun r2 h7=>
 NilW none x2 fun p10=>
 LdW none shPtr h7 (Addr.add p10 6) fun x8=>
 NilW none p fun p11=>
 LdW none (shInt .i64) h7 (Addr.add p11 0) fun x9=>
 CallT P zcl [(.int .i64 x9)] (shInt .i64) (fun r3 h8=>
 (((LdIs h8 (Addr.add p10 6) [(.pointer x8)])/\True)/\CallT P zby [(.pointer x8),(.int .i64 r3)] zae (fun r4 h9=>
 NilW none p fun p12=>
 LdW none shPtr h9 (Addr.add p12 14) fun x10=>
 CallT P zyz [(.pointer x10)] shSl (fun r5 h10=>
 LoopW1 (α1:=Int) (fun again2 t100 h11=>
 (if decide (t100<(r5.len:Int)) then
 ((InB r5.base r5.len t100)/\LdW none sh_api_Waiter h11 (sat r5.base 2 t100) fun x11=>
 NilW none m fun p13=>
 LdW none shSl h11 (Addr.add p13 11) fun x12=>
 ((InB x12.base x12.len x11.Proc)/\LdW none shPtr h11 (sat x12.base 1 x11.Proc) fun x13=>
 Call0 P zal [(.pointer m),(.pointer x13),(.int .i64 (2:Int))] (fun h12=>
 again2 (IntKind.wrap .i64 (t100+(1:Int))) h12) h11))
 else
 Q h11)) (0:Int) h10) h9) h8)) h7) h6)) h5)) (0:Int) h4) h3)) (0:Int) h2)))
def zbp (P:Program) (s:Sl) (Q:(Sl->(Hp->Prop))) (h:Hp):Prop:=
 SemV none P (binS .eql 23 (.tmp 3) (.const (.slice none 0 0)) s.v (.slice none 0 0)) zae h fun x=>
 (if x then
 Q ⟨none,0,0⟩ h
 else
 NewW [] (fun a h1=>
 zai 1 8 [(.int .i64 (0:Int))] ⟨(some a),0,0⟩ s (fun r h2=>
 Q r h2) h1) h)
def zdz (P:Program) (s:Sl) (Q:(Sl->(Hp->Prop))) (h:Hp):Prop:=
 SemV none P (binS .eql 184 (.tmp 3) (.const (.slice none 0 0)) s.v (.slice none 0 0)) zae h fun x=>
 (if x then
 Q ⟨none,0,0⟩ h
 else
 NewW [] (fun a h1=>
 zai 1 8 [(.int .i64 (0:Int))] ⟨(some a),0,0⟩ s (fun r h2=>
 Q r h2) h1) h)
def zbv (P:Program) (s:Sl) (Q:(Sl->(Hp->Prop))) (h:Hp):Prop:=
 SemV none P (binS .eql 185 (.tmp 3) (.const (.slice none 0 0)) s.v (.slice none 0 0)) zae h fun x=>
 (if x then
 Q ⟨none,0,0⟩ h
 else
 NewW [] (fun a h1=>
 zai 2 16 [(.int .i64 (0:Int)),(.int .i64 (0:Int))] ⟨(some a),0,0⟩ s (fun r h2=>
 Q r h2) h1) h)
def znc (P:Program) (l:Option Addr) (Q:(S_api_Lane->(Hp->Prop))) (h:Hp):Prop:=
 NilW none l fun p=>
 LdW none shSl h (Addr.add p 1) fun x=>
 NilW none l fun p1=>
 LdW none shSl h (Addr.add p1 2) fun x1=>
 NilW none l fun p2=>
 LdW none (shInt .i64) h (Addr.add p2 3) fun x2=>
 NilW none l fun p3=>
 LdW none (shInt .i64) h (Addr.add p3 4) fun x3=>
 CallT P zdy [x.v] shSl (fun r h1=>
 (((LdIs h1 (Addr.add p1 2) [x1.v])/\((LdIs h1 (Addr.add p2 3) [(.int .i64 x2)])/\((LdIs h1 (Addr.add p3 4) [(.int .i64 x3)])/\True)))/\CallT P zbt [x1.v] shSl (fun r1 h2=>
 (((LdIs h2 (Addr.add p2 3) [(.int .i64 x2)])/\((LdIs h2 (Addr.add p3 4) [(.int .i64 x3)])/\True))/\Q ⟨r,r1,x2,x3⟩ h2)) h1)) h
def zkl (P:Program) (s:Option Addr) (t:Int) (Q:(Int->(Hp->Prop))) (h:Hp):Prop:=
 (if decide (t<(0:Int)) then
 Q (-1:Int) h
 else
 NilW none s fun p=>
 LdW none shSl h (Addr.add p 0) fun x=>
 NilW none s fun p1=>
 LdW none shSl h (Addr.add p1 0) fun x1=>
 ((x1.len:Int)≠(0:Int)/\((InB x.base x.len (Int.tmod t (x1.len:Int)))/\LdW none (shInt .i64) h (sat x.base 1 (Int.tmod t (x1.len:Int))) fun x2=>
 Q x2 h)))
def zid (P:Program) (m:Option Addr) (x:Option Addr) (Q:(Hp->Prop)) (h:Hp):Prop:=
 NilW none x fun p=>
 LdW none shPtr h (Addr.add p 6) fun x1=>
 NilW none m fun p1=>
 LdW none (shInt .i64) h (Addr.add p1 9) fun x2=>
 CallT P ztl [(.pointer x1),(.int .i64 x2)] shSl (fun r h1=>
 LoopW1 (α1:=Int) (fun again t17 h2=>
 (if decide (t17<(r.len:Int)) then
 JoinW0 (fun k=>
 ((InB r.base r.len t17)/\LdW none (shInt .i64) h2 (sat r.base 1 t17) fun x3=>
 NilW none m fun p2=>
 LdW none shSl h2 (Addr.add p2 11) fun x4=>
 ((2:Int)≠(0:Int)/\((InB x4.base x4.len (IntKind.wrap .i64 (Int.tdiv x3 (2:Int))))/\LdW none shPtr h2 (sat x4.base 1 (IntKind.wrap .i64 (Int.tdiv x3 (2:Int)))) fun x5=>
 NilW none x5 fun p3=>
 LdW none (shInt .i64) h2 (Addr.add p3 0) fun x6=>
 CallT P zcl [(.int .i64 x6)] (shInt .i64) (fun r1 h3=>
 (if (x3==r1)=true then
 NilW none x5 fun p4=>
 LdW none zad h3 (Addr.add p4 4) fun x7=>
 CallT P zgv [x7.v] zad (fun r2 h4=>
 Call0 P zcs [(.pointer m),(.pointer x5),r2.v] (fun h5=>
 k h5) h4) h3
 else
 NilW none x5 fun p4=>
 StW h3 (Addr.add p4 13) [(.bool true)] (fun h4=>
 NilW none x5 fun p5=>
 LdW none (shInt .i64) h4 (Addr.add p5 3) fun x7=>
 (if (x7==(1:Int))=true then
 NilW none x5 fun p6=>
 StW h4 (Addr.add p6 3) [(.int .i64 (0:Int))] (fun h5=>
 k h5)
 else
 k h4)))) h2))))
 (fun h3=>
 again (IntKind.wrap .i64 (t17+(1:Int))) h3)
 else
 Q h2)) (0:Int) h1) h
def zhi (P:Program) (m:Option Addr) (p:Option Addr) (Q:(Hp->Prop)) (h:Hp):Prop:=
 NilW none p fun p1=>
 LdW none zad h (Addr.add p1 4) fun x=>
 NilW none p fun p2=>
 LdW none shSl h (Addr.add p2 2) fun x1=>
 NilW none m fun p3=>
 LdW none (shInt .i64) h (Addr.add p3 9) fun x2=>
 NilW none p fun p4=>
 LdW none (shInt .i64) h (Addr.add p4 0) fun x3=>
 Call2 P zhe1 [x.v,x1.v,(.int .i64 x2),(.int .i64 x3)] zad zkf (fun r r1 h1=>
 NilW none p fun p5=>
 StW h1 (Addr.add p5 4) [(.int .i64 r.PC),(.int .i64 r.Regs_0),(.int .i64 r.Regs_1),(.int .i64 r.Regs_2),(.int .i64 r.Regs_3),(.int .i64 r.Regs_4),(.int .i64 r.Regs_5),(.int .i64 r.Regs_6),(.int .i64 r.Regs_7)] (fun h2=>
 NilW none m fun p6=>
 LdW none shSl h2 (Addr.add p6 10) fun x4=>
 NilW none p fun p7=>
 LdW none (shInt .i64) h2 (Addr.add p7 1) fun x5=>
 ((InB x4.base x4.len x5)/\LdW none shPtr h2 (sat x4.base 1 x5) fun x6=>
 (if (r1.Kind==(1:Int))=true then
 Call0 P zdt [(.pointer m),(.pointer p),(.int .i64 (5:Int))] (fun h3=>
 Q h3) h2
 else
 (if (r1.Kind==(2:Int))=true then
 Call0 P zfs [(.pointer m),(.pointer p),(.int .i64 r1.To),(.int .i64 r1.Value_)] (fun h3=>
 Q h3) h2
 else
 JoinW1 (α1:=Bool) (fun k=>
 (if (r1.Kind==(3:Int))=true then
 k (r1.Kind==(3:Int)) h2
 else
 k (r1.Kind==(4:Int)) h2))
 (fun t61 h3=>
 (if t61 then
 Call0 P zft [(.pointer m),(.pointer p),(.bool (r1.Kind==(4:Int)))] (fun h4=>
 Q h4) h3
 else
 (if (r1.Kind==(5:Int))=true then
 NilW none p fun p8=>
 StW h3 (Addr.add p8 13) [(.bool false)] (fun h4=>
 NilW none x6 fun p9=>
 LdW none shPtr h4 (Addr.add p9 6) fun x7=>
 NilW none p fun p10=>
 LdW none (shInt .i64) h4 (Addr.add p10 0) fun x8=>
 CallT P zbs [(.int .i64 x8)] (shInt .i64) (fun r2 h5=>
 (((LdIs h5 (Addr.add p9 6) [(.pointer x7)])/\True)/\CallT P zby [(.pointer x7),(.int .i64 r2)] zae (fun r3 h6=>
 (if decide (r1.Value_>(0:Int)) then
 NilW none x6 fun p11=>
 LdW none shPtr h6 (Addr.add p11 6) fun x9=>
 NilW none p fun p12=>
 LdW none (shInt .i64) h6 (Addr.add p12 0) fun x10=>
 NilW none m fun p13=>
 LdW none (shInt .i64) h6 (Addr.add p13 9) fun x11=>
 CallT P zbs [(.int .i64 x10)] (shInt .i64) (fun r4 h7=>
 (((LdIs h7 (Addr.add p11 6) [(.pointer x9)])/\((LdIs h7 (Addr.add p13 9) [(.int .i64 x11)])/\(True/\True)))/\CallT P zbg [(.pointer x9),(.int .i64 r4),(.int .i64 (IntKind.wrap .i64 (x11+(min2I r1.Value_ (1099511627776:Int)))))] (shInt .i64) (fun r5 h8=>
 Q h8) h7)) h6
 else
 Q h6)) h5)) h4)
 else
 (if (r1.Kind==(6:Int))=true then
 NilW none x6 fun p8=>
 LdW none shPtr h3 (Addr.add p8 6) fun x7=>
 NilW none p fun p9=>
 LdW none (shInt .i64) h3 (Addr.add p9 0) fun x8=>
 NilW none m fun p10=>
 LdW none (shInt .i64) h3 (Addr.add p10 9) fun x9=>
 CallT P zcl [(.int .i64 x8)] (shInt .i64) (fun r2 h4=>
 (((LdIs h4 (Addr.add p8 6) [(.pointer x7)])/\((LdIs h4 (Addr.add p10 9) [(.int .i64 x9)])/\(True/\True)))/\CallT P zbg [(.pointer x7),(.int .i64 r2),(.int .i64 (IntKind.wrap .i64 (x9+(min2I (max2I r1.Value_ (1:Int)) (1099511627776:Int)))))] (shInt .i64) (fun r3 h5=>
 NilW none p fun p11=>
 StW h5 (Addr.add p11 3) [(.int .i64 (4:Int))] (fun h6=>
 Q h6)) h4)) h3
 else
 (if (r1.Kind==(7:Int))=true then
 NilW none x6 fun p8=>
 LdW none shPtr h3 (Addr.add p8 5) fun x7=>
 NilW none p fun p9=>
 LdW none (shInt .i64) h3 (Addr.add p9 0) fun x8=>
 Call2 P zhn [(.pointer x7),(.int .i64 r1.To),(.int .i64 x8)] zae (shInt .i64) (fun r2 r3 h4=>
 (if r2 then
 NilW none p fun p10=>
 LdW none zad h4 (Addr.add p10 4) fun x9=>
 CallT P zgv [x9.v] zad (fun r4 h5=>
 NilW none p fun p11=>
 StW h5 (Addr.add p11 4) [(.int .i64 r4.PC),(.int .i64 r4.Regs_0),(.int .i64 r4.Regs_1),(.int .i64 r4.Regs_2),(.int .i64 r4.Regs_3),(.int .i64 r4.Regs_4),(.int .i64 r4.Regs_5),(.int .i64 r4.Regs_6),(.int .i64 r4.Regs_7)] (fun h6=>
 Q h6)) h4
 else
 NilW none p fun p10=>
 StW h4 (Addr.add p10 3) [(.int .i64 (3:Int))] (fun h5=>
 Q h5))) h3
 else
 (if (r1.Kind==(8:Int))=true then
 NilW none x6 fun p8=>
 LdW none shPtr h3 (Addr.add p8 5) fun x7=>
 NilW none p fun p9=>
 LdW none (shInt .i64) h3 (Addr.add p9 0) fun x8=>
 CallT P zfu [(.pointer x7),(.int .i64 x8)] shSl (fun r2 h4=>
 ((True/\True)/\CallT P zcy [r2.v,(.int .i64 r1.To)] zae (fun r3 h5=>
 (if r3 then
 NilW none x6 fun p10=>
 LdW none shPtr h5 (Addr.add p10 5) fun x9=>
 NilW none p fun p11=>
 LdW none (shInt .i64) h5 (Addr.add p11 0) fun x10=>
 Call2 P zef [(.pointer x9),(.int .i64 r1.To),(.int .i64 x10)] (shInt .i64) (shInt .i64) (fun r4 r5 h6=>
 Call0 P zbf [(.pointer m),(.int .i64 r4)] (fun h7=>
 Q h7) h6) h5
 else
 Q h5)) h4)) h3
 else
 (if (r1.Kind==(9:Int))=true then
 NilW none x6 fun p8=>
 LdW none shSl h3 (Addr.add p8 2) fun x7=>
 NilW none m fun p9=>
 LdW none (shInt .i64) h3 (Addr.add (Addr.add p9 0) 5) fun x8=>
 (if decide ((x7.len:Int)<x8) then
 NilW none x6 fun p10=>
 LdW none shSl h3 (Addr.add p10 2) fun x9=>
 NilW none m fun p11=>
 LdW none (shInt .i64) h3 (Addr.add p11 9) fun x10=>
 NilW none p fun p12=>
 LdW none (shInt .i64) h3 (Addr.add p12 0) fun x11=>
 NewW [(.int .i64 x10),(.int .i64 x11),(.int .i64 r1.Value_)] (fun a h4=>
 (((LdIs h4 (Addr.add p10 2) [x9.v])/\True)/\zai 3 24 [(.int .i64 (0:Int)),(.int .i64 (0:Int)),(.int .i64 (0:Int))] x9 ⟨(some a),1,1⟩ (fun r2 h5=>
 NilW none x6 fun p13=>
 StW h5 (Addr.add p13 2) [r2.v] (fun h6=>
 Q h6)) h4)) h3
 else
 NilW none x6 fun p10=>
 LdW none (shInt .i64) h3 (Addr.add p10 3) fun x9=>
 CallT P znq [(.int .i64 x9)] (shInt .i64) (fun r2 h4=>
 NilW none x6 fun p11=>
 StW h4 (Addr.add p11 3) [(.int .i64 r2)] (fun h5=>
 Q h5)) h3)
 else
 Q h3)))))))))))) h
def zos (P:Program) (l:Sl) (Q:(Int->(Int->(Hp->Prop)))) (h:Hp):Prop:=
 (if ((l.len:Int)==(0:Int))=true then
 Q (1:Int) (0:Int) h
 else
 (if decide ((l.len:Int)>(8:Int)) then
 Q (3:Int) (8:Int) h
 else
 LoopW1 (α1:=Int) (fun again i h1=>
 (if decide (i<(l.len:Int)) then
 ((InB l.base l.len i)/\LdW none (shInt .u64) h1 (sat l.base 1 i) fun x=>
 ((InB l.base l.len (IntKind.wrap .i64 (i-(1:Int))))/\LdW none (shInt .u64) h1 (sat l.base 1 (IntKind.wrap .i64 (i-(1:Int)))) fun x1=>
 (if (x==x1)=true then
 Q (8:Int) i h1
 else
 ((InB l.base l.len i)/\LdW none (shInt .u64) h1 (sat l.base 1 i) fun x2=>
 ((InB l.base l.len (IntKind.wrap .i64 (i-(1:Int))))/\LdW none (shInt .u64) h1 (sat l.base 1 (IntKind.wrap .i64 (i-(1:Int)))) fun x3=>
 (if decide (x2<x3) then
 Q (7:Int) i h1
 else
 again (IntKind.wrap .i64 (i+(1:Int))) h1))))))
 else
 Q (0:Int) (0:Int) h1)) (1:Int) h))
def zgb (P:Program) (l:Sl) (parts:Int) (Q:(Int->(Hp->Prop))) (h:Hp):Prop:=
 (if ((l.len:Int)==(0:Int))=true then
 Q (1:Int) h
 else
 (if decide ((l.len:Int)>(64:Int)) then
 Q (3:Int) h
 else
 LoopW1 (α1:=Int) (fun again i h1=>
 (if decide (i<(l.len:Int)) then
 ((InB l.base l.len i)/\LdW none (shInt .i64) h1 (sat l.base 1 i) fun x=>
 CallT P zbe [(.int .i64 x),(.int .i64 (0:Int)),(.int .i64 (IntKind.wrap .i64 (parts-(1:Int))))] zae (fun r h2=>
 (if (!r)=true then
 Q (2:Int) h2
 else
 again (IntKind.wrap .i64 (i+(1:Int))) h2)) h1)
 else
 Q (0:Int) h1)) (0:Int) h))
def zgc (P:Program) (n:Int) (least:Int) (most:Int) (Q:(Bool->(Hp->Prop))) (h:Hp):Prop:=
 LetW ((decide (n>=least))&&(decide (n<=most))) fun y=>
 Q y h
def zjp (P:Program) (l:Sl) (locks:Int) (Q:(Int->(Int->(Hp->Prop)))) (h:Hp):Prop:=
 LetW ((decide (locks<(0:Int))) || (decide (locks>(8:Int)))) fun y=>
 (if y then
 Q (1:Int) (0:Int) h
 else
 (if decide ((l.len:Int)>(256:Int)) then
 Q (3:Int) (256:Int) h
 else
 LoopW1 (α1:=Int) (fun again i h1=>
 (if decide (i<(l.len:Int)) then
 ((InB l.base l.len i)/\LdW none sh_api_Ins h1 (sat l.base 5 i) fun x=>
 CallT P zml [x.v,(.int .i64 (l.len:Int)),(.int .i64 locks)] (shInt .i64) (fun r h2=>
 (if (r !=(0:Int))=true then
 Q r i h2
 else
 again (IntKind.wrap .i64 (i+(1:Int))) h2)) h1)
 else
 Q (0:Int) (0:Int) h1)) (0:Int) h))
def zjv (P:Program) (n:Int) (a1:Addr) (Q:(Int->(Hp->Prop))) (h:Hp):Prop:=
 LdW none shPtr h a1 fun x=>
 NilW none x fun p=>
 LdW none shSl h (Addr.add p 0) fun x1=>
 (if decide (n>=(x1.len:Int)) then
 Q (2:Int) h
 else
 Q (0:Int) h)
def zpz (P:Program) (n:Int) (a1:Addr) (Q:(Int->(Hp->Prop))) (h:Hp):Prop:=
 LdW none shFn h a1 fun x=>
 CallV P tb (.func (.func x.g) x.first x.captured) [(.int .i64 (IntKind.wrap .i64 n))] (shInt .i64) (fun r h1=>
 Q r h1) h
def zqa (P:Program) (a0:Int) (Q:(Int->(Hp->Prop))) (h:Hp):Prop:=
 Q (0:Int) h
def zze (P:Program) (x:S_api_Ins) (n:Int) (locks:Int) (Q:(Int->(Hp->Prop))) (h:Hp):Prop:=
 Call2 P zza [x.v,(.int .i64 n),(.int .i64 locks)] (shInt .i64) (shInt .i64) (fun r r1 h1=>
 Q r h1) h
def zvc (P:Program) (x:S_api_Ins) (e:Int) (Q:(Int->(Hp->Prop))) (h:Hp):Prop:=
 (if (e==(9:Int))=true then
 Q (0:Int) h
 else
 Call4 P zoz [(.int .i64 x.Op)] zae zae zae zae (fun r r1 r2 r3 h1=>
 NewW [(.bool r),(.int .i64 x.A),(.bool r1),(.int .i64 x.B),(.bool r2),(.int .i64 x.C)] (fun a h2=>
 LoopW1 (α1:=Int) (fun again t35 h3=>
 (if decide (t35<(3:Int)) then
 ((InB (some a) 3 t35)/\LdW none zcb h3 (sat (some a) 2 t35) fun x1=>
 LetW (x1.has&&(decide (x1.n>=(8:Int)))) fun y=>
 LetW ((!x1.has)&&(x1.n !=(0:Int))) fun y1=>
 LetW (y || y1) fun y2=>
 (if y2 then
 Q (IntKind.wrap .i64 ((1:Int)+t35)) h3
 else
 again (IntKind.wrap .i64 (t35+(1:Int))) h3))
 else
 Q (4:Int) h3)) (0:Int) h2) h1) h)
def zea (P:Program) (s:Sl) (f:FnV) (Q:(Int->(Hp->Prop))) (h:Hp):Prop:=
 LoopW1 (α1:=Int) (fun again t8 h1=>
 (if decide (t8<(s.len:Int)) then
 ((InB s.base s.len t8)/\LdW none (shInt .i64) h1 (sat s.base 1 t8) fun x=>
 CallV P tb (.func (.func f.g) f.first f.captured) [(.int .i64 x)] zae (fun r h2=>
 (if r then
 Q t8 h2
 else
 again (IntKind.wrap .i64 (t8+(1:Int))) h2)) h1)
 else
 Q (-1:Int) h1)) (0:Int) h
def zvd (P:Program) (p:Int) (a1:Addr) (Q:(Bool->(Hp->Prop))) (h:Hp):Prop:=
 LdW (some (!(decide (p<(0:Int))))) (shInt .i64) h a1 fun x=>
 LetW ((decide (p<(0:Int))) || (decide (p>=x))) fun y=>
 Q y h
def zcd (P:Program) (s:Sl) (Q:(Sl->(Hp->Prop))) (h:Hp):Prop:=
 SemV none P (binS .eql 22 (.tmp 3) (.const (.slice none 0 0)) s.v (.slice none 0 0)) zae h fun x=>
 (if x then
 Q ⟨none,0,0⟩ h
 else
 NewW [] (fun a h1=>
 zai 1 8 [(.int .u64 (0:Int))] ⟨(some a),0,0⟩ s (fun r h2=>
 Q r h2) h1) h)
def zet (P:Program) (s:Sl) (Q:(Sl->(Hp->Prop))) (h:Hp):Prop:=
 SemV none P (binS .eql 24 (.tmp 3) (.const (.slice none 0 0)) s.v (.slice none 0 0)) zae h fun x=>
 (if x then
 Q ⟨none,0,0⟩ h
 else
 NewW [] (fun a h1=>
 zai 2 32 [(.int .i64 (0:Int)),(.slice none 0 0)] ⟨(some a),0,0⟩ s (fun r h2=>
 Q r h2) h1) h)
def zfi (P:Program) (s:Sl) (Q:(Sl->(Hp->Prop))) (h:Hp):Prop:=
 SemV none P (binS .eql 48 (.tmp 3) (.const (.slice none 0 0)) s.v (.slice none 0 0)) zae h fun x=>
 (if x then
 Q ⟨none,0,0⟩ h
 else
 NewW [] (fun a h1=>
 zai 5 40 [(.int .i64 (0:Int)),(.int .i64 (0:Int)),(.int .i64 (0:Int)),(.int .i64 (0:Int)),(.int .i64 (0:Int))] ⟨(some a),0,0⟩ s (fun r h2=>
 Q r h2) h1) h)
def zkm (P:Program) (l:Option Addr) (p:Int) (Q:(Int->(Bool->(Hp->Prop)))) (h:Hp):Prop:=
 NilW none l fun p1=>
 LdW none shSl h (Addr.add p1 0) fun x=>
 LoopW1 (α1:=Int) (fun again t13 h1=>
 (if decide (t13<(x.len:Int)) then
 ((InB x.base x.len t13)/\LdW none sh_locks_lock h1 (sat x.base 2 t13) fun x1=>
 CallT P zcy [x1.queue.v,(.int .i64 p)] zae (fun r h2=>
 (if r then
 Q t13 true h2
 else
 again (IntKind.wrap .i64 (t13+(1:Int))) h2)) h1)
 else
 Q (0:Int) false h1)) (0:Int) h
def zhl1 (P:Program) (room:Int) (s:S_api_Lane) (Q:(Option Addr->(Int->(Hp->Prop)))) (h:Hp):Prop:=
 Call2 P zhf1 [(.int .i64 room)] shPtr (shInt .i64) (fun r r1 h1=>
 (if (r1 !=(0:Int))=true then
 Q none r1 h1
 else
 LetW ((decide ((s.Waiters.len:Int)>(0:Int)))&&(decide ((s.Values.len:Int)<room))) fun y=>
 LetW ((decide ((s.Values.len:Int)>room)) || y) fun y1=>
 EffC (some (!y1)) (CallT P zpa [(.int .i64 s.Taken),(.int .i64 (0:Int)),(.int .i64 (65535:Int))] zae) (fun r2 h2=>
 LetW (y1 || (!r2)) fun y2=>
 EffC (some (!y2)) (CallT P zpa [(.int .i64 s.Dropped),(.int .i64 (0:Int)),(.int .i64 (65535:Int))] zae) (fun r3 h3=>
 LetW (y2 || (!r3)) fun y3=>
 EffC (some (!y3)) (CallT P zjs1 [s.Waiters.v] zae) (fun r4 h4=>
 LetW (y3 || r4) fun y4=>
 (if y4 then
 Q none (4:Int) h4
 else
 CallT P zdy [s.Values.v] shSl (fun r5 h5=>
 ((True/\True)/\CallT P zbt [s.Waiters.v] shSl (fun r6 h6=>
 NilW none r fun p=>
 StW h6 (Addr.add p 1) [r5.v] (fun h7=>
 NilW none r fun p1=>
 StW h7 (Addr.add p1 2) [r6.v] (fun h8=>
 NilW none r fun p2=>
 StW h8 (Addr.add p2 3) [(.int .i64 s.Taken)] (fun h9=>
 ((True/\True)/\NilW none r fun p3=>
 StW h9 (Addr.add p3 4) [(.int .i64 s.Dropped)] (fun h10=>
 Q r (0:Int) h10)))))) h5)) h4)) h3) h2) h1)) h
def zgd (P:Program) (w:Option Addr) (id_:Int) (Q:(Bool->(Hp->Prop))) (h:Hp):Prop:=
 NilW none w fun p=>
 LdW none shMap h (Addr.add p 1) fun x=>
 LookW none (.int .i64) sh_wheel_entry (.agg #[(.int .i64 (0:Int)),(.int .i64 (0:Int))]) x (.int .i64 id_) h fun x1 ok=>
 (if (!ok)=true then
 Q false h
 else
 NilW none w fun p1=>
 LdW none shSl h (Addr.add p1 0) fun x2=>
 LoopW1 (α1:=Int) (fun again t25 h1=>
 (if decide (t25<(x2.len:Int)) then
 ((InB x2.base x2.len t25)/\LdW none sh_wheel_entry h1 (sat x2.base 2 t25) fun x3=>
 SemV none P (binS .eql 203 (.tmp 30) (.tmp 31) x3.v x1.v) zae h1 fun x4=>
 (if x4 then
 NilW none w fun p2=>
 LdW none shSl h1 (Addr.add p2 0) fun x5=>
 CallT P zdc [x5.v,(.int .i64 t25),(.int .i64 (IntKind.wrap .i64 (t25+(1:Int))))] shSl (fun r h2=>
 NilW none w fun p3=>
 StW h2 (Addr.add p3 0) [r.v] (fun h3=>
 NilW none w fun p4=>
 LdW none shMap h3 (Addr.add p4 1) fun x6=>
 zlq1 (.int .i64) x6 (.int .i64 id_) (fun h4=>
 Q true h4) h3)) h1
 else
 again (IntKind.wrap .i64 (t25+(1:Int))) h1))
 else
 NilW none w fun p2=>
 LdW none shMap h1 (Addr.add p2 1) fun x3=>
 zlq1 (.int .i64) x3 (.int .i64 id_) (fun h2=>
 Q true h2) h1)) (0:Int) h)
def zan (P:Program) (x:Sl) (target:S_wheel_entry) (cmp:FnV) (Q:(Int->(Bool->(Hp->Prop)))) (h:Hp):Prop:=
 LoopW2 (α1:=Int) (α2:=Int) (fun again i j h1=>
 (if decide (i<j) then
 JoinW2 (α1:=Int) (α2:=Int) (fun k=>
 ((0:Int)<=(1:Int)/\((InB x.base x.len (IntKind.wrap .i64 (shrI .u64 (IntKind.wrap .u64 (IntKind.wrap .i64 (i+j))) (1:Int))))/\LdW none sh_wheel_entry h1 (sat x.base 2 (IntKind.wrap .i64 (shrI .u64 (IntKind.wrap .u64 (IntKind.wrap .i64 (i+j))) (1:Int)))) fun x1=>
 CallV P tb (.func (.func cmp.g) cmp.first cmp.captured) [x1.v,target.v] (shInt .i64) (fun r h2=>
 (if decide (r<(0:Int)) then
 k (IntKind.wrap .i64 ((IntKind.wrap .i64 (shrI .u64 (IntKind.wrap .u64 (IntKind.wrap .i64 (i+j))) (1:Int)))+(1:Int))) j h2
 else
 k i (IntKind.wrap .i64 (shrI .u64 (IntKind.wrap .u64 (IntKind.wrap .i64 (i+j))) (1:Int))) h2)) h1)))
 (fun i1 j1 h2=>
 again i1 j1 h2)
 else
 (((decide (i<(x.len:Int)))=true->(InB x.base x.len i))/\LdW (some (decide (i<(x.len:Int)))) sh_wheel_entry h1 (sat x.base 2 i) fun x1=>
 EffC (some (decide (i<(x.len:Int)))) (CallV P tb (.func (.func cmp.g) cmp.first cmp.captured) [x1.v,target.v] (shInt .i64)) (fun r h2=>
 LetW ((decide (i<(x.len:Int)))&&(r==(0:Int))) fun y=>
 Q i y h2) h1))) (0:Int) (x.len:Int) h
def zve (P:Program) (a:S_wheel_entry) (b:S_wheel_entry) (Q:(Int->(Hp->Prop))) (h:Hp):Prop:=
 CallT P zps [(.int .i64 a.due),(.int .i64 b.due)] (shInt .i64) (fun r h1=>
 ((True/\(True/\True))/\CallT P ztm [(.int .i64 a.id_),(.int .i64 b.id_)] (shInt .i64) (fun r1 h2=>
 NewW [(.int .i64 r),(.int .i64 r1)] (fun a1 h3=>
 CallT P zjt1 [(.slice (some a1) 2 2)] (shInt .i64) (fun r2 h4=>
 Q r2 h4) h3) h2) h1)) h
def zdd (P:Program) (s:Sl) (i:Int) (v:Sl) (Q:(Sl->(Hp->Prop))) (h:Hp):Prop:=
 (((0:Int)<=i/\i<=(s.len:Int))/\LetW (α:=Sl) ⟨(sbase s.base 2 (Int.toNat i) s.cap),(s.len-(Int.toNat i)),(s.cap-(Int.toNat i))⟩ fun y=>
 (if ((v.len:Int)==(0:Int))=true then
 Q s h
 else
 (if (i==(s.len:Int))=true then
 zai 2 16 [(.int .i64 (0:Int)),(.int .i64 (0:Int))] s v (fun r h1=>
 Q r h1) h
 else
 (if (decide ((IntKind.wrap .i64 ((s.len:Int)+(v.len:Int)))>(s.cap:Int)))=true then
 (((0:Int)<=i/\i<=(s.cap:Int))/\LetW (α:=Sl) ⟨(sbase s.base 2 0 s.cap),((Int.toNat i)-0),(s.cap-0)⟩ fun y1=>
 zlb1 2 16 [(.int .i64 (0:Int)),(.int .i64 (0:Int))] y1 (IntKind.wrap .i64 ((IntKind.wrap .i64 ((s.len:Int)+(v.len:Int)))-i)) (fun r h1=>
 (((0:Int)<=i/\i<=(r.len:Int))/\LetW (α:=Sl) ⟨(sbase r.base 2 (Int.toNat i) r.cap),(r.len-(Int.toNat i)),(r.cap-(Int.toNat i))⟩ fun y2=>
 CopyW 2 y2 v (fun r1 h2=>
 (((0:Int)<=(IntKind.wrap .i64 (i+(v.len:Int)))/\(IntKind.wrap .i64 (i+(v.len:Int)))<=(r.len:Int))/\LetW (α:=Sl) ⟨(sbase r.base 2 (Int.toNat (IntKind.wrap .i64 (i+(v.len:Int)))) r.cap),(r.len-(Int.toNat (IntKind.wrap .i64 (i+(v.len:Int))))),(r.cap-(Int.toNat (IntKind.wrap .i64 (i+(v.len:Int)))))⟩ fun y3=>
 (((0:Int)<=i/\i<=(s.len:Int))/\LetW (α:=Sl) ⟨(sbase s.base 2 (Int.toNat i) s.cap),(s.len-(Int.toNat i)),(s.cap-(Int.toNat i))⟩ fun y4=>
 CopyW 2 y3 y4 (fun r2 h3=>
 Q r h3) h2))) h1)) h)
 else
 (((0:Int)<=(IntKind.wrap .i64 ((s.len:Int)+(v.len:Int)))/\(IntKind.wrap .i64 ((s.len:Int)+(v.len:Int)))<=(s.cap:Int))/\LetW (α:=Sl) ⟨(sbase s.base 2 0 s.cap),((Int.toNat (IntKind.wrap .i64 ((s.len:Int)+(v.len:Int))))-0),(s.cap-0)⟩ fun y1=>
 (((0:Int)<=(IntKind.wrap .i64 (i+(v.len:Int)))/\(IntKind.wrap .i64 (i+(v.len:Int)))<=(y1.len:Int))/\LetW (α:=Sl) ⟨(sbase y1.base 2 (Int.toNat (IntKind.wrap .i64 (i+(v.len:Int)))) y1.cap),(y1.len-(Int.toNat (IntKind.wrap .i64 (i+(v.len:Int))))),(y1.cap-(Int.toNat (IntKind.wrap .i64 (i+(v.len:Int)))))⟩ fun y2=>
 SemE P (Extern.SlicesOverlaps.overlaps #[205,205] #[4] #[v.v,y2.v]) zae (fun r h1=>
 (if (!r)=true then
 (((0:Int)<=(IntKind.wrap .i64 (i+(v.len:Int)))/\(IntKind.wrap .i64 (i+(v.len:Int)))<=(y1.len:Int))/\LetW (α:=Sl) ⟨(sbase y1.base 2 (Int.toNat (IntKind.wrap .i64 (i+(v.len:Int)))) y1.cap),(y1.len-(Int.toNat (IntKind.wrap .i64 (i+(v.len:Int))))),(y1.cap-(Int.toNat (IntKind.wrap .i64 (i+(v.len:Int)))))⟩ fun y3=>
 (((0:Int)<=i/\i<=(y1.len:Int))/\LetW (α:=Sl) ⟨(sbase y1.base 2 (Int.toNat i) y1.cap),(y1.len-(Int.toNat i)),(y1.cap-(Int.toNat i))⟩ fun y4=>
 CopyW 2 y3 y4 (fun r1 h2=>
 (((0:Int)<=i/\i<=(y1.len:Int))/\LetW (α:=Sl) ⟨(sbase y1.base 2 (Int.toNat i) y1.cap),(y1.len-(Int.toNat i)),(y1.cap-(Int.toNat i))⟩ fun y5=>
 CopyW 2 y5 v (fun r2 h3=>
 Q y1 h3) h2)) h1))
 else
 (((0:Int)<=(s.len:Int)/\(s.len:Int)<=(y1.len:Int))/\LetW (α:=Sl) ⟨(sbase y1.base 2 (Int.toNat (s.len:Int)) y1.cap),(y1.len-(Int.toNat (s.len:Int))),(y1.cap-(Int.toNat (s.len:Int)))⟩ fun y3=>
 CopyW 2 y3 v (fun r1 h2=>
 (((0:Int)<=i/\i<=(y1.len:Int))/\LetW (α:=Sl) ⟨(sbase y1.base 2 (Int.toNat i) y1.cap),(y1.len-(Int.toNat i)),(y1.cap-(Int.toNat i))⟩ fun y4=>
 Call0 P zes [y4.v,(.int .i64 (v.len:Int))] (fun h3=>
 Q y1 h3) h2)) h1))) h))))))
def zzf (P:Program) (x:Int) (y:Int) (Q:(Int->(Int->(Hp->Prop)))) (h:Hp):Prop:=
 Call2 P zmw [(.int .u64 x),(.int .u64 y)] (shInt .u64) (shInt .u64) (fun r r1 h1=>
 Q r r1 h1) h
def zge (P:Program) (op:Int) (Q:(Bool->(Bool->(Bool->(Bool->(Hp->Prop)))))) (h:Hp):Prop:=
 (if (op==(1:Int))=true then
 Q true false false true h
 else
 JoinW1 (α1:=Bool) (fun k=>
 (if (op==(2:Int))=true then
 k (op==(2:Int)) h
 else
 (if (op==(20:Int))=true then
 k (op==(20:Int)) h
 else
 (if (op==(21:Int))=true then
 k (op==(21:Int)) h
 else
 (if (op==(25:Int))=true then
 k (op==(25:Int)) h
 else
 k (op==(26:Int)) h)))))
 (fun t9 h1=>
 (if t9 then
 Q true true false false h1
 else
 JoinW1 (α1:=Bool) (fun k=>
 (if (op==(3:Int))=true then
 k (op==(3:Int)) h1
 else
 (if (op==(4:Int))=true then
 k (op==(4:Int)) h1
 else
 (if (op==(5:Int))=true then
 k (op==(5:Int)) h1
 else
 (if (op==(6:Int))=true then
 k (op==(6:Int)) h1
 else
 (if (op==(7:Int))=true then
 k (op==(7:Int)) h1
 else
 (if (op==(8:Int))=true then
 k (op==(8:Int)) h1
 else
 (if (op==(9:Int))=true then
 k (op==(9:Int)) h1
 else
 (if (op==(10:Int))=true then
 k (op==(10:Int)) h1
 else
 (if (op==(11:Int))=true then
 k (op==(11:Int)) h1
 else
 (if (op==(12:Int))=true then
 k (op==(12:Int)) h1
 else
 (if (op==(13:Int))=true then
 k (op==(13:Int)) h1
 else
 k (op==(14:Int)) h1))))))))))))
 (fun t15 h2=>
 (if t15 then
 Q true true true false h2
 else
 JoinW1 (α1:=Bool) (fun k=>
 (if (op==(15:Int))=true then
 k (op==(15:Int)) h2
 else
 (if (op==(16:Int))=true then
 k (op==(16:Int)) h2
 else
 (if (op==(17:Int))=true then
 k (op==(17:Int)) h2
 else
 (if (op==(18:Int))=true then
 k (op==(18:Int)) h2
 else
 (if (op==(19:Int))=true then
 k (op==(19:Int)) h2
 else
 k (op==(24:Int)) h2))))))
 (fun t28 h3=>
 (if t28 then
 Q true true true false h3
 else
 JoinW1 (α1:=Bool) (fun k=>
 (if (op==(22:Int))=true then
 k (op==(22:Int)) h3
 else
 (if (op==(29:Int))=true then
 k (op==(29:Int)) h3
 else
 k (op==(30:Int)) h3)))
 (fun t35 h4=>
 (if t35 then
 Q false false false true h4
 else
 (if (op==(23:Int))=true then
 Q true false false true h4
 else
 JoinW1 (α1:=Bool) (fun k=>
 (if (op==(27:Int))=true then
 k (op==(27:Int)) h4
 else
 (if (op==(28:Int))=true then
 k (op==(28:Int)) h4
 else
 (if (op==(31:Int))=true then
 k (op==(31:Int)) h4
 else
 (if (op==(32:Int))=true then
 k (op==(32:Int)) h4
 else
 k (op==(33:Int)) h4)))))
 (fun t41 h5=>
 (if t41 then
 Q true false false false h5
 else
 Q false false false false h5))))))))))))
def zem (P:Program) (n:Int) (has:Bool) (Q:(Int->(Hp->Prop))) (h:Hp):Prop:=
 LetW ((!has)&&(n !=(0:Int))) fun y=>
 (if y then
 Q (11:Int) h
 else
 LetW ((decide (n<(0:Int))) || (decide (n>=(8:Int)))) fun y1=>
 LetW (has&&y1) fun y2=>
 (if y2 then
 Q (10:Int) h
 else
 Q (0:Int) h))
def zqb (P:Program) (state:Int) (Q:(Bool->(Hp->Prop))) (h:Hp):Prop:=
 LetW ((state !=(5:Int))&&(state !=(6:Int))) fun y=>
 Q y h
def znd (P:Program) (p:Option Addr) (n:Int) (Q:(Bool->(Hp->Prop))) (h:Hp):Prop:=
 NilW (some (decide (n>=(0:Int)))) p fun p1=>
 LdW (some (decide (n>=(0:Int)))) shSl h (Addr.add p1 0) fun x=>
 LetW ((decide (n>=(0:Int)))&&(decide (n<(x.len:Int)))) fun y=>
 Q y h
def zqc (P:Program) (l:Option Addr) (v:Int) (Q:(Int->(Hp->Prop))) (h:Hp):Prop:=
 CallT P zoc [(.pointer l)] zae (fun r h1=>
 (if r then
 Q (19:Int) h1
 else
 NilW none l fun p=>
 LdW none shSl h1 (Addr.add p 1) fun x=>
 NewW [(.int .i64 v)] (fun a h2=>
 zai 1 8 [(.int .i64 (0:Int))] x ⟨(some a),1,1⟩ (fun r1 h3=>
 NilW none l fun p1=>
 StW h3 (Addr.add p1 1) [r1.v] (fun h4=>
 Q (0:Int) h4)) h2) h1)) h
def zoh (P:Program) (l:Option Addr) (Q:(Hp->Prop)) (h:Hp):Prop:=
 NilW none l fun p=>
 LdW none (shInt .i64) h (Addr.add p 4) fun x=>
 CallT P zda1 [(.int .i64 x)] (shInt .i64) (fun r h1=>
 NilW none l fun p1=>
 StW h1 (Addr.add p1 4) [(.int .i64 r)] (fun h2=>
 Q h2)) h
def zne (P:Program) (p:Option Addr) (proc:Int) (Q:(Bool->(Hp->Prop))) (h:Hp):Prop:=
 NilW none p fun p1=>
 LdW none shSl h (Addr.add p1 0) fun x=>
 LoopW2 (α1:=Bool) (α2:=Int) (fun again left t13 h1=>
 (if decide (t13<(x.len:Int)) then
 JoinW1 (α1:=Bool) (fun k=>
 ((InB x.base x.len t13)/\LdW none shPtr h1 (sat x.base 1 t13) fun x1=>
 CallT P ztn [(.pointer x1),(.int .i64 proc)] zae (fun r h2=>
 (if r then
 k true h2
 else
 k left h2)) h1))
 (fun left1 h2=>
 again left1 (IntKind.wrap .i64 (t13+(1:Int))) h2)
 else
 Q left h1)) false (0:Int) h
def znf (P:Program) (l:Option Addr) (p:Int) (Q:(Sl->(Hp->Prop))) (h:Hp):Prop:=
 NilW none l fun p1=>
 LdW none shSl h (Addr.add p1 0) fun x=>
 LoopW1 (α1:=Int) (fun again t17 h1=>
 (if decide (t17<(x.len:Int)) then
 JoinW0 (fun k=>
 NilW none l fun p2=>
 LdW none shSl h1 (Addr.add p2 0) fun x1=>
 ((InB x1.base x1.len t17)/\LdW none shSl h1 (Addr.add (sat x1.base 2 t17) 1) fun x2=>
 CallT P zhb [x2.v,(.int .i64 p)] (shInt .i64) (fun r h2=>
 (if decide (r>=(0:Int)) then
 NilW none l fun p3=>
 LdW none shSl h2 (Addr.add p3 0) fun x3=>
 NilW none l fun p4=>
 LdW none shSl h2 (Addr.add p4 0) fun x4=>
 ((InB x4.base x4.len t17)/\LdW none shSl h2 (Addr.add (sat x4.base 2 t17) 1) fun x5=>
 CallT P zlp [x5.v,(.int .i64 r),(.int .i64 (IntKind.wrap .i64 (r+(1:Int))))] shSl (fun r1 h3=>
 (((LdIs h3 (Addr.add p3 0) [x3.v])/\True)/\((InB x3.base x3.len t17)/\StW h3 (Addr.add (sat x3.base 2 t17) 1) [r1.v] (fun h4=>
 k h4)))) h2)
 else
 k h2)) h1))
 (fun h2=>
 again (IntKind.wrap .i64 (t17+(1:Int))) h2)
 else
 CallT P zfu [(.pointer l),(.int .i64 p)] shSl (fun r h2=>
 LoopW2 (α1:=Sl) (α2:=Int) (fun again1 out t56 h3=>
 (if decide (t56<(r.len:Int)) then
 ((InB r.base r.len t56)/\LdW none (shInt .i64) h3 (sat r.base 1 t56) fun x1=>
 Call2 P zef [(.pointer l),(.int .i64 x1),(.int .i64 p)] (shInt .i64) (shInt .i64) (fun r1 r2 h4=>
 NewW [(.int .i64 x1),(.int .i64 r1)] (fun a h5=>
 zai 2 16 [(.int .i64 (0:Int)),(.int .i64 (0:Int))] ⟨out.base,out.len,out.cap⟩ ⟨(some a),1,1⟩ (fun r3 h6=>
 again1 r3 (IntKind.wrap .i64 (t56+(1:Int))) h6) h5) h4) h3)
 else
 Q ⟨out.base,out.len,out.cap⟩ h3)) ⟨none,0,0⟩ (0:Int) h2) h1)) (0:Int) h
def zgf (P:Program) (m:Option Addr) (who:Int) (Q:(Hp->Prop)) (h:Hp):Prop:=
 (if decide (who>=(0:Int)) then
 NilW none m fun p=>
 LdW none shSl h (Addr.add p 11) fun x=>
 ((InB x.base x.len who)/\LdW none shPtr h (sat x.base 1 who) fun x1=>
 NilW none m fun p1=>
 LdW none shSl h (Addr.add p1 11) fun x2=>
 ((InB x2.base x2.len who)/\LdW none shPtr h (sat x2.base 1 who) fun x3=>
 NilW none x3 fun p2=>
 LdW none zad h (Addr.add p2 4) fun x4=>
 CallT P zgv [x4.v] zad (fun r h1=>
 (((LdIs h1 (Addr.add p 11) [x.v])/\((LdIs h1 (sat x.base 1 who) [(.pointer x1)])/\True))/\Call0 P zcs [(.pointer m),(.pointer x1),r.v] (fun h2=>
 Q h2) h1)) h))
 else
 Q h)
def zqd (P:Program) (p:Option Addr) (Q:(Sl->(Hp->Prop))) (h:Hp):Prop:=
 NilW none p fun p1=>
 LdW none shSl h (Addr.add p1 0) fun x=>
 LoopW2 (α1:=Sl) (α2:=Int) (fun again out t11 h1=>
 (if decide (t11<(x.len:Int)) then
 ((InB x.base x.len t11)/\LdW none shPtr h1 (sat x.base 1 t11) fun x1=>
 CallT P zzb [(.pointer x1)] shSl (fun r h2=>
 zai 2 16 [(.int .i64 (0:Int)),(.int .i64 (0:Int))] ⟨out.base,out.len,out.cap⟩ r (fun r1 h3=>
 again r1 (IntKind.wrap .i64 (t11+(1:Int))) h3) h2) h1)
 else
 Q ⟨out.base,out.len,out.cap⟩ h1)) ⟨none,0,0⟩ (0:Int) h
def zen (P:Program) (m:Option Addr) (p:Option Addr) (reply:Int) (Q:(Hp->Prop)) (h:Hp):Prop:=
 NilW none p fun p1=>
 LdW none zad h (Addr.add p1 4) fun x=>
 NilW none p fun p2=>
 LdW none shSl h (Addr.add p2 2) fun x1=>
 CallT P zrc1 [x.v,x1.v,(.int .i64 reply)] zad (fun r h1=>
 Call0 P zcs [(.pointer m),(.pointer p),r.v] (fun h2=>
 Q h2) h1) h
def zit (P:Program) (w:Option Addr) (now:Int) (Q:(Sl->(Hp->Prop))) (h:Hp):Prop:=
 LoopW1 (α1:=Sl) (fun again out h1=>
 NilW none w fun p=>
 LdW none shSl h1 (Addr.add p 0) fun x=>
 NilW (some (decide ((x.len:Int)>(0:Int)))) w fun p1=>
 LdW (some (decide ((x.len:Int)>(0:Int)))) shSl h1 (Addr.add p1 0) fun x1=>
 (((decide ((x.len:Int)>(0:Int)))=true->(InB x1.base x1.len (0:Int)))/\LdW (some (decide ((x.len:Int)>(0:Int)))) (shInt .i64) h1 (Addr.add (sat x1.base 2 (0:Int)) 0) fun x2=>
 LetW ((decide ((x.len:Int)>(0:Int)))&&(decide (x2<=now))) fun y=>
 (if y then
 NilW none w fun p2=>
 LdW none shSl h1 (Addr.add p2 0) fun x3=>
 ((InB x3.base x3.len (0:Int))/\LdW none (shInt .i64) h1 (Addr.add (sat x3.base 2 (0:Int)) 1) fun x4=>
 NewW [(.int .i64 x4)] (fun a h2=>
 zai 1 8 [(.int .i64 (0:Int))] out ⟨(some a),1,1⟩ (fun r h3=>
 CallT P zby [(.pointer w),(.int .i64 x4)] zae (fun r1 h4=>
 again r h4) h3) h2) h1)
 else
 Q out h1))) ⟨none,0,0⟩ h
def zhj (P:Program) (m:Option Addr) (p:Option Addr) (c:S_cpu_Core) (Q:(Hp->Prop)) (h:Hp):Prop:=
 NilW none p fun p1=>
 StW h (Addr.add p1 3) [(.int .i64 (0:Int))] (fun h1=>
 ((True/\True)/\NilW none p fun p2=>
 StW h1 (Addr.add p2 4) [(.int .i64 c.PC),(.int .i64 c.Regs_0),(.int .i64 c.Regs_1),(.int .i64 c.Regs_2),(.int .i64 c.Regs_3),(.int .i64 c.Regs_4),(.int .i64 c.Regs_5),(.int .i64 c.Regs_6),(.int .i64 c.Regs_7)] (fun h2=>
 Q h2)))
def zhm1 (P:Program) (c:S_cpu_Core) (Q:(S_cpu_Core->(Hp->Prop))) (h:Hp):Prop:=
 Q ⟨(IntKind.wrap .i64 (c.PC+(1:Int))),c.Regs_0,c.Regs_1,c.Regs_2,c.Regs_3,c.Regs_4,c.Regs_5,c.Regs_6,c.Regs_7⟩ h
def zhn1 (P:Program) (c:S_cpu_Core) (l:Sl) (tick:Int) (self:Int) (Q:(S_cpu_Core->(S_cpu_Want->(Hp->Prop)))) (h:Hp):Prop:=
 NewW [(.int .i64 c.PC),(.int .i64 c.Regs_0),(.int .i64 c.Regs_1),(.int .i64 c.Regs_2),(.int .i64 c.Regs_3),(.int .i64 c.Regs_4),(.int .i64 c.Regs_5),(.int .i64 c.Regs_6),(.int .i64 c.Regs_7)] (fun a h1=>
 LdW none zad h1 a fun x=>
 Call2 P zfh1 [x.v,l.v] sh_api_Ins zae (fun r r1 h2=>
 EffC (some (!(!r1))) (CallT P zrm [r.v,(.int .i64 (l.len:Int)),(.int .i64 (8:Int))] (shInt .i64)) (fun r2 h3=>
 LetW ((!r1) || (r2 !=(0:Int))) fun y=>
 (if y then
 LdW none zad h3 a fun x1=>
 Q x1 ⟨(1:Int),(0:Int),(0:Int)⟩ h3
 else
 LdW none zej h3 (Addr.add a 1) fun x1=>
 Call3 P zdb1 [r.v,x1.v] zkf zae zae (fun r3 r4 r5 h4=>
 (if r5 then
 (if r4 then
 LdW none zad h4 a fun x2=>
 ((True/\True)/\Q x2 r3 h4)
 else
 LdW none zad h4 a fun x2=>
 CallT P zgv [x2.v] zad (fun r6 h5=>
 ((True/\True)/\((True/\True)/\Q r6 r3 h5))) h4)
 else
 LdW none zej h4 (Addr.add a 1) fun x2=>
 JoinW2 (α1:=S_cpu_Core) (α2:=S_cpu_Want) (fun k=>
 (if (r.Op==(1:Int))=true then
 Call0 P zbu [(.pointer (some a)),(.int .i64 r.A),(.int .i64 r.Imm)] (fun h5=>
 k ⟨(0:Int),(0:Int),(0:Int),(0:Int),(0:Int),(0:Int),(0:Int),(0:Int),(0:Int)⟩ ⟨(0:Int),(0:Int),(0:Int)⟩ h5) h4
 else
 (if (r.Op==(2:Int))=true then
 (((0:Int)<=r.B/\r.B<(8:Int))/\∃x3:Int,((List.get?Internal (α:=Value) [(.int .i64 x2.a0),(.int .i64 x2.a1),(.int .i64 x2.a2),(.int .i64 x2.a3),(.int .i64 x2.a4),(.int .i64 x2.a5),(.int .i64 x2.a6),(.int .i64 x2.a7)] (0+((Int.toNat r.B)*1)))=(some (.int .i64 x3))/\Call0 P zbu [(.pointer (some a)),(.int .i64 r.A),(.int .i64 x3)] (fun h5=>
 k ⟨(0:Int),(0:Int),(0:Int),(0:Int),(0:Int),(0:Int),(0:Int),(0:Int),(0:Int)⟩ ⟨(0:Int),(0:Int),(0:Int)⟩ h5) h4))
 else
 (if (r.Op==(32:Int))=true then
 Call0 P zbu [(.pointer (some a)),(.int .i64 r.A),(.int .i64 tick)] (fun h5=>
 k ⟨(0:Int),(0:Int),(0:Int),(0:Int),(0:Int),(0:Int),(0:Int),(0:Int),(0:Int)⟩ ⟨(0:Int),(0:Int),(0:Int)⟩ h5) h4
 else
 (if (r.Op==(33:Int))=true then
 Call0 P zbu [(.pointer (some a)),(.int .i64 r.A),(.int .i64 self)] (fun h5=>
 k ⟨(0:Int),(0:Int),(0:Int),(0:Int),(0:Int),(0:Int),(0:Int),(0:Int),(0:Int)⟩ ⟨(0:Int),(0:Int),(0:Int)⟩ h5) h4
 else
 (if (r.Op==(22:Int))=true then
 StW h4 (Addr.add a 0) [(.int .i64 r.Imm)] (fun h5=>
 LdW none zad h5 a fun x3=>
 Q x3 ⟨(0:Int),(0:Int),(0:Int)⟩ h5)
 else
 (if (r.Op==(23:Int))=true then
 (((0:Int)<=r.A/\r.A<(8:Int))/\∃x3:Int,((List.get?Internal (α:=Value) [(.int .i64 x2.a0),(.int .i64 x2.a1),(.int .i64 x2.a2),(.int .i64 x2.a3),(.int .i64 x2.a4),(.int .i64 x2.a5),(.int .i64 x2.a6),(.int .i64 x2.a7)] (0+((Int.toNat r.A)*1)))=(some (.int .i64 x3))/\(if (x3==(0:Int))=true then
 k ⟨(0:Int),(0:Int),(0:Int),(0:Int),(0:Int),(0:Int),(0:Int),(0:Int),(0:Int)⟩ ⟨(0:Int),(0:Int),(0:Int)⟩ h4
 else
 StW h4 (Addr.add a 0) [(.int .i64 r.Imm)] (fun h5=>
 LdW none zad h5 a fun x4=>
 Q x4 ⟨(0:Int),(0:Int),(0:Int)⟩ h5))))
 else
 (((0:Int)<=r.B/\r.B<(8:Int))/\∃x3:Int,((List.get?Internal (α:=Value) [(.int .i64 x2.a0),(.int .i64 x2.a1),(.int .i64 x2.a2),(.int .i64 x2.a3),(.int .i64 x2.a4),(.int .i64 x2.a5),(.int .i64 x2.a6),(.int .i64 x2.a7)] (0+((Int.toNat r.B)*1)))=(some (.int .i64 x3))/\(((0:Int)<=r.C/\r.C<(8:Int))/\∃x4:Int,((List.get?Internal (α:=Value) [(.int .i64 x2.a0),(.int .i64 x2.a1),(.int .i64 x2.a2),(.int .i64 x2.a3),(.int .i64 x2.a4),(.int .i64 x2.a5),(.int .i64 x2.a6),(.int .i64 x2.a7)] (0+((Int.toNat r.C)*1)))=(some (.int .i64 x4))/\Call2 P zsr1 [(.int .i64 r.Op),(.int .i64 x3),(.int .i64 x4)] (shInt .i64) (shInt .i64) (fun r6 r7 h5=>
 JoinW1 (α1:=Int) (fun k1=>
 (if (r7 !=(0:Int))=true then
 (((0:Int)<=r.B/\r.B<(8:Int))/\∃x5:Int,((List.get?Internal (α:=Value) [(.int .i64 x2.a0),(.int .i64 x2.a1),(.int .i64 x2.a2),(.int .i64 x2.a3),(.int .i64 x2.a4),(.int .i64 x2.a5),(.int .i64 x2.a6),(.int .i64 x2.a7)] (0+((Int.toNat r.B)*1)))=(some (.int .i64 x5))/\(((0:Int)<=r.C/\r.C<(8:Int))/\∃x6:Int,((List.get?Internal (α:=Value) [(.int .i64 x2.a0),(.int .i64 x2.a1),(.int .i64 x2.a2),(.int .i64 x2.a3),(.int .i64 x2.a4),(.int .i64 x2.a5),(.int .i64 x2.a6),(.int .i64 x2.a7)] (0+((Int.toNat r.C)*1)))=(some (.int .i64 x6))/\Call2 P zss1 [(.int .i64 r.Op),(.int .i64 x5),(.int .i64 x6)] (shInt .i64) (shInt .i64) (fun r8 r9 h6=>
 k1 r8 h6) h5))))
 else
 k1 r6 h5))
 (fun v h6=>
 Call0 P zbu [(.pointer (some a)),(.int .i64 r.A),(.int .i64 v)] (fun h7=>
 k ⟨(0:Int),(0:Int),(0:Int),(0:Int),(0:Int),(0:Int),(0:Int),(0:Int),(0:Int)⟩ ⟨(0:Int),(0:Int),(0:Int)⟩ h7) h6)) h4)))))))))))
 (fun t8 t9 h5=>
 LdW none zad h5 a fun x3=>
 CallT P zgv [x3.v] zad (fun r6 h6=>
 Q r6 ⟨(0:Int),(0:Int),(0:Int)⟩ h6) h5))) h3)) h2) h1) h
def zgg (P:Program) (m:Option Addr) (p:Option Addr) (to:Int) (v:Int) (Q:(Hp->Prop)) (h:Hp):Prop:=
 NilW (some (!(decide (to<(0:Int))))) m fun p1=>
 LdW (some (!(decide (to<(0:Int))))) shSl h (Addr.add p1 11) fun x=>
 LetW ((decide (to<(0:Int))) || (decide (to>=(x.len:Int)))) fun y=>
 (if y then
 Call0 P zal [(.pointer m),(.pointer p),(.int .i64 (1:Int))] (fun h1=>
 Q h1) h
 else
 NilW none m fun p2=>
 LdW none shSl h (Addr.add p2 11) fun x1=>
 ((InB x1.base x1.len to)/\LdW none shPtr h (sat x1.base 1 to) fun x2=>
 NilW none m fun p3=>
 LdW none shPtr h (Addr.add p3 7) fun x3=>
 NilW none p fun p4=>
 LdW none (shInt .i64) h (Addr.add p4 1) fun x4=>
 NilW none x2 fun p5=>
 LdW none (shInt .i64) h (Addr.add p5 1) fun x5=>
 CallT P zpt [(.pointer x3),(.int .i64 x4),(.int .i64 x5)] zae (fun r h1=>
 (if (!r)=true then
 NilW none m fun p6=>
 LdW none shSl h1 (Addr.add p6 10) fun x6=>
 NilW none p fun p7=>
 LdW none (shInt .i64) h1 (Addr.add p7 1) fun x7=>
 ((InB x6.base x6.len x7)/\LdW none shPtr h1 (sat x6.base 1 x7) fun x8=>
 NilW none m fun p8=>
 LdW none shSl h1 (Addr.add p8 10) fun x9=>
 NilW none p fun p9=>
 LdW none (shInt .i64) h1 (Addr.add p9 1) fun x10=>
 ((InB x9.base x9.len x10)/\LdW none shPtr h1 (sat x9.base 1 x10) fun x11=>
 NilW none x11 fun p10=>
 LdW none (shInt .i64) h1 (Addr.add p10 4) fun x12=>
 CallT P znq [(.int .i64 x12)] (shInt .i64) (fun r1 h2=>
 (((LdIs h2 (Addr.add p6 10) [x6.v])/\((LdIs h2 (Addr.add p7 1) [(.int .i64 x7)])/\((LdIs h2 (sat x6.base 1 x7) [(.pointer x8)])/\True)))/\NilW none x8 fun p11=>
 StW h2 (Addr.add p11 4) [(.int .i64 r1)] (fun h3=>
 Call0 P zal [(.pointer m),(.pointer p),(.int .i64 (0:Int))] (fun h4=>
 Q h4) h3))) h1))
 else
 NilW none p fun p6=>
 LdW none (shInt .i64) h1 (Addr.add p6 1) fun x6=>
 NilW none x2 fun p7=>
 LdW none (shInt .i64) h1 (Addr.add p7 1) fun x7=>
 (if (x6==x7)=true then
 Call0 P zfa [(.pointer m),(.pointer p),(.pointer x2),(.int .i64 v)] (fun h2=>
 Q h2) h1
 else
 JoinW0 (fun k=>
 NilW none x2 fun p8=>
 LdW none (shInt .i64) h1 (Addr.add p8 3) fun x8=>
 CallT P zlo [(.int .i64 x8)] zae (fun r1 h2=>
 NilW (some (!(!r1))) x2 fun p9=>
 LdW (some (!(!r1))) shPtr h2 (Addr.add p9 14) fun x9=>
 NilW (some (!(!r1))) p fun p10=>
 LdW (some (!(!r1))) (shInt .i64) h2 (Addr.add p10 1) fun x10=>
 EffC (some (!(!r1))) (CallT P zlk [(.pointer x9),(.int .i64 x10),(.int .i64 v)] (shInt .i64)) (fun r2 h3=>
 LetW ((!r1) || (r2 !=(0:Int))) fun y1=>
 (if y1 then
 NilW none x2 fun p11=>
 LdW none shPtr h3 (Addr.add p11 14) fun x11=>
 NilW none p fun p12=>
 LdW none (shInt .i64) h3 (Addr.add p12 1) fun x12=>
 Call0 P zgn [(.pointer x11),(.int .i64 x12)] (fun h4=>
 k h4) h3
 else
 Call0 P zcr [(.pointer m),(.pointer x2)] (fun h4=>
 k h4) h3)) h2) h1)
 (fun h2=>
 Call0 P zal [(.pointer m),(.pointer p),(.int .i64 (0:Int))] (fun h3=>
 Q h3) h2)))) h))
def zgh (P:Program) (m:Option Addr) (p:Option Addr) (try_:Bool) (Q:(Hp->Prop)) (h:Hp):Prop:=
 NilW none p fun p1=>
 LdW none shPtr h (Addr.add p1 14) fun x=>
 Call5 P zod [(.pointer x)] (shInt .i64) (shInt .i64) sh_api_Waiter zae (shInt .i64) (fun r r1 r2 r3 r4 h1=>
 (if (r4==(0:Int))=true then
 NilW none p fun p2=>
 LdW none zad h1 (Addr.add p2 4) fun x1=>
 NilW none p fun p3=>
 LdW none shSl h1 (Addr.add p3 2) fun x2=>
 CallT P zaq1 [x1.v,x2.v,(.int .i64 r),(.int .i64 r1)] zad (fun r5 h2=>
 NilW none p fun p4=>
 StW h2 (Addr.add p4 4) [(.int .i64 r5.PC),(.int .i64 r5.Regs_0),(.int .i64 r5.Regs_1),(.int .i64 r5.Regs_2),(.int .i64 r5.Regs_3),(.int .i64 r5.Regs_4),(.int .i64 r5.Regs_5),(.int .i64 r5.Regs_6),(.int .i64 r5.Regs_7)] (fun h3=>
 (if r3 then
 NilW none m fun p5=>
 LdW none shSl h3 (Addr.add p5 11) fun x3=>
 ((InB x3.base x3.len r2.Proc)/\LdW none shPtr h3 (sat x3.base 1 r2.Proc) fun x4=>
 Call0 P zal [(.pointer m),(.pointer x4),(.int .i64 (0:Int))] (fun h4=>
 Q h4) h3)
 else
 Q h3))) h1
 else
 NilW none p fun p2=>
 LdW none zae h1 (Addr.add p2 13) fun x1=>
 (if x1 then
 NilW none p fun p3=>
 StW h1 (Addr.add p3 13) [(.bool false)] (fun h2=>
 NilW none p fun p4=>
 LdW none zad h2 (Addr.add p4 4) fun x2=>
 NilW none p fun p5=>
 LdW none shSl h2 (Addr.add p5 2) fun x3=>
 CallT P zaq1 [x2.v,x3.v,(.int .i64 (0:Int)),(.int .i64 (-2:Int))] zad (fun r5 h3=>
 NilW none p fun p6=>
 StW h3 (Addr.add p6 4) [(.int .i64 r5.PC),(.int .i64 r5.Regs_0),(.int .i64 r5.Regs_1),(.int .i64 r5.Regs_2),(.int .i64 r5.Regs_3),(.int .i64 r5.Regs_4),(.int .i64 r5.Regs_5),(.int .i64 r5.Regs_6),(.int .i64 r5.Regs_7)] (fun h4=>
 Q h4)) h2)
 else
 (if try_ then
 NilW none p fun p3=>
 LdW none zad h1 (Addr.add p3 4) fun x2=>
 NilW none p fun p4=>
 LdW none shSl h1 (Addr.add p4 2) fun x3=>
 CallT P zaq1 [x2.v,x3.v,(.int .i64 (0:Int)),(.int .i64 (-1:Int))] zad (fun r5 h2=>
 NilW none p fun p5=>
 StW h2 (Addr.add p5 4) [(.int .i64 r5.PC),(.int .i64 r5.Regs_0),(.int .i64 r5.Regs_1),(.int .i64 r5.Regs_2),(.int .i64 r5.Regs_3),(.int .i64 r5.Regs_4),(.int .i64 r5.Regs_5),(.int .i64 r5.Regs_6),(.int .i64 r5.Regs_7)] (fun h3=>
 Q h3)) h1
 else
 NilW none p fun p3=>
 StW h1 (Addr.add p3 3) [(.int .i64 (1:Int))] (fun h2=>
 Q h2))))) h
def zlx (P:Program) (l:Option Addr) (n:Int) (p:Int) (Q:(Bool->(Int->(Hp->Prop)))) (h:Hp):Prop:=
 CallT P zki [(.pointer l),(.int .i64 n),(.int .i64 p)] (shInt .i64) (fun r h1=>
 (if (r !=(0:Int))=true then
 Q false r h1
 else
 Call2 P zfq [(.pointer l),(.int .i64 p)] (shInt .i64) zae (fun r1 r2 h2=>
 (if r2 then
 Q false (20:Int) h2
 else
 NilW none l fun p1=>
 LdW none shSl h2 (Addr.add p1 0) fun x=>
 ((InB x.base x.len n)/\JoinW0 (fun k=>
 NilW none (some (sat x.base 2 n)) fun p2=>
 LdW none (shInt .i64) h2 (Addr.add p2 0) fun x1=>
 (if (x1==(-1:Int))=true then
 NilW none (some (sat x.base 2 n)) fun p3=>
 StW h2 (Addr.add p3 0) [(.int .i64 p)] (fun h3=>
 k h3)
 else
 k h2))
 (fun h3=>
 NilW none (some (sat x.base 2 n)) fun p2=>
 LdW none (shInt .i64) h3 (Addr.add p2 0) fun x1=>
 (if (x1 !=p)=true then
 NilW none (some (sat x.base 2 n)) fun p3=>
 LdW none shSl h3 (Addr.add p3 1) fun x2=>
 NewW [(.int .i64 p)] (fun a h4=>
 zai 1 8 [(.int .i64 (0:Int))] x2 ⟨(some a),1,1⟩ (fun r3 h5=>
 NilW none (some (sat x.base 2 n)) fun p4=>
 StW h5 (Addr.add p4 1) [r3.v] (fun h6=>
 NilW none (some (sat x.base 2 n)) fun p5=>
 LdW none (shInt .i64) h6 (Addr.add p5 0) fun x3=>
 Q (x3==p) (0:Int) h6)) h4) h3
 else
 NilW none (some (sat x.base 2 n)) fun p3=>
 LdW none (shInt .i64) h3 (Addr.add p3 0) fun x2=>
 Q (x2==p) (0:Int) h3))))) h1)) h
def zeo (P:Program) (s:Sl) (v:Int) (Q:(Bool->(Hp->Prop))) (h:Hp):Prop:=
 CallT P zhb [s.v,(.int .i64 v)] (shInt .i64) (fun r h1=>
 Q (decide (r>=(0:Int))) h1) h
def zkn (P:Program) (l:Option Addr) (p:Int) (Q:(Sl->(Hp->Prop))) (h:Hp):Prop:=
 NilW none l fun p1=>
 LdW none shSl h (Addr.add p1 0) fun x=>
 LoopW2 (α1:=Sl) (α2:=Int) (fun again out t13 h1=>
 (if decide (t13<(x.len:Int)) then
 JoinW1 (α1:=Sl) (fun k=>
 ((InB x.base x.len t13)/\LdW none sh_locks_lock h1 (sat x.base 2 t13) fun x1=>
 LetW ((x1.owner==p)&&(p !=(-1:Int))) fun y=>
 (if y then
 NewW [(.int .i64 t13)] (fun a h2=>
 zai 1 8 [(.int .i64 (0:Int))] ⟨out.base,out.len,out.cap⟩ ⟨(some a),1,1⟩ (fun r h3=>
 k r h3) h2) h1
 else
 k ⟨out.base,out.len,out.cap⟩ h1)))
 (fun out1 h2=>
 again out1 (IntKind.wrap .i64 (t13+(1:Int))) h2)
 else
 Q ⟨out.base,out.len,out.cap⟩ h1)) ⟨none,0,0⟩ (0:Int) h
def zly (P:Program) (l:Option Addr) (n:Int) (p:Int) (Q:(Int->(Int->(Hp->Prop)))) (h:Hp):Prop:=
 CallT P zki [(.pointer l),(.int .i64 n),(.int .i64 p)] (shInt .i64) (fun r h1=>
 (if (r !=(0:Int))=true then
 Q (0:Int) r h1
 else
 NilW none l fun p1=>
 LdW none shSl h1 (Addr.add p1 0) fun x=>
 ((InB x.base x.len n)/\NilW none (some (sat x.base 2 n)) fun p2=>
 LdW none (shInt .i64) h1 (Addr.add p2 0) fun x1=>
 (if (x1 !=p)=true then
 NilW none (some (sat x.base 2 n)) fun p3=>
 LdW none (shInt .i64) h1 (Addr.add p3 0) fun x2=>
 Q x2 (0:Int) h1
 else
 NilW none (some (sat x.base 2 n)) fun p3=>
 LdW none shSl h1 (Addr.add p3 1) fun x2=>
 (if ((x2.len:Int)==(0:Int))=true then
 NilW none (some (sat x.base 2 n)) fun p4=>
 StW h1 (Addr.add p4 0) [(.int .i64 (-1:Int))] (fun h2=>
 NilW none (some (sat x.base 2 n)) fun p5=>
 LdW none (shInt .i64) h2 (Addr.add p5 0) fun x3=>
 Q x3 (0:Int) h2)
 else
 NilW none (some (sat x.base 2 n)) fun p4=>
 LdW none shSl h1 (Addr.add p4 1) fun x3=>
 ((InB x3.base x3.len (0:Int))/\LdW none (shInt .i64) h1 (sat x3.base 1 (0:Int)) fun x4=>
 NilW none (some (sat x.base 2 n)) fun p5=>
 StW h1 (Addr.add p5 0) [(.int .i64 x4)] (fun h2=>
 NilW none (some (sat x.base 2 n)) fun p6=>
 LdW none shSl h2 (Addr.add p6 1) fun x5=>
 NilW none (some (sat x.base 2 n)) fun p7=>
 LdW none shSl h2 (Addr.add p7 1) fun x6=>
 NilW none (some (sat x.base 2 n)) fun p8=>
 LdW none shSl h2 (Addr.add p8 1) fun x7=>
 (((0:Int)<=(1:Int)/\((1:Int)<=(x6.len:Int)/\((x6.len:Int)<=(x7.len:Int)/\(x7.len:Int)<=(x5.cap:Int))))/\LetW (α:=Sl) ⟨(sbase x5.base 1 1 (Int.toNat (x7.len:Int))),((Int.toNat (x6.len:Int))-1),((Int.toNat (x7.len:Int))-1)⟩ fun y=>
 NilW none (some (sat x.base 2 n)) fun p9=>
 StW h2 (Addr.add p9 1) [y.v] (fun h3=>
 NilW none (some (sat x.base 2 n)) fun p10=>
 LdW none (shInt .i64) h3 (Addr.add p10 0) fun x8=>
 Q x8 (0:Int) h3))))))))) h
def zrv (P:Program) (n:Int) (Q:(Int->(Hp->Prop))) (h:Hp):Prop:=
 Q (min2I (IntKind.wrap .i64 (n+(1:Int))) (65535:Int)) h
def zhk (P:Program) (x:S_api_Ins) (n:Int) (locks:Int) (Q:(Int->(Hp->Prop))) (h:Hp):Prop:=
 Call2 P zgz [x.v,(.int .i64 n),(.int .i64 locks)] (shInt .i64) (shInt .i64) (fun r r1 h1=>
 Q r h1) h
def zzg (P:Program) (x:S_api_Ins) (n:Int) (locks:Int) (Q:(Int->(Int->(Hp->Prop)))) (h:Hp):Prop:=
 LetW ((decide (x.Op<(0:Int))) || (decide (x.Op>=(34:Int)))) fun y=>
 (if y then
 Q (9:Int) (0:Int) h
 else
 Call4 P zoz [(.int .i64 x.Op)] zae zae zae zae (fun r r1 r2 r3 h1=>
 CallT P zlq [(.bool r),(.int .i64 x.A)] (shInt .i64) (fun r4 h2=>
 (if (r4 !=(0:Int))=true then
 Q r4 (1:Int) h2
 else
 CallT P zlq [(.bool r1),(.int .i64 x.B)] (shInt .i64) (fun r5 h3=>
 (if (r5 !=(0:Int))=true then
 Q r5 (2:Int) h3
 else
 CallT P zlq [(.bool r2),(.int .i64 x.C)] (shInt .i64) (fun r6 h4=>
 (if (r6 !=(0:Int))=true then
 Q r6 (3:Int) h4
 else
 CallT P zfi1 [x.v,(.bool r3),(.int .i64 n),(.int .i64 locks)] (shInt .i64) (fun r7 h5=>
 Q r7 (4:Int) h5) h4)) h3)) h2)) h1) h)
def zvf (P:Program) (op:Int) (Q:(Bool->(Bool->(Bool->(Bool->(Hp->Prop)))))) (h:Hp):Prop:=
 CallT P zfj1 [(.int .i64 op)] shStr (fun r h1=>
 NewW [(.string ⟨#[]⟩)] (fun a h2=>
 StW h2 a [(.string r)] (fun h3=>
 CallV P tb (.func (.func 215) #[] #[(.pointer (some a))]) [(.string ⟨#[97]⟩)] zae (fun r1 h4=>
 CallV P tb (.func (.func 215) #[] #[(.pointer (some a))]) [(.string ⟨#[98]⟩)] zae (fun r2 h5=>
 CallV P tb (.func (.func 215) #[] #[(.pointer (some a))]) [(.string ⟨#[99]⟩)] zae (fun r3 h6=>
 CallV P tb (.func (.func 215) #[] #[(.pointer (some a))]) [(.string ⟨#[105]⟩)] zae (fun r4 h7=>
 Q r1 r2 r3 r4 h7) h6) h5) h4) h3)) h1) h
def zho1 (P:Program) (room:Int) (Q:(Option Addr->(Int->(Hp->Prop)))) (h:Hp):Prop:=
 CallT P zpa [(.int .i64 room),(.int .i64 (1:Int)),(.int .i64 (64:Int))] zae (fun r h1=>
 (if (!r)=true then
 Q none (1:Int) h1
 else
 NewW [(.int .i64 room),(.slice none 0 0),(.slice none 0 0),(.int .i64 (0:Int)),(.int .i64 (0:Int))] (fun a h2=>
 Q (some a) (0:Int) h2) h1)) h
def zpb (P:Program) (n:Int) (from_:Int) (to:Int) (Q:(Bool->(Hp->Prop))) (h:Hp):Prop:=
 LetW ((decide (n>=from_))&&(decide (n<=to))) fun y=>
 Q y h
def zzh (P:Program) (l:Sl) (Q:(Bool->(Hp->Prop))) (h:Hp):Prop:=
 zaf1  (fun r h1=>
 LoopW1 (α1:=Int) (fun again t9 h2=>
 (if decide (t9<(l.len:Int)) then
 ((InB l.base l.len t9)/\LdW none sh_api_Waiter h2 (sat l.base 2 t9) fun x=>
 LookW none (.int .i64) (shInt .i64) (.int .i64 (0:Int)) r (.int .i64 x.Proc) h2 fun x1 ok=>
 zrq (.int .i64) r (.int .i64 x.Proc) (.int .i64 (IntKind.wrap .i64 (x1+(1:Int)))) (fun h3=>
 LookW none (.int .i64) (shInt .i64) (.int .i64 (0:Int)) r (.int .i64 x.Proc) h3 fun x2 ok1=>
 (if decide (x2>(1:Int)) then
 Q true h3
 else
 again (IntKind.wrap .i64 (t9+(1:Int))) h3)) h2)
 else
 Q false h2)) (0:Int) h1) h
def zde (P:Program) (s:Sl) (i:Int) (j:Int) (Q:(Sl->(Hp->Prop))) (h:Hp):Prop:=
 (((0:Int)<=i/\(i<=j/\(j<=(s.len:Int)/\(s.len:Int)<=(s.cap:Int))))/\LetW (α:=Sl) ⟨(sbase s.base 2 (Int.toNat i) (Int.toNat (s.len:Int))),((Int.toNat j)-(Int.toNat i)),((Int.toNat (s.len:Int))-(Int.toNat i))⟩ fun y=>
 (if (i==j)=true then
 Q s h
 else
 (((0:Int)<=i/\i<=(s.cap:Int))/\LetW (α:=Sl) ⟨(sbase s.base 2 0 s.cap),((Int.toNat i)-0),(s.cap-0)⟩ fun y1=>
 (((0:Int)<=j/\j<=(s.len:Int))/\LetW (α:=Sl) ⟨(sbase s.base 2 (Int.toNat j) s.cap),(s.len-(Int.toNat j)),(s.cap-(Int.toNat j))⟩ fun y2=>
 zai 2 16 [(.int .i64 (0:Int)),(.int .i64 (0:Int))] y1 y2 (fun r h1=>
 (((0:Int)<=(r.len:Int)/\((r.len:Int)<=(s.len:Int)/\(s.len:Int)<=(r.cap:Int)))/\LetW (α:=Sl) ⟨(sbase r.base 2 (Int.toNat (r.len:Int)) r.cap),((Int.toNat (s.len:Int))-(Int.toNat (r.len:Int))),(r.cap-(Int.toNat (r.len:Int)))⟩ fun y3=>
 SemE0 P (Builtin.clear_ #[205] 0 #[y3.v]) zrf (fun h2=>
 Q r h2) h1)) h))))
def zzi (P:Program) (vals:Sl) (Q:(Int->(Hp->Prop))) (h:Hp):Prop:=
 LoopW1 (α1:=Int) (fun again t8 h1=>
 (if decide (t8<(vals.len:Int)) then
 ((InB vals.base vals.len t8)/\LdW none (shInt .i64) h1 (sat vals.base 1 t8) fun x=>
 (if (x !=(0:Int))=true then
 Q x h1
 else
 again (IntKind.wrap .i64 (t8+(1:Int))) h1))
 else
 Q (0:Int) h1)) (0:Int) h
def zko (P:Program) (x:Int) (y:Int) (Q:(Int->(Hp->Prop))) (h:Hp):Prop:=
 CallT P zmx [(.int .i64 x)] zae (fun r h1=>
 CallT P zmx [(.int .i64 y)] zae (fun r1 h2=>
 (if r then
 (if r1 then
 Q (0:Int) h2
 else
 Q (-1:Int) h2)
 else
 (if r1 then
 Q (1:Int) h2
 else
 (if decide (x<y) then
 Q (-1:Int) h2
 else
 (if decide (x>y) then
 Q (1:Int) h2
 else
 Q (0:Int) h2))))) h1) h
def zng (P:Program) (x:Int) (y:Int) (Q:(Int->(Hp->Prop))) (h:Hp):Prop:=
 CallT P zpu [(.int .i64 x)] zae (fun r h1=>
 CallT P zpu [(.int .i64 y)] zae (fun r1 h2=>
 (if r then
 (if r1 then
 Q (0:Int) h2
 else
 Q (-1:Int) h2)
 else
 (if r1 then
 Q (1:Int) h2
 else
 (if decide (x<y) then
 Q (-1:Int) h2
 else
 (if decide (x>y) then
 Q (1:Int) h2
 else
 Q (0:Int) h2))))) h1) h
def znh (P:Program) (x:Int) (y:Int) (Q:(Int->(Int->(Hp->Prop)))) (h:Hp):Prop:=
 ((0:Int)<=(32:Int)/\((0:Int)<=(32:Int)/\((0:Int)<=(32:Int)/\((0:Int)<=(32:Int)/\((0:Int)<=(32:Int)/\Q (IntKind.wrap .u64 ((IntKind.wrap .u64 ((IntKind.wrap .u64 ((shrI .u64 x (32:Int))*(shrI .u64 y (32:Int))))+(shrI .u64 (IntKind.wrap .u64 ((IntKind.wrap .u64 ((shrI .u64 x (32:Int))*(bitsI .and .u64 y (4294967295:Int))))+(shrI .u64 (IntKind.wrap .u64 ((bitsI .and .u64 x (4294967295:Int))*(bitsI .and .u64 y (4294967295:Int)))) (32:Int)))) (32:Int))))+(shrI .u64 (IntKind.wrap .u64 ((bitsI .and .u64 (IntKind.wrap .u64 ((IntKind.wrap .u64 ((shrI .u64 x (32:Int))*(bitsI .and .u64 y (4294967295:Int))))+(shrI .u64 (IntKind.wrap .u64 ((bitsI .and .u64 x (4294967295:Int))*(bitsI .and .u64 y (4294967295:Int)))) (32:Int)))) (4294967295:Int))+(IntKind.wrap .u64 ((bitsI .and .u64 x (4294967295:Int))*(shrI .u64 y (32:Int)))))) (32:Int)))) (IntKind.wrap .u64 (x*y)) h)))))
def zoi (P:Program) (l:Option Addr) (Q:(Bool->(Hp->Prop))) (h:Hp):Prop:=
 NilW none l fun p=>
 LdW none shSl h (Addr.add p 1) fun x=>
 NilW none l fun p1=>
 LdW none (shInt .i64) h (Addr.add p1 0) fun x1=>
 Q (decide ((x.len:Int)>=x1)) h
def zdf1 (P:Program) (n:Int) (Q:(Int->(Hp->Prop))) (h:Hp):Prop:=
 Q (min2I (IntKind.wrap .i64 (n+(1:Int))) (65535:Int)) h
def zni (P:Program) (l:Option Addr) (p:Int) (Q:(Bool->(Hp->Prop))) (h:Hp):Prop:=
 CallT P zmy [(.pointer l),(.int .i64 p)] (shInt .i64) (fun r h1=>
 (if decide (r<(0:Int)) then
 Q false h1
 else
 NilW none l fun p1=>
 LdW none shSl h1 (Addr.add p1 2) fun x=>
 CallT P zdj [x.v,(.int .i64 r),(.int .i64 (IntKind.wrap .i64 (r+(1:Int))))] shSl (fun r1 h2=>
 NilW none l fun p2=>
 StW h2 (Addr.add p2 2) [r1.v] (fun h3=>
 Q true h3)) h1)) h
def zhl (P:Program) (s:Sl) (v:Int) (Q:(Int->(Hp->Prop))) (h:Hp):Prop:=
 LoopW1 (α1:=Int) (fun again t8 h1=>
 (if decide (t8<(s.len:Int)) then
 ((InB s.base s.len t8)/\LdW none (shInt .i64) h1 (sat s.base 1 t8) fun x=>
 (if (v==x)=true then
 Q t8 h1
 else
 again (IntKind.wrap .i64 (t8+(1:Int))) h1))
 else
 Q (-1:Int) h1)) (0:Int) h
def zgi (P:Program) (s:Sl) (i:Int) (j:Int) (Q:(Sl->(Hp->Prop))) (h:Hp):Prop:=
 (((0:Int)<=i/\(i<=j/\(j<=(s.len:Int)/\(s.len:Int)<=(s.cap:Int))))/\LetW (α:=Sl) ⟨(sbase s.base 1 (Int.toNat i) (Int.toNat (s.len:Int))),((Int.toNat j)-(Int.toNat i)),((Int.toNat (s.len:Int))-(Int.toNat i))⟩ fun y=>
 (if (i==j)=true then
 Q s h
 else
 (((0:Int)<=i/\i<=(s.cap:Int))/\LetW (α:=Sl) ⟨(sbase s.base 1 0 s.cap),((Int.toNat i)-0),(s.cap-0)⟩ fun y1=>
 (((0:Int)<=j/\j<=(s.len:Int))/\LetW (α:=Sl) ⟨(sbase s.base 1 (Int.toNat j) s.cap),(s.len-(Int.toNat j)),(s.cap-(Int.toNat j))⟩ fun y2=>
 zai 1 8 [(.int .i64 (0:Int))] y1 y2 (fun r h1=>
 (((0:Int)<=(r.len:Int)/\((r.len:Int)<=(s.len:Int)/\(s.len:Int)<=(r.cap:Int)))/\LetW (α:=Sl) ⟨(sbase r.base 1 (Int.toNat (r.len:Int)) r.cap),((Int.toNat (s.len:Int))-(Int.toNat (r.len:Int))),(r.cap-(Int.toNat (r.len:Int)))⟩ fun y3=>
 SemE0 P (Builtin.clear_ #[23] 0 #[y3.v]) zrf (fun h2=>
 Q r h2) h1)) h))))
def zqe (P:Program) (l:Option Addr) (Q:(Sl->(Hp->Prop))) (h:Hp):Prop:=
 NilW none l fun p=>
 LdW none shSl h (Addr.add p 2) fun x=>
 NilW none l fun p1=>
 LdW none shSl h (Addr.add p1 2) fun x1=>
 NilW none l fun p2=>
 LdW none shSl h (Addr.add p2 2) fun x2=>
 (((0:Int)<=(x1.len:Int)/\((x1.len:Int)<=(x2.len:Int)/\(x2.len:Int)<=(x.cap:Int)))/\LetW (α:=Sl) ⟨(sbase x.base 2 0 (Int.toNat (x2.len:Int))),((Int.toNat (x1.len:Int))-0),((Int.toNat (x2.len:Int))-0)⟩ fun y=>
 NilW none l fun p3=>
 StW h (Addr.add p3 2) [(.slice none 0 0)] (fun h1=>
 Q y h1))
def zhp1 (P:Program) (c:S_cpu_Core) (code:Sl) (reply:Int) (Q:(S_cpu_Core->(Hp->Prop))) (h:Hp):Prop:=
 NewW [(.int .i64 c.PC),(.int .i64 c.Regs_0),(.int .i64 c.Regs_1),(.int .i64 c.Regs_2),(.int .i64 c.Regs_3),(.int .i64 c.Regs_4),(.int .i64 c.Regs_5),(.int .i64 c.Regs_6),(.int .i64 c.Regs_7)] (fun a h1=>
 JoinW0 (fun k=>
 LdW none zad h1 a fun x=>
 Call2 P zfh1 [x.v,code.v] sh_api_Ins zae (fun r r1 h2=>
 (if r1 then
 Call0 P zbu [(.pointer (some a)),(.int .i64 r.A),(.int .i64 reply)] (fun h3=>
 k h3) h2
 else
 k h2)) h1)
 (fun h2=>
 LdW none zad h2 a fun x=>
 CallT P zgv [x.v] zad (fun r h3=>
 Q r h3) h2)) h
def zst1 (P:Program) (c:S_cpu_Core) (l:Sl) (Q:(S_api_Ins->(Bool->(Hp->Prop)))) (h:Hp):Prop:=
 LetW ((decide (c.PC<(0:Int))) || (decide (c.PC>=(l.len:Int)))) fun y=>
 (if y then
 Q ⟨(0:Int),(0:Int),(0:Int),(0:Int),(0:Int)⟩ false h
 else
 ((InB l.base l.len c.PC)/\LdW none sh_api_Ins h (sat l.base 5 c.PC) fun x=>
 Q x true h))
def zdg1 (P:Program) (x:S_api_Ins) (r:S_n8_int64) (Q:(S_cpu_Want->(Bool->(Bool->(Hp->Prop))))) (h:Hp):Prop:=
 (if (x.Op==(0:Int))=true then
 Q ⟨(1:Int),(0:Int),(0:Int)⟩ true true h
 else
 (if (x.Op==(24:Int))=true then
 (((0:Int)<=x.B/\x.B<(8:Int))/\∃x1:Int,((List.get?Internal (α:=Value) [(.int .i64 r.a0),(.int .i64 r.a1),(.int .i64 r.a2),(.int .i64 r.a3),(.int .i64 r.a4),(.int .i64 r.a5),(.int .i64 r.a6),(.int .i64 r.a7)] (0+((Int.toNat x.B)*1)))=(some (.int .i64 x1))/\(((0:Int)<=x.C/\x.C<(8:Int))/\∃x2:Int,((List.get?Internal (α:=Value) [(.int .i64 r.a0),(.int .i64 r.a1),(.int .i64 r.a2),(.int .i64 r.a3),(.int .i64 r.a4),(.int .i64 r.a5),(.int .i64 r.a6),(.int .i64 r.a7)] (0+((Int.toNat x.C)*1)))=(some (.int .i64 x2))/\Q ⟨(2:Int),x1,x2⟩ true true h))))
 else
 (if (x.Op==(25:Int))=true then
 Q ⟨(3:Int),(0:Int),(0:Int)⟩ true true h
 else
 (if (x.Op==(26:Int))=true then
 Q ⟨(4:Int),(0:Int),(0:Int)⟩ true true h
 else
 (if (x.Op==(27:Int))=true then
 (((0:Int)<=x.A/\x.A<(8:Int))/\∃x1:Int,((List.get?Internal (α:=Value) [(.int .i64 r.a0),(.int .i64 r.a1),(.int .i64 r.a2),(.int .i64 r.a3),(.int .i64 r.a4),(.int .i64 r.a5),(.int .i64 r.a6),(.int .i64 r.a7)] (0+((Int.toNat x.A)*1)))=(some (.int .i64 x1))/\Q ⟨(5:Int),(0:Int),x1⟩ false true h))
 else
 (if (x.Op==(28:Int))=true then
 (((0:Int)<=x.A/\x.A<(8:Int))/\∃x1:Int,((List.get?Internal (α:=Value) [(.int .i64 r.a0),(.int .i64 r.a1),(.int .i64 r.a2),(.int .i64 r.a3),(.int .i64 r.a4),(.int .i64 r.a5),(.int .i64 r.a6),(.int .i64 r.a7)] (0+((Int.toNat x.A)*1)))=(some (.int .i64 x1))/\Q ⟨(6:Int),(0:Int),x1⟩ true true h))
 else
 (if (x.Op==(29:Int))=true then
 Q ⟨(7:Int),x.Imm,(0:Int)⟩ true true h
 else
 (if (x.Op==(30:Int))=true then
 Q ⟨(8:Int),x.Imm,(0:Int)⟩ false true h
 else
 (if (x.Op==(31:Int))=true then
 (((0:Int)<=x.A/\x.A<(8:Int))/\∃x1:Int,((List.get?Internal (α:=Value) [(.int .i64 r.a0),(.int .i64 r.a1),(.int .i64 r.a2),(.int .i64 r.a3),(.int .i64 r.a4),(.int .i64 r.a5),(.int .i64 r.a6),(.int .i64 r.a7)] (0+((Int.toNat x.A)*1)))=(some (.int .i64 x1))/\Q ⟨(9:Int),(0:Int),x1⟩ false true h))
 else
 Q ⟨(0:Int),(0:Int),(0:Int)⟩ false false h)))))))))
def zrw (P:Program) (c:Option Addr) (reg:Int) (v:Int) (Q:(Hp->Prop)) (h:Hp):Prop:=
 LetW ((decide (reg>=(0:Int)))&&(decide (reg<(8:Int)))) fun y=>
 (if y then
 NilW none c fun p=>
 (((0:Int)<=reg/\reg<(8:Int))/\StW h (Addr.add (Addr.add p 1) ((Int.toNat reg)*1)) [(.int .i64 v)] (fun h1=>
 Q h1))
 else
 Q h)
def zsu1 (P:Program) (op:Int) (b:Int) (c:Int) (Q:(Int->(Int->(Hp->Prop)))) (h:Hp):Prop:=
 (if (op==(3:Int))=true then
 Q (IntKind.wrap .i64 (b+c)) (0:Int) h
 else
 (if (op==(4:Int))=true then
 Q (IntKind.wrap .i64 (b-c)) (0:Int) h
 else
 (if (op==(5:Int))=true then
 Q (IntKind.wrap .i64 (b*c)) (0:Int) h
 else
 (if (op==(6:Int))=true then
 CallT P zrs [(.int .i64 b),(.int .i64 c)] (shInt .i64) (fun r h1=>
 Q r (0:Int) h1) h
 else
 (if (op==(7:Int))=true then
 CallT P zrs [(.int .i64 b),(.int .i64 c)] (shInt .i64) (fun r h1=>
 Q (IntKind.wrap .i64 (b-(IntKind.wrap .i64 (r*c)))) (0:Int) h1) h
 else
 (if (op==(8:Int))=true then
 Q (bitsI .and .i64 b c) (0:Int) h
 else
 (if (op==(9:Int))=true then
 Q (bitsI .or .i64 b c) (0:Int) h
 else
 (if (op==(10:Int))=true then
 Q (bitsI .xor .i64 b c) (0:Int) h
 else
 (if (op==(11:Int))=true then
 CallT P zrd1 [(.int .i64 b),(.int .i64 c)] (shInt .i64) (fun r h1=>
 Q r (0:Int) h1) h
 else
 (if (op==(12:Int))=true then
 CallT P zmp1 [(.int .i64 b),(.int .i64 c)] (shInt .i64) (fun r h1=>
 Q r (0:Int) h1) h
 else
 (if (op==(13:Int))=true then
 CallT P zmq1 [(.bool (decide (b<c)))] (shInt .i64) (fun r h1=>
 Q r (0:Int) h1) h
 else
 (if (op==(14:Int))=true then
 CallT P zmq1 [(.bool (b==c))] (shInt .i64) (fun r h1=>
 Q r (0:Int) h1) h
 else
 Q (0:Int) (9:Int) h))))))))))))
def zsv1 (P:Program) (op:Int) (b:Int) (c:Int) (Q:(Int->(Int->(Hp->Prop)))) (h:Hp):Prop:=
 CallT P zdc1 [(.int .i64 b)] (shFlt .f64) (fun r h1=>
 CallT P zdc1 [(.int .i64 c)] (shFlt .f64) (fun r1 h2=>
 (if (op==(15:Int))=true then
 SemE P (binS .add 314 (.tmp 17) (.tmp 18) (.float .f64 r) (.float .f64 r1)) (shFlt .f64) (fun r2 h3=>
 CallT P zph [(.float .f64 r2)] (shInt .i64) (fun r3 h4=>
 Q r3 (0:Int) h4) h3) h2
 else
 (if (op==(16:Int))=true then
 SemE P (binS .sub 314 (.tmp 23) (.tmp 24) (.float .f64 r) (.float .f64 r1)) (shFlt .f64) (fun r2 h3=>
 CallT P zph [(.float .f64 r2)] (shInt .i64) (fun r3 h4=>
 Q r3 (0:Int) h4) h3) h2
 else
 (if (op==(17:Int))=true then
 SemE P (binS .mul 314 (.tmp 29) (.tmp 30) (.float .f64 r) (.float .f64 r1)) (shFlt .f64) (fun r2 h3=>
 CallT P zph [(.float .f64 r2)] (shInt .i64) (fun r3 h4=>
 Q r3 (0:Int) h4) h3) h2
 else
 (if (op==(18:Int))=true then
 SemE P (binS .quo 314 (.tmp 35) (.tmp 36) (.float .f64 r) (.float .f64 r1)) (shFlt .f64) (fun r2 h3=>
 CallT P zph [(.float .f64 r2)] (shInt .i64) (fun r3 h4=>
 Q r3 (0:Int) h4) h3) h2
 else
 (if (op==(19:Int))=true then
 SemV none P (binS .lss 314 (.tmp 41) (.tmp 42) (.float .f64 r) (.float .f64 r1)) zae h2 fun x=>
 (if x then
 Q (1:Int) (0:Int) h2
 else
 Q (0:Int) (0:Int) h2)
 else
 (if (op==(20:Int))=true then
 SemV none P (convert 2 314 (.int .i64 b)) (shFlt .f64) h2 fun x=>
 CallT P zph [(.float .f64 x)] (shInt .i64) (fun r2 h3=>
 Q r2 (0:Int) h3) h2
 else
 (if (op==(21:Int))=true then
 CallT P zmr1 [(.float .f64 r)] (shInt .i64) (fun r2 h3=>
 Q r2 (0:Int) h3) h2
 else
 Q (0:Int) (9:Int) h2)))))))) h1) h
def zkp (P:Program) (t:Option Addr) (i:Int) (j:Int) (Q:(Bool->(Hp->Prop))) (h:Hp):Prop:=
 CallT P zoe [(.pointer t),(.int .i64 i)] zae (fun r h1=>
 EffC (some r) (CallT P zoe [(.pointer t),(.int .i64 j)] zae) (fun r1 h2=>
 LetW (r&&r1) fun y=>
 NilW (some y) t fun p=>
 LdW (some y) shSl h2 (Addr.add p 0) fun x=>
 ((y=true->(InB x.base x.len i))/\LdW (some y) (shInt .u64) h2 (sat x.base 1 i) fun x1=>
 NilW (some y) t fun p1=>
 LdW (some y) shSl h2 (Addr.add p1 0) fun x2=>
 ((y=true->(InB x2.base x2.len j))/\LdW (some y) (shInt .u64) h2 (sat x2.base 1 j) fun x3=>
 EffC (some y) (CallT P zff1 [(.int .u64 x1),(.int .u64 x3)] zae) (fun r2 h3=>
 LetW (y&&r2) fun y1=>
 Q y1 h3) h2))) h1) h
def zfc (P:Program) (m:Option Addr) (p:Option Addr) (q:Option Addr) (v:Int) (Q:(Hp->Prop)) (h:Hp):Prop:=
 NilW none q fun p1=>
 LdW none (shInt .i64) h (Addr.add p1 3) fun x=>
 CallT P zlo [(.int .i64 x)] zae (fun r h1=>
 (if (!r)=true then
 Call0 P zal [(.pointer m),(.pointer p),(.int .i64 (2:Int))] (fun h2=>
 Q h2) h1
 else
 NilW none q fun p2=>
 LdW none shPtr h1 (Addr.add p2 14) fun x1=>
 NilW none p fun p3=>
 LdW none (shInt .i64) h1 (Addr.add p3 1) fun x2=>
 CallT P zlk [(.pointer x1),(.int .i64 x2),(.int .i64 v)] (shInt .i64) (fun r1 h2=>
 (if (r1 !=(0:Int))=true then
 NilW none q fun p4=>
 LdW none shPtr h2 (Addr.add p4 14) fun x3=>
 NilW none p fun p5=>
 LdW none (shInt .i64) h2 (Addr.add p5 1) fun x4=>
 NilW none p fun p6=>
 LdW none (shInt .i64) h2 (Addr.add p6 0) fun x5=>
 CallT P zwy [(.pointer x3),(.int .i64 x4),(.int .i64 x5),(.int .i64 v)] (shInt .i64) (fun r2 h3=>
 NilW none p fun p7=>
 StW h3 (Addr.add p7 3) [(.int .i64 (2:Int))] (fun h4=>
 Q h4)) h2
 else
 Call0 P zcr [(.pointer m),(.pointer q)] (fun h3=>
 Call0 P zal [(.pointer m),(.pointer p),(.int .i64 (0:Int))] (fun h4=>
 Q h4) h3) h2)) h1)) h
def zhq1 (P:Program) (c:S_cpu_Core) (code:Sl) (v:Int) (from_:Int) (Q:(S_cpu_Core->(Hp->Prop))) (h:Hp):Prop:=
 NewW [(.int .i64 c.PC),(.int .i64 c.Regs_0),(.int .i64 c.Regs_1),(.int .i64 c.Regs_2),(.int .i64 c.Regs_3),(.int .i64 c.Regs_4),(.int .i64 c.Regs_5),(.int .i64 c.Regs_6),(.int .i64 c.Regs_7)] (fun a h1=>
 JoinW0 (fun k=>
 LdW none zad h1 a fun x=>
 Call2 P zfh1 [x.v,code.v] sh_api_Ins zae (fun r r1 h2=>
 (if r1 then
 Call0 P zbu [(.pointer (some a)),(.int .i64 r.A),(.int .i64 v)] (fun h3=>
 Call0 P zbu [(.pointer (some a)),(.int .i64 r.B),(.int .i64 from_)] (fun h4=>
 k h4) h3) h2
 else
 k h2)) h1)
 (fun h2=>
 LdW none zad h2 a fun x=>
 CallT P zgv [x.v] zad (fun r h3=>
 Q r h3) h2)) h
def zkq (P:Program) (l:Option Addr) (n:Int) (p:Int) (Q:(Int->(Hp->Prop))) (h:Hp):Prop:=
 NilW (some (!(decide (n<(0:Int))))) l fun p1=>
 LdW (some (!(decide (n<(0:Int))))) shSl h (Addr.add p1 0) fun x=>
 LetW ((decide (n<(0:Int))) || (decide (n>=(x.len:Int)))) fun y=>
 (if y then
 Q (2:Int) h
 else
 (if decide (p<(0:Int)) then
 Q (1:Int) h
 else
 Q (0:Int) h))
def zqf (P:Program) (has:Bool) (n:Int) (Q:(Int->(Hp->Prop))) (h:Hp):Prop:=
 LetW ((!has)&&(n !=(0:Int))) fun y=>
 (if y then
 Q (11:Int) h
 else
 LetW ((decide (n<(0:Int))) || (decide (n>=(8:Int)))) fun y1=>
 (if y1 then
 Q (10:Int) h
 else
 Q (0:Int) h))
def zvg (P:Program) (x:S_api_Ins) (has:Bool) (n:Int) (locks:Int) (Q:(Int->(Hp->Prop))) (h:Hp):Prop:=
 LetW ((!has)&&(x.Imm !=(0:Int))) fun y=>
 (if y then
 Q (11:Int) h
 else
 LetW ((x.Op==(22:Int)) || (x.Op==(23:Int))) fun y1=>
 (if y1 then
 LetW ((decide (x.Imm<(0:Int))) || (decide (x.Imm>n))) fun y2=>
 (if y2 then
 Q (12:Int) h
 else
 Q (0:Int) h)
 else
 LetW ((x.Op==(29:Int)) || (x.Op==(30:Int))) fun y2=>
 (if y2 then
 LetW ((decide (x.Imm<(0:Int))) || (decide (x.Imm>=locks))) fun y3=>
 (if y3 then
 Q (13:Int) h
 else
 Q (0:Int) h)
 else
 Q (0:Int) h)))
def zvh (P:Program) (op:Int) (Q:(ByteArray->(Hp->Prop))) (h:Hp):Prop:=
 LetW ((decide (op<(0:Int))) || (decide (op>=(34:Int)))) fun y=>
 (if y then
 Q ⟨#[]⟩ h
 else
 (((0:Int)<=op/\op<(34:Int))/\∃x:ByteArray,((List.get?Internal (α:=Value) [(.string ⟨#[]⟩),(.string ⟨#[97,105]⟩),(.string ⟨#[97,98]⟩),(.string ⟨#[97,98,99]⟩),(.string ⟨#[97,98,99]⟩),(.string ⟨#[97,98,99]⟩),(.string ⟨#[97,98,99]⟩),(.string ⟨#[97,98,99]⟩),(.string ⟨#[97,98,99]⟩),(.string ⟨#[97,98,99]⟩),(.string ⟨#[97,98,99]⟩),(.string ⟨#[97,98,99]⟩),(.string ⟨#[97,98,99]⟩),(.string ⟨#[97,98,99]⟩),(.string ⟨#[97,98,99]⟩),(.string ⟨#[97,98,99]⟩),(.string ⟨#[97,98,99]⟩),(.string ⟨#[97,98,99]⟩),(.string ⟨#[97,98,99]⟩),(.string ⟨#[97,98,99]⟩),(.string ⟨#[97,98]⟩),(.string ⟨#[97,98]⟩),(.string ⟨#[105]⟩),(.string ⟨#[97,105]⟩),(.string ⟨#[97,98,99]⟩),(.string ⟨#[97,98]⟩),(.string ⟨#[97,98]⟩),(.string ⟨#[97]⟩),(.string ⟨#[97]⟩),(.string ⟨#[105]⟩),(.string ⟨#[105]⟩),(.string ⟨#[97]⟩),(.string ⟨#[97]⟩),(.string ⟨#[97]⟩)] ((Int.toNat op)*1))=(some (.string x))/\Q x h)))
def zzj (P:Program) (field:ByteArray) (a1:Addr) (Q:(Bool->(Hp->Prop))) (h:Hp):Prop:=
 LdW none shStr h a1 fun x=>
 CallT P zrn [(.string x),(.string field)] zae (fun r h1=>
 Q r h1) h
def znj (P:Program) (x:Int) (Q:(Bool->(Hp->Prop))) (h:Hp):Prop:=
 Q (x !=x) h
def zqg (P:Program) (x:Int) (Q:(Bool->(Hp->Prop))) (h:Hp):Prop:=
 Q (x !=x) h
def znk (P:Program) (l:Option Addr) (p:Int) (Q:(Int->(Hp->Prop))) (h:Hp):Prop:=
 NewW [(.int .i64 p)] (fun a h1=>
 NilW none l fun p1=>
 LdW none shSl h1 (Addr.add p1 2) fun x=>
 CallT P zcw [x.v,(.func (.func 237) #[] #[(.pointer (some a))])] (shInt .i64) (fun r h2=>
 Q r h2) h1) h
def zbo (P:Program) (s:Sl) (i:Int) (j:Int) (Q:(Sl->(Hp->Prop))) (h:Hp):Prop:=
 (((0:Int)<=i/\(i<=j/\(j<=(s.len:Int)/\(s.len:Int)<=(s.cap:Int))))/\LetW (α:=Sl) ⟨(sbase s.base 2 (Int.toNat i) (Int.toNat (s.len:Int))),((Int.toNat j)-(Int.toNat i)),((Int.toNat (s.len:Int))-(Int.toNat i))⟩ fun y=>
 (if (i==j)=true then
 Q s h
 else
 (((0:Int)<=i/\i<=(s.cap:Int))/\LetW (α:=Sl) ⟨(sbase s.base 2 0 s.cap),((Int.toNat i)-0),(s.cap-0)⟩ fun y1=>
 (((0:Int)<=j/\j<=(s.len:Int))/\LetW (α:=Sl) ⟨(sbase s.base 2 (Int.toNat j) s.cap),(s.len-(Int.toNat j)),(s.cap-(Int.toNat j))⟩ fun y2=>
 zai 2 16 [(.int .i64 (0:Int)),(.int .i64 (0:Int))] y1 y2 (fun r h1=>
 (((0:Int)<=(r.len:Int)/\((r.len:Int)<=(s.len:Int)/\(s.len:Int)<=(r.cap:Int)))/\LetW (α:=Sl) ⟨(sbase r.base 2 (Int.toNat (r.len:Int)) r.cap),((Int.toNat (s.len:Int))-(Int.toNat (r.len:Int))),(r.cap-(Int.toNat (r.len:Int)))⟩ fun y3=>
 SemE0 P (Builtin.clear_ #[185] 0 #[y3.v]) zrf (fun h2=>
 Q r h2) h1)) h))))
def zrx (P:Program) (b:Int) (c:Int) (Q:(Int->(Hp->Prop))) (h:Hp):Prop:=
 (if (c==(0:Int))=true then
 Q (0:Int) h
 else
 (if (c==(-1:Int))=true then
 Q (IntKind.wrap .i64 ((0:Int)-b)) h
 else
 (c≠(0:Int)/\Q (IntKind.wrap .i64 (Int.tdiv b c)) h)))
def zre1 (P:Program) (b:Int) (c:Int) (Q:(Int->(Hp->Prop))) (h:Hp):Prop:=
 (if decide (c<(0:Int)) then
 Q b h
 else
 ((0:Int)<=(IntKind.wrap .u64 c)/\Q (shlI .i64 b (IntKind.wrap .u64 c)) h))
def zmt1 (P:Program) (b:Int) (c:Int) (Q:(Int->(Hp->Prop))) (h:Hp):Prop:=
 (if decide (c<(0:Int)) then
 Q b h
 else
 ((0:Int)<=(IntKind.wrap .u64 c)/\Q (shrI .i64 b (IntKind.wrap .u64 c)) h))
def zmu1 (P:Program) (is:Bool) (Q:(Int->(Hp->Prop))) (h:Hp):Prop:=
 (if is then
 Q (1:Int) h
 else
 Q (0:Int) h)
def zdh1 (P:Program) (bits:Int) (Q:(Nat->(Hp->Prop))) (h:Hp):Prop:=
 SemE P (Extern.MathFloatBits.float64frombits #[(.int .u64 (IntKind.wrap .u64 bits))]) (shFlt .f64) (fun r h1=>
 Q r h1) h
def zhr1 (P:Program) (f:Nat) (Q:(Int->(Hp->Prop))) (h:Hp):Prop:=
 SemV none P (binS .neq 314 (.tmp 3) (.tmp 4) (.float .f64 f) (.float .f64 f)) zae h fun x=>
 (if x then
 Q (9221120237041090560:Int) h
 else
 SemE P (Extern.MathFloatBits.float64bits #[(.float .f64 f)]) (shInt .u64) (fun r h1=>
 Q (IntKind.wrap .i64 r) h1) h)
def zdi1 (P:Program) (f:Nat) (Q:(Int->(Hp->Prop))) (h:Hp):Prop:=
 SemV none P (binS .neq 314 (.tmp 4) (.tmp 5) (.float .f64 f) (.float .f64 f)) zae h fun x=>
 (if x then
 Q (0:Int) h
 else
 SemV none P (binS .geq 314 (.tmp 8) (.const (.float .f64 4890909195324358656)) (.float .f64 f) (.float .f64 4890909195324358656)) zae h fun x1=>
 (if x1 then
 Q (9223372036854775807:Int) h
 else
 SemV none P (binS .lss 314 (.tmp 11) (.const (.float .f64 14114281232179134464)) (.float .f64 f) (.float .f64 14114281232179134464)) zae h fun x2=>
 (if x2 then
 Q (-9223372036854775808:Int) h
 else
 SemV none P (convert 314 2 (.float .f64 f)) (shInt .i64) h fun x3=>
 Q x3 h)))
def zoj (P:Program) (t:Option Addr) (i:Int) (Q:(Bool->(Hp->Prop))) (h:Hp):Prop:=
 NilW (some (decide (i>=(0:Int)))) t fun p=>
 LdW (some (decide (i>=(0:Int)))) shSl h (Addr.add p 0) fun x=>
 LetW ((decide (i>=(0:Int)))&&(decide (i<(x.len:Int)))) fun y=>
 Q y h
def zok (P:Program) (p:Option Addr) (lane:Int) (proc:Int) (v:Int) (Q:(Int->(Hp->Prop))) (h:Hp):Prop:=
 CallT P zip [(.pointer p),(.int .i64 lane)] zae (fun r h1=>
 (if (!r)=true then
 Q (2:Int) h1
 else
 CallT P ztp [(.pointer p),(.int .i64 proc)] (shInt .i64) (fun r1 h2=>
 (if decide (r1>=(0:Int)) then
 Q (8:Int) h2
 else
 NilW none p fun p1=>
 LdW none shSl h2 (Addr.add p1 0) fun x=>
 ((InB x.base x.len lane)/\LdW none shPtr h2 (sat x.base 1 lane) fun x1=>
 CallT P zwz [(.pointer x1),(.int .i64 proc),(.int .i64 v)] (shInt .i64) (fun r2 h3=>
 Q r2 h3) h2))) h1)) h
def ztq (P:Program) (p:Option Addr) (Q:(FnV->(Hp->Prop))) (h:Hp):Prop:=
 NilW none p fun p1=>
 LdW none (shInt .i64) h (Addr.add p1 1) fun x=>
 NilW none p fun p2=>
 LdW none shSl h (Addr.add p2 0) fun x1=>
 NewW [(.int .i64 (0:Int))] (fun a h1=>
 (((LdIs h1 (Addr.add p1 1) [(.int .i64 x)])/\((LdIs h1 (Addr.add p2 0) [x1.v])/\True))/\StW h1 a [(.int .i64 x)] (fun h2=>
 (((LdIs h2 (Addr.add p2 0) [x1.v])/\True)/\NewW [(.int .i64 (x1.len:Int))] (fun a1 h3=>
 Q ⟨242, #[], #[(.pointer (some a1)),(.pointer (some a))]⟩ h3) h2)))) h
def zqh (P:Program) (l:Option Addr) (Q:(Int->(Hp->Prop))) (h:Hp):Prop:=
 NilW none l fun p=>
 LdW none shSl h (Addr.add p 1) fun x=>
 Q (x.len:Int) h
def zol (P:Program) (l:Option Addr) (Q:(Int->(S_api_Waiter->(Bool->(Int->(Hp->Prop)))))) (h:Hp):Prop:=
 NilW none l fun p=>
 LdW none shSl h (Addr.add p 1) fun x=>
 (if ((x.len:Int)==(0:Int))=true then
 Q (0:Int) ⟨(0:Int),(0:Int)⟩ false (21:Int) h
 else
 NilW none l fun p1=>
 LdW none shSl h (Addr.add p1 1) fun x1=>
 ((InB x1.base x1.len (0:Int))/\LdW none (shInt .i64) h (sat x1.base 1 (0:Int)) fun x2=>
 NilW none l fun p2=>
 LdW none shSl h (Addr.add p2 1) fun x3=>
 NilW none l fun p3=>
 LdW none shSl h (Addr.add p3 1) fun x4=>
 (((0:Int)<=(1:Int)/\(1:Int)<=(x4.len:Int))/\LetW (α:=Sl) ⟨(sbase x4.base 1 1 x4.cap),(x4.len-1),(x4.cap-1)⟩ fun y=>
 CopyW 1 x3 y (fun r h1=>
 NilW none l fun p4=>
 LdW none shSl h1 (Addr.add p4 1) fun x5=>
 (((0:Int)<=r/\r<=(x5.cap:Int))/\LetW (α:=Sl) ⟨(sbase x5.base 1 0 x5.cap),((Int.toNat r)-0),(x5.cap-0)⟩ fun y1=>
 NilW none l fun p5=>
 StW h1 (Addr.add p5 1) [y1.v] (fun h2=>
 NilW none l fun p6=>
 LdW none (shInt .i64) h2 (Addr.add p6 3) fun x6=>
 CallT P zda1 [(.int .i64 x6)] (shInt .i64) (fun r1 h3=>
 NilW none l fun p7=>
 StW h3 (Addr.add p7 3) [(.int .i64 r1)] (fun h4=>
 NilW none l fun p8=>
 LdW none shSl h4 (Addr.add p8 2) fun x7=>
 (if decide ((x7.len:Int)>(0:Int)) then
 NilW none l fun p9=>
 LdW none shSl h4 (Addr.add p9 2) fun x8=>
 ((InB x8.base x8.len (0:Int))/\LdW none sh_api_Waiter h4 (sat x8.base 2 (0:Int)) fun x9=>
 NilW none l fun p10=>
 LdW none shSl h4 (Addr.add p10 2) fun x10=>
 NilW none l fun p11=>
 LdW none shSl h4 (Addr.add p11 2) fun x11=>
 NilW none l fun p12=>
 LdW none shSl h4 (Addr.add p12 2) fun x12=>
 (((0:Int)<=(1:Int)/\((1:Int)<=(x11.len:Int)/\((x11.len:Int)<=(x12.len:Int)/\(x12.len:Int)<=(x10.cap:Int))))/\LetW (α:=Sl) ⟨(sbase x10.base 2 1 (Int.toNat (x12.len:Int))),((Int.toNat (x11.len:Int))-1),((Int.toNat (x12.len:Int))-1)⟩ fun y2=>
 NilW none l fun p13=>
 StW h4 (Addr.add p13 2) [y2.v] (fun h5=>
 NilW none l fun p14=>
 LdW none shSl h5 (Addr.add p14 1) fun x13=>
 NewW [(.int .i64 x9.Value_)] (fun a h6=>
 (((LdIs h6 (Addr.add p14 1) [x13.v])/\True)/\zai 1 8 [(.int .i64 (0:Int))] x13 ⟨(some a),1,1⟩ (fun r2 h7=>
 NilW none l fun p15=>
 StW h7 (Addr.add p15 1) [r2.v] (fun h8=>
 Q x2 x9 true (0:Int) h8)) h6)) h5)))
 else
 Q x2 ⟨(0:Int),(0:Int)⟩ false (0:Int) h4))) h2))) h)))
def zbk (P:Program) (s:Sl) (f:FnV) (Q:(Int->(Hp->Prop))) (h:Hp):Prop:=
 LoopW1 (α1:=Int) (fun again t8 h1=>
 (if decide (t8<(s.len:Int)) then
 ((InB s.base s.len t8)/\LdW none sh_api_Waiter h1 (sat s.base 2 t8) fun x=>
 CallV P tb (.func (.func f.g) f.first f.captured) [x.v] zae (fun r h2=>
 (if r then
 Q t8 h2
 else
 again (IntKind.wrap .i64 (t8+(1:Int))) h2)) h1)
 else
 Q (-1:Int) h1)) (0:Int) h
def zqi (P:Program) (w:S_api_Waiter) (a1:Addr) (Q:(Bool->(Hp->Prop))) (h:Hp):Prop:=
 LdW none (shInt .i64) h a1 fun x=>
 Q (w.Proc==x) h
def znl (P:Program) (p:Option Addr) (proc:Int) (Q:(Int->(Hp->Prop))) (h:Hp):Prop:=
 NilW none p fun p1=>
 LdW none shSl h (Addr.add p1 0) fun x=>
 LoopW1 (α1:=Int) (fun again t14 h1=>
 (if decide (t14<(x.len:Int)) then
 ((InB x.base x.len t14)/\LdW none shPtr h1 (sat x.base 1 t14) fun x1=>
 CallT P zmu [(.pointer x1)] sh_api_Lane (fun r h2=>
 LoopW1 (α1:=Int) (fun again1 t23 h3=>
 (if decide (t23<(r.Waiters.len:Int)) then
 ((InB r.Waiters.base r.Waiters.len t23)/\LdW none sh_api_Waiter h3 (sat r.Waiters.base 2 t23) fun x2=>
 (if (x2.Proc==proc)=true then
 Q t14 h3
 else
 again1 (IntKind.wrap .i64 (t23+(1:Int))) h3))
 else
 again (IntKind.wrap .i64 (t14+(1:Int))) h3)) (0:Int) h2) h1)
 else
 Q (-1:Int) h1)) (0:Int) h
def zom (P:Program) (l:Option Addr) (p:Int) (v:Int) (Q:(Int->(Hp->Prop))) (h:Hp):Prop:=
 CallT P zoc [(.pointer l)] zae (fun r h1=>
 (if (!r)=true then
 Q (20:Int) h1
 else
 CallT P zmy [(.pointer l),(.int .i64 p)] (shInt .i64) (fun r1 h2=>
 (if decide (r1>=(0:Int)) then
 Q (8:Int) h2
 else
 NilW none l fun p1=>
 LdW none shSl h2 (Addr.add p1 2) fun x=>
 NewW [(.int .i64 p),(.int .i64 v)] (fun a h3=>
 zai 2 16 [(.int .i64 (0:Int)),(.int .i64 (0:Int))] x ⟨(some a),1,1⟩ (fun r2 h4=>
 NilW none l fun p2=>
 StW h4 (Addr.add p2 2) [r2.v] (fun h5=>
 Q (0:Int) h5)) h3) h2)) h1)) h
end Lf
namespace Lf
open Go
def Ann.s (a:Ann):Ann:=.sq .tt a
def rgR (a n:Nat):List (Nat×List Nat):=(List.range' a n).map fun i=>(i,[])
def zry :List Nat:=[]
def zrz :Ann:=.tt
def zxg :List Nat:=[6,7,8]
def zxh :Ann:=.tt
def zer2 :List Nat:=[5]
def zes2 :Ann:=.tt
def zwf1 :List Nat:=[3,4]
def zwg1 :Ann:=(.s (.s (.jn [⟨false,5,36⟩] [] (.sq (.rg ([(1,[]),(2,[]),(0,[2])]++rgR 3 6)) .tt) (.sq (.rg (rgR 0 11)) .tt))))
def ztr :List Nat:=[2]
def zts :Ann:=.tt
def zmv1 :List Nat:=[2]
def zmw1 :Ann:=.tt
def zsw1 :List Nat:=[2]
def zsx1 :Ann:=(.s (.gs 0 (.s (.s (.gj 0 [⟨true,2,26⟩] [2] (.s (.s (.s (.s (.s (.s (.s (.s (.s (.s (.s (.sq (.s (.bk (.lp [⟨false,6,3⟩] [] .tt))) (.sq .tt .tt))))))))))))) (.sq (.s (.sq (.sq (.rg (rgR 0 9++ [(9,[4,8]),(10,[]),(11,[])])) .tt) .tt)) .tt))))))
def zsy1 :List Nat:=[1]
def zsz1 :Ann:=(.s (.s (.sq (.rg ([(0,[]),(1,[]),(2,[0])]++rgR 3 3)) .tt)))
def zet2 :List Nat:=[]
def zeu2 :Ann:=.tt
def zvi :List Nat:=[2,3]
def zvj :Ann:=(.s (.s (.sq (.s (.bk (.lp [⟨false,26,3⟩,⟨true,3,63⟩] [3] (.s (.s (.sq (.bk (.s (.s (.rg (rgR 0 10++rgR 11 10++ [(10,[1,5,14,18]),(21,[]),(22,[1])]++rgR 23 3))))) .tt)))))) (.sq (.s (.bk (.lp [⟨false,69,3⟩,⟨true,3,63⟩] [3] (.s (.s (.sq (.bk (.s (.s (.sq (.rg (rgR 0 14++ [(14,[3,7,9,12])]++rgR 15 6)) (.sq (.rg (rgR 0 14++ [(14,[3,7,9,12])]++rgR 15 6)) (.rg (rgR 0 25++ [(25,[1])]++rgR 26 3))))))) .tt)))))) .tt))))
def zvk :List Nat:=[1,10]
def zvl :Ann:=(.s (.s (.s (.sq (.s (.bk (.lp [⟨false,6,34⟩,⟨false,7,3⟩] [] .tt))) (.s (.sq (.s (.bk (.lp [⟨false,6,34⟩,⟨false,8,3⟩] [] .tt))) (.s (.s (.s (.s (.sq (.s (.bk (.lp [⟨false,6,34⟩,⟨false,9,3⟩] [10] (.s (.sq (.bk (.s (.s (.s (.s (.bk (.lp [⟨false,6,34⟩,⟨false,11,3⟩] [] .tt))))))) .tt))))) .tt)))))))))))
def zfk1 :List Nat:=[]
def zfl1 :Ann:=.tt
def zay1 :List Nat:=[]
def zaz1 :Ann:=(.s (.bk (.lp [⟨false,3,3⟩] [] .tt)))
def zhs1 :List Nat:=[]
def zht1 :Ann:=.tt
def zba1 :List Nat:=[]
def zbb1 :Ann:=(.s (.s (.bk (.lp [⟨false,4,3⟩] [] (.s (.sq (.bk (.s (.rg (rgR 0 6++ [(6,[0,1,4]),(7,[0])]++rgR 8 3)))) .tt))))))
def zdj1 :List Nat:=[]
def zdk1 :Ann:=(.s (.bk (.lp [⟨false,4,3⟩] [] (.s (.sq (.bk (.rg (rgR 0 7++ [(7,[4]),(8,[4])]++rgR 9 4))) .tt)))))
def zbc1 :List Nat:=[]
def zbd1 :Ann:=.tt
def zzk :List Nat:=[]
def zzl :Ann:=.tt
def zfm1 :List Nat:=[4]
def zfn1 :Ann:=(.s (.s (.sq (.s (.bk (.lp [⟨false,6,3⟩,⟨true,4,50⟩] [4] (.s (.sq (.bk (.rg (rgR 0 8++ [(8,[1]),(9,[1])]++rgR 10 3))) .tt))))) (.rg (rgR 0 6++ [(6,[4])]++rgR 7 4)))))
def zev2 :List Nat:=[1,15]
def zew2 :Ann:=(.s (.s (.s (.s (.sq (.s (.bk (.lp [⟨false,57,3⟩] [] .tt))) (.s (.sq (.s (.bk (.lp [⟨false,80,3⟩] [15] .tt))) .tt)))))))
def zpn1 :List Nat:=[2,3,7,11,12]
def zpo1 :Ann:=(.s (.sq (.rg ([(0,[]),(2,[]),(3,[]),(1,[3])]++rgR 4 3)) (.s (.s (.sq (.s (.bk (.lp [⟨false,48,3⟩] [7] (.s (.s (.sq (.bk (.s (.s (.rg (rgR 0 9++rgR 10 5++ [(9,[4,6,11,13]),(15,[4,6,11,13]),(16,[]),(17,[4]),(18,[4])]++rgR 19 4))))) .tt)))))) (.sq (.s (.bk (.lp [⟨false,86,3⟩] [11,12] (.s (.s (.sq (.bj [] [11,12] (.s (.s (.s (.sq (.rg (rgR 0 21++ [(21,[4]),(22,[4])]++rgR 23 4)) (.sq (.rg (rgR 0 9)) (.s (.jn [] [] (.s (.sq (.rg (rgR 0 5++ [(6,[]),(7,[]),(5,[3,7]),(8,[])])) .tt)) (.s (.sq (.rg (rgR 0 5++ [(6,[]),(7,[]),(5,[3,7]),(8,[])])) .tt)))))))))) .tt)))))) .tt))))))
def zmx1 :List Nat:=[1,2,3]
def zmy1 :Ann:=(.s (.sq (.r2 [(0,[]),(1,[]),(2,[]),(4,[]),(5,[]),(6,[]),(9,[])] 3 7 (.rg ([(3,[5]),(7,[]),(8,[]),(10,[])])) (.rg ([(7,[1]),(3,[5]),(8,[]),(10,[])]))) (.sq (.s (.bk (.lp [⟨false,18,3⟩] [] (.s (.s (.sq (.bj [] [] (.s (.r2 [(0,[]),(1,[]),(2,[]),(3,[]),(4,[]),(5,[]),(7,[]),(8,[]),(10,[]),(11,[])] 6 12 (.r2 [(6,[1,4,8,11])] 9 12 (.r2 [(9,[1,4,11]),(13,[]),(14,[])] 12 15 (.rg ([(12,[1,4]),(15,[4])]++rgR 16 3)) (.rg ([(15,[4,11]),(12,[1,4])]++rgR 16 3))) (.rg ([(12,[1,4,8]),(9,[1,4,11]),(13,[]),(14,[]),(15,[4,11])]++rgR 16 3))) (.rg ([(12,[1,4,8]),(6,[1,4,8,11]),(9,[1,4,11]),(13,[]),(14,[]),(15,[4,11])]++rgR 16 3))))) .tt)))))) (.sq (.s (.bk (.lp [⟨false,42,3⟩] [] (.s (.s (.sq (.bk (.s (.rg (rgR 0 7++ [(7,[1])]++rgR 8 3)))) .tt)))))) .tt))))
def zpp1 :List Nat:=[3]
def zpq1 :Ann:=(.s (.sq (.bk (.s (.s (.sq (.rg (rgR 0 9)) .tt)))) (.sq (.s (.bk (.lp [⟨false,20,3⟩] [] .tt))) (.sq (.rg (rgR 0 10)) .tt))))
def zkd1 :List Nat:=[3]
def zke1 :Ann:=(.s (.sq (.rg (rgR 0 10)) .tt))
def zpr1 :List Nat:=[3]
def zps1 :Ann:=(.s (.sq (.rg (rgR 0 8)) .tt))
def ztt :List Nat:=[]
def ztu :Ann:=(.s (.s (.sq (.rg (rgR 0 14)) .tt)))
def zxi :List Nat:=[]
def zxj :Ann:=.tt
def zdl1 :List Nat:=[7]
def zdm1 :Ann:=(.s (.s (.s (.sq (.s (.bk (.lp [⟨false,4,23⟩,⟨false,5,113⟩,⟨false,13,3⟩] [7] .tt))) .tt))))
def zky :List Nat:=[]
def zkz :Ann:=.tt
def zhu1 :List Nat:=[]
def zhv1 :Ann:=(.s (.s (.sq (.s (.bk (.lp [⟨false,4,66⟩,⟨false,12,3⟩] [] .tt))) (.sq (.rg (rgR 0 7)) .tt))))
def zhw1 :List Nat:=[6]
def zhx1 :Ann:=.tt
def zmz1 :List Nat:=[]
def zna1 :Ann:=.tt
def znb1 :List Nat:=[]
def znc1 :Ann:=.tt
def zxk :List Nat:=[]
def zxl :Ann:=(.s (.sq (.rg (rgR 0 10)) (.s (.s (.s (.sq (.s (.bj [] [] (.lp [⟨false,32,3⟩] [] (.s (.s (.sq (.bk (.sq (.s (.bk (.lp [⟨false,39,3⟩] [] (.s (.s (.sq (.bk (.s (.sq (.rg (rgR 0 13)) (.sq (.rg (rgR 0 14)) .tt)))) .tt)))))) .tt)) .tt)))))) .tt))))))
def zta1 :List Nat:=[]
def ztb1 :Ann:=.tt
def zbe1 :List Nat:=[1,7]
def zbf1 :Ann:=(.s (.s (.s (.sq (.rg ([(0,[]),(1,[]),(3,[]),(4,[]),(6,[]),(7,[]),(9,[]),(10,[]),(13,[]),(2,[4,7,10]),(5,[7,10]),(8,[10]),(11,[]),(12,[]),(14,[])])) (.sq (.s (.bk (.lp [⟨false,8,3⟩] [] .tt))) (.s (.s (.sq (.s (.bk (.lp [⟨false,9,3⟩] [] (.s (.sq (.bk (.sq (.sq (.rg (rgR 0 12)) .tt) (.sq (.rg (rgR 0 14)) .tt))) .tt))))) .tt))))))))
def zvm :List Nat:=[]
def zvn :Ann:=(.s (.sq (.s (.bk (.lp [⟨false,0,34⟩,⟨false,7,3⟩] [] .tt))) .tt))
def zbg1 :List Nat:=[3]
def zbh1 :Ann:=(.s (.s (.sq (.s (.bk (.lp [⟨false,0,34⟩,⟨false,5,3⟩] [] .tt))) .tt)))
def zbi1 :List Nat:=[]
def zbj1 :Ann:=(.s (.s (.sq (.sq (.rg (rgR 0 12)) .tt) (.s (.sq (.sq (.rg (rgR 0 17)) (.bk (.lp [⟨false,7,28⟩,⟨false,47,3⟩] [] .tt))) (.sq (.rg (rgR 0 3++rgR 4 4++ [(3,[7]),(8,[])])) .tt))))))
def zxm :List Nat:=[]
def zxn :Ann:=.tt
def zxo :List Nat:=[]
def zxp :Ann:=.tt
def zvo :List Nat:=[]
def zvp :Ann:=.tt
def zhy1 :List Nat:=[]
def zhz1 :Ann:=.tt
def zxq :List Nat:=[]
def zxr :Ann:=.tt
def ztc1 :List Nat:=[]
def ztd1 :Ann:=.tt
def zvq :List Nat:=[]
def zvr :Ann:=.tt
def zzg1 :List Nat:=[]
def zzh1 :Ann:=.tt
def zbk1 :List Nat:=[]
def zbl1 :Ann:=.tt
def zia1 :List Nat:=[6,9]
def zib1 :Ann:=.tt
def zzi1 :List Nat:=[]
def zzj1 :Ann:=(.s (.s (.sq (.s (.bk (.lp [⟨false,4,3⟩] [] (.s (.sq (.bk (.bk (.sq (.rg (rgR 0 11)) (.s (.sq (.rg (rgR 0 11)) .tt))))) .tt))))) .tt)))
def zzk1 :List Nat:=[]
def zzl1 :Ann:=(.s (.s (.s (.sq (.rg ([(0,[]),(2,[]),(1,[2])]++rgR 3 5)) .tt))))
def zte1 :List Nat:=[]
def ztf1 :Ann:=.tt
def zex2 :List Nat:=[7]
def zey2 :Ann:=(.s (.s (.sq (.s (.bk (.lp [⟨false,22,3⟩] [7] .tt))) .tt)))
def zkf1 :List Nat:=[1,2,4]
def zkg1 :Ann:=(.s (.sq (.rg ([(0,[]),(1,[]),(3,[]),(4,[]),(6,[]),(7,[]),(2,[4,7]),(9,[]),(5,[7]),(8,[])]++rgR 10 5)) (.sq (.s (.bk (.lp [⟨false,20,3⟩] [4] (.s (.s (.sq (.bk (.s (.rg (rgR 0 5++ [(5,[1])]++rgR 6 3)))) .tt)))))) .tt)))
def zzm1 :List Nat:=[]
def zzn1 :Ann:=(.s (.s (.s (.sq (.s (.bk (.lp [⟨false,29,3⟩] [] .tt))) .tt))))
def zzo1 :List Nat:=[]
def zzp1 :Ann:=(.s (.s (.s (.s (.sq (.s (.bk (.lp [⟨false,30,3⟩] [] (.s (.s (.sq (.bk (.s (.s (.s (.s (.bk (.lp [⟨false,65,3⟩] [] (.s (.s (.sq (.bk (.s (.s (.rg (rgR 0 14++ [(14,[3,8,12]),(15,[3])]++rgR 16 3))))) .tt)))))))))) .tt)))))) .tt)))))
def zzq1 :List Nat:=[]
def zzr1 :Ann:=.tt
def zez2 :List Nat:=[10]
def zfa2 :Ann:=(.s (.s (.s (.sq (.s (.bk (.lp [⟨false,44,3⟩] [10] .tt))) .tt))))
def zic1 :List Nat:=[7]
def zid1 :Ann:=(.s (.s (.s (.s (.sq (.rg (rgR 0 11)) (.sq (.rg (rgR 0 7++ [(7,[4])]++rgR 8 4)) (.sq (.rg (rgR 0 7)) .tt)))))))
def zvs :List Nat:=[]
def zvt :Ann:=(.s (.jn [] [] .tt (.s (.jn [] [] .tt (.s (.s (.sq (.bk (.lp [⟨false,8,3⟩] [] (.s (.bk (.rg (rgR 0 10)))))) .tt)))))))
def zxs :List Nat:=[3]
def zxt :Ann:=.tt
def zvu :List Nat:=[]
def zvv :Ann:=.tt
def znd1 :List Nat:=[]
def zne1 :Ann:=.tt
def zkh1 :List Nat:=[]
def zki1 :Ann:=.tt
def zxu :List Nat:=[]
def zxv :Ann:=.tt
def zxw :List Nat:=[10,12]
def zxx :Ann:=(.sq (.rg (rgR 0 11)) (.s (.sq (.s (.bk (.lp [⟨false,35,3⟩] [] (.s (.s (.sq (.bk (.s (.rg (rgR 0 15)))) .tt)))))) (.sq (.sq (.rg (rgR 0 8++ [(10,[]),(8,[]),(9,[])])) (.bk (.lp [⟨false,65,3⟩] [10] .tt))) (.sq (.rg (rgR 0 8++ [(8,[3]),(9,[])])) (.sq (.rg (rgR 0 8++ [(8,[3]),(9,[])])) (.s (.bk (.lp [⟨false,100,3⟩] [12] (.s (.s (.sq (.bk (.s (.rg (rgR 0 10)))) .tt))))))))))))
def zxy :List Nat:=[]
def zxz :Ann:=.tt
def zqs :List Nat:=[]
def zqt :Ann:=.tt
def zjw :List Nat:=[]
def zjx :Ann:=.tt
def zie1 :List Nat:=[2]
def zif1 :Ann:=(.s (.sq (.rg (rgR 0 4++rgR 5 4++rgR 10 8++ [(4,[8,13,17]),(9,[13,17]),(18,[]),(19,[])])) .tt))
def zdn1 :List Nat:=[]
def zdo1 :Ann:=(.s (.s (.sq (.rg (rgR 0 14)) .tt)))
def zzm :List Nat:=[]
def zzn :Ann:=(.sq (.rg (rgR 0 8++ [(10,[]),(8,[]),(9,[])])) (.bk (.lp [⟨false,17,3⟩] [] (.s (.s (.sq (.bj [] [] .tt) .tt))))))
def zya :List Nat:=[4,5]
def zyb :Ann:=(.sq (.rg (rgR 0 16++ [(20,[]),(21,[])]++rgR 16 4++ [(22,[]),(23,[])])) (.s (.sq (.rg (rgR 0 11)) (.s (.bk (.s (.s (.s (.s (.jn [⟨false,61,4⟩] [] .tt (.s (.s (.sq (.s (.sq (.rg (rgR 0 8++ [(8,[3]),(9,[])])) (.s (.sq (.rg (rgR 0 8++rgR 9 8++ [(8,[3,12,14]),(17,[])])) .tt)))) (.s (.sq (.sq (.rg (rgR 0 8++rgR 9 9++ [(8,[3,12,14]),(18,[])])) .tt) (.s (.sq (.sq (.rg (rgR 0 16)) .tt) (.s (.sq (.sq (.rg (rgR 0 8++ [(9,[]),(10,[]),(8,[10]),(11,[])])) (.sq (.sq (.rg (rgR 0 16)) .tt) .tt)) (.s (.sq (.sq (.rg (rgR 0 11)) (.sq (.rg (rgR 0 16++ [(16,[4])]++rgR 17 4)) .tt)) .tt)))))))))))))))))))))
def zbm1 :List Nat:=[]
def zbn1 :Ann:=(.s (.s (.s (.sq (.s (.bk (.lp [⟨false,4,3⟩] [] (.s (.sq (.bk (.sq (.sq (.rg (rgR 0 10)) .tt) (.sq (.rg (rgR 0 10)) .tt))) .tt))))) .tt))))
def zvw :List Nat:=[]
def zvx :Ann:=(.s (.s (.s (.sq (.s (.bk (.lp [⟨false,5,3⟩] [] .tt))) .tt))))
def zvy :List Nat:=[]
def zvz :Ann:=.tt
def zbo1 :List Nat:=[]
def zbp1 :Ann:=(.s (.s (.s (.sq (.s (.bk (.lp [⟨false,6,3⟩] [] .tt))) .tt))))
def zsa :List Nat:=[]
def zsb :Ann:=.tt
def zdp1 :List Nat:=[]
def zdq1 :Ann:=.tt
def zdr1 :List Nat:=[]
def zds1 :Ann:=.tt
def zwh1 :List Nat:=[3]
def zwi1 :Ann:=.tt
def ztg1 :List Nat:=[2,10]
def zth1 :Ann:=(.s (.s (.s (.sq (.s (.bk (.lp [⟨false,35,3⟩] [10] .tt))) .tt))))
def zqu :List Nat:=[]
def zqv :Ann:=(.s (.sq (.s (.bk (.lp [⟨false,8,3⟩] [] .tt))) .tt))
def zti1 :List Nat:=[]
def ztj1 :Ann:=.tt
def zpc :List Nat:=[]
def zpd :Ann:=.tt
def zmf :List Nat:=[]
def zmg :Ann:=.tt
def znv :List Nat:=[]
def znw :Ann:=.tt
def zdt1 :List Nat:=[7]
def zdu1 :Ann:=(.s (.sq (.s (.bk (.lp [⟨false,13,3⟩] [7] .tt))) .tt))
def zfb2 :List Nat:=[3]
def zfc2 :Ann:=(.s (.s (.s (.s (.sq (.rg (rgR 0 4++ [(5,[]),(6,[]),(4,[6])]++rgR 7 7)) (.sq (.rg (rgR 0 8++ [(8,[5])]++rgR 9 3)) .tt))))))
def zdv1 :List Nat:=[5,8]
def zdw1 :Ann:=(.s (.s (.s (.sq (.s (.bk (.lp [⟨false,25,3⟩] [8] .tt))) .tt))))
def zco :List Nat:=[4]
def zcp :Ann:=(.s (.s (.s (.sq (.bk (.lp [⟨false,9,3⟩,⟨false,10,3⟩] [] (.s (.bj [⟨false,9,3⟩,⟨false,10,3⟩] [] (.s (.sq (.rg (rgR 0 8)) .tt)))))) (.sq (.rg (rgR 0 16)) .tt)))))
def ztk1 :List Nat:=[2,3]
def ztl1 :Ann:=(.s (.sq (.rg (rgR 0 4++rgR 5 4++ [(4,[6,8])]++rgR 9 4)) .tt))
def zie :List Nat:=[]
def zif :Ann:=(.s (.s (.s (.s (.s (.s (.sq (.s (.sq (.s (.s (.sq (.rg (rgR 0 9)) .tt))) .tt)) (.s (.sq (.s (.sq (.sq (.rg (rgR 0 9)) .tt) .tt)) .tt)))))))))
def znf1 :List Nat:=[]
def zng1 :Ann:=.tt
def zwa :List Nat:=[]
def zwb :Ann:=(.s (.sq (.s (.bk (.s (.s (.jn [⟨false,9,4⟩] [] .tt (.s (.jn [⟨false,15,4⟩] [] .tt (.s (.jn [⟨false,28,4⟩] [] .tt (.s (.jn [⟨false,35,4⟩] [] .tt (.s (.s (.s (.jn [⟨false,41,4⟩] [] .tt .tt))))))))))))))) .tt))
def zsc :List Nat:=[]
def zsd :Ann:=.tt
def znh1 :List Nat:=[]
def zni1 :Ann:=.tt
def zig1 :List Nat:=[]
def zih1 :Ann:=.tt
def znj1 :List Nat:=[]
def znk1 :Ann:=.tt
def zkj1 :List Nat:=[]
def zkk1 :Ann:=.tt
def zii1 :List Nat:=[]
def zij1 :Ann:=(.s (.s (.sq (.s (.bk (.lp [⟨false,5,4⟩,⟨false,13,3⟩] [] (.s (.s (.sq (.bj [⟨false,5,4⟩] [] .tt) .tt)))))) .tt)))
def zik1 :List Nat:=[]
def zil1 :Ann:=(.s (.sq (.s (.bk (.lp [⟨false,17,3⟩] [] (.s (.s (.sq (.bj [] [] (.s (.s (.s (.sq (.rg (rgR 0 16++ [(16,[3])]++rgR 17 3)) .tt))))) .tt)))))) (.s (.sq (.s (.bk (.lp [⟨false,7,246⟩,⟨false,56,3⟩] [] .tt))) .tt))))
def zwc :List Nat:=[]
def zwd :Ann:=(.s (.sq (.rg (rgR 0 18++ [(18,[4,7]),(19,[])])) .tt))
def znl1 :List Nat:=[]
def znm1 :Ann:=(.s (.s (.sq (.s (.bk (.lp [⟨false,3,185⟩,⟨false,11,3⟩] [] .tt))) .tt)))
def zse :List Nat:=[]
def zsf :Ann:=(.rg (rgR 0 13))
def zim1 :List Nat:=[]
def zin1 :Ann:=(.s (.s (.sq (.bk (.lp [⟨false,5,23⟩] [] .tt)) .tt)))
def zyc :List Nat:=[5]
def zyd :Ann:=(.s (.rg (rgR 0 5++ [(5,[2])]++rgR 6 3)))
def zfd2 :List Nat:=[1,2]
def zfe2 :Ann:=.tt
def zff2 :List Nat:=[8,9,10,12,15]
def zfg2 :Ann:=(.s (.s (.s (.sq (.s (.s (.sq (.sq (.s (.sq (.sq (.rg ([(0,[]),(1,[]),(2,[1]),(3,[])])) .tt) .tt)) (.sq (.rg ([(0,[]),(2,[]),(1,[2]),(3,[2]),(4,[])])) .tt)) .tt))) (.s (.s (.sq (.s (.bj [⟨true,8,137⟩,⟨true,9,262⟩] [8,9] (.s (.s (.s (.sq (.rg (rgR 0 7)) (.s (.s (.s (.s (.s (.s (.s (.s (.sq (.rg (rgR 0 16)) (.jn [⟨false,16,2⟩] [] (.s (.sq (.rg (rgR 0 15)) .tt)) .tt)))))))))))))))) .tt)))))))
def zwe :List Nat:=[]
def zwf :Ann:=(.s (.s (.bk (.sq (.rg (rgR 0 15)) (.sq (.sq (.rg (rgR 0 23++ [(23,[3,7,9])]++rgR 24 3)) .tt) (.sq (.rg (rgR 0 10)) (.s (.jn [] [] (.sq (.rg (rgR 0 19)) (.sq (.rg (rgR 0 9)) .tt)) .tt))))))))
def zwg :List Nat:=[8]
def zwh :Ann:=(.s (.bk (.s (.sq (.sq (.rg (rgR 0 15)) (.s (.sq (.rg (rgR 0 10)) .tt))) (.s (.sq (.s (.rg (rgR 0 13))) (.s (.sq (.rg (rgR 0 13)) .tt))))))))
def zfo1 :List Nat:=[]
def zfp1 :Ann:=(.s (.s (.s (.s (.jn [] [] .tt .tt)))))
def zsg :List Nat:=[]
def zsh :Ann:=.tt
def zdx1 :List Nat:=[7]
def zdy1 :Ann:=(.s (.s (.sq (.s (.bk (.lp [⟨false,5,23⟩,⟨false,13,3⟩] [7] (.s (.s (.sq (.bj [⟨false,5,23⟩] [7] .tt) .tt)))))) .tt)))
def zfq1 :List Nat:=[]
def zfr1 :Ann:=(.s (.s (.s (.sq (.bk (.s (.s (.s (.s (.s (.rg (rgR 0 19)))))))) .tt))))
def zpt1 :List Nat:=[]
def zpu1 :Ann:=.tt
def zye :List Nat:=[3]
def zyf :Ann:=.tt
def zwj1 :List Nat:=[3]
def zwk1 :Ann:=.tt
def ztm1 :List Nat:=[]
def ztn1 :Ann:=.tt
def zfh2 :List Nat:=[]
def zfi2 :Ann:=.tt
def zto1 :List Nat:=[]
def ztp1 :Ann:=.tt
def zwl1 :List Nat:=[5]
def zwm1 :Ann:=(.s (.s (.sq (.s (.bk (.lp [⟨false,9,3⟩] [5] .tt))) .tt)))
def zig :List Nat:=[]
def zih :Ann:=(.s (.s (.s (.s (.sq (.rg (rgR 0 8)) .tt)))))
def zwn1 :List Nat:=[]
def zwo1 :Ann:=(.s (.s (.sq (.s (.bk (.lp [⟨false,8,3⟩] [] .tt))) .tt)))
def zdz1 :List Nat:=[]
def zea1 :Ann:=.tt
def zio1 :List Nat:=[]
def zip1 :Ann:=.tt
def ziq1 :List Nat:=[]
def zir1 :Ann:=.tt
def zkl1 :List Nat:=[]
def zkm1 :Ann:=(.s (.sq (.rg (rgR 0 11)) .tt))
def zzs1 :List Nat:=[]
def zzt1 :Ann:=.tt
def zis1 :List Nat:=[]
def zit1 :Ann:=.tt
def zyg :List Nat:=[]
def zyh :Ann:=(.s (.sq (.s (.bk (.lp [⟨false,8,3⟩] [] .tt))) .tt))
def zwi :List Nat:=[]
def zwj :Ann:=(.s (.s (.s (.s (.sq (.rg (rgR 0 8)) .tt)))))
def znn1 :List Nat:=[]
def zno1 :Ann:=(.s (.sq (.rg (rgR 0 16)) .tt))
def zfj2 :List Nat:=[6,7]
def zfk2 :Ann:=(.s (.jn [] [7] .tt .tt))
def zmk2 :List Nat:=[2,4]
def zml2 :Ann:=.tt
def zzu1 :List Nat:=[2,3,4]
def zzv1 :Ann:=(.s (.sq (.s (.bk (.s (.s (.s (.sq (.sq (.rg (rgR 0 12)) .tt) .tt)))))) .tt))
def zpv1 :List Nat:=[]
def zpw1 :Ann:=.tt
def zmm2 :List Nat:=[]
def zmn2 :Ann:=.tt
def zmo2 :List Nat:=[]
def zmp2 :Ann:=.tt
def zeb1 :List Nat:=[]
def zec1 :Ann:=(.s (.sq (.rg (rgR 0 26)) .tt))
def ztv :List Nat:=[]
def ztw :Ann:=(.bk (.s (.s (.sq (.rg (rgR 0 12)) (.sq (.sq (.rg (rgR 0 14)) .tt) .tt)))))
def zfl2 :List Nat:=[8,9]
def zfm2 :Ann:=(.s (.jn [] [9] .tt .tt))
def zed1 :List Nat:=[]
def zee1 :Ann:=.tt
def znp1 :List Nat:=[]
def znq1 :Ann:=.tt
def ztq1 :List Nat:=[4]
def ztr1 :Ann:=.tt
def zts1 :List Nat:=[]
def ztt1 :Ann:=.tt
def znr1 :List Nat:=[]
def zns1 :Ann:=.tt
def ziu1 :List Nat:=[]
def ziv1 :Ann:=.tt
def znt1 :List Nat:=[]
def znu1 :Ann:=.tt
def ziw1 :List Nat:=[]
def zix1 :Ann:=.tt
def zjq :List Nat:=[]
def zjr :Ann:=(.s (.s (.s (.s (.sq (.rg (rgR 0 8)) .tt)))))
def zpx1 :List Nat:=[]
def zpy1 :Ann:=.tt
def zfn2 :List Nat:=[]
def zfo2 :Ann:=.tt
def zzw1 :List Nat:=[]
def zzx1 :Ann:=.tt
def ziu2 :List Nat:=[]
def ziv2 :Ann:=.tt
def zzy1 :List Nat:=[]
def zzz1 :Ann:=.tt
def zfp2 :List Nat:=[]
def zfq2 :Ann:=.tt
def zaa2 :List Nat:=[]
def zab2 :Ann:=.tt
def zkn1 :List Nat:=[]
def zko1 :Ann:=.tt
def zkp1 :List Nat:=[]
def zkq1 :Ann:=.tt
def ziy1 :List Nat:=[4]
def ziz1 :Ann:=(.s (.sp 4 (.rg (rgR 0 9++ [(10,[]),(9,[3,7]),(11,[7]),(12,[])])) .tt))
def znv1 :List Nat:=[]
def znw1 :Ann:=.tt
def zkr1 :List Nat:=[3]
def zks1 :Ann:=(.s (.s (.s (.sq (.rg (rgR 0 11)) (.s (.s (.sq (.s (.sq (.s (.sq (.rg (rgR 0 19)) (.rg (rgR 0 7++ [(7,[4])]++rgR 8 4)))) .tt)) (.sq (.rg (rgR 0 7)) .tt))))))))
def zhs :List Nat:=[]
def zht :Ann:=(.s (.sq (.s (.bk (.lp [⟨false,8,3⟩] [] .tt))) .tt))
def zef1 :List Nat:=[2]
def zeg1 :Ann:=.tt
def zja1 :List Nat:=[8]
def zjb1 :Ann:=(.s (.sq (.s (.bk (.lp [⟨false,14,3⟩] [8] (.s (.s (.sq (.bk (.s (.s (.bk (.lp [⟨false,23,3⟩] [8] .tt))))) .tt)))))) .tt))
def zkt1 :List Nat:=[]
def zku1 :Ann:=.tt
end Lf
namespace Lf
open Go Go.Proofs
theorem zct2 {α:Type _} {l:List α} {i:Nat} (h:l.length<=i):nth l i=none:=by rw [zda];exact List.getElem?_eq_none h
theorem tyS {a e:Ty} {p:Ty->Prop} (h:some a=some e) (x:p a):p e:=Option.some.inj h▸x
theorem tyN {e:Ty} {q:Prop} (h:(none:Option Ty)=some e):q:=by cases h
theorem tyAll {p:Nat->Ty->Prop} (h0:p 0 ty0) (h2:p 2 ty2) (h3:p 3 ty3) (h4:p 4 ty4) (h5:p 5 ty5) (h9:p 9 ty9) (h20:p 20 ty20) (h22:p 22 ty22) (h23:p 23 ty23) (h24:p 24 ty24) (h26:p 26 ty26) (h27:p 27 ty27) (h28:p 28 ty28) (h32:p 32 ty32) (h34:p 34 ty34) (h35:p 35 ty35) (h36:p 36 ty36) (h37:p 37 ty37) (h39:p 39 ty39) (h41:p 41 ty41) (h43:p 43 ty43) (h47:p 47 ty47) (h48:p 48 ty48) (h50:p 50 ty50) (h52:p 52 ty52) (h53:p 53 ty53) (h58:p 58 ty58) (h60:p 60 ty60) (h61:p 61 ty61) (h63:p 63 ty63) (h65:p 65 ty65) (h66:p 66 ty66) (h68:p 68 ty68) (h69:p 69 ty69) (h70:p 70 ty70) (h73:p 73 ty73) (h74:p 74 ty74) (h76:p 76 ty76) (h79:p 79 ty79) (h80:p 80 ty80) (h81:p 81 ty81) (h83:p 83 ty83) (h85:p 85 ty85) (h92:p 92 ty92) (h94:p 94 ty94) (h96:p 96 ty96) (h98:p 98 ty98) (h101:p 101 ty101) (h111:p 111 ty111) (h112:p 112 ty112) (h113:p 113 ty113) (h115:p 115 ty115) (h118:p 118 ty118) (h119:p 119 ty119) (h120:p 120 ty120) (h121:p 121 ty121) (h123:p 123 ty123) (h124:p 124 ty124) (h125:p 125 ty125) (h126:p 126 ty126) (h127:p 127 ty127) (h129:p 129 ty129) (h133:p 133 ty133) (h134:p 134 ty134) (h135:p 135 ty135) (h137:p 137 ty137) (h138:p 138 ty138) (h140:p 140 ty140) (h142:p 142 ty142) (h145:p 145 ty145) (h147:p 147 ty147) (h149:p 149 ty149) (h151:p 151 ty151) (h157:p 157 ty157) (h163:p 163 ty163) (h168:p 168 ty168) (h170:p 170 ty170) (h173:p 173 ty173) (h184:p 184 ty184) (h185:p 185 ty185) (h187:p 187 ty187) (h191:p 191 ty191) (h192:p 192 ty192) (h194:p 194 ty194) (h196:p 196 ty196) (h197:p 197 ty197) (h199:p 199 ty199) (h200:p 200 ty200) (h203:p 203 ty203) (h204:p 204 ty204) (h205:p 205 ty205) (h206:p 206 ty206) (h208:p 208 ty208) (h210:p 210 ty210) (h212:p 212 ty212) (h215:p 215 ty215) (h219:p 219 ty219) (h223:p 223 ty223) (h225:p 225 ty225) (h229:p 229 ty229) (h231:p 231 ty231) (h232:p 232 ty232) (h234:p 234 ty234) (h237:p 237 ty237) (h239:p 239 ty239) (h240:p 240 ty240) (h242:p 242 ty242) (h246:p 246 ty246) (h249:p 249 ty249) (h253:p 253 ty253) (h255:p 255 ty255) (h257:p 257 ty257) (h262:p 262 ty262) (h263:p 263 ty263) (h267:p 267 ty267) (h271:p 271 ty271) (h274:p 274 ty274) (h275:p 275 ty275) (h283:p 283 ty283) (h284:p 284 ty284) (h286:p 286 ty286) (h291:p 291 ty291) (h293:p 293 ty293) (h296:p 296 ty296) (h299:p 299 ty299) (h302:p 302 ty302) (h307:p 307 ty307) (h308:p 308 ty308) (h311:p 311 ty311) (h314:p 314 ty314) (h318:p 318 ty318) (h319:p 319 ty319) (h321:p 321 ty321) (h323:p 323 ty323) (h327:p 327 ty327):∀t e,tyAt t=some e->p t e:=by
 intro t e h
 by_cases hlt:t<336
 ·match t,hlt,h with
  | 0,_,h=>exact tyS h h0
  | 1,_,h=>exact tyN h
  | 2,_,h=>exact tyS h h2
  | 3,_,h=>exact tyS h h3
  | 4,_,h=>exact tyS h h4
  | 5,_,h=>exact tyS h h5
  | 6,_,h=>exact tyN h
  | 7,_,h=>exact tyN h
  | 8,_,h=>exact tyN h
  | 9,_,h=>exact tyS h h9
  | 10,_,h=>exact tyN h
  | 11,_,h=>exact tyN h
  | 12,_,h=>exact tyN h
  | 13,_,h=>exact tyN h
  | 14,_,h=>exact tyN h
  | 15,_,h=>exact tyN h
  | 16,_,h=>exact tyN h
  | 17,_,h=>exact tyN h
  | 18,_,h=>exact tyN h
  | 19,_,h=>exact tyN h
  | 20,_,h=>exact tyS h h20
  | 21,_,h=>exact tyN h
  | 22,_,h=>exact tyS h h22
  | 23,_,h=>exact tyS h h23
  | 24,_,h=>exact tyS h h24
  | 25,_,h=>exact tyN h
  | 26,_,h=>exact tyS h h26
  | 27,_,h=>exact tyS h h27
  | 28,_,h=>exact tyS h h28
  | 29,_,h=>exact tyN h
  | 30,_,h=>exact tyN h
  | 31,_,h=>exact tyN h
  | 32,_,h=>exact tyS h h32
  | 33,_,h=>exact tyN h
  | 34,_,h=>exact tyS h h34
  | 35,_,h=>exact tyS h h35
  | 36,_,h=>exact tyS h h36
  | 37,_,h=>exact tyS h h37
  | 38,_,h=>exact tyN h
  | 39,_,h=>exact tyS h h39
  | 40,_,h=>exact tyN h
  | 41,_,h=>exact tyS h h41
  | 42,_,h=>exact tyN h
  | 43,_,h=>exact tyS h h43
  | 44,_,h=>exact tyN h
  | 45,_,h=>exact tyN h
  | 46,_,h=>exact tyN h
  | 47,_,h=>exact tyS h h47
  | 48,_,h=>exact tyS h h48
  | 49,_,h=>exact tyN h
  | 50,_,h=>exact tyS h h50
  | 51,_,h=>exact tyN h
  | 52,_,h=>exact tyS h h52
  | 53,_,h=>exact tyS h h53
  | 54,_,h=>exact tyN h
  | 55,_,h=>exact tyN h
  | 56,_,h=>exact tyN h
  | 57,_,h=>exact tyN h
  | 58,_,h=>exact tyS h h58
  | 59,_,h=>exact tyN h
  | 60,_,h=>exact tyS h h60
  | 61,_,h=>exact tyS h h61
  | 62,_,h=>exact tyN h
  | 63,_,h=>exact tyS h h63
  | 64,_,h=>exact tyN h
  | 65,_,h=>exact tyS h h65
  | 66,_,h=>exact tyS h h66
  | 67,_,h=>exact tyN h
  | 68,_,h=>exact tyS h h68
  | 69,_,h=>exact tyS h h69
  | 70,_,h=>exact tyS h h70
  | 71,_,h=>exact tyN h
  | 72,_,h=>exact tyN h
  | 73,_,h=>exact tyS h h73
  | 74,_,h=>exact tyS h h74
  | 75,_,h=>exact tyN h
  | 76,_,h=>exact tyS h h76
  | 77,_,h=>exact tyN h
  | 78,_,h=>exact tyN h
  | 79,_,h=>exact tyS h h79
  | 80,_,h=>exact tyS h h80
  | 81,_,h=>exact tyS h h81
  | 82,_,h=>exact tyN h
  | 83,_,h=>exact tyS h h83
  | 84,_,h=>exact tyN h
  | 85,_,h=>exact tyS h h85
  | 86,_,h=>exact tyN h
  | 87,_,h=>exact tyN h
  | 88,_,h=>exact tyN h
  | 89,_,h=>exact tyN h
  | 90,_,h=>exact tyN h
  | 91,_,h=>exact tyN h
  | 92,_,h=>exact tyS h h92
  | 93,_,h=>exact tyN h
  | 94,_,h=>exact tyS h h94
  | 95,_,h=>exact tyN h
  | 96,_,h=>exact tyS h h96
  | 97,_,h=>exact tyN h
  | 98,_,h=>exact tyS h h98
  | 99,_,h=>exact tyN h
  | 100,_,h=>exact tyN h
  | 101,_,h=>exact tyS h h101
  | 102,_,h=>exact tyN h
  | 103,_,h=>exact tyN h
  | 104,_,h=>exact tyN h
  | 105,_,h=>exact tyN h
  | 106,_,h=>exact tyN h
  | 107,_,h=>exact tyN h
  | 108,_,h=>exact tyN h
  | 109,_,h=>exact tyN h
  | 110,_,h=>exact tyN h
  | 111,_,h=>exact tyS h h111
  | 112,_,h=>exact tyS h h112
  | 113,_,h=>exact tyS h h113
  | 114,_,h=>exact tyN h
  | 115,_,h=>exact tyS h h115
  | 116,_,h=>exact tyN h
  | 117,_,h=>exact tyN h
  | 118,_,h=>exact tyS h h118
  | 119,_,h=>exact tyS h h119
  | 120,_,h=>exact tyS h h120
  | 121,_,h=>exact tyS h h121
  | 122,_,h=>exact tyN h
  | 123,_,h=>exact tyS h h123
  | 124,_,h=>exact tyS h h124
  | 125,_,h=>exact tyS h h125
  | 126,_,h=>exact tyS h h126
  | 127,_,h=>exact tyS h h127
  | 128,_,h=>exact tyN h
  | 129,_,h=>exact tyS h h129
  | 130,_,h=>exact tyN h
  | 131,_,h=>exact tyN h
  | 132,_,h=>exact tyN h
  | 133,_,h=>exact tyS h h133
  | 134,_,h=>exact tyS h h134
  | 135,_,h=>exact tyS h h135
  | 136,_,h=>exact tyN h
  | 137,_,h=>exact tyS h h137
  | 138,_,h=>exact tyS h h138
  | 139,_,h=>exact tyN h
  | 140,_,h=>exact tyS h h140
  | 141,_,h=>exact tyN h
  | 142,_,h=>exact tyS h h142
  | 143,_,h=>exact tyN h
  | 144,_,h=>exact tyN h
  | 145,_,h=>exact tyS h h145
  | 146,_,h=>exact tyN h
  | 147,_,h=>exact tyS h h147
  | 148,_,h=>exact tyN h
  | 149,_,h=>exact tyS h h149
  | 150,_,h=>exact tyN h
  | 151,_,h=>exact tyS h h151
  | 152,_,h=>exact tyN h
  | 153,_,h=>exact tyN h
  | 154,_,h=>exact tyN h
  | 155,_,h=>exact tyN h
  | 156,_,h=>exact tyN h
  | 157,_,h=>exact tyS h h157
  | 158,_,h=>exact tyN h
  | 159,_,h=>exact tyN h
  | 160,_,h=>exact tyN h
  | 161,_,h=>exact tyN h
  | 162,_,h=>exact tyN h
  | 163,_,h=>exact tyS h h163
  | 164,_,h=>exact tyN h
  | 165,_,h=>exact tyN h
  | 166,_,h=>exact tyN h
  | 167,_,h=>exact tyN h
  | 168,_,h=>exact tyS h h168
  | 169,_,h=>exact tyN h
  | 170,_,h=>exact tyS h h170
  | 171,_,h=>exact tyN h
  | 172,_,h=>exact tyN h
  | 173,_,h=>exact tyS h h173
  | 174,_,h=>exact tyN h
  | 175,_,h=>exact tyN h
  | 176,_,h=>exact tyN h
  | 177,_,h=>exact tyN h
  | 178,_,h=>exact tyN h
  | 179,_,h=>exact tyN h
  | 180,_,h=>exact tyN h
  | 181,_,h=>exact tyN h
  | 182,_,h=>exact tyN h
  | 183,_,h=>exact tyN h
  | 184,_,h=>exact tyS h h184
  | 185,_,h=>exact tyS h h185
  | 186,_,h=>exact tyN h
  | 187,_,h=>exact tyS h h187
  | 188,_,h=>exact tyN h
  | 189,_,h=>exact tyN h
  | 190,_,h=>exact tyN h
  | 191,_,h=>exact tyS h h191
  | 192,_,h=>exact tyS h h192
  | 193,_,h=>exact tyN h
  | 194,_,h=>exact tyS h h194
  | 195,_,h=>exact tyN h
  | 196,_,h=>exact tyS h h196
  | 197,_,h=>exact tyS h h197
  | 198,_,h=>exact tyN h
  | 199,_,h=>exact tyS h h199
  | 200,_,h=>exact tyS h h200
  | 201,_,h=>exact tyN h
  | 202,_,h=>exact tyN h
  | 203,_,h=>exact tyS h h203
  | 204,_,h=>exact tyS h h204
  | 205,_,h=>exact tyS h h205
  | 206,_,h=>exact tyS h h206
  | 207,_,h=>exact tyN h
  | 208,_,h=>exact tyS h h208
  | 209,_,h=>exact tyN h
  | 210,_,h=>exact tyS h h210
  | 211,_,h=>exact tyN h
  | 212,_,h=>exact tyS h h212
  | 213,_,h=>exact tyN h
  | 214,_,h=>exact tyN h
  | 215,_,h=>exact tyS h h215
  | 216,_,h=>exact tyN h
  | 217,_,h=>exact tyN h
  | 218,_,h=>exact tyN h
  | 219,_,h=>exact tyS h h219
  | 220,_,h=>exact tyN h
  | 221,_,h=>exact tyN h
  | 222,_,h=>exact tyN h
  | 223,_,h=>exact tyS h h223
  | 224,_,h=>exact tyN h
  | 225,_,h=>exact tyS h h225
  | 226,_,h=>exact tyN h
  | 227,_,h=>exact tyN h
  | 228,_,h=>exact tyN h
  | 229,_,h=>exact tyS h h229
  | 230,_,h=>exact tyN h
  | 231,_,h=>exact tyS h h231
  | 232,_,h=>exact tyS h h232
  | 233,_,h=>exact tyN h
  | 234,_,h=>exact tyS h h234
  | 235,_,h=>exact tyN h
  | 236,_,h=>exact tyN h
  | 237,_,h=>exact tyS h h237
  | 238,_,h=>exact tyN h
  | 239,_,h=>exact tyS h h239
  | 240,_,h=>exact tyS h h240
  | 241,_,h=>exact tyN h
  | 242,_,h=>exact tyS h h242
  | 243,_,h=>exact tyN h
  | 244,_,h=>exact tyN h
  | 245,_,h=>exact tyN h
  | 246,_,h=>exact tyS h h246
  | 247,_,h=>exact tyN h
  | 248,_,h=>exact tyN h
  | 249,_,h=>exact tyS h h249
  | 250,_,h=>exact tyN h
  | 251,_,h=>exact tyN h
  | 252,_,h=>exact tyN h
  | 253,_,h=>exact tyS h h253
  | 254,_,h=>exact tyN h
  | 255,_,h=>exact tyS h h255
  | 256,_,h=>exact tyN h
  | 257,_,h=>exact tyS h h257
  | 258,_,h=>exact tyN h
  | 259,_,h=>exact tyN h
  | 260,_,h=>exact tyN h
  | 261,_,h=>exact tyN h
  | 262,_,h=>exact tyS h h262
  | 263,_,h=>exact tyS h h263
  | 264,_,h=>exact tyN h
  | 265,_,h=>exact tyN h
  | 266,_,h=>exact tyN h
  | 267,_,h=>exact tyS h h267
  | 268,_,h=>exact tyN h
  | 269,_,h=>exact tyN h
  | 270,_,h=>exact tyN h
  | 271,_,h=>exact tyS h h271
  | 272,_,h=>exact tyN h
  | 273,_,h=>exact tyN h
  | 274,_,h=>exact tyS h h274
  | 275,_,h=>exact tyS h h275
  | 276,_,h=>exact tyN h
  | 277,_,h=>exact tyN h
  | 278,_,h=>exact tyN h
  | 279,_,h=>exact tyN h
  | 280,_,h=>exact tyN h
  | 281,_,h=>exact tyN h
  | 282,_,h=>exact tyN h
  | 283,_,h=>exact tyS h h283
  | 284,_,h=>exact tyS h h284
  | 285,_,h=>exact tyN h
  | 286,_,h=>exact tyS h h286
  | 287,_,h=>exact tyN h
  | 288,_,h=>exact tyN h
  | 289,_,h=>exact tyN h
  | 290,_,h=>exact tyN h
  | 291,_,h=>exact tyS h h291
  | 292,_,h=>exact tyN h
  | 293,_,h=>exact tyS h h293
  | 294,_,h=>exact tyN h
  | 295,_,h=>exact tyN h
  | 296,_,h=>exact tyS h h296
  | 297,_,h=>exact tyN h
  | 298,_,h=>exact tyN h
  | 299,_,h=>exact tyS h h299
  | 300,_,h=>exact tyN h
  | 301,_,h=>exact tyN h
  | 302,_,h=>exact tyS h h302
  | 303,_,h=>exact tyN h
  | 304,_,h=>exact tyN h
  | 305,_,h=>exact tyN h
  | 306,_,h=>exact tyN h
  | 307,_,h=>exact tyS h h307
  | 308,_,h=>exact tyS h h308
  | 309,_,h=>exact tyN h
  | 310,_,h=>exact tyN h
  | 311,_,h=>exact tyS h h311
  | 312,_,h=>exact tyN h
  | 313,_,h=>exact tyN h
  | 314,_,h=>exact tyS h h314
  | 315,_,h=>exact tyN h
  | 316,_,h=>exact tyN h
  | 317,_,h=>exact tyN h
  | 318,_,h=>exact tyS h h318
  | 319,_,h=>exact tyS h h319
  | 320,_,h=>exact tyN h
  | 321,_,h=>exact tyS h h321
  | 322,_,h=>exact tyN h
  | 323,_,h=>exact tyS h h323
  | 324,_,h=>exact tyN h
  | 325,_,h=>exact tyN h
  | 326,_,h=>exact tyN h
  | 327,_,h=>exact tyS h h327
  | 328,_,h=>exact tyN h
  | 329,_,h=>exact tyN h
  | 330,_,h=>exact tyN h
  | 331,_,h=>exact tyN h
  | 332,_,h=>exact tyN h
  | 333,_,h=>exact tyN h
  | 334,_,h=>exact tyN h
  | 335,_,h=>exact tyN h
  | n+336,hlt,_=>omega
 ·have hl:tyRows.length=21:=rfl
  have:nth tyRows (t / 16)=none:=zct2 (l:=tyRows) (i:=t / 16) (by rw [hl];omega)
  unfold tyAt at h
  rw [this] at h
  cases h
theorem zpy2 (x:Leaf):(zac x.v).length=1/\∀cs,x.v≠ .agg cs:=by
 obtain ⟨v,h⟩:=x
 cases v<;>first | exact ⟨rfl,fun cs h=>by cases h⟩ | cases h
theorem tb_ok :tb.Ok Tryz.prog where
 und:=tyAll (p:=fun t e=>Tryz.prog.underlying t=some e.und) Tryz.underlying0 Tryz.underlying2 Tryz.underlying3 Tryz.underlying4 Tryz.underlying5 Tryz.underlying9 Tryz.underlying20 Tryz.underlying22 Tryz.underlying23 Tryz.underlying24 Tryz.underlying26 Tryz.underlying27 Tryz.underlying28 Tryz.underlying32 Tryz.underlying34 Tryz.underlying35 Tryz.underlying36 Tryz.underlying37 Tryz.underlying39 Tryz.underlying41 Tryz.underlying43 Tryz.underlying47 Tryz.underlying48 Tryz.underlying50 Tryz.underlying52 Tryz.underlying53 Tryz.underlying58 Tryz.underlying60 Tryz.underlying61 Tryz.underlying63 Tryz.underlying65 Tryz.underlying66 Tryz.underlying68 Tryz.underlying69 Tryz.underlying70 Tryz.underlying73 Tryz.underlying74 Tryz.underlying76 Tryz.underlying79 Tryz.underlying80 Tryz.underlying81 Tryz.underlying83 Tryz.underlying85 Tryz.underlying92 Tryz.underlying94 Tryz.underlying96 Tryz.underlying98 Tryz.underlying101 Tryz.underlying111 Tryz.underlying112 Tryz.underlying113 Tryz.underlying115 Tryz.underlying118 Tryz.underlying119 Tryz.underlying120 Tryz.underlying121 Tryz.underlying123 Tryz.underlying124 Tryz.underlying125 Tryz.underlying126 Tryz.underlying127 Tryz.underlying129 Tryz.underlying133 Tryz.underlying134 Tryz.underlying135 Tryz.underlying137 Tryz.underlying138 Tryz.underlying140 Tryz.underlying142 Tryz.underlying145 Tryz.underlying147 Tryz.underlying149 Tryz.underlying151 Tryz.underlying157 Tryz.underlying163 Tryz.underlying168 Tryz.underlying170 Tryz.underlying173 Tryz.underlying184 Tryz.underlying185 Tryz.underlying187 Tryz.underlying191 Tryz.underlying192 Tryz.underlying194 Tryz.underlying196 Tryz.underlying197 Tryz.underlying199 Tryz.underlying200 Tryz.underlying203 Tryz.underlying204 Tryz.underlying205 Tryz.underlying206 Tryz.underlying208 Tryz.underlying210 Tryz.underlying212 Tryz.underlying215 Tryz.underlying219 Tryz.underlying223 Tryz.underlying225 Tryz.underlying229 Tryz.underlying231 Tryz.underlying232 Tryz.underlying234 Tryz.underlying237 Tryz.underlying239 Tryz.underlying240 Tryz.underlying242 Tryz.underlying246 Tryz.underlying249 Tryz.underlying253 Tryz.underlying255 Tryz.underlying257 Tryz.underlying262 Tryz.underlying263 Tryz.underlying267 Tryz.underlying271 Tryz.underlying274 Tryz.underlying275 Tryz.underlying283 Tryz.underlying284 Tryz.underlying286 Tryz.underlying291 Tryz.underlying293 Tryz.underlying296 Tryz.underlying299 Tryz.underlying302 Tryz.underlying307 Tryz.underlying308 Tryz.underlying311 Tryz.underlying314 Tryz.underlying318 Tryz.underlying319 Tryz.underlying321 Tryz.underlying323 Tryz.underlying327
 info:=tyAll (p:=fun t e=>∃i,Tryz.prog.info? t=some i/\i.size=e.size/\i.bytes=e.bytes/\i.zero=some e.zero) ⟨Tryz.t0,Tryz.type0,rfl,rfl,rfl⟩ ⟨Tryz.t2,Tryz.type2,rfl,rfl,rfl⟩ ⟨Tryz.t3,Tryz.type3,rfl,rfl,rfl⟩ ⟨Tryz.t4,Tryz.type4,rfl,rfl,rfl⟩ ⟨Tryz.t5,Tryz.type5,rfl,rfl,rfl⟩ ⟨Tryz.t9,Tryz.type9,rfl,rfl,rfl⟩ ⟨Tryz.t20,Tryz.type20,rfl,rfl,rfl⟩ ⟨Tryz.t22,Tryz.type22,rfl,rfl,rfl⟩ ⟨Tryz.t23,Tryz.type23,rfl,rfl,rfl⟩ ⟨Tryz.t24,Tryz.type24,rfl,rfl,rfl⟩ ⟨Tryz.t26,Tryz.type26,rfl,rfl,rfl⟩ ⟨Tryz.t27,Tryz.type27,rfl,rfl,rfl⟩ ⟨Tryz.t28,Tryz.type28,rfl,rfl,rfl⟩ ⟨Tryz.t32,Tryz.type32,rfl,rfl,rfl⟩ ⟨Tryz.t34,Tryz.type34,rfl,rfl,rfl⟩ ⟨Tryz.t35,Tryz.type35,rfl,rfl,rfl⟩ ⟨Tryz.t36,Tryz.type36,rfl,rfl,rfl⟩ ⟨Tryz.t37,Tryz.type37,rfl,rfl,rfl⟩ ⟨Tryz.t39,Tryz.type39,rfl,rfl,rfl⟩ ⟨Tryz.t41,Tryz.type41,rfl,rfl,rfl⟩ ⟨Tryz.t43,Tryz.type43,rfl,rfl,rfl⟩ ⟨Tryz.t47,Tryz.type47,rfl,rfl,rfl⟩ ⟨Tryz.t48,Tryz.type48,rfl,rfl,rfl⟩ ⟨Tryz.t50,Tryz.type50,rfl,rfl,rfl⟩ ⟨Tryz.t52,Tryz.type52,rfl,rfl,rfl⟩ ⟨Tryz.t53,Tryz.type53,rfl,rfl,rfl⟩ ⟨Tryz.t58,Tryz.type58,rfl,rfl,rfl⟩ ⟨Tryz.t60,Tryz.type60,rfl,rfl,rfl⟩ ⟨Tryz.t61,Tryz.type61,rfl,rfl,rfl⟩ ⟨Tryz.t63,Tryz.type63,rfl,rfl,rfl⟩ ⟨Tryz.t65,Tryz.type65,rfl,rfl,rfl⟩ ⟨Tryz.t66,Tryz.type66,rfl,rfl,rfl⟩ ⟨Tryz.t68,Tryz.type68,rfl,rfl,rfl⟩ ⟨Tryz.t69,Tryz.type69,rfl,rfl,rfl⟩ ⟨Tryz.t70,Tryz.type70,rfl,rfl,rfl⟩ ⟨Tryz.t73,Tryz.type73,rfl,rfl,rfl⟩ ⟨Tryz.t74,Tryz.type74,rfl,rfl,rfl⟩ ⟨Tryz.t76,Tryz.type76,rfl,rfl,rfl⟩ ⟨Tryz.t79,Tryz.type79,rfl,rfl,rfl⟩ ⟨Tryz.t80,Tryz.type80,rfl,rfl,rfl⟩ ⟨Tryz.t81,Tryz.type81,rfl,rfl,rfl⟩ ⟨Tryz.t83,Tryz.type83,rfl,rfl,rfl⟩ ⟨Tryz.t85,Tryz.type85,rfl,rfl,rfl⟩ ⟨Tryz.t92,Tryz.type92,rfl,rfl,rfl⟩ ⟨Tryz.t94,Tryz.type94,rfl,rfl,rfl⟩ ⟨Tryz.t96,Tryz.type96,rfl,rfl,rfl⟩ ⟨Tryz.t98,Tryz.type98,rfl,rfl,rfl⟩ ⟨Tryz.t101,Tryz.type101,rfl,rfl,rfl⟩ ⟨Tryz.t111,Tryz.type111,rfl,rfl,rfl⟩ ⟨Tryz.t112,Tryz.type112,rfl,rfl,rfl⟩ ⟨Tryz.t113,Tryz.type113,rfl,rfl,rfl⟩ ⟨Tryz.t115,Tryz.type115,rfl,rfl,rfl⟩ ⟨Tryz.t118,Tryz.type118,rfl,rfl,rfl⟩ ⟨Tryz.t119,Tryz.type119,rfl,rfl,rfl⟩ ⟨Tryz.t120,Tryz.type120,rfl,rfl,rfl⟩ ⟨Tryz.t121,Tryz.type121,rfl,rfl,rfl⟩ ⟨Tryz.t123,Tryz.type123,rfl,rfl,rfl⟩ ⟨Tryz.t124,Tryz.type124,rfl,rfl,rfl⟩ ⟨Tryz.t125,Tryz.type125,rfl,rfl,rfl⟩ ⟨Tryz.t126,Tryz.type126,rfl,rfl,rfl⟩ ⟨Tryz.t127,Tryz.type127,rfl,rfl,rfl⟩ ⟨Tryz.t129,Tryz.type129,rfl,rfl,rfl⟩ ⟨Tryz.t133,Tryz.type133,rfl,rfl,rfl⟩ ⟨Tryz.t134,Tryz.type134,rfl,rfl,rfl⟩ ⟨Tryz.t135,Tryz.type135,rfl,rfl,rfl⟩ ⟨Tryz.t137,Tryz.type137,rfl,rfl,rfl⟩ ⟨Tryz.t138,Tryz.type138,rfl,rfl,rfl⟩ ⟨Tryz.t140,Tryz.type140,rfl,rfl,rfl⟩ ⟨Tryz.t142,Tryz.type142,rfl,rfl,rfl⟩ ⟨Tryz.t145,Tryz.type145,rfl,rfl,rfl⟩ ⟨Tryz.t147,Tryz.type147,rfl,rfl,rfl⟩ ⟨Tryz.t149,Tryz.type149,rfl,rfl,rfl⟩ ⟨Tryz.t151,Tryz.type151,rfl,rfl,rfl⟩ ⟨Tryz.t157,Tryz.type157,rfl,rfl,rfl⟩ ⟨Tryz.t163,Tryz.type163,rfl,rfl,rfl⟩ ⟨Tryz.t168,Tryz.type168,rfl,rfl,rfl⟩ ⟨Tryz.t170,Tryz.type170,rfl,rfl,rfl⟩ ⟨Tryz.t173,Tryz.type173,rfl,rfl,rfl⟩ ⟨Tryz.t184,Tryz.type184,rfl,rfl,rfl⟩ ⟨Tryz.t185,Tryz.type185,rfl,rfl,rfl⟩ ⟨Tryz.t187,Tryz.type187,rfl,rfl,rfl⟩ ⟨Tryz.t191,Tryz.type191,rfl,rfl,rfl⟩ ⟨Tryz.t192,Tryz.type192,rfl,rfl,rfl⟩ ⟨Tryz.t194,Tryz.type194,rfl,rfl,rfl⟩ ⟨Tryz.t196,Tryz.type196,rfl,rfl,rfl⟩ ⟨Tryz.t197,Tryz.type197,rfl,rfl,rfl⟩ ⟨Tryz.t199,Tryz.type199,rfl,rfl,rfl⟩ ⟨Tryz.t200,Tryz.type200,rfl,rfl,rfl⟩ ⟨Tryz.t203,Tryz.type203,rfl,rfl,rfl⟩ ⟨Tryz.t204,Tryz.type204,rfl,rfl,rfl⟩ ⟨Tryz.t205,Tryz.type205,rfl,rfl,rfl⟩ ⟨Tryz.t206,Tryz.type206,rfl,rfl,rfl⟩ ⟨Tryz.t208,Tryz.type208,rfl,rfl,rfl⟩ ⟨Tryz.t210,Tryz.type210,rfl,rfl,rfl⟩ ⟨Tryz.t212,Tryz.type212,rfl,rfl,rfl⟩ ⟨Tryz.t215,Tryz.type215,rfl,rfl,rfl⟩ ⟨Tryz.t219,Tryz.type219,rfl,rfl,rfl⟩ ⟨Tryz.t223,Tryz.type223,rfl,rfl,rfl⟩ ⟨Tryz.t225,Tryz.type225,rfl,rfl,rfl⟩ ⟨Tryz.t229,Tryz.type229,rfl,rfl,rfl⟩ ⟨Tryz.t231,Tryz.type231,rfl,rfl,rfl⟩ ⟨Tryz.t232,Tryz.type232,rfl,rfl,rfl⟩ ⟨Tryz.t234,Tryz.type234,rfl,rfl,rfl⟩ ⟨Tryz.t237,Tryz.type237,rfl,rfl,rfl⟩ ⟨Tryz.t239,Tryz.type239,rfl,rfl,rfl⟩ ⟨Tryz.t240,Tryz.type240,rfl,rfl,rfl⟩ ⟨Tryz.t242,Tryz.type242,rfl,rfl,rfl⟩ ⟨Tryz.t246,Tryz.type246,rfl,rfl,rfl⟩ ⟨Tryz.t249,Tryz.type249,rfl,rfl,rfl⟩ ⟨Tryz.t253,Tryz.type253,rfl,rfl,rfl⟩ ⟨Tryz.t255,Tryz.type255,rfl,rfl,rfl⟩ ⟨Tryz.t257,Tryz.type257,rfl,rfl,rfl⟩ ⟨Tryz.t262,Tryz.type262,rfl,rfl,rfl⟩ ⟨Tryz.t263,Tryz.type263,rfl,rfl,rfl⟩ ⟨Tryz.t267,Tryz.type267,rfl,rfl,rfl⟩ ⟨Tryz.t271,Tryz.type271,rfl,rfl,rfl⟩ ⟨Tryz.t274,Tryz.type274,rfl,rfl,rfl⟩ ⟨Tryz.t275,Tryz.type275,rfl,rfl,rfl⟩ ⟨Tryz.t283,Tryz.type283,rfl,rfl,rfl⟩ ⟨Tryz.t284,Tryz.type284,rfl,rfl,rfl⟩ ⟨Tryz.t286,Tryz.type286,rfl,rfl,rfl⟩ ⟨Tryz.t291,Tryz.type291,rfl,rfl,rfl⟩ ⟨Tryz.t293,Tryz.type293,rfl,rfl,rfl⟩ ⟨Tryz.t296,Tryz.type296,rfl,rfl,rfl⟩ ⟨Tryz.t299,Tryz.type299,rfl,rfl,rfl⟩ ⟨Tryz.t302,Tryz.type302,rfl,rfl,rfl⟩ ⟨Tryz.t307,Tryz.type307,rfl,rfl,rfl⟩ ⟨Tryz.t308,Tryz.type308,rfl,rfl,rfl⟩ ⟨Tryz.t311,Tryz.type311,rfl,rfl,rfl⟩ ⟨Tryz.t314,Tryz.type314,rfl,rfl,rfl⟩ ⟨Tryz.t318,Tryz.type318,rfl,rfl,rfl⟩ ⟨Tryz.t319,Tryz.type319,rfl,rfl,rfl⟩ ⟨Tryz.t321,Tryz.type321,rfl,rfl,rfl⟩ ⟨Tryz.t323,Tryz.type323,rfl,rfl,rfl⟩ ⟨Tryz.t327,Tryz.type327,rfl,rfl,rfl⟩
 agg:=by
  apply tyAll (p:=fun t e=>ziw e.und=true->∀x,∃cs,e.sh.enc x=.agg cs/\cs.size=e.size)<;>first | (intro h;cases h;done) | exact (fun _ x=>⟨_,rfl,rfl⟩) | exact (fun _ x=>⟨_,rfl,x.size⟩)
 leaf:=by
  apply tyAll (p:=fun t e=>ziw e.und=false->e.size=1/\∀x,(zac (e.sh.enc x)).length=1/\∀cs,e.sh.enc x≠ .agg cs)<;>first | (intro h;cases h;done) | (refine fun _=>⟨rfl,fun x=>⟨rfl,fun cs h=> ?_⟩⟩;cases h;done) | exact (fun _=>⟨rfl,zpy2⟩)
 zlen:=by
  apply tyAll (p:=fun t e=>(zac e.zero).length=e.size)<;>first | exact rfl
 zero8:=by
  apply tyAll (p:=fun t e=>e.und=.int .u8->zac e.zero=[.int .u8 0])<;>first | (intro h;cases h;done) | exact (fun _=>rfl)
 zagg:=by
  apply tyAll (p:=fun t e=>ziw e.und=true->∃cs,e.zero=.agg cs)<;>first | (intro h;cases h;done) | exact (fun _=>⟨_,rfl⟩)
 call:=by
  intro g h
  by_cases hlt:g<256
  ·match g,hlt,h with
   | 0,_,h=>exact absurd (show false=true from h) (by simp)
   | 1,_,h=>exact absurd (show false=true from h) (by simp)
   | 2,_,_=>exact Tryz.call2
   | 3,_,_=>exact Tryz.call3
   | 4,_,_=>exact Tryz.call4
   | 5,_,_=>exact Tryz.call5
   | 6,_,_=>exact Tryz.call6
   | 7,_,_=>exact Tryz.call7
   | 8,_,_=>exact Tryz.call8
   | 9,_,_=>exact Tryz.call9
   | 10,_,_=>exact Tryz.call10
   | 11,_,_=>exact Tryz.call11
   | 12,_,_=>exact Tryz.call12
   | 13,_,_=>exact Tryz.call13
   | 14,_,_=>exact Tryz.call14
   | 15,_,_=>exact Tryz.call15
   | 16,_,_=>exact Tryz.call16
   | 17,_,_=>exact Tryz.call17
   | 18,_,_=>exact Tryz.call18
   | 19,_,_=>exact Tryz.call19
   | 20,_,_=>exact Tryz.call20
   | 21,_,_=>exact Tryz.call21
   | 22,_,_=>exact Tryz.call22
   | 23,_,_=>exact Tryz.call23
   | 24,_,_=>exact Tryz.call24
   | 25,_,_=>exact Tryz.call25
   | 26,_,_=>exact Tryz.call26
   | 27,_,_=>exact Tryz.call27
   | 28,_,_=>exact Tryz.call28
   | 29,_,_=>exact Tryz.call29
   | 30,_,_=>exact Tryz.call30
   | 31,_,_=>exact Tryz.call31
   | 32,_,_=>exact Tryz.call32
   | 33,_,_=>exact Tryz.call33
   | 34,_,_=>exact Tryz.call34
   | 35,_,_=>exact Tryz.call35
   | 36,_,_=>exact Tryz.call36
   | 37,_,_=>exact Tryz.call37
   | 38,_,_=>exact Tryz.call38
   | 39,_,_=>exact Tryz.call39
   | 40,_,_=>exact Tryz.call40
   | 41,_,_=>exact Tryz.call41
   | 42,_,_=>exact Tryz.call42
   | 43,_,_=>exact Tryz.call43
   | 44,_,_=>exact Tryz.call44
   | 45,_,_=>exact Tryz.call45
   | 46,_,_=>exact Tryz.call46
   | 47,_,_=>exact Tryz.call47
   | 48,_,_=>exact Tryz.call48
   | 49,_,_=>exact Tryz.call49
   | 50,_,_=>exact Tryz.call50
   | 51,_,_=>exact Tryz.call51
   | 52,_,_=>exact Tryz.call52
   | 53,_,_=>exact Tryz.call53
   | 54,_,_=>exact Tryz.call54
   | 55,_,_=>exact Tryz.call55
   | 56,_,_=>exact Tryz.call56
   | 57,_,_=>exact Tryz.call57
   | 58,_,_=>exact Tryz.call58
   | 59,_,_=>exact Tryz.call59
   | 60,_,_=>exact Tryz.call60
   | 61,_,_=>exact Tryz.call61
   | 62,_,_=>exact Tryz.call62
   | 63,_,_=>exact Tryz.call63
   | 64,_,_=>exact Tryz.call64
   | 65,_,_=>exact Tryz.call65
   | 66,_,_=>exact Tryz.call66
   | 67,_,_=>exact Tryz.call67
   | 68,_,_=>exact Tryz.call68
   | 69,_,_=>exact Tryz.call69
   | 70,_,_=>exact Tryz.call70
   | 71,_,_=>exact Tryz.call71
   | 72,_,_=>exact Tryz.call72
   | 73,_,_=>exact Tryz.call73
   | 74,_,_=>exact Tryz.call74
   | 75,_,_=>exact Tryz.call75
   | 76,_,_=>exact Tryz.call76
   | 77,_,_=>exact Tryz.call77
   | 78,_,_=>exact Tryz.call78
   | 79,_,_=>exact Tryz.call79
   | 80,_,_=>exact Tryz.call80
   | 81,_,_=>exact Tryz.call81
   | 82,_,_=>exact Tryz.call82
   | 83,_,_=>exact Tryz.call83
   | 84,_,_=>exact Tryz.call84
   | 85,_,_=>exact Tryz.call85
   | 86,_,_=>exact Tryz.call86
   | 87,_,_=>exact Tryz.call87
   | 88,_,_=>exact Tryz.call88
   | 89,_,_=>exact Tryz.call89
   | 90,_,_=>exact Tryz.call90
   | 91,_,_=>exact Tryz.call91
   | 92,_,_=>exact Tryz.call92
   | 93,_,_=>exact Tryz.call93
   | 94,_,_=>exact Tryz.call94
   | 95,_,_=>exact Tryz.call95
   | 96,_,_=>exact Tryz.call96
   | 97,_,_=>exact Tryz.call97
   | 98,_,_=>exact Tryz.call98
   | 99,_,_=>exact Tryz.call99
   | 100,_,_=>exact Tryz.call100
   | 101,_,_=>exact Tryz.call101
   | 102,_,_=>exact Tryz.call102
   | 103,_,_=>exact Tryz.call103
   | 104,_,_=>exact Tryz.call104
   | 105,_,_=>exact Tryz.call105
   | 106,_,_=>exact Tryz.call106
   | 107,_,_=>exact Tryz.call107
   | 108,_,_=>exact Tryz.call108
   | 109,_,_=>exact Tryz.call109
   | 110,_,_=>exact Tryz.call110
   | 111,_,_=>exact Tryz.call111
   | 112,_,_=>exact Tryz.call112
   | 113,_,_=>exact Tryz.call113
   | 114,_,_=>exact Tryz.call114
   | 115,_,_=>exact Tryz.call115
   | 116,_,_=>exact Tryz.call116
   | 117,_,_=>exact Tryz.call117
   | 118,_,_=>exact Tryz.call118
   | 119,_,_=>exact Tryz.call119
   | 120,_,_=>exact Tryz.call120
   | 121,_,_=>exact Tryz.call121
   | 122,_,_=>exact Tryz.call122
   | 123,_,_=>exact Tryz.call123
   | 124,_,_=>exact Tryz.call124
   | 125,_,_=>exact Tryz.call125
   | 126,_,_=>exact Tryz.call126
   | 127,_,_=>exact Tryz.call127
   | 128,_,_=>exact Tryz.call128
   | 129,_,_=>exact Tryz.call129
   | 130,_,_=>exact Tryz.call130
   | 131,_,_=>exact Tryz.call131
   | 132,_,_=>exact Tryz.call132
   | 133,_,_=>exact Tryz.call133
   | 134,_,_=>exact Tryz.call134
   | 135,_,_=>exact Tryz.call135
   | 136,_,_=>exact Tryz.call136
   | 137,_,_=>exact Tryz.call137
   | 138,_,_=>exact Tryz.call138
   | 139,_,_=>exact Tryz.call139
   | 140,_,_=>exact Tryz.call140
   | 141,_,_=>exact Tryz.call141
   | 142,_,_=>exact Tryz.call142
   | 143,_,_=>exact Tryz.call143
   | 144,_,_=>exact Tryz.call144
   | 145,_,_=>exact Tryz.call145
   | 146,_,_=>exact Tryz.call146
   | 147,_,_=>exact Tryz.call147
   | 148,_,_=>exact Tryz.call148
   | 149,_,_=>exact Tryz.call149
   | 150,_,_=>exact Tryz.call150
   | 151,_,_=>exact Tryz.call151
   | 152,_,_=>exact Tryz.call152
   | 153,_,_=>exact Tryz.call153
   | 154,_,_=>exact Tryz.call154
   | 155,_,_=>exact Tryz.call155
   | 156,_,_=>exact Tryz.call156
   | 157,_,_=>exact Tryz.call157
   | 158,_,_=>exact Tryz.call158
   | 159,_,_=>exact Tryz.call159
   | 160,_,_=>exact Tryz.call160
   | 161,_,_=>exact Tryz.call161
   | 162,_,_=>exact Tryz.call162
   | 163,_,_=>exact Tryz.call163
   | 164,_,_=>exact Tryz.call164
   | 165,_,_=>exact Tryz.call165
   | 166,_,_=>exact Tryz.call166
   | 167,_,_=>exact Tryz.call167
   | 168,_,_=>exact Tryz.call168
   | 169,_,_=>exact Tryz.call169
   | 170,_,_=>exact Tryz.call170
   | 171,_,_=>exact Tryz.call171
   | 172,_,_=>exact Tryz.call172
   | 173,_,_=>exact Tryz.call173
   | 174,_,_=>exact Tryz.call174
   | 175,_,_=>exact Tryz.call175
   | 176,_,_=>exact Tryz.call176
   | 177,_,_=>exact Tryz.call177
   | 178,_,_=>exact Tryz.call178
   | 179,_,_=>exact Tryz.call179
   | 180,_,_=>exact Tryz.call180
   | 181,_,_=>exact Tryz.call181
   | 182,_,_=>exact Tryz.call182
   | 183,_,_=>exact Tryz.call183
   | 184,_,_=>exact Tryz.call184
   | 185,_,_=>exact Tryz.call185
   | 186,_,_=>exact Tryz.call186
   | 187,_,_=>exact Tryz.call187
   | 188,_,_=>exact Tryz.call188
   | 189,_,h=>exact absurd (show false=true from h) (by simp)
   | 190,_,_=>exact Tryz.call190
   | 191,_,_=>exact Tryz.call191
   | 192,_,_=>exact Tryz.call192
   | 193,_,_=>exact Tryz.call193
   | 194,_,_=>exact Tryz.call194
   | 195,_,_=>exact Tryz.call195
   | 196,_,_=>exact Tryz.call196
   | 197,_,_=>exact Tryz.call197
   | 198,_,_=>exact Tryz.call198
   | 199,_,_=>exact Tryz.call199
   | 200,_,_=>exact Tryz.call200
   | 201,_,_=>exact Tryz.call201
   | 202,_,_=>exact Tryz.call202
   | 203,_,_=>exact Tryz.call203
   | 204,_,_=>exact Tryz.call204
   | 205,_,_=>exact Tryz.call205
   | 206,_,_=>exact Tryz.call206
   | 207,_,_=>exact Tryz.call207
   | 208,_,_=>exact Tryz.call208
   | 209,_,_=>exact Tryz.call209
   | 210,_,_=>exact Tryz.call210
   | 211,_,_=>exact Tryz.call211
   | 212,_,_=>exact Tryz.call212
   | 213,_,_=>exact Tryz.call213
   | 214,_,_=>exact Tryz.call214
   | 215,_,_=>exact Tryz.call215
   | 216,_,_=>exact Tryz.call216
   | 217,_,_=>exact Tryz.call217
   | 218,_,_=>exact Tryz.call218
   | 219,_,_=>exact Tryz.call219
   | 220,_,_=>exact Tryz.call220
   | 221,_,_=>exact Tryz.call221
   | 222,_,_=>exact Tryz.call222
   | 223,_,_=>exact Tryz.call223
   | 224,_,_=>exact Tryz.call224
   | 225,_,_=>exact Tryz.call225
   | 226,_,_=>exact Tryz.call226
   | 227,_,_=>exact Tryz.call227
   | 228,_,_=>exact Tryz.call228
   | 229,_,_=>exact Tryz.call229
   | 230,_,_=>exact Tryz.call230
   | 231,_,_=>exact Tryz.call231
   | 232,_,_=>exact Tryz.call232
   | 233,_,_=>exact Tryz.call233
   | 234,_,_=>exact Tryz.call234
   | 235,_,_=>exact Tryz.call235
   | 236,_,_=>exact Tryz.call236
   | 237,_,_=>exact Tryz.call237
   | 238,_,h=>exact absurd (show false=true from h) (by simp)
   | 239,_,h=>exact absurd (show false=true from h) (by simp)
   | 240,_,_=>exact Tryz.call240
   | 241,_,_=>exact Tryz.call241
   | 242,_,_=>exact Tryz.call242
   | 243,_,_=>exact Tryz.call243
   | 244,_,_=>exact Tryz.call244
   | 245,_,h=>exact absurd (show false=true from h) (by simp)
   | 246,_,_=>exact Tryz.call246
   | 247,_,_=>exact Tryz.call247
   | 248,_,h=>exact absurd (show false=true from h) (by simp)
   | 249,_,_=>exact Tryz.call249
   | 250,_,h=>exact absurd (show false=true from h) (by simp)
   | 251,_,h=>exact absurd (show false=true from h) (by simp)
   | 252,_,h=>exact absurd (show false=true from h) (by simp)
   | 253,_,h=>exact absurd (show false=true from h) (by simp)
   | 254,_,h=>exact absurd (show false=true from h) (by simp)
   | 255,_,h=>exact absurd (show false=true from h) (by simp)
   | n+256,hlt,_=>omega
  ·have hl:fnRows.length=16:=rfl
   have:nth fnRows (g / 16)=none:=zct2 (l:=fnRows) (i:=g / 16) (by rw [hl];omega)
   have h:fnAt g=true:=h
   unfold fnAt at h
   rw [this] at h
   cases h
 ext:=by
  intro g f h args w
  have h:extAt g=some f:=h
  unfold extAt at h
  cases e189:Nat.beq g 189 with
  | true=>
   have hg:g=189:=Nat.eq_of_beq_eq_true e189
   subst hg
   exact run_callFunc_extern Tryz.func189 (by kernel_rfl) (by kernel_rfl) (by kernel_rfl) (show _=_ from (show _=some _ by kernel_rfl:_=some _).trans h) args w
  | false=>
  simp only [e189,cond_false] at h
  cases e238:Nat.beq g 238 with
  | true=>
   have hg:g=238:=Nat.eq_of_beq_eq_true e238
   subst hg
   exact run_callFunc_extern Tryz.func238 (by kernel_rfl) (by kernel_rfl) (by kernel_rfl) (show _=_ from (show _=some _ by kernel_rfl:_=some _).trans h) args w
  | false=>
  simp only [e238,cond_false] at h
  cases e239:Nat.beq g 239 with
  | true=>
   have hg:g=239:=Nat.eq_of_beq_eq_true e239
   subst hg
   exact run_callFunc_extern Tryz.func239 (by kernel_rfl) (by kernel_rfl) (by kernel_rfl) (show _=_ from (show _=some _ by kernel_rfl:_=some _).trans h) args w
  | false=>
  simp only [e239,cond_false] at h
  cases e248:Nat.beq g 248 with
  | true=>
   have hg:g=248:=Nat.eq_of_beq_eq_true e248
   subst hg
   exact run_callFunc_extern Tryz.func248 (by kernel_rfl) (by kernel_rfl) (by kernel_rfl) (show _=_ from (show _=some _ by kernel_rfl:_=some _).trans h) args w
  | false=>
  simp only [e248,cond_false] at h
  cases h
 mixed:=by kernel_rfl
theorem firebreaklaw17_RunNames_call {Q h} (hv:zel Tryz.prog  Q h):CallT Tryz.prog zrr [] (zae) Q h:=
 zaa (C:=⟨Tryz.prog,tb,zry⟩) (A:=zrz) tb_ok Tryz.func4 rfl (Eq.mpr (by kernel_rfl) hv)
theorem zsi {Q h} (hv:zhc Tryz.prog  Q h):CallT Tryz.prog zmi [] (zae) Q h:=
 zaa (C:=⟨Tryz.prog,tb,zxg⟩) (A:=zxh) tb_ok Tryz.func9 rfl (Eq.mpr (by kernel_rfl) hv)
theorem ztu1 {raw Q h} (hv:zhg1 Tryz.prog raw Q h):Call3 Tryz.prog zha1 [(shSl).enc raw] (shPtr) (shInt .i64) (shInt .i64) Q h:=
 show CallT Tryz.prog zha1 [(shSl).enc raw] (shRes tb [35,36,3]) (fun r=>Q r.1 r.2.1 r.2.2) h from zaa (C:=⟨Tryz.prog,tb,zer2⟩) (A:=zes2) tb_ok Tryz.func10 rfl (Eq.mpr (by kernel_rfl) hv)
theorem zzo {r s Q h} (hv:znu Tryz.prog r s Q h):CallT Tryz.prog zyv [(shPtr).enc r,(zpp).enc s] (zoy) Q h:=
 zaa (C:=⟨Tryz.prog,tb,zwf1⟩) (A:=zwg1) tb_ok Tryz.func12 rfl (Eq.mpr (by kernel_rfl) hv)
theorem zqj {Q h} (hv:zfb Tryz.prog  Q h):Call2 Tryz.prog zey [] (shSl) (zae) Q h:=
 show CallT Tryz.prog zey [] (shRes tb [34,4]) (fun r=>Q r.1 r.2) h from zaa (C:=⟨Tryz.prog,tb,ztr⟩) (A:=zts) tb_ok Tryz.func17 rfl (Eq.mpr (by kernel_rfl) hv)
theorem zfs1 {r Q h} (hv:zzd Tryz.prog r Q h):CallT Tryz.prog zyw [(shPtr).enc r] (zfg) Q h:=
 zaa (C:=⟨Tryz.prog,tb,zmv1⟩) (A:=zmw1) tb_ok Tryz.func18 rfl (Eq.mpr (by kernel_rfl) hv)
theorem zkv1 {b Q h} (hv:zuw Tryz.prog b Q h):Call3 Tryz.prog zup [(shSl).enc b] (sh_api_Config) (shInt .i64) (shInt .i64) Q h:=
 show CallT Tryz.prog zup [(shSl).enc b] (shRes tb [26,36,3]) (fun r=>Q r.1 r.2.1 r.2.2) h from zaa (C:=⟨Tryz.prog,tb,zsw1⟩) (A:=zsx1) tb_ok Tryz.func19 rfl (Eq.mpr (by kernel_rfl) hv)
theorem zkw1 {c Q h} (hv:zux Tryz.prog c Q h):Call2 Tryz.prog zuq [(sh_api_Config).enc c] (shPtr) (shInt .i64) Q h:=
 show CallT Tryz.prog zuq [(sh_api_Config).enc c] (shRes tb [69,36]) (fun r=>Q r.1 r.2) h from zaa (C:=⟨Tryz.prog,tb,zsy1⟩) (A:=zsz1) tb_ok Tryz.func20 rfl (Eq.mpr (by kernel_rfl) hv)
theorem zft1 {Q h} (hv:zhh1 Tryz.prog  Q h):CallT Tryz.prog zrb1 [] (shMap) Q h:=
 zaa (C:=⟨Tryz.prog,tb,zet2⟩) (A:=zeu2) tb_ok Tryz.func23 rfl (Eq.mpr (by kernel_rfl) hv)
theorem zqw {m Q h} (hv:zdn Tryz.prog m Q h):CallT Tryz.prog zli [(shPtr).enc m] (zfg) Q h:=
 zaa (C:=⟨Tryz.prog,tb,zvi⟩) (A:=zvj) tb_ok Tryz.func26 rfl (Eq.mpr (by kernel_rfl) hv)
theorem zqx {c Q h} (hv:zfw Tryz.prog c Q h):Call2 Tryz.prog zfk [(sh_api_Config).enc c] (shSl) (shInt .i64) Q h:=
 show CallT Tryz.prog zfk [(sh_api_Config).enc c] (shRes tb [34,36]) (fun r=>Q r.1 r.2) h from zaa (C:=⟨Tryz.prog,tb,zvk⟩) (A:=zvl) tb_ok Tryz.func35 rfl (Eq.mpr (by kernel_rfl) hv)
theorem zbn {r e place Q h} (hv:zlr Tryz.prog r e place Q h):Call0 Tryz.prog zbj [(shPtr).enc r,(shInt .i64).enc e,(shInt .i64).enc place] (Q) h:=
 show CallT Tryz.prog zbj [(shPtr).enc r,(shInt .i64).enc e,(shInt .i64).enc place] (shRes tb []) (fun _=>Q) h from zaa (C:=⟨Tryz.prog,tb,zfk1⟩) (A:=zfl1) tb_ok Tryz.func36 rfl (Eq.mpr (by kernel_rfl) hv)
theorem zwk {r Q h} (hv:zji Tryz.prog r Q h):Call0 Tryz.prog zjc [(shPtr).enc r] (Q) h:=
 show CallT Tryz.prog zjc [(shPtr).enc r] (shRes tb []) (fun _=>Q) h from zaa (C:=⟨Tryz.prog,tb,zay1⟩) (A:=zaz1) tb_ok Tryz.func37 rfl (Eq.mpr (by kernel_rfl) hv)
theorem zao {r Q h} (hv:ziq Tryz.prog r Q h):CallT Tryz.prog zay [(shPtr).enc r] (zae) Q h:=
 zaa (C:=⟨Tryz.prog,tb,zhs1⟩) (A:=zht1) tb_ok Tryz.func38 rfl (Eq.mpr (by kernel_rfl) hv)
theorem zwl {r c Q h} (hv:zjj Tryz.prog r c Q h):Call0 Tryz.prog zjd [(shPtr).enc r,(shPtr).enc c] (Q) h:=
 show CallT Tryz.prog zjd [(shPtr).enc r,(shPtr).enc c] (shRes tb []) (fun _=>Q) h from zaa (C:=⟨Tryz.prog,tb,zba1⟩) (A:=zbb1) tb_ok Tryz.func39 rfl (Eq.mpr (by kernel_rfl) hv)
theorem zyi {r c Q h} (hv:zkj Tryz.prog r c Q h):Call0 Tryz.prog zkg [(shPtr).enc r,(shPtr).enc c] (Q) h:=
 show CallT Tryz.prog zkg [(shPtr).enc r,(shPtr).enc c] (shRes tb []) (fun _=>Q) h from zaa (C:=⟨Tryz.prog,tb,zdj1⟩) (A:=zdk1) tb_ok Tryz.func40 rfl (Eq.mpr (by kernel_rfl) hv)
theorem zwm {r part bytes Q h} (hv:zjk Tryz.prog r part bytes Q h):CallT Tryz.prog zcn [(shPtr).enc r,(shInt .i64).enc part,(shInt .i64).enc bytes] (shInt .i64) Q h:=
 zaa (C:=⟨Tryz.prog,tb,zbc1⟩) (A:=zbd1) tb_ok Tryz.func41 rfl (Eq.mpr (by kernel_rfl) hv)
theorem zfd {r most Q h} (hv:zic Tryz.prog r most Q h):CallT Tryz.prog zee [(shPtr).enc r,(shInt .i64).enc most] (shInt .i64) Q h:=
 zaa (C:=⟨Tryz.prog,tb,zzk⟩) (A:=zzl) tb_ok Tryz.func42 rfl (Eq.mpr (by kernel_rfl) hv)
theorem zzp {r c Q h} (hv:zls Tryz.prog r c Q h):Call0 Tryz.prog zlj [(shPtr).enc r,(shPtr).enc c] (Q) h:=
 show CallT Tryz.prog zlj [(shPtr).enc r,(shPtr).enc c] (shRes tb []) (fun _=>Q) h from zaa (C:=⟨Tryz.prog,tb,zfm1⟩) (A:=zfn1) tb_ok Tryz.func43 rfl (Eq.mpr (by kernel_rfl) hv)
theorem ztv1 {c Q h} (hv:zhi1 Tryz.prog c Q h):Call2 Tryz.prog zhb1 [(sh_api_Config).enc c] (shInt .i64) (shInt .i64) Q h:=
 show CallT Tryz.prog zhb1 [(sh_api_Config).enc c] (shRes tb [36,3]) (fun r=>Q r.1 r.2) h from zaa (C:=⟨Tryz.prog,tb,zev2⟩) (A:=zew2) tb_ok Tryz.func44 rfl (Eq.mpr (by kernel_rfl) hv)
theorem zjc1 {c s Q h} (hv:zrt Tryz.prog c s Q h):CallT Tryz.prog zch1 [(sh_api_Config).enc c,(zfg).enc s] (shPtr) Q h:=
 zaa (C:=⟨Tryz.prog,tb,zpn1⟩) (A:=zpo1) tb_ok Tryz.func45 rfl (Eq.mpr (by kernel_rfl) hv)
theorem zfu1 {c Q h} (hv:zpv Tryz.prog c Q h):CallT Tryz.prog zyx [(sh_api_Config).enc c] (zfg) Q h:=
 zaa (C:=⟨Tryz.prog,tb,zmx1⟩) (A:=zmy1) tb_ok Tryz.func46 rfl (Eq.mpr (by kernel_rfl) hv)
theorem zjd1 {r s Q h} (hv:zru Tryz.prog r s Q h):CallT Tryz.prog zpl1 [(shPtr).enc r,(zpp).enc s] (shInt .i64) Q h:=
 zaa (C:=⟨Tryz.prog,tb,zpp1⟩) (A:=zpq1) tb_ok Tryz.func51 rfl (Eq.mpr (by kernel_rfl) hv)
theorem zeh1 {r s Q h} (hv:zxa Tryz.prog r s Q h):CallT Tryz.prog zkc1 [(shPtr).enc r,(zpp).enc s] (shInt .i64) Q h:=
 zaa (C:=⟨Tryz.prog,tb,zkd1⟩) (A:=zke1) tb_ok Tryz.func52 rfl (Eq.mpr (by kernel_rfl) hv)
theorem zje1 {r s Q h} (hv:zci1 Tryz.prog r s Q h):CallT Tryz.prog zpm1 [(shPtr).enc r,(zpp).enc s] (shInt .i64) Q h:=
 zaa (C:=⟨Tryz.prog,tb,zpr1⟩) (A:=zps1) tb_ok Tryz.func53 rfl (Eq.mpr (by kernel_rfl) hv)
theorem zqk {m p v Q h} (hv:zdh Tryz.prog m p v Q h):CallT Tryz.prog zku [(shPtr).enc m,(shInt .i64).enc p,(shInt .i64).enc v] (shInt .i64) Q h:=
 zaa (C:=⟨Tryz.prog,tb,ztt⟩) (A:=ztu) tb_ok Tryz.func54 rfl (Eq.mpr (by kernel_rfl) hv)
theorem zsj {m p Q h} (hv:zdv Tryz.prog m p Q h):CallT Tryz.prog zmj [(shPtr).enc m,(shInt .i64).enc p] (shInt .i64) Q h:=
 zaa (C:=⟨Tryz.prog,tb,zxi⟩) (A:=zxj) tb_ok Tryz.func55 rfl (Eq.mpr (by kernel_rfl) hv)
theorem zyj {l Q h} (hv:zkk Tryz.prog l Q h):Call2 Tryz.prog zfl [(shPtr).enc l] (shSl) (shSl) Q h:=
 show CallT Tryz.prog zfl [(shPtr).enc l] (shRes tb [23,113]) (fun r=>Q r.1 r.2) h from zaa (C:=⟨Tryz.prog,tb,zdl1⟩) (A:=zdm1) tb_ok Tryz.func58 rfl (Eq.mpr (by kernel_rfl) hv)
theorem zdk {s Q h} (hv:zcf Tryz.prog s Q h):CallT Tryz.prog zaw [(shSl).enc s] (shSl) Q h:=
 zaa (C:=⟨Tryz.prog,tb,zky⟩) (A:=zkz) tb_ok Tryz.func59 rfl (Eq.mpr (by kernel_rfl) hv)
theorem zbq1 {p Q h} (hv:zmz Tryz.prog p Q h):Call2 Tryz.prog zin [(shPtr).enc p] (shSl) (shInt .i64) Q h:=
 show CallT Tryz.prog zin [(shPtr).enc p] (shRes tb [66,3]) (fun r=>Q r.1 r.2) h from zaa (C:=⟨Tryz.prog,tb,zhu1⟩) (A:=zhv1) tb_ok Tryz.func60 rfl (Eq.mpr (by kernel_rfl) hv)
theorem zot {w id_ Q h} (hv:zir Tryz.prog w id_ Q h):Call2 Tryz.prog zdr [(shPtr).enc w,(shInt .i64).enc id_] (shInt .i64) (zae) Q h:=
 show CallT Tryz.prog zdr [(shPtr).enc w,(shInt .i64).enc id_] (shRes tb [2,4]) (fun r=>Q r.1 r.2) h from zaa (C:=⟨Tryz.prog,tb,zhw1⟩) (A:=zhx1) tb_ok Tryz.func61 rfl (Eq.mpr (by kernel_rfl) hv)
theorem zeg {p Q h} (hv:zlt Tryz.prog p Q h):CallT Tryz.prog zbs [(shInt .i64).enc p] (shInt .i64) Q h:=
 zaa (C:=⟨Tryz.prog,tb,zmz1⟩) (A:=zna1) tb_ok Tryz.func62 rfl (Eq.mpr (by kernel_rfl) hv)
theorem zeh {p Q h} (hv:zlu Tryz.prog p Q h):CallT Tryz.prog zcl [(shInt .i64).enc p] (shInt .i64) Q h:=
 zaa (C:=⟨Tryz.prog,tb,znb1⟩) (A:=znc1) tb_ok Tryz.func63 rfl (Eq.mpr (by kernel_rfl) hv)
theorem zsk {m Q h} (hv:zdw Tryz.prog m Q h):CallT Tryz.prog zmk [(shPtr).enc m] (shInt .i64) Q h:=
 zaa (C:=⟨Tryz.prog,tb,zxk⟩) (A:=zxl) tb_ok Tryz.func68 rfl (Eq.mpr (by kernel_rfl) hv)
theorem zkx1 {a b Q h} (hv:zuy Tryz.prog a b Q h):CallT Tryz.prog zff1 [(shInt .u64).enc a,(shInt .u64).enc b] (zae) Q h:=
 zaa (C:=⟨Tryz.prog,tb,zta1⟩) (A:=ztb1) tb_ok Tryz.func74 rfl (Eq.mpr (by kernel_rfl) hv)
theorem zwn {c Q h} (hv:zjl Tryz.prog c Q h):Call2 Tryz.prog zje [(sh_api_Config).enc c] (shInt .i64) (shInt .i64) Q h:=
 show CallT Tryz.prog zje [(sh_api_Config).enc c] (shRes tb [36,3]) (fun r=>Q r.1 r.2) h from zaa (C:=⟨Tryz.prog,tb,zbe1⟩) (A:=zbf1) tb_ok Tryz.func75 rfl (Eq.mpr (by kernel_rfl) hv)
theorem zcq {b n many Q h} (hv:zfx Tryz.prog b n many Q h):CallT Tryz.prog zcm [(shSl).enc b,(shInt .u64).enc n,(shInt .i64).enc many] (shSl) Q h:=
 zaa (C:=⟨Tryz.prog,tb,zvm⟩) (A:=zvn) tb_ok Tryz.func76 rfl (Eq.mpr (by kernel_rfl) hv)
theorem zwo {b x Q h} (hv:zjm Tryz.prog b x Q h):CallT Tryz.prog zor [(shSl).enc b,(sh_api_Ins).enc x] (shSl) Q h:=
 zaa (C:=⟨Tryz.prog,tb,zbg1⟩) (A:=zbh1) tb_ok Tryz.func77 rfl (Eq.mpr (by kernel_rfl) hv)
theorem zdo {r many wrong Q h} (hv:zjn Tryz.prog r many wrong Q h):CallT Tryz.prog zav [(shPtr).enc r,(shInt .i64).enc many,(shFn).enc wrong] (shInt .u64) Q h:=
 zaa (C:=⟨Tryz.prog,tb,zbi1⟩) (A:=zbj1) tb_ok Tryz.func78 rfl (Eq.mpr (by kernel_rfl) hv)
theorem zsl {n a1 Q h} (hv:zhd Tryz.prog n a1 Q h):CallT Tryz.prog zgw [(shInt .u64).enc n,.pointer (some a1)] (shInt .i64) Q h:=
 zaa (C:=⟨Tryz.prog,tb,zxm⟩) (A:=zxn) tb_ok Tryz.func79 rfl (Eq.mpr (by kernel_rfl) hv)
theorem zsm {a a1 Q h} (hv:zhe Tryz.prog a a1 Q h):CallT Tryz.prog zgx [(shInt .u64).enc a,.pointer (some a1)] (shInt .i64) Q h:=
 zaa (C:=⟨Tryz.prog,tb,zxo⟩) (A:=zxp) tb_ok Tryz.func80 rfl (Eq.mpr (by kernel_rfl) hv)
theorem ziz {r c Q h} (hv:zfy Tryz.prog r c Q h):CallT Tryz.prog zfm [(shPtr).enc r,(shPtr).enc c] (shInt .i64) Q h:=
 zaa (C:=⟨Tryz.prog,tb,zvo⟩) (A:=zvp) tb_ok Tryz.func81 rfl (Eq.mpr (by kernel_rfl) hv)
theorem zeu {r many wrong Q h} (hv:zna Tryz.prog r many wrong Q h):CallT Tryz.prog zez [(shPtr).enc r,(shInt .i64).enc many,(shFn).enc wrong] (shInt .i64) Q h:=
 zaa (C:=⟨Tryz.prog,tb,zhy1⟩) (A:=zhz1) tb_ok Tryz.func82 rfl (Eq.mpr (by kernel_rfl) hv)
theorem zsn {n a1 Q h} (hv:zmm Tryz.prog n a1 Q h):CallT Tryz.prog zgy [(shInt .i64).enc n,.pointer (some a1)] (shInt .i64) Q h:=
 zaa (C:=⟨Tryz.prog,tb,zxq⟩) (A:=zxr) tb_ok Tryz.func83 rfl (Eq.mpr (by kernel_rfl) hv)
theorem zxb {part n Q h} (hv:zuz Tryz.prog part n Q h):CallT Tryz.prog zur [(shInt .i64).enc part,(shInt .i64).enc n] (shInt .i64) Q h:=
 zaa (C:=⟨Tryz.prog,tb,ztc1⟩) (A:=ztd1) tb_ok Tryz.func84 rfl (Eq.mpr (by kernel_rfl) hv)
theorem zqy {n a1 Q h} (hv:zlv Tryz.prog n a1 Q h):CallT Tryz.prog zfn [(shInt .i64).enc n,.pointer (some a1)] (shInt .i64) Q h:=
 zaa (C:=⟨Tryz.prog,tb,zvq⟩) (A:=zvr) tb_ok Tryz.func85 rfl (Eq.mpr (by kernel_rfl) hv)
theorem zso {n most Q h} (hv:zdd1 Tryz.prog n most Q h):CallT Tryz.prog zus [(shInt .i64).enc n,(shInt .i64).enc most] (shInt .i64) Q h:=
 zaa (C:=⟨Tryz.prog,tb,zzg1⟩) (A:=zzh1) tb_ok Tryz.func86 rfl (Eq.mpr (by kernel_rfl) hv)
theorem zwp {n Q h} (hv:zjo Tryz.prog n Q h):CallT Tryz.prog zjf [(shInt .i64).enc n] (shInt .i64) Q h:=
 zaa (C:=⟨Tryz.prog,tb,zbk1⟩) (A:=zbl1) tb_ok Tryz.func87 rfl (Eq.mpr (by kernel_rfl) hv)
theorem zbr1 {r n locks Q h} (hv:znb Tryz.prog r n locks Q h):CallT Tryz.prog ztj [(shPtr).enc r,(shInt .i64).enc n,(shInt .i64).enc locks] (sh_api_Ins) Q h:=
 zaa (C:=⟨Tryz.prog,tb,zia1⟩) (A:=zib1) tb_ok Tryz.func88 rfl (Eq.mpr (by kernel_rfl) hv)
theorem zsp {l Q h} (hv:zpw Tryz.prog l Q h):Call2 Tryz.prog zut [(shSl).enc l] (shInt .i64) (shInt .i64) Q h:=
 show CallT Tryz.prog zut [(shSl).enc l] (shRes tb [36,3]) (fun r=>Q r.1 r.2) h from zaa (C:=⟨Tryz.prog,tb,zzi1⟩) (A:=zzj1) tb_ok Tryz.func89 rfl (Eq.mpr (by kernel_rfl) hv)
theorem zcj1 {table parts Q h} (hv:zpx Tryz.prog table parts Q h):Call3 Tryz.prog zuu [(shSl).enc table,(shInt .i64).enc parts] (shPtr) (shInt .i64) (shInt .i64) Q h:=
 show CallT Tryz.prog zuu [(shSl).enc table,(shInt .i64).enc parts] (shRes tb [119,36,3]) (fun r=>Q r.1 r.2.1 r.2.2) h from zaa (C:=⟨Tryz.prog,tb,zzk1⟩) (A:=zzl1) tb_ok Tryz.func90 rfl (Eq.mpr (by kernel_rfl) hv)
theorem zgo {n from_ to Q h} (hv:zva Tryz.prog n from_ to Q h):CallT Tryz.prog zio [(shInt .i64).enc n,(shInt .i64).enc from_,(shInt .i64).enc to] (zae) Q h:=
 zaa (C:=⟨Tryz.prog,tb,zte1⟩) (A:=ztf1) tb_ok Tryz.func91 rfl (Eq.mpr (by kernel_rfl) hv)
theorem ztw1 {l locks Q h} (hv:zhj1 Tryz.prog l locks Q h):Call2 Tryz.prog zhc1 [(shSl).enc l,(shInt .i64).enc locks] (shInt .i64) (shInt .i64) Q h:=
 show CallT Tryz.prog zhc1 [(shSl).enc l,(shInt .i64).enc locks] (shRes tb [36,3]) (fun r=>Q r.1 r.2) h from zaa (C:=⟨Tryz.prog,tb,zex2⟩) (A:=zey2) tb_ok Tryz.func92 rfl (Eq.mpr (by kernel_rfl) hv)
theorem zei1 {c Q h} (hv:zog Tryz.prog c Q h):CallT Tryz.prog zwx [(sh_api_Config).enc c] (sh_api_Config) Q h:=
 zaa (C:=⟨Tryz.prog,tb,zkf1⟩) (A:=zkg1) tb_ok Tryz.func93 rfl (Eq.mpr (by kernel_rfl) hv)
theorem zpz1 {l Q h} (hv:zpy Tryz.prog l Q h):Call3 Tryz.prog zcy1 [(shSl).enc l] (shPtr) (shInt .i64) (shInt .i64) Q h:=
 show CallT Tryz.prog zcy1 [(shSl).enc l] (shRes tb [118,36,3]) (fun r=>Q r.1 r.2.1 r.2.2) h from zaa (C:=⟨Tryz.prog,tb,zzm1⟩) (A:=zzn1) tb_ok Tryz.func94 rfl (Eq.mpr (by kernel_rfl) hv)
theorem zqa1 {owners queues Q h} (hv:zde1 Tryz.prog owners queues Q h):Call2 Tryz.prog zuv [(shSl).enc owners,(shSl).enc queues] (shPtr) (shInt .i64) Q h:=
 show CallT Tryz.prog zuv [(shSl).enc owners,(shSl).enc queues] (shRes tb [126,36]) (fun r=>Q r.1 r.2) h from zaa (C:=⟨Tryz.prog,tb,zzo1⟩) (A:=zzp1) tb_ok Tryz.func95 rfl (Eq.mpr (by kernel_rfl) hv)
theorem zqb1 {Q h} (hv:zvb Tryz.prog  Q h):CallT Tryz.prog zcz1 [] (shPtr) Q h:=
 zaa (C:=⟨Tryz.prog,tb,zzq1⟩) (A:=zzr1) tb_ok Tryz.func96 rfl (Eq.mpr (by kernel_rfl) hv)
theorem ztx1 {room l cursor Q h} (hv:zhk1 Tryz.prog room l cursor Q h):Call2 Tryz.prog zap1 [(shInt .i64).enc room,(shSl).enc l,(shInt .i64).enc cursor] (shPtr) (shInt .i64) Q h:=
 show CallT Tryz.prog zap1 [(shInt .i64).enc room,(shSl).enc l,(shInt .i64).enc cursor] (shRes tb [138,36]) (fun r=>Q r.1 r.2) h from zaa (C:=⟨Tryz.prog,tb,zez2⟩) (A:=zfa2) tb_ok Tryz.func97 rfl (Eq.mpr (by kernel_rfl) hv)
theorem zjs {w id_ due Q h} (hv:zis Tryz.prog w id_ due Q h):CallT Tryz.prog zbg [(shPtr).enc w,(shInt .i64).enc id_,(shInt .i64).enc due] (shInt .i64) Q h:=
 zaa (C:=⟨Tryz.prog,tb,zic1⟩) (A:=zid1) tb_ok Tryz.func98 rfl (Eq.mpr (by kernel_rfl) hv)
theorem zqz {x count Q h} (hv:zfz Tryz.prog x count Q h):CallT Tryz.prog zag [(shSl).enc x,(shInt .i64).enc count] (shSl) Q h:=
 zaa (C:=⟨Tryz.prog,tb,zvs⟩) (A:=zvt) tb_ok Tryz.func99 rfl (Eq.mpr (by kernel_rfl) hv)
theorem zsq {x n locks Q h} (hv:zhf Tryz.prog x n locks Q h):Call2 Tryz.prog zgz [(sh_api_Ins).enc x,(shInt .i64).enc n,(shInt .i64).enc locks] (shInt .i64) (shInt .i64) Q h:=
 show CallT Tryz.prog zgz [(sh_api_Ins).enc x,(shInt .i64).enc n,(shInt .i64).enc locks] (shRes tb [36,3]) (fun r=>Q r.1 r.2) h from zaa (C:=⟨Tryz.prog,tb,zxs⟩) (A:=zxt) tb_ok Tryz.func101 rfl (Eq.mpr (by kernel_rfl) hv)
theorem zja {m p Q h} (hv:zga Tryz.prog m p Q h):CallT Tryz.prog zfo [(shPtr).enc m,(shInt .i64).enc p] (shInt .i64) Q h:=
 zaa (C:=⟨Tryz.prog,tb,zvu⟩) (A:=zvv) tb_ok Tryz.func102 rfl (Eq.mpr (by kernel_rfl) hv)
theorem zlz {p lane v Q h} (hv:zlw Tryz.prog p lane v Q h):CallT Tryz.prog zlk [(shPtr).enc p,(shInt .i64).enc lane,(shInt .i64).enc v] (shInt .i64) Q h:=
 zaa (C:=⟨Tryz.prog,tb,znd1⟩) (A:=zne1) tb_ok Tryz.func103 rfl (Eq.mpr (by kernel_rfl) hv)
theorem zql {p lane Q h} (hv:zkd Tryz.prog p lane Q h):Call0 Tryz.prog zgn [(shPtr).enc p,(shInt .i64).enc lane] (Q) h:=
 show CallT Tryz.prog zgn [(shPtr).enc p,(shInt .i64).enc lane] (shRes tb []) (fun _=>Q) h from zaa (C:=⟨Tryz.prog,tb,zkh1⟩) (A:=zki1) tb_ok Tryz.func104 rfl (Eq.mpr (by kernel_rfl) hv)
theorem zep {m q Q h} (hv:zhg Tryz.prog m q Q h):Call0 Tryz.prog zcr [(shPtr).enc m,(shPtr).enc q] (Q) h:=
 show CallT Tryz.prog zcr [(shPtr).enc m,(shPtr).enc q] (shRes tb []) (fun _=>Q) h from zaa (C:=⟨Tryz.prog,tb,zxu⟩) (A:=zxv) tb_ok Tryz.func105 rfl (Eq.mpr (by kernel_rfl) hv)
theorem zjy {m p state Q h} (hv:zhh Tryz.prog m p state Q h):Call0 Tryz.prog zdt [(shPtr).enc m,(shPtr).enc p,(shInt .i64).enc state] (Q) h:=
 show CallT Tryz.prog zdt [(shPtr).enc m,(shPtr).enc p,(shInt .i64).enc state] (shRes tb []) (fun _=>Q) h from zaa (C:=⟨Tryz.prog,tb,zxw⟩) (A:=zxx) tb_ok Tryz.func106 rfl (Eq.mpr (by kernel_rfl) hv)
theorem zcz {s Q h} (hv:zbp Tryz.prog s Q h):CallT Tryz.prog zdu [(shSl).enc s] (shSl) Q h:=
 zaa (C:=⟨Tryz.prog,tb,zxy⟩) (A:=zxz) tb_ok Tryz.func107 rfl (Eq.mpr (by kernel_rfl) hv)
theorem zgp {s Q h} (hv:zdz Tryz.prog s Q h):CallT Tryz.prog zdy [(shSl).enc s] (shSl) Q h:=
 zaa (C:=⟨Tryz.prog,tb,zqs⟩) (A:=zqt) tb_ok Tryz.func110 rfl (Eq.mpr (by kernel_rfl) hv)
theorem zdf {s Q h} (hv:zbv Tryz.prog s Q h):CallT Tryz.prog zbt [(shSl).enc s] (shSl) Q h:=
 zaa (C:=⟨Tryz.prog,tb,zjw⟩) (A:=zjx) tb_ok Tryz.func111 rfl (Eq.mpr (by kernel_rfl) hv)
theorem zou {l Q h} (hv:znc Tryz.prog l Q h):CallT Tryz.prog zmu [(shPtr).enc l] (sh_api_Lane) Q h:=
 zaa (C:=⟨Tryz.prog,tb,zie1⟩) (A:=zif1) tb_ok Tryz.func112 rfl (Eq.mpr (by kernel_rfl) hv)
theorem zyk {s t Q h} (hv:zkl Tryz.prog s t Q h):CallT Tryz.prog zpq [(shPtr).enc s,(shInt .i64).enc t] (shInt .i64) Q h:=
 zaa (C:=⟨Tryz.prog,tb,zdn1⟩) (A:=zdo1) tb_ok Tryz.func123 rfl (Eq.mpr (by kernel_rfl) hv)
theorem ztx {m x Q h} (hv:zid Tryz.prog m x Q h):Call0 Tryz.prog zib [(shPtr).enc m,(shPtr).enc x] (Q) h:=
 show CallT Tryz.prog zib [(shPtr).enc m,(shPtr).enc x] (shRes tb []) (fun _=>Q) h from zaa (C:=⟨Tryz.prog,tb,zzm⟩) (A:=zzn) tb_ok Tryz.func124 rfl (Eq.mpr (by kernel_rfl) hv)
theorem zsr {m p Q h} (hv:zhi Tryz.prog m p Q h):Call0 Tryz.prog zha [(shPtr).enc m,(shPtr).enc p] (Q) h:=
 show CallT Tryz.prog zha [(shPtr).enc m,(shPtr).enc p] (shRes tb []) (fun _=>Q) h from zaa (C:=⟨Tryz.prog,tb,zya⟩) (A:=zyb) tb_ok Tryz.func125 rfl (Eq.mpr (by kernel_rfl) hv)
theorem zwq {l Q h} (hv:zos Tryz.prog l Q h):Call2 Tryz.prog zjg [(shSl).enc l] (shInt .i64) (shInt .i64) Q h:=
 show CallT Tryz.prog zjg [(shSl).enc l] (shRes tb [36,3]) (fun r=>Q r.1 r.2) h from zaa (C:=⟨Tryz.prog,tb,zbm1⟩) (A:=zbn1) tb_ok Tryz.func127 rfl (Eq.mpr (by kernel_rfl) hv)
theorem zra {l parts Q h} (hv:zgb Tryz.prog l parts Q h):CallT Tryz.prog zll [(shSl).enc l,(shInt .i64).enc parts] (shInt .i64) Q h:=
 zaa (C:=⟨Tryz.prog,tb,zvw⟩) (A:=zvx) tb_ok Tryz.func128 rfl (Eq.mpr (by kernel_rfl) hv)
theorem zbd {n least most Q h} (hv:zgc Tryz.prog n least most Q h):CallT Tryz.prog zbe [(shInt .i64).enc n,(shInt .i64).enc least,(shInt .i64).enc most] (zae) Q h:=
 zaa (C:=⟨Tryz.prog,tb,zvy⟩) (A:=zvz) tb_ok Tryz.func129 rfl (Eq.mpr (by kernel_rfl) hv)
theorem zwr {l locks Q h} (hv:zjp Tryz.prog l locks Q h):Call2 Tryz.prog zjh [(shSl).enc l,(shInt .i64).enc locks] (shInt .i64) (shInt .i64) Q h:=
 show CallT Tryz.prog zjh [(shSl).enc l,(shInt .i64).enc locks] (shRes tb [36,3]) (fun r=>Q r.1 r.2) h from zaa (C:=⟨Tryz.prog,tb,zbo1⟩) (A:=zbp1) tb_ok Tryz.func130 rfl (Eq.mpr (by kernel_rfl) hv)
theorem zpe {n a1 Q h} (hv:zjv Tryz.prog n a1 Q h):CallT Tryz.prog zek [(shInt .i64).enc n,.pointer (some a1)] (shInt .i64) Q h:=
 zaa (C:=⟨Tryz.prog,tb,zsa⟩) (A:=zsb) tb_ok Tryz.func131 rfl (Eq.mpr (by kernel_rfl) hv)
theorem zyl {n a1 Q h} (hv:zpz Tryz.prog n a1 Q h):CallT Tryz.prog zkh [(shInt .u64).enc n,.pointer (some a1)] (shInt .i64) Q h:=
 zaa (C:=⟨Tryz.prog,tb,zdp1⟩) (A:=zdq1) tb_ok Tryz.func132 rfl (Eq.mpr (by kernel_rfl) hv)
theorem zym {a0 Q h} (hv:zqa Tryz.prog a0 Q h):CallT Tryz.prog zfp [(shInt .u64).enc a0] (shInt .i64) Q h:=
 zaa (C:=⟨Tryz.prog,tb,zdr1⟩) (A:=zds1) tb_ok Tryz.func133 rfl (Eq.mpr (by kernel_rfl) hv)
theorem zqm {x n locks Q h} (hv:zze Tryz.prog x n locks Q h):CallT Tryz.prog zrm [(sh_api_Ins).enc x,(shInt .i64).enc n,(shInt .i64).enc locks] (shInt .i64) Q h:=
 zaa (C:=⟨Tryz.prog,tb,zwh1⟩) (A:=zwi1) tb_ok Tryz.func134 rfl (Eq.mpr (by kernel_rfl) hv)
theorem zky1 {x e Q h} (hv:zvc Tryz.prog x e Q h):CallT Tryz.prog zfg1 [(sh_api_Ins).enc x,(shInt .i64).enc e] (shInt .i64) Q h:=
 zaa (C:=⟨Tryz.prog,tb,ztg1⟩) (A:=zth1) tb_ok Tryz.func135 rfl (Eq.mpr (by kernel_rfl) hv)
theorem zgq {s f Q h} (hv:zea Tryz.prog s f Q h):CallT Tryz.prog ziy [(shSl).enc s,(shFn).enc f] (shInt .i64) Q h:=
 zaa (C:=⟨Tryz.prog,tb,zqu⟩) (A:=zqv) tb_ok Tryz.func136 rfl (Eq.mpr (by kernel_rfl) hv)
theorem zxc {p a1 Q h} (hv:zvd Tryz.prog p a1 Q h):CallT Tryz.prog zlm [(shInt .i64).enc p,.pointer (some a1)] (zae) Q h:=
 zaa (C:=⟨Tryz.prog,tb,zti1⟩) (A:=ztj1) tb_ok Tryz.func137 rfl (Eq.mpr (by kernel_rfl) hv)
theorem zfe {s Q h} (hv:zcd Tryz.prog s Q h):CallT Tryz.prog zdm [(shSl).enc s] (shSl) Q h:=
 zaa (C:=⟨Tryz.prog,tb,zpc⟩) (A:=zpd) tb_ok Tryz.func138 rfl (Eq.mpr (by kernel_rfl) hv)
theorem zkr {s Q h} (hv:zet Tryz.prog s Q h):CallT Tryz.prog zer [(shSl).enc s] (shSl) Q h:=
 zaa (C:=⟨Tryz.prog,tb,zmf⟩) (A:=zmg) tb_ok Tryz.func139 rfl (Eq.mpr (by kernel_rfl) hv)
theorem zma {s Q h} (hv:zfi Tryz.prog s Q h):CallT Tryz.prog zfh [(shSl).enc s] (shSl) Q h:=
 zaa (C:=⟨Tryz.prog,tb,znv⟩) (A:=znw) tb_ok Tryz.func140 rfl (Eq.mpr (by kernel_rfl) hv)
theorem zmn {l p Q h} (hv:zkm Tryz.prog l p Q h):Call2 Tryz.prog zfq [(shPtr).enc l,(shInt .i64).enc p] (shInt .i64) (zae) Q h:=
 show CallT Tryz.prog zfq [(shPtr).enc l,(shInt .i64).enc p] (shRes tb [3,4]) (fun r=>Q r.1 r.2) h from zaa (C:=⟨Tryz.prog,tb,zdt1⟩) (A:=zdu1) tb_ok Tryz.func141 rfl (Eq.mpr (by kernel_rfl) hv)
theorem zty1 {room s Q h} (hv:zhl1 Tryz.prog room s Q h):Call2 Tryz.prog zhd1 [(shInt .i64).enc room,(sh_api_Lane).enc s] (shPtr) (shInt .i64) Q h:=
 show CallT Tryz.prog zhd1 [(shInt .i64).enc room,(sh_api_Lane).enc s] (shRes tb [200,36]) (fun r=>Q r.1 r.2) h from zaa (C:=⟨Tryz.prog,tb,zfb2⟩) (A:=zfc2) tb_ok Tryz.func142 rfl (Eq.mpr (by kernel_rfl) hv)
theorem zct {w id_ Q h} (hv:zgd Tryz.prog w id_ Q h):CallT Tryz.prog zby [(shPtr).enc w,(shInt .i64).enc id_] (zae) Q h:=
 zaa (C:=⟨Tryz.prog,tb,zdv1⟩) (A:=zdw1) tb_ok Tryz.func143 rfl (Eq.mpr (by kernel_rfl) hv)
theorem zch {x target cmp Q h} (hv:zan Tryz.prog x target cmp Q h):Call2 Tryz.prog zah [(shSl).enc x,(sh_wheel_entry).enc target,(shFn).enc cmp] (shInt .i64) (zae) Q h:=
 show CallT Tryz.prog zah [(shSl).enc x,(sh_wheel_entry).enc target,(shFn).enc cmp] (shRes tb [3,4]) (fun r=>Q r.1 r.2) h from zaa (C:=⟨Tryz.prog,tb,zco⟩) (A:=zcp) tb_ok Tryz.func144 rfl (Eq.mpr (by kernel_rfl) hv)
theorem zxd {a b Q h} (hv:zve Tryz.prog a b Q h):CallT Tryz.prog zln [(sh_wheel_entry).enc a,(sh_wheel_entry).enc b] (shInt .i64) Q h:=
 zaa (C:=⟨Tryz.prog,tb,ztk1⟩) (A:=ztl1) tb_ok Tryz.func145 rfl (Eq.mpr (by kernel_rfl) hv)
theorem zgr {s i v Q h} (hv:zdd Tryz.prog s i v Q h):CallT Tryz.prog zbm [(shSl).enc s,(shInt .i64).enc i,(shSl).enc v] (shSl) Q h:=
 zaa (C:=⟨Tryz.prog,tb,zie⟩) (A:=zif) tb_ok Tryz.func146 rfl (Eq.mpr (by kernel_rfl) hv)
theorem zfv1 {x y Q h} (hv:zzf Tryz.prog x y Q h):Call2 Tryz.prog zpr [(shInt .u64).enc x,(shInt .u64).enc y] (shInt .u64) (shInt .u64) Q h:=
 show CallT Tryz.prog zpr [(shInt .u64).enc x,(shInt .u64).enc y] (shRes tb [239,239]) (fun r=>Q r.1 r.2) h from zaa (C:=⟨Tryz.prog,tb,znf1⟩) (A:=zng1) tb_ok Tryz.func147 rfl (Eq.mpr (by kernel_rfl) hv)
theorem zrb {op Q h} (hv:zge Tryz.prog op Q h):Call4 Tryz.prog zfr [(shInt .i64).enc op] (zae) (zae) (zae) (zae) Q h:=
 show CallT Tryz.prog zfr [(shInt .i64).enc op] (shRes tb [4,4,4,4]) (fun r=>Q r.1 r.2.1 r.2.2.1 r.2.2.2) h from zaa (C:=⟨Tryz.prog,tb,zwa⟩) (A:=zwb) tb_ok Tryz.func148 rfl (Eq.mpr (by kernel_rfl) hv)
theorem zdp {n has Q h} (hv:zem Tryz.prog n has Q h):CallT Tryz.prog zcx [(shInt .i64).enc n,(zae).enc has] (shInt .i64) Q h:=
 zaa (C:=⟨Tryz.prog,tb,zsc⟩) (A:=zsd) tb_ok Tryz.func149 rfl (Eq.mpr (by kernel_rfl) hv)
theorem zmb {state Q h} (hv:zqb Tryz.prog state Q h):CallT Tryz.prog zlo [(shInt .i64).enc state] (zae) Q h:=
 zaa (C:=⟨Tryz.prog,tb,znh1⟩) (A:=zni1) tb_ok Tryz.func150 rfl (Eq.mpr (by kernel_rfl) hv)
theorem zjt {p n Q h} (hv:znd Tryz.prog p n Q h):CallT Tryz.prog zip [(shPtr).enc p,(shInt .i64).enc n] (zae) Q h:=
 zaa (C:=⟨Tryz.prog,tb,zig1⟩) (A:=zih1) tb_ok Tryz.func151 rfl (Eq.mpr (by kernel_rfl) hv)
theorem zfw1 {l v Q h} (hv:zqc Tryz.prog l v Q h):CallT Tryz.prog zyy [(shPtr).enc l,(shInt .i64).enc v] (shInt .i64) Q h:=
 zaa (C:=⟨Tryz.prog,tb,znj1⟩) (A:=znk1) tb_ok Tryz.func152 rfl (Eq.mpr (by kernel_rfl) hv)
theorem zej1 {l Q h} (hv:zoh Tryz.prog l Q h):Call0 Tryz.prog zob [(shPtr).enc l] (Q) h:=
 show CallT Tryz.prog zob [(shPtr).enc l] (shRes tb []) (fun _=>Q) h from zaa (C:=⟨Tryz.prog,tb,zkj1⟩) (A:=zkk1) tb_ok Tryz.func153 rfl (Eq.mpr (by kernel_rfl) hv)
theorem zbs1 {p proc Q h} (hv:zne Tryz.prog p proc Q h):CallT Tryz.prog zmv [(shPtr).enc p,(shInt .i64).enc proc] (zae) Q h:=
 zaa (C:=⟨Tryz.prog,tb,zii1⟩) (A:=zij1) tb_ok Tryz.func154 rfl (Eq.mpr (by kernel_rfl) hv)
theorem zbt1 {l p Q h} (hv:znf Tryz.prog l p Q h):CallT Tryz.prog ztk [(shPtr).enc l,(shInt .i64).enc p] (shSl) Q h:=
 zaa (C:=⟨Tryz.prog,tb,zik1⟩) (A:=zil1) tb_ok Tryz.func155 rfl (Eq.mpr (by kernel_rfl) hv)
theorem zeb {m who Q h} (hv:zgf Tryz.prog m who Q h):Call0 Tryz.prog zbf [(shPtr).enc m,(shInt .i64).enc who] (Q) h:=
 show CallT Tryz.prog zbf [(shPtr).enc m,(shInt .i64).enc who] (shRes tb []) (fun _=>Q) h from zaa (C:=⟨Tryz.prog,tb,zwc⟩) (A:=zwd) tb_ok Tryz.func156 rfl (Eq.mpr (by kernel_rfl) hv)
theorem zfx1 {p Q h} (hv:zqd Tryz.prog p Q h):CallT Tryz.prog zyz [(shPtr).enc p] (shSl) Q h:=
 zaa (C:=⟨Tryz.prog,tb,znl1⟩) (A:=znm1) tb_ok Tryz.func157 rfl (Eq.mpr (by kernel_rfl) hv)
theorem zar {m p reply Q h} (hv:zen Tryz.prog m p reply Q h):Call0 Tryz.prog zal [(shPtr).enc m,(shPtr).enc p,(shInt .i64).enc reply] (Q) h:=
 show CallT Tryz.prog zal [(shPtr).enc m,(shPtr).enc p,(shInt .i64).enc reply] (shRes tb []) (fun _=>Q) h from zaa (C:=⟨Tryz.prog,tb,zse⟩) (A:=zsf) tb_ok Tryz.func158 rfl (Eq.mpr (by kernel_rfl) hv)
theorem zbu1 {w now Q h} (hv:zit Tryz.prog w now Q h):CallT Tryz.prog ztl [(shPtr).enc w,(shInt .i64).enc now] (shSl) Q h:=
 zaa (C:=⟨Tryz.prog,tb,zim1⟩) (A:=zin1) tb_ok Tryz.func167 rfl (Eq.mpr (by kernel_rfl) hv)
theorem zeq {m p c Q h} (hv:zhj Tryz.prog m p c Q h):Call0 Tryz.prog zcs [(shPtr).enc m,(shPtr).enc p,(zad).enc c] (Q) h:=
 show CallT Tryz.prog zcs [(shPtr).enc m,(shPtr).enc p,(zad).enc c] (shRes tb []) (fun _=>Q) h from zaa (C:=⟨Tryz.prog,tb,zyc⟩) (A:=zyd) tb_ok Tryz.func168 rfl (Eq.mpr (by kernel_rfl) hv)
theorem zgj {c Q h} (hv:zhm1 Tryz.prog c Q h):CallT Tryz.prog zgv [(zad).enc c] (zad) Q h:=
 zaa (C:=⟨Tryz.prog,tb,zfd2⟩) (A:=zfe2) tb_ok Tryz.func169 rfl (Eq.mpr (by kernel_rfl) hv)
theorem ztz1 {c l tick self Q h} (hv:zhn1 Tryz.prog c l tick self Q h):Call2 Tryz.prog zhe1 [(zad).enc c,(shSl).enc l,(shInt .i64).enc tick,(shInt .i64).enc self] (zad) (zkf) Q h:=
 show CallT Tryz.prog zhe1 [(zad).enc c,(shSl).enc l,(shInt .i64).enc tick,(shInt .i64).enc self] (shRes tb [137,262]) (fun r=>Q r.1 r.2) h from zaa (C:=⟨Tryz.prog,tb,zff2⟩) (A:=zfg2) tb_ok Tryz.func170 rfl (Eq.mpr (by kernel_rfl) hv)
theorem zrc {m p to v Q h} (hv:zgg Tryz.prog m p to v Q h):Call0 Tryz.prog zfs [(shPtr).enc m,(shPtr).enc p,(shInt .i64).enc to,(shInt .i64).enc v] (Q) h:=
 show CallT Tryz.prog zfs [(shPtr).enc m,(shPtr).enc p,(shInt .i64).enc to,(shInt .i64).enc v] (shRes tb []) (fun _=>Q) h from zaa (C:=⟨Tryz.prog,tb,zwe⟩) (A:=zwf) tb_ok Tryz.func171 rfl (Eq.mpr (by kernel_rfl) hv)
theorem zjb {m p try_ Q h} (hv:zgh Tryz.prog m p try_ Q h):Call0 Tryz.prog zft [(shPtr).enc m,(shPtr).enc p,(zae).enc try_] (Q) h:=
 show CallT Tryz.prog zft [(shPtr).enc m,(shPtr).enc p,(zae).enc try_] (shRes tb []) (fun _=>Q) h from zaa (C:=⟨Tryz.prog,tb,zwg⟩) (A:=zwh) tb_ok Tryz.func172 rfl (Eq.mpr (by kernel_rfl) hv)
theorem zzq {l n p Q h} (hv:zlx Tryz.prog l n p Q h):Call2 Tryz.prog zhn [(shPtr).enc l,(shInt .i64).enc n,(shInt .i64).enc p] (zae) (shInt .i64) Q h:=
 show CallT Tryz.prog zhn [(shPtr).enc l,(shInt .i64).enc n,(shInt .i64).enc p] (shRes tb [4,36]) (fun r=>Q r.1 r.2) h from zaa (C:=⟨Tryz.prog,tb,zfo1⟩) (A:=zfp1) tb_ok Tryz.func173 rfl (Eq.mpr (by kernel_rfl) hv)
theorem zho {s v Q h} (hv:zeo Tryz.prog s v Q h):CallT Tryz.prog zcy [(shSl).enc s,(shInt .i64).enc v] (zae) Q h:=
 zaa (C:=⟨Tryz.prog,tb,zsg⟩) (A:=zsh) tb_ok Tryz.func174 rfl (Eq.mpr (by kernel_rfl) hv)
theorem zmo {l p Q h} (hv:zkn Tryz.prog l p Q h):CallT Tryz.prog zfu [(shPtr).enc l,(shInt .i64).enc p] (shSl) Q h:=
 zaa (C:=⟨Tryz.prog,tb,zdx1⟩) (A:=zdy1) tb_ok Tryz.func175 rfl (Eq.mpr (by kernel_rfl) hv)
theorem znx {l n p Q h} (hv:zly Tryz.prog l n p Q h):Call2 Tryz.prog zef [(shPtr).enc l,(shInt .i64).enc n,(shInt .i64).enc p] (shInt .i64) (shInt .i64) Q h:=
 show CallT Tryz.prog zef [(shPtr).enc l,(shInt .i64).enc n,(shInt .i64).enc p] (shRes tb [3,36]) (fun r=>Q r.1 r.2) h from zaa (C:=⟨Tryz.prog,tb,zfq1⟩) (A:=zfr1) tb_ok Tryz.func176 rfl (Eq.mpr (by kernel_rfl) hv)
theorem zty {n Q h} (hv:zrv Tryz.prog n Q h):CallT Tryz.prog znq [(shInt .i64).enc n] (shInt .i64) Q h:=
 zaa (C:=⟨Tryz.prog,tb,zpt1⟩) (A:=zpu1) tb_ok Tryz.func177 rfl (Eq.mpr (by kernel_rfl) hv)
theorem zss {x n locks Q h} (hv:zhk Tryz.prog x n locks Q h):CallT Tryz.prog zml [(sh_api_Ins).enc x,(shInt .i64).enc n,(shInt .i64).enc locks] (shInt .i64) Q h:=
 zaa (C:=⟨Tryz.prog,tb,zye⟩) (A:=zyf) tb_ok Tryz.func179 rfl (Eq.mpr (by kernel_rfl) hv)
theorem znx1 {x n locks Q h} (hv:zzg Tryz.prog x n locks Q h):Call2 Tryz.prog zza [(sh_api_Ins).enc x,(shInt .i64).enc n,(shInt .i64).enc locks] (shInt .i64) (shInt .i64) Q h:=
 show CallT Tryz.prog zza [(sh_api_Ins).enc x,(shInt .i64).enc n,(shInt .i64).enc locks] (shRes tb [36,3]) (fun r=>Q r.1 r.2) h from zaa (C:=⟨Tryz.prog,tb,zwj1⟩) (A:=zwk1) tb_ok Tryz.func180 rfl (Eq.mpr (by kernel_rfl) hv)
theorem zxe {op Q h} (hv:zvf Tryz.prog op Q h):Call4 Tryz.prog zoz [(shInt .i64).enc op] (zae) (zae) (zae) (zae) Q h:=
 show CallT Tryz.prog zoz [(shInt .i64).enc op] (shRes tb [4,4,4,4]) (fun r=>Q r.1 r.2.1 r.2.2.1 r.2.2.2) h from zaa (C:=⟨Tryz.prog,tb,ztm1⟩) (A:=ztn1) tb_ok Tryz.func181 rfl (Eq.mpr (by kernel_rfl) hv)
theorem zua1 {room Q h} (hv:zho1 Tryz.prog room Q h):Call2 Tryz.prog zhf1 [(shInt .i64).enc room] (shPtr) (shInt .i64) Q h:=
 show CallT Tryz.prog zhf1 [(shInt .i64).enc room] (shRes tb [200,36]) (fun r=>Q r.1 r.2) h from zaa (C:=⟨Tryz.prog,tb,zfh2⟩) (A:=zfi2) tb_ok Tryz.func182 rfl (Eq.mpr (by kernel_rfl) hv)
theorem zon {n from_ to Q h} (hv:zpb Tryz.prog n from_ to Q h):CallT Tryz.prog zpa [(shInt .i64).enc n,(shInt .i64).enc from_,(shInt .i64).enc to] (zae) Q h:=
 zaa (C:=⟨Tryz.prog,tb,zto1⟩) (A:=ztp1) tb_ok Tryz.func183 rfl (Eq.mpr (by kernel_rfl) hv)
theorem zny1 {l Q h} (hv:zzh Tryz.prog l Q h):CallT Tryz.prog zjs1 [(shSl).enc l] (zae) Q h:=
 zaa (C:=⟨Tryz.prog,tb,zwl1⟩) (A:=zwm1) tb_ok Tryz.func184 rfl (Eq.mpr (by kernel_rfl) hv)
theorem zgs {s i j Q h} (hv:zde Tryz.prog s i j Q h):CallT Tryz.prog zdc [(shSl).enc s,(shInt .i64).enc i,(shInt .i64).enc j] (shSl) Q h:=
 zaa (C:=⟨Tryz.prog,tb,zig⟩) (A:=zih) tb_ok Tryz.func185 rfl (Eq.mpr (by kernel_rfl) hv)
theorem znz1 {vals Q h} (hv:zzi Tryz.prog vals Q h):CallT Tryz.prog zjt1 [(shSl).enc vals] (shInt .i64) Q h:=
 zaa (C:=⟨Tryz.prog,tb,zwn1⟩) (A:=zwo1) tb_ok Tryz.func186 rfl (Eq.mpr (by kernel_rfl) hv)
theorem zyn {x y Q h} (hv:zko Tryz.prog x y Q h):CallT Tryz.prog zps [(shInt .i64).enc x,(shInt .i64).enc y] (shInt .i64) Q h:=
 zaa (C:=⟨Tryz.prog,tb,zdz1⟩) (A:=zea1) tb_ok Tryz.func187 rfl (Eq.mpr (by kernel_rfl) hv)
theorem zbv1 {x y Q h} (hv:zng Tryz.prog x y Q h):CallT Tryz.prog ztm [(shInt .i64).enc x,(shInt .i64).enc y] (shInt .i64) Q h:=
 zaa (C:=⟨Tryz.prog,tb,zio1⟩) (A:=zip1) tb_ok Tryz.func188 rfl (Eq.mpr (by kernel_rfl) hv)
theorem zbw1 {x y Q h} (hv:znh Tryz.prog x y Q h):Call2 Tryz.prog zmw [(shInt .u64).enc x,(shInt .u64).enc y] (shInt .u64) (shInt .u64) Q h:=
 show CallT Tryz.prog zmw [(shInt .u64).enc x,(shInt .u64).enc y] (shRes tb [28,28]) (fun r=>Q r.1 r.2) h from zaa (C:=⟨Tryz.prog,tb,ziq1⟩) (A:=zir1) tb_ok Tryz.func192 rfl (Eq.mpr (by kernel_rfl) hv)
theorem zqn {l Q h} (hv:zoi Tryz.prog l Q h):CallT Tryz.prog zoc [(shPtr).enc l] (zae) Q h:=
 zaa (C:=⟨Tryz.prog,tb,zkl1⟩) (A:=zkm1) tb_ok Tryz.func193 rfl (Eq.mpr (by kernel_rfl) hv)
theorem zck1 {n Q h} (hv:zdf1 Tryz.prog n Q h):CallT Tryz.prog zda1 [(shInt .i64).enc n] (shInt .i64) Q h:=
 zaa (C:=⟨Tryz.prog,tb,zzs1⟩) (A:=zzt1) tb_ok Tryz.func194 rfl (Eq.mpr (by kernel_rfl) hv)
theorem zbx1 {l p Q h} (hv:zni Tryz.prog l p Q h):CallT Tryz.prog ztn [(shPtr).enc l,(shInt .i64).enc p] (zae) Q h:=
 zaa (C:=⟨Tryz.prog,tb,zis1⟩) (A:=zit1) tb_ok Tryz.func195 rfl (Eq.mpr (by kernel_rfl) hv)
theorem zjz {s v Q h} (hv:zhl Tryz.prog s v Q h):CallT Tryz.prog zhb [(shSl).enc s,(shInt .i64).enc v] (shInt .i64) Q h:=
 zaa (C:=⟨Tryz.prog,tb,zyg⟩) (A:=zyh) tb_ok Tryz.func196 rfl (Eq.mpr (by kernel_rfl) hv)
theorem zrd {s i j Q h} (hv:zgi Tryz.prog s i j Q h):CallT Tryz.prog zlp [(shSl).enc s,(shInt .i64).enc i,(shInt .i64).enc j] (shSl) Q h:=
 zaa (C:=⟨Tryz.prog,tb,zwi⟩) (A:=zwj) tb_ok Tryz.func197 rfl (Eq.mpr (by kernel_rfl) hv)
theorem zfy1 {l Q h} (hv:zqe Tryz.prog l Q h):CallT Tryz.prog zzb [(shPtr).enc l] (shSl) Q h:=
 zaa (C:=⟨Tryz.prog,tb,znn1⟩) (A:=zno1) tb_ok Tryz.func198 rfl (Eq.mpr (by kernel_rfl) hv)
theorem zub1 {c code reply Q h} (hv:zhp1 Tryz.prog c code reply Q h):CallT Tryz.prog zrc1 [(zad).enc c,(shSl).enc code,(shInt .i64).enc reply] (zad) Q h:=
 zaa (C:=⟨Tryz.prog,tb,zfj2⟩) (A:=zfk2) tb_ok Tryz.func199 rfl (Eq.mpr (by kernel_rfl) hv)
theorem zek1 {c l Q h} (hv:zst1 Tryz.prog c l Q h):Call2 Tryz.prog zfh1 [(zad).enc c,(shSl).enc l] (sh_api_Ins) (zae) Q h:=
 show CallT Tryz.prog zfh1 [(zad).enc c,(shSl).enc l] (shRes tb [47,4]) (fun r=>Q r.1 r.2) h from zaa (C:=⟨Tryz.prog,tb,zmk2⟩) (A:=zml2) tb_ok Tryz.func202 rfl (Eq.mpr (by kernel_rfl) hv)
theorem zqc1 {x r Q h} (hv:zdg1 Tryz.prog x r Q h):Call3 Tryz.prog zdb1 [(sh_api_Ins).enc x,(zej).enc r] (zkf) (zae) (zae) Q h:=
 show CallT Tryz.prog zdb1 [(sh_api_Ins).enc x,(zej).enc r] (shRes tb [262,4,4]) (fun r=>Q r.1 r.2.1 r.2.2) h from zaa (C:=⟨Tryz.prog,tb,zzu1⟩) (A:=zzv1) tb_ok Tryz.func203 rfl (Eq.mpr (by kernel_rfl) hv)
theorem zcc {c reg v Q h} (hv:zrw Tryz.prog c reg v Q h):Call0 Tryz.prog zbu [(shPtr).enc c,(shInt .i64).enc reg,(shInt .i64).enc v] (Q) h:=
 show CallT Tryz.prog zbu [(shPtr).enc c,(shInt .i64).enc reg,(shInt .i64).enc v] (shRes tb []) (fun _=>Q) h from zaa (C:=⟨Tryz.prog,tb,zpv1⟩) (A:=zpw1) tb_ok Tryz.func204 rfl (Eq.mpr (by kernel_rfl) hv)
theorem zac2 {op b c Q h} (hv:zsu1 Tryz.prog op b c Q h):Call2 Tryz.prog zsr1 [(shInt .i64).enc op,(shInt .i64).enc b,(shInt .i64).enc c] (shInt .i64) (shInt .i64) Q h:=
 show CallT Tryz.prog zsr1 [(shInt .i64).enc op,(shInt .i64).enc b,(shInt .i64).enc c] (shRes tb [2,36]) (fun r=>Q r.1 r.2) h from zaa (C:=⟨Tryz.prog,tb,zmm2⟩) (A:=zmn2) tb_ok Tryz.func205 rfl (Eq.mpr (by kernel_rfl) hv)
theorem zad2 {op b c Q h} (hv:zsv1 Tryz.prog op b c Q h):Call2 Tryz.prog zss1 [(shInt .i64).enc op,(shInt .i64).enc b,(shInt .i64).enc c] (shInt .i64) (shInt .i64) Q h:=
 show CallT Tryz.prog zss1 [(shInt .i64).enc op,(shInt .i64).enc b,(shInt .i64).enc c] (shRes tb [2,36]) (fun r=>Q r.1 r.2) h from zaa (C:=⟨Tryz.prog,tb,zmo2⟩) (A:=zmp2) tb_ok Tryz.func206 rfl (Eq.mpr (by kernel_rfl) hv)
theorem zyo {t i j Q h} (hv:zkp Tryz.prog t i j Q h):CallT Tryz.prog zpt [(shPtr).enc t,(shInt .i64).enc i,(shInt .i64).enc j] (zae) Q h:=
 zaa (C:=⟨Tryz.prog,tb,zeb1⟩) (A:=zec1) tb_ok Tryz.func207 rfl (Eq.mpr (by kernel_rfl) hv)
theorem zqo {m p q v Q h} (hv:zfc Tryz.prog m p q v Q h):Call0 Tryz.prog zfa [(shPtr).enc m,(shPtr).enc p,(shPtr).enc q,(shInt .i64).enc v] (Q) h:=
 show CallT Tryz.prog zfa [(shPtr).enc m,(shPtr).enc p,(shPtr).enc q,(shInt .i64).enc v] (shRes tb []) (fun _=>Q) h from zaa (C:=⟨Tryz.prog,tb,ztv⟩) (A:=ztw) tb_ok Tryz.func208 rfl (Eq.mpr (by kernel_rfl) hv)
theorem zws {c code v from_ Q h} (hv:zhq1 Tryz.prog c code v from_ Q h):CallT Tryz.prog zaq1 [(zad).enc c,(shSl).enc code,(shInt .i64).enc v,(shInt .i64).enc from_] (zad) Q h:=
 zaa (C:=⟨Tryz.prog,tb,zfl2⟩) (A:=zfm2) tb_ok Tryz.func210 rfl (Eq.mpr (by kernel_rfl) hv)
theorem zmp {l n p Q h} (hv:zkq Tryz.prog l n p Q h):CallT Tryz.prog zki [(shPtr).enc l,(shInt .i64).enc n,(shInt .i64).enc p] (shInt .i64) Q h:=
 zaa (C:=⟨Tryz.prog,tb,zed1⟩) (A:=zee1) tb_ok Tryz.func211 rfl (Eq.mpr (by kernel_rfl) hv)
theorem zmc {has n Q h} (hv:zqf Tryz.prog has n Q h):CallT Tryz.prog zlq [(zae).enc has,(shInt .i64).enc n] (shInt .i64) Q h:=
 zaa (C:=⟨Tryz.prog,tb,znp1⟩) (A:=znq1) tb_ok Tryz.func212 rfl (Eq.mpr (by kernel_rfl) hv)
theorem zkz1 {x has n locks Q h} (hv:zvg Tryz.prog x has n locks Q h):CallT Tryz.prog zfi1 [(sh_api_Ins).enc x,(zae).enc has,(shInt .i64).enc n,(shInt .i64).enc locks] (shInt .i64) Q h:=
 zaa (C:=⟨Tryz.prog,tb,ztq1⟩) (A:=ztr1) tb_ok Tryz.func213 rfl (Eq.mpr (by kernel_rfl) hv)
theorem zla1 {op Q h} (hv:zvh Tryz.prog op Q h):CallT Tryz.prog zfj1 [(shInt .i64).enc op] (shStr) Q h:=
 zaa (C:=⟨Tryz.prog,tb,zts1⟩) (A:=ztt1) tb_ok Tryz.func214 rfl (Eq.mpr (by kernel_rfl) hv)
theorem zfz1 {field a1 Q h} (hv:zzj Tryz.prog field a1 Q h):CallT Tryz.prog zzc [(shStr).enc field,.pointer (some a1)] (zae) Q h:=
 zaa (C:=⟨Tryz.prog,tb,znr1⟩) (A:=zns1) tb_ok Tryz.func215 rfl (Eq.mpr (by kernel_rfl) hv)
theorem zov {x Q h} (hv:znj Tryz.prog x Q h):CallT Tryz.prog zmx [(shInt .i64).enc x] (zae) Q h:=
 zaa (C:=⟨Tryz.prog,tb,ziu1⟩) (A:=ziv1) tb_ok Tryz.func217 rfl (Eq.mpr (by kernel_rfl) hv)
theorem zro {x Q h} (hv:zqg Tryz.prog x Q h):CallT Tryz.prog zpu [(shInt .i64).enc x] (zae) Q h:=
 zaa (C:=⟨Tryz.prog,tb,znt1⟩) (A:=znu1) tb_ok Tryz.func218 rfl (Eq.mpr (by kernel_rfl) hv)
theorem zow {l p Q h} (hv:znk Tryz.prog l p Q h):CallT Tryz.prog zmy [(shPtr).enc l,(shInt .i64).enc p] (shInt .i64) Q h:=
 zaa (C:=⟨Tryz.prog,tb,ziw1⟩) (A:=zix1) tb_ok Tryz.func220 rfl (Eq.mpr (by kernel_rfl) hv)
theorem zhu {s i j Q h} (hv:zbo Tryz.prog s i j Q h):CallT Tryz.prog zdj [(shSl).enc s,(shInt .i64).enc i,(shInt .i64).enc j] (shSl) Q h:=
 zaa (C:=⟨Tryz.prog,tb,zjq⟩) (A:=zjr) tb_ok Tryz.func221 rfl (Eq.mpr (by kernel_rfl) hv)
theorem ztz {b c Q h} (hv:zrx Tryz.prog b c Q h):CallT Tryz.prog zrs [(shInt .i64).enc b,(shInt .i64).enc c] (shInt .i64) Q h:=
 zaa (C:=⟨Tryz.prog,tb,zpx1⟩) (A:=zpy1) tb_ok Tryz.func222 rfl (Eq.mpr (by kernel_rfl) hv)
theorem zuc1 {b c Q h} (hv:zre1 Tryz.prog b c Q h):CallT Tryz.prog zrd1 [(shInt .i64).enc b,(shInt .i64).enc c] (shInt .i64) Q h:=
 zaa (C:=⟨Tryz.prog,tb,zfn2⟩) (A:=zfo2) tb_ok Tryz.func223 rfl (Eq.mpr (by kernel_rfl) hv)
theorem zqd1 {b c Q h} (hv:zmt1 Tryz.prog b c Q h):CallT Tryz.prog zmp1 [(shInt .i64).enc b,(shInt .i64).enc c] (shInt .i64) Q h:=
 zaa (C:=⟨Tryz.prog,tb,zzw1⟩) (A:=zzx1) tb_ok Tryz.func224 rfl (Eq.mpr (by kernel_rfl) hv)
theorem zju1 {is Q h} (hv:zmu1 Tryz.prog is Q h):CallT Tryz.prog zmq1 [(zae).enc is] (shInt .i64) Q h:=
 zaa (C:=⟨Tryz.prog,tb,ziu2⟩) (A:=ziv2) tb_ok Tryz.func225 rfl (Eq.mpr (by kernel_rfl) hv)
theorem zcl1 {bits Q h} (hv:zdh1 Tryz.prog bits Q h):CallT Tryz.prog zdc1 [(shInt .i64).enc bits] (shFlt .f64) Q h:=
 zaa (C:=⟨Tryz.prog,tb,zzy1⟩) (A:=zzz1) tb_ok Tryz.func226 rfl (Eq.mpr (by kernel_rfl) hv)
theorem zmd {f Q h} (hv:zhr1 Tryz.prog f Q h):CallT Tryz.prog zph [(shFlt .f64).enc f] (shInt .i64) Q h:=
 zaa (C:=⟨Tryz.prog,tb,zfp2⟩) (A:=zfq2) tb_ok Tryz.func227 rfl (Eq.mpr (by kernel_rfl) hv)
theorem zqe1 {f Q h} (hv:zdi1 Tryz.prog f Q h):CallT Tryz.prog zmr1 [(shFlt .f64).enc f] (shInt .i64) Q h:=
 zaa (C:=⟨Tryz.prog,tb,zaa2⟩) (A:=zab2) tb_ok Tryz.func228 rfl (Eq.mpr (by kernel_rfl) hv)
theorem zqp {t i Q h} (hv:zoj Tryz.prog t i Q h):CallT Tryz.prog zoe [(shPtr).enc t,(shInt .i64).enc i] (zae) Q h:=
 zaa (C:=⟨Tryz.prog,tb,zkn1⟩) (A:=zko1) tb_ok Tryz.func229 rfl (Eq.mpr (by kernel_rfl) hv)
theorem zel1 {p lane proc v Q h} (hv:zok Tryz.prog p lane proc v Q h):CallT Tryz.prog zwy [(shPtr).enc p,(shInt .i64).enc lane,(shInt .i64).enc proc,(shInt .i64).enc v] (shInt .i64) Q h:=
 zaa (C:=⟨Tryz.prog,tb,zkp1⟩) (A:=zkq1) tb_ok Tryz.func230 rfl (Eq.mpr (by kernel_rfl) hv)
theorem zby1 {p Q h} (hv:ztq Tryz.prog p Q h):CallT Tryz.prog zto [(shPtr).enc p] (shFn) Q h:=
 zaa (C:=⟨Tryz.prog,tb,ziy1⟩) (A:=ziz1) tb_ok Tryz.func231 rfl (Eq.mpr (by kernel_rfl) hv)
theorem zga1 {l Q h} (hv:zqh Tryz.prog l Q h):CallT Tryz.prog zms1 [(shPtr).enc l] (shInt .i64) Q h:=
 zaa (C:=⟨Tryz.prog,tb,znv1⟩) (A:=znw1) tb_ok Tryz.func232 rfl (Eq.mpr (by kernel_rfl) hv)
theorem zem1 {l Q h} (hv:zol Tryz.prog l Q h):Call4 Tryz.prog zof [(shPtr).enc l] (shInt .i64) (sh_api_Waiter) (zae) (shInt .i64) Q h:=
 show CallT Tryz.prog zof [(shPtr).enc l] (shRes tb [2,191,4,36]) (fun r=>Q r.1 r.2.1 r.2.2.1 r.2.2.2) h from zaa (C:=⟨Tryz.prog,tb,zkr1⟩) (A:=zks1) tb_ok Tryz.func233 rfl (Eq.mpr (by kernel_rfl) hv)
theorem zgk {s f Q h} (hv:zbk Tryz.prog s f Q h):CallT Tryz.prog zcw [(shSl).enc s,(shFn).enc f] (shInt .i64) Q h:=
 zaa (C:=⟨Tryz.prog,tb,zhs⟩) (A:=zht) tb_ok Tryz.func236 rfl (Eq.mpr (by kernel_rfl) hv)
theorem zyp {w a1 Q h} (hv:zqi Tryz.prog w a1 Q h):CallT Tryz.prog zfv [(sh_api_Waiter).enc w,.pointer (some a1)] (zae) Q h:=
 zaa (C:=⟨Tryz.prog,tb,zef1⟩) (A:=zeg1) tb_ok Tryz.func237 rfl (Eq.mpr (by kernel_rfl) hv)
theorem zbz1 {p proc Q h} (hv:znl Tryz.prog p proc Q h):CallT Tryz.prog ztp [(shPtr).enc p,(shInt .i64).enc proc] (shInt .i64) Q h:=
 zaa (C:=⟨Tryz.prog,tb,zja1⟩) (A:=zjb1) tb_ok Tryz.func240 rfl (Eq.mpr (by kernel_rfl) hv)
theorem zen1 {l p v Q h} (hv:zom Tryz.prog l p v Q h):CallT Tryz.prog zwz [(shPtr).enc l,(shInt .i64).enc p,(shInt .i64).enc v] (shInt .i64) Q h:=
 zaa (C:=⟨Tryz.prog,tb,zkt1⟩) (A:=zku1) tb_ok Tryz.func241 rfl (Eq.mpr (by kernel_rfl) hv)
section
variable {V:Type}
def kidx (a:Int):List (Int×V)->Option (Nat×V)
  | []=>none
  | (k,v)::r=>if a=k then some (0,v) else (kidx a r).map fun p=>(p.1+1,p.2)
def kget (a:Int):List (Int×V)->Option V
  | []=>none
  | (k,v)::r=>if a=k then some v else kget a r
def kset (a:Int) (v:V):List (Int×V)->List (Int×V)
  | []=> [(a,v)]
  | (k,u)::r=>if a=k then (a,v)::r else (k,u)::kset a v r
def kdel (a:Int):List (Int×V)->List (Int×V)
  | []=> []
  | (k,u)::r=>if a=k then r else (k,u)::kdel a r
theorem zlf1 (a b:Int) (v:V):∀l:List (Int×V),kget a (kset b v l)=if a=b then some v else kget a l
  | []=>by simp [kset,kget]
  | (k,u)::r=>by
    simp only [kset]
    by_cases h:b=k
    · rw [if_pos h]
      subst h
      simp only [kget]
      split<;>rfl
    · rw [if_neg h]
      simp only [kget,zlf1 a b v r]
      grind
theorem zwp1 {a:Int}:∀ {l:List (Int×V)},a∉l.map (·.1)->kget a l=none
  | [],_=>rfl
  | (k,u)::r,h=>by
    simp only [List.map_cons,List.mem_cons,not_or] at h
    simp only [kget]
    rw [if_neg h.1]
    exact zwp1 h.2
theorem zcu2 (a b:Int):∀l:List (Int×V),(l.map (·.1)).Nodup->kget a (kdel b l)=if a=b then none else kget a l
  | [],_=>by simp [kdel,kget]
  | (k,u)::r,hn=>by
    simp only [List.map_cons,List.nodup_cons] at hn
    simp only [kdel]
    by_cases h:b=k
    · rw [if_pos h]
      subst h
      simp only [kget]
      by_cases h2:a=b
      · subst h2
        rw [if_pos rfl]
        exact zwp1 hn.1
      grind
    · rw [if_neg h]
      simp only [kget,zcu2 a b r hn.2]
      grind
theorem zwq1 (b:Int) (v:V):∀(l:List (Int×V)) (a:Int),a∈(kset b v l).map (·.1)↔a=b\/a∈l.map (·.1)
  | [],a=>by simp [kset]
  | (k,u)::r,a=>by
    simp only [kset]
    by_cases h:b=k
    · subst h
      simp
    · rw [if_neg h]
      simp only [List.map_cons,List.mem_cons,zwq1 b v r a]
      grind
theorem zrf1 (b:Int) (v:V):∀ {l:List (Int×V)},(l.map (·.1)).Nodup->((kset b v l).map (·.1)).Nodup
  | [],_=>by simp [kset]
  | (k,u)::r,hn=>by
    simp only [List.map_cons,List.nodup_cons] at hn
    simp only [kset]
    by_cases h:b=k
    · grind
    · rw [if_neg h]
      simp only [List.map_cons,List.nodup_cons]
      refine ⟨fun e=> ?_,zrf1 b v hn.2⟩
      rcases (zwq1 b v r k).1 e with e | e
      · exact h e.symm
      · exact hn.1 e
theorem zcv2 (b:Int):∀(l:List (Int×V)),(kdel b l).Sublist l
  | []=>.slnil
  | (k,u)::r=>by
    simp only [kdel]
    split
    · simp
    · exact .cons_cons _ (zcv2 b r)
theorem zfr2 (b:Int) {l:List (Int×V)} (h:(l.map (·.1)).Nodup):((kdel b l).map (·.1)).Nodup:=h.sublist ((zcv2 b l).map _)
theorem zwr1 {b:Int}:∀ {l:List (Int×V)},kget b l=none->kdel b l=l
  | [],_=>rfl
  | (k,u)::r,h=>by
    simp only [kget] at h
    simp only [kdel]
    split at h
    · cases h
    · rename_i e
      rw [if_neg e,zwr1 h]
theorem zud1 (a:Int):∀l:List (Int×V),kget a l=(kidx a l).map (·.2)
  | []=>rfl
  | (k,v)::r=>by
    simp only [kget,kidx]
    split
    · rfl
    · rw [zud1 a r]
      simp [Function.comp_def]
def MapKv (h:Hp) (m:Nat) (k:IntKind) (ev:V->Value) (kvs:List (Int×V)):Prop:=
  ∃(mes:List MapEntry) (ck:Nat),h m=some (.map mes.toArray ck)/\mes.map (fun e=>(e.key,e.val))=kvs.map fun p=>(Value.int k p.1,ev p.2)
variable {h:Hp} {m:Nat} {k:IntKind} {ev:V->Value} {kvs:List (Int×V)}
theorem zue1 (a:Int):∀(mes:List MapEntry) (kvs:List (Int×V)) (j:Nat),mes.map (fun e=>(e.key,e.val))=kvs.map (fun p=>(Value.int k p.1,ev p.2))->
    Instr.findNow (.int k) (.int k a) mes j=some ((kidx a kvs).map fun p=>(p.1+j,ev p.2))
  | [],[],j,_=>rfl
  | [],_::_,j,h=>by simp at h
  | _::_,[],j,h=>by simp at h
  | e::mes,(b,v)::r,j,h=>by
    simp only [List.map_cons,List.cons.injEq,Prod.mk.injEq] at h
    obtain ⟨⟨h1,h2⟩,h3⟩:=h
    simp only [Instr.findNow,h1,Instr.sameNow,if_true,kidx]
    by_cases hab:a=b
    · simp [hab,h2]
    · have hf:(a==b)=false:=by simpa using hab
      rw [hf,if_neg hab]
      simp only
      rw [zue1 a mes r (j+1) h3]
      cases kidx a r with
      | none=>rfl
      | some p=>simp;omega
theorem zar1 {kd:IntKind} {sh:Shape} {kvs:List (Int×sh.T)} {a:Int} {z:sh.T} {zero:Value} {K:sh.T->Bool->Prop} (hm:MapKv h m kd sh.enc kvs) (hz:sh.enc z=zero) (h0:kget a kvs=none->K z false)
    (h1:∀v,kget a kvs=some v->K v true):LookW none (.int kd) sh zero (some m) (.int kd a) h K:=by
  obtain ⟨mes,ck,e1,e2⟩:=hm
  have hf:=zue1 (ev:=sh.enc) a mes kvs 0 e2
  have hg:=zud1 a kvs
  cases hi:kidx a kvs with
  | none=>
    rw [hi] at hf hg
    exact ⟨z,false,⟨mes,.inr ⟨m,ck,rfl,e1⟩,.inl ⟨hf,hz,rfl⟩⟩,h0 hg⟩
  | some p=>
    rw [hi] at hf hg
    exact ⟨p.2,true,⟨mes,.inr ⟨m,ck,rfl,e1⟩,.inr ⟨_,hf,rfl⟩⟩,h1 p.2 hg⟩
theorem zws1 {a:Int} {v:V}:∀ {l:List (Int×V)},kidx a l=none->kset a v l=l++ [(a,v)]
  | [],_=>rfl
  | (k,u)::r,h=>by
    simp only [kidx] at h
    split at h
    · cases h
    · rename_i e
      simp only [kset]
      rw [if_neg e,zws1 (by simpa using h)]
      rfl
theorem zcw2 {a:Int} {v u:V} {ev:V->Value}:∀ {mes:List MapEntry} {l:List (Int×V)} {i:Nat},mes.map (fun e=>(e.key,e.val))=l.map (fun p=>(Value.int k p.1,ev p.2))->kidx a l=some (i,u)->
    (mes.modify i fun e=>{e with key:=.int k a,val:=ev v}).map (fun e=>(e.key,e.val))=(kset a v l).map fun p=>(Value.int k p.1,ev p.2)
  | _,[],_,_,h=>by simp [kidx] at h
  | [],_::_,_,h,_=>by simp at h
  | e::mes,(b,w)::r,i,h,hi=>by
    simp only [List.map_cons,List.cons.injEq] at h
    simp only [kidx] at hi
    simp only [kset]
    split at hi
    · grind
    · rename_i hab
      rw [if_neg hab]
      cases hr:kidx a r with
      | none=>rw [hr] at hi;simp at hi
      | some p=>
        rw [hr] at hi
        simp at hi
        obtain ⟨rfl,rfl⟩:=hi
        simp only [List.modify_succ_cons,List.map_cons,h.1]
        rw [zcw2 h.2 hr]
theorem zrg1 {a:Int} {u:V} {ev:V->Value}:∀ {mes:List MapEntry} {l:List (Int×V)} {i:Nat},mes.map (fun e=>(e.key,e.val))=l.map (fun p=>(Value.int k p.1,ev p.2))->kidx a l=some (i,u)->
    (mes.eraseIdx i).map (fun e=>(e.key,e.val))=(kdel a l).map fun p=>(Value.int k p.1,ev p.2)
  | _,[],_,_,h=>by simp [kidx] at h
  | [],_::_,_,h,_=>by simp at h
  | e::mes,(b,w)::r,i,h,hi=>by
    simp only [List.map_cons,List.cons.injEq] at h
    simp only [kidx] at hi
    simp only [kdel]
    split at hi
    · grind
    · rename_i hab
      rw [if_neg hab]
      cases hr:kidx a r with
      | none=>rw [hr] at hi;simp at hi
      | some p=>
        rw [hr] at hi
        simp at hi
        obtain ⟨rfl,rfl⟩:=hi
        simp only [List.eraseIdx_cons_succ,List.map_cons,h.1]
        rw [zrg1 h.2 hr]
theorem zzr {a:Int} {v:V} {K:Hp->Prop} (hm:MapKv h m k ev kvs) (hk:∀o,isCells o=false->MapKv (h.set m o) m k ev (kset a v kvs)->K (h.set m o)):zrq (.int k) (some m) (.int k a) (ev v) K h:=by
  obtain ⟨mes,ck,e1,e2⟩:=hm
  have hf:=zue1 (ev:=ev) a mes kvs 0 e2
  refine ⟨m,mes.toArray,ck,rfl,e1,?_⟩
  cases hi:kidx a kvs with
  | none=>
    rw [hi] at hf
    refine .inl ⟨hf,hk _ rfl ⟨mes++ [{key:=.int k a,val:=ev v,born:=ck}],ck+1,?_,?_⟩⟩
    · rw [zbw];simp
    · rw [zws1 hi];simp [e2]
  | some p=>
    rw [hi] at hf
    refine .inr ⟨p.1,ev p.2,hf,hk _ rfl ⟨mes.modify p.1 fun e=>{e with key:=.int k a,val:=ev v},ck,?_,zcw2 (u:=p.2) e2 hi⟩⟩
    rw [zbw];simp
theorem ziw2 {a:Int} {K:Hp->Prop} (hm:MapKv h m k ev kvs) (hk:∀o,isCells o=false->MapKv (h.set m o) m k ev (kdel a kvs)->K (h.set m o)):zlq1 (.int k) (some m) (.int k a) K h:=by
  obtain ⟨mes,ck,e1,e2⟩:=hm
  have hf:=zue1 (ev:=ev) a mes kvs 0 e2
  refine .inr ⟨m,mes.toArray,ck,rfl,e1,?_⟩
  cases hi:kidx a kvs with
  | none=>
    rw [hi] at hf
    refine .inl ⟨hf,hk _ rfl ⟨mes,ck,zbw,?_⟩⟩
    rw [zwr1 (by rw [zud1,hi];rfl)]
    exact e2
  | some p=>
    rw [hi] at hf
    refine .inr ⟨p.1,ev p.2,hf,hk _ rfl ⟨mes.eraseIdx p.1,ck,?_,zrg1 (u:=p.2) e2 hi⟩⟩
    rw [zbw];simp
end
abbrev eNum :Int->List Value:=fun x=> [.int .i64 x]
abbrev eW :zdi->List Value:=fun w=> [.int .i64 w.proc,.int .i64 w.value]
def toW (w:zdi):S_api_Waiter:=⟨w.proc,w.value⟩
section
variable {h0 k:Hp} {A B C:Asn}
theorem Has.f1 (o:Has h0 (A.star (B.star C)) k):∃h1,h0<=h1/\Has h1 A k/\∀A' k',Has h1 A' k'->Has h0 (A'.star (B.star C)) k':=by
 obtain ⟨h1,a,b,_,d⟩:=o.fst
 grind
theorem Has.f2 (o:Has h0 (A.star (B.star C)) k):∃h1,h0<=h1/\Has h1 B k/\∀B' k',Has h1 B' k'->Has h0 (A.star (B'.star C)) k':=by
 obtain ⟨h1,a,b,_,d⟩:=o.snd
 obtain ⟨h2,a2,b2,_,d2⟩:=b.fst
 exact ⟨h2,Hp.le_trans a a2,b2,fun B' k' o'=>d _ _ (d2 _ _ o')⟩
theorem Has.f3 (o:Has h0 (A.star (B.star C)) k):∃h1,h0<=h1/\Has h1 C k/\∀C' k',Has h1 C' k'->Has h0 (A.star (B.star C')) k':=by
 obtain ⟨h1,a,b,_,d⟩:=o.snd
 obtain ⟨h2,a2,b2,_,d2⟩:=b.snd
 exact ⟨h2,Hp.le_trans a a2,b2,fun B' k' o'=>d _ _ (d2 _ _ o')⟩
theorem zph2 {l:Option Addr} {sz c:Nat}:sbase l sz 0 c=l:=by
 unfold sbase
 split
 ·rfl
 ·cases l with
  | none=>rfl
  | some a=>obtain ⟨b,off,sp⟩:=a;simp [Addr.add]
theorem Has.shift {α:Type} {sz:Nat} {enc:α->List Value} {l:Sl} {a:α} {r:List α} {K:Int->Hp->Prop} (o:Has h0 (SlA sz enc l (a::r)) k) (henc:∀x,(enc x).length=sz) (hok:∀x,zax (enc x)=true)
  (hk:∀k',Has h0 (SlA sz enc ⟨l.base,r.length,l.cap⟩ r) k'->K (r.length:Nat) k'):CopyW sz l ⟨sbase l.base sz 1 l.cap,l.len-1,l.cap-1⟩ K k:=by
 have hs:=o.slen
 have hc:=o.scap
 have hrt:=(o.cutTail henc (c:=l.cap) hc (Nat.le_refl _)).srw henc
 obtain ⟨hle,F,⟨h1,h2,h3⟩,hf⟩:=o
 have hlen:l.len=r.length+1:=by simpa using hs
 rcases h3 with ⟨e,ec,_⟩ | ⟨b,off,cs,e,hF,hbk,hl,ht⟩
 ·omega
 ·have hn:h0 b=none:=hf b ((hF b).2 rfl)
  have hm:r.length*sz<=l.cap*sz:=Nat.mul_le_mul_right sz (by omega)
  have e0:l=⟨some ⟨b,off,none⟩,l.len,l.cap⟩:=by cases l;simp at e;subst e;rfl
  have hrl:(r.flatMap enc).length=r.length*sz:=zaq henc r
  rw [show (CopyW sz l:Sl->_)=CopyW sz ⟨some ⟨b,off,none⟩,l.len,l.cap⟩ by rw [<-e0]]
  refine zpo (n:=r.length) (new:=r.flatMap enc) hbk (by show min (l.len-1) l.len=_;omega) hrt.2 (zcw1 hok r) (by omega) fun k' m hb'=>hk k' ⟨fun c ob ec=>m.keep c ob (hle c ob ec) (fun hc=>(by rw [List.mem_singleton.1 hc,hn] at ec;cases ec)),F,⟨rfl,by show r.length<=l.cap;omega,.inr ⟨b,off,_,e,hF,hb',?_,?_⟩⟩,hf⟩
  ·simp only [List.length_append,List.length_take,List.length_drop,hrl]
   show off+l.cap*sz<=_
   omega
  grind
theorem Rw.map {α β:Type} {sz:Nat} {enc:β->List Value} {f:α->β} {l:Sl} {xs:List α} (r:Rw k sz (fun x=>enc (f x)) l xs):Rw k sz enc l (xs.map f):=by
 obtain ⟨h1,h2⟩:=r
 refine ⟨by grind,?_⟩
 rw [List.length_map,List.flatMap_map]
 exact h2
theorem zcx2 {n:Int} (h:Cnt n):min2I (IntKind.wrap .i64 (n+(1:Int))) (65535:Int)=more n:=by
 rw [wrap64 (by have:=h.1;omega) (by have:=h.2;omega)]
 unfold min2I more
 omega
end
def LaneA (q:Addr) (room:Int) (l:PLane):Asn:=
 .some_ fun x:S_lane_Lane=>((RecA zia q x).star ((SlA 1 eNum x.values l.values).star (SlA 2 eW x.waiters l.waiters))).star (.fact (x.room=room/\x.taken=l.taken/\x.dropped=l.dropped))
section
variable {h0 k:Hp} {q:Addr} {room:Int} {l:PLane}
theorem Has.laneX (o:Has h0 (LaneA q room l) k):∃x:S_lane_Lane,x.room=room/\x.taken=l.taken/\x.dropped=l.dropped/\Has h0 ((RecA zia q x).star ((SlA 1 eNum x.values l.values).star (SlA 2 eW x.waiters l.waiters))) k:=by
 obtain ⟨x,o⟩:=Has.ex.1 o
 obtain ⟨o,e1,e2,e3⟩:=o.noFact
 grind
theorem Has.ofLane {x:S_lane_Lane} (o:Has h0 ((RecA zia q x).star ((SlA 1 eNum x.values l.values).star (SlA 2 eW x.waiters l.waiters))) k) (e1:x.room=room) (e2:x.taken=l.taken) (e3:x.dropped=l.dropped):Has h0 (LaneA q room l) k:=
 Has.ex.2 ⟨x,o.withFact ⟨e1,e2,e3⟩⟩
theorem zsj2 {Q:Int->Hp->Prop} (o:Has h0 (LaneA q room l) k) (hq:Q (l.values.length:Int) k):zqh Tryz.prog (some q) Q k:=by
 obtain ⟨x,_,_,_,o⟩:=o.laneX
 unfold zqh
 refine zab (o.left.ld (shf:=shSl) x.values rfl ?_)
 rw [o.right.left.slen]
 exact hq
theorem zix2 {Q:Bool->Hp->Prop} (o:Has h0 (LaneA q room l) k) (hq:Q (decide (room<=(l.values.length:Int))) k):zoi Tryz.prog (some q) Q k:=by
 obtain ⟨x,e1,_,_,o⟩:=o.laneX
 unfold zoi
 refine zab (o.left.ld (shf:=shSl) x.values rfl ?_)
 refine zab (o.left.ld (shf:=shInt .i64) x.room rfl ?_)
 rw [o.right.left.slen,e1]
 exact hq
theorem zpz2 {v:Int} {Q:Int->Hp->Prop} (o:Has h0 (LaneA q room l) k) (hr:room<=64) (hf:room<=(l.values.length:Int)->Q 19 k) (hq:∀k',¬room<=(l.values.length:Int)->Has h0 (LaneA q room (inL v l)) k'->Q 0 k'):zqc Tryz.prog (some q) v Q k:=by
 unfold zqc
 refine zqn (zix2 o ?_)
 by_cases hfull:room<=(l.values.length:Int)
 ·grind
 ·rw [if_neg (fun h=>hfull (of_decide_eq_true h))]
  obtain ⟨x,e1,e2,e3,o⟩:=o.laneX
  refine zab (o.left.ld (shf:=shSl) x.values rfl ?_)
  obtain ⟨h1,_,o1,put⟩:=o.f2
  refine o1.push rfl (fun _=>rfl) (fun _=>rfl) rfl ⟨by omega,by omega⟩ fun l' k1 o2=> ?_
  have o:=put _ _ o2
  obtain ⟨h2,_,o3,put⟩:=o.f1
  refine zab (o3.st {x with values:=l'} (show (2:Nat)<=5 by decide) rfl fun k2 o4=> ?_)
  exact hq k2 hfull (Has.ofLane (x:={x with values:=l'}) (put _ _ o4) e1 e2 e3)
theorem zmq2 {Q:Hp->Prop} (o:Has h0 (LaneA q room l) k) (hc:Cnt l.dropped) (hq:∀k',Has h0 (LaneA q room (missL l)) k'->Q k'):zoh Tryz.prog (some q) Q k:=by
 obtain ⟨x,e1,e2,e3,o⟩:=o.laneX
 unfold zoh
 refine zab (o.left.ld (shf:=shInt .i64) x.dropped rfl ?_)
 refine zck1 ?_
 unfold zdf1
 rw [e3,zcx2 hc]
 obtain ⟨h2,_,o3,put⟩:=o.f1
 refine zab (o3.st {x with dropped:=more l.dropped} (show (5:Nat)<=5 by decide) rfl fun k2 o4=> ?_)
 exact hq k2 (Has.ofLane (x:={x with dropped:=more l.dropped}) (put _ _ o4) e1 e2 rfl)
theorem zmr2 {Q:Int->S_api_Waiter->Bool->Int->Hp->Prop} (o:Has h0 (LaneA q room l) k) (hc:Cnt l.taken) (hl:l.values.length<=64) (h1:l.values=[]->Q 0 ⟨0,0⟩ false 21 k)
  (h2:∀v vs k',l.values=v::vs->l.waiters=[]->Has h0 (LaneA q room (tookL l)) k'->Q v ⟨0,0⟩ false 0 k')
  (h3:∀v vs w ws k',l.values=v::vs->l.waiters=w::ws->Has h0 (LaneA q room (tookL l)) k'->Q v (toW w) true 0 k'):zol Tryz.prog (some q) Q k:=by
 obtain ⟨x,e1,e2,e3,o⟩:=o.laneX
 unfold zol
 have hvl:=o.right.left.slen
 refine zab (o.left.ld (shf:=shSl) x.values rfl ?_)
 cases hv:l.values with
 | nil=>
  grind
 | cons v vs=>
  rw [hv] at o hvl hl
  have hvl:x.values.len=vs.length+1:=by simpa using hvl
  rw [if_neg (show ¬((x.values.len:Int)==0)=true by simp;omega)]
  refine zab (o.left.ld (shf:=shSl) x.values rfl ?_)
  have rv:Rs k (shInt .i64) 1 x.values (v::vs):=o.right.left.srw (fun _=>rfl)
  refine rv.get (fun _=>rfl) (by omega) (by omega) (by simp) fun (y:Int) hy=> ?_
  have hy:y=v:=by grind
  subst hy
  refine zab (o.left.ld (shf:=shSl) x.values rfl ?_)
  refine zab (o.left.ld (shf:=shSl) x.values rfl ?_)
  refine ⟨by omega,letW ?_⟩
  obtain ⟨hh,_,o1,put⟩:=o.f2
  refine o1.shift (fun _=>rfl) (fun _=>rfl) fun k1 o2=> ?_
  have o:=put _ _ o2
  have hcap:=o2.scap
  refine zab (o.left.ld (shf:=shSl) x.values rfl ?_)
  have hcap:vs.length<=x.values.cap:=hcap
  refine ⟨by omega,letW ?_⟩
  rw [zph2,Int.toNat_natCast,Nat.sub_zero,Nat.sub_zero]
  obtain ⟨hh,_,o3,put⟩:=o.f1
  refine zab (o3.st {x with values:=⟨x.values.base,vs.length,x.values.cap⟩} (show (2:Nat)<=5 by decide) rfl fun k2 o4=> ?_)
  have o:=put _ _ o4
  refine zab (o.left.ld (shf:=shInt .i64) x.taken rfl ?_)
  refine zck1 ?_
  unfold zdf1
  rw [e2,zcx2 hc]
  obtain ⟨hh,_,o5,put⟩:=o.f1
  refine zab (o5.st {x with values:=⟨x.values.base,vs.length,x.values.cap⟩,taken:=more l.taken} (show (4:Nat)<=5 by decide) rfl fun k3 o6=> ?_)
  have o:=put _ _ o6
  refine zab (o.left.ld (shf:=shSl) x.waiters rfl ?_)
  have hwl:=o.right.right.slen
  cases hw:l.waiters with
  | nil=>
   rw [hw] at hwl
   rw [if_neg (show ¬(decide ((x.waiters.len:Int)>0))=true by simp at hwl;simp [hwl])]
   refine h2 y vs k3 hv hw (Has.ofLane (x:={x with values:=⟨x.values.base,vs.length,x.values.cap⟩,taken:=more l.taken}) ?_ e1 (by unfold tookL;rw [hw]) (by unfold tookL;rw [hw];exact e3))
   have:tookL l={l with values:=vs,taken:=more l.taken}:=by unfold tookL;rw [hw,hv];rfl
   grind
  | cons w ws=>
   rw [hw] at hwl o
   have hwl:x.waiters.len=ws.length+1:=by simpa using hwl
   rw [if_pos (decide_eq_true (show (x.waiters.len:Int)>0 by omega))]
   refine zab (o.left.ld (shf:=shSl) x.waiters rfl ?_)
   have rw_:Rs k3 sh_api_Waiter 2 x.waiters ((w::ws).map toW):=(o.right.right.srw (fun _=>rfl)).map (enc:=fun x=>zac (sh_api_Waiter.enc x))
   refine rw_.get (fun _=>rfl) (by omega) (by omega) (by simp) fun (y2:S_api_Waiter) hy2=> ?_
   have hy2:y2=toW w:=by simpa using hy2.symm
   subst hy2
   refine zab (o.left.ld (shf:=shSl) x.waiters rfl ?_)
   refine zab (o.left.ld (shf:=shSl) x.waiters rfl ?_)
   refine zab (o.left.ld (shf:=shSl) x.waiters rfl ?_)
   have hwc:=o.right.right.scap
   refine ⟨by omega,letW ?_⟩
   rw [Int.toNat_natCast]
   obtain ⟨hh,_,o7,put⟩:=o.f3
   have o8:=o7.cutTail (fun _=>rfl) (c:=x.waiters.len) (Nat.le_refl _) hwc
   have o:=put _ _ o8
   obtain ⟨hh,_,o9,put⟩:=o.f1
   refine zab (o9.st {x with values:=⟨x.values.base,vs.length,x.values.cap⟩,taken:=more l.taken,waiters:=⟨sbase x.waiters.base 2 1 x.waiters.len,x.waiters.len-1,x.waiters.len-1⟩} (show (3:Nat)<=5 by decide) rfl fun k4 o10=> ?_)
   have o:=put _ _ o10
   refine zab (o.left.ld (shf:=shSl) ⟨x.values.base,vs.length,x.values.cap⟩ rfl ?_)
   refine newSl (xs:=[w.value]) (sz:=1) (enc:=eNum) rfl (fun _=>rfl) fun a k5 hl5 n5=> ?_
   have o:=o.grow hl5
   refine ⟨⟨?_,trivial⟩,?_⟩
   ·exact (Has.left o).ldis (n:=1) rfl
   obtain ⟨hh,_,o11,put⟩:=o.f2
   refine o11.app (n5.srw (fun _=>rfl)) (fun _=>rfl) (fun _=>rfl) rfl ⟨by simp at hl ⊢;omega,by simp at hl ⊢;omega⟩ fun l' k6 o12=> ?_
   have o:=put _ _ o12
   obtain ⟨hh,_,o13,put⟩:=o.f1
   refine zab (o13.st {x with values:=l',taken:=more l.taken,waiters:=⟨sbase x.waiters.base 2 1 x.waiters.len,x.waiters.len-1,x.waiters.len-1⟩} (show (2:Nat)<=5 by decide) rfl fun k7 o14=> ?_)
   refine h3 y vs w ws k7 hv hw (Has.ofLane (x:={x with values:=l',taken:=more l.taken,waiters:=⟨sbase x.waiters.base 2 1 x.waiters.len,x.waiters.len-1,x.waiters.len-1⟩}) ?_ e1 (by unfold tookL;rw [hw]) (by unfold tookL;rw [hw];exact e3))
   have:tookL l={values:=vs++ [w.value],waiters:=ws,taken:=more l.taken,dropped:=l.dropped}:=by unfold tookL;rw [hw,hv];rfl
   grind
end
theorem cV {P:Program} {g:FuncId} {first captured:Array Value} {args:List Value} {sh:Shape} {K:sh.T->Hp->Prop} {h:Hp} (hg:tb.call g=true) (hc:CallT P g (first.toList++args++captured.toList) sh K h):CallV P tb (.func (.func g) first captured) args sh K h:=
 ⟨g,first,captured,rfl,hg,hc⟩
def posW (p:Int) (ws:List zdi):Int:=posF (fun w=>decide (w.proc=p)) ws
def posI (v:Int) (xs:List Int):Int:=posF (fun z=>decide (z=v)) xs
theorem ziy2 {k:Hp} {s:Sl} {ws:List zdi} {a:Addr} {p:Int} {Q:Int->Hp->Prop} (r:Rw k 2 eW s ws) (hl:ws.length<=1000000) (ha:LdIs k a [.int .i64 p]) (hq:Q (posW p ws) k):
  zbk Tryz.prog s ⟨zfv, #[], #[.pointer (some a)]⟩ Q k:=by
 unfold zbk
 have hlen:=r.1
 have r:Rs k sh_api_Waiter 2 s (ws.map toW):=r.map (enc:=fun x=>zac (sh_api_Waiter.enc x))
 refine LoopW1.intro (fun i k'=>k'=k/\0<=i/\i<=(ws.length:Int)/\∀(j:Nat) y,j<i.toNat->ws[j]? =some y->decide (y.proc=p)=false) (fun i _=>(ws.length-i).toNat) ⟨rfl,by omega,by omega,fun j y hj=>by simp at hj⟩ ?_
 rintro i _ ⟨rfl,i0,i1,hall⟩
 by_cases h3:i<(ws.length:Int)
 ·rw [if_pos (decide_eq_true (by omega))]
  refine r.get (fun _=>rfl) (by omega) i0 (by grind) fun (x:S_api_Waiter) hx=> ?_
  rw [List.getElem?_map] at hx
  cases hw:ws[i.toNat]? with
  | none=>grind
  | some w=>
   rw [hw] at hx
   have hx:x=toW w:=by grind
   subst hx
   refine cV (g:=zfv) rfl (zyp ?_)
   unfold zqi
   refine ld_at (sh:=shInt .i64) p ha ?_
   dsimp only
   by_cases e:w.proc=p
   ·rw [if_pos (show ((toW w).Proc==p)=true by unfold toW;simp [e])]
    have:posW p ws=i:=by
     have:=zit2 (f:=fun w=>decide (w.proc=p)) hw (by simp [e]) hall
     unfold posW
     rw [this]
     omega
    grind
   ·rw [if_neg (show ¬((toW w).Proc==p)=true by unfold toW;simp [e]),wrap64 (by omega) (by omega)]
    grind
 ·rw [if_neg (fun e=>h3 (by have:=of_decide_eq_true e;omega))]
  have:posW p ws= -1:=zfe1 fun w hw=>by
   obtain ⟨j,hj⟩:=List.getElem?_of_mem hw
   have:=(List.getElem?_eq_some_iff.1 hj).1
   exact hall j w (by omega) hj
  rw [this] at hq
  exact hq
theorem zwt1 {k:Hp} {s:Sl} {xs:List Int} {v:Int} {Q:Int->Hp->Prop} (r:Rw k 1 eNum s xs) (hl:xs.length<=1000000) (hq:Q (posI v xs) k):zhl Tryz.prog s v Q k:=by
 unfold zhl
 have hlen:=r.1
 have r:Rs k (shInt .i64) 1 s xs:=r
 refine LoopW1.intro (fun i k'=>k'=k/\0<=i/\i<=(xs.length:Int)/\∀(j:Nat) y,j<i.toNat->xs[j]? =some y->decide (y=v)=false) (fun i _=>(xs.length-i).toNat) ⟨rfl,by omega,by omega,fun j y hj=>by simp at hj⟩ ?_
 rintro i _ ⟨rfl,i0,i1,hall⟩
 by_cases h3:i<(xs.length:Int)
 ·rw [if_pos (decide_eq_true (by omega))]
  refine r.get (fun _=>rfl) (by omega) i0 h3 fun (x:Int) hx=> ?_
  by_cases e:x=v
  ·rw [if_pos (show (v==x)=true by simp [e])]
   have:posI v xs=i:=by
    have:=zit2 (f:=fun z=>decide (z=v)) hx (by simp [e]) hall
    unfold posI
    rw [this]
    omega
   grind
  ·rw [if_neg (show ¬(v==x)=true by simp;exact fun h=>e h.symm),wrap64 (by omega) (by omega)]
   grind
 ·rw [if_neg (fun e=>h3 (by have:=of_decide_eq_true e;omega))]
  have:posI v xs= -1:=zfe1 fun w hw=>by
   obtain ⟨j,hj⟩:=List.getElem?_of_mem hw
   have:=(List.getElem?_eq_some_iff.1 hj).1
   exact hall j w (by omega) hj
  rw [this] at hq
  exact hq
theorem zms2 {α:Type} {f:α->Bool} {xs:List α}:0<=posF f xs↔∃x∈xs,f x=true:=by
 constructor
 ·intro h
  refine Classical.byContradiction fun hn=> ?_
  rw [zfe1 fun x hx=>by
   grind] at h
  omega
 ·rintro ⟨x,hx,hf⟩
  unfold posF
  grind
theorem zjv1 {k:Hp} {s:Sl} {xs:List Int} {v:Int} {Q:Bool->Hp->Prop} (r:Rw k 1 eNum s xs) (hl:xs.length<=1000000) (hq:Q (decide (v∈xs)) k):zeo Tryz.prog s v Q k:=by
 unfold zeo
 refine zjz (zwt1 r hl ?_)
 have:decide (posI v xs>=0)=decide (v∈xs):=by
  have:(posI v xs>=0)↔v∈xs:=(zms2 (f:=fun z=>decide (z=v))).trans ⟨fun ⟨x,hx,e⟩=>(of_decide_eq_true e)▸hx,fun h=>⟨v,h,(by simp)⟩⟩
  simp only [this]
 grind
section
variable {h0 k:Hp} {q:Addr} {room:Int} {l:PLane}
theorem zcy2 {p:Int} {Q:Int->Hp->Prop} (o:Has h0 (LaneA q room l) k) (hl:l.waiters.length<=1000000) (hq:∀k',Has h0 (LaneA q room l) k'->Q (posW p l.waiters) k'):znk Tryz.prog (some q) p Q k:=by
 unfold znk
 refine newSl (xs:=[p]) (sz:=1) (enc:=eNum) rfl (fun _=>rfl) fun a k1 hl1 n=> ?_
 have o:=o.grow hl1
 obtain ⟨x,_,_,_,o2⟩:=o.laneX
 refine zab (o2.left.ld (shf:=shSl) x.waiters rfl ?_)
 refine zgk (f:=⟨zfv, #[], #[.pointer (some a)]⟩) (ziy2 (p:=p) (o2.right.right.srw (fun _=>rfl)) hl ?_ (hq k1 o))
 obtain ⟨_,h⟩:=n.srw (fun _=>rfl)
 rcases h.2 with e | ⟨a',ha,hld⟩
 ·simp at e
 grind
theorem zmt2 {p v:Int} {Q:Int->Hp->Prop} (o:Has h0 (LaneA q room l) k) (hl:l.waiters.length<=100) (hf:room<=(l.values.length:Int)) (hn:∀w∈l.waiters,w.proc≠p) (hq:∀k',Has h0 (LaneA q room (waitL p v l)) k'->Q 0 k'):zom Tryz.prog (some q) p v Q k:=by
 unfold zom
 refine zqn (zix2 o ?_)
 rw [if_neg (by simp;exact hf)]
 refine zow (zcy2 o (by omega) fun k1 o=> ?_)
 have:posW p l.waiters= -1:=zfe1 fun w hw=>by simp [hn w hw]
 rw [this,if_neg (by decide)]
 obtain ⟨x,e1,e2,e3,o⟩:=o.laneX
 refine zab (o.left.ld (shf:=shSl) x.waiters rfl ?_)
 obtain ⟨h1,_,o1,put⟩:=o.f3
 refine o1.push (e:=⟨p,v⟩) rfl (fun _=>rfl) (fun _=>rfl) rfl ⟨by omega,by omega⟩ fun l' k2 o2=> ?_
 have o:=put _ _ o2
 obtain ⟨h2,_,o3,put⟩:=o.f1
 refine zab (o3.st {x with waiters:=l'} (show (3:Nat)<=5 by decide) rfl fun k3 o4=> ?_)
 exact hq k3 (Has.ofLane (x:={x with waiters:=l'}) (put _ _ o4) e1 e2 e3)
def zjw1 (p:Int) (l:PLane):PLane:={l with waiters:=zaf (fun w=>decide (w.proc=p)) l.waiters}
theorem ziz2 {p:Int} {Q:Bool->Hp->Prop} (o:Has h0 (LaneA q room l) k) (hl:l.waiters.length<=100) (hq:∀b k',Has h0 (LaneA q room (zjw1 p l)) k'->Q b k'):zni Tryz.prog (some q) p Q k:=by
 unfold zni
 refine zow (zcy2 o (by omega) fun k1 o=> ?_)
 have hd:=zyu (fun w:zdi=>decide (w.proc=p)) l.waiters
 by_cases hp:posW p l.waiters<0
 ·rw [if_pos (decide_eq_true hp)]
  refine hq false k1 ?_
  have:zjw1 p l=l:=by
   unfold zjw1
   rw [hd,if_neg (show ¬0<=posF (fun w:zdi=>decide (w.proc=p)) l.waiters by unfold posW at hp;omega)]
  rw [this];exact o
 ·rw [if_neg (fun h=>hp (of_decide_eq_true h))]
  have h0p:0<=posW p l.waiters:=by omega
  have hlt:posW p l.waiters<l.waiters.length:=zis2 h0p
  obtain ⟨x,e1,e2,e3,o⟩:=o.laneX
  refine zab (o.left.ld (shf:=shSl) x.waiters rfl ?_)
  obtain ⟨h1,_,o1,put⟩:=o.f3
  have hz:Tryz.prog.underlying 185=some (.slice 191):=tb_ok.und 185 ty185 rfl
  obtain ⟨n,hn⟩:∃n:Nat,posW p l.waiters=n:=⟨(posW p l.waiters).toNat,by omega⟩
  have hdel:∀(Q':Sl->Hp->Prop),(∀l' k',Has h1 (SlA 2 eW l' (l.waiters.take n++l.waiters.drop (n+1))) k'->Q' l' k')->zbo Tryz.prog x.waiters (n:Int) ((n+1:Nat):Int) Q' k1:=fun Q' hQ'=>by
   unfold zbo
   exact Has.sdel (bytes:=16) (z:=.agg #[.int .i64 0,.int .i64 0]) hz (fun hK=>zmm1 tb_ok (e:=ty191) rfl hK) (fun _=>rfl) (fun _=>rfl) rfl (fun m=>by induction m with
    | zero=>rfl
    | succ m ih=>exact ih) o1 (by omega) (by omega) ⟨by omega,by omega⟩ hQ'
  rw [hn,wrap64 (by omega) (by omega)]
  refine zhu (hdel _ fun l' k2 o2=> ?_)
  have o:=put _ _ o2
  obtain ⟨h2,_,o3,put⟩:=o.f1
  refine zab (o3.st {x with waiters:=l'} (show (3:Nat)<=5 by decide) rfl fun k3 o4=> ?_)
  refine hq true k3 (Has.ofLane (x:={x with waiters:=l'}) ?_ e1 e2 e3)
  have:(zjw1 p l).waiters=l.waiters.take n++l.waiters.drop (n+1):=by
   show zaf (fun w=>decide (w.proc=p)) l.waiters=_
   have hn':posF (fun w:zdi=>decide (w.proc=p)) l.waiters=n:=hn
   grind
  rw [this]
  exact put _ _ o4
def endL (l:PLane):PLane:={l with waiters:=[]}
theorem zqa2 {Q:Sl->Hp->Prop} (o:Has h0 (LaneA q room l) k) (hq:∀s k',Has h0 ((LaneA q room (endL l)).star (SlA 2 eW s l.waiters)) k'->Q s k'):zqe Tryz.prog (some q) Q k:=by
 unfold zqe
 obtain ⟨x,e1,e2,e3,o⟩:=o.laneX
 refine zab (o.left.ld (shf:=shSl) x.waiters rfl ?_)
 refine zab (o.left.ld (shf:=shSl) x.waiters rfl ?_)
 refine zab (o.left.ld (shf:=shSl) x.waiters rfl ?_)
 have hs:=o.right.right.slen
 have hc:=o.right.right.scap
 refine ⟨by omega,letW ?_⟩
 rw [Int.toNat_natCast]
 obtain ⟨h1,_,o1,put⟩:=o.f3
 have o2:=o1.cutHead (fun _=>rfl) (n:=x.waiters.len) (c:=x.waiters.len) (by omega) (Nat.le_refl _) hc
 rw [List.take_of_length_le (by omega)] at o2
 have o:=put _ _ o2
 obtain ⟨h2,_,o3,put⟩:=o.f1
 refine zab (o3.st {x with waiters:=⟨none,0,0⟩} (show (3:Nat)<=5 by decide) rfl fun k3 o4=> ?_)
 have o:=put _ _ o4
 refine hq _ k3 ?_
 have oo:=o.assoc'
 obtain ⟨h3,_,o5,_,put⟩:=oo.fst
 have nil:Has k3 (SlA 2 eW (⟨none,0,0⟩:Sl) ([]:List zdi)) k3:=Has.nilSl (Hp.le_refl _)
 have o6:=(o5.beside nil).assoc
 exact put _ _ (Has.ofLane (l:=endL l) (x:={x with waiters:=⟨none,0,0⟩}) o6 e1 e2 e3)
end
end Lf
namespace Go.Proofs
open Go.Shelf
def Tryz.lays144_ren :Go.Shelf.Ren:=⟨fun | 144=>216 | 143=>234 | 219=>243 | 217=>244 | 225=>245 | 224=>246 | 267=>247 | 266=>248 | 314=>249 | n=>n,fun | 9=>9 | 4=>4 | 3=>3 | 5=>5 | 46=>239 | 146=>284 | 51=>283 | n=>n,fun | 1=>1 | n=>n⟩
theorem Tryz.lays144 :Go.Proofs.Lays.n144 Tryz.prog Tryz.lays144_ren:={
 mixed:=by kernel_rfl
 f143:=Tryz.func234.trans (congrArg some (by kernel_rfl))
 f144:=Tryz.func216.trans (congrArg some (by kernel_rfl))
 f217:=Tryz.func244.trans (congrArg some (by kernel_rfl))
 f219:=Tryz.func243.trans (congrArg some (by kernel_rfl))
 f224:=Tryz.func246.trans (congrArg some (by kernel_rfl))
 f225:=Tryz.func245.trans (congrArg some (by kernel_rfl))
 f266:=Tryz.func248.trans (congrArg some (by kernel_rfl))
 f267:=Tryz.func247.trans (congrArg some (by kernel_rfl))
 f314:=Tryz.func249.trans (congrArg some (by kernel_rfl))
 t3:=Tryz.underlying3
 a3:=Tryz.isAgg3
 z3:=Tryz.sizeOf3
 v3:=Tryz.zeroValue3
 t4:=Tryz.underlying4
 a4:=Tryz.isAgg4
 z4:=Tryz.sizeOf4
 v4:=Tryz.zeroValue4
 t5:=Tryz.underlying5
 a5:=Tryz.isAgg5
 z5:=Tryz.sizeOf5
 v5:=Tryz.zeroValue5
 t9:=Tryz.underlying9
 a9:=Tryz.isAgg9
 z9:=Tryz.sizeOf9
 v9:=Tryz.zeroValue9
 t46:=Tryz.underlying239
 a46:=Tryz.isAgg239
 z46:=Tryz.sizeOf239
 v46:=Tryz.zeroValue239
 t51:=Tryz.underlying283
 a51:=Tryz.isAgg283
 z51:=Tryz.sizeOf283
 v51:=Tryz.zeroValue283
 t146:=Tryz.underlying284
 a146:=Tryz.isAgg284
 z146:=Tryz.sizeOf284
 v146:=Tryz.zeroValue284
 g1:=by kernel_rfl}
open Go.RowKit Go.Lib in
theorem Tryz.strings_Contains_one (s:ByteArray) (c:UInt8) (w:World):
  Calls Tryz.prog 216 #[.string s,.string ⟨#[c]⟩] w fun e w'=>e=.returned (.bool (decide (0<=Lib.indexByte s.data.toList c)))/\w'=w:=Any.strings_Contains_one Tryz.lays144 s c w
end Go.Proofs
namespace Lf
open Go
def cutH (k:Hp) (R:List Nat):Hp:=fun b=>if b∈R then none else k b
theorem zsk2 {k:Hp} {R:List Nat}:cutH k R<=k:=fun b o e=>by
  unfold cutH at e
  grind
theorem zmu2 {k:Hp} {R:List Nat} {b:Nat} (h:b∈R):cutH k R b=none:=by
  unfold cutH
  rw [if_pos h]
theorem zoa1 {k:Hp} {R:List Nat} {b:Nat} (h:b∉R):cutH k R b=k b:=by
  unfold cutH
  rw [if_neg h]
theorem zsl2 {d k:Hp} {R:List Nat} (hl:d<=k) (hn:∀b∈R,d b=none):d<=cutH k R:=fun b o e=>by
  rw [zoa1 fun hb=>by grind]
  exact hl b o e
theorem zfs2 {h h':Hp} {a:Addr} (e:h' a.block=h a.block):hcell h' a=hcell h a:=by
  unfold hcell
  rw [e]
theorem zrh1 (a:Addr) (n:Nat):(a.add n).block=a.block:=by
  unfold Addr.add
  split<;>rfl
theorem zja2 {h h':Hp} {a:Addr} {cs:List Value} (l:LdIs h a cs) (e:h' a.block=h a.block):LdIs h' a cs:=fun i v hv=>by
  have:hcell h' (a.add i)=hcell h (a.add i):=zfs2 (a:=a.add i) (by rw [zrh1];exact e)
  rw [this]
  exact l i v hv
section
variable {α:Type} {h h':Hp} {sz:Nat} {enc:α->List Value} {l:Sl} {xs:List α} {F:List Nat}
theorem Rw.same (r:Rw h sz enc l xs) (e:∀a,l.base=some a->h' a.block=h a.block):Rw h' sz enc l xs:=by
  obtain ⟨h1,h2,h3⟩:=r
  refine ⟨h1,h2,h3.imp id ?_⟩
  rintro ⟨a,ha,hl⟩
  exact ⟨a,ha,zja2 hl (e a ha)⟩
theorem Rw.nil {l:Sl} (hl:l.len=0):Rw h sz enc l ([]:List α):=⟨hl,(by simp),.inl (by simp)⟩
theorem OwnF.grow (o:OwnF h sz enc l xs F) (hl:h<=h'):OwnF h' sz enc l xs F:=by
  obtain ⟨h1,h2,h3⟩:=o
  refine ⟨h1,h2,h3.imp id ?_⟩
  rintro ⟨b,cs,e1,rfl,e3,e4⟩
  exact ⟨b,cs,e1,rfl,e3.le hl,e4⟩
theorem OwnF.cut {R:List Nat} (o:OwnF h sz enc l xs F) (hd:∀b∈F,b∉R):OwnF (cutH h R) sz enc l xs F:=o.same fun b hb=>zoa1 (hd b hb)
theorem OwnF.base (o:OwnF h sz enc l xs F) {a:Addr} (ha:l.base=some a):F=[a.block]:=by
  obtain ⟨_,_,h3⟩:=o
  grind
end
theorem zae2 {h:Hp} {a:Addr} {v:Value} (e:hcell h a=some v):∃o,h a.block=some o:=by
  unfold hcell at e
  grind
section
variable {α:Type} {h h':Hp} {sz:Nat} {enc:α->List Value} {l:Sl} {xs:List α} {F F':List Nat}
theorem Rw.known (r:Rw h sz enc l xs) {a:Addr} (ha:l.base=some a) (h0:xs.length*sz≠0):h a.block≠none:=by
  obtain ⟨h1,h2,h3⟩:=r
  obtain ⟨a',ha',hl⟩:=h3.resolve_left h0
  rw [ha] at ha'
  cases ha'
  have hne:(xs.flatMap enc).length≠0:=by rw [h2];exact h0
  obtain ⟨v,hv⟩:∃v,(xs.flatMap enc)[0]? =some v:=⟨(xs.flatMap enc)[0]'(by omega),List.getElem?_eq_getElem (by omega)⟩
  obtain ⟨o,ho⟩:=zae2 (hl 0 v hv)
  rw [zrh1] at ho
  rw [ho]
  simp
end
end Lf
namespace Lf
abbrev D (α:Type):Type:=List UInt8->Nat->Except (Int×Nat) (α×Nat)
namespace D
variable {α β:Type}
def ret (x:α):D α:=fun _ at_=>.ok (x,at_)
def bind (d:D α) (f:α->D β):D β:=fun b at_=>match d b at_ with
 | .ok (x,at2)=>f x b at2
 | .error e=>.error e
def num (k:Nat):D Nat:=fun b at_=>if b.length<at_+k then .error (5,b.length) else .ok (valB ((b.drop at_).take k),at_+k)
def must (d:D α) (wrong:α->Int):D α:=fun b at_=>match d b at_ with
 | .ok (x,at2)=>if wrong x=0 then .ok (x,at2) else .error (wrong x,at_)
 | .error e=>.error e
def many (d:List α->D α):Nat->List α->D (List α)
 | 0,acc=>ret acc
 | n+1,acc=>bind (d acc) fun x=>many d n (acc++ [x])
def map (f:α->β) (d:D α):D β:=bind d fun x=>ret (f x)
structure Law (d:D α) (enc:α->List UInt8) (valid:α->Prop):Prop where
 back:∀x,valid x->∀u t,d (u++(enc x++t)) u.length=.ok (x,u.length+(enc x).length)
 sound:∀b at_ x at2,d b at_=.ok (x,at2)->at_<=b.length->valid x/\at2=at_+(enc x).length/\∃t,b.drop at_=enc x++t
 cut:∀x,valid x->∀u t r,enc x=t++r->r≠ []->d (u++t) u.length=.error (5,u.length+t.length)
theorem Law.within {d:D α} {enc:α->List UInt8} {valid:α->Prop} (L:Law d enc valid) {b:List UInt8} {at_ at2:Nat} {x:α} (h:d b at_=.ok (x,at2)) (ha:at_<=b.length):at2<=b.length:=by
 obtain ⟨_,h2,t,ht⟩:=L.sound b at_ x at2 h ha
 have:=congrArg List.length ht
 grind
theorem zjb2 (k:Nat):Law (num k) (fun n=>leB (n:Int) k) (fun n=>n<256^k) where
 back:=fun x hx u t=>by
  unfold num
  have hl:=zdb (x:Int) k
  rw [if_neg (by simp [hl])]
  have e:((u++(leB (x:Int) k++t)).drop u.length).take k=leB (x:Int) k:=by
   rw [List.drop_left,List.take_left' hl]
  rw [e]
  have h1:=zfb1 (x:Int) k
  have h2:(x:Int)%((256^k:Nat):Int)=(x:Int):=Int.emod_eq_of_lt (by omega) (by exact_mod_cast hx)
  grind
 sound:=fun b at_ x at2 h ha=>by
  unfold num at h
  by_cases hc:b.length<at_+k
  ·grind
  ·rw [if_neg hc] at h
   cases h
   have hl:((b.drop at_).take k).length=k:=by grind
   have h1:=zsp1 ((b.drop at_).take k)
   rw [hl] at h1
   have h2:=zao1 ((b.drop at_).take k)
   rw [hl] at h2
   refine ⟨h1,by rw [zdb],(b.drop at_).drop k,?_⟩
   rw [h2,List.take_append_drop]
 cut:=fun x hx u t r he hr=>by
  unfold num
  have hl:=zdb (x:Int) k
  rw [he,List.length_append] at hl
  have:0<r.length:=List.length_pos_iff.2 hr
  grind
theorem law_ret (x:α):Law (ret x) (fun _=> []) (fun y=>y=x) where
 back:=fun y hy u t=>by subst hy;rfl
 sound:=fun b at_ y at2 h _=>by
  cases h
  simp
 cut:=fun y _ u t r he hr=>by
  exact absurd (List.append_eq_nil_iff.1 he.symm).2 hr
theorem zqb2 {γ:Type} {d1:D α} {d2:α->D β} {e1:α->List UInt8} {e2:α->β->List UInt8} {v1:α->Prop} {v2:α->β->Prop} (f:α->β->γ) (g:γ->α×β) (hfg:∀x y,v1 x->v2 x y->g (f x y)=(x,y)) (hgf:∀z,f (g z).1 (g z).2=z)
  (L1:Law d1 e1 v1) (L2:∀x,v1 x->Law (d2 x) (e2 x) (v2 x)):
  Law (bind d1 fun x=>bind (d2 x) fun y=>ret (f x y)) (fun z=>e1 (g z).1++e2 (g z).1 (g z).2) (fun z=>v1 (g z).1/\v2 (g z).1 (g z).2) where
 back:=fun z hz u t=>by
  obtain ⟨h1,h2⟩:=hz
  have a:=L1.back _ h1 u (e2 (g z).1 (g z).2++t)
  have b:=(L2 _ h1).back _ h2 (u++e1 (g z).1) t
  rw [List.append_assoc] at b
  simp only [bind]
  rw [List.append_assoc,a]
  dsimp only
  rw [List.length_append] at b
  rw [b]
  dsimp only [ret]
  grind
 sound:=fun b at_ z at2 h ha=>by
  simp only [bind] at h
  cases h1:d1 b at_ with
  | error e=>grind
  | ok p=>
   obtain ⟨x,a1⟩:=p
   rw [h1] at h
   dsimp only at h
   obtain ⟨g1,g2,t1,g3⟩:=L1.sound b at_ x a1 h1 ha
   cases h2:d2 x b a1 with
   | error e=>grind
   | ok q=>
    obtain ⟨y,a2⟩:=q
    rw [h2] at h
    dsimp only [ret] at h
    cases h
    obtain ⟨k1,k2,t2,k3⟩:=(L2 x g1).sound b a1 y _ h2 (L1.within h1 ha)
    rw [hfg x y g1 k1]
    dsimp only
    refine ⟨⟨g1,k1⟩,by rw [List.length_append];omega,t2,?_⟩
    rw [g2] at k3
    rw [<-List.drop_drop,g3,List.drop_left] at k3
    grind
 cut:=fun z hz u t r he hr=>by
  obtain ⟨h1,h2⟩:=hz
  simp only [bind]
  by_cases hl:t.length<(e1 (g z).1).length
  · -- cut in the first
   obtain ⟨r1,hr1⟩:∃r1,e1 (g z).1=t++r1:=by
    have hp:t<+:e1 (g z).1:=List.prefix_of_prefix_length_le ⟨r,he.symm⟩ (List.prefix_append _ _) (Nat.le_of_lt hl)
    obtain ⟨r1,hr1⟩:=hp
    grind
   have hne:r1≠ []:=fun e=>by
    grind
   rw [L1.cut _ h1 u t r1 hr1 hne]
  ·obtain ⟨t2,ht2⟩:∃t2,t=e1 (g z).1++t2:=by
    have hp:e1 (g z).1<+:t:=List.prefix_of_prefix_length_le (List.prefix_append _ _) ⟨r,he.symm⟩ (by omega)
    obtain ⟨t2,ht2⟩:=hp
    exact ⟨t2,ht2.symm⟩
   subst ht2
   have he2:e2 (g z).1 (g z).2=t2++r:=by
    rw [List.append_assoc] at he
    exact List.append_cancel_left he
   have a:=L1.back _ h1 u t2
   rw [a]
   dsimp only
   have b:=(L2 _ h1).cut _ h2 (u++e1 (g z).1) t2 r he2 hr
   grind
theorem Law.congr {d:D α} {enc enc':α->List UInt8} {valid valid':α->Prop} (L:Law d enc valid) (hv:∀x,valid x↔valid' x) (he:∀x,valid x->enc x=enc' x):Law d enc' valid' where
 back:=fun x hx u t=>by
  have hx:=(hv x).2 hx
  rw [<-he x hx]
  exact L.back x hx u t
 sound:=fun b at_ x at2 h ha=>by
  obtain ⟨h1,h2,h3⟩:=L.sound b at_ x at2 h ha
  grind
 cut:=fun x hx u t r hr hne=>by
  have hx:=(hv x).2 hx
  rw [<-he x hx] at hr
  exact L.cut x hx u t r hr hne
theorem zaf2 {d:D α} {enc:α->List UInt8} {valid:α->Prop} (h:α->β) {enc':β->List UInt8} {valid':β->Prop} (L:Law d enc valid) (hv:∀y,valid' y↔∃x,valid x/\h x=y) (he:∀x,valid x->enc' (h x)=enc x):Law (map h d) enc' valid' where
 back:=fun y hy u t=>by
  obtain ⟨x,hx,rfl⟩:=(hv y).1 hy
  rw [he x hx]
  simp only [map,bind,L.back x hx u t]
  rfl
 sound:=fun b at_ y at2 hh ha=>by
  simp only [map,bind] at hh
  cases h1:d b at_ with
  | error e=>grind
  | ok p=>
   obtain ⟨x,a1⟩:=p
   rw [h1] at hh
   dsimp only [ret] at hh
   cases hh
   obtain ⟨g1,g2,g3⟩:=L.sound b at_ x _ h1 ha
   grind
 cut:=fun y hy u t r hr hne=>by
  obtain ⟨x,hx,rfl⟩:=(hv y).1 hy
  rw [he x hx] at hr
  simp only [map,bind,L.cut x hx u t r hr hne]
theorem zqc2 (d1:D α) (d2:α->D β):map (fun z:α×β=>z.2) (bind d1 fun x=>bind (d2 x) fun y=>ret (x,y))=bind d1 d2:=by
 funext b at_
 simp only [map,bind]
 cases d1 b at_ with
 | error e=>rfl
 | ok p=>
  obtain ⟨x,a1⟩:=p
  dsimp only
  cases d2 x b a1 with
  | error e=>rfl
  | ok q=>rfl
end D
end Lf
namespace Lf
namespace D
variable {α γ:Type}
theorem zmv2 {d1:D α} {d2:α->D γ} {e1:α->List UInt8} {e2:α->γ->List UInt8} {v1:α->Prop} {v2:α->γ->Prop} (g:γ->α) (hg:∀x z,v1 x->v2 x z->g z=x)
  (L1:Law d1 e1 v1) (L2:∀x,v1 x->Law (d2 x) (e2 x) (v2 x)):Law (bind d1 d2) (fun z=>e1 (g z)++e2 (g z) z) (fun z=>v1 (g z)/\v2 (g z) z):=by
 have h:=zqb2 (γ:=α×γ) Prod.mk id (fun _ _ _ _=>rfl) (fun _=>rfl) L1 L2
 have h2:=zaf2 (h:=fun z:α×γ=>z.2) (enc':=fun z=>e1 (g z)++e2 (g z) z) (valid':=fun z=>v1 (g z)/\v2 (g z) z) h (fun y=>⟨?_,?_⟩) ?_
 ·rw [zqc2] at h2
  exact h2
 ·rintro ⟨h1,h3⟩
  exact ⟨(g y,y),⟨h1,h3⟩,rfl⟩
 ·rintro ⟨⟨x,z⟩,⟨h1,h3⟩,rfl⟩
  have h1:v1 x:=h1
  have h3:v2 x z:=h3
  show v1 (g z)/\v2 (g z) z
  rw [hg x z h1 h3]
  exact ⟨h1,h3⟩
 grind
theorem law_bindP {d1:D α} {d2:α->D γ} {e1:α->List UInt8} {v1:α->Prop} {E:γ->List UInt8} {P W:γ->Prop} (g:γ->α)
  (L1:Law d1 e1 v1) (L2:∀x,v1 x->Law (d2 x) E (fun z=>(g z=x/\P z)/\W z)):Law (bind d1 d2) (fun z=>e1 (g z)++E z) (fun z=>P z/\(v1 (g z)/\W z)):=by
 have h:=zmv2 (e2:=fun _=>E) (v2:=fun x z=>(g z=x/\P z)/\W z) g (fun x z _ h=>h.1.1) L1 L2
 grind
def mustAt (d:D α) (wrong:α->Int×Int):D α:=fun b at_=>match d b at_ with
 | .ok (x,at2)=>if (wrong x).1=0 then .ok (x,at2) else .error ((wrong x).1,at_+(wrong x).2.toNat)
 | .error e=>.error e
end D
open D
def i64 (n:Nat):Int:=if n<9223372036854775808 then n else (n:Int)-18446744073709551616
def I64 (x:Int):Prop:= -9223372036854775808<=x/\x<9223372036854775808
theorem zqd2 :Law (map i64 (num 8)) (fun x=>leB x 8) I64:=by
 refine zaf2 i64 (zjb2 8) (fun y=>⟨fun h=> ?_,?_⟩) fun x hx=> ?_
 ·obtain ⟨h1,h2⟩:=h
  refine ⟨(y%18446744073709551616).toNat,?_,?_⟩
  ·omega
  ·unfold i64
   split<;>omega
 ·rintro ⟨x,hx,rfl⟩
  have hx:x<18446744073709551616:=hx
  unfold i64 I64
  split<;>omega
 ·have hx:x<18446744073709551616:=hx
  have key:∀(k:Nat) (a b:Int),a%((256^k:Nat):Int)=b%((256^k:Nat):Int)->leB a k=leB b k:=by
   intro k a b h
   have h1:=zfb1 a k
   have h2:=zfb1 b k
   rw [h,<-h2] at h1
   have h3:valB (leB a k)=valB (leB b k):=by exact_mod_cast h1
   have h4:=zao1 (leB a k)
   have h5:=zao1 (leB b k)
   rw [zdb] at h4 h5
   grind
  refine key 8 _ _ ?_
  show i64 x%18446744073709551616=(x:Int)%18446744073709551616
  unfold i64
  split<;>omega
def toZ (n:Nat):Int:=n
theorem zuf1 (k:Nat):Law (map toZ (num k)) (fun x=>leB x k) (fun x=>0<=x/\x<((256^k:Nat):Int)):=
 zaf2 toZ (zjb2 k) (fun y=>⟨fun h=>⟨y.toNat,by omega,by unfold toZ;omega⟩,by rintro ⟨x,hx,rfl⟩;unfold toZ;omega⟩) fun x _=>rfl
def zD (k:Nat):D Int:=map toZ (num k)
def zgb1 :D PIns:=bind (zD 1) fun op=>bind (zD 1) fun a=>bind (zD 1) fun b=>bind (zD 1) fun c=>bind (map i64 (num 8)) fun imm=>ret ⟨op,a,b,c,imm⟩
def insD (n locks:Int):D PIns:=mustAt zgb1 fun x=>zcg x n locks
def rngE (a b:Int) (n:Int):Int:=if within n a b then 0 else 2
def cntE (most:Int) (n:Int):Int:=if n=0 then 1 else if most<n then 3 else 0
def labE (acc:List Int) (a:Int):Int:=match acc.getLast? with
 | none=>0
 | some l=>if a=l then 8 else if a<l then 7 else 0
def procD (parts locks:Int):D PProc:=bind (must (zD 1) (rngE 0 (parts-1))) fun part=>bind (must (zD 2) fun n=>if 256<n then 3 else 0) fun n=>
 bind (many (fun _=>insD n locks) n.toNat []) fun code=>ret ⟨part,code⟩
def markD :List UInt8->D Unit
 | []=>ret ()
 | c::r=>bind (must (num 1) fun n=>if n=c.toNat then 0 else 4) fun _=>markD r
def zzs :D PCfg:=bind (markD [70,66,67,70,1]) fun _=>bind (must (zD 1) (cntE 8)) fun nl=>bind (many (fun acc=>must (zD 8) (labE acc)) nl.toNat []) fun labels=>
 bind (must (zD 1) (cntE 64)) fun nt=>bind (many (fun _=>must (zD 1) (rngE 0 (nl-1))) nt.toNat []) fun table=>
 bind (must (zD 2) (rngE 1 256)) fun fuel=>bind (must (zD 1) (rngE 1 64)) fun lane=>bind (must (zD 1) (rngE 0 8)) fun locks=>bind (must (zD 2) (rngE 0 4096)) fun log=>
 bind (must (zD 1) (cntE 32)) fun np=>bind (many (fun _=>procD nl locks) np.toNat []) fun procs=>ret ⟨labels,table,fuel,lane,locks,log,procs⟩
def zcz2 {α:Type} (d:D α) (b:List UInt8):Except (Int×Nat) α:=
 if 1048576<b.length then .error (22,1048576) else match d b 0 with
  | .error e=>.error e
  | .ok (x,at_)=>if at_<b.length then .error (6,at_) else .ok x
def zhp (b:List UInt8):Except (Int×Nat) PCfg:=zcz2 zzs b
theorem law_ins :D.Law zgb1 insB fun x=>(0<=x.op/\x.op<256)/\(0<=x.a/\x.a<256)/\(0<=x.b/\x.b<256)/\(0<=x.c/\x.c<256)/\I64 x.imm:=by
 have h:=D.law_bindP (P:=fun _=>True) (W:=fun z=>(0<=z.a/\z.a<((256^1:Nat):Int))/\((0<=z.b/\z.b<((256^1:Nat):Int))/\((0<=z.c/\z.c<((256^1:Nat):Int))/\(I64 z.imm/\True)))) (E:=fun z=>leB z.a 1++(leB z.b 1++(leB z.c 1++(leB z.imm 8++ [])))) (fun z:PIns=>z.op) (zuf1 1) fun op _=>
  D.law_bindP (W:=fun z=>(0<=z.b/\z.b<((256^1:Nat):Int))/\((0<=z.c/\z.c<((256^1:Nat):Int))/\(I64 z.imm/\True))) (E:=fun z=>leB z.b 1++(leB z.c 1++(leB z.imm 8++ []))) (fun z:PIns=>z.a) (zuf1 1) fun a _=>
  D.law_bindP (W:=fun z=>(0<=z.c/\z.c<((256^1:Nat):Int))/\(I64 z.imm/\True)) (E:=fun z=>leB z.c 1++(leB z.imm 8++ [])) (fun z:PIns=>z.b) (zuf1 1) fun b _=>
  D.law_bindP (W:=fun z=>I64 z.imm/\True) (E:=fun z=>leB z.imm 8++ []) (fun z:PIns=>z.c) (zuf1 1) fun c _=>
  D.law_bindP (W:=fun z=>True) (E:=fun z=> []) (fun z:PIns=>z.imm) zqd2 fun imm _=>
  (D.law_ret (⟨op,a,b,c,imm⟩:PIns)).congr (fun z=>⟨fun h=>by subst h;simp,fun h=>by cases z;simp at h;simp [h]⟩) fun _ _=>rfl
 refine h.congr (fun z=> ?_) fun z _=> ?_
 ·simp
 ·simp [insB]
end Lf
namespace Lf
def less (n:Int):Int:=n-1
theorem within_true {a b n:Int}:within n a b=true↔a<=n/\n<=b:=by
 unfold within
 simp
theorem within_false {a b n:Int}:within n a b=false↔¬(a<=n/\n<=b):=by
 rw [<-Bool.not_eq_true,within_true]
theorem zri1 {n locks:Int}:∀ {l:List PIns} {i:Int},(codeR n locks l i).1=0↔∀x∈l,(zcg x n locks).1=0
 | [],i=>by simp [codeR]
 | x::r,i=>by
  simp only [codeR]
  by_cases h:(zcg x n locks).1=0
  ·rw [if_neg (fun hh=>hh h),zri1]
   simp [h]
  grind
theorem zrj1 {l:List PIns} {locks:Int} (hl:0<=locks/\locks<=8):(codeP l locks).1=0↔l.length<=256/\∀x∈l,(zcg x l.length locks).1=0:=by
 unfold codeP
 rw [if_neg (by omega)]
 by_cases h:256<l.length
 ·grind
 ·rw [if_neg h,zri1]
  grind
theorem zob1 {parts locks:Int}:∀ {l:List PProc} {i:Int},(zrk parts locks l i).1=0↔∀p∈l,(0<=p.part/\p.part<=parts-1)/\(codeP p.code locks).1=0
 | [],i=>by simp [zrk]
 | p::r,i=>by
  simp only [zrk]
  by_cases h1:within p.part 0 (parts-1)=false
  ·rw [if_pos h1]
   have:=within_false.1 h1
   grind
  ·rw [if_neg h1]
   have g1:=within_true.1 (Bool.not_eq_false _▸h1:within p.part 0 (parts-1)=true)
   by_cases h2:(codeP p.code locks).1=0
   ·rw [if_neg (fun hh=>hh h2),zob1]
    simp [h2,g1]
   grind
theorem cfgP_zero {m:Int} {c:PCfg}:(cfgP m c).1=0↔m=0/\c.table≠ []/\c.table.length<=64/\(∀x∈c.table,0<=x/\x<=c.labels.length-1)/\(1<=c.fuel/\c.fuel<=256)/\(1<=c.lane/\c.lane<=64)/\(0<=c.locks/\c.locks<=8)/\
  (0<=c.log/\c.log<=4096)/\c.procs≠ []/\c.procs.length<=32/\∀p∈c.procs,(0<=p.part/\p.part<=c.labels.length-1)/\(codeP p.code c.locks).1=0:=by
 unfold cfgP
 by_cases h0:m=0
 case neg=>rw [if_pos h0];exact ⟨fun e=>absurd e h0,fun e=>absurd e.1 h0⟩
 rw [if_neg (fun hh=>hh h0)]
 by_cases h1:c.table=[]
 ·rw [if_pos h1];exact ⟨fun e=>(by cases e),fun e=>absurd h1 e.2.1⟩
 rw [if_neg h1]
 by_cases h2:64<c.table.length
 ·rw [if_pos h2];exact ⟨fun e=>(by cases e),fun e=>(by have:=e.2.2.1;omega)⟩
 rw [if_neg h2]
 by_cases h3:c.table.all (fun p=>within p 0 (c.labels.length-1))=false
 ·rw [if_pos h3]
  refine ⟨fun e=>(by cases e),fun e=> ?_⟩
  have:c.table.all (fun p=>within p 0 (c.labels.length-1))=true:=List.all_eq_true.2 fun x hx=>within_true.2 (e.2.2.2.1 x hx)
  rw [this] at h3;cases h3
 rw [if_neg h3]
 have g3:∀x∈c.table,0<=x/\x<=c.labels.length-1:=fun x hx=>within_true.1 (List.all_eq_true.1 (Bool.not_eq_false _▸h3:c.table.all (fun p=>within p 0 (c.labels.length-1))=true) x hx)
 by_cases h4:within c.fuel 1 256=false
 ·rw [if_pos h4];exact ⟨fun e=>(by cases e),fun e=>absurd e.2.2.2.2.1 (within_false.1 h4)⟩
 rw [if_neg h4]
 have g4:=within_true.1 (Bool.not_eq_false _▸h4:within c.fuel 1 256=true)
 by_cases h5:within c.lane 1 64=false
 ·rw [if_pos h5];exact ⟨fun e=>(by cases e),fun e=>absurd e.2.2.2.2.2.1 (within_false.1 h5)⟩
 rw [if_neg h5]
 have g5:=within_true.1 (Bool.not_eq_false _▸h5:within c.lane 1 64=true)
 by_cases h6:within c.locks 0 8=false
 ·rw [if_pos h6];exact ⟨fun e=>(by cases e),fun e=>absurd e.2.2.2.2.2.2.1 (within_false.1 h6)⟩
 rw [if_neg h6]
 have g6:=within_true.1 (Bool.not_eq_false _▸h6:within c.locks 0 8=true)
 by_cases h7:within c.log 0 4096=false
 ·rw [if_pos h7];exact ⟨fun e=>(by cases e),fun e=>absurd e.2.2.2.2.2.2.2.1 (within_false.1 h7)⟩
 rw [if_neg h7]
 have g7:=within_true.1 (Bool.not_eq_false _▸h7:within c.log 0 4096=true)
 by_cases h8:c.procs=[]
 ·rw [if_pos h8];exact ⟨fun e=>(by cases e),fun e=>absurd h8 e.2.2.2.2.2.2.2.2.1⟩
 rw [if_neg h8]
 by_cases h9:32<c.procs.length
 ·rw [if_pos h9];exact ⟨fun e=>(by cases e),fun e=>(by have:=e.2.2.2.2.2.2.2.2.2.1;omega)⟩
 rw [if_neg h9,zob1]
 grind
theorem zgc1 :∀(n:Nat) (l:List Int),l.Nodup->(∀x∈l,0<=x/\x<n)->l.length<=n
 | 0,l,_,h=>by
  cases l with
  | nil=>simp
  | cons x r=>have:=h x (List.mem_cons_self ..);omega
 | n+1,l,hn,h=>by
  by_cases hm:(n:Int)∈l
  ·have:=zgc1 n (l.erase (n:Int)) (hn.erase _) fun x hx=>by
    have h1:=h x (List.mem_of_mem_erase hx)
    have h2:x≠(n:Int):=fun e=>by
     rw [e] at hx
     exact (hn.not_mem_erase) hx
    omega
   grind
  ·have:=zgc1 n l hn fun x hx=>by
    grind
   omega
section
variable {c:PCfg} {s:zbi} {fl:Nat->Int->Prop}
end
end Lf
namespace Lf
open Go Go.Proofs Go.RowKit
theorem zft2 {P:Program} {g:FuncId} {args:List Value} {sh:Shape} {K:sh.T->Hp->Prop} {h:Hp} {x:sh.T} (hc:∀w,Sub h w->Calls P g args.toArray w fun e w'=>e=.returned (sh.enc x)/\w'=w) (hk:K x h):CallT P g args sh K h:=by
 intro w hs
 refine (hc w hs).mono ?_
 rintro e w' ⟨rfl,rfl⟩
 exact ⟨_,h,rfl,⟨x,rfl,hk⟩,⟨hs,Nat.le_refl _,fun i hi hn=>⟨rfl,hn⟩,rfl,rfl,rfl⟩⟩
def hasC (s:ByteArray) (c:UInt8):Bool:=decide (0<=Lib.indexByte s.data.toList c)
theorem zag2 {s:ByteArray} {c:UInt8} {K:Bool->Hp->Prop} {h:Hp} (hk:K (hasC s c) h):CallT Tryz.prog zrn [.string s,.string ⟨#[c]⟩] zae K h:=by
 refine zft2 (x:=hasC s c) (fun w _=> ?_) hk
 exact Tryz.strings_Contains_one s c w
def insOf (x:S_api_Ins):PIns:=⟨x.Op,x.A,x.B,x.C,x.Imm⟩
def fieldTab :List (List UInt8):=[[],[97,105],[97,98],[97,98,99],[97,98,99],[97,98,99],[97,98,99],[97,98,99],[97,98,99],[97,98,99],[97,98,99],[97,98,99],[97,98,99],[97,98,99],[97,98,99],[97,98,99],[97,98,99],[97,98,99],[97,98,99],[97,98,99],[97,98],[97,98],[105],[97,105],[97,98,99],[97,98],[97,98],[97],[97],[105],[105],[97],[97],[97]]
def ziu (op:Int):ByteArray:=if 0<=op/\op<34 then ⟨(fieldTab.getD op.toNat []).toArray⟩ else ⟨#[]⟩
theorem zah2 :∀n,n<34->(decide (0<=Lib.indexByte (fieldTab.getD n []) 97),decide (0<=Lib.indexByte (fieldTab.getD n []) 98),decide (0<=Lib.indexByte (fieldTab.getD n []) 99),decide (0<=Lib.indexByte (fieldTab.getD n []) 105))=zat (n:Int):=by decide
theorem zfu2 (op:Int):(hasC (ziu op) 97,hasC (ziu op) 98,hasC (ziu op) 99,hasC (ziu op) 105)=zat op:=by
 by_cases h:0<=op/\op<34
 ·have e:=zah2 op.toNat (by omega)
  rw [Int.toNat_of_nonneg h.1] at e
  rw [<-e]
  simp [hasC,ziu,h]
 ·have e1:ziu op=⟨#[]⟩:=if_neg h
  rw [e1]
  have e2:zat op=(false,false,false,false):=by
   unfold zat
   grind
  rw [e2]
  decide
theorem zqe2 :∀n,n<34->fieldTab[n]? =some (fieldTab.getD n []):=by decide
theorem zwu1 {α:Type} (l:List α) (i:Nat):List.get?Internal l i=l[i]?:=by
 simp
theorem zug1 {op:Int} {Q:ByteArray->Hp->Prop} {h:Hp} (hq:Q (ziu op) h):zvh Tryz.prog op Q h:=by
 unfold zvh
 refine letW ?_
 by_cases h0:0<=op/\op<34
 ·rw [if_neg (by simp;omega)]
  refine ⟨h0,ziu op,?_,hq⟩
  have e:ziu op=⟨(fieldTab.getD op.toNat []).toArray⟩:=if_pos h0
  rw [zwu1,e]
  have e2:=zqe2 op.toNat (by omega)
  rw [Nat.mul_one]
  have e3:(fieldTab.map fun l=>Value.string ⟨l.toArray⟩)[op.toNat]? =some (Value.string ⟨(fieldTab.getD op.toNat []).toArray⟩):=by grind
  exact e3
 ·rw [if_pos (by simp;omega)]
  have e:ziu op=⟨#[]⟩:=if_neg h0
  grind
theorem zhq {P:Program} {g:FuncId} {first captured:Array Value} {args:List Value} {sh:Shape} {K:sh.T->Hp->Prop} {h:Hp} (hg:tb.call g=true) (hc:CallT P g (first.toList++args++captured.toList) sh K h):CallV P tb (.func (.func g) first captured) args sh K h:=
 ⟨g,first,captured,rfl,hg,hc⟩
theorem zgd1 {op:Int} {Q:Bool->Bool->Bool->Bool->Hp->Prop} {h:Hp} (hq:∀h',h<=h'->Q (zat op).1 (zat op).2.1 (zat op).2.2.1 (zat op).2.2.2 h'):zvf Tryz.prog op Q h:=by
 unfold zvf
 refine zla1 (zug1 ?_)
 intro b t hn
 refine zmt (b:=b) (off:=0) (cs:=[.string ⟨#[]⟩]) ⟨t,zbw⟩ (by simp) fun h3 hm hb=> ?_
 have hle:h<=h3:=(((Mv.new hn).trans hm).le (Hp.le_refl h) (by simp)).1
 have hl:LdIs h3 ⟨b,0,none⟩ [.string (ziu op)]:=hb.ldIs (n:=1) (by rfl)
 have one:∀(c:UInt8) (K:Bool->Hp->Prop),K (hasC (ziu op) c) h3->CallV Tryz.prog tb (.func (.func zzc) #[] #[.pointer (some ⟨b,0,none⟩)]) [.string ⟨#[c]⟩] zae K h3:=fun c K hk=>by
  refine zhq rfl (zfz1 ?_)
  unfold zzj
  refine ld_at (sh:=shStr) (ziu op) hl ?_
  exact zag2 hk
 have e:=zfu2 op
 grind
theorem zeo1 {P:Program} {has:Bool} {n:Int} {Q:Int->Hp->Prop} {h:Hp} (hq:Q (regP has n) h):zqf P has n Q h:=by
 unfold zqf
 refine letW ?_
 unfold regP at hq
 by_cases h1:has=false/\n≠0
 ·grind
 ·rw [if_neg h1] at hq
  rw [if_neg (by cases has<;>simp at h1 ⊢;exact h1)]
  refine letW ?_
  grind
theorem zjc2 {P:Program} {x:S_api_Ins} {has:Bool} {n locks:Int} {Q:Int->Hp->Prop} {h:Hp}
  (hq:Q (if has=false/\x.Imm≠0 then 11 else if (x.Op=22\/x.Op=23)/\(x.Imm<0\/n<x.Imm) then 12 else if (x.Op=29\/x.Op=30)/\(x.Imm<0\/locks<=x.Imm) then 13 else 0) h):zvg P x has n locks Q h:=by
 unfold zvg
 refine letW ?_
 by_cases h1:has=false/\x.Imm≠0
 ·grind
 ·rw [if_neg h1] at hq
  rw [if_neg (by cases has<;>simp at h1 ⊢;exact h1)]
  refine letW ?_
  by_cases h2:x.Op=22\/x.Op=23
  ·rw [if_pos (by simp;exact h2)]
   refine letW ?_
   grind
  ·rw [if_neg (fun e=>h2 e.1)] at hq
   rw [if_neg (by simp;omega)]
   refine letW ?_
   by_cases h4:x.Op=29\/x.Op=30
   ·rw [if_pos (by simp;exact h4)]
    refine letW ?_
    grind
   grind
theorem zmw2 {x:S_api_Ins} {n locks:Int} {Q:Int->Int->Hp->Prop} {h:Hp} (hq:∀h' at_,h<=h'->((zcg (insOf x) n locks).1≠0->at_=(zcg (insOf x) n locks).2)->Q (zcg (insOf x) n locks).1 at_ h'):zzg Tryz.prog x n locks Q h:=by
 unfold zzg
 refine letW ?_
 have le:=Hp.le_refl h
 rw [show zcg (insOf x) n locks=(if x.Op<0\/34<=x.Op then (9,0)
  else if regP (zat x.Op).1 x.A≠0 then (regP (zat x.Op).1 x.A,1)
  else if regP (zat x.Op).2.1 x.B≠0 then (regP (zat x.Op).2.1 x.B,2)
  else if regP (zat x.Op).2.2.1 x.C≠0 then (regP (zat x.Op).2.2.1 x.C,3)
  else if (zat x.Op).2.2.2=false/\x.Imm≠0 then (11,4)
  else if (x.Op=22\/x.Op=23)/\(x.Imm<0\/n<x.Imm) then (12,4)
  else if (x.Op=29\/x.Op=30)/\(x.Imm<0\/locks<=x.Imm) then (13,4)
  else (0,0)) from rfl] at hq
 by_cases h1:x.Op<0\/34<=x.Op
 ·grind
 ·rw [if_neg h1] at hq
  rw [if_neg (by simp;omega)]
  refine zxe (zgd1 fun h1 l1=> ?_)
  dsimp only
  refine zmc (zeo1 ?_)
  by_cases h2:regP (zat x.Op).1 x.A≠0
  ·grind
  ·rw [if_neg h2] at hq
   rw [if_neg (by simpa using h2)]
   refine zmc (zeo1 ?_)
   by_cases h3:regP (zat x.Op).2.1 x.B≠0
   ·grind
   ·rw [if_neg h3] at hq
    rw [if_neg (by simpa using h3)]
    refine zmc (zeo1 ?_)
    by_cases h4:regP (zat x.Op).2.2.1 x.C≠0
    ·grind
    ·rw [if_neg h4] at hq
     rw [if_neg (by simpa using h4)]
     refine zkz1 (zjc2 ?_)
     grind
theorem zuh1 {x:S_api_Ins} {n locks:Int} {Q:Int->Hp->Prop} {h:Hp} (hq:∀h',h<=h'->Q (zcg (insOf x) n locks).1 h'):zze Tryz.prog x n locks Q h:=by
 unfold zze
 exact znx1 (zmw2 fun h' _ l _=>hq h' l)
abbrev InsS (h:Hp) (l:Sl) (xs:List S_api_Ins):Prop:=Rs h sh_api_Ins 5 l xs
theorem zfv2 {l:Sl} {xs:List S_api_Ins} {locks:Int} {Q:Int->Int->Hp->Prop} {h:Hp} (r:InsS h l xs) (hq:∀h',h<=h'->Q (codeP (xs.map insOf) locks).1 (codeP (xs.map insOf) locks).2 h'):zhj1 Tryz.prog l locks Q h:=by
 unfold zhj1
 have hlen:=r.1
 refine letW ?_
 unfold codeP at hq
 by_cases h1:locks<0\/8<locks
 ·rw [if_pos h1] at hq
  rw [if_pos (by simp;omega)]
  exact hq h (Hp.le_refl h)
 ·rw [if_neg h1,List.length_map] at hq
  rw [if_neg (by simp;omega)]
  by_cases h2:256<xs.length
  ·rw [if_pos h2] at hq
   rw [if_pos (by simp;omega)]
   exact hq h (Hp.le_refl h)
  ·rw [if_neg h2] at hq
   rw [if_neg (by simp;omega)]
   refine LoopW1.intro (fun i k=>h<=k/\0<=i/\i<=(xs.length:Int)/\codeR xs.length locks ((xs.drop i.toNat).map insOf) i=codeR xs.length locks (xs.map insOf) 0) (fun i _=>(xs.length-i).toNat) ⟨Hp.le_refl h,by omega,by omega,rfl⟩ ?_
   rintro i k ⟨hle,h0,hi,he⟩
   by_cases h3:i<(xs.length:Int)
   ·rw [if_pos (decide_eq_true (by omega))]
    refine Rs.get (sh:=sh_api_Ins) (Rw.mono hle r) (fun _=>rfl) (by omega) h0 h3 fun x hx=> ?_
    refine zqm (zuh1 fun k' hle'=> ?_)
    have hd:xs.drop i.toNat=x::xs.drop (i.toNat+1):=by
     obtain ⟨hx1,hx2⟩:=List.getElem?_eq_some_iff.1 hx
     rw [<-hx2];simp
    rw [hd,List.map_cons,codeR] at he
    rw [hlen]
    by_cases h4:(zcg (insOf x) xs.length locks).1≠0
    ·rw [if_pos h4] at he
     rw [if_pos (by simpa using h4)]
     rw [<-he] at hq
     exact hq k' (Hp.le_trans hle hle')
    ·rw [if_neg h4] at he
     rw [if_neg (by simpa using h4)]
     have hw:IntKind.wrap .i64 (i+1)=i+1:=wrap64 (by omega) (by omega)
     rw [hw]
     refine ⟨⟨Hp.le_trans hle hle',by omega,by omega,?_⟩,by omega⟩
     grind
   ·rw [if_neg (by simp;omega)]
    have hd:xs.drop i.toNat=[]:=List.drop_eq_nil_of_le (by omega)
    rw [hd] at he
    rw [<-he] at hq
    exact hq k hle
end Lf
namespace Lf
open Go
theorem zqf2 {α:Type} {h0 h:Hp} {sz n bytes:Nat} {enc:α->List Value} {zero cs:List Value} {l:Sl} {xs ys:List α} {K:Sl->Hp->Prop} (hw:h0<=h) (o:Own h0 h sz enc l xs) (hc:cs=ys.flatMap enc) (hn:n=ys.length)
    (henc:∀x,(enc x).length=sz) (hok:∀x,zax (enc x)=true) (hz:zero.length=sz) (hb:xs.length+ys.length<=140737488355328/\(xs.length+ys.length)*bytes<=140737488355328)
    (hk:∀l' h',h0<=h'->Own h0 h' sz enc l' (xs++ys)->(∀b ob,h b=some ob->(∀a,l.base=some a->a.block≠b)->h' b=some ob)->K l' h'):NewW cs (fun a h2=>zai sz bytes zero l ⟨some a,n,n⟩ K h2) h:=by
  subst hn
  refine zgy1 (h0:=h0) hw hc henc fun a h2 hle ho2=> ?_
  refine zzf1 (Hp.le_trans hw hle) (o.mono hle) (ho2.rw henc) henc hok hz hb fun l' h' hl' ho' hk'=>hk l' h' hl' ho' fun b ob e hne=>hk' b ob (hle b ob e) hne
end Lf
