/-
  Part 2 of the texts that the claim leans on.
-/
import Derived.Laws.Sem
import Derived.Test.YtloapcmhhcbonaaGreatMgSnApart0
set_option linter.unusedVariables false
namespace Lf
open Go
def zdc (P:Program) (b:Sl) (Q:(Bool→(Hp→Prop))) (h:Hp):Prop:=
 CallT P zjc [] zaf (fun r h1=>
 (if (!r)=true then
 Q false h1
 else
 Call4 P zkw [b.v] sh_api_Config zan (shInt .i64) (shInt .i64) (fun r1 r2 r3 r4 h2=>
 Call4 P zkw [b.v] sh_api_Config zan (shInt .i64) (shInt .i64) (fun r5 r6 r7 r8 h3=>
 Call4 P zie [b.v] sh_api_Config zan (shInt .i64) (shInt .i64) (fun r9 r10 r11 r12 h4=>
 CallT P zfl [r2.v] zaf (fun r13 h5=>
 EffC (some r13) (CallT P zdv [r6.v,r10.v] zaf) (fun r14 h6=>
 LetW (r13&&r14) fun y=>
 Q y h6) h5) h4) h3) h2) h1)) h
def zfr (P:Program)  (Q:(Bool→(Hp→Prop))) (h:Hp):Prop:=
 Call2 P zjd [] sh_api_Config zan (fun r r1 h1=>
 Call2 P zxz [r.v,r1.v] shSl (shInt .i64) (fun r2 r3 h2=>
 Call4 P zkw [r2.v] sh_api_Config zan (shInt .i64) (shInt .i64) (fun r4 r5 r6 r7 h3=>
 NewW [(.int .u8 (70:Int)),(.int .u8 (66:Int)),(.int .u8 (83:Int)),(.int .u8 (78:Int)),(.int .u8 (2:Int))] (fun a h4=>
 MarkW (some a) (fun r8 h5=>
 Call4 P zkw [(.slice (some a) 5 5)] sh_api_Config zan (shInt .i64) (shInt .i64) (fun r9 r10 r11 r12 h6=>
 LetW ((r3==(0:Int))&&(((r2.len:Nat):Int)==(147:Int))) fun y=>
 LetW (y&&(r6==(0:Int))) fun y1=>
 LetW (y1&&(r7==(0:Int))) fun y2=>
 EffC (some y2) (CallT P zkg [r.v,r4.v] zaf) (fun r13 h7=>
 LetW (y2&&r13) fun y3=>
 EffC (some y3) (CallT P zdv [r1.v,r5.v] zaf) (fun r14 h8=>
 LetW (y3&&r14) fun y4=>
 LetW (y4&&(r11==(4:Int))) fun y5=>
 LetW (y5&&(r12==(4:Int))) fun y6=>
 Q y6 h8) h7) h6) h5) h4) h3) h2) h1) h
def zrx (P:Program) (c:S_api_Config) (s:S_api_State) (Q:(Sl→(Int→(Hp→Prop)))) (h:Hp):Prop:=
 CallT P zrs [c.v,s.v] (shInt .i64) (fun r h1=>
 (if (r !=(0:Int))=true then
 Q ⟨none,0,0⟩ r h1
 else
 Call2 P zya [c.v] shSl (shInt .i64) (fun r1 r2 h2=>
 (if (r2 !=(0:Int))=true then
 Q ⟨none,0,0⟩ r2 h2
 else
 NewW [(.int .u8 (70:Int)),(.int .u8 (66:Int)),(.int .u8 (83:Int)),(.int .u8 (78:Int)),(.int .u8 (1:Int))] (fun a h3=>
 MarkW (some a) (fun r3 h4=>
 NewW [(.slice (some a) 5 5)] (fun a1 h5=>
 NilW none (some a1) fun p=>
 Call0 P zag [(.pointer (some (Addr.add p 0))),(.int .i64 ((r1.len:Nat):Int)),(.int .i64 (4:Int))] (fun h6=>
 NilW none (some a1) fun p1=>
 LdW none shSl h6 (Addr.add (Addr.add p1 0) 0) fun x=>
 zas 1 1 [(.int .u8 (0:Int))] x ⟨r1.base,r1.len,r1.cap⟩ (fun r4 h7=>
 NilW none (some a1) fun p2=>
 StW h7 (Addr.add (Addr.add p2 0) 0) [r4.v] (fun h8=>
 NilW none (some a1) fun p3=>
 Call0 P zav [(.pointer (some (Addr.add p3 0))),(.int .i64 s.Tick),(.int .i64 (8:Int))] (fun h9=>
 LoopW1 (α1:=Int) (fun again t59 h10=>
 (if (decide (t59<((s.Parts.len:Nat):Int)))=true then
 ((InB s.Parts.base s.Parts.len t59)∧LdW none sh_api_Part h10 (sat s.Parts.base 6 t59) fun x1=>
 Call0 P zjj [(.pointer (some a1)),x1.v] (fun h11=>
 again (IntKind.wrap .i64 (t59+(1:Int))) h11) h10)
 else
 LoopW1 (α1:=Int) (fun again1 t70 h11=>
 (if (decide (t70<((s.Procs.len:Nat):Int)))=true then
 ((InB s.Procs.base s.Procs.len t70)∧LdW none sh_api_Process h11 (sat s.Procs.base 15 t70) fun x1=>
 Call0 P zjk [(.pointer (some a1)),x1.v] (fun h12=>
 again1 (IntKind.wrap .i64 (t70+(1:Int))) h12) h11)
 else
 NilW none (some a1) fun p4=>
 LdW none shSl h11 (Addr.add (Addr.add p4 0) 0) fun x1=>
 Q x1 (0:Int) h11)) (0:Int) h10)) (0:Int) h9) h8)) h6) h5) h4) h3) h2)) h1)) h
def zry (P:Program) (b:Sl) (Q:(S_api_Config→(S_api_State→(Int→(Int→(Hp→Prop)))))) (h:Hp):Prop:=
 (if (decide (((b.len:Nat):Int)>(1048576:Int)))=true then
 Q ⟨⟨none,0,0⟩,⟨none,0,0⟩,(0:Int),(0:Int),(0:Int),(0:Int),⟨none,0,0⟩⟩ ⟨(0:Int),⟨none,0,0⟩,⟨none,0,0⟩⟩ (22:Int) (1048576:Int) h
 else
 NewW [b.v,(.int .i64 (0:Int)),(.int .i64 (0:Int)),(.int .i64 (0:Int)),(.slice none 0 0),(.slice none 0 0),(.int .i64 (0:Int)),(.int .i64 (0:Int)),(.int .i64 (0:Int)),(.int .i64 (0:Int)),(.slice none 0 0)] (fun a h1=>
 CallT P zmm [(.pointer (some a))] zan (fun r h2=>
 JoinW0 (fun k=>
 NilW none (some a) fun p=>
 LdW none (shInt .i64) h2 (Addr.add (Addr.add p 0) 2) fun x=>
 (if (x==(0:Int))=true then
 NilW none (some a) fun p1=>
 NilW none (some a) fun p2=>
 LdW none sh_api_Config h2 (Addr.add p2 4) fun x1=>
 CallT P zrs [x1.v,r.v] (shInt .i64) (fun r1 h3=>
 Call0 P zbd [(.pointer (some (Addr.add p1 0))),(.int .i64 r1),(.int .i64 (0:Int))] (fun h4=>
 k h4) h3) h2
 else
 k h2))
 (fun h3=>
 NilW none (some a) fun p=>
 LdW none (shInt .i64) h3 (Addr.add (Addr.add p 0) 2) fun x=>
 (if (x !=(0:Int))=true then
 NilW none (some a) fun p1=>
 LdW none (shInt .i64) h3 (Addr.add (Addr.add p1 0) 2) fun x1=>
 NilW none (some a) fun p2=>
 LdW none (shInt .i64) h3 (Addr.add (Addr.add p2 0) 3) fun x2=>
 (((LdIs h3 (Addr.add (Addr.add p1 0) 2) [(.int .i64 x1)])∧((LdIs h3 (Addr.add (Addr.add p2 0) 3) [(.int .i64 x2)])∧True))∧(((LdIs h3 (Addr.add (Addr.add p1 0) 2) [(.int .i64 x1)])∧((LdIs h3 (Addr.add (Addr.add p2 0) 3) [(.int .i64 x2)])∧True))∧Q ⟨⟨none,0,0⟩,⟨none,0,0⟩,(0:Int),(0:Int),(0:Int),(0:Int),⟨none,0,0⟩⟩ ⟨(0:Int),⟨none,0,0⟩,⟨none,0,0⟩⟩ x1 x2 h3))
 else
 NilW none (some a) fun p1=>
 LdW none sh_api_Config h3 (Addr.add p1 4) fun x1=>
 ((True∧True)∧Q x1 r (0:Int) (0:Int) h3)))) h1) h)
def zev (P:Program) (b:Sl) (Q:(S_api_Config→(S_api_State→(Int→(Int→(Hp→Prop)))))) (h:Hp):Prop:=
 (if (decide (((b.len:Nat):Int)>(1048576:Int)))=true then
 Q ⟨⟨none,0,0⟩,⟨none,0,0⟩,(0:Int),(0:Int),(0:Int),(0:Int),⟨none,0,0⟩⟩ ⟨(0:Int),⟨none,0,0⟩,⟨none,0,0⟩⟩ (22:Int) (1048576:Int) h
 else
 NewW [b.v,(.int .i64 (0:Int)),(.int .i64 (0:Int)),(.int .i64 (0:Int))] (fun a h1=>
 Call0 P zco [(.pointer (some a)),(.string ⟨#[70,66,83,78,1]⟩)] (fun h2=>
 CallT P zif [(.pointer (some a))] sh_api_Config (fun r h3=>
 CallT P zad [(.pointer (some a)),(.int .i64 (8:Int))] (shInt .u64) (fun r1 h4=>
 LoopW2 (α1:=Int) (α2:=S_api_State) (fun again i s h5=>
 NilW (some (decide (i<((r.Labels.len:Nat):Int)))) (some a) fun p=>
 LdW (some (decide (i<((r.Labels.len:Nat):Int)))) (shInt .i64) h5 (Addr.add p 2) fun x=>
 LetW ((decide (i<((r.Labels.len:Nat):Int)))&&(x==(0:Int))) fun y=>
 (if y=true then
 CallT P zgr [(.pointer (some a)),r.v] sh_api_Part (fun r2 h6=>
 ((True∧True)∧NewW [(.int .i64 r2.Cursor),r2.Log.v,(.int .i64 r2.Lost),(.int .i64 r2.Forbidden),r2.Owners.v,r2.Queues.v] (fun a1 h7=>
 ((True∧True)∧zas 6 96 [(.int .i64 (0:Int)),(.slice none 0 0),(.int .i64 (0:Int)),(.int .i64 (0:Int)),(.slice none 0 0),(.slice none 0 0)] ⟨s.Parts.base,s.Parts.len,s.Parts.cap⟩ ⟨(some a1),1,1⟩ (fun r3 h8=>
 again (IntKind.wrap .i64 (i+(1:Int))) ⟨s.Tick,r3,s.Procs⟩ h8) h7)) h6)) h5
 else
 LoopW2 (α1:=Int) (α2:=S_api_State) (fun again1 i1 s1 h6=>
 NilW (some (decide (i1<((r.Procs.len:Nat):Int)))) (some a) fun p1=>
 LdW (some (decide (i1<((r.Procs.len:Nat):Int)))) (shInt .i64) h6 (Addr.add p1 2) fun x1=>
 LetW ((decide (i1<((r.Procs.len:Nat):Int)))&&(x1==(0:Int))) fun y1=>
 (if y1=true then
 CallT P zep [(.pointer (some a)),r.v] sh_api_Process (fun r2 h7=>
 ((True∧True)∧NewW [(.int .i64 r2.State),(.int .i64 r2.PC),(.int .i64 r2.Regs_0),(.int .i64 r2.Regs_1),(.int .i64 r2.Regs_2),(.int .i64 r2.Regs_3),(.int .i64 r2.Regs_4),(.int .i64 r2.Regs_5),(.int .i64 r2.Regs_6),(.int .i64 r2.Regs_7),(.int .i64 r2.Cursor),(.int .i64 r2.Timer),(.bool r2.Fired),(.int .i64 r2.Wake),r2.Lanes.v] (fun a1 h8=>
 ((True∧True)∧zas 15 136 [(.int .i64 (0:Int)),(.int .i64 (0:Int)),(.int .i64 (0:Int)),(.int .i64 (0:Int)),(.int .i64 (0:Int)),(.int .i64 (0:Int)),(.int .i64 (0:Int)),(.int .i64 (0:Int)),(.int .i64 (0:Int)),(.int .i64 (0:Int)),(.int .i64 (0:Int)),(.int .i64 (0:Int)),(.bool false),(.int .i64 (0:Int)),(.slice none 0 0)] ⟨s1.Procs.base,s1.Procs.len,s1.Procs.cap⟩ ⟨(some a1),1,1⟩ (fun r3 h9=>
 again1 (IntKind.wrap .i64 (i1+(1:Int))) ⟨s1.Tick,s1.Parts,r3⟩ h9) h8)) h7)) h6
 else
 JoinW0 (fun k=>
 NilW none (some a) fun p2=>
 LdW none (shInt .i64) h6 (Addr.add p2 2) fun x2=>
 NilW (some (x2==(0:Int))) (some a) fun p3=>
 LdW (some (x2==(0:Int))) (shInt .i64) h6 (Addr.add p3 1) fun x3=>
 LetW ((x2==(0:Int))&&(decide (x3<((b.len:Nat):Int)))) fun y2=>
 (if y2=true then
 NilW none (some a) fun p4=>
 LdW none (shInt .i64) h6 (Addr.add p4 1) fun x4=>
 Call0 P zah [(.pointer (some a)),(.int .i64 (6:Int)),(.int .i64 x4)] (fun h7=>
 k h7) h6
 else
 k h6))
 (fun h7=>
 NilW none (some a) fun p2=>
 LdW none (shInt .i64) h7 (Addr.add p2 2) fun x2=>
 (if (x2 !=(0:Int))=true then
 NilW none (some a) fun p3=>
 LdW none (shInt .i64) h7 (Addr.add p3 2) fun x3=>
 NilW none (some a) fun p4=>
 LdW none (shInt .i64) h7 (Addr.add p4 3) fun x4=>
 (((LdIs h7 (Addr.add p3 2) [(.int .i64 x3)])∧((LdIs h7 (Addr.add p4 3) [(.int .i64 x4)])∧True))∧(((LdIs h7 (Addr.add p3 2) [(.int .i64 x3)])∧((LdIs h7 (Addr.add p4 3) [(.int .i64 x4)])∧True))∧Q ⟨⟨none,0,0⟩,⟨none,0,0⟩,(0:Int),(0:Int),(0:Int),(0:Int),⟨none,0,0⟩⟩ ⟨(0:Int),⟨none,0,0⟩,⟨none,0,0⟩⟩ x3 x4 h7))
 else
 CallT P zli [r.v,s1.v] (shInt .i64) (fun r2 h8=>
 (if (r2 !=(0:Int))=true then
 Q ⟨⟨none,0,0⟩,⟨none,0,0⟩,(0:Int),(0:Int),(0:Int),(0:Int),⟨none,0,0⟩⟩ ⟨(0:Int),⟨none,0,0⟩,⟨none,0,0⟩⟩ r2 (0:Int) h8
 else
 ((True∧True)∧Q r s1 (0:Int) (0:Int) h8))) h7)))) (0:Int) s h5)) (0:Int) ⟨(IntKind.wrap .i64 r1),⟨none,0,0⟩,⟨none,0,0⟩⟩ h4) h3) h2) h1) h)
def zgg (P:Program) (a:S_api_Config) (b:S_api_Config) (Q:(Bool→(Hp→Prop))) (h:Hp):Prop:=
 CallT P zgs [a.v,b.v] zaf (fun r h1=>
 LoopW2 (α1:=Bool) (α2:=Int) (fun again ok i h2=>
 LetW (ok&&(decide (i<((a.Procs.len:Nat):Int)))) fun y=>
 (if y=true then
 ((InB a.Procs.base a.Procs.len i)∧LdW none shSl h2 (Addr.add (sat a.Procs.base 2 i) 1) fun x=>
 ((InB b.Procs.base b.Procs.len i)∧LdW none shSl h2 (Addr.add (sat b.Procs.base 2 i) 1) fun x1=>
 CallT P zkh [x.v,x1.v] zaf (fun r1 h3=>
 again r1 (IntKind.wrap .i64 (i+(1:Int))) h3) h2))
 else
 Q ok h2)) r (0:Int) h1) h
def zgh (P:Program) (a:S_api_State) (b:S_api_State) (Q:(Bool→(Hp→Prop))) (h:Hp):Prop:=
 LetW ((a.Tick !=b.Tick) || (((a.Parts.len:Nat):Int) !=((b.Parts.len:Nat):Int))) fun y=>
 LetW (y || (((a.Procs.len:Nat):Int) !=((b.Procs.len:Nat):Int))) fun y1=>
 (if y1=true then
 Q false h
 else
 LoopW1 (α1:=Int) (fun again i h1=>
 (if (decide (i<((a.Parts.len:Nat):Int)))=true then
 ((InB a.Parts.base a.Parts.len i)∧LdW none sh_api_Part h1 (sat a.Parts.base 6 i) fun x=>
 ((InB b.Parts.base b.Parts.len i)∧LdW none sh_api_Part h1 (sat b.Parts.base 6 i) fun x1=>
 CallT P zgt [x.v,x1.v] zaf (fun r h2=>
 (if (!r)=true then
 Q false h2
 else
 again (IntKind.wrap .i64 (i+(1:Int))) h2)) h1))
 else
 LoopW1 (α1:=Int) (fun again1 i1 h2=>
 (if (decide (i1<((a.Procs.len:Nat):Int)))=true then
 ((InB a.Procs.base a.Procs.len i1)∧LdW none sh_api_Process h2 (sat a.Procs.base 15 i1) fun x=>
 ((InB b.Procs.base b.Procs.len i1)∧LdW none sh_api_Process h2 (sat b.Procs.base 15 i1) fun x1=>
 CallT P zeq [x.v,x1.v] zaf (fun r h3=>
 (if (!r)=true then
 Q false h3
 else
 again1 (IntKind.wrap .i64 (i1+(1:Int))) h3)) h2))
 else
 Q true h2)) (0:Int) h1)) (0:Int) h)
def zrz (P:Program) (c:S_api_Config) (s:S_api_State) (Q:(Int→(Hp→Prop))) (h:Hp):Prop:=
 Call2 P zdm1 [c.v] (shInt .i64) (shInt .i64) (fun r r1 h1=>
 (if (r !=(0:Int))=true then
 Q r h1
 else
 Call3 P zfk1 [c.Labels.v] shPtr (shInt .i64) (shInt .i64) (fun r2 r3 r4 h2=>
 LetW ((decide (s.Tick<(0:Int))) || (decide (s.Tick>(4611686018427387904:Int)))) fun y=>
 LetW (y || (((s.Parts.len:Nat):Int) !=((c.Labels.len:Nat):Int))) fun y1=>
 LetW (y1 || (((s.Procs.len:Nat):Int) !=((c.Procs.len:Nat):Int))) fun y2=>
 (if y2=true then
 Q (4:Int) h2
 else
 LoopW1 (α1:=Int) (fun again t61 h3=>
 (if (decide (t61<((s.Parts.len:Nat):Int)))=true then
 CallT P zlj [(.agg #[c.Labels.v,c.Table.v,(.int .i64 c.Fuel),(.int .i64 c.Lane),(.int .i64 c.Locks),(.int .i64 c.Log),c.Procs.v,(.int .i64 s.Tick),s.Parts.v,s.Procs.v,(.pointer r2)]),(.int .i64 t61)] zaf (fun r5 h4=>
 (if (!r5)=true then
 Q (4:Int) h4
 else
 again (IntKind.wrap .i64 (t61+(1:Int))) h4)) h3
 else
 LoopW1 (α1:=Int) (fun again1 t72 h4=>
 (if (decide (t72<((s.Procs.len:Nat):Int)))=true then
 CallT P zlk [(.agg #[c.Labels.v,c.Table.v,(.int .i64 c.Fuel),(.int .i64 c.Lane),(.int .i64 c.Locks),(.int .i64 c.Log),c.Procs.v,(.int .i64 s.Tick),s.Parts.v,s.Procs.v,(.pointer r2)]),(.int .i64 t72)] zaf (fun r5 h5=>
 (if (!r5)=true then
 Q (4:Int) h5
 else
 again1 (IntKind.wrap .i64 (t72+(1:Int))) h5)) h4
 else
 CallT P zki [(.agg #[c.Labels.v,c.Table.v,(.int .i64 c.Fuel),(.int .i64 c.Lane),(.int .i64 c.Locks),(.int .i64 c.Log),c.Procs.v,(.int .i64 s.Tick),s.Parts.v,s.Procs.v,(.pointer r2)])] zaf (fun r5 h5=>
 (if (!r5)=true then
 Q (4:Int) h5
 else
 Q (0:Int) h5)) h4)) (0:Int) h3)) (0:Int) h2)) h1)) h
def zdg (P:Program) (s:S_api_State) (Q:(Bool→(Hp→Prop))) (h:Hp):Prop:=
 LoopW1 (α1:=Int) (fun again turn h1=>
 (if (decide (turn<(2:Int)))=true then
 LoopW2 (α1:=Int) (α2:=Int) (fun again1 n t22 h2=>
 (if (decide (t22<((s.Procs.len:Nat):Int)))=true then
 ((InB s.Procs.base s.Procs.len t22)∧LdW none shSl h2 (Addr.add (sat s.Procs.base 15 t22) 14) fun x=>
 LoopW2 (α1:=Int) (α2:=Int) (fun again2 n1 t32 h3=>
 (if (decide (t32<((x.len:Nat):Int)))=true then
 JoinW1 (α1:=Int) (fun k=>
 ((InB s.Procs.base s.Procs.len t22)∧LdW none shSl h3 (Addr.add (sat s.Procs.base 15 t22) 14) fun x1=>
 ((InB x1.base x1.len t32)∧LoopW1 (α1:=Int) (fun again3 j h4=>
 NilW (some (turn==(0:Int))) (some (sat x1.base 4 t32)) fun p=>
 LdW (some (turn==(0:Int))) shSl h4 (Addr.add p 0) fun x2=>
 LetW ((turn==(0:Int))&&(decide (j<((x2.len:Nat):Int)))) fun y=>
 (if y=true then
 NilW none (some (sat x1.base 4 t32)) fun p1=>
 LdW none shSl h4 (Addr.add p1 0) fun x3=>
 ((InB x3.base x3.len j)∧StW h4 (sat x3.base 1 j) [(.int .i64 (IntKind.wrap .i64 (n1+(1:Int))))] (fun h5=>
 again3 (IntKind.wrap .i64 (j+(1:Int))) h5))
 else
 LoopW1 (α1:=Int) (fun again4 j1 h5=>
 NilW (some (turn==(0:Int))) (some (sat x1.base 4 t32)) fun p1=>
 LdW (some (turn==(0:Int))) shSl h5 (Addr.add p1 1) fun x3=>
 LetW ((turn==(0:Int))&&(decide (j1<((x3.len:Nat):Int)))) fun y1=>
 (if y1=true then
 NilW none (some (sat x1.base 4 t32)) fun p2=>
 LdW none shSl h5 (Addr.add p2 1) fun x4=>
 ((InB x4.base x4.len j1)∧StW h5 (Addr.add (sat x4.base 2 j1) 0) [(.int .i64 (IntKind.wrap .i64 (n1+(1:Int))))] (fun h6=>
 again4 (IntKind.wrap .i64 (j1+(1:Int))) h6))
 else
 (if (turn==(1:Int))=true then
 NilW none (some (sat x1.base 4 t32)) fun p2=>
 LdW none shSl h5 (Addr.add p2 0) fun x4=>
 NewW [(.int .i64 (IntKind.wrap .i64 (n1+(1:Int)))),(.int .i64 (IntKind.wrap .i64 (n1+(1:Int)))),(.int .i64 (IntKind.wrap .i64 (n1+(1:Int))))] (fun a h6=>
 zas 1 8 [(.int .i64 (0:Int))] x4 ⟨(some a),3,3⟩ (fun r h7=>
 NilW none (some (sat x1.base 4 t32)) fun p3=>
 StW h7 (Addr.add p3 0) [r.v] (fun h8=>
 NilW none (some (sat x1.base 4 t32)) fun p4=>
 LdW none shSl h8 (Addr.add p4 1) fun x5=>
 NewW [(.int .i64 (IntKind.wrap .i64 (n1+(1:Int)))),(.int .i64 (0:Int)),(.int .i64 (IntKind.wrap .i64 (n1+(1:Int)))),(.int .i64 (0:Int))] (fun a1 h9=>
 zas 2 16 [(.int .i64 (0:Int)),(.int .i64 (0:Int))] x5 ⟨(some a1),2,2⟩ (fun r1 h10=>
 NilW none (some (sat x1.base 4 t32)) fun p5=>
 StW h10 (Addr.add p5 1) [r1.v] (fun h11=>
 k (IntKind.wrap .i64 (n1+(1:Int))) h11)) h9) h8)) h6) h5
 else
 k (IntKind.wrap .i64 (n1+(1:Int))) h5))) (0:Int) h4)) (0:Int) h3)))
 (fun n2 h4=>
 again2 n2 (IntKind.wrap .i64 (t32+(1:Int))) h4)
 else
 again1 n1 (IntKind.wrap .i64 (t22+(1:Int))) h3)) n (0:Int) h2)
 else
 LoopW2 (α1:=Int) (α2:=Int) (fun again2 n1 t118 h3=>
 (if (decide (t118<((s.Parts.len:Nat):Int)))=true then
 ((InB s.Parts.base s.Parts.len t118)∧LoopW1 (α1:=Int) (fun again3 j h4=>
 NilW (some (turn==(0:Int))) (some (sat s.Parts.base 6 t118)) fun p=>
 LdW (some (turn==(0:Int))) shSl h4 (Addr.add p 1) fun x=>
 LetW ((turn==(0:Int))&&(decide (j<((x.len:Nat):Int)))) fun y=>
 (if y=true then
 NilW none (some (sat s.Parts.base 6 t118)) fun p1=>
 LdW none shSl h4 (Addr.add p1 1) fun x1=>
 ((InB x1.base x1.len j)∧StW h4 (Addr.add (sat x1.base 3 j) 1) [(.int .i64 (IntKind.wrap .i64 (n1+(1:Int))))] (fun h5=>
 again3 (IntKind.wrap .i64 (j+(1:Int))) h5))
 else
 JoinW0 (fun k=>
 (if (turn==(1:Int))=true then
 NilW none (some (sat s.Parts.base 6 t118)) fun p1=>
 LdW none shSl h4 (Addr.add p1 1) fun x1=>
 NewW [(.int .i64 (0:Int)),(.int .i64 (IntKind.wrap .i64 (n1+(1:Int)))),(.int .i64 (0:Int)),(.int .i64 (0:Int)),(.int .i64 (IntKind.wrap .i64 (n1+(1:Int)))),(.int .i64 (0:Int))] (fun a h5=>
 zas 3 24 [(.int .i64 (0:Int)),(.int .i64 (0:Int)),(.int .i64 (0:Int))] x1 ⟨(some a),2,2⟩ (fun r h6=>
 NilW none (some (sat s.Parts.base 6 t118)) fun p2=>
 StW h6 (Addr.add p2 1) [r.v] (fun h7=>
 k h7)) h5) h4
 else
 k h4))
 (fun h5=>
 NilW none (some (sat s.Parts.base 6 t118)) fun p1=>
 LdW none shSl h5 (Addr.add p1 5) fun x1=>
 LoopW2 (α1:=Int) (α2:=Int) (fun again4 n2 t168 h6=>
 (if (decide (t168<((x1.len:Nat):Int)))=true then
 JoinW1 (α1:=Int) (fun k=>
 LoopW1 (α1:=Int) (fun again5 j1 h7=>
 NilW (some (turn==(0:Int))) (some (sat s.Parts.base 6 t118)) fun p2=>
 LdW (some (turn==(0:Int))) shSl h7 (Addr.add p2 5) fun x2=>
 (((turn==(0:Int))=true→(InB x2.base x2.len t168))∧LdW (some (turn==(0:Int))) shSl h7 (sat x2.base 1 t168) fun x3=>
 LetW ((turn==(0:Int))&&(decide (j1<((x3.len:Nat):Int)))) fun y1=>
 (if y1=true then
 NilW none (some (sat s.Parts.base 6 t118)) fun p3=>
 LdW none shSl h7 (Addr.add p3 5) fun x4=>
 ((InB x4.base x4.len t168)∧LdW none shSl h7 (sat x4.base 1 t168) fun x5=>
 ((InB x5.base x5.len j1)∧StW h7 (sat x5.base 1 j1) [(.int .i64 (IntKind.wrap .i64 (n2+(1:Int))))] (fun h8=>
 again5 (IntKind.wrap .i64 (j1+(1:Int))) h8)))
 else
 (if (turn==(1:Int))=true then
 NilW none (some (sat s.Parts.base 6 t118)) fun p3=>
 LdW none shSl h7 (Addr.add p3 5) fun x4=>
 NilW none (some (sat s.Parts.base 6 t118)) fun p4=>
 LdW none shSl h7 (Addr.add p4 5) fun x5=>
 ((InB x5.base x5.len t168)∧LdW none shSl h7 (sat x5.base 1 t168) fun x6=>
 NewW [(.int .i64 (IntKind.wrap .i64 (n2+(1:Int)))),(.int .i64 (IntKind.wrap .i64 (n2+(1:Int)))),(.int .i64 (IntKind.wrap .i64 (n2+(1:Int))))] (fun a h8=>
 (((LdIs h8 (Addr.add p3 5) [x4.v])∧((LdIs h8 (Addr.add p4 5) [x5.v])∧((LdIs h8 (sat x5.base 1 t168) [x6.v])∧True)))∧zas 1 8 [(.int .i64 (0:Int))] x6 ⟨(some a),3,3⟩ (fun r h9=>
 (((LdIs h9 (Addr.add p3 5) [x4.v])∧True)∧((InB x4.base x4.len t168)∧StW h9 (sat x4.base 1 t168) [r.v] (fun h10=>
 k (IntKind.wrap .i64 (n2+(1:Int))) h10)))) h8)) h7)
 else
 k (IntKind.wrap .i64 (n2+(1:Int))) h7)))) (0:Int) h6)
 (fun n3 h7=>
 again4 n3 (IntKind.wrap .i64 (t168+(1:Int))) h7)
 else
 again2 n2 (IntKind.wrap .i64 (t118+(1:Int))) h6)) (IntKind.wrap .i64 (n1+(1:Int))) (0:Int) h5))) (0:Int) h3)
 else
 again (IntKind.wrap .i64 (turn+(1:Int))) h3)) n (0:Int) h2)) (0:Int) (0:Int) h1
 else
 CallT P zkj [s.v] zaf (fun r h2=>
 Q r h2) h1)) (0:Int) h
def zfs (P:Program)  (Q:(S_api_Config→(S_api_State→(Hp→Prop)))) (h:Hp):Prop:=
 NewW [(.int .u64 (0:Int))] (fun a h1=>
 NewW [(.int .i64 (0:Int))] (fun a1 h2=>
 NewW [(.int .i64 (0:Int)),(.slice none 0 0)] (fun a2 h3=>
 NewW [(.int .i64 (0:Int)),(.slice none 0 0),(.int .i64 (0:Int)),(.int .i64 (0:Int)),(.slice none 0 0),(.slice none 0 0)] (fun a3 h4=>
 NewW [(.slice none 0 0),(.slice none 0 0),(.int .i64 (0:Int)),(.int .i64 (0:Int)),(.slice none 0 0),(.slice none 0 0),(.int .i64 (0:Int)),(.int .i64 (0:Int))] (fun a4 h5=>
 NewW [(.int .i64 (0:Int)),(.int .i64 (0:Int)),(.int .i64 (0:Int)),(.int .i64 (0:Int)),(.int .i64 (0:Int)),(.int .i64 (0:Int)),(.int .i64 (0:Int)),(.int .i64 (0:Int)),(.int .i64 (0:Int)),(.int .i64 (0:Int)),(.int .i64 (0:Int)),(.int .i64 (0:Int)),(.bool false),(.int .i64 (0:Int)),(.slice (some a4) 2 2)] (fun a5 h6=>
 Q ⟨⟨(some a),1,1⟩,⟨(some a1),1,1⟩,(1:Int),(1:Int),(0:Int),(0:Int),⟨(some a2),1,1⟩⟩ ⟨(0:Int),⟨(some a3),1,1⟩,⟨(some a5),1,1⟩⟩ h6) h5) h4) h3) h2) h1) h
def zsa (P:Program) (c:S_api_Config) (Q:(Sl→(Int→(Hp→Prop)))) (h:Hp):Prop:=
 Call2 P zdm1 [c.v] (shInt .i64) (shInt .i64) (fun r r1 h1=>
 (if (r !=(0:Int))=true then
 Q ⟨none,0,0⟩ r h1
 else
 NewW [(.int .u8 (70:Int)),(.int .u8 (66:Int)),(.int .u8 (67:Int)),(.int .u8 (70:Int)),(.int .u8 (1:Int))] (fun a h2=>
 MarkW (some a) (fun r2 h3=>
 NewW [(.int .u8 (IntKind.wrap .u8 ((c.Labels.len:Nat):Int)))] (fun a1 h4=>
 zas 1 1 [(.int .u8 (0:Int))] ⟨(some a),5,5⟩ ⟨(some a1),1,1⟩ (fun r3 h5=>
 LoopW2 (α1:=Sl) (α2:=Int) (fun again b t35 h6=>
 (if (decide (t35<((c.Labels.len:Nat):Int)))=true then
 ((InB c.Labels.base c.Labels.len t35)∧LdW none (shInt .u64) h6 (sat c.Labels.base 1 t35) fun x=>
 CallT P zmv [b.v,(.int .u64 x),(.int .i64 (8:Int))] shSl (fun r4 h7=>
 again r4 (IntKind.wrap .i64 (t35+(1:Int))) h7) h6)
 else
 NewW [(.int .u8 (IntKind.wrap .u8 ((c.Table.len:Nat):Int)))] (fun a2 h7=>
 zas 1 1 [(.int .u8 (0:Int))] ⟨b.base,b.len,b.cap⟩ ⟨(some a2),1,1⟩ (fun r4 h8=>
 LoopW2 (α1:=Sl) (α2:=Int) (fun again1 b1 t53 h9=>
 (if (decide (t53<((c.Table.len:Nat):Int)))=true then
 ((InB c.Table.base c.Table.len t53)∧LdW none (shInt .i64) h9 (sat c.Table.base 1 t53) fun x=>
 NewW [(.int .u8 (IntKind.wrap .u8 x))] (fun a3 h10=>
 zas 1 1 [(.int .u8 (0:Int))] ⟨b1.base,b1.len,b1.cap⟩ ⟨(some a3),1,1⟩ (fun r5 h11=>
 again1 r5 (IntKind.wrap .i64 (t53+(1:Int))) h11) h10) h9)
 else
 CallT P zmv [b1.v,(.int .u64 (IntKind.wrap .u64 c.Fuel)),(.int .i64 (2:Int))] shSl (fun r5 h10=>
 NewW [(.int .u8 (IntKind.wrap .u8 c.Lane)),(.int .u8 (IntKind.wrap .u8 c.Locks))] (fun a3 h11=>
 zas 1 1 [(.int .u8 (0:Int))] r5 ⟨(some a3),2,2⟩ (fun r6 h12=>
 CallT P zmv [r6.v,(.int .u64 (IntKind.wrap .u64 c.Log)),(.int .i64 (2:Int))] shSl (fun r7 h13=>
 NewW [(.int .u8 (IntKind.wrap .u8 ((c.Procs.len:Nat):Int)))] (fun a4 h14=>
 zas 1 1 [(.int .u8 (0:Int))] r7 ⟨(some a4),1,1⟩ (fun r8 h15=>
 LoopW2 (α1:=Sl) (α2:=Int) (fun again2 b2 t92 h16=>
 (if (decide (t92<((c.Procs.len:Nat):Int)))=true then
 ((InB c.Procs.base c.Procs.len t92)∧LdW none sh_api_Proc h16 (sat c.Procs.base 2 t92) fun x=>
 Call3 P zrt [x.Code.v] shSl (shInt .i64) (shInt .i64) (fun r9 r10 r11 h17=>
 NewW [(.int .u8 (IntKind.wrap .u8 x.Part))] (fun a5 h18=>
 zas 1 1 [(.int .u8 (0:Int))] ⟨b2.base,b2.len,b2.cap⟩ ⟨(some a5),1,1⟩ (fun r12 h19=>
 CallT P zmv [r12.v,(.int .u64 (IntKind.wrap .u64 ((x.Code.len:Nat):Int))),(.int .i64 (2:Int))] shSl (fun r13 h20=>
 zas 1 1 [(.int .u8 (0:Int))] r13 ⟨r9.base,r9.len,r9.cap⟩ (fun r14 h21=>
 again2 r14 (IntKind.wrap .i64 (t92+(1:Int))) h21) h20) h19) h18) h17) h16)
 else
 Q ⟨b2.base,b2.len,b2.cap⟩ (0:Int) h16)) r8 (0:Int) h15) h14) h13) h12) h11) h10) h9)) r4 (0:Int) h8) h7) h6)) r3 (0:Int) h5) h4) h3) h2) h1)) h
def zhb (P:Program) (w:Option Addr) (n:Int) (many:Int) (Q:(Hp→Prop)) (h:Hp):Prop:=
 Call0 P zav [(.pointer w),(.int .i64 n),(.int .i64 many)] (fun h1=>
 Q h1) h
def zjm (P:Program) (w:Option Addr) (n:Int) (many:Int) (Q:(Hp→Prop)) (h:Hp):Prop:=
 LoopW1 (α1:=Int) (fun again t8 h1=>
 (if (decide (t8<many))=true then
 NilW none w fun p=>
 LdW none shSl h1 (Addr.add p 0) fun x=>
 ((0:Int)≤(IntKind.wrap .i64 ((8:Int)*t8))∧NewW [(.int .u8 (IntKind.wrap .u8 (shrI .u64 (IntKind.wrap .u64 n) (IntKind.wrap .i64 ((8:Int)*t8)))))] (fun a h2=>
 (((LdIs h2 (Addr.add p 0) [x.v])∧True)∧zas 1 1 [(.int .u8 (0:Int))] x ⟨(some a),1,1⟩ (fun r h3=>
 NilW none w fun p1=>
 StW h3 (Addr.add p1 0) [r.v] (fun h4=>
 again (IntKind.wrap .i64 (t8+(1:Int))) h4)) h2)) h1)
 else
 Q h1)) (0:Int) h
def zjn (P:Program) (w:Option Addr) (x:S_api_Part) (Q:(Hp→Prop)) (h:Hp):Prop:=
 NilW none w fun p=>
 Call0 P zag [(.pointer (some (Addr.add p 0))),(.int .i64 x.Cursor),(.int .i64 (1:Int))] (fun h1=>
 NilW none w fun p1=>
 Call0 P zag [(.pointer (some (Addr.add p1 0))),(.int .i64 ((x.Log.len:Nat):Int)),(.int .i64 (2:Int))] (fun h2=>
 LoopW1 (α1:=Int) (fun again t26 h3=>
 (if (decide (t26<((x.Log.len:Nat):Int)))=true then
 ((InB x.Log.base x.Log.len t26)∧LdW none sh_api_Entry h3 (sat x.Log.base 3 t26) fun x1=>
 NilW none w fun p2=>
 Call0 P zav [(.pointer (some (Addr.add p2 0))),(.int .i64 x1.Tick),(.int .i64 (8:Int))] (fun h4=>
 NilW none w fun p3=>
 Call0 P zag [(.pointer (some (Addr.add p3 0))),(.int .i64 x1.Proc),(.int .i64 (1:Int))] (fun h5=>
 NilW none w fun p4=>
 Call0 P zav [(.pointer (some (Addr.add p4 0))),(.int .i64 x1.Value_),(.int .i64 (8:Int))] (fun h6=>
 again (IntKind.wrap .i64 (t26+(1:Int))) h6) h5) h4) h3)
 else
 NilW none w fun p2=>
 Call0 P zag [(.pointer (some (Addr.add p2 0))),(.int .i64 x.Lost),(.int .i64 (2:Int))] (fun h4=>
 NilW none w fun p3=>
 Call0 P zag [(.pointer (some (Addr.add p3 0))),(.int .i64 x.Forbidden),(.int .i64 (2:Int))] (fun h5=>
 LoopW1 (α1:=Int) (fun again1 t64 h6=>
 (if (decide (t64<((x.Owners.len:Nat):Int)))=true then
 ((InB x.Owners.base x.Owners.len t64)∧LdW none (shInt .i64) h6 (sat x.Owners.base 1 t64) fun x1=>
 NilW none w fun p4=>
 Call0 P zag [(.pointer (some (Addr.add p4 0))),(.int .i64 (IntKind.wrap .i64 (x1+(1:Int)))),(.int .i64 (1:Int))] (fun h7=>
 NilW none w fun p5=>
 ((InB x.Queues.base x.Queues.len t64)∧LdW none shSl h7 (sat x.Queues.base 1 t64) fun x2=>
 Call0 P zag [(.pointer (some (Addr.add p5 0))),(.int .i64 ((x2.len:Nat):Int)),(.int .i64 (1:Int))] (fun h8=>
 ((InB x.Queues.base x.Queues.len t64)∧LdW none shSl h8 (sat x.Queues.base 1 t64) fun x3=>
 LoopW1 (α1:=Int) (fun again2 t91 h9=>
 (if (decide (t91<((x3.len:Nat):Int)))=true then
 ((InB x3.base x3.len t91)∧LdW none (shInt .i64) h9 (sat x3.base 1 t91) fun x4=>
 NilW none w fun p6=>
 Call0 P zag [(.pointer (some (Addr.add p6 0))),(.int .i64 x4),(.int .i64 (1:Int))] (fun h10=>
 again2 (IntKind.wrap .i64 (t91+(1:Int))) h10) h9)
 else
 again1 (IntKind.wrap .i64 (t64+(1:Int))) h9)) (0:Int) h8)) h7)) h6)
 else
 Q h6)) (0:Int) h5) h4) h3)) (0:Int) h2) h1) h
def zjo (P:Program) (w:Option Addr) (x:S_api_Process) (Q:(Hp→Prop)) (h:Hp):Prop:=
 NilW none w fun p=>
 Call0 P zag [(.pointer (some (Addr.add p 0))),(.int .i64 x.State),(.int .i64 (1:Int))] (fun h1=>
 NilW none w fun p1=>
 Call0 P zag [(.pointer (some (Addr.add p1 0))),(.int .i64 x.PC),(.int .i64 (2:Int))] (fun h2=>
 LoopW1 (α1:=Int) (fun again t23 h3=>
 (if (decide (t23<(8:Int)))=true then
 (((0:Int)≤t23∧t23<(8:Int))∧∃x1:Int,((List.get?Internal (α:=Value) [(.int .i64 x.Regs_0),(.int .i64 x.Regs_1),(.int .i64 x.Regs_2),(.int .i64 x.Regs_3),(.int .i64 x.Regs_4),(.int .i64 x.Regs_5),(.int .i64 x.Regs_6),(.int .i64 x.Regs_7)] ((Int.toNat t23)*1))=(some (.int .i64 x1))∧NilW none w fun p2=>
 Call0 P zav [(.pointer (some (Addr.add p2 0))),(.int .i64 x1),(.int .i64 (8:Int))] (fun h4=>
 again (IntKind.wrap .i64 (t23+(1:Int))) h4) h3))
 else
 NilW none w fun p2=>
 Call0 P zag [(.pointer (some (Addr.add p2 0))),(.int .i64 x.Cursor),(.int .i64 (1:Int))] (fun h4=>
 NilW none w fun p3=>
 Call0 P zav [(.pointer (some (Addr.add p3 0))),(.int .i64 x.Timer),(.int .i64 (8:Int))] (fun h5=>
 JoinW1 (α1:=Int) (fun k=>
 (if x.Fired=true then
 k (1:Int) h5
 else
 k (0:Int) h5))
 (fun fired h6=>
 NilW none w fun p4=>
 Call0 P zag [(.pointer (some (Addr.add p4 0))),(.int .i64 fired),(.int .i64 (1:Int))] (fun h7=>
 NilW none w fun p5=>
 Call0 P zav [(.pointer (some (Addr.add p5 0))),(.int .i64 x.Wake),(.int .i64 (8:Int))] (fun h8=>
 LoopW1 (α1:=Int) (fun again1 t60 h9=>
 (if (decide (t60<((x.Lanes.len:Nat):Int)))=true then
 ((InB x.Lanes.base x.Lanes.len t60)∧LdW none sh_api_Lane h9 (sat x.Lanes.base 4 t60) fun x1=>
 Call0 P zjl [(.pointer w),x1.v] (fun h10=>
 again1 (IntKind.wrap .i64 (t60+(1:Int))) h10) h9)
 else
 Q h9)) (0:Int) h8) h7) h6)) h4) h3)) (0:Int) h2) h1) h
def zhc (P:Program) (c:S_api_Config) (s:S_api_State) (Q:(Int→(Hp→Prop))) (h:Hp):Prop:=
 Call2 P zll [c.v] (shInt .i64) (shInt .i64) (fun r r1 h1=>
 (if (r !=(0:Int))=true then
 Q r h1
 else
 CallT P zje [c.v,s.v] zaf (fun r2 h2=>
 (if (!r2)=true then
 Q (4:Int) h2
 else
 NewW [c.Labels.v,c.Table.v,(.int .i64 c.Fuel),(.int .i64 c.Lane),(.int .i64 c.Locks),(.int .i64 c.Log),c.Procs.v,(.int .i64 s.Tick),s.Parts.v,s.Procs.v] (fun a h3=>
 LoopW2 (α1:=Bool) (α2:=Int) (fun again is i h4=>
 (if (decide (i<((s.Parts.len:Nat):Int)))=true then
 EffC (some is) (CallT P zej [(.pointer (some a)),(.int .i64 i)] zaf) (fun r3 h5=>
 LetW (is&&r3) fun y=>
 again y (IntKind.wrap .i64 (i+(1:Int))) h5) h4
 else
 LoopW2 (α1:=Bool) (α2:=Int) (fun again1 is1 p h5=>
 (if (decide (p<((s.Procs.len:Nat):Int)))=true then
 EffC (some is1) (CallT P zda [(.pointer (some a)),(.int .i64 p)] zaf) (fun r3 h6=>
 LetW (is1&&r3) fun y=>
 again1 y (IntKind.wrap .i64 (p+(1:Int))) h6) h5
 else
 LoopW2 (α1:=Bool) (α2:=Int) (fun again2 is2 p1 h6=>
 LetW ((decide (p1<((s.Procs.len:Nat):Int)))&&is2) fun y=>
 (if y=true then
 EffC (some is2) (CallT P zdw [(.pointer (some a)),(.int .i64 p1)] zaf) (fun r3 h7=>
 LetW (is2&&r3) fun y1=>
 again2 y1 (IntKind.wrap .i64 (p1+(1:Int))) h7) h6
 else
 (if (!is2)=true then
 Q (4:Int) h6
 else
 Q (0:Int) h6))) is1 (0:Int) h5)) is (0:Int) h4)) r2 (0:Int) h3) h2)) h1)) h
def zil (P:Program) (r:Option Addr) (Q:(S_api_State→(Hp→Prop))) (h:Hp):Prop:=
 LoopW1 (α1:=Int) (fun again t7 h1=>
 (if (decide (t7<(5:Int)))=true then
 JoinW0 (fun k=>
 NilW none r fun p=>
 LdW none (shInt .i64) h1 (Addr.add (Addr.add p 0) 1) fun x=>
 NilW none r fun p1=>
 CallT P zbc [(.pointer (some (Addr.add p1 0))),(.int .i64 (1:Int))] (shInt .i64) (fun r1 h2=>
 (((0:Int)≤t7∧t7<(5:Int))∧(if ((IntKind.wrap .u8 r1) !=(((UInt8.toNat (List.getD [70,66,83,78,1] (Int.toNat t7) 0)):Nat):Int))=true then
 NilW none r fun p2=>
 Call0 P zbd [(.pointer (some (Addr.add p2 0))),(.int .i64 (4:Int)),(.int .i64 x)] (fun h3=>
 k h3) h2
 else
 k h2))) h1)
 (fun h2=>
 again (IntKind.wrap .i64 (t7+(1:Int))) h2)
 else
 Call0 P zlm [(.pointer r)] (fun h2=>
 NilW none r fun p=>
 CallT P zbc [(.pointer (some (Addr.add p 0))),(.int .i64 (8:Int))] (shInt .i64) (fun r1 h3=>
 NilW none r fun p1=>
 LdW none shSl h3 (Addr.add (Addr.add p1 4) 0) fun x=>
 LoopW2 (α1:=Int) (α2:=S_api_State) (fun again1 t43 s h4=>
 (if (decide (t43<((x.len:Nat):Int)))=true then
 CallT P znd [(.pointer r)] sh_api_Part (fun r2 h5=>
 ((True∧True)∧NewW [(.int .i64 r2.Cursor),r2.Log.v,(.int .i64 r2.Lost),(.int .i64 r2.Forbidden),r2.Owners.v,r2.Queues.v] (fun a h6=>
 ((True∧True)∧zas 6 96 [(.int .i64 (0:Int)),(.slice none 0 0),(.int .i64 (0:Int)),(.int .i64 (0:Int)),(.slice none 0 0),(.slice none 0 0)] ⟨s.Parts.base,s.Parts.len,s.Parts.cap⟩ ⟨(some a),1,1⟩ (fun r3 h7=>
 again1 (IntKind.wrap .i64 (t43+(1:Int))) ⟨s.Tick,r3,s.Procs⟩ h7) h6)) h5)) h4
 else
 NilW none r fun p2=>
 LdW none shSl h4 (Addr.add (Addr.add p2 4) 6) fun x1=>
 LoopW2 (α1:=Int) (α2:=S_api_State) (fun again2 t59 s1 h5=>
 (if (decide (t59<((x1.len:Nat):Int)))=true then
 CallT P zne [(.pointer r)] sh_api_Process (fun r2 h6=>
 ((True∧True)∧NewW [(.int .i64 r2.State),(.int .i64 r2.PC),(.int .i64 r2.Regs_0),(.int .i64 r2.Regs_1),(.int .i64 r2.Regs_2),(.int .i64 r2.Regs_3),(.int .i64 r2.Regs_4),(.int .i64 r2.Regs_5),(.int .i64 r2.Regs_6),(.int .i64 r2.Regs_7),(.int .i64 r2.Cursor),(.int .i64 r2.Timer),(.bool r2.Fired),(.int .i64 r2.Wake),r2.Lanes.v] (fun a h7=>
 ((True∧True)∧zas 15 136 [(.int .i64 (0:Int)),(.int .i64 (0:Int)),(.int .i64 (0:Int)),(.int .i64 (0:Int)),(.int .i64 (0:Int)),(.int .i64 (0:Int)),(.int .i64 (0:Int)),(.int .i64 (0:Int)),(.int .i64 (0:Int)),(.int .i64 (0:Int)),(.int .i64 (0:Int)),(.int .i64 (0:Int)),(.bool false),(.int .i64 (0:Int)),(.slice none 0 0)] ⟨s1.Procs.base,s1.Procs.len,s1.Procs.cap⟩ ⟨(some a),1,1⟩ (fun r3 h8=>
 again2 (IntKind.wrap .i64 (t59+(1:Int))) ⟨s1.Tick,s1.Parts,r3⟩ h8) h7)) h6)) h5
 else
 NilW none r fun p3=>
 LdW none (shInt .i64) h5 (Addr.add (Addr.add p3 0) 1) fun x2=>
 NilW none r fun p4=>
 LdW none shSl h5 (Addr.add (Addr.add p4 0) 0) fun x3=>
 (if (decide (x2<((x3.len:Nat):Int)))=true then
 NilW none r fun p5=>
 NilW none r fun p6=>
 LdW none (shInt .i64) h5 (Addr.add (Addr.add p6 0) 1) fun x4=>
 Call0 P zbd [(.pointer (some (Addr.add p5 0))),(.int .i64 (6:Int)),(.int .i64 x4)] (fun h6=>
 Q s1 h6) h5
 else
 Q s1 h5))) (0:Int) s h4)) (0:Int) ⟨r1,⟨none,0,0⟩,⟨none,0,0⟩⟩ h3) h2) h1)) (0:Int) h
def zgi (P:Program) (r:Option Addr) (e:Int) (place:Int) (Q:(Hp→Prop)) (h:Hp):Prop:=
 NilW none r fun p=>
 LdW none (shInt .i64) h (Addr.add p 2) fun x=>
 (if (x==(0:Int))=true then
 NilW none r fun p1=>
 StW h (Addr.add p1 2) [(.int .i64 e)] (fun h1=>
 NilW none r fun p2=>
 StW h1 (Addr.add p2 3) [(.int .i64 place)] (fun h2=>
 Q h2))
 else
 Q h)
def zcp (P:Program) (r:Option Addr) (s:ByteArray) (Q:(Hp→Prop)) (h:Hp):Prop:=
 LoopW1 (α1:=Int) (fun again i h1=>
 (if (decide (i<(((ByteArray.size s):Nat):Int)))=true then
 JoinW0 (fun k=>
 NilW none r fun p=>
 LdW none (shInt .i64) h1 (Addr.add p 1) fun x=>
 CallT P zad [(.pointer r),(.int .i64 (1:Int))] (shInt .u64) (fun r1 h2=>
 NilW none r fun p1=>
 LdW none (shInt .i64) h2 (Addr.add p1 2) fun x1=>
 (((x1==(0:Int))=true→((0:Int)≤i∧i<(((ByteArray.size s):Nat):Int)))∧LetW ((x1==(0:Int))&&(r1 !=(IntKind.wrap .u64 (((UInt8.toNat (List.getD s.data.toList (Int.toNat i) 0)):Nat):Int)))) fun y=>
 (if y=true then
 Call0 P zah [(.pointer r),(.int .i64 (4:Int)),(.int .i64 x)] (fun h3=>
 k h3) h2
 else
 k h2))) h1)
 (fun h2=>
 again (IntKind.wrap .i64 (i+(1:Int))) h2)
 else
 Q h1)) (0:Int) h
def zew (P:Program) (r:Option Addr) (Q:(S_api_Config→(Hp→Prop))) (h:Hp):Prop:=
 CallT P zad [(.pointer r),(.int .i64 (4:Int))] (shInt .u64) (fun r1 h1=>
 NilW none r fun p=>
 LdW none (shInt .i64) h1 (Addr.add p 2) fun x=>
 (if (x !=(0:Int))=true then
 Q ⟨⟨none,0,0⟩,⟨none,0,0⟩,(0:Int),(0:Int),(0:Int),(0:Int),⟨none,0,0⟩⟩ h1
 else
 NilW none r fun p1=>
 LdW none shSl h1 (Addr.add p1 0) fun x1=>
 NilW none r fun p2=>
 LdW none (shInt .i64) h1 (Addr.add p2 1) fun x2=>
 (if (decide (r1>(IntKind.wrap .u64 (IntKind.wrap .i64 (((x1.len:Nat):Int)-x2)))))=true then
 NilW none r fun p3=>
 LdW none shSl h1 (Addr.add p3 0) fun x3=>
 Call0 P zah [(.pointer r),(.int .i64 (5:Int)),(.int .i64 ((x3.len:Nat):Int))] (fun h2=>
 Q ⟨⟨none,0,0⟩,⟨none,0,0⟩,(0:Int),(0:Int),(0:Int),(0:Int),⟨none,0,0⟩⟩ h2) h1
 else
 NilW none r fun p3=>
 LdW none shSl h1 (Addr.add p3 0) fun x3=>
 NilW none r fun p4=>
 LdW none (shInt .i64) h1 (Addr.add p4 1) fun x4=>
 NilW none r fun p5=>
 LdW none (shInt .i64) h1 (Addr.add p5 1) fun x5=>
 (((0:Int)≤x4∧(x4≤(IntKind.wrap .i64 (x5+(IntKind.wrap .i64 r1)))∧(IntKind.wrap .i64 (x5+(IntKind.wrap .i64 r1)))≤((x3.cap:Nat):Int)))∧LetW (α:=Sl) ⟨(sbase x3.base 1 (Int.toNat x4) x3.cap),((Int.toNat (IntKind.wrap .i64 (x5+(IntKind.wrap .i64 r1))))-(Int.toNat x4)),(x3.cap-(Int.toNat x4))⟩ fun y=>
 Call3 P zig [y.v] sh_api_Config (shInt .i64) (shInt .i64) (fun r2 r3 r4 h2=>
 JoinW0 (fun k=>
 (if (r3 !=(0:Int))=true then
 NilW none r fun p6=>
 LdW none (shInt .i64) h2 (Addr.add p6 1) fun x6=>
 Call0 P zah [(.pointer r),(.int .i64 r3),(.int .i64 (IntKind.wrap .i64 (x6+r4)))] (fun h3=>
 k h3) h2
 else
 k h2))
 (fun h3=>
 NilW none r fun p6=>
 LdW none (shInt .i64) h3 (Addr.add p6 1) fun x6=>
 NilW none r fun p7=>
 StW h3 (Addr.add p7 1) [(.int .i64 (IntKind.wrap .i64 (x6+(IntKind.wrap .i64 r1))))] (fun h4=>
 Q r2 h4))) h1)))) h
def zcd (P:Program) (r:Option Addr) (many:Int) (Q:(Int→(Hp→Prop))) (h:Hp):Prop:=
 NilW none r fun p=>
 LdW none (shInt .i64) h (Addr.add p 2) fun x=>
 (if (x !=(0:Int))=true then
 Q (0:Int) h
 else
 NilW none r fun p1=>
 LdW none shSl h (Addr.add p1 0) fun x1=>
 NilW none r fun p2=>
 LdW none (shInt .i64) h (Addr.add p2 1) fun x2=>
 (if (decide ((IntKind.wrap .i64 (((x1.len:Nat):Int)-x2))<many))=true then
 NilW none r fun p3=>
 LdW none shSl h (Addr.add p3 0) fun x3=>
 Call0 P zah [(.pointer r),(.int .i64 (5:Int)),(.int .i64 ((x3.len:Nat):Int))] (fun h1=>
 Q (0:Int) h1) h
 else
 LoopW2 (α1:=Int) (α2:=Int) (fun again n i h1=>
 (if (decide (i<many))=true then
 NilW none r fun p3=>
 LdW none shSl h1 (Addr.add p3 0) fun x3=>
 NilW none r fun p4=>
 LdW none (shInt .i64) h1 (Addr.add p4 1) fun x4=>
 ((InB x3.base x3.len (IntKind.wrap .i64 (x4+i)))∧LdW none (shInt .u8) h1 (sat x3.base 1 (IntKind.wrap .i64 (x4+i))) fun x5=>
 ((0:Int)≤(IntKind.wrap .i64 ((8:Int)*i))∧again (bitsI .or .u64 n (shlI .u64 (IntKind.wrap .u64 x5) (IntKind.wrap .i64 ((8:Int)*i)))) (IntKind.wrap .i64 (i+(1:Int))) h1))
 else
 NilW none r fun p3=>
 LdW none (shInt .i64) h1 (Addr.add p3 1) fun x3=>
 NilW none r fun p4=>
 StW h1 (Addr.add p4 1) [(.int .i64 (IntKind.wrap .i64 (x3+many)))] (fun h2=>
 Q n h2))) (0:Int) (0:Int) h))
def zdl (P:Program) (r:Option Addr) (c:S_api_Config) (Q:(S_api_Part→(Hp→Prop))) (h:Hp):Prop:=
 CallT P zad [(.pointer r),(.int .i64 (1:Int))] (shInt .u64) (fun r1 h1=>
 CallT P zci [(.pointer r),(.int .i64 (2:Int)),(.int .i64 c.Log)] (shInt .i64) (fun r2 h2=>
 LoopW2 (α1:=Int) (α2:=S_api_Part) (fun again i p h3=>
 NilW (some (decide (i<r2))) r fun p1=>
 LdW (some (decide (i<r2))) (shInt .i64) h3 (Addr.add p1 2) fun x=>
 LetW ((decide (i<r2))&&(x==(0:Int))) fun y=>
 (if y=true then
 CallT P zad [(.pointer r),(.int .i64 (8:Int))] (shInt .u64) (fun r3 h4=>
 CallT P zad [(.pointer r),(.int .i64 (1:Int))] (shInt .u64) (fun r4 h5=>
 CallT P zad [(.pointer r),(.int .i64 (8:Int))] (shInt .u64) (fun r5 h6=>
 NewW [(.int .i64 (IntKind.wrap .i64 r3)),(.int .i64 (IntKind.wrap .i64 r4)),(.int .i64 (IntKind.wrap .i64 r5))] (fun a h7=>
 zas 3 24 [(.int .i64 (0:Int)),(.int .i64 (0:Int)),(.int .i64 (0:Int))] ⟨p.Log.base,p.Log.len,p.Log.cap⟩ ⟨(some a),1,1⟩ (fun r6 h8=>
 again (IntKind.wrap .i64 (i+(1:Int))) ⟨p.Cursor,r6,p.Lost,p.Forbidden,p.Owners,p.Queues⟩ h8) h7) h6) h5) h4) h3
 else
 CallT P zad [(.pointer r),(.int .i64 (2:Int))] (shInt .u64) (fun r3 h4=>
 CallT P zad [(.pointer r),(.int .i64 (2:Int))] (shInt .u64) (fun r4 h5=>
 LoopW2 (α1:=Int) (α2:=S_api_Part) (fun again1 i1 p2 h6=>
 NilW (some (decide (i1<c.Locks))) r fun p3=>
 LdW (some (decide (i1<c.Locks))) (shInt .i64) h6 (Addr.add p3 2) fun x1=>
 LetW ((decide (i1<c.Locks))&&(x1==(0:Int))) fun y1=>
 (if y1=true then
 CallT P zad [(.pointer r),(.int .i64 (1:Int))] (shInt .u64) (fun r5 h7=>
 ((True∧True)∧NewW [(.int .i64 (IntKind.wrap .i64 ((IntKind.wrap .i64 r5)-(1:Int))))] (fun a h8=>
 ((True∧True)∧zas 1 8 [(.int .i64 (0:Int))] ⟨p2.Owners.base,p2.Owners.len,p2.Owners.cap⟩ ⟨(some a),1,1⟩ (fun r6 h9=>
 CallT P zci [(.pointer r),(.int .i64 (1:Int)),(.int .i64 ((c.Procs.len:Nat):Int))] (shInt .i64) (fun r7 h10=>
 NewW [] (fun a1 h11=>
 LoopW2 (α1:=Sl) (α2:=Int) (fun again2 q k h12=>
 NilW (some (decide (k<r7))) r fun p4=>
 LdW (some (decide (k<r7))) (shInt .i64) h12 (Addr.add p4 2) fun x2=>
 LetW ((decide (k<r7))&&(x2==(0:Int))) fun y2=>
 (if y2=true then
 CallT P zad [(.pointer r),(.int .i64 (1:Int))] (shInt .u64) (fun r8 h13=>
 NewW [(.int .i64 (IntKind.wrap .i64 r8))] (fun a2 h14=>
 zas 1 8 [(.int .i64 (0:Int))] ⟨q.base,q.len,q.cap⟩ ⟨(some a2),1,1⟩ (fun r9 h15=>
 again2 r9 (IntKind.wrap .i64 (k+(1:Int))) h15) h14) h13) h12
 else
 NewW [q.v] (fun a2 h13=>
 zas 1 24 [(.slice none 0 0)] ⟨p2.Queues.base,p2.Queues.len,p2.Queues.cap⟩ ⟨(some a2),1,1⟩ (fun r8 h14=>
 again1 (IntKind.wrap .i64 (i1+(1:Int))) ⟨p2.Cursor,p2.Log,p2.Lost,p2.Forbidden,r6,r8⟩ h14) h13) h12)) ⟨(some a1),0,0⟩ (0:Int) h11) h10) h9) h8)) h7)) h6
 else
 Q p2 h6)) (0:Int) ⟨p.Cursor,p.Log,(IntKind.wrap .i64 r3),(IntKind.wrap .i64 r4),p.Owners,p.Queues⟩ h5) h4) h3)) (0:Int) ⟨(IntKind.wrap .i64 r1),⟨none,0,0⟩,(0:Int),(0:Int),⟨none,0,0⟩,⟨none,0,0⟩⟩ h2) h1) h
def zcq (P:Program) (r:Option Addr) (c:S_api_Config) (Q:(S_api_Process→(Hp→Prop))) (h:Hp):Prop:=
 CallT P zad [(.pointer r),(.int .i64 (1:Int))] (shInt .u64) (fun r1 h1=>
 NewW [(.int .i64 (0:Int)),(.int .i64 (0:Int)),(.int .i64 (0:Int)),(.int .i64 (0:Int)),(.int .i64 (0:Int)),(.int .i64 (0:Int)),(.int .i64 (0:Int)),(.int .i64 (0:Int)),(.int .i64 (0:Int)),(.int .i64 (0:Int)),(.int .i64 (0:Int)),(.int .i64 (0:Int)),(.bool false),(.int .i64 (0:Int)),(.slice none 0 0)] (fun a h2=>
 StW h2 a [(.int .i64 (IntKind.wrap .i64 r1)),(.int .i64 (0:Int)),(.int .i64 (0:Int)),(.int .i64 (0:Int)),(.int .i64 (0:Int)),(.int .i64 (0:Int)),(.int .i64 (0:Int)),(.int .i64 (0:Int)),(.int .i64 (0:Int)),(.int .i64 (0:Int)),(.int .i64 (0:Int)),(.int .i64 (0:Int)),(.bool false),(.int .i64 (0:Int)),(.slice none 0 0)] (fun h3=>
 CallT P zad [(.pointer r),(.int .i64 (2:Int))] (shInt .u64) (fun r2 h4=>
 StW h4 (Addr.add a 1) [(.int .i64 (IntKind.wrap .i64 r2))] (fun h5=>
 LoopW1 (α1:=Int) (fun again i h6=>
 (if (decide (i<(8:Int)))=true then
 CallT P zad [(.pointer r),(.int .i64 (8:Int))] (shInt .u64) (fun r3 h7=>
 (((0:Int)≤i∧i<(8:Int))∧StW h7 (Addr.add (Addr.add a 2) ((Int.toNat i)*1)) [(.int .i64 (IntKind.wrap .i64 r3))] (fun h8=>
 again (IntKind.wrap .i64 (i+(1:Int))) h8))) h6
 else
 CallT P zad [(.pointer r),(.int .i64 (1:Int))] (shInt .u64) (fun r3 h7=>
 StW h7 (Addr.add a 10) [(.int .i64 (IntKind.wrap .i64 r3))] (fun h8=>
 CallT P zad [(.pointer r),(.int .i64 (8:Int))] (shInt .u64) (fun r4 h9=>
 StW h9 (Addr.add a 11) [(.int .i64 (IntKind.wrap .i64 r4))] (fun h10=>
 CallT P zam [(.pointer r),(.int .i64 (1:Int)),(.int .i64 (0:Int)),(.int .i64 (1:Int)),(.int .i64 (4:Int)),(.int .i64 (4:Int))] (shInt .i64) (fun r5 h11=>
 StW h11 (Addr.add a 12) [(.bool (r5==(1:Int)))] (fun h12=>
 CallT P zad [(.pointer r),(.int .i64 (8:Int))] (shInt .u64) (fun r6 h13=>
 StW h13 (Addr.add a 13) [(.int .i64 (IntKind.wrap .i64 r6))] (fun h14=>
 LoopW1 (α1:=Int) (fun again1 i1 h15=>
 NilW (some (decide (i1≤((c.Labels.len:Nat):Int)))) r fun p=>
 LdW (some (decide (i1≤((c.Labels.len:Nat):Int)))) (shInt .i64) h15 (Addr.add p 2) fun x=>
 LetW ((decide (i1≤((c.Labels.len:Nat):Int)))&&(x==(0:Int))) fun y=>
 (if y=true then
 LdW none shSl h15 (Addr.add a 14) fun x1=>
 CallT P zgu [(.pointer r),c.v] sh_api_Lane (fun r7 h16=>
 (((LdIs h16 (Addr.add a 14) [x1.v])∧True)∧NewW [r7.Values.v,r7.Waiters.v,(.int .i64 r7.Taken),(.int .i64 r7.Dropped)] (fun a1 h17=>
 (((LdIs h17 (Addr.add a 14) [x1.v])∧True)∧zas 4 64 [(.slice none 0 0),(.slice none 0 0),(.int .i64 (0:Int)),(.int .i64 (0:Int))] x1 ⟨(some a1),1,1⟩ (fun r8 h18=>
 StW h18 (Addr.add a 14) [r8.v] (fun h19=>
 again1 (IntKind.wrap .i64 (i1+(1:Int))) h19)) h17)) h16)) h15
 else
 LdW none sh_api_Process h15 a fun x1=>
 Q x1 h15)) (0:Int) h14)) h12)) h10)) h8)) h6)) (0:Int) h5)) h3)) h1) h
def zbu (P:Program) (r:Option Addr) (e:Int) (at_:Int) (Q:(Hp→Prop)) (h:Hp):Prop:=
 NilW none r fun p=>
 LdW none (shInt .i64) h (Addr.add p 2) fun x=>
 (if (x==(0:Int))=true then
 NilW none r fun p1=>
 StW h (Addr.add p1 2) [(.int .i64 e)] (fun h1=>
 NilW none r fun p2=>
 StW h1 (Addr.add p2 3) [(.int .i64 at_)] (fun h2=>
 Q h2))
 else
 Q h)
def zdm (P:Program) (a:S_api_Config) (b:S_api_Config) (Q:(Bool→(Hp→Prop))) (h:Hp):Prop:=
 CallT P zfg [a.Labels.v,b.Labels.v] zaf (fun r h1=>
 EffC (some (!(!r))) (CallT P zgv [a.Table.v,b.Table.v] zaf) (fun r1 h2=>
 LetW ((!r) || (!r1)) fun y=>
 LetW (y || (a.Fuel !=b.Fuel)) fun y1=>
 LetW (y1 || (a.Lane !=b.Lane)) fun y2=>
 LetW (y2 || (a.Locks !=b.Locks)) fun y3=>
 LetW (y3 || (a.Log !=b.Log)) fun y4=>
 LetW (y4 || (((a.Procs.len:Nat):Int) !=((b.Procs.len:Nat):Int))) fun y5=>
 (if y5=true then
 Q false h2
 else
 LoopW1 (α1:=Int) (fun again i h3=>
 (if (decide (i<((a.Procs.len:Nat):Int)))=true then
 ((InB a.Procs.base a.Procs.len i)∧LdW none (shInt .i64) h3 (Addr.add (sat a.Procs.base 2 i) 0) fun x=>
 ((InB b.Procs.base b.Procs.len i)∧LdW none (shInt .i64) h3 (Addr.add (sat b.Procs.base 2 i) 0) fun x1=>
 (if (x !=x1)=true then
 Q false h3
 else
 again (IntKind.wrap .i64 (i+(1:Int))) h3)))
 else
 Q true h3)) (0:Int) h2)) h1) h
def zgj (P:Program) (a:Sl) (b:Sl) (Q:(Bool→(Hp→Prop))) (h:Hp):Prop:=
 (if (((a.len:Nat):Int) !=((b.len:Nat):Int))=true then
 Q false h
 else
 LoopW1 (α1:=Int) (fun again i h1=>
 (if (decide (i<((a.len:Nat):Int)))=true then
 ((InB a.base a.len i)∧LdW none sh_api_Ins h1 (sat a.base 5 i) fun x=>
 ((InB b.base b.len i)∧LdW none sh_api_Ins h1 (sat b.base 5 i) fun x1=>
 SemV none P (binS .neq 51 (.tmp 20) (.tmp 24) x.v x1.v) zaf h1 fun x2=>
 (if x2=true then
 Q false h1
 else
 again (IntKind.wrap .i64 (i+(1:Int))) h1)))
 else
 Q true h1)) (0:Int) h)
def zdn (P:Program) (a:S_api_Part) (b:S_api_Part) (Q:(Bool→(Hp→Prop))) (h:Hp):Prop:=
 LetW ((a.Cursor !=b.Cursor) || (a.Lost !=b.Lost)) fun y=>
 LetW (y || (a.Forbidden !=b.Forbidden)) fun y1=>
 LetW (y1 || (((a.Log.len:Nat):Int) !=((b.Log.len:Nat):Int))) fun y2=>
 LetW (y2 || (((a.Queues.len:Nat):Int) !=((b.Queues.len:Nat):Int))) fun y3=>
 (if y3=true then
 Q false h
 else
 LoopW1 (α1:=Int) (fun again i h1=>
 (if (decide (i<((a.Log.len:Nat):Int)))=true then
 ((InB a.Log.base a.Log.len i)∧LdW none sh_api_Entry h1 (sat a.Log.base 3 i) fun x=>
 ((InB b.Log.base b.Log.len i)∧LdW none sh_api_Entry h1 (sat b.Log.base 3 i) fun x1=>
 SemV none P (binS .neq 111 (.tmp 56) (.tmp 61) x.v x1.v) zaf h1 fun x2=>
 (if x2=true then
 Q false h1
 else
 again (IntKind.wrap .i64 (i+(1:Int))) h1)))
 else
 LoopW1 (α1:=Int) (fun again1 i1 h2=>
 (if (decide (i1<((a.Queues.len:Nat):Int)))=true then
 ((InB a.Queues.base a.Queues.len i1)∧LdW none shSl h2 (sat a.Queues.base 1 i1) fun x=>
 ((InB b.Queues.base b.Queues.len i1)∧LdW none shSl h2 (sat b.Queues.base 1 i1) fun x1=>
 CallT P zgf [x.v,x1.v] zaf (fun r h3=>
 (if (!r)=true then
 Q false h3
 else
 again1 (IntKind.wrap .i64 (i1+(1:Int))) h3)) h2))
 else
 CallT P zgf [a.Owners.v,b.Owners.v] zaf (fun r h3=>
 Q r h3) h2)) (0:Int) h1)) (0:Int) h)
def zcr (P:Program) (a:S_api_Process) (b:S_api_Process) (Q:(Bool→(Hp→Prop))) (h:Hp):Prop:=
 LetW ((a.State !=b.State) || (a.PC !=b.PC)) fun y=>
 SemV (some (!y)) P (binS .neq 61 (.tmp 21) (.tmp 23) (.agg #[(.int .i64 a.Regs_0),(.int .i64 a.Regs_1),(.int .i64 a.Regs_2),(.int .i64 a.Regs_3),(.int .i64 a.Regs_4),(.int .i64 a.Regs_5),(.int .i64 a.Regs_6),(.int .i64 a.Regs_7)]) (.agg #[(.int .i64 b.Regs_0),(.int .i64 b.Regs_1),(.int .i64 b.Regs_2),(.int .i64 b.Regs_3),(.int .i64 b.Regs_4),(.int .i64 b.Regs_5),(.int .i64 b.Regs_6),(.int .i64 b.Regs_7)])) zaf h fun x=>
 LetW (y || x) fun y1=>
 LetW (y1 || (a.Cursor !=b.Cursor)) fun y2=>
 LetW (y2 || (a.Timer !=b.Timer)) fun y3=>
 LetW (y3 || (!(a.Fired==b.Fired))) fun y4=>
 LetW (y4 || (a.Wake !=b.Wake)) fun y5=>
 LetW (y5 || (((a.Lanes.len:Nat):Int) !=((b.Lanes.len:Nat):Int))) fun y6=>
 (if y6=true then
 Q false h
 else
 LoopW1 (α1:=Int) (fun again i h1=>
 (if (decide (i<((a.Lanes.len:Nat):Int)))=true then
 ((InB a.Lanes.base a.Lanes.len i)∧LdW none sh_api_Lane h1 (sat a.Lanes.base 4 i) fun x1=>
 ((InB b.Lanes.base b.Lanes.len i)∧LdW none sh_api_Lane h1 (sat b.Lanes.base 4 i) fun x2=>
 CallT P zgw [x1.v,x2.v] zaf (fun r h2=>
 (if (!r)=true then
 Q false h2
 else
 again (IntKind.wrap .i64 (i+(1:Int))) h2)) h1))
 else
 Q true h1)) (0:Int) h)
def zdo1 (P:Program) (c:S_api_Config) (Q:(Int→(Int→(Hp→Prop)))) (h:Hp):Prop:=
 Call2 P zyb [c.Labels.v] (shInt .i64) (shInt .i64) (fun r r1 h1=>
 (if (r !=(0:Int))=true then
 Q r (0:Int) h1
 else
 CallT P zth [(.int .i64 ((c.Table.len:Nat):Int)),(.int .i64 (64:Int))] (shInt .i64) (fun r2 h2=>
 (if (r2 !=(0:Int))=true then
 Q r2 (1:Int) h2
 else
 Call3 P zfl1 [c.Table.v,(.int .i64 ((c.Labels.len:Nat):Int))] shPtr (shInt .i64) (shInt .i64) (fun r3 r4 r5 h3=>
 (if (r4 !=(0:Int))=true then
 Q r4 (1:Int) h3
 else
 NewW [(.int .i64 (0:Int)),(.int .i64 (0:Int)),(.int .i64 c.Fuel),(.int .i64 c.Lane),(.int .i64 c.Locks),(.int .i64 c.Log)] (fun a h4=>
 LoopW1 (α1:=Int) (fun again t57 h5=>
 (if (decide (t57<(6:Int)))=true then
 ((InB (some a) 6 t57)∧LdW none (shInt .i64) h5 (sat (some a) 1 t57) fun x=>
 CallT P zru [(.int .i64 t57),(.int .i64 x)] (shInt .i64) (fun r6 h6=>
 (if (r6 !=(0:Int))=true then
 Q r6 t57 h6
 else
 again (IntKind.wrap .i64 (t57+(1:Int))) h6)) h5)
 else
 CallT P zth [(.int .i64 ((c.Procs.len:Nat):Int)),(.int .i64 (32:Int))] (shInt .i64) (fun r6 h6=>
 (if (r6 !=(0:Int))=true then
 Q r6 (6:Int) h6
 else
 LoopW1 (α1:=Int) (fun again1 t80 h7=>
 (if (decide (t80<((c.Procs.len:Nat):Int)))=true then
 ((InB c.Procs.base c.Procs.len t80)∧LdW none sh_api_Proc h7 (sat c.Procs.base 2 t80) fun x=>
 CallT P zih [(.int .i64 x.Part),(.int .i64 (0:Int)),(.int .i64 (IntKind.wrap .i64 (((c.Labels.len:Nat):Int)-(1:Int))))] zaf (fun r7 h8=>
 (if (!r7)=true then
 Q (2:Int) (IntKind.wrap .i64 ((7:Int)+t80)) h8
 else
 Call2 P zdn1 [x.Code.v,(.int .i64 c.Locks)] (shInt .i64) (shInt .i64) (fun r8 r9 h9=>
 (if (r8 !=(0:Int))=true then
 Q r8 (IntKind.wrap .i64 ((7:Int)+t80)) h9
 else
 again1 (IntKind.wrap .i64 (t80+(1:Int))) h9)) h8)) h7)
 else
 Q (0:Int) (0:Int) h7)) (0:Int) h6)) h5)) (0:Int) h4) h3)) h2)) h1)) h
def zpf (P:Program) (l:Sl) (Q:(Option Addr→(Int→(Int→(Hp→Prop))))) (h:Hp):Prop:=
 Call2 P zyb [l.v] (shInt .i64) (shInt .i64) (fun r r1 h1=>
 (if (r !=(0:Int))=true then
 Q none r r1 h1
 else
 CallT P zer [l.v] shSl (fun r2 h2=>
 zpm1  (fun r3 h3=>
 NewW [r2.v,(.map r3)] (fun a h4=>
 NilW none (some a) fun p=>
 LdW none shSl h4 (Addr.add p 0) fun x=>
 LoopW1 (α1:=Int) (fun again t29 h5=>
 (if (decide (t29<((x.len:Nat):Int)))=true then
 ((InB x.base x.len t29)∧LdW none (shInt .u64) h5 (sat x.base 1 t29) fun x1=>
 NilW none (some a) fun p1=>
 LdW none shMap h5 (Addr.add p1 1) fun x2=>
 ztz1 (.int .u64) x2 (.int .u64 x1) (.int .i64 t29) (fun h6=>
 again (IntKind.wrap .i64 (t29+(1:Int))) h6) h5)
 else
 Q (some a) (0:Int) (0:Int) h5)) (0:Int) h4) h3) h2) h1)) h
def zhd (P:Program) (a:S_machine_asked) (i:Int) (Q:(Bool→(Hp→Prop))) (h:Hp):Prop:=
 NewW [a.c_Labels.v,a.c_Table.v,(.int .i64 a.c_Fuel),(.int .i64 a.c_Lane),(.int .i64 a.c_Locks),(.int .i64 a.c_Log),a.c_Procs.v,(.int .i64 a.s_Tick),a.s_Parts.v,a.s_Procs.v,(.pointer a.t)] (fun a1 h1=>
 NewW [(.int .i64 i)] (fun a2 h2=>
 LdW none shSl h2 (Addr.add (Addr.add a1 7) 1) fun x=>
 LdW none (shInt .i64) h2 a2 fun x1=>
 ((InB x.base x.len x1)∧LdW none sh_api_Part h2 (sat x.base 6 x1) fun x2=>
 LdW (some ((!(decide (x2.Cursor<(0:Int))))&&(decide (x2.Cursor>(0:Int))))) sh_machine_asked h2 a1 fun x3=>
 LdW (some ((!(decide (x2.Cursor<(0:Int))))&&(decide (x2.Cursor>(0:Int))))) (shInt .i64) h2 a2 fun x4=>
 EffC (some ((!(decide (x2.Cursor<(0:Int))))&&(decide (x2.Cursor>(0:Int))))) (CallT P zln [x3.v,(.int .i64 x4)] (shInt .i64)) (fun r h3=>
 ((True∧True)∧LetW ((decide (x2.Cursor>(0:Int)))&&(decide (x2.Cursor≥r))) fun y=>
 LetW ((decide (x2.Cursor<(0:Int))) || y) fun y1=>
 LdW (some (!y1)) (shInt .i64) h3 (Addr.add (Addr.add a1 0) 5) fun x5=>
 LetW (y1 || (decide (((x2.Log.len:Nat):Int)>x5))) fun y2=>
 (if y2=true then
 Q false h3
 else
 LoopW2 (α1:=Int) (α2:=Int) (fun again last t43 h4=>
 (if (decide (t43<((x2.Log.len:Nat):Int)))=true then
 ((InB x2.Log.base x2.Log.len t43)∧LdW none sh_api_Entry h4 (sat x2.Log.base 3 t43) fun x6=>
 LdW (some (!(decide (x6.Tick<last)))) (shInt .i64) h4 (Addr.add (Addr.add a1 7) 0) fun x7=>
 LetW ((decide (x6.Tick<last)) || (decide (x6.Tick≥x7))) fun y3=>
 LdW (some (!y3)) sh_machine_asked h4 a1 fun x8=>
 LdW (some (!y3)) (shInt .i64) h4 a2 fun x9=>
 EffC (some (!y3)) (CallT P zee [x8.v,(.int .i64 x6.Proc),(.int .i64 x9)] zaf) (fun r1 h5=>
 LetW (y3 || (!r1)) fun y4=>
 (if y4=true then
 Q false h5
 else
 again x6.Tick (IntKind.wrap .i64 (t43+(1:Int))) h5)) h4)
 else
 CallT P zhr [(.int .i64 x2.Lost)] zaf (fun r1 h5=>
 EffC (some (!(!r1))) (CallT P zhr [(.int .i64 x2.Forbidden)] zaf) (fun r2 h6=>
 LetW ((!r1) || (!r2)) fun y3=>
 LdW (some ((!y3)&&(decide (x2.Lost>(0:Int))))) (shInt .i64) h6 (Addr.add (Addr.add a1 0) 5) fun x6=>
 LetW ((decide (x2.Lost>(0:Int)))&&(decide (((x2.Log.len:Nat):Int)<x6))) fun y4=>
 LetW (y3 || y4) fun y5=>
 LdW (some (!y5)) (shInt .i64) h6 (Addr.add (Addr.add a1 0) 4) fun x7=>
 LetW (y5 || (((x2.Owners.len:Nat):Int) !=x7)) fun y6=>
 LdW (some (!y6)) (shInt .i64) h6 (Addr.add (Addr.add a1 0) 4) fun x8=>
 LetW (y6 || (((x2.Queues.len:Nat):Int) !=x8)) fun y7=>
 (if y7=true then
 Q false h6
 else
 CallT P zek [x2.Owners.v,(.func (.func 84) #[] #[(.pointer (some a1)),(.pointer (some a2))])] zaf (fun r3 h7=>
 Q (!r3) h7) h6)) h5) h4)) (0:Int) (0:Int) h3))) h2)) h1) h
def zhe (P:Program) (a:S_machine_asked) (p:Int) (Q:(Bool→(Hp→Prop))) (h:Hp):Prop:=
 ((InB a.s_Procs.base a.s_Procs.len p)∧LdW none sh_api_Process h (sat a.s_Procs.base 15 p) fun x=>
 ((InB a.c_Procs.base a.c_Procs.len p)∧LdW none sh_api_Proc h (sat a.c_Procs.base 2 p) fun x1=>
 ((True∧((LdIs h (sat a.c_Procs.base 2 p) [(.int .i64 x1.Part),x1.Code.v])∧True))∧JoinW1 (α1:=Bool) (fun k=>
 LetW ((decide (x.State<(0:Int))) || (decide (x.State>(6:Int)))) fun y=>
 (if y=true then
 k y h
 else
 LetW ((decide (x.PC<(0:Int))) || (decide (x.PC>((x1.Code.len:Nat):Int)))) fun y1=>
 (if y1=true then
 k y1 h
 else
 (if (((x.Lanes.len:Nat):Int) !=(IntKind.wrap .i64 (((a.c_Labels.len:Nat):Int)+(1:Int))))=true then
 k (((x.Lanes.len:Nat):Int) !=(IntKind.wrap .i64 (((a.c_Labels.len:Nat):Int)+(1:Int)))) h
 else
 LetW ((decide (x.Cursor<(0:Int))) || (decide (x.Cursor≥((x.Lanes.len:Nat):Int)))) fun y2=>
 k y2 h))))
 (fun t28 h1=>
 (if t28=true then
 Q false h1
 else
 JoinW1 (α1:=Bool) (fun k=>
 LetW ((decide (x.Timer<(0:Int))) || (decide (x.Timer>(IntKind.wrap .i64 (a.s_Tick+(1099511627776:Int)))))) fun y=>
 (if y=true then
 k y h1
 else
 LetW ((decide (x.Wake<(0:Int))) || (decide (x.Wake>(IntKind.wrap .i64 (a.s_Tick+(1099511627776:Int)))))) fun y1=>
 (if y1=true then
 k y1 h1
 else
 k (!((decide (x.Wake>(0:Int)))==(x.State==(4:Int)))) h1)))
 (fun t68 h2=>
 (if t68=true then
 Q false h2
 else
 CallT P zkk [(.int .i64 x.State)] zaf (fun r h3=>
 LetW ((x.Timer !=(0:Int)) || x.Fired) fun y=>
 LetW ((!r)&&y) fun y1=>
 (if y1=true then
 Q false h3
 else
 LoopW2 (α1:=Bool) (α2:=Int) (fun again some_ t111 h4=>
 (if (decide (t111<((x.Lanes.len:Nat):Int)))=true then
 ((InB x.Lanes.base x.Lanes.len t111)∧LdW none sh_api_Lane h4 (sat x.Lanes.base 4 t111) fun x2=>
 LetW ((decide (((x2.Values.len:Nat):Int)>(0:Int))) || (decide (x2.Taken>(0:Int)))) fun y2=>
 LetW (y2 || (decide (x2.Dropped>(0:Int)))) fun y3=>
 EffC (some (!(decide (((x2.Values.len:Nat):Int)>a.c_Lane)))) (CallT P zhr [(.int .i64 x2.Taken)] zaf) (fun r1 h5=>
 LetW ((decide (((x2.Values.len:Nat):Int)>a.c_Lane)) || (!r1)) fun y4=>
 EffC (some (!y4)) (CallT P zhr [(.int .i64 x2.Dropped)] zaf) (fun r2 h6=>
 LetW (y4 || (!r2)) fun y5=>
 LetW (y3&&(decide (t111<((a.c_Labels.len:Nat):Int)))) fun y6=>
 EffC (some ((!y5)&&y6)) (CallT P zmn [(.pointer a.t),(.int .i64 t111),(.int .i64 x1.Part)] zaf) (fun r3 h7=>
 LetW (y6&&(!r3)) fun y7=>
 LetW (y5 || y7) fun y8=>
 (if y8=true then
 Q false h7
 else
 LetW (some_ || (decide (((x2.Values.len:Nat):Int)>(0:Int)))) fun y9=>
 again y9 (IntKind.wrap .i64 (t111+(1:Int))) h7)) h6) h5) h4)
 else
 (if (x.State==(1:Int))=true then
 CallT P zef [a.v,(.int .i64 p)] (shInt .i64) (fun r1 h5=>
 LetW ((r1==(25:Int))&&(!some_)) fun y2=>
 LetW (y2&&(!x.Fired)) fun y3=>
 Q y3 h5) h4
 else
 (if (x.State==(2:Int))=true then
 CallT P zef [a.v,(.int .i64 p)] (shInt .i64) (fun r1 h5=>
 Q (r1==(24:Int)) h5) h4
 else
 (if (x.State==(3:Int))=true then
 CallT P zef [a.v,(.int .i64 p)] (shInt .i64) (fun r1 h5=>
 Q (r1==(29:Int)) h5) h4
 else
 (if (x.State==(4:Int))=true then
 CallT P zef [a.v,(.int .i64 p)] (shInt .i64) (fun r1 h5=>
 Q (r1==(28:Int)) h5) h4
 else
 Q true h4)))))) false (0:Int) h3)) h2)))))))
def zgk (P:Program) (a:S_machine_asked) (Q:(Bool→(Hp→Prop))) (h:Hp):Prop:=
 MakeW 8 [(.int .i64 (0:Int))] ((a.s_Procs.len:Nat):Int) ((a.s_Procs.len:Nat):Int) (fun r h1=>
 LoopW1 (α1:=Int) (fun again t28 h2=>
 (if (decide (t28<((a.s_Parts.len:Nat):Int)))=true then
 ((InB a.s_Parts.base a.s_Parts.len t28)∧LdW none sh_api_Part h2 (sat a.s_Parts.base 6 t28) fun x=>
 LoopW1 (α1:=Int) (fun again1 t36 h3=>
 (if (decide (t36<((x.Queues.len:Nat):Int)))=true then
 ((InB x.Queues.base x.Queues.len t36)∧LdW none shSl h3 (sat x.Queues.base 1 t36) fun x1=>
 LoopW1 (α1:=Int) (fun again2 t43 h4=>
 (if (decide (t43<((x1.len:Nat):Int)))=true then
 ((InB x1.base x1.len t43)∧LdW none (shInt .i64) h4 (sat x1.base 1 t43) fun x2=>
 CallT P zee [a.v,(.int .i64 x2),(.int .i64 t28)] zaf (fun r1 h5=>
 (((!(!r1))=true→(InB a.s_Procs.base a.s_Procs.len x2))∧LdW (some (!(!r1))) (shInt .i64) h5 (Addr.add (sat a.s_Procs.base 15 x2) 0) fun x3=>
 LetW ((!r1) || (x3 !=(3:Int))) fun y=>
 EffC (some (!y)) (CallT P zfh [a.v,(.int .i64 x2)] sh_api_Ins) (fun r2 h6=>
 LetW (y || (r2.Imm !=t36)) fun y1=>
 (((!y1)=true→(InB x.Owners.base x.Owners.len t36))∧LdW (some (!y1)) (shInt .i64) h6 (sat x.Owners.base 1 t36) fun x4=>
 LetW (y1 || (decide (x4<(0:Int)))) fun y2=>
 (((!y2)=true→(InB x.Owners.base x.Owners.len t36))∧LdW (some (!y2)) (shInt .i64) h6 (sat x.Owners.base 1 t36) fun x5=>
 LetW (y2 || (x5==x2)) fun y3=>
 (if y3=true then
 Q false h6
 else
 ((InB r.base r.len x2)∧LdW none (shInt .i64) h6 (sat r.base 1 x2) fun x6=>
 ((InB r.base r.len x2)∧StW h6 (sat r.base 1 x2) [(.int .i64 (IntKind.wrap .i64 (x6+(1:Int))))] (fun h7=>
 again2 (IntKind.wrap .i64 (t43+(1:Int))) h7))))))) h5)) h4)
 else
 again1 (IntKind.wrap .i64 (t36+(1:Int))) h4)) (0:Int) h3)
 else
 again (IntKind.wrap .i64 (t28+(1:Int))) h3)) (0:Int) h2)
 else
 LoopW1 (α1:=Int) (fun again1 t100 h3=>
 (if (decide (t100<((a.s_Procs.len:Nat):Int)))=true then
 ((InB a.s_Procs.base a.s_Procs.len t100)∧LdW none sh_api_Process h3 (sat a.s_Procs.base 15 t100) fun x=>
 LoopW1 (α1:=Int) (fun again2 t108 h4=>
 (if (decide (t108<((x.Lanes.len:Nat):Int)))=true then
 ((InB x.Lanes.base x.Lanes.len t108)∧LdW none sh_api_Lane h4 (sat x.Lanes.base 4 t108) fun x1=>
 LoopW1 (α1:=Int) (fun again3 t116 h5=>
 (if (decide (t116<((x1.Waiters.len:Nat):Int)))=true then
 ((InB x1.Waiters.base x1.Waiters.len t116)∧LdW none sh_api_Waiter h5 (sat x1.Waiters.base 2 t116) fun x2=>
 ((InB a.c_Procs.base a.c_Procs.len t100)∧LdW none (shInt .i64) h5 (Addr.add (sat a.c_Procs.base 2 t100) 0) fun x3=>
 EffC (some (!(t108 !=x3))) (CallT P zee [a.v,(.int .i64 x2.Proc),(.int .i64 t108)] zaf) (fun r1 h6=>
 LetW ((t108 !=x3) || (!r1)) fun y=>
 EffC (some (!y)) (CallT P zkk [(.int .i64 x.State)] zaf) (fun r2 h7=>
 LetW (y || (!r2)) fun y1=>
 LetW (y1 || (((x1.Values.len:Nat):Int) !=a.c_Lane)) fun y2=>
 EffC (some (!y2)) (CallT P zkl [a.v,x2.v,(.int .i64 t100)] zaf) (fun r3 h8=>
 LetW (y2 || (!r3)) fun y3=>
 (if y3=true then
 Q false h8
 else
 ((InB r.base r.len x2.Proc)∧LdW none (shInt .i64) h8 (sat r.base 1 x2.Proc) fun x4=>
 ((InB r.base r.len x2.Proc)∧StW h8 (sat r.base 1 x2.Proc) [(.int .i64 (IntKind.wrap .i64 (x4+(1:Int))))] (fun h9=>
 again3 (IntKind.wrap .i64 (t116+(1:Int))) h9))))) h7) h6) h5))
 else
 again2 (IntKind.wrap .i64 (t108+(1:Int))) h5)) (0:Int) h4)
 else
 again1 (IntKind.wrap .i64 (t100+(1:Int))) h4)) (0:Int) h3)
 else
 LoopW1 (α1:=Int) (fun again2 t173 h4=>
 (if (decide (t173<((a.s_Procs.len:Nat):Int)))=true then
 ((InB a.s_Procs.base a.s_Procs.len t173)∧LdW none sh_api_Process h4 (sat a.s_Procs.base 15 t173) fun x=>
 JoinW1 (α1:=Int) (fun k=>
 LetW ((x.State==(3:Int)) || (x.State==(2:Int))) fun y=>
 (if y=true then
 k (1:Int) h4
 else
 k (0:Int) h4))
 (fun must h5=>
 ((InB r.base r.len t173)∧LdW none (shInt .i64) h5 (sat r.base 1 t173) fun x1=>
 (if (x1 !=must)=true then
 Q false h5
 else
 again2 (IntKind.wrap .i64 (t173+(1:Int))) h5))))
 else
 Q true h4)) (0:Int) h3)) (0:Int) h2)) (0:Int) h1) h
def zeb (P:Program) (s:S_api_State) (Q:(Bool→(Hp→Prop))) (h:Hp):Prop:=
 LoopW3 (α1:=Int) (α2:=Bool) (α3:=Int) (fun again n ok t24 h1=>
 (if (decide (t24<((s.Procs.len:Nat):Int)))=true then
 ((InB s.Procs.base s.Procs.len t24)∧LdW none sh_api_Process h1 (sat s.Procs.base 15 t24) fun x=>
 LoopW3 (α1:=Int) (α2:=Bool) (α3:=Int) (fun again1 n1 ok1 t31 h2=>
 (if (decide (t31<((x.Lanes.len:Nat):Int)))=true then
 ((InB x.Lanes.base x.Lanes.len t31)∧LdW none sh_api_Lane h2 (sat x.Lanes.base 4 t31) fun x1=>
 LoopW2 (α1:=Bool) (α2:=Int) (fun again2 ok2 t40 h3=>
 (if (decide (t40<((x1.Values.len:Nat):Int)))=true then
 ((InB x1.Values.base x1.Values.len t40)∧LdW none (shInt .i64) h3 (sat x1.Values.base 1 t40) fun x2=>
 LetW (ok2&&(x2==(IntKind.wrap .i64 (n1+(1:Int))))) fun y=>
 again2 y (IntKind.wrap .i64 (t40+(1:Int))) h3)
 else
 LoopW2 (α1:=Bool) (α2:=Int) (fun again3 ok3 t54 h4=>
 (if (decide (t54<((x1.Waiters.len:Nat):Int)))=true then
 ((InB x1.Waiters.base x1.Waiters.len t54)∧LdW none sh_api_Waiter h4 (sat x1.Waiters.base 2 t54) fun x2=>
 LetW (ok3&&(x2.Proc==(IntKind.wrap .i64 (n1+(1:Int))))) fun y=>
 again3 y (IntKind.wrap .i64 (t54+(1:Int))) h4)
 else
 again1 (IntKind.wrap .i64 (n1+(1:Int))) ok3 (IntKind.wrap .i64 (t31+(1:Int))) h4)) ok2 (0:Int) h3)) ok1 (0:Int) h2)
 else
 again n1 ok1 (IntKind.wrap .i64 (t24+(1:Int))) h2)) n ok (0:Int) h1)
 else
 LoopW3 (α1:=Int) (α2:=Bool) (α3:=Int) (fun again1 n1 ok1 t71 h2=>
 (if (decide (t71<((s.Parts.len:Nat):Int)))=true then
 ((InB s.Parts.base s.Parts.len t71)∧LdW none sh_api_Part h2 (sat s.Parts.base 6 t71) fun x=>
 LoopW2 (α1:=Bool) (α2:=Int) (fun again2 ok2 t80 h3=>
 (if (decide (t80<((x.Log.len:Nat):Int)))=true then
 ((InB x.Log.base x.Log.len t80)∧LdW none sh_api_Entry h3 (sat x.Log.base 3 t80) fun x1=>
 LetW (ok2&&(x1.Proc==(IntKind.wrap .i64 (n1+(1:Int))))) fun y=>
 again2 y (IntKind.wrap .i64 (t80+(1:Int))) h3)
 else
 LoopW3 (α1:=Int) (α2:=Bool) (α3:=Int) (fun again3 n2 ok3 t95 h4=>
 (if (decide (t95<((x.Queues.len:Nat):Int)))=true then
 ((InB x.Queues.base x.Queues.len t95)∧LdW none shSl h4 (sat x.Queues.base 1 t95) fun x1=>
 LoopW2 (α1:=Bool) (α2:=Int) (fun again4 ok4 t103 h5=>
 (if (decide (t103<((x1.len:Nat):Int)))=true then
 ((InB x1.base x1.len t103)∧LdW none (shInt .i64) h5 (sat x1.base 1 t103) fun x2=>
 LetW (ok4&&(x2==(IntKind.wrap .i64 (n2+(1:Int))))) fun y=>
 again4 y (IntKind.wrap .i64 (t103+(1:Int))) h5)
 else
 again3 (IntKind.wrap .i64 (n2+(1:Int))) ok4 (IntKind.wrap .i64 (t95+(1:Int))) h5)) ok3 (0:Int) h4)
 else
 again1 n2 ok3 (IntKind.wrap .i64 (t71+(1:Int))) h4)) (IntKind.wrap .i64 (n1+(1:Int))) ok2 (0:Int) h3)) ok1 (0:Int) h2)
 else
 Q ok1 h2)) n ok (0:Int) h1)) (0:Int) true (0:Int) h
def zdp1 (P:Program) (b:Sl) (n:Int) (many:Int) (Q:(Sl→(Hp→Prop))) (h:Hp):Prop:=
 LoopW2 (α1:=Sl) (α2:=Int) (fun again b1 t9 h1=>
 (if (decide (t9<many))=true then
 ((0:Int)≤(IntKind.wrap .i64 ((8:Int)*t9))∧NewW [(.int .u8 (IntKind.wrap .u8 (shrI .u64 n (IntKind.wrap .i64 ((8:Int)*t9)))))] (fun a h2=>
 zas 1 1 [(.int .u8 (0:Int))] ⟨b1.base,b1.len,b1.cap⟩ ⟨(some a),1,1⟩ (fun r h3=>
 again r (IntKind.wrap .i64 (t9+(1:Int))) h3) h2) h1)
 else
 Q ⟨b1.base,b1.len,b1.cap⟩ h1)) b (0:Int) h
def zsb (P:Program) (l:Sl) (Q:(Sl→(Int→(Int→(Hp→Prop))))) (h:Hp):Prop:=
 Call2 P zdn1 [l.v,(.int .i64 (8:Int))] (shInt .i64) (shInt .i64) (fun r r1 h1=>
 (if (r !=(0:Int))=true then
 Q ⟨none,0,0⟩ r r1 h1
 else
 MakeW 1 [(.int .u8 (0:Int))] (0:Int) (IntKind.wrap .i64 ((12:Int)*((l.len:Nat):Int))) (fun r2 h2=>
 LoopW2 (α1:=Sl) (α2:=Int) (fun again b t26 h3=>
 (if (decide (t26<((l.len:Nat):Int)))=true then
 ((InB l.base l.len t26)∧LdW none sh_api_Ins h3 (sat l.base 5 t26) fun x=>
 NewW [(.int .u8 (IntKind.wrap .u8 x.Op)),(.int .u8 (IntKind.wrap .u8 x.A)),(.int .u8 (IntKind.wrap .u8 x.B)),(.int .u8 (IntKind.wrap .u8 x.C))] (fun a h4=>
 zas 1 1 [(.int .u8 (0:Int))] ⟨b.base,b.len,b.cap⟩ ⟨(some a),4,4⟩ (fun r3 h5=>
 LoopW2 (α1:=Sl) (α2:=Int) (fun again1 b1 t45 h6=>
 (if (decide (t45<(8:Int)))=true then
 ((0:Int)≤(IntKind.wrap .i64 ((8:Int)*t45))∧NewW [(.int .u8 (IntKind.wrap .u8 (shrI .u64 (IntKind.wrap .u64 x.Imm) (IntKind.wrap .i64 ((8:Int)*t45)))))] (fun a1 h7=>
 zas 1 1 [(.int .u8 (0:Int))] ⟨b1.base,b1.len,b1.cap⟩ ⟨(some a1),1,1⟩ (fun r4 h8=>
 again1 r4 (IntKind.wrap .i64 (t45+(1:Int))) h8) h7) h6)
 else
 again ⟨b1.base,b1.len,b1.cap⟩ (IntKind.wrap .i64 (t26+(1:Int))) h6)) r3 (0:Int) h5) h4) h3)
 else
 Q ⟨b.base,b.len,b.cap⟩ (0:Int) (0:Int) h3)) r2 (0:Int) h2) h1)) h
def zjp (P:Program) (w:Option Addr) (x:S_api_Lane) (Q:(Hp→Prop)) (h:Hp):Prop:=
 NilW none w fun p=>
 Call0 P zag [(.pointer (some (Addr.add p 0))),(.int .i64 ((x.Values.len:Nat):Int)),(.int .i64 (1:Int))] (fun h1=>
 LoopW1 (α1:=Int) (fun again t18 h2=>
 (if (decide (t18<((x.Values.len:Nat):Int)))=true then
 ((InB x.Values.base x.Values.len t18)∧LdW none (shInt .i64) h2 (sat x.Values.base 1 t18) fun x1=>
 NilW none w fun p1=>
 Call0 P zav [(.pointer (some (Addr.add p1 0))),(.int .i64 x1),(.int .i64 (8:Int))] (fun h3=>
 again (IntKind.wrap .i64 (t18+(1:Int))) h3) h2)
 else
 NilW none w fun p1=>
 Call0 P zag [(.pointer (some (Addr.add p1 0))),(.int .i64 ((x.Waiters.len:Nat):Int)),(.int .i64 (1:Int))] (fun h3=>
 LoopW1 (α1:=Int) (fun again1 t38 h4=>
 (if (decide (t38<((x.Waiters.len:Nat):Int)))=true then
 ((InB x.Waiters.base x.Waiters.len t38)∧LdW none sh_api_Waiter h4 (sat x.Waiters.base 2 t38) fun x1=>
 NilW none w fun p2=>
 Call0 P zag [(.pointer (some (Addr.add p2 0))),(.int .i64 x1.Proc),(.int .i64 (1:Int))] (fun h5=>
 NilW none w fun p3=>
 Call0 P zav [(.pointer (some (Addr.add p3 0))),(.int .i64 x1.Value_),(.int .i64 (8:Int))] (fun h6=>
 again1 (IntKind.wrap .i64 (t38+(1:Int))) h6) h5) h4)
 else
 NilW none w fun p2=>
 Call0 P zag [(.pointer (some (Addr.add p2 0))),(.int .i64 x.Taken),(.int .i64 (2:Int))] (fun h5=>
 NilW none w fun p3=>
 Call0 P zag [(.pointer (some (Addr.add p3 0))),(.int .i64 x.Dropped),(.int .i64 (2:Int))] (fun h6=>
 Q h6) h5) h4)) (0:Int) h3) h2)) (0:Int) h1) h
def zhf (P:Program) (c:S_api_Config) (Q:(Int→(Int→(Hp→Prop)))) (h:Hp):Prop:=
 Call2 P zlo [c.Labels.v] (shInt .i64) (shInt .i64) (fun r r1 h1=>
 (if (r !=(0:Int))=true then
 Q r (0:Int) h1
 else
 CallT P zii [c.Table.v,(.int .i64 ((c.Labels.len:Nat):Int))] (shInt .i64) (fun r2 h2=>
 (if (r2 !=(0:Int))=true then
 Q r2 (1:Int) h2
 else
 CallT P zbe [(.int .i64 c.Fuel),(.int .i64 (1:Int)),(.int .i64 (256:Int))] zaf (fun r3 h3=>
 ((True∧(True∧(True∧True)))∧CallT P zbe [(.int .i64 c.Lane),(.int .i64 (1:Int)),(.int .i64 (64:Int))] zaf (fun r4 h4=>
 ((True∧(True∧True))∧CallT P zbe [(.int .i64 c.Locks),(.int .i64 (0:Int)),(.int .i64 (8:Int))] zaf (fun r5 h5=>
 ((True∧True)∧CallT P zbe [(.int .i64 c.Log),(.int .i64 (0:Int)),(.int .i64 (4096:Int))] zaf (fun r6 h6=>
 LoopW1 (α1:=Int) (fun again i h7=>
 (if (decide (i<(4:Int)))=true then
 (((0:Int)≤i∧i<(4:Int))∧∃x:Bool,((List.get?Internal (α:=Value) [(.bool r3),(.bool r4),(.bool r5),(.bool r6)] (0+((Int.toNat i)*1)))=(some (.bool x))∧(if (!x)=true then
 Q (2:Int) (IntKind.wrap .i64 ((2:Int)+i)) h7
 else
 again (IntKind.wrap .i64 (i+(1:Int))) h7)))
 else
 (if (((c.Procs.len:Nat):Int)==(0:Int))=true then
 Q (1:Int) (6:Int) h7
 else
 (if (decide (((c.Procs.len:Nat):Int)>(32:Int)))=true then
 Q (3:Int) (6:Int) h7
 else
 LoopW1 (α1:=Int) (fun again1 i1 h8=>
 (if (decide (i1<((c.Procs.len:Nat):Int)))=true then
 ((InB c.Procs.base c.Procs.len i1)∧LdW none (shInt .i64) h8 (Addr.add (sat c.Procs.base 2 i1) 0) fun x=>
 CallT P zbe [(.int .i64 x),(.int .i64 (0:Int)),(.int .i64 (IntKind.wrap .i64 (((c.Labels.len:Nat):Int)-(1:Int))))] zaf (fun r7 h9=>
 (if (!r7)=true then
 Q (2:Int) (IntKind.wrap .i64 ((7:Int)+i1)) h9
 else
 ((InB c.Procs.base c.Procs.len i1)∧LdW none shSl h9 (Addr.add (sat c.Procs.base 2 i1) 1) fun x1=>
 Call2 P zlp [x1.v,(.int .i64 c.Locks)] (shInt .i64) (shInt .i64) (fun r8 r9 h10=>
 (if (r8 !=(0:Int))=true then
 Q r8 (IntKind.wrap .i64 ((7:Int)+i1)) h10
 else
 again1 (IntKind.wrap .i64 (i1+(1:Int))) h10)) h9))) h8)
 else
 Q (0:Int) (0:Int) h8)) (0:Int) h7)))) (0:Int) h6) h5)) h4)) h3)) h2)) h1)) h
def zft (P:Program) (c:S_api_Config) (s:S_api_State) (Q:(Bool→(Hp→Prop))) (h:Hp):Prop:=
 LetW ((((s.Parts.len:Nat):Int) !=((c.Labels.len:Nat):Int)) || (((s.Procs.len:Nat):Int) !=((c.Procs.len:Nat):Int))) fun y=>
 EffC (some (!y)) (CallT P zcb [(.int .i64 s.Tick),(.int .i64 (0:Int)),(.int .i64 (4611686018427387904:Int))] zaf) (fun r h1=>
 LetW (y || (!r)) fun y1=>
 (if y1=true then
 Q false h1
 else
 LoopW1 (α1:=Int) (fun again i h2=>
 (if (decide (i<((s.Parts.len:Nat):Int)))=true then
 ((InB s.Parts.base s.Parts.len i)∧LdW none shSl h2 (Addr.add (sat s.Parts.base 6 i) 4) fun x=>
 (((!(((x.len:Nat):Int) !=c.Locks))=true→(InB s.Parts.base s.Parts.len i))∧LdW (some (!(((x.len:Nat):Int) !=c.Locks))) shSl h2 (Addr.add (sat s.Parts.base 6 i) 5) fun x1=>
 LetW ((((x.len:Nat):Int) !=c.Locks) || (((x1.len:Nat):Int) !=c.Locks)) fun y2=>
 (((!y2)=true→(InB s.Parts.base s.Parts.len i))∧LdW (some (!y2)) shSl h2 (Addr.add (sat s.Parts.base 6 i) 1) fun x2=>
 LetW (y2 || (decide (((x2.len:Nat):Int)>c.Log))) fun y3=>
 (if y3=true then
 Q false h2
 else
 again (IntKind.wrap .i64 (i+(1:Int))) h2))))
 else
 LoopW1 (α1:=Int) (fun again1 p h3=>
 (if (decide (p<((s.Procs.len:Nat):Int)))=true then
 ((InB s.Procs.base s.Procs.len p)∧LdW none shSl h3 (Addr.add (sat s.Procs.base 15 p) 14) fun x=>
 (if (((x.len:Nat):Int) !=(IntKind.wrap .i64 (((c.Labels.len:Nat):Int)+(1:Int))))=true then
 Q false h3
 else
 LoopW1 (α1:=Int) (fun again2 k h4=>
 ((InB s.Procs.base s.Procs.len p)∧LdW none shSl h4 (Addr.add (sat s.Procs.base 15 p) 14) fun x1=>
 (if (decide (k<((x1.len:Nat):Int)))=true then
 ((InB s.Procs.base s.Procs.len p)∧LdW none shSl h4 (Addr.add (sat s.Procs.base 15 p) 14) fun x2=>
 ((InB x2.base x2.len k)∧LdW none shSl h4 (Addr.add (sat x2.base 4 k) 0) fun x3=>
 (if (decide (((x3.len:Nat):Int)>c.Lane))=true then
 Q false h4
 else
 again2 (IntKind.wrap .i64 (k+(1:Int))) h4)))
 else
 again1 (IntKind.wrap .i64 (p+(1:Int))) h4))) (0:Int) h3))
 else
 Q true h3)) (0:Int) h2)) (0:Int) h1)) h
def zcm (P:Program) (m:Option Addr) (i:Int) (Q:(Bool→(Hp→Prop))) (h:Hp):Prop:=
 NilW none m fun p=>
 LdW none shSl h (Addr.add (Addr.add p 7) 1) fun x=>
 ((InB x.base x.len i)∧LdW none sh_api_Part h (sat x.base 6 i) fun x1=>
 CallT P zfi [(.pointer m),(.int .i64 i)] shSl (fun r h1=>
 LetW ((decide (x1.Cursor>(0:Int)))&&(decide (x1.Cursor≥((r.len:Nat):Int)))) fun y=>
 LetW ((decide (x1.Cursor<(0:Int))) || y) fun y1=>
 EffC (some (!y1)) (CallT P zbv [(.int .i64 x1.Lost)] zaf) (fun r1 h2=>
 LetW (y1 || (!r1)) fun y2=>
 EffC (some (!y2)) (CallT P zbv [(.int .i64 x1.Forbidden)] zaf) (fun r2 h3=>
 LetW (y2 || (!r2)) fun y3=>
 NilW (some ((!y3)&&(decide (x1.Lost>(0:Int))))) m fun p1=>
 LdW (some ((!y3)&&(decide (x1.Lost>(0:Int))))) (shInt .i64) h3 (Addr.add (Addr.add p1 0) 5) fun x2=>
 LetW ((decide (x1.Lost>(0:Int)))&&(decide (((x1.Log.len:Nat):Int)<x2))) fun y4=>
 LetW (y3 || y4) fun y5=>
 (if y5=true then
 Q false h3
 else
 LoopW1 (α1:=Int) (fun again k h4=>
 (if (decide (k<((x1.Log.len:Nat):Int)))=true then
 ((InB x1.Log.base x1.Log.len k)∧LdW none sh_api_Entry h4 (sat x1.Log.base 3 k) fun x3=>
 NilW none m fun p2=>
 LdW none (shInt .i64) h4 (Addr.add (Addr.add p2 7) 0) fun x4=>
 CallT P zcb [(.int .i64 x3.Tick),(.int .i64 (0:Int)),(.int .i64 (IntKind.wrap .i64 (x4-(1:Int))))] zaf (fun r3 h5=>
 ((((!(!r3))&&(decide (k>(0:Int))))=true→(InB x1.Log.base x1.Log.len (IntKind.wrap .i64 (k-(1:Int)))))∧LdW (some ((!(!r3))&&(decide (k>(0:Int))))) (shInt .i64) h5 (Addr.add (sat x1.Log.base 3 (IntKind.wrap .i64 (k-(1:Int)))) 0) fun x5=>
 LetW ((decide (k>(0:Int)))&&(decide (x3.Tick<x5))) fun y6=>
 LetW ((!r3) || y6) fun y7=>
 LetW (y7 || (decide (x3.Proc<(0:Int)))) fun y8=>
 NilW (some (!y8)) m fun p3=>
 LdW (some (!y8)) shSl h5 (Addr.add (Addr.add p3 0) 6) fun x6=>
 LetW (y8 || (decide (x3.Proc≥((x6.len:Nat):Int)))) fun y9=>
 NilW (some (!y9)) m fun p4=>
 LdW (some (!y9)) shSl h5 (Addr.add (Addr.add p4 0) 6) fun x7=>
 (((!y9)=true→(InB x7.base x7.len x3.Proc))∧LdW (some (!y9)) (shInt .i64) h5 (Addr.add (sat x7.base 2 x3.Proc) 0) fun x8=>
 LetW (y9 || (x8 !=i)) fun y10=>
 (if y10=true then
 Q false h5
 else
 again (IntKind.wrap .i64 (k+(1:Int))) h5)))) h4)
 else
 LoopW1 (α1:=Int) (fun again1 k1 h5=>
 (if (decide (k1<((x1.Owners.len:Nat):Int)))=true then
 ((InB x1.Owners.base x1.Owners.len k1)∧LdW none (shInt .i64) h5 (sat x1.Owners.base 1 k1) fun x3=>
 (((!(x3==(-1:Int)))=true→(InB x1.Owners.base x1.Owners.len k1))∧LdW (some (!(x3==(-1:Int)))) (shInt .i64) h5 (sat x1.Owners.base 1 k1) fun x4=>
 EffC (some (!(x3==(-1:Int)))) (CallT P zbx [(.pointer m),(.int .i64 x4),(.int .i64 i)] zaf) (fun r3 h6=>
 LetW ((x3==(-1:Int)) || r3) fun y6=>
 (((!(!y6))=true→(InB x1.Owners.base x1.Owners.len k1))∧LdW (some (!(!y6))) (shInt .i64) h6 (sat x1.Owners.base 1 k1) fun x5=>
 ((((!(!y6))&&(x5==(-1:Int)))=true→(InB x1.Queues.base x1.Queues.len k1))∧LdW (some ((!(!y6))&&(x5==(-1:Int)))) shSl h6 (sat x1.Queues.base 1 k1) fun x6=>
 LetW ((x5==(-1:Int))&&(decide (((x6.len:Nat):Int)>(0:Int)))) fun y7=>
 LetW ((!y6) || y7) fun y8=>
 (if y8=true then
 Q false h6
 else
 LoopW1 (α1:=Int) (fun again2 n h7=>
 ((InB x1.Queues.base x1.Queues.len k1)∧LdW none shSl h7 (sat x1.Queues.base 1 k1) fun x7=>
 (if (decide (n<((x7.len:Nat):Int)))=true then
 ((InB x1.Queues.base x1.Queues.len k1)∧LdW none shSl h7 (sat x1.Queues.base 1 k1) fun x8=>
 ((InB x8.base x8.len n)∧LdW none (shInt .i64) h7 (sat x8.base 1 n) fun x9=>
 CallT P zbx [(.pointer m),(.int .i64 x9),(.int .i64 i)] zaf (fun r4 h8=>
 NilW (some (!(!r4))) m fun p2=>
 LdW (some (!(!r4))) shSl h8 (Addr.add (Addr.add p2 7) 2) fun x10=>
 (((!(!r4))=true→(InB x10.base x10.len x9))∧LdW (some (!(!r4))) (shInt .i64) h8 (Addr.add (sat x10.base 15 x9) 0) fun x11=>
 LetW ((!r4) || (x11 !=(3:Int))) fun y9=>
 (((!y9)=true→(InB x1.Owners.base x1.Owners.len k1))∧LdW (some (!y9)) (shInt .i64) h8 (sat x1.Owners.base 1 k1) fun x12=>
 LetW (y9 || (x12==x9)) fun y10=>
 (if y10=true then
 Q false h8
 else
 again2 (IntKind.wrap .i64 (n+(1:Int))) h8)))) h7))
 else
 again1 (IntKind.wrap .i64 (k1+(1:Int))) h7))) (0:Int) h6)))) h5))
 else
 Q true h5)) (0:Int) h4)) (0:Int) h3)) h2) h1) h)
def zbw (P:Program) (m:Option Addr) (p:Int) (Q:(Bool→(Hp→Prop))) (h:Hp):Prop:=
 NilW none m fun p1=>
 LdW none shSl h (Addr.add (Addr.add p1 7) 2) fun x=>
 ((InB x.base x.len p)∧LdW none sh_api_Process h (sat x.base 15 p) fun x1=>
 NilW none m fun p2=>
 LdW none shSl h (Addr.add (Addr.add p2 0) 6) fun x2=>
 ((InB x2.base x2.len p)∧LdW none (shInt .i64) h (Addr.add (sat x2.base 2 p) 0) fun x3=>
 LetW ((decide (x1.State<(0:Int))) || (decide (x1.State>(6:Int)))) fun y=>
 LetW (y || (decide (x1.PC<(0:Int)))) fun y1=>
 NilW (some (!y1)) m fun p3=>
 LdW (some (!y1)) shSl h (Addr.add (Addr.add p3 0) 6) fun x4=>
 (((!y1)=true→(InB x4.base x4.len p))∧LdW (some (!y1)) shSl h (Addr.add (sat x4.base 2 p) 1) fun x5=>
 LetW (y1 || (decide (x1.PC>((x5.len:Nat):Int)))) fun y2=>
 LetW (y2 || (decide (x1.Cursor<(0:Int)))) fun y3=>
 LetW (y3 || (decide (x1.Cursor≥((x1.Lanes.len:Nat):Int)))) fun y4=>
 (if y4=true then
 Q false h
 else
 NilW none m fun p4=>
 LdW none (shInt .i64) h (Addr.add (Addr.add p4 7) 0) fun x6=>
 CallT P zcb [(.int .i64 x1.Timer),(.int .i64 (0:Int)),(.int .i64 (IntKind.wrap .i64 (x6+(1099511627776:Int))))] zaf (fun r h1=>
 EffC (some (!(!r))) (CallT P zcb [(.int .i64 x1.Wake),(.int .i64 (0:Int)),(.int .i64 (IntKind.wrap .i64 (x6+(1099511627776:Int))))] zaf) (fun r1 h2=>
 LetW ((!r) || (!r1)) fun y5=>
 LetW (y5 || (!((decide (x1.Wake>(0:Int)))==(x1.State==(4:Int))))) fun y6=>
 (if y6=true then
 Q false h2
 else
 LetW ((x1.Timer !=(0:Int)) || x1.Fired) fun y7=>
 LetW ((decide (x1.State≥(5:Int)))&&y7) fun y8=>
 (if y8=true then
 Q false h2
 else
 LoopW1 (α1:=Int) (fun again k h3=>
 (if (decide (k<((x1.Lanes.len:Nat):Int)))=true then
 ((InB x1.Lanes.base x1.Lanes.len k)∧LdW none sh_api_Lane h3 (sat x1.Lanes.base 4 k) fun x7=>
 CallT P zbv [(.int .i64 x7.Taken)] zaf (fun r2 h4=>
 EffC (some (!(!r2))) (CallT P zbv [(.int .i64 x7.Dropped)] zaf) (fun r3 h5=>
 LetW ((!r2) || (!r3)) fun y9=>
 (if y9=true then
 Q false h5
 else
 NilW none m fun p5=>
 LdW none shSl h5 (Addr.add (Addr.add p5 0) 0) fun x8=>
 EffC (some (decide (k<((x8.len:Nat):Int)))) (CallT P zdx [(.pointer m),(.int .i64 k),(.int .i64 x3)] zaf) (fun r4 h6=>
 LetW ((decide (k<((x8.len:Nat):Int)))&&(!r4)) fun y10=>
 LetW ((decide (((x7.Values.len:Nat):Int)>(0:Int))) || (decide (x7.Taken>(0:Int)))) fun y11=>
 LetW (y11 || (decide (x7.Dropped>(0:Int)))) fun y12=>
 LetW (y10&&y12) fun y13=>
 (if y13=true then
 Q false h6
 else
 LetW ((k !=x3) || (decide (x1.State≥(5:Int)))) fun y14=>
 NilW (some ((decide (((x7.Waiters.len:Nat):Int)>(0:Int)))&&(!y14))) m fun p6=>
 LdW (some ((decide (((x7.Waiters.len:Nat):Int)>(0:Int)))&&(!y14))) (shInt .i64) h6 (Addr.add (Addr.add p6 0) 3) fun x9=>
 LetW (y14 || (decide (((x7.Values.len:Nat):Int)<x9))) fun y15=>
 LetW ((decide (((x7.Waiters.len:Nat):Int)>(0:Int)))&&y15) fun y16=>
 (if y16=true then
 Q false h6
 else
 LoopW1 (α1:=Int) (fun again1 n h7=>
 (if (decide (n<((x7.Waiters.len:Nat):Int)))=true then
 ((InB x7.Waiters.base x7.Waiters.len n)∧LdW none sh_api_Waiter h7 (sat x7.Waiters.base 2 n) fun x10=>
 CallT P zbx [(.pointer m),(.int .i64 x10.Proc),(.int .i64 x3)] zaf (fun r5 h8=>
 NilW (some (!(!r5))) m fun p7=>
 LdW (some (!(!r5))) shSl h8 (Addr.add (Addr.add p7 7) 2) fun x11=>
 (((!(!r5))=true→(InB x11.base x11.len x10.Proc))∧LdW (some (!(!r5))) (shInt .i64) h8 (Addr.add (sat x11.base 15 x10.Proc) 0) fun x12=>
 LetW ((!r5) || (x12 !=(2:Int))) fun y17=>
 (if y17=true then
 Q false h8
 else
 again1 (IntKind.wrap .i64 (n+(1:Int))) h8))) h7)
 else
 again (IntKind.wrap .i64 (k+(1:Int))) h7)) (0:Int) h6))) h5)) h4) h3)
 else
 Q true h3)) (0:Int) h2))) h1) h))))
def zce (P:Program) (m:Option Addr) (p:Int) (Q:(Bool→(Hp→Prop))) (h:Hp):Prop:=
 NilW none m fun p1=>
 LdW none shSl h (Addr.add (Addr.add p1 7) 2) fun x=>
 ((InB x.base x.len p)∧LdW none sh_api_Process h (sat x.base 15 p) fun x1=>
 NilW none m fun p2=>
 LdW none shSl h (Addr.add (Addr.add p2 0) 6) fun x2=>
 ((InB x2.base x2.len p)∧LdW none (shInt .i64) h (Addr.add (sat x2.base 2 p) 0) fun x3=>
 NilW none m fun p3=>
 LdW none shSl h (Addr.add (Addr.add p3 0) 6) fun x4=>
 ((InB x4.base x4.len p)∧LdW none shSl h (Addr.add (sat x4.base 2 p) 1) fun x5=>
 CallT P zel [(.pointer m),(.int .i64 p)] zch (fun r h1=>
 (((LdIs h1 (Addr.add (Addr.add p3 0) 6) [x4.v])∧((LdIs h1 (Addr.add (sat x4.base 2 p) 1) [x5.v])∧True))∧Call2 P zmo [r.v,x5.v] sh_api_Ins zaf (fun r1 r2 h2=>
 LoopW2 (α1:=Int) (α2:=Int) (fun again queues k h3=>
 NilW none m fun p4=>
 LdW none shSl h3 (Addr.add (Addr.add p4 7) 1) fun x6=>
 ((InB x6.base x6.len x3)∧LdW none shSl h3 (Addr.add (sat x6.base 6 x3) 5) fun x7=>
 (if (decide (k<((x7.len:Nat):Int)))=true then
 LoopW2 (α1:=Int) (α2:=Int) (fun again1 queues1 n h4=>
 NilW none m fun p5=>
 LdW none shSl h4 (Addr.add (Addr.add p5 7) 1) fun x8=>
 ((InB x8.base x8.len x3)∧LdW none shSl h4 (Addr.add (sat x8.base 6 x3) 5) fun x9=>
 ((InB x9.base x9.len k)∧LdW none shSl h4 (sat x9.base 1 k) fun x10=>
 (if (decide (n<((x10.len:Nat):Int)))=true then
 JoinW1 (α1:=Int) (fun k1=>
 NilW none m fun p6=>
 LdW none shSl h4 (Addr.add (Addr.add p6 7) 1) fun x11=>
 ((InB x11.base x11.len x3)∧LdW none shSl h4 (Addr.add (sat x11.base 6 x3) 5) fun x12=>
 ((InB x12.base x12.len k)∧LdW none shSl h4 (sat x12.base 1 k) fun x13=>
 ((InB x13.base x13.len n)∧LdW none (shInt .i64) h4 (sat x13.base 1 n) fun x14=>
 (if (x14 !=p)=true then
 k1 queues1 h4
 else
 LetW ((!r2) || (r1.Op !=(29:Int))) fun y=>
 LetW (y || (r1.Imm !=k)) fun y1=>
 (if y1=true then
 Q false h4
 else
 k1 (IntKind.wrap .i64 (queues1+(1:Int))) h4))))))
 (fun queues2 h5=>
 again1 queues2 (IntKind.wrap .i64 (n+(1:Int))) h5)
 else
 again queues1 (IntKind.wrap .i64 (k+(1:Int))) h4)))) queues (0:Int) h3
 else
 LoopW2 (α1:=Int) (α2:=Int) (fun again1 lanes q h4=>
 NilW none m fun p5=>
 LdW none shSl h4 (Addr.add (Addr.add p5 7) 2) fun x8=>
 (if (decide (q<((x8.len:Nat):Int)))=true then
 NilW none m fun p6=>
 LdW none shSl h4 (Addr.add (Addr.add p6 7) 2) fun x9=>
 ((InB x9.base x9.len q)∧LdW none shSl h4 (Addr.add (sat x9.base 15 q) 14) fun x10=>
 ((InB x10.base x10.len x3)∧LdW none shSl h4 (Addr.add (sat x10.base 4 x3) 1) fun x11=>
 LoopW2 (α1:=Int) (α2:=Int) (fun again2 lanes1 n h5=>
 (if (decide (n<((x11.len:Nat):Int)))=true then
 JoinW1 (α1:=Int) (fun k1=>
 ((InB x11.base x11.len n)∧LdW none (shInt .i64) h5 (Addr.add (sat x11.base 2 n) 0) fun x12=>
 (if (x12 !=p)=true then
 k1 lanes1 h5
 else
 LetW ((!r2) || (r1.Op !=(24:Int))) fun y=>
 (((!y)=true→((0:Int)≤r1.B∧r1.B<(8:Int)))∧∃x13:Int,(((!y)=true→(List.get?Internal (α:=Value) [(.int .i64 x1.State),(.int .i64 x1.PC),(.int .i64 x1.Regs_0),(.int .i64 x1.Regs_1),(.int .i64 x1.Regs_2),(.int .i64 x1.Regs_3),(.int .i64 x1.Regs_4),(.int .i64 x1.Regs_5),(.int .i64 x1.Regs_6),(.int .i64 x1.Regs_7),(.int .i64 x1.Cursor),(.int .i64 x1.Timer),(.bool x1.Fired),(.int .i64 x1.Wake),x1.Lanes.v] (2+((Int.toNat r1.B)*1)))=(some (.int .i64 x13)))∧LetW (y || (x13 !=q)) fun y1=>
 (((!y1)=true→((0:Int)≤r1.C∧r1.C<(8:Int)))∧∃x14:Int,(((!y1)=true→(List.get?Internal (α:=Value) [(.int .i64 x1.State),(.int .i64 x1.PC),(.int .i64 x1.Regs_0),(.int .i64 x1.Regs_1),(.int .i64 x1.Regs_2),(.int .i64 x1.Regs_3),(.int .i64 x1.Regs_4),(.int .i64 x1.Regs_5),(.int .i64 x1.Regs_6),(.int .i64 x1.Regs_7),(.int .i64 x1.Cursor),(.int .i64 x1.Timer),(.bool x1.Fired),(.int .i64 x1.Wake),x1.Lanes.v] (2+((Int.toNat r1.C)*1)))=(some (.int .i64 x14)))∧(((!y1)=true→(InB x11.base x11.len n))∧LdW (some (!y1)) (shInt .i64) h5 (Addr.add (sat x11.base 2 n) 1) fun x15=>
 LetW (y1 || (x14 !=x15)) fun y2=>
 (if y2=true then
 Q false h5
 else
 k1 (IntKind.wrap .i64 (lanes1+(1:Int))) h5)))))))))
 (fun lanes2 h6=>
 again2 lanes2 (IntKind.wrap .i64 (n+(1:Int))) h6)
 else
 again1 lanes1 (IntKind.wrap .i64 (q+(1:Int))) h5)) lanes (0:Int) h4))
 else
 LoopW2 (α1:=Bool) (α2:=Int) (fun again2 some_ k1 h5=>
 (if (decide (k1<((x1.Lanes.len:Nat):Int)))=true then
 (((!some_)=true→(InB x1.Lanes.base x1.Lanes.len k1))∧LdW (some (!some_)) shSl h5 (Addr.add (sat x1.Lanes.base 4 k1) 0) fun x9=>
 LetW (some_ || (decide (((x9.len:Nat):Int)>(0:Int)))) fun y=>
 again2 y (IntKind.wrap .i64 (k1+(1:Int))) h5)
 else
 (if (x1.State==(3:Int))=true then
 LetW ((queues==(1:Int))&&(lanes==(0:Int))) fun y=>
 Q y h5
 else
 (if (x1.State==(2:Int))=true then
 LetW ((queues==(0:Int))&&(lanes==(1:Int))) fun y=>
 Q y h5
 else
 (if (x1.State==(1:Int))=true then
 LetW ((queues==(0:Int))&&(lanes==(0:Int))) fun y=>
 LetW (y&&r2) fun y1=>
 LetW (y1&&(r1.Op==(25:Int))) fun y2=>
 LetW (y2&&(!some_)) fun y3=>
 LetW (y3&&(!x1.Fired)) fun y4=>
 Q y4 h5
 else
 (if (x1.State==(4:Int))=true then
 LetW ((queues==(0:Int))&&(lanes==(0:Int))) fun y=>
 LetW (y&&r2) fun y1=>
 LetW (y1&&(r1.Op==(28:Int))) fun y2=>
 Q y2 h5
 else
 LetW ((queues==(0:Int))&&(lanes==(0:Int))) fun y=>
 Q y h5)))))) false (0:Int) h4)) (0:Int) (0:Int) h3))) (0:Int) (0:Int) h2) h1)) h)))
def zkx (P:Program) (r:Option Addr) (many:Int) (Q:(Int→(Hp→Prop))) (h:Hp):Prop:=
 NilW none r fun p=>
 LdW none (shInt .i64) h (Addr.add p 2) fun x=>
 (if (x !=(0:Int))=true then
 Q (0:Int) h
 else
 NilW none r fun p1=>
 LdW none shSl h (Addr.add p1 0) fun x1=>
 NilW none r fun p2=>
 LdW none (shInt .i64) h (Addr.add p2 1) fun x2=>
 (if (decide ((IntKind.wrap .i64 (((x1.len:Nat):Int)-x2))<many))=true then
 NilW none r fun p3=>
 LdW none shSl h (Addr.add p3 0) fun x3=>
 Call0 P zbd [(.pointer r),(.int .i64 (5:Int)),(.int .i64 ((x3.len:Nat):Int))] (fun h1=>
 Q (0:Int) h1) h
 else
 NilW none r fun p3=>
 LdW none shSl h (Addr.add p3 0) fun x3=>
 NilW none r fun p4=>
 LdW none (shInt .i64) h (Addr.add p4 1) fun x4=>
 NilW none r fun p5=>
 LdW none (shInt .i64) h (Addr.add p5 1) fun x5=>
 (((0:Int)≤x4∧(x4≤(IntKind.wrap .i64 (x5+many))∧(IntKind.wrap .i64 (x5+many))≤((x3.cap:Nat):Int)))∧LetW (α:=Sl) ⟨(sbase x3.base 1 (Int.toNat x4) x3.cap),((Int.toNat (IntKind.wrap .i64 (x5+many)))-(Int.toNat x4)),(x3.cap-(Int.toNat x4))⟩ fun y=>
 LoopW2 (α1:=Int) (α2:=Int) (fun again n t48 h1=>
 (if (decide (t48<((y.len:Nat):Int)))=true then
 ((InB y.base y.len t48)∧LdW none (shInt .u8) h1 (sat y.base 1 t48) fun x6=>
 ((0:Int)≤(IntKind.wrap .i64 ((8:Int)*t48))∧again (bitsI .or .u64 n (shlI .u64 (IntKind.wrap .u64 x6) (IntKind.wrap .i64 ((8:Int)*t48)))) (IntKind.wrap .i64 (t48+(1:Int))) h1))
 else
 NilW none r fun p6=>
 LdW none (shInt .i64) h1 (Addr.add p6 1) fun x6=>
 NilW none r fun p7=>
 StW h1 (Addr.add p7 1) [(.int .i64 (IntKind.wrap .i64 (x6+many)))] (fun h2=>
 Q (IntKind.wrap .i64 n) h2))) (0:Int) (0:Int) h)))
def zhg (P:Program) (r:Option Addr) (Q:(Hp→Prop)) (h:Hp):Prop:=
 NilW none r fun p=>
 CallT P zap [(.pointer (some (Addr.add p 0))),(.int .i64 (4:Int))] (shInt .i64) (fun r1 h1=>
 NilW none r fun p1=>
 LdW none (shInt .i64) h1 (Addr.add (Addr.add p1 0) 2) fun x=>
 (if (x !=(0:Int))=true then
 Q h1
 else
 NilW none r fun p2=>
 LdW none shSl h1 (Addr.add (Addr.add p2 0) 0) fun x1=>
 NilW none r fun p3=>
 LdW none (shInt .i64) h1 (Addr.add (Addr.add p3 0) 1) fun x2=>
 (if (decide ((IntKind.wrap .i64 (((x1.len:Nat):Int)-x2))<r1))=true then
 NilW none r fun p4=>
 NilW none r fun p5=>
 LdW none shSl h1 (Addr.add (Addr.add p5 0) 0) fun x3=>
 Call0 P zbd [(.pointer (some (Addr.add p4 0))),(.int .i64 (5:Int)),(.int .i64 ((x3.len:Nat):Int))] (fun h2=>
 Q h2) h1
 else
 NilW none r fun p4=>
 LdW none shSl h1 (Addr.add (Addr.add p4 0) 0) fun x3=>
 NilW none r fun p5=>
 LdW none (shInt .i64) h1 (Addr.add (Addr.add p5 0) 1) fun x4=>
 NilW none r fun p6=>
 LdW none (shInt .i64) h1 (Addr.add (Addr.add p6 0) 1) fun x5=>
 (((0:Int)≤x4∧(x4≤(IntKind.wrap .i64 (x5+r1))∧(IntKind.wrap .i64 (x5+r1))≤((x3.cap:Nat):Int)))∧LetW (α:=Sl) ⟨(sbase x3.base 1 (Int.toNat x4) x3.cap),((Int.toNat (IntKind.wrap .i64 (x5+r1)))-(Int.toNat x4)),(x3.cap-(Int.toNat x4))⟩ fun y=>
 Call3 P zyc [y.v] sh_api_Config (shInt .i64) (shInt .i64) (fun r2 r3 r4 h2=>
 (if (r3 !=(0:Int))=true then
 NilW none r fun p7=>
 NilW none r fun p8=>
 LdW none (shInt .i64) h2 (Addr.add (Addr.add p8 0) 1) fun x6=>
 Call0 P zbd [(.pointer (some (Addr.add p7 0))),(.int .i64 r3),(.int .i64 (IntKind.wrap .i64 (x6+r4)))] (fun h3=>
 Q h3) h2
 else
 NilW none r fun p7=>
 StW h2 (Addr.add p7 4) [r2.Labels.v,r2.Table.v,(.int .i64 r2.Fuel),(.int .i64 r2.Lane),(.int .i64 r2.Locks),(.int .i64 r2.Log),r2.Procs.v] (fun h3=>
 NilW none r fun p8=>
 LdW none (shInt .i64) h3 (Addr.add (Addr.add p8 0) 1) fun x6=>
 NilW none r fun p9=>
 StW h3 (Addr.add (Addr.add p9 0) 1) [(.int .i64 (IntKind.wrap .i64 (x6+r1)))] (fun h4=>
 Q h4)))) h1)))) h
def zjq (P:Program) (r:Option Addr) (Q:(S_api_Part→(Hp→Prop))) (h:Hp):Prop:=
 NilW none r fun p=>
 CallT P zap [(.pointer (some (Addr.add p 0))),(.int .i64 (1:Int))] (shInt .i64) (fun r1 h1=>
 NilW none r fun p1=>
 NilW none r fun p2=>
 LdW none (shInt .i64) h1 (Addr.add (Addr.add p2 4) 5) fun x=>
 CallT P zcu [(.pointer (some (Addr.add p1 0))),(.int .i64 (2:Int)),(.int .i64 x)] (shInt .i64) (fun r2 h2=>
 LoopW2 (α1:=Int) (α2:=S_api_Part) (fun again t19 x1 h3=>
 (if (decide (t19<r2))=true then
 NilW none r fun p3=>
 NilW none r fun p4=>
 NilW none r fun p5=>
 CallT P zbc [(.pointer (some (Addr.add p3 0))),(.int .i64 (8:Int))] (shInt .i64) (fun r3 h4=>
 ((True∧True)∧CallT P zap [(.pointer (some (Addr.add p4 0))),(.int .i64 (1:Int))] (shInt .i64) (fun r4 h5=>
 ((True∧True)∧CallT P zbc [(.pointer (some (Addr.add p5 0))),(.int .i64 (8:Int))] (shInt .i64) (fun r5 h6=>
 ((True∧True)∧NewW [(.int .i64 r3),(.int .i64 r4),(.int .i64 r5)] (fun a h7=>
 ((True∧True)∧zas 3 24 [(.int .i64 (0:Int)),(.int .i64 (0:Int)),(.int .i64 (0:Int))] ⟨x1.Log.base,x1.Log.len,x1.Log.cap⟩ ⟨(some a),1,1⟩ (fun r6 h8=>
 again (IntKind.wrap .i64 (t19+(1:Int))) ⟨x1.Cursor,r6,x1.Lost,x1.Forbidden,x1.Owners,x1.Queues⟩ h8) h7)) h6)) h5)) h4)) h3
 else
 NilW none r fun p3=>
 NilW none r fun p4=>
 CallT P zap [(.pointer (some (Addr.add p3 0))),(.int .i64 (2:Int))] (shInt .i64) (fun r3 h4=>
 CallT P zap [(.pointer (some (Addr.add p4 0))),(.int .i64 (2:Int))] (shInt .i64) (fun r4 h5=>
 NilW none r fun p5=>
 LdW none (shInt .i64) h5 (Addr.add (Addr.add p5 4) 4) fun x2=>
 LoopW2 (α1:=Int) (α2:=S_api_Part) (fun again1 t55 x3 h6=>
 (if (decide (t55<x2))=true then
 NilW none r fun p6=>
 CallT P zap [(.pointer (some (Addr.add p6 0))),(.int .i64 (1:Int))] (shInt .i64) (fun r5 h7=>
 ((True∧True)∧NewW [(.int .i64 (IntKind.wrap .i64 (r5-(1:Int))))] (fun a h8=>
 ((True∧True)∧zas 1 8 [(.int .i64 (0:Int))] ⟨x3.Owners.base,x3.Owners.len,x3.Owners.cap⟩ ⟨(some a),1,1⟩ (fun r6 h9=>
 NilW none r fun p7=>
 NilW none r fun p8=>
 LdW none shSl h9 (Addr.add (Addr.add p8 4) 6) fun x4=>
 CallT P zcu [(.pointer (some (Addr.add p7 0))),(.int .i64 (1:Int)),(.int .i64 ((x4.len:Nat):Int))] (shInt .i64) (fun r7 h10=>
 LoopW2 (α1:=Sl) (α2:=Int) (fun again2 q t77 h11=>
 (if (decide (t77<r7))=true then
 NilW none r fun p9=>
 CallT P zap [(.pointer (some (Addr.add p9 0))),(.int .i64 (1:Int))] (shInt .i64) (fun r8 h12=>
 NewW [(.int .i64 r8)] (fun a1 h13=>
 zas 1 8 [(.int .i64 (0:Int))] ⟨q.base,q.len,q.cap⟩ ⟨(some a1),1,1⟩ (fun r9 h14=>
 again2 r9 (IntKind.wrap .i64 (t77+(1:Int))) h14) h13) h12) h11
 else
 NewW [q.v] (fun a1 h12=>
 zas 1 24 [(.slice none 0 0)] ⟨x3.Queues.base,x3.Queues.len,x3.Queues.cap⟩ ⟨(some a1),1,1⟩ (fun r8 h13=>
 again1 (IntKind.wrap .i64 (t55+(1:Int))) ⟨x3.Cursor,x3.Log,x3.Lost,x3.Forbidden,r6,r8⟩ h13) h12) h11)) ⟨none,0,0⟩ (0:Int) h10) h9) h8)) h7)) h6
 else
 Q x3 h6)) (0:Int) ⟨x1.Cursor,x1.Log,r3,r4,x1.Owners,x1.Queues⟩ h5) h4) h3)) (0:Int) ⟨r1,⟨none,0,0⟩,(0:Int),(0:Int),⟨none,0,0⟩,⟨none,0,0⟩⟩ h2) h1) h
def zjr (P:Program) (r:Option Addr) (Q:(S_api_Process→(Hp→Prop))) (h:Hp):Prop:=
 NilW none r fun p=>
 NilW none r fun p1=>
 CallT P zap [(.pointer (some (Addr.add p 0))),(.int .i64 (1:Int))] (shInt .i64) (fun r1 h1=>
 CallT P zap [(.pointer (some (Addr.add p1 0))),(.int .i64 (2:Int))] (shInt .i64) (fun r2 h2=>
 NewW [(.int .i64 r1),(.int .i64 r2),(.int .i64 (0:Int)),(.int .i64 (0:Int)),(.int .i64 (0:Int)),(.int .i64 (0:Int)),(.int .i64 (0:Int)),(.int .i64 (0:Int)),(.int .i64 (0:Int)),(.int .i64 (0:Int)),(.int .i64 (0:Int)),(.int .i64 (0:Int)),(.bool false),(.int .i64 (0:Int)),(.slice none 0 0)] (fun a h3=>
 LoopW1 (α1:=Int) (fun again t16 h4=>
 (if (decide (t16<(8:Int)))=true then
 NilW none r fun p2=>
 CallT P zbc [(.pointer (some (Addr.add p2 0))),(.int .i64 (8:Int))] (shInt .i64) (fun r3 h5=>
 (((0:Int)≤t16∧t16<(8:Int))∧StW h5 (Addr.add (Addr.add a 2) ((Int.toNat t16)*1)) [(.int .i64 r3)] (fun h6=>
 again (IntKind.wrap .i64 (t16+(1:Int))) h6))) h4
 else
 NilW none r fun p2=>
 CallT P zap [(.pointer (some (Addr.add p2 0))),(.int .i64 (1:Int))] (shInt .i64) (fun r3 h5=>
 StW h5 (Addr.add a 10) [(.int .i64 r3)] (fun h6=>
 NilW none r fun p3=>
 CallT P zbc [(.pointer (some (Addr.add p3 0))),(.int .i64 (8:Int))] (shInt .i64) (fun r4 h7=>
 StW h7 (Addr.add a 11) [(.int .i64 r4)] (fun h8=>
 NilW none r fun p4=>
 LdW none (shInt .i64) h8 (Addr.add (Addr.add p4 0) 1) fun x=>
 NilW none r fun p5=>
 CallT P zap [(.pointer (some (Addr.add p5 0))),(.int .i64 (1:Int))] (shInt .i64) (fun r5 h9=>
 JoinW0 (fun k=>
 (if (decide (r5>(1:Int)))=true then
 NilW none r fun p6=>
 Call0 P zbd [(.pointer (some (Addr.add p6 0))),(.int .i64 (4:Int)),(.int .i64 x)] (fun h10=>
 k h10) h9
 else
 k h9))
 (fun h10=>
 StW h10 (Addr.add a 12) [(.bool (r5==(1:Int)))] (fun h11=>
 NilW none r fun p6=>
 CallT P zbc [(.pointer (some (Addr.add p6 0))),(.int .i64 (8:Int))] (shInt .i64) (fun r6 h12=>
 StW h12 (Addr.add a 13) [(.int .i64 r6)] (fun h13=>
 NilW none r fun p7=>
 LdW none shSl h13 (Addr.add (Addr.add p7 4) 0) fun x1=>
 LoopW1 (α1:=Int) (fun again1 t68 h14=>
 (if (decide (t68<(IntKind.wrap .i64 (((x1.len:Nat):Int)+(1:Int)))))=true then
 LdW none shSl h14 (Addr.add a 14) fun x2=>
 CallT P znf [(.pointer r)] sh_api_Lane (fun r7 h15=>
 (((LdIs h15 (Addr.add a 14) [x2.v])∧True)∧NewW [r7.Values.v,r7.Waiters.v,(.int .i64 r7.Taken),(.int .i64 r7.Dropped)] (fun a1 h16=>
 (((LdIs h16 (Addr.add a 14) [x2.v])∧True)∧zas 4 64 [(.slice none 0 0),(.slice none 0 0),(.int .i64 (0:Int)),(.int .i64 (0:Int))] x2 ⟨(some a1),1,1⟩ (fun r8 h17=>
 StW h17 (Addr.add a 14) [r8.v] (fun h18=>
 again1 (IntKind.wrap .i64 (t68+(1:Int))) h18)) h16)) h15)) h14
 else
 LdW none sh_api_Process h14 a fun x2=>
 Q x2 h14)) (0:Int) h13)) h11))) h8)) h6)) h4)) (0:Int) h3) h2) h1) h
def zex (P:Program) (b:Sl) (Q:(S_api_Config→(Int→(Int→(Hp→Prop))))) (h:Hp):Prop:=
 (if (decide (((b.len:Nat):Int)>(1048576:Int)))=true then
 Q ⟨⟨none,0,0⟩,⟨none,0,0⟩,(0:Int),(0:Int),(0:Int),(0:Int),⟨none,0,0⟩⟩ (22:Int) (1048576:Int) h
 else
 NewW [b.v,(.int .i64 (0:Int)),(.int .i64 (0:Int)),(.int .i64 (0:Int))] (fun a h1=>
 CallT P zdy [(.pointer (some a))] sh_api_Config (fun r h2=>
 JoinW0 (fun k=>
 NilW none (some a) fun p=>
 LdW none (shInt .i64) h2 (Addr.add p 2) fun x=>
 NilW (some (x==(0:Int))) (some a) fun p1=>
 LdW (some (x==(0:Int))) (shInt .i64) h2 (Addr.add p1 1) fun x1=>
 LetW ((x==(0:Int))&&(decide (x1<((b.len:Nat):Int)))) fun y=>
 (if y=true then
 NilW none (some a) fun p2=>
 LdW none (shInt .i64) h2 (Addr.add p2 1) fun x2=>
 Call0 P zah [(.pointer (some a)),(.int .i64 (6:Int)),(.int .i64 x2)] (fun h3=>
 k h3) h2
 else
 k h2))
 (fun h3=>
 NilW none (some a) fun p=>
 LdW none (shInt .i64) h3 (Addr.add p 2) fun x=>
 (if (x !=(0:Int))=true then
 NilW none (some a) fun p1=>
 LdW none (shInt .i64) h3 (Addr.add p1 2) fun x1=>
 NilW none (some a) fun p2=>
 LdW none (shInt .i64) h3 (Addr.add p2 3) fun x2=>
 (((LdIs h3 (Addr.add p1 2) [(.int .i64 x1)])∧((LdIs h3 (Addr.add p2 3) [(.int .i64 x2)])∧True))∧Q ⟨⟨none,0,0⟩,⟨none,0,0⟩,(0:Int),(0:Int),(0:Int),(0:Int),⟨none,0,0⟩⟩ x1 x2 h3)
 else
 Q r (0:Int) (0:Int) h3))) h1) h)
def zfu (P:Program) (r:Option Addr) (bytes:Int) (most:Int) (Q:(Int→(Hp→Prop))) (h:Hp):Prop:=
 CallT P zam [(.pointer r),(.int .i64 bytes),(.int .i64 (0:Int)),(.int .i64 most),(.int .i64 (3:Int)),(.int .i64 (3:Int))] (shInt .i64) (fun r1 h1=>
 Q r1 h1) h
def zcv (P:Program) (r:Option Addr) (many:Int) (least:Int) (most:Int) (low:Int) (high:Int) (Q:(Int→(Hp→Prop))) (h:Hp):Prop:=
 NilW none r fun p=>
 LdW none (shInt .i64) h (Addr.add p 1) fun x=>
 CallT P zad [(.pointer r),(.int .i64 many)] (shInt .u64) (fun r1 h1=>
 NilW none r fun p1=>
 LdW none (shInt .i64) h1 (Addr.add p1 2) fun x1=>
 (if (x1 !=(0:Int))=true then
 Q (0:Int) h1
 else
 JoinW0 (fun k=>
 (if (decide ((IntKind.wrap .i64 r1)<least))=true then
 Call0 P zah [(.pointer r),(.int .i64 low),(.int .i64 x)] (fun h2=>
 k h2) h1
 else
 k h1))
 (fun h2=>
 (if (decide ((IntKind.wrap .i64 r1)>most))=true then
 Call0 P zah [(.pointer r),(.int .i64 high),(.int .i64 x)] (fun h3=>
 Q (IntKind.wrap .i64 r1) h3) h2
 else
 Q (IntKind.wrap .i64 r1) h2)))) h
def zdo (P:Program) (r:Option Addr) (c:S_api_Config) (Q:(S_api_Lane→(Hp→Prop))) (h:Hp):Prop:=
 CallT P zci [(.pointer r),(.int .i64 (1:Int)),(.int .i64 c.Lane)] (shInt .i64) (fun r1 h1=>
 LoopW2 (α1:=Int) (α2:=S_api_Lane) (fun again k l h2=>
 NilW (some (decide (k<r1))) r fun p=>
 LdW (some (decide (k<r1))) (shInt .i64) h2 (Addr.add p 2) fun x=>
 LetW ((decide (k<r1))&&(x==(0:Int))) fun y=>
 (if y=true then
 CallT P zad [(.pointer r),(.int .i64 (8:Int))] (shInt .u64) (fun r2 h3=>
 ((True∧True)∧NewW [(.int .i64 (IntKind.wrap .i64 r2))] (fun a h4=>
 ((True∧True)∧zas 1 8 [(.int .i64 (0:Int))] ⟨l.Values.base,l.Values.len,l.Values.cap⟩ ⟨(some a),1,1⟩ (fun r3 h5=>
 again (IntKind.wrap .i64 (k+(1:Int))) ⟨r3,l.Waiters,l.Taken,l.Dropped⟩ h5) h4)) h3)) h2
 else
 CallT P zci [(.pointer r),(.int .i64 (1:Int)),(.int .i64 ((c.Procs.len:Nat):Int))] (shInt .i64) (fun r2 h3=>
 LoopW2 (α1:=Int) (α2:=S_api_Lane) (fun again1 k1 l1 h4=>
 NilW (some (decide (k1<r2))) r fun p1=>
 LdW (some (decide (k1<r2))) (shInt .i64) h4 (Addr.add p1 2) fun x1=>
 LetW ((decide (k1<r2))&&(x1==(0:Int))) fun y1=>
 (if y1=true then
 CallT P zad [(.pointer r),(.int .i64 (1:Int))] (shInt .u64) (fun r3 h5=>
 CallT P zad [(.pointer r),(.int .i64 (8:Int))] (shInt .u64) (fun r4 h6=>
 NewW [(.int .i64 (IntKind.wrap .i64 r3)),(.int .i64 (IntKind.wrap .i64 r4))] (fun a h7=>
 zas 2 16 [(.int .i64 (0:Int)),(.int .i64 (0:Int))] ⟨l1.Waiters.base,l1.Waiters.len,l1.Waiters.cap⟩ ⟨(some a),1,1⟩ (fun r5 h8=>
 again1 (IntKind.wrap .i64 (k1+(1:Int))) ⟨l1.Values,r5,l1.Taken,l1.Dropped⟩ h8) h7) h6) h5) h4
 else
 CallT P zad [(.pointer r),(.int .i64 (2:Int))] (shInt .u64) (fun r3 h5=>
 CallT P zad [(.pointer r),(.int .i64 (2:Int))] (shInt .u64) (fun r4 h6=>
 Q ⟨l1.Values,l1.Waiters,(IntKind.wrap .i64 r3),(IntKind.wrap .i64 r4)⟩ h6) h5) h4)) (0:Int) l h3) h2)) (0:Int) ⟨⟨none,0,0⟩,⟨none,0,0⟩,(0:Int),(0:Int)⟩ h1) h
def zcw (P:Program) (a:Sl) (b:Sl) (Q:(Bool→(Hp→Prop))) (h:Hp):Prop:=
 (if (((a.len:Nat):Int) !=((b.len:Nat):Int))=true then
 Q false h
 else
 LoopW1 (α1:=Int) (fun again i h1=>
 (if (decide (i<((a.len:Nat):Int)))=true then
 ((InB a.base a.len i)∧LdW none (shInt .u64) h1 (sat a.base 1 i) fun x=>
 ((InB b.base b.len i)∧LdW none (shInt .u64) h1 (sat b.base 1 i) fun x1=>
 (if (x !=x1)=true then
 Q false h1
 else
 again (IntKind.wrap .i64 (i+(1:Int))) h1)))
 else
 Q true h1)) (0:Int) h)
def zdp (P:Program) (a:Sl) (b:Sl) (Q:(Bool→(Hp→Prop))) (h:Hp):Prop:=
 (if (((a.len:Nat):Int) !=((b.len:Nat):Int))=true then
 Q false h
 else
 LoopW1 (α1:=Int) (fun again i h1=>
 (if (decide (i<((a.len:Nat):Int)))=true then
 ((InB a.base a.len i)∧LdW none (shInt .i64) h1 (sat a.base 1 i) fun x=>
 ((InB b.base b.len i)∧LdW none (shInt .i64) h1 (sat b.base 1 i) fun x1=>
 (if (x !=x1)=true then
 Q false h1
 else
 again (IntKind.wrap .i64 (i+(1:Int))) h1)))
 else
 Q true h1)) (0:Int) h)
def zgl (P:Program) (a:Sl) (b:Sl) (Q:(Bool→(Hp→Prop))) (h:Hp):Prop:=
 (if (((a.len:Nat):Int) !=((b.len:Nat):Int))=true then
 Q false h
 else
 LoopW1 (α1:=Int) (fun again i h1=>
 (if (decide (i<((a.len:Nat):Int)))=true then
 ((InB a.base a.len i)∧LdW none (shInt .i64) h1 (sat a.base 1 i) fun x=>
 ((InB b.base b.len i)∧LdW none (shInt .i64) h1 (sat b.base 1 i) fun x1=>
 (if (x !=x1)=true then
 Q false h1
 else
 again (IntKind.wrap .i64 (i+(1:Int))) h1)))
 else
 Q true h1)) (0:Int) h)
def zdq (P:Program) (a:S_api_Lane) (b:S_api_Lane) (Q:(Bool→(Hp→Prop))) (h:Hp):Prop:=
 LetW ((((a.Values.len:Nat):Int) !=((b.Values.len:Nat):Int)) || (((a.Waiters.len:Nat):Int) !=((b.Waiters.len:Nat):Int))) fun y=>
 LetW (y || (a.Taken !=b.Taken)) fun y1=>
 LetW (y1 || (a.Dropped !=b.Dropped)) fun y2=>
 (if y2=true then
 Q false h
 else
 LoopW1 (α1:=Int) (fun again i h1=>
 (if (decide (i<((a.Values.len:Nat):Int)))=true then
 ((InB a.Values.base a.Values.len i)∧LdW none (shInt .i64) h1 (sat a.Values.base 1 i) fun x=>
 ((InB b.Values.base b.Values.len i)∧LdW none (shInt .i64) h1 (sat b.Values.base 1 i) fun x1=>
 (if (x !=x1)=true then
 Q false h1
 else
 again (IntKind.wrap .i64 (i+(1:Int))) h1)))
 else
 LoopW1 (α1:=Int) (fun again1 i1 h2=>
 (if (decide (i1<((a.Waiters.len:Nat):Int)))=true then
 ((InB a.Waiters.base a.Waiters.len i1)∧LdW none sh_api_Waiter h2 (sat a.Waiters.base 2 i1) fun x=>
 ((InB b.Waiters.base b.Waiters.len i1)∧LdW none sh_api_Waiter h2 (sat b.Waiters.base 2 i1) fun x1=>
 SemV none P (binS .neq 114 (.tmp 66) (.tmp 71) x.v x1.v) zaf h2 fun x2=>
 (if x2=true then
 Q false h2
 else
 again1 (IntKind.wrap .i64 (i1+(1:Int))) h2)))
 else
 Q true h2)) (0:Int) h1)) (0:Int) h)
def zpg (P:Program) (l:Sl) (Q:(Int→(Int→(Hp→Prop)))) (h:Hp):Prop:=
 (if (((l.len:Nat):Int)==(0:Int))=true then
 Q (1:Int) (0:Int) h
 else
 (if (decide (((l.len:Nat):Int)>(8:Int)))=true then
 Q (3:Int) (8:Int) h
 else
 LoopW1 (α1:=Int) (fun again i h1=>
 (if (decide (i<((l.len:Nat):Int)))=true then
 ((InB l.base l.len i)∧LdW none (shInt .u64) h1 (sat l.base 1 i) fun x=>
 ((InB l.base l.len (IntKind.wrap .i64 (i-(1:Int))))∧LdW none (shInt .u64) h1 (sat l.base 1 (IntKind.wrap .i64 (i-(1:Int)))) fun x1=>
 (if (x==x1)=true then
 Q (8:Int) i h1
 else
 ((InB l.base l.len i)∧LdW none (shInt .u64) h1 (sat l.base 1 i) fun x2=>
 ((InB l.base l.len (IntKind.wrap .i64 (i-(1:Int))))∧LdW none (shInt .u64) h1 (sat l.base 1 (IntKind.wrap .i64 (i-(1:Int)))) fun x3=>
 (if (decide (x2<x3))=true then
 Q (7:Int) i h1
 else
 again (IntKind.wrap .i64 (i+(1:Int))) h1))))))
 else
 Q (0:Int) (0:Int) h1)) (1:Int) h))
def zyh (P:Program) (n:Int) (most:Int) (Q:(Int→(Hp→Prop))) (h:Hp):Prop:=
 (if (n==(0:Int))=true then
 Q (1:Int) h
 else
 (if (decide (n>most))=true then
 Q (3:Int) h
 else
 Q (0:Int) h))
def zyi (P:Program) (table:Sl) (parts:Int) (Q:(Option Addr→(Int→(Int→(Hp→Prop))))) (h:Hp):Prop:=
 NewW [(.int .i64 parts)] (fun a h1=>
 LdW none (shInt .i64) h1 a fun x=>
 LdW (some (!(decide (x<(1:Int))))) (shInt .i64) h1 a fun x1=>
 LetW ((decide (x<(1:Int))) || (decide (x1>(8:Int)))) fun y=>
 LetW (y || (((table.len:Nat):Int)==(0:Int))) fun y1=>
 (if y1=true then
 Q none (1:Int) (0:Int) h1
 else
 (if (decide (((table.len:Nat):Int)>(64:Int)))=true then
 Q none (3:Int) (64:Int) h1
 else
 CallT P zdb [table.v,(.func (.func 107) #[] #[(.pointer (some a))])] (shInt .i64) (fun r h2=>
 (if (decide (r≥(0:Int)))=true then
 Q none (2:Int) r h2
 else
 LdW none (shInt .i64) h2 a fun x2=>
 CallT P zjf [table.v] shSl (fun r1 h3=>
 (((LdIs h3 a [(.int .i64 x2)])∧True)∧NewW [r1.v,(.int .i64 x2)] (fun a1 h4=>
 Q (some a1) (0:Int) (0:Int) h4) h3)) h2)) h1))) h
def zsc (P:Program) (part:Int) (n:Int) (Q:(Int→(Hp→Prop))) (h:Hp):Prop:=
 (if (part==(2:Int))=true then
 CallT P zih [(.int .i64 n),(.int .i64 (1:Int)),(.int .i64 (256:Int))] zaf (fun r h1=>
 (if (!r)=true then
 Q (2:Int) h1
 else
 Q (0:Int) h1)) h
 else
 (if (part==(3:Int))=true then
 CallT P zih [(.int .i64 n),(.int .i64 (1:Int)),(.int .i64 (64:Int))] zaf (fun r h1=>
 (if (!r)=true then
 Q (2:Int) h1
 else
 Q (0:Int) h1)) h
 else
 (if (part==(4:Int))=true then
 CallT P zih [(.int .i64 n),(.int .i64 (0:Int)),(.int .i64 (8:Int))] zaf (fun r h1=>
 (if (!r)=true then
 Q (2:Int) h1
 else
 Q (0:Int) h1)) h
 else
 (if (part==(5:Int))=true then
 CallT P zih [(.int .i64 n),(.int .i64 (0:Int)),(.int .i64 (4096:Int))] zaf (fun r h1=>
 (if (!r)=true then
 Q (2:Int) h1
 else
 Q (0:Int) h1)) h
 else
 Q (0:Int) h))))
def zsd (P:Program) (n:Int) (from_:Int) (to:Int) (Q:(Bool→(Hp→Prop))) (h:Hp):Prop:=
 LetW ((decide (n≥from_))&&(decide (n≤to))) fun y=>
 Q y h
def zdq1 (P:Program) (l:Sl) (locks:Int) (Q:(Int→(Int→(Hp→Prop)))) (h:Hp):Prop:=
 LetW ((decide (locks<(0:Int))) || (decide (locks>(8:Int)))) fun y=>
 (if y=true then
 Q (1:Int) (0:Int) h
 else
 (if (decide (((l.len:Nat):Int)>(256:Int)))=true then
 Q (3:Int) (256:Int) h
 else
 LoopW1 (α1:=Int) (fun again t22 h1=>
 (if (decide (t22<((l.len:Nat):Int)))=true then
 ((InB l.base l.len t22)∧LdW none sh_api_Ins h1 (sat l.base 5 t22) fun x=>
 CallT P zuu [x.v,(.int .i64 ((l.len:Nat):Int)),(.int .i64 locks)] (shInt .i64) (fun r h2=>
 (if (r !=(0:Int))=true then
 Q r t22 h2
 else
 again (IntKind.wrap .i64 (t22+(1:Int))) h2)) h1)
 else
 Q (0:Int) (0:Int) h1)) (0:Int) h))
def zcs (P:Program) (s:Sl) (Q:(Sl→(Hp→Prop))) (h:Hp):Prop:=
 SemV none P (binS .eql 22 (.tmp 3) (.const (.slice none 0 0)) s.v (.slice none 0 0)) zaf h fun x=>
 (if x=true then
 Q ⟨none,0,0⟩ h
 else
 NewW [] (fun a h1=>
 zas 1 8 [(.int .u64 (0:Int))] ⟨(some a),0,0⟩ s (fun r h2=>
 Q r h2) h1) h)
def zhh (P:Program) (a:S_machine_asked) (i:Int) (Q:(Int→(Hp→Prop))) (h:Hp):Prop:=
 LoopW2 (α1:=Int) (α2:=Int) (fun again n t12 h1=>
 (if (decide (t12<((a.c_Procs.len:Nat):Int)))=true then
 JoinW1 (α1:=Int) (fun k=>
 ((InB a.c_Procs.base a.c_Procs.len t12)∧LdW none sh_api_Proc h1 (sat a.c_Procs.base 2 t12) fun x=>
 (if (x.Part==i)=true then
 k (IntKind.wrap .i64 (n+(1:Int))) h1
 else
 k n h1)))
 (fun n1 h2=>
 again n1 (IntKind.wrap .i64 (t12+(1:Int))) h2)
 else
 Q n h1)) (0:Int) (0:Int) h
def zjs (P:Program) (a:S_machine_asked) (p:Int) (i:Int) (Q:(Bool→(Hp→Prop))) (h:Hp):Prop:=
 LetW ((decide (p≥(0:Int)))&&(decide (p<((a.c_Procs.len:Nat):Int)))) fun y=>
 ((y=true→(InB a.c_Procs.base a.c_Procs.len p))∧LdW (some y) (shInt .i64) h (Addr.add (sat a.c_Procs.base 2 p) 0) fun x=>
 LetW (y&&(x==i)) fun y1=>
 Q y1 h)
def znh (P:Program) (n:Int) (Q:(Bool→(Hp→Prop))) (h:Hp):Prop:=
 LetW ((decide (n≥(0:Int)))&&(decide (n≤(65535:Int)))) fun y=>
 Q y h
def zem (P:Program) (s:Sl) (f:FnV) (Q:(Bool→(Hp→Prop))) (h:Hp):Prop:=
 CallT P zdb [s.v,(.func (.func f.g) f.first f.captured)] (shInt .i64) (fun r h1=>
 Q (decide (r≥(0:Int))) h1) h
def zfv (P:Program) (p:Int) (a1:Addr) (a2:Addr) (Q:(Bool→(Hp→Prop))) (h:Hp):Prop:=
 LdW (some (p !=(-1:Int))) sh_machine_asked h a1 fun x=>
 LdW (some (p !=(-1:Int))) (shInt .i64) h a2 fun x1=>
 EffC (some (p !=(-1:Int))) (CallT P zee [x.v,(.int .i64 p),(.int .i64 x1)] zaf) (fun r h1=>
 LdW (some ((p !=(-1:Int))&&(!(!r)))) shSl h1 (Addr.add (Addr.add a1 7) 2) fun x2=>
 ((((p !=(-1:Int))&&(!(!r)))=true→(InB x2.base x2.len p))∧LdW (some ((p !=(-1:Int))&&(!(!r)))) (shInt .i64) h1 (Addr.add (sat x2.base 15 p) 0) fun x3=>
 EffC (some ((p !=(-1:Int))&&(!(!r)))) (CallT P zkk [(.int .i64 x3)] zaf) (fun r1 h2=>
 LetW ((!r) || (!r1)) fun y=>
 LetW ((p !=(-1:Int))&&y) fun y1=>
 Q y1 h2) h1)) h
def zni (P:Program) (state:Int) (Q:(Bool→(Hp→Prop))) (h:Hp):Prop:=
 LetW ((state !=(5:Int))&&(state !=(6:Int))) fun y=>
 Q y h
def zim (P:Program) (t:Option Addr) (i:Int) (j:Int) (Q:(Bool→(Hp→Prop))) (h:Hp):Prop:=
 CallT P zmj [(.pointer t),(.int .i64 i)] zaf (fun r h1=>
 EffC (some r) (CallT P zmj [(.pointer t),(.int .i64 j)] zaf) (fun r1 h2=>
 LetW (r&&r1) fun y=>
 NilW (some y) t fun p=>
 LdW (some y) shSl h2 (Addr.add p 0) fun x=>
 ((y=true→(InB x.base x.len i))∧LdW (some y) (shInt .u64) h2 (sat x.base 1 i) fun x1=>
 NilW (some y) t fun p1=>
 LdW (some y) shSl h2 (Addr.add p1 0) fun x2=>
 ((y=true→(InB x2.base x2.len j))∧LdW (some y) (shInt .u64) h2 (sat x2.base 1 j) fun x3=>
 EffC (some y) (CallT P zyd [(.int .u64 x1),(.int .u64 x3)] zaf) (fun r2 h3=>
 LetW (y&&r2) fun y1=>
 Q y1 h3) h2))) h1) h
def zjt (P:Program) (a:S_machine_asked) (p:Int) (Q:(Int→(Hp→Prop))) (h:Hp):Prop:=
 CallT P zfh [a.v,(.int .i64 p)] sh_api_Ins (fun r h1=>
 Q r.Op h1) h
def zin (P:Program) (a:S_machine_asked) (p:Int) (Q:(S_api_Ins→(Hp→Prop))) (h:Hp):Prop:=
 ((InB a.c_Procs.base a.c_Procs.len p)∧LdW none shSl h (Addr.add (sat a.c_Procs.base 2 p) 1) fun x=>
 ((InB a.s_Procs.base a.s_Procs.len p)∧LdW none (shInt .i64) h (Addr.add (sat a.s_Procs.base 15 p) 1) fun x1=>
 LetW ((decide (x1<(0:Int))) || (decide (x1≥((x.len:Nat):Int)))) fun y=>
 (if y=true then
 Q ⟨(-1:Int),(0:Int),(0:Int),(0:Int),(0:Int)⟩ h
 else
 ((InB x.base x.len x1)∧LdW none sh_api_Ins h (sat x.base 5 x1) fun x2=>
 Q x2 h))))
def zgm (P:Program) (a:S_machine_asked) (w:S_api_Waiter) (r:Int) (Q:(Bool→(Hp→Prop))) (h:Hp):Prop:=
 ((InB a.s_Procs.base a.s_Procs.len w.Proc)∧LdW none sh_api_Process h (sat a.s_Procs.base 15 w.Proc) fun x=>
 CallT P zfh [a.v,(.int .i64 w.Proc)] sh_api_Ins (fun r1 h1=>
 ((True∧(True∧((LdIs h1 (sat a.s_Procs.base 15 w.Proc) [(.int .i64 x.State),(.int .i64 x.PC),(.int .i64 x.Regs_0),(.int .i64 x.Regs_1),(.int .i64 x.Regs_2),(.int .i64 x.Regs_3),(.int .i64 x.Regs_4),(.int .i64 x.Regs_5),(.int .i64 x.Regs_6),(.int .i64 x.Regs_7),(.int .i64 x.Cursor),(.int .i64 x.Timer),(.bool x.Fired),(.int .i64 x.Wake),x.Lanes.v])∧True)))∧LetW ((x.State==(2:Int))&&(r1.Op==(24:Int))) fun y=>
 ((y=true→((0:Int)≤r1.B∧r1.B<(8:Int)))∧∃x1:Int,((y=true→(List.get?Internal (α:=Value) [(.int .i64 x.State),(.int .i64 x.PC),(.int .i64 x.Regs_0),(.int .i64 x.Regs_1),(.int .i64 x.Regs_2),(.int .i64 x.Regs_3),(.int .i64 x.Regs_4),(.int .i64 x.Regs_5),(.int .i64 x.Regs_6),(.int .i64 x.Regs_7),(.int .i64 x.Cursor),(.int .i64 x.Timer),(.bool x.Fired),(.int .i64 x.Wake),x.Lanes.v] (2+((Int.toNat r1.B)*1)))=(some (.int .i64 x1)))∧LetW (y&&(x1==r)) fun y1=>
 ((y1=true→((0:Int)≤r1.C∧r1.C<(8:Int)))∧∃x2:Int,((y1=true→(List.get?Internal (α:=Value) [(.int .i64 x.State),(.int .i64 x.PC),(.int .i64 x.Regs_0),(.int .i64 x.Regs_1),(.int .i64 x.Regs_2),(.int .i64 x.Regs_3),(.int .i64 x.Regs_4),(.int .i64 x.Regs_5),(.int .i64 x.Regs_6),(.int .i64 x.Regs_7),(.int .i64 x.Cursor),(.int .i64 x.Timer),(.bool x.Fired),(.int .i64 x.Wake),x.Lanes.v] (2+((Int.toNat r1.C)*1)))=(some (.int .i64 x2)))∧LetW (y1&&(x2==w.Value_)) fun y2=>
 Q y2 h1)))))) h)
def zlt (P:Program) (l:Sl) (Q:(Int→(Int→(Hp→Prop)))) (h:Hp):Prop:=
 (if (((l.len:Nat):Int)==(0:Int))=true then
 Q (1:Int) (0:Int) h
 else
 (if (decide (((l.len:Nat):Int)>(8:Int)))=true then
 Q (3:Int) (8:Int) h
 else
 LoopW1 (α1:=Int) (fun again i h1=>
 (if (decide (i<((l.len:Nat):Int)))=true then
 ((InB l.base l.len i)∧LdW none (shInt .u64) h1 (sat l.base 1 i) fun x=>
 ((InB l.base l.len (IntKind.wrap .i64 (i-(1:Int))))∧LdW none (shInt .u64) h1 (sat l.base 1 (IntKind.wrap .i64 (i-(1:Int)))) fun x1=>
 (if (x==x1)=true then
 Q (8:Int) i h1
 else
 ((InB l.base l.len i)∧LdW none (shInt .u64) h1 (sat l.base 1 i) fun x2=>
 ((InB l.base l.len (IntKind.wrap .i64 (i-(1:Int))))∧LdW none (shInt .u64) h1 (sat l.base 1 (IntKind.wrap .i64 (i-(1:Int)))) fun x3=>
 (if (decide (x2<x3))=true then
 Q (7:Int) i h1
 else
 again (IntKind.wrap .i64 (i+(1:Int))) h1))))))
 else
 Q (0:Int) (0:Int) h1)) (1:Int) h))
def zey (P:Program) (l:Sl) (parts:Int) (Q:(Int→(Hp→Prop))) (h:Hp):Prop:=
 (if (((l.len:Nat):Int)==(0:Int))=true then
 Q (1:Int) h
 else
 (if (decide (((l.len:Nat):Int)>(64:Int)))=true then
 Q (3:Int) h
 else
 LoopW1 (α1:=Int) (fun again i h1=>
 (if (decide (i<((l.len:Nat):Int)))=true then
 ((InB l.base l.len i)∧LdW none (shInt .i64) h1 (sat l.base 1 i) fun x=>
 CallT P zbe [(.int .i64 x),(.int .i64 (0:Int)),(.int .i64 (IntKind.wrap .i64 (parts-(1:Int))))] zaf (fun r h2=>
 (if (!r)=true then
 Q (2:Int) h2
 else
 again (IntKind.wrap .i64 (i+(1:Int))) h2)) h1)
 else
 Q (0:Int) h1)) (0:Int) h))
def zez (P:Program) (n:Int) (least:Int) (most:Int) (Q:(Bool→(Hp→Prop))) (h:Hp):Prop:=
 LetW ((decide (n≥least))&&(decide (n≤most))) fun y=>
 Q y h
def zhi (P:Program) (l:Sl) (locks:Int) (Q:(Int→(Int→(Hp→Prop)))) (h:Hp):Prop:=
 LetW ((decide (locks<(0:Int))) || (decide (locks>(8:Int)))) fun y=>
 (if y=true then
 Q (1:Int) (0:Int) h
 else
 (if (decide (((l.len:Nat):Int)>(256:Int)))=true then
 Q (3:Int) (256:Int) h
 else
 LoopW1 (α1:=Int) (fun again i h1=>
 (if (decide (i<((l.len:Nat):Int)))=true then
 ((InB l.base l.len i)∧LdW none sh_api_Ins h1 (sat l.base 5 i) fun x=>
 CallT P zfm [x.v,(.int .i64 ((l.len:Nat):Int)),(.int .i64 locks)] (shInt .i64) (fun r h2=>
 (if (r !=(0:Int))=true then
 Q r i h2
 else
 again (IntKind.wrap .i64 (i+(1:Int))) h2)) h1)
 else
 Q (0:Int) (0:Int) h1)) (0:Int) h))
def zfa (P:Program) (n:Int) (low:Int) (high:Int) (Q:(Bool→(Hp→Prop))) (h:Hp):Prop:=
 LetW ((decide (n≥low))&&(decide (n≤high))) fun y=>
 Q y h
def zcx (P:Program) (m:Option Addr) (i:Int) (Q:(Sl→(Hp→Prop))) (h:Hp):Prop:=
 NewW [] (fun a h1=>
 LoopW2 (α1:=Sl) (α2:=Int) (fun again l p h2=>
 NilW none m fun p1=>
 LdW none shSl h2 (Addr.add (Addr.add p1 0) 6) fun x=>
 (if (decide (p<((x.len:Nat):Int)))=true then
 JoinW1 (α1:=Sl) (fun k=>
 NilW none m fun p2=>
 LdW none shSl h2 (Addr.add (Addr.add p2 0) 6) fun x1=>
 ((InB x1.base x1.len p)∧LdW none (shInt .i64) h2 (Addr.add (sat x1.base 2 p) 0) fun x2=>
 (if (x2==i)=true then
 NewW [(.int .i64 p)] (fun a1 h3=>
 zas 1 8 [(.int .i64 (0:Int))] ⟨l.base,l.len,l.cap⟩ ⟨(some a1),1,1⟩ (fun r h4=>
 k r h4) h3) h2
 else
 k ⟨l.base,l.len,l.cap⟩ h2)))
 (fun l1 h3=>
 again l1 (IntKind.wrap .i64 (p+(1:Int))) h3)
 else
 Q ⟨l.base,l.len,l.cap⟩ h2)) ⟨(some a),0,0⟩ (0:Int) h1) h
def zeg (P:Program) (n:Int) (Q:(Bool→(Hp→Prop))) (h:Hp):Prop:=
 LetW ((decide (n≥(0:Int)))&&(decide (n≤(65535:Int)))) fun y=>
 Q y h
def zby (P:Program) (m:Option Addr) (p:Int) (i:Int) (Q:(Bool→(Hp→Prop))) (h:Hp):Prop:=
 NilW (some (decide (p≥(0:Int)))) m fun p1=>
 LdW (some (decide (p≥(0:Int)))) shSl h (Addr.add (Addr.add p1 0) 6) fun x=>
 LetW ((decide (p≥(0:Int)))&&(decide (p<((x.len:Nat):Int)))) fun y=>
 NilW (some y) m fun p2=>
 LdW (some y) shSl h (Addr.add (Addr.add p2 0) 6) fun x1=>
 ((y=true→(InB x1.base x1.len p))∧LdW (some y) (shInt .i64) h (Addr.add (sat x1.base 2 p) 0) fun x2=>
 LetW (y&&(x2==i)) fun y1=>
 EffC (some y1) (CallT P zdz [(.pointer m),(.int .i64 p)] zaf) (fun r h1=>
 LetW (y1&&r) fun y2=>
 Q y2 h1) h)
def zbl (P:Program) (m:Option Addr) (i:Int) (j:Int) (Q:(Bool→(Hp→Prop))) (h:Hp):Prop:=
 NilW none m fun p=>
 LdW none shSl h (Addr.add (Addr.add p 0) 0) fun x=>
 ((InB x.base x.len i)∧LdW none (shInt .u64) h (sat x.base 1 i) fun x1=>
 NilW none m fun p1=>
 LdW none shSl h (Addr.add (Addr.add p1 0) 0) fun x2=>
 ((InB x2.base x2.len j)∧LdW none (shInt .u64) h (sat x2.base 1 j) fun x3=>
 CallT P zjg [(.int .u64 x1),(.int .u64 x3)] zaf (fun r h1=>
 Q r h1) h))
def zio (P:Program) (c:S_firebreakref13_Core) (code:Sl) (Q:(S_api_Ins→(Bool→(Hp→Prop)))) (h:Hp):Prop:=
 LetW ((decide (c.PC<(0:Int))) || (decide (c.PC≥((code.len:Nat):Int)))) fun y=>
 (if y=true then
 Q ⟨(0:Int),(0:Int),(0:Int),(0:Int),(0:Int)⟩ false h
 else
 ((InB code.base code.len c.PC)∧LdW none sh_api_Ins h (sat code.base 5 c.PC) fun x=>
 CallT P zfm [x.v,(.int .i64 ((code.len:Nat):Int)),(.int .i64 (8:Int))] (shInt .i64) (fun r h1=>
 ((True∧True)∧Q x (r==(0:Int)) h1)) h))
def zen (P:Program) (m:Option Addr) (p:Int) (Q:(S_firebreakref13_Core→(Hp→Prop))) (h:Hp):Prop:=
 NilW none m fun p1=>
 LdW none shSl h (Addr.add (Addr.add p1 7) 2) fun x=>
 ((InB x.base x.len p)∧LdW none sh_api_Process h (sat x.base 15 p) fun x1=>
 Q ⟨x1.PC,x1.Regs_0,x1.Regs_1,x1.Regs_2,x1.Regs_3,x1.Regs_4,x1.Regs_5,x1.Regs_6,x1.Regs_7⟩ h)
def ziq (P:Program) (r:Option Addr) (many:Int) (Q:(Int→(Hp→Prop))) (h:Hp):Prop:=
 CallT P zbc [(.pointer r),(.int .i64 many)] (shInt .i64) (fun r1 h1=>
 Q r1 h1) h
def zse (P:Program) (b:Sl) (Q:(S_api_Config→(Int→(Int→(Hp→Prop))))) (h:Hp):Prop:=
 NewW [(.slice none 0 0),(.slice none 0 0),(.int .i64 (0:Int)),(.int .i64 (0:Int)),(.int .i64 (0:Int)),(.int .i64 (0:Int)),(.slice none 0 0)] (fun a h1=>
 NewW [b.v,(.int .i64 (0:Int)),(.int .i64 (0:Int)),(.int .i64 (0:Int))] (fun a1 h2=>
 JoinW1 (α1:=S_api_Config) (fun k=>
 (if (decide (((b.len:Nat):Int)>(1048576:Int)))=true then
 Call0 P zbt [(.pointer (some a1)),(.int .i64 (22:Int)),(.int .i64 (1048576:Int))] (fun h3=>
 k ⟨⟨none,0,0⟩,⟨none,0,0⟩,(0:Int),(0:Int),(0:Int),(0:Int),⟨none,0,0⟩⟩ h3) h2
 else
 Call0 P zlq [(.pointer (some a1))] (fun h3=>
 CallT P zba [(.pointer (some a1))] zaf (fun r h4=>
 (if r=true then
 k ⟨⟨none,0,0⟩,⟨none,0,0⟩,(0:Int),(0:Int),(0:Int),(0:Int),⟨none,0,0⟩⟩ h4
 else
 Call0 P zlr [(.pointer (some a1)),(.pointer (some a))] (fun h5=>
 CallT P zba [(.pointer (some a1))] zaf (fun r1 h6=>
 (if r1=true then
 k ⟨⟨none,0,0⟩,⟨none,0,0⟩,(0:Int),(0:Int),(0:Int),(0:Int),⟨none,0,0⟩⟩ h6
 else
 Call0 P zmp [(.pointer (some a1)),(.pointer (some a))] (fun h7=>
 CallT P zba [(.pointer (some a1))] zaf (fun r2 h8=>
 (if r2=true then
 k ⟨⟨none,0,0⟩,⟨none,0,0⟩,(0:Int),(0:Int),(0:Int),(0:Int),⟨none,0,0⟩⟩ h8
 else
 CallT P zcc [(.pointer (some a1)),(.int .i64 (2:Int)),(.int .i64 (2:Int))] (shInt .i64) (fun r3 h9=>
 StW h9 (Addr.add a 2) [(.int .i64 r3)] (fun h10=>
 CallT P zcc [(.pointer (some a1)),(.int .i64 (3:Int)),(.int .i64 (1:Int))] (shInt .i64) (fun r4 h11=>
 StW h11 (Addr.add a 3) [(.int .i64 r4)] (fun h12=>
 CallT P zcc [(.pointer (some a1)),(.int .i64 (4:Int)),(.int .i64 (1:Int))] (shInt .i64) (fun r5 h13=>
 StW h13 (Addr.add a 4) [(.int .i64 r5)] (fun h14=>
 CallT P zcc [(.pointer (some a1)),(.int .i64 (5:Int)),(.int .i64 (2:Int))] (shInt .i64) (fun r6 h15=>
 StW h15 (Addr.add a 5) [(.int .i64 r6)] (fun h16=>
 CallT P zea [(.pointer (some a1)),(.int .i64 (32:Int))] (shInt .i64) (fun r7 h17=>
 LoopW1 (α1:=Int) (fun again n h18=>
 EffC (some (decide (n>(0:Int)))) (CallT P zba [(.pointer (some a1))] zaf) (fun r8 h19=>
 LetW ((decide (n>(0:Int)))&&(!r8)) fun y=>
 (if y=true then
 Call0 P zng [(.pointer (some a1)),(.pointer (some a))] (fun h20=>
 again (IntKind.wrap .i64 (n-(1:Int))) h20) h19
 else
 NilW none (some a1) fun p=>
 LdW none (shInt .i64) h19 (Addr.add p 1) fun x=>
 (if (decide (x<((b.len:Nat):Int)))=true then
 NilW none (some a1) fun p1=>
 LdW none (shInt .i64) h19 (Addr.add p1 1) fun x1=>
 Call0 P zbt [(.pointer (some a1)),(.int .i64 (6:Int)),(.int .i64 x1)] (fun h20=>
 k ⟨⟨none,0,0⟩,⟨none,0,0⟩,(0:Int),(0:Int),(0:Int),(0:Int),⟨none,0,0⟩⟩ h20) h19
 else
 k ⟨⟨none,0,0⟩,⟨none,0,0⟩,(0:Int),(0:Int),(0:Int),(0:Int),⟨none,0,0⟩⟩ h19))) h18) r7 h17) h16)) h14)) h12)) h10)) h8)) h7) h6)) h5) h4)) h3) h2))
 (fun t2 h3=>
 CallT P zba [(.pointer (some a1))] zaf (fun r h4=>
 (if r=true then
 NilW none (some a1) fun p=>
 LdW none (shInt .i64) h4 (Addr.add p 2) fun x=>
 NilW none (some a1) fun p1=>
 LdW none (shInt .i64) h4 (Addr.add p1 3) fun x1=>
 (((LdIs h4 (Addr.add p 2) [(.int .i64 x)])∧((LdIs h4 (Addr.add p1 3) [(.int .i64 x1)])∧True))∧Q ⟨⟨none,0,0⟩,⟨none,0,0⟩,(0:Int),(0:Int),(0:Int),(0:Int),⟨none,0,0⟩⟩ x x1 h4)
 else
 LdW none sh_api_Config h4 a fun x=>
 Q x (0:Int) (0:Int) h4)) h3)) h1) h
def zju (P:Program) (r:Option Addr) (bytes:Int) (most:Int) (Q:(Int→(Hp→Prop))) (h:Hp):Prop:=
 NilW none r fun p=>
 LdW none (shInt .i64) h (Addr.add p 1) fun x=>
 CallT P zap [(.pointer r),(.int .i64 bytes)] (shInt .i64) (fun r1 h1=>
 (if (decide (r1>most))=true then
 Call0 P zbd [(.pointer r),(.int .i64 (3:Int)),(.int .i64 x)] (fun h2=>
 NilW none r fun p1=>
 LdW none (shInt .i64) h2 (Addr.add p1 2) fun x1=>
 (if (x1 !=(0:Int))=true then
 Q (0:Int) h2
 else
 Q r1 h2)) h1
 else
 NilW none r fun p1=>
 LdW none (shInt .i64) h1 (Addr.add p1 2) fun x1=>
 (if (x1 !=(0:Int))=true then
 Q (0:Int) h1
 else
 Q r1 h1))) h
def zjv (P:Program) (r:Option Addr) (Q:(S_api_Lane→(Hp→Prop))) (h:Hp):Prop:=
 NilW none r fun p=>
 NilW none r fun p1=>
 LdW none (shInt .i64) h (Addr.add (Addr.add p1 4) 3) fun x=>
 CallT P zcu [(.pointer (some (Addr.add p 0))),(.int .i64 (1:Int)),(.int .i64 x)] (shInt .i64) (fun r1 h1=>
 LoopW2 (α1:=Int) (α2:=S_api_Lane) (fun again t13 x1 h2=>
 (if (decide (t13<r1))=true then
 NilW none r fun p2=>
 CallT P zbc [(.pointer (some (Addr.add p2 0))),(.int .i64 (8:Int))] (shInt .i64) (fun r2 h3=>
 ((True∧True)∧NewW [(.int .i64 r2)] (fun a h4=>
 ((True∧True)∧zas 1 8 [(.int .i64 (0:Int))] ⟨x1.Values.base,x1.Values.len,x1.Values.cap⟩ ⟨(some a),1,1⟩ (fun r3 h5=>
 again (IntKind.wrap .i64 (t13+(1:Int))) ⟨r3,x1.Waiters,x1.Taken,x1.Dropped⟩ h5) h4)) h3)) h2
 else
 NilW none r fun p2=>
 NilW none r fun p3=>
 LdW none shSl h2 (Addr.add (Addr.add p3 4) 6) fun x2=>
 CallT P zcu [(.pointer (some (Addr.add p2 0))),(.int .i64 (1:Int)),(.int .i64 ((x2.len:Nat):Int))] (shInt .i64) (fun r2 h3=>
 LoopW2 (α1:=Int) (α2:=S_api_Lane) (fun again1 t35 x3 h4=>
 (if (decide (t35<r2))=true then
 NilW none r fun p4=>
 NilW none r fun p5=>
 CallT P zap [(.pointer (some (Addr.add p4 0))),(.int .i64 (1:Int))] (shInt .i64) (fun r3 h5=>
 ((True∧True)∧CallT P zbc [(.pointer (some (Addr.add p5 0))),(.int .i64 (8:Int))] (shInt .i64) (fun r4 h6=>
 ((True∧True)∧NewW [(.int .i64 r3),(.int .i64 r4)] (fun a h7=>
 ((True∧True)∧zas 2 16 [(.int .i64 (0:Int)),(.int .i64 (0:Int))] ⟨x3.Waiters.base,x3.Waiters.len,x3.Waiters.cap⟩ ⟨(some a),1,1⟩ (fun r5 h8=>
 again1 (IntKind.wrap .i64 (t35+(1:Int))) ⟨x3.Values,r5,x3.Taken,x3.Dropped⟩ h8) h7)) h6)) h5)) h4
 else
 NilW none r fun p4=>
 NilW none r fun p5=>
 CallT P zap [(.pointer (some (Addr.add p4 0))),(.int .i64 (2:Int))] (shInt .i64) (fun r3 h5=>
 CallT P zap [(.pointer (some (Addr.add p5 0))),(.int .i64 (2:Int))] (shInt .i64) (fun r4 h6=>
 Q ⟨x3.Values,x3.Waiters,r3,r4⟩ h6) h5) h4)) (0:Int) x1 h3) h2)) (0:Int) ⟨⟨none,0,0⟩,⟨none,0,0⟩,(0:Int),(0:Int)⟩ h1) h
def zcf (P:Program) (r:Option Addr) (Q:(S_api_Config→(Hp→Prop))) (h:Hp):Prop:=
 Call0 P zco [(.pointer r),(.string ⟨#[70,66,67,70,1]⟩)] (fun h1=>
 CallT P zam [(.pointer r),(.int .i64 (1:Int)),(.int .i64 (1:Int)),(.int .i64 (8:Int)),(.int .i64 (1:Int)),(.int .i64 (3:Int))] (shInt .i64) (fun r1 h2=>
 LoopW2 (α1:=Int) (α2:=S_api_Config) (fun again i c h3=>
 NilW (some (decide (i<r1))) r fun p=>
 LdW (some (decide (i<r1))) (shInt .i64) h3 (Addr.add p 2) fun x=>
 LetW ((decide (i<r1))&&(x==(0:Int))) fun y=>
 (if y=true then
 NilW none r fun p1=>
 LdW none (shInt .i64) h3 (Addr.add p1 1) fun x1=>
 CallT P zad [(.pointer r),(.int .i64 (8:Int))] (shInt .u64) (fun r2 h4=>
 JoinW0 (fun k=>
 NilW none r fun p2=>
 LdW none (shInt .i64) h4 (Addr.add p2 2) fun x2=>
 LetW ((x2==(0:Int))&&(decide (i>(0:Int)))) fun y1=>
 ((y1=true→(InB c.Labels.base c.Labels.len (IntKind.wrap .i64 (i-(1:Int)))))∧LdW (some y1) (shInt .u64) h4 (sat c.Labels.base 1 (IntKind.wrap .i64 (i-(1:Int)))) fun x3=>
 LetW (y1&&(r2==x3)) fun y2=>
 (if y2=true then
 Call0 P zah [(.pointer r),(.int .i64 (8:Int)),(.int .i64 x1)] (fun h5=>
 k h5) h4
 else
 k h4)))
 (fun h5=>
 JoinW0 (fun k=>
 NilW none r fun p2=>
 LdW none (shInt .i64) h5 (Addr.add p2 2) fun x2=>
 LetW ((x2==(0:Int))&&(decide (i>(0:Int)))) fun y1=>
 ((y1=true→(InB c.Labels.base c.Labels.len (IntKind.wrap .i64 (i-(1:Int)))))∧LdW (some y1) (shInt .u64) h5 (sat c.Labels.base 1 (IntKind.wrap .i64 (i-(1:Int)))) fun x3=>
 LetW (y1&&(decide (r2<x3))) fun y2=>
 (if y2=true then
 Call0 P zah [(.pointer r),(.int .i64 (7:Int)),(.int .i64 x1)] (fun h6=>
 k h6) h5
 else
 k h5)))
 (fun h6=>
 NewW [(.int .u64 r2)] (fun a h7=>
 zas 1 8 [(.int .u64 (0:Int))] ⟨c.Labels.base,c.Labels.len,c.Labels.cap⟩ ⟨(some a),1,1⟩ (fun r3 h8=>
 again (IntKind.wrap .i64 (i+(1:Int))) ⟨r3,c.Table,c.Fuel,c.Lane,c.Locks,c.Log,c.Procs⟩ h8) h7) h6))) h3
 else
 CallT P zam [(.pointer r),(.int .i64 (1:Int)),(.int .i64 (1:Int)),(.int .i64 (64:Int)),(.int .i64 (1:Int)),(.int .i64 (3:Int))] (shInt .i64) (fun r2 h4=>
 LoopW2 (α1:=Int) (α2:=S_api_Config) (fun again1 i1 c1 h5=>
 NilW (some (decide (i1<r2))) r fun p1=>
 LdW (some (decide (i1<r2))) (shInt .i64) h5 (Addr.add p1 2) fun x1=>
 LetW ((decide (i1<r2))&&(x1==(0:Int))) fun y1=>
 (if y1=true then
 CallT P zam [(.pointer r),(.int .i64 (1:Int)),(.int .i64 (0:Int)),(.int .i64 (IntKind.wrap .i64 (r1-(1:Int)))),(.int .i64 (2:Int)),(.int .i64 (2:Int))] (shInt .i64) (fun r3 h6=>
 ((True∧True)∧NewW [(.int .i64 r3)] (fun a h7=>
 ((True∧True)∧zas 1 8 [(.int .i64 (0:Int))] ⟨c1.Table.base,c1.Table.len,c1.Table.cap⟩ ⟨(some a),1,1⟩ (fun r4 h8=>
 again1 (IntKind.wrap .i64 (i1+(1:Int))) ⟨c1.Labels,r4,c1.Fuel,c1.Lane,c1.Locks,c1.Log,c1.Procs⟩ h8) h7)) h6)) h5
 else
 CallT P zam [(.pointer r),(.int .i64 (2:Int)),(.int .i64 (1:Int)),(.int .i64 (256:Int)),(.int .i64 (2:Int)),(.int .i64 (2:Int))] (shInt .i64) (fun r3 h6=>
 CallT P zam [(.pointer r),(.int .i64 (1:Int)),(.int .i64 (1:Int)),(.int .i64 (64:Int)),(.int .i64 (2:Int)),(.int .i64 (2:Int))] (shInt .i64) (fun r4 h7=>
 CallT P zam [(.pointer r),(.int .i64 (1:Int)),(.int .i64 (0:Int)),(.int .i64 (8:Int)),(.int .i64 (2:Int)),(.int .i64 (2:Int))] (shInt .i64) (fun r5 h8=>
 CallT P zam [(.pointer r),(.int .i64 (2:Int)),(.int .i64 (0:Int)),(.int .i64 (4096:Int)),(.int .i64 (2:Int)),(.int .i64 (2:Int))] (shInt .i64) (fun r6 h9=>
 CallT P zam [(.pointer r),(.int .i64 (1:Int)),(.int .i64 (1:Int)),(.int .i64 (32:Int)),(.int .i64 (1:Int)),(.int .i64 (3:Int))] (shInt .i64) (fun r7 h10=>
 LoopW2 (α1:=Int) (α2:=S_api_Config) (fun again2 i2 c2 h11=>
 NilW (some (decide (i2<r7))) r fun p2=>
 LdW (some (decide (i2<r7))) (shInt .i64) h11 (Addr.add p2 2) fun x2=>
 LetW ((decide (i2<r7))&&(x2==(0:Int))) fun y2=>
 (if y2=true then
 CallT P zam [(.pointer r),(.int .i64 (1:Int)),(.int .i64 (0:Int)),(.int .i64 (IntKind.wrap .i64 (r1-(1:Int)))),(.int .i64 (2:Int)),(.int .i64 (2:Int))] (shInt .i64) (fun r8 h12=>
 CallT P zam [(.pointer r),(.int .i64 (2:Int)),(.int .i64 (0:Int)),(.int .i64 (256:Int)),(.int .i64 (3:Int)),(.int .i64 (3:Int))] (shInt .i64) (fun r9 h13=>
 CallT P zes [(.pointer r),(.int .i64 r9),(.int .i64 c2.Locks)] shSl (fun r10 h14=>
 ((True∧True)∧NewW [(.int .i64 r8),r10.v] (fun a h15=>
 ((True∧True)∧zas 2 32 [(.int .i64 (0:Int)),(.slice none 0 0)] ⟨c2.Procs.base,c2.Procs.len,c2.Procs.cap⟩ ⟨(some a),1,1⟩ (fun r11 h16=>
 again2 (IntKind.wrap .i64 (i2+(1:Int))) ⟨c2.Labels,c2.Table,c2.Fuel,c2.Lane,c2.Locks,c2.Log,r11⟩ h16) h15)) h14)) h13) h12) h11
 else
 Q c2 h11)) (0:Int) ⟨c1.Labels,c1.Table,r3,r4,r5,r6,c1.Procs⟩ h10) h9) h8) h7) h6) h5)) (0:Int) c h4) h3)) (0:Int) ⟨⟨none,0,0⟩,⟨none,0,0⟩,(0:Int),(0:Int),(0:Int),(0:Int),⟨none,0,0⟩⟩ h2) h1) h
def zdd (P:Program) (s:Sl) (f:FnV) (Q:(Int→(Hp→Prop))) (h:Hp):Prop:=
 LoopW1 (α1:=Int) (fun again t8 h1=>
 (if (decide (t8<((s.len:Nat):Int)))=true then
 ((InB s.base s.len t8)∧LdW none (shInt .i64) h1 (sat s.base 1 t8) fun x=>
 CallV P tb (.func (.func f.g) f.first f.captured) [(.int .i64 x)] zaf (fun r h2=>
 (if r=true then
 Q t8 h2
 else
 again (IntKind.wrap .i64 (t8+(1:Int))) h2)) h1)
 else
 Q (-1:Int) h1)) (0:Int) h
def zyj (P:Program) (p:Int) (a1:Addr) (Q:(Bool→(Hp→Prop))) (h:Hp):Prop:=
 LdW (some (!(decide (p<(0:Int))))) (shInt .i64) h a1 fun x=>
 LetW ((decide (p<(0:Int))) || (decide (p≥x))) fun y=>
 Q y h
def zfw (P:Program) (s:Sl) (Q:(Sl→(Hp→Prop))) (h:Hp):Prop:=
 SemV none P (binS .eql 23 (.tmp 3) (.const (.slice none 0 0)) s.v (.slice none 0 0)) zaf h fun x=>
 (if x=true then
 Q ⟨none,0,0⟩ h
 else
 NewW [] (fun a h1=>
 zas 1 8 [(.int .i64 (0:Int))] ⟨(some a),0,0⟩ s (fun r h2=>
 Q r h2) h1) h)
def zuw (P:Program) (x:S_api_Ins) (n:Int) (locks:Int) (Q:(Int→(Hp→Prop))) (h:Hp):Prop:=
 Call2 P zbo1 [x.v,(.int .i64 n),(.int .i64 locks)] (shInt .i64) (shInt .i64) (fun r r1 h1=>
 Q r h1) h
def zmk (P:Program) (t:Option Addr) (i:Int) (Q:(Bool→(Hp→Prop))) (h:Hp):Prop:=
 NilW (some (decide (i≥(0:Int)))) t fun p=>
 LdW (some (decide (i≥(0:Int)))) shSl h (Addr.add p 0) fun x=>
 LetW ((decide (i≥(0:Int)))&&(decide (i<((x.len:Nat):Int)))) fun y=>
 Q y h
def zsf (P:Program) (a:Int) (b:Int) (Q:(Bool→(Hp→Prop))) (h:Hp):Prop:=
 Q ((bitsI .andNot .u64 a b)==(0:Int)) h
def zfx (P:Program) (x:S_api_Ins) (n:Int) (locks:Int) (Q:(Int→(Hp→Prop))) (h:Hp):Prop:=
 Call2 P zfn [x.v,(.int .i64 n),(.int .i64 locks)] (shInt .i64) (shInt .i64) (fun r r1 h1=>
 Q r h1) h
def zcg (P:Program) (m:Option Addr) (p:Int) (Q:(Bool→(Hp→Prop))) (h:Hp):Prop:=
 NilW none m fun p1=>
 LdW none shSl h (Addr.add (Addr.add p1 7) 2) fun x=>
 ((InB x.base x.len p)∧LdW none (shInt .i64) h (Addr.add (sat x.base 15 p) 0) fun x1=>
 Q (decide (x1<(5:Int))) h)
def zfy (P:Program) (a:Int) (b:Int) (Q:(Bool→(Hp→Prop))) (h:Hp):Prop:=
 LoopW1 (α1:=Int) (fun again n h1=>
 (if (decide (n<(64:Int)))=true then
 CallT P zgz [(.int .u64 a),(.int .i64 n)] zaf (fun r h2=>
 EffC (some r) (CallT P zgz [(.int .u64 b),(.int .i64 n)] zaf) (fun r1 h3=>
 LetW (r&&(!r1)) fun y=>
 (if y=true then
 Q false h3
 else
 again (IntKind.wrap .i64 (n+(1:Int))) h3)) h2) h1
 else
 Q true h1)) (0:Int) h
def zjw (P:Program) (r:Option Addr) (e:Int) (place:Int) (Q:(Hp→Prop)) (h:Hp):Prop:=
 EffC (some (e !=(0:Int))) (CallT P zba [(.pointer r)] zaf) (fun r1 h1=>
 LetW ((e !=(0:Int))&&(!r1)) fun y=>
 (if y=true then
 NilW none r fun p=>
 StW h1 (Addr.add p 2) [(.int .i64 e)] (fun h2=>
 NilW none r fun p1=>
 StW h2 (Addr.add p1 3) [(.int .i64 place)] (fun h3=>
 Q h3))
 else
 Q h1)) h
def zhj (P:Program) (r:Option Addr) (Q:(Hp→Prop)) (h:Hp):Prop:=
 LoopW1 (α1:=Int) (fun again t3 h1=>
 (if (decide (t3<(5:Int)))=true then
 NewW [(.int .i64 (0:Int))] (fun a h2=>
 StW h2 a [(.int .i64 t3)] (fun h3=>
 CallT P zaz [(.pointer r),(.int .i64 (1:Int)),(.func (.func 128) #[] #[(.pointer (some a))])] (shInt .u64) (fun r1 h4=>
 again (IntKind.wrap .i64 (t3+(1:Int))) h4) h3)) h1
 else
 Q h1)) (0:Int) h
def zhs (P:Program) (r:Option Addr) (Q:(Bool→(Hp→Prop))) (h:Hp):Prop:=
 NilW none r fun p=>
 LdW none (shInt .i64) h (Addr.add p 2) fun x=>
 Q (x !=(0:Int)) h
def zhk (P:Program) (r:Option Addr) (c:Option Addr) (Q:(Hp→Prop)) (h:Hp):Prop:=
 NewW [(.pointer c)] (fun a h1=>
 CallT P zea [(.pointer r),(.int .i64 (8:Int))] (shInt .i64) (fun r1 h2=>
 LoopW1 (α1:=Int) (fun again n h3=>
 EffC (some (decide (n>(0:Int)))) (CallT P zba [(.pointer r)] zaf) (fun r2 h4=>
 LetW ((decide (n>(0:Int)))&&(!r2)) fun y=>
 (if y=true then
 CallT P zaz [(.pointer r),(.int .i64 (8:Int)),(.func (.func 129) #[] #[(.pointer (some a))])] (shInt .u64) (fun r3 h5=>
 LdW none shPtr h5 a fun x=>
 LdW none shPtr h5 a fun x1=>
 NilW none x1 fun p=>
 LdW none shSl h5 (Addr.add p 0) fun x2=>
 NewW [(.int .u64 r3)] (fun a1 h6=>
 (((LdIs h6 a [(.pointer x)])∧((LdIs h6 a [(.pointer x1)])∧((LdIs h6 (Addr.add p 0) [x2.v])∧True)))∧zas 1 8 [(.int .u64 (0:Int))] x2 ⟨(some a1),1,1⟩ (fun r4 h7=>
 (((LdIs h7 a [(.pointer x)])∧True)∧NilW none x fun p1=>
 StW h7 (Addr.add p1 0) [r4.v] (fun h8=>
 again (IntKind.wrap .i64 (n-(1:Int))) h8))) h6)) h5) h4
 else
 Q h4)) h3) r1 h2) h1) h
def zir (P:Program) (r:Option Addr) (c:Option Addr) (Q:(Hp→Prop)) (h:Hp):Prop:=
 CallT P zea [(.pointer r),(.int .i64 (64:Int))] (shInt .i64) (fun r1 h1=>
 LoopW1 (α1:=Int) (fun again n h2=>
 EffC (some (decide (n>(0:Int)))) (CallT P zba [(.pointer r)] zaf) (fun r2 h3=>
 LetW ((decide (n>(0:Int)))&&(!r2)) fun y=>
 (if y=true then
 NilW none c fun p=>
 LdW none shSl h3 (Addr.add p 1) fun x=>
 CallT P zet [(.pointer r),(.pointer c)] (shInt .i64) (fun r3 h4=>
 (((LdIs h4 (Addr.add p 1) [x.v])∧True)∧NewW [(.int .i64 r3)] (fun a h5=>
 (((LdIs h5 (Addr.add p 1) [x.v])∧True)∧zas 1 8 [(.int .i64 (0:Int))] x ⟨(some a),1,1⟩ (fun r4 h6=>
 NilW none c fun p1=>
 StW h6 (Addr.add p1 1) [r4.v] (fun h7=>
 again (IntKind.wrap .i64 (n-(1:Int))) h7)) h5)) h4)) h3
 else
 Q h3)) h2) r1 h1) h
def zhl (P:Program) (r:Option Addr) (part:Int) (bytes:Int) (Q:(Int→(Hp→Prop))) (h:Hp):Prop:=
 NewW [(.int .i64 part)] (fun a h1=>
 CallT P zff [(.pointer r),(.int .i64 bytes),(.func (.func 132) #[] #[(.pointer (some a))])] (shInt .i64) (fun r1 h2=>
 Q r1 h2) h1) h
def zgn (P:Program) (r:Option Addr) (most:Int) (Q:(Int→(Hp→Prop))) (h:Hp):Prop:=
 NewW [(.int .i64 most)] (fun a h1=>
 CallT P zff [(.pointer r),(.int .i64 (1:Int)),(.func (.func 133) #[] #[(.pointer (some a))])] (shInt .i64) (fun r1 h2=>
 Q r1 h2) h1) h
def zjx (P:Program) (r:Option Addr) (c:Option Addr) (Q:(Hp→Prop)) (h:Hp):Prop:=
 CallT P zet [(.pointer r),(.pointer c)] (shInt .i64) (fun r1 h1=>
 CallT P zff [(.pointer r),(.int .i64 (2:Int)),(.func (.func 134) #[] #[])] (shInt .i64) (fun r2 h2=>
 LoopW2 (α1:=Int) (α2:=S_api_Proc) (fun again i p h3=>
 EffC (some (decide (i<r2))) (CallT P zba [(.pointer r)] zaf) (fun r3 h4=>
 LetW ((decide (i<r2))&&(!r3)) fun y=>
 (if y=true then
 NilW none c fun p1=>
 LdW none (shInt .i64) h4 (Addr.add p1 4) fun x=>
 CallT P zpe [(.pointer r),(.int .i64 r2),(.int .i64 x)] sh_api_Ins (fun r4 h5=>
 ((True∧True)∧NewW [(.int .i64 r4.Op),(.int .i64 r4.A),(.int .i64 r4.B),(.int .i64 r4.C),(.int .i64 r4.Imm)] (fun a h6=>
 ((True∧True)∧zas 5 40 [(.int .i64 (0:Int)),(.int .i64 (0:Int)),(.int .i64 (0:Int)),(.int .i64 (0:Int)),(.int .i64 (0:Int))] ⟨p.Code.base,p.Code.len,p.Code.cap⟩ ⟨(some a),1,1⟩ (fun r5 h7=>
 again (IntKind.wrap .i64 (i+(1:Int))) ⟨p.Part,r5⟩ h7) h6)) h5)) h4
 else
 NilW none c fun p1=>
 LdW none shSl h4 (Addr.add p1 6) fun x=>
 NewW [(.int .i64 p.Part),p.Code.v] (fun a h5=>
 (((LdIs h5 (Addr.add p1 6) [x.v])∧True)∧zas 2 32 [(.int .i64 (0:Int)),(.slice none 0 0)] x ⟨(some a),1,1⟩ (fun r4 h6=>
 NilW none c fun p2=>
 StW h6 (Addr.add p2 6) [r4.v] (fun h7=>
 Q h7)) h5)) h4)) h3) (0:Int) ⟨r1,⟨none,0,0⟩⟩ h2) h1) h
def zct (P:Program) (r:Option Addr) (many:Int) (locks:Int) (Q:(Sl→(Hp→Prop))) (h:Hp):Prop:=
 NewW [] (fun a h1=>
 LoopW2 (α1:=Sl) (α2:=Int) (fun again l k h2=>
 NilW (some (decide (k<many))) r fun p=>
 LdW (some (decide (k<many))) (shInt .i64) h2 (Addr.add p 2) fun x=>
 LetW ((decide (k<many))&&(x==(0:Int))) fun y=>
 (if y=true then
 NilW none r fun p1=>
 LdW none shSl h2 (Addr.add p1 0) fun x1=>
 NilW none r fun p2=>
 LdW none (shInt .i64) h2 (Addr.add p2 1) fun x2=>
 (if (decide ((IntKind.wrap .i64 (((x1.len:Nat):Int)-x2))<(12:Int)))=true then
 NilW none r fun p3=>
 LdW none shSl h2 (Addr.add p3 0) fun x3=>
 Call0 P zah [(.pointer r),(.int .i64 (5:Int)),(.int .i64 ((x3.len:Nat):Int))] (fun h3=>
 Q ⟨l.base,l.len,l.cap⟩ h3) h2
 else
 NilW none r fun p3=>
 LdW none shSl h2 (Addr.add p3 0) fun x3=>
 NilW none r fun p4=>
 LdW none (shInt .i64) h2 (Addr.add p4 1) fun x4=>
 (((0:Int)≤x4∧x4≤((x3.len:Nat):Int))∧LetW (α:=Sl) ⟨(sbase x3.base 1 (Int.toNat x4) x3.cap),(x3.len-(Int.toNat x4)),(x3.cap-(Int.toNat x4))⟩ fun y1=>
 CallT P zls [y1.v] sh_api_Ins (fun r1 h3=>
 Call2 P zfn [r1.v,(.int .i64 many),(.int .i64 locks)] (shInt .i64) (shInt .i64) (fun r2 r3 h4=>
 (if (r2 !=(0:Int))=true then
 NilW none r fun p5=>
 LdW none (shInt .i64) h4 (Addr.add p5 1) fun x5=>
 Call0 P zah [(.pointer r),(.int .i64 r2),(.int .i64 (IntKind.wrap .i64 (x5+r3)))] (fun h5=>
 Q ⟨l.base,l.len,l.cap⟩ h5) h4
 else
 NewW [(.int .i64 r1.Op),(.int .i64 r1.A),(.int .i64 r1.B),(.int .i64 r1.C),(.int .i64 r1.Imm)] (fun a1 h5=>
 zas 5 40 [(.int .i64 (0:Int)),(.int .i64 (0:Int)),(.int .i64 (0:Int)),(.int .i64 (0:Int)),(.int .i64 (0:Int))] ⟨l.base,l.len,l.cap⟩ ⟨(some a1),1,1⟩ (fun r4 h6=>
 NilW none r fun p5=>
 LdW none (shInt .i64) h6 (Addr.add p5 1) fun x5=>
 NilW none r fun p6=>
 StW h6 (Addr.add p6 1) [(.int .i64 (IntKind.wrap .i64 (x5+(12:Int))))] (fun h7=>
 again r4 (IntKind.wrap .i64 (k+(1:Int))) h7)) h5) h4)) h3) h2))
 else
 Q ⟨l.base,l.len,l.cap⟩ h2)) ⟨(some a),0,0⟩ (0:Int) h1) h
def zux (P:Program) (x:S_api_Ins) (n:Int) (locks:Int) (Q:(Int→(Int→(Hp→Prop)))) (h:Hp):Prop:=
 LetW ((decide (x.Op<(0:Int))) || (decide (x.Op≥(34:Int)))) fun y=>
 (if y=true then
 Q (9:Int) (0:Int) h
 else
 Call4 P zrw [(.int .i64 x.Op)] zaf zaf zaf zaf (fun r r1 r2 r3 h1=>
 CallT P zkm [(.bool r),(.int .i64 x.A)] (shInt .i64) (fun r4 h2=>
 (if (r4 !=(0:Int))=true then
 Q r4 (1:Int) h2
 else
 CallT P zkm [(.bool r1),(.int .i64 x.B)] (shInt .i64) (fun r5 h3=>
 (if (r5 !=(0:Int))=true then
 Q r5 (2:Int) h3
 else
 CallT P zkm [(.bool r2),(.int .i64 x.C)] (shInt .i64) (fun r6 h4=>
 (if (r6 !=(0:Int))=true then
 Q r6 (3:Int) h4
 else
 CallT P zye [x.v,(.bool r3),(.int .i64 n),(.int .i64 locks)] (shInt .i64) (fun r7 h5=>
 Q r7 (4:Int) h5) h4)) h3)) h2)) h1) h)
def zfz (P:Program) (x:S_api_Ins) (n:Int) (locks:Int) (Q:(Int→(Int→(Hp→Prop)))) (h:Hp):Prop:=
 LetW ((decide (x.Op<(0:Int))) || (decide (x.Op≥(34:Int)))) fun y=>
 (if y=true then
 Q (9:Int) (0:Int) h
 else
 Call4 P zij [(.int .i64 x.Op)] zaf zaf zaf zaf (fun r r1 r2 r3 h1=>
 CallT P zcj [(.int .i64 x.A),(.bool r)] (shInt .i64) (fun r4 h2=>
 (if (r4 !=(0:Int))=true then
 Q r4 (1:Int) h2
 else
 CallT P zcj [(.int .i64 x.B),(.bool r1)] (shInt .i64) (fun r5 h3=>
 (if (r5 !=(0:Int))=true then
 Q r5 (2:Int) h3
 else
 CallT P zcj [(.int .i64 x.C),(.bool r2)] (shInt .i64) (fun r6 h4=>
 (if (r6 !=(0:Int))=true then
 Q r6 (3:Int) h4
 else
 LetW ((!r3)&&(x.Imm !=(0:Int))) fun y1=>
 (if y1=true then
 Q (11:Int) (4:Int) h4
 else
 LetW ((x.Op==(22:Int)) || (x.Op==(23:Int))) fun y2=>
 LetW ((decide (x.Imm<(0:Int))) || (decide (x.Imm>n))) fun y3=>
 LetW (y2&&y3) fun y4=>
 (if y4=true then
 Q (12:Int) (4:Int) h4
 else
 LetW ((x.Op==(29:Int)) || (x.Op==(30:Int))) fun y5=>
 LetW ((decide (x.Imm<(0:Int))) || (decide (x.Imm≥locks))) fun y6=>
 LetW (y5&&y6) fun y7=>
 (if y7=true then
 Q (13:Int) (4:Int) h4
 else
 Q (0:Int) (0:Int) h4))))) h3)) h2)) h1) h)
def zhm (P:Program) (a:Int) (n:Int) (Q:(Bool→(Hp→Prop))) (h:Hp):Prop:=
 LetW ((decide (n≥(0:Int)))&&(decide (n≤(63:Int)))) fun y=>
 ((y=true→(0:Int)≤n)∧LetW (y&&((bitsI .and .u64 (shrI .u64 a n) (1:Int))==(1:Int))) fun y1=>
 Q y1 h)
def zhn (P:Program) (r:Option Addr) (many:Int) (wrong:FnV) (Q:(Int→(Hp→Prop))) (h:Hp):Prop:=
 CallT P zba [(.pointer r)] zaf (fun r1 h1=>
 (if r1=true then
 Q (0:Int) h1
 else
 NilW none r fun p=>
 LdW none shSl h1 (Addr.add p 0) fun x=>
 NilW none r fun p1=>
 LdW none (shInt .i64) h1 (Addr.add p1 1) fun x1=>
 (if (decide ((IntKind.wrap .i64 (((x.len:Nat):Int)-x1))<many))=true then
 NilW none r fun p2=>
 LdW none shSl h1 (Addr.add p2 0) fun x2=>
 Call0 P zbt [(.pointer r),(.int .i64 (5:Int)),(.int .i64 ((x2.len:Nat):Int))] (fun h2=>
 Q (0:Int) h2) h1
 else
 NilW none r fun p2=>
 LdW none shSl h1 (Addr.add p2 0) fun x2=>
 NilW none r fun p3=>
 LdW none (shInt .i64) h1 (Addr.add p3 1) fun x3=>
 NilW none r fun p4=>
 LdW none (shInt .i64) h1 (Addr.add p4 1) fun x4=>
 (((0:Int)≤x3∧(x3≤(IntKind.wrap .i64 (x4+many))∧(IntKind.wrap .i64 (x4+many))≤((x2.cap:Nat):Int)))∧LetW (α:=Sl) ⟨(sbase x2.base 1 (Int.toNat x3) x2.cap),((Int.toNat (IntKind.wrap .i64 (x4+many)))-(Int.toNat x3)),(x2.cap-(Int.toNat x3))⟩ fun y=>
 LoopW2 (α1:=Int) (α2:=Int) (fun again n t47 h2=>
 (if (decide (t47<((y.len:Nat):Int)))=true then
 ((InB y.base y.len t47)∧LdW none (shInt .u8) h2 (sat y.base 1 t47) fun x5=>
 ((0:Int)≤(IntKind.wrap .i64 ((8:Int)*t47))∧again (bitsI .or .u64 n (shlI .u64 (IntKind.wrap .u64 x5) (IntKind.wrap .i64 ((8:Int)*t47)))) (IntKind.wrap .i64 (t47+(1:Int))) h2))
 else
 NilW none r fun p5=>
 LdW none (shInt .i64) h2 (Addr.add p5 1) fun x5=>
 CallV P tb (.func (.func wrong.g) wrong.first wrong.captured) [(.int .u64 n)] (shInt .i64) (fun r2 h3=>
 (((LdIs h3 (Addr.add p5 1) [(.int .i64 x5)])∧True)∧Call0 P zbt [(.pointer r),(.int .i64 r2),(.int .i64 x5)] (fun h4=>
 NilW none r fun p6=>
 LdW none (shInt .i64) h4 (Addr.add p6 1) fun x6=>
 NilW none r fun p7=>
 StW h4 (Addr.add p7 1) [(.int .i64 (IntKind.wrap .i64 (x6+many)))] (fun h5=>
 Q n h5)) h3)) h2)) (0:Int) (0:Int) h1)))) h
def zga (P:Program) (n:Int) (a1:Addr) (Q:(Int→(Hp→Prop))) (h:Hp):Prop:=
 LdW none (shInt .i64) h a1 fun x=>
 (((0:Int)≤x∧x<(5:Int))∧(if ((IntKind.wrap .u8 n) !=(((UInt8.toNat (List.getD [70,66,67,70,1] (Int.toNat x) 0)):Nat):Int))=true then
 Q (4:Int) h
 else
 Q (0:Int) h))
def zgb (P:Program) (a:Int) (a1:Addr) (Q:(Int→(Hp→Prop))) (h:Hp):Prop:=
 LdW none shPtr h a1 fun x=>
 NilW none x fun p=>
 LdW none shSl h (Addr.add p 0) fun x1=>
 LdW (some (decide ((IntKind.wrap .i64 (((x1.len:Nat):Int)-(1:Int)))≥(0:Int)))) shPtr h a1 fun x2=>
 NilW (some (decide ((IntKind.wrap .i64 (((x1.len:Nat):Int)-(1:Int)))≥(0:Int)))) x2 fun p1=>
 LdW (some (decide ((IntKind.wrap .i64 (((x1.len:Nat):Int)-(1:Int)))≥(0:Int)))) shSl h (Addr.add p1 0) fun x3=>
 (((decide ((IntKind.wrap .i64 (((x1.len:Nat):Int)-(1:Int)))≥(0:Int)))=true→(InB x3.base x3.len (IntKind.wrap .i64 (((x1.len:Nat):Int)-(1:Int)))))∧LdW (some (decide ((IntKind.wrap .i64 (((x1.len:Nat):Int)-(1:Int)))≥(0:Int)))) (shInt .u64) h (sat x3.base 1 (IntKind.wrap .i64 (((x1.len:Nat):Int)-(1:Int)))) fun x4=>
 LetW ((decide ((IntKind.wrap .i64 (((x1.len:Nat):Int)-(1:Int)))≥(0:Int)))&&(a==x4)) fun y=>
 (if y=true then
 Q (8:Int) h
 else
 LdW (some (decide ((IntKind.wrap .i64 (((x1.len:Nat):Int)-(1:Int)))≥(0:Int)))) shPtr h a1 fun x5=>
 NilW (some (decide ((IntKind.wrap .i64 (((x1.len:Nat):Int)-(1:Int)))≥(0:Int)))) x5 fun p2=>
 LdW (some (decide ((IntKind.wrap .i64 (((x1.len:Nat):Int)-(1:Int)))≥(0:Int)))) shSl h (Addr.add p2 0) fun x6=>
 (((decide ((IntKind.wrap .i64 (((x1.len:Nat):Int)-(1:Int)))≥(0:Int)))=true→(InB x6.base x6.len (IntKind.wrap .i64 (((x1.len:Nat):Int)-(1:Int)))))∧LdW (some (decide ((IntKind.wrap .i64 (((x1.len:Nat):Int)-(1:Int)))≥(0:Int)))) (shInt .u64) h (sat x6.base 1 (IntKind.wrap .i64 (((x1.len:Nat):Int)-(1:Int)))) fun x7=>
 LetW ((decide ((IntKind.wrap .i64 (((x1.len:Nat):Int)-(1:Int)))≥(0:Int)))&&(decide (a<x7))) fun y1=>
 (if y1=true then
 Q (7:Int) h
 else
 Q (0:Int) h))))
def zfb (P:Program) (r:Option Addr) (c:Option Addr) (Q:(Int→(Hp→Prop))) (h:Hp):Prop:=
 NewW [(.pointer c)] (fun a h1=>
 CallT P zff [(.pointer r),(.int .i64 (1:Int)),(.func (.func 142) #[] #[(.pointer (some a))])] (shInt .i64) (fun r1 h2=>
 Q r1 h2) h1) h
def zky (P:Program) (r:Option Addr) (many:Int) (wrong:FnV) (Q:(Int→(Hp→Prop))) (h:Hp):Prop:=
 NewW [(.func (.func wrong.g) wrong.first wrong.captured)] (fun a h1=>
 CallT P zaz [(.pointer r),(.int .i64 many),(.func (.func 143) #[] #[(.pointer (some a))])] (shInt .u64) (fun r1 h2=>
 Q (IntKind.wrap .i64 r1) h2) h1) h
def zjh (P:Program) (n:Int) (a1:Addr) (Q:(Int→(Hp→Prop))) (h:Hp):Prop:=
 LdW none (shInt .i64) h a1 fun x=>
 CallT P zru [(.int .i64 x),(.int .i64 n)] (shInt .i64) (fun r h1=>
 Q r h1) h
def zis (P:Program) (n:Int) (a1:Addr) (Q:(Int→(Hp→Prop))) (h:Hp):Prop:=
 LdW none (shInt .i64) h a1 fun x=>
 CallT P zth [(.int .i64 n),(.int .i64 x)] (shInt .i64) (fun r h1=>
 Q r h1) h
def zho (P:Program) (n:Int) (Q:(Int→(Hp→Prop))) (h:Hp):Prop:=
 (if (decide (n>(256:Int)))=true then
 Q (3:Int) h
 else
 Q (0:Int) h)
def zkz (P:Program) (r:Option Addr) (n:Int) (locks:Int) (Q:(S_api_Ins→(Hp→Prop))) (h:Hp):Prop:=
 CallT P zba [(.pointer r)] zaf (fun r1 h1=>
 (if r1=true then
 Q ⟨(0:Int),(0:Int),(0:Int),(0:Int),(0:Int)⟩ h1
 else
 NilW none r fun p=>
 LdW none (shInt .i64) h1 (Addr.add p 1) fun x=>
 NilW none r fun p1=>
 LdW none shSl h1 (Addr.add p1 0) fun x1=>
 (if (decide ((IntKind.wrap .i64 (((x1.len:Nat):Int)-x))<(12:Int)))=true then
 NilW none r fun p2=>
 LdW none shSl h1 (Addr.add p2 0) fun x2=>
 Call0 P zbt [(.pointer r),(.int .i64 (5:Int)),(.int .i64 ((x2.len:Nat):Int))] (fun h2=>
 Q ⟨(0:Int),(0:Int),(0:Int),(0:Int),(0:Int)⟩ h2) h1
 else
 CallT P zaz [(.pointer r),(.int .i64 (1:Int)),(.func (.func 144) #[] #[])] (shInt .u64) (fun r2 h2=>
 CallT P zaz [(.pointer r),(.int .i64 (1:Int)),(.func (.func 144) #[] #[])] (shInt .u64) (fun r3 h3=>
 CallT P zaz [(.pointer r),(.int .i64 (1:Int)),(.func (.func 144) #[] #[])] (shInt .u64) (fun r4 h4=>
 CallT P zaz [(.pointer r),(.int .i64 (1:Int)),(.func (.func 144) #[] #[])] (shInt .u64) (fun r5 h5=>
 CallT P zaz [(.pointer r),(.int .i64 (8:Int)),(.func (.func 144) #[] #[])] (shInt .u64) (fun r6 h6=>
 CallT P zuu [(.agg #[(.int .i64 (IntKind.wrap .i64 r2)),(.int .i64 (IntKind.wrap .i64 r3)),(.int .i64 (IntKind.wrap .i64 r4)),(.int .i64 (IntKind.wrap .i64 r5)),(.int .i64 (IntKind.wrap .i64 r6))]),(.int .i64 n),(.int .i64 locks)] (shInt .i64) (fun r7 h7=>
 (if (r7 !=(0:Int))=true then
 CallT P zyf [(.agg #[(.int .i64 (IntKind.wrap .i64 r2)),(.int .i64 (IntKind.wrap .i64 r3)),(.int .i64 (IntKind.wrap .i64 r4)),(.int .i64 (IntKind.wrap .i64 r5)),(.int .i64 (IntKind.wrap .i64 r6))]),(.int .i64 r7)] (shInt .i64) (fun r8 h8=>
 Call0 P zbt [(.pointer r),(.int .i64 r7),(.int .i64 (IntKind.wrap .i64 (x+r8)))] (fun h9=>
 Q ⟨(IntKind.wrap .i64 r2),(IntKind.wrap .i64 r3),(IntKind.wrap .i64 r4),(IntKind.wrap .i64 r5),(IntKind.wrap .i64 r6)⟩ h9) h8) h7
 else
 Q ⟨(IntKind.wrap .i64 r2),(IntKind.wrap .i64 r3),(IntKind.wrap .i64 r4),(IntKind.wrap .i64 r5),(IntKind.wrap .i64 r6)⟩ h7)) h6) h5) h4) h3) h2) h1))) h
def zhp (P:Program) (b:Sl) (Q:(S_api_Ins→(Hp→Prop))) (h:Hp):Prop:=
 LoopW2 (α1:=Int) (α2:=Int) (fun again n i h1=>
 (if (decide (i<(8:Int)))=true then
 ((InB b.base b.len (IntKind.wrap .i64 ((4:Int)+i)))∧LdW none (shInt .u8) h1 (sat b.base 1 (IntKind.wrap .i64 ((4:Int)+i))) fun x=>
 ((0:Int)≤(IntKind.wrap .i64 ((8:Int)*i))∧again (bitsI .or .u64 n (shlI .u64 (IntKind.wrap .u64 x) (IntKind.wrap .i64 ((8:Int)*i)))) (IntKind.wrap .i64 (i+(1:Int))) h1))
 else
 ((InB b.base b.len (0:Int))∧LdW none (shInt .u8) h1 (sat b.base 1 (0:Int)) fun x=>
 ((InB b.base b.len (1:Int))∧LdW none (shInt .u8) h1 (sat b.base 1 (1:Int)) fun x1=>
 ((InB b.base b.len (2:Int))∧LdW none (shInt .u8) h1 (sat b.base 1 (2:Int)) fun x2=>
 ((InB b.base b.len (3:Int))∧LdW none (shInt .u8) h1 (sat b.base 1 (3:Int)) fun x3=>
 Q ⟨(IntKind.wrap .i64 x),(IntKind.wrap .i64 x1),(IntKind.wrap .i64 x2),(IntKind.wrap .i64 x3),(IntKind.wrap .i64 n)⟩ h1)))))) (0:Int) (0:Int) h
def zsg (P:Program) (op:Int) (Q:(Bool→(Bool→(Bool→(Bool→(Hp→Prop)))))) (h:Hp):Prop:=
 CallT P zyg [(.int .i64 op)] shStr (fun r h1=>
 NewW [(.string ⟨#[]⟩)] (fun a h2=>
 StW h2 a [(.string r)] (fun h3=>
 CallV P tb (.func (.func 147) #[] #[(.pointer (some a))]) [(.string ⟨#[97]⟩)] zaf (fun r1 h4=>
 CallV P tb (.func (.func 147) #[] #[(.pointer (some a))]) [(.string ⟨#[98]⟩)] zaf (fun r2 h5=>
 CallV P tb (.func (.func 147) #[] #[(.pointer (some a))]) [(.string ⟨#[99]⟩)] zaf (fun r3 h6=>
 CallV P tb (.func (.func 147) #[] #[(.pointer (some a))]) [(.string ⟨#[105]⟩)] zaf (fun r4 h7=>
 Q r1 r2 r3 r4 h7) h6) h5) h4) h3)) h1) h
def znj (P:Program) (has:Bool) (n:Int) (Q:(Int→(Hp→Prop))) (h:Hp):Prop:=
 LetW ((!has)&&(n !=(0:Int))) fun y=>
 (if y=true then
 Q (11:Int) h
 else
 LetW ((decide (n<(0:Int))) || (decide (n≥(8:Int)))) fun y1=>
 (if y1=true then
 Q (10:Int) h
 else
 Q (0:Int) h))
def zsh (P:Program) (x:S_api_Ins) (has:Bool) (n:Int) (locks:Int) (Q:(Int→(Hp→Prop))) (h:Hp):Prop:=
 LetW ((!has)&&(x.Imm !=(0:Int))) fun y=>
 (if y=true then
 Q (11:Int) h
 else
 LetW ((x.Op==(22:Int)) || (x.Op==(23:Int))) fun y1=>
 (if y1=true then
 LetW ((decide (x.Imm<(0:Int))) || (decide (x.Imm>n))) fun y2=>
 (if y2=true then
 Q (12:Int) h
 else
 Q (0:Int) h)
 else
 LetW ((x.Op==(29:Int)) || (x.Op==(30:Int))) fun y2=>
 (if y2=true then
 LetW ((decide (x.Imm<(0:Int))) || (decide (x.Imm≥locks))) fun y3=>
 (if y3=true then
 Q (13:Int) h
 else
 Q (0:Int) h)
 else
 Q (0:Int) h)))
def zfc (P:Program) (op:Int) (Q:(Bool→(Bool→(Bool→(Bool→(Hp→Prop)))))) (h:Hp):Prop:=
 (if (op==(1:Int))=true then
 Q true false false true h
 else
 JoinW1 (α1:=Bool) (fun k=>
 (if (op==(2:Int))=true then
 k (op==(2:Int)) h
 else
 (if (op==(20:Int))=true then
 k (op==(20:Int)) h
 else
 (if (op==(21:Int))=true then
 k (op==(21:Int)) h
 else
 (if (op==(25:Int))=true then
 k (op==(25:Int)) h
 else
 k (op==(26:Int)) h)))))
 (fun t9 h1=>
 (if t9=true then
 Q true true false false h1
 else
 JoinW1 (α1:=Bool) (fun k=>
 (if (op==(3:Int))=true then
 k (op==(3:Int)) h1
 else
 (if (op==(4:Int))=true then
 k (op==(4:Int)) h1
 else
 (if (op==(5:Int))=true then
 k (op==(5:Int)) h1
 else
 (if (op==(6:Int))=true then
 k (op==(6:Int)) h1
 else
 (if (op==(7:Int))=true then
 k (op==(7:Int)) h1
 else
 (if (op==(8:Int))=true then
 k (op==(8:Int)) h1
 else
 (if (op==(9:Int))=true then
 k (op==(9:Int)) h1
 else
 (if (op==(10:Int))=true then
 k (op==(10:Int)) h1
 else
 (if (op==(11:Int))=true then
 k (op==(11:Int)) h1
 else
 (if (op==(12:Int))=true then
 k (op==(12:Int)) h1
 else
 (if (op==(13:Int))=true then
 k (op==(13:Int)) h1
 else
 k (op==(14:Int)) h1))))))))))))
 (fun t15 h2=>
 (if t15=true then
 Q true true true false h2
 else
 JoinW1 (α1:=Bool) (fun k=>
 (if (op==(15:Int))=true then
 k (op==(15:Int)) h2
 else
 (if (op==(16:Int))=true then
 k (op==(16:Int)) h2
 else
 (if (op==(17:Int))=true then
 k (op==(17:Int)) h2
 else
 (if (op==(18:Int))=true then
 k (op==(18:Int)) h2
 else
 (if (op==(19:Int))=true then
 k (op==(19:Int)) h2
 else
 k (op==(24:Int)) h2))))))
 (fun t28 h3=>
 (if t28=true then
 Q true true true false h3
 else
 JoinW1 (α1:=Bool) (fun k=>
 (if (op==(22:Int))=true then
 k (op==(22:Int)) h3
 else
 (if (op==(29:Int))=true then
 k (op==(29:Int)) h3
 else
 k (op==(30:Int)) h3)))
 (fun t35 h4=>
 (if t35=true then
 Q false false false true h4
 else
 (if (op==(23:Int))=true then
 Q true false false true h4
 else
 JoinW1 (α1:=Bool) (fun k=>
 (if (op==(27:Int))=true then
 k (op==(27:Int)) h4
 else
 (if (op==(28:Int))=true then
 k (op==(28:Int)) h4
 else
 (if (op==(31:Int))=true then
 k (op==(31:Int)) h4
 else
 (if (op==(32:Int))=true then
 k (op==(32:Int)) h4
 else
 k (op==(33:Int)) h4)))))
 (fun t41 h5=>
 (if t41=true then
 Q true false false false h5
 else
 Q false false false false h5))))))))))))
def zdr (P:Program) (n:Int) (has:Bool) (Q:(Int→(Hp→Prop))) (h:Hp):Prop:=
 LetW ((!has)&&(n !=(0:Int))) fun y=>
 (if y=true then
 Q (11:Int) h
 else
 LetW ((decide (n<(0:Int))) || (decide (n≥(8:Int)))) fun y1=>
 LetW (has&&y1) fun y2=>
 (if y2=true then
 Q (10:Int) h
 else
 Q (0:Int) h))
def zgx (P:Program) (n:Int) (a1:Addr) (Q:(Int→(Hp→Prop))) (h:Hp):Prop:=
 LdW none shPtr h a1 fun x=>
 NilW none x fun p=>
 LdW none shSl h (Addr.add p 0) fun x1=>
 (if (decide (n≥((x1.len:Nat):Int)))=true then
 Q (2:Int) h
 else
 Q (0:Int) h)
def zmq (P:Program) (n:Int) (a1:Addr) (Q:(Int→(Hp→Prop))) (h:Hp):Prop:=
 LdW none shFn h a1 fun x=>
 CallV P tb (.func (.func x.g) x.first x.captured) [(.int .i64 (IntKind.wrap .i64 n))] (shInt .i64) (fun r h1=>
 Q r h1) h
def zmr (P:Program) (a0:Int) (Q:(Int→(Hp→Prop))) (h:Hp):Prop:=
 Q (0:Int) h
def zsi (P:Program) (x:S_api_Ins) (e:Int) (Q:(Int→(Hp→Prop))) (h:Hp):Prop:=
 (if (e==(9:Int))=true then
 Q (0:Int) h
 else
 Call4 P zrw [(.int .i64 x.Op)] zaf zaf zaf zaf (fun r r1 r2 r3 h1=>
 NewW [(.bool r),(.int .i64 x.A),(.bool r1),(.int .i64 x.B),(.bool r2),(.int .i64 x.C)] (fun a h2=>
 LoopW1 (α1:=Int) (fun again t35 h3=>
 (if (decide (t35<(3:Int)))=true then
 ((InB (some a) 3 t35)∧LdW none zcn h3 (sat (some a) 2 t35) fun x1=>
 LetW (x1.has&&(decide (x1.n≥(8:Int)))) fun y=>
 LetW ((!x1.has)&&(x1.n !=(0:Int))) fun y1=>
 LetW (y || y1) fun y2=>
 (if y2=true then
 Q (IntKind.wrap .i64 ((1:Int)+t35)) h3
 else
 again (IntKind.wrap .i64 (t35+(1:Int))) h3))
 else
 Q (4:Int) h3)) (0:Int) h2) h1) h)
def zsj (P:Program) (op:Int) (Q:(ByteArray→(Hp→Prop))) (h:Hp):Prop:=
 LetW ((decide (op<(0:Int))) || (decide (op≥(34:Int)))) fun y=>
 (if y=true then
 Q ⟨#[]⟩ h
 else
 (((0:Int)≤op∧op<(34:Int))∧∃x:ByteArray,((List.get?Internal (α:=Value) [(.string ⟨#[]⟩),(.string ⟨#[97,105]⟩),(.string ⟨#[97,98]⟩),(.string ⟨#[97,98,99]⟩),(.string ⟨#[97,98,99]⟩),(.string ⟨#[97,98,99]⟩),(.string ⟨#[97,98,99]⟩),(.string ⟨#[97,98,99]⟩),(.string ⟨#[97,98,99]⟩),(.string ⟨#[97,98,99]⟩),(.string ⟨#[97,98,99]⟩),(.string ⟨#[97,98,99]⟩),(.string ⟨#[97,98,99]⟩),(.string ⟨#[97,98,99]⟩),(.string ⟨#[97,98,99]⟩),(.string ⟨#[97,98,99]⟩),(.string ⟨#[97,98,99]⟩),(.string ⟨#[97,98,99]⟩),(.string ⟨#[97,98,99]⟩),(.string ⟨#[97,98,99]⟩),(.string ⟨#[97,98]⟩),(.string ⟨#[97,98]⟩),(.string ⟨#[105]⟩),(.string ⟨#[97,105]⟩),(.string ⟨#[97,98,99]⟩),(.string ⟨#[97,98]⟩),(.string ⟨#[97,98]⟩),(.string ⟨#[97]⟩),(.string ⟨#[97]⟩),(.string ⟨#[105]⟩),(.string ⟨#[105]⟩),(.string ⟨#[97]⟩),(.string ⟨#[97]⟩),(.string ⟨#[97]⟩)] ((Int.toNat op)*1))=(some (.string x))∧Q x h)))
def ztj (P:Program) (field:ByteArray) (a1:Addr) (Q:(Bool→(Hp→Prop))) (h:Hp):Prop:=
 LdW none shStr h a1 fun x=>
 CallT P zuv [(.string x),(.string field)] zaf (fun r h1=>
 Q r h1) h
end Lf

set_option maxRecDepth 100000
namespace Lf
open Go
def zle :List Nat:=[3,4,7,8,11,12]
def zuf :Ann:=.tt
def zoq :List Nat:=[1,2,5,6,9,10]
def zan1 :Ann:=.tt
def zgv1 :List Nat:=[2,3,11,13]
def zpp1 :Ann:=(.sq .tt (.sq .tt (.sq .tt (.sq .tt (.sq .tt (.sq .tt (.sq .tt (.sq (.rg [(0,[]),(1,[]),(2,[]),(3,[]),(4,[]),(5,[])]) (.sq (.sq .tt (.bk (.lp [⟨false,59,3⟩] [11] .tt))) (.sq (.sq .tt (.bk (.lp [⟨false,70,3⟩] [13] .tt))) .tt))))))))))
def zgw1 :List Nat:=[2,3,7]
def zpq1 :Ann:=(.sq .tt (.sq .tt (.sq .tt (.sq .tt (.jn [] [] (.sq .tt (.sq (.rg [(0,[]),(1,[]),(2,[]),(3,[]),(4,[]),(5,[]),(6,[]),(7,[]),(8,[]),(9,[])]) .tt)) (.sq (.sq .tt (.sq (.sq (.rg [(0,[]),(1,[]),(2,[]),(3,[]),(4,[]),(5,[]),(6,[]),(7,[]),(8,[]),(9,[]),(10,[]),(11,[]),(12,[6,11]),(13,[6,11]),(14,[]),(15,[])]) .tt) .tt)) (.sq (.rg [(0,[]),(1,[]),(2,[]),(3,[]),(4,[]),(5,[4]),(6,[]),(7,[]),(8,[])]) .tt)))))))
def znk :List Nat:=[2,3,7,8]
def zyk :Ann:=(.sq .tt (.sq .tt (.sq .tt (.sq .tt (.sq .tt (.sq .tt (.sq (.sq .tt (.bk (.lp [⟨false,9,3⟩,⟨true,8,30⟩] [8] (.sq .tt (.sq (.bk (.rg [(0,[]),(1,[]),(2,[]),(3,[]),(4,[1]),(5,[1]),(6,[]),(7,[]),(8,[])])) .tt))))) (.sq (.sq .tt (.bk (.lp [⟨false,10,3⟩,⟨true,8,30⟩] [8] (.sq .tt (.sq (.bk (.rg [(0,[]),(1,[]),(2,[]),(3,[]),(4,[1]),(5,[1]),(6,[]),(7,[]),(8,[])])) .tt))))) (.jn [] [] .tt (.sq (.sq .tt (.sq (.sq (.rg [(0,[]),(1,[]),(2,[]),(3,[]),(4,[]),(5,[]),(6,[]),(7,[]),(8,[]),(9,[]),(10,[5,9]),(11,[5,9]),(12,[]),(13,[])]) .tt) .tt)) (.sq .tt (.sq .tt (.sq (.rg [(0,[]),(1,[]),(2,[1]),(3,[]),(4,[]),(5,[])]) .tt)))))))))))))
def zpu :List Nat:=[2,3]
def zbp1 :Ann:=(.sq .tt (.sq .tt (.sq (.sq .tt (.bk (.lp [⟨false,5,4⟩,⟨false,6,3⟩] [] (.sq .tt (.sq (.bk (.rg [(0,[]),(1,[]),(2,[]),(3,[]),(4,[]),(5,[]),(6,[]),(7,[]),(8,[]),(9,[]),(10,[]),(11,[]),(12,[]),(13,[])])) .tt))))) .tt)))
def zpv :List Nat:=[2,3]
def zbq1 :Ann:=(.sq .tt (.sq .tt (.sq (.sq .tt (.bk (.lp [⟨false,5,3⟩] [] (.sq .tt (.sq (.bk (.sq (.rg [(0,[]),(1,[]),(2,[]),(3,[]),(4,[]),(5,[]),(6,[]),(7,[]),(8,[]),(9,[]),(10,[]),(11,[])]) .tt)) .tt))))) (.sq (.sq .tt (.bk (.lp [⟨false,7,3⟩] [] (.sq .tt (.sq (.bk (.sq (.rg [(0,[]),(1,[]),(2,[]),(3,[]),(4,[]),(5,[]),(6,[]),(7,[]),(8,[]),(9,[]),(10,[]),(11,[])]) .tt)) .tt))))) .tt))))
def zgx1 :List Nat:=[2,3,10]
def zpr1 :Ann:=(.sq .tt (.sq .tt (.sq .tt (.sq .tt (.sq .tt (.sq (.sq .tt (.bk (.lp [⟨false,61,3⟩] [] .tt))) (.sq (.sq .tt (.bk (.lp [⟨false,72,3⟩] [] .tt))) .tt)))))))
def zor :List Nat:=[1]
def zao1 :Ann:=(.sq .tt (.sq .tt (.sq (.sq .tt (.bk (.lp [⟨false,4,3⟩] [] (.sq .tt (.sq (.bk (.sq .tt (.sq (.sq .tt (.bk (.lp [⟨false,3,3⟩,⟨false,22,3⟩] [] (.sq .tt (.sq .tt (.sq (.bk (.sq .tt (.sq .tt (.bk (.lp [⟨false,3,3⟩,⟨false,32,3⟩] [] (.sq .tt (.sq .tt (.sq (.bj [⟨false,3,3⟩] [] (.sq .tt (.sq .tt (.sq .tt (.sq (.sq .tt (.bk (.lp [⟨false,8,3⟩] [] .tt))) (.sq (.sq .tt (.bk (.lp [⟨false,9,3⟩] [] .tt))) .tt)))))) .tt)))))))) .tt)))))) (.sq .tt (.bk (.lp [⟨false,3,3⟩,⟨false,118,3⟩] [] (.sq .tt (.sq .tt (.sq (.bk (.sq .tt (.sq .tt (.sq .tt (.sq (.sq .tt (.bk (.lp [⟨false,12,3⟩] [] .tt))) (.jn [] [] .tt (.sq .tt (.bk (.lp [⟨false,3,3⟩,⟨false,168,3⟩] [] (.sq .tt (.sq .tt (.sq (.bj [⟨false,3,3⟩] [] (.sq .tt (.sq .tt (.sq (.sq .tt (.bk (.lp [⟨false,14,3⟩] [] .tt))) (.sq .tt (.sq (.rg [(0,[]),(1,[]),(2,[]),(3,[]),(4,[]),(5,[]),(6,[]),(7,[]),(8,[]),(9,[]),(10,[]),(11,[]),(12,[]),(13,[]),(14,[]),(15,[3,8,11]),(16,[3]),(17,[]),(18,[])]) .tt)))))) .tt)))))))))))) .tt))))))))) .tt))))) .tt)))
def zos :List Nat:=[0,1,2]
def zap1 :Ann:=.tt
def zgy1 :List Nat:=[1,12]
def zps1 :Ann:=(.sq .tt (.sq .tt (.sq .tt (.sq (.sq .tt (.bk (.lp [⟨false,6,33⟩,⟨false,35,3⟩] [] .tt))) (.sq .tt (.sq (.sq .tt (.bk (.lp [⟨false,6,33⟩,⟨false,53,3⟩] [] .tt))) (.sq .tt (.sq .tt (.sq .tt (.sq .tt (.sq (.sq .tt (.bk (.lp [⟨false,6,33⟩,⟨false,92,3⟩] [12] .tt))) .tt)))))))))))
def zrb :List Nat:=[]
def zed1 :Ann:=.tt
def zuy :List Nat:=[]
def zgz1 :Ann:=(.sq .tt (.bk (.lp [⟨false,8,3⟩] [] (.sq .tt (.sq .tt (.sq (.bk (.sq .tt (.rg [(0,[]),(1,[]),(2,[]),(3,[]),(4,[]),(5,[]),(6,[]),(7,[]),(8,[]),(9,[]),(10,[]),(11,[4]),(12,[]),(13,[]),(14,[]),(15,[])]))) .tt))))))
def zuz :List Nat:=[3,5]
def zha1 :Ann:=(.sq .tt (.sq (.rg [(0,[]),(1,[]),(2,[]),(3,[]),(4,[]),(5,[])]) (.sq (.rg [(0,[]),(1,[]),(2,[]),(3,[]),(4,[]),(5,[]),(6,[])]) (.sq (.sq .tt (.bk (.lp [⟨false,26,3⟩] [5] (.sq .tt (.sq .tt (.sq (.bk (.sq .tt (.sq (.rg [(0,[]),(1,[]),(2,[]),(3,[]),(4,[]),(5,[])]) (.sq (.rg [(0,[]),(1,[]),(2,[]),(3,[]),(4,[]),(5,[])]) (.rg [(0,[]),(1,[]),(2,[]),(3,[]),(4,[]),(5,[])]))))) .tt)))))) (.sq (.rg [(0,[]),(1,[]),(2,[]),(3,[]),(4,[]),(5,[])]) (.sq (.rg [(0,[]),(1,[]),(2,[]),(3,[]),(4,[]),(5,[])]) (.sq .tt (.bk (.lp [⟨false,64,3⟩] [] (.sq .tt (.sq .tt (.sq (.bk (.sq .tt (.sq .tt (.sq (.rg [(0,[]),(1,[]),(2,[]),(3,[]),(4,[]),(5,[]),(6,[]),(7,[]),(8,[]),(9,[])]) (.sq .tt (.bk (.lp [⟨false,91,3⟩] [] .tt))))))) .tt))))))))))))
def zva :List Nat:=[3,8]
def zhb1 :Ann:=(.sq .tt (.sq (.rg [(0,[]),(1,[]),(2,[]),(3,[]),(4,[]),(5,[])]) (.sq (.rg [(0,[]),(1,[]),(2,[]),(3,[]),(4,[]),(5,[])]) (.sq (.sq .tt (.bk (.lp [⟨false,23,3⟩] [] .tt))) (.sq (.rg [(0,[]),(1,[]),(2,[]),(3,[]),(4,[]),(5,[])]) (.sq (.rg [(0,[]),(1,[]),(2,[]),(3,[]),(4,[]),(5,[])]) (.sq .tt (.jn [⟨false,6,3⟩] [] .tt (.sq .tt (.sq (.rg [(0,[]),(1,[]),(2,[]),(3,[]),(4,[]),(5,[])]) (.sq .tt (.bk (.lp [⟨false,60,3⟩] [8] .tt)))))))))))))
def zrc :List Nat:=[2,3]
def zee1 :Ann:=(.sq .tt (.sq .tt (.sq .tt (.sq .tt (.sq .tt (.sq .tt (.sq (.sq .tt (.bk (.lp [⟨false,7,4⟩,⟨false,9,3⟩] [] .tt))) (.sq (.sq .tt (.bk (.lp [⟨false,7,4⟩,⟨false,10,3⟩] [] .tt))) (.sq (.sq .tt (.bk (.lp [⟨false,7,4⟩,⟨false,11,3⟩] [] .tt))) .tt)))))))))
def ztk :List Nat:=[2,6]
def zfm1 :Ann:=(.sq .tt (.sq (.sq .tt (.bk (.lp [⟨false,7,3⟩] [] (.sq .tt (.sq .tt (.sq (.bj [] [] .tt) .tt)))))) (.sq .tt (.sq .tt (.sq (.sq .tt (.bk (.lp [⟨false,43,3⟩,⟨true,6,30⟩] [6] (.sq .tt (.sq .tt (.sq (.bk (.rg [(0,[]),(1,[]),(2,[]),(3,[1]),(4,[1]),(5,[]),(6,[]),(7,[])])) .tt)))))) (.sq (.sq .tt (.bk (.lp [⟨false,59,3⟩,⟨true,6,30⟩] [6] (.sq .tt (.sq .tt (.sq (.bk (.rg [(0,[]),(1,[]),(2,[]),(3,[1]),(4,[1]),(5,[]),(6,[]),(7,[])])) .tt)))))) (.sq (.sq (.rg [(0,[]),(1,[]),(2,[]),(3,[]),(4,[]),(5,[]),(6,[]),(7,[]),(8,[]),(9,[]),(10,[]),(11,[])]) (.sq (.rg [(0,[]),(1,[]),(2,[]),(3,[]),(4,[]),(5,[]),(6,[]),(7,[]),(8,[])]) .tt)) .tt)))))))
def zvb :List Nat:=[]
def zhc1 :Ann:=.tt
def zjy :List Nat:=[]
def zsk :Ann:=(.sq .tt (.bk (.lp [⟨false,4,3⟩] [] (.sq .tt (.sq (.bj [] [] .tt) .tt)))))
def znl :List Nat:=[2,4]
def zyl :Ann:=(.sq .tt (.sq .tt (.sq .tt (.sq (.sq (.rg [(0,[]),(1,[]),(2,[]),(3,[]),(4,[]),(5,[]),(6,[]),(7,[]),(8,[]),(9,[]),(10,[]),(11,[]),(12,[])]) .tt) (.sq (.rg [(0,[]),(1,[]),(2,[]),(3,[]),(4,[]),(5,[]),(6,[]),(7,[]),(8,[]),(9,[]),(10,[]),(11,[]),(12,[]),(13,[]),(14,[]),(15,[]),(21,[]),(16,[]),(17,[]),(18,[]),(19,[]),(20,[]),(22,[]),(23,[]),(24,[])]) (.jn [] [] .tt .tt))))))
def zhz :List Nat:=[]
def zpw :Ann:=(.sq .tt (.sq .tt (.sq (.sq (.rg [(0,[]),(1,[]),(2,[]),(3,[]),(4,[]),(5,[]),(6,[]),(7,[]),(8,[]),(9,[]),(10,[]),(11,[])]) .tt) (.sq .tt (.sq (.sq .tt (.bk (.lp [⟨false,5,80⟩,⟨false,6,3⟩] [] (.sq .tt (.sq (.bk (.rg [(0,[]),(1,[]),(2,[]),(3,[]),(4,[]),(5,[]),(6,[]),(7,[]),(8,[]),(9,[]),(10,[]),(11,[]),(12,[]),(13,[]),(14,[]),(15,[]),(16,[]),(17,[]),(18,[])])) .tt))))) .tt)))))
def zlu :List Nat:=[3,4,5,8]
def zvx :Ann:=(.sq .tt (.sq .tt (.sq .tt (.sq (.sq .tt (.bk (.lp [⟨false,7,3⟩,⟨true,5,60⟩] [5,8] .tt))) (.sq .tt (.sq .tt (.sq (.sq .tt (.bk (.lp [⟨false,9,3⟩,⟨true,5,60⟩] [5] (.sq .tt (.sq (.bk (.sq (.rg [(0,[]),(1,[]),(2,[]),(3,[1]),(4,[]),(5,[]),(6,[1]),(7,[]),(8,[]),(9,[])]) (.sq .tt (.sq .tt (.sq (.sq .tt (.bk (.lp [⟨false,11,23⟩,⟨false,12,3⟩] [] .tt))) .tt))))) .tt))))) .tt)))))))
def zjz :List Nat:=[3,4]
def zsl :Ann:=(.sq .tt (.sq .tt (.sq .tt (.sq (.sq .tt (.bk (.lp [⟨false,6,3⟩] [] .tt))) (.sq .tt (.sq .tt (.sq .tt (.sq .tt (.sq (.sq .tt (.bk (.lp [⟨false,7,3⟩] [] (.sq .tt (.sq (.bk (.rg [(0,[]),(1,[]),(2,[]),(3,[]),(4,[1]),(5,[1]),(6,[]),(7,[]),(8,[])])) .tt))))) .tt)))))))))
def zka :List Nat:=[]
def zsm :Ann:=.tt
def zlv :List Nat:=[2,3]
def zvy :Ann:=(.sq .tt (.sq .tt (.sq (.sq .tt (.bk (.lp [⟨false,5,3⟩] [] (.sq .tt (.sq (.bk (.sq (.rg [(0,[]),(1,[]),(2,[]),(3,[]),(4,[]),(5,[]),(6,[]),(7,[]),(8,[]),(9,[]),(10,[]),(11,[]),(12,[])]) .tt)) .tt))))) .tt)))
def zpx :List Nat:=[]
def zbr1 :Ann:=(.sq .tt (.sq .tt (.sq (.sq .tt (.bk (.lp [⟨false,5,3⟩] [] (.sq .tt (.sq (.bk (.sq (.rg [(0,[]),(1,[]),(2,[]),(3,[]),(4,[]),(5,[]),(6,[]),(7,[]),(8,[])]) .tt)) .tt))))) .tt)))
def zlw :List Nat:=[2,3]
def zvz :Ann:=(.sq .tt (.sq .tt (.sq (.sq .tt (.bk (.lp [⟨false,5,3⟩] [] (.sq .tt (.sq (.bk (.sq (.rg [(0,[]),(1,[]),(2,[]),(3,[]),(4,[]),(5,[]),(6,[]),(7,[]),(8,[]),(9,[]),(10,[])]) .tt)) .tt))))) (.sq (.sq .tt (.bk (.lp [⟨false,6,3⟩] [] (.sq .tt (.sq (.bk (.sq (.rg [(0,[]),(1,[]),(2,[]),(3,[]),(4,[]),(5,[]),(6,[]),(7,[]),(8,[]),(9,[]),(10,[]),(11,[])]) .tt)) .tt))))) .tt))))
def zkb :List Nat:=[2,3]
def zsn :Ann:=(.sq .tt (.sq .tt (.sq (.sq .tt (.bk (.lp [⟨false,5,3⟩] [] (.sq .tt (.sq (.bk (.sq (.rg [(0,[]),(1,[]),(2,[]),(3,[]),(4,[]),(5,[]),(6,[]),(7,[]),(8,[]),(9,[]),(10,[]),(11,[])]) .tt)) .tt))))) .tt)))
def zoh1 :List Nat:=[1,15]
def zyr1 :Ann:=(.sq .tt (.sq .tt (.sq .tt (.sq .tt (.sq (.sq .tt (.bk (.lp [⟨false,57,3⟩] [] .tt))) (.sq .tt (.sq (.sq .tt (.bk (.lp [⟨false,80,3⟩] [15] .tt))) .tt)))))))
def zlj1 :List Nat:=[]
def zud1 :Ann:=(.sq .tt (.sq .tt (.sq .tt (.sq (.sq .tt (.bk (.lp [⟨false,29,3⟩] [] .tt))) .tt))))
def zrd :List Nat:=[5,8]
def zef1 :Ann:=(.sq .tt (.sq .tt (.sq (.sq (.rg [(0,[]),(1,[]),(2,[]),(3,[]),(4,[]),(5,[]),(6,[]),(7,[]),(8,[]),(9,[]),(10,[]),(11,[]),(12,[9]),(13,[]),(14,[]),(15,[]),(16,[]),(17,[]),(18,[]),(19,[]),(20,[]),(21,[]),(22,[]),(23,[]),(24,[])]) .tt) (.sq .tt (.sq (.sq .tt (.bk (.lp [⟨false,6,2⟩,⟨false,43,3⟩] [8] .tt))) .tt)))))
def zre :List Nat:=[2,5,6,10]
def zeg1 :Ann:=(.sq .tt (.sq (.rg [(0,[]),(1,[]),(2,[]),(3,[]),(4,[]),(5,[]),(6,[]),(7,[]),(8,[]),(9,[]),(10,[]),(11,[]),(12,[]),(13,[]),(14,[8,11]),(15,[])]) (.sq .tt (.sq (.bk (.jn [⟨false,28,4⟩] [] .tt (.sq .tt (.jn [⟨false,68,4⟩] [] .tt .tt)))) (.sq .tt (.sq (.sq .tt (.bk (.lp [⟨false,8,4⟩,⟨false,111,3⟩] [10] .tt))) .tt))))))
def zpy :List Nat:=[1,5,11,13,15,17]
def zbs1 :Ann:=(.sq .tt (.sq .tt (.sq (.sq .tt (.bk (.lp [⟨false,28,3⟩] [5] (.sq .tt (.sq .tt (.sq (.bk (.sq .tt (.sq .tt (.bk (.lp [⟨false,36,3⟩] [] (.sq .tt (.sq .tt (.sq (.bk (.sq .tt (.sq .tt (.bk (.lp [⟨false,43,3⟩] [] .tt))))) .tt)))))))) .tt)))))) (.sq (.sq .tt (.bk (.lp [⟨false,100,3⟩] [11,13,15] (.sq .tt (.sq .tt (.sq (.bk (.sq .tt (.sq .tt (.bk (.lp [⟨false,108,3⟩] [13,15] (.sq .tt (.sq .tt (.sq (.bk (.sq .tt (.sq .tt (.bk (.lp [⟨false,116,3⟩] [15] .tt))))) .tt)))))))) .tt)))))) (.sq (.sq .tt (.bk (.lp [⟨false,173,3⟩] [17] (.sq .tt (.sq .tt (.sq (.bk (.sq .tt (.sq .tt (.jn [⟨false,18,3⟩] [] .tt .tt)))) .tt)))))) .tt)))))
def zpz :List Nat:=[1,6,8,12,14,16]
def zbt1 :Ann:=(.sq .tt (.sq .tt (.sq .tt (.sq (.sq .tt (.bk (.lp [⟨false,3,3⟩,⟨false,4,4⟩,⟨false,24,3⟩] [6,8,12] (.sq .tt (.sq .tt (.sq (.bk (.sq .tt (.sq .tt (.bk (.lp [⟨false,3,3⟩,⟨false,4,4⟩,⟨false,31,3⟩] [8,12] (.sq .tt (.sq .tt (.sq (.bk (.sq .tt (.sq .tt (.sq (.sq .tt (.bk (.lp [⟨false,4,4⟩,⟨false,40,3⟩] [] .tt))) (.sq .tt (.bk (.lp [⟨false,4,4⟩,⟨false,54,3⟩] [12] .tt))))))) .tt)))))))) .tt)))))) (.sq (.sq .tt (.bk (.lp [⟨false,3,3⟩,⟨false,4,4⟩,⟨false,71,3⟩] [14,16] (.sq .tt (.sq .tt (.sq (.bk (.sq .tt (.sq .tt (.sq (.sq .tt (.bk (.lp [⟨false,4,4⟩,⟨false,80,3⟩] [16] .tt))) (.sq .tt (.bk (.lp [⟨false,3,3⟩,⟨false,4,4⟩,⟨false,95,3⟩] [] (.sq .tt (.sq .tt (.sq (.bk (.sq .tt (.sq .tt (.sq .tt (.bk (.lp [⟨false,4,4⟩,⟨false,103,3⟩] [] .tt)))))) .tt)))))))))) .tt)))))) .tt)))))
def zoi1 :List Nat:=[]
def zys1 :Ann:=(.sq .tt (.sq (.sq .tt (.bk (.lp [⟨false,0,33⟩,⟨false,9,3⟩] [] .tt))) .tt))
def zhd1 :List Nat:=[9]
def zpt1 :Ann:=(.sq .tt (.sq .tt (.sq .tt (.sq (.sq .tt (.bk (.lp [⟨false,7,33⟩,⟨false,26,3⟩] [9] (.sq .tt (.sq .tt (.sq (.bk (.sq .tt (.sq .tt (.sq .tt (.bk (.lp [⟨false,7,33⟩,⟨false,45,3⟩] [] .tt)))))) .tt)))))) .tt))))
def zvc :List Nat:=[3,7]
def zhe1 :Ann:=(.sq .tt (.sq (.rg [(0,[]),(1,[]),(2,[]),(3,[]),(4,[]),(5,[]),(6,[])]) (.sq (.sq .tt (.bk (.lp [⟨false,18,3⟩] [] .tt))) (.sq (.rg [(0,[]),(1,[]),(2,[]),(3,[]),(4,[]),(5,[]),(6,[])]) (.sq (.sq .tt (.bk (.lp [⟨false,38,3⟩] [7] (.sq .tt (.sq .tt (.sq (.bk (.sq .tt (.sq (.rg [(0,[]),(1,[]),(2,[]),(3,[]),(4,[]),(5,[])]) (.rg [(0,[]),(1,[]),(2,[]),(3,[]),(4,[]),(5,[])])))) .tt)))))) (.sq (.rg [(0,[]),(1,[]),(2,[]),(3,[]),(4,[]),(5,[])]) (.rg [(0,[]),(1,[]),(2,[]),(3,[]),(4,[]),(5,[])])))))))
def zrf :List Nat:=[1,7]
def zeh1 :Ann:=(.sq .tt (.sq .tt (.sq .tt (.sq (.rg [(0,[]),(1,[]),(3,[]),(4,[]),(6,[]),(7,[]),(9,[]),(10,[]),(13,[]),(2,[4,7,10]),(5,[7,10]),(8,[10]),(11,[]),(12,[]),(14,[])]) (.sq (.sq .tt (.bk (.lp [⟨false,8,3⟩] [] .tt))) (.sq .tt (.sq .tt (.sq (.sq .tt (.bk (.lp [⟨false,9,3⟩] [] (.sq .tt (.sq (.bk (.sq (.sq (.rg [(0,[]),(1,[]),(2,[]),(3,[]),(4,[]),(5,[]),(6,[]),(7,[]),(8,[]),(9,[]),(10,[]),(11,[])]) .tt) (.sq (.rg [(0,[]),(1,[]),(2,[]),(3,[]),(4,[]),(5,[]),(6,[]),(7,[]),(8,[]),(9,[]),(10,[]),(11,[]),(12,[]),(13,[])]) .tt))) .tt))))) .tt))))))))
def zot :List Nat:=[2,3]
def zaq1 :Ann:=(.sq .tt (.sq .tt (.sq (.sq .tt (.bk (.lp [⟨false,5,3⟩] [] (.sq .tt (.sq (.bk (.sq (.rg [(0,[]),(1,[]),(2,[]),(3,[]),(4,[]),(5,[]),(6,[]),(7,[]),(8,[]),(9,[]),(10,[]),(11,[]),(12,[]),(13,[]),(14,[]),(15,[]),(16,[]),(17,[]),(18,[]),(19,[]),(20,[]),(21,[]),(22,[]),(23,[]),(24,[]),(25,[]),(26,[]),(27,[]),(28,[]),(29,[]),(30,[]),(31,[]),(32,[]),(33,[])]) .tt)) .tt))))) (.sq (.sq .tt (.bk (.lp [⟨false,6,3⟩] [] (.sq .tt (.sq (.bk (.sq (.sq (.rg [(0,[]),(1,[]),(2,[]),(3,[]),(4,[]),(5,[]),(6,[]),(7,[]),(8,[]),(9,[]),(10,[]),(11,[])]) .tt) (.sq .tt (.bk (.lp [⟨false,7,3⟩] [] (.sq .tt (.sq (.bk (.sq (.rg [(0,[]),(1,[]),(2,[]),(3,[]),(4,[]),(5,[]),(6,[]),(7,[]),(8,[]),(9,[]),(10,[]),(11,[]),(12,[]),(13,[])]) .tt)) .tt))))))) .tt))))) .tt))))
def ziu :List Nat:=[5,8]
def zqo :Ann:=(.sq .tt (.sq .tt (.sq .tt (.sq (.sq (.rg [(0,[]),(1,[]),(2,[]),(3,[]),(4,[]),(5,[]),(6,[]),(7,[]),(8,[]),(9,[]),(10,[]),(11,[]),(12,[]),(13,[]),(14,[]),(15,[]),(16,[]),(17,[]),(18,[]),(19,[]),(20,[]),(21,[]),(22,[]),(23,[]),(24,[]),(25,[]),(26,[]),(27,[]),(28,[]),(29,[]),(30,[]),(31,[]),(32,[]),(33,[]),(34,[]),(35,[]),(36,[]),(37,[]),(38,[]),(39,[]),(40,[]),(41,[])]) .tt) (.sq (.sq .tt (.bk (.lp [⟨false,7,3⟩] [8] (.sq .tt (.sq (.bk (.sq .tt (.sq (.rg [(0,[]),(1,[]),(2,[]),(3,[]),(4,[]),(5,[]),(6,[]),(7,[]),(8,[]),(9,[]),(10,[]),(11,[]),(12,[]),(13,[]),(14,[]),(15,[]),(16,[]),(17,[]),(18,[]),(19,[]),(20,[]),(21,[]),(22,[]),(23,[]),(24,[]),(25,[]),(26,[]),(27,[]),(28,[]),(29,[]),(30,[]),(31,[]),(32,[]),(33,[]),(34,[]),(35,[]),(36,[]),(37,[]),(38,[]),(39,[]),(40,[]),(41,[]),(42,[]),(43,[]),(44,[]),(45,[]),(46,[]),(47,[]),(48,[]),(49,[]),(50,[]),(51,[]),(52,[]),(53,[]),(54,[]),(55,[])]) .tt))) .tt))))) (.sq (.sq .tt (.bk (.lp [⟨false,9,3⟩] [] (.sq .tt (.sq (.bk (.sq .tt (.sq .tt (.sq .tt (.bk (.lp [⟨false,11,3⟩] [] .tt)))))) .tt))))) .tt))))))
def zgy :List Nat:=[5,9,11]
def zok :Ann:=(.sq .tt (.sq .tt (.sq .tt (.sq (.sq (.rg [(0,[]),(1,[]),(2,[]),(3,[]),(4,[]),(5,[]),(6,[]),(7,[]),(8,[]),(9,[]),(10,[]),(11,[]),(12,[]),(13,[]),(14,[]),(15,[]),(16,[]),(17,[]),(18,[]),(19,[]),(20,[]),(21,[]),(22,[]),(23,[]),(24,[]),(25,[]),(26,[]),(27,[]),(28,[]),(29,[]),(30,[]),(31,[]),(32,[]),(33,[]),(34,[]),(35,[]),(36,[]),(37,[]),(38,[]),(39,[]),(40,[])]) .tt) (.sq .tt (.sq .tt (.sq .tt (.sq (.sq .tt (.bk (.lp [⟨false,8,3⟩] [9,11] (.sq .tt (.sq (.bk (.sq .tt (.sq .tt (.sq .tt (.sq (.sq (.rg [(0,[]),(1,[]),(2,[]),(3,[]),(4,[]),(5,[]),(6,[]),(7,[]),(8,[]),(9,[]),(10,[]),(11,[]),(12,[]),(13,[]),(14,[]),(15,[]),(16,[]),(17,[]),(18,[]),(19,[]),(20,[]),(21,[]),(22,[]),(23,[]),(24,[])]) .tt) (.sq .tt (.bk (.lp [⟨false,10,3⟩] [11] (.sq .tt (.sq (.bk (.sq .tt (.sq .tt (.sq (.rg [(0,[]),(1,[]),(2,[]),(3,[]),(4,[]),(5,[]),(6,[]),(7,[]),(8,[]),(9,[]),(10,[]),(11,[]),(12,[]),(13,[]),(14,[])]) .tt)))) .tt)))))))))) .tt))))) .tt))))))))
def zia :List Nat:=[5,7]
def zqa :Ann:=(.sq .tt (.sq .tt (.sq .tt (.sq (.rg [(0,[]),(1,[]),(3,[]),(4,[]),(5,[]),(6,[]),(7,[]),(8,[]),(9,[]),(10,[]),(11,[]),(16,[]),(2,[7,11]),(12,[]),(13,[]),(14,[]),(15,[]),(17,[]),(18,[])]) (.sq .tt (.sq (.sq .tt (.bk (.lp [⟨false,9,3⟩,⟨false,11,3⟩] [] (.sq .tt (.sq (.bk (.sq .tt (.bk (.lp [⟨false,9,3⟩,⟨false,12,3⟩] [] (.sq .tt (.sq (.bj [⟨false,9,3⟩] [] .tt) .tt)))))) .tt))))) (.sq (.sq .tt (.bk (.lp [⟨false,10,3⟩,⟨false,13,3⟩] [] (.sq .tt (.sq (.bk (.sq .tt (.sq .tt (.bk (.lp [⟨false,10,3⟩,⟨false,15,3⟩] [] (.sq .tt (.sq (.bj [⟨false,10,3⟩] [] (.sq .tt (.sq .tt (.sq (.rg [(0,[]),(1,[]),(2,[]),(3,[]),(4,[]),(5,[]),(6,[]),(7,[]),(8,[]),(9,[]),(10,[]),(11,[]),(12,[]),(13,[]),(14,[]),(15,[]),(16,[]),(17,[]),(18,[]),(19,[]),(20,[]),(21,[]),(22,[]),(23,[]),(24,[]),(25,[]),(26,[]),(27,[]),(28,[])]) .tt)))) .tt))))))) .tt))))) (.sq .tt (.sq (.sq .tt (.bk (.lp [⟨false,16,4⟩,⟨false,17,3⟩] [] .tt))) .tt)))))))))
def zwx :List Nat:=[]
def zjf1 :Ann:=(.sq .tt (.sq .tt (.sq (.sq (.rg [(0,[]),(1,[]),(2,[]),(3,[]),(4,[]),(5,[]),(6,[]),(7,[]),(8,[]),(9,[]),(10,[]),(11,[])]) .tt) (.sq .tt (.sq (.sq (.rg [(0,[]),(1,[]),(2,[]),(3,[]),(4,[]),(5,[]),(6,[]),(7,[]),(8,[]),(9,[]),(10,[]),(11,[]),(12,[]),(13,[]),(14,[]),(15,[]),(16,[])]) (.bk (.lp [⟨false,5,80⟩,⟨false,48,3⟩] [] .tt))) .tt)))))
def zrg :List Nat:=[3]
def zei1 :Ann:=(.sq .tt (.sq .tt (.sq (.sq (.rg [(0,[]),(1,[]),(2,[]),(3,[]),(4,[]),(5,[]),(6,[]),(7,[]),(8,[]),(9,[]),(10,[]),(11,[]),(12,[]),(13,[])]) (.sq (.sq (.rg [(0,[]),(1,[]),(2,[]),(3,[]),(4,[]),(5,[]),(6,[]),(7,[]),(8,[]),(9,[])]) .tt) .tt)) (.sq (.rg [(0,[]),(1,[]),(2,[]),(3,[]),(4,[]),(5,[]),(6,[]),(7,[]),(8,[]),(9,[]),(10,[]),(11,[]),(12,[]),(13,[]),(14,[]),(15,[]),(16,[]),(17,[]),(23,[]),(18,[]),(19,[]),(20,[]),(21,[]),(22,[]),(24,[]),(25,[]),(26,[])]) (.sq (.sq .tt (.sq (.sq (.rg [(0,[]),(1,[]),(2,[]),(3,[]),(4,[]),(5,[]),(6,[]),(7,[]),(8,[]),(9,[]),(10,[]),(11,[])]) .tt) .tt)) .tt)))))
def zvd :List Nat:=[2,3]
def zhf1 :Ann:=(.sq .tt (.sq .tt (.sq (.sq (.rg [(0,[]),(1,[]),(2,[]),(3,[]),(4,[]),(5,[]),(6,[]),(7,[]),(9,[]),(8,[])]) (.bk (.lp [⟨false,19,3⟩,⟨true,3,60⟩] [3] (.sq .tt (.sq .tt (.sq (.bk (.rg [(0,[]),(1,[]),(2,[]),(3,[]),(4,[]),(6,[]),(7,[]),(8,[]),(10,[]),(11,[]),(12,[]),(5,[1]),(9,[1]),(13,[1]),(14,[]),(15,[1]),(16,[]),(17,[]),(18,[])])) .tt)))))) (.sq (.rg [(0,[]),(1,[]),(2,[]),(4,[]),(5,[]),(6,[]),(3,[]),(8,[]),(7,[]),(9,[]),(10,[]),(11,[])]) (.sq (.sq .tt (.bk (.lp [⟨false,55,3⟩,⟨true,3,60⟩] [3] (.sq .tt (.sq .tt (.sq (.bk (.sq (.rg [(0,[]),(1,[]),(2,[]),(3,[]),(4,[]),(5,[1]),(6,[]),(7,[1]),(8,[]),(9,[]),(10,[])]) (.sq .tt (.sq (.sq (.rg [(0,[]),(1,[]),(2,[]),(3,[]),(4,[]),(5,[]),(6,[]),(7,[]),(8,[]),(10,[]),(9,[])]) (.bk (.lp [⟨false,4,23⟩,⟨false,77,3⟩] [] .tt))) .tt)))) .tt)))))) .tt)))))
def zve :List Nat:=[2,3]
def zhg1 :Ann:=(.sq .tt (.sp 3 (.rg [(0,[]),(1,[]),(2,[]),(4,[]),(5,[]),(6,[]),(9,[]),(3,[]),(7,[]),(8,[]),(10,[])]) (.sq (.sq .tt (.bk (.lp [⟨false,16,3⟩] [] .tt))) (.sq .tt (.sq .tt (.sq .tt (.sq .tt (.jn [] [] .tt (.sq .tt (.sq .tt (.sq (.sq .tt (.bk (.lp [⟨false,68,3⟩] [] (.sq .tt (.sq .tt (.sq (.bk (.rg [(0,[]),(1,[]),(2,[]),(3,[1]),(4,[1]),(5,[]),(6,[]),(7,[])])) .tt)))))) .tt)))))))))))
def znm :List Nat:=[2,6]
def zym :Ann:=(.sq .tt (.sq .tt (.sq .tt (.sq .tt (.jn [] [] .tt (.sq (.sq .tt (.sq (.sq (.rg [(0,[]),(1,[]),(2,[]),(3,[]),(4,[]),(5,[]),(6,[]),(7,[]),(8,[]),(9,[4,8]),(10,[]),(11,[])]) .tt) .tt)) .tt))))))
def zou :List Nat:=[]
def zar1 :Ann:=.tt
def zkn :List Nat:=[]
def ztl :Ann:=(.sq .tt (.sq .tt (.sq .tt (.sq .tt (.jn [] [] .tt .tt)))))
def zlx :List Nat:=[3,4,5,10]
def zwa :Ann:=(.sq .tt (.sq .tt (.sq .tt (.sq (.sq .tt (.bk (.lp [⟨false,7,3⟩,⟨true,5,68⟩] [5] (.sq .tt (.sq (.bk (.rg [(0,[]),(1,[]),(2,[]),(3,[1]),(4,[]),(5,[1]),(6,[]),(7,[]),(8,[])])) .tt))))) (.sq .tt (.sq (.sq .tt (.bk (.lp [⟨false,9,3⟩,⟨true,5,68⟩] [5,10] .tt))) .tt))))))
def zko :List Nat:=[]
def ztm :Ann:=(.sq .tt (.sq .tt (.sq (.sq .tt (.bk (.lp [⟨false,5,3⟩] [] (.sq .tt (.sq (.bk (.sq (.rg [(0,[]),(1,[]),(2,[]),(3,[]),(4,[]),(5,[]),(6,[]),(7,[]),(8,[])]) .tt)) .tt))))) .tt)))
def zly :List Nat:=[]
def zwb :Ann:=(.sq .tt (.sq .tt (.sq (.sq .tt (.bk (.lp [⟨false,5,3⟩] [] (.sq .tt (.sq (.bk (.sq (.rg [(0,[]),(1,[]),(2,[]),(3,[]),(4,[]),(5,[]),(6,[]),(7,[]),(8,[])]) .tt)) .tt))))) .tt)))
def zqb :List Nat:=[]
def zbu1 :Ann:=(.sq .tt (.sq .tt (.sq (.sq .tt (.bk (.lp [⟨false,5,3⟩] [] (.sq .tt (.sq (.bk (.sq (.rg [(0,[]),(1,[]),(2,[]),(3,[]),(4,[]),(5,[]),(6,[]),(7,[]),(8,[])]) .tt)) .tt))))) .tt)))
def zlz :List Nat:=[2,3]
def zwc :Ann:=(.sq .tt (.sq .tt (.sq (.sq .tt (.bk (.lp [⟨false,5,3⟩] [] (.sq .tt (.sq (.bk (.sq (.rg [(0,[]),(1,[]),(2,[]),(3,[]),(4,[]),(5,[]),(6,[]),(7,[]),(8,[]),(9,[]),(10,[])]) .tt)) .tt))))) (.sq (.sq .tt (.bk (.lp [⟨false,6,3⟩] [] (.sq .tt (.sq (.bk (.sq (.rg [(0,[]),(1,[]),(2,[]),(3,[]),(4,[]),(5,[]),(6,[]),(7,[]),(8,[]),(9,[]),(10,[])]) .tt)) .tt))))) .tt))))
def zlk1 :List Nat:=[]
def zue1 :Ann:=(.sq .tt (.sq .tt (.sq (.sq .tt (.bk (.lp [⟨false,4,3⟩] [] (.sq .tt (.sq (.bk (.bk (.sq (.rg [(0,[]),(1,[]),(2,[]),(3,[]),(4,[]),(5,[]),(6,[]),(7,[]),(8,[]),(9,[]),(10,[])]) (.sq .tt (.sq (.rg [(0,[]),(1,[]),(2,[]),(3,[]),(4,[]),(5,[]),(6,[]),(7,[]),(8,[]),(9,[]),(10,[])]) .tt))))) .tt))))) .tt)))
def zll1 :List Nat:=[]
def zuf1 :Ann:=.tt
def zlm1 :List Nat:=[]
def zug1 :Ann:=(.sq .tt (.sq .tt (.sq .tt (.sq (.rg [(0,[]),(2,[]),(1,[2]),(3,[]),(4,[]),(5,[]),(6,[]),(7,[])]) .tt))))
def zhh1 :List Nat:=[]
def zpu1 :Ann:=.tt
def zhi1 :List Nat:=[]
def zpv1 :Ann:=.tt
def zoj1 :List Nat:=[7]
def zyt1 :Ann:=(.sq .tt (.sq .tt (.sq (.sq .tt (.bk (.lp [⟨false,22,3⟩] [7] .tt))) .tt)))
def zkc :List Nat:=[]
def zso :Ann:=.tt
def zrh :List Nat:=[2,7]
def zej1 :Ann:=(.sq .tt (.sq .tt (.sq (.sq .tt (.bk (.lp [⟨false,5,3⟩,⟨false,12,3⟩] [7] (.sq .tt (.sq .tt (.sq (.bj [⟨false,5,3⟩] [7] .tt) .tt)))))) .tt)))
def zvf :List Nat:=[3]
def zhj1 :Ann:=.tt
def zbv1 :List Nat:=[]
def zln1 :Ann:=.tt
def ziv :List Nat:=[]
def zqp :Ann:=.tt
def zov :List Nat:=[]
def zas1 :Ann:=.tt
def zbw1 :List Nat:=[]
def zlo1 :Ann:=.tt
def ztn :List Nat:=[]
def zfn1 :Ann:=(.sq .tt (.sq (.rg [(0,[]),(1,[]),(2,[]),(3,[]),(4,[]),(5,[]),(6,[]),(7,[]),(8,[]),(9,[]),(10,[]),(11,[]),(12,[]),(13,[]),(14,[]),(15,[]),(16,[]),(17,[]),(18,[]),(19,[]),(20,[]),(21,[]),(22,[]),(23,[]),(24,[]),(25,[])]) .tt))
def zvg :List Nat:=[2]
def zhk1 :Ann:=.tt
def zto :List Nat:=[2,4]
def zfo1 :Ann:=(.sq .tt (.sq (.rg [(0,[]),(1,[]),(2,[]),(3,[]),(4,[]),(5,[]),(6,[]),(7,[]),(8,[]),(9,[]),(10,[]),(11,[]),(12,[]),(13,[]),(14,[]),(15,[])]) .tt))
def zqc :List Nat:=[3,4,7,8]
def zbx1 :Ann:=(.sq .tt (.sq (.rg [(0,[]),(1,[]),(2,[]),(3,[]),(4,[]),(5,[]),(6,[]),(7,[]),(8,[]),(9,[]),(11,[]),(12,[]),(10,[2,4,6]),(13,[]),(14,[])]) (.sq (.rg [(0,[]),(1,[]),(2,[]),(3,[]),(4,[]),(5,[]),(6,[]),(7,[]),(8,[]),(9,[]),(10,[]),(11,[]),(12,[]),(13,[]),(14,[]),(15,[]),(16,[]),(17,[]),(18,[]),(19,[]),(20,[]),(21,[]),(22,[]),(23,[]),(24,[]),(25,[]),(26,[]),(27,[])]) .tt)))
def zri :List Nat:=[]
def zek1 :Ann:=(.sq .tt (.sq .tt (.sq .tt (.sq (.sq .tt (.bk (.lp [⟨false,4,3⟩] [] (.sq .tt (.sq (.bk (.sq (.sq (.rg [(0,[]),(1,[]),(2,[]),(3,[]),(4,[]),(5,[]),(6,[]),(7,[]),(8,[]),(9,[])]) .tt) (.sq (.rg [(0,[]),(1,[]),(2,[]),(3,[]),(4,[]),(5,[]),(6,[]),(7,[]),(8,[]),(9,[])]) .tt))) .tt))))) .tt))))
def znn :List Nat:=[]
def zyn :Ann:=(.sq .tt (.sq .tt (.sq .tt (.sq (.sq .tt (.bk (.lp [⟨false,5,3⟩] [] .tt))) .tt))))
def zno :List Nat:=[]
def zyo :Ann:=.tt
def zrj :List Nat:=[]
def zel1 :Ann:=(.sq .tt (.sq .tt (.sq .tt (.sq (.sq .tt (.bk (.lp [⟨false,6,3⟩] [] .tt))) .tt))))
def znp :List Nat:=[]
def zyp :Ann:=.tt
def zkp :List Nat:=[]
def ztp :Ann:=(.sq .tt (.sq .tt (.sq (.sq .tt (.bk (.lp [⟨false,5,23⟩,⟨false,6,3⟩] [] (.sq .tt (.sq (.bj [⟨false,5,23⟩] [] .tt) .tt))))) .tt)))
def zmw :List Nat:=[]
def zwy :Ann:=.tt
def zkq :List Nat:=[]
def ztq :Ann:=.tt
def zib :List Nat:=[]
def zqd :Ann:=(.sq .tt (.sq (.rg [(0,[]),(1,[]),(2,[]),(3,[]),(4,[]),(5,[]),(6,[]),(7,[]),(8,[]),(9,[]),(10,[]),(11,[]),(12,[]),(13,[]),(14,[]),(15,[]),(16,[]),(17,[])]) .tt))
def ztr :List Nat:=[2,4,6]
def zfp1 :Ann:=(.sq .tt (.sq .tt (.sq .tt (.sq (.rg [(0,[]),(1,[]),(2,[]),(3,[]),(4,[0]),(5,[]),(6,[]),(7,[])]) .tt))))
def ziw :List Nat:=[4,5]
def zqq :Ann:=.tt
def zts :List Nat:=[]
def zfq1 :Ann:=.tt
def zhl1 :List Nat:=[2]
def zpw1 :Ann:=(.sq .tt (.gs 0 (.sq .tt (.sq .tt (.gj 0 [⟨true,2,26⟩] [2] (.sq .tt (.sq .tt (.sq .tt (.sq .tt (.sq .tt (.sq .tt (.sq .tt (.sq .tt (.sq .tt (.sq .tt (.sq .tt (.sq (.sq .tt (.bk (.lp [⟨false,6,3⟩] [] .tt))) (.sq .tt .tt))))))))))))) (.sq (.sq .tt (.sq (.sq (.rg [(0,[]),(1,[]),(2,[]),(3,[]),(4,[]),(5,[]),(6,[]),(7,[]),(8,[]),(9,[4,8]),(10,[]),(11,[])]) .tt) .tt)) .tt))))))
def zvh :List Nat:=[]
def zhm1 :Ann:=.tt
def zvi :List Nat:=[2,3]
def zhn1 :Ann:=(.sq .tt (.sq .tt (.sq (.sq (.rg [(0,[]),(1,[]),(2,[]),(3,[]),(4,[]),(5,[]),(6,[]),(7,[]),(9,[]),(8,[])]) (.bk (.lp [⟨false,13,3⟩,⟨true,3,68⟩] [3] (.sq .tt (.sq .tt (.sq (.bk (.rg [(0,[]),(1,[]),(2,[]),(3,[]),(4,[]),(5,[1]),(6,[1]),(7,[]),(8,[]),(9,[])])) .tt)))))) (.sq (.sq (.rg [(0,[]),(1,[]),(2,[]),(3,[]),(4,[]),(5,[]),(6,[]),(7,[]),(8,[]),(10,[]),(9,[])]) (.bk (.lp [⟨false,35,3⟩,⟨true,3,68⟩] [3] (.sq .tt (.sq .tt (.sq (.bk (.rg [(0,[]),(1,[]),(2,[]),(3,[]),(4,[]),(6,[]),(7,[]),(8,[]),(5,[1]),(9,[1]),(10,[]),(11,[1]),(12,[]),(13,[]),(14,[])])) .tt)))))) (.sq (.rg [(0,[]),(1,[]),(2,[]),(4,[]),(5,[]),(6,[]),(3,[]),(8,[]),(7,[]),(9,[]),(10,[]),(11,[])]) .tt)))))
def zic :List Nat:=[2,3]
def zqe :Ann:=(.sq .tt (.sq .tt (.sq .tt (.sq .tt (.sq (.sq .tt (.bk (.lp [⟨false,5,3⟩,⟨true,3,26⟩] [3] (.sq .tt (.sq (.bk (.sq .tt (.sq .tt (.jn [] [] .tt (.jn [] [] .tt .tt))))) .tt))))) (.sq .tt (.sq (.sq .tt (.bk (.lp [⟨false,9,3⟩,⟨true,3,26⟩] [3] (.sq .tt (.sq (.bk (.rg [(0,[]),(1,[]),(2,[]),(3,[]),(4,[]),(5,[1]),(6,[1]),(7,[]),(8,[]),(9,[])])) .tt))))) (.sq .tt (.sq .tt (.sq .tt (.sq .tt (.sq .tt (.sq (.sq .tt (.bk (.lp [⟨false,11,3⟩,⟨true,3,26⟩] [3] (.sq .tt (.sq (.bk (.sq .tt (.sq .tt (.rg [(0,[]),(1,[]),(2,[]),(3,[]),(4,[]),(5,[]),(6,[]),(7,[1]),(8,[]),(9,[1]),(10,[]),(11,[]),(12,[])])))) .tt))))) .tt)))))))))))))
def zlf :List Nat:=[]
def zug :Ann:=(.sq .tt (.sq (.sq .tt (.bk (.lp [⟨false,8,3⟩] [] .tt))) .tt))
def zho1 :List Nat:=[]
def zpx1 :Ann:=.tt
def zow :List Nat:=[]
def zat1 :Ann:=.tt
def zjx1 :List Nat:=[3]
def zru1 :Ann:=.tt
def zaj1 :List Nat:=[]
def zkl1 :Ann:=.tt
def zhp1 :List Nat:=[]
def zpy1 :Ann:=.tt
def zox :List Nat:=[3]
def zau1 :Ann:=.tt
def zid :List Nat:=[]
def zqf :Ann:=.tt
def zoy :List Nat:=[]
def zav1 :Ann:=(.sq .tt (.sq (.sq .tt (.bk (.lp [⟨false,5,3⟩] [] .tt))) .tt))
def zvj :List Nat:=[]
def zhq1 :Ann:=.tt
def zrk :List Nat:=[]
def zem1 :Ann:=(.sq .tt (.bk (.lp [⟨false,3,3⟩] [] .tt)))
def zwz :List Nat:=[]
def zjg1 :Ann:=.tt
def zrl :List Nat:=[]
def zen1 :Ann:=(.sq .tt (.sq .tt (.bk (.lp [⟨false,4,3⟩] [] (.sq .tt (.sq (.bk (.sq .tt (.rg [(0,[]),(1,[]),(2,[]),(3,[]),(4,[]),(5,[]),(6,[0,1,4]),(7,[0]),(8,[]),(9,[]),(10,[])]))) .tt))))))
def ztt :List Nat:=[]
def zfr1 :Ann:=(.sq .tt (.bk (.lp [⟨false,4,3⟩] [] (.sq .tt (.sq (.bk (.rg [(0,[]),(1,[]),(2,[]),(3,[]),(4,[]),(5,[]),(6,[]),(7,[4]),(8,[4]),(9,[]),(10,[]),(11,[]),(12,[])])) .tt)))))
def zrm :List Nat:=[]
def zeo1 :Ann:=.tt
def zqg :List Nat:=[]
def zby1 :Ann:=.tt
def zvk :List Nat:=[4]
def zhr1 :Ann:=(.sq .tt (.sq .tt (.sq (.sq .tt (.bk (.lp [⟨false,6,3⟩,⟨true,4,49⟩] [4] (.sq .tt (.sq (.bk (.rg [(0,[]),(1,[]),(2,[]),(3,[]),(4,[]),(5,[]),(6,[]),(7,[]),(8,[1]),(9,[1]),(10,[]),(11,[]),(12,[])])) .tt))))) (.rg [(0,[]),(1,[]),(2,[]),(3,[]),(4,[]),(5,[]),(6,[4]),(7,[]),(8,[]),(9,[]),(10,[])]))))
def zkd :List Nat:=[9]
def zsp :Ann:=(.sq .tt (.sq .tt (.sq (.sq .tt (.bk (.lp [⟨false,7,47⟩,⟨false,8,3⟩] [9] (.sq .tt (.sq (.bk (.sq (.sq (.rg [(0,[]),(1,[]),(2,[]),(3,[]),(4,[]),(5,[]),(6,[]),(7,[]),(8,[]),(9,[]),(10,[])]) .tt) (.sq (.rg [(0,[]),(1,[]),(2,[]),(3,[]),(4,[]),(5,[]),(6,[]),(7,[]),(8,[]),(10,[]),(9,[]),(11,[])]) .tt))) .tt))))) .tt)))
def zjy1 :List Nat:=[3]
def zrv1 :Ann:=.tt
def zoz :List Nat:=[3]
def zaw1 :Ann:=.tt
def zrn :List Nat:=[]
def zep1 :Ann:=.tt
def zro :List Nat:=[]
def zeq1 :Ann:=(.sq .tt (.sq .tt (.sq (.sq (.rg [(0,[]),(1,[]),(2,[]),(3,[]),(4,[]),(5,[]),(6,[]),(7,[]),(8,[]),(9,[]),(10,[]),(11,[])]) .tt) (.sq .tt (.sq (.sq (.rg [(0,[]),(1,[]),(2,[]),(3,[]),(4,[]),(5,[]),(6,[]),(7,[]),(8,[]),(9,[]),(10,[]),(11,[]),(12,[]),(13,[]),(14,[]),(15,[]),(16,[])]) (.bk (.lp [⟨false,7,80⟩,⟨false,47,3⟩] [] .tt))) (.sq (.rg [(0,[]),(1,[]),(2,[]),(4,[]),(5,[]),(6,[]),(7,[]),(3,[7]),(8,[])]) .tt))))))
def zpa :List Nat:=[]
def zax1 :Ann:=.tt
def zpb :List Nat:=[]
def zay1 :Ann:=.tt
def znq :List Nat:=[]
def zyq :Ann:=.tt
def zxa :List Nat:=[]
def zjh1 :Ann:=.tt
def zpc :List Nat:=[]
def zaz1 :Ann:=.tt
def znr :List Nat:=[]
def zyr :Ann:=.tt
def zrp :List Nat:=[]
def zer1 :Ann:=.tt
def zxb :List Nat:=[6,9]
def zji1 :Ann:=.tt
def zrq :List Nat:=[2]
def zes1 :Ann:=(.sq .tt (.sq .tt (.sq (.sq .tt (.bk (.lp [⟨false,3,80⟩,⟨false,4,3⟩] [] .tt))) (.sq (.rg [(0,[]),(1,[]),(2,[]),(3,[]),(4,[]),(5,[]),(6,[]),(7,[]),(8,[]),(9,[]),(10,[]),(11,[]),(12,[]),(13,[]),(14,[]),(15,[]),(16,[]),(17,[]),(18,[]),(19,[])]) .tt))))
def zhs1 :List Nat:=[]
def zpz1 :Ann:=.tt
def zbz1 :List Nat:=[]
def zlp1 :Ann:=.tt
def zht1 :List Nat:=[4]
def zqa1 :Ann:=.tt
def zns :List Nat:=[]
def zys :Ann:=(.sq .tt (.sq (.sq .tt (.bk (.sq .tt (.sq .tt (.jn [⟨false,9,4⟩] [] .tt (.sq .tt (.jn [⟨false,15,4⟩] [] .tt (.sq .tt (.jn [⟨false,28,4⟩] [] .tt (.sq .tt (.jn [⟨false,35,4⟩] [] .tt (.sq .tt (.sq .tt (.sq .tt (.jn [⟨false,41,4⟩] [] .tt .tt))))))))))))))) .tt))
def zma :List Nat:=[]
def zwd :Ann:=.tt
def zmb :List Nat:=[]
def zwe :Ann:=.tt
def ztu :List Nat:=[]
def zfs1 :Ann:=.tt
def ztv :List Nat:=[]
def zft1 :Ann:=.tt
def zhu1 :List Nat:=[2,10]
def zqb1 :Ann:=(.sq .tt (.sq .tt (.sq .tt (.sq (.sq .tt (.bk (.lp [⟨false,35,3⟩] [10] .tt))) .tt))))
def zhv1 :List Nat:=[]
def zqc1 :Ann:=.tt
def zca1 :List Nat:=[]
def zlq1 :Ann:=.tt
end Lf

namespace Lf
open Go
structure Tb.Ok (P:Program) (tb:Tb):Prop where
  und:∀t e,tb.ty t=some e→P.underlying t=some e.und
  info:∀t e,tb.ty t=some e→∃i,P.info? t=some i∧i.size=e.size∧i.bytes=e.bytes∧i.zero=some e.zero
  agg:∀t e,tb.ty t=some e→zlc e.und=true→∀x,∃cs,e.sh.enc x=.agg cs∧cs.size=e.size
  leaf:∀t e,tb.ty t=some e→zlc e.und=false→e.size=1∧∀x,(zae (e.sh.enc x)).length=1∧∀cs,e.sh.enc x≠ .agg cs
  zlen:∀t e,tb.ty t=some e→(zae e.zero).length=e.size
  zero8:∀t e,tb.ty t=some e→e.und=.int .u8→zae e.zero=[.int .u8 0]
  zagg:∀t e,tb.ty t=some e→zlc e.und=true→∃cs,e.zero=.agg cs
  call:∀g,tb.call g=true→∀args w,(callFunc g args).run P w=.ok (.enter g args) w
  ext:∀g f,tb.ext g=some f→∀args w,(callFunc g args).run P w=((f args).run P w).andThen fun v w'=>.ok (.value v) w'
  mixed:P.follows .mixedOrders=true
theorem zqd1 :∀ {c d:Chain},chEq c d=true→c=d
  | [],[],_=>rfl
  | [],_::_,h=>by simp [chEq] at h
  | (t,w)::c,[],h=>by simp [chEq] at h
  | (t,w)::c,(u,x)::d,h=>by
    simp only [chEq] at h
    cases h1:Nat.beq t u with
    | false=>simp [h1] at h
    | true=>
      cases h2:zgh2 w x with
      | false=>simp [h1,h2] at h
      | true=>
        simp only [h1,h2,cond_true] at h
        have e1:t=u:=Nat.eq_of_beq_eq_true h1
        have e2:w=x:=by cases w<;>cases x<;>first | rfl | cases h2
        rw [e1,e2,zqd1 h]
theorem zwt1 :∀ {c ch:Chain},sufx c ch=true→∀p∈c,p∈ch
  | c,[],h=>by
    cases c with
    | nil=>intro p hp;cases hp
    | cons a r=>simp [sufx] at h
  | c,q::d,h=>by
    cases c with
    | nil=>intro p hp;cases hp
    | cons a r=>
      simp only [sufx] at h
      cases h1:chEq (a::r) (q::d) with
      | true=>intro p hp;rw [←zqd1 h1];exact hp
      | false=>
        simp only [h1,cond_false] at h
        intro p hp
        exact List.mem_cons_of_mem _ (zwt1 h p hp)
def hb (s:St) (t:Nat):Option Bool:=match s.f t with
  | some (.v (.bool b),_)=>some b
  | _=>none
def holds (s:St) (ch:Chain):Prop:=∀p∈ch,hb s p.1=some p.2
theorem zbj (s:St):holds s []:=fun _ h=>by cases h
theorem zdr1 {s:St} {c ch:Chain} (hs:sufx c ch=true) (h:holds s ch):holds s c:=fun p hp=>h p (zwt1 hs p hp)
theorem zwu1 {s:St} (t:Nat) (w:Bool) (r:Chain):∃b,cnd s ((t,w)::r)=some b∧(holds s ((t,w)::r)→b=true):=by
  induction r generalizing t w with
  | nil=>
    simp only [cnd]
    split
    · rename_i b c hf
      refine ⟨_,rfl,fun h=> ?_⟩
      have:=h (t,w) (List.mem_cons_self ..)
      simp only [hb,hf] at this
      injection this with this
      subst this
      cases b<;>rfl
    · refine ⟨false,rfl,fun h=> ?_⟩
      have:=h (t,w) (List.mem_cons_self ..)
      unfold hb at this
      split at this
      · rename_i hn _ b c hf;exact absurd hf (hn b c)
      · cases this
  | cons p r ih=>
    obtain ⟨t',w'⟩:=p
    obtain ⟨b',hb',hh'⟩:=ih t' w'
    simp only [cnd]
    split
    · rename_i b c hf
      rw [hb']
      refine ⟨_,rfl,fun h=> ?_⟩
      have h1:=h (t,w) (List.mem_cons_self ..)
      simp only [hb,hf] at h1
      injection h1 with h1
      have h2:b'=true:=hh' fun q hq=>h q (List.mem_cons_of_mem _ hq)
      subst h1;subst h2
      cases b<;>rfl
    · refine ⟨false,rfl,fun h=> ?_⟩
      have:=h (t,w) (List.mem_cons_self ..)
      unfold hb at this
      split at this
      · rename_i hn _ b c hf;exact absurd hf (hn b c)
      · cases this
theorem zgd {s:St} {ch:Chain} {p:Prop} (h:Req (cnd s ch) p) (hh:holds s ch):p:=by
  cases ch with
  | nil=>exact h
  | cons q r=>
    obtain ⟨t,w⟩:=q
    obtain ⟨b,hb,hi⟩:=zwu1 (s:=s) t w r
    rw [hb] at h
    exact h (hi hh)
def LVal (β:Nat→Nat):LV→Value
  | .v x=>x
  | .box k o=>.pointer (some ⟨β k,o,none⟩)
  | .boxd k o=>.pointer (some ⟨β k,o,none⟩)
def Opnd (β:Nat→Nat) (s:St) (ρ:Operand→Value):Operand→Prop
  | .tmp t=>∀l c,s.f t=some (l,c)→holds s c→ρ (.tmp t)=LVal β l
  | .const v=>ρ (.const v)=v
  | .global g=>ρ (.global g)=.pointer (some ⟨g,0,none⟩)
  | .func f=>ρ (.func f)=.func (.func f) #[] #[]
theorem ev_ok {β:Nat→Nat} {s:St} {ρ:Operand→Value} {x:Operand} {ch:Chain} {l:LV} (ho:Opnd β s ρ x) (hh:holds s ch) (he:ev s ch x=some l):ρ x=LVal β l:=by
  cases x with
  | tmp t=>
    simp only [ev] at he
    split at he
    · rename_i l' c hf
      cases hs:sufx c ch with
      | false=>simp [hs] at he
      | true=>
        simp only [hs,cond_true] at he
        cases he
        exact ho l c hf (zdr1 hs hh)
    · cases he
  | const v=>cases he;exact ho
  | global g=>cases he;exact ho
  | func f=>cases he;exact ho
theorem zef2 {l:Option LV} {K:LV→Prop} (h:onL l K):∃x,l=some x∧K x:=by
  cases l with
  | none=>exact h.elim
  | some x=>exact ⟨x,rfl,h⟩
theorem zbf {l:Option LV} {K:Value→Prop} (h:onV l K):∃x,l=some (.v x)∧K x:=by
  cases l with
  | none=>exact h.elim
  | some x=>cases x<;>first | exact ⟨_,rfl,h⟩ | exact h.elim
theorem zxc {l:Option (List Value)} {K:List Value→Prop} (h:onVs l K):∃x,l=some x∧K x:=by
  cases l with
  | none=>exact h.elim
  | some x=>exact ⟨x,rfl,h⟩
def BoxU (β:Nat→Nat) (s:St) (o:Oper) (w:World):Prop:=
  ∀t,Operand.tmp t∈o.op.operands→∀k off c,(s.f t=some (.box k off,c)∨s.f t=some (.boxd k off,c))→holds s c→∀cs,s.m k=some cs→∃ct,w.heap[β k]?=some (.cells cs.toArray ct (0,0))
theorem zlr1 {s:St} {ch:Chain} {x:Operand} {l:LV} (he:ev s ch x=some l) (hl:∀v,l≠ .v v) (hh:holds s ch):∃t c,x=.tmp t∧s.f t=some (l,c)∧holds s c:=by
  cases x with
  | tmp t=>
    simp only [ev] at he
    split at he
    · rename_i l' c hf
      cases hs:sufx c ch with
      | false=>simp [hs] at he
      | true=>
        simp only [hs,cond_true] at he
        cases he
        exact ⟨t,c,rfl,hf,zdr1 hs hh⟩
    · cases he
  | const v=>cases he;exact absurd rfl (hl _)
  | global g=>cases he;exact absurd rfl (hl _)
  | func f=>cases he;exact absurd rfl (hl _)
theorem BoxU.box {β:Nat→Nat} {s:St} {o:Oper} {w:World} (hb:BoxU β s o w) {ch:Chain} {x:Operand} {k off:Nat} (hx:x∈o.op.operands) (he:ev s ch x=some (.box k off)) (hh:holds s ch)
    {cs:List Value} (hm:s.m k=some cs):∃ct,w.heap[β k]?=some (.cells cs.toArray ct (0,0)):=by
  obtain ⟨t,c,rfl,hf,hc⟩:=zlr1 he (by simp) hh
  exact hb t hx k off c (.inl hf) hc cs hm
theorem BoxU.boxd {β:Nat→Nat} {s:St} {o:Oper} {w:World} (hb:BoxU β s o w) {ch:Chain} {x:Operand} {k off:Nat} (hx:x∈o.op.operands) (he:ev s ch x=some (.boxd k off)) (hh:holds s ch)
    {cs:List Value} (hm:s.m k=some cs):∃ct,w.heap[β k]?=some (.cells cs.toArray ct (0,0)):=by
  obtain ⟨t,c,rfl,hf,hc⟩:=zlr1 he (by simp) hh
  exact hb t hx k off c (.inr hf) hc cs hm
def RunsK (kd:Kd) (P:Program) (o:Oper) (s:St) (h:Hp) (l:LV):Prop:=
  ∀(β:Nat→Nat) (ρ:Operand→Value) (w:World),(∀x∈o.op.operands,Opnd β s ρ x)→(kd=.mem→Sub h w)→(kd≠ .pure→BoxU β s o w)→
    ∃w',(execOp ρ o).run P w=.ok (.value (LVal β l)) w'∧(kd≠ .mem→w'=w)∧(kd=.mem→Step h h w w')
theorem zht {α:Type _}:∀(l:List α) (i:Nat),nth l i=l[i]?
  | [],_=>by simp [nth]
  | a::l,0=>by simp [nth]
  | a::l,n+1=>by simp [nth,zht l n]
theorem zwv1 {α:Type _}:∀(l:List α) (i:Nat),dropL l i=l.drop i
  | l,0=>by simp [dropL]
  | [],n+1=>by simp [dropL]
  | a::l,n+1=>by simp [dropL,zwv1 l n]
theorem zww1 {α:Type _}:∀(l:List α) (i:Nat),takeL l i=l.take i
  | l,0=>by simp [takeL]
  | [],n+1=>by simp [takeL]
  | a::l,n+1=>by simp [takeL,zww1 l n]
theorem zok1 {α:Type _}:∀(l r:List α),app l r=l++r
  | [],r=>rfl
  | a::l,r=>by simp [app,zok1 l r]
theorem znt :∀(l:List Nat) (i:Nat),has l i=true↔i∈l
  | [],i=>by simp [has]
  | a::l,i=>by
    simp only [has]
    cases h:Nat.beq i a with
    | true=>simp [Nat.eq_of_beq_eq_true h]
    | false=>
      have:i≠a:=fun e=>by rw [e] at h;simp at h
      simp [znt l i,this]
theorem ztw {l:List Nat} {i:Nat} (h:has l i=false):i∉l:=fun hm=>by rw [(znt l i).2 hm] at h;cases h
section
variable {P:Program} {tb:Tb}
theorem run_underlying' (ok:tb.Ok P) {t:Nat} {e:Ty} (h:tb.ty t=some e) (w:World):(underlying t).run P w=.ok e.und w:=by
  simp [underlying,ok.und t e h]
theorem run_typeInfo' (ok:tb.Ok P) {t:Nat} {e:Ty} (h:tb.ty t=some e) (w:World):
    ∃i,(typeInfo t).run P w=.ok i w∧i.size=e.size∧i.bytes=e.bytes∧i.zero=some e.zero:=by
  obtain ⟨i,hi,h1,h2,h3⟩:=ok.info t e h
  exact ⟨i,by simp [typeInfo,hi],h1,h2,h3⟩
theorem run_sizeOf' (ok:tb.Ok P) {t:Nat} {e:Ty} (h:tb.ty t=some e) (w:World):(Go.sizeOf t).run P w=.ok e.size w:=by
  obtain ⟨i,hi,h1,h2,h3⟩:=run_typeInfo' ok h w
  simp only [Go.sizeOf,Sem.run_bind,hi,Result.andThen_ok,Sem.run_pure,h1]
theorem run_zeroValue' (ok:tb.Ok P) {t:Nat} {e:Ty} (h:tb.ty t=some e) (w:World):(zeroValue t).run P w=.ok e.zero w:=by
  obtain ⟨i,hi,h1,h2,h3⟩:=run_typeInfo' ok h w
  simp only [zeroValue,Sem.run_bind,hi,Result.andThen_ok,h3,Sem.run_pure]
theorem run_isAgg' (ok:tb.Ok P) {t:Nat} {e:Ty} (h:tb.ty t=some e) (w:World):(isAgg t).run P w=.ok (zlc e.und) w:=by
  simp only [isAgg,Sem.run_bind,run_underlying' ok h,Result.andThen_ok]
  cases e.und<;>rfl
theorem zbm (v:Value):v.cells.toList=zae v:=by cases v<;>rfl
theorem zxd {w:World} {a:Addr}:∀(n i:Nat) (acc:Array Value) (cs:List Value),cs.length=n→
    (∀j v,cs[j]?=some v→w.cell? (a.add (i+j))=some v)→(loadCellsFrom a i n acc).run P w=.ok (acc++cs.toArray) w
  | 0,i,acc,cs,hl,_=>by
    have:cs=[]:=List.length_eq_zero_iff.1 hl
    subst this;simp [loadCellsFrom]
  | n+1,i,acc,[],hl,_=>by simp at hl
  | n+1,i,acc,c::cs,hl,hc=>by
    have h0:w.cell? (a.add i)=some c:=by simpa using hc 0 c (by simp)
    have ih:=zxd n (i+1) (acc.push c) cs (by simpa using hl) (fun j v hj=>by
      have:=hc (j+1) v (by simpa using hj)
      rwa [show i+1+j=i+(j+1) from by omega])
    simp only [loadCellsFrom,Sem.run_bind,run_load,h0,Result.andThen_ok,ih]
    congr 1
    simp
theorem zyt {w:World} {a:Addr} {cs:List Value} (hc:∀j v,cs[j]?=some v→w.cell? (a.add j)=some v):(loadCells a cs.length).run P w=.ok cs.toArray w:=by
  unfold loadCells
  rw [zxd cs.length 0 #[] cs rfl (by simpa using hc)]
  simp
theorem zyu (ok:tb.Ok P) {t:Nat} {e:Ty} (h:tb.ty t=some e) {w:World} {a:Addr} {x:e.sh.T}
    (hc:∀j v,(zae (e.sh.enc x))[j]?=some v→w.cell? (a.add j)=some v):(loadVar t a).run P w=.ok (e.sh.enc x) w:=by
  simp only [loadVar,Sem.run_bind,run_isAgg' ok h,Result.andThen_ok]
  cases ha:zlc e.und with
  | true=>
    obtain ⟨cs,he,hs⟩:=ok.agg t e h ha x
    simp only [if_true,Sem.run_bind,run_sizeOf' ok h,Result.andThen_ok]
    have hl:cs.toList.length=e.size:=by simpa using hs
    have hc':∀j v,cs.toList[j]?=some v→w.cell? (a.add j)=some v:=by simpa [he,zae] using hc
    rw [←hl,zyt hc']
    simp [he]
  | false=>
    obtain ⟨h1,h2⟩:=ok.leaf t e h ha
    have hne:=(h2 x).2
    have hcl:zae (e.sh.enc x)=[e.sh.enc x]:=by
      generalize e.sh.enc x=v at hne
      cases v<;>first | rfl | exact absurd rfl (hne _)
    have:=hc 0 (e.sh.enc x) (by simp [hcl])
    have h0:a.add 0=a:=by simp [Addr.add]
    rw [h0] at this
    simp [this]
theorem zcb1 (a:Addr) (i j:Nat):(a.add i).add j=a.add (i+j):=by
  unfold Addr.add
  by_cases hi:i=0
  · simp [hi]
  · by_cases hj:j=0
    · simp [hj]
    · simp [hi,hj,Nat.add_assoc]
theorem zec (b o i:Nat):(⟨b,o,none⟩:Addr).add i=⟨b,o+i,none⟩:=by
  unfold Addr.add
  by_cases h:i=0
  · simp [h]
  · simp [h]
theorem zqe1 {w:World} {b t:Nat} {cs:List Value} (hb:w.heap[b]?=some (.cells cs.toArray t (0,0))) (i:Nat):w.cell? ⟨b,i,none⟩=cs[i]?:=by
  unfold World.cell?
  simp [hb]
end
end Lf

namespace Lf
open Go
section
variable {P:Program} {tb:Tb}
def Prov (o:Oper) (ch:Chain) (s:St) (l:LV):Prop:=
  ∀k off,(l=.box k off∨l=.boxd k off)→∃x∈o.op.operands,∃off',ev s ch x=some (.box k off')∨ev s ch x=some (.boxd k off')
theorem zrw1 (o:Oper) (ch:Chain) (s:St) (v:Value):Prov o ch s (.v v):=fun _ _ e=>by rcases e with e | e<;>cases e
theorem zuh1 {o:Oper} {ch:Chain} {s:St} {l:LV} {x:Operand} (hx:x∈o.op.operands) (he:ev s ch x=some l):Prov o ch s l:=fun k off e=>
  ⟨x,hx,off,by rcases e with e | e<;>simp [he,e]⟩
theorem zwx1 {o:Oper} {ch:Chain} {s:St} {l:LV} {x:Operand} {k off:Nat} (hx:x∈o.op.operands) (he:ev s ch x=some (.box k off))
    (hl:∀k' off',(l=.box k' off'∨l=.boxd k' off')→k'=k):Prov o ch s l:=fun k' off' e=>⟨x,hx,off,.inl (by rw [hl k' off' e];exact he)⟩
theorem zao2 {o:Oper} {ch:Chain} {s:St} {l:LV} {x:Operand} {k off:Nat} (hx:x∈o.op.operands) (he:ev s ch x=some (.boxd k off))
    (hl:∀k' off',(l=.box k' off'∨l=.boxd k' off')→k'=k):Prov o ch s l:=fun k' off' e=>⟨x,hx,off,.inr (by rw [hl k' off' e];exact he)⟩
def ValOk (P:Program) (tb:Tb) (o:Oper) (ch:Chain) (s:St) (h:Hp) (K:LV→Prop):Prop:=
  ∃l,K l∧(holds s ch→RunsK (kindD tb o ch s) P o s h l)∧Prov o ch s l
theorem zat {o:Oper} {ch:Chain} {s:St} {h:Hp} {K:LV→Prop} (l:LV) (hk:K l)
    (hr:holds s ch→∀(β:Nat→Nat) (ρ:Operand→Value) (w:World),(∀x∈o.op.operands,Opnd β s ρ x)→
      (execOp ρ o).run P w=.ok (.value (LVal β l)) w)
    (hp:Prov o ch s l:=by exact zrw1 _ _ _ _):ValOk P tb o ch s h K:=
  ⟨l,hk,fun hh β ρ w ho hs hb=>⟨w,hr hh β ρ w ho,fun _=>rfl,fun e=>.refl (hs e)⟩,hp⟩
theorem zrx1 {o:Oper} {ch:Chain} {s:St} {h:Hp} {K:LV→Prop} (hkd:kindD tb o ch s=.box) (l:LV) (hk:K l)
    (hr:holds s ch→∀(β:Nat→Nat) (ρ:Operand→Value) (w:World),(∀x∈o.op.operands,Opnd β s ρ x)→BoxU β s o w→
      (execOp ρ o).run P w=.ok (.value (LVal β l)) w)
    (hp:Prov o ch s l:=by exact zrw1 _ _ _ _):ValOk P tb o ch s h K:=
  ⟨l,hk,fun hh β ρ w ho hs hb=>⟨w,hr hh β ρ w ho (hb (by rw [hkd];simp)),fun _=>rfl,fun e=>.refl (hs e)⟩,hp⟩
theorem zls1 {o:Oper} {ch:Chain} {s:St} {h:Hp} {K:LV→Prop} (hkd:kindD tb o ch s=.mem) (l:LV) (hk:K l)
    (hr:holds s ch→∀(β:Nat→Nat) (ρ:Operand→Value) (w:World),(∀x∈o.op.operands,Opnd β s ρ x)→Sub h w→
      (execOp ρ o).run P w=.ok (.value (LVal β l)) w)
    (hp:Prov o ch s l:=by exact zrw1 _ _ _ _):ValOk P tb o ch s h K:=
  ⟨l,hk,fun hh β ρ w ho hs hb=>⟨w,hr hh β ρ w ho (hs hkd),fun _=>rfl,fun e=>.refl (hs e)⟩,hp⟩
theorem zlt1 {s:Sem Value} {h:Hp} {v:Value} (hi:SemIs P s h v) {w:World} (hs:Sub h w):∃w',s.run P w=.ok v w'∧Step h h w w':=hi w hs
theorem zfu1 {o:Oper} {ch:Chain} {s:St} {h:Hp} {K:LV→Prop} {t:Nat} {sem:Sem Value} (hkd:kindD tb o ch s=.mem) (hg:genV (cnd s ch) P tb t sem h K)
    (hx:holds s ch→∀(β:Nat→Nat) (ρ:Operand→Value),(∀x∈o.op.operands,Opnd β s ρ x)→∀(w w':World) (v:Value),sem.run P w=.ok v w'→(execOp ρ o).run P w=.ok (.value v) w'):
    ValOk P tb o ch s h K:=by
  unfold genV at hg
  split at hg
  · rename_i e he
    obtain ⟨x,hx1,hk⟩:=hg
    refine ⟨_,hk,fun hh β ρ w ho hs hb=> ?_,zrw1 _ _ _ _⟩
    obtain ⟨w',hr,hst⟩:=zlt1 (zgd hx1 hh) (hs hkd)
    exact ⟨w',hx hh β ρ ho w w' _ hr,fun e=>absurd hkd e,fun _=>hst⟩
  · exact hg.elim
theorem zwy1 {o:Oper} {ch:Chain} {s:St} {h:Hp} {K:LV→Prop} {x:Operand} (hop:o.op=.move x∨o.op=.assign x) (hv:onL (ev s ch x) K):ValOk P tb o ch s h K:=by
  obtain ⟨l,he,hk⟩:=zef2 hv
  refine zat l hk (fun hh β ρ w ho=> ?_) (zuh1 (by rcases hop with h | h<;>simp [h,Op.operands]) he)
  have hx:ρ x=LVal β l:=ev_ok (ho x (by rcases hop with h | h<;>simp [h,Op.operands])) hh he
  rcases hop with h | h<;>simp [execOp,h,hx]
theorem zfc1 {t:Nat} {w:World} {a b:Bool} (hu:(underlying t).run P w=.ok .bool w):(Op.equal t (.bool a) (.bool b)).run P w=.ok (a==b) w:=by
  have key:∀d,(Op.equalIn (d+1) t (.bool a) (.bool b)).run P w=.ok (a==b) w:=by
    intro d
    unfold Op.equalIn
    simp only [Sem.run_bind,hu,Result.andThen_ok,Sem.run_pure]
  exact key 9999
theorem zhw1 {t elem:Nat} {w:World} {p:Option Addr} (hu:(underlying t).run P w=.ok (.pointer elem) w):(Op.equal t (.pointer p) (.pointer none)).run P w=.ok p.isNone w:=by
  have key:∀d,(Op.equalIn (d+1) t (.pointer p) (.pointer none)).run P w=.ok p.isNone w:=by
    intro d
    unfold Op.equalIn
    simp only [Sem.run_bind,hu,Result.andThen_ok]
    cases p<;>simp only [Sem.run_pure]<;>rfl
  exact key 9999
set_option maxHeartbeats 800000 in
theorem zwz1 (ok:tb.Ok P) {o:Oper} {ch:Chain} {s:St} {h:Hp} {K:LV→Prop} {op:BinOp} {t yt:Nat} {x y:Operand} (hop:o.op=.binOp op t x y yt)
    (hv:onV (ev s ch x) fun a=>onV (ev s ch y) fun b=>binW0 (cnd s ch) P tb op t x y o.type a b h K):ValOk P tb o ch s h K:=by
  obtain ⟨a,hea,hv'⟩:=zbf hv
  clear hv
  obtain ⟨b,heb,hv⟩:=zbf hv'
  clear hv'
  have hρ:holds s ch→∀(β:Nat→Nat) (ρ:Operand→Value),(∀x∈o.op.operands,Opnd β s ρ x)→ρ x=a∧ρ y=b:=fun hh β ρ ho=>
    ⟨ev_ok (ho x (by simp [hop,Op.operands])) hh hea,ev_ok (ho y (by simp [hop,Op.operands])) hh heb⟩
  have hex:holds s ch→∀(β:Nat→Nat) (ρ:Operand→Value),(∀x∈o.op.operands,Opnd β s ρ x)→∀(w w':World) (v:Value),(binS op t x y a b).run P w=.ok v w'→
      (execOp ρ o).run P w=.ok (.value v) w':=by
    intro hh β ρ ho w w' v hr
    obtain ⟨ha,hb⟩:=hρ hh β ρ ho
    simp only [execOp,hop,ha,hb]
    change (binS op t x y a b>>=fun x=>pure (Next.value x)).run P w=_
    rw [Sem.run_bind,hr]
    rfl
  have gen:∀v:Value,K (.v v)→(holds s ch→∀w,(binS op t x y a b).run P w=.ok v w)→ValOk P tb o ch s h K:=fun v hk hr=>
    zat (.v v) hk fun hh β ρ w ho=>hex hh β ρ ho w w v (hr hh w)
  unfold binW0 at hv
  split at hv
  · -- numbers
    rename_i k m k' n
    have hgd:∀w:World,(eqGuard op t x y (.int k m) (.int k' n)).run P w=.ok () w:=fun w=>by unfold eqGuard;split<;>rfl
    split at hv
    · refine gen _ hv.2 fun hh w=> ?_
      have h0:=zgd hv.1 hh
      simp only [binS,Sem.run_bind,hgd,Result.andThen_ok]
      simp [binOp,Op.shift,shlI,Int.not_lt.2 h0]
    · refine gen _ hv.2 fun hh w=> ?_
      have h0:=zgd hv.1 hh
      simp only [binS,Sem.run_bind,hgd,Result.andThen_ok]
      simp [binOp,Op.shift,shrI,Int.not_lt.2 h0]
    · cases hk:kEq k k' with
      | false=>simp [hk] at hv
      | true=>
        have hkk:=zgg2 hk
        subst hkk
        simp only [hk,cond_true] at hv
        cases op<;>simp only [intW] at hv<;>
          first
          | exact hv.elim
          | exact gen _ hv fun _ w=>by simp only [binS,Sem.run_bind,hgd,Result.andThen_ok];simp [binOp,Op.intArith,Op.intCmp,Op.intBits,bitsI]
          | exact gen _ hv.2 fun hh w=>by
              have h0:=zgd hv.1 hh
              simp only [binS,Sem.run_bind,hgd,Result.andThen_ok]
              simp [binOp,Op.intDiv,h0]
  · -- truths
    rename_i m n
    split at hv
    · rename_i e he
      have hgd:∀w:World,(eqGuard op t x y (.bool m) (.bool n)).run P w=.ok () w:=fun w=>by unfold eqGuard;split<;>rfl
      have hu:=fun w=>run_underlying' ok he w
      split at hv
      · rename_i heu
        refine gen _ hv fun _ w=> ?_
        simp only [binS,Sem.run_bind,hgd,Result.andThen_ok,binOp,zfc1 (heu▸hu w),Sem.run_pure]
      · rename_i heu
        refine gen _ hv fun _ w=> ?_
        simp only [binS,Sem.run_bind,hgd,Result.andThen_ok,binOp,zfc1 (heu▸hu w),Sem.run_pure]
      · exact hv.elim
    · exact hv.elim
  · -- texts
    rename_i m n
    have hgd:∀w:World,(eqGuard op t x y (.string m) (.string n)).run P w=.ok () w:=fun w=>by unfold eqGuard;split<;>rfl
    split at hv
    · exact gen _ hv fun _ w=>by simp only [binS,Sem.run_bind,hgd,Result.andThen_ok];simp [binOp,Op.stringOp]
    · exact gen _ hv fun _ w=>by simp only [binS,Sem.run_bind,hgd,Result.andThen_ok];simp [binOp,Op.stringOp]
    · refine gen _ hv.2 fun hh w=> ?_
      have h0:=zgd hv.1 hh
      simp only [binS,Sem.run_bind,hgd,Result.andThen_ok]
      have h1:¬(((m.size+n.size:Nat):Int)>IntKind.i64.max):=by
        have:IntKind.i64.max=9223372036854775807:=by decide
        rw [this];omega
      simp only [binOp,Op.stringOp,if_neg h1,Sem.run_pure]
    · exact zfu1 (by simp_all [kindD]) hv fun hh β ρ ho w w' v hr=>hex hh β ρ ho w w' v hr
  · -- pointers
    rename_i p q
    cases hn:zfi1 y with
    | false=>
      simp only [hn,cond_false] at hv
      exact zfu1 (by simp_all [kindD]) hv fun hh β ρ ho w w' v hr=>hex hh β ρ ho w w' v hr
    | true=>
      simp only [hn,cond_true] at hv
      split at hv
      · rename_i e he
        split at hv
        · rename_i elem heu
          have hq:q=none:=by
            cases y with
            | const v=>
              simp only [ev] at heb
              cases heb
              cases q with
              | none=>rfl
              | some _=>simp [zfi1] at hn
            | tmp _=>simp [zfi1] at hn
            | global _=>simp [zfi1] at hn
            | func _=>simp [zfi1] at hn
          subst hq
          have hgd:∀w:World,(eqGuard op t x y (.pointer p) (.pointer none)).run P w=.ok () w:=fun w=>by unfold eqGuard;split<;>rfl
          have hu:=fun w=>run_underlying' ok he w
          unfold nilW at hv
          split at hv
          · refine gen _ hv fun _ w=> ?_
            simp only [binS,Sem.run_bind,hgd,Result.andThen_ok,binOp,zhw1 (heu▸hu w),Sem.run_pure]
          · refine gen _ hv fun _ w=> ?_
            simp only [binS,Sem.run_bind,hgd,Result.andThen_ok,binOp,zhw1 (heu▸hu w),Sem.run_pure]
          · exact hv.elim
        · exact hv.elim
      · exact hv.elim
  · rename_i n1 n2 n3 n4
    have hkd:kindD tb o ch s=.mem:=by
      unfold kindD
      rw [hop]
      simp only [hea,heb]
      split
      · rename_i e1 e2;cases e1;cases e2;exact absurd rfl (n1 _ _ _ _ rfl)
      · rename_i e1 e2;cases e1;cases e2;exact absurd rfl (n2 _ _ rfl)
      · rename_i e1 e2;cases e1;cases e2;exact absurd rfl (n3 _ _ rfl)
      · rename_i e1 e2;cases e1;cases e2;exact absurd rfl (n4 _ _ rfl)
      · rfl
    exact zfu1 hkd hv fun hh β ρ ho w w' v hr=>hex hh β ρ ho w w' v hr
theorem zjz1 {t:Nat} {w:World} {ms} {a:Value} (ha:isIfV a=true) (hu:(underlying t).run P w=.ok (.interface ms) w):(Op.equal t a .nilIface).run P w=.ok (zwv a) w:=by
  have key:∀d,(Op.equalIn (d+1) t a .nilIface).run P w=.ok (zwv a) w:=by
    intro d
    unfold Op.equalIn
    simp only [Sem.run_bind,hu,Result.andThen_ok]
    cases a<;>first | rfl | cases ha
  exact key 9999
theorem zui1 {a:Value} (ha:isIfV a=true):a=.nilIface∨∃t v,a=.iface t v:=by
  cases a<;>first | exact .inl rfl | exact .inr ⟨_,_,rfl⟩ | cases ha
theorem zgt2 (ok:tb.Ok P) {o:Oper} {ch:Chain} {s:St} {h:Hp} {K:LV→Prop} {op:BinOp} {t yt:Nat} {x y:Operand} (hop:o.op=.binOp op t x y yt)
    (hv:onV (ev s ch x) fun a=>onV (ev s ch y) fun b=>binW (cnd s ch) P tb op t x y o.type a b h K):ValOk P tb o ch s h K:=by
  cases hn:zua1 y with
  | false=>
    refine zwz1 ok hop ?_
    simpa only [binW,hn,cond_false] using hv
  | true=>
    cases hi:isIfD tb t with
    | false=>
      refine zwz1 ok hop ?_
      simpa only [binW,hn,hi,cond_false,cond_true] using hv
    | true=>
      obtain ⟨a,hea,hv'⟩:=zbf hv
      clear hv
      obtain ⟨b,heb,hv⟩:=zbf hv'
      clear hv'
      simp only [binW,hn,hi,cond_true] at hv
      obtain ⟨hif,hv⟩:=hv
      have hy:y=.const .nilIface:=by
        unfold zua1 at hn
        split at hn
        · rfl
        · cases hn
      subst hy
      have hb:b=.nilIface:=by
        simp only [ev] at heb
        cases heb
        rfl
      subst hb
      have hex:holds s ch→∀(β:Nat→Nat) (ρ:Operand→Value),(∀x∈o.op.operands,Opnd β s ρ x)→∀(w w':World) (v:Value),(binS op t x (.const .nilIface) a .nilIface).run P w=.ok v w'→
          (execOp ρ o).run P w=.ok (.value v) w':=by
        intro hh β ρ ho w w' v hr
        have ha:ρ x=a:=ev_ok (ho x (by simp [hop,Op.operands])) hh hea
        have hb:ρ (.const .nilIface)=.nilIface:=ev_ok (ho (.const .nilIface) (by simp [hop,Op.operands])) hh heb
        simp only [execOp,hop,ha,hb]
        change (binS op t x (.const .nilIface) a .nilIface>>=fun x=>pure (Next.value x)).run P w=_
        rw [Sem.run_bind,hr]
        rfl
      have gen:∀v:Value,K (.v v)→(holds s ch→∀w,(binS op t x (.const .nilIface) a .nilIface).run P w=.ok v w)→ValOk P tb o ch s h K:=fun v hk hr=>
        zat (.v v) hk fun hh β ρ w ho=>hex hh β ρ ho w w v (hr hh w)
      unfold isIfD at hi
      split at hi
      · rename_i e he
        split at hi
        · rename_i ms heu
          have hu:=fun w=>run_underlying' ok he w
          have hgd:isIfV a=true→∀w:World,(eqGuard op t x (.const .nilIface) a .nilIface).run P w=.ok () w:=fun ha w=>by
            unfold eqGuard
            rcases zui1 ha with rfl | ⟨_,_,rfl⟩<;>cases op<;>first | rfl | (cases x<;>rfl)
          have hbo:isIfV a=true→op=.eql→∀w:World,(binOp op t a .nilIface).run P w=.ok (.bool (zwv a)) w:=fun ha ho w=>by
            subst ho
            rcases zui1 ha with rfl | ⟨_,_,rfl⟩<;>simp only [binOp,Sem.run_bind,zjz1 (P:=P) ha (heu▸hu w),Result.andThen_ok,Sem.run_pure]
          have hbn:isIfV a=true→op=.neq→∀w:World,(binOp op t a .nilIface).run P w=.ok (.bool (!zwv a)) w:=fun ha ho w=>by
            subst ho
            rcases zui1 ha with rfl | ⟨_,_,rfl⟩<;>simp only [binOp,Sem.run_bind,zjz1 (P:=P) ha (heu▸hu w),Result.andThen_ok,Sem.run_pure]
          unfold nilW at hv
          split at hv
          · refine gen _ hv fun hh w=> ?_
            have ha:=zgd hif hh
            simp only [binS,Sem.run_bind,hgd ha,Result.andThen_ok,hbo ha rfl]
          · refine gen _ hv fun hh w=> ?_
            have ha:=zgd hif hh
            simp only [binS,Sem.run_bind,hgd ha,Result.andThen_ok,hbn ha rfl]
          · exact hv.elim
        · cases hi
      · cases hi
end
end Lf

namespace Lf
open Go
section
variable {P:Program} {tb:Tb} {o:Oper} {ch:Chain} {s:St} {h:Hp} {K:LV→Prop}
theorem zyv {β:Nat→Nat} {ρ:Operand→Value} (hh:holds s ch):∀ {l:List Operand} {vs:List Value},vals s ch l=some vs→(∀x∈l,Opnd β s ρ x)→l.map ρ=vs
  | [],vs,h,_=>by cases h;rfl
  | x::l,vs,h,ho=>by
    simp only [vals] at h
    split at h
    · rename_i v r hv hr
      cases h
      simp only [List.map_cons]
      rw [ev_ok (ho x (List.mem_cons_self ..)) hh hv,zyv hh hr fun y hy=>ho y (List.mem_cons_of_mem _ hy)]
      rfl
    · cases h
theorem zqf1 {β:Nat→Nat} {ρ:Operand→Value} (hh:holds s ch):∀ {l:List (Nat×Operand)} {vs:List (Nat×Value)},pairs s ch l=some vs→(∀x∈l.map (·.2),Opnd β s ρ x)→
    l.map (fun p=>(p.1,ρ p.2))=vs
  | [],vs,h,_=>by cases h;rfl
  | (i,x)::l,vs,h,ho=>by
    simp only [pairs] at h
    split at h
    · rename_i v r hv hr
      cases h
      simp only [List.map_cons]
      rw [ev_ok (ho x (by simp)) hh hv,zqf1 hh hr fun y hy=>ho y (by simp at hy ⊢;exact .inr hy)]
      rfl
    · cases h
theorem zry1 {β:Nat→Nat} {ρ:Operand→Value} {x:Operand} {t:Nat} {w:Bool} {l:LV} (ho:Opnd β s ρ x) (hh:holds s ch) (hb':hb s t=some w)
    (he:zwo1 s ch t w x=some l):ρ x=LVal β l:=by
  cases x with
  | tmp u=>
    simp only [zwo1] at he
    split at he
    · rename_i l' c hf
      cases hs:sufx c ((t,w)::ch) with
      | false=>simp [hs] at he
      | true=>
        simp only [hs,cond_true] at he
        cases he
        refine ho l c hf (zdr1 hs fun p hp=> ?_)
        rcases List.mem_cons.1 hp with rfl | hp
        · exact hb'
        · exact hh p hp
    · cases he
  | const v=>cases he;exact ho
  | global g=>cases he
  | func f=>cases he
theorem zeg2 {x a b:Operand} (hop:o.op=.pick x a b) (hv:pickW s ch x a b K):ValOk P tb o ch s h K:=by
  unfold pickW at hv
  split at hv
  · rename_i t
    split at hv
    · rename_i p c0 hf
      cases hs:sufx c0 ch with
      | false=>simp [hs] at hv
      | true=>
        simp only [hs,cond_true] at hv
        have hbp:hb s t=some p:=by simp [hb,hf]
        have hx:holds s ch→∀(β:Nat→Nat) (ρ:Operand→Value),(∀x∈o.op.operands,Opnd β s ρ x)→ρ (.tmp t)=.bool p:=fun hh β ρ ho=>
          ho (.tmp t) (by simp [hop,Op.operands]) _ _ hf (zdr1 hs hh)
        have run:∀(ρ:Operand→Value) (w:World),ρ (.tmp t)=.bool p→(execOp ρ o).run P w=.ok (.value (if p=true then ρ a else ρ b)) w:=by
          intro ρ w hp
          simp only [execOp,hop,hp,asBool,Sem.run_bind,Sem.run_pure,Result.andThen_ok]
        split at hv
        · rename_i u
          obtain ⟨v,hev,hv⟩:=zbf hv
          split at hv
          · rename_i q
            refine zat (.v (.bool (p&&q))) (hv _ rfl) fun hh β ρ w ho=> ?_
            rw [run ρ w (hx hh β ρ ho)]
            cases hp:p with
            | true=>
              have:=zry1 (ho (.tmp u) (by simp [hop,Op.operands])) hh (hp▸hbp) hev
              simp [this,LVal]
            | false=>
              have:ρ (.const (.bool false))=.bool false:=ho (.const (.bool false)) (by simp [hop,Op.operands])
              simp [this,LVal]
          · exact hv.elim
        · rename_i u
          obtain ⟨v,hev,hv⟩:=zbf hv
          split at hv
          · rename_i q
            refine zat (.v (.bool (p || q))) (hv _ rfl) fun hh β ρ w ho=> ?_
            rw [run ρ w (hx hh β ρ ho)]
            cases hp:p with
            | false=>
              have:=zry1 (ho (.tmp u) (by simp [hop,Op.operands])) hh (hp▸hbp) hev
              simp [this,LVal]
            | true=>
              have:ρ (.const (.bool true))=.bool true:=ho (.const (.bool true)) (by simp [hop,Op.operands])
              simp [this,LVal]
          · exact hv.elim
        · refine zat _ hv fun hh β ρ w ho=> ?_
          rw [run ρ w (hx hh β ρ ho)]
          have h1:ρ (.const (.bool true))=.bool true:=ho (.const (.bool true)) (by simp [hop,Op.operands])
          have h2:ρ (.const (.bool false))=.bool false:=ho (.const (.bool false)) (by simp [hop,Op.operands])
          cases p<;>simp [h1,h2,LVal]
        · rename_i u v _
          refine zat _ hv fun hh β ρ w ho=> ?_
          rw [run ρ w (hx hh β ρ ho)]
          have h1:ρ (.const (.bool u))=.bool u:=ho (.const (.bool u)) (by simp [hop,Op.operands])
          have h2:ρ (.const (.bool v))=.bool v:=ho (.const (.bool v)) (by simp [hop,Op.operands])
          cases p<;>simp [h1,h2,LVal]
        · exact hv.elim
    · exact hv.elim
  · exact hv.elim
theorem zuj1 {x:Operand} {i:Nat} (hop:o.op=.extract x i) (hv:onV (ev s ch x) fun v=>match v with
    | .tuple vs=>match nth vs.toList i with
      | some y=>K (.v y)
      | none=>False
    | _=>False):ValOk P tb o ch s h K:=by
  obtain ⟨v,he,hv'⟩:=zbf hv
  clear hv
  split at hv'
  · rename_i vs
    split at hv'
    · rename_i y hy
      refine zat (.v y) hv' fun hh β ρ w ho=> ?_
      have hx:=ev_ok (ho x (by simp [hop,Op.operands])) hh he
      have:vs[i]?=some y:=by rw [zht] at hy;simpa using hy
      simp only [execOp,hop,hx,LVal,Instr.extract,this,Sem.run_bind,Sem.run_pure,Result.andThen_ok]
    · exact hv'.elim
  · exact hv'.elim
theorem zia2 {op:UnOp} {t:Nat} {x:Operand} (hop:o.op=.unOp op t x) (hv:onV (ev s ch x) fun a=>unW op a K):ValOk P tb o ch s h K:=by
  obtain ⟨v,he,hv'⟩:=zbf hv
  clear hv
  unfold unW at hv'
  split at hv'<;>
    first
    | exact hv'.elim
    | refine zat _ hv' fun hh β ρ w ho=> ?_
      have hx:=ev_ok (ho x (by simp [hop,Op.operands])) hh he
      simp [execOp,hop,hx,LVal,Op.unary,Op.intArith,Op.intBits,bitsI]
theorem zgu2 {x:Operand} (hop:o.op=.nilCheck x) (hv:match ev s ch x with
    | some (.v (.pointer p))=>NilW (cnd s ch) p fun a=>K (.v (.pointer (some a)))
    | some (.box k off)=>K (.box k off)
    | some (.boxd k off)=>K (.boxd k off)
    | _=>False):ValOk P tb o ch s h K:=by
  split at hv
  · rename_i p he
    obtain ⟨a,hr,hk⟩:=hv
    refine zat _ hk fun hh β ρ w ho=> ?_
    have hx:=ev_ok (ho x (by simp [hop,Op.operands])) hh he
    have hp:=zgd hr hh
    subst hp
    simp [execOp,hop,hx,LVal]
  · rename_i k off he
    refine zat _ hv (fun hh β ρ w ho=> ?_) (zuh1 (by simp [hop,Op.operands]) he)
    have hx:=ev_ok (ho x (by simp [hop,Op.operands])) hh he
    simp [execOp,hop,hx,LVal]
  · rename_i k off he
    refine zat _ hv (fun hh β ρ w ho=> ?_) (zuh1 (by simp [hop,Op.operands]) he)
    have hx:=ev_ok (ho x (by simp [hop,Op.operands])) hh he
    simp [execOp,hop,hx,LVal]
  · exact hv.elim
theorem zol1 {t:Nat} {cs:List Value} {off:Nat} (hv:partW tb t cs off K):
    ∃e v,tb.ty t=some e∧K (.v v)∧((zlc e.und=true∧v=.agg ((cs.drop off).take e.size).toArray∧off+e.size≤cs.length)∨(zlc e.und=false∧cs[off]?=some v)):=by
  unfold partW at hv
  split at hv
  · rename_i e he
    cases ha:zlc e.und with
    | true=>
      simp only [ha,cond_true,zwv1,zww1] at hv
      cases hl:Nat.ble (off+e.size) cs.length with
      | false=>simp [hl] at hv
      | true=>
        simp only [hl,cond_true] at hv
        exact ⟨e,_,he,hv,.inl ⟨ha,rfl,Nat.le_of_ble_eq_true hl⟩⟩
    | false=>
      simp only [ha,cond_false,zht] at hv
      split at hv
      · rename_i v hc
        exact ⟨e,v,he,hv,.inr ⟨ha,hc⟩⟩
      · exact hv.elim
  · exact hv.elim
theorem zlu1 (ok:tb.Ok P) {t:Nat} {cs:List Value} {off b ct:Nat} {e:Ty} {v:Value} {w:World} (he:tb.ty t=some e)
    (hv:(zlc e.und=true∧v=.agg ((cs.drop off).take e.size).toArray∧off+e.size≤cs.length)∨(zlc e.und=false∧cs[off]?=some v))
    (hb:w.heap[b]?=some (.cells cs.toArray ct (0,0))):(loadVar t ⟨b,off,none⟩).run P w=.ok v w:=by
  simp only [loadVar,Sem.run_bind,run_isAgg' ok he,Result.andThen_ok]
  rcases hv with ⟨ha,hv,hl⟩ | ⟨ha,hv⟩
  · have hlen:((cs.drop off).take e.size).length=e.size:=by simp;omega
    have hc:∀j v,((cs.drop off).take e.size)[j]?=some v→w.cell? ((⟨b,off,none⟩:Addr).add j)=some v:=by
      intro j v hj
      rw [zec,zqe1 hb]
      rw [List.getElem?_take] at hj
      split at hj
      · simpa using hj
      · cases hj
    rw [ha]
    simp only [if_true,Sem.run_bind,run_sizeOf' ok he,Result.andThen_ok]
    conv=>lhs;rw [←hlen]
    rw [zyt hc]
    simp [hv]
  · have:=zqe1 hb off
    rw [hv] at this
    simp [ha,this]
theorem zeh2 (ok:tb.Ok P) {t:Nat} {x:Operand} (hop:o.op=.load t x) (hv:match ev s ch x with
    | some (.v (.pointer (some a)))=>match tb.ty t with
      | some e=>LdW (cnd s ch) e.sh h a fun x=>K (.v (e.sh.enc x))
      | none=>False
    | some (.box k off)=>match s.m k with
      | some cs=>partW tb t cs off K
      | none=>False
    | some (.boxd k off)=>match s.m k,tb.ty t with
      | some cs,some e=>cond (zlc e.und) False (∃x,Req (cnd s ch) (cs[off]?=some (e.sh.enc x))∧K (.v (e.sh.enc x)))
      | _,_=>False
    | _=>False):ValOk P tb o ch s h K:=by
  have run:∀(ρ:Operand→Value) (w:World) (a:Addr) (v:Value),ρ x=.pointer (some a)→(loadVar t a).run P w=.ok v w→(execOp ρ o).run P w=.ok (.value v) w:=by
    intro ρ w a v hx hr
    simp only [execOp,hop,hx,Instr.loadAt,Instr.sureAddr,Sem.run_bind,Sem.run_pure,Result.andThen_ok,hr]
  split at hv
  · rename_i a he
    split at hv
    · rename_i e hte
      obtain ⟨y,hr,hk⟩:=hv
      refine zls1 (by simp [kindD,hop,he]) _ hk fun hh β ρ w ho hs=> ?_
      have hx:=ev_ok (ho x (by simp [hop,Op.operands])) hh he
      exact run ρ w a _ hx (zyu ok hte fun j v hj=>ztg hs (zgd hr hh j v hj))
    · exact hv.elim
  · rename_i k off he
    split at hv
    · rename_i cs hm
      obtain ⟨e,v,hte,hk,hc⟩:=zol1 hv
      refine zrx1 (by simp [kindD,hop,he]) _ hk fun hh β ρ w ho hb=> ?_
      have hx:=ev_ok (ho x (by simp [hop,Op.operands])) hh he
      obtain ⟨ct,hbk⟩:=hb.box (by simp [hop,Op.operands]) he hh hm
      exact run ρ w _ _ hx (zlu1 ok hte hc hbk)
    · exact hv.elim
  · rename_i k off he
    split at hv
    · rename_i cs e hm hte
      cases ha:zlc e.und with
      | true=>simp [ha] at hv
      | false=>
        simp only [ha,cond_false] at hv
        obtain ⟨y,hr,hk⟩:=hv
        refine zrx1 (by simp [kindD,hop,he]) _ hk fun hh β ρ w ho hb=> ?_
        have hx:=ev_ok (ho x (by simp [hop,Op.operands])) hh he
        obtain ⟨ct,hbk⟩:=hb.boxd (by simp [hop,Op.operands]) he hh hm
        exact run ρ w _ _ hx (zlu1 ok hte (.inr ⟨ha,zgd hr hh⟩) hbk)
    · exact hv.elim
  · exact hv.elim
theorem zrz1 {t i:Nat} {Q:Nat→Nat→Prop} (hv:zpn1 tb t i Q):
    ∃e fs f g,tb.ty t=some e∧e.und=.struct fs∧fs[i]?=some f∧tb.ty f.type=some g∧g.size≠0∧Q f.offset g.size:=by
  unfold zpn1 at hv
  split at hv
  · rename_i e he
    split at hv
    · rename_i fs hfs
      split at hv
      · rename_i f hf
        split at hv
        · rename_i g hg
          split at hv
          · exact hv.elim
          · rename_i n hn
            refine ⟨e,fs,f,g,he,hfs,by rw [zht] at hf;simpa using hf,hg,by omega,hn▸hv⟩
        · exact hv.elim
      · exact hv.elim
    · exact hv.elim
  · exact hv.elim
theorem zqg1 (ok:tb.Ok P) {t i:Nat} {x:Operand} (hop:o.op=.fieldAddr t x i) (hv:zpn1 tb t i fun off _=>match ev s ch x with
    | some (.v (.pointer (some a)))=>K (.v (.pointer (some (a.add off))))
    | some (.box k o)=>K (.box k (o+off))
    | some (.boxd k o)=>K (.boxd k (o+off))
    | _=>False):ValOk P tb o ch s h K:=by
  obtain ⟨e,fs,f,g,he,hfs,hf,hg,hz,hq⟩:=zrz1 hv
  have run:∀(ρ:Operand→Value) (w:World) (a:Addr),ρ x=.pointer (some a)→(execOp ρ o).run P w=.ok (.value (.pointer (some (a.add f.offset)))) w:=by
    intro ρ w a hx
    have hu:=run_underlying' ok he w
    rw [hfs] at hu
    have hsz:=run_sizeOf' ok hg w
    simp only [execOp,hop,hx,Instr.fieldAt,Instr.sureAddr,Sem.run_bind,hu,Result.andThen_ok,hf,Sem.run_pure,fieldPlace,hsz,if_neg hz]
  split at hq
  · rename_i a hea
    refine zat _ hq fun hh β ρ w ho=> ?_
    exact run ρ w a (ev_ok (ho x (by simp [hop,Op.operands])) hh hea)
  · rename_i k o' hea
    refine zat _ hq (fun hh β ρ w ho=> ?_) (zwx1 (by simp [hop,Op.operands]) hea (by intro k' off' e;rcases e with e | e<;>cases e<;>rfl))
    rw [run ρ w _ (ev_ok (ho x (by simp [hop,Op.operands])) hh hea),zec]
    rfl
  · rename_i k o' hea
    refine zat _ hq (fun hh β ρ w ho=> ?_) (zao2 (by simp [hop,Op.operands]) hea (by intro k' off' e;rcases e with e | e<;>cases e<;>rfl))
    rw [run ρ w _ (ev_ok (ho x (by simp [hop,Op.operands])) hh hea),zec]
    rfl
  · exact hq.elim
theorem zxa1 (ok:tb.Ok P) {t:Nat} {cs:List Value} {off:Nat} {e:Ty} {v:Value} {w:World} (he:tb.ty t=some e)
    (hv:(zlc e.und=true∧v=.agg ((cs.drop off).take e.size).toArray∧off+e.size≤cs.length)∨(zlc e.und=false∧cs[off]?=some v)):
    (part t cs.toArray off).run P w=.ok v w:=by
  simp only [part,Sem.run_bind,run_isAgg' ok he,Result.andThen_ok]
  rcases hv with ⟨ha,hv,_⟩ | ⟨ha,hv⟩
  · simp only [ha,if_true,Sem.run_bind,run_sizeOf' ok he,Result.andThen_ok,Sem.run_pure,hv]
    congr 2
    apply Array.ext'
    simp
  · simp [ha,hv]
theorem zap2 (ok:tb.Ok P) {t i:Nat} {x:Operand} (hop:o.op=.field t x i) (hv:match tb.ty t with
    | some e=>match e.und with
      | .struct fs=>match nth fs.toList i with
        | some f=>onV (ev s ch x) fun v=>match v with
          | .agg cs=>partW tb f.type cs.toList f.offset K
          | _=>False
        | none=>False
      | _=>False
    | none=>False):ValOk P tb o ch s h K:=by
  split at hv
  · rename_i e he
    split at hv
    · rename_i fs hfs
      split at hv
      · rename_i f hf
        obtain ⟨v,hev,hv'⟩:=zbf hv
        clear hv
        split at hv'
        · rename_i cs
          obtain ⟨g,y,hg,hk,hc⟩:=zol1 hv'
          refine zat _ hk fun hh β ρ w ho=> ?_
          have hx:=ev_ok (ho x (by simp [hop,Op.operands])) hh hev
          have hu:=run_underlying' ok he w
          rw [hfs] at hu
          have hf':fs[i]?=some f:=by rw [zht] at hf;simpa using hf
          have hp:=zxa1 (w:=w) ok hg hc
          simp only [Array.toArray_toList] at hp
          simp only [execOp,hop,hx,LVal,Instr.field,Sem.run_bind,hu,Result.andThen_ok,hf',asAgg,Sem.run_pure,hp]
        · exact hv'.elim
      · exact hv.elim
    · exact hv.elim
  · exact hv.elim
end
end Lf

namespace Lf
open Go
section
variable {P:Program} {tb:Tb} {o:Oper} {ch:Chain} {s:St} {h:Hp} {K:LV→Prop}
theorem zhu {t:Nat} {g:Ty} (h:elemS tb t=some g):∃e u,tb.ty t=some e∧e.und=.slice u∧tb.ty u=some g:=by
  unfold elemS at h
  split at h
  · rename_i e he
    split at h
    · rename_i u hu
      exact ⟨e,u,he,hu,h⟩
    · cases h
  · cases h
theorem zom1 {t n:Nat} {g:Ty} (h:elemA tb t=some (n,g)):∃e u,tb.ty t=some e∧e.und=.array n u∧tb.ty u=some g:=by
  unfold elemA at h
  split at h
  · rename_i e he
    split at h
    · rename_i m u hu
      split at h
      · rename_i g' hg
        cases h
        exact ⟨e,u,he,hu,hg⟩
      · cases h
    · cases h
  · cases h
theorem zqh1 (ok:tb.Ok P) {t:Nat} {x i:Operand} (hop:o.op=.indexAddr t x i) (hv:match ev s ch x,ev s ch i with
    | some (.v (.slice base len _)),some (.v (.int _ n))=>match elemS tb t with
      | some e=>Req (cnd s ch) (InB base len n)∧K (.v (.pointer (some (sat base e.size n))))
      | none=>False
    | some (.v (.pointer (some a))),some (.v (.int _ n))=>match elemA tb t with
      | some (len,e)=>Req (cnd s ch) (0≤n∧n<(len:Int))∧K (.v (.pointer (some (a.add (n.toNat*e.size)))))
      | none=>False
    | some (.box k off),some (.v (.int _ n))=>match elemA tb t with
      | some (len,e)=>Req (cnd s ch) (0≤n∧n<(len:Int))∧cond (zlh1 i) (K (.box k (off+n.toNat*e.size))) (K (.boxd k (off+n.toNat*e.size)))
      | none=>False
    | _,_=>False):ValOk P tb o ch s h K:=by
  have runA:∀(ρ:Operand→Value) (w:World) (a:Addr) (k:IntKind) (n:Int) (len:Nat) (e:Ty),elemA tb t=some (len,e)→ρ x=.pointer (some a)→ρ i=.int k n→0≤n∧n<(len:Int)→
      (execOp ρ o).run P w=.ok (.value (.pointer (some (a.add (n.toNat*e.size))))) w:=by
    intro ρ w a k n len e hel hx hi hb
    obtain ⟨y,u,hy,hu,hg⟩:=zom1 hel
    have hun:=run_underlying' ok hy w
    have hsz:=run_sizeOf' ok hg w
    rw [hu] at hun
    simp only [execOp,hop,hx,hi,Instr.indexAt,asIntOf,Instr.sureAddr,Sem.run_bind,Sem.run_pure,Result.andThen_ok,hun,if_pos hb,hsz]
  split at hv
  · rename_i base len c k n hex hei
    split at hv
    · rename_i e hel
      obtain ⟨y,u,hy,hu,hg⟩:=zhu hel
      refine zat _ hv.2 fun hh β ρ w ho=> ?_
      have hx:=ev_ok (ho x (by simp [hop,Op.operands])) hh hex
      have hi:=ev_ok (ho i (by simp [hop,Op.operands])) hh hei
      obtain ⟨hbase,h0,h1⟩:=zgd hv.1 hh
      obtain ⟨a,rfl⟩:∃a,base=some a:=Option.ne_none_iff_exists'.1 hbase
      have hun:=run_underlying' ok hy w
      have hsz:=run_sizeOf' ok hg w
      rw [hu] at hun
      simp only [execOp,hop,hx,hi,LVal,Instr.indexAt,asIntOf,Sem.run_bind,Sem.run_pure,Result.andThen_ok,hun,if_pos (And.intro h0 h1),hsz,sat,Option.getD_some]
    · exact hv.elim
  · rename_i a k n hex hei
    split at hv
    · rename_i len e hel
      refine zat _ hv.2 fun hh β ρ w ho=> ?_
      exact runA ρ w a k n len e hel (ev_ok (ho x (by simp [hop,Op.operands])) hh hex) (ev_ok (ho i (by simp [hop,Op.operands])) hh hei) (zgd hv.1 hh)
    · exact hv.elim
  · rename_i k' off k n hex hei
    split at hv
    · rename_i len e hel
      have main:∀l:LV,(∀β,LVal β l=.pointer (some ⟨β k',off+n.toNat*e.size,none⟩))→(∀k1 off',(l=.box k1 off'∨l=.boxd k1 off')→k1=k')→K l→ValOk P tb o ch s h K:=fun l hl hb hk=>
        zat l hk (fun hh β ρ w ho=>by
          rw [runA ρ w _ k n len e hel (ev_ok (ho x (by simp [hop,Op.operands])) hh hex) (ev_ok (ho i (by simp [hop,Op.operands])) hh hei) (zgd hv.1 hh),zec,hl]) (zwx1 (by simp [hop,Op.operands]) hex hb)
      cases hc:zlh1 i with
      | true=>exact main (.box k' (off+n.toNat*e.size)) (fun _=>rfl) (by intro k' off' e;rcases e with e | e<;>cases e<;>rfl) (by simpa [hc] using hv.2)
      | false=>exact main (.boxd k' (off+n.toNat*e.size)) (fun _=>rfl) (by intro k' off' e;rcases e with e | e<;>cases e<;>rfl) (by simpa [hc] using hv.2)
    · exact hv.elim
  · exact hv.elim
theorem zaq2 (ok:tb.Ok P) {t:Nat} {x i:Operand} (hop:o.op=.index t x i) (hv:match ev s ch x,ev s ch i with
    | some (.v (.string b)),some (.v (.int _ n))=>match tb.ty t with
      | some y=>match y.und with
        | .string=>Req (cnd s ch) (0≤n∧n<(b.size:Int))∧K (.v (.int .u8 ((b.data.toList.getD n.toNat 0).toNat:Int)))
        | _=>False
      | none=>False
    | some (.v (.agg cs)),some (.v (.int _ n))=>idxW (cnd s ch) tb t cs.toList n K
    | _,_=>False):ValOk P tb o ch s h K:=by
  split at hv
  · rename_i b k n hex hei
    split at hv
    · rename_i y hy
      split at hv
      · rename_i hu
        refine zat _ hv.2 fun hh β ρ w ho=> ?_
        have hx:=ev_ok (ho x (by simp [hop,Op.operands])) hh hex
        have hi:=ev_ok (ho i (by simp [hop,Op.operands])) hh hei
        obtain ⟨h0,h1⟩:=zgd hv.1 hh
        have hun:=run_underlying' ok hy w
        rw [hu] at hun
        have hlt:n.toNat<b.size:=by omega
        have hget:b[n.toNat]?=some (b.data.toList.getD n.toNat 0):=by
          rw [getElem?_pos b n.toNat hlt]
          congr 1
          have:n.toNat<b.data.toList.length:=by simpa using hlt
          rw [List.getD_eq_getElem?_getD,List.getElem?_eq_getElem this]
          rfl
        simp only [execOp,hop,hx,hi,LVal,Instr.index,asIntOf,Sem.run_bind,Sem.run_pure,Result.andThen_ok,hun,if_pos h0,hget]
      · exact hv.elim
    · exact hv.elim
  · rename_i cs k n hex hei
    unfold idxW at hv
    split at hv
    · rename_i len e hel
      obtain ⟨y,u,hy,hu,hg⟩:=zom1 hel
      cases ha:zlc e.und with
      | true=>simp only [ha,cond_true] at hv
      | false=>
        simp only [ha,cond_false] at hv
        obtain ⟨hb,z,hz,hk⟩:=hv
        refine zat _ hk fun hh β ρ w ho=> ?_
        have hx:=ev_ok (ho x (by simp [hop,Op.operands])) hh hex
        have hi:=ev_ok (ho i (by simp [hop,Op.operands])) hh hei
        have hun:=run_underlying' ok hy w
        have hsz:=run_sizeOf' ok hg w
        have hp:=zxa1 ok (w:=w) (cs:=cs.toList) hg (.inr ⟨ha,zgd hz hh⟩)
        rw [hu] at hun
        simp only [Array.toArray_toList] at hp
        simp only [execOp,hop,hx,hi,LVal,Instr.index,asIntOf,Sem.run_bind,Sem.run_pure,Result.andThen_ok,hun,if_pos (zgd hb hh),hsz,hp]
    · exact hv.elim
  · exact hv.elim
theorem zei2 {β:Nat→Nat} {ρ:Operand→Value} (hh:holds s ch) {x:Option Operand} {r:Option Int} (he:optI s ch x=some r) (ho:∀y,x=some y→Opnd β s ρ y):
    (x=none∧r=none)∨∃y k n,x=some y∧ρ y=.int k n∧r=some n:=by
  cases x with
  | none=>cases he;exact .inl ⟨rfl,rfl⟩
  | some y=>
    simp only [optI] at he
    split at he
    · rename_i k n hy
      cases he
      exact .inr ⟨y,k,n,rfl,ev_ok (ho y rfl) hh hy,rfl⟩
    · cases he
theorem znu {k:IntKind} {n:Int} {m:Nat} {c:BoundsCode} {w:World} (h0:0≤n) (h1:n≤(m:Int)):(Instr.sliceBound (.int k n) m c).run P w=.ok n.toNat w:=by
  simp only [Instr.sliceBound,asIntOf,Sem.run_bind,Sem.run_pure,Result.andThen_ok,if_pos (And.intro h0 h1)]
theorem zar2 {c:Option Bool} {isS:Bool} {len cap:Nat} {lo hi mx:Option Int} {Q:Nat→Nat→Nat→Prop} (hv:slB c isS len cap lo hi mx Q):
    ∃l x m,Q l x m∧((c=none∨(c=some true))→∀(vl vh vm:Option Value),(lo=none∧vl=none∨∃k n,lo=some n∧vl=some (.int k n))→
      (hi=none∧vh=none∨∃k n,hi=some n∧vh=some (.int k n))→(mx=none∧vm=none∨∃k n,mx=some n∧vm=some (.int k n))→
      ∀w:World,(Instr.sliceBounds isS len cap vl vh vm).run P w=.ok (l,x,m) w):=by
  have rq:∀ {p:Prop},Req c p→(c=none∨c=some true)→p:=by
    intro p hr hc
    rcases hc with hc | hc<;>subst hc
    · exact hr
    · exact hr rfl
  unfold slB at hv
  split at hv
  · refine ⟨_,_,_,hv,fun hc vl vh vm h1 h2 h3 w=> ?_⟩
    simp at h1 h2 h3;subst h1;subst h2;subst h3
    simp [Instr.sliceBounds]
  · rename_i l
    refine ⟨_,_,_,hv.2,fun hc vl vh vm h1 h2 h3 w=> ?_⟩
    obtain ⟨a0,a1⟩:=rq hv.1 hc
    simp at h1 h2 h3;subst h2;subst h3;obtain ⟨k,rfl⟩:=h1
    simp [Instr.sliceBounds,znu a0 a1]
  · rename_i x
    refine ⟨_,_,_,hv.2,fun hc vl vh vm h1 h2 h3 w=> ?_⟩
    obtain ⟨a0,a1⟩:=rq hv.1 hc
    simp at h1 h2 h3;subst h1;subst h3;obtain ⟨k,rfl⟩:=h2
    simp [Instr.sliceBounds,znu a0 a1]
  · rename_i l x
    refine ⟨_,_,_,hv.2,fun hc vl vh vm h1 h2 h3 w=> ?_⟩
    obtain ⟨a0,a1,a2⟩:=rq hv.1 hc
    simp at h1 h2 h3;subst h3;obtain ⟨k,rfl⟩:=h1;obtain ⟨k',rfl⟩:=h2
    have e:(x.toNat:Int)=x:=Int.toNat_of_nonneg (by omega)
    simp [Instr.sliceBounds,znu (Int.le_trans a0 a1) a2,znu (n:=l) (m:=x.toNat) a0 (by omega)]
  · rename_i x m
    refine ⟨_,_,_,hv.2,fun hc vl vh vm h1 h2 h3 w=> ?_⟩
    obtain ⟨a0,a1,a2⟩:=rq hv.1 hc
    simp at h1 h2 h3;subst h1;obtain ⟨k,rfl⟩:=h2;obtain ⟨k',rfl⟩:=h3
    simp [Instr.sliceBounds,znu (n:=m) (Int.le_trans a0 a1) a2,znu (n:=x) (m:=m.toNat) a0 (by omega)]
  · rename_i l x m
    refine ⟨_,_,_,hv.2,fun hc vl vh vm h1 h2 h3 w=> ?_⟩
    obtain ⟨a0,a1,a2,a3⟩:=rq hv.1 hc
    simp at h1 h2 h3;obtain ⟨k,rfl⟩:=h1;obtain ⟨k',rfl⟩:=h2;obtain ⟨k'',rfl⟩:=h3
    simp [Instr.sliceBounds,znu (n:=m) (by omega) a3,znu (n:=x) (m:=m.toNat) (by omega) (by omega),znu (n:=l) (m:=x.toNat) a0 (by omega)]
  · simp at hv
end
end Lf

namespace Lf
open Go
section
variable {P:Program} {tb:Tb} {o:Oper} {ch:Chain} {s:St} {h:Hp} {K:LV→Prop}
theorem zsa1 (hh:holds s ch):cnd s ch=none∨cnd s ch=some true:=by
  cases ch with
  | nil=>exact .inl rfl
  | cons q r=>
    obtain ⟨t,w⟩:=q
    obtain ⟨b,hb,hi⟩:=zwu1 (s:=s) t w r
    rw [hb,hi hh]
    exact .inr rfl
theorem zas2 (ok:tb.Ok P) {t:Nat} {x:Operand} {lo hi mx:Option Operand} (hop:o.op=.slice t x lo hi mx) (hv:onV (ev s ch x) fun v=>match optI s ch lo,optI s ch hi,optI s ch mx with
    | some lo,some hi,some mx=>zai2 (cnd s ch) tb t v lo hi mx K
    | _,_,_=>False):ValOk P tb o ch s h K:=by
  obtain ⟨v,hev,hv'⟩:=zbf hv
  clear hv
  split at hv'
  · rename_i l n m hl hn hm
    have opt:holds s ch→∀(β:Nat→Nat) (ρ:Operand→Value),(∀x∈o.op.operands,Opnd β s ρ x)→∀ {y:Option Operand} {r:Option Int},optI s ch y=some r→(∀z,y=some z→z∈o.op.operands)→
        (r=none∧y.map ρ=none∨∃k n,r=some n∧y.map ρ=some (.int k n)):=by
      intro hh β ρ ho y r he hm
      rcases zei2 hh he (fun z hz=>ho z (hm z hz)) with ⟨h1,h2⟩ | ⟨z,k,n,h1,h2,h3⟩
      · exact .inl ⟨h2,by rw [h1];rfl⟩
      · exact .inr ⟨k,n,h3,by rw [h1];simp [h2]⟩
    unfold zai2 at hv'
    split at hv'
    · rename_i base len cap
      split at hv'
      · rename_i e hel
        obtain ⟨y,u,hy,hu,hg⟩:=zhu hel
        obtain ⟨l',x',m',hq,hrun⟩:=zar2 (P:=P) hv'
        refine zat _ (hq _ rfl) fun hh β ρ w ho=> ?_
        have hx:=ev_ok (ho x (by simp [hop,Op.operands])) hh hev
        have hun:=run_underlying' ok hy w
        have hsz:=run_sizeOf' ok hg w
        rw [hu] at hun
        have hr:=hrun (zsa1 hh) _ _ _ (opt hh β ρ ho hl (by intro z hz;simp [hop,Op.operands,hz])) (opt hh β ρ ho hn (by intro z hz;simp [hop,Op.operands,hz]))
          (opt hh β ρ ho hm (by intro z hz;simp [hop,Op.operands,hz])) w
        simp only [execOp,hop,hx,LVal,Instr.sliceAt,Instr.slice,Sem.run_bind,hun,Result.andThen_ok,hr,hsz,Sem.run_pure,sbase]
      · exact hv'.elim
    · rename_i b
      split at hv'
      · rename_i e hy
        split at hv'
        · rename_i hu
          obtain ⟨l',x',m',hq,hrun⟩:=zar2 (P:=P) hv'
          refine zat _ hq fun hh β ρ w ho=> ?_
          have hx:=ev_ok (ho x (by simp [hop,Op.operands])) hh hev
          have hun:=run_underlying' ok hy w
          rw [hu] at hun
          have hmx:mx=none:=by
            cases mx with
            | none=>rfl
            | some z=>simp only [optI] at hm;split at hm<;>cases hm
          have hr:=hrun (zsa1 hh) _ _ none (opt hh β ρ ho hl (by intro z hz;simp [hop,Op.operands,hz])) (opt hh β ρ ho hn (by intro z hz;simp [hop,Op.operands,hz])) (.inl ⟨rfl,rfl⟩) w
          subst hmx
          simp [execOp,hop,hx,LVal,Instr.sliceAt,Instr.slice,hun,hr]
        · exact hv'.elim
      · exact hv'.elim
    · exact hv'.elim
  · exact hv'.elim
theorem zat2 (ok:tb.Ok P) {t:Nat} {x:Operand} (hop:o.op=.makeInterface t x) (hv:onV (ev s ch x) fun v=>match tb.ty t with
    | some e=>match e.und with
      | .interface _=>False
      | _=>K (.v (.iface t v))
    | none=>False):ValOk P tb o ch s h K:=by
  obtain ⟨v,hev,hv'⟩:=zbf hv
  clear hv
  split at hv'
  · rename_i e he
    have run:(∀ms,e.und≠ .interface ms)→K (.v (.iface t v))→ValOk P tb o ch s h K:=fun hne hk=>
      zat _ hk fun hh β ρ w ho=>by
        have hx:=ev_ok (ho x (by simp [hop,Op.operands])) hh hev
        have hun:=run_underlying' ok he w
        simp only [execOp,hop,hx,LVal,Instr.makeInterface,Sem.run_bind,hun,Result.andThen_ok]
        cases hu:e.und<;>first | exact absurd hu (hne _) | rfl
    split at hv'
    · exact hv'.elim
    · rename_i hne;exact run (fun ms h=>hne ms h) hv'
  · exact hv'.elim
theorem zej2 {fn:Fn} {first captured:Array Operand} (hop:o.op=.makeFunc fn first captured)
    (hv:onVs (vals s ch first.toList) fun a=>onVs (vals s ch captured.toList) fun b=>K (.v (.func fn a.toArray b.toArray))):ValOk P tb o ch s h K:=by
  obtain ⟨a,ha,hv1⟩:=zxc hv
  obtain ⟨b,hb,hk⟩:=zxc hv1
  refine zat _ hk fun hh β ρ w ho=> ?_
  have h1:=zyv (β:=β) (ρ:=ρ) hh ha fun x hx=>ho x (by simp [hop,Op.operands];simp at hx;exact .inl hx)
  have h2:=zyv (β:=β) (ρ:=ρ) hh hb fun x hx=>ho x (by simp [hop,Op.operands];simp at hx;exact .inr hx)
  have e1:first.map ρ=a.toArray:=by apply Array.ext';simpa using h1
  have e2:captured.map ρ=b.toArray:=by apply Array.ext';simpa using h2
  simp only [execOp,hop,Instr.makeFunc,Sem.run_bind,Sem.run_pure,Result.andThen_ok,e1,e2,LVal]
theorem zuk1 (ok:tb.Ok P) {src dst:Nat} {x:Operand} (hop:o.op=.convert src dst x) (hv:onV (ev s ch x) fun v=>match tb.ty src,tb.ty dst,v with
    | some _,some e,.int _ n=>match e.und with
      | .int k=>K (.v (.int k (k.wrap n)))
      | _=>genV (cnd s ch) P tb dst (convert src dst v) h K
    | some _,some _,v=>genV (cnd s ch) P tb dst (convert src dst v) h K
    | _,_,_=>False):ValOk P tb o ch s h K:=by
  obtain ⟨v,hev,hv'⟩:=zbf hv
  clear hv
  have hex:holds s ch→∀(β:Nat→Nat) (ρ:Operand→Value),(∀x∈o.op.operands,Opnd β s ρ x)→∀(w w':World) (u:Value),(convert src dst v).run P w=.ok u w'→(execOp ρ o).run P w=.ok (.value u) w':=by
    intro hh β ρ ho w w' u hr
    have hx:=ev_ok (ho x (by simp [hop,Op.operands])) hh hev
    simp only [execOp,hop,hx,LVal,Sem.run_bind,hr,Result.andThen_ok,Sem.run_pure]
  split at hv'
  · rename_i e0 e k n hs hd
    split at hv'
    · rename_i k' hu
      refine zat _ hv' fun hh β ρ w ho=>hex hh β ρ ho w w _ ?_
      have h1:=run_underlying' ok hs w
      have h2:=run_underlying' ok hd w
      rw [hu] at h2
      generalize e0.und=u0 at h1
      simp only [convert,Sem.run_bind,h1,h2,Result.andThen_ok]
      cases u0<;>rfl
    · exact zfu1 (by simp_all [kindD]) hv' fun hh β ρ ho w w' u hr=>hex hh β ρ ho w w' u hr
  · exact zfu1 (by simp_all [kindD]) hv' fun hh β ρ ho w w' u hr=>hex hh β ρ ho w w' u hr
  · exact hv'.elim
theorem zyw :∀(l:List Value) (i:Nat) (new:List Value),i+new.length≤l.length→layL l i new=l.take i++new++l.drop (i+new.length)
  | l,0,[],_=>by cases l<;>simp [layL]
  | [],0,b::new,h=>by simp at h
  | a::l,0,b::new,h=>by
    have:=zyw l 0 new (by simp at h ⊢;omega)
    simp only [layL,this]
    simp
  | [],n+1,new,h=>by simp at h
  | a::l,n+1,new,h=>by
    have:=zyw l n new (by simp at h ⊢;omega)
    simp only [layL,this]
    simp [show n+1+new.length=n+new.length+1 from by omega]
theorem zul1 (l:List Value) (i:Nat) (new:List Value) (h:i+new.length≤l.length):(layL l i new).length=l.length:=by
  rw [zyw l i new h];simp;omega
theorem zxb1 :∀(new:List Value) (k:Nat) (l:List Value) (off:Nat),off+k+new.length≤l.length→
    ((new.zipIdx k).foldl (fun (cs:Array Value) (p:Value×Nat)=>cs.setIfInBounds (off+p.2) p.1) l.toArray).toList=l.take (off+k)++new++l.drop (off+k+new.length)
  | [],k,l,off,_=>by simp
  | v::new,k,l,off,h=>by
    simp only [List.zipIdx_cons,List.foldl_cons]
    have h':off+(k+1)+new.length≤(l.set (off+k) v).length:=by simp at h ⊢;omega
    have:=zxb1 new (k+1) (l.set (off+k) v) off h'
    rw [show (l.toArray.setIfInBounds (off+k) v)=(l.set (off+k) v).toArray by simp]
    rw [this]
    simp at h
    apply List.ext_getElem?
    intro j
    simp only [List.getElem?_append,List.length_append,List.length_take,List.length_set,List.length_cons,List.getElem?_take,List.getElem?_drop,List.getElem?_set]
    rcases Nat.lt_trichotomy j (off+k) with hj | hj | hj
    · have e1:j<min (off+(k+1)) l.length+new.length:=by omega
      have e2:j<min (off+(k+1)) l.length:=by omega
      have e3:j<off+(k+1):=by omega
      have e4:¬off+k=j:=by omega
      have e5:j<min (off+k) l.length+(new.length+1):=by omega
      have e6:j<min (off+k) l.length:=by omega
      simp [e1,e2,e3,e4,e5,e6,hj]
    · subst hj
      have e1:off+k<min (off+(k+1)) l.length+new.length:=by omega
      have e2:off+k<min (off+(k+1)) l.length:=by omega
      have e5:off+k<min (off+k) l.length+(new.length+1):=by omega
      have e6:¬off+k<min (off+k) l.length:=by omega
      have e7:off+k-min (off+k) l.length=0:=by omega
      have e8:off+k<l.length:=by omega
      have e9:off+k<off+(k+1):=by omega
      simp [e1,e2,e5,e6,e7,e8,e9]
    · by_cases hj2:j<off+k+(new.length+1)
      · have e1:j<min (off+(k+1)) l.length+new.length:=by omega
        have e2:¬j<min (off+(k+1)) l.length:=by omega
        have e5:j<min (off+k) l.length+(new.length+1):=by omega
        have e6:¬j<min (off+k) l.length:=by omega
        obtain ⟨m,hm⟩:∃m,j-min (off+k) l.length=m+1:=⟨j-min (off+k) l.length-1,by omega⟩
        have e7:j-min (off+(k+1)) l.length=m:=by omega
        simp [e1,e2,e5,e6,hm,e7]
      · have e1:¬j<min (off+(k+1)) l.length+new.length:=by omega
        have e5:¬j<min (off+k) l.length+(new.length+1):=by omega
        have e7:off+(k+1)+new.length+(j-(min (off+(k+1)) l.length+new.length))=j:=by omega
        have e8:off+k+(new.length+1)+(j-(min (off+k) l.length+(new.length+1)))=j:=by omega
        have e9:¬off+k=j:=by omega
        simp [e1,e5,e7,e8,e9]
theorem zxc1 (v:Value) (l:List Value) (off:Nat) (h:off+(zae v).length≤l.length):
    (v.cells.zipIdx.foldl (fun (cs:Array Value) (p:Value×Nat)=>cs.setIfInBounds (off+p.2) p.1) l.toArray)=(layL l off (zae v)).toArray:=by
  apply Array.ext'
  rw [←Array.foldl_toList]
  have:v.cells.zipIdx.toList=(zae v).zipIdx:=by
    rw [Array.toList_zipIdx,zbm]
  rw [this,zxb1 (zae v) 0 l off (by omega),zyw l off _ h]
  simp
theorem zqi1 {size:Nat}:∀ {ps:List (Nat×Value)} {cs cs':List Value},fillA size cs ps=some cs'→
    Instr.fill (fun i=>some (i*size,size)) cs.toArray ps=some cs'.toArray
  | [],cs,cs',h=>by cases h;rfl
  | (i,v)::r,cs,cs',h=>by
    simp only [fillA] at h
    cases h1:Nat.beq (zae v).length size with
    | false=>simp [h1] at h
    | true=>
      cases h2:Nat.ble (i*size+size) cs.length with
      | false=>simp [h1,h2] at h
      | true=>
        simp only [h1,h2,cond_true] at h
        have e1:=Nat.eq_of_beq_eq_true h1
        have e2:=Nat.le_of_ble_eq_true h2
        have hc:v.cells.size=size:=by rw [←Array.length_toList,zbm,e1]
        have:=zqi1 h
        simp only [Instr.fill,hc,ne_eq,not_true,decide_false,Bool.false_or,decide_eq_true_eq]
        rw [if_neg (by simp;omega)]
        have hst:=zxc1 v cs (i*size) (by omega)
        rw [hst]
        exact this
theorem zxd1 {fs:List Field} {pl:Nat→Option (Nat×Nat)} (hpl:∀i f e,fs[i]?=some f→tb.ty f.type=some e→pl i=some (f.offset,e.size)):
    ∀ {ps:List (Nat×Value)} {cs cs':List Value},fillW tb fs cs ps=some cs'→Instr.fill pl cs.toArray ps=some cs'.toArray
  | [],cs,cs',h=>by cases h;rfl
  | (i,v)::r,cs,cs',h=>by
    simp only [fillW] at h
    split at h
    · rename_i f hf
      split at h
      · rename_i e he
        cases h1:Nat.beq (zae v).length e.size with
        | false=>simp [h1] at h
        | true=>
          cases h2:Nat.ble (f.offset+e.size) cs.length with
          | false=>simp [h1,h2] at h
          | true=>
            simp only [h1,h2,cond_true] at h
            have e1:=Nat.eq_of_beq_eq_true h1
            have e2:=Nat.le_of_ble_eq_true h2
            have hc:v.cells.size=e.size:=by rw [←Array.length_toList,zbm,e1]
            have:=zxd1 hpl h
            rw [zht] at hf
            simp only [Instr.fill,hpl i f e hf he,hc]
            rw [if_neg (by simp;omega)]
            rw [zxc1 v cs f.offset (by omega)]
            exact this
      · cases h
    · cases h
theorem zon1 (ok:tb.Ok P) {w:World}:∀(fs:List Field),(∀f∈fs,∃e,tb.ty f.type=some e)→
    ∃ps:List (Nat×Nat),(fs.mapM fun f=>(do pure (f.offset,←Go.sizeOf f.type):Sem (Nat×Nat))).run P w=.ok ps w∧ps.length=fs.length∧
      ∀(i:Nat) f e,fs[i]?=some f→tb.ty f.type=some e→ps[i]?=some (f.offset,e.size)
  | [],_=>⟨[],by simp,rfl,by simp⟩
  | f::fs,hf=>by
    obtain ⟨e,he⟩:=hf f (List.mem_cons_self ..)
    obtain ⟨ps,hr,hl,hp⟩:=zon1 ok (w:=w) fs fun g hg=>hf g (List.mem_cons_of_mem _ hg)
    refine ⟨(f.offset,e.size)::ps,?_,by simp [hl],?_⟩
    · simp only [List.mapM_cons,Sem.run_bind,run_sizeOf' ok he,Result.andThen_ok,Sem.run_pure,hr]
    · intro i g e' hg he'
      cases i with
      | zero=>simp at hg;subst hg;rw [he] at he';cases he';simp
      | succ i=>simp at hg ⊢;exact hp i g e' hg he'
theorem zsb1 :∀ {fs:List Field},tysIn tb fs=true→∀f∈fs,∃e,tb.ty f.type=some e
  | [],_,f,hf=>by cases hf
  | g::fs,h,f,hf=>by
    simp only [tysIn] at h
    split at h
    · rename_i e he
      rcases List.mem_cons.1 hf with rfl | hf
      · exact ⟨e,he⟩
      · exact zsb1 h f hf
    · cases h
theorem zau2 (ok:tb.Ok P) {t:Nat} {parts:Array (Nat×Operand)} (hop:o.op=.build t parts)
    (hv:onVs ((pairs s ch parts.toList).map fun _=> []) fun _=>match pairs s ch parts.toList,tb.ty t with
    | some ps,some e=>match e.und with
      | .struct fs=>cond (tysIn tb fs.toList) (match fillW tb fs.toList (zae e.zero) ps with
        | some cs=>K (.v (.agg cs.toArray))
        | none=>False) False
      | .array _ u=>match tb.ty u with
        | some g=>match fillA g.size (zae e.zero) ps with
          | some cs=>K (.v (.agg cs.toArray))
          | none=>False
        | none=>False
      | _=>False
    | _,_=>False):ValOk P tb o ch s h K:=by
  obtain ⟨_,_,hv'⟩:=zxc hv
  clear hv
  split at hv'
  · rename_i ps e hps he
    have hparts:holds s ch→∀(β:Nat→Nat) (ρ:Operand→Value),(∀x∈o.op.operands,Opnd β s ρ x)→(parts.map fun (i,x)=>(i,ρ x)).toList=ps:=by
      intro hh β ρ ho
      have:=zqf1 (β:=β) (ρ:=ρ) hh hps fun x hx=>ho x (by simp [hop,Op.operands];simpa using hx)
      simpa using this
    split at hv'
    · rename_i fs hu
      cases hty:tysIn tb fs.toList with
      | false=>simp [hty] at hv'
      | true=>
        simp only [hty,cond_true] at hv'
        split at hv'
        · rename_i cs hcs
          refine zat _ hv' fun hh β ρ w ho=> ?_
          have hun:=run_underlying' ok he w
          rw [hu] at hun
          have hz:=run_zeroValue' ok he w
          obtain ⟨pl,hr,hl,hp⟩:=zon1 ok (w:=w) fs.toList (zsb1 hty)
          have hm:(fs.mapM fun f=>(do pure (f.offset,←Go.sizeOf f.type):Sem (Nat×Nat))).run P w=.ok pl.toArray w:=by
            rw [Array.mapM_eq_mapM_toList]
            simp only [Sem.run_map,hr,Result.andThen_ok]
          have hfill:=zxd1 (tb:=tb) (fs:=fs.toList) (pl:=fun (i:Nat)=>pl[i]?) hp hcs
          have e1:(parts.map fun (i,x)=>(i,ρ x)).toList=ps:=hparts hh β ρ ho
          have e2:(zae e.zero).toArray=e.zero.cells:=by apply Array.ext';simp [zbm]
          rw [e2] at hfill
          simp only [execOp,hop,Instr.build,Sem.run_bind,hz,Result.andThen_ok,hun,hm,e1]
          have e3:(fun (i:Nat)=>pl.toArray[i]?)=fun (i:Nat)=>pl[i]?:=by funext i;simp
          rw [e3,hfill]
          simp [LVal]
        · exact hv'.elim
    · rename_i n u hu
      split at hv'
      · rename_i g hg
        split at hv'
        · rename_i cs hcs
          refine zat _ hv' fun hh β ρ w ho=> ?_
          have hun:=run_underlying' ok he w
          rw [hu] at hun
          have hz:=run_zeroValue' ok he w
          have hsz:=run_sizeOf' ok hg w
          have hfill:=zqi1 hcs
          have e1:(parts.map fun (i,x)=>(i,ρ x)).toList=ps:=hparts hh β ρ ho
          have e2:(zae e.zero).toArray=e.zero.cells:=by apply Array.ext';simp [zbm]
          rw [e2] at hfill
          simp only [execOp,hop,Instr.build,Sem.run_bind,hz,Result.andThen_ok,hun,hsz,e1,hfill]
          simp [LVal]
        · exact hv'.elim
      · exact hv'.elim
    · exact hv'.elim
  · exact hv'.elim
end
end Lf

