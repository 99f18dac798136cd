/-
  Part 2 of the texts that the claim leans on.
-/
import Derived.Laws.Sem
import Derived.Test.YtloapcmhhcbonaaGreatMgSnKeeps0
set_option linter.unusedVariables false
namespace Lf
open Go
def zei (P:Program) (c:S_api_Config) (s:S_api_State) (b:Sl) (Q:(Bool→(Hp→Prop))) (h:Hp):Prop:=
 CallT P znj [] zag (fun r h1=>
 (if (!r)=true then
 Q false h1
 else
 CallT P zod [c.v,s.v] zag (fun r1 h2=>
 (if r1=true then
 Q true h2
 else
 CallT P zjg [s.v] sh_api_State (fun r2 h3=>
 Call2 P zlr [c.v,r2.v] shSl (shInt .i64) (fun r3 r4 h4=>
 Call2 P zlr [c.v,r2.v] shSl (shInt .i64) (fun r5 r6 h5=>
 Call2 P zfx [c.v,s.v] shSl (shInt .i64) (fun r7 r8 h6=>
 EffC (some (!(r4 !=r8))) (CallT P zbq [r2.v,s.v] zag) (fun r9 h7=>
 LetW ((r4 !=r8) || (!r9)) fun y=>
 (if y=true then
 Q false h7
 else
 Call0 P zce [r2.v,(.int .i64 (99:Int))] (fun h8=>
 SemV none P (convert 33 9 r3.v) shStr h8 fun x=>
 SemV none P (convert 33 9 r7.v) shStr h8 fun x1=>
 SemV (some (!(!((ByteArray.toList x)==(ByteArray.toList x1))))) P (convert 33 9 r5.v) shStr h8 fun x2=>
 SemV (some (!(!((ByteArray.toList x)==(ByteArray.toList x1))))) P (convert 33 9 r7.v) shStr h8 fun x3=>
 LetW ((!((ByteArray.toList x)==(ByteArray.toList x1))) || (!((ByteArray.toList x2)==(ByteArray.toList x3)))) fun y1=>
 (if y1=true then
 Q false h8
 else
 LoopW1 (α1:=Int) (fun again t81 h9=>
 (if (decide (t81<((r3.len:Nat):Int)))=true then
 ((InB r3.base r3.len t81)∧StW h9 (sat r3.base 1 t81) [(.int .u8 (7:Int))] (fun h10=>
 again (IntKind.wrap .i64 (t81+(1:Int))) h10))
 else
 LoopW2 (α1:=Sl) (α2:=Int) (fun again1 x4 t88 h10=>
 (if (decide (t88<(40:Int)))=true then
 NewW [(.int .u8 (8:Int))] (fun a h11=>
 zaj 1 1 [(.int .u8 (0:Int))] ⟨x4.base,x4.len,x4.cap⟩ ⟨(some a),1,1⟩ (fun r10 h12=>
 again1 r10 (IntKind.wrap .i64 (t88+(1:Int))) h12) h11) h10
 else
 SemV none P (convert 33 9 r5.v) shStr h10 fun x5=>
 SemV none P (convert 33 9 r7.v) shStr h10 fun x6=>
 LetW ((!((ByteArray.toList x5)==(ByteArray.toList x6))) || (((x4.len:Nat):Int) !=(IntKind.wrap .i64 (((r7.len:Nat):Int)+(40:Int))))) fun y2=>
 (if y2=true then
 Q false h10
 else
 (((0:Int)≤(min2I ((b.len:Nat):Int) (2097152:Int))∧(min2I ((b.len:Nat):Int) (2097152:Int))≤((b.cap:Nat):Int))∧LetW (α:=Sl) ⟨(sbase b.base 1 0 b.cap),((Int.toNat (min2I ((b.len:Nat):Int) (2097152:Int)))-0),(b.cap-0)⟩ fun y3=>
 MakeW 1 [(.int .u8 (0:Int))] (0:Int) (IntKind.wrap .i64 (((y3.len:Nat):Int)+(2:Int))) (fun r10 h11=>
 zaj 1 1 [(.int .u8 (0:Int))] r10 y3 (fun r11 h12=>
 NewW [(.int .u8 (161:Int)),(.int .u8 (162:Int))] (fun a h13=>
 zaj 1 1 [(.int .u8 (0:Int))] r11 ⟨(some a),2,2⟩ (fun r12 h14=>
 (((0:Int)≤((y3.len:Nat):Int)∧((y3.len:Nat):Int)≤((r12.cap:Nat):Int))∧LetW (α:=Sl) ⟨(sbase r12.base 1 0 r12.cap),((Int.toNat ((y3.len:Nat):Int))-0),(r12.cap-0)⟩ fun y4=>
 Call4 P zeo [y4.v] sh_api_Config sh_api_State (shInt .i64) (shInt .i64) (fun r13 r14 r15 r16 h15=>
 (((0:Int)≤((y3.len:Nat):Int)∧((y3.len:Nat):Int)≤((r12.cap:Nat):Int))∧LetW (α:=Sl) ⟨(sbase r12.base 1 0 r12.cap),((Int.toNat ((y3.len:Nat):Int))-0),(r12.cap-0)⟩ fun y5=>
 Call4 P zeo [y5.v] sh_api_Config sh_api_State (shInt .i64) (shInt .i64) (fun r17 r18 r19 r20 h16=>
 (((0:Int)≤((y3.len:Nat):Int)∧((y3.len:Nat):Int)≤((r12.cap:Nat):Int))∧LetW (α:=Sl) ⟨(sbase r12.base 1 0 r12.cap),((Int.toNat ((y3.len:Nat):Int))-0),(r12.cap-0)⟩ fun y6=>
 SemV none P (convert 33 9 y6.v) shStr h16 fun x7=>
 SemV none P (convert 33 9 y3.v) shStr h16 fun x8=>
 (((!(!((ByteArray.toList x7)==(ByteArray.toList x8))))=true→(InB r12.base r12.len ((y3.len:Nat):Int)))∧LdW (some (!(!((ByteArray.toList x7)==(ByteArray.toList x8))))) (shInt .u8) h16 (sat r12.base 1 ((y3.len:Nat):Int)) fun x9=>
 LetW ((!((ByteArray.toList x7)==(ByteArray.toList x8))) || (x9 !=(161:Int))) fun y7=>
 (((!y7)=true→(InB r12.base r12.len (IntKind.wrap .i64 (((y3.len:Nat):Int)+(1:Int)))))∧LdW (some (!y7)) (shInt .u8) h16 (sat r12.base 1 (IntKind.wrap .i64 (((y3.len:Nat):Int)+(1:Int)))) fun x10=>
 LetW (y7 || (x10 !=(162:Int))) fun y8=>
 (if y8=true then
 Q false h16
 else
 LoopW1 (α1:=Int) (fun again2 t167 h17=>
 (if (decide (t167<((r12.len:Nat):Int)))=true then
 ((InB r12.base r12.len t167)∧LdW none (shInt .u8) h17 (sat r12.base 1 t167) fun x11=>
 ((InB r12.base r12.len t167)∧StW h17 (sat r12.base 1 t167) [(.int .u8 (bitsI .xor .u8 x11 (66:Int)))] (fun h18=>
 again2 (IntKind.wrap .i64 (t167+(1:Int))) h18)))
 else
 Call4 P zdq [y3.v] sh_api_Config sh_api_State (shInt .i64) (shInt .i64) (fun r21 r22 r23 r24 h18=>
 EffC (some (!(r15 !=r23))) (CallT P zbp [r13.v,r21.v] zag) (fun r25 h19=>
 LetW ((r15 !=r23) || (!r25)) fun y9=>
 EffC (some (!y9)) (CallT P zbp [r17.v,r21.v] zag) (fun r26 h20=>
 LetW (y9 || (!r26)) fun y10=>
 EffC (some (!y10)) (CallT P zig [r14.v,r18.v,r22.v] zag) (fun r27 h21=>
 LetW (y10 || (!r27)) fun y11=>
 (if y11=true then
 Q false h21
 else
 Call0 P zce [r14.v,(.int .i64 (55:Int))] (fun h22=>
 LoopW1 (α1:=Int) (fun again3 t211 h23=>
 (if (decide (t211<((r13.Procs.len:Nat):Int)))=true then
 ((InB r13.Procs.base r13.Procs.len t211)∧LdW none shSl h23 (Addr.add (sat r13.Procs.base 2 t211) 1) fun x11=>
 LoopW1 (α1:=Int) (fun again4 t221 h24=>
 (if (decide (t221<((x11.len:Nat):Int)))=true then
 ((InB r13.Procs.base r13.Procs.len t211)∧LdW none shSl h24 (Addr.add (sat r13.Procs.base 2 t211) 1) fun x12=>
 ((InB x12.base x12.len t221)∧StW h24 (sat x12.base 5 t221) [(.int .i64 (55:Int)),(.int .i64 (0:Int)),(.int .i64 (0:Int)),(.int .i64 (0:Int)),(.int .i64 (0:Int))] (fun h25=>
 again4 (IntKind.wrap .i64 (t221+(1:Int))) h25)))
 else
 ((InB r13.Procs.base r13.Procs.len t211)∧LdW none shSl h24 (Addr.add (sat r13.Procs.base 2 t211) 1) fun x12=>
 NewW [(.int .i64 (55:Int)),(.int .i64 (0:Int)),(.int .i64 (0:Int)),(.int .i64 (0:Int)),(.int .i64 (0:Int))] (fun a1 h25=>
 ((True∧(True∧((LdIs h25 (Addr.add (sat r13.Procs.base 2 t211) 1) [x12.v])∧True)))∧zaj 5 40 [(.int .i64 (0:Int)),(.int .i64 (0:Int)),(.int .i64 (0:Int)),(.int .i64 (0:Int)),(.int .i64 (0:Int))] x12 ⟨(some a1),1,1⟩ (fun r28 h26=>
 ((True∧True)∧((InB r13.Procs.base r13.Procs.len t211)∧StW h26 (Addr.add (sat r13.Procs.base 2 t211) 1) [r28.v] (fun h27=>
 again3 (IntKind.wrap .i64 (t211+(1:Int))) h27)))) h25)) h24))) (0:Int) h23)
 else
 CallT P zbp [r17.v,r21.v] zag (fun r28 h24=>
 EffC (some r28) (CallT P zbq [r18.v,r22.v] zag) (fun r29 h25=>
 LetW (r28&&r29) fun y12=>
 Q y12 h25) h24) h23)) (0:Int) h22) h21)) h20) h19) h18) h17)) (0:Int) h16))))) h15)) h14)) h13) h12) h11) h10)))) ⟨r3.base,r3.len,r3.cap⟩ (0:Int) h9)) (0:Int) h8)) h7)) h6) h5) h4) h3) h2)) h1)) h
def zhg (P:Program)  (Q:(Bool→(Hp→Prop))) (h:Hp):Prop:=
 Call2 P zhb [] sh_api_Config sh_api_State (fun r r1 h1=>
 Call2 P zlr [r.v,r1.v] shSl (shInt .i64) (fun r2 r3 h2=>
 Call4 P zeo [r2.v] sh_api_Config sh_api_State (shInt .i64) (shInt .i64) (fun r4 r5 r6 r7 h3=>
 NewW [(.int .u8 (70:Int)),(.int .u8 (66:Int)),(.int .u8 (83:Int)),(.int .u8 (78:Int)),(.int .u8 (2:Int))] (fun a h4=>
 MarkW (some a) (fun r8 h5=>
 Call4 P zeo [(.slice (some a) 5 5)] sh_api_Config sh_api_State (shInt .i64) (shInt .i64) (fun r9 r10 r11 r12 h6=>
 LetW ((r3==(0:Int))&&(((r2.len:Nat):Int)==(147:Int))) fun y=>
 LetW (y&&(r6==(0:Int))) fun y1=>
 LetW (y1&&(r7==(0:Int))) fun y2=>
 EffC (some y2) (CallT P zbp [r.v,r4.v] zag) (fun r13 h7=>
 LetW (y2&&r13) fun y3=>
 EffC (some y3) (CallT P zbq [r1.v,r5.v] zag) (fun r14 h8=>
 LetW (y3&&r14) fun y4=>
 LetW (y4&&(r11==(4:Int))) fun y5=>
 LetW (y5&&(r12==(4:Int))) fun y6=>
 Q y6 h8) h7) h6) h5) h4) h3) h2) h1) h
def zil (P:Program) (c:S_api_Config) (s:S_api_State) (Q:(Bool→(Hp→Prop))) (h:Hp):Prop:=
 CallT P zpj [c.v] zag (fun r h1=>
 LetW ((!r) || (decide (((s.Parts.len:Nat):Int)>(1048576:Int)))) fun y=>
 LetW (y || (decide (((s.Procs.len:Nat):Int)>(1048576:Int)))) fun y1=>
 (if y1=true then
 Q true h1
 else
 LoopW2 (α1:=Int) (α2:=Int) (fun again left i h2=>
 LetW ((decide (i<((s.Parts.len:Nat):Int)))&&(decide (left≥(0:Int)))) fun y2=>
 (if y2=true then
 ((InB s.Parts.base s.Parts.len i)∧LdW none sh_api_Part h2 (sat s.Parts.base 6 i) fun x=>
 LoopW2 (α1:=Int) (α2:=Int) (fun again1 left1 k h3=>
 LetW ((decide (k<((x.Queues.len:Nat):Int)))&&(decide (left1≥(0:Int)))) fun y3=>
 (if y3=true then
 ((InB x.Queues.base x.Queues.len k)∧LdW none shSl h3 (sat x.Queues.base 1 k) fun x1=>
 again1 (IntKind.wrap .i64 (left1-((x1.len:Nat):Int))) (IntKind.wrap .i64 (k+(1:Int))) h3)
 else
 again left1 (IntKind.wrap .i64 (i+(1:Int))) h3)) (IntKind.wrap .i64 (left-(IntKind.wrap .i64 ((IntKind.wrap .i64 ((IntKind.wrap .i64 ((1:Int)+((x.Log.len:Nat):Int)))+((x.Owners.len:Nat):Int)))+((x.Queues.len:Nat):Int))))) (0:Int) h2)
 else
 LoopW2 (α1:=Int) (α2:=Int) (fun again1 left1 i1 h3=>
 LetW ((decide (i1<((s.Procs.len:Nat):Int)))&&(decide (left1≥(0:Int)))) fun y3=>
 (if y3=true then
 ((InB s.Procs.base s.Procs.len i1)∧LdW none shSl h3 (Addr.add (sat s.Procs.base 15 i1) 14) fun x=>
 LoopW2 (α1:=Int) (α2:=Int) (fun again2 left2 k h4=>
 LetW ((decide (k<((x.len:Nat):Int)))&&(decide (left2≥(0:Int)))) fun y4=>
 (if y4=true then
 ((InB x.base x.len k)∧LdW none shSl h4 (Addr.add (sat x.base 4 k) 0) fun x1=>
 ((InB x.base x.len k)∧LdW none shSl h4 (Addr.add (sat x.base 4 k) 1) fun x2=>
 again2 (IntKind.wrap .i64 (left2-(IntKind.wrap .i64 (((x1.len:Nat):Int)+((x2.len:Nat):Int))))) (IntKind.wrap .i64 (k+(1:Int))) h4))
 else
 again1 left2 (IntKind.wrap .i64 (i1+(1:Int))) h4)) (IntKind.wrap .i64 (left1-(IntKind.wrap .i64 ((1:Int)+((x.len:Nat):Int))))) (0:Int) h3)
 else
 Q (decide (left1<(0:Int))) h3)) left (0:Int) h2)) (1048576:Int) (0:Int) h1)) h
def zvb (P:Program) (c:S_api_Config) (s:S_api_State) (Q:(Sl→(Int→(Hp→Prop)))) (h:Hp):Prop:=
 CallT P zuu [c.v,s.v] (shInt .i64) (fun r h1=>
 (if (r !=(0:Int))=true then
 Q ⟨none,0,0⟩ r h1
 else
 Call2 P zuv [c.v] shSl (shInt .i64) (fun r1 r2 h2=>
 (if (r2 !=(0:Int))=true then
 Q ⟨none,0,0⟩ r2 h2
 else
 NewW [(.int .u8 (70:Int)),(.int .u8 (66:Int)),(.int .u8 (83:Int)),(.int .u8 (78:Int)),(.int .u8 (1:Int))] (fun a h3=>
 MarkW (some a) (fun r3 h4=>
 NewW [(.slice (some a) 5 5)] (fun a1 h5=>
 NilW none (some a1) fun p=>
 Call0 P zai [(.pointer (some (Addr.add p 0))),(.int .i64 ((r1.len:Nat):Int)),(.int .i64 (4:Int))] (fun h6=>
 NilW none (some a1) fun p1=>
 LdW none shSl h6 (Addr.add (Addr.add p1 0) 0) fun x=>
 zaj 1 1 [(.int .u8 (0:Int))] x ⟨r1.base,r1.len,r1.cap⟩ (fun r4 h7=>
 NilW none (some a1) fun p2=>
 StW h7 (Addr.add (Addr.add p2 0) 0) [r4.v] (fun h8=>
 NilW none (some a1) fun p3=>
 Call0 P zax [(.pointer (some (Addr.add p3 0))),(.int .i64 s.Tick),(.int .i64 (8:Int))] (fun h9=>
 LoopW1 (α1:=Int) (fun again t59 h10=>
 (if (decide (t59<((s.Parts.len:Nat):Int)))=true then
 ((InB s.Parts.base s.Parts.len t59)∧LdW none sh_api_Part h10 (sat s.Parts.base 6 t59) fun x1=>
 Call0 P zhu [(.pointer (some a1)),x1.v] (fun h11=>
 again (IntKind.wrap .i64 (t59+(1:Int))) h11) h10)
 else
 LoopW1 (α1:=Int) (fun again1 t70 h11=>
 (if (decide (t70<((s.Procs.len:Nat):Int)))=true then
 ((InB s.Procs.base s.Procs.len t70)∧LdW none sh_api_Process h11 (sat s.Procs.base 15 t70) fun x1=>
 Call0 P zhv [(.pointer (some a1)),x1.v] (fun h12=>
 again1 (IntKind.wrap .i64 (t70+(1:Int))) h12) h11)
 else
 NilW none (some a1) fun p4=>
 LdW none shSl h11 (Addr.add (Addr.add p4 0) 0) fun x1=>
 Q x1 (0:Int) h11)) (0:Int) h10)) (0:Int) h9) h8)) h6) h5) h4) h3) h2)) h1)) h
def zgf (P:Program) (c:S_api_Config) (s:S_api_State) (Q:(Sl→(Int→(Hp→Prop)))) (h:Hp):Prop:=
 CallT P zjj [c.v,s.v] (shInt .i64) (fun r h1=>
 (if (r !=(0:Int))=true then
 Q ⟨none,0,0⟩ r h1
 else
 Call2 P zfy [c.v] shSl (shInt .i64) (fun r1 r2 h2=>
 NewW [(.int .u8 (70:Int)),(.int .u8 (66:Int)),(.int .u8 (83:Int)),(.int .u8 (78:Int)),(.int .u8 (1:Int))] (fun a h3=>
 CallT P zam [(.slice (some a) 5 5),(.int .u64 (IntKind.wrap .u64 ((r1.len:Nat):Int))),(.int .i64 (4:Int))] shSl (fun r3 h4=>
 zaj 1 1 [(.int .u8 (0:Int))] r3 ⟨r1.base,r1.len,r1.cap⟩ (fun r4 h5=>
 CallT P zam [r4.v,(.int .u64 (IntKind.wrap .u64 s.Tick)),(.int .i64 (8:Int))] shSl (fun r5 h6=>
 LoopW2 (α1:=Sl) (α2:=Int) (fun again b i h7=>
 (if (decide (i<((s.Parts.len:Nat):Int)))=true then
 ((InB s.Parts.base s.Parts.len i)∧LdW none sh_api_Part h7 (sat s.Parts.base 6 i) fun x=>
 CallT P zoe [b.v,x.v] shSl (fun r6 h8=>
 again r6 (IntKind.wrap .i64 (i+(1:Int))) h8) h7)
 else
 LoopW2 (α1:=Sl) (α2:=Int) (fun again1 b1 i1 h8=>
 (if (decide (i1<((s.Procs.len:Nat):Int)))=true then
 ((InB s.Procs.base s.Procs.len i1)∧LdW none sh_api_Process h8 (sat s.Procs.base 15 i1) fun x=>
 CallT P zlk [b1.v,x.v] shSl (fun r6 h9=>
 again1 r6 (IntKind.wrap .i64 (i1+(1:Int))) h9) h8)
 else
 Q ⟨b1.base,b1.len,b1.cap⟩ (0:Int) h8)) ⟨b.base,b.len,b.cap⟩ (0:Int) h7)) r5 (0:Int) h6) h5) h4) h3) h2) h1)) h
def zpu (P:Program) (b:Sl) (Q:(S_api_Config→(S_api_State→(Int→(Int→(Hp→Prop)))))) (h:Hp):Prop:=
 (if (decide (((b.len:Nat):Int)>(1048576:Int)))=true then
 Q ⟨⟨none,0,0⟩,⟨none,0,0⟩,(0:Int),(0:Int),(0:Int),(0:Int),⟨none,0,0⟩⟩ ⟨(0:Int),⟨none,0,0⟩,⟨none,0,0⟩⟩ (22:Int) (1048576:Int) h
 else
 NewW [b.v,(.int .i64 (0:Int)),(.int .i64 (0:Int)),(.int .i64 (0:Int)),(.slice none 0 0),(.slice none 0 0),(.int .i64 (0:Int)),(.int .i64 (0:Int)),(.int .i64 (0:Int)),(.int .i64 (0:Int)),(.slice none 0 0)] (fun a h1=>
 CallT P zqv [(.pointer (some a))] sh_api_State (fun r h2=>
 JoinW0 (fun k=>
 NilW none (some a) fun p=>
 LdW none (shInt .i64) h2 (Addr.add (Addr.add p 0) 2) fun x=>
 (if (x==(0:Int))=true then
 NilW none (some a) fun p1=>
 NilW none (some a) fun p2=>
 LdW none sh_api_Config h2 (Addr.add p2 4) fun x1=>
 CallT P zuu [x1.v,r.v] (shInt .i64) (fun r1 h3=>
 Call0 P zbg [(.pointer (some (Addr.add p1 0))),(.int .i64 r1),(.int .i64 (0:Int))] (fun h4=>
 k h4) h3) h2
 else
 k h2))
 (fun h3=>
 NilW none (some a) fun p=>
 LdW none (shInt .i64) h3 (Addr.add (Addr.add p 0) 2) fun x=>
 (if (x !=(0:Int))=true then
 NilW none (some a) fun p1=>
 LdW none (shInt .i64) h3 (Addr.add (Addr.add p1 0) 2) fun x1=>
 NilW none (some a) fun p2=>
 LdW none (shInt .i64) h3 (Addr.add (Addr.add p2 0) 3) fun x2=>
 (((LdIs h3 (Addr.add (Addr.add p1 0) 2) [(.int .i64 x1)])∧((LdIs h3 (Addr.add (Addr.add p2 0) 3) [(.int .i64 x2)])∧True))∧(((LdIs h3 (Addr.add (Addr.add p1 0) 2) [(.int .i64 x1)])∧((LdIs h3 (Addr.add (Addr.add p2 0) 3) [(.int .i64 x2)])∧True))∧Q ⟨⟨none,0,0⟩,⟨none,0,0⟩,(0:Int),(0:Int),(0:Int),(0:Int),⟨none,0,0⟩⟩ ⟨(0:Int),⟨none,0,0⟩,⟨none,0,0⟩⟩ x1 x2 h3))
 else
 NilW none (some a) fun p1=>
 LdW none sh_api_Config h3 (Addr.add p1 4) fun x1=>
 ((True∧True)∧Q x1 r (0:Int) (0:Int) h3)))) h1) h)
def zdr (P:Program) (b:Sl) (Q:(S_api_Config→(S_api_State→(Int→(Int→(Hp→Prop)))))) (h:Hp):Prop:=
 (if (decide (((b.len:Nat):Int)>(1048576:Int)))=true then
 Q ⟨⟨none,0,0⟩,⟨none,0,0⟩,(0:Int),(0:Int),(0:Int),(0:Int),⟨none,0,0⟩⟩ ⟨(0:Int),⟨none,0,0⟩,⟨none,0,0⟩⟩ (22:Int) (1048576:Int) h
 else
 NewW [b.v,(.int .i64 (0:Int)),(.int .i64 (0:Int)),(.int .i64 (0:Int))] (fun a h1=>
 Call0 P zck [(.pointer (some a)),(.string ⟨#[70,66,83,78,1]⟩)] (fun h2=>
 CallT P zls [(.pointer (some a))] sh_api_Config (fun r h3=>
 CallT P zae [(.pointer (some a)),(.int .i64 (8:Int))] (shInt .u64) (fun r1 h4=>
 LoopW2 (α1:=Int) (α2:=S_api_State) (fun again i s h5=>
 NilW (some (decide (i<((r.Labels.len:Nat):Int)))) (some a) fun p=>
 LdW (some (decide (i<((r.Labels.len:Nat):Int)))) (shInt .i64) h5 (Addr.add p 2) fun x=>
 LetW ((decide (i<((r.Labels.len:Nat):Int)))&&(x==(0:Int))) fun y=>
 (if y=true then
 CallT P zkj [(.pointer (some a)),r.v] sh_api_Part (fun r2 h6=>
 ((True∧True)∧NewW [(.int .i64 r2.Cursor),r2.Log.v,(.int .i64 r2.Lost),(.int .i64 r2.Forbidden),r2.Owners.v,r2.Queues.v] (fun a1 h7=>
 ((True∧True)∧zaj 6 96 [(.int .i64 (0:Int)),(.slice none 0 0),(.int .i64 (0:Int)),(.int .i64 (0:Int)),(.slice none 0 0),(.slice none 0 0)] ⟨s.Parts.base,s.Parts.len,s.Parts.cap⟩ ⟨(some a1),1,1⟩ (fun r3 h8=>
 again (IntKind.wrap .i64 (i+(1:Int))) ⟨s.Tick,r3,s.Procs⟩ h8) h7)) h6)) h5
 else
 LoopW2 (α1:=Int) (α2:=S_api_State) (fun again1 i1 s1 h6=>
 NilW (some (decide (i1<((r.Procs.len:Nat):Int)))) (some a) fun p1=>
 LdW (some (decide (i1<((r.Procs.len:Nat):Int)))) (shInt .i64) h6 (Addr.add p1 2) fun x1=>
 LetW ((decide (i1<((r.Procs.len:Nat):Int)))&&(x1==(0:Int))) fun y1=>
 (if y1=true then
 CallT P zhw [(.pointer (some a)),r.v] sh_api_Process (fun r2 h7=>
 ((True∧True)∧NewW [(.int .i64 r2.State),(.int .i64 r2.PC),(.int .i64 r2.Regs_0),(.int .i64 r2.Regs_1),(.int .i64 r2.Regs_2),(.int .i64 r2.Regs_3),(.int .i64 r2.Regs_4),(.int .i64 r2.Regs_5),(.int .i64 r2.Regs_6),(.int .i64 r2.Regs_7),(.int .i64 r2.Cursor),(.int .i64 r2.Timer),(.bool r2.Fired),(.int .i64 r2.Wake),r2.Lanes.v] (fun a1 h8=>
 ((True∧True)∧zaj 15 136 [(.int .i64 (0:Int)),(.int .i64 (0:Int)),(.int .i64 (0:Int)),(.int .i64 (0:Int)),(.int .i64 (0:Int)),(.int .i64 (0:Int)),(.int .i64 (0:Int)),(.int .i64 (0:Int)),(.int .i64 (0:Int)),(.int .i64 (0:Int)),(.int .i64 (0:Int)),(.int .i64 (0:Int)),(.bool false),(.int .i64 (0:Int)),(.slice none 0 0)] ⟨s1.Procs.base,s1.Procs.len,s1.Procs.cap⟩ ⟨(some a1),1,1⟩ (fun r3 h9=>
 again1 (IntKind.wrap .i64 (i1+(1:Int))) ⟨s1.Tick,s1.Parts,r3⟩ h9) h8)) h7)) h6
 else
 JoinW0 (fun k=>
 NilW none (some a) fun p2=>
 LdW none (shInt .i64) h6 (Addr.add p2 2) fun x2=>
 NilW (some (x2==(0:Int))) (some a) fun p3=>
 LdW (some (x2==(0:Int))) (shInt .i64) h6 (Addr.add p3 1) fun x3=>
 LetW ((x2==(0:Int))&&(decide (x3<((b.len:Nat):Int)))) fun y2=>
 (if y2=true then
 NilW none (some a) fun p4=>
 LdW none (shInt .i64) h6 (Addr.add p4 1) fun x4=>
 Call0 P zak [(.pointer (some a)),(.int .i64 (6:Int)),(.int .i64 x4)] (fun h7=>
 k h7) h6
 else
 k h6))
 (fun h7=>
 NilW none (some a) fun p2=>
 LdW none (shInt .i64) h7 (Addr.add p2 2) fun x2=>
 (if (x2 !=(0:Int))=true then
 NilW none (some a) fun p3=>
 LdW none (shInt .i64) h7 (Addr.add p3 2) fun x3=>
 NilW none (some a) fun p4=>
 LdW none (shInt .i64) h7 (Addr.add p4 3) fun x4=>
 (((LdIs h7 (Addr.add p3 2) [(.int .i64 x3)])∧((LdIs h7 (Addr.add p4 3) [(.int .i64 x4)])∧True))∧(((LdIs h7 (Addr.add p3 2) [(.int .i64 x3)])∧((LdIs h7 (Addr.add p4 3) [(.int .i64 x4)])∧True))∧Q ⟨⟨none,0,0⟩,⟨none,0,0⟩,(0:Int),(0:Int),(0:Int),(0:Int),⟨none,0,0⟩⟩ ⟨(0:Int),⟨none,0,0⟩,⟨none,0,0⟩⟩ x3 x4 h7))
 else
 CallT P zjj [r.v,s1.v] (shInt .i64) (fun r2 h8=>
 (if (r2 !=(0:Int))=true then
 Q ⟨⟨none,0,0⟩,⟨none,0,0⟩,(0:Int),(0:Int),(0:Int),(0:Int),⟨none,0,0⟩⟩ ⟨(0:Int),⟨none,0,0⟩,⟨none,0,0⟩⟩ r2 (0:Int) h8
 else
 ((True∧True)∧Q r s1 (0:Int) (0:Int) h8))) h7)))) (0:Int) s h5)) (0:Int) ⟨(IntKind.wrap .i64 r1),⟨none,0,0⟩,⟨none,0,0⟩⟩ h4) h3) h2) h1) h)
def zim (P:Program) (a:S_api_Config) (b:S_api_Config) (Q:(Bool→(Hp→Prop))) (h:Hp):Prop:=
 CallT P zkk [a.v,b.v] zag (fun r h1=>
 LoopW2 (α1:=Bool) (α2:=Int) (fun again ok i h2=>
 LetW (ok&&(decide (i<((a.Procs.len:Nat):Int)))) fun y=>
 (if y=true then
 ((InB a.Procs.base a.Procs.len i)∧LdW none shSl h2 (Addr.add (sat a.Procs.base 2 i) 1) fun x=>
 ((InB b.Procs.base b.Procs.len i)∧LdW none shSl h2 (Addr.add (sat b.Procs.base 2 i) 1) fun x1=>
 CallT P zof [x.v,x1.v] zag (fun r1 h3=>
 again r1 (IntKind.wrap .i64 (i+(1:Int))) h3) h2))
 else
 Q ok h2)) r (0:Int) h1) h
def zin (P:Program) (a:S_api_State) (b:S_api_State) (Q:(Bool→(Hp→Prop))) (h:Hp):Prop:=
 LetW ((a.Tick !=b.Tick) || (((a.Parts.len:Nat):Int) !=((b.Parts.len:Nat):Int))) fun y=>
 LetW (y || (((a.Procs.len:Nat):Int) !=((b.Procs.len:Nat):Int))) fun y1=>
 (if y1=true then
 Q false h
 else
 LoopW1 (α1:=Int) (fun again i h1=>
 (if (decide (i<((a.Parts.len:Nat):Int)))=true then
 ((InB a.Parts.base a.Parts.len i)∧LdW none sh_api_Part h1 (sat a.Parts.base 6 i) fun x=>
 ((InB b.Parts.base b.Parts.len i)∧LdW none sh_api_Part h1 (sat b.Parts.base 6 i) fun x1=>
 CallT P zkl [x.v,x1.v] zag (fun r h2=>
 (if (!r)=true then
 Q false h2
 else
 again (IntKind.wrap .i64 (i+(1:Int))) h2)) h1))
 else
 LoopW1 (α1:=Int) (fun again1 i1 h2=>
 (if (decide (i1<((a.Procs.len:Nat):Int)))=true then
 ((InB a.Procs.base a.Procs.len i1)∧LdW none sh_api_Process h2 (sat a.Procs.base 15 i1) fun x=>
 ((InB b.Procs.base b.Procs.len i1)∧LdW none sh_api_Process h2 (sat b.Procs.base 15 i1) fun x1=>
 CallT P zhx [x.v,x1.v] zag (fun r h3=>
 (if (!r)=true then
 Q false h3
 else
 again1 (IntKind.wrap .i64 (i1+(1:Int))) h3)) h2))
 else
 Q true h2)) (0:Int) h1)) (0:Int) h)
def zvc (P:Program) (c:S_api_Config) (s:S_api_State) (Q:(Int→(Hp→Prop))) (h:Hp):Prop:=
 Call2 P zbb1 [c.v] (shInt .i64) (shInt .i64) (fun r r1 h1=>
 (if (r !=(0:Int))=true then
 Q r h1
 else
 Call3 P zdl1 [c.Labels.v] shPtr (shInt .i64) (shInt .i64) (fun r2 r3 r4 h2=>
 LetW ((decide (s.Tick<(0:Int))) || (decide (s.Tick>(4611686018427387904:Int)))) fun y=>
 LetW (y || (((s.Parts.len:Nat):Int) !=((c.Labels.len:Nat):Int))) fun y1=>
 LetW (y1 || (((s.Procs.len:Nat):Int) !=((c.Procs.len:Nat):Int))) fun y2=>
 (if y2=true then
 Q (4:Int) h2
 else
 LoopW1 (α1:=Int) (fun again t61 h3=>
 (if (decide (t61<((s.Parts.len:Nat):Int)))=true then
 CallT P zpk [(.agg #[c.Labels.v,c.Table.v,(.int .i64 c.Fuel),(.int .i64 c.Lane),(.int .i64 c.Locks),(.int .i64 c.Log),c.Procs.v,(.int .i64 s.Tick),s.Parts.v,s.Procs.v,(.pointer r2)]),(.int .i64 t61)] zag (fun r5 h4=>
 (if (!r5)=true then
 Q (4:Int) h4
 else
 again (IntKind.wrap .i64 (t61+(1:Int))) h4)) h3
 else
 LoopW1 (α1:=Int) (fun again1 t72 h4=>
 (if (decide (t72<((s.Procs.len:Nat):Int)))=true then
 CallT P zpl [(.agg #[c.Labels.v,c.Table.v,(.int .i64 c.Fuel),(.int .i64 c.Lane),(.int .i64 c.Locks),(.int .i64 c.Log),c.Procs.v,(.int .i64 s.Tick),s.Parts.v,s.Procs.v,(.pointer r2)]),(.int .i64 t72)] zag (fun r5 h5=>
 (if (!r5)=true then
 Q (4:Int) h5
 else
 again1 (IntKind.wrap .i64 (t72+(1:Int))) h5)) h4
 else
 CallT P zog [(.agg #[c.Labels.v,c.Table.v,(.int .i64 c.Fuel),(.int .i64 c.Lane),(.int .i64 c.Locks),(.int .i64 c.Log),c.Procs.v,(.int .i64 s.Tick),s.Parts.v,s.Procs.v,(.pointer r2)])] zag (fun r5 h5=>
 (if (!r5)=true then
 Q (4:Int) h5
 else
 Q (0:Int) h5)) h4)) (0:Int) h3)) (0:Int) h2)) h1)) h
def zej (P:Program) (s:S_api_State) (Q:(S_api_State→(Hp→Prop))) (h:Hp):Prop:=
 LoopW2 (α1:=Int) (α2:=S_api_State) (fun again i out h1=>
 (if (decide (i<((s.Parts.len:Nat):Int)))=true then
 ((InB s.Parts.base s.Parts.len i)∧LdW none sh_api_Part h1 (sat s.Parts.base 6 i) fun x=>
 NewW [] (fun a h2=>
 zaj 3 24 [(.int .i64 (0:Int)),(.int .i64 (0:Int)),(.int .i64 (0:Int))] ⟨(some a),0,0⟩ x.Log (fun r h3=>
 NewW [] (fun a1 h4=>
 zaj 1 8 [(.int .i64 (0:Int))] ⟨(some a1),0,0⟩ x.Owners (fun r1 h5=>
 NewW [] (fun a2 h6=>
 LoopW2 (α1:=Sl) (α2:=Int) (fun again1 q k h7=>
 (if (decide (k<((x.Queues.len:Nat):Int)))=true then
 NewW [] (fun a3 h8=>
 ((InB x.Queues.base x.Queues.len k)∧LdW none shSl h8 (sat x.Queues.base 1 k) fun x1=>
 zaj 1 8 [(.int .i64 (0:Int))] ⟨(some a3),0,0⟩ x1 (fun r2 h9=>
 NewW [r2.v] (fun a4 h10=>
 zaj 1 24 [(.slice none 0 0)] ⟨q.base,q.len,q.cap⟩ ⟨(some a4),1,1⟩ (fun r3 h11=>
 again1 r3 (IntKind.wrap .i64 (k+(1:Int))) h11) h10) h9) h8)) h7
 else
 NewW [(.int .i64 x.Cursor),r.v,(.int .i64 x.Lost),(.int .i64 x.Forbidden),r1.v,q.v] (fun a3 h8=>
 zaj 6 96 [(.int .i64 (0:Int)),(.slice none 0 0),(.int .i64 (0:Int)),(.int .i64 (0:Int)),(.slice none 0 0),(.slice none 0 0)] ⟨out.Parts.base,out.Parts.len,out.Parts.cap⟩ ⟨(some a3),1,1⟩ (fun r2 h9=>
 again (IntKind.wrap .i64 (i+(1:Int))) ⟨out.Tick,r2,out.Procs⟩ h9) h8) h7)) ⟨(some a2),0,0⟩ (0:Int) h6) h5) h4) h3) h2) h1)
 else
 LoopW2 (α1:=Int) (α2:=S_api_State) (fun again1 p out1 h2=>
 (if (decide (p<((s.Procs.len:Nat):Int)))=true then
 ((InB s.Procs.base s.Procs.len p)∧LdW none sh_api_Process h2 (sat s.Procs.base 15 p) fun x=>
 NewW [] (fun a h3=>
 LoopW2 (α1:=Sl) (α2:=Int) (fun again2 l k h4=>
 (if (decide (k<((x.Lanes.len:Nat):Int)))=true then
 ((InB x.Lanes.base x.Lanes.len k)∧LdW none sh_api_Lane h4 (sat x.Lanes.base 4 k) fun x1=>
 NewW [] (fun a1 h5=>
 zaj 1 8 [(.int .i64 (0:Int))] ⟨(some a1),0,0⟩ x1.Values (fun r h6=>
 NewW [] (fun a2 h7=>
 zaj 2 16 [(.int .i64 (0:Int)),(.int .i64 (0:Int))] ⟨(some a2),0,0⟩ x1.Waiters (fun r1 h8=>
 NewW [r.v,r1.v,(.int .i64 x1.Taken),(.int .i64 x1.Dropped)] (fun a3 h9=>
 zaj 4 64 [(.slice none 0 0),(.slice none 0 0),(.int .i64 (0:Int)),(.int .i64 (0:Int))] ⟨l.base,l.len,l.cap⟩ ⟨(some a3),1,1⟩ (fun r2 h10=>
 again2 r2 (IntKind.wrap .i64 (k+(1:Int))) h10) h9) h8) h7) h6) h5) h4)
 else
 NewW [(.int .i64 x.State),(.int .i64 x.PC),(.int .i64 x.Regs_0),(.int .i64 x.Regs_1),(.int .i64 x.Regs_2),(.int .i64 x.Regs_3),(.int .i64 x.Regs_4),(.int .i64 x.Regs_5),(.int .i64 x.Regs_6),(.int .i64 x.Regs_7),(.int .i64 x.Cursor),(.int .i64 x.Timer),(.bool x.Fired),(.int .i64 x.Wake),l.v] (fun a1 h5=>
 zaj 15 136 [(.int .i64 (0:Int)),(.int .i64 (0:Int)),(.int .i64 (0:Int)),(.int .i64 (0:Int)),(.int .i64 (0:Int)),(.int .i64 (0:Int)),(.int .i64 (0:Int)),(.int .i64 (0:Int)),(.int .i64 (0:Int)),(.int .i64 (0:Int)),(.int .i64 (0:Int)),(.int .i64 (0:Int)),(.bool false),(.int .i64 (0:Int)),(.slice none 0 0)] ⟨out1.Procs.base,out1.Procs.len,out1.Procs.cap⟩ ⟨(some a1),1,1⟩ (fun r h6=>
 again1 (IntKind.wrap .i64 (p+(1:Int))) ⟨out1.Tick,out1.Parts,r⟩ h6) h5) h4)) ⟨(some a),0,0⟩ (0:Int) h3) h2)
 else
 Q out1 h2)) (0:Int) out h1)) (0:Int) ⟨s.Tick,⟨none,0,0⟩,⟨none,0,0⟩⟩ h
def zhh (P:Program) (s:S_api_State) (mark:Int) (Q:(Hp→Prop)) (h:Hp):Prop:=
 LoopW1 (α1:=Int) (fun again t18 h1=>
 (if (decide (t18<((s.Parts.len:Nat):Int)))=true then
 ((InB s.Parts.base s.Parts.len t18)∧NilW none (some (sat s.Parts.base 6 t18)) fun p=>
 LdW none shSl h1 (Addr.add p 1) fun x=>
 LoopW1 (α1:=Int) (fun again1 t30 h2=>
 (if (decide (t30<((x.len:Nat):Int)))=true then
 NilW none (some (sat s.Parts.base 6 t18)) fun p1=>
 LdW none shSl h2 (Addr.add p1 1) fun x1=>
 ((InB x1.base x1.len t30)∧StW h2 (sat x1.base 3 t30) [(.int .i64 (0:Int)),(.int .i64 mark),(.int .i64 (0:Int))] (fun h3=>
 again1 (IntKind.wrap .i64 (t30+(1:Int))) h3))
 else
 NilW none (some (sat s.Parts.base 6 t18)) fun p1=>
 LdW none shSl h2 (Addr.add p1 4) fun x1=>
 LoopW1 (α1:=Int) (fun again2 t47 h3=>
 (if (decide (t47<((x1.len:Nat):Int)))=true then
 NilW none (some (sat s.Parts.base 6 t18)) fun p2=>
 LdW none shSl h3 (Addr.add p2 4) fun x2=>
 ((InB x2.base x2.len t47)∧StW h3 (sat x2.base 1 t47) [(.int .i64 mark)] (fun h4=>
 again2 (IntKind.wrap .i64 (t47+(1:Int))) h4))
 else
 NilW none (some (sat s.Parts.base 6 t18)) fun p2=>
 LdW none shSl h3 (Addr.add p2 5) fun x2=>
 LoopW1 (α1:=Int) (fun again3 t63 h4=>
 (if (decide (t63<((x2.len:Nat):Int)))=true then
 NilW none (some (sat s.Parts.base 6 t18)) fun p3=>
 LdW none shSl h4 (Addr.add p3 5) fun x3=>
 ((InB x3.base x3.len t63)∧LdW none shSl h4 (sat x3.base 1 t63) fun x4=>
 LoopW1 (α1:=Int) (fun again4 t74 h5=>
 (if (decide (t74<((x4.len:Nat):Int)))=true then
 NilW none (some (sat s.Parts.base 6 t18)) fun p4=>
 LdW none shSl h5 (Addr.add p4 5) fun x5=>
 ((InB x5.base x5.len t63)∧LdW none shSl h5 (sat x5.base 1 t63) fun x6=>
 ((InB x6.base x6.len t74)∧StW h5 (sat x6.base 1 t74) [(.int .i64 mark)] (fun h6=>
 again4 (IntKind.wrap .i64 (t74+(1:Int))) h6)))
 else
 NilW none (some (sat s.Parts.base 6 t18)) fun p4=>
 LdW none shSl h5 (Addr.add p4 5) fun x5=>
 NilW none (some (sat s.Parts.base 6 t18)) fun p5=>
 LdW none shSl h5 (Addr.add p5 5) fun x6=>
 ((InB x6.base x6.len t63)∧LdW none shSl h5 (sat x6.base 1 t63) fun x7=>
 NewW [(.int .i64 mark),(.int .i64 mark),(.int .i64 mark)] (fun a h6=>
 (((LdIs h6 (Addr.add p4 5) [x5.v])∧((LdIs h6 (Addr.add p5 5) [x6.v])∧((LdIs h6 (sat x6.base 1 t63) [x7.v])∧True)))∧zaj 1 8 [(.int .i64 (0:Int))] x7 ⟨(some a),3,3⟩ (fun r h7=>
 (((LdIs h7 (Addr.add p4 5) [x5.v])∧True)∧((InB x5.base x5.len t63)∧StW h7 (sat x5.base 1 t63) [r.v] (fun h8=>
 again3 (IntKind.wrap .i64 (t63+(1:Int))) h8)))) h6)) h5))) (0:Int) h4)
 else
 NilW none (some (sat s.Parts.base 6 t18)) fun p3=>
 LdW none shSl h4 (Addr.add p3 1) fun x3=>
 NewW [(.int .i64 (0:Int)),(.int .i64 mark),(.int .i64 (0:Int)),(.int .i64 (0:Int)),(.int .i64 mark),(.int .i64 (0:Int))] (fun a h5=>
 zaj 3 24 [(.int .i64 (0:Int)),(.int .i64 (0:Int)),(.int .i64 (0:Int))] x3 ⟨(some a),2,2⟩ (fun r h6=>
 NilW none (some (sat s.Parts.base 6 t18)) fun p4=>
 StW h6 (Addr.add p4 1) [r.v] (fun h7=>
 NilW none (some (sat s.Parts.base 6 t18)) fun p5=>
 LdW none shSl h7 (Addr.add p5 4) fun x4=>
 NewW [(.int .i64 mark),(.int .i64 mark)] (fun a1 h8=>
 zaj 1 8 [(.int .i64 (0:Int))] x4 ⟨(some a1),2,2⟩ (fun r1 h9=>
 NilW none (some (sat s.Parts.base 6 t18)) fun p6=>
 StW h9 (Addr.add p6 4) [r1.v] (fun h10=>
 again (IntKind.wrap .i64 (t18+(1:Int))) h10)) h8) h7)) h5) h4)) (0:Int) h3)) (0:Int) h2)) (0:Int) h1)
 else
 LoopW1 (α1:=Int) (fun again1 t135 h2=>
 (if (decide (t135<((s.Procs.len:Nat):Int)))=true then
 ((InB s.Procs.base s.Procs.len t135)∧LdW none shSl h2 (Addr.add (sat s.Procs.base 15 t135) 14) fun x=>
 LoopW1 (α1:=Int) (fun again2 t145 h3=>
 (if (decide (t145<((x.len:Nat):Int)))=true then
 ((InB s.Procs.base s.Procs.len t135)∧LdW none shSl h3 (Addr.add (sat s.Procs.base 15 t135) 14) fun x1=>
 ((InB x1.base x1.len t145)∧NilW none (some (sat x1.base 4 t145)) fun p=>
 LdW none shSl h3 (Addr.add p 0) fun x2=>
 LoopW1 (α1:=Int) (fun again3 t161 h4=>
 (if (decide (t161<((x2.len:Nat):Int)))=true then
 NilW none (some (sat x1.base 4 t145)) fun p1=>
 LdW none shSl h4 (Addr.add p1 0) fun x3=>
 ((InB x3.base x3.len t161)∧StW h4 (sat x3.base 1 t161) [(.int .i64 mark)] (fun h5=>
 again3 (IntKind.wrap .i64 (t161+(1:Int))) h5))
 else
 NilW none (some (sat x1.base 4 t145)) fun p1=>
 LdW none shSl h4 (Addr.add p1 1) fun x3=>
 LoopW1 (α1:=Int) (fun again4 t177 h5=>
 (if (decide (t177<((x3.len:Nat):Int)))=true then
 NilW none (some (sat x1.base 4 t145)) fun p2=>
 LdW none shSl h5 (Addr.add p2 1) fun x4=>
 ((InB x4.base x4.len t177)∧StW h5 (sat x4.base 2 t177) [(.int .i64 mark),(.int .i64 (0:Int))] (fun h6=>
 again4 (IntKind.wrap .i64 (t177+(1:Int))) h6))
 else
 NilW none (some (sat x1.base 4 t145)) fun p2=>
 LdW none shSl h5 (Addr.add p2 0) fun x4=>
 NewW [(.int .i64 mark),(.int .i64 mark)] (fun a h6=>
 zaj 1 8 [(.int .i64 (0:Int))] x4 ⟨(some a),2,2⟩ (fun r h7=>
 NilW none (some (sat x1.base 4 t145)) fun p3=>
 StW h7 (Addr.add p3 0) [r.v] (fun h8=>
 NilW none (some (sat x1.base 4 t145)) fun p4=>
 LdW none shSl h8 (Addr.add p4 1) fun x5=>
 NewW [(.int .i64 mark),(.int .i64 (0:Int)),(.int .i64 mark),(.int .i64 (0:Int))] (fun a1 h9=>
 zaj 2 16 [(.int .i64 (0:Int)),(.int .i64 (0:Int))] x5 ⟨(some a1),2,2⟩ (fun r1 h10=>
 NilW none (some (sat x1.base 4 t145)) fun p5=>
 StW h10 (Addr.add p5 1) [r1.v] (fun h11=>
 NilW none (some (sat x1.base 4 t145)) fun p6=>
 StW h11 (Addr.add p6 2) [(.int .i64 mark)] (fun h12=>
 again2 (IntKind.wrap .i64 (t145+(1:Int))) h12))) h9) h8)) h6) h5)) (0:Int) h4)) (0:Int) h3))
 else
 again1 (IntKind.wrap .i64 (t135+(1:Int))) h3)) (0:Int) h2)
 else
 Q h2)) (0:Int) h1)) (0:Int) h
def zio (P:Program) (a:S_api_State) (b:S_api_State) (want:S_api_State) (Q:(Bool→(Hp→Prop))) (h:Hp):Prop:=
 CallT P zbq [a.v,want.v] zag (fun r h1=>
 EffC (some r) (CallT P zbq [b.v,want.v] zag) (fun r1 h2=>
 LetW (r&&r1) fun y=>
 Q y h2) h1) h
def zhi (P:Program)  (Q:(S_api_Config→(S_api_State→(Hp→Prop)))) (h:Hp):Prop:=
 NewW [(.int .u64 (0:Int))] (fun a h1=>
 NewW [(.int .i64 (0:Int))] (fun a1 h2=>
 NewW [(.int .i64 (0:Int)),(.slice none 0 0)] (fun a2 h3=>
 NewW [(.int .i64 (0:Int)),(.slice none 0 0),(.int .i64 (0:Int)),(.int .i64 (0:Int)),(.slice none 0 0),(.slice none 0 0)] (fun a3 h4=>
 NewW [(.slice none 0 0),(.slice none 0 0),(.int .i64 (0:Int)),(.int .i64 (0:Int)),(.slice none 0 0),(.slice none 0 0),(.int .i64 (0:Int)),(.int .i64 (0:Int))] (fun a4 h5=>
 NewW [(.int .i64 (0:Int)),(.int .i64 (0:Int)),(.int .i64 (0:Int)),(.int .i64 (0:Int)),(.int .i64 (0:Int)),(.int .i64 (0:Int)),(.int .i64 (0:Int)),(.int .i64 (0:Int)),(.int .i64 (0:Int)),(.int .i64 (0:Int)),(.int .i64 (0:Int)),(.int .i64 (0:Int)),(.bool false),(.int .i64 (0:Int)),(.slice (some a4) 2 2)] (fun a5 h6=>
 Q ⟨⟨(some a),1,1⟩,⟨(some a1),1,1⟩,(1:Int),(1:Int),(0:Int),(0:Int),⟨(some a2),1,1⟩⟩ ⟨(0:Int),⟨(some a3),1,1⟩,⟨(some a5),1,1⟩⟩ h6) h5) h4) h3) h2) h1) h
def zjr (P:Program) (c:S_api_Config) (Q:(Bool→(Hp→Prop))) (h:Hp):Prop:=
 LetW ((decide (((c.Labels.len:Nat):Int)>(1048576:Int))) || (decide (((c.Table.len:Nat):Int)>(1048576:Int)))) fun y=>
 LetW (y || (decide (((c.Procs.len:Nat):Int)>(1048576:Int)))) fun y1=>
 (if y1=true then
 Q false h
 else
 LoopW2 (α1:=Int) (α2:=Int) (fun again left i h1=>
 LetW ((decide (i<((c.Procs.len:Nat):Int)))&&(decide (left≥(0:Int)))) fun y2=>
 (if y2=true then
 ((InB c.Procs.base c.Procs.len i)∧LdW none shSl h1 (Addr.add (sat c.Procs.base 2 i) 1) fun x=>
 again (IntKind.wrap .i64 (left-(IntKind.wrap .i64 ((1:Int)+((x.len:Nat):Int))))) (IntKind.wrap .i64 (i+(1:Int))) h1)
 else
 Q (decide (left≥(0:Int))) h1)) (1048576:Int) (0:Int) h)
def zvd (P:Program) (c:S_api_Config) (Q:(Sl→(Int→(Hp→Prop)))) (h:Hp):Prop:=
 Call2 P zbb1 [c.v] (shInt .i64) (shInt .i64) (fun r r1 h1=>
 (if (r !=(0:Int))=true then
 Q ⟨none,0,0⟩ r h1
 else
 NewW [(.int .u8 (70:Int)),(.int .u8 (66:Int)),(.int .u8 (67:Int)),(.int .u8 (70:Int)),(.int .u8 (1:Int))] (fun a h2=>
 MarkW (some a) (fun r2 h3=>
 NewW [(.int .u8 (IntKind.wrap .u8 ((c.Labels.len:Nat):Int)))] (fun a1 h4=>
 zaj 1 1 [(.int .u8 (0:Int))] ⟨(some a),5,5⟩ ⟨(some a1),1,1⟩ (fun r3 h5=>
 LoopW2 (α1:=Sl) (α2:=Int) (fun again b t35 h6=>
 (if (decide (t35<((c.Labels.len:Nat):Int)))=true then
 ((InB c.Labels.base c.Labels.len t35)∧LdW none (shInt .u64) h6 (sat c.Labels.base 1 t35) fun x=>
 CallT P znp [b.v,(.int .u64 x),(.int .i64 (8:Int))] shSl (fun r4 h7=>
 again r4 (IntKind.wrap .i64 (t35+(1:Int))) h7) h6)
 else
 NewW [(.int .u8 (IntKind.wrap .u8 ((c.Table.len:Nat):Int)))] (fun a2 h7=>
 zaj 1 1 [(.int .u8 (0:Int))] ⟨b.base,b.len,b.cap⟩ ⟨(some a2),1,1⟩ (fun r4 h8=>
 LoopW2 (α1:=Sl) (α2:=Int) (fun again1 b1 t53 h9=>
 (if (decide (t53<((c.Table.len:Nat):Int)))=true then
 ((InB c.Table.base c.Table.len t53)∧LdW none (shInt .i64) h9 (sat c.Table.base 1 t53) fun x=>
 NewW [(.int .u8 (IntKind.wrap .u8 x))] (fun a3 h10=>
 zaj 1 1 [(.int .u8 (0:Int))] ⟨b1.base,b1.len,b1.cap⟩ ⟨(some a3),1,1⟩ (fun r5 h11=>
 again1 r5 (IntKind.wrap .i64 (t53+(1:Int))) h11) h10) h9)
 else
 CallT P znp [b1.v,(.int .u64 (IntKind.wrap .u64 c.Fuel)),(.int .i64 (2:Int))] shSl (fun r5 h10=>
 NewW [(.int .u8 (IntKind.wrap .u8 c.Lane)),(.int .u8 (IntKind.wrap .u8 c.Locks))] (fun a3 h11=>
 zaj 1 1 [(.int .u8 (0:Int))] r5 ⟨(some a3),2,2⟩ (fun r6 h12=>
 CallT P znp [r6.v,(.int .u64 (IntKind.wrap .u64 c.Log)),(.int .i64 (2:Int))] shSl (fun r7 h13=>
 NewW [(.int .u8 (IntKind.wrap .u8 ((c.Procs.len:Nat):Int)))] (fun a4 h14=>
 zaj 1 1 [(.int .u8 (0:Int))] r7 ⟨(some a4),1,1⟩ (fun r8 h15=>
 LoopW2 (α1:=Sl) (α2:=Int) (fun again2 b2 t92 h16=>
 (if (decide (t92<((c.Procs.len:Nat):Int)))=true then
 ((InB c.Procs.base c.Procs.len t92)∧LdW none sh_api_Proc h16 (sat c.Procs.base 2 t92) fun x=>
 Call3 P zps [x.Code.v] shSl (shInt .i64) (shInt .i64) (fun r9 r10 r11 h17=>
 NewW [(.int .u8 (IntKind.wrap .u8 x.Part))] (fun a5 h18=>
 zaj 1 1 [(.int .u8 (0:Int))] ⟨b2.base,b2.len,b2.cap⟩ ⟨(some a5),1,1⟩ (fun r12 h19=>
 CallT P znp [r12.v,(.int .u64 (IntKind.wrap .u64 ((x.Code.len:Nat):Int))),(.int .i64 (2:Int))] shSl (fun r13 h20=>
 zaj 1 1 [(.int .u8 (0:Int))] r13 ⟨r9.base,r9.len,r9.cap⟩ (fun r14 h21=>
 again2 r14 (IntKind.wrap .i64 (t92+(1:Int))) h21) h20) h19) h18) h17) h16)
 else
 Q ⟨b2.base,b2.len,b2.cap⟩ (0:Int) h16)) r8 (0:Int) h15) h14) h13) h12) h11) h10) h9)) r4 (0:Int) h8) h7) h6)) r3 (0:Int) h5) h4) h3) h2) h1)) h
def zjs (P:Program) (w:Option Addr) (n:Int) (many:Int) (Q:(Hp→Prop)) (h:Hp):Prop:=
 Call0 P zax [(.pointer w),(.int .i64 n),(.int .i64 many)] (fun h1=>
 Q h1) h
def zlx (P:Program) (w:Option Addr) (n:Int) (many:Int) (Q:(Hp→Prop)) (h:Hp):Prop:=
 LoopW1 (α1:=Int) (fun again t8 h1=>
 (if (decide (t8<many))=true then
 NilW none w fun p=>
 LdW none shSl h1 (Addr.add p 0) fun x=>
 ((0:Int)≤(IntKind.wrap .i64 ((8:Int)*t8))∧NewW [(.int .u8 (IntKind.wrap .u8 (shrI .u64 (IntKind.wrap .u64 n) (IntKind.wrap .i64 ((8:Int)*t8)))))] (fun a h2=>
 (((LdIs h2 (Addr.add p 0) [x.v])∧True)∧zaj 1 1 [(.int .u8 (0:Int))] x ⟨(some a),1,1⟩ (fun r h3=>
 NilW none w fun p1=>
 StW h3 (Addr.add p1 0) [r.v] (fun h4=>
 again (IntKind.wrap .i64 (t8+(1:Int))) h4)) h2)) h1)
 else
 Q h1)) (0:Int) h
def zly (P:Program) (w:Option Addr) (x:S_api_Part) (Q:(Hp→Prop)) (h:Hp):Prop:=
 NilW none w fun p=>
 Call0 P zai [(.pointer (some (Addr.add p 0))),(.int .i64 x.Cursor),(.int .i64 (1:Int))] (fun h1=>
 NilW none w fun p1=>
 Call0 P zai [(.pointer (some (Addr.add p1 0))),(.int .i64 ((x.Log.len:Nat):Int)),(.int .i64 (2:Int))] (fun h2=>
 LoopW1 (α1:=Int) (fun again t26 h3=>
 (if (decide (t26<((x.Log.len:Nat):Int)))=true then
 ((InB x.Log.base x.Log.len t26)∧LdW none sh_api_Entry h3 (sat x.Log.base 3 t26) fun x1=>
 NilW none w fun p2=>
 Call0 P zax [(.pointer (some (Addr.add p2 0))),(.int .i64 x1.Tick),(.int .i64 (8:Int))] (fun h4=>
 NilW none w fun p3=>
 Call0 P zai [(.pointer (some (Addr.add p3 0))),(.int .i64 x1.Proc),(.int .i64 (1:Int))] (fun h5=>
 NilW none w fun p4=>
 Call0 P zax [(.pointer (some (Addr.add p4 0))),(.int .i64 x1.Value_),(.int .i64 (8:Int))] (fun h6=>
 again (IntKind.wrap .i64 (t26+(1:Int))) h6) h5) h4) h3)
 else
 NilW none w fun p2=>
 Call0 P zai [(.pointer (some (Addr.add p2 0))),(.int .i64 x.Lost),(.int .i64 (2:Int))] (fun h4=>
 NilW none w fun p3=>
 Call0 P zai [(.pointer (some (Addr.add p3 0))),(.int .i64 x.Forbidden),(.int .i64 (2:Int))] (fun h5=>
 LoopW1 (α1:=Int) (fun again1 t64 h6=>
 (if (decide (t64<((x.Owners.len:Nat):Int)))=true then
 ((InB x.Owners.base x.Owners.len t64)∧LdW none (shInt .i64) h6 (sat x.Owners.base 1 t64) fun x1=>
 NilW none w fun p4=>
 Call0 P zai [(.pointer (some (Addr.add p4 0))),(.int .i64 (IntKind.wrap .i64 (x1+(1:Int)))),(.int .i64 (1:Int))] (fun h7=>
 NilW none w fun p5=>
 ((InB x.Queues.base x.Queues.len t64)∧LdW none shSl h7 (sat x.Queues.base 1 t64) fun x2=>
 Call0 P zai [(.pointer (some (Addr.add p5 0))),(.int .i64 ((x2.len:Nat):Int)),(.int .i64 (1:Int))] (fun h8=>
 ((InB x.Queues.base x.Queues.len t64)∧LdW none shSl h8 (sat x.Queues.base 1 t64) fun x3=>
 LoopW1 (α1:=Int) (fun again2 t91 h9=>
 (if (decide (t91<((x3.len:Nat):Int)))=true then
 ((InB x3.base x3.len t91)∧LdW none (shInt .i64) h9 (sat x3.base 1 t91) fun x4=>
 NilW none w fun p6=>
 Call0 P zai [(.pointer (some (Addr.add p6 0))),(.int .i64 x4),(.int .i64 (1:Int))] (fun h10=>
 again2 (IntKind.wrap .i64 (t91+(1:Int))) h10) h9)
 else
 again1 (IntKind.wrap .i64 (t64+(1:Int))) h9)) (0:Int) h8)) h7)) h6)
 else
 Q h6)) (0:Int) h5) h4) h3)) (0:Int) h2) h1) h
def zlz (P:Program) (w:Option Addr) (x:S_api_Process) (Q:(Hp→Prop)) (h:Hp):Prop:=
 NilW none w fun p=>
 Call0 P zai [(.pointer (some (Addr.add p 0))),(.int .i64 x.State),(.int .i64 (1:Int))] (fun h1=>
 NilW none w fun p1=>
 Call0 P zai [(.pointer (some (Addr.add p1 0))),(.int .i64 x.PC),(.int .i64 (2:Int))] (fun h2=>
 LoopW1 (α1:=Int) (fun again t23 h3=>
 (if (decide (t23<(8:Int)))=true then
 (((0:Int)≤t23∧t23<(8:Int))∧∃x1:Int,((List.get?Internal (α:=Value) [(.int .i64 x.Regs_0),(.int .i64 x.Regs_1),(.int .i64 x.Regs_2),(.int .i64 x.Regs_3),(.int .i64 x.Regs_4),(.int .i64 x.Regs_5),(.int .i64 x.Regs_6),(.int .i64 x.Regs_7)] ((Int.toNat t23)*1))=(some (.int .i64 x1))∧NilW none w fun p2=>
 Call0 P zax [(.pointer (some (Addr.add p2 0))),(.int .i64 x1),(.int .i64 (8:Int))] (fun h4=>
 again (IntKind.wrap .i64 (t23+(1:Int))) h4) h3))
 else
 NilW none w fun p2=>
 Call0 P zai [(.pointer (some (Addr.add p2 0))),(.int .i64 x.Cursor),(.int .i64 (1:Int))] (fun h4=>
 NilW none w fun p3=>
 Call0 P zax [(.pointer (some (Addr.add p3 0))),(.int .i64 x.Timer),(.int .i64 (8:Int))] (fun h5=>
 JoinW1 (α1:=Int) (fun k=>
 (if x.Fired=true then
 k (1:Int) h5
 else
 k (0:Int) h5))
 (fun fired h6=>
 NilW none w fun p4=>
 Call0 P zai [(.pointer (some (Addr.add p4 0))),(.int .i64 fired),(.int .i64 (1:Int))] (fun h7=>
 NilW none w fun p5=>
 Call0 P zax [(.pointer (some (Addr.add p5 0))),(.int .i64 x.Wake),(.int .i64 (8:Int))] (fun h8=>
 LoopW1 (α1:=Int) (fun again1 t60 h9=>
 (if (decide (t60<((x.Lanes.len:Nat):Int)))=true then
 ((InB x.Lanes.base x.Lanes.len t60)∧LdW none sh_api_Lane h9 (sat x.Lanes.base 4 t60) fun x1=>
 Call0 P zhy [(.pointer w),x1.v] (fun h10=>
 again1 (IntKind.wrap .i64 (t60+(1:Int))) h10) h9)
 else
 Q h9)) (0:Int) h8) h7) h6)) h4) h3)) (0:Int) h2) h1) h
def zjt (P:Program) (c:S_api_Config) (s:S_api_State) (Q:(Int→(Hp→Prop))) (h:Hp):Prop:=
 Call2 P zfg [c.v] (shInt .i64) (shInt .i64) (fun r r1 h1=>
 (if (r !=(0:Int))=true then
 Q r h1
 else
 CallT P znk [c.v,s.v] zag (fun r2 h2=>
 (if (!r2)=true then
 Q (4:Int) h2
 else
 NewW [c.Labels.v,c.Table.v,(.int .i64 c.Fuel),(.int .i64 c.Lane),(.int .i64 c.Locks),(.int .i64 c.Log),c.Procs.v,(.int .i64 s.Tick),s.Parts.v,s.Procs.v] (fun a h3=>
 LoopW2 (α1:=Bool) (α2:=Int) (fun again is i h4=>
 (if (decide (i<((s.Parts.len:Nat):Int)))=true then
 EffC (some is) (CallT P zgr [(.pointer (some a)),(.int .i64 i)] zag) (fun r3 h5=>
 LetW (is&&r3) fun y=>
 again y (IntKind.wrap .i64 (i+(1:Int))) h5) h4
 else
 LoopW2 (α1:=Bool) (α2:=Int) (fun again1 is1 p h5=>
 (if (decide (p<((s.Procs.len:Nat):Int)))=true then
 EffC (some is1) (CallT P zff [(.pointer (some a)),(.int .i64 p)] zag) (fun r3 h6=>
 LetW (is1&&r3) fun y=>
 again1 y (IntKind.wrap .i64 (p+(1:Int))) h6) h5
 else
 LoopW2 (α1:=Bool) (α2:=Int) (fun again2 is2 p1 h6=>
 LetW ((decide (p1<((s.Procs.len:Nat):Int)))&&is2) fun y=>
 (if y=true then
 EffC (some is2) (CallT P zfs [(.pointer (some a)),(.int .i64 p1)] zag) (fun r3 h7=>
 LetW (is2&&r3) fun y1=>
 again2 y1 (IntKind.wrap .i64 (p1+(1:Int))) h7) h6
 else
 (if (!is2)=true then
 Q (4:Int) h6
 else
 Q (0:Int) h6))) is1 (0:Int) h5)) is (0:Int) h4)) r2 (0:Int) h3) h2)) h1)) h
def zgg (P:Program) (c:S_api_Config) (Q:(Sl→(Int→(Hp→Prop)))) (h:Hp):Prop:=
 Call2 P zfg [c.v] (shInt .i64) (shInt .i64) (fun r r1 h1=>
 (if (r !=(0:Int))=true then
 Q ⟨none,0,0⟩ r h1
 else
 NewW [(.int .u8 (70:Int)),(.int .u8 (66:Int)),(.int .u8 (67:Int)),(.int .u8 (70:Int)),(.int .u8 (1:Int)),(.int .u8 (IntKind.wrap .u8 ((c.Labels.len:Nat):Int)))] (fun a h2=>
 LoopW2 (α1:=Sl) (α2:=Int) (fun again b i h3=>
 (if (decide (i<((c.Labels.len:Nat):Int)))=true then
 ((InB c.Labels.base c.Labels.len i)∧LdW none (shInt .u64) h3 (sat c.Labels.base 1 i) fun x=>
 CallT P zam [b.v,(.int .u64 x),(.int .i64 (8:Int))] shSl (fun r2 h4=>
 again r2 (IntKind.wrap .i64 (i+(1:Int))) h4) h3)
 else
 NewW [(.int .u8 (IntKind.wrap .u8 ((c.Table.len:Nat):Int)))] (fun a1 h4=>
 zaj 1 1 [(.int .u8 (0:Int))] ⟨b.base,b.len,b.cap⟩ ⟨(some a1),1,1⟩ (fun r2 h5=>
 LoopW2 (α1:=Sl) (α2:=Int) (fun again1 b1 i1 h6=>
 (if (decide (i1<((c.Table.len:Nat):Int)))=true then
 ((InB c.Table.base c.Table.len i1)∧LdW none (shInt .i64) h6 (sat c.Table.base 1 i1) fun x=>
 NewW [(.int .u8 (IntKind.wrap .u8 x))] (fun a2 h7=>
 zaj 1 1 [(.int .u8 (0:Int))] ⟨b1.base,b1.len,b1.cap⟩ ⟨(some a2),1,1⟩ (fun r3 h8=>
 again1 r3 (IntKind.wrap .i64 (i1+(1:Int))) h8) h7) h6)
 else
 CallT P zam [b1.v,(.int .u64 (IntKind.wrap .u64 c.Fuel)),(.int .i64 (2:Int))] shSl (fun r3 h7=>
 NewW [(.int .u8 (IntKind.wrap .u8 c.Lane)),(.int .u8 (IntKind.wrap .u8 c.Locks))] (fun a2 h8=>
 zaj 1 1 [(.int .u8 (0:Int))] r3 ⟨(some a2),2,2⟩ (fun r4 h9=>
 CallT P zam [r4.v,(.int .u64 (IntKind.wrap .u64 c.Log)),(.int .i64 (2:Int))] shSl (fun r5 h10=>
 NewW [(.int .u8 (IntKind.wrap .u8 ((c.Procs.len:Nat):Int)))] (fun a3 h11=>
 zaj 1 1 [(.int .u8 (0:Int))] r5 ⟨(some a3),1,1⟩ (fun r6 h12=>
 LoopW2 (α1:=Sl) (α2:=Int) (fun again2 b2 i2 h13=>
 (if (decide (i2<((c.Procs.len:Nat):Int)))=true then
 ((InB c.Procs.base c.Procs.len i2)∧LdW none sh_api_Proc h13 (sat c.Procs.base 2 i2) fun x=>
 NewW [(.int .u8 (IntKind.wrap .u8 x.Part))] (fun a4 h14=>
 zaj 1 1 [(.int .u8 (0:Int))] ⟨b2.base,b2.len,b2.cap⟩ ⟨(some a4),1,1⟩ (fun r7 h15=>
 CallT P zam [r7.v,(.int .u64 (IntKind.wrap .u64 ((x.Code.len:Nat):Int))),(.int .i64 (2:Int))] shSl (fun r8 h16=>
 LoopW2 (α1:=Sl) (α2:=Int) (fun again3 b3 k h17=>
 (if (decide (k<((x.Code.len:Nat):Int)))=true then
 ((InB x.Code.base x.Code.len k)∧LdW none sh_api_Ins h17 (sat x.Code.base 5 k) fun x1=>
 CallT P zpm [b3.v,x1.v] shSl (fun r9 h18=>
 again3 r9 (IntKind.wrap .i64 (k+(1:Int))) h18) h17)
 else
 again2 ⟨b3.base,b3.len,b3.cap⟩ (IntKind.wrap .i64 (i2+(1:Int))) h17)) r8 (0:Int) h16) h15) h14) h13)
 else
 Q ⟨b2.base,b2.len,b2.cap⟩ (0:Int) h13)) r6 (0:Int) h12) h11) h10) h9) h8) h7) h6)) r2 (0:Int) h5) h4) h3)) ⟨(some a),6,6⟩ (0:Int) h2) h1)) h
def zgh (P:Program) (b:Sl) (n:Int) (many:Int) (Q:(Sl→(Hp→Prop))) (h:Hp):Prop:=
 LoopW2 (α1:=Sl) (α2:=Int) (fun again b1 i h1=>
 (if (decide (i<many))=true then
 ((0:Int)≤(IntKind.wrap .i64 ((8:Int)*i))∧NewW [(.int .u8 (IntKind.wrap .u8 (shrI .u64 n (IntKind.wrap .i64 ((8:Int)*i)))))] (fun a h2=>
 zaj 1 1 [(.int .u8 (0:Int))] ⟨b1.base,b1.len,b1.cap⟩ ⟨(some a),1,1⟩ (fun r h3=>
 again r (IntKind.wrap .i64 (i+(1:Int))) h3) h2) h1)
 else
 Q ⟨b1.base,b1.len,b1.cap⟩ h1)) b (0:Int) h
def ziq (P:Program) (b:Sl) (p:S_api_Part) (Q:(Sl→(Hp→Prop))) (h:Hp):Prop:=
 NewW [(.int .u8 (IntKind.wrap .u8 p.Cursor))] (fun a h1=>
 zaj 1 1 [(.int .u8 (0:Int))] b ⟨(some a),1,1⟩ (fun r h2=>
 CallT P zam [r.v,(.int .u64 (IntKind.wrap .u64 ((p.Log.len:Nat):Int))),(.int .i64 (2:Int))] shSl (fun r1 h3=>
 LoopW2 (α1:=Sl) (α2:=Int) (fun again b1 i h4=>
 (if (decide (i<((p.Log.len:Nat):Int)))=true then
 ((InB p.Log.base p.Log.len i)∧LdW none (shInt .i64) h4 (Addr.add (sat p.Log.base 3 i) 0) fun x=>
 CallT P zam [b1.v,(.int .u64 (IntKind.wrap .u64 x)),(.int .i64 (8:Int))] shSl (fun r2 h5=>
 ((InB p.Log.base p.Log.len i)∧LdW none (shInt .i64) h5 (Addr.add (sat p.Log.base 3 i) 1) fun x1=>
 NewW [(.int .u8 (IntKind.wrap .u8 x1))] (fun a1 h6=>
 zaj 1 1 [(.int .u8 (0:Int))] r2 ⟨(some a1),1,1⟩ (fun r3 h7=>
 ((InB p.Log.base p.Log.len i)∧LdW none (shInt .i64) h7 (Addr.add (sat p.Log.base 3 i) 2) fun x2=>
 CallT P zam [r3.v,(.int .u64 (IntKind.wrap .u64 x2)),(.int .i64 (8:Int))] shSl (fun r4 h8=>
 again r4 (IntKind.wrap .i64 (i+(1:Int))) h8) h7)) h6) h5)) h4)
 else
 CallT P zam [b1.v,(.int .u64 (IntKind.wrap .u64 p.Lost)),(.int .i64 (2:Int))] shSl (fun r2 h5=>
 CallT P zam [r2.v,(.int .u64 (IntKind.wrap .u64 p.Forbidden)),(.int .i64 (2:Int))] shSl (fun r3 h6=>
 LoopW2 (α1:=Sl) (α2:=Int) (fun again1 b2 i1 h7=>
 (if (decide (i1<((p.Owners.len:Nat):Int)))=true then
 ((InB p.Owners.base p.Owners.len i1)∧LdW none (shInt .i64) h7 (sat p.Owners.base 1 i1) fun x=>
 ((InB p.Queues.base p.Queues.len i1)∧LdW none shSl h7 (sat p.Queues.base 1 i1) fun x1=>
 NewW [(.int .u8 (IntKind.wrap .u8 (IntKind.wrap .i64 (x+(1:Int))))),(.int .u8 (IntKind.wrap .u8 ((x1.len:Nat):Int)))] (fun a1 h8=>
 zaj 1 1 [(.int .u8 (0:Int))] ⟨b2.base,b2.len,b2.cap⟩ ⟨(some a1),2,2⟩ (fun r4 h9=>
 LoopW2 (α1:=Sl) (α2:=Int) (fun again2 b3 k h10=>
 ((InB p.Queues.base p.Queues.len i1)∧LdW none shSl h10 (sat p.Queues.base 1 i1) fun x2=>
 (if (decide (k<((x2.len:Nat):Int)))=true then
 ((InB p.Queues.base p.Queues.len i1)∧LdW none shSl h10 (sat p.Queues.base 1 i1) fun x3=>
 ((InB x3.base x3.len k)∧LdW none (shInt .i64) h10 (sat x3.base 1 k) fun x4=>
 NewW [(.int .u8 (IntKind.wrap .u8 x4))] (fun a2 h11=>
 zaj 1 1 [(.int .u8 (0:Int))] ⟨b3.base,b3.len,b3.cap⟩ ⟨(some a2),1,1⟩ (fun r5 h12=>
 again2 r5 (IntKind.wrap .i64 (k+(1:Int))) h12) h11) h10))
 else
 again1 ⟨b3.base,b3.len,b3.cap⟩ (IntKind.wrap .i64 (i1+(1:Int))) h10))) r4 (0:Int) h9) h8) h7))
 else
 Q ⟨b2.base,b2.len,b2.cap⟩ h7)) r3 (0:Int) h6) h5) h4)) r1 (0:Int) h3) h2) h1) h
def zfj (P:Program) (b:Sl) (p:S_api_Process) (Q:(Sl→(Hp→Prop))) (h:Hp):Prop:=
 NewW [(.int .u8 (IntKind.wrap .u8 p.State))] (fun a h1=>
 zaj 1 1 [(.int .u8 (0:Int))] b ⟨(some a),1,1⟩ (fun r h2=>
 CallT P zam [r.v,(.int .u64 (IntKind.wrap .u64 p.PC)),(.int .i64 (2:Int))] shSl (fun r1 h3=>
 LoopW2 (α1:=Sl) (α2:=Int) (fun again b1 i h4=>
 (if (decide (i<(8:Int)))=true then
 (((0:Int)≤i∧i<(8:Int))∧∃x:Int,((List.get?Internal (α:=Value) [(.int .i64 p.State),(.int .i64 p.PC),(.int .i64 p.Regs_0),(.int .i64 p.Regs_1),(.int .i64 p.Regs_2),(.int .i64 p.Regs_3),(.int .i64 p.Regs_4),(.int .i64 p.Regs_5),(.int .i64 p.Regs_6),(.int .i64 p.Regs_7),(.int .i64 p.Cursor),(.int .i64 p.Timer),(.bool p.Fired),(.int .i64 p.Wake),p.Lanes.v] (2+((Int.toNat i)*1)))=(some (.int .i64 x))∧CallT P zam [b1.v,(.int .u64 (IntKind.wrap .u64 x)),(.int .i64 (8:Int))] shSl (fun r2 h5=>
 again r2 (IntKind.wrap .i64 (i+(1:Int))) h5) h4))
 else
 NewW [(.int .u8 (IntKind.wrap .u8 p.Cursor))] (fun a1 h5=>
 zaj 1 1 [(.int .u8 (0:Int))] ⟨b1.base,b1.len,b1.cap⟩ ⟨(some a1),1,1⟩ (fun r2 h6=>
 CallT P zam [r2.v,(.int .u64 (IntKind.wrap .u64 p.Timer)),(.int .i64 (8:Int))] shSl (fun r3 h7=>
 CallT P zpn [(.bool p.Fired)] (shInt .u8) (fun r4 h8=>
 NewW [(.int .u8 r4)] (fun a2 h9=>
 zaj 1 1 [(.int .u8 (0:Int))] r3 ⟨(some a2),1,1⟩ (fun r5 h10=>
 CallT P zam [r5.v,(.int .u64 (IntKind.wrap .u64 p.Wake)),(.int .i64 (8:Int))] shSl (fun r6 h11=>
 LoopW2 (α1:=Sl) (α2:=Int) (fun again1 b2 i1 h12=>
 (if (decide (i1<((p.Lanes.len:Nat):Int)))=true then
 ((InB p.Lanes.base p.Lanes.len i1)∧LdW none sh_api_Lane h12 (sat p.Lanes.base 4 i1) fun x=>
 NewW [(.int .u8 (IntKind.wrap .u8 ((x.Values.len:Nat):Int)))] (fun a3 h13=>
 zaj 1 1 [(.int .u8 (0:Int))] ⟨b2.base,b2.len,b2.cap⟩ ⟨(some a3),1,1⟩ (fun r7 h14=>
 LoopW2 (α1:=Sl) (α2:=Int) (fun again2 b3 k h15=>
 (if (decide (k<((x.Values.len:Nat):Int)))=true then
 ((InB x.Values.base x.Values.len k)∧LdW none (shInt .i64) h15 (sat x.Values.base 1 k) fun x1=>
 CallT P zam [b3.v,(.int .u64 (IntKind.wrap .u64 x1)),(.int .i64 (8:Int))] shSl (fun r8 h16=>
 again2 r8 (IntKind.wrap .i64 (k+(1:Int))) h16) h15)
 else
 NewW [(.int .u8 (IntKind.wrap .u8 ((x.Waiters.len:Nat):Int)))] (fun a4 h16=>
 zaj 1 1 [(.int .u8 (0:Int))] ⟨b3.base,b3.len,b3.cap⟩ ⟨(some a4),1,1⟩ (fun r8 h17=>
 LoopW2 (α1:=Sl) (α2:=Int) (fun again3 b4 k1 h18=>
 (if (decide (k1<((x.Waiters.len:Nat):Int)))=true then
 ((InB x.Waiters.base x.Waiters.len k1)∧LdW none (shInt .i64) h18 (Addr.add (sat x.Waiters.base 2 k1) 0) fun x1=>
 NewW [(.int .u8 (IntKind.wrap .u8 x1))] (fun a5 h19=>
 zaj 1 1 [(.int .u8 (0:Int))] ⟨b4.base,b4.len,b4.cap⟩ ⟨(some a5),1,1⟩ (fun r9 h20=>
 ((InB x.Waiters.base x.Waiters.len k1)∧LdW none (shInt .i64) h20 (Addr.add (sat x.Waiters.base 2 k1) 1) fun x2=>
 CallT P zam [r9.v,(.int .u64 (IntKind.wrap .u64 x2)),(.int .i64 (8:Int))] shSl (fun r10 h21=>
 again3 r10 (IntKind.wrap .i64 (k1+(1:Int))) h21) h20)) h19) h18)
 else
 CallT P zam [b4.v,(.int .u64 (IntKind.wrap .u64 x.Taken)),(.int .i64 (2:Int))] shSl (fun r9 h19=>
 CallT P zam [r9.v,(.int .u64 (IntKind.wrap .u64 x.Dropped)),(.int .i64 (2:Int))] shSl (fun r10 h20=>
 again1 r10 (IntKind.wrap .i64 (i1+(1:Int))) h20) h19) h18)) r8 (0:Int) h17) h16) h15)) r7 (0:Int) h14) h13) h12)
 else
 Q ⟨b2.base,b2.len,b2.cap⟩ h12)) r6 (0:Int) h11) h10) h9) h8) h7) h6) h5) h4)) r1 (0:Int) h3) h2) h1) h
def zlc (P:Program) (r:Option Addr) (Q:(S_api_State→(Hp→Prop))) (h:Hp):Prop:=
 LoopW1 (α1:=Int) (fun again t7 h1=>
 (if (decide (t7<(5:Int)))=true then
 JoinW0 (fun k=>
 NilW none r fun p=>
 LdW none (shInt .i64) h1 (Addr.add (Addr.add p 0) 1) fun x=>
 NilW none r fun p1=>
 CallT P zbm [(.pointer (some (Addr.add p1 0))),(.int .i64 (1:Int))] (shInt .i64) (fun r1 h2=>
 (((0:Int)≤t7∧t7<(5:Int))∧(if ((IntKind.wrap .u8 r1) !=(((UInt8.toNat (List.getD [70,66,83,78,1] (Int.toNat t7) 0)):Nat):Int))=true then
 NilW none r fun p2=>
 Call0 P zbg [(.pointer (some (Addr.add p2 0))),(.int .i64 (4:Int)),(.int .i64 x)] (fun h3=>
 k h3) h2
 else
 k h2))) h1)
 (fun h2=>
 again (IntKind.wrap .i64 (t7+(1:Int))) h2)
 else
 Call0 P zjk [(.pointer r)] (fun h2=>
 NilW none r fun p=>
 CallT P zbm [(.pointer (some (Addr.add p 0))),(.int .i64 (8:Int))] (shInt .i64) (fun r1 h3=>
 NilW none r fun p1=>
 LdW none shSl h3 (Addr.add (Addr.add p1 4) 0) fun x=>
 LoopW2 (α1:=Int) (α2:=S_api_State) (fun again1 t43 s h4=>
 (if (decide (t43<((x.len:Nat):Int)))=true then
 CallT P zsf [(.pointer r)] sh_api_Part (fun r2 h5=>
 ((True∧True)∧NewW [(.int .i64 r2.Cursor),r2.Log.v,(.int .i64 r2.Lost),(.int .i64 r2.Forbidden),r2.Owners.v,r2.Queues.v] (fun a h6=>
 ((True∧True)∧zaj 6 96 [(.int .i64 (0:Int)),(.slice none 0 0),(.int .i64 (0:Int)),(.int .i64 (0:Int)),(.slice none 0 0),(.slice none 0 0)] ⟨s.Parts.base,s.Parts.len,s.Parts.cap⟩ ⟨(some a),1,1⟩ (fun r3 h7=>
 again1 (IntKind.wrap .i64 (t43+(1:Int))) ⟨s.Tick,r3,s.Procs⟩ h7) h6)) h5)) h4
 else
 NilW none r fun p2=>
 LdW none shSl h4 (Addr.add (Addr.add p2 4) 6) fun x1=>
 LoopW2 (α1:=Int) (α2:=S_api_State) (fun again2 t59 s1 h5=>
 (if (decide (t59<((x1.len:Nat):Int)))=true then
 CallT P zsg [(.pointer r)] sh_api_Process (fun r2 h6=>
 ((True∧True)∧NewW [(.int .i64 r2.State),(.int .i64 r2.PC),(.int .i64 r2.Regs_0),(.int .i64 r2.Regs_1),(.int .i64 r2.Regs_2),(.int .i64 r2.Regs_3),(.int .i64 r2.Regs_4),(.int .i64 r2.Regs_5),(.int .i64 r2.Regs_6),(.int .i64 r2.Regs_7),(.int .i64 r2.Cursor),(.int .i64 r2.Timer),(.bool r2.Fired),(.int .i64 r2.Wake),r2.Lanes.v] (fun a h7=>
 ((True∧True)∧zaj 15 136 [(.int .i64 (0:Int)),(.int .i64 (0:Int)),(.int .i64 (0:Int)),(.int .i64 (0:Int)),(.int .i64 (0:Int)),(.int .i64 (0:Int)),(.int .i64 (0:Int)),(.int .i64 (0:Int)),(.int .i64 (0:Int)),(.int .i64 (0:Int)),(.int .i64 (0:Int)),(.int .i64 (0:Int)),(.bool false),(.int .i64 (0:Int)),(.slice none 0 0)] ⟨s1.Procs.base,s1.Procs.len,s1.Procs.cap⟩ ⟨(some a),1,1⟩ (fun r3 h8=>
 again2 (IntKind.wrap .i64 (t59+(1:Int))) ⟨s1.Tick,s1.Parts,r3⟩ h8) h7)) h6)) h5
 else
 NilW none r fun p3=>
 LdW none (shInt .i64) h5 (Addr.add (Addr.add p3 0) 1) fun x2=>
 NilW none r fun p4=>
 LdW none shSl h5 (Addr.add (Addr.add p4 0) 0) fun x3=>
 (if (decide (x2<((x3.len:Nat):Int)))=true then
 NilW none r fun p5=>
 NilW none r fun p6=>
 LdW none (shInt .i64) h5 (Addr.add (Addr.add p6 0) 1) fun x4=>
 Call0 P zbg [(.pointer (some (Addr.add p5 0))),(.int .i64 (6:Int)),(.int .i64 x4)] (fun h6=>
 Q s1 h6) h5
 else
 Q s1 h5))) (0:Int) s h4)) (0:Int) ⟨r1,⟨none,0,0⟩,⟨none,0,0⟩⟩ h3) h2) h1)) (0:Int) h
def zib (P:Program) (r:Option Addr) (e:Int) (place:Int) (Q:(Hp→Prop)) (h:Hp):Prop:=
 NilW none r fun p=>
 LdW none (shInt .i64) h (Addr.add p 2) fun x=>
 (if (x==(0:Int))=true then
 NilW none r fun p1=>
 StW h (Addr.add p1 2) [(.int .i64 e)] (fun h1=>
 NilW none r fun p2=>
 StW h1 (Addr.add p2 3) [(.int .i64 place)] (fun h2=>
 Q h2))
 else
 Q h)
def zds (P:Program) (r:Option Addr) (s:ByteArray) (Q:(Hp→Prop)) (h:Hp):Prop:=
 LoopW1 (α1:=Int) (fun again i h1=>
 (if (decide (i<(((ByteArray.size s):Nat):Int)))=true then
 JoinW0 (fun k=>
 NilW none r fun p=>
 LdW none (shInt .i64) h1 (Addr.add p 1) fun x=>
 CallT P zae [(.pointer r),(.int .i64 (1:Int))] (shInt .u64) (fun r1 h2=>
 NilW none r fun p1=>
 LdW none (shInt .i64) h2 (Addr.add p1 2) fun x1=>
 (((x1==(0:Int))=true→((0:Int)≤i∧i<(((ByteArray.size s):Nat):Int)))∧LetW ((x1==(0:Int))&&(r1 !=(IntKind.wrap .u64 (((UInt8.toNat (List.getD s.data.toList (Int.toNat i) 0)):Nat):Int)))) fun y=>
 (if y=true then
 Call0 P zak [(.pointer r),(.int .i64 (4:Int)),(.int .i64 x)] (fun h3=>
 k h3) h2
 else
 k h2))) h1)
 (fun h2=>
 again (IntKind.wrap .i64 (i+(1:Int))) h2)
 else
 Q h1)) (0:Int) h
def zgi (P:Program) (r:Option Addr) (Q:(S_api_Config→(Hp→Prop))) (h:Hp):Prop:=
 CallT P zae [(.pointer r),(.int .i64 (4:Int))] (shInt .u64) (fun r1 h1=>
 NilW none r fun p=>
 LdW none (shInt .i64) h1 (Addr.add p 2) fun x=>
 (if (x !=(0:Int))=true then
 Q ⟨⟨none,0,0⟩,⟨none,0,0⟩,(0:Int),(0:Int),(0:Int),(0:Int),⟨none,0,0⟩⟩ h1
 else
 NilW none r fun p1=>
 LdW none shSl h1 (Addr.add p1 0) fun x1=>
 NilW none r fun p2=>
 LdW none (shInt .i64) h1 (Addr.add p2 1) fun x2=>
 (if (decide (r1>(IntKind.wrap .u64 (IntKind.wrap .i64 (((x1.len:Nat):Int)-x2)))))=true then
 NilW none r fun p3=>
 LdW none shSl h1 (Addr.add p3 0) fun x3=>
 Call0 P zak [(.pointer r),(.int .i64 (5:Int)),(.int .i64 ((x3.len:Nat):Int))] (fun h2=>
 Q ⟨⟨none,0,0⟩,⟨none,0,0⟩,(0:Int),(0:Int),(0:Int),(0:Int),⟨none,0,0⟩⟩ h2) h1
 else
 NilW none r fun p3=>
 LdW none shSl h1 (Addr.add p3 0) fun x3=>
 NilW none r fun p4=>
 LdW none (shInt .i64) h1 (Addr.add p4 1) fun x4=>
 NilW none r fun p5=>
 LdW none (shInt .i64) h1 (Addr.add p5 1) fun x5=>
 (((0:Int)≤x4∧(x4≤(IntKind.wrap .i64 (x5+(IntKind.wrap .i64 r1)))∧(IntKind.wrap .i64 (x5+(IntKind.wrap .i64 r1)))≤((x3.cap:Nat):Int)))∧LetW (α:=Sl) ⟨(sbase x3.base 1 (Int.toNat x4) x3.cap),((Int.toNat (IntKind.wrap .i64 (x5+(IntKind.wrap .i64 r1))))-(Int.toNat x4)),(x3.cap-(Int.toNat x4))⟩ fun y=>
 Call3 P zfz [y.v] sh_api_Config (shInt .i64) (shInt .i64) (fun r2 r3 r4 h2=>
 JoinW0 (fun k=>
 (if (r3 !=(0:Int))=true then
 NilW none r fun p6=>
 LdW none (shInt .i64) h2 (Addr.add p6 1) fun x6=>
 Call0 P zak [(.pointer r),(.int .i64 r3),(.int .i64 (IntKind.wrap .i64 (x6+r4)))] (fun h3=>
 k h3) h2
 else
 k h2))
 (fun h3=>
 NilW none r fun p6=>
 LdW none (shInt .i64) h3 (Addr.add p6 1) fun x6=>
 NilW none r fun p7=>
 StW h3 (Addr.add p7 1) [(.int .i64 (IntKind.wrap .i64 (x6+(IntKind.wrap .i64 r1))))] (fun h4=>
 Q r2 h4))) h1)))) h
def zdd (P:Program) (r:Option Addr) (many:Int) (Q:(Int→(Hp→Prop))) (h:Hp):Prop:=
 NilW none r fun p=>
 LdW none (shInt .i64) h (Addr.add p 2) fun x=>
 (if (x !=(0:Int))=true then
 Q (0:Int) h
 else
 NilW none r fun p1=>
 LdW none shSl h (Addr.add p1 0) fun x1=>
 NilW none r fun p2=>
 LdW none (shInt .i64) h (Addr.add p2 1) fun x2=>
 (if (decide ((IntKind.wrap .i64 (((x1.len:Nat):Int)-x2))<many))=true then
 NilW none r fun p3=>
 LdW none shSl h (Addr.add p3 0) fun x3=>
 Call0 P zak [(.pointer r),(.int .i64 (5:Int)),(.int .i64 ((x3.len:Nat):Int))] (fun h1=>
 Q (0:Int) h1) h
 else
 LoopW2 (α1:=Int) (α2:=Int) (fun again n i h1=>
 (if (decide (i<many))=true then
 NilW none r fun p3=>
 LdW none shSl h1 (Addr.add p3 0) fun x3=>
 NilW none r fun p4=>
 LdW none (shInt .i64) h1 (Addr.add p4 1) fun x4=>
 ((InB x3.base x3.len (IntKind.wrap .i64 (x4+i)))∧LdW none (shInt .u8) h1 (sat x3.base 1 (IntKind.wrap .i64 (x4+i))) fun x5=>
 ((0:Int)≤(IntKind.wrap .i64 ((8:Int)*i))∧again (bitsI .or .u64 n (shlI .u64 (IntKind.wrap .u64 x5) (IntKind.wrap .i64 ((8:Int)*i)))) (IntKind.wrap .i64 (i+(1:Int))) h1))
 else
 NilW none r fun p3=>
 LdW none (shInt .i64) h1 (Addr.add p3 1) fun x3=>
 NilW none r fun p4=>
 StW h1 (Addr.add p4 1) [(.int .i64 (IntKind.wrap .i64 (x3+many)))] (fun h2=>
 Q n h2))) (0:Int) (0:Int) h))
def zey (P:Program) (r:Option Addr) (c:S_api_Config) (Q:(S_api_Part→(Hp→Prop))) (h:Hp):Prop:=
 CallT P zae [(.pointer r),(.int .i64 (1:Int))] (shInt .u64) (fun r1 h1=>
 CallT P zcx [(.pointer r),(.int .i64 (2:Int)),(.int .i64 c.Log)] (shInt .i64) (fun r2 h2=>
 LoopW2 (α1:=Int) (α2:=S_api_Part) (fun again i p h3=>
 NilW (some (decide (i<r2))) r fun p1=>
 LdW (some (decide (i<r2))) (shInt .i64) h3 (Addr.add p1 2) fun x=>
 LetW ((decide (i<r2))&&(x==(0:Int))) fun y=>
 (if y=true then
 CallT P zae [(.pointer r),(.int .i64 (8:Int))] (shInt .u64) (fun r3 h4=>
 CallT P zae [(.pointer r),(.int .i64 (1:Int))] (shInt .u64) (fun r4 h5=>
 CallT P zae [(.pointer r),(.int .i64 (8:Int))] (shInt .u64) (fun r5 h6=>
 NewW [(.int .i64 (IntKind.wrap .i64 r3)),(.int .i64 (IntKind.wrap .i64 r4)),(.int .i64 (IntKind.wrap .i64 r5))] (fun a h7=>
 zaj 3 24 [(.int .i64 (0:Int)),(.int .i64 (0:Int)),(.int .i64 (0:Int))] ⟨p.Log.base,p.Log.len,p.Log.cap⟩ ⟨(some a),1,1⟩ (fun r6 h8=>
 again (IntKind.wrap .i64 (i+(1:Int))) ⟨p.Cursor,r6,p.Lost,p.Forbidden,p.Owners,p.Queues⟩ h8) h7) h6) h5) h4) h3
 else
 CallT P zae [(.pointer r),(.int .i64 (2:Int))] (shInt .u64) (fun r3 h4=>
 CallT P zae [(.pointer r),(.int .i64 (2:Int))] (shInt .u64) (fun r4 h5=>
 LoopW2 (α1:=Int) (α2:=S_api_Part) (fun again1 i1 p2 h6=>
 NilW (some (decide (i1<c.Locks))) r fun p3=>
 LdW (some (decide (i1<c.Locks))) (shInt .i64) h6 (Addr.add p3 2) fun x1=>
 LetW ((decide (i1<c.Locks))&&(x1==(0:Int))) fun y1=>
 (if y1=true then
 CallT P zae [(.pointer r),(.int .i64 (1:Int))] (shInt .u64) (fun r5 h7=>
 ((True∧True)∧NewW [(.int .i64 (IntKind.wrap .i64 ((IntKind.wrap .i64 r5)-(1:Int))))] (fun a h8=>
 ((True∧True)∧zaj 1 8 [(.int .i64 (0:Int))] ⟨p2.Owners.base,p2.Owners.len,p2.Owners.cap⟩ ⟨(some a),1,1⟩ (fun r6 h9=>
 CallT P zcx [(.pointer r),(.int .i64 (1:Int)),(.int .i64 ((c.Procs.len:Nat):Int))] (shInt .i64) (fun r7 h10=>
 NewW [] (fun a1 h11=>
 LoopW2 (α1:=Sl) (α2:=Int) (fun again2 q k h12=>
 NilW (some (decide (k<r7))) r fun p4=>
 LdW (some (decide (k<r7))) (shInt .i64) h12 (Addr.add p4 2) fun x2=>
 LetW ((decide (k<r7))&&(x2==(0:Int))) fun y2=>
 (if y2=true then
 CallT P zae [(.pointer r),(.int .i64 (1:Int))] (shInt .u64) (fun r8 h13=>
 NewW [(.int .i64 (IntKind.wrap .i64 r8))] (fun a2 h14=>
 zaj 1 8 [(.int .i64 (0:Int))] ⟨q.base,q.len,q.cap⟩ ⟨(some a2),1,1⟩ (fun r9 h15=>
 again2 r9 (IntKind.wrap .i64 (k+(1:Int))) h15) h14) h13) h12
 else
 NewW [q.v] (fun a2 h13=>
 zaj 1 24 [(.slice none 0 0)] ⟨p2.Queues.base,p2.Queues.len,p2.Queues.cap⟩ ⟨(some a2),1,1⟩ (fun r8 h14=>
 again1 (IntKind.wrap .i64 (i1+(1:Int))) ⟨p2.Cursor,p2.Log,p2.Lost,p2.Forbidden,r6,r8⟩ h14) h13) h12)) ⟨(some a1),0,0⟩ (0:Int) h11) h10) h9) h8)) h7)) h6
 else
 Q p2 h6)) (0:Int) ⟨p.Cursor,p.Log,(IntKind.wrap .i64 r3),(IntKind.wrap .i64 r4),p.Owners,p.Queues⟩ h5) h4) h3)) (0:Int) ⟨(IntKind.wrap .i64 r1),⟨none,0,0⟩,(0:Int),(0:Int),⟨none,0,0⟩,⟨none,0,0⟩⟩ h2) h1) h
def zdt (P:Program) (r:Option Addr) (c:S_api_Config) (Q:(S_api_Process→(Hp→Prop))) (h:Hp):Prop:=
 CallT P zae [(.pointer r),(.int .i64 (1:Int))] (shInt .u64) (fun r1 h1=>
 NewW [(.int .i64 (0:Int)),(.int .i64 (0:Int)),(.int .i64 (0:Int)),(.int .i64 (0:Int)),(.int .i64 (0:Int)),(.int .i64 (0:Int)),(.int .i64 (0:Int)),(.int .i64 (0:Int)),(.int .i64 (0:Int)),(.int .i64 (0:Int)),(.int .i64 (0:Int)),(.int .i64 (0:Int)),(.bool false),(.int .i64 (0:Int)),(.slice none 0 0)] (fun a h2=>
 StW h2 a [(.int .i64 (IntKind.wrap .i64 r1)),(.int .i64 (0:Int)),(.int .i64 (0:Int)),(.int .i64 (0:Int)),(.int .i64 (0:Int)),(.int .i64 (0:Int)),(.int .i64 (0:Int)),(.int .i64 (0:Int)),(.int .i64 (0:Int)),(.int .i64 (0:Int)),(.int .i64 (0:Int)),(.int .i64 (0:Int)),(.bool false),(.int .i64 (0:Int)),(.slice none 0 0)] (fun h3=>
 CallT P zae [(.pointer r),(.int .i64 (2:Int))] (shInt .u64) (fun r2 h4=>
 StW h4 (Addr.add a 1) [(.int .i64 (IntKind.wrap .i64 r2))] (fun h5=>
 LoopW1 (α1:=Int) (fun again i h6=>
 (if (decide (i<(8:Int)))=true then
 CallT P zae [(.pointer r),(.int .i64 (8:Int))] (shInt .u64) (fun r3 h7=>
 (((0:Int)≤i∧i<(8:Int))∧StW h7 (Addr.add (Addr.add a 2) ((Int.toNat i)*1)) [(.int .i64 (IntKind.wrap .i64 r3))] (fun h8=>
 again (IntKind.wrap .i64 (i+(1:Int))) h8))) h6
 else
 CallT P zae [(.pointer r),(.int .i64 (1:Int))] (shInt .u64) (fun r3 h7=>
 StW h7 (Addr.add a 10) [(.int .i64 (IntKind.wrap .i64 r3))] (fun h8=>
 CallT P zae [(.pointer r),(.int .i64 (8:Int))] (shInt .u64) (fun r4 h9=>
 StW h9 (Addr.add a 11) [(.int .i64 (IntKind.wrap .i64 r4))] (fun h10=>
 CallT P zar [(.pointer r),(.int .i64 (1:Int)),(.int .i64 (0:Int)),(.int .i64 (1:Int)),(.int .i64 (4:Int)),(.int .i64 (4:Int))] (shInt .i64) (fun r5 h11=>
 StW h11 (Addr.add a 12) [(.bool (r5==(1:Int)))] (fun h12=>
 CallT P zae [(.pointer r),(.int .i64 (8:Int))] (shInt .u64) (fun r6 h13=>
 StW h13 (Addr.add a 13) [(.int .i64 (IntKind.wrap .i64 r6))] (fun h14=>
 LoopW1 (α1:=Int) (fun again1 i1 h15=>
 NilW (some (decide (i1≤((c.Labels.len:Nat):Int)))) r fun p=>
 LdW (some (decide (i1≤((c.Labels.len:Nat):Int)))) (shInt .i64) h15 (Addr.add p 2) fun x=>
 LetW ((decide (i1≤((c.Labels.len:Nat):Int)))&&(x==(0:Int))) fun y=>
 (if y=true then
 LdW none shSl h15 (Addr.add a 14) fun x1=>
 CallT P zkm [(.pointer r),c.v] sh_api_Lane (fun r7 h16=>
 (((LdIs h16 (Addr.add a 14) [x1.v])∧True)∧NewW [r7.Values.v,r7.Waiters.v,(.int .i64 r7.Taken),(.int .i64 r7.Dropped)] (fun a1 h17=>
 (((LdIs h17 (Addr.add a 14) [x1.v])∧True)∧zaj 4 64 [(.slice none 0 0),(.slice none 0 0),(.int .i64 (0:Int)),(.int .i64 (0:Int))] x1 ⟨(some a1),1,1⟩ (fun r8 h18=>
 StW h18 (Addr.add a 14) [r8.v] (fun h19=>
 again1 (IntKind.wrap .i64 (i1+(1:Int))) h19)) h17)) h16)) h15
 else
 LdW none sh_api_Process h15 a fun x1=>
 Q x1 h15)) (0:Int) h14)) h12)) h10)) h8)) h6)) (0:Int) h5)) h3)) h1) h
def zcl (P:Program) (r:Option Addr) (e:Int) (at_:Int) (Q:(Hp→Prop)) (h:Hp):Prop:=
 NilW none r fun p=>
 LdW none (shInt .i64) h (Addr.add p 2) fun x=>
 (if (x==(0:Int))=true then
 NilW none r fun p1=>
 StW h (Addr.add p1 2) [(.int .i64 e)] (fun h1=>
 NilW none r fun p2=>
 StW h1 (Addr.add p2 3) [(.int .i64 at_)] (fun h2=>
 Q h2))
 else
 Q h)
def zez (P:Program) (a:S_api_Config) (b:S_api_Config) (Q:(Bool→(Hp→Prop))) (h:Hp):Prop:=
 CallT P zih [a.Labels.v,b.Labels.v] zag (fun r h1=>
 EffC (some (!(!r))) (CallT P zkn [a.Table.v,b.Table.v] zag) (fun r1 h2=>
 LetW ((!r) || (!r1)) fun y=>
 LetW (y || (a.Fuel !=b.Fuel)) fun y1=>
 LetW (y1 || (a.Lane !=b.Lane)) fun y2=>
 LetW (y2 || (a.Locks !=b.Locks)) fun y3=>
 LetW (y3 || (a.Log !=b.Log)) fun y4=>
 LetW (y4 || (((a.Procs.len:Nat):Int) !=((b.Procs.len:Nat):Int))) fun y5=>
 (if y5=true then
 Q false h2
 else
 LoopW1 (α1:=Int) (fun again i h3=>
 (if (decide (i<((a.Procs.len:Nat):Int)))=true then
 ((InB a.Procs.base a.Procs.len i)∧LdW none (shInt .i64) h3 (Addr.add (sat a.Procs.base 2 i) 0) fun x=>
 ((InB b.Procs.base b.Procs.len i)∧LdW none (shInt .i64) h3 (Addr.add (sat b.Procs.base 2 i) 0) fun x1=>
 (if (x !=x1)=true then
 Q false h3
 else
 again (IntKind.wrap .i64 (i+(1:Int))) h3)))
 else
 Q true h3)) (0:Int) h2)) h1) h
def zir (P:Program) (a:Sl) (b:Sl) (Q:(Bool→(Hp→Prop))) (h:Hp):Prop:=
 (if (((a.len:Nat):Int) !=((b.len:Nat):Int))=true then
 Q false h
 else
 LoopW1 (α1:=Int) (fun again i h1=>
 (if (decide (i<((a.len:Nat):Int)))=true then
 ((InB a.base a.len i)∧LdW none sh_api_Ins h1 (sat a.base 5 i) fun x=>
 ((InB b.base b.len i)∧LdW none sh_api_Ins h1 (sat b.base 5 i) fun x1=>
 SemV none P (binS .neq 51 (.tmp 20) (.tmp 24) x.v x1.v) zag h1 fun x2=>
 (if x2=true then
 Q false h1
 else
 again (IntKind.wrap .i64 (i+(1:Int))) h1)))
 else
 Q true h1)) (0:Int) h)
def zfa (P:Program) (a:S_api_Part) (b:S_api_Part) (Q:(Bool→(Hp→Prop))) (h:Hp):Prop:=
 LetW ((a.Cursor !=b.Cursor) || (a.Lost !=b.Lost)) fun y=>
 LetW (y || (a.Forbidden !=b.Forbidden)) fun y1=>
 LetW (y1 || (((a.Log.len:Nat):Int) !=((b.Log.len:Nat):Int))) fun y2=>
 LetW (y2 || (((a.Queues.len:Nat):Int) !=((b.Queues.len:Nat):Int))) fun y3=>
 (if y3=true then
 Q false h
 else
 LoopW1 (α1:=Int) (fun again i h1=>
 (if (decide (i<((a.Log.len:Nat):Int)))=true then
 ((InB a.Log.base a.Log.len i)∧LdW none sh_api_Entry h1 (sat a.Log.base 3 i) fun x=>
 ((InB b.Log.base b.Log.len i)∧LdW none sh_api_Entry h1 (sat b.Log.base 3 i) fun x1=>
 SemV none P (binS .neq 111 (.tmp 56) (.tmp 61) x.v x1.v) zag h1 fun x2=>
 (if x2=true then
 Q false h1
 else
 again (IntKind.wrap .i64 (i+(1:Int))) h1)))
 else
 LoopW1 (α1:=Int) (fun again1 i1 h2=>
 (if (decide (i1<((a.Queues.len:Nat):Int)))=true then
 ((InB a.Queues.base a.Queues.len i1)∧LdW none shSl h2 (sat a.Queues.base 1 i1) fun x=>
 ((InB b.Queues.base b.Queues.len i1)∧LdW none shSl h2 (sat b.Queues.base 1 i1) fun x1=>
 CallT P zii [x.v,x1.v] zag (fun r h3=>
 (if (!r)=true then
 Q false h3
 else
 again1 (IntKind.wrap .i64 (i1+(1:Int))) h3)) h2))
 else
 CallT P zii [a.Owners.v,b.Owners.v] zag (fun r h3=>
 Q r h3) h2)) (0:Int) h1)) (0:Int) h)
def zdu (P:Program) (a:S_api_Process) (b:S_api_Process) (Q:(Bool→(Hp→Prop))) (h:Hp):Prop:=
 LetW ((a.State !=b.State) || (a.PC !=b.PC)) fun y=>
 SemV (some (!y)) P (binS .neq 61 (.tmp 21) (.tmp 23) (.agg #[(.int .i64 a.Regs_0),(.int .i64 a.Regs_1),(.int .i64 a.Regs_2),(.int .i64 a.Regs_3),(.int .i64 a.Regs_4),(.int .i64 a.Regs_5),(.int .i64 a.Regs_6),(.int .i64 a.Regs_7)]) (.agg #[(.int .i64 b.Regs_0),(.int .i64 b.Regs_1),(.int .i64 b.Regs_2),(.int .i64 b.Regs_3),(.int .i64 b.Regs_4),(.int .i64 b.Regs_5),(.int .i64 b.Regs_6),(.int .i64 b.Regs_7)])) zag h fun x=>
 LetW (y || x) fun y1=>
 LetW (y1 || (a.Cursor !=b.Cursor)) fun y2=>
 LetW (y2 || (a.Timer !=b.Timer)) fun y3=>
 LetW (y3 || (!(a.Fired==b.Fired))) fun y4=>
 LetW (y4 || (a.Wake !=b.Wake)) fun y5=>
 LetW (y5 || (((a.Lanes.len:Nat):Int) !=((b.Lanes.len:Nat):Int))) fun y6=>
 (if y6=true then
 Q false h
 else
 LoopW1 (α1:=Int) (fun again i h1=>
 (if (decide (i<((a.Lanes.len:Nat):Int)))=true then
 ((InB a.Lanes.base a.Lanes.len i)∧LdW none sh_api_Lane h1 (sat a.Lanes.base 4 i) fun x1=>
 ((InB b.Lanes.base b.Lanes.len i)∧LdW none sh_api_Lane h1 (sat b.Lanes.base 4 i) fun x2=>
 CallT P zko [x1.v,x2.v] zag (fun r h2=>
 (if (!r)=true then
 Q false h2
 else
 again (IntKind.wrap .i64 (i+(1:Int))) h2)) h1))
 else
 Q true h1)) (0:Int) h)
def zhg1 (P:Program) (c:S_api_Config) (Q:(Int→(Int→(Hp→Prop)))) (h:Hp):Prop:=
 Call2 P zuw [c.Labels.v] (shInt .i64) (shInt .i64) (fun r r1 h1=>
 (if (r !=(0:Int))=true then
 Q r (0:Int) h1
 else
 CallT P zux [(.int .i64 ((c.Table.len:Nat):Int)),(.int .i64 (64:Int))] (shInt .i64) (fun r2 h2=>
 (if (r2 !=(0:Int))=true then
 Q r2 (1:Int) h2
 else
 Call3 P zdm1 [c.Table.v,(.int .i64 ((c.Labels.len:Nat):Int))] shPtr (shInt .i64) (shInt .i64) (fun r3 r4 r5 h3=>
 (if (r4 !=(0:Int))=true then
 Q r4 (1:Int) h3
 else
 NewW [(.int .i64 (0:Int)),(.int .i64 (0:Int)),(.int .i64 c.Fuel),(.int .i64 c.Lane),(.int .i64 c.Locks),(.int .i64 c.Log)] (fun a h4=>
 LoopW1 (α1:=Int) (fun again t57 h5=>
 (if (decide (t57<(6:Int)))=true then
 ((InB (some a) 6 t57)∧LdW none (shInt .i64) h5 (sat (some a) 1 t57) fun x=>
 CallT P zuy [(.int .i64 t57),(.int .i64 x)] (shInt .i64) (fun r6 h6=>
 (if (r6 !=(0:Int))=true then
 Q r6 t57 h6
 else
 again (IntKind.wrap .i64 (t57+(1:Int))) h6)) h5)
 else
 CallT P zux [(.int .i64 ((c.Procs.len:Nat):Int)),(.int .i64 (32:Int))] (shInt .i64) (fun r6 h6=>
 (if (r6 !=(0:Int))=true then
 Q r6 (6:Int) h6
 else
 LoopW1 (α1:=Int) (fun again1 t80 h7=>
 (if (decide (t80<((c.Procs.len:Nat):Int)))=true then
 ((InB c.Procs.base c.Procs.len t80)∧LdW none sh_api_Proc h7 (sat c.Procs.base 2 t80) fun x=>
 CallT P zjc [(.int .i64 x.Part),(.int .i64 (0:Int)),(.int .i64 (IntKind.wrap .i64 (((c.Labels.len:Nat):Int)-(1:Int))))] zag (fun r7 h8=>
 (if (!r7)=true then
 Q (2:Int) (IntKind.wrap .i64 ((7:Int)+t80)) h8
 else
 Call2 P zbc1 [x.Code.v,(.int .i64 c.Locks)] (shInt .i64) (shInt .i64) (fun r8 r9 h9=>
 (if (r8 !=(0:Int))=true then
 Q r8 (IntKind.wrap .i64 ((7:Int)+t80)) h9
 else
 again1 (IntKind.wrap .i64 (t80+(1:Int))) h9)) h8)) h7)
 else
 Q (0:Int) (0:Int) h7)) (0:Int) h6)) h5)) (0:Int) h4) h3)) h2)) h1)) h
def zqx (P:Program) (l:Sl) (Q:(Option Addr→(Int→(Int→(Hp→Prop))))) (h:Hp):Prop:=
 Call2 P zuw [l.v] (shInt .i64) (shInt .i64) (fun r r1 h1=>
 (if (r !=(0:Int))=true then
 Q none r r1 h1
 else
 CallT P zhz [l.v] shSl (fun r2 h2=>
 znj1  (fun r3 h3=>
 NewW [r2.v,(.map r3)] (fun a h4=>
 NilW none (some a) fun p=>
 LdW none shSl h4 (Addr.add p 0) fun x=>
 LoopW1 (α1:=Int) (fun again t29 h5=>
 (if (decide (t29<((x.len:Nat):Int)))=true then
 ((InB x.base x.len t29)∧LdW none (shInt .u64) h5 (sat x.base 1 t29) fun x1=>
 NilW none (some a) fun p1=>
 LdW none shMap h5 (Addr.add p1 1) fun x2=>
 zso1 (.int .u64) x2 (.int .u64 x1) (.int .i64 t29) (fun h6=>
 again (IntKind.wrap .i64 (t29+(1:Int))) h6) h5)
 else
 Q (some a) (0:Int) (0:Int) h5)) (0:Int) h4) h3) h2) h1)) h
def zju (P:Program) (a:S_machine_asked) (i:Int) (Q:(Bool→(Hp→Prop))) (h:Hp):Prop:=
 NewW [a.c_Labels.v,a.c_Table.v,(.int .i64 a.c_Fuel),(.int .i64 a.c_Lane),(.int .i64 a.c_Locks),(.int .i64 a.c_Log),a.c_Procs.v,(.int .i64 a.s_Tick),a.s_Parts.v,a.s_Procs.v,(.pointer a.t)] (fun a1 h1=>
 NewW [(.int .i64 i)] (fun a2 h2=>
 LdW none shSl h2 (Addr.add (Addr.add a1 7) 1) fun x=>
 LdW none (shInt .i64) h2 a2 fun x1=>
 ((InB x.base x.len x1)∧LdW none sh_api_Part h2 (sat x.base 6 x1) fun x2=>
 LdW (some ((!(decide (x2.Cursor<(0:Int))))&&(decide (x2.Cursor>(0:Int))))) sh_machine_asked h2 a1 fun x3=>
 LdW (some ((!(decide (x2.Cursor<(0:Int))))&&(decide (x2.Cursor>(0:Int))))) (shInt .i64) h2 a2 fun x4=>
 EffC (some ((!(decide (x2.Cursor<(0:Int))))&&(decide (x2.Cursor>(0:Int))))) (CallT P zpo [x3.v,(.int .i64 x4)] (shInt .i64)) (fun r h3=>
 ((True∧True)∧LetW ((decide (x2.Cursor>(0:Int)))&&(decide (x2.Cursor≥r))) fun y=>
 LetW ((decide (x2.Cursor<(0:Int))) || y) fun y1=>
 LdW (some (!y1)) (shInt .i64) h3 (Addr.add (Addr.add a1 0) 5) fun x5=>
 LetW (y1 || (decide (((x2.Log.len:Nat):Int)>x5))) fun y2=>
 (if y2=true then
 Q false h3
 else
 LoopW2 (α1:=Int) (α2:=Int) (fun again last t43 h4=>
 (if (decide (t43<((x2.Log.len:Nat):Int)))=true then
 ((InB x2.Log.base x2.Log.len t43)∧LdW none sh_api_Entry h4 (sat x2.Log.base 3 t43) fun x6=>
 LdW (some (!(decide (x6.Tick<last)))) (shInt .i64) h4 (Addr.add (Addr.add a1 7) 0) fun x7=>
 LetW ((decide (x6.Tick<last)) || (decide (x6.Tick≥x7))) fun y3=>
 LdW (some (!y3)) sh_machine_asked h4 a1 fun x8=>
 LdW (some (!y3)) (shInt .i64) h4 a2 fun x9=>
 EffC (some (!y3)) (CallT P zep [x8.v,(.int .i64 x6.Proc),(.int .i64 x9)] zag) (fun r1 h5=>
 LetW (y3 || (!r1)) fun y4=>
 (if y4=true then
 Q false h5
 else
 again x6.Tick (IntKind.wrap .i64 (t43+(1:Int))) h5)) h4)
 else
 CallT P zij [(.int .i64 x2.Lost)] zag (fun r1 h5=>
 EffC (some (!(!r1))) (CallT P zij [(.int .i64 x2.Forbidden)] zag) (fun r2 h6=>
 LetW ((!r1) || (!r2)) fun y3=>
 LdW (some ((!y3)&&(decide (x2.Lost>(0:Int))))) (shInt .i64) h6 (Addr.add (Addr.add a1 0) 5) fun x6=>
 LetW ((decide (x2.Lost>(0:Int)))&&(decide (((x2.Log.len:Nat):Int)<x6))) fun y4=>
 LetW (y3 || y4) fun y5=>
 LdW (some (!y5)) (shInt .i64) h6 (Addr.add (Addr.add a1 0) 4) fun x7=>
 LetW (y5 || (((x2.Owners.len:Nat):Int) !=x7)) fun y6=>
 LdW (some (!y6)) (shInt .i64) h6 (Addr.add (Addr.add a1 0) 4) fun x8=>
 LetW (y6 || (((x2.Queues.len:Nat):Int) !=x8)) fun y7=>
 (if y7=true then
 Q false h6
 else
 CallT P zgs [x2.Owners.v,(.func (.func 84) #[] #[(.pointer (some a1)),(.pointer (some a2))])] zag (fun r3 h7=>
 Q (!r3) h7) h6)) h5) h4)) (0:Int) (0:Int) h3))) h2)) h1) h
def zjv (P:Program) (a:S_machine_asked) (p:Int) (Q:(Bool→(Hp→Prop))) (h:Hp):Prop:=
 ((InB a.s_Procs.base a.s_Procs.len p)∧LdW none sh_api_Process h (sat a.s_Procs.base 15 p) fun x=>
 ((InB a.c_Procs.base a.c_Procs.len p)∧LdW none sh_api_Proc h (sat a.c_Procs.base 2 p) fun x1=>
 ((True∧((LdIs h (sat a.c_Procs.base 2 p) [(.int .i64 x1.Part),x1.Code.v])∧True))∧JoinW1 (α1:=Bool) (fun k=>
 LetW ((decide (x.State<(0:Int))) || (decide (x.State>(6:Int)))) fun y=>
 (if y=true then
 k y h
 else
 LetW ((decide (x.PC<(0:Int))) || (decide (x.PC>((x1.Code.len:Nat):Int)))) fun y1=>
 (if y1=true then
 k y1 h
 else
 (if (((x.Lanes.len:Nat):Int) !=(IntKind.wrap .i64 (((a.c_Labels.len:Nat):Int)+(1:Int))))=true then
 k (((x.Lanes.len:Nat):Int) !=(IntKind.wrap .i64 (((a.c_Labels.len:Nat):Int)+(1:Int)))) h
 else
 LetW ((decide (x.Cursor<(0:Int))) || (decide (x.Cursor≥((x.Lanes.len:Nat):Int)))) fun y2=>
 k y2 h))))
 (fun t28 h1=>
 (if t28=true then
 Q false h1
 else
 JoinW1 (α1:=Bool) (fun k=>
 LetW ((decide (x.Timer<(0:Int))) || (decide (x.Timer>(IntKind.wrap .i64 (a.s_Tick+(1099511627776:Int)))))) fun y=>
 (if y=true then
 k y h1
 else
 LetW ((decide (x.Wake<(0:Int))) || (decide (x.Wake>(IntKind.wrap .i64 (a.s_Tick+(1099511627776:Int)))))) fun y1=>
 (if y1=true then
 k y1 h1
 else
 k (!((decide (x.Wake>(0:Int)))==(x.State==(4:Int)))) h1)))
 (fun t68 h2=>
 (if t68=true then
 Q false h2
 else
 CallT P zlt [(.int .i64 x.State)] zag (fun r h3=>
 LetW ((x.Timer !=(0:Int)) || x.Fired) fun y=>
 LetW ((!r)&&y) fun y1=>
 (if y1=true then
 Q false h3
 else
 LoopW2 (α1:=Bool) (α2:=Int) (fun again some_ t111 h4=>
 (if (decide (t111<((x.Lanes.len:Nat):Int)))=true then
 ((InB x.Lanes.base x.Lanes.len t111)∧LdW none sh_api_Lane h4 (sat x.Lanes.base 4 t111) fun x2=>
 LetW ((decide (((x2.Values.len:Nat):Int)>(0:Int))) || (decide (x2.Taken>(0:Int)))) fun y2=>
 LetW (y2 || (decide (x2.Dropped>(0:Int)))) fun y3=>
 EffC (some (!(decide (((x2.Values.len:Nat):Int)>a.c_Lane)))) (CallT P zij [(.int .i64 x2.Taken)] zag) (fun r1 h5=>
 LetW ((decide (((x2.Values.len:Nat):Int)>a.c_Lane)) || (!r1)) fun y4=>
 EffC (some (!y4)) (CallT P zij [(.int .i64 x2.Dropped)] zag) (fun r2 h6=>
 LetW (y4 || (!r2)) fun y5=>
 LetW (y3&&(decide (t111<((a.c_Labels.len:Nat):Int)))) fun y6=>
 EffC (some ((!y5)&&y6)) (CallT P zqw [(.pointer a.t),(.int .i64 t111),(.int .i64 x1.Part)] zag) (fun r3 h7=>
 LetW (y6&&(!r3)) fun y7=>
 LetW (y5 || y7) fun y8=>
 (if y8=true then
 Q false h7
 else
 LetW (some_ || (decide (((x2.Values.len:Nat):Int)>(0:Int)))) fun y9=>
 again y9 (IntKind.wrap .i64 (t111+(1:Int))) h7)) h6) h5) h4)
 else
 (if (x.State==(1:Int))=true then
 CallT P zeq [a.v,(.int .i64 p)] (shInt .i64) (fun r1 h5=>
 LetW ((r1==(25:Int))&&(!some_)) fun y2=>
 LetW (y2&&(!x.Fired)) fun y3=>
 Q y3 h5) h4
 else
 (if (x.State==(2:Int))=true then
 CallT P zeq [a.v,(.int .i64 p)] (shInt .i64) (fun r1 h5=>
 Q (r1==(24:Int)) h5) h4
 else
 (if (x.State==(3:Int))=true then
 CallT P zeq [a.v,(.int .i64 p)] (shInt .i64) (fun r1 h5=>
 Q (r1==(29:Int)) h5) h4
 else
 (if (x.State==(4:Int))=true then
 CallT P zeq [a.v,(.int .i64 p)] (shInt .i64) (fun r1 h5=>
 Q (r1==(28:Int)) h5) h4
 else
 Q true h4)))))) false (0:Int) h3)) h2)))))))
def zis (P:Program) (a:S_machine_asked) (Q:(Bool→(Hp→Prop))) (h:Hp):Prop:=
 MakeW 8 [(.int .i64 (0:Int))] ((a.s_Procs.len:Nat):Int) ((a.s_Procs.len:Nat):Int) (fun r h1=>
 LoopW1 (α1:=Int) (fun again t28 h2=>
 (if (decide (t28<((a.s_Parts.len:Nat):Int)))=true then
 ((InB a.s_Parts.base a.s_Parts.len t28)∧LdW none sh_api_Part h2 (sat a.s_Parts.base 6 t28) fun x=>
 LoopW1 (α1:=Int) (fun again1 t36 h3=>
 (if (decide (t36<((x.Queues.len:Nat):Int)))=true then
 ((InB x.Queues.base x.Queues.len t36)∧LdW none shSl h3 (sat x.Queues.base 1 t36) fun x1=>
 LoopW1 (α1:=Int) (fun again2 t43 h4=>
 (if (decide (t43<((x1.len:Nat):Int)))=true then
 ((InB x1.base x1.len t43)∧LdW none (shInt .i64) h4 (sat x1.base 1 t43) fun x2=>
 CallT P zep [a.v,(.int .i64 x2),(.int .i64 t28)] zag (fun r1 h5=>
 (((!(!r1))=true→(InB a.s_Procs.base a.s_Procs.len x2))∧LdW (some (!(!r1))) (shInt .i64) h5 (Addr.add (sat a.s_Procs.base 15 x2) 0) fun x3=>
 LetW ((!r1) || (x3 !=(3:Int))) fun y=>
 EffC (some (!y)) (CallT P zga [a.v,(.int .i64 x2)] sh_api_Ins) (fun r2 h6=>
 LetW (y || (r2.Imm !=t36)) fun y1=>
 (((!y1)=true→(InB x.Owners.base x.Owners.len t36))∧LdW (some (!y1)) (shInt .i64) h6 (sat x.Owners.base 1 t36) fun x4=>
 LetW (y1 || (decide (x4<(0:Int)))) fun y2=>
 (((!y2)=true→(InB x.Owners.base x.Owners.len t36))∧LdW (some (!y2)) (shInt .i64) h6 (sat x.Owners.base 1 t36) fun x5=>
 LetW (y2 || (x5==x2)) fun y3=>
 (if y3=true then
 Q false h6
 else
 ((InB r.base r.len x2)∧LdW none (shInt .i64) h6 (sat r.base 1 x2) fun x6=>
 ((InB r.base r.len x2)∧StW h6 (sat r.base 1 x2) [(.int .i64 (IntKind.wrap .i64 (x6+(1:Int))))] (fun h7=>
 again2 (IntKind.wrap .i64 (t43+(1:Int))) h7))))))) h5)) h4)
 else
 again1 (IntKind.wrap .i64 (t36+(1:Int))) h4)) (0:Int) h3)
 else
 again (IntKind.wrap .i64 (t28+(1:Int))) h3)) (0:Int) h2)
 else
 LoopW1 (α1:=Int) (fun again1 t100 h3=>
 (if (decide (t100<((a.s_Procs.len:Nat):Int)))=true then
 ((InB a.s_Procs.base a.s_Procs.len t100)∧LdW none sh_api_Process h3 (sat a.s_Procs.base 15 t100) fun x=>
 LoopW1 (α1:=Int) (fun again2 t108 h4=>
 (if (decide (t108<((x.Lanes.len:Nat):Int)))=true then
 ((InB x.Lanes.base x.Lanes.len t108)∧LdW none sh_api_Lane h4 (sat x.Lanes.base 4 t108) fun x1=>
 LoopW1 (α1:=Int) (fun again3 t116 h5=>
 (if (decide (t116<((x1.Waiters.len:Nat):Int)))=true then
 ((InB x1.Waiters.base x1.Waiters.len t116)∧LdW none sh_api_Waiter h5 (sat x1.Waiters.base 2 t116) fun x2=>
 ((InB a.c_Procs.base a.c_Procs.len t100)∧LdW none (shInt .i64) h5 (Addr.add (sat a.c_Procs.base 2 t100) 0) fun x3=>
 EffC (some (!(t108 !=x3))) (CallT P zep [a.v,(.int .i64 x2.Proc),(.int .i64 t108)] zag) (fun r1 h6=>
 LetW ((t108 !=x3) || (!r1)) fun y=>
 EffC (some (!y)) (CallT P zlt [(.int .i64 x.State)] zag) (fun r2 h7=>
 LetW (y || (!r2)) fun y1=>
 LetW (y1 || (((x1.Values.len:Nat):Int) !=a.c_Lane)) fun y2=>
 EffC (some (!y2)) (CallT P zoh [a.v,x2.v,(.int .i64 t100)] zag) (fun r3 h8=>
 LetW (y2 || (!r3)) fun y3=>
 (if y3=true then
 Q false h8
 else
 ((InB r.base r.len x2.Proc)∧LdW none (shInt .i64) h8 (sat r.base 1 x2.Proc) fun x4=>
 ((InB r.base r.len x2.Proc)∧StW h8 (sat r.base 1 x2.Proc) [(.int .i64 (IntKind.wrap .i64 (x4+(1:Int))))] (fun h9=>
 again3 (IntKind.wrap .i64 (t116+(1:Int))) h9))))) h7) h6) h5))
 else
 again2 (IntKind.wrap .i64 (t108+(1:Int))) h5)) (0:Int) h4)
 else
 again1 (IntKind.wrap .i64 (t100+(1:Int))) h4)) (0:Int) h3)
 else
 LoopW1 (α1:=Int) (fun again2 t173 h4=>
 (if (decide (t173<((a.s_Procs.len:Nat):Int)))=true then
 ((InB a.s_Procs.base a.s_Procs.len t173)∧LdW none sh_api_Process h4 (sat a.s_Procs.base 15 t173) fun x=>
 JoinW1 (α1:=Int) (fun k=>
 LetW ((x.State==(3:Int)) || (x.State==(2:Int))) fun y=>
 (if y=true then
 k (1:Int) h4
 else
 k (0:Int) h4))
 (fun must h5=>
 ((InB r.base r.len t173)∧LdW none (shInt .i64) h5 (sat r.base 1 t173) fun x1=>
 (if (x1 !=must)=true then
 Q false h5
 else
 again2 (IntKind.wrap .i64 (t173+(1:Int))) h5))))
 else
 Q true h4)) (0:Int) h3)) (0:Int) h2)) (0:Int) h1) h
def zhh1 (P:Program) (b:Sl) (n:Int) (many:Int) (Q:(Sl→(Hp→Prop))) (h:Hp):Prop:=
 LoopW2 (α1:=Sl) (α2:=Int) (fun again b1 t9 h1=>
 (if (decide (t9<many))=true then
 ((0:Int)≤(IntKind.wrap .i64 ((8:Int)*t9))∧NewW [(.int .u8 (IntKind.wrap .u8 (shrI .u64 n (IntKind.wrap .i64 ((8:Int)*t9)))))] (fun a h2=>
 zaj 1 1 [(.int .u8 (0:Int))] ⟨b1.base,b1.len,b1.cap⟩ ⟨(some a),1,1⟩ (fun r h3=>
 again r (IntKind.wrap .i64 (t9+(1:Int))) h3) h2) h1)
 else
 Q ⟨b1.base,b1.len,b1.cap⟩ h1)) b (0:Int) h
def zve (P:Program) (l:Sl) (Q:(Sl→(Int→(Int→(Hp→Prop))))) (h:Hp):Prop:=
 Call2 P zbc1 [l.v,(.int .i64 (8:Int))] (shInt .i64) (shInt .i64) (fun r r1 h1=>
 (if (r !=(0:Int))=true then
 Q ⟨none,0,0⟩ r r1 h1
 else
 MakeW 1 [(.int .u8 (0:Int))] (0:Int) (IntKind.wrap .i64 ((12:Int)*((l.len:Nat):Int))) (fun r2 h2=>
 LoopW2 (α1:=Sl) (α2:=Int) (fun again b t26 h3=>
 (if (decide (t26<((l.len:Nat):Int)))=true then
 ((InB l.base l.len t26)∧LdW none sh_api_Ins h3 (sat l.base 5 t26) fun x=>
 NewW [(.int .u8 (IntKind.wrap .u8 x.Op)),(.int .u8 (IntKind.wrap .u8 x.A)),(.int .u8 (IntKind.wrap .u8 x.B)),(.int .u8 (IntKind.wrap .u8 x.C))] (fun a h4=>
 zaj 1 1 [(.int .u8 (0:Int))] ⟨b.base,b.len,b.cap⟩ ⟨(some a),4,4⟩ (fun r3 h5=>
 LoopW2 (α1:=Sl) (α2:=Int) (fun again1 b1 t45 h6=>
 (if (decide (t45<(8:Int)))=true then
 ((0:Int)≤(IntKind.wrap .i64 ((8:Int)*t45))∧NewW [(.int .u8 (IntKind.wrap .u8 (shrI .u64 (IntKind.wrap .u64 x.Imm) (IntKind.wrap .i64 ((8:Int)*t45)))))] (fun a1 h7=>
 zaj 1 1 [(.int .u8 (0:Int))] ⟨b1.base,b1.len,b1.cap⟩ ⟨(some a1),1,1⟩ (fun r4 h8=>
 again1 r4 (IntKind.wrap .i64 (t45+(1:Int))) h8) h7) h6)
 else
 again ⟨b1.base,b1.len,b1.cap⟩ (IntKind.wrap .i64 (t26+(1:Int))) h6)) r3 (0:Int) h5) h4) h3)
 else
 Q ⟨b.base,b.len,b.cap⟩ (0:Int) (0:Int) h3)) r2 (0:Int) h2) h1)) h
def zma (P:Program) (w:Option Addr) (x:S_api_Lane) (Q:(Hp→Prop)) (h:Hp):Prop:=
 NilW none w fun p=>
 Call0 P zai [(.pointer (some (Addr.add p 0))),(.int .i64 ((x.Values.len:Nat):Int)),(.int .i64 (1:Int))] (fun h1=>
 LoopW1 (α1:=Int) (fun again t18 h2=>
 (if (decide (t18<((x.Values.len:Nat):Int)))=true then
 ((InB x.Values.base x.Values.len t18)∧LdW none (shInt .i64) h2 (sat x.Values.base 1 t18) fun x1=>
 NilW none w fun p1=>
 Call0 P zax [(.pointer (some (Addr.add p1 0))),(.int .i64 x1),(.int .i64 (8:Int))] (fun h3=>
 again (IntKind.wrap .i64 (t18+(1:Int))) h3) h2)
 else
 NilW none w fun p1=>
 Call0 P zai [(.pointer (some (Addr.add p1 0))),(.int .i64 ((x.Waiters.len:Nat):Int)),(.int .i64 (1:Int))] (fun h3=>
 LoopW1 (α1:=Int) (fun again1 t38 h4=>
 (if (decide (t38<((x.Waiters.len:Nat):Int)))=true then
 ((InB x.Waiters.base x.Waiters.len t38)∧LdW none sh_api_Waiter h4 (sat x.Waiters.base 2 t38) fun x1=>
 NilW none w fun p2=>
 Call0 P zai [(.pointer (some (Addr.add p2 0))),(.int .i64 x1.Proc),(.int .i64 (1:Int))] (fun h5=>
 NilW none w fun p3=>
 Call0 P zax [(.pointer (some (Addr.add p3 0))),(.int .i64 x1.Value_),(.int .i64 (8:Int))] (fun h6=>
 again1 (IntKind.wrap .i64 (t38+(1:Int))) h6) h5) h4)
 else
 NilW none w fun p2=>
 Call0 P zai [(.pointer (some (Addr.add p2 0))),(.int .i64 x.Taken),(.int .i64 (2:Int))] (fun h5=>
 NilW none w fun p3=>
 Call0 P zai [(.pointer (some (Addr.add p3 0))),(.int .i64 x.Dropped),(.int .i64 (2:Int))] (fun h6=>
 Q h6) h5) h4)) (0:Int) h3) h2)) (0:Int) h1) h
def zjw (P:Program) (c:S_api_Config) (Q:(Int→(Int→(Hp→Prop)))) (h:Hp):Prop:=
 Call2 P zjl [c.Labels.v] (shInt .i64) (shInt .i64) (fun r r1 h1=>
 (if (r !=(0:Int))=true then
 Q r (0:Int) h1
 else
 CallT P zlu [c.Table.v,(.int .i64 ((c.Labels.len:Nat):Int))] (shInt .i64) (fun r2 h2=>
 (if (r2 !=(0:Int))=true then
 Q r2 (1:Int) h2
 else
 CallT P zbt [(.int .i64 c.Fuel),(.int .i64 (1:Int)),(.int .i64 (256:Int))] zag (fun r3 h3=>
 ((True∧(True∧(True∧True)))∧CallT P zbt [(.int .i64 c.Lane),(.int .i64 (1:Int)),(.int .i64 (64:Int))] zag (fun r4 h4=>
 ((True∧(True∧True))∧CallT P zbt [(.int .i64 c.Locks),(.int .i64 (0:Int)),(.int .i64 (8:Int))] zag (fun r5 h5=>
 ((True∧True)∧CallT P zbt [(.int .i64 c.Log),(.int .i64 (0:Int)),(.int .i64 (4096:Int))] zag (fun r6 h6=>
 LoopW1 (α1:=Int) (fun again i h7=>
 (if (decide (i<(4:Int)))=true then
 (((0:Int)≤i∧i<(4:Int))∧∃x:Bool,((List.get?Internal (α:=Value) [(.bool r3),(.bool r4),(.bool r5),(.bool r6)] (0+((Int.toNat i)*1)))=(some (.bool x))∧(if (!x)=true then
 Q (2:Int) (IntKind.wrap .i64 ((2:Int)+i)) h7
 else
 again (IntKind.wrap .i64 (i+(1:Int))) h7)))
 else
 (if (((c.Procs.len:Nat):Int)==(0:Int))=true then
 Q (1:Int) (6:Int) h7
 else
 (if (decide (((c.Procs.len:Nat):Int)>(32:Int)))=true then
 Q (3:Int) (6:Int) h7
 else
 LoopW1 (α1:=Int) (fun again1 i1 h8=>
 (if (decide (i1<((c.Procs.len:Nat):Int)))=true then
 ((InB c.Procs.base c.Procs.len i1)∧LdW none (shInt .i64) h8 (Addr.add (sat c.Procs.base 2 i1) 0) fun x=>
 CallT P zbt [(.int .i64 x),(.int .i64 (0:Int)),(.int .i64 (IntKind.wrap .i64 (((c.Labels.len:Nat):Int)-(1:Int))))] zag (fun r7 h9=>
 (if (!r7)=true then
 Q (2:Int) (IntKind.wrap .i64 ((7:Int)+i1)) h9
 else
 ((InB c.Procs.base c.Procs.len i1)∧LdW none shSl h9 (Addr.add (sat c.Procs.base 2 i1) 1) fun x1=>
 Call2 P zjm [x1.v,(.int .i64 c.Locks)] (shInt .i64) (shInt .i64) (fun r8 r9 h10=>
 (if (r8 !=(0:Int))=true then
 Q r8 (IntKind.wrap .i64 ((7:Int)+i1)) h10
 else
 again1 (IntKind.wrap .i64 (i1+(1:Int))) h10)) h9))) h8)
 else
 Q (0:Int) (0:Int) h8)) (0:Int) h7)))) (0:Int) h6) h5)) h4)) h3)) h2)) h1)) h
def zhj (P:Program) (c:S_api_Config) (s:S_api_State) (Q:(Bool→(Hp→Prop))) (h:Hp):Prop:=
 LetW ((((s.Parts.len:Nat):Int) !=((c.Labels.len:Nat):Int)) || (((s.Procs.len:Nat):Int) !=((c.Procs.len:Nat):Int))) fun y=>
 EffC (some (!y)) (CallT P zco [(.int .i64 s.Tick),(.int .i64 (0:Int)),(.int .i64 (4611686018427387904:Int))] zag) (fun r h1=>
 LetW (y || (!r)) fun y1=>
 (if y1=true then
 Q false h1
 else
 LoopW1 (α1:=Int) (fun again i h2=>
 (if (decide (i<((s.Parts.len:Nat):Int)))=true then
 ((InB s.Parts.base s.Parts.len i)∧LdW none shSl h2 (Addr.add (sat s.Parts.base 6 i) 4) fun x=>
 (((!(((x.len:Nat):Int) !=c.Locks))=true→(InB s.Parts.base s.Parts.len i))∧LdW (some (!(((x.len:Nat):Int) !=c.Locks))) shSl h2 (Addr.add (sat s.Parts.base 6 i) 5) fun x1=>
 LetW ((((x.len:Nat):Int) !=c.Locks) || (((x1.len:Nat):Int) !=c.Locks)) fun y2=>
 (((!y2)=true→(InB s.Parts.base s.Parts.len i))∧LdW (some (!y2)) shSl h2 (Addr.add (sat s.Parts.base 6 i) 1) fun x2=>
 LetW (y2 || (decide (((x2.len:Nat):Int)>c.Log))) fun y3=>
 (if y3=true then
 Q false h2
 else
 again (IntKind.wrap .i64 (i+(1:Int))) h2))))
 else
 LoopW1 (α1:=Int) (fun again1 p h3=>
 (if (decide (p<((s.Procs.len:Nat):Int)))=true then
 ((InB s.Procs.base s.Procs.len p)∧LdW none shSl h3 (Addr.add (sat s.Procs.base 15 p) 14) fun x=>
 (if (((x.len:Nat):Int) !=(IntKind.wrap .i64 (((c.Labels.len:Nat):Int)+(1:Int))))=true then
 Q false h3
 else
 LoopW1 (α1:=Int) (fun again2 k h4=>
 ((InB s.Procs.base s.Procs.len p)∧LdW none shSl h4 (Addr.add (sat s.Procs.base 15 p) 14) fun x1=>
 (if (decide (k<((x1.len:Nat):Int)))=true then
 ((InB s.Procs.base s.Procs.len p)∧LdW none shSl h4 (Addr.add (sat s.Procs.base 15 p) 14) fun x2=>
 ((InB x2.base x2.len k)∧LdW none shSl h4 (Addr.add (sat x2.base 4 k) 0) fun x3=>
 (if (decide (((x3.len:Nat):Int)>c.Lane))=true then
 Q false h4
 else
 again2 (IntKind.wrap .i64 (k+(1:Int))) h4)))
 else
 again1 (IntKind.wrap .i64 (p+(1:Int))) h4))) (0:Int) h3))
 else
 Q true h3)) (0:Int) h2)) (0:Int) h1)) h
def zdo (P:Program) (m:Option Addr) (i:Int) (Q:(Bool→(Hp→Prop))) (h:Hp):Prop:=
 NilW none m fun p=>
 LdW none shSl h (Addr.add (Addr.add p 7) 1) fun x=>
 ((InB x.base x.len i)∧LdW none sh_api_Part h (sat x.base 6 i) fun x1=>
 CallT P zik [(.pointer m),(.int .i64 i)] shSl (fun r h1=>
 LetW ((decide (x1.Cursor>(0:Int)))&&(decide (x1.Cursor≥((r.len:Nat):Int)))) fun y=>
 LetW ((decide (x1.Cursor<(0:Int))) || y) fun y1=>
 EffC (some (!y1)) (CallT P zci [(.int .i64 x1.Lost)] zag) (fun r1 h2=>
 LetW (y1 || (!r1)) fun y2=>
 EffC (some (!y2)) (CallT P zci [(.int .i64 x1.Forbidden)] zag) (fun r2 h3=>
 LetW (y2 || (!r2)) fun y3=>
 NilW (some ((!y3)&&(decide (x1.Lost>(0:Int))))) m fun p1=>
 LdW (some ((!y3)&&(decide (x1.Lost>(0:Int))))) (shInt .i64) h3 (Addr.add (Addr.add p1 0) 5) fun x2=>
 LetW ((decide (x1.Lost>(0:Int)))&&(decide (((x1.Log.len:Nat):Int)<x2))) fun y4=>
 LetW (y3 || y4) fun y5=>
 (if y5=true then
 Q false h3
 else
 LoopW1 (α1:=Int) (fun again k h4=>
 (if (decide (k<((x1.Log.len:Nat):Int)))=true then
 ((InB x1.Log.base x1.Log.len k)∧LdW none sh_api_Entry h4 (sat x1.Log.base 3 k) fun x3=>
 NilW none m fun p2=>
 LdW none (shInt .i64) h4 (Addr.add (Addr.add p2 7) 0) fun x4=>
 CallT P zco [(.int .i64 x3.Tick),(.int .i64 (0:Int)),(.int .i64 (IntKind.wrap .i64 (x4-(1:Int))))] zag (fun r3 h5=>
 ((((!(!r3))&&(decide (k>(0:Int))))=true→(InB x1.Log.base x1.Log.len (IntKind.wrap .i64 (k-(1:Int)))))∧LdW (some ((!(!r3))&&(decide (k>(0:Int))))) (shInt .i64) h5 (Addr.add (sat x1.Log.base 3 (IntKind.wrap .i64 (k-(1:Int)))) 0) fun x5=>
 LetW ((decide (k>(0:Int)))&&(decide (x3.Tick<x5))) fun y6=>
 LetW ((!r3) || y6) fun y7=>
 LetW (y7 || (decide (x3.Proc<(0:Int)))) fun y8=>
 NilW (some (!y8)) m fun p3=>
 LdW (some (!y8)) shSl h5 (Addr.add (Addr.add p3 0) 6) fun x6=>
 LetW (y8 || (decide (x3.Proc≥((x6.len:Nat):Int)))) fun y9=>
 NilW (some (!y9)) m fun p4=>
 LdW (some (!y9)) shSl h5 (Addr.add (Addr.add p4 0) 6) fun x7=>
 (((!y9)=true→(InB x7.base x7.len x3.Proc))∧LdW (some (!y9)) (shInt .i64) h5 (Addr.add (sat x7.base 2 x3.Proc) 0) fun x8=>
 LetW (y9 || (x8 !=i)) fun y10=>
 (if y10=true then
 Q false h5
 else
 again (IntKind.wrap .i64 (k+(1:Int))) h5)))) h4)
 else
 LoopW1 (α1:=Int) (fun again1 k1 h5=>
 (if (decide (k1<((x1.Owners.len:Nat):Int)))=true then
 ((InB x1.Owners.base x1.Owners.len k1)∧LdW none (shInt .i64) h5 (sat x1.Owners.base 1 k1) fun x3=>
 (((!(x3==(-1:Int)))=true→(InB x1.Owners.base x1.Owners.len k1))∧LdW (some (!(x3==(-1:Int)))) (shInt .i64) h5 (sat x1.Owners.base 1 k1) fun x4=>
 EffC (some (!(x3==(-1:Int)))) (CallT P zcp [(.pointer m),(.int .i64 x4),(.int .i64 i)] zag) (fun r3 h6=>
 LetW ((x3==(-1:Int)) || r3) fun y6=>
 (((!(!y6))=true→(InB x1.Owners.base x1.Owners.len k1))∧LdW (some (!(!y6))) (shInt .i64) h6 (sat x1.Owners.base 1 k1) fun x5=>
 ((((!(!y6))&&(x5==(-1:Int)))=true→(InB x1.Queues.base x1.Queues.len k1))∧LdW (some ((!(!y6))&&(x5==(-1:Int)))) shSl h6 (sat x1.Queues.base 1 k1) fun x6=>
 LetW ((x5==(-1:Int))&&(decide (((x6.len:Nat):Int)>(0:Int)))) fun y7=>
 LetW ((!y6) || y7) fun y8=>
 (if y8=true then
 Q false h6
 else
 LoopW1 (α1:=Int) (fun again2 n h7=>
 ((InB x1.Queues.base x1.Queues.len k1)∧LdW none shSl h7 (sat x1.Queues.base 1 k1) fun x7=>
 (if (decide (n<((x7.len:Nat):Int)))=true then
 ((InB x1.Queues.base x1.Queues.len k1)∧LdW none shSl h7 (sat x1.Queues.base 1 k1) fun x8=>
 ((InB x8.base x8.len n)∧LdW none (shInt .i64) h7 (sat x8.base 1 n) fun x9=>
 CallT P zcp [(.pointer m),(.int .i64 x9),(.int .i64 i)] zag (fun r4 h8=>
 NilW (some (!(!r4))) m fun p2=>
 LdW (some (!(!r4))) shSl h8 (Addr.add (Addr.add p2 7) 2) fun x10=>
 (((!(!r4))=true→(InB x10.base x10.len x9))∧LdW (some (!(!r4))) (shInt .i64) h8 (Addr.add (sat x10.base 15 x9) 0) fun x11=>
 LetW ((!r4) || (x11 !=(3:Int))) fun y9=>
 (((!y9)=true→(InB x1.Owners.base x1.Owners.len k1))∧LdW (some (!y9)) (shInt .i64) h8 (sat x1.Owners.base 1 k1) fun x12=>
 LetW (y9 || (x12==x9)) fun y10=>
 (if y10=true then
 Q false h8
 else
 again2 (IntKind.wrap .i64 (n+(1:Int))) h8)))) h7))
 else
 again1 (IntKind.wrap .i64 (k1+(1:Int))) h7))) (0:Int) h6)))) h5))
 else
 Q true h5)) (0:Int) h4)) (0:Int) h3)) h2) h1) h)
def zcu (P:Program) (m:Option Addr) (p:Int) (Q:(Bool→(Hp→Prop))) (h:Hp):Prop:=
 NilW none m fun p1=>
 LdW none shSl h (Addr.add (Addr.add p1 7) 2) fun x=>
 ((InB x.base x.len p)∧LdW none sh_api_Process h (sat x.base 15 p) fun x1=>
 NilW none m fun p2=>
 LdW none shSl h (Addr.add (Addr.add p2 0) 6) fun x2=>
 ((InB x2.base x2.len p)∧LdW none (shInt .i64) h (Addr.add (sat x2.base 2 p) 0) fun x3=>
 LetW ((decide (x1.State<(0:Int))) || (decide (x1.State>(6:Int)))) fun y=>
 LetW (y || (decide (x1.PC<(0:Int)))) fun y1=>
 NilW (some (!y1)) m fun p3=>
 LdW (some (!y1)) shSl h (Addr.add (Addr.add p3 0) 6) fun x4=>
 (((!y1)=true→(InB x4.base x4.len p))∧LdW (some (!y1)) shSl h (Addr.add (sat x4.base 2 p) 1) fun x5=>
 LetW (y1 || (decide (x1.PC>((x5.len:Nat):Int)))) fun y2=>
 LetW (y2 || (decide (x1.Cursor<(0:Int)))) fun y3=>
 LetW (y3 || (decide (x1.Cursor≥((x1.Lanes.len:Nat):Int)))) fun y4=>
 (if y4=true then
 Q false h
 else
 NilW none m fun p4=>
 LdW none (shInt .i64) h (Addr.add (Addr.add p4 7) 0) fun x6=>
 CallT P zco [(.int .i64 x1.Timer),(.int .i64 (0:Int)),(.int .i64 (IntKind.wrap .i64 (x6+(1099511627776:Int))))] zag (fun r h1=>
 EffC (some (!(!r))) (CallT P zco [(.int .i64 x1.Wake),(.int .i64 (0:Int)),(.int .i64 (IntKind.wrap .i64 (x6+(1099511627776:Int))))] zag) (fun r1 h2=>
 LetW ((!r) || (!r1)) fun y5=>
 LetW (y5 || (!((decide (x1.Wake>(0:Int)))==(x1.State==(4:Int))))) fun y6=>
 (if y6=true then
 Q false h2
 else
 LetW ((x1.Timer !=(0:Int)) || x1.Fired) fun y7=>
 LetW ((decide (x1.State≥(5:Int)))&&y7) fun y8=>
 (if y8=true then
 Q false h2
 else
 LoopW1 (α1:=Int) (fun again k h3=>
 (if (decide (k<((x1.Lanes.len:Nat):Int)))=true then
 ((InB x1.Lanes.base x1.Lanes.len k)∧LdW none sh_api_Lane h3 (sat x1.Lanes.base 4 k) fun x7=>
 CallT P zci [(.int .i64 x7.Taken)] zag (fun r2 h4=>
 EffC (some (!(!r2))) (CallT P zci [(.int .i64 x7.Dropped)] zag) (fun r3 h5=>
 LetW ((!r2) || (!r3)) fun y9=>
 (if y9=true then
 Q false h5
 else
 NilW none m fun p5=>
 LdW none shSl h5 (Addr.add (Addr.add p5 0) 0) fun x8=>
 EffC (some (decide (k<((x8.len:Nat):Int)))) (CallT P zft [(.pointer m),(.int .i64 k),(.int .i64 x3)] zag) (fun r4 h6=>
 LetW ((decide (k<((x8.len:Nat):Int)))&&(!r4)) fun y10=>
 LetW ((decide (((x7.Values.len:Nat):Int)>(0:Int))) || (decide (x7.Taken>(0:Int)))) fun y11=>
 LetW (y11 || (decide (x7.Dropped>(0:Int)))) fun y12=>
 LetW (y10&&y12) fun y13=>
 (if y13=true then
 Q false h6
 else
 LetW ((k !=x3) || (decide (x1.State≥(5:Int)))) fun y14=>
 NilW (some ((decide (((x7.Waiters.len:Nat):Int)>(0:Int)))&&(!y14))) m fun p6=>
 LdW (some ((decide (((x7.Waiters.len:Nat):Int)>(0:Int)))&&(!y14))) (shInt .i64) h6 (Addr.add (Addr.add p6 0) 3) fun x9=>
 LetW (y14 || (decide (((x7.Values.len:Nat):Int)<x9))) fun y15=>
 LetW ((decide (((x7.Waiters.len:Nat):Int)>(0:Int)))&&y15) fun y16=>
 (if y16=true then
 Q false h6
 else
 LoopW1 (α1:=Int) (fun again1 n h7=>
 (if (decide (n<((x7.Waiters.len:Nat):Int)))=true then
 ((InB x7.Waiters.base x7.Waiters.len n)∧LdW none sh_api_Waiter h7 (sat x7.Waiters.base 2 n) fun x10=>
 CallT P zcp [(.pointer m),(.int .i64 x10.Proc),(.int .i64 x3)] zag (fun r5 h8=>
 NilW (some (!(!r5))) m fun p7=>
 LdW (some (!(!r5))) shSl h8 (Addr.add (Addr.add p7 7) 2) fun x11=>
 (((!(!r5))=true→(InB x11.base x11.len x10.Proc))∧LdW (some (!(!r5))) (shInt .i64) h8 (Addr.add (sat x11.base 15 x10.Proc) 0) fun x12=>
 LetW ((!r5) || (x12 !=(2:Int))) fun y17=>
 (if y17=true then
 Q false h8
 else
 again1 (IntKind.wrap .i64 (n+(1:Int))) h8))) h7)
 else
 again (IntKind.wrap .i64 (k+(1:Int))) h7)) (0:Int) h6))) h5)) h4) h3)
 else
 Q true h3)) (0:Int) h2))) h1) h))))
def zde (P:Program) (m:Option Addr) (p:Int) (Q:(Bool→(Hp→Prop))) (h:Hp):Prop:=
 NilW none m fun p1=>
 LdW none shSl h (Addr.add (Addr.add p1 7) 2) fun x=>
 ((InB x.base x.len p)∧LdW none sh_api_Process h (sat x.base 15 p) fun x1=>
 NilW none m fun p2=>
 LdW none shSl h (Addr.add (Addr.add p2 0) 6) fun x2=>
 ((InB x2.base x2.len p)∧LdW none (shInt .i64) h (Addr.add (sat x2.base 2 p) 0) fun x3=>
 NilW none m fun p3=>
 LdW none shSl h (Addr.add (Addr.add p3 0) 6) fun x4=>
 ((InB x4.base x4.len p)∧LdW none shSl h (Addr.add (sat x4.base 2 p) 1) fun x5=>
 CallT P zgt [(.pointer m),(.int .i64 p)] zcw (fun r h1=>
 (((LdIs h1 (Addr.add (Addr.add p3 0) 6) [x4.v])∧((LdIs h1 (Addr.add (sat x4.base 2 p) 1) [x5.v])∧True))∧Call2 P zkz [r.v,x5.v] sh_api_Ins zag (fun r1 r2 h2=>
 LoopW2 (α1:=Int) (α2:=Int) (fun again queues k h3=>
 NilW none m fun p4=>
 LdW none shSl h3 (Addr.add (Addr.add p4 7) 1) fun x6=>
 ((InB x6.base x6.len x3)∧LdW none shSl h3 (Addr.add (sat x6.base 6 x3) 5) fun x7=>
 (if (decide (k<((x7.len:Nat):Int)))=true then
 LoopW2 (α1:=Int) (α2:=Int) (fun again1 queues1 n h4=>
 NilW none m fun p5=>
 LdW none shSl h4 (Addr.add (Addr.add p5 7) 1) fun x8=>
 ((InB x8.base x8.len x3)∧LdW none shSl h4 (Addr.add (sat x8.base 6 x3) 5) fun x9=>
 ((InB x9.base x9.len k)∧LdW none shSl h4 (sat x9.base 1 k) fun x10=>
 (if (decide (n<((x10.len:Nat):Int)))=true then
 JoinW1 (α1:=Int) (fun k1=>
 NilW none m fun p6=>
 LdW none shSl h4 (Addr.add (Addr.add p6 7) 1) fun x11=>
 ((InB x11.base x11.len x3)∧LdW none shSl h4 (Addr.add (sat x11.base 6 x3) 5) fun x12=>
 ((InB x12.base x12.len k)∧LdW none shSl h4 (sat x12.base 1 k) fun x13=>
 ((InB x13.base x13.len n)∧LdW none (shInt .i64) h4 (sat x13.base 1 n) fun x14=>
 (if (x14 !=p)=true then
 k1 queues1 h4
 else
 LetW ((!r2) || (r1.Op !=(29:Int))) fun y=>
 LetW (y || (r1.Imm !=k)) fun y1=>
 (if y1=true then
 Q false h4
 else
 k1 (IntKind.wrap .i64 (queues1+(1:Int))) h4))))))
 (fun queues2 h5=>
 again1 queues2 (IntKind.wrap .i64 (n+(1:Int))) h5)
 else
 again queues1 (IntKind.wrap .i64 (k+(1:Int))) h4)))) queues (0:Int) h3
 else
 LoopW2 (α1:=Int) (α2:=Int) (fun again1 lanes q h4=>
 NilW none m fun p5=>
 LdW none shSl h4 (Addr.add (Addr.add p5 7) 2) fun x8=>
 (if (decide (q<((x8.len:Nat):Int)))=true then
 NilW none m fun p6=>
 LdW none shSl h4 (Addr.add (Addr.add p6 7) 2) fun x9=>
 ((InB x9.base x9.len q)∧LdW none shSl h4 (Addr.add (sat x9.base 15 q) 14) fun x10=>
 ((InB x10.base x10.len x3)∧LdW none shSl h4 (Addr.add (sat x10.base 4 x3) 1) fun x11=>
 LoopW2 (α1:=Int) (α2:=Int) (fun again2 lanes1 n h5=>
 (if (decide (n<((x11.len:Nat):Int)))=true then
 JoinW1 (α1:=Int) (fun k1=>
 ((InB x11.base x11.len n)∧LdW none (shInt .i64) h5 (Addr.add (sat x11.base 2 n) 0) fun x12=>
 (if (x12 !=p)=true then
 k1 lanes1 h5
 else
 LetW ((!r2) || (r1.Op !=(24:Int))) fun y=>
 (((!y)=true→((0:Int)≤r1.B∧r1.B<(8:Int)))∧∃x13:Int,(((!y)=true→(List.get?Internal (α:=Value) [(.int .i64 x1.State),(.int .i64 x1.PC),(.int .i64 x1.Regs_0),(.int .i64 x1.Regs_1),(.int .i64 x1.Regs_2),(.int .i64 x1.Regs_3),(.int .i64 x1.Regs_4),(.int .i64 x1.Regs_5),(.int .i64 x1.Regs_6),(.int .i64 x1.Regs_7),(.int .i64 x1.Cursor),(.int .i64 x1.Timer),(.bool x1.Fired),(.int .i64 x1.Wake),x1.Lanes.v] (2+((Int.toNat r1.B)*1)))=(some (.int .i64 x13)))∧LetW (y || (x13 !=q)) fun y1=>
 (((!y1)=true→((0:Int)≤r1.C∧r1.C<(8:Int)))∧∃x14:Int,(((!y1)=true→(List.get?Internal (α:=Value) [(.int .i64 x1.State),(.int .i64 x1.PC),(.int .i64 x1.Regs_0),(.int .i64 x1.Regs_1),(.int .i64 x1.Regs_2),(.int .i64 x1.Regs_3),(.int .i64 x1.Regs_4),(.int .i64 x1.Regs_5),(.int .i64 x1.Regs_6),(.int .i64 x1.Regs_7),(.int .i64 x1.Cursor),(.int .i64 x1.Timer),(.bool x1.Fired),(.int .i64 x1.Wake),x1.Lanes.v] (2+((Int.toNat r1.C)*1)))=(some (.int .i64 x14)))∧(((!y1)=true→(InB x11.base x11.len n))∧LdW (some (!y1)) (shInt .i64) h5 (Addr.add (sat x11.base 2 n) 1) fun x15=>
 LetW (y1 || (x14 !=x15)) fun y2=>
 (if y2=true then
 Q false h5
 else
 k1 (IntKind.wrap .i64 (lanes1+(1:Int))) h5)))))))))
 (fun lanes2 h6=>
 again2 lanes2 (IntKind.wrap .i64 (n+(1:Int))) h6)
 else
 again1 lanes1 (IntKind.wrap .i64 (q+(1:Int))) h5)) lanes (0:Int) h4))
 else
 LoopW2 (α1:=Bool) (α2:=Int) (fun again2 some_ k1 h5=>
 (if (decide (k1<((x1.Lanes.len:Nat):Int)))=true then
 (((!some_)=true→(InB x1.Lanes.base x1.Lanes.len k1))∧LdW (some (!some_)) shSl h5 (Addr.add (sat x1.Lanes.base 4 k1) 0) fun x9=>
 LetW (some_ || (decide (((x9.len:Nat):Int)>(0:Int)))) fun y=>
 again2 y (IntKind.wrap .i64 (k1+(1:Int))) h5)
 else
 (if (x1.State==(3:Int))=true then
 LetW ((queues==(1:Int))&&(lanes==(0:Int))) fun y=>
 Q y h5
 else
 (if (x1.State==(2:Int))=true then
 LetW ((queues==(0:Int))&&(lanes==(1:Int))) fun y=>
 Q y h5
 else
 (if (x1.State==(1:Int))=true then
 LetW ((queues==(0:Int))&&(lanes==(0:Int))) fun y=>
 LetW (y&&r2) fun y1=>
 LetW (y1&&(r1.Op==(25:Int))) fun y2=>
 LetW (y2&&(!some_)) fun y3=>
 LetW (y3&&(!x1.Fired)) fun y4=>
 Q y4 h5
 else
 (if (x1.State==(4:Int))=true then
 LetW ((queues==(0:Int))&&(lanes==(0:Int))) fun y=>
 LetW (y&&r2) fun y1=>
 LetW (y1&&(r1.Op==(28:Int))) fun y2=>
 Q y2 h5
 else
 LetW ((queues==(0:Int))&&(lanes==(0:Int))) fun y=>
 Q y h5)))))) false (0:Int) h4)) (0:Int) (0:Int) h3))) (0:Int) (0:Int) h2) h1)) h)))
def zjx (P:Program) (b:Sl) (x:S_api_Ins) (Q:(Sl→(Hp→Prop))) (h:Hp):Prop:=
 NewW [(.int .u8 (IntKind.wrap .u8 x.Op)),(.int .u8 (IntKind.wrap .u8 x.A)),(.int .u8 (IntKind.wrap .u8 x.B)),(.int .u8 (IntKind.wrap .u8 x.C))] (fun a h1=>
 zaj 1 1 [(.int .u8 (0:Int))] b ⟨(some a),4,4⟩ (fun r h2=>
 LoopW2 (α1:=Sl) (α2:=Int) (fun again b1 i h3=>
 (if (decide (i<(8:Int)))=true then
 ((0:Int)≤(IntKind.wrap .i64 ((8:Int)*i))∧NewW [(.int .u8 (IntKind.wrap .u8 (shrI .u64 (IntKind.wrap .u64 x.Imm) (IntKind.wrap .i64 ((8:Int)*i)))))] (fun a1 h4=>
 zaj 1 1 [(.int .u8 (0:Int))] ⟨b1.base,b1.len,b1.cap⟩ ⟨(some a1),1,1⟩ (fun r1 h5=>
 again r1 (IntKind.wrap .i64 (i+(1:Int))) h5) h4) h3)
 else
 Q ⟨b1.base,b1.len,b1.cap⟩ h3)) r (0:Int) h2) h1) h
def zjy (P:Program) (is:Bool) (Q:(Int→(Hp→Prop))) (h:Hp):Prop:=
 (if is=true then
 Q (1:Int) h
 else
 Q (0:Int) h)
def znq (P:Program) (r:Option Addr) (many:Int) (Q:(Int→(Hp→Prop))) (h:Hp):Prop:=
 NilW none r fun p=>
 LdW none (shInt .i64) h (Addr.add p 2) fun x=>
 (if (x !=(0:Int))=true then
 Q (0:Int) h
 else
 NilW none r fun p1=>
 LdW none shSl h (Addr.add p1 0) fun x1=>
 NilW none r fun p2=>
 LdW none (shInt .i64) h (Addr.add p2 1) fun x2=>
 (if (decide ((IntKind.wrap .i64 (((x1.len:Nat):Int)-x2))<many))=true then
 NilW none r fun p3=>
 LdW none shSl h (Addr.add p3 0) fun x3=>
 Call0 P zbg [(.pointer r),(.int .i64 (5:Int)),(.int .i64 ((x3.len:Nat):Int))] (fun h1=>
 Q (0:Int) h1) h
 else
 NilW none r fun p3=>
 LdW none shSl h (Addr.add p3 0) fun x3=>
 NilW none r fun p4=>
 LdW none (shInt .i64) h (Addr.add p4 1) fun x4=>
 NilW none r fun p5=>
 LdW none (shInt .i64) h (Addr.add p5 1) fun x5=>
 (((0:Int)≤x4∧(x4≤(IntKind.wrap .i64 (x5+many))∧(IntKind.wrap .i64 (x5+many))≤((x3.cap:Nat):Int)))∧LetW (α:=Sl) ⟨(sbase x3.base 1 (Int.toNat x4) x3.cap),((Int.toNat (IntKind.wrap .i64 (x5+many)))-(Int.toNat x4)),(x3.cap-(Int.toNat x4))⟩ fun y=>
 LoopW2 (α1:=Int) (α2:=Int) (fun again n t48 h1=>
 (if (decide (t48<((y.len:Nat):Int)))=true then
 ((InB y.base y.len t48)∧LdW none (shInt .u8) h1 (sat y.base 1 t48) fun x6=>
 ((0:Int)≤(IntKind.wrap .i64 ((8:Int)*t48))∧again (bitsI .or .u64 n (shlI .u64 (IntKind.wrap .u64 x6) (IntKind.wrap .i64 ((8:Int)*t48)))) (IntKind.wrap .i64 (t48+(1:Int))) h1))
 else
 NilW none r fun p6=>
 LdW none (shInt .i64) h1 (Addr.add p6 1) fun x6=>
 NilW none r fun p7=>
 StW h1 (Addr.add p7 1) [(.int .i64 (IntKind.wrap .i64 (x6+many)))] (fun h2=>
 Q (IntKind.wrap .i64 n) h2))) (0:Int) (0:Int) h)))
def zjz (P:Program) (r:Option Addr) (Q:(Hp→Prop)) (h:Hp):Prop:=
 NilW none r fun p=>
 CallT P zas [(.pointer (some (Addr.add p 0))),(.int .i64 (4:Int))] (shInt .i64) (fun r1 h1=>
 NilW none r fun p1=>
 LdW none (shInt .i64) h1 (Addr.add (Addr.add p1 0) 2) fun x=>
 (if (x !=(0:Int))=true then
 Q h1
 else
 NilW none r fun p2=>
 LdW none shSl h1 (Addr.add (Addr.add p2 0) 0) fun x1=>
 NilW none r fun p3=>
 LdW none (shInt .i64) h1 (Addr.add (Addr.add p3 0) 1) fun x2=>
 (if (decide ((IntKind.wrap .i64 (((x1.len:Nat):Int)-x2))<r1))=true then
 NilW none r fun p4=>
 NilW none r fun p5=>
 LdW none shSl h1 (Addr.add (Addr.add p5 0) 0) fun x3=>
 Call0 P zbg [(.pointer (some (Addr.add p4 0))),(.int .i64 (5:Int)),(.int .i64 ((x3.len:Nat):Int))] (fun h2=>
 Q h2) h1
 else
 NilW none r fun p4=>
 LdW none shSl h1 (Addr.add (Addr.add p4 0) 0) fun x3=>
 NilW none r fun p5=>
 LdW none (shInt .i64) h1 (Addr.add (Addr.add p5 0) 1) fun x4=>
 NilW none r fun p6=>
 LdW none (shInt .i64) h1 (Addr.add (Addr.add p6 0) 1) fun x5=>
 (((0:Int)≤x4∧(x4≤(IntKind.wrap .i64 (x5+r1))∧(IntKind.wrap .i64 (x5+r1))≤((x3.cap:Nat):Int)))∧LetW (α:=Sl) ⟨(sbase x3.base 1 (Int.toNat x4) x3.cap),((Int.toNat (IntKind.wrap .i64 (x5+r1)))-(Int.toNat x4)),(x3.cap-(Int.toNat x4))⟩ fun y=>
 Call3 P zuz [y.v] sh_api_Config (shInt .i64) (shInt .i64) (fun r2 r3 r4 h2=>
 (if (r3 !=(0:Int))=true then
 NilW none r fun p7=>
 NilW none r fun p8=>
 LdW none (shInt .i64) h2 (Addr.add (Addr.add p8 0) 1) fun x6=>
 Call0 P zbg [(.pointer (some (Addr.add p7 0))),(.int .i64 r3),(.int .i64 (IntKind.wrap .i64 (x6+r4)))] (fun h3=>
 Q h3) h2
 else
 NilW none r fun p7=>
 StW h2 (Addr.add p7 4) [r2.Labels.v,r2.Table.v,(.int .i64 r2.Fuel),(.int .i64 r2.Lane),(.int .i64 r2.Locks),(.int .i64 r2.Log),r2.Procs.v] (fun h3=>
 NilW none r fun p8=>
 LdW none (shInt .i64) h3 (Addr.add (Addr.add p8 0) 1) fun x6=>
 NilW none r fun p9=>
 StW h3 (Addr.add (Addr.add p9 0) 1) [(.int .i64 (IntKind.wrap .i64 (x6+r1)))] (fun h4=>
 Q h4)))) h1)))) h
def zmb (P:Program) (r:Option Addr) (Q:(S_api_Part→(Hp→Prop))) (h:Hp):Prop:=
 NilW none r fun p=>
 CallT P zas [(.pointer (some (Addr.add p 0))),(.int .i64 (1:Int))] (shInt .i64) (fun r1 h1=>
 NilW none r fun p1=>
 NilW none r fun p2=>
 LdW none (shInt .i64) h1 (Addr.add (Addr.add p2 4) 5) fun x=>
 CallT P zdj [(.pointer (some (Addr.add p1 0))),(.int .i64 (2:Int)),(.int .i64 x)] (shInt .i64) (fun r2 h2=>
 LoopW2 (α1:=Int) (α2:=S_api_Part) (fun again t19 x1 h3=>
 (if (decide (t19<r2))=true then
 NilW none r fun p3=>
 NilW none r fun p4=>
 NilW none r fun p5=>
 CallT P zbm [(.pointer (some (Addr.add p3 0))),(.int .i64 (8:Int))] (shInt .i64) (fun r3 h4=>
 ((True∧True)∧CallT P zas [(.pointer (some (Addr.add p4 0))),(.int .i64 (1:Int))] (shInt .i64) (fun r4 h5=>
 ((True∧True)∧CallT P zbm [(.pointer (some (Addr.add p5 0))),(.int .i64 (8:Int))] (shInt .i64) (fun r5 h6=>
 ((True∧True)∧NewW [(.int .i64 r3),(.int .i64 r4),(.int .i64 r5)] (fun a h7=>
 ((True∧True)∧zaj 3 24 [(.int .i64 (0:Int)),(.int .i64 (0:Int)),(.int .i64 (0:Int))] ⟨x1.Log.base,x1.Log.len,x1.Log.cap⟩ ⟨(some a),1,1⟩ (fun r6 h8=>
 again (IntKind.wrap .i64 (t19+(1:Int))) ⟨x1.Cursor,r6,x1.Lost,x1.Forbidden,x1.Owners,x1.Queues⟩ h8) h7)) h6)) h5)) h4)) h3
 else
 NilW none r fun p3=>
 NilW none r fun p4=>
 CallT P zas [(.pointer (some (Addr.add p3 0))),(.int .i64 (2:Int))] (shInt .i64) (fun r3 h4=>
 CallT P zas [(.pointer (some (Addr.add p4 0))),(.int .i64 (2:Int))] (shInt .i64) (fun r4 h5=>
 NilW none r fun p5=>
 LdW none (shInt .i64) h5 (Addr.add (Addr.add p5 4) 4) fun x2=>
 LoopW2 (α1:=Int) (α2:=S_api_Part) (fun again1 t55 x3 h6=>
 (if (decide (t55<x2))=true then
 NilW none r fun p6=>
 CallT P zas [(.pointer (some (Addr.add p6 0))),(.int .i64 (1:Int))] (shInt .i64) (fun r5 h7=>
 ((True∧True)∧NewW [(.int .i64 (IntKind.wrap .i64 (r5-(1:Int))))] (fun a h8=>
 ((True∧True)∧zaj 1 8 [(.int .i64 (0:Int))] ⟨x3.Owners.base,x3.Owners.len,x3.Owners.cap⟩ ⟨(some a),1,1⟩ (fun r6 h9=>
 NilW none r fun p7=>
 NilW none r fun p8=>
 LdW none shSl h9 (Addr.add (Addr.add p8 4) 6) fun x4=>
 CallT P zdj [(.pointer (some (Addr.add p7 0))),(.int .i64 (1:Int)),(.int .i64 ((x4.len:Nat):Int))] (shInt .i64) (fun r7 h10=>
 LoopW2 (α1:=Sl) (α2:=Int) (fun again2 q t77 h11=>
 (if (decide (t77<r7))=true then
 NilW none r fun p9=>
 CallT P zas [(.pointer (some (Addr.add p9 0))),(.int .i64 (1:Int))] (shInt .i64) (fun r8 h12=>
 NewW [(.int .i64 r8)] (fun a1 h13=>
 zaj 1 8 [(.int .i64 (0:Int))] ⟨q.base,q.len,q.cap⟩ ⟨(some a1),1,1⟩ (fun r9 h14=>
 again2 r9 (IntKind.wrap .i64 (t77+(1:Int))) h14) h13) h12) h11
 else
 NewW [q.v] (fun a1 h12=>
 zaj 1 24 [(.slice none 0 0)] ⟨x3.Queues.base,x3.Queues.len,x3.Queues.cap⟩ ⟨(some a1),1,1⟩ (fun r8 h13=>
 again1 (IntKind.wrap .i64 (t55+(1:Int))) ⟨x3.Cursor,x3.Log,x3.Lost,x3.Forbidden,r6,r8⟩ h13) h12) h11)) ⟨none,0,0⟩ (0:Int) h10) h9) h8)) h7)) h6
 else
 Q x3 h6)) (0:Int) ⟨x1.Cursor,x1.Log,r3,r4,x1.Owners,x1.Queues⟩ h5) h4) h3)) (0:Int) ⟨r1,⟨none,0,0⟩,(0:Int),(0:Int),⟨none,0,0⟩,⟨none,0,0⟩⟩ h2) h1) h
def zmc (P:Program) (r:Option Addr) (Q:(S_api_Process→(Hp→Prop))) (h:Hp):Prop:=
 NilW none r fun p=>
 NilW none r fun p1=>
 CallT P zas [(.pointer (some (Addr.add p 0))),(.int .i64 (1:Int))] (shInt .i64) (fun r1 h1=>
 CallT P zas [(.pointer (some (Addr.add p1 0))),(.int .i64 (2:Int))] (shInt .i64) (fun r2 h2=>
 NewW [(.int .i64 r1),(.int .i64 r2),(.int .i64 (0:Int)),(.int .i64 (0:Int)),(.int .i64 (0:Int)),(.int .i64 (0:Int)),(.int .i64 (0:Int)),(.int .i64 (0:Int)),(.int .i64 (0:Int)),(.int .i64 (0:Int)),(.int .i64 (0:Int)),(.int .i64 (0:Int)),(.bool false),(.int .i64 (0:Int)),(.slice none 0 0)] (fun a h3=>
 LoopW1 (α1:=Int) (fun again t16 h4=>
 (if (decide (t16<(8:Int)))=true then
 NilW none r fun p2=>
 CallT P zbm [(.pointer (some (Addr.add p2 0))),(.int .i64 (8:Int))] (shInt .i64) (fun r3 h5=>
 (((0:Int)≤t16∧t16<(8:Int))∧StW h5 (Addr.add (Addr.add a 2) ((Int.toNat t16)*1)) [(.int .i64 r3)] (fun h6=>
 again (IntKind.wrap .i64 (t16+(1:Int))) h6))) h4
 else
 NilW none r fun p2=>
 CallT P zas [(.pointer (some (Addr.add p2 0))),(.int .i64 (1:Int))] (shInt .i64) (fun r3 h5=>
 StW h5 (Addr.add a 10) [(.int .i64 r3)] (fun h6=>
 NilW none r fun p3=>
 CallT P zbm [(.pointer (some (Addr.add p3 0))),(.int .i64 (8:Int))] (shInt .i64) (fun r4 h7=>
 StW h7 (Addr.add a 11) [(.int .i64 r4)] (fun h8=>
 NilW none r fun p4=>
 LdW none (shInt .i64) h8 (Addr.add (Addr.add p4 0) 1) fun x=>
 NilW none r fun p5=>
 CallT P zas [(.pointer (some (Addr.add p5 0))),(.int .i64 (1:Int))] (shInt .i64) (fun r5 h9=>
 JoinW0 (fun k=>
 (if (decide (r5>(1:Int)))=true then
 NilW none r fun p6=>
 Call0 P zbg [(.pointer (some (Addr.add p6 0))),(.int .i64 (4:Int)),(.int .i64 x)] (fun h10=>
 k h10) h9
 else
 k h9))
 (fun h10=>
 StW h10 (Addr.add a 12) [(.bool (r5==(1:Int)))] (fun h11=>
 NilW none r fun p6=>
 CallT P zbm [(.pointer (some (Addr.add p6 0))),(.int .i64 (8:Int))] (shInt .i64) (fun r6 h12=>
 StW h12 (Addr.add a 13) [(.int .i64 r6)] (fun h13=>
 NilW none r fun p7=>
 LdW none shSl h13 (Addr.add (Addr.add p7 4) 0) fun x1=>
 LoopW1 (α1:=Int) (fun again1 t68 h14=>
 (if (decide (t68<(IntKind.wrap .i64 (((x1.len:Nat):Int)+(1:Int)))))=true then
 LdW none shSl h14 (Addr.add a 14) fun x2=>
 CallT P zsh [(.pointer r)] sh_api_Lane (fun r7 h15=>
 (((LdIs h15 (Addr.add a 14) [x2.v])∧True)∧NewW [r7.Values.v,r7.Waiters.v,(.int .i64 r7.Taken),(.int .i64 r7.Dropped)] (fun a1 h16=>
 (((LdIs h16 (Addr.add a 14) [x2.v])∧True)∧zaj 4 64 [(.slice none 0 0),(.slice none 0 0),(.int .i64 (0:Int)),(.int .i64 (0:Int))] x2 ⟨(some a1),1,1⟩ (fun r8 h17=>
 StW h17 (Addr.add a 14) [r8.v] (fun h18=>
 again1 (IntKind.wrap .i64 (t68+(1:Int))) h18)) h16)) h15)) h14
 else
 LdW none sh_api_Process h14 a fun x2=>
 Q x2 h14)) (0:Int) h13)) h11))) h8)) h6)) h4)) (0:Int) h3) h2) h1) h
def zgj (P:Program) (b:Sl) (Q:(S_api_Config→(Int→(Int→(Hp→Prop))))) (h:Hp):Prop:=
 (if (decide (((b.len:Nat):Int)>(1048576:Int)))=true then
 Q ⟨⟨none,0,0⟩,⟨none,0,0⟩,(0:Int),(0:Int),(0:Int),(0:Int),⟨none,0,0⟩⟩ (22:Int) (1048576:Int) h
 else
 NewW [b.v,(.int .i64 (0:Int)),(.int .i64 (0:Int)),(.int .i64 (0:Int))] (fun a h1=>
 CallT P zfu [(.pointer (some a))] sh_api_Config (fun r h2=>
 JoinW0 (fun k=>
 NilW none (some a) fun p=>
 LdW none (shInt .i64) h2 (Addr.add p 2) fun x=>
 NilW (some (x==(0:Int))) (some a) fun p1=>
 LdW (some (x==(0:Int))) (shInt .i64) h2 (Addr.add p1 1) fun x1=>
 LetW ((x==(0:Int))&&(decide (x1<((b.len:Nat):Int)))) fun y=>
 (if y=true then
 NilW none (some a) fun p2=>
 LdW none (shInt .i64) h2 (Addr.add p2 1) fun x2=>
 Call0 P zak [(.pointer (some a)),(.int .i64 (6:Int)),(.int .i64 x2)] (fun h3=>
 k h3) h2
 else
 k h2))
 (fun h3=>
 NilW none (some a) fun p=>
 LdW none (shInt .i64) h3 (Addr.add p 2) fun x=>
 (if (x !=(0:Int))=true then
 NilW none (some a) fun p1=>
 LdW none (shInt .i64) h3 (Addr.add p1 2) fun x1=>
 NilW none (some a) fun p2=>
 LdW none (shInt .i64) h3 (Addr.add p2 3) fun x2=>
 (((LdIs h3 (Addr.add p1 2) [(.int .i64 x1)])∧((LdIs h3 (Addr.add p2 3) [(.int .i64 x2)])∧True))∧Q ⟨⟨none,0,0⟩,⟨none,0,0⟩,(0:Int),(0:Int),(0:Int),(0:Int),⟨none,0,0⟩⟩ x1 x2 h3)
 else
 Q r (0:Int) (0:Int) h3))) h1) h)
def zhk (P:Program) (r:Option Addr) (bytes:Int) (most:Int) (Q:(Int→(Hp→Prop))) (h:Hp):Prop:=
 CallT P zar [(.pointer r),(.int .i64 bytes),(.int .i64 (0:Int)),(.int .i64 most),(.int .i64 (3:Int)),(.int .i64 (3:Int))] (shInt .i64) (fun r1 h1=>
 Q r1 h1) h
def zea (P:Program) (r:Option Addr) (many:Int) (least:Int) (most:Int) (low:Int) (high:Int) (Q:(Int→(Hp→Prop))) (h:Hp):Prop:=
 NilW none r fun p=>
 LdW none (shInt .i64) h (Addr.add p 1) fun x=>
 CallT P zae [(.pointer r),(.int .i64 many)] (shInt .u64) (fun r1 h1=>
 NilW none r fun p1=>
 LdW none (shInt .i64) h1 (Addr.add p1 2) fun x1=>
 (if (x1 !=(0:Int))=true then
 Q (0:Int) h1
 else
 JoinW0 (fun k=>
 (if (decide ((IntKind.wrap .i64 r1)<least))=true then
 Call0 P zak [(.pointer r),(.int .i64 low),(.int .i64 x)] (fun h2=>
 k h2) h1
 else
 k h1))
 (fun h2=>
 (if (decide ((IntKind.wrap .i64 r1)>most))=true then
 Call0 P zak [(.pointer r),(.int .i64 high),(.int .i64 x)] (fun h3=>
 Q (IntKind.wrap .i64 r1) h3) h2
 else
 Q (IntKind.wrap .i64 r1) h2)))) h
def zfb (P:Program) (r:Option Addr) (c:S_api_Config) (Q:(S_api_Lane→(Hp→Prop))) (h:Hp):Prop:=
 CallT P zcx [(.pointer r),(.int .i64 (1:Int)),(.int .i64 c.Lane)] (shInt .i64) (fun r1 h1=>
 LoopW2 (α1:=Int) (α2:=S_api_Lane) (fun again k l h2=>
 NilW (some (decide (k<r1))) r fun p=>
 LdW (some (decide (k<r1))) (shInt .i64) h2 (Addr.add p 2) fun x=>
 LetW ((decide (k<r1))&&(x==(0:Int))) fun y=>
 (if y=true then
 CallT P zae [(.pointer r),(.int .i64 (8:Int))] (shInt .u64) (fun r2 h3=>
 ((True∧True)∧NewW [(.int .i64 (IntKind.wrap .i64 r2))] (fun a h4=>
 ((True∧True)∧zaj 1 8 [(.int .i64 (0:Int))] ⟨l.Values.base,l.Values.len,l.Values.cap⟩ ⟨(some a),1,1⟩ (fun r3 h5=>
 again (IntKind.wrap .i64 (k+(1:Int))) ⟨r3,l.Waiters,l.Taken,l.Dropped⟩ h5) h4)) h3)) h2
 else
 CallT P zcx [(.pointer r),(.int .i64 (1:Int)),(.int .i64 ((c.Procs.len:Nat):Int))] (shInt .i64) (fun r2 h3=>
 LoopW2 (α1:=Int) (α2:=S_api_Lane) (fun again1 k1 l1 h4=>
 NilW (some (decide (k1<r2))) r fun p1=>
 LdW (some (decide (k1<r2))) (shInt .i64) h4 (Addr.add p1 2) fun x1=>
 LetW ((decide (k1<r2))&&(x1==(0:Int))) fun y1=>
 (if y1=true then
 CallT P zae [(.pointer r),(.int .i64 (1:Int))] (shInt .u64) (fun r3 h5=>
 CallT P zae [(.pointer r),(.int .i64 (8:Int))] (shInt .u64) (fun r4 h6=>
 NewW [(.int .i64 (IntKind.wrap .i64 r3)),(.int .i64 (IntKind.wrap .i64 r4))] (fun a h7=>
 zaj 2 16 [(.int .i64 (0:Int)),(.int .i64 (0:Int))] ⟨l1.Waiters.base,l1.Waiters.len,l1.Waiters.cap⟩ ⟨(some a),1,1⟩ (fun r5 h8=>
 again1 (IntKind.wrap .i64 (k1+(1:Int))) ⟨l1.Values,r5,l1.Taken,l1.Dropped⟩ h8) h7) h6) h5) h4
 else
 CallT P zae [(.pointer r),(.int .i64 (2:Int))] (shInt .u64) (fun r3 h5=>
 CallT P zae [(.pointer r),(.int .i64 (2:Int))] (shInt .u64) (fun r4 h6=>
 Q ⟨l1.Values,l1.Waiters,(IntKind.wrap .i64 r3),(IntKind.wrap .i64 r4)⟩ h6) h5) h4)) (0:Int) l h3) h2)) (0:Int) ⟨⟨none,0,0⟩,⟨none,0,0⟩,(0:Int),(0:Int)⟩ h1) h
def zeb (P:Program) (a:Sl) (b:Sl) (Q:(Bool→(Hp→Prop))) (h:Hp):Prop:=
 (if (((a.len:Nat):Int) !=((b.len:Nat):Int))=true then
 Q false h
 else
 LoopW1 (α1:=Int) (fun again i h1=>
 (if (decide (i<((a.len:Nat):Int)))=true then
 ((InB a.base a.len i)∧LdW none (shInt .u64) h1 (sat a.base 1 i) fun x=>
 ((InB b.base b.len i)∧LdW none (shInt .u64) h1 (sat b.base 1 i) fun x1=>
 (if (x !=x1)=true then
 Q false h1
 else
 again (IntKind.wrap .i64 (i+(1:Int))) h1)))
 else
 Q true h1)) (0:Int) h)
def zfc (P:Program) (a:Sl) (b:Sl) (Q:(Bool→(Hp→Prop))) (h:Hp):Prop:=
 (if (((a.len:Nat):Int) !=((b.len:Nat):Int))=true then
 Q false h
 else
 LoopW1 (α1:=Int) (fun again i h1=>
 (if (decide (i<((a.len:Nat):Int)))=true then
 ((InB a.base a.len i)∧LdW none (shInt .i64) h1 (sat a.base 1 i) fun x=>
 ((InB b.base b.len i)∧LdW none (shInt .i64) h1 (sat b.base 1 i) fun x1=>
 (if (x !=x1)=true then
 Q false h1
 else
 again (IntKind.wrap .i64 (i+(1:Int))) h1)))
 else
 Q true h1)) (0:Int) h)
def zit (P:Program) (a:Sl) (b:Sl) (Q:(Bool→(Hp→Prop))) (h:Hp):Prop:=
 (if (((a.len:Nat):Int) !=((b.len:Nat):Int))=true then
 Q false h
 else
 LoopW1 (α1:=Int) (fun again i h1=>
 (if (decide (i<((a.len:Nat):Int)))=true then
 ((InB a.base a.len i)∧LdW none (shInt .i64) h1 (sat a.base 1 i) fun x=>
 ((InB b.base b.len i)∧LdW none (shInt .i64) h1 (sat b.base 1 i) fun x1=>
 (if (x !=x1)=true then
 Q false h1
 else
 again (IntKind.wrap .i64 (i+(1:Int))) h1)))
 else
 Q true h1)) (0:Int) h)
def zfd (P:Program) (a:S_api_Lane) (b:S_api_Lane) (Q:(Bool→(Hp→Prop))) (h:Hp):Prop:=
 LetW ((((a.Values.len:Nat):Int) !=((b.Values.len:Nat):Int)) || (((a.Waiters.len:Nat):Int) !=((b.Waiters.len:Nat):Int))) fun y=>
 LetW (y || (a.Taken !=b.Taken)) fun y1=>
 LetW (y1 || (a.Dropped !=b.Dropped)) fun y2=>
 (if y2=true then
 Q false h
 else
 LoopW1 (α1:=Int) (fun again i h1=>
 (if (decide (i<((a.Values.len:Nat):Int)))=true then
 ((InB a.Values.base a.Values.len i)∧LdW none (shInt .i64) h1 (sat a.Values.base 1 i) fun x=>
 ((InB b.Values.base b.Values.len i)∧LdW none (shInt .i64) h1 (sat b.Values.base 1 i) fun x1=>
 (if (x !=x1)=true then
 Q false h1
 else
 again (IntKind.wrap .i64 (i+(1:Int))) h1)))
 else
 LoopW1 (α1:=Int) (fun again1 i1 h2=>
 (if (decide (i1<((a.Waiters.len:Nat):Int)))=true then
 ((InB a.Waiters.base a.Waiters.len i1)∧LdW none sh_api_Waiter h2 (sat a.Waiters.base 2 i1) fun x=>
 ((InB b.Waiters.base b.Waiters.len i1)∧LdW none sh_api_Waiter h2 (sat b.Waiters.base 2 i1) fun x1=>
 SemV none P (binS .neq 114 (.tmp 66) (.tmp 71) x.v x1.v) zag h2 fun x2=>
 (if x2=true then
 Q false h2
 else
 again1 (IntKind.wrap .i64 (i1+(1:Int))) h2)))
 else
 Q true h2)) (0:Int) h1)) (0:Int) h)
def zqy (P:Program) (l:Sl) (Q:(Int→(Int→(Hp→Prop)))) (h:Hp):Prop:=
 (if (((l.len:Nat):Int)==(0:Int))=true then
 Q (1:Int) (0:Int) h
 else
 (if (decide (((l.len:Nat):Int)>(8:Int)))=true then
 Q (3:Int) (8:Int) h
 else
 LoopW1 (α1:=Int) (fun again i h1=>
 (if (decide (i<((l.len:Nat):Int)))=true then
 ((InB l.base l.len i)∧LdW none (shInt .u64) h1 (sat l.base 1 i) fun x=>
 ((InB l.base l.len (IntKind.wrap .i64 (i-(1:Int))))∧LdW none (shInt .u64) h1 (sat l.base 1 (IntKind.wrap .i64 (i-(1:Int)))) fun x1=>
 (if (x==x1)=true then
 Q (8:Int) i h1
 else
 ((InB l.base l.len i)∧LdW none (shInt .u64) h1 (sat l.base 1 i) fun x2=>
 ((InB l.base l.len (IntKind.wrap .i64 (i-(1:Int))))∧LdW none (shInt .u64) h1 (sat l.base 1 (IntKind.wrap .i64 (i-(1:Int)))) fun x3=>
 (if (decide (x2<x3))=true then
 Q (7:Int) i h1
 else
 again (IntKind.wrap .i64 (i+(1:Int))) h1))))))
 else
 Q (0:Int) (0:Int) h1)) (1:Int) h))
def zdn1 (P:Program) (n:Int) (most:Int) (Q:(Int→(Hp→Prop))) (h:Hp):Prop:=
 (if (n==(0:Int))=true then
 Q (1:Int) h
 else
 (if (decide (n>most))=true then
 Q (3:Int) h
 else
 Q (0:Int) h))
def zdo1 (P:Program) (table:Sl) (parts:Int) (Q:(Option Addr→(Int→(Int→(Hp→Prop))))) (h:Hp):Prop:=
 NewW [(.int .i64 parts)] (fun a h1=>
 LdW none (shInt .i64) h1 a fun x=>
 LdW (some (!(decide (x<(1:Int))))) (shInt .i64) h1 a fun x1=>
 LetW ((decide (x<(1:Int))) || (decide (x1>(8:Int)))) fun y=>
 LetW (y || (((table.len:Nat):Int)==(0:Int))) fun y1=>
 (if y1=true then
 Q none (1:Int) (0:Int) h1
 else
 (if (decide (((table.len:Nat):Int)>(64:Int)))=true then
 Q none (3:Int) (64:Int) h1
 else
 CallT P zeh [table.v,(.func (.func 107) #[] #[(.pointer (some a))])] (shInt .i64) (fun r h2=>
 (if (decide (r≥(0:Int)))=true then
 Q none (2:Int) r h2
 else
 LdW none (shInt .i64) h2 a fun x2=>
 CallT P znl [table.v] shSl (fun r1 h3=>
 (((LdIs h3 a [(.int .i64 x2)])∧True)∧NewW [r1.v,(.int .i64 x2)] (fun a1 h4=>
 Q (some a1) (0:Int) (0:Int) h4) h3)) h2)) h1))) h
def zvf (P:Program) (part:Int) (n:Int) (Q:(Int→(Hp→Prop))) (h:Hp):Prop:=
 (if (part==(2:Int))=true then
 CallT P zjc [(.int .i64 n),(.int .i64 (1:Int)),(.int .i64 (256:Int))] zag (fun r h1=>
 (if (!r)=true then
 Q (2:Int) h1
 else
 Q (0:Int) h1)) h
 else
 (if (part==(3:Int))=true then
 CallT P zjc [(.int .i64 n),(.int .i64 (1:Int)),(.int .i64 (64:Int))] zag (fun r h1=>
 (if (!r)=true then
 Q (2:Int) h1
 else
 Q (0:Int) h1)) h
 else
 (if (part==(4:Int))=true then
 CallT P zjc [(.int .i64 n),(.int .i64 (0:Int)),(.int .i64 (8:Int))] zag (fun r h1=>
 (if (!r)=true then
 Q (2:Int) h1
 else
 Q (0:Int) h1)) h
 else
 (if (part==(5:Int))=true then
 CallT P zjc [(.int .i64 n),(.int .i64 (0:Int)),(.int .i64 (4096:Int))] zag (fun r h1=>
 (if (!r)=true then
 Q (2:Int) h1
 else
 Q (0:Int) h1)) h
 else
 Q (0:Int) h))))
def zvg (P:Program) (n:Int) (from_:Int) (to:Int) (Q:(Bool→(Hp→Prop))) (h:Hp):Prop:=
 LetW ((decide (n≥from_))&&(decide (n≤to))) fun y=>
 Q y h
def zhi1 (P:Program) (l:Sl) (locks:Int) (Q:(Int→(Int→(Hp→Prop)))) (h:Hp):Prop:=
 LetW ((decide (locks<(0:Int))) || (decide (locks>(8:Int)))) fun y=>
 (if y=true then
 Q (1:Int) (0:Int) h
 else
 (if (decide (((l.len:Nat):Int)>(256:Int)))=true then
 Q (3:Int) (256:Int) h
 else
 LoopW1 (α1:=Int) (fun again t22 h1=>
 (if (decide (t22<((l.len:Nat):Int)))=true then
 ((InB l.base l.len t22)∧LdW none sh_api_Ins h1 (sat l.base 5 t22) fun x=>
 CallT P zze [x.v,(.int .i64 ((l.len:Nat):Int)),(.int .i64 locks)] (shInt .i64) (fun r h2=>
 (if (r !=(0:Int))=true then
 Q r t22 h2
 else
 again (IntKind.wrap .i64 (t22+(1:Int))) h2)) h1)
 else
 Q (0:Int) (0:Int) h1)) (0:Int) h))
def zdv (P:Program) (s:Sl) (Q:(Sl→(Hp→Prop))) (h:Hp):Prop:=
 SemV none P (binS .eql 22 (.tmp 3) (.const (.slice none 0 0)) s.v (.slice none 0 0)) zag h fun x=>
 (if x=true then
 Q ⟨none,0,0⟩ h
 else
 NewW [] (fun a h1=>
 zaj 1 8 [(.int .u64 (0:Int))] ⟨(some a),0,0⟩ s (fun r h2=>
 Q r h2) h1) h)
def zka (P:Program) (a:S_machine_asked) (i:Int) (Q:(Int→(Hp→Prop))) (h:Hp):Prop:=
 LoopW2 (α1:=Int) (α2:=Int) (fun again n t12 h1=>
 (if (decide (t12<((a.c_Procs.len:Nat):Int)))=true then
 JoinW1 (α1:=Int) (fun k=>
 ((InB a.c_Procs.base a.c_Procs.len t12)∧LdW none sh_api_Proc h1 (sat a.c_Procs.base 2 t12) fun x=>
 (if (x.Part==i)=true then
 k (IntKind.wrap .i64 (n+(1:Int))) h1
 else
 k n h1)))
 (fun n1 h2=>
 again n1 (IntKind.wrap .i64 (t12+(1:Int))) h2)
 else
 Q n h1)) (0:Int) (0:Int) h
def zmd (P:Program) (a:S_machine_asked) (p:Int) (i:Int) (Q:(Bool→(Hp→Prop))) (h:Hp):Prop:=
 LetW ((decide (p≥(0:Int)))&&(decide (p<((a.c_Procs.len:Nat):Int)))) fun y=>
 ((y=true→(InB a.c_Procs.base a.c_Procs.len p))∧LdW (some y) (shInt .i64) h (Addr.add (sat a.c_Procs.base 2 p) 0) fun x=>
 LetW (y&&(x==i)) fun y1=>
 Q y1 h)
def zqz (P:Program) (n:Int) (Q:(Bool→(Hp→Prop))) (h:Hp):Prop:=
 LetW ((decide (n≥(0:Int)))&&(decide (n≤(65535:Int)))) fun y=>
 Q y h
def zgu (P:Program) (s:Sl) (f:FnV) (Q:(Bool→(Hp→Prop))) (h:Hp):Prop:=
 CallT P zeh [s.v,(.func (.func f.g) f.first f.captured)] (shInt .i64) (fun r h1=>
 Q (decide (r≥(0:Int))) h1) h
def zhl (P:Program) (p:Int) (a1:Addr) (a2:Addr) (Q:(Bool→(Hp→Prop))) (h:Hp):Prop:=
 LdW (some (p !=(-1:Int))) sh_machine_asked h a1 fun x=>
 LdW (some (p !=(-1:Int))) (shInt .i64) h a2 fun x1=>
 EffC (some (p !=(-1:Int))) (CallT P zep [x.v,(.int .i64 p),(.int .i64 x1)] zag) (fun r h1=>
 LdW (some ((p !=(-1:Int))&&(!(!r)))) shSl h1 (Addr.add (Addr.add a1 7) 2) fun x2=>
 ((((p !=(-1:Int))&&(!(!r)))=true→(InB x2.base x2.len p))∧LdW (some ((p !=(-1:Int))&&(!(!r)))) (shInt .i64) h1 (Addr.add (sat x2.base 15 p) 0) fun x3=>
 EffC (some ((p !=(-1:Int))&&(!(!r)))) (CallT P zlt [(.int .i64 x3)] zag) (fun r1 h2=>
 LetW ((!r) || (!r1)) fun y=>
 LetW ((p !=(-1:Int))&&y) fun y1=>
 Q y1 h2) h1)) h
def zra (P:Program) (state:Int) (Q:(Bool→(Hp→Prop))) (h:Hp):Prop:=
 LetW ((state !=(5:Int))&&(state !=(6:Int))) fun y=>
 Q y h
def zld (P:Program) (t:Option Addr) (i:Int) (j:Int) (Q:(Bool→(Hp→Prop))) (h:Hp):Prop:=
 CallT P zox [(.pointer t),(.int .i64 i)] zag (fun r h1=>
 EffC (some r) (CallT P zox [(.pointer t),(.int .i64 j)] zag) (fun r1 h2=>
 LetW (r&&r1) fun y=>
 NilW (some y) t fun p=>
 LdW (some y) shSl h2 (Addr.add p 0) fun x=>
 ((y=true→(InB x.base x.len i))∧LdW (some y) (shInt .u64) h2 (sat x.base 1 i) fun x1=>
 NilW (some y) t fun p1=>
 LdW (some y) shSl h2 (Addr.add p1 0) fun x2=>
 ((y=true→(InB x2.base x2.len j))∧LdW (some y) (shInt .u64) h2 (sat x2.base 1 j) fun x3=>
 EffC (some y) (CallT P zew1 [(.int .u64 x1),(.int .u64 x3)] zag) (fun r2 h3=>
 LetW (y&&r2) fun y1=>
 Q y1 h3) h2))) h1) h
def zme (P:Program) (a:S_machine_asked) (p:Int) (Q:(Int→(Hp→Prop))) (h:Hp):Prop:=
 CallT P zga [a.v,(.int .i64 p)] sh_api_Ins (fun r h1=>
 Q r.Op h1) h
def zle (P:Program) (a:S_machine_asked) (p:Int) (Q:(S_api_Ins→(Hp→Prop))) (h:Hp):Prop:=
 ((InB a.c_Procs.base a.c_Procs.len p)∧LdW none shSl h (Addr.add (sat a.c_Procs.base 2 p) 1) fun x=>
 ((InB a.s_Procs.base a.s_Procs.len p)∧LdW none (shInt .i64) h (Addr.add (sat a.s_Procs.base 15 p) 1) fun x1=>
 LetW ((decide (x1<(0:Int))) || (decide (x1≥((x.len:Nat):Int)))) fun y=>
 (if y=true then
 Q ⟨(-1:Int),(0:Int),(0:Int),(0:Int),(0:Int)⟩ h
 else
 ((InB x.base x.len x1)∧LdW none sh_api_Ins h (sat x.base 5 x1) fun x2=>
 Q x2 h))))
def ziu (P:Program) (a:S_machine_asked) (w:S_api_Waiter) (r:Int) (Q:(Bool→(Hp→Prop))) (h:Hp):Prop:=
 ((InB a.s_Procs.base a.s_Procs.len w.Proc)∧LdW none sh_api_Process h (sat a.s_Procs.base 15 w.Proc) fun x=>
 CallT P zga [a.v,(.int .i64 w.Proc)] sh_api_Ins (fun r1 h1=>
 ((True∧(True∧((LdIs h1 (sat a.s_Procs.base 15 w.Proc) [(.int .i64 x.State),(.int .i64 x.PC),(.int .i64 x.Regs_0),(.int .i64 x.Regs_1),(.int .i64 x.Regs_2),(.int .i64 x.Regs_3),(.int .i64 x.Regs_4),(.int .i64 x.Regs_5),(.int .i64 x.Regs_6),(.int .i64 x.Regs_7),(.int .i64 x.Cursor),(.int .i64 x.Timer),(.bool x.Fired),(.int .i64 x.Wake),x.Lanes.v])∧True)))∧LetW ((x.State==(2:Int))&&(r1.Op==(24:Int))) fun y=>
 ((y=true→((0:Int)≤r1.B∧r1.B<(8:Int)))∧∃x1:Int,((y=true→(List.get?Internal (α:=Value) [(.int .i64 x.State),(.int .i64 x.PC),(.int .i64 x.Regs_0),(.int .i64 x.Regs_1),(.int .i64 x.Regs_2),(.int .i64 x.Regs_3),(.int .i64 x.Regs_4),(.int .i64 x.Regs_5),(.int .i64 x.Regs_6),(.int .i64 x.Regs_7),(.int .i64 x.Cursor),(.int .i64 x.Timer),(.bool x.Fired),(.int .i64 x.Wake),x.Lanes.v] (2+((Int.toNat r1.B)*1)))=(some (.int .i64 x1)))∧LetW (y&&(x1==r)) fun y1=>
 ((y1=true→((0:Int)≤r1.C∧r1.C<(8:Int)))∧∃x2:Int,((y1=true→(List.get?Internal (α:=Value) [(.int .i64 x.State),(.int .i64 x.PC),(.int .i64 x.Regs_0),(.int .i64 x.Regs_1),(.int .i64 x.Regs_2),(.int .i64 x.Regs_3),(.int .i64 x.Regs_4),(.int .i64 x.Regs_5),(.int .i64 x.Regs_6),(.int .i64 x.Regs_7),(.int .i64 x.Cursor),(.int .i64 x.Timer),(.bool x.Fired),(.int .i64 x.Wake),x.Lanes.v] (2+((Int.toNat r1.C)*1)))=(some (.int .i64 x2)))∧LetW (y1&&(x2==w.Value_)) fun y2=>
 Q y2 h1)))))) h)
def zpq (P:Program) (l:Sl) (Q:(Int→(Int→(Hp→Prop)))) (h:Hp):Prop:=
 (if (((l.len:Nat):Int)==(0:Int))=true then
 Q (1:Int) (0:Int) h
 else
 (if (decide (((l.len:Nat):Int)>(8:Int)))=true then
 Q (3:Int) (8:Int) h
 else
 LoopW1 (α1:=Int) (fun again i h1=>
 (if (decide (i<((l.len:Nat):Int)))=true then
 ((InB l.base l.len i)∧LdW none (shInt .u64) h1 (sat l.base 1 i) fun x=>
 ((InB l.base l.len (IntKind.wrap .i64 (i-(1:Int))))∧LdW none (shInt .u64) h1 (sat l.base 1 (IntKind.wrap .i64 (i-(1:Int)))) fun x1=>
 (if (x==x1)=true then
 Q (8:Int) i h1
 else
 ((InB l.base l.len i)∧LdW none (shInt .u64) h1 (sat l.base 1 i) fun x2=>
 ((InB l.base l.len (IntKind.wrap .i64 (i-(1:Int))))∧LdW none (shInt .u64) h1 (sat l.base 1 (IntKind.wrap .i64 (i-(1:Int)))) fun x3=>
 (if (decide (x2<x3))=true then
 Q (7:Int) i h1
 else
 again (IntKind.wrap .i64 (i+(1:Int))) h1))))))
 else
 Q (0:Int) (0:Int) h1)) (1:Int) h))
def zgk (P:Program) (l:Sl) (parts:Int) (Q:(Int→(Hp→Prop))) (h:Hp):Prop:=
 (if (((l.len:Nat):Int)==(0:Int))=true then
 Q (1:Int) h
 else
 (if (decide (((l.len:Nat):Int)>(64:Int)))=true then
 Q (3:Int) h
 else
 LoopW1 (α1:=Int) (fun again i h1=>
 (if (decide (i<((l.len:Nat):Int)))=true then
 ((InB l.base l.len i)∧LdW none (shInt .i64) h1 (sat l.base 1 i) fun x=>
 CallT P zbt [(.int .i64 x),(.int .i64 (0:Int)),(.int .i64 (IntKind.wrap .i64 (parts-(1:Int))))] zag (fun r h2=>
 (if (!r)=true then
 Q (2:Int) h2
 else
 again (IntKind.wrap .i64 (i+(1:Int))) h2)) h1)
 else
 Q (0:Int) h1)) (0:Int) h))
def zgl (P:Program) (n:Int) (least:Int) (most:Int) (Q:(Bool→(Hp→Prop))) (h:Hp):Prop:=
 LetW ((decide (n≥least))&&(decide (n≤most))) fun y=>
 Q y h
def zkb (P:Program) (l:Sl) (locks:Int) (Q:(Int→(Int→(Hp→Prop)))) (h:Hp):Prop:=
 LetW ((decide (locks<(0:Int))) || (decide (locks>(8:Int)))) fun y=>
 (if y=true then
 Q (1:Int) (0:Int) h
 else
 (if (decide (((l.len:Nat):Int)>(256:Int)))=true then
 Q (3:Int) (256:Int) h
 else
 LoopW1 (α1:=Int) (fun again i h1=>
 (if (decide (i<((l.len:Nat):Int)))=true then
 ((InB l.base l.len i)∧LdW none sh_api_Ins h1 (sat l.base 5 i) fun x=>
 CallT P zhc [x.v,(.int .i64 ((l.len:Nat):Int)),(.int .i64 locks)] (shInt .i64) (fun r h2=>
 (if (r !=(0:Int))=true then
 Q r i h2
 else
 again (IntKind.wrap .i64 (i+(1:Int))) h2)) h1)
 else
 Q (0:Int) (0:Int) h1)) (0:Int) h))
def zgm (P:Program) (n:Int) (low:Int) (high:Int) (Q:(Bool→(Hp→Prop))) (h:Hp):Prop:=
 LetW ((decide (n≥low))&&(decide (n≤high))) fun y=>
 Q y h
def zec (P:Program) (m:Option Addr) (i:Int) (Q:(Sl→(Hp→Prop))) (h:Hp):Prop:=
 NewW [] (fun a h1=>
 LoopW2 (α1:=Sl) (α2:=Int) (fun again l p h2=>
 NilW none m fun p1=>
 LdW none shSl h2 (Addr.add (Addr.add p1 0) 6) fun x=>
 (if (decide (p<((x.len:Nat):Int)))=true then
 JoinW1 (α1:=Sl) (fun k=>
 NilW none m fun p2=>
 LdW none shSl h2 (Addr.add (Addr.add p2 0) 6) fun x1=>
 ((InB x1.base x1.len p)∧LdW none (shInt .i64) h2 (Addr.add (sat x1.base 2 p) 0) fun x2=>
 (if (x2==i)=true then
 NewW [(.int .i64 p)] (fun a1 h3=>
 zaj 1 8 [(.int .i64 (0:Int))] ⟨l.base,l.len,l.cap⟩ ⟨(some a1),1,1⟩ (fun r h4=>
 k r h4) h3) h2
 else
 k ⟨l.base,l.len,l.cap⟩ h2)))
 (fun l1 h3=>
 again l1 (IntKind.wrap .i64 (p+(1:Int))) h3)
 else
 Q ⟨l.base,l.len,l.cap⟩ h2)) ⟨(some a),0,0⟩ (0:Int) h1) h
def zfk (P:Program) (n:Int) (Q:(Bool→(Hp→Prop))) (h:Hp):Prop:=
 LetW ((decide (n≥(0:Int)))&&(decide (n≤(65535:Int)))) fun y=>
 Q y h
def zcq (P:Program) (m:Option Addr) (p:Int) (i:Int) (Q:(Bool→(Hp→Prop))) (h:Hp):Prop:=
 NilW (some (decide (p≥(0:Int)))) m fun p1=>
 LdW (some (decide (p≥(0:Int)))) shSl h (Addr.add (Addr.add p1 0) 6) fun x=>
 LetW ((decide (p≥(0:Int)))&&(decide (p<((x.len:Nat):Int)))) fun y=>
 NilW (some y) m fun p2=>
 LdW (some y) shSl h (Addr.add (Addr.add p2 0) 6) fun x1=>
 ((y=true→(InB x1.base x1.len p))∧LdW (some y) (shInt .i64) h (Addr.add (sat x1.base 2 p) 0) fun x2=>
 LetW (y&&(x2==i)) fun y1=>
 EffC (some y1) (CallT P zfv [(.pointer m),(.int .i64 p)] zag) (fun r h1=>
 LetW (y1&&r) fun y2=>
 Q y2 h1) h)
def zcd (P:Program) (m:Option Addr) (i:Int) (j:Int) (Q:(Bool→(Hp→Prop))) (h:Hp):Prop:=
 NilW none m fun p=>
 LdW none shSl h (Addr.add (Addr.add p 0) 0) fun x=>
 ((InB x.base x.len i)∧LdW none (shInt .u64) h (sat x.base 1 i) fun x1=>
 NilW none m fun p1=>
 LdW none shSl h (Addr.add (Addr.add p1 0) 0) fun x2=>
 ((InB x2.base x2.len j)∧LdW none (shInt .u64) h (sat x2.base 1 j) fun x3=>
 CallT P znm [(.int .u64 x1),(.int .u64 x3)] zag (fun r h1=>
 Q r h1) h))
def zlf (P:Program) (c:S_firebreakref13_Core) (code:Sl) (Q:(S_api_Ins→(Bool→(Hp→Prop)))) (h:Hp):Prop:=
 LetW ((decide (c.PC<(0:Int))) || (decide (c.PC≥((code.len:Nat):Int)))) fun y=>
 (if y=true then
 Q ⟨(0:Int),(0:Int),(0:Int),(0:Int),(0:Int)⟩ false h
 else
 ((InB code.base code.len c.PC)∧LdW none sh_api_Ins h (sat code.base 5 c.PC) fun x=>
 CallT P zhc [x.v,(.int .i64 ((code.len:Nat):Int)),(.int .i64 (8:Int))] (shInt .i64) (fun r h1=>
 ((True∧True)∧Q x (r==(0:Int)) h1)) h))
def zgv (P:Program) (m:Option Addr) (p:Int) (Q:(S_firebreakref13_Core→(Hp→Prop))) (h:Hp):Prop:=
 NilW none m fun p1=>
 LdW none shSl h (Addr.add (Addr.add p1 7) 2) fun x=>
 ((InB x.base x.len p)∧LdW none sh_api_Process h (sat x.base 15 p) fun x1=>
 Q ⟨x1.PC,x1.Regs_0,x1.Regs_1,x1.Regs_2,x1.Regs_3,x1.Regs_4,x1.Regs_5,x1.Regs_6,x1.Regs_7⟩ h)
def zlg (P:Program) (r:Option Addr) (many:Int) (Q:(Int→(Hp→Prop))) (h:Hp):Prop:=
 CallT P zbm [(.pointer r),(.int .i64 many)] (shInt .i64) (fun r1 h1=>
 Q r1 h1) h
def zvh (P:Program) (b:Sl) (Q:(S_api_Config→(Int→(Int→(Hp→Prop))))) (h:Hp):Prop:=
 NewW [(.slice none 0 0),(.slice none 0 0),(.int .i64 (0:Int)),(.int .i64 (0:Int)),(.int .i64 (0:Int)),(.int .i64 (0:Int)),(.slice none 0 0)] (fun a h1=>
 NewW [b.v,(.int .i64 (0:Int)),(.int .i64 (0:Int)),(.int .i64 (0:Int))] (fun a1 h2=>
 JoinW1 (α1:=S_api_Config) (fun k=>
 (if (decide (((b.len:Nat):Int)>(1048576:Int)))=true then
 Call0 P zby [(.pointer (some a1)),(.int .i64 (22:Int)),(.int .i64 (1048576:Int))] (fun h3=>
 k ⟨⟨none,0,0⟩,⟨none,0,0⟩,(0:Int),(0:Int),(0:Int),(0:Int),⟨none,0,0⟩⟩ h3) h2
 else
 Call0 P zjn [(.pointer (some a1))] (fun h3=>
 CallT P zbf [(.pointer (some a1))] zag (fun r h4=>
 (if r=true then
 k ⟨⟨none,0,0⟩,⟨none,0,0⟩,(0:Int),(0:Int),(0:Int),(0:Int),⟨none,0,0⟩⟩ h4
 else
 Call0 P zjo [(.pointer (some a1)),(.pointer (some a))] (fun h5=>
 CallT P zbf [(.pointer (some a1))] zag (fun r1 h6=>
 (if r1=true then
 k ⟨⟨none,0,0⟩,⟨none,0,0⟩,(0:Int),(0:Int),(0:Int),(0:Int),⟨none,0,0⟩⟩ h6
 else
 Call0 P zla [(.pointer (some a1)),(.pointer (some a))] (fun h7=>
 CallT P zbf [(.pointer (some a1))] zag (fun r2 h8=>
 (if r2=true then
 k ⟨⟨none,0,0⟩,⟨none,0,0⟩,(0:Int),(0:Int),(0:Int),(0:Int),⟨none,0,0⟩⟩ h8
 else
 CallT P zcs [(.pointer (some a1)),(.int .i64 (2:Int)),(.int .i64 (2:Int))] (shInt .i64) (fun r3 h9=>
 StW h9 (Addr.add a 2) [(.int .i64 r3)] (fun h10=>
 CallT P zcs [(.pointer (some a1)),(.int .i64 (3:Int)),(.int .i64 (1:Int))] (shInt .i64) (fun r4 h11=>
 StW h11 (Addr.add a 3) [(.int .i64 r4)] (fun h12=>
 CallT P zcs [(.pointer (some a1)),(.int .i64 (4:Int)),(.int .i64 (1:Int))] (shInt .i64) (fun r5 h13=>
 StW h13 (Addr.add a 4) [(.int .i64 r5)] (fun h14=>
 CallT P zcs [(.pointer (some a1)),(.int .i64 (5:Int)),(.int .i64 (2:Int))] (shInt .i64) (fun r6 h15=>
 StW h15 (Addr.add a 5) [(.int .i64 r6)] (fun h16=>
 CallT P zer [(.pointer (some a1)),(.int .i64 (32:Int))] (shInt .i64) (fun r7 h17=>
 LoopW1 (α1:=Int) (fun again n h18=>
 EffC (some (decide (n>(0:Int)))) (CallT P zbf [(.pointer (some a1))] zag) (fun r8 h19=>
 LetW ((decide (n>(0:Int)))&&(!r8)) fun y=>
 (if y=true then
 Call0 P zlv [(.pointer (some a1)),(.pointer (some a))] (fun h20=>
 again (IntKind.wrap .i64 (n-(1:Int))) h20) h19
 else
 NilW none (some a1) fun p=>
 LdW none (shInt .i64) h19 (Addr.add p 1) fun x=>
 (if (decide (x<((b.len:Nat):Int)))=true then
 NilW none (some a1) fun p1=>
 LdW none (shInt .i64) h19 (Addr.add p1 1) fun x1=>
 Call0 P zby [(.pointer (some a1)),(.int .i64 (6:Int)),(.int .i64 x1)] (fun h20=>
 k ⟨⟨none,0,0⟩,⟨none,0,0⟩,(0:Int),(0:Int),(0:Int),(0:Int),⟨none,0,0⟩⟩ h20) h19
 else
 k ⟨⟨none,0,0⟩,⟨none,0,0⟩,(0:Int),(0:Int),(0:Int),(0:Int),⟨none,0,0⟩⟩ h19))) h18) r7 h17) h16)) h14)) h12)) h10)) h8)) h7) h6)) h5) h4)) h3) h2))
 (fun t2 h3=>
 CallT P zbf [(.pointer (some a1))] zag (fun r h4=>
 (if r=true then
 NilW none (some a1) fun p=>
 LdW none (shInt .i64) h4 (Addr.add p 2) fun x=>
 NilW none (some a1) fun p1=>
 LdW none (shInt .i64) h4 (Addr.add p1 3) fun x1=>
 (((LdIs h4 (Addr.add p 2) [(.int .i64 x)])∧((LdIs h4 (Addr.add p1 3) [(.int .i64 x1)])∧True))∧Q ⟨⟨none,0,0⟩,⟨none,0,0⟩,(0:Int),(0:Int),(0:Int),(0:Int),⟨none,0,0⟩⟩ x x1 h4)
 else
 LdW none sh_api_Config h4 a fun x=>
 Q x (0:Int) (0:Int) h4)) h3)) h1) h
def zmf (P:Program) (r:Option Addr) (bytes:Int) (most:Int) (Q:(Int→(Hp→Prop))) (h:Hp):Prop:=
 NilW none r fun p=>
 LdW none (shInt .i64) h (Addr.add p 1) fun x=>
 CallT P zas [(.pointer r),(.int .i64 bytes)] (shInt .i64) (fun r1 h1=>
 (if (decide (r1>most))=true then
 Call0 P zbg [(.pointer r),(.int .i64 (3:Int)),(.int .i64 x)] (fun h2=>
 NilW none r fun p1=>
 LdW none (shInt .i64) h2 (Addr.add p1 2) fun x1=>
 (if (x1 !=(0:Int))=true then
 Q (0:Int) h2
 else
 Q r1 h2)) h1
 else
 NilW none r fun p1=>
 LdW none (shInt .i64) h1 (Addr.add p1 2) fun x1=>
 (if (x1 !=(0:Int))=true then
 Q (0:Int) h1
 else
 Q r1 h1))) h
def zmg (P:Program) (r:Option Addr) (Q:(S_api_Lane→(Hp→Prop))) (h:Hp):Prop:=
 NilW none r fun p=>
 NilW none r fun p1=>
 LdW none (shInt .i64) h (Addr.add (Addr.add p1 4) 3) fun x=>
 CallT P zdj [(.pointer (some (Addr.add p 0))),(.int .i64 (1:Int)),(.int .i64 x)] (shInt .i64) (fun r1 h1=>
 LoopW2 (α1:=Int) (α2:=S_api_Lane) (fun again t13 x1 h2=>
 (if (decide (t13<r1))=true then
 NilW none r fun p2=>
 CallT P zbm [(.pointer (some (Addr.add p2 0))),(.int .i64 (8:Int))] (shInt .i64) (fun r2 h3=>
 ((True∧True)∧NewW [(.int .i64 r2)] (fun a h4=>
 ((True∧True)∧zaj 1 8 [(.int .i64 (0:Int))] ⟨x1.Values.base,x1.Values.len,x1.Values.cap⟩ ⟨(some a),1,1⟩ (fun r3 h5=>
 again (IntKind.wrap .i64 (t13+(1:Int))) ⟨r3,x1.Waiters,x1.Taken,x1.Dropped⟩ h5) h4)) h3)) h2
 else
 NilW none r fun p2=>
 NilW none r fun p3=>
 LdW none shSl h2 (Addr.add (Addr.add p3 4) 6) fun x2=>
 CallT P zdj [(.pointer (some (Addr.add p2 0))),(.int .i64 (1:Int)),(.int .i64 ((x2.len:Nat):Int))] (shInt .i64) (fun r2 h3=>
 LoopW2 (α1:=Int) (α2:=S_api_Lane) (fun again1 t35 x3 h4=>
 (if (decide (t35<r2))=true then
 NilW none r fun p4=>
 NilW none r fun p5=>
 CallT P zas [(.pointer (some (Addr.add p4 0))),(.int .i64 (1:Int))] (shInt .i64) (fun r3 h5=>
 ((True∧True)∧CallT P zbm [(.pointer (some (Addr.add p5 0))),(.int .i64 (8:Int))] (shInt .i64) (fun r4 h6=>
 ((True∧True)∧NewW [(.int .i64 r3),(.int .i64 r4)] (fun a h7=>
 ((True∧True)∧zaj 2 16 [(.int .i64 (0:Int)),(.int .i64 (0:Int))] ⟨x3.Waiters.base,x3.Waiters.len,x3.Waiters.cap⟩ ⟨(some a),1,1⟩ (fun r5 h8=>
 again1 (IntKind.wrap .i64 (t35+(1:Int))) ⟨x3.Values,r5,x3.Taken,x3.Dropped⟩ h8) h7)) h6)) h5)) h4
 else
 NilW none r fun p4=>
 NilW none r fun p5=>
 CallT P zas [(.pointer (some (Addr.add p4 0))),(.int .i64 (2:Int))] (shInt .i64) (fun r3 h5=>
 CallT P zas [(.pointer (some (Addr.add p5 0))),(.int .i64 (2:Int))] (shInt .i64) (fun r4 h6=>
 Q ⟨x3.Values,x3.Waiters,r3,r4⟩ h6) h5) h4)) (0:Int) x1 h3) h2)) (0:Int) ⟨⟨none,0,0⟩,⟨none,0,0⟩,(0:Int),(0:Int)⟩ h1) h
def zdf (P:Program) (r:Option Addr) (Q:(S_api_Config→(Hp→Prop))) (h:Hp):Prop:=
 Call0 P zck [(.pointer r),(.string ⟨#[70,66,67,70,1]⟩)] (fun h1=>
 CallT P zar [(.pointer r),(.int .i64 (1:Int)),(.int .i64 (1:Int)),(.int .i64 (8:Int)),(.int .i64 (1:Int)),(.int .i64 (3:Int))] (shInt .i64) (fun r1 h2=>
 LoopW2 (α1:=Int) (α2:=S_api_Config) (fun again i c h3=>
 NilW (some (decide (i<r1))) r fun p=>
 LdW (some (decide (i<r1))) (shInt .i64) h3 (Addr.add p 2) fun x=>
 LetW ((decide (i<r1))&&(x==(0:Int))) fun y=>
 (if y=true then
 NilW none r fun p1=>
 LdW none (shInt .i64) h3 (Addr.add p1 1) fun x1=>
 CallT P zae [(.pointer r),(.int .i64 (8:Int))] (shInt .u64) (fun r2 h4=>
 JoinW0 (fun k=>
 NilW none r fun p2=>
 LdW none (shInt .i64) h4 (Addr.add p2 2) fun x2=>
 LetW ((x2==(0:Int))&&(decide (i>(0:Int)))) fun y1=>
 ((y1=true→(InB c.Labels.base c.Labels.len (IntKind.wrap .i64 (i-(1:Int)))))∧LdW (some y1) (shInt .u64) h4 (sat c.Labels.base 1 (IntKind.wrap .i64 (i-(1:Int)))) fun x3=>
 LetW (y1&&(r2==x3)) fun y2=>
 (if y2=true then
 Call0 P zak [(.pointer r),(.int .i64 (8:Int)),(.int .i64 x1)] (fun h5=>
 k h5) h4
 else
 k h4)))
 (fun h5=>
 JoinW0 (fun k=>
 NilW none r fun p2=>
 LdW none (shInt .i64) h5 (Addr.add p2 2) fun x2=>
 LetW ((x2==(0:Int))&&(decide (i>(0:Int)))) fun y1=>
 ((y1=true→(InB c.Labels.base c.Labels.len (IntKind.wrap .i64 (i-(1:Int)))))∧LdW (some y1) (shInt .u64) h5 (sat c.Labels.base 1 (IntKind.wrap .i64 (i-(1:Int)))) fun x3=>
 LetW (y1&&(decide (r2<x3))) fun y2=>
 (if y2=true then
 Call0 P zak [(.pointer r),(.int .i64 (7:Int)),(.int .i64 x1)] (fun h6=>
 k h6) h5
 else
 k h5)))
 (fun h6=>
 NewW [(.int .u64 r2)] (fun a h7=>
 zaj 1 8 [(.int .u64 (0:Int))] ⟨c.Labels.base,c.Labels.len,c.Labels.cap⟩ ⟨(some a),1,1⟩ (fun r3 h8=>
 again (IntKind.wrap .i64 (i+(1:Int))) ⟨r3,c.Table,c.Fuel,c.Lane,c.Locks,c.Log,c.Procs⟩ h8) h7) h6))) h3
 else
 CallT P zar [(.pointer r),(.int .i64 (1:Int)),(.int .i64 (1:Int)),(.int .i64 (64:Int)),(.int .i64 (1:Int)),(.int .i64 (3:Int))] (shInt .i64) (fun r2 h4=>
 LoopW2 (α1:=Int) (α2:=S_api_Config) (fun again1 i1 c1 h5=>
 NilW (some (decide (i1<r2))) r fun p1=>
 LdW (some (decide (i1<r2))) (shInt .i64) h5 (Addr.add p1 2) fun x1=>
 LetW ((decide (i1<r2))&&(x1==(0:Int))) fun y1=>
 (if y1=true then
 CallT P zar [(.pointer r),(.int .i64 (1:Int)),(.int .i64 (0:Int)),(.int .i64 (IntKind.wrap .i64 (r1-(1:Int)))),(.int .i64 (2:Int)),(.int .i64 (2:Int))] (shInt .i64) (fun r3 h6=>
 ((True∧True)∧NewW [(.int .i64 r3)] (fun a h7=>
 ((True∧True)∧zaj 1 8 [(.int .i64 (0:Int))] ⟨c1.Table.base,c1.Table.len,c1.Table.cap⟩ ⟨(some a),1,1⟩ (fun r4 h8=>
 again1 (IntKind.wrap .i64 (i1+(1:Int))) ⟨c1.Labels,r4,c1.Fuel,c1.Lane,c1.Locks,c1.Log,c1.Procs⟩ h8) h7)) h6)) h5
 else
 CallT P zar [(.pointer r),(.int .i64 (2:Int)),(.int .i64 (1:Int)),(.int .i64 (256:Int)),(.int .i64 (2:Int)),(.int .i64 (2:Int))] (shInt .i64) (fun r3 h6=>
 CallT P zar [(.pointer r),(.int .i64 (1:Int)),(.int .i64 (1:Int)),(.int .i64 (64:Int)),(.int .i64 (2:Int)),(.int .i64 (2:Int))] (shInt .i64) (fun r4 h7=>
 CallT P zar [(.pointer r),(.int .i64 (1:Int)),(.int .i64 (0:Int)),(.int .i64 (8:Int)),(.int .i64 (2:Int)),(.int .i64 (2:Int))] (shInt .i64) (fun r5 h8=>
 CallT P zar [(.pointer r),(.int .i64 (2:Int)),(.int .i64 (0:Int)),(.int .i64 (4096:Int)),(.int .i64 (2:Int)),(.int .i64 (2:Int))] (shInt .i64) (fun r6 h9=>
 CallT P zar [(.pointer r),(.int .i64 (1:Int)),(.int .i64 (1:Int)),(.int .i64 (32:Int)),(.int .i64 (1:Int)),(.int .i64 (3:Int))] (shInt .i64) (fun r7 h10=>
 LoopW2 (α1:=Int) (α2:=S_api_Config) (fun again2 i2 c2 h11=>
 NilW (some (decide (i2<r7))) r fun p2=>
 LdW (some (decide (i2<r7))) (shInt .i64) h11 (Addr.add p2 2) fun x2=>
 LetW ((decide (i2<r7))&&(x2==(0:Int))) fun y2=>
 (if y2=true then
 CallT P zar [(.pointer r),(.int .i64 (1:Int)),(.int .i64 (0:Int)),(.int .i64 (IntKind.wrap .i64 (r1-(1:Int)))),(.int .i64 (2:Int)),(.int .i64 (2:Int))] (shInt .i64) (fun r8 h12=>
 CallT P zar [(.pointer r),(.int .i64 (2:Int)),(.int .i64 (0:Int)),(.int .i64 (256:Int)),(.int .i64 (3:Int)),(.int .i64 (3:Int))] (shInt .i64) (fun r9 h13=>
 CallT P zia [(.pointer r),(.int .i64 r9),(.int .i64 c2.Locks)] shSl (fun r10 h14=>
 ((True∧True)∧NewW [(.int .i64 r8),r10.v] (fun a h15=>
 ((True∧True)∧zaj 2 32 [(.int .i64 (0:Int)),(.slice none 0 0)] ⟨c2.Procs.base,c2.Procs.len,c2.Procs.cap⟩ ⟨(some a),1,1⟩ (fun r11 h16=>
 again2 (IntKind.wrap .i64 (i2+(1:Int))) ⟨c2.Labels,c2.Table,c2.Fuel,c2.Lane,c2.Locks,c2.Log,r11⟩ h16) h15)) h14)) h13) h12) h11
 else
 Q c2 h11)) (0:Int) ⟨c1.Labels,c1.Table,r3,r4,r5,r6,c1.Procs⟩ h10) h9) h8) h7) h6) h5)) (0:Int) c h4) h3)) (0:Int) ⟨⟨none,0,0⟩,⟨none,0,0⟩,(0:Int),(0:Int),(0:Int),(0:Int),⟨none,0,0⟩⟩ h2) h1) h
def zek (P:Program) (s:Sl) (f:FnV) (Q:(Int→(Hp→Prop))) (h:Hp):Prop:=
 LoopW1 (α1:=Int) (fun again t8 h1=>
 (if (decide (t8<((s.len:Nat):Int)))=true then
 ((InB s.base s.len t8)∧LdW none (shInt .i64) h1 (sat s.base 1 t8) fun x=>
 CallV P tb (.func (.func f.g) f.first f.captured) [(.int .i64 x)] zag (fun r h2=>
 (if r=true then
 Q t8 h2
 else
 again (IntKind.wrap .i64 (t8+(1:Int))) h2)) h1)
 else
 Q (-1:Int) h1)) (0:Int) h
def zfa1 (P:Program) (p:Int) (a1:Addr) (Q:(Bool→(Hp→Prop))) (h:Hp):Prop:=
 LdW (some (!(decide (p<(0:Int))))) (shInt .i64) h a1 fun x=>
 LetW ((decide (p<(0:Int))) || (decide (p≥x))) fun y=>
 Q y h
def zhm (P:Program) (s:Sl) (Q:(Sl→(Hp→Prop))) (h:Hp):Prop:=
 SemV none P (binS .eql 23 (.tmp 3) (.const (.slice none 0 0)) s.v (.slice none 0 0)) zag h fun x=>
 (if x=true then
 Q ⟨none,0,0⟩ h
 else
 NewW [] (fun a h1=>
 zaj 1 8 [(.int .i64 (0:Int))] ⟨(some a),0,0⟩ s (fun r h2=>
 Q r h2) h1) h)
def zzh (P:Program) (x:S_api_Ins) (n:Int) (locks:Int) (Q:(Int→(Hp→Prop))) (h:Hp):Prop:=
 Call2 P zzf [x.v,(.int .i64 n),(.int .i64 locks)] (shInt .i64) (shInt .i64) (fun r r1 h1=>
 Q r h1) h
def zoy (P:Program) (t:Option Addr) (i:Int) (Q:(Bool→(Hp→Prop))) (h:Hp):Prop:=
 NilW (some (decide (i≥(0:Int)))) t fun p=>
 LdW (some (decide (i≥(0:Int)))) shSl h (Addr.add p 0) fun x=>
 LetW ((decide (i≥(0:Int)))&&(decide (i<((x.len:Nat):Int)))) fun y=>
 Q y h
def zvi (P:Program) (a:Int) (b:Int) (Q:(Bool→(Hp→Prop))) (h:Hp):Prop:=
 Q ((bitsI .andNot .u64 a b)==(0:Int)) h
def zhn (P:Program) (x:S_api_Ins) (n:Int) (locks:Int) (Q:(Int→(Hp→Prop))) (h:Hp):Prop:=
 Call2 P zee [x.v,(.int .i64 n),(.int .i64 locks)] (shInt .i64) (shInt .i64) (fun r r1 h1=>
 Q r h1) h
def zdg (P:Program) (m:Option Addr) (p:Int) (Q:(Bool→(Hp→Prop))) (h:Hp):Prop:=
 NilW none m fun p1=>
 LdW none shSl h (Addr.add (Addr.add p1 7) 2) fun x=>
 ((InB x.base x.len p)∧LdW none (shInt .i64) h (Addr.add (sat x.base 15 p) 0) fun x1=>
 Q (decide (x1<(5:Int))) h)
def zho (P:Program) (a:Int) (b:Int) (Q:(Bool→(Hp→Prop))) (h:Hp):Prop:=
 LoopW1 (α1:=Int) (fun again n h1=>
 (if (decide (n<(64:Int)))=true then
 CallT P zjp [(.int .u64 a),(.int .i64 n)] zag (fun r h2=>
 EffC (some r) (CallT P zjp [(.int .u64 b),(.int .i64 n)] zag) (fun r1 h3=>
 LetW (r&&(!r1)) fun y=>
 (if y=true then
 Q false h3
 else
 again (IntKind.wrap .i64 (n+(1:Int))) h3)) h2) h1
 else
 Q true h1)) (0:Int) h
def zmh (P:Program) (r:Option Addr) (e:Int) (place:Int) (Q:(Hp→Prop)) (h:Hp):Prop:=
 EffC (some (e !=(0:Int))) (CallT P zbf [(.pointer r)] zag) (fun r1 h1=>
 LetW ((e !=(0:Int))&&(!r1)) fun y=>
 (if y=true then
 NilW none r fun p=>
 StW h1 (Addr.add p 2) [(.int .i64 e)] (fun h2=>
 NilW none r fun p1=>
 StW h2 (Addr.add p1 3) [(.int .i64 place)] (fun h3=>
 Q h3))
 else
 Q h1)) h
def zkc (P:Program) (r:Option Addr) (Q:(Hp→Prop)) (h:Hp):Prop:=
 LoopW1 (α1:=Int) (fun again t3 h1=>
 (if (decide (t3<(5:Int)))=true then
 NewW [(.int .i64 (0:Int))] (fun a h2=>
 StW h2 a [(.int .i64 t3)] (fun h3=>
 CallT P zbd [(.pointer r),(.int .i64 (1:Int)),(.func (.func 128) #[] #[(.pointer (some a))])] (shInt .u64) (fun r1 h4=>
 again (IntKind.wrap .i64 (t3+(1:Int))) h4) h3)) h1
 else
 Q h1)) (0:Int) h
def zjd (P:Program) (r:Option Addr) (Q:(Bool→(Hp→Prop))) (h:Hp):Prop:=
 NilW none r fun p=>
 LdW none (shInt .i64) h (Addr.add p 2) fun x=>
 Q (x !=(0:Int)) h
def zkd (P:Program) (r:Option Addr) (c:Option Addr) (Q:(Hp→Prop)) (h:Hp):Prop:=
 NewW [(.pointer c)] (fun a h1=>
 CallT P zer [(.pointer r),(.int .i64 (8:Int))] (shInt .i64) (fun r1 h2=>
 LoopW1 (α1:=Int) (fun again n h3=>
 EffC (some (decide (n>(0:Int)))) (CallT P zbf [(.pointer r)] zag) (fun r2 h4=>
 LetW ((decide (n>(0:Int)))&&(!r2)) fun y=>
 (if y=true then
 CallT P zbd [(.pointer r),(.int .i64 (8:Int)),(.func (.func 129) #[] #[(.pointer (some a))])] (shInt .u64) (fun r3 h5=>
 LdW none shPtr h5 a fun x=>
 LdW none shPtr h5 a fun x1=>
 NilW none x1 fun p=>
 LdW none shSl h5 (Addr.add p 0) fun x2=>
 NewW [(.int .u64 r3)] (fun a1 h6=>
 (((LdIs h6 a [(.pointer x)])∧((LdIs h6 a [(.pointer x1)])∧((LdIs h6 (Addr.add p 0) [x2.v])∧True)))∧zaj 1 8 [(.int .u64 (0:Int))] x2 ⟨(some a1),1,1⟩ (fun r4 h7=>
 (((LdIs h7 a [(.pointer x)])∧True)∧NilW none x fun p1=>
 StW h7 (Addr.add p1 0) [r4.v] (fun h8=>
 again (IntKind.wrap .i64 (n-(1:Int))) h8))) h6)) h5) h4
 else
 Q h4)) h3) r1 h2) h1) h
def zlh (P:Program) (r:Option Addr) (c:Option Addr) (Q:(Hp→Prop)) (h:Hp):Prop:=
 CallT P zer [(.pointer r),(.int .i64 (64:Int))] (shInt .i64) (fun r1 h1=>
 LoopW1 (α1:=Int) (fun again n h2=>
 EffC (some (decide (n>(0:Int)))) (CallT P zbf [(.pointer r)] zag) (fun r2 h3=>
 LetW ((decide (n>(0:Int)))&&(!r2)) fun y=>
 (if y=true then
 NilW none c fun p=>
 LdW none shSl h3 (Addr.add p 1) fun x=>
 CallT P zgb [(.pointer r),(.pointer c)] (shInt .i64) (fun r3 h4=>
 (((LdIs h4 (Addr.add p 1) [x.v])∧True)∧NewW [(.int .i64 r3)] (fun a h5=>
 (((LdIs h5 (Addr.add p 1) [x.v])∧True)∧zaj 1 8 [(.int .i64 (0:Int))] x ⟨(some a),1,1⟩ (fun r4 h6=>
 NilW none c fun p1=>
 StW h6 (Addr.add p1 1) [r4.v] (fun h7=>
 again (IntKind.wrap .i64 (n-(1:Int))) h7)) h5)) h4)) h3
 else
 Q h3)) h2) r1 h1) h
def zke (P:Program) (r:Option Addr) (part:Int) (bytes:Int) (Q:(Int→(Hp→Prop))) (h:Hp):Prop:=
 NewW [(.int .i64 part)] (fun a h1=>
 CallT P zfi [(.pointer r),(.int .i64 bytes),(.func (.func 132) #[] #[(.pointer (some a))])] (shInt .i64) (fun r1 h2=>
 Q r1 h2) h1) h
def ziv (P:Program) (r:Option Addr) (most:Int) (Q:(Int→(Hp→Prop))) (h:Hp):Prop:=
 NewW [(.int .i64 most)] (fun a h1=>
 CallT P zfi [(.pointer r),(.int .i64 (1:Int)),(.func (.func 133) #[] #[(.pointer (some a))])] (shInt .i64) (fun r1 h2=>
 Q r1 h2) h1) h
def zmi (P:Program) (r:Option Addr) (c:Option Addr) (Q:(Hp→Prop)) (h:Hp):Prop:=
 CallT P zgb [(.pointer r),(.pointer c)] (shInt .i64) (fun r1 h1=>
 CallT P zfi [(.pointer r),(.int .i64 (2:Int)),(.func (.func 134) #[] #[])] (shInt .i64) (fun r2 h2=>
 LoopW2 (α1:=Int) (α2:=S_api_Proc) (fun again i p h3=>
 EffC (some (decide (i<r2))) (CallT P zbf [(.pointer r)] zag) (fun r3 h4=>
 LetW ((decide (i<r2))&&(!r3)) fun y=>
 (if y=true then
 NilW none c fun p1=>
 LdW none (shInt .i64) h4 (Addr.add p1 4) fun x=>
 CallT P ztz [(.pointer r),(.int .i64 r2),(.int .i64 x)] sh_api_Ins (fun r4 h5=>
 ((True∧True)∧NewW [(.int .i64 r4.Op),(.int .i64 r4.A),(.int .i64 r4.B),(.int .i64 r4.C),(.int .i64 r4.Imm)] (fun a h6=>
 ((True∧True)∧zaj 5 40 [(.int .i64 (0:Int)),(.int .i64 (0:Int)),(.int .i64 (0:Int)),(.int .i64 (0:Int)),(.int .i64 (0:Int))] ⟨p.Code.base,p.Code.len,p.Code.cap⟩ ⟨(some a),1,1⟩ (fun r5 h7=>
 again (IntKind.wrap .i64 (i+(1:Int))) ⟨p.Part,r5⟩ h7) h6)) h5)) h4
 else
 NilW none c fun p1=>
 LdW none shSl h4 (Addr.add p1 6) fun x=>
 NewW [(.int .i64 p.Part),p.Code.v] (fun a h5=>
 (((LdIs h5 (Addr.add p1 6) [x.v])∧True)∧zaj 2 32 [(.int .i64 (0:Int)),(.slice none 0 0)] x ⟨(some a),1,1⟩ (fun r4 h6=>
 NilW none c fun p2=>
 StW h6 (Addr.add p2 6) [r4.v] (fun h7=>
 Q h7)) h5)) h4)) h3) (0:Int) ⟨r1,⟨none,0,0⟩⟩ h2) h1) h
def zdw (P:Program) (r:Option Addr) (many:Int) (locks:Int) (Q:(Sl→(Hp→Prop))) (h:Hp):Prop:=
 NewW [] (fun a h1=>
 LoopW2 (α1:=Sl) (α2:=Int) (fun again l k h2=>
 NilW (some (decide (k<many))) r fun p=>
 LdW (some (decide (k<many))) (shInt .i64) h2 (Addr.add p 2) fun x=>
 LetW ((decide (k<many))&&(x==(0:Int))) fun y=>
 (if y=true then
 NilW none r fun p1=>
 LdW none shSl h2 (Addr.add p1 0) fun x1=>
 NilW none r fun p2=>
 LdW none (shInt .i64) h2 (Addr.add p2 1) fun x2=>
 (if (decide ((IntKind.wrap .i64 (((x1.len:Nat):Int)-x2))<(12:Int)))=true then
 NilW none r fun p3=>
 LdW none shSl h2 (Addr.add p3 0) fun x3=>
 Call0 P zak [(.pointer r),(.int .i64 (5:Int)),(.int .i64 ((x3.len:Nat):Int))] (fun h3=>
 Q ⟨l.base,l.len,l.cap⟩ h3) h2
 else
 NilW none r fun p3=>
 LdW none shSl h2 (Addr.add p3 0) fun x3=>
 NilW none r fun p4=>
 LdW none (shInt .i64) h2 (Addr.add p4 1) fun x4=>
 (((0:Int)≤x4∧x4≤((x3.len:Nat):Int))∧LetW (α:=Sl) ⟨(sbase x3.base 1 (Int.toNat x4) x3.cap),(x3.len-(Int.toNat x4)),(x3.cap-(Int.toNat x4))⟩ fun y1=>
 CallT P zpp [y1.v] sh_api_Ins (fun r1 h3=>
 Call2 P zee [r1.v,(.int .i64 many),(.int .i64 locks)] (shInt .i64) (shInt .i64) (fun r2 r3 h4=>
 (if (r2 !=(0:Int))=true then
 NilW none r fun p5=>
 LdW none (shInt .i64) h4 (Addr.add p5 1) fun x5=>
 Call0 P zak [(.pointer r),(.int .i64 r2),(.int .i64 (IntKind.wrap .i64 (x5+r3)))] (fun h5=>
 Q ⟨l.base,l.len,l.cap⟩ h5) h4
 else
 NewW [(.int .i64 r1.Op),(.int .i64 r1.A),(.int .i64 r1.B),(.int .i64 r1.C),(.int .i64 r1.Imm)] (fun a1 h5=>
 zaj 5 40 [(.int .i64 (0:Int)),(.int .i64 (0:Int)),(.int .i64 (0:Int)),(.int .i64 (0:Int)),(.int .i64 (0:Int))] ⟨l.base,l.len,l.cap⟩ ⟨(some a1),1,1⟩ (fun r4 h6=>
 NilW none r fun p5=>
 LdW none (shInt .i64) h6 (Addr.add p5 1) fun x5=>
 NilW none r fun p6=>
 StW h6 (Addr.add p6 1) [(.int .i64 (IntKind.wrap .i64 (x5+(12:Int))))] (fun h7=>
 again r4 (IntKind.wrap .i64 (k+(1:Int))) h7)) h5) h4)) h3) h2))
 else
 Q ⟨l.base,l.len,l.cap⟩ h2)) ⟨(some a),0,0⟩ (0:Int) h1) h
def zzi (P:Program) (x:S_api_Ins) (n:Int) (locks:Int) (Q:(Int→(Int→(Hp→Prop)))) (h:Hp):Prop:=
 LetW ((decide (x.Op<(0:Int))) || (decide (x.Op≥(34:Int)))) fun y=>
 (if y=true then
 Q (9:Int) (0:Int) h
 else
 Call4 P zpt [(.int .i64 x.Op)] zag zag zag zag (fun r r1 r2 r3 h1=>
 CallT P zlw [(.bool r),(.int .i64 x.A)] (shInt .i64) (fun r4 h2=>
 (if (r4 !=(0:Int))=true then
 Q r4 (1:Int) h2
 else
 CallT P zlw [(.bool r1),(.int .i64 x.B)] (shInt .i64) (fun r5 h3=>
 (if (r5 !=(0:Int))=true then
 Q r5 (2:Int) h3
 else
 CallT P zlw [(.bool r2),(.int .i64 x.C)] (shInt .i64) (fun r6 h4=>
 (if (r6 !=(0:Int))=true then
 Q r6 (3:Int) h4
 else
 CallT P zex1 [x.v,(.bool r3),(.int .i64 n),(.int .i64 locks)] (shInt .i64) (fun r7 h5=>
 Q r7 (4:Int) h5) h4)) h3)) h2)) h1) h)
def zhp (P:Program) (x:S_api_Ins) (n:Int) (locks:Int) (Q:(Int→(Int→(Hp→Prop)))) (h:Hp):Prop:=
 LetW ((decide (x.Op<(0:Int))) || (decide (x.Op≥(34:Int)))) fun y=>
 (if y=true then
 Q (9:Int) (0:Int) h
 else
 Call4 P zgd [(.int .i64 x.Op)] zag zag zag zag (fun r r1 r2 r3 h1=>
 CallT P zdb [(.int .i64 x.A),(.bool r)] (shInt .i64) (fun r4 h2=>
 (if (r4 !=(0:Int))=true then
 Q r4 (1:Int) h2
 else
 CallT P zdb [(.int .i64 x.B),(.bool r1)] (shInt .i64) (fun r5 h3=>
 (if (r5 !=(0:Int))=true then
 Q r5 (2:Int) h3
 else
 CallT P zdb [(.int .i64 x.C),(.bool r2)] (shInt .i64) (fun r6 h4=>
 (if (r6 !=(0:Int))=true then
 Q r6 (3:Int) h4
 else
 LetW ((!r3)&&(x.Imm !=(0:Int))) fun y1=>
 (if y1=true then
 Q (11:Int) (4:Int) h4
 else
 LetW ((x.Op==(22:Int)) || (x.Op==(23:Int))) fun y2=>
 LetW ((decide (x.Imm<(0:Int))) || (decide (x.Imm>n))) fun y3=>
 LetW (y2&&y3) fun y4=>
 (if y4=true then
 Q (12:Int) (4:Int) h4
 else
 LetW ((x.Op==(29:Int)) || (x.Op==(30:Int))) fun y5=>
 LetW ((decide (x.Imm<(0:Int))) || (decide (x.Imm≥locks))) fun y6=>
 LetW (y5&&y6) fun y7=>
 (if y7=true then
 Q (13:Int) (4:Int) h4
 else
 Q (0:Int) (0:Int) h4))))) h3)) h2)) h1) h)
def zkf (P:Program) (a:Int) (n:Int) (Q:(Bool→(Hp→Prop))) (h:Hp):Prop:=
 LetW ((decide (n≥(0:Int)))&&(decide (n≤(63:Int)))) fun y=>
 ((y=true→(0:Int)≤n)∧LetW (y&&((bitsI .and .u64 (shrI .u64 a n) (1:Int))==(1:Int))) fun y1=>
 Q y1 h)
def zkg (P:Program) (r:Option Addr) (many:Int) (wrong:FnV) (Q:(Int→(Hp→Prop))) (h:Hp):Prop:=
 CallT P zbf [(.pointer r)] zag (fun r1 h1=>
 (if r1=true then
 Q (0:Int) h1
 else
 NilW none r fun p=>
 LdW none shSl h1 (Addr.add p 0) fun x=>
 NilW none r fun p1=>
 LdW none (shInt .i64) h1 (Addr.add p1 1) fun x1=>
 (if (decide ((IntKind.wrap .i64 (((x.len:Nat):Int)-x1))<many))=true then
 NilW none r fun p2=>
 LdW none shSl h1 (Addr.add p2 0) fun x2=>
 Call0 P zby [(.pointer r),(.int .i64 (5:Int)),(.int .i64 ((x2.len:Nat):Int))] (fun h2=>
 Q (0:Int) h2) h1
 else
 NilW none r fun p2=>
 LdW none shSl h1 (Addr.add p2 0) fun x2=>
 NilW none r fun p3=>
 LdW none (shInt .i64) h1 (Addr.add p3 1) fun x3=>
 NilW none r fun p4=>
 LdW none (shInt .i64) h1 (Addr.add p4 1) fun x4=>
 (((0:Int)≤x3∧(x3≤(IntKind.wrap .i64 (x4+many))∧(IntKind.wrap .i64 (x4+many))≤((x2.cap:Nat):Int)))∧LetW (α:=Sl) ⟨(sbase x2.base 1 (Int.toNat x3) x2.cap),((Int.toNat (IntKind.wrap .i64 (x4+many)))-(Int.toNat x3)),(x2.cap-(Int.toNat x3))⟩ fun y=>
 LoopW2 (α1:=Int) (α2:=Int) (fun again n t47 h2=>
 (if (decide (t47<((y.len:Nat):Int)))=true then
 ((InB y.base y.len t47)∧LdW none (shInt .u8) h2 (sat y.base 1 t47) fun x5=>
 ((0:Int)≤(IntKind.wrap .i64 ((8:Int)*t47))∧again (bitsI .or .u64 n (shlI .u64 (IntKind.wrap .u64 x5) (IntKind.wrap .i64 ((8:Int)*t47)))) (IntKind.wrap .i64 (t47+(1:Int))) h2))
 else
 NilW none r fun p5=>
 LdW none (shInt .i64) h2 (Addr.add p5 1) fun x5=>
 CallV P tb (.func (.func wrong.g) wrong.first wrong.captured) [(.int .u64 n)] (shInt .i64) (fun r2 h3=>
 (((LdIs h3 (Addr.add p5 1) [(.int .i64 x5)])∧True)∧Call0 P zby [(.pointer r),(.int .i64 r2),(.int .i64 x5)] (fun h4=>
 NilW none r fun p6=>
 LdW none (shInt .i64) h4 (Addr.add p6 1) fun x6=>
 NilW none r fun p7=>
 StW h4 (Addr.add p7 1) [(.int .i64 (IntKind.wrap .i64 (x6+many)))] (fun h5=>
 Q n h5)) h3)) h2)) (0:Int) (0:Int) h1)))) h
def zhq (P:Program) (n:Int) (a1:Addr) (Q:(Int→(Hp→Prop))) (h:Hp):Prop:=
 LdW none (shInt .i64) h a1 fun x=>
 (((0:Int)≤x∧x<(5:Int))∧(if ((IntKind.wrap .u8 n) !=(((UInt8.toNat (List.getD [70,66,67,70,1] (Int.toNat x) 0)):Nat):Int))=true then
 Q (4:Int) h
 else
 Q (0:Int) h))
def zhr (P:Program) (a:Int) (a1:Addr) (Q:(Int→(Hp→Prop))) (h:Hp):Prop:=
 LdW none shPtr h a1 fun x=>
 NilW none x fun p=>
 LdW none shSl h (Addr.add p 0) fun x1=>
 LdW (some (decide ((IntKind.wrap .i64 (((x1.len:Nat):Int)-(1:Int)))≥(0:Int)))) shPtr h a1 fun x2=>
 NilW (some (decide ((IntKind.wrap .i64 (((x1.len:Nat):Int)-(1:Int)))≥(0:Int)))) x2 fun p1=>
 LdW (some (decide ((IntKind.wrap .i64 (((x1.len:Nat):Int)-(1:Int)))≥(0:Int)))) shSl h (Addr.add p1 0) fun x3=>
 (((decide ((IntKind.wrap .i64 (((x1.len:Nat):Int)-(1:Int)))≥(0:Int)))=true→(InB x3.base x3.len (IntKind.wrap .i64 (((x1.len:Nat):Int)-(1:Int)))))∧LdW (some (decide ((IntKind.wrap .i64 (((x1.len:Nat):Int)-(1:Int)))≥(0:Int)))) (shInt .u64) h (sat x3.base 1 (IntKind.wrap .i64 (((x1.len:Nat):Int)-(1:Int)))) fun x4=>
 LetW ((decide ((IntKind.wrap .i64 (((x1.len:Nat):Int)-(1:Int)))≥(0:Int)))&&(a==x4)) fun y=>
 (if y=true then
 Q (8:Int) h
 else
 LdW (some (decide ((IntKind.wrap .i64 (((x1.len:Nat):Int)-(1:Int)))≥(0:Int)))) shPtr h a1 fun x5=>
 NilW (some (decide ((IntKind.wrap .i64 (((x1.len:Nat):Int)-(1:Int)))≥(0:Int)))) x5 fun p2=>
 LdW (some (decide ((IntKind.wrap .i64 (((x1.len:Nat):Int)-(1:Int)))≥(0:Int)))) shSl h (Addr.add p2 0) fun x6=>
 (((decide ((IntKind.wrap .i64 (((x1.len:Nat):Int)-(1:Int)))≥(0:Int)))=true→(InB x6.base x6.len (IntKind.wrap .i64 (((x1.len:Nat):Int)-(1:Int)))))∧LdW (some (decide ((IntKind.wrap .i64 (((x1.len:Nat):Int)-(1:Int)))≥(0:Int)))) (shInt .u64) h (sat x6.base 1 (IntKind.wrap .i64 (((x1.len:Nat):Int)-(1:Int)))) fun x7=>
 LetW ((decide ((IntKind.wrap .i64 (((x1.len:Nat):Int)-(1:Int)))≥(0:Int)))&&(decide (a<x7))) fun y1=>
 (if y1=true then
 Q (7:Int) h
 else
 Q (0:Int) h))))
def zgn (P:Program) (r:Option Addr) (c:Option Addr) (Q:(Int→(Hp→Prop))) (h:Hp):Prop:=
 NewW [(.pointer c)] (fun a h1=>
 CallT P zfi [(.pointer r),(.int .i64 (1:Int)),(.func (.func 142) #[] #[(.pointer (some a))])] (shInt .i64) (fun r1 h2=>
 Q r1 h2) h1) h
def znr (P:Program) (r:Option Addr) (many:Int) (wrong:FnV) (Q:(Int→(Hp→Prop))) (h:Hp):Prop:=
 NewW [(.func (.func wrong.g) wrong.first wrong.captured)] (fun a h1=>
 CallT P zbd [(.pointer r),(.int .i64 many),(.func (.func 143) #[] #[(.pointer (some a))])] (shInt .u64) (fun r1 h2=>
 Q (IntKind.wrap .i64 r1) h2) h1) h
def znn (P:Program) (n:Int) (a1:Addr) (Q:(Int→(Hp→Prop))) (h:Hp):Prop:=
 LdW none (shInt .i64) h a1 fun x=>
 CallT P zuy [(.int .i64 x),(.int .i64 n)] (shInt .i64) (fun r h1=>
 Q r h1) h
def zmj (P:Program) (n:Int) (a1:Addr) (Q:(Int→(Hp→Prop))) (h:Hp):Prop:=
 LdW none (shInt .i64) h a1 fun x=>
 CallT P zux [(.int .i64 n),(.int .i64 x)] (shInt .i64) (fun r h1=>
 Q r h1) h
def zkh (P:Program) (n:Int) (Q:(Int→(Hp→Prop))) (h:Hp):Prop:=
 (if (decide (n>(256:Int)))=true then
 Q (3:Int) h
 else
 Q (0:Int) h)
def zns (P:Program) (r:Option Addr) (n:Int) (locks:Int) (Q:(S_api_Ins→(Hp→Prop))) (h:Hp):Prop:=
 CallT P zbf [(.pointer r)] zag (fun r1 h1=>
 (if r1=true then
 Q ⟨(0:Int),(0:Int),(0:Int),(0:Int),(0:Int)⟩ h1
 else
 NilW none r fun p=>
 LdW none (shInt .i64) h1 (Addr.add p 1) fun x=>
 NilW none r fun p1=>
 LdW none shSl h1 (Addr.add p1 0) fun x1=>
 (if (decide ((IntKind.wrap .i64 (((x1.len:Nat):Int)-x))<(12:Int)))=true then
 NilW none r fun p2=>
 LdW none shSl h1 (Addr.add p2 0) fun x2=>
 Call0 P zby [(.pointer r),(.int .i64 (5:Int)),(.int .i64 ((x2.len:Nat):Int))] (fun h2=>
 Q ⟨(0:Int),(0:Int),(0:Int),(0:Int),(0:Int)⟩ h2) h1
 else
 CallT P zbd [(.pointer r),(.int .i64 (1:Int)),(.func (.func 144) #[] #[])] (shInt .u64) (fun r2 h2=>
 CallT P zbd [(.pointer r),(.int .i64 (1:Int)),(.func (.func 144) #[] #[])] (shInt .u64) (fun r3 h3=>
 CallT P zbd [(.pointer r),(.int .i64 (1:Int)),(.func (.func 144) #[] #[])] (shInt .u64) (fun r4 h4=>
 CallT P zbd [(.pointer r),(.int .i64 (1:Int)),(.func (.func 144) #[] #[])] (shInt .u64) (fun r5 h5=>
 CallT P zbd [(.pointer r),(.int .i64 (8:Int)),(.func (.func 144) #[] #[])] (shInt .u64) (fun r6 h6=>
 CallT P zze [(.agg #[(.int .i64 (IntKind.wrap .i64 r2)),(.int .i64 (IntKind.wrap .i64 r3)),(.int .i64 (IntKind.wrap .i64 r4)),(.int .i64 (IntKind.wrap .i64 r5)),(.int .i64 (IntKind.wrap .i64 r6))]),(.int .i64 n),(.int .i64 locks)] (shInt .i64) (fun r7 h7=>
 (if (r7 !=(0:Int))=true then
 CallT P zey1 [(.agg #[(.int .i64 (IntKind.wrap .i64 r2)),(.int .i64 (IntKind.wrap .i64 r3)),(.int .i64 (IntKind.wrap .i64 r4)),(.int .i64 (IntKind.wrap .i64 r5)),(.int .i64 (IntKind.wrap .i64 r6))]),(.int .i64 r7)] (shInt .i64) (fun r8 h8=>
 Call0 P zby [(.pointer r),(.int .i64 r7),(.int .i64 (IntKind.wrap .i64 (x+r8)))] (fun h9=>
 Q ⟨(IntKind.wrap .i64 r2),(IntKind.wrap .i64 r3),(IntKind.wrap .i64 r4),(IntKind.wrap .i64 r5),(IntKind.wrap .i64 r6)⟩ h9) h8) h7
 else
 Q ⟨(IntKind.wrap .i64 r2),(IntKind.wrap .i64 r3),(IntKind.wrap .i64 r4),(IntKind.wrap .i64 r5),(IntKind.wrap .i64 r6)⟩ h7)) h6) h5) h4) h3) h2) h1))) h
def zki (P:Program) (b:Sl) (Q:(S_api_Ins→(Hp→Prop))) (h:Hp):Prop:=
 LoopW2 (α1:=Int) (α2:=Int) (fun again n i h1=>
 (if (decide (i<(8:Int)))=true then
 ((InB b.base b.len (IntKind.wrap .i64 ((4:Int)+i)))∧LdW none (shInt .u8) h1 (sat b.base 1 (IntKind.wrap .i64 ((4:Int)+i))) fun x=>
 ((0:Int)≤(IntKind.wrap .i64 ((8:Int)*i))∧again (bitsI .or .u64 n (shlI .u64 (IntKind.wrap .u64 x) (IntKind.wrap .i64 ((8:Int)*i)))) (IntKind.wrap .i64 (i+(1:Int))) h1))
 else
 ((InB b.base b.len (0:Int))∧LdW none (shInt .u8) h1 (sat b.base 1 (0:Int)) fun x=>
 ((InB b.base b.len (1:Int))∧LdW none (shInt .u8) h1 (sat b.base 1 (1:Int)) fun x1=>
 ((InB b.base b.len (2:Int))∧LdW none (shInt .u8) h1 (sat b.base 1 (2:Int)) fun x2=>
 ((InB b.base b.len (3:Int))∧LdW none (shInt .u8) h1 (sat b.base 1 (3:Int)) fun x3=>
 Q ⟨(IntKind.wrap .i64 x),(IntKind.wrap .i64 x1),(IntKind.wrap .i64 x2),(IntKind.wrap .i64 x3),(IntKind.wrap .i64 n)⟩ h1)))))) (0:Int) (0:Int) h
def zvj (P:Program) (op:Int) (Q:(Bool→(Bool→(Bool→(Bool→(Hp→Prop)))))) (h:Hp):Prop:=
 CallT P zez1 [(.int .i64 op)] shStr (fun r h1=>
 NewW [(.string ⟨#[]⟩)] (fun a h2=>
 StW h2 a [(.string r)] (fun h3=>
 CallV P tb (.func (.func 147) #[] #[(.pointer (some a))]) [(.string ⟨#[97]⟩)] zag (fun r1 h4=>
 CallV P tb (.func (.func 147) #[] #[(.pointer (some a))]) [(.string ⟨#[98]⟩)] zag (fun r2 h5=>
 CallV P tb (.func (.func 147) #[] #[(.pointer (some a))]) [(.string ⟨#[99]⟩)] zag (fun r3 h6=>
 CallV P tb (.func (.func 147) #[] #[(.pointer (some a))]) [(.string ⟨#[105]⟩)] zag (fun r4 h7=>
 Q r1 r2 r3 r4 h7) h6) h5) h4) h3)) h1) h
def zrb (P:Program) (has:Bool) (n:Int) (Q:(Int→(Hp→Prop))) (h:Hp):Prop:=
 LetW ((!has)&&(n !=(0:Int))) fun y=>
 (if y=true then
 Q (11:Int) h
 else
 LetW ((decide (n<(0:Int))) || (decide (n≥(8:Int)))) fun y1=>
 (if y1=true then
 Q (10:Int) h
 else
 Q (0:Int) h))
def zvk (P:Program) (x:S_api_Ins) (has:Bool) (n:Int) (locks:Int) (Q:(Int→(Hp→Prop))) (h:Hp):Prop:=
 LetW ((!has)&&(x.Imm !=(0:Int))) fun y=>
 (if y=true then
 Q (11:Int) h
 else
 LetW ((x.Op==(22:Int)) || (x.Op==(23:Int))) fun y1=>
 (if y1=true then
 LetW ((decide (x.Imm<(0:Int))) || (decide (x.Imm>n))) fun y2=>
 (if y2=true then
 Q (12:Int) h
 else
 Q (0:Int) h)
 else
 LetW ((x.Op==(29:Int)) || (x.Op==(30:Int))) fun y2=>
 (if y2=true then
 LetW ((decide (x.Imm<(0:Int))) || (decide (x.Imm≥locks))) fun y3=>
 (if y3=true then
 Q (13:Int) h
 else
 Q (0:Int) h)
 else
 Q (0:Int) h)))
def zgo (P:Program) (op:Int) (Q:(Bool→(Bool→(Bool→(Bool→(Hp→Prop)))))) (h:Hp):Prop:=
 (if (op==(1:Int))=true then
 Q true false false true h
 else
 JoinW1 (α1:=Bool) (fun k=>
 (if (op==(2:Int))=true then
 k (op==(2:Int)) h
 else
 (if (op==(20:Int))=true then
 k (op==(20:Int)) h
 else
 (if (op==(21:Int))=true then
 k (op==(21:Int)) h
 else
 (if (op==(25:Int))=true then
 k (op==(25:Int)) h
 else
 k (op==(26:Int)) h)))))
 (fun t9 h1=>
 (if t9=true then
 Q true true false false h1
 else
 JoinW1 (α1:=Bool) (fun k=>
 (if (op==(3:Int))=true then
 k (op==(3:Int)) h1
 else
 (if (op==(4:Int))=true then
 k (op==(4:Int)) h1
 else
 (if (op==(5:Int))=true then
 k (op==(5:Int)) h1
 else
 (if (op==(6:Int))=true then
 k (op==(6:Int)) h1
 else
 (if (op==(7:Int))=true then
 k (op==(7:Int)) h1
 else
 (if (op==(8:Int))=true then
 k (op==(8:Int)) h1
 else
 (if (op==(9:Int))=true then
 k (op==(9:Int)) h1
 else
 (if (op==(10:Int))=true then
 k (op==(10:Int)) h1
 else
 (if (op==(11:Int))=true then
 k (op==(11:Int)) h1
 else
 (if (op==(12:Int))=true then
 k (op==(12:Int)) h1
 else
 (if (op==(13:Int))=true then
 k (op==(13:Int)) h1
 else
 k (op==(14:Int)) h1))))))))))))
 (fun t15 h2=>
 (if t15=true then
 Q true true true false h2
 else
 JoinW1 (α1:=Bool) (fun k=>
 (if (op==(15:Int))=true then
 k (op==(15:Int)) h2
 else
 (if (op==(16:Int))=true then
 k (op==(16:Int)) h2
 else
 (if (op==(17:Int))=true then
 k (op==(17:Int)) h2
 else
 (if (op==(18:Int))=true then
 k (op==(18:Int)) h2
 else
 (if (op==(19:Int))=true then
 k (op==(19:Int)) h2
 else
 k (op==(24:Int)) h2))))))
 (fun t28 h3=>
 (if t28=true then
 Q true true true false h3
 else
 JoinW1 (α1:=Bool) (fun k=>
 (if (op==(22:Int))=true then
 k (op==(22:Int)) h3
 else
 (if (op==(29:Int))=true then
 k (op==(29:Int)) h3
 else
 k (op==(30:Int)) h3)))
 (fun t35 h4=>
 (if t35=true then
 Q false false false true h4
 else
 (if (op==(23:Int))=true then
 Q true false false true h4
 else
 JoinW1 (α1:=Bool) (fun k=>
 (if (op==(27:Int))=true then
 k (op==(27:Int)) h4
 else
 (if (op==(28:Int))=true then
 k (op==(28:Int)) h4
 else
 (if (op==(31:Int))=true then
 k (op==(31:Int)) h4
 else
 (if (op==(32:Int))=true then
 k (op==(32:Int)) h4
 else
 k (op==(33:Int)) h4)))))
 (fun t41 h5=>
 (if t41=true then
 Q true false false false h5
 else
 Q false false false false h5))))))))))))
def zfe (P:Program) (n:Int) (has:Bool) (Q:(Int→(Hp→Prop))) (h:Hp):Prop:=
 LetW ((!has)&&(n !=(0:Int))) fun y=>
 (if y=true then
 Q (11:Int) h
 else
 LetW ((decide (n<(0:Int))) || (decide (n≥(8:Int)))) fun y1=>
 LetW (has&&y1) fun y2=>
 (if y2=true then
 Q (10:Int) h
 else
 Q (0:Int) h))
def zkp (P:Program) (n:Int) (a1:Addr) (Q:(Int→(Hp→Prop))) (h:Hp):Prop:=
 LdW none shPtr h a1 fun x=>
 NilW none x fun p=>
 LdW none shSl h (Addr.add p 0) fun x1=>
 (if (decide (n≥((x1.len:Nat):Int)))=true then
 Q (2:Int) h
 else
 Q (0:Int) h)
def zrc (P:Program) (n:Int) (a1:Addr) (Q:(Int→(Hp→Prop))) (h:Hp):Prop:=
 LdW none shFn h a1 fun x=>
 CallV P tb (.func (.func x.g) x.first x.captured) [(.int .i64 (IntKind.wrap .i64 n))] (shInt .i64) (fun r h1=>
 Q r h1) h
def zrd (P:Program) (a0:Int) (Q:(Int→(Hp→Prop))) (h:Hp):Prop:=
 Q (0:Int) h
def zvl (P:Program) (x:S_api_Ins) (e:Int) (Q:(Int→(Hp→Prop))) (h:Hp):Prop:=
 (if (e==(9:Int))=true then
 Q (0:Int) h
 else
 Call4 P zpt [(.int .i64 x.Op)] zag zag zag zag (fun r r1 r2 r3 h1=>
 NewW [(.bool r),(.int .i64 x.A),(.bool r1),(.int .i64 x.B),(.bool r2),(.int .i64 x.C)] (fun a h2=>
 LoopW1 (α1:=Int) (fun again t35 h3=>
 (if (decide (t35<(3:Int)))=true then
 ((InB (some a) 3 t35)∧LdW none zch h3 (sat (some a) 2 t35) fun x1=>
 LetW (x1.has&&(decide (x1.n≥(8:Int)))) fun y=>
 LetW ((!x1.has)&&(x1.n !=(0:Int))) fun y1=>
 LetW (y || y1) fun y2=>
 (if y2=true then
 Q (IntKind.wrap .i64 ((1:Int)+t35)) h3
 else
 again (IntKind.wrap .i64 (t35+(1:Int))) h3))
 else
 Q (4:Int) h3)) (0:Int) h2) h1) h)
def zvm (P:Program) (op:Int) (Q:(ByteArray→(Hp→Prop))) (h:Hp):Prop:=
 LetW ((decide (op<(0:Int))) || (decide (op≥(34:Int)))) fun y=>
 (if y=true then
 Q ⟨#[]⟩ h
 else
 (((0:Int)≤op∧op<(34:Int))∧∃x:ByteArray,((List.get?Internal (α:=Value) [(.string ⟨#[]⟩),(.string ⟨#[97,105]⟩),(.string ⟨#[97,98]⟩),(.string ⟨#[97,98,99]⟩),(.string ⟨#[97,98,99]⟩),(.string ⟨#[97,98,99]⟩),(.string ⟨#[97,98,99]⟩),(.string ⟨#[97,98,99]⟩),(.string ⟨#[97,98,99]⟩),(.string ⟨#[97,98,99]⟩),(.string ⟨#[97,98,99]⟩),(.string ⟨#[97,98,99]⟩),(.string ⟨#[97,98,99]⟩),(.string ⟨#[97,98,99]⟩),(.string ⟨#[97,98,99]⟩),(.string ⟨#[97,98,99]⟩),(.string ⟨#[97,98,99]⟩),(.string ⟨#[97,98,99]⟩),(.string ⟨#[97,98,99]⟩),(.string ⟨#[97,98,99]⟩),(.string ⟨#[97,98]⟩),(.string ⟨#[97,98]⟩),(.string ⟨#[105]⟩),(.string ⟨#[97,105]⟩),(.string ⟨#[97,98,99]⟩),(.string ⟨#[97,98]⟩),(.string ⟨#[97,98]⟩),(.string ⟨#[97]⟩),(.string ⟨#[97]⟩),(.string ⟨#[105]⟩),(.string ⟨#[105]⟩),(.string ⟨#[97]⟩),(.string ⟨#[97]⟩),(.string ⟨#[97]⟩)] ((Int.toNat op)*1))=(some (.string x))∧Q x h)))
def zzj (P:Program) (field:ByteArray) (a1:Addr) (Q:(Bool→(Hp→Prop))) (h:Hp):Prop:=
 LdW none shStr h a1 fun x=>
 CallT P zsi [(.string x),(.string field)] zag (fun r h1=>
 Q r h1) h
end Lf

set_option maxRecDepth 100000
namespace Lf
open Go
def Ann.s (a:Ann):Ann:=.sq .tt a
def rgR (a n:Nat):List (Nat×List Nat):=(List.range' a n).map fun i=>(i,[])
def zrs :List Nat:=[3,4,7,16,17,20,21,25,26]
def zrt :Ann:=(.s (.s (.s (.s (.s (.s (.s (.s (.s (.s (.sq (.s (.bk (.lp [⟨false,81,3⟩] [] .tt))) (.sq (.s (.bk (.lp [⟨false,8,33⟩,⟨false,88,3⟩] [] .tt))) (.s (.s (.s (.s (.s (.sq (.sq (.rg (rgR 0 25)) .tt) (.sq (.s (.bk (.lp [⟨false,167,3⟩] [] .tt))) (.s (.s (.s (.sq (.s (.bk (.lp [⟨false,211,3⟩] [] (.s (.s (.sq (.bk (.s (.sq (.s (.bk (.lp [⟨false,221,3⟩] [] .tt))) (.rg (rgR 0 10++ [(10,[1,4,8]),(11,[1])]++rgR 12 3))))) .tt)))))) .tt)))))))))))))))))))))))
def zxy :List Nat:=[1,2,5,6,9,10]
def zxz :Ann:=.tt
def zzk :List Nat:=[2,3,7]
def zzl :Ann:=(.s (.s (.s (.sq (.s (.bk (.lp [⟨false,5,3⟩,⟨false,6,3⟩] [7] (.s (.sq (.bk (.s (.s (.s (.bk (.lp [⟨false,5,3⟩,⟨false,8,3⟩] [] .tt)))))) .tt))))) (.sq (.s (.bk (.lp [⟨false,5,3⟩,⟨false,9,3⟩] [] (.s (.sq (.bk (.s (.s (.s (.bk (.lp [⟨false,5,3⟩,⟨false,11,3⟩] [] (.s (.sq (.bk (.rg (rgR 0 16))) .tt)))))))) .tt))))) .tt)))))
def znm1 :List Nat:=[2,3,11,13]
def znn1 :Ann:=(.s (.s (.s (.s (.s (.s (.s (.sq (.rg (rgR 0 6)) (.sq (.s (.bk (.lp [⟨false,59,3⟩] [11] .tt))) (.sq (.s (.bk (.lp [⟨false,70,3⟩] [13] .tt))) .tt))))))))))
def zvn :List Nat:=[2,3]
def zvo :Ann:=(.s (.s (.s (.s (.s (.s (.s (.s (.sq (.s (.bk (.lp [⟨false,9,33⟩,⟨false,10,3⟩] [] .tt))) (.sq (.s (.bk (.lp [⟨false,9,33⟩,⟨false,11,3⟩] [] .tt))) .tt))))))))))
def zno1 :List Nat:=[2,3,7]
def znp1 :Ann:=(.s (.s (.s (.s (.jn [] [] (.s (.sq (.rg (rgR 0 10)) .tt)) (.sq (.s (.sq (.sq (.rg (rgR 0 12++ [(12,[6,11]),(13,[6,11]),(14,[]),(15,[])])) .tt) .tt)) (.sq (.rg (rgR 0 5++ [(5,[4])]++rgR 6 3)) .tt)))))))
def zvp :List Nat:=[2,3,7,8]
def zvq :Ann:=(.s (.s (.s (.s (.s (.s (.sq (.s (.bk (.lp [⟨false,9,3⟩,⟨true,8,30⟩] [8] (.s (.sq (.bk (.rg (rgR 0 4++ [(4,[1]),(5,[1])]++rgR 6 3))) .tt))))) (.sq (.s (.bk (.lp [⟨false,10,3⟩,⟨true,8,30⟩] [8] (.s (.sq (.bk (.rg (rgR 0 4++ [(4,[1]),(5,[1])]++rgR 6 3))) .tt))))) (.jn [] [] .tt (.sq (.s (.sq (.sq (.rg (rgR 0 10++ [(10,[5,9]),(11,[5,9]),(12,[]),(13,[])])) .tt) .tt)) (.s (.s (.sq (.rg ([(0,[]),(1,[]),(2,[1])]++rgR 3 3)) .tt)))))))))))))
def zzm :List Nat:=[2,3]
def zzn :Ann:=(.s (.s (.sq (.s (.bk (.lp [⟨false,5,4⟩,⟨false,6,3⟩] [] (.s (.sq (.bk (.rg (rgR 0 14))) .tt))))) .tt)))
def zzo :List Nat:=[2,3]
def zzp :Ann:=(.s (.s (.sq (.s (.bk (.lp [⟨false,5,3⟩] [] (.s (.sq (.bk (.sq (.rg (rgR 0 12)) .tt)) .tt))))) (.sq (.s (.bk (.lp [⟨false,7,3⟩] [] (.s (.sq (.bk (.sq (.rg (rgR 0 12)) .tt)) .tt))))) .tt))))
def znq1 :List Nat:=[2,3,10]
def znr1 :Ann:=(.s (.s (.s (.s (.s (.sq (.s (.bk (.lp [⟨false,61,3⟩] [] .tt))) (.sq (.s (.bk (.lp [⟨false,72,3⟩] [] .tt))) .tt)))))))
def zru :List Nat:=[1,2,3,5,9,12]
def zrv :Ann:=(.s (.s (.sq (.s (.bk (.lp [⟨false,4,3⟩,⟨true,3,30⟩] [3,5] (.s (.sq (.bk (.s (.s (.s (.s (.sq (.s (.bk (.lp [⟨false,6,58⟩,⟨false,7,3⟩] [] .tt))) .tt)))))) .tt))))) (.sq (.s (.bk (.lp [⟨false,8,3⟩,⟨true,3,30⟩] [3,9,12] (.s (.sq (.bk (.s (.s (.sq (.s (.bk (.lp [⟨false,10,62⟩,⟨false,11,3⟩] [12] .tt))) .tt)))) .tt))))) .tt))))
def zya :List Nat:=[2]
def zyb :Ann:=(.s (.sq (.s (.bk (.lp [⟨false,18,3⟩] [] (.s (.s (.sq (.bk (.s (.s (.sq (.s (.bk (.lp [⟨false,30,3⟩] [] .tt))) (.sq (.s (.bk (.lp [⟨false,47,3⟩] [] .tt))) (.sq (.s (.bk (.lp [⟨false,63,3⟩] [] (.s (.s (.sq (.bk (.s (.sq (.s (.bk (.lp [⟨false,74,3⟩] [] .tt))) (.rg (rgR 0 15++ [(15,[3,8,11]),(16,[3]),(17,[]),(18,[])]))))) .tt)))))) .tt)))))) .tt)))))) (.s (.bk (.lp [⟨false,135,3⟩] [] (.s (.s (.sq (.bk (.s (.s (.bk (.lp [⟨false,145,3⟩] [] (.s (.s (.sq (.bk (.s (.s (.sq (.s (.bk (.lp [⟨false,161,3⟩] [] .tt))) (.sq (.s (.bk (.lp [⟨false,177,3⟩] [] .tt))) .tt))))) .tt)))))))) .tt))))))))
def zzq :List Nat:=[3,4,5]
def zzr :Ann:=.tt
def zyc :List Nat:=[0,1,2]
def zyd :Ann:=.tt
def zbq1 :List Nat:=[1]
def zbr1 :Ann:=(.s (.s (.s (.sq (.s (.bk (.lp [⟨false,3,3⟩,⟨false,4,3⟩] [] .tt))) .tt))))
def zns1 :List Nat:=[1,12]
def znt1 :Ann:=(.s (.s (.s (.sq (.s (.bk (.lp [⟨false,6,33⟩,⟨false,35,3⟩] [] .tt))) (.s (.sq (.s (.bk (.lp [⟨false,6,33⟩,⟨false,53,3⟩] [] .tt))) (.s (.s (.s (.s (.sq (.s (.bk (.lp [⟨false,6,33⟩,⟨false,92,3⟩] [12] .tt))) .tt)))))))))))
def zbs1 :List Nat:=[]
def zbt1 :Ann:=.tt
def zfb1 :List Nat:=[]
def zfc1 :Ann:=(.s (.bk (.lp [⟨false,8,3⟩] [] (.s (.s (.sq (.bk (.s (.rg (rgR 0 11++ [(11,[4])]++rgR 12 4)))) .tt))))))
def zfd1 :List Nat:=[3,5]
def zfe1 :Ann:=(.s (.sq (.rg (rgR 0 6)) (.sq (.rg (rgR 0 7)) (.sq (.s (.bk (.lp [⟨false,26,3⟩] [5] (.s (.s (.sq (.bk (.s (.sq (.rg (rgR 0 6)) (.sq (.rg (rgR 0 6)) (.rg (rgR 0 6)))))) .tt)))))) (.sq (.rg (rgR 0 6)) (.sq (.rg (rgR 0 6)) (.s (.bk (.lp [⟨false,64,3⟩] [] (.s (.s (.sq (.bk (.s (.s (.sq (.rg (rgR 0 10)) (.s (.bk (.lp [⟨false,91,3⟩] [] .tt))))))) .tt))))))))))))
def zff1 :List Nat:=[3,8]
def zfg1 :Ann:=(.s (.sq (.rg (rgR 0 6)) (.sq (.rg (rgR 0 6)) (.sq (.s (.bk (.lp [⟨false,23,3⟩] [] .tt))) (.sq (.rg (rgR 0 6)) (.sq (.rg (rgR 0 6)) (.s (.jn [⟨false,6,3⟩] [] .tt (.s (.sq (.rg (rgR 0 6)) (.s (.bk (.lp [⟨false,60,3⟩] [8] .tt)))))))))))))
def zbu1 :List Nat:=[2,3]
def zbv1 :Ann:=(.s (.s (.s (.s (.s (.s (.sq (.s (.bk (.lp [⟨false,7,4⟩,⟨false,9,3⟩] [] .tt))) (.sq (.s (.bk (.lp [⟨false,7,4⟩,⟨false,10,3⟩] [] .tt))) (.sq (.s (.bk (.lp [⟨false,7,4⟩,⟨false,11,3⟩] [] .tt))) .tt)))))))))
def zvr :List Nat:=[1,10]
def zvs :Ann:=(.s (.s (.s (.sq (.s (.bk (.lp [⟨false,6,33⟩,⟨false,7,3⟩] [] .tt))) (.s (.sq (.s (.bk (.lp [⟨false,6,33⟩,⟨false,8,3⟩] [] .tt))) (.s (.s (.s (.s (.sq (.s (.bk (.lp [⟨false,6,33⟩,⟨false,9,3⟩] [10] (.s (.sq (.bk (.s (.s (.s (.s (.bk (.lp [⟨false,6,33⟩,⟨false,11,3⟩] [] .tt))))))) .tt))))) .tt)))))))))))
def zvt :List Nat:=[]
def zvu :Ann:=(.s (.sq (.s (.bk (.lp [⟨false,0,33⟩,⟨false,7,3⟩] [] .tt))) .tt))
def zzs :List Nat:=[3]
def zzt :Ann:=(.s (.s (.s (.sq (.s (.bk (.lp [⟨false,0,33⟩,⟨false,5,3⟩] [] .tt))) (.s (.s (.sq (.s (.bk (.lp [⟨false,0,33⟩,⟨false,6,3⟩] [] (.s (.sq (.bk (.sq (.rg (rgR 0 18)) (.s (.bk (.lp [⟨false,0,33⟩,⟨false,7,3⟩] [] .tt))))) .tt))))) .tt)))))))
def zua :List Nat:=[3,7]
def zub :Ann:=(.s (.s (.s (.sq (.s (.bk (.lp [⟨false,0,33⟩,⟨false,5,3⟩] [] .tt))) (.s (.s (.s (.s (.sq (.s (.bk (.lp [⟨false,0,33⟩,⟨false,6,3⟩] [7] (.s (.sq (.bk (.s (.s (.sq (.s (.bk (.lp [⟨false,0,33⟩,⟨false,8,3⟩] [] .tt))) (.s (.sq (.s (.bk (.lp [⟨false,0,33⟩,⟨false,9,3⟩] [] .tt))) .tt)))))) .tt))))) .tt)))))))))
def zdp1 :List Nat:=[2,6]
def zdq1 :Ann:=(.s (.sq (.s (.bk (.lp [⟨false,7,3⟩] [] (.s (.s (.sq (.bj [] [] .tt) .tt)))))) (.s (.s (.sq (.s (.bk (.lp [⟨false,43,3⟩,⟨true,6,30⟩] [6] (.s (.s (.sq (.bk (.rg (rgR 0 3++ [(3,[1]),(4,[1])]++rgR 5 3))) .tt)))))) (.sq (.s (.bk (.lp [⟨false,59,3⟩,⟨true,6,30⟩] [6] (.s (.s (.sq (.bk (.rg (rgR 0 3++ [(3,[1]),(4,[1])]++rgR 5 3))) .tt)))))) (.sq (.sq (.rg (rgR 0 12)) (.sq (.rg (rgR 0 9)) .tt)) .tt)))))))
def zfh1 :List Nat:=[]
def zfi1 :Ann:=.tt
def zpv :List Nat:=[]
def zpw :Ann:=(.s (.bk (.lp [⟨false,4,3⟩] [] (.s (.sq (.bj [] [] .tt) .tt)))))
def zvv :List Nat:=[2,4]
def zvw :Ann:=(.s (.s (.s (.sq (.sq (.rg (rgR 0 13)) .tt) (.sq (.rg (rgR 0 16++ [(21,[])]++rgR 16 5++rgR 22 3)) (.jn [] [] .tt .tt))))))
def zoi :List Nat:=[]
def zoj :Ann:=(.s (.s (.sq (.sq (.rg (rgR 0 12)) .tt) (.s (.sq (.s (.bk (.lp [⟨false,5,80⟩,⟨false,6,3⟩] [] (.s (.sq (.bk (.rg (rgR 0 19))) .tt))))) .tt)))))
def zst :List Nat:=[3,4,5,8]
def zsu :Ann:=(.s (.s (.s (.sq (.s (.bk (.lp [⟨false,7,3⟩,⟨true,5,60⟩] [5,8] .tt))) (.s (.s (.sq (.s (.bk (.lp [⟨false,9,3⟩,⟨true,5,60⟩] [5] (.s (.sq (.bk (.sq (.rg (rgR 0 3++ [(3,[1]),(4,[]),(5,[]),(6,[1])]++rgR 7 3)) (.s (.s (.sq (.s (.bk (.lp [⟨false,11,23⟩,⟨false,12,3⟩] [] .tt))) .tt))))) .tt))))) .tt)))))))
def zpx :List Nat:=[3,4]
def zpy :Ann:=(.s (.s (.s (.sq (.s (.bk (.lp [⟨false,6,3⟩] [] .tt))) (.s (.s (.s (.s (.sq (.s (.bk (.lp [⟨false,7,3⟩] [] (.s (.sq (.bk (.rg (rgR 0 4++ [(4,[1]),(5,[1])]++rgR 6 3))) .tt))))) .tt)))))))))
def zpz :List Nat:=[]
def zqa :Ann:=.tt
def zsv :List Nat:=[2,3]
def zsw :Ann:=(.s (.s (.sq (.s (.bk (.lp [⟨false,5,3⟩] [] (.s (.sq (.bk (.sq (.rg (rgR 0 13)) .tt)) .tt))))) .tt)))
def zzu :List Nat:=[]
def zzv :Ann:=(.s (.s (.sq (.s (.bk (.lp [⟨false,5,3⟩] [] (.s (.sq (.bk (.sq (.rg (rgR 0 9)) .tt)) .tt))))) .tt)))
def zsx :List Nat:=[2,3]
def zsy :Ann:=(.s (.s (.sq (.s (.bk (.lp [⟨false,5,3⟩] [] (.s (.sq (.bk (.sq (.rg (rgR 0 11)) .tt)) .tt))))) (.sq (.s (.bk (.lp [⟨false,6,3⟩] [] (.s (.sq (.bk (.sq (.rg (rgR 0 12)) .tt)) .tt))))) .tt))))
def zqb :List Nat:=[2,3]
def zqc :Ann:=(.s (.s (.sq (.s (.bk (.lp [⟨false,5,3⟩] [] (.s (.sq (.bk (.sq (.rg (rgR 0 12)) .tt)) .tt))))) .tt)))
def zxm1 :List Nat:=[1,15]
def zxn1 :Ann:=(.s (.s (.s (.s (.sq (.s (.bk (.lp [⟨false,57,3⟩] [] .tt))) (.s (.sq (.s (.bk (.lp [⟨false,80,3⟩] [15] .tt))) .tt)))))))
def zss1 :List Nat:=[]
def zst1 :Ann:=(.s (.s (.s (.sq (.s (.bk (.lp [⟨false,29,3⟩] [] .tt))) .tt))))
def zbw1 :List Nat:=[5,8]
def zbx1 :Ann:=(.s (.s (.sq (.sq (.rg (rgR 0 12++ [(12,[9])]++rgR 13 12)) .tt) (.s (.sq (.s (.bk (.lp [⟨false,6,2⟩,⟨false,43,3⟩] [8] .tt))) .tt)))))
def zby1 :List Nat:=[2,5,6,10]
def zbz1 :Ann:=(.s (.sq (.rg (rgR 0 14++ [(14,[8,11]),(15,[])])) (.s (.sq (.bk (.jn [⟨false,28,4⟩] [] .tt (.s (.jn [⟨false,68,4⟩] [] .tt .tt)))) (.s (.sq (.s (.bk (.lp [⟨false,8,4⟩,⟨false,111,3⟩] [10] .tt))) .tt))))))
def zzw :List Nat:=[1,5,11,13,15,17]
def zzx :Ann:=(.s (.s (.sq (.s (.bk (.lp [⟨false,28,3⟩] [5] (.s (.s (.sq (.bk (.s (.s (.bk (.lp [⟨false,36,3⟩] [] (.s (.s (.sq (.bk (.s (.s (.bk (.lp [⟨false,43,3⟩] [] .tt))))) .tt)))))))) .tt)))))) (.sq (.s (.bk (.lp [⟨false,100,3⟩] [11,13,15] (.s (.s (.sq (.bk (.s (.s (.bk (.lp [⟨false,108,3⟩] [13,15] (.s (.s (.sq (.bk (.s (.s (.bk (.lp [⟨false,116,3⟩] [15] .tt))))) .tt)))))))) .tt)))))) (.sq (.s (.bk (.lp [⟨false,173,3⟩] [17] (.s (.s (.sq (.bk (.s (.s (.jn [⟨false,18,3⟩] [] .tt .tt)))) .tt)))))) .tt)))))
def zxo1 :List Nat:=[]
def zxp1 :Ann:=(.s (.sq (.s (.bk (.lp [⟨false,0,33⟩,⟨false,9,3⟩] [] .tt))) .tt))
def znu1 :List Nat:=[9]
def znv1 :Ann:=(.s (.s (.s (.sq (.s (.bk (.lp [⟨false,7,33⟩,⟨false,26,3⟩] [9] (.s (.s (.sq (.bk (.s (.s (.s (.bk (.lp [⟨false,7,33⟩,⟨false,45,3⟩] [] .tt)))))) .tt)))))) .tt))))
def zfj1 :List Nat:=[3,7]
def zfk1 :Ann:=(.s (.sq (.rg (rgR 0 7)) (.sq (.s (.bk (.lp [⟨false,18,3⟩] [] .tt))) (.sq (.rg (rgR 0 7)) (.sq (.s (.bk (.lp [⟨false,38,3⟩] [7] (.s (.s (.sq (.bk (.s (.sq (.rg (rgR 0 6)) (.rg (rgR 0 6))))) .tt)))))) (.sq (.rg (rgR 0 6)) (.rg (rgR 0 6))))))))
def zca1 :List Nat:=[1,7]
def zcb1 :Ann:=(.s (.s (.s (.sq (.rg ([(0,[]),(1,[]),(3,[]),(4,[]),(6,[]),(7,[]),(9,[]),(10,[]),(13,[]),(2,[4,7,10]),(5,[7,10]),(8,[10]),(11,[]),(12,[]),(14,[])])) (.sq (.s (.bk (.lp [⟨false,8,3⟩] [] .tt))) (.s (.s (.sq (.s (.bk (.lp [⟨false,9,3⟩] [] (.s (.sq (.bk (.sq (.sq (.rg (rgR 0 12)) .tt) (.sq (.rg (rgR 0 14)) .tt))) .tt))))) .tt))))))))
def zye :List Nat:=[2,3]
def zyf :Ann:=(.s (.s (.sq (.s (.bk (.lp [⟨false,5,3⟩] [] (.s (.sq (.bk (.sq (.rg (rgR 0 34)) .tt)) .tt))))) (.sq (.s (.bk (.lp [⟨false,6,3⟩] [] (.s (.sq (.bk (.sq (.sq (.rg (rgR 0 12)) .tt) (.s (.bk (.lp [⟨false,7,3⟩] [] (.s (.sq (.bk (.sq (.rg (rgR 0 14)) .tt)) .tt))))))) .tt))))) .tt))))
def zoz :List Nat:=[5,8]
def zpa :Ann:=(.s (.s (.s (.sq (.sq (.rg (rgR 0 42)) .tt) (.sq (.s (.bk (.lp [⟨false,7,3⟩] [8] (.s (.sq (.bk (.s (.sq (.rg (rgR 0 56)) .tt))) .tt))))) (.sq (.s (.bk (.lp [⟨false,9,3⟩] [] (.s (.sq (.bk (.s (.s (.s (.bk (.lp [⟨false,11,3⟩] [] .tt)))))) .tt))))) .tt))))))
def znc :List Nat:=[5,9,11]
def znd :Ann:=(.s (.s (.s (.sq (.sq (.rg (rgR 0 41)) .tt) (.s (.s (.s (.sq (.s (.bk (.lp [⟨false,8,3⟩] [9,11] (.s (.sq (.bk (.s (.s (.s (.sq (.sq (.rg (rgR 0 25)) .tt) (.s (.bk (.lp [⟨false,10,3⟩] [11] (.s (.sq (.bk (.s (.s (.sq (.rg (rgR 0 15)) .tt)))) .tt)))))))))) .tt))))) .tt))))))))
def zok :List Nat:=[5,7]
def zol :Ann:=(.s (.s (.s (.sq (.rg ([(0,[]),(1,[])]++rgR 3 9++ [(16,[]),(2,[7,11])]++rgR 12 4++ [(17,[]),(18,[])])) (.s (.sq (.s (.bk (.lp [⟨false,9,3⟩,⟨false,11,3⟩] [] (.s (.sq (.bk (.s (.bk (.lp [⟨false,9,3⟩,⟨false,12,3⟩] [] (.s (.sq (.bj [⟨false,9,3⟩] [] .tt) .tt)))))) .tt))))) (.sq (.s (.bk (.lp [⟨false,10,3⟩,⟨false,13,3⟩] [] (.s (.sq (.bk (.s (.s (.bk (.lp [⟨false,10,3⟩,⟨false,15,3⟩] [] (.s (.sq (.bj [⟨false,10,3⟩] [] (.s (.s (.sq (.rg (rgR 0 29)) .tt)))) .tt))))))) .tt))))) (.s (.sq (.s (.bk (.lp [⟨false,16,4⟩,⟨false,17,3⟩] [] .tt))) .tt)))))))))
def zcc1 :List Nat:=[3]
def zcd1 :Ann:=(.s (.s (.sq (.s (.bk (.lp [⟨false,0,33⟩,⟨false,5,3⟩] [] .tt))) .tt)))
def zce1 :List Nat:=[]
def zcf1 :Ann:=.tt
def zhj1 :List Nat:=[]
def zhk1 :Ann:=(.s (.s (.sq (.sq (.rg (rgR 0 12)) .tt) (.s (.sq (.sq (.rg (rgR 0 17)) (.bk (.lp [⟨false,5,80⟩,⟨false,48,3⟩] [] .tt))) .tt)))))
def zcg1 :List Nat:=[3]
def zch1 :Ann:=(.s (.s (.sq (.sq (.rg (rgR 0 14)) (.sq (.sq (.rg (rgR 0 10)) .tt) .tt)) (.sq (.rg (rgR 0 18++ [(23,[])]++rgR 18 5++rgR 24 3)) (.sq (.s (.sq (.sq (.rg (rgR 0 12)) .tt) .tt)) .tt)))))
def zfl1 :List Nat:=[2,3]
def zfm1 :Ann:=(.s (.s (.sq (.sq (.rg (rgR 0 8++ [(9,[]),(8,[])])) (.bk (.lp [⟨false,19,3⟩,⟨true,3,60⟩] [3] (.s (.s (.sq (.bk (.rg (rgR 0 5++rgR 6 3++rgR 10 3++ [(5,[1]),(9,[1]),(13,[1]),(14,[]),(15,[1])]++rgR 16 3))) .tt)))))) (.sq (.rg (rgR 0 3++rgR 4 3++ [(3,[]),(8,[]),(7,[])]++rgR 9 3)) (.sq (.s (.bk (.lp [⟨false,55,3⟩,⟨true,3,60⟩] [3] (.s (.s (.sq (.bk (.sq (.rg (rgR 0 5++ [(5,[1]),(6,[]),(7,[1])]++rgR 8 3)) (.s (.sq (.sq (.rg (rgR 0 9++ [(10,[]),(9,[])])) (.bk (.lp [⟨false,4,23⟩,⟨false,77,3⟩] [] .tt))) .tt)))) .tt)))))) .tt)))))
def zfn1 :List Nat:=[2,3]
def zfo1 :Ann:=(.s (.sp 3 (.rg (rgR 0 3++rgR 4 3++ [(9,[]),(3,[]),(7,[]),(8,[]),(10,[])])) (.sq (.s (.bk (.lp [⟨false,16,3⟩] [] .tt))) (.s (.s (.s (.s (.jn [] [] .tt (.s (.s (.sq (.s (.bk (.lp [⟨false,68,3⟩] [] (.s (.s (.sq (.bk (.rg (rgR 0 3++ [(3,[1]),(4,[1])]++rgR 5 3))) .tt)))))) .tt)))))))))))
def zvx :List Nat:=[2,6]
def zvy :Ann:=(.s (.s (.s (.s (.jn [] [] .tt (.sq (.s (.sq (.sq (.rg (rgR 0 9++ [(9,[4,8]),(10,[]),(11,[])])) .tt) .tt)) .tt))))))
def zyg :List Nat:=[]
def zyh :Ann:=.tt
def zre :List Nat:=[]
def zrf :Ann:=(.s (.s (.s (.s (.jn [] [] .tt .tt)))))
def zsz :List Nat:=[3,4,5,10]
def zta :Ann:=(.s (.s (.s (.sq (.s (.bk (.lp [⟨false,7,3⟩,⟨true,5,68⟩] [5] (.s (.sq (.bk (.rg (rgR 0 3++ [(3,[1]),(4,[]),(5,[1])]++rgR 6 3))) .tt))))) (.s (.sq (.s (.bk (.lp [⟨false,9,3⟩,⟨true,5,68⟩] [5,10] .tt))) .tt))))))
def zrg :List Nat:=[]
def zrh :Ann:=(.s (.s (.sq (.s (.bk (.lp [⟨false,5,3⟩] [] (.s (.sq (.bk (.sq (.rg (rgR 0 9)) .tt)) .tt))))) .tt)))
def ztb :List Nat:=[]
def ztc :Ann:=(.s (.s (.sq (.s (.bk (.lp [⟨false,5,3⟩] [] (.s (.sq (.bk (.sq (.rg (rgR 0 9)) .tt)) .tt))))) .tt)))
def zzy :List Nat:=[]
def zzz :Ann:=(.s (.s (.sq (.s (.bk (.lp [⟨false,5,3⟩] [] (.s (.sq (.bk (.sq (.rg (rgR 0 9)) .tt)) .tt))))) .tt)))
def ztd :List Nat:=[2,3]
def zte :Ann:=(.s (.s (.sq (.s (.bk (.lp [⟨false,5,3⟩] [] (.s (.sq (.bk (.sq (.rg (rgR 0 11)) .tt)) .tt))))) (.sq (.s (.bk (.lp [⟨false,6,3⟩] [] (.s (.sq (.bk (.sq (.rg (rgR 0 11)) .tt)) .tt))))) .tt))))
def zsu1 :List Nat:=[]
def zsv1 :Ann:=(.s (.s (.sq (.s (.bk (.lp [⟨false,4,3⟩] [] (.s (.sq (.bk (.bk (.sq (.rg (rgR 0 11)) (.s (.sq (.rg (rgR 0 11)) .tt))))) .tt))))) .tt)))
def zsw1 :List Nat:=[]
def zsx1 :Ann:=.tt
def zsy1 :List Nat:=[]
def zsz1 :Ann:=(.s (.s (.s (.sq (.rg ([(0,[]),(2,[]),(1,[2])]++rgR 3 5)) .tt))))
def znw1 :List Nat:=[]
def znx1 :Ann:=.tt
def zny1 :List Nat:=[]
def znz1 :Ann:=.tt
def zxq1 :List Nat:=[7]
def zxr1 :Ann:=(.s (.s (.sq (.s (.bk (.lp [⟨false,22,3⟩] [7] .tt))) .tt)))
def zqd :List Nat:=[]
def zqe :Ann:=.tt
def zci1 :List Nat:=[2,7]
def zcj1 :Ann:=(.s (.s (.sq (.s (.bk (.lp [⟨false,5,3⟩,⟨false,12,3⟩] [7] (.s (.s (.sq (.bj [⟨false,5,3⟩] [7] .tt) .tt)))))) .tt)))
def zfp1 :List Nat:=[3]
def zfq1 :Ann:=.tt
def zjp1 :List Nat:=[]
def zjq1 :Ann:=.tt
def zpb :List Nat:=[]
def zpc :Ann:=.tt
def zyi :List Nat:=[]
def zyj :Ann:=.tt
def zjr1 :List Nat:=[]
def zjs1 :Ann:=.tt
def zdr1 :List Nat:=[]
def zds1 :Ann:=(.s (.sq (.rg (rgR 0 26)) .tt))
def zfr1 :List Nat:=[2]
def zfs1 :Ann:=.tt
def zdt1 :List Nat:=[2,4]
def zdu1 :Ann:=(.s (.sq (.rg (rgR 0 16)) .tt))
def zaa1 :List Nat:=[3,4,7,8]
def zab1 :Ann:=(.s (.sq (.rg (rgR 0 10++ [(11,[]),(12,[]),(10,[2,4,6]),(13,[]),(14,[])])) (.sq (.rg (rgR 0 28)) .tt)))
def zck1 :List Nat:=[]
def zcl1 :Ann:=(.s (.s (.s (.sq (.s (.bk (.lp [⟨false,4,3⟩] [] (.s (.sq (.bk (.sq (.sq (.rg (rgR 0 10)) .tt) (.sq (.rg (rgR 0 10)) .tt))) .tt))))) .tt))))
def zvz :List Nat:=[]
def zwa :Ann:=(.s (.s (.s (.sq (.s (.bk (.lp [⟨false,5,3⟩] [] .tt))) .tt))))
def zwb :List Nat:=[]
def zwc :Ann:=.tt
def zcm1 :List Nat:=[]
def zcn1 :Ann:=(.s (.s (.s (.sq (.s (.bk (.lp [⟨false,6,3⟩] [] .tt))) .tt))))
def zwd :List Nat:=[]
def zwe :Ann:=.tt
def zri :List Nat:=[]
def zrj :Ann:=(.s (.s (.sq (.s (.bk (.lp [⟨false,5,23⟩,⟨false,6,3⟩] [] (.s (.sq (.bj [⟨false,5,23⟩] [] .tt) .tt))))) .tt)))
def zuc :List Nat:=[]
def zud :Ann:=.tt
def zrk :List Nat:=[]
def zrl :Ann:=.tt
def zom :List Nat:=[]
def zon :Ann:=(.s (.sq (.rg (rgR 0 18)) .tt))
def zdv1 :List Nat:=[2,4,6]
def zdw1 :Ann:=(.s (.s (.s (.sq (.rg (rgR 0 4++ [(4,[0])]++rgR 5 3)) .tt))))
def zpd :List Nat:=[4,5]
def zpe :Ann:=.tt
def zdx1 :List Nat:=[]
def zdy1 :Ann:=.tt
def zoa1 :List Nat:=[2]
def zob1 :Ann:=(.s (.gs 0 (.s (.s (.gj 0 [⟨true,2,26⟩] [2] (.s (.s (.s (.s (.s (.s (.s (.s (.s (.s (.s (.sq (.s (.bk (.lp [⟨false,6,3⟩] [] .tt))) (.sq .tt .tt))))))))))))) (.sq (.s (.sq (.sq (.rg (rgR 0 9++ [(9,[4,8]),(10,[]),(11,[])])) .tt) .tt)) .tt))))))
def zft1 :List Nat:=[]
def zfu1 :Ann:=.tt
def zfv1 :List Nat:=[2,3]
def zfw1 :Ann:=(.s (.s (.sq (.sq (.rg (rgR 0 8++ [(9,[]),(8,[])])) (.bk (.lp [⟨false,13,3⟩,⟨true,3,68⟩] [3] (.s (.s (.sq (.bk (.rg (rgR 0 5++ [(5,[1]),(6,[1])]++rgR 7 3))) .tt)))))) (.sq (.sq (.rg (rgR 0 9++ [(10,[]),(9,[])])) (.bk (.lp [⟨false,35,3⟩,⟨true,3,68⟩] [3] (.s (.s (.sq (.bk (.rg (rgR 0 5++rgR 6 3++ [(5,[1]),(9,[1]),(10,[]),(11,[1])]++rgR 12 3))) .tt)))))) (.sq (.rg (rgR 0 3++rgR 4 3++ [(3,[]),(8,[]),(7,[])]++rgR 9 3)) .tt)))))
def zoo :List Nat:=[2,3]
def zop :Ann:=(.s (.s (.s (.s (.sq (.s (.bk (.lp [⟨false,5,3⟩,⟨true,3,26⟩] [3] (.s (.sq (.bk (.s (.s (.jn [] [] .tt (.jn [] [] .tt .tt))))) .tt))))) (.s (.sq (.s (.bk (.lp [⟨false,9,3⟩,⟨true,3,26⟩] [3] (.s (.sq (.bk (.rg (rgR 0 5++ [(5,[1]),(6,[1])]++rgR 7 3))) .tt))))) (.s (.s (.s (.s (.s (.sq (.s (.bk (.lp [⟨false,11,3⟩,⟨true,3,26⟩] [3] (.s (.sq (.bk (.s (.s (.rg (rgR 0 7++ [(7,[1]),(8,[]),(9,[1])]++rgR 10 3))))) .tt))))) .tt)))))))))))))
def zrw :List Nat:=[]
def zrx :Ann:=(.s (.sq (.s (.bk (.lp [⟨false,8,3⟩] [] .tt))) .tt))
def zoc1 :List Nat:=[]
def zod1 :Ann:=.tt
def zyk :List Nat:=[]
def zyl :Ann:=.tt
def zqg1 :List Nat:=[3]
def zqh1 :Ann:=.tt
def zip1 :List Nat:=[]
def ziq1 :Ann:=.tt
def zoe1 :List Nat:=[]
def zof1 :Ann:=.tt
def zym :List Nat:=[3]
def zyn :Ann:=.tt
def zoq :List Nat:=[]
def zor :Ann:=.tt
def zyo :List Nat:=[]
def zyp :Ann:=(.s (.sq (.s (.bk (.lp [⟨false,5,3⟩] [] .tt))) .tt))
def zfx1 :List Nat:=[]
def zfy1 :Ann:=.tt
def zco1 :List Nat:=[]
def zcp1 :Ann:=(.s (.bk (.lp [⟨false,3,3⟩] [] .tt)))
def zhl1 :List Nat:=[]
def zhm1 :Ann:=.tt
def zcq1 :List Nat:=[]
def zcr1 :Ann:=(.s (.s (.bk (.lp [⟨false,4,3⟩] [] (.s (.sq (.bk (.s (.rg (rgR 0 6++ [(6,[0,1,4]),(7,[0])]++rgR 8 3)))) .tt))))))
def zdz1 :List Nat:=[]
def zea1 :Ann:=(.s (.bk (.lp [⟨false,4,3⟩] [] (.s (.sq (.bk (.rg (rgR 0 7++ [(7,[4]),(8,[4])]++rgR 9 4))) .tt)))))
def zcs1 :List Nat:=[]
def zct1 :Ann:=.tt
def zac1 :List Nat:=[]
def zad1 :Ann:=.tt
def zfz1 :List Nat:=[4]
def zga1 :Ann:=(.s (.s (.sq (.s (.bk (.lp [⟨false,6,3⟩,⟨true,4,49⟩] [4] (.s (.sq (.bk (.rg (rgR 0 8++ [(8,[1]),(9,[1])]++rgR 10 3))) .tt))))) (.rg (rgR 0 6++ [(6,[4])]++rgR 7 4)))))
def zqf :List Nat:=[9]
def zqg :Ann:=(.s (.s (.sq (.s (.bk (.lp [⟨false,7,47⟩,⟨false,8,3⟩] [9] (.s (.sq (.bk (.sq (.sq (.rg (rgR 0 11)) .tt) (.sq (.rg (rgR 0 9++ [(10,[]),(9,[]),(11,[])])) .tt))) .tt))))) .tt)))
def zqi1 :List Nat:=[3]
def zqj1 :Ann:=.tt
def zyq :List Nat:=[3]
def zyr :Ann:=.tt
def zcu1 :List Nat:=[]
def zcv1 :Ann:=.tt
def zcw1 :List Nat:=[]
def zcx1 :Ann:=(.s (.s (.sq (.sq (.rg (rgR 0 12)) .tt) (.s (.sq (.sq (.rg (rgR 0 17)) (.bk (.lp [⟨false,7,80⟩,⟨false,47,3⟩] [] .tt))) (.sq (.rg (rgR 0 3++rgR 4 4++ [(3,[7]),(8,[])])) .tt))))))
def zys :List Nat:=[]
def zyt :Ann:=.tt
def zyu :List Nat:=[]
def zyv :Ann:=.tt
def zwf :List Nat:=[]
def zwg :Ann:=.tt
def zhn1 :List Nat:=[]
def zho1 :Ann:=.tt
def zyw :List Nat:=[]
def zyx :Ann:=.tt
def zwh :List Nat:=[]
def zwi :Ann:=.tt
def zcy1 :List Nat:=[]
def zcz1 :Ann:=.tt
def zhp1 :List Nat:=[6,9]
def zhq1 :Ann:=.tt
def zda1 :List Nat:=[2]
def zdb1 :Ann:=(.s (.s (.sq (.s (.bk (.lp [⟨false,3,80⟩,⟨false,4,3⟩] [] .tt))) (.sq (.rg (rgR 0 20)) .tt))))
def zog1 :List Nat:=[]
def zoh1 :Ann:=.tt
def zjt1 :List Nat:=[]
def zju1 :Ann:=.tt
def zoi1 :List Nat:=[4]
def zoj1 :Ann:=.tt
def zwj :List Nat:=[]
def zwk :Ann:=(.s (.sq (.s (.bk (.s (.s (.jn [⟨false,9,4⟩] [] .tt (.s (.jn [⟨false,15,4⟩] [] .tt (.s (.jn [⟨false,28,4⟩] [] .tt (.s (.jn [⟨false,35,4⟩] [] .tt (.s (.s (.s (.jn [⟨false,41,4⟩] [] .tt .tt))))))))))))))) .tt))
def ztf :List Nat:=[]
def ztg :Ann:=.tt
def zth :List Nat:=[]
def zti :Ann:=.tt
def zeb1 :List Nat:=[]
def zec1 :Ann:=.tt
def zed1 :List Nat:=[]
def zee1 :Ann:=.tt
def zok1 :List Nat:=[2,10]
def zol1 :Ann:=(.s (.s (.s (.sq (.s (.bk (.lp [⟨false,35,3⟩] [10] .tt))) .tt))))
def zom1 :List Nat:=[]
def zon1 :Ann:=.tt
def zjv1 :List Nat:=[]
def zjw1 :Ann:=.tt
end Lf

namespace Lf
open Go
structure Tb.Ok (P:Program) (tb:Tb):Prop where
  und:∀t e,tb.ty t=some e→P.underlying t=some e.und
  info:∀t e,tb.ty t=some e→∃i,P.info? t=some i∧i.size=e.size∧i.bytes=e.bytes∧i.zero=some e.zero
  agg:∀t e,tb.ty t=some e→zjf e.und=true→∀x,∃cs,e.sh.enc x=.agg cs∧cs.size=e.size
  leaf:∀t e,tb.ty t=some e→zjf e.und=false→e.size=1∧∀x,(zad (e.sh.enc x)).length=1∧∀cs,e.sh.enc x≠ .agg cs
  zlen:∀t e,tb.ty t=some e→(zad e.zero).length=e.size
  zero8:∀t e,tb.ty t=some e→e.und=.int .u8→zad e.zero=[.int .u8 0]
  zagg:∀t e,tb.ty t=some e→zjf e.und=true→∃cs,e.zero=.agg cs
  call:∀g,tb.call g=true→∀args w,(callFunc g args).run P w=.ok (.enter g args) w
  ext:∀g f,tb.ext g=some f→∀args w,(callFunc g args).run P w=((f args).run P w).andThen fun v w'=>.ok (.value v) w'
  mixed:P.follows .mixedOrders=true
theorem zoo1 :∀ {c d:Chain},chEq c d=true→c=d
  | [],[],_=>rfl
  | [],_::_,h=>by simp [chEq] at h
  | (t,w)::c,[],h=>by simp [chEq] at h
  | (t,w)::c,(u,x)::d,h=>by
    simp only [chEq] at h
    cases h1:Nat.beq t u with
    | false=>simp [h1] at h
    | true=>
      cases h2:zfo2 w x with
      | false=>simp [h1,h2] at h
      | true=>
        simp only [h1,h2,cond_true] at h
        have e1:t=u:=Nat.eq_of_beq_eq_true h1
        have e2:w=x:=by cases w<;>cases x<;>first | rfl | cases h2
        rw [e1,e2,zoo1 h]
theorem zvm1 :∀ {c ch:Chain},sufx c ch=true→∀p∈c,p∈ch
  | c,[],h=>by
    cases c with
    | nil=>intro p hp;cases hp
    | cons a r=>simp [sufx] at h
  | c,q::d,h=>by
    cases c with
    | nil=>intro p hp;cases hp
    | cons a r=>
      simp only [sufx] at h
      cases h1:chEq (a::r) (q::d) with
      | true=>intro p hp;rw [←zoo1 h1];exact hp
      | false=>
        simp only [h1,cond_false] at h
        intro p hp
        exact List.mem_cons_of_mem _ (zvm1 h p hp)
def hb (s:St) (t:Nat):Option Bool:=match s.f t with
  | some (.v (.bool b),_)=>some b
  | _=>none
def holds (s:St) (ch:Chain):Prop:=∀p∈ch,hb s p.1=some p.2
theorem zbn (s:St):holds s []:=fun _ h=>by cases h
theorem zbd1 {s:St} {c ch:Chain} (hs:sufx c ch=true) (h:holds s ch):holds s c:=fun p hp=>h p (zvm1 hs p hp)
theorem zvn1 {s:St} (t:Nat) (w:Bool) (r:Chain):∃b,cnd s ((t,w)::r)=some b∧(holds s ((t,w)::r)→b=true):=by
  induction r generalizing t w with
  | nil=>
    simp only [cnd]
    split
    · rename_i b c hf
      refine ⟨_,rfl,fun h=> ?_⟩
      have:=h (t,w) (List.mem_cons_self ..)
      simp only [hb,hf] at this
      injection this with this
      subst this
      cases b<;>rfl
    · refine ⟨false,rfl,fun h=> ?_⟩
      have:=h (t,w) (List.mem_cons_self ..)
      unfold hb at this
      split at this
      · rename_i hn _ b c hf;exact absurd hf (hn b c)
      · cases this
  | cons p r ih=>
    obtain ⟨t',w'⟩:=p
    obtain ⟨b',hb',hh'⟩:=ih t' w'
    simp only [cnd]
    split
    · rename_i b c hf
      rw [hb']
      refine ⟨_,rfl,fun h=> ?_⟩
      have h1:=h (t,w) (List.mem_cons_self ..)
      simp only [hb,hf] at h1
      injection h1 with h1
      have h2:b'=true:=hh' fun q hq=>h q (List.mem_cons_of_mem _ hq)
      subst h1;subst h2
      cases b<;>rfl
    · refine ⟨false,rfl,fun h=> ?_⟩
      have:=h (t,w) (List.mem_cons_self ..)
      unfold hb at this
      split at this
      · rename_i hn _ b c hf;exact absurd hf (hn b c)
      · cases this
theorem zel {s:St} {ch:Chain} {p:Prop} (h:Req (cnd s ch) p) (hh:holds s ch):p:=by
  cases ch with
  | nil=>exact h
  | cons q r=>
    obtain ⟨t,w⟩:=q
    obtain ⟨b,hb,hi⟩:=zvn1 (s:=s) t w r
    rw [hb] at h
    exact h (hi hh)
def LVal (β:Nat→Nat):LV→Value
  | .v x=>x
  | .box k o=>.pointer (some ⟨β k,o,none⟩)
  | .boxd k o=>.pointer (some ⟨β k,o,none⟩)
def Opnd (β:Nat→Nat) (s:St) (ρ:Operand→Value):Operand→Prop
  | .tmp t=>∀l c,s.f t=some (l,c)→holds s c→ρ (.tmp t)=LVal β l
  | .const v=>ρ (.const v)=v
  | .global g=>ρ (.global g)=.pointer (some ⟨g,0,none⟩)
  | .func f=>ρ (.func f)=.func (.func f) #[] #[]
theorem ev_ok {β:Nat→Nat} {s:St} {ρ:Operand→Value} {x:Operand} {ch:Chain} {l:LV} (ho:Opnd β s ρ x) (hh:holds s ch) (he:ev s ch x=some l):ρ x=LVal β l:=by
  cases x with
  | tmp t=>
    simp only [ev] at he
    split at he
    · rename_i l' c hf
      cases hs:sufx c ch with
      | false=>simp [hs] at he
      | true=>
        simp only [hs,cond_true] at he
        cases he
        exact ho l c hf (zbd1 hs hh)
    · cases he
  | const v=>cases he;exact ho
  | global g=>cases he;exact ho
  | func f=>cases he;exact ho
theorem zdi2 {l:Option LV} {K:LV→Prop} (h:onL l K):∃x,l=some x∧K x:=by
  cases l with
  | none=>exact h.elim
  | some x=>exact ⟨x,rfl,h⟩
theorem zbh {l:Option LV} {K:Value→Prop} (h:onV l K):∃x,l=some (.v x)∧K x:=by
  cases l with
  | none=>exact h.elim
  | some x=>cases x<;>first | exact ⟨_,rfl,h⟩ | exact h.elim
theorem zue {l:Option (List Value)} {K:List Value→Prop} (h:onVs l K):∃x,l=some x∧K x:=by
  cases l with
  | none=>exact h.elim
  | some x=>exact ⟨x,rfl,h⟩
def BoxU (β:Nat→Nat) (s:St) (o:Oper) (w:World):Prop:=
  ∀t,Operand.tmp t∈o.op.operands→∀k off c,(s.f t=some (.box k off,c)∨s.f t=some (.boxd k off,c))→holds s c→∀cs,s.m k=some cs→∃ct,w.heap[β k]?=some (.cells cs.toArray ct (0,0))
theorem zjx1 {s:St} {ch:Chain} {x:Operand} {l:LV} (he:ev s ch x=some l) (hl:∀v,l≠ .v v) (hh:holds s ch):∃t c,x=.tmp t∧s.f t=some (l,c)∧holds s c:=by
  cases x with
  | tmp t=>
    simp only [ev] at he
    split at he
    · rename_i l' c hf
      cases hs:sufx c ch with
      | false=>simp [hs] at he
      | true=>
        simp only [hs,cond_true] at he
        cases he
        exact ⟨t,c,rfl,hf,zbd1 hs hh⟩
    · cases he
  | const v=>cases he;exact absurd rfl (hl _)
  | global g=>cases he;exact absurd rfl (hl _)
  | func f=>cases he;exact absurd rfl (hl _)
theorem BoxU.box {β:Nat→Nat} {s:St} {o:Oper} {w:World} (hb:BoxU β s o w) {ch:Chain} {x:Operand} {k off:Nat} (hx:x∈o.op.operands) (he:ev s ch x=some (.box k off)) (hh:holds s ch)
    {cs:List Value} (hm:s.m k=some cs):∃ct,w.heap[β k]?=some (.cells cs.toArray ct (0,0)):=by
  obtain ⟨t,c,rfl,hf,hc⟩:=zjx1 he (by simp) hh
  exact hb t hx k off c (.inl hf) hc cs hm
theorem BoxU.boxd {β:Nat→Nat} {s:St} {o:Oper} {w:World} (hb:BoxU β s o w) {ch:Chain} {x:Operand} {k off:Nat} (hx:x∈o.op.operands) (he:ev s ch x=some (.boxd k off)) (hh:holds s ch)
    {cs:List Value} (hm:s.m k=some cs):∃ct,w.heap[β k]?=some (.cells cs.toArray ct (0,0)):=by
  obtain ⟨t,c,rfl,hf,hc⟩:=zjx1 he (by simp) hh
  exact hb t hx k off c (.inr hf) hc cs hm
def RunsK (kd:Kd) (P:Program) (o:Oper) (s:St) (h:Hp) (l:LV):Prop:=
  ∀(β:Nat→Nat) (ρ:Operand→Value) (w:World),(∀x∈o.op.operands,Opnd β s ρ x)→(kd=.mem→Sub h w)→(kd≠ .pure→BoxU β s o w)→
    ∃w',(execOp ρ o).run P w=.ok (.value (LVal β l)) w'∧(kd≠ .mem→w'=w)∧(kd=.mem→Step h h w w')
theorem zfl {α:Type _}:∀(l:List α) (i:Nat),nth l i=l[i]?
  | [],_=>by simp [nth]
  | a::l,0=>by simp [nth]
  | a::l,n+1=>by simp [nth,zfl l n]
theorem zvo1 {α:Type _}:∀(l:List α) (i:Nat),dropL l i=l.drop i
  | l,0=>by simp [dropL]
  | [],n+1=>by simp [dropL]
  | a::l,n+1=>by simp [dropL,zvo1 l n]
theorem zvp1 {α:Type _}:∀(l:List α) (i:Nat),takeL l i=l.take i
  | l,0=>by simp [takeL]
  | [],n+1=>by simp [takeL]
  | a::l,n+1=>by simp [takeL,zvp1 l n]
theorem zmg1 {α:Type _}:∀(l r:List α),app l r=l++r
  | [],r=>rfl
  | a::l,r=>by simp [app,zmg1 l r]
theorem zmk :∀(l:List Nat) (i:Nat),has l i=true↔i∈l
  | [],i=>by simp [has]
  | a::l,i=>by
    simp only [has]
    cases h:Nat.beq i a with
    | true=>simp [Nat.eq_of_beq_eq_true h]
    | false=>
      have:i≠a:=fun e=>by rw [e] at h;simp at h
      simp [zmk l i,this]
theorem zrm {l:List Nat} {i:Nat} (h:has l i=false):i∉l:=fun hm=>by rw [(zmk l i).2 hm] at h;cases h
section
variable {P:Program} {tb:Tb}
theorem run_underlying' (ok:tb.Ok P) {t:Nat} {e:Ty} (h:tb.ty t=some e) (w:World):(underlying t).run P w=.ok e.und w:=by
  simp [underlying,ok.und t e h]
theorem run_typeInfo' (ok:tb.Ok P) {t:Nat} {e:Ty} (h:tb.ty t=some e) (w:World):
    ∃i,(typeInfo t).run P w=.ok i w∧i.size=e.size∧i.bytes=e.bytes∧i.zero=some e.zero:=by
  obtain ⟨i,hi,h1,h2,h3⟩:=ok.info t e h
  exact ⟨i,by simp [typeInfo,hi],h1,h2,h3⟩
theorem run_sizeOf' (ok:tb.Ok P) {t:Nat} {e:Ty} (h:tb.ty t=some e) (w:World):(Go.sizeOf t).run P w=.ok e.size w:=by
  obtain ⟨i,hi,h1,h2,h3⟩:=run_typeInfo' ok h w
  simp only [Go.sizeOf,Sem.run_bind,hi,Result.andThen_ok,Sem.run_pure,h1]
theorem run_zeroValue' (ok:tb.Ok P) {t:Nat} {e:Ty} (h:tb.ty t=some e) (w:World):(zeroValue t).run P w=.ok e.zero w:=by
  obtain ⟨i,hi,h1,h2,h3⟩:=run_typeInfo' ok h w
  simp only [zeroValue,Sem.run_bind,hi,Result.andThen_ok,h3,Sem.run_pure]
theorem run_isAgg' (ok:tb.Ok P) {t:Nat} {e:Ty} (h:tb.ty t=some e) (w:World):(isAgg t).run P w=.ok (zjf e.und) w:=by
  simp only [isAgg,Sem.run_bind,run_underlying' ok h,Result.andThen_ok]
  cases e.und<;>rfl
theorem zbr (v:Value):v.cells.toList=zad v:=by cases v<;>rfl
theorem zuf {w:World} {a:Addr}:∀(n i:Nat) (acc:Array Value) (cs:List Value),cs.length=n→
    (∀j v,cs[j]?=some v→w.cell? (a.add (i+j))=some v)→(loadCellsFrom a i n acc).run P w=.ok (acc++cs.toArray) w
  | 0,i,acc,cs,hl,_=>by
    have:cs=[]:=List.length_eq_zero_iff.1 hl
    subst this;simp [loadCellsFrom]
  | n+1,i,acc,[],hl,_=>by simp at hl
  | n+1,i,acc,c::cs,hl,hc=>by
    have h0:w.cell? (a.add i)=some c:=by simpa using hc 0 c (by simp)
    have ih:=zuf n (i+1) (acc.push c) cs (by simpa using hl) (fun j v hj=>by
      have:=hc (j+1) v (by simpa using hj)
      rwa [show i+1+j=i+(j+1) from by omega])
    simp only [loadCellsFrom,Sem.run_bind,run_load,h0,Result.andThen_ok,ih]
    congr 1
    simp
theorem zwl {w:World} {a:Addr} {cs:List Value} (hc:∀j v,cs[j]?=some v→w.cell? (a.add j)=some v):(loadCells a cs.length).run P w=.ok cs.toArray w:=by
  unfold loadCells
  rw [zuf cs.length 0 #[] cs rfl (by simpa using hc)]
  simp
theorem zwm (ok:tb.Ok P) {t:Nat} {e:Ty} (h:tb.ty t=some e) {w:World} {a:Addr} {x:e.sh.T}
    (hc:∀j v,(zad (e.sh.enc x))[j]?=some v→w.cell? (a.add j)=some v):(loadVar t a).run P w=.ok (e.sh.enc x) w:=by
  simp only [loadVar,Sem.run_bind,run_isAgg' ok h,Result.andThen_ok]
  cases ha:zjf e.und with
  | true=>
    obtain ⟨cs,he,hs⟩:=ok.agg t e h ha x
    simp only [if_true,Sem.run_bind,run_sizeOf' ok h,Result.andThen_ok]
    have hl:cs.toList.length=e.size:=by simpa using hs
    have hc':∀j v,cs.toList[j]?=some v→w.cell? (a.add j)=some v:=by simpa [he,zad] using hc
    rw [←hl,zwl hc']
    simp [he]
  | false=>
    obtain ⟨h1,h2⟩:=ok.leaf t e h ha
    have hne:=(h2 x).2
    have hcl:zad (e.sh.enc x)=[e.sh.enc x]:=by
      generalize e.sh.enc x=v at hne
      cases v<;>first | rfl | exact absurd rfl (hne _)
    have:=hc 0 (e.sh.enc x) (by simp [hcl])
    have h0:a.add 0=a:=by simp [Addr.add]
    rw [h0] at this
    simp [this]
theorem zae1 (a:Addr) (i j:Nat):(a.add i).add j=a.add (i+j):=by
  unfold Addr.add
  by_cases hi:i=0
  · simp [hi]
  · by_cases hj:j=0
    · simp [hj]
    · simp [hi,hj,Nat.add_assoc]
theorem zdh (b o i:Nat):(⟨b,o,none⟩:Addr).add i=⟨b,o+i,none⟩:=by
  unfold Addr.add
  by_cases h:i=0
  · simp [h]
  · simp [h]
theorem zop1 {w:World} {b t:Nat} {cs:List Value} (hb:w.heap[b]?=some (.cells cs.toArray t (0,0))) (i:Nat):w.cell? ⟨b,i,none⟩=cs[i]?:=by
  unfold World.cell?
  simp [hb]
end
end Lf

namespace Lf
open Go
section
variable {P:Program} {tb:Tb}
def Prov (o:Oper) (ch:Chain) (s:St) (l:LV):Prop:=
  ∀k off,(l=.box k off∨l=.boxd k off)→∃x∈o.op.operands,∃off',ev s ch x=some (.box k off')∨ev s ch x=some (.boxd k off')
theorem zqk1 (o:Oper) (ch:Chain) (s:St) (v:Value):Prov o ch s (.v v):=fun _ _ e=>by rcases e with e | e<;>cases e
theorem zta1 {o:Oper} {ch:Chain} {s:St} {l:LV} {x:Operand} (hx:x∈o.op.operands) (he:ev s ch x=some l):Prov o ch s l:=fun k off e=>
  ⟨x,hx,off,by rcases e with e | e<;>simp [he,e]⟩
theorem zvq1 {o:Oper} {ch:Chain} {s:St} {l:LV} {x:Operand} {k off:Nat} (hx:x∈o.op.operands) (he:ev s ch x=some (.box k off))
    (hl:∀k' off',(l=.box k' off'∨l=.boxd k' off')→k'=k):Prov o ch s l:=fun k' off' e=>⟨x,hx,off,.inl (by rw [hl k' off' e];exact he)⟩
theorem zzn1 {o:Oper} {ch:Chain} {s:St} {l:LV} {x:Operand} {k off:Nat} (hx:x∈o.op.operands) (he:ev s ch x=some (.boxd k off))
    (hl:∀k' off',(l=.box k' off'∨l=.boxd k' off')→k'=k):Prov o ch s l:=fun k' off' e=>⟨x,hx,off,.inr (by rw [hl k' off' e];exact he)⟩
def ValOk (P:Program) (tb:Tb) (o:Oper) (ch:Chain) (s:St) (h:Hp) (K:LV→Prop):Prop:=
  ∃l,K l∧(holds s ch→RunsK (kindD tb o ch s) P o s h l)∧Prov o ch s l
theorem zau {o:Oper} {ch:Chain} {s:St} {h:Hp} {K:LV→Prop} (l:LV) (hk:K l)
    (hr:holds s ch→∀(β:Nat→Nat) (ρ:Operand→Value) (w:World),(∀x∈o.op.operands,Opnd β s ρ x)→
      (execOp ρ o).run P w=.ok (.value (LVal β l)) w)
    (hp:Prov o ch s l:=by exact zqk1 _ _ _ _):ValOk P tb o ch s h K:=
  ⟨l,hk,fun hh β ρ w ho hs hb=>⟨w,hr hh β ρ w ho,fun _=>rfl,fun e=>.refl (hs e)⟩,hp⟩
theorem zql1 {o:Oper} {ch:Chain} {s:St} {h:Hp} {K:LV→Prop} (hkd:kindD tb o ch s=.box) (l:LV) (hk:K l)
    (hr:holds s ch→∀(β:Nat→Nat) (ρ:Operand→Value) (w:World),(∀x∈o.op.operands,Opnd β s ρ x)→BoxU β s o w→
      (execOp ρ o).run P w=.ok (.value (LVal β l)) w)
    (hp:Prov o ch s l:=by exact zqk1 _ _ _ _):ValOk P tb o ch s h K:=
  ⟨l,hk,fun hh β ρ w ho hs hb=>⟨w,hr hh β ρ w ho (hb (by rw [hkd];simp)),fun _=>rfl,fun e=>.refl (hs e)⟩,hp⟩
theorem zjy1 {o:Oper} {ch:Chain} {s:St} {h:Hp} {K:LV→Prop} (hkd:kindD tb o ch s=.mem) (l:LV) (hk:K l)
    (hr:holds s ch→∀(β:Nat→Nat) (ρ:Operand→Value) (w:World),(∀x∈o.op.operands,Opnd β s ρ x)→Sub h w→
      (execOp ρ o).run P w=.ok (.value (LVal β l)) w)
    (hp:Prov o ch s l:=by exact zqk1 _ _ _ _):ValOk P tb o ch s h K:=
  ⟨l,hk,fun hh β ρ w ho hs hb=>⟨w,hr hh β ρ w ho (hs hkd),fun _=>rfl,fun e=>.refl (hs e)⟩,hp⟩
theorem zjz1 {s:Sem Value} {h:Hp} {v:Value} (hi:SemIs P s h v) {w:World} (hs:Sub h w):∃w',s.run P w=.ok v w'∧Step h h w w':=hi w hs
theorem zef1 {o:Oper} {ch:Chain} {s:St} {h:Hp} {K:LV→Prop} {t:Nat} {sem:Sem Value} (hkd:kindD tb o ch s=.mem) (hg:genV (cnd s ch) P tb t sem h K)
    (hx:holds s ch→∀(β:Nat→Nat) (ρ:Operand→Value),(∀x∈o.op.operands,Opnd β s ρ x)→∀(w w':World) (v:Value),sem.run P w=.ok v w'→(execOp ρ o).run P w=.ok (.value v) w'):
    ValOk P tb o ch s h K:=by
  unfold genV at hg
  split at hg
  · rename_i e he
    obtain ⟨x,hx1,hk⟩:=hg
    refine ⟨_,hk,fun hh β ρ w ho hs hb=> ?_,zqk1 _ _ _ _⟩
    obtain ⟨w',hr,hst⟩:=zjz1 (zel hx1 hh) (hs hkd)
    exact ⟨w',hx hh β ρ ho w w' _ hr,fun e=>absurd hkd e,fun _=>hst⟩
  · exact hg.elim
theorem zvr1 {o:Oper} {ch:Chain} {s:St} {h:Hp} {K:LV→Prop} {x:Operand} (hop:o.op=.move x∨o.op=.assign x) (hv:onL (ev s ch x) K):ValOk P tb o ch s h K:=by
  obtain ⟨l,he,hk⟩:=zdi2 hv
  refine zau l hk (fun hh β ρ w ho=> ?_) (zta1 (by rcases hop with h | h<;>simp [h,Op.operands]) he)
  have hx:ρ x=LVal β l:=ev_ok (ho x (by rcases hop with h | h<;>simp [h,Op.operands])) hh he
  rcases hop with h | h<;>simp [execOp,h,hx]
theorem zdd1 {t:Nat} {w:World} {a b:Bool} (hu:(underlying t).run P w=.ok .bool w):(Op.equal t (.bool a) (.bool b)).run P w=.ok (a==b) w:=by
  have key:∀d,(Op.equalIn (d+1) t (.bool a) (.bool b)).run P w=.ok (a==b) w:=by
    intro d
    unfold Op.equalIn
    simp only [Sem.run_bind,hu,Result.andThen_ok,Sem.run_pure]
  exact key 9999
theorem zgb1 {t elem:Nat} {w:World} {p:Option Addr} (hu:(underlying t).run P w=.ok (.pointer elem) w):(Op.equal t (.pointer p) (.pointer none)).run P w=.ok p.isNone w:=by
  have key:∀d,(Op.equalIn (d+1) t (.pointer p) (.pointer none)).run P w=.ok p.isNone w:=by
    intro d
    unfold Op.equalIn
    simp only [Sem.run_bind,hu,Result.andThen_ok]
    cases p<;>simp only [Sem.run_pure]<;>rfl
  exact key 9999
set_option maxHeartbeats 800000 in
theorem zvs1 (ok:tb.Ok P) {o:Oper} {ch:Chain} {s:St} {h:Hp} {K:LV→Prop} {op:BinOp} {t yt:Nat} {x y:Operand} (hop:o.op=.binOp op t x y yt)
    (hv:onV (ev s ch x) fun a=>onV (ev s ch y) fun b=>binW0 (cnd s ch) P tb op t x y o.type a b h K):ValOk P tb o ch s h K:=by
  obtain ⟨a,hea,hv'⟩:=zbh hv
  clear hv
  obtain ⟨b,heb,hv⟩:=zbh hv'
  clear hv'
  have hρ:holds s ch→∀(β:Nat→Nat) (ρ:Operand→Value),(∀x∈o.op.operands,Opnd β s ρ x)→ρ x=a∧ρ y=b:=fun hh β ρ ho=>
    ⟨ev_ok (ho x (by simp [hop,Op.operands])) hh hea,ev_ok (ho y (by simp [hop,Op.operands])) hh heb⟩
  have hex:holds s ch→∀(β:Nat→Nat) (ρ:Operand→Value),(∀x∈o.op.operands,Opnd β s ρ x)→∀(w w':World) (v:Value),(binS op t x y a b).run P w=.ok v w'→
      (execOp ρ o).run P w=.ok (.value v) w':=by
    intro hh β ρ ho w w' v hr
    obtain ⟨ha,hb⟩:=hρ hh β ρ ho
    simp only [execOp,hop,ha,hb]
    change (binS op t x y a b>>=fun x=>pure (Next.value x)).run P w=_
    rw [Sem.run_bind,hr]
    rfl
  have gen:∀v:Value,K (.v v)→(holds s ch→∀w,(binS op t x y a b).run P w=.ok v w)→ValOk P tb o ch s h K:=fun v hk hr=>
    zau (.v v) hk fun hh β ρ w ho=>hex hh β ρ ho w w v (hr hh w)
  unfold binW0 at hv
  split at hv
  · -- numbers
    rename_i k m k' n
    have hgd:∀w:World,(eqGuard op t x y (.int k m) (.int k' n)).run P w=.ok () w:=fun w=>by unfold eqGuard;split<;>rfl
    split at hv
    · refine gen _ hv.2 fun hh w=> ?_
      have h0:=zel hv.1 hh
      simp only [binS,Sem.run_bind,hgd,Result.andThen_ok]
      simp [binOp,Op.shift,shlI,Int.not_lt.2 h0]
    · refine gen _ hv.2 fun hh w=> ?_
      have h0:=zel hv.1 hh
      simp only [binS,Sem.run_bind,hgd,Result.andThen_ok]
      simp [binOp,Op.shift,shrI,Int.not_lt.2 h0]
    · cases hk:kEq k k' with
      | false=>simp [hk] at hv
      | true=>
        have hkk:=zfn2 hk
        subst hkk
        simp only [hk,cond_true] at hv
        cases op<;>simp only [intW] at hv<;>
          first
          | exact hv.elim
          | exact gen _ hv fun _ w=>by simp only [binS,Sem.run_bind,hgd,Result.andThen_ok];simp [binOp,Op.intArith,Op.intCmp,Op.intBits,bitsI]
          | exact gen _ hv.2 fun hh w=>by
              have h0:=zel hv.1 hh
              simp only [binS,Sem.run_bind,hgd,Result.andThen_ok]
              simp [binOp,Op.intDiv,h0]
  · -- truths
    rename_i m n
    split at hv
    · rename_i e he
      have hgd:∀w:World,(eqGuard op t x y (.bool m) (.bool n)).run P w=.ok () w:=fun w=>by unfold eqGuard;split<;>rfl
      have hu:=fun w=>run_underlying' ok he w
      split at hv
      · rename_i heu
        refine gen _ hv fun _ w=> ?_
        simp only [binS,Sem.run_bind,hgd,Result.andThen_ok,binOp,zdd1 (heu▸hu w),Sem.run_pure]
      · rename_i heu
        refine gen _ hv fun _ w=> ?_
        simp only [binS,Sem.run_bind,hgd,Result.andThen_ok,binOp,zdd1 (heu▸hu w),Sem.run_pure]
      · exact hv.elim
    · exact hv.elim
  · -- texts
    rename_i m n
    have hgd:∀w:World,(eqGuard op t x y (.string m) (.string n)).run P w=.ok () w:=fun w=>by unfold eqGuard;split<;>rfl
    split at hv
    · exact gen _ hv fun _ w=>by simp only [binS,Sem.run_bind,hgd,Result.andThen_ok];simp [binOp,Op.stringOp]
    · exact gen _ hv fun _ w=>by simp only [binS,Sem.run_bind,hgd,Result.andThen_ok];simp [binOp,Op.stringOp]
    · refine gen _ hv.2 fun hh w=> ?_
      have h0:=zel hv.1 hh
      simp only [binS,Sem.run_bind,hgd,Result.andThen_ok]
      have h1:¬(((m.size+n.size:Nat):Int)>IntKind.i64.max):=by
        have:IntKind.i64.max=9223372036854775807:=by decide
        rw [this];omega
      simp only [binOp,Op.stringOp,if_neg h1,Sem.run_pure]
    · exact zef1 (by simp_all [kindD]) hv fun hh β ρ ho w w' v hr=>hex hh β ρ ho w w' v hr
  · -- pointers
    rename_i p q
    cases hn:zdj1 y with
    | false=>
      simp only [hn,cond_false] at hv
      exact zef1 (by simp_all [kindD]) hv fun hh β ρ ho w w' v hr=>hex hh β ρ ho w w' v hr
    | true=>
      simp only [hn,cond_true] at hv
      split at hv
      · rename_i e he
        split at hv
        · rename_i elem heu
          have hq:q=none:=by
            cases y with
            | const v=>
              simp only [ev] at heb
              cases heb
              cases q with
              | none=>rfl
              | some _=>simp [zdj1] at hn
            | tmp _=>simp [zdj1] at hn
            | global _=>simp [zdj1] at hn
            | func _=>simp [zdj1] at hn
          subst hq
          have hgd:∀w:World,(eqGuard op t x y (.pointer p) (.pointer none)).run P w=.ok () w:=fun w=>by unfold eqGuard;split<;>rfl
          have hu:=fun w=>run_underlying' ok he w
          unfold nilW at hv
          split at hv
          · refine gen _ hv fun _ w=> ?_
            simp only [binS,Sem.run_bind,hgd,Result.andThen_ok,binOp,zgb1 (heu▸hu w),Sem.run_pure]
          · refine gen _ hv fun _ w=> ?_
            simp only [binS,Sem.run_bind,hgd,Result.andThen_ok,binOp,zgb1 (heu▸hu w),Sem.run_pure]
          · exact hv.elim
        · exact hv.elim
      · exact hv.elim
  · rename_i n1 n2 n3 n4
    have hkd:kindD tb o ch s=.mem:=by
      unfold kindD
      rw [hop]
      simp only [hea,heb]
      split
      · rename_i e1 e2;cases e1;cases e2;exact absurd rfl (n1 _ _ _ _ rfl)
      · rename_i e1 e2;cases e1;cases e2;exact absurd rfl (n2 _ _ rfl)
      · rename_i e1 e2;cases e1;cases e2;exact absurd rfl (n3 _ _ rfl)
      · rename_i e1 e2;cases e1;cases e2;exact absurd rfl (n4 _ _ rfl)
      · rfl
    exact zef1 hkd hv fun hh β ρ ho w w' v hr=>hex hh β ρ ho w w' v hr
theorem zic1 {t:Nat} {w:World} {ms} {a:Value} (ha:isIfV a=true) (hu:(underlying t).run P w=.ok (.interface ms) w):(Op.equal t a .nilIface).run P w=.ok (ztx a) w:=by
  have key:∀d,(Op.equalIn (d+1) t a .nilIface).run P w=.ok (ztx a) w:=by
    intro d
    unfold Op.equalIn
    simp only [Sem.run_bind,hu,Result.andThen_ok]
    cases a<;>first | rfl | cases ha
  exact key 9999
theorem ztb1 {a:Value} (ha:isIfV a=true):a=.nilIface∨∃t v,a=.iface t v:=by
  cases a<;>first | exact .inl rfl | exact .inr ⟨_,_,rfl⟩ | cases ha
theorem zgh2 (ok:tb.Ok P) {o:Oper} {ch:Chain} {s:St} {h:Hp} {K:LV→Prop} {op:BinOp} {t yt:Nat} {x y:Operand} (hop:o.op=.binOp op t x y yt)
    (hv:onV (ev s ch x) fun a=>onV (ev s ch y) fun b=>binW (cnd s ch) P tb op t x y o.type a b h K):ValOk P tb o ch s h K:=by
  cases hn:zsp1 y with
  | false=>
    refine zvs1 ok hop ?_
    simpa only [binW,hn,cond_false] using hv
  | true=>
    cases hi:isIfD tb t with
    | false=>
      refine zvs1 ok hop ?_
      simpa only [binW,hn,hi,cond_false,cond_true] using hv
    | true=>
      obtain ⟨a,hea,hv'⟩:=zbh hv
      clear hv
      obtain ⟨b,heb,hv⟩:=zbh hv'
      clear hv'
      simp only [binW,hn,hi,cond_true] at hv
      obtain ⟨hif,hv⟩:=hv
      have hy:y=.const .nilIface:=by
        unfold zsp1 at hn
        split at hn
        · rfl
        · cases hn
      subst hy
      have hb:b=.nilIface:=by
        simp only [ev] at heb
        cases heb
        rfl
      subst hb
      have hex:holds s ch→∀(β:Nat→Nat) (ρ:Operand→Value),(∀x∈o.op.operands,Opnd β s ρ x)→∀(w w':World) (v:Value),(binS op t x (.const .nilIface) a .nilIface).run P w=.ok v w'→
          (execOp ρ o).run P w=.ok (.value v) w':=by
        intro hh β ρ ho w w' v hr
        have ha:ρ x=a:=ev_ok (ho x (by simp [hop,Op.operands])) hh hea
        have hb:ρ (.const .nilIface)=.nilIface:=ev_ok (ho (.const .nilIface) (by simp [hop,Op.operands])) hh heb
        simp only [execOp,hop,ha,hb]
        change (binS op t x (.const .nilIface) a .nilIface>>=fun x=>pure (Next.value x)).run P w=_
        rw [Sem.run_bind,hr]
        rfl
      have gen:∀v:Value,K (.v v)→(holds s ch→∀w,(binS op t x (.const .nilIface) a .nilIface).run P w=.ok v w)→ValOk P tb o ch s h K:=fun v hk hr=>
        zau (.v v) hk fun hh β ρ w ho=>hex hh β ρ ho w w v (hr hh w)
      unfold isIfD at hi
      split at hi
      · rename_i e he
        split at hi
        · rename_i ms heu
          have hu:=fun w=>run_underlying' ok he w
          have hgd:isIfV a=true→∀w:World,(eqGuard op t x (.const .nilIface) a .nilIface).run P w=.ok () w:=fun ha w=>by
            unfold eqGuard
            rcases ztb1 ha with rfl | ⟨_,_,rfl⟩<;>cases op<;>first | rfl | (cases x<;>rfl)
          have hbo:isIfV a=true→op=.eql→∀w:World,(binOp op t a .nilIface).run P w=.ok (.bool (ztx a)) w:=fun ha ho w=>by
            subst ho
            rcases ztb1 ha with rfl | ⟨_,_,rfl⟩<;>simp only [binOp,Sem.run_bind,zic1 (P:=P) ha (heu▸hu w),Result.andThen_ok,Sem.run_pure]
          have hbn:isIfV a=true→op=.neq→∀w:World,(binOp op t a .nilIface).run P w=.ok (.bool (!ztx a)) w:=fun ha ho w=>by
            subst ho
            rcases ztb1 ha with rfl | ⟨_,_,rfl⟩<;>simp only [binOp,Sem.run_bind,zic1 (P:=P) ha (heu▸hu w),Result.andThen_ok,Sem.run_pure]
          unfold nilW at hv
          split at hv
          · refine gen _ hv fun hh w=> ?_
            have ha:=zel hif hh
            simp only [binS,Sem.run_bind,hgd ha,Result.andThen_ok,hbo ha rfl]
          · refine gen _ hv fun hh w=> ?_
            have ha:=zel hif hh
            simp only [binS,Sem.run_bind,hgd ha,Result.andThen_ok,hbn ha rfl]
          · exact hv.elim
        · cases hi
      · cases hi
end
end Lf

namespace Lf
open Go
section
variable {P:Program} {tb:Tb} {o:Oper} {ch:Chain} {s:St} {h:Hp} {K:LV→Prop}
theorem zwn {β:Nat→Nat} {ρ:Operand→Value} (hh:holds s ch):∀ {l:List Operand} {vs:List Value},vals s ch l=some vs→(∀x∈l,Opnd β s ρ x)→l.map ρ=vs
  | [],vs,h,_=>by cases h;rfl
  | x::l,vs,h,ho=>by
    simp only [vals] at h
    split at h
    · rename_i v r hv hr
      cases h
      simp only [List.map_cons]
      rw [ev_ok (ho x (List.mem_cons_self ..)) hh hv,zwn hh hr fun y hy=>ho y (List.mem_cons_of_mem _ hy)]
      rfl
    · cases h
theorem zoq1 {β:Nat→Nat} {ρ:Operand→Value} (hh:holds s ch):∀ {l:List (Nat×Operand)} {vs:List (Nat×Value)},pairs s ch l=some vs→(∀x∈l.map (·.2),Opnd β s ρ x)→
    l.map (fun p=>(p.1,ρ p.2))=vs
  | [],vs,h,_=>by cases h;rfl
  | (i,x)::l,vs,h,ho=>by
    simp only [pairs] at h
    split at h
    · rename_i v r hv hr
      cases h
      simp only [List.map_cons]
      rw [ev_ok (ho x (by simp)) hh hv,zoq1 hh hr fun y hy=>ho y (by simp at hy ⊢;exact .inr hy)]
      rfl
    · cases h
theorem zqm1 {β:Nat→Nat} {ρ:Operand→Value} {x:Operand} {t:Nat} {w:Bool} {l:LV} (ho:Opnd β s ρ x) (hh:holds s ch) (hb':hb s t=some w)
    (he:zvh1 s ch t w x=some l):ρ x=LVal β l:=by
  cases x with
  | tmp u=>
    simp only [zvh1] at he
    split at he
    · rename_i l' c hf
      cases hs:sufx c ((t,w)::ch) with
      | false=>simp [hs] at he
      | true=>
        simp only [hs,cond_true] at he
        cases he
        refine ho l c hf (zbd1 hs fun p hp=> ?_)
        rcases List.mem_cons.1 hp with rfl | hp
        · exact hb'
        · exact hh p hp
    · cases he
  | const v=>cases he;exact ho
  | global g=>cases he
  | func f=>cases he
theorem zdj2 {x a b:Operand} (hop:o.op=.pick x a b) (hv:pickW s ch x a b K):ValOk P tb o ch s h K:=by
  unfold pickW at hv
  split at hv
  · rename_i t
    split at hv
    · rename_i p c0 hf
      cases hs:sufx c0 ch with
      | false=>simp [hs] at hv
      | true=>
        simp only [hs,cond_true] at hv
        have hbp:hb s t=some p:=by simp [hb,hf]
        have hx:holds s ch→∀(β:Nat→Nat) (ρ:Operand→Value),(∀x∈o.op.operands,Opnd β s ρ x)→ρ (.tmp t)=.bool p:=fun hh β ρ ho=>
          ho (.tmp t) (by simp [hop,Op.operands]) _ _ hf (zbd1 hs hh)
        have run:∀(ρ:Operand→Value) (w:World),ρ (.tmp t)=.bool p→(execOp ρ o).run P w=.ok (.value (if p=true then ρ a else ρ b)) w:=by
          intro ρ w hp
          simp only [execOp,hop,hp,asBool,Sem.run_bind,Sem.run_pure,Result.andThen_ok]
        split at hv
        · rename_i u
          obtain ⟨v,hev,hv⟩:=zbh hv
          split at hv
          · rename_i q
            refine zau (.v (.bool (p&&q))) (hv _ rfl) fun hh β ρ w ho=> ?_
            rw [run ρ w (hx hh β ρ ho)]
            cases hp:p with
            | true=>
              have:=zqm1 (ho (.tmp u) (by simp [hop,Op.operands])) hh (hp▸hbp) hev
              simp [this,LVal]
            | false=>
              have:ρ (.const (.bool false))=.bool false:=ho (.const (.bool false)) (by simp [hop,Op.operands])
              simp [this,LVal]
          · exact hv.elim
        · rename_i u
          obtain ⟨v,hev,hv⟩:=zbh hv
          split at hv
          · rename_i q
            refine zau (.v (.bool (p || q))) (hv _ rfl) fun hh β ρ w ho=> ?_
            rw [run ρ w (hx hh β ρ ho)]
            cases hp:p with
            | false=>
              have:=zqm1 (ho (.tmp u) (by simp [hop,Op.operands])) hh (hp▸hbp) hev
              simp [this,LVal]
            | true=>
              have:ρ (.const (.bool true))=.bool true:=ho (.const (.bool true)) (by simp [hop,Op.operands])
              simp [this,LVal]
          · exact hv.elim
        · refine zau _ hv fun hh β ρ w ho=> ?_
          rw [run ρ w (hx hh β ρ ho)]
          have h1:ρ (.const (.bool true))=.bool true:=ho (.const (.bool true)) (by simp [hop,Op.operands])
          have h2:ρ (.const (.bool false))=.bool false:=ho (.const (.bool false)) (by simp [hop,Op.operands])
          cases p<;>simp [h1,h2,LVal]
        · rename_i u v _
          refine zau _ hv fun hh β ρ w ho=> ?_
          rw [run ρ w (hx hh β ρ ho)]
          have h1:ρ (.const (.bool u))=.bool u:=ho (.const (.bool u)) (by simp [hop,Op.operands])
          have h2:ρ (.const (.bool v))=.bool v:=ho (.const (.bool v)) (by simp [hop,Op.operands])
          cases p<;>simp [h1,h2,LVal]
        · exact hv.elim
    · exact hv.elim
  · exact hv.elim
theorem ztc1 {x:Operand} {i:Nat} (hop:o.op=.extract x i) (hv:onV (ev s ch x) fun v=>match v with
    | .tuple vs=>match nth vs.toList i with
      | some y=>K (.v y)
      | none=>False
    | _=>False):ValOk P tb o ch s h K:=by
  obtain ⟨v,he,hv'⟩:=zbh hv
  clear hv
  split at hv'
  · rename_i vs
    split at hv'
    · rename_i y hy
      refine zau (.v y) hv' fun hh β ρ w ho=> ?_
      have hx:=ev_ok (ho x (by simp [hop,Op.operands])) hh he
      have:vs[i]?=some y:=by rw [zfl] at hy;simpa using hy
      simp only [execOp,hop,hx,LVal,Instr.extract,this,Sem.run_bind,Sem.run_pure,Result.andThen_ok]
    · exact hv'.elim
  · exact hv'.elim
theorem zid2 {op:UnOp} {t:Nat} {x:Operand} (hop:o.op=.unOp op t x) (hv:onV (ev s ch x) fun a=>unW op a K):ValOk P tb o ch s h K:=by
  obtain ⟨v,he,hv'⟩:=zbh hv
  clear hv
  unfold unW at hv'
  split at hv'<;>
    first
    | exact hv'.elim
    | refine zau _ hv' fun hh β ρ w ho=> ?_
      have hx:=ev_ok (ho x (by simp [hop,Op.operands])) hh he
      simp [execOp,hop,hx,LVal,Op.unary,Op.intArith,Op.intBits,bitsI]
theorem zgi2 {x:Operand} (hop:o.op=.nilCheck x) (hv:match ev s ch x with
    | some (.v (.pointer p))=>NilW (cnd s ch) p fun a=>K (.v (.pointer (some a)))
    | some (.box k off)=>K (.box k off)
    | some (.boxd k off)=>K (.boxd k off)
    | _=>False):ValOk P tb o ch s h K:=by
  split at hv
  · rename_i p he
    obtain ⟨a,hr,hk⟩:=hv
    refine zau _ hk fun hh β ρ w ho=> ?_
    have hx:=ev_ok (ho x (by simp [hop,Op.operands])) hh he
    have hp:=zel hr hh
    subst hp
    simp [execOp,hop,hx,LVal]
  · rename_i k off he
    refine zau _ hv (fun hh β ρ w ho=> ?_) (zta1 (by simp [hop,Op.operands]) he)
    have hx:=ev_ok (ho x (by simp [hop,Op.operands])) hh he
    simp [execOp,hop,hx,LVal]
  · rename_i k off he
    refine zau _ hv (fun hh β ρ w ho=> ?_) (zta1 (by simp [hop,Op.operands]) he)
    have hx:=ev_ok (ho x (by simp [hop,Op.operands])) hh he
    simp [execOp,hop,hx,LVal]
  · exact hv.elim
theorem zmh1 {t:Nat} {cs:List Value} {off:Nat} (hv:partW tb t cs off K):
    ∃e v,tb.ty t=some e∧K (.v v)∧((zjf e.und=true∧v=.agg ((cs.drop off).take e.size).toArray∧off+e.size≤cs.length)∨(zjf e.und=false∧cs[off]?=some v)):=by
  unfold partW at hv
  split at hv
  · rename_i e he
    cases ha:zjf e.und with
    | true=>
      simp only [ha,cond_true,zvo1,zvp1] at hv
      cases hl:Nat.ble (off+e.size) cs.length with
      | false=>simp [hl] at hv
      | true=>
        simp only [hl,cond_true] at hv
        exact ⟨e,_,he,hv,.inl ⟨ha,rfl,Nat.le_of_ble_eq_true hl⟩⟩
    | false=>
      simp only [ha,cond_false,zfl] at hv
      split at hv
      · rename_i v hc
        exact ⟨e,v,he,hv,.inr ⟨ha,hc⟩⟩
      · exact hv.elim
  · exact hv.elim
theorem zka1 (ok:tb.Ok P) {t:Nat} {cs:List Value} {off b ct:Nat} {e:Ty} {v:Value} {w:World} (he:tb.ty t=some e)
    (hv:(zjf e.und=true∧v=.agg ((cs.drop off).take e.size).toArray∧off+e.size≤cs.length)∨(zjf e.und=false∧cs[off]?=some v))
    (hb:w.heap[b]?=some (.cells cs.toArray ct (0,0))):(loadVar t ⟨b,off,none⟩).run P w=.ok v w:=by
  simp only [loadVar,Sem.run_bind,run_isAgg' ok he,Result.andThen_ok]
  rcases hv with ⟨ha,hv,hl⟩ | ⟨ha,hv⟩
  · have hlen:((cs.drop off).take e.size).length=e.size:=by simp;omega
    have hc:∀j v,((cs.drop off).take e.size)[j]?=some v→w.cell? ((⟨b,off,none⟩:Addr).add j)=some v:=by
      intro j v hj
      rw [zdh,zop1 hb]
      rw [List.getElem?_take] at hj
      split at hj
      · simpa using hj
      · cases hj
    rw [ha]
    simp only [if_true,Sem.run_bind,run_sizeOf' ok he,Result.andThen_ok]
    conv=>lhs;rw [←hlen]
    rw [zwl hc]
    simp [hv]
  · have:=zop1 hb off
    rw [hv] at this
    simp [ha,this]
theorem zdk2 (ok:tb.Ok P) {t:Nat} {x:Operand} (hop:o.op=.load t x) (hv:match ev s ch x with
    | some (.v (.pointer (some a)))=>match tb.ty t with
      | some e=>LdW (cnd s ch) e.sh h a fun x=>K (.v (e.sh.enc x))
      | none=>False
    | some (.box k off)=>match s.m k with
      | some cs=>partW tb t cs off K
      | none=>False
    | some (.boxd k off)=>match s.m k,tb.ty t with
      | some cs,some e=>cond (zjf e.und) False (∃x,Req (cnd s ch) (cs[off]?=some (e.sh.enc x))∧K (.v (e.sh.enc x)))
      | _,_=>False
    | _=>False):ValOk P tb o ch s h K:=by
  have run:∀(ρ:Operand→Value) (w:World) (a:Addr) (v:Value),ρ x=.pointer (some a)→(loadVar t a).run P w=.ok v w→(execOp ρ o).run P w=.ok (.value v) w:=by
    intro ρ w a v hx hr
    simp only [execOp,hop,hx,Instr.loadAt,Instr.sureAddr,Sem.run_bind,Sem.run_pure,Result.andThen_ok,hr]
  split at hv
  · rename_i a he
    split at hv
    · rename_i e hte
      obtain ⟨y,hr,hk⟩:=hv
      refine zjy1 (by simp [kindD,hop,he]) _ hk fun hh β ρ w ho hs=> ?_
      have hx:=ev_ok (ho x (by simp [hop,Op.operands])) hh he
      exact run ρ w a _ hx (zwm ok hte fun j v hj=>zqu hs (zel hr hh j v hj))
    · exact hv.elim
  · rename_i k off he
    split at hv
    · rename_i cs hm
      obtain ⟨e,v,hte,hk,hc⟩:=zmh1 hv
      refine zql1 (by simp [kindD,hop,he]) _ hk fun hh β ρ w ho hb=> ?_
      have hx:=ev_ok (ho x (by simp [hop,Op.operands])) hh he
      obtain ⟨ct,hbk⟩:=hb.box (by simp [hop,Op.operands]) he hh hm
      exact run ρ w _ _ hx (zka1 ok hte hc hbk)
    · exact hv.elim
  · rename_i k off he
    split at hv
    · rename_i cs e hm hte
      cases ha:zjf e.und with
      | true=>simp [ha] at hv
      | false=>
        simp only [ha,cond_false] at hv
        obtain ⟨y,hr,hk⟩:=hv
        refine zql1 (by simp [kindD,hop,he]) _ hk fun hh β ρ w ho hb=> ?_
        have hx:=ev_ok (ho x (by simp [hop,Op.operands])) hh he
        obtain ⟨ct,hbk⟩:=hb.boxd (by simp [hop,Op.operands]) he hh hm
        exact run ρ w _ _ hx (zka1 ok hte (.inr ⟨ha,zel hr hh⟩) hbk)
    · exact hv.elim
  · exact hv.elim
theorem zqn1 {t i:Nat} {Q:Nat→Nat→Prop} (hv:znk1 tb t i Q):
    ∃e fs f g,tb.ty t=some e∧e.und=.struct fs∧fs[i]?=some f∧tb.ty f.type=some g∧g.size≠0∧Q f.offset g.size:=by
  unfold znk1 at hv
  split at hv
  · rename_i e he
    split at hv
    · rename_i fs hfs
      split at hv
      · rename_i f hf
        split at hv
        · rename_i g hg
          split at hv
          · exact hv.elim
          · rename_i n hn
            refine ⟨e,fs,f,g,he,hfs,by rw [zfl] at hf;simpa using hf,hg,by omega,hn▸hv⟩
        · exact hv.elim
      · exact hv.elim
    · exact hv.elim
  · exact hv.elim
theorem zor1 (ok:tb.Ok P) {t i:Nat} {x:Operand} (hop:o.op=.fieldAddr t x i) (hv:znk1 tb t i fun off _=>match ev s ch x with
    | some (.v (.pointer (some a)))=>K (.v (.pointer (some (a.add off))))
    | some (.box k o)=>K (.box k (o+off))
    | some (.boxd k o)=>K (.boxd k (o+off))
    | _=>False):ValOk P tb o ch s h K:=by
  obtain ⟨e,fs,f,g,he,hfs,hf,hg,hz,hq⟩:=zqn1 hv
  have run:∀(ρ:Operand→Value) (w:World) (a:Addr),ρ x=.pointer (some a)→(execOp ρ o).run P w=.ok (.value (.pointer (some (a.add f.offset)))) w:=by
    intro ρ w a hx
    have hu:=run_underlying' ok he w
    rw [hfs] at hu
    have hsz:=run_sizeOf' ok hg w
    simp only [execOp,hop,hx,Instr.fieldAt,Instr.sureAddr,Sem.run_bind,hu,Result.andThen_ok,hf,Sem.run_pure,fieldPlace,hsz,if_neg hz]
  split at hq
  · rename_i a hea
    refine zau _ hq fun hh β ρ w ho=> ?_
    exact run ρ w a (ev_ok (ho x (by simp [hop,Op.operands])) hh hea)
  · rename_i k o' hea
    refine zau _ hq (fun hh β ρ w ho=> ?_) (zvq1 (by simp [hop,Op.operands]) hea (by intro k' off' e;rcases e with e | e<;>cases e<;>rfl))
    rw [run ρ w _ (ev_ok (ho x (by simp [hop,Op.operands])) hh hea),zdh]
    rfl
  · rename_i k o' hea
    refine zau _ hq (fun hh β ρ w ho=> ?_) (zzn1 (by simp [hop,Op.operands]) hea (by intro k' off' e;rcases e with e | e<;>cases e<;>rfl))
    rw [run ρ w _ (ev_ok (ho x (by simp [hop,Op.operands])) hh hea),zdh]
    rfl
  · exact hq.elim
theorem zvt1 (ok:tb.Ok P) {t:Nat} {cs:List Value} {off:Nat} {e:Ty} {v:Value} {w:World} (he:tb.ty t=some e)
    (hv:(zjf e.und=true∧v=.agg ((cs.drop off).take e.size).toArray∧off+e.size≤cs.length)∨(zjf e.und=false∧cs[off]?=some v)):
    (part t cs.toArray off).run P w=.ok v w:=by
  simp only [part,Sem.run_bind,run_isAgg' ok he,Result.andThen_ok]
  rcases hv with ⟨ha,hv,_⟩ | ⟨ha,hv⟩
  · simp only [ha,if_true,Sem.run_bind,run_sizeOf' ok he,Result.andThen_ok,Sem.run_pure,hv]
    congr 2
    apply Array.ext'
    simp
  · simp [ha,hv]
theorem zzo1 (ok:tb.Ok P) {t i:Nat} {x:Operand} (hop:o.op=.field t x i) (hv:match tb.ty t with
    | some e=>match e.und with
      | .struct fs=>match nth fs.toList i with
        | some f=>onV (ev s ch x) fun v=>match v with
          | .agg cs=>partW tb f.type cs.toList f.offset K
          | _=>False
        | none=>False
      | _=>False
    | none=>False):ValOk P tb o ch s h K:=by
  split at hv
  · rename_i e he
    split at hv
    · rename_i fs hfs
      split at hv
      · rename_i f hf
        obtain ⟨v,hev,hv'⟩:=zbh hv
        clear hv
        split at hv'
        · rename_i cs
          obtain ⟨g,y,hg,hk,hc⟩:=zmh1 hv'
          refine zau _ hk fun hh β ρ w ho=> ?_
          have hx:=ev_ok (ho x (by simp [hop,Op.operands])) hh hev
          have hu:=run_underlying' ok he w
          rw [hfs] at hu
          have hf':fs[i]?=some f:=by rw [zfl] at hf;simpa using hf
          have hp:=zvt1 (w:=w) ok hg hc
          simp only [Array.toArray_toList] at hp
          simp only [execOp,hop,hx,LVal,Instr.field,Sem.run_bind,hu,Result.andThen_ok,hf',asAgg,Sem.run_pure,hp]
        · exact hv'.elim
      · exact hv.elim
    · exact hv.elim
  · exact hv.elim
end
end Lf

namespace Lf
open Go
section
variable {P:Program} {tb:Tb} {o:Oper} {ch:Chain} {s:St} {h:Hp} {K:LV→Prop}
theorem zfm {t:Nat} {g:Ty} (h:elemS tb t=some g):∃e u,tb.ty t=some e∧e.und=.slice u∧tb.ty u=some g:=by
  unfold elemS at h
  split at h
  · rename_i e he
    split at h
    · rename_i u hu
      exact ⟨e,u,he,hu,h⟩
    · cases h
  · cases h
theorem zmi1 {t n:Nat} {g:Ty} (h:elemA tb t=some (n,g)):∃e u,tb.ty t=some e∧e.und=.array n u∧tb.ty u=some g:=by
  unfold elemA at h
  split at h
  · rename_i e he
    split at h
    · rename_i m u hu
      split at h
      · rename_i g' hg
        cases h
        exact ⟨e,u,he,hu,hg⟩
      · cases h
    · cases h
  · cases h
theorem zos1 (ok:tb.Ok P) {t:Nat} {x i:Operand} (hop:o.op=.indexAddr t x i) (hv:match ev s ch x,ev s ch i with
    | some (.v (.slice base len _)),some (.v (.int _ n))=>match elemS tb t with
      | some e=>Req (cnd s ch) (InB base len n)∧K (.v (.pointer (some (sat base e.size n))))
      | none=>False
    | some (.v (.pointer (some a))),some (.v (.int _ n))=>match elemA tb t with
      | some (len,e)=>Req (cnd s ch) (0≤n∧n<(len:Int))∧K (.v (.pointer (some (a.add (n.toNat*e.size)))))
      | none=>False
    | some (.box k off),some (.v (.int _ n))=>match elemA tb t with
      | some (len,e)=>Req (cnd s ch) (0≤n∧n<(len:Int))∧cond (zjn1 i) (K (.box k (off+n.toNat*e.size))) (K (.boxd k (off+n.toNat*e.size)))
      | none=>False
    | _,_=>False):ValOk P tb o ch s h K:=by
  have runA:∀(ρ:Operand→Value) (w:World) (a:Addr) (k:IntKind) (n:Int) (len:Nat) (e:Ty),elemA tb t=some (len,e)→ρ x=.pointer (some a)→ρ i=.int k n→0≤n∧n<(len:Int)→
      (execOp ρ o).run P w=.ok (.value (.pointer (some (a.add (n.toNat*e.size))))) w:=by
    intro ρ w a k n len e hel hx hi hb
    obtain ⟨y,u,hy,hu,hg⟩:=zmi1 hel
    have hun:=run_underlying' ok hy w
    have hsz:=run_sizeOf' ok hg w
    rw [hu] at hun
    simp only [execOp,hop,hx,hi,Instr.indexAt,asIntOf,Instr.sureAddr,Sem.run_bind,Sem.run_pure,Result.andThen_ok,hun,if_pos hb,hsz]
  split at hv
  · rename_i base len c k n hex hei
    split at hv
    · rename_i e hel
      obtain ⟨y,u,hy,hu,hg⟩:=zfm hel
      refine zau _ hv.2 fun hh β ρ w ho=> ?_
      have hx:=ev_ok (ho x (by simp [hop,Op.operands])) hh hex
      have hi:=ev_ok (ho i (by simp [hop,Op.operands])) hh hei
      obtain ⟨hbase,h0,h1⟩:=zel hv.1 hh
      obtain ⟨a,rfl⟩:∃a,base=some a:=Option.ne_none_iff_exists'.1 hbase
      have hun:=run_underlying' ok hy w
      have hsz:=run_sizeOf' ok hg w
      rw [hu] at hun
      simp only [execOp,hop,hx,hi,LVal,Instr.indexAt,asIntOf,Sem.run_bind,Sem.run_pure,Result.andThen_ok,hun,if_pos (And.intro h0 h1),hsz,sat,Option.getD_some]
    · exact hv.elim
  · rename_i a k n hex hei
    split at hv
    · rename_i len e hel
      refine zau _ hv.2 fun hh β ρ w ho=> ?_
      exact runA ρ w a k n len e hel (ev_ok (ho x (by simp [hop,Op.operands])) hh hex) (ev_ok (ho i (by simp [hop,Op.operands])) hh hei) (zel hv.1 hh)
    · exact hv.elim
  · rename_i k' off k n hex hei
    split at hv
    · rename_i len e hel
      have main:∀l:LV,(∀β,LVal β l=.pointer (some ⟨β k',off+n.toNat*e.size,none⟩))→(∀k1 off',(l=.box k1 off'∨l=.boxd k1 off')→k1=k')→K l→ValOk P tb o ch s h K:=fun l hl hb hk=>
        zau l hk (fun hh β ρ w ho=>by
          rw [runA ρ w _ k n len e hel (ev_ok (ho x (by simp [hop,Op.operands])) hh hex) (ev_ok (ho i (by simp [hop,Op.operands])) hh hei) (zel hv.1 hh),zdh,hl]) (zvq1 (by simp [hop,Op.operands]) hex hb)
      cases hc:zjn1 i with
      | true=>exact main (.box k' (off+n.toNat*e.size)) (fun _=>rfl) (by intro k' off' e;rcases e with e | e<;>cases e<;>rfl) (by simpa [hc] using hv.2)
      | false=>exact main (.boxd k' (off+n.toNat*e.size)) (fun _=>rfl) (by intro k' off' e;rcases e with e | e<;>cases e<;>rfl) (by simpa [hc] using hv.2)
    · exact hv.elim
  · exact hv.elim
theorem zzp1 (ok:tb.Ok P) {t:Nat} {x i:Operand} (hop:o.op=.index t x i) (hv:match ev s ch x,ev s ch i with
    | some (.v (.string b)),some (.v (.int _ n))=>match tb.ty t with
      | some y=>match y.und with
        | .string=>Req (cnd s ch) (0≤n∧n<(b.size:Int))∧K (.v (.int .u8 ((b.data.toList.getD n.toNat 0).toNat:Int)))
        | _=>False
      | none=>False
    | some (.v (.agg cs)),some (.v (.int _ n))=>idxW (cnd s ch) tb t cs.toList n K
    | _,_=>False):ValOk P tb o ch s h K:=by
  split at hv
  · rename_i b k n hex hei
    split at hv
    · rename_i y hy
      split at hv
      · rename_i hu
        refine zau _ hv.2 fun hh β ρ w ho=> ?_
        have hx:=ev_ok (ho x (by simp [hop,Op.operands])) hh hex
        have hi:=ev_ok (ho i (by simp [hop,Op.operands])) hh hei
        obtain ⟨h0,h1⟩:=zel hv.1 hh
        have hun:=run_underlying' ok hy w
        rw [hu] at hun
        have hlt:n.toNat<b.size:=by omega
        have hget:b[n.toNat]?=some (b.data.toList.getD n.toNat 0):=by
          rw [getElem?_pos b n.toNat hlt]
          congr 1
          have:n.toNat<b.data.toList.length:=by simpa using hlt
          rw [List.getD_eq_getElem?_getD,List.getElem?_eq_getElem this]
          rfl
        simp only [execOp,hop,hx,hi,LVal,Instr.index,asIntOf,Sem.run_bind,Sem.run_pure,Result.andThen_ok,hun,if_pos h0,hget]
      · exact hv.elim
    · exact hv.elim
  · rename_i cs k n hex hei
    unfold idxW at hv
    split at hv
    · rename_i len e hel
      obtain ⟨y,u,hy,hu,hg⟩:=zmi1 hel
      cases ha:zjf e.und with
      | true=>simp only [ha,cond_true] at hv
      | false=>
        simp only [ha,cond_false] at hv
        obtain ⟨hb,z,hz,hk⟩:=hv
        refine zau _ hk fun hh β ρ w ho=> ?_
        have hx:=ev_ok (ho x (by simp [hop,Op.operands])) hh hex
        have hi:=ev_ok (ho i (by simp [hop,Op.operands])) hh hei
        have hun:=run_underlying' ok hy w
        have hsz:=run_sizeOf' ok hg w
        have hp:=zvt1 ok (w:=w) (cs:=cs.toList) hg (.inr ⟨ha,zel hz hh⟩)
        rw [hu] at hun
        simp only [Array.toArray_toList] at hp
        simp only [execOp,hop,hx,hi,LVal,Instr.index,asIntOf,Sem.run_bind,Sem.run_pure,Result.andThen_ok,hun,if_pos (zel hb hh),hsz,hp]
    · exact hv.elim
  · exact hv.elim
theorem zdl2 {β:Nat→Nat} {ρ:Operand→Value} (hh:holds s ch) {x:Option Operand} {r:Option Int} (he:optI s ch x=some r) (ho:∀y,x=some y→Opnd β s ρ y):
    (x=none∧r=none)∨∃y k n,x=some y∧ρ y=.int k n∧r=some n:=by
  cases x with
  | none=>cases he;exact .inl ⟨rfl,rfl⟩
  | some y=>
    simp only [optI] at he
    split at he
    · rename_i k n hy
      cases he
      exact .inr ⟨y,k,n,rfl,ev_ok (ho y rfl) hh hy,rfl⟩
    · cases he
theorem zml {k:IntKind} {n:Int} {m:Nat} {c:BoundsCode} {w:World} (h0:0≤n) (h1:n≤(m:Int)):(Instr.sliceBound (.int k n) m c).run P w=.ok n.toNat w:=by
  simp only [Instr.sliceBound,asIntOf,Sem.run_bind,Sem.run_pure,Result.andThen_ok,if_pos (And.intro h0 h1)]
theorem zzq1 {c:Option Bool} {isS:Bool} {len cap:Nat} {lo hi mx:Option Int} {Q:Nat→Nat→Nat→Prop} (hv:slB c isS len cap lo hi mx Q):
    ∃l x m,Q l x m∧((c=none∨(c=some true))→∀(vl vh vm:Option Value),(lo=none∧vl=none∨∃k n,lo=some n∧vl=some (.int k n))→
      (hi=none∧vh=none∨∃k n,hi=some n∧vh=some (.int k n))→(mx=none∧vm=none∨∃k n,mx=some n∧vm=some (.int k n))→
      ∀w:World,(Instr.sliceBounds isS len cap vl vh vm).run P w=.ok (l,x,m) w):=by
  have rq:∀ {p:Prop},Req c p→(c=none∨c=some true)→p:=by
    intro p hr hc
    rcases hc with hc | hc<;>subst hc
    · exact hr
    · exact hr rfl
  unfold slB at hv
  split at hv
  · refine ⟨_,_,_,hv,fun hc vl vh vm h1 h2 h3 w=> ?_⟩
    simp at h1 h2 h3;subst h1;subst h2;subst h3
    simp [Instr.sliceBounds]
  · rename_i l
    refine ⟨_,_,_,hv.2,fun hc vl vh vm h1 h2 h3 w=> ?_⟩
    obtain ⟨a0,a1⟩:=rq hv.1 hc
    simp at h1 h2 h3;subst h2;subst h3;obtain ⟨k,rfl⟩:=h1
    simp [Instr.sliceBounds,zml a0 a1]
  · rename_i x
    refine ⟨_,_,_,hv.2,fun hc vl vh vm h1 h2 h3 w=> ?_⟩
    obtain ⟨a0,a1⟩:=rq hv.1 hc
    simp at h1 h2 h3;subst h1;subst h3;obtain ⟨k,rfl⟩:=h2
    simp [Instr.sliceBounds,zml a0 a1]
  · rename_i l x
    refine ⟨_,_,_,hv.2,fun hc vl vh vm h1 h2 h3 w=> ?_⟩
    obtain ⟨a0,a1,a2⟩:=rq hv.1 hc
    simp at h1 h2 h3;subst h3;obtain ⟨k,rfl⟩:=h1;obtain ⟨k',rfl⟩:=h2
    have e:(x.toNat:Int)=x:=Int.toNat_of_nonneg (by omega)
    simp [Instr.sliceBounds,zml (Int.le_trans a0 a1) a2,zml (n:=l) (m:=x.toNat) a0 (by omega)]
  · rename_i x m
    refine ⟨_,_,_,hv.2,fun hc vl vh vm h1 h2 h3 w=> ?_⟩
    obtain ⟨a0,a1,a2⟩:=rq hv.1 hc
    simp at h1 h2 h3;subst h1;obtain ⟨k,rfl⟩:=h2;obtain ⟨k',rfl⟩:=h3
    simp [Instr.sliceBounds,zml (n:=m) (Int.le_trans a0 a1) a2,zml (n:=x) (m:=m.toNat) a0 (by omega)]
  · rename_i l x m
    refine ⟨_,_,_,hv.2,fun hc vl vh vm h1 h2 h3 w=> ?_⟩
    obtain ⟨a0,a1,a2,a3⟩:=rq hv.1 hc
    simp at h1 h2 h3;obtain ⟨k,rfl⟩:=h1;obtain ⟨k',rfl⟩:=h2;obtain ⟨k'',rfl⟩:=h3
    simp [Instr.sliceBounds,zml (n:=m) (by omega) a3,zml (n:=x) (m:=m.toNat) (by omega) (by omega),zml (n:=l) (m:=x.toNat) a0 (by omega)]
  · simp at hv
end
end Lf

