/-
  Part 3 of the texts that the claim leans on.
-/
import Derived.Test.YtgmfbapkfjemnaaGreatDoorRows
import Derived.Laws.Externs
import GoSem.Core.Float
import Derived.Test.YtgmfbapkfjemnaaGreatDoorMgAsmPrints1
set_option linter.unusedVariables false
namespace Lf
open Go
def zgo (P:Program) (l:Sl) (Q:(Bool→(Hp→Prop))) (h:Hp):Prop:=
 CallT P zox [] zae (fun r h1=>
 (if (!r)=true then
 Q false h1
 else
 CallT P zoy [l.v] shSl (fun r1 h2=>
 Call3 P zxl [r1.v] shStr (shInt .i64) (shInt .i64) (fun r2 r3 r4 h3=>
 Call3 P zjf [r1.v] shStr (shInt .i64) (shInt .i64) (fun r5 r6 r7 h4=>
 LetW (((ByteArray.toList r2)==(ByteArray.toList r5))&&(r3==r6)) fun y=>
 LetW (y&&(r4==r7)) fun y1=>
 Q y1 h4) h3) h2) h1)) h
def zpg (P:Program) (bits:Int) (Q:(ByteArray→(Hp→Prop))) (h:Hp):Prop:=
 CallT P zji1 [(.int .i64 bits)] (shFlt .f64) (fun r h1=>
 SemV none P (binS .neq 48 (.tmp 12) (.tmp 13) (.float .f64 r) (.float .f64 r)) zae h1 fun x=>
 (if x=true then
 CallT P zew1 [(.int .u64 (IntKind.wrap .u64 bits))] shStr (fun r1 h2=>
 ((4+(ByteArray.size r1))≤9223372036854775807∧Q ⟨⟨(110::(97::(110::(58::r1.data.toList))))⟩⟩ h2)) h1
 else
 SemV none P (binS .gtr 48 (.tmp 20) (.const (.float .f64 9218868437227405311)) (.float .f64 r) (.float .f64 9218868437227405311)) zae h1 fun x1=>
 (if x1=true then
 Q ⟨#[105,110,102]⟩ h1
 else
 SemV none P (binS .lss 48 (.tmp 23) (.const (.float .f64 18442240474082181119)) (.float .f64 r) (.float .f64 18442240474082181119)) zae h1 fun x2=>
 (if x2=true then
 Q ⟨#[45,105,110,102]⟩ h1
 else
 CallT P zqg [(.float .f64 r),(.int .u8 (101:Int)),(.int .i64 (-1:Int)),(.int .i64 (64:Int))] shStr (fun r1 h2=>
 Call3 P zld [(.string r1),(.string ⟨#[101]⟩)] shStr shStr zae (fun r2 r3 r4 h3=>
 Call2 P zuo [(.string r3)] (shInt .i64) zah (fun r5 r6 h4=>
 (((ByteArray.size r2)+1)≤9223372036854775807∧CallT P zgz [(.int .i64 r5)] shStr (fun r7 h5=>
 (((ByteArray.size ⟨⟨(List.append r2.data.toList [101])⟩⟩)+(ByteArray.size r7))≤9223372036854775807∧Q ⟨⟨(List.append (List.append r2.data.toList [101]) r7.data.toList)⟩⟩ h5)) h4)) h3) h2) h1)))) h
def zji (P:Program) (n:Int) (Q:(ByteArray→(Hp→Prop))) (h:Hp):Prop:=
 JoinW1 (α1:=ByteArray) (fun k=>
 LetW (((bitsI .and .u64 (IntKind.wrap .u64 n) (9223372036854775808:Int)) !=(0:Int))&&(decide ((bitsI .andNot .u64 (IntKind.wrap .u64 n) (9223372036854775808:Int))≤(9218868437227405312:Int)))) fun y=>
 (if y=true then
 k ⟨#[45]⟩ h
 else
 k ⟨#[]⟩ h))
 (fun s h1=>
 (if (decide ((bitsI .andNot .u64 (IntKind.wrap .u64 n) (9223372036854775808:Int))>(9218868437227405312:Int)))=true then
 CallT P zro [(.int .u64 (IntKind.wrap .u64 n))] shStr (fun r h2=>
 ((4+(ByteArray.size r))≤9223372036854775807∧Q ⟨⟨(110::(97::(110::(58::r.data.toList))))⟩⟩ h2)) h1
 else
 (if ((bitsI .andNot .u64 (IntKind.wrap .u64 n) (9223372036854775808:Int))==(9218868437227405312:Int))=true then
 (((ByteArray.size s)+3)≤9223372036854775807∧Q ⟨⟨(List.append s.data.toList [105,110,102])⟩⟩ h1)
 else
 CallT P zqh [(.int .u64 (bitsI .andNot .u64 (IntKind.wrap .u64 n) (9223372036854775808:Int)))] shStr (fun r h2=>
 (((ByteArray.size s)+(ByteArray.size r))≤9223372036854775807∧Q ⟨⟨(List.append s.data.toList r.data.toList)⟩⟩ h2)) h1)))
def zdk1 (P:Program) (text:ByteArray) (Q:(Int→(Int→(Hp→Prop)))) (h:Hp):Prop:=
 Call2 P zip [(.string text),(.string ⟨#[110,97,110,58]⟩)] shStr zae (fun r r1 h1=>
 JoinW1 (α1:=Int) (fun k=>
 (if r1=true then
 Call2 P zmk [(.string r),(.int .i64 (16:Int)),(.int .i64 (64:Int))] (shInt .u64) zah (fun r2 r3 h2=>
 k r2 h2) h1
 else
 Call2 P zlp [(.string text),(.int .i64 (64:Int))] (shFlt .f64) zah (fun r2 r3 h2=>
 SemE P (Extern.MathFloatBits.float64bits #[(.float .f64 r2)]) (shInt .u64) (fun r4 h3=>
 k r4 h3) h2) h1))
 (fun u h2=>
 CallT P zpf [(.int .i64 (IntKind.wrap .i64 u))] shStr (fun r2 h3=>
 (if (!((ByteArray.toList r2)==(ByteArray.toList text)))=true then
 Q (0:Int) (4:Int) h3
 else
 Q (IntKind.wrap .i64 u) (0:Int) h3)) h2)) h
def zjj (P:Program)  (Q:(Bool→(Hp→Prop))) (h:Hp):Prop:=
 NewW [(.int .i64 (1:Int)),(.int .i64 (0:Int)),(.int .i64 (0:Int)),(.int .i64 (0:Int)),(.int .i64 (5:Int)),(.int .i64 (23:Int)),(.int .i64 (0:Int)),(.int .i64 (0:Int)),(.int .i64 (0:Int)),(.int .i64 (0:Int)),(.int .i64 (24:Int)),(.int .i64 (1:Int)),(.int .i64 (2:Int)),(.int .i64 (3:Int)),(.int .i64 (0:Int)),(.int .i64 (0:Int)),(.int .i64 (0:Int)),(.int .i64 (0:Int)),(.int .i64 (0:Int)),(.int .i64 (0:Int))] (fun a h1=>
 Call3 P zxl [(.slice (some a) 4 4)] shStr (shInt .i64) (shInt .i64) (fun r r1 r2 h2=>
 Call4 P zxm [(.string ⟨#[115,101,116,32,114,48,32,53,10,105,102,32,114,48,32,48,10,115,101,110,100,32,114,49,32,114,50,32,114,51,10,101,120,105,116,10]⟩)] shSl (shInt .i64) (shInt .i64) (shInt .i64) (fun r3 r4 r5 r6 h3=>
 Call4 P zxm [(.string ⟨#[101,120,105,116,10,115,101,116,32,114,48,10]⟩)] shSl (shInt .i64) (shInt .i64) (shInt .i64) (fun r7 r8 r9 r10 h4=>
 LetW ((r1==(0:Int))&&(r2==(0:Int))) fun y=>
 LetW (y&&((ByteArray.toList r)==(ByteArray.toList ⟨#[115,101,116,32,114,48,32,53,10,105,102,32,114,48,32,48,10,115,101,110,100,32,114,49,32,114,50,32,114,51,10,101,120,105,116,10]⟩))) fun y1=>
 LetW (y1&&(r4==(0:Int))) fun y2=>
 LetW (y2&&(r5==(0:Int))) fun y3=>
 LetW (y3&&(r6==(0:Int))) fun y4=>
 EffC (some y4) (CallT P zqf [r3.v,(.slice (some a) 4 4)] zae) (fun r11 h5=>
 LetW (y4&&r11) fun y5=>
 LetW (y5&&(r8==(5:Int))) fun y6=>
 LetW (y6&&(r9==(2:Int))) fun y7=>
 LetW (y7&&(r10==(6:Int))) fun y8=>
 Q y8 h5) h4) h3) h2) h1) h
def zjk (P:Program) (l:Sl) (Q:(Sl→(Hp→Prop))) (h:Hp):Prop:=
 (((0:Int)≤(min2I ((l.len:Nat):Int) (1048576:Int))∧((min2I ((l.len:Nat):Int) (1048576:Int))≤(min2I ((l.len:Nat):Int) (1048576:Int))∧(min2I ((l.len:Nat):Int) (1048576:Int))≤((l.cap:Nat):Int)))∧LetW (α:=Sl) ⟨(sbase l.base 5 0 (Int.toNat (min2I ((l.len:Nat):Int) (1048576:Int)))),((Int.toNat (min2I ((l.len:Nat):Int) (1048576:Int)))-0),((Int.toNat (min2I ((l.len:Nat):Int) (1048576:Int)))-0)⟩ fun y=>
 Q y h)
def zdl1 (P:Program) (l:Sl) (Q:(ByteArray→(Int→(Int→(Hp→Prop))))) (h:Hp):Prop:=
 Call2 P zga1 [l.v,(.int .i64 (8:Int))] (shInt .i64) (shInt .i64) (fun r r1 h1=>
 (if (r !=(0:Int))=true then
 Q ⟨#[]⟩ r r1 h1
 else
 NewTW 76 [(.pointer none),(.slice none 0 0)] (fun a h2=>
 LoopW1 (α1:=Int) (fun again t21 h3=>
 (if (decide (t21<((l.len:Nat):Int)))=true then
 ((InB l.base l.len t21)∧LdW none sh_api_Ins h3 (sat l.base 5 t21) fun x=>
 CallT P zex1 [x.v] shStr (fun r2 h4=>
 Call2 P zbt [(.pointer (some a)),(.string r2)] (shInt .i64) zah (fun r3 r4 h5=>
 again (IntKind.wrap .i64 (t21+(1:Int))) h5) h4) h3)
 else
 CallT P zeo [(.pointer (some a))] shStr (fun r2 h4=>
 Q r2 (0:Int) (0:Int) h4) h3)) (0:Int) h2) h1)) h
def zjl (P:Program) (l:Sl) (Q:(ByteArray→(Int→(Int→(Hp→Prop))))) (h:Hp):Prop:=
 Call2 P zlq [l.v,(.int .i64 (8:Int))] (shInt .i64) (shInt .i64) (fun r r1 h1=>
 (if (r !=(0:Int))=true then
 Q ⟨#[]⟩ r r1 h1
 else
 LoopW2 (α1:=ByteArray) (α2:=Int) (fun again s i h2=>
 (if (decide (i<((l.len:Nat):Int)))=true then
 ((InB l.base l.len i)∧LdW none sh_api_Ins h2 (sat l.base 5 i) fun x=>
 CallT P zqi [x.v] shStr (fun r2 h3=>
 (((ByteArray.size s)+(ByteArray.size r2))≤9223372036854775807∧(((ByteArray.size ⟨⟨(List.append s.data.toList r2.data.toList)⟩⟩)+1)≤9223372036854775807∧again ⟨⟨(List.append (List.append s.data.toList r2.data.toList) [10])⟩⟩ (IntKind.wrap .i64 (i+(1:Int))) h3))) h2)
 else
 Q s (0:Int) (0:Int) h2)) ⟨#[]⟩ (0:Int) h1)) h
def zdm1 (P:Program) (text:ByteArray) (Q:(Sl→(Int→(Int→(Int→(Hp→Prop)))))) (h:Hp):Prop:=
 CallT P zac1 [(.string text),(.string ⟨#[10]⟩)] (shInt .i64) (fun r h1=>
 LoopW3 (α1:=Sl) (α2:=ByteArray) (α3:=Int) (fun again l rest i h2=>
 (if (!((ByteArray.toList rest)==(ByteArray.toList ⟨#[]⟩)))=true then
 Call3 P zld [(.string rest),(.string ⟨#[10]⟩)] shStr shStr zae (fun r1 r2 r3 h3=>
 (if (decide (i>(256:Int)))=true then
 Q ⟨none,0,0⟩ (3:Int) i (0:Int) h3
 else
 NewW [(.string r1),(.int .i64 (0:Int)),(.int .i64 (0:Int)),(.int .i64 (0:Int))] (fun a h4=>
 CallT P zys [(.pointer (some a)),(.int .i64 r)] sh_api_Ins (fun r4 h5=>
 JoinW0 (fun k=>
 (if (!r3)=true then
 Call0 P zav [(.pointer (some a)),(.int .i64 (5:Int)),(.int .i64 (((ByteArray.size r1):Nat):Int))] (fun h6=>
 k h6) h5
 else
 k h5))
 (fun h6=>
 NilW none (some a) fun p=>
 LdW none (shInt .i64) h6 (Addr.add p 2) fun x=>
 (if (x !=(0:Int))=true then
 NilW none (some a) fun p1=>
 LdW none (shInt .i64) h6 (Addr.add p1 2) fun x1=>
 NilW none (some a) fun p2=>
 LdW none (shInt .i64) h6 (Addr.add p2 3) fun x2=>
 Q ⟨none,0,0⟩ x1 i x2 h6
 else
 NewW [(.int .i64 r4.Op),(.int .i64 r4.A),(.int .i64 r4.B),(.int .i64 r4.C),(.int .i64 r4.Imm)] (fun a1 h7=>
 zbh 5 40 [(.int .i64 (0:Int)),(.int .i64 (0:Int)),(.int .i64 (0:Int)),(.int .i64 (0:Int)),(.int .i64 (0:Int))] ⟨l.base,l.len,l.cap⟩ ⟨(some a1),1,1⟩ (fun r5 h8=>
 again r5 r2 (IntKind.wrap .i64 (i+(1:Int))) h8) h7) h6))) h4) h3)) h2
 else
 Q ⟨l.base,l.len,l.cap⟩ (0:Int) (0:Int) (0:Int) h2)) ⟨none,0,0⟩ text (1:Int) h1) h
def zkp (P:Program) (a:Sl) (b:Sl) (Q:(Bool→(Hp→Prop))) (h:Hp):Prop:=
 (if (((a.len:Nat):Int) !=((b.len:Nat):Int))=true then
 Q false h
 else
 LoopW1 (α1:=Int) (fun again i h1=>
 (if (decide (i<((a.len:Nat):Int)))=true then
 ((InB a.base a.len i)∧LdW none sh_api_Ins h1 (sat a.base 5 i) fun x=>
 ((InB b.base b.len i)∧LdW none sh_api_Ins h1 (sat b.base 5 i) fun x1=>
 SemV none P (binS .neq 44 (.tmp 20) (.tmp 24) x.v x1.v) zae h1 fun x2=>
 (if x2=true then
 Q false h1
 else
 again (IntKind.wrap .i64 (i+(1:Int))) h1)))
 else
 Q true h1)) (0:Int) h)
def zgc1 (P:Program) (l:Sl) (locks:Int) (Q:(Int→(Int→(Hp→Prop)))) (h:Hp):Prop:=
 LetW ((decide (locks<(0:Int))) || (decide (locks>(8:Int)))) fun y=>
 (if y=true then
 Q (1:Int) (0:Int) h
 else
 (if (decide (((l.len:Nat):Int)>(256:Int)))=true then
 Q (3:Int) (256:Int) h
 else
 LoopW1 (α1:=Int) (fun again t22 h1=>
 (if (decide (t22<((l.len:Nat):Int)))=true then
 ((InB l.base l.len t22)∧LdW none sh_api_Ins h1 (sat l.base 5 t22) fun x=>
 CallT P zhb1 [x.v,(.int .i64 ((l.len:Nat):Int)),(.int .i64 locks)] (shInt .i64) (fun r h2=>
 (if (r !=(0:Int))=true then
 Q r t22 h2
 else
 again (IntKind.wrap .i64 (t22+(1:Int))) h2)) h1)
 else
 Q (0:Int) (0:Int) h1)) (0:Int) h))
def zaf1 (P:Program) (x:S_api_Ins) (n:Int) (locks:Int) (Q:(Int→(Hp→Prop))) (h:Hp):Prop:=
 Call2 P zad1 [x.v,(.int .i64 n),(.int .i64 locks)] (shInt .i64) (shInt .i64) (fun r r1 h1=>
 Q r h1) h
def zdn1 (P:Program) (bits:Int) (Q:(Nat→(Hp→Prop))) (h:Hp):Prop:=
 SemE P (Extern.MathFloatBits.float64frombits #[(.int .u64 (IntKind.wrap .u64 bits))]) (shFlt .f64) (fun r h1=>
 Q r h1) h
def zxr (P:Program) (u:Int) (Q:(ByteArray→(Hp→Prop))) (h:Hp):Prop:=
 CallT P zrp [(.int .u64 u),(.int .i64 (16:Int))] shStr (fun r h1=>
 CallT P zyt [(.string ⟨#[48]⟩),(.int .i64 (IntKind.wrap .i64 ((16:Int)-(((ByteArray.size r):Nat):Int))))] shStr (fun r1 h2=>
 (((ByteArray.size r1)+(ByteArray.size r))≤9223372036854775807∧Q ⟨⟨(List.append r1.data.toList r.data.toList)⟩⟩ h2)) h1) h
def znw (P:Program) (s:ByteArray) (sep:ByteArray) (Q:(ByteArray→(ByteArray→(Bool→(Hp→Prop))))) (h:Hp):Prop:=
 Call3 P zgl [(.string s),(.string sep)] shStr shStr zae (fun r r1 r2 h1=>
 Q r r1 r2 h1) h
def zeh (P:Program) (f:Nat) (fmt:Int) (prec:Int) (bitSize:Int) (Q:(ByteArray→(Hp→Prop))) (h:Hp):Prop:=
 CallT P zil [(.float .f64 f),(.int .u8 fmt),(.int .i64 prec),(.int .i64 bitSize)] shStr (fun r h1=>
 Q r h1) h
def zur (P:Program) (s:ByteArray) (Q:(Int→(Leaf→(Hp→Prop)))) (h:Hp):Prop:=
 Call2 P ziq [(.string s)] (shInt .i64) zah (fun r r1 h1=>
 ((isIfV r1.v)=true∧(if (!(zcg r1.v))=true then
 CallT P zcu [(.string ⟨#[65,116,111,105]⟩),(.string s),(.int .i64 (0:Int)),(.int .i64 (0:Int)),r1.v] zah (fun r2 h2=>
 EncW zah r2.v fun e=>
 Q r e h2) h1
 else
 EncW zah .nilIface fun e=>
 Q r e h1))) h
def zpz (P:Program) (i:Int) (Q:(ByteArray→(Hp→Prop))) (h:Hp):Prop:=
 CallT P znr [(.int .i64 i)] shStr (fun r h1=>
 Q r h1) h
def zlr (P:Program) (n:Int) (Q:(ByteArray→(Hp→Prop))) (h:Hp):Prop:=
 LoopW2 (α1:=ByteArray) (α2:=Int) (fun again s i h1=>
 (if (decide (i≥(0:Int)))=true then
 ((0:Int)≤(IntKind.wrap .i64 ((4:Int)*i))∧(((0:Int)≤(bitsI .and .u64 (shrI .u64 n (IntKind.wrap .i64 ((4:Int)*i))) (15:Int))∧((bitsI .and .u64 (shrI .u64 n (IntKind.wrap .i64 ((4:Int)*i))) (15:Int))≤(IntKind.wrap .u64 ((bitsI .and .u64 (shrI .u64 n (IntKind.wrap .i64 ((4:Int)*i))) (15:Int))+(1:Int)))∧(IntKind.wrap .u64 ((bitsI .and .u64 (shrI .u64 n (IntKind.wrap .i64 ((4:Int)*i))) (15:Int))+(1:Int)))≤(16:Int)))∧(((ByteArray.size s)+(ByteArray.size (ByteArray.extract ⟨#[48,49,50,51,52,53,54,55,56,57,97,98,99,100,101,102]⟩ (Int.toNat (bitsI .and .u64 (shrI .u64 n (IntKind.wrap .i64 ((4:Int)*i))) (15:Int))) (Int.toNat (IntKind.wrap .u64 ((bitsI .and .u64 (shrI .u64 n (IntKind.wrap .i64 ((4:Int)*i))) (15:Int))+(1:Int)))))))≤9223372036854775807∧again ⟨⟨(List.append s.data.toList (ByteArray.extract ⟨#[48,49,50,51,52,53,54,55,56,57,97,98,99,100,101,102]⟩ (Int.toNat (bitsI .and .u64 (shrI .u64 n (IntKind.wrap .i64 ((4:Int)*i))) (15:Int))) (Int.toNat (IntKind.wrap .u64 ((bitsI .and .u64 (shrI .u64 n (IntKind.wrap .i64 ((4:Int)*i))) (15:Int))+(1:Int))))).data.toList)⟩⟩ (IntKind.wrap .i64 (i-(1:Int))) h1)))
 else
 Q s h1)) ⟨#[]⟩ (15:Int) h
def zgv (P:Program) (b:Int) (Q:(ByteArray→(Hp→Prop))) (h:Hp):Prop:=
 (if (b==(0:Int))=true then
 Q ⟨#[48,101,48]⟩ h
 else
 Call2 P zir [(.int .u64 b)] (shInt .u64) (shInt .i64) (fun r r1 h1=>
 CallT P zdf [(.int .u64 r)] shStr (fun r2 h2=>
 (((0:Int)≤(1:Int)∧(1:Int)≤(((ByteArray.size r2):Nat):Int))∧JoinW1 (α1:=ByteArray) (fun k=>
 (if (decide ((((ByteArray.size r2):Nat):Int)>(1:Int)))=true then
 (((0:Int)≤(1:Int)∧(1:Int)≤(((ByteArray.size r2):Nat):Int))∧((1+(ByteArray.size (ByteArray.extract r2 1 (ByteArray.size r2))))≤9223372036854775807∧(((ByteArray.size (ByteArray.extract r2 0 1))+(ByteArray.size ⟨⟨(46::(ByteArray.extract r2 1 (ByteArray.size r2)).data.toList)⟩⟩))≤9223372036854775807∧k ⟨⟨(List.append (ByteArray.extract r2 0 1).data.toList (46::(ByteArray.extract r2 1 (ByteArray.size r2)).data.toList))⟩⟩ h2)))
 else
 k (ByteArray.extract r2 0 1) h2))
 (fun s h3=>
 (if (decide (r1<(0:Int)))=true then
 (((ByteArray.size s)+2)≤9223372036854775807∧CallT P zdf [(.int .u64 (IntKind.wrap .u64 (IntKind.wrap .i64 ((0:Int)-r1))))] shStr (fun r3 h4=>
 (((ByteArray.size ⟨⟨(List.append s.data.toList [101,45])⟩⟩)+(ByteArray.size r3))≤9223372036854775807∧Q ⟨⟨(List.append (List.append s.data.toList [101,45]) r3.data.toList)⟩⟩ h4)) h3)
 else
 (((ByteArray.size s)+1)≤9223372036854775807∧CallT P zdf [(.int .u64 (IntKind.wrap .u64 r1))] shStr (fun r3 h4=>
 (((ByteArray.size ⟨⟨(List.append s.data.toList [101])⟩⟩)+(ByteArray.size r3))≤9223372036854775807∧Q ⟨⟨(List.append (List.append s.data.toList [101]) r3.data.toList)⟩⟩ h4)) h3))))) h1) h)
def zml (P:Program) (s:ByteArray) (prefix_:ByteArray) (Q:(ByteArray→(Bool→(Hp→Prop)))) (h:Hp):Prop:=
 Call2 P zdj [(.string s),(.string prefix_)] shStr zae (fun r r1 h1=>
 Q r r1 h1) h
def zfz (P:Program) (s:ByteArray) (base:Int) (bitSize:Int) (Q:(Int→(Leaf→(Hp→Prop)))) (h:Hp):Prop:=
 Call2 P zfc [(.string s),(.int .i64 base),(.int .i64 bitSize)] (shInt .u64) zah (fun r r1 h1=>
 ((isIfV r1.v)=true∧(if (!(zcg r1.v))=true then
 CallT P zcu [(.string ⟨#[80,97,114,115,101,85,105,110,116]⟩),(.string s),(.int .i64 base),(.int .i64 bitSize),r1.v] zah (fun r2 h2=>
 EncW zah r2.v fun e=>
 Q r e h2) h1
 else
 EncW zah .nilIface fun e=>
 Q r e h1))) h
def zey (P:Program) (s:ByteArray) (bitSize:Int) (Q:(Nat→(Leaf→(Hp→Prop)))) (h:Hp):Prop:=
 Call2 P zes [(.string s),(.int .i64 bitSize)] (shFlt .f64) zah (fun r r1 h1=>
 ((isIfV r1.v)=true∧(if (!(zcg r1.v))=true then
 CallT P zcu [(.string ⟨#[80,97,114,115,101,70,108,111,97,116]⟩),(.string s),(.int .i64 (0:Int)),(.int .i64 bitSize),r1.v] zah (fun r2 h2=>
 EncW zah r2.v fun e=>
 Q r e h2) h1
 else
 EncW zah .nilIface fun e=>
 Q r e h1))) h
def zxs (P:Program) (x:S_api_Ins) (Q:(ByteArray→(Hp→Prop))) (h:Hp):Prop:=
 CallT P zgb1 [(.int .i64 x.Op)] shStr (fun r h1=>
 NewW [(.string r)] (fun a h2=>
 Call4 P zns [(.int .i64 x.Op)] zae zae zae zae (fun r1 r2 r3 r4 h3=>
 JoinW1 (α1:=Sl) (fun k=>
 (if r1=true then
 CallT P zlz [(.int .i64 x.A)] shStr (fun r5 h4=>
 NewW [(.string r5)] (fun a1 h5=>
 zbh 1 16 [(.string ⟨#[]⟩)] ⟨(some a),1,1⟩ ⟨(some a1),1,1⟩ (fun r6 h6=>
 k r6 h6) h5) h4) h3
 else
 k ⟨(some a),1,1⟩ h3))
 (fun l h4=>
 JoinW1 (α1:=Sl) (fun k=>
 (if r2=true then
 CallT P zlz [(.int .i64 x.B)] shStr (fun r5 h5=>
 NewW [(.string r5)] (fun a1 h6=>
 zbh 1 16 [(.string ⟨#[]⟩)] l ⟨(some a1),1,1⟩ (fun r6 h7=>
 k r6 h7) h6) h5) h4
 else
 k l h4))
 (fun l1 h5=>
 JoinW1 (α1:=Sl) (fun k=>
 (if r3=true then
 CallT P zlz [(.int .i64 x.C)] shStr (fun r5 h6=>
 NewW [(.string r5)] (fun a1 h7=>
 zbh 1 16 [(.string ⟨#[]⟩)] l1 ⟨(some a1),1,1⟩ (fun r6 h8=>
 k r6 h8) h7) h6) h5
 else
 k l1 h5))
 (fun l2 h6=>
 JoinW1 (α1:=Sl) (fun k=>
 (if r4=true then
 CallT P zhc1 [x.v] shStr (fun r5 h7=>
 NewW [(.string r5)] (fun a1 h8=>
 zbh 1 16 [(.string ⟨#[]⟩)] l2 ⟨(some a1),1,1⟩ (fun r6 h9=>
 k r6 h9) h8) h7) h6
 else
 k l2 h6))
 (fun l3 h7=>
 CallT P zmi1 [l3.v] shStr (fun r5 h8=>
 Q r5 h8) h7))))) h2) h1) h
def zls (P:Program) (l:Sl) (locks:Int) (Q:(Int→(Int→(Hp→Prop)))) (h:Hp):Prop:=
 LetW ((decide (locks<(0:Int))) || (decide (locks>(8:Int)))) fun y=>
 (if y=true then
 Q (1:Int) (0:Int) h
 else
 (if (decide (((l.len:Nat):Int)>(256:Int)))=true then
 Q (3:Int) (256:Int) h
 else
 LoopW1 (α1:=Int) (fun again i h1=>
 (if (decide (i<((l.len:Nat):Int)))=true then
 ((InB l.base l.len i)∧LdW none sh_api_Ins h1 (sat l.base 5 i) fun x=>
 CallT P zoz [x.v,(.int .i64 ((l.len:Nat):Int)),(.int .i64 locks)] (shInt .i64) (fun r h2=>
 (if (r !=(0:Int))=true then
 Q r i h2
 else
 again (IntKind.wrap .i64 (i+(1:Int))) h2)) h1)
 else
 Q (0:Int) (0:Int) h1)) (0:Int) h))
def zkq (P:Program) (x:S_api_Ins) (Q:(ByteArray→(Hp→Prop))) (h:Hp):Prop:=
 CallT P zqj [(.int .i64 x.Op)] shStr (fun r h1=>
 Call4 P zfd [(.int .i64 x.Op)] zae zae zae zae (fun r1 r2 r3 r4 h2=>
 JoinW1 (α1:=ByteArray) (fun k=>
 (if r1=true then
 CallT P zgz [(.int .i64 x.A)] shStr (fun r5 h3=>
 ((2+(ByteArray.size r5))≤9223372036854775807∧(((ByteArray.size r)+(ByteArray.size ⟨⟨(32::(114::r5.data.toList))⟩⟩))≤9223372036854775807∧k ⟨⟨(List.append r.data.toList (32::(114::r5.data.toList)))⟩⟩ h3))) h2
 else
 k r h2))
 (fun s h3=>
 JoinW1 (α1:=ByteArray) (fun k=>
 (if r2=true then
 CallT P zgz [(.int .i64 x.B)] shStr (fun r5 h4=>
 ((2+(ByteArray.size r5))≤9223372036854775807∧(((ByteArray.size s)+(ByteArray.size ⟨⟨(32::(114::r5.data.toList))⟩⟩))≤9223372036854775807∧k ⟨⟨(List.append s.data.toList (32::(114::r5.data.toList)))⟩⟩ h4))) h3
 else
 k s h3))
 (fun s1 h4=>
 JoinW1 (α1:=ByteArray) (fun k=>
 (if r3=true then
 CallT P zgz [(.int .i64 x.C)] shStr (fun r5 h5=>
 ((2+(ByteArray.size r5))≤9223372036854775807∧(((ByteArray.size s1)+(ByteArray.size ⟨⟨(32::(114::r5.data.toList))⟩⟩))≤9223372036854775807∧k ⟨⟨(List.append s1.data.toList (32::(114::r5.data.toList)))⟩⟩ h5))) h4
 else
 k s1 h4))
 (fun s2 h5=>
 (if r4=true then
 CallT P zrq [x.v] shStr (fun r5 h6=>
 ((1+(ByteArray.size r5))≤9223372036854775807∧(((ByteArray.size s2)+(ByteArray.size ⟨⟨(32::r5.data.toList)⟩⟩))≤9223372036854775807∧Q ⟨⟨(List.append s2.data.toList (32::r5.data.toList))⟩⟩ h6))) h5
 else
 Q s2 h5))))) h1) h
def zqy (P:Program) (r:Option Addr) (n:Int) (Q:(S_api_Ins→(Hp→Prop))) (h:Hp):Prop:=
 NilW none r fun p=>
 LdW none shStr h (Addr.add p 0) fun x=>
 Call3 P zld [(.string x),(.string ⟨#[32]⟩)] shStr shStr zae (fun r1 r2 r3 h1=>
 Call2 P zoi1 [(.string r1)] (shInt .i64) zae (fun r4 r5 h2=>
 (if (!r5)=true then
 Call0 P zav [(.pointer r),(.int .i64 (9:Int)),(.int .i64 (0:Int))] (fun h3=>
 Q ⟨(0:Int),(0:Int),(0:Int),(0:Int),(0:Int)⟩ h3) h2
 else
 NilW none r fun p1=>
 StW h2 (Addr.add p1 1) [(.int .i64 (((ByteArray.size r1):Nat):Int))] (fun h3=>
 Call4 P zns [(.int .i64 r4)] zae zae zae zae (fun r6 r7 r8 r9 h4=>
 CallT P zgs [(.pointer r),(.bool r6)] (shInt .i64) (fun r10 h5=>
 CallT P zgs [(.pointer r),(.bool r7)] (shInt .i64) (fun r11 h6=>
 CallT P zgs [(.pointer r),(.bool r8)] (shInt .i64) (fun r12 h7=>
 JoinW1 (α1:=S_api_Ins) (fun k=>
 (if r9=true then
 CallT P ztf [(.pointer r),(.int .i64 r4),(.int .i64 n)] (shInt .i64) (fun r13 h8=>
 k ⟨r4,r10,r11,r12,r13⟩ h8) h7
 else
 k ⟨r4,r10,r11,r12,(0:Int)⟩ h7))
 (fun x1 h8=>
 NilW none r fun p2=>
 LdW none (shInt .i64) h8 (Addr.add p2 1) fun x2=>
 NilW none r fun p3=>
 LdW none shStr h8 (Addr.add p3 0) fun x3=>
 (if (decide (x2<(((ByteArray.size x3):Nat):Int)))=true then
 NilW none r fun p4=>
 LdW none (shInt .i64) h8 (Addr.add p4 1) fun x4=>
 Call0 P zav [(.pointer r),(.int .i64 (6:Int)),(.int .i64 x4)] (fun h9=>
 Q x1 h9) h8
 else
 Q x1 h8))) h6) h5) h4) h3))) h1) h
def zph (P:Program) (r:Option Addr) (e:Int) (at_:Int) (Q:(Hp→Prop)) (h:Hp):Prop:=
 NilW none r fun p=>
 LdW none (shInt .i64) h (Addr.add p 2) fun x=>
 (if (x==(0:Int))=true then
 NilW none r fun p1=>
 StW h (Addr.add p1 2) [(.int .i64 e)] (fun h1=>
 NilW none r fun p2=>
 StW h1 (Addr.add p2 3) [(.int .i64 at_)] (fun h2=>
 Q h2))
 else
 Q h)
def zag1 (P:Program) (x:S_api_Ins) (n:Int) (locks:Int) (Q:(Int→(Int→(Hp→Prop)))) (h:Hp):Prop:=
 LetW ((decide (x.Op<(0:Int))) || (decide (x.Op≥(34:Int)))) fun y=>
 (if y=true then
 Q (9:Int) (0:Int) h
 else
 Call4 P zns [(.int .i64 x.Op)] zae zae zae zae (fun r r1 r2 r3 h1=>
 CallT P znt [(.bool r),(.int .i64 x.A)] (shInt .i64) (fun r4 h2=>
 (if (r4 !=(0:Int))=true then
 Q r4 (1:Int) h2
 else
 CallT P znt [(.bool r1),(.int .i64 x.B)] (shInt .i64) (fun r5 h3=>
 (if (r5 !=(0:Int))=true then
 Q r5 (2:Int) h3
 else
 CallT P znt [(.bool r2),(.int .i64 x.C)] (shInt .i64) (fun r6 h4=>
 (if (r6 !=(0:Int))=true then
 Q r6 (3:Int) h4
 else
 CallT P zey1 [x.v,(.bool r3),(.int .i64 n),(.int .i64 locks)] (shInt .i64) (fun r7 h5=>
 Q r7 (4:Int) h5) h4)) h3)) h2)) h1) h)
def zrs (P:Program) (i:Int) (base:Int) (Q:(ByteArray→(Hp→Prop))) (h:Hp):Prop:=
 CallT P ziy [(.int .u64 i),(.int .i64 base)] shStr (fun r h1=>
 Q r h1) h
def zyu (P:Program) (s:ByteArray) (count:Int) (Q:(ByteArray→(Hp→Prop))) (h:Hp):Prop:=
 (if (count==(0:Int))=true then
 Q ⟨#[]⟩ h
 else
 (if (count==(1:Int))=true then
 Q s h
 else
 JoinW0 (fun k=>
 (if (decide (count<(0:Int)))=true then
 False
 else
 k h))
 (fun h1=>
 Call2 P zjj1 [(.int .u64 (IntKind.wrap .u64 (((ByteArray.size s):Nat):Int))),(.int .u64 (IntKind.wrap .u64 count))] (shInt .u64) (shInt .u64) (fun r r1 h2=>
 JoinW0 (fun k=>
 LetW ((decide (r>(0:Int))) || (decide (r1>(9223372036854775807:Int)))) fun y=>
 (if y=true then
 False
 else
 k h2))
 (fun h3=>
 (if ((((ByteArray.size s):Nat):Int)==(0:Int))=true then
 Q ⟨#[]⟩ h3
 else
 (((0:Int)≤(0:Int)∧(0:Int)<(((ByteArray.size s):Nat):Int))∧JoinW0 (fun k=>
 JoinW1 (α1:=Bool) (fun k1=>
 (if ((((UInt8.toNat (List.getD s.data.toList 0 0)):Nat):Int)==(32:Int))=true then
 k1 ((((UInt8.toNat (List.getD s.data.toList 0 0)):Nat):Int)==(32:Int)) h3
 else
 (if ((((UInt8.toNat (List.getD s.data.toList 0 0)):Nat):Int)==(45:Int))=true then
 k1 ((((UInt8.toNat (List.getD s.data.toList 0 0)):Nat):Int)==(45:Int)) h3
 else
 (if ((((UInt8.toNat (List.getD s.data.toList 0 0)):Nat):Int)==(48:Int))=true then
 k1 ((((UInt8.toNat (List.getD s.data.toList 0 0)):Nat):Int)==(48:Int)) h3
 else
 (if ((((UInt8.toNat (List.getD s.data.toList 0 0)):Nat):Int)==(61:Int))=true then
 k1 ((((UInt8.toNat (List.getD s.data.toList 0 0)):Nat):Int)==(61:Int)) h3
 else
 k1 ((((UInt8.toNat (List.getD s.data.toList 0 0)):Nat):Int)==(9:Int)) h3)))))
 (fun t43 h4=>
 (if t43=true then
 EffC (some (decide ((IntKind.wrap .i64 r1)≤(128:Int)))) (CallT P zfv [(.string ⟨(List.replicate 128 32).toArray⟩),(.string s)] zae) (fun r2 h5=>
 LetW ((decide ((IntKind.wrap .i64 r1)≤(128:Int)))&&r2) fun y=>
 (if y=true then
 (((0:Int)≤(IntKind.wrap .i64 r1)∧(IntKind.wrap .i64 r1)≤(128:Int))∧Q (ByteArray.extract ⟨(List.replicate 128 32).toArray⟩ 0 (Int.toNat (IntKind.wrap .i64 r1))) h5)
 else
 EffC (some (decide ((IntKind.wrap .i64 r1)≤(128:Int)))) (CallT P zfv [(.string ⟨(List.replicate 128 45).toArray⟩),(.string s)] zae) (fun r3 h6=>
 LetW ((decide ((IntKind.wrap .i64 r1)≤(128:Int)))&&r3) fun y1=>
 (if y1=true then
 (((0:Int)≤(IntKind.wrap .i64 r1)∧(IntKind.wrap .i64 r1)≤(128:Int))∧Q (ByteArray.extract ⟨(List.replicate 128 45).toArray⟩ 0 (Int.toNat (IntKind.wrap .i64 r1))) h6)
 else
 EffC (some (decide ((IntKind.wrap .i64 r1)≤(64:Int)))) (CallT P zfv [(.string ⟨(List.replicate 64 48).toArray⟩),(.string s)] zae) (fun r4 h7=>
 LetW ((decide ((IntKind.wrap .i64 r1)≤(64:Int)))&&r4) fun y2=>
 (if y2=true then
 (((0:Int)≤(IntKind.wrap .i64 r1)∧(IntKind.wrap .i64 r1)≤(64:Int))∧Q (ByteArray.extract ⟨(List.replicate 64 48).toArray⟩ 0 (Int.toNat (IntKind.wrap .i64 r1))) h7)
 else
 EffC (some (decide ((IntKind.wrap .i64 r1)≤(128:Int)))) (CallT P zfv [(.string ⟨(List.replicate 128 61).toArray⟩),(.string s)] zae) (fun r5 h8=>
 LetW ((decide ((IntKind.wrap .i64 r1)≤(128:Int)))&&r5) fun y3=>
 (if y3=true then
 (((0:Int)≤(IntKind.wrap .i64 r1)∧(IntKind.wrap .i64 r1)≤(128:Int))∧Q (ByteArray.extract ⟨(List.replicate 128 61).toArray⟩ 0 (Int.toNat (IntKind.wrap .i64 r1))) h8)
 else
 EffC (some (decide ((IntKind.wrap .i64 r1)≤(64:Int)))) (CallT P zfv [(.string ⟨(List.replicate 64 9).toArray⟩),(.string s)] zae) (fun r6 h9=>
 LetW ((decide ((IntKind.wrap .i64 r1)≤(64:Int)))&&r6) fun y4=>
 (if y4=true then
 (((0:Int)≤(IntKind.wrap .i64 r1)∧(IntKind.wrap .i64 r1)≤(64:Int))∧Q (ByteArray.extract ⟨(List.replicate 64 9).toArray⟩ 0 (Int.toNat (IntKind.wrap .i64 r1))) h9)
 else
 k h9)) h8)) h7)) h6)) h5)) h4
 else
 k h4)))
 (fun h4=>
 JoinW1 (α1:=Int) (fun k=>
 (if (decide ((IntKind.wrap .i64 r1)>(8192:Int)))=true then
 ((((ByteArray.size s):Nat):Int)≠(0:Int)∧(if ((IntKind.wrap .i64 ((IntKind.wrap .i64 (Int.tdiv (8192:Int) (((ByteArray.size s):Nat):Int)))*(((ByteArray.size s):Nat):Int)))==(0:Int))=true then
 k (((ByteArray.size s):Nat):Int) h4
 else
 k (IntKind.wrap .i64 ((IntKind.wrap .i64 (Int.tdiv (8192:Int) (((ByteArray.size s):Nat):Int)))*(((ByteArray.size s):Nat):Int))) h4))
 else
 k (IntKind.wrap .i64 r1) h4))
 (fun chunkMax h5=>
 NewTW 76 [(.pointer none),(.slice none 0 0)] (fun a h6=>
 Call0 P zyw [(.pointer (some a)),(.int .i64 (IntKind.wrap .i64 r1))] (fun h7=>
 Call2 P zbt [(.pointer (some a)),(.string s)] (shInt .i64) zah (fun r2 r3 h8=>
 LoopW0 (fun again h9=>
 CallT P zkl [(.pointer (some a))] (shInt .i64) (fun r4 h10=>
 (if (decide (r4<(IntKind.wrap .i64 r1)))=true then
 CallT P zkl [(.pointer (some a))] (shInt .i64) (fun r5 h11=>
 CallT P zkl [(.pointer (some a))] (shInt .i64) (fun r6 h12=>
 CallT P zeo [(.pointer (some a))] shStr (fun r7 h13=>
 (((0:Int)≤(min2I (min2I (IntKind.wrap .i64 ((IntKind.wrap .i64 r1)-r5)) r6) chunkMax)∧(min2I (min2I (IntKind.wrap .i64 ((IntKind.wrap .i64 r1)-r5)) r6) chunkMax)≤(((ByteArray.size r7):Nat):Int))∧Call2 P zbt [(.pointer (some a)),(.string (ByteArray.extract r7 0 (Int.toNat (min2I (min2I (IntKind.wrap .i64 ((IntKind.wrap .i64 r1)-r5)) r6) chunkMax))))] (shInt .i64) zah (fun r8 r9 h14=>
 again h14) h13)) h12) h11) h10
 else
 CallT P zeo [(.pointer (some a))] shStr (fun r5 h11=>
 Q r5 h11) h10)) h9)  h8) h7) h6) h5)))))) h1)))
def zgp (P:Program) (s:ByteArray) (sep:ByteArray) (Q:(ByteArray→(ByteArray→(Bool→(Hp→Prop))))) (h:Hp):Prop:=
 CallT P zju [(.string s),(.string sep)] (shInt .i64) (fun r h1=>
 (if (decide (r≥(0:Int)))=true then
 (((0:Int)≤r∧r≤(((ByteArray.size s):Nat):Int))∧(((0:Int)≤(IntKind.wrap .i64 (r+(((ByteArray.size sep):Nat):Int)))∧(IntKind.wrap .i64 (r+(((ByteArray.size sep):Nat):Int)))≤(((ByteArray.size s):Nat):Int))∧Q (ByteArray.extract s 0 (Int.toNat r)) (ByteArray.extract s (Int.toNat (IntKind.wrap .i64 (r+(((ByteArray.size sep):Nat):Int)))) (ByteArray.size s)) true h1))
 else
 Q s ⟨#[]⟩ false h1)) h
def zei (P:Program) (f:Nat) (fmt:Int) (prec:Int) (bitSize:Int) (Q:(ByteArray→(Hp→Prop))) (h:Hp):Prop:=
 (if (bitSize==(32:Int))=true then
 MakeW 1 [(.int .u8 (0:Int))] (0:Int) (max2I (IntKind.wrap .i64 (prec+(4:Int))) (24:Int)) (fun r h1=>
 SemV none P (convert 48 120 (.float .f64 f)) (shFlt .f32) h1 fun x=>
 CallT P zup [r.v,(.float .f32 x),(.int .u8 fmt),(.int .i64 prec)] shSl (fun r1 h2=>
 SemV none P (convert 74 9 r1.v) shStr h2 fun x1=>
 Q x1 h2) h1) h
 else
 (if (bitSize==(64:Int))=true then
 MakeW 1 [(.int .u8 (0:Int))] (0:Int) (max2I (IntKind.wrap .i64 (prec+(4:Int))) (24:Int)) (fun r h1=>
 CallT P zma [r.v,(.float .f64 f),(.int .u8 fmt),(.int .i64 prec)] shSl (fun r1 h2=>
 SemV none P (convert 74 9 r1.v) shStr h2 fun x=>
 Q x h2) h1) h
 else
 False))
def znx (P:Program) (s:ByteArray) (Q:(Int→(Leaf→(Hp→Prop)))) (h:Hp):Prop:=
 LetW ((decide ((0:Int)<(((ByteArray.size s):Nat):Int)))&&(decide ((((ByteArray.size s):Nat):Int)<(10:Int)))) fun y=>
 LetW (false&&y) fun y1=>
 LetW ((decide ((0:Int)<(((ByteArray.size s):Nat):Int)))&&(decide ((((ByteArray.size s):Nat):Int)<(19:Int)))) fun y2=>
 LetW (true&&y2) fun y3=>
 LetW (y1 || y3) fun y4=>
 (if y4=true then
 JoinW1 (α1:=ByteArray) (fun k=>
 (((0:Int)≤(0:Int)∧(0:Int)<(((ByteArray.size s):Nat):Int))∧(((!((((UInt8.toNat (List.getD s.data.toList 0 0)):Nat):Int)==(45:Int)))=true→((0:Int)≤(0:Int)∧(0:Int)<(((ByteArray.size s):Nat):Int)))∧LetW (((((UInt8.toNat (List.getD s.data.toList 0 0)):Nat):Int)==(45:Int)) || ((((UInt8.toNat (List.getD s.data.toList 0 0)):Nat):Int)==(43:Int))) fun y5=>
 (if y5=true then
 (((0:Int)≤(1:Int)∧(1:Int)≤(((ByteArray.size s):Nat):Int))∧(if (decide ((((ByteArray.size (ByteArray.extract s 1 (ByteArray.size s))):Nat):Int)<(1:Int)))=true then
 EncW zah (.iface 122 (.int .i64 (2:Int))) fun e=>
 Q (0:Int) e h
 else
 k (ByteArray.extract s 1 (ByteArray.size s)) h))
 else
 k s h))))
 (fun s1 h1=>
 zwy1 s1 (fun r h2=>
 LoopW2 (α1:=Int) (α2:=Int) (fun again n t49 h3=>
 (if (decide (t49<((r.len:Nat):Int)))=true then
 ((InB r.base r.len t49)∧LdW none (shInt .u8) h3 (sat r.base 1 t49) fun x=>
 (if (decide ((IntKind.wrap .u8 (x-(48:Int)))>(9:Int)))=true then
 EncW zah (.iface 122 (.int .i64 (2:Int))) fun e=>
 Q (0:Int) e h3
 else
 again (IntKind.wrap .i64 ((IntKind.wrap .i64 (n*(10:Int)))+(IntKind.wrap .i64 (IntKind.wrap .u8 (x-(48:Int)))))) (IntKind.wrap .i64 (t49+(1:Int))) h3))
 else
 (((0:Int)≤(0:Int)∧(0:Int)<(((ByteArray.size s):Nat):Int))∧(if ((((UInt8.toNat (List.getD s.data.toList 0 0)):Nat):Int)==(45:Int))=true then
 EncW zah .nilIface fun e=>
 Q (IntKind.wrap .i64 ((0:Int)-n)) e h3
 else
 EncW zah .nilIface fun e=>
 Q n e h3)))) (0:Int) (0:Int) h2) h1)
 else
 Call2 P zkm [(.string s),(.int .i64 (10:Int)),(.int .i64 (0:Int))] (shInt .i64) zah (fun r r1 h1=>
 EncW zah r1.v fun e=>
 Q r e h1) h)
def zny (P:Program) (i:Int) (Q:(ByteArray→(Hp→Prop))) (h:Hp):Prop:=
 CallT P zfe [(.int .i64 i),(.int .i64 (10:Int))] shStr (fun r h1=>
 Q r h1) h
def zis (P:Program) (b:Int) (Q:(Int→(Int→(Hp→Prop)))) (h:Hp):Prop:=
 CallT P zrr [(.int .u64 b)] (shInt .i64) (fun r h1=>
 LoopW1 (α1:=Int) (fun again n h2=>
 (if (decide (n≤(17:Int)))=true then
 Call2 P zjg [(.int .u64 b),(.int .i64 (IntKind.wrap .i64 ((IntKind.wrap .i64 (r-n))+(1:Int))))] (shInt .u64) (shInt .i64) (fun r1 r2 h3=>
 CallT P zkj [(.int .u64 b),(.int .u64 r1),(.int .i64 (IntKind.wrap .i64 ((IntKind.wrap .i64 (r-n))+(1:Int))))] (shInt .i64) (fun r3 h4=>
 CallT P zkj [(.int .u64 b),(.int .u64 (IntKind.wrap .u64 (r1+(1:Int)))),(.int .i64 (IntKind.wrap .i64 ((IntKind.wrap .i64 (r-n))+(1:Int))))] (shInt .i64) (fun r4 h5=>
 LetW ((!(r3==(0:Int)))&&(!(r4==(0:Int)))) fun y=>
 (if y=true then
 again (IntKind.wrap .i64 (n+(1:Int))) h5
 else
 JoinW1 (α1:=Int) (fun k=>
 ((((((!(!(r3==(0:Int))))&&(r4==(0:Int)))&&(!(decide (r2>(0:Int)))))&&(r2==(0:Int)))=true→(2:Int)≠(0:Int))∧LetW ((r2==(0:Int))&&((Int.tmod r1 (2:Int))==(1:Int))) fun y1=>
 LetW ((decide (r2>(0:Int))) || y1) fun y2=>
 LetW ((r4==(0:Int))&&y2) fun y3=>
 LetW ((!(r3==(0:Int))) || y3) fun y4=>
 (if y4=true then
 k (IntKind.wrap .u64 (r1+(1:Int))) h5
 else
 k r1 h5)))
 (fun c h6=>
 LoopW2 (α1:=Int) (α2:=Int) (fun again1 s c1 h7=>
 ((10:Int)≠(0:Int)∧(if ((Int.tmod c1 (10:Int))==(0:Int))=true then
 ((10:Int)≠(0:Int)∧again1 (IntKind.wrap .i64 (s+(1:Int))) (IntKind.wrap .u64 (Int.tdiv c1 (10:Int))) h7)
 else
 CallT P zdf [(.int .u64 c1)] shStr (fun r5 h8=>
 Q c1 (IntKind.wrap .i64 ((IntKind.wrap .i64 (s+(((ByteArray.size r5):Nat):Int)))-(1:Int))) h8) h7))) (IntKind.wrap .i64 ((IntKind.wrap .i64 (r-n))+(1:Int))) c h6))) h4) h3) h2
 else
 Q (0:Int) (0:Int) h2)) (1:Int) h1) h
def zit (P:Program) (n:Int) (Q:(ByteArray→(Hp→Prop))) (h:Hp):Prop:=
 NewW [] (fun a h1=>
 LoopW2 (α1:=Int) (α2:=Sl) (fun again n1 b h2=>
 (if (decide (n1≥(10:Int)))=true then
 ((10:Int)≠(0:Int)∧NewW [(.int .u8 (IntKind.wrap .u8 (IntKind.wrap .u64 ((48:Int)+(Int.tmod n1 (10:Int))))))] (fun a1 h3=>
 zbh 1 1 [(.int .u8 (0:Int))] ⟨b.base,b.len,b.cap⟩ ⟨(some a1),1,1⟩ (fun r h4=>
 ((10:Int)≠(0:Int)∧again (IntKind.wrap .u64 (Int.tdiv n1 (10:Int))) r h4)) h3) h2)
 else
 NewW [(.int .u8 (IntKind.wrap .u8 (IntKind.wrap .u64 ((48:Int)+n1))))] (fun a1 h3=>
 zbh 1 1 [(.int .u8 (0:Int))] ⟨b.base,b.len,b.cap⟩ ⟨(some a1),1,1⟩ (fun r h4=>
 LoopW1 (α1:=Int) (fun again1 i h5=>
 ((2:Int)≠(0:Int)∧(if (decide (i<(IntKind.wrap .i64 (Int.tdiv ((r.len:Nat):Int) (2:Int)))))=true then
 ((InB r.base r.len i)∧LdW none (shInt .u8) h5 (sat r.base 1 i) fun x=>
 ((InB r.base r.len (IntKind.wrap .i64 ((IntKind.wrap .i64 (((r.len:Nat):Int)-(1:Int)))-i)))∧LdW none (shInt .u8) h5 (sat r.base 1 (IntKind.wrap .i64 ((IntKind.wrap .i64 (((r.len:Nat):Int)-(1:Int)))-i))) fun x1=>
 ((InB r.base r.len i)∧StW h5 (sat r.base 1 i) [(.int .u8 x1)] (fun h6=>
 ((InB r.base r.len (IntKind.wrap .i64 ((IntKind.wrap .i64 (((r.len:Nat):Int)-(1:Int)))-i)))∧StW h6 (sat r.base 1 (IntKind.wrap .i64 ((IntKind.wrap .i64 (((r.len:Nat):Int)-(1:Int)))-i))) [(.int .u8 x)] (fun h7=>
 again1 (IntKind.wrap .i64 (i+(1:Int))) h7))))))
 else
 SemV none P (convert 74 9 r.v) shStr h5 fun x=>
 Q x h5))) (0:Int) h4) h3) h2)) n ⟨(some a),0,0⟩ h1) h
def zhi (P:Program) (s:ByteArray) (prefix_:ByteArray) (Q:(ByteArray→(Bool→(Hp→Prop)))) (h:Hp):Prop:=
 CallT P zhg [(.string s),(.string prefix_)] zae (fun r h1=>
 (if (!r)=true then
 Q s false h1
 else
 (((0:Int)≤(((ByteArray.size prefix_):Nat):Int)∧(((ByteArray.size prefix_):Nat):Int)≤(((ByteArray.size s):Nat):Int))∧Q (ByteArray.extract s (Int.toNat (((ByteArray.size prefix_):Nat):Int)) (ByteArray.size s)) true h1))) h
def zby (P:Program) (s:ByteArray) (base:Int) (bitSize:Int) (Q:(Int→(Leaf→(Hp→Prop)))) (h:Hp):Prop:=
 (if ((ByteArray.toList s)==(ByteArray.toList ⟨#[]⟩))=true then
 EncW zah (.iface 122 (.int .i64 (2:Int))) fun e=>
 Q (0:Int) e h
 else
 JoinW2 (α1:=ByteArray) (α2:=Int) (fun k=>
 LetW ((decide ((2:Int)≤base))&&(decide (base≤(36:Int)))) fun y=>
 (if y=true then
 k s base h
 else
 (if (base==(0:Int))=true then
 (((0:Int)≤(0:Int)∧(0:Int)<(((ByteArray.size s):Nat):Int))∧(if ((((UInt8.toNat (List.getD s.data.toList 0 0)):Nat):Int)==(48:Int))=true then
 JoinW2 (α1:=ByteArray) (α2:=Int) (fun k1=>
 (((decide ((((ByteArray.size s):Nat):Int)≥(3:Int)))=true→((0:Int)≤(1:Int)∧(1:Int)<(((ByteArray.size s):Nat):Int)))∧EffC (some (decide ((((ByteArray.size s):Nat):Int)≥(3:Int)))) (CallT P zaf [(.int .u8 (((UInt8.toNat (List.getD s.data.toList 1 0)):Nat):Int))] (shInt .u8)) (fun r h1=>
 LetW ((decide ((((ByteArray.size s):Nat):Int)≥(3:Int)))&&(r==(98:Int))) fun y1=>
 (if y1=true then
 (((0:Int)≤(2:Int)∧(2:Int)≤(((ByteArray.size s):Nat):Int))∧k1 (ByteArray.extract s 2 (ByteArray.size s)) (2:Int) h1)
 else
 (((decide ((((ByteArray.size s):Nat):Int)≥(3:Int)))=true→((0:Int)≤(1:Int)∧(1:Int)<(((ByteArray.size s):Nat):Int)))∧EffC (some (decide ((((ByteArray.size s):Nat):Int)≥(3:Int)))) (CallT P zaf [(.int .u8 (((UInt8.toNat (List.getD s.data.toList 1 0)):Nat):Int))] (shInt .u8)) (fun r1 h2=>
 LetW ((decide ((((ByteArray.size s):Nat):Int)≥(3:Int)))&&(r1==(111:Int))) fun y2=>
 (if y2=true then
 (((0:Int)≤(2:Int)∧(2:Int)≤(((ByteArray.size s):Nat):Int))∧k1 (ByteArray.extract s 2 (ByteArray.size s)) (8:Int) h2)
 else
 (((decide ((((ByteArray.size s):Nat):Int)≥(3:Int)))=true→((0:Int)≤(1:Int)∧(1:Int)<(((ByteArray.size s):Nat):Int)))∧EffC (some (decide ((((ByteArray.size s):Nat):Int)≥(3:Int)))) (CallT P zaf [(.int .u8 (((UInt8.toNat (List.getD s.data.toList 1 0)):Nat):Int))] (shInt .u8)) (fun r2 h3=>
 LetW ((decide ((((ByteArray.size s):Nat):Int)≥(3:Int)))&&(r2==(120:Int))) fun y3=>
 (if y3=true then
 (((0:Int)≤(2:Int)∧(2:Int)≤(((ByteArray.size s):Nat):Int))∧k1 (ByteArray.extract s 2 (ByteArray.size s)) (16:Int) h3)
 else
 (((0:Int)≤(1:Int)∧(1:Int)≤(((ByteArray.size s):Nat):Int))∧k1 (ByteArray.extract s 1 (ByteArray.size s)) (8:Int) h3))) h2))) h1))) h))
 (fun s1 base1 h1=>
 k s1 base1 h1)
 else
 k s (10:Int) h))
 else
 EncW zah (.iface 122 (.int .i64 (3:Int))) fun e=>
 Q (0:Int) e h)))
 (fun s1 base1 h1=>
 JoinW1 (α1:=Int) (fun k=>
 (if (bitSize==(0:Int))=true then
 k (64:Int) h1
 else
 LetW ((decide (bitSize<(0:Int))) || (decide (bitSize>(64:Int)))) fun y=>
 (if y=true then
 EncW zah (.iface 122 (.int .i64 (4:Int))) fun e=>
 Q (0:Int) e h1
 else
 k bitSize h1)))
 (fun bitSize1 h2=>
 JoinW1 (α1:=Int) (fun k=>
 (if (base1==(10:Int))=true then
 k (1844674407370955162:Int) h2
 else
 (if (base1==(16:Int))=true then
 k (1152921504606846976:Int) h2
 else
 ((IntKind.wrap .u64 base1)≠(0:Int)∧k (IntKind.wrap .u64 ((IntKind.wrap .u64 (Int.tdiv (18446744073709551615:Int) (IntKind.wrap .u64 base1)))+(1:Int))) h2))))
 (fun cutoff h3=>
 ((0:Int)≤(IntKind.wrap .u64 bitSize1)∧zwy1 s1 (fun r h4=>
 LoopW3 (α1:=Bool) (α2:=Int) (α3:=Int) (fun again underscores n t101 h5=>
 (if (decide (t101<((r.len:Nat):Int)))=true then
 JoinW2 (α1:=Bool) (α2:=Int) (fun k=>
 ((InB r.base r.len t101)∧LdW none (shInt .u8) h5 (sat r.base 1 t101) fun x=>
 JoinW2 (α1:=Bool) (α2:=Int) (fun k1=>
 LetW ((x==(95:Int))&&(base==(0:Int))) fun y=>
 (if y=true then
 k true n h5
 else
 LetW ((decide ((48:Int)≤x))&&(decide (x≤(57:Int)))) fun y1=>
 (if y1=true then
 k1 underscores (IntKind.wrap .u8 (x-(48:Int))) h5
 else
 CallT P zaf [(.int .u8 x)] (shInt .u8) (fun r1 h6=>
 EffC (some (decide ((97:Int)≤r1))) (CallT P zaf [(.int .u8 x)] (shInt .u8)) (fun r2 h7=>
 LetW ((decide ((97:Int)≤r1))&&(decide (r2≤(122:Int)))) fun y2=>
 (if y2=true then
 CallT P zaf [(.int .u8 x)] (shInt .u8) (fun r3 h8=>
 k1 underscores (IntKind.wrap .u8 ((IntKind.wrap .u8 (r3-(97:Int)))+(10:Int))) h8) h7
 else
 EncW zah (.iface 122 (.int .i64 (2:Int))) fun e=>
 Q (0:Int) e h7)) h6) h5)))
 (fun underscores1 d h6=>
 (if (decide (d≥(IntKind.wrap .u8 base1)))=true then
 EncW zah (.iface 122 (.int .i64 (2:Int))) fun e=>
 Q (0:Int) e h6
 else
 (if (decide (n≥cutoff))=true then
 EncW zah (.iface 122 (.int .i64 (1:Int))) fun e=>
 Q (IntKind.wrap .u64 ((shlI .u64 (1:Int) (IntKind.wrap .u64 bitSize1))-(1:Int))) e h6
 else
 LetW ((decide ((IntKind.wrap .u64 ((IntKind.wrap .u64 (n*(IntKind.wrap .u64 base1)))+(IntKind.wrap .u64 d)))<(IntKind.wrap .u64 (n*(IntKind.wrap .u64 base1))))) || (decide ((IntKind.wrap .u64 ((IntKind.wrap .u64 (n*(IntKind.wrap .u64 base1)))+(IntKind.wrap .u64 d)))>(IntKind.wrap .u64 ((shlI .u64 (1:Int) (IntKind.wrap .u64 bitSize1))-(1:Int)))))) fun y=>
 (if y=true then
 EncW zah (.iface 122 (.int .i64 (1:Int))) fun e=>
 Q (IntKind.wrap .u64 ((shlI .u64 (1:Int) (IntKind.wrap .u64 bitSize1))-(1:Int))) e h6
 else
 k underscores1 (IntKind.wrap .u64 ((IntKind.wrap .u64 (n*(IntKind.wrap .u64 base1)))+(IntKind.wrap .u64 d))) h6))))))
 (fun underscores1 n1 h6=>
 again underscores1 n1 (IntKind.wrap .i64 (t101+(1:Int))) h6)
 else
 EffC (some underscores) (CallT P zds [(.string s)] zae) (fun r1 h6=>
 LetW (underscores&&(!r1)) fun y=>
 (if y=true then
 EncW zah (.iface 122 (.int .i64 (2:Int))) fun e=>
 Q (0:Int) e h6
 else
 EncW zah .nilIface fun e=>
 Q n e h6)) h5)) false (0:Int) (0:Int) h4) h3)))))
def zet (P:Program) (s:ByteArray) (bitSize:Int) (Q:(Nat→(Leaf→(Hp→Prop)))) (h:Hp):Prop:=
 Call3 P zcr [(.string s),(.int .i64 bitSize)] (shFlt .f64) (shInt .i64) zah (fun r r1 r2 h1=>
 (if (r1 !=(((ByteArray.size s):Nat):Int))=true then
 EncW zah (.iface 122 (.int .i64 (2:Int))) fun e=>
 Q 0 e h1
 else
 EncW zah r2.v fun e=>
 Q r e h1)) h
def zkr (P:Program) (b:Int) (c:Int) (s:Int) (Q:(Int→(Hp→Prop))) (h:Hp):Prop:=
 Call2 P zdq [(.int .u64 b)] (shInt .u64) (shInt .i64) (fun r r1 h1=>
 JoinW1 (α1:=Int) (fun k=>
 (((r==(4503599627370496:Int))=true→(0:Int)≤(52:Int))∧LetW ((r==(4503599627370496:Int))&&(decide ((shrI .u64 b (52:Int))>(1:Int)))) fun y=>
 (if y=true then
 k (IntKind.wrap .u64 ((IntKind.wrap .u64 ((4:Int)*r))-(1:Int))) h1
 else
 k (IntKind.wrap .u64 ((IntKind.wrap .u64 ((4:Int)*r))-(2:Int))) h1)))
 (fun low h2=>
 ((2:Int)≠(0:Int)∧CallT P zep [(.int .u64 c),(.int .i64 s),(.int .u64 low),(.int .i64 (IntKind.wrap .i64 (r1-(2:Int))))] (shInt .i64) (fun r2 h3=>
 LetW ((r2==(0:Int))&&(!((Int.tmod r (2:Int))==(0:Int)))) fun y=>
 LetW ((decide (r2<(0:Int))) || y) fun y1=>
 (if y1=true then
 Q (-1:Int) h3
 else
 CallT P zep [(.int .u64 c),(.int .i64 s),(.int .u64 (IntKind.wrap .u64 ((IntKind.wrap .u64 ((4:Int)*r))+(2:Int)))),(.int .i64 (IntKind.wrap .i64 (r1-(2:Int))))] (shInt .i64) (fun r3 h4=>
 LetW ((r3==(0:Int))&&(!((Int.tmod r (2:Int))==(0:Int)))) fun y2=>
 LetW ((decide (r3>(0:Int))) || y2) fun y3=>
 (if y3=true then
 Q (1:Int) h4
 else
 Q (0:Int) h4)) h3)) h2))) h
def zgd1 (P:Program) (op:Int) (Q:(ByteArray→(Hp→Prop))) (h:Hp):Prop:=
 (((0:Int)≤op∧op<(34:Int))∧∃x:ByteArray,((List.get?Internal (α:=Value) [(.string ⟨#[101,120,105,116]⟩),(.string ⟨#[115,101,116]⟩),(.string ⟨#[109,111,118,101]⟩),(.string ⟨#[97,100,100]⟩),(.string ⟨#[115,117,98]⟩),(.string ⟨#[109,117,108]⟩),(.string ⟨#[100,105,118]⟩),(.string ⟨#[114,101,109]⟩),(.string ⟨#[97,110,100]⟩),(.string ⟨#[111,114]⟩),(.string ⟨#[120,111,114]⟩),(.string ⟨#[115,104,108]⟩),(.string ⟨#[115,104,114]⟩),(.string ⟨#[108,101,115,115]⟩),(.string ⟨#[101,113,117,97,108]⟩),(.string ⟨#[102,97,100,100]⟩),(.string ⟨#[102,115,117,98]⟩),(.string ⟨#[102,109,117,108]⟩),(.string ⟨#[102,100,105,118]⟩),(.string ⟨#[102,108,101,115,115]⟩),(.string ⟨#[116,111,102,108,111,97,116]⟩),(.string ⟨#[116,111,105,110,116]⟩),(.string ⟨#[106,117,109,112]⟩),(.string ⟨#[105,102]⟩),(.string ⟨#[115,101,110,100]⟩),(.string ⟨#[114,101,99,118]⟩),(.string ⟨#[116,114,121]⟩),(.string ⟨#[116,105,109,101,114]⟩),(.string ⟨#[115,108,101,101,112]⟩),(.string ⟨#[108,111,99,107]⟩),(.string ⟨#[117,110,108,111,99,107]⟩),(.string ⟨#[111,117,116]⟩),(.string ⟨#[110,111,119]⟩),(.string ⟨#[115,101,108,102]⟩)] ((Int.toNat op)*1))=(some (.string x))∧Q x h))
def zxt (P:Program) (op:Int) (Q:(Bool→(Bool→(Bool→(Bool→(Hp→Prop)))))) (h:Hp):Prop:=
 CallT P zez1 [(.int .i64 op)] shStr (fun r h1=>
 NewW [(.string ⟨#[]⟩)] (fun a h2=>
 StW h2 a [(.string r)] (fun h3=>
 CallV P tb (.func (.func 114) #[] #[(.pointer (some a))]) [(.string ⟨#[97]⟩)] zae (fun r1 h4=>
 CallV P tb (.func (.func 114) #[] #[(.pointer (some a))]) [(.string ⟨#[98]⟩)] zae (fun r2 h5=>
 CallV P tb (.func (.func 114) #[] #[(.pointer (some a))]) [(.string ⟨#[99]⟩)] zae (fun r3 h6=>
 CallV P tb (.func (.func 114) #[] #[(.pointer (some a))]) [(.string ⟨#[105]⟩)] zae (fun r4 h7=>
 Q r1 r2 r3 r4 h7) h6) h5) h4) h3)) h1) h
def zus (P:Program) (n:Int) (Q:(ByteArray→(Hp→Prop))) (h:Hp):Prop:=
 CallT P zgz [(.int .i64 n)] shStr (fun r h1=>
 ((1+(ByteArray.size r))≤9223372036854775807∧Q ⟨⟨(114::r.data.toList)⟩⟩ h1)) h
def zah1 (P:Program) (x:S_api_Ins) (Q:(ByteArray→(Hp→Prop))) (h:Hp):Prop:=
 EffC (some (x.Op==(1:Int))) (CallT P zxn [(.int .i64 x.Imm)] zae) (fun r h1=>
 LetW ((x.Op==(1:Int))&&(!r)) fun y=>
 (if y=true then
 CallT P zpf [(.int .i64 x.Imm)] shStr (fun r1 h2=>
 ((1+(ByteArray.size r1))≤9223372036854775807∧Q ⟨⟨(102::r1.data.toList)⟩⟩ h2)) h1
 else
 CallT P zfw [(.int .i64 x.Imm),(.int .i64 (10:Int))] shStr (fun r1 h2=>
 Q r1 h2) h1)) h
def zge1 (P:Program) (words:Sl) (Q:(ByteArray→(Hp→Prop))) (h:Hp):Prop:=
 CallT P zct1 [words.v,(.string ⟨#[32]⟩)] shStr (fun r h1=>
 (((ByteArray.size r)+1)≤9223372036854775807∧Q ⟨⟨(List.append r.data.toList [10])⟩⟩ h1)) h
def zjm (P:Program) (x:S_api_Ins) (n:Int) (locks:Int) (Q:(Int→(Hp→Prop))) (h:Hp):Prop:=
 Call2 P zjh [x.v,(.int .i64 n),(.int .i64 locks)] (shInt .i64) (shInt .i64) (fun r r1 h1=>
 Q r h1) h
def zks (P:Program) (op:Int) (Q:(ByteArray→(Hp→Prop))) (h:Hp):Prop:=
 (((0:Int)≤op∧op<(34:Int))∧∃x:ByteArray,((List.get?Internal (α:=Value) [(.string ⟨#[101,120,105,116]⟩),(.string ⟨#[115,101,116]⟩),(.string ⟨#[109,111,118,101]⟩),(.string ⟨#[97,100,100]⟩),(.string ⟨#[115,117,98]⟩),(.string ⟨#[109,117,108]⟩),(.string ⟨#[100,105,118]⟩),(.string ⟨#[114,101,109]⟩),(.string ⟨#[97,110,100]⟩),(.string ⟨#[111,114]⟩),(.string ⟨#[120,111,114]⟩),(.string ⟨#[115,104,108]⟩),(.string ⟨#[115,104,114]⟩),(.string ⟨#[108,101,115,115]⟩),(.string ⟨#[101,113,117,97,108]⟩),(.string ⟨#[102,97,100,100]⟩),(.string ⟨#[102,115,117,98]⟩),(.string ⟨#[102,109,117,108]⟩),(.string ⟨#[102,100,105,118]⟩),(.string ⟨#[102,108,101,115,115]⟩),(.string ⟨#[116,111,102,108,111,97,116]⟩),(.string ⟨#[116,111,105,110,116]⟩),(.string ⟨#[106,117,109,112]⟩),(.string ⟨#[105,102]⟩),(.string ⟨#[115,101,110,100]⟩),(.string ⟨#[114,101,99,118]⟩),(.string ⟨#[116,114,121]⟩),(.string ⟨#[116,105,109,101,114]⟩),(.string ⟨#[115,108,101,101,112]⟩),(.string ⟨#[108,111,99,107]⟩),(.string ⟨#[117,110,108,111,99,107]⟩),(.string ⟨#[111,117,116]⟩),(.string ⟨#[110,111,119]⟩),(.string ⟨#[115,101,108,102]⟩)] (0+((Int.toNat op)*1)))=(some (.string x))∧Q x h))
def ziu (P:Program) (op:Int) (Q:(Bool→(Bool→(Bool→(Bool→(Hp→Prop)))))) (h:Hp):Prop:=
 (if (op==(1:Int))=true then
 Q true false false true h
 else
 JoinW1 (α1:=Bool) (fun k=>
 (if (op==(2:Int))=true then
 k (op==(2:Int)) h
 else
 (if (op==(20:Int))=true then
 k (op==(20:Int)) h
 else
 (if (op==(21:Int))=true then
 k (op==(21:Int)) h
 else
 (if (op==(25:Int))=true then
 k (op==(25:Int)) h
 else
 k (op==(26:Int)) h)))))
 (fun t9 h1=>
 (if t9=true then
 Q true true false false h1
 else
 JoinW1 (α1:=Bool) (fun k=>
 (if (op==(3:Int))=true then
 k (op==(3:Int)) h1
 else
 (if (op==(4:Int))=true then
 k (op==(4:Int)) h1
 else
 (if (op==(5:Int))=true then
 k (op==(5:Int)) h1
 else
 (if (op==(6:Int))=true then
 k (op==(6:Int)) h1
 else
 (if (op==(7:Int))=true then
 k (op==(7:Int)) h1
 else
 (if (op==(8:Int))=true then
 k (op==(8:Int)) h1
 else
 (if (op==(9:Int))=true then
 k (op==(9:Int)) h1
 else
 (if (op==(10:Int))=true then
 k (op==(10:Int)) h1
 else
 (if (op==(11:Int))=true then
 k (op==(11:Int)) h1
 else
 (if (op==(12:Int))=true then
 k (op==(12:Int)) h1
 else
 (if (op==(13:Int))=true then
 k (op==(13:Int)) h1
 else
 k (op==(14:Int)) h1))))))))))))
 (fun t15 h2=>
 (if t15=true then
 Q true true true false h2
 else
 JoinW1 (α1:=Bool) (fun k=>
 (if (op==(15:Int))=true then
 k (op==(15:Int)) h2
 else
 (if (op==(16:Int))=true then
 k (op==(16:Int)) h2
 else
 (if (op==(17:Int))=true then
 k (op==(17:Int)) h2
 else
 (if (op==(18:Int))=true then
 k (op==(18:Int)) h2
 else
 (if (op==(19:Int))=true then
 k (op==(19:Int)) h2
 else
 k (op==(24:Int)) h2))))))
 (fun t28 h3=>
 (if t28=true then
 Q true true true false h3
 else
 JoinW1 (α1:=Bool) (fun k=>
 (if (op==(22:Int))=true then
 k (op==(22:Int)) h3
 else
 (if (op==(29:Int))=true then
 k (op==(29:Int)) h3
 else
 k (op==(30:Int)) h3)))
 (fun t35 h4=>
 (if t35=true then
 Q false false false true h4
 else
 (if (op==(23:Int))=true then
 Q true false false true h4
 else
 JoinW1 (α1:=Bool) (fun k=>
 (if (op==(27:Int))=true then
 k (op==(27:Int)) h4
 else
 (if (op==(28:Int))=true then
 k (op==(28:Int)) h4
 else
 (if (op==(31:Int))=true then
 k (op==(31:Int)) h4
 else
 (if (op==(32:Int))=true then
 k (op==(32:Int)) h4
 else
 k (op==(33:Int)) h4)))))
 (fun t41 h5=>
 (if t41=true then
 Q true false false false h5
 else
 Q false false false false h5))))))))))))
def zlt (P:Program) (x:S_api_Ins) (Q:(ByteArray→(Hp→Prop))) (h:Hp):Prop:=
 LetW ((decide (x.Imm<(-4503599627370496:Int))) || (decide (x.Imm>(4503599627370496:Int)))) fun y=>
 LetW ((x.Op==(1:Int))&&y) fun y1=>
 (if y1=true then
 CallT P zow [(.int .i64 x.Imm)] shStr (fun r h1=>
 ((1+(ByteArray.size r))≤9223372036854775807∧Q ⟨⟨(102::r.data.toList)⟩⟩ h1)) h
 else
 CallT P zfw [(.int .i64 x.Imm),(.int .i64 (10:Int))] shStr (fun r h1=>
 Q r h1) h)
def zoj1 (P:Program) (s:ByteArray) (Q:(Int→(Bool→(Hp→Prop)))) (h:Hp):Prop:=
 LoopW1 (α1:=Int) (fun again t5 h1=>
 (if (decide (t5<(34:Int)))=true then
 CallT P zgb1 [(.int .i64 t5)] shStr (fun r h2=>
 (if ((ByteArray.toList r)==(ByteArray.toList s))=true then
 Q t5 true h2
 else
 again (IntKind.wrap .i64 (t5+(1:Int))) h2)) h1
 else
 Q (0:Int) false h1)) (0:Int) h
def zkt (P:Program) (r:Option Addr) (has:Bool) (Q:(Int→(Hp→Prop))) (h:Hp):Prop:=
 (if (!has)=true then
 Q (0:Int) h
 else
 Call3 P zjv [(.pointer r)] shStr (shInt .i64) zae (fun r1 r2 r3 h1=>
 (if (!r3)=true then
 Q (0:Int) h1
 else
 LoopW1 (α1:=Int) (fun again t19 h2=>
 (if (decide (t19<(8:Int)))=true then
 CallT P zlz [(.int .i64 t19)] shStr (fun r4 h3=>
 (if ((ByteArray.toList r1)==(ByteArray.toList r4))=true then
 Q t19 h3
 else
 again (IntKind.wrap .i64 (t19+(1:Int))) h3)) h2
 else
 Call0 P zav [(.pointer r),(.int .i64 (10:Int)),(.int .i64 r2)] (fun h3=>
 Q (0:Int) h3) h2)) (0:Int) h1)) h)
def zmm (P:Program) (r:Option Addr) (op:Int) (n:Int) (Q:(Int→(Hp→Prop))) (h:Hp):Prop:=
 Call3 P zjv [(.pointer r)] shStr (shInt .i64) zae (fun r1 r2 r3 h1=>
 (if (!r3)=true then
 Q (0:Int) h1
 else
 JoinW1 (α1:=FnV) (fun k=>
 (if (op==(1:Int))=true then
 k ⟨122, #[], #[]⟩ h1
 else
 k ⟨121, #[], #[]⟩ h1))
 (fun read h2=>
 zle2 P tb (.func (.func read.g) read.first read.captured) [(.string r1)] (shInt .i64) zae (fun r4 r5 h3=>
 (if (!r5)=true then
 Call0 P zav [(.pointer r),(.int .i64 (4:Int)),(.int .i64 r2)] (fun h4=>
 Q r4 h4) h3
 else
 LetW ((op==(22:Int)) || (op==(23:Int))) fun y=>
 LetW ((decide (r4<(0:Int))) || (decide (r4>n))) fun y1=>
 LetW (y&&y1) fun y2=>
 (if y2=true then
 Call0 P zav [(.pointer r),(.int .i64 (12:Int)),(.int .i64 r2)] (fun h4=>
 Q r4 h4) h3
 else
 LetW ((op==(29:Int)) || (op==(30:Int))) fun y3=>
 LetW ((decide (r4<(0:Int))) || (decide (r4≥(8:Int)))) fun y4=>
 LetW (y3&&y4) fun y5=>
 (if y5=true then
 Call0 P zav [(.pointer r),(.int .i64 (13:Int)),(.int .i64 r2)] (fun h4=>
 Q r4 h4) h3
 else
 Q r4 h3)))) h2))) h
def ztg (P:Program) (has:Bool) (n:Int) (Q:(Int→(Hp→Prop))) (h:Hp):Prop:=
 LetW ((!has)&&(n !=(0:Int))) fun y=>
 (if y=true then
 Q (11:Int) h
 else
 LetW ((decide (n<(0:Int))) || (decide (n≥(8:Int)))) fun y1=>
 (if y1=true then
 Q (10:Int) h
 else
 Q (0:Int) h))
def zxu (P:Program) (x:S_api_Ins) (has:Bool) (n:Int) (locks:Int) (Q:(Int→(Hp→Prop))) (h:Hp):Prop:=
 LetW ((!has)&&(x.Imm !=(0:Int))) fun y=>
 (if y=true then
 Q (11:Int) h
 else
 LetW ((x.Op==(22:Int)) || (x.Op==(23:Int))) fun y1=>
 (if y1=true then
 LetW ((decide (x.Imm<(0:Int))) || (decide (x.Imm>n))) fun y2=>
 (if y2=true then
 Q (12:Int) h
 else
 Q (0:Int) h)
 else
 LetW ((x.Op==(29:Int)) || (x.Op==(30:Int))) fun y2=>
 (if y2=true then
 LetW ((decide (x.Imm<(0:Int))) || (decide (x.Imm≥locks))) fun y3=>
 (if y3=true then
 Q (13:Int) h
 else
 Q (0:Int) h)
 else
 Q (0:Int) h)))
def ziz (P:Program) (i:Int) (base:Int) (Q:(ByteArray→(Hp→Prop))) (h:Hp):Prop:=
 (if (base==(10:Int))=true then
 (if (decide (i<(100:Int)))=true then
 CallT P zhs [(.int .i64 (IntKind.wrap .i64 i))] shStr (fun r h1=>
 Q r h1) h
 else
 NewW [(.int .u8 (0:Int)),(.int .u8 (0:Int)),(.int .u8 (0:Int)),(.int .u8 (0:Int)),(.int .u8 (0:Int)),(.int .u8 (0:Int)),(.int .u8 (0:Int)),(.int .u8 (0:Int)),(.int .u8 (0:Int)),(.int .u8 (0:Int)),(.int .u8 (0:Int)),(.int .u8 (0:Int)),(.int .u8 (0:Int)),(.int .u8 (0:Int)),(.int .u8 (0:Int)),(.int .u8 (0:Int)),(.int .u8 (0:Int)),(.int .u8 (0:Int)),(.int .u8 (0:Int)),(.int .u8 (0:Int)),(.int .u8 (0:Int)),(.int .u8 (0:Int)),(.int .u8 (0:Int)),(.int .u8 (0:Int))] (fun a h1=>
 CallT P zbx [(.int .u64 i)] (shInt .i64) (fun r h2=>
 (((0:Int)≤r∧r≤(24:Int))∧LetW (α:=Sl) ⟨(sbase (some a) 1 0 24),((Int.toNat r)-0),24⟩ fun y=>
 Call0 P zbj [y.v,(.int .u64 i)] (fun h3=>
 (((0:Int)≤r∧r≤(24:Int))∧LetW (α:=Sl) ⟨(sbase (some a) 1 0 24),((Int.toNat r)-0),24⟩ fun y1=>
 SemV none P (convert 74 9 y1.v) shStr h3 fun x=>
 Q x h3)) h2)) h1) h)
 else
 Call2 P zco [(.slice none 0 0),(.int .u64 i),(.int .i64 base),(.bool false),(.bool false)] shSl shStr (fun r r1 h1=>
 Q r1 h1) h)
def zfj (P:Program) (s:ByteArray) (substr:ByteArray) (Q:(Int→(Hp→Prop))) (h:Hp):Prop:=
 LetW (((((ByteArray.size substr):Nat):Int)==(0:Int)) || ((ByteArray.toList substr)==(ByteArray.toList s))) fun y=>
 (if y=true then
 Q (0:Int) h
 else
 (if ((((ByteArray.size substr):Nat):Int)==(1:Int))=true then
 (((0:Int)≤(0:Int)∧(0:Int)<(((ByteArray.size substr):Nat):Int))∧CallT P zdk [(.string s),(.int .u8 (((UInt8.toNat (List.getD substr.data.toList 0 0)):Nat):Int))] (shInt .i64) (fun r h1=>
 Q r h1) h)
 else
 (if (decide ((((ByteArray.size substr):Nat):Int)≥(((ByteArray.size s):Nat):Int)))=true then
 Q (-1:Int) h
 else
 LdW none (shInt .i64) h ⟨1,0,none⟩ fun x=>
 LetW ((decide ((((ByteArray.size substr):Nat):Int)≤x))&&(decide ((((ByteArray.size s):Nat):Int)≤(64:Int)))) fun y1=>
 (if y1=true then
 False
 else
 (((0:Int)≤(0:Int)∧(0:Int)<(((ByteArray.size substr):Nat):Int))∧(((0:Int)≤(1:Int)∧(1:Int)<(((ByteArray.size substr):Nat):Int))∧LoopW2 (α1:=Int) (α2:=Int) (fun again i fails h1=>
 (if (decide (i<(IntKind.wrap .i64 ((IntKind.wrap .i64 ((((ByteArray.size s):Nat):Int)-(((ByteArray.size substr):Nat):Int)))+(1:Int)))))=true then
 JoinW1 (α1:=Int) (fun k=>
 (((0:Int)≤i∧i<(((ByteArray.size s):Nat):Int))∧(if ((((UInt8.toNat (List.getD s.data.toList (Int.toNat i) 0)):Nat):Int) !=(((UInt8.toNat (List.getD substr.data.toList 0 0)):Nat):Int))=true then
 (((0:Int)≤(IntKind.wrap .i64 (i+(1:Int)))∧((IntKind.wrap .i64 (i+(1:Int)))≤(IntKind.wrap .i64 ((IntKind.wrap .i64 ((((ByteArray.size s):Nat):Int)-(((ByteArray.size substr):Nat):Int)))+(1:Int)))∧(IntKind.wrap .i64 ((IntKind.wrap .i64 ((((ByteArray.size s):Nat):Int)-(((ByteArray.size substr):Nat):Int)))+(1:Int)))≤(((ByteArray.size s):Nat):Int)))∧CallT P zdk [(.string (ByteArray.extract s (Int.toNat (IntKind.wrap .i64 (i+(1:Int)))) (Int.toNat (IntKind.wrap .i64 ((IntKind.wrap .i64 ((((ByteArray.size s):Nat):Int)-(((ByteArray.size substr):Nat):Int)))+(1:Int)))))),(.int .u8 (((UInt8.toNat (List.getD substr.data.toList 0 0)):Nat):Int))] (shInt .i64) (fun r h2=>
 (if (decide (r<(0:Int)))=true then
 Q (-1:Int) h2
 else
 k (IntKind.wrap .i64 (i+(IntKind.wrap .i64 (r+(1:Int))))) h2)) h1)
 else
 k i h1)))
 (fun i1 h2=>
 (((0:Int)≤(IntKind.wrap .i64 (i1+(1:Int)))∧(IntKind.wrap .i64 (i1+(1:Int)))<(((ByteArray.size s):Nat):Int))∧((((((UInt8.toNat (List.getD s.data.toList (Int.toNat (IntKind.wrap .i64 (i1+(1:Int)))) 0)):Nat):Int)==(((UInt8.toNat (List.getD substr.data.toList 1 0)):Nat):Int))=true→((0:Int)≤i1∧(i1≤(IntKind.wrap .i64 (i1+(((ByteArray.size substr):Nat):Int)))∧(IntKind.wrap .i64 (i1+(((ByteArray.size substr):Nat):Int)))≤(((ByteArray.size s):Nat):Int))))∧LetW (((((UInt8.toNat (List.getD s.data.toList (Int.toNat (IntKind.wrap .i64 (i1+(1:Int)))) 0)):Nat):Int)==(((UInt8.toNat (List.getD substr.data.toList 1 0)):Nat):Int))&&((ByteArray.toList (ByteArray.extract s (Int.toNat i1) (Int.toNat (IntKind.wrap .i64 (i1+(((ByteArray.size substr):Nat):Int))))))==(ByteArray.toList substr))) fun y2=>
 (if y2=true then
 Q i1 h2
 else
 LdW none (shInt .i64) h2 ⟨1,0,none⟩ fun x1=>
 EffC (some (decide ((((ByteArray.size substr):Nat):Int)≤x1))) (CallT P zts [(.int .i64 (IntKind.wrap .i64 (i1+(1:Int))))] (shInt .i64)) (fun r h3=>
 LetW ((decide ((((ByteArray.size substr):Nat):Int)≤x1))&&(decide ((IntKind.wrap .i64 (fails+(1:Int)))>r))) fun y3=>
 (if y3=true then
 (((0:Int)≤(IntKind.wrap .i64 (i1+(1:Int)))∧(IntKind.wrap .i64 (i1+(1:Int)))≤(((ByteArray.size s):Nat):Int))∧False)
 else
 LdW none (shInt .i64) h3 ⟨1,0,none⟩ fun x2=>
 (((decide ((((ByteArray.size substr):Nat):Int)>x2))=true→(0:Int)≤(4:Int))∧LetW ((decide ((((ByteArray.size substr):Nat):Int)>x2))&&(decide ((IntKind.wrap .i64 (fails+(1:Int)))≥(IntKind.wrap .i64 ((4:Int)+(shrI .i64 (IntKind.wrap .i64 (i1+(1:Int))) (4:Int))))))) fun y4=>
 LetW (y4&&(decide ((IntKind.wrap .i64 (i1+(1:Int)))<(IntKind.wrap .i64 ((IntKind.wrap .i64 ((((ByteArray.size s):Nat):Int)-(((ByteArray.size substr):Nat):Int)))+(1:Int)))))) fun y5=>
 (if y5=true then
 (((0:Int)≤(IntKind.wrap .i64 (i1+(1:Int)))∧(IntKind.wrap .i64 (i1+(1:Int)))≤(((ByteArray.size s):Nat):Int))∧CallT P zkd [(.string (ByteArray.extract s (Int.toNat (IntKind.wrap .i64 (i1+(1:Int)))) (ByteArray.size s))),(.string substr)] (shInt .i64) (fun r1 h4=>
 (if (decide (r1<(0:Int)))=true then
 Q (-1:Int) h4
 else
 Q (IntKind.wrap .i64 ((IntKind.wrap .i64 (i1+(1:Int)))+r1)) h4)) h3)
 else
 again (IntKind.wrap .i64 (i1+(1:Int))) (IntKind.wrap .i64 (fails+(1:Int))) h3)))) h2))))
 else
 Q (-1:Int) h1)) (0:Int) (0:Int) h))))))
def zea (P:Program) (dst:Sl) (val:Nat) (fmt:Int) (prec:Int) (Q:(Sl→(Hp→Prop))) (h:Hp):Prop:=
 JoinW4 (α1:=Int) (α2:=Int) (α3:=Int) (α4:=Int) (fun k=>
 SemE P (Extern.MathFloatBits.float64bits #[(.float .f64 val)]) (shInt .u64) (fun r h1=>
 k r (11:Int) (52:Int) (-1023:Int) h1) h)
 (fun b expBits mantBits bias h1=>
 ((0:Int)≤(IntKind.wrap .i64 (expBits+mantBits))∧((0:Int)≤mantBits∧((0:Int)≤expBits∧((0:Int)≤mantBits∧((0:Int)≤expBits∧(if ((bitsI .and .i64 (IntKind.wrap .i64 (shrI .u64 b mantBits)) (IntKind.wrap .i64 ((shlI .i64 (1:Int) expBits)-(1:Int))))==(IntKind.wrap .i64 ((shlI .i64 (1:Int) expBits)-(1:Int))))=true then
 (if ((bitsI .and .u64 b (IntKind.wrap .u64 ((shlI .u64 (1:Int) mantBits)-(1:Int)))) !=(0:Int))=true then
 zvx 5 dst ⟨#[78,97,78]⟩ (fun r h2=>
 Q r h2) h1
 else
 (if ((shrI .u64 b (IntKind.wrap .i64 (expBits+mantBits))) !=(0:Int))=true then
 zvx 5 dst ⟨#[45,73,110,102]⟩ (fun r h2=>
 Q r h2) h1
 else
 zvx 5 dst ⟨#[43,73,110,102]⟩ (fun r h2=>
 Q r h2) h1))
 else
 JoinW2 (α1:=Int) (α2:=Int) (fun k=>
 (if ((bitsI .and .i64 (IntKind.wrap .i64 (shrI .u64 b mantBits)) (IntKind.wrap .i64 ((shlI .i64 (1:Int) expBits)-(1:Int))))==(0:Int))=true then
 k (IntKind.wrap .i64 ((bitsI .and .i64 (IntKind.wrap .i64 (shrI .u64 b mantBits)) (IntKind.wrap .i64 ((shlI .i64 (1:Int) expBits)-(1:Int))))+(1:Int))) (bitsI .and .u64 b (IntKind.wrap .u64 ((shlI .u64 (1:Int) mantBits)-(1:Int)))) h1
 else
 ((0:Int)≤mantBits∧k (bitsI .and .i64 (IntKind.wrap .i64 (shrI .u64 b mantBits)) (IntKind.wrap .i64 ((shlI .i64 (1:Int) expBits)-(1:Int)))) (bitsI .or .u64 (bitsI .and .u64 b (IntKind.wrap .u64 ((shlI .u64 (1:Int) mantBits)-(1:Int)))) (shlI .u64 (1:Int) mantBits)) h1)))
 (fun exp mant h2=>
 (if (fmt==(98:Int))=true then
 CallT P zxp [dst.v,(.bool ((shrI .u64 b (IntKind.wrap .i64 (expBits+mantBits))) !=(0:Int))),(.int .u64 mant),(.int .i64 (IntKind.wrap .i64 ((IntKind.wrap .i64 (exp+bias))-mantBits)))] shSl (fun r h3=>
 Q r h3) h2
 else
 LetW ((fmt==(120:Int)) || (fmt==(88:Int))) fun y=>
 (if y=true then
 CallT P zxq [dst.v,(.int .i64 prec),(.int .u8 fmt),(.bool ((shrI .u64 b (IntKind.wrap .i64 (expBits+mantBits))) !=(0:Int))),(.int .u64 mant),(.int .i64 (IntKind.wrap .i64 (exp+bias))),(.int .i64 mantBits)] shSl (fun r h3=>
 Q r h3) h2
 else
 (if (mant==(0:Int))=true then
 CallT P zci [dst.v,(.bool ((shrI .u64 b (IntKind.wrap .i64 (expBits+mantBits))) !=(0:Int))),(.slice none 0 0),(.int .i64 (0:Int)),(.int .i64 (0:Int)),(.int .i64 prec),(.int .u8 fmt),(.bool (decide (prec<(0:Int))))] shSl (fun r h3=>
 Q r h3) h2
 else
 (if (decide (prec<(0:Int)))=true then
 NewW [(.int .u8 (0:Int)),(.int .u8 (0:Int)),(.int .u8 (0:Int)),(.int .u8 (0:Int)),(.int .u8 (0:Int)),(.int .u8 (0:Int)),(.int .u8 (0:Int)),(.int .u8 (0:Int)),(.int .u8 (0:Int)),(.int .u8 (0:Int)),(.int .u8 (0:Int)),(.int .u8 (0:Int)),(.int .u8 (0:Int)),(.int .u8 (0:Int)),(.int .u8 (0:Int)),(.int .u8 (0:Int)),(.int .u8 (0:Int)),(.int .u8 (0:Int)),(.int .u8 (0:Int)),(.int .u8 (0:Int)),(.int .u8 (0:Int)),(.int .u8 (0:Int)),(.int .u8 (0:Int)),(.int .u8 (0:Int)),(.int .u8 (0:Int)),(.int .u8 (0:Int)),(.int .u8 (0:Int)),(.int .u8 (0:Int)),(.int .u8 (0:Int)),(.int .u8 (0:Int)),(.int .u8 (0:Int)),(.int .u8 (0:Int))] (fun a h3=>
 CallT P zht [(.int .u64 mant)] (shInt .i64) (fun r h4=>
 ((0:Int)≤(IntKind.wrap .i64 ((64:Int)-r))∧Call2 P zce [(.int .u64 (shlI .u64 mant (IntKind.wrap .i64 ((64:Int)-r)))),(.int .i64 (IntKind.wrap .i64 ((IntKind.wrap .i64 ((IntKind.wrap .i64 (exp+bias))-(IntKind.wrap .i64 ((64:Int)-r))))-mantBits)))] (shInt .u64) (shInt .i64) (fun r1 r2 h5=>
 LetW (α:=Sl) ⟨(sbase (some a) 1 0 32),32,32⟩ fun y1=>
 CallT P zbx [(.int .u64 r1)] (shInt .i64) (fun r3 h6=>
 Call2 P zcw [y1.v,(.int .u64 r1),(.int .i64 r2),(.int .i64 r3)] (shInt .i64) (shInt .i64) (fun r4 r5 h7=>
 JoinW1 (α1:=Int) (fun k=>
 JoinW1 (α1:=Bool) (fun k1=>
 (if (fmt==(101:Int))=true then
 k1 (fmt==(101:Int)) h7
 else
 k1 (fmt==(69:Int)) h7))
 (fun t149 h8=>
 (if t149=true then
 k (max2I (IntKind.wrap .i64 (r5-(1:Int))) (0:Int)) h8
 else
 (if (fmt==(102:Int))=true then
 k (max2I (IntKind.wrap .i64 (r5-r4)) (0:Int)) h8
 else
 JoinW1 (α1:=Bool) (fun k1=>
 (if (fmt==(103:Int))=true then
 k1 (fmt==(103:Int)) h8
 else
 k1 (fmt==(71:Int)) h8))
 (fun t161 h9=>
 (if t161=true then
 k r5 h9
 else
 k prec h9))))))
 (fun prec1 h8=>
 LetW (α:=Sl) ⟨(sbase (some a) 1 0 32),32,32⟩ fun y2=>
 CallT P zci [dst.v,(.bool ((shrI .u64 b (IntKind.wrap .i64 (expBits+mantBits))) !=(0:Int))),y2.v,(.int .i64 r4),(.int .i64 r5),(.int .i64 prec1),(.int .u8 fmt),(.bool true)] shSl (fun r6 h9=>
 Q r6 h9) h8)) h6) h5) h4)) h3) h2
 else
 JoinW1 (α1:=Int) (fun k=>
 LdW none zae h2 ⟨2,0,none⟩ fun x=>
 (if x=true then
 JoinW2 (α1:=Int) (α2:=Int) (fun k1=>
 (if (fmt==(102:Int))=true then
 (if (decide ((IntKind.wrap .i64 (exp+bias))≥(0:Int)))=true then
 CallT P zbc [(.int .i64 (IntKind.wrap .i64 ((1:Int)+(IntKind.wrap .i64 (exp+bias)))))] (shInt .i64) (fun r h3=>
 k1 prec (IntKind.wrap .i64 ((IntKind.wrap .i64 ((1:Int)+r))+prec)) h3) h2
 else
 CallT P zbc [(.int .i64 (IntKind.wrap .i64 ((0:Int)-(IntKind.wrap .i64 (exp+bias)))))] (shInt .i64) (fun r h3=>
 k1 prec (IntKind.wrap .i64 ((IntKind.wrap .i64 ((1:Int)+prec))-r)) h3) h2)
 else
 JoinW1 (α1:=Bool) (fun k2=>
 (if (fmt==(101:Int))=true then
 k2 (fmt==(101:Int)) h2
 else
 k2 (fmt==(69:Int)) h2))
 (fun t192 h3=>
 (if t192=true then
 k1 prec (IntKind.wrap .i64 (prec+(1:Int))) h3
 else
 JoinW1 (α1:=Bool) (fun k2=>
 (if (fmt==(103:Int))=true then
 k2 (fmt==(103:Int)) h3
 else
 k2 (fmt==(71:Int)) h3))
 (fun t197 h4=>
 (if t197=true then
 JoinW1 (α1:=Int) (fun k2=>
 (if (prec==(0:Int))=true then
 k2 (1:Int) h4
 else
 k2 prec h4))
 (fun prec1 h5=>
 k1 prec1 prec1 h5)
 else
 k1 prec (1:Int) h4))))))
 (fun prec1 digits h3=>
 (if (decide (digits≤(18:Int)))=true then
 NewW [(.int .u8 (0:Int)),(.int .u8 (0:Int)),(.int .u8 (0:Int)),(.int .u8 (0:Int)),(.int .u8 (0:Int)),(.int .u8 (0:Int)),(.int .u8 (0:Int)),(.int .u8 (0:Int)),(.int .u8 (0:Int)),(.int .u8 (0:Int)),(.int .u8 (0:Int)),(.int .u8 (0:Int)),(.int .u8 (0:Int)),(.int .u8 (0:Int)),(.int .u8 (0:Int)),(.int .u8 (0:Int)),(.int .u8 (0:Int)),(.int .u8 (0:Int)),(.int .u8 (0:Int)),(.int .u8 (0:Int)),(.int .u8 (0:Int)),(.int .u8 (0:Int)),(.int .u8 (0:Int)),(.int .u8 (0:Int))] (fun a h4=>
 JoinW2 (α1:=Int) (α2:=Int) (fun k1=>
 (if (decide (digits>(0:Int)))=true then
 CallT P zht [(.int .u64 mant)] (shInt .i64) (fun r h5=>
 ((0:Int)≤(IntKind.wrap .i64 ((64:Int)-r))∧Call2 P znb [(.int .u64 (shlI .u64 mant (IntKind.wrap .i64 ((64:Int)-r)))),(.int .i64 (IntKind.wrap .i64 ((IntKind.wrap .i64 ((IntKind.wrap .i64 (exp+bias))-(IntKind.wrap .i64 ((64:Int)-r))))-mantBits))),(.int .i64 digits),(.int .i64 prec1),(.int .u8 fmt)] (shInt .u64) (shInt .i64) (fun r1 r2 h6=>
 (if (r1 !=(0:Int))=true then
 LetW (α:=Sl) ⟨(sbase (some a) 1 0 24),24,24⟩ fun y1=>
 CallT P zbx [(.int .u64 r1)] (shInt .i64) (fun r3 h7=>
 Call2 P zcw [y1.v,(.int .u64 r1),(.int .i64 r2),(.int .i64 r3)] (shInt .i64) (shInt .i64) (fun r4 r5 h8=>
 k1 r4 r5 h8) h7) h6
 else
 k1 (0:Int) (0:Int) h6)) h5)) h4
 else
 k1 (0:Int) (0:Int) h4))
 (fun dp nd h5=>
 LetW (α:=Sl) ⟨(sbase (some a) 1 0 24),24,24⟩ fun y1=>
 CallT P zci [dst.v,(.bool ((shrI .u64 b (IntKind.wrap .i64 (expBits+mantBits))) !=(0:Int))),y1.v,(.int .i64 dp),(.int .i64 nd),(.int .i64 prec1),(.int .u8 fmt),(.bool false)] shSl (fun r h6=>
 Q r h6) h5)) h3
 else
 k prec1 h3))
 else
 k prec h2))
 (fun prec1 h3=>
 NewW (List.replicate 800 (.int .u8 (0:Int))++ [(.int .i64 (0:Int)),(.int .i64 (0:Int)),(.bool false),(.bool false)]) (fun a h4=>
 Call0 P znu [(.pointer (some a)),(.int .u64 mant)] (fun h5=>
 Call0 P zar [(.pointer (some a)),(.int .i64 (IntKind.wrap .i64 ((IntKind.wrap .i64 (exp+bias))-mantBits)))] (fun h6=>
 JoinW1 (α1:=Int) (fun k=>
 JoinW1 (α1:=Bool) (fun k1=>
 (if (fmt==(101:Int))=true then
 k1 (fmt==(101:Int)) h6
 else
 k1 (fmt==(69:Int)) h6))
 (fun t256 h7=>
 (if t256=true then
 Call0 P zdl [(.pointer (some a)),(.int .i64 (IntKind.wrap .i64 (prec1+(1:Int))))] (fun h8=>
 k prec1 h8) h7
 else
 (if (fmt==(102:Int))=true then
 NilW none (some a) fun p=>
 LdW none (shInt .i64) h7 (Addr.add p 801) fun x=>
 Call0 P zdl [(.pointer (some a)),(.int .i64 (IntKind.wrap .i64 (x+prec1)))] (fun h8=>
 k prec1 h8) h7
 else
 JoinW1 (α1:=Bool) (fun k1=>
 (if (fmt==(103:Int))=true then
 k1 (fmt==(103:Int)) h7
 else
 k1 (fmt==(71:Int)) h7))
 (fun t273 h8=>
 (if t273=true then
 JoinW1 (α1:=Int) (fun k1=>
 (if (prec1==(0:Int))=true then
 k1 (1:Int) h8
 else
 k1 prec1 h8))
 (fun prec2 h9=>
 Call0 P zdl [(.pointer (some a)),(.int .i64 prec2)] (fun h10=>
 k prec2 h10) h9)
 else
 k prec1 h8))))))
 (fun prec2 h7=>
 NilW none (some a) fun p=>
 LetW (α:=Sl) ⟨(sbase (some (Addr.add p 0)) 1 0 800),800,800⟩ fun y1=>
 NilW none (some a) fun p1=>
 LdW none (shInt .i64) h7 (Addr.add p1 801) fun x=>
 NilW none (some a) fun p2=>
 LdW none (shInt .i64) h7 (Addr.add p2 800) fun x1=>
 CallT P zci [dst.v,(.bool ((shrI .u64 b (IntKind.wrap .i64 (expBits+mantBits))) !=(0:Int))),y1.v,(.int .i64 x),(.int .i64 x1),(.int .i64 prec2),(.int .u8 fmt),(.bool false)] shSl (fun r h8=>
 Q r h8) h7)) h5) h4) h3)))))))))))))
def zfk (P:Program) (i:Int) (base:Int) (Q:(ByteArray→(Hp→Prop))) (h:Hp):Prop:=
 (if (base==(10:Int))=true then
 LetW ((decide ((0:Int)≤i))&&(decide (i<(100:Int)))) fun y=>
 (if y=true then
 CallT P zhs [(.int .i64 i)] shStr (fun r h1=>
 Q r h1) h
 else
 NewW [(.int .u8 (0:Int)),(.int .u8 (0:Int)),(.int .u8 (0:Int)),(.int .u8 (0:Int)),(.int .u8 (0:Int)),(.int .u8 (0:Int)),(.int .u8 (0:Int)),(.int .u8 (0:Int)),(.int .u8 (0:Int)),(.int .u8 (0:Int)),(.int .u8 (0:Int)),(.int .u8 (0:Int)),(.int .u8 (0:Int)),(.int .u8 (0:Int)),(.int .u8 (0:Int)),(.int .u8 (0:Int)),(.int .u8 (0:Int)),(.int .u8 (0:Int)),(.int .u8 (0:Int)),(.int .u8 (0:Int)),(.int .u8 (0:Int)),(.int .u8 (0:Int)),(.int .u8 (0:Int)),(.int .u8 (0:Int))] (fun a h1=>
 JoinW1 (α1:=Int) (fun k=>
 (if (decide (i<(0:Int)))=true then
 k (IntKind.wrap .u64 ((0:Int)-(IntKind.wrap .u64 i))) h1
 else
 k (IntKind.wrap .u64 i) h1))
 (fun u h2=>
 CallT P zbx [(.int .u64 u)] (shInt .i64) (fun r h3=>
 (((0:Int)≤(1:Int)∧((1:Int)≤(IntKind.wrap .i64 ((1:Int)+r))∧(IntKind.wrap .i64 ((1:Int)+r))≤(24:Int)))∧LetW (α:=Sl) ⟨(sbase (some a) 1 1 24),((Int.toNat (IntKind.wrap .i64 ((1:Int)+r)))-1),23⟩ fun y1=>
 Call0 P zbj [y1.v,(.int .u64 u)] (fun h4=>
 (if (decide (i<(0:Int)))=true then
 (((0:Int)≤(0:Int)∧(0:Int)<(24:Int))∧StW h4 (Addr.add a 0) [(.int .u8 (45:Int))] (fun h5=>
 (((0:Int)≤(IntKind.wrap .i64 ((1:Int)+r))∧(IntKind.wrap .i64 ((1:Int)+r))≤(24:Int))∧LetW (α:=Sl) ⟨(sbase (some a) 1 0 24),((Int.toNat (IntKind.wrap .i64 ((1:Int)+r)))-0),24⟩ fun y2=>
 SemV none P (convert 74 9 y2.v) shStr h5 fun x=>
 Q x h5)))
 else
 (((0:Int)≤(1:Int)∧((1:Int)≤(IntKind.wrap .i64 ((1:Int)+r))∧(IntKind.wrap .i64 ((1:Int)+r))≤(24:Int)))∧LetW (α:=Sl) ⟨(sbase (some a) 1 1 24),((Int.toNat (IntKind.wrap .i64 ((1:Int)+r)))-1),23⟩ fun y2=>
 SemV none P (convert 74 9 y2.v) shStr h4 fun x=>
 Q x h4))) h3)) h2)) h)
 else
 Call2 P zco [(.slice none 0 0),(.int .u64 (IntKind.wrap .u64 i)),(.int .i64 base),(.bool (decide (i<(0:Int)))),(.bool false)] shSl shStr (fun r r1 h1=>
 Q r1 h1) h)
def zlu (P:Program) (b:Int) (Q:(Int→(Hp→Prop))) (h:Hp):Prop:=
 Call2 P zdq [(.int .u64 b)] (shInt .u64) (shInt .i64) (fun r r1 h1=>
 LoopW2 (α1:=Int) (α2:=Int) (fun again two x h2=>
 (if (decide (x>(1:Int)))=true then
 ((2:Int)≠(0:Int)∧again (IntKind.wrap .i64 (two+(1:Int))) (IntKind.wrap .u64 (Int.tdiv x (2:Int))) h2)
 else
 ((100000:Int)≠(0:Int)∧LoopW1 (α1:=Int) (fun again1 e h3=>
 CallT P zep [(.int .u64 (1:Int)),(.int .i64 e),(.int .u64 r),(.int .i64 r1)] (shInt .i64) (fun r2 h4=>
 (if (decide (r2>(0:Int)))=true then
 again1 (IntKind.wrap .i64 (e-(1:Int))) h4
 else
 Q e h4)) h3) (IntKind.wrap .i64 ((IntKind.wrap .i64 (Int.tdiv (IntKind.wrap .i64 (two*(30103:Int))) (100000:Int)))+(2:Int))) h2))) r1 r h1) h
def zjn (P:Program) (b:Int) (s:Int) (Q:(Int→(Int→(Hp→Prop)))) (h:Hp):Prop:=
 Call2 P zdq [(.int .u64 b)] (shInt .u64) (shInt .i64) (fun r r1 h1=>
 CallT P zfx [(.int .u64 r)] shSl (fun r2 h2=>
 CallT P zfx [(.int .u64 (1:Int))] shSl (fun r3 h3=>
 JoinW2 (α1:=Sl) (α2:=Sl) (fun k=>
 (if (decide (r1≥(0:Int)))=true then
 CallT P zbv [r2.v,(.int .i64 r1)] shSl (fun r4 h4=>
 k r4 r3 h4) h3
 else
 CallT P zbv [r3.v,(.int .i64 (IntKind.wrap .i64 ((0:Int)-r1)))] shSl (fun r4 h4=>
 k r2 r4 h4) h3))
 (fun x y h4=>
 JoinW2 (α1:=Sl) (α2:=Sl) (fun k=>
 (if (decide (s≥(0:Int)))=true then
 CallT P zee [y.v,(.int .i64 s)] shSl (fun r4 h5=>
 k ⟨x.base,x.len,x.cap⟩ r4 h5) h4
 else
 CallT P zee [x.v,(.int .i64 (IntKind.wrap .i64 ((0:Int)-s)))] shSl (fun r4 h5=>
 k r4 ⟨y.base,y.len,y.cap⟩ h5) h4))
 (fun x1 y1 h5=>
 LoopW3 (α1:=Sl) (α2:=Int) (α3:=Int) (fun again x2 q i h6=>
 (if (decide (i≥(0:Int)))=true then
 JoinW2 (α1:=Sl) (α2:=Int) (fun k=>
 CallT P zbv [y1.v,(.int .i64 i)] shSl (fun r4 h7=>
 CallT P zbz [x2.v,r4.v] (shInt .i64) (fun r5 h8=>
 (if (decide (r5≥(0:Int)))=true then
 CallT P zkn [x2.v,r4.v] shSl (fun r6 h9=>
 ((0:Int)≤i∧k r6 (bitsI .or .u64 q (shlI .u64 (1:Int) i)) h9)) h8
 else
 k ⟨x2.base,x2.len,x2.cap⟩ q h8)) h7) h6)
 (fun x3 q1 h7=>
 again ⟨x3.base,x3.len,x3.cap⟩ q1 (IntKind.wrap .i64 (i-(1:Int))) h7)
 else
 CallT P zch [x2.v,(.int .u32 (2:Int))] shSl (fun r4 h7=>
 CallT P zbz [r4.v,y1.v] (shInt .i64) (fun r5 h8=>
 Q q r5 h8) h7) h6)) ⟨x1.base,x1.len,x1.cap⟩ (0:Int) (62:Int) h5))) h2) h1) h
def zhj (P:Program) (s:ByteArray) (prefix_:ByteArray) (Q:(Bool→(Hp→Prop))) (h:Hp):Prop:=
 (((decide ((((ByteArray.size s):Nat):Int)≥(((ByteArray.size prefix_):Nat):Int)))=true→((0:Int)≤(((ByteArray.size prefix_):Nat):Int)∧(((ByteArray.size prefix_):Nat):Int)≤(((ByteArray.size s):Nat):Int)))∧LetW ((decide ((((ByteArray.size s):Nat):Int)≥(((ByteArray.size prefix_):Nat):Int)))&&((ByteArray.toList (ByteArray.extract s 0 (Int.toNat (((ByteArray.size prefix_):Nat):Int))))==(ByteArray.toList prefix_))) fun y=>
 Q y h)
def zhv (P:Program) (c:Int) (Q:(Int→(Hp→Prop))) (h:Hp):Prop:=
 Q (bitsI .or .u8 c (32:Int)) h
def zdt (P:Program) (s:ByteArray) (Q:(Bool→(Hp→Prop))) (h:Hp):Prop:=
 JoinW1 (α1:=ByteArray) (fun k=>
 (((decide ((((ByteArray.size s):Nat):Int)≥(1:Int)))=true→((0:Int)≤(0:Int)∧(0:Int)<(((ByteArray.size s):Nat):Int)))∧((((decide ((((ByteArray.size s):Nat):Int)≥(1:Int)))&&(!((((UInt8.toNat (List.getD s.data.toList 0 0)):Nat):Int)==(45:Int))))=true→((0:Int)≤(0:Int)∧(0:Int)<(((ByteArray.size s):Nat):Int)))∧LetW (((((UInt8.toNat (List.getD s.data.toList 0 0)):Nat):Int)==(45:Int)) || ((((UInt8.toNat (List.getD s.data.toList 0 0)):Nat):Int)==(43:Int))) fun y=>
 LetW ((decide ((((ByteArray.size s):Nat):Int)≥(1:Int)))&&y) fun y1=>
 (if y1=true then
 (((0:Int)≤(1:Int)∧(1:Int)≤(((ByteArray.size s):Nat):Int))∧k (ByteArray.extract s 1 (ByteArray.size s)) h)
 else
 k s h))))
 (fun s1 h1=>
 JoinW3 (α1:=Int) (α2:=Int) (α3:=Bool) (fun k=>
 (((decide ((((ByteArray.size s1):Nat):Int)≥(2:Int)))=true→((0:Int)≤(0:Int)∧(0:Int)<(((ByteArray.size s1):Nat):Int)))∧LetW ((decide ((((ByteArray.size s1):Nat):Int)≥(2:Int)))&&((((UInt8.toNat (List.getD s1.data.toList 0 0)):Nat):Int)==(48:Int))) fun y=>
 ((y=true→((0:Int)≤(1:Int)∧(1:Int)<(((ByteArray.size s1):Nat):Int)))∧EffC (some y) (CallT P zaf [(.int .u8 (((UInt8.toNat (List.getD s1.data.toList 1 0)):Nat):Int))] (shInt .u8)) (fun r h2=>
 (((y&&(!(r==(98:Int))))=true→((0:Int)≤(1:Int)∧(1:Int)<(((ByteArray.size s1):Nat):Int)))∧EffC (some (y&&(!(r==(98:Int))))) (CallT P zaf [(.int .u8 (((UInt8.toNat (List.getD s1.data.toList 1 0)):Nat):Int))] (shInt .u8)) (fun r1 h3=>
 LetW ((r==(98:Int)) || (r1==(111:Int))) fun y1=>
 (((y&&(!y1))=true→((0:Int)≤(1:Int)∧(1:Int)<(((ByteArray.size s1):Nat):Int)))∧EffC (some (y&&(!y1))) (CallT P zaf [(.int .u8 (((UInt8.toNat (List.getD s1.data.toList 1 0)):Nat):Int))] (shInt .u8)) (fun r2 h4=>
 LetW (y1 || (r2==(120:Int))) fun y2=>
 LetW (y&&y2) fun y3=>
 (if y3=true then
 (((0:Int)≤(1:Int)∧(1:Int)<(((ByteArray.size s1):Nat):Int))∧CallT P zaf [(.int .u8 (((UInt8.toNat (List.getD s1.data.toList 1 0)):Nat):Int))] (shInt .u8) (fun r3 h5=>
 k (48:Int) (2:Int) (r3==(120:Int)) h5) h4)
 else
 k (94:Int) (0:Int) false h4)) h3)) h2)) h1)))
 (fun saw i hex h2=>
 LoopW2 (α1:=Int) (α2:=Int) (fun again saw1 i1 h3=>
 (if (decide (i1<(((ByteArray.size s1):Nat):Int)))=true then
 JoinW1 (α1:=Int) (fun k=>
 (((0:Int)≤i1∧i1<(((ByteArray.size s1):Nat):Int))∧(((decide ((48:Int)≤(((UInt8.toNat (List.getD s1.data.toList (Int.toNat i1) 0)):Nat):Int)))=true→((0:Int)≤i1∧i1<(((ByteArray.size s1):Nat):Int)))∧LetW ((decide ((48:Int)≤(((UInt8.toNat (List.getD s1.data.toList (Int.toNat i1) 0)):Nat):Int)))&&(decide ((((UInt8.toNat (List.getD s1.data.toList (Int.toNat i1) 0)):Nat):Int)≤(57:Int)))) fun y=>
 ((((!y)&&hex)=true→((0:Int)≤i1∧i1<(((ByteArray.size s1):Nat):Int)))∧EffC (some ((!y)&&hex)) (CallT P zaf [(.int .u8 (((UInt8.toNat (List.getD s1.data.toList (Int.toNat i1) 0)):Nat):Int))] (shInt .u8)) (fun r h4=>
 LetW (hex&&(decide ((97:Int)≤r))) fun y1=>
 ((((!y)&&y1)=true→((0:Int)≤i1∧i1<(((ByteArray.size s1):Nat):Int)))∧EffC (some ((!y)&&y1)) (CallT P zaf [(.int .u8 (((UInt8.toNat (List.getD s1.data.toList (Int.toNat i1) 0)):Nat):Int))] (shInt .u8)) (fun r1 h5=>
 LetW (y1&&(decide (r1≤(102:Int)))) fun y2=>
 LetW (y || y2) fun y3=>
 (if y3=true then
 k (48:Int) h5
 else
 (((0:Int)≤i1∧i1<(((ByteArray.size s1):Nat):Int))∧(if ((((UInt8.toNat (List.getD s1.data.toList (Int.toNat i1) 0)):Nat):Int)==(95:Int))=true then
 (if (saw1 !=(48:Int))=true then
 Q false h5
 else
 k (95:Int) h5)
 else
 (if (saw1==(95:Int))=true then
 Q false h5
 else
 k (33:Int) h5))))) h4)) h3))))
 (fun saw2 h4=>
 again saw2 (IntKind.wrap .i64 (i1+(1:Int))) h4)
 else
 Q (saw1 !=(95:Int)) h3)) saw i h2))
def zcs (P:Program) (s:ByteArray) (bitSize:Int) (Q:(Nat→(Int→(Leaf→(Hp→Prop))))) (h:Hp):Prop:=
 (if (bitSize==(32:Int))=true then
 Call3 P zuq [(.string s)] (shFlt .f32) (shInt .i64) zah (fun r r1 r2 h1=>
 SemV none P (convert 120 48 (.float .f32 r)) (shFlt .f64) h1 fun x=>
 EncW zah r2.v fun e=>
 Q x r1 e h1) h
 else
 Call3 P zha [(.string s)] (shFlt .f64) (shInt .i64) zah (fun r r1 r2 h1=>
 EncW zah r2.v fun e=>
 Q r r1 e h1) h)
def zjo (P:Program) (b:Int) (Q:(Int→(Int→(Hp→Prop)))) (h:Hp):Prop:=
 ((0:Int)≤(52:Int)∧(if ((IntKind.wrap .i64 (shrI .u64 b (52:Int)))==(0:Int))=true then
 Q (bitsI .and .u64 b (4503599627370495:Int)) (-1074:Int) h
 else
 Q (bitsI .or .u64 (bitsI .and .u64 b (4503599627370495:Int)) (4503599627370496:Int)) (IntKind.wrap .i64 ((IntKind.wrap .i64 (shrI .u64 b (52:Int)))-(1075:Int))) h))
def zhw (P:Program) (c:Int) (s:Int) (l:Int) (k:Int) (Q:(Int→(Hp→Prop))) (h:Hp):Prop:=
 CallT P zfx [(.int .u64 c)] shSl (fun r h1=>
 CallT P zfx [(.int .u64 l)] shSl (fun r1 h2=>
 JoinW2 (α1:=Sl) (α2:=Sl) (fun k1=>
 (if (decide (s≥(0:Int)))=true then
 CallT P zee [r.v,(.int .i64 s)] shSl (fun r2 h3=>
 k1 r2 r1 h3) h2
 else
 CallT P zee [r1.v,(.int .i64 (IntKind.wrap .i64 ((0:Int)-s)))] shSl (fun r2 h3=>
 k1 r r2 h3) h2))
 (fun a b h3=>
 JoinW2 (α1:=Sl) (α2:=Sl) (fun k1=>
 (if (decide (k≥(0:Int)))=true then
 CallT P zbv [b.v,(.int .i64 k)] shSl (fun r2 h4=>
 k1 ⟨a.base,a.len,a.cap⟩ r2 h4) h3
 else
 CallT P zbv [a.v,(.int .i64 (IntKind.wrap .i64 ((0:Int)-k)))] shSl (fun r2 h4=>
 k1 r2 ⟨b.base,b.len,b.cap⟩ h4) h3))
 (fun a1 b1 h4=>
 CallT P zbz [a1.v,b1.v] (shInt .i64) (fun r2 h5=>
 Q r2 h5) h4))) h1) h
def zxv (P:Program) (op:Int) (Q:(ByteArray→(Hp→Prop))) (h:Hp):Prop:=
 LetW ((decide (op<(0:Int))) || (decide (op≥(34:Int)))) fun y=>
 (if y=true then
 Q ⟨#[]⟩ h
 else
 (((0:Int)≤op∧op<(34:Int))∧∃x:ByteArray,((List.get?Internal (α:=Value) [(.string ⟨#[]⟩),(.string ⟨#[97,105]⟩),(.string ⟨#[97,98]⟩),(.string ⟨#[97,98,99]⟩),(.string ⟨#[97,98,99]⟩),(.string ⟨#[97,98,99]⟩),(.string ⟨#[97,98,99]⟩),(.string ⟨#[97,98,99]⟩),(.string ⟨#[97,98,99]⟩),(.string ⟨#[97,98,99]⟩),(.string ⟨#[97,98,99]⟩),(.string ⟨#[97,98,99]⟩),(.string ⟨#[97,98,99]⟩),(.string ⟨#[97,98,99]⟩),(.string ⟨#[97,98,99]⟩),(.string ⟨#[97,98,99]⟩),(.string ⟨#[97,98,99]⟩),(.string ⟨#[97,98,99]⟩),(.string ⟨#[97,98,99]⟩),(.string ⟨#[97,98,99]⟩),(.string ⟨#[97,98]⟩),(.string ⟨#[97,98]⟩),(.string ⟨#[105]⟩),(.string ⟨#[97,105]⟩),(.string ⟨#[97,98,99]⟩),(.string ⟨#[97,98]⟩),(.string ⟨#[97,98]⟩),(.string ⟨#[97]⟩),(.string ⟨#[97]⟩),(.string ⟨#[105]⟩),(.string ⟨#[105]⟩),(.string ⟨#[97]⟩),(.string ⟨#[97]⟩),(.string ⟨#[97]⟩)] ((Int.toNat op)*1))=(some (.string x))∧Q x h)))
def zai1 (P:Program) (field:ByteArray) (a1:Addr) (Q:(Bool→(Hp→Prop))) (h:Hp):Prop:=
 LdW none shStr h a1 fun x=>
 CallT P zuk [(.string x),(.string field)] zae (fun r h1=>
 Q r h1) h
def zdo1 (P:Program) (n:Int) (Q:(Bool→(Hp→Prop))) (h:Hp):Prop:=
 LetW ((decide (n≥(-4503599627370496:Int)))&&(decide (n≤(4503599627370496:Int)))) fun y=>
 Q y h
def zmn (P:Program) (i:Int) (base:Int) (Q:(ByteArray→(Hp→Prop))) (h:Hp):Prop:=
 CallT P zfe [(.int .i64 i),(.int .i64 base)] shStr (fun r h1=>
 Q r h1) h
def zjp (P:Program) (x:S_api_Ins) (n:Int) (locks:Int) (Q:(Int→(Int→(Hp→Prop)))) (h:Hp):Prop:=
 LetW ((decide (x.Op<(0:Int))) || (decide (x.Op≥(34:Int)))) fun y=>
 (if y=true then
 Q (9:Int) (0:Int) h
 else
 Call4 P zfd [(.int .i64 x.Op)] zae zae zae zae (fun r r1 r2 r3 h1=>
 CallT P zdz [(.int .i64 x.A),(.bool r)] (shInt .i64) (fun r4 h2=>
 (if (r4 !=(0:Int))=true then
 Q r4 (1:Int) h2
 else
 CallT P zdz [(.int .i64 x.B),(.bool r1)] (shInt .i64) (fun r5 h3=>
 (if (r5 !=(0:Int))=true then
 Q r5 (2:Int) h3
 else
 CallT P zdz [(.int .i64 x.C),(.bool r2)] (shInt .i64) (fun r6 h4=>
 (if (r6 !=(0:Int))=true then
 Q r6 (3:Int) h4
 else
 LetW ((!r3)&&(x.Imm !=(0:Int))) fun y1=>
 (if y1=true then
 Q (11:Int) (4:Int) h4
 else
 LetW ((x.Op==(22:Int)) || (x.Op==(23:Int))) fun y2=>
 LetW ((decide (x.Imm<(0:Int))) || (decide (x.Imm>n))) fun y3=>
 LetW (y2&&y3) fun y4=>
 (if y4=true then
 Q (12:Int) (4:Int) h4
 else
 LetW ((x.Op==(29:Int)) || (x.Op==(30:Int))) fun y5=>
 LetW ((decide (x.Imm<(0:Int))) || (decide (x.Imm≥locks))) fun y6=>
 LetW (y5&&y6) fun y7=>
 (if y7=true then
 Q (13:Int) (4:Int) h4
 else
 Q (0:Int) (0:Int) h4))))) h3)) h2)) h1) h)
def znz (P:Program) (r:Option Addr) (Q:(ByteArray→(Int→(Bool→(Hp→Prop))))) (h:Hp):Prop:=
 NilW none r fun p=>
 LdW none (shInt .i64) h (Addr.add p 2) fun x=>
 (if (x !=(0:Int))=true then
 Q ⟨#[]⟩ (0:Int) false h
 else
 NilW none r fun p1=>
 LdW none (shInt .i64) h (Addr.add p1 1) fun x1=>
 NilW none r fun p2=>
 LdW none shStr h (Addr.add p2 0) fun x2=>
 (if (x1==(((ByteArray.size x2):Nat):Int))=true then
 NilW none r fun p3=>
 LdW none (shInt .i64) h (Addr.add p3 1) fun x3=>
 Call0 P zav [(.pointer r),(.int .i64 (5:Int)),(.int .i64 x3)] (fun h1=>
 Q ⟨#[]⟩ (0:Int) false h1) h
 else
 NilW none r fun p3=>
 LdW none (shInt .i64) h (Addr.add p3 1) fun x3=>
 NilW none r fun p4=>
 LdW none shStr h (Addr.add p4 0) fun x4=>
 (((0:Int)≤(IntKind.wrap .i64 (x3+(1:Int)))∧(IntKind.wrap .i64 (x3+(1:Int)))≤(((ByteArray.size x4):Nat):Int))∧Call3 P zld [(.string (ByteArray.extract x4 (Int.toNat (IntKind.wrap .i64 (x3+(1:Int)))) (ByteArray.size x4))),(.string ⟨#[32]⟩)] shStr shStr zae (fun r1 r2 r3 h1=>
 NilW none r fun p5=>
 StW h1 (Addr.add p5 1) [(.int .i64 (IntKind.wrap .i64 ((IntKind.wrap .i64 (x3+(1:Int)))+(((ByteArray.size r1):Nat):Int))))] (fun h2=>
 Q r1 (IntKind.wrap .i64 (x3+(1:Int))) true h2)) h)))
def zdp1 (P:Program) (text:ByteArray) (Q:(Int→(Bool→(Hp→Prop)))) (h:Hp):Prop:=
 Call2 P znv [(.string text),(.int .i64 (10:Int)),(.int .i64 (64:Int))] (shInt .i64) zah (fun r r1 h1=>
 ((isIfV r1.v)=true∧EffC (some (zcg r1.v)) (CallT P zfw [(.int .i64 r),(.int .i64 (10:Int))] shStr) (fun r2 h2=>
 LetW ((zcg r1.v)&&((ByteArray.toList r2)==(ByteArray.toList text))) fun y=>
 Q r y h2) h1)) h
def zjl1 (P:Program) (text:ByteArray) (Q:(Int→(Bool→(Hp→Prop)))) (h:Hp):Prop:=
 Call2 P zip [(.string text),(.string ⟨#[102]⟩)] shStr zae (fun r r1 h1=>
 (if r1=true then
 Call2 P zdj1 [(.string r)] (shInt .i64) (shInt .i64) (fun r2 r3 h2=>
 EffC (some (r3==(0:Int))) (CallT P zxn [(.int .i64 r2)] zae) (fun r4 h3=>
 LetW ((r3==(0:Int))&&(!r4)) fun y=>
 Q r2 y h3) h2) h1
 else
 Call2 P zxo [(.string text)] (shInt .i64) zae (fun r2 r3 h2=>
 EffC (some r3) (CallT P zxn [(.int .i64 r2)] zae) (fun r4 h3=>
 LetW (r3&&r4) fun y=>
 Q r2 y h3) h2) h1)) h
def zhx (P:Program) (i:Int) (Q:(ByteArray→(Hp→Prop))) (h:Hp):Prop:=
 (if (decide (i<(10:Int)))=true then
 (((0:Int)≤i∧(i≤(IntKind.wrap .i64 (i+(1:Int)))∧(IntKind.wrap .i64 (i+(1:Int)))≤(36:Int)))∧Q (ByteArray.extract ⟨#[48,49,50,51,52,53,54,55,56,57,97,98,99,100,101,102,103,104,105,106,107,108,109,110,111,112,113,114,115,116,117,118,119,120,121,122]⟩ (Int.toNat i) (Int.toNat (IntKind.wrap .i64 (i+(1:Int))))) h)
 else
 (((0:Int)≤(IntKind.wrap .i64 (i*(2:Int)))∧((IntKind.wrap .i64 (i*(2:Int)))≤(IntKind.wrap .i64 ((IntKind.wrap .i64 (i*(2:Int)))+(2:Int)))∧(IntKind.wrap .i64 ((IntKind.wrap .i64 (i*(2:Int)))+(2:Int)))≤(200:Int)))∧Q (ByteArray.extract ⟨#[48,48,48,49,48,50,48,51,48,52,48,53,48,54,48,55,48,56,48,57,49,48,49,49,49,50,49,51,49,52,49,53,49,54,49,55,49,56,49,57,50,48,50,49,50,50,50,51,50,52,50,53,50,54,50,55,50,56,50,57,51,48,51,49,51,50,51,51,51,52,51,53,51,54,51,55,51,56,51,57,52,48,52,49,52,50,52,51,52,52,52,53,52,54,52,55,52,56,52,57,53,48,53,49,53,50,53,51,53,52,53,53,53,54,53,55,53,56,53,57,54,48,54,49,54,50,54,51,54,52,54,53,54,54,54,55,54,56,54,57,55,48,55,49,55,50,55,51,55,52,55,53,55,54,55,55,55,56,55,57,56,48,56,49,56,50,56,51,56,52,56,53,56,54,56,55,56,56,56,57,57,48,57,49,57,50,57,51,57,52,57,53,57,54,57,55,57,56,57,57]⟩ (Int.toNat (IntKind.wrap .i64 (i*(2:Int)))) (Int.toNat (IntKind.wrap .i64 ((IntKind.wrap .i64 (i*(2:Int)))+(2:Int))))) h))
def zfl (P:Program) (d:Int) (Q:(Int→(Hp→Prop))) (h:Hp):Prop:=
 CallT P zht [(.int .u64 d)] (shInt .i64) (fun r h1=>
 CallT P zbc [(.int .i64 r)] (shInt .i64) (fun r1 h2=>
 (((0:Int)≤r1∧r1<(20:Int))∧LdW none (shInt .u64) h2 (Addr.add ⟨5,0,none⟩ ((Int.toNat r1)*1)) fun x=>
 CallT P zff [(.bool (decide (d≥x)))] (shInt .i64) (fun r2 h3=>
 Q (IntKind.wrap .i64 (r1+r2)) h3) h2)) h1) h
def bl200 :List UInt8:=[48,48,48,49,48,50,48,51,48,52,48,53,48,54,48,55,48,56,48,57,49,48,49,49,49,50,49,51,49,52,49,53,49,54,49,55,49,56,49,57,50,48,50,49,50,50,50,51,50,52,50,53,50,54,50,55,50,56,50,57,51,48,51,49,51,50,51,51,51,52,51,53,51,54,51,55,51,56,51,57,52,48,52,49,52,50,52,51,52,52,52,53,52,54,52,55,52,56,52,57,53,48,53,49,53,50,53,51,53,52,53,53,53,54,53,55,53,56,53,57,54,48,54,49,54,50,54,51,54,52,54,53,54,54,54,55,54,56,54,57,55,48,55,49,55,50,55,51,55,52,55,53,55,54,55,55,55,56,55,57,56,48,56,49,56,50,56,51,56,52,56,53,56,54,56,55,56,56,56,57,57,48,57,49,57,50,57,51,57,52,57,53,57,54,57,55,57,56,57,57]
def zdu (P:Program) (a:Sl) (u:Int) (Q:(Hp→Prop)) (h:Hp):Prop:=
 LoopW2 (α1:=Int) (α2:=Int) (fun again u1 nd h1=>
 (if (decide (nd≥(8:Int)))=true then
 ((100000000:Int)≠(0:Int)∧((100000000:Int)≠(0:Int)∧((10000:Int)≠(0:Int)∧((10000:Int)≠(0:Int)∧((100:Int)≠(0:Int)∧((100:Int)≠(0:Int)∧((100:Int)≠(0:Int)∧((100:Int)≠(0:Int)∧(((0:Int)≤(IntKind.wrap .u32 ((IntKind.wrap .u32 ((Int.tmod (Int.tmod (IntKind.wrap .u32 (Int.tmod u1 (100000000:Int))) (10000:Int)) (100:Int))*(2:Int)))+(1:Int)))∧(IntKind.wrap .u32 ((IntKind.wrap .u32 ((Int.tmod (Int.tmod (IntKind.wrap .u32 (Int.tmod u1 (100000000:Int))) (10000:Int)) (100:Int))*(2:Int)))+(1:Int)))<(200:Int))∧(((0:Int)≤(IntKind.wrap .u32 ((Int.tmod (Int.tmod (IntKind.wrap .u32 (Int.tmod u1 (100000000:Int))) (10000:Int)) (100:Int))*(2:Int)))∧(IntKind.wrap .u32 ((Int.tmod (Int.tmod (IntKind.wrap .u32 (Int.tmod u1 (100000000:Int))) (10000:Int)) (100:Int))*(2:Int)))<(200:Int))∧((InB a.base a.len (IntKind.wrap .i64 (nd-(1:Int))))∧StW h1 (sat a.base 1 (IntKind.wrap .i64 (nd-(1:Int)))) [(.int .u8 (((UInt8.toNat (List.getD bl200 (Int.toNat (IntKind.wrap .u32 ((IntKind.wrap .u32 ((Int.tmod (Int.tmod (IntKind.wrap .u32 (Int.tmod u1 (100000000:Int))) (10000:Int)) (100:Int))*(2:Int)))+(1:Int)))) 0)):Nat):Int))] (fun h2=>
 ((InB a.base a.len (IntKind.wrap .i64 (nd-(2:Int))))∧StW h2 (sat a.base 1 (IntKind.wrap .i64 (nd-(2:Int)))) [(.int .u8 (((UInt8.toNat (List.getD bl200 (Int.toNat (IntKind.wrap .u32 ((Int.tmod (Int.tmod (IntKind.wrap .u32 (Int.tmod u1 (100000000:Int))) (10000:Int)) (100:Int))*(2:Int)))) 0)):Nat):Int))] (fun h3=>
 (((0:Int)≤(IntKind.wrap .u32 ((IntKind.wrap .u32 ((IntKind.wrap .u32 (Int.tdiv (Int.tmod (IntKind.wrap .u32 (Int.tmod u1 (100000000:Int))) (10000:Int)) (100:Int)))*(2:Int)))+(1:Int)))∧(IntKind.wrap .u32 ((IntKind.wrap .u32 ((IntKind.wrap .u32 (Int.tdiv (Int.tmod (IntKind.wrap .u32 (Int.tmod u1 (100000000:Int))) (10000:Int)) (100:Int)))*(2:Int)))+(1:Int)))<(200:Int))∧(((0:Int)≤(IntKind.wrap .u32 ((IntKind.wrap .u32 (Int.tdiv (Int.tmod (IntKind.wrap .u32 (Int.tmod u1 (100000000:Int))) (10000:Int)) (100:Int)))*(2:Int)))∧(IntKind.wrap .u32 ((IntKind.wrap .u32 (Int.tdiv (Int.tmod (IntKind.wrap .u32 (Int.tmod u1 (100000000:Int))) (10000:Int)) (100:Int)))*(2:Int)))<(200:Int))∧((InB a.base a.len (IntKind.wrap .i64 (nd-(3:Int))))∧StW h3 (sat a.base 1 (IntKind.wrap .i64 (nd-(3:Int)))) [(.int .u8 (((UInt8.toNat (List.getD bl200 (Int.toNat (IntKind.wrap .u32 ((IntKind.wrap .u32 ((IntKind.wrap .u32 (Int.tdiv (Int.tmod (IntKind.wrap .u32 (Int.tmod u1 (100000000:Int))) (10000:Int)) (100:Int)))*(2:Int)))+(1:Int)))) 0)):Nat):Int))] (fun h4=>
 ((InB a.base a.len (IntKind.wrap .i64 (nd-(4:Int))))∧StW h4 (sat a.base 1 (IntKind.wrap .i64 (nd-(4:Int)))) [(.int .u8 (((UInt8.toNat (List.getD bl200 (Int.toNat (IntKind.wrap .u32 ((IntKind.wrap .u32 (Int.tdiv (Int.tmod (IntKind.wrap .u32 (Int.tmod u1 (100000000:Int))) (10000:Int)) (100:Int)))*(2:Int)))) 0)):Nat):Int))] (fun h5=>
 (((0:Int)≤(IntKind.wrap .u32 ((IntKind.wrap .u32 ((Int.tmod (IntKind.wrap .u32 (Int.tdiv (IntKind.wrap .u32 (Int.tmod u1 (100000000:Int))) (10000:Int))) (100:Int))*(2:Int)))+(1:Int)))∧(IntKind.wrap .u32 ((IntKind.wrap .u32 ((Int.tmod (IntKind.wrap .u32 (Int.tdiv (IntKind.wrap .u32 (Int.tmod u1 (100000000:Int))) (10000:Int))) (100:Int))*(2:Int)))+(1:Int)))<(200:Int))∧(((0:Int)≤(IntKind.wrap .u32 ((Int.tmod (IntKind.wrap .u32 (Int.tdiv (IntKind.wrap .u32 (Int.tmod u1 (100000000:Int))) (10000:Int))) (100:Int))*(2:Int)))∧(IntKind.wrap .u32 ((Int.tmod (IntKind.wrap .u32 (Int.tdiv (IntKind.wrap .u32 (Int.tmod u1 (100000000:Int))) (10000:Int))) (100:Int))*(2:Int)))<(200:Int))∧((InB a.base a.len (IntKind.wrap .i64 (nd-(5:Int))))∧StW h5 (sat a.base 1 (IntKind.wrap .i64 (nd-(5:Int)))) [(.int .u8 (((UInt8.toNat (List.getD bl200 (Int.toNat (IntKind.wrap .u32 ((IntKind.wrap .u32 ((Int.tmod (IntKind.wrap .u32 (Int.tdiv (IntKind.wrap .u32 (Int.tmod u1 (100000000:Int))) (10000:Int))) (100:Int))*(2:Int)))+(1:Int)))) 0)):Nat):Int))] (fun h6=>
 ((InB a.base a.len (IntKind.wrap .i64 (nd-(6:Int))))∧StW h6 (sat a.base 1 (IntKind.wrap .i64 (nd-(6:Int)))) [(.int .u8 (((UInt8.toNat (List.getD bl200 (Int.toNat (IntKind.wrap .u32 ((Int.tmod (IntKind.wrap .u32 (Int.tdiv (IntKind.wrap .u32 (Int.tmod u1 (100000000:Int))) (10000:Int))) (100:Int))*(2:Int)))) 0)):Nat):Int))] (fun h7=>
 (((0:Int)≤(IntKind.wrap .u32 ((IntKind.wrap .u32 ((IntKind.wrap .u32 (Int.tdiv (IntKind.wrap .u32 (Int.tdiv (IntKind.wrap .u32 (Int.tmod u1 (100000000:Int))) (10000:Int))) (100:Int)))*(2:Int)))+(1:Int)))∧(IntKind.wrap .u32 ((IntKind.wrap .u32 ((IntKind.wrap .u32 (Int.tdiv (IntKind.wrap .u32 (Int.tdiv (IntKind.wrap .u32 (Int.tmod u1 (100000000:Int))) (10000:Int))) (100:Int)))*(2:Int)))+(1:Int)))<(200:Int))∧(((0:Int)≤(IntKind.wrap .u32 ((IntKind.wrap .u32 (Int.tdiv (IntKind.wrap .u32 (Int.tdiv (IntKind.wrap .u32 (Int.tmod u1 (100000000:Int))) (10000:Int))) (100:Int)))*(2:Int)))∧(IntKind.wrap .u32 ((IntKind.wrap .u32 (Int.tdiv (IntKind.wrap .u32 (Int.tdiv (IntKind.wrap .u32 (Int.tmod u1 (100000000:Int))) (10000:Int))) (100:Int)))*(2:Int)))<(200:Int))∧((InB a.base a.len (IntKind.wrap .i64 (nd-(7:Int))))∧StW h7 (sat a.base 1 (IntKind.wrap .i64 (nd-(7:Int)))) [(.int .u8 (((UInt8.toNat (List.getD bl200 (Int.toNat (IntKind.wrap .u32 ((IntKind.wrap .u32 ((IntKind.wrap .u32 (Int.tdiv (IntKind.wrap .u32 (Int.tdiv (IntKind.wrap .u32 (Int.tmod u1 (100000000:Int))) (10000:Int))) (100:Int)))*(2:Int)))+(1:Int)))) 0)):Nat):Int))] (fun h8=>
 ((InB a.base a.len (IntKind.wrap .i64 (nd-(8:Int))))∧StW h8 (sat a.base 1 (IntKind.wrap .i64 (nd-(8:Int)))) [(.int .u8 (((UInt8.toNat (List.getD bl200 (Int.toNat (IntKind.wrap .u32 ((IntKind.wrap .u32 (Int.tdiv (IntKind.wrap .u32 (Int.tdiv (IntKind.wrap .u32 (Int.tmod u1 (100000000:Int))) (10000:Int))) (100:Int)))*(2:Int)))) 0)):Nat):Int))] (fun h9=>
 again (IntKind.wrap .u64 (Int.tdiv u1 (100000000:Int))) (IntKind.wrap .i64 (nd-(8:Int))) h9))))))))))))))))))))))))))))))))
 else
 JoinW2 (α1:=Int) (α2:=Int) (fun k=>
 (if (decide (nd≥(4:Int)))=true then
 ((10000:Int)≠(0:Int)∧((10000:Int)≠(0:Int)∧((100:Int)≠(0:Int)∧((100:Int)≠(0:Int)∧(((0:Int)≤(IntKind.wrap .u32 ((IntKind.wrap .u32 ((Int.tmod (Int.tmod (IntKind.wrap .u32 u1) (10000:Int)) (100:Int))*(2:Int)))+(1:Int)))∧(IntKind.wrap .u32 ((IntKind.wrap .u32 ((Int.tmod (Int.tmod (IntKind.wrap .u32 u1) (10000:Int)) (100:Int))*(2:Int)))+(1:Int)))<(200:Int))∧(((0:Int)≤(IntKind.wrap .u32 ((Int.tmod (Int.tmod (IntKind.wrap .u32 u1) (10000:Int)) (100:Int))*(2:Int)))∧(IntKind.wrap .u32 ((Int.tmod (Int.tmod (IntKind.wrap .u32 u1) (10000:Int)) (100:Int))*(2:Int)))<(200:Int))∧((InB a.base a.len (IntKind.wrap .i64 (nd-(1:Int))))∧StW h1 (sat a.base 1 (IntKind.wrap .i64 (nd-(1:Int)))) [(.int .u8 (((UInt8.toNat (List.getD bl200 (Int.toNat (IntKind.wrap .u32 ((IntKind.wrap .u32 ((Int.tmod (Int.tmod (IntKind.wrap .u32 u1) (10000:Int)) (100:Int))*(2:Int)))+(1:Int)))) 0)):Nat):Int))] (fun h2=>
 ((InB a.base a.len (IntKind.wrap .i64 (nd-(2:Int))))∧StW h2 (sat a.base 1 (IntKind.wrap .i64 (nd-(2:Int)))) [(.int .u8 (((UInt8.toNat (List.getD bl200 (Int.toNat (IntKind.wrap .u32 ((Int.tmod (Int.tmod (IntKind.wrap .u32 u1) (10000:Int)) (100:Int))*(2:Int)))) 0)):Nat):Int))] (fun h3=>
 (((0:Int)≤(IntKind.wrap .u32 ((IntKind.wrap .u32 ((IntKind.wrap .u32 (Int.tdiv (Int.tmod (IntKind.wrap .u32 u1) (10000:Int)) (100:Int)))*(2:Int)))+(1:Int)))∧(IntKind.wrap .u32 ((IntKind.wrap .u32 ((IntKind.wrap .u32 (Int.tdiv (Int.tmod (IntKind.wrap .u32 u1) (10000:Int)) (100:Int)))*(2:Int)))+(1:Int)))<(200:Int))∧(((0:Int)≤(IntKind.wrap .u32 ((IntKind.wrap .u32 (Int.tdiv (Int.tmod (IntKind.wrap .u32 u1) (10000:Int)) (100:Int)))*(2:Int)))∧(IntKind.wrap .u32 ((IntKind.wrap .u32 (Int.tdiv (Int.tmod (IntKind.wrap .u32 u1) (10000:Int)) (100:Int)))*(2:Int)))<(200:Int))∧((InB a.base a.len (IntKind.wrap .i64 (nd-(3:Int))))∧StW h3 (sat a.base 1 (IntKind.wrap .i64 (nd-(3:Int)))) [(.int .u8 (((UInt8.toNat (List.getD bl200 (Int.toNat (IntKind.wrap .u32 ((IntKind.wrap .u32 ((IntKind.wrap .u32 (Int.tdiv (Int.tmod (IntKind.wrap .u32 u1) (10000:Int)) (100:Int)))*(2:Int)))+(1:Int)))) 0)):Nat):Int))] (fun h4=>
 ((InB a.base a.len (IntKind.wrap .i64 (nd-(4:Int))))∧StW h4 (sat a.base 1 (IntKind.wrap .i64 (nd-(4:Int)))) [(.int .u8 (((UInt8.toNat (List.getD bl200 (Int.toNat (IntKind.wrap .u32 ((IntKind.wrap .u32 (Int.tdiv (Int.tmod (IntKind.wrap .u32 u1) (10000:Int)) (100:Int)))*(2:Int)))) 0)):Nat):Int))] (fun h5=>
 k (IntKind.wrap .i64 (nd-(4:Int))) (IntKind.wrap .u32 (Int.tdiv (IntKind.wrap .u32 u1) (10000:Int))) h5))))))))))))))))
 else
 k nd (IntKind.wrap .u32 u1) h1))
 (fun nd1 x h2=>
 JoinW2 (α1:=Int) (α2:=Int) (fun k=>
 (if (decide (nd1≥(2:Int)))=true then
 ((100:Int)≠(0:Int)∧((100:Int)≠(0:Int)∧(((0:Int)≤(IntKind.wrap .u32 ((IntKind.wrap .u32 ((Int.tmod x (100:Int))*(2:Int)))+(1:Int)))∧(IntKind.wrap .u32 ((IntKind.wrap .u32 ((Int.tmod x (100:Int))*(2:Int)))+(1:Int)))<(200:Int))∧(((0:Int)≤(IntKind.wrap .u32 ((Int.tmod x (100:Int))*(2:Int)))∧(IntKind.wrap .u32 ((Int.tmod x (100:Int))*(2:Int)))<(200:Int))∧((InB a.base a.len (IntKind.wrap .i64 (nd1-(1:Int))))∧StW h2 (sat a.base 1 (IntKind.wrap .i64 (nd1-(1:Int)))) [(.int .u8 (((UInt8.toNat (List.getD bl200 (Int.toNat (IntKind.wrap .u32 ((IntKind.wrap .u32 ((Int.tmod x (100:Int))*(2:Int)))+(1:Int)))) 0)):Nat):Int))] (fun h3=>
 ((InB a.base a.len (IntKind.wrap .i64 (nd1-(2:Int))))∧StW h3 (sat a.base 1 (IntKind.wrap .i64 (nd1-(2:Int)))) [(.int .u8 (((UInt8.toNat (List.getD bl200 (Int.toNat (IntKind.wrap .u32 ((Int.tmod x (100:Int))*(2:Int)))) 0)):Nat):Int))] (fun h4=>
 k (IntKind.wrap .i64 (nd1-(2:Int))) (IntKind.wrap .u32 (Int.tdiv x (100:Int))) h4))))))))
 else
 k nd1 x h2))
 (fun nd2 x1 h3=>
 (if (decide (nd2>(0:Int)))=true then
 ((InB a.base a.len (0:Int))∧StW h3 (sat a.base 1 (0:Int)) [(.int .u8 (IntKind.wrap .u8 (IntKind.wrap .u32 ((48:Int)+x1))))] (fun h4=>
 Q h4))
 else
 Q h3))))) u ((a.len:Nat):Int) h
def zeu (P:Program) (dst:Sl) (u:Int) (base:Int) (neg:Bool) (append_:Bool) (Q:(Sl→(ByteArray→(Hp→Prop)))) (h:Hp):Prop:=
 JoinW0 (fun k=>
 LetW ((decide (base<(2:Int))) || (base==(10:Int))) fun y=>
 LetW (y || (decide (base>(36:Int)))) fun y1=>
 (if y1=true then
 False
 else
 k h))
 (fun h1=>
 NewW [(.int .u8 (0:Int)),(.int .u8 (0:Int)),(.int .u8 (0:Int)),(.int .u8 (0:Int)),(.int .u8 (0:Int)),(.int .u8 (0:Int)),(.int .u8 (0:Int)),(.int .u8 (0:Int)),(.int .u8 (0:Int)),(.int .u8 (0:Int)),(.int .u8 (0:Int)),(.int .u8 (0:Int)),(.int .u8 (0:Int)),(.int .u8 (0:Int)),(.int .u8 (0:Int)),(.int .u8 (0:Int)),(.int .u8 (0:Int)),(.int .u8 (0:Int)),(.int .u8 (0:Int)),(.int .u8 (0:Int)),(.int .u8 (0:Int)),(.int .u8 (0:Int)),(.int .u8 (0:Int)),(.int .u8 (0:Int)),(.int .u8 (0:Int)),(.int .u8 (0:Int)),(.int .u8 (0:Int)),(.int .u8 (0:Int)),(.int .u8 (0:Int)),(.int .u8 (0:Int)),(.int .u8 (0:Int)),(.int .u8 (0:Int)),(.int .u8 (0:Int)),(.int .u8 (0:Int)),(.int .u8 (0:Int)),(.int .u8 (0:Int)),(.int .u8 (0:Int)),(.int .u8 (0:Int)),(.int .u8 (0:Int)),(.int .u8 (0:Int)),(.int .u8 (0:Int)),(.int .u8 (0:Int)),(.int .u8 (0:Int)),(.int .u8 (0:Int)),(.int .u8 (0:Int)),(.int .u8 (0:Int)),(.int .u8 (0:Int)),(.int .u8 (0:Int)),(.int .u8 (0:Int)),(.int .u8 (0:Int)),(.int .u8 (0:Int)),(.int .u8 (0:Int)),(.int .u8 (0:Int)),(.int .u8 (0:Int)),(.int .u8 (0:Int)),(.int .u8 (0:Int)),(.int .u8 (0:Int)),(.int .u8 (0:Int)),(.int .u8 (0:Int)),(.int .u8 (0:Int)),(.int .u8 (0:Int)),(.int .u8 (0:Int)),(.int .u8 (0:Int)),(.int .u8 (0:Int)),(.int .u8 (0:Int))] (fun a h2=>
 JoinW1 (α1:=Int) (fun k=>
 (if neg=true then
 k (IntKind.wrap .u64 ((0:Int)-u)) h2
 else
 k u h2))
 (fun u1 h3=>
 JoinW1 (α1:=Int) (fun k=>
 CallT P zhu [(.int .i64 base)] zae (fun r h4=>
 (if r=true then
 CallT P zmb [(.int .u64 (IntKind.wrap .u64 base))] (shInt .i64) (fun r1 h5=>
 LoopW2 (α1:=Int) (α2:=Int) (fun again u2 i h6=>
 (if (decide (u2≥(IntKind.wrap .u64 base)))=true then
 (((0:Int)≤(bitsI .and .u64 u2 (IntKind.wrap .u64 ((IntKind.wrap .u64 base)-(1:Int))))∧(bitsI .and .u64 u2 (IntKind.wrap .u64 ((IntKind.wrap .u64 base)-(1:Int))))<(36:Int))∧(((0:Int)≤(IntKind.wrap .i64 (i-(1:Int)))∧(IntKind.wrap .i64 (i-(1:Int)))<(65:Int))∧StW h6 (Addr.add a ((Int.toNat (IntKind.wrap .i64 (i-(1:Int))))*1)) [(.int .u8 (((UInt8.toNat (List.getD [48,49,50,51,52,53,54,55,56,57,97,98,99,100,101,102,103,104,105,106,107,108,109,110,111,112,113,114,115,116,117,118,119,120,121,122] (Int.toNat (bitsI .and .u64 u2 (IntKind.wrap .u64 ((IntKind.wrap .u64 base)-(1:Int))))) 0)):Nat):Int))] (fun h7=>
 ((0:Int)≤(IntKind.wrap .u64 r1)∧again (shrI .u64 u2 (IntKind.wrap .u64 r1)) (IntKind.wrap .i64 (i-(1:Int))) h7))))
 else
 (((0:Int)≤u2∧u2<(36:Int))∧(((0:Int)≤(IntKind.wrap .i64 (i-(1:Int)))∧(IntKind.wrap .i64 (i-(1:Int)))<(65:Int))∧StW h6 (Addr.add a ((Int.toNat (IntKind.wrap .i64 (i-(1:Int))))*1)) [(.int .u8 (((UInt8.toNat (List.getD [48,49,50,51,52,53,54,55,56,57,97,98,99,100,101,102,103,104,105,106,107,108,109,110,111,112,113,114,115,116,117,118,119,120,121,122] (Int.toNat u2) 0)):Nat):Int))] (fun h7=>
 k (IntKind.wrap .i64 (i-(1:Int))) h7))))) u1 (65:Int) h5) h4
 else
 LoopW2 (α1:=Int) (α2:=Int) (fun again u2 i h5=>
 (if (decide (u2≥(IntKind.wrap .u64 base)))=true then
 ((IntKind.wrap .u64 base)≠(0:Int)∧(((0:Int)≤(IntKind.wrap .u64 (u2-(IntKind.wrap .u64 ((IntKind.wrap .u64 (Int.tdiv u2 (IntKind.wrap .u64 base)))*(IntKind.wrap .u64 base)))))∧(IntKind.wrap .u64 (u2-(IntKind.wrap .u64 ((IntKind.wrap .u64 (Int.tdiv u2 (IntKind.wrap .u64 base)))*(IntKind.wrap .u64 base)))))<(36:Int))∧(((0:Int)≤(IntKind.wrap .i64 (i-(1:Int)))∧(IntKind.wrap .i64 (i-(1:Int)))<(65:Int))∧StW h5 (Addr.add a ((Int.toNat (IntKind.wrap .i64 (i-(1:Int))))*1)) [(.int .u8 (((UInt8.toNat (List.getD [48,49,50,51,52,53,54,55,56,57,97,98,99,100,101,102,103,104,105,106,107,108,109,110,111,112,113,114,115,116,117,118,119,120,121,122] (Int.toNat (IntKind.wrap .u64 (u2-(IntKind.wrap .u64 ((IntKind.wrap .u64 (Int.tdiv u2 (IntKind.wrap .u64 base)))*(IntKind.wrap .u64 base)))))) 0)):Nat):Int))] (fun h6=>
 again (IntKind.wrap .u64 (Int.tdiv u2 (IntKind.wrap .u64 base))) (IntKind.wrap .i64 (i-(1:Int))) h6))))
 else
 (((0:Int)≤u2∧u2<(36:Int))∧(((0:Int)≤(IntKind.wrap .i64 (i-(1:Int)))∧(IntKind.wrap .i64 (i-(1:Int)))<(65:Int))∧StW h5 (Addr.add a ((Int.toNat (IntKind.wrap .i64 (i-(1:Int))))*1)) [(.int .u8 (((UInt8.toNat (List.getD [48,49,50,51,52,53,54,55,56,57,97,98,99,100,101,102,103,104,105,106,107,108,109,110,111,112,113,114,115,116,117,118,119,120,121,122] (Int.toNat u2) 0)):Nat):Int))] (fun h6=>
 k (IntKind.wrap .i64 (i-(1:Int))) h6))))) u1 (65:Int) h4)) h3)
 (fun i h4=>
 (if neg=true then
 (((0:Int)≤(IntKind.wrap .i64 (i-(1:Int)))∧(IntKind.wrap .i64 (i-(1:Int)))<(65:Int))∧StW h4 (Addr.add a ((Int.toNat (IntKind.wrap .i64 (i-(1:Int))))*1)) [(.int .u8 (45:Int))] (fun h5=>
 (if append_=true then
 (((0:Int)≤(IntKind.wrap .i64 (i-(1:Int)))∧(IntKind.wrap .i64 (i-(1:Int)))≤(65:Int))∧LetW (α:=Sl) ⟨(sbase (some a) 1 (Int.toNat (IntKind.wrap .i64 (i-(1:Int)))) 65),(65-(Int.toNat (IntKind.wrap .i64 (i-(1:Int))))),(65-(Int.toNat (IntKind.wrap .i64 (i-(1:Int)))))⟩ fun y=>
 zbh 1 1 [(.int .u8 (0:Int))] dst y (fun r h6=>
 Q r ⟨#[]⟩ h6) h5)
 else
 (((0:Int)≤(IntKind.wrap .i64 (i-(1:Int)))∧(IntKind.wrap .i64 (i-(1:Int)))≤(65:Int))∧LetW (α:=Sl) ⟨(sbase (some a) 1 (Int.toNat (IntKind.wrap .i64 (i-(1:Int)))) 65),(65-(Int.toNat (IntKind.wrap .i64 (i-(1:Int))))),(65-(Int.toNat (IntKind.wrap .i64 (i-(1:Int)))))⟩ fun y=>
 SemV none P (convert 74 9 y.v) shStr h5 fun x=>
 Q ⟨none,0,0⟩ x h5))))
 else
 (if append_=true then
 (((0:Int)≤i∧i≤(65:Int))∧LetW (α:=Sl) ⟨(sbase (some a) 1 (Int.toNat i) 65),(65-(Int.toNat i)),(65-(Int.toNat i))⟩ fun y=>
 zbh 1 1 [(.int .u8 (0:Int))] dst y (fun r h5=>
 Q r ⟨#[]⟩ h5) h4)
 else
 (((0:Int)≤i∧i≤(65:Int))∧LetW (α:=Sl) ⟨(sbase (some a) 1 (Int.toNat i) 65),(65-(Int.toNat i)),(65-(Int.toNat i))⟩ fun y=>
 SemV none P (convert 74 9 y.v) shStr h4 fun x=>
 Q ⟨none,0,0⟩ x h4)))))) h1)
def zpi (P:Program) (x:Int) (y:Int) (Q:(Int→(Int→(Hp→Prop)))) (h:Hp):Prop:=
 ((0:Int)≤(32:Int)∧((0:Int)≤(32:Int)∧((0:Int)≤(32:Int)∧((0:Int)≤(32:Int)∧((0:Int)≤(32:Int)∧Q (IntKind.wrap .u64 ((IntKind.wrap .u64 ((IntKind.wrap .u64 ((shrI .u64 x (32:Int))*(shrI .u64 y (32:Int))))+(shrI .u64 (IntKind.wrap .u64 ((IntKind.wrap .u64 ((shrI .u64 x (32:Int))*(bitsI .and .u64 y (4294967295:Int))))+(shrI .u64 (IntKind.wrap .u64 ((bitsI .and .u64 x (4294967295:Int))*(bitsI .and .u64 y (4294967295:Int)))) (32:Int)))) (32:Int))))+(shrI .u64 (IntKind.wrap .u64 ((bitsI .and .u64 (IntKind.wrap .u64 ((IntKind.wrap .u64 ((shrI .u64 x (32:Int))*(bitsI .and .u64 y (4294967295:Int))))+(shrI .u64 (IntKind.wrap .u64 ((bitsI .and .u64 x (4294967295:Int))*(bitsI .and .u64 y (4294967295:Int)))) (32:Int)))) (4294967295:Int))+(IntKind.wrap .u64 ((bitsI .and .u64 x (4294967295:Int))*(shrI .u64 y (32:Int)))))) (32:Int)))) (IntKind.wrap .u64 (x*y)) h)))))
def zdm (P:Program) (s:ByteArray) (c:Int) (Q:(Int→(Hp→Prop))) (h:Hp):Prop:=
 SemE P (Extern.BytealgIndexByte.indexByte #[(.string s),(.int .u8 c)]) (shInt .i64) (fun r h1=>
 Q r h1) h
def zcj (P:Program) (dst:Sl) (neg:Bool) (s:Sl) (dp:Int) (nd:Int) (prec:Int) (fmt:Int) (shortest:Bool) (Q:(Sl→(Hp→Prop))) (h:Hp):Prop:=
 JoinW2 (α1:=Int) (α2:=Int) (fun k=>
 LetW ((fmt==(103:Int)) || (fmt==(71:Int))) fun y=>
 (if y=true then
 JoinW1 (α1:=Int) (fun k1=>
 LetW ((decide (prec>nd))&&(decide (nd≥dp))) fun y1=>
 (if y1=true then
 k1 nd h
 else
 k1 prec h))
 (fun eprec h1=>
 JoinW1 (α1:=Int) (fun k1=>
 (if shortest=true then
 k1 (6:Int) h1
 else
 k1 eprec h1))
 (fun eprec1 h2=>
 LetW ((decide ((IntKind.wrap .i64 (dp-(1:Int)))<(-4:Int))) || (decide ((IntKind.wrap .i64 (dp-(1:Int)))≥eprec1))) fun y1=>
 (if y1=true then
 JoinW1 (α1:=Int) (fun k1=>
 (if (decide (prec>nd))=true then
 k1 nd h2
 else
 k1 prec h2))
 (fun prec1 h3=>
 k (IntKind.wrap .i64 (prec1-(1:Int))) (IntKind.wrap .u8 ((IntKind.wrap .u8 (fmt+(101:Int)))-(103:Int))) h3)
 else
 JoinW1 (α1:=Int) (fun k1=>
 (if (decide (prec>dp))=true then
 k1 nd h2
 else
 k1 prec h2))
 (fun prec1 h3=>
 k (max2I (IntKind.wrap .i64 (prec1-dp)) (0:Int)) (102:Int) h3))))
 else
 k prec fmt h))
 (fun prec1 fmt1 h1=>
 JoinW1 (α1:=Bool) (fun k=>
 (if (fmt1==(101:Int))=true then
 k (fmt1==(101:Int)) h1
 else
 k (fmt1==(69:Int)) h1))
 (fun t75 h2=>
 (if t75=true then
 JoinW1 (α1:=Sl) (fun k=>
 (if neg=true then
 NewW [(.int .u8 (45:Int))] (fun a h3=>
 zbh 1 1 [(.int .u8 (0:Int))] dst ⟨(some a),1,1⟩ (fun r h4=>
 k r h4) h3) h2
 else
 k dst h2))
 (fun dst1 h3=>
 JoinW1 (α1:=Int) (fun k=>
 (if (nd !=(0:Int))=true then
 ((InB s.base s.len (0:Int))∧LdW none (shInt .u8) h3 (sat s.base 1 (0:Int)) fun x=>
 k x h3)
 else
 k (48:Int) h3))
 (fun ch h4=>
 NewW [(.int .u8 ch)] (fun a h5=>
 zbh 1 1 [(.int .u8 (0:Int))] dst1 ⟨(some a),1,1⟩ (fun r h6=>
 JoinW1 (α1:=Sl) (fun k=>
 (if (decide (prec1>(0:Int)))=true then
 NewW [(.int .u8 (46:Int))] (fun a1 h7=>
 zbh 1 1 [(.int .u8 (0:Int))] r ⟨(some a1),1,1⟩ (fun r1 h8=>
 JoinW2 (α1:=Sl) (α2:=Int) (fun k1=>
 (if (decide ((1:Int)<(min2I nd (IntKind.wrap .i64 (prec1+(1:Int))))))=true then
 (((0:Int)≤(1:Int)∧((1:Int)≤(min2I nd (IntKind.wrap .i64 (prec1+(1:Int))))∧(min2I nd (IntKind.wrap .i64 (prec1+(1:Int))))≤((s.cap:Nat):Int)))∧LetW (α:=Sl) ⟨(sbase s.base 1 1 s.cap),((Int.toNat (min2I nd (IntKind.wrap .i64 (prec1+(1:Int)))))-1),(s.cap-1)⟩ fun y=>
 zbh 1 1 [(.int .u8 (0:Int))] r1 y (fun r2 h9=>
 k1 r2 (min2I nd (IntKind.wrap .i64 (prec1+(1:Int)))) h9) h8)
 else
 k1 r1 (1:Int) h8))
 (fun dst2 i h9=>
 LoopW2 (α1:=Sl) (α2:=Int) (fun again dst3 t114 h10=>
 (if (decide (t114<(IntKind.wrap .i64 ((IntKind.wrap .i64 (prec1+(1:Int)))-i))))=true then
 NewW [(.int .u8 (48:Int))] (fun a2 h11=>
 zbh 1 1 [(.int .u8 (0:Int))] ⟨dst3.base,dst3.len,dst3.cap⟩ ⟨(some a2),1,1⟩ (fun r2 h12=>
 again r2 (IntKind.wrap .i64 (t114+(1:Int))) h12) h11) h10
 else
 k ⟨dst3.base,dst3.len,dst3.cap⟩ h10)) ⟨dst2.base,dst2.len,dst2.cap⟩ (0:Int) h9)) h7) h6
 else
 k r h6))
 (fun dst2 h7=>
 NewW [(.int .u8 fmt1)] (fun a1 h8=>
 zbh 1 1 [(.int .u8 (0:Int))] dst2 ⟨(some a1),1,1⟩ (fun r1 h9=>
 JoinW1 (α1:=Int) (fun k=>
 (if (nd==(0:Int))=true then
 k (0:Int) h9
 else
 k (IntKind.wrap .i64 (dp-(1:Int))) h9))
 (fun exp h10=>
 JoinW2 (α1:=Int) (α2:=Int) (fun k=>
 (if (decide (exp<(0:Int)))=true then
 k (45:Int) (IntKind.wrap .i64 ((0:Int)-exp)) h10
 else
 k (43:Int) exp h10))
 (fun ch1 exp1 h11=>
 NewW [(.int .u8 ch1)] (fun a2 h12=>
 zbh 1 1 [(.int .u8 (0:Int))] r1 ⟨(some a2),1,1⟩ (fun r2 h13=>
 (if (decide (exp1<(10:Int)))=true then
 NewW [(.int .u8 (48:Int)),(.int .u8 (IntKind.wrap .u8 ((IntKind.wrap .u8 exp1)+(48:Int))))] (fun a3 h14=>
 zbh 1 1 [(.int .u8 (0:Int))] r2 ⟨(some a3),2,2⟩ (fun r3 h15=>
 Q r3 h15) h14) h13
 else
 (if (decide (exp1<(100:Int)))=true then
 ((10:Int)≠(0:Int)∧((10:Int)≠(0:Int)∧NewW [(.int .u8 (IntKind.wrap .u8 ((IntKind.wrap .u8 (IntKind.wrap .i64 (Int.tdiv exp1 (10:Int))))+(48:Int)))),(.int .u8 (IntKind.wrap .u8 ((IntKind.wrap .u8 (Int.tmod exp1 (10:Int)))+(48:Int))))] (fun a3 h14=>
 zbh 1 1 [(.int .u8 (0:Int))] r2 ⟨(some a3),2,2⟩ (fun r3 h15=>
 Q r3 h15) h14) h13))
 else
 ((100:Int)≠(0:Int)∧((10:Int)≠(0:Int)∧((10:Int)≠(0:Int)∧((10:Int)≠(0:Int)∧NewW [(.int .u8 (IntKind.wrap .u8 ((IntKind.wrap .u8 (IntKind.wrap .i64 (Int.tdiv exp1 (100:Int))))+(48:Int)))),(.int .u8 (IntKind.wrap .u8 ((Int.tmod (IntKind.wrap .u8 (IntKind.wrap .i64 (Int.tdiv exp1 (10:Int)))) (10:Int))+(48:Int)))),(.int .u8 (IntKind.wrap .u8 ((IntKind.wrap .u8 (Int.tmod exp1 (10:Int)))+(48:Int))))] (fun a3 h14=>
 zbh 1 1 [(.int .u8 (0:Int))] r2 ⟨(some a3),3,3⟩ (fun r3 h15=>
 Q r3 h15) h14) h13))))))) h12) h11))) h8) h7)) h5) h4))
 else
 (if (fmt1==(102:Int))=true then
 JoinW1 (α1:=Sl) (fun k=>
 (if neg=true then
 NewW [(.int .u8 (45:Int))] (fun a h3=>
 zbh 1 1 [(.int .u8 (0:Int))] dst ⟨(some a),1,1⟩ (fun r h4=>
 k r h4) h3) h2
 else
 k dst h2))
 (fun dst1 h3=>
 JoinW1 (α1:=Sl) (fun k=>
 (if (decide (dp>(0:Int)))=true then
 (((0:Int)≤(min2I nd dp)∧(min2I nd dp)≤((s.cap:Nat):Int))∧LetW (α:=Sl) ⟨(sbase s.base 1 0 s.cap),((Int.toNat (min2I nd dp))-0),(s.cap-0)⟩ fun y=>
 LoopW2 (α1:=Sl) (α2:=Int) (fun again dst2 t191 h4=>
 (if (decide (t191<((y.len:Nat):Int)))=true then
 ((InB y.base y.len t191)∧LdW none (shInt .u8) h4 (sat y.base 1 t191) fun x=>
 NewW [(.int .u8 x)] (fun a h5=>
 zbh 1 1 [(.int .u8 (0:Int))] ⟨dst2.base,dst2.len,dst2.cap⟩ ⟨(some a),1,1⟩ (fun r h6=>
 again r (IntKind.wrap .i64 (t191+(1:Int))) h6) h5) h4)
 else
 LoopW2 (α1:=Sl) (α2:=Int) (fun again1 dst3 t203 h5=>
 (if (decide (t203<(IntKind.wrap .i64 (dp-(min2I nd dp)))))=true then
 NewW [(.int .u8 (48:Int))] (fun a h6=>
 zbh 1 1 [(.int .u8 (0:Int))] ⟨dst3.base,dst3.len,dst3.cap⟩ ⟨(some a),1,1⟩ (fun r h7=>
 again1 r (IntKind.wrap .i64 (t203+(1:Int))) h7) h6) h5
 else
 k ⟨dst3.base,dst3.len,dst3.cap⟩ h5)) ⟨dst2.base,dst2.len,dst2.cap⟩ (0:Int) h4)) dst1 (0:Int) h3)
 else
 NewW [(.int .u8 (48:Int))] (fun a h4=>
 zbh 1 1 [(.int .u8 (0:Int))] dst1 ⟨(some a),1,1⟩ (fun r h5=>
 k r h5) h4) h3))
 (fun dst2 h4=>
 (if (decide (prec1>(0:Int)))=true then
 NewW [(.int .u8 (46:Int))] (fun a h5=>
 zbh 1 1 [(.int .u8 (0:Int))] dst2 ⟨(some a),1,1⟩ (fun r h6=>
 LoopW2 (α1:=Sl) (α2:=Int) (fun again dst3 t240 h7=>
 (if (decide (t240<(min2I prec1 (max2I (0:Int) (IntKind.wrap .i64 ((0:Int)-dp))))))=true then
 NewW [(.int .u8 (48:Int))] (fun a1 h8=>
 zbh 1 1 [(.int .u8 (0:Int))] ⟨dst3.base,dst3.len,dst3.cap⟩ ⟨(some a1),1,1⟩ (fun r1 h9=>
 again r1 (IntKind.wrap .i64 (t240+(1:Int))) h9) h8) h7
 else
 LoopW2 (α1:=Sl) (α2:=Int) (fun again1 dst4 t247 h8=>
 (if (decide (t247<(min2I (IntKind.wrap .i64 (prec1-(min2I prec1 (max2I (0:Int) (IntKind.wrap .i64 ((0:Int)-dp)))))) (max2I (0:Int) (IntKind.wrap .i64 (nd-(IntKind.wrap .i64 (dp+(min2I prec1 (max2I (0:Int) (IntKind.wrap .i64 ((0:Int)-dp))))))))))))=true then
 ((InB s.base s.len (IntKind.wrap .i64 ((IntKind.wrap .i64 (dp+(min2I prec1 (max2I (0:Int) (IntKind.wrap .i64 ((0:Int)-dp))))))+t247)))∧LdW none (shInt .u8) h8 (sat s.base 1 (IntKind.wrap .i64 ((IntKind.wrap .i64 (dp+(min2I prec1 (max2I (0:Int) (IntKind.wrap .i64 ((0:Int)-dp))))))+t247))) fun x=>
 NewW [(.int .u8 x)] (fun a1 h9=>
 zbh 1 1 [(.int .u8 (0:Int))] ⟨dst4.base,dst4.len,dst4.cap⟩ ⟨(some a1),1,1⟩ (fun r1 h10=>
 again1 r1 (IntKind.wrap .i64 (t247+(1:Int))) h10) h9) h8)
 else
 LoopW2 (α1:=Sl) (α2:=Int) (fun again2 dst5 t261 h9=>
 (if (decide (t261<(max2I (0:Int) (IntKind.wrap .i64 ((IntKind.wrap .i64 (prec1-(min2I prec1 (max2I (0:Int) (IntKind.wrap .i64 ((0:Int)-dp))))))-(min2I (IntKind.wrap .i64 (prec1-(min2I prec1 (max2I (0:Int) (IntKind.wrap .i64 ((0:Int)-dp)))))) (max2I (0:Int) (IntKind.wrap .i64 (nd-(IntKind.wrap .i64 (dp+(min2I prec1 (max2I (0:Int) (IntKind.wrap .i64 ((0:Int)-dp)))))))))))))))=true then
 NewW [(.int .u8 (48:Int))] (fun a1 h10=>
 zbh 1 1 [(.int .u8 (0:Int))] ⟨dst5.base,dst5.len,dst5.cap⟩ ⟨(some a1),1,1⟩ (fun r1 h11=>
 again2 r1 (IntKind.wrap .i64 (t261+(1:Int))) h11) h10) h9
 else
 Q ⟨dst5.base,dst5.len,dst5.cap⟩ h9)) ⟨dst4.base,dst4.len,dst4.cap⟩ (0:Int) h8)) ⟨dst3.base,dst3.len,dst3.cap⟩ (0:Int) h7)) r (0:Int) h6) h5) h4
 else
 Q dst2 h4)))
 else
 NewW [(.int .u8 (37:Int)),(.int .u8 fmt1)] (fun a h3=>
 zbh 1 1 [(.int .u8 (0:Int))] dst ⟨(some a),2,2⟩ (fun r h4=>
 Q r h4) h3) h2))))
def bl256 :List UInt8:=[0,1,2,2,3,3,3,3,4,4,4,4,4,4,4,4,5,5,5,5,5,5,5,5,5,5,5,5,5,5,5,5,6,6,6,6,6,6,6,6,6,6,6,6,6,6,6,6,6,6,6,6,6,6,6,6,6,6,6,6,6,6,6,6,7,7,7,7,7,7,7,7,7,7,7,7,7,7,7,7,7,7,7,7,7,7,7,7,7,7,7,7,7,7,7,7,7,7,7,7,7,7,7,7,7,7,7,7,7,7,7,7,7,7,7,7,7,7,7,7,7,7,7,7,7,7,7,7,8,8,8,8,8,8,8,8,8,8,8,8,8,8,8,8,8,8,8,8,8,8,8,8,8,8,8,8,8,8,8,8,8,8,8,8,8,8,8,8,8,8,8,8,8,8,8,8,8,8,8,8,8,8,8,8,8,8,8,8,8,8,8,8,8,8,8,8,8,8,8,8,8,8,8,8,8,8,8,8,8,8,8,8,8,8,8,8,8,8,8,8,8,8,8,8,8,8,8,8,8,8,8,8,8,8,8,8,8,8,8,8,8,8,8,8,8,8,8,8,8,8,8,8,8,8,8,8]
def zpj (P:Program) (x:Int) (Q:(Int→(Hp→Prop))) (h:Hp):Prop:=
 JoinW2 (α1:=Int) (α2:=Int) (fun k=>
 (if (decide (x≥(4294967296:Int)))=true then
 ((0:Int)≤(32:Int)∧k (shrI .u64 x (32:Int)) (32:Int) h)
 else
 k x (0:Int) h))
 (fun x1 n h1=>
 JoinW2 (α1:=Int) (α2:=Int) (fun k=>
 (if (decide (x1≥(65536:Int)))=true then
 ((0:Int)≤(16:Int)∧k (shrI .u64 x1 (16:Int)) (IntKind.wrap .i64 (n+(16:Int))) h1)
 else
 k x1 n h1))
 (fun x2 n1 h2=>
 (if (decide (x2≥(256:Int)))=true then
 ((0:Int)≤(8:Int)∧(((0:Int)≤(IntKind.wrap .u8 (shrI .u64 x2 (8:Int)))∧(IntKind.wrap .u8 (shrI .u64 x2 (8:Int)))<(256:Int))∧Q (IntKind.wrap .i64 ((IntKind.wrap .i64 (n1+(8:Int)))+(IntKind.wrap .i64 (((UInt8.toNat (List.getD bl256 (Int.toNat (IntKind.wrap .u8 (shrI .u64 x2 (8:Int)))) 0)):Nat):Int)))) h2))
 else
 (((0:Int)≤(IntKind.wrap .u8 x2)∧(IntKind.wrap .u8 x2)<(256:Int))∧Q (IntKind.wrap .i64 (n1+(IntKind.wrap .i64 (((UInt8.toNat (List.getD bl256 (Int.toNat (IntKind.wrap .u8 x2)) 0)):Nat):Int)))) h2))))
def zfm (P:Program) (s:Sl) (d:Int) (p:Int) (nd:Int) (Q:(Int→(Int→(Hp→Prop)))) (h:Hp):Prop:=
 (if (decide (nd≤((s.len:Nat):Int)))=true then
 (((0:Int)≤nd∧nd≤((s.cap:Nat):Int))∧LetW (α:=Sl) ⟨(sbase s.base 1 0 s.cap),((Int.toNat nd)-0),(s.cap-0)⟩ fun y=>
 Call0 P zbj [y.v,(.int .u64 d)] (fun h1=>
 LoopW1 (α1:=Int) (fun again nd1 h2=>
 (((decide (nd1>(0:Int)))=true→(InB s.base s.len (IntKind.wrap .i64 (nd1-(1:Int)))))∧LdW (some (decide (nd1>(0:Int)))) (shInt .u8) h2 (sat s.base 1 (IntKind.wrap .i64 (nd1-(1:Int)))) fun x=>
 LetW ((decide (nd1>(0:Int)))&&(x==(48:Int))) fun y1=>
 (if y1=true then
 again (IntKind.wrap .i64 (nd1-(1:Int))) h2
 else
 Q (IntKind.wrap .i64 (nd+p)) nd1 h2))) nd h1) h)
 else
 Q (0:Int) nd h)
def zfn (P:Program) (x:Int) (Q:(Int→(Hp→Prop))) (h:Hp):Prop:=
 ((0:Int)≤(18:Int)∧Q (shrI .i64 (IntKind.wrap .i64 (x*(78913:Int))) (18:Int)) h)
def zas (P:Program) (a:Option Addr) (k:Int) (Q:(Hp→Prop)) (h:Hp):Prop:=
 NilW none a fun p=>
 LdW none (shInt .i64) h (Addr.add p 800) fun x=>
 (if (x==(0:Int))=true then
 Q h
 else
 (if (decide (k>(0:Int)))=true then
 LoopW1 (α1:=Int) (fun again k1 h1=>
 (if (decide (k1>(60:Int)))=true then
 Call0 P zcx [(.pointer a),(.int .u64 (60:Int))] (fun h2=>
 again (IntKind.wrap .i64 (k1-(60:Int))) h2) h1
 else
 Call0 P zcx [(.pointer a),(.int .u64 (IntKind.wrap .u64 k1))] (fun h2=>
 Q h2) h1)) k h
 else
 (if (decide (k<(0:Int)))=true then
 LoopW1 (α1:=Int) (fun again k1 h1=>
 (if (decide (k1<(-60:Int)))=true then
 Call0 P zcp [(.pointer a),(.int .u64 (60:Int))] (fun h2=>
 again (IntKind.wrap .i64 (k1+(60:Int))) h2) h1
 else
 Call0 P zcp [(.pointer a),(.int .u64 (IntKind.wrap .u64 (IntKind.wrap .i64 ((0:Int)-k1))))] (fun h2=>
 Q h2) h1)) k h
 else
 Q h)))
def zcf (P:Program) (m:Int) (e:Int) (Q:(Int→(Int→(Hp→Prop)))) (h:Hp):Prop:=
 JoinW2 (α1:=Int) (α2:=Int) (fun k=>
 k (52:Int) (-1085:Int) h)
 (fun mantBits minExp h1=>
 JoinW4 (α1:=Int) (α2:=Int) (α3:=Int) (α4:=Int) (fun k=>
 LetW ((m==(9223372036854775808:Int))&&(decide (e>minExp))) fun y=>
 (if y=true then
 CallT P zmc [(.int .i64 (IntKind.wrap .i64 (e+(IntKind.wrap .i64 ((63:Int)-mantBits)))))] (shInt .i64) (fun r h2=>
 ((0:Int)≤(IntKind.wrap .i64 ((IntKind.wrap .i64 ((63:Int)-mantBits))-(2:Int)))∧((0:Int)≤(IntKind.wrap .i64 ((IntKind.wrap .i64 ((63:Int)-mantBits))-(1:Int)))∧((0:Int)≤(IntKind.wrap .i64 ((63:Int)-mantBits))∧k (IntKind.wrap .i64 ((0:Int)-r)) (IntKind.wrap .u64 (m-(shlI .u64 (1:Int) (IntKind.wrap .i64 ((IntKind.wrap .i64 ((63:Int)-mantBits))-(2:Int)))))) (IntKind.wrap .u64 (m+(shlI .u64 (1:Int) (IntKind.wrap .i64 ((IntKind.wrap .i64 ((63:Int)-mantBits))-(1:Int)))))) (bitsI .and .i64 (IntKind.wrap .i64 (shrI .u64 m (IntKind.wrap .i64 ((63:Int)-mantBits)))) (1:Int)) h2)))) h1
 else
 (if (decide (e≥minExp))=true then
 CallT P zbc [(.int .i64 (IntKind.wrap .i64 (e+(IntKind.wrap .i64 ((63:Int)-mantBits)))))] (shInt .i64) (fun r h2=>
 ((0:Int)≤(IntKind.wrap .i64 ((IntKind.wrap .i64 ((63:Int)-mantBits))-(1:Int)))∧((0:Int)≤(IntKind.wrap .i64 ((IntKind.wrap .i64 ((63:Int)-mantBits))-(1:Int)))∧((0:Int)≤(IntKind.wrap .i64 ((63:Int)-mantBits))∧k (IntKind.wrap .i64 ((0:Int)-r)) (IntKind.wrap .u64 (m-(shlI .u64 (1:Int) (IntKind.wrap .i64 ((IntKind.wrap .i64 ((63:Int)-mantBits))-(1:Int)))))) (IntKind.wrap .u64 (m+(shlI .u64 (1:Int) (IntKind.wrap .i64 ((IntKind.wrap .i64 ((63:Int)-mantBits))-(1:Int)))))) (bitsI .and .i64 (IntKind.wrap .i64 (shrI .u64 m (IntKind.wrap .i64 ((63:Int)-mantBits)))) (1:Int)) h2)))) h1
 else
 CallT P zbc [(.int .i64 (IntKind.wrap .i64 (e+(IntKind.wrap .i64 ((IntKind.wrap .i64 ((63:Int)-mantBits))+(IntKind.wrap .i64 (minExp-e)))))))] (shInt .i64) (fun r h2=>
 ((0:Int)≤(IntKind.wrap .i64 ((IntKind.wrap .i64 ((IntKind.wrap .i64 ((63:Int)-mantBits))+(IntKind.wrap .i64 (minExp-e))))-(1:Int)))∧((0:Int)≤(IntKind.wrap .i64 ((IntKind.wrap .i64 ((IntKind.wrap .i64 ((63:Int)-mantBits))+(IntKind.wrap .i64 (minExp-e))))-(1:Int)))∧((0:Int)≤(IntKind.wrap .i64 ((IntKind.wrap .i64 ((63:Int)-mantBits))+(IntKind.wrap .i64 (minExp-e))))∧k (IntKind.wrap .i64 ((0:Int)-r)) (IntKind.wrap .u64 (m-(shlI .u64 (1:Int) (IntKind.wrap .i64 ((IntKind.wrap .i64 ((IntKind.wrap .i64 ((63:Int)-mantBits))+(IntKind.wrap .i64 (minExp-e))))-(1:Int)))))) (IntKind.wrap .u64 (m+(shlI .u64 (1:Int) (IntKind.wrap .i64 ((IntKind.wrap .i64 ((IntKind.wrap .i64 ((63:Int)-mantBits))+(IntKind.wrap .i64 (minExp-e))))-(1:Int)))))) (bitsI .and .i64 (IntKind.wrap .i64 (shrI .u64 m (IntKind.wrap .i64 ((IntKind.wrap .i64 ((63:Int)-mantBits))+(IntKind.wrap .i64 (minExp-e)))))) (1:Int)) h2)))) h1)))
 (fun p min max odd h2=>
 NewW [(.int .u64 (0:Int)),(.int .u64 (0:Int)),(.int .i64 (0:Int))] (fun a h3=>
 CallT P zfg [(.int .i64 p)] (shInt .i64) (fun r h4=>
 Call0 P zdg [(.pointer (some a)),(.int .i64 e),(.int .i64 p),(.int .i64 r)] (fun h5=>
 CallT P zbu [(.int .u64 min),(.pointer (some a))] (shInt .u64) (fun r1 h6=>
 CallT P zcz [(.int .u64 r1),(.int .i64 odd)] (shInt .u64) (fun r2 h7=>
 CallT P zgt [(.int .u64 r2)] (shInt .u64) (fun r3 h8=>
 CallT P zbu [(.int .u64 max),(.pointer (some a))] (shInt .u64) (fun r4 h9=>
 CallT P zcz [(.int .u64 r4),(.int .i64 (IntKind.wrap .i64 ((0:Int)-odd)))] (shInt .u64) (fun r5 h10=>
 CallT P zgi [(.int .u64 r5)] (shInt .u64) (fun r6 h11=>
 ((10:Int)≠(0:Int)∧(if (decide ((IntKind.wrap .u64 ((IntKind.wrap .u64 (Int.tdiv r6 (10:Int)))*(10:Int)))≥r3))=true then
 Q (IntKind.wrap .u64 (Int.tdiv r6 (10:Int))) (IntKind.wrap .i64 ((0:Int)-(IntKind.wrap .i64 (p-(1:Int))))) h11
 else
 (if (decide (r3<r6))=true then
 CallT P zbu [(.int .u64 m),(.pointer (some a))] (shInt .u64) (fun r7 h12=>
 CallT P zda [(.int .u64 r7)] (shInt .u64) (fun r8 h13=>
 Q r8 (IntKind.wrap .i64 ((0:Int)-p)) h13) h12) h11
 else
 Q r3 (IntKind.wrap .i64 ((0:Int)-p)) h11)))) h10) h9) h8) h7) h6) h5) h4) h3) h2))
def ziv (P:Program) (x:Int) (Q:(Sl→(Hp→Prop))) (h:Hp):Prop:=
 ((0:Int)≤(32:Int)∧NewW [(.int .u32 (IntKind.wrap .u32 x)),(.int .u32 (IntKind.wrap .u32 (shrI .u64 x (32:Int))))] (fun a h1=>
 CallT P zgu [(.slice (some a) 2 2)] shSl (fun r h2=>
 Q r h2) h1) h)
def zge (P:Program) (a:Sl) (n:Int) (Q:(Sl→(Hp→Prop))) (h:Hp):Prop:=
 (if (((a.len:Nat):Int)==(0:Int))=true then
 Q a h
 else
 NewW [] (fun a1 h1=>
 LoopW2 (α1:=Sl) (α2:=Int) (fun again out i h2=>
 ((32:Int)≠(0:Int)∧(if (decide (i<(IntKind.wrap .i64 (Int.tdiv n (32:Int)))))=true then
 NewW [(.int .u32 (0:Int))] (fun a2 h3=>
 zbh 1 4 [(.int .u32 (0:Int))] ⟨out.base,out.len,out.cap⟩ ⟨(some a2),1,1⟩ (fun r h4=>
 again r (IntKind.wrap .i64 (i+(1:Int))) h4) h3) h2
 else
 zbh 1 4 [(.int .u32 (0:Int))] ⟨out.base,out.len,out.cap⟩ a (fun r h3=>
 ((32:Int)≠(0:Int)∧((0:Int)≤(Int.tmod n (32:Int))∧CallT P zch [r.v,(.int .u32 (shlI .u32 (1:Int) (Int.tmod n (32:Int))))] shSl (fun r1 h4=>
 Q r1 h4) h3))) h2))) ⟨(some a1),0,0⟩ (0:Int) h1) h)
def zku (P:Program) (a:Sl) (n:Int) (Q:(Sl→(Hp→Prop))) (h:Hp):Prop:=
 LoopW2 (α1:=Sl) (α2:=Int) (fun again a1 n1 h1=>
 (if (decide (n1≥(9:Int)))=true then
 CallT P zch [a1.v,(.int .u32 (1000000000:Int))] shSl (fun r h2=>
 again r (IntKind.wrap .i64 (n1-(9:Int))) h2) h1
 else
 LoopW2 (α1:=Sl) (α2:=Int) (fun again1 a2 n2 h2=>
 (if (decide (n2>(0:Int)))=true then
 CallT P zch [a2.v,(.int .u32 (10:Int))] shSl (fun r h3=>
 again1 r (IntKind.wrap .i64 (n2-(1:Int))) h3) h2
 else
 Q ⟨a2.base,a2.len,a2.cap⟩ h2)) ⟨a1.base,a1.len,a1.cap⟩ n1 h1)) a n h
def zhy (P:Program) (a:Sl) (b:Sl) (Q:(Int→(Hp→Prop))) (h:Hp):Prop:=
 (if (((a.len:Nat):Int) !=((b.len:Nat):Int))=true then
 (if (decide (((a.len:Nat):Int)<((b.len:Nat):Int)))=true then
 Q (-1:Int) h
 else
 Q (1:Int) h)
 else
 LoopW1 (α1:=Int) (fun again i h1=>
 (if (decide (i≥(0:Int)))=true then
 ((InB a.base a.len i)∧LdW none (shInt .u32) h1 (sat a.base 1 i) fun x=>
 ((InB b.base b.len i)∧LdW none (shInt .u32) h1 (sat b.base 1 i) fun x1=>
 (if (decide (x<x1))=true then
 Q (-1:Int) h1
 else
 ((InB a.base a.len i)∧LdW none (shInt .u32) h1 (sat a.base 1 i) fun x2=>
 ((InB b.base b.len i)∧LdW none (shInt .u32) h1 (sat b.base 1 i) fun x3=>
 (if (decide (x2>x3))=true then
 Q (1:Int) h1
 else
 again (IntKind.wrap .i64 (i-(1:Int))) h1))))))
 else
 Q (0:Int) h1)) (IntKind.wrap .i64 (((a.len:Nat):Int)-(1:Int))) h)
def zkv (P:Program) (a:Sl) (b:Sl) (Q:(Sl→(Hp→Prop))) (h:Hp):Prop:=
 NewW [] (fun a1 h1=>
 LoopW3 (α1:=Sl) (α2:=Int) (α3:=Int) (fun again out c i h2=>
 (if (decide (i<((a.len:Nat):Int)))=true then
 ((InB a.base a.len i)∧LdW none (shInt .u32) h2 (sat a.base 1 i) fun x=>
 JoinW1 (α1:=Int) (fun k=>
 (if (decide (i<((b.len:Nat):Int)))=true then
 ((InB b.base b.len i)∧LdW none (shInt .u32) h2 (sat b.base 1 i) fun x1=>
 k (IntKind.wrap .i64 ((IntKind.wrap .i64 (c+(IntKind.wrap .i64 x)))-(IntKind.wrap .i64 x1))) h2)
 else
 k (IntKind.wrap .i64 (c+(IntKind.wrap .i64 x))) h2))
 (fun c1 h3=>
 NewW [(.int .u32 (IntKind.wrap .u32 c1))] (fun a2 h4=>
 zbh 1 4 [(.int .u32 (0:Int))] ⟨out.base,out.len,out.cap⟩ ⟨(some a2),1,1⟩ (fun r h5=>
 ((0:Int)≤(32:Int)∧again r (shrI .i64 c1 (32:Int)) (IntKind.wrap .i64 (i+(1:Int))) h5)) h4) h3))
 else
 CallT P zgu [out.v] shSl (fun r h3=>
 Q r h3) h2)) ⟨(some a1),0,0⟩ (0:Int) (0:Int) h1) h
def zgf (P:Program) (a:Sl) (m:Int) (Q:(Sl→(Hp→Prop))) (h:Hp):Prop:=
 NewW [] (fun a1 h1=>
 LoopW3 (α1:=Sl) (α2:=Int) (α3:=Int) (fun again out c i h2=>
 (if (decide (i<((a.len:Nat):Int)))=true then
 ((InB a.base a.len i)∧LdW none (shInt .u32) h2 (sat a.base 1 i) fun x=>
 NewW [(.int .u32 (IntKind.wrap .u32 (IntKind.wrap .u64 (c+(IntKind.wrap .u64 ((IntKind.wrap .u64 x)*(IntKind.wrap .u64 m)))))))] (fun a2 h3=>
 zbh 1 4 [(.int .u32 (0:Int))] ⟨out.base,out.len,out.cap⟩ ⟨(some a2),1,1⟩ (fun r h4=>
 ((0:Int)≤(32:Int)∧again r (shrI .u64 (IntKind.wrap .u64 (c+(IntKind.wrap .u64 ((IntKind.wrap .u64 x)*(IntKind.wrap .u64 m))))) (32:Int)) (IntKind.wrap .i64 (i+(1:Int))) h4)) h3) h2)
 else
 NewW [(.int .u32 (IntKind.wrap .u32 c))] (fun a2 h3=>
 zbh 1 4 [(.int .u32 (0:Int))] ⟨out.base,out.len,out.cap⟩ ⟨(some a2),1,1⟩ (fun r h4=>
 CallT P zgu [r.v] shSl (fun r1 h5=>
 Q r1 h5) h4) h3) h2)) ⟨(some a1),0,0⟩ (0:Int) (0:Int) h1) h
def zam (P:Program) (s:ByteArray) (Q:(Nat→(Int→(Leaf→(Hp→Prop))))) (h:Hp):Prop:=
 Call3 P zgm [(.string s)] (shFlt .f64) (shInt .i64) zae (fun r r1 r2 h1=>
 (if r2=true then
 EncW zah .nilIface fun e=>
 Q r r1 e h1
 else
 Call7 P zfi [(.string s)] (shInt .u64) (shInt .i64) zae zae zae (shInt .i64) zae (fun r3 r4 r5 r6 r7 r8 r9 h2=>
 (if (!r9)=true then
 EncW zah (.iface 122 (.int .i64 (2:Int))) fun e=>
 Q 0 r8 e h2
 else
 (if r7=true then
 (((0:Int)≤r8∧r8≤(((ByteArray.size s):Nat):Int))∧Call2 P zgn [(.string (ByteArray.extract s 0 (Int.toNat r8))),(.pointer (some ⟨7,0,none⟩)),(.int .u64 r3),(.int .i64 r4),(.bool r5),(.bool r6)] (shFlt .f64) zah (fun r10 r11 h3=>
 EncW zah r11.v fun e=>
 Q r10 r8 e h3) h2)
 else
 JoinW2 (α1:=Int) (α2:=Leaf) (fun k=>
 LdW none zae h2 ⟨2,0,none⟩ fun x=>
 (if x=true then
 CallT P zcb [(.bool r5)] (shInt .u64) (fun r10 h3=>
 ((0:Int)≤(63:Int)∧(if (r3==(0:Int))=true then
 SemE P (Extern.MathFloatBits.float64frombits #[(.int .u64 (bitsI .or .u64 (shlI .u64 r10 (63:Int)) (0:Int)))]) (shFlt .f64) (fun r11 h4=>
 EncW zah .nilIface fun e=>
 Q r11 r8 e h4) h3
 else
 (if (decide (r4>(310:Int)))=true then
 SemE P (Extern.MathFloatBits.float64frombits #[(.int .u64 (bitsI .or .u64 (shlI .u64 r10 (63:Int)) (9218868437227405312:Int)))]) (shFlt .f64) (fun r11 h4=>
 EncW zah (.iface 122 (.int .i64 (1:Int))) fun e=>
 Q r11 r8 e h4) h3
 else
 (if (decide (r4<(-345:Int)))=true then
 SemE P (Extern.MathFloatBits.float64frombits #[(.int .u64 (bitsI .or .u64 (shlI .u64 r10 (63:Int)) (0:Int)))]) (shFlt .f64) (fun r11 h4=>
 EncW zah .nilIface fun e=>
 Q r11 r8 e h4) h3
 else
 JoinW2 (α1:=Int) (α2:=Leaf) (fun k1=>
 (if (!r6)=true then
 Call2 P zeg [(.int .u64 r3),(.int .i64 r4),(.bool r5)] (shFlt .f64) zae (fun r11 r12 h4=>
 (if r12=true then
 EncW zah .nilIface fun e=>
 Q r11 r8 e h4
 else
 EncW zah .nilIface fun e=>
 k1 r8 e h4)) h3
 else
 EncW zah .nilIface fun e=>
 k1 r8 e h3))
 (fun n err h4=>
 Call2 P zcc [(.int .u64 r3),(.int .i64 r4),(.int .u64 (shlI .u64 r10 (63:Int)))] (shFlt .f64) zah (fun r11 r12 h5=>
 (if (!r6)=true then
 EncW zah r12.v fun e=>
 Q r11 n e h5
 else
 Call2 P zcc [(.int .u64 (IntKind.wrap .u64 (r3+(1:Int)))),(.int .i64 r4),(.int .u64 (shlI .u64 r10 (63:Int)))] (shFlt .f64) zah (fun r13 r14 h6=>
 SemV none P (binS .eql 48 (.tmp 119) (.tmp 120) (.float .f64 r11) (.float .f64 r13)) zae h6 fun x1=>
 (if x1=true then
 EncW zah r12.v fun e=>
 Q r11 n e h6
 else
 EncW zah err.v fun e=>
 k n e h6)) h5)) h4)))))) h2
 else
 EncW zah .nilIface fun e=>
 k r8 e h2))
 (fun n err h3=>
 NewW (List.replicate 800 (.int .u8 (0:Int))++ [(.int .i64 (0:Int)),(.int .i64 (0:Int)),(.bool false),(.bool false)]) (fun a h4=>
 (((0:Int)≤n∧n≤(((ByteArray.size s):Nat):Int))∧CallT P zef [(.pointer (some a)),(.string (ByteArray.extract s 0 (Int.toNat n)))] zae (fun r10 h5=>
 (if (!r10)=true then
 EncW zah (.iface 122 (.int .i64 (2:Int))) fun e=>
 Q 0 n e h5
 else
 Call2 P zbm [(.pointer (some a)),(.pointer (some ⟨7,0,none⟩))] (shInt .u64) zae (fun r11 r12 h6=>
 SemE P (Extern.MathFloatBits.float64frombits #[(.int .u64 r11)]) (shFlt .f64) (fun r13 h7=>
 (if r12=true then
 EncW zah (.iface 122 (.int .i64 (1:Int))) fun e=>
 Q r13 n e h7
 else
 EncW zah err.v fun e=>
 Q r13 n e h7)) h6) h5)) h4)) h3)))) h1)) h
def zhc (P:Program) (n:Int) (has:Bool) (Q:(Int→(Hp→Prop))) (h:Hp):Prop:=
 LetW ((!has)&&(n !=(0:Int))) fun y=>
 (if y=true then
 Q (11:Int) h
 else
 LetW ((decide (n<(0:Int))) || (decide (n≥(8:Int)))) fun y1=>
 LetW (has&&y1) fun y2=>
 (if y2=true then
 Q (10:Int) h
 else
 Q (0:Int) h))
def zoa (P:Program) (s:ByteArray) (base:Int) (bitSize:Int) (Q:(Int→(Leaf→(Hp→Prop)))) (h:Hp):Prop:=
 Call2 P zkm [(.string s),(.int .i64 base),(.int .i64 bitSize)] (shInt .i64) zah (fun r r1 h1=>
 ((isIfV r1.v)=true∧(if (!(zcg r1.v))=true then
 CallT P zcu [(.string ⟨#[80,97,114,115,101,73,110,116]⟩),(.string s),(.int .i64 base),(.int .i64 bitSize),r1.v] zah (fun r2 h2=>
 EncW zah r2.v fun e=>
 Q r e h2) h1
 else
 EncW zah .nilIface fun e=>
 Q r e h1))) h
def zfo (P:Program) (b:Bool) (Q:(Int→(Hp→Prop))) (h:Hp):Prop:=
 (if b=true then
 Q (1:Int) h
 else
 Q (0:Int) h)
def zhz (P:Program) (x:Int) (Q:(Bool→(Hp→Prop))) (h:Hp):Prop:=
 Q ((bitsI .and .i64 x (IntKind.wrap .i64 (x-(1:Int))))==(0:Int)) h
def zhd (P:Program) (x:Int) (Q:(Int→(Hp→Prop))) (h:Hp):Prop:=
 CallT P zko [(.int .u64 x)] (shInt .i64) (fun r h1=>
 Q r h1) h
def zhe (P:Program) (e:Int) (Q:(Int→(Hp→Prop))) (h:Hp):Prop:=
 ((0:Int)≤(21:Int)∧Q (shrI .i64 (IntKind.wrap .i64 ((IntKind.wrap .i64 (e*(631305:Int)))-(261663:Int))) (21:Int)) h)
def zca (P:Program) (pre:Option Addr) (e:Int) (p:Int) (lp:Int) (Q:(Hp→Prop)) (h:Hp):Prop:=
 (((0:Int)≤(IntKind.wrap .i64 (p-(-348:Int)))∧(IntKind.wrap .i64 (p-(-348:Int)))<(696:Int))∧LdW none (shInt .u64) h (Addr.add (Addr.add ⟨8,0,none⟩ ((Int.toNat (IntKind.wrap .i64 (p-(-348:Int))))*2)) 0) fun x=>
 NilW none pre fun p1=>
 StW h (Addr.add p1 0) [(.int .u64 x)] (fun h1=>
 (((0:Int)≤(IntKind.wrap .i64 (p-(-348:Int)))∧(IntKind.wrap .i64 (p-(-348:Int)))<(696:Int))∧LdW none (shInt .u64) h1 (Addr.add (Addr.add ⟨8,0,none⟩ ((Int.toNat (IntKind.wrap .i64 (p-(-348:Int))))*2)) 1) fun x1=>
 NilW none pre fun p2=>
 StW h1 (Addr.add p2 1) [(.int .u64 x1)] (fun h2=>
 NilW none pre fun p3=>
 StW h2 (Addr.add p3 2) [(.int .i64 (IntKind.wrap .i64 ((0:Int)-(IntKind.wrap .i64 ((IntKind.wrap .i64 (e+lp))+(3:Int))))))] (fun h3=>
 Q h3)))))
def zfp (P:Program) (x:Int) (Q:(Int→(Hp→Prop))) (h:Hp):Prop:=
 ((0:Int)≤(15:Int)∧Q (shrI .i64 (IntKind.wrap .i64 (x*(108853:Int))) (15:Int)) h)
def zck (P:Program) (x:Int) (c:Option Addr) (Q:(Int→(Hp→Prop))) (h:Hp):Prop:=
 NilW none c fun p=>
 LdW none (shInt .u64) h (Addr.add p 0) fun x1=>
 Call2 P zle [(.int .u64 x),(.int .u64 x1)] (shInt .u64) (shInt .u64) (fun r r1 h1=>
 NilW none c fun p1=>
 LdW none (shInt .i64) h1 (Addr.add p1 2) fun x2=>
 ((0:Int)≤(bitsI .and .i64 x2 (63:Int))∧((0:Int)≤(bitsI .and .i64 x2 (63:Int))∧(if ((shlI .u64 (shrI .u64 r (bitsI .and .i64 x2 (63:Int))) (bitsI .and .i64 x2 (63:Int))) !=r)=true then
 ((0:Int)≤(bitsI .and .i64 x2 (63:Int))∧Q (bitsI .or .u64 (shrI .u64 r (bitsI .and .i64 x2 (63:Int))) (1:Int)) h1)
 else
 NilW none c fun p2=>
 LdW none (shInt .u64) h1 (Addr.add p2 1) fun x3=>
 Call2 P zle [(.int .u64 x),(.int .u64 x3)] (shInt .u64) (shInt .u64) (fun r2 r3 h2=>
 CallT P zcb [(.bool (decide (r1<r2)))] (shInt .u64) (fun r4 h3=>
 ((0:Int)≤(bitsI .and .i64 x2 (63:Int))∧CallT P zcb [(.bool (decide ((IntKind.wrap .u64 (r1-r2))>(1:Int))))] (shInt .u64) (fun r5 h4=>
 Q (bitsI .or .u64 (shrI .u64 (IntKind.wrap .u64 (r-r4)) (bitsI .and .i64 x2 (63:Int))) r5) h4) h3)) h2) h1)))) h
def zdb (P:Program) (u:Int) (x:Int) (Q:(Int→(Hp→Prop))) (h:Hp):Prop:=
 Q (IntKind.wrap .u64 (u+(IntKind.wrap .u64 x))) h
def zdh (P:Program) (u:Int) (Q:(Int→(Hp→Prop))) (h:Hp):Prop:=
 ((0:Int)≤(2:Int)∧Q (shrI .u64 (IntKind.wrap .u64 (u+(3:Int))) (2:Int)) h)
def zdc (P:Program) (u:Int) (Q:(Int→(Hp→Prop))) (h:Hp):Prop:=
 ((0:Int)≤(2:Int)∧Q (shrI .u64 (IntKind.wrap .u64 (u+(0:Int))) (2:Int)) h)
def zdd (P:Program) (u:Int) (Q:(Int→(Hp→Prop))) (h:Hp):Prop:=
 ((0:Int)≤(2:Int)∧((0:Int)≤(2:Int)∧Q (shrI .u64 (IntKind.wrap .u64 ((IntKind.wrap .u64 (u+(1:Int)))+(bitsI .and .u64 (shrI .u64 u (2:Int)) (1:Int)))) (2:Int)) h))
def zia (P:Program) (x:Int) (Q:(Int→(Hp→Prop))) (h:Hp):Prop:=
 ((0:Int)≤(2:Int)∧Q (IntKind.wrap .u64 ((shlI .u64 x (2:Int))-(2:Int))) h)
def ziw (P:Program) (a:Option Addr) (Q:(Hp→Prop)) (h:Hp):Prop:=
 LoopW0 (fun again h1=>
 NilW none a fun p=>
 LdW none (shInt .i64) h1 (Addr.add p 800) fun x=>
 NilW (some (decide (x>(0:Int)))) a fun p1=>
 LdW (some (decide (x>(0:Int)))) (shInt .i64) h1 (Addr.add p1 800) fun x1=>
 NilW (some (decide (x>(0:Int)))) a fun p2=>
 (((decide (x>(0:Int)))=true→((0:Int)≤(IntKind.wrap .i64 (x1-(1:Int)))∧(IntKind.wrap .i64 (x1-(1:Int)))<(800:Int)))∧LdW (some (decide (x>(0:Int)))) (shInt .u8) h1 (Addr.add (Addr.add p2 0) ((Int.toNat (IntKind.wrap .i64 (x1-(1:Int))))*1)) fun x2=>
 LetW ((decide (x>(0:Int)))&&(x2==(48:Int))) fun y=>
 (if y=true then
 NilW none a fun p3=>
 LdW none (shInt .i64) h1 (Addr.add p3 800) fun x3=>
 NilW none a fun p4=>
 StW h1 (Addr.add p4 800) [(.int .i64 (IntKind.wrap .i64 (x3-(1:Int))))] (fun h2=>
 again h2)
 else
 NilW none a fun p3=>
 LdW none (shInt .i64) h1 (Addr.add p3 800) fun x3=>
 (if (x3==(0:Int))=true then
 NilW none a fun p4=>
 StW h1 (Addr.add p4 801) [(.int .i64 (0:Int))] (fun h2=>
 Q h2)
 else
 Q h1))))  h
def zfq (P:Program) (a:Option Addr) (k:Int) (Q:(Hp→Prop)) (h:Hp):Prop:=
 LdW none shSl h ⟨9,0,none⟩ fun x=>
 ((InB x.base x.len k)∧LdW none (shInt .i64) h (Addr.add (sat x.base 2 k) 0) fun x1=>
 JoinW1 (α1:=Int) (fun k1=>
 NilW none a fun p=>
 NilW none a fun p1=>
 LdW none (shInt .i64) h (Addr.add p1 800) fun x2=>
 (((0:Int)≤(0:Int)∧((0:Int)≤x2∧x2≤(800:Int)))∧LetW (α:=Sl) ⟨(sbase (some (Addr.add p 0)) 1 0 800),((Int.toNat x2)-0),800⟩ fun y=>
 LdW none shSl h ⟨9,0,none⟩ fun x3=>
 ((InB x3.base x3.len k)∧LdW none shStr h (Addr.add (sat x3.base 2 k) 1) fun x4=>
 CallT P zfy [y.v,(.string x4)] zae (fun r h1=>
 (if r=true then
 k1 (IntKind.wrap .i64 (x1-(1:Int))) h1
 else
 k1 x1 h1)) h)))
 (fun delta h1=>
 NilW none a fun p=>
 LdW none (shInt .i64) h1 (Addr.add p 800) fun x2=>
 NilW none a fun p1=>
 LdW none (shInt .i64) h1 (Addr.add p1 800) fun x3=>
 LoopW3 (α1:=Int) (α2:=Int) (α3:=Int) (fun again r w n h2=>
 (if (decide (r≥(0:Int)))=true then
 NilW none a fun p2=>
 (((0:Int)≤r∧r<(800:Int))∧LdW none (shInt .u8) h2 (Addr.add (Addr.add p2 0) ((Int.toNat r)*1)) fun x4=>
 ((0:Int)≤k∧((10:Int)≠(0:Int)∧JoinW0 (fun k1=>
 (if (decide ((IntKind.wrap .i64 (w-(1:Int)))<(800:Int)))=true then
 NilW none a fun p3=>
 (((0:Int)≤(IntKind.wrap .i64 (w-(1:Int)))∧(IntKind.wrap .i64 (w-(1:Int)))<(800:Int))∧StW h2 (Addr.add (Addr.add p3 0) ((Int.toNat (IntKind.wrap .i64 (w-(1:Int))))*1)) [(.int .u8 (IntKind.wrap .u8 (IntKind.wrap .u64 ((IntKind.wrap .u64 ((IntKind.wrap .u64 (n+(shlI .u64 (IntKind.wrap .u64 ((IntKind.wrap .u64 x4)-(48:Int))) k)))-(IntKind.wrap .u64 ((10:Int)*(IntKind.wrap .u64 (Int.tdiv (IntKind.wrap .u64 (n+(shlI .u64 (IntKind.wrap .u64 ((IntKind.wrap .u64 x4)-(48:Int))) k))) (10:Int)))))))+(48:Int)))))] (fun h3=>
 k1 h3))
 else
 (if ((IntKind.wrap .u64 ((IntKind.wrap .u64 (n+(shlI .u64 (IntKind.wrap .u64 ((IntKind.wrap .u64 x4)-(48:Int))) k)))-(IntKind.wrap .u64 ((10:Int)*(IntKind.wrap .u64 (Int.tdiv (IntKind.wrap .u64 (n+(shlI .u64 (IntKind.wrap .u64 ((IntKind.wrap .u64 x4)-(48:Int))) k))) (10:Int))))))) !=(0:Int))=true then
 NilW none a fun p3=>
 StW h2 (Addr.add p3 803) [(.bool true)] (fun h3=>
 k1 h3)
 else
 k1 h2)))
 (fun h3=>
 again (IntKind.wrap .i64 (r-(1:Int))) (IntKind.wrap .i64 (w-(1:Int))) (IntKind.wrap .u64 (Int.tdiv (IntKind.wrap .u64 (n+(shlI .u64 (IntKind.wrap .u64 ((IntKind.wrap .u64 x4)-(48:Int))) k))) (10:Int))) h3))))
 else
 LoopW2 (α1:=Int) (α2:=Int) (fun again1 w1 n1 h3=>
 (if (decide (n1>(0:Int)))=true then
 ((10:Int)≠(0:Int)∧JoinW0 (fun k1=>
 (if (decide ((IntKind.wrap .i64 (w1-(1:Int)))<(800:Int)))=true then
 NilW none a fun p2=>
 (((0:Int)≤(IntKind.wrap .i64 (w1-(1:Int)))∧(IntKind.wrap .i64 (w1-(1:Int)))<(800:Int))∧StW h3 (Addr.add (Addr.add p2 0) ((Int.toNat (IntKind.wrap .i64 (w1-(1:Int))))*1)) [(.int .u8 (IntKind.wrap .u8 (IntKind.wrap .u64 ((IntKind.wrap .u64 (n1-(IntKind.wrap .u64 ((10:Int)*(IntKind.wrap .u64 (Int.tdiv n1 (10:Int)))))))+(48:Int)))))] (fun h4=>
 k1 h4))
 else
 (if ((IntKind.wrap .u64 (n1-(IntKind.wrap .u64 ((10:Int)*(IntKind.wrap .u64 (Int.tdiv n1 (10:Int))))))) !=(0:Int))=true then
 NilW none a fun p2=>
 StW h3 (Addr.add p2 803) [(.bool true)] (fun h4=>
 k1 h4)
 else
 k1 h3)))
 (fun h4=>
 again1 (IntKind.wrap .i64 (w1-(1:Int))) (IntKind.wrap .u64 (Int.tdiv n1 (10:Int))) h4))
 else
 NilW none a fun p2=>
 LdW none (shInt .i64) h3 (Addr.add p2 800) fun x4=>
 NilW none a fun p3=>
 StW h3 (Addr.add p3 800) [(.int .i64 (IntKind.wrap .i64 (x4+delta)))] (fun h4=>
 JoinW0 (fun k1=>
 NilW none a fun p4=>
 LdW none (shInt .i64) h4 (Addr.add p4 800) fun x5=>
 (if (decide (x5≥(800:Int)))=true then
 NilW none a fun p5=>
 StW h4 (Addr.add p5 800) [(.int .i64 (800:Int))] (fun h5=>
 k1 h5)
 else
 k1 h4))
 (fun h5=>
 NilW none a fun p4=>
 LdW none (shInt .i64) h5 (Addr.add p4 801) fun x5=>
 NilW none a fun p5=>
 StW h5 (Addr.add p5 801) [(.int .i64 (IntKind.wrap .i64 (x5+delta)))] (fun h6=>
 Call0 P zfh [(.pointer a)] (fun h7=>
 Q h7) h6))))) w n h2)) (IntKind.wrap .i64 (x2-(1:Int))) (IntKind.wrap .i64 (x3+delta)) (0:Int) h1))
def zev (P:Program) (a:Option Addr) (k:Int) (Q:(Hp→Prop)) (h:Hp):Prop:=
 JoinW2 (α1:=Int) (α2:=Int) (fun k1=>
 LoopW2 (α1:=Int) (α2:=Int) (fun again r n h1=>
 ((0:Int)≤k∧(if ((shrI .u64 n k)==(0:Int))=true then
 NilW none a fun p=>
 LdW none (shInt .i64) h1 (Addr.add p 800) fun x=>
 (if (decide (r≥x))=true then
 (if (n==(0:Int))=true then
 NilW none a fun p1=>
 StW h1 (Addr.add p1 800) [(.int .i64 (0:Int))] (fun h2=>
 Q h2)
 else
 LoopW2 (α1:=Int) (α2:=Int) (fun again1 r1 n1 h2=>
 ((0:Int)≤k∧(if ((shrI .u64 n1 k)==(0:Int))=true then
 again1 (IntKind.wrap .i64 (r1+(1:Int))) (IntKind.wrap .u64 (n1*(10:Int))) h2
 else
 k1 r1 n1 h2))) r n h1)
 else
 NilW none a fun p1=>
 (((0:Int)≤r∧r<(800:Int))∧LdW none (shInt .u8) h1 (Addr.add (Addr.add p1 0) ((Int.toNat r)*1)) fun x1=>
 again (IntKind.wrap .i64 (r+(1:Int))) (IntKind.wrap .u64 ((IntKind.wrap .u64 ((IntKind.wrap .u64 (n*(10:Int)))+(IntKind.wrap .u64 x1)))-(48:Int))) h1))
 else
 k1 r n h1))) (0:Int) (0:Int) h)
 (fun r n h1=>
 NilW none a fun p=>
 LdW none (shInt .i64) h1 (Addr.add p 801) fun x=>
 NilW none a fun p1=>
 StW h1 (Addr.add p1 801) [(.int .i64 (IntKind.wrap .i64 (x-(IntKind.wrap .i64 (r-(1:Int))))))] (fun h2=>
 ((0:Int)≤k∧LoopW3 (α1:=Int) (α2:=Int) (α3:=Int) (fun again r1 w n1 h3=>
 NilW none a fun p2=>
 LdW none (shInt .i64) h3 (Addr.add p2 800) fun x1=>
 (if (decide (r1<x1))=true then
 NilW none a fun p3=>
 (((0:Int)≤r1∧r1<(800:Int))∧LdW none (shInt .u8) h3 (Addr.add (Addr.add p3 0) ((Int.toNat r1)*1)) fun x2=>
 ((0:Int)≤k∧NilW none a fun p4=>
 (((0:Int)≤w∧w<(800:Int))∧StW h3 (Addr.add (Addr.add p4 0) ((Int.toNat w)*1)) [(.int .u8 (IntKind.wrap .u8 (IntKind.wrap .u64 ((shrI .u64 n1 k)+(48:Int)))))] (fun h4=>
 again (IntKind.wrap .i64 (r1+(1:Int))) (IntKind.wrap .i64 (w+(1:Int))) (IntKind.wrap .u64 ((IntKind.wrap .u64 ((IntKind.wrap .u64 ((bitsI .and .u64 n1 (IntKind.wrap .u64 ((shlI .u64 (1:Int) k)-(1:Int))))*(10:Int)))+(IntKind.wrap .u64 x2)))-(48:Int))) h4))))
 else
 LoopW2 (α1:=Int) (α2:=Int) (fun again1 w1 n2 h4=>
 (if (decide (n2>(0:Int)))=true then
 ((0:Int)≤k∧JoinW1 (α1:=Int) (fun k1=>
 (if (decide (w1<(800:Int)))=true then
 NilW none a fun p3=>
 (((0:Int)≤w1∧w1<(800:Int))∧StW h4 (Addr.add (Addr.add p3 0) ((Int.toNat w1)*1)) [(.int .u8 (IntKind.wrap .u8 (IntKind.wrap .u64 ((shrI .u64 n2 k)+(48:Int)))))] (fun h5=>
 k1 (IntKind.wrap .i64 (w1+(1:Int))) h5))
 else
 (if (decide ((shrI .u64 n2 k)>(0:Int)))=true then
 NilW none a fun p3=>
 StW h4 (Addr.add p3 803) [(.bool true)] (fun h5=>
 k1 w1 h5)
 else
 k1 w1 h4)))
 (fun w2 h5=>
 again1 w2 (IntKind.wrap .u64 ((bitsI .and .u64 n2 (IntKind.wrap .u64 ((shlI .u64 (1:Int) k)-(1:Int))))*(10:Int))) h5))
 else
 NilW none a fun p3=>
 StW h4 (Addr.add p3 800) [(.int .i64 w1)] (fun h5=>
 Call0 P zfh [(.pointer a)] (fun h6=>
 Q h6) h5))) w n1 h3)) r (0:Int) n h2)))
def zdn (P:Program) (a:Option Addr) (nd:Int) (Q:(Bool→(Hp→Prop))) (h:Hp):Prop:=
 NilW (some (!(decide (nd<(0:Int))))) a fun p=>
 LdW (some (!(decide (nd<(0:Int))))) (shInt .i64) h (Addr.add p 800) fun x=>
 LetW ((decide (nd<(0:Int))) || (decide (nd≥x))) fun y=>
 (if y=true then
 Q false h
 else
 NilW none a fun p1=>
 (((0:Int)≤nd∧nd<(800:Int))∧LdW none (shInt .u8) h (Addr.add (Addr.add p1 0) ((Int.toNat nd)*1)) fun x1=>
 NilW (some (x1==(53:Int))) a fun p2=>
 LdW (some (x1==(53:Int))) (shInt .i64) h (Addr.add p2 800) fun x2=>
 LetW ((x1==(53:Int))&&((IntKind.wrap .i64 (nd+(1:Int)))==x2)) fun y1=>
 (if y1=true then
 NilW none a fun p3=>
 LdW none zae h (Addr.add p3 803) fun x3=>
 (if x3=true then
 Q true h
 else
 NilW (some (decide (nd>(0:Int)))) a fun p4=>
 (((decide (nd>(0:Int)))=true→((0:Int)≤(IntKind.wrap .i64 (nd-(1:Int)))∧(IntKind.wrap .i64 (nd-(1:Int)))<(800:Int)))∧LdW (some (decide (nd>(0:Int)))) (shInt .u8) h (Addr.add (Addr.add p4 0) ((Int.toNat (IntKind.wrap .i64 (nd-(1:Int))))*1)) fun x4=>
 (((decide (nd>(0:Int)))=true→(2:Int)≠(0:Int))∧LetW ((decide (nd>(0:Int)))&&((Int.tmod (IntKind.wrap .u8 (x4-(48:Int))) (2:Int)) !=(0:Int))) fun y2=>
 Q y2 h)))
 else
 NilW none a fun p3=>
 (((0:Int)≤nd∧nd<(800:Int))∧LdW none (shInt .u8) h (Addr.add (Addr.add p3 0) ((Int.toNat nd)*1)) fun x3=>
 Q (decide (x3≥(53:Int))) h))))
def zkw (P:Program) (a:Sl) (Q:(Sl→(Hp→Prop))) (h:Hp):Prop:=
 LoopW1 (α1:=Sl) (fun again a1 h1=>
 (((decide (((a1.len:Nat):Int)>(0:Int)))=true→(InB a1.base a1.len (IntKind.wrap .i64 (((a1.len:Nat):Int)-(1:Int)))))∧LdW (some (decide (((a1.len:Nat):Int)>(0:Int)))) (shInt .u32) h1 (sat a1.base 1 (IntKind.wrap .i64 (((a1.len:Nat):Int)-(1:Int)))) fun x=>
 LetW ((decide (((a1.len:Nat):Int)>(0:Int)))&&(x==(0:Int))) fun y=>
 (if y=true then
 (((0:Int)≤(IntKind.wrap .i64 (((a1.len:Nat):Int)-(1:Int)))∧(IntKind.wrap .i64 (((a1.len:Nat):Int)-(1:Int)))≤((a1.cap:Nat):Int))∧LetW (α:=Sl) ⟨(sbase a1.base 1 0 a1.cap),((Int.toNat (IntKind.wrap .i64 (((a1.len:Nat):Int)-(1:Int))))-0),(a1.cap-0)⟩ fun y1=>
 again y1 h1)
 else
 Q a1 h1))) a h
def zba (P:Program) (s:ByteArray) (Q:(Nat→(Int→(Bool→(Hp→Prop))))) (h:Hp):Prop:=
 (if ((((ByteArray.size s):Nat):Int)==(0:Int))=true then
 Q 0 (0:Int) false h
 else
 (((0:Int)≤(0:Int)∧(0:Int)<(((ByteArray.size s):Nat):Int))∧JoinW3 (α1:=ByteArray) (α2:=Int) (α3:=Int) (fun k=>
 JoinW1 (α1:=Bool) (fun k1=>
 (if ((((UInt8.toNat (List.getD s.data.toList 0 0)):Nat):Int)==(43:Int))=true then
 k1 ((((UInt8.toNat (List.getD s.data.toList 0 0)):Nat):Int)==(43:Int)) h
 else
 k1 ((((UInt8.toNat (List.getD s.data.toList 0 0)):Nat):Int)==(45:Int)) h))
 (fun t13 h1=>
 (if t13=true then
 JoinW1 (α1:=Int) (fun k1=>
 (((0:Int)≤(0:Int)∧(0:Int)<(((ByteArray.size s):Nat):Int))∧(if ((((UInt8.toNat (List.getD s.data.toList 0 0)):Nat):Int)==(45:Int))=true then
 k1 (-1:Int) h1
 else
 k1 (1:Int) h1)))
 (fun sign h2=>
 (((0:Int)≤(1:Int)∧(1:Int)≤(((ByteArray.size s):Nat):Int))∧k (ByteArray.extract s 1 (ByteArray.size s)) sign (1:Int) h2))
 else
 JoinW1 (α1:=Bool) (fun k1=>
 (if ((((UInt8.toNat (List.getD s.data.toList 0 0)):Nat):Int)==(105:Int))=true then
 k1 ((((UInt8.toNat (List.getD s.data.toList 0 0)):Nat):Int)==(105:Int)) h1
 else
 k1 ((((UInt8.toNat (List.getD s.data.toList 0 0)):Nat):Int)==(73:Int)) h1))
 (fun t16 h2=>
 (if t16=true then
 k s (1:Int) (0:Int) h2
 else
 JoinW1 (α1:=Bool) (fun k1=>
 (if ((((UInt8.toNat (List.getD s.data.toList 0 0)):Nat):Int)==(110:Int))=true then
 k1 ((((UInt8.toNat (List.getD s.data.toList 0 0)):Nat):Int)==(110:Int)) h2
 else
 k1 ((((UInt8.toNat (List.getD s.data.toList 0 0)):Nat):Int)==(78:Int)) h2))
 (fun t19 h3=>
 (if t19=true then
 CallT P zbn [(.string s),(.string ⟨#[110,97,110]⟩)] (shInt .i64) (fun r h4=>
 (if (r==(3:Int))=true then
 CallT P zpb [] (shFlt .f64) (fun r1 h5=>
 Q r1 (3:Int) true h5) h4
 else
 Q 0 (0:Int) false h4)) h3
 else
 Q 0 (0:Int) false h3)))))))
 (fun s1 sign nsign h1=>
 CallT P zbn [(.string s1),(.string ⟨#[105,110,102,105,110,105,116,121]⟩)] (shInt .i64) (fun r h2=>
 JoinW1 (α1:=Int) (fun k=>
 LetW ((decide ((3:Int)<r))&&(decide (r<(8:Int)))) fun y=>
 (if y=true then
 k (3:Int) h2
 else
 k r h2))
 (fun n h3=>
 LetW ((n==(3:Int)) || (n==(8:Int))) fun y=>
 (if y=true then
 CallT P zpa [(.int .i64 sign)] (shFlt .f64) (fun r1 h4=>
 Q r1 (IntKind.wrap .i64 (nsign+n)) true h4) h3
 else
 Q 0 (0:Int) false h3))) h1)))
def zax (P:Program) (s:ByteArray) (Q:(Int→(Int→(Bool→(Bool→(Bool→(Int→(Bool→(Hp→Prop))))))))) (h:Hp):Prop:=
 (if (decide ((0:Int)≥(((ByteArray.size s):Nat):Int)))=true then
 Q (0:Int) (0:Int) false false false (0:Int) false h
 else
 (((0:Int)≤(0:Int)∧(0:Int)<(((ByteArray.size s):Nat):Int))∧JoinW2 (α1:=Bool) (α2:=Int) (fun k=>
 (if ((((UInt8.toNat (List.getD s.data.toList 0 0)):Nat):Int)==(43:Int))=true then
 k false (1:Int) h
 else
 (if ((((UInt8.toNat (List.getD s.data.toList 0 0)):Nat):Int)==(45:Int))=true then
 k true (1:Int) h
 else
 k false (0:Int) h)))
 (fun neg i h1=>
 JoinW5 (α1:=Bool) (α2:=Int) (α3:=Int) (α4:=Int) (α5:=Int) (fun k=>
 (((decide ((IntKind.wrap .i64 (i+(2:Int)))<(((ByteArray.size s):Nat):Int)))=true→((0:Int)≤i∧i<(((ByteArray.size s):Nat):Int)))∧LetW ((decide ((IntKind.wrap .i64 (i+(2:Int)))<(((ByteArray.size s):Nat):Int)))&&((((UInt8.toNat (List.getD s.data.toList (Int.toNat i) 0)):Nat):Int)==(48:Int))) fun y=>
 ((y=true→((0:Int)≤(IntKind.wrap .i64 (i+(1:Int)))∧(IntKind.wrap .i64 (i+(1:Int)))<(((ByteArray.size s):Nat):Int)))∧EffC (some y) (CallT P zaf [(.int .u8 (((UInt8.toNat (List.getD s.data.toList (Int.toNat (IntKind.wrap .i64 (i+(1:Int)))) 0)):Nat):Int))] (shInt .u8)) (fun r h2=>
 LetW (y&&(r==(120:Int))) fun y1=>
 (if y1=true then
 k true (IntKind.wrap .i64 (i+(2:Int))) (16:Int) (16:Int) (112:Int) h2
 else
 k false i (10:Int) (19:Int) (101:Int) h2)) h1)))
 (fun hex i1 base maxMantDigits expChar h2=>
 JoinW9 (α1:=Int) (α2:=Bool) (α3:=Int) (α4:=Bool) (α5:=Bool) (α6:=Bool) (α7:=Int) (α8:=Int) (α9:=Int) (fun k=>
 LoopW9 (α1:=Int) (α2:=Bool) (α3:=Int) (α4:=Bool) (α5:=Bool) (α6:=Bool) (α7:=Int) (α8:=Int) (α9:=Int) (fun again mantissa trunc i2 underscores sawdot sawdigits nd ndMant dp h3=>
 (if (decide (i2<(((ByteArray.size s):Nat):Int)))=true then
 JoinW8 (α1:=Int) (α2:=Bool) (α3:=Bool) (α4:=Bool) (α5:=Bool) (α6:=Int) (α7:=Int) (α8:=Int) (fun k1=>
 (((0:Int)≤i2∧i2<(((ByteArray.size s):Nat):Int))∧(if (true==((((UInt8.toNat (List.getD s.data.toList (Int.toNat i2) 0)):Nat):Int)==(95:Int)))=true then
 k1 mantissa trunc true sawdot sawdigits nd ndMant dp h3
 else
 (if (true==((((UInt8.toNat (List.getD s.data.toList (Int.toNat i2) 0)):Nat):Int)==(46:Int)))=true then
 (if sawdot=true then
 k mantissa trunc i2 underscores sawdot sawdigits nd ndMant dp h3
 else
 k1 mantissa trunc underscores true sawdigits nd ndMant nd h3)
 else
 LetW ((decide ((48:Int)≤(((UInt8.toNat (List.getD s.data.toList (Int.toNat i2) 0)):Nat):Int)))&&(decide ((((UInt8.toNat (List.getD s.data.toList (Int.toNat i2) 0)):Nat):Int)≤(57:Int)))) fun y=>
 (if (true==y)=true then
 LetW (((((UInt8.toNat (List.getD s.data.toList (Int.toNat i2) 0)):Nat):Int)==(48:Int))&&(nd==(0:Int))) fun y1=>
 (if y1=true then
 k1 mantissa trunc underscores sawdot true nd ndMant (IntKind.wrap .i64 (dp-(1:Int))) h3
 else
 (if (decide (ndMant<maxMantDigits))=true then
 k1 (IntKind.wrap .u64 ((IntKind.wrap .u64 (mantissa*base))+(IntKind.wrap .u64 (IntKind.wrap .u8 ((((UInt8.toNat (List.getD s.data.toList (Int.toNat i2) 0)):Nat):Int)-(48:Int)))))) trunc underscores sawdot true (IntKind.wrap .i64 (nd+(1:Int))) (IntKind.wrap .i64 (ndMant+(1:Int))) dp h3
 else
 (if ((((UInt8.toNat (List.getD s.data.toList (Int.toNat i2) 0)):Nat):Int) !=(48:Int))=true then
 k1 mantissa true underscores sawdot true (IntKind.wrap .i64 (nd+(1:Int))) ndMant dp h3
 else
 k1 mantissa trunc underscores sawdot true (IntKind.wrap .i64 (nd+(1:Int))) ndMant dp h3)))
 else
 EffC (some (base==(16:Int))) (CallT P zaf [(.int .u8 (((UInt8.toNat (List.getD s.data.toList (Int.toNat i2) 0)):Nat):Int))] (shInt .u8)) (fun r h4=>
 LetW ((base==(16:Int))&&(decide ((97:Int)≤r))) fun y1=>
 EffC (some y1) (CallT P zaf [(.int .u8 (((UInt8.toNat (List.getD s.data.toList (Int.toNat i2) 0)):Nat):Int))] (shInt .u8)) (fun r1 h5=>
 LetW (y1&&(decide (r1≤(102:Int)))) fun y2=>
 (if (true==y2)=true then
 (if (decide (ndMant<maxMantDigits))=true then
 CallT P zaf [(.int .u8 (((UInt8.toNat (List.getD s.data.toList (Int.toNat i2) 0)):Nat):Int))] (shInt .u8) (fun r2 h6=>
 k1 (IntKind.wrap .u64 ((IntKind.wrap .u64 (mantissa*(16:Int)))+(IntKind.wrap .u64 (IntKind.wrap .u8 ((IntKind.wrap .u8 (r2-(97:Int)))+(10:Int)))))) trunc underscores sawdot true (IntKind.wrap .i64 (nd+(1:Int))) (IntKind.wrap .i64 (ndMant+(1:Int))) dp h6) h5
 else
 k1 mantissa true underscores sawdot true (IntKind.wrap .i64 (nd+(1:Int))) ndMant dp h5)
 else
 k mantissa trunc i2 underscores sawdot sawdigits nd ndMant dp h5)) h4) h3)))))
 (fun mantissa1 trunc1 underscores1 sawdot1 sawdigits1 nd1 ndMant1 dp1 h4=>
 again mantissa1 trunc1 (IntKind.wrap .i64 (i2+(1:Int))) underscores1 sawdot1 sawdigits1 nd1 ndMant1 dp1 h4)
 else
 k mantissa trunc i2 underscores sawdot sawdigits nd ndMant dp h3)) (0:Int) false i1 false false false (0:Int) (0:Int) (0:Int) h2)
 (fun mantissa trunc i2 underscores sawdot sawdigits nd ndMant dp h3=>
 (if (!sawdigits)=true then
 Q mantissa (0:Int) neg trunc hex i2 false h3
 else
 JoinW1 (α1:=Int) (fun k=>
 (if (!sawdot)=true then
 k nd h3
 else
 k dp h3))
 (fun dp1 h4=>
 JoinW2 (α1:=Int) (α2:=Int) (fun k=>
 (if (base==(16:Int))=true then
 k (IntKind.wrap .i64 (ndMant*(4:Int))) (IntKind.wrap .i64 (dp1*(4:Int))) h4
 else
 k ndMant dp1 h4))
 (fun ndMant1 dp2 h5=>
 JoinW3 (α1:=Int) (α2:=Bool) (α3:=Int) (fun k=>
 (((decide (i2<(((ByteArray.size s):Nat):Int)))=true→((0:Int)≤i2∧i2<(((ByteArray.size s):Nat):Int)))∧EffC (some (decide (i2<(((ByteArray.size s):Nat):Int)))) (CallT P zaf [(.int .u8 (((UInt8.toNat (List.getD s.data.toList (Int.toNat i2) 0)):Nat):Int))] (shInt .u8)) (fun r h6=>
 LetW ((decide (i2<(((ByteArray.size s):Nat):Int)))&&(r==expChar)) fun y=>
 (if y=true then
 (if (decide ((IntKind.wrap .i64 (i2+(1:Int)))≥(((ByteArray.size s):Nat):Int)))=true then
 Q mantissa (0:Int) neg trunc hex (IntKind.wrap .i64 (i2+(1:Int))) false h6
 else
 (((0:Int)≤(IntKind.wrap .i64 (i2+(1:Int)))∧(IntKind.wrap .i64 (i2+(1:Int)))<(((ByteArray.size s):Nat):Int))∧JoinW2 (α1:=Int) (α2:=Int) (fun k1=>
 (if ((((UInt8.toNat (List.getD s.data.toList (Int.toNat (IntKind.wrap .i64 (i2+(1:Int)))) 0)):Nat):Int)==(43:Int))=true then
 k1 (IntKind.wrap .i64 ((IntKind.wrap .i64 (i2+(1:Int)))+(1:Int))) (1:Int) h6
 else
 (if ((((UInt8.toNat (List.getD s.data.toList (Int.toNat (IntKind.wrap .i64 (i2+(1:Int)))) 0)):Nat):Int)==(45:Int))=true then
 k1 (IntKind.wrap .i64 ((IntKind.wrap .i64 (i2+(1:Int)))+(1:Int))) (-1:Int) h6
 else
 k1 (IntKind.wrap .i64 (i2+(1:Int))) (1:Int) h6)))
 (fun i3 esign h7=>
 (((!(decide (i3≥(((ByteArray.size s):Nat):Int))))=true→((0:Int)≤i3∧i3<(((ByteArray.size s):Nat):Int)))∧LetW ((decide (i3≥(((ByteArray.size s):Nat):Int))) || (decide ((((UInt8.toNat (List.getD s.data.toList (Int.toNat i3) 0)):Nat):Int)<(48:Int)))) fun y1=>
 (((!y1)=true→((0:Int)≤i3∧i3<(((ByteArray.size s):Nat):Int)))∧LetW (y1 || (decide ((((UInt8.toNat (List.getD s.data.toList (Int.toNat i3) 0)):Nat):Int)>(57:Int)))) fun y2=>
 (if y2=true then
 Q mantissa (0:Int) neg trunc hex i3 false h7
 else
 LoopW3 (α1:=Int) (α2:=Bool) (α3:=Int) (fun again i4 underscores1 e h8=>
 (((decide (i4<(((ByteArray.size s):Nat):Int)))=true→((0:Int)≤i4∧i4<(((ByteArray.size s):Nat):Int)))∧((((decide (i4<(((ByteArray.size s):Nat):Int)))&&(decide ((48:Int)≤(((UInt8.toNat (List.getD s.data.toList (Int.toNat i4) 0)):Nat):Int))))=true→((0:Int)≤i4∧i4<(((ByteArray.size s):Nat):Int)))∧LetW ((decide ((48:Int)≤(((UInt8.toNat (List.getD s.data.toList (Int.toNat i4) 0)):Nat):Int)))&&(decide ((((UInt8.toNat (List.getD s.data.toList (Int.toNat i4) 0)):Nat):Int)≤(57:Int)))) fun y3=>
 ((((decide (i4<(((ByteArray.size s):Nat):Int)))&&(!y3))=true→((0:Int)≤i4∧i4<(((ByteArray.size s):Nat):Int)))∧LetW (y3 || ((((UInt8.toNat (List.getD s.data.toList (Int.toNat i4) 0)):Nat):Int)==(95:Int))) fun y4=>
 LetW ((decide (i4<(((ByteArray.size s):Nat):Int)))&&y4) fun y5=>
 (if y5=true then
 JoinW2 (α1:=Bool) (α2:=Int) (fun k1=>
 (((0:Int)≤i4∧i4<(((ByteArray.size s):Nat):Int))∧(if ((((UInt8.toNat (List.getD s.data.toList (Int.toNat i4) 0)):Nat):Int)==(95:Int))=true then
 k1 true e h8
 else
 (if (decide (e<(10000:Int)))=true then
 (((0:Int)≤i4∧i4<(((ByteArray.size s):Nat):Int))∧k1 underscores1 (IntKind.wrap .i64 ((IntKind.wrap .i64 ((IntKind.wrap .i64 (e*(10:Int)))+(IntKind.wrap .i64 (((UInt8.toNat (List.getD s.data.toList (Int.toNat i4) 0)):Nat):Int))))-(48:Int))) h8)
 else
 k1 underscores1 e h8))))
 (fun underscores2 e1 h9=>
 again (IntKind.wrap .i64 (i4+(1:Int))) underscores2 e1 h9)
 else
 k i4 underscores1 (IntKind.wrap .i64 (dp2+(IntKind.wrap .i64 (e*esign)))) h8))))) i3 underscores (0:Int) h7))))))
 else
 (if (base==(16:Int))=true then
 Q mantissa (0:Int) neg trunc hex i2 false h6
 else
 k i2 underscores dp2 h6))) h5))
 (fun i3 underscores1 dp3 h6=>
 JoinW1 (α1:=Int) (fun k=>
 (if (mantissa !=(0:Int))=true then
 k (IntKind.wrap .i64 (dp3-ndMant1)) h6
 else
 k (0:Int) h6))
 (fun exp h7=>
 ((underscores1=true→((0:Int)≤i3∧i3≤(((ByteArray.size s):Nat):Int)))∧EffC (some underscores1) (CallT P zds [(.string (ByteArray.extract s 0 (Int.toNat i3)))] zae) (fun r h8=>
 LetW (underscores1&&(!r)) fun y=>
 (if y=true then
 Q mantissa exp neg trunc hex i3 false h8
 else
 Q mantissa exp neg trunc hex i3 true h8)) h7)))))))))))
def zgq (P:Program) (s:ByteArray) (flt:Option Addr) (mantissa:Int) (exp:Int) (neg:Bool) (trunc:Bool) (Q:(Nat→(Leaf→(Hp→Prop)))) (h:Hp):Prop:=
 NilW none flt fun p=>
 LdW none (shInt .u64) h (Addr.add p 1) fun x=>
 ((0:Int)≤x∧NilW none flt fun p1=>
 LdW none (shInt .i64) h (Addr.add p1 2) fun x1=>
 NilW none flt fun p2=>
 LdW none (shInt .i64) h (Addr.add p2 2) fun x2=>
 NilW none flt fun p3=>
 LdW none (shInt .u64) h (Addr.add p3 0) fun x3=>
 LoopW2 (α1:=Int) (α2:=Int) (fun again mantissa1 exp1 h1=>
 NilW (some (mantissa1 !=(0:Int))) flt fun p4=>
 LdW (some (mantissa1 !=(0:Int))) (shInt .u64) h1 (Addr.add p4 0) fun x4=>
 (((mantissa1 !=(0:Int))=true→(0:Int)≤(IntKind.wrap .u64 (x4+(2:Int))))∧LetW ((mantissa1 !=(0:Int))&&((shrI .u64 mantissa1 (IntKind.wrap .u64 (x4+(2:Int))))==(0:Int))) fun y=>
 (if y=true then
 ((0:Int)≤(1:Int)∧again (shlI .u64 mantissa1 (1:Int)) (IntKind.wrap .i64 (exp1-(1:Int))) h1)
 else
 JoinW1 (α1:=Int) (fun k=>
 (if trunc=true then
 k (bitsI .or .u64 mantissa1 (1:Int)) h1
 else
 k mantissa1 h1))
 (fun mantissa2 h2=>
 LoopW2 (α1:=Int) (α2:=Int) (fun again1 mantissa3 exp2 h3=>
 NilW none flt fun p5=>
 LdW none (shInt .u64) h3 (Addr.add p5 0) fun x5=>
 ((0:Int)≤(IntKind.wrap .u64 ((IntKind.wrap .u64 ((1:Int)+x5))+(2:Int)))∧(if ((shrI .u64 mantissa3 (IntKind.wrap .u64 ((IntKind.wrap .u64 ((1:Int)+x5))+(2:Int)))) !=(0:Int))=true then
 ((0:Int)≤(1:Int)∧again1 (bitsI .or .u64 (shrI .u64 mantissa3 (1:Int)) (bitsI .and .u64 mantissa3 (1:Int))) (IntKind.wrap .i64 (exp2+(1:Int))) h3)
 else
 LoopW2 (α1:=Int) (α2:=Int) (fun again2 mantissa4 exp3 h4=>
 LetW ((decide (mantissa4>(1:Int)))&&(decide (exp3<(IntKind.wrap .i64 ((IntKind.wrap .i64 (x2+(1:Int)))-(2:Int)))))) fun y1=>
 (if y1=true then
 ((0:Int)≤(1:Int)∧again2 (bitsI .or .u64 (shrI .u64 mantissa4 (1:Int)) (bitsI .and .u64 mantissa4 (1:Int))) (IntKind.wrap .i64 (exp3+(1:Int))) h4)
 else
 ((0:Int)≤(2:Int)∧JoinW2 (α1:=Int) (α2:=Int) (fun k=>
 (if ((bitsI .or .u64 (bitsI .and .u64 mantissa4 (3:Int)) (bitsI .and .u64 (shrI .u64 mantissa4 (2:Int)) (1:Int)))==(3:Int))=true then
 NilW none flt fun p6=>
 LdW none (shInt .u64) h4 (Addr.add p6 0) fun x6=>
 ((0:Int)≤(IntKind.wrap .u64 ((1:Int)+x6))∧(if ((IntKind.wrap .u64 ((shrI .u64 mantissa4 (2:Int))+(1:Int)))==(shlI .u64 (1:Int) (IntKind.wrap .u64 ((1:Int)+x6))))=true then
 ((0:Int)≤(1:Int)∧k (shrI .u64 (IntKind.wrap .u64 ((shrI .u64 mantissa4 (2:Int))+(1:Int))) (1:Int)) (IntKind.wrap .i64 ((IntKind.wrap .i64 (exp3+(2:Int)))+(1:Int))) h4)
 else
 k (IntKind.wrap .u64 ((shrI .u64 mantissa4 (2:Int))+(1:Int))) (IntKind.wrap .i64 (exp3+(2:Int))) h4))
 else
 k (shrI .u64 mantissa4 (2:Int)) (IntKind.wrap .i64 (exp3+(2:Int))) h4))
 (fun mantissa5 exp4 h5=>
 JoinW1 (α1:=Int) (fun k=>
 NilW none flt fun p6=>
 LdW none (shInt .u64) h5 (Addr.add p6 0) fun x6=>
 ((0:Int)≤x6∧(if ((shrI .u64 mantissa5 x6)==(0:Int))=true then
 NilW none flt fun p7=>
 LdW none (shInt .i64) h5 (Addr.add p7 2) fun x7=>
 k x7 h5
 else
 k exp4 h5)))
 (fun exp5 h6=>
 JoinW3 (α1:=Int) (α2:=Int) (α3:=Leaf) (fun k=>
 (if (decide (exp5>(IntKind.wrap .i64 ((IntKind.wrap .i64 ((shlI .i64 (1:Int) x)+x1))-(2:Int)))))=true then
 NilW none flt fun p6=>
 LdW none (shInt .u64) h6 (Addr.add p6 0) fun x6=>
 ((0:Int)≤x6∧EncW zah (.iface 122 (.int .i64 (1:Int))) fun e=>
 k (shlI .u64 (1:Int) x6) (IntKind.wrap .i64 ((IntKind.wrap .i64 ((IntKind.wrap .i64 ((shlI .i64 (1:Int) x)+x1))-(2:Int)))+(1:Int))) e h6)
 else
 EncW zah .nilIface fun e=>
 k mantissa5 exp5 e h6))
 (fun mantissa6 exp6 err h7=>
 NilW none flt fun p6=>
 LdW none (shInt .u64) h7 (Addr.add p6 0) fun x6=>
 ((0:Int)≤x6∧NilW none flt fun p7=>
 LdW none (shInt .i64) h7 (Addr.add p7 2) fun x7=>
 NilW none flt fun p8=>
 LdW none (shInt .u64) h7 (Addr.add p8 1) fun x8=>
 ((0:Int)≤x8∧NilW none flt fun p9=>
 LdW none (shInt .u64) h7 (Addr.add p9 0) fun x9=>
 ((0:Int)≤x9∧JoinW1 (α1:=Int) (fun k=>
 (if neg=true then
 NilW none flt fun p10=>
 LdW none (shInt .u64) h7 (Addr.add p10 0) fun x10=>
 ((0:Int)≤x10∧NilW none flt fun p11=>
 LdW none (shInt .u64) h7 (Addr.add p11 1) fun x11=>
 ((0:Int)≤x11∧k (bitsI .or .u64 (bitsI .or .u64 (bitsI .and .u64 mantissa6 (IntKind.wrap .u64 ((shlI .u64 (1:Int) x6)-(1:Int)))) (shlI .u64 (IntKind.wrap .u64 (bitsI .and .i64 (IntKind.wrap .i64 (exp6-x7)) (IntKind.wrap .i64 ((shlI .i64 (1:Int) x8)-(1:Int))))) x9)) (shlI .u64 (shlI .u64 (1:Int) x10) x11)) h7))
 else
 k (bitsI .or .u64 (bitsI .and .u64 mantissa6 (IntKind.wrap .u64 ((shlI .u64 (1:Int) x6)-(1:Int)))) (shlI .u64 (IntKind.wrap .u64 (bitsI .and .i64 (IntKind.wrap .i64 (exp6-x7)) (IntKind.wrap .i64 ((shlI .i64 (1:Int) x8)-(1:Int))))) x9)) h7))
 (fun bits h8=>
 SemV none P (binS .eql 211 (.tmp 182) (.global 6) (.pointer flt) (.pointer (some ⟨6,0,none⟩))) zae h8 fun x10=>
 (if x10=true then
 SemE P (Extern.MathFloatBits.float32frombits #[(.int .u32 (IntKind.wrap .u32 bits))]) (shFlt .f32) (fun r h9=>
 SemV none P (convert 120 48 (.float .f32 r)) (shFlt .f64) h9 fun x11=>
 EncW zah err.v fun e=>
 Q x11 e h9) h8
 else
 SemE P (Extern.MathFloatBits.float64frombits #[(.int .u64 bits)]) (shFlt .f64) (fun r h9=>
 EncW zah err.v fun e=>
 Q r e h9) h8))))))))))) mantissa3 exp2 h3))) mantissa2 exp1 h2)))) mantissa (IntKind.wrap .i64 (exp+(IntKind.wrap .i64 x3))) h)
def zej (P:Program) (b:Option Addr) (s:ByteArray) (Q:(Bool→(Hp→Prop))) (h:Hp):Prop:=
 NilW none b fun p=>
 StW h (Addr.add p 802) [(.bool false)] (fun h1=>
 NilW none b fun p1=>
 StW h1 (Addr.add p1 803) [(.bool false)] (fun h2=>
 (if (decide ((0:Int)≥(((ByteArray.size s):Nat):Int)))=true then
 Q false h2
 else
 (((0:Int)≤(0:Int)∧(0:Int)<(((ByteArray.size s):Nat):Int))∧JoinW1 (α1:=Int) (fun k=>
 (if ((((UInt8.toNat (List.getD s.data.toList 0 0)):Nat):Int)==(43:Int))=true then
 k (1:Int) h2
 else
 (if ((((UInt8.toNat (List.getD s.data.toList 0 0)):Nat):Int)==(45:Int))=true then
 NilW none b fun p2=>
 StW h2 (Addr.add p2 802) [(.bool true)] (fun h3=>
 k (1:Int) h3)
 else
 k (0:Int) h2)))
 (fun i h3=>
 JoinW3 (α1:=Int) (α2:=Bool) (α3:=Bool) (fun k=>
 LoopW3 (α1:=Int) (α2:=Bool) (α3:=Bool) (fun again i1 sawdot sawdigits h4=>
 (if (decide (i1<(((ByteArray.size s):Nat):Int)))=true then
 JoinW2 (α1:=Bool) (α2:=Bool) (fun k1=>
 (((0:Int)≤i1∧i1<(((ByteArray.size s):Nat):Int))∧(if ((((UInt8.toNat (List.getD s.data.toList (Int.toNat i1) 0)):Nat):Int)==(95:Int))=true then
 k1 sawdot sawdigits h4
 else
 (((0:Int)≤i1∧i1<(((ByteArray.size s):Nat):Int))∧(if ((((UInt8.toNat (List.getD s.data.toList (Int.toNat i1) 0)):Nat):Int)==(46:Int))=true then
 (if sawdot=true then
 Q false h4
 else
 NilW none b fun p2=>
 LdW none (shInt .i64) h4 (Addr.add p2 800) fun x=>
 NilW none b fun p3=>
 StW h4 (Addr.add p3 801) [(.int .i64 x)] (fun h5=>
 k1 true sawdigits h5))
 else
 (((0:Int)≤i1∧i1<(((ByteArray.size s):Nat):Int))∧(((decide ((48:Int)≤(((UInt8.toNat (List.getD s.data.toList (Int.toNat i1) 0)):Nat):Int)))=true→((0:Int)≤i1∧i1<(((ByteArray.size s):Nat):Int)))∧LetW ((decide ((48:Int)≤(((UInt8.toNat (List.getD s.data.toList (Int.toNat i1) 0)):Nat):Int)))&&(decide ((((UInt8.toNat (List.getD s.data.toList (Int.toNat i1) 0)):Nat):Int)≤(57:Int)))) fun y=>
 (if y=true then
 (((0:Int)≤i1∧i1<(((ByteArray.size s):Nat):Int))∧NilW (some ((((UInt8.toNat (List.getD s.data.toList (Int.toNat i1) 0)):Nat):Int)==(48:Int))) b fun p2=>
 LdW (some ((((UInt8.toNat (List.getD s.data.toList (Int.toNat i1) 0)):Nat):Int)==(48:Int))) (shInt .i64) h4 (Addr.add p2 800) fun x=>
 LetW (((((UInt8.toNat (List.getD s.data.toList (Int.toNat i1) 0)):Nat):Int)==(48:Int))&&(x==(0:Int))) fun y1=>
 (if y1=true then
 NilW none b fun p3=>
 LdW none (shInt .i64) h4 (Addr.add p3 801) fun x1=>
 NilW none b fun p4=>
 StW h4 (Addr.add p4 801) [(.int .i64 (IntKind.wrap .i64 (x1-(1:Int))))] (fun h5=>
 k1 sawdot true h5)
 else
 NilW none b fun p3=>
 LdW none (shInt .i64) h4 (Addr.add p3 800) fun x1=>
 (if (decide (x1<(800:Int)))=true then
 NilW none b fun p4=>
 LdW none (shInt .i64) h4 (Addr.add p4 800) fun x2=>
 (((0:Int)≤i1∧i1<(((ByteArray.size s):Nat):Int))∧NilW none b fun p5=>
 (((0:Int)≤x2∧x2<(800:Int))∧StW h4 (Addr.add (Addr.add p5 0) ((Int.toNat x2)*1)) [(.int .u8 (((UInt8.toNat (List.getD s.data.toList (Int.toNat i1) 0)):Nat):Int))] (fun h5=>
 NilW none b fun p6=>
 LdW none (shInt .i64) h5 (Addr.add p6 800) fun x3=>
 NilW none b fun p7=>
 StW h5 (Addr.add p7 800) [(.int .i64 (IntKind.wrap .i64 (x3+(1:Int))))] (fun h6=>
 k1 sawdot true h6))))
 else
 (((0:Int)≤i1∧i1<(((ByteArray.size s):Nat):Int))∧(if ((((UInt8.toNat (List.getD s.data.toList (Int.toNat i1) 0)):Nat):Int) !=(48:Int))=true then
 NilW none b fun p4=>
 StW h4 (Addr.add p4 803) [(.bool true)] (fun h5=>
 k1 sawdot true h5)
 else
 k1 sawdot true h4)))))
 else
 k i1 sawdot sawdigits h4))))))))
 (fun sawdot1 sawdigits1 h5=>
 again (IntKind.wrap .i64 (i1+(1:Int))) sawdot1 sawdigits1 h5)
 else
 k i1 sawdot sawdigits h4)) i false false h3)
 (fun i1 sawdot sawdigits h4=>
 (if (!sawdigits)=true then
 Q false h4
 else
 JoinW0 (fun k=>
 (if (!sawdot)=true then
 NilW none b fun p2=>
 LdW none (shInt .i64) h4 (Addr.add p2 800) fun x=>
 NilW none b fun p3=>
 StW h4 (Addr.add p3 801) [(.int .i64 x)] (fun h5=>
 k h5)
 else
 k h4))
 (fun h5=>
 (((decide (i1<(((ByteArray.size s):Nat):Int)))=true→((0:Int)≤i1∧i1<(((ByteArray.size s):Nat):Int)))∧EffC (some (decide (i1<(((ByteArray.size s):Nat):Int)))) (CallT P zaf [(.int .u8 (((UInt8.toNat (List.getD s.data.toList (Int.toNat i1) 0)):Nat):Int))] (shInt .u8)) (fun r h6=>
 LetW ((decide (i1<(((ByteArray.size s):Nat):Int)))&&(r==(101:Int))) fun y=>
 (if y=true then
 (if (decide ((IntKind.wrap .i64 (i1+(1:Int)))≥(((ByteArray.size s):Nat):Int)))=true then
 Q false h6
 else
 (((0:Int)≤(IntKind.wrap .i64 (i1+(1:Int)))∧(IntKind.wrap .i64 (i1+(1:Int)))<(((ByteArray.size s):Nat):Int))∧JoinW2 (α1:=Int) (α2:=Int) (fun k=>
 (if ((((UInt8.toNat (List.getD s.data.toList (Int.toNat (IntKind.wrap .i64 (i1+(1:Int)))) 0)):Nat):Int)==(43:Int))=true then
 k (IntKind.wrap .i64 ((IntKind.wrap .i64 (i1+(1:Int)))+(1:Int))) (1:Int) h6
 else
 (if ((((UInt8.toNat (List.getD s.data.toList (Int.toNat (IntKind.wrap .i64 (i1+(1:Int)))) 0)):Nat):Int)==(45:Int))=true then
 k (IntKind.wrap .i64 ((IntKind.wrap .i64 (i1+(1:Int)))+(1:Int))) (-1:Int) h6
 else
 k (IntKind.wrap .i64 (i1+(1:Int))) (1:Int) h6)))
 (fun i2 esign h7=>
 (((!(decide (i2≥(((ByteArray.size s):Nat):Int))))=true→((0:Int)≤i2∧i2<(((ByteArray.size s):Nat):Int)))∧LetW ((decide (i2≥(((ByteArray.size s):Nat):Int))) || (decide ((((UInt8.toNat (List.getD s.data.toList (Int.toNat i2) 0)):Nat):Int)<(48:Int)))) fun y1=>
 (((!y1)=true→((0:Int)≤i2∧i2<(((ByteArray.size s):Nat):Int)))∧LetW (y1 || (decide ((((UInt8.toNat (List.getD s.data.toList (Int.toNat i2) 0)):Nat):Int)>(57:Int)))) fun y2=>
 (if y2=true then
 Q false h7
 else
 LoopW2 (α1:=Int) (α2:=Int) (fun again i3 e h8=>
 (((decide (i3<(((ByteArray.size s):Nat):Int)))=true→((0:Int)≤i3∧i3<(((ByteArray.size s):Nat):Int)))∧((((decide (i3<(((ByteArray.size s):Nat):Int)))&&(decide ((48:Int)≤(((UInt8.toNat (List.getD s.data.toList (Int.toNat i3) 0)):Nat):Int))))=true→((0:Int)≤i3∧i3<(((ByteArray.size s):Nat):Int)))∧LetW ((decide ((48:Int)≤(((UInt8.toNat (List.getD s.data.toList (Int.toNat i3) 0)):Nat):Int)))&&(decide ((((UInt8.toNat (List.getD s.data.toList (Int.toNat i3) 0)):Nat):Int)≤(57:Int)))) fun y3=>
 ((((decide (i3<(((ByteArray.size s):Nat):Int)))&&(!y3))=true→((0:Int)≤i3∧i3<(((ByteArray.size s):Nat):Int)))∧LetW (y3 || ((((UInt8.toNat (List.getD s.data.toList (Int.toNat i3) 0)):Nat):Int)==(95:Int))) fun y4=>
 LetW ((decide (i3<(((ByteArray.size s):Nat):Int)))&&y4) fun y5=>
 (if y5=true then
 JoinW1 (α1:=Int) (fun k=>
 (((0:Int)≤i3∧i3<(((ByteArray.size s):Nat):Int))∧(if ((((UInt8.toNat (List.getD s.data.toList (Int.toNat i3) 0)):Nat):Int)==(95:Int))=true then
 k e h8
 else
 (if (decide (e<(10000:Int)))=true then
 (((0:Int)≤i3∧i3<(((ByteArray.size s):Nat):Int))∧k (IntKind.wrap .i64 ((IntKind.wrap .i64 ((IntKind.wrap .i64 (e*(10:Int)))+(IntKind.wrap .i64 (((UInt8.toNat (List.getD s.data.toList (Int.toNat i3) 0)):Nat):Int))))-(48:Int))) h8)
 else
 k e h8))))
 (fun e1 h9=>
 again (IntKind.wrap .i64 (i3+(1:Int))) e1 h9)
 else
 NilW none b fun p2=>
 LdW none (shInt .i64) h8 (Addr.add p2 801) fun x=>
 NilW none b fun p3=>
 StW h8 (Addr.add p3 801) [(.int .i64 (IntKind.wrap .i64 (x+(IntKind.wrap .i64 (e*esign)))))] (fun h9=>
 (if (i3 !=(((ByteArray.size s):Nat):Int))=true then
 Q false h9
 else
 Q true h9))))))) i2 (0:Int) h7))))))
 else
 (if (i1 !=(((ByteArray.size s):Nat):Int))=true then
 Q false h6
 else
 Q true h6))) h5)))))))))
def zcl (P:Program) (d:Option Addr) (flt:Option Addr) (Q:(Int→(Bool→(Hp→Prop)))) (h:Hp):Prop:=
 NilW none d fun p=>
 LdW none (shInt .i64) h (Addr.add p 800) fun x=>
 (if (x==(0:Int))=true then
 NilW none flt fun p1=>
 LdW none (shInt .i64) h (Addr.add p1 2) fun x1=>
 NilW none flt fun p2=>
 LdW none (shInt .u64) h (Addr.add p2 0) fun x2=>
 ((0:Int)≤x2∧NilW none flt fun p3=>
 LdW none (shInt .i64) h (Addr.add p3 2) fun x3=>
 NilW none flt fun p4=>
 LdW none (shInt .u64) h (Addr.add p4 1) fun x4=>
 ((0:Int)≤x4∧NilW none flt fun p5=>
 LdW none (shInt .u64) h (Addr.add p5 0) fun x5=>
 ((0:Int)≤x5∧NilW none d fun p6=>
 LdW none zae h (Addr.add p6 802) fun x6=>
 (if x6=true then
 NilW none flt fun p7=>
 LdW none (shInt .u64) h (Addr.add p7 0) fun x7=>
 ((0:Int)≤x7∧NilW none flt fun p8=>
 LdW none (shInt .u64) h (Addr.add p8 1) fun x8=>
 ((0:Int)≤x8∧Q (bitsI .or .u64 (bitsI .or .u64 (bitsI .and .u64 (0:Int) (IntKind.wrap .u64 ((shlI .u64 (1:Int) x2)-(1:Int)))) (shlI .u64 (IntKind.wrap .u64 (bitsI .and .i64 (IntKind.wrap .i64 (x1-x3)) (IntKind.wrap .i64 ((shlI .i64 (1:Int) x4)-(1:Int))))) x5)) (shlI .u64 (shlI .u64 (1:Int) x7) x8)) false h))
 else
 Q (bitsI .or .u64 (bitsI .and .u64 (0:Int) (IntKind.wrap .u64 ((shlI .u64 (1:Int) x2)-(1:Int)))) (shlI .u64 (IntKind.wrap .u64 (bitsI .and .i64 (IntKind.wrap .i64 (x1-x3)) (IntKind.wrap .i64 ((shlI .i64 (1:Int) x4)-(1:Int))))) x5)) false h))))
 else
 NilW none d fun p1=>
 LdW none (shInt .i64) h (Addr.add p1 801) fun x1=>
 (if (decide (x1>(310:Int)))=true then
 NilW none flt fun p2=>
 LdW none (shInt .u64) h (Addr.add p2 1) fun x2=>
 ((0:Int)≤x2∧NilW none flt fun p3=>
 LdW none (shInt .i64) h (Addr.add p3 2) fun x3=>
 NilW none flt fun p4=>
 LdW none (shInt .u64) h (Addr.add p4 0) fun x4=>
 ((0:Int)≤x4∧NilW none flt fun p5=>
 LdW none (shInt .i64) h (Addr.add p5 2) fun x5=>
 NilW none flt fun p6=>
 LdW none (shInt .u64) h (Addr.add p6 1) fun x6=>
 ((0:Int)≤x6∧NilW none flt fun p7=>
 LdW none (shInt .u64) h (Addr.add p7 0) fun x7=>
 ((0:Int)≤x7∧NilW none d fun p8=>
 LdW none zae h (Addr.add p8 802) fun x8=>
 (if x8=true then
 NilW none flt fun p9=>
 LdW none (shInt .u64) h (Addr.add p9 0) fun x9=>
 ((0:Int)≤x9∧NilW none flt fun p10=>
 LdW none (shInt .u64) h (Addr.add p10 1) fun x10=>
 ((0:Int)≤x10∧Q (bitsI .or .u64 (bitsI .or .u64 (bitsI .and .u64 (0:Int) (IntKind.wrap .u64 ((shlI .u64 (1:Int) x4)-(1:Int)))) (shlI .u64 (IntKind.wrap .u64 (bitsI .and .i64 (IntKind.wrap .i64 ((IntKind.wrap .i64 ((IntKind.wrap .i64 ((shlI .i64 (1:Int) x2)-(1:Int)))+x3))-x5)) (IntKind.wrap .i64 ((shlI .i64 (1:Int) x6)-(1:Int))))) x7)) (shlI .u64 (shlI .u64 (1:Int) x9) x10)) true h))
 else
 Q (bitsI .or .u64 (bitsI .and .u64 (0:Int) (IntKind.wrap .u64 ((shlI .u64 (1:Int) x4)-(1:Int)))) (shlI .u64 (IntKind.wrap .u64 (bitsI .and .i64 (IntKind.wrap .i64 ((IntKind.wrap .i64 ((IntKind.wrap .i64 ((shlI .i64 (1:Int) x2)-(1:Int)))+x3))-x5)) (IntKind.wrap .i64 ((shlI .i64 (1:Int) x6)-(1:Int))))) x7)) true h)))))
 else
 NilW none d fun p2=>
 LdW none (shInt .i64) h (Addr.add p2 801) fun x2=>
 (if (decide (x2<(-330:Int)))=true then
 NilW none flt fun p3=>
 LdW none (shInt .i64) h (Addr.add p3 2) fun x3=>
 NilW none flt fun p4=>
 LdW none (shInt .u64) h (Addr.add p4 0) fun x4=>
 ((0:Int)≤x4∧NilW none flt fun p5=>
 LdW none (shInt .i64) h (Addr.add p5 2) fun x5=>
 NilW none flt fun p6=>
 LdW none (shInt .u64) h (Addr.add p6 1) fun x6=>
 ((0:Int)≤x6∧NilW none flt fun p7=>
 LdW none (shInt .u64) h (Addr.add p7 0) fun x7=>
 ((0:Int)≤x7∧NilW none d fun p8=>
 LdW none zae h (Addr.add p8 802) fun x8=>
 (if x8=true then
 NilW none flt fun p9=>
 LdW none (shInt .u64) h (Addr.add p9 0) fun x9=>
 ((0:Int)≤x9∧NilW none flt fun p10=>
 LdW none (shInt .u64) h (Addr.add p10 1) fun x10=>
 ((0:Int)≤x10∧Q (bitsI .or .u64 (bitsI .or .u64 (bitsI .and .u64 (0:Int) (IntKind.wrap .u64 ((shlI .u64 (1:Int) x4)-(1:Int)))) (shlI .u64 (IntKind.wrap .u64 (bitsI .and .i64 (IntKind.wrap .i64 (x3-x5)) (IntKind.wrap .i64 ((shlI .i64 (1:Int) x6)-(1:Int))))) x7)) (shlI .u64 (shlI .u64 (1:Int) x9) x10)) false h))
 else
 Q (bitsI .or .u64 (bitsI .and .u64 (0:Int) (IntKind.wrap .u64 ((shlI .u64 (1:Int) x4)-(1:Int)))) (shlI .u64 (IntKind.wrap .u64 (bitsI .and .i64 (IntKind.wrap .i64 (x3-x5)) (IntKind.wrap .i64 ((shlI .i64 (1:Int) x6)-(1:Int))))) x7)) false h))))
 else
 LoopW1 (α1:=Int) (fun again exp h1=>
 NilW none d fun p3=>
 LdW none (shInt .i64) h1 (Addr.add p3 801) fun x3=>
 (if (decide (x3>(0:Int)))=true then
 JoinW1 (α1:=Int) (fun k=>
 NilW none d fun p4=>
 LdW none (shInt .i64) h1 (Addr.add p4 801) fun x4=>
 LdW none shSl h1 ⟨11,0,none⟩ fun x5=>
 (if (decide (x4≥((x5.len:Nat):Int)))=true then
 k (27:Int) h1
 else
 LdW none shSl h1 ⟨11,0,none⟩ fun x6=>
 NilW none d fun p5=>
 LdW none (shInt .i64) h1 (Addr.add p5 801) fun x7=>
 ((InB x6.base x6.len x7)∧LdW none (shInt .i64) h1 (sat x6.base 1 x7) fun x8=>
 k x8 h1)))
 (fun n h2=>
 Call0 P zar [(.pointer d),(.int .i64 (IntKind.wrap .i64 ((0:Int)-n)))] (fun h3=>
 again (IntKind.wrap .i64 (exp+n)) h3) h2)
 else
 LoopW1 (α1:=Int) (fun again1 exp1 h2=>
 NilW none d fun p4=>
 LdW none (shInt .i64) h2 (Addr.add p4 801) fun x4=>
 NilW (some (!(decide (x4<(0:Int))))) d fun p5=>
 LdW (some (!(decide (x4<(0:Int))))) (shInt .i64) h2 (Addr.add p5 801) fun x5=>
 NilW (some ((!(decide (x4<(0:Int))))&&(x5==(0:Int)))) d fun p6=>
 ((((!(decide (x4<(0:Int))))&&(x5==(0:Int)))=true→((0:Int)≤(0:Int)∧(0:Int)<(800:Int)))∧LdW (some ((!(decide (x4<(0:Int))))&&(x5==(0:Int)))) (shInt .u8) h2 (Addr.add (Addr.add p6 0) 0) fun x6=>
 LetW ((x5==(0:Int))&&(decide (x6<(53:Int)))) fun y=>
 LetW ((decide (x4<(0:Int))) || y) fun y1=>
 (if y1=true then
 JoinW1 (α1:=Int) (fun k=>
 NilW none d fun p7=>
 LdW none (shInt .i64) h2 (Addr.add p7 801) fun x7=>
 LdW none shSl h2 ⟨11,0,none⟩ fun x8=>
 (if (decide ((IntKind.wrap .i64 ((0:Int)-x7))≥((x8.len:Nat):Int)))=true then
 k (27:Int) h2
 else
 LdW none shSl h2 ⟨11,0,none⟩ fun x9=>
 NilW none d fun p8=>
 LdW none (shInt .i64) h2 (Addr.add p8 801) fun x10=>
 ((InB x9.base x9.len (IntKind.wrap .i64 ((0:Int)-x10)))∧LdW none (shInt .i64) h2 (sat x9.base 1 (IntKind.wrap .i64 ((0:Int)-x10))) fun x11=>
 k x11 h2)))
 (fun n h3=>
 Call0 P zar [(.pointer d),(.int .i64 n)] (fun h4=>
 again1 (IntKind.wrap .i64 (exp1-n)) h4) h3)
 else
 JoinW1 (α1:=Int) (fun k=>
 NilW none flt fun p7=>
 LdW none (shInt .i64) h2 (Addr.add p7 2) fun x7=>
 (if (decide ((IntKind.wrap .i64 (exp1-(1:Int)))<(IntKind.wrap .i64 (x7+(1:Int)))))=true then
 NilW none flt fun p8=>
 LdW none (shInt .i64) h2 (Addr.add p8 2) fun x8=>
 Call0 P zar [(.pointer d),(.int .i64 (IntKind.wrap .i64 ((0:Int)-(IntKind.wrap .i64 ((IntKind.wrap .i64 (x8+(1:Int)))-(IntKind.wrap .i64 (exp1-(1:Int))))))))] (fun h3=>
 k (IntKind.wrap .i64 ((IntKind.wrap .i64 (exp1-(1:Int)))+(IntKind.wrap .i64 ((IntKind.wrap .i64 (x8+(1:Int)))-(IntKind.wrap .i64 (exp1-(1:Int))))))) h3) h2
 else
 k (IntKind.wrap .i64 (exp1-(1:Int))) h2))
 (fun exp2 h3=>
 NilW none flt fun p7=>
 LdW none (shInt .i64) h3 (Addr.add p7 2) fun x7=>
 NilW none flt fun p8=>
 LdW none (shInt .u64) h3 (Addr.add p8 1) fun x8=>
 ((0:Int)≤x8∧(if (decide ((IntKind.wrap .i64 (exp2-x7))≥(IntKind.wrap .i64 ((shlI .i64 (1:Int) x8)-(1:Int)))))=true then
 NilW none flt fun p9=>
 LdW none (shInt .u64) h3 (Addr.add p9 1) fun x9=>
 ((0:Int)≤x9∧NilW none flt fun p10=>
 LdW none (shInt .i64) h3 (Addr.add p10 2) fun x10=>
 NilW none flt fun p11=>
 LdW none (shInt .u64) h3 (Addr.add p11 0) fun x11=>
 ((0:Int)≤x11∧NilW none flt fun p12=>
 LdW none (shInt .i64) h3 (Addr.add p12 2) fun x12=>
 NilW none flt fun p13=>
 LdW none (shInt .u64) h3 (Addr.add p13 1) fun x13=>
 ((0:Int)≤x13∧NilW none flt fun p14=>
 LdW none (shInt .u64) h3 (Addr.add p14 0) fun x14=>
 ((0:Int)≤x14∧NilW none d fun p15=>
 LdW none zae h3 (Addr.add p15 802) fun x15=>
 (if x15=true then
 NilW none flt fun p16=>
 LdW none (shInt .u64) h3 (Addr.add p16 0) fun x16=>
 ((0:Int)≤x16∧NilW none flt fun p17=>
 LdW none (shInt .u64) h3 (Addr.add p17 1) fun x17=>
 ((0:Int)≤x17∧Q (bitsI .or .u64 (bitsI .or .u64 (bitsI .and .u64 (0:Int) (IntKind.wrap .u64 ((shlI .u64 (1:Int) x11)-(1:Int)))) (shlI .u64 (IntKind.wrap .u64 (bitsI .and .i64 (IntKind.wrap .i64 ((IntKind.wrap .i64 ((IntKind.wrap .i64 ((shlI .i64 (1:Int) x9)-(1:Int)))+x10))-x12)) (IntKind.wrap .i64 ((shlI .i64 (1:Int) x13)-(1:Int))))) x14)) (shlI .u64 (shlI .u64 (1:Int) x16) x17)) true h3))
 else
 Q (bitsI .or .u64 (bitsI .and .u64 (0:Int) (IntKind.wrap .u64 ((shlI .u64 (1:Int) x11)-(1:Int)))) (shlI .u64 (IntKind.wrap .u64 (bitsI .and .i64 (IntKind.wrap .i64 ((IntKind.wrap .i64 ((IntKind.wrap .i64 ((shlI .i64 (1:Int) x9)-(1:Int)))+x10))-x12)) (IntKind.wrap .i64 ((shlI .i64 (1:Int) x13)-(1:Int))))) x14)) true h3)))))
 else
 NilW none flt fun p9=>
 LdW none (shInt .u64) h3 (Addr.add p9 0) fun x9=>
 Call0 P zar [(.pointer d),(.int .i64 (IntKind.wrap .i64 (IntKind.wrap .u64 ((1:Int)+x9))))] (fun h4=>
 CallT P zdr [(.pointer d)] (shInt .u64) (fun r h5=>
 JoinW2 (α1:=Int) (α2:=Int) (fun k=>
 NilW none flt fun p10=>
 LdW none (shInt .u64) h5 (Addr.add p10 0) fun x10=>
 ((0:Int)≤x10∧(if (r==(shlI .u64 (2:Int) x10))=true then
 ((0:Int)≤(1:Int)∧NilW none flt fun p11=>
 LdW none (shInt .i64) h5 (Addr.add p11 2) fun x11=>
 NilW none flt fun p12=>
 LdW none (shInt .u64) h5 (Addr.add p12 1) fun x12=>
 ((0:Int)≤x12∧(if (decide ((IntKind.wrap .i64 ((IntKind.wrap .i64 (exp2+(1:Int)))-x11))≥(IntKind.wrap .i64 ((shlI .i64 (1:Int) x12)-(1:Int)))))=true then
 NilW none flt fun p13=>
 LdW none (shInt .u64) h5 (Addr.add p13 1) fun x13=>
 ((0:Int)≤x13∧NilW none flt fun p14=>
 LdW none (shInt .i64) h5 (Addr.add p14 2) fun x14=>
 NilW none flt fun p15=>
 LdW none (shInt .u64) h5 (Addr.add p15 0) fun x15=>
 ((0:Int)≤x15∧NilW none flt fun p16=>
 LdW none (shInt .i64) h5 (Addr.add p16 2) fun x16=>
 NilW none flt fun p17=>
 LdW none (shInt .u64) h5 (Addr.add p17 1) fun x17=>
 ((0:Int)≤x17∧NilW none flt fun p18=>
 LdW none (shInt .u64) h5 (Addr.add p18 0) fun x18=>
 ((0:Int)≤x18∧NilW none d fun p19=>
 LdW none zae h5 (Addr.add p19 802) fun x19=>
 (if x19=true then
 NilW none flt fun p20=>
 LdW none (shInt .u64) h5 (Addr.add p20 0) fun x20=>
 ((0:Int)≤x20∧NilW none flt fun p21=>
 LdW none (shInt .u64) h5 (Addr.add p21 1) fun x21=>
 ((0:Int)≤x21∧Q (bitsI .or .u64 (bitsI .or .u64 (bitsI .and .u64 (0:Int) (IntKind.wrap .u64 ((shlI .u64 (1:Int) x15)-(1:Int)))) (shlI .u64 (IntKind.wrap .u64 (bitsI .and .i64 (IntKind.wrap .i64 ((IntKind.wrap .i64 ((IntKind.wrap .i64 ((shlI .i64 (1:Int) x13)-(1:Int)))+x14))-x16)) (IntKind.wrap .i64 ((shlI .i64 (1:Int) x17)-(1:Int))))) x18)) (shlI .u64 (shlI .u64 (1:Int) x20) x21)) true h5))
 else
 Q (bitsI .or .u64 (bitsI .and .u64 (0:Int) (IntKind.wrap .u64 ((shlI .u64 (1:Int) x15)-(1:Int)))) (shlI .u64 (IntKind.wrap .u64 (bitsI .and .i64 (IntKind.wrap .i64 ((IntKind.wrap .i64 ((IntKind.wrap .i64 ((shlI .i64 (1:Int) x13)-(1:Int)))+x14))-x16)) (IntKind.wrap .i64 ((shlI .i64 (1:Int) x17)-(1:Int))))) x18)) true h5)))))
 else
 k (IntKind.wrap .i64 (exp2+(1:Int))) (shrI .u64 r (1:Int)) h5)))
 else
 k exp2 r h5)))
 (fun exp3 mant h6=>
 JoinW1 (α1:=Int) (fun k=>
 NilW none flt fun p10=>
 LdW none (shInt .u64) h6 (Addr.add p10 0) fun x10=>
 ((0:Int)≤x10∧(if ((bitsI .and .u64 mant (shlI .u64 (1:Int) x10))==(0:Int))=true then
 NilW none flt fun p11=>
 LdW none (shInt .i64) h6 (Addr.add p11 2) fun x11=>
 k x11 h6
 else
 k exp3 h6)))
 (fun exp4 h7=>
 NilW none flt fun p10=>
 LdW none (shInt .u64) h7 (Addr.add p10 0) fun x10=>
 ((0:Int)≤x10∧NilW none flt fun p11=>
 LdW none (shInt .i64) h7 (Addr.add p11 2) fun x11=>
 NilW none flt fun p12=>
 LdW none (shInt .u64) h7 (Addr.add p12 1) fun x12=>
 ((0:Int)≤x12∧NilW none flt fun p13=>
 LdW none (shInt .u64) h7 (Addr.add p13 0) fun x13=>
 ((0:Int)≤x13∧NilW none d fun p14=>
 LdW none zae h7 (Addr.add p14 802) fun x14=>
 (if x14=true then
 NilW none flt fun p15=>
 LdW none (shInt .u64) h7 (Addr.add p15 0) fun x15=>
 ((0:Int)≤x15∧NilW none flt fun p16=>
 LdW none (shInt .u64) h7 (Addr.add p16 1) fun x16=>
 ((0:Int)≤x16∧Q (bitsI .or .u64 (bitsI .or .u64 (bitsI .and .u64 mant (IntKind.wrap .u64 ((shlI .u64 (1:Int) x10)-(1:Int)))) (shlI .u64 (IntKind.wrap .u64 (bitsI .and .i64 (IntKind.wrap .i64 (exp4-x11)) (IntKind.wrap .i64 ((shlI .i64 (1:Int) x12)-(1:Int))))) x13)) (shlI .u64 (shlI .u64 (1:Int) x15) x16)) false h7))
 else
 Q (bitsI .or .u64 (bitsI .and .u64 mant (IntKind.wrap .u64 ((shlI .u64 (1:Int) x10)-(1:Int)))) (shlI .u64 (IntKind.wrap .u64 (bitsI .and .i64 (IntKind.wrap .i64 (exp4-x11)) (IntKind.wrap .i64 ((shlI .i64 (1:Int) x12)-(1:Int))))) x13)) false h7))))))) h4) h3)))))) exp h1)) (0:Int) h)))
def zbk (P:Program) (b:Bool) (Q:(Int→(Hp→Prop))) (h:Hp):Prop:=
 (if b=true then
 Q (1:Int) h
 else
 Q (0:Int) h)
def zek (P:Program) (mantissa:Int) (exp:Int) (neg:Bool) (Q:(Nat→(Bool→(Hp→Prop)))) (h:Hp):Prop:=
 LdW none (shInt .u64) h (Addr.add ⟨7,0,none⟩ 0) fun x=>
 ((0:Int)≤x∧(if ((shrI .u64 mantissa x) !=(0:Int))=true then
 Q 0 false h
 else
 SemV none P (convert 51 48 (.int .u64 mantissa)) (shFlt .f64) h fun x1=>
 JoinW1 (α1:=Nat) (fun k=>
 (if neg=true then
 k (Op.negFloat .f64 x1) h
 else
 k x1 h))
 (fun f h1=>
 (if (exp==(0:Int))=true then
 Q f true h1
 else
 LetW ((decide (exp>(0:Int)))&&(decide (exp≤(37:Int)))) fun y=>
 (if y=true then
 JoinW2 (α1:=Int) (α2:=Nat) (fun k=>
 (if (decide (exp>(22:Int)))=true then
 LdW none shSl h1 ⟨12,0,none⟩ fun x2=>
 ((InB x2.base x2.len (IntKind.wrap .i64 (exp-(22:Int))))∧LdW none (shFlt .f64) h1 (sat x2.base 1 (IntKind.wrap .i64 (exp-(22:Int)))) fun x3=>
 SemE P (binS .mul 48 (.tmp 31) (.tmp 36) (.float .f64 f) (.float .f64 x3)) (shFlt .f64) (fun r h2=>
 k (22:Int) r h2) h1)
 else
 k exp f h1))
 (fun exp1 f1 h2=>
 SemV none P (binS .gtr 48 (.tmp 38) (.const (.float .f64 4831355200913801216)) (.float .f64 f1) (.float .f64 4831355200913801216)) zae h2 fun x2=>
 SemV (some (!x2)) P (binS .lss 48 (.tmp 41) (.const (.float .f64 14054727237768577024)) (.float .f64 f1) (.float .f64 14054727237768577024)) zae h2 fun x3=>
 LetW (x2 || x3) fun y1=>
 (if y1=true then
 Q f1 false h2
 else
 LdW none shSl h2 ⟨12,0,none⟩ fun x4=>
 ((InB x4.base x4.len exp1)∧LdW none (shFlt .f64) h2 (sat x4.base 1 exp1) fun x5=>
 SemE P (binS .mul 48 (.tmp 44) (.tmp 48) (.float .f64 f1) (.float .f64 x5)) (shFlt .f64) (fun r h3=>
 Q r true h3) h2)))
 else
 LetW ((decide (exp<(0:Int)))&&(decide (exp≥(-22:Int)))) fun y1=>
 (if y1=true then
 LdW none shSl h1 ⟨12,0,none⟩ fun x2=>
 ((InB x2.base x2.len (IntKind.wrap .i64 ((0:Int)-exp)))∧LdW none (shFlt .f64) h1 (sat x2.base 1 (IntKind.wrap .i64 ((0:Int)-exp))) fun x3=>
 SemE P (binS .quo 48 (.tmp 57) (.tmp 62) (.float .f64 f) (.float .f64 x3)) (shFlt .f64) (fun r h2=>
 Q r true h2) h1)
 else
 Q f false h1))))))
def zbl (P:Program) (d:Int) (p:Int) (sign:Int) (Q:(Nat→(Leaf→(Hp→Prop)))) (h:Hp):Prop:=
 CallT P zht [(.int .u64 d)] (shInt .i64) (fun r h1=>
 CallT P zfg [(.int .i64 p)] (shInt .i64) (fun r1 h2=>
 NewW [(.int .u64 (0:Int)),(.int .u64 (0:Int)),(.int .i64 (0:Int))] (fun a h3=>
 Call0 P zdg [(.pointer (some a)),(.int .i64 (IntKind.wrap .i64 ((min2I (1074:Int) (IntKind.wrap .i64 ((IntKind.wrap .i64 ((53:Int)-r))-r1)))-(IntKind.wrap .i64 ((64:Int)-r))))),(.int .i64 p),(.int .i64 r1)] (fun h4=>
 LdW none (shInt .i64) h4 (Addr.add a 2) fun x=>
 (if (decide (x≥(64:Int)))=true then
 SemE P (Extern.MathFloatBits.float64frombits #[(.int .u64 (bitsI .or .u64 sign (0:Int)))]) (shFlt .f64) (fun r2 h5=>
 EncW zah .nilIface fun e=>
 Q r2 e h5) h4
 else
 ((0:Int)≤(IntKind.wrap .i64 ((64:Int)-r))∧CallT P zbu [(.int .u64 (shlI .u64 d (IntKind.wrap .i64 ((64:Int)-r)))),(.pointer (some a))] (shInt .u64) (fun r2 h5=>
 CallT P zmw [(.int .u64 (9007199254740992:Int))] (shInt .u64) (fun r3 h6=>
 CallT P zff [(.bool (decide (r2≥r3)))] (shInt .i64) (fun r4 h7=>
 ((0:Int)≤r4∧CallT P zda [(.int .u64 (bitsI .or .u64 (shrI .u64 r2 r4) (bitsI .and .u64 r2 (1:Int))))] (shInt .u64) (fun r5 h8=>
 Call2 P zhb [(.int .u64 (bitsI .or .u64 sign r5)),(.int .i64 (IntKind.wrap .i64 ((0:Int)-(IntKind.wrap .i64 ((min2I (1074:Int) (IntKind.wrap .i64 ((IntKind.wrap .i64 ((53:Int)-r))-r1)))-r4)))))] (shFlt .f64) zah (fun r6 r7 h9=>
 EncW zah r7.v fun e=>
 Q r6 e h9) h8) h7)) h6) h5) h4))) h3) h2) h1) h
def zkx (P:Program) (x:Int) (Q:(Int→(Hp→Prop))) (h:Hp):Prop:=
 (if (x==(0:Int))=true then
 Q (64:Int) h
 else
 ((0:Int)≤(58:Int)∧(((0:Int)≤(shrI .u64 (IntKind.wrap .u64 ((bitsI .and .u64 x (IntKind.wrap .u64 ((0:Int)-x)))*(285870213051353865:Int))) (58:Int))∧(shrI .u64 (IntKind.wrap .u64 ((bitsI .and .u64 x (IntKind.wrap .u64 ((0:Int)-x)))*(285870213051353865:Int))) (58:Int))<(64:Int))∧LdW none (shInt .u8) h (Addr.add ⟨14,0,none⟩ ((Int.toNat (shrI .u64 (IntKind.wrap .u64 ((bitsI .and .u64 x (IntKind.wrap .u64 ((0:Int)-x)))*(285870213051353865:Int))) (58:Int)))*1)) fun x1=>
 Q (IntKind.wrap .i64 x1) h)))
def zct (P:Program) (b:Sl) (s:ByteArray) (Q:(Bool→(Hp→Prop))) (h:Hp):Prop:=
 LoopW1 (α1:=Int) (fun again i h1=>
 (if (decide (i<(((ByteArray.size s):Nat):Int)))=true then
 (if (decide (i≥((b.len:Nat):Int)))=true then
 Q true h1
 else
 ((InB b.base b.len i)∧LdW none (shInt .u8) h1 (sat b.base 1 i) fun x=>
 (((0:Int)≤i∧i<(((ByteArray.size s):Nat):Int))∧(if (x !=(((UInt8.toNat (List.getD s.data.toList (Int.toNat i) 0)):Nat):Int))=true then
 ((InB b.base b.len i)∧LdW none (shInt .u8) h1 (sat b.base 1 i) fun x1=>
 (((0:Int)≤i∧i<(((ByteArray.size s):Nat):Int))∧Q (decide (x1<(((UInt8.toNat (List.getD s.data.toList (Int.toNat i) 0)):Nat):Int))) h1))
 else
 again (IntKind.wrap .i64 (i+(1:Int))) h1))))
 else
 Q false h1)) (0:Int) h
def zak (P:Program) (s:ByteArray) (prefix_:ByteArray) (Q:(Int→(Hp→Prop))) (h:Hp):Prop:=
 LoopW1 (α1:=Int) (fun again i h1=>
 (if (decide (i<(min2I (((ByteArray.size prefix_):Nat):Int) (((ByteArray.size s):Nat):Int))))=true then
 (((0:Int)≤i∧i<(((ByteArray.size s):Nat):Int))∧JoinW1 (α1:=Int) (fun k=>
 LetW ((decide ((65:Int)≤(((UInt8.toNat (List.getD s.data.toList (Int.toNat i) 0)):Nat):Int)))&&(decide ((((UInt8.toNat (List.getD s.data.toList (Int.toNat i) 0)):Nat):Int)≤(90:Int)))) fun y=>
 (if y=true then
 k (IntKind.wrap .u8 ((((UInt8.toNat (List.getD s.data.toList (Int.toNat i) 0)):Nat):Int)+(32:Int))) h1
 else
 k (((UInt8.toNat (List.getD s.data.toList (Int.toNat i) 0)):Nat):Int) h1))
 (fun c h2=>
 (((0:Int)≤i∧i<(((ByteArray.size prefix_):Nat):Int))∧(if (c !=(((UInt8.toNat (List.getD prefix_.data.toList (Int.toNat i) 0)):Nat):Int))=true then
 Q i h2
 else
 again (IntKind.wrap .i64 (i+(1:Int))) h2))))
 else
 Q (min2I (((ByteArray.size prefix_):Nat):Int) (((ByteArray.size s):Nat):Int)) h1)) (0:Int) h
def zjq (P:Program) (sign:Int) (Q:(Nat→(Hp→Prop))) (h:Hp):Prop:=
 JoinW1 (α1:=Int) (fun k=>
 (if (decide (sign≥(0:Int)))=true then
 k (9218868437227405312:Int) h
 else
 k (18442240474082181120:Int) h))
 (fun v h1=>
 SemE P (Extern.MathFloatBits.float64frombits #[(.int .u64 v)]) (shFlt .f64) (fun r h2=>
 Q r h2) h1)
def zpc (P:Program)  (Q:(Nat→(Hp→Prop))) (h:Hp):Prop:=
 SemE P (Extern.MathFloatBits.float64frombits #[(.int .u64 (9221120237041090561:Int))]) (shFlt .f64) (fun r h1=>
 Q r h1) h
def zbw (P:Program) (a:Option Addr) (Q:(Int→(Hp→Prop))) (h:Hp):Prop:=
 NilW none a fun p=>
 LdW none (shInt .i64) h (Addr.add p 801) fun x=>
 (if (decide (x>(20:Int)))=true then
 Q (18446744073709551615:Int) h
 else
 LoopW2 (α1:=Int) (α2:=Int) (fun again i n h1=>
 NilW none a fun p1=>
 LdW none (shInt .i64) h1 (Addr.add p1 801) fun x1=>
 NilW (some (decide (i<x1))) a fun p2=>
 LdW (some (decide (i<x1))) (shInt .i64) h1 (Addr.add p2 800) fun x2=>
 LetW ((decide (i<x1))&&(decide (i<x2))) fun y=>
 (if y=true then
 NilW none a fun p3=>
 (((0:Int)≤i∧i<(800:Int))∧LdW none (shInt .u8) h1 (Addr.add (Addr.add p3 0) ((Int.toNat i)*1)) fun x3=>
 again (IntKind.wrap .i64 (i+(1:Int))) (IntKind.wrap .u64 ((IntKind.wrap .u64 (n*(10:Int)))+(IntKind.wrap .u64 (IntKind.wrap .u8 (x3-(48:Int)))))) h1)
 else
 LoopW2 (α1:=Int) (α2:=Int) (fun again1 i1 n1 h2=>
 NilW none a fun p3=>
 LdW none (shInt .i64) h2 (Addr.add p3 801) fun x3=>
 (if (decide (i1<x3))=true then
 again1 (IntKind.wrap .i64 (i1+(1:Int))) (IntKind.wrap .u64 (n1*(10:Int))) h2
 else
 NilW none a fun p4=>
 LdW none (shInt .i64) h2 (Addr.add p4 801) fun x4=>
 CallT P zhh [(.pointer a),(.int .i64 x4)] zae (fun r h3=>
 (if r=true then
 Q (IntKind.wrap .u64 (n1+(1:Int))) h3
 else
 Q n1 h3)) h2)) i n h1)) (0:Int) (0:Int) h)
def zcm (P:Program) (m:Int) (e:Int) (Q:(Nat→(Leaf→(Hp→Prop)))) (h:Hp):Prop:=
 (if ((bitsI .and .u64 m (4503599627370496:Int))==(0:Int))=true then
 SemE P (Extern.MathFloatBits.float64frombits #[(.int .u64 m)]) (shFlt .f64) (fun r h1=>
 EncW zah .nilIface fun e1=>
 Q r e1 h1) h
 else
 (if (decide (e≥(972:Int)))=true then
 SemE P (Extern.MathFloatBits.float64frombits #[(.int .u64 (bitsI .or .u64 (bitsI .and .u64 m (9223372036854775808:Int)) (9218868437227405312:Int)))]) (shFlt .f64) (fun r h1=>
 EncW zah (.iface 122 (.int .i64 (1:Int))) fun e1=>
 Q r e1 h1) h
 else
 ((0:Int)≤(52:Int)∧SemE P (Extern.MathFloatBits.float64frombits #[(.int .u64 (bitsI .or .u64 (bitsI .andNot .u64 m (4503599627370496:Int)) (shlI .u64 (IntKind.wrap .u64 (IntKind.wrap .i64 ((1075:Int)+e))) (52:Int))))]) (shFlt .f64) (fun r h1=>
 EncW zah .nilIface fun e1=>
 Q r e1 h1) h)))
def zew (P:Program) (b:Option Addr) (s:ByteArray) (Q:(Int→(Leaf→(Hp→Prop)))) (h:Hp):Prop:=
 Call0 P zkk [(.pointer b)] (fun h1=>
 NilW none b fun p=>
 LdW none shSl h1 (Addr.add p 1) fun x=>
 zvx 5 x s (fun r h2=>
 NilW none b fun p1=>
 StW h2 (Addr.add p1 1) [r.v] (fun h3=>
 EncW zah .nilIface fun e=>
 Q (((ByteArray.size s):Nat):Int) e h3)) h1) h
end Lf

set_option maxRecDepth 100000
namespace Lf
open Go
def Ann.s (a:Ann):Ann:=.sq .tt a
def rgR (a n:Nat):List (Nat×List Nat):=(List.range' a n).map fun i=>(i,[])
def ztt :List Nat:=[]
def ztu :Ann:=.tt
def zuy1 :List Nat:=[]
def zuz1 :Ann:=.tt
def zyx :List Nat:=[]
def zyy :Ann:=(.s (.s (.s (.s (.jn [⟨false,5,9⟩] [] .tt .tt)))))
def zva1 :List Nat:=[]
def zvb1 :Ann:=(.s (.s (.s (.jn [⟨false,4,51⟩] [] .tt .tt))))
def zyz :List Nat:=[]
def zza :Ann:=.tt
def zzb :List Nat:=[]
def zzc :Ann:=.tt
def zvc1 :List Nat:=[9]
def zvd1 :Ann:=(.s (.s (.s (.sq (.s (.bk (.lp [⟨false,21,3⟩] [9] .tt))) .tt))))
def zzd :List Nat:=[]
def zze :Ann:=(.s (.s (.s (.s (.sq (.s (.bk (.lp [⟨false,7,9⟩,⟨false,8,3⟩] [] .tt))) .tt)))))
def zve1 :List Nat:=[14]
def zvf1 :Ann:=(.s (.s (.s (.s (.s (.sq (.s (.bk (.lp [⟨false,7,31⟩,⟨false,8,9⟩,⟨false,9,3⟩] [14] (.s (.sq (.bk (.s (.s (.s (.s (.jn [] [] .tt (.sq (.s (.sq (.sq (.rg (rgR 0 13)) .tt) .tt)) .tt))))))) .tt))))) .tt))))))
def zaj1 :List Nat:=[]
def zak1 :Ann:=(.s (.s (.sq (.s (.bk (.lp [⟨false,5,3⟩] [] (.s (.sq (.bk (.sq (.rg (rgR 0 9)) .tt)) .tt))))) .tt)))
def zas2 :List Nat:=[7]
def zat2 :Ann:=(.s (.s (.sq (.s (.bk (.lp [⟨false,22,3⟩] [7] .tt))) .tt)))
def zrf1 :List Nat:=[3]
def zrg1 :Ann:=.tt
def zvg1 :List Nat:=[]
def zvh1 :Ann:=.tt
def zok1 :List Nat:=[]
def zol1 :Ann:=.tt
def zom1 :List Nat:=[]
def zon1 :Ann:=.tt
def zal1 :List Nat:=[]
def zam1 :Ann:=.tt
def zkx1 :List Nat:=[]
def zky1 :Ann:=.tt
def zkz1 :List Nat:=[]
def zla1 :Ann:=.tt
def zcb1 :List Nat:=[]
def zcc1 :Ann:=(.s (.s (.sq (.s (.bk (.lp [⟨false,3,9⟩,⟨false,4,3⟩] [] .tt))) .tt)))
def zan1 :List Nat:=[]
def zao1 :Ann:=(.s (.s (.s (.s (.s (.jn [⟨false,6,9⟩] [] .tt .tt))))))
def zdq1 :List Nat:=[]
def zdr1 :Ann:=.tt
def zds1 :List Nat:=[]
def zdt1 :Ann:=.tt
def zcd1 :List Nat:=[]
def zce1 :Ann:=.tt
def zqz :List Nat:=[]
def zra :Ann:=.tt
def zoo1 :List Nat:=[1]
def zop1 :Ann:=(.s (.s (.s (.jn [⟨false,3,23⟩] [] .tt (.jn [⟨false,3,23⟩] [] .tt (.jn [⟨false,3,23⟩] [] .tt (.jn [⟨false,3,23⟩] [] .tt .tt)))))))
def zcf1 :List Nat:=[]
def zcg1 :Ann:=(.s (.s (.s (.sq (.s (.bk (.lp [⟨false,6,3⟩] [] .tt))) .tt))))
def zap1 :List Nat:=[1]
def zaq1 :Ann:=(.s (.s (.s (.jn [⟨false,3,9⟩] [] .tt (.jn [⟨false,3,9⟩] [] .tt (.jn [⟨false,3,9⟩] [] .tt .tt))))))
def zhh1 :List Nat:=[4,14]
def zhi1 :Ann:=(.s (.s (.s (.s (.s (.s (.s (.s (.s (.s (.jn [⟨true,14,44⟩] [14] .tt (.sq (.sq (.rg (rgR 0 10)) .tt) .tt))))))))))))
def zgf1 :List Nat:=[]
def zgg1 :Ann:=.tt
def zrh1 :List Nat:=[3]
def zri1 :Ann:=.tt
def zch1 :List Nat:=[]
def zci1 :Ann:=.tt
def zhj1 :List Nat:=[]
def zhk1 :Ann:=(.s (.s (.jn [] [] .tt (.s (.jn [] [] .tt (.s (.s (.sq (.s (.bj [] [] (.jn [⟨false,43,4⟩] [] .tt .tt))) (.s (.jn [⟨false,8,3⟩] [] .tt (.s (.s (.s (.sq (.bk (.lp [] [] .tt)) .tt))))))))))))))
def ztv :List Nat:=[]
def ztw :Ann:=(.s (.sq (.s (.s (.sq (.sq (.rg (rgR 0 12)) .tt) .tt))) .tt))
def zqk :List Nat:=[]
def zql :Ann:=.tt
def zxw :List Nat:=[]
def zxx :Ann:=(.s (.s (.sq (.s (.sq (.s (.jn [⟨false,0,9⟩] [] .tt (.s (.sq (.s (.bk (.lp [⟨false,6,3⟩,⟨false,49,3⟩] [] .tt))) .tt)))) .tt)) .tt)))
def zxy :List Nat:=[]
def zxz :Ann:=.tt
def zya :List Nat:=[]
def zyb :Ann:=(.s (.s (.sq (.s (.bk (.lp [⟨false,5,3⟩] [] (.s (.sq (.bk (.s (.s (.s (.s (.s (.s (.jn [⟨false,11,51⟩] [] .tt (.sq (.bk (.lp [⟨false,6,3⟩,⟨false,11,51⟩] [] .tt)) .tt))))))))) .tt))))) .tt)))
def zyc :List Nat:=[]
def zyd :Ann:=(.s (.s (.sq (.bk (.lp [⟨false,0,51⟩,⟨false,3,74⟩] [] .tt)) (.s (.sq (.s (.bk (.lp [⟨false,4,3⟩] [] .tt))) .tt)))))
def zoi :List Nat:=[]
def zoj :Ann:=.tt
def zrv :List Nat:=[]
def zrw :Ann:=(.s (.s (.s (.s (.sq (.bj [⟨false,0,9⟩,⟨false,1,3⟩] [] (.s (.s (.s (.sq (.s (.s (.sq (.bj [⟨false,0,9⟩,⟨false,1,3⟩] [] .tt) .tt))) .tt))))) (.jn [⟨false,2,3⟩] [] .tt (.s (.sq (.s (.bj [⟨false,10,51⟩] [] .tt)) (.s (.s (.s (.sq (.s (.bk (.lp [⟨false,12,4⟩,⟨false,13,51⟩,⟨false,101,3⟩] [] (.s (.s (.sq (.bj [⟨false,12,4⟩,⟨false,13,51⟩] [] (.s (.s (.sq (.bj [⟨false,12,4⟩,⟨false,16,5⟩] [] .tt) .tt)))) .tt)))))) .tt))))))))))))
def zrb :List Nat:=[]
def zrc :Ann:=.tt
def zar1 :List Nat:=[]
def zas1 :Ann:=(.s (.s (.s (.jn [⟨false,9,51⟩] [] .tt .tt))))
def zau2 :List Nat:=[]
def zav2 :Ann:=.tt
def zoq1 :List Nat:=[]
def zor1 :Ann:=.tt
def zlb1 :List Nat:=[]
def zlc1 :Ann:=.tt
def zrj1 :List Nat:=[1]
def zrk1 :Ann:=.tt
def zaw2 :List Nat:=[]
def zax2 :Ann:=.tt
def zzf :List Nat:=[3]
def zzg :Ann:=.tt
def zat1 :List Nat:=[3]
def zau1 :Ann:=.tt
def zye :List Nat:=[]
def zyf :Ann:=(.s (.sq (.s (.bk (.s (.s (.jn [⟨false,9,4⟩] [] .tt (.s (.jn [⟨false,15,4⟩] [] .tt (.s (.jn [⟨false,28,4⟩] [] .tt (.s (.jn [⟨false,35,4⟩] [] .tt (.s (.s (.s (.jn [⟨false,41,4⟩] [] .tt .tt))))))))))))))) .tt))
def zcj1 :List Nat:=[1]
def zck1 :Ann:=.tt
def ziv2 :List Nat:=[]
def ziw2 :Ann:=(.s (.sq (.s (.bk (.lp [⟨false,5,3⟩] [] .tt))) .tt))
def zav1 :List Nat:=[]
def zaw1 :Ann:=(.s (.s (.s (.s (.sq (.s (.bk (.lp [⟨false,19,3⟩] [] .tt))) .tt)))))
def zdu1 :List Nat:=[]
def zdv1 :Ann:=(.s (.s (.s (.s (.jn [⟨false,10,142⟩] [] .tt .tt)))))
def zjm1 :List Nat:=[]
def zjn1 :Ann:=.tt
def zos1 :List Nat:=[4]
def zot1 :Ann:=.tt
def zrd :List Nat:=[]
def zre :Ann:=.tt
def zrx :List Nat:=[]
def zry :Ann:=(.s (.s (.s (.s (.s (.s (.s (.s (.sq (.bk (.lp [⟨false,8,3⟩,⟨false,10,3⟩] [] (.s (.bk (.jn [⟨false,8,3⟩] [] .tt .tt))))) .tt)))))))))
def zut :List Nat:=[]
def zuu :Ann:=(.s (.s (.s (.sq (.bj [⟨false,9,51⟩,⟨false,10,3⟩,⟨false,11,3⟩,⟨false,12,3⟩] [] .tt) (.s (.sq (.rg (rgR 0 9)) (.s (.s (.jn [⟨false,14,3⟩,⟨false,15,51⟩] [] .tt (.s (.s (.s (.s (.sq (.s (.sq (.s (.s (.s (.s (.s (.sq (.rg (rgR 0 11)) (.sq (.s (.bj [⟨false,3,3⟩] [] (.jn [⟨false,149,4⟩] [] .tt (.s (.s (.s (.jn [⟨false,161,4⟩] [] .tt .tt))))))) .tt))))))) .tt)) (.jn [⟨false,3,3⟩] [] (.s (.sq (.s (.sq (.s (.bj [⟨false,3,3⟩,⟨false,24,3⟩] [] (.s (.s (.jn [⟨false,192,4⟩] [] .tt (.s (.jn [⟨false,197,4⟩] [] .tt (.sq (.jn [⟨false,3,3⟩] [] .tt .tt) .tt)))))))) (.s (.sq (.s (.s (.jn [⟨false,26,3⟩,⟨false,27,3⟩] [] (.s (.sq (.s (.s (.s (.s (.s (.sq (.rg (rgR 0 11)) .tt)))))) .tt)) .tt))) .tt)))) .tt)) (.s (.s (.s (.sq (.s (.bj [⟨false,3,3⟩] [] (.jn [⟨false,256,4⟩] [] .tt (.s (.s (.s (.jn [⟨false,273,4⟩] [] .tt (.sq (.jn [⟨false,3,3⟩] [] .tt .tt) .tt)))))))) (.sq (.rg (rgR 0 18)) .tt))))))))))))))))))))
def zrz :List Nat:=[]
def zsa :Ann:=(.s (.sq (.s (.sq (.s (.s (.s (.jn [⟨false,6,51⟩] [] .tt .tt)))) .tt)) .tt))
def zcl1 :List Nat:=[]
def zcm1 :Ann:=(.s (.s (.s (.sq (.s (.bk (.lp [⟨false,5,3⟩,⟨false,6,51⟩] [] .tt))) (.s (.sq (.bk (.lp [⟨false,7,3⟩] [] .tt)) .tt))))))
def zzh :List Nat:=[]
def zzi :Ann:=(.s (.s (.s (.jn [⟨false,8,172⟩,⟨false,9,172⟩] [] .tt (.jn [⟨false,8,172⟩,⟨false,9,172⟩] [] .tt (.s (.sq (.s (.bk (.lp [⟨false,8,172⟩,⟨false,10,51⟩,⟨false,11,3⟩] [] (.s (.sq (.bj [⟨false,8,172⟩,⟨false,10,51⟩] [] .tt) .tt))))) .tt)))))))
def zok :List Nat:=[]
def zol :Ann:=.tt
def zwh :List Nat:=[]
def zwi :Ann:=.tt
def zpk :List Nat:=[]
def zpl :Ann:=(.s (.s (.s (.jn [⟨false,0,9⟩] [] .tt (.s (.jn [⟨false,3,21⟩,⟨false,4,3⟩,⟨false,5,4⟩] [] .tt (.sq (.bk (.lp [⟨false,3,21⟩,⟨false,4,3⟩] [] (.s (.sq (.bj [⟨false,3,21⟩] [] .tt) .tt)))) .tt)))))))
def zmo :List Nat:=[]
def zmp :Ann:=.tt
def zzj :List Nat:=[]
def zzk :Ann:=.tt
def zwj :List Nat:=[]
def zwk :Ann:=(.s (.s (.jn [⟨false,9,172⟩,⟨false,10,172⟩] [] .tt (.jn [⟨false,9,172⟩,⟨false,10,172⟩] [] .tt .tt))))
def zou1 :List Nat:=[]
def zov1 :Ann:=.tt
def zjo1 :List Nat:=[]
def zjp1 :Ann:=.tt
def zvi1 :List Nat:=[]
def zvj1 :Ann:=.tt
def zdw1 :List Nat:=[]
def zdx1 :Ann:=.tt
def zzl :List Nat:=[3]
def zzm :Ann:=.tt
def zfa1 :List Nat:=[]
def zfb1 :Ann:=(.s (.s (.sq (.sq (.rg (rgR 0 10)) .tt) .tt)))
def zvk1 :List Nat:=[]
def zvl1 :Ann:=.tt
def zeh2 :List Nat:=[]
def zei2 :Ann:=.tt
def zwl :List Nat:=[]
def zwm :Ann:=.tt
def zsb :List Nat:=[]
def zsc :Ann:=.tt
def zpm :List Nat:=[]
def zpn :Ann:=(.s (.sq (.bk (.lp [⟨false,1,51⟩,⟨false,4,3⟩] [] (.s (.bk (.s (.s (.s (.s (.s (.sq (.rg (rgR 0 15)) (.sq (.rg (rgR 0 15)) (.sq (.rg (rgR 0 15)) (.sq (.rg (rgR 0 15)) .tt))))))))))))) (.s (.jn [⟨false,4,3⟩,⟨false,12,148⟩] [] (.s (.sq (.s (.s (.s (.sq (.rg (rgR 0 15)) (.sq (.rg (rgR 0 15)) .tt))))) .tt)) (.jn [⟨false,4,3⟩,⟨false,12,148⟩] [] (.s (.sq (.s (.s (.sq (.rg (rgR 0 15)) .tt))) .tt)) .tt)))))
def zrf :List Nat:=[]
def zrg :Ann:=(.s (.jn [] [] .tt (.s (.s (.jn [⟨false,1,51⟩] [] .tt (.jn [⟨false,13,3⟩] [] (.s (.sq (.s (.s (.s (.sq (.bk (.lp [⟨false,1,51⟩,⟨false,13,3⟩] [] .tt)) .tt)))) (.s (.sq (.bk (.lp [⟨false,1,51⟩,⟨false,13,3⟩] [] .tt)) .tt)))) .tt))))))
def zgh1 :List Nat:=[]
def zgi1 :Ann:=.tt
def zom :List Nat:=[]
def zon :Ann:=.tt
def zuv :List Nat:=[]
def zuw :Ann:=(.s (.jn [⟨false,5,3⟩,⟨false,6,5⟩] [] (.s (.sq (.s (.jn [⟨false,17,3⟩] [] .tt (.jn [⟨false,17,3⟩] [] .tt (.s (.s (.sq (.jn [⟨false,5,3⟩] [] .tt .tt) (.jn [⟨false,5,3⟩] [] .tt .tt))))))) .tt)) (.sq (.s (.bk (.jn [⟨false,75,4⟩] [] .tt (.sq (.jn [⟨false,0,74⟩] [] .tt (.s (.jn [⟨false,19,5⟩] [] .tt (.s (.jn [⟨false,0,74⟩] [] (.s (.sq (.s (.s (.s (.jn [⟨false,0,74⟩,⟨false,20,3⟩] [] .tt (.s (.bk (.lp [⟨false,0,74⟩,⟨false,114,3⟩] [] .tt))))))) .tt)) (.s (.s (.jn [⟨false,22,3⟩] [] .tt (.jn [⟨false,19,5⟩,⟨false,22,3⟩] [] .tt .tt))))))))) (.s (.sq (.jn [⟨false,0,74⟩] [] .tt (.jn [⟨false,0,74⟩] [] (.s (.sq (.s (.sq (.s (.bk (.lp [⟨false,0,74⟩,⟨false,191,3⟩] [] .tt))) (.s (.bk (.lp [⟨false,0,74⟩,⟨false,203,3⟩] [] .tt))))) .tt)) (.sq (.s (.sq (.s (.s (.s (.s (.s (.sq (.s (.bk (.lp [⟨false,0,74⟩,⟨false,240,3⟩] [] .tt))) (.sq (.s (.bk (.lp [⟨false,0,74⟩,⟨false,247,3⟩] [] .tt))) (.s (.bk (.lp [⟨false,0,74⟩,⟨false,261,3⟩] [] .tt)))))))))) .tt)) .tt))) .tt)))))) .tt)))
def zgj1 :List Nat:=[]
def zgk1 :Ann:=(.s (.jn [⟨false,0,51⟩,⟨false,2,3⟩] [] .tt (.jn [⟨false,0,51⟩,⟨false,2,3⟩] [] .tt .tt)))
def zsd :List Nat:=[]
def zse :Ann:=(.s (.sq (.s (.sq (.s (.s (.bk (.lp [⟨false,3,3⟩] [] .tt)))) .tt)) .tt))
def zsf :List Nat:=[]
def zsg :Ann:=.tt
def zoo :List Nat:=[]
def zop :Ann:=(.bk (.s (.s (.s (.sq (.sq (.bk (.lp [⟨false,1,3⟩] [] .tt)) .tt) (.s (.sq (.sq (.bk (.lp [⟨false,1,3⟩] [] .tt)) .tt) .tt)))))))
def zlv :List Nat:=[]
def zlw :Ann:=(.s (.s (.sq (.s (.bj [⟨false,6,3⟩,⟨false,7,3⟩] [] .tt)) (.s (.s (.s (.jn [⟨false,5,3⟩,⟨false,8,51⟩,⟨false,9,51⟩,⟨false,10,3⟩] [] .tt .tt)))))))
def zdy1 :List Nat:=[]
def zdz1 :Ann:=.tt
def zzn :List Nat:=[]
def zzo :Ann:=(.s (.s (.s (.sq (.s (.bk (.lp [⟨false,5,172⟩,⟨false,6,3⟩] [] .tt))) .tt))))
def zax1 :List Nat:=[]
def zay1 :Ann:=(.s (.sq (.bk (.lp [⟨false,0,172⟩,⟨false,1,3⟩] [] .tt)) (.sq (.bk (.lp [⟨false,0,172⟩,⟨false,1,3⟩] [] .tt)) .tt)))
def zwn :List Nat:=[]
def zwo :Ann:=(.s (.s (.sq (.s (.bk (.lp [⟨false,5,3⟩] [] (.s (.sq (.bk (.sq (.sq (.rg (rgR 0 9)) .tt) (.sq (.rg (rgR 0 9)) .tt))) .tt))))) .tt)))
def zaz1 :List Nat:=[]
def zba1 :Ann:=(.s (.s (.s (.sq (.s (.bk (.lp [⟨false,5,172⟩,⟨false,6,2⟩,⟨false,7,3⟩] [] (.s (.sq (.bk (.s (.jn [⟨false,6,2⟩] [] .tt .tt))) .tt))))) .tt))))
def zzp :List Nat:=[]
def zzq :Ann:=(.s (.s (.s (.sq (.s (.bk (.lp [⟨false,5,172⟩,⟨false,6,51⟩,⟨false,7,3⟩] [] .tt))) .tt))))
def zux :List Nat:=[]
def zuy :Ann:=(.s (.s (.s (.s (.s (.jn [⟨false,3,3⟩,⟨false,4,56⟩] [] (.s (.sq (.s (.s (.s (.s (.jn [⟨false,3,3⟩,⟨false,4,56⟩] [] .tt .tt))))) .tt)) .tt))))))
def zuz :List Nat:=[]
def zva :Ann:=.tt
def zfc1 :List Nat:=[]
def zfd1 :Ann:=.tt
def zsh :List Nat:=[]
def zsi :Ann:=.tt
def zpo :List Nat:=[]
def zpp :Ann:=.tt
def zvb :List Nat:=[]
def zvc :Ann:=.tt
def zvd :List Nat:=[]
def zve :Ann:=.tt
def zth :List Nat:=[]
def zti :Ann:=.tt
def zsj :List Nat:=[]
def zsk :Ann:=.tt
def zvf :List Nat:=[]
def zvg :Ann:=(.s (.s (.s (.s (.s (.s (.sq (.rg (rgR 0 10)) .tt)))))))
def znc :List Nat:=[]
def znd :Ann:=.tt
def zob :List Nat:=[]
def zoc :Ann:=.tt
def zne :List Nat:=[]
def znf :Ann:=.tt
def zng :List Nat:=[]
def znh :Ann:=.tt
def zwp :List Nat:=[]
def zwq :Ann:=.tt
def zyg :List Nat:=[]
def zyh :Ann:=(.sq (.bk (.lp [] [] (.sq (.sq (.rg (rgR 0 18)) .tt) .tt))) .tt)
def zsl :List Nat:=[]
def zsm :Ann:=(.s (.jn [⟨false,4,3⟩] [] (.sq (.rg (rgR 0 14)) .tt) (.s (.s (.s (.sq (.s (.bk (.lp [⟨false,5,3⟩,⟨false,6,3⟩,⟨false,7,67⟩] [] (.s (.sq (.bk (.s (.s (.s (.s (.jn [] [] .tt .tt)))))) .tt))))) (.sq (.bk (.lp [⟨false,6,3⟩,⟨false,7,67⟩] [] (.s (.bk (.s (.s (.s (.jn [] [] .tt .tt)))))))) (.s (.jn [] [] .tt .tt)))))))))
def zrh :List Nat:=[]
def zri :Ann:=(.s (.s (.s (.sq (.bj [⟨false,4,3⟩,⟨false,6,67⟩] [] (.lp [⟨false,4,3⟩,⟨false,6,67⟩] [] (.s (.sq (.bk (.sq (.s (.sq (.s (.sq (.bk (.lp [⟨false,4,3⟩,⟨false,6,67⟩] [] .tt)) .tt)) .tt)) .tt)) .tt)))) (.s (.s (.sq (.bk (.lp [⟨false,4,3⟩,⟨false,5,3⟩,⟨false,6,67⟩] [] .tt)) (.sq (.bk (.lp [⟨false,5,3⟩,⟨false,6,67⟩] [] (.s (.bk (.s (.s (.jn [⟨false,5,3⟩] [] .tt .tt))))))) .tt))))))))
def zoq :List Nat:=[]
def zor :Ann:=.tt
def zbb1 :List Nat:=[]
def zbc1 :Ann:=(.s (.sq (.bk (.lp [⟨false,0,172⟩] [] .tt)) .tt))
def ztx :List Nat:=[]
def zty :Ann:=(.s (.s (.s (.s (.sq (.s (.bk (.sq (.bk (.sq (.bj [⟨false,0,9⟩,⟨false,5,3⟩,⟨false,6,3⟩] [] (.sq (.bk (.sq (.sq (.jn [⟨false,13,4⟩] [] .tt .tt) (.sq (.jn [⟨false,16,4⟩] [] .tt .tt) (.jn [⟨false,19,4⟩] [] .tt .tt))) .tt)) (.jn [⟨false,5,3⟩] [] .tt .tt))) (.sq (.s (.jn [⟨false,7,3⟩] [] .tt .tt)) .tt))) .tt))) .tt)))))
def zsn :List Nat:=[]
def zso :Ann:=(.s (.s (.s (.sq (.s (.bj [⟨false,4,4⟩,⟨false,7,3⟩] [] .tt)) (.s (.s (.s (.jn [⟨false,6,4⟩,⟨false,7,3⟩,⟨false,10,51⟩,⟨false,11,3⟩,⟨false,12,5⟩] [] .tt (.s (.s (.s (.s (.s (.s (.sq (.bj [⟨false,2,51⟩,⟨false,5,4⟩,⟨false,7,3⟩,⟨false,9,4⟩,⟨false,13,4⟩,⟨false,14,4⟩,⟨false,15,3⟩,⟨false,16,3⟩,⟨false,17,3⟩] [] (.lp [⟨false,2,51⟩,⟨false,5,4⟩,⟨false,7,3⟩,⟨false,9,4⟩,⟨false,13,4⟩,⟨false,14,4⟩,⟨false,15,3⟩,⟨false,16,3⟩,⟨false,17,3⟩] [] (.s (.sq (.bj [⟨false,2,51⟩,⟨false,5,4⟩,⟨false,9,4⟩,⟨false,13,4⟩,⟨false,14,4⟩,⟨false,15,3⟩,⟨false,16,3⟩,⟨false,17,3⟩] [] .tt) .tt)))) (.s (.jn [⟨false,17,3⟩] [] .tt (.jn [⟨false,16,3⟩,⟨false,17,3⟩] [] .tt (.jn [⟨false,7,3⟩,⟨false,9,4⟩,⟨false,17,3⟩] [] (.s (.sq (.s (.s (.s (.sq (.s (.bj [⟨false,7,3⟩,⟨false,19,3⟩] [] .tt)) (.s (.s (.sq (.bk (.lp [⟨false,7,3⟩,⟨false,9,4⟩,⟨false,20,3⟩] [] (.s (.sq (.bj [⟨false,9,4⟩,⟨false,20,3⟩] [] .tt) .tt)))) .tt))))))) .tt)) (.jn [⟨false,3,3⟩] [] .tt .tt))))))))))))))))))))
def ztz :List Nat:=[]
def zua :Ann:=(.s (.sq (.rg (rgR 0 12)) (.s (.s (.sq (.bk (.lp [⟨false,2,51⟩,⟨false,3,3⟩] [] .tt)) (.jn [⟨false,2,51⟩] [] .tt (.sq (.bk (.lp [⟨false,2,51⟩,⟨false,3,3⟩] [] .tt)) (.sq (.bk (.lp [⟨false,2,51⟩,⟨false,3,3⟩] [] .tt)) (.s (.s (.s (.s (.jn [⟨false,2,51⟩,⟨false,3,3⟩] [] .tt (.jn [⟨false,3,3⟩] [] .tt (.s (.jn [⟨false,2,51⟩,⟨false,3,3⟩,⟨false,17,56⟩] [] .tt (.s (.sq (.rg (rgR 0 22)) (.jn [⟨false,18,51⟩] [] (.s (.sq (.rg (rgR 0 13)) .tt)) .tt)))))))))))))))))))
def zqm :List Nat:=[]
def zqn :Ann:=(.s (.s (.s (.s (.s (.sq (.s (.bj [⟨false,5,3⟩] [] .tt)) (.s (.s (.sq (.bj [⟨false,5,3⟩,⟨false,6,4⟩,⟨false,7,4⟩] [] (.lp [⟨false,5,3⟩,⟨false,6,4⟩,⟨false,7,4⟩] [] (.s (.sq (.bj [⟨false,6,4⟩,⟨false,7,4⟩] [] (.sq (.bk (.s (.s (.s (.s (.s (.sq (.s (.s (.sq (.s (.sq (.sq (.rg (rgR 0 12)) .tt) .tt)) .tt))) .tt))))))) .tt)) .tt)))) (.s (.jn [] [] .tt (.sq (.s (.sq (.s (.s (.s (.sq (.s (.bj [⟨false,5,3⟩,⟨false,8,3⟩] [] .tt)) (.s (.s (.sq (.bk (.lp [⟨false,5,3⟩,⟨false,9,3⟩] [] (.s (.sq (.bj [⟨false,9,3⟩] [] .tt) .tt)))) .tt))))))) .tt)) .tt))))))))))))
def zmd :List Nat:=[]
def zme :Ann:=(.s (.gd 0 (.s (.sq (.rg (rgR 0 22)) (.sq (.s (.sq (.rg (rgR 0 13)) .tt)) .tt))) (.gd 1 (.s (.sq (.rg (rgR 0 12)) (.s (.s (.s (.sq (.rg (rgR 0 22)) (.sq (.s (.sq (.rg (rgR 0 13)) .tt)) .tt))))))) (.s (.s (.s (.s (.s (.s (.sq (.bk (.lp [⟨false,6,3⟩] [] (.s (.bk (.s (.jn [⟨false,8,3⟩] [] (.sq (.rg (rgR 0 7)) (.s (.rg (rgR 0 8)))) .tt)))))) (.sq (.bk (.lp [⟨false,6,3⟩] [] (.s (.bk (.s (.jn [⟨false,9,3⟩] [] (.sq (.rg (rgR 0 8)) (.s (.rg (rgR 0 9)))) .tt)))))) (.s (.jn [⟨false,6,3⟩] [] .tt (.sq (.sq (.rg (rgR 0 13)) .tt) (.s (.s (.jn [⟨false,6,3⟩,⟨false,7,51⟩] [] (.s (.sq (.s (.s (.sq (.rg (rgR 0 13)) .tt))) .tt)) (.jn [⟨false,6,3⟩] [] .tt (.s (.s (.s (.sq (.rg (rgR 0 12)) (.s (.s (.s (.sq (.rg (rgR 0 22)) (.sq (.s (.sq (.rg (rgR 0 13)) .tt)) .tt)))))))))))))))))))))))))))
def zpq :List Nat:=[]
def zpr :Ann:=.tt
def zqo :List Nat:=[]
def zqp :Ann:=(.s (.s (.s (.jn [⟨false,6,48⟩] [] .tt (.sq (.bk (.s (.s (.s (.sq (.jn [⟨false,1,3⟩,⟨false,6,48⟩] [] .tt .tt) .tt))))) .tt)))))
def zps :List Nat:=[]
def zpt :Ann:=.tt
def ztj :List Nat:=[]
def ztk :Ann:=.tt
def zmq :List Nat:=[]
def zmr :Ann:=(.s (.sq (.s (.bk (.lp [⟨false,5,3⟩] [] (.s (.sq (.bk (.s (.sq (.rg (rgR 0 8)) (.sq (.sq (.rg (rgR 0 9)) .tt) .tt)))) .tt))))) .tt))
def zii :List Nat:=[]
def zij :Ann:=(.s (.s (.sq (.s (.bk (.lp [⟨false,6,3⟩] [] (.s (.sq (.bk (.s (.jn [⟨false,7,5⟩] [] .tt .tt))) .tt))))) .tt)))
def zzr :List Nat:=[]
def zzs :Ann:=(.s (.s (.jn [⟨false,3,51⟩] [] .tt .tt)))
def zzt :List Nat:=[]
def zzu :Ann:=.tt
def zjr :List Nat:=[]
def zjs :Ann:=(.s (.s (.s (.s (.sq (.s (.bk (.lp [⟨false,3,3⟩,⟨false,4,51⟩] [] .tt))) (.sq (.bk (.lp [⟨false,3,3⟩,⟨false,4,51⟩] [] .tt)) .tt))))))
def zvh :List Nat:=[]
def zvi :Ann:=.tt
end Lf

set_option maxRecDepth 100000
namespace Lf
open Go Go.Proofs
theorem zyh1 {α:Type _} {l:List α} {i:Nat} (h:l.length≤i):nth l i=none:=by rw [zed];exact List.getElem?_eq_none h
theorem tyS {a e:Ty} {p:Ty→Prop} (h:some a=some e) (x:p a):p e:=Option.some.inj h▸x
theorem tyN {e:Ty} {q:Prop} (h:(none:Option Ty)=some e):q:=by cases h
theorem tyAll {p:Nat→Ty→Prop} (h0:p 0 ty0) (h2:p 2 ty2) (h3:p 3 ty3) (h4:p 4 ty4) (h5:p 5 ty5) (h9:p 9 ty9) (h12:p 12 ty12) (h20:p 20 ty20) (h21:p 21 ty21) (h22:p 22 ty22) (h23:p 23 ty23) (h25:p 25 ty25) (h26:p 26 ty26) (h31:p 31 ty31) (h33:p 33 ty33) (h36:p 36 ty36) (h39:p 39 ty39) (h40:p 40 ty40) (h44:p 44 ty44) (h48:p 48 ty48) (h51:p 51 ty51) (h52:p 52 ty52) (h56:p 56 ty56) (h57:p 57 ty57) (h60:p 60 ty60) (h62:p 62 ty62) (h64:p 64 ty64) (h67:p 67 ty67) (h69:p 69 ty69) (h73:p 73 ty73) (h74:p 74 ty74) (h76:p 76 ty76) (h80:p 80 ty80) (h82:p 82 ty82) (h85:p 85 ty85) (h92:p 92 ty92) (h96:p 96 ty96) (h99:p 99 ty99) (h102:p 102 ty102) (h107:p 107 ty107) (h108:p 108 ty108) (h109:p 109 ty109) (h114:p 114 ty114) (h120:p 120 ty120) (h122:p 122 ty122) (h123:p 123 ty123) (h125:p 125 ty125) (h132:p 132 ty132) (h135:p 135 ty135) (h137:p 137 ty137) (h140:p 140 ty140) (h142:p 142 ty142) (h143:p 143 ty143) (h144:p 144 ty144) (h146:p 146 ty146) (h148:p 148 ty148) (h149:p 149 ty149) (h151:p 151 ty151) (h158:p 158 ty158) (h159:p 159 ty159) (h162:p 162 ty162) (h163:p 163 ty163) (h165:p 165 ty165) (h169:p 169 ty169) (h172:p 172 ty172) (h178:p 178 ty178) (h182:p 182 ty182) (h183:p 183 ty183) (h191:p 191 ty191) (h193:p 193 ty193) (h194:p 194 ty194) (h202:p 202 ty202) (h204:p 204 ty204) (h206:p 206 ty206) (h208:p 208 ty208) (h211:p 211 ty211) (h213:p 213 ty213) (h216:p 216 ty216) (h218:p 218 ty218) (h220:p 220 ty220) (h223:p 223 ty223) (h228:p 228 ty228) (h229:p 229 ty229) (h232:p 232 ty232) (h233:p 233 ty233) (h237:p 237 ty237) (h239:p 239 ty239) (h240:p 240 ty240) (h242:p 242 ty242):∀t e,tyAt t=some e→p t e:=by
 intro t e h
 by_cases hlt:t<256
 ·match t,hlt,h with
  | 0,_,h=>exact tyS h h0
  | 1,_,h=>exact tyN h
  | 2,_,h=>exact tyS h h2
  | 3,_,h=>exact tyS h h3
  | 4,_,h=>exact tyS h h4
  | 5,_,h=>exact tyS h h5
  | 6,_,h=>exact tyN h
  | 7,_,h=>exact tyN h
  | 8,_,h=>exact tyN h
  | 9,_,h=>exact tyS h h9
  | 10,_,h=>exact tyN h
  | 11,_,h=>exact tyN h
  | 12,_,h=>exact tyS h h12
  | 13,_,h=>exact tyN h
  | 14,_,h=>exact tyN h
  | 15,_,h=>exact tyN h
  | 16,_,h=>exact tyN h
  | 17,_,h=>exact tyN h
  | 18,_,h=>exact tyN h
  | 19,_,h=>exact tyN h
  | 20,_,h=>exact tyS h h20
  | 21,_,h=>exact tyS h h21
  | 22,_,h=>exact tyS h h22
  | 23,_,h=>exact tyS h h23
  | 24,_,h=>exact tyN h
  | 25,_,h=>exact tyS h h25
  | 26,_,h=>exact tyS h h26
  | 27,_,h=>exact tyN h
  | 28,_,h=>exact tyN h
  | 29,_,h=>exact tyN h
  | 30,_,h=>exact tyN h
  | 31,_,h=>exact tyS h h31
  | 32,_,h=>exact tyN h
  | 33,_,h=>exact tyS h h33
  | 34,_,h=>exact tyN h
  | 35,_,h=>exact tyN h
  | 36,_,h=>exact tyS h h36
  | 37,_,h=>exact tyN h
  | 38,_,h=>exact tyN h
  | 39,_,h=>exact tyS h h39
  | 40,_,h=>exact tyS h h40
  | 41,_,h=>exact tyN h
  | 42,_,h=>exact tyN h
  | 43,_,h=>exact tyN h
  | 44,_,h=>exact tyS h h44
  | 45,_,h=>exact tyN h
  | 46,_,h=>exact tyN h
  | 47,_,h=>exact tyN h
  | 48,_,h=>exact tyS h h48
  | 49,_,h=>exact tyN h
  | 50,_,h=>exact tyN h
  | 51,_,h=>exact tyS h h51
  | 52,_,h=>exact tyS h h52
  | 53,_,h=>exact tyN h
  | 54,_,h=>exact tyN h
  | 55,_,h=>exact tyN h
  | 56,_,h=>exact tyS h h56
  | 57,_,h=>exact tyS h h57
  | 58,_,h=>exact tyN h
  | 59,_,h=>exact tyN h
  | 60,_,h=>exact tyS h h60
  | 61,_,h=>exact tyN h
  | 62,_,h=>exact tyS h h62
  | 63,_,h=>exact tyN h
  | 64,_,h=>exact tyS h h64
  | 65,_,h=>exact tyN h
  | 66,_,h=>exact tyN h
  | 67,_,h=>exact tyS h h67
  | 68,_,h=>exact tyN h
  | 69,_,h=>exact tyS h h69
  | 70,_,h=>exact tyN h
  | 71,_,h=>exact tyN h
  | 72,_,h=>exact tyN h
  | 73,_,h=>exact tyS h h73
  | 74,_,h=>exact tyS h h74
  | 75,_,h=>exact tyN h
  | 76,_,h=>exact tyS h h76
  | 77,_,h=>exact tyN h
  | 78,_,h=>exact tyN h
  | 79,_,h=>exact tyN h
  | 80,_,h=>exact tyS h h80
  | 81,_,h=>exact tyN h
  | 82,_,h=>exact tyS h h82
  | 83,_,h=>exact tyN h
  | 84,_,h=>exact tyN h
  | 85,_,h=>exact tyS h h85
  | 86,_,h=>exact tyN h
  | 87,_,h=>exact tyN h
  | 88,_,h=>exact tyN h
  | 89,_,h=>exact tyN h
  | 90,_,h=>exact tyN h
  | 91,_,h=>exact tyN h
  | 92,_,h=>exact tyS h h92
  | 93,_,h=>exact tyN h
  | 94,_,h=>exact tyN h
  | 95,_,h=>exact tyN h
  | 96,_,h=>exact tyS h h96
  | 97,_,h=>exact tyN h
  | 98,_,h=>exact tyN h
  | 99,_,h=>exact tyS h h99
  | 100,_,h=>exact tyN h
  | 101,_,h=>exact tyN h
  | 102,_,h=>exact tyS h h102
  | 103,_,h=>exact tyN h
  | 104,_,h=>exact tyN h
  | 105,_,h=>exact tyN h
  | 106,_,h=>exact tyN h
  | 107,_,h=>exact tyS h h107
  | 108,_,h=>exact tyS h h108
  | 109,_,h=>exact tyS h h109
  | 110,_,h=>exact tyN h
  | 111,_,h=>exact tyN h
  | 112,_,h=>exact tyN h
  | 113,_,h=>exact tyN h
  | 114,_,h=>exact tyS h h114
  | 115,_,h=>exact tyN h
  | 116,_,h=>exact tyN h
  | 117,_,h=>exact tyN h
  | 118,_,h=>exact tyN h
  | 119,_,h=>exact tyN h
  | 120,_,h=>exact tyS h h120
  | 121,_,h=>exact tyN h
  | 122,_,h=>exact tyS h h122
  | 123,_,h=>exact tyS h h123
  | 124,_,h=>exact tyN h
  | 125,_,h=>exact tyS h h125
  | 126,_,h=>exact tyN h
  | 127,_,h=>exact tyN h
  | 128,_,h=>exact tyN h
  | 129,_,h=>exact tyN h
  | 130,_,h=>exact tyN h
  | 131,_,h=>exact tyN h
  | 132,_,h=>exact tyS h h132
  | 133,_,h=>exact tyN h
  | 134,_,h=>exact tyN h
  | 135,_,h=>exact tyS h h135
  | 136,_,h=>exact tyN h
  | 137,_,h=>exact tyS h h137
  | 138,_,h=>exact tyN h
  | 139,_,h=>exact tyN h
  | 140,_,h=>exact tyS h h140
  | 141,_,h=>exact tyN h
  | 142,_,h=>exact tyS h h142
  | 143,_,h=>exact tyS h h143
  | 144,_,h=>exact tyS h h144
  | 145,_,h=>exact tyN h
  | 146,_,h=>exact tyS h h146
  | 147,_,h=>exact tyN h
  | 148,_,h=>exact tyS h h148
  | 149,_,h=>exact tyS h h149
  | 150,_,h=>exact tyN h
  | 151,_,h=>exact tyS h h151
  | 152,_,h=>exact tyN h
  | 153,_,h=>exact tyN h
  | 154,_,h=>exact tyN h
  | 155,_,h=>exact tyN h
  | 156,_,h=>exact tyN h
  | 157,_,h=>exact tyN h
  | 158,_,h=>exact tyS h h158
  | 159,_,h=>exact tyS h h159
  | 160,_,h=>exact tyN h
  | 161,_,h=>exact tyN h
  | 162,_,h=>exact tyS h h162
  | 163,_,h=>exact tyS h h163
  | 164,_,h=>exact tyN h
  | 165,_,h=>exact tyS h h165
  | 166,_,h=>exact tyN h
  | 167,_,h=>exact tyN h
  | 168,_,h=>exact tyN h
  | 169,_,h=>exact tyS h h169
  | 170,_,h=>exact tyN h
  | 171,_,h=>exact tyN h
  | 172,_,h=>exact tyS h h172
  | 173,_,h=>exact tyN h
  | 174,_,h=>exact tyN h
  | 175,_,h=>exact tyN h
  | 176,_,h=>exact tyN h
  | 177,_,h=>exact tyN h
  | 178,_,h=>exact tyS h h178
  | 179,_,h=>exact tyN h
  | 180,_,h=>exact tyN h
  | 181,_,h=>exact tyN h
  | 182,_,h=>exact tyS h h182
  | 183,_,h=>exact tyS h h183
  | 184,_,h=>exact tyN h
  | 185,_,h=>exact tyN h
  | 186,_,h=>exact tyN h
  | 187,_,h=>exact tyN h
  | 188,_,h=>exact tyN h
  | 189,_,h=>exact tyN h
  | 190,_,h=>exact tyN h
  | 191,_,h=>exact tyS h h191
  | 192,_,h=>exact tyN h
  | 193,_,h=>exact tyS h h193
  | 194,_,h=>exact tyS h h194
  | 195,_,h=>exact tyN h
  | 196,_,h=>exact tyN h
  | 197,_,h=>exact tyN h
  | 198,_,h=>exact tyN h
  | 199,_,h=>exact tyN h
  | 200,_,h=>exact tyN h
  | 201,_,h=>exact tyN h
  | 202,_,h=>exact tyS h h202
  | 203,_,h=>exact tyN h
  | 204,_,h=>exact tyS h h204
  | 205,_,h=>exact tyN h
  | 206,_,h=>exact tyS h h206
  | 207,_,h=>exact tyN h
  | 208,_,h=>exact tyS h h208
  | 209,_,h=>exact tyN h
  | 210,_,h=>exact tyN h
  | 211,_,h=>exact tyS h h211
  | 212,_,h=>exact tyN h
  | 213,_,h=>exact tyS h h213
  | 214,_,h=>exact tyN h
  | 215,_,h=>exact tyN h
  | 216,_,h=>exact tyS h h216
  | 217,_,h=>exact tyN h
  | 218,_,h=>exact tyS h h218
  | 219,_,h=>exact tyN h
  | 220,_,h=>exact tyS h h220
  | 221,_,h=>exact tyN h
  | 222,_,h=>exact tyN h
  | 223,_,h=>exact tyS h h223
  | 224,_,h=>exact tyN h
  | 225,_,h=>exact tyN h
  | 226,_,h=>exact tyN h
  | 227,_,h=>exact tyN h
  | 228,_,h=>exact tyS h h228
  | 229,_,h=>exact tyS h h229
  | 230,_,h=>exact tyN h
  | 231,_,h=>exact tyN h
  | 232,_,h=>exact tyS h h232
  | 233,_,h=>exact tyS h h233
  | 234,_,h=>exact tyN h
  | 235,_,h=>exact tyN h
  | 236,_,h=>exact tyN h
  | 237,_,h=>exact tyS h h237
  | 238,_,h=>exact tyN h
  | 239,_,h=>exact tyS h h239
  | 240,_,h=>exact tyS h h240
  | 241,_,h=>exact tyN h
  | 242,_,h=>exact tyS h h242
  | 243,_,h=>exact tyN h
  | 244,_,h=>exact tyN h
  | 245,_,h=>exact tyN h
  | 246,_,h=>exact tyN h
  | 247,_,h=>exact tyN h
  | 248,_,h=>exact tyN h
  | 249,_,h=>exact tyN h
  | 250,_,h=>exact tyN h
  | 251,_,h=>exact tyN h
  | 252,_,h=>exact tyN h
  | 253,_,h=>exact tyN h
  | 254,_,h=>exact tyN h
  | 255,_,h=>exact tyN h
  | n+256,hlt,_=>omega
 ·have hl:tyRows.length=16:=rfl
  have:nth tyRows (t / 16)=none:=zyh1 (l:=tyRows) (i:=t / 16) (by rw [hl];omega)
  unfold tyAt at h
  rw [this] at h
  cases h
theorem zmm2 (x:Leaf):(zaj x.v).length=1∧∀cs,x.v≠ .agg cs:=by
 obtain ⟨v,h⟩:=x
 cases v<;>first | exact ⟨rfl,fun cs h=>by cases h⟩ | cases h
theorem tb_ok :tb.Ok Tryz.prog where
 und:=tyAll (p:=fun t e=>Tryz.prog.underlying t=some e.und) Tryz.underlying0 Tryz.underlying2 Tryz.underlying3 Tryz.underlying4 Tryz.underlying5 Tryz.underlying9 Tryz.underlying12 Tryz.underlying20 Tryz.underlying21 Tryz.underlying22 Tryz.underlying23 Tryz.underlying25 Tryz.underlying26 Tryz.underlying31 Tryz.underlying33 Tryz.underlying36 Tryz.underlying39 Tryz.underlying40 Tryz.underlying44 Tryz.underlying48 Tryz.underlying51 Tryz.underlying52 Tryz.underlying56 Tryz.underlying57 Tryz.underlying60 Tryz.underlying62 Tryz.underlying64 Tryz.underlying67 Tryz.underlying69 Tryz.underlying73 Tryz.underlying74 Tryz.underlying76 Tryz.underlying80 Tryz.underlying82 Tryz.underlying85 Tryz.underlying92 Tryz.underlying96 Tryz.underlying99 Tryz.underlying102 Tryz.underlying107 Tryz.underlying108 Tryz.underlying109 Tryz.underlying114 Tryz.underlying120 Tryz.underlying122 Tryz.underlying123 Tryz.underlying125 Tryz.underlying132 Tryz.underlying135 Tryz.underlying137 Tryz.underlying140 Tryz.underlying142 Tryz.underlying143 Tryz.underlying144 Tryz.underlying146 Tryz.underlying148 Tryz.underlying149 Tryz.underlying151 Tryz.underlying158 Tryz.underlying159 Tryz.underlying162 Tryz.underlying163 Tryz.underlying165 Tryz.underlying169 Tryz.underlying172 Tryz.underlying178 Tryz.underlying182 Tryz.underlying183 Tryz.underlying191 Tryz.underlying193 Tryz.underlying194 Tryz.underlying202 Tryz.underlying204 Tryz.underlying206 Tryz.underlying208 Tryz.underlying211 Tryz.underlying213 Tryz.underlying216 Tryz.underlying218 Tryz.underlying220 Tryz.underlying223 Tryz.underlying228 Tryz.underlying229 Tryz.underlying232 Tryz.underlying233 Tryz.underlying237 Tryz.underlying239 Tryz.underlying240 Tryz.underlying242
 info:=tyAll (p:=fun t e=>∃i,Tryz.prog.info? t=some i∧i.size=e.size∧i.bytes=e.bytes∧i.zero=some e.zero) ⟨Tryz.t0,Tryz.type0,rfl,rfl,rfl⟩ ⟨Tryz.t2,Tryz.type2,rfl,rfl,rfl⟩ ⟨Tryz.t3,Tryz.type3,rfl,rfl,rfl⟩ ⟨Tryz.t4,Tryz.type4,rfl,rfl,rfl⟩ ⟨Tryz.t5,Tryz.type5,rfl,rfl,rfl⟩ ⟨Tryz.t9,Tryz.type9,rfl,rfl,rfl⟩ ⟨Tryz.t12,Tryz.type12,rfl,rfl,rfl⟩ ⟨Tryz.t20,Tryz.type20,rfl,rfl,rfl⟩ ⟨Tryz.t21,Tryz.type21,rfl,rfl,rfl⟩ ⟨Tryz.t22,Tryz.type22,rfl,rfl,rfl⟩ ⟨Tryz.t23,Tryz.type23,rfl,rfl,rfl⟩ ⟨Tryz.t25,Tryz.type25,rfl,rfl,rfl⟩ ⟨Tryz.t26,Tryz.type26,rfl,rfl,rfl⟩ ⟨Tryz.t31,Tryz.type31,rfl,rfl,rfl⟩ ⟨Tryz.t33,Tryz.type33,rfl,rfl,rfl⟩ ⟨Tryz.t36,Tryz.type36,rfl,rfl,rfl⟩ ⟨Tryz.t39,Tryz.type39,rfl,rfl,rfl⟩ ⟨Tryz.t40,Tryz.type40,rfl,rfl,rfl⟩ ⟨Tryz.t44,Tryz.type44,rfl,rfl,rfl⟩ ⟨Tryz.t48,Tryz.type48,rfl,rfl,rfl⟩ ⟨Tryz.t51,Tryz.type51,rfl,rfl,rfl⟩ ⟨Tryz.t52,Tryz.type52,rfl,rfl,rfl⟩ ⟨Tryz.t56,Tryz.type56,rfl,rfl,rfl⟩ ⟨Tryz.t57,Tryz.type57,rfl,rfl,rfl⟩ ⟨Tryz.t60,Tryz.type60,rfl,rfl,rfl⟩ ⟨Tryz.t62,Tryz.type62,rfl,rfl,rfl⟩ ⟨Tryz.t64,Tryz.type64,rfl,rfl,rfl⟩ ⟨Tryz.t67,Tryz.type67,rfl,rfl,rfl⟩ ⟨Tryz.t69,Tryz.type69,rfl,rfl,rfl⟩ ⟨Tryz.t73,Tryz.type73,rfl,rfl,rfl⟩ ⟨Tryz.t74,Tryz.type74,rfl,rfl,rfl⟩ ⟨Tryz.t76,Tryz.type76,rfl,rfl,rfl⟩ ⟨Tryz.t80,Tryz.type80,rfl,rfl,rfl⟩ ⟨Tryz.t82,Tryz.type82,rfl,rfl,rfl⟩ ⟨Tryz.t85,Tryz.type85,rfl,rfl,rfl⟩ ⟨Tryz.t92,Tryz.type92,rfl,rfl,rfl⟩ ⟨Tryz.t96,Tryz.type96,rfl,rfl,rfl⟩ ⟨Tryz.t99,Tryz.type99,rfl,rfl,rfl⟩ ⟨Tryz.t102,Tryz.type102,rfl,rfl,rfl⟩ ⟨Tryz.t107,Tryz.type107,rfl,rfl,rfl⟩ ⟨Tryz.t108,Tryz.type108,rfl,rfl,rfl⟩ ⟨Tryz.t109,Tryz.type109,rfl,rfl,rfl⟩ ⟨Tryz.t114,Tryz.type114,rfl,rfl,rfl⟩ ⟨Tryz.t120,Tryz.type120,rfl,rfl,rfl⟩ ⟨Tryz.t122,Tryz.type122,rfl,rfl,rfl⟩ ⟨Tryz.t123,Tryz.type123,rfl,rfl,rfl⟩ ⟨Tryz.t125,Tryz.type125,rfl,rfl,rfl⟩ ⟨Tryz.t132,Tryz.type132,rfl,rfl,rfl⟩ ⟨Tryz.t135,Tryz.type135,rfl,rfl,rfl⟩ ⟨Tryz.t137,Tryz.type137,rfl,rfl,rfl⟩ ⟨Tryz.t140,Tryz.type140,rfl,rfl,rfl⟩ ⟨Tryz.t142,Tryz.type142,rfl,rfl,rfl⟩ ⟨Tryz.t143,Tryz.type143,rfl,rfl,rfl⟩ ⟨Tryz.t144,Tryz.type144,rfl,rfl,rfl⟩ ⟨Tryz.t146,Tryz.type146,rfl,rfl,rfl⟩ ⟨Tryz.t148,Tryz.type148,rfl,rfl,rfl⟩ ⟨Tryz.t149,Tryz.type149,rfl,rfl,rfl⟩ ⟨Tryz.t151,Tryz.type151,rfl,rfl,rfl⟩ ⟨Tryz.t158,Tryz.type158,rfl,rfl,rfl⟩ ⟨Tryz.t159,Tryz.type159,rfl,rfl,rfl⟩ ⟨Tryz.t162,Tryz.type162,rfl,rfl,rfl⟩ ⟨Tryz.t163,Tryz.type163,rfl,rfl,rfl⟩ ⟨Tryz.t165,Tryz.type165,rfl,rfl,rfl⟩ ⟨Tryz.t169,Tryz.type169,rfl,rfl,rfl⟩ ⟨Tryz.t172,Tryz.type172,rfl,rfl,rfl⟩ ⟨Tryz.t178,Tryz.type178,rfl,rfl,rfl⟩ ⟨Tryz.t182,Tryz.type182,rfl,rfl,rfl⟩ ⟨Tryz.t183,Tryz.type183,rfl,rfl,rfl⟩ ⟨Tryz.t191,Tryz.type191,rfl,rfl,rfl⟩ ⟨Tryz.t193,Tryz.type193,rfl,rfl,rfl⟩ ⟨Tryz.t194,Tryz.type194,rfl,rfl,rfl⟩ ⟨Tryz.t202,Tryz.type202,rfl,rfl,rfl⟩ ⟨Tryz.t204,Tryz.type204,rfl,rfl,rfl⟩ ⟨Tryz.t206,Tryz.type206,rfl,rfl,rfl⟩ ⟨Tryz.t208,Tryz.type208,rfl,rfl,rfl⟩ ⟨Tryz.t211,Tryz.type211,rfl,rfl,rfl⟩ ⟨Tryz.t213,Tryz.type213,rfl,rfl,rfl⟩ ⟨Tryz.t216,Tryz.type216,rfl,rfl,rfl⟩ ⟨Tryz.t218,Tryz.type218,rfl,rfl,rfl⟩ ⟨Tryz.t220,Tryz.type220,rfl,rfl,rfl⟩ ⟨Tryz.t223,Tryz.type223,rfl,rfl,rfl⟩ ⟨Tryz.t228,Tryz.type228,rfl,rfl,rfl⟩ ⟨Tryz.t229,Tryz.type229,rfl,rfl,rfl⟩ ⟨Tryz.t232,Tryz.type232,rfl,rfl,rfl⟩ ⟨Tryz.t233,Tryz.type233,rfl,rfl,rfl⟩ ⟨Tryz.t237,Tryz.type237,rfl,rfl,rfl⟩ ⟨Tryz.t239,Tryz.type239,rfl,rfl,rfl⟩ ⟨Tryz.t240,Tryz.type240,rfl,rfl,rfl⟩ ⟨Tryz.t242,Tryz.type242,rfl,rfl,rfl⟩
 agg:=by
  apply tyAll (p:=fun t e=>zlk e.und=true→∀x,∃cs,e.sh.enc x=.agg cs∧cs.size=e.size)<;>first | (intro h;cases h;done) | exact (fun _ x=>⟨_,rfl,rfl⟩) | exact (fun _ x=>⟨_,rfl,x.size⟩)
 leaf:=by
  apply tyAll (p:=fun t e=>zlk e.und=false→e.size=1∧∀x,(zaj (e.sh.enc x)).length=1∧∀cs,e.sh.enc x≠ .agg cs)<;>first | (intro h;cases h;done) | (refine fun _=>⟨rfl,fun x=>⟨rfl,fun cs h=> ?_⟩⟩;cases h;done) | exact (fun _=>⟨rfl,zmm2⟩)
 zlen:=by
  apply tyAll (p:=fun t e=>(zaj e.zero).length=e.size)<;>first | exact rfl
 zero8:=by
  apply tyAll (p:=fun t e=>e.und=.int .u8→zaj e.zero=[.int .u8 0])<;>first | (intro h;cases h;done) | exact (fun _=>rfl)
 zagg:=by
  apply tyAll (p:=fun t e=>zlk e.und=true→∃cs,e.zero=.agg cs)<;>first | (intro h;cases h;done) | exact (fun _=>⟨_,rfl⟩)
 call:=by
  intro g h
  by_cases hlt:g<256
  ·match g,hlt,h with
   | 0,_,h=>exact absurd (show false=true from h) (by simp)
   | 1,_,h=>exact absurd (show false=true from h) (by simp)
   | 2,_,_=>exact Tryz.call2
   | 3,_,_=>exact Tryz.call3
   | 4,_,_=>exact Tryz.call4
   | 5,_,_=>exact Tryz.call5
   | 6,_,_=>exact Tryz.call6
   | 7,_,_=>exact Tryz.call7
   | 8,_,_=>exact Tryz.call8
   | 9,_,_=>exact Tryz.call9
   | 10,_,_=>exact Tryz.call10
   | 11,_,_=>exact Tryz.call11
   | 12,_,_=>exact Tryz.call12
   | 13,_,_=>exact Tryz.call13
   | 14,_,_=>exact Tryz.call14
   | 15,_,_=>exact Tryz.call15
   | 16,_,_=>exact Tryz.call16
   | 17,_,_=>exact Tryz.call17
   | 18,_,_=>exact Tryz.call18
   | 19,_,_=>exact Tryz.call19
   | 20,_,_=>exact Tryz.call20
   | 21,_,_=>exact Tryz.call21
   | 22,_,_=>exact Tryz.call22
   | 23,_,_=>exact Tryz.call23
   | 24,_,_=>exact Tryz.call24
   | 25,_,_=>exact Tryz.call25
   | 26,_,_=>exact Tryz.call26
   | 27,_,_=>exact Tryz.call27
   | 28,_,_=>exact Tryz.call28
   | 29,_,_=>exact Tryz.call29
   | 30,_,_=>exact Tryz.call30
   | 31,_,_=>exact Tryz.call31
   | 32,_,_=>exact Tryz.call32
   | 33,_,_=>exact Tryz.call33
   | 34,_,_=>exact Tryz.call34
   | 35,_,_=>exact Tryz.call35
   | 36,_,_=>exact Tryz.call36
   | 37,_,h=>exact absurd (show false=true from h) (by simp)
   | 38,_,_=>exact Tryz.call38
   | 39,_,_=>exact Tryz.call39
   | 40,_,_=>exact Tryz.call40
   | 41,_,_=>exact Tryz.call41
   | 42,_,_=>exact Tryz.call42
   | 43,_,_=>exact Tryz.call43
   | 44,_,_=>exact Tryz.call44
   | 45,_,_=>exact Tryz.call45
   | 46,_,_=>exact Tryz.call46
   | 47,_,_=>exact Tryz.call47
   | 48,_,_=>exact Tryz.call48
   | 49,_,_=>exact Tryz.call49
   | 50,_,_=>exact Tryz.call50
   | 51,_,_=>exact Tryz.call51
   | 52,_,h=>exact absurd (show false=true from h) (by simp)
   | 53,_,_=>exact Tryz.call53
   | 54,_,_=>exact Tryz.call54
   | 55,_,_=>exact Tryz.call55
   | 56,_,_=>exact Tryz.call56
   | 57,_,_=>exact Tryz.call57
   | 58,_,_=>exact Tryz.call58
   | 59,_,_=>exact Tryz.call59
   | 60,_,_=>exact Tryz.call60
   | 61,_,_=>exact Tryz.call61
   | 62,_,_=>exact Tryz.call62
   | 63,_,_=>exact Tryz.call63
   | 64,_,_=>exact Tryz.call64
   | 65,_,_=>exact Tryz.call65
   | 66,_,_=>exact Tryz.call66
   | 67,_,_=>exact Tryz.call67
   | 68,_,_=>exact Tryz.call68
   | 69,_,_=>exact Tryz.call69
   | 70,_,_=>exact Tryz.call70
   | 71,_,_=>exact Tryz.call71
   | 72,_,_=>exact Tryz.call72
   | 73,_,_=>exact Tryz.call73
   | 74,_,_=>exact Tryz.call74
   | 75,_,_=>exact Tryz.call75
   | 76,_,_=>exact Tryz.call76
   | 77,_,_=>exact Tryz.call77
   | 78,_,_=>exact Tryz.call78
   | 79,_,h=>exact absurd (show false=true from h) (by simp)
   | 80,_,_=>exact Tryz.call80
   | 81,_,_=>exact Tryz.call81
   | 82,_,_=>exact Tryz.call82
   | 83,_,_=>exact Tryz.call83
   | 84,_,_=>exact Tryz.call84
   | 85,_,_=>exact Tryz.call85
   | 86,_,_=>exact Tryz.call86
   | 87,_,_=>exact Tryz.call87
   | 88,_,_=>exact Tryz.call88
   | 89,_,_=>exact Tryz.call89
   | 90,_,_=>exact Tryz.call90
   | 91,_,_=>exact Tryz.call91
   | 92,_,_=>exact Tryz.call92
   | 93,_,_=>exact Tryz.call93
   | 94,_,_=>exact Tryz.call94
   | 95,_,_=>exact Tryz.call95
   | 96,_,_=>exact Tryz.call96
   | 97,_,_=>exact Tryz.call97
   | 98,_,_=>exact Tryz.call98
   | 99,_,_=>exact Tryz.call99
   | 100,_,_=>exact Tryz.call100
   | 101,_,_=>exact Tryz.call101
   | 102,_,_=>exact Tryz.call102
   | 103,_,_=>exact Tryz.call103
   | 104,_,_=>exact Tryz.call104
   | 105,_,_=>exact Tryz.call105
   | 106,_,_=>exact Tryz.call106
   | 107,_,_=>exact Tryz.call107
   | 108,_,_=>exact Tryz.call108
   | 109,_,_=>exact Tryz.call109
   | 110,_,_=>exact Tryz.call110
   | 111,_,_=>exact Tryz.call111
   | 112,_,h=>exact absurd (show false=true from h) (by simp)
   | 113,_,_=>exact Tryz.call113
   | 114,_,_=>exact Tryz.call114
   | 115,_,_=>exact Tryz.call115
   | 116,_,_=>exact Tryz.call116
   | 117,_,_=>exact Tryz.call117
   | 118,_,_=>exact Tryz.call118
   | 119,_,_=>exact Tryz.call119
   | 120,_,_=>exact Tryz.call120
   | 121,_,_=>exact Tryz.call121
   | 122,_,_=>exact Tryz.call122
   | 123,_,_=>exact Tryz.call123
   | 124,_,_=>exact Tryz.call124
   | 125,_,_=>exact Tryz.call125
   | 126,_,_=>exact Tryz.call126
   | 127,_,_=>exact Tryz.call127
   | 128,_,_=>exact Tryz.call128
   | 129,_,_=>exact Tryz.call129
   | 130,_,_=>exact Tryz.call130
   | 131,_,_=>exact Tryz.call131
   | 132,_,h=>exact absurd (show false=true from h) (by simp)
   | 133,_,_=>exact Tryz.call133
   | 134,_,_=>exact Tryz.call134
   | 135,_,h=>exact absurd (show false=true from h) (by simp)
   | 136,_,h=>exact absurd (show false=true from h) (by simp)
   | 137,_,_=>exact Tryz.call137
   | 138,_,_=>exact Tryz.call138
   | 139,_,_=>exact Tryz.call139
   | 140,_,_=>exact Tryz.call140
   | 141,_,_=>exact Tryz.call141
   | 142,_,_=>exact Tryz.call142
   | 143,_,_=>exact Tryz.call143
   | 144,_,_=>exact Tryz.call144
   | 145,_,_=>exact Tryz.call145
   | 146,_,_=>exact Tryz.call146
   | 147,_,_=>exact Tryz.call147
   | 148,_,_=>exact Tryz.call148
   | 149,_,_=>exact Tryz.call149
   | 150,_,_=>exact Tryz.call150
   | 151,_,_=>exact Tryz.call151
   | 152,_,_=>exact Tryz.call152
   | 153,_,_=>exact Tryz.call153
   | 154,_,_=>exact Tryz.call154
   | 155,_,_=>exact Tryz.call155
   | 156,_,_=>exact Tryz.call156
   | 157,_,_=>exact Tryz.call157
   | 158,_,_=>exact Tryz.call158
   | 159,_,_=>exact Tryz.call159
   | 160,_,_=>exact Tryz.call160
   | 161,_,_=>exact Tryz.call161
   | 162,_,_=>exact Tryz.call162
   | 163,_,_=>exact Tryz.call163
   | 164,_,h=>exact absurd (show false=true from h) (by simp)
   | 165,_,h=>exact absurd (show false=true from h) (by simp)
   | 166,_,_=>exact Tryz.call166
   | 167,_,_=>exact Tryz.call167
   | 168,_,_=>exact Tryz.call168
   | 169,_,_=>exact Tryz.call169
   | 170,_,_=>exact Tryz.call170
   | 171,_,_=>exact Tryz.call171
   | 172,_,_=>exact Tryz.call172
   | 173,_,_=>exact Tryz.call173
   | 174,_,_=>exact Tryz.call174
   | 175,_,_=>exact Tryz.call175
   | 176,_,_=>exact Tryz.call176
   | 177,_,_=>exact Tryz.call177
   | 178,_,_=>exact Tryz.call178
   | 179,_,_=>exact Tryz.call179
   | 180,_,_=>exact Tryz.call180
   | 181,_,_=>exact Tryz.call181
   | 182,_,_=>exact Tryz.call182
   | 183,_,_=>exact Tryz.call183
   | 184,_,_=>exact Tryz.call184
   | 185,_,_=>exact Tryz.call185
   | 186,_,_=>exact Tryz.call186
   | 187,_,_=>exact Tryz.call187
   | 188,_,_=>exact Tryz.call188
   | 189,_,_=>exact Tryz.call189
   | 190,_,h=>exact absurd (show false=true from h) (by simp)
   | 191,_,_=>exact Tryz.call191
   | 192,_,_=>exact Tryz.call192
   | 193,_,_=>exact Tryz.call193
   | 194,_,_=>exact Tryz.call194
   | 195,_,_=>exact Tryz.call195
   | 196,_,h=>exact absurd (show false=true from h) (by simp)
   | 197,_,_=>exact Tryz.call197
   | 198,_,_=>exact Tryz.call198
   | 199,_,_=>exact Tryz.call199
   | 200,_,_=>exact Tryz.call200
   | 201,_,_=>exact Tryz.call201
   | 202,_,_=>exact Tryz.call202
   | 203,_,_=>exact Tryz.call203
   | 204,_,_=>exact Tryz.call204
   | 205,_,_=>exact Tryz.call205
   | 206,_,_=>exact Tryz.call206
   | 207,_,_=>exact Tryz.call207
   | 208,_,_=>exact Tryz.call208
   | 209,_,h=>exact absurd (show false=true from h) (by simp)
   | 210,_,h=>exact absurd (show false=true from h) (by simp)
   | 211,_,h=>exact absurd (show false=true from h) (by simp)
   | 212,_,h=>exact absurd (show false=true from h) (by simp)
   | 213,_,h=>exact absurd (show false=true from h) (by simp)
   | 214,_,h=>exact absurd (show false=true from h) (by simp)
   | 215,_,h=>exact absurd (show false=true from h) (by simp)
   | 216,_,h=>exact absurd (show false=true from h) (by simp)
   | 217,_,h=>exact absurd (show false=true from h) (by simp)
   | 218,_,h=>exact absurd (show false=true from h) (by simp)
   | 219,_,h=>exact absurd (show false=true from h) (by simp)
   | 220,_,h=>exact absurd (show false=true from h) (by simp)
   | 221,_,h=>exact absurd (show false=true from h) (by simp)
   | 222,_,h=>exact absurd (show false=true from h) (by simp)
   | 223,_,h=>exact absurd (show false=true from h) (by simp)
   | 224,_,h=>exact absurd (show false=true from h) (by simp)
   | 225,_,h=>exact absurd (show false=true from h) (by simp)
   | 226,_,h=>exact absurd (show false=true from h) (by simp)
   | 227,_,h=>exact absurd (show false=true from h) (by simp)
   | 228,_,h=>exact absurd (show false=true from h) (by simp)
   | 229,_,h=>exact absurd (show false=true from h) (by simp)
   | 230,_,h=>exact absurd (show false=true from h) (by simp)
   | 231,_,h=>exact absurd (show false=true from h) (by simp)
   | 232,_,h=>exact absurd (show false=true from h) (by simp)
   | 233,_,h=>exact absurd (show false=true from h) (by simp)
   | 234,_,h=>exact absurd (show false=true from h) (by simp)
   | 235,_,h=>exact absurd (show false=true from h) (by simp)
   | 236,_,h=>exact absurd (show false=true from h) (by simp)
   | 237,_,h=>exact absurd (show false=true from h) (by simp)
   | 238,_,h=>exact absurd (show false=true from h) (by simp)
   | 239,_,h=>exact absurd (show false=true from h) (by simp)
   | 240,_,h=>exact absurd (show false=true from h) (by simp)
   | 241,_,h=>exact absurd (show false=true from h) (by simp)
   | 242,_,h=>exact absurd (show false=true from h) (by simp)
   | 243,_,h=>exact absurd (show false=true from h) (by simp)
   | 244,_,h=>exact absurd (show false=true from h) (by simp)
   | 245,_,h=>exact absurd (show false=true from h) (by simp)
   | 246,_,h=>exact absurd (show false=true from h) (by simp)
   | 247,_,h=>exact absurd (show false=true from h) (by simp)
   | 248,_,_=>exact Tryz.call248
   | 249,_,h=>exact absurd (show false=true from h) (by simp)
   | 250,_,h=>exact absurd (show false=true from h) (by simp)
   | 251,_,h=>exact absurd (show false=true from h) (by simp)
   | 252,_,h=>exact absurd (show false=true from h) (by simp)
   | 253,_,h=>exact absurd (show false=true from h) (by simp)
   | 254,_,h=>exact absurd (show false=true from h) (by simp)
   | 255,_,h=>exact absurd (show false=true from h) (by simp)
   | n+256,hlt,_=>omega
  ·have hl:fnRows.length=16:=rfl
   have:nth fnRows (g / 16)=none:=zyh1 (l:=fnRows) (i:=g / 16) (by rw [hl];omega)
   have h:fnAt g=true:=h
   unfold fnAt at h
   rw [this] at h
   cases h
 ext:=by
  intro g f h args w
  have h:extAt g=some f:=h
  unfold extAt at h
  cases e37:Nat.beq g 37 with
  | true=>
   have hg:g=37:=Nat.eq_of_beq_eq_true e37
   subst hg
   exact run_callFunc_extern Tryz.func37 (by kernel_rfl) (by kernel_rfl) (by kernel_rfl) (show _=_ from (show _=some _ by kernel_rfl:_=some _).trans h) args w
  | false=>
  simp only [e37,cond_false] at h
  cases e52:Nat.beq g 52 with
  | true=>
   have hg:g=52:=Nat.eq_of_beq_eq_true e52
   subst hg
   exact run_callFunc_extern Tryz.func52 (by kernel_rfl) (by kernel_rfl) (by kernel_rfl) (show _=_ from (show _=some _ by kernel_rfl:_=some _).trans h) args w
  | false=>
  simp only [e52,cond_false] at h
  cases e112:Nat.beq g 112 with
  | true=>
   have hg:g=112:=Nat.eq_of_beq_eq_true e112
   subst hg
   exact run_callFunc_extern Tryz.func112 (by kernel_rfl) (by kernel_rfl) (by kernel_rfl) (show _=_ from (show _=some _ by kernel_rfl:_=some _).trans h) args w
  | false=>
  simp only [e112,cond_false] at h
  cases e135:Nat.beq g 135 with
  | true=>
   have hg:g=135:=Nat.eq_of_beq_eq_true e135
   subst hg
   exact run_callFunc_extern Tryz.func135 (by kernel_rfl) (by kernel_rfl) (by kernel_rfl) (show _=_ from (show _=some _ by kernel_rfl:_=some _).trans h) args w
  | false=>
  simp only [e135,cond_false] at h
  cases e136:Nat.beq g 136 with
  | true=>
   have hg:g=136:=Nat.eq_of_beq_eq_true e136
   subst hg
   exact run_callFunc_extern Tryz.func136 (by kernel_rfl) (by kernel_rfl) (by kernel_rfl) (show _=_ from (show _=some _ by kernel_rfl:_=some _).trans h) args w
  | false=>
  simp only [e136,cond_false] at h
  cases e165:Nat.beq g 165 with
  | true=>
   have hg:g=165:=Nat.eq_of_beq_eq_true e165
   subst hg
   exact run_callFunc_extern Tryz.func165 (by kernel_rfl) (by kernel_rfl) (by kernel_rfl) (show _=_ from (show _=some _ by kernel_rfl:_=some _).trans h) args w
  | false=>
  simp only [e165,cond_false] at h
  cases e190:Nat.beq g 190 with
  | true=>
   have hg:g=190:=Nat.eq_of_beq_eq_true e190
   subst hg
   exact run_callFunc_extern Tryz.func190 (by kernel_rfl) (by kernel_rfl) (by kernel_rfl) (show _=_ from (show _=some _ by kernel_rfl:_=some _).trans h) args w
  | false=>
  simp only [e190,cond_false] at h
  cases e196:Nat.beq g 196 with
  | true=>
   have hg:g=196:=Nat.eq_of_beq_eq_true e196
   subst hg
   exact run_callFunc_extern Tryz.func196 (by kernel_rfl) (by kernel_rfl) (by kernel_rfl) (show _=_ from (show _=some _ by kernel_rfl:_=some _).trans h) args w
  | false=>
  simp only [e196,cond_false] at h
  cases h
 mixed:=by kernel_rfl
end Lf

set_option maxRecDepth 100000
namespace Lf
open Go Go.Proofs
theorem firebreaklaw07_AsmPrints_call {l Q h} (hv:zgo Tryz.prog l Q h):CallT Tryz.prog ztr [(shSl).enc l] (zae) Q h:=
 zaa (C:=⟨Tryz.prog,tb,ztt⟩) (A:=ztu) tb_ok Tryz.func6 rfl (Eq.mpr (by kernel_rfl) hv)
theorem zvj {bits Q h} (hv:zpg Tryz.prog bits Q h):CallT Tryz.prog zpf [(shInt .i64).enc bits] (shStr) Q h:=
 zaa (C:=⟨Tryz.prog,tb,zuy1⟩) (A:=zuz1) tb_ok Tryz.func11 rfl (Eq.mpr (by kernel_rfl) hv)
theorem zvk {n Q h} (hv:zji Tryz.prog n Q h):CallT Tryz.prog zow [(shInt .i64).enc n] (shStr) Q h:=
 zaa (C:=⟨Tryz.prog,tb,zyx⟩) (A:=zyy) tb_ok Tryz.func12 rfl (Eq.mpr (by kernel_rfl) hv)
theorem zld1 {text Q h} (hv:zdk1 Tryz.prog text Q h):Call2 Tryz.prog zdj1 [(shStr).enc text] (shInt .i64) (shInt .i64) Q h:=
 show CallT Tryz.prog zdj1 [(shStr).enc text] (shRes tb [2,25]) (fun r=>Q r.1 r.2) h from zaa (C:=⟨Tryz.prog,tb,zva1⟩) (A:=zvb1) tb_ok Tryz.func13 rfl (Eq.mpr (by kernel_rfl) hv)
theorem zvl {Q h} (hv:zjj Tryz.prog  Q h):CallT Tryz.prog zox [] (zae) Q h:=
 zaa (C:=⟨Tryz.prog,tb,zyz⟩) (A:=zza) tb_ok Tryz.func16 rfl (Eq.mpr (by kernel_rfl) hv)
theorem zvm {l Q h} (hv:zjk Tryz.prog l Q h):CallT Tryz.prog zoy [(shSl).enc l] (shSl) Q h:=
 zaa (C:=⟨Tryz.prog,tb,zzb⟩) (A:=zzc) tb_ok Tryz.func17 rfl (Eq.mpr (by kernel_rfl) hv)
theorem zcu1 {l Q h} (hv:zdl1 Tryz.prog l Q h):Call3 Tryz.prog zxl [(shSl).enc l] (shStr) (shInt .i64) (shInt .i64) Q h:=
 show CallT Tryz.prog zxl [(shSl).enc l] (shRes tb [9,25,3]) (fun r=>Q r.1 r.2.1 r.2.2) h from zaa (C:=⟨Tryz.prog,tb,zvc1⟩) (A:=zvd1) tb_ok Tryz.func18 rfl (Eq.mpr (by kernel_rfl) hv)
theorem zvn {l Q h} (hv:zjl Tryz.prog l Q h):Call3 Tryz.prog zjf [(shSl).enc l] (shStr) (shInt .i64) (shInt .i64) Q h:=
 show CallT Tryz.prog zjf [(shSl).enc l] (shRes tb [9,25,3]) (fun r=>Q r.1 r.2.1 r.2.2) h from zaa (C:=⟨Tryz.prog,tb,zzd⟩) (A:=zze) tb_ok Tryz.func19 rfl (Eq.mpr (by kernel_rfl) hv)
theorem zcv1 {text Q h} (hv:zdm1 Tryz.prog text Q h):Call4 Tryz.prog zxm [(shStr).enc text] (shSl) (shInt .i64) (shInt .i64) (shInt .i64) Q h:=
 show CallT Tryz.prog zxm [(shStr).enc text] (shRes tb [31,25,3,3]) (fun r=>Q r.1 r.2.1 r.2.2.1 r.2.2.2) h from zaa (C:=⟨Tryz.prog,tb,zve1⟩) (A:=zvf1) tb_ok Tryz.func20 rfl (Eq.mpr (by kernel_rfl) hv)
theorem zwr {a b Q h} (hv:zkp Tryz.prog a b Q h):CallT Tryz.prog zqf [(shSl).enc a,(shSl).enc b] (zae) Q h:=
 zaa (C:=⟨Tryz.prog,tb,zaj1⟩) (A:=zak1) tb_ok Tryz.func22 rfl (Eq.mpr (by kernel_rfl) hv)
theorem zow1 {l locks Q h} (hv:zgc1 Tryz.prog l locks Q h):Call2 Tryz.prog zga1 [(shSl).enc l,(shInt .i64).enc locks] (shInt .i64) (shInt .i64) Q h:=
 show CallT Tryz.prog zga1 [(shSl).enc l,(shInt .i64).enc locks] (shRes tb [25,3]) (fun r=>Q r.1 r.2) h from zaa (C:=⟨Tryz.prog,tb,zas2⟩) (A:=zat2) tb_ok Tryz.func23 rfl (Eq.mpr (by kernel_rfl) hv)
theorem zjq1 {x n locks Q h} (hv:zaf1 Tryz.prog x n locks Q h):CallT Tryz.prog zhb1 [(sh_api_Ins).enc x,(shInt .i64).enc n,(shInt .i64).enc locks] (shInt .i64) Q h:=
 zaa (C:=⟨Tryz.prog,tb,zrf1⟩) (A:=zrg1) tb_ok Tryz.func24 rfl (Eq.mpr (by kernel_rfl) hv)
end Lf

set_option maxRecDepth 100000
namespace Lf
open Go Go.Proofs
theorem zvo {bits Q h} (hv:zdn1 Tryz.prog bits Q h):CallT Tryz.prog zji1 [(shInt .i64).enc bits] (shFlt .f64) Q h:=
 zaa (C:=⟨Tryz.prog,tb,zvg1⟩) (A:=zvh1) tb_ok Tryz.func26 rfl (Eq.mpr (by kernel_rfl) hv)
theorem zhl1 {u Q h} (hv:zxr Tryz.prog u Q h):CallT Tryz.prog zew1 [(shInt .u64).enc u] (shStr) Q h:=
 zaa (C:=⟨Tryz.prog,tb,zok1⟩) (A:=zol1) tb_ok Tryz.func27 rfl (Eq.mpr (by kernel_rfl) hv)
theorem zja {s sep Q h} (hv:znw Tryz.prog s sep Q h):Call3 Tryz.prog zld [(shStr).enc s,(shStr).enc sep] (shStr) (shStr) (zae) Q h:=
 show CallT Tryz.prog zld [(shStr).enc s,(shStr).enc sep] (shRes tb [9,9,4]) (fun r=>Q r.1 r.2.1 r.2.2) h from zaa (C:=⟨Tryz.prog,tb,zom1⟩) (A:=zon1) tb_ok Tryz.func28 rfl (Eq.mpr (by kernel_rfl) hv)
theorem zmx {f fmt prec bitSize Q h} (hv:zeh Tryz.prog f fmt prec bitSize Q h):CallT Tryz.prog zqg [(shFlt .f64).enc f,(shInt .u8).enc fmt,(shInt .i64).enc prec,(shInt .i64).enc bitSize] (shStr) Q h:=
 zaa (C:=⟨Tryz.prog,tb,zal1⟩) (A:=zam1) tb_ok Tryz.func29 rfl (Eq.mpr (by kernel_rfl) hv)
theorem zws {s Q h} (hv:zur Tryz.prog s Q h):Call2 Tryz.prog zuo [(shStr).enc s] (shInt .i64) (zah) Q h:=
 show CallT Tryz.prog zuo [(shStr).enc s] (shRes tb [3,56]) (fun r=>Q r.1 r.2) h from zaa (C:=⟨Tryz.prog,tb,zkx1⟩) (A:=zky1) tb_ok Tryz.func30 rfl (Eq.mpr (by kernel_rfl) hv)
theorem zlf {i Q h} (hv:zpz Tryz.prog i Q h):CallT Tryz.prog zgz [(shInt .i64).enc i] (shStr) Q h:=
 zaa (C:=⟨Tryz.prog,tb,zkz1⟩) (A:=zla1) tb_ok Tryz.func31 rfl (Eq.mpr (by kernel_rfl) hv)
theorem zyi {n Q h} (hv:zlr Tryz.prog n Q h):CallT Tryz.prog zro [(shInt .u64).enc n] (shStr) Q h:=
 zaa (C:=⟨Tryz.prog,tb,zcb1⟩) (A:=zcc1) tb_ok Tryz.func32 rfl (Eq.mpr (by kernel_rfl) hv)
theorem zwt {b Q h} (hv:zgv Tryz.prog b Q h):CallT Tryz.prog zqh [(shInt .u64).enc b] (shStr) Q h:=
 zaa (C:=⟨Tryz.prog,tb,zan1⟩) (A:=zao1) tb_ok Tryz.func33 rfl (Eq.mpr (by kernel_rfl) hv)
theorem zgg {s prefix_ Q h} (hv:zml Tryz.prog s prefix_ Q h):Call2 Tryz.prog zip [(shStr).enc s,(shStr).enc prefix_] (shStr) (zae) Q h:=
 show CallT Tryz.prog zip [(shStr).enc s,(shStr).enc prefix_] (shRes tb [9,4]) (fun r=>Q r.1 r.2) h from zaa (C:=⟨Tryz.prog,tb,zdq1⟩) (A:=zdr1) tb_ok Tryz.func34 rfl (Eq.mpr (by kernel_rfl) hv)
theorem zpd {s base bitSize Q h} (hv:zfz Tryz.prog s base bitSize Q h):Call2 Tryz.prog zmk [(shStr).enc s,(shInt .i64).enc base,(shInt .i64).enc bitSize] (shInt .u64) (zah) Q h:=
 show CallT Tryz.prog zmk [(shStr).enc s,(shInt .i64).enc base,(shInt .i64).enc bitSize] (shRes tb [51,56]) (fun r=>Q r.1 r.2) h from zaa (C:=⟨Tryz.prog,tb,zds1⟩) (A:=zdt1) tb_ok Tryz.func35 rfl (Eq.mpr (by kernel_rfl) hv)
theorem zod {s bitSize Q h} (hv:zey Tryz.prog s bitSize Q h):Call2 Tryz.prog zlp [(shStr).enc s,(shInt .i64).enc bitSize] (shFlt .f64) (zah) Q h:=
 show CallT Tryz.prog zlp [(shStr).enc s,(shInt .i64).enc bitSize] (shRes tb [48,56]) (fun r=>Q r.1 r.2) h from zaa (C:=⟨Tryz.prog,tb,zcd1⟩) (A:=zce1) tb_ok Tryz.func36 rfl (Eq.mpr (by kernel_rfl) hv)
theorem zhm1 {x Q h} (hv:zxs Tryz.prog x Q h):CallT Tryz.prog zex1 [(sh_api_Ins).enc x] (shStr) Q h:=
 zaa (C:=⟨Tryz.prog,tb,zoo1⟩) (A:=zop1) tb_ok Tryz.func43 rfl (Eq.mpr (by kernel_rfl) hv)
theorem zyj {l locks Q h} (hv:zls Tryz.prog l locks Q h):Call2 Tryz.prog zlq [(shSl).enc l,(shInt .i64).enc locks] (shInt .i64) (shInt .i64) Q h:=
 show CallT Tryz.prog zlq [(shSl).enc l,(shInt .i64).enc locks] (shRes tb [25,3]) (fun r=>Q r.1 r.2) h from zaa (C:=⟨Tryz.prog,tb,zcf1⟩) (A:=zcg1) tb_ok Tryz.func45 rfl (Eq.mpr (by kernel_rfl) hv)
theorem zwu {x Q h} (hv:zkq Tryz.prog x Q h):CallT Tryz.prog zqi [(sh_api_Ins).enc x] (shStr) Q h:=
 zaa (C:=⟨Tryz.prog,tb,zap1⟩) (A:=zaq1) tb_ok Tryz.func46 rfl (Eq.mpr (by kernel_rfl) hv)
theorem zea1 {r n Q h} (hv:zqy Tryz.prog r n Q h):CallT Tryz.prog zys [(shPtr).enc r,(shInt .i64).enc n] (sh_api_Ins) Q h:=
 zaa (C:=⟨Tryz.prog,tb,zhh1⟩) (A:=zhi1) tb_ok Tryz.func48 rfl (Eq.mpr (by kernel_rfl) hv)
theorem zdi {r e at_ Q h} (hv:zph Tryz.prog r e at_ Q h):Call0 Tryz.prog zav [(shPtr).enc r,(shInt .i64).enc e,(shInt .i64).enc at_] (Q) h:=
 show CallT Tryz.prog zav [(shPtr).enc r,(shInt .i64).enc e,(shInt .i64).enc at_] (shRes tb []) (fun _=>Q) h from zaa (C:=⟨Tryz.prog,tb,zgf1⟩) (A:=zgg1) tb_ok Tryz.func49 rfl (Eq.mpr (by kernel_rfl) hv)
end Lf

set_option maxRecDepth 100000
namespace Lf
open Go Go.Proofs
theorem zjr1 {x n locks Q h} (hv:zag1 Tryz.prog x n locks Q h):Call2 Tryz.prog zad1 [(sh_api_Ins).enc x,(shInt .i64).enc n,(shInt .i64).enc locks] (shInt .i64) (shInt .i64) Q h:=
 show CallT Tryz.prog zad1 [(sh_api_Ins).enc x,(shInt .i64).enc n,(shInt .i64).enc locks] (shRes tb [25,3]) (fun r=>Q r.1 r.2) h from zaa (C:=⟨Tryz.prog,tb,zrh1⟩) (A:=zri1) tb_ok Tryz.func51 rfl (Eq.mpr (by kernel_rfl) hv)
theorem zyk {i base Q h} (hv:zrs Tryz.prog i base Q h):CallT Tryz.prog zrp [(shInt .u64).enc i,(shInt .i64).enc base] (shStr) Q h:=
 zaa (C:=⟨Tryz.prog,tb,zch1⟩) (A:=zci1) tb_ok Tryz.func53 rfl (Eq.mpr (by kernel_rfl) hv)
theorem zeb1 {s count Q h} (hv:zyu Tryz.prog s count Q h):CallT Tryz.prog zyt [(shStr).enc s,(shInt .i64).enc count] (shStr) Q h:=
 zaa (C:=⟨Tryz.prog,tb,zhj1⟩) (A:=zhk1) tb_ok Tryz.func54 rfl (Eq.mpr (by kernel_rfl) hv)
theorem zjb {s sep Q h} (hv:zgp Tryz.prog s sep Q h):Call3 Tryz.prog zgl [(shStr).enc s,(shStr).enc sep] (shStr) (shStr) (zae) Q h:=
 show CallT Tryz.prog zgl [(shStr).enc s,(shStr).enc sep] (shRes tb [9,9,4]) (fun r=>Q r.1 r.2.1 r.2.2) h from zaa (C:=⟨Tryz.prog,tb,ztv⟩) (A:=ztw) tb_ok Tryz.func55 rfl (Eq.mpr (by kernel_rfl) hv)
theorem zgw {f fmt prec bitSize Q h} (hv:zei Tryz.prog f fmt prec bitSize Q h):CallT Tryz.prog zil [(shFlt .f64).enc f,(shInt .u8).enc fmt,(shInt .i64).enc prec,(shInt .i64).enc bitSize] (shStr) Q h:=
 zaa (C:=⟨Tryz.prog,tb,zqk⟩) (A:=zql) tb_ok Tryz.func56 rfl (Eq.mpr (by kernel_rfl) hv)
theorem zub {s Q h} (hv:znx Tryz.prog s Q h):Call2 Tryz.prog ziq [(shStr).enc s] (shInt .i64) (zah) Q h:=
 show CallT Tryz.prog ziq [(shStr).enc s] (shRes tb [3,56]) (fun r=>Q r.1 r.2) h from zaa (C:=⟨Tryz.prog,tb,zxw⟩) (A:=zxx) tb_ok Tryz.func57 rfl (Eq.mpr (by kernel_rfl) hv)
theorem zuc {i Q h} (hv:zny Tryz.prog i Q h):CallT Tryz.prog znr [(shInt .i64).enc i] (shStr) Q h:=
 zaa (C:=⟨Tryz.prog,tb,zxy⟩) (A:=zxz) tb_ok Tryz.func59 rfl (Eq.mpr (by kernel_rfl) hv)
theorem zud {b Q h} (hv:zis Tryz.prog b Q h):Call2 Tryz.prog zir [(shInt .u64).enc b] (shInt .u64) (shInt .i64) Q h:=
 show CallT Tryz.prog zir [(shInt .u64).enc b] (shRes tb [51,3]) (fun r=>Q r.1 r.2) h from zaa (C:=⟨Tryz.prog,tb,zya⟩) (A:=zyb) tb_ok Tryz.func60 rfl (Eq.mpr (by kernel_rfl) hv)
theorem zdp {n Q h} (hv:zit Tryz.prog n Q h):CallT Tryz.prog zdf [(shInt .u64).enc n] (shStr) Q h:=
 zaa (C:=⟨Tryz.prog,tb,zyc⟩) (A:=zyd) tb_ok Tryz.func61 rfl (Eq.mpr (by kernel_rfl) hv)
theorem zms {s prefix_ Q h} (hv:zhi Tryz.prog s prefix_ Q h):Call2 Tryz.prog zdj [(shStr).enc s,(shStr).enc prefix_] (shStr) (zae) Q h:=
 show CallT Tryz.prog zdj [(shStr).enc s,(shStr).enc prefix_] (shRes tb [9,4]) (fun r=>Q r.1 r.2) h from zaa (C:=⟨Tryz.prog,tb,zoi⟩) (A:=zoj) tb_ok Tryz.func62 rfl (Eq.mpr (by kernel_rfl) hv)
theorem zib {s base bitSize Q h} (hv:zby Tryz.prog s base bitSize Q h):Call2 Tryz.prog zfc [(shStr).enc s,(shInt .i64).enc base,(shInt .i64).enc bitSize] (shInt .u64) (zah) Q h:=
 show CallT Tryz.prog zfc [(shStr).enc s,(shInt .i64).enc base,(shInt .i64).enc bitSize] (shRes tb [51,56]) (fun r=>Q r.1 r.2) h from zaa (C:=⟨Tryz.prog,tb,zrv⟩) (A:=zrw) tb_ok Tryz.func63 rfl (Eq.mpr (by kernel_rfl) hv)
theorem zhk {s bitSize Q h} (hv:zet Tryz.prog s bitSize Q h):Call2 Tryz.prog zes [(shStr).enc s,(shInt .i64).enc bitSize] (shFlt .f64) (zah) Q h:=
 show CallT Tryz.prog zes [(shStr).enc s,(shInt .i64).enc bitSize] (shRes tb [48,56]) (fun r=>Q r.1 r.2) h from zaa (C:=⟨Tryz.prog,tb,zrb⟩) (A:=zrc) tb_ok Tryz.func64 rfl (Eq.mpr (by kernel_rfl) hv)
theorem zmy {b c s Q h} (hv:zkr Tryz.prog b c s Q h):CallT Tryz.prog zkj [(shInt .u64).enc b,(shInt .u64).enc c,(shInt .i64).enc s] (shInt .i64) Q h:=
 zaa (C:=⟨Tryz.prog,tb,zar1⟩) (A:=zas1) tb_ok Tryz.func65 rfl (Eq.mpr (by kernel_rfl) hv)
theorem zfe1 {op Q h} (hv:zgd1 Tryz.prog op Q h):CallT Tryz.prog zgb1 [(shInt .i64).enc op] (shStr) Q h:=
 zaa (C:=⟨Tryz.prog,tb,zau2⟩) (A:=zav2) tb_ok Tryz.func69 rfl (Eq.mpr (by kernel_rfl) hv)
theorem zrj {op Q h} (hv:zxt Tryz.prog op Q h):Call4 Tryz.prog zns [(shInt .i64).enc op] (zae) (zae) (zae) (zae) Q h:=
 show CallT Tryz.prog zns [(shInt .i64).enc op] (shRes tb [4,4,4,4]) (fun r=>Q r.1 r.2.1 r.2.2.1 r.2.2.2) h from zaa (C:=⟨Tryz.prog,tb,zoq1⟩) (A:=zor1) tb_ok Tryz.func70 rfl (Eq.mpr (by kernel_rfl) hv)
theorem zlg {n Q h} (hv:zus Tryz.prog n Q h):CallT Tryz.prog zlz [(shInt .i64).enc n] (shStr) Q h:=
 zaa (C:=⟨Tryz.prog,tb,zlb1⟩) (A:=zlc1) tb_ok Tryz.func71 rfl (Eq.mpr (by kernel_rfl) hv)
theorem zjs1 {x Q h} (hv:zah1 Tryz.prog x Q h):CallT Tryz.prog zhc1 [(sh_api_Ins).enc x] (shStr) Q h:=
 zaa (C:=⟨Tryz.prog,tb,zrj1⟩) (A:=zrk1) tb_ok Tryz.func72 rfl (Eq.mpr (by kernel_rfl) hv)
theorem zox1 {words Q h} (hv:zge1 Tryz.prog words Q h):CallT Tryz.prog zmi1 [(shSl).enc words] (shStr) Q h:=
 zaa (C:=⟨Tryz.prog,tb,zaw2⟩) (A:=zax2) tb_ok Tryz.func73 rfl (Eq.mpr (by kernel_rfl) hv)
theorem zvp {x n locks Q h} (hv:zjm Tryz.prog x n locks Q h):CallT Tryz.prog zoz [(sh_api_Ins).enc x,(shInt .i64).enc n,(shInt .i64).enc locks] (shInt .i64) Q h:=
 zaa (C:=⟨Tryz.prog,tb,zzf⟩) (A:=zzg) tb_ok Tryz.func74 rfl (Eq.mpr (by kernel_rfl) hv)
end Lf

set_option maxRecDepth 100000
namespace Lf
open Go Go.Proofs
theorem zwv {op Q h} (hv:zks Tryz.prog op Q h):CallT Tryz.prog zqj [(shInt .i64).enc op] (shStr) Q h:=
 zaa (C:=⟨Tryz.prog,tb,zat1⟩) (A:=zau1) tb_ok Tryz.func75 rfl (Eq.mpr (by kernel_rfl) hv)
theorem zll {op Q h} (hv:ziu Tryz.prog op Q h):Call4 Tryz.prog zfd [(shInt .i64).enc op] (zae) (zae) (zae) (zae) Q h:=
 show CallT Tryz.prog zfd [(shInt .i64).enc op] (shRes tb [4,4,4,4]) (fun r=>Q r.1 r.2.1 r.2.2.1 r.2.2.2) h from zaa (C:=⟨Tryz.prog,tb,zye⟩) (A:=zyf) tb_ok Tryz.func76 rfl (Eq.mpr (by kernel_rfl) hv)
theorem zyl {x Q h} (hv:zlt Tryz.prog x Q h):CallT Tryz.prog zrq [(sh_api_Ins).enc x] (shStr) Q h:=
 zaa (C:=⟨Tryz.prog,tb,zcj1⟩) (A:=zck1) tb_ok Tryz.func77 rfl (Eq.mpr (by kernel_rfl) hv)
theorem zvm1 {s Q h} (hv:zoj1 Tryz.prog s Q h):Call2 Tryz.prog zoi1 [(shStr).enc s] (shInt .i64) (zae) Q h:=
 show CallT Tryz.prog zoi1 [(shStr).enc s] (shRes tb [3,4]) (fun r=>Q r.1 r.2) h from zaa (C:=⟨Tryz.prog,tb,ziv2⟩) (A:=ziw2) tb_ok Tryz.func81 rfl (Eq.mpr (by kernel_rfl) hv)
theorem zic {r has Q h} (hv:zkt Tryz.prog r has Q h):CallT Tryz.prog zgs [(shPtr).enc r,(zae).enc has] (shInt .i64) Q h:=
 zaa (C:=⟨Tryz.prog,tb,zav1⟩) (A:=zaw1) tb_ok Tryz.func82 rfl (Eq.mpr (by kernel_rfl) hv)
theorem zzv {r op n Q h} (hv:zmm Tryz.prog r op n Q h):CallT Tryz.prog ztf [(shPtr).enc r,(shInt .i64).enc op,(shInt .i64).enc n] (shInt .i64) Q h:=
 zaa (C:=⟨Tryz.prog,tb,zdu1⟩) (A:=zdv1) tb_ok Tryz.func83 rfl (Eq.mpr (by kernel_rfl) hv)
theorem zoe {has n Q h} (hv:ztg Tryz.prog has n Q h):CallT Tryz.prog znt [(zae).enc has,(shInt .i64).enc n] (shInt .i64) Q h:=
 zaa (C:=⟨Tryz.prog,tb,zjm1⟩) (A:=zjn1) tb_ok Tryz.func88 rfl (Eq.mpr (by kernel_rfl) hv)
theorem zhn1 {x has n locks Q h} (hv:zxu Tryz.prog x has n locks Q h):CallT Tryz.prog zey1 [(sh_api_Ins).enc x,(zae).enc has,(shInt .i64).enc n,(shInt .i64).enc locks] (shInt .i64) Q h:=
 zaa (C:=⟨Tryz.prog,tb,zos1⟩) (A:=zot1) tb_ok Tryz.func89 rfl (Eq.mpr (by kernel_rfl) hv)
theorem zos {i base Q h} (hv:ziz Tryz.prog i base Q h):CallT Tryz.prog ziy [(shInt .u64).enc i,(shInt .i64).enc base] (shStr) Q h:=
 zaa (C:=⟨Tryz.prog,tb,zrd⟩) (A:=zre) tb_ok Tryz.func90 rfl (Eq.mpr (by kernel_rfl) hv)
theorem zid {s substr Q h} (hv:zfj Tryz.prog s substr Q h):CallT Tryz.prog zju [(shStr).enc s,(shStr).enc substr] (shInt .i64) Q h:=
 zaa (C:=⟨Tryz.prog,tb,zrx⟩) (A:=zry) tb_ok Tryz.func95 rfl (Eq.mpr (by kernel_rfl) hv)
theorem zjw {dst val fmt prec Q h} (hv:zea Tryz.prog dst val fmt prec Q h):CallT Tryz.prog zma [(shSl).enc dst,(shFlt .f64).enc val,(shInt .u8).enc fmt,(shInt .i64).enc prec] (shSl) Q h:=
 zaa (C:=⟨Tryz.prog,tb,zut⟩) (A:=zuu) tb_ok Tryz.func97 rfl (Eq.mpr (by kernel_rfl) hv)
theorem zie {i base Q h} (hv:zfk Tryz.prog i base Q h):CallT Tryz.prog zfe [(shInt .i64).enc i,(shInt .i64).enc base] (shStr) Q h:=
 zaa (C:=⟨Tryz.prog,tb,zrz⟩) (A:=zsa) tb_ok Tryz.func103 rfl (Eq.mpr (by kernel_rfl) hv)
theorem zym {b Q h} (hv:zlu Tryz.prog b Q h):CallT Tryz.prog zrr [(shInt .u64).enc b] (shInt .i64) Q h:=
 zaa (C:=⟨Tryz.prog,tb,zcl1⟩) (A:=zcm1) tb_ok Tryz.func104 rfl (Eq.mpr (by kernel_rfl) hv)
theorem zvq {b s Q h} (hv:zjn Tryz.prog b s Q h):Call2 Tryz.prog zjg [(shInt .u64).enc b,(shInt .i64).enc s] (shInt .u64) (shInt .i64) Q h:=
 show CallT Tryz.prog zjg [(shInt .u64).enc b,(shInt .i64).enc s] (shRes tb [51,3]) (fun r=>Q r.1 r.2) h from zaa (C:=⟨Tryz.prog,tb,zzh⟩) (A:=zzi) tb_ok Tryz.func105 rfl (Eq.mpr (by kernel_rfl) hv)
end Lf

set_option maxRecDepth 100000
namespace Lf
open Go Go.Proofs
theorem zmt {s prefix_ Q h} (hv:zhj Tryz.prog s prefix_ Q h):CallT Tryz.prog zhg [(shStr).enc s,(shStr).enc prefix_] (zae) Q h:=
 zaa (C:=⟨Tryz.prog,tb,zok⟩) (A:=zol) tb_ok Tryz.func106 rfl (Eq.mpr (by kernel_rfl) hv)
theorem zau {c Q h} (hv:zhv Tryz.prog c Q h):CallT Tryz.prog zaf [(shInt .u8).enc c] (shInt .u8) Q h:=
 zaa (C:=⟨Tryz.prog,tb,zwh⟩) (A:=zwi) tb_ok Tryz.func107 rfl (Eq.mpr (by kernel_rfl) hv)
theorem zni {s Q h} (hv:zdt Tryz.prog s Q h):CallT Tryz.prog zds [(shStr).enc s] (zae) Q h:=
 zaa (C:=⟨Tryz.prog,tb,zpk⟩) (A:=zpl) tb_ok Tryz.func108 rfl (Eq.mpr (by kernel_rfl) hv)
theorem zeq {s bitSize Q h} (hv:zcs Tryz.prog s bitSize Q h):Call3 Tryz.prog zcr [(shStr).enc s,(shInt .i64).enc bitSize] (shFlt .f64) (shInt .i64) (zah) Q h:=
 show CallT Tryz.prog zcr [(shStr).enc s,(shInt .i64).enc bitSize] (shRes tb [48,3,56]) (fun r=>Q r.1 r.2.1 r.2.2) h from zaa (C:=⟨Tryz.prog,tb,zmo⟩) (A:=zmp) tb_ok Tryz.func109 rfl (Eq.mpr (by kernel_rfl) hv)
theorem zhf {b Q h} (hv:zjo Tryz.prog b Q h):Call2 Tryz.prog zdq [(shInt .u64).enc b] (shInt .u64) (shInt .i64) Q h:=
 show CallT Tryz.prog zdq [(shInt .u64).enc b] (shRes tb [51,3]) (fun r=>Q r.1 r.2) h from zaa (C:=⟨Tryz.prog,tb,zzj⟩) (A:=zzk) tb_ok Tryz.func110 rfl (Eq.mpr (by kernel_rfl) hv)
theorem zga {c s l k Q h} (hv:zhw Tryz.prog c s l k Q h):CallT Tryz.prog zep [(shInt .u64).enc c,(shInt .i64).enc s,(shInt .u64).enc l,(shInt .i64).enc k] (shInt .i64) Q h:=
 zaa (C:=⟨Tryz.prog,tb,zwj⟩) (A:=zwk) tb_ok Tryz.func111 rfl (Eq.mpr (by kernel_rfl) hv)
theorem zho1 {op Q h} (hv:zxv Tryz.prog op Q h):CallT Tryz.prog zez1 [(shInt .i64).enc op] (shStr) Q h:=
 zaa (C:=⟨Tryz.prog,tb,zou1⟩) (A:=zov1) tb_ok Tryz.func113 rfl (Eq.mpr (by kernel_rfl) hv)
theorem zff1 {field a1 Q h} (hv:zai1 Tryz.prog field a1 Q h):CallT Tryz.prog zae1 [(shStr).enc field,.pointer (some a1)] (zae) Q h:=
 zaa (C:=⟨Tryz.prog,tb,zjo1⟩) (A:=zjp1) tb_ok Tryz.func114 rfl (Eq.mpr (by kernel_rfl) hv)
theorem zvr {n Q h} (hv:zdo1 Tryz.prog n Q h):CallT Tryz.prog zxn [(shInt .i64).enc n] (zae) Q h:=
 zaa (C:=⟨Tryz.prog,tb,zvi1⟩) (A:=zvj1) tb_ok Tryz.func116 rfl (Eq.mpr (by kernel_rfl) hv)
theorem zjt {i base Q h} (hv:zmn Tryz.prog i base Q h):CallT Tryz.prog zfw [(shInt .i64).enc i,(shInt .i64).enc base] (shStr) Q h:=
 zaa (C:=⟨Tryz.prog,tb,zdw1⟩) (A:=zdx1) tb_ok Tryz.func117 rfl (Eq.mpr (by kernel_rfl) hv)
theorem zvs {x n locks Q h} (hv:zjp Tryz.prog x n locks Q h):Call2 Tryz.prog zjh [(sh_api_Ins).enc x,(shInt .i64).enc n,(shInt .i64).enc locks] (shInt .i64) (shInt .i64) Q h:=
 show CallT Tryz.prog zjh [(sh_api_Ins).enc x,(shInt .i64).enc n,(shInt .i64).enc locks] (shRes tb [25,3]) (fun r=>Q r.1 r.2) h from zaa (C:=⟨Tryz.prog,tb,zzl⟩) (A:=zzm) tb_ok Tryz.func119 rfl (Eq.mpr (by kernel_rfl) hv)
theorem zqq {r Q h} (hv:znz Tryz.prog r Q h):Call3 Tryz.prog zjv [(shPtr).enc r] (shStr) (shInt .i64) (zae) Q h:=
 show CallT Tryz.prog zjv [(shPtr).enc r] (shRes tb [9,3,4]) (fun r=>Q r.1 r.2.1 r.2.2) h from zaa (C:=⟨Tryz.prog,tb,zfa1⟩) (A:=zfb1) tb_ok Tryz.func120 rfl (Eq.mpr (by kernel_rfl) hv)
theorem zcw1 {text Q h} (hv:zdp1 Tryz.prog text Q h):Call2 Tryz.prog zxo [(shStr).enc text] (shInt .i64) (zae) Q h:=
 show CallT Tryz.prog zxo [(shStr).enc text] (shRes tb [2,4]) (fun r=>Q r.1 r.2) h from zaa (C:=⟨Tryz.prog,tb,zvk1⟩) (A:=zvl1) tb_ok Tryz.func121 rfl (Eq.mpr (by kernel_rfl) hv)
theorem zrl1 {text Q h} (hv:zjl1 Tryz.prog text Q h):Call2 Tryz.prog zjk1 [(shStr).enc text] (shInt .i64) (zae) Q h:=
 show CallT Tryz.prog zjk1 [(shStr).enc text] (shRes tb [2,4]) (fun r=>Q r.1 r.2) h from zaa (C:=⟨Tryz.prog,tb,zeh2⟩) (A:=zei2) tb_ok Tryz.func122 rfl (Eq.mpr (by kernel_rfl) hv)
theorem ztl {i Q h} (hv:zhx Tryz.prog i Q h):CallT Tryz.prog zhs [(shInt .i64).enc i] (shStr) Q h:=
 zaa (C:=⟨Tryz.prog,tb,zwl⟩) (A:=zwm) tb_ok Tryz.func124 rfl (Eq.mpr (by kernel_rfl) hv)
theorem zif {d Q h} (hv:zfl Tryz.prog d Q h):CallT Tryz.prog zbx [(shInt .u64).enc d] (shInt .i64) Q h:=
 zaa (C:=⟨Tryz.prog,tb,zsb⟩) (A:=zsc) tb_ok Tryz.func125 rfl (Eq.mpr (by kernel_rfl) hv)
theorem zgj {a u Q h} (hv:zdu Tryz.prog a u Q h):Call0 Tryz.prog zbj [(shSl).enc a,(shInt .u64).enc u] (Q) h:=
 show CallT Tryz.prog zbj [(shSl).enc a,(shInt .u64).enc u] (shRes tb []) (fun _=>Q) h from zaa (C:=⟨Tryz.prog,tb,zpm⟩) (A:=zpn) tb_ok Tryz.func126 rfl (Eq.mpr (by kernel_rfl) hv)
theorem zot {dst u base neg append_ Q h} (hv:zeu Tryz.prog dst u base neg append_ Q h):Call2 Tryz.prog zco [(shSl).enc dst,(shInt .u64).enc u,(shInt .i64).enc base,(zae).enc neg,(zae).enc append_] (shSl) (shStr) Q h:=
 show CallT Tryz.prog zco [(shSl).enc dst,(shInt .u64).enc u,(shInt .i64).enc base,(zae).enc neg,(zae).enc append_] (shRes tb [74,9]) (fun r=>Q r.1 r.2) h from zaa (C:=⟨Tryz.prog,tb,zrf⟩) (A:=zrg) tb_ok Tryz.func127 rfl (Eq.mpr (by kernel_rfl) hv)
theorem zhl {x y Q h} (hv:zpi Tryz.prog x y Q h):Call2 Tryz.prog zle [(shInt .u64).enc x,(shInt .u64).enc y] (shInt .u64) (shInt .u64) Q h:=
 show CallT Tryz.prog zle [(shInt .u64).enc x,(shInt .u64).enc y] (shRes tb [51,51]) (fun r=>Q r.1 r.2) h from zaa (C:=⟨Tryz.prog,tb,zgh1⟩) (A:=zgi1) tb_ok Tryz.func129 rfl (Eq.mpr (by kernel_rfl) hv)
end Lf

set_option maxRecDepth 100000
namespace Lf
open Go Go.Proofs
theorem zgb {s c Q h} (hv:zdm Tryz.prog s c Q h):CallT Tryz.prog zdk [(shStr).enc s,(shInt .u8).enc c] (shInt .i64) Q h:=
 zaa (C:=⟨Tryz.prog,tb,zom⟩) (A:=zon) tb_ok Tryz.func131 rfl (Eq.mpr (by kernel_rfl) hv)
theorem zjx {dst neg s dp nd prec fmt shortest Q h} (hv:zcj Tryz.prog dst neg s dp nd prec fmt shortest Q h):CallT Tryz.prog zci [(shSl).enc dst,(zae).enc neg,(shSl).enc s,(shInt .i64).enc dp,(shInt .i64).enc nd,(shInt .i64).enc prec,(shInt .u8).enc fmt,(zae).enc shortest] (shSl) Q h:=
 zaa (C:=⟨Tryz.prog,tb,zuv⟩) (A:=zuw) tb_ok Tryz.func139 rfl (Eq.mpr (by kernel_rfl) hv)
theorem zhm {x Q h} (hv:zpj Tryz.prog x Q h):CallT Tryz.prog zht [(shInt .u64).enc x] (shInt .i64) Q h:=
 zaa (C:=⟨Tryz.prog,tb,zgj1⟩) (A:=zgk1) tb_ok Tryz.func140 rfl (Eq.mpr (by kernel_rfl) hv)
theorem zpu {s d p nd Q h} (hv:zfm Tryz.prog s d p nd Q h):Call2 Tryz.prog zcw [(shSl).enc s,(shInt .u64).enc d,(shInt .i64).enc p,(shInt .i64).enc nd] (shInt .i64) (shInt .i64) Q h:=
 show CallT Tryz.prog zcw [(shSl).enc s,(shInt .u64).enc d,(shInt .i64).enc p,(shInt .i64).enc nd] (shRes tb [3,3]) (fun r=>Q r.1 r.2) h from zaa (C:=⟨Tryz.prog,tb,zsd⟩) (A:=zse) tb_ok Tryz.func142 rfl (Eq.mpr (by kernel_rfl) hv)
theorem zdv {x Q h} (hv:zfn Tryz.prog x Q h):CallT Tryz.prog zbc [(shInt .i64).enc x] (shInt .i64) Q h:=
 zaa (C:=⟨Tryz.prog,tb,zsf⟩) (A:=zsg) tb_ok Tryz.func143 rfl (Eq.mpr (by kernel_rfl) hv)
theorem zbs {a k Q h} (hv:zas Tryz.prog a k Q h):Call0 Tryz.prog zar [(shPtr).enc a,(shInt .i64).enc k] (Q) h:=
 show CallT Tryz.prog zar [(shPtr).enc a,(shInt .i64).enc k] (shRes tb []) (fun _=>Q) h from zaa (C:=⟨Tryz.prog,tb,zoo⟩) (A:=zop) tb_ok Tryz.func146 rfl (Eq.mpr (by kernel_rfl) hv)
theorem zke {m e Q h} (hv:zcf Tryz.prog m e Q h):Call2 Tryz.prog zce [(shInt .u64).enc m,(shInt .i64).enc e] (shInt .u64) (shInt .i64) Q h:=
 show CallT Tryz.prog zce [(shInt .u64).enc m,(shInt .i64).enc e] (shRes tb [51,3]) (fun r=>Q r.1 r.2) h from zaa (C:=⟨Tryz.prog,tb,zlv⟩) (A:=zlw) tb_ok Tryz.func148 rfl (Eq.mpr (by kernel_rfl) hv)
theorem zgh {x Q h} (hv:ziv Tryz.prog x Q h):CallT Tryz.prog zfx [(shInt .u64).enc x] (shSl) Q h:=
 zaa (C:=⟨Tryz.prog,tb,zdy1⟩) (A:=zdz1) tb_ok Tryz.func151 rfl (Eq.mpr (by kernel_rfl) hv)
theorem zcn {a n Q h} (hv:zge Tryz.prog a n Q h):CallT Tryz.prog zbv [(shSl).enc a,(shInt .i64).enc n] (shSl) Q h:=
 zaa (C:=⟨Tryz.prog,tb,zzn⟩) (A:=zzo) tb_ok Tryz.func152 rfl (Eq.mpr (by kernel_rfl) hv)
theorem zer {a n Q h} (hv:zku Tryz.prog a n Q h):CallT Tryz.prog zee [(shSl).enc a,(shInt .i64).enc n] (shSl) Q h:=
 zaa (C:=⟨Tryz.prog,tb,zax1⟩) (A:=zay1) tb_ok Tryz.func153 rfl (Eq.mpr (by kernel_rfl) hv)
theorem zgc {a b Q h} (hv:zhy Tryz.prog a b Q h):CallT Tryz.prog zbz [(shSl).enc a,(shSl).enc b] (shInt .i64) Q h:=
 zaa (C:=⟨Tryz.prog,tb,zwn⟩) (A:=zwo) tb_ok Tryz.func154 rfl (Eq.mpr (by kernel_rfl) hv)
theorem zww {a b Q h} (hv:zkv Tryz.prog a b Q h):CallT Tryz.prog zkn [(shSl).enc a,(shSl).enc b] (shSl) Q h:=
 zaa (C:=⟨Tryz.prog,tb,zaz1⟩) (A:=zba1) tb_ok Tryz.func155 rfl (Eq.mpr (by kernel_rfl) hv)
theorem zeb {a m Q h} (hv:zgf Tryz.prog a m Q h):CallT Tryz.prog zch [(shSl).enc a,(shInt .u32).enc m] (shSl) Q h:=
 zaa (C:=⟨Tryz.prog,tb,zzp⟩) (A:=zzq) tb_ok Tryz.func156 rfl (Eq.mpr (by kernel_rfl) hv)
theorem zjy {s Q h} (hv:zam Tryz.prog s Q h):Call3 Tryz.prog zha [(shStr).enc s] (shFlt .f64) (shInt .i64) (zah) Q h:=
 show CallT Tryz.prog zha [(shStr).enc s] (shRes tb [48,3,56]) (fun r=>Q r.1 r.2.1 r.2.2) h from zaa (C:=⟨Tryz.prog,tb,zux⟩) (A:=zuy) tb_ok Tryz.func158 rfl (Eq.mpr (by kernel_rfl) hv)
theorem zfr {n has Q h} (hv:zhc Tryz.prog n has Q h):CallT Tryz.prog zdz [(shInt .i64).enc n,(zae).enc has] (shInt .i64) Q h:=
 zaa (C:=⟨Tryz.prog,tb,zuz⟩) (A:=zva) tb_ok Tryz.func159 rfl (Eq.mpr (by kernel_rfl) hv)
theorem zbd1 {s base bitSize Q h} (hv:zoa Tryz.prog s base bitSize Q h):Call2 Tryz.prog znv [(shStr).enc s,(shInt .i64).enc base,(shInt .i64).enc bitSize] (shInt .i64) (zah) Q h:=
 show CallT Tryz.prog znv [(shStr).enc s,(shInt .i64).enc base,(shInt .i64).enc bitSize] (shRes tb [2,56]) (fun r=>Q r.1 r.2) h from zaa (C:=⟨Tryz.prog,tb,zfc1⟩) (A:=zfd1) tb_ok Tryz.func160 rfl (Eq.mpr (by kernel_rfl) hv)
theorem zdw {b Q h} (hv:zfo Tryz.prog b Q h):CallT Tryz.prog zff [(zae).enc b] (shInt .i64) Q h:=
 zaa (C:=⟨Tryz.prog,tb,zsh⟩) (A:=zsi) tb_ok Tryz.func161 rfl (Eq.mpr (by kernel_rfl) hv)
theorem znj {x Q h} (hv:zhz Tryz.prog x Q h):CallT Tryz.prog zhu [(shInt .i64).enc x] (zae) Q h:=
 zaa (C:=⟨Tryz.prog,tb,zpo⟩) (A:=zpp) tb_ok Tryz.func162 rfl (Eq.mpr (by kernel_rfl) hv)
theorem zsp {x Q h} (hv:zhd Tryz.prog x Q h):CallT Tryz.prog zmb [(shInt .u64).enc x] (shInt .i64) Q h:=
 zaa (C:=⟨Tryz.prog,tb,zvb⟩) (A:=zvc) tb_ok Tryz.func163 rfl (Eq.mpr (by kernel_rfl) hv)
end Lf

set_option maxRecDepth 100000
namespace Lf
open Go Go.Proofs
theorem zsq {e Q h} (hv:zhe Tryz.prog e Q h):CallT Tryz.prog zmc [(shInt .i64).enc e] (shInt .i64) Q h:=
 zaa (C:=⟨Tryz.prog,tb,zvd⟩) (A:=zve) tb_ok Tryz.func169 rfl (Eq.mpr (by kernel_rfl) hv)
theorem zel {pre e p lp Q h} (hv:zca Tryz.prog pre e p lp Q h):Call0 Tryz.prog zdg [(shPtr).enc pre,(shInt .i64).enc e,(shInt .i64).enc p,(shInt .i64).enc lp] (Q) h:=
 show CallT Tryz.prog zdg [(shPtr).enc pre,(shInt .i64).enc e,(shInt .i64).enc p,(shInt .i64).enc lp] (shRes tb []) (fun _=>Q) h from zaa (C:=⟨Tryz.prog,tb,zth⟩) (A:=zti) tb_ok Tryz.func170 rfl (Eq.mpr (by kernel_rfl) hv)
theorem zdx {x Q h} (hv:zfp Tryz.prog x Q h):CallT Tryz.prog zfg [(shInt .i64).enc x] (shInt .i64) Q h:=
 zaa (C:=⟨Tryz.prog,tb,zsj⟩) (A:=zsk) tb_ok Tryz.func171 rfl (Eq.mpr (by kernel_rfl) hv)
theorem zfs {x c Q h} (hv:zck Tryz.prog x c Q h):CallT Tryz.prog zbu [(shInt .u64).enc x,(shPtr).enc c] (shInt .u64) Q h:=
 zaa (C:=⟨Tryz.prog,tb,zvf⟩) (A:=zvg) tb_ok Tryz.func172 rfl (Eq.mpr (by kernel_rfl) hv)
theorem zez {u x Q h} (hv:zdb Tryz.prog u x Q h):CallT Tryz.prog zcz [(shInt .u64).enc u,(shInt .i64).enc x] (shInt .u64) Q h:=
 zaa (C:=⟨Tryz.prog,tb,znc⟩) (A:=znd) tb_ok Tryz.func173 rfl (Eq.mpr (by kernel_rfl) hv)
theorem zmf {u Q h} (hv:zdh Tryz.prog u Q h):CallT Tryz.prog zgt [(shInt .u64).enc u] (shInt .u64) Q h:=
 zaa (C:=⟨Tryz.prog,tb,zob⟩) (A:=zoc) tb_ok Tryz.func174 rfl (Eq.mpr (by kernel_rfl) hv)
theorem zlx {u Q h} (hv:zdc Tryz.prog u Q h):CallT Tryz.prog zgi [(shInt .u64).enc u] (shInt .u64) Q h:=
 zaa (C:=⟨Tryz.prog,tb,zne⟩) (A:=znf) tb_ok Tryz.func175 rfl (Eq.mpr (by kernel_rfl) hv)
theorem zbg {u Q h} (hv:zdd Tryz.prog u Q h):CallT Tryz.prog zda [(shInt .u64).enc u] (shInt .u64) Q h:=
 zaa (C:=⟨Tryz.prog,tb,zng⟩) (A:=znh) tb_ok Tryz.func176 rfl (Eq.mpr (by kernel_rfl) hv)
theorem zky {x Q h} (hv:zia Tryz.prog x Q h):CallT Tryz.prog zmw [(shInt .u64).enc x] (shInt .u64) Q h:=
 zaa (C:=⟨Tryz.prog,tb,zwp⟩) (A:=zwq) tb_ok Tryz.func177 rfl (Eq.mpr (by kernel_rfl) hv)
theorem zlm {a Q h} (hv:ziw Tryz.prog a Q h):Call0 Tryz.prog zfh [(shPtr).enc a] (Q) h:=
 show CallT Tryz.prog zfh [(shPtr).enc a] (shRes tb []) (fun _=>Q) h from zaa (C:=⟨Tryz.prog,tb,zyg⟩) (A:=zyh) tb_ok Tryz.func179 rfl (Eq.mpr (by kernel_rfl) hv)
theorem zpv {a k Q h} (hv:zfq Tryz.prog a k Q h):Call0 Tryz.prog zcx [(shPtr).enc a,(shInt .u64).enc k] (Q) h:=
 show CallT Tryz.prog zcx [(shPtr).enc a,(shInt .u64).enc k] (shRes tb []) (fun _=>Q) h from zaa (C:=⟨Tryz.prog,tb,zsl⟩) (A:=zsm) tb_ok Tryz.func180 rfl (Eq.mpr (by kernel_rfl) hv)
theorem zdo {a k Q h} (hv:zev Tryz.prog a k Q h):Call0 Tryz.prog zcp [(shPtr).enc a,(shInt .u64).enc k] (Q) h:=
 show CallT Tryz.prog zcp [(shPtr).enc a,(shInt .u64).enc k] (shRes tb []) (fun _=>Q) h from zaa (C:=⟨Tryz.prog,tb,zrh⟩) (A:=zri) tb_ok Tryz.func181 rfl (Eq.mpr (by kernel_rfl) hv)
theorem zmu {a nd Q h} (hv:zdn Tryz.prog a nd Q h):CallT Tryz.prog zhh [(shPtr).enc a,(shInt .i64).enc nd] (zae) Q h:=
 zaa (C:=⟨Tryz.prog,tb,zoq⟩) (A:=zor) tb_ok Tryz.func182 rfl (Eq.mpr (by kernel_rfl) hv)
theorem zig {a Q h} (hv:zkw Tryz.prog a Q h):CallT Tryz.prog zgu [(shSl).enc a] (shSl) Q h:=
 zaa (C:=⟨Tryz.prog,tb,zbb1⟩) (A:=zbc1) tb_ok Tryz.func185 rfl (Eq.mpr (by kernel_rfl) hv)
theorem zcq {s Q h} (hv:zba Tryz.prog s Q h):Call3 Tryz.prog zgm [(shStr).enc s] (shFlt .f64) (shInt .i64) (zae) Q h:=
 show CallT Tryz.prog zgm [(shStr).enc s] (shRes tb [48,3,4]) (fun r=>Q r.1 r.2.1 r.2.2) h from zaa (C:=⟨Tryz.prog,tb,ztx⟩) (A:=zty) tb_ok Tryz.func186 rfl (Eq.mpr (by kernel_rfl) hv)
theorem zdy {s Q h} (hv:zax Tryz.prog s Q h):Call7 Tryz.prog zfi [(shStr).enc s] (shInt .u64) (shInt .i64) (zae) (zae) (zae) (shInt .i64) (zae) Q h:=
 show CallT Tryz.prog zfi [(shStr).enc s] (shRes tb [51,3,4,4,4,3,4]) (fun r=>Q r.1 r.2.1 r.2.2.1 r.2.2.2.1 r.2.2.2.2.1 r.2.2.2.2.2.1 r.2.2.2.2.2.2) h from zaa (C:=⟨Tryz.prog,tb,zsn⟩) (A:=zso) tb_ok Tryz.func187 rfl (Eq.mpr (by kernel_rfl) hv)
theorem zrk {s flt mantissa exp neg trunc Q h} (hv:zgq Tryz.prog s flt mantissa exp neg trunc Q h):Call2 Tryz.prog zgn [(shStr).enc s,(shPtr).enc flt,(shInt .u64).enc mantissa,(shInt .i64).enc exp,(zae).enc neg,(zae).enc trunc] (shFlt .f64) (zah) Q h:=
 show CallT Tryz.prog zgn [(shStr).enc s,(shPtr).enc flt,(shInt .u64).enc mantissa,(shInt .i64).enc exp,(zae).enc neg,(zae).enc trunc] (shRes tb [48,56]) (fun r=>Q r.1 r.2) h from zaa (C:=⟨Tryz.prog,tb,ztz⟩) (A:=zua) tb_ok Tryz.func188 rfl (Eq.mpr (by kernel_rfl) hv)
theorem zof {b s Q h} (hv:zej Tryz.prog b s Q h):CallT Tryz.prog zef [(shPtr).enc b,(shStr).enc s] (zae) Q h:=
 zaa (C:=⟨Tryz.prog,tb,zqm⟩) (A:=zqn) tb_ok Tryz.func193 rfl (Eq.mpr (by kernel_rfl) hv)
theorem zkz {d flt Q h} (hv:zcl Tryz.prog d flt Q h):Call2 Tryz.prog zbm [(shPtr).enc d,(shPtr).enc flt] (shInt .u64) (zae) Q h:=
 show CallT Tryz.prog zbm [(shPtr).enc d,(shPtr).enc flt] (shRes tb [51,4]) (fun r=>Q r.1 r.2) h from zaa (C:=⟨Tryz.prog,tb,zmd⟩) (A:=zme) tb_ok Tryz.func194 rfl (Eq.mpr (by kernel_rfl) hv)
theorem zap {b Q h} (hv:zbk Tryz.prog b Q h):CallT Tryz.prog zcb [(zae).enc b] (shInt .u64) Q h:=
 zaa (C:=⟨Tryz.prog,tb,zpq⟩) (A:=zpr) tb_ok Tryz.func195 rfl (Eq.mpr (by kernel_rfl) hv)
theorem zgx {mantissa exp neg Q h} (hv:zek Tryz.prog mantissa exp neg Q h):Call2 Tryz.prog zeg [(shInt .u64).enc mantissa,(shInt .i64).enc exp,(zae).enc neg] (shFlt .f64) (zae) Q h:=
 show CallT Tryz.prog zeg [(shInt .u64).enc mantissa,(shInt .i64).enc exp,(zae).enc neg] (shRes tb [48,4]) (fun r=>Q r.1 r.2) h from zaa (C:=⟨Tryz.prog,tb,zqo⟩) (A:=zqp) tb_ok Tryz.func197 rfl (Eq.mpr (by kernel_rfl) hv)
end Lf

set_option maxRecDepth 100000
namespace Lf
open Go Go.Proofs
theorem zde {d p sign Q h} (hv:zbl Tryz.prog d p sign Q h):Call2 Tryz.prog zcc [(shInt .u64).enc d,(shInt .i64).enc p,(shInt .u64).enc sign] (shFlt .f64) (zah) Q h:=
 show CallT Tryz.prog zcc [(shInt .u64).enc d,(shInt .i64).enc p,(shInt .u64).enc sign] (shRes tb [48,56]) (fun r=>Q r.1 r.2) h from zaa (C:=⟨Tryz.prog,tb,zps⟩) (A:=zpt) tb_ok Tryz.func198 rfl (Eq.mpr (by kernel_rfl) hv)
theorem zqr {x Q h} (hv:zkx Tryz.prog x Q h):CallT Tryz.prog zko [(shInt .u64).enc x] (shInt .i64) Q h:=
 zaa (C:=⟨Tryz.prog,tb,ztj⟩) (A:=ztk) tb_ok Tryz.func200 rfl (Eq.mpr (by kernel_rfl) hv)
theorem zlh {b s Q h} (hv:zct Tryz.prog b s Q h):CallT Tryz.prog zfy [(shSl).enc b,(shStr).enc s] (zae) Q h:=
 zaa (C:=⟨Tryz.prog,tb,zmq⟩) (A:=zmr) tb_ok Tryz.func202 rfl (Eq.mpr (by kernel_rfl) hv)
theorem zat {s prefix_ Q h} (hv:zak Tryz.prog s prefix_ Q h):CallT Tryz.prog zbn [(shStr).enc s,(shStr).enc prefix_] (shInt .i64) Q h:=
 zaa (C:=⟨Tryz.prog,tb,zii⟩) (A:=zij) tb_ok Tryz.func203 rfl (Eq.mpr (by kernel_rfl) hv)
theorem zmg {sign Q h} (hv:zjq Tryz.prog sign Q h):CallT Tryz.prog zpa [(shInt .i64).enc sign] (shFlt .f64) Q h:=
 zaa (C:=⟨Tryz.prog,tb,zzr⟩) (A:=zzs) tb_ok Tryz.func204 rfl (Eq.mpr (by kernel_rfl) hv)
theorem zvt {Q h} (hv:zpc Tryz.prog  Q h):CallT Tryz.prog zpb [] (shFlt .f64) Q h:=
 zaa (C:=⟨Tryz.prog,tb,zzt⟩) (A:=zzu) tb_ok Tryz.func205 rfl (Eq.mpr (by kernel_rfl) hv)
theorem zik {a Q h} (hv:zbw Tryz.prog a Q h):CallT Tryz.prog zdr [(shPtr).enc a] (shInt .u64) Q h:=
 zaa (C:=⟨Tryz.prog,tb,zjr⟩) (A:=zjs) tb_ok Tryz.func207 rfl (Eq.mpr (by kernel_rfl) hv)
theorem zft {m e Q h} (hv:zcm Tryz.prog m e Q h):Call2 Tryz.prog zhb [(shInt .u64).enc m,(shInt .i64).enc e] (shFlt .f64) (zah) Q h:=
 show CallT Tryz.prog zhb [(shInt .u64).enc m,(shInt .i64).enc e] (shRes tb [48,56]) (fun r=>Q r.1 r.2) h from zaa (C:=⟨Tryz.prog,tb,zvh⟩) (A:=zvi) tb_ok Tryz.func208 rfl (Eq.mpr (by kernel_rfl) hv)
theorem zou {b s Q h} (hv:zew Tryz.prog b s Q h):Call2 Tryz.prog zbt [(shPtr).enc b,(shStr).enc s] (shInt .i64) (zah) Q h:=
 show CallT Tryz.prog zbt [(shPtr).enc b,(shStr).enc s] (shRes tb [3,56]) (fun r=>Q r.1 r.2) h from zaa (C:=⟨Tryz.prog,tb,zqz⟩) (A:=zra) tb_ok Tryz.func42 rfl (Eq.mpr (by kernel_rfl) hv)
end Lf



namespace Lf
open Go Go.Proofs
abbrev f64 :FloatKind:=.f64
def isNaN (f:Nat):Bool:=f64.format.order f f !=some .eq
def zmj1 (b:Int):Nat:=(IntKind.wrap .u64 b).toNat
section
variable {P:Program} {h:Hp}
theorem zmn2 (x y t:Nat):isNaN ((Question.nanBits .f64 x y).cut t)=true:=by
 have key:∀s z:Nat,s<2→z<2^52-1→isNaN (s*2^63+0x7ff0000000000000+1+z)=true:=by
  intro s z hs hz
  have e1:(s*2^63+0x7ff0000000000000+1+z)%Ieee.double.signWeight=0x7ff0000000000000+1+z:=by
   show (s*2^63+0x7ff0000000000000+1+z)%9223372036854775808=_
   omega
  have e2:Ieee.double.read (s*2^63+0x7ff0000000000000+1+z)=.nan ((s*2^63+0x7ff0000000000000+1+z) / Ieee.double.signWeight%2==1) (1+z):=by
   unfold Ieee.Format.read
   rw [e1]
   have b1:Ieee.double.binade=4503599627370496:=rfl
   have b2:Ieee.double.infRung=9218868437227405312:=rfl
   dsimp only
   rw [b1,b2,if_neg (by omega),if_neg (by omega),if_neg (by omega),show 0x7ff0000000000000+1+z-9218868437227405312=1+z by omega]
  unfold isNaN
  show ((Ieee.double.read _).order (Ieee.double.read _) !=some .eq)=true
  rw [e2]
  rfl
 have:=key (t%2) ((t / 2)%(2^52-1)) (by omega) (Nat.mod_lt _ (by decide))
 exact this
end
end Lf

namespace Lf
open Ieee Go
def rzD (w:Nat):Int:=if negD w then -((w%9223372036854775808:Nat):Int) else ((w%9223372036854775808:Nat):Int)
def valD (r:Nat):Nat:=zac r*2^(zab r+1074).toNat
theorem zrm1 {r s:Nat} (h:r<s):valD r<valD s:=by
 unfold valD zac zab
 by_cases h1:s<4503599627370496
 ·rw [if_pos (show r<4503599627370496 by omega),if_pos (show r<4503599627370496 by omega),if_pos h1,if_pos h1]
  simpa using h
 ·rw [if_neg h1,if_neg h1]
  have e2:(((s / 4503599627370496:Nat):Int)-1075+1074).toNat=s / 4503599627370496-1:=by omega
  rw [e2]
  by_cases h2:r<4503599627370496
  ·rw [if_pos h2,if_pos h2]
   have:=Nat.two_pow_pos (s / 4503599627370496-1)
   have h3:(s%4503599627370496+4503599627370496)*1≤(s%4503599627370496+4503599627370496)*2^(s / 4503599627370496-1):=Nat.mul_le_mul_left _ this
   show r*1<_
   omega
  ·rw [if_neg h2,if_neg h2,show (((r / 4503599627370496:Nat):Int)-1075+1074).toNat=r / 4503599627370496-1 by omega]
   by_cases h3:r / 4503599627370496=s / 4503599627370496
   ·rw [h3]
    exact Nat.mul_lt_mul_of_pos_right (by omega) (Nat.two_pow_pos _)
   ·have h4:r / 4503599627370496-1+1≤s / 4503599627370496-1:=by omega
    have h5:2^(r / 4503599627370496-1+1)≤2^(s / 4503599627370496-1):=Nat.pow_le_pow_right (by decide) h4
    rw [Nat.pow_succ] at h5
    have h6:(r%4503599627370496+4503599627370496)*2^(r / 4503599627370496-1)<(2*4503599627370496)*2^(r / 4503599627370496-1):=Nat.mul_lt_mul_of_pos_right (by omega) (Nat.two_pow_pos _)
    have h7:4503599627370496*(2^(r / 4503599627370496-1)*2)≤(s%4503599627370496+4503599627370496)*2^(s / 4503599627370496-1):=Nat.mul_le_mul (by omega) h5
    have h8:(2*4503599627370496)*2^(r / 4503599627370496-1)=4503599627370496*(2^(r / 4503599627370496-1)*2):=by omega
    omega
theorem cmpZ {x y X Y:Int} (h1:x<y↔X<Y) (h2:x=y↔X=Y):compare x y=compare X Y:=by
 show compareOfLessAndEq x y=compareOfLessAndEq X Y
 unfold compareOfLessAndEq
 simp only [h1,h2]
theorem zyn {a b:Nat} (ha:a<18446744073709551616) (hb:b<18446744073709551616) (na:¬9218868437227405312<a%9223372036854775808) (nb:¬9218868437227405312<b%9223372036854775808):dbl.order a b=some (compare (rzD a) (rzD b)):=by
 unfold Format.order
 have lt_:∀ {x y:Int},x<y→compare x y=.lt:=fun {x y} h=>by show compareOfLessAndEq x y=_;unfold compareOfLessAndEq;rw [if_pos h]
 have gt_:∀ {x y:Int},y<x→compare x y=.gt:=fun {x y} h=>by show compareOfLessAndEq x y=_;unfold compareOfLessAndEq;rw [if_neg (by omega),if_neg (by omega)]
 have eq_:∀ {x y:Int},x=y→compare x y=.eq:=fun {x y} h=>by show compareOfLessAndEq x y=_;unfold compareOfLessAndEq;rw [if_neg (by omega),if_pos h]
 by_cases ia:a%9223372036854775808=9218868437227405312
 ·rw [zru ha ia]
  by_cases ib:b%9223372036854775808=9218868437227405312
  ·rw [zru hb ib]
   unfold rzD
   rw [ia,ib]
   cases negD a<;>cases negD b<;>rfl
  ·rw [zrt hb (by omega)]
   unfold rzD
   rw [ia]
   have e1:(Datum.infinity (negD a)).order (.number (negD b) (zac (b%9223372036854775808)) (zab (b%9223372036854775808)))=some (if negD a then .lt else .gt):=rfl
   rw [e1]
   cases negD a
   ·rw [gt_ (by cases negD b<;>simp<;>omega)];rfl
   ·rw [lt_ (by cases negD b<;>simp<;>omega)];rfl
 ·rw [zrt ha (by omega)]
  by_cases ib:b%9223372036854775808=9218868437227405312
  ·rw [zru hb ib]
   unfold rzD
   rw [ib]
   have e1:(Datum.number (negD a) (zac (a%9223372036854775808)) (zab (a%9223372036854775808))).order (.infinity (negD b))=some (if negD b then .gt else .lt):=rfl
   rw [e1]
   cases negD b
   ·rw [lt_ (by cases negD a<;>simp<;>omega)];rfl
   ·rw [gt_ (by cases negD a<;>simp<;>omega)];rfl
  ·rw [zrt hb (by omega)]
   have e1:∀ {s m i t n j},(Datum.number s m i).order (.number t n j)=some (compare (signed s m (i-min i j).toNat) (signed t n (j-min i j).toNat)):=rfl
   rw [e1,zrc1,zrc1]
   unfold rzD
   have hva:zac (a%9223372036854775808)*2^(zab (a%9223372036854775808)-min (zab (a%9223372036854775808)) (zab (b%9223372036854775808))).toNat*2^(min (zab (a%9223372036854775808)) (zab (b%9223372036854775808))+1074).toNat=valD (a%9223372036854775808):=by
    unfold valD
    have h1: -1074≤zab (a%9223372036854775808):=by unfold zab;split<;>omega
    have h2: -1074≤zab (b%9223372036854775808):=by unfold zab;split<;>omega
    rw [Nat.mul_assoc,←Nat.pow_add]
    congr 2
    omega
   have hvb:zac (b%9223372036854775808)*2^(zab (b%9223372036854775808)-min (zab (a%9223372036854775808)) (zab (b%9223372036854775808))).toNat*2^(min (zab (a%9223372036854775808)) (zab (b%9223372036854775808))+1074).toNat=valD (b%9223372036854775808):=by
    unfold valD
    have h1: -1074≤zab (a%9223372036854775808):=by unfold zab;split<;>omega
    have h2: -1074≤zab (b%9223372036854775808):=by unfold zab;split<;>omega
    rw [Nat.mul_assoc,←Nat.pow_add]
    congr 2
    omega
   have hP:=Nat.two_pow_pos (min (zab (a%9223372036854775808)) (zab (b%9223372036854775808))+1074).toNat
   have hz:∀ {r x P:Nat},x*P=valD r→0<P→(x=0↔r=0):=fun {r x P} h hp=>by
    constructor
    ·intro e
     subst e
     rw [Nat.zero_mul] at h
     refine Classical.byContradiction fun hr=> ?_
     have:=zrm1 (r:=0) (s:=r) (by omega)
     omega
    ·intro e
     subst e
     have:valD 0=0:=by unfold valD zac;simp
     rw [this] at h
     rcases Nat.mul_eq_zero.1 h with h | h<;>omega
   generalize 2^(min (zab (a%9223372036854775808)) (zab (b%9223372036854775808))+1074).toNat=P at*
   generalize zac (a%9223372036854775808)*2^(zab (a%9223372036854775808)-min (zab (a%9223372036854775808)) (zab (b%9223372036854775808))).toNat=x at*
   generalize zac (b%9223372036854775808)*2^(zab (b%9223372036854775808)-min (zab (a%9223372036854775808)) (zab (b%9223372036854775808))).toNat=y at*
   generalize a%9223372036854775808=r at*
   generalize b%9223372036854775808=s at*
   have hlt:∀ {r s x y:Nat},x*P=valD r→y*P=valD s→(x<y↔r<s):=fun {r s x y} h1 h2=>by
    constructor
    ·intro h
     have h3:x*P<y*P:=Nat.mul_lt_mul_of_pos_right h hP
     rw [h1,h2] at h3
     rcases Nat.lt_trichotomy r s with h4 | h4 | h4
     ·exact h4
     ·subst h4;omega
     ·have:=zrm1 h4;omega
    ·intro h
     have h3:=zrm1 h
     rw [←h1,←h2] at h3
     exact Nat.lt_of_mul_lt_mul_right h3
   have l1:=hlt hva hvb
   have l2:=hlt hvb hva
   have z1:=hz hva hP
   have z2:=hz hvb hP
   congr 1
   refine cmpZ ?_ ?_<;>cases negD a<;>cases negD b<;>simp only [Bool.false_eq_true,if_true,if_false,reduceIte]<;>omega
theorem zoy1 {w:Nat} (h:w<18446744073709551616):isNaN w=znq w:=by
 unfold isNaN znq
 show (dbl.order w w !=some .eq)=_
 by_cases hn:9218868437227405312<w%9223372036854775808
 ·rw [decide_eq_true hn]
  unfold Format.order
  rw [zeu1 h hn]
  rfl
 ·rw [zyn h h hn hn,decide_eq_false hn,show compare (rzD w) (rzD w)=.eq by show compareOfLessAndEq _ _=_;unfold compareOfLessAndEq;rw [if_neg (by omega),if_pos rfl]]
  rfl
def zyi1 (n:Int):Nat:=zio (decide (n<0)) n.natAbs 0 false
theorem zix2 {n:Int}:f64.nearest n=zyi1 n:=by
 show dbl.write (.number (decide (n<0)) n.natAbs 0)=_
 rw [zzz];rfl
theorem zej2 {b:Int}:zmj1 b<18446744073709551616:=by
 unfold zmj1 IntKind.wrap
 simp [IntKind.signed,IntKind.bits]
 omega
end Lf

namespace Lf
open Go
section
variable {P:Program} {h:Hp}
theorem semW_bind' {α β:Type} (s:Sem α) (f:α→Sem β) {K:β→Hp→Prop}:semW P (s>>=f) K h↔semW P s (fun a h=>semW P (f a) K h) h:=zij1 s f
theorem zek2 {t:Nat} {i:TypeInfo} (hi:P.info? t=some i) {K:Nat→Hp→Prop} (hk:K i.size h):semW P (sizeOf t) K h:=by
  show semW P (Sem.bind (match P.info? t with
    | some d=>Sem.pure d
    | none=>_) _) K h
  rw [hi]
  exact hk
theorem zyo {a:Addr} {o:Obj} (e:h a.block=some o) {K:Bool→Hp→Prop} (hk:K (hfroz h a) h):semW P (frozen a) K h:=⟨⟨o,e⟩,hk⟩
theorem zbu1 {r:Nat} {o:Obj} (e:h r=some o) {K:Option (TypeId×Nat)→Hp→Prop} (hk:K (ztu1 o) h):semW P (shape r) K h:=⟨o,e,hk⟩
theorem zoz1 {b:Nat} {cs:List Value} (k:Blk h b cs) (off:Nat):hfroz h ⟨b,off,none⟩=false:=by
  obtain ⟨t,e⟩:=k
  unfold hfroz
  simp [e]
theorem zjt1 {b off:Nat} {cs:List Value} (k:Blk h b cs) {K:Unit→Hp→Prop} (hk:K () h):semW P (noView ⟨b,off,none⟩) K h:=by
  obtain ⟨t,e⟩:=k
  unfold noView viewAt
  refine (semW_bind' _ _).2 ((semW_bind' _ _).2 (zbu1 (r:=b) e ?_))
  exact hk
theorem zcx1 {b off:Nat} {cs:List Value} (k:Blk h b cs) {K:Bool→Hp→Prop} (hk:K false h):semW P (stringish ⟨b,off,none⟩) K h:=by
  have k0:=k
  obtain ⟨t,e⟩:=k
  unfold stringish
  refine (semW_bind' _ _).2 (zyo (a:=⟨b,off,none⟩) e ?_)
  rw [zoz1 k0]
  refine (semW_bind' _ _).2 (zbu1 (r:=b) e ?_)
  refine zyo (a:=⟨b,_,none⟩) e ?_
  rw [zoz1 k0]
  exact hk
end
end Lf

namespace Lf
open Go
section
variable {α:Type} {h:Hp} {sz:Nat} {enc:α→List Value} {l:Sl} {xs:List α}
theorem Rw.fld (r:Rw h sz enc l xs) (henc:∀x,(enc x).length=sz) (hsz:0<sz) {sh:Shape} (g:α→sh.T) {j:Nat} (hg:∀x,((enc x).drop j).take (zaj (sh.enc (g x))).length=zaj (sh.enc (g x))) {i:Int} (h0:0≤i) (h1:i<(xs.length:Int))
    {K:sh.T→Prop} (hk:∀x,xs[i.toNat]? =some x→K (g x)):InB l.base l.len i∧LdW none sh h ((sat l.base sz i).add j) K:=by
  obtain ⟨e1,x,hx,hl⟩:=r.read henc hsz h0 (by rw [r.1];exact h1)
  refine ⟨e1,g x,fun q v hv=> ?_,hk x hx⟩
  rw [zdb1]
  refine hl (j+q) v ?_
  grind
theorem Blk.rd {b:Nat} {cs new:List Value} (k:Blk h b cs) {off n:Nat} (hn:new.length=n) (e:(cs.drop off).take n=new):zzw h (some ⟨b,off,none⟩) n new:=⟨hn,.inr ⟨_,rfl,k.ldIs e⟩⟩
theorem zel2 {xs:List α} {i:Nat} (x:α) (hi:i<xs.length):xs.set i x=xs.take i++x::xs.drop (i+1):=by
  rw [List.set_eq_take_append_cons_drop,if_pos hi]
theorem OwnF.store {F:List Nat} (o:OwnF h sz enc l xs F) (henc:∀x,(enc x).length=sz) {i:Int} (h0:0≤i) (h1:i<(xs.length:Int)) (x:α) {K:Hp→Prop} (hk:∀h',OwnF h' sz enc l (xs.set i.toNat x) F→Mv F h F h'→K h'):
    InB l.base l.len i∧StW h (sat l.base sz i) (enc x) K:=by
  obtain ⟨o1,o2,o3⟩:=o
  rcases o3 with ⟨_,e2,_⟩ | ⟨b,cs,e1,rfl,kb,e4,e5⟩
  · omega
  · refine ⟨⟨by rw [e1];simp,h0,by omega⟩,?_⟩
    have hi:i.toNat<xs.length:=by omega
    have ha:sat l.base sz i=⟨b,i.toNat*sz,none⟩:=by unfold sat;rw [e1,Option.getD_some,box_add,Nat.zero_add]
    rw [ha]
    have hmul:i.toNat*sz+sz≤l.len*sz:=by
      have:=Nat.mul_le_mul_right sz (show i.toNat+1≤l.len by omega)
      grind
    have hmul2:l.len*sz≤l.cap*sz:=Nat.mul_le_mul_right sz o2
    refine zuu1 kb (by grind) fun h' m' k'=> ?_
    rw [henc] at k'
    refine hk h' ⟨by simp [o1],o2,.inr ⟨b,_,e1,rfl,k',?_,?_⟩⟩ m'
    · grind
    · rw [zel2 x hi]
      have t1:cs.take (i.toNat*sz)=(xs.take i.toNat).flatMap enc:=by
        rw [zet1 henc,←e5,List.take_take];congr 1;omega
      have t2:(cs.drop (i.toNat*sz+sz)).take (l.len*sz-(i.toNat*sz+sz))=(xs.drop (i.toNat+1)).flatMap enc:=by
        rw [zjf1 henc,←e5,Nat.add_mul,Nat.one_mul,List.drop_take]
      have hl1:(cs.take (i.toNat*sz)++enc x).length=i.toNat*sz+sz:=by
        grind
      rw [List.take_append,hl1,t2,List.take_of_length_le (by omega),t1]
      simp
end
end Lf

namespace Lf
open Go
def cutH (k:Hp) (R:List Nat):Hp:=fun b=>if b∈R then none else k b
theorem zos2 {k:Hp} {R:List Nat}:cutH k R≤k:=fun b o e=>by
  unfold cutH at e
  grind
theorem ziy2 {k:Hp} {R:List Nat} {b:Nat} (h:b∈R):cutH k R b=none:=by
  unfold cutH
  rw [if_pos h]
theorem zem2 {k:Hp} {R:List Nat} {b:Nat} (h:b∉R):cutH k R b=k b:=by
  unfold cutH
  rw [if_neg h]
theorem zot2 {d k:Hp} {R:List Nat} (hl:d≤k) (hn:∀b∈R,d b=none):d≤cutH k R:=fun b o e=>by
  rw [zem2 fun hb=>by grind]
  exact hl b o e
theorem zmk1 {h h':Hp} {a:Addr} (e:h' a.block=h a.block):hcell h' a=hcell h a:=by
  unfold hcell
  rw [e]
theorem zgl1 (a:Addr) (n:Nat):(a.add n).block=a.block:=by
  unfold Addr.add
  split<;>rfl
theorem zen2 {h h':Hp} {a:Addr} {cs:List Value} (l:LdIs h a cs) (e:h' a.block=h a.block):LdIs h' a cs:=fun i v hv=>by
  have:hcell h' (a.add i)=hcell h (a.add i):=zmk1 (a:=a.add i) (by rw [zgl1];exact e)
  rw [this]
  exact l i v hv
section
variable {α:Type} {h h':Hp} {sz:Nat} {enc:α→List Value} {l:Sl} {xs:List α} {F:List Nat}
theorem Rw.same (r:Rw h sz enc l xs) (e:∀a,l.base=some a→h' a.block=h a.block):Rw h' sz enc l xs:=by
  obtain ⟨h1,h2,h3⟩:=r
  refine ⟨h1,h2,h3.imp id ?_⟩
  rintro ⟨a,ha,hl⟩
  exact ⟨a,ha,zen2 hl (e a ha)⟩
theorem Rw.nil {l:Sl} (hl:l.len=0):Rw h sz enc l ([]:List α):=⟨hl,(by simp),.inl (by simp)⟩
theorem OwnF.cut {R:List Nat} (o:OwnF h sz enc l xs F) (hd:∀b∈F,b∉R):OwnF (cutH h R) sz enc l xs F:=o.same fun b hb=>zem2 (hd b hb)
theorem OwnF.head (o:OwnF h sz enc l xs F) (henc:∀x,(enc x).length=sz) {n:Nat} (hn:n≤xs.length):OwnF h sz enc ⟨l.base,n,l.cap⟩ (xs.take n) F:=by
  obtain ⟨h1,h2,h3⟩:=o
  refine ⟨by simp;omega,by grind,h3.imp id ?_⟩
  rintro ⟨b,cs,e1,e2,e3,e4,e5⟩
  refine ⟨b,cs,e1,e2,e3,e4,?_⟩
  show cs.take (n*sz)=_
  rw [zet1 henc,←e5,List.take_take,h1,Nat.min_eq_left (Nat.mul_le_mul_right sz hn)]
theorem OwnF.base (o:OwnF h sz enc l xs F) {a:Addr} (ha:l.base=some a):F=[a.block]:=by
  obtain ⟨_,_,h3⟩:=o
  grind
end
end Lf

namespace Lf
open Go
theorem zec1 {h:Hp} {a:Addr} {v:Value} (e:hcell h a=some v):∃o,h a.block=some o:=by
  unfold hcell at e
  grind
theorem zeo2 {F F':List Nat} {h h':Hp} {a:Addr} {cs:List Value} (l:LdIs h a cs) (m:Mv F h F' h') (hn:a.block∉F):LdIs h' a cs:=fun i v hv=>by
  have h1:=l i v hv
  obtain ⟨o,ho⟩:=zec1 h1
  have hb:(a.add i).block=a.block:=zgl1 a i
  rw [zmk1 (h:=h) (h':=h') (a:=a.add i) (by rw [ho];exact m.keep _ _ ho (by rw [hb];exact hn))]
  exact h1
section
variable {α:Type} {h h':Hp} {sz:Nat} {enc:α→List Value} {l:Sl} {xs:List α} {F F':List Nat}
theorem Rw.known (r:Rw h sz enc l xs) {a:Addr} (ha:l.base=some a) (h0:xs.length*sz≠0):h a.block≠none:=by
  obtain ⟨h1,h2,h3⟩:=r
  obtain ⟨a',ha',hl⟩:=h3.resolve_left h0
  rw [ha] at ha'
  cases ha'
  have hne:(xs.flatMap enc).length≠0:=by rw [h2];exact h0
  obtain ⟨v,hv⟩:∃v,(xs.flatMap enc)[0]? =some v:=⟨(xs.flatMap enc)[0]'(by omega),List.getElem?_eq_getElem (by omega)⟩
  obtain ⟨o,ho⟩:=zec1 (hl 0 v hv)
  rw [zgl1] at ho
  rw [ho]
  simp
end
end Lf

namespace Lf
open Go
theorem zgm1 {α:Type} {h0 h:Hp} {sz n bytes:Nat} {enc:α→List Value} {zero cs:List Value} {l:Sl} {xs ys:List α} {K:Sl→Hp→Prop} (hw:h0≤h) (o:Own h0 h sz enc l xs) (hc:cs=ys.flatMap enc) (hn:n=ys.length)
    (henc:∀x,(enc x).length=sz) (hok:∀x,zfu (enc x)=true) (hz:zero.length=sz) (hb:xs.length+ys.length≤140737488355328∧(xs.length+ys.length)*bytes≤140737488355328)
    (hk:∀l' h',h0≤h'→Own h0 h' sz enc l' (xs++ys)→(∀b ob,h b=some ob→(∀a,l.base=some a→a.block≠b)→h' b=some ob)→K l' h'):NewW cs (fun a h2=>zbh sz bytes zero l ⟨some a,n,n⟩ K h2) h:=by
  subst hn
  refine zfx1 (h0:=h0) hw hc henc fun a h2 hle ho2=> ?_
  refine zus1 (Hp.le_trans hw hle) (o.mono hle) (ho2.rw henc) henc hok hz hb fun l' h' hl' ho' hk'=>hk l' h' hl' ho' fun b ob e hne=>hk' b ob (hle b ob e) hne
end Lf

