/-
  Part 3 of the texts that the claim leans on.
-/
import Derived.Test.YtgmfbapkfjemnaaGreatDoorRows
import Derived.Laws.Externs
import GoSem.Core.Float
import Derived.Test.YtgmfbapkfjemnaaGreatDoorMgFltPrints1
set_option linter.unusedVariables false
namespace Lf
open Go
def zgl (P:Program) (l:Sl) (texts:Sl) (Q:(Bool→(Hp→Prop))) (h:Hp):Prop:=
 LoopW1 (α1:=Int) (fun again i h1=>
 (if (decide (i<((l.len:Nat):Int)))=true then
 ((InB l.base l.len i)∧LdW none (shInt .i64) h1 (sat l.base 1 i) fun x=>
 ((InB l.base l.len i)∧LdW none (shInt .i64) h1 (sat l.base 1 i) fun x1=>
 CallT P zno [(.int .i64 x)] shStr (fun r h2=>
 (((LdIs h2 (sat l.base 1 i) [(.int .i64 x1)])∧True)∧CallT P zdt [(.int .i64 x1)] shStr (fun r1 h3=>
 (if (!((ByteArray.toList r)==(ByteArray.toList r1)))=true then
 Q false h3
 else
 again (IntKind.wrap .i64 (i+(1:Int))) h3)) h2)) h1))
 else
 LoopW1 (α1:=Int) (fun again1 i1 h2=>
 (if (decide (i1<((texts.len:Nat):Int)))=true then
 ((InB texts.base texts.len i1)∧LdW none shStr h2 (sat texts.base 1 i1) fun x=>
 Call2 P zrd [(.string x)] (shInt .i64) (shInt .i64) (fun r r1 h3=>
 ((InB texts.base texts.len i1)∧LdW none shStr h3 (sat texts.base 1 i1) fun x1=>
 Call2 P zis [(.string x1)] (shInt .i64) (shInt .i64) (fun r2 r3 h4=>
 LetW ((r !=r2) || (r1 !=r3)) fun y=>
 (if y=true then
 Q false h4
 else
 again1 (IntKind.wrap .i64 (i1+(1:Int))) h4)) h3)) h2)
 else
 CallT P zng [] zag (fun r h3=>
 Q r h3) h2)) (0:Int) h1)) (0:Int) h
def zlh (P:Program) (bits:Int) (Q:(ByteArray→(Hp→Prop))) (h:Hp):Prop:=
 CallT P zuy [(.int .i64 bits)] (shFlt .f64) (fun r h1=>
 SemV none P (binS .neq 48 (.tmp 12) (.tmp 13) (.float .f64 r) (.float .f64 r)) zag h1 fun x=>
 (if x=true then
 CallT P zal1 [(.int .u64 (IntKind.wrap .u64 bits))] shStr (fun r1 h2=>
 ((4+(ByteArray.size r1))≤9223372036854775807∧Q ⟨⟨(110::(97::(110::(58::r1.data.toList))))⟩⟩ h2)) h1
 else
 SemV none P (binS .gtr 48 (.tmp 20) (.const (.float .f64 9218868437227405311)) (.float .f64 r) (.float .f64 9218868437227405311)) zag h1 fun x1=>
 (if x1=true then
 Q ⟨#[105,110,102]⟩ h1
 else
 SemV none P (binS .lss 48 (.tmp 23) (.const (.float .f64 18442240474082181119)) (.float .f64 r) (.float .f64 18442240474082181119)) zag h1 fun x2=>
 (if x2=true then
 Q ⟨#[45,105,110,102]⟩ h1
 else
 CallT P zom [(.float .f64 r),(.int .u8 (101:Int)),(.int .i64 (-1:Int)),(.int .i64 (64:Int))] shStr (fun r1 h2=>
 Call3 P zuz [(.string r1),(.string ⟨#[101]⟩)] shStr shStr zag (fun r2 r3 r4 h3=>
 Call2 P zsn [(.string r3)] (shInt .i64) zal (fun r5 r6 h4=>
 (((ByteArray.size r2)+1)≤9223372036854775807∧CallT P zyx [(.int .i64 r5)] shStr (fun r7 h5=>
 (((ByteArray.size ⟨⟨(List.append r2.data.toList [101])⟩⟩)+(ByteArray.size r7))≤9223372036854775807∧Q ⟨⟨(List.append (List.append r2.data.toList [101]) r7.data.toList)⟩⟩ h5)) h4)) h3) h2) h1)))) h
def ziu (P:Program) (n:Int) (Q:(ByteArray→(Hp→Prop))) (h:Hp):Prop:=
 JoinW1 (α1:=ByteArray) (fun k=>
 LetW (((bitsI .and .u64 (IntKind.wrap .u64 n) (9223372036854775808:Int)) !=(0:Int))&&(decide ((bitsI .andNot .u64 (IntKind.wrap .u64 n) (9223372036854775808:Int))≤(9218868437227405312:Int)))) fun y=>
 (if y=true then
 k ⟨#[45]⟩ h
 else
 k ⟨#[]⟩ h))
 (fun s h1=>
 (if (decide ((bitsI .andNot .u64 (IntKind.wrap .u64 n) (9223372036854775808:Int))>(9218868437227405312:Int)))=true then
 CallT P zpo [(.int .u64 (IntKind.wrap .u64 n))] shStr (fun r h2=>
 ((4+(ByteArray.size r))≤9223372036854775807∧Q ⟨⟨(110::(97::(110::(58::r.data.toList))))⟩⟩ h2)) h1
 else
 (if ((bitsI .andNot .u64 (IntKind.wrap .u64 n) (9223372036854775808:Int))==(9218868437227405312:Int))=true then
 (((ByteArray.size s)+3)≤9223372036854775807∧Q ⟨⟨(List.append s.data.toList [105,110,102])⟩⟩ h1)
 else
 CallT P zon [(.int .u64 (bitsI .andNot .u64 (IntKind.wrap .u64 n) (9223372036854775808:Int)))] shStr (fun r h2=>
 (((ByteArray.size s)+(ByteArray.size r))≤9223372036854775807∧Q ⟨⟨(List.append s.data.toList r.data.toList)⟩⟩ h2)) h1)))
def zrf (P:Program) (text:ByteArray) (Q:(Int→(Int→(Hp→Prop)))) (h:Hp):Prop:=
 Call2 P zlf [(.string text),(.string ⟨#[110,97,110,58]⟩)] shStr zag (fun r r1 h1=>
 JoinW1 (α1:=Int) (fun k=>
 (if r1=true then
 Call2 P zlg [(.string r),(.int .i64 (16:Int)),(.int .i64 (64:Int))] (shInt .u64) zal (fun r2 r3 h2=>
 k r2 h2) h1
 else
 Call2 P zkk [(.string text),(.int .i64 (64:Int))] (shFlt .f64) zal (fun r2 r3 h2=>
 SemE P (Extern.MathFloatBits.float64bits #[(.float .f64 r2)]) (shInt .u64) (fun r4 h3=>
 k r4 h3) h2) h1))
 (fun u h2=>
 CallT P zno [(.int .i64 (IntKind.wrap .i64 u))] shStr (fun r2 h3=>
 (if (!((ByteArray.toList r2)==(ByteArray.toList text)))=true then
 Q (0:Int) (4:Int) h3
 else
 Q (IntKind.wrap .i64 u) (0:Int) h3)) h2)) h
def zbe (P:Program) (t:ByteArray) (Q:(Int→(Int→(Hp→Prop)))) (h:Hp):Prop:=
 (if (decide ((((ByteArray.size t):Nat):Int)>(32:Int)))=true then
 Q (0:Int) (4:Int) h
 else
 (((decide ((((ByteArray.size t):Nat):Int)>(0:Int)))=true→((0:Int)≤(0:Int)∧(0:Int)<(((ByteArray.size t):Nat):Int)))∧LetW ((decide ((((ByteArray.size t):Nat):Int)>(0:Int)))&&((((UInt8.toNat (List.getD t.data.toList 0 0)):Nat):Int)==(45:Int))) fun y=>
 JoinW1 (α1:=ByteArray) (fun k=>
 (if y=true then
 (((0:Int)≤(1:Int)∧(1:Int)≤(((ByteArray.size t):Nat):Int))∧k (ByteArray.extract t 1 (ByteArray.size t)) h)
 else
 k t h))
 (fun u h1=>
 JoinW1 (α1:=Int) (fun k=>
 ((((((ByteArray.size t):Nat):Int)==(20:Int))=true→((0:Int)≤(4:Int)∧(4:Int)≤(((ByteArray.size t):Nat):Int)))∧LetW (((((ByteArray.size t):Nat):Int)==(20:Int))&&((ByteArray.toList (ByteArray.extract t 0 4))==(ByteArray.toList ⟨#[110,97,110,58]⟩))) fun y1=>
 (if y1=true then
 LoopW2 (α1:=Int) (α2:=Int) (fun again b i h2=>
 (if (decide (i<(20:Int)))=true then
 ((0:Int)≤(4:Int)∧(((0:Int)≤i∧i<(((ByteArray.size t):Nat):Int))∧CallT P znh [(.int .u8 (((UInt8.toNat (List.getD t.data.toList (Int.toNat i) 0)):Nat):Int))] (shInt .u64) (fun r h3=>
 again (bitsI .or .u64 (shlI .u64 b (4:Int)) (bitsI .and .u64 r (15:Int))) (IntKind.wrap .i64 (i+(1:Int))) h3) h2))
 else
 k b h2)) (0:Int) (4:Int) h1
 else
 (if ((ByteArray.toList u)==(ByteArray.toList ⟨#[105,110,102]⟩))=true then
 k (9218868437227405312:Int) h1
 else
 (if ((ByteArray.toList u)==(ByteArray.toList ⟨#[48,101,48]⟩))=true then
 k (0:Int) h1
 else
 Call3 P zfz [(.string u)] (shInt .u64) (shInt .i64) zag (fun r r1 r2 h2=>
 (if (!r2)=true then
 Q (0:Int) (4:Int) h2
 else
 CallT P zhg [(.int .u64 r),(.int .i64 r1)] (shInt .u64) (fun r3 h3=>
 k r3 h3) h2)) h1)))))
 (fun b h2=>
 JoinW1 (α1:=Int) (fun k=>
 (if y=true then
 k (bitsI .or .u64 b (9223372036854775808:Int)) h2
 else
 k b h2))
 (fun b1 h3=>
 CallT P zdt [(.int .i64 (IntKind.wrap .i64 b1))] shStr (fun r h4=>
 (if (!((ByteArray.toList r)==(ByteArray.toList t)))=true then
 Q (0:Int) (4:Int) h4
 else
 Q (IntKind.wrap .i64 b1) (0:Int) h4)) h3)))))
def ziv (P:Program)  (Q:(Bool→(Hp→Prop))) (h:Hp):Prop:=
 Call2 P zam1 [(.int .i64 (15:Int)),(.int .i64 (4607182418800017408:Int)),(.int .i64 (4607182418800017408:Int))] (shInt .i64) (shInt .i64) (fun r r1 h1=>
 Call2 P zam1 [(.int .i64 (18:Int)),(.int .i64 (0:Int)),(.int .i64 (0:Int))] (shInt .i64) (shInt .i64) (fun r2 r3 h2=>
 Call2 P zam1 [(.int .i64 (3:Int)),(.int .i64 (1:Int)),(.int .i64 (1:Int))] (shInt .i64) (shInt .i64) (fun r4 r5 h3=>
 Call2 P zrd [(.string ⟨#[49,46,53,101,48]⟩)] (shInt .i64) (shInt .i64) (fun r6 r7 h4=>
 Call2 P zrd [(.string ⟨#[49,46,53,48,101,48]⟩)] (shInt .i64) (shInt .i64) (fun r8 r9 h5=>
 LetW ((r==(4611686018427387904:Int))&&(r1==(0:Int))) fun y=>
 LetW (y&&(r2==(9221120237041090560:Int))) fun y1=>
 LetW (y1&&(r3==(0:Int))) fun y2=>
 LetW (y2&&(r5==(9:Int))) fun y3=>
 LetW (y3&&(r6==(4609434218613702656:Int))) fun y4=>
 LetW (y4&&(r7==(0:Int))) fun y5=>
 LetW (y5&&(r9==(4:Int))) fun y6=>
 EffC (some y6) (CallT P zno [(.int .i64 r6)] shStr) (fun r10 h6=>
 LetW (y6&&((ByteArray.toList r10)==(ByteArray.toList ⟨#[49,46,53,101,48]⟩))) fun y7=>
 Q y7 h6) h5) h4) h3) h2) h1) h
def zzi (P:Program) (bits:Int) (Q:(Nat→(Hp→Prop))) (h:Hp):Prop:=
 SemE P (Extern.MathFloatBits.float64frombits #[(.int .u64 (IntKind.wrap .u64 bits))]) (shFlt .f64) (fun r h1=>
 Q r h1) h
def zvc (P:Program) (u:Int) (Q:(ByteArray→(Hp→Prop))) (h:Hp):Prop:=
 CallT P zpp [(.int .u64 u),(.int .i64 (16:Int))] shStr (fun r h1=>
 CallT P zvu [(.string ⟨#[48]⟩),(.int .i64 (IntKind.wrap .i64 ((16:Int)-(((ByteArray.size r):Nat):Int))))] shStr (fun r1 h2=>
 (((ByteArray.size r1)+(ByteArray.size r))≤9223372036854775807∧Q ⟨⟨(List.append r1.data.toList r.data.toList)⟩⟩ h2)) h1) h
def zvd (P:Program) (s:ByteArray) (sep:ByteArray) (Q:(ByteArray→(ByteArray→(Bool→(Hp→Prop))))) (h:Hp):Prop:=
 Call3 P zgi [(.string s),(.string sep)] shStr shStr zag (fun r r1 r2 h1=>
 Q r r1 r2 h1) h
def zek (P:Program) (f:Nat) (fmt:Int) (prec:Int) (bitSize:Int) (Q:(ByteArray→(Hp→Prop))) (h:Hp):Prop:=
 CallT P zhz [(.float .f64 f),(.int .u8 fmt),(.int .i64 prec),(.int .i64 bitSize)] shStr (fun r h1=>
 Q r h1) h
def zsq (P:Program) (s:ByteArray) (Q:(Int→(Leaf→(Hp→Prop)))) (h:Hp):Prop:=
 Call2 P zib [(.string s)] (shInt .i64) zal (fun r r1 h1=>
 ((isIfV r1.v)=true∧(if (!(zip r1.v))=true then
 CallT P zfp [(.string ⟨#[65,116,111,105]⟩),(.string s),(.int .i64 (0:Int)),(.int .i64 (0:Int)),r1.v] zal (fun r2 h2=>
 EncW zal r2.v fun e=>
 Q r e h2) h1
 else
 EncW zal .nilIface fun e=>
 Q r e h1))) h
def zsr (P:Program) (i:Int) (Q:(ByteArray→(Hp→Prop))) (h:Hp):Prop:=
 CallT P zmj [(.int .i64 i)] shStr (fun r h1=>
 Q r h1) h
def zkl (P:Program) (n:Int) (Q:(ByteArray→(Hp→Prop))) (h:Hp):Prop:=
 LoopW2 (α1:=ByteArray) (α2:=Int) (fun again s i h1=>
 (if (decide (i≥(0:Int)))=true then
 ((0:Int)≤(IntKind.wrap .i64 ((4:Int)*i))∧(((0:Int)≤(bitsI .and .u64 (shrI .u64 n (IntKind.wrap .i64 ((4:Int)*i))) (15:Int))∧((bitsI .and .u64 (shrI .u64 n (IntKind.wrap .i64 ((4:Int)*i))) (15:Int))≤(IntKind.wrap .u64 ((bitsI .and .u64 (shrI .u64 n (IntKind.wrap .i64 ((4:Int)*i))) (15:Int))+(1:Int)))∧(IntKind.wrap .u64 ((bitsI .and .u64 (shrI .u64 n (IntKind.wrap .i64 ((4:Int)*i))) (15:Int))+(1:Int)))≤(16:Int)))∧(((ByteArray.size s)+(ByteArray.size (ByteArray.extract ⟨#[48,49,50,51,52,53,54,55,56,57,97,98,99,100,101,102]⟩ (Int.toNat (bitsI .and .u64 (shrI .u64 n (IntKind.wrap .i64 ((4:Int)*i))) (15:Int))) (Int.toNat (IntKind.wrap .u64 ((bitsI .and .u64 (shrI .u64 n (IntKind.wrap .i64 ((4:Int)*i))) (15:Int))+(1:Int)))))))≤9223372036854775807∧again ⟨⟨(List.append s.data.toList (ByteArray.extract ⟨#[48,49,50,51,52,53,54,55,56,57,97,98,99,100,101,102]⟩ (Int.toNat (bitsI .and .u64 (shrI .u64 n (IntKind.wrap .i64 ((4:Int)*i))) (15:Int))) (Int.toNat (IntKind.wrap .u64 ((bitsI .and .u64 (shrI .u64 n (IntKind.wrap .i64 ((4:Int)*i))) (15:Int))+(1:Int))))).data.toList)⟩⟩ (IntKind.wrap .i64 (i-(1:Int))) h1)))
 else
 Q s h1)) ⟨#[]⟩ (15:Int) h
def zgp (P:Program) (b:Int) (Q:(ByteArray→(Hp→Prop))) (h:Hp):Prop:=
 (if (b==(0:Int))=true then
 Q ⟨#[48,101,48]⟩ h
 else
 Call2 P zic [(.int .u64 b)] (shInt .u64) (shInt .i64) (fun r r1 h1=>
 CallT P zdg [(.int .u64 r)] shStr (fun r2 h2=>
 (((0:Int)≤(1:Int)∧(1:Int)≤(((ByteArray.size r2):Nat):Int))∧JoinW1 (α1:=ByteArray) (fun k=>
 (if (decide ((((ByteArray.size r2):Nat):Int)>(1:Int)))=true then
 (((0:Int)≤(1:Int)∧(1:Int)≤(((ByteArray.size r2):Nat):Int))∧((1+(ByteArray.size (ByteArray.extract r2 1 (ByteArray.size r2))))≤9223372036854775807∧(((ByteArray.size (ByteArray.extract r2 0 1))+(ByteArray.size ⟨⟨(46::(ByteArray.extract r2 1 (ByteArray.size r2)).data.toList)⟩⟩))≤9223372036854775807∧k ⟨⟨(List.append (ByteArray.extract r2 0 1).data.toList (46::(ByteArray.extract r2 1 (ByteArray.size r2)).data.toList))⟩⟩ h2)))
 else
 k (ByteArray.extract r2 0 1) h2))
 (fun s h3=>
 (if (decide (r1<(0:Int)))=true then
 (((ByteArray.size s)+2)≤9223372036854775807∧CallT P zdg [(.int .u64 (IntKind.wrap .u64 (IntKind.wrap .i64 ((0:Int)-r1))))] shStr (fun r3 h4=>
 (((ByteArray.size ⟨⟨(List.append s.data.toList [101,45])⟩⟩)+(ByteArray.size r3))≤9223372036854775807∧Q ⟨⟨(List.append (List.append s.data.toList [101,45]) r3.data.toList)⟩⟩ h4)) h3)
 else
 (((ByteArray.size s)+1)≤9223372036854775807∧CallT P zdg [(.int .u64 (IntKind.wrap .u64 r1))] shStr (fun r3 h4=>
 (((ByteArray.size ⟨⟨(List.append s.data.toList [101])⟩⟩)+(ByteArray.size r3))≤9223372036854775807∧Q ⟨⟨(List.append (List.append s.data.toList [101]) r3.data.toList)⟩⟩ h4)) h3))))) h1) h)
def zid (P:Program) (s:ByteArray) (prefix_:ByteArray) (Q:(ByteArray→(Bool→(Hp→Prop)))) (h:Hp):Prop:=
 Call2 P zdk [(.string s),(.string prefix_)] shStr zag (fun r r1 h1=>
 Q r r1 h1) h
def zft (P:Program) (s:ByteArray) (base:Int) (bitSize:Int) (Q:(Int→(Leaf→(Hp→Prop)))) (h:Hp):Prop:=
 Call2 P zez [(.string s),(.int .i64 base),(.int .i64 bitSize)] (shInt .u64) zal (fun r r1 h1=>
 ((isIfV r1.v)=true∧(if (!(zip r1.v))=true then
 CallT P zfp [(.string ⟨#[80,97,114,115,101,85,105,110,116]⟩),(.string s),(.int .i64 base),(.int .i64 bitSize),r1.v] zal (fun r2 h2=>
 EncW zal r2.v fun e=>
 Q r e h2) h1
 else
 EncW zal .nilIface fun e=>
 Q r e h1))) h
def zch (P:Program) (s:ByteArray) (bitSize:Int) (Q:(Nat→(Leaf→(Hp→Prop)))) (h:Hp):Prop:=
 Call2 P zet [(.string s),(.int .i64 bitSize)] (shFlt .f64) zal (fun r r1 h1=>
 ((isIfV r1.v)=true∧(if (!(zip r1.v))=true then
 CallT P zfp [(.string ⟨#[80,97,114,115,101,70,108,111,97,116]⟩),(.string s),(.int .i64 (0:Int)),(.int .i64 bitSize),r1.v] zal (fun r2 h2=>
 EncW zal r2.v fun e=>
 Q r e h2) h1
 else
 EncW zal .nilIface fun e=>
 Q r e h1))) h
def ziw (P:Program) (c:Int) (Q:(Int→(Hp→Prop))) (h:Hp):Prop:=
 LoopW1 (α1:=Int) (fun again d h1=>
 (if (decide (d<(16:Int)))=true then
 (((0:Int)≤d∧d<(16:Int))∧(if ((((UInt8.toNat (List.getD [48,49,50,51,52,53,54,55,56,57,97,98,99,100,101,102] (Int.toNat d) 0)):Nat):Int)==c)=true then
 Q d h1
 else
 again (IntKind.wrap .u64 (d+(1:Int))) h1))
 else
 Q (16:Int) h1)) (0:Int) h
def zdw (P:Program) (t:ByteArray) (Q:(Int→(Int→(Bool→(Hp→Prop))))) (h:Hp):Prop:=
 LoopW3 (α1:=Int) (α2:=Int) (α3:=Int) (fun again c s i h1=>
 (((decide (i<(((ByteArray.size t):Nat):Int)))=true→((0:Int)≤i∧i<(((ByteArray.size t):Nat):Int)))∧LetW ((decide (i<(((ByteArray.size t):Nat):Int)))&&((((UInt8.toNat (List.getD t.data.toList (Int.toNat i) 0)):Nat):Int) !=(101:Int))) fun y=>
 (if y=true then
 JoinW3 (α1:=Int) (α2:=Int) (α3:=Int) (fun k=>
 (((i==(1:Int))=true→((0:Int)≤i∧i<(((ByteArray.size t):Nat):Int)))∧LetW ((i==(1:Int))&&((((UInt8.toNat (List.getD t.data.toList (Int.toNat i) 0)):Nat):Int)==(46:Int))) fun y1=>
 (if y1=true then
 k c s (IntKind.wrap .i64 (i+(1:Int))) h1
 else
 (((0:Int)≤i∧i<(((ByteArray.size t):Nat):Int))∧(((!(decide ((((UInt8.toNat (List.getD t.data.toList (Int.toNat i) 0)):Nat):Int)<(48:Int))))=true→((0:Int)≤i∧i<(((ByteArray.size t):Nat):Int)))∧LetW ((decide ((((UInt8.toNat (List.getD t.data.toList (Int.toNat i) 0)):Nat):Int)<(48:Int))) || (decide ((((UInt8.toNat (List.getD t.data.toList (Int.toNat i) 0)):Nat):Int)>(57:Int)))) fun y2=>
 LetW (y2 || (decide (i>(18:Int)))) fun y3=>
 (if y3=true then
 Q (0:Int) (0:Int) false h1
 else
 (((0:Int)≤i∧i<(((ByteArray.size t):Nat):Int))∧JoinW1 (α1:=Int) (fun k1=>
 (if (decide (i>(1:Int)))=true then
 k1 (IntKind.wrap .i64 (s-(1:Int))) h1
 else
 k1 s h1))
 (fun s1 h2=>
 k (IntKind.wrap .u64 ((IntKind.wrap .u64 ((10:Int)*c))+(IntKind.wrap .u64 (IntKind.wrap .u8 ((((UInt8.toNat (List.getD t.data.toList (Int.toNat i) 0)):Nat):Int)-(48:Int)))))) s1 (IntKind.wrap .i64 (i+(1:Int))) h2))))))))
 (fun c1 s1 i1 h2=>
 again c1 s1 i1 h2)
 else
 (((decide ((IntKind.wrap .i64 (i+(1:Int)))<(((ByteArray.size t):Nat):Int)))=true→((0:Int)≤(IntKind.wrap .i64 (i+(1:Int)))∧(IntKind.wrap .i64 (i+(1:Int)))<(((ByteArray.size t):Nat):Int)))∧LetW ((decide ((IntKind.wrap .i64 (i+(1:Int)))<(((ByteArray.size t):Nat):Int)))&&((((UInt8.toNat (List.getD t.data.toList (Int.toNat (IntKind.wrap .i64 (i+(1:Int)))) 0)):Nat):Int)==(45:Int))) fun y1=>
 JoinW1 (α1:=Int) (fun k=>
 (if y1=true then
 k (IntKind.wrap .i64 ((IntKind.wrap .i64 (i+(1:Int)))+(1:Int))) h1
 else
 k (IntKind.wrap .i64 (i+(1:Int))) h1))
 (fun i1 h2=>
 LetW ((decide (i1≥(((ByteArray.size t):Nat):Int))) || (decide ((IntKind.wrap .i64 ((((ByteArray.size t):Nat):Int)-i1))>(3:Int)))) fun y2=>
 LetW (y2 || (c==(0:Int))) fun y3=>
 (if y3=true then
 Q (0:Int) (0:Int) false h2
 else
 LoopW2 (α1:=Int) (α2:=Int) (fun again1 i2 e h3=>
 (if (decide (i2<(((ByteArray.size t):Nat):Int)))=true then
 (((0:Int)≤i2∧i2<(((ByteArray.size t):Nat):Int))∧(((!(decide ((((UInt8.toNat (List.getD t.data.toList (Int.toNat i2) 0)):Nat):Int)<(48:Int))))=true→((0:Int)≤i2∧i2<(((ByteArray.size t):Nat):Int)))∧LetW ((decide ((((UInt8.toNat (List.getD t.data.toList (Int.toNat i2) 0)):Nat):Int)<(48:Int))) || (decide ((((UInt8.toNat (List.getD t.data.toList (Int.toNat i2) 0)):Nat):Int)>(57:Int)))) fun y4=>
 (if y4=true then
 Q (0:Int) (0:Int) false h3
 else
 (((0:Int)≤i2∧i2<(((ByteArray.size t):Nat):Int))∧again1 (IntKind.wrap .i64 (i2+(1:Int))) (IntKind.wrap .i64 ((IntKind.wrap .i64 ((10:Int)*e))+(IntKind.wrap .i64 (IntKind.wrap .u8 ((((UInt8.toNat (List.getD t.data.toList (Int.toNat i2) 0)):Nat):Int)-(48:Int)))))) h3))))
 else
 (if y1=true then
 Q c (IntKind.wrap .i64 (s+(IntKind.wrap .i64 ((0:Int)-e)))) true h3
 else
 Q c (IntKind.wrap .i64 (s+e)) true h3))) i1 (0:Int) h2)))))) (0:Int) (0:Int) (0:Int) h
def zhk (P:Program) (c:Int) (s:Int) (Q:(Int→(Hp→Prop))) (h:Hp):Prop:=
 LoopW2 (α1:=Int) (α2:=Int) (fun again low high h1=>
 (if (decide (low<high))=true then
 JoinW2 (α1:=Int) (α2:=Int) (fun k=>
 ((2:Int)≠(0:Int)∧CallT P zeg [(.int .u64 (IntKind.wrap .u64 (low+(IntKind.wrap .u64 (Int.tdiv (IntKind.wrap .u64 (high-low)) (2:Int)))))),(.int .u64 c),(.int .i64 s)] (shInt .i64) (fun r h2=>
 (if (r==(0:Int))=true then
 Q (IntKind.wrap .u64 (low+(IntKind.wrap .u64 (Int.tdiv (IntKind.wrap .u64 (high-low)) (2:Int))))) h2
 else
 (if (decide (r<(0:Int)))=true then
 k low (IntKind.wrap .u64 (low+(IntKind.wrap .u64 (Int.tdiv (IntKind.wrap .u64 (high-low)) (2:Int))))) h2
 else
 k (IntKind.wrap .u64 ((IntKind.wrap .u64 (low+(IntKind.wrap .u64 (Int.tdiv (IntKind.wrap .u64 (high-low)) (2:Int)))))+(1:Int))) high h2))) h1))
 (fun low1 high1 h2=>
 again low1 high1 h2)
 else
 CallT P zeg [(.int .u64 low),(.int .u64 c),(.int .i64 s)] (shInt .i64) (fun r h2=>
 (if (r==(0:Int))=true then
 Q low h2
 else
 Q (0:Int) h2)) h1)) (1:Int) (9218868437227405311:Int) h
def zie1 (P:Program) (op:Int) (b:Int) (c:Int) (Q:(Int→(Int→(Hp→Prop)))) (h:Hp):Prop:=
 CallT P zuy [(.int .i64 b)] (shFlt .f64) (fun r h1=>
 CallT P zuy [(.int .i64 c)] (shFlt .f64) (fun r1 h2=>
 (if (op==(15:Int))=true then
 SemE P (binS .add 48 (.tmp 17) (.tmp 18) (.float .f64 r) (.float .f64 r1)) (shFlt .f64) (fun r2 h3=>
 CallT P zqu [(.float .f64 r2)] (shInt .i64) (fun r3 h4=>
 Q r3 (0:Int) h4) h3) h2
 else
 (if (op==(16:Int))=true then
 SemE P (binS .sub 48 (.tmp 23) (.tmp 24) (.float .f64 r) (.float .f64 r1)) (shFlt .f64) (fun r2 h3=>
 CallT P zqu [(.float .f64 r2)] (shInt .i64) (fun r3 h4=>
 Q r3 (0:Int) h4) h3) h2
 else
 (if (op==(17:Int))=true then
 SemE P (binS .mul 48 (.tmp 29) (.tmp 30) (.float .f64 r) (.float .f64 r1)) (shFlt .f64) (fun r2 h3=>
 CallT P zqu [(.float .f64 r2)] (shInt .i64) (fun r3 h4=>
 Q r3 (0:Int) h4) h3) h2
 else
 (if (op==(18:Int))=true then
 SemE P (binS .quo 48 (.tmp 35) (.tmp 36) (.float .f64 r) (.float .f64 r1)) (shFlt .f64) (fun r2 h3=>
 CallT P zqu [(.float .f64 r2)] (shInt .i64) (fun r3 h4=>
 Q r3 (0:Int) h4) h3) h2
 else
 (if (op==(19:Int))=true then
 SemV none P (binS .lss 48 (.tmp 41) (.tmp 42) (.float .f64 r) (.float .f64 r1)) zag h2 fun x=>
 (if x=true then
 Q (1:Int) (0:Int) h2
 else
 Q (0:Int) (0:Int) h2)
 else
 (if (op==(20:Int))=true then
 SemV none P (convert 2 48 (.int .i64 b)) (shFlt .f64) h2 fun x=>
 CallT P zqu [(.float .f64 x)] (shInt .i64) (fun r2 h3=>
 Q r2 (0:Int) h3) h2
 else
 (if (op==(21:Int))=true then
 CallT P zee1 [(.float .f64 r)] (shInt .i64) (fun r2 h3=>
 Q r2 (0:Int) h3) h2
 else
 Q (0:Int) (9:Int) h2)))))))) h1) h
def zpr (P:Program) (i:Int) (base:Int) (Q:(ByteArray→(Hp→Prop))) (h:Hp):Prop:=
 CallT P zim [(.int .u64 i),(.int .i64 base)] shStr (fun r h1=>
 Q r h1) h
def zvv (P:Program) (s:ByteArray) (count:Int) (Q:(ByteArray→(Hp→Prop))) (h:Hp):Prop:=
 (if (count==(0:Int))=true then
 Q ⟨#[]⟩ h
 else
 (if (count==(1:Int))=true then
 Q s h
 else
 JoinW0 (fun k=>
 (if (decide (count<(0:Int)))=true then
 False
 else
 k h))
 (fun h1=>
 Call2 P zef1 [(.int .u64 (IntKind.wrap .u64 (((ByteArray.size s):Nat):Int))),(.int .u64 (IntKind.wrap .u64 count))] (shInt .u64) (shInt .u64) (fun r r1 h2=>
 JoinW0 (fun k=>
 LetW ((decide (r>(0:Int))) || (decide (r1>(9223372036854775807:Int)))) fun y=>
 (if y=true then
 False
 else
 k h2))
 (fun h3=>
 (if ((((ByteArray.size s):Nat):Int)==(0:Int))=true then
 Q ⟨#[]⟩ h3
 else
 (((0:Int)≤(0:Int)∧(0:Int)<(((ByteArray.size s):Nat):Int))∧JoinW0 (fun k=>
 JoinW1 (α1:=Bool) (fun k1=>
 (if ((((UInt8.toNat (List.getD s.data.toList 0 0)):Nat):Int)==(32:Int))=true then
 k1 ((((UInt8.toNat (List.getD s.data.toList 0 0)):Nat):Int)==(32:Int)) h3
 else
 (if ((((UInt8.toNat (List.getD s.data.toList 0 0)):Nat):Int)==(45:Int))=true then
 k1 ((((UInt8.toNat (List.getD s.data.toList 0 0)):Nat):Int)==(45:Int)) h3
 else
 (if ((((UInt8.toNat (List.getD s.data.toList 0 0)):Nat):Int)==(48:Int))=true then
 k1 ((((UInt8.toNat (List.getD s.data.toList 0 0)):Nat):Int)==(48:Int)) h3
 else
 (if ((((UInt8.toNat (List.getD s.data.toList 0 0)):Nat):Int)==(61:Int))=true then
 k1 ((((UInt8.toNat (List.getD s.data.toList 0 0)):Nat):Int)==(61:Int)) h3
 else
 k1 ((((UInt8.toNat (List.getD s.data.toList 0 0)):Nat):Int)==(9:Int)) h3)))))
 (fun t43 h4=>
 (if t43=true then
 EffC (some (decide ((IntKind.wrap .i64 r1)≤(128:Int)))) (CallT P zfq [(.string ⟨#[32,32,32,32,32,32,32,32,32,32,32,32,32,32,32,32,32,32,32,32,32,32,32,32,32,32,32,32,32,32,32,32,32,32,32,32,32,32,32,32,32,32,32,32,32,32,32,32,32,32,32,32,32,32,32,32,32,32,32,32,32,32,32,32,32,32,32,32,32,32,32,32,32,32,32,32,32,32,32,32,32,32,32,32,32,32,32,32,32,32,32,32,32,32,32,32,32,32,32,32,32,32,32,32,32,32,32,32,32,32,32,32,32,32,32,32,32,32,32,32,32,32,32,32,32,32,32,32]⟩),(.string s)] zag) (fun r2 h5=>
 LetW ((decide ((IntKind.wrap .i64 r1)≤(128:Int)))&&r2) fun y=>
 (if y=true then
 (((0:Int)≤(IntKind.wrap .i64 r1)∧(IntKind.wrap .i64 r1)≤(128:Int))∧Q (ByteArray.extract ⟨#[32,32,32,32,32,32,32,32,32,32,32,32,32,32,32,32,32,32,32,32,32,32,32,32,32,32,32,32,32,32,32,32,32,32,32,32,32,32,32,32,32,32,32,32,32,32,32,32,32,32,32,32,32,32,32,32,32,32,32,32,32,32,32,32,32,32,32,32,32,32,32,32,32,32,32,32,32,32,32,32,32,32,32,32,32,32,32,32,32,32,32,32,32,32,32,32,32,32,32,32,32,32,32,32,32,32,32,32,32,32,32,32,32,32,32,32,32,32,32,32,32,32,32,32,32,32,32,32]⟩ 0 (Int.toNat (IntKind.wrap .i64 r1))) h5)
 else
 EffC (some (decide ((IntKind.wrap .i64 r1)≤(128:Int)))) (CallT P zfq [(.string ⟨#[45,45,45,45,45,45,45,45,45,45,45,45,45,45,45,45,45,45,45,45,45,45,45,45,45,45,45,45,45,45,45,45,45,45,45,45,45,45,45,45,45,45,45,45,45,45,45,45,45,45,45,45,45,45,45,45,45,45,45,45,45,45,45,45,45,45,45,45,45,45,45,45,45,45,45,45,45,45,45,45,45,45,45,45,45,45,45,45,45,45,45,45,45,45,45,45,45,45,45,45,45,45,45,45,45,45,45,45,45,45,45,45,45,45,45,45,45,45,45,45,45,45,45,45,45,45,45,45]⟩),(.string s)] zag) (fun r3 h6=>
 LetW ((decide ((IntKind.wrap .i64 r1)≤(128:Int)))&&r3) fun y1=>
 (if y1=true then
 (((0:Int)≤(IntKind.wrap .i64 r1)∧(IntKind.wrap .i64 r1)≤(128:Int))∧Q (ByteArray.extract ⟨#[45,45,45,45,45,45,45,45,45,45,45,45,45,45,45,45,45,45,45,45,45,45,45,45,45,45,45,45,45,45,45,45,45,45,45,45,45,45,45,45,45,45,45,45,45,45,45,45,45,45,45,45,45,45,45,45,45,45,45,45,45,45,45,45,45,45,45,45,45,45,45,45,45,45,45,45,45,45,45,45,45,45,45,45,45,45,45,45,45,45,45,45,45,45,45,45,45,45,45,45,45,45,45,45,45,45,45,45,45,45,45,45,45,45,45,45,45,45,45,45,45,45,45,45,45,45,45,45]⟩ 0 (Int.toNat (IntKind.wrap .i64 r1))) h6)
 else
 EffC (some (decide ((IntKind.wrap .i64 r1)≤(64:Int)))) (CallT P zfq [(.string ⟨#[48,48,48,48,48,48,48,48,48,48,48,48,48,48,48,48,48,48,48,48,48,48,48,48,48,48,48,48,48,48,48,48,48,48,48,48,48,48,48,48,48,48,48,48,48,48,48,48,48,48,48,48,48,48,48,48,48,48,48,48,48,48,48,48]⟩),(.string s)] zag) (fun r4 h7=>
 LetW ((decide ((IntKind.wrap .i64 r1)≤(64:Int)))&&r4) fun y2=>
 (if y2=true then
 (((0:Int)≤(IntKind.wrap .i64 r1)∧(IntKind.wrap .i64 r1)≤(64:Int))∧Q (ByteArray.extract ⟨#[48,48,48,48,48,48,48,48,48,48,48,48,48,48,48,48,48,48,48,48,48,48,48,48,48,48,48,48,48,48,48,48,48,48,48,48,48,48,48,48,48,48,48,48,48,48,48,48,48,48,48,48,48,48,48,48,48,48,48,48,48,48,48,48]⟩ 0 (Int.toNat (IntKind.wrap .i64 r1))) h7)
 else
 EffC (some (decide ((IntKind.wrap .i64 r1)≤(128:Int)))) (CallT P zfq [(.string ⟨#[61,61,61,61,61,61,61,61,61,61,61,61,61,61,61,61,61,61,61,61,61,61,61,61,61,61,61,61,61,61,61,61,61,61,61,61,61,61,61,61,61,61,61,61,61,61,61,61,61,61,61,61,61,61,61,61,61,61,61,61,61,61,61,61,61,61,61,61,61,61,61,61,61,61,61,61,61,61,61,61,61,61,61,61,61,61,61,61,61,61,61,61,61,61,61,61,61,61,61,61,61,61,61,61,61,61,61,61,61,61,61,61,61,61,61,61,61,61,61,61,61,61,61,61,61,61,61,61]⟩),(.string s)] zag) (fun r5 h8=>
 LetW ((decide ((IntKind.wrap .i64 r1)≤(128:Int)))&&r5) fun y3=>
 (if y3=true then
 (((0:Int)≤(IntKind.wrap .i64 r1)∧(IntKind.wrap .i64 r1)≤(128:Int))∧Q (ByteArray.extract ⟨#[61,61,61,61,61,61,61,61,61,61,61,61,61,61,61,61,61,61,61,61,61,61,61,61,61,61,61,61,61,61,61,61,61,61,61,61,61,61,61,61,61,61,61,61,61,61,61,61,61,61,61,61,61,61,61,61,61,61,61,61,61,61,61,61,61,61,61,61,61,61,61,61,61,61,61,61,61,61,61,61,61,61,61,61,61,61,61,61,61,61,61,61,61,61,61,61,61,61,61,61,61,61,61,61,61,61,61,61,61,61,61,61,61,61,61,61,61,61,61,61,61,61,61,61,61,61,61,61]⟩ 0 (Int.toNat (IntKind.wrap .i64 r1))) h8)
 else
 EffC (some (decide ((IntKind.wrap .i64 r1)≤(64:Int)))) (CallT P zfq [(.string ⟨#[9,9,9,9,9,9,9,9,9,9,9,9,9,9,9,9,9,9,9,9,9,9,9,9,9,9,9,9,9,9,9,9,9,9,9,9,9,9,9,9,9,9,9,9,9,9,9,9,9,9,9,9,9,9,9,9,9,9,9,9,9,9,9,9]⟩),(.string s)] zag) (fun r6 h9=>
 LetW ((decide ((IntKind.wrap .i64 r1)≤(64:Int)))&&r6) fun y4=>
 (if y4=true then
 (((0:Int)≤(IntKind.wrap .i64 r1)∧(IntKind.wrap .i64 r1)≤(64:Int))∧Q (ByteArray.extract ⟨#[9,9,9,9,9,9,9,9,9,9,9,9,9,9,9,9,9,9,9,9,9,9,9,9,9,9,9,9,9,9,9,9,9,9,9,9,9,9,9,9,9,9,9,9,9,9,9,9,9,9,9,9,9,9,9,9,9,9,9,9,9,9,9,9]⟩ 0 (Int.toNat (IntKind.wrap .i64 r1))) h9)
 else
 k h9)) h8)) h7)) h6)) h5)) h4
 else
 k h4)))
 (fun h4=>
 JoinW1 (α1:=Int) (fun k=>
 (if (decide ((IntKind.wrap .i64 r1)>(8192:Int)))=true then
 ((((ByteArray.size s):Nat):Int)≠(0:Int)∧(if ((IntKind.wrap .i64 ((IntKind.wrap .i64 (Int.tdiv (8192:Int) (((ByteArray.size s):Nat):Int)))*(((ByteArray.size s):Nat):Int)))==(0:Int))=true then
 k (((ByteArray.size s):Nat):Int) h4
 else
 k (IntKind.wrap .i64 ((IntKind.wrap .i64 (Int.tdiv (8192:Int) (((ByteArray.size s):Nat):Int)))*(((ByteArray.size s):Nat):Int))) h4))
 else
 k (IntKind.wrap .i64 r1) h4))
 (fun chunkMax h5=>
 NewTW 76 [(.pointer none),(.slice none 0 0)] (fun a h6=>
 Call0 P zvx [(.pointer (some a)),(.int .i64 (IntKind.wrap .i64 r1))] (fun h7=>
 Call2 P zil [(.pointer (some a)),(.string s)] (shInt .i64) zal (fun r2 r3 h8=>
 LoopW0 (fun again h9=>
 CallT P zjp [(.pointer (some a))] (shInt .i64) (fun r4 h10=>
 (if (decide (r4<(IntKind.wrap .i64 r1)))=true then
 CallT P zjp [(.pointer (some a))] (shInt .i64) (fun r5 h11=>
 CallT P zjp [(.pointer (some a))] (shInt .i64) (fun r6 h12=>
 CallT P zlo [(.pointer (some a))] shStr (fun r7 h13=>
 (((0:Int)≤(min2I (min2I (IntKind.wrap .i64 ((IntKind.wrap .i64 r1)-r5)) r6) chunkMax)∧(min2I (min2I (IntKind.wrap .i64 ((IntKind.wrap .i64 r1)-r5)) r6) chunkMax)≤(((ByteArray.size r7):Nat):Int))∧Call2 P zil [(.pointer (some a)),(.string (ByteArray.extract r7 0 (Int.toNat (min2I (min2I (IntKind.wrap .i64 ((IntKind.wrap .i64 r1)-r5)) r6) chunkMax))))] (shInt .i64) zal (fun r8 r9 h14=>
 again h14) h13)) h12) h11) h10
 else
 CallT P zlo [(.pointer (some a))] shStr (fun r5 h11=>
 Q r5 h11) h10)) h9)  h8) h7) h6) h5)))))) h1)))
def zki (P:Program) (s:ByteArray) (sep:ByteArray) (Q:(ByteArray→(ByteArray→(Bool→(Hp→Prop))))) (h:Hp):Prop:=
 CallT P zjc [(.string s),(.string sep)] (shInt .i64) (fun r h1=>
 (if (decide (r≥(0:Int)))=true then
 (((0:Int)≤r∧r≤(((ByteArray.size s):Nat):Int))∧(((0:Int)≤(IntKind.wrap .i64 (r+(((ByteArray.size sep):Nat):Int)))∧(IntKind.wrap .i64 (r+(((ByteArray.size sep):Nat):Int)))≤(((ByteArray.size s):Nat):Int))∧Q (ByteArray.extract s 0 (Int.toNat r)) (ByteArray.extract s (Int.toNat (IntKind.wrap .i64 (r+(((ByteArray.size sep):Nat):Int)))) (ByteArray.size s)) true h1))
 else
 Q s ⟨#[]⟩ false h1)) h
def zel (P:Program) (f:Nat) (fmt:Int) (prec:Int) (bitSize:Int) (Q:(ByteArray→(Hp→Prop))) (h:Hp):Prop:=
 (if (bitSize==(32:Int))=true then
 MakeW 1 [(.int .u8 (0:Int))] (0:Int) (max2I (IntKind.wrap .i64 (prec+(4:Int))) (24:Int)) (fun r h1=>
 SemV none P (convert 48 120 (.float .f64 f)) (shFlt .f32) h1 fun x=>
 CallT P zso [r.v,(.float .f32 x),(.int .u8 fmt),(.int .i64 prec)] shSl (fun r1 h2=>
 SemV none P (convert 74 9 r1.v) shStr h2 fun x1=>
 Q x1 h2) h1) h
 else
 (if (bitSize==(64:Int))=true then
 MakeW 1 [(.int .u8 (0:Int))] (0:Int) (max2I (IntKind.wrap .i64 (prec+(4:Int))) (24:Int)) (fun r h1=>
 CallT P zkr [r.v,(.float .f64 f),(.int .u8 fmt),(.int .i64 prec)] shSl (fun r1 h2=>
 SemV none P (convert 74 9 r1.v) shStr h2 fun x=>
 Q x h2) h1) h
 else
 False))
def zml (P:Program) (s:ByteArray) (Q:(Int→(Leaf→(Hp→Prop)))) (h:Hp):Prop:=
 LetW ((decide ((0:Int)<(((ByteArray.size s):Nat):Int)))&&(decide ((((ByteArray.size s):Nat):Int)<(10:Int)))) fun y=>
 LetW (false&&y) fun y1=>
 LetW ((decide ((0:Int)<(((ByteArray.size s):Nat):Int)))&&(decide ((((ByteArray.size s):Nat):Int)<(19:Int)))) fun y2=>
 LetW (true&&y2) fun y3=>
 LetW (y1 || y3) fun y4=>
 (if y4=true then
 JoinW1 (α1:=ByteArray) (fun k=>
 (((0:Int)≤(0:Int)∧(0:Int)<(((ByteArray.size s):Nat):Int))∧(((!((((UInt8.toNat (List.getD s.data.toList 0 0)):Nat):Int)==(45:Int)))=true→((0:Int)≤(0:Int)∧(0:Int)<(((ByteArray.size s):Nat):Int)))∧LetW (((((UInt8.toNat (List.getD s.data.toList 0 0)):Nat):Int)==(45:Int)) || ((((UInt8.toNat (List.getD s.data.toList 0 0)):Nat):Int)==(43:Int))) fun y5=>
 (if y5=true then
 (((0:Int)≤(1:Int)∧(1:Int)≤(((ByteArray.size s):Nat):Int))∧(if (decide ((((ByteArray.size (ByteArray.extract s 1 (ByteArray.size s))):Nat):Int)<(1:Int)))=true then
 EncW zal (.iface 122 (.int .i64 (2:Int))) fun e=>
 Q (0:Int) e h
 else
 k (ByteArray.extract s 1 (ByteArray.size s)) h))
 else
 k s h))))
 (fun s1 h1=>
 zof1 s1 (fun r h2=>
 LoopW2 (α1:=Int) (α2:=Int) (fun again n t49 h3=>
 (if (decide (t49<((r.len:Nat):Int)))=true then
 ((InB r.base r.len t49)∧LdW none (shInt .u8) h3 (sat r.base 1 t49) fun x=>
 (if (decide ((IntKind.wrap .u8 (x-(48:Int)))>(9:Int)))=true then
 EncW zal (.iface 122 (.int .i64 (2:Int))) fun e=>
 Q (0:Int) e h3
 else
 again (IntKind.wrap .i64 ((IntKind.wrap .i64 (n*(10:Int)))+(IntKind.wrap .i64 (IntKind.wrap .u8 (x-(48:Int)))))) (IntKind.wrap .i64 (t49+(1:Int))) h3))
 else
 (((0:Int)≤(0:Int)∧(0:Int)<(((ByteArray.size s):Nat):Int))∧(if ((((UInt8.toNat (List.getD s.data.toList 0 0)):Nat):Int)==(45:Int))=true then
 EncW zal .nilIface fun e=>
 Q (IntKind.wrap .i64 ((0:Int)-n)) e h3
 else
 EncW zal .nilIface fun e=>
 Q n e h3)))) (0:Int) (0:Int) h2) h1)
 else
 Call2 P zre [(.string s),(.int .i64 (10:Int)),(.int .i64 (0:Int))] (shInt .i64) zal (fun r r1 h1=>
 EncW zal r1.v fun e=>
 Q r e h1) h)
def zmm (P:Program) (i:Int) (Q:(ByteArray→(Hp→Prop))) (h:Hp):Prop:=
 CallT P zjd [(.int .i64 i),(.int .i64 (10:Int))] shStr (fun r h1=>
 Q r h1) h
def zie (P:Program) (b:Int) (Q:(Int→(Int→(Hp→Prop)))) (h:Hp):Prop:=
 CallT P zpq [(.int .u64 b)] (shInt .i64) (fun r h1=>
 LoopW1 (α1:=Int) (fun again n h2=>
 (if (decide (n≤(17:Int)))=true then
 Call2 P zit [(.int .u64 b),(.int .i64 (IntKind.wrap .i64 ((IntKind.wrap .i64 (r-n))+(1:Int))))] (shInt .u64) (shInt .i64) (fun r1 r2 h3=>
 CallT P zeg [(.int .u64 b),(.int .u64 r1),(.int .i64 (IntKind.wrap .i64 ((IntKind.wrap .i64 (r-n))+(1:Int))))] (shInt .i64) (fun r3 h4=>
 CallT P zeg [(.int .u64 b),(.int .u64 (IntKind.wrap .u64 (r1+(1:Int)))),(.int .i64 (IntKind.wrap .i64 ((IntKind.wrap .i64 (r-n))+(1:Int))))] (shInt .i64) (fun r4 h5=>
 LetW ((!(r3==(0:Int)))&&(!(r4==(0:Int)))) fun y=>
 (if y=true then
 again (IntKind.wrap .i64 (n+(1:Int))) h5
 else
 JoinW1 (α1:=Int) (fun k=>
 ((((((!(!(r3==(0:Int))))&&(r4==(0:Int)))&&(!(decide (r2>(0:Int)))))&&(r2==(0:Int)))=true→(2:Int)≠(0:Int))∧LetW ((r2==(0:Int))&&((Int.tmod r1 (2:Int))==(1:Int))) fun y1=>
 LetW ((decide (r2>(0:Int))) || y1) fun y2=>
 LetW ((r4==(0:Int))&&y2) fun y3=>
 LetW ((!(r3==(0:Int))) || y3) fun y4=>
 (if y4=true then
 k (IntKind.wrap .u64 (r1+(1:Int))) h5
 else
 k r1 h5)))
 (fun c h6=>
 LoopW2 (α1:=Int) (α2:=Int) (fun again1 s c1 h7=>
 ((10:Int)≠(0:Int)∧(if ((Int.tmod c1 (10:Int))==(0:Int))=true then
 ((10:Int)≠(0:Int)∧again1 (IntKind.wrap .i64 (s+(1:Int))) (IntKind.wrap .u64 (Int.tdiv c1 (10:Int))) h7)
 else
 CallT P zdg [(.int .u64 c1)] shStr (fun r5 h8=>
 Q c1 (IntKind.wrap .i64 ((IntKind.wrap .i64 (s+(((ByteArray.size r5):Nat):Int)))-(1:Int))) h8) h7))) (IntKind.wrap .i64 ((IntKind.wrap .i64 (r-n))+(1:Int))) c h6))) h4) h3) h2
 else
 Q (0:Int) (0:Int) h2)) (1:Int) h1) h
def zif (P:Program) (n:Int) (Q:(ByteArray→(Hp→Prop))) (h:Hp):Prop:=
 NewW [] (fun a h1=>
 LoopW2 (α1:=Int) (α2:=Sl) (fun again n1 b h2=>
 (if (decide (n1≥(10:Int)))=true then
 ((10:Int)≠(0:Int)∧NewW [(.int .u8 (IntKind.wrap .u8 (IntKind.wrap .u64 ((48:Int)+(Int.tmod n1 (10:Int))))))] (fun a1 h3=>
 zca 1 1 [(.int .u8 (0:Int))] ⟨b.base,b.len,b.cap⟩ ⟨(some a1),1,1⟩ (fun r h4=>
 ((10:Int)≠(0:Int)∧again (IntKind.wrap .u64 (Int.tdiv n1 (10:Int))) r h4)) h3) h2)
 else
 NewW [(.int .u8 (IntKind.wrap .u8 (IntKind.wrap .u64 ((48:Int)+n1))))] (fun a1 h3=>
 zca 1 1 [(.int .u8 (0:Int))] ⟨b.base,b.len,b.cap⟩ ⟨(some a1),1,1⟩ (fun r h4=>
 LoopW1 (α1:=Int) (fun again1 i h5=>
 ((2:Int)≠(0:Int)∧(if (decide (i<(IntKind.wrap .i64 (Int.tdiv ((r.len:Nat):Int) (2:Int)))))=true then
 ((InB r.base r.len i)∧LdW none (shInt .u8) h5 (sat r.base 1 i) fun x=>
 ((InB r.base r.len (IntKind.wrap .i64 ((IntKind.wrap .i64 (((r.len:Nat):Int)-(1:Int)))-i)))∧LdW none (shInt .u8) h5 (sat r.base 1 (IntKind.wrap .i64 ((IntKind.wrap .i64 (((r.len:Nat):Int)-(1:Int)))-i))) fun x1=>
 ((InB r.base r.len i)∧StW h5 (sat r.base 1 i) [(.int .u8 x1)] (fun h6=>
 ((InB r.base r.len (IntKind.wrap .i64 ((IntKind.wrap .i64 (((r.len:Nat):Int)-(1:Int)))-i)))∧StW h6 (sat r.base 1 (IntKind.wrap .i64 ((IntKind.wrap .i64 (((r.len:Nat):Int)-(1:Int)))-i))) [(.int .u8 x)] (fun h7=>
 again1 (IntKind.wrap .i64 (i+(1:Int))) h7))))))
 else
 SemV none P (convert 74 9 r.v) shStr h5 fun x=>
 Q x h5))) (0:Int) h4) h3) h2)) n ⟨(some a),0,0⟩ h1) h
def zdn (P:Program) (s:ByteArray) (prefix_:ByteArray) (Q:(ByteArray→(Bool→(Hp→Prop)))) (h:Hp):Prop:=
 CallT P zgx [(.string s),(.string prefix_)] zag (fun r h1=>
 (if (!r)=true then
 Q s false h1
 else
 (((0:Int)≤(((ByteArray.size prefix_):Nat):Int)∧(((ByteArray.size prefix_):Nat):Int)≤(((ByteArray.size s):Nat):Int))∧Q (ByteArray.extract s (Int.toNat (((ByteArray.size prefix_):Nat):Int)) (ByteArray.size s)) true h1))) h
def zby (P:Program) (s:ByteArray) (base:Int) (bitSize:Int) (Q:(Int→(Leaf→(Hp→Prop)))) (h:Hp):Prop:=
 (if ((ByteArray.toList s)==(ByteArray.toList ⟨#[]⟩))=true then
 EncW zal (.iface 122 (.int .i64 (2:Int))) fun e=>
 Q (0:Int) e h
 else
 JoinW2 (α1:=ByteArray) (α2:=Int) (fun k=>
 LetW ((decide ((2:Int)≤base))&&(decide (base≤(36:Int)))) fun y=>
 (if y=true then
 k s base h
 else
 (if (base==(0:Int))=true then
 (((0:Int)≤(0:Int)∧(0:Int)<(((ByteArray.size s):Nat):Int))∧(if ((((UInt8.toNat (List.getD s.data.toList 0 0)):Nat):Int)==(48:Int))=true then
 JoinW2 (α1:=ByteArray) (α2:=Int) (fun k1=>
 (((decide ((((ByteArray.size s):Nat):Int)≥(3:Int)))=true→((0:Int)≤(1:Int)∧(1:Int)<(((ByteArray.size s):Nat):Int)))∧EffC (some (decide ((((ByteArray.size s):Nat):Int)≥(3:Int)))) (CallT P zae [(.int .u8 (((UInt8.toNat (List.getD s.data.toList 1 0)):Nat):Int))] (shInt .u8)) (fun r h1=>
 LetW ((decide ((((ByteArray.size s):Nat):Int)≥(3:Int)))&&(r==(98:Int))) fun y1=>
 (if y1=true then
 (((0:Int)≤(2:Int)∧(2:Int)≤(((ByteArray.size s):Nat):Int))∧k1 (ByteArray.extract s 2 (ByteArray.size s)) (2:Int) h1)
 else
 (((decide ((((ByteArray.size s):Nat):Int)≥(3:Int)))=true→((0:Int)≤(1:Int)∧(1:Int)<(((ByteArray.size s):Nat):Int)))∧EffC (some (decide ((((ByteArray.size s):Nat):Int)≥(3:Int)))) (CallT P zae [(.int .u8 (((UInt8.toNat (List.getD s.data.toList 1 0)):Nat):Int))] (shInt .u8)) (fun r1 h2=>
 LetW ((decide ((((ByteArray.size s):Nat):Int)≥(3:Int)))&&(r1==(111:Int))) fun y2=>
 (if y2=true then
 (((0:Int)≤(2:Int)∧(2:Int)≤(((ByteArray.size s):Nat):Int))∧k1 (ByteArray.extract s 2 (ByteArray.size s)) (8:Int) h2)
 else
 (((decide ((((ByteArray.size s):Nat):Int)≥(3:Int)))=true→((0:Int)≤(1:Int)∧(1:Int)<(((ByteArray.size s):Nat):Int)))∧EffC (some (decide ((((ByteArray.size s):Nat):Int)≥(3:Int)))) (CallT P zae [(.int .u8 (((UInt8.toNat (List.getD s.data.toList 1 0)):Nat):Int))] (shInt .u8)) (fun r2 h3=>
 LetW ((decide ((((ByteArray.size s):Nat):Int)≥(3:Int)))&&(r2==(120:Int))) fun y3=>
 (if y3=true then
 (((0:Int)≤(2:Int)∧(2:Int)≤(((ByteArray.size s):Nat):Int))∧k1 (ByteArray.extract s 2 (ByteArray.size s)) (16:Int) h3)
 else
 (((0:Int)≤(1:Int)∧(1:Int)≤(((ByteArray.size s):Nat):Int))∧k1 (ByteArray.extract s 1 (ByteArray.size s)) (8:Int) h3))) h2))) h1))) h))
 (fun s1 base1 h1=>
 k s1 base1 h1)
 else
 k s (10:Int) h))
 else
 EncW zal (.iface 122 (.int .i64 (3:Int))) fun e=>
 Q (0:Int) e h)))
 (fun s1 base1 h1=>
 JoinW1 (α1:=Int) (fun k=>
 (if (bitSize==(0:Int))=true then
 k (64:Int) h1
 else
 LetW ((decide (bitSize<(0:Int))) || (decide (bitSize>(64:Int)))) fun y=>
 (if y=true then
 EncW zal (.iface 122 (.int .i64 (4:Int))) fun e=>
 Q (0:Int) e h1
 else
 k bitSize h1)))
 (fun bitSize1 h2=>
 JoinW1 (α1:=Int) (fun k=>
 (if (base1==(10:Int))=true then
 k (1844674407370955162:Int) h2
 else
 (if (base1==(16:Int))=true then
 k (1152921504606846976:Int) h2
 else
 ((IntKind.wrap .u64 base1)≠(0:Int)∧k (IntKind.wrap .u64 ((IntKind.wrap .u64 (Int.tdiv (18446744073709551615:Int) (IntKind.wrap .u64 base1)))+(1:Int))) h2))))
 (fun cutoff h3=>
 ((0:Int)≤(IntKind.wrap .u64 bitSize1)∧zof1 s1 (fun r h4=>
 LoopW3 (α1:=Bool) (α2:=Int) (α3:=Int) (fun again underscores n t101 h5=>
 (if (decide (t101<((r.len:Nat):Int)))=true then
 JoinW2 (α1:=Bool) (α2:=Int) (fun k=>
 ((InB r.base r.len t101)∧LdW none (shInt .u8) h5 (sat r.base 1 t101) fun x=>
 JoinW2 (α1:=Bool) (α2:=Int) (fun k1=>
 LetW ((x==(95:Int))&&(base==(0:Int))) fun y=>
 (if y=true then
 k true n h5
 else
 LetW ((decide ((48:Int)≤x))&&(decide (x≤(57:Int)))) fun y1=>
 (if y1=true then
 k1 underscores (IntKind.wrap .u8 (x-(48:Int))) h5
 else
 CallT P zae [(.int .u8 x)] (shInt .u8) (fun r1 h6=>
 EffC (some (decide ((97:Int)≤r1))) (CallT P zae [(.int .u8 x)] (shInt .u8)) (fun r2 h7=>
 LetW ((decide ((97:Int)≤r1))&&(decide (r2≤(122:Int)))) fun y2=>
 (if y2=true then
 CallT P zae [(.int .u8 x)] (shInt .u8) (fun r3 h8=>
 k1 underscores (IntKind.wrap .u8 ((IntKind.wrap .u8 (r3-(97:Int)))+(10:Int))) h8) h7
 else
 EncW zal (.iface 122 (.int .i64 (2:Int))) fun e=>
 Q (0:Int) e h7)) h6) h5)))
 (fun underscores1 d h6=>
 (if (decide (d≥(IntKind.wrap .u8 base1)))=true then
 EncW zal (.iface 122 (.int .i64 (2:Int))) fun e=>
 Q (0:Int) e h6
 else
 (if (decide (n≥cutoff))=true then
 EncW zal (.iface 122 (.int .i64 (1:Int))) fun e=>
 Q (IntKind.wrap .u64 ((shlI .u64 (1:Int) (IntKind.wrap .u64 bitSize1))-(1:Int))) e h6
 else
 LetW ((decide ((IntKind.wrap .u64 ((IntKind.wrap .u64 (n*(IntKind.wrap .u64 base1)))+(IntKind.wrap .u64 d)))<(IntKind.wrap .u64 (n*(IntKind.wrap .u64 base1))))) || (decide ((IntKind.wrap .u64 ((IntKind.wrap .u64 (n*(IntKind.wrap .u64 base1)))+(IntKind.wrap .u64 d)))>(IntKind.wrap .u64 ((shlI .u64 (1:Int) (IntKind.wrap .u64 bitSize1))-(1:Int)))))) fun y=>
 (if y=true then
 EncW zal (.iface 122 (.int .i64 (1:Int))) fun e=>
 Q (IntKind.wrap .u64 ((shlI .u64 (1:Int) (IntKind.wrap .u64 bitSize1))-(1:Int))) e h6
 else
 k underscores1 (IntKind.wrap .u64 ((IntKind.wrap .u64 (n*(IntKind.wrap .u64 base1)))+(IntKind.wrap .u64 d))) h6))))))
 (fun underscores1 n1 h6=>
 again underscores1 n1 (IntKind.wrap .i64 (t101+(1:Int))) h6)
 else
 EffC (some underscores) (CallT P zdx [(.string s)] zag) (fun r1 h6=>
 LetW (underscores&&(!r1)) fun y=>
 (if y=true then
 EncW zal (.iface 122 (.int .i64 (2:Int))) fun e=>
 Q (0:Int) e h6
 else
 EncW zal .nilIface fun e=>
 Q n e h6)) h5)) false (0:Int) (0:Int) h4) h3)))))
def zcs (P:Program) (s:ByteArray) (bitSize:Int) (Q:(Nat→(Leaf→(Hp→Prop)))) (h:Hp):Prop:=
 Call3 P zct [(.string s),(.int .i64 bitSize)] (shFlt .f64) (shInt .i64) zal (fun r r1 r2 h1=>
 (if (r1 !=(((ByteArray.size s):Nat):Int))=true then
 EncW zal (.iface 122 (.int .i64 (2:Int))) fun e=>
 Q 0 e h1
 else
 EncW zal r2.v fun e=>
 Q r e h1)) h
def zjs (P:Program) (b:Int) (c:Int) (s:Int) (Q:(Int→(Hp→Prop))) (h:Hp):Prop:=
 Call2 P zdu [(.int .u64 b)] (shInt .u64) (shInt .i64) (fun r r1 h1=>
 JoinW1 (α1:=Int) (fun k=>
 (((r==(4503599627370496:Int))=true→(0:Int)≤(52:Int))∧LetW ((r==(4503599627370496:Int))&&(decide ((shrI .u64 b (52:Int))>(1:Int)))) fun y=>
 (if y=true then
 k (IntKind.wrap .u64 ((IntKind.wrap .u64 ((4:Int)*r))-(1:Int))) h1
 else
 k (IntKind.wrap .u64 ((IntKind.wrap .u64 ((4:Int)*r))-(2:Int))) h1)))
 (fun low h2=>
 ((2:Int)≠(0:Int)∧CallT P zeq [(.int .u64 c),(.int .i64 s),(.int .u64 low),(.int .i64 (IntKind.wrap .i64 (r1-(2:Int))))] (shInt .i64) (fun r2 h3=>
 LetW ((r2==(0:Int))&&(!((Int.tmod r (2:Int))==(0:Int)))) fun y=>
 LetW ((decide (r2<(0:Int))) || y) fun y1=>
 (if y1=true then
 Q (-1:Int) h3
 else
 CallT P zeq [(.int .u64 c),(.int .i64 s),(.int .u64 (IntKind.wrap .u64 ((IntKind.wrap .u64 ((4:Int)*r))+(2:Int)))),(.int .i64 (IntKind.wrap .i64 (r1-(2:Int))))] (shInt .i64) (fun r3 h4=>
 LetW ((r3==(0:Int))&&(!((Int.tmod r (2:Int))==(0:Int)))) fun y2=>
 LetW ((decide (r3>(0:Int))) || y2) fun y3=>
 (if y3=true then
 Q (1:Int) h4
 else
 Q (0:Int) h4)) h3)) h2))) h
def zbh1 (P:Program) (f:Nat) (Q:(Int→(Hp→Prop))) (h:Hp):Prop:=
 SemV none P (binS .neq 48 (.tmp 3) (.tmp 4) (.float .f64 f) (.float .f64 f)) zag h fun x=>
 (if x=true then
 Q (9221120237041090560:Int) h
 else
 SemE P (Extern.MathFloatBits.float64bits #[(.float .f64 f)]) (shInt .u64) (fun r h1=>
 Q (IntKind.wrap .i64 r) h1) h)
def zzj (P:Program) (f:Nat) (Q:(Int→(Hp→Prop))) (h:Hp):Prop:=
 SemV none P (binS .neq 48 (.tmp 4) (.tmp 5) (.float .f64 f) (.float .f64 f)) zag h fun x=>
 (if x=true then
 Q (0:Int) h
 else
 SemV none P (binS .geq 48 (.tmp 8) (.const (.float .f64 4890909195324358656)) (.float .f64 f) (.float .f64 4890909195324358656)) zag h fun x1=>
 (if x1=true then
 Q (9223372036854775807:Int) h
 else
 SemV none P (binS .lss 48 (.tmp 11) (.const (.float .f64 14114281232179134464)) (.float .f64 f) (.float .f64 14114281232179134464)) zag h fun x2=>
 (if x2=true then
 Q (-9223372036854775808:Int) h
 else
 SemV none P (convert 48 2 (.float .f64 f)) (shInt .i64) h fun x3=>
 Q x3 h)))
def zio (P:Program) (i:Int) (base:Int) (Q:(ByteArray→(Hp→Prop))) (h:Hp):Prop:=
 (if (base==(10:Int))=true then
 (if (decide (i<(100:Int)))=true then
 CallT P zhh [(.int .i64 (IntKind.wrap .i64 i))] shStr (fun r h1=>
 Q r h1) h
 else
 NewW [(.int .u8 (0:Int)),(.int .u8 (0:Int)),(.int .u8 (0:Int)),(.int .u8 (0:Int)),(.int .u8 (0:Int)),(.int .u8 (0:Int)),(.int .u8 (0:Int)),(.int .u8 (0:Int)),(.int .u8 (0:Int)),(.int .u8 (0:Int)),(.int .u8 (0:Int)),(.int .u8 (0:Int)),(.int .u8 (0:Int)),(.int .u8 (0:Int)),(.int .u8 (0:Int)),(.int .u8 (0:Int)),(.int .u8 (0:Int)),(.int .u8 (0:Int)),(.int .u8 (0:Int)),(.int .u8 (0:Int)),(.int .u8 (0:Int)),(.int .u8 (0:Int)),(.int .u8 (0:Int)),(.int .u8 (0:Int))] (fun a h1=>
 CallT P zbx [(.int .u64 i)] (shInt .i64) (fun r h2=>
 (((0:Int)≤r∧r≤(24:Int))∧LetW (α:=Sl) ⟨(sbase (some a) 1 0 24),((Int.toNat r)-0),24⟩ fun y=>
 Call0 P zbh [y.v,(.int .u64 i)] (fun h3=>
 (((0:Int)≤r∧r≤(24:Int))∧LetW (α:=Sl) ⟨(sbase (some a) 1 0 24),((Int.toNat r)-0),24⟩ fun y1=>
 SemV none P (convert 74 9 y1.v) shStr h3 fun x=>
 Q x h3)) h2)) h1) h)
 else
 Call2 P zcq [(.slice none 0 0),(.int .u64 i),(.int .i64 base),(.bool false),(.bool false)] shSl shStr (fun r r1 h1=>
 Q r1 h1) h)
def zje (P:Program) (s:ByteArray) (substr:ByteArray) (Q:(Int→(Hp→Prop))) (h:Hp):Prop:=
 LetW (((((ByteArray.size substr):Nat):Int)==(0:Int)) || ((ByteArray.toList substr)==(ByteArray.toList s))) fun y=>
 (if y=true then
 Q (0:Int) h
 else
 (if ((((ByteArray.size substr):Nat):Int)==(1:Int))=true then
 (((0:Int)≤(0:Int)∧(0:Int)<(((ByteArray.size substr):Nat):Int))∧CallT P zdl [(.string s),(.int .u8 (((UInt8.toNat (List.getD substr.data.toList 0 0)):Nat):Int))] (shInt .i64) (fun r h1=>
 Q r h1) h)
 else
 (if (decide ((((ByteArray.size substr):Nat):Int)≥(((ByteArray.size s):Nat):Int)))=true then
 Q (-1:Int) h
 else
 LdW none (shInt .i64) h ⟨1,0,none⟩ fun x=>
 LetW ((decide ((((ByteArray.size substr):Nat):Int)≤x))&&(decide ((((ByteArray.size s):Nat):Int)≤(64:Int)))) fun y1=>
 (if y1=true then
 False
 else
 (((0:Int)≤(0:Int)∧(0:Int)<(((ByteArray.size substr):Nat):Int))∧(((0:Int)≤(1:Int)∧(1:Int)<(((ByteArray.size substr):Nat):Int))∧LoopW2 (α1:=Int) (α2:=Int) (fun again i fails h1=>
 (if (decide (i<(IntKind.wrap .i64 ((IntKind.wrap .i64 ((((ByteArray.size s):Nat):Int)-(((ByteArray.size substr):Nat):Int)))+(1:Int)))))=true then
 JoinW1 (α1:=Int) (fun k=>
 (((0:Int)≤i∧i<(((ByteArray.size s):Nat):Int))∧(if ((((UInt8.toNat (List.getD s.data.toList (Int.toNat i) 0)):Nat):Int) !=(((UInt8.toNat (List.getD substr.data.toList 0 0)):Nat):Int))=true then
 (((0:Int)≤(IntKind.wrap .i64 (i+(1:Int)))∧((IntKind.wrap .i64 (i+(1:Int)))≤(IntKind.wrap .i64 ((IntKind.wrap .i64 ((((ByteArray.size s):Nat):Int)-(((ByteArray.size substr):Nat):Int)))+(1:Int)))∧(IntKind.wrap .i64 ((IntKind.wrap .i64 ((((ByteArray.size s):Nat):Int)-(((ByteArray.size substr):Nat):Int)))+(1:Int)))≤(((ByteArray.size s):Nat):Int)))∧CallT P zdl [(.string (ByteArray.extract s (Int.toNat (IntKind.wrap .i64 (i+(1:Int)))) (Int.toNat (IntKind.wrap .i64 ((IntKind.wrap .i64 ((((ByteArray.size s):Nat):Int)-(((ByteArray.size substr):Nat):Int)))+(1:Int)))))),(.int .u8 (((UInt8.toNat (List.getD substr.data.toList 0 0)):Nat):Int))] (shInt .i64) (fun r h2=>
 (if (decide (r<(0:Int)))=true then
 Q (-1:Int) h2
 else
 k (IntKind.wrap .i64 (i+(IntKind.wrap .i64 (r+(1:Int))))) h2)) h1)
 else
 k i h1)))
 (fun i1 h2=>
 (((0:Int)≤(IntKind.wrap .i64 (i1+(1:Int)))∧(IntKind.wrap .i64 (i1+(1:Int)))<(((ByteArray.size s):Nat):Int))∧((((((UInt8.toNat (List.getD s.data.toList (Int.toNat (IntKind.wrap .i64 (i1+(1:Int)))) 0)):Nat):Int)==(((UInt8.toNat (List.getD substr.data.toList 1 0)):Nat):Int))=true→((0:Int)≤i1∧(i1≤(IntKind.wrap .i64 (i1+(((ByteArray.size substr):Nat):Int)))∧(IntKind.wrap .i64 (i1+(((ByteArray.size substr):Nat):Int)))≤(((ByteArray.size s):Nat):Int))))∧LetW (((((UInt8.toNat (List.getD s.data.toList (Int.toNat (IntKind.wrap .i64 (i1+(1:Int)))) 0)):Nat):Int)==(((UInt8.toNat (List.getD substr.data.toList 1 0)):Nat):Int))&&((ByteArray.toList (ByteArray.extract s (Int.toNat i1) (Int.toNat (IntKind.wrap .i64 (i1+(((ByteArray.size substr):Nat):Int))))))==(ByteArray.toList substr))) fun y2=>
 (if y2=true then
 Q i1 h2
 else
 LdW none (shInt .i64) h2 ⟨1,0,none⟩ fun x1=>
 EffC (some (decide ((((ByteArray.size substr):Nat):Int)≤x1))) (CallT P zrs [(.int .i64 (IntKind.wrap .i64 (i1+(1:Int))))] (shInt .i64)) (fun r h3=>
 LetW ((decide ((((ByteArray.size substr):Nat):Int)≤x1))&&(decide ((IntKind.wrap .i64 (fails+(1:Int)))>r))) fun y3=>
 (if y3=true then
 (((0:Int)≤(IntKind.wrap .i64 (i1+(1:Int)))∧(IntKind.wrap .i64 (i1+(1:Int)))≤(((ByteArray.size s):Nat):Int))∧False)
 else
 LdW none (shInt .i64) h3 ⟨1,0,none⟩ fun x2=>
 (((decide ((((ByteArray.size substr):Nat):Int)>x2))=true→(0:Int)≤(4:Int))∧LetW ((decide ((((ByteArray.size substr):Nat):Int)>x2))&&(decide ((IntKind.wrap .i64 (fails+(1:Int)))≥(IntKind.wrap .i64 ((4:Int)+(shrI .i64 (IntKind.wrap .i64 (i1+(1:Int))) (4:Int))))))) fun y4=>
 LetW (y4&&(decide ((IntKind.wrap .i64 (i1+(1:Int)))<(IntKind.wrap .i64 ((IntKind.wrap .i64 ((((ByteArray.size s):Nat):Int)-(((ByteArray.size substr):Nat):Int)))+(1:Int)))))) fun y5=>
 (if y5=true then
 (((0:Int)≤(IntKind.wrap .i64 (i1+(1:Int)))∧(IntKind.wrap .i64 (i1+(1:Int)))≤(((ByteArray.size s):Nat):Int))∧CallT P zjj [(.string (ByteArray.extract s (Int.toNat (IntKind.wrap .i64 (i1+(1:Int)))) (ByteArray.size s))),(.string substr)] (shInt .i64) (fun r1 h4=>
 (if (decide (r1<(0:Int)))=true then
 Q (-1:Int) h4
 else
 Q (IntKind.wrap .i64 ((IntKind.wrap .i64 (i1+(1:Int)))+r1)) h4)) h3)
 else
 again (IntKind.wrap .i64 (i1+(1:Int))) (IntKind.wrap .i64 (fails+(1:Int))) h3)))) h2))))
 else
 Q (-1:Int) h1)) (0:Int) (0:Int) h))))))
def zed (P:Program) (dst:Sl) (val:Nat) (fmt:Int) (prec:Int) (Q:(Sl→(Hp→Prop))) (h:Hp):Prop:=
 JoinW4 (α1:=Int) (α2:=Int) (α3:=Int) (α4:=Int) (fun k=>
 SemE P (Extern.MathFloatBits.float64bits #[(.float .f64 val)]) (shInt .u64) (fun r h1=>
 k r (11:Int) (52:Int) (-1023:Int) h1) h)
 (fun b expBits mantBits bias h1=>
 ((0:Int)≤(IntKind.wrap .i64 (expBits+mantBits))∧((0:Int)≤mantBits∧((0:Int)≤expBits∧((0:Int)≤mantBits∧((0:Int)≤expBits∧(if ((bitsI .and .i64 (IntKind.wrap .i64 (shrI .u64 b mantBits)) (IntKind.wrap .i64 ((shlI .i64 (1:Int) expBits)-(1:Int))))==(IntKind.wrap .i64 ((shlI .i64 (1:Int) expBits)-(1:Int))))=true then
 (if ((bitsI .and .u64 b (IntKind.wrap .u64 ((shlI .u64 (1:Int) mantBits)-(1:Int)))) !=(0:Int))=true then
 zxx 5 dst ⟨#[78,97,78]⟩ (fun r h2=>
 Q r h2) h1
 else
 (if ((shrI .u64 b (IntKind.wrap .i64 (expBits+mantBits))) !=(0:Int))=true then
 zxx 5 dst ⟨#[45,73,110,102]⟩ (fun r h2=>
 Q r h2) h1
 else
 zxx 5 dst ⟨#[43,73,110,102]⟩ (fun r h2=>
 Q r h2) h1))
 else
 JoinW2 (α1:=Int) (α2:=Int) (fun k=>
 (if ((bitsI .and .i64 (IntKind.wrap .i64 (shrI .u64 b mantBits)) (IntKind.wrap .i64 ((shlI .i64 (1:Int) expBits)-(1:Int))))==(0:Int))=true then
 k (IntKind.wrap .i64 ((bitsI .and .i64 (IntKind.wrap .i64 (shrI .u64 b mantBits)) (IntKind.wrap .i64 ((shlI .i64 (1:Int) expBits)-(1:Int))))+(1:Int))) (bitsI .and .u64 b (IntKind.wrap .u64 ((shlI .u64 (1:Int) mantBits)-(1:Int)))) h1
 else
 ((0:Int)≤mantBits∧k (bitsI .and .i64 (IntKind.wrap .i64 (shrI .u64 b mantBits)) (IntKind.wrap .i64 ((shlI .i64 (1:Int) expBits)-(1:Int)))) (bitsI .or .u64 (bitsI .and .u64 b (IntKind.wrap .u64 ((shlI .u64 (1:Int) mantBits)-(1:Int)))) (shlI .u64 (1:Int) mantBits)) h1)))
 (fun exp mant h2=>
 (if (fmt==(98:Int))=true then
 CallT P zva [dst.v,(.bool ((shrI .u64 b (IntKind.wrap .i64 (expBits+mantBits))) !=(0:Int))),(.int .u64 mant),(.int .i64 (IntKind.wrap .i64 ((IntKind.wrap .i64 (exp+bias))-mantBits)))] shSl (fun r h3=>
 Q r h3) h2
 else
 LetW ((fmt==(120:Int)) || (fmt==(88:Int))) fun y=>
 (if y=true then
 CallT P zvb [dst.v,(.int .i64 prec),(.int .u8 fmt),(.bool ((shrI .u64 b (IntKind.wrap .i64 (expBits+mantBits))) !=(0:Int))),(.int .u64 mant),(.int .i64 (IntKind.wrap .i64 (exp+bias))),(.int .i64 mantBits)] shSl (fun r h3=>
 Q r h3) h2
 else
 (if (mant==(0:Int))=true then
 CallT P zck [dst.v,(.bool ((shrI .u64 b (IntKind.wrap .i64 (expBits+mantBits))) !=(0:Int))),(.slice none 0 0),(.int .i64 (0:Int)),(.int .i64 (0:Int)),(.int .i64 prec),(.int .u8 fmt),(.bool (decide (prec<(0:Int))))] shSl (fun r h3=>
 Q r h3) h2
 else
 (if (decide (prec<(0:Int)))=true then
 NewW [(.int .u8 (0:Int)),(.int .u8 (0:Int)),(.int .u8 (0:Int)),(.int .u8 (0:Int)),(.int .u8 (0:Int)),(.int .u8 (0:Int)),(.int .u8 (0:Int)),(.int .u8 (0:Int)),(.int .u8 (0:Int)),(.int .u8 (0:Int)),(.int .u8 (0:Int)),(.int .u8 (0:Int)),(.int .u8 (0:Int)),(.int .u8 (0:Int)),(.int .u8 (0:Int)),(.int .u8 (0:Int)),(.int .u8 (0:Int)),(.int .u8 (0:Int)),(.int .u8 (0:Int)),(.int .u8 (0:Int)),(.int .u8 (0:Int)),(.int .u8 (0:Int)),(.int .u8 (0:Int)),(.int .u8 (0:Int)),(.int .u8 (0:Int)),(.int .u8 (0:Int)),(.int .u8 (0:Int)),(.int .u8 (0:Int)),(.int .u8 (0:Int)),(.int .u8 (0:Int)),(.int .u8 (0:Int)),(.int .u8 (0:Int))] (fun a h3=>
 CallT P zhi [(.int .u64 mant)] (shInt .i64) (fun r h4=>
 ((0:Int)≤(IntKind.wrap .i64 ((64:Int)-r))∧Call2 P zcg [(.int .u64 (shlI .u64 mant (IntKind.wrap .i64 ((64:Int)-r)))),(.int .i64 (IntKind.wrap .i64 ((IntKind.wrap .i64 ((IntKind.wrap .i64 (exp+bias))-(IntKind.wrap .i64 ((64:Int)-r))))-mantBits)))] (shInt .u64) (shInt .i64) (fun r1 r2 h5=>
 LetW (α:=Sl) ⟨(sbase (some a) 1 0 32),32,32⟩ fun y1=>
 CallT P zbx [(.int .u64 r1)] (shInt .i64) (fun r3 h6=>
 Call2 P zcx [y1.v,(.int .u64 r1),(.int .i64 r2),(.int .i64 r3)] (shInt .i64) (shInt .i64) (fun r4 r5 h7=>
 JoinW1 (α1:=Int) (fun k=>
 JoinW1 (α1:=Bool) (fun k1=>
 (if (fmt==(101:Int))=true then
 k1 (fmt==(101:Int)) h7
 else
 k1 (fmt==(69:Int)) h7))
 (fun t149 h8=>
 (if t149=true then
 k (max2I (IntKind.wrap .i64 (r5-(1:Int))) (0:Int)) h8
 else
 (if (fmt==(102:Int))=true then
 k (max2I (IntKind.wrap .i64 (r5-r4)) (0:Int)) h8
 else
 JoinW1 (α1:=Bool) (fun k1=>
 (if (fmt==(103:Int))=true then
 k1 (fmt==(103:Int)) h8
 else
 k1 (fmt==(71:Int)) h8))
 (fun t161 h9=>
 (if t161=true then
 k r5 h9
 else
 k prec h9))))))
 (fun prec1 h8=>
 LetW (α:=Sl) ⟨(sbase (some a) 1 0 32),32,32⟩ fun y2=>
 CallT P zck [dst.v,(.bool ((shrI .u64 b (IntKind.wrap .i64 (expBits+mantBits))) !=(0:Int))),y2.v,(.int .i64 r4),(.int .i64 r5),(.int .i64 prec1),(.int .u8 fmt),(.bool true)] shSl (fun r6 h9=>
 Q r6 h9) h8)) h6) h5) h4)) h3) h2
 else
 JoinW1 (α1:=Int) (fun k=>
 LdW none zag h2 ⟨2,0,none⟩ fun x=>
 (if x=true then
 JoinW2 (α1:=Int) (α2:=Int) (fun k1=>
 (if (fmt==(102:Int))=true then
 (if (decide ((IntKind.wrap .i64 (exp+bias))≥(0:Int)))=true then
 CallT P zbc [(.int .i64 (IntKind.wrap .i64 ((1:Int)+(IntKind.wrap .i64 (exp+bias)))))] (shInt .i64) (fun r h3=>
 k1 prec (IntKind.wrap .i64 ((IntKind.wrap .i64 ((1:Int)+r))+prec)) h3) h2
 else
 CallT P zbc [(.int .i64 (IntKind.wrap .i64 ((0:Int)-(IntKind.wrap .i64 (exp+bias)))))] (shInt .i64) (fun r h3=>
 k1 prec (IntKind.wrap .i64 ((IntKind.wrap .i64 ((1:Int)+prec))-r)) h3) h2)
 else
 JoinW1 (α1:=Bool) (fun k2=>
 (if (fmt==(101:Int))=true then
 k2 (fmt==(101:Int)) h2
 else
 k2 (fmt==(69:Int)) h2))
 (fun t192 h3=>
 (if t192=true then
 k1 prec (IntKind.wrap .i64 (prec+(1:Int))) h3
 else
 JoinW1 (α1:=Bool) (fun k2=>
 (if (fmt==(103:Int))=true then
 k2 (fmt==(103:Int)) h3
 else
 k2 (fmt==(71:Int)) h3))
 (fun t197 h4=>
 (if t197=true then
 JoinW1 (α1:=Int) (fun k2=>
 (if (prec==(0:Int))=true then
 k2 (1:Int) h4
 else
 k2 prec h4))
 (fun prec1 h5=>
 k1 prec1 prec1 h5)
 else
 k1 prec (1:Int) h4))))))
 (fun prec1 digits h3=>
 (if (decide (digits≤(18:Int)))=true then
 NewW [(.int .u8 (0:Int)),(.int .u8 (0:Int)),(.int .u8 (0:Int)),(.int .u8 (0:Int)),(.int .u8 (0:Int)),(.int .u8 (0:Int)),(.int .u8 (0:Int)),(.int .u8 (0:Int)),(.int .u8 (0:Int)),(.int .u8 (0:Int)),(.int .u8 (0:Int)),(.int .u8 (0:Int)),(.int .u8 (0:Int)),(.int .u8 (0:Int)),(.int .u8 (0:Int)),(.int .u8 (0:Int)),(.int .u8 (0:Int)),(.int .u8 (0:Int)),(.int .u8 (0:Int)),(.int .u8 (0:Int)),(.int .u8 (0:Int)),(.int .u8 (0:Int)),(.int .u8 (0:Int)),(.int .u8 (0:Int))] (fun a h4=>
 JoinW2 (α1:=Int) (α2:=Int) (fun k1=>
 (if (decide (digits>(0:Int)))=true then
 CallT P zhi [(.int .u64 mant)] (shInt .i64) (fun r h5=>
 ((0:Int)≤(IntKind.wrap .i64 ((64:Int)-r))∧Call2 P zls [(.int .u64 (shlI .u64 mant (IntKind.wrap .i64 ((64:Int)-r)))),(.int .i64 (IntKind.wrap .i64 ((IntKind.wrap .i64 ((IntKind.wrap .i64 (exp+bias))-(IntKind.wrap .i64 ((64:Int)-r))))-mantBits))),(.int .i64 digits),(.int .i64 prec1),(.int .u8 fmt)] (shInt .u64) (shInt .i64) (fun r1 r2 h6=>
 (if (r1 !=(0:Int))=true then
 LetW (α:=Sl) ⟨(sbase (some a) 1 0 24),24,24⟩ fun y1=>
 CallT P zbx [(.int .u64 r1)] (shInt .i64) (fun r3 h7=>
 Call2 P zcx [y1.v,(.int .u64 r1),(.int .i64 r2),(.int .i64 r3)] (shInt .i64) (shInt .i64) (fun r4 r5 h8=>
 k1 r4 r5 h8) h7) h6
 else
 k1 (0:Int) (0:Int) h6)) h5)) h4
 else
 k1 (0:Int) (0:Int) h4))
 (fun dp nd h5=>
 LetW (α:=Sl) ⟨(sbase (some a) 1 0 24),24,24⟩ fun y1=>
 CallT P zck [dst.v,(.bool ((shrI .u64 b (IntKind.wrap .i64 (expBits+mantBits))) !=(0:Int))),y1.v,(.int .i64 dp),(.int .i64 nd),(.int .i64 prec1),(.int .u8 fmt),(.bool false)] shSl (fun r h6=>
 Q r h6) h5)) h3
 else
 k prec1 h3))
 else
 k prec h2))
 (fun prec1 h3=>
 NewW [(.int .u8 (0:Int)),(.int .u8 (0:Int)),(.int .u8 (0:Int)),(.int .u8 (0:Int)),(.int .u8 (0:Int)),(.int .u8 (0:Int)),(.int .u8 (0:Int)),(.int .u8 (0:Int)),(.int .u8 (0:Int)),(.int .u8 (0:Int)),(.int .u8 (0:Int)),(.int .u8 (0:Int)),(.int .u8 (0:Int)),(.int .u8 (0:Int)),(.int .u8 (0:Int)),(.int .u8 (0:Int)),(.int .u8 (0:Int)),(.int .u8 (0:Int)),(.int .u8 (0:Int)),(.int .u8 (0:Int)),(.int .u8 (0:Int)),(.int .u8 (0:Int)),(.int .u8 (0:Int)),(.int .u8 (0:Int)),(.int .u8 (0:Int)),(.int .u8 (0:Int)),(.int .u8 (0:Int)),(.int .u8 (0:Int)),(.int .u8 (0:Int)),(.int .u8 (0:Int)),(.int .u8 (0:Int)),(.int .u8 (0:Int)),(.int .u8 (0:Int)),(.int .u8 (0:Int)),(.int .u8 (0:Int)),(.int .u8 (0:Int)),(.int .u8 (0:Int)),(.int .u8 (0:Int)),(.int .u8 (0:Int)),(.int .u8 (0:Int)),(.int .u8 (0:Int)),(.int .u8 (0:Int)),(.int .u8 (0:Int)),(.int .u8 (0:Int)),(.int .u8 (0:Int)),(.int .u8 (0:Int)),(.int .u8 (0:Int)),(.int .u8 (0:Int)),(.int .u8 (0:Int)),(.int .u8 (0:Int)),(.int .u8 (0:Int)),(.int .u8 (0:Int)),(.int .u8 (0:Int)),(.int .u8 (0:Int)),(.int .u8 (0:Int)),(.int .u8 (0:Int)),(.int .u8 (0:Int)),(.int .u8 (0:Int)),(.int .u8 (0:Int)),(.int .u8 (0:Int)),(.int .u8 (0:Int)),(.int .u8 (0:Int)),(.int .u8 (0:Int)),(.int .u8 (0:Int)),(.int .u8 (0:Int)),(.int .u8 (0:Int)),(.int .u8 (0:Int)),(.int .u8 (0:Int)),(.int .u8 (0:Int)),(.int .u8 (0:Int)),(.int .u8 (0:Int)),(.int .u8 (0:Int)),(.int .u8 (0:Int)),(.int .u8 (0:Int)),(.int .u8 (0:Int)),(.int .u8 (0:Int)),(.int .u8 (0:Int)),(.int .u8 (0:Int)),(.int .u8 (0:Int)),(.int .u8 (0:Int)),(.int .u8 (0:Int)),(.int .u8 (0:Int)),(.int .u8 (0:Int)),(.int .u8 (0:Int)),(.int .u8 (0:Int)),(.int .u8 (0:Int)),(.int .u8 (0:Int)),(.int .u8 (0:Int)),(.int .u8 (0:Int)),(.int .u8 (0:Int)),(.int .u8 (0:Int)),(.int .u8 (0:Int)),(.int .u8 (0:Int)),(.int .u8 (0:Int)),(.int .u8 (0:Int)),(.int .u8 (0:Int)),(.int .u8 (0:Int)),(.int .u8 (0:Int)),(.int .u8 (0:Int)),(.int .u8 (0:Int)),(.int .u8 (0:Int)),(.int .u8 (0:Int)),(.int .u8 (0:Int)),(.int .u8 (0:Int)),(.int .u8 (0:Int)),(.int .u8 (0:Int)),(.int .u8 (0:Int)),(.int .u8 (0:Int)),(.int .u8 (0:Int)),(.int .u8 (0:Int)),(.int .u8 (0:Int)),(.int .u8 (0:Int)),(.int .u8 (0:Int)),(.int .u8 (0:Int)),(.int .u8 (0:Int)),(.int .u8 (0:Int)),(.int .u8 (0:Int)),(.int .u8 (0:Int)),(.int .u8 (0:Int)),(.int .u8 (0:Int)),(.int .u8 (0:Int)),(.int .u8 (0:Int)),(.int .u8 (0:Int)),(.int .u8 (0:Int)),(.int .u8 (0:Int)),(.int .u8 (0:Int)),(.int .u8 (0:Int)),(.int .u8 (0:Int)),(.int .u8 (0:Int)),(.int .u8 (0:Int)),(.int .u8 (0:Int)),(.int .u8 (0:Int)),(.int .u8 (0:Int)),(.int .u8 (0:Int)),(.int .u8 (0:Int)),(.int .u8 (0:Int)),(.int .u8 (0:Int)),(.int .u8 (0:Int)),(.int .u8 (0:Int)),(.int .u8 (0:Int)),(.int .u8 (0:Int)),(.int .u8 (0:Int)),(.int .u8 (0:Int)),(.int .u8 (0:Int)),(.int .u8 (0:Int)),(.int .u8 (0:Int)),(.int .u8 (0:Int)),(.int .u8 (0:Int)),(.int .u8 (0:Int)),(.int .u8 (0:Int)),(.int .u8 (0:Int)),(.int .u8 (0:Int)),(.int .u8 (0:Int)),(.int .u8 (0:Int)),(.int .u8 (0:Int)),(.int .u8 (0:Int)),(.int .u8 (0:Int)),(.int .u8 (0:Int)),(.int .u8 (0:Int)),(.int .u8 (0:Int)),(.int .u8 (0:Int)),(.int .u8 (0:Int)),(.int .u8 (0:Int)),(.int .u8 (0:Int)),(.int .u8 (0:Int)),(.int .u8 (0:Int)),(.int .u8 (0:Int)),(.int .u8 (0:Int)),(.int .u8 (0:Int)),(.int .u8 (0:Int)),(.int .u8 (0:Int)),(.int .u8 (0:Int)),(.int .u8 (0:Int)),(.int .u8 (0:Int)),(.int .u8 (0:Int)),(.int .u8 (0:Int)),(.int .u8 (0:Int)),(.int .u8 (0:Int)),(.int .u8 (0:Int)),(.int .u8 (0:Int)),(.int .u8 (0:Int)),(.int .u8 (0:Int)),(.int .u8 (0:Int)),(.int .u8 (0:Int)),(.int .u8 (0:Int)),(.int .u8 (0:Int)),(.int .u8 (0:Int)),(.int .u8 (0:Int)),(.int .u8 (0:Int)),(.int .u8 (0:Int)),(.int .u8 (0:Int)),(.int .u8 (0:Int)),(.int .u8 (0:Int)),(.int .u8 (0:Int)),(.int .u8 (0:Int)),(.int .u8 (0:Int)),(.int .u8 (0:Int)),(.int .u8 (0:Int)),(.int .u8 (0:Int)),(.int .u8 (0:Int)),(.int .u8 (0:Int)),(.int .u8 (0:Int)),(.int .u8 (0:Int)),(.int .u8 (0:Int)),(.int .u8 (0:Int)),(.int .u8 (0:Int)),(.int .u8 (0:Int)),(.int .u8 (0:Int)),(.int .u8 (0:Int)),(.int .u8 (0:Int)),(.int .u8 (0:Int)),(.int .u8 (0:Int)),(.int .u8 (0:Int)),(.int .u8 (0:Int)),(.int .u8 (0:Int)),(.int .u8 (0:Int)),(.int .u8 (0:Int)),(.int .u8 (0:Int)),(.int .u8 (0:Int)),(.int .u8 (0:Int)),(.int .u8 (0:Int)),(.int .u8 (0:Int)),(.int .u8 (0:Int)),(.int .u8 (0:Int)),(.int .u8 (0:Int)),(.int .u8 (0:Int)),(.int .u8 (0:Int)),(.int .u8 (0:Int)),(.int .u8 (0:Int)),(.int .u8 (0:Int)),(.int .u8 (0:Int)),(.int .u8 (0:Int)),(.int .u8 (0:Int)),(.int .u8 (0:Int)),(.int .u8 (0:Int)),(.int .u8 (0:Int)),(.int .u8 (0:Int)),(.int .u8 (0:Int)),(.int .u8 (0:Int)),(.int .u8 (0:Int)),(.int .u8 (0:Int)),(.int .u8 (0:Int)),(.int .u8 (0:Int)),(.int .u8 (0:Int)),(.int .u8 (0:Int)),(.int .u8 (0:Int)),(.int .u8 (0:Int)),(.int .u8 (0:Int)),(.int .u8 (0:Int)),(.int .u8 (0:Int)),(.int .u8 (0:Int)),(.int .u8 (0:Int)),(.int .u8 (0:Int)),(.int .u8 (0:Int)),(.int .u8 (0:Int)),(.int .u8 (0:Int)),(.int .u8 (0:Int)),(.int .u8 (0:Int)),(.int .u8 (0:Int)),(.int .u8 (0:Int)),(.int .u8 (0:Int)),(.int .u8 (0:Int)),(.int .u8 (0:Int)),(.int .u8 (0:Int)),(.int .u8 (0:Int)),(.int .u8 (0:Int)),(.int .u8 (0:Int)),(.int .u8 (0:Int)),(.int .u8 (0:Int)),(.int .u8 (0:Int)),(.int .u8 (0:Int)),(.int .u8 (0:Int)),(.int .u8 (0:Int)),(.int .u8 (0:Int)),(.int .u8 (0:Int)),(.int .u8 (0:Int)),(.int .u8 (0:Int)),(.int .u8 (0:Int)),(.int .u8 (0:Int)),(.int .u8 (0:Int)),(.int .u8 (0:Int)),(.int .u8 (0:Int)),(.int .u8 (0:Int)),(.int .u8 (0:Int)),(.int .u8 (0:Int)),(.int .u8 (0:Int)),(.int .u8 (0:Int)),(.int .u8 (0:Int)),(.int .u8 (0:Int)),(.int .u8 (0:Int)),(.int .u8 (0:Int)),(.int .u8 (0:Int)),(.int .u8 (0:Int)),(.int .u8 (0:Int)),(.int .u8 (0:Int)),(.int .u8 (0:Int)),(.int .u8 (0:Int)),(.int .u8 (0:Int)),(.int .u8 (0:Int)),(.int .u8 (0:Int)),(.int .u8 (0:Int)),(.int .u8 (0:Int)),(.int .u8 (0:Int)),(.int .u8 (0:Int)),(.int .u8 (0:Int)),(.int .u8 (0:Int)),(.int .u8 (0:Int)),(.int .u8 (0:Int)),(.int .u8 (0:Int)),(.int .u8 (0:Int)),(.int .u8 (0:Int)),(.int .u8 (0:Int)),(.int .u8 (0:Int)),(.int .u8 (0:Int)),(.int .u8 (0:Int)),(.int .u8 (0:Int)),(.int .u8 (0:Int)),(.int .u8 (0:Int)),(.int .u8 (0:Int)),(.int .u8 (0:Int)),(.int .u8 (0:Int)),(.int .u8 (0:Int)),(.int .u8 (0:Int)),(.int .u8 (0:Int)),(.int .u8 (0:Int)),(.int .u8 (0:Int)),(.int .u8 (0:Int)),(.int .u8 (0:Int)),(.int .u8 (0:Int)),(.int .u8 (0:Int)),(.int .u8 (0:Int)),(.int .u8 (0:Int)),(.int .u8 (0:Int)),(.int .u8 (0:Int)),(.int .u8 (0:Int)),(.int .u8 (0:Int)),(.int .u8 (0:Int)),(.int .u8 (0:Int)),(.int .u8 (0:Int)),(.int .u8 (0:Int)),(.int .u8 (0:Int)),(.int .u8 (0:Int)),(.int .u8 (0:Int)),(.int .u8 (0:Int)),(.int .u8 (0:Int)),(.int .u8 (0:Int)),(.int .u8 (0:Int)),(.int .u8 (0:Int)),(.int .u8 (0:Int)),(.int .u8 (0:Int)),(.int .u8 (0:Int)),(.int .u8 (0:Int)),(.int .u8 (0:Int)),(.int .u8 (0:Int)),(.int .u8 (0:Int)),(.int .u8 (0:Int)),(.int .u8 (0:Int)),(.int .u8 (0:Int)),(.int .u8 (0:Int)),(.int .u8 (0:Int)),(.int .u8 (0:Int)),(.int .u8 (0:Int)),(.int .u8 (0:Int)),(.int .u8 (0:Int)),(.int .u8 (0:Int)),(.int .u8 (0:Int)),(.int .u8 (0:Int)),(.int .u8 (0:Int)),(.int .u8 (0:Int)),(.int .u8 (0:Int)),(.int .u8 (0:Int)),(.int .u8 (0:Int)),(.int .u8 (0:Int)),(.int .u8 (0:Int)),(.int .u8 (0:Int)),(.int .u8 (0:Int)),(.int .u8 (0:Int)),(.int .u8 (0:Int)),(.int .u8 (0:Int)),(.int .u8 (0:Int)),(.int .u8 (0:Int)),(.int .u8 (0:Int)),(.int .u8 (0:Int)),(.int .u8 (0:Int)),(.int .u8 (0:Int)),(.int .u8 (0:Int)),(.int .u8 (0:Int)),(.int .u8 (0:Int)),(.int .u8 (0:Int)),(.int .u8 (0:Int)),(.int .u8 (0:Int)),(.int .u8 (0:Int)),(.int .u8 (0:Int)),(.int .u8 (0:Int)),(.int .u8 (0:Int)),(.int .u8 (0:Int)),(.int .u8 (0:Int)),(.int .u8 (0:Int)),(.int .u8 (0:Int)),(.int .u8 (0:Int)),(.int .u8 (0:Int)),(.int .u8 (0:Int)),(.int .u8 (0:Int)),(.int .u8 (0:Int)),(.int .u8 (0:Int)),(.int .u8 (0:Int)),(.int .u8 (0:Int)),(.int .u8 (0:Int)),(.int .u8 (0:Int)),(.int .u8 (0:Int)),(.int .u8 (0:Int)),(.int .u8 (0:Int)),(.int .u8 (0:Int)),(.int .u8 (0:Int)),(.int .u8 (0:Int)),(.int .u8 (0:Int)),(.int .u8 (0:Int)),(.int .u8 (0:Int)),(.int .u8 (0:Int)),(.int .u8 (0:Int)),(.int .u8 (0:Int)),(.int .u8 (0:Int)),(.int .u8 (0:Int)),(.int .u8 (0:Int)),(.int .u8 (0:Int)),(.int .u8 (0:Int)),(.int .u8 (0:Int)),(.int .u8 (0:Int)),(.int .u8 (0:Int)),(.int .u8 (0:Int)),(.int .u8 (0:Int)),(.int .u8 (0:Int)),(.int .u8 (0:Int)),(.int .u8 (0:Int)),(.int .u8 (0:Int)),(.int .u8 (0:Int)),(.int .u8 (0:Int)),(.int .u8 (0:Int)),(.int .u8 (0:Int)),(.int .u8 (0:Int)),(.int .u8 (0:Int)),(.int .u8 (0:Int)),(.int .u8 (0:Int)),(.int .u8 (0:Int)),(.int .u8 (0:Int)),(.int .u8 (0:Int)),(.int .u8 (0:Int)),(.int .u8 (0:Int)),(.int .u8 (0:Int)),(.int .u8 (0:Int)),(.int .u8 (0:Int)),(.int .u8 (0:Int)),(.int .u8 (0:Int)),(.int .u8 (0:Int)),(.int .u8 (0:Int)),(.int .u8 (0:Int)),(.int .u8 (0:Int)),(.int .u8 (0:Int)),(.int .u8 (0:Int)),(.int .u8 (0:Int)),(.int .u8 (0:Int)),(.int .u8 (0:Int)),(.int .u8 (0:Int)),(.int .u8 (0:Int)),(.int .u8 (0:Int)),(.int .u8 (0:Int)),(.int .u8 (0:Int)),(.int .u8 (0:Int)),(.int .u8 (0:Int)),(.int .u8 (0:Int)),(.int .u8 (0:Int)),(.int .u8 (0:Int)),(.int .u8 (0:Int)),(.int .u8 (0:Int)),(.int .u8 (0:Int)),(.int .u8 (0:Int)),(.int .u8 (0:Int)),(.int .u8 (0:Int)),(.int .u8 (0:Int)),(.int .u8 (0:Int)),(.int .u8 (0:Int)),(.int .u8 (0:Int)),(.int .u8 (0:Int)),(.int .u8 (0:Int)),(.int .u8 (0:Int)),(.int .u8 (0:Int)),(.int .u8 (0:Int)),(.int .u8 (0:Int)),(.int .u8 (0:Int)),(.int .u8 (0:Int)),(.int .u8 (0:Int)),(.int .u8 (0:Int)),(.int .u8 (0:Int)),(.int .u8 (0:Int)),(.int .u8 (0:Int)),(.int .u8 (0:Int)),(.int .u8 (0:Int)),(.int .u8 (0:Int)),(.int .u8 (0:Int)),(.int .u8 (0:Int)),(.int .u8 (0:Int)),(.int .u8 (0:Int)),(.int .u8 (0:Int)),(.int .u8 (0:Int)),(.int .u8 (0:Int)),(.int .u8 (0:Int)),(.int .u8 (0:Int)),(.int .u8 (0:Int)),(.int .u8 (0:Int)),(.int .u8 (0:Int)),(.int .u8 (0:Int)),(.int .u8 (0:Int)),(.int .u8 (0:Int)),(.int .u8 (0:Int)),(.int .u8 (0:Int)),(.int .u8 (0:Int)),(.int .u8 (0:Int)),(.int .u8 (0:Int)),(.int .u8 (0:Int)),(.int .u8 (0:Int)),(.int .u8 (0:Int)),(.int .u8 (0:Int)),(.int .u8 (0:Int)),(.int .u8 (0:Int)),(.int .u8 (0:Int)),(.int .u8 (0:Int)),(.int .u8 (0:Int)),(.int .u8 (0:Int)),(.int .u8 (0:Int)),(.int .u8 (0:Int)),(.int .u8 (0:Int)),(.int .u8 (0:Int)),(.int .u8 (0:Int)),(.int .u8 (0:Int)),(.int .u8 (0:Int)),(.int .u8 (0:Int)),(.int .u8 (0:Int)),(.int .u8 (0:Int)),(.int .u8 (0:Int)),(.int .u8 (0:Int)),(.int .u8 (0:Int)),(.int .u8 (0:Int)),(.int .u8 (0:Int)),(.int .u8 (0:Int)),(.int .u8 (0:Int)),(.int .u8 (0:Int)),(.int .u8 (0:Int)),(.int .u8 (0:Int)),(.int .u8 (0:Int)),(.int .u8 (0:Int)),(.int .u8 (0:Int)),(.int .u8 (0:Int)),(.int .u8 (0:Int)),(.int .u8 (0:Int)),(.int .u8 (0:Int)),(.int .u8 (0:Int)),(.int .u8 (0:Int)),(.int .u8 (0:Int)),(.int .u8 (0:Int)),(.int .u8 (0:Int)),(.int .u8 (0:Int)),(.int .u8 (0:Int)),(.int .u8 (0:Int)),(.int .u8 (0:Int)),(.int .u8 (0:Int)),(.int .u8 (0:Int)),(.int .u8 (0:Int)),(.int .u8 (0:Int)),(.int .u8 (0:Int)),(.int .u8 (0:Int)),(.int .u8 (0:Int)),(.int .u8 (0:Int)),(.int .u8 (0:Int)),(.int .u8 (0:Int)),(.int .u8 (0:Int)),(.int .u8 (0:Int)),(.int .u8 (0:Int)),(.int .u8 (0:Int)),(.int .u8 (0:Int)),(.int .u8 (0:Int)),(.int .u8 (0:Int)),(.int .u8 (0:Int)),(.int .u8 (0:Int)),(.int .u8 (0:Int)),(.int .u8 (0:Int)),(.int .u8 (0:Int)),(.int .u8 (0:Int)),(.int .u8 (0:Int)),(.int .u8 (0:Int)),(.int .u8 (0:Int)),(.int .u8 (0:Int)),(.int .u8 (0:Int)),(.int .u8 (0:Int)),(.int .u8 (0:Int)),(.int .u8 (0:Int)),(.int .u8 (0:Int)),(.int .u8 (0:Int)),(.int .u8 (0:Int)),(.int .u8 (0:Int)),(.int .u8 (0:Int)),(.int .u8 (0:Int)),(.int .u8 (0:Int)),(.int .u8 (0:Int)),(.int .u8 (0:Int)),(.int .u8 (0:Int)),(.int .u8 (0:Int)),(.int .u8 (0:Int)),(.int .u8 (0:Int)),(.int .u8 (0:Int)),(.int .u8 (0:Int)),(.int .u8 (0:Int)),(.int .u8 (0:Int)),(.int .u8 (0:Int)),(.int .u8 (0:Int)),(.int .u8 (0:Int)),(.int .u8 (0:Int)),(.int .u8 (0:Int)),(.int .u8 (0:Int)),(.int .u8 (0:Int)),(.int .u8 (0:Int)),(.int .u8 (0:Int)),(.int .u8 (0:Int)),(.int .u8 (0:Int)),(.int .u8 (0:Int)),(.int .u8 (0:Int)),(.int .u8 (0:Int)),(.int .u8 (0:Int)),(.int .u8 (0:Int)),(.int .u8 (0:Int)),(.int .u8 (0:Int)),(.int .u8 (0:Int)),(.int .u8 (0:Int)),(.int .u8 (0:Int)),(.int .u8 (0:Int)),(.int .u8 (0:Int)),(.int .u8 (0:Int)),(.int .u8 (0:Int)),(.int .u8 (0:Int)),(.int .u8 (0:Int)),(.int .u8 (0:Int)),(.int .u8 (0:Int)),(.int .u8 (0:Int)),(.int .u8 (0:Int)),(.int .u8 (0:Int)),(.int .u8 (0:Int)),(.int .u8 (0:Int)),(.int .u8 (0:Int)),(.int .u8 (0:Int)),(.int .u8 (0:Int)),(.int .u8 (0:Int)),(.int .u8 (0:Int)),(.int .u8 (0:Int)),(.int .u8 (0:Int)),(.int .u8 (0:Int)),(.int .u8 (0:Int)),(.int .u8 (0:Int)),(.int .u8 (0:Int)),(.int .u8 (0:Int)),(.int .u8 (0:Int)),(.int .u8 (0:Int)),(.int .u8 (0:Int)),(.int .u8 (0:Int)),(.int .u8 (0:Int)),(.int .u8 (0:Int)),(.int .u8 (0:Int)),(.int .u8 (0:Int)),(.int .u8 (0:Int)),(.int .u8 (0:Int)),(.int .u8 (0:Int)),(.int .u8 (0:Int)),(.int .u8 (0:Int)),(.int .u8 (0:Int)),(.int .u8 (0:Int)),(.int .u8 (0:Int)),(.int .u8 (0:Int)),(.int .u8 (0:Int)),(.int .u8 (0:Int)),(.int .u8 (0:Int)),(.int .u8 (0:Int)),(.int .u8 (0:Int)),(.int .u8 (0:Int)),(.int .u8 (0:Int)),(.int .u8 (0:Int)),(.int .u8 (0:Int)),(.int .u8 (0:Int)),(.int .u8 (0:Int)),(.int .u8 (0:Int)),(.int .u8 (0:Int)),(.int .u8 (0:Int)),(.int .u8 (0:Int)),(.int .u8 (0:Int)),(.int .u8 (0:Int)),(.int .u8 (0:Int)),(.int .u8 (0:Int)),(.int .u8 (0:Int)),(.int .u8 (0:Int)),(.int .u8 (0:Int)),(.int .u8 (0:Int)),(.int .u8 (0:Int)),(.int .u8 (0:Int)),(.int .u8 (0:Int)),(.int .u8 (0:Int)),(.int .u8 (0:Int)),(.int .u8 (0:Int)),(.int .u8 (0:Int)),(.int .u8 (0:Int)),(.int .u8 (0:Int)),(.int .u8 (0:Int)),(.int .u8 (0:Int)),(.int .u8 (0:Int)),(.int .u8 (0:Int)),(.int .u8 (0:Int)),(.int .u8 (0:Int)),(.int .u8 (0:Int)),(.int .u8 (0:Int)),(.int .u8 (0:Int)),(.int .u8 (0:Int)),(.int .u8 (0:Int)),(.int .u8 (0:Int)),(.int .u8 (0:Int)),(.int .u8 (0:Int)),(.int .u8 (0:Int)),(.int .u8 (0:Int)),(.int .u8 (0:Int)),(.int .u8 (0:Int)),(.int .u8 (0:Int)),(.int .u8 (0:Int)),(.int .u8 (0:Int)),(.int .u8 (0:Int)),(.int .u8 (0:Int)),(.int .u8 (0:Int)),(.int .u8 (0:Int)),(.int .u8 (0:Int)),(.int .u8 (0:Int)),(.int .u8 (0:Int)),(.int .u8 (0:Int)),(.int .u8 (0:Int)),(.int .u8 (0:Int)),(.int .u8 (0:Int)),(.int .u8 (0:Int)),(.int .u8 (0:Int)),(.int .u8 (0:Int)),(.int .u8 (0:Int)),(.int .u8 (0:Int)),(.int .u8 (0:Int)),(.int .u8 (0:Int)),(.int .u8 (0:Int)),(.int .u8 (0:Int)),(.int .u8 (0:Int)),(.int .u8 (0:Int)),(.int .u8 (0:Int)),(.int .u8 (0:Int)),(.int .u8 (0:Int)),(.int .u8 (0:Int)),(.int .u8 (0:Int)),(.int .u8 (0:Int)),(.int .u8 (0:Int)),(.int .u8 (0:Int)),(.int .u8 (0:Int)),(.int .u8 (0:Int)),(.int .u8 (0:Int)),(.int .u8 (0:Int)),(.int .u8 (0:Int)),(.int .u8 (0:Int)),(.int .u8 (0:Int)),(.int .u8 (0:Int)),(.int .u8 (0:Int)),(.int .u8 (0:Int)),(.int .u8 (0:Int)),(.int .u8 (0:Int)),(.int .u8 (0:Int)),(.int .u8 (0:Int)),(.int .u8 (0:Int)),(.int .u8 (0:Int)),(.int .u8 (0:Int)),(.int .u8 (0:Int)),(.int .u8 (0:Int)),(.int .u8 (0:Int)),(.int .u8 (0:Int)),(.int .u8 (0:Int)),(.int .u8 (0:Int)),(.int .u8 (0:Int)),(.int .u8 (0:Int)),(.int .u8 (0:Int)),(.int .u8 (0:Int)),(.int .u8 (0:Int)),(.int .u8 (0:Int)),(.int .u8 (0:Int)),(.int .u8 (0:Int)),(.int .u8 (0:Int)),(.int .u8 (0:Int)),(.int .u8 (0:Int)),(.int .u8 (0:Int)),(.int .u8 (0:Int)),(.int .u8 (0:Int)),(.int .u8 (0:Int)),(.int .u8 (0:Int)),(.int .u8 (0:Int)),(.int .u8 (0:Int)),(.int .u8 (0:Int)),(.int .i64 (0:Int)),(.int .i64 (0:Int)),(.bool false),(.bool false)] (fun a h4=>
 Call0 P zmk [(.pointer (some a)),(.int .u64 mant)] (fun h5=>
 Call0 P zar [(.pointer (some a)),(.int .i64 (IntKind.wrap .i64 ((IntKind.wrap .i64 (exp+bias))-mantBits)))] (fun h6=>
 JoinW1 (α1:=Int) (fun k=>
 JoinW1 (α1:=Bool) (fun k1=>
 (if (fmt==(101:Int))=true then
 k1 (fmt==(101:Int)) h6
 else
 k1 (fmt==(69:Int)) h6))
 (fun t256 h7=>
 (if t256=true then
 Call0 P zdm [(.pointer (some a)),(.int .i64 (IntKind.wrap .i64 (prec1+(1:Int))))] (fun h8=>
 k prec1 h8) h7
 else
 (if (fmt==(102:Int))=true then
 NilW none (some a) fun p=>
 LdW none (shInt .i64) h7 (Addr.add p 801) fun x=>
 Call0 P zdm [(.pointer (some a)),(.int .i64 (IntKind.wrap .i64 (x+prec1)))] (fun h8=>
 k prec1 h8) h7
 else
 JoinW1 (α1:=Bool) (fun k1=>
 (if (fmt==(103:Int))=true then
 k1 (fmt==(103:Int)) h7
 else
 k1 (fmt==(71:Int)) h7))
 (fun t273 h8=>
 (if t273=true then
 JoinW1 (α1:=Int) (fun k1=>
 (if (prec1==(0:Int))=true then
 k1 (1:Int) h8
 else
 k1 prec1 h8))
 (fun prec2 h9=>
 Call0 P zdm [(.pointer (some a)),(.int .i64 prec2)] (fun h10=>
 k prec2 h10) h9)
 else
 k prec1 h8))))))
 (fun prec2 h7=>
 NilW none (some a) fun p=>
 LetW (α:=Sl) ⟨(sbase (some (Addr.add p 0)) 1 0 800),800,800⟩ fun y1=>
 NilW none (some a) fun p1=>
 LdW none (shInt .i64) h7 (Addr.add p1 801) fun x=>
 NilW none (some a) fun p2=>
 LdW none (shInt .i64) h7 (Addr.add p2 800) fun x1=>
 CallT P zck [dst.v,(.bool ((shrI .u64 b (IntKind.wrap .i64 (expBits+mantBits))) !=(0:Int))),y1.v,(.int .i64 x),(.int .i64 x1),(.int .i64 prec2),(.int .u8 fmt),(.bool false)] shSl (fun r h8=>
 Q r h8) h7)) h5) h4) h3)))))))))))))
def zfe (P:Program) (i:Int) (base:Int) (Q:(ByteArray→(Hp→Prop))) (h:Hp):Prop:=
 (if (base==(10:Int))=true then
 LetW ((decide ((0:Int)≤i))&&(decide (i<(100:Int)))) fun y=>
 (if y=true then
 CallT P zhh [(.int .i64 i)] shStr (fun r h1=>
 Q r h1) h
 else
 NewW [(.int .u8 (0:Int)),(.int .u8 (0:Int)),(.int .u8 (0:Int)),(.int .u8 (0:Int)),(.int .u8 (0:Int)),(.int .u8 (0:Int)),(.int .u8 (0:Int)),(.int .u8 (0:Int)),(.int .u8 (0:Int)),(.int .u8 (0:Int)),(.int .u8 (0:Int)),(.int .u8 (0:Int)),(.int .u8 (0:Int)),(.int .u8 (0:Int)),(.int .u8 (0:Int)),(.int .u8 (0:Int)),(.int .u8 (0:Int)),(.int .u8 (0:Int)),(.int .u8 (0:Int)),(.int .u8 (0:Int)),(.int .u8 (0:Int)),(.int .u8 (0:Int)),(.int .u8 (0:Int)),(.int .u8 (0:Int))] (fun a h1=>
 JoinW1 (α1:=Int) (fun k=>
 (if (decide (i<(0:Int)))=true then
 k (IntKind.wrap .u64 ((0:Int)-(IntKind.wrap .u64 i))) h1
 else
 k (IntKind.wrap .u64 i) h1))
 (fun u h2=>
 CallT P zbx [(.int .u64 u)] (shInt .i64) (fun r h3=>
 (((0:Int)≤(1:Int)∧((1:Int)≤(IntKind.wrap .i64 ((1:Int)+r))∧(IntKind.wrap .i64 ((1:Int)+r))≤(24:Int)))∧LetW (α:=Sl) ⟨(sbase (some a) 1 1 24),((Int.toNat (IntKind.wrap .i64 ((1:Int)+r)))-1),23⟩ fun y1=>
 Call0 P zbh [y1.v,(.int .u64 u)] (fun h4=>
 (if (decide (i<(0:Int)))=true then
 (((0:Int)≤(0:Int)∧(0:Int)<(24:Int))∧StW h4 (Addr.add a 0) [(.int .u8 (45:Int))] (fun h5=>
 (((0:Int)≤(IntKind.wrap .i64 ((1:Int)+r))∧(IntKind.wrap .i64 ((1:Int)+r))≤(24:Int))∧LetW (α:=Sl) ⟨(sbase (some a) 1 0 24),((Int.toNat (IntKind.wrap .i64 ((1:Int)+r)))-0),24⟩ fun y2=>
 SemV none P (convert 74 9 y2.v) shStr h5 fun x=>
 Q x h5)))
 else
 (((0:Int)≤(1:Int)∧((1:Int)≤(IntKind.wrap .i64 ((1:Int)+r))∧(IntKind.wrap .i64 ((1:Int)+r))≤(24:Int)))∧LetW (α:=Sl) ⟨(sbase (some a) 1 1 24),((Int.toNat (IntKind.wrap .i64 ((1:Int)+r)))-1),23⟩ fun y2=>
 SemV none P (convert 74 9 y2.v) shStr h4 fun x=>
 Q x h4))) h3)) h2)) h)
 else
 Call2 P zcq [(.slice none 0 0),(.int .u64 (IntKind.wrap .u64 i)),(.int .i64 base),(.bool (decide (i<(0:Int)))),(.bool false)] shSl shStr (fun r r1 h1=>
 Q r1 h1) h)
def zkm (P:Program) (b:Int) (Q:(Int→(Hp→Prop))) (h:Hp):Prop:=
 Call2 P zdu [(.int .u64 b)] (shInt .u64) (shInt .i64) (fun r r1 h1=>
 LoopW2 (α1:=Int) (α2:=Int) (fun again two x h2=>
 (if (decide (x>(1:Int)))=true then
 ((2:Int)≠(0:Int)∧again (IntKind.wrap .i64 (two+(1:Int))) (IntKind.wrap .u64 (Int.tdiv x (2:Int))) h2)
 else
 ((100000:Int)≠(0:Int)∧LoopW1 (α1:=Int) (fun again1 e h3=>
 CallT P zeq [(.int .u64 (1:Int)),(.int .i64 e),(.int .u64 r),(.int .i64 r1)] (shInt .i64) (fun r2 h4=>
 (if (decide (r2>(0:Int)))=true then
 again1 (IntKind.wrap .i64 (e-(1:Int))) h4
 else
 Q e h4)) h3) (IntKind.wrap .i64 ((IntKind.wrap .i64 (Int.tdiv (IntKind.wrap .i64 (two*(30103:Int))) (100000:Int)))+(2:Int))) h2))) r1 r h1) h
def zix (P:Program) (b:Int) (s:Int) (Q:(Int→(Int→(Hp→Prop)))) (h:Hp):Prop:=
 Call2 P zdu [(.int .u64 b)] (shInt .u64) (shInt .i64) (fun r r1 h1=>
 CallT P zfr [(.int .u64 r)] shSl (fun r2 h2=>
 CallT P zfr [(.int .u64 (1:Int))] shSl (fun r3 h3=>
 JoinW2 (α1:=Sl) (α2:=Sl) (fun k=>
 (if (decide (r1≥(0:Int)))=true then
 CallT P zbv [r2.v,(.int .i64 r1)] shSl (fun r4 h4=>
 k r4 r3 h4) h3
 else
 CallT P zbv [r3.v,(.int .i64 (IntKind.wrap .i64 ((0:Int)-r1)))] shSl (fun r4 h4=>
 k r2 r4 h4) h3))
 (fun x y h4=>
 JoinW2 (α1:=Sl) (α2:=Sl) (fun k=>
 (if (decide (s≥(0:Int)))=true then
 CallT P zeh [y.v,(.int .i64 s)] shSl (fun r4 h5=>
 k ⟨x.base,x.len,x.cap⟩ r4 h5) h4
 else
 CallT P zeh [x.v,(.int .i64 (IntKind.wrap .i64 ((0:Int)-s)))] shSl (fun r4 h5=>
 k r4 ⟨y.base,y.len,y.cap⟩ h5) h4))
 (fun x1 y1 h5=>
 LoopW3 (α1:=Sl) (α2:=Int) (α3:=Int) (fun again x2 q i h6=>
 (if (decide (i≥(0:Int)))=true then
 JoinW2 (α1:=Sl) (α2:=Int) (fun k=>
 CallT P zbv [y1.v,(.int .i64 i)] shSl (fun r4 h7=>
 CallT P zbz [x2.v,r4.v] (shInt .i64) (fun r5 h8=>
 (if (decide (r5≥(0:Int)))=true then
 CallT P zjq [x2.v,r4.v] shSl (fun r6 h9=>
 ((0:Int)≤i∧k r6 (bitsI .or .u64 q (shlI .u64 (1:Int) i)) h9)) h8
 else
 k ⟨x2.base,x2.len,x2.cap⟩ q h8)) h7) h6)
 (fun x3 q1 h7=>
 again ⟨x3.base,x3.len,x3.cap⟩ q1 (IntKind.wrap .i64 (i-(1:Int))) h7)
 else
 CallT P zcj [x2.v,(.int .u32 (2:Int))] shSl (fun r4 h7=>
 CallT P zbz [r4.v,y1.v] (shInt .i64) (fun r5 h8=>
 Q q r5 h8) h7) h6)) ⟨x1.base,x1.len,x1.cap⟩ (0:Int) (62:Int) h5))) h2) h1) h
def zdo (P:Program) (s:ByteArray) (prefix_:ByteArray) (Q:(Bool→(Hp→Prop))) (h:Hp):Prop:=
 (((decide ((((ByteArray.size s):Nat):Int)≥(((ByteArray.size prefix_):Nat):Int)))=true→((0:Int)≤(((ByteArray.size prefix_):Nat):Int)∧(((ByteArray.size prefix_):Nat):Int)≤(((ByteArray.size s):Nat):Int)))∧LetW ((decide ((((ByteArray.size s):Nat):Int)≥(((ByteArray.size prefix_):Nat):Int)))&&((ByteArray.toList (ByteArray.extract s 0 (Int.toNat (((ByteArray.size prefix_):Nat):Int))))==(ByteArray.toList prefix_))) fun y=>
 Q y h)
def zhl (P:Program) (c:Int) (Q:(Int→(Hp→Prop))) (h:Hp):Prop:=
 Q (bitsI .or .u8 c (32:Int)) h
def zdy (P:Program) (s:ByteArray) (Q:(Bool→(Hp→Prop))) (h:Hp):Prop:=
 JoinW1 (α1:=ByteArray) (fun k=>
 (((decide ((((ByteArray.size s):Nat):Int)≥(1:Int)))=true→((0:Int)≤(0:Int)∧(0:Int)<(((ByteArray.size s):Nat):Int)))∧((((decide ((((ByteArray.size s):Nat):Int)≥(1:Int)))&&(!((((UInt8.toNat (List.getD s.data.toList 0 0)):Nat):Int)==(45:Int))))=true→((0:Int)≤(0:Int)∧(0:Int)<(((ByteArray.size s):Nat):Int)))∧LetW (((((UInt8.toNat (List.getD s.data.toList 0 0)):Nat):Int)==(45:Int)) || ((((UInt8.toNat (List.getD s.data.toList 0 0)):Nat):Int)==(43:Int))) fun y=>
 LetW ((decide ((((ByteArray.size s):Nat):Int)≥(1:Int)))&&y) fun y1=>
 (if y1=true then
 (((0:Int)≤(1:Int)∧(1:Int)≤(((ByteArray.size s):Nat):Int))∧k (ByteArray.extract s 1 (ByteArray.size s)) h)
 else
 k s h))))
 (fun s1 h1=>
 JoinW3 (α1:=Int) (α2:=Int) (α3:=Bool) (fun k=>
 (((decide ((((ByteArray.size s1):Nat):Int)≥(2:Int)))=true→((0:Int)≤(0:Int)∧(0:Int)<(((ByteArray.size s1):Nat):Int)))∧LetW ((decide ((((ByteArray.size s1):Nat):Int)≥(2:Int)))&&((((UInt8.toNat (List.getD s1.data.toList 0 0)):Nat):Int)==(48:Int))) fun y=>
 ((y=true→((0:Int)≤(1:Int)∧(1:Int)<(((ByteArray.size s1):Nat):Int)))∧EffC (some y) (CallT P zae [(.int .u8 (((UInt8.toNat (List.getD s1.data.toList 1 0)):Nat):Int))] (shInt .u8)) (fun r h2=>
 (((y&&(!(r==(98:Int))))=true→((0:Int)≤(1:Int)∧(1:Int)<(((ByteArray.size s1):Nat):Int)))∧EffC (some (y&&(!(r==(98:Int))))) (CallT P zae [(.int .u8 (((UInt8.toNat (List.getD s1.data.toList 1 0)):Nat):Int))] (shInt .u8)) (fun r1 h3=>
 LetW ((r==(98:Int)) || (r1==(111:Int))) fun y1=>
 (((y&&(!y1))=true→((0:Int)≤(1:Int)∧(1:Int)<(((ByteArray.size s1):Nat):Int)))∧EffC (some (y&&(!y1))) (CallT P zae [(.int .u8 (((UInt8.toNat (List.getD s1.data.toList 1 0)):Nat):Int))] (shInt .u8)) (fun r2 h4=>
 LetW (y1 || (r2==(120:Int))) fun y2=>
 LetW (y&&y2) fun y3=>
 (if y3=true then
 (((0:Int)≤(1:Int)∧(1:Int)<(((ByteArray.size s1):Nat):Int))∧CallT P zae [(.int .u8 (((UInt8.toNat (List.getD s1.data.toList 1 0)):Nat):Int))] (shInt .u8) (fun r3 h5=>
 k (48:Int) (2:Int) (r3==(120:Int)) h5) h4)
 else
 k (94:Int) (0:Int) false h4)) h3)) h2)) h1)))
 (fun saw i hex h2=>
 LoopW2 (α1:=Int) (α2:=Int) (fun again saw1 i1 h3=>
 (if (decide (i1<(((ByteArray.size s1):Nat):Int)))=true then
 JoinW1 (α1:=Int) (fun k=>
 (((0:Int)≤i1∧i1<(((ByteArray.size s1):Nat):Int))∧(((decide ((48:Int)≤(((UInt8.toNat (List.getD s1.data.toList (Int.toNat i1) 0)):Nat):Int)))=true→((0:Int)≤i1∧i1<(((ByteArray.size s1):Nat):Int)))∧LetW ((decide ((48:Int)≤(((UInt8.toNat (List.getD s1.data.toList (Int.toNat i1) 0)):Nat):Int)))&&(decide ((((UInt8.toNat (List.getD s1.data.toList (Int.toNat i1) 0)):Nat):Int)≤(57:Int)))) fun y=>
 ((((!y)&&hex)=true→((0:Int)≤i1∧i1<(((ByteArray.size s1):Nat):Int)))∧EffC (some ((!y)&&hex)) (CallT P zae [(.int .u8 (((UInt8.toNat (List.getD s1.data.toList (Int.toNat i1) 0)):Nat):Int))] (shInt .u8)) (fun r h4=>
 LetW (hex&&(decide ((97:Int)≤r))) fun y1=>
 ((((!y)&&y1)=true→((0:Int)≤i1∧i1<(((ByteArray.size s1):Nat):Int)))∧EffC (some ((!y)&&y1)) (CallT P zae [(.int .u8 (((UInt8.toNat (List.getD s1.data.toList (Int.toNat i1) 0)):Nat):Int))] (shInt .u8)) (fun r1 h5=>
 LetW (y1&&(decide (r1≤(102:Int)))) fun y2=>
 LetW (y || y2) fun y3=>
 (if y3=true then
 k (48:Int) h5
 else
 (((0:Int)≤i1∧i1<(((ByteArray.size s1):Nat):Int))∧(if ((((UInt8.toNat (List.getD s1.data.toList (Int.toNat i1) 0)):Nat):Int)==(95:Int))=true then
 (if (saw1 !=(48:Int))=true then
 Q false h5
 else
 k (95:Int) h5)
 else
 (if (saw1==(95:Int))=true then
 Q false h5
 else
 k (33:Int) h5))))) h4)) h3))))
 (fun saw2 h4=>
 again saw2 (IntKind.wrap .i64 (i1+(1:Int))) h4)
 else
 Q (saw1 !=(95:Int)) h3)) saw i h2))
def zbq (P:Program) (s:ByteArray) (bitSize:Int) (Q:(Nat→(Int→(Leaf→(Hp→Prop))))) (h:Hp):Prop:=
 (if (bitSize==(32:Int))=true then
 Call3 P zsp [(.string s)] (shFlt .f32) (shInt .i64) zal (fun r r1 r2 h1=>
 SemV none P (convert 120 48 (.float .f32 r)) (shFlt .f64) h1 fun x=>
 EncW zal r2.v fun e=>
 Q x r1 e h1) h
 else
 Call3 P zgr [(.string s)] (shFlt .f64) (shInt .i64) zal (fun r r1 r2 h1=>
 EncW zal r2.v fun e=>
 Q r r1 e h1) h)
def ziy (P:Program) (b:Int) (Q:(Int→(Int→(Hp→Prop)))) (h:Hp):Prop:=
 ((0:Int)≤(52:Int)∧(if ((IntKind.wrap .i64 (shrI .u64 b (52:Int)))==(0:Int))=true then
 Q (bitsI .and .u64 b (4503599627370495:Int)) (-1074:Int) h
 else
 Q (bitsI .or .u64 (bitsI .and .u64 b (4503599627370495:Int)) (4503599627370496:Int)) (IntKind.wrap .i64 ((IntKind.wrap .i64 (shrI .u64 b (52:Int)))-(1075:Int))) h))
def zhm (P:Program) (c:Int) (s:Int) (l:Int) (k:Int) (Q:(Int→(Hp→Prop))) (h:Hp):Prop:=
 CallT P zfr [(.int .u64 c)] shSl (fun r h1=>
 CallT P zfr [(.int .u64 l)] shSl (fun r1 h2=>
 JoinW2 (α1:=Sl) (α2:=Sl) (fun k1=>
 (if (decide (s≥(0:Int)))=true then
 CallT P zeh [r.v,(.int .i64 s)] shSl (fun r2 h3=>
 k1 r2 r1 h3) h2
 else
 CallT P zeh [r1.v,(.int .i64 (IntKind.wrap .i64 ((0:Int)-s)))] shSl (fun r2 h3=>
 k1 r r2 h3) h2))
 (fun a b h3=>
 JoinW2 (α1:=Sl) (α2:=Sl) (fun k1=>
 (if (decide (k≥(0:Int)))=true then
 CallT P zbv [b.v,(.int .i64 k)] shSl (fun r2 h4=>
 k1 ⟨a.base,a.len,a.cap⟩ r2 h4) h3
 else
 CallT P zbv [a.v,(.int .i64 (IntKind.wrap .i64 ((0:Int)-k)))] shSl (fun r2 h4=>
 k1 r2 ⟨b.base,b.len,b.cap⟩ h4) h3))
 (fun a1 b1 h4=>
 CallT P zbz [a1.v,b1.v] (shInt .i64) (fun r2 h5=>
 Q r2 h5) h4))) h1) h
def zhn (P:Program) (i:Int) (Q:(ByteArray→(Hp→Prop))) (h:Hp):Prop:=
 (if (decide (i<(10:Int)))=true then
 (((0:Int)≤i∧(i≤(IntKind.wrap .i64 (i+(1:Int)))∧(IntKind.wrap .i64 (i+(1:Int)))≤(36:Int)))∧Q (ByteArray.extract ⟨#[48,49,50,51,52,53,54,55,56,57,97,98,99,100,101,102,103,104,105,106,107,108,109,110,111,112,113,114,115,116,117,118,119,120,121,122]⟩ (Int.toNat i) (Int.toNat (IntKind.wrap .i64 (i+(1:Int))))) h)
 else
 (((0:Int)≤(IntKind.wrap .i64 (i*(2:Int)))∧((IntKind.wrap .i64 (i*(2:Int)))≤(IntKind.wrap .i64 ((IntKind.wrap .i64 (i*(2:Int)))+(2:Int)))∧(IntKind.wrap .i64 ((IntKind.wrap .i64 (i*(2:Int)))+(2:Int)))≤(200:Int)))∧Q (ByteArray.extract ⟨#[48,48,48,49,48,50,48,51,48,52,48,53,48,54,48,55,48,56,48,57,49,48,49,49,49,50,49,51,49,52,49,53,49,54,49,55,49,56,49,57,50,48,50,49,50,50,50,51,50,52,50,53,50,54,50,55,50,56,50,57,51,48,51,49,51,50,51,51,51,52,51,53,51,54,51,55,51,56,51,57,52,48,52,49,52,50,52,51,52,52,52,53,52,54,52,55,52,56,52,57,53,48,53,49,53,50,53,51,53,52,53,53,53,54,53,55,53,56,53,57,54,48,54,49,54,50,54,51,54,52,54,53,54,54,54,55,54,56,54,57,55,48,55,49,55,50,55,51,55,52,55,53,55,54,55,55,55,56,55,57,56,48,56,49,56,50,56,51,56,52,56,53,56,54,56,55,56,56,56,57,57,48,57,49,57,50,57,51,57,52,57,53,57,54,57,55,57,56,57,57]⟩ (Int.toNat (IntKind.wrap .i64 (i*(2:Int)))) (Int.toNat (IntKind.wrap .i64 ((IntKind.wrap .i64 (i*(2:Int)))+(2:Int))))) h))
def zff (P:Program) (d:Int) (Q:(Int→(Hp→Prop))) (h:Hp):Prop:=
 CallT P zhi [(.int .u64 d)] (shInt .i64) (fun r h1=>
 CallT P zbc [(.int .i64 r)] (shInt .i64) (fun r1 h2=>
 (((0:Int)≤r1∧r1<(20:Int))∧LdW none (shInt .u64) h2 (Addr.add ⟨5,0,none⟩ ((Int.toNat r1)*1)) fun x=>
 CallT P zfa [(.bool (decide (d≥x)))] (shInt .i64) (fun r2 h3=>
 Q (IntKind.wrap .i64 (r1+r2)) h3) h2)) h1) h
def bl200 :List UInt8:=[48,48,48,49,48,50,48,51,48,52,48,53,48,54,48,55,48,56,48,57,49,48,49,49,49,50,49,51,49,52,49,53,49,54,49,55,49,56,49,57,50,48,50,49,50,50,50,51,50,52,50,53,50,54,50,55,50,56,50,57,51,48,51,49,51,50,51,51,51,52,51,53,51,54,51,55,51,56,51,57,52,48,52,49,52,50,52,51,52,52,52,53,52,54,52,55,52,56,52,57,53,48,53,49,53,50,53,51,53,52,53,53,53,54,53,55,53,56,53,57,54,48,54,49,54,50,54,51,54,52,54,53,54,54,54,55,54,56,54,57,55,48,55,49,55,50,55,51,55,52,55,53,55,54,55,55,55,56,55,57,56,48,56,49,56,50,56,51,56,52,56,53,56,54,56,55,56,56,56,57,57,48,57,49,57,50,57,51,57,52,57,53,57,54,57,55,57,56,57,57]
def zdz (P:Program) (a:Sl) (u:Int) (Q:(Hp→Prop)) (h:Hp):Prop:=
 LoopW2 (α1:=Int) (α2:=Int) (fun again u1 nd h1=>
 (if (decide (nd≥(8:Int)))=true then
 ((100000000:Int)≠(0:Int)∧((100000000:Int)≠(0:Int)∧((10000:Int)≠(0:Int)∧((10000:Int)≠(0:Int)∧((100:Int)≠(0:Int)∧((100:Int)≠(0:Int)∧((100:Int)≠(0:Int)∧((100:Int)≠(0:Int)∧(((0:Int)≤(IntKind.wrap .u32 ((IntKind.wrap .u32 ((Int.tmod (Int.tmod (IntKind.wrap .u32 (Int.tmod u1 (100000000:Int))) (10000:Int)) (100:Int))*(2:Int)))+(1:Int)))∧(IntKind.wrap .u32 ((IntKind.wrap .u32 ((Int.tmod (Int.tmod (IntKind.wrap .u32 (Int.tmod u1 (100000000:Int))) (10000:Int)) (100:Int))*(2:Int)))+(1:Int)))<(200:Int))∧(((0:Int)≤(IntKind.wrap .u32 ((Int.tmod (Int.tmod (IntKind.wrap .u32 (Int.tmod u1 (100000000:Int))) (10000:Int)) (100:Int))*(2:Int)))∧(IntKind.wrap .u32 ((Int.tmod (Int.tmod (IntKind.wrap .u32 (Int.tmod u1 (100000000:Int))) (10000:Int)) (100:Int))*(2:Int)))<(200:Int))∧((InB a.base a.len (IntKind.wrap .i64 (nd-(1:Int))))∧StW h1 (sat a.base 1 (IntKind.wrap .i64 (nd-(1:Int)))) [(.int .u8 (((UInt8.toNat (List.getD bl200 (Int.toNat (IntKind.wrap .u32 ((IntKind.wrap .u32 ((Int.tmod (Int.tmod (IntKind.wrap .u32 (Int.tmod u1 (100000000:Int))) (10000:Int)) (100:Int))*(2:Int)))+(1:Int)))) 0)):Nat):Int))] (fun h2=>
 ((InB a.base a.len (IntKind.wrap .i64 (nd-(2:Int))))∧StW h2 (sat a.base 1 (IntKind.wrap .i64 (nd-(2:Int)))) [(.int .u8 (((UInt8.toNat (List.getD bl200 (Int.toNat (IntKind.wrap .u32 ((Int.tmod (Int.tmod (IntKind.wrap .u32 (Int.tmod u1 (100000000:Int))) (10000:Int)) (100:Int))*(2:Int)))) 0)):Nat):Int))] (fun h3=>
 (((0:Int)≤(IntKind.wrap .u32 ((IntKind.wrap .u32 ((IntKind.wrap .u32 (Int.tdiv (Int.tmod (IntKind.wrap .u32 (Int.tmod u1 (100000000:Int))) (10000:Int)) (100:Int)))*(2:Int)))+(1:Int)))∧(IntKind.wrap .u32 ((IntKind.wrap .u32 ((IntKind.wrap .u32 (Int.tdiv (Int.tmod (IntKind.wrap .u32 (Int.tmod u1 (100000000:Int))) (10000:Int)) (100:Int)))*(2:Int)))+(1:Int)))<(200:Int))∧(((0:Int)≤(IntKind.wrap .u32 ((IntKind.wrap .u32 (Int.tdiv (Int.tmod (IntKind.wrap .u32 (Int.tmod u1 (100000000:Int))) (10000:Int)) (100:Int)))*(2:Int)))∧(IntKind.wrap .u32 ((IntKind.wrap .u32 (Int.tdiv (Int.tmod (IntKind.wrap .u32 (Int.tmod u1 (100000000:Int))) (10000:Int)) (100:Int)))*(2:Int)))<(200:Int))∧((InB a.base a.len (IntKind.wrap .i64 (nd-(3:Int))))∧StW h3 (sat a.base 1 (IntKind.wrap .i64 (nd-(3:Int)))) [(.int .u8 (((UInt8.toNat (List.getD bl200 (Int.toNat (IntKind.wrap .u32 ((IntKind.wrap .u32 ((IntKind.wrap .u32 (Int.tdiv (Int.tmod (IntKind.wrap .u32 (Int.tmod u1 (100000000:Int))) (10000:Int)) (100:Int)))*(2:Int)))+(1:Int)))) 0)):Nat):Int))] (fun h4=>
 ((InB a.base a.len (IntKind.wrap .i64 (nd-(4:Int))))∧StW h4 (sat a.base 1 (IntKind.wrap .i64 (nd-(4:Int)))) [(.int .u8 (((UInt8.toNat (List.getD bl200 (Int.toNat (IntKind.wrap .u32 ((IntKind.wrap .u32 (Int.tdiv (Int.tmod (IntKind.wrap .u32 (Int.tmod u1 (100000000:Int))) (10000:Int)) (100:Int)))*(2:Int)))) 0)):Nat):Int))] (fun h5=>
 (((0:Int)≤(IntKind.wrap .u32 ((IntKind.wrap .u32 ((Int.tmod (IntKind.wrap .u32 (Int.tdiv (IntKind.wrap .u32 (Int.tmod u1 (100000000:Int))) (10000:Int))) (100:Int))*(2:Int)))+(1:Int)))∧(IntKind.wrap .u32 ((IntKind.wrap .u32 ((Int.tmod (IntKind.wrap .u32 (Int.tdiv (IntKind.wrap .u32 (Int.tmod u1 (100000000:Int))) (10000:Int))) (100:Int))*(2:Int)))+(1:Int)))<(200:Int))∧(((0:Int)≤(IntKind.wrap .u32 ((Int.tmod (IntKind.wrap .u32 (Int.tdiv (IntKind.wrap .u32 (Int.tmod u1 (100000000:Int))) (10000:Int))) (100:Int))*(2:Int)))∧(IntKind.wrap .u32 ((Int.tmod (IntKind.wrap .u32 (Int.tdiv (IntKind.wrap .u32 (Int.tmod u1 (100000000:Int))) (10000:Int))) (100:Int))*(2:Int)))<(200:Int))∧((InB a.base a.len (IntKind.wrap .i64 (nd-(5:Int))))∧StW h5 (sat a.base 1 (IntKind.wrap .i64 (nd-(5:Int)))) [(.int .u8 (((UInt8.toNat (List.getD bl200 (Int.toNat (IntKind.wrap .u32 ((IntKind.wrap .u32 ((Int.tmod (IntKind.wrap .u32 (Int.tdiv (IntKind.wrap .u32 (Int.tmod u1 (100000000:Int))) (10000:Int))) (100:Int))*(2:Int)))+(1:Int)))) 0)):Nat):Int))] (fun h6=>
 ((InB a.base a.len (IntKind.wrap .i64 (nd-(6:Int))))∧StW h6 (sat a.base 1 (IntKind.wrap .i64 (nd-(6:Int)))) [(.int .u8 (((UInt8.toNat (List.getD bl200 (Int.toNat (IntKind.wrap .u32 ((Int.tmod (IntKind.wrap .u32 (Int.tdiv (IntKind.wrap .u32 (Int.tmod u1 (100000000:Int))) (10000:Int))) (100:Int))*(2:Int)))) 0)):Nat):Int))] (fun h7=>
 (((0:Int)≤(IntKind.wrap .u32 ((IntKind.wrap .u32 ((IntKind.wrap .u32 (Int.tdiv (IntKind.wrap .u32 (Int.tdiv (IntKind.wrap .u32 (Int.tmod u1 (100000000:Int))) (10000:Int))) (100:Int)))*(2:Int)))+(1:Int)))∧(IntKind.wrap .u32 ((IntKind.wrap .u32 ((IntKind.wrap .u32 (Int.tdiv (IntKind.wrap .u32 (Int.tdiv (IntKind.wrap .u32 (Int.tmod u1 (100000000:Int))) (10000:Int))) (100:Int)))*(2:Int)))+(1:Int)))<(200:Int))∧(((0:Int)≤(IntKind.wrap .u32 ((IntKind.wrap .u32 (Int.tdiv (IntKind.wrap .u32 (Int.tdiv (IntKind.wrap .u32 (Int.tmod u1 (100000000:Int))) (10000:Int))) (100:Int)))*(2:Int)))∧(IntKind.wrap .u32 ((IntKind.wrap .u32 (Int.tdiv (IntKind.wrap .u32 (Int.tdiv (IntKind.wrap .u32 (Int.tmod u1 (100000000:Int))) (10000:Int))) (100:Int)))*(2:Int)))<(200:Int))∧((InB a.base a.len (IntKind.wrap .i64 (nd-(7:Int))))∧StW h7 (sat a.base 1 (IntKind.wrap .i64 (nd-(7:Int)))) [(.int .u8 (((UInt8.toNat (List.getD bl200 (Int.toNat (IntKind.wrap .u32 ((IntKind.wrap .u32 ((IntKind.wrap .u32 (Int.tdiv (IntKind.wrap .u32 (Int.tdiv (IntKind.wrap .u32 (Int.tmod u1 (100000000:Int))) (10000:Int))) (100:Int)))*(2:Int)))+(1:Int)))) 0)):Nat):Int))] (fun h8=>
 ((InB a.base a.len (IntKind.wrap .i64 (nd-(8:Int))))∧StW h8 (sat a.base 1 (IntKind.wrap .i64 (nd-(8:Int)))) [(.int .u8 (((UInt8.toNat (List.getD bl200 (Int.toNat (IntKind.wrap .u32 ((IntKind.wrap .u32 (Int.tdiv (IntKind.wrap .u32 (Int.tdiv (IntKind.wrap .u32 (Int.tmod u1 (100000000:Int))) (10000:Int))) (100:Int)))*(2:Int)))) 0)):Nat):Int))] (fun h9=>
 again (IntKind.wrap .u64 (Int.tdiv u1 (100000000:Int))) (IntKind.wrap .i64 (nd-(8:Int))) h9))))))))))))))))))))))))))))))))
 else
 JoinW2 (α1:=Int) (α2:=Int) (fun k=>
 (if (decide (nd≥(4:Int)))=true then
 ((10000:Int)≠(0:Int)∧((10000:Int)≠(0:Int)∧((100:Int)≠(0:Int)∧((100:Int)≠(0:Int)∧(((0:Int)≤(IntKind.wrap .u32 ((IntKind.wrap .u32 ((Int.tmod (Int.tmod (IntKind.wrap .u32 u1) (10000:Int)) (100:Int))*(2:Int)))+(1:Int)))∧(IntKind.wrap .u32 ((IntKind.wrap .u32 ((Int.tmod (Int.tmod (IntKind.wrap .u32 u1) (10000:Int)) (100:Int))*(2:Int)))+(1:Int)))<(200:Int))∧(((0:Int)≤(IntKind.wrap .u32 ((Int.tmod (Int.tmod (IntKind.wrap .u32 u1) (10000:Int)) (100:Int))*(2:Int)))∧(IntKind.wrap .u32 ((Int.tmod (Int.tmod (IntKind.wrap .u32 u1) (10000:Int)) (100:Int))*(2:Int)))<(200:Int))∧((InB a.base a.len (IntKind.wrap .i64 (nd-(1:Int))))∧StW h1 (sat a.base 1 (IntKind.wrap .i64 (nd-(1:Int)))) [(.int .u8 (((UInt8.toNat (List.getD bl200 (Int.toNat (IntKind.wrap .u32 ((IntKind.wrap .u32 ((Int.tmod (Int.tmod (IntKind.wrap .u32 u1) (10000:Int)) (100:Int))*(2:Int)))+(1:Int)))) 0)):Nat):Int))] (fun h2=>
 ((InB a.base a.len (IntKind.wrap .i64 (nd-(2:Int))))∧StW h2 (sat a.base 1 (IntKind.wrap .i64 (nd-(2:Int)))) [(.int .u8 (((UInt8.toNat (List.getD bl200 (Int.toNat (IntKind.wrap .u32 ((Int.tmod (Int.tmod (IntKind.wrap .u32 u1) (10000:Int)) (100:Int))*(2:Int)))) 0)):Nat):Int))] (fun h3=>
 (((0:Int)≤(IntKind.wrap .u32 ((IntKind.wrap .u32 ((IntKind.wrap .u32 (Int.tdiv (Int.tmod (IntKind.wrap .u32 u1) (10000:Int)) (100:Int)))*(2:Int)))+(1:Int)))∧(IntKind.wrap .u32 ((IntKind.wrap .u32 ((IntKind.wrap .u32 (Int.tdiv (Int.tmod (IntKind.wrap .u32 u1) (10000:Int)) (100:Int)))*(2:Int)))+(1:Int)))<(200:Int))∧(((0:Int)≤(IntKind.wrap .u32 ((IntKind.wrap .u32 (Int.tdiv (Int.tmod (IntKind.wrap .u32 u1) (10000:Int)) (100:Int)))*(2:Int)))∧(IntKind.wrap .u32 ((IntKind.wrap .u32 (Int.tdiv (Int.tmod (IntKind.wrap .u32 u1) (10000:Int)) (100:Int)))*(2:Int)))<(200:Int))∧((InB a.base a.len (IntKind.wrap .i64 (nd-(3:Int))))∧StW h3 (sat a.base 1 (IntKind.wrap .i64 (nd-(3:Int)))) [(.int .u8 (((UInt8.toNat (List.getD bl200 (Int.toNat (IntKind.wrap .u32 ((IntKind.wrap .u32 ((IntKind.wrap .u32 (Int.tdiv (Int.tmod (IntKind.wrap .u32 u1) (10000:Int)) (100:Int)))*(2:Int)))+(1:Int)))) 0)):Nat):Int))] (fun h4=>
 ((InB a.base a.len (IntKind.wrap .i64 (nd-(4:Int))))∧StW h4 (sat a.base 1 (IntKind.wrap .i64 (nd-(4:Int)))) [(.int .u8 (((UInt8.toNat (List.getD bl200 (Int.toNat (IntKind.wrap .u32 ((IntKind.wrap .u32 (Int.tdiv (Int.tmod (IntKind.wrap .u32 u1) (10000:Int)) (100:Int)))*(2:Int)))) 0)):Nat):Int))] (fun h5=>
 k (IntKind.wrap .i64 (nd-(4:Int))) (IntKind.wrap .u32 (Int.tdiv (IntKind.wrap .u32 u1) (10000:Int))) h5))))))))))))))))
 else
 k nd (IntKind.wrap .u32 u1) h1))
 (fun nd1 x h2=>
 JoinW2 (α1:=Int) (α2:=Int) (fun k=>
 (if (decide (nd1≥(2:Int)))=true then
 ((100:Int)≠(0:Int)∧((100:Int)≠(0:Int)∧(((0:Int)≤(IntKind.wrap .u32 ((IntKind.wrap .u32 ((Int.tmod x (100:Int))*(2:Int)))+(1:Int)))∧(IntKind.wrap .u32 ((IntKind.wrap .u32 ((Int.tmod x (100:Int))*(2:Int)))+(1:Int)))<(200:Int))∧(((0:Int)≤(IntKind.wrap .u32 ((Int.tmod x (100:Int))*(2:Int)))∧(IntKind.wrap .u32 ((Int.tmod x (100:Int))*(2:Int)))<(200:Int))∧((InB a.base a.len (IntKind.wrap .i64 (nd1-(1:Int))))∧StW h2 (sat a.base 1 (IntKind.wrap .i64 (nd1-(1:Int)))) [(.int .u8 (((UInt8.toNat (List.getD bl200 (Int.toNat (IntKind.wrap .u32 ((IntKind.wrap .u32 ((Int.tmod x (100:Int))*(2:Int)))+(1:Int)))) 0)):Nat):Int))] (fun h3=>
 ((InB a.base a.len (IntKind.wrap .i64 (nd1-(2:Int))))∧StW h3 (sat a.base 1 (IntKind.wrap .i64 (nd1-(2:Int)))) [(.int .u8 (((UInt8.toNat (List.getD bl200 (Int.toNat (IntKind.wrap .u32 ((Int.tmod x (100:Int))*(2:Int)))) 0)):Nat):Int))] (fun h4=>
 k (IntKind.wrap .i64 (nd1-(2:Int))) (IntKind.wrap .u32 (Int.tdiv x (100:Int))) h4))))))))
 else
 k nd1 x h2))
 (fun nd2 x1 h3=>
 (if (decide (nd2>(0:Int)))=true then
 ((InB a.base a.len (0:Int))∧StW h3 (sat a.base 1 (0:Int)) [(.int .u8 (IntKind.wrap .u8 (IntKind.wrap .u32 ((48:Int)+x1))))] (fun h4=>
 Q h4))
 else
 Q h3))))) u ((a.len:Nat):Int) h
def zeu (P:Program) (dst:Sl) (u:Int) (base:Int) (neg:Bool) (append_:Bool) (Q:(Sl→(ByteArray→(Hp→Prop)))) (h:Hp):Prop:=
 JoinW0 (fun k=>
 LetW ((decide (base<(2:Int))) || (base==(10:Int))) fun y=>
 LetW (y || (decide (base>(36:Int)))) fun y1=>
 (if y1=true then
 False
 else
 k h))
 (fun h1=>
 NewW [(.int .u8 (0:Int)),(.int .u8 (0:Int)),(.int .u8 (0:Int)),(.int .u8 (0:Int)),(.int .u8 (0:Int)),(.int .u8 (0:Int)),(.int .u8 (0:Int)),(.int .u8 (0:Int)),(.int .u8 (0:Int)),(.int .u8 (0:Int)),(.int .u8 (0:Int)),(.int .u8 (0:Int)),(.int .u8 (0:Int)),(.int .u8 (0:Int)),(.int .u8 (0:Int)),(.int .u8 (0:Int)),(.int .u8 (0:Int)),(.int .u8 (0:Int)),(.int .u8 (0:Int)),(.int .u8 (0:Int)),(.int .u8 (0:Int)),(.int .u8 (0:Int)),(.int .u8 (0:Int)),(.int .u8 (0:Int)),(.int .u8 (0:Int)),(.int .u8 (0:Int)),(.int .u8 (0:Int)),(.int .u8 (0:Int)),(.int .u8 (0:Int)),(.int .u8 (0:Int)),(.int .u8 (0:Int)),(.int .u8 (0:Int)),(.int .u8 (0:Int)),(.int .u8 (0:Int)),(.int .u8 (0:Int)),(.int .u8 (0:Int)),(.int .u8 (0:Int)),(.int .u8 (0:Int)),(.int .u8 (0:Int)),(.int .u8 (0:Int)),(.int .u8 (0:Int)),(.int .u8 (0:Int)),(.int .u8 (0:Int)),(.int .u8 (0:Int)),(.int .u8 (0:Int)),(.int .u8 (0:Int)),(.int .u8 (0:Int)),(.int .u8 (0:Int)),(.int .u8 (0:Int)),(.int .u8 (0:Int)),(.int .u8 (0:Int)),(.int .u8 (0:Int)),(.int .u8 (0:Int)),(.int .u8 (0:Int)),(.int .u8 (0:Int)),(.int .u8 (0:Int)),(.int .u8 (0:Int)),(.int .u8 (0:Int)),(.int .u8 (0:Int)),(.int .u8 (0:Int)),(.int .u8 (0:Int)),(.int .u8 (0:Int)),(.int .u8 (0:Int)),(.int .u8 (0:Int)),(.int .u8 (0:Int))] (fun a h2=>
 JoinW1 (α1:=Int) (fun k=>
 (if neg=true then
 k (IntKind.wrap .u64 ((0:Int)-u)) h2
 else
 k u h2))
 (fun u1 h3=>
 JoinW1 (α1:=Int) (fun k=>
 CallT P zhj [(.int .i64 base)] zag (fun r h4=>
 (if r=true then
 CallT P zks [(.int .u64 (IntKind.wrap .u64 base))] (shInt .i64) (fun r1 h5=>
 LoopW2 (α1:=Int) (α2:=Int) (fun again u2 i h6=>
 (if (decide (u2≥(IntKind.wrap .u64 base)))=true then
 (((0:Int)≤(bitsI .and .u64 u2 (IntKind.wrap .u64 ((IntKind.wrap .u64 base)-(1:Int))))∧(bitsI .and .u64 u2 (IntKind.wrap .u64 ((IntKind.wrap .u64 base)-(1:Int))))<(36:Int))∧(((0:Int)≤(IntKind.wrap .i64 (i-(1:Int)))∧(IntKind.wrap .i64 (i-(1:Int)))<(65:Int))∧StW h6 (Addr.add a ((Int.toNat (IntKind.wrap .i64 (i-(1:Int))))*1)) [(.int .u8 (((UInt8.toNat (List.getD [48,49,50,51,52,53,54,55,56,57,97,98,99,100,101,102,103,104,105,106,107,108,109,110,111,112,113,114,115,116,117,118,119,120,121,122] (Int.toNat (bitsI .and .u64 u2 (IntKind.wrap .u64 ((IntKind.wrap .u64 base)-(1:Int))))) 0)):Nat):Int))] (fun h7=>
 ((0:Int)≤(IntKind.wrap .u64 r1)∧again (shrI .u64 u2 (IntKind.wrap .u64 r1)) (IntKind.wrap .i64 (i-(1:Int))) h7))))
 else
 (((0:Int)≤u2∧u2<(36:Int))∧(((0:Int)≤(IntKind.wrap .i64 (i-(1:Int)))∧(IntKind.wrap .i64 (i-(1:Int)))<(65:Int))∧StW h6 (Addr.add a ((Int.toNat (IntKind.wrap .i64 (i-(1:Int))))*1)) [(.int .u8 (((UInt8.toNat (List.getD [48,49,50,51,52,53,54,55,56,57,97,98,99,100,101,102,103,104,105,106,107,108,109,110,111,112,113,114,115,116,117,118,119,120,121,122] (Int.toNat u2) 0)):Nat):Int))] (fun h7=>
 k (IntKind.wrap .i64 (i-(1:Int))) h7))))) u1 (65:Int) h5) h4
 else
 LoopW2 (α1:=Int) (α2:=Int) (fun again u2 i h5=>
 (if (decide (u2≥(IntKind.wrap .u64 base)))=true then
 ((IntKind.wrap .u64 base)≠(0:Int)∧(((0:Int)≤(IntKind.wrap .u64 (u2-(IntKind.wrap .u64 ((IntKind.wrap .u64 (Int.tdiv u2 (IntKind.wrap .u64 base)))*(IntKind.wrap .u64 base)))))∧(IntKind.wrap .u64 (u2-(IntKind.wrap .u64 ((IntKind.wrap .u64 (Int.tdiv u2 (IntKind.wrap .u64 base)))*(IntKind.wrap .u64 base)))))<(36:Int))∧(((0:Int)≤(IntKind.wrap .i64 (i-(1:Int)))∧(IntKind.wrap .i64 (i-(1:Int)))<(65:Int))∧StW h5 (Addr.add a ((Int.toNat (IntKind.wrap .i64 (i-(1:Int))))*1)) [(.int .u8 (((UInt8.toNat (List.getD [48,49,50,51,52,53,54,55,56,57,97,98,99,100,101,102,103,104,105,106,107,108,109,110,111,112,113,114,115,116,117,118,119,120,121,122] (Int.toNat (IntKind.wrap .u64 (u2-(IntKind.wrap .u64 ((IntKind.wrap .u64 (Int.tdiv u2 (IntKind.wrap .u64 base)))*(IntKind.wrap .u64 base)))))) 0)):Nat):Int))] (fun h6=>
 again (IntKind.wrap .u64 (Int.tdiv u2 (IntKind.wrap .u64 base))) (IntKind.wrap .i64 (i-(1:Int))) h6))))
 else
 (((0:Int)≤u2∧u2<(36:Int))∧(((0:Int)≤(IntKind.wrap .i64 (i-(1:Int)))∧(IntKind.wrap .i64 (i-(1:Int)))<(65:Int))∧StW h5 (Addr.add a ((Int.toNat (IntKind.wrap .i64 (i-(1:Int))))*1)) [(.int .u8 (((UInt8.toNat (List.getD [48,49,50,51,52,53,54,55,56,57,97,98,99,100,101,102,103,104,105,106,107,108,109,110,111,112,113,114,115,116,117,118,119,120,121,122] (Int.toNat u2) 0)):Nat):Int))] (fun h6=>
 k (IntKind.wrap .i64 (i-(1:Int))) h6))))) u1 (65:Int) h4)) h3)
 (fun i h4=>
 (if neg=true then
 (((0:Int)≤(IntKind.wrap .i64 (i-(1:Int)))∧(IntKind.wrap .i64 (i-(1:Int)))<(65:Int))∧StW h4 (Addr.add a ((Int.toNat (IntKind.wrap .i64 (i-(1:Int))))*1)) [(.int .u8 (45:Int))] (fun h5=>
 (if append_=true then
 (((0:Int)≤(IntKind.wrap .i64 (i-(1:Int)))∧(IntKind.wrap .i64 (i-(1:Int)))≤(65:Int))∧LetW (α:=Sl) ⟨(sbase (some a) 1 (Int.toNat (IntKind.wrap .i64 (i-(1:Int)))) 65),(65-(Int.toNat (IntKind.wrap .i64 (i-(1:Int))))),(65-(Int.toNat (IntKind.wrap .i64 (i-(1:Int)))))⟩ fun y=>
 zca 1 1 [(.int .u8 (0:Int))] dst y (fun r h6=>
 Q r ⟨#[]⟩ h6) h5)
 else
 (((0:Int)≤(IntKind.wrap .i64 (i-(1:Int)))∧(IntKind.wrap .i64 (i-(1:Int)))≤(65:Int))∧LetW (α:=Sl) ⟨(sbase (some a) 1 (Int.toNat (IntKind.wrap .i64 (i-(1:Int)))) 65),(65-(Int.toNat (IntKind.wrap .i64 (i-(1:Int))))),(65-(Int.toNat (IntKind.wrap .i64 (i-(1:Int)))))⟩ fun y=>
 SemV none P (convert 74 9 y.v) shStr h5 fun x=>
 Q ⟨none,0,0⟩ x h5))))
 else
 (if append_=true then
 (((0:Int)≤i∧i≤(65:Int))∧LetW (α:=Sl) ⟨(sbase (some a) 1 (Int.toNat i) 65),(65-(Int.toNat i)),(65-(Int.toNat i))⟩ fun y=>
 zca 1 1 [(.int .u8 (0:Int))] dst y (fun r h5=>
 Q r ⟨#[]⟩ h5) h4)
 else
 (((0:Int)≤i∧i≤(65:Int))∧LetW (α:=Sl) ⟨(sbase (some a) 1 (Int.toNat i) 65),(65-(Int.toNat i)),(65-(Int.toNat i))⟩ fun y=>
 SemV none P (convert 74 9 y.v) shStr h4 fun x=>
 Q ⟨none,0,0⟩ x h4)))))) h1)
def znp (P:Program) (x:Int) (y:Int) (Q:(Int→(Int→(Hp→Prop)))) (h:Hp):Prop:=
 ((0:Int)≤(32:Int)∧((0:Int)≤(32:Int)∧((0:Int)≤(32:Int)∧((0:Int)≤(32:Int)∧((0:Int)≤(32:Int)∧Q (IntKind.wrap .u64 ((IntKind.wrap .u64 ((IntKind.wrap .u64 ((shrI .u64 x (32:Int))*(shrI .u64 y (32:Int))))+(shrI .u64 (IntKind.wrap .u64 ((IntKind.wrap .u64 ((shrI .u64 x (32:Int))*(bitsI .and .u64 y (4294967295:Int))))+(shrI .u64 (IntKind.wrap .u64 ((bitsI .and .u64 x (4294967295:Int))*(bitsI .and .u64 y (4294967295:Int)))) (32:Int)))) (32:Int))))+(shrI .u64 (IntKind.wrap .u64 ((bitsI .and .u64 (IntKind.wrap .u64 ((IntKind.wrap .u64 ((shrI .u64 x (32:Int))*(bitsI .and .u64 y (4294967295:Int))))+(shrI .u64 (IntKind.wrap .u64 ((bitsI .and .u64 x (4294967295:Int))*(bitsI .and .u64 y (4294967295:Int)))) (32:Int)))) (4294967295:Int))+(IntKind.wrap .u64 ((bitsI .and .u64 x (4294967295:Int))*(shrI .u64 y (32:Int)))))) (32:Int)))) (IntKind.wrap .u64 (x*y)) h)))))
def zgz (P:Program) (s:ByteArray) (c:Int) (Q:(Int→(Hp→Prop))) (h:Hp):Prop:=
 SemE P (Extern.BytealgIndexByte.indexByte #[(.string s),(.int .u8 c)]) (shInt .i64) (fun r h1=>
 Q r h1) h
def zcl (P:Program) (dst:Sl) (neg:Bool) (s:Sl) (dp:Int) (nd:Int) (prec:Int) (fmt:Int) (shortest:Bool) (Q:(Sl→(Hp→Prop))) (h:Hp):Prop:=
 JoinW2 (α1:=Int) (α2:=Int) (fun k=>
 LetW ((fmt==(103:Int)) || (fmt==(71:Int))) fun y=>
 (if y=true then
 JoinW1 (α1:=Int) (fun k1=>
 LetW ((decide (prec>nd))&&(decide (nd≥dp))) fun y1=>
 (if y1=true then
 k1 nd h
 else
 k1 prec h))
 (fun eprec h1=>
 JoinW1 (α1:=Int) (fun k1=>
 (if shortest=true then
 k1 (6:Int) h1
 else
 k1 eprec h1))
 (fun eprec1 h2=>
 LetW ((decide ((IntKind.wrap .i64 (dp-(1:Int)))<(-4:Int))) || (decide ((IntKind.wrap .i64 (dp-(1:Int)))≥eprec1))) fun y1=>
 (if y1=true then
 JoinW1 (α1:=Int) (fun k1=>
 (if (decide (prec>nd))=true then
 k1 nd h2
 else
 k1 prec h2))
 (fun prec1 h3=>
 k (IntKind.wrap .i64 (prec1-(1:Int))) (IntKind.wrap .u8 ((IntKind.wrap .u8 (fmt+(101:Int)))-(103:Int))) h3)
 else
 JoinW1 (α1:=Int) (fun k1=>
 (if (decide (prec>dp))=true then
 k1 nd h2
 else
 k1 prec h2))
 (fun prec1 h3=>
 k (max2I (IntKind.wrap .i64 (prec1-dp)) (0:Int)) (102:Int) h3))))
 else
 k prec fmt h))
 (fun prec1 fmt1 h1=>
 JoinW1 (α1:=Bool) (fun k=>
 (if (fmt1==(101:Int))=true then
 k (fmt1==(101:Int)) h1
 else
 k (fmt1==(69:Int)) h1))
 (fun t75 h2=>
 (if t75=true then
 JoinW1 (α1:=Sl) (fun k=>
 (if neg=true then
 NewW [(.int .u8 (45:Int))] (fun a h3=>
 zca 1 1 [(.int .u8 (0:Int))] dst ⟨(some a),1,1⟩ (fun r h4=>
 k r h4) h3) h2
 else
 k dst h2))
 (fun dst1 h3=>
 JoinW1 (α1:=Int) (fun k=>
 (if (nd !=(0:Int))=true then
 ((InB s.base s.len (0:Int))∧LdW none (shInt .u8) h3 (sat s.base 1 (0:Int)) fun x=>
 k x h3)
 else
 k (48:Int) h3))
 (fun ch h4=>
 NewW [(.int .u8 ch)] (fun a h5=>
 zca 1 1 [(.int .u8 (0:Int))] dst1 ⟨(some a),1,1⟩ (fun r h6=>
 JoinW1 (α1:=Sl) (fun k=>
 (if (decide (prec1>(0:Int)))=true then
 NewW [(.int .u8 (46:Int))] (fun a1 h7=>
 zca 1 1 [(.int .u8 (0:Int))] r ⟨(some a1),1,1⟩ (fun r1 h8=>
 JoinW2 (α1:=Sl) (α2:=Int) (fun k1=>
 (if (decide ((1:Int)<(min2I nd (IntKind.wrap .i64 (prec1+(1:Int))))))=true then
 (((0:Int)≤(1:Int)∧((1:Int)≤(min2I nd (IntKind.wrap .i64 (prec1+(1:Int))))∧(min2I nd (IntKind.wrap .i64 (prec1+(1:Int))))≤((s.cap:Nat):Int)))∧LetW (α:=Sl) ⟨(sbase s.base 1 1 s.cap),((Int.toNat (min2I nd (IntKind.wrap .i64 (prec1+(1:Int)))))-1),(s.cap-1)⟩ fun y=>
 zca 1 1 [(.int .u8 (0:Int))] r1 y (fun r2 h9=>
 k1 r2 (min2I nd (IntKind.wrap .i64 (prec1+(1:Int)))) h9) h8)
 else
 k1 r1 (1:Int) h8))
 (fun dst2 i h9=>
 LoopW2 (α1:=Sl) (α2:=Int) (fun again dst3 t114 h10=>
 (if (decide (t114<(IntKind.wrap .i64 ((IntKind.wrap .i64 (prec1+(1:Int)))-i))))=true then
 NewW [(.int .u8 (48:Int))] (fun a2 h11=>
 zca 1 1 [(.int .u8 (0:Int))] ⟨dst3.base,dst3.len,dst3.cap⟩ ⟨(some a2),1,1⟩ (fun r2 h12=>
 again r2 (IntKind.wrap .i64 (t114+(1:Int))) h12) h11) h10
 else
 k ⟨dst3.base,dst3.len,dst3.cap⟩ h10)) ⟨dst2.base,dst2.len,dst2.cap⟩ (0:Int) h9)) h7) h6
 else
 k r h6))
 (fun dst2 h7=>
 NewW [(.int .u8 fmt1)] (fun a1 h8=>
 zca 1 1 [(.int .u8 (0:Int))] dst2 ⟨(some a1),1,1⟩ (fun r1 h9=>
 JoinW1 (α1:=Int) (fun k=>
 (if (nd==(0:Int))=true then
 k (0:Int) h9
 else
 k (IntKind.wrap .i64 (dp-(1:Int))) h9))
 (fun exp h10=>
 JoinW2 (α1:=Int) (α2:=Int) (fun k=>
 (if (decide (exp<(0:Int)))=true then
 k (45:Int) (IntKind.wrap .i64 ((0:Int)-exp)) h10
 else
 k (43:Int) exp h10))
 (fun ch1 exp1 h11=>
 NewW [(.int .u8 ch1)] (fun a2 h12=>
 zca 1 1 [(.int .u8 (0:Int))] r1 ⟨(some a2),1,1⟩ (fun r2 h13=>
 (if (decide (exp1<(10:Int)))=true then
 NewW [(.int .u8 (48:Int)),(.int .u8 (IntKind.wrap .u8 ((IntKind.wrap .u8 exp1)+(48:Int))))] (fun a3 h14=>
 zca 1 1 [(.int .u8 (0:Int))] r2 ⟨(some a3),2,2⟩ (fun r3 h15=>
 Q r3 h15) h14) h13
 else
 (if (decide (exp1<(100:Int)))=true then
 ((10:Int)≠(0:Int)∧((10:Int)≠(0:Int)∧NewW [(.int .u8 (IntKind.wrap .u8 ((IntKind.wrap .u8 (IntKind.wrap .i64 (Int.tdiv exp1 (10:Int))))+(48:Int)))),(.int .u8 (IntKind.wrap .u8 ((IntKind.wrap .u8 (Int.tmod exp1 (10:Int)))+(48:Int))))] (fun a3 h14=>
 zca 1 1 [(.int .u8 (0:Int))] r2 ⟨(some a3),2,2⟩ (fun r3 h15=>
 Q r3 h15) h14) h13))
 else
 ((100:Int)≠(0:Int)∧((10:Int)≠(0:Int)∧((10:Int)≠(0:Int)∧((10:Int)≠(0:Int)∧NewW [(.int .u8 (IntKind.wrap .u8 ((IntKind.wrap .u8 (IntKind.wrap .i64 (Int.tdiv exp1 (100:Int))))+(48:Int)))),(.int .u8 (IntKind.wrap .u8 ((Int.tmod (IntKind.wrap .u8 (IntKind.wrap .i64 (Int.tdiv exp1 (10:Int)))) (10:Int))+(48:Int)))),(.int .u8 (IntKind.wrap .u8 ((IntKind.wrap .u8 (Int.tmod exp1 (10:Int)))+(48:Int))))] (fun a3 h14=>
 zca 1 1 [(.int .u8 (0:Int))] r2 ⟨(some a3),3,3⟩ (fun r3 h15=>
 Q r3 h15) h14) h13))))))) h12) h11))) h8) h7)) h5) h4))
 else
 (if (fmt1==(102:Int))=true then
 JoinW1 (α1:=Sl) (fun k=>
 (if neg=true then
 NewW [(.int .u8 (45:Int))] (fun a h3=>
 zca 1 1 [(.int .u8 (0:Int))] dst ⟨(some a),1,1⟩ (fun r h4=>
 k r h4) h3) h2
 else
 k dst h2))
 (fun dst1 h3=>
 JoinW1 (α1:=Sl) (fun k=>
 (if (decide (dp>(0:Int)))=true then
 (((0:Int)≤(min2I nd dp)∧(min2I nd dp)≤((s.cap:Nat):Int))∧LetW (α:=Sl) ⟨(sbase s.base 1 0 s.cap),((Int.toNat (min2I nd dp))-0),(s.cap-0)⟩ fun y=>
 LoopW2 (α1:=Sl) (α2:=Int) (fun again dst2 t191 h4=>
 (if (decide (t191<((y.len:Nat):Int)))=true then
 ((InB y.base y.len t191)∧LdW none (shInt .u8) h4 (sat y.base 1 t191) fun x=>
 NewW [(.int .u8 x)] (fun a h5=>
 zca 1 1 [(.int .u8 (0:Int))] ⟨dst2.base,dst2.len,dst2.cap⟩ ⟨(some a),1,1⟩ (fun r h6=>
 again r (IntKind.wrap .i64 (t191+(1:Int))) h6) h5) h4)
 else
 LoopW2 (α1:=Sl) (α2:=Int) (fun again1 dst3 t203 h5=>
 (if (decide (t203<(IntKind.wrap .i64 (dp-(min2I nd dp)))))=true then
 NewW [(.int .u8 (48:Int))] (fun a h6=>
 zca 1 1 [(.int .u8 (0:Int))] ⟨dst3.base,dst3.len,dst3.cap⟩ ⟨(some a),1,1⟩ (fun r h7=>
 again1 r (IntKind.wrap .i64 (t203+(1:Int))) h7) h6) h5
 else
 k ⟨dst3.base,dst3.len,dst3.cap⟩ h5)) ⟨dst2.base,dst2.len,dst2.cap⟩ (0:Int) h4)) dst1 (0:Int) h3)
 else
 NewW [(.int .u8 (48:Int))] (fun a h4=>
 zca 1 1 [(.int .u8 (0:Int))] dst1 ⟨(some a),1,1⟩ (fun r h5=>
 k r h5) h4) h3))
 (fun dst2 h4=>
 (if (decide (prec1>(0:Int)))=true then
 NewW [(.int .u8 (46:Int))] (fun a h5=>
 zca 1 1 [(.int .u8 (0:Int))] dst2 ⟨(some a),1,1⟩ (fun r h6=>
 LoopW2 (α1:=Sl) (α2:=Int) (fun again dst3 t240 h7=>
 (if (decide (t240<(min2I prec1 (max2I (0:Int) (IntKind.wrap .i64 ((0:Int)-dp))))))=true then
 NewW [(.int .u8 (48:Int))] (fun a1 h8=>
 zca 1 1 [(.int .u8 (0:Int))] ⟨dst3.base,dst3.len,dst3.cap⟩ ⟨(some a1),1,1⟩ (fun r1 h9=>
 again r1 (IntKind.wrap .i64 (t240+(1:Int))) h9) h8) h7
 else
 LoopW2 (α1:=Sl) (α2:=Int) (fun again1 dst4 t247 h8=>
 (if (decide (t247<(min2I (IntKind.wrap .i64 (prec1-(min2I prec1 (max2I (0:Int) (IntKind.wrap .i64 ((0:Int)-dp)))))) (max2I (0:Int) (IntKind.wrap .i64 (nd-(IntKind.wrap .i64 (dp+(min2I prec1 (max2I (0:Int) (IntKind.wrap .i64 ((0:Int)-dp))))))))))))=true then
 ((InB s.base s.len (IntKind.wrap .i64 ((IntKind.wrap .i64 (dp+(min2I prec1 (max2I (0:Int) (IntKind.wrap .i64 ((0:Int)-dp))))))+t247)))∧LdW none (shInt .u8) h8 (sat s.base 1 (IntKind.wrap .i64 ((IntKind.wrap .i64 (dp+(min2I prec1 (max2I (0:Int) (IntKind.wrap .i64 ((0:Int)-dp))))))+t247))) fun x=>
 NewW [(.int .u8 x)] (fun a1 h9=>
 zca 1 1 [(.int .u8 (0:Int))] ⟨dst4.base,dst4.len,dst4.cap⟩ ⟨(some a1),1,1⟩ (fun r1 h10=>
 again1 r1 (IntKind.wrap .i64 (t247+(1:Int))) h10) h9) h8)
 else
 LoopW2 (α1:=Sl) (α2:=Int) (fun again2 dst5 t261 h9=>
 (if (decide (t261<(max2I (0:Int) (IntKind.wrap .i64 ((IntKind.wrap .i64 (prec1-(min2I prec1 (max2I (0:Int) (IntKind.wrap .i64 ((0:Int)-dp))))))-(min2I (IntKind.wrap .i64 (prec1-(min2I prec1 (max2I (0:Int) (IntKind.wrap .i64 ((0:Int)-dp)))))) (max2I (0:Int) (IntKind.wrap .i64 (nd-(IntKind.wrap .i64 (dp+(min2I prec1 (max2I (0:Int) (IntKind.wrap .i64 ((0:Int)-dp)))))))))))))))=true then
 NewW [(.int .u8 (48:Int))] (fun a1 h10=>
 zca 1 1 [(.int .u8 (0:Int))] ⟨dst5.base,dst5.len,dst5.cap⟩ ⟨(some a1),1,1⟩ (fun r1 h11=>
 again2 r1 (IntKind.wrap .i64 (t261+(1:Int))) h11) h10) h9
 else
 Q ⟨dst5.base,dst5.len,dst5.cap⟩ h9)) ⟨dst4.base,dst4.len,dst4.cap⟩ (0:Int) h8)) ⟨dst3.base,dst3.len,dst3.cap⟩ (0:Int) h7)) r (0:Int) h6) h5) h4
 else
 Q dst2 h4)))
 else
 NewW [(.int .u8 (37:Int)),(.int .u8 fmt1)] (fun a h3=>
 zca 1 1 [(.int .u8 (0:Int))] dst ⟨(some a),2,2⟩ (fun r h4=>
 Q r h4) h3) h2))))
def bl256 :List UInt8:=[0,1,2,2,3,3,3,3,4,4,4,4,4,4,4,4,5,5,5,5,5,5,5,5,5,5,5,5,5,5,5,5,6,6,6,6,6,6,6,6,6,6,6,6,6,6,6,6,6,6,6,6,6,6,6,6,6,6,6,6,6,6,6,6,7,7,7,7,7,7,7,7,7,7,7,7,7,7,7,7,7,7,7,7,7,7,7,7,7,7,7,7,7,7,7,7,7,7,7,7,7,7,7,7,7,7,7,7,7,7,7,7,7,7,7,7,7,7,7,7,7,7,7,7,7,7,7,7,8,8,8,8,8,8,8,8,8,8,8,8,8,8,8,8,8,8,8,8,8,8,8,8,8,8,8,8,8,8,8,8,8,8,8,8,8,8,8,8,8,8,8,8,8,8,8,8,8,8,8,8,8,8,8,8,8,8,8,8,8,8,8,8,8,8,8,8,8,8,8,8,8,8,8,8,8,8,8,8,8,8,8,8,8,8,8,8,8,8,8,8,8,8,8,8,8,8,8,8,8,8,8,8,8,8,8,8,8,8,8,8,8,8,8,8,8,8,8,8,8,8,8,8,8,8,8,8]
def znq (P:Program) (x:Int) (Q:(Int→(Hp→Prop))) (h:Hp):Prop:=
 JoinW2 (α1:=Int) (α2:=Int) (fun k=>
 (if (decide (x≥(4294967296:Int)))=true then
 ((0:Int)≤(32:Int)∧k (shrI .u64 x (32:Int)) (32:Int) h)
 else
 k x (0:Int) h))
 (fun x1 n h1=>
 JoinW2 (α1:=Int) (α2:=Int) (fun k=>
 (if (decide (x1≥(65536:Int)))=true then
 ((0:Int)≤(16:Int)∧k (shrI .u64 x1 (16:Int)) (IntKind.wrap .i64 (n+(16:Int))) h1)
 else
 k x1 n h1))
 (fun x2 n1 h2=>
 (if (decide (x2≥(256:Int)))=true then
 ((0:Int)≤(8:Int)∧(((0:Int)≤(IntKind.wrap .u8 (shrI .u64 x2 (8:Int)))∧(IntKind.wrap .u8 (shrI .u64 x2 (8:Int)))<(256:Int))∧Q (IntKind.wrap .i64 ((IntKind.wrap .i64 (n1+(8:Int)))+(IntKind.wrap .i64 (((UInt8.toNat (List.getD bl256 (Int.toNat (IntKind.wrap .u8 (shrI .u64 x2 (8:Int)))) 0)):Nat):Int)))) h2))
 else
 (((0:Int)≤(IntKind.wrap .u8 x2)∧(IntKind.wrap .u8 x2)<(256:Int))∧Q (IntKind.wrap .i64 (n1+(IntKind.wrap .i64 (((UInt8.toNat (List.getD bl256 (Int.toNat (IntKind.wrap .u8 x2)) 0)):Nat):Int)))) h2))))
def zfg (P:Program) (s:Sl) (d:Int) (p:Int) (nd:Int) (Q:(Int→(Int→(Hp→Prop)))) (h:Hp):Prop:=
 (if (decide (nd≤((s.len:Nat):Int)))=true then
 (((0:Int)≤nd∧nd≤((s.cap:Nat):Int))∧LetW (α:=Sl) ⟨(sbase s.base 1 0 s.cap),((Int.toNat nd)-0),(s.cap-0)⟩ fun y=>
 Call0 P zbh [y.v,(.int .u64 d)] (fun h1=>
 LoopW1 (α1:=Int) (fun again nd1 h2=>
 (((decide (nd1>(0:Int)))=true→(InB s.base s.len (IntKind.wrap .i64 (nd1-(1:Int)))))∧LdW (some (decide (nd1>(0:Int)))) (shInt .u8) h2 (sat s.base 1 (IntKind.wrap .i64 (nd1-(1:Int)))) fun x=>
 LetW ((decide (nd1>(0:Int)))&&(x==(48:Int))) fun y1=>
 (if y1=true then
 again (IntKind.wrap .i64 (nd1-(1:Int))) h2
 else
 Q (IntKind.wrap .i64 (nd+p)) nd1 h2))) nd h1) h)
 else
 Q (0:Int) nd h)
def zfh (P:Program) (x:Int) (Q:(Int→(Hp→Prop))) (h:Hp):Prop:=
 ((0:Int)≤(18:Int)∧Q (shrI .i64 (IntKind.wrap .i64 (x*(78913:Int))) (18:Int)) h)
def zas (P:Program) (a:Option Addr) (k:Int) (Q:(Hp→Prop)) (h:Hp):Prop:=
 NilW none a fun p=>
 LdW none (shInt .i64) h (Addr.add p 800) fun x=>
 (if (x==(0:Int))=true then
 Q h
 else
 (if (decide (k>(0:Int)))=true then
 LoopW1 (α1:=Int) (fun again k1 h1=>
 (if (decide (k1>(60:Int)))=true then
 Call0 P zcy [(.pointer a),(.int .u64 (60:Int))] (fun h2=>
 again (IntKind.wrap .i64 (k1-(60:Int))) h2) h1
 else
 Call0 P zcy [(.pointer a),(.int .u64 (IntKind.wrap .u64 k1))] (fun h2=>
 Q h2) h1)) k h
 else
 (if (decide (k<(0:Int)))=true then
 LoopW1 (α1:=Int) (fun again k1 h1=>
 (if (decide (k1<(-60:Int)))=true then
 Call0 P zcr [(.pointer a),(.int .u64 (60:Int))] (fun h2=>
 again (IntKind.wrap .i64 (k1+(60:Int))) h2) h1
 else
 Call0 P zcr [(.pointer a),(.int .u64 (IntKind.wrap .u64 (IntKind.wrap .i64 ((0:Int)-k1))))] (fun h2=>
 Q h2) h1)) k h
 else
 Q h)))
def zci (P:Program) (m:Int) (e:Int) (Q:(Int→(Int→(Hp→Prop)))) (h:Hp):Prop:=
 JoinW2 (α1:=Int) (α2:=Int) (fun k=>
 k (52:Int) (-1085:Int) h)
 (fun mantBits minExp h1=>
 JoinW4 (α1:=Int) (α2:=Int) (α3:=Int) (α4:=Int) (fun k=>
 LetW ((m==(9223372036854775808:Int))&&(decide (e>minExp))) fun y=>
 (if y=true then
 CallT P zkt [(.int .i64 (IntKind.wrap .i64 (e+(IntKind.wrap .i64 ((63:Int)-mantBits)))))] (shInt .i64) (fun r h2=>
 ((0:Int)≤(IntKind.wrap .i64 ((IntKind.wrap .i64 ((63:Int)-mantBits))-(2:Int)))∧((0:Int)≤(IntKind.wrap .i64 ((IntKind.wrap .i64 ((63:Int)-mantBits))-(1:Int)))∧((0:Int)≤(IntKind.wrap .i64 ((63:Int)-mantBits))∧k (IntKind.wrap .i64 ((0:Int)-r)) (IntKind.wrap .u64 (m-(shlI .u64 (1:Int) (IntKind.wrap .i64 ((IntKind.wrap .i64 ((63:Int)-mantBits))-(2:Int)))))) (IntKind.wrap .u64 (m+(shlI .u64 (1:Int) (IntKind.wrap .i64 ((IntKind.wrap .i64 ((63:Int)-mantBits))-(1:Int)))))) (bitsI .and .i64 (IntKind.wrap .i64 (shrI .u64 m (IntKind.wrap .i64 ((63:Int)-mantBits)))) (1:Int)) h2)))) h1
 else
 (if (decide (e≥minExp))=true then
 CallT P zbc [(.int .i64 (IntKind.wrap .i64 (e+(IntKind.wrap .i64 ((63:Int)-mantBits)))))] (shInt .i64) (fun r h2=>
 ((0:Int)≤(IntKind.wrap .i64 ((IntKind.wrap .i64 ((63:Int)-mantBits))-(1:Int)))∧((0:Int)≤(IntKind.wrap .i64 ((IntKind.wrap .i64 ((63:Int)-mantBits))-(1:Int)))∧((0:Int)≤(IntKind.wrap .i64 ((63:Int)-mantBits))∧k (IntKind.wrap .i64 ((0:Int)-r)) (IntKind.wrap .u64 (m-(shlI .u64 (1:Int) (IntKind.wrap .i64 ((IntKind.wrap .i64 ((63:Int)-mantBits))-(1:Int)))))) (IntKind.wrap .u64 (m+(shlI .u64 (1:Int) (IntKind.wrap .i64 ((IntKind.wrap .i64 ((63:Int)-mantBits))-(1:Int)))))) (bitsI .and .i64 (IntKind.wrap .i64 (shrI .u64 m (IntKind.wrap .i64 ((63:Int)-mantBits)))) (1:Int)) h2)))) h1
 else
 CallT P zbc [(.int .i64 (IntKind.wrap .i64 (e+(IntKind.wrap .i64 ((IntKind.wrap .i64 ((63:Int)-mantBits))+(IntKind.wrap .i64 (minExp-e)))))))] (shInt .i64) (fun r h2=>
 ((0:Int)≤(IntKind.wrap .i64 ((IntKind.wrap .i64 ((IntKind.wrap .i64 ((63:Int)-mantBits))+(IntKind.wrap .i64 (minExp-e))))-(1:Int)))∧((0:Int)≤(IntKind.wrap .i64 ((IntKind.wrap .i64 ((IntKind.wrap .i64 ((63:Int)-mantBits))+(IntKind.wrap .i64 (minExp-e))))-(1:Int)))∧((0:Int)≤(IntKind.wrap .i64 ((IntKind.wrap .i64 ((63:Int)-mantBits))+(IntKind.wrap .i64 (minExp-e))))∧k (IntKind.wrap .i64 ((0:Int)-r)) (IntKind.wrap .u64 (m-(shlI .u64 (1:Int) (IntKind.wrap .i64 ((IntKind.wrap .i64 ((IntKind.wrap .i64 ((63:Int)-mantBits))+(IntKind.wrap .i64 (minExp-e))))-(1:Int)))))) (IntKind.wrap .u64 (m+(shlI .u64 (1:Int) (IntKind.wrap .i64 ((IntKind.wrap .i64 ((IntKind.wrap .i64 ((63:Int)-mantBits))+(IntKind.wrap .i64 (minExp-e))))-(1:Int)))))) (bitsI .and .i64 (IntKind.wrap .i64 (shrI .u64 m (IntKind.wrap .i64 ((IntKind.wrap .i64 ((63:Int)-mantBits))+(IntKind.wrap .i64 (minExp-e)))))) (1:Int)) h2)))) h1)))
 (fun p min max odd h2=>
 NewW [(.int .u64 (0:Int)),(.int .u64 (0:Int)),(.int .i64 (0:Int))] (fun a h3=>
 CallT P zfb [(.int .i64 p)] (shInt .i64) (fun r h4=>
 Call0 P zdh [(.pointer (some a)),(.int .i64 e),(.int .i64 p),(.int .i64 r)] (fun h5=>
 CallT P zbu [(.int .u64 min),(.pointer (some a))] (shInt .u64) (fun r1 h6=>
 CallT P zda [(.int .u64 r1),(.int .i64 odd)] (shInt .u64) (fun r2 h7=>
 CallT P zgn [(.int .u64 r2)] (shInt .u64) (fun r3 h8=>
 CallT P zbu [(.int .u64 max),(.pointer (some a))] (shInt .u64) (fun r4 h9=>
 CallT P zda [(.int .u64 r4),(.int .i64 (IntKind.wrap .i64 ((0:Int)-odd)))] (shInt .u64) (fun r5 h10=>
 CallT P zge [(.int .u64 r5)] (shInt .u64) (fun r6 h11=>
 ((10:Int)≠(0:Int)∧(if (decide ((IntKind.wrap .u64 ((IntKind.wrap .u64 (Int.tdiv r6 (10:Int)))*(10:Int)))≥r3))=true then
 Q (IntKind.wrap .u64 (Int.tdiv r6 (10:Int))) (IntKind.wrap .i64 ((0:Int)-(IntKind.wrap .i64 (p-(1:Int))))) h11
 else
 (if (decide (r3<r6))=true then
 CallT P zbu [(.int .u64 m),(.pointer (some a))] (shInt .u64) (fun r7 h12=>
 CallT P zdb [(.int .u64 r7)] (shInt .u64) (fun r8 h13=>
 Q r8 (IntKind.wrap .i64 ((0:Int)-p)) h13) h12) h11
 else
 Q r3 (IntKind.wrap .i64 ((0:Int)-p)) h11)))) h10) h9) h8) h7) h6) h5) h4) h3) h2))
def zig (P:Program) (x:Int) (Q:(Sl→(Hp→Prop))) (h:Hp):Prop:=
 ((0:Int)≤(32:Int)∧NewW [(.int .u32 (IntKind.wrap .u32 x)),(.int .u32 (IntKind.wrap .u32 (shrI .u64 x (32:Int))))] (fun a h1=>
 CallT P zgo [(.slice (some a) 2 2)] shSl (fun r h2=>
 Q r h2) h1) h)
def zga (P:Program) (a:Sl) (n:Int) (Q:(Sl→(Hp→Prop))) (h:Hp):Prop:=
 (if (((a.len:Nat):Int)==(0:Int))=true then
 Q a h
 else
 NewW [] (fun a1 h1=>
 LoopW2 (α1:=Sl) (α2:=Int) (fun again out i h2=>
 ((32:Int)≠(0:Int)∧(if (decide (i<(IntKind.wrap .i64 (Int.tdiv n (32:Int)))))=true then
 NewW [(.int .u32 (0:Int))] (fun a2 h3=>
 zca 1 4 [(.int .u32 (0:Int))] ⟨out.base,out.len,out.cap⟩ ⟨(some a2),1,1⟩ (fun r h4=>
 again r (IntKind.wrap .i64 (i+(1:Int))) h4) h3) h2
 else
 zca 1 4 [(.int .u32 (0:Int))] ⟨out.base,out.len,out.cap⟩ a (fun r h3=>
 ((32:Int)≠(0:Int)∧((0:Int)≤(Int.tmod n (32:Int))∧CallT P zcj [r.v,(.int .u32 (shlI .u32 (1:Int) (Int.tmod n (32:Int))))] shSl (fun r1 h4=>
 Q r1 h4) h3))) h2))) ⟨(some a1),0,0⟩ (0:Int) h1) h)
def zjt (P:Program) (a:Sl) (n:Int) (Q:(Sl→(Hp→Prop))) (h:Hp):Prop:=
 LoopW2 (α1:=Sl) (α2:=Int) (fun again a1 n1 h1=>
 (if (decide (n1≥(9:Int)))=true then
 CallT P zcj [a1.v,(.int .u32 (1000000000:Int))] shSl (fun r h2=>
 again r (IntKind.wrap .i64 (n1-(9:Int))) h2) h1
 else
 LoopW2 (α1:=Sl) (α2:=Int) (fun again1 a2 n2 h2=>
 (if (decide (n2>(0:Int)))=true then
 CallT P zcj [a2.v,(.int .u32 (10:Int))] shSl (fun r h3=>
 again1 r (IntKind.wrap .i64 (n2-(1:Int))) h3) h2
 else
 Q ⟨a2.base,a2.len,a2.cap⟩ h2)) ⟨a1.base,a1.len,a1.cap⟩ n1 h1)) a n h
def zho (P:Program) (a:Sl) (b:Sl) (Q:(Int→(Hp→Prop))) (h:Hp):Prop:=
 (if (((a.len:Nat):Int) !=((b.len:Nat):Int))=true then
 (if (decide (((a.len:Nat):Int)<((b.len:Nat):Int)))=true then
 Q (-1:Int) h
 else
 Q (1:Int) h)
 else
 LoopW1 (α1:=Int) (fun again i h1=>
 (if (decide (i≥(0:Int)))=true then
 ((InB a.base a.len i)∧LdW none (shInt .u32) h1 (sat a.base 1 i) fun x=>
 ((InB b.base b.len i)∧LdW none (shInt .u32) h1 (sat b.base 1 i) fun x1=>
 (if (decide (x<x1))=true then
 Q (-1:Int) h1
 else
 ((InB a.base a.len i)∧LdW none (shInt .u32) h1 (sat a.base 1 i) fun x2=>
 ((InB b.base b.len i)∧LdW none (shInt .u32) h1 (sat b.base 1 i) fun x3=>
 (if (decide (x2>x3))=true then
 Q (1:Int) h1
 else
 again (IntKind.wrap .i64 (i-(1:Int))) h1))))))
 else
 Q (0:Int) h1)) (IntKind.wrap .i64 (((a.len:Nat):Int)-(1:Int))) h)
def zju (P:Program) (a:Sl) (b:Sl) (Q:(Sl→(Hp→Prop))) (h:Hp):Prop:=
 NewW [] (fun a1 h1=>
 LoopW3 (α1:=Sl) (α2:=Int) (α3:=Int) (fun again out c i h2=>
 (if (decide (i<((a.len:Nat):Int)))=true then
 ((InB a.base a.len i)∧LdW none (shInt .u32) h2 (sat a.base 1 i) fun x=>
 JoinW1 (α1:=Int) (fun k=>
 (if (decide (i<((b.len:Nat):Int)))=true then
 ((InB b.base b.len i)∧LdW none (shInt .u32) h2 (sat b.base 1 i) fun x1=>
 k (IntKind.wrap .i64 ((IntKind.wrap .i64 (c+(IntKind.wrap .i64 x)))-(IntKind.wrap .i64 x1))) h2)
 else
 k (IntKind.wrap .i64 (c+(IntKind.wrap .i64 x))) h2))
 (fun c1 h3=>
 NewW [(.int .u32 (IntKind.wrap .u32 c1))] (fun a2 h4=>
 zca 1 4 [(.int .u32 (0:Int))] ⟨out.base,out.len,out.cap⟩ ⟨(some a2),1,1⟩ (fun r h5=>
 ((0:Int)≤(32:Int)∧again r (shrI .i64 c1 (32:Int)) (IntKind.wrap .i64 (i+(1:Int))) h5)) h4) h3))
 else
 CallT P zgo [out.v] shSl (fun r h3=>
 Q r h3) h2)) ⟨(some a1),0,0⟩ (0:Int) (0:Int) h1) h
def zgb (P:Program) (a:Sl) (m:Int) (Q:(Sl→(Hp→Prop))) (h:Hp):Prop:=
 NewW [] (fun a1 h1=>
 LoopW3 (α1:=Sl) (α2:=Int) (α3:=Int) (fun again out c i h2=>
 (if (decide (i<((a.len:Nat):Int)))=true then
 ((InB a.base a.len i)∧LdW none (shInt .u32) h2 (sat a.base 1 i) fun x=>
 NewW [(.int .u32 (IntKind.wrap .u32 (IntKind.wrap .u64 (c+(IntKind.wrap .u64 ((IntKind.wrap .u64 x)*(IntKind.wrap .u64 m)))))))] (fun a2 h3=>
 zca 1 4 [(.int .u32 (0:Int))] ⟨out.base,out.len,out.cap⟩ ⟨(some a2),1,1⟩ (fun r h4=>
 ((0:Int)≤(32:Int)∧again r (shrI .u64 (IntKind.wrap .u64 (c+(IntKind.wrap .u64 ((IntKind.wrap .u64 x)*(IntKind.wrap .u64 m))))) (32:Int)) (IntKind.wrap .i64 (i+(1:Int))) h4)) h3) h2)
 else
 NewW [(.int .u32 (IntKind.wrap .u32 c))] (fun a2 h3=>
 zca 1 4 [(.int .u32 (0:Int))] ⟨out.base,out.len,out.cap⟩ ⟨(some a2),1,1⟩ (fun r h4=>
 CallT P zgo [r.v] shSl (fun r1 h5=>
 Q r1 h5) h4) h3) h2)) ⟨(some a1),0,0⟩ (0:Int) (0:Int) h1) h
def zam (P:Program) (s:ByteArray) (Q:(Nat→(Int→(Leaf→(Hp→Prop))))) (h:Hp):Prop:=
 Call3 P zgj [(.string s)] (shFlt .f64) (shInt .i64) zag (fun r r1 r2 h1=>
 (if r2=true then
 EncW zal .nilIface fun e=>
 Q r r1 e h1
 else
 Call7 P zfd [(.string s)] (shInt .u64) (shInt .i64) zag zag zag (shInt .i64) zag (fun r3 r4 r5 r6 r7 r8 r9 h2=>
 (if (!r9)=true then
 EncW zal (.iface 122 (.int .i64 (2:Int))) fun e=>
 Q 0 r8 e h2
 else
 (if r7=true then
 (((0:Int)≤r8∧r8≤(((ByteArray.size s):Nat):Int))∧Call2 P zgk [(.string (ByteArray.extract s 0 (Int.toNat r8))),(.pointer (some ⟨7,0,none⟩)),(.int .u64 r3),(.int .i64 r4),(.bool r5),(.bool r6)] (shFlt .f64) zal (fun r10 r11 h3=>
 EncW zal r11.v fun e=>
 Q r10 r8 e h3) h2)
 else
 JoinW2 (α1:=Int) (α2:=Leaf) (fun k=>
 LdW none zag h2 ⟨2,0,none⟩ fun x=>
 (if x=true then
 CallT P zcc [(.bool r5)] (shInt .u64) (fun r10 h3=>
 ((0:Int)≤(63:Int)∧(if (r3==(0:Int))=true then
 SemE P (Extern.MathFloatBits.float64frombits #[(.int .u64 (bitsI .or .u64 (shlI .u64 r10 (63:Int)) (0:Int)))]) (shFlt .f64) (fun r11 h4=>
 EncW zal .nilIface fun e=>
 Q r11 r8 e h4) h3
 else
 (if (decide (r4>(310:Int)))=true then
 SemE P (Extern.MathFloatBits.float64frombits #[(.int .u64 (bitsI .or .u64 (shlI .u64 r10 (63:Int)) (9218868437227405312:Int)))]) (shFlt .f64) (fun r11 h4=>
 EncW zal (.iface 122 (.int .i64 (1:Int))) fun e=>
 Q r11 r8 e h4) h3
 else
 (if (decide (r4<(-345:Int)))=true then
 SemE P (Extern.MathFloatBits.float64frombits #[(.int .u64 (bitsI .or .u64 (shlI .u64 r10 (63:Int)) (0:Int)))]) (shFlt .f64) (fun r11 h4=>
 EncW zal .nilIface fun e=>
 Q r11 r8 e h4) h3
 else
 JoinW2 (α1:=Int) (α2:=Leaf) (fun k1=>
 (if (!r6)=true then
 Call2 P zej [(.int .u64 r3),(.int .i64 r4),(.bool r5)] (shFlt .f64) zag (fun r11 r12 h4=>
 (if r12=true then
 EncW zal .nilIface fun e=>
 Q r11 r8 e h4
 else
 EncW zal .nilIface fun e=>
 k1 r8 e h4)) h3
 else
 EncW zal .nilIface fun e=>
 k1 r8 e h3))
 (fun n err h4=>
 Call2 P zcd [(.int .u64 r3),(.int .i64 r4),(.int .u64 (shlI .u64 r10 (63:Int)))] (shFlt .f64) zal (fun r11 r12 h5=>
 (if (!r6)=true then
 EncW zal r12.v fun e=>
 Q r11 n e h5
 else
 Call2 P zcd [(.int .u64 (IntKind.wrap .u64 (r3+(1:Int)))),(.int .i64 r4),(.int .u64 (shlI .u64 r10 (63:Int)))] (shFlt .f64) zal (fun r13 r14 h6=>
 SemV none P (binS .eql 48 (.tmp 119) (.tmp 120) (.float .f64 r11) (.float .f64 r13)) zag h6 fun x1=>
 (if x1=true then
 EncW zal r12.v fun e=>
 Q r11 n e h6
 else
 EncW zal err.v fun e=>
 k n e h6)) h5)) h4)))))) h2
 else
 EncW zal .nilIface fun e=>
 k r8 e h2))
 (fun n err h3=>
 NewW [(.int .u8 (0:Int)),(.int .u8 (0:Int)),(.int .u8 (0:Int)),(.int .u8 (0:Int)),(.int .u8 (0:Int)),(.int .u8 (0:Int)),(.int .u8 (0:Int)),(.int .u8 (0:Int)),(.int .u8 (0:Int)),(.int .u8 (0:Int)),(.int .u8 (0:Int)),(.int .u8 (0:Int)),(.int .u8 (0:Int)),(.int .u8 (0:Int)),(.int .u8 (0:Int)),(.int .u8 (0:Int)),(.int .u8 (0:Int)),(.int .u8 (0:Int)),(.int .u8 (0:Int)),(.int .u8 (0:Int)),(.int .u8 (0:Int)),(.int .u8 (0:Int)),(.int .u8 (0:Int)),(.int .u8 (0:Int)),(.int .u8 (0:Int)),(.int .u8 (0:Int)),(.int .u8 (0:Int)),(.int .u8 (0:Int)),(.int .u8 (0:Int)),(.int .u8 (0:Int)),(.int .u8 (0:Int)),(.int .u8 (0:Int)),(.int .u8 (0:Int)),(.int .u8 (0:Int)),(.int .u8 (0:Int)),(.int .u8 (0:Int)),(.int .u8 (0:Int)),(.int .u8 (0:Int)),(.int .u8 (0:Int)),(.int .u8 (0:Int)),(.int .u8 (0:Int)),(.int .u8 (0:Int)),(.int .u8 (0:Int)),(.int .u8 (0:Int)),(.int .u8 (0:Int)),(.int .u8 (0:Int)),(.int .u8 (0:Int)),(.int .u8 (0:Int)),(.int .u8 (0:Int)),(.int .u8 (0:Int)),(.int .u8 (0:Int)),(.int .u8 (0:Int)),(.int .u8 (0:Int)),(.int .u8 (0:Int)),(.int .u8 (0:Int)),(.int .u8 (0:Int)),(.int .u8 (0:Int)),(.int .u8 (0:Int)),(.int .u8 (0:Int)),(.int .u8 (0:Int)),(.int .u8 (0:Int)),(.int .u8 (0:Int)),(.int .u8 (0:Int)),(.int .u8 (0:Int)),(.int .u8 (0:Int)),(.int .u8 (0:Int)),(.int .u8 (0:Int)),(.int .u8 (0:Int)),(.int .u8 (0:Int)),(.int .u8 (0:Int)),(.int .u8 (0:Int)),(.int .u8 (0:Int)),(.int .u8 (0:Int)),(.int .u8 (0:Int)),(.int .u8 (0:Int)),(.int .u8 (0:Int)),(.int .u8 (0:Int)),(.int .u8 (0:Int)),(.int .u8 (0:Int)),(.int .u8 (0:Int)),(.int .u8 (0:Int)),(.int .u8 (0:Int)),(.int .u8 (0:Int)),(.int .u8 (0:Int)),(.int .u8 (0:Int)),(.int .u8 (0:Int)),(.int .u8 (0:Int)),(.int .u8 (0:Int)),(.int .u8 (0:Int)),(.int .u8 (0:Int)),(.int .u8 (0:Int)),(.int .u8 (0:Int)),(.int .u8 (0:Int)),(.int .u8 (0:Int)),(.int .u8 (0:Int)),(.int .u8 (0:Int)),(.int .u8 (0:Int)),(.int .u8 (0:Int)),(.int .u8 (0:Int)),(.int .u8 (0:Int)),(.int .u8 (0:Int)),(.int .u8 (0:Int)),(.int .u8 (0:Int)),(.int .u8 (0:Int)),(.int .u8 (0:Int)),(.int .u8 (0:Int)),(.int .u8 (0:Int)),(.int .u8 (0:Int)),(.int .u8 (0:Int)),(.int .u8 (0:Int)),(.int .u8 (0:Int)),(.int .u8 (0:Int)),(.int .u8 (0:Int)),(.int .u8 (0:Int)),(.int .u8 (0:Int)),(.int .u8 (0:Int)),(.int .u8 (0:Int)),(.int .u8 (0:Int)),(.int .u8 (0:Int)),(.int .u8 (0:Int)),(.int .u8 (0:Int)),(.int .u8 (0:Int)),(.int .u8 (0:Int)),(.int .u8 (0:Int)),(.int .u8 (0:Int)),(.int .u8 (0:Int)),(.int .u8 (0:Int)),(.int .u8 (0:Int)),(.int .u8 (0:Int)),(.int .u8 (0:Int)),(.int .u8 (0:Int)),(.int .u8 (0:Int)),(.int .u8 (0:Int)),(.int .u8 (0:Int)),(.int .u8 (0:Int)),(.int .u8 (0:Int)),(.int .u8 (0:Int)),(.int .u8 (0:Int)),(.int .u8 (0:Int)),(.int .u8 (0:Int)),(.int .u8 (0:Int)),(.int .u8 (0:Int)),(.int .u8 (0:Int)),(.int .u8 (0:Int)),(.int .u8 (0:Int)),(.int .u8 (0:Int)),(.int .u8 (0:Int)),(.int .u8 (0:Int)),(.int .u8 (0:Int)),(.int .u8 (0:Int)),(.int .u8 (0:Int)),(.int .u8 (0:Int)),(.int .u8 (0:Int)),(.int .u8 (0:Int)),(.int .u8 (0:Int)),(.int .u8 (0:Int)),(.int .u8 (0:Int)),(.int .u8 (0:Int)),(.int .u8 (0:Int)),(.int .u8 (0:Int)),(.int .u8 (0:Int)),(.int .u8 (0:Int)),(.int .u8 (0:Int)),(.int .u8 (0:Int)),(.int .u8 (0:Int)),(.int .u8 (0:Int)),(.int .u8 (0:Int)),(.int .u8 (0:Int)),(.int .u8 (0:Int)),(.int .u8 (0:Int)),(.int .u8 (0:Int)),(.int .u8 (0:Int)),(.int .u8 (0:Int)),(.int .u8 (0:Int)),(.int .u8 (0:Int)),(.int .u8 (0:Int)),(.int .u8 (0:Int)),(.int .u8 (0:Int)),(.int .u8 (0:Int)),(.int .u8 (0:Int)),(.int .u8 (0:Int)),(.int .u8 (0:Int)),(.int .u8 (0:Int)),(.int .u8 (0:Int)),(.int .u8 (0:Int)),(.int .u8 (0:Int)),(.int .u8 (0:Int)),(.int .u8 (0:Int)),(.int .u8 (0:Int)),(.int .u8 (0:Int)),(.int .u8 (0:Int)),(.int .u8 (0:Int)),(.int .u8 (0:Int)),(.int .u8 (0:Int)),(.int .u8 (0:Int)),(.int .u8 (0:Int)),(.int .u8 (0:Int)),(.int .u8 (0:Int)),(.int .u8 (0:Int)),(.int .u8 (0:Int)),(.int .u8 (0:Int)),(.int .u8 (0:Int)),(.int .u8 (0:Int)),(.int .u8 (0:Int)),(.int .u8 (0:Int)),(.int .u8 (0:Int)),(.int .u8 (0:Int)),(.int .u8 (0:Int)),(.int .u8 (0:Int)),(.int .u8 (0:Int)),(.int .u8 (0:Int)),(.int .u8 (0:Int)),(.int .u8 (0:Int)),(.int .u8 (0:Int)),(.int .u8 (0:Int)),(.int .u8 (0:Int)),(.int .u8 (0:Int)),(.int .u8 (0:Int)),(.int .u8 (0:Int)),(.int .u8 (0:Int)),(.int .u8 (0:Int)),(.int .u8 (0:Int)),(.int .u8 (0:Int)),(.int .u8 (0:Int)),(.int .u8 (0:Int)),(.int .u8 (0:Int)),(.int .u8 (0:Int)),(.int .u8 (0:Int)),(.int .u8 (0:Int)),(.int .u8 (0:Int)),(.int .u8 (0:Int)),(.int .u8 (0:Int)),(.int .u8 (0:Int)),(.int .u8 (0:Int)),(.int .u8 (0:Int)),(.int .u8 (0:Int)),(.int .u8 (0:Int)),(.int .u8 (0:Int)),(.int .u8 (0:Int)),(.int .u8 (0:Int)),(.int .u8 (0:Int)),(.int .u8 (0:Int)),(.int .u8 (0:Int)),(.int .u8 (0:Int)),(.int .u8 (0:Int)),(.int .u8 (0:Int)),(.int .u8 (0:Int)),(.int .u8 (0:Int)),(.int .u8 (0:Int)),(.int .u8 (0:Int)),(.int .u8 (0:Int)),(.int .u8 (0:Int)),(.int .u8 (0:Int)),(.int .u8 (0:Int)),(.int .u8 (0:Int)),(.int .u8 (0:Int)),(.int .u8 (0:Int)),(.int .u8 (0:Int)),(.int .u8 (0:Int)),(.int .u8 (0:Int)),(.int .u8 (0:Int)),(.int .u8 (0:Int)),(.int .u8 (0:Int)),(.int .u8 (0:Int)),(.int .u8 (0:Int)),(.int .u8 (0:Int)),(.int .u8 (0:Int)),(.int .u8 (0:Int)),(.int .u8 (0:Int)),(.int .u8 (0:Int)),(.int .u8 (0:Int)),(.int .u8 (0:Int)),(.int .u8 (0:Int)),(.int .u8 (0:Int)),(.int .u8 (0:Int)),(.int .u8 (0:Int)),(.int .u8 (0:Int)),(.int .u8 (0:Int)),(.int .u8 (0:Int)),(.int .u8 (0:Int)),(.int .u8 (0:Int)),(.int .u8 (0:Int)),(.int .u8 (0:Int)),(.int .u8 (0:Int)),(.int .u8 (0:Int)),(.int .u8 (0:Int)),(.int .u8 (0:Int)),(.int .u8 (0:Int)),(.int .u8 (0:Int)),(.int .u8 (0:Int)),(.int .u8 (0:Int)),(.int .u8 (0:Int)),(.int .u8 (0:Int)),(.int .u8 (0:Int)),(.int .u8 (0:Int)),(.int .u8 (0:Int)),(.int .u8 (0:Int)),(.int .u8 (0:Int)),(.int .u8 (0:Int)),(.int .u8 (0:Int)),(.int .u8 (0:Int)),(.int .u8 (0:Int)),(.int .u8 (0:Int)),(.int .u8 (0:Int)),(.int .u8 (0:Int)),(.int .u8 (0:Int)),(.int .u8 (0:Int)),(.int .u8 (0:Int)),(.int .u8 (0:Int)),(.int .u8 (0:Int)),(.int .u8 (0:Int)),(.int .u8 (0:Int)),(.int .u8 (0:Int)),(.int .u8 (0:Int)),(.int .u8 (0:Int)),(.int .u8 (0:Int)),(.int .u8 (0:Int)),(.int .u8 (0:Int)),(.int .u8 (0:Int)),(.int .u8 (0:Int)),(.int .u8 (0:Int)),(.int .u8 (0:Int)),(.int .u8 (0:Int)),(.int .u8 (0:Int)),(.int .u8 (0:Int)),(.int .u8 (0:Int)),(.int .u8 (0:Int)),(.int .u8 (0:Int)),(.int .u8 (0:Int)),(.int .u8 (0:Int)),(.int .u8 (0:Int)),(.int .u8 (0:Int)),(.int .u8 (0:Int)),(.int .u8 (0:Int)),(.int .u8 (0:Int)),(.int .u8 (0:Int)),(.int .u8 (0:Int)),(.int .u8 (0:Int)),(.int .u8 (0:Int)),(.int .u8 (0:Int)),(.int .u8 (0:Int)),(.int .u8 (0:Int)),(.int .u8 (0:Int)),(.int .u8 (0:Int)),(.int .u8 (0:Int)),(.int .u8 (0:Int)),(.int .u8 (0:Int)),(.int .u8 (0:Int)),(.int .u8 (0:Int)),(.int .u8 (0:Int)),(.int .u8 (0:Int)),(.int .u8 (0:Int)),(.int .u8 (0:Int)),(.int .u8 (0:Int)),(.int .u8 (0:Int)),(.int .u8 (0:Int)),(.int .u8 (0:Int)),(.int .u8 (0:Int)),(.int .u8 (0:Int)),(.int .u8 (0:Int)),(.int .u8 (0:Int)),(.int .u8 (0:Int)),(.int .u8 (0:Int)),(.int .u8 (0:Int)),(.int .u8 (0:Int)),(.int .u8 (0:Int)),(.int .u8 (0:Int)),(.int .u8 (0:Int)),(.int .u8 (0:Int)),(.int .u8 (0:Int)),(.int .u8 (0:Int)),(.int .u8 (0:Int)),(.int .u8 (0:Int)),(.int .u8 (0:Int)),(.int .u8 (0:Int)),(.int .u8 (0:Int)),(.int .u8 (0:Int)),(.int .u8 (0:Int)),(.int .u8 (0:Int)),(.int .u8 (0:Int)),(.int .u8 (0:Int)),(.int .u8 (0:Int)),(.int .u8 (0:Int)),(.int .u8 (0:Int)),(.int .u8 (0:Int)),(.int .u8 (0:Int)),(.int .u8 (0:Int)),(.int .u8 (0:Int)),(.int .u8 (0:Int)),(.int .u8 (0:Int)),(.int .u8 (0:Int)),(.int .u8 (0:Int)),(.int .u8 (0:Int)),(.int .u8 (0:Int)),(.int .u8 (0:Int)),(.int .u8 (0:Int)),(.int .u8 (0:Int)),(.int .u8 (0:Int)),(.int .u8 (0:Int)),(.int .u8 (0:Int)),(.int .u8 (0:Int)),(.int .u8 (0:Int)),(.int .u8 (0:Int)),(.int .u8 (0:Int)),(.int .u8 (0:Int)),(.int .u8 (0:Int)),(.int .u8 (0:Int)),(.int .u8 (0:Int)),(.int .u8 (0:Int)),(.int .u8 (0:Int)),(.int .u8 (0:Int)),(.int .u8 (0:Int)),(.int .u8 (0:Int)),(.int .u8 (0:Int)),(.int .u8 (0:Int)),(.int .u8 (0:Int)),(.int .u8 (0:Int)),(.int .u8 (0:Int)),(.int .u8 (0:Int)),(.int .u8 (0:Int)),(.int .u8 (0:Int)),(.int .u8 (0:Int)),(.int .u8 (0:Int)),(.int .u8 (0:Int)),(.int .u8 (0:Int)),(.int .u8 (0:Int)),(.int .u8 (0:Int)),(.int .u8 (0:Int)),(.int .u8 (0:Int)),(.int .u8 (0:Int)),(.int .u8 (0:Int)),(.int .u8 (0:Int)),(.int .u8 (0:Int)),(.int .u8 (0:Int)),(.int .u8 (0:Int)),(.int .u8 (0:Int)),(.int .u8 (0:Int)),(.int .u8 (0:Int)),(.int .u8 (0:Int)),(.int .u8 (0:Int)),(.int .u8 (0:Int)),(.int .u8 (0:Int)),(.int .u8 (0:Int)),(.int .u8 (0:Int)),(.int .u8 (0:Int)),(.int .u8 (0:Int)),(.int .u8 (0:Int)),(.int .u8 (0:Int)),(.int .u8 (0:Int)),(.int .u8 (0:Int)),(.int .u8 (0:Int)),(.int .u8 (0:Int)),(.int .u8 (0:Int)),(.int .u8 (0:Int)),(.int .u8 (0:Int)),(.int .u8 (0:Int)),(.int .u8 (0:Int)),(.int .u8 (0:Int)),(.int .u8 (0:Int)),(.int .u8 (0:Int)),(.int .u8 (0:Int)),(.int .u8 (0:Int)),(.int .u8 (0:Int)),(.int .u8 (0:Int)),(.int .u8 (0:Int)),(.int .u8 (0:Int)),(.int .u8 (0:Int)),(.int .u8 (0:Int)),(.int .u8 (0:Int)),(.int .u8 (0:Int)),(.int .u8 (0:Int)),(.int .u8 (0:Int)),(.int .u8 (0:Int)),(.int .u8 (0:Int)),(.int .u8 (0:Int)),(.int .u8 (0:Int)),(.int .u8 (0:Int)),(.int .u8 (0:Int)),(.int .u8 (0:Int)),(.int .u8 (0:Int)),(.int .u8 (0:Int)),(.int .u8 (0:Int)),(.int .u8 (0:Int)),(.int .u8 (0:Int)),(.int .u8 (0:Int)),(.int .u8 (0:Int)),(.int .u8 (0:Int)),(.int .u8 (0:Int)),(.int .u8 (0:Int)),(.int .u8 (0:Int)),(.int .u8 (0:Int)),(.int .u8 (0:Int)),(.int .u8 (0:Int)),(.int .u8 (0:Int)),(.int .u8 (0:Int)),(.int .u8 (0:Int)),(.int .u8 (0:Int)),(.int .u8 (0:Int)),(.int .u8 (0:Int)),(.int .u8 (0:Int)),(.int .u8 (0:Int)),(.int .u8 (0:Int)),(.int .u8 (0:Int)),(.int .u8 (0:Int)),(.int .u8 (0:Int)),(.int .u8 (0:Int)),(.int .u8 (0:Int)),(.int .u8 (0:Int)),(.int .u8 (0:Int)),(.int .u8 (0:Int)),(.int .u8 (0:Int)),(.int .u8 (0:Int)),(.int .u8 (0:Int)),(.int .u8 (0:Int)),(.int .u8 (0:Int)),(.int .u8 (0:Int)),(.int .u8 (0:Int)),(.int .u8 (0:Int)),(.int .u8 (0:Int)),(.int .u8 (0:Int)),(.int .u8 (0:Int)),(.int .u8 (0:Int)),(.int .u8 (0:Int)),(.int .u8 (0:Int)),(.int .u8 (0:Int)),(.int .u8 (0:Int)),(.int .u8 (0:Int)),(.int .u8 (0:Int)),(.int .u8 (0:Int)),(.int .u8 (0:Int)),(.int .u8 (0:Int)),(.int .u8 (0:Int)),(.int .u8 (0:Int)),(.int .u8 (0:Int)),(.int .u8 (0:Int)),(.int .u8 (0:Int)),(.int .u8 (0:Int)),(.int .u8 (0:Int)),(.int .u8 (0:Int)),(.int .u8 (0:Int)),(.int .u8 (0:Int)),(.int .u8 (0:Int)),(.int .u8 (0:Int)),(.int .u8 (0:Int)),(.int .u8 (0:Int)),(.int .u8 (0:Int)),(.int .u8 (0:Int)),(.int .u8 (0:Int)),(.int .u8 (0:Int)),(.int .u8 (0:Int)),(.int .u8 (0:Int)),(.int .u8 (0:Int)),(.int .u8 (0:Int)),(.int .u8 (0:Int)),(.int .u8 (0:Int)),(.int .u8 (0:Int)),(.int .u8 (0:Int)),(.int .u8 (0:Int)),(.int .u8 (0:Int)),(.int .u8 (0:Int)),(.int .u8 (0:Int)),(.int .u8 (0:Int)),(.int .u8 (0:Int)),(.int .u8 (0:Int)),(.int .u8 (0:Int)),(.int .u8 (0:Int)),(.int .u8 (0:Int)),(.int .u8 (0:Int)),(.int .u8 (0:Int)),(.int .u8 (0:Int)),(.int .u8 (0:Int)),(.int .u8 (0:Int)),(.int .u8 (0:Int)),(.int .u8 (0:Int)),(.int .u8 (0:Int)),(.int .u8 (0:Int)),(.int .u8 (0:Int)),(.int .u8 (0:Int)),(.int .u8 (0:Int)),(.int .u8 (0:Int)),(.int .u8 (0:Int)),(.int .u8 (0:Int)),(.int .u8 (0:Int)),(.int .u8 (0:Int)),(.int .u8 (0:Int)),(.int .u8 (0:Int)),(.int .u8 (0:Int)),(.int .u8 (0:Int)),(.int .u8 (0:Int)),(.int .u8 (0:Int)),(.int .u8 (0:Int)),(.int .u8 (0:Int)),(.int .u8 (0:Int)),(.int .u8 (0:Int)),(.int .u8 (0:Int)),(.int .u8 (0:Int)),(.int .u8 (0:Int)),(.int .u8 (0:Int)),(.int .u8 (0:Int)),(.int .u8 (0:Int)),(.int .u8 (0:Int)),(.int .u8 (0:Int)),(.int .u8 (0:Int)),(.int .u8 (0:Int)),(.int .u8 (0:Int)),(.int .u8 (0:Int)),(.int .u8 (0:Int)),(.int .u8 (0:Int)),(.int .u8 (0:Int)),(.int .u8 (0:Int)),(.int .u8 (0:Int)),(.int .u8 (0:Int)),(.int .u8 (0:Int)),(.int .u8 (0:Int)),(.int .u8 (0:Int)),(.int .u8 (0:Int)),(.int .u8 (0:Int)),(.int .u8 (0:Int)),(.int .u8 (0:Int)),(.int .u8 (0:Int)),(.int .u8 (0:Int)),(.int .u8 (0:Int)),(.int .u8 (0:Int)),(.int .u8 (0:Int)),(.int .u8 (0:Int)),(.int .u8 (0:Int)),(.int .u8 (0:Int)),(.int .u8 (0:Int)),(.int .u8 (0:Int)),(.int .u8 (0:Int)),(.int .u8 (0:Int)),(.int .u8 (0:Int)),(.int .u8 (0:Int)),(.int .u8 (0:Int)),(.int .u8 (0:Int)),(.int .u8 (0:Int)),(.int .u8 (0:Int)),(.int .u8 (0:Int)),(.int .u8 (0:Int)),(.int .u8 (0:Int)),(.int .u8 (0:Int)),(.int .u8 (0:Int)),(.int .u8 (0:Int)),(.int .u8 (0:Int)),(.int .u8 (0:Int)),(.int .u8 (0:Int)),(.int .u8 (0:Int)),(.int .u8 (0:Int)),(.int .u8 (0:Int)),(.int .u8 (0:Int)),(.int .u8 (0:Int)),(.int .u8 (0:Int)),(.int .u8 (0:Int)),(.int .u8 (0:Int)),(.int .u8 (0:Int)),(.int .u8 (0:Int)),(.int .u8 (0:Int)),(.int .u8 (0:Int)),(.int .u8 (0:Int)),(.int .u8 (0:Int)),(.int .u8 (0:Int)),(.int .u8 (0:Int)),(.int .u8 (0:Int)),(.int .u8 (0:Int)),(.int .u8 (0:Int)),(.int .u8 (0:Int)),(.int .u8 (0:Int)),(.int .u8 (0:Int)),(.int .u8 (0:Int)),(.int .u8 (0:Int)),(.int .u8 (0:Int)),(.int .u8 (0:Int)),(.int .u8 (0:Int)),(.int .u8 (0:Int)),(.int .u8 (0:Int)),(.int .u8 (0:Int)),(.int .u8 (0:Int)),(.int .u8 (0:Int)),(.int .u8 (0:Int)),(.int .u8 (0:Int)),(.int .u8 (0:Int)),(.int .u8 (0:Int)),(.int .u8 (0:Int)),(.int .u8 (0:Int)),(.int .u8 (0:Int)),(.int .u8 (0:Int)),(.int .u8 (0:Int)),(.int .u8 (0:Int)),(.int .u8 (0:Int)),(.int .u8 (0:Int)),(.int .u8 (0:Int)),(.int .u8 (0:Int)),(.int .u8 (0:Int)),(.int .u8 (0:Int)),(.int .u8 (0:Int)),(.int .u8 (0:Int)),(.int .u8 (0:Int)),(.int .u8 (0:Int)),(.int .u8 (0:Int)),(.int .u8 (0:Int)),(.int .u8 (0:Int)),(.int .u8 (0:Int)),(.int .u8 (0:Int)),(.int .u8 (0:Int)),(.int .u8 (0:Int)),(.int .u8 (0:Int)),(.int .u8 (0:Int)),(.int .u8 (0:Int)),(.int .u8 (0:Int)),(.int .u8 (0:Int)),(.int .u8 (0:Int)),(.int .u8 (0:Int)),(.int .u8 (0:Int)),(.int .u8 (0:Int)),(.int .u8 (0:Int)),(.int .u8 (0:Int)),(.int .u8 (0:Int)),(.int .u8 (0:Int)),(.int .u8 (0:Int)),(.int .u8 (0:Int)),(.int .u8 (0:Int)),(.int .u8 (0:Int)),(.int .u8 (0:Int)),(.int .u8 (0:Int)),(.int .u8 (0:Int)),(.int .u8 (0:Int)),(.int .u8 (0:Int)),(.int .u8 (0:Int)),(.int .u8 (0:Int)),(.int .u8 (0:Int)),(.int .u8 (0:Int)),(.int .u8 (0:Int)),(.int .u8 (0:Int)),(.int .u8 (0:Int)),(.int .u8 (0:Int)),(.int .u8 (0:Int)),(.int .u8 (0:Int)),(.int .u8 (0:Int)),(.int .u8 (0:Int)),(.int .u8 (0:Int)),(.int .u8 (0:Int)),(.int .u8 (0:Int)),(.int .u8 (0:Int)),(.int .u8 (0:Int)),(.int .u8 (0:Int)),(.int .u8 (0:Int)),(.int .u8 (0:Int)),(.int .u8 (0:Int)),(.int .u8 (0:Int)),(.int .u8 (0:Int)),(.int .u8 (0:Int)),(.int .u8 (0:Int)),(.int .u8 (0:Int)),(.int .u8 (0:Int)),(.int .u8 (0:Int)),(.int .u8 (0:Int)),(.int .u8 (0:Int)),(.int .u8 (0:Int)),(.int .u8 (0:Int)),(.int .u8 (0:Int)),(.int .u8 (0:Int)),(.int .u8 (0:Int)),(.int .u8 (0:Int)),(.int .u8 (0:Int)),(.int .u8 (0:Int)),(.int .u8 (0:Int)),(.int .u8 (0:Int)),(.int .u8 (0:Int)),(.int .u8 (0:Int)),(.int .u8 (0:Int)),(.int .u8 (0:Int)),(.int .u8 (0:Int)),(.int .u8 (0:Int)),(.int .u8 (0:Int)),(.int .u8 (0:Int)),(.int .u8 (0:Int)),(.int .u8 (0:Int)),(.int .u8 (0:Int)),(.int .u8 (0:Int)),(.int .u8 (0:Int)),(.int .u8 (0:Int)),(.int .u8 (0:Int)),(.int .u8 (0:Int)),(.int .u8 (0:Int)),(.int .u8 (0:Int)),(.int .u8 (0:Int)),(.int .u8 (0:Int)),(.int .u8 (0:Int)),(.int .u8 (0:Int)),(.int .u8 (0:Int)),(.int .u8 (0:Int)),(.int .u8 (0:Int)),(.int .u8 (0:Int)),(.int .u8 (0:Int)),(.int .u8 (0:Int)),(.int .u8 (0:Int)),(.int .u8 (0:Int)),(.int .u8 (0:Int)),(.int .u8 (0:Int)),(.int .u8 (0:Int)),(.int .i64 (0:Int)),(.int .i64 (0:Int)),(.bool false),(.bool false)] (fun a h4=>
 (((0:Int)≤n∧n≤(((ByteArray.size s):Nat):Int))∧CallT P zei [(.pointer (some a)),(.string (ByteArray.extract s 0 (Int.toNat n)))] zag (fun r10 h5=>
 (if (!r10)=true then
 EncW zal (.iface 122 (.int .i64 (2:Int))) fun e=>
 Q 0 n e h5
 else
 Call2 P zbk [(.pointer (some a)),(.pointer (some ⟨7,0,none⟩))] (shInt .u64) zag (fun r11 r12 h6=>
 SemE P (Extern.MathFloatBits.float64frombits #[(.int .u64 r11)]) (shFlt .f64) (fun r13 h7=>
 (if r12=true then
 EncW zal (.iface 122 (.int .i64 (1:Int))) fun e=>
 Q r13 n e h7
 else
 EncW zal err.v fun e=>
 Q r13 n e h7)) h6) h5)) h4)) h3)))) h1)) h
def zfi (P:Program) (b:Bool) (Q:(Int→(Hp→Prop))) (h:Hp):Prop:=
 (if b=true then
 Q (1:Int) h
 else
 Q (0:Int) h)
def zhp (P:Program) (x:Int) (Q:(Bool→(Hp→Prop))) (h:Hp):Prop:=
 Q ((bitsI .and .i64 x (IntKind.wrap .i64 (x-(1:Int))))==(0:Int)) h
def zgt (P:Program) (x:Int) (Q:(Int→(Hp→Prop))) (h:Hp):Prop:=
 CallT P zjr [(.int .u64 x)] (shInt .i64) (fun r h1=>
 Q r h1) h
def zgu (P:Program) (e:Int) (Q:(Int→(Hp→Prop))) (h:Hp):Prop:=
 ((0:Int)≤(21:Int)∧Q (shrI .i64 (IntKind.wrap .i64 ((IntKind.wrap .i64 (e*(631305:Int)))-(261663:Int))) (21:Int)) h)
def zcb (P:Program) (pre:Option Addr) (e:Int) (p:Int) (lp:Int) (Q:(Hp→Prop)) (h:Hp):Prop:=
 (((0:Int)≤(IntKind.wrap .i64 (p-(-348:Int)))∧(IntKind.wrap .i64 (p-(-348:Int)))<(696:Int))∧LdW none (shInt .u64) h (Addr.add (Addr.add ⟨8,0,none⟩ ((Int.toNat (IntKind.wrap .i64 (p-(-348:Int))))*2)) 0) fun x=>
 NilW none pre fun p1=>
 StW h (Addr.add p1 0) [(.int .u64 x)] (fun h1=>
 (((0:Int)≤(IntKind.wrap .i64 (p-(-348:Int)))∧(IntKind.wrap .i64 (p-(-348:Int)))<(696:Int))∧LdW none (shInt .u64) h1 (Addr.add (Addr.add ⟨8,0,none⟩ ((Int.toNat (IntKind.wrap .i64 (p-(-348:Int))))*2)) 1) fun x1=>
 NilW none pre fun p2=>
 StW h1 (Addr.add p2 1) [(.int .u64 x1)] (fun h2=>
 NilW none pre fun p3=>
 StW h2 (Addr.add p3 2) [(.int .i64 (IntKind.wrap .i64 ((0:Int)-(IntKind.wrap .i64 ((IntKind.wrap .i64 (e+lp))+(3:Int))))))] (fun h3=>
 Q h3)))))
def zfj (P:Program) (x:Int) (Q:(Int→(Hp→Prop))) (h:Hp):Prop:=
 ((0:Int)≤(15:Int)∧Q (shrI .i64 (IntKind.wrap .i64 (x*(108853:Int))) (15:Int)) h)
def zcm (P:Program) (x:Int) (c:Option Addr) (Q:(Int→(Hp→Prop))) (h:Hp):Prop:=
 NilW none c fun p=>
 LdW none (shInt .u64) h (Addr.add p 0) fun x1=>
 Call2 P zkd [(.int .u64 x),(.int .u64 x1)] (shInt .u64) (shInt .u64) (fun r r1 h1=>
 NilW none c fun p1=>
 LdW none (shInt .i64) h1 (Addr.add p1 2) fun x2=>
 ((0:Int)≤(bitsI .and .i64 x2 (63:Int))∧((0:Int)≤(bitsI .and .i64 x2 (63:Int))∧(if ((shlI .u64 (shrI .u64 r (bitsI .and .i64 x2 (63:Int))) (bitsI .and .i64 x2 (63:Int))) !=r)=true then
 ((0:Int)≤(bitsI .and .i64 x2 (63:Int))∧Q (bitsI .or .u64 (shrI .u64 r (bitsI .and .i64 x2 (63:Int))) (1:Int)) h1)
 else
 NilW none c fun p2=>
 LdW none (shInt .u64) h1 (Addr.add p2 1) fun x3=>
 Call2 P zkd [(.int .u64 x),(.int .u64 x3)] (shInt .u64) (shInt .u64) (fun r2 r3 h2=>
 CallT P zcc [(.bool (decide (r1<r2)))] (shInt .u64) (fun r4 h3=>
 ((0:Int)≤(bitsI .and .i64 x2 (63:Int))∧CallT P zcc [(.bool (decide ((IntKind.wrap .u64 (r1-r2))>(1:Int))))] (shInt .u64) (fun r5 h4=>
 Q (bitsI .or .u64 (shrI .u64 (IntKind.wrap .u64 (r-r4)) (bitsI .and .i64 x2 (63:Int))) r5) h4) h3)) h2) h1)))) h
def zdc (P:Program) (u:Int) (x:Int) (Q:(Int→(Hp→Prop))) (h:Hp):Prop:=
 Q (IntKind.wrap .u64 (u+(IntKind.wrap .u64 x))) h
def zdi (P:Program) (u:Int) (Q:(Int→(Hp→Prop))) (h:Hp):Prop:=
 ((0:Int)≤(2:Int)∧Q (shrI .u64 (IntKind.wrap .u64 (u+(3:Int))) (2:Int)) h)
def zdd (P:Program) (u:Int) (Q:(Int→(Hp→Prop))) (h:Hp):Prop:=
 ((0:Int)≤(2:Int)∧Q (shrI .u64 (IntKind.wrap .u64 (u+(0:Int))) (2:Int)) h)
def zde (P:Program) (u:Int) (Q:(Int→(Hp→Prop))) (h:Hp):Prop:=
 ((0:Int)≤(2:Int)∧((0:Int)≤(2:Int)∧Q (shrI .u64 (IntKind.wrap .u64 ((IntKind.wrap .u64 (u+(1:Int)))+(bitsI .and .u64 (shrI .u64 u (2:Int)) (1:Int)))) (2:Int)) h))
def zhq (P:Program) (x:Int) (Q:(Int→(Hp→Prop))) (h:Hp):Prop:=
 ((0:Int)≤(2:Int)∧Q (IntKind.wrap .u64 ((shlI .u64 x (2:Int))-(2:Int))) h)
def zih (P:Program) (a:Option Addr) (Q:(Hp→Prop)) (h:Hp):Prop:=
 LoopW0 (fun again h1=>
 NilW none a fun p=>
 LdW none (shInt .i64) h1 (Addr.add p 800) fun x=>
 NilW (some (decide (x>(0:Int)))) a fun p1=>
 LdW (some (decide (x>(0:Int)))) (shInt .i64) h1 (Addr.add p1 800) fun x1=>
 NilW (some (decide (x>(0:Int)))) a fun p2=>
 (((decide (x>(0:Int)))=true→((0:Int)≤(IntKind.wrap .i64 (x1-(1:Int)))∧(IntKind.wrap .i64 (x1-(1:Int)))<(800:Int)))∧LdW (some (decide (x>(0:Int)))) (shInt .u8) h1 (Addr.add (Addr.add p2 0) ((Int.toNat (IntKind.wrap .i64 (x1-(1:Int))))*1)) fun x2=>
 LetW ((decide (x>(0:Int)))&&(x2==(48:Int))) fun y=>
 (if y=true then
 NilW none a fun p3=>
 LdW none (shInt .i64) h1 (Addr.add p3 800) fun x3=>
 NilW none a fun p4=>
 StW h1 (Addr.add p4 800) [(.int .i64 (IntKind.wrap .i64 (x3-(1:Int))))] (fun h2=>
 again h2)
 else
 NilW none a fun p3=>
 LdW none (shInt .i64) h1 (Addr.add p3 800) fun x3=>
 (if (x3==(0:Int))=true then
 NilW none a fun p4=>
 StW h1 (Addr.add p4 801) [(.int .i64 (0:Int))] (fun h2=>
 Q h2)
 else
 Q h1))))  h
def zfk (P:Program) (a:Option Addr) (k:Int) (Q:(Hp→Prop)) (h:Hp):Prop:=
 LdW none shSl h ⟨9,0,none⟩ fun x=>
 ((InB x.base x.len k)∧LdW none (shInt .i64) h (Addr.add (sat x.base 2 k) 0) fun x1=>
 JoinW1 (α1:=Int) (fun k1=>
 NilW none a fun p=>
 NilW none a fun p1=>
 LdW none (shInt .i64) h (Addr.add p1 800) fun x2=>
 (((0:Int)≤(0:Int)∧((0:Int)≤x2∧x2≤(800:Int)))∧LetW (α:=Sl) ⟨(sbase (some (Addr.add p 0)) 1 0 800),((Int.toNat x2)-0),800⟩ fun y=>
 LdW none shSl h ⟨9,0,none⟩ fun x3=>
 ((InB x3.base x3.len k)∧LdW none shStr h (Addr.add (sat x3.base 2 k) 1) fun x4=>
 CallT P zfs [y.v,(.string x4)] zag (fun r h1=>
 (if r=true then
 k1 (IntKind.wrap .i64 (x1-(1:Int))) h1
 else
 k1 x1 h1)) h)))
 (fun delta h1=>
 NilW none a fun p=>
 LdW none (shInt .i64) h1 (Addr.add p 800) fun x2=>
 NilW none a fun p1=>
 LdW none (shInt .i64) h1 (Addr.add p1 800) fun x3=>
 LoopW3 (α1:=Int) (α2:=Int) (α3:=Int) (fun again r w n h2=>
 (if (decide (r≥(0:Int)))=true then
 NilW none a fun p2=>
 (((0:Int)≤r∧r<(800:Int))∧LdW none (shInt .u8) h2 (Addr.add (Addr.add p2 0) ((Int.toNat r)*1)) fun x4=>
 ((0:Int)≤k∧((10:Int)≠(0:Int)∧JoinW0 (fun k1=>
 (if (decide ((IntKind.wrap .i64 (w-(1:Int)))<(800:Int)))=true then
 NilW none a fun p3=>
 (((0:Int)≤(IntKind.wrap .i64 (w-(1:Int)))∧(IntKind.wrap .i64 (w-(1:Int)))<(800:Int))∧StW h2 (Addr.add (Addr.add p3 0) ((Int.toNat (IntKind.wrap .i64 (w-(1:Int))))*1)) [(.int .u8 (IntKind.wrap .u8 (IntKind.wrap .u64 ((IntKind.wrap .u64 ((IntKind.wrap .u64 (n+(shlI .u64 (IntKind.wrap .u64 ((IntKind.wrap .u64 x4)-(48:Int))) k)))-(IntKind.wrap .u64 ((10:Int)*(IntKind.wrap .u64 (Int.tdiv (IntKind.wrap .u64 (n+(shlI .u64 (IntKind.wrap .u64 ((IntKind.wrap .u64 x4)-(48:Int))) k))) (10:Int)))))))+(48:Int)))))] (fun h3=>
 k1 h3))
 else
 (if ((IntKind.wrap .u64 ((IntKind.wrap .u64 (n+(shlI .u64 (IntKind.wrap .u64 ((IntKind.wrap .u64 x4)-(48:Int))) k)))-(IntKind.wrap .u64 ((10:Int)*(IntKind.wrap .u64 (Int.tdiv (IntKind.wrap .u64 (n+(shlI .u64 (IntKind.wrap .u64 ((IntKind.wrap .u64 x4)-(48:Int))) k))) (10:Int))))))) !=(0:Int))=true then
 NilW none a fun p3=>
 StW h2 (Addr.add p3 803) [(.bool true)] (fun h3=>
 k1 h3)
 else
 k1 h2)))
 (fun h3=>
 again (IntKind.wrap .i64 (r-(1:Int))) (IntKind.wrap .i64 (w-(1:Int))) (IntKind.wrap .u64 (Int.tdiv (IntKind.wrap .u64 (n+(shlI .u64 (IntKind.wrap .u64 ((IntKind.wrap .u64 x4)-(48:Int))) k))) (10:Int))) h3))))
 else
 LoopW2 (α1:=Int) (α2:=Int) (fun again1 w1 n1 h3=>
 (if (decide (n1>(0:Int)))=true then
 ((10:Int)≠(0:Int)∧JoinW0 (fun k1=>
 (if (decide ((IntKind.wrap .i64 (w1-(1:Int)))<(800:Int)))=true then
 NilW none a fun p2=>
 (((0:Int)≤(IntKind.wrap .i64 (w1-(1:Int)))∧(IntKind.wrap .i64 (w1-(1:Int)))<(800:Int))∧StW h3 (Addr.add (Addr.add p2 0) ((Int.toNat (IntKind.wrap .i64 (w1-(1:Int))))*1)) [(.int .u8 (IntKind.wrap .u8 (IntKind.wrap .u64 ((IntKind.wrap .u64 (n1-(IntKind.wrap .u64 ((10:Int)*(IntKind.wrap .u64 (Int.tdiv n1 (10:Int)))))))+(48:Int)))))] (fun h4=>
 k1 h4))
 else
 (if ((IntKind.wrap .u64 (n1-(IntKind.wrap .u64 ((10:Int)*(IntKind.wrap .u64 (Int.tdiv n1 (10:Int))))))) !=(0:Int))=true then
 NilW none a fun p2=>
 StW h3 (Addr.add p2 803) [(.bool true)] (fun h4=>
 k1 h4)
 else
 k1 h3)))
 (fun h4=>
 again1 (IntKind.wrap .i64 (w1-(1:Int))) (IntKind.wrap .u64 (Int.tdiv n1 (10:Int))) h4))
 else
 NilW none a fun p2=>
 LdW none (shInt .i64) h3 (Addr.add p2 800) fun x4=>
 NilW none a fun p3=>
 StW h3 (Addr.add p3 800) [(.int .i64 (IntKind.wrap .i64 (x4+delta)))] (fun h4=>
 JoinW0 (fun k1=>
 NilW none a fun p4=>
 LdW none (shInt .i64) h4 (Addr.add p4 800) fun x5=>
 (if (decide (x5≥(800:Int)))=true then
 NilW none a fun p5=>
 StW h4 (Addr.add p5 800) [(.int .i64 (800:Int))] (fun h5=>
 k1 h5)
 else
 k1 h4))
 (fun h5=>
 NilW none a fun p4=>
 LdW none (shInt .i64) h5 (Addr.add p4 801) fun x5=>
 NilW none a fun p5=>
 StW h5 (Addr.add p5 801) [(.int .i64 (IntKind.wrap .i64 (x5+delta)))] (fun h6=>
 Call0 P zfc [(.pointer a)] (fun h7=>
 Q h7) h6))))) w n h2)) (IntKind.wrap .i64 (x2-(1:Int))) (IntKind.wrap .i64 (x3+delta)) (0:Int) h1))
def zev (P:Program) (a:Option Addr) (k:Int) (Q:(Hp→Prop)) (h:Hp):Prop:=
 JoinW2 (α1:=Int) (α2:=Int) (fun k1=>
 LoopW2 (α1:=Int) (α2:=Int) (fun again r n h1=>
 ((0:Int)≤k∧(if ((shrI .u64 n k)==(0:Int))=true then
 NilW none a fun p=>
 LdW none (shInt .i64) h1 (Addr.add p 800) fun x=>
 (if (decide (r≥x))=true then
 (if (n==(0:Int))=true then
 NilW none a fun p1=>
 StW h1 (Addr.add p1 800) [(.int .i64 (0:Int))] (fun h2=>
 Q h2)
 else
 LoopW2 (α1:=Int) (α2:=Int) (fun again1 r1 n1 h2=>
 ((0:Int)≤k∧(if ((shrI .u64 n1 k)==(0:Int))=true then
 again1 (IntKind.wrap .i64 (r1+(1:Int))) (IntKind.wrap .u64 (n1*(10:Int))) h2
 else
 k1 r1 n1 h2))) r n h1)
 else
 NilW none a fun p1=>
 (((0:Int)≤r∧r<(800:Int))∧LdW none (shInt .u8) h1 (Addr.add (Addr.add p1 0) ((Int.toNat r)*1)) fun x1=>
 again (IntKind.wrap .i64 (r+(1:Int))) (IntKind.wrap .u64 ((IntKind.wrap .u64 ((IntKind.wrap .u64 (n*(10:Int)))+(IntKind.wrap .u64 x1)))-(48:Int))) h1))
 else
 k1 r n h1))) (0:Int) (0:Int) h)
 (fun r n h1=>
 NilW none a fun p=>
 LdW none (shInt .i64) h1 (Addr.add p 801) fun x=>
 NilW none a fun p1=>
 StW h1 (Addr.add p1 801) [(.int .i64 (IntKind.wrap .i64 (x-(IntKind.wrap .i64 (r-(1:Int))))))] (fun h2=>
 ((0:Int)≤k∧LoopW3 (α1:=Int) (α2:=Int) (α3:=Int) (fun again r1 w n1 h3=>
 NilW none a fun p2=>
 LdW none (shInt .i64) h3 (Addr.add p2 800) fun x1=>
 (if (decide (r1<x1))=true then
 NilW none a fun p3=>
 (((0:Int)≤r1∧r1<(800:Int))∧LdW none (shInt .u8) h3 (Addr.add (Addr.add p3 0) ((Int.toNat r1)*1)) fun x2=>
 ((0:Int)≤k∧NilW none a fun p4=>
 (((0:Int)≤w∧w<(800:Int))∧StW h3 (Addr.add (Addr.add p4 0) ((Int.toNat w)*1)) [(.int .u8 (IntKind.wrap .u8 (IntKind.wrap .u64 ((shrI .u64 n1 k)+(48:Int)))))] (fun h4=>
 again (IntKind.wrap .i64 (r1+(1:Int))) (IntKind.wrap .i64 (w+(1:Int))) (IntKind.wrap .u64 ((IntKind.wrap .u64 ((IntKind.wrap .u64 ((bitsI .and .u64 n1 (IntKind.wrap .u64 ((shlI .u64 (1:Int) k)-(1:Int))))*(10:Int)))+(IntKind.wrap .u64 x2)))-(48:Int))) h4))))
 else
 LoopW2 (α1:=Int) (α2:=Int) (fun again1 w1 n2 h4=>
 (if (decide (n2>(0:Int)))=true then
 ((0:Int)≤k∧JoinW1 (α1:=Int) (fun k1=>
 (if (decide (w1<(800:Int)))=true then
 NilW none a fun p3=>
 (((0:Int)≤w1∧w1<(800:Int))∧StW h4 (Addr.add (Addr.add p3 0) ((Int.toNat w1)*1)) [(.int .u8 (IntKind.wrap .u8 (IntKind.wrap .u64 ((shrI .u64 n2 k)+(48:Int)))))] (fun h5=>
 k1 (IntKind.wrap .i64 (w1+(1:Int))) h5))
 else
 (if (decide ((shrI .u64 n2 k)>(0:Int)))=true then
 NilW none a fun p3=>
 StW h4 (Addr.add p3 803) [(.bool true)] (fun h5=>
 k1 w1 h5)
 else
 k1 w1 h4)))
 (fun w2 h5=>
 again1 w2 (IntKind.wrap .u64 ((bitsI .and .u64 n2 (IntKind.wrap .u64 ((shlI .u64 (1:Int) k)-(1:Int))))*(10:Int))) h5))
 else
 NilW none a fun p3=>
 StW h4 (Addr.add p3 800) [(.int .i64 w1)] (fun h5=>
 Call0 P zfc [(.pointer a)] (fun h6=>
 Q h6) h5))) w n1 h3)) r (0:Int) n h2)))
def zdp (P:Program) (a:Option Addr) (nd:Int) (Q:(Bool→(Hp→Prop))) (h:Hp):Prop:=
 NilW (some (!(decide (nd<(0:Int))))) a fun p=>
 LdW (some (!(decide (nd<(0:Int))))) (shInt .i64) h (Addr.add p 800) fun x=>
 LetW ((decide (nd<(0:Int))) || (decide (nd≥x))) fun y=>
 (if y=true then
 Q false h
 else
 NilW none a fun p1=>
 (((0:Int)≤nd∧nd<(800:Int))∧LdW none (shInt .u8) h (Addr.add (Addr.add p1 0) ((Int.toNat nd)*1)) fun x1=>
 NilW (some (x1==(53:Int))) a fun p2=>
 LdW (some (x1==(53:Int))) (shInt .i64) h (Addr.add p2 800) fun x2=>
 LetW ((x1==(53:Int))&&((IntKind.wrap .i64 (nd+(1:Int)))==x2)) fun y1=>
 (if y1=true then
 NilW none a fun p3=>
 LdW none zag h (Addr.add p3 803) fun x3=>
 (if x3=true then
 Q true h
 else
 NilW (some (decide (nd>(0:Int)))) a fun p4=>
 (((decide (nd>(0:Int)))=true→((0:Int)≤(IntKind.wrap .i64 (nd-(1:Int)))∧(IntKind.wrap .i64 (nd-(1:Int)))<(800:Int)))∧LdW (some (decide (nd>(0:Int)))) (shInt .u8) h (Addr.add (Addr.add p4 0) ((Int.toNat (IntKind.wrap .i64 (nd-(1:Int))))*1)) fun x4=>
 (((decide (nd>(0:Int)))=true→(2:Int)≠(0:Int))∧LetW ((decide (nd>(0:Int)))&&((Int.tmod (IntKind.wrap .u8 (x4-(48:Int))) (2:Int)) !=(0:Int))) fun y2=>
 Q y2 h)))
 else
 NilW none a fun p3=>
 (((0:Int)≤nd∧nd<(800:Int))∧LdW none (shInt .u8) h (Addr.add (Addr.add p3 0) ((Int.toNat nd)*1)) fun x3=>
 Q (decide (x3≥(53:Int))) h))))
def zjv (P:Program) (a:Sl) (Q:(Sl→(Hp→Prop))) (h:Hp):Prop:=
 LoopW1 (α1:=Sl) (fun again a1 h1=>
 (((decide (((a1.len:Nat):Int)>(0:Int)))=true→(InB a1.base a1.len (IntKind.wrap .i64 (((a1.len:Nat):Int)-(1:Int)))))∧LdW (some (decide (((a1.len:Nat):Int)>(0:Int)))) (shInt .u32) h1 (sat a1.base 1 (IntKind.wrap .i64 (((a1.len:Nat):Int)-(1:Int)))) fun x=>
 LetW ((decide (((a1.len:Nat):Int)>(0:Int)))&&(x==(0:Int))) fun y=>
 (if y=true then
 (((0:Int)≤(IntKind.wrap .i64 (((a1.len:Nat):Int)-(1:Int)))∧(IntKind.wrap .i64 (((a1.len:Nat):Int)-(1:Int)))≤((a1.cap:Nat):Int))∧LetW (α:=Sl) ⟨(sbase a1.base 1 0 a1.cap),((Int.toNat (IntKind.wrap .i64 (((a1.len:Nat):Int)-(1:Int))))-0),(a1.cap-0)⟩ fun y1=>
 again y1 h1)
 else
 Q a1 h1))) a h
def zba (P:Program) (s:ByteArray) (Q:(Nat→(Int→(Bool→(Hp→Prop))))) (h:Hp):Prop:=
 (if ((((ByteArray.size s):Nat):Int)==(0:Int))=true then
 Q 0 (0:Int) false h
 else
 (((0:Int)≤(0:Int)∧(0:Int)<(((ByteArray.size s):Nat):Int))∧JoinW3 (α1:=ByteArray) (α2:=Int) (α3:=Int) (fun k=>
 JoinW1 (α1:=Bool) (fun k1=>
 (if ((((UInt8.toNat (List.getD s.data.toList 0 0)):Nat):Int)==(43:Int))=true then
 k1 ((((UInt8.toNat (List.getD s.data.toList 0 0)):Nat):Int)==(43:Int)) h
 else
 k1 ((((UInt8.toNat (List.getD s.data.toList 0 0)):Nat):Int)==(45:Int)) h))
 (fun t13 h1=>
 (if t13=true then
 JoinW1 (α1:=Int) (fun k1=>
 (((0:Int)≤(0:Int)∧(0:Int)<(((ByteArray.size s):Nat):Int))∧(if ((((UInt8.toNat (List.getD s.data.toList 0 0)):Nat):Int)==(45:Int))=true then
 k1 (-1:Int) h1
 else
 k1 (1:Int) h1)))
 (fun sign h2=>
 (((0:Int)≤(1:Int)∧(1:Int)≤(((ByteArray.size s):Nat):Int))∧k (ByteArray.extract s 1 (ByteArray.size s)) sign (1:Int) h2))
 else
 JoinW1 (α1:=Bool) (fun k1=>
 (if ((((UInt8.toNat (List.getD s.data.toList 0 0)):Nat):Int)==(105:Int))=true then
 k1 ((((UInt8.toNat (List.getD s.data.toList 0 0)):Nat):Int)==(105:Int)) h1
 else
 k1 ((((UInt8.toNat (List.getD s.data.toList 0 0)):Nat):Int)==(73:Int)) h1))
 (fun t16 h2=>
 (if t16=true then
 k s (1:Int) (0:Int) h2
 else
 JoinW1 (α1:=Bool) (fun k1=>
 (if ((((UInt8.toNat (List.getD s.data.toList 0 0)):Nat):Int)==(110:Int))=true then
 k1 ((((UInt8.toNat (List.getD s.data.toList 0 0)):Nat):Int)==(110:Int)) h2
 else
 k1 ((((UInt8.toNat (List.getD s.data.toList 0 0)):Nat):Int)==(78:Int)) h2))
 (fun t19 h3=>
 (if t19=true then
 CallT P zbm [(.string s),(.string ⟨#[110,97,110]⟩)] (shInt .i64) (fun r h4=>
 (if (r==(3:Int))=true then
 CallT P znj [] (shFlt .f64) (fun r1 h5=>
 Q r1 (3:Int) true h5) h4
 else
 Q 0 (0:Int) false h4)) h3
 else
 Q 0 (0:Int) false h3)))))))
 (fun s1 sign nsign h1=>
 CallT P zbm [(.string s1),(.string ⟨#[105,110,102,105,110,105,116,121]⟩)] (shInt .i64) (fun r h2=>
 JoinW1 (α1:=Int) (fun k=>
 LetW ((decide ((3:Int)<r))&&(decide (r<(8:Int)))) fun y=>
 (if y=true then
 k (3:Int) h2
 else
 k r h2))
 (fun n h3=>
 LetW ((n==(3:Int)) || (n==(8:Int))) fun y=>
 (if y=true then
 CallT P zni [(.int .i64 sign)] (shFlt .f64) (fun r1 h4=>
 Q r1 (IntKind.wrap .i64 (nsign+n)) true h4) h3
 else
 Q 0 (0:Int) false h3))) h1)))
def zax (P:Program) (s:ByteArray) (Q:(Int→(Int→(Bool→(Bool→(Bool→(Int→(Bool→(Hp→Prop))))))))) (h:Hp):Prop:=
 (if (decide ((0:Int)≥(((ByteArray.size s):Nat):Int)))=true then
 Q (0:Int) (0:Int) false false false (0:Int) false h
 else
 (((0:Int)≤(0:Int)∧(0:Int)<(((ByteArray.size s):Nat):Int))∧JoinW2 (α1:=Bool) (α2:=Int) (fun k=>
 (if ((((UInt8.toNat (List.getD s.data.toList 0 0)):Nat):Int)==(43:Int))=true then
 k false (1:Int) h
 else
 (if ((((UInt8.toNat (List.getD s.data.toList 0 0)):Nat):Int)==(45:Int))=true then
 k true (1:Int) h
 else
 k false (0:Int) h)))
 (fun neg i h1=>
 JoinW5 (α1:=Bool) (α2:=Int) (α3:=Int) (α4:=Int) (α5:=Int) (fun k=>
 (((decide ((IntKind.wrap .i64 (i+(2:Int)))<(((ByteArray.size s):Nat):Int)))=true→((0:Int)≤i∧i<(((ByteArray.size s):Nat):Int)))∧LetW ((decide ((IntKind.wrap .i64 (i+(2:Int)))<(((ByteArray.size s):Nat):Int)))&&((((UInt8.toNat (List.getD s.data.toList (Int.toNat i) 0)):Nat):Int)==(48:Int))) fun y=>
 ((y=true→((0:Int)≤(IntKind.wrap .i64 (i+(1:Int)))∧(IntKind.wrap .i64 (i+(1:Int)))<(((ByteArray.size s):Nat):Int)))∧EffC (some y) (CallT P zae [(.int .u8 (((UInt8.toNat (List.getD s.data.toList (Int.toNat (IntKind.wrap .i64 (i+(1:Int)))) 0)):Nat):Int))] (shInt .u8)) (fun r h2=>
 LetW (y&&(r==(120:Int))) fun y1=>
 (if y1=true then
 k true (IntKind.wrap .i64 (i+(2:Int))) (16:Int) (16:Int) (112:Int) h2
 else
 k false i (10:Int) (19:Int) (101:Int) h2)) h1)))
 (fun hex i1 base maxMantDigits expChar h2=>
 JoinW9 (α1:=Int) (α2:=Bool) (α3:=Int) (α4:=Bool) (α5:=Bool) (α6:=Bool) (α7:=Int) (α8:=Int) (α9:=Int) (fun k=>
 LoopW9 (α1:=Int) (α2:=Bool) (α3:=Int) (α4:=Bool) (α5:=Bool) (α6:=Bool) (α7:=Int) (α8:=Int) (α9:=Int) (fun again mantissa trunc i2 underscores sawdot sawdigits nd ndMant dp h3=>
 (if (decide (i2<(((ByteArray.size s):Nat):Int)))=true then
 JoinW8 (α1:=Int) (α2:=Bool) (α3:=Bool) (α4:=Bool) (α5:=Bool) (α6:=Int) (α7:=Int) (α8:=Int) (fun k1=>
 (((0:Int)≤i2∧i2<(((ByteArray.size s):Nat):Int))∧(if (true==((((UInt8.toNat (List.getD s.data.toList (Int.toNat i2) 0)):Nat):Int)==(95:Int)))=true then
 k1 mantissa trunc true sawdot sawdigits nd ndMant dp h3
 else
 (if (true==((((UInt8.toNat (List.getD s.data.toList (Int.toNat i2) 0)):Nat):Int)==(46:Int)))=true then
 (if sawdot=true then
 k mantissa trunc i2 underscores sawdot sawdigits nd ndMant dp h3
 else
 k1 mantissa trunc underscores true sawdigits nd ndMant nd h3)
 else
 LetW ((decide ((48:Int)≤(((UInt8.toNat (List.getD s.data.toList (Int.toNat i2) 0)):Nat):Int)))&&(decide ((((UInt8.toNat (List.getD s.data.toList (Int.toNat i2) 0)):Nat):Int)≤(57:Int)))) fun y=>
 (if (true==y)=true then
 LetW (((((UInt8.toNat (List.getD s.data.toList (Int.toNat i2) 0)):Nat):Int)==(48:Int))&&(nd==(0:Int))) fun y1=>
 (if y1=true then
 k1 mantissa trunc underscores sawdot true nd ndMant (IntKind.wrap .i64 (dp-(1:Int))) h3
 else
 (if (decide (ndMant<maxMantDigits))=true then
 k1 (IntKind.wrap .u64 ((IntKind.wrap .u64 (mantissa*base))+(IntKind.wrap .u64 (IntKind.wrap .u8 ((((UInt8.toNat (List.getD s.data.toList (Int.toNat i2) 0)):Nat):Int)-(48:Int)))))) trunc underscores sawdot true (IntKind.wrap .i64 (nd+(1:Int))) (IntKind.wrap .i64 (ndMant+(1:Int))) dp h3
 else
 (if ((((UInt8.toNat (List.getD s.data.toList (Int.toNat i2) 0)):Nat):Int) !=(48:Int))=true then
 k1 mantissa true underscores sawdot true (IntKind.wrap .i64 (nd+(1:Int))) ndMant dp h3
 else
 k1 mantissa trunc underscores sawdot true (IntKind.wrap .i64 (nd+(1:Int))) ndMant dp h3)))
 else
 EffC (some (base==(16:Int))) (CallT P zae [(.int .u8 (((UInt8.toNat (List.getD s.data.toList (Int.toNat i2) 0)):Nat):Int))] (shInt .u8)) (fun r h4=>
 LetW ((base==(16:Int))&&(decide ((97:Int)≤r))) fun y1=>
 EffC (some y1) (CallT P zae [(.int .u8 (((UInt8.toNat (List.getD s.data.toList (Int.toNat i2) 0)):Nat):Int))] (shInt .u8)) (fun r1 h5=>
 LetW (y1&&(decide (r1≤(102:Int)))) fun y2=>
 (if (true==y2)=true then
 (if (decide (ndMant<maxMantDigits))=true then
 CallT P zae [(.int .u8 (((UInt8.toNat (List.getD s.data.toList (Int.toNat i2) 0)):Nat):Int))] (shInt .u8) (fun r2 h6=>
 k1 (IntKind.wrap .u64 ((IntKind.wrap .u64 (mantissa*(16:Int)))+(IntKind.wrap .u64 (IntKind.wrap .u8 ((IntKind.wrap .u8 (r2-(97:Int)))+(10:Int)))))) trunc underscores sawdot true (IntKind.wrap .i64 (nd+(1:Int))) (IntKind.wrap .i64 (ndMant+(1:Int))) dp h6) h5
 else
 k1 mantissa true underscores sawdot true (IntKind.wrap .i64 (nd+(1:Int))) ndMant dp h5)
 else
 k mantissa trunc i2 underscores sawdot sawdigits nd ndMant dp h5)) h4) h3)))))
 (fun mantissa1 trunc1 underscores1 sawdot1 sawdigits1 nd1 ndMant1 dp1 h4=>
 again mantissa1 trunc1 (IntKind.wrap .i64 (i2+(1:Int))) underscores1 sawdot1 sawdigits1 nd1 ndMant1 dp1 h4)
 else
 k mantissa trunc i2 underscores sawdot sawdigits nd ndMant dp h3)) (0:Int) false i1 false false false (0:Int) (0:Int) (0:Int) h2)
 (fun mantissa trunc i2 underscores sawdot sawdigits nd ndMant dp h3=>
 (if (!sawdigits)=true then
 Q mantissa (0:Int) neg trunc hex i2 false h3
 else
 JoinW1 (α1:=Int) (fun k=>
 (if (!sawdot)=true then
 k nd h3
 else
 k dp h3))
 (fun dp1 h4=>
 JoinW2 (α1:=Int) (α2:=Int) (fun k=>
 (if (base==(16:Int))=true then
 k (IntKind.wrap .i64 (ndMant*(4:Int))) (IntKind.wrap .i64 (dp1*(4:Int))) h4
 else
 k ndMant dp1 h4))
 (fun ndMant1 dp2 h5=>
 JoinW3 (α1:=Int) (α2:=Bool) (α3:=Int) (fun k=>
 (((decide (i2<(((ByteArray.size s):Nat):Int)))=true→((0:Int)≤i2∧i2<(((ByteArray.size s):Nat):Int)))∧EffC (some (decide (i2<(((ByteArray.size s):Nat):Int)))) (CallT P zae [(.int .u8 (((UInt8.toNat (List.getD s.data.toList (Int.toNat i2) 0)):Nat):Int))] (shInt .u8)) (fun r h6=>
 LetW ((decide (i2<(((ByteArray.size s):Nat):Int)))&&(r==expChar)) fun y=>
 (if y=true then
 (if (decide ((IntKind.wrap .i64 (i2+(1:Int)))≥(((ByteArray.size s):Nat):Int)))=true then
 Q mantissa (0:Int) neg trunc hex (IntKind.wrap .i64 (i2+(1:Int))) false h6
 else
 (((0:Int)≤(IntKind.wrap .i64 (i2+(1:Int)))∧(IntKind.wrap .i64 (i2+(1:Int)))<(((ByteArray.size s):Nat):Int))∧JoinW2 (α1:=Int) (α2:=Int) (fun k1=>
 (if ((((UInt8.toNat (List.getD s.data.toList (Int.toNat (IntKind.wrap .i64 (i2+(1:Int)))) 0)):Nat):Int)==(43:Int))=true then
 k1 (IntKind.wrap .i64 ((IntKind.wrap .i64 (i2+(1:Int)))+(1:Int))) (1:Int) h6
 else
 (if ((((UInt8.toNat (List.getD s.data.toList (Int.toNat (IntKind.wrap .i64 (i2+(1:Int)))) 0)):Nat):Int)==(45:Int))=true then
 k1 (IntKind.wrap .i64 ((IntKind.wrap .i64 (i2+(1:Int)))+(1:Int))) (-1:Int) h6
 else
 k1 (IntKind.wrap .i64 (i2+(1:Int))) (1:Int) h6)))
 (fun i3 esign h7=>
 (((!(decide (i3≥(((ByteArray.size s):Nat):Int))))=true→((0:Int)≤i3∧i3<(((ByteArray.size s):Nat):Int)))∧LetW ((decide (i3≥(((ByteArray.size s):Nat):Int))) || (decide ((((UInt8.toNat (List.getD s.data.toList (Int.toNat i3) 0)):Nat):Int)<(48:Int)))) fun y1=>
 (((!y1)=true→((0:Int)≤i3∧i3<(((ByteArray.size s):Nat):Int)))∧LetW (y1 || (decide ((((UInt8.toNat (List.getD s.data.toList (Int.toNat i3) 0)):Nat):Int)>(57:Int)))) fun y2=>
 (if y2=true then
 Q mantissa (0:Int) neg trunc hex i3 false h7
 else
 LoopW3 (α1:=Int) (α2:=Bool) (α3:=Int) (fun again i4 underscores1 e h8=>
 (((decide (i4<(((ByteArray.size s):Nat):Int)))=true→((0:Int)≤i4∧i4<(((ByteArray.size s):Nat):Int)))∧((((decide (i4<(((ByteArray.size s):Nat):Int)))&&(decide ((48:Int)≤(((UInt8.toNat (List.getD s.data.toList (Int.toNat i4) 0)):Nat):Int))))=true→((0:Int)≤i4∧i4<(((ByteArray.size s):Nat):Int)))∧LetW ((decide ((48:Int)≤(((UInt8.toNat (List.getD s.data.toList (Int.toNat i4) 0)):Nat):Int)))&&(decide ((((UInt8.toNat (List.getD s.data.toList (Int.toNat i4) 0)):Nat):Int)≤(57:Int)))) fun y3=>
 ((((decide (i4<(((ByteArray.size s):Nat):Int)))&&(!y3))=true→((0:Int)≤i4∧i4<(((ByteArray.size s):Nat):Int)))∧LetW (y3 || ((((UInt8.toNat (List.getD s.data.toList (Int.toNat i4) 0)):Nat):Int)==(95:Int))) fun y4=>
 LetW ((decide (i4<(((ByteArray.size s):Nat):Int)))&&y4) fun y5=>
 (if y5=true then
 JoinW2 (α1:=Bool) (α2:=Int) (fun k1=>
 (((0:Int)≤i4∧i4<(((ByteArray.size s):Nat):Int))∧(if ((((UInt8.toNat (List.getD s.data.toList (Int.toNat i4) 0)):Nat):Int)==(95:Int))=true then
 k1 true e h8
 else
 (if (decide (e<(10000:Int)))=true then
 (((0:Int)≤i4∧i4<(((ByteArray.size s):Nat):Int))∧k1 underscores1 (IntKind.wrap .i64 ((IntKind.wrap .i64 ((IntKind.wrap .i64 (e*(10:Int)))+(IntKind.wrap .i64 (((UInt8.toNat (List.getD s.data.toList (Int.toNat i4) 0)):Nat):Int))))-(48:Int))) h8)
 else
 k1 underscores1 e h8))))
 (fun underscores2 e1 h9=>
 again (IntKind.wrap .i64 (i4+(1:Int))) underscores2 e1 h9)
 else
 k i4 underscores1 (IntKind.wrap .i64 (dp2+(IntKind.wrap .i64 (e*esign)))) h8))))) i3 underscores (0:Int) h7))))))
 else
 (if (base==(16:Int))=true then
 Q mantissa (0:Int) neg trunc hex i2 false h6
 else
 k i2 underscores dp2 h6))) h5))
 (fun i3 underscores1 dp3 h6=>
 JoinW1 (α1:=Int) (fun k=>
 (if (mantissa !=(0:Int))=true then
 k (IntKind.wrap .i64 (dp3-ndMant1)) h6
 else
 k (0:Int) h6))
 (fun exp h7=>
 ((underscores1=true→((0:Int)≤i3∧i3≤(((ByteArray.size s):Nat):Int)))∧EffC (some underscores1) (CallT P zdx [(.string (ByteArray.extract s 0 (Int.toNat i3)))] zag) (fun r h8=>
 LetW (underscores1&&(!r)) fun y=>
 (if y=true then
 Q mantissa exp neg trunc hex i3 false h8
 else
 Q mantissa exp neg trunc hex i3 true h8)) h7)))))))))))
def zgm (P:Program) (s:ByteArray) (flt:Option Addr) (mantissa:Int) (exp:Int) (neg:Bool) (trunc:Bool) (Q:(Nat→(Leaf→(Hp→Prop)))) (h:Hp):Prop:=
 NilW none flt fun p=>
 LdW none (shInt .u64) h (Addr.add p 1) fun x=>
 ((0:Int)≤x∧NilW none flt fun p1=>
 LdW none (shInt .i64) h (Addr.add p1 2) fun x1=>
 NilW none flt fun p2=>
 LdW none (shInt .i64) h (Addr.add p2 2) fun x2=>
 NilW none flt fun p3=>
 LdW none (shInt .u64) h (Addr.add p3 0) fun x3=>
 LoopW2 (α1:=Int) (α2:=Int) (fun again mantissa1 exp1 h1=>
 NilW (some (mantissa1 !=(0:Int))) flt fun p4=>
 LdW (some (mantissa1 !=(0:Int))) (shInt .u64) h1 (Addr.add p4 0) fun x4=>
 (((mantissa1 !=(0:Int))=true→(0:Int)≤(IntKind.wrap .u64 (x4+(2:Int))))∧LetW ((mantissa1 !=(0:Int))&&((shrI .u64 mantissa1 (IntKind.wrap .u64 (x4+(2:Int))))==(0:Int))) fun y=>
 (if y=true then
 ((0:Int)≤(1:Int)∧again (shlI .u64 mantissa1 (1:Int)) (IntKind.wrap .i64 (exp1-(1:Int))) h1)
 else
 JoinW1 (α1:=Int) (fun k=>
 (if trunc=true then
 k (bitsI .or .u64 mantissa1 (1:Int)) h1
 else
 k mantissa1 h1))
 (fun mantissa2 h2=>
 LoopW2 (α1:=Int) (α2:=Int) (fun again1 mantissa3 exp2 h3=>
 NilW none flt fun p5=>
 LdW none (shInt .u64) h3 (Addr.add p5 0) fun x5=>
 ((0:Int)≤(IntKind.wrap .u64 ((IntKind.wrap .u64 ((1:Int)+x5))+(2:Int)))∧(if ((shrI .u64 mantissa3 (IntKind.wrap .u64 ((IntKind.wrap .u64 ((1:Int)+x5))+(2:Int)))) !=(0:Int))=true then
 ((0:Int)≤(1:Int)∧again1 (bitsI .or .u64 (shrI .u64 mantissa3 (1:Int)) (bitsI .and .u64 mantissa3 (1:Int))) (IntKind.wrap .i64 (exp2+(1:Int))) h3)
 else
 LoopW2 (α1:=Int) (α2:=Int) (fun again2 mantissa4 exp3 h4=>
 LetW ((decide (mantissa4>(1:Int)))&&(decide (exp3<(IntKind.wrap .i64 ((IntKind.wrap .i64 (x2+(1:Int)))-(2:Int)))))) fun y1=>
 (if y1=true then
 ((0:Int)≤(1:Int)∧again2 (bitsI .or .u64 (shrI .u64 mantissa4 (1:Int)) (bitsI .and .u64 mantissa4 (1:Int))) (IntKind.wrap .i64 (exp3+(1:Int))) h4)
 else
 ((0:Int)≤(2:Int)∧JoinW2 (α1:=Int) (α2:=Int) (fun k=>
 (if ((bitsI .or .u64 (bitsI .and .u64 mantissa4 (3:Int)) (bitsI .and .u64 (shrI .u64 mantissa4 (2:Int)) (1:Int)))==(3:Int))=true then
 NilW none flt fun p6=>
 LdW none (shInt .u64) h4 (Addr.add p6 0) fun x6=>
 ((0:Int)≤(IntKind.wrap .u64 ((1:Int)+x6))∧(if ((IntKind.wrap .u64 ((shrI .u64 mantissa4 (2:Int))+(1:Int)))==(shlI .u64 (1:Int) (IntKind.wrap .u64 ((1:Int)+x6))))=true then
 ((0:Int)≤(1:Int)∧k (shrI .u64 (IntKind.wrap .u64 ((shrI .u64 mantissa4 (2:Int))+(1:Int))) (1:Int)) (IntKind.wrap .i64 ((IntKind.wrap .i64 (exp3+(2:Int)))+(1:Int))) h4)
 else
 k (IntKind.wrap .u64 ((shrI .u64 mantissa4 (2:Int))+(1:Int))) (IntKind.wrap .i64 (exp3+(2:Int))) h4))
 else
 k (shrI .u64 mantissa4 (2:Int)) (IntKind.wrap .i64 (exp3+(2:Int))) h4))
 (fun mantissa5 exp4 h5=>
 JoinW1 (α1:=Int) (fun k=>
 NilW none flt fun p6=>
 LdW none (shInt .u64) h5 (Addr.add p6 0) fun x6=>
 ((0:Int)≤x6∧(if ((shrI .u64 mantissa5 x6)==(0:Int))=true then
 NilW none flt fun p7=>
 LdW none (shInt .i64) h5 (Addr.add p7 2) fun x7=>
 k x7 h5
 else
 k exp4 h5)))
 (fun exp5 h6=>
 JoinW3 (α1:=Int) (α2:=Int) (α3:=Leaf) (fun k=>
 (if (decide (exp5>(IntKind.wrap .i64 ((IntKind.wrap .i64 ((shlI .i64 (1:Int) x)+x1))-(2:Int)))))=true then
 NilW none flt fun p6=>
 LdW none (shInt .u64) h6 (Addr.add p6 0) fun x6=>
 ((0:Int)≤x6∧EncW zal (.iface 122 (.int .i64 (1:Int))) fun e=>
 k (shlI .u64 (1:Int) x6) (IntKind.wrap .i64 ((IntKind.wrap .i64 ((IntKind.wrap .i64 ((shlI .i64 (1:Int) x)+x1))-(2:Int)))+(1:Int))) e h6)
 else
 EncW zal .nilIface fun e=>
 k mantissa5 exp5 e h6))
 (fun mantissa6 exp6 err h7=>
 NilW none flt fun p6=>
 LdW none (shInt .u64) h7 (Addr.add p6 0) fun x6=>
 ((0:Int)≤x6∧NilW none flt fun p7=>
 LdW none (shInt .i64) h7 (Addr.add p7 2) fun x7=>
 NilW none flt fun p8=>
 LdW none (shInt .u64) h7 (Addr.add p8 1) fun x8=>
 ((0:Int)≤x8∧NilW none flt fun p9=>
 LdW none (shInt .u64) h7 (Addr.add p9 0) fun x9=>
 ((0:Int)≤x9∧JoinW1 (α1:=Int) (fun k=>
 (if neg=true then
 NilW none flt fun p10=>
 LdW none (shInt .u64) h7 (Addr.add p10 0) fun x10=>
 ((0:Int)≤x10∧NilW none flt fun p11=>
 LdW none (shInt .u64) h7 (Addr.add p11 1) fun x11=>
 ((0:Int)≤x11∧k (bitsI .or .u64 (bitsI .or .u64 (bitsI .and .u64 mantissa6 (IntKind.wrap .u64 ((shlI .u64 (1:Int) x6)-(1:Int)))) (shlI .u64 (IntKind.wrap .u64 (bitsI .and .i64 (IntKind.wrap .i64 (exp6-x7)) (IntKind.wrap .i64 ((shlI .i64 (1:Int) x8)-(1:Int))))) x9)) (shlI .u64 (shlI .u64 (1:Int) x10) x11)) h7))
 else
 k (bitsI .or .u64 (bitsI .and .u64 mantissa6 (IntKind.wrap .u64 ((shlI .u64 (1:Int) x6)-(1:Int)))) (shlI .u64 (IntKind.wrap .u64 (bitsI .and .i64 (IntKind.wrap .i64 (exp6-x7)) (IntKind.wrap .i64 ((shlI .i64 (1:Int) x8)-(1:Int))))) x9)) h7))
 (fun bits h8=>
 SemV none P (binS .eql 211 (.tmp 182) (.global 6) (.pointer flt) (.pointer (some ⟨6,0,none⟩))) zag h8 fun x10=>
 (if x10=true then
 SemE P (Extern.MathFloatBits.float32frombits #[(.int .u32 (IntKind.wrap .u32 bits))]) (shFlt .f32) (fun r h9=>
 SemV none P (convert 120 48 (.float .f32 r)) (shFlt .f64) h9 fun x11=>
 EncW zal err.v fun e=>
 Q x11 e h9) h8
 else
 SemE P (Extern.MathFloatBits.float64frombits #[(.int .u64 bits)]) (shFlt .f64) (fun r h9=>
 EncW zal err.v fun e=>
 Q r e h9) h8))))))))))) mantissa3 exp2 h3))) mantissa2 exp1 h2)))) mantissa (IntKind.wrap .i64 (exp+(IntKind.wrap .i64 x3))) h)
def zem (P:Program) (b:Option Addr) (s:ByteArray) (Q:(Bool→(Hp→Prop))) (h:Hp):Prop:=
 NilW none b fun p=>
 StW h (Addr.add p 802) [(.bool false)] (fun h1=>
 NilW none b fun p1=>
 StW h1 (Addr.add p1 803) [(.bool false)] (fun h2=>
 (if (decide ((0:Int)≥(((ByteArray.size s):Nat):Int)))=true then
 Q false h2
 else
 (((0:Int)≤(0:Int)∧(0:Int)<(((ByteArray.size s):Nat):Int))∧JoinW1 (α1:=Int) (fun k=>
 (if ((((UInt8.toNat (List.getD s.data.toList 0 0)):Nat):Int)==(43:Int))=true then
 k (1:Int) h2
 else
 (if ((((UInt8.toNat (List.getD s.data.toList 0 0)):Nat):Int)==(45:Int))=true then
 NilW none b fun p2=>
 StW h2 (Addr.add p2 802) [(.bool true)] (fun h3=>
 k (1:Int) h3)
 else
 k (0:Int) h2)))
 (fun i h3=>
 JoinW3 (α1:=Int) (α2:=Bool) (α3:=Bool) (fun k=>
 LoopW3 (α1:=Int) (α2:=Bool) (α3:=Bool) (fun again i1 sawdot sawdigits h4=>
 (if (decide (i1<(((ByteArray.size s):Nat):Int)))=true then
 JoinW2 (α1:=Bool) (α2:=Bool) (fun k1=>
 (((0:Int)≤i1∧i1<(((ByteArray.size s):Nat):Int))∧(if ((((UInt8.toNat (List.getD s.data.toList (Int.toNat i1) 0)):Nat):Int)==(95:Int))=true then
 k1 sawdot sawdigits h4
 else
 (((0:Int)≤i1∧i1<(((ByteArray.size s):Nat):Int))∧(if ((((UInt8.toNat (List.getD s.data.toList (Int.toNat i1) 0)):Nat):Int)==(46:Int))=true then
 (if sawdot=true then
 Q false h4
 else
 NilW none b fun p2=>
 LdW none (shInt .i64) h4 (Addr.add p2 800) fun x=>
 NilW none b fun p3=>
 StW h4 (Addr.add p3 801) [(.int .i64 x)] (fun h5=>
 k1 true sawdigits h5))
 else
 (((0:Int)≤i1∧i1<(((ByteArray.size s):Nat):Int))∧(((decide ((48:Int)≤(((UInt8.toNat (List.getD s.data.toList (Int.toNat i1) 0)):Nat):Int)))=true→((0:Int)≤i1∧i1<(((ByteArray.size s):Nat):Int)))∧LetW ((decide ((48:Int)≤(((UInt8.toNat (List.getD s.data.toList (Int.toNat i1) 0)):Nat):Int)))&&(decide ((((UInt8.toNat (List.getD s.data.toList (Int.toNat i1) 0)):Nat):Int)≤(57:Int)))) fun y=>
 (if y=true then
 (((0:Int)≤i1∧i1<(((ByteArray.size s):Nat):Int))∧NilW (some ((((UInt8.toNat (List.getD s.data.toList (Int.toNat i1) 0)):Nat):Int)==(48:Int))) b fun p2=>
 LdW (some ((((UInt8.toNat (List.getD s.data.toList (Int.toNat i1) 0)):Nat):Int)==(48:Int))) (shInt .i64) h4 (Addr.add p2 800) fun x=>
 LetW (((((UInt8.toNat (List.getD s.data.toList (Int.toNat i1) 0)):Nat):Int)==(48:Int))&&(x==(0:Int))) fun y1=>
 (if y1=true then
 NilW none b fun p3=>
 LdW none (shInt .i64) h4 (Addr.add p3 801) fun x1=>
 NilW none b fun p4=>
 StW h4 (Addr.add p4 801) [(.int .i64 (IntKind.wrap .i64 (x1-(1:Int))))] (fun h5=>
 k1 sawdot true h5)
 else
 NilW none b fun p3=>
 LdW none (shInt .i64) h4 (Addr.add p3 800) fun x1=>
 (if (decide (x1<(800:Int)))=true then
 NilW none b fun p4=>
 LdW none (shInt .i64) h4 (Addr.add p4 800) fun x2=>
 (((0:Int)≤i1∧i1<(((ByteArray.size s):Nat):Int))∧NilW none b fun p5=>
 (((0:Int)≤x2∧x2<(800:Int))∧StW h4 (Addr.add (Addr.add p5 0) ((Int.toNat x2)*1)) [(.int .u8 (((UInt8.toNat (List.getD s.data.toList (Int.toNat i1) 0)):Nat):Int))] (fun h5=>
 NilW none b fun p6=>
 LdW none (shInt .i64) h5 (Addr.add p6 800) fun x3=>
 NilW none b fun p7=>
 StW h5 (Addr.add p7 800) [(.int .i64 (IntKind.wrap .i64 (x3+(1:Int))))] (fun h6=>
 k1 sawdot true h6))))
 else
 (((0:Int)≤i1∧i1<(((ByteArray.size s):Nat):Int))∧(if ((((UInt8.toNat (List.getD s.data.toList (Int.toNat i1) 0)):Nat):Int) !=(48:Int))=true then
 NilW none b fun p4=>
 StW h4 (Addr.add p4 803) [(.bool true)] (fun h5=>
 k1 sawdot true h5)
 else
 k1 sawdot true h4)))))
 else
 k i1 sawdot sawdigits h4))))))))
 (fun sawdot1 sawdigits1 h5=>
 again (IntKind.wrap .i64 (i1+(1:Int))) sawdot1 sawdigits1 h5)
 else
 k i1 sawdot sawdigits h4)) i false false h3)
 (fun i1 sawdot sawdigits h4=>
 (if (!sawdigits)=true then
 Q false h4
 else
 JoinW0 (fun k=>
 (if (!sawdot)=true then
 NilW none b fun p2=>
 LdW none (shInt .i64) h4 (Addr.add p2 800) fun x=>
 NilW none b fun p3=>
 StW h4 (Addr.add p3 801) [(.int .i64 x)] (fun h5=>
 k h5)
 else
 k h4))
 (fun h5=>
 (((decide (i1<(((ByteArray.size s):Nat):Int)))=true→((0:Int)≤i1∧i1<(((ByteArray.size s):Nat):Int)))∧EffC (some (decide (i1<(((ByteArray.size s):Nat):Int)))) (CallT P zae [(.int .u8 (((UInt8.toNat (List.getD s.data.toList (Int.toNat i1) 0)):Nat):Int))] (shInt .u8)) (fun r h6=>
 LetW ((decide (i1<(((ByteArray.size s):Nat):Int)))&&(r==(101:Int))) fun y=>
 (if y=true then
 (if (decide ((IntKind.wrap .i64 (i1+(1:Int)))≥(((ByteArray.size s):Nat):Int)))=true then
 Q false h6
 else
 (((0:Int)≤(IntKind.wrap .i64 (i1+(1:Int)))∧(IntKind.wrap .i64 (i1+(1:Int)))<(((ByteArray.size s):Nat):Int))∧JoinW2 (α1:=Int) (α2:=Int) (fun k=>
 (if ((((UInt8.toNat (List.getD s.data.toList (Int.toNat (IntKind.wrap .i64 (i1+(1:Int)))) 0)):Nat):Int)==(43:Int))=true then
 k (IntKind.wrap .i64 ((IntKind.wrap .i64 (i1+(1:Int)))+(1:Int))) (1:Int) h6
 else
 (if ((((UInt8.toNat (List.getD s.data.toList (Int.toNat (IntKind.wrap .i64 (i1+(1:Int)))) 0)):Nat):Int)==(45:Int))=true then
 k (IntKind.wrap .i64 ((IntKind.wrap .i64 (i1+(1:Int)))+(1:Int))) (-1:Int) h6
 else
 k (IntKind.wrap .i64 (i1+(1:Int))) (1:Int) h6)))
 (fun i2 esign h7=>
 (((!(decide (i2≥(((ByteArray.size s):Nat):Int))))=true→((0:Int)≤i2∧i2<(((ByteArray.size s):Nat):Int)))∧LetW ((decide (i2≥(((ByteArray.size s):Nat):Int))) || (decide ((((UInt8.toNat (List.getD s.data.toList (Int.toNat i2) 0)):Nat):Int)<(48:Int)))) fun y1=>
 (((!y1)=true→((0:Int)≤i2∧i2<(((ByteArray.size s):Nat):Int)))∧LetW (y1 || (decide ((((UInt8.toNat (List.getD s.data.toList (Int.toNat i2) 0)):Nat):Int)>(57:Int)))) fun y2=>
 (if y2=true then
 Q false h7
 else
 LoopW2 (α1:=Int) (α2:=Int) (fun again i3 e h8=>
 (((decide (i3<(((ByteArray.size s):Nat):Int)))=true→((0:Int)≤i3∧i3<(((ByteArray.size s):Nat):Int)))∧((((decide (i3<(((ByteArray.size s):Nat):Int)))&&(decide ((48:Int)≤(((UInt8.toNat (List.getD s.data.toList (Int.toNat i3) 0)):Nat):Int))))=true→((0:Int)≤i3∧i3<(((ByteArray.size s):Nat):Int)))∧LetW ((decide ((48:Int)≤(((UInt8.toNat (List.getD s.data.toList (Int.toNat i3) 0)):Nat):Int)))&&(decide ((((UInt8.toNat (List.getD s.data.toList (Int.toNat i3) 0)):Nat):Int)≤(57:Int)))) fun y3=>
 ((((decide (i3<(((ByteArray.size s):Nat):Int)))&&(!y3))=true→((0:Int)≤i3∧i3<(((ByteArray.size s):Nat):Int)))∧LetW (y3 || ((((UInt8.toNat (List.getD s.data.toList (Int.toNat i3) 0)):Nat):Int)==(95:Int))) fun y4=>
 LetW ((decide (i3<(((ByteArray.size s):Nat):Int)))&&y4) fun y5=>
 (if y5=true then
 JoinW1 (α1:=Int) (fun k=>
 (((0:Int)≤i3∧i3<(((ByteArray.size s):Nat):Int))∧(if ((((UInt8.toNat (List.getD s.data.toList (Int.toNat i3) 0)):Nat):Int)==(95:Int))=true then
 k e h8
 else
 (if (decide (e<(10000:Int)))=true then
 (((0:Int)≤i3∧i3<(((ByteArray.size s):Nat):Int))∧k (IntKind.wrap .i64 ((IntKind.wrap .i64 ((IntKind.wrap .i64 (e*(10:Int)))+(IntKind.wrap .i64 (((UInt8.toNat (List.getD s.data.toList (Int.toNat i3) 0)):Nat):Int))))-(48:Int))) h8)
 else
 k e h8))))
 (fun e1 h9=>
 again (IntKind.wrap .i64 (i3+(1:Int))) e1 h9)
 else
 NilW none b fun p2=>
 LdW none (shInt .i64) h8 (Addr.add p2 801) fun x=>
 NilW none b fun p3=>
 StW h8 (Addr.add p3 801) [(.int .i64 (IntKind.wrap .i64 (x+(IntKind.wrap .i64 (e*esign)))))] (fun h9=>
 (if (i3 !=(((ByteArray.size s):Nat):Int))=true then
 Q false h9
 else
 Q true h9))))))) i2 (0:Int) h7))))))
 else
 (if (i1 !=(((ByteArray.size s):Nat):Int))=true then
 Q false h6
 else
 Q true h6))) h5)))))))))
def zcn (P:Program) (d:Option Addr) (flt:Option Addr) (Q:(Int→(Bool→(Hp→Prop)))) (h:Hp):Prop:=
 NilW none d fun p=>
 LdW none (shInt .i64) h (Addr.add p 800) fun x=>
 (if (x==(0:Int))=true then
 NilW none flt fun p1=>
 LdW none (shInt .i64) h (Addr.add p1 2) fun x1=>
 NilW none flt fun p2=>
 LdW none (shInt .u64) h (Addr.add p2 0) fun x2=>
 ((0:Int)≤x2∧NilW none flt fun p3=>
 LdW none (shInt .i64) h (Addr.add p3 2) fun x3=>
 NilW none flt fun p4=>
 LdW none (shInt .u64) h (Addr.add p4 1) fun x4=>
 ((0:Int)≤x4∧NilW none flt fun p5=>
 LdW none (shInt .u64) h (Addr.add p5 0) fun x5=>
 ((0:Int)≤x5∧NilW none d fun p6=>
 LdW none zag h (Addr.add p6 802) fun x6=>
 (if x6=true then
 NilW none flt fun p7=>
 LdW none (shInt .u64) h (Addr.add p7 0) fun x7=>
 ((0:Int)≤x7∧NilW none flt fun p8=>
 LdW none (shInt .u64) h (Addr.add p8 1) fun x8=>
 ((0:Int)≤x8∧Q (bitsI .or .u64 (bitsI .or .u64 (bitsI .and .u64 (0:Int) (IntKind.wrap .u64 ((shlI .u64 (1:Int) x2)-(1:Int)))) (shlI .u64 (IntKind.wrap .u64 (bitsI .and .i64 (IntKind.wrap .i64 (x1-x3)) (IntKind.wrap .i64 ((shlI .i64 (1:Int) x4)-(1:Int))))) x5)) (shlI .u64 (shlI .u64 (1:Int) x7) x8)) false h))
 else
 Q (bitsI .or .u64 (bitsI .and .u64 (0:Int) (IntKind.wrap .u64 ((shlI .u64 (1:Int) x2)-(1:Int)))) (shlI .u64 (IntKind.wrap .u64 (bitsI .and .i64 (IntKind.wrap .i64 (x1-x3)) (IntKind.wrap .i64 ((shlI .i64 (1:Int) x4)-(1:Int))))) x5)) false h))))
 else
 NilW none d fun p1=>
 LdW none (shInt .i64) h (Addr.add p1 801) fun x1=>
 (if (decide (x1>(310:Int)))=true then
 NilW none flt fun p2=>
 LdW none (shInt .u64) h (Addr.add p2 1) fun x2=>
 ((0:Int)≤x2∧NilW none flt fun p3=>
 LdW none (shInt .i64) h (Addr.add p3 2) fun x3=>
 NilW none flt fun p4=>
 LdW none (shInt .u64) h (Addr.add p4 0) fun x4=>
 ((0:Int)≤x4∧NilW none flt fun p5=>
 LdW none (shInt .i64) h (Addr.add p5 2) fun x5=>
 NilW none flt fun p6=>
 LdW none (shInt .u64) h (Addr.add p6 1) fun x6=>
 ((0:Int)≤x6∧NilW none flt fun p7=>
 LdW none (shInt .u64) h (Addr.add p7 0) fun x7=>
 ((0:Int)≤x7∧NilW none d fun p8=>
 LdW none zag h (Addr.add p8 802) fun x8=>
 (if x8=true then
 NilW none flt fun p9=>
 LdW none (shInt .u64) h (Addr.add p9 0) fun x9=>
 ((0:Int)≤x9∧NilW none flt fun p10=>
 LdW none (shInt .u64) h (Addr.add p10 1) fun x10=>
 ((0:Int)≤x10∧Q (bitsI .or .u64 (bitsI .or .u64 (bitsI .and .u64 (0:Int) (IntKind.wrap .u64 ((shlI .u64 (1:Int) x4)-(1:Int)))) (shlI .u64 (IntKind.wrap .u64 (bitsI .and .i64 (IntKind.wrap .i64 ((IntKind.wrap .i64 ((IntKind.wrap .i64 ((shlI .i64 (1:Int) x2)-(1:Int)))+x3))-x5)) (IntKind.wrap .i64 ((shlI .i64 (1:Int) x6)-(1:Int))))) x7)) (shlI .u64 (shlI .u64 (1:Int) x9) x10)) true h))
 else
 Q (bitsI .or .u64 (bitsI .and .u64 (0:Int) (IntKind.wrap .u64 ((shlI .u64 (1:Int) x4)-(1:Int)))) (shlI .u64 (IntKind.wrap .u64 (bitsI .and .i64 (IntKind.wrap .i64 ((IntKind.wrap .i64 ((IntKind.wrap .i64 ((shlI .i64 (1:Int) x2)-(1:Int)))+x3))-x5)) (IntKind.wrap .i64 ((shlI .i64 (1:Int) x6)-(1:Int))))) x7)) true h)))))
 else
 NilW none d fun p2=>
 LdW none (shInt .i64) h (Addr.add p2 801) fun x2=>
 (if (decide (x2<(-330:Int)))=true then
 NilW none flt fun p3=>
 LdW none (shInt .i64) h (Addr.add p3 2) fun x3=>
 NilW none flt fun p4=>
 LdW none (shInt .u64) h (Addr.add p4 0) fun x4=>
 ((0:Int)≤x4∧NilW none flt fun p5=>
 LdW none (shInt .i64) h (Addr.add p5 2) fun x5=>
 NilW none flt fun p6=>
 LdW none (shInt .u64) h (Addr.add p6 1) fun x6=>
 ((0:Int)≤x6∧NilW none flt fun p7=>
 LdW none (shInt .u64) h (Addr.add p7 0) fun x7=>
 ((0:Int)≤x7∧NilW none d fun p8=>
 LdW none zag h (Addr.add p8 802) fun x8=>
 (if x8=true then
 NilW none flt fun p9=>
 LdW none (shInt .u64) h (Addr.add p9 0) fun x9=>
 ((0:Int)≤x9∧NilW none flt fun p10=>
 LdW none (shInt .u64) h (Addr.add p10 1) fun x10=>
 ((0:Int)≤x10∧Q (bitsI .or .u64 (bitsI .or .u64 (bitsI .and .u64 (0:Int) (IntKind.wrap .u64 ((shlI .u64 (1:Int) x4)-(1:Int)))) (shlI .u64 (IntKind.wrap .u64 (bitsI .and .i64 (IntKind.wrap .i64 (x3-x5)) (IntKind.wrap .i64 ((shlI .i64 (1:Int) x6)-(1:Int))))) x7)) (shlI .u64 (shlI .u64 (1:Int) x9) x10)) false h))
 else
 Q (bitsI .or .u64 (bitsI .and .u64 (0:Int) (IntKind.wrap .u64 ((shlI .u64 (1:Int) x4)-(1:Int)))) (shlI .u64 (IntKind.wrap .u64 (bitsI .and .i64 (IntKind.wrap .i64 (x3-x5)) (IntKind.wrap .i64 ((shlI .i64 (1:Int) x6)-(1:Int))))) x7)) false h))))
 else
 LoopW1 (α1:=Int) (fun again exp h1=>
 NilW none d fun p3=>
 LdW none (shInt .i64) h1 (Addr.add p3 801) fun x3=>
 (if (decide (x3>(0:Int)))=true then
 JoinW1 (α1:=Int) (fun k=>
 NilW none d fun p4=>
 LdW none (shInt .i64) h1 (Addr.add p4 801) fun x4=>
 LdW none shSl h1 ⟨11,0,none⟩ fun x5=>
 (if (decide (x4≥((x5.len:Nat):Int)))=true then
 k (27:Int) h1
 else
 LdW none shSl h1 ⟨11,0,none⟩ fun x6=>
 NilW none d fun p5=>
 LdW none (shInt .i64) h1 (Addr.add p5 801) fun x7=>
 ((InB x6.base x6.len x7)∧LdW none (shInt .i64) h1 (sat x6.base 1 x7) fun x8=>
 k x8 h1)))
 (fun n h2=>
 Call0 P zar [(.pointer d),(.int .i64 (IntKind.wrap .i64 ((0:Int)-n)))] (fun h3=>
 again (IntKind.wrap .i64 (exp+n)) h3) h2)
 else
 LoopW1 (α1:=Int) (fun again1 exp1 h2=>
 NilW none d fun p4=>
 LdW none (shInt .i64) h2 (Addr.add p4 801) fun x4=>
 NilW (some (!(decide (x4<(0:Int))))) d fun p5=>
 LdW (some (!(decide (x4<(0:Int))))) (shInt .i64) h2 (Addr.add p5 801) fun x5=>
 NilW (some ((!(decide (x4<(0:Int))))&&(x5==(0:Int)))) d fun p6=>
 ((((!(decide (x4<(0:Int))))&&(x5==(0:Int)))=true→((0:Int)≤(0:Int)∧(0:Int)<(800:Int)))∧LdW (some ((!(decide (x4<(0:Int))))&&(x5==(0:Int)))) (shInt .u8) h2 (Addr.add (Addr.add p6 0) 0) fun x6=>
 LetW ((x5==(0:Int))&&(decide (x6<(53:Int)))) fun y=>
 LetW ((decide (x4<(0:Int))) || y) fun y1=>
 (if y1=true then
 JoinW1 (α1:=Int) (fun k=>
 NilW none d fun p7=>
 LdW none (shInt .i64) h2 (Addr.add p7 801) fun x7=>
 LdW none shSl h2 ⟨11,0,none⟩ fun x8=>
 (if (decide ((IntKind.wrap .i64 ((0:Int)-x7))≥((x8.len:Nat):Int)))=true then
 k (27:Int) h2
 else
 LdW none shSl h2 ⟨11,0,none⟩ fun x9=>
 NilW none d fun p8=>
 LdW none (shInt .i64) h2 (Addr.add p8 801) fun x10=>
 ((InB x9.base x9.len (IntKind.wrap .i64 ((0:Int)-x10)))∧LdW none (shInt .i64) h2 (sat x9.base 1 (IntKind.wrap .i64 ((0:Int)-x10))) fun x11=>
 k x11 h2)))
 (fun n h3=>
 Call0 P zar [(.pointer d),(.int .i64 n)] (fun h4=>
 again1 (IntKind.wrap .i64 (exp1-n)) h4) h3)
 else
 JoinW1 (α1:=Int) (fun k=>
 NilW none flt fun p7=>
 LdW none (shInt .i64) h2 (Addr.add p7 2) fun x7=>
 (if (decide ((IntKind.wrap .i64 (exp1-(1:Int)))<(IntKind.wrap .i64 (x7+(1:Int)))))=true then
 NilW none flt fun p8=>
 LdW none (shInt .i64) h2 (Addr.add p8 2) fun x8=>
 Call0 P zar [(.pointer d),(.int .i64 (IntKind.wrap .i64 ((0:Int)-(IntKind.wrap .i64 ((IntKind.wrap .i64 (x8+(1:Int)))-(IntKind.wrap .i64 (exp1-(1:Int))))))))] (fun h3=>
 k (IntKind.wrap .i64 ((IntKind.wrap .i64 (exp1-(1:Int)))+(IntKind.wrap .i64 ((IntKind.wrap .i64 (x8+(1:Int)))-(IntKind.wrap .i64 (exp1-(1:Int))))))) h3) h2
 else
 k (IntKind.wrap .i64 (exp1-(1:Int))) h2))
 (fun exp2 h3=>
 NilW none flt fun p7=>
 LdW none (shInt .i64) h3 (Addr.add p7 2) fun x7=>
 NilW none flt fun p8=>
 LdW none (shInt .u64) h3 (Addr.add p8 1) fun x8=>
 ((0:Int)≤x8∧(if (decide ((IntKind.wrap .i64 (exp2-x7))≥(IntKind.wrap .i64 ((shlI .i64 (1:Int) x8)-(1:Int)))))=true then
 NilW none flt fun p9=>
 LdW none (shInt .u64) h3 (Addr.add p9 1) fun x9=>
 ((0:Int)≤x9∧NilW none flt fun p10=>
 LdW none (shInt .i64) h3 (Addr.add p10 2) fun x10=>
 NilW none flt fun p11=>
 LdW none (shInt .u64) h3 (Addr.add p11 0) fun x11=>
 ((0:Int)≤x11∧NilW none flt fun p12=>
 LdW none (shInt .i64) h3 (Addr.add p12 2) fun x12=>
 NilW none flt fun p13=>
 LdW none (shInt .u64) h3 (Addr.add p13 1) fun x13=>
 ((0:Int)≤x13∧NilW none flt fun p14=>
 LdW none (shInt .u64) h3 (Addr.add p14 0) fun x14=>
 ((0:Int)≤x14∧NilW none d fun p15=>
 LdW none zag h3 (Addr.add p15 802) fun x15=>
 (if x15=true then
 NilW none flt fun p16=>
 LdW none (shInt .u64) h3 (Addr.add p16 0) fun x16=>
 ((0:Int)≤x16∧NilW none flt fun p17=>
 LdW none (shInt .u64) h3 (Addr.add p17 1) fun x17=>
 ((0:Int)≤x17∧Q (bitsI .or .u64 (bitsI .or .u64 (bitsI .and .u64 (0:Int) (IntKind.wrap .u64 ((shlI .u64 (1:Int) x11)-(1:Int)))) (shlI .u64 (IntKind.wrap .u64 (bitsI .and .i64 (IntKind.wrap .i64 ((IntKind.wrap .i64 ((IntKind.wrap .i64 ((shlI .i64 (1:Int) x9)-(1:Int)))+x10))-x12)) (IntKind.wrap .i64 ((shlI .i64 (1:Int) x13)-(1:Int))))) x14)) (shlI .u64 (shlI .u64 (1:Int) x16) x17)) true h3))
 else
 Q (bitsI .or .u64 (bitsI .and .u64 (0:Int) (IntKind.wrap .u64 ((shlI .u64 (1:Int) x11)-(1:Int)))) (shlI .u64 (IntKind.wrap .u64 (bitsI .and .i64 (IntKind.wrap .i64 ((IntKind.wrap .i64 ((IntKind.wrap .i64 ((shlI .i64 (1:Int) x9)-(1:Int)))+x10))-x12)) (IntKind.wrap .i64 ((shlI .i64 (1:Int) x13)-(1:Int))))) x14)) true h3)))))
 else
 NilW none flt fun p9=>
 LdW none (shInt .u64) h3 (Addr.add p9 0) fun x9=>
 Call0 P zar [(.pointer d),(.int .i64 (IntKind.wrap .i64 (IntKind.wrap .u64 ((1:Int)+x9))))] (fun h4=>
 CallT P zdv [(.pointer d)] (shInt .u64) (fun r h5=>
 JoinW2 (α1:=Int) (α2:=Int) (fun k=>
 NilW none flt fun p10=>
 LdW none (shInt .u64) h5 (Addr.add p10 0) fun x10=>
 ((0:Int)≤x10∧(if (r==(shlI .u64 (2:Int) x10))=true then
 ((0:Int)≤(1:Int)∧NilW none flt fun p11=>
 LdW none (shInt .i64) h5 (Addr.add p11 2) fun x11=>
 NilW none flt fun p12=>
 LdW none (shInt .u64) h5 (Addr.add p12 1) fun x12=>
 ((0:Int)≤x12∧(if (decide ((IntKind.wrap .i64 ((IntKind.wrap .i64 (exp2+(1:Int)))-x11))≥(IntKind.wrap .i64 ((shlI .i64 (1:Int) x12)-(1:Int)))))=true then
 NilW none flt fun p13=>
 LdW none (shInt .u64) h5 (Addr.add p13 1) fun x13=>
 ((0:Int)≤x13∧NilW none flt fun p14=>
 LdW none (shInt .i64) h5 (Addr.add p14 2) fun x14=>
 NilW none flt fun p15=>
 LdW none (shInt .u64) h5 (Addr.add p15 0) fun x15=>
 ((0:Int)≤x15∧NilW none flt fun p16=>
 LdW none (shInt .i64) h5 (Addr.add p16 2) fun x16=>
 NilW none flt fun p17=>
 LdW none (shInt .u64) h5 (Addr.add p17 1) fun x17=>
 ((0:Int)≤x17∧NilW none flt fun p18=>
 LdW none (shInt .u64) h5 (Addr.add p18 0) fun x18=>
 ((0:Int)≤x18∧NilW none d fun p19=>
 LdW none zag h5 (Addr.add p19 802) fun x19=>
 (if x19=true then
 NilW none flt fun p20=>
 LdW none (shInt .u64) h5 (Addr.add p20 0) fun x20=>
 ((0:Int)≤x20∧NilW none flt fun p21=>
 LdW none (shInt .u64) h5 (Addr.add p21 1) fun x21=>
 ((0:Int)≤x21∧Q (bitsI .or .u64 (bitsI .or .u64 (bitsI .and .u64 (0:Int) (IntKind.wrap .u64 ((shlI .u64 (1:Int) x15)-(1:Int)))) (shlI .u64 (IntKind.wrap .u64 (bitsI .and .i64 (IntKind.wrap .i64 ((IntKind.wrap .i64 ((IntKind.wrap .i64 ((shlI .i64 (1:Int) x13)-(1:Int)))+x14))-x16)) (IntKind.wrap .i64 ((shlI .i64 (1:Int) x17)-(1:Int))))) x18)) (shlI .u64 (shlI .u64 (1:Int) x20) x21)) true h5))
 else
 Q (bitsI .or .u64 (bitsI .and .u64 (0:Int) (IntKind.wrap .u64 ((shlI .u64 (1:Int) x15)-(1:Int)))) (shlI .u64 (IntKind.wrap .u64 (bitsI .and .i64 (IntKind.wrap .i64 ((IntKind.wrap .i64 ((IntKind.wrap .i64 ((shlI .i64 (1:Int) x13)-(1:Int)))+x14))-x16)) (IntKind.wrap .i64 ((shlI .i64 (1:Int) x17)-(1:Int))))) x18)) true h5)))))
 else
 k (IntKind.wrap .i64 (exp2+(1:Int))) (shrI .u64 r (1:Int)) h5)))
 else
 k exp2 r h5)))
 (fun exp3 mant h6=>
 JoinW1 (α1:=Int) (fun k=>
 NilW none flt fun p10=>
 LdW none (shInt .u64) h6 (Addr.add p10 0) fun x10=>
 ((0:Int)≤x10∧(if ((bitsI .and .u64 mant (shlI .u64 (1:Int) x10))==(0:Int))=true then
 NilW none flt fun p11=>
 LdW none (shInt .i64) h6 (Addr.add p11 2) fun x11=>
 k x11 h6
 else
 k exp3 h6)))
 (fun exp4 h7=>
 NilW none flt fun p10=>
 LdW none (shInt .u64) h7 (Addr.add p10 0) fun x10=>
 ((0:Int)≤x10∧NilW none flt fun p11=>
 LdW none (shInt .i64) h7 (Addr.add p11 2) fun x11=>
 NilW none flt fun p12=>
 LdW none (shInt .u64) h7 (Addr.add p12 1) fun x12=>
 ((0:Int)≤x12∧NilW none flt fun p13=>
 LdW none (shInt .u64) h7 (Addr.add p13 0) fun x13=>
 ((0:Int)≤x13∧NilW none d fun p14=>
 LdW none zag h7 (Addr.add p14 802) fun x14=>
 (if x14=true then
 NilW none flt fun p15=>
 LdW none (shInt .u64) h7 (Addr.add p15 0) fun x15=>
 ((0:Int)≤x15∧NilW none flt fun p16=>
 LdW none (shInt .u64) h7 (Addr.add p16 1) fun x16=>
 ((0:Int)≤x16∧Q (bitsI .or .u64 (bitsI .or .u64 (bitsI .and .u64 mant (IntKind.wrap .u64 ((shlI .u64 (1:Int) x10)-(1:Int)))) (shlI .u64 (IntKind.wrap .u64 (bitsI .and .i64 (IntKind.wrap .i64 (exp4-x11)) (IntKind.wrap .i64 ((shlI .i64 (1:Int) x12)-(1:Int))))) x13)) (shlI .u64 (shlI .u64 (1:Int) x15) x16)) false h7))
 else
 Q (bitsI .or .u64 (bitsI .and .u64 mant (IntKind.wrap .u64 ((shlI .u64 (1:Int) x10)-(1:Int)))) (shlI .u64 (IntKind.wrap .u64 (bitsI .and .i64 (IntKind.wrap .i64 (exp4-x11)) (IntKind.wrap .i64 ((shlI .i64 (1:Int) x12)-(1:Int))))) x13)) false h7))))))) h4) h3)))))) exp h1)) (0:Int) h)))
def zbi (P:Program) (b:Bool) (Q:(Int→(Hp→Prop))) (h:Hp):Prop:=
 (if b=true then
 Q (1:Int) h
 else
 Q (0:Int) h)
def zau (P:Program) (mantissa:Int) (exp:Int) (neg:Bool) (Q:(Nat→(Bool→(Hp→Prop)))) (h:Hp):Prop:=
 LdW none (shInt .u64) h (Addr.add ⟨7,0,none⟩ 0) fun x=>
 ((0:Int)≤x∧(if ((shrI .u64 mantissa x) !=(0:Int))=true then
 Q 0 false h
 else
 SemV none P (convert 51 48 (.int .u64 mantissa)) (shFlt .f64) h fun x1=>
 JoinW1 (α1:=Nat) (fun k=>
 (if neg=true then
 k (Op.negFloat .f64 x1) h
 else
 k x1 h))
 (fun f h1=>
 (if (exp==(0:Int))=true then
 Q f true h1
 else
 LetW ((decide (exp>(0:Int)))&&(decide (exp≤(37:Int)))) fun y=>
 (if y=true then
 JoinW2 (α1:=Int) (α2:=Nat) (fun k=>
 (if (decide (exp>(22:Int)))=true then
 LdW none shSl h1 ⟨12,0,none⟩ fun x2=>
 ((InB x2.base x2.len (IntKind.wrap .i64 (exp-(22:Int))))∧LdW none (shFlt .f64) h1 (sat x2.base 1 (IntKind.wrap .i64 (exp-(22:Int)))) fun x3=>
 SemE P (binS .mul 48 (.tmp 31) (.tmp 36) (.float .f64 f) (.float .f64 x3)) (shFlt .f64) (fun r h2=>
 k (22:Int) r h2) h1)
 else
 k exp f h1))
 (fun exp1 f1 h2=>
 SemV none P (binS .gtr 48 (.tmp 38) (.const (.float .f64 4831355200913801216)) (.float .f64 f1) (.float .f64 4831355200913801216)) zag h2 fun x2=>
 SemV (some (!x2)) P (binS .lss 48 (.tmp 41) (.const (.float .f64 14054727237768577024)) (.float .f64 f1) (.float .f64 14054727237768577024)) zag h2 fun x3=>
 LetW (x2 || x3) fun y1=>
 (if y1=true then
 Q f1 false h2
 else
 LdW none shSl h2 ⟨12,0,none⟩ fun x4=>
 ((InB x4.base x4.len exp1)∧LdW none (shFlt .f64) h2 (sat x4.base 1 exp1) fun x5=>
 SemE P (binS .mul 48 (.tmp 44) (.tmp 48) (.float .f64 f1) (.float .f64 x5)) (shFlt .f64) (fun r h3=>
 Q r true h3) h2)))
 else
 LetW ((decide (exp<(0:Int)))&&(decide (exp≥(-22:Int)))) fun y1=>
 (if y1=true then
 LdW none shSl h1 ⟨12,0,none⟩ fun x2=>
 ((InB x2.base x2.len (IntKind.wrap .i64 ((0:Int)-exp)))∧LdW none (shFlt .f64) h1 (sat x2.base 1 (IntKind.wrap .i64 ((0:Int)-exp))) fun x3=>
 SemE P (binS .quo 48 (.tmp 57) (.tmp 62) (.float .f64 f) (.float .f64 x3)) (shFlt .f64) (fun r h2=>
 Q r true h2) h1)
 else
 Q f false h1))))))
def zbj (P:Program) (d:Int) (p:Int) (sign:Int) (Q:(Nat→(Leaf→(Hp→Prop)))) (h:Hp):Prop:=
 CallT P zhi [(.int .u64 d)] (shInt .i64) (fun r h1=>
 CallT P zfb [(.int .i64 p)] (shInt .i64) (fun r1 h2=>
 NewW [(.int .u64 (0:Int)),(.int .u64 (0:Int)),(.int .i64 (0:Int))] (fun a h3=>
 Call0 P zdh [(.pointer (some a)),(.int .i64 (IntKind.wrap .i64 ((min2I (1074:Int) (IntKind.wrap .i64 ((IntKind.wrap .i64 ((53:Int)-r))-r1)))-(IntKind.wrap .i64 ((64:Int)-r))))),(.int .i64 p),(.int .i64 r1)] (fun h4=>
 LdW none (shInt .i64) h4 (Addr.add a 2) fun x=>
 (if (decide (x≥(64:Int)))=true then
 SemE P (Extern.MathFloatBits.float64frombits #[(.int .u64 (bitsI .or .u64 sign (0:Int)))]) (shFlt .f64) (fun r2 h5=>
 EncW zal .nilIface fun e=>
 Q r2 e h5) h4
 else
 ((0:Int)≤(IntKind.wrap .i64 ((64:Int)-r))∧CallT P zbu [(.int .u64 (shlI .u64 d (IntKind.wrap .i64 ((64:Int)-r)))),(.pointer (some a))] (shInt .u64) (fun r2 h5=>
 CallT P zlp [(.int .u64 (9007199254740992:Int))] (shInt .u64) (fun r3 h6=>
 CallT P zfa [(.bool (decide (r2≥r3)))] (shInt .i64) (fun r4 h7=>
 ((0:Int)≤r4∧CallT P zdb [(.int .u64 (bitsI .or .u64 (shrI .u64 r2 r4) (bitsI .and .u64 r2 (1:Int))))] (shInt .u64) (fun r5 h8=>
 Call2 P zgs [(.int .u64 (bitsI .or .u64 sign r5)),(.int .i64 (IntKind.wrap .i64 ((0:Int)-(IntKind.wrap .i64 ((min2I (1074:Int) (IntKind.wrap .i64 ((IntKind.wrap .i64 ((53:Int)-r))-r1)))-r4)))))] (shFlt .f64) zal (fun r6 r7 h9=>
 EncW zal r7.v fun e=>
 Q r6 e h9) h8) h7)) h6) h5) h4))) h3) h2) h1) h
def zjw (P:Program) (x:Int) (Q:(Int→(Hp→Prop))) (h:Hp):Prop:=
 (if (x==(0:Int))=true then
 Q (64:Int) h
 else
 ((0:Int)≤(58:Int)∧(((0:Int)≤(shrI .u64 (IntKind.wrap .u64 ((bitsI .and .u64 x (IntKind.wrap .u64 ((0:Int)-x)))*(285870213051353865:Int))) (58:Int))∧(shrI .u64 (IntKind.wrap .u64 ((bitsI .and .u64 x (IntKind.wrap .u64 ((0:Int)-x)))*(285870213051353865:Int))) (58:Int))<(64:Int))∧LdW none (shInt .u8) h (Addr.add ⟨14,0,none⟩ ((Int.toNat (shrI .u64 (IntKind.wrap .u64 ((bitsI .and .u64 x (IntKind.wrap .u64 ((0:Int)-x)))*(285870213051353865:Int))) (58:Int)))*1)) fun x1=>
 Q (IntKind.wrap .i64 x1) h)))
def zcu (P:Program) (b:Sl) (s:ByteArray) (Q:(Bool→(Hp→Prop))) (h:Hp):Prop:=
 LoopW1 (α1:=Int) (fun again i h1=>
 (if (decide (i<(((ByteArray.size s):Nat):Int)))=true then
 (if (decide (i≥((b.len:Nat):Int)))=true then
 Q true h1
 else
 ((InB b.base b.len i)∧LdW none (shInt .u8) h1 (sat b.base 1 i) fun x=>
 (((0:Int)≤i∧i<(((ByteArray.size s):Nat):Int))∧(if (x !=(((UInt8.toNat (List.getD s.data.toList (Int.toNat i) 0)):Nat):Int))=true then
 ((InB b.base b.len i)∧LdW none (shInt .u8) h1 (sat b.base 1 i) fun x1=>
 (((0:Int)≤i∧i<(((ByteArray.size s):Nat):Int))∧Q (decide (x1<(((UInt8.toNat (List.getD s.data.toList (Int.toNat i) 0)):Nat):Int))) h1))
 else
 again (IntKind.wrap .i64 (i+(1:Int))) h1))))
 else
 Q false h1)) (0:Int) h
def zaj (P:Program) (s:ByteArray) (prefix_:ByteArray) (Q:(Int→(Hp→Prop))) (h:Hp):Prop:=
 LoopW1 (α1:=Int) (fun again i h1=>
 (if (decide (i<(min2I (((ByteArray.size prefix_):Nat):Int) (((ByteArray.size s):Nat):Int))))=true then
 (((0:Int)≤i∧i<(((ByteArray.size s):Nat):Int))∧JoinW1 (α1:=Int) (fun k=>
 LetW ((decide ((65:Int)≤(((UInt8.toNat (List.getD s.data.toList (Int.toNat i) 0)):Nat):Int)))&&(decide ((((UInt8.toNat (List.getD s.data.toList (Int.toNat i) 0)):Nat):Int)≤(90:Int)))) fun y=>
 (if y=true then
 k (IntKind.wrap .u8 ((((UInt8.toNat (List.getD s.data.toList (Int.toNat i) 0)):Nat):Int)+(32:Int))) h1
 else
 k (((UInt8.toNat (List.getD s.data.toList (Int.toNat i) 0)):Nat):Int) h1))
 (fun c h2=>
 (((0:Int)≤i∧i<(((ByteArray.size prefix_):Nat):Int))∧(if (c !=(((UInt8.toNat (List.getD prefix_.data.toList (Int.toNat i) 0)):Nat):Int))=true then
 Q i h2
 else
 again (IntKind.wrap .i64 (i+(1:Int))) h2))))
 else
 Q (min2I (((ByteArray.size prefix_):Nat):Int) (((ByteArray.size s):Nat):Int)) h1)) (0:Int) h
def ziz (P:Program) (sign:Int) (Q:(Nat→(Hp→Prop))) (h:Hp):Prop:=
 JoinW1 (α1:=Int) (fun k=>
 (if (decide (sign≥(0:Int)))=true then
 k (9218868437227405312:Int) h
 else
 k (18442240474082181120:Int) h))
 (fun v h1=>
 SemE P (Extern.MathFloatBits.float64frombits #[(.int .u64 v)]) (shFlt .f64) (fun r h2=>
 Q r h2) h1)
def znk (P:Program)  (Q:(Nat→(Hp→Prop))) (h:Hp):Prop:=
 SemE P (Extern.MathFloatBits.float64frombits #[(.int .u64 (9221120237041090561:Int))]) (shFlt .f64) (fun r h1=>
 Q r h1) h
def zbw (P:Program) (a:Option Addr) (Q:(Int→(Hp→Prop))) (h:Hp):Prop:=
 NilW none a fun p=>
 LdW none (shInt .i64) h (Addr.add p 801) fun x=>
 (if (decide (x>(20:Int)))=true then
 Q (18446744073709551615:Int) h
 else
 LoopW2 (α1:=Int) (α2:=Int) (fun again i n h1=>
 NilW none a fun p1=>
 LdW none (shInt .i64) h1 (Addr.add p1 801) fun x1=>
 NilW (some (decide (i<x1))) a fun p2=>
 LdW (some (decide (i<x1))) (shInt .i64) h1 (Addr.add p2 800) fun x2=>
 LetW ((decide (i<x1))&&(decide (i<x2))) fun y=>
 (if y=true then
 NilW none a fun p3=>
 (((0:Int)≤i∧i<(800:Int))∧LdW none (shInt .u8) h1 (Addr.add (Addr.add p3 0) ((Int.toNat i)*1)) fun x3=>
 again (IntKind.wrap .i64 (i+(1:Int))) (IntKind.wrap .u64 ((IntKind.wrap .u64 (n*(10:Int)))+(IntKind.wrap .u64 (IntKind.wrap .u8 (x3-(48:Int)))))) h1)
 else
 LoopW2 (α1:=Int) (α2:=Int) (fun again1 i1 n1 h2=>
 NilW none a fun p3=>
 LdW none (shInt .i64) h2 (Addr.add p3 801) fun x3=>
 (if (decide (i1<x3))=true then
 again1 (IntKind.wrap .i64 (i1+(1:Int))) (IntKind.wrap .u64 (n1*(10:Int))) h2
 else
 NilW none a fun p4=>
 LdW none (shInt .i64) h2 (Addr.add p4 801) fun x4=>
 CallT P zgy [(.pointer a),(.int .i64 x4)] zag (fun r h3=>
 (if r=true then
 Q (IntKind.wrap .u64 (n1+(1:Int))) h3
 else
 Q n1 h3)) h2)) i n h1)) (0:Int) (0:Int) h)
def zco (P:Program) (m:Int) (e:Int) (Q:(Nat→(Leaf→(Hp→Prop)))) (h:Hp):Prop:=
 (if ((bitsI .and .u64 m (4503599627370496:Int))==(0:Int))=true then
 SemE P (Extern.MathFloatBits.float64frombits #[(.int .u64 m)]) (shFlt .f64) (fun r h1=>
 EncW zal .nilIface fun e1=>
 Q r e1 h1) h
 else
 (if (decide (e≥(972:Int)))=true then
 SemE P (Extern.MathFloatBits.float64frombits #[(.int .u64 (bitsI .or .u64 (bitsI .and .u64 m (9223372036854775808:Int)) (9218868437227405312:Int)))]) (shFlt .f64) (fun r h1=>
 EncW zal (.iface 122 (.int .i64 (1:Int))) fun e1=>
 Q r e1 h1) h
 else
 ((0:Int)≤(52:Int)∧SemE P (Extern.MathFloatBits.float64frombits #[(.int .u64 (bitsI .or .u64 (bitsI .andNot .u64 m (4503599627370496:Int)) (shlI .u64 (IntKind.wrap .u64 (IntKind.wrap .i64 ((1075:Int)+e))) (52:Int))))]) (shFlt .f64) (fun r h1=>
 EncW zal .nilIface fun e1=>
 Q r e1 h1) h)))
end Lf

set_option maxRecDepth 100000
namespace Lf
open Go
def Ann.s (a:Ann):Ann:=.sq .tt a
def rgR (a n:Nat):List (Nat×List Nat):=(List.range' a n).map fun i=>(i,[])
def zrt :List Nat:=[]
def zru :Ann:=(.s (.sq (.s (.bk (.lp [⟨false,5,3⟩] [] (.s (.sq (.bk (.sq (.rg (rgR 0 4++rgR 5 4++ [(4,[8]),(9,[]),(10,[])])) .tt)) .tt))))) (.sq (.s (.bk (.lp [⟨false,6,3⟩] [] .tt))) .tt)))
def zmw1 :List Nat:=[]
def zmx1 :Ann:=.tt
def zvy :List Nat:=[]
def zvz :Ann:=(.s (.s (.s (.s (.jn [⟨false,5,9⟩] [] .tt .tt)))))
def zmy1 :List Nat:=[]
def zmz1 :Ann:=(.s (.s (.s (.jn [⟨false,4,51⟩] [] .tt .tt))))
def zwa :List Nat:=[]
def zwb :Ann:=(.s (.s (.s (.s (.s (.jn [⟨false,5,9⟩] [] .tt (.sq (.bj [⟨false,4,51⟩] [] (.s (.sq (.s (.bk (.lp [⟨false,4,51⟩,⟨false,7,3⟩] [] .tt))) .tt))) (.jn [⟨false,4,51⟩] [] .tt .tt))))))))
def zwc :List Nat:=[]
def zwd :Ann:=.tt
def zna1 :List Nat:=[]
def znb1 :Ann:=.tt
def zif1 :List Nat:=[]
def zig1 :Ann:=.tt
def zih1 :List Nat:=[]
def zii1 :Ann:=.tt
def zxb :List Nat:=[]
def zxc :Ann:=.tt
def zfe1 :List Nat:=[]
def zff1 :Ann:=.tt
def zfg1 :List Nat:=[]
def zfh1 :Ann:=.tt
def zyj :List Nat:=[]
def zyk :Ann:=(.s (.s (.sq (.s (.bk (.lp [⟨false,3,9⟩,⟨false,4,3⟩] [] .tt))) .tt)))
def zxd :List Nat:=[]
def zxe :Ann:=(.s (.s (.s (.s (.s (.jn [⟨false,6,9⟩] [] .tt .tt))))))
def zzk :List Nat:=[]
def zzl :Ann:=.tt
def zzm :List Nat:=[]
def zzn :Ann:=.tt
def zyl :List Nat:=[]
def zym :Ann:=.tt
def zwe :List Nat:=[]
def zwf :Ann:=(.s (.sq (.s (.bk (.lp [⟨false,3,51⟩] [] .tt))) .tt))
def zwg :List Nat:=[]
def zwh :Ann:=(.s (.s (.s (.s (.sq (.bk (.lp [⟨false,5,51⟩,⟨false,6,3⟩,⟨false,7,3⟩] [] (.s (.bj [⟨false,5,51⟩,⟨false,6,3⟩,⟨false,7,3⟩] [] (.s (.s (.s (.jn [⟨false,6,3⟩] [] .tt .tt)))))))) (.s (.s (.jn [⟨false,7,3⟩] [] .tt (.s (.s (.sq (.bk (.lp [⟨false,7,3⟩,⟨false,9,3⟩] [] .tt)) .tt)))))))))))
def ztw :List Nat:=[]
def ztx :Ann:=(.s (.s (.sq (.bk (.lp [⟨false,5,51⟩,⟨false,6,51⟩] [] (.s (.bj [⟨false,5,51⟩,⟨false,6,51⟩] [] .tt)))) .tt)))
def zyi1 :List Nat:=[]
def zyj1 :Ann:=.tt
def zyn :List Nat:=[]
def zyo :Ann:=.tt
def zcj1 :List Nat:=[]
def zck1 :Ann:=(.s (.s (.jn [] [] .tt (.s (.jn [] [] .tt (.s (.s (.sq (.s (.bj [] [] (.jn [⟨false,43,4⟩] [] .tt .tt))) (.s (.jn [⟨false,8,3⟩] [] .tt (.s (.s (.s (.sq (.bk (.lp [] [] .tt)) .tt))))))))))))))
def zrv :List Nat:=[]
def zrw :Ann:=(.s (.sq (.s (.s (.sq (.sq (.rg (rgR 0 12)) .tt) .tt))) .tt))
def zoo :List Nat:=[]
def zop :Ann:=.tt
def zve :List Nat:=[]
def zvf :Ann:=(.s (.s (.sq (.s (.sq (.s (.jn [⟨false,0,9⟩] [] .tt (.s (.sq (.s (.bk (.lp [⟨false,6,3⟩,⟨false,49,3⟩] [] .tt))) .tt)))) .tt)) .tt)))
def zvg :List Nat:=[]
def zvh :Ann:=.tt
def zvi :List Nat:=[]
def zvj :Ann:=(.s (.s (.sq (.s (.bk (.lp [⟨false,5,3⟩] [] (.s (.sq (.bk (.s (.s (.s (.s (.s (.s (.jn [⟨false,11,51⟩] [] .tt (.sq (.bk (.lp [⟨false,6,3⟩,⟨false,11,51⟩] [] .tt)) .tt))))))))) .tt))))) .tt)))
def zvk :List Nat:=[]
def zvl :Ann:=(.s (.s (.sq (.bk (.lp [⟨false,0,51⟩,⟨false,3,74⟩] [] .tt)) (.s (.sq (.s (.bk (.lp [⟨false,4,3⟩] [] .tt))) .tt)))))
def zmt :List Nat:=[]
def zmu :Ann:=.tt
def zpu :List Nat:=[]
def zpv :Ann:=(.s (.s (.s (.s (.sq (.bj [⟨false,0,9⟩,⟨false,1,3⟩] [] (.s (.s (.s (.sq (.s (.s (.sq (.bj [⟨false,0,9⟩,⟨false,1,3⟩] [] .tt) .tt))) .tt))))) (.jn [⟨false,2,3⟩] [] .tt (.s (.sq (.s (.bj [⟨false,10,51⟩] [] .tt)) (.s (.s (.s (.sq (.s (.bk (.lp [⟨false,12,4⟩,⟨false,13,51⟩,⟨false,101,3⟩] [] (.s (.s (.sq (.bj [⟨false,12,4⟩,⟨false,13,51⟩] [] (.s (.s (.sq (.bj [⟨false,12,4⟩,⟨false,16,5⟩] [] .tt) .tt)))) .tt)))))) .tt))))))))))))
def zpb :List Nat:=[]
def zpc :Ann:=.tt
def zxf :List Nat:=[]
def zxg :Ann:=(.s (.s (.s (.jn [⟨false,9,51⟩] [] .tt .tt))))
def zrr1 :List Nat:=[]
def zrs1 :Ann:=.tt
def znc1 :List Nat:=[]
def znd1 :Ann:=.tt
def zpd :List Nat:=[]
def zpe :Ann:=.tt
def zpw :List Nat:=[]
def zpx :Ann:=(.s (.s (.s (.s (.s (.s (.s (.s (.sq (.bk (.lp [⟨false,8,3⟩,⟨false,10,3⟩] [] (.s (.bk (.jn [⟨false,8,3⟩] [] .tt .tt))))) .tt)))))))))
def zss :List Nat:=[]
def zst :Ann:=(.s (.s (.s (.sq (.bj [⟨false,9,51⟩,⟨false,10,3⟩,⟨false,11,3⟩,⟨false,12,3⟩] [] .tt) (.s (.sq (.rg (rgR 0 9)) (.s (.s (.jn [⟨false,14,3⟩,⟨false,15,51⟩] [] .tt (.s (.s (.s (.s (.sq (.s (.sq (.s (.s (.s (.s (.s (.sq (.rg (rgR 0 11)) (.sq (.s (.bj [⟨false,3,3⟩] [] (.jn [⟨false,149,4⟩] [] .tt (.s (.s (.s (.jn [⟨false,161,4⟩] [] .tt .tt))))))) .tt))))))) .tt)) (.jn [⟨false,3,3⟩] [] (.s (.sq (.s (.sq (.s (.bj [⟨false,3,3⟩,⟨false,24,3⟩] [] (.s (.s (.jn [⟨false,192,4⟩] [] .tt (.s (.jn [⟨false,197,4⟩] [] .tt (.sq (.jn [⟨false,3,3⟩] [] .tt .tt) .tt)))))))) (.s (.sq (.s (.s (.jn [⟨false,26,3⟩,⟨false,27,3⟩] [] (.s (.sq (.s (.s (.s (.s (.s (.sq (.rg (rgR 0 11)) .tt)))))) .tt)) .tt))) .tt)))) .tt)) (.s (.s (.s (.sq (.s (.bj [⟨false,3,3⟩] [] (.jn [⟨false,256,4⟩] [] .tt (.s (.s (.s (.jn [⟨false,273,4⟩] [] .tt (.sq (.jn [⟨false,3,3⟩] [] .tt .tt) .tt)))))))) (.sq (.rg (rgR 0 18)) .tt))))))))))))))))))))
def zpy :List Nat:=[]
def zpz :Ann:=(.s (.sq (.s (.sq (.s (.s (.s (.jn [⟨false,6,51⟩] [] .tt .tt)))) .tt)) .tt))
def zyp :List Nat:=[]
def zyq :Ann:=(.s (.s (.s (.sq (.s (.bk (.lp [⟨false,5,3⟩,⟨false,6,51⟩] [] .tt))) (.s (.sq (.bk (.lp [⟨false,7,3⟩] [] .tt)) .tt))))))
def zwi :List Nat:=[]
def zwj :Ann:=(.s (.s (.s (.jn [⟨false,8,172⟩,⟨false,9,172⟩] [] .tt (.jn [⟨false,8,172⟩,⟨false,9,172⟩] [] .tt (.s (.sq (.s (.bk (.lp [⟨false,8,172⟩,⟨false,10,51⟩,⟨false,11,3⟩] [] (.s (.sq (.bj [⟨false,8,172⟩,⟨false,10,51⟩] [] .tt) .tt))))) .tt)))))))
def zmv :List Nat:=[]
def zmw :Ann:=.tt
def zty :List Nat:=[]
def ztz :Ann:=.tt
def znr :List Nat:=[]
def zns :Ann:=(.s (.s (.s (.jn [⟨false,0,9⟩] [] .tt (.s (.jn [⟨false,3,21⟩,⟨false,4,3⟩,⟨false,5,4⟩] [] .tt (.sq (.bk (.lp [⟨false,3,21⟩,⟨false,4,3⟩] [] (.s (.sq (.bj [⟨false,3,21⟩] [] .tt) .tt)))) .tt)))))))
def zli :List Nat:=[]
def zlj :Ann:=.tt
def zwk :List Nat:=[]
def zwl :Ann:=.tt
def zua :List Nat:=[]
def zub :Ann:=(.s (.s (.jn [⟨false,9,172⟩,⟨false,10,172⟩] [] .tt (.jn [⟨false,9,172⟩,⟨false,10,172⟩] [] .tt .tt))))
def zuc :List Nat:=[]
def zud :Ann:=.tt
def zqa :List Nat:=[]
def zqb :Ann:=.tt
def znt :List Nat:=[]
def znu :Ann:=(.s (.sq (.bk (.lp [⟨false,1,51⟩,⟨false,4,3⟩] [] (.s (.bk (.s (.s (.s (.s (.s (.sq (.rg (rgR 0 15)) (.sq (.rg (rgR 0 15)) (.sq (.rg (rgR 0 15)) (.sq (.rg (rgR 0 15)) .tt))))))))))))) (.s (.jn [⟨false,4,3⟩,⟨false,12,148⟩] [] (.s (.sq (.s (.s (.s (.sq (.rg (rgR 0 15)) (.sq (.rg (rgR 0 15)) .tt))))) .tt)) (.jn [⟨false,4,3⟩,⟨false,12,148⟩] [] (.s (.sq (.s (.s (.sq (.rg (rgR 0 15)) .tt))) .tt)) .tt)))))
def zpf :List Nat:=[]
def zpg :Ann:=(.s (.jn [] [] .tt (.s (.s (.jn [⟨false,1,51⟩] [] .tt (.jn [⟨false,13,3⟩] [] (.s (.sq (.s (.s (.s (.sq (.bk (.lp [⟨false,1,51⟩,⟨false,13,3⟩] [] .tt)) .tt)))) (.s (.sq (.bk (.lp [⟨false,1,51⟩,⟨false,13,3⟩] [] .tt)) .tt)))) .tt))))))
def zbi1 :List Nat:=[]
def zbj1 :Ann:=.tt
def zmx :List Nat:=[]
def zmy :Ann:=.tt
def zsu :List Nat:=[]
def zsv :Ann:=(.s (.jn [⟨false,5,3⟩,⟨false,6,5⟩] [] (.s (.sq (.s (.jn [⟨false,17,3⟩] [] .tt (.jn [⟨false,17,3⟩] [] .tt (.s (.s (.sq (.jn [⟨false,5,3⟩] [] .tt .tt) (.jn [⟨false,5,3⟩] [] .tt .tt))))))) .tt)) (.sq (.s (.bk (.jn [⟨false,75,4⟩] [] .tt (.sq (.jn [⟨false,0,74⟩] [] .tt (.s (.jn [⟨false,19,5⟩] [] .tt (.s (.jn [⟨false,0,74⟩] [] (.s (.sq (.s (.s (.s (.jn [⟨false,0,74⟩,⟨false,20,3⟩] [] .tt (.s (.bk (.lp [⟨false,0,74⟩,⟨false,114,3⟩] [] .tt))))))) .tt)) (.s (.s (.jn [⟨false,22,3⟩] [] .tt (.jn [⟨false,19,5⟩,⟨false,22,3⟩] [] .tt .tt))))))))) (.s (.sq (.jn [⟨false,0,74⟩] [] .tt (.jn [⟨false,0,74⟩] [] (.s (.sq (.s (.sq (.s (.bk (.lp [⟨false,0,74⟩,⟨false,191,3⟩] [] .tt))) (.s (.bk (.lp [⟨false,0,74⟩,⟨false,203,3⟩] [] .tt))))) .tt)) (.sq (.s (.sq (.s (.s (.s (.s (.s (.sq (.s (.bk (.lp [⟨false,0,74⟩,⟨false,240,3⟩] [] .tt))) (.sq (.s (.bk (.lp [⟨false,0,74⟩,⟨false,247,3⟩] [] .tt))) (.s (.bk (.lp [⟨false,0,74⟩,⟨false,261,3⟩] [] .tt)))))))))) .tt)) .tt))) .tt)))))) .tt)))
def zbk1 :List Nat:=[]
def zbl1 :Ann:=(.s (.jn [⟨false,0,51⟩,⟨false,2,3⟩] [] .tt (.jn [⟨false,0,51⟩,⟨false,2,3⟩] [] .tt .tt)))
def zqc :List Nat:=[]
def zqd :Ann:=(.s (.sq (.s (.sq (.s (.s (.bk (.lp [⟨false,3,3⟩] [] .tt)))) .tt)) .tt))
def zqe :List Nat:=[]
def zqf :Ann:=.tt
def zmz :List Nat:=[]
def zna :Ann:=(.bk (.s (.s (.s (.sq (.sq (.bk (.lp [⟨false,1,3⟩] [] .tt)) .tt) (.s (.sq (.sq (.bk (.lp [⟨false,1,3⟩] [] .tt)) .tt) .tt)))))))
def zkn :List Nat:=[]
def zko :Ann:=(.s (.s (.sq (.s (.bj [⟨false,6,3⟩,⟨false,7,3⟩] [] .tt)) (.s (.s (.s (.jn [⟨false,5,3⟩,⟨false,8,51⟩,⟨false,9,51⟩,⟨false,10,3⟩] [] .tt .tt)))))))
def zzo :List Nat:=[]
def zzp :Ann:=.tt
def zwm :List Nat:=[]
def zwn :Ann:=(.s (.s (.s (.sq (.s (.bk (.lp [⟨false,5,172⟩,⟨false,6,3⟩] [] .tt))) .tt))))
def zxh :List Nat:=[]
def zxi :Ann:=(.s (.sq (.bk (.lp [⟨false,0,172⟩,⟨false,1,3⟩] [] .tt)) (.sq (.bk (.lp [⟨false,0,172⟩,⟨false,1,3⟩] [] .tt)) .tt)))
def zue :List Nat:=[]
def zuf :Ann:=(.s (.s (.sq (.s (.bk (.lp [⟨false,5,3⟩] [] (.s (.sq (.bk (.sq (.sq (.rg (rgR 0 9)) .tt) (.sq (.rg (rgR 0 9)) .tt))) .tt))))) .tt)))
def zxj :List Nat:=[]
def zxk :Ann:=(.s (.s (.s (.sq (.s (.bk (.lp [⟨false,5,172⟩,⟨false,6,2⟩,⟨false,7,3⟩] [] (.s (.sq (.bk (.s (.jn [⟨false,6,2⟩] [] .tt .tt))) .tt))))) .tt))))
def zwo :List Nat:=[]
def zwp :Ann:=(.s (.s (.s (.sq (.s (.bk (.lp [⟨false,5,172⟩,⟨false,6,51⟩,⟨false,7,3⟩] [] .tt))) .tt))))
def zsw :List Nat:=[]
def zsx :Ann:=(.s (.s (.s (.s (.s (.jn [⟨false,3,3⟩,⟨false,4,56⟩] [] (.s (.sq (.s (.s (.s (.s (.jn [⟨false,3,3⟩,⟨false,4,56⟩] [] .tt .tt))))) .tt)) .tt))))))
def zqg :List Nat:=[]
def zqh :Ann:=.tt
def znv :List Nat:=[]
def znw :Ann:=.tt
def zsy :List Nat:=[]
def zsz :Ann:=.tt
def zta :List Nat:=[]
def ztb :Ann:=.tt
def zrg :List Nat:=[]
def zrh :Ann:=.tt
def zqi :List Nat:=[]
def zqj :Ann:=.tt
def ztc :List Nat:=[]
def ztd :Ann:=(.s (.s (.s (.s (.s (.s (.sq (.rg (rgR 0 10)) .tt)))))))
def zlt :List Nat:=[]
def zlu :Ann:=.tt
def zmn :List Nat:=[]
def zmo :Ann:=.tt
def zlv :List Nat:=[]
def zlw :Ann:=.tt
def zlx :List Nat:=[]
def zly :Ann:=.tt
def zug :List Nat:=[]
def zuh :Ann:=.tt
def zvm :List Nat:=[]
def zvn :Ann:=(.sq (.bk (.lp [] [] (.sq (.sq (.rg (rgR 0 18)) .tt) .tt))) .tt)
def zqk :List Nat:=[]
def zql :Ann:=(.s (.jn [⟨false,4,3⟩] [] (.sq (.rg (rgR 0 14)) .tt) (.s (.s (.s (.sq (.s (.bk (.lp [⟨false,5,3⟩,⟨false,6,3⟩,⟨false,7,67⟩] [] (.s (.sq (.bk (.s (.s (.s (.s (.jn [] [] .tt .tt)))))) .tt))))) (.sq (.bk (.lp [⟨false,6,3⟩,⟨false,7,67⟩] [] (.s (.bk (.s (.s (.s (.jn [] [] .tt .tt)))))))) (.s (.jn [] [] .tt .tt)))))))))
def zph :List Nat:=[]
def zpi :Ann:=(.s (.s (.s (.sq (.bj [⟨false,4,3⟩,⟨false,6,67⟩] [] (.lp [⟨false,4,3⟩,⟨false,6,67⟩] [] (.s (.sq (.bk (.sq (.s (.sq (.s (.sq (.bk (.lp [⟨false,4,3⟩,⟨false,6,67⟩] [] .tt)) .tt)) .tt)) .tt)) .tt)))) (.s (.s (.sq (.bk (.lp [⟨false,4,3⟩,⟨false,5,3⟩,⟨false,6,67⟩] [] .tt)) (.sq (.bk (.lp [⟨false,5,3⟩,⟨false,6,67⟩] [] (.s (.bk (.s (.s (.jn [⟨false,5,3⟩] [] .tt .tt))))))) .tt))))))))
def znb :List Nat:=[]
def znc :Ann:=.tt
def zxl :List Nat:=[]
def zxm :Ann:=(.s (.sq (.bk (.lp [⟨false,0,172⟩] [] .tt)) .tt))
def zrx :List Nat:=[]
def zry :Ann:=(.s (.s (.s (.s (.sq (.s (.bk (.sq (.bk (.sq (.bj [⟨false,0,9⟩,⟨false,5,3⟩,⟨false,6,3⟩] [] (.sq (.bk (.sq (.sq (.jn [⟨false,13,4⟩] [] .tt .tt) (.sq (.jn [⟨false,16,4⟩] [] .tt .tt) (.jn [⟨false,19,4⟩] [] .tt .tt))) .tt)) (.jn [⟨false,5,3⟩] [] .tt .tt))) (.sq (.s (.jn [⟨false,7,3⟩] [] .tt .tt)) .tt))) .tt))) .tt)))))
def zqm :List Nat:=[]
def zqn :Ann:=(.s (.s (.s (.sq (.s (.bj [⟨false,4,4⟩,⟨false,7,3⟩] [] .tt)) (.s (.s (.s (.jn [⟨false,6,4⟩,⟨false,7,3⟩,⟨false,10,51⟩,⟨false,11,3⟩,⟨false,12,5⟩] [] .tt (.s (.s (.s (.s (.s (.s (.sq (.bj [⟨false,2,51⟩,⟨false,5,4⟩,⟨false,7,3⟩,⟨false,9,4⟩,⟨false,13,4⟩,⟨false,14,4⟩,⟨false,15,3⟩,⟨false,16,3⟩,⟨false,17,3⟩] [] (.lp [⟨false,2,51⟩,⟨false,5,4⟩,⟨false,7,3⟩,⟨false,9,4⟩,⟨false,13,4⟩,⟨false,14,4⟩,⟨false,15,3⟩,⟨false,16,3⟩,⟨false,17,3⟩] [] (.s (.sq (.bj [⟨false,2,51⟩,⟨false,5,4⟩,⟨false,9,4⟩,⟨false,13,4⟩,⟨false,14,4⟩,⟨false,15,3⟩,⟨false,16,3⟩,⟨false,17,3⟩] [] .tt) .tt)))) (.s (.jn [⟨false,17,3⟩] [] .tt (.jn [⟨false,16,3⟩,⟨false,17,3⟩] [] .tt (.jn [⟨false,7,3⟩,⟨false,9,4⟩,⟨false,17,3⟩] [] (.s (.sq (.s (.s (.s (.sq (.s (.bj [⟨false,7,3⟩,⟨false,19,3⟩] [] .tt)) (.s (.s (.sq (.bk (.lp [⟨false,7,3⟩,⟨false,9,4⟩,⟨false,20,3⟩] [] (.s (.sq (.bj [⟨false,9,4⟩,⟨false,20,3⟩] [] .tt) .tt)))) .tt))))))) .tt)) (.jn [⟨false,3,3⟩] [] .tt .tt))))))))))))))))))))
def zrz :List Nat:=[]
def zsa :Ann:=(.s (.sq (.rg (rgR 0 12)) (.s (.s (.sq (.bk (.lp [⟨false,2,51⟩,⟨false,3,3⟩] [] .tt)) (.jn [⟨false,2,51⟩] [] .tt (.sq (.bk (.lp [⟨false,2,51⟩,⟨false,3,3⟩] [] .tt)) (.sq (.bk (.lp [⟨false,2,51⟩,⟨false,3,3⟩] [] .tt)) (.s (.s (.s (.s (.jn [⟨false,2,51⟩,⟨false,3,3⟩] [] .tt (.jn [⟨false,3,3⟩] [] .tt (.s (.jn [⟨false,2,51⟩,⟨false,3,3⟩,⟨false,17,56⟩] [] .tt (.s (.sq (.rg (rgR 0 22)) (.jn [⟨false,18,51⟩] [] (.s (.sq (.rg (rgR 0 13)) .tt)) .tt)))))))))))))))))))
def zoq :List Nat:=[]
def zor :Ann:=(.s (.s (.s (.s (.s (.sq (.s (.bj [⟨false,5,3⟩] [] .tt)) (.s (.s (.sq (.bj [⟨false,5,3⟩,⟨false,6,4⟩,⟨false,7,4⟩] [] (.lp [⟨false,5,3⟩,⟨false,6,4⟩,⟨false,7,4⟩] [] (.s (.sq (.bj [⟨false,6,4⟩,⟨false,7,4⟩] [] (.sq (.bk (.s (.s (.s (.s (.s (.sq (.s (.s (.sq (.s (.sq (.sq (.rg (rgR 0 12)) .tt) .tt)) .tt))) .tt))))))) .tt)) .tt)))) (.s (.jn [] [] .tt (.sq (.s (.sq (.s (.s (.s (.sq (.s (.bj [⟨false,5,3⟩,⟨false,8,3⟩] [] .tt)) (.s (.s (.sq (.bk (.lp [⟨false,5,3⟩,⟨false,9,3⟩] [] (.s (.sq (.bj [⟨false,9,3⟩] [] .tt) .tt)))) .tt))))))) .tt)) .tt))))))))))))
def zku :List Nat:=[]
def zkv :Ann:=(.s (.gd 0 (.s (.sq (.rg (rgR 0 22)) (.sq (.s (.sq (.rg (rgR 0 13)) .tt)) .tt))) (.gd 1 (.s (.sq (.rg (rgR 0 12)) (.s (.s (.s (.sq (.rg (rgR 0 22)) (.sq (.s (.sq (.rg (rgR 0 13)) .tt)) .tt))))))) (.s (.s (.s (.s (.s (.s (.sq (.bk (.lp [⟨false,6,3⟩] [] (.s (.bk (.s (.jn [⟨false,8,3⟩] [] (.sq (.rg (rgR 0 7)) (.s (.rg (rgR 0 8)))) .tt)))))) (.sq (.bk (.lp [⟨false,6,3⟩] [] (.s (.bk (.s (.jn [⟨false,9,3⟩] [] (.sq (.rg (rgR 0 8)) (.s (.rg (rgR 0 9)))) .tt)))))) (.s (.jn [⟨false,6,3⟩] [] .tt (.sq (.sq (.rg (rgR 0 13)) .tt) (.s (.s (.jn [⟨false,6,3⟩,⟨false,7,51⟩] [] (.s (.sq (.s (.s (.sq (.rg (rgR 0 13)) .tt))) .tt)) (.jn [⟨false,6,3⟩] [] .tt (.s (.s (.s (.sq (.rg (rgR 0 12)) (.s (.s (.s (.sq (.rg (rgR 0 22)) (.sq (.s (.sq (.rg (rgR 0 13)) .tt)) .tt)))))))))))))))))))))))))))
def znx :List Nat:=[]
def zny :Ann:=.tt
def zos :List Nat:=[]
def zot :Ann:=(.s (.s (.s (.jn [⟨false,6,48⟩] [] .tt (.sq (.bk (.s (.s (.s (.sq (.jn [⟨false,1,3⟩,⟨false,6,48⟩] [] .tt .tt) .tt))))) .tt)))))
def znz :List Nat:=[]
def zoa :Ann:=.tt
def zri :List Nat:=[]
def zrj :Ann:=.tt
def zlk :List Nat:=[]
def zll :Ann:=(.s (.sq (.s (.bk (.lp [⟨false,5,3⟩] [] (.s (.sq (.bk (.s (.sq (.rg (rgR 0 8)) (.sq (.sq (.rg (rgR 0 9)) .tt) .tt)))) .tt))))) .tt))
def zhw :List Nat:=[]
def zhx :Ann:=(.s (.s (.sq (.s (.bk (.lp [⟨false,6,3⟩] [] (.s (.sq (.bk (.s (.jn [⟨false,7,5⟩] [] .tt .tt))) .tt))))) .tt)))
def zwq :List Nat:=[]
def zwr :Ann:=(.s (.s (.jn [⟨false,3,51⟩] [] .tt .tt)))
def zws :List Nat:=[]
def zwt :Ann:=.tt
def zja :List Nat:=[]
def zjb :Ann:=(.s (.s (.s (.s (.sq (.s (.bk (.lp [⟨false,3,3⟩,⟨false,4,51⟩] [] .tt))) (.sq (.bk (.lp [⟨false,3,3⟩,⟨false,4,51⟩] [] .tt)) .tt))))))
def zte :List Nat:=[]
def ztf :Ann:=.tt
end Lf

set_option maxRecDepth 100000
namespace Lf
open Go Go.Proofs
theorem zpp1 {α:Type _} {l:List α} {i:Nat} (h:l.length≤i):nth l i=none:=by rw [zef];exact List.getElem?_eq_none h
theorem tyS {a e:Ty} {p:Ty→Prop} (h:some a=some e) (x:p a):p e:=Option.some.inj h▸x
theorem tyN {e:Ty} {q:Prop} (h:(none:Option Ty)=some e):q:=by cases h
theorem tyAll {p:Nat→Ty→Prop} (h0:p 0 ty0) (h2:p 2 ty2) (h3:p 3 ty3) (h4:p 4 ty4) (h5:p 5 ty5) (h9:p 9 ty9) (h12:p 12 ty12) (h20:p 20 ty20) (h21:p 21 ty21) (h22:p 22 ty22) (h23:p 23 ty23) (h25:p 25 ty25) (h26:p 26 ty26) (h31:p 31 ty31) (h33:p 33 ty33) (h36:p 36 ty36) (h39:p 39 ty39) (h40:p 40 ty40) (h44:p 44 ty44) (h48:p 48 ty48) (h51:p 51 ty51) (h52:p 52 ty52) (h56:p 56 ty56) (h57:p 57 ty57) (h60:p 60 ty60) (h62:p 62 ty62) (h64:p 64 ty64) (h67:p 67 ty67) (h69:p 69 ty69) (h73:p 73 ty73) (h74:p 74 ty74) (h76:p 76 ty76) (h80:p 80 ty80) (h82:p 82 ty82) (h85:p 85 ty85) (h92:p 92 ty92) (h96:p 96 ty96) (h99:p 99 ty99) (h102:p 102 ty102) (h107:p 107 ty107) (h108:p 108 ty108) (h109:p 109 ty109) (h114:p 114 ty114) (h120:p 120 ty120) (h122:p 122 ty122) (h123:p 123 ty123) (h125:p 125 ty125) (h132:p 132 ty132) (h135:p 135 ty135) (h137:p 137 ty137) (h140:p 140 ty140) (h142:p 142 ty142) (h143:p 143 ty143) (h144:p 144 ty144) (h146:p 146 ty146) (h148:p 148 ty148) (h149:p 149 ty149) (h151:p 151 ty151) (h158:p 158 ty158) (h159:p 159 ty159) (h162:p 162 ty162) (h163:p 163 ty163) (h165:p 165 ty165) (h169:p 169 ty169) (h172:p 172 ty172) (h178:p 178 ty178) (h182:p 182 ty182) (h183:p 183 ty183) (h191:p 191 ty191) (h193:p 193 ty193) (h194:p 194 ty194) (h202:p 202 ty202) (h204:p 204 ty204) (h206:p 206 ty206) (h208:p 208 ty208) (h211:p 211 ty211) (h213:p 213 ty213) (h216:p 216 ty216) (h218:p 218 ty218) (h220:p 220 ty220) (h223:p 223 ty223) (h228:p 228 ty228) (h229:p 229 ty229) (h232:p 232 ty232) (h233:p 233 ty233) (h237:p 237 ty237) (h239:p 239 ty239) (h240:p 240 ty240) (h242:p 242 ty242):∀t e,tyAt t=some e→p t e:=by
 intro t e h
 by_cases hlt:t<256
 ·match t,hlt,h with
  | 0,_,h=>exact tyS h h0
  | 1,_,h=>exact tyN h
  | 2,_,h=>exact tyS h h2
  | 3,_,h=>exact tyS h h3
  | 4,_,h=>exact tyS h h4
  | 5,_,h=>exact tyS h h5
  | 6,_,h=>exact tyN h
  | 7,_,h=>exact tyN h
  | 8,_,h=>exact tyN h
  | 9,_,h=>exact tyS h h9
  | 10,_,h=>exact tyN h
  | 11,_,h=>exact tyN h
  | 12,_,h=>exact tyS h h12
  | 13,_,h=>exact tyN h
  | 14,_,h=>exact tyN h
  | 15,_,h=>exact tyN h
  | 16,_,h=>exact tyN h
  | 17,_,h=>exact tyN h
  | 18,_,h=>exact tyN h
  | 19,_,h=>exact tyN h
  | 20,_,h=>exact tyS h h20
  | 21,_,h=>exact tyS h h21
  | 22,_,h=>exact tyS h h22
  | 23,_,h=>exact tyS h h23
  | 24,_,h=>exact tyN h
  | 25,_,h=>exact tyS h h25
  | 26,_,h=>exact tyS h h26
  | 27,_,h=>exact tyN h
  | 28,_,h=>exact tyN h
  | 29,_,h=>exact tyN h
  | 30,_,h=>exact tyN h
  | 31,_,h=>exact tyS h h31
  | 32,_,h=>exact tyN h
  | 33,_,h=>exact tyS h h33
  | 34,_,h=>exact tyN h
  | 35,_,h=>exact tyN h
  | 36,_,h=>exact tyS h h36
  | 37,_,h=>exact tyN h
  | 38,_,h=>exact tyN h
  | 39,_,h=>exact tyS h h39
  | 40,_,h=>exact tyS h h40
  | 41,_,h=>exact tyN h
  | 42,_,h=>exact tyN h
  | 43,_,h=>exact tyN h
  | 44,_,h=>exact tyS h h44
  | 45,_,h=>exact tyN h
  | 46,_,h=>exact tyN h
  | 47,_,h=>exact tyN h
  | 48,_,h=>exact tyS h h48
  | 49,_,h=>exact tyN h
  | 50,_,h=>exact tyN h
  | 51,_,h=>exact tyS h h51
  | 52,_,h=>exact tyS h h52
  | 53,_,h=>exact tyN h
  | 54,_,h=>exact tyN h
  | 55,_,h=>exact tyN h
  | 56,_,h=>exact tyS h h56
  | 57,_,h=>exact tyS h h57
  | 58,_,h=>exact tyN h
  | 59,_,h=>exact tyN h
  | 60,_,h=>exact tyS h h60
  | 61,_,h=>exact tyN h
  | 62,_,h=>exact tyS h h62
  | 63,_,h=>exact tyN h
  | 64,_,h=>exact tyS h h64
  | 65,_,h=>exact tyN h
  | 66,_,h=>exact tyN h
  | 67,_,h=>exact tyS h h67
  | 68,_,h=>exact tyN h
  | 69,_,h=>exact tyS h h69
  | 70,_,h=>exact tyN h
  | 71,_,h=>exact tyN h
  | 72,_,h=>exact tyN h
  | 73,_,h=>exact tyS h h73
  | 74,_,h=>exact tyS h h74
  | 75,_,h=>exact tyN h
  | 76,_,h=>exact tyS h h76
  | 77,_,h=>exact tyN h
  | 78,_,h=>exact tyN h
  | 79,_,h=>exact tyN h
  | 80,_,h=>exact tyS h h80
  | 81,_,h=>exact tyN h
  | 82,_,h=>exact tyS h h82
  | 83,_,h=>exact tyN h
  | 84,_,h=>exact tyN h
  | 85,_,h=>exact tyS h h85
  | 86,_,h=>exact tyN h
  | 87,_,h=>exact tyN h
  | 88,_,h=>exact tyN h
  | 89,_,h=>exact tyN h
  | 90,_,h=>exact tyN h
  | 91,_,h=>exact tyN h
  | 92,_,h=>exact tyS h h92
  | 93,_,h=>exact tyN h
  | 94,_,h=>exact tyN h
  | 95,_,h=>exact tyN h
  | 96,_,h=>exact tyS h h96
  | 97,_,h=>exact tyN h
  | 98,_,h=>exact tyN h
  | 99,_,h=>exact tyS h h99
  | 100,_,h=>exact tyN h
  | 101,_,h=>exact tyN h
  | 102,_,h=>exact tyS h h102
  | 103,_,h=>exact tyN h
  | 104,_,h=>exact tyN h
  | 105,_,h=>exact tyN h
  | 106,_,h=>exact tyN h
  | 107,_,h=>exact tyS h h107
  | 108,_,h=>exact tyS h h108
  | 109,_,h=>exact tyS h h109
  | 110,_,h=>exact tyN h
  | 111,_,h=>exact tyN h
  | 112,_,h=>exact tyN h
  | 113,_,h=>exact tyN h
  | 114,_,h=>exact tyS h h114
  | 115,_,h=>exact tyN h
  | 116,_,h=>exact tyN h
  | 117,_,h=>exact tyN h
  | 118,_,h=>exact tyN h
  | 119,_,h=>exact tyN h
  | 120,_,h=>exact tyS h h120
  | 121,_,h=>exact tyN h
  | 122,_,h=>exact tyS h h122
  | 123,_,h=>exact tyS h h123
  | 124,_,h=>exact tyN h
  | 125,_,h=>exact tyS h h125
  | 126,_,h=>exact tyN h
  | 127,_,h=>exact tyN h
  | 128,_,h=>exact tyN h
  | 129,_,h=>exact tyN h
  | 130,_,h=>exact tyN h
  | 131,_,h=>exact tyN h
  | 132,_,h=>exact tyS h h132
  | 133,_,h=>exact tyN h
  | 134,_,h=>exact tyN h
  | 135,_,h=>exact tyS h h135
  | 136,_,h=>exact tyN h
  | 137,_,h=>exact tyS h h137
  | 138,_,h=>exact tyN h
  | 139,_,h=>exact tyN h
  | 140,_,h=>exact tyS h h140
  | 141,_,h=>exact tyN h
  | 142,_,h=>exact tyS h h142
  | 143,_,h=>exact tyS h h143
  | 144,_,h=>exact tyS h h144
  | 145,_,h=>exact tyN h
  | 146,_,h=>exact tyS h h146
  | 147,_,h=>exact tyN h
  | 148,_,h=>exact tyS h h148
  | 149,_,h=>exact tyS h h149
  | 150,_,h=>exact tyN h
  | 151,_,h=>exact tyS h h151
  | 152,_,h=>exact tyN h
  | 153,_,h=>exact tyN h
  | 154,_,h=>exact tyN h
  | 155,_,h=>exact tyN h
  | 156,_,h=>exact tyN h
  | 157,_,h=>exact tyN h
  | 158,_,h=>exact tyS h h158
  | 159,_,h=>exact tyS h h159
  | 160,_,h=>exact tyN h
  | 161,_,h=>exact tyN h
  | 162,_,h=>exact tyS h h162
  | 163,_,h=>exact tyS h h163
  | 164,_,h=>exact tyN h
  | 165,_,h=>exact tyS h h165
  | 166,_,h=>exact tyN h
  | 167,_,h=>exact tyN h
  | 168,_,h=>exact tyN h
  | 169,_,h=>exact tyS h h169
  | 170,_,h=>exact tyN h
  | 171,_,h=>exact tyN h
  | 172,_,h=>exact tyS h h172
  | 173,_,h=>exact tyN h
  | 174,_,h=>exact tyN h
  | 175,_,h=>exact tyN h
  | 176,_,h=>exact tyN h
  | 177,_,h=>exact tyN h
  | 178,_,h=>exact tyS h h178
  | 179,_,h=>exact tyN h
  | 180,_,h=>exact tyN h
  | 181,_,h=>exact tyN h
  | 182,_,h=>exact tyS h h182
  | 183,_,h=>exact tyS h h183
  | 184,_,h=>exact tyN h
  | 185,_,h=>exact tyN h
  | 186,_,h=>exact tyN h
  | 187,_,h=>exact tyN h
  | 188,_,h=>exact tyN h
  | 189,_,h=>exact tyN h
  | 190,_,h=>exact tyN h
  | 191,_,h=>exact tyS h h191
  | 192,_,h=>exact tyN h
  | 193,_,h=>exact tyS h h193
  | 194,_,h=>exact tyS h h194
  | 195,_,h=>exact tyN h
  | 196,_,h=>exact tyN h
  | 197,_,h=>exact tyN h
  | 198,_,h=>exact tyN h
  | 199,_,h=>exact tyN h
  | 200,_,h=>exact tyN h
  | 201,_,h=>exact tyN h
  | 202,_,h=>exact tyS h h202
  | 203,_,h=>exact tyN h
  | 204,_,h=>exact tyS h h204
  | 205,_,h=>exact tyN h
  | 206,_,h=>exact tyS h h206
  | 207,_,h=>exact tyN h
  | 208,_,h=>exact tyS h h208
  | 209,_,h=>exact tyN h
  | 210,_,h=>exact tyN h
  | 211,_,h=>exact tyS h h211
  | 212,_,h=>exact tyN h
  | 213,_,h=>exact tyS h h213
  | 214,_,h=>exact tyN h
  | 215,_,h=>exact tyN h
  | 216,_,h=>exact tyS h h216
  | 217,_,h=>exact tyN h
  | 218,_,h=>exact tyS h h218
  | 219,_,h=>exact tyN h
  | 220,_,h=>exact tyS h h220
  | 221,_,h=>exact tyN h
  | 222,_,h=>exact tyN h
  | 223,_,h=>exact tyS h h223
  | 224,_,h=>exact tyN h
  | 225,_,h=>exact tyN h
  | 226,_,h=>exact tyN h
  | 227,_,h=>exact tyN h
  | 228,_,h=>exact tyS h h228
  | 229,_,h=>exact tyS h h229
  | 230,_,h=>exact tyN h
  | 231,_,h=>exact tyN h
  | 232,_,h=>exact tyS h h232
  | 233,_,h=>exact tyS h h233
  | 234,_,h=>exact tyN h
  | 235,_,h=>exact tyN h
  | 236,_,h=>exact tyN h
  | 237,_,h=>exact tyS h h237
  | 238,_,h=>exact tyN h
  | 239,_,h=>exact tyS h h239
  | 240,_,h=>exact tyS h h240
  | 241,_,h=>exact tyN h
  | 242,_,h=>exact tyS h h242
  | 243,_,h=>exact tyN h
  | 244,_,h=>exact tyN h
  | 245,_,h=>exact tyN h
  | 246,_,h=>exact tyN h
  | 247,_,h=>exact tyN h
  | 248,_,h=>exact tyN h
  | 249,_,h=>exact tyN h
  | 250,_,h=>exact tyN h
  | 251,_,h=>exact tyN h
  | 252,_,h=>exact tyN h
  | 253,_,h=>exact tyN h
  | 254,_,h=>exact tyN h
  | 255,_,h=>exact tyN h
  | n+256,hlt,_=>omega
 ·have hl:tyRows.length=16:=rfl
  have:nth tyRows (t / 16)=none:=zpp1 (l:=tyRows) (i:=t / 16) (by rw [hl];omega)
  unfold tyAt at h
  rw [this] at h
  cases h
theorem zbk2 (x:Leaf):(zai x.v).length=1∧∀cs,x.v≠ .agg cs:=by
 obtain ⟨v,h⟩:=x
 cases v<;>first | exact ⟨rfl,fun cs h=>by cases h⟩ | cases h
theorem tb_ok :tb.Ok Tryz.prog where
 und:=tyAll (p:=fun t e=>Tryz.prog.underlying t=some e.und) Tryz.underlying0 Tryz.underlying2 Tryz.underlying3 Tryz.underlying4 Tryz.underlying5 Tryz.underlying9 Tryz.underlying12 Tryz.underlying20 Tryz.underlying21 Tryz.underlying22 Tryz.underlying23 Tryz.underlying25 Tryz.underlying26 Tryz.underlying31 Tryz.underlying33 Tryz.underlying36 Tryz.underlying39 Tryz.underlying40 Tryz.underlying44 Tryz.underlying48 Tryz.underlying51 Tryz.underlying52 Tryz.underlying56 Tryz.underlying57 Tryz.underlying60 Tryz.underlying62 Tryz.underlying64 Tryz.underlying67 Tryz.underlying69 Tryz.underlying73 Tryz.underlying74 Tryz.underlying76 Tryz.underlying80 Tryz.underlying82 Tryz.underlying85 Tryz.underlying92 Tryz.underlying96 Tryz.underlying99 Tryz.underlying102 Tryz.underlying107 Tryz.underlying108 Tryz.underlying109 Tryz.underlying114 Tryz.underlying120 Tryz.underlying122 Tryz.underlying123 Tryz.underlying125 Tryz.underlying132 Tryz.underlying135 Tryz.underlying137 Tryz.underlying140 Tryz.underlying142 Tryz.underlying143 Tryz.underlying144 Tryz.underlying146 Tryz.underlying148 Tryz.underlying149 Tryz.underlying151 Tryz.underlying158 Tryz.underlying159 Tryz.underlying162 Tryz.underlying163 Tryz.underlying165 Tryz.underlying169 Tryz.underlying172 Tryz.underlying178 Tryz.underlying182 Tryz.underlying183 Tryz.underlying191 Tryz.underlying193 Tryz.underlying194 Tryz.underlying202 Tryz.underlying204 Tryz.underlying206 Tryz.underlying208 Tryz.underlying211 Tryz.underlying213 Tryz.underlying216 Tryz.underlying218 Tryz.underlying220 Tryz.underlying223 Tryz.underlying228 Tryz.underlying229 Tryz.underlying232 Tryz.underlying233 Tryz.underlying237 Tryz.underlying239 Tryz.underlying240 Tryz.underlying242
 info:=tyAll (p:=fun t e=>∃i,Tryz.prog.info? t=some i∧i.size=e.size∧i.bytes=e.bytes∧i.zero=some e.zero) ⟨Tryz.t0,Tryz.type0,rfl,rfl,rfl⟩ ⟨Tryz.t2,Tryz.type2,rfl,rfl,rfl⟩ ⟨Tryz.t3,Tryz.type3,rfl,rfl,rfl⟩ ⟨Tryz.t4,Tryz.type4,rfl,rfl,rfl⟩ ⟨Tryz.t5,Tryz.type5,rfl,rfl,rfl⟩ ⟨Tryz.t9,Tryz.type9,rfl,rfl,rfl⟩ ⟨Tryz.t12,Tryz.type12,rfl,rfl,rfl⟩ ⟨Tryz.t20,Tryz.type20,rfl,rfl,rfl⟩ ⟨Tryz.t21,Tryz.type21,rfl,rfl,rfl⟩ ⟨Tryz.t22,Tryz.type22,rfl,rfl,rfl⟩ ⟨Tryz.t23,Tryz.type23,rfl,rfl,rfl⟩ ⟨Tryz.t25,Tryz.type25,rfl,rfl,rfl⟩ ⟨Tryz.t26,Tryz.type26,rfl,rfl,rfl⟩ ⟨Tryz.t31,Tryz.type31,rfl,rfl,rfl⟩ ⟨Tryz.t33,Tryz.type33,rfl,rfl,rfl⟩ ⟨Tryz.t36,Tryz.type36,rfl,rfl,rfl⟩ ⟨Tryz.t39,Tryz.type39,rfl,rfl,rfl⟩ ⟨Tryz.t40,Tryz.type40,rfl,rfl,rfl⟩ ⟨Tryz.t44,Tryz.type44,rfl,rfl,rfl⟩ ⟨Tryz.t48,Tryz.type48,rfl,rfl,rfl⟩ ⟨Tryz.t51,Tryz.type51,rfl,rfl,rfl⟩ ⟨Tryz.t52,Tryz.type52,rfl,rfl,rfl⟩ ⟨Tryz.t56,Tryz.type56,rfl,rfl,rfl⟩ ⟨Tryz.t57,Tryz.type57,rfl,rfl,rfl⟩ ⟨Tryz.t60,Tryz.type60,rfl,rfl,rfl⟩ ⟨Tryz.t62,Tryz.type62,rfl,rfl,rfl⟩ ⟨Tryz.t64,Tryz.type64,rfl,rfl,rfl⟩ ⟨Tryz.t67,Tryz.type67,rfl,rfl,rfl⟩ ⟨Tryz.t69,Tryz.type69,rfl,rfl,rfl⟩ ⟨Tryz.t73,Tryz.type73,rfl,rfl,rfl⟩ ⟨Tryz.t74,Tryz.type74,rfl,rfl,rfl⟩ ⟨Tryz.t76,Tryz.type76,rfl,rfl,rfl⟩ ⟨Tryz.t80,Tryz.type80,rfl,rfl,rfl⟩ ⟨Tryz.t82,Tryz.type82,rfl,rfl,rfl⟩ ⟨Tryz.t85,Tryz.type85,rfl,rfl,rfl⟩ ⟨Tryz.t92,Tryz.type92,rfl,rfl,rfl⟩ ⟨Tryz.t96,Tryz.type96,rfl,rfl,rfl⟩ ⟨Tryz.t99,Tryz.type99,rfl,rfl,rfl⟩ ⟨Tryz.t102,Tryz.type102,rfl,rfl,rfl⟩ ⟨Tryz.t107,Tryz.type107,rfl,rfl,rfl⟩ ⟨Tryz.t108,Tryz.type108,rfl,rfl,rfl⟩ ⟨Tryz.t109,Tryz.type109,rfl,rfl,rfl⟩ ⟨Tryz.t114,Tryz.type114,rfl,rfl,rfl⟩ ⟨Tryz.t120,Tryz.type120,rfl,rfl,rfl⟩ ⟨Tryz.t122,Tryz.type122,rfl,rfl,rfl⟩ ⟨Tryz.t123,Tryz.type123,rfl,rfl,rfl⟩ ⟨Tryz.t125,Tryz.type125,rfl,rfl,rfl⟩ ⟨Tryz.t132,Tryz.type132,rfl,rfl,rfl⟩ ⟨Tryz.t135,Tryz.type135,rfl,rfl,rfl⟩ ⟨Tryz.t137,Tryz.type137,rfl,rfl,rfl⟩ ⟨Tryz.t140,Tryz.type140,rfl,rfl,rfl⟩ ⟨Tryz.t142,Tryz.type142,rfl,rfl,rfl⟩ ⟨Tryz.t143,Tryz.type143,rfl,rfl,rfl⟩ ⟨Tryz.t144,Tryz.type144,rfl,rfl,rfl⟩ ⟨Tryz.t146,Tryz.type146,rfl,rfl,rfl⟩ ⟨Tryz.t148,Tryz.type148,rfl,rfl,rfl⟩ ⟨Tryz.t149,Tryz.type149,rfl,rfl,rfl⟩ ⟨Tryz.t151,Tryz.type151,rfl,rfl,rfl⟩ ⟨Tryz.t158,Tryz.type158,rfl,rfl,rfl⟩ ⟨Tryz.t159,Tryz.type159,rfl,rfl,rfl⟩ ⟨Tryz.t162,Tryz.type162,rfl,rfl,rfl⟩ ⟨Tryz.t163,Tryz.type163,rfl,rfl,rfl⟩ ⟨Tryz.t165,Tryz.type165,rfl,rfl,rfl⟩ ⟨Tryz.t169,Tryz.type169,rfl,rfl,rfl⟩ ⟨Tryz.t172,Tryz.type172,rfl,rfl,rfl⟩ ⟨Tryz.t178,Tryz.type178,rfl,rfl,rfl⟩ ⟨Tryz.t182,Tryz.type182,rfl,rfl,rfl⟩ ⟨Tryz.t183,Tryz.type183,rfl,rfl,rfl⟩ ⟨Tryz.t191,Tryz.type191,rfl,rfl,rfl⟩ ⟨Tryz.t193,Tryz.type193,rfl,rfl,rfl⟩ ⟨Tryz.t194,Tryz.type194,rfl,rfl,rfl⟩ ⟨Tryz.t202,Tryz.type202,rfl,rfl,rfl⟩ ⟨Tryz.t204,Tryz.type204,rfl,rfl,rfl⟩ ⟨Tryz.t206,Tryz.type206,rfl,rfl,rfl⟩ ⟨Tryz.t208,Tryz.type208,rfl,rfl,rfl⟩ ⟨Tryz.t211,Tryz.type211,rfl,rfl,rfl⟩ ⟨Tryz.t213,Tryz.type213,rfl,rfl,rfl⟩ ⟨Tryz.t216,Tryz.type216,rfl,rfl,rfl⟩ ⟨Tryz.t218,Tryz.type218,rfl,rfl,rfl⟩ ⟨Tryz.t220,Tryz.type220,rfl,rfl,rfl⟩ ⟨Tryz.t223,Tryz.type223,rfl,rfl,rfl⟩ ⟨Tryz.t228,Tryz.type228,rfl,rfl,rfl⟩ ⟨Tryz.t229,Tryz.type229,rfl,rfl,rfl⟩ ⟨Tryz.t232,Tryz.type232,rfl,rfl,rfl⟩ ⟨Tryz.t233,Tryz.type233,rfl,rfl,rfl⟩ ⟨Tryz.t237,Tryz.type237,rfl,rfl,rfl⟩ ⟨Tryz.t239,Tryz.type239,rfl,rfl,rfl⟩ ⟨Tryz.t240,Tryz.type240,rfl,rfl,rfl⟩ ⟨Tryz.t242,Tryz.type242,rfl,rfl,rfl⟩
 agg:=by
  apply tyAll (p:=fun t e=>zkh e.und=true→∀x,∃cs,e.sh.enc x=.agg cs∧cs.size=e.size)<;>first | (intro h;cases h;done) | exact (fun _ x=>⟨_,rfl,rfl⟩) | exact (fun _ x=>⟨_,rfl,x.size⟩)
 leaf:=by
  apply tyAll (p:=fun t e=>zkh e.und=false→e.size=1∧∀x,(zai (e.sh.enc x)).length=1∧∀cs,e.sh.enc x≠ .agg cs)<;>first | (intro h;cases h;done) | (refine fun _=>⟨rfl,fun x=>⟨rfl,fun cs h=> ?_⟩⟩;cases h;done) | exact (fun _=>⟨rfl,zbk2⟩)
 zlen:=by
  apply tyAll (p:=fun t e=>(zai e.zero).length=e.size)<;>first | exact rfl
 zero8:=by
  apply tyAll (p:=fun t e=>e.und=.int .u8→zai e.zero=[.int .u8 0])<;>first | (intro h;cases h;done) | exact (fun _=>rfl)
 zagg:=by
  apply tyAll (p:=fun t e=>zkh e.und=true→∃cs,e.zero=.agg cs)<;>first | (intro h;cases h;done) | exact (fun _=>⟨_,rfl⟩)
 call:=by
  intro g h
  by_cases hlt:g<256
  ·match g,hlt,h with
   | 0,_,h=>exact absurd (show false=true from h) (by simp)
   | 1,_,h=>exact absurd (show false=true from h) (by simp)
   | 2,_,_=>exact Tryz.call2
   | 3,_,_=>exact Tryz.call3
   | 4,_,_=>exact Tryz.call4
   | 5,_,_=>exact Tryz.call5
   | 6,_,_=>exact Tryz.call6
   | 7,_,_=>exact Tryz.call7
   | 8,_,_=>exact Tryz.call8
   | 9,_,_=>exact Tryz.call9
   | 10,_,_=>exact Tryz.call10
   | 11,_,_=>exact Tryz.call11
   | 12,_,_=>exact Tryz.call12
   | 13,_,_=>exact Tryz.call13
   | 14,_,_=>exact Tryz.call14
   | 15,_,_=>exact Tryz.call15
   | 16,_,_=>exact Tryz.call16
   | 17,_,_=>exact Tryz.call17
   | 18,_,_=>exact Tryz.call18
   | 19,_,_=>exact Tryz.call19
   | 20,_,_=>exact Tryz.call20
   | 21,_,_=>exact Tryz.call21
   | 22,_,_=>exact Tryz.call22
   | 23,_,_=>exact Tryz.call23
   | 24,_,_=>exact Tryz.call24
   | 25,_,_=>exact Tryz.call25
   | 26,_,_=>exact Tryz.call26
   | 27,_,_=>exact Tryz.call27
   | 28,_,_=>exact Tryz.call28
   | 29,_,_=>exact Tryz.call29
   | 30,_,_=>exact Tryz.call30
   | 31,_,_=>exact Tryz.call31
   | 32,_,_=>exact Tryz.call32
   | 33,_,_=>exact Tryz.call33
   | 34,_,_=>exact Tryz.call34
   | 35,_,_=>exact Tryz.call35
   | 36,_,_=>exact Tryz.call36
   | 37,_,h=>exact absurd (show false=true from h) (by simp)
   | 38,_,_=>exact Tryz.call38
   | 39,_,_=>exact Tryz.call39
   | 40,_,_=>exact Tryz.call40
   | 41,_,_=>exact Tryz.call41
   | 42,_,_=>exact Tryz.call42
   | 43,_,_=>exact Tryz.call43
   | 44,_,_=>exact Tryz.call44
   | 45,_,_=>exact Tryz.call45
   | 46,_,_=>exact Tryz.call46
   | 47,_,_=>exact Tryz.call47
   | 48,_,_=>exact Tryz.call48
   | 49,_,_=>exact Tryz.call49
   | 50,_,_=>exact Tryz.call50
   | 51,_,_=>exact Tryz.call51
   | 52,_,h=>exact absurd (show false=true from h) (by simp)
   | 53,_,_=>exact Tryz.call53
   | 54,_,_=>exact Tryz.call54
   | 55,_,_=>exact Tryz.call55
   | 56,_,_=>exact Tryz.call56
   | 57,_,_=>exact Tryz.call57
   | 58,_,_=>exact Tryz.call58
   | 59,_,_=>exact Tryz.call59
   | 60,_,_=>exact Tryz.call60
   | 61,_,_=>exact Tryz.call61
   | 62,_,_=>exact Tryz.call62
   | 63,_,_=>exact Tryz.call63
   | 64,_,_=>exact Tryz.call64
   | 65,_,_=>exact Tryz.call65
   | 66,_,_=>exact Tryz.call66
   | 67,_,_=>exact Tryz.call67
   | 68,_,_=>exact Tryz.call68
   | 69,_,_=>exact Tryz.call69
   | 70,_,_=>exact Tryz.call70
   | 71,_,_=>exact Tryz.call71
   | 72,_,_=>exact Tryz.call72
   | 73,_,_=>exact Tryz.call73
   | 74,_,_=>exact Tryz.call74
   | 75,_,_=>exact Tryz.call75
   | 76,_,_=>exact Tryz.call76
   | 77,_,_=>exact Tryz.call77
   | 78,_,_=>exact Tryz.call78
   | 79,_,h=>exact absurd (show false=true from h) (by simp)
   | 80,_,_=>exact Tryz.call80
   | 81,_,_=>exact Tryz.call81
   | 82,_,_=>exact Tryz.call82
   | 83,_,_=>exact Tryz.call83
   | 84,_,_=>exact Tryz.call84
   | 85,_,_=>exact Tryz.call85
   | 86,_,_=>exact Tryz.call86
   | 87,_,_=>exact Tryz.call87
   | 88,_,_=>exact Tryz.call88
   | 89,_,_=>exact Tryz.call89
   | 90,_,_=>exact Tryz.call90
   | 91,_,_=>exact Tryz.call91
   | 92,_,_=>exact Tryz.call92
   | 93,_,_=>exact Tryz.call93
   | 94,_,_=>exact Tryz.call94
   | 95,_,_=>exact Tryz.call95
   | 96,_,_=>exact Tryz.call96
   | 97,_,_=>exact Tryz.call97
   | 98,_,_=>exact Tryz.call98
   | 99,_,_=>exact Tryz.call99
   | 100,_,_=>exact Tryz.call100
   | 101,_,_=>exact Tryz.call101
   | 102,_,_=>exact Tryz.call102
   | 103,_,_=>exact Tryz.call103
   | 104,_,_=>exact Tryz.call104
   | 105,_,_=>exact Tryz.call105
   | 106,_,_=>exact Tryz.call106
   | 107,_,_=>exact Tryz.call107
   | 108,_,_=>exact Tryz.call108
   | 109,_,_=>exact Tryz.call109
   | 110,_,_=>exact Tryz.call110
   | 111,_,_=>exact Tryz.call111
   | 112,_,h=>exact absurd (show false=true from h) (by simp)
   | 113,_,_=>exact Tryz.call113
   | 114,_,_=>exact Tryz.call114
   | 115,_,_=>exact Tryz.call115
   | 116,_,_=>exact Tryz.call116
   | 117,_,_=>exact Tryz.call117
   | 118,_,_=>exact Tryz.call118
   | 119,_,_=>exact Tryz.call119
   | 120,_,_=>exact Tryz.call120
   | 121,_,_=>exact Tryz.call121
   | 122,_,_=>exact Tryz.call122
   | 123,_,_=>exact Tryz.call123
   | 124,_,_=>exact Tryz.call124
   | 125,_,_=>exact Tryz.call125
   | 126,_,_=>exact Tryz.call126
   | 127,_,_=>exact Tryz.call127
   | 128,_,_=>exact Tryz.call128
   | 129,_,_=>exact Tryz.call129
   | 130,_,_=>exact Tryz.call130
   | 131,_,_=>exact Tryz.call131
   | 132,_,h=>exact absurd (show false=true from h) (by simp)
   | 133,_,_=>exact Tryz.call133
   | 134,_,_=>exact Tryz.call134
   | 135,_,h=>exact absurd (show false=true from h) (by simp)
   | 136,_,h=>exact absurd (show false=true from h) (by simp)
   | 137,_,_=>exact Tryz.call137
   | 138,_,_=>exact Tryz.call138
   | 139,_,_=>exact Tryz.call139
   | 140,_,_=>exact Tryz.call140
   | 141,_,_=>exact Tryz.call141
   | 142,_,_=>exact Tryz.call142
   | 143,_,_=>exact Tryz.call143
   | 144,_,_=>exact Tryz.call144
   | 145,_,_=>exact Tryz.call145
   | 146,_,_=>exact Tryz.call146
   | 147,_,_=>exact Tryz.call147
   | 148,_,_=>exact Tryz.call148
   | 149,_,_=>exact Tryz.call149
   | 150,_,_=>exact Tryz.call150
   | 151,_,_=>exact Tryz.call151
   | 152,_,_=>exact Tryz.call152
   | 153,_,_=>exact Tryz.call153
   | 154,_,_=>exact Tryz.call154
   | 155,_,_=>exact Tryz.call155
   | 156,_,_=>exact Tryz.call156
   | 157,_,_=>exact Tryz.call157
   | 158,_,_=>exact Tryz.call158
   | 159,_,_=>exact Tryz.call159
   | 160,_,_=>exact Tryz.call160
   | 161,_,_=>exact Tryz.call161
   | 162,_,_=>exact Tryz.call162
   | 163,_,_=>exact Tryz.call163
   | 164,_,h=>exact absurd (show false=true from h) (by simp)
   | 165,_,h=>exact absurd (show false=true from h) (by simp)
   | 166,_,_=>exact Tryz.call166
   | 167,_,_=>exact Tryz.call167
   | 168,_,_=>exact Tryz.call168
   | 169,_,_=>exact Tryz.call169
   | 170,_,_=>exact Tryz.call170
   | 171,_,_=>exact Tryz.call171
   | 172,_,_=>exact Tryz.call172
   | 173,_,_=>exact Tryz.call173
   | 174,_,_=>exact Tryz.call174
   | 175,_,_=>exact Tryz.call175
   | 176,_,_=>exact Tryz.call176
   | 177,_,_=>exact Tryz.call177
   | 178,_,_=>exact Tryz.call178
   | 179,_,_=>exact Tryz.call179
   | 180,_,_=>exact Tryz.call180
   | 181,_,_=>exact Tryz.call181
   | 182,_,_=>exact Tryz.call182
   | 183,_,_=>exact Tryz.call183
   | 184,_,_=>exact Tryz.call184
   | 185,_,_=>exact Tryz.call185
   | 186,_,_=>exact Tryz.call186
   | 187,_,_=>exact Tryz.call187
   | 188,_,_=>exact Tryz.call188
   | 189,_,_=>exact Tryz.call189
   | 190,_,h=>exact absurd (show false=true from h) (by simp)
   | 191,_,_=>exact Tryz.call191
   | 192,_,_=>exact Tryz.call192
   | 193,_,_=>exact Tryz.call193
   | 194,_,_=>exact Tryz.call194
   | 195,_,_=>exact Tryz.call195
   | 196,_,h=>exact absurd (show false=true from h) (by simp)
   | 197,_,_=>exact Tryz.call197
   | 198,_,_=>exact Tryz.call198
   | 199,_,_=>exact Tryz.call199
   | 200,_,_=>exact Tryz.call200
   | 201,_,_=>exact Tryz.call201
   | 202,_,_=>exact Tryz.call202
   | 203,_,_=>exact Tryz.call203
   | 204,_,_=>exact Tryz.call204
   | 205,_,_=>exact Tryz.call205
   | 206,_,_=>exact Tryz.call206
   | 207,_,_=>exact Tryz.call207
   | 208,_,_=>exact Tryz.call208
   | 209,_,h=>exact absurd (show false=true from h) (by simp)
   | 210,_,h=>exact absurd (show false=true from h) (by simp)
   | 211,_,h=>exact absurd (show false=true from h) (by simp)
   | 212,_,h=>exact absurd (show false=true from h) (by simp)
   | 213,_,h=>exact absurd (show false=true from h) (by simp)
   | 214,_,h=>exact absurd (show false=true from h) (by simp)
   | 215,_,h=>exact absurd (show false=true from h) (by simp)
   | 216,_,h=>exact absurd (show false=true from h) (by simp)
   | 217,_,h=>exact absurd (show false=true from h) (by simp)
   | 218,_,h=>exact absurd (show false=true from h) (by simp)
   | 219,_,h=>exact absurd (show false=true from h) (by simp)
   | 220,_,h=>exact absurd (show false=true from h) (by simp)
   | 221,_,h=>exact absurd (show false=true from h) (by simp)
   | 222,_,h=>exact absurd (show false=true from h) (by simp)
   | 223,_,h=>exact absurd (show false=true from h) (by simp)
   | 224,_,h=>exact absurd (show false=true from h) (by simp)
   | 225,_,h=>exact absurd (show false=true from h) (by simp)
   | 226,_,h=>exact absurd (show false=true from h) (by simp)
   | 227,_,h=>exact absurd (show false=true from h) (by simp)
   | 228,_,h=>exact absurd (show false=true from h) (by simp)
   | 229,_,h=>exact absurd (show false=true from h) (by simp)
   | 230,_,h=>exact absurd (show false=true from h) (by simp)
   | 231,_,h=>exact absurd (show false=true from h) (by simp)
   | 232,_,h=>exact absurd (show false=true from h) (by simp)
   | 233,_,h=>exact absurd (show false=true from h) (by simp)
   | 234,_,h=>exact absurd (show false=true from h) (by simp)
   | 235,_,h=>exact absurd (show false=true from h) (by simp)
   | 236,_,h=>exact absurd (show false=true from h) (by simp)
   | 237,_,h=>exact absurd (show false=true from h) (by simp)
   | 238,_,h=>exact absurd (show false=true from h) (by simp)
   | 239,_,h=>exact absurd (show false=true from h) (by simp)
   | 240,_,h=>exact absurd (show false=true from h) (by simp)
   | 241,_,h=>exact absurd (show false=true from h) (by simp)
   | 242,_,h=>exact absurd (show false=true from h) (by simp)
   | 243,_,h=>exact absurd (show false=true from h) (by simp)
   | 244,_,h=>exact absurd (show false=true from h) (by simp)
   | 245,_,h=>exact absurd (show false=true from h) (by simp)
   | 246,_,h=>exact absurd (show false=true from h) (by simp)
   | 247,_,h=>exact absurd (show false=true from h) (by simp)
   | 248,_,_=>exact Tryz.call248
   | 249,_,h=>exact absurd (show false=true from h) (by simp)
   | 250,_,h=>exact absurd (show false=true from h) (by simp)
   | 251,_,h=>exact absurd (show false=true from h) (by simp)
   | 252,_,h=>exact absurd (show false=true from h) (by simp)
   | 253,_,h=>exact absurd (show false=true from h) (by simp)
   | 254,_,h=>exact absurd (show false=true from h) (by simp)
   | 255,_,h=>exact absurd (show false=true from h) (by simp)
   | n+256,hlt,_=>omega
  ·have hl:fnRows.length=16:=rfl
   have:nth fnRows (g / 16)=none:=zpp1 (l:=fnRows) (i:=g / 16) (by rw [hl];omega)
   have h:fnAt g=true:=h
   unfold fnAt at h
   rw [this] at h
   cases h
 ext:=by
  intro g f h args w
  have h:extAt g=some f:=h
  unfold extAt at h
  cases e37:Nat.beq g 37 with
  | true=>
   have hg:g=37:=Nat.eq_of_beq_eq_true e37
   subst hg
   exact run_callFunc_extern Tryz.func37 (by kernel_rfl) (by kernel_rfl) (by kernel_rfl) (show _=_ from (show _=some _ by kernel_rfl:_=some _).trans h) args w
  | false=>
  simp only [e37,cond_false] at h
  cases e52:Nat.beq g 52 with
  | true=>
   have hg:g=52:=Nat.eq_of_beq_eq_true e52
   subst hg
   exact run_callFunc_extern Tryz.func52 (by kernel_rfl) (by kernel_rfl) (by kernel_rfl) (show _=_ from (show _=some _ by kernel_rfl:_=some _).trans h) args w
  | false=>
  simp only [e52,cond_false] at h
  cases e112:Nat.beq g 112 with
  | true=>
   have hg:g=112:=Nat.eq_of_beq_eq_true e112
   subst hg
   exact run_callFunc_extern Tryz.func112 (by kernel_rfl) (by kernel_rfl) (by kernel_rfl) (show _=_ from (show _=some _ by kernel_rfl:_=some _).trans h) args w
  | false=>
  simp only [e112,cond_false] at h
  cases e135:Nat.beq g 135 with
  | true=>
   have hg:g=135:=Nat.eq_of_beq_eq_true e135
   subst hg
   exact run_callFunc_extern Tryz.func135 (by kernel_rfl) (by kernel_rfl) (by kernel_rfl) (show _=_ from (show _=some _ by kernel_rfl:_=some _).trans h) args w
  | false=>
  simp only [e135,cond_false] at h
  cases e136:Nat.beq g 136 with
  | true=>
   have hg:g=136:=Nat.eq_of_beq_eq_true e136
   subst hg
   exact run_callFunc_extern Tryz.func136 (by kernel_rfl) (by kernel_rfl) (by kernel_rfl) (show _=_ from (show _=some _ by kernel_rfl:_=some _).trans h) args w
  | false=>
  simp only [e136,cond_false] at h
  cases e165:Nat.beq g 165 with
  | true=>
   have hg:g=165:=Nat.eq_of_beq_eq_true e165
   subst hg
   exact run_callFunc_extern Tryz.func165 (by kernel_rfl) (by kernel_rfl) (by kernel_rfl) (show _=_ from (show _=some _ by kernel_rfl:_=some _).trans h) args w
  | false=>
  simp only [e165,cond_false] at h
  cases e190:Nat.beq g 190 with
  | true=>
   have hg:g=190:=Nat.eq_of_beq_eq_true e190
   subst hg
   exact run_callFunc_extern Tryz.func190 (by kernel_rfl) (by kernel_rfl) (by kernel_rfl) (show _=_ from (show _=some _ by kernel_rfl:_=some _).trans h) args w
  | false=>
  simp only [e190,cond_false] at h
  cases e196:Nat.beq g 196 with
  | true=>
   have hg:g=196:=Nat.eq_of_beq_eq_true e196
   subst hg
   exact run_callFunc_extern Tryz.func196 (by kernel_rfl) (by kernel_rfl) (by kernel_rfl) (show _=_ from (show _=some _ by kernel_rfl:_=some _).trans h) args w
  | false=>
  simp only [e196,cond_false] at h
  cases h
 mixed:=by kernel_rfl
end Lf

set_option maxRecDepth 100000
namespace Lf
open Go Go.Proofs
theorem firebreaklaw05_FltPrints_call {l texts Q h} (hv:zgl Tryz.prog l texts Q h):CallT Tryz.prog zrr [(shSl).enc l,(shSl).enc texts] (zag) Q h:=
 zad (C:=⟨Tryz.prog,tb,zrt⟩) (A:=zru) tb_ok Tryz.func3 rfl (Eq.mpr (by kernel_rfl) hv)
theorem zkw {bits Q h} (hv:zlh Tryz.prog bits Q h):CallT Tryz.prog zno [(shInt .i64).enc bits] (shStr) Q h:=
 zad (C:=⟨Tryz.prog,tb,zmw1⟩) (A:=zmx1) tb_ok Tryz.func11 rfl (Eq.mpr (by kernel_rfl) hv)
theorem zgv {n Q h} (hv:ziu Tryz.prog n Q h):CallT Tryz.prog zdt [(shInt .i64).enc n] (shStr) Q h:=
 zad (C:=⟨Tryz.prog,tb,zvy⟩) (A:=zvz) tb_ok Tryz.func12 rfl (Eq.mpr (by kernel_rfl) hv)
theorem ztg {text Q h} (hv:zrf Tryz.prog text Q h):Call2 Tryz.prog zrd [(shStr).enc text] (shInt .i64) (shInt .i64) Q h:=
 show CallT Tryz.prog zrd [(shStr).enc text] (shRes tb [2,25]) (fun r=>Q r.1 r.2) h from zad (C:=⟨Tryz.prog,tb,zmy1⟩) (A:=zmz1) tb_ok Tryz.func13 rfl (Eq.mpr (by kernel_rfl) hv)
theorem zth {t Q h} (hv:zbe Tryz.prog t Q h):Call2 Tryz.prog zis [(shStr).enc t] (shInt .i64) (shInt .i64) Q h:=
 show CallT Tryz.prog zis [(shStr).enc t] (shRes tb [2,25]) (fun r=>Q r.1 r.2) h from zad (C:=⟨Tryz.prog,tb,zwa⟩) (A:=zwb) tb_ok Tryz.func14 rfl (Eq.mpr (by kernel_rfl) hv)
theorem zti {Q h} (hv:ziv Tryz.prog  Q h):CallT Tryz.prog zng [] (zag) Q h:=
 zad (C:=⟨Tryz.prog,tb,zwc⟩) (A:=zwd) tb_ok Tryz.func15 rfl (Eq.mpr (by kernel_rfl) hv)
end Lf

set_option maxRecDepth 100000
namespace Lf
open Go Go.Proofs
theorem zkx {bits Q h} (hv:zzi Tryz.prog bits Q h):CallT Tryz.prog zuy [(shInt .i64).enc bits] (shFlt .f64) Q h:=
 zad (C:=⟨Tryz.prog,tb,zna1⟩) (A:=znb1) tb_ok Tryz.func26 rfl (Eq.mpr (by kernel_rfl) hv)
theorem zcl1 {u Q h} (hv:zvc Tryz.prog u Q h):CallT Tryz.prog zal1 [(shInt .u64).enc u] (shStr) Q h:=
 zad (C:=⟨Tryz.prog,tb,zif1⟩) (A:=zig1) tb_ok Tryz.func27 rfl (Eq.mpr (by kernel_rfl) hv)
theorem zvw {s sep Q h} (hv:zvd Tryz.prog s sep Q h):Call3 Tryz.prog zuz [(shStr).enc s,(shStr).enc sep] (shStr) (shStr) (zag) Q h:=
 show CallT Tryz.prog zuz [(shStr).enc s,(shStr).enc sep] (shRes tb [9,9,4]) (fun r=>Q r.1 r.2.1 r.2.2) h from zad (C:=⟨Tryz.prog,tb,zih1⟩) (A:=zii1) tb_ok Tryz.func28 rfl (Eq.mpr (by kernel_rfl) hv)
theorem zlq {f fmt prec bitSize Q h} (hv:zek Tryz.prog f fmt prec bitSize Q h):CallT Tryz.prog zom [(shFlt .f64).enc f,(shInt .u8).enc fmt,(shInt .i64).enc prec,(shInt .i64).enc bitSize] (shStr) Q h:=
 zad (C:=⟨Tryz.prog,tb,zxb⟩) (A:=zxc) tb_ok Tryz.func29 rfl (Eq.mpr (by kernel_rfl) hv)
theorem zui {s Q h} (hv:zsq Tryz.prog s Q h):Call2 Tryz.prog zsn [(shStr).enc s] (shInt .i64) (zal) Q h:=
 show CallT Tryz.prog zsn [(shStr).enc s] (shRes tb [3,56]) (fun r=>Q r.1 r.2) h from zad (C:=⟨Tryz.prog,tb,zfe1⟩) (A:=zff1) tb_ok Tryz.func30 rfl (Eq.mpr (by kernel_rfl) hv)
theorem zuj {i Q h} (hv:zsr Tryz.prog i Q h):CallT Tryz.prog zyx [(shInt .i64).enc i] (shStr) Q h:=
 zad (C:=⟨Tryz.prog,tb,zfg1⟩) (A:=zfh1) tb_ok Tryz.func31 rfl (Eq.mpr (by kernel_rfl) hv)
theorem zvo {n Q h} (hv:zkl Tryz.prog n Q h):CallT Tryz.prog zpo [(shInt .u64).enc n] (shStr) Q h:=
 zad (C:=⟨Tryz.prog,tb,zyj⟩) (A:=zyk) tb_ok Tryz.func32 rfl (Eq.mpr (by kernel_rfl) hv)
theorem zuk {b Q h} (hv:zgp Tryz.prog b Q h):CallT Tryz.prog zon [(shInt .u64).enc b] (shStr) Q h:=
 zad (C:=⟨Tryz.prog,tb,zxd⟩) (A:=zxe) tb_ok Tryz.func33 rfl (Eq.mpr (by kernel_rfl) hv)
theorem zgc {s prefix_ Q h} (hv:zid Tryz.prog s prefix_ Q h):Call2 Tryz.prog zlf [(shStr).enc s,(shStr).enc prefix_] (shStr) (zag) Q h:=
 show CallT Tryz.prog zlf [(shStr).enc s,(shStr).enc prefix_] (shRes tb [9,4]) (fun r=>Q r.1 r.2) h from zad (C:=⟨Tryz.prog,tb,zzk⟩) (A:=zzl) tb_ok Tryz.func34 rfl (Eq.mpr (by kernel_rfl) hv)
theorem znl {s base bitSize Q h} (hv:zft Tryz.prog s base bitSize Q h):Call2 Tryz.prog zlg [(shStr).enc s,(shInt .i64).enc base,(shInt .i64).enc bitSize] (shInt .u64) (zal) Q h:=
 show CallT Tryz.prog zlg [(shStr).enc s,(shInt .i64).enc base,(shInt .i64).enc bitSize] (shRes tb [51,56]) (fun r=>Q r.1 r.2) h from zad (C:=⟨Tryz.prog,tb,zzm⟩) (A:=zzn) tb_ok Tryz.func35 rfl (Eq.mpr (by kernel_rfl) hv)
theorem zii {s bitSize Q h} (hv:zch Tryz.prog s bitSize Q h):Call2 Tryz.prog zkk [(shStr).enc s,(shInt .i64).enc bitSize] (shFlt .f64) (zal) Q h:=
 show CallT Tryz.prog zkk [(shStr).enc s,(shInt .i64).enc bitSize] (shRes tb [48,56]) (fun r=>Q r.1 r.2) h from zad (C:=⟨Tryz.prog,tb,zyl⟩) (A:=zym) tb_ok Tryz.func36 rfl (Eq.mpr (by kernel_rfl) hv)
theorem zky {c Q h} (hv:ziw Tryz.prog c Q h):CallT Tryz.prog znh [(shInt .u8).enc c] (shInt .u64) Q h:=
 zad (C:=⟨Tryz.prog,tb,zwe⟩) (A:=zwf) tb_ok Tryz.func38 rfl (Eq.mpr (by kernel_rfl) hv)
theorem zkz {t Q h} (hv:zdw Tryz.prog t Q h):Call3 Tryz.prog zfz [(shStr).enc t] (shInt .u64) (shInt .i64) (zag) Q h:=
 show CallT Tryz.prog zfz [(shStr).enc t] (shRes tb [51,3,4]) (fun r=>Q r.1 r.2.1 r.2.2) h from zad (C:=⟨Tryz.prog,tb,zwg⟩) (A:=zwh) tb_ok Tryz.func39 rfl (Eq.mpr (by kernel_rfl) hv)
theorem zjx {c s Q h} (hv:zhk Tryz.prog c s Q h):CallT Tryz.prog zhg [(shInt .u64).enc c,(shInt .i64).enc s] (shInt .u64) Q h:=
 zad (C:=⟨Tryz.prog,tb,ztw⟩) (A:=ztx) tb_ok Tryz.func40 rfl (Eq.mpr (by kernel_rfl) hv)
theorem zzq {op b c Q h} (hv:zie1 Tryz.prog op b c Q h):Call2 Tryz.prog zam1 [(shInt .i64).enc op,(shInt .i64).enc b,(shInt .i64).enc c] (shInt .i64) (shInt .i64) Q h:=
 show CallT Tryz.prog zam1 [(shInt .i64).enc op,(shInt .i64).enc b,(shInt .i64).enc c] (shRes tb [2,25]) (fun r=>Q r.1 r.2) h from zad (C:=⟨Tryz.prog,tb,zyi1⟩) (A:=zyj1) tb_ok Tryz.func41 rfl (Eq.mpr (by kernel_rfl) hv)
end Lf

set_option maxRecDepth 100000
namespace Lf
open Go Go.Proofs
theorem zvp {i base Q h} (hv:zpr Tryz.prog i base Q h):CallT Tryz.prog zpp [(shInt .u64).enc i,(shInt .i64).enc base] (shStr) Q h:=
 zad (C:=⟨Tryz.prog,tb,zyn⟩) (A:=zyo) tb_ok Tryz.func53 rfl (Eq.mpr (by kernel_rfl) hv)
theorem zzr {s count Q h} (hv:zvv Tryz.prog s count Q h):CallT Tryz.prog zvu [(shStr).enc s,(shInt .i64).enc count] (shStr) Q h:=
 zad (C:=⟨Tryz.prog,tb,zcj1⟩) (A:=zck1) tb_ok Tryz.func54 rfl (Eq.mpr (by kernel_rfl) hv)
theorem zpj {s sep Q h} (hv:zki Tryz.prog s sep Q h):Call3 Tryz.prog zgi [(shStr).enc s,(shStr).enc sep] (shStr) (shStr) (zag) Q h:=
 show CallT Tryz.prog zgi [(shStr).enc s,(shStr).enc sep] (shRes tb [9,9,4]) (fun r=>Q r.1 r.2.1 r.2.2) h from zad (C:=⟨Tryz.prog,tb,zrv⟩) (A:=zrw) tb_ok Tryz.func55 rfl (Eq.mpr (by kernel_rfl) hv)
theorem zgq {f fmt prec bitSize Q h} (hv:zel Tryz.prog f fmt prec bitSize Q h):CallT Tryz.prog zhz [(shFlt .f64).enc f,(shInt .u8).enc fmt,(shInt .i64).enc prec,(shInt .i64).enc bitSize] (shStr) Q h:=
 zad (C:=⟨Tryz.prog,tb,zoo⟩) (A:=zop) tb_ok Tryz.func56 rfl (Eq.mpr (by kernel_rfl) hv)
theorem zsb {s Q h} (hv:zml Tryz.prog s Q h):Call2 Tryz.prog zib [(shStr).enc s] (shInt .i64) (zal) Q h:=
 show CallT Tryz.prog zib [(shStr).enc s] (shRes tb [3,56]) (fun r=>Q r.1 r.2) h from zad (C:=⟨Tryz.prog,tb,zve⟩) (A:=zvf) tb_ok Tryz.func57 rfl (Eq.mpr (by kernel_rfl) hv)
theorem zsc {i Q h} (hv:zmm Tryz.prog i Q h):CallT Tryz.prog zmj [(shInt .i64).enc i] (shStr) Q h:=
 zad (C:=⟨Tryz.prog,tb,zvg⟩) (A:=zvh) tb_ok Tryz.func59 rfl (Eq.mpr (by kernel_rfl) hv)
theorem zsd {b Q h} (hv:zie Tryz.prog b Q h):Call2 Tryz.prog zic [(shInt .u64).enc b] (shInt .u64) (shInt .i64) Q h:=
 show CallT Tryz.prog zic [(shInt .u64).enc b] (shRes tb [51,3]) (fun r=>Q r.1 r.2) h from zad (C:=⟨Tryz.prog,tb,zvi⟩) (A:=zvj) tb_ok Tryz.func60 rfl (Eq.mpr (by kernel_rfl) hv)
theorem zds {n Q h} (hv:zif Tryz.prog n Q h):CallT Tryz.prog zdg [(shInt .u64).enc n] (shStr) Q h:=
 zad (C:=⟨Tryz.prog,tb,zvk⟩) (A:=zvl) tb_ok Tryz.func61 rfl (Eq.mpr (by kernel_rfl) hv)
theorem zfu {s prefix_ Q h} (hv:zdn Tryz.prog s prefix_ Q h):Call2 Tryz.prog zdk [(shStr).enc s,(shStr).enc prefix_] (shStr) (zag) Q h:=
 show CallT Tryz.prog zdk [(shStr).enc s,(shStr).enc prefix_] (shRes tb [9,4]) (fun r=>Q r.1 r.2) h from zad (C:=⟨Tryz.prog,tb,zmt⟩) (A:=zmu) tb_ok Tryz.func62 rfl (Eq.mpr (by kernel_rfl) hv)
theorem zhr {s base bitSize Q h} (hv:zby Tryz.prog s base bitSize Q h):Call2 Tryz.prog zez [(shStr).enc s,(shInt .i64).enc base,(shInt .i64).enc bitSize] (shInt .u64) (zal) Q h:=
 show CallT Tryz.prog zez [(shStr).enc s,(shInt .i64).enc base,(shInt .i64).enc bitSize] (shRes tb [51,56]) (fun r=>Q r.1 r.2) h from zad (C:=⟨Tryz.prog,tb,zpu⟩) (A:=zpv) tb_ok Tryz.func63 rfl (Eq.mpr (by kernel_rfl) hv)
theorem zdq {s bitSize Q h} (hv:zcs Tryz.prog s bitSize Q h):Call2 Tryz.prog zet [(shStr).enc s,(shInt .i64).enc bitSize] (shFlt .f64) (zal) Q h:=
 show CallT Tryz.prog zet [(shStr).enc s,(shInt .i64).enc bitSize] (shRes tb [48,56]) (fun r=>Q r.1 r.2) h from zad (C:=⟨Tryz.prog,tb,zpb⟩) (A:=zpc) tb_ok Tryz.func64 rfl (Eq.mpr (by kernel_rfl) hv)
theorem zer {b c s Q h} (hv:zjs Tryz.prog b c s Q h):CallT Tryz.prog zeg [(shInt .u64).enc b,(shInt .u64).enc c,(shInt .i64).enc s] (shInt .i64) Q h:=
 zad (C:=⟨Tryz.prog,tb,zxf⟩) (A:=zxg) tb_ok Tryz.func65 rfl (Eq.mpr (by kernel_rfl) hv)
theorem zmp {f Q h} (hv:zbh1 Tryz.prog f Q h):CallT Tryz.prog zqu [(shFlt .f64).enc f] (shInt .i64) Q h:=
 zad (C:=⟨Tryz.prog,tb,zrr1⟩) (A:=zrs1) tb_ok Tryz.func66 rfl (Eq.mpr (by kernel_rfl) hv)
theorem zfi1 {f Q h} (hv:zzj Tryz.prog f Q h):CallT Tryz.prog zee1 [(shFlt .f64).enc f] (shInt .i64) Q h:=
 zad (C:=⟨Tryz.prog,tb,znc1⟩) (A:=znd1) tb_ok Tryz.func67 rfl (Eq.mpr (by kernel_rfl) hv)
end Lf

set_option maxRecDepth 100000
namespace Lf
open Go Go.Proofs
theorem znd {i base Q h} (hv:zio Tryz.prog i base Q h):CallT Tryz.prog zim [(shInt .u64).enc i,(shInt .i64).enc base] (shStr) Q h:=
 zad (C:=⟨Tryz.prog,tb,zpd⟩) (A:=zpe) tb_ok Tryz.func90 rfl (Eq.mpr (by kernel_rfl) hv)
theorem zob {s substr Q h} (hv:zje Tryz.prog s substr Q h):CallT Tryz.prog zjc [(shStr).enc s,(shStr).enc substr] (shInt .i64) Q h:=
 zad (C:=⟨Tryz.prog,tb,zpw⟩) (A:=zpx) tb_ok Tryz.func95 rfl (Eq.mpr (by kernel_rfl) hv)
theorem zjf {dst val fmt prec Q h} (hv:zed Tryz.prog dst val fmt prec Q h):CallT Tryz.prog zkr [(shSl).enc dst,(shFlt .f64).enc val,(shInt .u8).enc fmt,(shInt .i64).enc prec] (shSl) Q h:=
 zad (C:=⟨Tryz.prog,tb,zss⟩) (A:=zst) tb_ok Tryz.func97 rfl (Eq.mpr (by kernel_rfl) hv)
theorem zoc {i base Q h} (hv:zfe Tryz.prog i base Q h):CallT Tryz.prog zjd [(shInt .i64).enc i,(shInt .i64).enc base] (shStr) Q h:=
 zad (C:=⟨Tryz.prog,tb,zpy⟩) (A:=zpz) tb_ok Tryz.func103 rfl (Eq.mpr (by kernel_rfl) hv)
theorem zvq {b Q h} (hv:zkm Tryz.prog b Q h):CallT Tryz.prog zpq [(shInt .u64).enc b] (shInt .i64) Q h:=
 zad (C:=⟨Tryz.prog,tb,zyp⟩) (A:=zyq) tb_ok Tryz.func104 rfl (Eq.mpr (by kernel_rfl) hv)
theorem ztj {b s Q h} (hv:zix Tryz.prog b s Q h):Call2 Tryz.prog zit [(shInt .u64).enc b,(shInt .i64).enc s] (shInt .u64) (shInt .i64) Q h:=
 show CallT Tryz.prog zit [(shInt .u64).enc b,(shInt .i64).enc s] (shRes tb [51,3]) (fun r=>Q r.1 r.2) h from zad (C:=⟨Tryz.prog,tb,zwi⟩) (A:=zwj) tb_ok Tryz.func105 rfl (Eq.mpr (by kernel_rfl) hv)
end Lf

set_option maxRecDepth 100000
namespace Lf
open Go Go.Proofs
theorem zfv {s prefix_ Q h} (hv:zdo Tryz.prog s prefix_ Q h):CallT Tryz.prog zgx [(shStr).enc s,(shStr).enc prefix_] (zag) Q h:=
 zad (C:=⟨Tryz.prog,tb,zmv⟩) (A:=zmw) tb_ok Tryz.func106 rfl (Eq.mpr (by kernel_rfl) hv)
theorem zav {c Q h} (hv:zhl Tryz.prog c Q h):CallT Tryz.prog zae [(shInt .u8).enc c] (shInt .u8) Q h:=
 zad (C:=⟨Tryz.prog,tb,zty⟩) (A:=ztz) tb_ok Tryz.func107 rfl (Eq.mpr (by kernel_rfl) hv)
theorem zlz {s Q h} (hv:zdy Tryz.prog s Q h):CallT Tryz.prog zdx [(shStr).enc s] (zag) Q h:=
 zad (C:=⟨Tryz.prog,tb,znr⟩) (A:=zns) tb_ok Tryz.func108 rfl (Eq.mpr (by kernel_rfl) hv)
theorem zce {s bitSize Q h} (hv:zbq Tryz.prog s bitSize Q h):Call3 Tryz.prog zct [(shStr).enc s,(shInt .i64).enc bitSize] (shFlt .f64) (shInt .i64) (zal) Q h:=
 show CallT Tryz.prog zct [(shStr).enc s,(shInt .i64).enc bitSize] (shRes tb [48,3,56]) (fun r=>Q r.1 r.2.1 r.2.2) h from zad (C:=⟨Tryz.prog,tb,zli⟩) (A:=zlj) tb_ok Tryz.func109 rfl (Eq.mpr (by kernel_rfl) hv)
theorem zgw {b Q h} (hv:ziy Tryz.prog b Q h):Call2 Tryz.prog zdu [(shInt .u64).enc b] (shInt .u64) (shInt .i64) Q h:=
 show CallT Tryz.prog zdu [(shInt .u64).enc b] (shRes tb [51,3]) (fun r=>Q r.1 r.2) h from zad (C:=⟨Tryz.prog,tb,zwk⟩) (A:=zwl) tb_ok Tryz.func110 rfl (Eq.mpr (by kernel_rfl) hv)
theorem zfw {c s l k Q h} (hv:zhm Tryz.prog c s l k Q h):CallT Tryz.prog zeq [(shInt .u64).enc c,(shInt .i64).enc s,(shInt .u64).enc l,(shInt .i64).enc k] (shInt .i64) Q h:=
 zad (C:=⟨Tryz.prog,tb,zua⟩) (A:=zub) tb_ok Tryz.func111 rfl (Eq.mpr (by kernel_rfl) hv)
theorem zrk {i Q h} (hv:zhn Tryz.prog i Q h):CallT Tryz.prog zhh [(shInt .i64).enc i] (shStr) Q h:=
 zad (C:=⟨Tryz.prog,tb,zuc⟩) (A:=zud) tb_ok Tryz.func124 rfl (Eq.mpr (by kernel_rfl) hv)
theorem zhs {d Q h} (hv:zff Tryz.prog d Q h):CallT Tryz.prog zbx [(shInt .u64).enc d] (shInt .i64) Q h:=
 zad (C:=⟨Tryz.prog,tb,zqa⟩) (A:=zqb) tb_ok Tryz.func125 rfl (Eq.mpr (by kernel_rfl) hv)
theorem zgf {a u Q h} (hv:zdz Tryz.prog a u Q h):Call0 Tryz.prog zbh [(shSl).enc a,(shInt .u64).enc u] (Q) h:=
 show CallT Tryz.prog zbh [(shSl).enc a,(shInt .u64).enc u] (shRes tb []) (fun _=>Q) h from zad (C:=⟨Tryz.prog,tb,znt⟩) (A:=znu) tb_ok Tryz.func126 rfl (Eq.mpr (by kernel_rfl) hv)
theorem zne {dst u base neg append_ Q h} (hv:zeu Tryz.prog dst u base neg append_ Q h):Call2 Tryz.prog zcq [(shSl).enc dst,(shInt .u64).enc u,(shInt .i64).enc base,(zag).enc neg,(zag).enc append_] (shSl) (shStr) Q h:=
 show CallT Tryz.prog zcq [(shSl).enc dst,(shInt .u64).enc u,(shInt .i64).enc base,(zag).enc neg,(zag).enc append_] (shRes tb [74,9]) (fun r=>Q r.1 r.2) h from zad (C:=⟨Tryz.prog,tb,zpf⟩) (A:=zpg) tb_ok Tryz.func127 rfl (Eq.mpr (by kernel_rfl) hv)
theorem zha {x y Q h} (hv:znp Tryz.prog x y Q h):Call2 Tryz.prog zkd [(shInt .u64).enc x,(shInt .u64).enc y] (shInt .u64) (shInt .u64) Q h:=
 show CallT Tryz.prog zkd [(shInt .u64).enc x,(shInt .u64).enc y] (shRes tb [51,51]) (fun r=>Q r.1 r.2) h from zad (C:=⟨Tryz.prog,tb,zbi1⟩) (A:=zbj1) tb_ok Tryz.func129 rfl (Eq.mpr (by kernel_rfl) hv)
end Lf

set_option maxRecDepth 100000
namespace Lf
open Go Go.Proofs
theorem zlm {s c Q h} (hv:zgz Tryz.prog s c Q h):CallT Tryz.prog zdl [(shStr).enc s,(shInt .u8).enc c] (shInt .i64) Q h:=
 zad (C:=⟨Tryz.prog,tb,zmx⟩) (A:=zmy) tb_ok Tryz.func131 rfl (Eq.mpr (by kernel_rfl) hv)
theorem zjg {dst neg s dp nd prec fmt shortest Q h} (hv:zcl Tryz.prog dst neg s dp nd prec fmt shortest Q h):CallT Tryz.prog zck [(shSl).enc dst,(zag).enc neg,(shSl).enc s,(shInt .i64).enc dp,(shInt .i64).enc nd,(shInt .i64).enc prec,(shInt .u8).enc fmt,(zag).enc shortest] (shSl) Q h:=
 zad (C:=⟨Tryz.prog,tb,zsu⟩) (A:=zsv) tb_ok Tryz.func139 rfl (Eq.mpr (by kernel_rfl) hv)
theorem zhb {x Q h} (hv:znq Tryz.prog x Q h):CallT Tryz.prog zhi [(shInt .u64).enc x] (shInt .i64) Q h:=
 zad (C:=⟨Tryz.prog,tb,zbk1⟩) (A:=zbl1) tb_ok Tryz.func140 rfl (Eq.mpr (by kernel_rfl) hv)
theorem zod {s d p nd Q h} (hv:zfg Tryz.prog s d p nd Q h):Call2 Tryz.prog zcx [(shSl).enc s,(shInt .u64).enc d,(shInt .i64).enc p,(shInt .i64).enc nd] (shInt .i64) (shInt .i64) Q h:=
 show CallT Tryz.prog zcx [(shSl).enc s,(shInt .u64).enc d,(shInt .i64).enc p,(shInt .i64).enc nd] (shRes tb [3,3]) (fun r=>Q r.1 r.2) h from zad (C:=⟨Tryz.prog,tb,zqc⟩) (A:=zqd) tb_ok Tryz.func142 rfl (Eq.mpr (by kernel_rfl) hv)
theorem zea {x Q h} (hv:zfh Tryz.prog x Q h):CallT Tryz.prog zbc [(shInt .i64).enc x] (shInt .i64) Q h:=
 zad (C:=⟨Tryz.prog,tb,zqe⟩) (A:=zqf) tb_ok Tryz.func143 rfl (Eq.mpr (by kernel_rfl) hv)
theorem zbr {a k Q h} (hv:zas Tryz.prog a k Q h):Call0 Tryz.prog zar [(shPtr).enc a,(shInt .i64).enc k] (Q) h:=
 show CallT Tryz.prog zar [(shPtr).enc a,(shInt .i64).enc k] (shRes tb []) (fun _=>Q) h from zad (C:=⟨Tryz.prog,tb,zmz⟩) (A:=zna) tb_ok Tryz.func146 rfl (Eq.mpr (by kernel_rfl) hv)
theorem zjk {m e Q h} (hv:zci Tryz.prog m e Q h):Call2 Tryz.prog zcg [(shInt .u64).enc m,(shInt .i64).enc e] (shInt .u64) (shInt .i64) Q h:=
 show CallT Tryz.prog zcg [(shInt .u64).enc m,(shInt .i64).enc e] (shRes tb [51,3]) (fun r=>Q r.1 r.2) h from zad (C:=⟨Tryz.prog,tb,zkn⟩) (A:=zko) tb_ok Tryz.func148 rfl (Eq.mpr (by kernel_rfl) hv)
theorem zgd {x Q h} (hv:zig Tryz.prog x Q h):CallT Tryz.prog zfr [(shInt .u64).enc x] (shSl) Q h:=
 zad (C:=⟨Tryz.prog,tb,zzo⟩) (A:=zzp) tb_ok Tryz.func151 rfl (Eq.mpr (by kernel_rfl) hv)
theorem zcp {a n Q h} (hv:zga Tryz.prog a n Q h):CallT Tryz.prog zbv [(shSl).enc a,(shInt .i64).enc n] (shSl) Q h:=
 zad (C:=⟨Tryz.prog,tb,zwm⟩) (A:=zwn) tb_ok Tryz.func152 rfl (Eq.mpr (by kernel_rfl) hv)
theorem zes {a n Q h} (hv:zjt Tryz.prog a n Q h):CallT Tryz.prog zeh [(shSl).enc a,(shInt .i64).enc n] (shSl) Q h:=
 zad (C:=⟨Tryz.prog,tb,zxh⟩) (A:=zxi) tb_ok Tryz.func153 rfl (Eq.mpr (by kernel_rfl) hv)
theorem zfx {a b Q h} (hv:zho Tryz.prog a b Q h):CallT Tryz.prog zbz [(shSl).enc a,(shSl).enc b] (shInt .i64) Q h:=
 zad (C:=⟨Tryz.prog,tb,zue⟩) (A:=zuf) tb_ok Tryz.func154 rfl (Eq.mpr (by kernel_rfl) hv)
theorem zul {a b Q h} (hv:zju Tryz.prog a b Q h):CallT Tryz.prog zjq [(shSl).enc a,(shSl).enc b] (shSl) Q h:=
 zad (C:=⟨Tryz.prog,tb,zxj⟩) (A:=zxk) tb_ok Tryz.func155 rfl (Eq.mpr (by kernel_rfl) hv)
theorem zee {a m Q h} (hv:zgb Tryz.prog a m Q h):CallT Tryz.prog zcj [(shSl).enc a,(shInt .u32).enc m] (shSl) Q h:=
 zad (C:=⟨Tryz.prog,tb,zwo⟩) (A:=zwp) tb_ok Tryz.func156 rfl (Eq.mpr (by kernel_rfl) hv)
theorem zfl {s Q h} (hv:zam Tryz.prog s Q h):Call3 Tryz.prog zgr [(shStr).enc s] (shFlt .f64) (shInt .i64) (zal) Q h:=
 show CallT Tryz.prog zgr [(shStr).enc s] (shRes tb [48,3,56]) (fun r=>Q r.1 r.2.1 r.2.2) h from zad (C:=⟨Tryz.prog,tb,zsw⟩) (A:=zsx) tb_ok Tryz.func158 rfl (Eq.mpr (by kernel_rfl) hv)
theorem zeb {b Q h} (hv:zfi Tryz.prog b Q h):CallT Tryz.prog zfa [(zag).enc b] (shInt .i64) Q h:=
 zad (C:=⟨Tryz.prog,tb,zqg⟩) (A:=zqh) tb_ok Tryz.func161 rfl (Eq.mpr (by kernel_rfl) hv)
theorem zma {x Q h} (hv:zhp Tryz.prog x Q h):CallT Tryz.prog zhj [(shInt .i64).enc x] (zag) Q h:=
 zad (C:=⟨Tryz.prog,tb,znv⟩) (A:=znw) tb_ok Tryz.func162 rfl (Eq.mpr (by kernel_rfl) hv)
theorem zqo {x Q h} (hv:zgt Tryz.prog x Q h):CallT Tryz.prog zks [(shInt .u64).enc x] (shInt .i64) Q h:=
 zad (C:=⟨Tryz.prog,tb,zsy⟩) (A:=zsz) tb_ok Tryz.func163 rfl (Eq.mpr (by kernel_rfl) hv)
end Lf

set_option maxRecDepth 100000
namespace Lf
open Go Go.Proofs
theorem zqp {e Q h} (hv:zgu Tryz.prog e Q h):CallT Tryz.prog zkt [(shInt .i64).enc e] (shInt .i64) Q h:=
 zad (C:=⟨Tryz.prog,tb,zta⟩) (A:=ztb) tb_ok Tryz.func169 rfl (Eq.mpr (by kernel_rfl) hv)
theorem zen {pre e p lp Q h} (hv:zcb Tryz.prog pre e p lp Q h):Call0 Tryz.prog zdh [(shPtr).enc pre,(shInt .i64).enc e,(shInt .i64).enc p,(shInt .i64).enc lp] (Q) h:=
 show CallT Tryz.prog zdh [(shPtr).enc pre,(shInt .i64).enc e,(shInt .i64).enc p,(shInt .i64).enc lp] (shRes tb []) (fun _=>Q) h from zad (C:=⟨Tryz.prog,tb,zrg⟩) (A:=zrh) tb_ok Tryz.func170 rfl (Eq.mpr (by kernel_rfl) hv)
theorem zec {x Q h} (hv:zfj Tryz.prog x Q h):CallT Tryz.prog zfb [(shInt .i64).enc x] (shInt .i64) Q h:=
 zad (C:=⟨Tryz.prog,tb,zqi⟩) (A:=zqj) tb_ok Tryz.func171 rfl (Eq.mpr (by kernel_rfl) hv)
theorem zfm {x c Q h} (hv:zcm Tryz.prog x c Q h):CallT Tryz.prog zbu [(shInt .u64).enc x,(shPtr).enc c] (shInt .u64) Q h:=
 zad (C:=⟨Tryz.prog,tb,ztc⟩) (A:=ztd) tb_ok Tryz.func172 rfl (Eq.mpr (by kernel_rfl) hv)
theorem zew {u x Q h} (hv:zdc Tryz.prog u x Q h):CallT Tryz.prog zda [(shInt .u64).enc u,(shInt .i64).enc x] (shInt .u64) Q h:=
 zad (C:=⟨Tryz.prog,tb,zlt⟩) (A:=zlu) tb_ok Tryz.func173 rfl (Eq.mpr (by kernel_rfl) hv)
theorem zla {u Q h} (hv:zdi Tryz.prog u Q h):CallT Tryz.prog zgn [(shInt .u64).enc u] (shInt .u64) Q h:=
 zad (C:=⟨Tryz.prog,tb,zmn⟩) (A:=zmo) tb_ok Tryz.func174 rfl (Eq.mpr (by kernel_rfl) hv)
theorem zkp {u Q h} (hv:zdd Tryz.prog u Q h):CallT Tryz.prog zge [(shInt .u64).enc u] (shInt .u64) Q h:=
 zad (C:=⟨Tryz.prog,tb,zlv⟩) (A:=zlw) tb_ok Tryz.func175 rfl (Eq.mpr (by kernel_rfl) hv)
theorem zbf {u Q h} (hv:zde Tryz.prog u Q h):CallT Tryz.prog zdb [(shInt .u64).enc u] (shInt .u64) Q h:=
 zad (C:=⟨Tryz.prog,tb,zlx⟩) (A:=zly) tb_ok Tryz.func176 rfl (Eq.mpr (by kernel_rfl) hv)
theorem zjy {x Q h} (hv:zhq Tryz.prog x Q h):CallT Tryz.prog zlp [(shInt .u64).enc x] (shInt .u64) Q h:=
 zad (C:=⟨Tryz.prog,tb,zug⟩) (A:=zuh) tb_ok Tryz.func177 rfl (Eq.mpr (by kernel_rfl) hv)
theorem zkj {a Q h} (hv:zih Tryz.prog a Q h):Call0 Tryz.prog zfc [(shPtr).enc a] (Q) h:=
 show CallT Tryz.prog zfc [(shPtr).enc a] (shRes tb []) (fun _=>Q) h from zad (C:=⟨Tryz.prog,tb,zvm⟩) (A:=zvn) tb_ok Tryz.func179 rfl (Eq.mpr (by kernel_rfl) hv)
theorem zoe {a k Q h} (hv:zfk Tryz.prog a k Q h):Call0 Tryz.prog zcy [(shPtr).enc a,(shInt .u64).enc k] (Q) h:=
 show CallT Tryz.prog zcy [(shPtr).enc a,(shInt .u64).enc k] (shRes tb []) (fun _=>Q) h from zad (C:=⟨Tryz.prog,tb,zqk⟩) (A:=zql) tb_ok Tryz.func180 rfl (Eq.mpr (by kernel_rfl) hv)
theorem zdr {a k Q h} (hv:zev Tryz.prog a k Q h):Call0 Tryz.prog zcr [(shPtr).enc a,(shInt .u64).enc k] (Q) h:=
 show CallT Tryz.prog zcr [(shPtr).enc a,(shInt .u64).enc k] (shRes tb []) (fun _=>Q) h from zad (C:=⟨Tryz.prog,tb,zph⟩) (A:=zpi) tb_ok Tryz.func181 rfl (Eq.mpr (by kernel_rfl) hv)
theorem zln {a nd Q h} (hv:zdp Tryz.prog a nd Q h):CallT Tryz.prog zgy [(shPtr).enc a,(shInt .i64).enc nd] (zag) Q h:=
 zad (C:=⟨Tryz.prog,tb,znb⟩) (A:=znc) tb_ok Tryz.func182 rfl (Eq.mpr (by kernel_rfl) hv)
theorem zht {a Q h} (hv:zjv Tryz.prog a Q h):CallT Tryz.prog zgo [(shSl).enc a] (shSl) Q h:=
 zad (C:=⟨Tryz.prog,tb,zxl⟩) (A:=zxm) tb_ok Tryz.func185 rfl (Eq.mpr (by kernel_rfl) hv)
theorem zbt {s Q h} (hv:zba Tryz.prog s Q h):Call3 Tryz.prog zgj [(shStr).enc s] (shFlt .f64) (shInt .i64) (zag) Q h:=
 show CallT Tryz.prog zgj [(shStr).enc s] (shRes tb [48,3,4]) (fun r=>Q r.1 r.2.1 r.2.2) h from zad (C:=⟨Tryz.prog,tb,zrx⟩) (A:=zry) tb_ok Tryz.func186 rfl (Eq.mpr (by kernel_rfl) hv)
theorem zcf {s Q h} (hv:zax Tryz.prog s Q h):Call7 Tryz.prog zfd [(shStr).enc s] (shInt .u64) (shInt .i64) (zag) (zag) (zag) (shInt .i64) (zag) Q h:=
 show CallT Tryz.prog zfd [(shStr).enc s] (shRes tb [51,3,4,4,4,3,4]) (fun r=>Q r.1 r.2.1 r.2.2.1 r.2.2.2.1 r.2.2.2.2.1 r.2.2.2.2.2.1 r.2.2.2.2.2.2) h from zad (C:=⟨Tryz.prog,tb,zqm⟩) (A:=zqn) tb_ok Tryz.func187 rfl (Eq.mpr (by kernel_rfl) hv)
theorem zpk {s flt mantissa exp neg trunc Q h} (hv:zgm Tryz.prog s flt mantissa exp neg trunc Q h):Call2 Tryz.prog zgk [(shStr).enc s,(shPtr).enc flt,(shInt .u64).enc mantissa,(shInt .i64).enc exp,(zag).enc neg,(zag).enc trunc] (shFlt .f64) (zal) Q h:=
 show CallT Tryz.prog zgk [(shStr).enc s,(shPtr).enc flt,(shInt .u64).enc mantissa,(shInt .i64).enc exp,(zag).enc neg,(zag).enc trunc] (shRes tb [48,56]) (fun r=>Q r.1 r.2) h from zad (C:=⟨Tryz.prog,tb,zrz⟩) (A:=zsa) tb_ok Tryz.func188 rfl (Eq.mpr (by kernel_rfl) hv)
theorem zmq {b s Q h} (hv:zem Tryz.prog b s Q h):CallT Tryz.prog zei [(shPtr).enc b,(shStr).enc s] (zag) Q h:=
 zad (C:=⟨Tryz.prog,tb,zoq⟩) (A:=zor) tb_ok Tryz.func193 rfl (Eq.mpr (by kernel_rfl) hv)
theorem zjz {d flt Q h} (hv:zcn Tryz.prog d flt Q h):Call2 Tryz.prog zbk [(shPtr).enc d,(shPtr).enc flt] (shInt .u64) (zag) Q h:=
 show CallT Tryz.prog zbk [(shPtr).enc d,(shPtr).enc flt] (shRes tb [51,4]) (fun r=>Q r.1 r.2) h from zad (C:=⟨Tryz.prog,tb,zku⟩) (A:=zkv) tb_ok Tryz.func194 rfl (Eq.mpr (by kernel_rfl) hv)
theorem zan {b Q h} (hv:zbi Tryz.prog b Q h):CallT Tryz.prog zcc [(zag).enc b] (shInt .u64) Q h:=
 zad (C:=⟨Tryz.prog,tb,znx⟩) (A:=zny) tb_ok Tryz.func195 rfl (Eq.mpr (by kernel_rfl) hv)
theorem zdj {mantissa exp neg Q h} (hv:zau Tryz.prog mantissa exp neg Q h):Call2 Tryz.prog zej [(shInt .u64).enc mantissa,(shInt .i64).enc exp,(zag).enc neg] (shFlt .f64) (zag) Q h:=
 show CallT Tryz.prog zej [(shInt .u64).enc mantissa,(shInt .i64).enc exp,(zag).enc neg] (shRes tb [48,4]) (fun r=>Q r.1 r.2) h from zad (C:=⟨Tryz.prog,tb,zos⟩) (A:=zot) tb_ok Tryz.func197 rfl (Eq.mpr (by kernel_rfl) hv)
end Lf

set_option maxRecDepth 100000
namespace Lf
open Go Go.Proofs
theorem zdf {d p sign Q h} (hv:zbj Tryz.prog d p sign Q h):Call2 Tryz.prog zcd [(shInt .u64).enc d,(shInt .i64).enc p,(shInt .u64).enc sign] (shFlt .f64) (zal) Q h:=
 show CallT Tryz.prog zcd [(shInt .u64).enc d,(shInt .i64).enc p,(shInt .u64).enc sign] (shRes tb [48,56]) (fun r=>Q r.1 r.2) h from zad (C:=⟨Tryz.prog,tb,znz⟩) (A:=zoa) tb_ok Tryz.func198 rfl (Eq.mpr (by kernel_rfl) hv)
theorem zou {x Q h} (hv:zjw Tryz.prog x Q h):CallT Tryz.prog zjr [(shInt .u64).enc x] (shInt .i64) Q h:=
 zad (C:=⟨Tryz.prog,tb,zri⟩) (A:=zrj) tb_ok Tryz.func200 rfl (Eq.mpr (by kernel_rfl) hv)
theorem zke {b s Q h} (hv:zcu Tryz.prog b s Q h):CallT Tryz.prog zfs [(shSl).enc b,(shStr).enc s] (zag) Q h:=
 zad (C:=⟨Tryz.prog,tb,zlk⟩) (A:=zll) tb_ok Tryz.func202 rfl (Eq.mpr (by kernel_rfl) hv)
theorem zat {s prefix_ Q h} (hv:zaj Tryz.prog s prefix_ Q h):CallT Tryz.prog zbm [(shStr).enc s,(shStr).enc prefix_] (shInt .i64) Q h:=
 zad (C:=⟨Tryz.prog,tb,zhw⟩) (A:=zhx) tb_ok Tryz.func203 rfl (Eq.mpr (by kernel_rfl) hv)
theorem zlb {sign Q h} (hv:ziz Tryz.prog sign Q h):CallT Tryz.prog zni [(shInt .i64).enc sign] (shFlt .f64) Q h:=
 zad (C:=⟨Tryz.prog,tb,zwq⟩) (A:=zwr) tb_ok Tryz.func204 rfl (Eq.mpr (by kernel_rfl) hv)
theorem ztk {Q h} (hv:znk Tryz.prog  Q h):CallT Tryz.prog znj [] (shFlt .f64) Q h:=
 zad (C:=⟨Tryz.prog,tb,zws⟩) (A:=zwt) tb_ok Tryz.func205 rfl (Eq.mpr (by kernel_rfl) hv)
theorem zhy {a Q h} (hv:zbw Tryz.prog a Q h):CallT Tryz.prog zdv [(shPtr).enc a] (shInt .u64) Q h:=
 zad (C:=⟨Tryz.prog,tb,zja⟩) (A:=zjb) tb_ok Tryz.func207 rfl (Eq.mpr (by kernel_rfl) hv)
theorem zfn {m e Q h} (hv:zco Tryz.prog m e Q h):Call2 Tryz.prog zgs [(shInt .u64).enc m,(shInt .i64).enc e] (shFlt .f64) (zal) Q h:=
 show CallT Tryz.prog zgs [(shInt .u64).enc m,(shInt .i64).enc e] (shRes tb [48,56]) (fun r=>Q r.1 r.2) h from zad (C:=⟨Tryz.prog,tb,zte⟩) (A:=ztf) tb_ok Tryz.func208 rfl (Eq.mpr (by kernel_rfl) hv)
end Lf



namespace Lf
open Go Go.Proofs
abbrev f64 :FloatKind:=.f64
def oneP (b:Bool):Int:=if b then 1 else 0
def nanP :Int:=9221120237041090560
def isNaN (f:Nat):Bool:=f64.format.order f f !=some .eq
def bitsP (f:Nat):Int:=if isNaN f then nanP else IntKind.wrap .i64 (f:Int)
def resP :Option Nat→Int
 | some r=>bitsP r
 | none=>nanP
def zlc (b:Int):Nat:=(IntKind.wrap .u64 b).toNat
def zvb1 (f:Nat):Int:=
 if isNaN f then 0
 else if f64.format.order f 4890909195324358656=some .gt∨f64.format.order f 4890909195324358656=some .eq then 9223372036854775807
 else if f64.format.order f 14114281232179134464=some .lt then -9223372036854775808
 else ((f64.decode f).toInt .zero).getD 0
def fltP (op b c:Int):Int:=
 if op=15 then resP (f64.format.add (zlc b) (zlc c))
 else if op=16 then resP (f64.format.sub (zlc b) (zlc c))
 else if op=17 then resP (f64.format.mul (zlc b) (zlc c))
 else if op=18 then resP (f64.format.div (zlc b) (zlc c))
 else if op=19 then oneP (f64.format.order (zlc b) (zlc c)==some .lt)
 else if op=20 then bitsP (f64.nearest b)
 else if op=21 then zvb1 (zlc b)
 else 0
section
variable {P:Program} {h:Hp}
theorem zbl2 (x y t:Nat):isNaN ((Question.nanBits .f64 x y).cut t)=true:=by
 have key:∀s z:Nat,s<2→z<2^52-1→isNaN (s*2^63+0x7ff0000000000000+1+z)=true:=by
  intro s z hs hz
  have e1:(s*2^63+0x7ff0000000000000+1+z)%Ieee.double.signWeight=0x7ff0000000000000+1+z:=by
   show (s*2^63+0x7ff0000000000000+1+z)%9223372036854775808=_
   omega
  have e2:Ieee.double.read (s*2^63+0x7ff0000000000000+1+z)=.nan ((s*2^63+0x7ff0000000000000+1+z) / Ieee.double.signWeight%2==1) (1+z):=by
   unfold Ieee.Format.read
   rw [e1]
   have b1:Ieee.double.binade=4503599627370496:=rfl
   have b2:Ieee.double.infRung=9218868437227405312:=rfl
   dsimp only
   rw [b1,b2,if_neg (by omega),if_neg (by omega),if_neg (by omega),show 0x7ff0000000000000+1+z-9218868437227405312=1+z by omega]
  unfold isNaN
  show ((Ieee.double.read _).order (Ieee.double.read _) !=some .eq)=true
  rw [e2]
  rfl
 have:=key (t%2) ((t / 2)%(2^52-1)) (by omega) (Nat.mod_lt _ (by decide))
 exact this
end
end Lf

namespace Lf
open Ieee Go
def rzD (w:Nat):Int:=if negD w then -((w%9223372036854775808:Nat):Int) else ((w%9223372036854775808:Nat):Int)
def valD (r:Nat):Nat:=zaa r*2^(zab r+1074).toNat
theorem zkj1 {r s:Nat} (h:r<s):valD r<valD s:=by
 unfold valD zaa zab
 by_cases h1:s<4503599627370496
 ·rw [if_pos (show r<4503599627370496 by omega),if_pos (show r<4503599627370496 by omega),if_pos h1,if_pos h1]
  simpa using h
 ·rw [if_neg h1,if_neg h1]
  have e2:(((s / 4503599627370496:Nat):Int)-1075+1074).toNat=s / 4503599627370496-1:=by omega
  rw [e2]
  by_cases h2:r<4503599627370496
  ·rw [if_pos h2,if_pos h2]
   have:=Nat.two_pow_pos (s / 4503599627370496-1)
   have h3:(s%4503599627370496+4503599627370496)*1≤(s%4503599627370496+4503599627370496)*2^(s / 4503599627370496-1):=Nat.mul_le_mul_left _ this
   show r*1<_
   omega
  ·rw [if_neg h2,if_neg h2,show (((r / 4503599627370496:Nat):Int)-1075+1074).toNat=r / 4503599627370496-1 by omega]
   by_cases h3:r / 4503599627370496=s / 4503599627370496
   ·rw [h3]
    exact Nat.mul_lt_mul_of_pos_right (by omega) (Nat.two_pow_pos _)
   ·have h4:r / 4503599627370496-1+1≤s / 4503599627370496-1:=by omega
    have h5:2^(r / 4503599627370496-1+1)≤2^(s / 4503599627370496-1):=Nat.pow_le_pow_right (by decide) h4
    rw [Nat.pow_succ] at h5
    have h6:(r%4503599627370496+4503599627370496)*2^(r / 4503599627370496-1)<(2*4503599627370496)*2^(r / 4503599627370496-1):=Nat.mul_lt_mul_of_pos_right (by omega) (Nat.two_pow_pos _)
    have h7:4503599627370496*(2^(r / 4503599627370496-1)*2)≤(s%4503599627370496+4503599627370496)*2^(s / 4503599627370496-1):=Nat.mul_le_mul (by omega) h5
    have h8:(2*4503599627370496)*2^(r / 4503599627370496-1)=4503599627370496*(2^(r / 4503599627370496-1)*2):=by omega
    omega
theorem cmpZ {x y X Y:Int} (h1:x<y↔X<Y) (h2:x=y↔X=Y):compare x y=compare X Y:=by
 show compareOfLessAndEq x y=compareOfLessAndEq X Y
 unfold compareOfLessAndEq
 simp only [h1,h2]
theorem zvr {a b:Nat} (ha:a<18446744073709551616) (hb:b<18446744073709551616) (na:¬9218868437227405312<a%9223372036854775808) (nb:¬9218868437227405312<b%9223372036854775808):dbl.order a b=some (compare (rzD a) (rzD b)):=by
 unfold Format.order
 have lt_:∀ {x y:Int},x<y→compare x y=.lt:=fun {x y} h=>by show compareOfLessAndEq x y=_;unfold compareOfLessAndEq;rw [if_pos h]
 have gt_:∀ {x y:Int},y<x→compare x y=.gt:=fun {x y} h=>by show compareOfLessAndEq x y=_;unfold compareOfLessAndEq;rw [if_neg (by omega),if_neg (by omega)]
 have eq_:∀ {x y:Int},x=y→compare x y=.eq:=fun {x y} h=>by show compareOfLessAndEq x y=_;unfold compareOfLessAndEq;rw [if_neg (by omega),if_pos h]
 by_cases ia:a%9223372036854775808=9218868437227405312
 ·rw [zpt ha ia]
  by_cases ib:b%9223372036854775808=9218868437227405312
  ·rw [zpt hb ib]
   unfold rzD
   rw [ia,ib]
   cases negD a<;>cases negD b<;>rfl
  ·rw [zps hb (by omega)]
   unfold rzD
   rw [ia]
   have e1:(Datum.infinity (negD a)).order (.number (negD b) (zaa (b%9223372036854775808)) (zab (b%9223372036854775808)))=some (if negD a then .lt else .gt):=rfl
   rw [e1]
   cases negD a
   ·rw [gt_ (by cases negD b<;>simp<;>omega)];rfl
   ·rw [lt_ (by cases negD b<;>simp<;>omega)];rfl
 ·rw [zps ha (by omega)]
  by_cases ib:b%9223372036854775808=9218868437227405312
  ·rw [zpt hb ib]
   unfold rzD
   rw [ib]
   have e1:(Datum.number (negD a) (zaa (a%9223372036854775808)) (zab (a%9223372036854775808))).order (.infinity (negD b))=some (if negD b then .gt else .lt):=rfl
   rw [e1]
   cases negD b
   ·rw [lt_ (by cases negD a<;>simp<;>omega)];rfl
   ·rw [gt_ (by cases negD a<;>simp<;>omega)];rfl
  ·rw [zps hb (by omega)]
   have e1:∀ {s m i t n j},(Datum.number s m i).order (.number t n j)=some (compare (signed s m (i-min i j).toNat) (signed t n (j-min i j).toNat)):=rfl
   rw [e1,zkg1,zkg1]
   unfold rzD
   have hva:zaa (a%9223372036854775808)*2^(zab (a%9223372036854775808)-min (zab (a%9223372036854775808)) (zab (b%9223372036854775808))).toNat*2^(min (zab (a%9223372036854775808)) (zab (b%9223372036854775808))+1074).toNat=valD (a%9223372036854775808):=by
    unfold valD
    have h1: -1074≤zab (a%9223372036854775808):=by unfold zab;split<;>omega
    have h2: -1074≤zab (b%9223372036854775808):=by unfold zab;split<;>omega
    rw [Nat.mul_assoc,←Nat.pow_add]
    congr 2
    omega
   have hvb:zaa (b%9223372036854775808)*2^(zab (b%9223372036854775808)-min (zab (a%9223372036854775808)) (zab (b%9223372036854775808))).toNat*2^(min (zab (a%9223372036854775808)) (zab (b%9223372036854775808))+1074).toNat=valD (b%9223372036854775808):=by
    unfold valD
    have h1: -1074≤zab (a%9223372036854775808):=by unfold zab;split<;>omega
    have h2: -1074≤zab (b%9223372036854775808):=by unfold zab;split<;>omega
    rw [Nat.mul_assoc,←Nat.pow_add]
    congr 2
    omega
   have hP:=Nat.two_pow_pos (min (zab (a%9223372036854775808)) (zab (b%9223372036854775808))+1074).toNat
   have hz:∀ {r x P:Nat},x*P=valD r→0<P→(x=0↔r=0):=fun {r x P} h hp=>by
    constructor
    ·intro e
     subst e
     rw [Nat.zero_mul] at h
     refine Classical.byContradiction fun hr=> ?_
     have:=zkj1 (r:=0) (s:=r) (by omega)
     omega
    ·intro e
     subst e
     have:valD 0=0:=by unfold valD zaa;simp
     rw [this] at h
     rcases Nat.mul_eq_zero.1 h with h | h<;>omega
   generalize 2^(min (zab (a%9223372036854775808)) (zab (b%9223372036854775808))+1074).toNat=P at*
   generalize zaa (a%9223372036854775808)*2^(zab (a%9223372036854775808)-min (zab (a%9223372036854775808)) (zab (b%9223372036854775808))).toNat=x at*
   generalize zaa (b%9223372036854775808)*2^(zab (b%9223372036854775808)-min (zab (a%9223372036854775808)) (zab (b%9223372036854775808))).toNat=y at*
   generalize a%9223372036854775808=r at*
   generalize b%9223372036854775808=s at*
   have hlt:∀ {r s x y:Nat},x*P=valD r→y*P=valD s→(x<y↔r<s):=fun {r s x y} h1 h2=>by
    constructor
    ·intro h
     have h3:x*P<y*P:=Nat.mul_lt_mul_of_pos_right h hP
     rw [h1,h2] at h3
     rcases Nat.lt_trichotomy r s with h4 | h4 | h4
     ·exact h4
     ·subst h4;omega
     ·have:=zkj1 h4;omega
    ·intro h
     have h3:=zkj1 h
     rw [←h1,←h2] at h3
     exact Nat.lt_of_mul_lt_mul_right h3
   have l1:=hlt hva hvb
   have l2:=hlt hvb hva
   have z1:=hz hva hP
   have z2:=hz hvb hP
   congr 1
   refine cmpZ ?_ ?_<;>cases negD a<;>cases negD b<;>simp only [Bool.false_eq_true,if_true,if_false,reduceIte]<;>omega
theorem zij1 {w:Nat} (h:w<18446744073709551616):isNaN w=zmi w:=by
 unfold isNaN zmi
 show (dbl.order w w !=some .eq)=_
 by_cases hn:9218868437227405312<w%9223372036854775808
 ·rw [decide_eq_true hn]
  unfold Format.order
  rw [zaj1 h hn]
  rfl
 ·rw [zvr h h hn hn,decide_eq_false hn,show compare (rzD w) (rzD w)=.eq by show compareOfLessAndEq _ _=_;unfold compareOfLessAndEq;rw [if_neg (by omega),if_pos rfl]]
  rfl
def zpq1 (n:Int):Nat:=zia (decide (n<0)) n.natAbs 0 false
theorem zyk1 {n:Int}:f64.nearest n=zpq1 n:=by
 show dbl.write (.number (decide (n<0)) n.natAbs 0)=_
 rw [zwy];rfl
theorem zvc1 {b:Int}:zlc b<18446744073709551616:=by
 unfold zlc IntKind.wrap
 simp [IntKind.signed,IntKind.bits]
 omega
end Lf

namespace Lf
open Go
section
variable {P:Program} {h:Hp}
theorem semW_bind' {α β:Type} (s:Sem α) (f:α→Sem β) {K:β→Hp→Prop}:semW P (s>>=f) K h↔semW P s (fun a h=>semW P (f a) K h) h:=zdf1 s f
theorem zvd1 {t:Nat} {i:TypeInfo} (hi:P.info? t=some i) {K:Nat→Hp→Prop} (hk:K i.size h):semW P (sizeOf t) K h:=by
  show semW P (Sem.bind (match P.info? t with
    | some d=>Sem.pure d
    | none=>_) _) K h
  rw [hi]
  exact hk
theorem zvs {a:Addr} {o:Obj} (e:h a.block=some o) {K:Bool→Hp→Prop} (hk:K (hfroz h a) h):semW P (frozen a) K h:=⟨⟨o,e⟩,hk⟩
theorem zyf {r:Nat} {o:Obj} (e:h r=some o) {K:Option (TypeId×Nat)→Hp→Prop} (hk:K (zlt1 o) h):semW P (shape r) K h:=⟨o,e,hk⟩
theorem zik1 {b:Nat} {cs:List Value} (k:Blk h b cs) (off:Nat):hfroz h ⟨b,off,none⟩=false:=by
  obtain ⟨t,e⟩:=k
  unfold hfroz
  simp [e]
theorem zeg1 {b off:Nat} {cs:List Value} (k:Blk h b cs) {K:Unit→Hp→Prop} (hk:K () h):semW P (noView ⟨b,off,none⟩) K h:=by
  obtain ⟨t,e⟩:=k
  unfold noView viewAt
  refine (semW_bind' _ _).2 ((semW_bind' _ _).2 (zyf (r:=b) e ?_))
  exact hk
theorem zyy {b off:Nat} {cs:List Value} (k:Blk h b cs) {K:Bool→Hp→Prop} (hk:K false h):semW P (stringish ⟨b,off,none⟩) K h:=by
  have k0:=k
  obtain ⟨t,e⟩:=k
  unfold stringish
  refine (semW_bind' _ _).2 (zvs (a:=⟨b,off,none⟩) e ?_)
  rw [zik1 k0]
  refine (semW_bind' _ _).2 (zyf (r:=b) e ?_)
  refine zvs (a:=⟨b,_,none⟩) e ?_
  rw [zik1 k0]
  exact hk
end
end Lf

namespace Lf
open Go
section
variable {α:Type} {h:Hp} {sz:Nat} {enc:α→List Value} {l:Sl} {xs:List α}
theorem Blk.rd {b:Nat} {cs new:List Value} (k:Blk h b cs) {off n:Nat} (hn:new.length=n) (e:(cs.drop off).take n=new):zwu h (some ⟨b,off,none⟩) n new:=⟨hn,.inr ⟨_,rfl,k.ldIs e⟩⟩
theorem zve1 {xs:List α} {i:Nat} (x:α) (hi:i<xs.length):xs.set i x=xs.take i++x::xs.drop (i+1):=by
  rw [List.set_eq_take_append_cons_drop,if_pos hi]
theorem OwnF.store {F:List Nat} (o:OwnF h sz enc l xs F) (henc:∀x,(enc x).length=sz) {i:Int} (h0:0≤i) (h1:i<(xs.length:Int)) (x:α) {K:Hp→Prop} (hk:∀h',OwnF h' sz enc l (xs.set i.toNat x) F→Mv F h F h'→K h'):
    InB l.base l.len i∧StW h (sat l.base sz i) (enc x) K:=by
  obtain ⟨o1,o2,o3⟩:=o
  rcases o3 with ⟨_,e2,_⟩ | ⟨b,cs,e1,rfl,kb,e4,e5⟩
  · omega
  · refine ⟨⟨by rw [e1];simp,h0,by omega⟩,?_⟩
    have hi:i.toNat<xs.length:=by omega
    have ha:sat l.base sz i=⟨b,i.toNat*sz,none⟩:=by unfold sat;rw [e1,Option.getD_some,zak,Nat.zero_add]
    rw [ha]
    have hmul:i.toNat*sz+sz≤l.len*sz:=by
      have:=Nat.mul_le_mul_right sz (show i.toNat+1≤l.len by omega)
      grind
    have hmul2:l.len*sz≤l.cap*sz:=Nat.mul_le_mul_right sz o2
    refine zuv1 kb (by grind) fun h' m' k'=> ?_
    rw [henc] at k'
    refine hk h' ⟨by simp [o1],o2,.inr ⟨b,_,e1,rfl,k',?_,?_⟩⟩ m'
    · grind
    · rw [zve1 x hi]
      have t1:cs.take (i.toNat*sz)=(xs.take i.toNat).flatMap enc:=by
        rw [zai1 henc,←e5,List.take_take];congr 1;omega
      have t2:(cs.drop (i.toNat*sz+sz)).take (l.len*sz-(i.toNat*sz+sz))=(xs.drop (i.toNat+1)).flatMap enc:=by
        rw [zeb1 henc,←e5,Nat.add_mul,Nat.one_mul,List.drop_take]
      have hl1:(cs.take (i.toNat*sz)++enc x).length=i.toNat*sz+sz:=by
        grind
      rw [List.take_append,hl1,t2,List.take_of_length_le (by omega),t1]
      simp
end
end Lf

namespace Lf
open Go
def cutH (k:Hp) (R:List Nat):Hp:=fun b=>if b∈R then none else k b
theorem zdk2 {k:Hp} {R:List Nat}:cutH k R≤k:=fun b o e=>by
  unfold cutH at e
  grind
theorem zyl1 {k:Hp} {R:List Nat} {b:Nat} (h:b∈R):cutH k R b=none:=by
  unfold cutH
  rw [if_pos h]
theorem zvf1 {k:Hp} {R:List Nat} {b:Nat} (h:b∉R):cutH k R b=k b:=by
  unfold cutH
  rw [if_neg h]
theorem zdl2 {d k:Hp} {R:List Nat} (hl:d≤k) (hn:∀b∈R,d b=none):d≤cutH k R:=fun b o e=>by
  rw [zvf1 fun hb=>by grind]
  exact hl b o e
theorem zgo1 {h h':Hp} {a:Addr} (e:h' a.block=h a.block):hcell h' a=hcell h a:=by
  unfold hcell
  rw [e]
theorem zbm1 (a:Addr) (n:Nat):(a.add n).block=a.block:=by
  unfold Addr.add
  split<;>rfl
theorem zvg1 {h h':Hp} {a:Addr} {cs:List Value} (l:LdIs h a cs) (e:h' a.block=h a.block):LdIs h' a cs:=fun i v hv=>by
  have:hcell h' (a.add i)=hcell h (a.add i):=zgo1 (a:=a.add i) (by rw [zbm1];exact e)
  rw [this]
  exact l i v hv
section
variable {α:Type} {h h':Hp} {sz:Nat} {enc:α→List Value} {l:Sl} {xs:List α} {F:List Nat}
theorem Rw.same (r:Rw h sz enc l xs) (e:∀a,l.base=some a→h' a.block=h a.block):Rw h' sz enc l xs:=by
  obtain ⟨h1,h2,h3⟩:=r
  refine ⟨h1,h2,h3.imp id ?_⟩
  rintro ⟨a,ha,hl⟩
  exact ⟨a,ha,zvg1 hl (e a ha)⟩
theorem Rw.nil {l:Sl} (hl:l.len=0):Rw h sz enc l ([]:List α):=⟨hl,(by simp),.inl (by simp)⟩
theorem OwnF.cut {R:List Nat} (o:OwnF h sz enc l xs F) (hd:∀b∈F,b∉R):OwnF (cutH h R) sz enc l xs F:=o.same fun b hb=>zvf1 (hd b hb)
theorem OwnF.head (o:OwnF h sz enc l xs F) (henc:∀x,(enc x).length=sz) {n:Nat} (hn:n≤xs.length):OwnF h sz enc ⟨l.base,n,l.cap⟩ (xs.take n) F:=by
  obtain ⟨h1,h2,h3⟩:=o
  refine ⟨by simp;omega,by grind,h3.imp id ?_⟩
  rintro ⟨b,cs,e1,e2,e3,e4,e5⟩
  refine ⟨b,cs,e1,e2,e3,e4,?_⟩
  show cs.take (n*sz)=_
  rw [zai1 henc,←e5,List.take_take,h1,Nat.min_eq_left (Nat.mul_le_mul_right sz hn)]
theorem OwnF.base (o:OwnF h sz enc l xs F) {a:Addr} (ha:l.base=some a):F=[a.block]:=by
  obtain ⟨_,_,h3⟩:=o
  grind
end
end Lf

namespace Lf
open Go
theorem zzs {h:Hp} {a:Addr} {v:Value} (e:hcell h a=some v):∃o,h a.block=some o:=by
  unfold hcell at e
  grind
theorem zvh1 {F F':List Nat} {h h':Hp} {a:Addr} {cs:List Value} (l:LdIs h a cs) (m:Mv F h F' h') (hn:a.block∉F):LdIs h' a cs:=fun i v hv=>by
  have h1:=l i v hv
  obtain ⟨o,ho⟩:=zzs h1
  have hb:(a.add i).block=a.block:=zbm1 a i
  rw [zgo1 (h:=h) (h':=h') (a:=a.add i) (by rw [ho];exact m.keep _ _ ho (by rw [hb];exact hn))]
  exact h1
section
variable {α:Type} {h h':Hp} {sz:Nat} {enc:α→List Value} {l:Sl} {xs:List α} {F F':List Nat}
theorem Rw.known (r:Rw h sz enc l xs) {a:Addr} (ha:l.base=some a) (h0:xs.length*sz≠0):h a.block≠none:=by
  obtain ⟨h1,h2,h3⟩:=r
  obtain ⟨a',ha',hl⟩:=h3.resolve_left h0
  rw [ha] at ha'
  cases ha'
  have hne:(xs.flatMap enc).length≠0:=by rw [h2];exact h0
  obtain ⟨v,hv⟩:∃v,(xs.flatMap enc)[0]? =some v:=⟨(xs.flatMap enc)[0]'(by omega),List.getElem?_eq_getElem (by omega)⟩
  obtain ⟨o,ho⟩:=zzs (hl 0 v hv)
  rw [zbm1] at ho
  rw [ho]
  simp
end
end Lf

namespace Lf
open Go
theorem zil1 {α:Type} {h0 h:Hp} {sz n bytes:Nat} {enc:α→List Value} {zero cs:List Value} {l:Sl} {xs ys:List α} {K:Sl→Hp→Prop} (hw:h0≤h) (o:Own h0 h sz enc l xs) (hc:cs=ys.flatMap enc) (hn:n=ys.length)
    (henc:∀x,(enc x).length=sz) (hok:∀x,zgg (enc x)=true) (hz:zero.length=sz) (hb:xs.length+ys.length≤140737488355328∧(xs.length+ys.length)*bytes≤140737488355328)
    (hk:∀l' h',h0≤h'→Own h0 h' sz enc l' (xs++ys)→(∀b ob,h b=some ob→(∀a,l.base=some a→a.block≠b)→h' b=some ob)→K l' h'):NewW cs (fun a h2=>zca sz bytes zero l ⟨some a,n,n⟩ K h2) h:=by
  subst hn
  refine zhx1 (h0:=h0) hw hc henc fun a h2 hle ho2=> ?_
  refine zmr1 (Hp.le_trans hw hle) (o.mono hle) (ho2.rw henc) henc hok hz hb fun l' h' hl' ho' hk'=>hk l' h' hl' ho' fun b ob e hne=>hk' b ob (hle b ob e) hne
end Lf

