/-
  Part 3 of the texts that the claim leans on.
-/
import Derived.Test.YtgmfbapkfjemnaaGreatDoorRows
import Derived.Laws.Externs
import GoSem.Core.Float
import Derived.Test.YtgmfbapkfjemnaaGreatDoorMgAsmDoc1
set_option maxRecDepth 100000
set_option linter.unusedVariables false
namespace Lf
open Go
abbrev yI(x:Int):Value:=.int .i64 x
abbrev yP(x:Option Addr):Value:=.pointer x
abbrev yN:Value:=.slice none 0 0
abbrev yH:Shape:=shInt .i64
abbrev yLi(h:Hp)(p:Addr)(n:Nat)(K:Int->Prop):Prop:=LdW none (shInt .i64) h (Addr.add p n) K
abbrev yLs(h:Hp)(p:Addr)(n:Nat)(K:Sl->Prop):Prop:=LdW none shSl h (Addr.add p n) K
abbrev yLp(h:Hp)(p:Addr)(n:Nat)(K:Option Addr->Prop):Prop:=LdW none shPtr h (Addr.add p n) K
def zhp (P:Program) (text:ByteArray) (Q:(Bool->(Hp->Prop))) (h:Hp):Prop:=
 CallT P zkf [] zae (fun r h1=>
 (if (!r)=true then
 Q false h1
 else
 Call4 P znk [(.string text)] shSl yH yH yH (fun r1 r2 r3 r4 h2=>
 Call4 P zgp [(.string text)] shSl yH yH yH (fun r5 r6 r7 r8 h3=>
 LetW ((r2==r6)&&(r3==r7)) fun y=>
 LetW (y&&(r4==r8)) fun y1=>
 EffC (some y1) (CallT P zce [r1.v,r5.v] zae) (fun r9 h4=>
 LetW (y1&&r9) fun y2=>
 Q y2 h4) h3) h2) h1)) h
def zhq (P:Program) (l:Sl) (text:ByteArray) (Q:(Bool->(Hp->Prop))) (h:Hp):Prop:=
 CallT P zkf [] zae (fun r h1=>
 (if (!r)=true then
 Q false h1
 else
 CallT P zpx [l.v] shSl (fun r1 h2=>
 MakeW 40 [(yI (0:Int)),(yI (0:Int)),(yI (0:Int)),(yI (0:Int)),(yI (0:Int))] (0:Int) (IntKind.wrap .i64 ((r1.len:Int)+(2:Int))) (fun r2 h3=>
 zbb 5 40 [(yI (0:Int)),(yI (0:Int)),(yI (0:Int)),(yI (0:Int)),(yI (0:Int))] r2 r1 (fun r3 h4=>
 NewW [(yI (77:Int)),(yI (0:Int)),(yI (0:Int)),(yI (0:Int)),(yI (0:Int)),(yI (78:Int)),(yI (0:Int)),(yI (0:Int)),(yI (0:Int)),(yI (0:Int))] (fun a h5=>
 zbb 5 40 [(yI (0:Int)),(yI (0:Int)),(yI (0:Int)),(yI (0:Int)),(yI (0:Int))] r3 ⟨(some a),2,2⟩ (fun r4 h6=>
 (((0:Int)<=(r1.len:Int)/\(r1.len:Int)<=(r4.cap:Int))/\LetW (α:=Sl) ⟨(sbase r4.base 5 0 r4.cap),((Int.toNat (r1.len:Int))-0),(r4.cap-0)⟩ fun y=>
 Call3 P zud [y.v] shStr yH yH (fun r5 r6 r7 h7=>
 (((0:Int)<=(IntKind.wrap .i64 ((r1.len:Int)+(2:Int)))/\(IntKind.wrap .i64 ((r1.len:Int)+(2:Int)))<=(y.cap:Int))/\LetW (α:=Sl) ⟨(sbase y.base 5 0 y.cap),((Int.toNat (IntKind.wrap .i64 ((r1.len:Int)+(2:Int))))-0),(y.cap-0)⟩ fun y1=>
 CallT P zce [y.v,r1.v] zae (fun r8 h8=>
 (((!(!r8))=true->(InB y1.base y1.len (r1.len:Int)))/\LdW (some (!(!r8))) sh_api_Ins h8 (sat y1.base 5 (r1.len:Int)) fun x=>
 SemV (some (!(!r8))) P (binS .neq 44 (.tmp 64) (.tmp 65) x.v (.agg #[(yI (77:Int)),(yI (0:Int)),(yI (0:Int)),(yI (0:Int)),(yI (0:Int))])) zae h8 fun x1=>
 LetW ((!r8) || x1) fun y2=>
 (((!y2)=true->(InB y1.base y1.len (IntKind.wrap .i64 ((r1.len:Int)+(1:Int)))))/\LdW (some (!y2)) sh_api_Ins h8 (sat y1.base 5 (IntKind.wrap .i64 ((r1.len:Int)+(1:Int)))) fun x2=>
 SemV (some (!y2)) P (binS .neq 44 (.tmp 74) (.tmp 75) x2.v (.agg #[(yI (78:Int)),(yI (0:Int)),(yI (0:Int)),(yI (0:Int)),(yI (0:Int))])) zae h8 fun x3=>
 LetW (y2 || x3) fun y3=>
 (if y3 then
 Q false h8
 else
 LoopW1 (α1:=Int) (fun again t80 h9=>
 (if decide (t80<(y.len:Int)) then
 ((InB y.base y.len t80)/\StW h9 (sat y.base 5 t80) [(yI (5:Int)),(yI (0:Int)),(yI (0:Int)),(yI (0:Int)),(yI (0:Int))] (fun h10=>
 again (IntKind.wrap .i64 (t80+(1:Int))) h10))
 else
 Call3 P zud [r1.v] shStr yH yH (fun r9 r10 r11 h10=>
 Call4 P znk [(.string text)] shSl yH yH yH (fun r12 r13 r14 r15 h11=>
 Call4 P znk [(.string text)] shSl yH yH yH (fun r16 r17 r18 r19 h12=>
 Call4 P zgp [(.string text)] shSl yH yH yH (fun r20 r21 r22 r23 h13=>
 LetW ((!((ByteArray.toList r5)==(ByteArray.toList r9))) || (r6 !=r10)) fun y4=>
 EffC (some (!y4)) (CallT P zce [r12.v,r20.v] zae) (fun r24 h14=>
 LetW (y4 || (!r24)) fun y5=>
 EffC (some (!y5)) (CallT P zce [r16.v,r20.v] zae) (fun r25 h15=>
 LetW (y5 || (!r25)) fun y6=>
 (if y6 then
 Q false h15
 else
 LoopW1 (α1:=Int) (fun again1 t137 h16=>
 (if decide (t137<(r12.len:Int)) then
 ((InB r12.base r12.len t137)/\StW h16 (sat r12.base 5 t137) [(yI (99:Int)),(yI (0:Int)),(yI (0:Int)),(yI (0:Int)),(yI (0:Int))] (fun h17=>
 again1 (IntKind.wrap .i64 (t137+(1:Int))) h17))
 else
 LoopW2 (α1:=Sl) (α2:=Int) (fun again2 p t145 h17=>
 (if decide (t145<(40:Int)) then
 NewW [(yI (98:Int)),(yI (0:Int)),(yI (0:Int)),(yI (0:Int)),(yI (0:Int))] (fun a1 h18=>
 zbb 5 40 [(yI (0:Int)),(yI (0:Int)),(yI (0:Int)),(yI (0:Int)),(yI (0:Int))] ⟨p.base,p.len,p.cap⟩ ⟨(some a1),1,1⟩ (fun r26 h19=>
 again2 r26 (IntKind.wrap .i64 (t145+(1:Int))) h19) h18) h17
 else
 CallT P zce [r16.v,r20.v] zae (fun r26 h18=>
 LetW (r26&&((p.len:Int)==(IntKind.wrap .i64 ((r20.len:Int)+(40:Int))))) fun y7=>
 Q y7 h18) h17)) ⟨r12.base,r12.len,r12.cap⟩ (0:Int) h16)) (0:Int) h15)) h14) h13) h12) h11) h10) h9)) (0:Int) h8)))) h7)) h6)) h5) h4) h3) h2) h1)) h
def zqg (P:Program) (bits:Int) (Q:(ByteArray->(Hp->Prop))) (h:Hp):Prop:=
 CallT P zlc1 [(yI bits)] (shFlt .f64) (fun r h1=>
 SemV none P (binS .neq 48 (.tmp 12) (.tmp 13) (.float .f64 r) (.float .f64 r)) zae h1 fun x=>
 (if x then
 CallT P zge1 [(.int .u64 (IntKind.wrap .u64 bits))] shStr (fun r1 h2=>
 ((4+(ByteArray.size r1))<=9223372036854775807/\Q ⟨⟨(110::(97::(110::(58::r1.data.toList))))⟩⟩ h2)) h1
 else
 SemV none P (binS .gtr 48 (.tmp 20) (.const (.float .f64 9218868437227405311)) (.float .f64 r) (.float .f64 9218868437227405311)) zae h1 fun x1=>
 (if x1 then
 Q ⟨#[105,110,102]⟩ h1
 else
 SemV none P (binS .lss 48 (.tmp 23) (.const (.float .f64 18442240474082181119)) (.float .f64 r) (.float .f64 18442240474082181119)) zae h1 fun x2=>
 (if x2 then
 Q ⟨#[45,105,110,102]⟩ h1
 else
 CallT P zre [(.float .f64 r),(.int .u8 (101:Int)),(yI (-1:Int)),(yI (64:Int))] shStr (fun r1 h2=>
 Call3 P zmc [(.string r1),(.string ⟨#[101]⟩)] shStr shStr zae (fun r2 r3 r4 h3=>
 Call2 P zvt [(.string r3)] yH zai (fun r5 r6 h4=>
 (((ByteArray.size r2)+1)<=9223372036854775807/\CallT P zvu [(yI r5)] shStr (fun r7 h5=>
 (((ByteArray.size ⟨⟨(List.append r2.data.toList [101])⟩⟩)+(ByteArray.size r7))<=9223372036854775807/\Q ⟨⟨(List.append (List.append r2.data.toList [101]) r7.data.toList)⟩⟩ h5)) h4)) h3) h2) h1)))) h
def zkh (P:Program) (n:Int) (Q:(ByteArray->(Hp->Prop))) (h:Hp):Prop:=
 JoinW1 (α1:=ByteArray) (fun k=>
 LetW (((bitsI .and .u64 (IntKind.wrap .u64 n) (9223372036854775808:Int)) !=(0:Int))&&(decide ((bitsI .andNot .u64 (IntKind.wrap .u64 n) (9223372036854775808:Int))<=(9218868437227405312:Int)))) fun y=>
 (if y then
 k ⟨#[45]⟩ h
 else
 k ⟨#[]⟩ h))
 (fun s h1=>
 (if (decide ((bitsI .andNot .u64 (IntKind.wrap .u64 n) (9223372036854775808:Int))>(9218868437227405312:Int)))=true then
 CallT P zsm [(.int .u64 (IntKind.wrap .u64 n))] shStr (fun r h2=>
 ((4+(ByteArray.size r))<=9223372036854775807/\Q ⟨⟨(110::(97::(110::(58::r.data.toList))))⟩⟩ h2)) h1
 else
 (if ((bitsI .andNot .u64 (IntKind.wrap .u64 n) (9223372036854775808:Int))==(9218868437227405312:Int))=true then
 (((ByteArray.size s)+3)<=9223372036854775807/\Q ⟨⟨(List.append s.data.toList [105,110,102])⟩⟩ h1)
 else
 CallT P zrf [(.int .u64 (bitsI .andNot .u64 (IntKind.wrap .u64 n) (9223372036854775808:Int)))] shStr (fun r h2=>
 (((ByteArray.size s)+(ByteArray.size r))<=9223372036854775807/\Q ⟨⟨(List.append s.data.toList r.data.toList)⟩⟩ h2)) h1)))
def zer1 (P:Program) (text:ByteArray) (Q:(Int->(Int->(Hp->Prop)))) (h:Hp):Prop:=
 Call2 P zjk [(.string text),(.string ⟨#[110,97,110,58]⟩)] shStr zae (fun r r1 h1=>
 JoinW1 (α1:=Int) (fun k=>
 (if r1 then
 Call2 P znl [(.string r),(yI (16:Int)),(yI (64:Int))] (shInt .u64) zai (fun r2 r3 h2=>
 k r2 h2) h1
 else
 Call2 P zmm [(.string text),(yI (64:Int))] (shFlt .f64) zai (fun r2 r3 h2=>
 SemE P (Extern.MathFloatBits.float64bits #[(.float .f64 r2)]) (shInt .u64) (fun r4 h3=>
 k r4 h3) h2) h1))
 (fun u h2=>
 CallT P zqf [(yI (IntKind.wrap .i64 u))] shStr (fun r2 h3=>
 (if (!((ByteArray.toList r2)==(ByteArray.toList text)))=true then
 Q (0:Int) (4:Int) h3
 else
 Q (IntKind.wrap .i64 u) (0:Int) h3)) h2)) h
def zbg (P:Program) (t:ByteArray) (Q:(Int->(Int->(Hp->Prop)))) (h:Hp):Prop:=
 (if (decide ((((ByteArray.size t):Nat):Int)>(32:Int)))=true then
 Q (0:Int) (4:Int) h
 else
 (((decide ((((ByteArray.size t):Nat):Int)>(0:Int)))=true->((0:Int)<=(0:Int)/\(0:Int)<(((ByteArray.size t):Nat):Int)))/\LetW ((decide ((((ByteArray.size t):Nat):Int)>(0:Int)))&&((((UInt8.toNat (List.getD t.data.toList 0 0)):Nat):Int)==(45:Int))) fun y=>
 JoinW1 (α1:=ByteArray) (fun k=>
 (if y then
 (((0:Int)<=(1:Int)/\(1:Int)<=(((ByteArray.size t):Nat):Int))/\k (ByteArray.extract t 1 (ByteArray.size t)) h)
 else
 k t h))
 (fun u h1=>
 JoinW1 (α1:=Int) (fun k=>
 ((((((ByteArray.size t):Nat):Int)==(20:Int))=true->((0:Int)<=(4:Int)/\(4:Int)<=(((ByteArray.size t):Nat):Int)))/\LetW (((((ByteArray.size t):Nat):Int)==(20:Int))&&((ByteArray.toList (ByteArray.extract t 0 4))==(ByteArray.toList ⟨#[110,97,110,58]⟩))) fun y1=>
 (if y1 then
 LoopW2 (α1:=Int) (α2:=Int) (fun again b i h2=>
 (if decide (i<(20:Int)) then
 ((0:Int)<=(4:Int)/\(((0:Int)<=i/\i<(((ByteArray.size t):Nat):Int))/\CallT P zpy [(.int .u8 (((UInt8.toNat (List.getD t.data.toList (Int.toNat i) 0)):Nat):Int))] (shInt .u64) (fun r h3=>
 again (bitsI .or .u64 (shlI .u64 b (4:Int)) (bitsI .and .u64 r (15:Int))) (IntKind.wrap .i64 (i+(1:Int))) h3) h2))
 else
 k b h2)) (0:Int) (4:Int) h1
 else
 (if ((ByteArray.toList u)==(ByteArray.toList ⟨#[105,110,102]⟩))=true then
 k (9218868437227405312:Int) h1
 else
 (if ((ByteArray.toList u)==(ByteArray.toList ⟨#[48,101,48]⟩))=true then
 k (0:Int) h1
 else
 Call3 P zgq [(.string u)] (shInt .u64) yH zae (fun r r1 r2 h2=>
 (if (!r2)=true then
 Q (0:Int) (4:Int) h2
 else
 CallT P zii [(.int .u64 r),(yI r1)] (shInt .u64) (fun r3 h3=>
 k r3 h3) h2)) h1)))))
 (fun b h2=>
 JoinW1 (α1:=Int) (fun k=>
 (if y then
 k (bitsI .or .u64 b (9223372036854775808:Int)) h2
 else
 k b h2))
 (fun b1 h3=>
 CallT P zgo [(yI (IntKind.wrap .i64 b1))] shStr (fun r h4=>
 (if (!((ByteArray.toList r)==(ByteArray.toList t)))=true then
 Q (0:Int) (4:Int) h4
 else
 Q (IntKind.wrap .i64 b1) (0:Int) h4)) h3)))))
def zki (P:Program)  (Q:(Bool->(Hp->Prop))) (h:Hp):Prop:=
 NewW [(yI (1:Int)),(yI (0:Int)),(yI (0:Int)),(yI (0:Int)),(yI (5:Int)),(yI (23:Int)),(yI (0:Int)),(yI (0:Int)),(yI (0:Int)),(yI (0:Int)),(yI (24:Int)),(yI (1:Int)),(yI (2:Int)),(yI (3:Int)),(yI (0:Int)),(yI (0:Int)),(yI (0:Int)),(yI (0:Int)),(yI (0:Int)),(yI (0:Int))] (fun a h1=>
 Call3 P zud [(.slice (some a) 4 4)] shStr yH yH (fun r r1 r2 h2=>
 Call4 P znk [(.string ⟨#[115,101,116,32,114,48,32,53,10,105,102,32,114,48,32,48,10,115,101,110,100,32,114,49,32,114,50,32,114,51,10,101,120,105,116,10]⟩)] shSl yH yH yH (fun r3 r4 r5 r6 h3=>
 Call4 P znk [(.string ⟨#[101,120,105,116,10,115,101,116,32,114,48,10]⟩)] shSl yH yH yH (fun r7 r8 r9 r10 h4=>
 LetW ((r1==(0:Int))&&(r2==(0:Int))) fun y=>
 LetW (y&&((ByteArray.toList r)==(ByteArray.toList ⟨#[115,101,116,32,114,48,32,53,10,105,102,32,114,48,32,48,10,115,101,110,100,32,114,49,32,114,50,32,114,51,10,101,120,105,116,10]⟩))) fun y1=>
 LetW (y1&&(r4==(0:Int))) fun y2=>
 LetW (y2&&(r5==(0:Int))) fun y3=>
 LetW (y3&&(r6==(0:Int))) fun y4=>
 EffC (some y4) (CallT P zce [r3.v,(.slice (some a) 4 4)] zae) (fun r11 h5=>
 LetW (y4&&r11) fun y5=>
 LetW (y5&&(r8==(5:Int))) fun y6=>
 LetW (y6&&(r9==(2:Int))) fun y7=>
 LetW (y7&&(r10==(6:Int))) fun y8=>
 Q y8 h5) h4) h3) h2) h1) h
def zkj (P:Program) (l:Sl) (Q:(Sl->(Hp->Prop))) (h:Hp):Prop:=
 (((0:Int)<=(min2I (l.len:Int) (1048576:Int))/\((min2I (l.len:Int) (1048576:Int))<=(min2I (l.len:Int) (1048576:Int))/\(min2I (l.len:Int) (1048576:Int))<=(l.cap:Int)))/\LetW (α:=Sl) ⟨(sbase l.base 5 0 (Int.toNat (min2I (l.len:Int) (1048576:Int)))),((Int.toNat (min2I (l.len:Int) (1048576:Int)))-0),((Int.toNat (min2I (l.len:Int) (1048576:Int)))-0)⟩ fun y=>
 Q y h)
def zes1 (P:Program) (l:Sl) (Q:(ByteArray->(Int->(Int->(Hp->Prop))))) (h:Hp):Prop:=
 Call2 P zhn1 [l.v,(yI (8:Int))] yH yH (fun r r1 h1=>
 (if (r !=(0:Int))=true then
 Q ⟨#[]⟩ r r1 h1
 else
 NewTW 76 [(yP none),yN] (fun a h2=>
 LoopW1 (α1:=Int) (fun again t21 h3=>
 (if decide (t21<(l.len:Int)) then
 ((InB l.base l.len t21)/\LdW none sh_api_Ins h3 (sat l.base 5 t21) fun x=>
 CallT P zgf1 [x.v] shStr (fun r2 h4=>
 Call2 P zbw [(yP (some a)),(.string r2)] yH zai (fun r3 r4 h5=>
 again (IntKind.wrap .i64 (t21+(1:Int))) h5) h4) h3)
 else
 CallT P zew [(yP (some a))] shStr (fun r2 h4=>
 Q r2 (0:Int) (0:Int) h4) h3)) (0:Int) h2) h1)) h
def zet1 (P:Program) (text:ByteArray) (Q:(Sl->(Int->(Int->(Int->(Hp->Prop)))))) (h:Hp):Prop:=
 CallT P zbp1 [(.string text),(.string ⟨#[10]⟩)] yH (fun r h1=>
 LoopW3 (α1:=Sl) (α2:=ByteArray) (α3:=Int) (fun again l rest i h2=>
 (if (!((ByteArray.toList rest)==(ByteArray.toList ⟨#[]⟩)))=true then
 Call3 P zmc [(.string rest),(.string ⟨#[10]⟩)] shStr shStr zae (fun r1 r2 r3 h3=>
 (if decide (i>(256:Int)) then
 Q ⟨none,0,0⟩ (3:Int) i (0:Int) h3
 else
 NewW [(.string r1),(yI (0:Int)),(yI (0:Int)),(yI (0:Int))] (fun a h4=>
 CallT P zac1 [(yP (some a)),(yI r)] sh_api_Ins (fun r4 h5=>
 JoinW0 (fun k=>
 (if (!r3)=true then
 Call0 P zav [(yP (some a)),(yI (5:Int)),(yI (((ByteArray.size r1):Nat):Int))] (fun h6=>
 k h6) h5
 else
 k h5))
 (fun h6=>
 NilW none (some a) fun p=>
 yLi h6 p 2 fun x=>
 (if (x !=(0:Int))=true then
 NilW none (some a) fun p1=>
 yLi h6 p1 2 fun x1=>
 NilW none (some a) fun p2=>
 yLi h6 p2 3 fun x2=>
 Q ⟨none,0,0⟩ x1 i x2 h6
 else
 NewW [(yI r4.Op),(yI r4.A),(yI r4.B),(yI r4.C),(yI r4.Imm)] (fun a1 h7=>
 zbb 5 40 [(yI (0:Int)),(yI (0:Int)),(yI (0:Int)),(yI (0:Int)),(yI (0:Int))] ⟨l.base,l.len,l.cap⟩ ⟨(some a1),1,1⟩ (fun r5 h8=>
 again r5 r2 (IntKind.wrap .i64 (i+(1:Int))) h8) h7) h6))) h4) h3)) h2
 else
 Q ⟨l.base,l.len,l.cap⟩ (0:Int) (0:Int) (0:Int) h2)) ⟨none,0,0⟩ text (1:Int) h1) h
def zkk (P:Program) (text:ByteArray) (Q:(Sl->(Int->(Int->(Int->(Hp->Prop)))))) (h:Hp):Prop:=
 LoopW2 (α1:=Int) (α2:=Int) (fun again n i h1=>
 (if (decide (i<(((ByteArray.size text):Nat):Int)))=true then
 JoinW1 (α1:=Int) (fun k=>
 (((0:Int)<=i/\i<(((ByteArray.size text):Nat):Int))/\(if ((((UInt8.toNat (List.getD text.data.toList (Int.toNat i) 0)):Nat):Int)==(10:Int))=true then
 k (IntKind.wrap .i64 (n+(1:Int))) h1
 else
 k n h1)))
 (fun n1 h2=>
 again n1 (IntKind.wrap .i64 (i+(1:Int))) h2)
 else
 NewW [] (fun a h2=>
 LoopW3 (α1:=ByteArray) (α2:=Sl) (α3:=Int) (fun again1 text1 l line h3=>
 (if (decide ((((ByteArray.size text1):Nat):Int)>(0:Int)))=true then
 LoopW1 (α1:=Int) (fun again2 end_ h4=>
 (((decide (end_<(((ByteArray.size text1):Nat):Int)))=true->((0:Int)<=end_/\end_<(((ByteArray.size text1):Nat):Int)))/\LetW ((decide (end_<(((ByteArray.size text1):Nat):Int)))&&((((UInt8.toNat (List.getD text1.data.toList (Int.toNat end_) 0)):Nat):Int) !=(10:Int))) fun y=>
 (if y then
 again2 (IntKind.wrap .i64 (end_+(1:Int))) h4
 else
 (if decide (line>(256:Int)) then
 Q ⟨none,0,0⟩ (3:Int) line (0:Int) h4
 else
 (((0:Int)<=end_/\end_<=(((ByteArray.size text1):Nat):Int))/\Call3 P zhf [(.string (ByteArray.extract text1 0 (Int.toNat end_))),(yI n)] sh_api_Ins yH yH (fun r r1 r2 h5=>
 (if (r1 !=(0:Int))=true then
 Q ⟨none,0,0⟩ r1 line r2 h5
 else
 (if (end_==(((ByteArray.size text1):Nat):Int))=true then
 Q ⟨none,0,0⟩ (5:Int) line end_ h5
 else
 NewW [(yI r.Op),(yI r.A),(yI r.B),(yI r.C),(yI r.Imm)] (fun a1 h6=>
 zbb 5 40 [(yI (0:Int)),(yI (0:Int)),(yI (0:Int)),(yI (0:Int)),(yI (0:Int))] ⟨l.base,l.len,l.cap⟩ ⟨(some a1),1,1⟩ (fun r3 h7=>
 (((0:Int)<=(IntKind.wrap .i64 (end_+(1:Int)))/\(IntKind.wrap .i64 (end_+(1:Int)))<=(((ByteArray.size text1):Nat):Int))/\again1 (ByteArray.extract text1 (Int.toNat (IntKind.wrap .i64 (end_+(1:Int)))) (ByteArray.size text1)) r3 (IntKind.wrap .i64 (line+(1:Int))) h7)) h6) h5))) h4))))) (0:Int) h3
 else
 Q ⟨l.base,l.len,l.cap⟩ (0:Int) (0:Int) (0:Int) h3)) text ⟨(some a),0,0⟩ (1:Int) h2) h1)) (0:Int) (0:Int) h
def zlk (P:Program) (a:Sl) (b:Sl) (Q:(Bool->(Hp->Prop))) (h:Hp):Prop:=
 (if ((a.len:Int) !=(b.len:Int))=true then
 Q false h
 else
 LoopW1 (α1:=Int) (fun again i h1=>
 (if decide (i<(a.len:Int)) then
 ((InB a.base a.len i)/\LdW none sh_api_Ins h1 (sat a.base 5 i) fun x=>
 ((InB b.base b.len i)/\LdW none sh_api_Ins h1 (sat b.base 5 i) fun x1=>
 SemV none P (binS .neq 44 (.tmp 20) (.tmp 24) x.v x1.v) zae h1 fun x2=>
 (if x2 then
 Q false h1
 else
 again (IntKind.wrap .i64 (i+(1:Int))) h1)))
 else
 Q true h1)) (0:Int) h)
def zhp1 (P:Program) (l:Sl) (locks:Int) (Q:(Int->(Int->(Hp->Prop)))) (h:Hp):Prop:=
 LetW ((decide (locks<(0:Int))) || (decide (locks>(8:Int)))) fun y=>
 (if y then
 Q (1:Int) (0:Int) h
 else
 (if decide ((l.len:Int)>(256:Int)) then
 Q (3:Int) (256:Int) h
 else
 LoopW1 (α1:=Int) (fun again t22 h1=>
 (if decide (t22<(l.len:Int)) then
 ((InB l.base l.len t22)/\LdW none sh_api_Ins h1 (sat l.base 5 t22) fun x=>
 CallT P zis1 [x.v,(yI (l.len:Int)),(yI locks)] yH (fun r h2=>
 (if (r !=(0:Int))=true then
 Q r t22 h2
 else
 again (IntKind.wrap .i64 (t22+(1:Int))) h2)) h1)
 else
 Q (0:Int) (0:Int) h1)) (0:Int) h))
def zbs1 (P:Program) (x:S_api_Ins) (n:Int) (locks:Int) (Q:(Int->(Hp->Prop))) (h:Hp):Prop:=
 Call2 P zbq1 [x.v,(yI n),(yI locks)] yH yH (fun r r1 h1=>
 Q r h1) h
def zeu1 (P:Program) (bits:Int) (Q:(Nat->(Hp->Prop))) (h:Hp):Prop:=
 SemE P (Extern.MathFloatBits.float64frombits #[(.int .u64 (IntKind.wrap .u64 bits))]) (shFlt .f64) (fun r h1=>
 Q r h1) h
def zyy (P:Program) (u:Int) (Q:(ByteArray->(Hp->Prop))) (h:Hp):Prop:=
 CallT P zsn [(.int .u64 u),(yI (16:Int))] shStr (fun r h1=>
 CallT P zad1 [(.string ⟨#[48]⟩),(yI (IntKind.wrap .i64 ((16:Int)-(((ByteArray.size r):Nat):Int))))] shStr (fun r1 h2=>
 (((ByteArray.size r1)+(ByteArray.size r))<=9223372036854775807/\Q ⟨⟨(List.append r1.data.toList r.data.toList)⟩⟩ h2)) h1) h
def zox (P:Program) (s:ByteArray) (sep:ByteArray) (Q:(ByteArray->(ByteArray->(Bool->(Hp->Prop))))) (h:Hp):Prop:=
 Call3 P zgz [(.string s),(.string sep)] shStr shStr zae (fun r r1 r2 h1=>
 Q r r1 r2 h1) h
def zeq (P:Program) (f:Nat) (fmt:Int) (prec:Int) (bitSize:Int) (Q:(ByteArray->(Hp->Prop))) (h:Hp):Prop:=
 CallT P zjg [(.float .f64 f),(.int .u8 fmt),(yI prec),(yI bitSize)] shStr (fun r h1=>
 Q r h1) h
def zvx (P:Program) (s:ByteArray) (Q:(Int->(Leaf->(Hp->Prop)))) (h:Hp):Prop:=
 Call2 P zjl [(.string s)] yH zai (fun r r1 h1=>
 ((isIfV r1.v)=true/\(if (!(zcl r1.v))=true then
 CallT P zcz [(.string ⟨#[65,116,111,105]⟩),(.string s),(yI (0:Int)),(yI (0:Int)),r1.v] zai (fun r2 h2=>
 EncW zai r2.v fun e=>
 Q r e h2) h1
 else
 EncW zai .nilIface fun e=>
 Q r e h1))) h
def zqz (P:Program) (i:Int) (Q:(ByteArray->(Hp->Prop))) (h:Hp):Prop:=
 CallT P zos [(yI i)] shStr (fun r h1=>
 Q r h1) h
def zmn (P:Program) (n:Int) (Q:(ByteArray->(Hp->Prop))) (h:Hp):Prop:=
 LoopW2 (α1:=ByteArray) (α2:=Int) (fun again s i h1=>
 (if decide (i>=(0:Int)) then
 ((0:Int)<=(IntKind.wrap .i64 ((4:Int)*i))/\(((0:Int)<=(bitsI .and .u64 (shrI .u64 n (IntKind.wrap .i64 ((4:Int)*i))) (15:Int))/\((bitsI .and .u64 (shrI .u64 n (IntKind.wrap .i64 ((4:Int)*i))) (15:Int))<=(IntKind.wrap .u64 ((bitsI .and .u64 (shrI .u64 n (IntKind.wrap .i64 ((4:Int)*i))) (15:Int))+(1:Int)))/\(IntKind.wrap .u64 ((bitsI .and .u64 (shrI .u64 n (IntKind.wrap .i64 ((4:Int)*i))) (15:Int))+(1:Int)))<=(16:Int)))/\(((ByteArray.size s)+(ByteArray.size (ByteArray.extract ⟨#[48,49,50,51,52,53,54,55,56,57,97,98,99,100,101,102]⟩ (Int.toNat (bitsI .and .u64 (shrI .u64 n (IntKind.wrap .i64 ((4:Int)*i))) (15:Int))) (Int.toNat (IntKind.wrap .u64 ((bitsI .and .u64 (shrI .u64 n (IntKind.wrap .i64 ((4:Int)*i))) (15:Int))+(1:Int)))))))<=9223372036854775807/\again ⟨⟨(List.append s.data.toList (ByteArray.extract ⟨#[48,49,50,51,52,53,54,55,56,57,97,98,99,100,101,102]⟩ (Int.toNat (bitsI .and .u64 (shrI .u64 n (IntKind.wrap .i64 ((4:Int)*i))) (15:Int))) (Int.toNat (IntKind.wrap .u64 ((bitsI .and .u64 (shrI .u64 n (IntKind.wrap .i64 ((4:Int)*i))) (15:Int))+(1:Int))))).data.toList)⟩⟩ (IntKind.wrap .i64 (i-(1:Int))) h1)))
 else
 Q s h1)) ⟨#[]⟩ (15:Int) h
def zhj (P:Program) (b:Int) (Q:(ByteArray->(Hp->Prop))) (h:Hp):Prop:=
 (if (b==(0:Int))=true then
 Q ⟨#[48,101,48]⟩ h
 else
 Call2 P zjm [(.int .u64 b)] (shInt .u64) yH (fun r r1 h1=>
 CallT P zdk [(.int .u64 r)] shStr (fun r2 h2=>
 (((0:Int)<=(1:Int)/\(1:Int)<=(((ByteArray.size r2):Nat):Int))/\JoinW1 (α1:=ByteArray) (fun k=>
 (if (decide ((((ByteArray.size r2):Nat):Int)>(1:Int)))=true then
 (((0:Int)<=(1:Int)/\(1:Int)<=(((ByteArray.size r2):Nat):Int))/\((1+(ByteArray.size (ByteArray.extract r2 1 (ByteArray.size r2))))<=9223372036854775807/\(((ByteArray.size (ByteArray.extract r2 0 1))+(ByteArray.size ⟨⟨(46::(ByteArray.extract r2 1 (ByteArray.size r2)).data.toList)⟩⟩))<=9223372036854775807/\k ⟨⟨(List.append (ByteArray.extract r2 0 1).data.toList (46::(ByteArray.extract r2 1 (ByteArray.size r2)).data.toList))⟩⟩ h2)))
 else
 k (ByteArray.extract r2 0 1) h2))
 (fun s h3=>
 (if decide (r1<(0:Int)) then
 (((ByteArray.size s)+2)<=9223372036854775807/\CallT P zdk [(.int .u64 (IntKind.wrap .u64 (IntKind.wrap .i64 ((0:Int)-r1))))] shStr (fun r3 h4=>
 (((ByteArray.size ⟨⟨(List.append s.data.toList [101,45])⟩⟩)+(ByteArray.size r3))<=9223372036854775807/\Q ⟨⟨(List.append (List.append s.data.toList [101,45]) r3.data.toList)⟩⟩ h4)) h3)
 else
 (((ByteArray.size s)+1)<=9223372036854775807/\CallT P zdk [(.int .u64 (IntKind.wrap .u64 r1))] shStr (fun r3 h4=>
 (((ByteArray.size ⟨⟨(List.append s.data.toList [101])⟩⟩)+(ByteArray.size r3))<=9223372036854775807/\Q ⟨⟨(List.append (List.append s.data.toList [101]) r3.data.toList)⟩⟩ h4)) h3))))) h1) h)
def znm (P:Program) (s:ByteArray) (prefix_:ByteArray) (Q:(ByteArray->(Bool->(Hp->Prop)))) (h:Hp):Prop:=
 Call2 P zdo [(.string s),(.string prefix_)] shStr zae (fun r r1 h1=>
 Q r r1 h1) h
def zgi (P:Program) (s:ByteArray) (base:Int) (bitSize:Int) (Q:(Int->(Leaf->(Hp->Prop)))) (h:Hp):Prop:=
 Call2 P zfm [(.string s),(yI base),(yI bitSize)] (shInt .u64) zai (fun r r1 h1=>
 ((isIfV r1.v)=true/\(if (!(zcl r1.v))=true then
 CallT P zcz [(.string ⟨#[80,97,114,115,101,85,105,110,116]⟩),(.string s),(yI base),(yI bitSize),r1.v] zai (fun r2 h2=>
 EncW zai r2.v fun e=>
 Q r e h2) h1
 else
 EncW zai .nilIface fun e=>
 Q r e h1))) h
def zfh (P:Program) (s:ByteArray) (bitSize:Int) (Q:(Nat->(Leaf->(Hp->Prop)))) (h:Hp):Prop:=
 Call2 P zfb [(.string s),(yI bitSize)] (shFlt .f64) zai (fun r r1 h1=>
 ((isIfV r1.v)=true/\(if (!(zcl r1.v))=true then
 CallT P zcz [(.string ⟨#[80,97,114,115,101,70,108,111,97,116]⟩),(.string s),(yI (0:Int)),(yI bitSize),r1.v] zai (fun r2 h2=>
 EncW zai r2.v fun e=>
 Q r e h2) h1
 else
 EncW zai .nilIface fun e=>
 Q r e h1))) h
def zkl (P:Program) (c:Int) (Q:(Int->(Hp->Prop))) (h:Hp):Prop:=
 LoopW1 (α1:=Int) (fun again d h1=>
 (if decide (d<(16:Int)) then
 (((0:Int)<=d/\d<(16:Int))/\(if ((((UInt8.toNat (List.getD [48,49,50,51,52,53,54,55,56,57,97,98,99,100,101,102] (Int.toNat d) 0)):Nat):Int)==c)=true then
 Q d h1
 else
 again (IntKind.wrap .u64 (d+(1:Int))) h1))
 else
 Q (16:Int) h1)) (0:Int) h
def zdz (P:Program) (t:ByteArray) (Q:(Int->(Int->(Bool->(Hp->Prop))))) (h:Hp):Prop:=
 LoopW3 (α1:=Int) (α2:=Int) (α3:=Int) (fun again c s i h1=>
 (((decide (i<(((ByteArray.size t):Nat):Int)))=true->((0:Int)<=i/\i<(((ByteArray.size t):Nat):Int)))/\LetW ((decide (i<(((ByteArray.size t):Nat):Int)))&&((((UInt8.toNat (List.getD t.data.toList (Int.toNat i) 0)):Nat):Int) !=(101:Int))) fun y=>
 (if y then
 JoinW3 (α1:=Int) (α2:=Int) (α3:=Int) (fun k=>
 (((i==(1:Int))=true->((0:Int)<=i/\i<(((ByteArray.size t):Nat):Int)))/\LetW ((i==(1:Int))&&((((UInt8.toNat (List.getD t.data.toList (Int.toNat i) 0)):Nat):Int)==(46:Int))) fun y1=>
 (if y1 then
 k c s (IntKind.wrap .i64 (i+(1:Int))) h1
 else
 (((0:Int)<=i/\i<(((ByteArray.size t):Nat):Int))/\(((!(decide ((((UInt8.toNat (List.getD t.data.toList (Int.toNat i) 0)):Nat):Int)<(48:Int))))=true->((0:Int)<=i/\i<(((ByteArray.size t):Nat):Int)))/\LetW ((decide ((((UInt8.toNat (List.getD t.data.toList (Int.toNat i) 0)):Nat):Int)<(48:Int))) || (decide ((((UInt8.toNat (List.getD t.data.toList (Int.toNat i) 0)):Nat):Int)>(57:Int)))) fun y2=>
 LetW (y2 || (decide (i>(18:Int)))) fun y3=>
 (if y3 then
 Q (0:Int) (0:Int) false h1
 else
 (((0:Int)<=i/\i<(((ByteArray.size t):Nat):Int))/\JoinW1 (α1:=Int) (fun k1=>
 (if decide (i>(1:Int)) then
 k1 (IntKind.wrap .i64 (s-(1:Int))) h1
 else
 k1 s h1))
 (fun s1 h2=>
 k (IntKind.wrap .u64 ((IntKind.wrap .u64 ((10:Int)*c))+(IntKind.wrap .u64 (IntKind.wrap .u8 ((((UInt8.toNat (List.getD t.data.toList (Int.toNat i) 0)):Nat):Int)-(48:Int)))))) s1 (IntKind.wrap .i64 (i+(1:Int))) h2))))))))
 (fun c1 s1 i1 h2=>
 again c1 s1 i1 h2)
 else
 (((decide ((IntKind.wrap .i64 (i+(1:Int)))<(((ByteArray.size t):Nat):Int)))=true->((0:Int)<=(IntKind.wrap .i64 (i+(1:Int)))/\(IntKind.wrap .i64 (i+(1:Int)))<(((ByteArray.size t):Nat):Int)))/\LetW ((decide ((IntKind.wrap .i64 (i+(1:Int)))<(((ByteArray.size t):Nat):Int)))&&((((UInt8.toNat (List.getD t.data.toList (Int.toNat (IntKind.wrap .i64 (i+(1:Int)))) 0)):Nat):Int)==(45:Int))) fun y1=>
 JoinW1 (α1:=Int) (fun k=>
 (if y1 then
 k (IntKind.wrap .i64 ((IntKind.wrap .i64 (i+(1:Int)))+(1:Int))) h1
 else
 k (IntKind.wrap .i64 (i+(1:Int))) h1))
 (fun i1 h2=>
 LetW ((decide (i1>=(((ByteArray.size t):Nat):Int))) || (decide ((IntKind.wrap .i64 ((((ByteArray.size t):Nat):Int)-i1))>(3:Int)))) fun y2=>
 LetW (y2 || (c==(0:Int))) fun y3=>
 (if y3 then
 Q (0:Int) (0:Int) false h2
 else
 LoopW2 (α1:=Int) (α2:=Int) (fun again1 i2 e h3=>
 (if (decide (i2<(((ByteArray.size t):Nat):Int)))=true then
 (((0:Int)<=i2/\i2<(((ByteArray.size t):Nat):Int))/\(((!(decide ((((UInt8.toNat (List.getD t.data.toList (Int.toNat i2) 0)):Nat):Int)<(48:Int))))=true->((0:Int)<=i2/\i2<(((ByteArray.size t):Nat):Int)))/\LetW ((decide ((((UInt8.toNat (List.getD t.data.toList (Int.toNat i2) 0)):Nat):Int)<(48:Int))) || (decide ((((UInt8.toNat (List.getD t.data.toList (Int.toNat i2) 0)):Nat):Int)>(57:Int)))) fun y4=>
 (if y4 then
 Q (0:Int) (0:Int) false h3
 else
 (((0:Int)<=i2/\i2<(((ByteArray.size t):Nat):Int))/\again1 (IntKind.wrap .i64 (i2+(1:Int))) (IntKind.wrap .i64 ((IntKind.wrap .i64 ((10:Int)*e))+(IntKind.wrap .i64 (IntKind.wrap .u8 ((((UInt8.toNat (List.getD t.data.toList (Int.toNat i2) 0)):Nat):Int)-(48:Int)))))) h3))))
 else
 (if y1 then
 Q c (IntKind.wrap .i64 (s+(IntKind.wrap .i64 ((0:Int)-e)))) true h3
 else
 Q c (IntKind.wrap .i64 (s+e)) true h3))) i1 (0:Int) h2)))))) (0:Int) (0:Int) (0:Int) h
def zio (P:Program) (c:Int) (s:Int) (Q:(Int->(Hp->Prop))) (h:Hp):Prop:=
 LoopW2 (α1:=Int) (α2:=Int) (fun again low high h1=>
 (if decide (low<high) then
 JoinW2 (α1:=Int) (α2:=Int) (fun k=>
 ((2:Int)≠(0:Int)/\CallT P zem [(.int .u64 (IntKind.wrap .u64 (low+(IntKind.wrap .u64 (Int.tdiv (IntKind.wrap .u64 (high-low)) (2:Int)))))),(.int .u64 c),(yI s)] yH (fun r h2=>
 (if (r==(0:Int))=true then
 Q (IntKind.wrap .u64 (low+(IntKind.wrap .u64 (Int.tdiv (IntKind.wrap .u64 (high-low)) (2:Int))))) h2
 else
 (if decide (r<(0:Int)) then
 k low (IntKind.wrap .u64 (low+(IntKind.wrap .u64 (Int.tdiv (IntKind.wrap .u64 (high-low)) (2:Int))))) h2
 else
 k (IntKind.wrap .u64 ((IntKind.wrap .u64 (low+(IntKind.wrap .u64 (Int.tdiv (IntKind.wrap .u64 (high-low)) (2:Int)))))+(1:Int))) high h2))) h1))
 (fun low1 high1 h2=>
 again low1 high1 h2)
 else
 CallT P zem [(.int .u64 low),(.int .u64 c),(yI s)] yH (fun r h2=>
 (if (r==(0:Int))=true then
 Q low h2
 else
 Q (0:Int) h2)) h1)) (1:Int) (9218868437227405311:Int) h
def zyz (P:Program) (x:S_api_Ins) (Q:(ByteArray->(Hp->Prop))) (h:Hp):Prop:=
 CallT P zho1 [(yI x.Op)] shStr (fun r h1=>
 NewW [(.string r)] (fun a h2=>
 Call4 P zot [(yI x.Op)] zae zae zae zae (fun r1 r2 r3 r4 h3=>
 JoinW1 (α1:=Sl) (fun k=>
 (if r1 then
 CallT P zmt [(yI x.A)] shStr (fun r5 h4=>
 NewW [(.string r5)] (fun a1 h5=>
 zbb 1 16 [(.string ⟨#[]⟩)] ⟨(some a),1,1⟩ ⟨(some a1),1,1⟩ (fun r6 h6=>
 k r6 h6) h5) h4) h3
 else
 k ⟨(some a),1,1⟩ h3))
 (fun l h4=>
 JoinW1 (α1:=Sl) (fun k=>
 (if r2 then
 CallT P zmt [(yI x.B)] shStr (fun r5 h5=>
 NewW [(.string r5)] (fun a1 h6=>
 zbb 1 16 [(.string ⟨#[]⟩)] l ⟨(some a1),1,1⟩ (fun r6 h7=>
 k r6 h7) h6) h5) h4
 else
 k l h4))
 (fun l1 h5=>
 JoinW1 (α1:=Sl) (fun k=>
 (if r3 then
 CallT P zmt [(yI x.C)] shStr (fun r5 h6=>
 NewW [(.string r5)] (fun a1 h7=>
 zbb 1 16 [(.string ⟨#[]⟩)] l1 ⟨(some a1),1,1⟩ (fun r6 h8=>
 k r6 h8) h7) h6) h5
 else
 k l1 h5))
 (fun l2 h6=>
 JoinW1 (α1:=Sl) (fun k=>
 (if r4 then
 CallT P zit1 [x.v] shStr (fun r5 h7=>
 NewW [(.string r5)] (fun a1 h8=>
 zbb 1 16 [(.string ⟨#[]⟩)] l2 ⟨(some a1),1,1⟩ (fun r6 h9=>
 k r6 h9) h8) h7) h6
 else
 k l2 h6))
 (fun l3 h7=>
 CallT P zoe1 [l3.v] shStr (fun r5 h8=>
 Q r5 h8) h7))))) h2) h1) h
def zrx (P:Program) (r:Option Addr) (n:Int) (Q:(S_api_Ins->(Hp->Prop))) (h:Hp):Prop:=
 NilW none r fun p=>
 LdW none shStr h (Addr.add p 0) fun x=>
 Call3 P zmc [(.string x),(.string ⟨#[32]⟩)] shStr shStr zae (fun r1 r2 r3 h1=>
 Call2 P zqf1 [(.string r1)] yH zae (fun r4 r5 h2=>
 (if (!r5)=true then
 Call0 P zav [(yP r),(yI (9:Int)),(yI (0:Int))] (fun h3=>
 Q ⟨(0:Int),(0:Int),(0:Int),(0:Int),(0:Int)⟩ h3) h2
 else
 NilW none r fun p1=>
 StW h2 (Addr.add p1 1) [(yI (((ByteArray.size r1):Nat):Int))] (fun h3=>
 Call4 P zot [(yI r4)] zae zae zae zae (fun r6 r7 r8 r9 h4=>
 CallT P zhg [(yP r),(.bool r6)] yH (fun r10 h5=>
 CallT P zhg [(yP r),(.bool r7)] yH (fun r11 h6=>
 CallT P zhg [(yP r),(.bool r8)] yH (fun r12 h7=>
 JoinW1 (α1:=S_api_Ins) (fun k=>
 (if r9 then
 CallT P zue [(yP r),(yI r4),(yI n)] yH (fun r13 h8=>
 k ⟨r4,r10,r11,r12,r13⟩ h8) h7
 else
 k ⟨r4,r10,r11,r12,(0:Int)⟩ h7))
 (fun x1 h8=>
 NilW none r fun p2=>
 yLi h8 p2 1 fun x2=>
 NilW none r fun p3=>
 LdW none shStr h8 (Addr.add p3 0) fun x3=>
 (if (decide (x2<(((ByteArray.size x3):Nat):Int)))=true then
 NilW none r fun p4=>
 yLi h8 p4 1 fun x4=>
 Call0 P zav [(yP r),(yI (6:Int)),(yI x4)] (fun h9=>
 Q x1 h9) h8
 else
 Q x1 h8))) h6) h5) h4) h3))) h1) h
def zqh (P:Program) (r:Option Addr) (e:Int) (at_:Int) (Q:(Hp->Prop)) (h:Hp):Prop:=
 NilW none r fun p=>
 yLi h p 2 fun x=>
 (if (x==(0:Int))=true then
 NilW none r fun p1=>
 StW h (Addr.add p1 2) [(yI e)] (fun h1=>
 NilW none r fun p2=>
 StW h1 (Addr.add p2 3) [(yI at_)] (fun h2=>
 Q h2))
 else
 Q h)
def zll (P:Program) (s:ByteArray) (n:Int) (Q:(S_api_Ins->(Int->(Int->(Hp->Prop))))) (h:Hp):Prop:=
 CallT P zlf [(.string s),(yI (0:Int))] yH (fun r h1=>
 LoopW2 (α1:=Int) (α2:=Int) (fun again op i h2=>
 (if decide (i<(34:Int)) then
 JoinW1 (α1:=Int) (fun k=>
 (((0:Int)<=r/\r<=(((ByteArray.size s):Nat):Int))/\CallT P zrg [(yI i)] shStr (fun r1 h3=>
 (if ((ByteArray.toList r1)==(ByteArray.toList (ByteArray.extract s 0 (Int.toNat r))))=true then
 k i h3
 else
 k op h3)) h2))
 (fun op1 h3=>
 again op1 (IntKind.wrap .i64 (i+(1:Int))) h3)
 else
 (if decide (op<(0:Int)) then
 Q ⟨(0:Int),(0:Int),(0:Int),(0:Int),(0:Int)⟩ (9:Int) (0:Int) h2
 else
 Call4 P zjn [(yI op)] zae zae zae zae (fun r1 r2 r3 r4 h3=>
 NewW [(yI (0:Int)),(yI (0:Int)),(yI (0:Int))] (fun a h4=>
 StW h4 a [(yI (0:Int)),(yI (0:Int)),(yI (0:Int))] (fun h5=>
 LoopW3 (α1:=Int) (α2:=Int) (α3:=S_api_Ins) (fun again1 at_ k t4 h6=>
 (if decide (k<(3:Int)) then
 JoinW2 (α1:=Int) (α2:=S_api_Ins) (fun k1=>
 (((0:Int)<=k/\k<(3:Int))/\∃x:Bool,((List.get?Internal (α:=Value) [(.bool r1),(.bool r2),(.bool r3)] (0+((Int.toNat k)*1)))=(some (.bool x))/\(if (!x)=true then
 k1 at_ t4 h6
 else
 Call4 P zdw [(.string s),(yI at_)] shStr yH yH zae (fun r5 r6 r7 r8 h7=>
 (if (!r8)=true then
 Q ⟨(0:Int),(0:Int),(0:Int),(0:Int),(0:Int)⟩ (5:Int) (((ByteArray.size s):Nat):Int) h7
 else
 Call2 P zei [(.string r5)] yH zae (fun r9 r10 h8=>
 (if (!r10)=true then
 Q ⟨(0:Int),(0:Int),(0:Int),(0:Int),(0:Int)⟩ (10:Int) r6 h8
 else
 (((0:Int)<=k/\k<(3:Int))/\StW h8 (Addr.add a ((Int.toNat k)*1)) [(yI r9)] (fun h9=>
 k1 r7 t4 h9)))) h7)) h6))))
 (fun at_1 t41 h7=>
 again1 at_1 (IntKind.wrap .i64 (k+(1:Int))) t41 h7)
 else
 (((0:Int)<=(0:Int)/\(0:Int)<(3:Int))/\yLi h6 a 0 fun x=>
 (((0:Int)<=(1:Int)/\(1:Int)<(3:Int))/\yLi h6 a 1 fun x1=>
 (((0:Int)<=(2:Int)/\(2:Int)<(3:Int))/\yLi h6 a 2 fun x2=>
 (((LdIs h6 (Addr.add a 1) [(yI x1)])/\((LdIs h6 (Addr.add a 2) [(yI x2)])/\True))/\(((LdIs h6 (Addr.add a 2) [(yI x2)])/\True)/\(if r4 then
 Call4 P zdw [(.string s),(yI at_)] shStr yH yH zae (fun r5 r6 r7 r8 h7=>
 (if (!r8)=true then
 Q ⟨(0:Int),(0:Int),(0:Int),(0:Int),(0:Int)⟩ (5:Int) (((ByteArray.size s):Nat):Int) h7
 else
 Call2 P zij [(yI op),(.string r5),(yI n)] yH yH (fun r9 r10 h8=>
 (if (r10 !=(0:Int))=true then
 Q ⟨(0:Int),(0:Int),(0:Int),(0:Int),(0:Int)⟩ r10 r6 h8
 else
 (if (decide (r7<(((ByteArray.size s):Nat):Int)))=true then
 Q ⟨(0:Int),(0:Int),(0:Int),(0:Int),(0:Int)⟩ (6:Int) r7 h8
 else
 Q ⟨op,x,x1,x2,r9⟩ (0:Int) (0:Int) h8))) h7)) h6
 else
 (if (decide (at_<(((ByteArray.size s):Nat):Int)))=true then
 Q ⟨(0:Int),(0:Int),(0:Int),(0:Int),(0:Int)⟩ (6:Int) at_ h6
 else
 Q ⟨op,x,x1,x2,(0:Int)⟩ (0:Int) (0:Int) h6))))))))) r (0:Int) ⟨(0:Int),(0:Int),(0:Int),(0:Int),(0:Int)⟩ h5)) h3) h2))) (-1:Int) (0:Int) h1) h
def zbt1 (P:Program) (x:S_api_Ins) (n:Int) (locks:Int) (Q:(Int->(Int->(Hp->Prop)))) (h:Hp):Prop:=
 LetW ((decide (x.Op<(0:Int))) || (decide (x.Op>=(34:Int)))) fun y=>
 (if y then
 Q (9:Int) (0:Int) h
 else
 Call4 P zot [(yI x.Op)] zae zae zae zae (fun r r1 r2 r3 h1=>
 CallT P zou [(.bool r),(yI x.A)] yH (fun r4 h2=>
 (if (r4 !=(0:Int))=true then
 Q r4 (1:Int) h2
 else
 CallT P zou [(.bool r1),(yI x.B)] yH (fun r5 h3=>
 (if (r5 !=(0:Int))=true then
 Q r5 (2:Int) h3
 else
 CallT P zou [(.bool r2),(yI x.C)] yH (fun r6 h4=>
 (if (r6 !=(0:Int))=true then
 Q r6 (3:Int) h4
 else
 CallT P zgg1 [x.v,(.bool r3),(yI n),(yI locks)] yH (fun r7 h5=>
 Q r7 (4:Int) h5) h4)) h3)) h2)) h1) h)
def zsp (P:Program) (i:Int) (base:Int) (Q:(ByteArray->(Hp->Prop))) (h:Hp):Prop:=
 CallT P zjx [(.int .u64 i),(yI base)] shStr (fun r h1=>
 Q r h1) h
def zae1 (P:Program) (s:ByteArray) (count:Int) (Q:(ByteArray->(Hp->Prop))) (h:Hp):Prop:=
 (if (count==(0:Int))=true then
 Q ⟨#[]⟩ h
 else
 (if (count==(1:Int))=true then
 Q s h
 else
 JoinW0 (fun k=>
 (if decide (count<(0:Int)) then
 False
 else
 k h))
 (fun h1=>
 Call2 P zld1 [(.int .u64 (IntKind.wrap .u64 (((ByteArray.size s):Nat):Int))),(.int .u64 (IntKind.wrap .u64 count))] (shInt .u64) (shInt .u64) (fun r r1 h2=>
 JoinW0 (fun k=>
 LetW ((decide (r>(0:Int))) || (decide (r1>(9223372036854775807:Int)))) fun y=>
 (if y then
 False
 else
 k h2))
 (fun h3=>
 (if ((((ByteArray.size s):Nat):Int)==(0:Int))=true then
 Q ⟨#[]⟩ h3
 else
 (((0:Int)<=(0:Int)/\(0:Int)<(((ByteArray.size s):Nat):Int))/\JoinW0 (fun k=>
 JoinW1 (α1:=Bool) (fun k1=>
 (if ((((UInt8.toNat (List.getD s.data.toList 0 0)):Nat):Int)==(32:Int))=true then
 k1 ((((UInt8.toNat (List.getD s.data.toList 0 0)):Nat):Int)==(32:Int)) h3
 else
 (if ((((UInt8.toNat (List.getD s.data.toList 0 0)):Nat):Int)==(45:Int))=true then
 k1 ((((UInt8.toNat (List.getD s.data.toList 0 0)):Nat):Int)==(45:Int)) h3
 else
 (if ((((UInt8.toNat (List.getD s.data.toList 0 0)):Nat):Int)==(48:Int))=true then
 k1 ((((UInt8.toNat (List.getD s.data.toList 0 0)):Nat):Int)==(48:Int)) h3
 else
 (if ((((UInt8.toNat (List.getD s.data.toList 0 0)):Nat):Int)==(61:Int))=true then
 k1 ((((UInt8.toNat (List.getD s.data.toList 0 0)):Nat):Int)==(61:Int)) h3
 else
 k1 ((((UInt8.toNat (List.getD s.data.toList 0 0)):Nat):Int)==(9:Int)) h3)))))
 (fun t43 h4=>
 (if t43 then
 EffC (some (decide ((IntKind.wrap .i64 r1)<=(128:Int)))) (CallT P zgf [(.string ⟨(List.replicate 128 32).toArray⟩),(.string s)] zae) (fun r2 h5=>
 LetW ((decide ((IntKind.wrap .i64 r1)<=(128:Int)))&&r2) fun y=>
 (if y then
 (((0:Int)<=(IntKind.wrap .i64 r1)/\(IntKind.wrap .i64 r1)<=(128:Int))/\Q (ByteArray.extract ⟨(List.replicate 128 32).toArray⟩ 0 (Int.toNat (IntKind.wrap .i64 r1))) h5)
 else
 EffC (some (decide ((IntKind.wrap .i64 r1)<=(128:Int)))) (CallT P zgf [(.string ⟨(List.replicate 128 45).toArray⟩),(.string s)] zae) (fun r3 h6=>
 LetW ((decide ((IntKind.wrap .i64 r1)<=(128:Int)))&&r3) fun y1=>
 (if y1 then
 (((0:Int)<=(IntKind.wrap .i64 r1)/\(IntKind.wrap .i64 r1)<=(128:Int))/\Q (ByteArray.extract ⟨(List.replicate 128 45).toArray⟩ 0 (Int.toNat (IntKind.wrap .i64 r1))) h6)
 else
 EffC (some (decide ((IntKind.wrap .i64 r1)<=(64:Int)))) (CallT P zgf [(.string ⟨(List.replicate 64 48).toArray⟩),(.string s)] zae) (fun r4 h7=>
 LetW ((decide ((IntKind.wrap .i64 r1)<=(64:Int)))&&r4) fun y2=>
 (if y2 then
 (((0:Int)<=(IntKind.wrap .i64 r1)/\(IntKind.wrap .i64 r1)<=(64:Int))/\Q (ByteArray.extract ⟨(List.replicate 64 48).toArray⟩ 0 (Int.toNat (IntKind.wrap .i64 r1))) h7)
 else
 EffC (some (decide ((IntKind.wrap .i64 r1)<=(128:Int)))) (CallT P zgf [(.string ⟨(List.replicate 128 61).toArray⟩),(.string s)] zae) (fun r5 h8=>
 LetW ((decide ((IntKind.wrap .i64 r1)<=(128:Int)))&&r5) fun y3=>
 (if y3 then
 (((0:Int)<=(IntKind.wrap .i64 r1)/\(IntKind.wrap .i64 r1)<=(128:Int))/\Q (ByteArray.extract ⟨(List.replicate 128 61).toArray⟩ 0 (Int.toNat (IntKind.wrap .i64 r1))) h8)
 else
 EffC (some (decide ((IntKind.wrap .i64 r1)<=(64:Int)))) (CallT P zgf [(.string ⟨(List.replicate 64 9).toArray⟩),(.string s)] zae) (fun r6 h9=>
 LetW ((decide ((IntKind.wrap .i64 r1)<=(64:Int)))&&r6) fun y4=>
 (if y4 then
 (((0:Int)<=(IntKind.wrap .i64 r1)/\(IntKind.wrap .i64 r1)<=(64:Int))/\Q (ByteArray.extract ⟨(List.replicate 64 9).toArray⟩ 0 (Int.toNat (IntKind.wrap .i64 r1))) h9)
 else
 k h9)) h8)) h7)) h6)) h5)) h4
 else
 k h4)))
 (fun h4=>
 JoinW1 (α1:=Int) (fun k=>
 (if decide ((IntKind.wrap .i64 r1)>(8192:Int)) then
 ((((ByteArray.size s):Nat):Int)≠(0:Int)/\(if ((IntKind.wrap .i64 ((IntKind.wrap .i64 (Int.tdiv (8192:Int) (((ByteArray.size s):Nat):Int)))*(((ByteArray.size s):Nat):Int)))==(0:Int))=true then
 k (((ByteArray.size s):Nat):Int) h4
 else
 k (IntKind.wrap .i64 ((IntKind.wrap .i64 (Int.tdiv (8192:Int) (((ByteArray.size s):Nat):Int)))*(((ByteArray.size s):Nat):Int))) h4))
 else
 k (IntKind.wrap .i64 r1) h4))
 (fun chunkMax h5=>
 NewTW 76 [(yP none),yN] (fun a h6=>
 Call0 P zaf1 [(yP (some a)),(yI (IntKind.wrap .i64 r1))] (fun h7=>
 Call2 P zbw [(yP (some a)),(.string s)] yH zai (fun r2 r3 h8=>
 LoopW0 (fun again h9=>
 CallT P zlg [(yP (some a))] yH (fun r4 h10=>
 (if decide (r4<(IntKind.wrap .i64 r1)) then
 CallT P zlg [(yP (some a))] yH (fun r5 h11=>
 CallT P zlg [(yP (some a))] yH (fun r6 h12=>
 CallT P zew [(yP (some a))] shStr (fun r7 h13=>
 (((0:Int)<=(min2I (min2I (IntKind.wrap .i64 ((IntKind.wrap .i64 r1)-r5)) r6) chunkMax)/\(min2I (min2I (IntKind.wrap .i64 ((IntKind.wrap .i64 r1)-r5)) r6) chunkMax)<=(((ByteArray.size r7):Nat):Int))/\Call2 P zbw [(yP (some a)),(.string (ByteArray.extract r7 0 (Int.toNat (min2I (min2I (IntKind.wrap .i64 ((IntKind.wrap .i64 r1)-r5)) r6) chunkMax))))] yH zai (fun r8 r9 h14=>
 again h14) h13)) h12) h11) h10
 else
 CallT P zew [(yP (some a))] shStr (fun r5 h11=>
 Q r5 h11) h10)) h9)  h8) h7) h6) h5)))))) h1)))
def zhc (P:Program) (s:ByteArray) (sep:ByteArray) (Q:(ByteArray->(ByteArray->(Bool->(Hp->Prop))))) (h:Hp):Prop:=
 CallT P zks [(.string s),(.string sep)] yH (fun r h1=>
 (if decide (r>=(0:Int)) then
 (((0:Int)<=r/\r<=(((ByteArray.size s):Nat):Int))/\(((0:Int)<=(IntKind.wrap .i64 (r+(((ByteArray.size sep):Nat):Int)))/\(IntKind.wrap .i64 (r+(((ByteArray.size sep):Nat):Int)))<=(((ByteArray.size s):Nat):Int))/\Q (ByteArray.extract s 0 (Int.toNat r)) (ByteArray.extract s (Int.toNat (IntKind.wrap .i64 (r+(((ByteArray.size sep):Nat):Int)))) (ByteArray.size s)) true h1))
 else
 Q s ⟨#[]⟩ false h1)) h
def zer (P:Program) (f:Nat) (fmt:Int) (prec:Int) (bitSize:Int) (Q:(ByteArray->(Hp->Prop))) (h:Hp):Prop:=
 (if (bitSize==(32:Int))=true then
 MakeW 1 [(.int .u8 (0:Int))] (0:Int) (max2I (IntKind.wrap .i64 (prec+(4:Int))) (24:Int)) (fun r h1=>
 SemV none P (convert 48 120 (.float .f64 f)) (shFlt .f32) h1 fun x=>
 CallT P zvv [r.v,(.float .f32 x),(.int .u8 fmt),(yI prec)] shSl (fun r1 h2=>
 SemV none P (convert 74 9 r1.v) shStr h2 fun x1=>
 Q x1 h2) h1) h
 else
 (if (bitSize==(64:Int))=true then
 MakeW 1 [(.int .u8 (0:Int))] (0:Int) (max2I (IntKind.wrap .i64 (prec+(4:Int))) (24:Int)) (fun r h1=>
 CallT P zmu [r.v,(.float .f64 f),(.int .u8 fmt),(yI prec)] shSl (fun r1 h2=>
 SemV none P (convert 74 9 r1.v) shStr h2 fun x=>
 Q x h2) h1) h
 else
 False))
def zoy (P:Program) (s:ByteArray) (Q:(Int->(Leaf->(Hp->Prop)))) (h:Hp):Prop:=
 LetW ((decide ((0:Int)<(((ByteArray.size s):Nat):Int)))&&(decide ((((ByteArray.size s):Nat):Int)<(10:Int)))) fun y=>
 LetW (false&&y) fun y1=>
 LetW ((decide ((0:Int)<(((ByteArray.size s):Nat):Int)))&&(decide ((((ByteArray.size s):Nat):Int)<(19:Int)))) fun y2=>
 LetW (true&&y2) fun y3=>
 LetW (y1 || y3) fun y4=>
 (if y4 then
 JoinW1 (α1:=ByteArray) (fun k=>
 (((0:Int)<=(0:Int)/\(0:Int)<(((ByteArray.size s):Nat):Int))/\(((!((((UInt8.toNat (List.getD s.data.toList 0 0)):Nat):Int)==(45:Int)))=true->((0:Int)<=(0:Int)/\(0:Int)<(((ByteArray.size s):Nat):Int)))/\LetW (((((UInt8.toNat (List.getD s.data.toList 0 0)):Nat):Int)==(45:Int)) || ((((UInt8.toNat (List.getD s.data.toList 0 0)):Nat):Int)==(43:Int))) fun y5=>
 (if y5 then
 (((0:Int)<=(1:Int)/\(1:Int)<=(((ByteArray.size s):Nat):Int))/\(if (decide ((((ByteArray.size (ByteArray.extract s 1 (ByteArray.size s))):Nat):Int)<(1:Int)))=true then
 EncW zai (.iface 122 (yI (2:Int))) fun e=>
 Q (0:Int) e h
 else
 k (ByteArray.extract s 1 (ByteArray.size s)) h))
 else
 k s h))))
 (fun s1 h1=>
 zza1 s1 (fun r h2=>
 LoopW2 (α1:=Int) (α2:=Int) (fun again n t49 h3=>
 (if decide (t49<(r.len:Int)) then
 ((InB r.base r.len t49)/\LdW none (shInt .u8) h3 (sat r.base 1 t49) fun x=>
 (if (decide ((IntKind.wrap .u8 (x-(48:Int)))>(9:Int)))=true then
 EncW zai (.iface 122 (yI (2:Int))) fun e=>
 Q (0:Int) e h3
 else
 again (IntKind.wrap .i64 ((IntKind.wrap .i64 (n*(10:Int)))+(IntKind.wrap .i64 (IntKind.wrap .u8 (x-(48:Int)))))) (IntKind.wrap .i64 (t49+(1:Int))) h3))
 else
 (((0:Int)<=(0:Int)/\(0:Int)<(((ByteArray.size s):Nat):Int))/\(if ((((UInt8.toNat (List.getD s.data.toList 0 0)):Nat):Int)==(45:Int))=true then
 EncW zai .nilIface fun e=>
 Q (IntKind.wrap .i64 ((0:Int)-n)) e h3
 else
 EncW zai .nilIface fun e=>
 Q n e h3)))) (0:Int) (0:Int) h2) h1)
 else
 Call2 P zlh [(.string s),(yI (10:Int)),(yI (0:Int))] yH zai (fun r r1 h1=>
 EncW zai r1.v fun e=>
 Q r e h1) h)
def zoz (P:Program) (i:Int) (Q:(ByteArray->(Hp->Prop))) (h:Hp):Prop:=
 CallT P zfn [(yI i),(yI (10:Int))] shStr (fun r h1=>
 Q r h1) h
def zjp (P:Program) (b:Int) (Q:(Int->(Int->(Hp->Prop)))) (h:Hp):Prop:=
 CallT P zso [(.int .u64 b)] yH (fun r h1=>
 LoopW1 (α1:=Int) (fun again n h2=>
 (if decide (n<=(17:Int)) then
 Call2 P zkg [(.int .u64 b),(yI (IntKind.wrap .i64 ((IntKind.wrap .i64 (r-n))+(1:Int))))] (shInt .u64) yH (fun r1 r2 h3=>
 CallT P zem [(.int .u64 b),(.int .u64 r1),(yI (IntKind.wrap .i64 ((IntKind.wrap .i64 (r-n))+(1:Int))))] yH (fun r3 h4=>
 CallT P zem [(.int .u64 b),(.int .u64 (IntKind.wrap .u64 (r1+(1:Int)))),(yI (IntKind.wrap .i64 ((IntKind.wrap .i64 (r-n))+(1:Int))))] yH (fun r4 h5=>
 LetW ((!(r3==(0:Int)))&&(!(r4==(0:Int)))) fun y=>
 (if y then
 again (IntKind.wrap .i64 (n+(1:Int))) h5
 else
 JoinW1 (α1:=Int) (fun k=>
 ((((((!(!(r3==(0:Int))))&&(r4==(0:Int)))&&(!(decide (r2>(0:Int)))))&&(r2==(0:Int)))=true->(2:Int)≠(0:Int))/\LetW ((r2==(0:Int))&&((Int.tmod r1 (2:Int))==(1:Int))) fun y1=>
 LetW ((decide (r2>(0:Int))) || y1) fun y2=>
 LetW ((r4==(0:Int))&&y2) fun y3=>
 LetW ((!(r3==(0:Int))) || y3) fun y4=>
 (if y4 then
 k (IntKind.wrap .u64 (r1+(1:Int))) h5
 else
 k r1 h5)))
 (fun c h6=>
 LoopW2 (α1:=Int) (α2:=Int) (fun again1 s c1 h7=>
 ((10:Int)≠(0:Int)/\(if ((Int.tmod c1 (10:Int))==(0:Int))=true then
 ((10:Int)≠(0:Int)/\again1 (IntKind.wrap .i64 (s+(1:Int))) (IntKind.wrap .u64 (Int.tdiv c1 (10:Int))) h7)
 else
 CallT P zdk [(.int .u64 c1)] shStr (fun r5 h8=>
 Q c1 (IntKind.wrap .i64 ((IntKind.wrap .i64 (s+(((ByteArray.size r5):Nat):Int)))-(1:Int))) h8) h7))) (IntKind.wrap .i64 ((IntKind.wrap .i64 (r-n))+(1:Int))) c h6))) h4) h3) h2
 else
 Q (0:Int) (0:Int) h2)) (1:Int) h1) h
def zjq (P:Program) (n:Int) (Q:(ByteArray->(Hp->Prop))) (h:Hp):Prop:=
 NewW [] (fun a h1=>
 LoopW2 (α1:=Int) (α2:=Sl) (fun again n1 b h2=>
 (if decide (n1>=(10:Int)) then
 ((10:Int)≠(0:Int)/\NewW [(.int .u8 (IntKind.wrap .u8 (IntKind.wrap .u64 ((48:Int)+(Int.tmod n1 (10:Int))))))] (fun a1 h3=>
 zbb 1 1 [(.int .u8 (0:Int))] ⟨b.base,b.len,b.cap⟩ ⟨(some a1),1,1⟩ (fun r h4=>
 ((10:Int)≠(0:Int)/\again (IntKind.wrap .u64 (Int.tdiv n1 (10:Int))) r h4)) h3) h2)
 else
 NewW [(.int .u8 (IntKind.wrap .u8 (IntKind.wrap .u64 ((48:Int)+n1))))] (fun a1 h3=>
 zbb 1 1 [(.int .u8 (0:Int))] ⟨b.base,b.len,b.cap⟩ ⟨(some a1),1,1⟩ (fun r h4=>
 LoopW1 (α1:=Int) (fun again1 i h5=>
 ((2:Int)≠(0:Int)/\(if (decide (i<(IntKind.wrap .i64 (Int.tdiv (r.len:Int) (2:Int)))))=true then
 ((InB r.base r.len i)/\LdW none (shInt .u8) h5 (sat r.base 1 i) fun x=>
 ((InB r.base r.len (IntKind.wrap .i64 ((IntKind.wrap .i64 ((r.len:Int)-(1:Int)))-i)))/\LdW none (shInt .u8) h5 (sat r.base 1 (IntKind.wrap .i64 ((IntKind.wrap .i64 ((r.len:Int)-(1:Int)))-i))) fun x1=>
 ((InB r.base r.len i)/\StW h5 (sat r.base 1 i) [(.int .u8 x1)] (fun h6=>
 ((InB r.base r.len (IntKind.wrap .i64 ((IntKind.wrap .i64 ((r.len:Int)-(1:Int)))-i)))/\StW h6 (sat r.base 1 (IntKind.wrap .i64 ((IntKind.wrap .i64 ((r.len:Int)-(1:Int)))-i))) [(.int .u8 x)] (fun h7=>
 again1 (IntKind.wrap .i64 (i+(1:Int))) h7))))))
 else
 SemV none P (convert 74 9 r.v) shStr h5 fun x=>
 Q x h5))) (0:Int) h4) h3) h2)) n ⟨(some a),0,0⟩ h1) h
def zhx (P:Program) (s:ByteArray) (prefix_:ByteArray) (Q:(ByteArray->(Bool->(Hp->Prop)))) (h:Hp):Prop:=
 CallT P zhv [(.string s),(.string prefix_)] zae (fun r h1=>
 (if (!r)=true then
 Q s false h1
 else
 (((0:Int)<=(((ByteArray.size prefix_):Nat):Int)/\(((ByteArray.size prefix_):Nat):Int)<=(((ByteArray.size s):Nat):Int))/\Q (ByteArray.extract s (Int.toNat (((ByteArray.size prefix_):Nat):Int)) (ByteArray.size s)) true h1))) h
def zcb (P:Program) (s:ByteArray) (base:Int) (bitSize:Int) (Q:(Int->(Leaf->(Hp->Prop)))) (h:Hp):Prop:=
 (if ((ByteArray.toList s)==(ByteArray.toList ⟨#[]⟩))=true then
 EncW zai (.iface 122 (yI (2:Int))) fun e=>
 Q (0:Int) e h
 else
 JoinW2 (α1:=ByteArray) (α2:=Int) (fun k=>
 LetW ((decide ((2:Int)<=base))&&(decide (base<=(36:Int)))) fun y=>
 (if y then
 k s base h
 else
 (if (base==(0:Int))=true then
 (((0:Int)<=(0:Int)/\(0:Int)<(((ByteArray.size s):Nat):Int))/\(if ((((UInt8.toNat (List.getD s.data.toList 0 0)):Nat):Int)==(48:Int))=true then
 JoinW2 (α1:=ByteArray) (α2:=Int) (fun k1=>
 (((decide ((((ByteArray.size s):Nat):Int)>=(3:Int)))=true->((0:Int)<=(1:Int)/\(1:Int)<(((ByteArray.size s):Nat):Int)))/\EffC (some (decide ((((ByteArray.size s):Nat):Int)>=(3:Int)))) (CallT P zaf [(.int .u8 (((UInt8.toNat (List.getD s.data.toList 1 0)):Nat):Int))] (shInt .u8)) (fun r h1=>
 LetW ((decide ((((ByteArray.size s):Nat):Int)>=(3:Int)))&&(r==(98:Int))) fun y1=>
 (if y1 then
 (((0:Int)<=(2:Int)/\(2:Int)<=(((ByteArray.size s):Nat):Int))/\k1 (ByteArray.extract s 2 (ByteArray.size s)) (2:Int) h1)
 else
 (((decide ((((ByteArray.size s):Nat):Int)>=(3:Int)))=true->((0:Int)<=(1:Int)/\(1:Int)<(((ByteArray.size s):Nat):Int)))/\EffC (some (decide ((((ByteArray.size s):Nat):Int)>=(3:Int)))) (CallT P zaf [(.int .u8 (((UInt8.toNat (List.getD s.data.toList 1 0)):Nat):Int))] (shInt .u8)) (fun r1 h2=>
 LetW ((decide ((((ByteArray.size s):Nat):Int)>=(3:Int)))&&(r1==(111:Int))) fun y2=>
 (if y2 then
 (((0:Int)<=(2:Int)/\(2:Int)<=(((ByteArray.size s):Nat):Int))/\k1 (ByteArray.extract s 2 (ByteArray.size s)) (8:Int) h2)
 else
 (((decide ((((ByteArray.size s):Nat):Int)>=(3:Int)))=true->((0:Int)<=(1:Int)/\(1:Int)<(((ByteArray.size s):Nat):Int)))/\EffC (some (decide ((((ByteArray.size s):Nat):Int)>=(3:Int)))) (CallT P zaf [(.int .u8 (((UInt8.toNat (List.getD s.data.toList 1 0)):Nat):Int))] (shInt .u8)) (fun r2 h3=>
 LetW ((decide ((((ByteArray.size s):Nat):Int)>=(3:Int)))&&(r2==(120:Int))) fun y3=>
 (if y3 then
 (((0:Int)<=(2:Int)/\(2:Int)<=(((ByteArray.size s):Nat):Int))/\k1 (ByteArray.extract s 2 (ByteArray.size s)) (16:Int) h3)
 else
 (((0:Int)<=(1:Int)/\(1:Int)<=(((ByteArray.size s):Nat):Int))/\k1 (ByteArray.extract s 1 (ByteArray.size s)) (8:Int) h3))) h2))) h1))) h))
 (fun s1 base1 h1=>
 k s1 base1 h1)
 else
 k s (10:Int) h))
 else
 EncW zai (.iface 122 (yI (3:Int))) fun e=>
 Q (0:Int) e h)))
 (fun s1 base1 h1=>
 JoinW1 (α1:=Int) (fun k=>
 (if (bitSize==(0:Int))=true then
 k (64:Int) h1
 else
 LetW ((decide (bitSize<(0:Int))) || (decide (bitSize>(64:Int)))) fun y=>
 (if y then
 EncW zai (.iface 122 (yI (4:Int))) fun e=>
 Q (0:Int) e h1
 else
 k bitSize h1)))
 (fun bitSize1 h2=>
 JoinW1 (α1:=Int) (fun k=>
 (if (base1==(10:Int))=true then
 k (1844674407370955162:Int) h2
 else
 (if (base1==(16:Int))=true then
 k (1152921504606846976:Int) h2
 else
 ((IntKind.wrap .u64 base1)≠(0:Int)/\k (IntKind.wrap .u64 ((IntKind.wrap .u64 (Int.tdiv (18446744073709551615:Int) (IntKind.wrap .u64 base1)))+(1:Int))) h2))))
 (fun cutoff h3=>
 ((0:Int)<=(IntKind.wrap .u64 bitSize1)/\zza1 s1 (fun r h4=>
 LoopW3 (α1:=Bool) (α2:=Int) (α3:=Int) (fun again underscores n t101 h5=>
 (if decide (t101<(r.len:Int)) then
 JoinW2 (α1:=Bool) (α2:=Int) (fun k=>
 ((InB r.base r.len t101)/\LdW none (shInt .u8) h5 (sat r.base 1 t101) fun x=>
 JoinW2 (α1:=Bool) (α2:=Int) (fun k1=>
 LetW ((x==(95:Int))&&(base==(0:Int))) fun y=>
 (if y then
 k true n h5
 else
 LetW ((decide ((48:Int)<=x))&&(decide (x<=(57:Int)))) fun y1=>
 (if y1 then
 k1 underscores (IntKind.wrap .u8 (x-(48:Int))) h5
 else
 CallT P zaf [(.int .u8 x)] (shInt .u8) (fun r1 h6=>
 EffC (some (decide ((97:Int)<=r1))) (CallT P zaf [(.int .u8 x)] (shInt .u8)) (fun r2 h7=>
 LetW ((decide ((97:Int)<=r1))&&(decide (r2<=(122:Int)))) fun y2=>
 (if y2 then
 CallT P zaf [(.int .u8 x)] (shInt .u8) (fun r3 h8=>
 k1 underscores (IntKind.wrap .u8 ((IntKind.wrap .u8 (r3-(97:Int)))+(10:Int))) h8) h7
 else
 EncW zai (.iface 122 (yI (2:Int))) fun e=>
 Q (0:Int) e h7)) h6) h5)))
 (fun underscores1 d h6=>
 (if decide (d>=(IntKind.wrap .u8 base1)) then
 EncW zai (.iface 122 (yI (2:Int))) fun e=>
 Q (0:Int) e h6
 else
 (if decide (n>=cutoff) then
 EncW zai (.iface 122 (yI (1:Int))) fun e=>
 Q (IntKind.wrap .u64 ((shlI .u64 (1:Int) (IntKind.wrap .u64 bitSize1))-(1:Int))) e h6
 else
 LetW ((decide ((IntKind.wrap .u64 ((IntKind.wrap .u64 (n*(IntKind.wrap .u64 base1)))+(IntKind.wrap .u64 d)))<(IntKind.wrap .u64 (n*(IntKind.wrap .u64 base1))))) || (decide ((IntKind.wrap .u64 ((IntKind.wrap .u64 (n*(IntKind.wrap .u64 base1)))+(IntKind.wrap .u64 d)))>(IntKind.wrap .u64 ((shlI .u64 (1:Int) (IntKind.wrap .u64 bitSize1))-(1:Int)))))) fun y=>
 (if y then
 EncW zai (.iface 122 (yI (1:Int))) fun e=>
 Q (IntKind.wrap .u64 ((shlI .u64 (1:Int) (IntKind.wrap .u64 bitSize1))-(1:Int))) e h6
 else
 k underscores1 (IntKind.wrap .u64 ((IntKind.wrap .u64 (n*(IntKind.wrap .u64 base1)))+(IntKind.wrap .u64 d))) h6))))))
 (fun underscores1 n1 h6=>
 again underscores1 n1 (IntKind.wrap .i64 (t101+(1:Int))) h6)
 else
 EffC (some underscores) (CallT P zea [(.string s)] zae) (fun r1 h6=>
 LetW (underscores&&(!r1)) fun y=>
 (if y then
 EncW zai (.iface 122 (yI (2:Int))) fun e=>
 Q (0:Int) e h6
 else
 EncW zai .nilIface fun e=>
 Q n e h6)) h5)) false (0:Int) (0:Int) h4) h3)))))
def zfc (P:Program) (s:ByteArray) (bitSize:Int) (Q:(Nat->(Leaf->(Hp->Prop)))) (h:Hp):Prop:=
 Call3 P zcw [(.string s),(yI bitSize)] (shFlt .f64) yH zai (fun r r1 r2 h1=>
 (if (r1 !=(((ByteArray.size s):Nat):Int))=true then
 EncW zai (.iface 122 (yI (2:Int))) fun e=>
 Q 0 e h1
 else
 EncW zai r2.v fun e=>
 Q r e h1)) h
def zlm (P:Program) (b:Int) (c:Int) (s:Int) (Q:(Int->(Hp->Prop))) (h:Hp):Prop:=
 Call2 P zdx [(.int .u64 b)] (shInt .u64) yH (fun r r1 h1=>
 JoinW1 (α1:=Int) (fun k=>
 (((r==(4503599627370496:Int))=true->(0:Int)<=(52:Int))/\LetW ((r==(4503599627370496:Int))&&(decide ((shrI .u64 b (52:Int))>(1:Int)))) fun y=>
 (if y then
 k (IntKind.wrap .u64 ((IntKind.wrap .u64 ((4:Int)*r))-(1:Int))) h1
 else
 k (IntKind.wrap .u64 ((IntKind.wrap .u64 ((4:Int)*r))-(2:Int))) h1)))
 (fun low h2=>
 ((2:Int)≠(0:Int)/\CallT P zex [(.int .u64 c),(yI s),(.int .u64 low),(yI (IntKind.wrap .i64 (r1-(2:Int))))] yH (fun r2 h3=>
 LetW ((r2==(0:Int))&&(!((Int.tmod r (2:Int))==(0:Int)))) fun y=>
 LetW ((decide (r2<(0:Int))) || y) fun y1=>
 (if y1 then
 Q (-1:Int) h3
 else
 CallT P zex [(.int .u64 c),(yI s),(.int .u64 (IntKind.wrap .u64 ((IntKind.wrap .u64 ((4:Int)*r))+(2:Int)))),(yI (IntKind.wrap .i64 (r1-(2:Int))))] yH (fun r3 h4=>
 LetW ((r3==(0:Int))&&(!((Int.tmod r (2:Int))==(0:Int)))) fun y2=>
 LetW ((decide (r3>(0:Int))) || y2) fun y3=>
 (if y3 then
 Q (1:Int) h4
 else
 Q (0:Int) h4)) h3)) h2))) h
def zhq1 (P:Program) (op:Int) (Q:(ByteArray->(Hp->Prop))) (h:Hp):Prop:=
 (((0:Int)<=op/\op<(34:Int))/\∃x:ByteArray,((List.get?Internal (α:=Value) [(.string ⟨#[101,120,105,116]⟩),(.string ⟨#[115,101,116]⟩),(.string ⟨#[109,111,118,101]⟩),(.string ⟨#[97,100,100]⟩),(.string ⟨#[115,117,98]⟩),(.string ⟨#[109,117,108]⟩),(.string ⟨#[100,105,118]⟩),(.string ⟨#[114,101,109]⟩),(.string ⟨#[97,110,100]⟩),(.string ⟨#[111,114]⟩),(.string ⟨#[120,111,114]⟩),(.string ⟨#[115,104,108]⟩),(.string ⟨#[115,104,114]⟩),(.string ⟨#[108,101,115,115]⟩),(.string ⟨#[101,113,117,97,108]⟩),(.string ⟨#[102,97,100,100]⟩),(.string ⟨#[102,115,117,98]⟩),(.string ⟨#[102,109,117,108]⟩),(.string ⟨#[102,100,105,118]⟩),(.string ⟨#[102,108,101,115,115]⟩),(.string ⟨#[116,111,102,108,111,97,116]⟩),(.string ⟨#[116,111,105,110,116]⟩),(.string ⟨#[106,117,109,112]⟩),(.string ⟨#[105,102]⟩),(.string ⟨#[115,101,110,100]⟩),(.string ⟨#[114,101,99,118]⟩),(.string ⟨#[116,114,121]⟩),(.string ⟨#[116,105,109,101,114]⟩),(.string ⟨#[115,108,101,101,112]⟩),(.string ⟨#[108,111,99,107]⟩),(.string ⟨#[117,110,108,111,99,107]⟩),(.string ⟨#[111,117,116]⟩),(.string ⟨#[110,111,119]⟩),(.string ⟨#[115,101,108,102]⟩)] ((Int.toNat op)*1))=(some (.string x))/\Q x h))
def zza (P:Program) (op:Int) (Q:(Bool->(Bool->(Bool->(Bool->(Hp->Prop)))))) (h:Hp):Prop:=
 CallT P zgh1 [(yI op)] shStr (fun r h1=>
 NewW [(.string ⟨#[]⟩)] (fun a h2=>
 StW h2 a [(.string r)] (fun h3=>
 CallV P tb (.func (.func 114) #[] #[(yP (some a))]) [(.string ⟨#[97]⟩)] zae (fun r1 h4=>
 CallV P tb (.func (.func 114) #[] #[(yP (some a))]) [(.string ⟨#[98]⟩)] zae (fun r2 h5=>
 CallV P tb (.func (.func 114) #[] #[(yP (some a))]) [(.string ⟨#[99]⟩)] zae (fun r3 h6=>
 CallV P tb (.func (.func 114) #[] #[(yP (some a))]) [(.string ⟨#[105]⟩)] zae (fun r4 h7=>
 Q r1 r2 r3 r4 h7) h6) h5) h4) h3)) h1) h
def zvy (P:Program) (n:Int) (Q:(ByteArray->(Hp->Prop))) (h:Hp):Prop:=
 CallT P zvu [(yI n)] shStr (fun r h1=>
 ((1+(ByteArray.size r))<=9223372036854775807/\Q ⟨⟨(114::r.data.toList)⟩⟩ h1)) h
def zbu1 (P:Program) (x:S_api_Ins) (Q:(ByteArray->(Hp->Prop))) (h:Hp):Prop:=
 EffC (some (x.Op==(1:Int))) (CallT P zyu [(yI x.Imm)] zae) (fun r h1=>
 LetW ((x.Op==(1:Int))&&(!r)) fun y=>
 (if y then
 CallT P zqf [(yI x.Imm)] shStr (fun r1 h2=>
 ((1+(ByteArray.size r1))<=9223372036854775807/\Q ⟨⟨(102::r1.data.toList)⟩⟩ h2)) h1
 else
 CallT P zeb [(yI x.Imm),(yI (10:Int))] shStr (fun r1 h2=>
 Q r1 h2) h1)) h
def zhr1 (P:Program) (words:Sl) (Q:(ByteArray->(Hp->Prop))) (h:Hp):Prop:=
 CallT P zec1 [words.v,(.string ⟨#[32]⟩)] shStr (fun r h1=>
 (((ByteArray.size r)+1)<=9223372036854775807/\Q ⟨⟨(List.append r.data.toList [10])⟩⟩ h1)) h
def zln (P:Program) (op:Int) (Q:(ByteArray->(Hp->Prop))) (h:Hp):Prop:=
 (((0:Int)<=op/\op<(34:Int))/\∃x:ByteArray,((List.get?Internal (α:=Value) [(.string ⟨#[101,120,105,116]⟩),(.string ⟨#[115,101,116]⟩),(.string ⟨#[109,111,118,101]⟩),(.string ⟨#[97,100,100]⟩),(.string ⟨#[115,117,98]⟩),(.string ⟨#[109,117,108]⟩),(.string ⟨#[100,105,118]⟩),(.string ⟨#[114,101,109]⟩),(.string ⟨#[97,110,100]⟩),(.string ⟨#[111,114]⟩),(.string ⟨#[120,111,114]⟩),(.string ⟨#[115,104,108]⟩),(.string ⟨#[115,104,114]⟩),(.string ⟨#[108,101,115,115]⟩),(.string ⟨#[101,113,117,97,108]⟩),(.string ⟨#[102,97,100,100]⟩),(.string ⟨#[102,115,117,98]⟩),(.string ⟨#[102,109,117,108]⟩),(.string ⟨#[102,100,105,118]⟩),(.string ⟨#[102,108,101,115,115]⟩),(.string ⟨#[116,111,102,108,111,97,116]⟩),(.string ⟨#[116,111,105,110,116]⟩),(.string ⟨#[106,117,109,112]⟩),(.string ⟨#[105,102]⟩),(.string ⟨#[115,101,110,100]⟩),(.string ⟨#[114,101,99,118]⟩),(.string ⟨#[116,114,121]⟩),(.string ⟨#[116,105,109,101,114]⟩),(.string ⟨#[115,108,101,101,112]⟩),(.string ⟨#[108,111,99,107]⟩),(.string ⟨#[117,110,108,111,99,107]⟩),(.string ⟨#[111,117,116]⟩),(.string ⟨#[110,111,119]⟩),(.string ⟨#[115,101,108,102]⟩)] (0+((Int.toNat op)*1)))=(some (.string x))/\Q x h))
def zjr (P:Program) (op:Int) (Q:(Bool->(Bool->(Bool->(Bool->(Hp->Prop)))))) (h:Hp):Prop:=
 (if (op==(1:Int))=true then
 Q true false false true h
 else
 JoinW1 (α1:=Bool) (fun k=>
 (if (op==(2:Int))=true then
 k (op==(2:Int)) h
 else
 (if (op==(20:Int))=true then
 k (op==(20:Int)) h
 else
 (if (op==(21:Int))=true then
 k (op==(21:Int)) h
 else
 (if (op==(25:Int))=true then
 k (op==(25:Int)) h
 else
 k (op==(26:Int)) h)))))
 (fun t9 h1=>
 (if t9 then
 Q true true false false h1
 else
 JoinW1 (α1:=Bool) (fun k=>
 (if (op==(3:Int))=true then
 k (op==(3:Int)) h1
 else
 (if (op==(4:Int))=true then
 k (op==(4:Int)) h1
 else
 (if (op==(5:Int))=true then
 k (op==(5:Int)) h1
 else
 (if (op==(6:Int))=true then
 k (op==(6:Int)) h1
 else
 (if (op==(7:Int))=true then
 k (op==(7:Int)) h1
 else
 (if (op==(8:Int))=true then
 k (op==(8:Int)) h1
 else
 (if (op==(9:Int))=true then
 k (op==(9:Int)) h1
 else
 (if (op==(10:Int))=true then
 k (op==(10:Int)) h1
 else
 (if (op==(11:Int))=true then
 k (op==(11:Int)) h1
 else
 (if (op==(12:Int))=true then
 k (op==(12:Int)) h1
 else
 (if (op==(13:Int))=true then
 k (op==(13:Int)) h1
 else
 k (op==(14:Int)) h1))))))))))))
 (fun t15 h2=>
 (if t15 then
 Q true true true false h2
 else
 JoinW1 (α1:=Bool) (fun k=>
 (if (op==(15:Int))=true then
 k (op==(15:Int)) h2
 else
 (if (op==(16:Int))=true then
 k (op==(16:Int)) h2
 else
 (if (op==(17:Int))=true then
 k (op==(17:Int)) h2
 else
 (if (op==(18:Int))=true then
 k (op==(18:Int)) h2
 else
 (if (op==(19:Int))=true then
 k (op==(19:Int)) h2
 else
 k (op==(24:Int)) h2))))))
 (fun t28 h3=>
 (if t28 then
 Q true true true false h3
 else
 JoinW1 (α1:=Bool) (fun k=>
 (if (op==(22:Int))=true then
 k (op==(22:Int)) h3
 else
 (if (op==(29:Int))=true then
 k (op==(29:Int)) h3
 else
 k (op==(30:Int)) h3)))
 (fun t35 h4=>
 (if t35 then
 Q false false false true h4
 else
 (if (op==(23:Int))=true then
 Q true false false true h4
 else
 JoinW1 (α1:=Bool) (fun k=>
 (if (op==(27:Int))=true then
 k (op==(27:Int)) h4
 else
 (if (op==(28:Int))=true then
 k (op==(28:Int)) h4
 else
 (if (op==(31:Int))=true then
 k (op==(31:Int)) h4
 else
 (if (op==(32:Int))=true then
 k (op==(32:Int)) h4
 else
 k (op==(33:Int)) h4)))))
 (fun t41 h5=>
 (if t41 then
 Q true false false false h5
 else
 Q false false false false h5))))))))))))
def zqg1 (P:Program) (s:ByteArray) (Q:(Int->(Bool->(Hp->Prop)))) (h:Hp):Prop:=
 LoopW1 (α1:=Int) (fun again t5 h1=>
 (if decide (t5<(34:Int)) then
 CallT P zho1 [(yI t5)] shStr (fun r h2=>
 (if ((ByteArray.toList r)==(ByteArray.toList s))=true then
 Q t5 true h2
 else
 again (IntKind.wrap .i64 (t5+(1:Int))) h2)) h1
 else
 Q (0:Int) false h1)) (0:Int) h
def zlo (P:Program) (r:Option Addr) (has:Bool) (Q:(Int->(Hp->Prop))) (h:Hp):Prop:=
 (if (!has)=true then
 Q (0:Int) h
 else
 Call3 P zkt [(yP r)] shStr yH zae (fun r1 r2 r3 h1=>
 (if (!r3)=true then
 Q (0:Int) h1
 else
 LoopW1 (α1:=Int) (fun again t19 h2=>
 (if decide (t19<(8:Int)) then
 CallT P zmt [(yI t19)] shStr (fun r4 h3=>
 (if ((ByteArray.toList r1)==(ByteArray.toList r4))=true then
 Q t19 h3
 else
 again (IntKind.wrap .i64 (t19+(1:Int))) h3)) h2
 else
 Call0 P zav [(yP r),(yI (10:Int)),(yI r2)] (fun h3=>
 Q (0:Int) h3) h2)) (0:Int) h1)) h)
def znn (P:Program) (r:Option Addr) (op:Int) (n:Int) (Q:(Int->(Hp->Prop))) (h:Hp):Prop:=
 Call3 P zkt [(yP r)] shStr yH zae (fun r1 r2 r3 h1=>
 (if (!r3)=true then
 Q (0:Int) h1
 else
 JoinW1 (α1:=FnV) (fun k=>
 (if (op==(1:Int))=true then
 k ⟨122, #[], #[]⟩ h1
 else
 k ⟨121, #[], #[]⟩ h1))
 (fun read h2=>
 zny2 P tb (.func (.func read.g) read.first read.captured) [(.string r1)] yH zae (fun r4 r5 h3=>
 (if (!r5)=true then
 Call0 P zav [(yP r),(yI (4:Int)),(yI r2)] (fun h4=>
 Q r4 h4) h3
 else
 LetW ((op==(22:Int)) || (op==(23:Int))) fun y=>
 LetW ((decide (r4<(0:Int))) || (decide (r4>n))) fun y1=>
 LetW (y&&y1) fun y2=>
 (if y2 then
 Call0 P zav [(yP r),(yI (12:Int)),(yI r2)] (fun h4=>
 Q r4 h4) h3
 else
 LetW ((op==(29:Int)) || (op==(30:Int))) fun y3=>
 LetW ((decide (r4<(0:Int))) || (decide (r4>=(8:Int)))) fun y4=>
 LetW (y3&&y4) fun y5=>
 (if y5 then
 Call0 P zav [(yP r),(yI (13:Int)),(yI r2)] (fun h4=>
 Q r4 h4) h3
 else
 Q r4 h3)))) h2))) h
def zlp (P:Program) (s:ByteArray) (at_:Int) (Q:(Int->(Hp->Prop))) (h:Hp):Prop:=
 LoopW1 (α1:=Int) (fun again at_1 h1=>
 (((decide (at_1<(((ByteArray.size s):Nat):Int)))=true->((0:Int)<=at_1/\at_1<(((ByteArray.size s):Nat):Int)))/\LetW ((decide (at_1<(((ByteArray.size s):Nat):Int)))&&((((UInt8.toNat (List.getD s.data.toList (Int.toNat at_1) 0)):Nat):Int) !=(32:Int))) fun y=>
 (if y then
 again (IntKind.wrap .i64 (at_1+(1:Int))) h1
 else
 Q at_1 h1))) at_ h
def zkm (P:Program) (s:ByteArray) (at_:Int) (Q:(ByteArray->(Int->(Int->(Bool->(Hp->Prop)))))) (h:Hp):Prop:=
 (if (at_==(((ByteArray.size s):Nat):Int))=true then
 Q ⟨#[]⟩ (0:Int) (0:Int) false h
 else
 CallT P zlf [(.string s),(yI (IntKind.wrap .i64 (at_+(1:Int))))] yH (fun r h1=>
 (((0:Int)<=(IntKind.wrap .i64 (at_+(1:Int)))/\((IntKind.wrap .i64 (at_+(1:Int)))<=r/\r<=(((ByteArray.size s):Nat):Int)))/\Q (ByteArray.extract s (Int.toNat (IntKind.wrap .i64 (at_+(1:Int)))) (Int.toNat r)) (IntKind.wrap .i64 (at_+(1:Int))) r true h1)) h)
def zhr (P:Program) (s:ByteArray) (Q:(Int->(Bool->(Hp->Prop)))) (h:Hp):Prop:=
 (((!((((ByteArray.size s):Nat):Int) !=(2:Int)))=true->((0:Int)<=(0:Int)/\(0:Int)<(((ByteArray.size s):Nat):Int)))/\LetW (((((ByteArray.size s):Nat):Int) !=(2:Int)) || ((((UInt8.toNat (List.getD s.data.toList 0 0)):Nat):Int) !=(114:Int))) fun y=>
 (((!y)=true->((0:Int)<=(1:Int)/\(1:Int)<(((ByteArray.size s):Nat):Int)))/\LetW (y || (decide ((((UInt8.toNat (List.getD s.data.toList 1 0)):Nat):Int)<(48:Int)))) fun y1=>
 (((!y1)=true->((0:Int)<=(1:Int)/\(1:Int)<(((ByteArray.size s):Nat):Int)))/\LetW (y1 || (decide ((((UInt8.toNat (List.getD s.data.toList 1 0)):Nat):Int)>(55:Int)))) fun y2=>
 (if y2 then
 Q (0:Int) false h
 else
 (((0:Int)<=(1:Int)/\(1:Int)<(((ByteArray.size s):Nat):Int))/\Q (IntKind.wrap .i64 (IntKind.wrap .u8 ((((UInt8.toNat (List.getD s.data.toList 1 0)):Nat):Int)-(48:Int)))) true h)))))
def zip (P:Program) (op:Int) (s:ByteArray) (n:Int) (Q:(Int->(Int->(Hp->Prop)))) (h:Hp):Prop:=
 LetW ((op==(1:Int))&&(decide ((((ByteArray.size s):Nat):Int)>(0:Int)))) fun y=>
 ((y=true->((0:Int)<=(0:Int)/\(0:Int)<(((ByteArray.size s):Nat):Int)))/\LetW (y&&((((UInt8.toNat (List.getD s.data.toList 0 0)):Nat):Int)==(102:Int))) fun y1=>
 (if y1 then
 (((0:Int)<=(1:Int)/\(1:Int)<=(((ByteArray.size s):Nat):Int))/\Call2 P zke [(.string (ByteArray.extract s 1 (ByteArray.size s)))] yH yH (fun r r1 h1=>
 LetW ((decide (r>=(-4503599627370496:Int)))&&(decide (r<=(4503599627370496:Int)))) fun y2=>
 LetW ((r1 !=(0:Int)) || y2) fun y3=>
 (if y3 then
 Q (0:Int) (4:Int) h1
 else
 Q r (0:Int) h1)) h)
 else
 Call2 P zjo [(.string s)] yH zae (fun r r1 h1=>
 LetW ((decide (r<(-4503599627370496:Int))) || (decide (r>(4503599627370496:Int)))) fun y2=>
 LetW ((op==(1:Int))&&y2) fun y3=>
 LetW ((!r1) || y3) fun y4=>
 (if y4 then
 Q (0:Int) (4:Int) h1
 else
 LetW ((op==(22:Int)) || (op==(23:Int))) fun y5=>
 LetW ((decide (r<(0:Int))) || (decide (r>n))) fun y6=>
 LetW (y5&&y6) fun y7=>
 (if y7 then
 Q (0:Int) (12:Int) h1
 else
 LetW ((op==(29:Int)) || (op==(30:Int))) fun y8=>
 LetW ((decide (r<(0:Int))) || (decide (r>=(8:Int)))) fun y9=>
 LetW (y8&&y9) fun y10=>
 (if y10 then
 Q (0:Int) (13:Int) h1
 else
 Q r (0:Int) h1)))) h))
def zuf (P:Program) (has:Bool) (n:Int) (Q:(Int->(Hp->Prop))) (h:Hp):Prop:=
 LetW ((!has)&&(n !=(0:Int))) fun y=>
 (if y then
 Q (11:Int) h
 else
 LetW ((decide (n<(0:Int))) || (decide (n>=(8:Int)))) fun y1=>
 (if y1 then
 Q (10:Int) h
 else
 Q (0:Int) h))
def zzb (P:Program) (x:S_api_Ins) (has:Bool) (n:Int) (locks:Int) (Q:(Int->(Hp->Prop))) (h:Hp):Prop:=
 LetW ((!has)&&(x.Imm !=(0:Int))) fun y=>
 (if y then
 Q (11:Int) h
 else
 LetW ((x.Op==(22:Int)) || (x.Op==(23:Int))) fun y1=>
 (if y1 then
 LetW ((decide (x.Imm<(0:Int))) || (decide (x.Imm>n))) fun y2=>
 (if y2 then
 Q (12:Int) h
 else
 Q (0:Int) h)
 else
 LetW ((x.Op==(29:Int)) || (x.Op==(30:Int))) fun y2=>
 (if y2 then
 LetW ((decide (x.Imm<(0:Int))) || (decide (x.Imm>=locks))) fun y3=>
 (if y3 then
 Q (13:Int) h
 else
 Q (0:Int) h)
 else
 Q (0:Int) h)))
def zjy (P:Program) (i:Int) (base:Int) (Q:(ByteArray->(Hp->Prop))) (h:Hp):Prop:=
 (if (base==(10:Int))=true then
 (if decide (i<(100:Int)) then
 CallT P zik [(yI (IntKind.wrap .i64 i))] shStr (fun r h1=>
 Q r h1) h
 else
 NewW [(.int .u8 (0:Int)),(.int .u8 (0:Int)),(.int .u8 (0:Int)),(.int .u8 (0:Int)),(.int .u8 (0:Int)),(.int .u8 (0:Int)),(.int .u8 (0:Int)),(.int .u8 (0:Int)),(.int .u8 (0:Int)),(.int .u8 (0:Int)),(.int .u8 (0:Int)),(.int .u8 (0:Int)),(.int .u8 (0:Int)),(.int .u8 (0:Int)),(.int .u8 (0:Int)),(.int .u8 (0:Int)),(.int .u8 (0:Int)),(.int .u8 (0:Int)),(.int .u8 (0:Int)),(.int .u8 (0:Int)),(.int .u8 (0:Int)),(.int .u8 (0:Int)),(.int .u8 (0:Int)),(.int .u8 (0:Int))] (fun a h1=>
 CallT P zca [(.int .u64 i)] yH (fun r h2=>
 (((0:Int)<=r/\r<=(24:Int))/\LetW (α:=Sl) ⟨(sbase (some a) 1 0 24),((Int.toNat r)-0),24⟩ fun y=>
 Call0 P zbk [y.v,(.int .u64 i)] (fun h3=>
 (((0:Int)<=r/\r<=(24:Int))/\LetW (α:=Sl) ⟨(sbase (some a) 1 0 24),((Int.toNat r)-0),24⟩ fun y1=>
 SemV none P (convert 74 9 y1.v) shStr h3 fun x=>
 Q x h3)) h2)) h1) h)
 else
 Call2 P zct [yN,(.int .u64 i),(yI base),(.bool false),(.bool false)] shSl shStr (fun r r1 h1=>
 Q r1 h1) h)
def zfs (P:Program) (s:ByteArray) (substr:ByteArray) (Q:(Int->(Hp->Prop))) (h:Hp):Prop:=
 LetW (((((ByteArray.size substr):Nat):Int)==(0:Int)) || ((ByteArray.toList substr)==(ByteArray.toList s))) fun y=>
 (if y then
 Q (0:Int) h
 else
 (if ((((ByteArray.size substr):Nat):Int)==(1:Int))=true then
 (((0:Int)<=(0:Int)/\(0:Int)<(((ByteArray.size substr):Nat):Int))/\CallT P zdp [(.string s),(.int .u8 (((UInt8.toNat (List.getD substr.data.toList 0 0)):Nat):Int))] yH (fun r h1=>
 Q r h1) h)
 else
 (if (decide ((((ByteArray.size substr):Nat):Int)>=(((ByteArray.size s):Nat):Int)))=true then
 Q (-1:Int) h
 else
 LdW none yH h ⟨1,0,none⟩ fun x=>
 LetW ((decide ((((ByteArray.size substr):Nat):Int)<=x))&&(decide ((((ByteArray.size s):Nat):Int)<=(64:Int)))) fun y1=>
 (if y1 then
 False
 else
 (((0:Int)<=(0:Int)/\(0:Int)<(((ByteArray.size substr):Nat):Int))/\(((0:Int)<=(1:Int)/\(1:Int)<(((ByteArray.size substr):Nat):Int))/\LoopW2 (α1:=Int) (α2:=Int) (fun again i fails h1=>
 (if (decide (i<(IntKind.wrap .i64 ((IntKind.wrap .i64 ((((ByteArray.size s):Nat):Int)-(((ByteArray.size substr):Nat):Int)))+(1:Int)))))=true then
 JoinW1 (α1:=Int) (fun k=>
 (((0:Int)<=i/\i<(((ByteArray.size s):Nat):Int))/\(if ((((UInt8.toNat (List.getD s.data.toList (Int.toNat i) 0)):Nat):Int) !=(((UInt8.toNat (List.getD substr.data.toList 0 0)):Nat):Int))=true then
 (((0:Int)<=(IntKind.wrap .i64 (i+(1:Int)))/\((IntKind.wrap .i64 (i+(1:Int)))<=(IntKind.wrap .i64 ((IntKind.wrap .i64 ((((ByteArray.size s):Nat):Int)-(((ByteArray.size substr):Nat):Int)))+(1:Int)))/\(IntKind.wrap .i64 ((IntKind.wrap .i64 ((((ByteArray.size s):Nat):Int)-(((ByteArray.size substr):Nat):Int)))+(1:Int)))<=(((ByteArray.size s):Nat):Int)))/\CallT P zdp [(.string (ByteArray.extract s (Int.toNat (IntKind.wrap .i64 (i+(1:Int)))) (Int.toNat (IntKind.wrap .i64 ((IntKind.wrap .i64 ((((ByteArray.size s):Nat):Int)-(((ByteArray.size substr):Nat):Int)))+(1:Int)))))),(.int .u8 (((UInt8.toNat (List.getD substr.data.toList 0 0)):Nat):Int))] yH (fun r h2=>
 (if decide (r<(0:Int)) then
 Q (-1:Int) h2
 else
 k (IntKind.wrap .i64 (i+(IntKind.wrap .i64 (r+(1:Int))))) h2)) h1)
 else
 k i h1)))
 (fun i1 h2=>
 (((0:Int)<=(IntKind.wrap .i64 (i1+(1:Int)))/\(IntKind.wrap .i64 (i1+(1:Int)))<(((ByteArray.size s):Nat):Int))/\((((((UInt8.toNat (List.getD s.data.toList (Int.toNat (IntKind.wrap .i64 (i1+(1:Int)))) 0)):Nat):Int)==(((UInt8.toNat (List.getD substr.data.toList 1 0)):Nat):Int))=true->((0:Int)<=i1/\(i1<=(IntKind.wrap .i64 (i1+(((ByteArray.size substr):Nat):Int)))/\(IntKind.wrap .i64 (i1+(((ByteArray.size substr):Nat):Int)))<=(((ByteArray.size s):Nat):Int))))/\LetW (((((UInt8.toNat (List.getD s.data.toList (Int.toNat (IntKind.wrap .i64 (i1+(1:Int)))) 0)):Nat):Int)==(((UInt8.toNat (List.getD substr.data.toList 1 0)):Nat):Int))&&((ByteArray.toList (ByteArray.extract s (Int.toNat i1) (Int.toNat (IntKind.wrap .i64 (i1+(((ByteArray.size substr):Nat):Int))))))==(ByteArray.toList substr))) fun y2=>
 (if y2 then
 Q i1 h2
 else
 LdW none yH h2 ⟨1,0,none⟩ fun x1=>
 EffC (some (decide ((((ByteArray.size substr):Nat):Int)<=x1))) (CallT P zuu [(yI (IntKind.wrap .i64 (i1+(1:Int))))] yH) (fun r h3=>
 LetW ((decide ((((ByteArray.size substr):Nat):Int)<=x1))&&(decide ((IntKind.wrap .i64 (fails+(1:Int)))>r))) fun y3=>
 (if y3 then
 (((0:Int)<=(IntKind.wrap .i64 (i1+(1:Int)))/\(IntKind.wrap .i64 (i1+(1:Int)))<=(((ByteArray.size s):Nat):Int))/\False)
 else
 LdW none yH h3 ⟨1,0,none⟩ fun x2=>
 (((decide ((((ByteArray.size substr):Nat):Int)>x2))=true->(0:Int)<=(4:Int))/\LetW ((decide ((((ByteArray.size substr):Nat):Int)>x2))&&(decide ((IntKind.wrap .i64 (fails+(1:Int)))>=(IntKind.wrap .i64 ((4:Int)+(shrI .i64 (IntKind.wrap .i64 (i1+(1:Int))) (4:Int))))))) fun y4=>
 LetW (y4&&(decide ((IntKind.wrap .i64 (i1+(1:Int)))<(IntKind.wrap .i64 ((IntKind.wrap .i64 ((((ByteArray.size s):Nat):Int)-(((ByteArray.size substr):Nat):Int)))+(1:Int)))))) fun y5=>
 (if y5 then
 (((0:Int)<=(IntKind.wrap .i64 (i1+(1:Int)))/\(IntKind.wrap .i64 (i1+(1:Int)))<=(((ByteArray.size s):Nat):Int))/\CallT P zkz [(.string (ByteArray.extract s (Int.toNat (IntKind.wrap .i64 (i1+(1:Int)))) (ByteArray.size s))),(.string substr)] yH (fun r1 h4=>
 (if decide (r1<(0:Int)) then
 Q (-1:Int) h4
 else
 Q (IntKind.wrap .i64 ((IntKind.wrap .i64 (i1+(1:Int)))+r1)) h4)) h3)
 else
 again (IntKind.wrap .i64 (i1+(1:Int))) (IntKind.wrap .i64 (fails+(1:Int))) h3)))) h2))))
 else
 Q (-1:Int) h1)) (0:Int) (0:Int) h))))))
def zej (P:Program) (dst:Sl) (val:Nat) (fmt:Int) (prec:Int) (Q:(Sl->(Hp->Prop))) (h:Hp):Prop:=
 JoinW4 (α1:=Int) (α2:=Int) (α3:=Int) (α4:=Int) (fun k=>
 SemE P (Extern.MathFloatBits.float64bits #[(.float .f64 val)]) (shInt .u64) (fun r h1=>
 k r (11:Int) (52:Int) (-1023:Int) h1) h)
 (fun b expBits mantBits bias h1=>
 ((0:Int)<=(IntKind.wrap .i64 (expBits+mantBits))/\((0:Int)<=mantBits/\((0:Int)<=expBits/\((0:Int)<=mantBits/\((0:Int)<=expBits/\(if ((bitsI .and .i64 (IntKind.wrap .i64 (shrI .u64 b mantBits)) (IntKind.wrap .i64 ((shlI .i64 (1:Int) expBits)-(1:Int))))==(IntKind.wrap .i64 ((shlI .i64 (1:Int) expBits)-(1:Int))))=true then
 (if ((bitsI .and .u64 b (IntKind.wrap .u64 ((shlI .u64 (1:Int) mantBits)-(1:Int)))) !=(0:Int))=true then
 zxf 5 dst ⟨#[78,97,78]⟩ (fun r h2=>
 Q r h2) h1
 else
 (if ((shrI .u64 b (IntKind.wrap .i64 (expBits+mantBits))) !=(0:Int))=true then
 zxf 5 dst ⟨#[45,73,110,102]⟩ (fun r h2=>
 Q r h2) h1
 else
 zxf 5 dst ⟨#[43,73,110,102]⟩ (fun r h2=>
 Q r h2) h1))
 else
 JoinW2 (α1:=Int) (α2:=Int) (fun k=>
 (if ((bitsI .and .i64 (IntKind.wrap .i64 (shrI .u64 b mantBits)) (IntKind.wrap .i64 ((shlI .i64 (1:Int) expBits)-(1:Int))))==(0:Int))=true then
 k (IntKind.wrap .i64 ((bitsI .and .i64 (IntKind.wrap .i64 (shrI .u64 b mantBits)) (IntKind.wrap .i64 ((shlI .i64 (1:Int) expBits)-(1:Int))))+(1:Int))) (bitsI .and .u64 b (IntKind.wrap .u64 ((shlI .u64 (1:Int) mantBits)-(1:Int)))) h1
 else
 ((0:Int)<=mantBits/\k (bitsI .and .i64 (IntKind.wrap .i64 (shrI .u64 b mantBits)) (IntKind.wrap .i64 ((shlI .i64 (1:Int) expBits)-(1:Int)))) (bitsI .or .u64 (bitsI .and .u64 b (IntKind.wrap .u64 ((shlI .u64 (1:Int) mantBits)-(1:Int)))) (shlI .u64 (1:Int) mantBits)) h1)))
 (fun exp mant h2=>
 (if (fmt==(98:Int))=true then
 CallT P zyw [dst.v,(.bool ((shrI .u64 b (IntKind.wrap .i64 (expBits+mantBits))) !=(0:Int))),(.int .u64 mant),(yI (IntKind.wrap .i64 ((IntKind.wrap .i64 (exp+bias))-mantBits)))] shSl (fun r h3=>
 Q r h3) h2
 else
 LetW ((fmt==(120:Int)) || (fmt==(88:Int))) fun y=>
 (if y then
 CallT P zyx [dst.v,(yI prec),(.int .u8 fmt),(.bool ((shrI .u64 b (IntKind.wrap .i64 (expBits+mantBits))) !=(0:Int))),(.int .u64 mant),(yI (IntKind.wrap .i64 (exp+bias))),(yI mantBits)] shSl (fun r h3=>
 Q r h3) h2
 else
 (if (mant==(0:Int))=true then
 CallT P zcn [dst.v,(.bool ((shrI .u64 b (IntKind.wrap .i64 (expBits+mantBits))) !=(0:Int))),yN,(yI (0:Int)),(yI (0:Int)),(yI prec),(.int .u8 fmt),(.bool (decide (prec<(0:Int))))] shSl (fun r h3=>
 Q r h3) h2
 else
 (if decide (prec<(0:Int)) then
 NewW [(.int .u8 (0:Int)),(.int .u8 (0:Int)),(.int .u8 (0:Int)),(.int .u8 (0:Int)),(.int .u8 (0:Int)),(.int .u8 (0:Int)),(.int .u8 (0:Int)),(.int .u8 (0:Int)),(.int .u8 (0:Int)),(.int .u8 (0:Int)),(.int .u8 (0:Int)),(.int .u8 (0:Int)),(.int .u8 (0:Int)),(.int .u8 (0:Int)),(.int .u8 (0:Int)),(.int .u8 (0:Int)),(.int .u8 (0:Int)),(.int .u8 (0:Int)),(.int .u8 (0:Int)),(.int .u8 (0:Int)),(.int .u8 (0:Int)),(.int .u8 (0:Int)),(.int .u8 (0:Int)),(.int .u8 (0:Int)),(.int .u8 (0:Int)),(.int .u8 (0:Int)),(.int .u8 (0:Int)),(.int .u8 (0:Int)),(.int .u8 (0:Int)),(.int .u8 (0:Int)),(.int .u8 (0:Int)),(.int .u8 (0:Int))] (fun a h3=>
 CallT P zil [(.int .u64 mant)] yH (fun r h4=>
 ((0:Int)<=(IntKind.wrap .i64 ((64:Int)-r))/\Call2 P zcj [(.int .u64 (shlI .u64 mant (IntKind.wrap .i64 ((64:Int)-r)))),(yI (IntKind.wrap .i64 ((IntKind.wrap .i64 ((IntKind.wrap .i64 (exp+bias))-(IntKind.wrap .i64 ((64:Int)-r))))-mantBits)))] (shInt .u64) yH (fun r1 r2 h5=>
 LetW (α:=Sl) ⟨(sbase (some a) 1 0 32),32,32⟩ fun y1=>
 CallT P zca [(.int .u64 r1)] yH (fun r3 h6=>
 Call2 P zdb [y1.v,(.int .u64 r1),(yI r2),(yI r3)] yH yH (fun r4 r5 h7=>
 JoinW1 (α1:=Int) (fun k=>
 JoinW1 (α1:=Bool) (fun k1=>
 (if (fmt==(101:Int))=true then
 k1 (fmt==(101:Int)) h7
 else
 k1 (fmt==(69:Int)) h7))
 (fun t149 h8=>
 (if t149 then
 k (max2I (IntKind.wrap .i64 (r5-(1:Int))) (0:Int)) h8
 else
 (if (fmt==(102:Int))=true then
 k (max2I (IntKind.wrap .i64 (r5-r4)) (0:Int)) h8
 else
 JoinW1 (α1:=Bool) (fun k1=>
 (if (fmt==(103:Int))=true then
 k1 (fmt==(103:Int)) h8
 else
 k1 (fmt==(71:Int)) h8))
 (fun t161 h9=>
 (if t161 then
 k r5 h9
 else
 k prec h9))))))
 (fun prec1 h8=>
 LetW (α:=Sl) ⟨(sbase (some a) 1 0 32),32,32⟩ fun y2=>
 CallT P zcn [dst.v,(.bool ((shrI .u64 b (IntKind.wrap .i64 (expBits+mantBits))) !=(0:Int))),y2.v,(yI r4),(yI r5),(yI prec1),(.int .u8 fmt),(.bool true)] shSl (fun r6 h9=>
 Q r6 h9) h8)) h6) h5) h4)) h3) h2
 else
 JoinW1 (α1:=Int) (fun k=>
 LdW none zae h2 ⟨2,0,none⟩ fun x=>
 (if x then
 JoinW2 (α1:=Int) (α2:=Int) (fun k1=>
 (if (fmt==(102:Int))=true then
 (if (decide ((IntKind.wrap .i64 (exp+bias))>=(0:Int)))=true then
 CallT P zbf [(yI (IntKind.wrap .i64 ((1:Int)+(IntKind.wrap .i64 (exp+bias)))))] yH (fun r h3=>
 k1 prec (IntKind.wrap .i64 ((IntKind.wrap .i64 ((1:Int)+r))+prec)) h3) h2
 else
 CallT P zbf [(yI (IntKind.wrap .i64 ((0:Int)-(IntKind.wrap .i64 (exp+bias)))))] yH (fun r h3=>
 k1 prec (IntKind.wrap .i64 ((IntKind.wrap .i64 ((1:Int)+prec))-r)) h3) h2)
 else
 JoinW1 (α1:=Bool) (fun k2=>
 (if (fmt==(101:Int))=true then
 k2 (fmt==(101:Int)) h2
 else
 k2 (fmt==(69:Int)) h2))
 (fun t192 h3=>
 (if t192 then
 k1 prec (IntKind.wrap .i64 (prec+(1:Int))) h3
 else
 JoinW1 (α1:=Bool) (fun k2=>
 (if (fmt==(103:Int))=true then
 k2 (fmt==(103:Int)) h3
 else
 k2 (fmt==(71:Int)) h3))
 (fun t197 h4=>
 (if t197 then
 JoinW1 (α1:=Int) (fun k2=>
 (if (prec==(0:Int))=true then
 k2 (1:Int) h4
 else
 k2 prec h4))
 (fun prec1 h5=>
 k1 prec1 prec1 h5)
 else
 k1 prec (1:Int) h4))))))
 (fun prec1 digits h3=>
 (if decide (digits<=(18:Int)) then
 NewW [(.int .u8 (0:Int)),(.int .u8 (0:Int)),(.int .u8 (0:Int)),(.int .u8 (0:Int)),(.int .u8 (0:Int)),(.int .u8 (0:Int)),(.int .u8 (0:Int)),(.int .u8 (0:Int)),(.int .u8 (0:Int)),(.int .u8 (0:Int)),(.int .u8 (0:Int)),(.int .u8 (0:Int)),(.int .u8 (0:Int)),(.int .u8 (0:Int)),(.int .u8 (0:Int)),(.int .u8 (0:Int)),(.int .u8 (0:Int)),(.int .u8 (0:Int)),(.int .u8 (0:Int)),(.int .u8 (0:Int)),(.int .u8 (0:Int)),(.int .u8 (0:Int)),(.int .u8 (0:Int)),(.int .u8 (0:Int))] (fun a h4=>
 JoinW2 (α1:=Int) (α2:=Int) (fun k1=>
 (if decide (digits>(0:Int)) then
 CallT P zil [(.int .u64 mant)] yH (fun r h5=>
 ((0:Int)<=(IntKind.wrap .i64 ((64:Int)-r))/\Call2 P zoc [(.int .u64 (shlI .u64 mant (IntKind.wrap .i64 ((64:Int)-r)))),(yI (IntKind.wrap .i64 ((IntKind.wrap .i64 ((IntKind.wrap .i64 (exp+bias))-(IntKind.wrap .i64 ((64:Int)-r))))-mantBits))),(yI digits),(yI prec1),(.int .u8 fmt)] (shInt .u64) yH (fun r1 r2 h6=>
 (if (r1 !=(0:Int))=true then
 LetW (α:=Sl) ⟨(sbase (some a) 1 0 24),24,24⟩ fun y1=>
 CallT P zca [(.int .u64 r1)] yH (fun r3 h7=>
 Call2 P zdb [y1.v,(.int .u64 r1),(yI r2),(yI r3)] yH yH (fun r4 r5 h8=>
 k1 r4 r5 h8) h7) h6
 else
 k1 (0:Int) (0:Int) h6)) h5)) h4
 else
 k1 (0:Int) (0:Int) h4))
 (fun dp nd h5=>
 LetW (α:=Sl) ⟨(sbase (some a) 1 0 24),24,24⟩ fun y1=>
 CallT P zcn [dst.v,(.bool ((shrI .u64 b (IntKind.wrap .i64 (expBits+mantBits))) !=(0:Int))),y1.v,(yI dp),(yI nd),(yI prec1),(.int .u8 fmt),(.bool false)] shSl (fun r h6=>
 Q r h6) h5)) h3
 else
 k prec1 h3))
 else
 k prec h2))
 (fun prec1 h3=>
 NewW (List.replicate 800 (.int .u8 (0:Int))++ [(yI (0:Int)),(yI (0:Int)),(.bool false),(.bool false)]) (fun a h4=>
 Call0 P zov [(yP (some a)),(.int .u64 mant)] (fun h5=>
 Call0 P zar [(yP (some a)),(yI (IntKind.wrap .i64 ((IntKind.wrap .i64 (exp+bias))-mantBits)))] (fun h6=>
 JoinW1 (α1:=Int) (fun k=>
 JoinW1 (α1:=Bool) (fun k1=>
 (if (fmt==(101:Int))=true then
 k1 (fmt==(101:Int)) h6
 else
 k1 (fmt==(69:Int)) h6))
 (fun t256 h7=>
 (if t256 then
 Call0 P zdq [(yP (some a)),(yI (IntKind.wrap .i64 (prec1+(1:Int))))] (fun h8=>
 k prec1 h8) h7
 else
 (if (fmt==(102:Int))=true then
 NilW none (some a) fun p=>
 yLi h7 p 801 fun x=>
 Call0 P zdq [(yP (some a)),(yI (IntKind.wrap .i64 (x+prec1)))] (fun h8=>
 k prec1 h8) h7
 else
 JoinW1 (α1:=Bool) (fun k1=>
 (if (fmt==(103:Int))=true then
 k1 (fmt==(103:Int)) h7
 else
 k1 (fmt==(71:Int)) h7))
 (fun t273 h8=>
 (if t273 then
 JoinW1 (α1:=Int) (fun k1=>
 (if (prec1==(0:Int))=true then
 k1 (1:Int) h8
 else
 k1 prec1 h8))
 (fun prec2 h9=>
 Call0 P zdq [(yP (some a)),(yI prec2)] (fun h10=>
 k prec2 h10) h9)
 else
 k prec1 h8))))))
 (fun prec2 h7=>
 NilW none (some a) fun p=>
 LetW (α:=Sl) ⟨(sbase (some (Addr.add p 0)) 1 0 800),800,800⟩ fun y1=>
 NilW none (some a) fun p1=>
 yLi h7 p1 801 fun x=>
 NilW none (some a) fun p2=>
 yLi h7 p2 800 fun x1=>
 CallT P zcn [dst.v,(.bool ((shrI .u64 b (IntKind.wrap .i64 (expBits+mantBits))) !=(0:Int))),y1.v,(yI x),(yI x1),(yI prec2),(.int .u8 fmt),(.bool false)] shSl (fun r h8=>
 Q r h8) h7)) h5) h4) h3)))))))))))))
def zft (P:Program) (i:Int) (base:Int) (Q:(ByteArray->(Hp->Prop))) (h:Hp):Prop:=
 (if (base==(10:Int))=true then
 LetW ((decide ((0:Int)<=i))&&(decide (i<(100:Int)))) fun y=>
 (if y then
 CallT P zik [(yI i)] shStr (fun r h1=>
 Q r h1) h
 else
 NewW [(.int .u8 (0:Int)),(.int .u8 (0:Int)),(.int .u8 (0:Int)),(.int .u8 (0:Int)),(.int .u8 (0:Int)),(.int .u8 (0:Int)),(.int .u8 (0:Int)),(.int .u8 (0:Int)),(.int .u8 (0:Int)),(.int .u8 (0:Int)),(.int .u8 (0:Int)),(.int .u8 (0:Int)),(.int .u8 (0:Int)),(.int .u8 (0:Int)),(.int .u8 (0:Int)),(.int .u8 (0:Int)),(.int .u8 (0:Int)),(.int .u8 (0:Int)),(.int .u8 (0:Int)),(.int .u8 (0:Int)),(.int .u8 (0:Int)),(.int .u8 (0:Int)),(.int .u8 (0:Int)),(.int .u8 (0:Int))] (fun a h1=>
 JoinW1 (α1:=Int) (fun k=>
 (if decide (i<(0:Int)) then
 k (IntKind.wrap .u64 ((0:Int)-(IntKind.wrap .u64 i))) h1
 else
 k (IntKind.wrap .u64 i) h1))
 (fun u h2=>
 CallT P zca [(.int .u64 u)] yH (fun r h3=>
 (((0:Int)<=(1:Int)/\((1:Int)<=(IntKind.wrap .i64 ((1:Int)+r))/\(IntKind.wrap .i64 ((1:Int)+r))<=(24:Int)))/\LetW (α:=Sl) ⟨(sbase (some a) 1 1 24),((Int.toNat (IntKind.wrap .i64 ((1:Int)+r)))-1),23⟩ fun y1=>
 Call0 P zbk [y1.v,(.int .u64 u)] (fun h4=>
 (if decide (i<(0:Int)) then
 (((0:Int)<=(0:Int)/\(0:Int)<(24:Int))/\StW h4 (Addr.add a 0) [(.int .u8 (45:Int))] (fun h5=>
 (((0:Int)<=(IntKind.wrap .i64 ((1:Int)+r))/\(IntKind.wrap .i64 ((1:Int)+r))<=(24:Int))/\LetW (α:=Sl) ⟨(sbase (some a) 1 0 24),((Int.toNat (IntKind.wrap .i64 ((1:Int)+r)))-0),24⟩ fun y2=>
 SemV none P (convert 74 9 y2.v) shStr h5 fun x=>
 Q x h5)))
 else
 (((0:Int)<=(1:Int)/\((1:Int)<=(IntKind.wrap .i64 ((1:Int)+r))/\(IntKind.wrap .i64 ((1:Int)+r))<=(24:Int)))/\LetW (α:=Sl) ⟨(sbase (some a) 1 1 24),((Int.toNat (IntKind.wrap .i64 ((1:Int)+r)))-1),23⟩ fun y2=>
 SemV none P (convert 74 9 y2.v) shStr h4 fun x=>
 Q x h4))) h3)) h2)) h)
 else
 Call2 P zct [yN,(.int .u64 (IntKind.wrap .u64 i)),(yI base),(.bool (decide (i<(0:Int)))),(.bool false)] shSl shStr (fun r r1 h1=>
 Q r1 h1) h)
def zmo (P:Program) (b:Int) (Q:(Int->(Hp->Prop))) (h:Hp):Prop:=
 Call2 P zdx [(.int .u64 b)] (shInt .u64) yH (fun r r1 h1=>
 LoopW2 (α1:=Int) (α2:=Int) (fun again two x h2=>
 (if decide (x>(1:Int)) then
 ((2:Int)≠(0:Int)/\again (IntKind.wrap .i64 (two+(1:Int))) (IntKind.wrap .u64 (Int.tdiv x (2:Int))) h2)
 else
 ((100000:Int)≠(0:Int)/\LoopW1 (α1:=Int) (fun again1 e h3=>
 CallT P zex [(.int .u64 (1:Int)),(yI e),(.int .u64 r),(yI r1)] yH (fun r2 h4=>
 (if decide (r2>(0:Int)) then
 again1 (IntKind.wrap .i64 (e-(1:Int))) h4
 else
 Q e h4)) h3) (IntKind.wrap .i64 ((IntKind.wrap .i64 (Int.tdiv (IntKind.wrap .i64 (two*(30103:Int))) (100000:Int)))+(2:Int))) h2))) r1 r h1) h
def zkn (P:Program) (b:Int) (s:Int) (Q:(Int->(Int->(Hp->Prop)))) (h:Hp):Prop:=
 Call2 P zdx [(.int .u64 b)] (shInt .u64) yH (fun r r1 h1=>
 CallT P zgg [(.int .u64 r)] shSl (fun r2 h2=>
 CallT P zgg [(.int .u64 (1:Int))] shSl (fun r3 h3=>
 JoinW2 (α1:=Sl) (α2:=Sl) (fun k=>
 (if decide (r1>=(0:Int)) then
 CallT P zby [r2.v,(yI r1)] shSl (fun r4 h4=>
 k r4 r3 h4) h3
 else
 CallT P zby [r3.v,(yI (IntKind.wrap .i64 ((0:Int)-r1)))] shSl (fun r4 h4=>
 k r2 r4 h4) h3))
 (fun x y h4=>
 JoinW2 (α1:=Sl) (α2:=Sl) (fun k=>
 (if decide (s>=(0:Int)) then
 CallT P zen [y.v,(yI s)] shSl (fun r4 h5=>
 k ⟨x.base,x.len,x.cap⟩ r4 h5) h4
 else
 CallT P zen [x.v,(yI (IntKind.wrap .i64 ((0:Int)-s)))] shSl (fun r4 h5=>
 k r4 ⟨y.base,y.len,y.cap⟩ h5) h4))
 (fun x1 y1 h5=>
 LoopW3 (α1:=Sl) (α2:=Int) (α3:=Int) (fun again x2 q i h6=>
 (if decide (i>=(0:Int)) then
 JoinW2 (α1:=Sl) (α2:=Int) (fun k=>
 CallT P zby [y1.v,(yI i)] shSl (fun r4 h7=>
 CallT P zcc [x2.v,r4.v] yH (fun r5 h8=>
 (if decide (r5>=(0:Int)) then
 CallT P zli [x2.v,r4.v] shSl (fun r6 h9=>
 ((0:Int)<=i/\k r6 (bitsI .or .u64 q (shlI .u64 (1:Int) i)) h9)) h8
 else
 k ⟨x2.base,x2.len,x2.cap⟩ q h8)) h7) h6)
 (fun x3 q1 h7=>
 again ⟨x3.base,x3.len,x3.cap⟩ q1 (IntKind.wrap .i64 (i-(1:Int))) h7)
 else
 CallT P zcm [x2.v,(.int .u32 (2:Int))] shSl (fun r4 h7=>
 CallT P zcc [r4.v,y1.v] yH (fun r5 h8=>
 Q q r5 h8) h7) h6)) ⟨x1.base,x1.len,x1.cap⟩ (0:Int) (62:Int) h5))) h2) h1) h
def zhy (P:Program) (s:ByteArray) (prefix_:ByteArray) (Q:(Bool->(Hp->Prop))) (h:Hp):Prop:=
 (((decide ((((ByteArray.size s):Nat):Int)>=(((ByteArray.size prefix_):Nat):Int)))=true->((0:Int)<=(((ByteArray.size prefix_):Nat):Int)/\(((ByteArray.size prefix_):Nat):Int)<=(((ByteArray.size s):Nat):Int)))/\LetW ((decide ((((ByteArray.size s):Nat):Int)>=(((ByteArray.size prefix_):Nat):Int)))&&((ByteArray.toList (ByteArray.extract s 0 (Int.toNat (((ByteArray.size prefix_):Nat):Int))))==(ByteArray.toList prefix_))) fun y=>
 Q y h)
def ziq (P:Program) (c:Int) (Q:(Int->(Hp->Prop))) (h:Hp):Prop:=
 Q (bitsI .or .u8 c (32:Int)) h
def zec (P:Program) (s:ByteArray) (Q:(Bool->(Hp->Prop))) (h:Hp):Prop:=
 JoinW1 (α1:=ByteArray) (fun k=>
 (((decide ((((ByteArray.size s):Nat):Int)>=(1:Int)))=true->((0:Int)<=(0:Int)/\(0:Int)<(((ByteArray.size s):Nat):Int)))/\((((decide ((((ByteArray.size s):Nat):Int)>=(1:Int)))&&(!((((UInt8.toNat (List.getD s.data.toList 0 0)):Nat):Int)==(45:Int))))=true->((0:Int)<=(0:Int)/\(0:Int)<(((ByteArray.size s):Nat):Int)))/\LetW (((((UInt8.toNat (List.getD s.data.toList 0 0)):Nat):Int)==(45:Int)) || ((((UInt8.toNat (List.getD s.data.toList 0 0)):Nat):Int)==(43:Int))) fun y=>
 LetW ((decide ((((ByteArray.size s):Nat):Int)>=(1:Int)))&&y) fun y1=>
 (if y1 then
 (((0:Int)<=(1:Int)/\(1:Int)<=(((ByteArray.size s):Nat):Int))/\k (ByteArray.extract s 1 (ByteArray.size s)) h)
 else
 k s h))))
 (fun s1 h1=>
 JoinW3 (α1:=Int) (α2:=Int) (α3:=Bool) (fun k=>
 (((decide ((((ByteArray.size s1):Nat):Int)>=(2:Int)))=true->((0:Int)<=(0:Int)/\(0:Int)<(((ByteArray.size s1):Nat):Int)))/\LetW ((decide ((((ByteArray.size s1):Nat):Int)>=(2:Int)))&&((((UInt8.toNat (List.getD s1.data.toList 0 0)):Nat):Int)==(48:Int))) fun y=>
 ((y=true->((0:Int)<=(1:Int)/\(1:Int)<(((ByteArray.size s1):Nat):Int)))/\EffC (some y) (CallT P zaf [(.int .u8 (((UInt8.toNat (List.getD s1.data.toList 1 0)):Nat):Int))] (shInt .u8)) (fun r h2=>
 (((y&&(!(r==(98:Int))))=true->((0:Int)<=(1:Int)/\(1:Int)<(((ByteArray.size s1):Nat):Int)))/\EffC (some (y&&(!(r==(98:Int))))) (CallT P zaf [(.int .u8 (((UInt8.toNat (List.getD s1.data.toList 1 0)):Nat):Int))] (shInt .u8)) (fun r1 h3=>
 LetW ((r==(98:Int)) || (r1==(111:Int))) fun y1=>
 (((y&&(!y1))=true->((0:Int)<=(1:Int)/\(1:Int)<(((ByteArray.size s1):Nat):Int)))/\EffC (some (y&&(!y1))) (CallT P zaf [(.int .u8 (((UInt8.toNat (List.getD s1.data.toList 1 0)):Nat):Int))] (shInt .u8)) (fun r2 h4=>
 LetW (y1 || (r2==(120:Int))) fun y2=>
 LetW (y&&y2) fun y3=>
 (if y3 then
 (((0:Int)<=(1:Int)/\(1:Int)<(((ByteArray.size s1):Nat):Int))/\CallT P zaf [(.int .u8 (((UInt8.toNat (List.getD s1.data.toList 1 0)):Nat):Int))] (shInt .u8) (fun r3 h5=>
 k (48:Int) (2:Int) (r3==(120:Int)) h5) h4)
 else
 k (94:Int) (0:Int) false h4)) h3)) h2)) h1)))
 (fun saw i hex h2=>
 LoopW2 (α1:=Int) (α2:=Int) (fun again saw1 i1 h3=>
 (if (decide (i1<(((ByteArray.size s1):Nat):Int)))=true then
 JoinW1 (α1:=Int) (fun k=>
 (((0:Int)<=i1/\i1<(((ByteArray.size s1):Nat):Int))/\(((decide ((48:Int)<=(((UInt8.toNat (List.getD s1.data.toList (Int.toNat i1) 0)):Nat):Int)))=true->((0:Int)<=i1/\i1<(((ByteArray.size s1):Nat):Int)))/\LetW ((decide ((48:Int)<=(((UInt8.toNat (List.getD s1.data.toList (Int.toNat i1) 0)):Nat):Int)))&&(decide ((((UInt8.toNat (List.getD s1.data.toList (Int.toNat i1) 0)):Nat):Int)<=(57:Int)))) fun y=>
 ((((!y)&&hex)=true->((0:Int)<=i1/\i1<(((ByteArray.size s1):Nat):Int)))/\EffC (some ((!y)&&hex)) (CallT P zaf [(.int .u8 (((UInt8.toNat (List.getD s1.data.toList (Int.toNat i1) 0)):Nat):Int))] (shInt .u8)) (fun r h4=>
 LetW (hex&&(decide ((97:Int)<=r))) fun y1=>
 ((((!y)&&y1)=true->((0:Int)<=i1/\i1<(((ByteArray.size s1):Nat):Int)))/\EffC (some ((!y)&&y1)) (CallT P zaf [(.int .u8 (((UInt8.toNat (List.getD s1.data.toList (Int.toNat i1) 0)):Nat):Int))] (shInt .u8)) (fun r1 h5=>
 LetW (y1&&(decide (r1<=(102:Int)))) fun y2=>
 LetW (y || y2) fun y3=>
 (if y3 then
 k (48:Int) h5
 else
 (((0:Int)<=i1/\i1<(((ByteArray.size s1):Nat):Int))/\(if ((((UInt8.toNat (List.getD s1.data.toList (Int.toNat i1) 0)):Nat):Int)==(95:Int))=true then
 (if (saw1 !=(48:Int))=true then
 Q false h5
 else
 k (95:Int) h5)
 else
 (if (saw1==(95:Int))=true then
 Q false h5
 else
 k (33:Int) h5))))) h4)) h3))))
 (fun saw2 h4=>
 again saw2 (IntKind.wrap .i64 (i1+(1:Int))) h4)
 else
 Q (saw1 !=(95:Int)) h3)) saw i h2))
def zcx (P:Program) (s:ByteArray) (bitSize:Int) (Q:(Nat->(Int->(Leaf->(Hp->Prop))))) (h:Hp):Prop:=
 (if (bitSize==(32:Int))=true then
 Call3 P zvw [(.string s)] (shFlt .f32) yH zai (fun r r1 r2 h1=>
 SemV none P (convert 120 48 (.float .f32 r)) (shFlt .f64) h1 fun x=>
 EncW zai r2.v fun e=>
 Q x r1 e h1) h
 else
 Call3 P zhn [(.string s)] (shFlt .f64) yH zai (fun r r1 r2 h1=>
 EncW zai r2.v fun e=>
 Q r r1 e h1) h)
def zko (P:Program) (b:Int) (Q:(Int->(Int->(Hp->Prop)))) (h:Hp):Prop:=
 ((0:Int)<=(52:Int)/\(if ((IntKind.wrap .i64 (shrI .u64 b (52:Int)))==(0:Int))=true then
 Q (bitsI .and .u64 b (4503599627370495:Int)) (-1074:Int) h
 else
 Q (bitsI .or .u64 (bitsI .and .u64 b (4503599627370495:Int)) (4503599627370496:Int)) (IntKind.wrap .i64 ((IntKind.wrap .i64 (shrI .u64 b (52:Int)))-(1075:Int))) h))
def zir (P:Program) (c:Int) (s:Int) (l:Int) (k:Int) (Q:(Int->(Hp->Prop))) (h:Hp):Prop:=
 CallT P zgg [(.int .u64 c)] shSl (fun r h1=>
 CallT P zgg [(.int .u64 l)] shSl (fun r1 h2=>
 JoinW2 (α1:=Sl) (α2:=Sl) (fun k1=>
 (if decide (s>=(0:Int)) then
 CallT P zen [r.v,(yI s)] shSl (fun r2 h3=>
 k1 r2 r1 h3) h2
 else
 CallT P zen [r1.v,(yI (IntKind.wrap .i64 ((0:Int)-s)))] shSl (fun r2 h3=>
 k1 r r2 h3) h2))
 (fun a b h3=>
 JoinW2 (α1:=Sl) (α2:=Sl) (fun k1=>
 (if decide (k>=(0:Int)) then
 CallT P zby [b.v,(yI k)] shSl (fun r2 h4=>
 k1 ⟨a.base,a.len,a.cap⟩ r2 h4) h3
 else
 CallT P zby [a.v,(yI (IntKind.wrap .i64 ((0:Int)-k)))] shSl (fun r2 h4=>
 k1 r2 ⟨b.base,b.len,b.cap⟩ h4) h3))
 (fun a1 b1 h4=>
 CallT P zcc [a1.v,b1.v] yH (fun r2 h5=>
 Q r2 h5) h4))) h1) h
def zzc (P:Program) (op:Int) (Q:(ByteArray->(Hp->Prop))) (h:Hp):Prop:=
 LetW ((decide (op<(0:Int))) || (decide (op>=(34:Int)))) fun y=>
 (if y then
 Q ⟨#[]⟩ h
 else
 (((0:Int)<=op/\op<(34:Int))/\∃x:ByteArray,((List.get?Internal (α:=Value) [(.string ⟨#[]⟩),(.string ⟨#[97,105]⟩),(.string ⟨#[97,98]⟩),(.string ⟨#[97,98,99]⟩),(.string ⟨#[97,98,99]⟩),(.string ⟨#[97,98,99]⟩),(.string ⟨#[97,98,99]⟩),(.string ⟨#[97,98,99]⟩),(.string ⟨#[97,98,99]⟩),(.string ⟨#[97,98,99]⟩),(.string ⟨#[97,98,99]⟩),(.string ⟨#[97,98,99]⟩),(.string ⟨#[97,98,99]⟩),(.string ⟨#[97,98,99]⟩),(.string ⟨#[97,98,99]⟩),(.string ⟨#[97,98,99]⟩),(.string ⟨#[97,98,99]⟩),(.string ⟨#[97,98,99]⟩),(.string ⟨#[97,98,99]⟩),(.string ⟨#[97,98,99]⟩),(.string ⟨#[97,98]⟩),(.string ⟨#[97,98]⟩),(.string ⟨#[105]⟩),(.string ⟨#[97,105]⟩),(.string ⟨#[97,98,99]⟩),(.string ⟨#[97,98]⟩),(.string ⟨#[97,98]⟩),(.string ⟨#[97]⟩),(.string ⟨#[97]⟩),(.string ⟨#[105]⟩),(.string ⟨#[105]⟩),(.string ⟨#[97]⟩),(.string ⟨#[97]⟩),(.string ⟨#[97]⟩)] ((Int.toNat op)*1))=(some (.string x))/\Q x h)))
def zbv1 (P:Program) (field:ByteArray) (a1:Addr) (Q:(Bool->(Hp->Prop))) (h:Hp):Prop:=
 LdW none shStr h a1 fun x=>
 CallT P zvm [(.string x),(.string field)] zae (fun r h1=>
 Q r h1) h
def zev1 (P:Program) (n:Int) (Q:(Bool->(Hp->Prop))) (h:Hp):Prop:=
 LetW ((decide (n>=(-4503599627370496:Int)))&&(decide (n<=(4503599627370496:Int)))) fun y=>
 Q y h
def zno (P:Program) (i:Int) (base:Int) (Q:(ByteArray->(Hp->Prop))) (h:Hp):Prop:=
 CallT P zfn [(yI i),(yI base)] shStr (fun r h1=>
 Q r h1) h
def zpa (P:Program) (r:Option Addr) (Q:(ByteArray->(Int->(Bool->(Hp->Prop))))) (h:Hp):Prop:=
 NilW none r fun p=>
 yLi h p 2 fun x=>
 (if (x !=(0:Int))=true then
 Q ⟨#[]⟩ (0:Int) false h
 else
 NilW none r fun p1=>
 yLi h p1 1 fun x1=>
 NilW none r fun p2=>
 LdW none shStr h (Addr.add p2 0) fun x2=>
 (if (x1==(((ByteArray.size x2):Nat):Int))=true then
 NilW none r fun p3=>
 yLi h p3 1 fun x3=>
 Call0 P zav [(yP r),(yI (5:Int)),(yI x3)] (fun h1=>
 Q ⟨#[]⟩ (0:Int) false h1) h
 else
 NilW none r fun p3=>
 yLi h p3 1 fun x3=>
 NilW none r fun p4=>
 LdW none shStr h (Addr.add p4 0) fun x4=>
 (((0:Int)<=(IntKind.wrap .i64 (x3+(1:Int)))/\(IntKind.wrap .i64 (x3+(1:Int)))<=(((ByteArray.size x4):Nat):Int))/\Call3 P zmc [(.string (ByteArray.extract x4 (Int.toNat (IntKind.wrap .i64 (x3+(1:Int)))) (ByteArray.size x4))),(.string ⟨#[32]⟩)] shStr shStr zae (fun r1 r2 r3 h1=>
 NilW none r fun p5=>
 StW h1 (Addr.add p5 1) [(yI (IntKind.wrap .i64 ((IntKind.wrap .i64 (x3+(1:Int)))+(((ByteArray.size r1):Nat):Int))))] (fun h2=>
 Q r1 (IntKind.wrap .i64 (x3+(1:Int))) true h2)) h)))
def zew1 (P:Program) (text:ByteArray) (Q:(Int->(Bool->(Hp->Prop)))) (h:Hp):Prop:=
 Call2 P zow [(.string text),(yI (10:Int)),(yI (64:Int))] yH zai (fun r r1 h1=>
 ((isIfV r1.v)=true/\EffC (some (zcl r1.v)) (CallT P zeb [(yI r),(yI (10:Int))] shStr) (fun r2 h2=>
 LetW ((zcl r1.v)&&((ByteArray.toList r2)==(ByteArray.toList text))) fun y=>
 Q r y h2) h1)) h
def zlf1 (P:Program) (text:ByteArray) (Q:(Int->(Bool->(Hp->Prop)))) (h:Hp):Prop:=
 Call2 P zjk [(.string text),(.string ⟨#[102]⟩)] shStr zae (fun r r1 h1=>
 (if r1 then
 Call2 P zeq1 [(.string r)] yH yH (fun r2 r3 h2=>
 EffC (some (r3==(0:Int))) (CallT P zyu [(yI r2)] zae) (fun r4 h3=>
 LetW ((r3==(0:Int))&&(!r4)) fun y=>
 Q r2 y h3) h2) h1
 else
 Call2 P zyv [(.string text)] yH zae (fun r2 r3 h2=>
 EffC (some r3) (CallT P zyu [(yI r2)] zae) (fun r4 h3=>
 LetW (r3&&r4) fun y=>
 Q r2 y h3) h2) h1)) h
def zci (P:Program) (s:ByteArray) (Q:(Int->(Bool->(Hp->Prop)))) (h:Hp):Prop:=
 (((decide ((((ByteArray.size s):Nat):Int)>(0:Int)))=true->((0:Int)<=(0:Int)/\(0:Int)<(((ByteArray.size s):Nat):Int)))/\LetW ((decide ((((ByteArray.size s):Nat):Int)>(0:Int)))&&((((UInt8.toNat (List.getD s.data.toList 0 0)):Nat):Int)==(45:Int))) fun y=>
 JoinW1 (α1:=Int) (fun k=>
 (if y then
 k (1:Int) h
 else
 k (0:Int) h))
 (fun at_ h1=>
 LoopW2 (α1:=Int) (α2:=Int) (fun again n i h2=>
 (if (decide (i<(((ByteArray.size s):Nat):Int)))=true then
 (((0:Int)<=i/\i<(((ByteArray.size s):Nat):Int))/\(((!(decide ((((UInt8.toNat (List.getD s.data.toList (Int.toNat i) 0)):Nat):Int)<(48:Int))))=true->((0:Int)<=i/\i<(((ByteArray.size s):Nat):Int)))/\LetW ((decide ((((UInt8.toNat (List.getD s.data.toList (Int.toNat i) 0)):Nat):Int)<(48:Int))) || (decide ((((UInt8.toNat (List.getD s.data.toList (Int.toNat i) 0)):Nat):Int)>(57:Int)))) fun y1=>
 (if y1 then
 Q (0:Int) false h2
 else
 (((0:Int)<=i/\i<(((ByteArray.size s):Nat):Int))/\((10:Int)≠(0:Int)/\(if (decide (n<(IntKind.wrap .i64 (Int.tdiv (IntKind.wrap .i64 ((-9223372036854775808:Int)+(IntKind.wrap .i64 (IntKind.wrap .u8 ((((UInt8.toNat (List.getD s.data.toList (Int.toNat i) 0)):Nat):Int)-(48:Int)))))) (10:Int)))))=true then
 Q (0:Int) false h2
 else
 again (IntKind.wrap .i64 ((IntKind.wrap .i64 ((10:Int)*n))-(IntKind.wrap .i64 (IntKind.wrap .u8 ((((UInt8.toNat (List.getD s.data.toList (Int.toNat i) 0)):Nat):Int)-(48:Int)))))) (IntKind.wrap .i64 (i+(1:Int))) h2))))))
 else
 JoinW1 (α1:=Int) (fun k=>
 (if (!y)=true then
 (if (n==(-9223372036854775808:Int))=true then
 Q (0:Int) false h2
 else
 k (IntKind.wrap .i64 ((0:Int)-n)) h2)
 else
 k n h2))
 (fun n1 h3=>
 CallT P zeb [(yI n1),(yI (10:Int))] shStr (fun r h4=>
 Q n1 ((ByteArray.toList r)==(ByteArray.toList s)) h4) h3))) (0:Int) at_ h1))
def zis (P:Program) (i:Int) (Q:(ByteArray->(Hp->Prop))) (h:Hp):Prop:=
 (if decide (i<(10:Int)) then
 (((0:Int)<=i/\(i<=(IntKind.wrap .i64 (i+(1:Int)))/\(IntKind.wrap .i64 (i+(1:Int)))<=(36:Int)))/\Q (ByteArray.extract ⟨#[48,49,50,51,52,53,54,55,56,57,97,98,99,100,101,102,103,104,105,106,107,108,109,110,111,112,113,114,115,116,117,118,119,120,121,122]⟩ (Int.toNat i) (Int.toNat (IntKind.wrap .i64 (i+(1:Int))))) h)
 else
 (((0:Int)<=(IntKind.wrap .i64 (i*(2:Int)))/\((IntKind.wrap .i64 (i*(2:Int)))<=(IntKind.wrap .i64 ((IntKind.wrap .i64 (i*(2:Int)))+(2:Int)))/\(IntKind.wrap .i64 ((IntKind.wrap .i64 (i*(2:Int)))+(2:Int)))<=(200:Int)))/\Q (ByteArray.extract ⟨#[48,48,48,49,48,50,48,51,48,52,48,53,48,54,48,55,48,56,48,57,49,48,49,49,49,50,49,51,49,52,49,53,49,54,49,55,49,56,49,57,50,48,50,49,50,50,50,51,50,52,50,53,50,54,50,55,50,56,50,57,51,48,51,49,51,50,51,51,51,52,51,53,51,54,51,55,51,56,51,57,52,48,52,49,52,50,52,51,52,52,52,53,52,54,52,55,52,56,52,57,53,48,53,49,53,50,53,51,53,52,53,53,53,54,53,55,53,56,53,57,54,48,54,49,54,50,54,51,54,52,54,53,54,54,54,55,54,56,54,57,55,48,55,49,55,50,55,51,55,52,55,53,55,54,55,55,55,56,55,57,56,48,56,49,56,50,56,51,56,52,56,53,56,54,56,55,56,56,56,57,57,48,57,49,57,50,57,51,57,52,57,53,57,54,57,55,57,56,57,57]⟩ (Int.toNat (IntKind.wrap .i64 (i*(2:Int)))) (Int.toNat (IntKind.wrap .i64 ((IntKind.wrap .i64 (i*(2:Int)))+(2:Int))))) h))
def zfu (P:Program) (d:Int) (Q:(Int->(Hp->Prop))) (h:Hp):Prop:=
 CallT P zil [(.int .u64 d)] yH (fun r h1=>
 CallT P zbf [(yI r)] yH (fun r1 h2=>
 (((0:Int)<=r1/\r1<(20:Int))/\LdW none (shInt .u64) h2 (Addr.add ⟨5,0,none⟩ ((Int.toNat r1)*1)) fun x=>
 CallT P zfo [(.bool (decide (d>=x)))] yH (fun r2 h3=>
 Q (IntKind.wrap .i64 (r1+r2)) h3) h2)) h1) h
def bl200 :List UInt8:=[48,48,48,49,48,50,48,51,48,52,48,53,48,54,48,55,48,56,48,57,49,48,49,49,49,50,49,51,49,52,49,53,49,54,49,55,49,56,49,57,50,48,50,49,50,50,50,51,50,52,50,53,50,54,50,55,50,56,50,57,51,48,51,49,51,50,51,51,51,52,51,53,51,54,51,55,51,56,51,57,52,48,52,49,52,50,52,51,52,52,52,53,52,54,52,55,52,56,52,57,53,48,53,49,53,50,53,51,53,52,53,53,53,54,53,55,53,56,53,57,54,48,54,49,54,50,54,51,54,52,54,53,54,54,54,55,54,56,54,57,55,48,55,49,55,50,55,51,55,52,55,53,55,54,55,55,55,56,55,57,56,48,56,49,56,50,56,51,56,52,56,53,56,54,56,55,56,56,56,57,57,48,57,49,57,50,57,51,57,52,57,53,57,54,57,55,57,56,57,57]
def zed (P:Program) (a:Sl) (u:Int) (Q:(Hp->Prop)) (h:Hp):Prop:=
 LoopW2 (α1:=Int) (α2:=Int) (fun again u1 nd h1=>
 (if decide (nd>=(8:Int)) then
 ((100000000:Int)≠(0:Int)/\((100000000:Int)≠(0:Int)/\((10000:Int)≠(0:Int)/\((10000:Int)≠(0:Int)/\((100:Int)≠(0:Int)/\((100:Int)≠(0:Int)/\((100:Int)≠(0:Int)/\((100:Int)≠(0:Int)/\(((0:Int)<=(IntKind.wrap .u32 ((IntKind.wrap .u32 ((Int.tmod (Int.tmod (IntKind.wrap .u32 (Int.tmod u1 (100000000:Int))) (10000:Int)) (100:Int))*(2:Int)))+(1:Int)))/\(IntKind.wrap .u32 ((IntKind.wrap .u32 ((Int.tmod (Int.tmod (IntKind.wrap .u32 (Int.tmod u1 (100000000:Int))) (10000:Int)) (100:Int))*(2:Int)))+(1:Int)))<(200:Int))/\(((0:Int)<=(IntKind.wrap .u32 ((Int.tmod (Int.tmod (IntKind.wrap .u32 (Int.tmod u1 (100000000:Int))) (10000:Int)) (100:Int))*(2:Int)))/\(IntKind.wrap .u32 ((Int.tmod (Int.tmod (IntKind.wrap .u32 (Int.tmod u1 (100000000:Int))) (10000:Int)) (100:Int))*(2:Int)))<(200:Int))/\((InB a.base a.len (IntKind.wrap .i64 (nd-(1:Int))))/\StW h1 (sat a.base 1 (IntKind.wrap .i64 (nd-(1:Int)))) [(.int .u8 (((UInt8.toNat (List.getD bl200 (Int.toNat (IntKind.wrap .u32 ((IntKind.wrap .u32 ((Int.tmod (Int.tmod (IntKind.wrap .u32 (Int.tmod u1 (100000000:Int))) (10000:Int)) (100:Int))*(2:Int)))+(1:Int)))) 0)):Nat):Int))] (fun h2=>
 ((InB a.base a.len (IntKind.wrap .i64 (nd-(2:Int))))/\StW h2 (sat a.base 1 (IntKind.wrap .i64 (nd-(2:Int)))) [(.int .u8 (((UInt8.toNat (List.getD bl200 (Int.toNat (IntKind.wrap .u32 ((Int.tmod (Int.tmod (IntKind.wrap .u32 (Int.tmod u1 (100000000:Int))) (10000:Int)) (100:Int))*(2:Int)))) 0)):Nat):Int))] (fun h3=>
 (((0:Int)<=(IntKind.wrap .u32 ((IntKind.wrap .u32 ((IntKind.wrap .u32 (Int.tdiv (Int.tmod (IntKind.wrap .u32 (Int.tmod u1 (100000000:Int))) (10000:Int)) (100:Int)))*(2:Int)))+(1:Int)))/\(IntKind.wrap .u32 ((IntKind.wrap .u32 ((IntKind.wrap .u32 (Int.tdiv (Int.tmod (IntKind.wrap .u32 (Int.tmod u1 (100000000:Int))) (10000:Int)) (100:Int)))*(2:Int)))+(1:Int)))<(200:Int))/\(((0:Int)<=(IntKind.wrap .u32 ((IntKind.wrap .u32 (Int.tdiv (Int.tmod (IntKind.wrap .u32 (Int.tmod u1 (100000000:Int))) (10000:Int)) (100:Int)))*(2:Int)))/\(IntKind.wrap .u32 ((IntKind.wrap .u32 (Int.tdiv (Int.tmod (IntKind.wrap .u32 (Int.tmod u1 (100000000:Int))) (10000:Int)) (100:Int)))*(2:Int)))<(200:Int))/\((InB a.base a.len (IntKind.wrap .i64 (nd-(3:Int))))/\StW h3 (sat a.base 1 (IntKind.wrap .i64 (nd-(3:Int)))) [(.int .u8 (((UInt8.toNat (List.getD bl200 (Int.toNat (IntKind.wrap .u32 ((IntKind.wrap .u32 ((IntKind.wrap .u32 (Int.tdiv (Int.tmod (IntKind.wrap .u32 (Int.tmod u1 (100000000:Int))) (10000:Int)) (100:Int)))*(2:Int)))+(1:Int)))) 0)):Nat):Int))] (fun h4=>
 ((InB a.base a.len (IntKind.wrap .i64 (nd-(4:Int))))/\StW h4 (sat a.base 1 (IntKind.wrap .i64 (nd-(4:Int)))) [(.int .u8 (((UInt8.toNat (List.getD bl200 (Int.toNat (IntKind.wrap .u32 ((IntKind.wrap .u32 (Int.tdiv (Int.tmod (IntKind.wrap .u32 (Int.tmod u1 (100000000:Int))) (10000:Int)) (100:Int)))*(2:Int)))) 0)):Nat):Int))] (fun h5=>
 (((0:Int)<=(IntKind.wrap .u32 ((IntKind.wrap .u32 ((Int.tmod (IntKind.wrap .u32 (Int.tdiv (IntKind.wrap .u32 (Int.tmod u1 (100000000:Int))) (10000:Int))) (100:Int))*(2:Int)))+(1:Int)))/\(IntKind.wrap .u32 ((IntKind.wrap .u32 ((Int.tmod (IntKind.wrap .u32 (Int.tdiv (IntKind.wrap .u32 (Int.tmod u1 (100000000:Int))) (10000:Int))) (100:Int))*(2:Int)))+(1:Int)))<(200:Int))/\(((0:Int)<=(IntKind.wrap .u32 ((Int.tmod (IntKind.wrap .u32 (Int.tdiv (IntKind.wrap .u32 (Int.tmod u1 (100000000:Int))) (10000:Int))) (100:Int))*(2:Int)))/\(IntKind.wrap .u32 ((Int.tmod (IntKind.wrap .u32 (Int.tdiv (IntKind.wrap .u32 (Int.tmod u1 (100000000:Int))) (10000:Int))) (100:Int))*(2:Int)))<(200:Int))/\((InB a.base a.len (IntKind.wrap .i64 (nd-(5:Int))))/\StW h5 (sat a.base 1 (IntKind.wrap .i64 (nd-(5:Int)))) [(.int .u8 (((UInt8.toNat (List.getD bl200 (Int.toNat (IntKind.wrap .u32 ((IntKind.wrap .u32 ((Int.tmod (IntKind.wrap .u32 (Int.tdiv (IntKind.wrap .u32 (Int.tmod u1 (100000000:Int))) (10000:Int))) (100:Int))*(2:Int)))+(1:Int)))) 0)):Nat):Int))] (fun h6=>
 ((InB a.base a.len (IntKind.wrap .i64 (nd-(6:Int))))/\StW h6 (sat a.base 1 (IntKind.wrap .i64 (nd-(6:Int)))) [(.int .u8 (((UInt8.toNat (List.getD bl200 (Int.toNat (IntKind.wrap .u32 ((Int.tmod (IntKind.wrap .u32 (Int.tdiv (IntKind.wrap .u32 (Int.tmod u1 (100000000:Int))) (10000:Int))) (100:Int))*(2:Int)))) 0)):Nat):Int))] (fun h7=>
 (((0:Int)<=(IntKind.wrap .u32 ((IntKind.wrap .u32 ((IntKind.wrap .u32 (Int.tdiv (IntKind.wrap .u32 (Int.tdiv (IntKind.wrap .u32 (Int.tmod u1 (100000000:Int))) (10000:Int))) (100:Int)))*(2:Int)))+(1:Int)))/\(IntKind.wrap .u32 ((IntKind.wrap .u32 ((IntKind.wrap .u32 (Int.tdiv (IntKind.wrap .u32 (Int.tdiv (IntKind.wrap .u32 (Int.tmod u1 (100000000:Int))) (10000:Int))) (100:Int)))*(2:Int)))+(1:Int)))<(200:Int))/\(((0:Int)<=(IntKind.wrap .u32 ((IntKind.wrap .u32 (Int.tdiv (IntKind.wrap .u32 (Int.tdiv (IntKind.wrap .u32 (Int.tmod u1 (100000000:Int))) (10000:Int))) (100:Int)))*(2:Int)))/\(IntKind.wrap .u32 ((IntKind.wrap .u32 (Int.tdiv (IntKind.wrap .u32 (Int.tdiv (IntKind.wrap .u32 (Int.tmod u1 (100000000:Int))) (10000:Int))) (100:Int)))*(2:Int)))<(200:Int))/\((InB a.base a.len (IntKind.wrap .i64 (nd-(7:Int))))/\StW h7 (sat a.base 1 (IntKind.wrap .i64 (nd-(7:Int)))) [(.int .u8 (((UInt8.toNat (List.getD bl200 (Int.toNat (IntKind.wrap .u32 ((IntKind.wrap .u32 ((IntKind.wrap .u32 (Int.tdiv (IntKind.wrap .u32 (Int.tdiv (IntKind.wrap .u32 (Int.tmod u1 (100000000:Int))) (10000:Int))) (100:Int)))*(2:Int)))+(1:Int)))) 0)):Nat):Int))] (fun h8=>
 ((InB a.base a.len (IntKind.wrap .i64 (nd-(8:Int))))/\StW h8 (sat a.base 1 (IntKind.wrap .i64 (nd-(8:Int)))) [(.int .u8 (((UInt8.toNat (List.getD bl200 (Int.toNat (IntKind.wrap .u32 ((IntKind.wrap .u32 (Int.tdiv (IntKind.wrap .u32 (Int.tdiv (IntKind.wrap .u32 (Int.tmod u1 (100000000:Int))) (10000:Int))) (100:Int)))*(2:Int)))) 0)):Nat):Int))] (fun h9=>
 again (IntKind.wrap .u64 (Int.tdiv u1 (100000000:Int))) (IntKind.wrap .i64 (nd-(8:Int))) h9))))))))))))))))))))))))))))))))
 else
 JoinW2 (α1:=Int) (α2:=Int) (fun k=>
 (if decide (nd>=(4:Int)) then
 ((10000:Int)≠(0:Int)/\((10000:Int)≠(0:Int)/\((100:Int)≠(0:Int)/\((100:Int)≠(0:Int)/\(((0:Int)<=(IntKind.wrap .u32 ((IntKind.wrap .u32 ((Int.tmod (Int.tmod (IntKind.wrap .u32 u1) (10000:Int)) (100:Int))*(2:Int)))+(1:Int)))/\(IntKind.wrap .u32 ((IntKind.wrap .u32 ((Int.tmod (Int.tmod (IntKind.wrap .u32 u1) (10000:Int)) (100:Int))*(2:Int)))+(1:Int)))<(200:Int))/\(((0:Int)<=(IntKind.wrap .u32 ((Int.tmod (Int.tmod (IntKind.wrap .u32 u1) (10000:Int)) (100:Int))*(2:Int)))/\(IntKind.wrap .u32 ((Int.tmod (Int.tmod (IntKind.wrap .u32 u1) (10000:Int)) (100:Int))*(2:Int)))<(200:Int))/\((InB a.base a.len (IntKind.wrap .i64 (nd-(1:Int))))/\StW h1 (sat a.base 1 (IntKind.wrap .i64 (nd-(1:Int)))) [(.int .u8 (((UInt8.toNat (List.getD bl200 (Int.toNat (IntKind.wrap .u32 ((IntKind.wrap .u32 ((Int.tmod (Int.tmod (IntKind.wrap .u32 u1) (10000:Int)) (100:Int))*(2:Int)))+(1:Int)))) 0)):Nat):Int))] (fun h2=>
 ((InB a.base a.len (IntKind.wrap .i64 (nd-(2:Int))))/\StW h2 (sat a.base 1 (IntKind.wrap .i64 (nd-(2:Int)))) [(.int .u8 (((UInt8.toNat (List.getD bl200 (Int.toNat (IntKind.wrap .u32 ((Int.tmod (Int.tmod (IntKind.wrap .u32 u1) (10000:Int)) (100:Int))*(2:Int)))) 0)):Nat):Int))] (fun h3=>
 (((0:Int)<=(IntKind.wrap .u32 ((IntKind.wrap .u32 ((IntKind.wrap .u32 (Int.tdiv (Int.tmod (IntKind.wrap .u32 u1) (10000:Int)) (100:Int)))*(2:Int)))+(1:Int)))/\(IntKind.wrap .u32 ((IntKind.wrap .u32 ((IntKind.wrap .u32 (Int.tdiv (Int.tmod (IntKind.wrap .u32 u1) (10000:Int)) (100:Int)))*(2:Int)))+(1:Int)))<(200:Int))/\(((0:Int)<=(IntKind.wrap .u32 ((IntKind.wrap .u32 (Int.tdiv (Int.tmod (IntKind.wrap .u32 u1) (10000:Int)) (100:Int)))*(2:Int)))/\(IntKind.wrap .u32 ((IntKind.wrap .u32 (Int.tdiv (Int.tmod (IntKind.wrap .u32 u1) (10000:Int)) (100:Int)))*(2:Int)))<(200:Int))/\((InB a.base a.len (IntKind.wrap .i64 (nd-(3:Int))))/\StW h3 (sat a.base 1 (IntKind.wrap .i64 (nd-(3:Int)))) [(.int .u8 (((UInt8.toNat (List.getD bl200 (Int.toNat (IntKind.wrap .u32 ((IntKind.wrap .u32 ((IntKind.wrap .u32 (Int.tdiv (Int.tmod (IntKind.wrap .u32 u1) (10000:Int)) (100:Int)))*(2:Int)))+(1:Int)))) 0)):Nat):Int))] (fun h4=>
 ((InB a.base a.len (IntKind.wrap .i64 (nd-(4:Int))))/\StW h4 (sat a.base 1 (IntKind.wrap .i64 (nd-(4:Int)))) [(.int .u8 (((UInt8.toNat (List.getD bl200 (Int.toNat (IntKind.wrap .u32 ((IntKind.wrap .u32 (Int.tdiv (Int.tmod (IntKind.wrap .u32 u1) (10000:Int)) (100:Int)))*(2:Int)))) 0)):Nat):Int))] (fun h5=>
 k (IntKind.wrap .i64 (nd-(4:Int))) (IntKind.wrap .u32 (Int.tdiv (IntKind.wrap .u32 u1) (10000:Int))) h5))))))))))))))))
 else
 k nd (IntKind.wrap .u32 u1) h1))
 (fun nd1 x h2=>
 JoinW2 (α1:=Int) (α2:=Int) (fun k=>
 (if decide (nd1>=(2:Int)) then
 ((100:Int)≠(0:Int)/\((100:Int)≠(0:Int)/\(((0:Int)<=(IntKind.wrap .u32 ((IntKind.wrap .u32 ((Int.tmod x (100:Int))*(2:Int)))+(1:Int)))/\(IntKind.wrap .u32 ((IntKind.wrap .u32 ((Int.tmod x (100:Int))*(2:Int)))+(1:Int)))<(200:Int))/\(((0:Int)<=(IntKind.wrap .u32 ((Int.tmod x (100:Int))*(2:Int)))/\(IntKind.wrap .u32 ((Int.tmod x (100:Int))*(2:Int)))<(200:Int))/\((InB a.base a.len (IntKind.wrap .i64 (nd1-(1:Int))))/\StW h2 (sat a.base 1 (IntKind.wrap .i64 (nd1-(1:Int)))) [(.int .u8 (((UInt8.toNat (List.getD bl200 (Int.toNat (IntKind.wrap .u32 ((IntKind.wrap .u32 ((Int.tmod x (100:Int))*(2:Int)))+(1:Int)))) 0)):Nat):Int))] (fun h3=>
 ((InB a.base a.len (IntKind.wrap .i64 (nd1-(2:Int))))/\StW h3 (sat a.base 1 (IntKind.wrap .i64 (nd1-(2:Int)))) [(.int .u8 (((UInt8.toNat (List.getD bl200 (Int.toNat (IntKind.wrap .u32 ((Int.tmod x (100:Int))*(2:Int)))) 0)):Nat):Int))] (fun h4=>
 k (IntKind.wrap .i64 (nd1-(2:Int))) (IntKind.wrap .u32 (Int.tdiv x (100:Int))) h4))))))))
 else
 k nd1 x h2))
 (fun nd2 x1 h3=>
 (if decide (nd2>(0:Int)) then
 ((InB a.base a.len (0:Int))/\StW h3 (sat a.base 1 (0:Int)) [(.int .u8 (IntKind.wrap .u8 (IntKind.wrap .u32 ((48:Int)+x1))))] (fun h4=>
 Q h4))
 else
 Q h3))))) u (a.len:Int) h
def zfd (P:Program) (dst:Sl) (u:Int) (base:Int) (neg:Bool) (append_:Bool) (Q:(Sl->(ByteArray->(Hp->Prop)))) (h:Hp):Prop:=
 JoinW0 (fun k=>
 LetW ((decide (base<(2:Int))) || (base==(10:Int))) fun y=>
 LetW (y || (decide (base>(36:Int)))) fun y1=>
 (if y1 then
 False
 else
 k h))
 (fun h1=>
 NewW [(.int .u8 (0:Int)),(.int .u8 (0:Int)),(.int .u8 (0:Int)),(.int .u8 (0:Int)),(.int .u8 (0:Int)),(.int .u8 (0:Int)),(.int .u8 (0:Int)),(.int .u8 (0:Int)),(.int .u8 (0:Int)),(.int .u8 (0:Int)),(.int .u8 (0:Int)),(.int .u8 (0:Int)),(.int .u8 (0:Int)),(.int .u8 (0:Int)),(.int .u8 (0:Int)),(.int .u8 (0:Int)),(.int .u8 (0:Int)),(.int .u8 (0:Int)),(.int .u8 (0:Int)),(.int .u8 (0:Int)),(.int .u8 (0:Int)),(.int .u8 (0:Int)),(.int .u8 (0:Int)),(.int .u8 (0:Int)),(.int .u8 (0:Int)),(.int .u8 (0:Int)),(.int .u8 (0:Int)),(.int .u8 (0:Int)),(.int .u8 (0:Int)),(.int .u8 (0:Int)),(.int .u8 (0:Int)),(.int .u8 (0:Int)),(.int .u8 (0:Int)),(.int .u8 (0:Int)),(.int .u8 (0:Int)),(.int .u8 (0:Int)),(.int .u8 (0:Int)),(.int .u8 (0:Int)),(.int .u8 (0:Int)),(.int .u8 (0:Int)),(.int .u8 (0:Int)),(.int .u8 (0:Int)),(.int .u8 (0:Int)),(.int .u8 (0:Int)),(.int .u8 (0:Int)),(.int .u8 (0:Int)),(.int .u8 (0:Int)),(.int .u8 (0:Int)),(.int .u8 (0:Int)),(.int .u8 (0:Int)),(.int .u8 (0:Int)),(.int .u8 (0:Int)),(.int .u8 (0:Int)),(.int .u8 (0:Int)),(.int .u8 (0:Int)),(.int .u8 (0:Int)),(.int .u8 (0:Int)),(.int .u8 (0:Int)),(.int .u8 (0:Int)),(.int .u8 (0:Int)),(.int .u8 (0:Int)),(.int .u8 (0:Int)),(.int .u8 (0:Int)),(.int .u8 (0:Int)),(.int .u8 (0:Int))] (fun a h2=>
 JoinW1 (α1:=Int) (fun k=>
 (if neg then
 k (IntKind.wrap .u64 ((0:Int)-u)) h2
 else
 k u h2))
 (fun u1 h3=>
 JoinW1 (α1:=Int) (fun k=>
 CallT P zim [(yI base)] zae (fun r h4=>
 (if r then
 CallT P zmv [(.int .u64 (IntKind.wrap .u64 base))] yH (fun r1 h5=>
 LoopW2 (α1:=Int) (α2:=Int) (fun again u2 i h6=>
 (if decide (u2>=(IntKind.wrap .u64 base)) then
 (((0:Int)<=(bitsI .and .u64 u2 (IntKind.wrap .u64 ((IntKind.wrap .u64 base)-(1:Int))))/\(bitsI .and .u64 u2 (IntKind.wrap .u64 ((IntKind.wrap .u64 base)-(1:Int))))<(36:Int))/\(((0:Int)<=(IntKind.wrap .i64 (i-(1:Int)))/\(IntKind.wrap .i64 (i-(1:Int)))<(65:Int))/\StW h6 (Addr.add a ((Int.toNat (IntKind.wrap .i64 (i-(1:Int))))*1)) [(.int .u8 (((UInt8.toNat (List.getD [48,49,50,51,52,53,54,55,56,57,97,98,99,100,101,102,103,104,105,106,107,108,109,110,111,112,113,114,115,116,117,118,119,120,121,122] (Int.toNat (bitsI .and .u64 u2 (IntKind.wrap .u64 ((IntKind.wrap .u64 base)-(1:Int))))) 0)):Nat):Int))] (fun h7=>
 ((0:Int)<=(IntKind.wrap .u64 r1)/\again (shrI .u64 u2 (IntKind.wrap .u64 r1)) (IntKind.wrap .i64 (i-(1:Int))) h7))))
 else
 (((0:Int)<=u2/\u2<(36:Int))/\(((0:Int)<=(IntKind.wrap .i64 (i-(1:Int)))/\(IntKind.wrap .i64 (i-(1:Int)))<(65:Int))/\StW h6 (Addr.add a ((Int.toNat (IntKind.wrap .i64 (i-(1:Int))))*1)) [(.int .u8 (((UInt8.toNat (List.getD [48,49,50,51,52,53,54,55,56,57,97,98,99,100,101,102,103,104,105,106,107,108,109,110,111,112,113,114,115,116,117,118,119,120,121,122] (Int.toNat u2) 0)):Nat):Int))] (fun h7=>
 k (IntKind.wrap .i64 (i-(1:Int))) h7))))) u1 (65:Int) h5) h4
 else
 LoopW2 (α1:=Int) (α2:=Int) (fun again u2 i h5=>
 (if decide (u2>=(IntKind.wrap .u64 base)) then
 ((IntKind.wrap .u64 base)≠(0:Int)/\(((0:Int)<=(IntKind.wrap .u64 (u2-(IntKind.wrap .u64 ((IntKind.wrap .u64 (Int.tdiv u2 (IntKind.wrap .u64 base)))*(IntKind.wrap .u64 base)))))/\(IntKind.wrap .u64 (u2-(IntKind.wrap .u64 ((IntKind.wrap .u64 (Int.tdiv u2 (IntKind.wrap .u64 base)))*(IntKind.wrap .u64 base)))))<(36:Int))/\(((0:Int)<=(IntKind.wrap .i64 (i-(1:Int)))/\(IntKind.wrap .i64 (i-(1:Int)))<(65:Int))/\StW h5 (Addr.add a ((Int.toNat (IntKind.wrap .i64 (i-(1:Int))))*1)) [(.int .u8 (((UInt8.toNat (List.getD [48,49,50,51,52,53,54,55,56,57,97,98,99,100,101,102,103,104,105,106,107,108,109,110,111,112,113,114,115,116,117,118,119,120,121,122] (Int.toNat (IntKind.wrap .u64 (u2-(IntKind.wrap .u64 ((IntKind.wrap .u64 (Int.tdiv u2 (IntKind.wrap .u64 base)))*(IntKind.wrap .u64 base)))))) 0)):Nat):Int))] (fun h6=>
 again (IntKind.wrap .u64 (Int.tdiv u2 (IntKind.wrap .u64 base))) (IntKind.wrap .i64 (i-(1:Int))) h6))))
 else
 (((0:Int)<=u2/\u2<(36:Int))/\(((0:Int)<=(IntKind.wrap .i64 (i-(1:Int)))/\(IntKind.wrap .i64 (i-(1:Int)))<(65:Int))/\StW h5 (Addr.add a ((Int.toNat (IntKind.wrap .i64 (i-(1:Int))))*1)) [(.int .u8 (((UInt8.toNat (List.getD [48,49,50,51,52,53,54,55,56,57,97,98,99,100,101,102,103,104,105,106,107,108,109,110,111,112,113,114,115,116,117,118,119,120,121,122] (Int.toNat u2) 0)):Nat):Int))] (fun h6=>
 k (IntKind.wrap .i64 (i-(1:Int))) h6))))) u1 (65:Int) h4)) h3)
 (fun i h4=>
 (if neg then
 (((0:Int)<=(IntKind.wrap .i64 (i-(1:Int)))/\(IntKind.wrap .i64 (i-(1:Int)))<(65:Int))/\StW h4 (Addr.add a ((Int.toNat (IntKind.wrap .i64 (i-(1:Int))))*1)) [(.int .u8 (45:Int))] (fun h5=>
 (if append_ then
 (((0:Int)<=(IntKind.wrap .i64 (i-(1:Int)))/\(IntKind.wrap .i64 (i-(1:Int)))<=(65:Int))/\LetW (α:=Sl) ⟨(sbase (some a) 1 (Int.toNat (IntKind.wrap .i64 (i-(1:Int)))) 65),(65-(Int.toNat (IntKind.wrap .i64 (i-(1:Int))))),(65-(Int.toNat (IntKind.wrap .i64 (i-(1:Int)))))⟩ fun y=>
 zbb 1 1 [(.int .u8 (0:Int))] dst y (fun r h6=>
 Q r ⟨#[]⟩ h6) h5)
 else
 (((0:Int)<=(IntKind.wrap .i64 (i-(1:Int)))/\(IntKind.wrap .i64 (i-(1:Int)))<=(65:Int))/\LetW (α:=Sl) ⟨(sbase (some a) 1 (Int.toNat (IntKind.wrap .i64 (i-(1:Int)))) 65),(65-(Int.toNat (IntKind.wrap .i64 (i-(1:Int))))),(65-(Int.toNat (IntKind.wrap .i64 (i-(1:Int)))))⟩ fun y=>
 SemV none P (convert 74 9 y.v) shStr h5 fun x=>
 Q ⟨none,0,0⟩ x h5))))
 else
 (if append_ then
 (((0:Int)<=i/\i<=(65:Int))/\LetW (α:=Sl) ⟨(sbase (some a) 1 (Int.toNat i) 65),(65-(Int.toNat i)),(65-(Int.toNat i))⟩ fun y=>
 zbb 1 1 [(.int .u8 (0:Int))] dst y (fun r h5=>
 Q r ⟨#[]⟩ h5) h4)
 else
 (((0:Int)<=i/\i<=(65:Int))/\LetW (α:=Sl) ⟨(sbase (some a) 1 (Int.toNat i) 65),(65-(Int.toNat i)),(65-(Int.toNat i))⟩ fun y=>
 SemV none P (convert 74 9 y.v) shStr h4 fun x=>
 Q ⟨none,0,0⟩ x h4)))))) h1)
def zqi (P:Program) (x:Int) (y:Int) (Q:(Int->(Int->(Hp->Prop)))) (h:Hp):Prop:=
 ((0:Int)<=(32:Int)/\((0:Int)<=(32:Int)/\((0:Int)<=(32:Int)/\((0:Int)<=(32:Int)/\((0:Int)<=(32:Int)/\Q (IntKind.wrap .u64 ((IntKind.wrap .u64 ((IntKind.wrap .u64 ((shrI .u64 x (32:Int))*(shrI .u64 y (32:Int))))+(shrI .u64 (IntKind.wrap .u64 ((IntKind.wrap .u64 ((shrI .u64 x (32:Int))*(bitsI .and .u64 y (4294967295:Int))))+(shrI .u64 (IntKind.wrap .u64 ((bitsI .and .u64 x (4294967295:Int))*(bitsI .and .u64 y (4294967295:Int)))) (32:Int)))) (32:Int))))+(shrI .u64 (IntKind.wrap .u64 ((bitsI .and .u64 (IntKind.wrap .u64 ((IntKind.wrap .u64 ((shrI .u64 x (32:Int))*(bitsI .and .u64 y (4294967295:Int))))+(shrI .u64 (IntKind.wrap .u64 ((bitsI .and .u64 x (4294967295:Int))*(bitsI .and .u64 y (4294967295:Int)))) (32:Int)))) (4294967295:Int))+(IntKind.wrap .u64 ((bitsI .and .u64 x (4294967295:Int))*(shrI .u64 y (32:Int)))))) (32:Int)))) (IntKind.wrap .u64 (x*y)) h)))))
def zdr (P:Program) (s:ByteArray) (c:Int) (Q:(Int->(Hp->Prop))) (h:Hp):Prop:=
 SemE P (Extern.BytealgIndexByte.indexByte #[(.string s),(.int .u8 c)]) yH (fun r h1=>
 Q r h1) h
def zco (P:Program) (dst:Sl) (neg:Bool) (s:Sl) (dp:Int) (nd:Int) (prec:Int) (fmt:Int) (shortest:Bool) (Q:(Sl->(Hp->Prop))) (h:Hp):Prop:=
 JoinW2 (α1:=Int) (α2:=Int) (fun k=>
 LetW ((fmt==(103:Int)) || (fmt==(71:Int))) fun y=>
 (if y then
 JoinW1 (α1:=Int) (fun k1=>
 LetW ((decide (prec>nd))&&(decide (nd>=dp))) fun y1=>
 (if y1 then
 k1 nd h
 else
 k1 prec h))
 (fun eprec h1=>
 JoinW1 (α1:=Int) (fun k1=>
 (if shortest then
 k1 (6:Int) h1
 else
 k1 eprec h1))
 (fun eprec1 h2=>
 LetW ((decide ((IntKind.wrap .i64 (dp-(1:Int)))<(-4:Int))) || (decide ((IntKind.wrap .i64 (dp-(1:Int)))>=eprec1))) fun y1=>
 (if y1 then
 JoinW1 (α1:=Int) (fun k1=>
 (if decide (prec>nd) then
 k1 nd h2
 else
 k1 prec h2))
 (fun prec1 h3=>
 k (IntKind.wrap .i64 (prec1-(1:Int))) (IntKind.wrap .u8 ((IntKind.wrap .u8 (fmt+(101:Int)))-(103:Int))) h3)
 else
 JoinW1 (α1:=Int) (fun k1=>
 (if decide (prec>dp) then
 k1 nd h2
 else
 k1 prec h2))
 (fun prec1 h3=>
 k (max2I (IntKind.wrap .i64 (prec1-dp)) (0:Int)) (102:Int) h3))))
 else
 k prec fmt h))
 (fun prec1 fmt1 h1=>
 JoinW1 (α1:=Bool) (fun k=>
 (if (fmt1==(101:Int))=true then
 k (fmt1==(101:Int)) h1
 else
 k (fmt1==(69:Int)) h1))
 (fun t75 h2=>
 (if t75 then
 JoinW1 (α1:=Sl) (fun k=>
 (if neg then
 NewW [(.int .u8 (45:Int))] (fun a h3=>
 zbb 1 1 [(.int .u8 (0:Int))] dst ⟨(some a),1,1⟩ (fun r h4=>
 k r h4) h3) h2
 else
 k dst h2))
 (fun dst1 h3=>
 JoinW1 (α1:=Int) (fun k=>
 (if (nd !=(0:Int))=true then
 ((InB s.base s.len (0:Int))/\LdW none (shInt .u8) h3 (sat s.base 1 (0:Int)) fun x=>
 k x h3)
 else
 k (48:Int) h3))
 (fun ch h4=>
 NewW [(.int .u8 ch)] (fun a h5=>
 zbb 1 1 [(.int .u8 (0:Int))] dst1 ⟨(some a),1,1⟩ (fun r h6=>
 JoinW1 (α1:=Sl) (fun k=>
 (if decide (prec1>(0:Int)) then
 NewW [(.int .u8 (46:Int))] (fun a1 h7=>
 zbb 1 1 [(.int .u8 (0:Int))] r ⟨(some a1),1,1⟩ (fun r1 h8=>
 JoinW2 (α1:=Sl) (α2:=Int) (fun k1=>
 (if (decide ((1:Int)<(min2I nd (IntKind.wrap .i64 (prec1+(1:Int))))))=true then
 (((0:Int)<=(1:Int)/\((1:Int)<=(min2I nd (IntKind.wrap .i64 (prec1+(1:Int))))/\(min2I nd (IntKind.wrap .i64 (prec1+(1:Int))))<=(s.cap:Int)))/\LetW (α:=Sl) ⟨(sbase s.base 1 1 s.cap),((Int.toNat (min2I nd (IntKind.wrap .i64 (prec1+(1:Int)))))-1),(s.cap-1)⟩ fun y=>
 zbb 1 1 [(.int .u8 (0:Int))] r1 y (fun r2 h9=>
 k1 r2 (min2I nd (IntKind.wrap .i64 (prec1+(1:Int)))) h9) h8)
 else
 k1 r1 (1:Int) h8))
 (fun dst2 i h9=>
 LoopW2 (α1:=Sl) (α2:=Int) (fun again dst3 t114 h10=>
 (if (decide (t114<(IntKind.wrap .i64 ((IntKind.wrap .i64 (prec1+(1:Int)))-i))))=true then
 NewW [(.int .u8 (48:Int))] (fun a2 h11=>
 zbb 1 1 [(.int .u8 (0:Int))] ⟨dst3.base,dst3.len,dst3.cap⟩ ⟨(some a2),1,1⟩ (fun r2 h12=>
 again r2 (IntKind.wrap .i64 (t114+(1:Int))) h12) h11) h10
 else
 k ⟨dst3.base,dst3.len,dst3.cap⟩ h10)) ⟨dst2.base,dst2.len,dst2.cap⟩ (0:Int) h9)) h7) h6
 else
 k r h6))
 (fun dst2 h7=>
 NewW [(.int .u8 fmt1)] (fun a1 h8=>
 zbb 1 1 [(.int .u8 (0:Int))] dst2 ⟨(some a1),1,1⟩ (fun r1 h9=>
 JoinW1 (α1:=Int) (fun k=>
 (if (nd==(0:Int))=true then
 k (0:Int) h9
 else
 k (IntKind.wrap .i64 (dp-(1:Int))) h9))
 (fun exp h10=>
 JoinW2 (α1:=Int) (α2:=Int) (fun k=>
 (if decide (exp<(0:Int)) then
 k (45:Int) (IntKind.wrap .i64 ((0:Int)-exp)) h10
 else
 k (43:Int) exp h10))
 (fun ch1 exp1 h11=>
 NewW [(.int .u8 ch1)] (fun a2 h12=>
 zbb 1 1 [(.int .u8 (0:Int))] r1 ⟨(some a2),1,1⟩ (fun r2 h13=>
 (if decide (exp1<(10:Int)) then
 NewW [(.int .u8 (48:Int)),(.int .u8 (IntKind.wrap .u8 ((IntKind.wrap .u8 exp1)+(48:Int))))] (fun a3 h14=>
 zbb 1 1 [(.int .u8 (0:Int))] r2 ⟨(some a3),2,2⟩ (fun r3 h15=>
 Q r3 h15) h14) h13
 else
 (if decide (exp1<(100:Int)) then
 ((10:Int)≠(0:Int)/\((10:Int)≠(0:Int)/\NewW [(.int .u8 (IntKind.wrap .u8 ((IntKind.wrap .u8 (IntKind.wrap .i64 (Int.tdiv exp1 (10:Int))))+(48:Int)))),(.int .u8 (IntKind.wrap .u8 ((IntKind.wrap .u8 (Int.tmod exp1 (10:Int)))+(48:Int))))] (fun a3 h14=>
 zbb 1 1 [(.int .u8 (0:Int))] r2 ⟨(some a3),2,2⟩ (fun r3 h15=>
 Q r3 h15) h14) h13))
 else
 ((100:Int)≠(0:Int)/\((10:Int)≠(0:Int)/\((10:Int)≠(0:Int)/\((10:Int)≠(0:Int)/\NewW [(.int .u8 (IntKind.wrap .u8 ((IntKind.wrap .u8 (IntKind.wrap .i64 (Int.tdiv exp1 (100:Int))))+(48:Int)))),(.int .u8 (IntKind.wrap .u8 ((Int.tmod (IntKind.wrap .u8 (IntKind.wrap .i64 (Int.tdiv exp1 (10:Int)))) (10:Int))+(48:Int)))),(.int .u8 (IntKind.wrap .u8 ((IntKind.wrap .u8 (Int.tmod exp1 (10:Int)))+(48:Int))))] (fun a3 h14=>
 zbb 1 1 [(.int .u8 (0:Int))] r2 ⟨(some a3),3,3⟩ (fun r3 h15=>
 Q r3 h15) h14) h13))))))) h12) h11))) h8) h7)) h5) h4))
 else
 (if (fmt1==(102:Int))=true then
 JoinW1 (α1:=Sl) (fun k=>
 (if neg then
 NewW [(.int .u8 (45:Int))] (fun a h3=>
 zbb 1 1 [(.int .u8 (0:Int))] dst ⟨(some a),1,1⟩ (fun r h4=>
 k r h4) h3) h2
 else
 k dst h2))
 (fun dst1 h3=>
 JoinW1 (α1:=Sl) (fun k=>
 (if decide (dp>(0:Int)) then
 (((0:Int)<=(min2I nd dp)/\(min2I nd dp)<=(s.cap:Int))/\LetW (α:=Sl) ⟨(sbase s.base 1 0 s.cap),((Int.toNat (min2I nd dp))-0),(s.cap-0)⟩ fun y=>
 LoopW2 (α1:=Sl) (α2:=Int) (fun again dst2 t191 h4=>
 (if decide (t191<(y.len:Int)) then
 ((InB y.base y.len t191)/\LdW none (shInt .u8) h4 (sat y.base 1 t191) fun x=>
 NewW [(.int .u8 x)] (fun a h5=>
 zbb 1 1 [(.int .u8 (0:Int))] ⟨dst2.base,dst2.len,dst2.cap⟩ ⟨(some a),1,1⟩ (fun r h6=>
 again r (IntKind.wrap .i64 (t191+(1:Int))) h6) h5) h4)
 else
 LoopW2 (α1:=Sl) (α2:=Int) (fun again1 dst3 t203 h5=>
 (if (decide (t203<(IntKind.wrap .i64 (dp-(min2I nd dp)))))=true then
 NewW [(.int .u8 (48:Int))] (fun a h6=>
 zbb 1 1 [(.int .u8 (0:Int))] ⟨dst3.base,dst3.len,dst3.cap⟩ ⟨(some a),1,1⟩ (fun r h7=>
 again1 r (IntKind.wrap .i64 (t203+(1:Int))) h7) h6) h5
 else
 k ⟨dst3.base,dst3.len,dst3.cap⟩ h5)) ⟨dst2.base,dst2.len,dst2.cap⟩ (0:Int) h4)) dst1 (0:Int) h3)
 else
 NewW [(.int .u8 (48:Int))] (fun a h4=>
 zbb 1 1 [(.int .u8 (0:Int))] dst1 ⟨(some a),1,1⟩ (fun r h5=>
 k r h5) h4) h3))
 (fun dst2 h4=>
 (if decide (prec1>(0:Int)) then
 NewW [(.int .u8 (46:Int))] (fun a h5=>
 zbb 1 1 [(.int .u8 (0:Int))] dst2 ⟨(some a),1,1⟩ (fun r h6=>
 LoopW2 (α1:=Sl) (α2:=Int) (fun again dst3 t240 h7=>
 (if (decide (t240<(min2I prec1 (max2I (0:Int) (IntKind.wrap .i64 ((0:Int)-dp))))))=true then
 NewW [(.int .u8 (48:Int))] (fun a1 h8=>
 zbb 1 1 [(.int .u8 (0:Int))] ⟨dst3.base,dst3.len,dst3.cap⟩ ⟨(some a1),1,1⟩ (fun r1 h9=>
 again r1 (IntKind.wrap .i64 (t240+(1:Int))) h9) h8) h7
 else
 LoopW2 (α1:=Sl) (α2:=Int) (fun again1 dst4 t247 h8=>
 (if (decide (t247<(min2I (IntKind.wrap .i64 (prec1-(min2I prec1 (max2I (0:Int) (IntKind.wrap .i64 ((0:Int)-dp)))))) (max2I (0:Int) (IntKind.wrap .i64 (nd-(IntKind.wrap .i64 (dp+(min2I prec1 (max2I (0:Int) (IntKind.wrap .i64 ((0:Int)-dp))))))))))))=true then
 ((InB s.base s.len (IntKind.wrap .i64 ((IntKind.wrap .i64 (dp+(min2I prec1 (max2I (0:Int) (IntKind.wrap .i64 ((0:Int)-dp))))))+t247)))/\LdW none (shInt .u8) h8 (sat s.base 1 (IntKind.wrap .i64 ((IntKind.wrap .i64 (dp+(min2I prec1 (max2I (0:Int) (IntKind.wrap .i64 ((0:Int)-dp))))))+t247))) fun x=>
 NewW [(.int .u8 x)] (fun a1 h9=>
 zbb 1 1 [(.int .u8 (0:Int))] ⟨dst4.base,dst4.len,dst4.cap⟩ ⟨(some a1),1,1⟩ (fun r1 h10=>
 again1 r1 (IntKind.wrap .i64 (t247+(1:Int))) h10) h9) h8)
 else
 LoopW2 (α1:=Sl) (α2:=Int) (fun again2 dst5 t261 h9=>
 (if (decide (t261<(max2I (0:Int) (IntKind.wrap .i64 ((IntKind.wrap .i64 (prec1-(min2I prec1 (max2I (0:Int) (IntKind.wrap .i64 ((0:Int)-dp))))))-(min2I (IntKind.wrap .i64 (prec1-(min2I prec1 (max2I (0:Int) (IntKind.wrap .i64 ((0:Int)-dp)))))) (max2I (0:Int) (IntKind.wrap .i64 (nd-(IntKind.wrap .i64 (dp+(min2I prec1 (max2I (0:Int) (IntKind.wrap .i64 ((0:Int)-dp)))))))))))))))=true then
 NewW [(.int .u8 (48:Int))] (fun a1 h10=>
 zbb 1 1 [(.int .u8 (0:Int))] ⟨dst5.base,dst5.len,dst5.cap⟩ ⟨(some a1),1,1⟩ (fun r1 h11=>
 again2 r1 (IntKind.wrap .i64 (t261+(1:Int))) h11) h10) h9
 else
 Q ⟨dst5.base,dst5.len,dst5.cap⟩ h9)) ⟨dst4.base,dst4.len,dst4.cap⟩ (0:Int) h8)) ⟨dst3.base,dst3.len,dst3.cap⟩ (0:Int) h7)) r (0:Int) h6) h5) h4
 else
 Q dst2 h4)))
 else
 NewW [(.int .u8 (37:Int)),(.int .u8 fmt1)] (fun a h3=>
 zbb 1 1 [(.int .u8 (0:Int))] dst ⟨(some a),2,2⟩ (fun r h4=>
 Q r h4) h3) h2))))
def bl256 :List UInt8:=[0,1,2,2,3,3,3,3,4,4,4,4,4,4,4,4,5,5,5,5,5,5,5,5,5,5,5,5,5,5,5,5,6,6,6,6,6,6,6,6,6,6,6,6,6,6,6,6,6,6,6,6,6,6,6,6,6,6,6,6,6,6,6,6,7,7,7,7,7,7,7,7,7,7,7,7,7,7,7,7,7,7,7,7,7,7,7,7,7,7,7,7,7,7,7,7,7,7,7,7,7,7,7,7,7,7,7,7,7,7,7,7,7,7,7,7,7,7,7,7,7,7,7,7,7,7,7,7,8,8,8,8,8,8,8,8,8,8,8,8,8,8,8,8,8,8,8,8,8,8,8,8,8,8,8,8,8,8,8,8,8,8,8,8,8,8,8,8,8,8,8,8,8,8,8,8,8,8,8,8,8,8,8,8,8,8,8,8,8,8,8,8,8,8,8,8,8,8,8,8,8,8,8,8,8,8,8,8,8,8,8,8,8,8,8,8,8,8,8,8,8,8,8,8,8,8,8,8,8,8,8,8,8,8,8,8,8,8,8,8,8,8,8,8,8,8,8,8,8,8,8,8,8,8,8,8]
def zqj (P:Program) (x:Int) (Q:(Int->(Hp->Prop))) (h:Hp):Prop:=
 JoinW2 (α1:=Int) (α2:=Int) (fun k=>
 (if decide (x>=(4294967296:Int)) then
 ((0:Int)<=(32:Int)/\k (shrI .u64 x (32:Int)) (32:Int) h)
 else
 k x (0:Int) h))
 (fun x1 n h1=>
 JoinW2 (α1:=Int) (α2:=Int) (fun k=>
 (if decide (x1>=(65536:Int)) then
 ((0:Int)<=(16:Int)/\k (shrI .u64 x1 (16:Int)) (IntKind.wrap .i64 (n+(16:Int))) h1)
 else
 k x1 n h1))
 (fun x2 n1 h2=>
 (if decide (x2>=(256:Int)) then
 ((0:Int)<=(8:Int)/\(((0:Int)<=(IntKind.wrap .u8 (shrI .u64 x2 (8:Int)))/\(IntKind.wrap .u8 (shrI .u64 x2 (8:Int)))<(256:Int))/\Q (IntKind.wrap .i64 ((IntKind.wrap .i64 (n1+(8:Int)))+(IntKind.wrap .i64 (((UInt8.toNat (List.getD bl256 (Int.toNat (IntKind.wrap .u8 (shrI .u64 x2 (8:Int)))) 0)):Nat):Int)))) h2))
 else
 (((0:Int)<=(IntKind.wrap .u8 x2)/\(IntKind.wrap .u8 x2)<(256:Int))/\Q (IntKind.wrap .i64 (n1+(IntKind.wrap .i64 (((UInt8.toNat (List.getD bl256 (Int.toNat (IntKind.wrap .u8 x2)) 0)):Nat):Int)))) h2))))
def zfv (P:Program) (s:Sl) (d:Int) (p:Int) (nd:Int) (Q:(Int->(Int->(Hp->Prop)))) (h:Hp):Prop:=
 (if decide (nd<=(s.len:Int)) then
 (((0:Int)<=nd/\nd<=(s.cap:Int))/\LetW (α:=Sl) ⟨(sbase s.base 1 0 s.cap),((Int.toNat nd)-0),(s.cap-0)⟩ fun y=>
 Call0 P zbk [y.v,(.int .u64 d)] (fun h1=>
 LoopW1 (α1:=Int) (fun again nd1 h2=>
 (((decide (nd1>(0:Int)))=true->(InB s.base s.len (IntKind.wrap .i64 (nd1-(1:Int)))))/\LdW (some (decide (nd1>(0:Int)))) (shInt .u8) h2 (sat s.base 1 (IntKind.wrap .i64 (nd1-(1:Int)))) fun x=>
 LetW ((decide (nd1>(0:Int)))&&(x==(48:Int))) fun y1=>
 (if y1 then
 again (IntKind.wrap .i64 (nd1-(1:Int))) h2
 else
 Q (IntKind.wrap .i64 (nd+p)) nd1 h2))) nd h1) h)
 else
 Q (0:Int) nd h)
def zfw (P:Program) (x:Int) (Q:(Int->(Hp->Prop))) (h:Hp):Prop:=
 ((0:Int)<=(18:Int)/\Q (shrI .i64 (IntKind.wrap .i64 (x*(78913:Int))) (18:Int)) h)
def zas (P:Program) (a:Option Addr) (k:Int) (Q:(Hp->Prop)) (h:Hp):Prop:=
 NilW none a fun p=>
 yLi h p 800 fun x=>
 (if (x==(0:Int))=true then
 Q h
 else
 (if decide (k>(0:Int)) then
 LoopW1 (α1:=Int) (fun again k1 h1=>
 (if decide (k1>(60:Int)) then
 Call0 P zdc [(yP a),(.int .u64 (60:Int))] (fun h2=>
 again (IntKind.wrap .i64 (k1-(60:Int))) h2) h1
 else
 Call0 P zdc [(yP a),(.int .u64 (IntKind.wrap .u64 k1))] (fun h2=>
 Q h2) h1)) k h
 else
 (if decide (k<(0:Int)) then
 LoopW1 (α1:=Int) (fun again k1 h1=>
 (if decide (k1<(-60:Int)) then
 Call0 P zcu [(yP a),(.int .u64 (60:Int))] (fun h2=>
 again (IntKind.wrap .i64 (k1+(60:Int))) h2) h1
 else
 Call0 P zcu [(yP a),(.int .u64 (IntKind.wrap .u64 (IntKind.wrap .i64 ((0:Int)-k1))))] (fun h2=>
 Q h2) h1)) k h
 else
 Q h)))
def zck (P:Program) (m:Int) (e:Int) (Q:(Int->(Int->(Hp->Prop)))) (h:Hp):Prop:=
 JoinW2 (α1:=Int) (α2:=Int) (fun k=>
 k (52:Int) (-1085:Int) h)
 (fun mantBits minExp h1=>
 JoinW4 (α1:=Int) (α2:=Int) (α3:=Int) (α4:=Int) (fun k=>
 LetW ((m==(9223372036854775808:Int))&&(decide (e>minExp))) fun y=>
 (if y then
 CallT P zmw [(yI (IntKind.wrap .i64 (e+(IntKind.wrap .i64 ((63:Int)-mantBits)))))] yH (fun r h2=>
 ((0:Int)<=(IntKind.wrap .i64 ((IntKind.wrap .i64 ((63:Int)-mantBits))-(2:Int)))/\((0:Int)<=(IntKind.wrap .i64 ((IntKind.wrap .i64 ((63:Int)-mantBits))-(1:Int)))/\((0:Int)<=(IntKind.wrap .i64 ((63:Int)-mantBits))/\k (IntKind.wrap .i64 ((0:Int)-r)) (IntKind.wrap .u64 (m-(shlI .u64 (1:Int) (IntKind.wrap .i64 ((IntKind.wrap .i64 ((63:Int)-mantBits))-(2:Int)))))) (IntKind.wrap .u64 (m+(shlI .u64 (1:Int) (IntKind.wrap .i64 ((IntKind.wrap .i64 ((63:Int)-mantBits))-(1:Int)))))) (bitsI .and .i64 (IntKind.wrap .i64 (shrI .u64 m (IntKind.wrap .i64 ((63:Int)-mantBits)))) (1:Int)) h2)))) h1
 else
 (if decide (e>=minExp) then
 CallT P zbf [(yI (IntKind.wrap .i64 (e+(IntKind.wrap .i64 ((63:Int)-mantBits)))))] yH (fun r h2=>
 ((0:Int)<=(IntKind.wrap .i64 ((IntKind.wrap .i64 ((63:Int)-mantBits))-(1:Int)))/\((0:Int)<=(IntKind.wrap .i64 ((IntKind.wrap .i64 ((63:Int)-mantBits))-(1:Int)))/\((0:Int)<=(IntKind.wrap .i64 ((63:Int)-mantBits))/\k (IntKind.wrap .i64 ((0:Int)-r)) (IntKind.wrap .u64 (m-(shlI .u64 (1:Int) (IntKind.wrap .i64 ((IntKind.wrap .i64 ((63:Int)-mantBits))-(1:Int)))))) (IntKind.wrap .u64 (m+(shlI .u64 (1:Int) (IntKind.wrap .i64 ((IntKind.wrap .i64 ((63:Int)-mantBits))-(1:Int)))))) (bitsI .and .i64 (IntKind.wrap .i64 (shrI .u64 m (IntKind.wrap .i64 ((63:Int)-mantBits)))) (1:Int)) h2)))) h1
 else
 CallT P zbf [(yI (IntKind.wrap .i64 (e+(IntKind.wrap .i64 ((IntKind.wrap .i64 ((63:Int)-mantBits))+(IntKind.wrap .i64 (minExp-e)))))))] yH (fun r h2=>
 ((0:Int)<=(IntKind.wrap .i64 ((IntKind.wrap .i64 ((IntKind.wrap .i64 ((63:Int)-mantBits))+(IntKind.wrap .i64 (minExp-e))))-(1:Int)))/\((0:Int)<=(IntKind.wrap .i64 ((IntKind.wrap .i64 ((IntKind.wrap .i64 ((63:Int)-mantBits))+(IntKind.wrap .i64 (minExp-e))))-(1:Int)))/\((0:Int)<=(IntKind.wrap .i64 ((IntKind.wrap .i64 ((63:Int)-mantBits))+(IntKind.wrap .i64 (minExp-e))))/\k (IntKind.wrap .i64 ((0:Int)-r)) (IntKind.wrap .u64 (m-(shlI .u64 (1:Int) (IntKind.wrap .i64 ((IntKind.wrap .i64 ((IntKind.wrap .i64 ((63:Int)-mantBits))+(IntKind.wrap .i64 (minExp-e))))-(1:Int)))))) (IntKind.wrap .u64 (m+(shlI .u64 (1:Int) (IntKind.wrap .i64 ((IntKind.wrap .i64 ((IntKind.wrap .i64 ((63:Int)-mantBits))+(IntKind.wrap .i64 (minExp-e))))-(1:Int)))))) (bitsI .and .i64 (IntKind.wrap .i64 (shrI .u64 m (IntKind.wrap .i64 ((IntKind.wrap .i64 ((63:Int)-mantBits))+(IntKind.wrap .i64 (minExp-e)))))) (1:Int)) h2)))) h1)))
 (fun p min max odd h2=>
 NewW [(.int .u64 (0:Int)),(.int .u64 (0:Int)),(yI (0:Int))] (fun a h3=>
 CallT P zfp [(yI p)] yH (fun r h4=>
 Call0 P zdl [(yP (some a)),(yI e),(yI p),(yI r)] (fun h5=>
 CallT P zbx [(.int .u64 min),(yP (some a))] (shInt .u64) (fun r1 h6=>
 CallT P zde [(.int .u64 r1),(yI odd)] (shInt .u64) (fun r2 h7=>
 CallT P zhh [(.int .u64 r2)] (shInt .u64) (fun r3 h8=>
 CallT P zbx [(.int .u64 max),(yP (some a))] (shInt .u64) (fun r4 h9=>
 CallT P zde [(.int .u64 r4),(yI (IntKind.wrap .i64 ((0:Int)-odd)))] (shInt .u64) (fun r5 h10=>
 CallT P zgw [(.int .u64 r5)] (shInt .u64) (fun r6 h11=>
 ((10:Int)≠(0:Int)/\(if (decide ((IntKind.wrap .u64 ((IntKind.wrap .u64 (Int.tdiv r6 (10:Int)))*(10:Int)))>=r3))=true then
 Q (IntKind.wrap .u64 (Int.tdiv r6 (10:Int))) (IntKind.wrap .i64 ((0:Int)-(IntKind.wrap .i64 (p-(1:Int))))) h11
 else
 (if decide (r3<r6) then
 CallT P zbx [(.int .u64 m),(yP (some a))] (shInt .u64) (fun r7 h12=>
 CallT P zdf [(.int .u64 r7)] (shInt .u64) (fun r8 h13=>
 Q r8 (IntKind.wrap .i64 ((0:Int)-p)) h13) h12) h11
 else
 Q r3 (IntKind.wrap .i64 ((0:Int)-p)) h11)))) h10) h9) h8) h7) h6) h5) h4) h3) h2))
def zjs (P:Program) (x:Int) (Q:(Sl->(Hp->Prop))) (h:Hp):Prop:=
 ((0:Int)<=(32:Int)/\NewW [(.int .u32 (IntKind.wrap .u32 x)),(.int .u32 (IntKind.wrap .u32 (shrI .u64 x (32:Int))))] (fun a h1=>
 CallT P zhi [(.slice (some a) 2 2)] shSl (fun r h2=>
 Q r h2) h1) h)
def zgr (P:Program) (a:Sl) (n:Int) (Q:(Sl->(Hp->Prop))) (h:Hp):Prop:=
 (if ((a.len:Int)==(0:Int))=true then
 Q a h
 else
 NewW [] (fun a1 h1=>
 LoopW2 (α1:=Sl) (α2:=Int) (fun again out i h2=>
 ((32:Int)≠(0:Int)/\(if (decide (i<(IntKind.wrap .i64 (Int.tdiv n (32:Int)))))=true then
 NewW [(.int .u32 (0:Int))] (fun a2 h3=>
 zbb 1 4 [(.int .u32 (0:Int))] ⟨out.base,out.len,out.cap⟩ ⟨(some a2),1,1⟩ (fun r h4=>
 again r (IntKind.wrap .i64 (i+(1:Int))) h4) h3) h2
 else
 zbb 1 4 [(.int .u32 (0:Int))] ⟨out.base,out.len,out.cap⟩ a (fun r h3=>
 ((32:Int)≠(0:Int)/\((0:Int)<=(Int.tmod n (32:Int))/\CallT P zcm [r.v,(.int .u32 (shlI .u32 (1:Int) (Int.tmod n (32:Int))))] shSl (fun r1 h4=>
 Q r1 h4) h3))) h2))) ⟨(some a1),0,0⟩ (0:Int) h1) h)
def zlq (P:Program) (a:Sl) (n:Int) (Q:(Sl->(Hp->Prop))) (h:Hp):Prop:=
 LoopW2 (α1:=Sl) (α2:=Int) (fun again a1 n1 h1=>
 (if decide (n1>=(9:Int)) then
 CallT P zcm [a1.v,(.int .u32 (1000000000:Int))] shSl (fun r h2=>
 again r (IntKind.wrap .i64 (n1-(9:Int))) h2) h1
 else
 LoopW2 (α1:=Sl) (α2:=Int) (fun again1 a2 n2 h2=>
 (if decide (n2>(0:Int)) then
 CallT P zcm [a2.v,(.int .u32 (10:Int))] shSl (fun r h3=>
 again1 r (IntKind.wrap .i64 (n2-(1:Int))) h3) h2
 else
 Q ⟨a2.base,a2.len,a2.cap⟩ h2)) ⟨a1.base,a1.len,a1.cap⟩ n1 h1)) a n h
def zit (P:Program) (a:Sl) (b:Sl) (Q:(Int->(Hp->Prop))) (h:Hp):Prop:=
 (if ((a.len:Int) !=(b.len:Int))=true then
 (if decide ((a.len:Int)<(b.len:Int)) then
 Q (-1:Int) h
 else
 Q (1:Int) h)
 else
 LoopW1 (α1:=Int) (fun again i h1=>
 (if decide (i>=(0:Int)) then
 ((InB a.base a.len i)/\LdW none (shInt .u32) h1 (sat a.base 1 i) fun x=>
 ((InB b.base b.len i)/\LdW none (shInt .u32) h1 (sat b.base 1 i) fun x1=>
 (if decide (x<x1) then
 Q (-1:Int) h1
 else
 ((InB a.base a.len i)/\LdW none (shInt .u32) h1 (sat a.base 1 i) fun x2=>
 ((InB b.base b.len i)/\LdW none (shInt .u32) h1 (sat b.base 1 i) fun x3=>
 (if decide (x2>x3) then
 Q (1:Int) h1
 else
 again (IntKind.wrap .i64 (i-(1:Int))) h1))))))
 else
 Q (0:Int) h1)) (IntKind.wrap .i64 ((a.len:Int)-(1:Int))) h)
def zlr (P:Program) (a:Sl) (b:Sl) (Q:(Sl->(Hp->Prop))) (h:Hp):Prop:=
 NewW [] (fun a1 h1=>
 LoopW3 (α1:=Sl) (α2:=Int) (α3:=Int) (fun again out c i h2=>
 (if decide (i<(a.len:Int)) then
 ((InB a.base a.len i)/\LdW none (shInt .u32) h2 (sat a.base 1 i) fun x=>
 JoinW1 (α1:=Int) (fun k=>
 (if decide (i<(b.len:Int)) then
 ((InB b.base b.len i)/\LdW none (shInt .u32) h2 (sat b.base 1 i) fun x1=>
 k (IntKind.wrap .i64 ((IntKind.wrap .i64 (c+(IntKind.wrap .i64 x)))-(IntKind.wrap .i64 x1))) h2)
 else
 k (IntKind.wrap .i64 (c+(IntKind.wrap .i64 x))) h2))
 (fun c1 h3=>
 NewW [(.int .u32 (IntKind.wrap .u32 c1))] (fun a2 h4=>
 zbb 1 4 [(.int .u32 (0:Int))] ⟨out.base,out.len,out.cap⟩ ⟨(some a2),1,1⟩ (fun r h5=>
 ((0:Int)<=(32:Int)/\again r (shrI .i64 c1 (32:Int)) (IntKind.wrap .i64 (i+(1:Int))) h5)) h4) h3))
 else
 CallT P zhi [out.v] shSl (fun r h3=>
 Q r h3) h2)) ⟨(some a1),0,0⟩ (0:Int) (0:Int) h1) h
def zgs (P:Program) (a:Sl) (m:Int) (Q:(Sl->(Hp->Prop))) (h:Hp):Prop:=
 NewW [] (fun a1 h1=>
 LoopW3 (α1:=Sl) (α2:=Int) (α3:=Int) (fun again out c i h2=>
 (if decide (i<(a.len:Int)) then
 ((InB a.base a.len i)/\LdW none (shInt .u32) h2 (sat a.base 1 i) fun x=>
 NewW [(.int .u32 (IntKind.wrap .u32 (IntKind.wrap .u64 (c+(IntKind.wrap .u64 ((IntKind.wrap .u64 x)*(IntKind.wrap .u64 m)))))))] (fun a2 h3=>
 zbb 1 4 [(.int .u32 (0:Int))] ⟨out.base,out.len,out.cap⟩ ⟨(some a2),1,1⟩ (fun r h4=>
 ((0:Int)<=(32:Int)/\again r (shrI .u64 (IntKind.wrap .u64 (c+(IntKind.wrap .u64 ((IntKind.wrap .u64 x)*(IntKind.wrap .u64 m))))) (32:Int)) (IntKind.wrap .i64 (i+(1:Int))) h4)) h3) h2)
 else
 NewW [(.int .u32 (IntKind.wrap .u32 c))] (fun a2 h3=>
 zbb 1 4 [(.int .u32 (0:Int))] ⟨out.base,out.len,out.cap⟩ ⟨(some a2),1,1⟩ (fun r h4=>
 CallT P zhi [r.v] shSl (fun r1 h5=>
 Q r1 h5) h4) h3) h2)) ⟨(some a1),0,0⟩ (0:Int) (0:Int) h1) h
def zan (P:Program) (s:ByteArray) (Q:(Nat->(Int->(Leaf->(Hp->Prop))))) (h:Hp):Prop:=
 Call3 P zha [(.string s)] (shFlt .f64) yH zae (fun r r1 r2 h1=>
 (if r2 then
 EncW zai .nilIface fun e=>
 Q r r1 e h1
 else
 Call7 P zfr [(.string s)] (shInt .u64) yH zae zae zae yH zae (fun r3 r4 r5 r6 r7 r8 r9 h2=>
 (if (!r9)=true then
 EncW zai (.iface 122 (yI (2:Int))) fun e=>
 Q 0 r8 e h2
 else
 (if r7 then
 (((0:Int)<=r8/\r8<=(((ByteArray.size s):Nat):Int))/\Call2 P zhb [(.string (ByteArray.extract s 0 (Int.toNat r8))),(yP (some ⟨7,0,none⟩)),(.int .u64 r3),(yI r4),(.bool r5),(.bool r6)] (shFlt .f64) zai (fun r10 r11 h3=>
 EncW zai r11.v fun e=>
 Q r10 r8 e h3) h2)
 else
 JoinW2 (α1:=Int) (α2:=Leaf) (fun k=>
 LdW none zae h2 ⟨2,0,none⟩ fun x=>
 (if x then
 CallT P zcg [(.bool r5)] (shInt .u64) (fun r10 h3=>
 ((0:Int)<=(63:Int)/\(if (r3==(0:Int))=true then
 SemE P (Extern.MathFloatBits.float64frombits #[(.int .u64 (bitsI .or .u64 (shlI .u64 r10 (63:Int)) (0:Int)))]) (shFlt .f64) (fun r11 h4=>
 EncW zai .nilIface fun e=>
 Q r11 r8 e h4) h3
 else
 (if decide (r4>(310:Int)) then
 SemE P (Extern.MathFloatBits.float64frombits #[(.int .u64 (bitsI .or .u64 (shlI .u64 r10 (63:Int)) (9218868437227405312:Int)))]) (shFlt .f64) (fun r11 h4=>
 EncW zai (.iface 122 (yI (1:Int))) fun e=>
 Q r11 r8 e h4) h3
 else
 (if decide (r4<(-345:Int)) then
 SemE P (Extern.MathFloatBits.float64frombits #[(.int .u64 (bitsI .or .u64 (shlI .u64 r10 (63:Int)) (0:Int)))]) (shFlt .f64) (fun r11 h4=>
 EncW zai .nilIface fun e=>
 Q r11 r8 e h4) h3
 else
 JoinW2 (α1:=Int) (α2:=Leaf) (fun k1=>
 (if (!r6)=true then
 Call2 P zep [(.int .u64 r3),(yI r4),(.bool r5)] (shFlt .f64) zae (fun r11 r12 h4=>
 (if r12 then
 EncW zai .nilIface fun e=>
 Q r11 r8 e h4
 else
 EncW zai .nilIface fun e=>
 k1 r8 e h4)) h3
 else
 EncW zai .nilIface fun e=>
 k1 r8 e h3))
 (fun n err h4=>
 Call2 P zch [(.int .u64 r3),(yI r4),(.int .u64 (shlI .u64 r10 (63:Int)))] (shFlt .f64) zai (fun r11 r12 h5=>
 (if (!r6)=true then
 EncW zai r12.v fun e=>
 Q r11 n e h5
 else
 Call2 P zch [(.int .u64 (IntKind.wrap .u64 (r3+(1:Int)))),(yI r4),(.int .u64 (shlI .u64 r10 (63:Int)))] (shFlt .f64) zai (fun r13 r14 h6=>
 SemV none P (binS .eql 48 (.tmp 119) (.tmp 120) (.float .f64 r11) (.float .f64 r13)) zae h6 fun x1=>
 (if x1 then
 EncW zai r12.v fun e=>
 Q r11 n e h6
 else
 EncW zai err.v fun e=>
 k n e h6)) h5)) h4)))))) h2
 else
 EncW zai .nilIface fun e=>
 k r8 e h2))
 (fun n err h3=>
 NewW (List.replicate 800 (.int .u8 (0:Int))++ [(yI (0:Int)),(yI (0:Int)),(.bool false),(.bool false)]) (fun a h4=>
 (((0:Int)<=n/\n<=(((ByteArray.size s):Nat):Int))/\CallT P zeo [(yP (some a)),(.string (ByteArray.extract s 0 (Int.toNat n)))] zae (fun r10 h5=>
 (if (!r10)=true then
 EncW zai (.iface 122 (yI (2:Int))) fun e=>
 Q 0 n e h5
 else
 Call2 P zbo [(yP (some a)),(yP (some ⟨7,0,none⟩))] (shInt .u64) zae (fun r11 r12 h6=>
 SemE P (Extern.MathFloatBits.float64frombits #[(.int .u64 r11)]) (shFlt .f64) (fun r13 h7=>
 (if r12 then
 EncW zai (.iface 122 (yI (1:Int))) fun e=>
 Q r13 n e h7
 else
 EncW zai err.v fun e=>
 Q r13 n e h7)) h6) h5)) h4)) h3)))) h1)) h
def zpb (P:Program) (s:ByteArray) (base:Int) (bitSize:Int) (Q:(Int->(Leaf->(Hp->Prop)))) (h:Hp):Prop:=
 Call2 P zlh [(.string s),(yI base),(yI bitSize)] yH zai (fun r r1 h1=>
 ((isIfV r1.v)=true/\(if (!(zcl r1.v))=true then
 CallT P zcz [(.string ⟨#[80,97,114,115,101,73,110,116]⟩),(.string s),(yI base),(yI bitSize),r1.v] zai (fun r2 h2=>
 EncW zai r2.v fun e=>
 Q r e h2) h1
 else
 EncW zai .nilIface fun e=>
 Q r e h1))) h
def zfx (P:Program) (b:Bool) (Q:(Int->(Hp->Prop))) (h:Hp):Prop:=
 (if b then
 Q (1:Int) h
 else
 Q (0:Int) h)
def ziu (P:Program) (x:Int) (Q:(Bool->(Hp->Prop))) (h:Hp):Prop:=
 Q ((bitsI .and .i64 x (IntKind.wrap .i64 (x-(1:Int))))==(0:Int)) h
def zhs (P:Program) (x:Int) (Q:(Int->(Hp->Prop))) (h:Hp):Prop:=
 CallT P zlj [(.int .u64 x)] yH (fun r h1=>
 Q r h1) h
def zht (P:Program) (e:Int) (Q:(Int->(Hp->Prop))) (h:Hp):Prop:=
 ((0:Int)<=(21:Int)/\Q (shrI .i64 (IntKind.wrap .i64 ((IntKind.wrap .i64 (e*(631305:Int)))-(261663:Int))) (21:Int)) h)
def zcf (P:Program) (pre:Option Addr) (e:Int) (p:Int) (lp:Int) (Q:(Hp->Prop)) (h:Hp):Prop:=
 (((0:Int)<=(IntKind.wrap .i64 (p-(-348:Int)))/\(IntKind.wrap .i64 (p-(-348:Int)))<(696:Int))/\LdW none (shInt .u64) h (Addr.add (Addr.add ⟨8,0,none⟩ ((Int.toNat (IntKind.wrap .i64 (p-(-348:Int))))*2)) 0) fun x=>
 NilW none pre fun p1=>
 StW h (Addr.add p1 0) [(.int .u64 x)] (fun h1=>
 (((0:Int)<=(IntKind.wrap .i64 (p-(-348:Int)))/\(IntKind.wrap .i64 (p-(-348:Int)))<(696:Int))/\LdW none (shInt .u64) h1 (Addr.add (Addr.add ⟨8,0,none⟩ ((Int.toNat (IntKind.wrap .i64 (p-(-348:Int))))*2)) 1) fun x1=>
 NilW none pre fun p2=>
 StW h1 (Addr.add p2 1) [(.int .u64 x1)] (fun h2=>
 NilW none pre fun p3=>
 StW h2 (Addr.add p3 2) [(yI (IntKind.wrap .i64 ((0:Int)-(IntKind.wrap .i64 ((IntKind.wrap .i64 (e+lp))+(3:Int))))))] (fun h3=>
 Q h3)))))
def zfy (P:Program) (x:Int) (Q:(Int->(Hp->Prop))) (h:Hp):Prop:=
 ((0:Int)<=(15:Int)/\Q (shrI .i64 (IntKind.wrap .i64 (x*(108853:Int))) (15:Int)) h)
def zcp (P:Program) (x:Int) (c:Option Addr) (Q:(Int->(Hp->Prop))) (h:Hp):Prop:=
 NilW none c fun p=>
 LdW none (shInt .u64) h (Addr.add p 0) fun x1=>
 Call2 P zmd [(.int .u64 x),(.int .u64 x1)] (shInt .u64) (shInt .u64) (fun r r1 h1=>
 NilW none c fun p1=>
 yLi h1 p1 2 fun x2=>
 ((0:Int)<=(bitsI .and .i64 x2 (63:Int))/\((0:Int)<=(bitsI .and .i64 x2 (63:Int))/\(if ((shlI .u64 (shrI .u64 r (bitsI .and .i64 x2 (63:Int))) (bitsI .and .i64 x2 (63:Int))) !=r)=true then
 ((0:Int)<=(bitsI .and .i64 x2 (63:Int))/\Q (bitsI .or .u64 (shrI .u64 r (bitsI .and .i64 x2 (63:Int))) (1:Int)) h1)
 else
 NilW none c fun p2=>
 LdW none (shInt .u64) h1 (Addr.add p2 1) fun x3=>
 Call2 P zmd [(.int .u64 x),(.int .u64 x3)] (shInt .u64) (shInt .u64) (fun r2 r3 h2=>
 CallT P zcg [(.bool (decide (r1<r2)))] (shInt .u64) (fun r4 h3=>
 ((0:Int)<=(bitsI .and .i64 x2 (63:Int))/\CallT P zcg [(.bool (decide ((IntKind.wrap .u64 (r1-r2))>(1:Int))))] (shInt .u64) (fun r5 h4=>
 Q (bitsI .or .u64 (shrI .u64 (IntKind.wrap .u64 (r-r4)) (bitsI .and .i64 x2 (63:Int))) r5) h4) h3)) h2) h1)))) h
def zdg (P:Program) (u:Int) (x:Int) (Q:(Int->(Hp->Prop))) (h:Hp):Prop:=
 Q (IntKind.wrap .u64 (u+(IntKind.wrap .u64 x))) h
def zdm (P:Program) (u:Int) (Q:(Int->(Hp->Prop))) (h:Hp):Prop:=
 ((0:Int)<=(2:Int)/\Q (shrI .u64 (IntKind.wrap .u64 (u+(3:Int))) (2:Int)) h)
def zdh (P:Program) (u:Int) (Q:(Int->(Hp->Prop))) (h:Hp):Prop:=
 ((0:Int)<=(2:Int)/\Q (shrI .u64 (IntKind.wrap .u64 (u+(0:Int))) (2:Int)) h)
def zdi (P:Program) (u:Int) (Q:(Int->(Hp->Prop))) (h:Hp):Prop:=
 ((0:Int)<=(2:Int)/\((0:Int)<=(2:Int)/\Q (shrI .u64 (IntKind.wrap .u64 ((IntKind.wrap .u64 (u+(1:Int)))+(bitsI .and .u64 (shrI .u64 u (2:Int)) (1:Int)))) (2:Int)) h))
def ziv (P:Program) (x:Int) (Q:(Int->(Hp->Prop))) (h:Hp):Prop:=
 ((0:Int)<=(2:Int)/\Q (IntKind.wrap .u64 ((shlI .u64 x (2:Int))-(2:Int))) h)
def zjt (P:Program) (a:Option Addr) (Q:(Hp->Prop)) (h:Hp):Prop:=
 LoopW0 (fun again h1=>
 NilW none a fun p=>
 yLi h1 p 800 fun x=>
 NilW (some (decide (x>(0:Int)))) a fun p1=>
 LdW (some (decide (x>(0:Int)))) yH h1 (Addr.add p1 800) fun x1=>
 NilW (some (decide (x>(0:Int)))) a fun p2=>
 (((decide (x>(0:Int)))=true->((0:Int)<=(IntKind.wrap .i64 (x1-(1:Int)))/\(IntKind.wrap .i64 (x1-(1:Int)))<(800:Int)))/\LdW (some (decide (x>(0:Int)))) (shInt .u8) h1 (Addr.add (Addr.add p2 0) ((Int.toNat (IntKind.wrap .i64 (x1-(1:Int))))*1)) fun x2=>
 LetW ((decide (x>(0:Int)))&&(x2==(48:Int))) fun y=>
 (if y then
 NilW none a fun p3=>
 yLi h1 p3 800 fun x3=>
 NilW none a fun p4=>
 StW h1 (Addr.add p4 800) [(yI (IntKind.wrap .i64 (x3-(1:Int))))] (fun h2=>
 again h2)
 else
 NilW none a fun p3=>
 yLi h1 p3 800 fun x3=>
 (if (x3==(0:Int))=true then
 NilW none a fun p4=>
 StW h1 (Addr.add p4 801) [(yI (0:Int))] (fun h2=>
 Q h2)
 else
 Q h1))))  h
def zfz (P:Program) (a:Option Addr) (k:Int) (Q:(Hp->Prop)) (h:Hp):Prop:=
 LdW none shSl h ⟨9,0,none⟩ fun x=>
 ((InB x.base x.len k)/\LdW none yH h (Addr.add (sat x.base 2 k) 0) fun x1=>
 JoinW1 (α1:=Int) (fun k1=>
 NilW none a fun p=>
 NilW none a fun p1=>
 yLi h p1 800 fun x2=>
 (((0:Int)<=(0:Int)/\((0:Int)<=x2/\x2<=(800:Int)))/\LetW (α:=Sl) ⟨(sbase (some (Addr.add p 0)) 1 0 800),((Int.toNat x2)-0),800⟩ fun y=>
 LdW none shSl h ⟨9,0,none⟩ fun x3=>
 ((InB x3.base x3.len k)/\LdW none shStr h (Addr.add (sat x3.base 2 k) 1) fun x4=>
 CallT P zgh [y.v,(.string x4)] zae (fun r h1=>
 (if r then
 k1 (IntKind.wrap .i64 (x1-(1:Int))) h1
 else
 k1 x1 h1)) h)))
 (fun delta h1=>
 NilW none a fun p=>
 yLi h1 p 800 fun x2=>
 NilW none a fun p1=>
 yLi h1 p1 800 fun x3=>
 LoopW3 (α1:=Int) (α2:=Int) (α3:=Int) (fun again r w n h2=>
 (if decide (r>=(0:Int)) then
 NilW none a fun p2=>
 (((0:Int)<=r/\r<(800:Int))/\LdW none (shInt .u8) h2 (Addr.add (Addr.add p2 0) ((Int.toNat r)*1)) fun x4=>
 ((0:Int)<=k/\((10:Int)≠(0:Int)/\JoinW0 (fun k1=>
 (if (decide ((IntKind.wrap .i64 (w-(1:Int)))<(800:Int)))=true then
 NilW none a fun p3=>
 (((0:Int)<=(IntKind.wrap .i64 (w-(1:Int)))/\(IntKind.wrap .i64 (w-(1:Int)))<(800:Int))/\StW h2 (Addr.add (Addr.add p3 0) ((Int.toNat (IntKind.wrap .i64 (w-(1:Int))))*1)) [(.int .u8 (IntKind.wrap .u8 (IntKind.wrap .u64 ((IntKind.wrap .u64 ((IntKind.wrap .u64 (n+(shlI .u64 (IntKind.wrap .u64 ((IntKind.wrap .u64 x4)-(48:Int))) k)))-(IntKind.wrap .u64 ((10:Int)*(IntKind.wrap .u64 (Int.tdiv (IntKind.wrap .u64 (n+(shlI .u64 (IntKind.wrap .u64 ((IntKind.wrap .u64 x4)-(48:Int))) k))) (10:Int)))))))+(48:Int)))))] (fun h3=>
 k1 h3))
 else
 (if ((IntKind.wrap .u64 ((IntKind.wrap .u64 (n+(shlI .u64 (IntKind.wrap .u64 ((IntKind.wrap .u64 x4)-(48:Int))) k)))-(IntKind.wrap .u64 ((10:Int)*(IntKind.wrap .u64 (Int.tdiv (IntKind.wrap .u64 (n+(shlI .u64 (IntKind.wrap .u64 ((IntKind.wrap .u64 x4)-(48:Int))) k))) (10:Int))))))) !=(0:Int))=true then
 NilW none a fun p3=>
 StW h2 (Addr.add p3 803) [(.bool true)] (fun h3=>
 k1 h3)
 else
 k1 h2)))
 (fun h3=>
 again (IntKind.wrap .i64 (r-(1:Int))) (IntKind.wrap .i64 (w-(1:Int))) (IntKind.wrap .u64 (Int.tdiv (IntKind.wrap .u64 (n+(shlI .u64 (IntKind.wrap .u64 ((IntKind.wrap .u64 x4)-(48:Int))) k))) (10:Int))) h3))))
 else
 LoopW2 (α1:=Int) (α2:=Int) (fun again1 w1 n1 h3=>
 (if decide (n1>(0:Int)) then
 ((10:Int)≠(0:Int)/\JoinW0 (fun k1=>
 (if (decide ((IntKind.wrap .i64 (w1-(1:Int)))<(800:Int)))=true then
 NilW none a fun p2=>
 (((0:Int)<=(IntKind.wrap .i64 (w1-(1:Int)))/\(IntKind.wrap .i64 (w1-(1:Int)))<(800:Int))/\StW h3 (Addr.add (Addr.add p2 0) ((Int.toNat (IntKind.wrap .i64 (w1-(1:Int))))*1)) [(.int .u8 (IntKind.wrap .u8 (IntKind.wrap .u64 ((IntKind.wrap .u64 (n1-(IntKind.wrap .u64 ((10:Int)*(IntKind.wrap .u64 (Int.tdiv n1 (10:Int)))))))+(48:Int)))))] (fun h4=>
 k1 h4))
 else
 (if ((IntKind.wrap .u64 (n1-(IntKind.wrap .u64 ((10:Int)*(IntKind.wrap .u64 (Int.tdiv n1 (10:Int))))))) !=(0:Int))=true then
 NilW none a fun p2=>
 StW h3 (Addr.add p2 803) [(.bool true)] (fun h4=>
 k1 h4)
 else
 k1 h3)))
 (fun h4=>
 again1 (IntKind.wrap .i64 (w1-(1:Int))) (IntKind.wrap .u64 (Int.tdiv n1 (10:Int))) h4))
 else
 NilW none a fun p2=>
 yLi h3 p2 800 fun x4=>
 NilW none a fun p3=>
 StW h3 (Addr.add p3 800) [(yI (IntKind.wrap .i64 (x4+delta)))] (fun h4=>
 JoinW0 (fun k1=>
 NilW none a fun p4=>
 yLi h4 p4 800 fun x5=>
 (if decide (x5>=(800:Int)) then
 NilW none a fun p5=>
 StW h4 (Addr.add p5 800) [(yI (800:Int))] (fun h5=>
 k1 h5)
 else
 k1 h4))
 (fun h5=>
 NilW none a fun p4=>
 yLi h5 p4 801 fun x5=>
 NilW none a fun p5=>
 StW h5 (Addr.add p5 801) [(yI (IntKind.wrap .i64 (x5+delta)))] (fun h6=>
 Call0 P zfq [(yP a)] (fun h7=>
 Q h7) h6))))) w n h2)) (IntKind.wrap .i64 (x2-(1:Int))) (IntKind.wrap .i64 (x3+delta)) (0:Int) h1))
def zfe (P:Program) (a:Option Addr) (k:Int) (Q:(Hp->Prop)) (h:Hp):Prop:=
 JoinW2 (α1:=Int) (α2:=Int) (fun k1=>
 LoopW2 (α1:=Int) (α2:=Int) (fun again r n h1=>
 ((0:Int)<=k/\(if ((shrI .u64 n k)==(0:Int))=true then
 NilW none a fun p=>
 yLi h1 p 800 fun x=>
 (if decide (r>=x) then
 (if (n==(0:Int))=true then
 NilW none a fun p1=>
 StW h1 (Addr.add p1 800) [(yI (0:Int))] (fun h2=>
 Q h2)
 else
 LoopW2 (α1:=Int) (α2:=Int) (fun again1 r1 n1 h2=>
 ((0:Int)<=k/\(if ((shrI .u64 n1 k)==(0:Int))=true then
 again1 (IntKind.wrap .i64 (r1+(1:Int))) (IntKind.wrap .u64 (n1*(10:Int))) h2
 else
 k1 r1 n1 h2))) r n h1)
 else
 NilW none a fun p1=>
 (((0:Int)<=r/\r<(800:Int))/\LdW none (shInt .u8) h1 (Addr.add (Addr.add p1 0) ((Int.toNat r)*1)) fun x1=>
 again (IntKind.wrap .i64 (r+(1:Int))) (IntKind.wrap .u64 ((IntKind.wrap .u64 ((IntKind.wrap .u64 (n*(10:Int)))+(IntKind.wrap .u64 x1)))-(48:Int))) h1))
 else
 k1 r n h1))) (0:Int) (0:Int) h)
 (fun r n h1=>
 NilW none a fun p=>
 yLi h1 p 801 fun x=>
 NilW none a fun p1=>
 StW h1 (Addr.add p1 801) [(yI (IntKind.wrap .i64 (x-(IntKind.wrap .i64 (r-(1:Int))))))] (fun h2=>
 ((0:Int)<=k/\LoopW3 (α1:=Int) (α2:=Int) (α3:=Int) (fun again r1 w n1 h3=>
 NilW none a fun p2=>
 yLi h3 p2 800 fun x1=>
 (if decide (r1<x1) then
 NilW none a fun p3=>
 (((0:Int)<=r1/\r1<(800:Int))/\LdW none (shInt .u8) h3 (Addr.add (Addr.add p3 0) ((Int.toNat r1)*1)) fun x2=>
 ((0:Int)<=k/\NilW none a fun p4=>
 (((0:Int)<=w/\w<(800:Int))/\StW h3 (Addr.add (Addr.add p4 0) ((Int.toNat w)*1)) [(.int .u8 (IntKind.wrap .u8 (IntKind.wrap .u64 ((shrI .u64 n1 k)+(48:Int)))))] (fun h4=>
 again (IntKind.wrap .i64 (r1+(1:Int))) (IntKind.wrap .i64 (w+(1:Int))) (IntKind.wrap .u64 ((IntKind.wrap .u64 ((IntKind.wrap .u64 ((bitsI .and .u64 n1 (IntKind.wrap .u64 ((shlI .u64 (1:Int) k)-(1:Int))))*(10:Int)))+(IntKind.wrap .u64 x2)))-(48:Int))) h4))))
 else
 LoopW2 (α1:=Int) (α2:=Int) (fun again1 w1 n2 h4=>
 (if decide (n2>(0:Int)) then
 ((0:Int)<=k/\JoinW1 (α1:=Int) (fun k1=>
 (if decide (w1<(800:Int)) then
 NilW none a fun p3=>
 (((0:Int)<=w1/\w1<(800:Int))/\StW h4 (Addr.add (Addr.add p3 0) ((Int.toNat w1)*1)) [(.int .u8 (IntKind.wrap .u8 (IntKind.wrap .u64 ((shrI .u64 n2 k)+(48:Int)))))] (fun h5=>
 k1 (IntKind.wrap .i64 (w1+(1:Int))) h5))
 else
 (if decide ((shrI .u64 n2 k)>(0:Int)) then
 NilW none a fun p3=>
 StW h4 (Addr.add p3 803) [(.bool true)] (fun h5=>
 k1 w1 h5)
 else
 k1 w1 h4)))
 (fun w2 h5=>
 again1 w2 (IntKind.wrap .u64 ((bitsI .and .u64 n2 (IntKind.wrap .u64 ((shlI .u64 (1:Int) k)-(1:Int))))*(10:Int))) h5))
 else
 NilW none a fun p3=>
 StW h4 (Addr.add p3 800) [(yI w1)] (fun h5=>
 Call0 P zfq [(yP a)] (fun h6=>
 Q h6) h5))) w n1 h3)) r (0:Int) n h2)))
def zds (P:Program) (a:Option Addr) (nd:Int) (Q:(Bool->(Hp->Prop))) (h:Hp):Prop:=
 NilW (some (!(decide (nd<(0:Int))))) a fun p=>
 LdW (some (!(decide (nd<(0:Int))))) yH h (Addr.add p 800) fun x=>
 LetW ((decide (nd<(0:Int))) || (decide (nd>=x))) fun y=>
 (if y then
 Q false h
 else
 NilW none a fun p1=>
 (((0:Int)<=nd/\nd<(800:Int))/\LdW none (shInt .u8) h (Addr.add (Addr.add p1 0) ((Int.toNat nd)*1)) fun x1=>
 NilW (some (x1==(53:Int))) a fun p2=>
 LdW (some (x1==(53:Int))) yH h (Addr.add p2 800) fun x2=>
 LetW ((x1==(53:Int))&&((IntKind.wrap .i64 (nd+(1:Int)))==x2)) fun y1=>
 (if y1 then
 NilW none a fun p3=>
 LdW none zae h (Addr.add p3 803) fun x3=>
 (if x3 then
 Q true h
 else
 NilW (some (decide (nd>(0:Int)))) a fun p4=>
 (((decide (nd>(0:Int)))=true->((0:Int)<=(IntKind.wrap .i64 (nd-(1:Int)))/\(IntKind.wrap .i64 (nd-(1:Int)))<(800:Int)))/\LdW (some (decide (nd>(0:Int)))) (shInt .u8) h (Addr.add (Addr.add p4 0) ((Int.toNat (IntKind.wrap .i64 (nd-(1:Int))))*1)) fun x4=>
 (((decide (nd>(0:Int)))=true->(2:Int)≠(0:Int))/\LetW ((decide (nd>(0:Int)))&&((Int.tmod (IntKind.wrap .u8 (x4-(48:Int))) (2:Int)) !=(0:Int))) fun y2=>
 Q y2 h)))
 else
 NilW none a fun p3=>
 (((0:Int)<=nd/\nd<(800:Int))/\LdW none (shInt .u8) h (Addr.add (Addr.add p3 0) ((Int.toNat nd)*1)) fun x3=>
 Q (decide (x3>=(53:Int))) h))))
def zls (P:Program) (a:Sl) (Q:(Sl->(Hp->Prop))) (h:Hp):Prop:=
 LoopW1 (α1:=Sl) (fun again a1 h1=>
 (((decide ((a1.len:Int)>(0:Int)))=true->(InB a1.base a1.len (IntKind.wrap .i64 ((a1.len:Int)-(1:Int)))))/\LdW (some (decide ((a1.len:Int)>(0:Int)))) (shInt .u32) h1 (sat a1.base 1 (IntKind.wrap .i64 ((a1.len:Int)-(1:Int)))) fun x=>
 LetW ((decide ((a1.len:Int)>(0:Int)))&&(x==(0:Int))) fun y=>
 (if y then
 (((0:Int)<=(IntKind.wrap .i64 ((a1.len:Int)-(1:Int)))/\(IntKind.wrap .i64 ((a1.len:Int)-(1:Int)))<=(a1.cap:Int))/\LetW (α:=Sl) ⟨(sbase a1.base 1 0 a1.cap),((Int.toNat (IntKind.wrap .i64 ((a1.len:Int)-(1:Int))))-0),(a1.cap-0)⟩ fun y1=>
 again y1 h1)
 else
 Q a1 h1))) a h
def zbd (P:Program) (s:ByteArray) (Q:(Nat->(Int->(Bool->(Hp->Prop))))) (h:Hp):Prop:=
 (if ((((ByteArray.size s):Nat):Int)==(0:Int))=true then
 Q 0 (0:Int) false h
 else
 (((0:Int)<=(0:Int)/\(0:Int)<(((ByteArray.size s):Nat):Int))/\JoinW3 (α1:=ByteArray) (α2:=Int) (α3:=Int) (fun k=>
 JoinW1 (α1:=Bool) (fun k1=>
 (if ((((UInt8.toNat (List.getD s.data.toList 0 0)):Nat):Int)==(43:Int))=true then
 k1 ((((UInt8.toNat (List.getD s.data.toList 0 0)):Nat):Int)==(43:Int)) h
 else
 k1 ((((UInt8.toNat (List.getD s.data.toList 0 0)):Nat):Int)==(45:Int)) h))
 (fun t13 h1=>
 (if t13 then
 JoinW1 (α1:=Int) (fun k1=>
 (((0:Int)<=(0:Int)/\(0:Int)<(((ByteArray.size s):Nat):Int))/\(if ((((UInt8.toNat (List.getD s.data.toList 0 0)):Nat):Int)==(45:Int))=true then
 k1 (-1:Int) h1
 else
 k1 (1:Int) h1)))
 (fun sign h2=>
 (((0:Int)<=(1:Int)/\(1:Int)<=(((ByteArray.size s):Nat):Int))/\k (ByteArray.extract s 1 (ByteArray.size s)) sign (1:Int) h2))
 else
 JoinW1 (α1:=Bool) (fun k1=>
 (if ((((UInt8.toNat (List.getD s.data.toList 0 0)):Nat):Int)==(105:Int))=true then
 k1 ((((UInt8.toNat (List.getD s.data.toList 0 0)):Nat):Int)==(105:Int)) h1
 else
 k1 ((((UInt8.toNat (List.getD s.data.toList 0 0)):Nat):Int)==(73:Int)) h1))
 (fun t16 h2=>
 (if t16 then
 k s (1:Int) (0:Int) h2
 else
 JoinW1 (α1:=Bool) (fun k1=>
 (if ((((UInt8.toNat (List.getD s.data.toList 0 0)):Nat):Int)==(110:Int))=true then
 k1 ((((UInt8.toNat (List.getD s.data.toList 0 0)):Nat):Int)==(110:Int)) h2
 else
 k1 ((((UInt8.toNat (List.getD s.data.toList 0 0)):Nat):Int)==(78:Int)) h2))
 (fun t19 h3=>
 (if t19 then
 CallT P zbp [(.string s),(.string ⟨#[110,97,110]⟩)] yH (fun r h4=>
 (if (r==(3:Int))=true then
 CallT P zqa [] (shFlt .f64) (fun r1 h5=>
 Q r1 (3:Int) true h5) h4
 else
 Q 0 (0:Int) false h4)) h3
 else
 Q 0 (0:Int) false h3)))))))
 (fun s1 sign nsign h1=>
 CallT P zbp [(.string s1),(.string ⟨#[105,110,102,105,110,105,116,121]⟩)] yH (fun r h2=>
 JoinW1 (α1:=Int) (fun k=>
 LetW ((decide ((3:Int)<r))&&(decide (r<(8:Int)))) fun y=>
 (if y then
 k (3:Int) h2
 else
 k r h2))
 (fun n h3=>
 LetW ((n==(3:Int)) || (n==(8:Int))) fun y=>
 (if y then
 CallT P zpz [(yI sign)] (shFlt .f64) (fun r1 h4=>
 Q r1 (IntKind.wrap .i64 (nsign+n)) true h4) h3
 else
 Q 0 (0:Int) false h3))) h1)))
def zax (P:Program) (s:ByteArray) (Q:(Int->(Int->(Bool->(Bool->(Bool->(Int->(Bool->(Hp->Prop))))))))) (h:Hp):Prop:=
 (if (decide ((0:Int)>=(((ByteArray.size s):Nat):Int)))=true then
 Q (0:Int) (0:Int) false false false (0:Int) false h
 else
 (((0:Int)<=(0:Int)/\(0:Int)<(((ByteArray.size s):Nat):Int))/\JoinW2 (α1:=Bool) (α2:=Int) (fun k=>
 (if ((((UInt8.toNat (List.getD s.data.toList 0 0)):Nat):Int)==(43:Int))=true then
 k false (1:Int) h
 else
 (if ((((UInt8.toNat (List.getD s.data.toList 0 0)):Nat):Int)==(45:Int))=true then
 k true (1:Int) h
 else
 k false (0:Int) h)))
 (fun neg i h1=>
 JoinW5 (α1:=Bool) (α2:=Int) (α3:=Int) (α4:=Int) (α5:=Int) (fun k=>
 (((decide ((IntKind.wrap .i64 (i+(2:Int)))<(((ByteArray.size s):Nat):Int)))=true->((0:Int)<=i/\i<(((ByteArray.size s):Nat):Int)))/\LetW ((decide ((IntKind.wrap .i64 (i+(2:Int)))<(((ByteArray.size s):Nat):Int)))&&((((UInt8.toNat (List.getD s.data.toList (Int.toNat i) 0)):Nat):Int)==(48:Int))) fun y=>
 ((y=true->((0:Int)<=(IntKind.wrap .i64 (i+(1:Int)))/\(IntKind.wrap .i64 (i+(1:Int)))<(((ByteArray.size s):Nat):Int)))/\EffC (some y) (CallT P zaf [(.int .u8 (((UInt8.toNat (List.getD s.data.toList (Int.toNat (IntKind.wrap .i64 (i+(1:Int)))) 0)):Nat):Int))] (shInt .u8)) (fun r h2=>
 LetW (y&&(r==(120:Int))) fun y1=>
 (if y1 then
 k true (IntKind.wrap .i64 (i+(2:Int))) (16:Int) (16:Int) (112:Int) h2
 else
 k false i (10:Int) (19:Int) (101:Int) h2)) h1)))
 (fun hex i1 base maxMantDigits expChar h2=>
 JoinW9 (α1:=Int) (α2:=Bool) (α3:=Int) (α4:=Bool) (α5:=Bool) (α6:=Bool) (α7:=Int) (α8:=Int) (α9:=Int) (fun k=>
 LoopW9 (α1:=Int) (α2:=Bool) (α3:=Int) (α4:=Bool) (α5:=Bool) (α6:=Bool) (α7:=Int) (α8:=Int) (α9:=Int) (fun again mantissa trunc i2 underscores sawdot sawdigits nd ndMant dp h3=>
 (if (decide (i2<(((ByteArray.size s):Nat):Int)))=true then
 JoinW8 (α1:=Int) (α2:=Bool) (α3:=Bool) (α4:=Bool) (α5:=Bool) (α6:=Int) (α7:=Int) (α8:=Int) (fun k1=>
 (((0:Int)<=i2/\i2<(((ByteArray.size s):Nat):Int))/\(if (true==((((UInt8.toNat (List.getD s.data.toList (Int.toNat i2) 0)):Nat):Int)==(95:Int)))=true then
 k1 mantissa trunc true sawdot sawdigits nd ndMant dp h3
 else
 (if (true==((((UInt8.toNat (List.getD s.data.toList (Int.toNat i2) 0)):Nat):Int)==(46:Int)))=true then
 (if sawdot then
 k mantissa trunc i2 underscores sawdot sawdigits nd ndMant dp h3
 else
 k1 mantissa trunc underscores true sawdigits nd ndMant nd h3)
 else
 LetW ((decide ((48:Int)<=(((UInt8.toNat (List.getD s.data.toList (Int.toNat i2) 0)):Nat):Int)))&&(decide ((((UInt8.toNat (List.getD s.data.toList (Int.toNat i2) 0)):Nat):Int)<=(57:Int)))) fun y=>
 (if (true==y)=true then
 LetW (((((UInt8.toNat (List.getD s.data.toList (Int.toNat i2) 0)):Nat):Int)==(48:Int))&&(nd==(0:Int))) fun y1=>
 (if y1 then
 k1 mantissa trunc underscores sawdot true nd ndMant (IntKind.wrap .i64 (dp-(1:Int))) h3
 else
 (if decide (ndMant<maxMantDigits) then
 k1 (IntKind.wrap .u64 ((IntKind.wrap .u64 (mantissa*base))+(IntKind.wrap .u64 (IntKind.wrap .u8 ((((UInt8.toNat (List.getD s.data.toList (Int.toNat i2) 0)):Nat):Int)-(48:Int)))))) trunc underscores sawdot true (IntKind.wrap .i64 (nd+(1:Int))) (IntKind.wrap .i64 (ndMant+(1:Int))) dp h3
 else
 (if ((((UInt8.toNat (List.getD s.data.toList (Int.toNat i2) 0)):Nat):Int) !=(48:Int))=true then
 k1 mantissa true underscores sawdot true (IntKind.wrap .i64 (nd+(1:Int))) ndMant dp h3
 else
 k1 mantissa trunc underscores sawdot true (IntKind.wrap .i64 (nd+(1:Int))) ndMant dp h3)))
 else
 EffC (some (base==(16:Int))) (CallT P zaf [(.int .u8 (((UInt8.toNat (List.getD s.data.toList (Int.toNat i2) 0)):Nat):Int))] (shInt .u8)) (fun r h4=>
 LetW ((base==(16:Int))&&(decide ((97:Int)<=r))) fun y1=>
 EffC (some y1) (CallT P zaf [(.int .u8 (((UInt8.toNat (List.getD s.data.toList (Int.toNat i2) 0)):Nat):Int))] (shInt .u8)) (fun r1 h5=>
 LetW (y1&&(decide (r1<=(102:Int)))) fun y2=>
 (if (true==y2)=true then
 (if decide (ndMant<maxMantDigits) then
 CallT P zaf [(.int .u8 (((UInt8.toNat (List.getD s.data.toList (Int.toNat i2) 0)):Nat):Int))] (shInt .u8) (fun r2 h6=>
 k1 (IntKind.wrap .u64 ((IntKind.wrap .u64 (mantissa*(16:Int)))+(IntKind.wrap .u64 (IntKind.wrap .u8 ((IntKind.wrap .u8 (r2-(97:Int)))+(10:Int)))))) trunc underscores sawdot true (IntKind.wrap .i64 (nd+(1:Int))) (IntKind.wrap .i64 (ndMant+(1:Int))) dp h6) h5
 else
 k1 mantissa true underscores sawdot true (IntKind.wrap .i64 (nd+(1:Int))) ndMant dp h5)
 else
 k mantissa trunc i2 underscores sawdot sawdigits nd ndMant dp h5)) h4) h3)))))
 (fun mantissa1 trunc1 underscores1 sawdot1 sawdigits1 nd1 ndMant1 dp1 h4=>
 again mantissa1 trunc1 (IntKind.wrap .i64 (i2+(1:Int))) underscores1 sawdot1 sawdigits1 nd1 ndMant1 dp1 h4)
 else
 k mantissa trunc i2 underscores sawdot sawdigits nd ndMant dp h3)) (0:Int) false i1 false false false (0:Int) (0:Int) (0:Int) h2)
 (fun mantissa trunc i2 underscores sawdot sawdigits nd ndMant dp h3=>
 (if (!sawdigits)=true then
 Q mantissa (0:Int) neg trunc hex i2 false h3
 else
 JoinW1 (α1:=Int) (fun k=>
 (if (!sawdot)=true then
 k nd h3
 else
 k dp h3))
 (fun dp1 h4=>
 JoinW2 (α1:=Int) (α2:=Int) (fun k=>
 (if (base==(16:Int))=true then
 k (IntKind.wrap .i64 (ndMant*(4:Int))) (IntKind.wrap .i64 (dp1*(4:Int))) h4
 else
 k ndMant dp1 h4))
 (fun ndMant1 dp2 h5=>
 JoinW3 (α1:=Int) (α2:=Bool) (α3:=Int) (fun k=>
 (((decide (i2<(((ByteArray.size s):Nat):Int)))=true->((0:Int)<=i2/\i2<(((ByteArray.size s):Nat):Int)))/\EffC (some (decide (i2<(((ByteArray.size s):Nat):Int)))) (CallT P zaf [(.int .u8 (((UInt8.toNat (List.getD s.data.toList (Int.toNat i2) 0)):Nat):Int))] (shInt .u8)) (fun r h6=>
 LetW ((decide (i2<(((ByteArray.size s):Nat):Int)))&&(r==expChar)) fun y=>
 (if y then
 (if (decide ((IntKind.wrap .i64 (i2+(1:Int)))>=(((ByteArray.size s):Nat):Int)))=true then
 Q mantissa (0:Int) neg trunc hex (IntKind.wrap .i64 (i2+(1:Int))) false h6
 else
 (((0:Int)<=(IntKind.wrap .i64 (i2+(1:Int)))/\(IntKind.wrap .i64 (i2+(1:Int)))<(((ByteArray.size s):Nat):Int))/\JoinW2 (α1:=Int) (α2:=Int) (fun k1=>
 (if ((((UInt8.toNat (List.getD s.data.toList (Int.toNat (IntKind.wrap .i64 (i2+(1:Int)))) 0)):Nat):Int)==(43:Int))=true then
 k1 (IntKind.wrap .i64 ((IntKind.wrap .i64 (i2+(1:Int)))+(1:Int))) (1:Int) h6
 else
 (if ((((UInt8.toNat (List.getD s.data.toList (Int.toNat (IntKind.wrap .i64 (i2+(1:Int)))) 0)):Nat):Int)==(45:Int))=true then
 k1 (IntKind.wrap .i64 ((IntKind.wrap .i64 (i2+(1:Int)))+(1:Int))) (-1:Int) h6
 else
 k1 (IntKind.wrap .i64 (i2+(1:Int))) (1:Int) h6)))
 (fun i3 esign h7=>
 (((!(decide (i3>=(((ByteArray.size s):Nat):Int))))=true->((0:Int)<=i3/\i3<(((ByteArray.size s):Nat):Int)))/\LetW ((decide (i3>=(((ByteArray.size s):Nat):Int))) || (decide ((((UInt8.toNat (List.getD s.data.toList (Int.toNat i3) 0)):Nat):Int)<(48:Int)))) fun y1=>
 (((!y1)=true->((0:Int)<=i3/\i3<(((ByteArray.size s):Nat):Int)))/\LetW (y1 || (decide ((((UInt8.toNat (List.getD s.data.toList (Int.toNat i3) 0)):Nat):Int)>(57:Int)))) fun y2=>
 (if y2 then
 Q mantissa (0:Int) neg trunc hex i3 false h7
 else
 LoopW3 (α1:=Int) (α2:=Bool) (α3:=Int) (fun again i4 underscores1 e h8=>
 (((decide (i4<(((ByteArray.size s):Nat):Int)))=true->((0:Int)<=i4/\i4<(((ByteArray.size s):Nat):Int)))/\((((decide (i4<(((ByteArray.size s):Nat):Int)))&&(decide ((48:Int)<=(((UInt8.toNat (List.getD s.data.toList (Int.toNat i4) 0)):Nat):Int))))=true->((0:Int)<=i4/\i4<(((ByteArray.size s):Nat):Int)))/\LetW ((decide ((48:Int)<=(((UInt8.toNat (List.getD s.data.toList (Int.toNat i4) 0)):Nat):Int)))&&(decide ((((UInt8.toNat (List.getD s.data.toList (Int.toNat i4) 0)):Nat):Int)<=(57:Int)))) fun y3=>
 ((((decide (i4<(((ByteArray.size s):Nat):Int)))&&(!y3))=true->((0:Int)<=i4/\i4<(((ByteArray.size s):Nat):Int)))/\LetW (y3 || ((((UInt8.toNat (List.getD s.data.toList (Int.toNat i4) 0)):Nat):Int)==(95:Int))) fun y4=>
 LetW ((decide (i4<(((ByteArray.size s):Nat):Int)))&&y4) fun y5=>
 (if y5 then
 JoinW2 (α1:=Bool) (α2:=Int) (fun k1=>
 (((0:Int)<=i4/\i4<(((ByteArray.size s):Nat):Int))/\(if ((((UInt8.toNat (List.getD s.data.toList (Int.toNat i4) 0)):Nat):Int)==(95:Int))=true then
 k1 true e h8
 else
 (if decide (e<(10000:Int)) then
 (((0:Int)<=i4/\i4<(((ByteArray.size s):Nat):Int))/\k1 underscores1 (IntKind.wrap .i64 ((IntKind.wrap .i64 ((IntKind.wrap .i64 (e*(10:Int)))+(IntKind.wrap .i64 (((UInt8.toNat (List.getD s.data.toList (Int.toNat i4) 0)):Nat):Int))))-(48:Int))) h8)
 else
 k1 underscores1 e h8))))
 (fun underscores2 e1 h9=>
 again (IntKind.wrap .i64 (i4+(1:Int))) underscores2 e1 h9)
 else
 k i4 underscores1 (IntKind.wrap .i64 (dp2+(IntKind.wrap .i64 (e*esign)))) h8))))) i3 underscores (0:Int) h7))))))
 else
 (if (base==(16:Int))=true then
 Q mantissa (0:Int) neg trunc hex i2 false h6
 else
 k i2 underscores dp2 h6))) h5))
 (fun i3 underscores1 dp3 h6=>
 JoinW1 (α1:=Int) (fun k=>
 (if (mantissa !=(0:Int))=true then
 k (IntKind.wrap .i64 (dp3-ndMant1)) h6
 else
 k (0:Int) h6))
 (fun exp h7=>
 ((underscores1=true->((0:Int)<=i3/\i3<=(((ByteArray.size s):Nat):Int)))/\EffC (some underscores1) (CallT P zea [(.string (ByteArray.extract s 0 (Int.toNat i3)))] zae) (fun r h8=>
 LetW (underscores1&&(!r)) fun y=>
 (if y then
 Q mantissa exp neg trunc hex i3 false h8
 else
 Q mantissa exp neg trunc hex i3 true h8)) h7)))))))))))
def zhd (P:Program) (s:ByteArray) (flt:Option Addr) (mantissa:Int) (exp:Int) (neg:Bool) (trunc:Bool) (Q:(Nat->(Leaf->(Hp->Prop)))) (h:Hp):Prop:=
 NilW none flt fun p=>
 LdW none (shInt .u64) h (Addr.add p 1) fun x=>
 ((0:Int)<=x/\NilW none flt fun p1=>
 yLi h p1 2 fun x1=>
 NilW none flt fun p2=>
 yLi h p2 2 fun x2=>
 NilW none flt fun p3=>
 LdW none (shInt .u64) h (Addr.add p3 0) fun x3=>
 LoopW2 (α1:=Int) (α2:=Int) (fun again mantissa1 exp1 h1=>
 NilW (some (mantissa1 !=(0:Int))) flt fun p4=>
 LdW (some (mantissa1 !=(0:Int))) (shInt .u64) h1 (Addr.add p4 0) fun x4=>
 (((mantissa1 !=(0:Int))=true->(0:Int)<=(IntKind.wrap .u64 (x4+(2:Int))))/\LetW ((mantissa1 !=(0:Int))&&((shrI .u64 mantissa1 (IntKind.wrap .u64 (x4+(2:Int))))==(0:Int))) fun y=>
 (if y then
 ((0:Int)<=(1:Int)/\again (shlI .u64 mantissa1 (1:Int)) (IntKind.wrap .i64 (exp1-(1:Int))) h1)
 else
 JoinW1 (α1:=Int) (fun k=>
 (if trunc then
 k (bitsI .or .u64 mantissa1 (1:Int)) h1
 else
 k mantissa1 h1))
 (fun mantissa2 h2=>
 LoopW2 (α1:=Int) (α2:=Int) (fun again1 mantissa3 exp2 h3=>
 NilW none flt fun p5=>
 LdW none (shInt .u64) h3 (Addr.add p5 0) fun x5=>
 ((0:Int)<=(IntKind.wrap .u64 ((IntKind.wrap .u64 ((1:Int)+x5))+(2:Int)))/\(if ((shrI .u64 mantissa3 (IntKind.wrap .u64 ((IntKind.wrap .u64 ((1:Int)+x5))+(2:Int)))) !=(0:Int))=true then
 ((0:Int)<=(1:Int)/\again1 (bitsI .or .u64 (shrI .u64 mantissa3 (1:Int)) (bitsI .and .u64 mantissa3 (1:Int))) (IntKind.wrap .i64 (exp2+(1:Int))) h3)
 else
 LoopW2 (α1:=Int) (α2:=Int) (fun again2 mantissa4 exp3 h4=>
 LetW ((decide (mantissa4>(1:Int)))&&(decide (exp3<(IntKind.wrap .i64 ((IntKind.wrap .i64 (x2+(1:Int)))-(2:Int)))))) fun y1=>
 (if y1 then
 ((0:Int)<=(1:Int)/\again2 (bitsI .or .u64 (shrI .u64 mantissa4 (1:Int)) (bitsI .and .u64 mantissa4 (1:Int))) (IntKind.wrap .i64 (exp3+(1:Int))) h4)
 else
 ((0:Int)<=(2:Int)/\JoinW2 (α1:=Int) (α2:=Int) (fun k=>
 (if ((bitsI .or .u64 (bitsI .and .u64 mantissa4 (3:Int)) (bitsI .and .u64 (shrI .u64 mantissa4 (2:Int)) (1:Int)))==(3:Int))=true then
 NilW none flt fun p6=>
 LdW none (shInt .u64) h4 (Addr.add p6 0) fun x6=>
 ((0:Int)<=(IntKind.wrap .u64 ((1:Int)+x6))/\(if ((IntKind.wrap .u64 ((shrI .u64 mantissa4 (2:Int))+(1:Int)))==(shlI .u64 (1:Int) (IntKind.wrap .u64 ((1:Int)+x6))))=true then
 ((0:Int)<=(1:Int)/\k (shrI .u64 (IntKind.wrap .u64 ((shrI .u64 mantissa4 (2:Int))+(1:Int))) (1:Int)) (IntKind.wrap .i64 ((IntKind.wrap .i64 (exp3+(2:Int)))+(1:Int))) h4)
 else
 k (IntKind.wrap .u64 ((shrI .u64 mantissa4 (2:Int))+(1:Int))) (IntKind.wrap .i64 (exp3+(2:Int))) h4))
 else
 k (shrI .u64 mantissa4 (2:Int)) (IntKind.wrap .i64 (exp3+(2:Int))) h4))
 (fun mantissa5 exp4 h5=>
 JoinW1 (α1:=Int) (fun k=>
 NilW none flt fun p6=>
 LdW none (shInt .u64) h5 (Addr.add p6 0) fun x6=>
 ((0:Int)<=x6/\(if ((shrI .u64 mantissa5 x6)==(0:Int))=true then
 NilW none flt fun p7=>
 yLi h5 p7 2 fun x7=>
 k x7 h5
 else
 k exp4 h5)))
 (fun exp5 h6=>
 JoinW3 (α1:=Int) (α2:=Int) (α3:=Leaf) (fun k=>
 (if (decide (exp5>(IntKind.wrap .i64 ((IntKind.wrap .i64 ((shlI .i64 (1:Int) x)+x1))-(2:Int)))))=true then
 NilW none flt fun p6=>
 LdW none (shInt .u64) h6 (Addr.add p6 0) fun x6=>
 ((0:Int)<=x6/\EncW zai (.iface 122 (yI (1:Int))) fun e=>
 k (shlI .u64 (1:Int) x6) (IntKind.wrap .i64 ((IntKind.wrap .i64 ((IntKind.wrap .i64 ((shlI .i64 (1:Int) x)+x1))-(2:Int)))+(1:Int))) e h6)
 else
 EncW zai .nilIface fun e=>
 k mantissa5 exp5 e h6))
 (fun mantissa6 exp6 err h7=>
 NilW none flt fun p6=>
 LdW none (shInt .u64) h7 (Addr.add p6 0) fun x6=>
 ((0:Int)<=x6/\NilW none flt fun p7=>
 yLi h7 p7 2 fun x7=>
 NilW none flt fun p8=>
 LdW none (shInt .u64) h7 (Addr.add p8 1) fun x8=>
 ((0:Int)<=x8/\NilW none flt fun p9=>
 LdW none (shInt .u64) h7 (Addr.add p9 0) fun x9=>
 ((0:Int)<=x9/\JoinW1 (α1:=Int) (fun k=>
 (if neg then
 NilW none flt fun p10=>
 LdW none (shInt .u64) h7 (Addr.add p10 0) fun x10=>
 ((0:Int)<=x10/\NilW none flt fun p11=>
 LdW none (shInt .u64) h7 (Addr.add p11 1) fun x11=>
 ((0:Int)<=x11/\k (bitsI .or .u64 (bitsI .or .u64 (bitsI .and .u64 mantissa6 (IntKind.wrap .u64 ((shlI .u64 (1:Int) x6)-(1:Int)))) (shlI .u64 (IntKind.wrap .u64 (bitsI .and .i64 (IntKind.wrap .i64 (exp6-x7)) (IntKind.wrap .i64 ((shlI .i64 (1:Int) x8)-(1:Int))))) x9)) (shlI .u64 (shlI .u64 (1:Int) x10) x11)) h7))
 else
 k (bitsI .or .u64 (bitsI .and .u64 mantissa6 (IntKind.wrap .u64 ((shlI .u64 (1:Int) x6)-(1:Int)))) (shlI .u64 (IntKind.wrap .u64 (bitsI .and .i64 (IntKind.wrap .i64 (exp6-x7)) (IntKind.wrap .i64 ((shlI .i64 (1:Int) x8)-(1:Int))))) x9)) h7))
 (fun bits h8=>
 SemV none P (binS .eql 211 (.tmp 182) (.global 6) (yP flt) (yP (some ⟨6,0,none⟩))) zae h8 fun x10=>
 (if x10 then
 SemE P (Extern.MathFloatBits.float32frombits #[(.int .u32 (IntKind.wrap .u32 bits))]) (shFlt .f32) (fun r h9=>
 SemV none P (convert 120 48 (.float .f32 r)) (shFlt .f64) h9 fun x11=>
 EncW zai err.v fun e=>
 Q x11 e h9) h8
 else
 SemE P (Extern.MathFloatBits.float64frombits #[(.int .u64 bits)]) (shFlt .f64) (fun r h9=>
 EncW zai err.v fun e=>
 Q r e h9) h8))))))))))) mantissa3 exp2 h3))) mantissa2 exp1 h2)))) mantissa (IntKind.wrap .i64 (exp+(IntKind.wrap .i64 x3))) h)
def zes (P:Program) (b:Option Addr) (s:ByteArray) (Q:(Bool->(Hp->Prop))) (h:Hp):Prop:=
 NilW none b fun p=>
 StW h (Addr.add p 802) [(.bool false)] (fun h1=>
 NilW none b fun p1=>
 StW h1 (Addr.add p1 803) [(.bool false)] (fun h2=>
 (if (decide ((0:Int)>=(((ByteArray.size s):Nat):Int)))=true then
 Q false h2
 else
 (((0:Int)<=(0:Int)/\(0:Int)<(((ByteArray.size s):Nat):Int))/\JoinW1 (α1:=Int) (fun k=>
 (if ((((UInt8.toNat (List.getD s.data.toList 0 0)):Nat):Int)==(43:Int))=true then
 k (1:Int) h2
 else
 (if ((((UInt8.toNat (List.getD s.data.toList 0 0)):Nat):Int)==(45:Int))=true then
 NilW none b fun p2=>
 StW h2 (Addr.add p2 802) [(.bool true)] (fun h3=>
 k (1:Int) h3)
 else
 k (0:Int) h2)))
 (fun i h3=>
 JoinW3 (α1:=Int) (α2:=Bool) (α3:=Bool) (fun k=>
 LoopW3 (α1:=Int) (α2:=Bool) (α3:=Bool) (fun again i1 sawdot sawdigits h4=>
 (if (decide (i1<(((ByteArray.size s):Nat):Int)))=true then
 JoinW2 (α1:=Bool) (α2:=Bool) (fun k1=>
 (((0:Int)<=i1/\i1<(((ByteArray.size s):Nat):Int))/\(if ((((UInt8.toNat (List.getD s.data.toList (Int.toNat i1) 0)):Nat):Int)==(95:Int))=true then
 k1 sawdot sawdigits h4
 else
 (((0:Int)<=i1/\i1<(((ByteArray.size s):Nat):Int))/\(if ((((UInt8.toNat (List.getD s.data.toList (Int.toNat i1) 0)):Nat):Int)==(46:Int))=true then
 (if sawdot then
 Q false h4
 else
 NilW none b fun p2=>
 yLi h4 p2 800 fun x=>
 NilW none b fun p3=>
 StW h4 (Addr.add p3 801) [(yI x)] (fun h5=>
 k1 true sawdigits h5))
 else
 (((0:Int)<=i1/\i1<(((ByteArray.size s):Nat):Int))/\(((decide ((48:Int)<=(((UInt8.toNat (List.getD s.data.toList (Int.toNat i1) 0)):Nat):Int)))=true->((0:Int)<=i1/\i1<(((ByteArray.size s):Nat):Int)))/\LetW ((decide ((48:Int)<=(((UInt8.toNat (List.getD s.data.toList (Int.toNat i1) 0)):Nat):Int)))&&(decide ((((UInt8.toNat (List.getD s.data.toList (Int.toNat i1) 0)):Nat):Int)<=(57:Int)))) fun y=>
 (if y then
 (((0:Int)<=i1/\i1<(((ByteArray.size s):Nat):Int))/\NilW (some ((((UInt8.toNat (List.getD s.data.toList (Int.toNat i1) 0)):Nat):Int)==(48:Int))) b fun p2=>
 LdW (some ((((UInt8.toNat (List.getD s.data.toList (Int.toNat i1) 0)):Nat):Int)==(48:Int))) yH h4 (Addr.add p2 800) fun x=>
 LetW (((((UInt8.toNat (List.getD s.data.toList (Int.toNat i1) 0)):Nat):Int)==(48:Int))&&(x==(0:Int))) fun y1=>
 (if y1 then
 NilW none b fun p3=>
 yLi h4 p3 801 fun x1=>
 NilW none b fun p4=>
 StW h4 (Addr.add p4 801) [(yI (IntKind.wrap .i64 (x1-(1:Int))))] (fun h5=>
 k1 sawdot true h5)
 else
 NilW none b fun p3=>
 yLi h4 p3 800 fun x1=>
 (if decide (x1<(800:Int)) then
 NilW none b fun p4=>
 yLi h4 p4 800 fun x2=>
 (((0:Int)<=i1/\i1<(((ByteArray.size s):Nat):Int))/\NilW none b fun p5=>
 (((0:Int)<=x2/\x2<(800:Int))/\StW h4 (Addr.add (Addr.add p5 0) ((Int.toNat x2)*1)) [(.int .u8 (((UInt8.toNat (List.getD s.data.toList (Int.toNat i1) 0)):Nat):Int))] (fun h5=>
 NilW none b fun p6=>
 yLi h5 p6 800 fun x3=>
 NilW none b fun p7=>
 StW h5 (Addr.add p7 800) [(yI (IntKind.wrap .i64 (x3+(1:Int))))] (fun h6=>
 k1 sawdot true h6))))
 else
 (((0:Int)<=i1/\i1<(((ByteArray.size s):Nat):Int))/\(if ((((UInt8.toNat (List.getD s.data.toList (Int.toNat i1) 0)):Nat):Int) !=(48:Int))=true then
 NilW none b fun p4=>
 StW h4 (Addr.add p4 803) [(.bool true)] (fun h5=>
 k1 sawdot true h5)
 else
 k1 sawdot true h4)))))
 else
 k i1 sawdot sawdigits h4))))))))
 (fun sawdot1 sawdigits1 h5=>
 again (IntKind.wrap .i64 (i1+(1:Int))) sawdot1 sawdigits1 h5)
 else
 k i1 sawdot sawdigits h4)) i false false h3)
 (fun i1 sawdot sawdigits h4=>
 (if (!sawdigits)=true then
 Q false h4
 else
 JoinW0 (fun k=>
 (if (!sawdot)=true then
 NilW none b fun p2=>
 yLi h4 p2 800 fun x=>
 NilW none b fun p3=>
 StW h4 (Addr.add p3 801) [(yI x)] (fun h5=>
 k h5)
 else
 k h4))
 (fun h5=>
 (((decide (i1<(((ByteArray.size s):Nat):Int)))=true->((0:Int)<=i1/\i1<(((ByteArray.size s):Nat):Int)))/\EffC (some (decide (i1<(((ByteArray.size s):Nat):Int)))) (CallT P zaf [(.int .u8 (((UInt8.toNat (List.getD s.data.toList (Int.toNat i1) 0)):Nat):Int))] (shInt .u8)) (fun r h6=>
 LetW ((decide (i1<(((ByteArray.size s):Nat):Int)))&&(r==(101:Int))) fun y=>
 (if y then
 (if (decide ((IntKind.wrap .i64 (i1+(1:Int)))>=(((ByteArray.size s):Nat):Int)))=true then
 Q false h6
 else
 (((0:Int)<=(IntKind.wrap .i64 (i1+(1:Int)))/\(IntKind.wrap .i64 (i1+(1:Int)))<(((ByteArray.size s):Nat):Int))/\JoinW2 (α1:=Int) (α2:=Int) (fun k=>
 (if ((((UInt8.toNat (List.getD s.data.toList (Int.toNat (IntKind.wrap .i64 (i1+(1:Int)))) 0)):Nat):Int)==(43:Int))=true then
 k (IntKind.wrap .i64 ((IntKind.wrap .i64 (i1+(1:Int)))+(1:Int))) (1:Int) h6
 else
 (if ((((UInt8.toNat (List.getD s.data.toList (Int.toNat (IntKind.wrap .i64 (i1+(1:Int)))) 0)):Nat):Int)==(45:Int))=true then
 k (IntKind.wrap .i64 ((IntKind.wrap .i64 (i1+(1:Int)))+(1:Int))) (-1:Int) h6
 else
 k (IntKind.wrap .i64 (i1+(1:Int))) (1:Int) h6)))
 (fun i2 esign h7=>
 (((!(decide (i2>=(((ByteArray.size s):Nat):Int))))=true->((0:Int)<=i2/\i2<(((ByteArray.size s):Nat):Int)))/\LetW ((decide (i2>=(((ByteArray.size s):Nat):Int))) || (decide ((((UInt8.toNat (List.getD s.data.toList (Int.toNat i2) 0)):Nat):Int)<(48:Int)))) fun y1=>
 (((!y1)=true->((0:Int)<=i2/\i2<(((ByteArray.size s):Nat):Int)))/\LetW (y1 || (decide ((((UInt8.toNat (List.getD s.data.toList (Int.toNat i2) 0)):Nat):Int)>(57:Int)))) fun y2=>
 (if y2 then
 Q false h7
 else
 LoopW2 (α1:=Int) (α2:=Int) (fun again i3 e h8=>
 (((decide (i3<(((ByteArray.size s):Nat):Int)))=true->((0:Int)<=i3/\i3<(((ByteArray.size s):Nat):Int)))/\((((decide (i3<(((ByteArray.size s):Nat):Int)))&&(decide ((48:Int)<=(((UInt8.toNat (List.getD s.data.toList (Int.toNat i3) 0)):Nat):Int))))=true->((0:Int)<=i3/\i3<(((ByteArray.size s):Nat):Int)))/\LetW ((decide ((48:Int)<=(((UInt8.toNat (List.getD s.data.toList (Int.toNat i3) 0)):Nat):Int)))&&(decide ((((UInt8.toNat (List.getD s.data.toList (Int.toNat i3) 0)):Nat):Int)<=(57:Int)))) fun y3=>
 ((((decide (i3<(((ByteArray.size s):Nat):Int)))&&(!y3))=true->((0:Int)<=i3/\i3<(((ByteArray.size s):Nat):Int)))/\LetW (y3 || ((((UInt8.toNat (List.getD s.data.toList (Int.toNat i3) 0)):Nat):Int)==(95:Int))) fun y4=>
 LetW ((decide (i3<(((ByteArray.size s):Nat):Int)))&&y4) fun y5=>
 (if y5 then
 JoinW1 (α1:=Int) (fun k=>
 (((0:Int)<=i3/\i3<(((ByteArray.size s):Nat):Int))/\(if ((((UInt8.toNat (List.getD s.data.toList (Int.toNat i3) 0)):Nat):Int)==(95:Int))=true then
 k e h8
 else
 (if decide (e<(10000:Int)) then
 (((0:Int)<=i3/\i3<(((ByteArray.size s):Nat):Int))/\k (IntKind.wrap .i64 ((IntKind.wrap .i64 ((IntKind.wrap .i64 (e*(10:Int)))+(IntKind.wrap .i64 (((UInt8.toNat (List.getD s.data.toList (Int.toNat i3) 0)):Nat):Int))))-(48:Int))) h8)
 else
 k e h8))))
 (fun e1 h9=>
 again (IntKind.wrap .i64 (i3+(1:Int))) e1 h9)
 else
 NilW none b fun p2=>
 yLi h8 p2 801 fun x=>
 NilW none b fun p3=>
 StW h8 (Addr.add p3 801) [(yI (IntKind.wrap .i64 (x+(IntKind.wrap .i64 (e*esign)))))] (fun h9=>
 (if (i3 !=(((ByteArray.size s):Nat):Int))=true then
 Q false h9
 else
 Q true h9))))))) i2 (0:Int) h7))))))
 else
 (if (i1 !=(((ByteArray.size s):Nat):Int))=true then
 Q false h6
 else
 Q true h6))) h5)))))))))
def zcq (P:Program) (d:Option Addr) (flt:Option Addr) (Q:(Int->(Bool->(Hp->Prop)))) (h:Hp):Prop:=
 NilW none d fun p=>
 yLi h p 800 fun x=>
 (if (x==(0:Int))=true then
 NilW none flt fun p1=>
 yLi h p1 2 fun x1=>
 NilW none flt fun p2=>
 LdW none (shInt .u64) h (Addr.add p2 0) fun x2=>
 ((0:Int)<=x2/\NilW none flt fun p3=>
 yLi h p3 2 fun x3=>
 NilW none flt fun p4=>
 LdW none (shInt .u64) h (Addr.add p4 1) fun x4=>
 ((0:Int)<=x4/\NilW none flt fun p5=>
 LdW none (shInt .u64) h (Addr.add p5 0) fun x5=>
 ((0:Int)<=x5/\NilW none d fun p6=>
 LdW none zae h (Addr.add p6 802) fun x6=>
 (if x6 then
 NilW none flt fun p7=>
 LdW none (shInt .u64) h (Addr.add p7 0) fun x7=>
 ((0:Int)<=x7/\NilW none flt fun p8=>
 LdW none (shInt .u64) h (Addr.add p8 1) fun x8=>
 ((0:Int)<=x8/\Q (bitsI .or .u64 (bitsI .or .u64 (bitsI .and .u64 (0:Int) (IntKind.wrap .u64 ((shlI .u64 (1:Int) x2)-(1:Int)))) (shlI .u64 (IntKind.wrap .u64 (bitsI .and .i64 (IntKind.wrap .i64 (x1-x3)) (IntKind.wrap .i64 ((shlI .i64 (1:Int) x4)-(1:Int))))) x5)) (shlI .u64 (shlI .u64 (1:Int) x7) x8)) false h))
 else
 Q (bitsI .or .u64 (bitsI .and .u64 (0:Int) (IntKind.wrap .u64 ((shlI .u64 (1:Int) x2)-(1:Int)))) (shlI .u64 (IntKind.wrap .u64 (bitsI .and .i64 (IntKind.wrap .i64 (x1-x3)) (IntKind.wrap .i64 ((shlI .i64 (1:Int) x4)-(1:Int))))) x5)) false h))))
 else
 NilW none d fun p1=>
 yLi h p1 801 fun x1=>
 (if decide (x1>(310:Int)) then
 NilW none flt fun p2=>
 LdW none (shInt .u64) h (Addr.add p2 1) fun x2=>
 ((0:Int)<=x2/\NilW none flt fun p3=>
 yLi h p3 2 fun x3=>
 NilW none flt fun p4=>
 LdW none (shInt .u64) h (Addr.add p4 0) fun x4=>
 ((0:Int)<=x4/\NilW none flt fun p5=>
 yLi h p5 2 fun x5=>
 NilW none flt fun p6=>
 LdW none (shInt .u64) h (Addr.add p6 1) fun x6=>
 ((0:Int)<=x6/\NilW none flt fun p7=>
 LdW none (shInt .u64) h (Addr.add p7 0) fun x7=>
 ((0:Int)<=x7/\NilW none d fun p8=>
 LdW none zae h (Addr.add p8 802) fun x8=>
 (if x8 then
 NilW none flt fun p9=>
 LdW none (shInt .u64) h (Addr.add p9 0) fun x9=>
 ((0:Int)<=x9/\NilW none flt fun p10=>
 LdW none (shInt .u64) h (Addr.add p10 1) fun x10=>
 ((0:Int)<=x10/\Q (bitsI .or .u64 (bitsI .or .u64 (bitsI .and .u64 (0:Int) (IntKind.wrap .u64 ((shlI .u64 (1:Int) x4)-(1:Int)))) (shlI .u64 (IntKind.wrap .u64 (bitsI .and .i64 (IntKind.wrap .i64 ((IntKind.wrap .i64 ((IntKind.wrap .i64 ((shlI .i64 (1:Int) x2)-(1:Int)))+x3))-x5)) (IntKind.wrap .i64 ((shlI .i64 (1:Int) x6)-(1:Int))))) x7)) (shlI .u64 (shlI .u64 (1:Int) x9) x10)) true h))
 else
 Q (bitsI .or .u64 (bitsI .and .u64 (0:Int) (IntKind.wrap .u64 ((shlI .u64 (1:Int) x4)-(1:Int)))) (shlI .u64 (IntKind.wrap .u64 (bitsI .and .i64 (IntKind.wrap .i64 ((IntKind.wrap .i64 ((IntKind.wrap .i64 ((shlI .i64 (1:Int) x2)-(1:Int)))+x3))-x5)) (IntKind.wrap .i64 ((shlI .i64 (1:Int) x6)-(1:Int))))) x7)) true h)))))
 else
 NilW none d fun p2=>
 yLi h p2 801 fun x2=>
 (if decide (x2<(-330:Int)) then
 NilW none flt fun p3=>
 yLi h p3 2 fun x3=>
 NilW none flt fun p4=>
 LdW none (shInt .u64) h (Addr.add p4 0) fun x4=>
 ((0:Int)<=x4/\NilW none flt fun p5=>
 yLi h p5 2 fun x5=>
 NilW none flt fun p6=>
 LdW none (shInt .u64) h (Addr.add p6 1) fun x6=>
 ((0:Int)<=x6/\NilW none flt fun p7=>
 LdW none (shInt .u64) h (Addr.add p7 0) fun x7=>
 ((0:Int)<=x7/\NilW none d fun p8=>
 LdW none zae h (Addr.add p8 802) fun x8=>
 (if x8 then
 NilW none flt fun p9=>
 LdW none (shInt .u64) h (Addr.add p9 0) fun x9=>
 ((0:Int)<=x9/\NilW none flt fun p10=>
 LdW none (shInt .u64) h (Addr.add p10 1) fun x10=>
 ((0:Int)<=x10/\Q (bitsI .or .u64 (bitsI .or .u64 (bitsI .and .u64 (0:Int) (IntKind.wrap .u64 ((shlI .u64 (1:Int) x4)-(1:Int)))) (shlI .u64 (IntKind.wrap .u64 (bitsI .and .i64 (IntKind.wrap .i64 (x3-x5)) (IntKind.wrap .i64 ((shlI .i64 (1:Int) x6)-(1:Int))))) x7)) (shlI .u64 (shlI .u64 (1:Int) x9) x10)) false h))
 else
 Q (bitsI .or .u64 (bitsI .and .u64 (0:Int) (IntKind.wrap .u64 ((shlI .u64 (1:Int) x4)-(1:Int)))) (shlI .u64 (IntKind.wrap .u64 (bitsI .and .i64 (IntKind.wrap .i64 (x3-x5)) (IntKind.wrap .i64 ((shlI .i64 (1:Int) x6)-(1:Int))))) x7)) false h))))
 else
 LoopW1 (α1:=Int) (fun again exp h1=>
 NilW none d fun p3=>
 yLi h1 p3 801 fun x3=>
 (if decide (x3>(0:Int)) then
 JoinW1 (α1:=Int) (fun k=>
 NilW none d fun p4=>
 yLi h1 p4 801 fun x4=>
 LdW none shSl h1 ⟨11,0,none⟩ fun x5=>
 (if decide (x4>=(x5.len:Int)) then
 k (27:Int) h1
 else
 LdW none shSl h1 ⟨11,0,none⟩ fun x6=>
 NilW none d fun p5=>
 yLi h1 p5 801 fun x7=>
 ((InB x6.base x6.len x7)/\LdW none yH h1 (sat x6.base 1 x7) fun x8=>
 k x8 h1)))
 (fun n h2=>
 Call0 P zar [(yP d),(yI (IntKind.wrap .i64 ((0:Int)-n)))] (fun h3=>
 again (IntKind.wrap .i64 (exp+n)) h3) h2)
 else
 LoopW1 (α1:=Int) (fun again1 exp1 h2=>
 NilW none d fun p4=>
 yLi h2 p4 801 fun x4=>
 NilW (some (!(decide (x4<(0:Int))))) d fun p5=>
 LdW (some (!(decide (x4<(0:Int))))) yH h2 (Addr.add p5 801) fun x5=>
 NilW (some ((!(decide (x4<(0:Int))))&&(x5==(0:Int)))) d fun p6=>
 ((((!(decide (x4<(0:Int))))&&(x5==(0:Int)))=true->((0:Int)<=(0:Int)/\(0:Int)<(800:Int)))/\LdW (some ((!(decide (x4<(0:Int))))&&(x5==(0:Int)))) (shInt .u8) h2 (Addr.add (Addr.add p6 0) 0) fun x6=>
 LetW ((x5==(0:Int))&&(decide (x6<(53:Int)))) fun y=>
 LetW ((decide (x4<(0:Int))) || y) fun y1=>
 (if y1 then
 JoinW1 (α1:=Int) (fun k=>
 NilW none d fun p7=>
 yLi h2 p7 801 fun x7=>
 LdW none shSl h2 ⟨11,0,none⟩ fun x8=>
 (if (decide ((IntKind.wrap .i64 ((0:Int)-x7))>=(x8.len:Int)))=true then
 k (27:Int) h2
 else
 LdW none shSl h2 ⟨11,0,none⟩ fun x9=>
 NilW none d fun p8=>
 yLi h2 p8 801 fun x10=>
 ((InB x9.base x9.len (IntKind.wrap .i64 ((0:Int)-x10)))/\LdW none yH h2 (sat x9.base 1 (IntKind.wrap .i64 ((0:Int)-x10))) fun x11=>
 k x11 h2)))
 (fun n h3=>
 Call0 P zar [(yP d),(yI n)] (fun h4=>
 again1 (IntKind.wrap .i64 (exp1-n)) h4) h3)
 else
 JoinW1 (α1:=Int) (fun k=>
 NilW none flt fun p7=>
 yLi h2 p7 2 fun x7=>
 (if (decide ((IntKind.wrap .i64 (exp1-(1:Int)))<(IntKind.wrap .i64 (x7+(1:Int)))))=true then
 NilW none flt fun p8=>
 yLi h2 p8 2 fun x8=>
 Call0 P zar [(yP d),(yI (IntKind.wrap .i64 ((0:Int)-(IntKind.wrap .i64 ((IntKind.wrap .i64 (x8+(1:Int)))-(IntKind.wrap .i64 (exp1-(1:Int))))))))] (fun h3=>
 k (IntKind.wrap .i64 ((IntKind.wrap .i64 (exp1-(1:Int)))+(IntKind.wrap .i64 ((IntKind.wrap .i64 (x8+(1:Int)))-(IntKind.wrap .i64 (exp1-(1:Int))))))) h3) h2
 else
 k (IntKind.wrap .i64 (exp1-(1:Int))) h2))
 (fun exp2 h3=>
 NilW none flt fun p7=>
 yLi h3 p7 2 fun x7=>
 NilW none flt fun p8=>
 LdW none (shInt .u64) h3 (Addr.add p8 1) fun x8=>
 ((0:Int)<=x8/\(if (decide ((IntKind.wrap .i64 (exp2-x7))>=(IntKind.wrap .i64 ((shlI .i64 (1:Int) x8)-(1:Int)))))=true then
 NilW none flt fun p9=>
 LdW none (shInt .u64) h3 (Addr.add p9 1) fun x9=>
 ((0:Int)<=x9/\NilW none flt fun p10=>
 yLi h3 p10 2 fun x10=>
 NilW none flt fun p11=>
 LdW none (shInt .u64) h3 (Addr.add p11 0) fun x11=>
 ((0:Int)<=x11/\NilW none flt fun p12=>
 yLi h3 p12 2 fun x12=>
 NilW none flt fun p13=>
 LdW none (shInt .u64) h3 (Addr.add p13 1) fun x13=>
 ((0:Int)<=x13/\NilW none flt fun p14=>
 LdW none (shInt .u64) h3 (Addr.add p14 0) fun x14=>
 ((0:Int)<=x14/\NilW none d fun p15=>
 LdW none zae h3 (Addr.add p15 802) fun x15=>
 (if x15 then
 NilW none flt fun p16=>
 LdW none (shInt .u64) h3 (Addr.add p16 0) fun x16=>
 ((0:Int)<=x16/\NilW none flt fun p17=>
 LdW none (shInt .u64) h3 (Addr.add p17 1) fun x17=>
 ((0:Int)<=x17/\Q (bitsI .or .u64 (bitsI .or .u64 (bitsI .and .u64 (0:Int) (IntKind.wrap .u64 ((shlI .u64 (1:Int) x11)-(1:Int)))) (shlI .u64 (IntKind.wrap .u64 (bitsI .and .i64 (IntKind.wrap .i64 ((IntKind.wrap .i64 ((IntKind.wrap .i64 ((shlI .i64 (1:Int) x9)-(1:Int)))+x10))-x12)) (IntKind.wrap .i64 ((shlI .i64 (1:Int) x13)-(1:Int))))) x14)) (shlI .u64 (shlI .u64 (1:Int) x16) x17)) true h3))
 else
 Q (bitsI .or .u64 (bitsI .and .u64 (0:Int) (IntKind.wrap .u64 ((shlI .u64 (1:Int) x11)-(1:Int)))) (shlI .u64 (IntKind.wrap .u64 (bitsI .and .i64 (IntKind.wrap .i64 ((IntKind.wrap .i64 ((IntKind.wrap .i64 ((shlI .i64 (1:Int) x9)-(1:Int)))+x10))-x12)) (IntKind.wrap .i64 ((shlI .i64 (1:Int) x13)-(1:Int))))) x14)) true h3)))))
 else
 NilW none flt fun p9=>
 LdW none (shInt .u64) h3 (Addr.add p9 0) fun x9=>
 Call0 P zar [(yP d),(yI (IntKind.wrap .i64 (IntKind.wrap .u64 ((1:Int)+x9))))] (fun h4=>
 CallT P zdy [(yP d)] (shInt .u64) (fun r h5=>
 JoinW2 (α1:=Int) (α2:=Int) (fun k=>
 NilW none flt fun p10=>
 LdW none (shInt .u64) h5 (Addr.add p10 0) fun x10=>
 ((0:Int)<=x10/\(if (r==(shlI .u64 (2:Int) x10))=true then
 ((0:Int)<=(1:Int)/\NilW none flt fun p11=>
 yLi h5 p11 2 fun x11=>
 NilW none flt fun p12=>
 LdW none (shInt .u64) h5 (Addr.add p12 1) fun x12=>
 ((0:Int)<=x12/\(if (decide ((IntKind.wrap .i64 ((IntKind.wrap .i64 (exp2+(1:Int)))-x11))>=(IntKind.wrap .i64 ((shlI .i64 (1:Int) x12)-(1:Int)))))=true then
 NilW none flt fun p13=>
 LdW none (shInt .u64) h5 (Addr.add p13 1) fun x13=>
 ((0:Int)<=x13/\NilW none flt fun p14=>
 yLi h5 p14 2 fun x14=>
 NilW none flt fun p15=>
 LdW none (shInt .u64) h5 (Addr.add p15 0) fun x15=>
 ((0:Int)<=x15/\NilW none flt fun p16=>
 yLi h5 p16 2 fun x16=>
 NilW none flt fun p17=>
 LdW none (shInt .u64) h5 (Addr.add p17 1) fun x17=>
 ((0:Int)<=x17/\NilW none flt fun p18=>
 LdW none (shInt .u64) h5 (Addr.add p18 0) fun x18=>
 ((0:Int)<=x18/\NilW none d fun p19=>
 LdW none zae h5 (Addr.add p19 802) fun x19=>
 (if x19 then
 NilW none flt fun p20=>
 LdW none (shInt .u64) h5 (Addr.add p20 0) fun x20=>
 ((0:Int)<=x20/\NilW none flt fun p21=>
 LdW none (shInt .u64) h5 (Addr.add p21 1) fun x21=>
 ((0:Int)<=x21/\Q (bitsI .or .u64 (bitsI .or .u64 (bitsI .and .u64 (0:Int) (IntKind.wrap .u64 ((shlI .u64 (1:Int) x15)-(1:Int)))) (shlI .u64 (IntKind.wrap .u64 (bitsI .and .i64 (IntKind.wrap .i64 ((IntKind.wrap .i64 ((IntKind.wrap .i64 ((shlI .i64 (1:Int) x13)-(1:Int)))+x14))-x16)) (IntKind.wrap .i64 ((shlI .i64 (1:Int) x17)-(1:Int))))) x18)) (shlI .u64 (shlI .u64 (1:Int) x20) x21)) true h5))
 else
 Q (bitsI .or .u64 (bitsI .and .u64 (0:Int) (IntKind.wrap .u64 ((shlI .u64 (1:Int) x15)-(1:Int)))) (shlI .u64 (IntKind.wrap .u64 (bitsI .and .i64 (IntKind.wrap .i64 ((IntKind.wrap .i64 ((IntKind.wrap .i64 ((shlI .i64 (1:Int) x13)-(1:Int)))+x14))-x16)) (IntKind.wrap .i64 ((shlI .i64 (1:Int) x17)-(1:Int))))) x18)) true h5)))))
 else
 k (IntKind.wrap .i64 (exp2+(1:Int))) (shrI .u64 r (1:Int)) h5)))
 else
 k exp2 r h5)))
 (fun exp3 mant h6=>
 JoinW1 (α1:=Int) (fun k=>
 NilW none flt fun p10=>
 LdW none (shInt .u64) h6 (Addr.add p10 0) fun x10=>
 ((0:Int)<=x10/\(if ((bitsI .and .u64 mant (shlI .u64 (1:Int) x10))==(0:Int))=true then
 NilW none flt fun p11=>
 yLi h6 p11 2 fun x11=>
 k x11 h6
 else
 k exp3 h6)))
 (fun exp4 h7=>
 NilW none flt fun p10=>
 LdW none (shInt .u64) h7 (Addr.add p10 0) fun x10=>
 ((0:Int)<=x10/\NilW none flt fun p11=>
 yLi h7 p11 2 fun x11=>
 NilW none flt fun p12=>
 LdW none (shInt .u64) h7 (Addr.add p12 1) fun x12=>
 ((0:Int)<=x12/\NilW none flt fun p13=>
 LdW none (shInt .u64) h7 (Addr.add p13 0) fun x13=>
 ((0:Int)<=x13/\NilW none d fun p14=>
 LdW none zae h7 (Addr.add p14 802) fun x14=>
 (if x14 then
 NilW none flt fun p15=>
 LdW none (shInt .u64) h7 (Addr.add p15 0) fun x15=>
 ((0:Int)<=x15/\NilW none flt fun p16=>
 LdW none (shInt .u64) h7 (Addr.add p16 1) fun x16=>
 ((0:Int)<=x16/\Q (bitsI .or .u64 (bitsI .or .u64 (bitsI .and .u64 mant (IntKind.wrap .u64 ((shlI .u64 (1:Int) x10)-(1:Int)))) (shlI .u64 (IntKind.wrap .u64 (bitsI .and .i64 (IntKind.wrap .i64 (exp4-x11)) (IntKind.wrap .i64 ((shlI .i64 (1:Int) x12)-(1:Int))))) x13)) (shlI .u64 (shlI .u64 (1:Int) x15) x16)) false h7))
 else
 Q (bitsI .or .u64 (bitsI .and .u64 mant (IntKind.wrap .u64 ((shlI .u64 (1:Int) x10)-(1:Int)))) (shlI .u64 (IntKind.wrap .u64 (bitsI .and .i64 (IntKind.wrap .i64 (exp4-x11)) (IntKind.wrap .i64 ((shlI .i64 (1:Int) x12)-(1:Int))))) x13)) false h7))))))) h4) h3)))))) exp h1)) (0:Int) h)))
def zbl (P:Program) (b:Bool) (Q:(Int->(Hp->Prop))) (h:Hp):Prop:=
 (if b then
 Q (1:Int) h
 else
 Q (0:Int) h)
def zet (P:Program) (mantissa:Int) (exp:Int) (neg:Bool) (Q:(Nat->(Bool->(Hp->Prop)))) (h:Hp):Prop:=
 LdW none (shInt .u64) h (Addr.add ⟨7,0,none⟩ 0) fun x=>
 ((0:Int)<=x/\(if ((shrI .u64 mantissa x) !=(0:Int))=true then
 Q 0 false h
 else
 SemV none P (convert 51 48 (.int .u64 mantissa)) (shFlt .f64) h fun x1=>
 JoinW1 (α1:=Nat) (fun k=>
 (if neg then
 k (Op.negFloat .f64 x1) h
 else
 k x1 h))
 (fun f h1=>
 (if (exp==(0:Int))=true then
 Q f true h1
 else
 LetW ((decide (exp>(0:Int)))&&(decide (exp<=(37:Int)))) fun y=>
 (if y then
 JoinW2 (α1:=Int) (α2:=Nat) (fun k=>
 (if decide (exp>(22:Int)) then
 LdW none shSl h1 ⟨12,0,none⟩ fun x2=>
 ((InB x2.base x2.len (IntKind.wrap .i64 (exp-(22:Int))))/\LdW none (shFlt .f64) h1 (sat x2.base 1 (IntKind.wrap .i64 (exp-(22:Int)))) fun x3=>
 SemE P (binS .mul 48 (.tmp 31) (.tmp 36) (.float .f64 f) (.float .f64 x3)) (shFlt .f64) (fun r h2=>
 k (22:Int) r h2) h1)
 else
 k exp f h1))
 (fun exp1 f1 h2=>
 SemV none P (binS .gtr 48 (.tmp 38) (.const (.float .f64 4831355200913801216)) (.float .f64 f1) (.float .f64 4831355200913801216)) zae h2 fun x2=>
 SemV (some (!x2)) P (binS .lss 48 (.tmp 41) (.const (.float .f64 14054727237768577024)) (.float .f64 f1) (.float .f64 14054727237768577024)) zae h2 fun x3=>
 LetW (x2 || x3) fun y1=>
 (if y1 then
 Q f1 false h2
 else
 LdW none shSl h2 ⟨12,0,none⟩ fun x4=>
 ((InB x4.base x4.len exp1)/\LdW none (shFlt .f64) h2 (sat x4.base 1 exp1) fun x5=>
 SemE P (binS .mul 48 (.tmp 44) (.tmp 48) (.float .f64 f1) (.float .f64 x5)) (shFlt .f64) (fun r h3=>
 Q r true h3) h2)))
 else
 LetW ((decide (exp<(0:Int)))&&(decide (exp>=(-22:Int)))) fun y1=>
 (if y1 then
 LdW none shSl h1 ⟨12,0,none⟩ fun x2=>
 ((InB x2.base x2.len (IntKind.wrap .i64 ((0:Int)-exp)))/\LdW none (shFlt .f64) h1 (sat x2.base 1 (IntKind.wrap .i64 ((0:Int)-exp))) fun x3=>
 SemE P (binS .quo 48 (.tmp 57) (.tmp 62) (.float .f64 f) (.float .f64 x3)) (shFlt .f64) (fun r h2=>
 Q r true h2) h1)
 else
 Q f false h1))))))
def zbm (P:Program) (d:Int) (p:Int) (sign:Int) (Q:(Nat->(Leaf->(Hp->Prop)))) (h:Hp):Prop:=
 CallT P zil [(.int .u64 d)] yH (fun r h1=>
 CallT P zfp [(yI p)] yH (fun r1 h2=>
 NewW [(.int .u64 (0:Int)),(.int .u64 (0:Int)),(yI (0:Int))] (fun a h3=>
 Call0 P zdl [(yP (some a)),(yI (IntKind.wrap .i64 ((min2I (1074:Int) (IntKind.wrap .i64 ((IntKind.wrap .i64 ((53:Int)-r))-r1)))-(IntKind.wrap .i64 ((64:Int)-r))))),(yI p),(yI r1)] (fun h4=>
 yLi h4 a 2 fun x=>
 (if decide (x>=(64:Int)) then
 SemE P (Extern.MathFloatBits.float64frombits #[(.int .u64 (bitsI .or .u64 sign (0:Int)))]) (shFlt .f64) (fun r2 h5=>
 EncW zai .nilIface fun e=>
 Q r2 e h5) h4
 else
 ((0:Int)<=(IntKind.wrap .i64 ((64:Int)-r))/\CallT P zbx [(.int .u64 (shlI .u64 d (IntKind.wrap .i64 ((64:Int)-r)))),(yP (some a))] (shInt .u64) (fun r2 h5=>
 CallT P znx [(.int .u64 (9007199254740992:Int))] (shInt .u64) (fun r3 h6=>
 CallT P zfo [(.bool (decide (r2>=r3)))] yH (fun r4 h7=>
 ((0:Int)<=r4/\CallT P zdf [(.int .u64 (bitsI .or .u64 (shrI .u64 r2 r4) (bitsI .and .u64 r2 (1:Int))))] (shInt .u64) (fun r5 h8=>
 Call2 P zho [(.int .u64 (bitsI .or .u64 sign r5)),(yI (IntKind.wrap .i64 ((0:Int)-(IntKind.wrap .i64 ((min2I (1074:Int) (IntKind.wrap .i64 ((IntKind.wrap .i64 ((53:Int)-r))-r1)))-r4)))))] (shFlt .f64) zai (fun r6 r7 h9=>
 EncW zai r7.v fun e=>
 Q r6 e h9) h8) h7)) h6) h5) h4))) h3) h2) h1) h
def zlt (P:Program) (x:Int) (Q:(Int->(Hp->Prop))) (h:Hp):Prop:=
 (if (x==(0:Int))=true then
 Q (64:Int) h
 else
 ((0:Int)<=(58:Int)/\(((0:Int)<=(shrI .u64 (IntKind.wrap .u64 ((bitsI .and .u64 x (IntKind.wrap .u64 ((0:Int)-x)))*(285870213051353865:Int))) (58:Int))/\(shrI .u64 (IntKind.wrap .u64 ((bitsI .and .u64 x (IntKind.wrap .u64 ((0:Int)-x)))*(285870213051353865:Int))) (58:Int))<(64:Int))/\LdW none (shInt .u8) h (Addr.add ⟨14,0,none⟩ ((Int.toNat (shrI .u64 (IntKind.wrap .u64 ((bitsI .and .u64 x (IntKind.wrap .u64 ((0:Int)-x)))*(285870213051353865:Int))) (58:Int)))*1)) fun x1=>
 Q (IntKind.wrap .i64 x1) h)))
def zcy (P:Program) (b:Sl) (s:ByteArray) (Q:(Bool->(Hp->Prop))) (h:Hp):Prop:=
 LoopW1 (α1:=Int) (fun again i h1=>
 (if (decide (i<(((ByteArray.size s):Nat):Int)))=true then
 (if decide (i>=(b.len:Int)) then
 Q true h1
 else
 ((InB b.base b.len i)/\LdW none (shInt .u8) h1 (sat b.base 1 i) fun x=>
 (((0:Int)<=i/\i<(((ByteArray.size s):Nat):Int))/\(if (x !=(((UInt8.toNat (List.getD s.data.toList (Int.toNat i) 0)):Nat):Int))=true then
 ((InB b.base b.len i)/\LdW none (shInt .u8) h1 (sat b.base 1 i) fun x1=>
 (((0:Int)<=i/\i<(((ByteArray.size s):Nat):Int))/\Q (decide (x1<(((UInt8.toNat (List.getD s.data.toList (Int.toNat i) 0)):Nat):Int))) h1))
 else
 again (IntKind.wrap .i64 (i+(1:Int))) h1))))
 else
 Q false h1)) (0:Int) h
def zak (P:Program) (s:ByteArray) (prefix_:ByteArray) (Q:(Int->(Hp->Prop))) (h:Hp):Prop:=
 LoopW1 (α1:=Int) (fun again i h1=>
 (if (decide (i<(min2I (((ByteArray.size prefix_):Nat):Int) (((ByteArray.size s):Nat):Int))))=true then
 (((0:Int)<=i/\i<(((ByteArray.size s):Nat):Int))/\JoinW1 (α1:=Int) (fun k=>
 LetW ((decide ((65:Int)<=(((UInt8.toNat (List.getD s.data.toList (Int.toNat i) 0)):Nat):Int)))&&(decide ((((UInt8.toNat (List.getD s.data.toList (Int.toNat i) 0)):Nat):Int)<=(90:Int)))) fun y=>
 (if y then
 k (IntKind.wrap .u8 ((((UInt8.toNat (List.getD s.data.toList (Int.toNat i) 0)):Nat):Int)+(32:Int))) h1
 else
 k (((UInt8.toNat (List.getD s.data.toList (Int.toNat i) 0)):Nat):Int) h1))
 (fun c h2=>
 (((0:Int)<=i/\i<(((ByteArray.size prefix_):Nat):Int))/\(if (c !=(((UInt8.toNat (List.getD prefix_.data.toList (Int.toNat i) 0)):Nat):Int))=true then
 Q i h2
 else
 again (IntKind.wrap .i64 (i+(1:Int))) h2))))
 else
 Q (min2I (((ByteArray.size prefix_):Nat):Int) (((ByteArray.size s):Nat):Int)) h1)) (0:Int) h
def zkp (P:Program) (sign:Int) (Q:(Nat->(Hp->Prop))) (h:Hp):Prop:=
 JoinW1 (α1:=Int) (fun k=>
 (if decide (sign>=(0:Int)) then
 k (9218868437227405312:Int) h
 else
 k (18442240474082181120:Int) h))
 (fun v h1=>
 SemE P (Extern.MathFloatBits.float64frombits #[(.int .u64 v)]) (shFlt .f64) (fun r h2=>
 Q r h2) h1)
def zqb (P:Program)  (Q:(Nat->(Hp->Prop))) (h:Hp):Prop:=
 SemE P (Extern.MathFloatBits.float64frombits #[(.int .u64 (9221120237041090561:Int))]) (shFlt .f64) (fun r h1=>
 Q r h1) h
def zbz (P:Program) (a:Option Addr) (Q:(Int->(Hp->Prop))) (h:Hp):Prop:=
 NilW none a fun p=>
 yLi h p 801 fun x=>
 (if decide (x>(20:Int)) then
 Q (18446744073709551615:Int) h
 else
 LoopW2 (α1:=Int) (α2:=Int) (fun again i n h1=>
 NilW none a fun p1=>
 yLi h1 p1 801 fun x1=>
 NilW (some (decide (i<x1))) a fun p2=>
 LdW (some (decide (i<x1))) yH h1 (Addr.add p2 800) fun x2=>
 LetW ((decide (i<x1))&&(decide (i<x2))) fun y=>
 (if y then
 NilW none a fun p3=>
 (((0:Int)<=i/\i<(800:Int))/\LdW none (shInt .u8) h1 (Addr.add (Addr.add p3 0) ((Int.toNat i)*1)) fun x3=>
 again (IntKind.wrap .i64 (i+(1:Int))) (IntKind.wrap .u64 ((IntKind.wrap .u64 (n*(10:Int)))+(IntKind.wrap .u64 (IntKind.wrap .u8 (x3-(48:Int)))))) h1)
 else
 LoopW2 (α1:=Int) (α2:=Int) (fun again1 i1 n1 h2=>
 NilW none a fun p3=>
 yLi h2 p3 801 fun x3=>
 (if decide (i1<x3) then
 again1 (IntKind.wrap .i64 (i1+(1:Int))) (IntKind.wrap .u64 (n1*(10:Int))) h2
 else
 NilW none a fun p4=>
 yLi h2 p4 801 fun x4=>
 CallT P zhw [(yP a),(yI x4)] zae (fun r h3=>
 (if r then
 Q (IntKind.wrap .u64 (n1+(1:Int))) h3
 else
 Q n1 h3)) h2)) i n h1)) (0:Int) (0:Int) h)
def zcr (P:Program) (m:Int) (e:Int) (Q:(Nat->(Leaf->(Hp->Prop)))) (h:Hp):Prop:=
 (if ((bitsI .and .u64 m (4503599627370496:Int))==(0:Int))=true then
 SemE P (Extern.MathFloatBits.float64frombits #[(.int .u64 m)]) (shFlt .f64) (fun r h1=>
 EncW zai .nilIface fun e1=>
 Q r e1 h1) h
 else
 (if decide (e>=(972:Int)) then
 SemE P (Extern.MathFloatBits.float64frombits #[(.int .u64 (bitsI .or .u64 (bitsI .and .u64 m (9223372036854775808:Int)) (9218868437227405312:Int)))]) (shFlt .f64) (fun r h1=>
 EncW zai (.iface 122 (yI (1:Int))) fun e1=>
 Q r e1 h1) h
 else
 ((0:Int)<=(52:Int)/\SemE P (Extern.MathFloatBits.float64frombits #[(.int .u64 (bitsI .or .u64 (bitsI .andNot .u64 m (4503599627370496:Int)) (shlI .u64 (IntKind.wrap .u64 (IntKind.wrap .i64 ((1075:Int)+e))) (52:Int))))]) (shFlt .f64) (fun r h1=>
 EncW zai .nilIface fun e1=>
 Q r e1 h1) h)))
def zff (P:Program) (b:Option Addr) (s:ByteArray) (Q:(Int->(Leaf->(Hp->Prop)))) (h:Hp):Prop:=
 Call0 P zle [(yP b)] (fun h1=>
 NilW none b fun p=>
 yLs h1 p 1 fun x=>
 zxf 5 x s (fun r h2=>
 NilW none b fun p1=>
 StW h2 (Addr.add p1 1) [r.v] (fun h3=>
 EncW zai .nilIface fun e=>
 Q (((ByteArray.size s):Nat):Int) e h3)) h1) h
end Lf
namespace Lf
open Go
def Ann.s (a:Ann):Ann:=.sq .tt a
def rgR (a n:Nat):List (Nat×List Nat):=(List.range' a n).map fun i=>(i,[])
def zvz :List Nat:=[]
def zwa :Ann:=.tt
def zwb :List Nat:=[]
def zwc :Ann:=(.s (.s (.s (.s (.s (.s (.s (.sq (.s (.bk (.lp [⟨false,80,3⟩] [] .tt))) (.s (.s (.s (.s (.s (.sq (.s (.bk (.lp [⟨false,137,3⟩] [] .tt))) (.sq (.s (.bk (.lp [⟨false,14,31⟩,⟨false,145,3⟩] [] .tt))) .tt)))))))))))))))
def zwx1 :List Nat:=[]
def zwy1 :Ann:=.tt
def zag1 :List Nat:=[]
def zah1 :Ann:=(.s (.s (.s (.s (.jn [⟨false,5,9⟩] [] .tt .tt)))))
def zwz1 :List Nat:=[]
def zxa1 :Ann:=(.s (.s (.s (.jn [⟨false,4,51⟩] [] .tt .tt))))
def zai1 :List Nat:=[]
def zaj1 :Ann:=(.s (.s (.s (.s (.s (.jn [⟨false,5,9⟩] [] .tt (.sq (.bj [⟨false,4,51⟩] [] (.s (.sq (.s (.bk (.lp [⟨false,4,51⟩,⟨false,7,3⟩] [] .tt))) .tt))) (.jn [⟨false,4,51⟩] [] .tt .tt))))))))
def zak1 :List Nat:=[]
def zal1 :Ann:=.tt
def zam1 :List Nat:=[]
def zan1 :Ann:=.tt
def zxb1 :List Nat:=[9]
def zxc1 :Ann:=(.s (.s (.s (.sq (.s (.bk (.lp [⟨false,21,3⟩] [9] .tt))) .tt))))
def zxd1 :List Nat:=[14]
def zxe1 :Ann:=(.s (.s (.s (.s (.s (.sq (.s (.bk (.lp [⟨false,7,31⟩,⟨false,8,9⟩,⟨false,9,3⟩] [14] (.s (.sq (.bk (.s (.s (.s (.s (.jn [] [] .tt (.sq (.s (.sq (.sq (.rg (rgR 0 13)) .tt) .tt)) .tt))))))) .tt))))) .tt))))))
def zao1 :List Nat:=[11]
def zap1 :Ann:=(.s (.s (.sq (.s (.bk (.lp [⟨false,6,3⟩,⟨false,7,3⟩] [] (.s (.sq (.bj [⟨false,6,3⟩] [] .tt) .tt))))) (.s (.sq (.s (.bk (.lp [⟨false,0,9⟩,⟨false,8,31⟩,⟨false,9,3⟩] [11] (.s (.sq (.bk (.s (.sq (.bk (.lp [⟨false,10,3⟩] [] .tt)) .tt))) .tt))))) .tt)))))
def zbw1 :List Nat:=[]
def zbx1 :Ann:=(.s (.s (.sq (.s (.bk (.lp [⟨false,5,3⟩] [] (.s (.sq (.bk (.sq (.rg (rgR 0 9)) .tt)) .tt))))) .tt)))
def zdc2 :List Nat:=[7]
def zdd2 :Ann:=(.s (.s (.sq (.s (.bk (.lp [⟨false,22,3⟩] [7] .tt))) .tt)))
def ztd1 :List Nat:=[3]
def zte1 :Ann:=.tt
def zxf1 :List Nat:=[]
def zxg1 :Ann:=.tt
def zqh1 :List Nat:=[]
def zqi1 :Ann:=.tt
def zqj1 :List Nat:=[]
def zqk1 :Ann:=.tt
def zby1 :List Nat:=[]
def zbz1 :Ann:=.tt
def zmt1 :List Nat:=[]
def zmu1 :Ann:=.tt
def zmv1 :List Nat:=[]
def zmw1 :Ann:=.tt
def zdo1 :List Nat:=[]
def zdp1 :Ann:=(.s (.s (.sq (.s (.bk (.lp [⟨false,3,9⟩,⟨false,4,3⟩] [] .tt))) .tt)))
def zca1 :List Nat:=[]
def zcb1 :Ann:=(.s (.s (.s (.s (.s (.jn [⟨false,6,9⟩] [] .tt .tt))))))
def zex1 :List Nat:=[]
def zey1 :Ann:=.tt
def zez1 :List Nat:=[]
def zfa1 :Ann:=.tt
def zdq1 :List Nat:=[]
def zdr1 :Ann:=.tt
def zaq1 :List Nat:=[]
def zar1 :Ann:=(.s (.sq (.s (.bk (.lp [⟨false,3,51⟩] [] .tt))) .tt))
def zas1 :List Nat:=[]
def zat1 :Ann:=(.s (.s (.s (.s (.sq (.bk (.lp [⟨false,5,51⟩,⟨false,6,3⟩,⟨false,7,3⟩] [] (.s (.bj [⟨false,5,51⟩,⟨false,6,3⟩,⟨false,7,3⟩] [] (.s (.s (.s (.jn [⟨false,6,3⟩] [] .tt .tt)))))))) (.s (.s (.jn [⟨false,7,3⟩] [] .tt (.s (.s (.sq (.bk (.lp [⟨false,7,3⟩,⟨false,9,3⟩] [] .tt)) .tt)))))))))))
def zxn :List Nat:=[]
def zxo :Ann:=(.s (.s (.sq (.bk (.lp [⟨false,5,51⟩,⟨false,6,51⟩] [] (.s (.bj [⟨false,5,51⟩,⟨false,6,51⟩] [] .tt)))) .tt)))
def zry :List Nat:=[]
def zrz :Ann:=.tt
def zql1 :List Nat:=[1]
def zqm1 :Ann:=(.s (.s (.s (.jn [⟨false,3,23⟩] [] .tt (.jn [⟨false,3,23⟩] [] .tt (.jn [⟨false,3,23⟩] [] .tt (.jn [⟨false,3,23⟩] [] .tt .tt)))))))
def zjb1 :List Nat:=[4,14]
def zjc1 :Ann:=(.s (.s (.s (.s (.s (.s (.s (.s (.s (.s (.jn [⟨true,14,44⟩] [14] .tt (.sq (.sq (.rg (rgR 0 10)) .tt) .tt))))))))))))
def zhs1 :List Nat:=[]
def zht1 :Ann:=.tt
def zcc1 :List Nat:=[4,10,15]
def zcd1 :Ann:=(.s (.s (.s (.sq (.s (.bk (.lp [⟨false,8,3⟩,⟨false,9,3⟩] [] (.s (.sq (.bj [⟨false,8,3⟩] [] (.sq (.rg ([(0,[])]++rgR 2 3++ [(1,[]),(5,[])])) .tt)) .tt))))) (.s (.s (.s (.s (.s (.sq (.s (.bk (.lp [⟨false,7,3⟩,⟨false,17,3⟩,⟨true,4,44⟩] [4] (.s (.sq (.bj [⟨false,7,3⟩,⟨true,4,44⟩] [4] .tt) .tt))))) (.sq (.rg (rgR 0 7++ [(7,[3,5]),(8,[]),(9,[5]),(10,[]),(11,[])])) .tt)))))))))))
def ztf1 :List Nat:=[3]
def ztg1 :Ann:=.tt
def zds1 :List Nat:=[]
def zdt1 :Ann:=.tt
def zjd1 :List Nat:=[]
def zje1 :Ann:=(.s (.s (.jn [] [] .tt (.s (.jn [] [] .tt (.s (.s (.sq (.s (.bj [] [] (.jn [⟨false,43,4⟩] [] .tt .tt))) (.s (.jn [⟨false,8,3⟩] [] .tt (.s (.s (.s (.sq (.bk (.lp [] [] .tt)) .tt))))))))))))))
def zuv :List Nat:=[]
def zuw :Ann:=(.s (.sq (.s (.s (.sq (.sq (.rg (rgR 0 12)) .tt) .tt))) .tt))
def zrh :List Nat:=[]
def zri :Ann:=.tt
def zzd :List Nat:=[]
def zze :Ann:=(.s (.s (.sq (.s (.sq (.s (.jn [⟨false,0,9⟩] [] .tt (.s (.sq (.s (.bk (.lp [⟨false,6,3⟩,⟨false,49,3⟩] [] .tt))) .tt)))) .tt)) .tt)))
def zzf :List Nat:=[]
def zzg :Ann:=.tt
def zzh :List Nat:=[]
def zzi :Ann:=(.s (.s (.sq (.s (.bk (.lp [⟨false,5,3⟩] [] (.s (.sq (.bk (.s (.s (.s (.s (.s (.s (.jn [⟨false,11,51⟩] [] .tt (.sq (.bk (.lp [⟨false,6,3⟩,⟨false,11,51⟩] [] .tt)) .tt))))))))) .tt))))) .tt)))
def zzj :List Nat:=[]
def zzk :Ann:=(.s (.s (.sq (.bk (.lp [⟨false,0,51⟩,⟨false,3,74⟩] [] .tt)) (.s (.sq (.s (.bk (.lp [⟨false,4,3⟩] [] .tt))) .tt)))))
def zpj :List Nat:=[]
def zpk :Ann:=.tt
def zss :List Nat:=[]
def zst :Ann:=(.s (.s (.s (.s (.sq (.bj [⟨false,0,9⟩,⟨false,1,3⟩] [] (.s (.s (.s (.sq (.s (.s (.sq (.bj [⟨false,0,9⟩,⟨false,1,3⟩] [] .tt) .tt))) .tt))))) (.jn [⟨false,2,3⟩] [] .tt (.s (.sq (.s (.bj [⟨false,10,51⟩] [] .tt)) (.s (.s (.s (.sq (.s (.bk (.lp [⟨false,12,4⟩,⟨false,13,51⟩,⟨false,101,3⟩] [] (.s (.s (.sq (.bj [⟨false,12,4⟩,⟨false,13,51⟩] [] (.s (.s (.sq (.bj [⟨false,12,4⟩,⟨false,16,5⟩] [] .tt) .tt)))) .tt)))))) .tt))))))))))))
def zsa :List Nat:=[]
def zsb :Ann:=.tt
def zce1 :List Nat:=[]
def zcf1 :Ann:=(.s (.s (.s (.jn [⟨false,9,51⟩] [] .tt .tt))))
def zde2 :List Nat:=[]
def zdf2 :Ann:=.tt
def zqn1 :List Nat:=[]
def zqo1 :Ann:=.tt
def zmx1 :List Nat:=[]
def zmy1 :Ann:=.tt
def zth1 :List Nat:=[1]
def zti1 :Ann:=.tt
def zdg2 :List Nat:=[]
def zdh2 :Ann:=.tt
def zcg1 :List Nat:=[3]
def zch1 :Ann:=.tt
def zzl :List Nat:=[]
def zzm :Ann:=(.s (.sq (.s (.bk (.s (.s (.jn [⟨false,9,4⟩] [] .tt (.s (.jn [⟨false,15,4⟩] [] .tt (.s (.jn [⟨false,28,4⟩] [] .tt (.s (.jn [⟨false,35,4⟩] [] .tt (.s (.s (.s (.jn [⟨false,41,4⟩] [] .tt .tt))))))))))))))) .tt))
def zln2 :List Nat:=[]
def zlo2 :Ann:=(.s (.sq (.s (.bk (.lp [⟨false,5,3⟩] [] .tt))) .tt))
def zci1 :List Nat:=[]
def zcj1 :Ann:=(.s (.s (.s (.s (.sq (.s (.bk (.lp [⟨false,19,3⟩] [] .tt))) .tt)))))
def zfb1 :List Nat:=[]
def zfc1 :Ann:=(.s (.s (.s (.s (.jn [⟨false,10,142⟩] [] .tt .tt)))))
def zck1 :List Nat:=[]
def zcl1 :Ann:=(.s (.sq (.bk (.lp [⟨false,1,3⟩] [] .tt)) .tt))
def zau1 :List Nat:=[]
def zav1 :Ann:=.tt
def zwd :List Nat:=[]
def zwe :Ann:=.tt
def zxp :List Nat:=[]
def zxq :Ann:=.tt
def zlg1 :List Nat:=[]
def zlh1 :Ann:=.tt
def zqp1 :List Nat:=[4]
def zqq1 :Ann:=.tt
def zsc :List Nat:=[]
def zsd :Ann:=.tt
def zsu :List Nat:=[]
def zsv :Ann:=(.s (.s (.s (.s (.s (.s (.s (.s (.sq (.bk (.lp [⟨false,8,3⟩,⟨false,10,3⟩] [] (.s (.bk (.jn [⟨false,8,3⟩] [] .tt .tt))))) .tt)))))))))
def zwf :List Nat:=[]
def zwg :Ann:=(.s (.s (.s (.sq (.bj [⟨false,9,51⟩,⟨false,10,3⟩,⟨false,11,3⟩,⟨false,12,3⟩] [] .tt) (.s (.sq (.rg (rgR 0 9)) (.s (.s (.jn [⟨false,14,3⟩,⟨false,15,51⟩] [] .tt (.s (.s (.s (.s (.sq (.s (.sq (.s (.s (.s (.s (.s (.sq (.rg (rgR 0 11)) (.sq (.s (.bj [⟨false,3,3⟩] [] (.jn [⟨false,149,4⟩] [] .tt (.s (.s (.s (.jn [⟨false,161,4⟩] [] .tt .tt))))))) .tt))))))) .tt)) (.jn [⟨false,3,3⟩] [] (.s (.sq (.s (.sq (.s (.bj [⟨false,3,3⟩,⟨false,24,3⟩] [] (.s (.s (.jn [⟨false,192,4⟩] [] .tt (.s (.jn [⟨false,197,4⟩] [] .tt (.sq (.jn [⟨false,3,3⟩] [] .tt .tt) .tt)))))))) (.s (.sq (.s (.s (.jn [⟨false,26,3⟩,⟨false,27,3⟩] [] (.s (.sq (.s (.s (.s (.s (.s (.sq (.rg (rgR 0 11)) .tt)))))) .tt)) .tt))) .tt)))) .tt)) (.s (.s (.s (.sq (.s (.bj [⟨false,3,3⟩] [] (.jn [⟨false,256,4⟩] [] .tt (.s (.s (.s (.jn [⟨false,273,4⟩] [] .tt (.sq (.jn [⟨false,3,3⟩] [] .tt .tt) .tt)))))))) (.sq (.rg (rgR 0 18)) .tt))))))))))))))))))))
def zsw :List Nat:=[]
def zsx :Ann:=(.s (.sq (.s (.sq (.s (.s (.s (.jn [⟨false,6,51⟩] [] .tt .tt)))) .tt)) .tt))
def zdu1 :List Nat:=[]
def zdv1 :Ann:=(.s (.s (.s (.sq (.s (.bk (.lp [⟨false,5,3⟩,⟨false,6,51⟩] [] .tt))) (.s (.sq (.bk (.lp [⟨false,7,3⟩] [] .tt)) .tt))))))
def zaw1 :List Nat:=[]
def zax1 :Ann:=(.s (.s (.s (.jn [⟨false,8,172⟩,⟨false,9,172⟩] [] .tt (.jn [⟨false,8,172⟩,⟨false,9,172⟩] [] .tt (.s (.sq (.s (.bk (.lp [⟨false,8,172⟩,⟨false,10,51⟩,⟨false,11,3⟩] [] (.s (.sq (.bj [⟨false,8,172⟩,⟨false,10,51⟩] [] .tt) .tt))))) .tt)))))))
def zpl :List Nat:=[]
def zpm :Ann:=.tt
def zxr :List Nat:=[]
def zxs :Ann:=.tt
def zqk :List Nat:=[]
def zql :Ann:=(.s (.s (.s (.jn [⟨false,0,9⟩] [] .tt (.s (.jn [⟨false,3,21⟩,⟨false,4,3⟩,⟨false,5,4⟩] [] .tt (.sq (.bk (.lp [⟨false,3,21⟩,⟨false,4,3⟩] [] (.s (.sq (.bj [⟨false,3,21⟩] [] .tt) .tt)))) .tt)))))))
def znp :List Nat:=[]
def znq :Ann:=.tt
def zay1 :List Nat:=[]
def zaz1 :Ann:=.tt
def zxt :List Nat:=[]
def zxu :Ann:=(.s (.s (.jn [⟨false,9,172⟩,⟨false,10,172⟩] [] .tt (.jn [⟨false,9,172⟩,⟨false,10,172⟩] [] .tt .tt))))
def zqr1 :List Nat:=[]
def zqs1 :Ann:=.tt
def zli1 :List Nat:=[]
def zlj1 :Ann:=.tt
def zxh1 :List Nat:=[]
def zxi1 :Ann:=.tt
def zfd1 :List Nat:=[]
def zfe1 :Ann:=.tt
def zgi1 :List Nat:=[]
def zgj1 :Ann:=(.s (.s (.sq (.sq (.rg (rgR 0 10)) .tt) .tt)))
def zxj1 :List Nat:=[]
def zxk1 :Ann:=.tt
def zhg2 :List Nat:=[]
def zhh2 :Ann:=.tt
def zzn :List Nat:=[]
def zzo :Ann:=(.s (.s (.s (.jn [⟨false,5,3⟩] [] .tt (.s (.sq (.s (.bk (.lp [⟨false,6,2⟩,⟨false,7,3⟩] [] .tt))) (.jn [⟨false,6,2⟩] [] .tt .tt)))))))
def zxv :List Nat:=[]
def zxw :Ann:=.tt
def zsy :List Nat:=[]
def zsz :Ann:=.tt
def zqm :List Nat:=[]
def zqn :Ann:=(.s (.sq (.bk (.lp [⟨false,1,51⟩,⟨false,4,3⟩] [] (.s (.bk (.s (.s (.s (.s (.s (.sq (.rg (rgR 0 15)) (.sq (.rg (rgR 0 15)) (.sq (.rg (rgR 0 15)) (.sq (.rg (rgR 0 15)) .tt))))))))))))) (.s (.jn [⟨false,4,3⟩,⟨false,12,148⟩] [] (.s (.sq (.s (.s (.s (.sq (.rg (rgR 0 15)) (.sq (.rg (rgR 0 15)) .tt))))) .tt)) (.jn [⟨false,4,3⟩,⟨false,12,148⟩] [] (.s (.sq (.s (.s (.sq (.rg (rgR 0 15)) .tt))) .tt)) .tt)))))
def zse :List Nat:=[]
def zsf :Ann:=(.s (.jn [] [] .tt (.s (.s (.jn [⟨false,1,51⟩] [] .tt (.jn [⟨false,13,3⟩] [] (.s (.sq (.s (.s (.s (.sq (.bk (.lp [⟨false,1,51⟩,⟨false,13,3⟩] [] .tt)) .tt)))) (.s (.sq (.bk (.lp [⟨false,1,51⟩,⟨false,13,3⟩] [] .tt)) .tt)))) .tt))))))
def zhu1 :List Nat:=[]
def zhv1 :Ann:=.tt
def zpn :List Nat:=[]
def zpo :Ann:=.tt
def zwh :List Nat:=[]
def zwi :Ann:=(.s (.jn [⟨false,5,3⟩,⟨false,6,5⟩] [] (.s (.sq (.s (.jn [⟨false,17,3⟩] [] .tt (.jn [⟨false,17,3⟩] [] .tt (.s (.s (.sq (.jn [⟨false,5,3⟩] [] .tt .tt) (.jn [⟨false,5,3⟩] [] .tt .tt))))))) .tt)) (.sq (.s (.bk (.jn [⟨false,75,4⟩] [] .tt (.sq (.jn [⟨false,0,74⟩] [] .tt (.s (.jn [⟨false,19,5⟩] [] .tt (.s (.jn [⟨false,0,74⟩] [] (.s (.sq (.s (.s (.s (.jn [⟨false,0,74⟩,⟨false,20,3⟩] [] .tt (.s (.bk (.lp [⟨false,0,74⟩,⟨false,114,3⟩] [] .tt))))))) .tt)) (.s (.s (.jn [⟨false,22,3⟩] [] .tt (.jn [⟨false,19,5⟩,⟨false,22,3⟩] [] .tt .tt))))))))) (.s (.sq (.jn [⟨false,0,74⟩] [] .tt (.jn [⟨false,0,74⟩] [] (.s (.sq (.s (.sq (.s (.bk (.lp [⟨false,0,74⟩,⟨false,191,3⟩] [] .tt))) (.s (.bk (.lp [⟨false,0,74⟩,⟨false,203,3⟩] [] .tt))))) .tt)) (.sq (.s (.sq (.s (.s (.s (.s (.s (.sq (.s (.bk (.lp [⟨false,0,74⟩,⟨false,240,3⟩] [] .tt))) (.sq (.s (.bk (.lp [⟨false,0,74⟩,⟨false,247,3⟩] [] .tt))) (.s (.bk (.lp [⟨false,0,74⟩,⟨false,261,3⟩] [] .tt)))))))))) .tt)) .tt))) .tt)))))) .tt)))
def zhw1 :List Nat:=[]
def zhx1 :Ann:=(.s (.jn [⟨false,0,51⟩,⟨false,2,3⟩] [] .tt (.jn [⟨false,0,51⟩,⟨false,2,3⟩] [] .tt .tt)))
def zta :List Nat:=[]
def ztb :Ann:=(.s (.sq (.s (.sq (.s (.s (.bk (.lp [⟨false,3,3⟩] [] .tt)))) .tt)) .tt))
def ztc :List Nat:=[]
def ztd :Ann:=.tt
def zpp :List Nat:=[]
def zpq :Ann:=(.bk (.s (.s (.s (.sq (.sq (.bk (.lp [⟨false,1,3⟩] [] .tt)) .tt) (.s (.sq (.sq (.bk (.lp [⟨false,1,3⟩] [] .tt)) .tt) .tt)))))))
def zmp :List Nat:=[]
def zmq :Ann:=(.s (.s (.sq (.s (.bj [⟨false,6,3⟩,⟨false,7,3⟩] [] .tt)) (.s (.s (.s (.jn [⟨false,5,3⟩,⟨false,8,51⟩,⟨false,9,51⟩,⟨false,10,3⟩] [] .tt .tt)))))))
def zff1 :List Nat:=[]
def zfg1 :Ann:=.tt
def zba1 :List Nat:=[]
def zbb1 :Ann:=(.s (.s (.s (.sq (.s (.bk (.lp [⟨false,5,172⟩,⟨false,6,3⟩] [] .tt))) .tt))))
def zcm1 :List Nat:=[]
def zcn1 :Ann:=(.s (.sq (.bk (.lp [⟨false,0,172⟩,⟨false,1,3⟩] [] .tt)) (.sq (.bk (.lp [⟨false,0,172⟩,⟨false,1,3⟩] [] .tt)) .tt)))
def zxx :List Nat:=[]
def zxy :Ann:=(.s (.s (.sq (.s (.bk (.lp [⟨false,5,3⟩] [] (.s (.sq (.bk (.sq (.sq (.rg (rgR 0 9)) .tt) (.sq (.rg (rgR 0 9)) .tt))) .tt))))) .tt)))
def zco1 :List Nat:=[]
def zcp1 :Ann:=(.s (.s (.s (.sq (.s (.bk (.lp [⟨false,5,172⟩,⟨false,6,2⟩,⟨false,7,3⟩] [] (.s (.sq (.bk (.s (.jn [⟨false,6,2⟩] [] .tt .tt))) .tt))))) .tt))))
def zbc1 :List Nat:=[]
def zbd1 :Ann:=(.s (.s (.s (.sq (.s (.bk (.lp [⟨false,5,172⟩,⟨false,6,51⟩,⟨false,7,3⟩] [] .tt))) .tt))))
def zwj :List Nat:=[]
def zwk :Ann:=(.s (.s (.s (.s (.s (.jn [⟨false,3,3⟩,⟨false,4,56⟩] [] (.s (.sq (.s (.s (.s (.s (.jn [⟨false,3,3⟩,⟨false,4,56⟩] [] .tt .tt))))) .tt)) .tt))))))
def zgk1 :List Nat:=[]
def zgl1 :Ann:=.tt
def zte :List Nat:=[]
def ztf :Ann:=.tt
def zqo :List Nat:=[]
def zqp :Ann:=.tt
def zwl :List Nat:=[]
def zwm :Ann:=.tt
def zwn :List Nat:=[]
def zwo :Ann:=.tt
def zug :List Nat:=[]
def zuh :Ann:=.tt
def ztg :List Nat:=[]
def zth :Ann:=.tt
def zwp :List Nat:=[]
def zwq :Ann:=(.s (.s (.s (.s (.s (.s (.sq (.rg (rgR 0 10)) .tt)))))))
def zod :List Nat:=[]
def zoe :Ann:=.tt
def zpc :List Nat:=[]
def zpd :Ann:=.tt
def zof :List Nat:=[]
def zog :Ann:=.tt
def zoh :List Nat:=[]
def zoi :Ann:=.tt
def zxz :List Nat:=[]
def zya :Ann:=.tt
def zzp :List Nat:=[]
def zzq :Ann:=(.sq (.bk (.lp [] [] (.sq (.sq (.rg (rgR 0 18)) .tt) .tt))) .tt)
def zti :List Nat:=[]
def ztj :Ann:=(.s (.jn [⟨false,4,3⟩] [] (.sq (.rg (rgR 0 14)) .tt) (.s (.s (.s (.sq (.s (.bk (.lp [⟨false,5,3⟩,⟨false,6,3⟩,⟨false,7,67⟩] [] (.s (.sq (.bk (.s (.s (.s (.s (.jn [] [] .tt .tt)))))) .tt))))) (.sq (.bk (.lp [⟨false,6,3⟩,⟨false,7,67⟩] [] (.s (.bk (.s (.s (.s (.jn [] [] .tt .tt)))))))) (.s (.jn [] [] .tt .tt)))))))))
def zsg :List Nat:=[]
def zsh :Ann:=(.s (.s (.s (.sq (.bj [⟨false,4,3⟩,⟨false,6,67⟩] [] (.lp [⟨false,4,3⟩,⟨false,6,67⟩] [] (.s (.sq (.bk (.sq (.s (.sq (.s (.sq (.bk (.lp [⟨false,4,3⟩,⟨false,6,67⟩] [] .tt)) .tt)) .tt)) .tt)) .tt)))) (.s (.s (.sq (.bk (.lp [⟨false,4,3⟩,⟨false,5,3⟩,⟨false,6,67⟩] [] .tt)) (.sq (.bk (.lp [⟨false,5,3⟩,⟨false,6,67⟩] [] (.s (.bk (.s (.s (.jn [⟨false,5,3⟩] [] .tt .tt))))))) .tt))))))))
def zpr :List Nat:=[]
def zps :Ann:=.tt
def zcq1 :List Nat:=[]
def zcr1 :Ann:=(.s (.sq (.bk (.lp [⟨false,0,172⟩] [] .tt)) .tt))
def zux :List Nat:=[]
def zuy :Ann:=(.s (.s (.s (.s (.sq (.s (.bk (.sq (.bk (.sq (.bj [⟨false,0,9⟩,⟨false,5,3⟩,⟨false,6,3⟩] [] (.sq (.bk (.sq (.sq (.jn [⟨false,13,4⟩] [] .tt .tt) (.sq (.jn [⟨false,16,4⟩] [] .tt .tt) (.jn [⟨false,19,4⟩] [] .tt .tt))) .tt)) (.jn [⟨false,5,3⟩] [] .tt .tt))) (.sq (.s (.jn [⟨false,7,3⟩] [] .tt .tt)) .tt))) .tt))) .tt)))))
def ztk :List Nat:=[]
def ztl :Ann:=(.s (.s (.s (.sq (.s (.bj [⟨false,4,4⟩,⟨false,7,3⟩] [] .tt)) (.s (.s (.s (.jn [⟨false,6,4⟩,⟨false,7,3⟩,⟨false,10,51⟩,⟨false,11,3⟩,⟨false,12,5⟩] [] .tt (.s (.s (.s (.s (.s (.s (.sq (.bj [⟨false,2,51⟩,⟨false,5,4⟩,⟨false,7,3⟩,⟨false,9,4⟩,⟨false,13,4⟩,⟨false,14,4⟩,⟨false,15,3⟩,⟨false,16,3⟩,⟨false,17,3⟩] [] (.lp [⟨false,2,51⟩,⟨false,5,4⟩,⟨false,7,3⟩,⟨false,9,4⟩,⟨false,13,4⟩,⟨false,14,4⟩,⟨false,15,3⟩,⟨false,16,3⟩,⟨false,17,3⟩] [] (.s (.sq (.bj [⟨false,2,51⟩,⟨false,5,4⟩,⟨false,9,4⟩,⟨false,13,4⟩,⟨false,14,4⟩,⟨false,15,3⟩,⟨false,16,3⟩,⟨false,17,3⟩] [] .tt) .tt)))) (.s (.jn [⟨false,17,3⟩] [] .tt (.jn [⟨false,16,3⟩,⟨false,17,3⟩] [] .tt (.jn [⟨false,7,3⟩,⟨false,9,4⟩,⟨false,17,3⟩] [] (.s (.sq (.s (.s (.s (.sq (.s (.bj [⟨false,7,3⟩,⟨false,19,3⟩] [] .tt)) (.s (.s (.sq (.bk (.lp [⟨false,7,3⟩,⟨false,9,4⟩,⟨false,20,3⟩] [] (.s (.sq (.bj [⟨false,9,4⟩,⟨false,20,3⟩] [] .tt) .tt)))) .tt))))))) .tt)) (.jn [⟨false,3,3⟩] [] .tt .tt))))))))))))))))))))
def zuz :List Nat:=[]
def zva :Ann:=(.s (.sq (.rg (rgR 0 12)) (.s (.s (.sq (.bk (.lp [⟨false,2,51⟩,⟨false,3,3⟩] [] .tt)) (.jn [⟨false,2,51⟩] [] .tt (.sq (.bk (.lp [⟨false,2,51⟩,⟨false,3,3⟩] [] .tt)) (.sq (.bk (.lp [⟨false,2,51⟩,⟨false,3,3⟩] [] .tt)) (.s (.s (.s (.s (.jn [⟨false,2,51⟩,⟨false,3,3⟩] [] .tt (.jn [⟨false,3,3⟩] [] .tt (.s (.jn [⟨false,2,51⟩,⟨false,3,3⟩,⟨false,17,56⟩] [] .tt (.s (.sq (.rg (rgR 0 22)) (.jn [⟨false,18,51⟩] [] (.s (.sq (.rg (rgR 0 13)) .tt)) .tt)))))))))))))))))))
def zrj :List Nat:=[]
def zrk :Ann:=(.s (.s (.s (.s (.s (.sq (.s (.bj [⟨false,5,3⟩] [] .tt)) (.s (.s (.sq (.bj [⟨false,5,3⟩,⟨false,6,4⟩,⟨false,7,4⟩] [] (.lp [⟨false,5,3⟩,⟨false,6,4⟩,⟨false,7,4⟩] [] (.s (.sq (.bj [⟨false,6,4⟩,⟨false,7,4⟩] [] (.sq (.bk (.s (.s (.s (.s (.s (.sq (.s (.s (.sq (.s (.sq (.sq (.rg (rgR 0 12)) .tt) .tt)) .tt))) .tt))))))) .tt)) .tt)))) (.s (.jn [] [] .tt (.sq (.s (.sq (.s (.s (.s (.sq (.s (.bj [⟨false,5,3⟩,⟨false,8,3⟩] [] .tt)) (.s (.s (.sq (.bk (.lp [⟨false,5,3⟩,⟨false,9,3⟩] [] (.s (.sq (.bj [⟨false,9,3⟩] [] .tt) .tt)))) .tt))))))) .tt)) .tt))))))))))))
def zmx :List Nat:=[]
def zmy :Ann:=(.s (.gd 0 (.s (.sq (.rg (rgR 0 22)) (.sq (.s (.sq (.rg (rgR 0 13)) .tt)) .tt))) (.gd 1 (.s (.sq (.rg (rgR 0 12)) (.s (.s (.s (.sq (.rg (rgR 0 22)) (.sq (.s (.sq (.rg (rgR 0 13)) .tt)) .tt))))))) (.s (.s (.s (.s (.s (.s (.sq (.bk (.lp [⟨false,6,3⟩] [] (.s (.bk (.s (.jn [⟨false,8,3⟩] [] (.sq (.rg (rgR 0 7)) (.s (.rg (rgR 0 8)))) .tt)))))) (.sq (.bk (.lp [⟨false,6,3⟩] [] (.s (.bk (.s (.jn [⟨false,9,3⟩] [] (.sq (.rg (rgR 0 8)) (.s (.rg (rgR 0 9)))) .tt)))))) (.s (.jn [⟨false,6,3⟩] [] .tt (.sq (.sq (.rg (rgR 0 13)) .tt) (.s (.s (.jn [⟨false,6,3⟩,⟨false,7,51⟩] [] (.s (.sq (.s (.s (.sq (.rg (rgR 0 13)) .tt))) .tt)) (.jn [⟨false,6,3⟩] [] .tt (.s (.s (.s (.sq (.rg (rgR 0 12)) (.s (.s (.s (.sq (.rg (rgR 0 22)) (.sq (.s (.sq (.rg (rgR 0 13)) .tt)) .tt)))))))))))))))))))))))))))
def zqq :List Nat:=[]
def zqr :Ann:=.tt
def zrl :List Nat:=[]
def zrm :Ann:=(.s (.s (.s (.jn [⟨false,6,48⟩] [] .tt (.sq (.bk (.s (.s (.s (.sq (.jn [⟨false,1,3⟩,⟨false,6,48⟩] [] .tt .tt) .tt))))) .tt)))))
def zqs :List Nat:=[]
def zqt :Ann:=.tt
def zui :List Nat:=[]
def zuj :Ann:=.tt
def znr :List Nat:=[]
def zns :Ann:=(.s (.sq (.s (.bk (.lp [⟨false,5,3⟩] [] (.s (.sq (.bk (.s (.sq (.rg (rgR 0 8)) (.sq (.sq (.rg (rgR 0 9)) .tt) .tt)))) .tt))))) .tt))
def zjd :List Nat:=[]
def zje :Ann:=(.s (.s (.sq (.s (.bk (.lp [⟨false,6,3⟩] [] (.s (.sq (.bk (.s (.jn [⟨false,7,5⟩] [] .tt .tt))) .tt))))) .tt)))
def zbe1 :List Nat:=[]
def zbf1 :Ann:=(.s (.s (.jn [⟨false,3,51⟩] [] .tt .tt)))
def zbg1 :List Nat:=[]
def zbh1 :Ann:=.tt
def zkq :List Nat:=[]
def zkr :Ann:=(.s (.s (.s (.s (.sq (.s (.bk (.lp [⟨false,3,3⟩,⟨false,4,51⟩] [] .tt))) (.sq (.bk (.lp [⟨false,3,3⟩,⟨false,4,51⟩] [] .tt)) .tt))))))
def zwr :List Nat:=[]
def zws :Ann:=.tt
end Lf
namespace Lf
open Go Go.Proofs Tryz
theorem zaj2 {α:Type _} {l:List α} {i:Nat} (h:l.length<=i):nth l i=none:=by rw [zel];exact List.getElem?_eq_none h
theorem tyS {a e:Ty} {p:Ty->Prop} (h:some a=some e) (x:p a):p e:=Option.some.inj h▸x
theorem tyN {e:Ty} {q:Prop} (h:(none:Option Ty)=some e):q:=by cases h
theorem tyAll {p:Nat->Ty->Prop} (h0:p 0 ty0) (h2:p 2 ty2) (h3:p 3 ty3) (h4:p 4 ty4) (h5:p 5 ty5) (h9:p 9 ty9) (h12:p 12 ty12) (h20:p 20 ty20) (h21:p 21 ty21) (h22:p 22 ty22) (h23:p 23 ty23) (h25:p 25 ty25) (h26:p 26 ty26) (h31:p 31 ty31) (h33:p 33 ty33) (h36:p 36 ty36) (h39:p 39 ty39) (h40:p 40 ty40) (h44:p 44 ty44) (h48:p 48 ty48) (h51:p 51 ty51) (h52:p 52 ty52) (h56:p 56 ty56) (h57:p 57 ty57) (h60:p 60 ty60) (h62:p 62 ty62) (h64:p 64 ty64) (h67:p 67 ty67) (h69:p 69 ty69) (h73:p 73 ty73) (h74:p 74 ty74) (h76:p 76 ty76) (h80:p 80 ty80) (h82:p 82 ty82) (h85:p 85 ty85) (h92:p 92 ty92) (h96:p 96 ty96) (h99:p 99 ty99) (h102:p 102 ty102) (h107:p 107 ty107) (h108:p 108 ty108) (h109:p 109 ty109) (h114:p 114 ty114) (h120:p 120 ty120) (h122:p 122 ty122) (h123:p 123 ty123) (h125:p 125 ty125) (h132:p 132 ty132) (h135:p 135 ty135) (h137:p 137 ty137) (h140:p 140 ty140) (h142:p 142 ty142) (h143:p 143 ty143) (h144:p 144 ty144) (h146:p 146 ty146) (h148:p 148 ty148) (h149:p 149 ty149) (h151:p 151 ty151) (h158:p 158 ty158) (h159:p 159 ty159) (h162:p 162 ty162) (h163:p 163 ty163) (h165:p 165 ty165) (h169:p 169 ty169) (h172:p 172 ty172) (h178:p 178 ty178) (h182:p 182 ty182) (h183:p 183 ty183) (h191:p 191 ty191) (h193:p 193 ty193) (h194:p 194 ty194) (h202:p 202 ty202) (h204:p 204 ty204) (h206:p 206 ty206) (h208:p 208 ty208) (h211:p 211 ty211) (h213:p 213 ty213) (h216:p 216 ty216) (h218:p 218 ty218) (h220:p 220 ty220) (h223:p 223 ty223) (h228:p 228 ty228) (h229:p 229 ty229) (h232:p 232 ty232) (h233:p 233 ty233) (h237:p 237 ty237) (h239:p 239 ty239) (h240:p 240 ty240) (h242:p 242 ty242):∀t e,tyAt t=some e->p t e:=by
 intro t e h
 by_cases hlt:t<256
 ·match t,hlt,h with
  | 0,_,h=>exact tyS h h0
  | 1,_,h=>exact tyN h
  | 2,_,h=>exact tyS h h2
  | 3,_,h=>exact tyS h h3
  | 4,_,h=>exact tyS h h4
  | 5,_,h=>exact tyS h h5
  | 6,_,h=>exact tyN h
  | 7,_,h=>exact tyN h
  | 8,_,h=>exact tyN h
  | 9,_,h=>exact tyS h h9
  | 10,_,h=>exact tyN h
  | 11,_,h=>exact tyN h
  | 12,_,h=>exact tyS h h12
  | 13,_,h=>exact tyN h
  | 14,_,h=>exact tyN h
  | 15,_,h=>exact tyN h
  | 16,_,h=>exact tyN h
  | 17,_,h=>exact tyN h
  | 18,_,h=>exact tyN h
  | 19,_,h=>exact tyN h
  | 20,_,h=>exact tyS h h20
  | 21,_,h=>exact tyS h h21
  | 22,_,h=>exact tyS h h22
  | 23,_,h=>exact tyS h h23
  | 24,_,h=>exact tyN h
  | 25,_,h=>exact tyS h h25
  | 26,_,h=>exact tyS h h26
  | 27,_,h=>exact tyN h
  | 28,_,h=>exact tyN h
  | 29,_,h=>exact tyN h
  | 30,_,h=>exact tyN h
  | 31,_,h=>exact tyS h h31
  | 32,_,h=>exact tyN h
  | 33,_,h=>exact tyS h h33
  | 34,_,h=>exact tyN h
  | 35,_,h=>exact tyN h
  | 36,_,h=>exact tyS h h36
  | 37,_,h=>exact tyN h
  | 38,_,h=>exact tyN h
  | 39,_,h=>exact tyS h h39
  | 40,_,h=>exact tyS h h40
  | 41,_,h=>exact tyN h
  | 42,_,h=>exact tyN h
  | 43,_,h=>exact tyN h
  | 44,_,h=>exact tyS h h44
  | 45,_,h=>exact tyN h
  | 46,_,h=>exact tyN h
  | 47,_,h=>exact tyN h
  | 48,_,h=>exact tyS h h48
  | 49,_,h=>exact tyN h
  | 50,_,h=>exact tyN h
  | 51,_,h=>exact tyS h h51
  | 52,_,h=>exact tyS h h52
  | 53,_,h=>exact tyN h
  | 54,_,h=>exact tyN h
  | 55,_,h=>exact tyN h
  | 56,_,h=>exact tyS h h56
  | 57,_,h=>exact tyS h h57
  | 58,_,h=>exact tyN h
  | 59,_,h=>exact tyN h
  | 60,_,h=>exact tyS h h60
  | 61,_,h=>exact tyN h
  | 62,_,h=>exact tyS h h62
  | 63,_,h=>exact tyN h
  | 64,_,h=>exact tyS h h64
  | 65,_,h=>exact tyN h
  | 66,_,h=>exact tyN h
  | 67,_,h=>exact tyS h h67
  | 68,_,h=>exact tyN h
  | 69,_,h=>exact tyS h h69
  | 70,_,h=>exact tyN h
  | 71,_,h=>exact tyN h
  | 72,_,h=>exact tyN h
  | 73,_,h=>exact tyS h h73
  | 74,_,h=>exact tyS h h74
  | 75,_,h=>exact tyN h
  | 76,_,h=>exact tyS h h76
  | 77,_,h=>exact tyN h
  | 78,_,h=>exact tyN h
  | 79,_,h=>exact tyN h
  | 80,_,h=>exact tyS h h80
  | 81,_,h=>exact tyN h
  | 82,_,h=>exact tyS h h82
  | 83,_,h=>exact tyN h
  | 84,_,h=>exact tyN h
  | 85,_,h=>exact tyS h h85
  | 86,_,h=>exact tyN h
  | 87,_,h=>exact tyN h
  | 88,_,h=>exact tyN h
  | 89,_,h=>exact tyN h
  | 90,_,h=>exact tyN h
  | 91,_,h=>exact tyN h
  | 92,_,h=>exact tyS h h92
  | 93,_,h=>exact tyN h
  | 94,_,h=>exact tyN h
  | 95,_,h=>exact tyN h
  | 96,_,h=>exact tyS h h96
  | 97,_,h=>exact tyN h
  | 98,_,h=>exact tyN h
  | 99,_,h=>exact tyS h h99
  | 100,_,h=>exact tyN h
  | 101,_,h=>exact tyN h
  | 102,_,h=>exact tyS h h102
  | 103,_,h=>exact tyN h
  | 104,_,h=>exact tyN h
  | 105,_,h=>exact tyN h
  | 106,_,h=>exact tyN h
  | 107,_,h=>exact tyS h h107
  | 108,_,h=>exact tyS h h108
  | 109,_,h=>exact tyS h h109
  | 110,_,h=>exact tyN h
  | 111,_,h=>exact tyN h
  | 112,_,h=>exact tyN h
  | 113,_,h=>exact tyN h
  | 114,_,h=>exact tyS h h114
  | 115,_,h=>exact tyN h
  | 116,_,h=>exact tyN h
  | 117,_,h=>exact tyN h
  | 118,_,h=>exact tyN h
  | 119,_,h=>exact tyN h
  | 120,_,h=>exact tyS h h120
  | 121,_,h=>exact tyN h
  | 122,_,h=>exact tyS h h122
  | 123,_,h=>exact tyS h h123
  | 124,_,h=>exact tyN h
  | 125,_,h=>exact tyS h h125
  | 126,_,h=>exact tyN h
  | 127,_,h=>exact tyN h
  | 128,_,h=>exact tyN h
  | 129,_,h=>exact tyN h
  | 130,_,h=>exact tyN h
  | 131,_,h=>exact tyN h
  | 132,_,h=>exact tyS h h132
  | 133,_,h=>exact tyN h
  | 134,_,h=>exact tyN h
  | 135,_,h=>exact tyS h h135
  | 136,_,h=>exact tyN h
  | 137,_,h=>exact tyS h h137
  | 138,_,h=>exact tyN h
  | 139,_,h=>exact tyN h
  | 140,_,h=>exact tyS h h140
  | 141,_,h=>exact tyN h
  | 142,_,h=>exact tyS h h142
  | 143,_,h=>exact tyS h h143
  | 144,_,h=>exact tyS h h144
  | 145,_,h=>exact tyN h
  | 146,_,h=>exact tyS h h146
  | 147,_,h=>exact tyN h
  | 148,_,h=>exact tyS h h148
  | 149,_,h=>exact tyS h h149
  | 150,_,h=>exact tyN h
  | 151,_,h=>exact tyS h h151
  | 152,_,h=>exact tyN h
  | 153,_,h=>exact tyN h
  | 154,_,h=>exact tyN h
  | 155,_,h=>exact tyN h
  | 156,_,h=>exact tyN h
  | 157,_,h=>exact tyN h
  | 158,_,h=>exact tyS h h158
  | 159,_,h=>exact tyS h h159
  | 160,_,h=>exact tyN h
  | 161,_,h=>exact tyN h
  | 162,_,h=>exact tyS h h162
  | 163,_,h=>exact tyS h h163
  | 164,_,h=>exact tyN h
  | 165,_,h=>exact tyS h h165
  | 166,_,h=>exact tyN h
  | 167,_,h=>exact tyN h
  | 168,_,h=>exact tyN h
  | 169,_,h=>exact tyS h h169
  | 170,_,h=>exact tyN h
  | 171,_,h=>exact tyN h
  | 172,_,h=>exact tyS h h172
  | 173,_,h=>exact tyN h
  | 174,_,h=>exact tyN h
  | 175,_,h=>exact tyN h
  | 176,_,h=>exact tyN h
  | 177,_,h=>exact tyN h
  | 178,_,h=>exact tyS h h178
  | 179,_,h=>exact tyN h
  | 180,_,h=>exact tyN h
  | 181,_,h=>exact tyN h
  | 182,_,h=>exact tyS h h182
  | 183,_,h=>exact tyS h h183
  | 184,_,h=>exact tyN h
  | 185,_,h=>exact tyN h
  | 186,_,h=>exact tyN h
  | 187,_,h=>exact tyN h
  | 188,_,h=>exact tyN h
  | 189,_,h=>exact tyN h
  | 190,_,h=>exact tyN h
  | 191,_,h=>exact tyS h h191
  | 192,_,h=>exact tyN h
  | 193,_,h=>exact tyS h h193
  | 194,_,h=>exact tyS h h194
  | 195,_,h=>exact tyN h
  | 196,_,h=>exact tyN h
  | 197,_,h=>exact tyN h
  | 198,_,h=>exact tyN h
  | 199,_,h=>exact tyN h
  | 200,_,h=>exact tyN h
  | 201,_,h=>exact tyN h
  | 202,_,h=>exact tyS h h202
  | 203,_,h=>exact tyN h
  | 204,_,h=>exact tyS h h204
  | 205,_,h=>exact tyN h
  | 206,_,h=>exact tyS h h206
  | 207,_,h=>exact tyN h
  | 208,_,h=>exact tyS h h208
  | 209,_,h=>exact tyN h
  | 210,_,h=>exact tyN h
  | 211,_,h=>exact tyS h h211
  | 212,_,h=>exact tyN h
  | 213,_,h=>exact tyS h h213
  | 214,_,h=>exact tyN h
  | 215,_,h=>exact tyN h
  | 216,_,h=>exact tyS h h216
  | 217,_,h=>exact tyN h
  | 218,_,h=>exact tyS h h218
  | 219,_,h=>exact tyN h
  | 220,_,h=>exact tyS h h220
  | 221,_,h=>exact tyN h
  | 222,_,h=>exact tyN h
  | 223,_,h=>exact tyS h h223
  | 224,_,h=>exact tyN h
  | 225,_,h=>exact tyN h
  | 226,_,h=>exact tyN h
  | 227,_,h=>exact tyN h
  | 228,_,h=>exact tyS h h228
  | 229,_,h=>exact tyS h h229
  | 230,_,h=>exact tyN h
  | 231,_,h=>exact tyN h
  | 232,_,h=>exact tyS h h232
  | 233,_,h=>exact tyS h h233
  | 234,_,h=>exact tyN h
  | 235,_,h=>exact tyN h
  | 236,_,h=>exact tyN h
  | 237,_,h=>exact tyS h h237
  | 238,_,h=>exact tyN h
  | 239,_,h=>exact tyS h h239
  | 240,_,h=>exact tyS h h240
  | 241,_,h=>exact tyN h
  | 242,_,h=>exact tyS h h242
  | 243,_,h=>exact tyN h
  | 244,_,h=>exact tyN h
  | 245,_,h=>exact tyN h
  | 246,_,h=>exact tyN h
  | 247,_,h=>exact tyN h
  | 248,_,h=>exact tyN h
  | 249,_,h=>exact tyN h
  | 250,_,h=>exact tyN h
  | 251,_,h=>exact tyN h
  | 252,_,h=>exact tyN h
  | 253,_,h=>exact tyN h
  | 254,_,h=>exact tyN h
  | 255,_,h=>exact tyN h
  | n+256,hlt,_=>omega
 ·have hl:tyRows.length=16:=rfl
  have:nth tyRows (t / 16)=none:=zaj2 (l:=tyRows) (i:=t / 16) (by rw [hl];omega)
  unfold tyAt at h
  rw [this] at h
  cases h
theorem zpk2 (x:Leaf):(zaj x.v).length=1/\∀cs,x.v≠ .agg cs:=by
 obtain ⟨v,h⟩:=x
 cases v<;>first | exact ⟨rfl,fun cs h=>by cases h⟩ | cases h
theorem tb_ok :tb.Ok prog where
 und:=tyAll (p:=fun t e=>prog.underlying t=some e.und) underlying0 underlying2 underlying3 underlying4 underlying5 underlying9 underlying12 underlying20 underlying21 underlying22 underlying23 underlying25 underlying26 underlying31 underlying33 underlying36 underlying39 underlying40 underlying44 underlying48 underlying51 underlying52 underlying56 underlying57 underlying60 underlying62 underlying64 underlying67 underlying69 underlying73 underlying74 underlying76 underlying80 underlying82 underlying85 underlying92 underlying96 underlying99 underlying102 underlying107 underlying108 underlying109 underlying114 underlying120 underlying122 underlying123 underlying125 underlying132 underlying135 underlying137 underlying140 underlying142 underlying143 underlying144 underlying146 underlying148 underlying149 underlying151 underlying158 underlying159 underlying162 underlying163 underlying165 underlying169 underlying172 underlying178 underlying182 underlying183 underlying191 underlying193 underlying194 underlying202 underlying204 underlying206 underlying208 underlying211 underlying213 underlying216 underlying218 underlying220 underlying223 underlying228 underlying229 underlying232 underlying233 underlying237 underlying239 underlying240 underlying242
 info:=tyAll (p:=fun t e=>∃i,prog.info? t=some i/\i.size=e.size/\i.bytes=e.bytes/\i.zero=some e.zero) ⟨t0,type0,rfl,rfl,rfl⟩ ⟨t2,type2,rfl,rfl,rfl⟩ ⟨t3,type3,rfl,rfl,rfl⟩ ⟨t4,type4,rfl,rfl,rfl⟩ ⟨t5,type5,rfl,rfl,rfl⟩ ⟨t9,type9,rfl,rfl,rfl⟩ ⟨t12,type12,rfl,rfl,rfl⟩ ⟨t20,type20,rfl,rfl,rfl⟩ ⟨t21,type21,rfl,rfl,rfl⟩ ⟨t22,type22,rfl,rfl,rfl⟩ ⟨t23,type23,rfl,rfl,rfl⟩ ⟨t25,type25,rfl,rfl,rfl⟩ ⟨t26,type26,rfl,rfl,rfl⟩ ⟨t31,type31,rfl,rfl,rfl⟩ ⟨t33,type33,rfl,rfl,rfl⟩ ⟨t36,type36,rfl,rfl,rfl⟩ ⟨t39,type39,rfl,rfl,rfl⟩ ⟨t40,type40,rfl,rfl,rfl⟩ ⟨t44,type44,rfl,rfl,rfl⟩ ⟨t48,type48,rfl,rfl,rfl⟩ ⟨t51,type51,rfl,rfl,rfl⟩ ⟨t52,type52,rfl,rfl,rfl⟩ ⟨t56,type56,rfl,rfl,rfl⟩ ⟨t57,type57,rfl,rfl,rfl⟩ ⟨t60,type60,rfl,rfl,rfl⟩ ⟨t62,type62,rfl,rfl,rfl⟩ ⟨t64,type64,rfl,rfl,rfl⟩ ⟨t67,type67,rfl,rfl,rfl⟩ ⟨t69,type69,rfl,rfl,rfl⟩ ⟨t73,type73,rfl,rfl,rfl⟩ ⟨t74,type74,rfl,rfl,rfl⟩ ⟨t76,type76,rfl,rfl,rfl⟩ ⟨t80,type80,rfl,rfl,rfl⟩ ⟨t82,type82,rfl,rfl,rfl⟩ ⟨t85,type85,rfl,rfl,rfl⟩ ⟨t92,type92,rfl,rfl,rfl⟩ ⟨t96,type96,rfl,rfl,rfl⟩ ⟨t99,type99,rfl,rfl,rfl⟩ ⟨t102,type102,rfl,rfl,rfl⟩ ⟨t107,type107,rfl,rfl,rfl⟩ ⟨t108,type108,rfl,rfl,rfl⟩ ⟨t109,type109,rfl,rfl,rfl⟩ ⟨t114,type114,rfl,rfl,rfl⟩ ⟨t120,type120,rfl,rfl,rfl⟩ ⟨t122,type122,rfl,rfl,rfl⟩ ⟨t123,type123,rfl,rfl,rfl⟩ ⟨t125,type125,rfl,rfl,rfl⟩ ⟨t132,type132,rfl,rfl,rfl⟩ ⟨t135,type135,rfl,rfl,rfl⟩ ⟨t137,type137,rfl,rfl,rfl⟩ ⟨t140,type140,rfl,rfl,rfl⟩ ⟨t142,type142,rfl,rfl,rfl⟩ ⟨t143,type143,rfl,rfl,rfl⟩ ⟨t144,type144,rfl,rfl,rfl⟩ ⟨t146,type146,rfl,rfl,rfl⟩ ⟨t148,type148,rfl,rfl,rfl⟩ ⟨t149,type149,rfl,rfl,rfl⟩ ⟨t151,type151,rfl,rfl,rfl⟩ ⟨t158,type158,rfl,rfl,rfl⟩ ⟨t159,type159,rfl,rfl,rfl⟩ ⟨t162,type162,rfl,rfl,rfl⟩ ⟨t163,type163,rfl,rfl,rfl⟩ ⟨t165,type165,rfl,rfl,rfl⟩ ⟨t169,type169,rfl,rfl,rfl⟩ ⟨t172,type172,rfl,rfl,rfl⟩ ⟨t178,type178,rfl,rfl,rfl⟩ ⟨t182,type182,rfl,rfl,rfl⟩ ⟨t183,type183,rfl,rfl,rfl⟩ ⟨t191,type191,rfl,rfl,rfl⟩ ⟨t193,type193,rfl,rfl,rfl⟩ ⟨t194,type194,rfl,rfl,rfl⟩ ⟨t202,type202,rfl,rfl,rfl⟩ ⟨t204,type204,rfl,rfl,rfl⟩ ⟨t206,type206,rfl,rfl,rfl⟩ ⟨t208,type208,rfl,rfl,rfl⟩ ⟨t211,type211,rfl,rfl,rfl⟩ ⟨t213,type213,rfl,rfl,rfl⟩ ⟨t216,type216,rfl,rfl,rfl⟩ ⟨t218,type218,rfl,rfl,rfl⟩ ⟨t220,type220,rfl,rfl,rfl⟩ ⟨t223,type223,rfl,rfl,rfl⟩ ⟨t228,type228,rfl,rfl,rfl⟩ ⟨t229,type229,rfl,rfl,rfl⟩ ⟨t232,type232,rfl,rfl,rfl⟩ ⟨t233,type233,rfl,rfl,rfl⟩ ⟨t237,type237,rfl,rfl,rfl⟩ ⟨t239,type239,rfl,rfl,rfl⟩ ⟨t240,type240,rfl,rfl,rfl⟩ ⟨t242,type242,rfl,rfl,rfl⟩
 agg:=by
  apply tyAll (p:=fun t e=>zmk e.und=true->∀x,∃cs,e.sh.enc x=.agg cs/\cs.size=e.size)<;>first | (intro h;cases h;done) | exact (fun _ x=>⟨_,rfl,rfl⟩) | exact (fun _ x=>⟨_,rfl,x.size⟩)
 leaf:=by
  apply tyAll (p:=fun t e=>zmk e.und=false->e.size=1/\∀x,(zaj (e.sh.enc x)).length=1/\∀cs,e.sh.enc x≠ .agg cs)<;>first | (intro h;cases h;done) | (refine fun _=>⟨rfl,fun x=>⟨rfl,fun cs h=> ?_⟩⟩;cases h;done) | exact (fun _=>⟨rfl,zpk2⟩)
 zlen:=by
  apply tyAll (p:=fun t e=>(zaj e.zero).length=e.size)<;>first | exact rfl
 zero8:=by
  apply tyAll (p:=fun t e=>e.und=.int .u8->zaj e.zero=[.int .u8 0])<;>first | (intro h;cases h;done) | exact (fun _=>rfl)
 zagg:=by
  apply tyAll (p:=fun t e=>zmk e.und=true->∃cs,e.zero=.agg cs)<;>first | (intro h;cases h;done) | exact (fun _=>⟨_,rfl⟩)
 call:=by
  intro g h
  by_cases hlt:g<256
  ·match g,hlt,h with
   | 0,_,h=>exact absurd (show false=true from h) (by simp)
   | 1,_,h=>exact absurd (show false=true from h) (by simp)
   | 2,_,_=>exact call2
   | 3,_,_=>exact call3
   | 4,_,_=>exact call4
   | 5,_,_=>exact call5
   | 6,_,_=>exact call6
   | 7,_,_=>exact call7
   | 8,_,_=>exact call8
   | 9,_,_=>exact call9
   | 10,_,_=>exact call10
   | 11,_,_=>exact call11
   | 12,_,_=>exact call12
   | 13,_,_=>exact call13
   | 14,_,_=>exact call14
   | 15,_,_=>exact call15
   | 16,_,_=>exact call16
   | 17,_,_=>exact call17
   | 18,_,_=>exact call18
   | 19,_,_=>exact call19
   | 20,_,_=>exact call20
   | 21,_,_=>exact call21
   | 22,_,_=>exact call22
   | 23,_,_=>exact call23
   | 24,_,_=>exact call24
   | 25,_,_=>exact call25
   | 26,_,_=>exact call26
   | 27,_,_=>exact call27
   | 28,_,_=>exact call28
   | 29,_,_=>exact call29
   | 30,_,_=>exact call30
   | 31,_,_=>exact call31
   | 32,_,_=>exact call32
   | 33,_,_=>exact call33
   | 34,_,_=>exact call34
   | 35,_,_=>exact call35
   | 36,_,_=>exact call36
   | 37,_,h=>exact absurd (show false=true from h) (by simp)
   | 38,_,_=>exact call38
   | 39,_,_=>exact call39
   | 40,_,_=>exact call40
   | 41,_,_=>exact call41
   | 42,_,_=>exact call42
   | 43,_,_=>exact call43
   | 44,_,_=>exact call44
   | 45,_,_=>exact call45
   | 46,_,_=>exact call46
   | 47,_,_=>exact call47
   | 48,_,_=>exact call48
   | 49,_,_=>exact call49
   | 50,_,_=>exact call50
   | 51,_,_=>exact call51
   | 52,_,h=>exact absurd (show false=true from h) (by simp)
   | 53,_,_=>exact call53
   | 54,_,_=>exact call54
   | 55,_,_=>exact call55
   | 56,_,_=>exact call56
   | 57,_,_=>exact call57
   | 58,_,_=>exact call58
   | 59,_,_=>exact call59
   | 60,_,_=>exact call60
   | 61,_,_=>exact call61
   | 62,_,_=>exact call62
   | 63,_,_=>exact call63
   | 64,_,_=>exact call64
   | 65,_,_=>exact call65
   | 66,_,_=>exact call66
   | 67,_,_=>exact call67
   | 68,_,_=>exact call68
   | 69,_,_=>exact call69
   | 70,_,_=>exact call70
   | 71,_,_=>exact call71
   | 72,_,_=>exact call72
   | 73,_,_=>exact call73
   | 74,_,_=>exact call74
   | 75,_,_=>exact call75
   | 76,_,_=>exact call76
   | 77,_,_=>exact call77
   | 78,_,_=>exact call78
   | 79,_,h=>exact absurd (show false=true from h) (by simp)
   | 80,_,_=>exact call80
   | 81,_,_=>exact call81
   | 82,_,_=>exact call82
   | 83,_,_=>exact call83
   | 84,_,_=>exact call84
   | 85,_,_=>exact call85
   | 86,_,_=>exact call86
   | 87,_,_=>exact call87
   | 88,_,_=>exact call88
   | 89,_,_=>exact call89
   | 90,_,_=>exact call90
   | 91,_,_=>exact call91
   | 92,_,_=>exact call92
   | 93,_,_=>exact call93
   | 94,_,_=>exact call94
   | 95,_,_=>exact call95
   | 96,_,_=>exact call96
   | 97,_,_=>exact call97
   | 98,_,_=>exact call98
   | 99,_,_=>exact call99
   | 100,_,_=>exact call100
   | 101,_,_=>exact call101
   | 102,_,_=>exact call102
   | 103,_,_=>exact call103
   | 104,_,_=>exact call104
   | 105,_,_=>exact call105
   | 106,_,_=>exact call106
   | 107,_,_=>exact call107
   | 108,_,_=>exact call108
   | 109,_,_=>exact call109
   | 110,_,_=>exact call110
   | 111,_,_=>exact call111
   | 112,_,h=>exact absurd (show false=true from h) (by simp)
   | 113,_,_=>exact call113
   | 114,_,_=>exact call114
   | 115,_,_=>exact call115
   | 116,_,_=>exact call116
   | 117,_,_=>exact call117
   | 118,_,_=>exact call118
   | 119,_,_=>exact call119
   | 120,_,_=>exact call120
   | 121,_,_=>exact call121
   | 122,_,_=>exact call122
   | 123,_,_=>exact call123
   | 124,_,_=>exact call124
   | 125,_,_=>exact call125
   | 126,_,_=>exact call126
   | 127,_,_=>exact call127
   | 128,_,_=>exact call128
   | 129,_,_=>exact call129
   | 130,_,_=>exact call130
   | 131,_,_=>exact call131
   | 132,_,h=>exact absurd (show false=true from h) (by simp)
   | 133,_,_=>exact call133
   | 134,_,_=>exact call134
   | 135,_,h=>exact absurd (show false=true from h) (by simp)
   | 136,_,h=>exact absurd (show false=true from h) (by simp)
   | 137,_,_=>exact call137
   | 138,_,_=>exact call138
   | 139,_,_=>exact call139
   | 140,_,_=>exact call140
   | 141,_,_=>exact call141
   | 142,_,_=>exact call142
   | 143,_,_=>exact call143
   | 144,_,_=>exact call144
   | 145,_,_=>exact call145
   | 146,_,_=>exact call146
   | 147,_,_=>exact call147
   | 148,_,_=>exact call148
   | 149,_,_=>exact call149
   | 150,_,_=>exact call150
   | 151,_,_=>exact call151
   | 152,_,_=>exact call152
   | 153,_,_=>exact call153
   | 154,_,_=>exact call154
   | 155,_,_=>exact call155
   | 156,_,_=>exact call156
   | 157,_,_=>exact call157
   | 158,_,_=>exact call158
   | 159,_,_=>exact call159
   | 160,_,_=>exact call160
   | 161,_,_=>exact call161
   | 162,_,_=>exact call162
   | 163,_,_=>exact call163
   | 164,_,h=>exact absurd (show false=true from h) (by simp)
   | 165,_,h=>exact absurd (show false=true from h) (by simp)
   | 166,_,_=>exact call166
   | 167,_,_=>exact call167
   | 168,_,_=>exact call168
   | 169,_,_=>exact call169
   | 170,_,_=>exact call170
   | 171,_,_=>exact call171
   | 172,_,_=>exact call172
   | 173,_,_=>exact call173
   | 174,_,_=>exact call174
   | 175,_,_=>exact call175
   | 176,_,_=>exact call176
   | 177,_,_=>exact call177
   | 178,_,_=>exact call178
   | 179,_,_=>exact call179
   | 180,_,_=>exact call180
   | 181,_,_=>exact call181
   | 182,_,_=>exact call182
   | 183,_,_=>exact call183
   | 184,_,_=>exact call184
   | 185,_,_=>exact call185
   | 186,_,_=>exact call186
   | 187,_,_=>exact call187
   | 188,_,_=>exact call188
   | 189,_,_=>exact call189
   | 190,_,h=>exact absurd (show false=true from h) (by simp)
   | 191,_,_=>exact call191
   | 192,_,_=>exact call192
   | 193,_,_=>exact call193
   | 194,_,_=>exact call194
   | 195,_,_=>exact call195
   | 196,_,h=>exact absurd (show false=true from h) (by simp)
   | 197,_,_=>exact call197
   | 198,_,_=>exact call198
   | 199,_,_=>exact call199
   | 200,_,_=>exact call200
   | 201,_,_=>exact call201
   | 202,_,_=>exact call202
   | 203,_,_=>exact call203
   | 204,_,_=>exact call204
   | 205,_,_=>exact call205
   | 206,_,_=>exact call206
   | 207,_,_=>exact call207
   | 208,_,_=>exact call208
   | 209,_,h=>exact absurd (show false=true from h) (by simp)
   | 210,_,h=>exact absurd (show false=true from h) (by simp)
   | 211,_,h=>exact absurd (show false=true from h) (by simp)
   | 212,_,h=>exact absurd (show false=true from h) (by simp)
   | 213,_,h=>exact absurd (show false=true from h) (by simp)
   | 214,_,h=>exact absurd (show false=true from h) (by simp)
   | 215,_,h=>exact absurd (show false=true from h) (by simp)
   | 216,_,h=>exact absurd (show false=true from h) (by simp)
   | 217,_,h=>exact absurd (show false=true from h) (by simp)
   | 218,_,h=>exact absurd (show false=true from h) (by simp)
   | 219,_,h=>exact absurd (show false=true from h) (by simp)
   | 220,_,h=>exact absurd (show false=true from h) (by simp)
   | 221,_,h=>exact absurd (show false=true from h) (by simp)
   | 222,_,h=>exact absurd (show false=true from h) (by simp)
   | 223,_,h=>exact absurd (show false=true from h) (by simp)
   | 224,_,h=>exact absurd (show false=true from h) (by simp)
   | 225,_,h=>exact absurd (show false=true from h) (by simp)
   | 226,_,h=>exact absurd (show false=true from h) (by simp)
   | 227,_,h=>exact absurd (show false=true from h) (by simp)
   | 228,_,h=>exact absurd (show false=true from h) (by simp)
   | 229,_,h=>exact absurd (show false=true from h) (by simp)
   | 230,_,h=>exact absurd (show false=true from h) (by simp)
   | 231,_,h=>exact absurd (show false=true from h) (by simp)
   | 232,_,h=>exact absurd (show false=true from h) (by simp)
   | 233,_,h=>exact absurd (show false=true from h) (by simp)
   | 234,_,h=>exact absurd (show false=true from h) (by simp)
   | 235,_,h=>exact absurd (show false=true from h) (by simp)
   | 236,_,h=>exact absurd (show false=true from h) (by simp)
   | 237,_,h=>exact absurd (show false=true from h) (by simp)
   | 238,_,h=>exact absurd (show false=true from h) (by simp)
   | 239,_,h=>exact absurd (show false=true from h) (by simp)
   | 240,_,h=>exact absurd (show false=true from h) (by simp)
   | 241,_,h=>exact absurd (show false=true from h) (by simp)
   | 242,_,h=>exact absurd (show false=true from h) (by simp)
   | 243,_,h=>exact absurd (show false=true from h) (by simp)
   | 244,_,h=>exact absurd (show false=true from h) (by simp)
   | 245,_,h=>exact absurd (show false=true from h) (by simp)
   | 246,_,h=>exact absurd (show false=true from h) (by simp)
   | 247,_,h=>exact absurd (show false=true from h) (by simp)
   | 248,_,_=>exact call248
   | 249,_,h=>exact absurd (show false=true from h) (by simp)
   | 250,_,h=>exact absurd (show false=true from h) (by simp)
   | 251,_,h=>exact absurd (show false=true from h) (by simp)
   | 252,_,h=>exact absurd (show false=true from h) (by simp)
   | 253,_,h=>exact absurd (show false=true from h) (by simp)
   | 254,_,h=>exact absurd (show false=true from h) (by simp)
   | 255,_,h=>exact absurd (show false=true from h) (by simp)
   | n+256,hlt,_=>omega
  ·have hl:fnRows.length=16:=rfl
   have:nth fnRows (g / 16)=none:=zaj2 (l:=fnRows) (i:=g / 16) (by rw [hl];omega)
   have h:fnAt g=true:=h
   unfold fnAt at h
   rw [this] at h
   cases h
 ext:=by
  intro g f h args w
  have h:extAt g=some f:=h
  unfold extAt at h
  cases e37:Nat.beq g 37 with
  | true=>
   have hg:g=37:=Nat.eq_of_beq_eq_true e37
   subst hg
   exact run_callFunc_extern func37 (by kernel_rfl) (by kernel_rfl) (by kernel_rfl) (show _=_ from (show _=some _ by kernel_rfl:_=some _).trans h) args w
  | false=>
  simp only [e37,cond_false] at h
  cases e52:Nat.beq g 52 with
  | true=>
   have hg:g=52:=Nat.eq_of_beq_eq_true e52
   subst hg
   exact run_callFunc_extern func52 (by kernel_rfl) (by kernel_rfl) (by kernel_rfl) (show _=_ from (show _=some _ by kernel_rfl:_=some _).trans h) args w
  | false=>
  simp only [e52,cond_false] at h
  cases e112:Nat.beq g 112 with
  | true=>
   have hg:g=112:=Nat.eq_of_beq_eq_true e112
   subst hg
   exact run_callFunc_extern func112 (by kernel_rfl) (by kernel_rfl) (by kernel_rfl) (show _=_ from (show _=some _ by kernel_rfl:_=some _).trans h) args w
  | false=>
  simp only [e112,cond_false] at h
  cases e135:Nat.beq g 135 with
  | true=>
   have hg:g=135:=Nat.eq_of_beq_eq_true e135
   subst hg
   exact run_callFunc_extern func135 (by kernel_rfl) (by kernel_rfl) (by kernel_rfl) (show _=_ from (show _=some _ by kernel_rfl:_=some _).trans h) args w
  | false=>
  simp only [e135,cond_false] at h
  cases e136:Nat.beq g 136 with
  | true=>
   have hg:g=136:=Nat.eq_of_beq_eq_true e136
   subst hg
   exact run_callFunc_extern func136 (by kernel_rfl) (by kernel_rfl) (by kernel_rfl) (show _=_ from (show _=some _ by kernel_rfl:_=some _).trans h) args w
  | false=>
  simp only [e136,cond_false] at h
  cases e165:Nat.beq g 165 with
  | true=>
   have hg:g=165:=Nat.eq_of_beq_eq_true e165
   subst hg
   exact run_callFunc_extern func165 (by kernel_rfl) (by kernel_rfl) (by kernel_rfl) (show _=_ from (show _=some _ by kernel_rfl:_=some _).trans h) args w
  | false=>
  simp only [e165,cond_false] at h
  cases e190:Nat.beq g 190 with
  | true=>
   have hg:g=190:=Nat.eq_of_beq_eq_true e190
   subst hg
   exact run_callFunc_extern func190 (by kernel_rfl) (by kernel_rfl) (by kernel_rfl) (show _=_ from (show _=some _ by kernel_rfl:_=some _).trans h) args w
  | false=>
  simp only [e190,cond_false] at h
  cases e196:Nat.beq g 196 with
  | true=>
   have hg:g=196:=Nat.eq_of_beq_eq_true e196
   subst hg
   exact run_callFunc_extern func196 (by kernel_rfl) (by kernel_rfl) (by kernel_rfl) (show _=_ from (show _=some _ by kernel_rfl:_=some _).trans h) args w
  | false=>
  simp only [e196,cond_false] at h
  cases h
 mixed:=by kernel_rfl
theorem firebreaklaw07_AsmReads_call {text Q h} (hv:zhp prog text Q h):CallT prog zvr [(shStr).enc text] (zae) Q h:=
 zaa (C:=⟨prog,tb,zvz⟩) (A:=zwa) tb_ok func7 rfl (Eq.mpr (by kernel_rfl) hv)
theorem firebreaklaw07_AsmKeeps_call {l text Q h} (hv:zhq prog l text Q h):CallT prog zvs [(shSl).enc l,(shStr).enc text] (zae) Q h:=
 zaa (C:=⟨prog,tb,zwb⟩) (A:=zwc) tb_ok func10 rfl (Eq.mpr (by kernel_rfl) hv)
theorem zwt {bits Q h} (hv:zqg prog bits Q h):CallT prog zqf [yH.enc bits] (shStr) Q h:=
 zaa (C:=⟨prog,tb,zwx1⟩) (A:=zwy1) tb_ok func11 rfl (Eq.mpr (by kernel_rfl) hv)
theorem zmz {n Q h} (hv:zkh prog n Q h):CallT prog zgo [yH.enc n] (shStr) Q h:=
 zaa (C:=⟨prog,tb,zag1⟩) (A:=zah1) tb_ok func12 rfl (Eq.mpr (by kernel_rfl) hv)
theorem zmz1 {text Q h} (hv:zer1 prog text Q h):Call2 prog zeq1 [(shStr).enc text] yH yH Q h:=
 show CallT prog zeq1 [(shStr).enc text] (shRes tb [2,25]) (fun r=>Q r.1 r.2) h from zaa (C:=⟨prog,tb,zwz1⟩) (A:=zxa1) tb_ok func13 rfl (Eq.mpr (by kernel_rfl) hv)
theorem zwu {t Q h} (hv:zbg prog t Q h):Call2 prog zke [(shStr).enc t] yH yH Q h:=
 show CallT prog zke [(shStr).enc t] (shRes tb [2,25]) (fun r=>Q r.1 r.2) h from zaa (C:=⟨prog,tb,zai1⟩) (A:=zaj1) tb_ok func14 rfl (Eq.mpr (by kernel_rfl) hv)
theorem zna {Q h} (hv:zki prog  Q h):CallT prog zkf [] (zae) Q h:=
 zaa (C:=⟨prog,tb,zak1⟩) (A:=zal1) tb_ok func16 rfl (Eq.mpr (by kernel_rfl) hv)
theorem zwv {l Q h} (hv:zkj prog l Q h):CallT prog zpx [(shSl).enc l] (shSl) Q h:=
 zaa (C:=⟨prog,tb,zam1⟩) (A:=zan1) tb_ok func17 rfl (Eq.mpr (by kernel_rfl) hv)
theorem zww {l Q h} (hv:zes1 prog l Q h):Call3 prog zud [(shSl).enc l] (shStr) yH yH Q h:=
 show CallT prog zud [(shSl).enc l] (shRes tb [9,25,3]) (fun r=>Q r.1 r.2.1 r.2.2) h from zaa (C:=⟨prog,tb,zxb1⟩) (A:=zxc1) tb_ok func18 rfl (Eq.mpr (by kernel_rfl) hv)
theorem znb {text Q h} (hv:zet1 prog text Q h):Call4 prog znk [(shStr).enc text] (shSl) yH yH yH Q h:=
 show CallT prog znk [(shStr).enc text] (shRes tb [31,25,3,3]) (fun r=>Q r.1 r.2.1 r.2.2.1 r.2.2.2) h from zaa (C:=⟨prog,tb,zxd1⟩) (A:=zxe1) tb_ok func20 rfl (Eq.mpr (by kernel_rfl) hv)
theorem znc {text Q h} (hv:zkk prog text Q h):Call4 prog zgp [(shStr).enc text] (shSl) yH yH yH Q h:=
 show CallT prog zgp [(shStr).enc text] (shRes tb [31,25,3,3]) (fun r=>Q r.1 r.2.1 r.2.2.1 r.2.2.2) h from zaa (C:=⟨prog,tb,zao1⟩) (A:=zap1) tb_ok func21 rfl (Eq.mpr (by kernel_rfl) hv)
theorem zcd {a b Q h} (hv:zlk prog a b Q h):CallT prog zce [(shSl).enc a,(shSl).enc b] (zae) Q h:=
 zaa (C:=⟨prog,tb,zbw1⟩) (A:=zbx1) tb_ok func22 rfl (Eq.mpr (by kernel_rfl) hv)
theorem zqt1 {l locks Q h} (hv:zhp1 prog l locks Q h):Call2 prog zhn1 [(shSl).enc l,yH.enc locks] yH yH Q h:=
 show CallT prog zhn1 [(shSl).enc l,yH.enc locks] (shRes tb [25,3]) (fun r=>Q r.1 r.2) h from zaa (C:=⟨prog,tb,zdc2⟩) (A:=zdd2) tb_ok func23 rfl (Eq.mpr (by kernel_rfl) hv)
theorem zlk1 {x n locks Q h} (hv:zbs1 prog x n locks Q h):CallT prog zis1 [(sh_api_Ins).enc x,yH.enc n,yH.enc locks] yH Q h:=
 zaa (C:=⟨prog,tb,ztd1⟩) (A:=zte1) tb_ok func24 rfl (Eq.mpr (by kernel_rfl) hv)
theorem zwx {bits Q h} (hv:zeu1 prog bits Q h):CallT prog zlc1 [yH.enc bits] (shFlt .f64) Q h:=
 zaa (C:=⟨prog,tb,zxf1⟩) (A:=zxg1) tb_ok func26 rfl (Eq.mpr (by kernel_rfl) hv)
theorem zjf1 {u Q h} (hv:zyy prog u Q h):CallT prog zge1 [(shInt .u64).enc u] (shStr) Q h:=
 zaa (C:=⟨prog,tb,zqh1⟩) (A:=zqi1) tb_ok func27 rfl (Eq.mpr (by kernel_rfl) hv)
theorem zjz {s sep Q h} (hv:zox prog s sep Q h):Call3 prog zmc [(shStr).enc s,(shStr).enc sep] (shStr) (shStr) (zae) Q h:=
 show CallT prog zmc [(shStr).enc s,(shStr).enc sep] (shRes tb [9,9,4]) (fun r=>Q r.1 r.2.1 r.2.2) h from zaa (C:=⟨prog,tb,zqj1⟩) (A:=zqk1) tb_ok func28 rfl (Eq.mpr (by kernel_rfl) hv)
theorem zny {f fmt prec bitSize Q h} (hv:zeq prog f fmt prec bitSize Q h):CallT prog zre [(shFlt .f64).enc f,(shInt .u8).enc fmt,yH.enc prec,yH.enc bitSize] (shStr) Q h:=
 zaa (C:=⟨prog,tb,zby1⟩) (A:=zbz1) tb_ok func29 rfl (Eq.mpr (by kernel_rfl) hv)
theorem zyb {s Q h} (hv:zvx prog s Q h):Call2 prog zvt [(shStr).enc s] yH (zai) Q h:=
 show CallT prog zvt [(shStr).enc s] (shRes tb [3,56]) (fun r=>Q r.1 r.2) h from zaa (C:=⟨prog,tb,zmt1⟩) (A:=zmu1) tb_ok func30 rfl (Eq.mpr (by kernel_rfl) hv)
theorem zqu {i Q h} (hv:zqz prog i Q h):CallT prog zvu [yH.enc i] (shStr) Q h:=
 zaa (C:=⟨prog,tb,zmv1⟩) (A:=zmw1) tb_ok func31 rfl (Eq.mpr (by kernel_rfl) hv)
theorem zzr {n Q h} (hv:zmn prog n Q h):CallT prog zsm [(shInt .u64).enc n] (shStr) Q h:=
 zaa (C:=⟨prog,tb,zdo1⟩) (A:=zdp1) tb_ok func32 rfl (Eq.mpr (by kernel_rfl) hv)
theorem zyc {b Q h} (hv:zhj prog b Q h):CallT prog zrf [(shInt .u64).enc b] (shStr) Q h:=
 zaa (C:=⟨prog,tb,zca1⟩) (A:=zcb1) tb_ok func33 rfl (Eq.mpr (by kernel_rfl) hv)
theorem zgt {s prefix_ Q h} (hv:znm prog s prefix_ Q h):Call2 prog zjk [(shStr).enc s,(shStr).enc prefix_] (shStr) (zae) Q h:=
 show CallT prog zjk [(shStr).enc s,(shStr).enc prefix_] (shRes tb [9,4]) (fun r=>Q r.1 r.2) h from zaa (C:=⟨prog,tb,zex1⟩) (A:=zey1) tb_ok func34 rfl (Eq.mpr (by kernel_rfl) hv)
theorem zqc {s base bitSize Q h} (hv:zgi prog s base bitSize Q h):Call2 prog znl [(shStr).enc s,yH.enc base,yH.enc bitSize] (shInt .u64) (zai) Q h:=
 show CallT prog znl [(shStr).enc s,yH.enc base,yH.enc bitSize] (shRes tb [51,56]) (fun r=>Q r.1 r.2) h from zaa (C:=⟨prog,tb,zez1⟩) (A:=zfa1) tb_ok func35 rfl (Eq.mpr (by kernel_rfl) hv)
theorem zpe {s bitSize Q h} (hv:zfh prog s bitSize Q h):Call2 prog zmm [(shStr).enc s,yH.enc bitSize] (shFlt .f64) (zai) Q h:=
 show CallT prog zmm [(shStr).enc s,yH.enc bitSize] (shRes tb [48,56]) (fun r=>Q r.1 r.2) h from zaa (C:=⟨prog,tb,zdq1⟩) (A:=zdr1) tb_ok func36 rfl (Eq.mpr (by kernel_rfl) hv)
theorem znd {c Q h} (hv:zkl prog c Q h):CallT prog zpy [(shInt .u8).enc c] (shInt .u64) Q h:=
 zaa (C:=⟨prog,tb,zaq1⟩) (A:=zar1) tb_ok func38 rfl (Eq.mpr (by kernel_rfl) hv)
theorem zne {t Q h} (hv:zdz prog t Q h):Call3 prog zgq [(shStr).enc t] (shInt .u64) yH (zae) Q h:=
 show CallT prog zgq [(shStr).enc t] (shRes tb [51,3,4]) (fun r=>Q r.1 r.2.1 r.2.2) h from zaa (C:=⟨prog,tb,zas1⟩) (A:=zat1) tb_ok func39 rfl (Eq.mpr (by kernel_rfl) hv)
theorem zlu {c s Q h} (hv:zio prog c s Q h):CallT prog zii [(shInt .u64).enc c,yH.enc s] (shInt .u64) Q h:=
 zaa (C:=⟨prog,tb,zxn⟩) (A:=zxo) tb_ok func40 rfl (Eq.mpr (by kernel_rfl) hv)
theorem zjg1 {x Q h} (hv:zyz prog x Q h):CallT prog zgf1 [(sh_api_Ins).enc x] (shStr) Q h:=
 zaa (C:=⟨prog,tb,zql1⟩) (A:=zqm1) tb_ok func43 rfl (Eq.mpr (by kernel_rfl) hv)
theorem zfh1 {r n Q h} (hv:zrx prog r n Q h):CallT prog zac1 [(shPtr).enc r,yH.enc n] (sh_api_Ins) Q h:=
 zaa (C:=⟨prog,tb,zjb1⟩) (A:=zjc1) tb_ok func48 rfl (Eq.mpr (by kernel_rfl) hv)
theorem zdn {r e at_ Q h} (hv:zqh prog r e at_ Q h):Call0 prog zav [(shPtr).enc r,yH.enc e,yH.enc at_] (Q) h:=
 show CallT prog zav [(shPtr).enc r,yH.enc e,yH.enc at_] (shRes tb []) (fun _=>Q) h from zaa (C:=⟨prog,tb,zhs1⟩) (A:=zht1) tb_ok func49 rfl (Eq.mpr (by kernel_rfl) hv)
theorem zyd {s n Q h} (hv:zll prog s n Q h):Call3 prog zhf [(shStr).enc s,yH.enc n] (sh_api_Ins) yH yH Q h:=
 show CallT prog zhf [(shStr).enc s,yH.enc n] (shRes tb [44,25,3]) (fun r=>Q r.1 r.2.1 r.2.2) h from zaa (C:=⟨prog,tb,zcc1⟩) (A:=zcd1) tb_ok func50 rfl (Eq.mpr (by kernel_rfl) hv)
theorem zll1 {x n locks Q h} (hv:zbt1 prog x n locks Q h):Call2 prog zbq1 [(sh_api_Ins).enc x,yH.enc n,yH.enc locks] yH yH Q h:=
 show CallT prog zbq1 [(sh_api_Ins).enc x,yH.enc n,yH.enc locks] (shRes tb [25,3]) (fun r=>Q r.1 r.2) h from zaa (C:=⟨prog,tb,ztf1⟩) (A:=ztg1) tb_ok func51 rfl (Eq.mpr (by kernel_rfl) hv)
theorem zzs {i base Q h} (hv:zsp prog i base Q h):CallT prog zsn [(shInt .u64).enc i,yH.enc base] (shStr) Q h:=
 zaa (C:=⟨prog,tb,zds1⟩) (A:=zdt1) tb_ok func53 rfl (Eq.mpr (by kernel_rfl) hv)
theorem zfi1 {s count Q h} (hv:zae1 prog s count Q h):CallT prog zad1 [(shStr).enc s,yH.enc count] (shStr) Q h:=
 zaa (C:=⟨prog,tb,zjd1⟩) (A:=zje1) tb_ok func54 rfl (Eq.mpr (by kernel_rfl) hv)
theorem zka {s sep Q h} (hv:zhc prog s sep Q h):Call3 prog zgz [(shStr).enc s,(shStr).enc sep] (shStr) (shStr) (zae) Q h:=
 show CallT prog zgz [(shStr).enc s,(shStr).enc sep] (shRes tb [9,9,4]) (fun r=>Q r.1 r.2.1 r.2.2) h from zaa (C:=⟨prog,tb,zuv⟩) (A:=zuw) tb_ok func55 rfl (Eq.mpr (by kernel_rfl) hv)
theorem zhk {f fmt prec bitSize Q h} (hv:zer prog f fmt prec bitSize Q h):CallT prog zjg [(shFlt .f64).enc f,(shInt .u8).enc fmt,yH.enc prec,yH.enc bitSize] (shStr) Q h:=
 zaa (C:=⟨prog,tb,zrh⟩) (A:=zri) tb_ok func56 rfl (Eq.mpr (by kernel_rfl) hv)
theorem zvb {s Q h} (hv:zoy prog s Q h):Call2 prog zjl [(shStr).enc s] yH (zai) Q h:=
 show CallT prog zjl [(shStr).enc s] (shRes tb [3,56]) (fun r=>Q r.1 r.2) h from zaa (C:=⟨prog,tb,zzd⟩) (A:=zze) tb_ok func57 rfl (Eq.mpr (by kernel_rfl) hv)
theorem zvc {i Q h} (hv:zoz prog i Q h):CallT prog zos [yH.enc i] (shStr) Q h:=
 zaa (C:=⟨prog,tb,zzf⟩) (A:=zzg) tb_ok func59 rfl (Eq.mpr (by kernel_rfl) hv)
theorem zvd {b Q h} (hv:zjp prog b Q h):Call2 prog zjm [(shInt .u64).enc b] (shInt .u64) yH Q h:=
 show CallT prog zjm [(shInt .u64).enc b] (shRes tb [51,3]) (fun r=>Q r.1 r.2) h from zaa (C:=⟨prog,tb,zzh⟩) (A:=zzi) tb_ok func60 rfl (Eq.mpr (by kernel_rfl) hv)
theorem zdv {n Q h} (hv:zjq prog n Q h):CallT prog zdk [(shInt .u64).enc n] (shStr) Q h:=
 zaa (C:=⟨prog,tb,zzj⟩) (A:=zzk) tb_ok func61 rfl (Eq.mpr (by kernel_rfl) hv)
theorem znt {s prefix_ Q h} (hv:zhx prog s prefix_ Q h):Call2 prog zdo [(shStr).enc s,(shStr).enc prefix_] (shStr) (zae) Q h:=
 show CallT prog zdo [(shStr).enc s,(shStr).enc prefix_] (shRes tb [9,4]) (fun r=>Q r.1 r.2) h from zaa (C:=⟨prog,tb,zpj⟩) (A:=zpk) tb_ok func62 rfl (Eq.mpr (by kernel_rfl) hv)
theorem ziw {s base bitSize Q h} (hv:zcb prog s base bitSize Q h):Call2 prog zfm [(shStr).enc s,yH.enc base,yH.enc bitSize] (shInt .u64) (zai) Q h:=
 show CallT prog zfm [(shStr).enc s,yH.enc base,yH.enc bitSize] (shRes tb [51,56]) (fun r=>Q r.1 r.2) h from zaa (C:=⟨prog,tb,zss⟩) (A:=zst) tb_ok func63 rfl (Eq.mpr (by kernel_rfl) hv)
theorem zhz {s bitSize Q h} (hv:zfc prog s bitSize Q h):Call2 prog zfb [(shStr).enc s,yH.enc bitSize] (shFlt .f64) (zai) Q h:=
 show CallT prog zfb [(shStr).enc s,yH.enc bitSize] (shRes tb [48,56]) (fun r=>Q r.1 r.2) h from zaa (C:=⟨prog,tb,zsa⟩) (A:=zsb) tb_ok func64 rfl (Eq.mpr (by kernel_rfl) hv)
theorem zey {b c s Q h} (hv:zlm prog b c s Q h):CallT prog zem [(shInt .u64).enc b,(shInt .u64).enc c,yH.enc s] yH Q h:=
 zaa (C:=⟨prog,tb,zce1⟩) (A:=zcf1) tb_ok func65 rfl (Eq.mpr (by kernel_rfl) hv)
theorem zgm1 {op Q h} (hv:zhq1 prog op Q h):CallT prog zho1 [yH.enc op] (shStr) Q h:=
 zaa (C:=⟨prog,tb,zde2⟩) (A:=zdf2) tb_ok func69 rfl (Eq.mpr (by kernel_rfl) hv)
theorem zsi {op Q h} (hv:zza prog op Q h):Call4 prog zot [yH.enc op] (zae) (zae) (zae) (zae) Q h:=
 show CallT prog zot [yH.enc op] (shRes tb [4,4,4,4]) (fun r=>Q r.1 r.2.1 r.2.2.1 r.2.2.2) h from zaa (C:=⟨prog,tb,zqn1⟩) (A:=zqo1) tb_ok func70 rfl (Eq.mpr (by kernel_rfl) hv)
theorem zme {n Q h} (hv:zvy prog n Q h):CallT prog zmt [yH.enc n] (shStr) Q h:=
 zaa (C:=⟨prog,tb,zmx1⟩) (A:=zmy1) tb_ok func71 rfl (Eq.mpr (by kernel_rfl) hv)
theorem zlm1 {x Q h} (hv:zbu1 prog x Q h):CallT prog zit1 [(sh_api_Ins).enc x] (shStr) Q h:=
 zaa (C:=⟨prog,tb,zth1⟩) (A:=zti1) tb_ok func72 rfl (Eq.mpr (by kernel_rfl) hv)
theorem zqu1 {words Q h} (hv:zhr1 prog words Q h):CallT prog zoe1 [(shSl).enc words] (shStr) Q h:=
 zaa (C:=⟨prog,tb,zdg2⟩) (A:=zdh2) tb_ok func73 rfl (Eq.mpr (by kernel_rfl) hv)
theorem zye {op Q h} (hv:zln prog op Q h):CallT prog zrg [yH.enc op] (shStr) Q h:=
 zaa (C:=⟨prog,tb,zcg1⟩) (A:=zch1) tb_ok func75 rfl (Eq.mpr (by kernel_rfl) hv)
theorem zve {op Q h} (hv:zjr prog op Q h):Call4 prog zjn [yH.enc op] (zae) (zae) (zae) (zae) Q h:=
 show CallT prog zjn [yH.enc op] (shRes tb [4,4,4,4]) (fun r=>Q r.1 r.2.1 r.2.2.1 r.2.2.2) h from zaa (C:=⟨prog,tb,zzl⟩) (A:=zzm) tb_ok func76 rfl (Eq.mpr (by kernel_rfl) hv)
theorem zxl1 {s Q h} (hv:zqg1 prog s Q h):Call2 prog zqf1 [(shStr).enc s] yH (zae) Q h:=
 show CallT prog zqf1 [(shStr).enc s] (shRes tb [3,4]) (fun r=>Q r.1 r.2) h from zaa (C:=⟨prog,tb,zln2⟩) (A:=zlo2) tb_ok func81 rfl (Eq.mpr (by kernel_rfl) hv)
theorem zix {r has Q h} (hv:zlo prog r has Q h):CallT prog zhg [(shPtr).enc r,(zae).enc has] yH Q h:=
 zaa (C:=⟨prog,tb,zci1⟩) (A:=zcj1) tb_ok func82 rfl (Eq.mpr (by kernel_rfl) hv)
theorem zbi1 {r op n Q h} (hv:znn prog r op n Q h):CallT prog zue [(shPtr).enc r,yH.enc op,yH.enc n] yH Q h:=
 zaa (C:=⟨prog,tb,zfb1⟩) (A:=zfc1) tb_ok func83 rfl (Eq.mpr (by kernel_rfl) hv)
theorem znz {s at_ Q h} (hv:zlp prog s at_ Q h):CallT prog zlf [(shStr).enc s,yH.enc at_] yH Q h:=
 zaa (C:=⟨prog,tb,zck1⟩) (A:=zcl1) tb_ok func84 rfl (Eq.mpr (by kernel_rfl) hv)
theorem znf {s at_ Q h} (hv:zkm prog s at_ Q h):Call4 prog zdw [(shStr).enc s,yH.enc at_] (shStr) yH yH (zae) Q h:=
 show CallT prog zdw [(shStr).enc s,yH.enc at_] (shRes tb [9,3,3,4]) (fun r=>Q r.1 r.2.1 r.2.2.1 r.2.2.2) h from zaa (C:=⟨prog,tb,zau1⟩) (A:=zav1) tb_ok func85 rfl (Eq.mpr (by kernel_rfl) hv)
theorem ztm {s Q h} (hv:zhr prog s Q h):Call2 prog zei [(shStr).enc s] yH (zae) Q h:=
 show CallT prog zei [(shStr).enc s] (shRes tb [3,4]) (fun r=>Q r.1 r.2) h from zaa (C:=⟨prog,tb,zwd⟩) (A:=zwe) tb_ok func86 rfl (Eq.mpr (by kernel_rfl) hv)
theorem zuk {op s n Q h} (hv:zip prog op s n Q h):Call2 prog zij [yH.enc op,(shStr).enc s,yH.enc n] yH yH Q h:=
 show CallT prog zij [yH.enc op,(shStr).enc s,yH.enc n] (shRes tb [2,25]) (fun r=>Q r.1 r.2) h from zaa (C:=⟨prog,tb,zxp⟩) (A:=zxq) tb_ok func87 rfl (Eq.mpr (by kernel_rfl) hv)
theorem zpf {has n Q h} (hv:zuf prog has n Q h):CallT prog zou [(zae).enc has,yH.enc n] yH Q h:=
 zaa (C:=⟨prog,tb,zlg1⟩) (A:=zlh1) tb_ok func88 rfl (Eq.mpr (by kernel_rfl) hv)
theorem zjh1 {x has n locks Q h} (hv:zzb prog x has n locks Q h):CallT prog zgg1 [(sh_api_Ins).enc x,(zae).enc has,yH.enc n,yH.enc locks] yH Q h:=
 zaa (C:=⟨prog,tb,zqp1⟩) (A:=zqq1) tb_ok func89 rfl (Eq.mpr (by kernel_rfl) hv)
theorem zpt {i base Q h} (hv:zjy prog i base Q h):CallT prog zjx [(shInt .u64).enc i,yH.enc base] (shStr) Q h:=
 zaa (C:=⟨prog,tb,zsc⟩) (A:=zsd) tb_ok func90 rfl (Eq.mpr (by kernel_rfl) hv)
theorem ziy {s substr Q h} (hv:zfs prog s substr Q h):CallT prog zks [(shStr).enc s,(shStr).enc substr] yH Q h:=
 zaa (C:=⟨prog,tb,zsu⟩) (A:=zsv) tb_ok func95 rfl (Eq.mpr (by kernel_rfl) hv)
theorem zku {dst val fmt prec Q h} (hv:zej prog dst val fmt prec Q h):CallT prog zmu [(shSl).enc dst,(shFlt .f64).enc val,(shInt .u8).enc fmt,yH.enc prec] (shSl) Q h:=
 zaa (C:=⟨prog,tb,zwf⟩) (A:=zwg) tb_ok func97 rfl (Eq.mpr (by kernel_rfl) hv)
theorem ziz {i base Q h} (hv:zft prog i base Q h):CallT prog zfn [yH.enc i,yH.enc base] (shStr) Q h:=
 zaa (C:=⟨prog,tb,zsw⟩) (A:=zsx) tb_ok func103 rfl (Eq.mpr (by kernel_rfl) hv)
theorem zzt {b Q h} (hv:zmo prog b Q h):CallT prog zso [(shInt .u64).enc b] yH Q h:=
 zaa (C:=⟨prog,tb,zdu1⟩) (A:=zdv1) tb_ok func104 rfl (Eq.mpr (by kernel_rfl) hv)
theorem zwy {b s Q h} (hv:zkn prog b s Q h):Call2 prog zkg [(shInt .u64).enc b,yH.enc s] (shInt .u64) yH Q h:=
 show CallT prog zkg [(shInt .u64).enc b,yH.enc s] (shRes tb [51,3]) (fun r=>Q r.1 r.2) h from zaa (C:=⟨prog,tb,zaw1⟩) (A:=zax1) tb_ok func105 rfl (Eq.mpr (by kernel_rfl) hv)
theorem znu {s prefix_ Q h} (hv:zhy prog s prefix_ Q h):CallT prog zhv [(shStr).enc s,(shStr).enc prefix_] (zae) Q h:=
 zaa (C:=⟨prog,tb,zpl⟩) (A:=zpm) tb_ok func106 rfl (Eq.mpr (by kernel_rfl) hv)
theorem zau {c Q h} (hv:ziq prog c Q h):CallT prog zaf [(shInt .u8).enc c] (shInt .u8) Q h:=
 zaa (C:=⟨prog,tb,zxr⟩) (A:=zxs) tb_ok func107 rfl (Eq.mpr (by kernel_rfl) hv)
theorem zoj {s Q h} (hv:zec prog s Q h):CallT prog zea [(shStr).enc s] (zae) Q h:=
 zaa (C:=⟨prog,tb,zqk⟩) (A:=zql) tb_ok func108 rfl (Eq.mpr (by kernel_rfl) hv)
theorem zez {s bitSize Q h} (hv:zcx prog s bitSize Q h):Call3 prog zcw [(shStr).enc s,yH.enc bitSize] (shFlt .f64) yH (zai) Q h:=
 show CallT prog zcw [(shStr).enc s,yH.enc bitSize] (shRes tb [48,3,56]) (fun r=>Q r.1 r.2.1 r.2.2) h from zaa (C:=⟨prog,tb,znp⟩) (A:=znq) tb_ok func109 rfl (Eq.mpr (by kernel_rfl) hv)
theorem zhu {b Q h} (hv:zko prog b Q h):Call2 prog zdx [(shInt .u64).enc b] (shInt .u64) yH Q h:=
 show CallT prog zdx [(shInt .u64).enc b] (shRes tb [51,3]) (fun r=>Q r.1 r.2) h from zaa (C:=⟨prog,tb,zay1⟩) (A:=zaz1) tb_ok func110 rfl (Eq.mpr (by kernel_rfl) hv)
theorem zgj {c s l k Q h} (hv:zir prog c s l k Q h):CallT prog zex [(shInt .u64).enc c,yH.enc s,(shInt .u64).enc l,yH.enc k] yH Q h:=
 zaa (C:=⟨prog,tb,zxt⟩) (A:=zxu) tb_ok func111 rfl (Eq.mpr (by kernel_rfl) hv)
theorem zji1 {op Q h} (hv:zzc prog op Q h):CallT prog zgh1 [yH.enc op] (shStr) Q h:=
 zaa (C:=⟨prog,tb,zqr1⟩) (A:=zqs1) tb_ok func113 rfl (Eq.mpr (by kernel_rfl) hv)
theorem zgn1 {field a1 Q h} (hv:zbv1 prog field a1 Q h):CallT prog zbr1 [(shStr).enc field,.pointer (some a1)] (zae) Q h:=
 zaa (C:=⟨prog,tb,zli1⟩) (A:=zlj1) tb_ok func114 rfl (Eq.mpr (by kernel_rfl) hv)
theorem zwz {n Q h} (hv:zev1 prog n Q h):CallT prog zyu [yH.enc n] (zae) Q h:=
 zaa (C:=⟨prog,tb,zxh1⟩) (A:=zxi1) tb_ok func116 rfl (Eq.mpr (by kernel_rfl) hv)
theorem zgu {i base Q h} (hv:zno prog i base Q h):CallT prog zeb [yH.enc i,yH.enc base] (shStr) Q h:=
 zaa (C:=⟨prog,tb,zfd1⟩) (A:=zfe1) tb_ok func117 rfl (Eq.mpr (by kernel_rfl) hv)
theorem zrn {r Q h} (hv:zpa prog r Q h):Call3 prog zkt [(shPtr).enc r] (shStr) yH (zae) Q h:=
 show CallT prog zkt [(shPtr).enc r] (shRes tb [9,3,4]) (fun r=>Q r.1 r.2.1 r.2.2) h from zaa (C:=⟨prog,tb,zgi1⟩) (A:=zgj1) tb_ok func120 rfl (Eq.mpr (by kernel_rfl) hv)
theorem zed1 {text Q h} (hv:zew1 prog text Q h):Call2 prog zyv [(shStr).enc text] yH (zae) Q h:=
 show CallT prog zyv [(shStr).enc text] (shRes tb [2,4]) (fun r=>Q r.1 r.2) h from zaa (C:=⟨prog,tb,zxj1⟩) (A:=zxk1) tb_ok func121 rfl (Eq.mpr (by kernel_rfl) hv)
theorem ztj1 {text Q h} (hv:zlf1 prog text Q h):Call2 prog zle1 [(shStr).enc text] yH (zae) Q h:=
 show CallT prog zle1 [(shStr).enc text] (shRes tb [2,4]) (fun r=>Q r.1 r.2) h from zaa (C:=⟨prog,tb,zhg2⟩) (A:=zhh2) tb_ok func122 rfl (Eq.mpr (by kernel_rfl) hv)
theorem zvf {s Q h} (hv:zci prog s Q h):Call2 prog zjo [(shStr).enc s] yH (zae) Q h:=
 show CallT prog zjo [(shStr).enc s] (shRes tb [2,4]) (fun r=>Q r.1 r.2) h from zaa (C:=⟨prog,tb,zzn⟩) (A:=zzo) tb_ok func123 rfl (Eq.mpr (by kernel_rfl) hv)
theorem zul {i Q h} (hv:zis prog i Q h):CallT prog zik [yH.enc i] (shStr) Q h:=
 zaa (C:=⟨prog,tb,zxv⟩) (A:=zxw) tb_ok func124 rfl (Eq.mpr (by kernel_rfl) hv)
theorem zja {d Q h} (hv:zfu prog d Q h):CallT prog zca [(shInt .u64).enc d] yH Q h:=
 zaa (C:=⟨prog,tb,zsy⟩) (A:=zsz) tb_ok func125 rfl (Eq.mpr (by kernel_rfl) hv)
theorem zgx {a u Q h} (hv:zed prog a u Q h):Call0 prog zbk [(shSl).enc a,(shInt .u64).enc u] (Q) h:=
 show CallT prog zbk [(shSl).enc a,(shInt .u64).enc u] (shRes tb []) (fun _=>Q) h from zaa (C:=⟨prog,tb,zqm⟩) (A:=zqn) tb_ok func126 rfl (Eq.mpr (by kernel_rfl) hv)
theorem zpu {dst u base neg append_ Q h} (hv:zfd prog dst u base neg append_ Q h):Call2 prog zct [(shSl).enc dst,(shInt .u64).enc u,yH.enc base,(zae).enc neg,(zae).enc append_] (shSl) (shStr) Q h:=
 show CallT prog zct [(shSl).enc dst,(shInt .u64).enc u,yH.enc base,(zae).enc neg,(zae).enc append_] (shRes tb [74,9]) (fun r=>Q r.1 r.2) h from zaa (C:=⟨prog,tb,zse⟩) (A:=zsf) tb_ok func127 rfl (Eq.mpr (by kernel_rfl) hv)
theorem zib {x y Q h} (hv:zqi prog x y Q h):Call2 prog zmd [(shInt .u64).enc x,(shInt .u64).enc y] (shInt .u64) (shInt .u64) Q h:=
 show CallT prog zmd [(shInt .u64).enc x,(shInt .u64).enc y] (shRes tb [51,51]) (fun r=>Q r.1 r.2) h from zaa (C:=⟨prog,tb,zhu1⟩) (A:=zhv1) tb_ok func129 rfl (Eq.mpr (by kernel_rfl) hv)
theorem zgk {s c Q h} (hv:zdr prog s c Q h):CallT prog zdp [(shStr).enc s,(shInt .u8).enc c] yH Q h:=
 zaa (C:=⟨prog,tb,zpn⟩) (A:=zpo) tb_ok func131 rfl (Eq.mpr (by kernel_rfl) hv)
theorem zkv {dst neg s dp nd prec fmt shortest Q h} (hv:zco prog dst neg s dp nd prec fmt shortest Q h):CallT prog zcn [(shSl).enc dst,(zae).enc neg,(shSl).enc s,yH.enc dp,yH.enc nd,yH.enc prec,(shInt .u8).enc fmt,(zae).enc shortest] (shSl) Q h:=
 zaa (C:=⟨prog,tb,zwh⟩) (A:=zwi) tb_ok func139 rfl (Eq.mpr (by kernel_rfl) hv)
theorem zic {x Q h} (hv:zqj prog x Q h):CallT prog zil [(shInt .u64).enc x] yH Q h:=
 zaa (C:=⟨prog,tb,zhw1⟩) (A:=zhx1) tb_ok func140 rfl (Eq.mpr (by kernel_rfl) hv)
theorem zqv {s d p nd Q h} (hv:zfv prog s d p nd Q h):Call2 prog zdb [(shSl).enc s,(shInt .u64).enc d,yH.enc p,yH.enc nd] yH yH Q h:=
 show CallT prog zdb [(shSl).enc s,(shInt .u64).enc d,yH.enc p,yH.enc nd] (shRes tb [3,3]) (fun r=>Q r.1 r.2) h from zaa (C:=⟨prog,tb,zta⟩) (A:=ztb) tb_ok func142 rfl (Eq.mpr (by kernel_rfl) hv)
theorem zee {x Q h} (hv:zfw prog x Q h):CallT prog zbf [yH.enc x] yH Q h:=
 zaa (C:=⟨prog,tb,ztc⟩) (A:=ztd) tb_ok func143 rfl (Eq.mpr (by kernel_rfl) hv)
theorem zbu {a k Q h} (hv:zas prog a k Q h):Call0 prog zar [(shPtr).enc a,yH.enc k] (Q) h:=
 show CallT prog zar [(shPtr).enc a,yH.enc k] (shRes tb []) (fun _=>Q) h from zaa (C:=⟨prog,tb,zpp⟩) (A:=zpq) tb_ok func146 rfl (Eq.mpr (by kernel_rfl) hv)
theorem zla {m e Q h} (hv:zck prog m e Q h):Call2 prog zcj [(shInt .u64).enc m,yH.enc e] (shInt .u64) yH Q h:=
 show CallT prog zcj [(shInt .u64).enc m,yH.enc e] (shRes tb [51,3]) (fun r=>Q r.1 r.2) h from zaa (C:=⟨prog,tb,zmp⟩) (A:=zmq) tb_ok func148 rfl (Eq.mpr (by kernel_rfl) hv)
theorem zgv {x Q h} (hv:zjs prog x Q h):CallT prog zgg [(shInt .u64).enc x] (shSl) Q h:=
 zaa (C:=⟨prog,tb,zff1⟩) (A:=zfg1) tb_ok func151 rfl (Eq.mpr (by kernel_rfl) hv)
theorem zcs {a n Q h} (hv:zgr prog a n Q h):CallT prog zby [(shSl).enc a,yH.enc n] (shSl) Q h:=
 zaa (C:=⟨prog,tb,zba1⟩) (A:=zbb1) tb_ok func152 rfl (Eq.mpr (by kernel_rfl) hv)
theorem zfa {a n Q h} (hv:zlq prog a n Q h):CallT prog zen [(shSl).enc a,yH.enc n] (shSl) Q h:=
 zaa (C:=⟨prog,tb,zcm1⟩) (A:=zcn1) tb_ok func153 rfl (Eq.mpr (by kernel_rfl) hv)
theorem zgl {a b Q h} (hv:zit prog a b Q h):CallT prog zcc [(shSl).enc a,(shSl).enc b] yH Q h:=
 zaa (C:=⟨prog,tb,zxx⟩) (A:=zxy) tb_ok func154 rfl (Eq.mpr (by kernel_rfl) hv)
theorem zyf {a b Q h} (hv:zlr prog a b Q h):CallT prog zli [(shSl).enc a,(shSl).enc b] (shSl) Q h:=
 zaa (C:=⟨prog,tb,zco1⟩) (A:=zcp1) tb_ok func155 rfl (Eq.mpr (by kernel_rfl) hv)
theorem zek {a m Q h} (hv:zgs prog a m Q h):CallT prog zcm [(shSl).enc a,(shInt .u32).enc m] (shSl) Q h:=
 zaa (C:=⟨prog,tb,zbc1⟩) (A:=zbd1) tb_ok func156 rfl (Eq.mpr (by kernel_rfl) hv)
theorem zkw {s Q h} (hv:zan prog s Q h):Call3 prog zhn [(shStr).enc s] (shFlt .f64) yH (zai) Q h:=
 show CallT prog zhn [(shStr).enc s] (shRes tb [48,3,56]) (fun r=>Q r.1 r.2.1 r.2.2) h from zaa (C:=⟨prog,tb,zwj⟩) (A:=zwk) tb_ok func158 rfl (Eq.mpr (by kernel_rfl) hv)
theorem zcs1 {s base bitSize Q h} (hv:zpb prog s base bitSize Q h):Call2 prog zow [(shStr).enc s,yH.enc base,yH.enc bitSize] yH (zai) Q h:=
 show CallT prog zow [(shStr).enc s,yH.enc base,yH.enc bitSize] (shRes tb [2,56]) (fun r=>Q r.1 r.2) h from zaa (C:=⟨prog,tb,zgk1⟩) (A:=zgl1) tb_ok func160 rfl (Eq.mpr (by kernel_rfl) hv)
theorem zef {b Q h} (hv:zfx prog b Q h):CallT prog zfo [(zae).enc b] yH Q h:=
 zaa (C:=⟨prog,tb,zte⟩) (A:=ztf) tb_ok func161 rfl (Eq.mpr (by kernel_rfl) hv)
theorem zok {x Q h} (hv:ziu prog x Q h):CallT prog zim [yH.enc x] (zae) Q h:=
 zaa (C:=⟨prog,tb,zqo⟩) (A:=zqp) tb_ok func162 rfl (Eq.mpr (by kernel_rfl) hv)
theorem ztn {x Q h} (hv:zhs prog x Q h):CallT prog zmv [(shInt .u64).enc x] yH Q h:=
 zaa (C:=⟨prog,tb,zwl⟩) (A:=zwm) tb_ok func163 rfl (Eq.mpr (by kernel_rfl) hv)
theorem zto {e Q h} (hv:zht prog e Q h):CallT prog zmw [yH.enc e] yH Q h:=
 zaa (C:=⟨prog,tb,zwn⟩) (A:=zwo) tb_ok func169 rfl (Eq.mpr (by kernel_rfl) hv)
theorem zeu {pre e p lp Q h} (hv:zcf prog pre e p lp Q h):Call0 prog zdl [(shPtr).enc pre,yH.enc e,yH.enc p,yH.enc lp] (Q) h:=
 show CallT prog zdl [(shPtr).enc pre,yH.enc e,yH.enc p,yH.enc lp] (shRes tb []) (fun _=>Q) h from zaa (C:=⟨prog,tb,zug⟩) (A:=zuh) tb_ok func170 rfl (Eq.mpr (by kernel_rfl) hv)
theorem zeg {x Q h} (hv:zfy prog x Q h):CallT prog zfp [yH.enc x] yH Q h:=
 zaa (C:=⟨prog,tb,ztg⟩) (A:=zth) tb_ok func171 rfl (Eq.mpr (by kernel_rfl) hv)
theorem zga {x c Q h} (hv:zcp prog x c Q h):CallT prog zbx [(shInt .u64).enc x,(shPtr).enc c] (shInt .u64) Q h:=
 zaa (C:=⟨prog,tb,zwp⟩) (A:=zwq) tb_ok func172 rfl (Eq.mpr (by kernel_rfl) hv)
theorem zfi {u x Q h} (hv:zdg prog u x Q h):CallT prog zde [(shInt .u64).enc u,yH.enc x] (shInt .u64) Q h:=
 zaa (C:=⟨prog,tb,zod⟩) (A:=zoe) tb_ok func173 rfl (Eq.mpr (by kernel_rfl) hv)
theorem zng {u Q h} (hv:zdm prog u Q h):CallT prog zhh [(shInt .u64).enc u] (shInt .u64) Q h:=
 zaa (C:=⟨prog,tb,zpc⟩) (A:=zpd) tb_ok func174 rfl (Eq.mpr (by kernel_rfl) hv)
theorem zmr {u Q h} (hv:zdh prog u Q h):CallT prog zgw [(shInt .u64).enc u] (shInt .u64) Q h:=
 zaa (C:=⟨prog,tb,zof⟩) (A:=zog) tb_ok func175 rfl (Eq.mpr (by kernel_rfl) hv)
theorem zbi {u Q h} (hv:zdi prog u Q h):CallT prog zdf [(shInt .u64).enc u] (shInt .u64) Q h:=
 zaa (C:=⟨prog,tb,zoh⟩) (A:=zoi) tb_ok func176 rfl (Eq.mpr (by kernel_rfl) hv)
theorem zlv {x Q h} (hv:ziv prog x Q h):CallT prog znx [(shInt .u64).enc x] (shInt .u64) Q h:=
 zaa (C:=⟨prog,tb,zxz⟩) (A:=zya) tb_ok func177 rfl (Eq.mpr (by kernel_rfl) hv)
theorem zml {a Q h} (hv:zjt prog a Q h):Call0 prog zfq [(shPtr).enc a] (Q) h:=
 show CallT prog zfq [(shPtr).enc a] (shRes tb []) (fun _=>Q) h from zaa (C:=⟨prog,tb,zzp⟩) (A:=zzq) tb_ok func179 rfl (Eq.mpr (by kernel_rfl) hv)
theorem zqw {a k Q h} (hv:zfz prog a k Q h):Call0 prog zdc [(shPtr).enc a,(shInt .u64).enc k] (Q) h:=
 show CallT prog zdc [(shPtr).enc a,(shInt .u64).enc k] (shRes tb []) (fun _=>Q) h from zaa (C:=⟨prog,tb,zti⟩) (A:=ztj) tb_ok func180 rfl (Eq.mpr (by kernel_rfl) hv)
theorem zdt {a k Q h} (hv:zfe prog a k Q h):Call0 prog zcu [(shPtr).enc a,(shInt .u64).enc k] (Q) h:=
 show CallT prog zcu [(shPtr).enc a,(shInt .u64).enc k] (shRes tb []) (fun _=>Q) h from zaa (C:=⟨prog,tb,zsg⟩) (A:=zsh) tb_ok func181 rfl (Eq.mpr (by kernel_rfl) hv)
theorem znv {a nd Q h} (hv:zds prog a nd Q h):CallT prog zhw [(shPtr).enc a,yH.enc nd] (zae) Q h:=
 zaa (C:=⟨prog,tb,zpr⟩) (A:=zps) tb_ok func182 rfl (Eq.mpr (by kernel_rfl) hv)
theorem zjb {a Q h} (hv:zls prog a Q h):CallT prog zhi [(shSl).enc a] (shSl) Q h:=
 zaa (C:=⟨prog,tb,zcq1⟩) (A:=zcr1) tb_ok func185 rfl (Eq.mpr (by kernel_rfl) hv)
theorem zcv {s Q h} (hv:zbd prog s Q h):Call3 prog zha [(shStr).enc s] (shFlt .f64) yH (zae) Q h:=
 show CallT prog zha [(shStr).enc s] (shRes tb [48,3,4]) (fun r=>Q r.1 r.2.1 r.2.2) h from zaa (C:=⟨prog,tb,zux⟩) (A:=zuy) tb_ok func186 rfl (Eq.mpr (by kernel_rfl) hv)
theorem zeh {s Q h} (hv:zax prog s Q h):Call7 prog zfr [(shStr).enc s] (shInt .u64) yH (zae) (zae) (zae) yH (zae) Q h:=
 show CallT prog zfr [(shStr).enc s] (shRes tb [51,3,4,4,4,3,4]) (fun r=>Q r.1 r.2.1 r.2.2.1 r.2.2.2.1 r.2.2.2.2.1 r.2.2.2.2.2.1 r.2.2.2.2.2.2) h from zaa (C:=⟨prog,tb,ztk⟩) (A:=ztl) tb_ok func187 rfl (Eq.mpr (by kernel_rfl) hv)
theorem zsj {s flt mantissa exp neg trunc Q h} (hv:zhd prog s flt mantissa exp neg trunc Q h):Call2 prog zhb [(shStr).enc s,(shPtr).enc flt,(shInt .u64).enc mantissa,yH.enc exp,(zae).enc neg,(zae).enc trunc] (shFlt .f64) (zai) Q h:=
 show CallT prog zhb [(shStr).enc s,(shPtr).enc flt,(shInt .u64).enc mantissa,yH.enc exp,(zae).enc neg,(zae).enc trunc] (shRes tb [48,56]) (fun r=>Q r.1 r.2) h from zaa (C:=⟨prog,tb,zuz⟩) (A:=zva) tb_ok func188 rfl (Eq.mpr (by kernel_rfl) hv)
theorem zpg {b s Q h} (hv:zes prog b s Q h):CallT prog zeo [(shPtr).enc b,(shStr).enc s] (zae) Q h:=
 zaa (C:=⟨prog,tb,zrj⟩) (A:=zrk) tb_ok func193 rfl (Eq.mpr (by kernel_rfl) hv)
theorem zlw {d flt Q h} (hv:zcq prog d flt Q h):Call2 prog zbo [(shPtr).enc d,(shPtr).enc flt] (shInt .u64) (zae) Q h:=
 show CallT prog zbo [(shPtr).enc d,(shPtr).enc flt] (shRes tb [51,4]) (fun r=>Q r.1 r.2) h from zaa (C:=⟨prog,tb,zmx⟩) (A:=zmy) tb_ok func194 rfl (Eq.mpr (by kernel_rfl) hv)
theorem zap {b Q h} (hv:zbl prog b Q h):CallT prog zcg [(zae).enc b] (shInt .u64) Q h:=
 zaa (C:=⟨prog,tb,zqq⟩) (A:=zqr) tb_ok func195 rfl (Eq.mpr (by kernel_rfl) hv)
theorem zhl {mantissa exp neg Q h} (hv:zet prog mantissa exp neg Q h):Call2 prog zep [(shInt .u64).enc mantissa,yH.enc exp,(zae).enc neg] (shFlt .f64) (zae) Q h:=
 show CallT prog zep [(shInt .u64).enc mantissa,yH.enc exp,(zae).enc neg] (shRes tb [48,4]) (fun r=>Q r.1 r.2) h from zaa (C:=⟨prog,tb,zrl⟩) (A:=zrm) tb_ok func197 rfl (Eq.mpr (by kernel_rfl) hv)
theorem zdj {d p sign Q h} (hv:zbm prog d p sign Q h):Call2 prog zch [(shInt .u64).enc d,yH.enc p,(shInt .u64).enc sign] (shFlt .f64) (zai) Q h:=
 show CallT prog zch [(shInt .u64).enc d,yH.enc p,(shInt .u64).enc sign] (shRes tb [48,56]) (fun r=>Q r.1 r.2) h from zaa (C:=⟨prog,tb,zqs⟩) (A:=zqt) tb_ok func198 rfl (Eq.mpr (by kernel_rfl) hv)
theorem zro {x Q h} (hv:zlt prog x Q h):CallT prog zlj [(shInt .u64).enc x] yH Q h:=
 zaa (C:=⟨prog,tb,zui⟩) (A:=zuj) tb_ok func200 rfl (Eq.mpr (by kernel_rfl) hv)
theorem zmf {b s Q h} (hv:zcy prog b s Q h):CallT prog zgh [(shSl).enc b,(shStr).enc s] (zae) Q h:=
 zaa (C:=⟨prog,tb,znr⟩) (A:=zns) tb_ok func202 rfl (Eq.mpr (by kernel_rfl) hv)
theorem zat {s prefix_ Q h} (hv:zak prog s prefix_ Q h):CallT prog zbp [(shStr).enc s,(shStr).enc prefix_] yH Q h:=
 zaa (C:=⟨prog,tb,zjd⟩) (A:=zje) tb_ok func203 rfl (Eq.mpr (by kernel_rfl) hv)
theorem znh {sign Q h} (hv:zkp prog sign Q h):CallT prog zpz [yH.enc sign] (shFlt .f64) Q h:=
 zaa (C:=⟨prog,tb,zbe1⟩) (A:=zbf1) tb_ok func204 rfl (Eq.mpr (by kernel_rfl) hv)
theorem zxa {Q h} (hv:zqb prog  Q h):CallT prog zqa [] (shFlt .f64) Q h:=
 zaa (C:=⟨prog,tb,zbg1⟩) (A:=zbh1) tb_ok func205 rfl (Eq.mpr (by kernel_rfl) hv)
theorem zjf {a Q h} (hv:zbz prog a Q h):CallT prog zdy [(shPtr).enc a] (shInt .u64) Q h:=
 zaa (C:=⟨prog,tb,zkq⟩) (A:=zkr) tb_ok func207 rfl (Eq.mpr (by kernel_rfl) hv)
theorem zgb {m e Q h} (hv:zcr prog m e Q h):Call2 prog zho [(shInt .u64).enc m,yH.enc e] (shFlt .f64) (zai) Q h:=
 show CallT prog zho [(shInt .u64).enc m,yH.enc e] (shRes tb [48,56]) (fun r=>Q r.1 r.2) h from zaa (C:=⟨prog,tb,zwr⟩) (A:=zws) tb_ok func208 rfl (Eq.mpr (by kernel_rfl) hv)
theorem zpv {b s Q h} (hv:zff prog b s Q h):Call2 prog zbw [(shPtr).enc b,(shStr).enc s] yH (zai) Q h:=
 show CallT prog zbw [(shPtr).enc b,(shStr).enc s] (shRes tb [3,56]) (fun r=>Q r.1 r.2) h from zaa (C:=⟨prog,tb,zry⟩) (A:=zrz) tb_ok func42 rfl (Eq.mpr (by kernel_rfl) hv)
abbrev f64 :FloatKind:=.f64
def isNaN (f:Nat):Bool:=f64.format.order f f !=some .eq
def zof1 (b:Int):Nat:=(IntKind.wrap .u64 b).toNat
section
variable {P:Program} {h:Hp}
theorem zpl2 (x y t:Nat):isNaN ((Question.nanBits .f64 x y).cut t)=true:=by
 have key:∀s z:Nat,s<2->z<2^52-1->isNaN (s*2^63+0x7ff0000000000000+1+z)=true:=by
  intro s z hs hz
  have e1:(s*2^63+0x7ff0000000000000+1+z)%Ieee.double.signWeight=0x7ff0000000000000+1+z:=by
   show (s*2^63+0x7ff0000000000000+1+z)%9223372036854775808=_
   omega
  have e2:Ieee.double.read (s*2^63+0x7ff0000000000000+1+z)=.nan ((s*2^63+0x7ff0000000000000+1+z) / Ieee.double.signWeight%2==1) (1+z):=by
   unfold Ieee.Format.read
   rw [e1]
   have b1:Ieee.double.binade=4503599627370496:=rfl
   have b2:Ieee.double.infRung=9218868437227405312:=rfl
   dsimp only
   rw [b1,b2,if_neg (by omega),if_neg (by omega),if_neg (by omega),show 0x7ff0000000000000+1+z-9218868437227405312=1+z by omega]
  unfold isNaN
  show ((Ieee.double.read _).order (Ieee.double.read _) !=some .eq)=true
  rw [e2]
  rfl
 have:=key (t%2) ((t / 2)%(2^52-1)) (by omega) (Nat.mod_lt _ (by decide))
 exact this
end
end Lf
namespace Lf
open Ieee Go
def rzD (w:Nat):Int:=if negD w then -((w%9223372036854775808:Nat):Int) else ((w%9223372036854775808:Nat):Int)
def valD (r:Nat):Nat:=zac r*2^(zad r+1074).toNat
theorem ztk1 {r s:Nat} (h:r<s):valD r<valD s:=by
 unfold valD zac zad
 by_cases h1:s<4503599627370496
 ·rw [if_pos (show r<4503599627370496 by omega),if_pos (show r<4503599627370496 by omega),if_pos h1,if_pos h1]
  simpa using h
 ·rw [if_neg h1,if_neg h1]
  have e2:(((s / 4503599627370496:Nat):Int)-1075+1074).toNat=s / 4503599627370496-1:=by omega
  rw [e2]
  by_cases h2:r<4503599627370496
  ·rw [if_pos h2,if_pos h2]
   have:=Nat.two_pow_pos (s / 4503599627370496-1)
   have h3:(s%4503599627370496+4503599627370496)*1<=(s%4503599627370496+4503599627370496)*2^(s / 4503599627370496-1):=Nat.mul_le_mul_left _ this
   show r*1<_
   omega
  ·rw [if_neg h2,if_neg h2,show (((r / 4503599627370496:Nat):Int)-1075+1074).toNat=r / 4503599627370496-1 by omega]
   by_cases h3:r / 4503599627370496=s / 4503599627370496
   ·rw [h3]
    exact Nat.mul_lt_mul_of_pos_right (by omega) (Nat.two_pow_pos _)
   ·have h4:r / 4503599627370496-1+1<=s / 4503599627370496-1:=by omega
    have h5:2^(r / 4503599627370496-1+1)<=2^(s / 4503599627370496-1):=Nat.pow_le_pow_right (by decide) h4
    rw [Nat.pow_succ] at h5
    have h6:(r%4503599627370496+4503599627370496)*2^(r / 4503599627370496-1)<(2*4503599627370496)*2^(r / 4503599627370496-1):=Nat.mul_lt_mul_of_pos_right (by omega) (Nat.two_pow_pos _)
    have h7:4503599627370496*(2^(r / 4503599627370496-1)*2)<=(s%4503599627370496+4503599627370496)*2^(s / 4503599627370496-1):=Nat.mul_le_mul (by omega) h5
    have h8:(2*4503599627370496)*2^(r / 4503599627370496-1)=4503599627370496*(2^(r / 4503599627370496-1)*2):=by omega
    omega
theorem cmpZ {x y X Y:Int} (h1:x<y↔X<Y) (h2:x=y↔X=Y):compare x y=compare X Y:=by
 show compareOfLessAndEq x y=compareOfLessAndEq X Y
 unfold compareOfLessAndEq
 simp only [h1,h2]
theorem zzu {a b:Nat} (ha:a<18446744073709551616) (hb:b<18446744073709551616) (na:¬9218868437227405312<a%9223372036854775808) (nb:¬9218868437227405312<b%9223372036854775808):dbl.order a b=some (compare (rzD a) (rzD b)):=by
 unfold Format.order
 have lt_:∀ {x y:Int},x<y->compare x y=.lt:=fun {x y} h=>by show compareOfLessAndEq x y=_;unfold compareOfLessAndEq;rw [if_pos h]
 have gt_:∀ {x y:Int},y<x->compare x y=.gt:=fun {x y} h=>by show compareOfLessAndEq x y=_;unfold compareOfLessAndEq;rw [if_neg (by omega),if_neg (by omega)]
 have eq_:∀ {x y:Int},x=y->compare x y=.eq:=fun {x y} h=>by show compareOfLessAndEq x y=_;unfold compareOfLessAndEq;rw [if_neg (by omega),if_pos h]
 by_cases ia:a%9223372036854775808=9218868437227405312
 ·rw [zsr ha ia]
  by_cases ib:b%9223372036854775808=9218868437227405312
  ·rw [zsr hb ib]
   unfold rzD
   rw [ia,ib]
   cases negD a<;>cases negD b<;>rfl
  ·rw [zsq hb (by omega)]
   unfold rzD
   rw [ia]
   have e1:(Datum.infinity (negD a)).order (.number (negD b) (zac (b%9223372036854775808)) (zad (b%9223372036854775808)))=some (if negD a then .lt else .gt):=rfl
   rw [e1]
   cases negD a
   ·rw [gt_ (by cases negD b<;>simp<;>omega)];rfl
   ·rw [lt_ (by cases negD b<;>simp<;>omega)];rfl
 ·rw [zsq ha (by omega)]
  by_cases ib:b%9223372036854775808=9218868437227405312
  ·rw [zsr hb ib]
   unfold rzD
   rw [ib]
   have e1:(Datum.number (negD a) (zac (a%9223372036854775808)) (zad (a%9223372036854775808))).order (.infinity (negD b))=some (if negD b then .gt else .lt):=rfl
   rw [e1]
   cases negD b
   ·rw [lt_ (by cases negD a<;>simp<;>omega)];rfl
   ·rw [gt_ (by cases negD a<;>simp<;>omega)];rfl
  ·rw [zsq hb (by omega)]
   have e1:∀ {s m i t n j},(Datum.number s m i).order (.number t n j)=some (compare (signed s m (i-min i j).toNat) (signed t n (j-min i j).toNat)):=rfl
   rw [e1,zta1,zta1]
   unfold rzD
   have hva:zac (a%9223372036854775808)*2^(zad (a%9223372036854775808)-min (zad (a%9223372036854775808)) (zad (b%9223372036854775808))).toNat*2^(min (zad (a%9223372036854775808)) (zad (b%9223372036854775808))+1074).toNat=valD (a%9223372036854775808):=by
    unfold valD
    have h1: -1074<=zad (a%9223372036854775808):=by unfold zad;split<;>omega
    have h2: -1074<=zad (b%9223372036854775808):=by unfold zad;split<;>omega
    rw [Nat.mul_assoc,<-Nat.pow_add]
    congr 2
    omega
   have hvb:zac (b%9223372036854775808)*2^(zad (b%9223372036854775808)-min (zad (a%9223372036854775808)) (zad (b%9223372036854775808))).toNat*2^(min (zad (a%9223372036854775808)) (zad (b%9223372036854775808))+1074).toNat=valD (b%9223372036854775808):=by
    unfold valD
    have h1: -1074<=zad (a%9223372036854775808):=by unfold zad;split<;>omega
    have h2: -1074<=zad (b%9223372036854775808):=by unfold zad;split<;>omega
    rw [Nat.mul_assoc,<-Nat.pow_add]
    congr 2
    omega
   have hP:=Nat.two_pow_pos (min (zad (a%9223372036854775808)) (zad (b%9223372036854775808))+1074).toNat
   have hz:∀ {r x P:Nat},x*P=valD r->0<P->(x=0↔r=0):=fun {r x P} h hp=>by
    constructor
    ·intro e
     subst e
     rw [Nat.zero_mul] at h
     refine Classical.byContradiction fun hr=> ?_
     have:=ztk1 (r:=0) (s:=r) (by omega)
     omega
    ·intro e
     subst e
     have:valD 0=0:=by unfold valD zac;simp
     rw [this] at h
     rcases Nat.mul_eq_zero.1 h with h | h<;>omega
   generalize 2^(min (zad (a%9223372036854775808)) (zad (b%9223372036854775808))+1074).toNat=P at*
   generalize zac (a%9223372036854775808)*2^(zad (a%9223372036854775808)-min (zad (a%9223372036854775808)) (zad (b%9223372036854775808))).toNat=x at*
   generalize zac (b%9223372036854775808)*2^(zad (b%9223372036854775808)-min (zad (a%9223372036854775808)) (zad (b%9223372036854775808))).toNat=y at*
   generalize a%9223372036854775808=r at*
   generalize b%9223372036854775808=s at*
   have hlt:∀ {r s x y:Nat},x*P=valD r->y*P=valD s->(x<y↔r<s):=fun {r s x y} h1 h2=>by
    constructor
    ·intro h
     have h3:x*P<y*P:=Nat.mul_lt_mul_of_pos_right h hP
     rw [h1,h2] at h3
     rcases Nat.lt_trichotomy r s with h4 | h4 | h4
     ·exact h4
     ·subst h4;omega
     ·have:=ztk1 h4;omega
    ·intro h
     have h3:=ztk1 h
     rw [<-h1,<-h2] at h3
     exact Nat.lt_of_mul_lt_mul_right h3
   have l1:=hlt hva hvb
   have l2:=hlt hvb hva
   have z1:=hz hva hP
   have z2:=hz hvb hP
   congr 1
   refine cmpZ ?_ ?_<;>cases negD a<;>cases negD b<;>simp only [Bool.false_eq_true,if_true,if_false,reduceIte]<;>omega
theorem zqv1 {w:Nat} (h:w<18446744073709551616):isNaN w=zor w:=by
 unfold isNaN zor
 show (dbl.order w w !=some .eq)=_
 by_cases hn:9218868437227405312<w%9223372036854775808
 ·rw [decide_eq_true hn]
  unfold Format.order
  rw [zgc1 h hn]
  rfl
 ·rw [zzu h h hn hn,decide_eq_false hn,show compare (rzD w) (rzD w)=.eq by show compareOfLessAndEq _ _=_;unfold compareOfLessAndEq;rw [if_neg (by omega),if_pos rfl]]
  rfl
def zak2 (n:Int):Nat:=zjj (decide (n<0)) n.natAbs 0 false
theorem zlp2 {n:Int}:f64.nearest n=zak2 n:=by
 show dbl.write (.number (decide (n<0)) n.natAbs 0)=_
 rw [zbm1];rfl
theorem zhi2 {b:Int}:zof1 b<18446744073709551616:=by
 unfold zof1 IntKind.wrap
 simp [IntKind.signed,IntKind.bits]
 omega
end Lf
namespace Lf
open Go
section
variable {P:Program} {h:Hp}
theorem semW_bind' {α β:Type} (s:Sem α) (f:α->Sem β) {K:β->Hp->Prop}:semW P (s>>=f) K h↔semW P s (fun a h=>semW P (f a) K h) h:=zkd1 s f
theorem zhj2 {t:Nat} {i:TypeInfo} (hi:P.info? t=some i) {K:Nat->Hp->Prop} (hk:K i.size h):semW P (sizeOf t) K h:=by
  show semW P (Sem.bind (match P.info? t with
    | some d=>Sem.pure d
    | none=>_) _) K h
  rw [hi]
  exact hk
theorem zzv {a:Addr} {o:Obj} (e:h a.block=some o) {K:Bool->Hp->Prop} (hk:K (hfroz h a) h):semW P (frozen a) K h:=⟨⟨o,e⟩,hk⟩
theorem zdi1 {r:Nat} {o:Obj} (e:h r=some o) {K:Option (TypeId×Nat)->Hp->Prop} (hk:K (zvv1 o) h):semW P (shape r) K h:=⟨o,e,hk⟩
theorem zqw1 {b:Nat} {cs:List Value} (k:Blk h b cs) (off:Nat):hfroz h ⟨b,off,none⟩=false:=by
  obtain ⟨t,e⟩:=k
  unfold hfroz
  simp [e]
theorem zln1 {b off:Nat} {cs:List Value} (k:Blk h b cs) {K:Unit->Hp->Prop} (hk:K () h):semW P (noView ⟨b,off,none⟩) K h:=by
  obtain ⟨t,e⟩:=k
  unfold noView viewAt
  refine (semW_bind' _ _).2 ((semW_bind' _ _).2 (zdi1 (r:=b) e ?_))
  exact hk
theorem zee1 {b off:Nat} {cs:List Value} (k:Blk h b cs) {K:Bool->Hp->Prop} (hk:K false h):semW P (stringish ⟨b,off,none⟩) K h:=by
  have k0:=k
  obtain ⟨t,e⟩:=k
  unfold stringish
  refine (semW_bind' _ _).2 (zzv (a:=⟨b,off,none⟩) e ?_)
  rw [zqw1 k0]
  refine (semW_bind' _ _).2 (zdi1 (r:=b) e ?_)
  refine zzv (a:=⟨b,_,none⟩) e ?_
  rw [zqw1 k0]
  exact hk
end
section
variable {α:Type} {h:Hp} {sz:Nat} {enc:α->List Value} {l:Sl} {xs:List α}
theorem Rw.fld (r:Rw h sz enc l xs) (henc:∀x,(enc x).length=sz) (hsz:0<sz) {sh:Shape} (g:α->sh.T) {j:Nat} (hg:∀x,((enc x).drop j).take (zaj (sh.enc (g x))).length=zaj (sh.enc (g x))) {i:Int} (h0:0<=i) (h1:i<(xs.length:Int))
    {K:sh.T->Prop} (hk:∀x,xs[i.toNat]? =some x->K (g x)):InB l.base l.len i/\LdW none sh h ((sat l.base sz i).add j) K:=by
  obtain ⟨e1,x,hx,hl⟩:=r.read henc hsz h0 (by rw [r.1];exact h1)
  refine ⟨e1,g x,fun q v hv=> ?_,hk x hx⟩
  rw [zeh1]
  refine hl (j+q) v ?_
  grind
theorem Blk.rd {b:Nat} {cs new:List Value} (k:Blk h b cs) {off n:Nat} (hn:new.length=n) (e:(cs.drop off).take n=new):zbj1 h (some ⟨b,off,none⟩) n new:=⟨hn,.inr ⟨_,rfl,k.ldIs e⟩⟩
theorem zhk2 {xs:List α} {i:Nat} (x:α) (hi:i<xs.length):xs.set i x=xs.take i++x::xs.drop (i+1):=by
  rw [List.set_eq_take_append_cons_drop,if_pos hi]
theorem OwnF.store {F:List Nat} (o:OwnF h sz enc l xs F) (henc:∀x,(enc x).length=sz) {i:Int} (h0:0<=i) (h1:i<(xs.length:Int)) (x:α) {K:Hp->Prop} (hk:∀h',OwnF h' sz enc l (xs.set i.toNat x) F->Mv F h F h'->K h'):
    InB l.base l.len i/\StW h (sat l.base sz i) (enc x) K:=by
  obtain ⟨o1,o2,o3⟩:=o
  rcases o3 with ⟨_,e2,_⟩ | ⟨b,cs,e1,rfl,kb,e4,e5⟩
  · omega
  · refine ⟨⟨by rw [e1];simp,h0,by omega⟩,?_⟩
    have hi:i.toNat<xs.length:=by omega
    have ha:sat l.base sz i=⟨b,i.toNat*sz,none⟩:=by unfold sat;rw [e1,Option.getD_some,box_add,Nat.zero_add]
    rw [ha]
    have hmul:i.toNat*sz+sz<=l.len*sz:=by
      have:=Nat.mul_le_mul_right sz (show i.toNat+1<=l.len by omega)
      grind
    have hmul2:l.len*sz<=l.cap*sz:=Nat.mul_le_mul_right sz o2
    refine zpz1 kb (by grind) fun h' m' k'=> ?_
    rw [henc] at k'
    refine hk h' ⟨by simp [o1],o2,.inr ⟨b,_,e1,rfl,k',?_,?_⟩⟩ m'
    · grind
    · rw [zhk2 x hi]
      have t1:cs.take (i.toNat*sz)=(xs.take i.toNat).flatMap enc:=by
        rw [zgb1 henc,<-e5,List.take_take];congr 1;omega
      have t2:(cs.drop (i.toNat*sz+sz)).take (l.len*sz-(i.toNat*sz+sz))=(xs.drop (i.toNat+1)).flatMap enc:=by
        rw [zkz1 henc,<-e5,Nat.add_mul,Nat.one_mul,List.drop_take]
      have hl1:(cs.take (i.toNat*sz)++enc x).length=i.toNat*sz+sz:=by
        grind
      rw [List.take_append,hl1,t2,List.take_of_length_le (by omega),t1]
      simp
end
end Lf
