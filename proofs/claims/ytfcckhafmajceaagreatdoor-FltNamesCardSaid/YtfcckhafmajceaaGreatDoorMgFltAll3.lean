/-
  Part 4 of the texts that the claim leans on.
-/
import Derived.Test.YtfcckhafmajceaaGreatDoorRows
import Derived.Laws.Externs
import Derived.Test.YtfcckhafmajceaaGreatDoorMgFltAll2
/-
  By program: what the functions do.
-/
set_option linter.unusedVariables false
namespace Lf
open Go

def firebreaklaw05_FltNames_w (P : Program)  (Q : (Bool → (Hp → Prop))) (h : Hp) : Prop :=
 EffC (some true) (CallT P n_firebreaklaw05_fixed [] shBool) (fun r h1 =>
 LetW (true && r) fun y =>
 Q y h1) h

def firebreaklaw05_FltDoes_w (P : Program) (op : Int) (b : Int) (c : Int) (Q : (Bool → (Hp → Prop))) (h : Hp) : Prop :=
 Call2 P n_flt_Do [(.int .i64 op), (.int .i64 b), (.int .i64 c)] (shInt .i64) (shInt .i64) (fun r r1 h1 =>
 Call2 P n_firebreakref05_Do [(.int .i64 op), (.int .i64 b), (.int .i64 c)] (shInt .i64) (shInt .i64) (fun r2 r3 h2 =>
 LetW ((r != r2) || (r1 != r3)) fun y =>
 (if y = true then
 Q false h2
 else
 LoopW1 (α1 := Int) (fun again k h3 =>
 (if (decide (k ≤ (22 : Int))) = true then
 Call2 P n_flt_Do [(.int .i64 k), (.int .i64 b), (.int .i64 c)] (shInt .i64) (shInt .i64) (fun r4 r5 h4 =>
 Call2 P n_firebreakref05_Do [(.int .i64 k), (.int .i64 b), (.int .i64 c)] (shInt .i64) (shInt .i64) (fun r6 r7 h5 =>
 LetW ((r4 != r6) || (r5 != r7)) fun y1 =>
 (if y1 = true then
 Q false h5
 else
 Call2 P n_flt_Do [(.int .i64 k), (.int .i64 c), (.int .i64 b)] (shInt .i64) (shInt .i64) (fun r8 r9 h6 =>
 Call2 P n_firebreakref05_Do [(.int .i64 k), (.int .i64 c), (.int .i64 b)] (shInt .i64) (shInt .i64) (fun r10 r11 h7 =>
 LetW ((r8 != r10) || (r9 != r11)) fun y2 =>
 (if y2 = true then
 Q false h7
 else
 again (IntKind.wrap .i64 (k + (1 : Int))) h7)) h6) h5)) h4) h3
 else
 CallT P n_firebreaklaw05_fixed [] shBool (fun r4 h4 =>
 Q r4 h4) h3)) (14 : Int) h2)) h1) h

def firebreaklaw05_FltFollows_w (P : Program) (a : Int) (b : Int) (Q : (Bool → (Hp → Prop))) (h : Hp) : Prop :=
 CallT P n_firebreaklaw05_do [(.int .i64 (15 : Int)), (.int .i64 a), (.int .i64 b)] (shInt .i64) (fun r h1 =>
 CallT P n_firebreaklaw05_do [(.int .i64 (16 : Int)), (.int .i64 a), (.int .i64 b)] (shInt .i64) (fun r1 h2 =>
 CallT P n_firebreaklaw05_do [(.int .i64 (17 : Int)), (.int .i64 a), (.int .i64 b)] (shInt .i64) (fun r2 h3 =>
 CallT P n_firebreaklaw05_do [(.int .i64 (18 : Int)), (.int .i64 a), (.int .i64 b)] (shInt .i64) (fun r3 h4 =>
 CallT P n_firebreaklaw05_do [(.int .i64 (15 : Int)), (.int .i64 b), (.int .i64 a)] (shInt .i64) (fun r4 h5 =>
 EffC (some (!(r != r4))) (CallT P n_firebreaklaw05_do [(.int .i64 (17 : Int)), (.int .i64 b), (.int .i64 a)] (shInt .i64)) (fun r5 h6 =>
 LetW ((r != r4) || (r2 != r5)) fun y =>
 EffC (some (!y)) (CallT P n_firebreaklaw05_isNaN [(.int .i64 b)] shBool) (fun r6 h7 =>
 EffC (some ((!y) && (!r6))) (CallT P n_firebreaklaw05_do [(.int .i64 (15 : Int)), (.int .i64 a), (.int .i64 (bitsI .xor .i64 b (-9223372036854775808 : Int)))] (shInt .i64)) (fun r7 h8 =>
 LetW ((!r6) && (r1 != r7)) fun y1 =>
 LetW (y || y1) fun y2 =>
 (if y2 = true then
 Q false h8
 else
 NewW [(.int .i64 r), (.int .i64 r1), (.int .i64 r2), (.int .i64 r3)] (fun a1 h9 =>
 LoopW1 (α1 := Int) (fun again t56 h10 =>
 (if (decide (t56 < (4 : Int))) = true then
 ((InB (some a1) 4 t56) ∧ LdW none (shInt .i64) h10 (sat (some a1) 1 t56) fun x =>
 CallT P n_firebreaklaw05_isNaN [(.int .i64 x)] shBool (fun r8 h11 =>
 LetW (r8 && (x != (9221120237041090560 : Int))) fun y3 =>
 EffC (some (!y3)) (CallT P n_firebreaklaw05_isNaN [(.int .i64 a)] shBool) (fun r9 h12 =>
 EffC (some ((!y3) && (!r9))) (CallT P n_firebreaklaw05_isNaN [(.int .i64 b)] shBool) (fun r10 h13 =>
 LetW (r9 || r10) fun y4 =>
 LetW (y4 && (x != (9221120237041090560 : Int))) fun y5 =>
 LetW (y3 || y5) fun y6 =>
 (if y6 = true then
 Q false h13
 else
 again (IntKind.wrap .i64 (t56 + (1 : Int))) h13)) h12) h11) h10)
 else
 CallT P n_firebreaklaw05_do [(.int .i64 (19 : Int)), (.int .i64 a), (.int .i64 b)] (shInt .i64) (fun r8 h11 =>
 CallT P n_firebreaklaw05_do [(.int .i64 (19 : Int)), (.int .i64 b), (.int .i64 a)] (shInt .i64) (fun r9 h12 =>
 LetW ((decide (r8 < (0 : Int))) || (decide (r9 < (0 : Int)))) fun y3 =>
 LetW (y3 || (decide ((IntKind.wrap .i64 (r8 + r9)) > (1 : Int)))) fun y4 =>
 EffC (some (!y4)) (CallT P n_firebreaklaw05_isNaN [(.int .i64 a)] shBool) (fun r10 h13 =>
 EffC (some ((!y4) && (!r10))) (CallT P n_firebreaklaw05_isNaN [(.int .i64 b)] shBool) (fun r11 h14 =>
 LetW (r10 || r11) fun y5 =>
 LetW (y5 && (decide ((IntKind.wrap .i64 (r8 + r9)) > (0 : Int)))) fun y6 =>
 LetW (y4 || y6) fun y7 =>
 (if y7 = true then
 Q false h14
 else
 CallT P n_firebreaklaw05_isNaN [(.int .i64 a)] shBool (fun r12 h15 =>
 (if r12 = true then
 CallT P n_firebreaklaw05_do [(.int .i64 (21 : Int)), (.int .i64 a), (.int .i64 b)] (shInt .i64) (fun r13 h16 =>
 EffC (some (r13 == (0 : Int))) (CallT P n_firebreaklaw05_fixed [] shBool) (fun r14 h17 =>
 LetW ((r13 == (0 : Int)) && r14) fun y8 =>
 Q y8 h17) h16) h15
 else
 CallT P n_firebreaklaw05_do [(.int .i64 (17 : Int)), (.int .i64 a), (.int .i64 (4607182418800017408 : Int))] (shInt .i64) (fun r13 h16 =>
 EffC (some (!(r13 != a))) (CallT P n_firebreaklaw05_do [(.int .i64 (18 : Int)), (.int .i64 a), (.int .i64 (4607182418800017408 : Int))] (shInt .i64)) (fun r14 h17 =>
 LetW ((r13 != a) || (r14 != a)) fun y8 =>
 EffC (some (!y8)) (CallT P n_firebreaklaw05_do [(.int .i64 (15 : Int)), (.int .i64 a), (.int .i64 (-9223372036854775808 : Int))] (shInt .i64)) (fun r15 h18 =>
 LetW (y8 || (r15 != a)) fun y9 =>
 (if y9 = true then
 Q false h18
 else
 CallT P n_firebreaklaw05_isNaN [(.int .i64 b)] shBool (fun r16 h19 =>
 LetW ((!r16) && ((bitsI .andNot .i64 a (-9223372036854775808 : Int)) != (9218868437227405312 : Int))) fun y10 =>
 LetW (y10 && ((bitsI .andNot .i64 b (-9223372036854775808 : Int)) != (9218868437227405312 : Int))) fun y11 =>
 EffC (some y11) (CallT P n_firebreaklaw05_do [(.int .i64 (19 : Int)), (.int .i64 r1), (.int .i64 (0 : Int))] (shInt .i64)) (fun r17 h20 =>
 LetW (y11 && (!((r8 == (1 : Int)) == (r17 == (1 : Int))))) fun y12 =>
 (if y12 = true then
 Q false h20
 else
 CallT P n_firebreaklaw05_fixed [] shBool (fun r18 h21 =>
 Q r18 h21) h20)) h19) h18)) h17) h16) h15)) h14)) h13) h12) h11) h10)) (0 : Int) h9) h8)) h7) h6) h5) h4) h3) h2) h1) h

def firebreaklaw05_FltWhole_w (P : Program) (n : Int) (m : Int) (Q : (Bool → (Hp → Prop))) (h : Hp) : Prop :=
 CallT P n_firebreaklaw05_do [(.int .i64 (20 : Int)), (.int .i64 n), (.int .i64 (0 : Int))] (shInt .i64) (fun r h1 =>
 CallT P n_firebreaklaw05_do [(.int .i64 (20 : Int)), (.int .i64 m), (.int .i64 (7 : Int))] (shInt .i64) (fun r1 h2 =>
 CallT P n_firebreaklaw05_do [(.int .i64 (21 : Int)), (.int .i64 r), (.int .i64 (0 : Int))] (shInt .i64) (fun r2 h3 =>
 LetW ((decide (n ≥ (-9007199254740992 : Int))) && (decide (n ≤ (9007199254740992 : Int)))) fun y =>
 LetW (y && (r2 != n)) fun y1 =>
 (if y1 = true then
 Q false h3
 else
 JoinW1 (α1 := Int) (fun k =>
 (if (decide (r2 < n)) = true then
 k (IntKind.wrap .u64 (IntKind.wrap .i64 (n - r2))) h3
 else
 k (IntKind.wrap .u64 (IntKind.wrap .i64 (r2 - n))) h3))
 (fun off h4 =>
 EffC (some ((!(decide (off > (512 : Int)))) && (decide (n ≤ m)))) (CallT P n_firebreaklaw05_do [(.int .i64 (19 : Int)), (.int .i64 r1), (.int .i64 r)] (shInt .i64)) (fun r3 h5 =>
 LetW ((decide (n ≤ m)) && (r3 == (1 : Int))) fun y2 =>
 LetW ((decide (off > (512 : Int))) || y2) fun y3 =>
 LetW ((decide (n < m)) && (decide (n ≥ (-9007199254740992 : Int)))) fun y4 =>
 LetW (y4 && (decide (m ≤ (9007199254740992 : Int)))) fun y5 =>
 EffC (some ((!y3) && y5)) (CallT P n_firebreaklaw05_do [(.int .i64 (19 : Int)), (.int .i64 r), (.int .i64 r1)] (shInt .i64)) (fun r4 h6 =>
 LetW (y5 && (r4 != (1 : Int))) fun y6 =>
 LetW (y3 || y6) fun y7 =>
 (if y7 = true then
 Q false h6
 else
 CallT P n_firebreaklaw05_do [(.int .i64 (20 : Int)), (.int .i64 n), (.int .i64 m)] (shInt .i64) (fun r5 h7 =>
 EffC (some (r5 == r)) (CallT P n_firebreaklaw05_do [(.int .i64 (21 : Int)), (.int .i64 r), (.int .i64 m)] (shInt .i64)) (fun r6 h8 =>
 LetW ((r5 == r) && (r6 == r2)) fun y8 =>
 EffC (some y8) (CallT P n_firebreaklaw05_fixed [] shBool) (fun r7 h9 =>
 LetW (y8 && r7) fun y9 =>
 Q y9 h9) h8) h7) h6)) h5) h4))) h2) h1) h

def firebreaklaw05_fixed_w (P : Program)  (Q : (Bool → (Hp → Prop))) (h : Hp) : Prop :=
 Call2 P n_flt_Do [(.int .i64 (15 : Int)), (.int .i64 (4607182418800017408 : Int)), (.int .i64 (4607182418800017408 : Int))] (shInt .i64) (shInt .i64) (fun r r1 h1 =>
 Call2 P n_flt_Do [(.int .i64 (18 : Int)), (.int .i64 (0 : Int)), (.int .i64 (0 : Int))] (shInt .i64) (shInt .i64) (fun r2 r3 h2 =>
 Call2 P n_flt_Do [(.int .i64 (3 : Int)), (.int .i64 (1 : Int)), (.int .i64 (1 : Int))] (shInt .i64) (shInt .i64) (fun r4 r5 h3 =>
 Call2 P n_flt_Parse [(.string ⟨#[49, 46, 53, 101, 48]⟩)] (shInt .i64) (shInt .i64) (fun r6 r7 h4 =>
 Call2 P n_flt_Parse [(.string ⟨#[49, 46, 53, 48, 101, 48]⟩)] (shInt .i64) (shInt .i64) (fun r8 r9 h5 =>
 LetW ((r == (4611686018427387904 : Int)) && (r1 == (0 : Int))) fun y =>
 LetW (y && (r2 == (9221120237041090560 : Int))) fun y1 =>
 LetW (y1 && (r3 == (0 : Int))) fun y2 =>
 LetW (y2 && (r5 == (9 : Int))) fun y3 =>
 LetW (y3 && (r6 == (4609434218613702656 : Int))) fun y4 =>
 LetW (y4 && (r7 == (0 : Int))) fun y5 =>
 LetW (y5 && (r9 == (4 : Int))) fun y6 =>
 EffC (some y6) (CallT P n_flt_Print [(.int .i64 r6)] shStr) (fun r10 h6 =>
 LetW (y6 && ((ByteArray.toList r10) == (ByteArray.toList ⟨#[49, 46, 53, 101, 48]⟩))) fun y7 =>
 Q y7 h6) h5) h4) h3) h2) h1) h

def flt_Do_w (P : Program) (op : Int) (b : Int) (c : Int) (Q : (Int → (Int → (Hp → Prop)))) (h : Hp) : Prop :=
 CallT P n_flt_float [(.int .i64 b)] (shFlt .f64) (fun r h1 =>
 CallT P n_flt_float [(.int .i64 c)] (shFlt .f64) (fun r1 h2 =>
 (if (op == (15 : Int)) = true then
 SemE P (binS .add 34 (.tmp 17) (.tmp 18) (.float .f64 r) (.float .f64 r1)) (shFlt .f64) (fun r2 h3 =>
 CallT P n_flt_bits [(.float .f64 r2)] (shInt .i64) (fun r3 h4 =>
 Q r3 (0 : Int) h4) h3) h2
 else
 (if (op == (16 : Int)) = true then
 SemE P (binS .sub 34 (.tmp 23) (.tmp 24) (.float .f64 r) (.float .f64 r1)) (shFlt .f64) (fun r2 h3 =>
 CallT P n_flt_bits [(.float .f64 r2)] (shInt .i64) (fun r3 h4 =>
 Q r3 (0 : Int) h4) h3) h2
 else
 (if (op == (17 : Int)) = true then
 SemE P (binS .mul 34 (.tmp 29) (.tmp 30) (.float .f64 r) (.float .f64 r1)) (shFlt .f64) (fun r2 h3 =>
 CallT P n_flt_bits [(.float .f64 r2)] (shInt .i64) (fun r3 h4 =>
 Q r3 (0 : Int) h4) h3) h2
 else
 (if (op == (18 : Int)) = true then
 SemE P (binS .quo 34 (.tmp 35) (.tmp 36) (.float .f64 r) (.float .f64 r1)) (shFlt .f64) (fun r2 h3 =>
 CallT P n_flt_bits [(.float .f64 r2)] (shInt .i64) (fun r3 h4 =>
 Q r3 (0 : Int) h4) h3) h2
 else
 (if (op == (19 : Int)) = true then
 SemV none P (binS .lss 34 (.tmp 41) (.tmp 42) (.float .f64 r) (.float .f64 r1)) shBool h2 fun x =>
 (if x = true then
 Q (1 : Int) (0 : Int) h2
 else
 Q (0 : Int) (0 : Int) h2)
 else
 (if (op == (20 : Int)) = true then
 SemV none P (convert 2 34 (.int .i64 b)) (shFlt .f64) h2 fun x =>
 CallT P n_flt_bits [(.float .f64 x)] (shInt .i64) (fun r2 h3 =>
 Q r2 (0 : Int) h3) h2
 else
 (if (op == (21 : Int)) = true then
 CallT P n_flt_whole [(.float .f64 r)] (shInt .i64) (fun r2 h3 =>
 Q r2 (0 : Int) h3) h2
 else
 Q (0 : Int) (9 : Int) h2)))))))) h1) h

def firebreakref05_Do_w (P : Program) (op : Int) (b : Int) (c : Int) (Q : (Int → (Int → (Hp → Prop)))) (h : Hp) : Prop :=
 (if (op == (15 : Int)) = true then
 CallT P n_firebreakref05_add [(.int .u64 (IntKind.wrap .u64 b)), (.int .u64 (IntKind.wrap .u64 c))] (shInt .u64) (fun r h1 =>
 Q (IntKind.wrap .i64 r) (0 : Int) h1) h
 else
 (if (op == (16 : Int)) = true then
 CallT P n_firebreakref05_isNaN [(.int .u64 (IntKind.wrap .u64 c))] shBool (fun r h1 =>
 (if r = true then
 Q (9221120237041090560 : Int) (0 : Int) h1
 else
 CallT P n_firebreakref05_add [(.int .u64 (IntKind.wrap .u64 b)), (.int .u64 (bitsI .xor .u64 (IntKind.wrap .u64 c) (9223372036854775808 : Int)))] (shInt .u64) (fun r1 h2 =>
 Q (IntKind.wrap .i64 r1) (0 : Int) h2) h1)) h
 else
 (if (op == (17 : Int)) = true then
 CallT P n_firebreakref05_mul [(.int .u64 (IntKind.wrap .u64 b)), (.int .u64 (IntKind.wrap .u64 c))] (shInt .u64) (fun r h1 =>
 Q (IntKind.wrap .i64 r) (0 : Int) h1) h
 else
 (if (op == (18 : Int)) = true then
 CallT P n_firebreakref05_div [(.int .u64 (IntKind.wrap .u64 b)), (.int .u64 (IntKind.wrap .u64 c))] (shInt .u64) (fun r h1 =>
 Q (IntKind.wrap .i64 r) (0 : Int) h1) h
 else
 (if (op == (19 : Int)) = true then
 CallT P n_firebreakref05_below [(.int .u64 (IntKind.wrap .u64 b)), (.int .u64 (IntKind.wrap .u64 c))] (shInt .i64) (fun r h1 =>
 Q r (0 : Int) h1) h
 else
 (if (op == (20 : Int)) = true then
 CallT P n_firebreakref05_float [(.int .i64 b)] (shInt .u64) (fun r h1 =>
 Q (IntKind.wrap .i64 r) (0 : Int) h1) h
 else
 (if (op == (21 : Int)) = true then
 CallT P n_firebreakref05_whole [(.int .u64 (IntKind.wrap .u64 b))] (shInt .i64) (fun r h1 =>
 Q r (0 : Int) h1) h
 else
 Q (0 : Int) (9 : Int) h)))))))

def firebreaklaw05_do_w (P : Program) (op : Int) (b : Int) (c : Int) (Q : (Int → (Hp → Prop))) (h : Hp) : Prop :=
 Call2 P n_flt_Do [(.int .i64 op), (.int .i64 b), (.int .i64 c)] (shInt .i64) (shInt .i64) (fun r r1 h1 =>
 Q r h1) h

def firebreaklaw05_isNaN_w (P : Program) (a : Int) (Q : (Bool → (Hp → Prop))) (h : Hp) : Prop :=
 Q (decide ((bitsI .andNot .u64 (IntKind.wrap .u64 a) (9223372036854775808 : Int)) > (9218868437227405312 : Int))) h

def flt_Parse_w (P : Program) (text : ByteArray) (Q : (Int → (Int → (Hp → Prop)))) (h : Hp) : Prop :=
 Call2 P n_strings_CutPrefix [(.string text), (.string ⟨#[110, 97, 110, 58]⟩)] shStr shBool (fun r r1 h1 =>
 JoinW1 (α1 := Int) (fun k =>
 (if r1 = true then
 Call2 P n_strconv_ParseUint [(.string r), (.int .i64 (16 : Int)), (.int .i64 (64 : Int))] (shInt .u64) shLeaf (fun r2 r3 h2 =>
 k r2 h2) h1
 else
 Call2 P n_strconv_ParseFloat [(.string text), (.int .i64 (64 : Int))] (shFlt .f64) shLeaf (fun r2 r3 h2 =>
 SemE P (Extern.MathFloatBits.float64bits #[(.float .f64 r2)]) (shInt .u64) (fun r4 h3 =>
 k r4 h3) h2) h1))
 (fun u h2 =>
 CallT P n_flt_Print [(.int .i64 (IntKind.wrap .i64 u))] shStr (fun r2 h3 =>
 (if (!((ByteArray.toList r2) == (ByteArray.toList text))) = true then
 Q (0 : Int) (4 : Int) h3
 else
 Q (IntKind.wrap .i64 u) (0 : Int) h3)) h2)) h

def flt_Print_w (P : Program) (bits : Int) (Q : (ByteArray → (Hp → Prop))) (h : Hp) : Prop :=
 CallT P n_flt_float [(.int .i64 bits)] (shFlt .f64) (fun r h1 =>
 SemV none P (binS .neq 34 (.tmp 12) (.tmp 13) (.float .f64 r) (.float .f64 r)) shBool h1 fun x =>
 (if x = true then
 CallT P n_flt_sixteen [(.int .u64 (IntKind.wrap .u64 bits))] shStr (fun r1 h2 =>
 ((4 + (ByteArray.size r1)) ≤ 9223372036854775807 ∧ Q ⟨⟨(110 :: (97 :: (110 :: (58 :: r1.data.toList))))⟩⟩ h2)) h1
 else
 SemV none P (binS .gtr 34 (.tmp 20) (.const (.float .f64 9218868437227405311)) (.float .f64 r) (.float .f64 9218868437227405311)) shBool h1 fun x1 =>
 (if x1 = true then
 Q ⟨#[105, 110, 102]⟩ h1
 else
 SemV none P (binS .lss 34 (.tmp 23) (.const (.float .f64 18442240474082181119)) (.float .f64 r) (.float .f64 18442240474082181119)) shBool h1 fun x2 =>
 (if x2 = true then
 Q ⟨#[45, 105, 110, 102]⟩ h1
 else
 CallT P n_strconv_FormatFloat [(.float .f64 r), (.int .u8 (101 : Int)), (.int .i64 (-1 : Int)), (.int .i64 (64 : Int))] shStr (fun r1 h2 =>
 Call3 P n_strings_Cut [(.string r1), (.string ⟨#[101]⟩)] shStr shStr shBool (fun r2 r3 r4 h3 =>
 Call2 P n_strconv_Atoi [(.string r3)] (shInt .i64) shLeaf (fun r5 r6 h4 =>
 (((ByteArray.size r2) + 1) ≤ 9223372036854775807 ∧ CallT P n_strconv_Itoa [(.int .i64 r5)] shStr (fun r7 h5 =>
 (((ByteArray.size ⟨⟨(List.append r2.data.toList [101])⟩⟩) + (ByteArray.size r7)) ≤ 9223372036854775807 ∧ Q ⟨⟨(List.append (List.append r2.data.toList [101]) r7.data.toList)⟩⟩ h5)) h4)) h3) h2) h1)))) h

def flt_float_w (P : Program) (bits : Int) (Q : (Nat → (Hp → Prop))) (h : Hp) : Prop :=
 SemE P (Extern.MathFloatBits.float64frombits #[(.int .u64 (IntKind.wrap .u64 bits))]) (shFlt .f64) (fun r h1 =>
 Q r h1) h

def flt_bits_w (P : Program) (f : Nat) (Q : (Int → (Hp → Prop))) (h : Hp) : Prop :=
 SemV none P (binS .neq 34 (.tmp 3) (.tmp 4) (.float .f64 f) (.float .f64 f)) shBool h fun x =>
 (if x = true then
 Q (9221120237041090560 : Int) h
 else
 SemE P (Extern.MathFloatBits.float64bits #[(.float .f64 f)]) (shInt .u64) (fun r h1 =>
 Q (IntKind.wrap .i64 r) h1) h)

def flt_whole_w (P : Program) (f : Nat) (Q : (Int → (Hp → Prop))) (h : Hp) : Prop :=
 SemV none P (binS .neq 34 (.tmp 4) (.tmp 5) (.float .f64 f) (.float .f64 f)) shBool h fun x =>
 (if x = true then
 Q (0 : Int) h
 else
 SemV none P (binS .geq 34 (.tmp 8) (.const (.float .f64 4890909195324358656)) (.float .f64 f) (.float .f64 4890909195324358656)) shBool h fun x1 =>
 (if x1 = true then
 Q (9223372036854775807 : Int) h
 else
 SemV none P (binS .lss 34 (.tmp 11) (.const (.float .f64 14114281232179134464)) (.float .f64 f) (.float .f64 14114281232179134464)) shBool h fun x2 =>
 (if x2 = true then
 Q (-9223372036854775808 : Int) h
 else
 SemV none P (convert 34 2 (.float .f64 f)) (shInt .i64) h fun x3 =>
 Q x3 h)))

def firebreakref05_add_w (P : Program) (a : Int) (b : Int) (Q : (Int → (Hp → Prop))) (h : Hp) : Prop :=
 CallT P n_firebreakref05_isNaN [(.int .u64 a)] shBool (fun r h1 =>
 EffC (some (!r)) (CallT P n_firebreakref05_isNaN [(.int .u64 b)] shBool) (fun r1 h2 =>
 LetW (r || r1) fun y =>
 LetW (((bitsI .andNot .u64 a (9223372036854775808 : Int)) == (9218868437227405312 : Int)) && ((bitsI .andNot .u64 b (9223372036854775808 : Int)) == (9218868437227405312 : Int))) fun y1 =>
 LetW (y1 && (a != b)) fun y2 =>
 LetW (y || y2) fun y3 =>
 (if y3 = true then
 Q (9221120237041090560 : Int) h2
 else
 (if ((bitsI .andNot .u64 a (9223372036854775808 : Int)) == (9218868437227405312 : Int)) = true then
 Q a h2
 else
 (if ((bitsI .andNot .u64 b (9223372036854775808 : Int)) == (9218868437227405312 : Int)) = true then
 Q b h2
 else
 LetW (((bitsI .andNot .u64 a (9223372036854775808 : Int)) == (0 : Int)) && ((bitsI .andNot .u64 b (9223372036854775808 : Int)) == (0 : Int))) fun y4 =>
 (if y4 = true then
 Q (bitsI .and .u64 a b) h2
 else
 Call2 P n_firebreakref05_parts [(.int .u64 (bitsI .andNot .u64 a (9223372036854775808 : Int)))] (shInt .u64) (shInt .i64) (fun r2 r3 h3 =>
 Call2 P n_firebreakref05_parts [(.int .u64 (bitsI .andNot .u64 b (9223372036854775808 : Int)))] (shInt .u64) (shInt .i64) (fun r4 r5 h4 =>
 CallT P n_firebreakref05_of [(.int .u64 r2)] shSl (fun r6 h5 =>
 CallT P n_firebreakref05_shift [r6.v, (.int .i64 (IntKind.wrap .i64 (r3 - (min2I r3 r5))))] shSl (fun r7 h6 =>
 CallT P n_firebreakref05_of [(.int .u64 r4)] shSl (fun r8 h7 =>
 CallT P n_firebreakref05_shift [r8.v, (.int .i64 (IntKind.wrap .i64 (r5 - (min2I r3 r5))))] shSl (fun r9 h8 =>
 (if ((bitsI .and .u64 a (9223372036854775808 : Int)) == (bitsI .and .u64 b (9223372036854775808 : Int))) = true then
 CallT P n_firebreakref05_sum [r7.v, r9.v] shSl (fun r10 h9 =>
 CallT P n_firebreakref05_rounded [(.int .u64 (bitsI .and .u64 a (9223372036854775808 : Int))), r10.v, (.int .i64 (min2I r3 r5)), (.bool false)] (shInt .u64) (fun r11 h10 =>
 Q r11 h10) h9) h8
 else
 CallT P n_firebreakref05_compare [r7.v, r9.v] (shInt .i64) (fun r10 h9 =>
 (if (r10 == (0 : Int)) = true then
 Q (0 : Int) h9
 else
 (if (r10 == (1 : Int)) = true then
 CallT P n_firebreakref05_less [r7.v, r9.v] shSl (fun r11 h10 =>
 CallT P n_firebreakref05_rounded [(.int .u64 (bitsI .and .u64 a (9223372036854775808 : Int))), r11.v, (.int .i64 (min2I r3 r5)), (.bool false)] (shInt .u64) (fun r12 h11 =>
 Q r12 h11) h10) h9
 else
 CallT P n_firebreakref05_less [r9.v, r7.v] shSl (fun r11 h10 =>
 CallT P n_firebreakref05_rounded [(.int .u64 (bitsI .and .u64 b (9223372036854775808 : Int))), r11.v, (.int .i64 (min2I r3 r5)), (.bool false)] (shInt .u64) (fun r12 h11 =>
 Q r12 h11) h10) h9))) h8)) h7) h6) h5) h4) h3) h2))))) h1) h

def firebreakref05_isNaN_w (P : Program) (a : Int) (Q : (Bool → (Hp → Prop))) (h : Hp) : Prop :=
 Q (decide ((bitsI .andNot .u64 a (9223372036854775808 : Int)) > (9218868437227405312 : Int))) h

def firebreakref05_mul_w (P : Program) (a : Int) (b : Int) (Q : (Int → (Hp → Prop))) (h : Hp) : Prop :=
 LetW ((decide ((bitsI .andNot .u64 a (9223372036854775808 : Int)) > (9218868437227405312 : Int))) || (decide ((bitsI .andNot .u64 b (9223372036854775808 : Int)) > (9218868437227405312 : Int)))) fun y =>
 LetW (((bitsI .andNot .u64 a (9223372036854775808 : Int)) == (9218868437227405312 : Int)) && ((bitsI .andNot .u64 b (9223372036854775808 : Int)) == (0 : Int))) fun y1 =>
 LetW (y || y1) fun y2 =>
 LetW (((bitsI .andNot .u64 a (9223372036854775808 : Int)) == (0 : Int)) && ((bitsI .andNot .u64 b (9223372036854775808 : Int)) == (9218868437227405312 : Int))) fun y3 =>
 LetW (y2 || y3) fun y4 =>
 (if y4 = true then
 Q (9221120237041090560 : Int) h
 else
 LetW (((bitsI .andNot .u64 a (9223372036854775808 : Int)) == (9218868437227405312 : Int)) || ((bitsI .andNot .u64 b (9223372036854775808 : Int)) == (9218868437227405312 : Int))) fun y5 =>
 (if y5 = true then
 Q (bitsI .or .u64 (bitsI .and .u64 (bitsI .xor .u64 a b) (9223372036854775808 : Int)) (9218868437227405312 : Int)) h
 else
 Call2 P n_firebreakref05_parts [(.int .u64 (bitsI .andNot .u64 a (9223372036854775808 : Int)))] (shInt .u64) (shInt .i64) (fun r r1 h1 =>
 Call2 P n_firebreakref05_parts [(.int .u64 (bitsI .andNot .u64 b (9223372036854775808 : Int)))] (shInt .u64) (shInt .i64) (fun r2 r3 h2 =>
 CallT P n_firebreakref05_product [(.int .u64 r), (.int .u64 r2)] shSl (fun r4 h3 =>
 CallT P n_firebreakref05_rounded [(.int .u64 (bitsI .and .u64 (bitsI .xor .u64 a b) (9223372036854775808 : Int))), r4.v, (.int .i64 (IntKind.wrap .i64 (r1 + r3))), (.bool false)] (shInt .u64) (fun r5 h4 =>
 Q r5 h4) h3) h2) h1) h))

def firebreakref05_div_w (P : Program) (a : Int) (b : Int) (Q : (Int → (Hp → Prop))) (h : Hp) : Prop :=
 LetW ((decide ((bitsI .andNot .u64 a (9223372036854775808 : Int)) > (9218868437227405312 : Int))) || (decide ((bitsI .andNot .u64 b (9223372036854775808 : Int)) > (9218868437227405312 : Int)))) fun y =>
 LetW (((bitsI .andNot .u64 a (9223372036854775808 : Int)) == (9218868437227405312 : Int)) && ((bitsI .andNot .u64 b (9223372036854775808 : Int)) == (9218868437227405312 : Int))) fun y1 =>
 LetW (y || y1) fun y2 =>
 LetW (((bitsI .andNot .u64 a (9223372036854775808 : Int)) == (0 : Int)) && ((bitsI .andNot .u64 b (9223372036854775808 : Int)) == (0 : Int))) fun y3 =>
 LetW (y2 || y3) fun y4 =>
 (if y4 = true then
 Q (9221120237041090560 : Int) h
 else
 LetW (((bitsI .andNot .u64 a (9223372036854775808 : Int)) == (9218868437227405312 : Int)) || ((bitsI .andNot .u64 b (9223372036854775808 : Int)) == (0 : Int))) fun y5 =>
 (if y5 = true then
 Q (bitsI .or .u64 (bitsI .and .u64 (bitsI .xor .u64 a b) (9223372036854775808 : Int)) (9218868437227405312 : Int)) h
 else
 LetW (((bitsI .andNot .u64 b (9223372036854775808 : Int)) == (9218868437227405312 : Int)) || ((bitsI .andNot .u64 a (9223372036854775808 : Int)) == (0 : Int))) fun y6 =>
 (if y6 = true then
 Q (bitsI .and .u64 (bitsI .xor .u64 a b) (9223372036854775808 : Int)) h
 else
 Call2 P n_firebreakref05_parts [(.int .u64 (bitsI .andNot .u64 a (9223372036854775808 : Int)))] (shInt .u64) (shInt .i64) (fun r r1 h1 =>
 Call2 P n_firebreakref05_parts [(.int .u64 (bitsI .andNot .u64 b (9223372036854775808 : Int)))] (shInt .u64) (shInt .i64) (fun r2 r3 h2 =>
 CallT P n_firebreakref05_of [(.int .u64 r)] shSl (fun r4 h3 =>
 CallT P n_firebreakref05_shift [r4.v, (.int .i64 (128 : Int))] shSl (fun r5 h4 =>
 NewW [] (fun a1 h5 =>
 LoopW3 (α1 := Sl) (α2 := Sl) (α3 := Int) (fun again rest q i h6 =>
 (if (decide (i ≥ (0 : Int))) = true then
 JoinW2 (α1 := Sl) (α2 := Sl) (fun k =>
 CallT P n_firebreakref05_of [(.int .u64 r2)] shSl (fun r6 h7 =>
 CallT P n_firebreakref05_shift [r6.v, (.int .i64 i)] shSl (fun r7 h8 =>
 CallT P n_firebreakref05_times [q.v, (.int .u32 (2 : Int))] shSl (fun r8 h9 =>
 CallT P n_firebreakref05_compare [rest.v, r7.v] (shInt .i64) (fun r9 h10 =>
 (if (decide (r9 ≥ (0 : Int))) = true then
 CallT P n_firebreakref05_less [rest.v, r7.v] shSl (fun r10 h11 =>
 CallT P n_firebreakref05_of [(.int .u64 (1 : Int))] shSl (fun r11 h12 =>
 CallT P n_firebreakref05_sum [r8.v, r11.v] shSl (fun r12 h13 =>
 k r10 r12 h13) h12) h11) h10
 else
 k ⟨rest.base, rest.len, rest.cap⟩ r8 h10)) h9) h8) h7) h6)
 (fun rest1 q1 h7 =>
 again ⟨rest1.base, rest1.len, rest1.cap⟩ ⟨q1.base, q1.len, q1.cap⟩ (IntKind.wrap .i64 (i - (1 : Int))) h7)
 else
 CallT P n_firebreakref05_rounded [(.int .u64 (bitsI .and .u64 (bitsI .xor .u64 a b) (9223372036854775808 : Int))), q.v, (.int .i64 (IntKind.wrap .i64 ((IntKind.wrap .i64 (r1 - r3)) - (128 : Int)))), (.bool (decide (((rest.len : Nat) : Int) > (0 : Int))))] (shInt .u64) (fun r6 h7 =>
 Q r6 h7) h6)) r5 ⟨(some a1), 0, 0⟩ (184 : Int) h5) h4) h3) h2) h1) h)))

def firebreakref05_below_w (P : Program) (a : Int) (b : Int) (Q : (Int → (Hp → Prop))) (h : Hp) : Prop :=
 CallT P n_firebreakref05_isNaN [(.int .u64 a)] shBool (fun r h1 =>
 EffC (some (!r)) (CallT P n_firebreakref05_isNaN [(.int .u64 b)] shBool) (fun r1 h2 =>
 LetW (r || r1) fun y =>
 LetW (((bitsI .andNot .u64 a (9223372036854775808 : Int)) == (0 : Int)) && ((bitsI .andNot .u64 b (9223372036854775808 : Int)) == (0 : Int))) fun y1 =>
 LetW (y || y1) fun y2 =>
 (if y2 = true then
 Q (0 : Int) h2
 else
 (if ((bitsI .and .u64 a (9223372036854775808 : Int)) != (0 : Int)) = true then
 (if ((bitsI .and .u64 b (9223372036854775808 : Int)) != (0 : Int)) = true then
 (if (decide ((bitsI .xor .u64 (18446744073709551615 : Int) a) < (bitsI .xor .u64 (18446744073709551615 : Int) b))) = true then
 Q (1 : Int) h2
 else
 Q (0 : Int) h2)
 else
 (if (decide ((bitsI .xor .u64 (18446744073709551615 : Int) a) < (bitsI .or .u64 b (9223372036854775808 : Int)))) = true then
 Q (1 : Int) h2
 else
 Q (0 : Int) h2))
 else
 (if ((bitsI .and .u64 b (9223372036854775808 : Int)) != (0 : Int)) = true then
 (if (decide ((bitsI .or .u64 a (9223372036854775808 : Int)) < (bitsI .xor .u64 (18446744073709551615 : Int) b))) = true then
 Q (1 : Int) h2
 else
 Q (0 : Int) h2)
 else
 (if (decide ((bitsI .or .u64 a (9223372036854775808 : Int)) < (bitsI .or .u64 b (9223372036854775808 : Int)))) = true then
 Q (1 : Int) h2
 else
 Q (0 : Int) h2))))) h1) h

def firebreakref05_float_w (P : Program) (n : Int) (Q : (Int → (Hp → Prop))) (h : Hp) : Prop :=
 (if (decide (n < (0 : Int))) = true then
 CallT P n_firebreakref05_of [(.int .u64 (IntKind.wrap .u64 ((IntKind.wrap .u64 (IntKind.wrap .i64 ((0 : Int) - (IntKind.wrap .i64 (n + (1 : Int)))))) + (1 : Int))))] shSl (fun r h1 =>
 CallT P n_firebreakref05_rounded [(.int .u64 (9223372036854775808 : Int)), r.v, (.int .i64 (0 : Int)), (.bool false)] (shInt .u64) (fun r1 h2 =>
 Q r1 h2) h1) h
 else
 CallT P n_firebreakref05_of [(.int .u64 (IntKind.wrap .u64 n))] shSl (fun r h1 =>
 CallT P n_firebreakref05_rounded [(.int .u64 (0 : Int)), r.v, (.int .i64 (0 : Int)), (.bool false)] (shInt .u64) (fun r1 h2 =>
 Q r1 h2) h1) h)

def firebreakref05_whole_w (P : Program) (a : Int) (Q : (Int → (Hp → Prop))) (h : Hp) : Prop :=
 CallT P n_firebreakref05_isNaN [(.int .u64 a)] shBool (fun r h1 =>
 (if r = true then
 Q (0 : Int) h1
 else
 (if (decide ((bitsI .andNot .u64 a (9223372036854775808 : Int)) ≥ (4890909195324358656 : Int))) = true then
 (if ((bitsI .and .u64 a (9223372036854775808 : Int)) != (0 : Int)) = true then
 Q (-9223372036854775808 : Int) h1
 else
 Q (9223372036854775807 : Int) h1)
 else
 Call2 P n_firebreakref05_parts [(.int .u64 (bitsI .andNot .u64 a (9223372036854775808 : Int)))] (shInt .u64) (shInt .i64) (fun r1 r2 h2 =>
 LoopW2 (α1 := Int) (α2 := Int) (fun again n i h3 =>
 (if (decide (i < r2)) = true then
 again (IntKind.wrap .u64 ((2 : Int) * n)) (IntKind.wrap .i64 (i + (1 : Int))) h3
 else
 LoopW2 (α1 := Int) (α2 := Int) (fun again1 n1 i1 h4 =>
 LetW ((decide (i1 > r2)) && (decide (n1 > (0 : Int)))) fun y =>
 (if y = true then
 ((2 : Int) ≠ (0 : Int) ∧ again1 (IntKind.wrap .u64 (Int.tdiv n1 (2 : Int))) (IntKind.wrap .i64 (i1 - (1 : Int))) h4)
 else
 (if ((bitsI .and .u64 a (9223372036854775808 : Int)) != (0 : Int)) = true then
 Q (IntKind.wrap .i64 ((0 : Int) - (IntKind.wrap .i64 n1))) h4
 else
 Q (IntKind.wrap .i64 n1) h4))) n (0 : Int) h3)) r1 (0 : Int) h2) h1))) h

def strings_CutPrefix_w (P : Program) (s : ByteArray) (prefix_ : ByteArray) (Q : (ByteArray → (Bool → (Hp → Prop)))) (h : Hp) : Prop :=
 Call2 P n_internal_stringslite_CutPrefix [(.string s), (.string prefix_)] shStr shBool (fun r r1 h1 =>
 Q r r1 h1) h

def strconv_ParseFloat_w (P : Program) (s : ByteArray) (bitSize : Int) (Q : (Nat → (Leaf → (Hp → Prop)))) (h : Hp) : Prop :=
 Call2 P n_internal_strconv_ParseFloat [(.string s), (.int .i64 bitSize)] (shFlt .f64) shLeaf (fun r r1 h1 =>
 ((isIfV r1.v) = true ∧ (if (!(isNilIface r1.v)) = true then
 CallT P n_strconv_toError [(.string ⟨#[80, 97, 114, 115, 101, 70, 108, 111, 97, 116]⟩), (.string s), (.int .i64 (0 : Int)), (.int .i64 bitSize), r1.v] shLeaf (fun r2 h2 =>
 EncW shLeaf r2.v fun e =>
 Q r e h2) h1
 else
 EncW shLeaf .nilIface fun e =>
 Q r e h1))) h

def strings_Cut_w (P : Program) (s : ByteArray) (sep : ByteArray) (Q : (ByteArray → (ByteArray → (Bool → (Hp → Prop))))) (h : Hp) : Prop :=
 Call3 P n_internal_stringslite_Cut [(.string s), (.string sep)] shStr shStr shBool (fun r r1 r2 h1 =>
 Q r r1 r2 h1) h

def strconv_FormatFloat_w (P : Program) (f : Nat) (fmt : Int) (prec : Int) (bitSize : Int) (Q : (ByteArray → (Hp → Prop))) (h : Hp) : Prop :=
 CallT P n_internal_strconv_FormatFloat [(.float .f64 f), (.int .u8 fmt), (.int .i64 prec), (.int .i64 bitSize)] shStr (fun r h1 =>
 Q r h1) h

def strconv_Atoi_w (P : Program) (s : ByteArray) (Q : (Int → (Leaf → (Hp → Prop)))) (h : Hp) : Prop :=
 Call2 P n_internal_strconv_Atoi [(.string s)] (shInt .i64) shLeaf (fun r r1 h1 =>
 ((isIfV r1.v) = true ∧ (if (!(isNilIface r1.v)) = true then
 CallT P n_strconv_toError [(.string ⟨#[65, 116, 111, 105]⟩), (.string s), (.int .i64 (0 : Int)), (.int .i64 (0 : Int)), r1.v] shLeaf (fun r2 h2 =>
 EncW shLeaf r2.v fun e =>
 Q r e h2) h1
 else
 EncW shLeaf .nilIface fun e =>
 Q r e h1))) h

def strconv_Itoa_w (P : Program) (i : Int) (Q : (ByteArray → (Hp → Prop))) (h : Hp) : Prop :=
 CallT P n_internal_strconv_Itoa [(.int .i64 i)] shStr (fun r h1 =>
 Q r h1) h

def firebreakref05_parts_w (P : Program) (b : Int) (Q : (Int → (Int → (Hp → Prop)))) (h : Hp) : Prop :=
 ((0 : Int) ≤ (52 : Int) ∧ (if ((IntKind.wrap .i64 (shrI .u64 b (52 : Int))) == (0 : Int)) = true then
 Q (bitsI .and .u64 b (4503599627370495 : Int)) (-1074 : Int) h
 else
 Q (bitsI .or .u64 (bitsI .and .u64 b (4503599627370495 : Int)) (4503599627370496 : Int)) (IntKind.wrap .i64 ((IntKind.wrap .i64 (shrI .u64 b (52 : Int))) - (1075 : Int))) h))

def firebreakref05_shift_w (P : Program) (a : Sl) (n : Int) (Q : (Sl → (Hp → Prop))) (h : Hp) : Prop :=
 (if (((a.len : Nat) : Int) == (0 : Int)) = true then
 Q a h
 else
 NewW [] (fun a1 h1 =>
 LoopW2 (α1 := Sl) (α2 := Int) (fun again out i h2 =>
 ((32 : Int) ≠ (0 : Int) ∧ (if (decide (i < (IntKind.wrap .i64 (Int.tdiv n (32 : Int))))) = true then
 NewW [(.int .u32 (0 : Int))] (fun a2 h3 =>
 AppendW 1 4 [(.int .u32 (0 : Int))] ⟨out.base, out.len, out.cap⟩ ⟨(some a2), 1, 1⟩ (fun r h4 =>
 again r (IntKind.wrap .i64 (i + (1 : Int))) h4) h3) h2
 else
 AppendW 1 4 [(.int .u32 (0 : Int))] ⟨out.base, out.len, out.cap⟩ a (fun r h3 =>
 ((32 : Int) ≠ (0 : Int) ∧ ((0 : Int) ≤ (Int.tmod n (32 : Int)) ∧ CallT P n_firebreakref05_times [r.v, (.int .u32 (shlI .u32 (1 : Int) (Int.tmod n (32 : Int))))] shSl (fun r1 h4 =>
 Q r1 h4) h3))) h2))) ⟨(some a1), 0, 0⟩ (0 : Int) h1) h)

def firebreakref05_of_w (P : Program) (x : Int) (Q : (Sl → (Hp → Prop))) (h : Hp) : Prop :=
 ((0 : Int) ≤ (32 : Int) ∧ NewW [(.int .u32 (IntKind.wrap .u32 x)), (.int .u32 (IntKind.wrap .u32 (shrI .u64 x (32 : Int))))] (fun a h1 =>
 CallT P n_firebreakref05_trim [(.slice (some a) 2 2)] shSl (fun r h2 =>
 Q r h2) h1) h)

def firebreakref05_rounded_w (P : Program) (neg : Int) (m : Sl) (e : Int) (more : Bool) (Q : (Int → (Hp → Prop))) (h : Hp) : Prop :=
 (if (((m.len : Nat) : Int) == (0 : Int)) = true then
 Q neg h
 else
 CallT P n_firebreakref05_bits [m.v] (shInt .i64) (fun r h1 =>
 JoinW1 (α1 := Int) (fun k =>
 (if (decide ((max2I (IntKind.wrap .i64 (r - (53 : Int))) (IntKind.wrap .i64 ((-1074 : Int) - e))) ≤ (0 : Int))) = true then
 CallT P n_firebreakref05_shift [m.v, (.int .i64 (IntKind.wrap .i64 ((0 : Int) - (max2I (IntKind.wrap .i64 (r - (53 : Int))) (IntKind.wrap .i64 ((-1074 : Int) - e))))))] shSl (fun r1 h2 =>
 CallT P n_firebreakref05_small [r1.v] (shInt .u64) (fun r2 h3 =>
 k r2 h3) h2) h1
 else
 Call2 P n_firebreakref05_low [m.v, (.int .i64 (max2I (IntKind.wrap .i64 (r - (53 : Int))) (IntKind.wrap .i64 ((-1074 : Int) - e))))] shSl shSl (fun r1 r2 h2 =>
 CallT P n_firebreakref05_small [r2.v] (shInt .u64) (fun r3 h3 =>
 CallT P n_firebreakref05_of [(.int .u64 (1 : Int))] shSl (fun r4 h4 =>
 CallT P n_firebreakref05_shift [r4.v, (.int .i64 (IntKind.wrap .i64 ((max2I (IntKind.wrap .i64 (r - (53 : Int))) (IntKind.wrap .i64 ((-1074 : Int) - e))) - (1 : Int))))] shSl (fun r5 h5 =>
 CallT P n_firebreakref05_compare [r1.v, r5.v] (shInt .i64) (fun r6 h6 =>
 (((((!(decide (r6 > (0 : Int)))) && (r6 == (0 : Int))) && (!more)) = true → (2 : Int) ≠ (0 : Int)) ∧ LetW (more || ((Int.tmod r3 (2 : Int)) == (1 : Int))) fun y =>
 LetW ((r6 == (0 : Int)) && y) fun y1 =>
 LetW ((decide (r6 > (0 : Int))) || y1) fun y2 =>
 (if y2 = true then
 k (IntKind.wrap .u64 (r3 + (1 : Int))) h6
 else
 k r3 h6))) h5) h4) h3) h2) h1))
 (fun q h2 =>
 (if (decide (q < (4503599627370496 : Int))) = true then
 Q (bitsI .or .u64 neg q) h2
 else
 (if (decide ((IntKind.wrap .i64 ((IntKind.wrap .i64 (e + (max2I (IntKind.wrap .i64 (r - (53 : Int))) (IntKind.wrap .i64 ((-1074 : Int) - e))))) + (1075 : Int))) ≥ (2047 : Int))) = true then
 Q (bitsI .or .u64 neg (9218868437227405312 : Int)) h2
 else
 ((0 : Int) ≤ (52 : Int) ∧ Q (bitsI .or .u64 neg (min2I (IntKind.wrap .u64 ((shlI .u64 (IntKind.wrap .u64 (IntKind.wrap .i64 ((IntKind.wrap .i64 (e + (max2I (IntKind.wrap .i64 (r - (53 : Int))) (IntKind.wrap .i64 ((-1074 : Int) - e))))) + (1075 : Int)))) (52 : Int)) + (IntKind.wrap .u64 (q - (4503599627370496 : Int))))) (9218868437227405312 : Int))) h2))))) h)

def firebreakref05_sum_w (P : Program) (a : Sl) (b : Sl) (Q : (Sl → (Hp → Prop))) (h : Hp) : Prop :=
 NewW [] (fun a1 h1 =>
 LoopW3 (α1 := Sl) (α2 := Int) (α3 := Int) (fun again out c i h2 =>
 LetW ((decide (i < ((a.len : Nat) : Int))) || (decide (i < ((b.len : Nat) : Int)))) fun y =>
 (if y = true then
 JoinW1 (α1 := Int) (fun k =>
 (if (decide (i < ((a.len : Nat) : Int))) = true then
 ((InB a.base a.len i) ∧ LdW none (shInt .u32) h2 (sat a.base 1 i) fun x =>
 k (IntKind.wrap .u64 (c + (IntKind.wrap .u64 x))) h2)
 else
 k c h2))
 (fun c1 h3 =>
 JoinW1 (α1 := Int) (fun k =>
 (if (decide (i < ((b.len : Nat) : Int))) = true then
 ((InB b.base b.len i) ∧ LdW none (shInt .u32) h3 (sat b.base 1 i) fun x =>
 k (IntKind.wrap .u64 (c1 + (IntKind.wrap .u64 x))) h3)
 else
 k c1 h3))
 (fun c2 h4 =>
 NewW [(.int .u32 (IntKind.wrap .u32 c2))] (fun a2 h5 =>
 AppendW 1 4 [(.int .u32 (0 : Int))] ⟨out.base, out.len, out.cap⟩ ⟨(some a2), 1, 1⟩ (fun r h6 =>
 ((0 : Int) ≤ (32 : Int) ∧ again r (shrI .u64 c2 (32 : Int)) (IntKind.wrap .i64 (i + (1 : Int))) h6)) h5) h4))
 else
 NewW [(.int .u32 (IntKind.wrap .u32 c))] (fun a2 h3 =>
 AppendW 1 4 [(.int .u32 (0 : Int))] ⟨out.base, out.len, out.cap⟩ ⟨(some a2), 1, 1⟩ (fun r h4 =>
 CallT P n_firebreakref05_trim [r.v] shSl (fun r1 h5 =>
 Q r1 h5) h4) h3) h2)) ⟨(some a1), 0, 0⟩ (0 : Int) (0 : Int) h1) h

def firebreakref05_compare_w (P : Program) (a : Sl) (b : Sl) (Q : (Int → (Hp → Prop))) (h : Hp) : Prop :=
 (if (((a.len : Nat) : Int) != ((b.len : Nat) : Int)) = true then
 (if (decide (((a.len : Nat) : Int) < ((b.len : Nat) : Int))) = true then
 Q (-1 : Int) h
 else
 Q (1 : Int) h)
 else
 LoopW1 (α1 := Int) (fun again i h1 =>
 (if (decide (i ≥ (0 : Int))) = true then
 ((InB a.base a.len i) ∧ LdW none (shInt .u32) h1 (sat a.base 1 i) fun x =>
 ((InB b.base b.len i) ∧ LdW none (shInt .u32) h1 (sat b.base 1 i) fun x1 =>
 (if (decide (x < x1)) = true then
 Q (-1 : Int) h1
 else
 ((InB a.base a.len i) ∧ LdW none (shInt .u32) h1 (sat a.base 1 i) fun x2 =>
 ((InB b.base b.len i) ∧ LdW none (shInt .u32) h1 (sat b.base 1 i) fun x3 =>
 (if (decide (x2 > x3)) = true then
 Q (1 : Int) h1
 else
 again (IntKind.wrap .i64 (i - (1 : Int))) h1))))))
 else
 Q (0 : Int) h1)) (IntKind.wrap .i64 (((a.len : Nat) : Int) - (1 : Int))) h)

def firebreakref05_less_w (P : Program) (a : Sl) (b : Sl) (Q : (Sl → (Hp → Prop))) (h : Hp) : Prop :=
 NewW [] (fun a1 h1 =>
 LoopW3 (α1 := Sl) (α2 := Int) (α3 := Int) (fun again out c i h2 =>
 (if (decide (i < ((a.len : Nat) : Int))) = true then
 ((InB a.base a.len i) ∧ LdW none (shInt .u32) h2 (sat a.base 1 i) fun x =>
 JoinW1 (α1 := Int) (fun k =>
 (if (decide (i < ((b.len : Nat) : Int))) = true then
 ((InB b.base b.len i) ∧ LdW none (shInt .u32) h2 (sat b.base 1 i) fun x1 =>
 k (IntKind.wrap .i64 ((IntKind.wrap .i64 (c + (IntKind.wrap .i64 x))) - (IntKind.wrap .i64 x1))) h2)
 else
 k (IntKind.wrap .i64 (c + (IntKind.wrap .i64 x))) h2))
 (fun c1 h3 =>
 NewW [(.int .u32 (IntKind.wrap .u32 c1))] (fun a2 h4 =>
 AppendW 1 4 [(.int .u32 (0 : Int))] ⟨out.base, out.len, out.cap⟩ ⟨(some a2), 1, 1⟩ (fun r h5 =>
 ((0 : Int) ≤ (32 : Int) ∧ again r (shrI .i64 c1 (32 : Int)) (IntKind.wrap .i64 (i + (1 : Int))) h5)) h4) h3))
 else
 CallT P n_firebreakref05_trim [out.v] shSl (fun r h3 =>
 Q r h3) h2)) ⟨(some a1), 0, 0⟩ (0 : Int) (0 : Int) h1) h

def firebreakref05_product_w (P : Program) (a : Int) (b : Int) (Q : (Sl → (Hp → Prop))) (h : Hp) : Prop :=
 CallT P n_firebreakref05_of [(.int .u64 a)] shSl (fun r h1 =>
 CallT P n_firebreakref05_times [r.v, (.int .u32 (IntKind.wrap .u32 b))] shSl (fun r1 h2 =>
 CallT P n_firebreakref05_of [(.int .u64 a)] shSl (fun r2 h3 =>
 ((0 : Int) ≤ (32 : Int) ∧ CallT P n_firebreakref05_times [r2.v, (.int .u32 (IntKind.wrap .u32 (shrI .u64 b (32 : Int))))] shSl (fun r3 h4 =>
 CallT P n_firebreakref05_shift [r3.v, (.int .i64 (32 : Int))] shSl (fun r4 h5 =>
 CallT P n_firebreakref05_sum [r1.v, r4.v] shSl (fun r5 h6 =>
 Q r5 h6) h5) h4) h3)) h2) h1) h

def firebreakref05_times_w (P : Program) (a : Sl) (m : Int) (Q : (Sl → (Hp → Prop))) (h : Hp) : Prop :=
 NewW [] (fun a1 h1 =>
 LoopW3 (α1 := Sl) (α2 := Int) (α3 := Int) (fun again out c i h2 =>
 (if (decide (i < ((a.len : Nat) : Int))) = true then
 ((InB a.base a.len i) ∧ LdW none (shInt .u32) h2 (sat a.base 1 i) fun x =>
 NewW [(.int .u32 (IntKind.wrap .u32 (IntKind.wrap .u64 (c + (IntKind.wrap .u64 ((IntKind.wrap .u64 x) * (IntKind.wrap .u64 m)))))))] (fun a2 h3 =>
 AppendW 1 4 [(.int .u32 (0 : Int))] ⟨out.base, out.len, out.cap⟩ ⟨(some a2), 1, 1⟩ (fun r h4 =>
 ((0 : Int) ≤ (32 : Int) ∧ again r (shrI .u64 (IntKind.wrap .u64 (c + (IntKind.wrap .u64 ((IntKind.wrap .u64 x) * (IntKind.wrap .u64 m))))) (32 : Int)) (IntKind.wrap .i64 (i + (1 : Int))) h4)) h3) h2)
 else
 NewW [(.int .u32 (IntKind.wrap .u32 c))] (fun a2 h3 =>
 AppendW 1 4 [(.int .u32 (0 : Int))] ⟨out.base, out.len, out.cap⟩ ⟨(some a2), 1, 1⟩ (fun r h4 =>
 CallT P n_firebreakref05_trim [r.v] shSl (fun r1 h5 =>
 Q r1 h5) h4) h3) h2)) ⟨(some a1), 0, 0⟩ (0 : Int) (0 : Int) h1) h

def internal_stringslite_CutPrefix_w (P : Program) (s : ByteArray) (prefix_ : ByteArray) (Q : (ByteArray → (Bool → (Hp → Prop)))) (h : Hp) : Prop :=
 CallT P n_internal_stringslite_HasPrefix [(.string s), (.string prefix_)] shBool (fun r h1 =>
 (if (!r) = true then
 Q s false h1
 else
 (((0 : Int) ≤ (((ByteArray.size prefix_) : Nat) : Int) ∧ (((ByteArray.size prefix_) : Nat) : Int) ≤ (((ByteArray.size s) : Nat) : Int)) ∧ Q (ByteArray.extract s (Int.toNat (((ByteArray.size prefix_) : Nat) : Int)) (ByteArray.size s)) true h1))) h

def internal_strconv_ParseFloat_w (P : Program) (s : ByteArray) (bitSize : Int) (Q : (Nat → (Leaf → (Hp → Prop)))) (h : Hp) : Prop :=
 Call3 P n_internal_strconv_parseFloatPrefix [(.string s), (.int .i64 bitSize)] (shFlt .f64) (shInt .i64) shLeaf (fun r r1 r2 h1 =>
 (if (r1 != (((ByteArray.size s) : Nat) : Int)) = true then
 EncW shLeaf (.iface 81 (.int .i64 (2 : Int))) fun e =>
 Q 0 e h1
 else
 EncW shLeaf r2.v fun e =>
 Q r e h1)) h

def internal_stringslite_Cut_w (P : Program) (s : ByteArray) (sep : ByteArray) (Q : (ByteArray → (ByteArray → (Bool → (Hp → Prop))))) (h : Hp) : Prop :=
 CallT P n_internal_stringslite_Index [(.string s), (.string sep)] (shInt .i64) (fun r h1 =>
 (if (decide (r ≥ (0 : Int))) = true then
 (((0 : Int) ≤ r ∧ r ≤ (((ByteArray.size s) : Nat) : Int)) ∧ (((0 : Int) ≤ (IntKind.wrap .i64 (r + (((ByteArray.size sep) : Nat) : Int))) ∧ (IntKind.wrap .i64 (r + (((ByteArray.size sep) : Nat) : Int))) ≤ (((ByteArray.size s) : Nat) : Int)) ∧ Q (ByteArray.extract s 0 (Int.toNat r)) (ByteArray.extract s (Int.toNat (IntKind.wrap .i64 (r + (((ByteArray.size sep) : Nat) : Int)))) (ByteArray.size s)) true h1))
 else
 Q s ⟨#[]⟩ false h1)) h

def internal_strconv_FormatFloat_w (P : Program) (f : Nat) (fmt : Int) (prec : Int) (bitSize : Int) (Q : (ByteArray → (Hp → Prop))) (h : Hp) : Prop :=
 (if (bitSize == (32 : Int)) = true then
 MakeW 1 [(.int .u8 (0 : Int))] (0 : Int) (max2I (IntKind.wrap .i64 (prec + (4 : Int))) (24 : Int)) (fun r h1 =>
 SemV none P (convert 34 100 (.float .f64 f)) (shFlt .f32) h1 fun x =>
 CallT P n_internal_strconv_ftoa32 [r.v, (.float .f32 x), (.int .u8 fmt), (.int .i64 prec)] shSl (fun r1 h2 =>
 SemV none P (convert 83 9 r1.v) shStr h2 fun x1 =>
 Q x1 h2) h1) h
 else
 (if (bitSize == (64 : Int)) = true then
 MakeW 1 [(.int .u8 (0 : Int))] (0 : Int) (max2I (IntKind.wrap .i64 (prec + (4 : Int))) (24 : Int)) (fun r h1 =>
 CallT P n_internal_strconv_ftoa64 [r.v, (.float .f64 f), (.int .u8 fmt), (.int .i64 prec)] shSl (fun r1 h2 =>
 SemV none P (convert 83 9 r1.v) shStr h2 fun x =>
 Q x h2) h1) h
 else
 False))

def internal_strconv_Atoi_w (P : Program) (s : ByteArray) (Q : (Int → (Leaf → (Hp → Prop)))) (h : Hp) : Prop :=
 LetW ((decide ((0 : Int) < (((ByteArray.size s) : Nat) : Int))) && (decide ((((ByteArray.size s) : Nat) : Int) < (10 : Int)))) fun y =>
 LetW (false && y) fun y1 =>
 LetW ((decide ((0 : Int) < (((ByteArray.size s) : Nat) : Int))) && (decide ((((ByteArray.size s) : Nat) : Int) < (19 : Int)))) fun y2 =>
 LetW (true && y2) fun y3 =>
 LetW (y1 || y3) fun y4 =>
 (if y4 = true then
 JoinW1 (α1 := ByteArray) (fun k =>
 (((0 : Int) ≤ (0 : Int) ∧ (0 : Int) < (((ByteArray.size s) : Nat) : Int)) ∧ (((!((((UInt8.toNat (List.getD s.data.toList 0 0)) : Nat) : Int) == (45 : Int))) = true → ((0 : Int) ≤ (0 : Int) ∧ (0 : Int) < (((ByteArray.size s) : Nat) : Int))) ∧ LetW (((((UInt8.toNat (List.getD s.data.toList 0 0)) : Nat) : Int) == (45 : Int)) || ((((UInt8.toNat (List.getD s.data.toList 0 0)) : Nat) : Int) == (43 : Int))) fun y5 =>
 (if y5 = true then
 (((0 : Int) ≤ (1 : Int) ∧ (1 : Int) ≤ (((ByteArray.size s) : Nat) : Int)) ∧ (if (decide ((((ByteArray.size (ByteArray.extract s 1 (ByteArray.size s))) : Nat) : Int) < (1 : Int))) = true then
 EncW shLeaf (.iface 81 (.int .i64 (2 : Int))) fun e =>
 Q (0 : Int) e h
 else
 k (ByteArray.extract s 1 (ByteArray.size s)) h))
 else
 k s h))))
 (fun s1 h1 =>
 BytesW s1 (fun r h2 =>
 LoopW2 (α1 := Int) (α2 := Int) (fun again n t49 h3 =>
 (if (decide (t49 < ((r.len : Nat) : Int))) = true then
 ((InB r.base r.len t49) ∧ LdW none (shInt .u8) h3 (sat r.base 1 t49) fun x =>
 (if (decide ((IntKind.wrap .u8 (x - (48 : Int))) > (9 : Int))) = true then
 EncW shLeaf (.iface 81 (.int .i64 (2 : Int))) fun e =>
 Q (0 : Int) e h3
 else
 again (IntKind.wrap .i64 ((IntKind.wrap .i64 (n * (10 : Int))) + (IntKind.wrap .i64 (IntKind.wrap .u8 (x - (48 : Int)))))) (IntKind.wrap .i64 (t49 + (1 : Int))) h3))
 else
 (((0 : Int) ≤ (0 : Int) ∧ (0 : Int) < (((ByteArray.size s) : Nat) : Int)) ∧ (if ((((UInt8.toNat (List.getD s.data.toList 0 0)) : Nat) : Int) == (45 : Int)) = true then
 EncW shLeaf .nilIface fun e =>
 Q (IntKind.wrap .i64 ((0 : Int) - n)) e h3
 else
 EncW shLeaf .nilIface fun e =>
 Q n e h3)))) (0 : Int) (0 : Int) h2) h1)
 else
 Call2 P n_internal_strconv_ParseInt [(.string s), (.int .i64 (10 : Int)), (.int .i64 (0 : Int))] (shInt .i64) shLeaf (fun r r1 h1 =>
 EncW shLeaf r1.v fun e =>
 Q r e h1) h)

def internal_strconv_Itoa_w (P : Program) (i : Int) (Q : (ByteArray → (Hp → Prop))) (h : Hp) : Prop :=
 CallT P n_internal_strconv_FormatInt [(.int .i64 i), (.int .i64 (10 : Int))] shStr (fun r h1 =>
 Q r h1) h

def firebreakref05_trim_w (P : Program) (a : Sl) (Q : (Sl → (Hp → Prop))) (h : Hp) : Prop :=
 LoopW1 (α1 := Sl) (fun again a1 h1 =>
 (((decide (((a1.len : Nat) : Int) > (0 : Int))) = true → (InB a1.base a1.len (IntKind.wrap .i64 (((a1.len : Nat) : Int) - (1 : Int))))) ∧ LdW (some (decide (((a1.len : Nat) : Int) > (0 : Int)))) (shInt .u32) h1 (sat a1.base 1 (IntKind.wrap .i64 (((a1.len : Nat) : Int) - (1 : Int)))) fun x =>
 LetW ((decide (((a1.len : Nat) : Int) > (0 : Int))) && (x == (0 : Int))) fun y =>
 (if y = true then
 (((0 : Int) ≤ (IntKind.wrap .i64 (((a1.len : Nat) : Int) - (1 : Int))) ∧ (IntKind.wrap .i64 (((a1.len : Nat) : Int) - (1 : Int))) ≤ ((a1.cap : Nat) : Int)) ∧ LetW (α := Sl) ⟨(sbase a1.base 1 0 a1.cap), ((Int.toNat (IntKind.wrap .i64 (((a1.len : Nat) : Int) - (1 : Int)))) - 0), (a1.cap - 0)⟩ fun y1 =>
 again y1 h1)
 else
 Q a1 h1))) a h

def firebreakref05_bits_w (P : Program) (m : Sl) (Q : (Int → (Hp → Prop))) (h : Hp) : Prop :=
 (if (((m.len : Nat) : Int) == (0 : Int)) = true then
 Q (0 : Int) h
 else
 ((InB m.base m.len (IntKind.wrap .i64 (((m.len : Nat) : Int) - (1 : Int)))) ∧ LdW none (shInt .u32) h (sat m.base 1 (IntKind.wrap .i64 (((m.len : Nat) : Int) - (1 : Int)))) fun x =>
 LoopW2 (α1 := Int) (α2 := Int) (fun again n top h1 =>
 (if (decide (top > (0 : Int))) = true then
 ((2 : Int) ≠ (0 : Int) ∧ again (IntKind.wrap .i64 (n + (1 : Int))) (IntKind.wrap .u32 (Int.tdiv top (2 : Int))) h1)
 else
 Q n h1)) (IntKind.wrap .i64 ((32 : Int) * (IntKind.wrap .i64 (((m.len : Nat) : Int) - (1 : Int))))) x h))

def firebreakref05_small_w (P : Program) (m : Sl) (Q : (Int → (Hp → Prop))) (h : Hp) : Prop :=
 LoopW2 (α1 := Int) (α2 := Int) (fun again n i h1 =>
 (if (decide (i ≥ (0 : Int))) = true then
 ((0 : Int) ≤ (32 : Int) ∧ ((InB m.base m.len i) ∧ LdW none (shInt .u32) h1 (sat m.base 1 i) fun x =>
 again (bitsI .or .u64 (shlI .u64 n (32 : Int)) (IntKind.wrap .u64 x)) (IntKind.wrap .i64 (i - (1 : Int))) h1))
 else
 Q n h1)) (0 : Int) (IntKind.wrap .i64 (((m.len : Nat) : Int) - (1 : Int))) h

def firebreakref05_low_w (P : Program) (m : Sl) (n : Int) (Q : (Sl → (Sl → (Hp → Prop)))) (h : Hp) : Prop :=
 NewW [] (fun a h1 =>
 NewW [(.slice none 0 0)] (fun a1 h2 =>
 StW h2 a1 [(.slice (some a) 0 0)] (fun h3 =>
 NewW [] (fun a2 h4 =>
 NewW [(.slice none 0 0)] (fun a3 h5 =>
 StW h5 a3 [(.slice (some a2) 0 0)] (fun h6 =>
 LoopW1 (α1 := Int) (fun again i h7 =>
 (if (decide (i < (IntKind.wrap .i64 ((32 : Int) * ((m.len : Nat) : Int))))) = true then
 ((32 : Int) ≠ (0 : Int) ∧ ((InB m.base m.len (IntKind.wrap .i64 (Int.tdiv i (32 : Int)))) ∧ LdW none (shInt .u32) h7 (sat m.base 1 (IntKind.wrap .i64 (Int.tdiv i (32 : Int)))) fun x =>
 ((32 : Int) ≠ (0 : Int) ∧ ((0 : Int) ≤ (Int.tmod i (32 : Int)) ∧ JoinW2 (α1 := Option Addr) (α2 := Int) (fun k =>
 (if (decide (i ≥ n)) = true then
 k (some a3) (IntKind.wrap .i64 (i - n)) h7
 else
 k (some a1) i h7))
 (fun at_ k h8 =>
 JoinW0 (fun k1 =>
 ((32 : Int) ≠ (0 : Int) ∧ (if ((Int.tmod k (32 : Int)) == (0 : Int)) = true then
 NilW none at_ fun p =>
 LdW none shSl h8 p fun x1 =>
 NewW [(.int .u32 (0 : Int))] (fun a4 h9 =>
 AppendW 1 4 [(.int .u32 (0 : Int))] x1 ⟨(some a4), 1, 1⟩ (fun r h10 =>
 NilW none at_ fun p1 =>
 StW h10 p1 [r.v] (fun h11 =>
 k1 h11)) h9) h8
 else
 k1 h8)))
 (fun h9 =>
 NilW none at_ fun p =>
 LdW none shSl h9 p fun x1 =>
 ((32 : Int) ≠ (0 : Int) ∧ ((InB x1.base x1.len (IntKind.wrap .i64 (Int.tdiv k (32 : Int)))) ∧ LdW none (shInt .u32) h9 (sat x1.base 1 (IntKind.wrap .i64 (Int.tdiv k (32 : Int)))) fun x2 =>
 ((32 : Int) ≠ (0 : Int) ∧ ((0 : Int) ≤ (Int.tmod k (32 : Int)) ∧ ((InB x1.base x1.len (IntKind.wrap .i64 (Int.tdiv k (32 : Int)))) ∧ StW h9 (sat x1.base 1 (IntKind.wrap .i64 (Int.tdiv k (32 : Int)))) [(.int .u32 (bitsI .or .u32 x2 (shlI .u32 (bitsI .and .u32 (shrI .u32 x (Int.tmod i (32 : Int))) (1 : Int)) (Int.tmod k (32 : Int)))))] (fun h10 =>
 again (IntKind.wrap .i64 (i + (1 : Int))) h10))))))))))))
 else
 LdW none shSl h7 a1 fun x =>
 LdW none shSl h7 a3 fun x1 =>
 CallT P n_firebreakref05_trim [x.v] shSl (fun r h8 =>
 (((LdIs h8 a3 [x1.v]) ∧ True) ∧ CallT P n_firebreakref05_trim [x1.v] shSl (fun r1 h9 =>
 Q r r1 h9) h8)) h7)) (0 : Int) h6)) h4) h3)) h1) h

def internal_stringslite_HasPrefix_w (P : Program) (s : ByteArray) (prefix_ : ByteArray) (Q : (Bool → (Hp → Prop))) (h : Hp) : Prop :=
 (((decide ((((ByteArray.size s) : Nat) : Int) ≥ (((ByteArray.size prefix_) : Nat) : Int))) = true → ((0 : Int) ≤ (((ByteArray.size prefix_) : Nat) : Int) ∧ (((ByteArray.size prefix_) : Nat) : Int) ≤ (((ByteArray.size s) : Nat) : Int))) ∧ LetW ((decide ((((ByteArray.size s) : Nat) : Int) ≥ (((ByteArray.size prefix_) : Nat) : Int))) && ((ByteArray.toList (ByteArray.extract s 0 (Int.toNat (((ByteArray.size prefix_) : Nat) : Int)))) == (ByteArray.toList prefix_))) fun y =>
 Q y h)

def internal_strconv_lower_w (P : Program) (c : Int) (Q : (Int → (Hp → Prop))) (h : Hp) : Prop :=
 Q (bitsI .or .u8 c (32 : Int)) h

def internal_strconv_parseFloatPrefix_w (P : Program) (s : ByteArray) (bitSize : Int) (Q : (Nat → (Int → (Leaf → (Hp → Prop))))) (h : Hp) : Prop :=
 (if (bitSize == (32 : Int)) = true then
 Call3 P n_internal_strconv_atof32 [(.string s)] (shFlt .f32) (shInt .i64) shLeaf (fun r r1 r2 h1 =>
 SemV none P (convert 100 34 (.float .f32 r)) (shFlt .f64) h1 fun x =>
 EncW shLeaf r2.v fun e =>
 Q x r1 e h1) h
 else
 Call3 P n_internal_strconv_atof64 [(.string s)] (shFlt .f64) (shInt .i64) shLeaf (fun r r1 r2 h1 =>
 EncW shLeaf r2.v fun e =>
 Q r r1 e h1) h)

def internal_stringslite_Index_w (P : Program) (s : ByteArray) (substr : ByteArray) (Q : (Int → (Hp → Prop))) (h : Hp) : Prop :=
 LetW (((((ByteArray.size substr) : Nat) : Int) == (0 : Int)) || ((ByteArray.toList substr) == (ByteArray.toList s))) fun y =>
 (if y = true then
 Q (0 : Int) h
 else
 (if ((((ByteArray.size substr) : Nat) : Int) == (1 : Int)) = true then
 (((0 : Int) ≤ (0 : Int) ∧ (0 : Int) < (((ByteArray.size substr) : Nat) : Int)) ∧ CallT P n_internal_stringslite_IndexByte [(.string s), (.int .u8 (((UInt8.toNat (List.getD substr.data.toList 0 0)) : Nat) : Int))] (shInt .i64) (fun r h1 =>
 Q r h1) h)
 else
 (if (decide ((((ByteArray.size substr) : Nat) : Int) ≥ (((ByteArray.size s) : Nat) : Int))) = true then
 Q (-1 : Int) h
 else
 LdW none (shInt .i64) h ⟨3, 0, none⟩ fun x =>
 LetW ((decide ((((ByteArray.size substr) : Nat) : Int) ≤ x)) && (decide ((((ByteArray.size s) : Nat) : Int) ≤ (64 : Int)))) fun y1 =>
 (if y1 = true then
 False
 else
 (((0 : Int) ≤ (0 : Int) ∧ (0 : Int) < (((ByteArray.size substr) : Nat) : Int)) ∧ (((0 : Int) ≤ (1 : Int) ∧ (1 : Int) < (((ByteArray.size substr) : Nat) : Int)) ∧ LoopW2 (α1 := Int) (α2 := Int) (fun again i fails h1 =>
 (if (decide (i < (IntKind.wrap .i64 ((IntKind.wrap .i64 ((((ByteArray.size s) : Nat) : Int) - (((ByteArray.size substr) : Nat) : Int))) + (1 : Int))))) = true then
 JoinW1 (α1 := Int) (fun k =>
 (((0 : Int) ≤ i ∧ i < (((ByteArray.size s) : Nat) : Int)) ∧ (if ((((UInt8.toNat (List.getD s.data.toList (Int.toNat i) 0)) : Nat) : Int) != (((UInt8.toNat (List.getD substr.data.toList 0 0)) : Nat) : Int)) = true then
 (((0 : Int) ≤ (IntKind.wrap .i64 (i + (1 : Int))) ∧ ((IntKind.wrap .i64 (i + (1 : Int))) ≤ (IntKind.wrap .i64 ((IntKind.wrap .i64 ((((ByteArray.size s) : Nat) : Int) - (((ByteArray.size substr) : Nat) : Int))) + (1 : Int))) ∧ (IntKind.wrap .i64 ((IntKind.wrap .i64 ((((ByteArray.size s) : Nat) : Int) - (((ByteArray.size substr) : Nat) : Int))) + (1 : Int))) ≤ (((ByteArray.size s) : Nat) : Int))) ∧ CallT P n_internal_stringslite_IndexByte [(.string (ByteArray.extract s (Int.toNat (IntKind.wrap .i64 (i + (1 : Int)))) (Int.toNat (IntKind.wrap .i64 ((IntKind.wrap .i64 ((((ByteArray.size s) : Nat) : Int) - (((ByteArray.size substr) : Nat) : Int))) + (1 : Int)))))), (.int .u8 (((UInt8.toNat (List.getD substr.data.toList 0 0)) : Nat) : Int))] (shInt .i64) (fun r h2 =>
 (if (decide (r < (0 : Int))) = true then
 Q (-1 : Int) h2
 else
 k (IntKind.wrap .i64 (i + (IntKind.wrap .i64 (r + (1 : Int))))) h2)) h1)
 else
 k i h1)))
 (fun i1 h2 =>
 (((0 : Int) ≤ (IntKind.wrap .i64 (i1 + (1 : Int))) ∧ (IntKind.wrap .i64 (i1 + (1 : Int))) < (((ByteArray.size s) : Nat) : Int)) ∧ ((((((UInt8.toNat (List.getD s.data.toList (Int.toNat (IntKind.wrap .i64 (i1 + (1 : Int)))) 0)) : Nat) : Int) == (((UInt8.toNat (List.getD substr.data.toList 1 0)) : Nat) : Int)) = true → ((0 : Int) ≤ i1 ∧ (i1 ≤ (IntKind.wrap .i64 (i1 + (((ByteArray.size substr) : Nat) : Int))) ∧ (IntKind.wrap .i64 (i1 + (((ByteArray.size substr) : Nat) : Int))) ≤ (((ByteArray.size s) : Nat) : Int)))) ∧ LetW (((((UInt8.toNat (List.getD s.data.toList (Int.toNat (IntKind.wrap .i64 (i1 + (1 : Int)))) 0)) : Nat) : Int) == (((UInt8.toNat (List.getD substr.data.toList 1 0)) : Nat) : Int)) && ((ByteArray.toList (ByteArray.extract s (Int.toNat i1) (Int.toNat (IntKind.wrap .i64 (i1 + (((ByteArray.size substr) : Nat) : Int)))))) == (ByteArray.toList substr))) fun y2 =>
 (if y2 = true then
 Q i1 h2
 else
 LdW none (shInt .i64) h2 ⟨3, 0, none⟩ fun x1 =>
 EffC (some (decide ((((ByteArray.size substr) : Nat) : Int) ≤ x1))) (CallT P n_internal_bytealg_Cutover [(.int .i64 (IntKind.wrap .i64 (i1 + (1 : Int))))] (shInt .i64)) (fun r h3 =>
 LetW ((decide ((((ByteArray.size substr) : Nat) : Int) ≤ x1)) && (decide ((IntKind.wrap .i64 (fails + (1 : Int))) > r))) fun y3 =>
 (if y3 = true then
 (((0 : Int) ≤ (IntKind.wrap .i64 (i1 + (1 : Int))) ∧ (IntKind.wrap .i64 (i1 + (1 : Int))) ≤ (((ByteArray.size s) : Nat) : Int)) ∧ False)
 else
 LdW none (shInt .i64) h3 ⟨3, 0, none⟩ fun x2 =>
 (((decide ((((ByteArray.size substr) : Nat) : Int) > x2)) = true → (0 : Int) ≤ (4 : Int)) ∧ LetW ((decide ((((ByteArray.size substr) : Nat) : Int) > x2)) && (decide ((IntKind.wrap .i64 (fails + (1 : Int))) ≥ (IntKind.wrap .i64 ((4 : Int) + (shrI .i64 (IntKind.wrap .i64 (i1 + (1 : Int))) (4 : Int))))))) fun y4 =>
 LetW (y4 && (decide ((IntKind.wrap .i64 (i1 + (1 : Int))) < (IntKind.wrap .i64 ((IntKind.wrap .i64 ((((ByteArray.size s) : Nat) : Int) - (((ByteArray.size substr) : Nat) : Int))) + (1 : Int)))))) fun y5 =>
 (if y5 = true then
 (((0 : Int) ≤ (IntKind.wrap .i64 (i1 + (1 : Int))) ∧ (IntKind.wrap .i64 (i1 + (1 : Int))) ≤ (((ByteArray.size s) : Nat) : Int)) ∧ CallT P n_internal_bytealg_IndexRabinKarp_string [(.string (ByteArray.extract s (Int.toNat (IntKind.wrap .i64 (i1 + (1 : Int)))) (ByteArray.size s))), (.string substr)] (shInt .i64) (fun r1 h4 =>
 (if (decide (r1 < (0 : Int))) = true then
 Q (-1 : Int) h4
 else
 Q (IntKind.wrap .i64 ((IntKind.wrap .i64 (i1 + (1 : Int))) + r1)) h4)) h3)
 else
 again (IntKind.wrap .i64 (i1 + (1 : Int))) (IntKind.wrap .i64 (fails + (1 : Int))) h3)))) h2))))
 else
 Q (-1 : Int) h1)) (0 : Int) (0 : Int) h))))))

def internal_strconv_ftoa64_w (P : Program) (dst : Sl) (val : Nat) (fmt : Int) (prec : Int) (Q : (Sl → (Hp → Prop))) (h : Hp) : Prop :=
 JoinW4 (α1 := Int) (α2 := Int) (α3 := Int) (α4 := Int) (fun k =>
 SemE P (Extern.MathFloatBits.float64bits #[(.float .f64 val)]) (shInt .u64) (fun r h1 =>
 k r (11 : Int) (52 : Int) (-1023 : Int) h1) h)
 (fun b expBits mantBits bias h1 =>
 ((0 : Int) ≤ (IntKind.wrap .i64 (expBits + mantBits)) ∧ ((0 : Int) ≤ mantBits ∧ ((0 : Int) ≤ expBits ∧ ((0 : Int) ≤ mantBits ∧ ((0 : Int) ≤ expBits ∧ (if ((bitsI .and .i64 (IntKind.wrap .i64 (shrI .u64 b mantBits)) (IntKind.wrap .i64 ((shlI .i64 (1 : Int) expBits) - (1 : Int)))) == (IntKind.wrap .i64 ((shlI .i64 (1 : Int) expBits) - (1 : Int)))) = true then
 (if ((bitsI .and .u64 b (IntKind.wrap .u64 ((shlI .u64 (1 : Int) mantBits) - (1 : Int)))) != (0 : Int)) = true then
 AppendStrW dst ⟨#[78, 97, 78]⟩ (fun r h2 =>
 Q r h2) h1
 else
 (if ((shrI .u64 b (IntKind.wrap .i64 (expBits + mantBits))) != (0 : Int)) = true then
 AppendStrW dst ⟨#[45, 73, 110, 102]⟩ (fun r h2 =>
 Q r h2) h1
 else
 AppendStrW dst ⟨#[43, 73, 110, 102]⟩ (fun r h2 =>
 Q r h2) h1))
 else
 JoinW2 (α1 := Int) (α2 := Int) (fun k =>
 (if ((bitsI .and .i64 (IntKind.wrap .i64 (shrI .u64 b mantBits)) (IntKind.wrap .i64 ((shlI .i64 (1 : Int) expBits) - (1 : Int)))) == (0 : Int)) = true then
 k (IntKind.wrap .i64 ((bitsI .and .i64 (IntKind.wrap .i64 (shrI .u64 b mantBits)) (IntKind.wrap .i64 ((shlI .i64 (1 : Int) expBits) - (1 : Int)))) + (1 : Int))) (bitsI .and .u64 b (IntKind.wrap .u64 ((shlI .u64 (1 : Int) mantBits) - (1 : Int)))) h1
 else
 ((0 : Int) ≤ mantBits ∧ k (bitsI .and .i64 (IntKind.wrap .i64 (shrI .u64 b mantBits)) (IntKind.wrap .i64 ((shlI .i64 (1 : Int) expBits) - (1 : Int)))) (bitsI .or .u64 (bitsI .and .u64 b (IntKind.wrap .u64 ((shlI .u64 (1 : Int) mantBits) - (1 : Int)))) (shlI .u64 (1 : Int) mantBits)) h1)))
 (fun exp mant h2 =>
 (if (fmt == (98 : Int)) = true then
 CallT P n_internal_strconv_fmtB [dst.v, (.bool ((shrI .u64 b (IntKind.wrap .i64 (expBits + mantBits))) != (0 : Int))), (.int .u64 mant), (.int .i64 (IntKind.wrap .i64 ((IntKind.wrap .i64 (exp + bias)) - mantBits)))] shSl (fun r h3 =>
 Q r h3) h2
 else
 LetW ((fmt == (120 : Int)) || (fmt == (88 : Int))) fun y =>
 (if y = true then
 CallT P n_internal_strconv_fmtX [dst.v, (.int .i64 prec), (.int .u8 fmt), (.bool ((shrI .u64 b (IntKind.wrap .i64 (expBits + mantBits))) != (0 : Int))), (.int .u64 mant), (.int .i64 (IntKind.wrap .i64 (exp + bias))), (.int .i64 mantBits)] shSl (fun r h3 =>
 Q r h3) h2
 else
 (if (mant == (0 : Int)) = true then
 CallT P n_internal_strconv_fmtEFG [dst.v, (.bool ((shrI .u64 b (IntKind.wrap .i64 (expBits + mantBits))) != (0 : Int))), (.slice none 0 0), (.int .i64 (0 : Int)), (.int .i64 (0 : Int)), (.int .i64 prec), (.int .u8 fmt), (.bool (decide (prec < (0 : Int))))] shSl (fun r h3 =>
 Q r h3) h2
 else
 (if (decide (prec < (0 : Int))) = true then
 NewW [(.int .u8 (0 : Int)), (.int .u8 (0 : Int)), (.int .u8 (0 : Int)), (.int .u8 (0 : Int)), (.int .u8 (0 : Int)), (.int .u8 (0 : Int)), (.int .u8 (0 : Int)), (.int .u8 (0 : Int)), (.int .u8 (0 : Int)), (.int .u8 (0 : Int)), (.int .u8 (0 : Int)), (.int .u8 (0 : Int)), (.int .u8 (0 : Int)), (.int .u8 (0 : Int)), (.int .u8 (0 : Int)), (.int .u8 (0 : Int)), (.int .u8 (0 : Int)), (.int .u8 (0 : Int)), (.int .u8 (0 : Int)), (.int .u8 (0 : Int)), (.int .u8 (0 : Int)), (.int .u8 (0 : Int)), (.int .u8 (0 : Int)), (.int .u8 (0 : Int)), (.int .u8 (0 : Int)), (.int .u8 (0 : Int)), (.int .u8 (0 : Int)), (.int .u8 (0 : Int)), (.int .u8 (0 : Int)), (.int .u8 (0 : Int)), (.int .u8 (0 : Int)), (.int .u8 (0 : Int))] (fun a h3 =>
 CallT P n_math_bits_Len64 [(.int .u64 mant)] (shInt .i64) (fun r h4 =>
 ((0 : Int) ≤ (IntKind.wrap .i64 ((64 : Int) - r)) ∧ Call2 P n_internal_strconv_shortFloat_float64 [(.int .u64 (shlI .u64 mant (IntKind.wrap .i64 ((64 : Int) - r)))), (.int .i64 (IntKind.wrap .i64 ((IntKind.wrap .i64 ((IntKind.wrap .i64 (exp + bias)) - (IntKind.wrap .i64 ((64 : Int) - r)))) - mantBits)))] (shInt .u64) (shInt .i64) (fun r1 r2 h5 =>
 LetW (α := Sl) ⟨(sbase (some a) 1 0 32), 32, 32⟩ fun y1 =>
 CallT P n_internal_strconv_numDigits [(.int .u64 r1)] (shInt .i64) (fun r3 h6 =>
 Call2 P n_internal_strconv_setDigits [y1.v, (.int .u64 r1), (.int .i64 r2), (.int .i64 r3)] (shInt .i64) (shInt .i64) (fun r4 r5 h7 =>
 JoinW1 (α1 := Int) (fun k =>
 JoinW1 (α1 := Bool) (fun k1 =>
 (if (fmt == (101 : Int)) = true then
 k1 (fmt == (101 : Int)) h7
 else
 k1 (fmt == (69 : Int)) h7))
 (fun t149 h8 =>
 (if t149 = true then
 k (max2I (IntKind.wrap .i64 (r5 - (1 : Int))) (0 : Int)) h8
 else
 (if (fmt == (102 : Int)) = true then
 k (max2I (IntKind.wrap .i64 (r5 - r4)) (0 : Int)) h8
 else
 JoinW1 (α1 := Bool) (fun k1 =>
 (if (fmt == (103 : Int)) = true then
 k1 (fmt == (103 : Int)) h8
 else
 k1 (fmt == (71 : Int)) h8))
 (fun t161 h9 =>
 (if t161 = true then
 k r5 h9
 else
 k prec h9))))))
 (fun prec1 h8 =>
 LetW (α := Sl) ⟨(sbase (some a) 1 0 32), 32, 32⟩ fun y2 =>
 CallT P n_internal_strconv_fmtEFG [dst.v, (.bool ((shrI .u64 b (IntKind.wrap .i64 (expBits + mantBits))) != (0 : Int))), y2.v, (.int .i64 r4), (.int .i64 r5), (.int .i64 prec1), (.int .u8 fmt), (.bool true)] shSl (fun r6 h9 =>
 Q r6 h9) h8)) h6) h5) h4)) h3) h2
 else
 JoinW1 (α1 := Int) (fun k =>
 LdW none shBool h2 ⟨4, 0, none⟩ fun x =>
 (if x = true then
 JoinW2 (α1 := Int) (α2 := Int) (fun k1 =>
 (if (fmt == (102 : Int)) = true then
 (if (decide ((IntKind.wrap .i64 (exp + bias)) ≥ (0 : Int))) = true then
 CallT P n_internal_strconv_log10Pow2 [(.int .i64 (IntKind.wrap .i64 ((1 : Int) + (IntKind.wrap .i64 (exp + bias)))))] (shInt .i64) (fun r h3 =>
 k1 prec (IntKind.wrap .i64 ((IntKind.wrap .i64 ((1 : Int) + r)) + prec)) h3) h2
 else
 CallT P n_internal_strconv_log10Pow2 [(.int .i64 (IntKind.wrap .i64 ((0 : Int) - (IntKind.wrap .i64 (exp + bias)))))] (shInt .i64) (fun r h3 =>
 k1 prec (IntKind.wrap .i64 ((IntKind.wrap .i64 ((1 : Int) + prec)) - r)) h3) h2)
 else
 JoinW1 (α1 := Bool) (fun k2 =>
 (if (fmt == (101 : Int)) = true then
 k2 (fmt == (101 : Int)) h2
 else
 k2 (fmt == (69 : Int)) h2))
 (fun t192 h3 =>
 (if t192 = true then
 k1 prec (IntKind.wrap .i64 (prec + (1 : Int))) h3
 else
 JoinW1 (α1 := Bool) (fun k2 =>
 (if (fmt == (103 : Int)) = true then
 k2 (fmt == (103 : Int)) h3
 else
 k2 (fmt == (71 : Int)) h3))
 (fun t197 h4 =>
 (if t197 = true then
 JoinW1 (α1 := Int) (fun k2 =>
 (if (prec == (0 : Int)) = true then
 k2 (1 : Int) h4
 else
 k2 prec h4))
 (fun prec1 h5 =>
 k1 prec1 prec1 h5)
 else
 k1 prec (1 : Int) h4))))))
 (fun prec1 digits h3 =>
 (if (decide (digits ≤ (18 : Int))) = true then
 NewW [(.int .u8 (0 : Int)), (.int .u8 (0 : Int)), (.int .u8 (0 : Int)), (.int .u8 (0 : Int)), (.int .u8 (0 : Int)), (.int .u8 (0 : Int)), (.int .u8 (0 : Int)), (.int .u8 (0 : Int)), (.int .u8 (0 : Int)), (.int .u8 (0 : Int)), (.int .u8 (0 : Int)), (.int .u8 (0 : Int)), (.int .u8 (0 : Int)), (.int .u8 (0 : Int)), (.int .u8 (0 : Int)), (.int .u8 (0 : Int)), (.int .u8 (0 : Int)), (.int .u8 (0 : Int)), (.int .u8 (0 : Int)), (.int .u8 (0 : Int)), (.int .u8 (0 : Int)), (.int .u8 (0 : Int)), (.int .u8 (0 : Int)), (.int .u8 (0 : Int))] (fun a h4 =>
 JoinW2 (α1 := Int) (α2 := Int) (fun k1 =>
 (if (decide (digits > (0 : Int))) = true then
 CallT P n_math_bits_Len64 [(.int .u64 mant)] (shInt .i64) (fun r h5 =>
 ((0 : Int) ≤ (IntKind.wrap .i64 ((64 : Int) - r)) ∧ Call2 P n_internal_strconv_fixedWidthFloat [(.int .u64 (shlI .u64 mant (IntKind.wrap .i64 ((64 : Int) - r)))), (.int .i64 (IntKind.wrap .i64 ((IntKind.wrap .i64 ((IntKind.wrap .i64 (exp + bias)) - (IntKind.wrap .i64 ((64 : Int) - r)))) - mantBits))), (.int .i64 digits), (.int .i64 prec1), (.int .u8 fmt)] (shInt .u64) (shInt .i64) (fun r1 r2 h6 =>
 (if (r1 != (0 : Int)) = true then
 LetW (α := Sl) ⟨(sbase (some a) 1 0 24), 24, 24⟩ fun y1 =>
 CallT P n_internal_strconv_numDigits [(.int .u64 r1)] (shInt .i64) (fun r3 h7 =>
 Call2 P n_internal_strconv_setDigits [y1.v, (.int .u64 r1), (.int .i64 r2), (.int .i64 r3)] (shInt .i64) (shInt .i64) (fun r4 r5 h8 =>
 k1 r4 r5 h8) h7) h6
 else
 k1 (0 : Int) (0 : Int) h6)) h5)) h4
 else
 k1 (0 : Int) (0 : Int) h4))
 (fun dp nd h5 =>
 LetW (α := Sl) ⟨(sbase (some a) 1 0 24), 24, 24⟩ fun y1 =>
 CallT P n_internal_strconv_fmtEFG [dst.v, (.bool ((shrI .u64 b (IntKind.wrap .i64 (expBits + mantBits))) != (0 : Int))), y1.v, (.int .i64 dp), (.int .i64 nd), (.int .i64 prec1), (.int .u8 fmt), (.bool false)] shSl (fun r h6 =>
 Q r h6) h5)) h3
 else
 k prec1 h3))
 else
 k prec h2))
 (fun prec1 h3 =>
 NewW [(.int .u8 (0 : Int)), (.int .u8 (0 : Int)), (.int .u8 (0 : Int)), (.int .u8 (0 : Int)), (.int .u8 (0 : Int)), (.int .u8 (0 : Int)), (.int .u8 (0 : Int)), (.int .u8 (0 : Int)), (.int .u8 (0 : Int)), (.int .u8 (0 : Int)), (.int .u8 (0 : Int)), (.int .u8 (0 : Int)), (.int .u8 (0 : Int)), (.int .u8 (0 : Int)), (.int .u8 (0 : Int)), (.int .u8 (0 : Int)), (.int .u8 (0 : Int)), (.int .u8 (0 : Int)), (.int .u8 (0 : Int)), (.int .u8 (0 : Int)), (.int .u8 (0 : Int)), (.int .u8 (0 : Int)), (.int .u8 (0 : Int)), (.int .u8 (0 : Int)), (.int .u8 (0 : Int)), (.int .u8 (0 : Int)), (.int .u8 (0 : Int)), (.int .u8 (0 : Int)), (.int .u8 (0 : Int)), (.int .u8 (0 : Int)), (.int .u8 (0 : Int)), (.int .u8 (0 : Int)), (.int .u8 (0 : Int)), (.int .u8 (0 : Int)), (.int .u8 (0 : Int)), (.int .u8 (0 : Int)), (.int .u8 (0 : Int)), (.int .u8 (0 : Int)), (.int .u8 (0 : Int)), (.int .u8 (0 : Int)), (.int .u8 (0 : Int)), (.int .u8 (0 : Int)), (.int .u8 (0 : Int)), (.int .u8 (0 : Int)), (.int .u8 (0 : Int)), (.int .u8 (0 : Int)), (.int .u8 (0 : Int)), (.int .u8 (0 : Int)), (.int .u8 (0 : Int)), (.int .u8 (0 : Int)), (.int .u8 (0 : Int)), (.int .u8 (0 : Int)), (.int .u8 (0 : Int)), (.int .u8 (0 : Int)), (.int .u8 (0 : Int)), (.int .u8 (0 : Int)), (.int .u8 (0 : Int)), (.int .u8 (0 : Int)), (.int .u8 (0 : Int)), (.int .u8 (0 : Int)), (.int .u8 (0 : Int)), (.int .u8 (0 : Int)), (.int .u8 (0 : Int)), (.int .u8 (0 : Int)), (.int .u8 (0 : Int)), (.int .u8 (0 : Int)), (.int .u8 (0 : Int)), (.int .u8 (0 : Int)), (.int .u8 (0 : Int)), (.int .u8 (0 : Int)), (.int .u8 (0 : Int)), (.int .u8 (0 : Int)), (.int .u8 (0 : Int)), (.int .u8 (0 : Int)), (.int .u8 (0 : Int)), (.int .u8 (0 : Int)), (.int .u8 (0 : Int)), (.int .u8 (0 : Int)), (.int .u8 (0 : Int)), (.int .u8 (0 : Int)), (.int .u8 (0 : Int)), (.int .u8 (0 : Int)), (.int .u8 (0 : Int)), (.int .u8 (0 : Int)), (.int .u8 (0 : Int)), (.int .u8 (0 : Int)), (.int .u8 (0 : Int)), (.int .u8 (0 : Int)), (.int .u8 (0 : Int)), (.int .u8 (0 : Int)), (.int .u8 (0 : Int)), (.int .u8 (0 : Int)), (.int .u8 (0 : Int)), (.int .u8 (0 : Int)), (.int .u8 (0 : Int)), (.int .u8 (0 : Int)), (.int .u8 (0 : Int)), (.int .u8 (0 : Int)), (.int .u8 (0 : Int)), (.int .u8 (0 : Int)), (.int .u8 (0 : Int)), (.int .u8 (0 : Int)), (.int .u8 (0 : Int)), (.int .u8 (0 : Int)), (.int .u8 (0 : Int)), (.int .u8 (0 : Int)), (.int .u8 (0 : Int)), (.int .u8 (0 : Int)), (.int .u8 (0 : Int)), (.int .u8 (0 : Int)), (.int .u8 (0 : Int)), (.int .u8 (0 : Int)), (.int .u8 (0 : Int)), (.int .u8 (0 : Int)), (.int .u8 (0 : Int)), (.int .u8 (0 : Int)), (.int .u8 (0 : Int)), (.int .u8 (0 : Int)), (.int .u8 (0 : Int)), (.int .u8 (0 : Int)), (.int .u8 (0 : Int)), (.int .u8 (0 : Int)), (.int .u8 (0 : Int)), (.int .u8 (0 : Int)), (.int .u8 (0 : Int)), (.int .u8 (0 : Int)), (.int .u8 (0 : Int)), (.int .u8 (0 : Int)), (.int .u8 (0 : Int)), (.int .u8 (0 : Int)), (.int .u8 (0 : Int)), (.int .u8 (0 : Int)), (.int .u8 (0 : Int)), (.int .u8 (0 : Int)), (.int .u8 (0 : Int)), (.int .u8 (0 : Int)), (.int .u8 (0 : Int)), (.int .u8 (0 : Int)), (.int .u8 (0 : Int)), (.int .u8 (0 : Int)), (.int .u8 (0 : Int)), (.int .u8 (0 : Int)), (.int .u8 (0 : Int)), (.int .u8 (0 : Int)), (.int .u8 (0 : Int)), (.int .u8 (0 : Int)), (.int .u8 (0 : Int)), (.int .u8 (0 : Int)), (.int .u8 (0 : Int)), (.int .u8 (0 : Int)), (.int .u8 (0 : Int)), (.int .u8 (0 : Int)), (.int .u8 (0 : Int)), (.int .u8 (0 : Int)), (.int .u8 (0 : Int)), (.int .u8 (0 : Int)), (.int .u8 (0 : Int)), (.int .u8 (0 : Int)), (.int .u8 (0 : Int)), (.int .u8 (0 : Int)), (.int .u8 (0 : Int)), (.int .u8 (0 : Int)), (.int .u8 (0 : Int)), (.int .u8 (0 : Int)), (.int .u8 (0 : Int)), (.int .u8 (0 : Int)), (.int .u8 (0 : Int)), (.int .u8 (0 : Int)), (.int .u8 (0 : Int)), (.int .u8 (0 : Int)), (.int .u8 (0 : Int)), (.int .u8 (0 : Int)), (.int .u8 (0 : Int)), (.int .u8 (0 : Int)), (.int .u8 (0 : Int)), (.int .u8 (0 : Int)), (.int .u8 (0 : Int)), (.int .u8 (0 : Int)), (.int .u8 (0 : Int)), (.int .u8 (0 : Int)), (.int .u8 (0 : Int)), (.int .u8 (0 : Int)), (.int .u8 (0 : Int)), (.int .u8 (0 : Int)), (.int .u8 (0 : Int)), (.int .u8 (0 : Int)), (.int .u8 (0 : Int)), (.int .u8 (0 : Int)), (.int .u8 (0 : Int)), (.int .u8 (0 : Int)), (.int .u8 (0 : Int)), (.int .u8 (0 : Int)), (.int .u8 (0 : Int)), (.int .u8 (0 : Int)), (.int .u8 (0 : Int)), (.int .u8 (0 : Int)), (.int .u8 (0 : Int)), (.int .u8 (0 : Int)), (.int .u8 (0 : Int)), (.int .u8 (0 : Int)), (.int .u8 (0 : Int)), (.int .u8 (0 : Int)), (.int .u8 (0 : Int)), (.int .u8 (0 : Int)), (.int .u8 (0 : Int)), (.int .u8 (0 : Int)), (.int .u8 (0 : Int)), (.int .u8 (0 : Int)), (.int .u8 (0 : Int)), (.int .u8 (0 : Int)), (.int .u8 (0 : Int)), (.int .u8 (0 : Int)), (.int .u8 (0 : Int)), (.int .u8 (0 : Int)), (.int .u8 (0 : Int)), (.int .u8 (0 : Int)), (.int .u8 (0 : Int)), (.int .u8 (0 : Int)), (.int .u8 (0 : Int)), (.int .u8 (0 : Int)), (.int .u8 (0 : Int)), (.int .u8 (0 : Int)), (.int .u8 (0 : Int)), (.int .u8 (0 : Int)), (.int .u8 (0 : Int)), (.int .u8 (0 : Int)), (.int .u8 (0 : Int)), (.int .u8 (0 : Int)), (.int .u8 (0 : Int)), (.int .u8 (0 : Int)), (.int .u8 (0 : Int)), (.int .u8 (0 : Int)), (.int .u8 (0 : Int)), (.int .u8 (0 : Int)), (.int .u8 (0 : Int)), (.int .u8 (0 : Int)), (.int .u8 (0 : Int)), (.int .u8 (0 : Int)), (.int .u8 (0 : Int)), (.int .u8 (0 : Int)), (.int .u8 (0 : Int)), (.int .u8 (0 : Int)), (.int .u8 (0 : Int)), (.int .u8 (0 : Int)), (.int .u8 (0 : Int)), (.int .u8 (0 : Int)), (.int .u8 (0 : Int)), (.int .u8 (0 : Int)), (.int .u8 (0 : Int)), (.int .u8 (0 : Int)), (.int .u8 (0 : Int)), (.int .u8 (0 : Int)), (.int .u8 (0 : Int)), (.int .u8 (0 : Int)), (.int .u8 (0 : Int)), (.int .u8 (0 : Int)), (.int .u8 (0 : Int)), (.int .u8 (0 : Int)), (.int .u8 (0 : Int)), (.int .u8 (0 : Int)), (.int .u8 (0 : Int)), (.int .u8 (0 : Int)), (.int .u8 (0 : Int)), (.int .u8 (0 : Int)), (.int .u8 (0 : Int)), (.int .u8 (0 : Int)), (.int .u8 (0 : Int)), (.int .u8 (0 : Int)), (.int .u8 (0 : Int)), (.int .u8 (0 : Int)), (.int .u8 (0 : Int)), (.int .u8 (0 : Int)), (.int .u8 (0 : Int)), (.int .u8 (0 : Int)), (.int .u8 (0 : Int)), (.int .u8 (0 : Int)), (.int .u8 (0 : Int)), (.int .u8 (0 : Int)), (.int .u8 (0 : Int)), (.int .u8 (0 : Int)), (.int .u8 (0 : Int)), (.int .u8 (0 : Int)), (.int .u8 (0 : Int)), (.int .u8 (0 : Int)), (.int .u8 (0 : Int)), (.int .u8 (0 : Int)), (.int .u8 (0 : Int)), (.int .u8 (0 : Int)), (.int .u8 (0 : Int)), (.int .u8 (0 : Int)), (.int .u8 (0 : Int)), (.int .u8 (0 : Int)), (.int .u8 (0 : Int)), (.int .u8 (0 : Int)), (.int .u8 (0 : Int)), (.int .u8 (0 : Int)), (.int .u8 (0 : Int)), (.int .u8 (0 : Int)), (.int .u8 (0 : Int)), (.int .u8 (0 : Int)), (.int .u8 (0 : Int)), (.int .u8 (0 : Int)), (.int .u8 (0 : Int)), (.int .u8 (0 : Int)), (.int .u8 (0 : Int)), (.int .u8 (0 : Int)), (.int .u8 (0 : Int)), (.int .u8 (0 : Int)), (.int .u8 (0 : Int)), (.int .u8 (0 : Int)), (.int .u8 (0 : Int)), (.int .u8 (0 : Int)), (.int .u8 (0 : Int)), (.int .u8 (0 : Int)), (.int .u8 (0 : Int)), (.int .u8 (0 : Int)), (.int .u8 (0 : Int)), (.int .u8 (0 : Int)), (.int .u8 (0 : Int)), (.int .u8 (0 : Int)), (.int .u8 (0 : Int)), (.int .u8 (0 : Int)), (.int .u8 (0 : Int)), (.int .u8 (0 : Int)), (.int .u8 (0 : Int)), (.int .u8 (0 : Int)), (.int .u8 (0 : Int)), (.int .u8 (0 : Int)), (.int .u8 (0 : Int)), (.int .u8 (0 : Int)), (.int .u8 (0 : Int)), (.int .u8 (0 : Int)), (.int .u8 (0 : Int)), (.int .u8 (0 : Int)), (.int .u8 (0 : Int)), (.int .u8 (0 : Int)), (.int .u8 (0 : Int)), (.int .u8 (0 : Int)), (.int .u8 (0 : Int)), (.int .u8 (0 : Int)), (.int .u8 (0 : Int)), (.int .u8 (0 : Int)), (.int .u8 (0 : Int)), (.int .u8 (0 : Int)), (.int .u8 (0 : Int)), (.int .u8 (0 : Int)), (.int .u8 (0 : Int)), (.int .u8 (0 : Int)), (.int .u8 (0 : Int)), (.int .u8 (0 : Int)), (.int .u8 (0 : Int)), (.int .u8 (0 : Int)), (.int .u8 (0 : Int)), (.int .u8 (0 : Int)), (.int .u8 (0 : Int)), (.int .u8 (0 : Int)), (.int .u8 (0 : Int)), (.int .u8 (0 : Int)), (.int .u8 (0 : Int)), (.int .u8 (0 : Int)), (.int .u8 (0 : Int)), (.int .u8 (0 : Int)), (.int .u8 (0 : Int)), (.int .u8 (0 : Int)), (.int .u8 (0 : Int)), (.int .u8 (0 : Int)), (.int .u8 (0 : Int)), (.int .u8 (0 : Int)), (.int .u8 (0 : Int)), (.int .u8 (0 : Int)), (.int .u8 (0 : Int)), (.int .u8 (0 : Int)), (.int .u8 (0 : Int)), (.int .u8 (0 : Int)), (.int .u8 (0 : Int)), (.int .u8 (0 : Int)), (.int .u8 (0 : Int)), (.int .u8 (0 : Int)), (.int .u8 (0 : Int)), (.int .u8 (0 : Int)), (.int .u8 (0 : Int)), (.int .u8 (0 : Int)), (.int .u8 (0 : Int)), (.int .u8 (0 : Int)), (.int .u8 (0 : Int)), (.int .u8 (0 : Int)), (.int .u8 (0 : Int)), (.int .u8 (0 : Int)), (.int .u8 (0 : Int)), (.int .u8 (0 : Int)), (.int .u8 (0 : Int)), (.int .u8 (0 : Int)), (.int .u8 (0 : Int)), (.int .u8 (0 : Int)), (.int .u8 (0 : Int)), (.int .u8 (0 : Int)), (.int .u8 (0 : Int)), (.int .u8 (0 : Int)), (.int .u8 (0 : Int)), (.int .u8 (0 : Int)), (.int .u8 (0 : Int)), (.int .u8 (0 : Int)), (.int .u8 (0 : Int)), (.int .u8 (0 : Int)), (.int .u8 (0 : Int)), (.int .u8 (0 : Int)), (.int .u8 (0 : Int)), (.int .u8 (0 : Int)), (.int .u8 (0 : Int)), (.int .u8 (0 : Int)), (.int .u8 (0 : Int)), (.int .u8 (0 : Int)), (.int .u8 (0 : Int)), (.int .u8 (0 : Int)), (.int .u8 (0 : Int)), (.int .u8 (0 : Int)), (.int .u8 (0 : Int)), (.int .u8 (0 : Int)), (.int .u8 (0 : Int)), (.int .u8 (0 : Int)), (.int .u8 (0 : Int)), (.int .u8 (0 : Int)), (.int .u8 (0 : Int)), (.int .u8 (0 : Int)), (.int .u8 (0 : Int)), (.int .u8 (0 : Int)), (.int .u8 (0 : Int)), (.int .u8 (0 : Int)), (.int .u8 (0 : Int)), (.int .u8 (0 : Int)), (.int .u8 (0 : Int)), (.int .u8 (0 : Int)), (.int .u8 (0 : Int)), (.int .u8 (0 : Int)), (.int .u8 (0 : Int)), (.int .u8 (0 : Int)), (.int .u8 (0 : Int)), (.int .u8 (0 : Int)), (.int .u8 (0 : Int)), (.int .u8 (0 : Int)), (.int .u8 (0 : Int)), (.int .u8 (0 : Int)), (.int .u8 (0 : Int)), (.int .u8 (0 : Int)), (.int .u8 (0 : Int)), (.int .u8 (0 : Int)), (.int .u8 (0 : Int)), (.int .u8 (0 : Int)), (.int .u8 (0 : Int)), (.int .u8 (0 : Int)), (.int .u8 (0 : Int)), (.int .u8 (0 : Int)), (.int .u8 (0 : Int)), (.int .u8 (0 : Int)), (.int .u8 (0 : Int)), (.int .u8 (0 : Int)), (.int .u8 (0 : Int)), (.int .u8 (0 : Int)), (.int .u8 (0 : Int)), (.int .u8 (0 : Int)), (.int .u8 (0 : Int)), (.int .u8 (0 : Int)), (.int .u8 (0 : Int)), (.int .u8 (0 : Int)), (.int .u8 (0 : Int)), (.int .u8 (0 : Int)), (.int .u8 (0 : Int)), (.int .u8 (0 : Int)), (.int .u8 (0 : Int)), (.int .u8 (0 : Int)), (.int .u8 (0 : Int)), (.int .u8 (0 : Int)), (.int .u8 (0 : Int)), (.int .u8 (0 : Int)), (.int .u8 (0 : Int)), (.int .u8 (0 : Int)), (.int .u8 (0 : Int)), (.int .u8 (0 : Int)), (.int .u8 (0 : Int)), (.int .u8 (0 : Int)), (.int .u8 (0 : Int)), (.int .u8 (0 : Int)), (.int .u8 (0 : Int)), (.int .u8 (0 : Int)), (.int .u8 (0 : Int)), (.int .u8 (0 : Int)), (.int .u8 (0 : Int)), (.int .u8 (0 : Int)), (.int .u8 (0 : Int)), (.int .u8 (0 : Int)), (.int .u8 (0 : Int)), (.int .u8 (0 : Int)), (.int .u8 (0 : Int)), (.int .u8 (0 : Int)), (.int .u8 (0 : Int)), (.int .u8 (0 : Int)), (.int .u8 (0 : Int)), (.int .u8 (0 : Int)), (.int .u8 (0 : Int)), (.int .u8 (0 : Int)), (.int .u8 (0 : Int)), (.int .u8 (0 : Int)), (.int .u8 (0 : Int)), (.int .u8 (0 : Int)), (.int .u8 (0 : Int)), (.int .u8 (0 : Int)), (.int .u8 (0 : Int)), (.int .u8 (0 : Int)), (.int .u8 (0 : Int)), (.int .u8 (0 : Int)), (.int .u8 (0 : Int)), (.int .u8 (0 : Int)), (.int .u8 (0 : Int)), (.int .u8 (0 : Int)), (.int .u8 (0 : Int)), (.int .u8 (0 : Int)), (.int .u8 (0 : Int)), (.int .u8 (0 : Int)), (.int .u8 (0 : Int)), (.int .u8 (0 : Int)), (.int .u8 (0 : Int)), (.int .u8 (0 : Int)), (.int .u8 (0 : Int)), (.int .u8 (0 : Int)), (.int .u8 (0 : Int)), (.int .u8 (0 : Int)), (.int .u8 (0 : Int)), (.int .u8 (0 : Int)), (.int .u8 (0 : Int)), (.int .u8 (0 : Int)), (.int .u8 (0 : Int)), (.int .u8 (0 : Int)), (.int .u8 (0 : Int)), (.int .u8 (0 : Int)), (.int .u8 (0 : Int)), (.int .u8 (0 : Int)), (.int .u8 (0 : Int)), (.int .u8 (0 : Int)), (.int .u8 (0 : Int)), (.int .u8 (0 : Int)), (.int .u8 (0 : Int)), (.int .u8 (0 : Int)), (.int .u8 (0 : Int)), (.int .u8 (0 : Int)), (.int .u8 (0 : Int)), (.int .u8 (0 : Int)), (.int .u8 (0 : Int)), (.int .u8 (0 : Int)), (.int .u8 (0 : Int)), (.int .u8 (0 : Int)), (.int .u8 (0 : Int)), (.int .u8 (0 : Int)), (.int .u8 (0 : Int)), (.int .u8 (0 : Int)), (.int .u8 (0 : Int)), (.int .u8 (0 : Int)), (.int .u8 (0 : Int)), (.int .u8 (0 : Int)), (.int .u8 (0 : Int)), (.int .u8 (0 : Int)), (.int .u8 (0 : Int)), (.int .u8 (0 : Int)), (.int .u8 (0 : Int)), (.int .u8 (0 : Int)), (.int .u8 (0 : Int)), (.int .u8 (0 : Int)), (.int .u8 (0 : Int)), (.int .u8 (0 : Int)), (.int .u8 (0 : Int)), (.int .u8 (0 : Int)), (.int .u8 (0 : Int)), (.int .u8 (0 : Int)), (.int .u8 (0 : Int)), (.int .u8 (0 : Int)), (.int .u8 (0 : Int)), (.int .u8 (0 : Int)), (.int .u8 (0 : Int)), (.int .u8 (0 : Int)), (.int .u8 (0 : Int)), (.int .u8 (0 : Int)), (.int .u8 (0 : Int)), (.int .u8 (0 : Int)), (.int .u8 (0 : Int)), (.int .u8 (0 : Int)), (.int .u8 (0 : Int)), (.int .u8 (0 : Int)), (.int .u8 (0 : Int)), (.int .u8 (0 : Int)), (.int .u8 (0 : Int)), (.int .u8 (0 : Int)), (.int .u8 (0 : Int)), (.int .u8 (0 : Int)), (.int .u8 (0 : Int)), (.int .u8 (0 : Int)), (.int .u8 (0 : Int)), (.int .u8 (0 : Int)), (.int .u8 (0 : Int)), (.int .u8 (0 : Int)), (.int .u8 (0 : Int)), (.int .u8 (0 : Int)), (.int .u8 (0 : Int)), (.int .u8 (0 : Int)), (.int .u8 (0 : Int)), (.int .u8 (0 : Int)), (.int .u8 (0 : Int)), (.int .u8 (0 : Int)), (.int .u8 (0 : Int)), (.int .u8 (0 : Int)), (.int .u8 (0 : Int)), (.int .u8 (0 : Int)), (.int .u8 (0 : Int)), (.int .u8 (0 : Int)), (.int .u8 (0 : Int)), (.int .u8 (0 : Int)), (.int .u8 (0 : Int)), (.int .u8 (0 : Int)), (.int .u8 (0 : Int)), (.int .u8 (0 : Int)), (.int .u8 (0 : Int)), (.int .u8 (0 : Int)), (.int .u8 (0 : Int)), (.int .u8 (0 : Int)), (.int .u8 (0 : Int)), (.int .u8 (0 : Int)), (.int .u8 (0 : Int)), (.int .u8 (0 : Int)), (.int .u8 (0 : Int)), (.int .u8 (0 : Int)), (.int .u8 (0 : Int)), (.int .u8 (0 : Int)), (.int .u8 (0 : Int)), (.int .u8 (0 : Int)), (.int .u8 (0 : Int)), (.int .u8 (0 : Int)), (.int .u8 (0 : Int)), (.int .u8 (0 : Int)), (.int .u8 (0 : Int)), (.int .u8 (0 : Int)), (.int .u8 (0 : Int)), (.int .u8 (0 : Int)), (.int .u8 (0 : Int)), (.int .u8 (0 : Int)), (.int .u8 (0 : Int)), (.int .u8 (0 : Int)), (.int .u8 (0 : Int)), (.int .u8 (0 : Int)), (.int .u8 (0 : Int)), (.int .u8 (0 : Int)), (.int .u8 (0 : Int)), (.int .u8 (0 : Int)), (.int .u8 (0 : Int)), (.int .u8 (0 : Int)), (.int .u8 (0 : Int)), (.int .u8 (0 : Int)), (.int .u8 (0 : Int)), (.int .u8 (0 : Int)), (.int .u8 (0 : Int)), (.int .u8 (0 : Int)), (.int .u8 (0 : Int)), (.int .u8 (0 : Int)), (.int .u8 (0 : Int)), (.int .u8 (0 : Int)), (.int .u8 (0 : Int)), (.int .u8 (0 : Int)), (.int .u8 (0 : Int)), (.int .u8 (0 : Int)), (.int .u8 (0 : Int)), (.int .u8 (0 : Int)), (.int .u8 (0 : Int)), (.int .u8 (0 : Int)), (.int .u8 (0 : Int)), (.int .u8 (0 : Int)), (.int .u8 (0 : Int)), (.int .u8 (0 : Int)), (.int .u8 (0 : Int)), (.int .u8 (0 : Int)), (.int .u8 (0 : Int)), (.int .u8 (0 : Int)), (.int .u8 (0 : Int)), (.int .u8 (0 : Int)), (.int .u8 (0 : Int)), (.int .u8 (0 : Int)), (.int .u8 (0 : Int)), (.int .u8 (0 : Int)), (.int .u8 (0 : Int)), (.int .u8 (0 : Int)), (.int .u8 (0 : Int)), (.int .u8 (0 : Int)), (.int .u8 (0 : Int)), (.int .u8 (0 : Int)), (.int .u8 (0 : Int)), (.int .u8 (0 : Int)), (.int .u8 (0 : Int)), (.int .u8 (0 : Int)), (.int .u8 (0 : Int)), (.int .u8 (0 : Int)), (.int .u8 (0 : Int)), (.int .u8 (0 : Int)), (.int .u8 (0 : Int)), (.int .u8 (0 : Int)), (.int .u8 (0 : Int)), (.int .u8 (0 : Int)), (.int .u8 (0 : Int)), (.int .u8 (0 : Int)), (.int .u8 (0 : Int)), (.int .u8 (0 : Int)), (.int .u8 (0 : Int)), (.int .u8 (0 : Int)), (.int .u8 (0 : Int)), (.int .u8 (0 : Int)), (.int .u8 (0 : Int)), (.int .u8 (0 : Int)), (.int .u8 (0 : Int)), (.int .u8 (0 : Int)), (.int .u8 (0 : Int)), (.int .u8 (0 : Int)), (.int .u8 (0 : Int)), (.int .u8 (0 : Int)), (.int .u8 (0 : Int)), (.int .u8 (0 : Int)), (.int .u8 (0 : Int)), (.int .u8 (0 : Int)), (.int .u8 (0 : Int)), (.int .u8 (0 : Int)), (.int .u8 (0 : Int)), (.int .u8 (0 : Int)), (.int .u8 (0 : Int)), (.int .u8 (0 : Int)), (.int .u8 (0 : Int)), (.int .u8 (0 : Int)), (.int .u8 (0 : Int)), (.int .u8 (0 : Int)), (.int .u8 (0 : Int)), (.int .u8 (0 : Int)), (.int .u8 (0 : Int)), (.int .u8 (0 : Int)), (.int .u8 (0 : Int)), (.int .u8 (0 : Int)), (.int .u8 (0 : Int)), (.int .u8 (0 : Int)), (.int .u8 (0 : Int)), (.int .u8 (0 : Int)), (.int .u8 (0 : Int)), (.int .u8 (0 : Int)), (.int .u8 (0 : Int)), (.int .u8 (0 : Int)), (.int .u8 (0 : Int)), (.int .u8 (0 : Int)), (.int .u8 (0 : Int)), (.int .u8 (0 : Int)), (.int .u8 (0 : Int)), (.int .u8 (0 : Int)), (.int .u8 (0 : Int)), (.int .u8 (0 : Int)), (.int .u8 (0 : Int)), (.int .u8 (0 : Int)), (.int .u8 (0 : Int)), (.int .u8 (0 : Int)), (.int .u8 (0 : Int)), (.int .u8 (0 : Int)), (.int .u8 (0 : Int)), (.int .u8 (0 : Int)), (.int .u8 (0 : Int)), (.int .u8 (0 : Int)), (.int .u8 (0 : Int)), (.int .u8 (0 : Int)), (.int .u8 (0 : Int)), (.int .u8 (0 : Int)), (.int .u8 (0 : Int)), (.int .u8 (0 : Int)), (.int .u8 (0 : Int)), (.int .u8 (0 : Int)), (.int .u8 (0 : Int)), (.int .u8 (0 : Int)), (.int .u8 (0 : Int)), (.int .u8 (0 : Int)), (.int .u8 (0 : Int)), (.int .u8 (0 : Int)), (.int .u8 (0 : Int)), (.int .u8 (0 : Int)), (.int .u8 (0 : Int)), (.int .u8 (0 : Int)), (.int .u8 (0 : Int)), (.int .u8 (0 : Int)), (.int .u8 (0 : Int)), (.int .u8 (0 : Int)), (.int .u8 (0 : Int)), (.int .u8 (0 : Int)), (.int .u8 (0 : Int)), (.int .u8 (0 : Int)), (.int .u8 (0 : Int)), (.int .u8 (0 : Int)), (.int .u8 (0 : Int)), (.int .u8 (0 : Int)), (.int .u8 (0 : Int)), (.int .u8 (0 : Int)), (.int .u8 (0 : Int)), (.int .u8 (0 : Int)), (.int .u8 (0 : Int)), (.int .u8 (0 : Int)), (.int .i64 (0 : Int)), (.int .i64 (0 : Int)), (.bool false), (.bool false)] (fun a h4 =>
 Call0 P n_internal_strconv_decimal_Assign [(.pointer (some a)), (.int .u64 mant)] (fun h5 =>
 Call0 P n_internal_strconv_decimal_Shift [(.pointer (some a)), (.int .i64 (IntKind.wrap .i64 ((IntKind.wrap .i64 (exp + bias)) - mantBits)))] (fun h6 =>
 JoinW1 (α1 := Int) (fun k =>
 JoinW1 (α1 := Bool) (fun k1 =>
 (if (fmt == (101 : Int)) = true then
 k1 (fmt == (101 : Int)) h6
 else
 k1 (fmt == (69 : Int)) h6))
 (fun t256 h7 =>
 (if t256 = true then
 Call0 P n_internal_strconv_decimal_Round [(.pointer (some a)), (.int .i64 (IntKind.wrap .i64 (prec1 + (1 : Int))))] (fun h8 =>
 k prec1 h8) h7
 else
 (if (fmt == (102 : Int)) = true then
 NilW none (some a) fun p =>
 LdW none (shInt .i64) h7 (Addr.add p 801) fun x =>
 Call0 P n_internal_strconv_decimal_Round [(.pointer (some a)), (.int .i64 (IntKind.wrap .i64 (x + prec1)))] (fun h8 =>
 k prec1 h8) h7
 else
 JoinW1 (α1 := Bool) (fun k1 =>
 (if (fmt == (103 : Int)) = true then
 k1 (fmt == (103 : Int)) h7
 else
 k1 (fmt == (71 : Int)) h7))
 (fun t273 h8 =>
 (if t273 = true then
 JoinW1 (α1 := Int) (fun k1 =>
 (if (prec1 == (0 : Int)) = true then
 k1 (1 : Int) h8
 else
 k1 prec1 h8))
 (fun prec2 h9 =>
 Call0 P n_internal_strconv_decimal_Round [(.pointer (some a)), (.int .i64 prec2)] (fun h10 =>
 k prec2 h10) h9)
 else
 k prec1 h8))))))
 (fun prec2 h7 =>
 NilW none (some a) fun p =>
 LetW (α := Sl) ⟨(sbase (some (Addr.add p 0)) 1 0 800), 800, 800⟩ fun y1 =>
 NilW none (some a) fun p1 =>
 LdW none (shInt .i64) h7 (Addr.add p1 801) fun x =>
 NilW none (some a) fun p2 =>
 LdW none (shInt .i64) h7 (Addr.add p2 800) fun x1 =>
 CallT P n_internal_strconv_fmtEFG [dst.v, (.bool ((shrI .u64 b (IntKind.wrap .i64 (expBits + mantBits))) != (0 : Int))), y1.v, (.int .i64 x), (.int .i64 x1), (.int .i64 prec2), (.int .u8 fmt), (.bool false)] shSl (fun r h8 =>
 Q r h8) h7)) h5) h4) h3)))))))))))))

def internal_strconv_FormatInt_w (P : Program) (i : Int) (base : Int) (Q : (ByteArray → (Hp → Prop))) (h : Hp) : Prop :=
 (if (base == (10 : Int)) = true then
 LetW ((decide ((0 : Int) ≤ i)) && (decide (i < (100 : Int)))) fun y =>
 (if y = true then
 CallT P n_internal_strconv_small [(.int .i64 i)] shStr (fun r h1 =>
 Q r h1) h
 else
 NewW [(.int .u8 (0 : Int)), (.int .u8 (0 : Int)), (.int .u8 (0 : Int)), (.int .u8 (0 : Int)), (.int .u8 (0 : Int)), (.int .u8 (0 : Int)), (.int .u8 (0 : Int)), (.int .u8 (0 : Int)), (.int .u8 (0 : Int)), (.int .u8 (0 : Int)), (.int .u8 (0 : Int)), (.int .u8 (0 : Int)), (.int .u8 (0 : Int)), (.int .u8 (0 : Int)), (.int .u8 (0 : Int)), (.int .u8 (0 : Int)), (.int .u8 (0 : Int)), (.int .u8 (0 : Int)), (.int .u8 (0 : Int)), (.int .u8 (0 : Int)), (.int .u8 (0 : Int)), (.int .u8 (0 : Int)), (.int .u8 (0 : Int)), (.int .u8 (0 : Int))] (fun a h1 =>
 JoinW1 (α1 := Int) (fun k =>
 (if (decide (i < (0 : Int))) = true then
 k (IntKind.wrap .u64 ((0 : Int) - (IntKind.wrap .u64 i))) h1
 else
 k (IntKind.wrap .u64 i) h1))
 (fun u h2 =>
 CallT P n_internal_strconv_numDigits [(.int .u64 u)] (shInt .i64) (fun r h3 =>
 (((0 : Int) ≤ (1 : Int) ∧ ((1 : Int) ≤ (IntKind.wrap .i64 ((1 : Int) + r)) ∧ (IntKind.wrap .i64 ((1 : Int) + r)) ≤ (24 : Int))) ∧ LetW (α := Sl) ⟨(sbase (some a) 1 1 24), ((Int.toNat (IntKind.wrap .i64 ((1 : Int) + r))) - 1), 23⟩ fun y1 =>
 Call0 P n_internal_strconv_formatBase10 [y1.v, (.int .u64 u)] (fun h4 =>
 (if (decide (i < (0 : Int))) = true then
 (((0 : Int) ≤ (0 : Int) ∧ (0 : Int) < (24 : Int)) ∧ StW h4 (Addr.add a 0) [(.int .u8 (45 : Int))] (fun h5 =>
 (((0 : Int) ≤ (IntKind.wrap .i64 ((1 : Int) + r)) ∧ (IntKind.wrap .i64 ((1 : Int) + r)) ≤ (24 : Int)) ∧ LetW (α := Sl) ⟨(sbase (some a) 1 0 24), ((Int.toNat (IntKind.wrap .i64 ((1 : Int) + r))) - 0), 24⟩ fun y2 =>
 SemV none P (convert 83 9 y2.v) shStr h5 fun x =>
 Q x h5)))
 else
 (((0 : Int) ≤ (1 : Int) ∧ ((1 : Int) ≤ (IntKind.wrap .i64 ((1 : Int) + r)) ∧ (IntKind.wrap .i64 ((1 : Int) + r)) ≤ (24 : Int))) ∧ LetW (α := Sl) ⟨(sbase (some a) 1 1 24), ((Int.toNat (IntKind.wrap .i64 ((1 : Int) + r))) - 1), 23⟩ fun y2 =>
 SemV none P (convert 83 9 y2.v) shStr h4 fun x =>
 Q x h4))) h3)) h2)) h)
 else
 Call2 P n_internal_strconv_formatBits [(.slice none 0 0), (.int .u64 (IntKind.wrap .u64 i)), (.int .i64 base), (.bool (decide (i < (0 : Int)))), (.bool false)] shSl shStr (fun r r1 h1 =>
 Q r1 h1) h)

def internal_strconv_atof64_w (P : Program) (s : ByteArray) (Q : (Nat → (Int → (Leaf → (Hp → Prop))))) (h : Hp) : Prop :=
 Call3 P n_internal_strconv_special [(.string s)] (shFlt .f64) (shInt .i64) shBool (fun r r1 r2 h1 =>
 (if r2 = true then
 EncW shLeaf .nilIface fun e =>
 Q r r1 e h1
 else
 Call7 P n_internal_strconv_readFloat [(.string s)] (shInt .u64) (shInt .i64) shBool shBool shBool (shInt .i64) shBool (fun r3 r4 r5 r6 r7 r8 r9 h2 =>
 (if (!r9) = true then
 EncW shLeaf (.iface 81 (.int .i64 (2 : Int))) fun e =>
 Q 0 r8 e h2
 else
 (if r7 = true then
 (((0 : Int) ≤ r8 ∧ r8 ≤ (((ByteArray.size s) : Nat) : Int)) ∧ Call2 P n_internal_strconv_atofHex [(.string (ByteArray.extract s 0 (Int.toNat r8))), (.pointer (some ⟨6, 0, none⟩)), (.int .u64 r3), (.int .i64 r4), (.bool r5), (.bool r6)] (shFlt .f64) shLeaf (fun r10 r11 h3 =>
 EncW shLeaf r11.v fun e =>
 Q r10 r8 e h3) h2)
 else
 JoinW2 (α1 := Int) (α2 := Leaf) (fun k =>
 LdW none shBool h2 ⟨4, 0, none⟩ fun x =>
 (if x = true then
 CallT P n_internal_strconv_bool2_uint64 [(.bool r5)] (shInt .u64) (fun r10 h3 =>
 ((0 : Int) ≤ (63 : Int) ∧ (if (r3 == (0 : Int)) = true then
 SemE P (Extern.MathFloatBits.float64frombits #[(.int .u64 (bitsI .or .u64 (shlI .u64 r10 (63 : Int)) (0 : Int)))]) (shFlt .f64) (fun r11 h4 =>
 EncW shLeaf .nilIface fun e =>
 Q r11 r8 e h4) h3
 else
 (if (decide (r4 > (310 : Int))) = true then
 SemE P (Extern.MathFloatBits.float64frombits #[(.int .u64 (bitsI .or .u64 (shlI .u64 r10 (63 : Int)) (9218868437227405312 : Int)))]) (shFlt .f64) (fun r11 h4 =>
 EncW shLeaf (.iface 81 (.int .i64 (1 : Int))) fun e =>
 Q r11 r8 e h4) h3
 else
 (if (decide (r4 < (-345 : Int))) = true then
 SemE P (Extern.MathFloatBits.float64frombits #[(.int .u64 (bitsI .or .u64 (shlI .u64 r10 (63 : Int)) (0 : Int)))]) (shFlt .f64) (fun r11 h4 =>
 EncW shLeaf .nilIface fun e =>
 Q r11 r8 e h4) h3
 else
 JoinW2 (α1 := Int) (α2 := Leaf) (fun k1 =>
 (if (!r6) = true then
 Call2 P n_internal_strconv_atof64exact [(.int .u64 r3), (.int .i64 r4), (.bool r5)] (shFlt .f64) shBool (fun r11 r12 h4 =>
 (if r12 = true then
 EncW shLeaf .nilIface fun e =>
 Q r11 r8 e h4
 else
 EncW shLeaf .nilIface fun e =>
 k1 r8 e h4)) h3
 else
 EncW shLeaf .nilIface fun e =>
 k1 r8 e h3))
 (fun n err h4 =>
 Call2 P n_internal_strconv_parseFloat64 [(.int .u64 r3), (.int .i64 r4), (.int .u64 (shlI .u64 r10 (63 : Int)))] (shFlt .f64) shLeaf (fun r11 r12 h5 =>
 (if (!r6) = true then
 EncW shLeaf r12.v fun e =>
 Q r11 n e h5
 else
 Call2 P n_internal_strconv_parseFloat64 [(.int .u64 (IntKind.wrap .u64 (r3 + (1 : Int)))), (.int .i64 r4), (.int .u64 (shlI .u64 r10 (63 : Int)))] (shFlt .f64) shLeaf (fun r13 r14 h6 =>
 SemV none P (binS .eql 34 (.tmp 119) (.tmp 120) (.float .f64 r11) (.float .f64 r13)) shBool h6 fun x1 =>
 (if x1 = true then
 EncW shLeaf r12.v fun e =>
 Q r11 n e h6
 else
 EncW shLeaf err.v fun e =>
 k n e h6)) h5)) h4)))))) h2
 else
 EncW shLeaf .nilIface fun e =>
 k r8 e h2))
 (fun n err h3 =>
 NewW [(.int .u8 (0 : Int)), (.int .u8 (0 : Int)), (.int .u8 (0 : Int)), (.int .u8 (0 : Int)), (.int .u8 (0 : Int)), (.int .u8 (0 : Int)), (.int .u8 (0 : Int)), (.int .u8 (0 : Int)), (.int .u8 (0 : Int)), (.int .u8 (0 : Int)), (.int .u8 (0 : Int)), (.int .u8 (0 : Int)), (.int .u8 (0 : Int)), (.int .u8 (0 : Int)), (.int .u8 (0 : Int)), (.int .u8 (0 : Int)), (.int .u8 (0 : Int)), (.int .u8 (0 : Int)), (.int .u8 (0 : Int)), (.int .u8 (0 : Int)), (.int .u8 (0 : Int)), (.int .u8 (0 : Int)), (.int .u8 (0 : Int)), (.int .u8 (0 : Int)), (.int .u8 (0 : Int)), (.int .u8 (0 : Int)), (.int .u8 (0 : Int)), (.int .u8 (0 : Int)), (.int .u8 (0 : Int)), (.int .u8 (0 : Int)), (.int .u8 (0 : Int)), (.int .u8 (0 : Int)), (.int .u8 (0 : Int)), (.int .u8 (0 : Int)), (.int .u8 (0 : Int)), (.int .u8 (0 : Int)), (.int .u8 (0 : Int)), (.int .u8 (0 : Int)), (.int .u8 (0 : Int)), (.int .u8 (0 : Int)), (.int .u8 (0 : Int)), (.int .u8 (0 : Int)), (.int .u8 (0 : Int)), (.int .u8 (0 : Int)), (.int .u8 (0 : Int)), (.int .u8 (0 : Int)), (.int .u8 (0 : Int)), (.int .u8 (0 : Int)), (.int .u8 (0 : Int)), (.int .u8 (0 : Int)), (.int .u8 (0 : Int)), (.int .u8 (0 : Int)), (.int .u8 (0 : Int)), (.int .u8 (0 : Int)), (.int .u8 (0 : Int)), (.int .u8 (0 : Int)), (.int .u8 (0 : Int)), (.int .u8 (0 : Int)), (.int .u8 (0 : Int)), (.int .u8 (0 : Int)), (.int .u8 (0 : Int)), (.int .u8 (0 : Int)), (.int .u8 (0 : Int)), (.int .u8 (0 : Int)), (.int .u8 (0 : Int)), (.int .u8 (0 : Int)), (.int .u8 (0 : Int)), (.int .u8 (0 : Int)), (.int .u8 (0 : Int)), (.int .u8 (0 : Int)), (.int .u8 (0 : Int)), (.int .u8 (0 : Int)), (.int .u8 (0 : Int)), (.int .u8 (0 : Int)), (.int .u8 (0 : Int)), (.int .u8 (0 : Int)), (.int .u8 (0 : Int)), (.int .u8 (0 : Int)), (.int .u8 (0 : Int)), (.int .u8 (0 : Int)), (.int .u8 (0 : Int)), (.int .u8 (0 : Int)), (.int .u8 (0 : Int)), (.int .u8 (0 : Int)), (.int .u8 (0 : Int)), (.int .u8 (0 : Int)), (.int .u8 (0 : Int)), (.int .u8 (0 : Int)), (.int .u8 (0 : Int)), (.int .u8 (0 : Int)), (.int .u8 (0 : Int)), (.int .u8 (0 : Int)), (.int .u8 (0 : Int)), (.int .u8 (0 : Int)), (.int .u8 (0 : Int)), (.int .u8 (0 : Int)), (.int .u8 (0 : Int)), (.int .u8 (0 : Int)), (.int .u8 (0 : Int)), (.int .u8 (0 : Int)), (.int .u8 (0 : Int)), (.int .u8 (0 : Int)), (.int .u8 (0 : Int)), (.int .u8 (0 : Int)), (.int .u8 (0 : Int)), (.int .u8 (0 : Int)), (.int .u8 (0 : Int)), (.int .u8 (0 : Int)), (.int .u8 (0 : Int)), (.int .u8 (0 : Int)), (.int .u8 (0 : Int)), (.int .u8 (0 : Int)), (.int .u8 (0 : Int)), (.int .u8 (0 : Int)), (.int .u8 (0 : Int)), (.int .u8 (0 : Int)), (.int .u8 (0 : Int)), (.int .u8 (0 : Int)), (.int .u8 (0 : Int)), (.int .u8 (0 : Int)), (.int .u8 (0 : Int)), (.int .u8 (0 : Int)), (.int .u8 (0 : Int)), (.int .u8 (0 : Int)), (.int .u8 (0 : Int)), (.int .u8 (0 : Int)), (.int .u8 (0 : Int)), (.int .u8 (0 : Int)), (.int .u8 (0 : Int)), (.int .u8 (0 : Int)), (.int .u8 (0 : Int)), (.int .u8 (0 : Int)), (.int .u8 (0 : Int)), (.int .u8 (0 : Int)), (.int .u8 (0 : Int)), (.int .u8 (0 : Int)), (.int .u8 (0 : Int)), (.int .u8 (0 : Int)), (.int .u8 (0 : Int)), (.int .u8 (0 : Int)), (.int .u8 (0 : Int)), (.int .u8 (0 : Int)), (.int .u8 (0 : Int)), (.int .u8 (0 : Int)), (.int .u8 (0 : Int)), (.int .u8 (0 : Int)), (.int .u8 (0 : Int)), (.int .u8 (0 : Int)), (.int .u8 (0 : Int)), (.int .u8 (0 : Int)), (.int .u8 (0 : Int)), (.int .u8 (0 : Int)), (.int .u8 (0 : Int)), (.int .u8 (0 : Int)), (.int .u8 (0 : Int)), (.int .u8 (0 : Int)), (.int .u8 (0 : Int)), (.int .u8 (0 : Int)), (.int .u8 (0 : Int)), (.int .u8 (0 : Int)), (.int .u8 (0 : Int)), (.int .u8 (0 : Int)), (.int .u8 (0 : Int)), (.int .u8 (0 : Int)), (.int .u8 (0 : Int)), (.int .u8 (0 : Int)), (.int .u8 (0 : Int)), (.int .u8 (0 : Int)), (.int .u8 (0 : Int)), (.int .u8 (0 : Int)), (.int .u8 (0 : Int)), (.int .u8 (0 : Int)), (.int .u8 (0 : Int)), (.int .u8 (0 : Int)), (.int .u8 (0 : Int)), (.int .u8 (0 : Int)), (.int .u8 (0 : Int)), (.int .u8 (0 : Int)), (.int .u8 (0 : Int)), (.int .u8 (0 : Int)), (.int .u8 (0 : Int)), (.int .u8 (0 : Int)), (.int .u8 (0 : Int)), (.int .u8 (0 : Int)), (.int .u8 (0 : Int)), (.int .u8 (0 : Int)), (.int .u8 (0 : Int)), (.int .u8 (0 : Int)), (.int .u8 (0 : Int)), (.int .u8 (0 : Int)), (.int .u8 (0 : Int)), (.int .u8 (0 : Int)), (.int .u8 (0 : Int)), (.int .u8 (0 : Int)), (.int .u8 (0 : Int)), (.int .u8 (0 : Int)), (.int .u8 (0 : Int)), (.int .u8 (0 : Int)), (.int .u8 (0 : Int)), (.int .u8 (0 : Int)), (.int .u8 (0 : Int)), (.int .u8 (0 : Int)), (.int .u8 (0 : Int)), (.int .u8 (0 : Int)), (.int .u8 (0 : Int)), (.int .u8 (0 : Int)), (.int .u8 (0 : Int)), (.int .u8 (0 : Int)), (.int .u8 (0 : Int)), (.int .u8 (0 : Int)), (.int .u8 (0 : Int)), (.int .u8 (0 : Int)), (.int .u8 (0 : Int)), (.int .u8 (0 : Int)), (.int .u8 (0 : Int)), (.int .u8 (0 : Int)), (.int .u8 (0 : Int)), (.int .u8 (0 : Int)), (.int .u8 (0 : Int)), (.int .u8 (0 : Int)), (.int .u8 (0 : Int)), (.int .u8 (0 : Int)), (.int .u8 (0 : Int)), (.int .u8 (0 : Int)), (.int .u8 (0 : Int)), (.int .u8 (0 : Int)), (.int .u8 (0 : Int)), (.int .u8 (0 : Int)), (.int .u8 (0 : Int)), (.int .u8 (0 : Int)), (.int .u8 (0 : Int)), (.int .u8 (0 : Int)), (.int .u8 (0 : Int)), (.int .u8 (0 : Int)), (.int .u8 (0 : Int)), (.int .u8 (0 : Int)), (.int .u8 (0 : Int)), (.int .u8 (0 : Int)), (.int .u8 (0 : Int)), (.int .u8 (0 : Int)), (.int .u8 (0 : Int)), (.int .u8 (0 : Int)), (.int .u8 (0 : Int)), (.int .u8 (0 : Int)), (.int .u8 (0 : Int)), (.int .u8 (0 : Int)), (.int .u8 (0 : Int)), (.int .u8 (0 : Int)), (.int .u8 (0 : Int)), (.int .u8 (0 : Int)), (.int .u8 (0 : Int)), (.int .u8 (0 : Int)), (.int .u8 (0 : Int)), (.int .u8 (0 : Int)), (.int .u8 (0 : Int)), (.int .u8 (0 : Int)), (.int .u8 (0 : Int)), (.int .u8 (0 : Int)), (.int .u8 (0 : Int)), (.int .u8 (0 : Int)), (.int .u8 (0 : Int)), (.int .u8 (0 : Int)), (.int .u8 (0 : Int)), (.int .u8 (0 : Int)), (.int .u8 (0 : Int)), (.int .u8 (0 : Int)), (.int .u8 (0 : Int)), (.int .u8 (0 : Int)), (.int .u8 (0 : Int)), (.int .u8 (0 : Int)), (.int .u8 (0 : Int)), (.int .u8 (0 : Int)), (.int .u8 (0 : Int)), (.int .u8 (0 : Int)), (.int .u8 (0 : Int)), (.int .u8 (0 : Int)), (.int .u8 (0 : Int)), (.int .u8 (0 : Int)), (.int .u8 (0 : Int)), (.int .u8 (0 : Int)), (.int .u8 (0 : Int)), (.int .u8 (0 : Int)), (.int .u8 (0 : Int)), (.int .u8 (0 : Int)), (.int .u8 (0 : Int)), (.int .u8 (0 : Int)), (.int .u8 (0 : Int)), (.int .u8 (0 : Int)), (.int .u8 (0 : Int)), (.int .u8 (0 : Int)), (.int .u8 (0 : Int)), (.int .u8 (0 : Int)), (.int .u8 (0 : Int)), (.int .u8 (0 : Int)), (.int .u8 (0 : Int)), (.int .u8 (0 : Int)), (.int .u8 (0 : Int)), (.int .u8 (0 : Int)), (.int .u8 (0 : Int)), (.int .u8 (0 : Int)), (.int .u8 (0 : Int)), (.int .u8 (0 : Int)), (.int .u8 (0 : Int)), (.int .u8 (0 : Int)), (.int .u8 (0 : Int)), (.int .u8 (0 : Int)), (.int .u8 (0 : Int)), (.int .u8 (0 : Int)), (.int .u8 (0 : Int)), (.int .u8 (0 : Int)), (.int .u8 (0 : Int)), (.int .u8 (0 : Int)), (.int .u8 (0 : Int)), (.int .u8 (0 : Int)), (.int .u8 (0 : Int)), (.int .u8 (0 : Int)), (.int .u8 (0 : Int)), (.int .u8 (0 : Int)), (.int .u8 (0 : Int)), (.int .u8 (0 : Int)), (.int .u8 (0 : Int)), (.int .u8 (0 : Int)), (.int .u8 (0 : Int)), (.int .u8 (0 : Int)), (.int .u8 (0 : Int)), (.int .u8 (0 : Int)), (.int .u8 (0 : Int)), (.int .u8 (0 : Int)), (.int .u8 (0 : Int)), (.int .u8 (0 : Int)), (.int .u8 (0 : Int)), (.int .u8 (0 : Int)), (.int .u8 (0 : Int)), (.int .u8 (0 : Int)), (.int .u8 (0 : Int)), (.int .u8 (0 : Int)), (.int .u8 (0 : Int)), (.int .u8 (0 : Int)), (.int .u8 (0 : Int)), (.int .u8 (0 : Int)), (.int .u8 (0 : Int)), (.int .u8 (0 : Int)), (.int .u8 (0 : Int)), (.int .u8 (0 : Int)), (.int .u8 (0 : Int)), (.int .u8 (0 : Int)), (.int .u8 (0 : Int)), (.int .u8 (0 : Int)), (.int .u8 (0 : Int)), (.int .u8 (0 : Int)), (.int .u8 (0 : Int)), (.int .u8 (0 : Int)), (.int .u8 (0 : Int)), (.int .u8 (0 : Int)), (.int .u8 (0 : Int)), (.int .u8 (0 : Int)), (.int .u8 (0 : Int)), (.int .u8 (0 : Int)), (.int .u8 (0 : Int)), (.int .u8 (0 : Int)), (.int .u8 (0 : Int)), (.int .u8 (0 : Int)), (.int .u8 (0 : Int)), (.int .u8 (0 : Int)), (.int .u8 (0 : Int)), (.int .u8 (0 : Int)), (.int .u8 (0 : Int)), (.int .u8 (0 : Int)), (.int .u8 (0 : Int)), (.int .u8 (0 : Int)), (.int .u8 (0 : Int)), (.int .u8 (0 : Int)), (.int .u8 (0 : Int)), (.int .u8 (0 : Int)), (.int .u8 (0 : Int)), (.int .u8 (0 : Int)), (.int .u8 (0 : Int)), (.int .u8 (0 : Int)), (.int .u8 (0 : Int)), (.int .u8 (0 : Int)), (.int .u8 (0 : Int)), (.int .u8 (0 : Int)), (.int .u8 (0 : Int)), (.int .u8 (0 : Int)), (.int .u8 (0 : Int)), (.int .u8 (0 : Int)), (.int .u8 (0 : Int)), (.int .u8 (0 : Int)), (.int .u8 (0 : Int)), (.int .u8 (0 : Int)), (.int .u8 (0 : Int)), (.int .u8 (0 : Int)), (.int .u8 (0 : Int)), (.int .u8 (0 : Int)), (.int .u8 (0 : Int)), (.int .u8 (0 : Int)), (.int .u8 (0 : Int)), (.int .u8 (0 : Int)), (.int .u8 (0 : Int)), (.int .u8 (0 : Int)), (.int .u8 (0 : Int)), (.int .u8 (0 : Int)), (.int .u8 (0 : Int)), (.int .u8 (0 : Int)), (.int .u8 (0 : Int)), (.int .u8 (0 : Int)), (.int .u8 (0 : Int)), (.int .u8 (0 : Int)), (.int .u8 (0 : Int)), (.int .u8 (0 : Int)), (.int .u8 (0 : Int)), (.int .u8 (0 : Int)), (.int .u8 (0 : Int)), (.int .u8 (0 : Int)), (.int .u8 (0 : Int)), (.int .u8 (0 : Int)), (.int .u8 (0 : Int)), (.int .u8 (0 : Int)), (.int .u8 (0 : Int)), (.int .u8 (0 : Int)), (.int .u8 (0 : Int)), (.int .u8 (0 : Int)), (.int .u8 (0 : Int)), (.int .u8 (0 : Int)), (.int .u8 (0 : Int)), (.int .u8 (0 : Int)), (.int .u8 (0 : Int)), (.int .u8 (0 : Int)), (.int .u8 (0 : Int)), (.int .u8 (0 : Int)), (.int .u8 (0 : Int)), (.int .u8 (0 : Int)), (.int .u8 (0 : Int)), (.int .u8 (0 : Int)), (.int .u8 (0 : Int)), (.int .u8 (0 : Int)), (.int .u8 (0 : Int)), (.int .u8 (0 : Int)), (.int .u8 (0 : Int)), (.int .u8 (0 : Int)), (.int .u8 (0 : Int)), (.int .u8 (0 : Int)), (.int .u8 (0 : Int)), (.int .u8 (0 : Int)), (.int .u8 (0 : Int)), (.int .u8 (0 : Int)), (.int .u8 (0 : Int)), (.int .u8 (0 : Int)), (.int .u8 (0 : Int)), (.int .u8 (0 : Int)), (.int .u8 (0 : Int)), (.int .u8 (0 : Int)), (.int .u8 (0 : Int)), (.int .u8 (0 : Int)), (.int .u8 (0 : Int)), (.int .u8 (0 : Int)), (.int .u8 (0 : Int)), (.int .u8 (0 : Int)), (.int .u8 (0 : Int)), (.int .u8 (0 : Int)), (.int .u8 (0 : Int)), (.int .u8 (0 : Int)), (.int .u8 (0 : Int)), (.int .u8 (0 : Int)), (.int .u8 (0 : Int)), (.int .u8 (0 : Int)), (.int .u8 (0 : Int)), (.int .u8 (0 : Int)), (.int .u8 (0 : Int)), (.int .u8 (0 : Int)), (.int .u8 (0 : Int)), (.int .u8 (0 : Int)), (.int .u8 (0 : Int)), (.int .u8 (0 : Int)), (.int .u8 (0 : Int)), (.int .u8 (0 : Int)), (.int .u8 (0 : Int)), (.int .u8 (0 : Int)), (.int .u8 (0 : Int)), (.int .u8 (0 : Int)), (.int .u8 (0 : Int)), (.int .u8 (0 : Int)), (.int .u8 (0 : Int)), (.int .u8 (0 : Int)), (.int .u8 (0 : Int)), (.int .u8 (0 : Int)), (.int .u8 (0 : Int)), (.int .u8 (0 : Int)), (.int .u8 (0 : Int)), (.int .u8 (0 : Int)), (.int .u8 (0 : Int)), (.int .u8 (0 : Int)), (.int .u8 (0 : Int)), (.int .u8 (0 : Int)), (.int .u8 (0 : Int)), (.int .u8 (0 : Int)), (.int .u8 (0 : Int)), (.int .u8 (0 : Int)), (.int .u8 (0 : Int)), (.int .u8 (0 : Int)), (.int .u8 (0 : Int)), (.int .u8 (0 : Int)), (.int .u8 (0 : Int)), (.int .u8 (0 : Int)), (.int .u8 (0 : Int)), (.int .u8 (0 : Int)), (.int .u8 (0 : Int)), (.int .u8 (0 : Int)), (.int .u8 (0 : Int)), (.int .u8 (0 : Int)), (.int .u8 (0 : Int)), (.int .u8 (0 : Int)), (.int .u8 (0 : Int)), (.int .u8 (0 : Int)), (.int .u8 (0 : Int)), (.int .u8 (0 : Int)), (.int .u8 (0 : Int)), (.int .u8 (0 : Int)), (.int .u8 (0 : Int)), (.int .u8 (0 : Int)), (.int .u8 (0 : Int)), (.int .u8 (0 : Int)), (.int .u8 (0 : Int)), (.int .u8 (0 : Int)), (.int .u8 (0 : Int)), (.int .u8 (0 : Int)), (.int .u8 (0 : Int)), (.int .u8 (0 : Int)), (.int .u8 (0 : Int)), (.int .u8 (0 : Int)), (.int .u8 (0 : Int)), (.int .u8 (0 : Int)), (.int .u8 (0 : Int)), (.int .u8 (0 : Int)), (.int .u8 (0 : Int)), (.int .u8 (0 : Int)), (.int .u8 (0 : Int)), (.int .u8 (0 : Int)), (.int .u8 (0 : Int)), (.int .u8 (0 : Int)), (.int .u8 (0 : Int)), (.int .u8 (0 : Int)), (.int .u8 (0 : Int)), (.int .u8 (0 : Int)), (.int .u8 (0 : Int)), (.int .u8 (0 : Int)), (.int .u8 (0 : Int)), (.int .u8 (0 : Int)), (.int .u8 (0 : Int)), (.int .u8 (0 : Int)), (.int .u8 (0 : Int)), (.int .u8 (0 : Int)), (.int .u8 (0 : Int)), (.int .u8 (0 : Int)), (.int .u8 (0 : Int)), (.int .u8 (0 : Int)), (.int .u8 (0 : Int)), (.int .u8 (0 : Int)), (.int .u8 (0 : Int)), (.int .u8 (0 : Int)), (.int .u8 (0 : Int)), (.int .u8 (0 : Int)), (.int .u8 (0 : Int)), (.int .u8 (0 : Int)), (.int .u8 (0 : Int)), (.int .u8 (0 : Int)), (.int .u8 (0 : Int)), (.int .u8 (0 : Int)), (.int .u8 (0 : Int)), (.int .u8 (0 : Int)), (.int .u8 (0 : Int)), (.int .u8 (0 : Int)), (.int .u8 (0 : Int)), (.int .u8 (0 : Int)), (.int .u8 (0 : Int)), (.int .u8 (0 : Int)), (.int .u8 (0 : Int)), (.int .u8 (0 : Int)), (.int .u8 (0 : Int)), (.int .u8 (0 : Int)), (.int .u8 (0 : Int)), (.int .u8 (0 : Int)), (.int .u8 (0 : Int)), (.int .u8 (0 : Int)), (.int .u8 (0 : Int)), (.int .u8 (0 : Int)), (.int .u8 (0 : Int)), (.int .u8 (0 : Int)), (.int .u8 (0 : Int)), (.int .u8 (0 : Int)), (.int .u8 (0 : Int)), (.int .u8 (0 : Int)), (.int .u8 (0 : Int)), (.int .u8 (0 : Int)), (.int .u8 (0 : Int)), (.int .u8 (0 : Int)), (.int .u8 (0 : Int)), (.int .u8 (0 : Int)), (.int .u8 (0 : Int)), (.int .u8 (0 : Int)), (.int .u8 (0 : Int)), (.int .u8 (0 : Int)), (.int .u8 (0 : Int)), (.int .u8 (0 : Int)), (.int .u8 (0 : Int)), (.int .u8 (0 : Int)), (.int .u8 (0 : Int)), (.int .u8 (0 : Int)), (.int .u8 (0 : Int)), (.int .u8 (0 : Int)), (.int .u8 (0 : Int)), (.int .u8 (0 : Int)), (.int .u8 (0 : Int)), (.int .u8 (0 : Int)), (.int .u8 (0 : Int)), (.int .u8 (0 : Int)), (.int .u8 (0 : Int)), (.int .u8 (0 : Int)), (.int .u8 (0 : Int)), (.int .u8 (0 : Int)), (.int .u8 (0 : Int)), (.int .u8 (0 : Int)), (.int .u8 (0 : Int)), (.int .u8 (0 : Int)), (.int .u8 (0 : Int)), (.int .u8 (0 : Int)), (.int .u8 (0 : Int)), (.int .u8 (0 : Int)), (.int .u8 (0 : Int)), (.int .u8 (0 : Int)), (.int .u8 (0 : Int)), (.int .u8 (0 : Int)), (.int .u8 (0 : Int)), (.int .u8 (0 : Int)), (.int .u8 (0 : Int)), (.int .u8 (0 : Int)), (.int .u8 (0 : Int)), (.int .u8 (0 : Int)), (.int .u8 (0 : Int)), (.int .u8 (0 : Int)), (.int .u8 (0 : Int)), (.int .u8 (0 : Int)), (.int .u8 (0 : Int)), (.int .u8 (0 : Int)), (.int .u8 (0 : Int)), (.int .u8 (0 : Int)), (.int .u8 (0 : Int)), (.int .u8 (0 : Int)), (.int .u8 (0 : Int)), (.int .u8 (0 : Int)), (.int .u8 (0 : Int)), (.int .u8 (0 : Int)), (.int .u8 (0 : Int)), (.int .u8 (0 : Int)), (.int .u8 (0 : Int)), (.int .u8 (0 : Int)), (.int .u8 (0 : Int)), (.int .u8 (0 : Int)), (.int .u8 (0 : Int)), (.int .u8 (0 : Int)), (.int .u8 (0 : Int)), (.int .u8 (0 : Int)), (.int .u8 (0 : Int)), (.int .u8 (0 : Int)), (.int .u8 (0 : Int)), (.int .u8 (0 : Int)), (.int .u8 (0 : Int)), (.int .u8 (0 : Int)), (.int .u8 (0 : Int)), (.int .u8 (0 : Int)), (.int .u8 (0 : Int)), (.int .u8 (0 : Int)), (.int .u8 (0 : Int)), (.int .u8 (0 : Int)), (.int .u8 (0 : Int)), (.int .u8 (0 : Int)), (.int .u8 (0 : Int)), (.int .u8 (0 : Int)), (.int .u8 (0 : Int)), (.int .u8 (0 : Int)), (.int .u8 (0 : Int)), (.int .u8 (0 : Int)), (.int .u8 (0 : Int)), (.int .u8 (0 : Int)), (.int .u8 (0 : Int)), (.int .u8 (0 : Int)), (.int .u8 (0 : Int)), (.int .u8 (0 : Int)), (.int .u8 (0 : Int)), (.int .u8 (0 : Int)), (.int .u8 (0 : Int)), (.int .u8 (0 : Int)), (.int .u8 (0 : Int)), (.int .u8 (0 : Int)), (.int .u8 (0 : Int)), (.int .u8 (0 : Int)), (.int .u8 (0 : Int)), (.int .u8 (0 : Int)), (.int .u8 (0 : Int)), (.int .u8 (0 : Int)), (.int .u8 (0 : Int)), (.int .u8 (0 : Int)), (.int .u8 (0 : Int)), (.int .u8 (0 : Int)), (.int .u8 (0 : Int)), (.int .u8 (0 : Int)), (.int .u8 (0 : Int)), (.int .u8 (0 : Int)), (.int .u8 (0 : Int)), (.int .u8 (0 : Int)), (.int .u8 (0 : Int)), (.int .u8 (0 : Int)), (.int .u8 (0 : Int)), (.int .u8 (0 : Int)), (.int .u8 (0 : Int)), (.int .u8 (0 : Int)), (.int .u8 (0 : Int)), (.int .u8 (0 : Int)), (.int .u8 (0 : Int)), (.int .u8 (0 : Int)), (.int .u8 (0 : Int)), (.int .u8 (0 : Int)), (.int .u8 (0 : Int)), (.int .u8 (0 : Int)), (.int .u8 (0 : Int)), (.int .u8 (0 : Int)), (.int .u8 (0 : Int)), (.int .u8 (0 : Int)), (.int .u8 (0 : Int)), (.int .u8 (0 : Int)), (.int .u8 (0 : Int)), (.int .u8 (0 : Int)), (.int .u8 (0 : Int)), (.int .u8 (0 : Int)), (.int .u8 (0 : Int)), (.int .u8 (0 : Int)), (.int .u8 (0 : Int)), (.int .u8 (0 : Int)), (.int .u8 (0 : Int)), (.int .u8 (0 : Int)), (.int .u8 (0 : Int)), (.int .u8 (0 : Int)), (.int .u8 (0 : Int)), (.int .u8 (0 : Int)), (.int .u8 (0 : Int)), (.int .u8 (0 : Int)), (.int .u8 (0 : Int)), (.int .u8 (0 : Int)), (.int .u8 (0 : Int)), (.int .u8 (0 : Int)), (.int .u8 (0 : Int)), (.int .u8 (0 : Int)), (.int .u8 (0 : Int)), (.int .u8 (0 : Int)), (.int .u8 (0 : Int)), (.int .u8 (0 : Int)), (.int .u8 (0 : Int)), (.int .u8 (0 : Int)), (.int .u8 (0 : Int)), (.int .u8 (0 : Int)), (.int .u8 (0 : Int)), (.int .u8 (0 : Int)), (.int .u8 (0 : Int)), (.int .u8 (0 : Int)), (.int .u8 (0 : Int)), (.int .u8 (0 : Int)), (.int .u8 (0 : Int)), (.int .u8 (0 : Int)), (.int .u8 (0 : Int)), (.int .u8 (0 : Int)), (.int .u8 (0 : Int)), (.int .u8 (0 : Int)), (.int .u8 (0 : Int)), (.int .u8 (0 : Int)), (.int .u8 (0 : Int)), (.int .u8 (0 : Int)), (.int .u8 (0 : Int)), (.int .u8 (0 : Int)), (.int .u8 (0 : Int)), (.int .u8 (0 : Int)), (.int .u8 (0 : Int)), (.int .u8 (0 : Int)), (.int .u8 (0 : Int)), (.int .u8 (0 : Int)), (.int .u8 (0 : Int)), (.int .u8 (0 : Int)), (.int .u8 (0 : Int)), (.int .u8 (0 : Int)), (.int .u8 (0 : Int)), (.int .u8 (0 : Int)), (.int .u8 (0 : Int)), (.int .u8 (0 : Int)), (.int .u8 (0 : Int)), (.int .u8 (0 : Int)), (.int .u8 (0 : Int)), (.int .u8 (0 : Int)), (.int .u8 (0 : Int)), (.int .u8 (0 : Int)), (.int .u8 (0 : Int)), (.int .u8 (0 : Int)), (.int .i64 (0 : Int)), (.int .i64 (0 : Int)), (.bool false), (.bool false)] (fun a h4 =>
 (((0 : Int) ≤ n ∧ n ≤ (((ByteArray.size s) : Nat) : Int)) ∧ CallT P n_internal_strconv_decimal_set [(.pointer (some a)), (.string (ByteArray.extract s 0 (Int.toNat n)))] shBool (fun r10 h5 =>
 (if (!r10) = true then
 EncW shLeaf (.iface 81 (.int .i64 (2 : Int))) fun e =>
 Q 0 n e h5
 else
 Call2 P n_internal_strconv_decimal_floatBits [(.pointer (some a)), (.pointer (some ⟨6, 0, none⟩))] (shInt .u64) shBool (fun r11 r12 h6 =>
 SemE P (Extern.MathFloatBits.float64frombits #[(.int .u64 r11)]) (shFlt .f64) (fun r13 h7 =>
 (if r12 = true then
 EncW shLeaf (.iface 81 (.int .i64 (1 : Int))) fun e =>
 Q r13 n e h7
 else
 EncW shLeaf err.v fun e =>
 Q r13 n e h7)) h6) h5)) h4)) h3)))) h1)) h

def internal_strconv_small_w (P : Program) (i : Int) (Q : (ByteArray → (Hp → Prop))) (h : Hp) : Prop :=
 (if (decide (i < (10 : Int))) = true then
 (((0 : Int) ≤ i ∧ (i ≤ (IntKind.wrap .i64 (i + (1 : Int))) ∧ (IntKind.wrap .i64 (i + (1 : Int))) ≤ (36 : Int))) ∧ Q (ByteArray.extract ⟨#[48, 49, 50, 51, 52, 53, 54, 55, 56, 57, 97, 98, 99, 100, 101, 102, 103, 104, 105, 106, 107, 108, 109, 110, 111, 112, 113, 114, 115, 116, 117, 118, 119, 120, 121, 122]⟩ (Int.toNat i) (Int.toNat (IntKind.wrap .i64 (i + (1 : Int))))) h)
 else
 (((0 : Int) ≤ (IntKind.wrap .i64 (i * (2 : Int))) ∧ ((IntKind.wrap .i64 (i * (2 : Int))) ≤ (IntKind.wrap .i64 ((IntKind.wrap .i64 (i * (2 : Int))) + (2 : Int))) ∧ (IntKind.wrap .i64 ((IntKind.wrap .i64 (i * (2 : Int))) + (2 : Int))) ≤ (200 : Int))) ∧ Q (ByteArray.extract ⟨#[48, 48, 48, 49, 48, 50, 48, 51, 48, 52, 48, 53, 48, 54, 48, 55, 48, 56, 48, 57, 49, 48, 49, 49, 49, 50, 49, 51, 49, 52, 49, 53, 49, 54, 49, 55, 49, 56, 49, 57, 50, 48, 50, 49, 50, 50, 50, 51, 50, 52, 50, 53, 50, 54, 50, 55, 50, 56, 50, 57, 51, 48, 51, 49, 51, 50, 51, 51, 51, 52, 51, 53, 51, 54, 51, 55, 51, 56, 51, 57, 52, 48, 52, 49, 52, 50, 52, 51, 52, 52, 52, 53, 52, 54, 52, 55, 52, 56, 52, 57, 53, 48, 53, 49, 53, 50, 53, 51, 53, 52, 53, 53, 53, 54, 53, 55, 53, 56, 53, 57, 54, 48, 54, 49, 54, 50, 54, 51, 54, 52, 54, 53, 54, 54, 54, 55, 54, 56, 54, 57, 55, 48, 55, 49, 55, 50, 55, 51, 55, 52, 55, 53, 55, 54, 55, 55, 55, 56, 55, 57, 56, 48, 56, 49, 56, 50, 56, 51, 56, 52, 56, 53, 56, 54, 56, 55, 56, 56, 56, 57, 57, 48, 57, 49, 57, 50, 57, 51, 57, 52, 57, 53, 57, 54, 57, 55, 57, 56, 57, 57]⟩ (Int.toNat (IntKind.wrap .i64 (i * (2 : Int)))) (Int.toNat (IntKind.wrap .i64 ((IntKind.wrap .i64 (i * (2 : Int))) + (2 : Int))))) h))

def internal_strconv_numDigits_w (P : Program) (d : Int) (Q : (Int → (Hp → Prop))) (h : Hp) : Prop :=
 CallT P n_math_bits_Len64 [(.int .u64 d)] (shInt .i64) (fun r h1 =>
 CallT P n_internal_strconv_log10Pow2 [(.int .i64 r)] (shInt .i64) (fun r1 h2 =>
 (((0 : Int) ≤ r1 ∧ r1 < (20 : Int)) ∧ LdW none (shInt .u64) h2 (Addr.add ⟨7, 0, none⟩ ((Int.toNat r1) * 1)) fun x =>
 CallT P n_internal_strconv_bool2_int [(.bool (decide (d ≥ x)))] (shInt .i64) (fun r2 h3 =>
 Q (IntKind.wrap .i64 (r1 + r2)) h3) h2)) h1) h

def bl200 : List UInt8 := [48, 48, 48, 49, 48, 50, 48, 51, 48, 52, 48, 53, 48, 54, 48, 55, 48, 56, 48, 57, 49, 48, 49, 49, 49, 50, 49, 51, 49, 52, 49, 53, 49, 54, 49, 55, 49, 56, 49, 57, 50, 48, 50, 49, 50, 50, 50, 51, 50, 52, 50, 53, 50, 54, 50, 55, 50, 56, 50, 57, 51, 48, 51, 49, 51, 50, 51, 51, 51, 52, 51, 53, 51, 54, 51, 55, 51, 56, 51, 57, 52, 48, 52, 49, 52, 50, 52, 51, 52, 52, 52, 53, 52, 54, 52, 55, 52, 56, 52, 57, 53, 48, 53, 49, 53, 50, 53, 51, 53, 52, 53, 53, 53, 54, 53, 55, 53, 56, 53, 57, 54, 48, 54, 49, 54, 50, 54, 51, 54, 52, 54, 53, 54, 54, 54, 55, 54, 56, 54, 57, 55, 48, 55, 49, 55, 50, 55, 51, 55, 52, 55, 53, 55, 54, 55, 55, 55, 56, 55, 57, 56, 48, 56, 49, 56, 50, 56, 51, 56, 52, 56, 53, 56, 54, 56, 55, 56, 56, 56, 57, 57, 48, 57, 49, 57, 50, 57, 51, 57, 52, 57, 53, 57, 54, 57, 55, 57, 56, 57, 57]

def internal_strconv_formatBase10_w (P : Program) (a : Sl) (u : Int) (Q : (Hp → Prop)) (h : Hp) : Prop :=
 LoopW2 (α1 := Int) (α2 := Int) (fun again u1 nd h1 =>
 (if (decide (nd ≥ (8 : Int))) = true then
 ((100000000 : Int) ≠ (0 : Int) ∧ ((100000000 : Int) ≠ (0 : Int) ∧ ((10000 : Int) ≠ (0 : Int) ∧ ((10000 : Int) ≠ (0 : Int) ∧ ((100 : Int) ≠ (0 : Int) ∧ ((100 : Int) ≠ (0 : Int) ∧ ((100 : Int) ≠ (0 : Int) ∧ ((100 : Int) ≠ (0 : Int) ∧ (((0 : Int) ≤ (IntKind.wrap .u32 ((IntKind.wrap .u32 ((Int.tmod (Int.tmod (IntKind.wrap .u32 (Int.tmod u1 (100000000 : Int))) (10000 : Int)) (100 : Int)) * (2 : Int))) + (1 : Int))) ∧ (IntKind.wrap .u32 ((IntKind.wrap .u32 ((Int.tmod (Int.tmod (IntKind.wrap .u32 (Int.tmod u1 (100000000 : Int))) (10000 : Int)) (100 : Int)) * (2 : Int))) + (1 : Int))) < (200 : Int)) ∧ (((0 : Int) ≤ (IntKind.wrap .u32 ((Int.tmod (Int.tmod (IntKind.wrap .u32 (Int.tmod u1 (100000000 : Int))) (10000 : Int)) (100 : Int)) * (2 : Int))) ∧ (IntKind.wrap .u32 ((Int.tmod (Int.tmod (IntKind.wrap .u32 (Int.tmod u1 (100000000 : Int))) (10000 : Int)) (100 : Int)) * (2 : Int))) < (200 : Int)) ∧ ((InB a.base a.len (IntKind.wrap .i64 (nd - (1 : Int)))) ∧ StW h1 (sat a.base 1 (IntKind.wrap .i64 (nd - (1 : Int)))) [(.int .u8 (((UInt8.toNat (List.getD bl200 (Int.toNat (IntKind.wrap .u32 ((IntKind.wrap .u32 ((Int.tmod (Int.tmod (IntKind.wrap .u32 (Int.tmod u1 (100000000 : Int))) (10000 : Int)) (100 : Int)) * (2 : Int))) + (1 : Int)))) 0)) : Nat) : Int))] (fun h2 =>
 ((InB a.base a.len (IntKind.wrap .i64 (nd - (2 : Int)))) ∧ StW h2 (sat a.base 1 (IntKind.wrap .i64 (nd - (2 : Int)))) [(.int .u8 (((UInt8.toNat (List.getD bl200 (Int.toNat (IntKind.wrap .u32 ((Int.tmod (Int.tmod (IntKind.wrap .u32 (Int.tmod u1 (100000000 : Int))) (10000 : Int)) (100 : Int)) * (2 : Int)))) 0)) : Nat) : Int))] (fun h3 =>
 (((0 : Int) ≤ (IntKind.wrap .u32 ((IntKind.wrap .u32 ((IntKind.wrap .u32 (Int.tdiv (Int.tmod (IntKind.wrap .u32 (Int.tmod u1 (100000000 : Int))) (10000 : Int)) (100 : Int))) * (2 : Int))) + (1 : Int))) ∧ (IntKind.wrap .u32 ((IntKind.wrap .u32 ((IntKind.wrap .u32 (Int.tdiv (Int.tmod (IntKind.wrap .u32 (Int.tmod u1 (100000000 : Int))) (10000 : Int)) (100 : Int))) * (2 : Int))) + (1 : Int))) < (200 : Int)) ∧ (((0 : Int) ≤ (IntKind.wrap .u32 ((IntKind.wrap .u32 (Int.tdiv (Int.tmod (IntKind.wrap .u32 (Int.tmod u1 (100000000 : Int))) (10000 : Int)) (100 : Int))) * (2 : Int))) ∧ (IntKind.wrap .u32 ((IntKind.wrap .u32 (Int.tdiv (Int.tmod (IntKind.wrap .u32 (Int.tmod u1 (100000000 : Int))) (10000 : Int)) (100 : Int))) * (2 : Int))) < (200 : Int)) ∧ ((InB a.base a.len (IntKind.wrap .i64 (nd - (3 : Int)))) ∧ StW h3 (sat a.base 1 (IntKind.wrap .i64 (nd - (3 : Int)))) [(.int .u8 (((UInt8.toNat (List.getD bl200 (Int.toNat (IntKind.wrap .u32 ((IntKind.wrap .u32 ((IntKind.wrap .u32 (Int.tdiv (Int.tmod (IntKind.wrap .u32 (Int.tmod u1 (100000000 : Int))) (10000 : Int)) (100 : Int))) * (2 : Int))) + (1 : Int)))) 0)) : Nat) : Int))] (fun h4 =>
 ((InB a.base a.len (IntKind.wrap .i64 (nd - (4 : Int)))) ∧ StW h4 (sat a.base 1 (IntKind.wrap .i64 (nd - (4 : Int)))) [(.int .u8 (((UInt8.toNat (List.getD bl200 (Int.toNat (IntKind.wrap .u32 ((IntKind.wrap .u32 (Int.tdiv (Int.tmod (IntKind.wrap .u32 (Int.tmod u1 (100000000 : Int))) (10000 : Int)) (100 : Int))) * (2 : Int)))) 0)) : Nat) : Int))] (fun h5 =>
 (((0 : Int) ≤ (IntKind.wrap .u32 ((IntKind.wrap .u32 ((Int.tmod (IntKind.wrap .u32 (Int.tdiv (IntKind.wrap .u32 (Int.tmod u1 (100000000 : Int))) (10000 : Int))) (100 : Int)) * (2 : Int))) + (1 : Int))) ∧ (IntKind.wrap .u32 ((IntKind.wrap .u32 ((Int.tmod (IntKind.wrap .u32 (Int.tdiv (IntKind.wrap .u32 (Int.tmod u1 (100000000 : Int))) (10000 : Int))) (100 : Int)) * (2 : Int))) + (1 : Int))) < (200 : Int)) ∧ (((0 : Int) ≤ (IntKind.wrap .u32 ((Int.tmod (IntKind.wrap .u32 (Int.tdiv (IntKind.wrap .u32 (Int.tmod u1 (100000000 : Int))) (10000 : Int))) (100 : Int)) * (2 : Int))) ∧ (IntKind.wrap .u32 ((Int.tmod (IntKind.wrap .u32 (Int.tdiv (IntKind.wrap .u32 (Int.tmod u1 (100000000 : Int))) (10000 : Int))) (100 : Int)) * (2 : Int))) < (200 : Int)) ∧ ((InB a.base a.len (IntKind.wrap .i64 (nd - (5 : Int)))) ∧ StW h5 (sat a.base 1 (IntKind.wrap .i64 (nd - (5 : Int)))) [(.int .u8 (((UInt8.toNat (List.getD bl200 (Int.toNat (IntKind.wrap .u32 ((IntKind.wrap .u32 ((Int.tmod (IntKind.wrap .u32 (Int.tdiv (IntKind.wrap .u32 (Int.tmod u1 (100000000 : Int))) (10000 : Int))) (100 : Int)) * (2 : Int))) + (1 : Int)))) 0)) : Nat) : Int))] (fun h6 =>
 ((InB a.base a.len (IntKind.wrap .i64 (nd - (6 : Int)))) ∧ StW h6 (sat a.base 1 (IntKind.wrap .i64 (nd - (6 : Int)))) [(.int .u8 (((UInt8.toNat (List.getD bl200 (Int.toNat (IntKind.wrap .u32 ((Int.tmod (IntKind.wrap .u32 (Int.tdiv (IntKind.wrap .u32 (Int.tmod u1 (100000000 : Int))) (10000 : Int))) (100 : Int)) * (2 : Int)))) 0)) : Nat) : Int))] (fun h7 =>
 (((0 : Int) ≤ (IntKind.wrap .u32 ((IntKind.wrap .u32 ((IntKind.wrap .u32 (Int.tdiv (IntKind.wrap .u32 (Int.tdiv (IntKind.wrap .u32 (Int.tmod u1 (100000000 : Int))) (10000 : Int))) (100 : Int))) * (2 : Int))) + (1 : Int))) ∧ (IntKind.wrap .u32 ((IntKind.wrap .u32 ((IntKind.wrap .u32 (Int.tdiv (IntKind.wrap .u32 (Int.tdiv (IntKind.wrap .u32 (Int.tmod u1 (100000000 : Int))) (10000 : Int))) (100 : Int))) * (2 : Int))) + (1 : Int))) < (200 : Int)) ∧ (((0 : Int) ≤ (IntKind.wrap .u32 ((IntKind.wrap .u32 (Int.tdiv (IntKind.wrap .u32 (Int.tdiv (IntKind.wrap .u32 (Int.tmod u1 (100000000 : Int))) (10000 : Int))) (100 : Int))) * (2 : Int))) ∧ (IntKind.wrap .u32 ((IntKind.wrap .u32 (Int.tdiv (IntKind.wrap .u32 (Int.tdiv (IntKind.wrap .u32 (Int.tmod u1 (100000000 : Int))) (10000 : Int))) (100 : Int))) * (2 : Int))) < (200 : Int)) ∧ ((InB a.base a.len (IntKind.wrap .i64 (nd - (7 : Int)))) ∧ StW h7 (sat a.base 1 (IntKind.wrap .i64 (nd - (7 : Int)))) [(.int .u8 (((UInt8.toNat (List.getD bl200 (Int.toNat (IntKind.wrap .u32 ((IntKind.wrap .u32 ((IntKind.wrap .u32 (Int.tdiv (IntKind.wrap .u32 (Int.tdiv (IntKind.wrap .u32 (Int.tmod u1 (100000000 : Int))) (10000 : Int))) (100 : Int))) * (2 : Int))) + (1 : Int)))) 0)) : Nat) : Int))] (fun h8 =>
 ((InB a.base a.len (IntKind.wrap .i64 (nd - (8 : Int)))) ∧ StW h8 (sat a.base 1 (IntKind.wrap .i64 (nd - (8 : Int)))) [(.int .u8 (((UInt8.toNat (List.getD bl200 (Int.toNat (IntKind.wrap .u32 ((IntKind.wrap .u32 (Int.tdiv (IntKind.wrap .u32 (Int.tdiv (IntKind.wrap .u32 (Int.tmod u1 (100000000 : Int))) (10000 : Int))) (100 : Int))) * (2 : Int)))) 0)) : Nat) : Int))] (fun h9 =>
 again (IntKind.wrap .u64 (Int.tdiv u1 (100000000 : Int))) (IntKind.wrap .i64 (nd - (8 : Int))) h9))))))))))))))))))))))))))))))))
 else
 JoinW2 (α1 := Int) (α2 := Int) (fun k =>
 (if (decide (nd ≥ (4 : Int))) = true then
 ((10000 : Int) ≠ (0 : Int) ∧ ((10000 : Int) ≠ (0 : Int) ∧ ((100 : Int) ≠ (0 : Int) ∧ ((100 : Int) ≠ (0 : Int) ∧ (((0 : Int) ≤ (IntKind.wrap .u32 ((IntKind.wrap .u32 ((Int.tmod (Int.tmod (IntKind.wrap .u32 u1) (10000 : Int)) (100 : Int)) * (2 : Int))) + (1 : Int))) ∧ (IntKind.wrap .u32 ((IntKind.wrap .u32 ((Int.tmod (Int.tmod (IntKind.wrap .u32 u1) (10000 : Int)) (100 : Int)) * (2 : Int))) + (1 : Int))) < (200 : Int)) ∧ (((0 : Int) ≤ (IntKind.wrap .u32 ((Int.tmod (Int.tmod (IntKind.wrap .u32 u1) (10000 : Int)) (100 : Int)) * (2 : Int))) ∧ (IntKind.wrap .u32 ((Int.tmod (Int.tmod (IntKind.wrap .u32 u1) (10000 : Int)) (100 : Int)) * (2 : Int))) < (200 : Int)) ∧ ((InB a.base a.len (IntKind.wrap .i64 (nd - (1 : Int)))) ∧ StW h1 (sat a.base 1 (IntKind.wrap .i64 (nd - (1 : Int)))) [(.int .u8 (((UInt8.toNat (List.getD bl200 (Int.toNat (IntKind.wrap .u32 ((IntKind.wrap .u32 ((Int.tmod (Int.tmod (IntKind.wrap .u32 u1) (10000 : Int)) (100 : Int)) * (2 : Int))) + (1 : Int)))) 0)) : Nat) : Int))] (fun h2 =>
 ((InB a.base a.len (IntKind.wrap .i64 (nd - (2 : Int)))) ∧ StW h2 (sat a.base 1 (IntKind.wrap .i64 (nd - (2 : Int)))) [(.int .u8 (((UInt8.toNat (List.getD bl200 (Int.toNat (IntKind.wrap .u32 ((Int.tmod (Int.tmod (IntKind.wrap .u32 u1) (10000 : Int)) (100 : Int)) * (2 : Int)))) 0)) : Nat) : Int))] (fun h3 =>
 (((0 : Int) ≤ (IntKind.wrap .u32 ((IntKind.wrap .u32 ((IntKind.wrap .u32 (Int.tdiv (Int.tmod (IntKind.wrap .u32 u1) (10000 : Int)) (100 : Int))) * (2 : Int))) + (1 : Int))) ∧ (IntKind.wrap .u32 ((IntKind.wrap .u32 ((IntKind.wrap .u32 (Int.tdiv (Int.tmod (IntKind.wrap .u32 u1) (10000 : Int)) (100 : Int))) * (2 : Int))) + (1 : Int))) < (200 : Int)) ∧ (((0 : Int) ≤ (IntKind.wrap .u32 ((IntKind.wrap .u32 (Int.tdiv (Int.tmod (IntKind.wrap .u32 u1) (10000 : Int)) (100 : Int))) * (2 : Int))) ∧ (IntKind.wrap .u32 ((IntKind.wrap .u32 (Int.tdiv (Int.tmod (IntKind.wrap .u32 u1) (10000 : Int)) (100 : Int))) * (2 : Int))) < (200 : Int)) ∧ ((InB a.base a.len (IntKind.wrap .i64 (nd - (3 : Int)))) ∧ StW h3 (sat a.base 1 (IntKind.wrap .i64 (nd - (3 : Int)))) [(.int .u8 (((UInt8.toNat (List.getD bl200 (Int.toNat (IntKind.wrap .u32 ((IntKind.wrap .u32 ((IntKind.wrap .u32 (Int.tdiv (Int.tmod (IntKind.wrap .u32 u1) (10000 : Int)) (100 : Int))) * (2 : Int))) + (1 : Int)))) 0)) : Nat) : Int))] (fun h4 =>
 ((InB a.base a.len (IntKind.wrap .i64 (nd - (4 : Int)))) ∧ StW h4 (sat a.base 1 (IntKind.wrap .i64 (nd - (4 : Int)))) [(.int .u8 (((UInt8.toNat (List.getD bl200 (Int.toNat (IntKind.wrap .u32 ((IntKind.wrap .u32 (Int.tdiv (Int.tmod (IntKind.wrap .u32 u1) (10000 : Int)) (100 : Int))) * (2 : Int)))) 0)) : Nat) : Int))] (fun h5 =>
 k (IntKind.wrap .i64 (nd - (4 : Int))) (IntKind.wrap .u32 (Int.tdiv (IntKind.wrap .u32 u1) (10000 : Int))) h5))))))))))))))))
 else
 k nd (IntKind.wrap .u32 u1) h1))
 (fun nd1 x h2 =>
 JoinW2 (α1 := Int) (α2 := Int) (fun k =>
 (if (decide (nd1 ≥ (2 : Int))) = true then
 ((100 : Int) ≠ (0 : Int) ∧ ((100 : Int) ≠ (0 : Int) ∧ (((0 : Int) ≤ (IntKind.wrap .u32 ((IntKind.wrap .u32 ((Int.tmod x (100 : Int)) * (2 : Int))) + (1 : Int))) ∧ (IntKind.wrap .u32 ((IntKind.wrap .u32 ((Int.tmod x (100 : Int)) * (2 : Int))) + (1 : Int))) < (200 : Int)) ∧ (((0 : Int) ≤ (IntKind.wrap .u32 ((Int.tmod x (100 : Int)) * (2 : Int))) ∧ (IntKind.wrap .u32 ((Int.tmod x (100 : Int)) * (2 : Int))) < (200 : Int)) ∧ ((InB a.base a.len (IntKind.wrap .i64 (nd1 - (1 : Int)))) ∧ StW h2 (sat a.base 1 (IntKind.wrap .i64 (nd1 - (1 : Int)))) [(.int .u8 (((UInt8.toNat (List.getD bl200 (Int.toNat (IntKind.wrap .u32 ((IntKind.wrap .u32 ((Int.tmod x (100 : Int)) * (2 : Int))) + (1 : Int)))) 0)) : Nat) : Int))] (fun h3 =>
 ((InB a.base a.len (IntKind.wrap .i64 (nd1 - (2 : Int)))) ∧ StW h3 (sat a.base 1 (IntKind.wrap .i64 (nd1 - (2 : Int)))) [(.int .u8 (((UInt8.toNat (List.getD bl200 (Int.toNat (IntKind.wrap .u32 ((Int.tmod x (100 : Int)) * (2 : Int)))) 0)) : Nat) : Int))] (fun h4 =>
 k (IntKind.wrap .i64 (nd1 - (2 : Int))) (IntKind.wrap .u32 (Int.tdiv x (100 : Int))) h4))))))))
 else
 k nd1 x h2))
 (fun nd2 x1 h3 =>
 (if (decide (nd2 > (0 : Int))) = true then
 ((InB a.base a.len (0 : Int)) ∧ StW h3 (sat a.base 1 (0 : Int)) [(.int .u8 (IntKind.wrap .u8 (IntKind.wrap .u32 ((48 : Int) + x1))))] (fun h4 =>
 Q h4))
 else
 Q h3))))) u ((a.len : Nat) : Int) h

def math_bits_Mul64_w (P : Program) (x : Int) (y : Int) (Q : (Int → (Int → (Hp → Prop)))) (h : Hp) : Prop :=
 ((0 : Int) ≤ (32 : Int) ∧ ((0 : Int) ≤ (32 : Int) ∧ ((0 : Int) ≤ (32 : Int) ∧ ((0 : Int) ≤ (32 : Int) ∧ ((0 : Int) ≤ (32 : Int) ∧ Q (IntKind.wrap .u64 ((IntKind.wrap .u64 ((IntKind.wrap .u64 ((shrI .u64 x (32 : Int)) * (shrI .u64 y (32 : Int)))) + (shrI .u64 (IntKind.wrap .u64 ((IntKind.wrap .u64 ((shrI .u64 x (32 : Int)) * (bitsI .and .u64 y (4294967295 : Int)))) + (shrI .u64 (IntKind.wrap .u64 ((bitsI .and .u64 x (4294967295 : Int)) * (bitsI .and .u64 y (4294967295 : Int)))) (32 : Int)))) (32 : Int)))) + (shrI .u64 (IntKind.wrap .u64 ((bitsI .and .u64 (IntKind.wrap .u64 ((IntKind.wrap .u64 ((shrI .u64 x (32 : Int)) * (bitsI .and .u64 y (4294967295 : Int)))) + (shrI .u64 (IntKind.wrap .u64 ((bitsI .and .u64 x (4294967295 : Int)) * (bitsI .and .u64 y (4294967295 : Int)))) (32 : Int)))) (4294967295 : Int)) + (IntKind.wrap .u64 ((bitsI .and .u64 x (4294967295 : Int)) * (shrI .u64 y (32 : Int)))))) (32 : Int)))) (IntKind.wrap .u64 (x * y)) h)))))

def internal_stringslite_IndexByte_w (P : Program) (s : ByteArray) (c : Int) (Q : (Int → (Hp → Prop))) (h : Hp) : Prop :=
 SemE P (Extern.BytealgIndexByte.indexByte #[(.string s), (.int .u8 c)]) (shInt .i64) (fun r h1 =>
 Q r h1) h

def internal_strconv_fmtEFG_w (P : Program) (dst : Sl) (neg : Bool) (s : Sl) (dp : Int) (nd : Int) (prec : Int) (fmt : Int) (shortest : Bool) (Q : (Sl → (Hp → Prop))) (h : Hp) : Prop :=
 JoinW2 (α1 := Int) (α2 := Int) (fun k =>
 LetW ((fmt == (103 : Int)) || (fmt == (71 : Int))) fun y =>
 (if y = true then
 JoinW1 (α1 := Int) (fun k1 =>
 LetW ((decide (prec > nd)) && (decide (nd ≥ dp))) fun y1 =>
 (if y1 = true then
 k1 nd h
 else
 k1 prec h))
 (fun eprec h1 =>
 JoinW1 (α1 := Int) (fun k1 =>
 (if shortest = true then
 k1 (6 : Int) h1
 else
 k1 eprec h1))
 (fun eprec1 h2 =>
 LetW ((decide ((IntKind.wrap .i64 (dp - (1 : Int))) < (-4 : Int))) || (decide ((IntKind.wrap .i64 (dp - (1 : Int))) ≥ eprec1))) fun y1 =>
 (if y1 = true then
 JoinW1 (α1 := Int) (fun k1 =>
 (if (decide (prec > nd)) = true then
 k1 nd h2
 else
 k1 prec h2))
 (fun prec1 h3 =>
 k (IntKind.wrap .i64 (prec1 - (1 : Int))) (IntKind.wrap .u8 ((IntKind.wrap .u8 (fmt + (101 : Int))) - (103 : Int))) h3)
 else
 JoinW1 (α1 := Int) (fun k1 =>
 (if (decide (prec > dp)) = true then
 k1 nd h2
 else
 k1 prec h2))
 (fun prec1 h3 =>
 k (max2I (IntKind.wrap .i64 (prec1 - dp)) (0 : Int)) (102 : Int) h3))))
 else
 k prec fmt h))
 (fun prec1 fmt1 h1 =>
 JoinW1 (α1 := Bool) (fun k =>
 (if (fmt1 == (101 : Int)) = true then
 k (fmt1 == (101 : Int)) h1
 else
 k (fmt1 == (69 : Int)) h1))
 (fun t75 h2 =>
 (if t75 = true then
 JoinW1 (α1 := Sl) (fun k =>
 (if neg = true then
 NewW [(.int .u8 (45 : Int))] (fun a h3 =>
 AppendW 1 1 [(.int .u8 (0 : Int))] dst ⟨(some a), 1, 1⟩ (fun r h4 =>
 k r h4) h3) h2
 else
 k dst h2))
 (fun dst1 h3 =>
 JoinW1 (α1 := Int) (fun k =>
 (if (nd != (0 : Int)) = true then
 ((InB s.base s.len (0 : Int)) ∧ LdW none (shInt .u8) h3 (sat s.base 1 (0 : Int)) fun x =>
 k x h3)
 else
 k (48 : Int) h3))
 (fun ch h4 =>
 NewW [(.int .u8 ch)] (fun a h5 =>
 AppendW 1 1 [(.int .u8 (0 : Int))] dst1 ⟨(some a), 1, 1⟩ (fun r h6 =>
 JoinW1 (α1 := Sl) (fun k =>
 (if (decide (prec1 > (0 : Int))) = true then
 NewW [(.int .u8 (46 : Int))] (fun a1 h7 =>
 AppendW 1 1 [(.int .u8 (0 : Int))] r ⟨(some a1), 1, 1⟩ (fun r1 h8 =>
 JoinW2 (α1 := Sl) (α2 := Int) (fun k1 =>
 (if (decide ((1 : Int) < (min2I nd (IntKind.wrap .i64 (prec1 + (1 : Int)))))) = true then
 (((0 : Int) ≤ (1 : Int) ∧ ((1 : Int) ≤ (min2I nd (IntKind.wrap .i64 (prec1 + (1 : Int)))) ∧ (min2I nd (IntKind.wrap .i64 (prec1 + (1 : Int)))) ≤ ((s.cap : Nat) : Int))) ∧ LetW (α := Sl) ⟨(sbase s.base 1 1 s.cap), ((Int.toNat (min2I nd (IntKind.wrap .i64 (prec1 + (1 : Int))))) - 1), (s.cap - 1)⟩ fun y =>
 AppendW 1 1 [(.int .u8 (0 : Int))] r1 y (fun r2 h9 =>
 k1 r2 (min2I nd (IntKind.wrap .i64 (prec1 + (1 : Int)))) h9) h8)
 else
 k1 r1 (1 : Int) h8))
 (fun dst2 i h9 =>
 LoopW2 (α1 := Sl) (α2 := Int) (fun again dst3 t114 h10 =>
 (if (decide (t114 < (IntKind.wrap .i64 ((IntKind.wrap .i64 (prec1 + (1 : Int))) - i)))) = true then
 NewW [(.int .u8 (48 : Int))] (fun a2 h11 =>
 AppendW 1 1 [(.int .u8 (0 : Int))] ⟨dst3.base, dst3.len, dst3.cap⟩ ⟨(some a2), 1, 1⟩ (fun r2 h12 =>
 again r2 (IntKind.wrap .i64 (t114 + (1 : Int))) h12) h11) h10
 else
 k ⟨dst3.base, dst3.len, dst3.cap⟩ h10)) ⟨dst2.base, dst2.len, dst2.cap⟩ (0 : Int) h9)) h7) h6
 else
 k r h6))
 (fun dst2 h7 =>
 NewW [(.int .u8 fmt1)] (fun a1 h8 =>
 AppendW 1 1 [(.int .u8 (0 : Int))] dst2 ⟨(some a1), 1, 1⟩ (fun r1 h9 =>
 JoinW1 (α1 := Int) (fun k =>
 (if (nd == (0 : Int)) = true then
 k (0 : Int) h9
 else
 k (IntKind.wrap .i64 (dp - (1 : Int))) h9))
 (fun exp h10 =>
 JoinW2 (α1 := Int) (α2 := Int) (fun k =>
 (if (decide (exp < (0 : Int))) = true then
 k (45 : Int) (IntKind.wrap .i64 ((0 : Int) - exp)) h10
 else
 k (43 : Int) exp h10))
 (fun ch1 exp1 h11 =>
 NewW [(.int .u8 ch1)] (fun a2 h12 =>
 AppendW 1 1 [(.int .u8 (0 : Int))] r1 ⟨(some a2), 1, 1⟩ (fun r2 h13 =>
 (if (decide (exp1 < (10 : Int))) = true then
 NewW [(.int .u8 (48 : Int)), (.int .u8 (IntKind.wrap .u8 ((IntKind.wrap .u8 exp1) + (48 : Int))))] (fun a3 h14 =>
 AppendW 1 1 [(.int .u8 (0 : Int))] r2 ⟨(some a3), 2, 2⟩ (fun r3 h15 =>
 Q r3 h15) h14) h13
 else
 (if (decide (exp1 < (100 : Int))) = true then
 ((10 : Int) ≠ (0 : Int) ∧ ((10 : Int) ≠ (0 : Int) ∧ NewW [(.int .u8 (IntKind.wrap .u8 ((IntKind.wrap .u8 (IntKind.wrap .i64 (Int.tdiv exp1 (10 : Int)))) + (48 : Int)))), (.int .u8 (IntKind.wrap .u8 ((IntKind.wrap .u8 (Int.tmod exp1 (10 : Int))) + (48 : Int))))] (fun a3 h14 =>
 AppendW 1 1 [(.int .u8 (0 : Int))] r2 ⟨(some a3), 2, 2⟩ (fun r3 h15 =>
 Q r3 h15) h14) h13))
 else
 ((100 : Int) ≠ (0 : Int) ∧ ((10 : Int) ≠ (0 : Int) ∧ ((10 : Int) ≠ (0 : Int) ∧ ((10 : Int) ≠ (0 : Int) ∧ NewW [(.int .u8 (IntKind.wrap .u8 ((IntKind.wrap .u8 (IntKind.wrap .i64 (Int.tdiv exp1 (100 : Int)))) + (48 : Int)))), (.int .u8 (IntKind.wrap .u8 ((Int.tmod (IntKind.wrap .u8 (IntKind.wrap .i64 (Int.tdiv exp1 (10 : Int)))) (10 : Int)) + (48 : Int)))), (.int .u8 (IntKind.wrap .u8 ((IntKind.wrap .u8 (Int.tmod exp1 (10 : Int))) + (48 : Int))))] (fun a3 h14 =>
 AppendW 1 1 [(.int .u8 (0 : Int))] r2 ⟨(some a3), 3, 3⟩ (fun r3 h15 =>
 Q r3 h15) h14) h13))))))) h12) h11))) h8) h7)) h5) h4))
 else
 (if (fmt1 == (102 : Int)) = true then
 JoinW1 (α1 := Sl) (fun k =>
 (if neg = true then
 NewW [(.int .u8 (45 : Int))] (fun a h3 =>
 AppendW 1 1 [(.int .u8 (0 : Int))] dst ⟨(some a), 1, 1⟩ (fun r h4 =>
 k r h4) h3) h2
 else
 k dst h2))
 (fun dst1 h3 =>
 JoinW1 (α1 := Sl) (fun k =>
 (if (decide (dp > (0 : Int))) = true then
 (((0 : Int) ≤ (min2I nd dp) ∧ (min2I nd dp) ≤ ((s.cap : Nat) : Int)) ∧ LetW (α := Sl) ⟨(sbase s.base 1 0 s.cap), ((Int.toNat (min2I nd dp)) - 0), (s.cap - 0)⟩ fun y =>
 LoopW2 (α1 := Sl) (α2 := Int) (fun again dst2 t191 h4 =>
 (if (decide (t191 < ((y.len : Nat) : Int))) = true then
 ((InB y.base y.len t191) ∧ LdW none (shInt .u8) h4 (sat y.base 1 t191) fun x =>
 NewW [(.int .u8 x)] (fun a h5 =>
 AppendW 1 1 [(.int .u8 (0 : Int))] ⟨dst2.base, dst2.len, dst2.cap⟩ ⟨(some a), 1, 1⟩ (fun r h6 =>
 again r (IntKind.wrap .i64 (t191 + (1 : Int))) h6) h5) h4)
 else
 LoopW2 (α1 := Sl) (α2 := Int) (fun again1 dst3 t203 h5 =>
 (if (decide (t203 < (IntKind.wrap .i64 (dp - (min2I nd dp))))) = true then
 NewW [(.int .u8 (48 : Int))] (fun a h6 =>
 AppendW 1 1 [(.int .u8 (0 : Int))] ⟨dst3.base, dst3.len, dst3.cap⟩ ⟨(some a), 1, 1⟩ (fun r h7 =>
 again1 r (IntKind.wrap .i64 (t203 + (1 : Int))) h7) h6) h5
 else
 k ⟨dst3.base, dst3.len, dst3.cap⟩ h5)) ⟨dst2.base, dst2.len, dst2.cap⟩ (0 : Int) h4)) dst1 (0 : Int) h3)
 else
 NewW [(.int .u8 (48 : Int))] (fun a h4 =>
 AppendW 1 1 [(.int .u8 (0 : Int))] dst1 ⟨(some a), 1, 1⟩ (fun r h5 =>
 k r h5) h4) h3))
 (fun dst2 h4 =>
 (if (decide (prec1 > (0 : Int))) = true then
 NewW [(.int .u8 (46 : Int))] (fun a h5 =>
 AppendW 1 1 [(.int .u8 (0 : Int))] dst2 ⟨(some a), 1, 1⟩ (fun r h6 =>
 LoopW2 (α1 := Sl) (α2 := Int) (fun again dst3 t240 h7 =>
 (if (decide (t240 < (min2I prec1 (max2I (0 : Int) (IntKind.wrap .i64 ((0 : Int) - dp)))))) = true then
 NewW [(.int .u8 (48 : Int))] (fun a1 h8 =>
 AppendW 1 1 [(.int .u8 (0 : Int))] ⟨dst3.base, dst3.len, dst3.cap⟩ ⟨(some a1), 1, 1⟩ (fun r1 h9 =>
 again r1 (IntKind.wrap .i64 (t240 + (1 : Int))) h9) h8) h7
 else
 LoopW2 (α1 := Sl) (α2 := Int) (fun again1 dst4 t247 h8 =>
 (if (decide (t247 < (min2I (IntKind.wrap .i64 (prec1 - (min2I prec1 (max2I (0 : Int) (IntKind.wrap .i64 ((0 : Int) - dp)))))) (max2I (0 : Int) (IntKind.wrap .i64 (nd - (IntKind.wrap .i64 (dp + (min2I prec1 (max2I (0 : Int) (IntKind.wrap .i64 ((0 : Int) - dp)))))))))))) = true then
 ((InB s.base s.len (IntKind.wrap .i64 ((IntKind.wrap .i64 (dp + (min2I prec1 (max2I (0 : Int) (IntKind.wrap .i64 ((0 : Int) - dp)))))) + t247))) ∧ LdW none (shInt .u8) h8 (sat s.base 1 (IntKind.wrap .i64 ((IntKind.wrap .i64 (dp + (min2I prec1 (max2I (0 : Int) (IntKind.wrap .i64 ((0 : Int) - dp)))))) + t247))) fun x =>
 NewW [(.int .u8 x)] (fun a1 h9 =>
 AppendW 1 1 [(.int .u8 (0 : Int))] ⟨dst4.base, dst4.len, dst4.cap⟩ ⟨(some a1), 1, 1⟩ (fun r1 h10 =>
 again1 r1 (IntKind.wrap .i64 (t247 + (1 : Int))) h10) h9) h8)
 else
 LoopW2 (α1 := Sl) (α2 := Int) (fun again2 dst5 t261 h9 =>
 (if (decide (t261 < (max2I (0 : Int) (IntKind.wrap .i64 ((IntKind.wrap .i64 (prec1 - (min2I prec1 (max2I (0 : Int) (IntKind.wrap .i64 ((0 : Int) - dp)))))) - (min2I (IntKind.wrap .i64 (prec1 - (min2I prec1 (max2I (0 : Int) (IntKind.wrap .i64 ((0 : Int) - dp)))))) (max2I (0 : Int) (IntKind.wrap .i64 (nd - (IntKind.wrap .i64 (dp + (min2I prec1 (max2I (0 : Int) (IntKind.wrap .i64 ((0 : Int) - dp))))))))))))))) = true then
 NewW [(.int .u8 (48 : Int))] (fun a1 h10 =>
 AppendW 1 1 [(.int .u8 (0 : Int))] ⟨dst5.base, dst5.len, dst5.cap⟩ ⟨(some a1), 1, 1⟩ (fun r1 h11 =>
 again2 r1 (IntKind.wrap .i64 (t261 + (1 : Int))) h11) h10) h9
 else
 Q ⟨dst5.base, dst5.len, dst5.cap⟩ h9)) ⟨dst4.base, dst4.len, dst4.cap⟩ (0 : Int) h8)) ⟨dst3.base, dst3.len, dst3.cap⟩ (0 : Int) h7)) r (0 : Int) h6) h5) h4
 else
 Q dst2 h4)))
 else
 NewW [(.int .u8 (37 : Int)), (.int .u8 fmt1)] (fun a h3 =>
 AppendW 1 1 [(.int .u8 (0 : Int))] dst ⟨(some a), 2, 2⟩ (fun r h4 =>
 Q r h4) h3) h2))))

def bl256 : List UInt8 := [0, 1, 2, 2, 3, 3, 3, 3, 4, 4, 4, 4, 4, 4, 4, 4, 5, 5, 5, 5, 5, 5, 5, 5, 5, 5, 5, 5, 5, 5, 5, 5, 6, 6, 6, 6, 6, 6, 6, 6, 6, 6, 6, 6, 6, 6, 6, 6, 6, 6, 6, 6, 6, 6, 6, 6, 6, 6, 6, 6, 6, 6, 6, 6, 7, 7, 7, 7, 7, 7, 7, 7, 7, 7, 7, 7, 7, 7, 7, 7, 7, 7, 7, 7, 7, 7, 7, 7, 7, 7, 7, 7, 7, 7, 7, 7, 7, 7, 7, 7, 7, 7, 7, 7, 7, 7, 7, 7, 7, 7, 7, 7, 7, 7, 7, 7, 7, 7, 7, 7, 7, 7, 7, 7, 7, 7, 7, 7, 8, 8, 8, 8, 8, 8, 8, 8, 8, 8, 8, 8, 8, 8, 8, 8, 8, 8, 8, 8, 8, 8, 8, 8, 8, 8, 8, 8, 8, 8, 8, 8, 8, 8, 8, 8, 8, 8, 8, 8, 8, 8, 8, 8, 8, 8, 8, 8, 8, 8, 8, 8, 8, 8, 8, 8, 8, 8, 8, 8, 8, 8, 8, 8, 8, 8, 8, 8, 8, 8, 8, 8, 8, 8, 8, 8, 8, 8, 8, 8, 8, 8, 8, 8, 8, 8, 8, 8, 8, 8, 8, 8, 8, 8, 8, 8, 8, 8, 8, 8, 8, 8, 8, 8, 8, 8, 8, 8, 8, 8, 8, 8, 8, 8, 8, 8, 8, 8, 8, 8, 8, 8, 8, 8, 8, 8, 8, 8]

def math_bits_Len64_w (P : Program) (x : Int) (Q : (Int → (Hp → Prop))) (h : Hp) : Prop :=
 JoinW2 (α1 := Int) (α2 := Int) (fun k =>
 (if (decide (x ≥ (4294967296 : Int))) = true then
 ((0 : Int) ≤ (32 : Int) ∧ k (shrI .u64 x (32 : Int)) (32 : Int) h)
 else
 k x (0 : Int) h))
 (fun x1 n h1 =>
 JoinW2 (α1 := Int) (α2 := Int) (fun k =>
 (if (decide (x1 ≥ (65536 : Int))) = true then
 ((0 : Int) ≤ (16 : Int) ∧ k (shrI .u64 x1 (16 : Int)) (IntKind.wrap .i64 (n + (16 : Int))) h1)
 else
 k x1 n h1))
 (fun x2 n1 h2 =>
 (if (decide (x2 ≥ (256 : Int))) = true then
 ((0 : Int) ≤ (8 : Int) ∧ (((0 : Int) ≤ (IntKind.wrap .u8 (shrI .u64 x2 (8 : Int))) ∧ (IntKind.wrap .u8 (shrI .u64 x2 (8 : Int))) < (256 : Int)) ∧ Q (IntKind.wrap .i64 ((IntKind.wrap .i64 (n1 + (8 : Int))) + (IntKind.wrap .i64 (((UInt8.toNat (List.getD bl256 (Int.toNat (IntKind.wrap .u8 (shrI .u64 x2 (8 : Int)))) 0)) : Nat) : Int)))) h2))
 else
 (((0 : Int) ≤ (IntKind.wrap .u8 x2) ∧ (IntKind.wrap .u8 x2) < (256 : Int)) ∧ Q (IntKind.wrap .i64 (n1 + (IntKind.wrap .i64 (((UInt8.toNat (List.getD bl256 (Int.toNat (IntKind.wrap .u8 x2)) 0)) : Nat) : Int)))) h2))))

def internal_strconv_setDigits_w (P : Program) (s : Sl) (d : Int) (p : Int) (nd : Int) (Q : (Int → (Int → (Hp → Prop)))) (h : Hp) : Prop :=
 (if (decide (nd ≤ ((s.len : Nat) : Int))) = true then
 (((0 : Int) ≤ nd ∧ nd ≤ ((s.cap : Nat) : Int)) ∧ LetW (α := Sl) ⟨(sbase s.base 1 0 s.cap), ((Int.toNat nd) - 0), (s.cap - 0)⟩ fun y =>
 Call0 P n_internal_strconv_formatBase10 [y.v, (.int .u64 d)] (fun h1 =>
 LoopW1 (α1 := Int) (fun again nd1 h2 =>
 (((decide (nd1 > (0 : Int))) = true → (InB s.base s.len (IntKind.wrap .i64 (nd1 - (1 : Int))))) ∧ LdW (some (decide (nd1 > (0 : Int)))) (shInt .u8) h2 (sat s.base 1 (IntKind.wrap .i64 (nd1 - (1 : Int)))) fun x =>
 LetW ((decide (nd1 > (0 : Int))) && (x == (48 : Int))) fun y1 =>
 (if y1 = true then
 again (IntKind.wrap .i64 (nd1 - (1 : Int))) h2
 else
 Q (IntKind.wrap .i64 (nd + p)) nd1 h2))) nd h1) h)
 else
 Q (0 : Int) nd h)

def internal_strconv_log10Pow2_w (P : Program) (x : Int) (Q : (Int → (Hp → Prop))) (h : Hp) : Prop :=
 ((0 : Int) ≤ (18 : Int) ∧ Q (shrI .i64 (IntKind.wrap .i64 (x * (78913 : Int))) (18 : Int)) h)

def internal_strconv_shortFloat_float64_w (P : Program) (m : Int) (e : Int) (Q : (Int → (Int → (Hp → Prop)))) (h : Hp) : Prop :=
 JoinW2 (α1 := Int) (α2 := Int) (fun k =>
 k (52 : Int) (-1085 : Int) h)
 (fun mantBits minExp h1 =>
 JoinW4 (α1 := Int) (α2 := Int) (α3 := Int) (α4 := Int) (fun k =>
 LetW ((m == (9223372036854775808 : Int)) && (decide (e > minExp))) fun y =>
 (if y = true then
 CallT P n_internal_strconv_skewed [(.int .i64 (IntKind.wrap .i64 (e + (IntKind.wrap .i64 ((63 : Int) - mantBits)))))] (shInt .i64) (fun r h2 =>
 ((0 : Int) ≤ (IntKind.wrap .i64 ((IntKind.wrap .i64 ((63 : Int) - mantBits)) - (2 : Int))) ∧ ((0 : Int) ≤ (IntKind.wrap .i64 ((IntKind.wrap .i64 ((63 : Int) - mantBits)) - (1 : Int))) ∧ ((0 : Int) ≤ (IntKind.wrap .i64 ((63 : Int) - mantBits)) ∧ k (IntKind.wrap .i64 ((0 : Int) - r)) (IntKind.wrap .u64 (m - (shlI .u64 (1 : Int) (IntKind.wrap .i64 ((IntKind.wrap .i64 ((63 : Int) - mantBits)) - (2 : Int)))))) (IntKind.wrap .u64 (m + (shlI .u64 (1 : Int) (IntKind.wrap .i64 ((IntKind.wrap .i64 ((63 : Int) - mantBits)) - (1 : Int)))))) (bitsI .and .i64 (IntKind.wrap .i64 (shrI .u64 m (IntKind.wrap .i64 ((63 : Int) - mantBits)))) (1 : Int)) h2)))) h1
 else
 (if (decide (e ≥ minExp)) = true then
 CallT P n_internal_strconv_log10Pow2 [(.int .i64 (IntKind.wrap .i64 (e + (IntKind.wrap .i64 ((63 : Int) - mantBits)))))] (shInt .i64) (fun r h2 =>
 ((0 : Int) ≤ (IntKind.wrap .i64 ((IntKind.wrap .i64 ((63 : Int) - mantBits)) - (1 : Int))) ∧ ((0 : Int) ≤ (IntKind.wrap .i64 ((IntKind.wrap .i64 ((63 : Int) - mantBits)) - (1 : Int))) ∧ ((0 : Int) ≤ (IntKind.wrap .i64 ((63 : Int) - mantBits)) ∧ k (IntKind.wrap .i64 ((0 : Int) - r)) (IntKind.wrap .u64 (m - (shlI .u64 (1 : Int) (IntKind.wrap .i64 ((IntKind.wrap .i64 ((63 : Int) - mantBits)) - (1 : Int)))))) (IntKind.wrap .u64 (m + (shlI .u64 (1 : Int) (IntKind.wrap .i64 ((IntKind.wrap .i64 ((63 : Int) - mantBits)) - (1 : Int)))))) (bitsI .and .i64 (IntKind.wrap .i64 (shrI .u64 m (IntKind.wrap .i64 ((63 : Int) - mantBits)))) (1 : Int)) h2)))) h1
 else
 CallT P n_internal_strconv_log10Pow2 [(.int .i64 (IntKind.wrap .i64 (e + (IntKind.wrap .i64 ((IntKind.wrap .i64 ((63 : Int) - mantBits)) + (IntKind.wrap .i64 (minExp - e)))))))] (shInt .i64) (fun r h2 =>
 ((0 : Int) ≤ (IntKind.wrap .i64 ((IntKind.wrap .i64 ((IntKind.wrap .i64 ((63 : Int) - mantBits)) + (IntKind.wrap .i64 (minExp - e)))) - (1 : Int))) ∧ ((0 : Int) ≤ (IntKind.wrap .i64 ((IntKind.wrap .i64 ((IntKind.wrap .i64 ((63 : Int) - mantBits)) + (IntKind.wrap .i64 (minExp - e)))) - (1 : Int))) ∧ ((0 : Int) ≤ (IntKind.wrap .i64 ((IntKind.wrap .i64 ((63 : Int) - mantBits)) + (IntKind.wrap .i64 (minExp - e)))) ∧ k (IntKind.wrap .i64 ((0 : Int) - r)) (IntKind.wrap .u64 (m - (shlI .u64 (1 : Int) (IntKind.wrap .i64 ((IntKind.wrap .i64 ((IntKind.wrap .i64 ((63 : Int) - mantBits)) + (IntKind.wrap .i64 (minExp - e)))) - (1 : Int)))))) (IntKind.wrap .u64 (m + (shlI .u64 (1 : Int) (IntKind.wrap .i64 ((IntKind.wrap .i64 ((IntKind.wrap .i64 ((63 : Int) - mantBits)) + (IntKind.wrap .i64 (minExp - e)))) - (1 : Int)))))) (bitsI .and .i64 (IntKind.wrap .i64 (shrI .u64 m (IntKind.wrap .i64 ((IntKind.wrap .i64 ((63 : Int) - mantBits)) + (IntKind.wrap .i64 (minExp - e)))))) (1 : Int)) h2)))) h1)))
 (fun p min max odd h2 =>
 NewW [(.int .u64 (0 : Int)), (.int .u64 (0 : Int)), (.int .i64 (0 : Int))] (fun a h3 =>
 CallT P n_internal_strconv_log2Pow10 [(.int .i64 p)] (shInt .i64) (fun r h4 =>
 Call0 P n_internal_strconv_prescale [(.pointer (some a)), (.int .i64 e), (.int .i64 p), (.int .i64 r)] (fun h5 =>
 CallT P n_internal_strconv_uscale [(.int .u64 min), (.pointer (some a))] (shInt .u64) (fun r1 h6 =>
 CallT P n_internal_strconv_unrounded_nudge [(.int .u64 r1), (.int .i64 odd)] (shInt .u64) (fun r2 h7 =>
 CallT P n_internal_strconv_unrounded_ceil [(.int .u64 r2)] (shInt .u64) (fun r3 h8 =>
 CallT P n_internal_strconv_uscale [(.int .u64 max), (.pointer (some a))] (shInt .u64) (fun r4 h9 =>
 CallT P n_internal_strconv_unrounded_nudge [(.int .u64 r4), (.int .i64 (IntKind.wrap .i64 ((0 : Int) - odd)))] (shInt .u64) (fun r5 h10 =>
 CallT P n_internal_strconv_unrounded_floor [(.int .u64 r5)] (shInt .u64) (fun r6 h11 =>
 ((10 : Int) ≠ (0 : Int) ∧ (if (decide ((IntKind.wrap .u64 ((IntKind.wrap .u64 (Int.tdiv r6 (10 : Int))) * (10 : Int))) ≥ r3)) = true then
 Q (IntKind.wrap .u64 (Int.tdiv r6 (10 : Int))) (IntKind.wrap .i64 ((0 : Int) - (IntKind.wrap .i64 (p - (1 : Int))))) h11
 else
 (if (decide (r3 < r6)) = true then
 CallT P n_internal_strconv_uscale [(.int .u64 m), (.pointer (some a))] (shInt .u64) (fun r7 h12 =>
 CallT P n_internal_strconv_unrounded_round [(.int .u64 r7)] (shInt .u64) (fun r8 h13 =>
 Q r8 (IntKind.wrap .i64 ((0 : Int) - p)) h13) h12) h11
 else
 Q r3 (IntKind.wrap .i64 ((0 : Int) - p)) h11)))) h10) h9) h8) h7) h6) h5) h4) h3) h2))

def internal_strconv_special_w (P : Program) (s : ByteArray) (Q : (Nat → (Int → (Bool → (Hp → Prop))))) (h : Hp) : Prop :=
 (if ((((ByteArray.size s) : Nat) : Int) == (0 : Int)) = true then
 Q 0 (0 : Int) false h
 else
 (((0 : Int) ≤ (0 : Int) ∧ (0 : Int) < (((ByteArray.size s) : Nat) : Int)) ∧ JoinW3 (α1 := ByteArray) (α2 := Int) (α3 := Int) (fun k =>
 JoinW1 (α1 := Bool) (fun k1 =>
 (if ((((UInt8.toNat (List.getD s.data.toList 0 0)) : Nat) : Int) == (43 : Int)) = true then
 k1 ((((UInt8.toNat (List.getD s.data.toList 0 0)) : Nat) : Int) == (43 : Int)) h
 else
 k1 ((((UInt8.toNat (List.getD s.data.toList 0 0)) : Nat) : Int) == (45 : Int)) h))
 (fun t13 h1 =>
 (if t13 = true then
 JoinW1 (α1 := Int) (fun k1 =>
 (((0 : Int) ≤ (0 : Int) ∧ (0 : Int) < (((ByteArray.size s) : Nat) : Int)) ∧ (if ((((UInt8.toNat (List.getD s.data.toList 0 0)) : Nat) : Int) == (45 : Int)) = true then
 k1 (-1 : Int) h1
 else
 k1 (1 : Int) h1)))
 (fun sign h2 =>
 (((0 : Int) ≤ (1 : Int) ∧ (1 : Int) ≤ (((ByteArray.size s) : Nat) : Int)) ∧ k (ByteArray.extract s 1 (ByteArray.size s)) sign (1 : Int) h2))
 else
 JoinW1 (α1 := Bool) (fun k1 =>
 (if ((((UInt8.toNat (List.getD s.data.toList 0 0)) : Nat) : Int) == (105 : Int)) = true then
 k1 ((((UInt8.toNat (List.getD s.data.toList 0 0)) : Nat) : Int) == (105 : Int)) h1
 else
 k1 ((((UInt8.toNat (List.getD s.data.toList 0 0)) : Nat) : Int) == (73 : Int)) h1))
 (fun t16 h2 =>
 (if t16 = true then
 k s (1 : Int) (0 : Int) h2
 else
 JoinW1 (α1 := Bool) (fun k1 =>
 (if ((((UInt8.toNat (List.getD s.data.toList 0 0)) : Nat) : Int) == (110 : Int)) = true then
 k1 ((((UInt8.toNat (List.getD s.data.toList 0 0)) : Nat) : Int) == (110 : Int)) h2
 else
 k1 ((((UInt8.toNat (List.getD s.data.toList 0 0)) : Nat) : Int) == (78 : Int)) h2))
 (fun t19 h3 =>
 (if t19 = true then
 CallT P n_internal_strconv_commonPrefixLenIgnoreCase [(.string s), (.string ⟨#[110, 97, 110]⟩)] (shInt .i64) (fun r h4 =>
 (if (r == (3 : Int)) = true then
 CallT P n_internal_strconv_nan [] (shFlt .f64) (fun r1 h5 =>
 Q r1 (3 : Int) true h5) h4
 else
 Q 0 (0 : Int) false h4)) h3
 else
 Q 0 (0 : Int) false h3)))))))
 (fun s1 sign nsign h1 =>
 CallT P n_internal_strconv_commonPrefixLenIgnoreCase [(.string s1), (.string ⟨#[105, 110, 102, 105, 110, 105, 116, 121]⟩)] (shInt .i64) (fun r h2 =>
 JoinW1 (α1 := Int) (fun k =>
 LetW ((decide ((3 : Int) < r)) && (decide (r < (8 : Int)))) fun y =>
 (if y = true then
 k (3 : Int) h2
 else
 k r h2))
 (fun n h3 =>
 LetW ((n == (3 : Int)) || (n == (8 : Int))) fun y =>
 (if y = true then
 CallT P n_internal_strconv_inf [(.int .i64 sign)] (shFlt .f64) (fun r1 h4 =>
 Q r1 (IntKind.wrap .i64 (nsign + n)) true h4) h3
 else
 Q 0 (0 : Int) false h3))) h1)))

def internal_strconv_readFloat_w (P : Program) (s : ByteArray) (Q : (Int → (Int → (Bool → (Bool → (Bool → (Int → (Bool → (Hp → Prop))))))))) (h : Hp) : Prop :=
 (if (decide ((0 : Int) ≥ (((ByteArray.size s) : Nat) : Int))) = true then
 Q (0 : Int) (0 : Int) false false false (0 : Int) false h
 else
 (((0 : Int) ≤ (0 : Int) ∧ (0 : Int) < (((ByteArray.size s) : Nat) : Int)) ∧ JoinW2 (α1 := Bool) (α2 := Int) (fun k =>
 (if ((((UInt8.toNat (List.getD s.data.toList 0 0)) : Nat) : Int) == (43 : Int)) = true then
 k false (1 : Int) h
 else
 (if ((((UInt8.toNat (List.getD s.data.toList 0 0)) : Nat) : Int) == (45 : Int)) = true then
 k true (1 : Int) h
 else
 k false (0 : Int) h)))
 (fun neg i h1 =>
 JoinW5 (α1 := Bool) (α2 := Int) (α3 := Int) (α4 := Int) (α5 := Int) (fun k =>
 (((decide ((IntKind.wrap .i64 (i + (2 : Int))) < (((ByteArray.size s) : Nat) : Int))) = true → ((0 : Int) ≤ i ∧ i < (((ByteArray.size s) : Nat) : Int))) ∧ LetW ((decide ((IntKind.wrap .i64 (i + (2 : Int))) < (((ByteArray.size s) : Nat) : Int))) && ((((UInt8.toNat (List.getD s.data.toList (Int.toNat i) 0)) : Nat) : Int) == (48 : Int))) fun y =>
 ((y = true → ((0 : Int) ≤ (IntKind.wrap .i64 (i + (1 : Int))) ∧ (IntKind.wrap .i64 (i + (1 : Int))) < (((ByteArray.size s) : Nat) : Int))) ∧ EffC (some y) (CallT P n_internal_strconv_lower [(.int .u8 (((UInt8.toNat (List.getD s.data.toList (Int.toNat (IntKind.wrap .i64 (i + (1 : Int)))) 0)) : Nat) : Int))] (shInt .u8)) (fun r h2 =>
 LetW (y && (r == (120 : Int))) fun y1 =>
 (if y1 = true then
 k true (IntKind.wrap .i64 (i + (2 : Int))) (16 : Int) (16 : Int) (112 : Int) h2
 else
 k false i (10 : Int) (19 : Int) (101 : Int) h2)) h1)))
 (fun hex i1 base maxMantDigits expChar h2 =>
 JoinW9 (α1 := Int) (α2 := Bool) (α3 := Int) (α4 := Bool) (α5 := Bool) (α6 := Bool) (α7 := Int) (α8 := Int) (α9 := Int) (fun k =>
 LoopW9 (α1 := Int) (α2 := Bool) (α3 := Int) (α4 := Bool) (α5 := Bool) (α6 := Bool) (α7 := Int) (α8 := Int) (α9 := Int) (fun again mantissa trunc i2 underscores sawdot sawdigits nd ndMant dp h3 =>
 (if (decide (i2 < (((ByteArray.size s) : Nat) : Int))) = true then
 JoinW8 (α1 := Int) (α2 := Bool) (α3 := Bool) (α4 := Bool) (α5 := Bool) (α6 := Int) (α7 := Int) (α8 := Int) (fun k1 =>
 (((0 : Int) ≤ i2 ∧ i2 < (((ByteArray.size s) : Nat) : Int)) ∧ (if (true == ((((UInt8.toNat (List.getD s.data.toList (Int.toNat i2) 0)) : Nat) : Int) == (95 : Int))) = true then
 k1 mantissa trunc true sawdot sawdigits nd ndMant dp h3
 else
 (if (true == ((((UInt8.toNat (List.getD s.data.toList (Int.toNat i2) 0)) : Nat) : Int) == (46 : Int))) = true then
 (if sawdot = true then
 k mantissa trunc i2 underscores sawdot sawdigits nd ndMant dp h3
 else
 k1 mantissa trunc underscores true sawdigits nd ndMant nd h3)
 else
 LetW ((decide ((48 : Int) ≤ (((UInt8.toNat (List.getD s.data.toList (Int.toNat i2) 0)) : Nat) : Int))) && (decide ((((UInt8.toNat (List.getD s.data.toList (Int.toNat i2) 0)) : Nat) : Int) ≤ (57 : Int)))) fun y =>
 (if (true == y) = true then
 LetW (((((UInt8.toNat (List.getD s.data.toList (Int.toNat i2) 0)) : Nat) : Int) == (48 : Int)) && (nd == (0 : Int))) fun y1 =>
 (if y1 = true then
 k1 mantissa trunc underscores sawdot true nd ndMant (IntKind.wrap .i64 (dp - (1 : Int))) h3
 else
 (if (decide (ndMant < maxMantDigits)) = true then
 k1 (IntKind.wrap .u64 ((IntKind.wrap .u64 (mantissa * base)) + (IntKind.wrap .u64 (IntKind.wrap .u8 ((((UInt8.toNat (List.getD s.data.toList (Int.toNat i2) 0)) : Nat) : Int) - (48 : Int)))))) trunc underscores sawdot true (IntKind.wrap .i64 (nd + (1 : Int))) (IntKind.wrap .i64 (ndMant + (1 : Int))) dp h3
 else
 (if ((((UInt8.toNat (List.getD s.data.toList (Int.toNat i2) 0)) : Nat) : Int) != (48 : Int)) = true then
 k1 mantissa true underscores sawdot true (IntKind.wrap .i64 (nd + (1 : Int))) ndMant dp h3
 else
 k1 mantissa trunc underscores sawdot true (IntKind.wrap .i64 (nd + (1 : Int))) ndMant dp h3)))
 else
 EffC (some (base == (16 : Int))) (CallT P n_internal_strconv_lower [(.int .u8 (((UInt8.toNat (List.getD s.data.toList (Int.toNat i2) 0)) : Nat) : Int))] (shInt .u8)) (fun r h4 =>
 LetW ((base == (16 : Int)) && (decide ((97 : Int) ≤ r))) fun y1 =>
 EffC (some y1) (CallT P n_internal_strconv_lower [(.int .u8 (((UInt8.toNat (List.getD s.data.toList (Int.toNat i2) 0)) : Nat) : Int))] (shInt .u8)) (fun r1 h5 =>
 LetW (y1 && (decide (r1 ≤ (102 : Int)))) fun y2 =>
 (if (true == y2) = true then
 (if (decide (ndMant < maxMantDigits)) = true then
 CallT P n_internal_strconv_lower [(.int .u8 (((UInt8.toNat (List.getD s.data.toList (Int.toNat i2) 0)) : Nat) : Int))] (shInt .u8) (fun r2 h6 =>
 k1 (IntKind.wrap .u64 ((IntKind.wrap .u64 (mantissa * (16 : Int))) + (IntKind.wrap .u64 (IntKind.wrap .u8 ((IntKind.wrap .u8 (r2 - (97 : Int))) + (10 : Int)))))) trunc underscores sawdot true (IntKind.wrap .i64 (nd + (1 : Int))) (IntKind.wrap .i64 (ndMant + (1 : Int))) dp h6) h5
 else
 k1 mantissa true underscores sawdot true (IntKind.wrap .i64 (nd + (1 : Int))) ndMant dp h5)
 else
 k mantissa trunc i2 underscores sawdot sawdigits nd ndMant dp h5)) h4) h3)))))
 (fun mantissa1 trunc1 underscores1 sawdot1 sawdigits1 nd1 ndMant1 dp1 h4 =>
 again mantissa1 trunc1 (IntKind.wrap .i64 (i2 + (1 : Int))) underscores1 sawdot1 sawdigits1 nd1 ndMant1 dp1 h4)
 else
 k mantissa trunc i2 underscores sawdot sawdigits nd ndMant dp h3)) (0 : Int) false i1 false false false (0 : Int) (0 : Int) (0 : Int) h2)
 (fun mantissa trunc i2 underscores sawdot sawdigits nd ndMant dp h3 =>
 (if (!sawdigits) = true then
 Q mantissa (0 : Int) neg trunc hex i2 false h3
 else
 JoinW1 (α1 := Int) (fun k =>
 (if (!sawdot) = true then
 k nd h3
 else
 k dp h3))
 (fun dp1 h4 =>
 JoinW2 (α1 := Int) (α2 := Int) (fun k =>
 (if (base == (16 : Int)) = true then
 k (IntKind.wrap .i64 (ndMant * (4 : Int))) (IntKind.wrap .i64 (dp1 * (4 : Int))) h4
 else
 k ndMant dp1 h4))
 (fun ndMant1 dp2 h5 =>
 JoinW3 (α1 := Int) (α2 := Bool) (α3 := Int) (fun k =>
 (((decide (i2 < (((ByteArray.size s) : Nat) : Int))) = true → ((0 : Int) ≤ i2 ∧ i2 < (((ByteArray.size s) : Nat) : Int))) ∧ EffC (some (decide (i2 < (((ByteArray.size s) : Nat) : Int)))) (CallT P n_internal_strconv_lower [(.int .u8 (((UInt8.toNat (List.getD s.data.toList (Int.toNat i2) 0)) : Nat) : Int))] (shInt .u8)) (fun r h6 =>
 LetW ((decide (i2 < (((ByteArray.size s) : Nat) : Int))) && (r == expChar)) fun y =>
 (if y = true then
 (if (decide ((IntKind.wrap .i64 (i2 + (1 : Int))) ≥ (((ByteArray.size s) : Nat) : Int))) = true then
 Q mantissa (0 : Int) neg trunc hex (IntKind.wrap .i64 (i2 + (1 : Int))) false h6
 else
 (((0 : Int) ≤ (IntKind.wrap .i64 (i2 + (1 : Int))) ∧ (IntKind.wrap .i64 (i2 + (1 : Int))) < (((ByteArray.size s) : Nat) : Int)) ∧ JoinW2 (α1 := Int) (α2 := Int) (fun k1 =>
 (if ((((UInt8.toNat (List.getD s.data.toList (Int.toNat (IntKind.wrap .i64 (i2 + (1 : Int)))) 0)) : Nat) : Int) == (43 : Int)) = true then
 k1 (IntKind.wrap .i64 ((IntKind.wrap .i64 (i2 + (1 : Int))) + (1 : Int))) (1 : Int) h6
 else
 (if ((((UInt8.toNat (List.getD s.data.toList (Int.toNat (IntKind.wrap .i64 (i2 + (1 : Int)))) 0)) : Nat) : Int) == (45 : Int)) = true then
 k1 (IntKind.wrap .i64 ((IntKind.wrap .i64 (i2 + (1 : Int))) + (1 : Int))) (-1 : Int) h6
 else
 k1 (IntKind.wrap .i64 (i2 + (1 : Int))) (1 : Int) h6)))
 (fun i3 esign h7 =>
 (((!(decide (i3 ≥ (((ByteArray.size s) : Nat) : Int)))) = true → ((0 : Int) ≤ i3 ∧ i3 < (((ByteArray.size s) : Nat) : Int))) ∧ LetW ((decide (i3 ≥ (((ByteArray.size s) : Nat) : Int))) || (decide ((((UInt8.toNat (List.getD s.data.toList (Int.toNat i3) 0)) : Nat) : Int) < (48 : Int)))) fun y1 =>
 (((!y1) = true → ((0 : Int) ≤ i3 ∧ i3 < (((ByteArray.size s) : Nat) : Int))) ∧ LetW (y1 || (decide ((((UInt8.toNat (List.getD s.data.toList (Int.toNat i3) 0)) : Nat) : Int) > (57 : Int)))) fun y2 =>
 (if y2 = true then
 Q mantissa (0 : Int) neg trunc hex i3 false h7
 else
 LoopW3 (α1 := Int) (α2 := Bool) (α3 := Int) (fun again i4 underscores1 e h8 =>
 (((decide (i4 < (((ByteArray.size s) : Nat) : Int))) = true → ((0 : Int) ≤ i4 ∧ i4 < (((ByteArray.size s) : Nat) : Int))) ∧ ((((decide (i4 < (((ByteArray.size s) : Nat) : Int))) && (decide ((48 : Int) ≤ (((UInt8.toNat (List.getD s.data.toList (Int.toNat i4) 0)) : Nat) : Int)))) = true → ((0 : Int) ≤ i4 ∧ i4 < (((ByteArray.size s) : Nat) : Int))) ∧ LetW ((decide ((48 : Int) ≤ (((UInt8.toNat (List.getD s.data.toList (Int.toNat i4) 0)) : Nat) : Int))) && (decide ((((UInt8.toNat (List.getD s.data.toList (Int.toNat i4) 0)) : Nat) : Int) ≤ (57 : Int)))) fun y3 =>
 ((((decide (i4 < (((ByteArray.size s) : Nat) : Int))) && (!y3)) = true → ((0 : Int) ≤ i4 ∧ i4 < (((ByteArray.size s) : Nat) : Int))) ∧ LetW (y3 || ((((UInt8.toNat (List.getD s.data.toList (Int.toNat i4) 0)) : Nat) : Int) == (95 : Int))) fun y4 =>
 LetW ((decide (i4 < (((ByteArray.size s) : Nat) : Int))) && y4) fun y5 =>
 (if y5 = true then
 JoinW2 (α1 := Bool) (α2 := Int) (fun k1 =>
 (((0 : Int) ≤ i4 ∧ i4 < (((ByteArray.size s) : Nat) : Int)) ∧ (if ((((UInt8.toNat (List.getD s.data.toList (Int.toNat i4) 0)) : Nat) : Int) == (95 : Int)) = true then
 k1 true e h8
 else
 (if (decide (e < (10000 : Int))) = true then
 (((0 : Int) ≤ i4 ∧ i4 < (((ByteArray.size s) : Nat) : Int)) ∧ k1 underscores1 (IntKind.wrap .i64 ((IntKind.wrap .i64 ((IntKind.wrap .i64 (e * (10 : Int))) + (IntKind.wrap .i64 (((UInt8.toNat (List.getD s.data.toList (Int.toNat i4) 0)) : Nat) : Int)))) - (48 : Int))) h8)
 else
 k1 underscores1 e h8))))
 (fun underscores2 e1 h9 =>
 again (IntKind.wrap .i64 (i4 + (1 : Int))) underscores2 e1 h9)
 else
 k i4 underscores1 (IntKind.wrap .i64 (dp2 + (IntKind.wrap .i64 (e * esign)))) h8))))) i3 underscores (0 : Int) h7))))))
 else
 (if (base == (16 : Int)) = true then
 Q mantissa (0 : Int) neg trunc hex i2 false h6
 else
 k i2 underscores dp2 h6))) h5))
 (fun i3 underscores1 dp3 h6 =>
 JoinW1 (α1 := Int) (fun k =>
 (if (mantissa != (0 : Int)) = true then
 k (IntKind.wrap .i64 (dp3 - ndMant1)) h6
 else
 k (0 : Int) h6))
 (fun exp h7 =>
 ((underscores1 = true → ((0 : Int) ≤ i3 ∧ i3 ≤ (((ByteArray.size s) : Nat) : Int))) ∧ EffC (some underscores1) (CallT P n_internal_strconv_underscoreOK [(.string (ByteArray.extract s 0 (Int.toNat i3)))] shBool) (fun r h8 =>
 LetW (underscores1 && (!r)) fun y =>
 (if y = true then
 Q mantissa exp neg trunc hex i3 false h8
 else
 Q mantissa exp neg trunc hex i3 true h8)) h7)))))))))))

def internal_strconv_bool2_uint64_w (P : Program) (b : Bool) (Q : (Int → (Hp → Prop))) (h : Hp) : Prop :=
 (if b = true then
 Q (1 : Int) h
 else
 Q (0 : Int) h)

def internal_strconv_atof64exact_w (P : Program) (mantissa : Int) (exp : Int) (neg : Bool) (Q : (Nat → (Bool → (Hp → Prop)))) (h : Hp) : Prop :=
 LdW none (shInt .u64) h (Addr.add ⟨6, 0, none⟩ 0) fun x =>
 ((0 : Int) ≤ x ∧ (if ((shrI .u64 mantissa x) != (0 : Int)) = true then
 Q 0 false h
 else
 SemV none P (convert 31 34 (.int .u64 mantissa)) (shFlt .f64) h fun x1 =>
 JoinW1 (α1 := Nat) (fun k =>
 (if neg = true then
 k (Op.negFloat .f64 x1) h
 else
 k x1 h))
 (fun f h1 =>
 (if (exp == (0 : Int)) = true then
 Q f true h1
 else
 LetW ((decide (exp > (0 : Int))) && (decide (exp ≤ (37 : Int)))) fun y =>
 (if y = true then
 JoinW2 (α1 := Int) (α2 := Nat) (fun k =>
 (if (decide (exp > (22 : Int))) = true then
 LdW none shSl h1 ⟨10, 0, none⟩ fun x2 =>
 ((InB x2.base x2.len (IntKind.wrap .i64 (exp - (22 : Int)))) ∧ LdW none (shFlt .f64) h1 (sat x2.base 1 (IntKind.wrap .i64 (exp - (22 : Int)))) fun x3 =>
 SemE P (binS .mul 34 (.tmp 31) (.tmp 36) (.float .f64 f) (.float .f64 x3)) (shFlt .f64) (fun r h2 =>
 k (22 : Int) r h2) h1)
 else
 k exp f h1))
 (fun exp1 f1 h2 =>
 SemV none P (binS .gtr 34 (.tmp 38) (.const (.float .f64 4831355200913801216)) (.float .f64 f1) (.float .f64 4831355200913801216)) shBool h2 fun x2 =>
 SemV (some (!x2)) P (binS .lss 34 (.tmp 41) (.const (.float .f64 14054727237768577024)) (.float .f64 f1) (.float .f64 14054727237768577024)) shBool h2 fun x3 =>
 LetW (x2 || x3) fun y1 =>
 (if y1 = true then
 Q f1 false h2
 else
 LdW none shSl h2 ⟨10, 0, none⟩ fun x4 =>
 ((InB x4.base x4.len exp1) ∧ LdW none (shFlt .f64) h2 (sat x4.base 1 exp1) fun x5 =>
 SemE P (binS .mul 34 (.tmp 44) (.tmp 48) (.float .f64 f1) (.float .f64 x5)) (shFlt .f64) (fun r h3 =>
 Q r true h3) h2)))
 else
 LetW ((decide (exp < (0 : Int))) && (decide (exp ≥ (-22 : Int)))) fun y1 =>
 (if y1 = true then
 LdW none shSl h1 ⟨10, 0, none⟩ fun x2 =>
 ((InB x2.base x2.len (IntKind.wrap .i64 ((0 : Int) - exp))) ∧ LdW none (shFlt .f64) h1 (sat x2.base 1 (IntKind.wrap .i64 ((0 : Int) - exp))) fun x3 =>
 SemE P (binS .quo 34 (.tmp 57) (.tmp 62) (.float .f64 f) (.float .f64 x3)) (shFlt .f64) (fun r h2 =>
 Q r true h2) h1)
 else
 Q f false h1))))))

def internal_strconv_bool2_int_w (P : Program) (b : Bool) (Q : (Int → (Hp → Prop))) (h : Hp) : Prop :=
 (if b = true then
 Q (1 : Int) h
 else
 Q (0 : Int) h)

def internal_strconv_skewed_w (P : Program) (e : Int) (Q : (Int → (Hp → Prop))) (h : Hp) : Prop :=
 ((0 : Int) ≤ (21 : Int) ∧ Q (shrI .i64 (IntKind.wrap .i64 ((IntKind.wrap .i64 (e * (631305 : Int))) - (261663 : Int))) (21 : Int)) h)

def internal_strconv_prescale_w (P : Program) (pre : Option Addr) (e : Int) (p : Int) (lp : Int) (Q : (Hp → Prop)) (h : Hp) : Prop :=
 (((0 : Int) ≤ (IntKind.wrap .i64 (p - (-348 : Int))) ∧ (IntKind.wrap .i64 (p - (-348 : Int))) < (696 : Int)) ∧ LdW none (shInt .u64) h (Addr.add (Addr.add ⟨11, 0, none⟩ ((Int.toNat (IntKind.wrap .i64 (p - (-348 : Int)))) * 2)) 0) fun x =>
 NilW none pre fun p1 =>
 StW h (Addr.add p1 0) [(.int .u64 x)] (fun h1 =>
 (((0 : Int) ≤ (IntKind.wrap .i64 (p - (-348 : Int))) ∧ (IntKind.wrap .i64 (p - (-348 : Int))) < (696 : Int)) ∧ LdW none (shInt .u64) h1 (Addr.add (Addr.add ⟨11, 0, none⟩ ((Int.toNat (IntKind.wrap .i64 (p - (-348 : Int)))) * 2)) 1) fun x1 =>
 NilW none pre fun p2 =>
 StW h1 (Addr.add p2 1) [(.int .u64 x1)] (fun h2 =>
 NilW none pre fun p3 =>
 StW h2 (Addr.add p3 2) [(.int .i64 (IntKind.wrap .i64 ((0 : Int) - (IntKind.wrap .i64 ((IntKind.wrap .i64 (e + lp)) + (3 : Int))))))] (fun h3 =>
 Q h3)))))

def internal_strconv_log2Pow10_w (P : Program) (x : Int) (Q : (Int → (Hp → Prop))) (h : Hp) : Prop :=
 ((0 : Int) ≤ (15 : Int) ∧ Q (shrI .i64 (IntKind.wrap .i64 (x * (108853 : Int))) (15 : Int)) h)

def internal_strconv_uscale_w (P : Program) (x : Int) (c : Option Addr) (Q : (Int → (Hp → Prop))) (h : Hp) : Prop :=
 NilW none c fun p =>
 LdW none (shInt .u64) h (Addr.add p 0) fun x1 =>
 Call2 P n_math_bits_Mul64 [(.int .u64 x), (.int .u64 x1)] (shInt .u64) (shInt .u64) (fun r r1 h1 =>
 NilW none c fun p1 =>
 LdW none (shInt .i64) h1 (Addr.add p1 2) fun x2 =>
 ((0 : Int) ≤ (bitsI .and .i64 x2 (63 : Int)) ∧ ((0 : Int) ≤ (bitsI .and .i64 x2 (63 : Int)) ∧ (if ((shlI .u64 (shrI .u64 r (bitsI .and .i64 x2 (63 : Int))) (bitsI .and .i64 x2 (63 : Int))) != r) = true then
 ((0 : Int) ≤ (bitsI .and .i64 x2 (63 : Int)) ∧ Q (bitsI .or .u64 (shrI .u64 r (bitsI .and .i64 x2 (63 : Int))) (1 : Int)) h1)
 else
 NilW none c fun p2 =>
 LdW none (shInt .u64) h1 (Addr.add p2 1) fun x3 =>
 Call2 P n_math_bits_Mul64 [(.int .u64 x), (.int .u64 x3)] (shInt .u64) (shInt .u64) (fun r2 r3 h2 =>
 CallT P n_internal_strconv_bool2_uint64 [(.bool (decide (r1 < r2)))] (shInt .u64) (fun r4 h3 =>
 ((0 : Int) ≤ (bitsI .and .i64 x2 (63 : Int)) ∧ CallT P n_internal_strconv_bool2_uint64 [(.bool (decide ((IntKind.wrap .u64 (r1 - r2)) > (1 : Int))))] (shInt .u64) (fun r5 h4 =>
 Q (bitsI .or .u64 (shrI .u64 (IntKind.wrap .u64 (r - r4)) (bitsI .and .i64 x2 (63 : Int))) r5) h4) h3)) h2) h1)))) h

def internal_strconv_unrounded_nudge_w (P : Program) (u : Int) (x : Int) (Q : (Int → (Hp → Prop))) (h : Hp) : Prop :=
 Q (IntKind.wrap .u64 (u + (IntKind.wrap .u64 x))) h

def internal_strconv_unrounded_ceil_w (P : Program) (u : Int) (Q : (Int → (Hp → Prop))) (h : Hp) : Prop :=
 ((0 : Int) ≤ (2 : Int) ∧ Q (shrI .u64 (IntKind.wrap .u64 (u + (3 : Int))) (2 : Int)) h)

def internal_strconv_unrounded_floor_w (P : Program) (u : Int) (Q : (Int → (Hp → Prop))) (h : Hp) : Prop :=
 ((0 : Int) ≤ (2 : Int) ∧ Q (shrI .u64 (IntKind.wrap .u64 (u + (0 : Int))) (2 : Int)) h)

def internal_strconv_unrounded_round_w (P : Program) (u : Int) (Q : (Int → (Hp → Prop))) (h : Hp) : Prop :=
 ((0 : Int) ≤ (2 : Int) ∧ ((0 : Int) ≤ (2 : Int) ∧ Q (shrI .u64 (IntKind.wrap .u64 ((IntKind.wrap .u64 (u + (1 : Int))) + (bitsI .and .u64 (shrI .u64 u (2 : Int)) (1 : Int)))) (2 : Int)) h))

def internal_strconv_commonPrefixLenIgnoreCase_w (P : Program) (s : ByteArray) (prefix_ : ByteArray) (Q : (Int → (Hp → Prop))) (h : Hp) : Prop :=
 LoopW1 (α1 := Int) (fun again i h1 =>
 (if (decide (i < (min2I (((ByteArray.size prefix_) : Nat) : Int) (((ByteArray.size s) : Nat) : Int)))) = true then
 (((0 : Int) ≤ i ∧ i < (((ByteArray.size s) : Nat) : Int)) ∧ JoinW1 (α1 := Int) (fun k =>
 LetW ((decide ((65 : Int) ≤ (((UInt8.toNat (List.getD s.data.toList (Int.toNat i) 0)) : Nat) : Int))) && (decide ((((UInt8.toNat (List.getD s.data.toList (Int.toNat i) 0)) : Nat) : Int) ≤ (90 : Int)))) fun y =>
 (if y = true then
 k (IntKind.wrap .u8 ((((UInt8.toNat (List.getD s.data.toList (Int.toNat i) 0)) : Nat) : Int) + (32 : Int))) h1
 else
 k (((UInt8.toNat (List.getD s.data.toList (Int.toNat i) 0)) : Nat) : Int) h1))
 (fun c h2 =>
 (((0 : Int) ≤ i ∧ i < (((ByteArray.size prefix_) : Nat) : Int)) ∧ (if (c != (((UInt8.toNat (List.getD prefix_.data.toList (Int.toNat i) 0)) : Nat) : Int)) = true then
 Q i h2
 else
 again (IntKind.wrap .i64 (i + (1 : Int))) h2))))
 else
 Q (min2I (((ByteArray.size prefix_) : Nat) : Int) (((ByteArray.size s) : Nat) : Int)) h1)) (0 : Int) h

end Lf

/-
  By program: how the functions are cut.
-/
set_option maxRecDepth 100000
namespace Lf
open Go

def firebreaklaw05_FltNames_p : List Nat := []
def firebreaklaw05_FltNames_a : Ann := .tt
def firebreaklaw05_FltDoes_p : List Nat := []
def firebreaklaw05_FltDoes_a : Ann := (.sq .tt (.sq .tt (.sq .tt (.sq .tt (.sq (.sq .tt (.bk (.lp [⟨false, 11, 3⟩] [] .tt))) .tt)))))
def firebreaklaw05_FltFollows_p : List Nat := []
def firebreaklaw05_FltFollows_a : Ann := (.sq .tt (.sq .tt (.sq .tt (.sq (.sq .tt (.bk (.lp [⟨false, 56, 3⟩] [] .tt))) .tt))))
def firebreaklaw05_FltWhole_p : List Nat := []
def firebreaklaw05_FltWhole_a : Ann := (.sq .tt (.sq .tt (.sq .tt (.sq .tt (.sq .tt (.jn [⟨false, 8, 31⟩] [] .tt .tt))))))
def firebreaklaw05_fixed_p : List Nat := []
def firebreaklaw05_fixed_a : Ann := .tt
def flt_Do_p : List Nat := []
def flt_Do_a : Ann := .tt
def firebreakref05_Do_p : List Nat := []
def firebreakref05_Do_a : Ann := .tt
def firebreaklaw05_do_p : List Nat := []
def firebreaklaw05_do_a : Ann := .tt
def firebreaklaw05_isNaN_p : List Nat := []
def firebreaklaw05_isNaN_a : Ann := .tt
def flt_Parse_p : List Nat := []
def flt_Parse_a : Ann := (.sq .tt (.sq .tt (.sq .tt (.jn [⟨false, 4, 31⟩] [] .tt .tt))))
def flt_Print_p : List Nat := []
def flt_Print_a : Ann := .tt
def flt_float_p : List Nat := []
def flt_float_a : Ann := .tt
def flt_bits_p : List Nat := []
def flt_bits_a : Ann := .tt
def flt_whole_p : List Nat := []
def flt_whole_a : Ann := .tt
def firebreakref05_add_p : List Nat := []
def firebreakref05_add_a : Ann := .tt
def firebreakref05_isNaN_p : List Nat := []
def firebreakref05_isNaN_a : Ann := .tt
def firebreakref05_mul_p : List Nat := []
def firebreakref05_mul_a : Ann := .tt
def firebreakref05_div_p : List Nat := []
def firebreakref05_div_a : Ann := (.sq .tt (.sq .tt (.sq .tt (.sq .tt (.sq .tt (.sq .tt (.sq .tt (.sq .tt (.sq .tt (.sq .tt (.sq .tt (.sq (.sq .tt (.bk (.lp [⟨false, 12, 62⟩, ⟨false, 13, 62⟩, ⟨false, 14, 3⟩] [] (.sq .tt (.sq (.bj [⟨false, 12, 62⟩, ⟨false, 13, 62⟩] [] .tt) .tt))))) .tt))))))))))))
def firebreakref05_below_p : List Nat := []
def firebreakref05_below_a : Ann := .tt
def firebreakref05_float_p : List Nat := []
def firebreakref05_float_a : Ann := .tt
def firebreakref05_whole_p : List Nat := []
def firebreakref05_whole_a : Ann := (.sq .tt (.sq .tt (.sq .tt (.sq .tt (.sq .tt (.sq .tt (.sq (.sq .tt (.bk (.lp [⟨false, 6, 31⟩, ⟨false, 7, 3⟩] [] .tt))) (.sq (.sq .tt (.bk (.lp [⟨false, 6, 31⟩, ⟨false, 8, 3⟩] [] .tt))) .tt))))))))
def strings_CutPrefix_p : List Nat := []
def strings_CutPrefix_a : Ann := .tt
def strconv_ParseFloat_p : List Nat := []
def strconv_ParseFloat_a : Ann := .tt
def strings_Cut_p : List Nat := []
def strings_Cut_a : Ann := .tt
def strconv_FormatFloat_p : List Nat := []
def strconv_FormatFloat_a : Ann := .tt
def strconv_Atoi_p : List Nat := []
def strconv_Atoi_a : Ann := .tt
def strconv_Itoa_p : List Nat := []
def strconv_Itoa_a : Ann := .tt
def firebreakref05_parts_p : List Nat := []
def firebreakref05_parts_a : Ann := .tt
def firebreakref05_shift_p : List Nat := []
def firebreakref05_shift_a : Ann := (.sq .tt (.sq .tt (.sq .tt (.sq (.sq .tt (.bk (.lp [⟨false, 5, 62⟩, ⟨false, 6, 3⟩] [] .tt))) .tt))))
def firebreakref05_of_p : List Nat := []
def firebreakref05_of_a : Ann := .tt
def firebreakref05_rounded_p : List Nat := []
def firebreakref05_rounded_a : Ann := (.sq .tt (.sq .tt (.sq .tt (.sq .tt (.jn [⟨false, 10, 31⟩] [] .tt .tt)))))
def firebreakref05_sum_p : List Nat := []
def firebreakref05_sum_a : Ann := (.sq .tt (.sq .tt (.sq .tt (.sq (.sq .tt (.bk (.lp [⟨false, 5, 62⟩, ⟨false, 6, 31⟩, ⟨false, 7, 3⟩] [] (.sq .tt (.sq (.bk (.jn [⟨false, 6, 31⟩] [] .tt (.jn [⟨false, 6, 31⟩] [] .tt .tt))) .tt))))) .tt))))
def firebreakref05_compare_p : List Nat := []
def firebreakref05_compare_a : Ann := (.sq .tt (.sq .tt (.sq (.sq .tt (.bk (.lp [⟨false, 5, 3⟩] [] (.sq .tt (.sq (.bk (.sq (.sq (.rg [(0, []), (1, []), (2, []), (3, []), (4, []), (5, []), (6, []), (7, []), (8, [])]) .tt) (.sq (.rg [(0, []), (1, []), (2, []), (3, []), (4, []), (5, []), (6, []), (7, []), (8, [])]) .tt))) .tt))))) .tt)))
def firebreakref05_less_p : List Nat := []
def firebreakref05_less_a : Ann := (.sq .tt (.sq .tt (.sq .tt (.sq (.sq .tt (.bk (.lp [⟨false, 5, 62⟩, ⟨false, 6, 2⟩, ⟨false, 7, 3⟩] [] (.sq .tt (.sq (.bk (.sq .tt (.jn [⟨false, 6, 2⟩] [] .tt .tt))) .tt))))) .tt))))
def firebreakref05_product_p : List Nat := []
def firebreakref05_product_a : Ann := .tt
def firebreakref05_times_p : List Nat := []
def firebreakref05_times_a : Ann := (.sq .tt (.sq .tt (.sq .tt (.sq (.sq .tt (.bk (.lp [⟨false, 5, 62⟩, ⟨false, 6, 31⟩, ⟨false, 7, 3⟩] [] .tt))) .tt))))
def internal_stringslite_CutPrefix_p : List Nat := []
def internal_stringslite_CutPrefix_a : Ann := .tt
def internal_strconv_ParseFloat_p : List Nat := []
def internal_strconv_ParseFloat_a : Ann := .tt
def internal_stringslite_Cut_p : List Nat := []
def internal_stringslite_Cut_a : Ann := (.sq .tt (.sq (.sq .tt (.sq .tt (.sq (.sq (.rg [(0, []), (1, []), (2, []), (3, []), (4, []), (5, []), (6, []), (7, []), (8, []), (9, []), (10, []), (11, [])]) .tt) .tt))) .tt))
def internal_strconv_FormatFloat_p : List Nat := []
def internal_strconv_FormatFloat_a : Ann := .tt
def internal_strconv_Atoi_p : List Nat := []
def internal_strconv_Atoi_a : Ann := (.sq .tt (.sq .tt (.sq (.sq .tt (.sq (.sq .tt (.jn [⟨false, 0, 9⟩] [] .tt (.sq .tt (.sq (.sq .tt (.bk (.lp [⟨false, 6, 3⟩, ⟨false, 49, 3⟩] [] .tt))) .tt)))) .tt)) .tt)))
def internal_strconv_Itoa_p : List Nat := []
def internal_strconv_Itoa_a : Ann := .tt
def firebreakref05_trim_p : List Nat := []
def firebreakref05_trim_a : Ann := (.sq .tt (.sq (.bk (.lp [⟨false, 0, 62⟩] [] .tt)) .tt))
def firebreakref05_bits_p : List Nat := []
def firebreakref05_bits_a : Ann := (.sq .tt (.sq .tt (.sq .tt (.sq (.sq .tt (.bk (.lp [⟨false, 3, 3⟩, ⟨false, 4, 70⟩] [] .tt))) .tt))))
def firebreakref05_small_p : List Nat := []
def firebreakref05_small_a : Ann := (.sq .tt (.sq .tt (.sq (.sq .tt (.bk (.lp [⟨false, 3, 31⟩, ⟨false, 4, 3⟩] [] .tt))) .tt)))
def firebreakref05_low_p : List Nat := []
def firebreakref05_low_a : Ann := (.sq .tt (.sq .tt (.sq .tt (.sq (.sq .tt (.bk (.lp [⟨false, 8, 3⟩] [] (.sq .tt (.sq (.bk (.sq .tt (.sq .tt (.sq .tt (.jn [⟨false, 10, 105⟩, ⟨false, 11, 3⟩] [] .tt (.jn [] [] .tt (.rg [(0, []), (1, []), (2, []), (3, []), (4, []), (5, []), (6, []), (7, []), (8, []), (9, []), (10, []), (11, []), (12, []), (13, [])]))))))) .tt))))) (.sq (.rg [(0, []), (2, []), (1, [2]), (3, []), (4, []), (5, [])]) .tt)))))
def internal_stringslite_HasPrefix_p : List Nat := []
def internal_stringslite_HasPrefix_a : Ann := .tt
def internal_strconv_lower_p : List Nat := []
def internal_strconv_lower_a : Ann := .tt
def internal_strconv_parseFloatPrefix_p : List Nat := []
def internal_strconv_parseFloatPrefix_a : Ann := .tt
def internal_stringslite_Index_p : List Nat := []
def internal_stringslite_Index_a : Ann := (.sq .tt (.sq .tt (.sq .tt (.sq .tt (.sq .tt (.sq .tt (.sq .tt (.sq .tt (.sq (.bk (.lp [⟨false, 8, 3⟩, ⟨false, 10, 3⟩] [] (.sq .tt (.bk (.jn [⟨false, 8, 3⟩] [] .tt .tt))))) .tt)))))))))
def internal_strconv_ftoa64_p : List Nat := []
def internal_strconv_ftoa64_a : Ann := (.sq .tt (.sq .tt (.sq .tt (.sq (.bj [⟨false, 9, 31⟩, ⟨false, 10, 3⟩, ⟨false, 11, 3⟩, ⟨false, 12, 3⟩] [] .tt) (.sq .tt (.sq (.rg [(0, []), (1, []), (2, []), (3, []), (4, []), (5, []), (6, []), (7, []), (8, [])]) (.sq .tt (.sq .tt (.jn [⟨false, 14, 3⟩, ⟨false, 15, 31⟩] [] .tt (.sq .tt (.sq .tt (.sq .tt (.sq .tt (.sq (.sq .tt (.sq (.sq .tt (.sq .tt (.sq .tt (.sq .tt (.sq .tt (.sq (.rg [(0, []), (1, []), (2, []), (3, []), (4, []), (5, []), (6, []), (7, []), (8, []), (9, []), (10, [])]) (.sq (.sq .tt (.bj [⟨false, 3, 3⟩] [] (.jn [⟨false, 149, 4⟩] [] .tt (.sq .tt (.sq .tt (.sq .tt (.jn [⟨false, 161, 4⟩] [] .tt .tt))))))) .tt))))))) .tt)) (.jn [⟨false, 3, 3⟩] [] (.sq .tt (.sq (.sq .tt (.sq (.sq .tt (.bj [⟨false, 3, 3⟩, ⟨false, 24, 3⟩] [] (.sq .tt (.sq .tt (.jn [⟨false, 192, 4⟩] [] .tt (.sq .tt (.jn [⟨false, 197, 4⟩] [] .tt (.sq (.jn [⟨false, 3, 3⟩] [] .tt .tt) .tt)))))))) (.sq .tt (.sq (.sq .tt (.sq .tt (.jn [⟨false, 26, 3⟩, ⟨false, 27, 3⟩] [] (.sq .tt (.sq (.sq .tt (.sq .tt (.sq .tt (.sq .tt (.sq .tt (.sq (.rg [(0, []), (1, []), (2, []), (3, []), (4, []), (5, []), (6, []), (7, []), (8, []), (9, []), (10, [])]) .tt)))))) .tt)) .tt))) .tt)))) .tt)) (.sq .tt (.sq .tt (.sq .tt (.sq (.sq .tt (.bj [⟨false, 3, 3⟩] [] (.jn [⟨false, 256, 4⟩] [] .tt (.sq .tt (.sq .tt (.sq .tt (.jn [⟨false, 273, 4⟩] [] .tt (.sq (.jn [⟨false, 3, 3⟩] [] .tt .tt) .tt)))))))) (.sq (.rg [(0, []), (1, []), (2, []), (3, []), (4, []), (5, []), (6, []), (7, []), (8, []), (9, []), (10, []), (11, []), (12, []), (13, []), (14, []), (15, []), (16, []), (17, [])]) .tt))))))))))))))))))))
def internal_strconv_FormatInt_p : List Nat := []
def internal_strconv_FormatInt_a : Ann := (.sq .tt (.sq (.sq .tt (.sq (.sq .tt (.sq .tt (.sq .tt (.jn [⟨false, 6, 31⟩] [] .tt .tt)))) .tt)) .tt))
def internal_strconv_atof64_p : List Nat := []
def internal_strconv_atof64_a : Ann := (.sq .tt (.sq .tt (.sq .tt (.sq .tt (.sq .tt (.jn [⟨false, 3, 3⟩, ⟨false, 4, 45⟩] [] (.sq .tt (.sq (.sq .tt (.sq .tt (.sq .tt (.sq .tt (.jn [⟨false, 3, 3⟩, ⟨false, 4, 45⟩] [] .tt .tt))))) .tt)) .tt))))))
def internal_strconv_small_p : List Nat := []
def internal_strconv_small_a : Ann := .tt
def internal_strconv_numDigits_p : List Nat := []
def internal_strconv_numDigits_a : Ann := .tt
def internal_strconv_formatBase10_p : List Nat := []
def internal_strconv_formatBase10_a : Ann := (.sq .tt (.sq (.bk (.lp [⟨false, 1, 31⟩, ⟨false, 4, 3⟩] [] (.sq .tt (.bk (.sq .tt (.sq .tt (.sq .tt (.sq .tt (.sq .tt (.sq (.rg [(0, []), (1, []), (2, []), (3, []), (4, []), (5, []), (6, []), (7, []), (8, []), (9, []), (10, []), (11, []), (12, []), (13, []), (14, [])]) (.sq (.rg [(0, []), (1, []), (2, []), (3, []), (4, []), (5, []), (6, []), (7, []), (8, []), (9, []), (10, []), (11, []), (12, []), (13, []), (14, [])]) (.sq (.rg [(0, []), (1, []), (2, []), (3, []), (4, []), (5, []), (6, []), (7, []), (8, []), (9, []), (10, []), (11, []), (12, []), (13, []), (14, [])]) (.sq (.rg [(0, []), (1, []), (2, []), (3, []), (4, []), (5, []), (6, []), (7, []), (8, []), (9, []), (10, []), (11, []), (12, []), (13, []), (14, [])]) .tt))))))))))))) (.sq .tt (.jn [⟨false, 4, 3⟩, ⟨false, 12, 70⟩] [] (.sq .tt (.sq (.sq .tt (.sq .tt (.sq .tt (.sq (.rg [(0, []), (1, []), (2, []), (3, []), (4, []), (5, []), (6, []), (7, []), (8, []), (9, []), (10, []), (11, []), (12, []), (13, []), (14, [])]) (.sq (.rg [(0, []), (1, []), (2, []), (3, []), (4, []), (5, []), (6, []), (7, []), (8, []), (9, []), (10, []), (11, []), (12, []), (13, []), (14, [])]) .tt))))) .tt)) (.jn [⟨false, 4, 3⟩, ⟨false, 12, 70⟩] [] (.sq .tt (.sq (.sq .tt (.sq .tt (.sq (.rg [(0, []), (1, []), (2, []), (3, []), (4, []), (5, []), (6, []), (7, []), (8, []), (9, []), (10, []), (11, []), (12, []), (13, []), (14, [])]) .tt))) .tt)) .tt)))))
def math_bits_Mul64_p : List Nat := []
def math_bits_Mul64_a : Ann := .tt
def internal_stringslite_IndexByte_p : List Nat := []
def internal_stringslite_IndexByte_a : Ann := .tt
def internal_strconv_fmtEFG_p : List Nat := []
def internal_strconv_fmtEFG_a : Ann := (.sq .tt (.jn [⟨false, 5, 3⟩, ⟨false, 6, 5⟩] [] (.sq .tt (.sq (.sq .tt (.jn [⟨false, 17, 3⟩] [] .tt (.jn [⟨false, 17, 3⟩] [] .tt (.sq .tt (.sq .tt (.sq (.jn [⟨false, 5, 3⟩] [] .tt .tt) (.jn [⟨false, 5, 3⟩] [] .tt .tt))))))) .tt)) (.sq (.sq .tt (.bk (.jn [⟨false, 75, 4⟩] [] .tt (.sq (.jn [⟨false, 0, 83⟩] [] .tt (.sq .tt (.jn [⟨false, 19, 5⟩] [] .tt (.sq .tt (.jn [⟨false, 0, 83⟩] [] (.sq .tt (.sq (.sq .tt (.sq .tt (.sq .tt (.jn [⟨false, 0, 83⟩, ⟨false, 20, 3⟩] [] .tt (.sq .tt (.bk (.lp [⟨false, 0, 83⟩, ⟨false, 114, 3⟩] [] .tt))))))) .tt)) (.sq .tt (.sq .tt (.jn [⟨false, 22, 3⟩] [] .tt (.jn [⟨false, 19, 5⟩, ⟨false, 22, 3⟩] [] .tt .tt))))))))) (.sq .tt (.sq (.jn [⟨false, 0, 83⟩] [] .tt (.jn [⟨false, 0, 83⟩] [] (.sq .tt (.sq (.sq .tt (.sq (.sq .tt (.bk (.lp [⟨false, 0, 83⟩, ⟨false, 191, 3⟩] [] .tt))) (.sq .tt (.bk (.lp [⟨false, 0, 83⟩, ⟨false, 203, 3⟩] [] .tt))))) .tt)) (.sq (.sq .tt (.sq (.sq .tt (.sq .tt (.sq .tt (.sq .tt (.sq .tt (.sq (.sq .tt (.bk (.lp [⟨false, 0, 83⟩, ⟨false, 240, 3⟩] [] .tt))) (.sq (.sq .tt (.bk (.lp [⟨false, 0, 83⟩, ⟨false, 247, 3⟩] [] .tt))) (.sq .tt (.bk (.lp [⟨false, 0, 83⟩, ⟨false, 261, 3⟩] [] .tt)))))))))) .tt)) .tt))) .tt)))))) .tt)))
def math_bits_Len64_p : List Nat := []
def math_bits_Len64_a : Ann := (.sq .tt (.jn [⟨false, 0, 31⟩, ⟨false, 2, 3⟩] [] .tt (.jn [⟨false, 0, 31⟩, ⟨false, 2, 3⟩] [] .tt .tt)))
def internal_strconv_setDigits_p : List Nat := []
def internal_strconv_setDigits_a : Ann := (.sq .tt (.sq (.sq .tt (.sq (.sq .tt (.sq .tt (.bk (.lp [⟨false, 3, 3⟩] [] .tt)))) .tt)) .tt))
def internal_strconv_log10Pow2_p : List Nat := []
def internal_strconv_log10Pow2_a : Ann := .tt
def internal_strconv_shortFloat_float64_p : List Nat := []
def internal_strconv_shortFloat_float64_a : Ann := (.sq .tt (.sq .tt (.sq (.sq .tt (.bj [⟨false, 6, 3⟩, ⟨false, 7, 3⟩] [] .tt)) (.sq .tt (.sq .tt (.sq .tt (.jn [⟨false, 5, 3⟩, ⟨false, 8, 31⟩, ⟨false, 9, 31⟩, ⟨false, 10, 3⟩] [] .tt .tt)))))))
def internal_strconv_special_p : List Nat := []
def internal_strconv_special_a : Ann := (.sq .tt (.sq .tt (.sq .tt (.sq .tt (.sq (.sq .tt (.bk (.sq (.bk (.sq (.bj [⟨false, 0, 9⟩, ⟨false, 5, 3⟩, ⟨false, 6, 3⟩] [] (.sq (.bk (.sq (.sq (.jn [⟨false, 13, 4⟩] [] .tt .tt) (.sq (.jn [⟨false, 16, 4⟩] [] .tt .tt) (.jn [⟨false, 19, 4⟩] [] .tt .tt))) .tt)) (.jn [⟨false, 5, 3⟩] [] .tt .tt))) (.sq (.sq .tt (.jn [⟨false, 7, 3⟩] [] .tt .tt)) .tt))) .tt))) .tt)))))
def internal_strconv_readFloat_p : List Nat := []
def internal_strconv_readFloat_a : Ann := (.sq .tt (.sq .tt (.sq .tt (.sq (.sq .tt (.bj [⟨false, 4, 4⟩, ⟨false, 7, 3⟩] [] .tt)) (.sq .tt (.sq .tt (.sq .tt (.jn [⟨false, 6, 4⟩, ⟨false, 7, 3⟩, ⟨false, 10, 31⟩, ⟨false, 11, 3⟩, ⟨false, 12, 5⟩] [] .tt (.sq .tt (.sq .tt (.sq .tt (.sq .tt (.sq .tt (.sq .tt (.sq (.bj [⟨false, 2, 31⟩, ⟨false, 5, 4⟩, ⟨false, 7, 3⟩, ⟨false, 9, 4⟩, ⟨false, 13, 4⟩, ⟨false, 14, 4⟩, ⟨false, 15, 3⟩, ⟨false, 16, 3⟩, ⟨false, 17, 3⟩] [] (.lp [⟨false, 2, 31⟩, ⟨false, 5, 4⟩, ⟨false, 7, 3⟩, ⟨false, 9, 4⟩, ⟨false, 13, 4⟩, ⟨false, 14, 4⟩, ⟨false, 15, 3⟩, ⟨false, 16, 3⟩, ⟨false, 17, 3⟩] [] (.sq .tt (.sq (.bj [⟨false, 2, 31⟩, ⟨false, 5, 4⟩, ⟨false, 9, 4⟩, ⟨false, 13, 4⟩, ⟨false, 14, 4⟩, ⟨false, 15, 3⟩, ⟨false, 16, 3⟩, ⟨false, 17, 3⟩] [] .tt) .tt)))) (.sq .tt (.jn [⟨false, 17, 3⟩] [] .tt (.jn [⟨false, 16, 3⟩, ⟨false, 17, 3⟩] [] .tt (.jn [⟨false, 7, 3⟩, ⟨false, 9, 4⟩, ⟨false, 17, 3⟩] [] (.sq .tt (.sq (.sq .tt (.sq .tt (.sq .tt (.sq (.sq .tt (.bj [⟨false, 7, 3⟩, ⟨false, 19, 3⟩] [] .tt)) (.sq .tt (.sq .tt (.sq (.bk (.lp [⟨false, 7, 3⟩, ⟨false, 9, 4⟩, ⟨false, 20, 3⟩] [] (.sq .tt (.sq (.bj [⟨false, 9, 4⟩, ⟨false, 20, 3⟩] [] .tt) .tt)))) .tt))))))) .tt)) (.jn [⟨false, 3, 3⟩] [] .tt .tt))))))))))))))))))))
def internal_strconv_bool2_uint64_p : List Nat := []
def internal_strconv_bool2_uint64_a : Ann := .tt
def internal_strconv_atof64exact_p : List Nat := []
def internal_strconv_atof64exact_a : Ann := (.sq .tt (.sq .tt (.sq .tt (.jn [⟨false, 6, 34⟩] [] .tt (.sq (.bk (.sq .tt (.sq .tt (.sq .tt (.sq (.jn [⟨false, 1, 3⟩, ⟨false, 6, 34⟩] [] .tt .tt) .tt))))) .tt)))))
def internal_strconv_bool2_int_p : List Nat := []
def internal_strconv_bool2_int_a : Ann := .tt
def internal_strconv_skewed_p : List Nat := []
def internal_strconv_skewed_a : Ann := .tt
def internal_strconv_prescale_p : List Nat := []
def internal_strconv_prescale_a : Ann := .tt
def internal_strconv_log2Pow10_p : List Nat := []
def internal_strconv_log2Pow10_a : Ann := .tt
def internal_strconv_uscale_p : List Nat := []
def internal_strconv_uscale_a : Ann := (.sq .tt (.sq .tt (.sq .tt (.sq .tt (.sq .tt (.sq .tt (.sq (.rg [(0, []), (1, []), (2, []), (3, []), (4, []), (5, []), (6, []), (7, []), (8, []), (9, [])]) .tt)))))))
def internal_strconv_unrounded_nudge_p : List Nat := []
def internal_strconv_unrounded_nudge_a : Ann := .tt
def internal_strconv_unrounded_ceil_p : List Nat := []
def internal_strconv_unrounded_ceil_a : Ann := .tt
def internal_strconv_unrounded_floor_p : List Nat := []
def internal_strconv_unrounded_floor_a : Ann := .tt
def internal_strconv_unrounded_round_p : List Nat := []
def internal_strconv_unrounded_round_a : Ann := .tt
def internal_strconv_commonPrefixLenIgnoreCase_p : List Nat := []
def internal_strconv_commonPrefixLenIgnoreCase_a : Ann := (.sq .tt (.sq .tt (.sq (.sq .tt (.bk (.lp [⟨false, 6, 3⟩] [] (.sq .tt (.sq (.bk (.sq .tt (.jn [⟨false, 7, 5⟩] [] .tt .tt))) .tt))))) .tt)))
end Lf

/-
  By program: what is told of the types is so of the program.
-/
set_option maxRecDepth 100000
namespace Lf
open Go Go.Proofs

theorem nth_none {α : Type _} {l : List α} {i : Nat} (h : l.length ≤ i) : nth l i = none := by rw [nth_get]; exact List.getElem?_eq_none h

theorem tyAll {p : Nat → Ty → Prop} (h0 : p 0 ty0) (h2 : p 2 ty2) (h3 : p 3 ty3) (h4 : p 4 ty4) (h5 : p 5 ty5) (h9 : p 9 ty9) (h12 : p 12 ty12) (h20 : p 20 ty20) (h21 : p 21 ty21) (h23 : p 23 ty23) (h24 : p 24 ty24) (h29 : p 29 ty29) (h31 : p 31 ty31) (h34 : p 34 ty34) (h42 : p 42 ty42) (h45 : p 45 ty45) (h46 : p 46 ty46) (h48 : p 48 ty48) (h52 : p 52 ty52) (h55 : p 55 ty55) (h59 : p 59 ty59) (h62 : p 62 ty62) (h70 : p 70 ty70) (h74 : p 74 ty74) (h78 : p 78 ty78) (h81 : p 81 ty81) (h83 : p 83 ty83) (h85 : p 85 ty85) (h88 : p 88 ty88) (h90 : p 90 ty90) (h92 : p 92 ty92) (h94 : p 94 ty94) (h100 : p 100 ty100) (h102 : p 102 ty102) (h105 : p 105 ty105) (h108 : p 108 ty108) (h110 : p 110 ty110) (h113 : p 113 ty113) (h116 : p 116 ty116) (h118 : p 118 ty118) (h120 : p 120 ty120) (h122 : p 122 ty122) (h129 : p 129 ty129) (h131 : p 131 ty131) (h134 : p 134 ty134) (h135 : p 135 ty135) (h137 : p 137 ty137) (h139 : p 139 ty139) (h141 : p 141 ty141) (h142 : p 142 ty142) (h144 : p 144 ty144) (h147 : p 147 ty147) (h149 : p 149 ty149) (h152 : p 152 ty152) (h154 : p 154 ty154) (h156 : p 156 ty156) (h159 : p 159 ty159) (h163 : p 163 ty163) (h164 : p 164 ty164) (h167 : p 167 ty167) (h174 : p 174 ty174) (h176 : p 176 ty176) (h177 : p 177 ty177) (h187 : p 187 ty187) (h189 : p 189 ty189) (h190 : p 190 ty190) (h194 : p 194 ty194) (h195 : p 195 ty195) (h198 : p 198 ty198) (h199 : p 199 ty199) (h201 : p 201 ty201) : ∀ t e, tyAt t = some e → p t e := by
  intro t e h
  by_cases hlt : t < 208
  · match t, hlt, h with
    | 0, _, h => exact Option.some.inj (show some ty0 = some e from h) ▸ h0
    | 1, _, h => exact absurd (show (none : Option Ty) = some e from h) (by simp)
    | 2, _, h => exact Option.some.inj (show some ty2 = some e from h) ▸ h2
    | 3, _, h => exact Option.some.inj (show some ty3 = some e from h) ▸ h3
    | 4, _, h => exact Option.some.inj (show some ty4 = some e from h) ▸ h4
    | 5, _, h => exact Option.some.inj (show some ty5 = some e from h) ▸ h5
    | 6, _, h => exact absurd (show (none : Option Ty) = some e from h) (by simp)
    | 7, _, h => exact absurd (show (none : Option Ty) = some e from h) (by simp)
    | 8, _, h => exact absurd (show (none : Option Ty) = some e from h) (by simp)
    | 9, _, h => exact Option.some.inj (show some ty9 = some e from h) ▸ h9
    | 10, _, h => exact absurd (show (none : Option Ty) = some e from h) (by simp)
    | 11, _, h => exact absurd (show (none : Option Ty) = some e from h) (by simp)
    | 12, _, h => exact Option.some.inj (show some ty12 = some e from h) ▸ h12
    | 13, _, h => exact absurd (show (none : Option Ty) = some e from h) (by simp)
    | 14, _, h => exact absurd (show (none : Option Ty) = some e from h) (by simp)
    | 15, _, h => exact absurd (show (none : Option Ty) = some e from h) (by simp)
    | 16, _, h => exact absurd (show (none : Option Ty) = some e from h) (by simp)
    | 17, _, h => exact absurd (show (none : Option Ty) = some e from h) (by simp)
    | 18, _, h => exact absurd (show (none : Option Ty) = some e from h) (by simp)
    | 19, _, h => exact absurd (show (none : Option Ty) = some e from h) (by simp)
    | 20, _, h => exact Option.some.inj (show some ty20 = some e from h) ▸ h20
    | 21, _, h => exact Option.some.inj (show some ty21 = some e from h) ▸ h21
    | 22, _, h => exact absurd (show (none : Option Ty) = some e from h) (by simp)
    | 23, _, h => exact Option.some.inj (show some ty23 = some e from h) ▸ h23
    | 24, _, h => exact Option.some.inj (show some ty24 = some e from h) ▸ h24
    | 25, _, h => exact absurd (show (none : Option Ty) = some e from h) (by simp)
    | 26, _, h => exact absurd (show (none : Option Ty) = some e from h) (by simp)
    | 27, _, h => exact absurd (show (none : Option Ty) = some e from h) (by simp)
    | 28, _, h => exact absurd (show (none : Option Ty) = some e from h) (by simp)
    | 29, _, h => exact Option.some.inj (show some ty29 = some e from h) ▸ h29
    | 30, _, h => exact absurd (show (none : Option Ty) = some e from h) (by simp)
    | 31, _, h => exact Option.some.inj (show some ty31 = some e from h) ▸ h31
    | 32, _, h => exact absurd (show (none : Option Ty) = some e from h) (by simp)
    | 33, _, h => exact absurd (show (none : Option Ty) = some e from h) (by simp)
    | 34, _, h => exact Option.some.inj (show some ty34 = some e from h) ▸ h34
    | 35, _, h => exact absurd (show (none : Option Ty) = some e from h) (by simp)
    | 36, _, h => exact absurd (show (none : Option Ty) = some e from h) (by simp)
    | 37, _, h => exact absurd (show (none : Option Ty) = some e from h) (by simp)
    | 38, _, h => exact absurd (show (none : Option Ty) = some e from h) (by simp)
    | 39, _, h => exact absurd (show (none : Option Ty) = some e from h) (by simp)
    | 40, _, h => exact absurd (show (none : Option Ty) = some e from h) (by simp)
    | 41, _, h => exact absurd (show (none : Option Ty) = some e from h) (by simp)
    | 42, _, h => exact Option.some.inj (show some ty42 = some e from h) ▸ h42
    | 43, _, h => exact absurd (show (none : Option Ty) = some e from h) (by simp)
    | 44, _, h => exact absurd (show (none : Option Ty) = some e from h) (by simp)
    | 45, _, h => exact Option.some.inj (show some ty45 = some e from h) ▸ h45
    | 46, _, h => exact Option.some.inj (show some ty46 = some e from h) ▸ h46
    | 47, _, h => exact absurd (show (none : Option Ty) = some e from h) (by simp)
    | 48, _, h => exact Option.some.inj (show some ty48 = some e from h) ▸ h48
    | 49, _, h => exact absurd (show (none : Option Ty) = some e from h) (by simp)
    | 50, _, h => exact absurd (show (none : Option Ty) = some e from h) (by simp)
    | 51, _, h => exact absurd (show (none : Option Ty) = some e from h) (by simp)
    | 52, _, h => exact Option.some.inj (show some ty52 = some e from h) ▸ h52
    | 53, _, h => exact absurd (show (none : Option Ty) = some e from h) (by simp)
    | 54, _, h => exact absurd (show (none : Option Ty) = some e from h) (by simp)
    | 55, _, h => exact Option.some.inj (show some ty55 = some e from h) ▸ h55
    | 56, _, h => exact absurd (show (none : Option Ty) = some e from h) (by simp)
    | 57, _, h => exact absurd (show (none : Option Ty) = some e from h) (by simp)
    | 58, _, h => exact absurd (show (none : Option Ty) = some e from h) (by simp)
    | 59, _, h => exact Option.some.inj (show some ty59 = some e from h) ▸ h59
    | 60, _, h => exact absurd (show (none : Option Ty) = some e from h) (by simp)
    | 61, _, h => exact absurd (show (none : Option Ty) = some e from h) (by simp)
    | 62, _, h => exact Option.some.inj (show some ty62 = some e from h) ▸ h62
    | 63, _, h => exact absurd (show (none : Option Ty) = some e from h) (by simp)
    | 64, _, h => exact absurd (show (none : Option Ty) = some e from h) (by simp)
    | 65, _, h => exact absurd (show (none : Option Ty) = some e from h) (by simp)
    | 66, _, h => exact absurd (show (none : Option Ty) = some e from h) (by simp)
    | 67, _, h => exact absurd (show (none : Option Ty) = some e from h) (by simp)
    | 68, _, h => exact absurd (show (none : Option Ty) = some e from h) (by simp)
    | 69, _, h => exact absurd (show (none : Option Ty) = some e from h) (by simp)
    | 70, _, h => exact Option.some.inj (show some ty70 = some e from h) ▸ h70
    | 71, _, h => exact absurd (show (none : Option Ty) = some e from h) (by simp)
    | 72, _, h => exact absurd (show (none : Option Ty) = some e from h) (by simp)
    | 73, _, h => exact absurd (show (none : Option Ty) = some e from h) (by simp)
    | 74, _, h => exact Option.some.inj (show some ty74 = some e from h) ▸ h74
    | 75, _, h => exact absurd (show (none : Option Ty) = some e from h) (by simp)
    | 76, _, h => exact absurd (show (none : Option Ty) = some e from h) (by simp)
    | 77, _, h => exact absurd (show (none : Option Ty) = some e from h) (by simp)
    | 78, _, h => exact Option.some.inj (show some ty78 = some e from h) ▸ h78
    | 79, _, h => exact absurd (show (none : Option Ty) = some e from h) (by simp)
    | 80, _, h => exact absurd (show (none : Option Ty) = some e from h) (by simp)
    | 81, _, h => exact Option.some.inj (show some ty81 = some e from h) ▸ h81
    | 82, _, h => exact absurd (show (none : Option Ty) = some e from h) (by simp)
    | 83, _, h => exact Option.some.inj (show some ty83 = some e from h) ▸ h83
    | 84, _, h => exact absurd (show (none : Option Ty) = some e from h) (by simp)
    | 85, _, h => exact Option.some.inj (show some ty85 = some e from h) ▸ h85
    | 86, _, h => exact absurd (show (none : Option Ty) = some e from h) (by simp)
    | 87, _, h => exact absurd (show (none : Option Ty) = some e from h) (by simp)
    | 88, _, h => exact Option.some.inj (show some ty88 = some e from h) ▸ h88
    | 89, _, h => exact absurd (show (none : Option Ty) = some e from h) (by simp)
    | 90, _, h => exact Option.some.inj (show some ty90 = some e from h) ▸ h90
    | 91, _, h => exact absurd (show (none : Option Ty) = some e from h) (by simp)
    | 92, _, h => exact Option.some.inj (show some ty92 = some e from h) ▸ h92
    | 93, _, h => exact absurd (show (none : Option Ty) = some e from h) (by simp)
    | 94, _, h => exact Option.some.inj (show some ty94 = some e from h) ▸ h94
    | 95, _, h => exact absurd (show (none : Option Ty) = some e from h) (by simp)
    | 96, _, h => exact absurd (show (none : Option Ty) = some e from h) (by simp)
    | 97, _, h => exact absurd (show (none : Option Ty) = some e from h) (by simp)
    | 98, _, h => exact absurd (show (none : Option Ty) = some e from h) (by simp)
    | 99, _, h => exact absurd (show (none : Option Ty) = some e from h) (by simp)
    | 100, _, h => exact Option.some.inj (show some ty100 = some e from h) ▸ h100
    | 101, _, h => exact absurd (show (none : Option Ty) = some e from h) (by simp)
    | 102, _, h => exact Option.some.inj (show some ty102 = some e from h) ▸ h102
    | 103, _, h => exact absurd (show (none : Option Ty) = some e from h) (by simp)
    | 104, _, h => exact absurd (show (none : Option Ty) = some e from h) (by simp)
    | 105, _, h => exact Option.some.inj (show some ty105 = some e from h) ▸ h105
    | 106, _, h => exact absurd (show (none : Option Ty) = some e from h) (by simp)
    | 107, _, h => exact absurd (show (none : Option Ty) = some e from h) (by simp)
    | 108, _, h => exact Option.some.inj (show some ty108 = some e from h) ▸ h108
    | 109, _, h => exact absurd (show (none : Option Ty) = some e from h) (by simp)
    | 110, _, h => exact Option.some.inj (show some ty110 = some e from h) ▸ h110
    | 111, _, h => exact absurd (show (none : Option Ty) = some e from h) (by simp)
    | 112, _, h => exact absurd (show (none : Option Ty) = some e from h) (by simp)
    | 113, _, h => exact Option.some.inj (show some ty113 = some e from h) ▸ h113
    | 114, _, h => exact absurd (show (none : Option Ty) = some e from h) (by simp)
    | 115, _, h => exact absurd (show (none : Option Ty) = some e from h) (by simp)
    | 116, _, h => exact Option.some.inj (show some ty116 = some e from h) ▸ h116
    | 117, _, h => exact absurd (show (none : Option Ty) = some e from h) (by simp)
    | 118, _, h => exact Option.some.inj (show some ty118 = some e from h) ▸ h118
    | 119, _, h => exact absurd (show (none : Option Ty) = some e from h) (by simp)
    | 120, _, h => exact Option.some.inj (show some ty120 = some e from h) ▸ h120
    | 121, _, h => exact absurd (show (none : Option Ty) = some e from h) (by simp)
    | 122, _, h => exact Option.some.inj (show some ty122 = some e from h) ▸ h122
    | 123, _, h => exact absurd (show (none : Option Ty) = some e from h) (by simp)
    | 124, _, h => exact absurd (show (none : Option Ty) = some e from h) (by simp)
    | 125, _, h => exact absurd (show (none : Option Ty) = some e from h) (by simp)
    | 126, _, h => exact absurd (show (none : Option Ty) = some e from h) (by simp)
    | 127, _, h => exact absurd (show (none : Option Ty) = some e from h) (by simp)
    | 128, _, h => exact absurd (show (none : Option Ty) = some e from h) (by simp)
    | 129, _, h => exact Option.some.inj (show some ty129 = some e from h) ▸ h129
    | 130, _, h => exact absurd (show (none : Option Ty) = some e from h) (by simp)
    | 131, _, h => exact Option.some.inj (show some ty131 = some e from h) ▸ h131
    | 132, _, h => exact absurd (show (none : Option Ty) = some e from h) (by simp)
    | 133, _, h => exact absurd (show (none : Option Ty) = some e from h) (by simp)
    | 134, _, h => exact Option.some.inj (show some ty134 = some e from h) ▸ h134
    | 135, _, h => exact Option.some.inj (show some ty135 = some e from h) ▸ h135
    | 136, _, h => exact absurd (show (none : Option Ty) = some e from h) (by simp)
    | 137, _, h => exact Option.some.inj (show some ty137 = some e from h) ▸ h137
    | 138, _, h => exact absurd (show (none : Option Ty) = some e from h) (by simp)
    | 139, _, h => exact Option.some.inj (show some ty139 = some e from h) ▸ h139
    | 140, _, h => exact absurd (show (none : Option Ty) = some e from h) (by simp)
    | 141, _, h => exact Option.some.inj (show some ty141 = some e from h) ▸ h141
    | 142, _, h => exact Option.some.inj (show some ty142 = some e from h) ▸ h142
    | 143, _, h => exact absurd (show (none : Option Ty) = some e from h) (by simp)
    | 144, _, h => exact Option.some.inj (show some ty144 = some e from h) ▸ h144
    | 145, _, h => exact absurd (show (none : Option Ty) = some e from h) (by simp)
    | 146, _, h => exact absurd (show (none : Option Ty) = some e from h) (by simp)
    | 147, _, h => exact Option.some.inj (show some ty147 = some e from h) ▸ h147
    | 148, _, h => exact absurd (show (none : Option Ty) = some e from h) (by simp)
    | 149, _, h => exact Option.some.inj (show some ty149 = some e from h) ▸ h149
    | 150, _, h => exact absurd (show (none : Option Ty) = some e from h) (by simp)
    | 151, _, h => exact absurd (show (none : Option Ty) = some e from h) (by simp)
    | 152, _, h => exact Option.some.inj (show some ty152 = some e from h) ▸ h152
    | 153, _, h => exact absurd (show (none : Option Ty) = some e from h) (by simp)
    | 154, _, h => exact Option.some.inj (show some ty154 = some e from h) ▸ h154
    | 155, _, h => exact absurd (show (none : Option Ty) = some e from h) (by simp)
    | 156, _, h => exact Option.some.inj (show some ty156 = some e from h) ▸ h156
    | 157, _, h => exact absurd (show (none : Option Ty) = some e from h) (by simp)
    | 158, _, h => exact absurd (show (none : Option Ty) = some e from h) (by simp)
    | 159, _, h => exact Option.some.inj (show some ty159 = some e from h) ▸ h159
    | 160, _, h => exact absurd (show (none : Option Ty) = some e from h) (by simp)
    | 161, _, h => exact absurd (show (none : Option Ty) = some e from h) (by simp)
    | 162, _, h => exact absurd (show (none : Option Ty) = some e from h) (by simp)
    | 163, _, h => exact Option.some.inj (show some ty163 = some e from h) ▸ h163
    | 164, _, h => exact Option.some.inj (show some ty164 = some e from h) ▸ h164
    | 165, _, h => exact absurd (show (none : Option Ty) = some e from h) (by simp)
    | 166, _, h => exact absurd (show (none : Option Ty) = some e from h) (by simp)
    | 167, _, h => exact Option.some.inj (show some ty167 = some e from h) ▸ h167
    | 168, _, h => exact absurd (show (none : Option Ty) = some e from h) (by simp)
    | 169, _, h => exact absurd (show (none : Option Ty) = some e from h) (by simp)
    | 170, _, h => exact absurd (show (none : Option Ty) = some e from h) (by simp)
    | 171, _, h => exact absurd (show (none : Option Ty) = some e from h) (by simp)
    | 172, _, h => exact absurd (show (none : Option Ty) = some e from h) (by simp)
    | 173, _, h => exact absurd (show (none : Option Ty) = some e from h) (by simp)
    | 174, _, h => exact Option.some.inj (show some ty174 = some e from h) ▸ h174
    | 175, _, h => exact absurd (show (none : Option Ty) = some e from h) (by simp)
    | 176, _, h => exact Option.some.inj (show some ty176 = some e from h) ▸ h176
    | 177, _, h => exact Option.some.inj (show some ty177 = some e from h) ▸ h177
    | 178, _, h => exact absurd (show (none : Option Ty) = some e from h) (by simp)
    | 179, _, h => exact absurd (show (none : Option Ty) = some e from h) (by simp)
    | 180, _, h => exact absurd (show (none : Option Ty) = some e from h) (by simp)
    | 181, _, h => exact absurd (show (none : Option Ty) = some e from h) (by simp)
    | 182, _, h => exact absurd (show (none : Option Ty) = some e from h) (by simp)
    | 183, _, h => exact absurd (show (none : Option Ty) = some e from h) (by simp)
    | 184, _, h => exact absurd (show (none : Option Ty) = some e from h) (by simp)
    | 185, _, h => exact absurd (show (none : Option Ty) = some e from h) (by simp)
    | 186, _, h => exact absurd (show (none : Option Ty) = some e from h) (by simp)
    | 187, _, h => exact Option.some.inj (show some ty187 = some e from h) ▸ h187
    | 188, _, h => exact absurd (show (none : Option Ty) = some e from h) (by simp)
    | 189, _, h => exact Option.some.inj (show some ty189 = some e from h) ▸ h189
    | 190, _, h => exact Option.some.inj (show some ty190 = some e from h) ▸ h190
    | 191, _, h => exact absurd (show (none : Option Ty) = some e from h) (by simp)
    | 192, _, h => exact absurd (show (none : Option Ty) = some e from h) (by simp)
    | 193, _, h => exact absurd (show (none : Option Ty) = some e from h) (by simp)
    | 194, _, h => exact Option.some.inj (show some ty194 = some e from h) ▸ h194
    | 195, _, h => exact Option.some.inj (show some ty195 = some e from h) ▸ h195
    | 196, _, h => exact absurd (show (none : Option Ty) = some e from h) (by simp)
    | 197, _, h => exact absurd (show (none : Option Ty) = some e from h) (by simp)
    | 198, _, h => exact Option.some.inj (show some ty198 = some e from h) ▸ h198
    | 199, _, h => exact Option.some.inj (show some ty199 = some e from h) ▸ h199
    | 200, _, h => exact absurd (show (none : Option Ty) = some e from h) (by simp)
    | 201, _, h => exact Option.some.inj (show some ty201 = some e from h) ▸ h201
    | 202, _, h => exact absurd (show (none : Option Ty) = some e from h) (by simp)
    | 203, _, h => exact absurd (show (none : Option Ty) = some e from h) (by simp)
    | 204, _, h => exact absurd (show (none : Option Ty) = some e from h) (by simp)
    | 205, _, h => exact absurd (show (none : Option Ty) = some e from h) (by simp)
    | 206, _, h => exact absurd (show (none : Option Ty) = some e from h) (by simp)
    | 207, _, h => exact absurd (show (none : Option Ty) = some e from h) (by simp)
    | n + 208, hlt, _ => omega
  · have hl : tyRows.length = 13 := rfl
    have : nth tyRows (t / 16) = none := nth_none (l := tyRows) (i := t / 16) (by rw [hl]; omega)
    unfold tyAt at h
    rw [this] at h
    cases h

theorem leaf_of (x : Leaf) : (cellsL x.v).length = 1 ∧ ∀ cs, x.v ≠ .agg cs := by
  obtain ⟨v, h⟩ := x
  cases v <;> first | exact ⟨rfl, fun cs h => by cases h⟩ | cases h

theorem tb_ok : tb.Ok Tryz.prog where
  und := tyAll (p := fun t e => Tryz.prog.underlying t = some e.und) Tryz.underlying0 Tryz.underlying2 Tryz.underlying3 Tryz.underlying4 Tryz.underlying5 Tryz.underlying9 Tryz.underlying12 Tryz.underlying20 Tryz.underlying21 Tryz.underlying23 Tryz.underlying24 Tryz.underlying29 Tryz.underlying31 Tryz.underlying34 Tryz.underlying42 Tryz.underlying45 Tryz.underlying46 Tryz.underlying48 Tryz.underlying52 Tryz.underlying55 Tryz.underlying59 Tryz.underlying62 Tryz.underlying70 Tryz.underlying74 Tryz.underlying78 Tryz.underlying81 Tryz.underlying83 Tryz.underlying85 Tryz.underlying88 Tryz.underlying90 Tryz.underlying92 Tryz.underlying94 Tryz.underlying100 Tryz.underlying102 Tryz.underlying105 Tryz.underlying108 Tryz.underlying110 Tryz.underlying113 Tryz.underlying116 Tryz.underlying118 Tryz.underlying120 Tryz.underlying122 Tryz.underlying129 Tryz.underlying131 Tryz.underlying134 Tryz.underlying135 Tryz.underlying137 Tryz.underlying139 Tryz.underlying141 Tryz.underlying142 Tryz.underlying144 Tryz.underlying147 Tryz.underlying149 Tryz.underlying152 Tryz.underlying154 Tryz.underlying156 Tryz.underlying159 Tryz.underlying163 Tryz.underlying164 Tryz.underlying167 Tryz.underlying174 Tryz.underlying176 Tryz.underlying177 Tryz.underlying187 Tryz.underlying189 Tryz.underlying190 Tryz.underlying194 Tryz.underlying195 Tryz.underlying198 Tryz.underlying199 Tryz.underlying201
  info := tyAll (p := fun t e => ∃ i, Tryz.prog.info? t = some i ∧ i.size = e.size ∧ i.bytes = e.bytes ∧ i.zero = some e.zero) ⟨Tryz.t0, Tryz.type0, rfl, rfl, rfl⟩ ⟨Tryz.t2, Tryz.type2, rfl, rfl, rfl⟩ ⟨Tryz.t3, Tryz.type3, rfl, rfl, rfl⟩ ⟨Tryz.t4, Tryz.type4, rfl, rfl, rfl⟩ ⟨Tryz.t5, Tryz.type5, rfl, rfl, rfl⟩ ⟨Tryz.t9, Tryz.type9, rfl, rfl, rfl⟩ ⟨Tryz.t12, Tryz.type12, rfl, rfl, rfl⟩ ⟨Tryz.t20, Tryz.type20, rfl, rfl, rfl⟩ ⟨Tryz.t21, Tryz.type21, rfl, rfl, rfl⟩ ⟨Tryz.t23, Tryz.type23, rfl, rfl, rfl⟩ ⟨Tryz.t24, Tryz.type24, rfl, rfl, rfl⟩ ⟨Tryz.t29, Tryz.type29, rfl, rfl, rfl⟩ ⟨Tryz.t31, Tryz.type31, rfl, rfl, rfl⟩ ⟨Tryz.t34, Tryz.type34, rfl, rfl, rfl⟩ ⟨Tryz.t42, Tryz.type42, rfl, rfl, rfl⟩ ⟨Tryz.t45, Tryz.type45, rfl, rfl, rfl⟩ ⟨Tryz.t46, Tryz.type46, rfl, rfl, rfl⟩ ⟨Tryz.t48, Tryz.type48, rfl, rfl, rfl⟩ ⟨Tryz.t52, Tryz.type52, rfl, rfl, rfl⟩ ⟨Tryz.t55, Tryz.type55, rfl, rfl, rfl⟩ ⟨Tryz.t59, Tryz.type59, rfl, rfl, rfl⟩ ⟨Tryz.t62, Tryz.type62, rfl, rfl, rfl⟩ ⟨Tryz.t70, Tryz.type70, rfl, rfl, rfl⟩ ⟨Tryz.t74, Tryz.type74, rfl, rfl, rfl⟩ ⟨Tryz.t78, Tryz.type78, rfl, rfl, rfl⟩ ⟨Tryz.t81, Tryz.type81, rfl, rfl, rfl⟩ ⟨Tryz.t83, Tryz.type83, rfl, rfl, rfl⟩ ⟨Tryz.t85, Tryz.type85, rfl, rfl, rfl⟩ ⟨Tryz.t88, Tryz.type88, rfl, rfl, rfl⟩ ⟨Tryz.t90, Tryz.type90, rfl, rfl, rfl⟩ ⟨Tryz.t92, Tryz.type92, rfl, rfl, rfl⟩ ⟨Tryz.t94, Tryz.type94, rfl, rfl, rfl⟩ ⟨Tryz.t100, Tryz.type100, rfl, rfl, rfl⟩ ⟨Tryz.t102, Tryz.type102, rfl, rfl, rfl⟩ ⟨Tryz.t105, Tryz.type105, rfl, rfl, rfl⟩ ⟨Tryz.t108, Tryz.type108, rfl, rfl, rfl⟩ ⟨Tryz.t110, Tryz.type110, rfl, rfl, rfl⟩ ⟨Tryz.t113, Tryz.type113, rfl, rfl, rfl⟩ ⟨Tryz.t116, Tryz.type116, rfl, rfl, rfl⟩ ⟨Tryz.t118, Tryz.type118, rfl, rfl, rfl⟩ ⟨Tryz.t120, Tryz.type120, rfl, rfl, rfl⟩ ⟨Tryz.t122, Tryz.type122, rfl, rfl, rfl⟩ ⟨Tryz.t129, Tryz.type129, rfl, rfl, rfl⟩ ⟨Tryz.t131, Tryz.type131, rfl, rfl, rfl⟩ ⟨Tryz.t134, Tryz.type134, rfl, rfl, rfl⟩ ⟨Tryz.t135, Tryz.type135, rfl, rfl, rfl⟩ ⟨Tryz.t137, Tryz.type137, rfl, rfl, rfl⟩ ⟨Tryz.t139, Tryz.type139, rfl, rfl, rfl⟩ ⟨Tryz.t141, Tryz.type141, rfl, rfl, rfl⟩ ⟨Tryz.t142, Tryz.type142, rfl, rfl, rfl⟩ ⟨Tryz.t144, Tryz.type144, rfl, rfl, rfl⟩ ⟨Tryz.t147, Tryz.type147, rfl, rfl, rfl⟩ ⟨Tryz.t149, Tryz.type149, rfl, rfl, rfl⟩ ⟨Tryz.t152, Tryz.type152, rfl, rfl, rfl⟩ ⟨Tryz.t154, Tryz.type154, rfl, rfl, rfl⟩ ⟨Tryz.t156, Tryz.type156, rfl, rfl, rfl⟩ ⟨Tryz.t159, Tryz.type159, rfl, rfl, rfl⟩ ⟨Tryz.t163, Tryz.type163, rfl, rfl, rfl⟩ ⟨Tryz.t164, Tryz.type164, rfl, rfl, rfl⟩ ⟨Tryz.t167, Tryz.type167, rfl, rfl, rfl⟩ ⟨Tryz.t174, Tryz.type174, rfl, rfl, rfl⟩ ⟨Tryz.t176, Tryz.type176, rfl, rfl, rfl⟩ ⟨Tryz.t177, Tryz.type177, rfl, rfl, rfl⟩ ⟨Tryz.t187, Tryz.type187, rfl, rfl, rfl⟩ ⟨Tryz.t189, Tryz.type189, rfl, rfl, rfl⟩ ⟨Tryz.t190, Tryz.type190, rfl, rfl, rfl⟩ ⟨Tryz.t194, Tryz.type194, rfl, rfl, rfl⟩ ⟨Tryz.t195, Tryz.type195, rfl, rfl, rfl⟩ ⟨Tryz.t198, Tryz.type198, rfl, rfl, rfl⟩ ⟨Tryz.t199, Tryz.type199, rfl, rfl, rfl⟩ ⟨Tryz.t201, Tryz.type201, rfl, rfl, rfl⟩
  agg := tyAll (p := fun t e => isAggD e.und = true → ∀ x, ∃ cs, e.sh.enc x = .agg cs ∧ cs.size = e.size) (fun h => by cases h) (fun h => by cases h) (fun h => by cases h) (fun h => by cases h) (fun h => by cases h) (fun h => by cases h) (fun h => by cases h) (fun h => by cases h) (fun h => by cases h) (fun h => by cases h) (fun h => by cases h) (fun h => by cases h) (fun h => by cases h) (fun h => by cases h) (fun h => by cases h) (fun h => by cases h) (fun h => by cases h) (fun h => by cases h) (fun h => by cases h) (fun h => by cases h) (fun h => by cases h) (fun h => by cases h) (fun h => by cases h) (fun h => by cases h) (fun h => by cases h) (fun h => by cases h) (fun h => by cases h) (fun h => by cases h) (fun h => by cases h) (fun h => by cases h) (fun h => by cases h) (fun _ x => ⟨_, rfl, rfl⟩) (fun h => by cases h) (fun h => by cases h) (fun h => by cases h) (fun _ x => ⟨_, rfl, rfl⟩) (fun h => by cases h) (fun _ x => ⟨_, rfl, rfl⟩) (fun h => by cases h) (fun h => by cases h) (fun h => by cases h) (fun h => by cases h) (fun _ x => ⟨_, rfl, rfl⟩) (fun h => by cases h) (fun h => by cases h) (fun _ x => ⟨_, rfl, x.size⟩) (fun _ x => ⟨_, rfl, x.size⟩) (fun h => by cases h) (fun _ x => ⟨_, rfl, rfl⟩) (fun h => by cases h) (fun h => by cases h) (fun h => by cases h) (fun _ x => ⟨_, rfl, rfl⟩) (fun h => by cases h) (fun h => by cases h) (fun h => by cases h) (fun h => by cases h) (fun _ x => ⟨_, rfl, rfl⟩) (fun _ x => ⟨_, rfl, x.size⟩) (fun h => by cases h) (fun _ x => ⟨_, rfl, rfl⟩) (fun h => by cases h) (fun h => by cases h) (fun h => by cases h) (fun h => by cases h) (fun h => by cases h) (fun _ x => ⟨_, rfl, rfl⟩) (fun _ x => ⟨_, rfl, x.size⟩) (fun _ x => ⟨_, rfl, rfl⟩) (fun h => by cases h) (fun _ x => ⟨_, rfl, x.size⟩)
  leaf := tyAll (p := fun t e => isAggD e.und = false → e.size = 1 ∧ ∀ x, (cellsL (e.sh.enc x)).length = 1 ∧ ∀ cs, e.sh.enc x ≠ .agg cs) (fun _ => ⟨rfl, fun x => ⟨rfl, fun cs h => by cases h⟩⟩) (fun _ => ⟨rfl, fun x => ⟨rfl, fun cs h => by cases h⟩⟩) (fun _ => ⟨rfl, fun x => ⟨rfl, fun cs h => by cases h⟩⟩) (fun _ => ⟨rfl, fun x => ⟨rfl, fun cs h => by cases h⟩⟩) (fun _ => ⟨rfl, fun x => ⟨rfl, fun cs h => by cases h⟩⟩) (fun _ => ⟨rfl, fun x => ⟨rfl, fun cs h => by cases h⟩⟩) (fun _ => ⟨rfl, fun x => ⟨rfl, fun cs h => by cases h⟩⟩) (fun _ => ⟨rfl, leaf_of⟩) (fun _ => ⟨rfl, fun x => ⟨rfl, fun cs h => by cases h⟩⟩) (fun _ => ⟨rfl, fun x => ⟨rfl, fun cs h => by cases h⟩⟩) (fun _ => ⟨rfl, fun x => ⟨rfl, fun cs h => by cases h⟩⟩) (fun _ => ⟨rfl, fun x => ⟨rfl, fun cs h => by cases h⟩⟩) (fun _ => ⟨rfl, fun x => ⟨rfl, fun cs h => by cases h⟩⟩) (fun _ => ⟨rfl, fun x => ⟨rfl, fun cs h => by cases h⟩⟩) (fun _ => ⟨rfl, fun x => ⟨rfl, fun cs h => by cases h⟩⟩) (fun _ => ⟨rfl, leaf_of⟩) (fun _ => ⟨rfl, fun x => ⟨rfl, fun cs h => by cases h⟩⟩) (fun _ => ⟨rfl, fun x => ⟨rfl, fun cs h => by cases h⟩⟩) (fun _ => ⟨rfl, fun x => ⟨rfl, fun cs h => by cases h⟩⟩) (fun _ => ⟨rfl, fun x => ⟨rfl, fun cs h => by cases h⟩⟩) (fun _ => ⟨rfl, fun x => ⟨rfl, fun cs h => by cases h⟩⟩) (fun _ => ⟨rfl, fun x => ⟨rfl, fun cs h => by cases h⟩⟩) (fun _ => ⟨rfl, fun x => ⟨rfl, fun cs h => by cases h⟩⟩) (fun _ => ⟨rfl, fun x => ⟨rfl, fun cs h => by cases h⟩⟩) (fun _ => ⟨rfl, fun x => ⟨rfl, fun cs h => by cases h⟩⟩) (fun _ => ⟨rfl, fun x => ⟨rfl, fun cs h => by cases h⟩⟩) (fun _ => ⟨rfl, fun x => ⟨rfl, fun cs h => by cases h⟩⟩) (fun _ => ⟨rfl, fun x => ⟨rfl, fun cs h => by cases h⟩⟩) (fun _ => ⟨rfl, fun x => ⟨rfl, fun cs h => by cases h⟩⟩) (fun _ => ⟨rfl, fun x => ⟨rfl, fun cs h => by cases h⟩⟩) (fun _ => ⟨rfl, fun x => ⟨rfl, fun cs h => by cases h⟩⟩) (fun h => by cases h) (fun _ => ⟨rfl, fun x => ⟨rfl, fun cs h => by cases h⟩⟩) (fun _ => ⟨rfl, fun x => ⟨rfl, fun cs h => by cases h⟩⟩) (fun _ => ⟨rfl, fun x => ⟨rfl, fun cs h => by cases h⟩⟩) (fun h => by cases h) (fun _ => ⟨rfl, fun x => ⟨rfl, fun cs h => by cases h⟩⟩) (fun h => by cases h) (fun _ => ⟨rfl, fun x => ⟨rfl, fun cs h => by cases h⟩⟩) (fun _ => ⟨rfl, fun x => ⟨rfl, fun cs h => by cases h⟩⟩) (fun _ => ⟨rfl, fun x => ⟨rfl, fun cs h => by cases h⟩⟩) (fun _ => ⟨rfl, fun x => ⟨rfl, fun cs h => by cases h⟩⟩) (fun h => by cases h) (fun _ => ⟨rfl, fun x => ⟨rfl, fun cs h => by cases h⟩⟩) (fun _ => ⟨rfl, fun x => ⟨rfl, fun cs h => by cases h⟩⟩) (fun h => by cases h) (fun h => by cases h) (fun _ => ⟨rfl, fun x => ⟨rfl, fun cs h => by cases h⟩⟩) (fun h => by cases h) (fun _ => ⟨rfl, fun x => ⟨rfl, fun cs h => by cases h⟩⟩) (fun _ => ⟨rfl, fun x => ⟨rfl, fun cs h => by cases h⟩⟩) (fun _ => ⟨rfl, fun x => ⟨rfl, fun cs h => by cases h⟩⟩) (fun h => by cases h) (fun _ => ⟨rfl, fun x => ⟨rfl, fun cs h => by cases h⟩⟩) (fun _ => ⟨rfl, fun x => ⟨rfl, fun cs h => by cases h⟩⟩) (fun _ => ⟨rfl, fun x => ⟨rfl, fun cs h => by cases h⟩⟩) (fun _ => ⟨rfl, fun x => ⟨rfl, fun cs h => by cases h⟩⟩) (fun h => by cases h) (fun h => by cases h) (fun _ => ⟨rfl, leaf_of⟩) (fun h => by cases h) (fun _ => ⟨rfl, fun x => ⟨rfl, fun cs h => by cases h⟩⟩) (fun _ => ⟨rfl, fun x => ⟨rfl, fun cs h => by cases h⟩⟩) (fun _ => ⟨rfl, fun x => ⟨rfl, fun cs h => by cases h⟩⟩) (fun _ => ⟨rfl, fun x => ⟨rfl, fun cs h => by cases h⟩⟩) (fun _ => ⟨rfl, fun x => ⟨rfl, fun cs h => by cases h⟩⟩) (fun h => by cases h) (fun h => by cases h) (fun h => by cases h) (fun _ => ⟨rfl, fun x => ⟨rfl, fun cs h => by cases h⟩⟩) (fun h => by cases h)
  zlen := tyAll (p := fun t e => (cellsL e.zero).length = e.size) rfl rfl rfl rfl rfl rfl rfl rfl rfl rfl rfl rfl rfl rfl rfl rfl rfl rfl rfl rfl rfl rfl rfl rfl rfl rfl rfl rfl rfl rfl rfl rfl rfl rfl rfl rfl rfl rfl rfl rfl rfl rfl rfl rfl rfl rfl rfl rfl rfl rfl rfl rfl rfl rfl rfl rfl rfl rfl rfl rfl rfl rfl rfl rfl rfl rfl rfl rfl rfl rfl rfl
  zero8 := tyAll (p := fun t e => e.und = .int .u8 → cellsL e.zero = [.int .u8 0]) (fun h => by cases h) (fun h => by cases h) (fun h => by cases h) (fun h => by cases h) (fun _ => rfl) (fun h => by cases h) (fun h => by cases h) (fun h => by cases h) (fun h => by cases h) (fun h => by cases h) (fun h => by cases h) (fun h => by cases h) (fun h => by cases h) (fun h => by cases h) (fun h => by cases h) (fun h => by cases h) (fun h => by cases h) (fun h => by cases h) (fun h => by cases h) (fun h => by cases h) (fun h => by cases h) (fun h => by cases h) (fun h => by cases h) (fun h => by cases h) (fun h => by cases h) (fun h => by cases h) (fun h => by cases h) (fun h => by cases h) (fun h => by cases h) (fun h => by cases h) (fun h => by cases h) (fun h => by cases h) (fun h => by cases h) (fun h => by cases h) (fun h => by cases h) (fun h => by cases h) (fun h => by cases h) (fun h => by cases h) (fun h => by cases h) (fun h => by cases h) (fun h => by cases h) (fun h => by cases h) (fun h => by cases h) (fun h => by cases h) (fun h => by cases h) (fun h => by cases h) (fun h => by cases h) (fun h => by cases h) (fun h => by cases h) (fun h => by cases h) (fun h => by cases h) (fun h => by cases h) (fun h => by cases h) (fun h => by cases h) (fun h => by cases h) (fun h => by cases h) (fun h => by cases h) (fun h => by cases h) (fun h => by cases h) (fun h => by cases h) (fun h => by cases h) (fun h => by cases h) (fun h => by cases h) (fun h => by cases h) (fun h => by cases h) (fun h => by cases h) (fun h => by cases h) (fun h => by cases h) (fun h => by cases h) (fun h => by cases h) (fun h => by cases h)
  zagg := tyAll (p := fun t e => isAggD e.und = true → ∃ cs, e.zero = .agg cs) (fun h => by cases h) (fun h => by cases h) (fun h => by cases h) (fun h => by cases h) (fun h => by cases h) (fun h => by cases h) (fun h => by cases h) (fun h => by cases h) (fun h => by cases h) (fun h => by cases h) (fun h => by cases h) (fun h => by cases h) (fun h => by cases h) (fun h => by cases h) (fun h => by cases h) (fun h => by cases h) (fun h => by cases h) (fun h => by cases h) (fun h => by cases h) (fun h => by cases h) (fun h => by cases h) (fun h => by cases h) (fun h => by cases h) (fun h => by cases h) (fun h => by cases h) (fun h => by cases h) (fun h => by cases h) (fun h => by cases h) (fun h => by cases h) (fun h => by cases h) (fun h => by cases h) (fun _ => ⟨_, rfl⟩) (fun h => by cases h) (fun h => by cases h) (fun h => by cases h) (fun _ => ⟨_, rfl⟩) (fun h => by cases h) (fun _ => ⟨_, rfl⟩) (fun h => by cases h) (fun h => by cases h) (fun h => by cases h) (fun h => by cases h) (fun _ => ⟨_, rfl⟩) (fun h => by cases h) (fun h => by cases h) (fun _ => ⟨_, rfl⟩) (fun _ => ⟨_, rfl⟩) (fun h => by cases h) (fun _ => ⟨_, rfl⟩) (fun h => by cases h) (fun h => by cases h) (fun h => by cases h) (fun _ => ⟨_, rfl⟩) (fun h => by cases h) (fun h => by cases h) (fun h => by cases h) (fun h => by cases h) (fun _ => ⟨_, rfl⟩) (fun _ => ⟨_, rfl⟩) (fun h => by cases h) (fun _ => ⟨_, rfl⟩) (fun h => by cases h) (fun h => by cases h) (fun h => by cases h) (fun h => by cases h) (fun h => by cases h) (fun _ => ⟨_, rfl⟩) (fun _ => ⟨_, rfl⟩) (fun _ => ⟨_, rfl⟩) (fun h => by cases h) (fun _ => ⟨_, rfl⟩)
  call := by
    intro g h
    by_cases hlt : g < 208
    · match g, hlt, h with
      | 0, _, h => exact absurd (show false = true from h) (by simp)
      | 1, _, h => exact absurd (show false = true from h) (by simp)
      | 2, _, _ => exact Tryz.call2
      | 3, _, _ => exact Tryz.call3
      | 4, _, _ => exact Tryz.call4
      | 5, _, _ => exact Tryz.call5
      | 6, _, _ => exact Tryz.call6
      | 7, _, _ => exact Tryz.call7
      | 8, _, _ => exact Tryz.call8
      | 9, _, _ => exact Tryz.call9
      | 10, _, _ => exact Tryz.call10
      | 11, _, _ => exact Tryz.call11
      | 12, _, _ => exact Tryz.call12
      | 13, _, _ => exact Tryz.call13
      | 14, _, _ => exact Tryz.call14
      | 15, _, _ => exact Tryz.call15
      | 16, _, _ => exact Tryz.call16
      | 17, _, _ => exact Tryz.call17
      | 18, _, _ => exact Tryz.call18
      | 19, _, _ => exact Tryz.call19
      | 20, _, _ => exact Tryz.call20
      | 21, _, _ => exact Tryz.call21
      | 22, _, _ => exact Tryz.call22
      | 23, _, _ => exact Tryz.call23
      | 24, _, _ => exact Tryz.call24
      | 25, _, _ => exact Tryz.call25
      | 26, _, _ => exact Tryz.call26
      | 27, _, h => exact absurd (show false = true from h) (by simp)
      | 28, _, _ => exact Tryz.call28
      | 29, _, _ => exact Tryz.call29
      | 30, _, _ => exact Tryz.call30
      | 31, _, _ => exact Tryz.call31
      | 32, _, _ => exact Tryz.call32
      | 33, _, h => exact absurd (show false = true from h) (by simp)
      | 34, _, _ => exact Tryz.call34
      | 35, _, _ => exact Tryz.call35
      | 36, _, _ => exact Tryz.call36
      | 37, _, _ => exact Tryz.call37
      | 38, _, _ => exact Tryz.call38
      | 39, _, _ => exact Tryz.call39
      | 40, _, _ => exact Tryz.call40
      | 41, _, _ => exact Tryz.call41
      | 42, _, _ => exact Tryz.call42
      | 43, _, _ => exact Tryz.call43
      | 44, _, _ => exact Tryz.call44
      | 45, _, _ => exact Tryz.call45
      | 46, _, _ => exact Tryz.call46
      | 47, _, _ => exact Tryz.call47
      | 48, _, _ => exact Tryz.call48
      | 49, _, _ => exact Tryz.call49
      | 50, _, _ => exact Tryz.call50
      | 51, _, _ => exact Tryz.call51
      | 52, _, _ => exact Tryz.call52
      | 53, _, _ => exact Tryz.call53
      | 54, _, _ => exact Tryz.call54
      | 55, _, _ => exact Tryz.call55
      | 56, _, _ => exact Tryz.call56
      | 57, _, _ => exact Tryz.call57
      | 58, _, _ => exact Tryz.call58
      | 59, _, _ => exact Tryz.call59
      | 60, _, _ => exact Tryz.call60
      | 61, _, _ => exact Tryz.call61
      | 62, _, _ => exact Tryz.call62
      | 63, _, _ => exact Tryz.call63
      | 64, _, _ => exact Tryz.call64
      | 65, _, _ => exact Tryz.call65
      | 66, _, _ => exact Tryz.call66
      | 67, _, _ => exact Tryz.call67
      | 68, _, _ => exact Tryz.call68
      | 69, _, _ => exact Tryz.call69
      | 70, _, _ => exact Tryz.call70
      | 71, _, _ => exact Tryz.call71
      | 72, _, _ => exact Tryz.call72
      | 73, _, _ => exact Tryz.call73
      | 74, _, _ => exact Tryz.call74
      | 75, _, _ => exact Tryz.call75
      | 76, _, _ => exact Tryz.call76
      | 77, _, _ => exact Tryz.call77
      | 78, _, _ => exact Tryz.call78
      | 79, _, _ => exact Tryz.call79
      | 80, _, _ => exact Tryz.call80
      | 81, _, _ => exact Tryz.call81
      | 82, _, _ => exact Tryz.call82
      | 83, _, _ => exact Tryz.call83
      | 84, _, _ => exact Tryz.call84
      | 85, _, _ => exact Tryz.call85
      | 86, _, _ => exact Tryz.call86
      | 87, _, _ => exact Tryz.call87
      | 88, _, _ => exact Tryz.call88
      | 89, _, _ => exact Tryz.call89
      | 90, _, h => exact absurd (show false = true from h) (by simp)
      | 91, _, _ => exact Tryz.call91
      | 92, _, _ => exact Tryz.call92
      | 93, _, h => exact absurd (show false = true from h) (by simp)
      | 94, _, h => exact absurd (show false = true from h) (by simp)
      | 95, _, _ => exact Tryz.call95
      | 96, _, _ => exact Tryz.call96
      | 97, _, _ => exact Tryz.call97
      | 98, _, _ => exact Tryz.call98
      | 99, _, _ => exact Tryz.call99
      | 100, _, _ => exact Tryz.call100
      | 101, _, _ => exact Tryz.call101
      | 102, _, _ => exact Tryz.call102
      | 103, _, _ => exact Tryz.call103
      | 104, _, _ => exact Tryz.call104
      | 105, _, _ => exact Tryz.call105
      | 106, _, _ => exact Tryz.call106
      | 107, _, _ => exact Tryz.call107
      | 108, _, _ => exact Tryz.call108
      | 109, _, _ => exact Tryz.call109
      | 110, _, _ => exact Tryz.call110
      | 111, _, h => exact absurd (show false = true from h) (by simp)
      | 112, _, _ => exact Tryz.call112
      | 113, _, _ => exact Tryz.call113
      | 114, _, _ => exact Tryz.call114
      | 115, _, _ => exact Tryz.call115
      | 116, _, _ => exact Tryz.call116
      | 117, _, h => exact absurd (show false = true from h) (by simp)
      | 118, _, _ => exact Tryz.call118
      | 119, _, _ => exact Tryz.call119
      | 120, _, _ => exact Tryz.call120
      | 121, _, _ => exact Tryz.call121
      | 122, _, _ => exact Tryz.call122
      | 123, _, h => exact absurd (show false = true from h) (by simp)
      | 124, _, h => exact absurd (show false = true from h) (by simp)
      | 125, _, h => exact absurd (show false = true from h) (by simp)
      | 126, _, _ => exact Tryz.call126
      | 127, _, _ => exact Tryz.call127
      | 128, _, _ => exact Tryz.call128
      | 129, _, _ => exact Tryz.call129
      | 130, _, _ => exact Tryz.call130
      | 131, _, _ => exact Tryz.call131
      | 132, _, _ => exact Tryz.call132
      | 133, _, _ => exact Tryz.call133
      | 134, _, _ => exact Tryz.call134
      | 135, _, _ => exact Tryz.call135
      | 136, _, _ => exact Tryz.call136
      | 137, _, _ => exact Tryz.call137
      | 138, _, _ => exact Tryz.call138
      | 139, _, _ => exact Tryz.call139
      | 140, _, _ => exact Tryz.call140
      | 141, _, _ => exact Tryz.call141
      | 142, _, _ => exact Tryz.call142
      | 143, _, _ => exact Tryz.call143
      | 144, _, _ => exact Tryz.call144
      | 145, _, _ => exact Tryz.call145
      | 146, _, _ => exact Tryz.call146
      | 147, _, _ => exact Tryz.call147
      | 148, _, _ => exact Tryz.call148
      | 149, _, _ => exact Tryz.call149
      | 150, _, _ => exact Tryz.call150
      | 151, _, _ => exact Tryz.call151
      | 152, _, _ => exact Tryz.call152
      | 153, _, _ => exact Tryz.call153
      | 154, _, _ => exact Tryz.call154
      | 155, _, h => exact absurd (show false = true from h) (by simp)
      | 156, _, h => exact absurd (show false = true from h) (by simp)
      | 157, _, h => exact absurd (show false = true from h) (by simp)
      | 158, _, h => exact absurd (show false = true from h) (by simp)
      | 159, _, h => exact absurd (show false = true from h) (by simp)
      | 160, _, h => exact absurd (show false = true from h) (by simp)
      | 161, _, h => exact absurd (show false = true from h) (by simp)
      | 162, _, h => exact absurd (show false = true from h) (by simp)
      | 163, _, h => exact absurd (show false = true from h) (by simp)
      | 164, _, h => exact absurd (show false = true from h) (by simp)
      | 165, _, h => exact absurd (show false = true from h) (by simp)
      | 166, _, h => exact absurd (show false = true from h) (by simp)
      | 167, _, h => exact absurd (show false = true from h) (by simp)
      | 168, _, h => exact absurd (show false = true from h) (by simp)
      | 169, _, h => exact absurd (show false = true from h) (by simp)
      | 170, _, h => exact absurd (show false = true from h) (by simp)
      | 171, _, h => exact absurd (show false = true from h) (by simp)
      | 172, _, h => exact absurd (show false = true from h) (by simp)
      | 173, _, h => exact absurd (show false = true from h) (by simp)
      | 174, _, h => exact absurd (show false = true from h) (by simp)
      | 175, _, h => exact absurd (show false = true from h) (by simp)
      | 176, _, h => exact absurd (show false = true from h) (by simp)
      | 177, _, h => exact absurd (show false = true from h) (by simp)
      | 178, _, h => exact absurd (show false = true from h) (by simp)
      | 179, _, h => exact absurd (show false = true from h) (by simp)
      | 180, _, h => exact absurd (show false = true from h) (by simp)
      | 181, _, h => exact absurd (show false = true from h) (by simp)
      | 182, _, h => exact absurd (show false = true from h) (by simp)
      | 183, _, h => exact absurd (show false = true from h) (by simp)
      | 184, _, h => exact absurd (show false = true from h) (by simp)
      | 185, _, h => exact absurd (show false = true from h) (by simp)
      | 186, _, h => exact absurd (show false = true from h) (by simp)
      | 187, _, h => exact absurd (show false = true from h) (by simp)
      | 188, _, h => exact absurd (show false = true from h) (by simp)
      | 189, _, h => exact absurd (show false = true from h) (by simp)
      | 190, _, h => exact absurd (show false = true from h) (by simp)
      | 191, _, h => exact absurd (show false = true from h) (by simp)
      | 192, _, h => exact absurd (show false = true from h) (by simp)
      | 193, _, h => exact absurd (show false = true from h) (by simp)
      | 194, _, _ => exact Tryz.call194
      | 195, _, h => exact absurd (show false = true from h) (by simp)
      | 196, _, h => exact absurd (show false = true from h) (by simp)
      | 197, _, h => exact absurd (show false = true from h) (by simp)
      | 198, _, h => exact absurd (show false = true from h) (by simp)
      | 199, _, h => exact absurd (show false = true from h) (by simp)
      | 200, _, h => exact absurd (show false = true from h) (by simp)
      | 201, _, h => exact absurd (show false = true from h) (by simp)
      | 202, _, h => exact absurd (show false = true from h) (by simp)
      | 203, _, h => exact absurd (show false = true from h) (by simp)
      | 204, _, h => exact absurd (show false = true from h) (by simp)
      | 205, _, h => exact absurd (show false = true from h) (by simp)
      | 206, _, h => exact absurd (show false = true from h) (by simp)
      | 207, _, h => exact absurd (show false = true from h) (by simp)
      | n + 208, hlt, _ => omega
    · have hl : fnRows.length = 13 := rfl
      have : nth fnRows (g / 16) = none := nth_none (l := fnRows) (i := g / 16) (by rw [hl]; omega)
      have h : fnAt g = true := h
      unfold fnAt at h
      rw [this] at h
      cases h
  ext := by
    intro g f h args w
    have h : extAt g = some f := h
    unfold extAt at h
    cases e27 : Nat.beq g 27 with
    | true =>
      have hg : g = 27 := Nat.eq_of_beq_eq_true e27
      subst hg
      exact run_callFunc_extern Tryz.func27 (by kernel_rfl) (by kernel_rfl) (by kernel_rfl) (show _ = _ from (show _ = some _ by kernel_rfl : _ = some _).trans h) args w
    | false =>
    simp only [e27, cond_false] at h
    cases e33 : Nat.beq g 33 with
    | true =>
      have hg : g = 33 := Nat.eq_of_beq_eq_true e33
      subst hg
      exact run_callFunc_extern Tryz.func33 (by kernel_rfl) (by kernel_rfl) (by kernel_rfl) (show _ = _ from (show _ = some _ by kernel_rfl : _ = some _).trans h) args w
    | false =>
    simp only [e33, cond_false] at h
    cases e93 : Nat.beq g 93 with
    | true =>
      have hg : g = 93 := Nat.eq_of_beq_eq_true e93
      subst hg
      exact run_callFunc_extern Tryz.func93 (by kernel_rfl) (by kernel_rfl) (by kernel_rfl) (show _ = _ from (show _ = some _ by kernel_rfl : _ = some _).trans h) args w
    | false =>
    simp only [e93, cond_false] at h
    cases e94 : Nat.beq g 94 with
    | true =>
      have hg : g = 94 := Nat.eq_of_beq_eq_true e94
      subst hg
      exact run_callFunc_extern Tryz.func94 (by kernel_rfl) (by kernel_rfl) (by kernel_rfl) (show _ = _ from (show _ = some _ by kernel_rfl : _ = some _).trans h) args w
    | false =>
    simp only [e94, cond_false] at h
    cases e111 : Nat.beq g 111 with
    | true =>
      have hg : g = 111 := Nat.eq_of_beq_eq_true e111
      subst hg
      exact run_callFunc_extern Tryz.func111 (by kernel_rfl) (by kernel_rfl) (by kernel_rfl) (show _ = _ from (show _ = some _ by kernel_rfl : _ = some _).trans h) args w
    | false =>
    simp only [e111, cond_false] at h
    cases e117 : Nat.beq g 117 with
    | true =>
      have hg : g = 117 := Nat.eq_of_beq_eq_true e117
      subst hg
      exact run_callFunc_extern Tryz.func117 (by kernel_rfl) (by kernel_rfl) (by kernel_rfl) (show _ = _ from (show _ = some _ by kernel_rfl : _ = some _).trans h) args w
    | false =>
    simp only [e117, cond_false] at h
    cases e123 : Nat.beq g 123 with
    | true =>
      have hg : g = 123 := Nat.eq_of_beq_eq_true e123
      subst hg
      exact run_callFunc_extern Tryz.func123 (by kernel_rfl) (by kernel_rfl) (by kernel_rfl) (show _ = _ from (show _ = some _ by kernel_rfl : _ = some _).trans h) args w
    | false =>
    simp only [e123, cond_false] at h
    cases e125 : Nat.beq g 125 with
    | true =>
      have hg : g = 125 := Nat.eq_of_beq_eq_true e125
      subst hg
      exact run_callFunc_extern Tryz.func125 (by kernel_rfl) (by kernel_rfl) (by kernel_rfl) (show _ = _ from (show _ = some _ by kernel_rfl : _ = some _).trans h) args w
    | false =>
    simp only [e125, cond_false] at h
    cases h
  mixed := by kernel_rfl

end Lf

/-
  By program: a call does what its text tells.
-/
set_option maxRecDepth 100000
namespace Lf
open Go Go.Proofs

theorem firebreaklaw05_FltNames_eq  (Q : (Bool → (Hp → Prop))) (h : Hp) : funW ⟨Tryz.prog, tb, firebreaklaw05_FltNames_p⟩ Tryz.f3 firebreaklaw05_FltNames_a [] (Q) h = firebreaklaw05_FltNames_w Tryz.prog  Q h := by kernel_rfl
theorem firebreaklaw05_FltNames_call {Q : (Bool → (Hp → Prop))} {h : Hp} (hv : firebreaklaw05_FltNames_w Tryz.prog  Q h) : CallT Tryz.prog n_firebreaklaw05_FltNames [] (shBool) Q h :=
  show CallT Tryz.prog n_firebreaklaw05_FltNames [] (shRes tb [4]) (Q) h from fun_sound (C := ⟨Tryz.prog, tb, firebreaklaw05_FltNames_p⟩) tb_ok Tryz.func3 rfl (Eq.mpr (firebreaklaw05_FltNames_eq  Q h) hv)

theorem firebreaklaw05_FltDoes_eq (op : Int) (b : Int) (c : Int) (Q : (Bool → (Hp → Prop))) (h : Hp) : funW ⟨Tryz.prog, tb, firebreaklaw05_FltDoes_p⟩ Tryz.f4 firebreaklaw05_FltDoes_a [(shInt .i64).enc op, (shInt .i64).enc b, (shInt .i64).enc c] (Q) h = firebreaklaw05_FltDoes_w Tryz.prog op b c Q h := by kernel_rfl
theorem firebreaklaw05_FltDoes_call {op : Int} {b : Int} {c : Int} {Q : (Bool → (Hp → Prop))} {h : Hp} (hv : firebreaklaw05_FltDoes_w Tryz.prog op b c Q h) : CallT Tryz.prog n_firebreaklaw05_FltDoes [(shInt .i64).enc op, (shInt .i64).enc b, (shInt .i64).enc c] (shBool) Q h :=
  show CallT Tryz.prog n_firebreaklaw05_FltDoes [(shInt .i64).enc op, (shInt .i64).enc b, (shInt .i64).enc c] (shRes tb [4]) (Q) h from fun_sound (C := ⟨Tryz.prog, tb, firebreaklaw05_FltDoes_p⟩) tb_ok Tryz.func4 rfl (Eq.mpr (firebreaklaw05_FltDoes_eq op b c Q h) hv)

theorem firebreaklaw05_FltFollows_eq (a : Int) (b : Int) (Q : (Bool → (Hp → Prop))) (h : Hp) : funW ⟨Tryz.prog, tb, firebreaklaw05_FltFollows_p⟩ Tryz.f5 firebreaklaw05_FltFollows_a [(shInt .i64).enc a, (shInt .i64).enc b] (Q) h = firebreaklaw05_FltFollows_w Tryz.prog a b Q h := by kernel_rfl
theorem firebreaklaw05_FltFollows_call {a : Int} {b : Int} {Q : (Bool → (Hp → Prop))} {h : Hp} (hv : firebreaklaw05_FltFollows_w Tryz.prog a b Q h) : CallT Tryz.prog n_firebreaklaw05_FltFollows [(shInt .i64).enc a, (shInt .i64).enc b] (shBool) Q h :=
  show CallT Tryz.prog n_firebreaklaw05_FltFollows [(shInt .i64).enc a, (shInt .i64).enc b] (shRes tb [4]) (Q) h from fun_sound (C := ⟨Tryz.prog, tb, firebreaklaw05_FltFollows_p⟩) tb_ok Tryz.func5 rfl (Eq.mpr (firebreaklaw05_FltFollows_eq a b Q h) hv)

theorem firebreaklaw05_FltWhole_eq (n : Int) (m : Int) (Q : (Bool → (Hp → Prop))) (h : Hp) : funW ⟨Tryz.prog, tb, firebreaklaw05_FltWhole_p⟩ Tryz.f6 firebreaklaw05_FltWhole_a [(shInt .i64).enc n, (shInt .i64).enc m] (Q) h = firebreaklaw05_FltWhole_w Tryz.prog n m Q h := by kernel_rfl
theorem firebreaklaw05_FltWhole_call {n : Int} {m : Int} {Q : (Bool → (Hp → Prop))} {h : Hp} (hv : firebreaklaw05_FltWhole_w Tryz.prog n m Q h) : CallT Tryz.prog n_firebreaklaw05_FltWhole [(shInt .i64).enc n, (shInt .i64).enc m] (shBool) Q h :=
  show CallT Tryz.prog n_firebreaklaw05_FltWhole [(shInt .i64).enc n, (shInt .i64).enc m] (shRes tb [4]) (Q) h from fun_sound (C := ⟨Tryz.prog, tb, firebreaklaw05_FltWhole_p⟩) tb_ok Tryz.func6 rfl (Eq.mpr (firebreaklaw05_FltWhole_eq n m Q h) hv)

theorem firebreaklaw05_fixed_eq  (Q : (Bool → (Hp → Prop))) (h : Hp) : funW ⟨Tryz.prog, tb, firebreaklaw05_fixed_p⟩ Tryz.f7 firebreaklaw05_fixed_a [] (Q) h = firebreaklaw05_fixed_w Tryz.prog  Q h := by kernel_rfl
theorem firebreaklaw05_fixed_call {Q : (Bool → (Hp → Prop))} {h : Hp} (hv : firebreaklaw05_fixed_w Tryz.prog  Q h) : CallT Tryz.prog n_firebreaklaw05_fixed [] (shBool) Q h :=
  show CallT Tryz.prog n_firebreaklaw05_fixed [] (shRes tb [4]) (Q) h from fun_sound (C := ⟨Tryz.prog, tb, firebreaklaw05_fixed_p⟩) tb_ok Tryz.func7 rfl (Eq.mpr (firebreaklaw05_fixed_eq  Q h) hv)

theorem flt_Do_eq (op : Int) (b : Int) (c : Int) (Q : (Int → (Int → (Hp → Prop)))) (h : Hp) : funW ⟨Tryz.prog, tb, flt_Do_p⟩ Tryz.f8 flt_Do_a [(shInt .i64).enc op, (shInt .i64).enc b, (shInt .i64).enc c] (fun r => Q r.1 r.2) h = flt_Do_w Tryz.prog op b c Q h := by kernel_rfl
theorem flt_Do_call {op : Int} {b : Int} {c : Int} {Q : (Int → (Int → (Hp → Prop)))} {h : Hp} (hv : flt_Do_w Tryz.prog op b c Q h) : Call2 Tryz.prog n_flt_Do [(shInt .i64).enc op, (shInt .i64).enc b, (shInt .i64).enc c] (shInt .i64) (shInt .i64) Q h :=
  show CallT Tryz.prog n_flt_Do [(shInt .i64).enc op, (shInt .i64).enc b, (shInt .i64).enc c] (shRes tb [2, 23]) (fun r => Q r.1 r.2) h from fun_sound (C := ⟨Tryz.prog, tb, flt_Do_p⟩) tb_ok Tryz.func8 rfl (Eq.mpr (flt_Do_eq op b c Q h) hv)

theorem firebreakref05_Do_eq (op : Int) (b : Int) (c : Int) (Q : (Int → (Int → (Hp → Prop)))) (h : Hp) : funW ⟨Tryz.prog, tb, firebreakref05_Do_p⟩ Tryz.f9 firebreakref05_Do_a [(shInt .i64).enc op, (shInt .i64).enc b, (shInt .i64).enc c] (fun r => Q r.1 r.2) h = firebreakref05_Do_w Tryz.prog op b c Q h := by kernel_rfl
theorem firebreakref05_Do_call {op : Int} {b : Int} {c : Int} {Q : (Int → (Int → (Hp → Prop)))} {h : Hp} (hv : firebreakref05_Do_w Tryz.prog op b c Q h) : Call2 Tryz.prog n_firebreakref05_Do [(shInt .i64).enc op, (shInt .i64).enc b, (shInt .i64).enc c] (shInt .i64) (shInt .i64) Q h :=
  show CallT Tryz.prog n_firebreakref05_Do [(shInt .i64).enc op, (shInt .i64).enc b, (shInt .i64).enc c] (shRes tb [2, 23]) (fun r => Q r.1 r.2) h from fun_sound (C := ⟨Tryz.prog, tb, firebreakref05_Do_p⟩) tb_ok Tryz.func9 rfl (Eq.mpr (firebreakref05_Do_eq op b c Q h) hv)

theorem firebreaklaw05_do_eq (op : Int) (b : Int) (c : Int) (Q : (Int → (Hp → Prop))) (h : Hp) : funW ⟨Tryz.prog, tb, firebreaklaw05_do_p⟩ Tryz.f10 firebreaklaw05_do_a [(shInt .i64).enc op, (shInt .i64).enc b, (shInt .i64).enc c] (Q) h = firebreaklaw05_do_w Tryz.prog op b c Q h := by kernel_rfl
theorem firebreaklaw05_do_call {op : Int} {b : Int} {c : Int} {Q : (Int → (Hp → Prop))} {h : Hp} (hv : firebreaklaw05_do_w Tryz.prog op b c Q h) : CallT Tryz.prog n_firebreaklaw05_do [(shInt .i64).enc op, (shInt .i64).enc b, (shInt .i64).enc c] (shInt .i64) Q h :=
  show CallT Tryz.prog n_firebreaklaw05_do [(shInt .i64).enc op, (shInt .i64).enc b, (shInt .i64).enc c] (shRes tb [2]) (Q) h from fun_sound (C := ⟨Tryz.prog, tb, firebreaklaw05_do_p⟩) tb_ok Tryz.func10 rfl (Eq.mpr (firebreaklaw05_do_eq op b c Q h) hv)

theorem firebreaklaw05_isNaN_eq (a : Int) (Q : (Bool → (Hp → Prop))) (h : Hp) : funW ⟨Tryz.prog, tb, firebreaklaw05_isNaN_p⟩ Tryz.f11 firebreaklaw05_isNaN_a [(shInt .i64).enc a] (Q) h = firebreaklaw05_isNaN_w Tryz.prog a Q h := by kernel_rfl
theorem firebreaklaw05_isNaN_call {a : Int} {Q : (Bool → (Hp → Prop))} {h : Hp} (hv : firebreaklaw05_isNaN_w Tryz.prog a Q h) : CallT Tryz.prog n_firebreaklaw05_isNaN [(shInt .i64).enc a] (shBool) Q h :=
  show CallT Tryz.prog n_firebreaklaw05_isNaN [(shInt .i64).enc a] (shRes tb [4]) (Q) h from fun_sound (C := ⟨Tryz.prog, tb, firebreaklaw05_isNaN_p⟩) tb_ok Tryz.func11 rfl (Eq.mpr (firebreaklaw05_isNaN_eq a Q h) hv)

theorem flt_Parse_eq (text : ByteArray) (Q : (Int → (Int → (Hp → Prop)))) (h : Hp) : funW ⟨Tryz.prog, tb, flt_Parse_p⟩ Tryz.f12 flt_Parse_a [(shStr).enc text] (fun r => Q r.1 r.2) h = flt_Parse_w Tryz.prog text Q h := by kernel_rfl
theorem flt_Parse_call {text : ByteArray} {Q : (Int → (Int → (Hp → Prop)))} {h : Hp} (hv : flt_Parse_w Tryz.prog text Q h) : Call2 Tryz.prog n_flt_Parse [(shStr).enc text] (shInt .i64) (shInt .i64) Q h :=
  show CallT Tryz.prog n_flt_Parse [(shStr).enc text] (shRes tb [2, 23]) (fun r => Q r.1 r.2) h from fun_sound (C := ⟨Tryz.prog, tb, flt_Parse_p⟩) tb_ok Tryz.func12 rfl (Eq.mpr (flt_Parse_eq text Q h) hv)

theorem flt_Print_eq (bits : Int) (Q : (ByteArray → (Hp → Prop))) (h : Hp) : funW ⟨Tryz.prog, tb, flt_Print_p⟩ Tryz.f13 flt_Print_a [(shInt .i64).enc bits] (Q) h = flt_Print_w Tryz.prog bits Q h := by kernel_rfl
theorem flt_Print_call {bits : Int} {Q : (ByteArray → (Hp → Prop))} {h : Hp} (hv : flt_Print_w Tryz.prog bits Q h) : CallT Tryz.prog n_flt_Print [(shInt .i64).enc bits] (shStr) Q h :=
  show CallT Tryz.prog n_flt_Print [(shInt .i64).enc bits] (shRes tb [9]) (Q) h from fun_sound (C := ⟨Tryz.prog, tb, flt_Print_p⟩) tb_ok Tryz.func13 rfl (Eq.mpr (flt_Print_eq bits Q h) hv)

theorem flt_float_eq (bits : Int) (Q : (Nat → (Hp → Prop))) (h : Hp) : funW ⟨Tryz.prog, tb, flt_float_p⟩ Tryz.f14 flt_float_a [(shInt .i64).enc bits] (Q) h = flt_float_w Tryz.prog bits Q h := by kernel_rfl
theorem flt_float_call {bits : Int} {Q : (Nat → (Hp → Prop))} {h : Hp} (hv : flt_float_w Tryz.prog bits Q h) : CallT Tryz.prog n_flt_float [(shInt .i64).enc bits] (shFlt .f64) Q h :=
  show CallT Tryz.prog n_flt_float [(shInt .i64).enc bits] (shRes tb [34]) (Q) h from fun_sound (C := ⟨Tryz.prog, tb, flt_float_p⟩) tb_ok Tryz.func14 rfl (Eq.mpr (flt_float_eq bits Q h) hv)

theorem flt_bits_eq (f : Nat) (Q : (Int → (Hp → Prop))) (h : Hp) : funW ⟨Tryz.prog, tb, flt_bits_p⟩ Tryz.f15 flt_bits_a [(shFlt .f64).enc f] (Q) h = flt_bits_w Tryz.prog f Q h := by kernel_rfl
theorem flt_bits_call {f : Nat} {Q : (Int → (Hp → Prop))} {h : Hp} (hv : flt_bits_w Tryz.prog f Q h) : CallT Tryz.prog n_flt_bits [(shFlt .f64).enc f] (shInt .i64) Q h :=
  show CallT Tryz.prog n_flt_bits [(shFlt .f64).enc f] (shRes tb [2]) (Q) h from fun_sound (C := ⟨Tryz.prog, tb, flt_bits_p⟩) tb_ok Tryz.func15 rfl (Eq.mpr (flt_bits_eq f Q h) hv)

theorem flt_whole_eq (f : Nat) (Q : (Int → (Hp → Prop))) (h : Hp) : funW ⟨Tryz.prog, tb, flt_whole_p⟩ Tryz.f16 flt_whole_a [(shFlt .f64).enc f] (Q) h = flt_whole_w Tryz.prog f Q h := by kernel_rfl
theorem flt_whole_call {f : Nat} {Q : (Int → (Hp → Prop))} {h : Hp} (hv : flt_whole_w Tryz.prog f Q h) : CallT Tryz.prog n_flt_whole [(shFlt .f64).enc f] (shInt .i64) Q h :=
  show CallT Tryz.prog n_flt_whole [(shFlt .f64).enc f] (shRes tb [2]) (Q) h from fun_sound (C := ⟨Tryz.prog, tb, flt_whole_p⟩) tb_ok Tryz.func16 rfl (Eq.mpr (flt_whole_eq f Q h) hv)

theorem firebreakref05_add_eq (a : Int) (b : Int) (Q : (Int → (Hp → Prop))) (h : Hp) : funW ⟨Tryz.prog, tb, firebreakref05_add_p⟩ Tryz.f17 firebreakref05_add_a [(shInt .u64).enc a, (shInt .u64).enc b] (Q) h = firebreakref05_add_w Tryz.prog a b Q h := by kernel_rfl
theorem firebreakref05_add_call {a : Int} {b : Int} {Q : (Int → (Hp → Prop))} {h : Hp} (hv : firebreakref05_add_w Tryz.prog a b Q h) : CallT Tryz.prog n_firebreakref05_add [(shInt .u64).enc a, (shInt .u64).enc b] (shInt .u64) Q h :=
  show CallT Tryz.prog n_firebreakref05_add [(shInt .u64).enc a, (shInt .u64).enc b] (shRes tb [31]) (Q) h from fun_sound (C := ⟨Tryz.prog, tb, firebreakref05_add_p⟩) tb_ok Tryz.func17 rfl (Eq.mpr (firebreakref05_add_eq a b Q h) hv)

theorem firebreakref05_isNaN_eq (a : Int) (Q : (Bool → (Hp → Prop))) (h : Hp) : funW ⟨Tryz.prog, tb, firebreakref05_isNaN_p⟩ Tryz.f18 firebreakref05_isNaN_a [(shInt .u64).enc a] (Q) h = firebreakref05_isNaN_w Tryz.prog a Q h := by kernel_rfl
theorem firebreakref05_isNaN_call {a : Int} {Q : (Bool → (Hp → Prop))} {h : Hp} (hv : firebreakref05_isNaN_w Tryz.prog a Q h) : CallT Tryz.prog n_firebreakref05_isNaN [(shInt .u64).enc a] (shBool) Q h :=
  show CallT Tryz.prog n_firebreakref05_isNaN [(shInt .u64).enc a] (shRes tb [4]) (Q) h from fun_sound (C := ⟨Tryz.prog, tb, firebreakref05_isNaN_p⟩) tb_ok Tryz.func18 rfl (Eq.mpr (firebreakref05_isNaN_eq a Q h) hv)

theorem firebreakref05_mul_eq (a : Int) (b : Int) (Q : (Int → (Hp → Prop))) (h : Hp) : funW ⟨Tryz.prog, tb, firebreakref05_mul_p⟩ Tryz.f19 firebreakref05_mul_a [(shInt .u64).enc a, (shInt .u64).enc b] (Q) h = firebreakref05_mul_w Tryz.prog a b Q h := by kernel_rfl
theorem firebreakref05_mul_call {a : Int} {b : Int} {Q : (Int → (Hp → Prop))} {h : Hp} (hv : firebreakref05_mul_w Tryz.prog a b Q h) : CallT Tryz.prog n_firebreakref05_mul [(shInt .u64).enc a, (shInt .u64).enc b] (shInt .u64) Q h :=
  show CallT Tryz.prog n_firebreakref05_mul [(shInt .u64).enc a, (shInt .u64).enc b] (shRes tb [31]) (Q) h from fun_sound (C := ⟨Tryz.prog, tb, firebreakref05_mul_p⟩) tb_ok Tryz.func19 rfl (Eq.mpr (firebreakref05_mul_eq a b Q h) hv)

theorem firebreakref05_div_eq (a : Int) (b : Int) (Q : (Int → (Hp → Prop))) (h : Hp) : funW ⟨Tryz.prog, tb, firebreakref05_div_p⟩ Tryz.f20 firebreakref05_div_a [(shInt .u64).enc a, (shInt .u64).enc b] (Q) h = firebreakref05_div_w Tryz.prog a b Q h := by kernel_rfl
theorem firebreakref05_div_call {a : Int} {b : Int} {Q : (Int → (Hp → Prop))} {h : Hp} (hv : firebreakref05_div_w Tryz.prog a b Q h) : CallT Tryz.prog n_firebreakref05_div [(shInt .u64).enc a, (shInt .u64).enc b] (shInt .u64) Q h :=
  show CallT Tryz.prog n_firebreakref05_div [(shInt .u64).enc a, (shInt .u64).enc b] (shRes tb [31]) (Q) h from fun_sound (C := ⟨Tryz.prog, tb, firebreakref05_div_p⟩) tb_ok Tryz.func20 rfl (Eq.mpr (firebreakref05_div_eq a b Q h) hv)

theorem firebreakref05_below_eq (a : Int) (b : Int) (Q : (Int → (Hp → Prop))) (h : Hp) : funW ⟨Tryz.prog, tb, firebreakref05_below_p⟩ Tryz.f21 firebreakref05_below_a [(shInt .u64).enc a, (shInt .u64).enc b] (Q) h = firebreakref05_below_w Tryz.prog a b Q h := by kernel_rfl
theorem firebreakref05_below_call {a : Int} {b : Int} {Q : (Int → (Hp → Prop))} {h : Hp} (hv : firebreakref05_below_w Tryz.prog a b Q h) : CallT Tryz.prog n_firebreakref05_below [(shInt .u64).enc a, (shInt .u64).enc b] (shInt .i64) Q h :=
  show CallT Tryz.prog n_firebreakref05_below [(shInt .u64).enc a, (shInt .u64).enc b] (shRes tb [2]) (Q) h from fun_sound (C := ⟨Tryz.prog, tb, firebreakref05_below_p⟩) tb_ok Tryz.func21 rfl (Eq.mpr (firebreakref05_below_eq a b Q h) hv)

theorem firebreakref05_float_eq (n : Int) (Q : (Int → (Hp → Prop))) (h : Hp) : funW ⟨Tryz.prog, tb, firebreakref05_float_p⟩ Tryz.f22 firebreakref05_float_a [(shInt .i64).enc n] (Q) h = firebreakref05_float_w Tryz.prog n Q h := by kernel_rfl
theorem firebreakref05_float_call {n : Int} {Q : (Int → (Hp → Prop))} {h : Hp} (hv : firebreakref05_float_w Tryz.prog n Q h) : CallT Tryz.prog n_firebreakref05_float [(shInt .i64).enc n] (shInt .u64) Q h :=
  show CallT Tryz.prog n_firebreakref05_float [(shInt .i64).enc n] (shRes tb [31]) (Q) h from fun_sound (C := ⟨Tryz.prog, tb, firebreakref05_float_p⟩) tb_ok Tryz.func22 rfl (Eq.mpr (firebreakref05_float_eq n Q h) hv)

theorem firebreakref05_whole_eq (a : Int) (Q : (Int → (Hp → Prop))) (h : Hp) : funW ⟨Tryz.prog, tb, firebreakref05_whole_p⟩ Tryz.f23 firebreakref05_whole_a [(shInt .u64).enc a] (Q) h = firebreakref05_whole_w Tryz.prog a Q h := by kernel_rfl
theorem firebreakref05_whole_call {a : Int} {Q : (Int → (Hp → Prop))} {h : Hp} (hv : firebreakref05_whole_w Tryz.prog a Q h) : CallT Tryz.prog n_firebreakref05_whole [(shInt .u64).enc a] (shInt .i64) Q h :=
  show CallT Tryz.prog n_firebreakref05_whole [(shInt .u64).enc a] (shRes tb [2]) (Q) h from fun_sound (C := ⟨Tryz.prog, tb, firebreakref05_whole_p⟩) tb_ok Tryz.func23 rfl (Eq.mpr (firebreakref05_whole_eq a Q h) hv)

theorem strings_CutPrefix_eq (s : ByteArray) (prefix_ : ByteArray) (Q : (ByteArray → (Bool → (Hp → Prop)))) (h : Hp) : funW ⟨Tryz.prog, tb, strings_CutPrefix_p⟩ Tryz.f24 strings_CutPrefix_a [(shStr).enc s, (shStr).enc prefix_] (fun r => Q r.1 r.2) h = strings_CutPrefix_w Tryz.prog s prefix_ Q h := by kernel_rfl
theorem strings_CutPrefix_call {s : ByteArray} {prefix_ : ByteArray} {Q : (ByteArray → (Bool → (Hp → Prop)))} {h : Hp} (hv : strings_CutPrefix_w Tryz.prog s prefix_ Q h) : Call2 Tryz.prog n_strings_CutPrefix [(shStr).enc s, (shStr).enc prefix_] (shStr) (shBool) Q h :=
  show CallT Tryz.prog n_strings_CutPrefix [(shStr).enc s, (shStr).enc prefix_] (shRes tb [9, 4]) (fun r => Q r.1 r.2) h from fun_sound (C := ⟨Tryz.prog, tb, strings_CutPrefix_p⟩) tb_ok Tryz.func24 rfl (Eq.mpr (strings_CutPrefix_eq s prefix_ Q h) hv)

end Lf

