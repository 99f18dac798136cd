/-
  By program: what the functions do.
-/
import Derived.Test.YtoffikpplbiohaaLfTab
import Derived.Test.YtoffikpplbiohaaLfWrap
set_option linter.unusedVariables false
namespace Lf
open Go

def firebreaklaw02_TableNames_w (P : Program)  (Q : (Bool → (Hp → Prop))) (h : Hp) : Prop :=
 EffC (some true) (CallT P n_firebreaklaw02_awake [] shBool) (fun r h1 =>
 LetW (true && r) fun y =>
 Q y h1) h

def firebreaklaw02_TableTells_w (P : Program) (l : Sl) (asks : Sl) (numbers : Sl) (Q : (Bool → (Hp → Prop))) (h : Hp) : Prop :=
 CallT P n_firebreaklaw02_awake [] shBool (fun r h1 =>
 (if (!r) = true then
 Q false h1
 else
 (((0 : Int) ≤ (min2I ((l.len : Nat) : Int) (300 : Int)) ∧ (min2I ((l.len : Nat) : Int) (300 : Int)) ≤ ((l.cap : Nat) : Int)) ∧ LetW (α := Sl) ⟨(sbase l.base 1 0 l.cap), ((Int.toNat (min2I ((l.len : Nat) : Int) (300 : Int))) - 0), (l.cap - 0)⟩ fun y =>
 CallT P n_firebreakref02_Canon [y.v] shSl (fun r1 h2 =>
 (((0 : Int) ≤ (min2I ((r1.len : Nat) : Int) (8 : Int)) ∧ (min2I ((r1.len : Nat) : Int) (8 : Int)) ≤ ((r1.cap : Nat) : Int)) ∧ LetW (α := Sl) ⟨(sbase r1.base 1 0 r1.cap), ((Int.toNat (min2I ((r1.len : Nat) : Int) (8 : Int))) - 0), (r1.cap - 0)⟩ fun y1 =>
 CallT P n_firebreaklaw02_wide [y1.v] shSl (fun r2 h3 =>
 Call3 P n_table_New [r2.v] shPtr (shInt .i64) (shInt .i64) (fun r3 r4 r5 h4 =>
 (if (((y1.len : Nat) : Int) == (0 : Int)) = true then
 LetW ((r4 == (1 : Int)) && (Option.isNone r3)) fun y2 =>
 Q y2 h4
 else
 LetW ((r4 != (0 : Int)) || (Option.isNone r3)) fun y2 =>
 EffC (some (!y2)) (CallT P n_table_Table_Len [(.pointer r3)] (shInt .i64)) (fun r6 h5 =>
 LetW (y2 || (r6 != ((y1.len : Nat) : Int))) fun y3 =>
 (if y3 = true then
 Q false h5
 else
 NewW [(.int .i64 (-2 : Int)), (.int .i64 (-1 : Int)), (.int .i64 (0 : Int)), (.int .i64 (1 : Int)), (.int .i64 (2 : Int)), (.int .i64 (3 : Int)), (.int .i64 (4 : Int)), (.int .i64 (5 : Int)), (.int .i64 (6 : Int)), (.int .i64 (7 : Int)), (.int .i64 (8 : Int)), (.int .i64 (9 : Int))] (fun a h6 =>
 (((0 : Int) ≤ (min2I ((numbers.len : Nat) : Int) (100 : Int)) ∧ (min2I ((numbers.len : Nat) : Int) (100 : Int)) ≤ ((numbers.cap : Nat) : Int)) ∧ LetW (α := Sl) ⟨(sbase numbers.base 1 0 numbers.cap), ((Int.toNat (min2I ((numbers.len : Nat) : Int) (100 : Int))) - 0), (numbers.cap - 0)⟩ fun y4 =>
 AppendW 1 8 [(.int .i64 (0 : Int))] ⟨(some a), 12, 12⟩ y4 (fun r7 h7 =>
 LoopW1 (α1 := Int) (fun again t80 h8 =>
 (if (decide (t80 < ((r7.len : Nat) : Int))) = true then
 ((InB r7.base r7.len t80) ∧ LdW none (shInt .i64) h8 (sat r7.base 1 t80) fun x =>
 Call2 P n_table_Table_Label [(.pointer r3), (.int .i64 x)] (shInt .u64) (shInt .i64) (fun r8 r9 h9 =>
 LetW ((decide (x ≥ (0 : Int))) && (decide (x < ((y1.len : Nat) : Int)))) fun y5 =>
 (((y5 && (!(r9 != (0 : Int)))) = true → (InB y1.base y1.len x)) ∧ LdW (some (y5 && (!(r9 != (0 : Int))))) (shInt .u64) h9 (sat y1.base 1 x) fun x1 =>
 LetW ((r9 != (0 : Int)) || (r8 != x1)) fun y6 =>
 LetW (y5 && y6) fun y7 =>
 LetW ((r9 != (2 : Int)) || (r8 != (0 : Int))) fun y8 =>
 LetW ((!y5) && y8) fun y9 =>
 LetW (y7 || y9) fun y10 =>
 EffC (some (!y10)) (CallT P n_table_Table_Up [(.pointer r3), (.int .i64 x)] shSl) (fun r10 h10 =>
 EffC (some (!y10)) (CallT P n_firebreakref02_Up [y1.v, (.int .i64 x)] shSl) (fun r11 h11 =>
 EffC (some (!y10)) (CallT P n_firebreakref02_SameInts [r10.v, r11.v] shBool) (fun r12 h12 =>
 LetW (y10 || (!r12)) fun y11 =>
 (if y11 = true then
 Q false h12
 else
 LoopW1 (α1 := Int) (fun again1 j h13 =>
 (if (decide (j < (9 : Int))) = true then
 CallT P n_table_Table_Flows [(.pointer r3), (.int .i64 x), (.int .i64 j)] shBool (fun r13 h14 =>
 CallT P n_firebreakref02_Flows [y1.v, (.int .i64 x), (.int .i64 j)] shBool (fun r14 h15 =>
 EffC (some (!(!(r13 == r14)))) (CallT P n_table_Table_Flows [(.pointer r3), (.int .i64 j), (.int .i64 x)] shBool) (fun r15 h16 =>
 EffC (some (!(!(r13 == r14)))) (CallT P n_firebreakref02_Flows [y1.v, (.int .i64 j), (.int .i64 x)] shBool) (fun r16 h17 =>
 LetW ((!(r13 == r14)) || (!(r15 == r16))) fun y12 =>
 (if y12 = true then
 Q false h17
 else
 again1 (IntKind.wrap .i64 (j + (1 : Int))) h17)) h16) h15) h14) h13
 else
 again (IntKind.wrap .i64 (t80 + (1 : Int))) h13)) (-1 : Int) h12)) h11) h10) h9)) h8)
 else
 LoopW1 (α1 := Int) (fun again1 t160 h9 =>
 (if (decide (t160 < ((y1.len : Nat) : Int))) = true then
 ((InB y1.base y1.len t160) ∧ LdW none (shInt .u64) h9 (sat y1.base 1 t160) fun x =>
 Call2 P n_table_Table_Index [(.pointer r3), (.int .u64 x)] (shInt .i64) shBool (fun r8 r9 h10 =>
 LetW ((!r9) || (decide (r8 < (0 : Int)))) fun y5 =>
 LetW (y5 || (decide (r8 ≥ ((y1.len : Nat) : Int)))) fun y6 =>
 (((!y6) = true → (InB y1.base y1.len r8)) ∧ LdW (some (!y6)) (shInt .u64) h10 (sat y1.base 1 r8) fun x1 =>
 LetW (y6 || (x1 != x)) fun y7 =>
 (if y7 = true then
 Q false h10
 else
 again1 (IntKind.wrap .i64 (t160 + (1 : Int))) h10))) h9)
 else
 (((0 : Int) ≤ (min2I ((asks.len : Nat) : Int) (100 : Int)) ∧ (min2I ((asks.len : Nat) : Int) (100 : Int)) ≤ ((asks.cap : Nat) : Int)) ∧ LetW (α := Sl) ⟨(sbase asks.base 1 0 asks.cap), ((Int.toNat (min2I ((asks.len : Nat) : Int) (100 : Int))) - 0), (asks.cap - 0)⟩ fun y5 =>
 LoopW1 (α1 := Int) (fun again2 t197 h10 =>
 (if (decide (t197 < ((y5.len : Nat) : Int))) = true then
 ((InB y5.base y5.len t197) ∧ LdW none (shInt .u64) h10 (sat y5.base 1 t197) fun x =>
 Call2 P n_table_Table_Index [(.pointer r3), (.int .u64 x)] (shInt .i64) shBool (fun r8 r9 h11 =>
 Call2 P n_firebreakref02_Index [y1.v, (.int .u64 x)] (shInt .i64) shBool (fun r10 r11 h12 =>
 LetW ((r8 != r10) || (!(r9 == r11))) fun y6 =>
 EffC (some (!y6)) (CallT P n_table_Table_Down [(.pointer r3), (.int .u64 x)] shSl) (fun r12 h13 =>
 EffC (some (!y6)) (CallT P n_firebreakref02_Down [y1.v, (.int .u64 x)] shSl) (fun r13 h14 =>
 EffC (some (!y6)) (CallT P n_firebreakref02_SameInts [r12.v, r13.v] shBool) (fun r14 h15 =>
 LetW (y6 || (!r14)) fun y7 =>
 (if y7 = true then
 Q false h15
 else
 again2 (IntKind.wrap .i64 (t197 + (1 : Int))) h15)) h14) h13) h12) h11) h10)
 else
 Q true h10)) (0 : Int) h9))) (0 : Int) h8)) (0 : Int) h7) h6)) h5)) h4)) h3) h2)) h1))) h

def firebreaklaw11_WheelNames_w (P : Program)  (Q : (Bool → (Hp → Prop))) (h : Hp) : Prop :=
 CallT P n_firebreaklaw11_cleared [] shBool (fun r h1 =>
 EffC (some r) (CallT P n_firebreaklaw11_fixed [] shBool) (fun r1 h2 =>
 LetW (r && r1) fun y =>
 Q y h2) h1) h

def firebreaklaw11_WheelTurns_w (P : Program) (script : Sl) (Q : (Bool → (Hp → Prop))) (h : Hp) : Prop :=
 CallT P n_firebreaklaw11_cleared [] shBool (fun r h1 =>
 (if (!r) = true then
 Q false h1
 else
 CallT P n_wheel_New [] shPtr (fun r1 h2 =>
 NewW [(.pointer r1)] (fun a h3 =>
 NewW [(.slice none 0 0)] (fun a1 h4 =>
 NewW [(.pointer (some a1))] (fun a2 h5 =>
 JoinW2 (α1 := Sl) (α2 := Sl) (fun k =>
 LoopW3 (α1 := Sl) (α2 := Sl) (α3 := Int) (fun again l all i h6 =>
 (if (decide (i ≤ ((script.len : Nat) : Int))) = true then
 JoinW2 (α1 := Sl) (α2 := Sl) (fun k1 =>
 ((InB l.base l.len (IntKind.wrap .i64 (((l.len : Nat) : Int) - (1 : Int)))) ∧ LdW none shPtr h6 (sat l.base 1 (IntKind.wrap .i64 (((l.len : Nat) : Int) - (1 : Int)))) fun x =>
 (if (Option.isNone x) = true then
 Q false h6
 else
 (if (i == ((script.len : Nat) : Int)) = true then
 k ⟨l.base, l.len, l.cap⟩ ⟨all.base, all.len, all.cap⟩ h6
 else
 ((InB script.base script.len i) ∧ LdW none sh_firebreaklaw11_Op h6 (sat script.base 4 i) fun x1 =>
 (((l.len : Nat) : Int) ≠ (0 : Int) ∧ JoinW1 (α1 := Int) (fun k2 =>
 (if (decide ((Int.tmod x1.On ((l.len : Nat) : Int)) < (0 : Int))) = true then
 k2 (IntKind.wrap .i64 ((Int.tmod x1.On ((l.len : Nat) : Int)) + ((l.len : Nat) : Int))) h6
 else
 k2 (Int.tmod x1.On ((l.len : Nat) : Int)) h6))
 (fun k2 h7 =>
 (if (x1.Kind == (1 : Int)) = true then
 (if (decide (((l.len : Nat) : Int) < (1000 : Int))) = true then
 CallT P n_wheel_New [] shPtr (fun r2 h8 =>
 NewW [(.pointer r2)] (fun a3 h9 =>
 AppendW 1 8 [(.pointer none)] ⟨l.base, l.len, l.cap⟩ ⟨(some a3), 1, 1⟩ (fun r3 h10 =>
 NewW [(.slice none 0 0)] (fun a4 h11 =>
 NewW [(.pointer (some a4))] (fun a5 h12 =>
 AppendW 1 8 [(.pointer none)] ⟨all.base, all.len, all.cap⟩ ⟨(some a5), 1, 1⟩ (fun r4 h13 =>
 k1 r3 r4 h13) h12) h11) h10) h9) h8) h7
 else
 k1 ⟨l.base, l.len, l.cap⟩ ⟨all.base, all.len, all.cap⟩ h7)
 else
 ((InB l.base l.len k2) ∧ LdW none shPtr h7 (sat l.base 1 k2) fun x2 =>
 ((InB all.base all.len k2) ∧ LdW none shPtr h7 (sat all.base 1 k2) fun x3 =>
 CallT P n_firebreaklaw11_step [(.pointer x2), (.pointer x3), x1.v] shBool (fun r2 h8 =>
 (if (!r2) = true then
 Q false h8
 else
 k1 ⟨l.base, l.len, l.cap⟩ ⟨all.base, all.len, all.cap⟩ h8)) h7))))))))))
 (fun l1 all1 h7 =>
 again ⟨l1.base, l1.len, l1.cap⟩ ⟨all1.base, all1.len, all1.cap⟩ (IntKind.wrap .i64 (i + (1 : Int))) h7)
 else
 k ⟨l.base, l.len, l.cap⟩ ⟨all.base, all.len, all.cap⟩ h6)) ⟨(some a), 1, 1⟩ ⟨(some a2), 1, 1⟩ (0 : Int) h5)
 (fun l all h6 =>
 LoopW1 (α1 := Int) (fun again i h7 =>
 (if (decide (i < ((l.len : Nat) : Int))) = true then
 ((InB l.base l.len i) ∧ LdW none shPtr h7 (sat l.base 1 i) fun x =>
 CallT P n_wheel_Wheel_Pop [(.pointer x), (.int .i64 (9223372036854775807 : Int))] shSl (fun r2 h8 =>
 ((InB all.base all.len i) ∧ LdW none shPtr h8 (sat all.base 1 i) fun x1 =>
 CallT P n_firebreakref11_Wheel_Pop [(.pointer x1), (.int .i64 (9223372036854775807 : Int))] shSl (fun r3 h9 =>
 CallT P n_firebreaklaw11_same [r2.v, r3.v] shBool (fun r4 h10 =>
 (((!(!r4)) = true → (InB l.base l.len i)) ∧ LdW (some (!(!r4))) shPtr h10 (sat l.base 1 i) fun x2 =>
 EffC (some (!(!r4))) (CallT P n_wheel_Wheel_Len [(.pointer x2)] (shInt .i64)) (fun r5 h11 =>
 LetW ((!r4) || (r5 != (0 : Int))) fun y =>
 (if y = true then
 Q false h11
 else
 again (IntKind.wrap .i64 (i + (1 : Int))) h11)) h10)) h9) h8)) h7)
 else
 CallT P n_firebreaklaw11_fixed [] shBool (fun r2 h8 =>
 Q r2 h8) h7)) (0 : Int) h6)) h4) h3) h2) h1)) h

def firebreaklaw11_WheelOnce_w (P : Program) (l : Sl) (gone : Sl) (nows : Sl) (Q : (Bool → (Hp → Prop))) (h : Hp) : Prop :=
 CallT P n_wheel_New [] shPtr (fun r h1 =>
 EffC (some (!(Option.isNone r))) (CallT P n_firebreaklaw11_cleared [] shBool) (fun r1 h2 =>
 LetW ((Option.isNone r) || (!r1)) fun y =>
 (if y = true then
 Q false h2
 else
 (if (decide (((l.len : Nat) : Int) > (1048576 : Int))) = true then
 CallT P n_firebreaklaw11_fixed [] shBool (fun r2 h3 =>
 Q r2 h3) h2
 else
 MakeMapW  (fun r2 h3 =>
 LoopW1 (α1 := Int) (fun again i h4 =>
 (if (decide (i < ((l.len : Nat) : Int))) = true then
 JoinW0 (fun k =>
 ((InB l.base l.len i) ∧ LdW none (shInt .i64) h4 (Addr.add (sat l.base 2 i) 0) fun x =>
 ((InB l.base l.len i) ∧ LdW none (shInt .i64) h4 (Addr.add (sat l.base 2 i) 1) fun x1 =>
 CallT P n_wheel_Wheel_Set [(.pointer r), (.int .i64 x), (.int .i64 x1)] (shInt .i64) (fun r3 h5 =>
 (if (r3 == (0 : Int)) = true then
 ((InB l.base l.len i) ∧ LdW none (shInt .i64) h5 (Addr.add (sat l.base 2 i) 0) fun x2 =>
 ((InB l.base l.len i) ∧ LdW none (shInt .i64) h5 (Addr.add (sat l.base 2 i) 1) fun x3 =>
 MapSetW (.int .i64) r2 (.int .i64 x2) (.int .i64 x3) (fun h6 =>
 k h6) h5))
 else
 k h5)) h4)))
 (fun h5 =>
 again (IntKind.wrap .i64 (i + (1 : Int))) h5)
 else
 LoopW1 (α1 := Int) (fun again1 i1 h5 =>
 (if (decide (i1 < ((gone.len : Nat) : Int))) = true then
 ((InB gone.base gone.len i1) ∧ LdW none (shInt .i64) h5 (sat gone.base 1 i1) fun x =>
 LookW none (.int .i64) (shInt .i64) (.int .i64 (0 : Int)) r2 (.int .i64 x) h5 fun x1 ok =>
 ((InB gone.base gone.len i1) ∧ LdW none (shInt .i64) h5 (sat gone.base 1 i1) fun x2 =>
 CallT P n_wheel_Wheel_Clear [(.pointer r), (.int .i64 x2)] shBool (fun r3 h6 =>
 (if (!(r3 == ok)) = true then
 Q false h6
 else
 ((InB gone.base gone.len i1) ∧ LdW none (shInt .i64) h6 (sat gone.base 1 i1) fun x3 =>
 MapDelW (.int .i64) r2 (.int .i64 x3) (fun h7 =>
 again1 (IntKind.wrap .i64 (i1 + (1 : Int))) h7) h6))) h5))
 else
 CallT P n_wheel_Wheel_Len [(.pointer r)] (shInt .i64) (fun r3 h6 =>
 SemV none P (Builtin.len_ #[61] 3 #[(.map r2)]) (shInt .i64) h6 fun x =>
 (if (r3 != x) = true then
 Q false h6
 else
 LoopW1 (α1 := Int) (fun again2 i2 h7 =>
 (if (decide (i2 ≤ ((nows.len : Nat) : Int))) = true then
 JoinW1 (α1 := Int) (fun k =>
 (if (decide (i2 < ((nows.len : Nat) : Int))) = true then
 ((InB nows.base nows.len i2) ∧ LdW none (shInt .i64) h7 (sat nows.base 1 i2) fun x1 =>
 k x1 h7)
 else
 k (9223372036854775807 : Int) h7))
 (fun now h8 =>
 CallT P n_wheel_Wheel_Pop [(.pointer r), (.int .i64 now)] shSl (fun r4 h9 =>
 LoopW1 (α1 := Int) (fun again3 k h10 =>
 (if (decide (k < ((r4.len : Nat) : Int))) = true then
 JoinW0 (fun k1 =>
 ((InB r4.base r4.len k) ∧ LdW none (shInt .i64) h10 (sat r4.base 1 k) fun x1 =>
 LookW none (.int .i64) (shInt .i64) (.int .i64 (0 : Int)) r2 (.int .i64 x1) h10 fun x2 ok =>
 LetW ((!ok) || (decide (x2 > now))) fun y1 =>
 LetW (y1 || (decide (x2 < (0 : Int)))) fun y2 =>
 (((!y2) = true → (InB r4.base r4.len k)) ∧ LdW (some (!y2)) (shInt .i64) h10 (sat r4.base 1 k) fun x3 =>
 LetW (y2 || (decide (x3 < (0 : Int)))) fun y3 =>
 (if y3 = true then
 Q false h10
 else
 (if (decide (k > (0 : Int))) = true then
 ((InB r4.base r4.len (IntKind.wrap .i64 (k - (1 : Int)))) ∧ LdW none (shInt .i64) h10 (sat r4.base 1 (IntKind.wrap .i64 (k - (1 : Int)))) fun x4 =>
 CallT P n_firebreaklaw11_past [l.v, (.int .i64 x4)] (shInt .i64) (fun r5 h11 =>
 ((((!(decide (r5 > x2))) && (r5 == x2)) = true → (InB r4.base r4.len (IntKind.wrap .i64 (k - (1 : Int))))) ∧ LdW (some ((!(decide (r5 > x2))) && (r5 == x2))) (shInt .i64) h11 (sat r4.base 1 (IntKind.wrap .i64 (k - (1 : Int)))) fun x5 =>
 ((((!(decide (r5 > x2))) && (r5 == x2)) = true → (InB r4.base r4.len k)) ∧ LdW (some ((!(decide (r5 > x2))) && (r5 == x2))) (shInt .i64) h11 (sat r4.base 1 k) fun x6 =>
 LetW ((r5 == x2) && (decide (x5 ≥ x6))) fun y4 =>
 LetW ((decide (r5 > x2)) || y4) fun y5 =>
 (if y5 = true then
 Q false h11
 else
 k1 h11)))) h10)
 else
 k1 h10)))))
 (fun h11 =>
 again3 (IntKind.wrap .i64 (k + (1 : Int))) h11)
 else
 LoopW1 (α1 := Int) (fun again4 k1 h11 =>
 (if (decide (k1 < ((r4.len : Nat) : Int))) = true then
 ((InB r4.base r4.len k1) ∧ LdW none (shInt .i64) h11 (sat r4.base 1 k1) fun x1 =>
 MapDelW (.int .i64) r2 (.int .i64 x1) (fun h12 =>
 again4 (IntKind.wrap .i64 (k1 + (1 : Int))) h12) h11)
 else
 Call2 P n_wheel_Wheel_Next [(.pointer r)] (shInt .i64) shBool (fun r5 r6 h12 =>
 CallT P n_wheel_Wheel_Len [(.pointer r)] (shInt .i64) (fun r7 h13 =>
 SemV none P (Builtin.len_ #[61] 3 #[(.map r2)]) (shInt .i64) h13 fun x1 =>
 SemV (some (!(r7 != x1))) P (Builtin.len_ #[61] 3 #[(.map r2)]) (shInt .i64) h13 fun x2 =>
 LetW ((r7 != x1) || (!(r6 == (decide (x2 > (0 : Int)))))) fun y1 =>
 LetW (r6 && (decide (r5 ≤ now))) fun y2 =>
 LetW (y1 || y2) fun y3 =>
 (if y3 = true then
 Q false h13
 else
 again2 (IntKind.wrap .i64 (i2 + (1 : Int))) h13)) h12) h11)) (0 : Int) h10)) (0 : Int) h9) h8)
 else
 SemV none P (Builtin.len_ #[61] 3 #[(.map r2)]) (shInt .i64) h7 fun x1 =>
 EffC (some (x1 == (0 : Int))) (CallT P n_firebreaklaw11_fixed [] shBool) (fun r4 h8 =>
 LetW ((x1 == (0 : Int)) && r4) fun y1 =>
 Q y1 h8) h7)) (0 : Int) h6)) h5)) (0 : Int) h4)) (0 : Int) h3) h2))) h1) h

def firebreaklaw02_awake_w (P : Program)  (Q : (Bool → (Hp → Prop))) (h : Hp) : Prop :=
 NewW [(.int .u64 (0 : Int)), (.int .u64 (1 : Int)), (.int .u64 (2 : Int)), (.int .u64 (3 : Int)), (.int .u64 (8 : Int))] (fun a h1 =>
 Call3 P n_table_New [(.slice (some a) 5 5)] shPtr (shInt .i64) (shInt .i64) (fun r r1 r2 h2 =>
 LetW ((r1 != (0 : Int)) || (r2 != (0 : Int))) fun y =>
 LetW (y || (Option.isNone r)) fun y1 =>
 EffC (some (!y1)) (CallT P n_table_Table_Len [(.pointer r)] (shInt .i64)) (fun r3 h3 =>
 LetW (y1 || (r3 != (5 : Int))) fun y2 =>
 EffC (some (!y2)) (CallT P n_table_Table_Flows [(.pointer r), (.int .i64 (1 : Int)), (.int .i64 (3 : Int))] shBool) (fun r4 h4 =>
 LetW (y2 || (!r4)) fun y3 =>
 EffC (some (!y3)) (CallT P n_table_Table_Flows [(.pointer r), (.int .i64 (1 : Int)), (.int .i64 (2 : Int))] shBool) (fun r5 h5 =>
 LetW (y3 || r5) fun y4 =>
 (if y4 = true then
 Q false h5
 else
 Call2 P n_table_Table_Label [(.pointer r), (.int .i64 (3 : Int))] (shInt .u64) (shInt .i64) (fun r6 r7 h6 =>
 Call2 P n_table_Table_Index [(.pointer r), (.int .u64 (8 : Int))] (shInt .i64) shBool (fun r8 r9 h7 =>
 Call2 P n_table_Table_Index [(.pointer r), (.int .u64 (4 : Int))] (shInt .i64) shBool (fun r10 r11 h8 =>
 LetW ((r7 == (0 : Int)) && (r6 == (3 : Int))) fun y5 =>
 LetW (y5 && r9) fun y6 =>
 LetW (y6 && (r8 == (4 : Int))) fun y7 =>
 LetW (y7 && (!r11)) fun y8 =>
 EffC (some y8) (CallT P n_table_Table_Down [(.pointer r), (.int .u64 (10 : Int))] shSl) (fun r12 h9 =>
 EffC (some y8) (NewW [(.int .i64 (0 : Int)), (.int .i64 (2 : Int)), (.int .i64 (4 : Int))]) (fun r13 h10 =>
 EffC (some y8) (CallT P n_firebreakref02_SameInts [r12.v, (.slice (some r13) 3 3)] shBool) (fun r14 h11 =>
 LetW (y8 && r14) fun y9 =>
 EffC (some y9) (CallT P n_table_Table_Up [(.pointer r), (.int .i64 (1 : Int))] shSl) (fun r15 h12 =>
 EffC (some y9) (NewW [(.int .i64 (1 : Int)), (.int .i64 (3 : Int))]) (fun r16 h13 =>
 EffC (some y9) (CallT P n_firebreakref02_SameInts [r15.v, (.slice (some r16) 2 2)] shBool) (fun r17 h14 =>
 LetW (y9 && r17) fun y10 =>
 Q y10 h14) h13) h12) h11) h10) h9) h8) h7) h6) h5)) h4) h3) h2) h1) h

def firebreakref02_Canon_w (P : Program) (l : Sl) (Q : (Sl → (Hp → Prop))) (h : Hp) : Prop :=
 NewW [] (fun a h1 =>
 LoopW1 (α1 := Sl) (fun again out h2 =>
 LoopW3 (α1 := Bool) (α2 := Int) (α3 := Int) (fun again1 found least i h3 =>
 (if (decide (i < ((l.len : Nat) : Int))) = true then
 JoinW2 (α1 := Bool) (α2 := Int) (fun k =>
 (((!(((out.len : Nat) : Int) == (0 : Int))) = true → (InB l.base l.len i)) ∧ LdW (some (!(((out.len : Nat) : Int) == (0 : Int)))) (shInt .u64) h3 (sat l.base 1 i) fun x =>
 (((!(((out.len : Nat) : Int) == (0 : Int))) = true → (InB out.base out.len (IntKind.wrap .i64 (((out.len : Nat) : Int) - (1 : Int))))) ∧ LdW (some (!(((out.len : Nat) : Int) == (0 : Int)))) (shInt .u64) h3 (sat out.base 1 (IntKind.wrap .i64 (((out.len : Nat) : Int) - (1 : Int)))) fun x1 =>
 LetW ((((out.len : Nat) : Int) == (0 : Int)) || (decide (x > x1))) fun y =>
 (((y && (!(!found))) = true → (InB l.base l.len i)) ∧ LdW (some (y && (!(!found)))) (shInt .u64) h3 (sat l.base 1 i) fun x2 =>
 LetW ((!found) || (decide (x2 < least))) fun y1 =>
 LetW (y && y1) fun y2 =>
 (if y2 = true then
 ((InB l.base l.len i) ∧ LdW none (shInt .u64) h3 (sat l.base 1 i) fun x3 =>
 k true x3 h3)
 else
 k found least h3)))))
 (fun found1 least1 h4 =>
 again1 found1 least1 (IntKind.wrap .i64 (i + (1 : Int))) h4)
 else
 (if (!found) = true then
 Q out h3
 else
 NewW [(.int .u64 least)] (fun a1 h4 =>
 AppendW 1 8 [(.int .u64 (0 : Int))] out ⟨(some a1), 1, 1⟩ (fun r h5 =>
 again r h5) h4) h3))) false (0 : Int) (0 : Int) h2) ⟨(some a), 0, 0⟩ h1) h

def table_New_w (P : Program) (l : Sl) (Q : (Option Addr → (Int → (Int → (Hp → Prop))))) (h : Hp) : Prop :=
 Call2 P n_table_May [l.v] (shInt .i64) (shInt .i64) (fun r r1 h1 =>
 (if (r != (0 : Int)) = true then
 Q none r r1 h1
 else
 CallT P n_slices_Clone_uint64_uint64 [l.v] shSl (fun r2 h2 =>
 MakeMapW  (fun r3 h3 =>
 NewW [r2.v, (.map r3)] (fun a h4 =>
 NilW none (some a) fun p =>
 LdW none shSl h4 (Addr.add p 0) fun x =>
 LoopW1 (α1 := Int) (fun again t29 h5 =>
 (if (decide (t29 < ((x.len : Nat) : Int))) = true then
 ((InB x.base x.len t29) ∧ LdW none (shInt .u64) h5 (sat x.base 1 t29) fun x1 =>
 NilW none (some a) fun p1 =>
 LdW none shMap h5 (Addr.add p1 1) fun x2 =>
 MapSetW (.int .u64) x2 (.int .u64 x1) (.int .i64 t29) (fun h6 =>
 again (IntKind.wrap .i64 (t29 + (1 : Int))) h6) h5)
 else
 Q (some a) (0 : Int) (0 : Int) h5)) (0 : Int) h4) h3) h2) h1)) h

def firebreaklaw02_wide_w (P : Program) (l : Sl) (Q : (Sl → (Hp → Prop))) (h : Hp) : Prop :=
 MakeW 8 [(.int .u64 (0 : Int))] (0 : Int) (IntKind.wrap .i64 (((l.len : Nat) : Int) + (3 : Int))) (fun r h1 =>
 AppendW 1 8 [(.int .u64 (0 : Int))] r l (fun r1 h2 =>
 NewW [(.int .u64 (161 : Int)), (.int .u64 (162 : Int)), (.int .u64 (163 : Int))] (fun a h3 =>
 AppendW 1 8 [(.int .u64 (0 : Int))] r1 ⟨(some a), 3, 3⟩ (fun r2 h4 =>
 (((0 : Int) ≤ ((l.len : Nat) : Int) ∧ ((l.len : Nat) : Int) ≤ ((r2.cap : Nat) : Int)) ∧ LetW (α := Sl) ⟨(sbase r2.base 1 0 r2.cap), ((Int.toNat ((l.len : Nat) : Int)) - 0), (r2.cap - 0)⟩ fun y =>
 Q y h4)) h3) h2) h1) h

def table_Table_Len_w (P : Program) (t : Option Addr) (Q : (Int → (Hp → Prop))) (h : Hp) : Prop :=
 NilW none t fun p =>
 LdW none shSl h (Addr.add p 0) fun x =>
 Q ((x.len : Nat) : Int) h

def table_Table_Label_w (P : Program) (t : Option Addr) (i : Int) (Q : (Int → (Int → (Hp → Prop)))) (h : Hp) : Prop :=
 CallT P n_table_Table_is [(.pointer t), (.int .i64 i)] shBool (fun r h1 =>
 (if (!r) = true then
 Q (0 : Int) (2 : Int) h1
 else
 NilW none t fun p =>
 LdW none shSl h1 (Addr.add p 0) fun x =>
 ((InB x.base x.len i) ∧ LdW none (shInt .u64) h1 (sat x.base 1 i) fun x1 =>
 Q x1 (0 : Int) h1))) h

def firebreakref02_SameInts_w (P : Program) (a : Sl) (b : Sl) (Q : (Bool → (Hp → Prop))) (h : Hp) : Prop :=
 (if (((a.len : Nat) : Int) != ((b.len : Nat) : Int)) = true then
 Q false h
 else
 LoopW1 (α1 := Int) (fun again i h1 =>
 (if (decide (i < ((a.len : Nat) : Int))) = true then
 ((InB a.base a.len i) ∧ LdW none (shInt .i64) h1 (sat a.base 1 i) fun x =>
 ((InB b.base b.len i) ∧ LdW none (shInt .i64) h1 (sat b.base 1 i) fun x1 =>
 (if (x != x1) = true then
 Q false h1
 else
 again (IntKind.wrap .i64 (i + (1 : Int))) h1)))
 else
 Q true h1)) (0 : Int) h)

def table_Table_Up_w (P : Program) (t : Option Addr) (i : Int) (Q : (Sl → (Hp → Prop))) (h : Hp) : Prop :=
 NewW [(.pointer t)] (fun a h1 =>
 NewW [(.int .i64 i)] (fun a1 h2 =>
 LdW none shPtr h2 a fun x =>
 CallT P n_table_Table_those [(.pointer x), (.func (.func 39) #[] #[(.pointer (some a)), (.pointer (some a1))])] shSl (fun r h3 =>
 Q r h3) h2) h1) h

def firebreakref02_Up_w (P : Program) (l : Sl) (i : Int) (Q : (Sl → (Hp → Prop))) (h : Hp) : Prop :=
 NewW [] (fun a h1 =>
 LoopW2 (α1 := Sl) (α2 := Int) (fun again out j h2 =>
 (if (decide (j < ((l.len : Nat) : Int))) = true then
 JoinW1 (α1 := Sl) (fun k =>
 CallT P n_firebreakref02_Flows [l.v, (.int .i64 i), (.int .i64 j)] shBool (fun r h3 =>
 (if r = true then
 NewW [(.int .i64 j)] (fun a1 h4 =>
 AppendW 1 8 [(.int .i64 (0 : Int))] ⟨out.base, out.len, out.cap⟩ ⟨(some a1), 1, 1⟩ (fun r1 h5 =>
 k r1 h5) h4) h3
 else
 k ⟨out.base, out.len, out.cap⟩ h3)) h2)
 (fun out1 h3 =>
 again out1 (IntKind.wrap .i64 (j + (1 : Int))) h3)
 else
 Q ⟨out.base, out.len, out.cap⟩ h2)) ⟨(some a), 0, 0⟩ (0 : Int) h1) h

def table_Table_Flows_w (P : Program) (t : Option Addr) (i : Int) (j : Int) (Q : (Bool → (Hp → Prop))) (h : Hp) : Prop :=
 CallT P n_table_Table_is [(.pointer t), (.int .i64 i)] shBool (fun r h1 =>
 EffC (some r) (CallT P n_table_Table_is [(.pointer t), (.int .i64 j)] shBool) (fun r1 h2 =>
 LetW (r && r1) fun y =>
 NilW (some y) t fun p =>
 LdW (some y) shSl h2 (Addr.add p 0) fun x =>
 ((y = true → (InB x.base x.len i)) ∧ LdW (some y) (shInt .u64) h2 (sat x.base 1 i) fun x1 =>
 NilW (some y) t fun p1 =>
 LdW (some y) shSl h2 (Addr.add p1 0) fun x2 =>
 ((y = true → (InB x2.base x2.len j)) ∧ LdW (some y) (shInt .u64) h2 (sat x2.base 1 j) fun x3 =>
 EffC (some y) (CallT P n_label_Flows [(.int .u64 x1), (.int .u64 x3)] shBool) (fun r2 h3 =>
 LetW (y && r2) fun y1 =>
 Q y1 h3) h2))) h1) h

def firebreakref02_Flows_w (P : Program) (l : Sl) (i : Int) (j : Int) (Q : (Bool → (Hp → Prop))) (h : Hp) : Prop :=
 LetW ((decide (i ≥ (0 : Int))) && (decide (i < ((l.len : Nat) : Int)))) fun y =>
 LetW (y && (decide (j ≥ (0 : Int)))) fun y1 =>
 LetW (y1 && (decide (j < ((l.len : Nat) : Int)))) fun y2 =>
 ((y2 = true → (InB l.base l.len i)) ∧ LdW (some y2) (shInt .u64) h (sat l.base 1 i) fun x =>
 ((y2 = true → (InB l.base l.len j)) ∧ LdW (some y2) (shInt .u64) h (sat l.base 1 j) fun x1 =>
 EffC (some y2) (CallT P n_firebreakref01_Flows [(.int .u64 x), (.int .u64 x1)] shBool) (fun r h1 =>
 LetW (y2 && r) fun y3 =>
 Q y3 h1) h))

def table_Table_Index_w (P : Program) (t : Option Addr) (a : Int) (Q : (Int → (Bool → (Hp → Prop)))) (h : Hp) : Prop :=
 NilW none t fun p =>
 LdW none shMap h (Addr.add p 1) fun x =>
 LookW none (.int .u64) (shInt .i64) (.int .i64 (0 : Int)) x (.int .u64 a) h fun x1 ok =>
 Q x1 ok h

def firebreakref02_Index_w (P : Program) (l : Sl) (a : Int) (Q : (Int → (Bool → (Hp → Prop)))) (h : Hp) : Prop :=
 LoopW1 (α1 := Int) (fun again i h1 =>
 (if (decide (i < ((l.len : Nat) : Int))) = true then
 ((InB l.base l.len i) ∧ LdW none (shInt .u64) h1 (sat l.base 1 i) fun x =>
 (if (x == a) = true then
 Q i true h1
 else
 again (IntKind.wrap .i64 (i + (1 : Int))) h1))
 else
 Q (0 : Int) false h1)) (0 : Int) h

def table_Table_Down_w (P : Program) (t : Option Addr) (a : Int) (Q : (Sl → (Hp → Prop))) (h : Hp) : Prop :=
 NewW [(.pointer t)] (fun a1 h1 =>
 NewW [(.int .u64 a)] (fun a2 h2 =>
 LdW none shPtr h2 a1 fun x =>
 CallT P n_table_Table_those [(.pointer x), (.func (.func 42) #[] #[(.pointer (some a1)), (.pointer (some a2))])] shSl (fun r h3 =>
 Q r h3) h2) h1) h

def firebreakref02_Down_w (P : Program) (l : Sl) (a : Int) (Q : (Sl → (Hp → Prop))) (h : Hp) : Prop :=
 NewW [] (fun a1 h1 =>
 LoopW2 (α1 := Sl) (α2 := Int) (fun again out i h2 =>
 (if (decide (i < ((l.len : Nat) : Int))) = true then
 JoinW1 (α1 := Sl) (fun k =>
 ((InB l.base l.len i) ∧ LdW none (shInt .u64) h2 (sat l.base 1 i) fun x =>
 CallT P n_firebreakref01_Flows [(.int .u64 x), (.int .u64 a)] shBool (fun r h3 =>
 (if r = true then
 NewW [(.int .i64 i)] (fun a2 h4 =>
 AppendW 1 8 [(.int .i64 (0 : Int))] ⟨out.base, out.len, out.cap⟩ ⟨(some a2), 1, 1⟩ (fun r1 h5 =>
 k r1 h5) h4) h3
 else
 k ⟨out.base, out.len, out.cap⟩ h3)) h2))
 (fun out1 h3 =>
 again out1 (IntKind.wrap .i64 (i + (1 : Int))) h3)
 else
 Q ⟨out.base, out.len, out.cap⟩ h2)) ⟨(some a1), 0, 0⟩ (0 : Int) h1) h

def firebreaklaw11_cleared_w (P : Program)  (Q : (Bool → (Hp → Prop))) (h : Hp) : Prop :=
 CallT P n_wheel_New [] shPtr (fun r h1 =>
 (if (Option.isNone r) = true then
 Q false h1
 else
 CallT P n_wheel_Wheel_Set [(.pointer r), (.int .i64 (3 : Int)), (.int .i64 (10 : Int))] (shInt .i64) (fun r1 h2 =>
 CallT P n_wheel_Wheel_Clear [(.pointer r), (.int .i64 (3 : Int))] shBool (fun r2 h3 =>
 Call2 P n_wheel_Wheel_Due [(.pointer r), (.int .i64 (3 : Int))] (shInt .i64) shBool (fun r3 r4 h4 =>
 LetW ((r1 == (0 : Int)) && r2) fun y =>
 LetW (y && (!r4)) fun y1 =>
 EffC (some y1) (CallT P n_wheel_Wheel_Len [(.pointer r)] (shInt .i64)) (fun r5 h5 =>
 LetW (y1 && (r5 == (0 : Int))) fun y2 =>
 Q y2 h5) h4) h3) h2) h1)) h

def firebreaklaw11_fixed_w (P : Program)  (Q : (Bool → (Hp → Prop))) (h : Hp) : Prop :=
 CallT P n_wheel_New [] shPtr (fun r h1 =>
 (if (Option.isNone r) = true then
 Q false h1
 else
 CallT P n_wheel_Wheel_Set [(.pointer r), (.int .i64 (3 : Int)), (.int .i64 (10 : Int))] (shInt .i64) (fun r1 h2 =>
 CallT P n_wheel_Wheel_Set [(.pointer r), (.int .i64 (1 : Int)), (.int .i64 (10 : Int))] (shInt .i64) (fun r2 h3 =>
 CallT P n_wheel_Wheel_Set [(.pointer r), (.int .i64 (2 : Int)), (.int .i64 (5 : Int))] (shInt .i64) (fun r3 h4 =>
 CallT P n_wheel_Wheel_Set [(.pointer r), (.int .i64 (-1 : Int)), (.int .i64 (5 : Int))] (shInt .i64) (fun r4 h5 =>
 Call2 P n_wheel_Wheel_Next [(.pointer r)] (shInt .i64) shBool (fun r5 r6 h6 =>
 CallT P n_wheel_Wheel_Pop [(.pointer r), (.int .i64 (10 : Int))] shSl (fun r7 h7 =>
 LetW ((r1 == (0 : Int)) && (r2 == (0 : Int))) fun y =>
 LetW (y && (r3 == (0 : Int))) fun y1 =>
 LetW (y1 && (r4 == (1 : Int))) fun y2 =>
 LetW (y2 && (r5 == (5 : Int))) fun y3 =>
 LetW (y3 && r6) fun y4 =>
 LetW (y4 && (((r7.len : Nat) : Int) == (3 : Int))) fun y5 =>
 ((y5 = true → (InB r7.base r7.len (0 : Int))) ∧ LdW (some y5) (shInt .i64) h7 (sat r7.base 1 (0 : Int)) fun x =>
 LetW (y5 && (x == (2 : Int))) fun y6 =>
 ((y6 = true → (InB r7.base r7.len (1 : Int))) ∧ LdW (some y6) (shInt .i64) h7 (sat r7.base 1 (1 : Int)) fun x1 =>
 LetW (y6 && (x1 == (1 : Int))) fun y7 =>
 ((y7 = true → (InB r7.base r7.len (2 : Int))) ∧ LdW (some y7) (shInt .i64) h7 (sat r7.base 1 (2 : Int)) fun x2 =>
 LetW (y7 && (x2 == (3 : Int))) fun y8 =>
 EffC (some y8) (CallT P n_wheel_Wheel_Len [(.pointer r)] (shInt .i64)) (fun r8 h8 =>
 LetW (y8 && (r8 == (0 : Int))) fun y9 =>
 Q y9 h8) h7)))) h6) h5) h4) h3) h2) h1)) h

def wheel_New_w (P : Program)  (Q : (Option Addr → (Hp → Prop))) (h : Hp) : Prop :=
 MakeMapW  (fun r h1 =>
 NewW [(.slice none 0 0), (.map r)] (fun a h2 =>
 Q (some a) h2) h1) h

def firebreaklaw11_step_w (P : Program) (w : Option Addr) (x : Option Addr) (o : S_firebreaklaw11_Op) (Q : (Bool → (Hp → Prop))) (h : Hp) : Prop :=
 (if (o.Kind == (2 : Int)) = true then
 CallT P n_wheel_Wheel_Set [(.pointer w), (.int .i64 o.ID), (.int .i64 o.At)] (shInt .i64) (fun r h1 =>
 ((True ∧ (True ∧ True)) ∧ CallT P n_firebreakref11_Wheel_Set [(.pointer x), (.int .i64 o.ID), (.int .i64 o.At)] (shInt .i64) (fun r1 h2 =>
 Q (r == r1) h2) h1)) h
 else
 (if (o.Kind == (3 : Int)) = true then
 CallT P n_wheel_Wheel_Clear [(.pointer w), (.int .i64 o.ID)] shBool (fun r h1 =>
 ((True ∧ True) ∧ CallT P n_firebreakref11_Wheel_Clear [(.pointer x), (.int .i64 o.ID)] shBool (fun r1 h2 =>
 Q (r == r1) h2) h1)) h
 else
 (if (o.Kind == (4 : Int)) = true then
 Call2 P n_wheel_Wheel_Due [(.pointer w), (.int .i64 o.ID)] (shInt .i64) shBool (fun r r1 h1 =>
 Call2 P n_firebreakref11_Wheel_Due [(.pointer x), (.int .i64 o.ID)] (shInt .i64) shBool (fun r2 r3 h2 =>
 LetW ((r == r2) && (r1 == r3)) fun y =>
 Q y h2) h1) h
 else
 (if (o.Kind == (5 : Int)) = true then
 CallT P n_wheel_Wheel_Pop [(.pointer w), (.int .i64 o.At)] shSl (fun r h1 =>
 CallT P n_firebreakref11_Wheel_Pop [(.pointer x), (.int .i64 o.At)] shSl (fun r1 h2 =>
 CallT P n_firebreaklaw11_same [r.v, r1.v] shBool (fun r2 h3 =>
 Call0 P n_firebreaklaw11_own [r.v] (fun h4 =>
 Q r2 h4) h3) h2) h1) h
 else
 Call2 P n_wheel_Wheel_Next [(.pointer w)] (shInt .i64) shBool (fun r r1 h1 =>
 Call2 P n_firebreakref11_Wheel_Next [(.pointer x)] (shInt .i64) shBool (fun r2 r3 h2 =>
 LetW ((r == r2) && (r1 == r3)) fun y =>
 NilW (some y) x fun p =>
 LdW (some y) shSl h2 (Addr.add p 0) fun x1 =>
 EffC (some y) (CallT P n_wheel_Wheel_Len [(.pointer w)] (shInt .i64)) (fun r4 h3 =>
 (((y = true → (LdIs h3 (Addr.add p 0) [x1.v])) ∧ True) ∧ LetW (y && (r4 == ((x1.len : Nat) : Int))) fun y1 =>
 Q y1 h3)) h2) h1) h))))

def wheel_Wheel_Pop_w (P : Program) (w : Option Addr) (now : Int) (Q : (Sl → (Hp → Prop))) (h : Hp) : Prop :=
 LoopW1 (α1 := Sl) (fun again out h1 =>
 NilW none w fun p =>
 LdW none shSl h1 (Addr.add p 0) fun x =>
 NilW (some (decide (((x.len : Nat) : Int) > (0 : Int)))) w fun p1 =>
 LdW (some (decide (((x.len : Nat) : Int) > (0 : Int)))) shSl h1 (Addr.add p1 0) fun x1 =>
 (((decide (((x.len : Nat) : Int) > (0 : Int))) = true → (InB x1.base x1.len (0 : Int))) ∧ LdW (some (decide (((x.len : Nat) : Int) > (0 : Int)))) (shInt .i64) h1 (Addr.add (sat x1.base 2 (0 : Int)) 0) fun x2 =>
 LetW ((decide (((x.len : Nat) : Int) > (0 : Int))) && (decide (x2 ≤ now))) fun y =>
 (if y = true then
 NilW none w fun p2 =>
 LdW none shSl h1 (Addr.add p2 0) fun x3 =>
 ((InB x3.base x3.len (0 : Int)) ∧ LdW none (shInt .i64) h1 (Addr.add (sat x3.base 2 (0 : Int)) 1) fun x4 =>
 NewW [(.int .i64 x4)] (fun a h2 =>
 AppendW 1 8 [(.int .i64 (0 : Int))] out ⟨(some a), 1, 1⟩ (fun r h3 =>
 CallT P n_wheel_Wheel_Clear [(.pointer w), (.int .i64 x4)] shBool (fun r1 h4 =>
 again r h4) h3) h2) h1)
 else
 Q out h1))) ⟨none, 0, 0⟩ h

def firebreaklaw11_same_w (P : Program) (a : Sl) (b : Sl) (Q : (Bool → (Hp → Prop))) (h : Hp) : Prop :=
 (if (((a.len : Nat) : Int) != ((b.len : Nat) : Int)) = true then
 Q false h
 else
 LoopW1 (α1 := Int) (fun again i h1 =>
 (if (decide (i < ((a.len : Nat) : Int))) = true then
 ((InB a.base a.len i) ∧ LdW none (shInt .i64) h1 (sat a.base 1 i) fun x =>
 ((InB b.base b.len i) ∧ LdW none (shInt .i64) h1 (sat b.base 1 i) fun x1 =>
 (if (x != x1) = true then
 Q false h1
 else
 again (IntKind.wrap .i64 (i + (1 : Int))) h1)))
 else
 Q true h1)) (0 : Int) h)

def firebreakref11_Wheel_Pop_w (P : Program) (w : Option Addr) (now : Int) (Q : (Sl → (Hp → Prop))) (h : Hp) : Prop :=
 NewW [] (fun a h1 =>
 LoopW1 (α1 := Sl) (fun again out h2 =>
 NilW none w fun p =>
 LdW none shSl h2 (Addr.add p 0) fun x =>
 (if (decide (((x.len : Nat) : Int) > (0 : Int))) = true then
 NilW none w fun p1 =>
 LdW none shSl h2 (Addr.add p1 0) fun x1 =>
 CallT P n_firebreakref11_Wheel_first [(.pointer w)] (shInt .i64) (fun r h3 =>
 (((LdIs h3 (Addr.add p1 0) [x1.v]) ∧ True) ∧ ((InB x1.base x1.len r) ∧ LdW none sh_firebreakref11_One h3 (sat x1.base 2 r) fun x2 =>
 (if (decide (x2.Due > now)) = true then
 Q out h3
 else
 NewW [(.int .i64 x2.ID)] (fun a1 h4 =>
 AppendW 1 8 [(.int .i64 (0 : Int))] out ⟨(some a1), 1, 1⟩ (fun r1 h5 =>
 CallT P n_firebreakref11_Wheel_Clear [(.pointer w), (.int .i64 x2.ID)] shBool (fun r2 h6 =>
 again r1 h6) h5) h4) h3)))) h2
 else
 Q out h2)) ⟨(some a), 0, 0⟩ h1) h

def wheel_Wheel_Len_w (P : Program) (w : Option Addr) (Q : (Int → (Hp → Prop))) (h : Hp) : Prop :=
 NilW none w fun p =>
 LdW none shSl h (Addr.add p 0) fun x =>
 Q ((x.len : Nat) : Int) h

def wheel_Wheel_Set_w (P : Program) (w : Option Addr) (id_ : Int) (due : Int) (Q : (Int → (Hp → Prop))) (h : Hp) : Prop :=
 LetW ((decide (id_ < (0 : Int))) || (decide (due < (0 : Int)))) fun y =>
 (if y = true then
 Q (1 : Int) h
 else
 CallT P n_wheel_Wheel_Clear [(.pointer w), (.int .i64 id_)] shBool (fun r h1 =>
 NilW none w fun p =>
 LdW none shSl h1 (Addr.add p 0) fun x =>
 Call2 P n_slices_BinarySearchFunc_wheel_entry_wheel_entry_wheel_entry [x.v, (.agg #[(.int .i64 due), (.int .i64 id_)]), (.func (.func 51) #[] #[])] (shInt .i64) shBool (fun r1 r2 h2 =>
 NilW none w fun p1 =>
 LdW none shSl h2 (Addr.add p1 0) fun x1 =>
 NewW [(.int .i64 due), (.int .i64 id_)] (fun a h3 =>
 (((LdIs h3 (Addr.add p1 0) [x1.v]) ∧ True) ∧ CallT P n_slices_Insert_wheel_entry_wheel_entry [x1.v, (.int .i64 r1), (.slice (some a) 1 1)] shSl (fun r3 h4 =>
 NilW none w fun p2 =>
 StW h4 (Addr.add p2 0) [r3.v] (fun h5 =>
 NilW none w fun p3 =>
 LdW none shMap h5 (Addr.add p3 1) fun x2 =>
 MapSetW (.int .i64) x2 (.int .i64 id_) (.agg #[(.int .i64 due), (.int .i64 id_)]) (fun h6 =>
 Q (0 : Int) h6) h5)) h3)) h2) h1) h)

def wheel_Wheel_Clear_w (P : Program) (w : Option Addr) (id_ : Int) (Q : (Bool → (Hp → Prop))) (h : Hp) : Prop :=
 NilW none w fun p =>
 LdW none shMap h (Addr.add p 1) fun x =>
 LookW none (.int .i64) sh_wheel_entry (.agg #[(.int .i64 (0 : Int)), (.int .i64 (0 : Int))]) x (.int .i64 id_) h fun x1 ok =>
 (if (!ok) = true then
 Q false h
 else
 NilW none w fun p1 =>
 LdW none shSl h (Addr.add p1 0) fun x2 =>
 LoopW1 (α1 := Int) (fun again t25 h1 =>
 (if (decide (t25 < ((x2.len : Nat) : Int))) = true then
 ((InB x2.base x2.len t25) ∧ LdW none sh_wheel_entry h1 (sat x2.base 2 t25) fun x3 =>
 SemV none P (binS .eql 84 (.tmp 30) (.tmp 31) x3.v x1.v) shBool h1 fun x4 =>
 (if x4 = true then
 NilW none w fun p2 =>
 LdW none shSl h1 (Addr.add p2 0) fun x5 =>
 CallT P n_slices_Delete_wheel_entry_wheel_entry [x5.v, (.int .i64 t25), (.int .i64 (IntKind.wrap .i64 (t25 + (1 : Int))))] shSl (fun r h2 =>
 NilW none w fun p3 =>
 StW h2 (Addr.add p3 0) [r.v] (fun h3 =>
 NilW none w fun p4 =>
 LdW none shMap h3 (Addr.add p4 1) fun x6 =>
 MapDelW (.int .i64) x6 (.int .i64 id_) (fun h4 =>
 Q true h4) h3)) h1
 else
 again (IntKind.wrap .i64 (t25 + (1 : Int))) h1))
 else
 NilW none w fun p2 =>
 LdW none shMap h1 (Addr.add p2 1) fun x3 =>
 MapDelW (.int .i64) x3 (.int .i64 id_) (fun h2 =>
 Q true h2) h1)) (0 : Int) h)

def firebreaklaw11_past_w (P : Program) (l : Sl) (id_ : Int) (Q : (Int → (Hp → Prop))) (h : Hp) : Prop :=
 LoopW1 (α1 := Int) (fun again i h1 =>
 (if (decide (i ≥ (0 : Int))) = true then
 ((InB l.base l.len i) ∧ LdW none (shInt .i64) h1 (Addr.add (sat l.base 2 i) 0) fun x =>
 (((x == id_) = true → (InB l.base l.len i)) ∧ LdW (some (x == id_)) (shInt .i64) h1 (Addr.add (sat l.base 2 i) 1) fun x1 =>
 LetW ((x == id_) && (decide (x1 ≥ (0 : Int)))) fun y =>
 (if y = true then
 ((InB l.base l.len i) ∧ LdW none (shInt .i64) h1 (Addr.add (sat l.base 2 i) 1) fun x2 =>
 Q x2 h1)
 else
 again (IntKind.wrap .i64 (i - (1 : Int))) h1)))
 else
 Q (-1 : Int) h1)) (IntKind.wrap .i64 (((l.len : Nat) : Int) - (1 : Int))) h

def wheel_Wheel_Next_w (P : Program) (w : Option Addr) (Q : (Int → (Bool → (Hp → Prop)))) (h : Hp) : Prop :=
 NilW none w fun p =>
 LdW none shSl h (Addr.add p 0) fun x =>
 (if (((x.len : Nat) : Int) == (0 : Int)) = true then
 Q (0 : Int) false h
 else
 NilW none w fun p1 =>
 LdW none shSl h (Addr.add p1 0) fun x1 =>
 ((InB x1.base x1.len (0 : Int)) ∧ LdW none (shInt .i64) h (Addr.add (sat x1.base 2 (0 : Int)) 0) fun x2 =>
 Q x2 true h))

def table_May_w (P : Program) (l : Sl) (Q : (Int → (Int → (Hp → Prop)))) (h : Hp) : Prop :=
 (if (((l.len : Nat) : Int) == (0 : Int)) = true then
 Q (1 : Int) (0 : Int) h
 else
 (if (decide (((l.len : Nat) : Int) > (8 : Int))) = true then
 Q (3 : Int) (8 : Int) h
 else
 LoopW1 (α1 := Int) (fun again i h1 =>
 (if (decide (i < ((l.len : Nat) : Int))) = true then
 ((InB l.base l.len i) ∧ LdW none (shInt .u64) h1 (sat l.base 1 i) fun x =>
 ((InB l.base l.len (IntKind.wrap .i64 (i - (1 : Int)))) ∧ LdW none (shInt .u64) h1 (sat l.base 1 (IntKind.wrap .i64 (i - (1 : Int)))) fun x1 =>
 (if (x == x1) = true then
 Q (8 : Int) i h1
 else
 ((InB l.base l.len i) ∧ LdW none (shInt .u64) h1 (sat l.base 1 i) fun x2 =>
 ((InB l.base l.len (IntKind.wrap .i64 (i - (1 : Int)))) ∧ LdW none (shInt .u64) h1 (sat l.base 1 (IntKind.wrap .i64 (i - (1 : Int)))) fun x3 =>
 (if (decide (x2 < x3)) = true then
 Q (7 : Int) i h1
 else
 again (IntKind.wrap .i64 (i + (1 : Int))) h1))))))
 else
 Q (0 : Int) (0 : Int) h1)) (1 : Int) h))

def slices_Clone_uint64_uint64_w (P : Program) (s : Sl) (Q : (Sl → (Hp → Prop))) (h : Hp) : Prop :=
 SemV none P (binS .eql 23 (.tmp 3) (.const (.slice none 0 0)) s.v (.slice none 0 0)) shBool h fun x =>
 (if x = true then
 Q ⟨none, 0, 0⟩ h
 else
 NewW [] (fun a h1 =>
 AppendW 1 8 [(.int .u64 (0 : Int))] ⟨(some a), 0, 0⟩ s (fun r h2 =>
 Q r h2) h1) h)

def table_Table_is_w (P : Program) (t : Option Addr) (i : Int) (Q : (Bool → (Hp → Prop))) (h : Hp) : Prop :=
 NilW (some (decide (i ≥ (0 : Int)))) t fun p =>
 LdW (some (decide (i ≥ (0 : Int)))) shSl h (Addr.add p 0) fun x =>
 LetW ((decide (i ≥ (0 : Int))) && (decide (i < ((x.len : Nat) : Int)))) fun y =>
 Q y h

def table_Table_those_w (P : Program) (t : Option Addr) (is : Leaf) (Q : (Sl → (Hp → Prop))) (h : Hp) : Prop :=
 NilW none t fun p =>
 LdW none shSl h (Addr.add p 0) fun x =>
 LoopW2 (α1 := Sl) (α2 := Int) (fun again l t12 h1 =>
 (if (decide (t12 < ((x.len : Nat) : Int))) = true then
 JoinW1 (α1 := Sl) (fun k =>
 CallV P tb is.v [(.int .i64 t12)] shBool (fun r h2 =>
 (if r = true then
 NewW [(.int .i64 t12)] (fun a h3 =>
 AppendW 1 8 [(.int .i64 (0 : Int))] ⟨l.base, l.len, l.cap⟩ ⟨(some a), 1, 1⟩ (fun r1 h4 =>
 k r1 h4) h3) h2
 else
 k ⟨l.base, l.len, l.cap⟩ h2)) h1)
 (fun l1 h2 =>
 again l1 (IntKind.wrap .i64 (t12 + (1 : Int))) h2)
 else
 Q ⟨l.base, l.len, l.cap⟩ h1)) ⟨none, 0, 0⟩ (0 : Int) h

def table_Table_Up_1_w (P : Program) (j : Int) (a1 : Addr) (a2 : Addr) (Q : (Bool → (Hp → Prop))) (h : Hp) : Prop :=
 LdW none shPtr h a1 fun x =>
 LdW none (shInt .i64) h a2 fun x1 =>
 CallT P n_table_Table_Flows [(.pointer x), (.int .i64 x1), (.int .i64 j)] shBool (fun r h1 =>
 Q r h1) h

def label_Flows_w (P : Program) (a : Int) (b : Int) (Q : (Bool → (Hp → Prop))) (h : Hp) : Prop :=
 Q ((bitsI .andNot .u64 a b) == (0 : Int)) h

def firebreakref01_Flows_w (P : Program) (a : Int) (b : Int) (Q : (Bool → (Hp → Prop))) (h : Hp) : Prop :=
 LoopW1 (α1 := Int) (fun again n h1 =>
 (if (decide (n < (64 : Int))) = true then
 CallT P n_firebreakref01_Has [(.int .u64 a), (.int .i64 n)] shBool (fun r h2 =>
 EffC (some r) (CallT P n_firebreakref01_Has [(.int .u64 b), (.int .i64 n)] shBool) (fun r1 h3 =>
 LetW (r && (!r1)) fun y =>
 (if y = true then
 Q false h3
 else
 again (IntKind.wrap .i64 (n + (1 : Int))) h3)) h2) h1
 else
 Q true h1)) (0 : Int) h

def table_Table_Down_1_w (P : Program) (i : Int) (a1 : Addr) (a2 : Addr) (Q : (Bool → (Hp → Prop))) (h : Hp) : Prop :=
 LdW none shPtr h a1 fun x =>
 NilW none x fun p =>
 LdW none shSl h (Addr.add p 0) fun x1 =>
 ((InB x1.base x1.len i) ∧ LdW none (shInt .u64) h (sat x1.base 1 i) fun x2 =>
 LdW none (shInt .u64) h a2 fun x3 =>
 CallT P n_label_Flows [(.int .u64 x2), (.int .u64 x3)] shBool (fun r h1 =>
 Q r h1) h)

def wheel_Wheel_Due_w (P : Program) (w : Option Addr) (id_ : Int) (Q : (Int → (Bool → (Hp → Prop)))) (h : Hp) : Prop :=
 NilW none w fun p =>
 LdW none shMap h (Addr.add p 1) fun x =>
 LookW none (.int .i64) sh_wheel_entry (.agg #[(.int .i64 (0 : Int)), (.int .i64 (0 : Int))]) x (.int .i64 id_) h fun x1 ok =>
 Q x1.due ok h

def firebreakref11_Wheel_Set_w (P : Program) (w : Option Addr) (id_ : Int) (due : Int) (Q : (Int → (Hp → Prop))) (h : Hp) : Prop :=
 LetW ((decide (id_ < (0 : Int))) || (decide (due < (0 : Int)))) fun y =>
 (if y = true then
 Q (1 : Int) h
 else
 CallT P n_firebreakref11_Wheel_Clear [(.pointer w), (.int .i64 id_)] shBool (fun r h1 =>
 NilW none w fun p =>
 LdW none shSl h1 (Addr.add p 0) fun x =>
 NewW [(.int .i64 id_), (.int .i64 due)] (fun a h2 =>
 AppendW 2 16 [(.int .i64 (0 : Int)), (.int .i64 (0 : Int))] x ⟨(some a), 1, 1⟩ (fun r1 h3 =>
 NilW none w fun p1 =>
 StW h3 (Addr.add p1 0) [r1.v] (fun h4 =>
 Q (0 : Int) h4)) h2) h1) h)

def firebreakref11_Wheel_Clear_w (P : Program) (w : Option Addr) (id_ : Int) (Q : (Bool → (Hp → Prop))) (h : Hp) : Prop :=
 CallT P n_firebreakref11_Wheel_place [(.pointer w), (.int .i64 id_)] (shInt .i64) (fun r h1 =>
 (if (decide (r < (0 : Int))) = true then
 Q false h1
 else
 NewW [] (fun a h2 =>
 NilW none w fun p =>
 LdW none shSl h2 (Addr.add p 0) fun x =>
 (((0 : Int) ≤ r ∧ r ≤ ((x.cap : Nat) : Int)) ∧ LetW (α := Sl) ⟨(sbase x.base 2 0 x.cap), ((Int.toNat r) - 0), (x.cap - 0)⟩ fun y =>
 AppendW 2 16 [(.int .i64 (0 : Int)), (.int .i64 (0 : Int))] ⟨(some a), 0, 0⟩ y (fun r1 h3 =>
 NilW none w fun p1 =>
 LdW none shSl h3 (Addr.add p1 0) fun x1 =>
 (((0 : Int) ≤ (IntKind.wrap .i64 (r + (1 : Int))) ∧ (IntKind.wrap .i64 (r + (1 : Int))) ≤ ((x1.len : Nat) : Int)) ∧ LetW (α := Sl) ⟨(sbase x1.base 2 (Int.toNat (IntKind.wrap .i64 (r + (1 : Int)))) x1.cap), (x1.len - (Int.toNat (IntKind.wrap .i64 (r + (1 : Int))))), (x1.cap - (Int.toNat (IntKind.wrap .i64 (r + (1 : Int)))))⟩ fun y1 =>
 AppendW 2 16 [(.int .i64 (0 : Int)), (.int .i64 (0 : Int))] r1 y1 (fun r2 h4 =>
 NilW none w fun p2 =>
 StW h4 (Addr.add p2 0) [r2.v] (fun h5 =>
 Q true h5)) h3)) h2)) h1)) h

def firebreakref11_Wheel_Due_w (P : Program) (w : Option Addr) (id_ : Int) (Q : (Int → (Bool → (Hp → Prop)))) (h : Hp) : Prop :=
 CallT P n_firebreakref11_Wheel_place [(.pointer w), (.int .i64 id_)] (shInt .i64) (fun r h1 =>
 (if (decide (r < (0 : Int))) = true then
 Q (0 : Int) false h1
 else
 NilW none w fun p =>
 LdW none shSl h1 (Addr.add p 0) fun x =>
 ((InB x.base x.len r) ∧ LdW none (shInt .i64) h1 (Addr.add (sat x.base 2 r) 1) fun x1 =>
 Q x1 true h1))) h

def firebreaklaw11_own_w (P : Program) (l : Sl) (Q : (Hp → Prop)) (h : Hp) : Prop :=
 LoopW1 (α1 := Int) (fun again i h1 =>
 (if (decide (i < ((l.len : Nat) : Int))) = true then
 ((InB l.base l.len i) ∧ StW h1 (sat l.base 1 i) [(.int .i64 (-3 : Int))] (fun h2 =>
 again (IntKind.wrap .i64 (i + (1 : Int))) h2))
 else
 LoopW2 (α1 := Sl) (α2 := Int) (fun again1 l1 i1 h2 =>
 (if (decide (i1 < (20 : Int))) = true then
 NewW [(.int .i64 (-4 : Int))] (fun a h3 =>
 AppendW 1 8 [(.int .i64 (0 : Int))] ⟨l1.base, l1.len, l1.cap⟩ ⟨(some a), 1, 1⟩ (fun r h4 =>
 again1 r (IntKind.wrap .i64 (i1 + (1 : Int))) h4) h3) h2
 else
 Q h2)) l (0 : Int) h1)) (0 : Int) h

def firebreakref11_Wheel_Next_w (P : Program) (w : Option Addr) (Q : (Int → (Bool → (Hp → Prop)))) (h : Hp) : Prop :=
 NilW none w fun p =>
 LdW none shSl h (Addr.add p 0) fun x =>
 (if (((x.len : Nat) : Int) == (0 : Int)) = true then
 Q (0 : Int) false h
 else
 NilW none w fun p1 =>
 LdW none shSl h (Addr.add p1 0) fun x1 =>
 CallT P n_firebreakref11_Wheel_first [(.pointer w)] (shInt .i64) (fun r h1 =>
 (((LdIs h1 (Addr.add p1 0) [x1.v]) ∧ True) ∧ ((InB x1.base x1.len r) ∧ LdW none (shInt .i64) h1 (Addr.add (sat x1.base 2 r) 1) fun x2 =>
 Q x2 true h1))) h)

def firebreakref11_Wheel_first_w (P : Program) (w : Option Addr) (Q : (Int → (Hp → Prop))) (h : Hp) : Prop :=
 LoopW2 (α1 := Int) (α2 := Int) (fun again k i h1 =>
 NilW none w fun p =>
 LdW none shSl h1 (Addr.add p 0) fun x =>
 (if (decide (i < ((x.len : Nat) : Int))) = true then
 JoinW1 (α1 := Int) (fun k1 =>
 NilW none w fun p1 =>
 LdW none shSl h1 (Addr.add p1 0) fun x1 =>
 ((InB x1.base x1.len i) ∧ LdW none (shInt .i64) h1 (Addr.add (sat x1.base 2 i) 1) fun x2 =>
 NilW none w fun p2 =>
 LdW none shSl h1 (Addr.add p2 0) fun x3 =>
 ((InB x3.base x3.len k) ∧ LdW none (shInt .i64) h1 (Addr.add (sat x3.base 2 k) 1) fun x4 =>
 NilW (some (!(decide (x2 < x4)))) w fun p3 =>
 LdW (some (!(decide (x2 < x4)))) shSl h1 (Addr.add p3 0) fun x5 =>
 (((!(decide (x2 < x4))) = true → (InB x5.base x5.len i)) ∧ LdW (some (!(decide (x2 < x4)))) (shInt .i64) h1 (Addr.add (sat x5.base 2 i) 1) fun x6 =>
 NilW (some (!(decide (x2 < x4)))) w fun p4 =>
 LdW (some (!(decide (x2 < x4)))) shSl h1 (Addr.add p4 0) fun x7 =>
 (((!(decide (x2 < x4))) = true → (InB x7.base x7.len k)) ∧ LdW (some (!(decide (x2 < x4)))) (shInt .i64) h1 (Addr.add (sat x7.base 2 k) 1) fun x8 =>
 NilW (some ((!(decide (x2 < x4))) && (x6 == x8))) w fun p5 =>
 LdW (some ((!(decide (x2 < x4))) && (x6 == x8))) shSl h1 (Addr.add p5 0) fun x9 =>
 ((((!(decide (x2 < x4))) && (x6 == x8)) = true → (InB x9.base x9.len i)) ∧ LdW (some ((!(decide (x2 < x4))) && (x6 == x8))) (shInt .i64) h1 (Addr.add (sat x9.base 2 i) 0) fun x10 =>
 NilW (some ((!(decide (x2 < x4))) && (x6 == x8))) w fun p6 =>
 LdW (some ((!(decide (x2 < x4))) && (x6 == x8))) shSl h1 (Addr.add p6 0) fun x11 =>
 ((((!(decide (x2 < x4))) && (x6 == x8)) = true → (InB x11.base x11.len k)) ∧ LdW (some ((!(decide (x2 < x4))) && (x6 == x8))) (shInt .i64) h1 (Addr.add (sat x11.base 2 k) 0) fun x12 =>
 LetW ((x6 == x8) && (decide (x10 < x12))) fun y =>
 LetW ((decide (x2 < x4)) || y) fun y1 =>
 (if y1 = true then
 k1 i h1
 else
 k1 k h1))))))))
 (fun k1 h2 =>
 again k1 (IntKind.wrap .i64 (i + (1 : Int))) h2)
 else
 Q k h1)) (0 : Int) (0 : Int) h

def slices_BinarySearchFunc_wheel_entry_wheel_entry_wheel_entry_w (P : Program) (x : Sl) (target : S_wheel_entry) (cmp : Leaf) (Q : (Int → (Bool → (Hp → Prop)))) (h : Hp) : Prop :=
 LoopW2 (α1 := Int) (α2 := Int) (fun again i j h1 =>
 (if (decide (i < j)) = true then
 JoinW2 (α1 := Int) (α2 := Int) (fun k =>
 ((0 : Int) ≤ (1 : Int) ∧ ((InB x.base x.len (IntKind.wrap .i64 (shrI .u64 (IntKind.wrap .u64 (IntKind.wrap .i64 (i + j))) (1 : Int)))) ∧ LdW none sh_wheel_entry h1 (sat x.base 2 (IntKind.wrap .i64 (shrI .u64 (IntKind.wrap .u64 (IntKind.wrap .i64 (i + j))) (1 : Int)))) fun x1 =>
 CallV P tb cmp.v [x1.v, target.v] (shInt .i64) (fun r h2 =>
 (if (decide (r < (0 : Int))) = true then
 k (IntKind.wrap .i64 ((IntKind.wrap .i64 (shrI .u64 (IntKind.wrap .u64 (IntKind.wrap .i64 (i + j))) (1 : Int))) + (1 : Int))) j h2
 else
 k i (IntKind.wrap .i64 (shrI .u64 (IntKind.wrap .u64 (IntKind.wrap .i64 (i + j))) (1 : Int))) h2)) h1)))
 (fun i1 j1 h2 =>
 again i1 j1 h2)
 else
 (((decide (i < ((x.len : Nat) : Int))) = true → (InB x.base x.len i)) ∧ LdW (some (decide (i < ((x.len : Nat) : Int)))) sh_wheel_entry h1 (sat x.base 2 i) fun x1 =>
 EffC (some (decide (i < ((x.len : Nat) : Int)))) (CallV P tb cmp.v [x1.v, target.v] (shInt .i64)) (fun r h2 =>
 LetW ((decide (i < ((x.len : Nat) : Int))) && (r == (0 : Int))) fun y =>
 Q i y h2) h1))) (0 : Int) ((x.len : Nat) : Int) h

def wheel_order_w (P : Program) (a : S_wheel_entry) (b : S_wheel_entry) (Q : (Int → (Hp → Prop))) (h : Hp) : Prop :=
 CallT P n_cmp_Compare_int64 [(.int .i64 a.due), (.int .i64 b.due)] (shInt .i64) (fun r h1 =>
 ((True ∧ (True ∧ True)) ∧ CallT P n_cmp_Compare_int [(.int .i64 a.id_), (.int .i64 b.id_)] (shInt .i64) (fun r1 h2 =>
 NewW [(.int .i64 r), (.int .i64 r1)] (fun a1 h3 =>
 CallT P n_cmp_Or_int [(.slice (some a1) 2 2)] (shInt .i64) (fun r2 h4 =>
 Q r2 h4) h3) h2) h1)) h

def slices_Insert_wheel_entry_wheel_entry_w (P : Program) (s : Sl) (i : Int) (v : Sl) (Q : (Sl → (Hp → Prop))) (h : Hp) : Prop :=
 (((0 : Int) ≤ i ∧ i ≤ ((s.len : Nat) : Int)) ∧ LetW (α := Sl) ⟨(sbase s.base 2 (Int.toNat i) s.cap), (s.len - (Int.toNat i)), (s.cap - (Int.toNat i))⟩ fun y =>
 (if (((v.len : Nat) : Int) == (0 : Int)) = true then
 Q s h
 else
 (if (i == ((s.len : Nat) : Int)) = true then
 AppendW 2 16 [(.int .i64 (0 : Int)), (.int .i64 (0 : Int))] s v (fun r h1 =>
 Q r h1) h
 else
 (if (decide ((IntKind.wrap .i64 (((s.len : Nat) : Int) + ((v.len : Nat) : Int))) > ((s.cap : Nat) : Int))) = true then
 (((0 : Int) ≤ i ∧ i ≤ ((s.cap : Nat) : Int)) ∧ LetW (α := Sl) ⟨(sbase s.base 2 0 s.cap), ((Int.toNat i) - 0), (s.cap - 0)⟩ fun y1 =>
 AppendZW 2 16 [(.int .i64 (0 : Int)), (.int .i64 (0 : Int))] y1 (IntKind.wrap .i64 ((IntKind.wrap .i64 (((s.len : Nat) : Int) + ((v.len : Nat) : Int))) - i)) (fun r h1 =>
 (((0 : Int) ≤ i ∧ i ≤ ((r.len : Nat) : Int)) ∧ LetW (α := Sl) ⟨(sbase r.base 2 (Int.toNat i) r.cap), (r.len - (Int.toNat i)), (r.cap - (Int.toNat i))⟩ fun y2 =>
 CopyW 2 y2 v (fun r1 h2 =>
 (((0 : Int) ≤ (IntKind.wrap .i64 (i + ((v.len : Nat) : Int))) ∧ (IntKind.wrap .i64 (i + ((v.len : Nat) : Int))) ≤ ((r.len : Nat) : Int)) ∧ LetW (α := Sl) ⟨(sbase r.base 2 (Int.toNat (IntKind.wrap .i64 (i + ((v.len : Nat) : Int)))) r.cap), (r.len - (Int.toNat (IntKind.wrap .i64 (i + ((v.len : Nat) : Int))))), (r.cap - (Int.toNat (IntKind.wrap .i64 (i + ((v.len : Nat) : Int)))))⟩ fun y3 =>
 (((0 : Int) ≤ i ∧ i ≤ ((s.len : Nat) : Int)) ∧ LetW (α := Sl) ⟨(sbase s.base 2 (Int.toNat i) s.cap), (s.len - (Int.toNat i)), (s.cap - (Int.toNat i))⟩ fun y4 =>
 CopyW 2 y3 y4 (fun r2 h3 =>
 Q r h3) h2))) h1)) h)
 else
 (((0 : Int) ≤ (IntKind.wrap .i64 (((s.len : Nat) : Int) + ((v.len : Nat) : Int))) ∧ (IntKind.wrap .i64 (((s.len : Nat) : Int) + ((v.len : Nat) : Int))) ≤ ((s.cap : Nat) : Int)) ∧ LetW (α := Sl) ⟨(sbase s.base 2 0 s.cap), ((Int.toNat (IntKind.wrap .i64 (((s.len : Nat) : Int) + ((v.len : Nat) : Int)))) - 0), (s.cap - 0)⟩ fun y1 =>
 (((0 : Int) ≤ (IntKind.wrap .i64 (i + ((v.len : Nat) : Int))) ∧ (IntKind.wrap .i64 (i + ((v.len : Nat) : Int))) ≤ ((y1.len : Nat) : Int)) ∧ LetW (α := Sl) ⟨(sbase y1.base 2 (Int.toNat (IntKind.wrap .i64 (i + ((v.len : Nat) : Int)))) y1.cap), (y1.len - (Int.toNat (IntKind.wrap .i64 (i + ((v.len : Nat) : Int))))), (y1.cap - (Int.toNat (IntKind.wrap .i64 (i + ((v.len : Nat) : Int)))))⟩ fun y2 =>
 SemE P (Extern.SlicesOverlaps.overlaps #[79, 79] #[4] #[v.v, y2.v]) shBool (fun r h1 =>
 (if (!r) = true then
 (((0 : Int) ≤ (IntKind.wrap .i64 (i + ((v.len : Nat) : Int))) ∧ (IntKind.wrap .i64 (i + ((v.len : Nat) : Int))) ≤ ((y1.len : Nat) : Int)) ∧ LetW (α := Sl) ⟨(sbase y1.base 2 (Int.toNat (IntKind.wrap .i64 (i + ((v.len : Nat) : Int)))) y1.cap), (y1.len - (Int.toNat (IntKind.wrap .i64 (i + ((v.len : Nat) : Int))))), (y1.cap - (Int.toNat (IntKind.wrap .i64 (i + ((v.len : Nat) : Int)))))⟩ fun y3 =>
 (((0 : Int) ≤ i ∧ i ≤ ((y1.len : Nat) : Int)) ∧ LetW (α := Sl) ⟨(sbase y1.base 2 (Int.toNat i) y1.cap), (y1.len - (Int.toNat i)), (y1.cap - (Int.toNat i))⟩ fun y4 =>
 CopyW 2 y3 y4 (fun r1 h2 =>
 (((0 : Int) ≤ i ∧ i ≤ ((y1.len : Nat) : Int)) ∧ LetW (α := Sl) ⟨(sbase y1.base 2 (Int.toNat i) y1.cap), (y1.len - (Int.toNat i)), (y1.cap - (Int.toNat i))⟩ fun y5 =>
 CopyW 2 y5 v (fun r2 h3 =>
 Q y1 h3) h2)) h1))
 else
 (((0 : Int) ≤ ((s.len : Nat) : Int) ∧ ((s.len : Nat) : Int) ≤ ((y1.len : Nat) : Int)) ∧ LetW (α := Sl) ⟨(sbase y1.base 2 (Int.toNat ((s.len : Nat) : Int)) y1.cap), (y1.len - (Int.toNat ((s.len : Nat) : Int))), (y1.cap - (Int.toNat ((s.len : Nat) : Int)))⟩ fun y3 =>
 CopyW 2 y3 v (fun r1 h2 =>
 (((0 : Int) ≤ i ∧ i ≤ ((y1.len : Nat) : Int)) ∧ LetW (α := Sl) ⟨(sbase y1.base 2 (Int.toNat i) y1.cap), (y1.len - (Int.toNat i)), (y1.cap - (Int.toNat i))⟩ fun y4 =>
 Call0 P n_slices_rotateRight_wheel_entry [y4.v, (.int .i64 ((v.len : Nat) : Int))] (fun h3 =>
 Q y1 h3) h2)) h1))) h))))))

def slices_Delete_wheel_entry_wheel_entry_w (P : Program) (s : Sl) (i : Int) (j : Int) (Q : (Sl → (Hp → Prop))) (h : Hp) : Prop :=
 (((0 : Int) ≤ i ∧ (i ≤ j ∧ (j ≤ ((s.len : Nat) : Int) ∧ ((s.len : Nat) : Int) ≤ ((s.cap : Nat) : Int)))) ∧ LetW (α := Sl) ⟨(sbase s.base 2 (Int.toNat i) (Int.toNat ((s.len : Nat) : Int))), ((Int.toNat j) - (Int.toNat i)), ((Int.toNat ((s.len : Nat) : Int)) - (Int.toNat i))⟩ fun y =>
 (if (i == j) = true then
 Q s h
 else
 (((0 : Int) ≤ i ∧ i ≤ ((s.cap : Nat) : Int)) ∧ LetW (α := Sl) ⟨(sbase s.base 2 0 s.cap), ((Int.toNat i) - 0), (s.cap - 0)⟩ fun y1 =>
 (((0 : Int) ≤ j ∧ j ≤ ((s.len : Nat) : Int)) ∧ LetW (α := Sl) ⟨(sbase s.base 2 (Int.toNat j) s.cap), (s.len - (Int.toNat j)), (s.cap - (Int.toNat j))⟩ fun y2 =>
 AppendW 2 16 [(.int .i64 (0 : Int)), (.int .i64 (0 : Int))] y1 y2 (fun r h1 =>
 (((0 : Int) ≤ ((r.len : Nat) : Int) ∧ (((r.len : Nat) : Int) ≤ ((s.len : Nat) : Int) ∧ ((s.len : Nat) : Int) ≤ ((r.cap : Nat) : Int))) ∧ LetW (α := Sl) ⟨(sbase r.base 2 (Int.toNat ((r.len : Nat) : Int)) r.cap), ((Int.toNat ((s.len : Nat) : Int)) - (Int.toNat ((r.len : Nat) : Int))), (r.cap - (Int.toNat ((r.len : Nat) : Int)))⟩ fun y3 =>
 SemE0 P (Builtin.clear_ #[79] 0 #[y3.v]) shUnit (fun h2 =>
 Q r h2) h1)) h))))

def firebreakref01_Has_w (P : Program) (a : Int) (n : Int) (Q : (Bool → (Hp → Prop))) (h : Hp) : Prop :=
 LetW ((decide (n ≥ (0 : Int))) && (decide (n ≤ (63 : Int)))) fun y =>
 ((y = true → (0 : Int) ≤ n) ∧ LetW (y && ((bitsI .and .u64 (shrI .u64 a n) (1 : Int)) == (1 : Int))) fun y1 =>
 Q y1 h)

def firebreakref11_Wheel_place_w (P : Program) (w : Option Addr) (id_ : Int) (Q : (Int → (Hp → Prop))) (h : Hp) : Prop :=
 LoopW1 (α1 := Int) (fun again i h1 =>
 NilW none w fun p =>
 LdW none shSl h1 (Addr.add p 0) fun x =>
 (if (decide (i < ((x.len : Nat) : Int))) = true then
 NilW none w fun p1 =>
 LdW none shSl h1 (Addr.add p1 0) fun x1 =>
 ((InB x1.base x1.len i) ∧ LdW none (shInt .i64) h1 (Addr.add (sat x1.base 2 i) 0) fun x2 =>
 (if (x2 == id_) = true then
 Q i h1
 else
 again (IntKind.wrap .i64 (i + (1 : Int))) h1))
 else
 Q (-1 : Int) h1)) (0 : Int) h

def cmp_Or_int_w (P : Program) (vals : Sl) (Q : (Int → (Hp → Prop))) (h : Hp) : Prop :=
 LoopW1 (α1 := Int) (fun again t8 h1 =>
 (if (decide (t8 < ((vals.len : Nat) : Int))) = true then
 ((InB vals.base vals.len t8) ∧ LdW none (shInt .i64) h1 (sat vals.base 1 t8) fun x =>
 (if (x != (0 : Int)) = true then
 Q x h1
 else
 again (IntKind.wrap .i64 (t8 + (1 : Int))) h1))
 else
 Q (0 : Int) h1)) (0 : Int) h

def cmp_Compare_int64_w (P : Program) (x : Int) (y : Int) (Q : (Int → (Hp → Prop))) (h : Hp) : Prop :=
 CallT P n_cmp_isNaN_int64 [(.int .i64 x)] shBool (fun r h1 =>
 CallT P n_cmp_isNaN_int64 [(.int .i64 y)] shBool (fun r1 h2 =>
 (if r = true then
 (if r1 = true then
 Q (0 : Int) h2
 else
 Q (-1 : Int) h2)
 else
 (if r1 = true then
 Q (1 : Int) h2
 else
 (if (decide (x < y)) = true then
 Q (-1 : Int) h2
 else
 (if (decide (x > y)) = true then
 Q (1 : Int) h2
 else
 Q (0 : Int) h2))))) h1) h

def cmp_Compare_int_w (P : Program) (x : Int) (y : Int) (Q : (Int → (Hp → Prop))) (h : Hp) : Prop :=
 CallT P n_cmp_isNaN_int [(.int .i64 x)] shBool (fun r h1 =>
 CallT P n_cmp_isNaN_int [(.int .i64 y)] shBool (fun r1 h2 =>
 (if r = true then
 (if r1 = true then
 Q (0 : Int) h2
 else
 Q (-1 : Int) h2)
 else
 (if r1 = true then
 Q (1 : Int) h2
 else
 (if (decide (x < y)) = true then
 Q (-1 : Int) h2
 else
 (if (decide (x > y)) = true then
 Q (1 : Int) h2
 else
 Q (0 : Int) h2))))) h1) h

def slices_rotateRight_wheel_entry_w (P : Program) (s : Sl) (r : Int) (Q : (Hp → Prop)) (h : Hp) : Prop :=
 Call0 P n_slices_rotateLeft_wheel_entry [s.v, (.int .i64 (IntKind.wrap .i64 (((s.len : Nat) : Int) - r)))] (fun h1 =>
 Q h1) h

def cmp_isNaN_int64_w (P : Program) (x : Int) (Q : (Bool → (Hp → Prop))) (h : Hp) : Prop :=
 Q (x != x) h

def cmp_isNaN_int_w (P : Program) (x : Int) (Q : (Bool → (Hp → Prop))) (h : Hp) : Prop :=
 Q (x != x) h

def slices_rotateLeft_wheel_entry_w (P : Program) (s : Sl) (r : Int) (Q : (Hp → Prop)) (h : Hp) : Prop :=
 (((0 : Int) ≤ r ∧ r ≤ ((s.cap : Nat) : Int)) ∧ LetW (α := Sl) ⟨(sbase s.base 2 0 s.cap), ((Int.toNat r) - 0), (s.cap - 0)⟩ fun y =>
 Call0 P n_slices_Reverse_wheel_entry_wheel_entry [y.v] (fun h1 =>
 (((0 : Int) ≤ r ∧ r ≤ ((s.len : Nat) : Int)) ∧ LetW (α := Sl) ⟨(sbase s.base 2 (Int.toNat r) s.cap), (s.len - (Int.toNat r)), (s.cap - (Int.toNat r))⟩ fun y1 =>
 Call0 P n_slices_Reverse_wheel_entry_wheel_entry [y1.v] (fun h2 =>
 Call0 P n_slices_Reverse_wheel_entry_wheel_entry [s.v] (fun h3 =>
 Q h3) h2) h1)) h)

def slices_Reverse_wheel_entry_wheel_entry_w (P : Program) (s : Sl) (Q : (Hp → Prop)) (h : Hp) : Prop :=
 LoopW2 (α1 := Int) (α2 := Int) (fun again i j h1 =>
 (if (decide (i < j)) = true then
 ((InB s.base s.len j) ∧ LdW none sh_wheel_entry h1 (sat s.base 2 j) fun x =>
 ((InB s.base s.len i) ∧ LdW none sh_wheel_entry h1 (sat s.base 2 i) fun x1 =>
 ((InB s.base s.len i) ∧ StW h1 (sat s.base 2 i) [(.int .i64 x.due), (.int .i64 x.id_)] (fun h2 =>
 ((InB s.base s.len j) ∧ StW h2 (sat s.base 2 j) [(.int .i64 x1.due), (.int .i64 x1.id_)] (fun h3 =>
 again (IntKind.wrap .i64 (i + (1 : Int))) (IntKind.wrap .i64 (j - (1 : Int))) h3))))))
 else
 Q h1)) (0 : Int) (IntKind.wrap .i64 (((s.len : Nat) : Int) - (1 : Int))) h

end Lf
