/-
  Part 3 of the texts that the claim leans on.
-/
import Derived.Test.YtompbjaipbbbhaaMgTbMays1
/-
  By program: what the functions do.
-/
set_option linter.unusedVariables false
namespace Lf
open Go

def firebreaklaw20_GraphNames_w (P : Program)  (Q : (Bool → (Hp → Prop))) (h : Hp) : Prop :=
 EffC (some true) (CallT P n_firebreaklaw20_fixed [] shBool) (fun r h1 =>
 LetW (true && r) fun y =>
 Q y h1) h

def firebreaklaw20_GraphRings_w (P : Program) (e : Sl) (Q : (Bool → (Hp → Prop))) (h : Hp) : Prop :=
 (if (decide (((e.len : Nat) : Int) > (1048576 : Int))) = true then
 CallT P n_firebreaklaw20_fixed [] shBool (fun r h1 =>
 Q r h1) h
 else
 MakeW 16 [(.int .i64 (0 : Int)), (.int .i64 (0 : Int))] (0 : Int) (IntKind.wrap .i64 (((e.len : Nat) : Int) + (2 : Int))) (fun r h1 =>
 AppendW 2 16 [(.int .i64 (0 : Int)), (.int .i64 (0 : Int))] r e (fun r1 h2 =>
 NewW [(.int .i64 (1 : Int)), (.int .i64 (2 : Int)), (.int .i64 (2 : Int)), (.int .i64 (1 : Int))] (fun a h3 =>
 AppendW 2 16 [(.int .i64 (0 : Int)), (.int .i64 (0 : Int))] r1 ⟨(some a), 2, 2⟩ (fun r2 h4 =>
 (((0 : Int) ≤ ((e.len : Nat) : Int) ∧ ((e.len : Nat) : Int) ≤ ((r2.cap : Nat) : Int)) ∧ LetW (α := Sl) ⟨(sbase r2.base 2 0 r2.cap), ((Int.toNat ((e.len : Nat) : Int)) - 0), (r2.cap - 0)⟩ fun y =>
 CallT P n_firebreakref20_Ring [e.v] shSl (fun r3 h5 =>
 CallT P n_graph_Ring [y.v] shSl (fun r4 h6 =>
 CallT P n_graph_Ring [y.v] shSl (fun r5 h7 =>
 CallT P n_firebreaklaw20_ints [r4.v, r3.v] shBool (fun r6 h8 =>
 EffC (some (!(!r6))) (CallT P n_firebreaklaw20_ints [r5.v, r3.v] shBool) (fun r7 h9 =>
 LetW ((!r6) || (!r7)) fun y1 =>
 EffC (some (!y1)) (CallT P n_firebreaklaw20_edges [y.v, e.v] shBool) (fun r8 h10 =>
 LetW (y1 || (!r8)) fun y2 =>
 (if y2 = true then
 Q false h10
 else
 NewW [] (fun a1 h11 =>
 LoopW2 (α1 := Sl) (α2 := Int) (fun again back i h12 =>
 (if (decide (i ≥ (0 : Int))) = true then
 ((InB e.base e.len i) ∧ LdW none sh_n2_int h12 (sat e.base 2 i) fun x =>
 NewW [(.int .i64 x.a0), (.int .i64 x.a1)] (fun a2 h13 =>
 AppendW 2 16 [(.int .i64 (0 : Int)), (.int .i64 (0 : Int))] ⟨back.base, back.len, back.cap⟩ ⟨(some a2), 1, 1⟩ (fun r9 h14 =>
 again r9 (IntKind.wrap .i64 (i - (1 : Int))) h14) h13) h12)
 else
 CallT P n_graph_Ring [back.v] shSl (fun r9 h13 =>
 CallT P n_firebreaklaw20_ints [r9.v, r3.v] shBool (fun r10 h14 =>
 (if (!r10) = true then
 Q false h14
 else
 CallT P n_firebreakref20_Next [e.v] shMap (fun r11 h15 =>
 MakeMapW  (fun r12 h16 =>
 LoopW1 (α1 := Int) (fun again1 i1 h17 =>
 (if (decide (i1 < ((r4.len : Nat) : Int))) = true then
 ((InB r4.base r4.len i1) ∧ LdW none (shInt .i64) h17 (sat r4.base 1 i1) fun x =>
 LookW none (.int .i64) (shInt .i64) (.int .i64 (0 : Int)) r11 (.int .i64 x) h17 fun x1 ok =>
 ((InB r4.base r4.len i1) ∧ LdW none (shInt .i64) h17 (sat r4.base 1 i1) fun x2 =>
 LookW none (.int .i64) (shInt .i64) (.int .i64 (0 : Int)) r12 (.int .i64 x2) h17 fun x3 ok1 =>
 MapSetW (.int .i64) r12 (.int .i64 x2) (.int .i64 (IntKind.wrap .i64 (x3 + (1 : Int)))) (fun h18 =>
 (((!(!ok)) = true → ((r4.len : Nat) : Int) ≠ (0 : Int)) ∧ (((!(!ok)) = true → (InB r4.base r4.len (Int.tmod (IntKind.wrap .i64 (i1 + (1 : Int))) ((r4.len : Nat) : Int)))) ∧ LdW (some (!(!ok))) (shInt .i64) h18 (sat r4.base 1 (Int.tmod (IntKind.wrap .i64 (i1 + (1 : Int))) ((r4.len : Nat) : Int))) fun x4 =>
 LetW ((!ok) || (x1 != x4)) fun y3 =>
 (((!y3) = true → (InB r4.base r4.len i1)) ∧ LdW (some (!y3)) (shInt .i64) h18 (sat r4.base 1 i1) fun x5 =>
 LookW (some (!y3)) (.int .i64) (shInt .i64) (.int .i64 (0 : Int)) r12 (.int .i64 x5) h18 fun x6 ok2 =>
 LetW (y3 || (decide (x6 > (1 : Int)))) fun y4 =>
 (((!y4) = true → (InB r4.base r4.len i1)) ∧ LdW (some (!y4)) (shInt .i64) h18 (sat r4.base 1 i1) fun x7 =>
 (((!y4) = true → (InB r4.base r4.len (0 : Int))) ∧ LdW (some (!y4)) (shInt .i64) h18 (sat r4.base 1 (0 : Int)) fun x8 =>
 LetW (y4 || (decide (x7 < x8))) fun y5 =>
 (if y5 = true then
 Q false h18
 else
 again1 (IntKind.wrap .i64 (i1 + (1 : Int))) h18))))))) h17))
 else
 LoopW1 (α1 := Int) (fun again2 i2 h18 =>
 (if (decide (i2 < ((r4.len : Nat) : Int))) = true then
 ((InB r4.base r4.len i2) ∧ StW h18 (sat r4.base 1 i2) [(.int .i64 (-9 : Int))] (fun h19 =>
 again2 (IntKind.wrap .i64 (i2 + (1 : Int))) h19))
 else
 LoopW2 (α1 := Sl) (α2 := Int) (fun again3 l i3 h19 =>
 (if (decide (i3 < (9 : Int))) = true then
 NewW [(.int .i64 (-9 : Int))] (fun a2 h20 =>
 AppendW 1 8 [(.int .i64 (0 : Int))] ⟨l.base, l.len, l.cap⟩ ⟨(some a2), 1, 1⟩ (fun r13 h21 =>
 again3 r13 (IntKind.wrap .i64 (i3 + (1 : Int))) h21) h20) h19
 else
 CallT P n_firebreaklaw20_ints [r5.v, r3.v] shBool (fun r13 h20 =>
 EffC (some r13) (CallT P n_firebreaklaw20_fixed [] shBool) (fun r14 h21 =>
 LetW (r13 && r14) fun y3 =>
 Q y3 h21) h20) h19)) r4 (0 : Int) h18)) (0 : Int) h17)) (0 : Int) h16) h15) h14)) h13) h12)) ⟨(some a1), 0, 0⟩ (IntKind.wrap .i64 (((e.len : Nat) : Int) - (1 : Int))) h11) h10)) h9) h8) h7) h6) h5) h4)) h3) h2) h1) h)

def firebreaklaw02_TableMays_w (P : Program) (l : Sl) (Q : (Bool → (Hp → Prop))) (h : Hp) : Prop :=
 CallT P n_firebreaklaw02_awake [] shBool (fun r h1 =>
 (if (!r) = true then
 Q false h1
 else
 CallT P n_firebreaklaw02_short [l.v] shSl (fun r1 h2 =>
 Call2 P n_table_May [r1.v] (shInt .i64) (shInt .i64) (fun r2 r3 h3 =>
 Call2 P n_firebreakref02_May [r1.v] (shInt .i64) (shInt .i64) (fun r4 r5 h4 =>
 Call3 P n_table_New [r1.v] shPtr (shInt .i64) (shInt .i64) (fun r6 r7 r8 h5 =>
 LetW ((r2 != r4) || (r3 != r5)) fun y =>
 LetW (y || (r7 != r4)) fun y1 =>
 LetW (y1 || (r8 != r5)) fun y2 =>
 LetW (y2 || (!((Option.isNone r6) == (r4 != (0 : Int))))) fun y3 =>
 (if y3 = true then
 Q false h5
 else
 (((0 : Int) ≤ (min2I ((r1.len : Nat) : Int) (300 : Int)) ∧ ((min2I ((r1.len : Nat) : Int) (300 : Int)) ≤ (min2I ((r1.len : Nat) : Int) (300 : Int)) ∧ (min2I ((r1.len : Nat) : Int) (300 : Int)) ≤ ((r1.cap : Nat) : Int))) ∧ LetW (α := Sl) ⟨(sbase r1.base 1 0 (Int.toNat (min2I ((r1.len : Nat) : Int) (300 : Int)))), ((Int.toNat (min2I ((r1.len : Nat) : Int) (300 : Int))) - 0), ((Int.toNat (min2I ((r1.len : Nat) : Int) (300 : Int))) - 0)⟩ fun y4 =>
 CallT P n_table_Canon [y4.v] shSl (fun r9 h6 =>
 CallT P n_firebreakref02_Canon [y4.v] shSl (fun r10 h7 =>
 CallT P n_firebreakref02_SameLabels [r9.v, r10.v] shBool (fun r11 h8 =>
 Q r11 h8) h7) h6) h5))) h4) h3) h2) h1)) h

def firebreaklaw02_TableOrder_w (P : Program) (l : Sl) (Q : (Bool → (Hp → Prop))) (h : Hp) : Prop :=
 CallT P n_firebreaklaw02_awake [] shBool (fun r h1 =>
 (if (!r) = true then
 Q false h1
 else
 (((0 : Int) ≤ (min2I ((l.len : Nat) : Int) (300 : Int)) ∧ ((min2I ((l.len : Nat) : Int) (300 : Int)) ≤ (min2I ((l.len : Nat) : Int) (300 : Int)) ∧ (min2I ((l.len : Nat) : Int) (300 : Int)) ≤ ((l.cap : Nat) : Int))) ∧ LetW (α := Sl) ⟨(sbase l.base 1 0 (Int.toNat (min2I ((l.len : Nat) : Int) (300 : Int)))), ((Int.toNat (min2I ((l.len : Nat) : Int) (300 : Int))) - 0), ((Int.toNat (min2I ((l.len : Nat) : Int) (300 : Int))) - 0)⟩ fun y =>
 CallT P n_table_Canon [y.v] shSl (fun r1 h2 =>
 LoopW1 (α1 := Int) (fun again t36 h3 =>
 (if (decide (t36 < ((r1.len : Nat) : Int))) = true then
 ((InB r1.base r1.len t36) ∧ LdW none (shInt .u64) h3 (sat r1.base 1 t36) fun x =>
 (((decide (t36 > (0 : Int))) = true → (InB r1.base r1.len (IntKind.wrap .i64 (t36 - (1 : Int))))) ∧ LdW (some (decide (t36 > (0 : Int)))) (shInt .u64) h3 (sat r1.base 1 (IntKind.wrap .i64 (t36 - (1 : Int)))) fun x1 =>
 LetW ((decide (t36 > (0 : Int))) && (decide (x1 ≥ x))) fun y1 =>
 (if y1 = true then
 Q false h3
 else
 LoopW2 (α1 := Bool) (α2 := Int) (fun again1 in_ t54 h4 =>
 (if (decide (t54 < ((y.len : Nat) : Int))) = true then
 ((InB y.base y.len t54) ∧ LdW none (shInt .u64) h4 (sat y.base 1 t54) fun x2 =>
 LetW (in_ || (x == x2)) fun y2 =>
 again1 y2 (IntKind.wrap .i64 (t54 + (1 : Int))) h4)
 else
 (if (!in_) = true then
 Q false h4
 else
 again (IntKind.wrap .i64 (t36 + (1 : Int))) h4))) false (0 : Int) h3)))
 else
 LoopW1 (α1 := Int) (fun again1 t70 h4 =>
 (if (decide (t70 < ((y.len : Nat) : Int))) = true then
 ((InB y.base y.len t70) ∧ LdW none (shInt .u64) h4 (sat y.base 1 t70) fun x =>
 LoopW2 (α1 := Bool) (α2 := Int) (fun again2 in_ t76 h5 =>
 (if (decide (t76 < ((r1.len : Nat) : Int))) = true then
 ((InB r1.base r1.len t76) ∧ LdW none (shInt .u64) h5 (sat r1.base 1 t76) fun x1 =>
 LetW (in_ || (x == x1)) fun y1 =>
 again2 y1 (IntKind.wrap .i64 (t76 + (1 : Int))) h5)
 else
 (if (!in_) = true then
 Q false h5
 else
 again1 (IntKind.wrap .i64 (t70 + (1 : Int))) h5))) false (0 : Int) h4)
 else
 (((0 : Int) ≤ (min2I ((r1.len : Nat) : Int) (8 : Int)) ∧ (min2I ((r1.len : Nat) : Int) (8 : Int)) ≤ ((r1.cap : Nat) : Int)) ∧ LetW (α := Sl) ⟨(sbase r1.base 1 0 r1.cap), ((Int.toNat (min2I ((r1.len : Nat) : Int) (8 : Int))) - 0), (r1.cap - 0)⟩ fun y1 =>
 Call3 P n_table_New [y1.v] shPtr (shInt .i64) (shInt .i64) (fun r2 r3 r4 h5 =>
 (if (((y1.len : Nat) : Int) == (0 : Int)) = true then
 Q (r3 == (1 : Int)) h5
 else
 LetW ((r3 != (0 : Int)) || (Option.isNone r2)) fun y2 =>
 (if y2 = true then
 Q false h5
 else
 LoopW1 (α1 := Int) (fun again2 t114 h6 =>
 (if (decide (t114 < ((y1.len : Nat) : Int))) = true then
 ((InB y1.base y1.len t114) ∧ LdW none (shInt .u64) h6 (sat y1.base 1 t114) fun x =>
 CallT P n_table_Table_Up [(.pointer r2), (.int .i64 t114)] shSl (fun r5 h7 =>
 (((LdIs h7 (sat y1.base 1 t114) [(.int .u64 x)]) ∧ True) ∧ CallT P n_table_Table_Down [(.pointer r2), (.int .u64 x)] shSl (fun r6 h8 =>
 LoopW1 (α1 := Int) (fun again3 t128 h9 =>
 (if (decide (t128 < ((y1.len : Nat) : Int))) = true then
 CallT P n_table_Table_Flows [(.pointer r2), (.int .i64 t114), (.int .i64 t128)] shBool (fun r7 h10 =>
 EffC (some ((r7 && (!(decide (t114 > t128)))) && (t114 != t128))) (CallT P n_table_Table_Flows [(.pointer r2), (.int .i64 t128), (.int .i64 t114)] shBool) (fun r8 h11 =>
 LetW ((t114 != t128) && r8) fun y3 =>
 LetW ((decide (t114 > t128)) || y3) fun y4 =>
 LetW (r7 && y4) fun y5 =>
 EffC (some ((!y5) && (t114 == t128))) (CallT P n_table_Table_Flows [(.pointer r2), (.int .i64 t114), (.int .i64 t128)] shBool) (fun r9 h12 =>
 LetW ((t114 == t128) && (!r9)) fun y6 =>
 LetW (y5 || y6) fun y7 =>
 EffC (some (!y7)) (CallT P n_table_Table_Flows [(.pointer r2), (.int .i64 t114), (.int .i64 t128)] shBool) (fun r10 h13 =>
 EffC (some (!y7)) (CallT P n_firebreaklaw02_has [r5.v, (.int .i64 t128)] shBool) (fun r11 h14 =>
 LetW (y7 || (!(r10 == r11))) fun y8 =>
 EffC (some (!y8)) (CallT P n_table_Table_Flows [(.pointer r2), (.int .i64 t128), (.int .i64 t114)] shBool) (fun r12 h15 =>
 EffC (some (!y8)) (CallT P n_firebreaklaw02_has [r6.v, (.int .i64 t128)] shBool) (fun r13 h16 =>
 LetW (y8 || (!(r12 == r13))) fun y9 =>
 (if y9 = true then
 Q false h16
 else
 LoopW1 (α1 := Int) (fun again4 t185 h17 =>
 (if (decide (t185 < ((y1.len : Nat) : Int))) = true then
 CallT P n_table_Table_Flows [(.pointer r2), (.int .i64 t114), (.int .i64 t128)] shBool (fun r14 h18 =>
 EffC (some r14) (CallT P n_table_Table_Flows [(.pointer r2), (.int .i64 t128), (.int .i64 t185)] shBool) (fun r15 h19 =>
 LetW (r14 && r15) fun y10 =>
 EffC (some y10) (CallT P n_table_Table_Flows [(.pointer r2), (.int .i64 t114), (.int .i64 t185)] shBool) (fun r16 h20 =>
 LetW (y10 && (!r16)) fun y11 =>
 (if y11 = true then
 Q false h20
 else
 again4 (IntKind.wrap .i64 (t185 + (1 : Int))) h20)) h19) h18) h17
 else
 again3 (IntKind.wrap .i64 (t128 + (1 : Int))) h17)) (0 : Int) h16)) h15) h14) h13) h12) h11) h10) h9
 else
 again2 (IntKind.wrap .i64 (t114 + (1 : Int))) h9)) (0 : Int) h8) h7)) h6)
 else
 Q true h6)) (0 : Int) h5))) h4))) (0 : Int) h3)) (0 : Int) h2) h1))) h

def firebreaklaw02_TableKeeps_w (P : Program) (l : Sl) (a : Int) (Q : (Bool → (Hp → Prop))) (h : Hp) : Prop :=
 CallT P n_firebreaklaw02_awake [] shBool (fun r h1 =>
 (if (!r) = true then
 Q false h1
 else
 CallT P n_firebreaklaw02_short [l.v] shSl (fun r1 h2 =>
 CallT P n_firebreaklaw02_wide [r1.v] shSl (fun r2 h3 =>
 Call2 P n_table_May [r2.v] (shInt .i64) (shInt .i64) (fun r3 r4 h4 =>
 (((0 : Int) ≤ (min2I ((r2.len : Nat) : Int) (300 : Int)) ∧ (min2I ((r2.len : Nat) : Int) (300 : Int)) ≤ ((r2.cap : Nat) : Int)) ∧ LetW (α := Sl) ⟨(sbase r2.base 1 0 r2.cap), ((Int.toNat (min2I ((r2.len : Nat) : Int) (300 : Int))) - 0), (r2.cap - 0)⟩ fun y =>
 CallT P n_table_Canon [y.v] shSl (fun r5 h5 =>
 (((0 : Int) ≤ (min2I ((r2.len : Nat) : Int) (300 : Int)) ∧ (min2I ((r2.len : Nat) : Int) (300 : Int)) ≤ ((r2.cap : Nat) : Int)) ∧ LetW (α := Sl) ⟨(sbase r2.base 1 0 r2.cap), ((Int.toNat (min2I ((r2.len : Nat) : Int) (300 : Int))) - 0), (r2.cap - 0)⟩ fun y1 =>
 CallT P n_table_Canon [y1.v] shSl (fun r6 h6 =>
 Call3 P n_table_New [r2.v] shPtr (shInt .i64) (shInt .i64) (fun r7 r8 r9 h7 =>
 CallT P n_firebreaklaw02_kept [r2.v, r1.v] shBool (fun r10 h8 =>
 (if (!r10) = true then
 Q false h8
 else
 LoopW1 (α1 := Int) (fun again t54 h9 =>
 (if (decide (t54 < ((r2.len : Nat) : Int))) = true then
 ((InB r2.base r2.len t54) ∧ LdW none (shInt .u64) h9 (sat r2.base 1 t54) fun x =>
 ((InB r2.base r2.len t54) ∧ StW h9 (sat r2.base 1 t54) [(.int .u64 (bitsI .xor .u64 x (23130 : Int)))] (fun h10 =>
 again (IntKind.wrap .i64 (t54 + (1 : Int))) h10)))
 else
 (((0 : Int) ≤ (min2I ((r1.len : Nat) : Int) (300 : Int)) ∧ (min2I ((r1.len : Nat) : Int) (300 : Int)) ≤ ((r1.cap : Nat) : Int)) ∧ LetW (α := Sl) ⟨(sbase r1.base 1 0 r1.cap), ((Int.toNat (min2I ((r1.len : Nat) : Int) (300 : Int))) - 0), (r1.cap - 0)⟩ fun y2 =>
 CallT P n_firebreakref02_Canon [y2.v] shSl (fun r11 h10 =>
 CallT P n_firebreakref02_SameLabels [r5.v, r11.v] shBool (fun r12 h11 =>
 EffC (some (!(!r12))) (CallT P n_firebreakref02_SameLabels [r6.v, r11.v] shBool) (fun r13 h12 =>
 LetW ((!r12) || (!r13)) fun y3 =>
 (if y3 = true then
 Q false h12
 else
 LoopW1 (α1 := Int) (fun again1 t82 h13 =>
 (if (decide (t82 < ((r5.len : Nat) : Int))) = true then
 ((InB r5.base r5.len t82) ∧ StW h13 (sat r5.base 1 t82) [(.int .u64 (7 : Int))] (fun h14 =>
 again1 (IntKind.wrap .i64 (t82 + (1 : Int))) h14))
 else
 LoopW2 (α1 := Sl) (α2 := Int) (fun again2 x t89 h14 =>
 (if (decide (t89 < (20 : Int))) = true then
 NewW [(.int .u64 (8 : Int))] (fun a1 h15 =>
 AppendW 1 8 [(.int .u64 (0 : Int))] ⟨x.base, x.len, x.cap⟩ ⟨(some a1), 1, 1⟩ (fun r14 h16 =>
 again2 r14 (IntKind.wrap .i64 (t89 + (1 : Int))) h16) h15) h14
 else
 CallT P n_firebreakref02_SameLabels [r6.v, r11.v] shBool (fun r14 h15 =>
 LetW ((!r14) || (!((r8 == (0 : Int)) == (!(Option.isNone r7))))) fun y4 =>
 (if y4 = true then
 Q false h15
 else
 (if (Option.isNone r7) = true then
 Q true h15
 else
 NewW [] (fun a1 h16 =>
 LoopW2 (α1 := Sl) (α2 := Int) (fun again3 all t109 h17 =>
 (if (decide (t109 < (2 : Int))) = true then
 CallT P n_table_Table_Down [(.pointer r7), (.int .u64 a)] shSl (fun r15 h18 =>
 CallT P n_table_Table_Up [(.pointer r7), (.int .i64 (0 : Int))] shSl (fun r16 h19 =>
 CallT P n_table_Table_Up [(.pointer r7), (.int .i64 (IntKind.wrap .i64 (((r1.len : Nat) : Int) - (1 : Int))))] shSl (fun r17 h20 =>
 NewW [r15.v, r16.v, r17.v] (fun a2 h21 =>
 AppendW 1 24 [(.slice none 0 0)] ⟨all.base, all.len, all.cap⟩ ⟨(some a2), 3, 3⟩ (fun r18 h22 =>
 again3 r18 (IntKind.wrap .i64 (t109 + (1 : Int))) h22) h21) h20) h19) h18) h17
 else
 NewW [] (fun a2 h18 =>
 LoopW2 (α1 := Sl) (α2 := Int) (fun again4 long t128 h19 =>
 (if (decide (t128 < ((all.len : Nat) : Int))) = true then
 ((InB all.base all.len t128) ∧ LdW none shSl h19 (sat all.base 1 t128) fun x1 =>
 LoopW1 (α1 := Int) (fun again5 t135 h20 =>
 (if (decide (t135 < ((x1.len : Nat) : Int))) = true then
 ((InB x1.base x1.len t135) ∧ StW h20 (sat x1.base 1 t135) [(.int .i64 (IntKind.wrap .i64 ((100 : Int) + t128)))] (fun h21 =>
 again5 (IntKind.wrap .i64 (t135 + (1 : Int))) h21))
 else
 LoopW2 (α1 := Sl) (α2 := Int) (fun again6 m t144 h21 =>
 (if (decide (t144 < (20 : Int))) = true then
 NewW [(.int .i64 (IntKind.wrap .i64 ((100 : Int) + t128)))] (fun a3 h22 =>
 AppendW 1 8 [(.int .i64 (0 : Int))] ⟨m.base, m.len, m.cap⟩ ⟨(some a3), 1, 1⟩ (fun r15 h23 =>
 again6 r15 (IntKind.wrap .i64 (t144 + (1 : Int))) h23) h22) h21
 else
 NewW [m.v] (fun a3 h22 =>
 AppendW 1 24 [(.slice none 0 0)] ⟨long.base, long.len, long.cap⟩ ⟨(some a3), 1, 1⟩ (fun r15 h23 =>
 again4 r15 (IntKind.wrap .i64 (t128 + (1 : Int))) h23) h22) h21)) x1 (0 : Int) h20)) (0 : Int) h19)
 else
 LoopW1 (α1 := Int) (fun again5 t159 h20 =>
 (if (decide (t159 < ((long.len : Nat) : Int))) = true then
 ((InB long.base long.len t159) ∧ LdW none shSl h20 (sat long.base 1 t159) fun x1 =>
 LoopW1 (α1 := Int) (fun again6 t166 h21 =>
 (if (decide (t166 < ((x1.len : Nat) : Int))) = true then
 ((InB x1.base x1.len t166) ∧ LdW none (shInt .i64) h21 (sat x1.base 1 t166) fun x2 =>
 (((!(x2 != (IntKind.wrap .i64 ((100 : Int) + t159)))) = true → (InB all.base all.len t159)) ∧ LdW (some (!(x2 != (IntKind.wrap .i64 ((100 : Int) + t159))))) shSl h21 (sat all.base 1 t159) fun x3 =>
 ((((!(x2 != (IntKind.wrap .i64 ((100 : Int) + t159)))) && (decide (t166 < ((x3.len : Nat) : Int)))) = true → (InB all.base all.len t159)) ∧ LdW (some ((!(x2 != (IntKind.wrap .i64 ((100 : Int) + t159)))) && (decide (t166 < ((x3.len : Nat) : Int))))) shSl h21 (sat all.base 1 t159) fun x4 =>
 ((((!(x2 != (IntKind.wrap .i64 ((100 : Int) + t159)))) && (decide (t166 < ((x3.len : Nat) : Int)))) = true → (InB x4.base x4.len t166)) ∧ LdW (some ((!(x2 != (IntKind.wrap .i64 ((100 : Int) + t159)))) && (decide (t166 < ((x3.len : Nat) : Int))))) (shInt .i64) h21 (sat x4.base 1 t166) fun x5 =>
 LetW ((decide (t166 < ((x3.len : Nat) : Int))) && (x5 != (IntKind.wrap .i64 ((100 : Int) + t159)))) fun y5 =>
 LetW ((x2 != (IntKind.wrap .i64 ((100 : Int) + t159))) || y5) fun y6 =>
 (if y6 = true then
 Q false h21
 else
 again6 (IntKind.wrap .i64 (t166 + (1 : Int))) h21)))))
 else
 again5 (IntKind.wrap .i64 (t159 + (1 : Int))) h21)) (0 : Int) h20)
 else
 CallT P n_table_Table_Down [(.pointer r7), (.int .u64 a)] shSl (fun r15 h21 =>
 CallT P n_firebreakref02_Down [r1.v, (.int .u64 a)] shSl (fun r16 h22 =>
 CallT P n_firebreakref02_SameInts [r15.v, r16.v] shBool (fun r17 h23 =>
 EffC (some r17) (CallT P n_table_Table_Up [(.pointer r7), (.int .i64 (0 : Int))] shSl) (fun r18 h24 =>
 EffC (some r17) (CallT P n_firebreakref02_Up [r1.v, (.int .i64 (0 : Int))] shSl) (fun r19 h25 =>
 EffC (some r17) (CallT P n_firebreakref02_SameInts [r18.v, r19.v] shBool) (fun r20 h26 =>
 LetW (r17 && r20) fun y5 =>
 Q y5 h26) h25) h24) h23) h22) h21) h20)) (0 : Int) h19)) ⟨(some a2), 0, 0⟩ (0 : Int) h18) h17)) ⟨(some a1), 0, 0⟩ (0 : Int) h16) h15))) h14)) r5 (0 : Int) h13)) (0 : Int) h12)) h11) h10) h9))) (0 : Int) h8)) h7) h6) h5)) h4)) h3) h2) h1)) h

def firebreaklaw20_fixed_w (P : Program)  (Q : (Bool → (Hp → Prop))) (h : Hp) : Prop :=
 NewW [(.int .i64 (3 : Int)), (.int .i64 (1 : Int)), (.int .i64 (1 : Int)), (.int .i64 (2 : Int)), (.int .i64 (2 : Int)), (.int .i64 (3 : Int))] (fun a h1 =>
 CallT P n_graph_Ring [(.slice (some a) 3 3)] shSl (fun r h2 =>
 (((((r.len : Nat) : Int) == (3 : Int)) = true → (InB r.base r.len (0 : Int))) ∧ LdW (some (((r.len : Nat) : Int) == (3 : Int))) (shInt .i64) h2 (sat r.base 1 (0 : Int)) fun x =>
 LetW ((((r.len : Nat) : Int) == (3 : Int)) && (x == (1 : Int))) fun y =>
 ((y = true → (InB r.base r.len (1 : Int))) ∧ LdW (some y) (shInt .i64) h2 (sat r.base 1 (1 : Int)) fun x1 =>
 LetW (y && (x1 == (2 : Int))) fun y1 =>
 ((y1 = true → (InB r.base r.len (2 : Int))) ∧ LdW (some y1) (shInt .i64) h2 (sat r.base 1 (2 : Int)) fun x2 =>
 LetW (y1 && (x2 == (3 : Int))) fun y2 =>
 EffC (some y2) (NewW [(.int .i64 (1 : Int)), (.int .i64 (2 : Int)), (.int .i64 (2 : Int)), (.int .i64 (3 : Int))]) (fun r1 h3 =>
 EffC (some y2) (CallT P n_graph_Ring [(.slice (some r1) 2 2)] shSl) (fun r2 h4 =>
 LetW (y2 && (((r2.len : Nat) : Int) == (0 : Int))) fun y3 =>
 Q y3 h4) h3) h2)))) h1) h

def firebreakref20_Ring_w (P : Program) (e : Sl) (Q : (Sl → (Hp → Prop))) (h : Hp) : Prop :=
 CallT P n_firebreakref20_Next [e.v] shMap (fun r h1 =>
 NewW [] (fun a h2 =>
 SemE0 P (Instr.range 29 (.map r)) shUnit (fun h3 =>
 LoopW1 (α1 := Sl) (fun again begins h4 =>
 SemE0 P (Instr.next (.tuple #[]) false 0) shUnit (fun h5 =>
 False) h4) ⟨(some a), 0, 0⟩ h3) h2) h1) h

def firebreaklaw20_ints_w (P : Program) (a : Sl) (b : Sl) (Q : (Bool → (Hp → Prop))) (h : Hp) : Prop :=
 (if (((a.len : Nat) : Int) != ((b.len : Nat) : Int)) = true then
 Q false h
 else
 LoopW1 (α1 := Int) (fun again i h1 =>
 (if (decide (i < ((a.len : Nat) : Int))) = true then
 ((InB a.base a.len i) ∧ LdW none (shInt .i64) h1 (sat a.base 1 i) fun x =>
 ((InB b.base b.len i) ∧ LdW none (shInt .i64) h1 (sat b.base 1 i) fun x1 =>
 (if (x != x1) = true then
 Q false h1
 else
 again (IntKind.wrap .i64 (i + (1 : Int))) h1)))
 else
 Q true h1)) (0 : Int) h)

def firebreaklaw20_edges_w (P : Program) (a : Sl) (b : Sl) (Q : (Bool → (Hp → Prop))) (h : Hp) : Prop :=
 (if (((a.len : Nat) : Int) != ((b.len : Nat) : Int)) = true then
 Q false h
 else
 LoopW1 (α1 := Int) (fun again i h1 =>
 (if (decide (i < ((a.len : Nat) : Int))) = true then
 ((InB a.base a.len i) ∧ LdW none sh_n2_int h1 (sat a.base 2 i) fun x =>
 ((InB b.base b.len i) ∧ LdW none sh_n2_int h1 (sat b.base 2 i) fun x1 =>
 SemV none P (binS .neq 24 (.tmp 20) (.tmp 24) x.v x1.v) shBool h1 fun x2 =>
 (if x2 = true then
 Q false h1
 else
 again (IntKind.wrap .i64 (i + (1 : Int))) h1)))
 else
 Q true h1)) (0 : Int) h)

def firebreakref20_Next_w (P : Program) (e : Sl) (Q : (Option Nat → (Hp → Prop))) (h : Hp) : Prop :=
 MakeMapW  (fun r h1 =>
 LoopW1 (α1 := Int) (fun again i h2 =>
 (if (decide (i < ((e.len : Nat) : Int))) = true then
 JoinW0 (fun k =>
 ((InB e.base e.len i) ∧ (((0 : Int) ≤ (0 : Int) ∧ (0 : Int) < (2 : Int)) ∧ LdW none (shInt .i64) h2 (Addr.add (sat e.base 2 i) 0) fun x =>
 LookW none (.int .i64) (shInt .i64) (.int .i64 (0 : Int)) r (.int .i64 x) h2 fun x1 ok =>
 (((!(!ok)) = true → (InB e.base e.len i)) ∧ (((!(!ok)) = true → ((0 : Int) ≤ (1 : Int) ∧ (1 : Int) < (2 : Int))) ∧ LdW (some (!(!ok))) (shInt .i64) h2 (Addr.add (sat e.base 2 i) 1) fun x2 =>
 LetW ((!ok) || (decide (x2 < x1))) fun y =>
 (if y = true then
 ((InB e.base e.len i) ∧ (((0 : Int) ≤ (0 : Int) ∧ (0 : Int) < (2 : Int)) ∧ LdW none (shInt .i64) h2 (Addr.add (sat e.base 2 i) 0) fun x3 =>
 ((InB e.base e.len i) ∧ (((0 : Int) ≤ (1 : Int) ∧ (1 : Int) < (2 : Int)) ∧ LdW none (shInt .i64) h2 (Addr.add (sat e.base 2 i) 1) fun x4 =>
 MapSetW (.int .i64) r (.int .i64 x3) (.int .i64 x4) (fun h3 =>
 k h3) h2))))
 else
 k h2))))))
 (fun h3 =>
 again (IntKind.wrap .i64 (i + (1 : Int))) h3)
 else
 Q r h2)) (0 : Int) h1) h

def firebreaklaw02_awake_w (P : Program)  (Q : (Bool → (Hp → Prop))) (h : Hp) : Prop :=
 NewW [(.int .u64 (0 : Int)), (.int .u64 (1 : Int)), (.int .u64 (2 : Int)), (.int .u64 (3 : Int)), (.int .u64 (8 : Int))] (fun a h1 =>
 Call3 P n_table_New [(.slice (some a) 5 5)] shPtr (shInt .i64) (shInt .i64) (fun r r1 r2 h2 =>
 LetW ((r1 != (0 : Int)) || (r2 != (0 : Int))) fun y =>
 LetW (y || (Option.isNone r)) fun y1 =>
 EffC (some (!y1)) (CallT P n_table_Table_Len [(.pointer r)] (shInt .i64)) (fun r3 h3 =>
 LetW (y1 || (r3 != (5 : Int))) fun y2 =>
 EffC (some (!y2)) (CallT P n_table_Table_Flows [(.pointer r), (.int .i64 (1 : Int)), (.int .i64 (3 : Int))] shBool) (fun r4 h4 =>
 LetW (y2 || (!r4)) fun y3 =>
 EffC (some (!y3)) (CallT P n_table_Table_Flows [(.pointer r), (.int .i64 (1 : Int)), (.int .i64 (2 : Int))] shBool) (fun r5 h5 =>
 LetW (y3 || r5) fun y4 =>
 (if y4 = true then
 Q false h5
 else
 Call2 P n_table_Table_Label [(.pointer r), (.int .i64 (3 : Int))] (shInt .u64) (shInt .i64) (fun r6 r7 h6 =>
 Call2 P n_table_Table_Index [(.pointer r), (.int .u64 (8 : Int))] (shInt .i64) shBool (fun r8 r9 h7 =>
 Call2 P n_table_Table_Index [(.pointer r), (.int .u64 (4 : Int))] (shInt .i64) shBool (fun r10 r11 h8 =>
 LetW ((r7 == (0 : Int)) && (r6 == (3 : Int))) fun y5 =>
 LetW (y5 && r9) fun y6 =>
 LetW (y6 && (r8 == (4 : Int))) fun y7 =>
 LetW (y7 && (!r11)) fun y8 =>
 EffC (some y8) (CallT P n_table_Table_Down [(.pointer r), (.int .u64 (10 : Int))] shSl) (fun r12 h9 =>
 EffC (some y8) (NewW [(.int .i64 (0 : Int)), (.int .i64 (2 : Int)), (.int .i64 (4 : Int))]) (fun r13 h10 =>
 EffC (some y8) (CallT P n_firebreakref02_SameInts [r12.v, (.slice (some r13) 3 3)] shBool) (fun r14 h11 =>
 LetW (y8 && r14) fun y9 =>
 EffC (some y9) (CallT P n_table_Table_Up [(.pointer r), (.int .i64 (1 : Int))] shSl) (fun r15 h12 =>
 EffC (some y9) (NewW [(.int .i64 (1 : Int)), (.int .i64 (3 : Int))]) (fun r16 h13 =>
 EffC (some y9) (CallT P n_firebreakref02_SameInts [r15.v, (.slice (some r16) 2 2)] shBool) (fun r17 h14 =>
 LetW (y9 && r17) fun y10 =>
 Q y10 h14) h13) h12) h11) h10) h9) h8) h7) h6) h5)) h4) h3) h2) h1) h

def firebreaklaw02_short_w (P : Program) (l : Sl) (Q : (Sl → (Hp → Prop))) (h : Hp) : Prop :=
 (((0 : Int) ≤ (min2I ((l.len : Nat) : Int) (1048576 : Int)) ∧ ((min2I ((l.len : Nat) : Int) (1048576 : Int)) ≤ (min2I ((l.len : Nat) : Int) (1048576 : Int)) ∧ (min2I ((l.len : Nat) : Int) (1048576 : Int)) ≤ ((l.cap : Nat) : Int))) ∧ LetW (α := Sl) ⟨(sbase l.base 1 0 (Int.toNat (min2I ((l.len : Nat) : Int) (1048576 : Int)))), ((Int.toNat (min2I ((l.len : Nat) : Int) (1048576 : Int))) - 0), ((Int.toNat (min2I ((l.len : Nat) : Int) (1048576 : Int))) - 0)⟩ fun y =>
 Q y h)

def table_May_w (P : Program) (l : Sl) (Q : (Int → (Int → (Hp → Prop)))) (h : Hp) : Prop :=
 (if (((l.len : Nat) : Int) == (0 : Int)) = true then
 Q (1 : Int) (0 : Int) h
 else
 (if (decide (((l.len : Nat) : Int) > (8 : Int))) = true then
 Q (3 : Int) (8 : Int) h
 else
 LoopW1 (α1 := Int) (fun again i h1 =>
 (if (decide (i < ((l.len : Nat) : Int))) = true then
 ((InB l.base l.len i) ∧ LdW none (shInt .u64) h1 (sat l.base 1 i) fun x =>
 ((InB l.base l.len (IntKind.wrap .i64 (i - (1 : Int)))) ∧ LdW none (shInt .u64) h1 (sat l.base 1 (IntKind.wrap .i64 (i - (1 : Int)))) fun x1 =>
 (if (x == x1) = true then
 Q (8 : Int) i h1
 else
 ((InB l.base l.len i) ∧ LdW none (shInt .u64) h1 (sat l.base 1 i) fun x2 =>
 ((InB l.base l.len (IntKind.wrap .i64 (i - (1 : Int)))) ∧ LdW none (shInt .u64) h1 (sat l.base 1 (IntKind.wrap .i64 (i - (1 : Int)))) fun x3 =>
 (if (decide (x2 < x3)) = true then
 Q (7 : Int) i h1
 else
 again (IntKind.wrap .i64 (i + (1 : Int))) h1))))))
 else
 Q (0 : Int) (0 : Int) h1)) (1 : Int) h))

def firebreakref02_May_w (P : Program) (l : Sl) (Q : (Int → (Int → (Hp → Prop)))) (h : Hp) : Prop :=
 (if (((l.len : Nat) : Int) == (0 : Int)) = true then
 Q (1 : Int) (0 : Int) h
 else
 (if (decide (((l.len : Nat) : Int) > (8 : Int))) = true then
 Q (3 : Int) (8 : Int) h
 else
 LoopW1 (α1 := Int) (fun again i h1 =>
 (if (decide (i < ((l.len : Nat) : Int))) = true then
 ((InB l.base l.len i) ∧ LdW none (shInt .u64) h1 (sat l.base 1 i) fun x =>
 ((InB l.base l.len (IntKind.wrap .i64 (i - (1 : Int)))) ∧ LdW none (shInt .u64) h1 (sat l.base 1 (IntKind.wrap .i64 (i - (1 : Int)))) fun x1 =>
 (if (x == x1) = true then
 Q (8 : Int) i h1
 else
 ((InB l.base l.len i) ∧ LdW none (shInt .u64) h1 (sat l.base 1 i) fun x2 =>
 ((InB l.base l.len (IntKind.wrap .i64 (i - (1 : Int)))) ∧ LdW none (shInt .u64) h1 (sat l.base 1 (IntKind.wrap .i64 (i - (1 : Int)))) fun x3 =>
 (if (decide (x2 < x3)) = true then
 Q (7 : Int) i h1
 else
 again (IntKind.wrap .i64 (i + (1 : Int))) h1))))))
 else
 Q (0 : Int) (0 : Int) h1)) (1 : Int) h))

def table_New_w (P : Program) (l : Sl) (Q : (Option Addr → (Int → (Int → (Hp → Prop))))) (h : Hp) : Prop :=
 Call2 P n_table_May [l.v] (shInt .i64) (shInt .i64) (fun r r1 h1 =>
 (if (r != (0 : Int)) = true then
 Q none r r1 h1
 else
 CallT P n_slices_Clone_uint64_uint64 [l.v] shSl (fun r2 h2 =>
 MakeMapW  (fun r3 h3 =>
 NewW [r2.v, (.map r3)] (fun a h4 =>
 NilW none (some a) fun p =>
 LdW none shSl h4 (Addr.add p 0) fun x =>
 LoopW1 (α1 := Int) (fun again t29 h5 =>
 (if (decide (t29 < ((x.len : Nat) : Int))) = true then
 ((InB x.base x.len t29) ∧ LdW none (shInt .u64) h5 (sat x.base 1 t29) fun x1 =>
 NilW none (some a) fun p1 =>
 LdW none shMap h5 (Addr.add p1 1) fun x2 =>
 MapSetW (.int .u64) x2 (.int .u64 x1) (.int .i64 t29) (fun h6 =>
 again (IntKind.wrap .i64 (t29 + (1 : Int))) h6) h5)
 else
 Q (some a) (0 : Int) (0 : Int) h5)) (0 : Int) h4) h3) h2) h1)) h

def firebreakref02_SameLabels_w (P : Program) (a : Sl) (b : Sl) (Q : (Bool → (Hp → Prop))) (h : Hp) : Prop :=
 (if (((a.len : Nat) : Int) != ((b.len : Nat) : Int)) = true then
 Q false h
 else
 LoopW1 (α1 := Int) (fun again i h1 =>
 (if (decide (i < ((a.len : Nat) : Int))) = true then
 ((InB a.base a.len i) ∧ LdW none (shInt .u64) h1 (sat a.base 1 i) fun x =>
 ((InB b.base b.len i) ∧ LdW none (shInt .u64) h1 (sat b.base 1 i) fun x1 =>
 (if (x != x1) = true then
 Q false h1
 else
 again (IntKind.wrap .i64 (i + (1 : Int))) h1)))
 else
 Q true h1)) (0 : Int) h)

def table_Canon_w (P : Program) (l : Sl) (Q : (Sl → (Hp → Prop))) (h : Hp) : Prop :=
 CallT P n_slices_Clone_uint64_uint64 [l.v] shSl (fun r h1 =>
 Call0 P n_slices_Sort_uint64_uint64 [r.v] (fun h2 =>
 CallT P n_slices_Compact_uint64_uint64 [r.v] shSl (fun r1 h3 =>
 Q r1 h3) h2) h1) h

def firebreakref02_Canon_w (P : Program) (l : Sl) (Q : (Sl → (Hp → Prop))) (h : Hp) : Prop :=
 NewW [] (fun a h1 =>
 LoopW1 (α1 := Sl) (fun again out h2 =>
 LoopW3 (α1 := Bool) (α2 := Int) (α3 := Int) (fun again1 found least i h3 =>
 (if (decide (i < ((l.len : Nat) : Int))) = true then
 JoinW2 (α1 := Bool) (α2 := Int) (fun k =>
 (((!(((out.len : Nat) : Int) == (0 : Int))) = true → (InB l.base l.len i)) ∧ LdW (some (!(((out.len : Nat) : Int) == (0 : Int)))) (shInt .u64) h3 (sat l.base 1 i) fun x =>
 (((!(((out.len : Nat) : Int) == (0 : Int))) = true → (InB out.base out.len (IntKind.wrap .i64 (((out.len : Nat) : Int) - (1 : Int))))) ∧ LdW (some (!(((out.len : Nat) : Int) == (0 : Int)))) (shInt .u64) h3 (sat out.base 1 (IntKind.wrap .i64 (((out.len : Nat) : Int) - (1 : Int)))) fun x1 =>
 LetW ((((out.len : Nat) : Int) == (0 : Int)) || (decide (x > x1))) fun y =>
 (((y && (!(!found))) = true → (InB l.base l.len i)) ∧ LdW (some (y && (!(!found)))) (shInt .u64) h3 (sat l.base 1 i) fun x2 =>
 LetW ((!found) || (decide (x2 < least))) fun y1 =>
 LetW (y && y1) fun y2 =>
 (if y2 = true then
 ((InB l.base l.len i) ∧ LdW none (shInt .u64) h3 (sat l.base 1 i) fun x3 =>
 k true x3 h3)
 else
 k found least h3)))))
 (fun found1 least1 h4 =>
 again1 found1 least1 (IntKind.wrap .i64 (i + (1 : Int))) h4)
 else
 (if (!found) = true then
 Q out h3
 else
 NewW [(.int .u64 least)] (fun a1 h4 =>
 AppendW 1 8 [(.int .u64 (0 : Int))] out ⟨(some a1), 1, 1⟩ (fun r h5 =>
 again r h5) h4) h3))) false (0 : Int) (0 : Int) h2) ⟨(some a), 0, 0⟩ h1) h

def table_Table_Up_w (P : Program) (t : Option Addr) (i : Int) (Q : (Sl → (Hp → Prop))) (h : Hp) : Prop :=
 NewW [(.pointer t)] (fun a h1 =>
 NewW [(.int .i64 i)] (fun a1 h2 =>
 LdW none shPtr h2 a fun x =>
 CallT P n_table_Table_those [(.pointer x), (.func (.func 44) #[] #[(.pointer (some a)), (.pointer (some a1))])] shSl (fun r h3 =>
 Q r h3) h2) h1) h

def table_Table_Down_w (P : Program) (t : Option Addr) (a : Int) (Q : (Sl → (Hp → Prop))) (h : Hp) : Prop :=
 NewW [(.pointer t)] (fun a1 h1 =>
 NewW [(.int .u64 a)] (fun a2 h2 =>
 LdW none shPtr h2 a1 fun x =>
 CallT P n_table_Table_those [(.pointer x), (.func (.func 45) #[] #[(.pointer (some a1)), (.pointer (some a2))])] shSl (fun r h3 =>
 Q r h3) h2) h1) h

def table_Table_Flows_w (P : Program) (t : Option Addr) (i : Int) (j : Int) (Q : (Bool → (Hp → Prop))) (h : Hp) : Prop :=
 CallT P n_table_Table_is [(.pointer t), (.int .i64 i)] shBool (fun r h1 =>
 EffC (some r) (CallT P n_table_Table_is [(.pointer t), (.int .i64 j)] shBool) (fun r1 h2 =>
 LetW (r && r1) fun y =>
 NilW (some y) t fun p =>
 LdW (some y) shSl h2 (Addr.add p 0) fun x =>
 ((y = true → (InB x.base x.len i)) ∧ LdW (some y) (shInt .u64) h2 (sat x.base 1 i) fun x1 =>
 NilW (some y) t fun p1 =>
 LdW (some y) shSl h2 (Addr.add p1 0) fun x2 =>
 ((y = true → (InB x2.base x2.len j)) ∧ LdW (some y) (shInt .u64) h2 (sat x2.base 1 j) fun x3 =>
 EffC (some y) (CallT P n_label_Flows [(.int .u64 x1), (.int .u64 x3)] shBool) (fun r2 h3 =>
 LetW (y && r2) fun y1 =>
 Q y1 h3) h2))) h1) h

def firebreaklaw02_has_w (P : Program) (l : Sl) (n : Int) (Q : (Bool → (Hp → Prop))) (h : Hp) : Prop :=
 LoopW1 (α1 := Int) (fun again t9 h1 =>
 (if (decide (t9 < ((l.len : Nat) : Int))) = true then
 ((InB l.base l.len t9) ∧ LdW none (shInt .i64) h1 (sat l.base 1 t9) fun x =>
 (if (x == n) = true then
 Q true h1
 else
 again (IntKind.wrap .i64 (t9 + (1 : Int))) h1))
 else
 Q false h1)) (0 : Int) h

def firebreaklaw02_wide_w (P : Program) (l : Sl) (Q : (Sl → (Hp → Prop))) (h : Hp) : Prop :=
 MakeW 8 [(.int .u64 (0 : Int))] (0 : Int) (IntKind.wrap .i64 (((l.len : Nat) : Int) + (3 : Int))) (fun r h1 =>
 AppendW 1 8 [(.int .u64 (0 : Int))] r l (fun r1 h2 =>
 NewW [(.int .u64 (161 : Int)), (.int .u64 (162 : Int)), (.int .u64 (163 : Int))] (fun a h3 =>
 AppendW 1 8 [(.int .u64 (0 : Int))] r1 ⟨(some a), 3, 3⟩ (fun r2 h4 =>
 (((0 : Int) ≤ ((l.len : Nat) : Int) ∧ ((l.len : Nat) : Int) ≤ ((r2.cap : Nat) : Int)) ∧ LetW (α := Sl) ⟨(sbase r2.base 1 0 r2.cap), ((Int.toNat ((l.len : Nat) : Int)) - 0), (r2.cap - 0)⟩ fun y =>
 Q y h4)) h3) h2) h1) h

def firebreaklaw02_kept_w (P : Program) (w : Sl) (l : Sl) (Q : (Bool → (Hp → Prop))) (h : Hp) : Prop :=
 CallT P n_firebreakref02_SameLabels [w.v, l.v] shBool (fun r h1 =>
 ((r = true → ((0 : Int) ≤ (IntKind.wrap .i64 (((l.len : Nat) : Int) + (3 : Int))) ∧ (IntKind.wrap .i64 (((l.len : Nat) : Int) + (3 : Int))) ≤ ((w.cap : Nat) : Int))) ∧ LetW (α := Sl) ⟨(sbase w.base 1 0 w.cap), ((Int.toNat (IntKind.wrap .i64 (((l.len : Nat) : Int) + (3 : Int)))) - 0), (w.cap - 0)⟩ fun y =>
 ((r = true → ((0 : Int) ≤ ((l.len : Nat) : Int) ∧ ((l.len : Nat) : Int) ≤ ((y.len : Nat) : Int))) ∧ LetW (α := Sl) ⟨(sbase y.base 1 (Int.toNat ((l.len : Nat) : Int)) y.cap), (y.len - (Int.toNat ((l.len : Nat) : Int))), (y.cap - (Int.toNat ((l.len : Nat) : Int)))⟩ fun y1 =>
 EffC (some r) (NewW [(.int .u64 (161 : Int)), (.int .u64 (162 : Int)), (.int .u64 (163 : Int))]) (fun r1 h2 =>
 EffC (some r) (CallT P n_firebreakref02_SameLabels [y1.v, (.slice (some r1) 3 3)] shBool) (fun r2 h3 =>
 LetW (r && r2) fun y2 =>
 Q y2 h3) h2) h1))) h

def firebreakref02_SameInts_w (P : Program) (a : Sl) (b : Sl) (Q : (Bool → (Hp → Prop))) (h : Hp) : Prop :=
 (if (((a.len : Nat) : Int) != ((b.len : Nat) : Int)) = true then
 Q false h
 else
 LoopW1 (α1 := Int) (fun again i h1 =>
 (if (decide (i < ((a.len : Nat) : Int))) = true then
 ((InB a.base a.len i) ∧ LdW none (shInt .i64) h1 (sat a.base 1 i) fun x =>
 ((InB b.base b.len i) ∧ LdW none (shInt .i64) h1 (sat b.base 1 i) fun x1 =>
 (if (x != x1) = true then
 Q false h1
 else
 again (IntKind.wrap .i64 (i + (1 : Int))) h1)))
 else
 Q true h1)) (0 : Int) h)

def firebreakref02_Down_w (P : Program) (l : Sl) (a : Int) (Q : (Sl → (Hp → Prop))) (h : Hp) : Prop :=
 NewW [] (fun a1 h1 =>
 LoopW2 (α1 := Sl) (α2 := Int) (fun again out i h2 =>
 (if (decide (i < ((l.len : Nat) : Int))) = true then
 JoinW1 (α1 := Sl) (fun k =>
 ((InB l.base l.len i) ∧ LdW none (shInt .u64) h2 (sat l.base 1 i) fun x =>
 CallT P n_firebreakref01_Flows [(.int .u64 x), (.int .u64 a)] shBool (fun r h3 =>
 (if r = true then
 NewW [(.int .i64 i)] (fun a2 h4 =>
 AppendW 1 8 [(.int .i64 (0 : Int))] ⟨out.base, out.len, out.cap⟩ ⟨(some a2), 1, 1⟩ (fun r1 h5 =>
 k r1 h5) h4) h3
 else
 k ⟨out.base, out.len, out.cap⟩ h3)) h2))
 (fun out1 h3 =>
 again out1 (IntKind.wrap .i64 (i + (1 : Int))) h3)
 else
 Q ⟨out.base, out.len, out.cap⟩ h2)) ⟨(some a1), 0, 0⟩ (0 : Int) h1) h

def firebreakref02_Up_w (P : Program) (l : Sl) (i : Int) (Q : (Sl → (Hp → Prop))) (h : Hp) : Prop :=
 NewW [] (fun a h1 =>
 LoopW2 (α1 := Sl) (α2 := Int) (fun again out j h2 =>
 (if (decide (j < ((l.len : Nat) : Int))) = true then
 JoinW1 (α1 := Sl) (fun k =>
 CallT P n_firebreakref02_Flows [l.v, (.int .i64 i), (.int .i64 j)] shBool (fun r h3 =>
 (if r = true then
 NewW [(.int .i64 j)] (fun a1 h4 =>
 AppendW 1 8 [(.int .i64 (0 : Int))] ⟨out.base, out.len, out.cap⟩ ⟨(some a1), 1, 1⟩ (fun r1 h5 =>
 k r1 h5) h4) h3
 else
 k ⟨out.base, out.len, out.cap⟩ h3)) h2)
 (fun out1 h3 =>
 again out1 (IntKind.wrap .i64 (j + (1 : Int))) h3)
 else
 Q ⟨out.base, out.len, out.cap⟩ h2)) ⟨(some a), 0, 0⟩ (0 : Int) h1) h

def firebreakref20_sorted_w (P : Program) (l : Sl) (Q : (Sl → (Hp → Prop))) (h : Hp) : Prop :=
 (if (decide (((l.len : Nat) : Int) < (2 : Int))) = true then
 Q l h
 else
 NewW [] (fun a h1 =>
 ((2 : Int) ≠ (0 : Int) ∧ (((0 : Int) ≤ (IntKind.wrap .i64 (Int.tdiv ((l.len : Nat) : Int) (2 : Int))) ∧ (IntKind.wrap .i64 (Int.tdiv ((l.len : Nat) : Int) (2 : Int))) ≤ ((l.cap : Nat) : Int)) ∧ LetW (α := Sl) ⟨(sbase l.base 1 0 l.cap), ((Int.toNat (IntKind.wrap .i64 (Int.tdiv ((l.len : Nat) : Int) (2 : Int)))) - 0), (l.cap - 0)⟩ fun y =>
 AppendW 1 8 [(.int .i64 (0 : Int))] ⟨(some a), 0, 0⟩ y (fun r h2 =>
 CallT P n_firebreakref20_sorted [r.v] shSl (fun r1 h3 =>
 NewW [] (fun a1 h4 =>
 ((2 : Int) ≠ (0 : Int) ∧ (((0 : Int) ≤ (IntKind.wrap .i64 (Int.tdiv ((l.len : Nat) : Int) (2 : Int))) ∧ (IntKind.wrap .i64 (Int.tdiv ((l.len : Nat) : Int) (2 : Int))) ≤ ((l.len : Nat) : Int)) ∧ LetW (α := Sl) ⟨(sbase l.base 1 (Int.toNat (IntKind.wrap .i64 (Int.tdiv ((l.len : Nat) : Int) (2 : Int)))) l.cap), (l.len - (Int.toNat (IntKind.wrap .i64 (Int.tdiv ((l.len : Nat) : Int) (2 : Int))))), (l.cap - (Int.toNat (IntKind.wrap .i64 (Int.tdiv ((l.len : Nat) : Int) (2 : Int)))))⟩ fun y1 =>
 AppendW 1 8 [(.int .i64 (0 : Int))] ⟨(some a1), 0, 0⟩ y1 (fun r2 h5 =>
 CallT P n_firebreakref20_sorted [r2.v] shSl (fun r3 h6 =>
 NewW [] (fun a2 h7 =>
 LoopW3 (α1 := Sl) (α2 := Sl) (α3 := Sl) (fun again a3 b out h8 =>
 LetW ((decide (((a3.len : Nat) : Int) > (0 : Int))) || (decide (((b.len : Nat) : Int) > (0 : Int)))) fun y2 =>
 (if y2 = true then
 JoinW3 (α1 := Sl) (α2 := Sl) (α3 := Sl) (fun k =>
 ((((!(((b.len : Nat) : Int) == (0 : Int))) && (decide (((a3.len : Nat) : Int) > (0 : Int)))) = true → (InB a3.base a3.len (0 : Int))) ∧ LdW (some ((!(((b.len : Nat) : Int) == (0 : Int))) && (decide (((a3.len : Nat) : Int) > (0 : Int))))) (shInt .i64) h8 (sat a3.base 1 (0 : Int)) fun x =>
 ((((!(((b.len : Nat) : Int) == (0 : Int))) && (decide (((a3.len : Nat) : Int) > (0 : Int)))) = true → (InB b.base b.len (0 : Int))) ∧ LdW (some ((!(((b.len : Nat) : Int) == (0 : Int))) && (decide (((a3.len : Nat) : Int) > (0 : Int))))) (shInt .i64) h8 (sat b.base 1 (0 : Int)) fun x1 =>
 LetW ((decide (((a3.len : Nat) : Int) > (0 : Int))) && (decide (x < x1))) fun y3 =>
 LetW ((((b.len : Nat) : Int) == (0 : Int)) || y3) fun y4 =>
 (if y4 = true then
 ((InB a3.base a3.len (0 : Int)) ∧ LdW none (shInt .i64) h8 (sat a3.base 1 (0 : Int)) fun x2 =>
 NewW [(.int .i64 x2)] (fun a4 h9 =>
 AppendW 1 8 [(.int .i64 (0 : Int))] ⟨out.base, out.len, out.cap⟩ ⟨(some a4), 1, 1⟩ (fun r4 h10 =>
 (((0 : Int) ≤ (1 : Int) ∧ (1 : Int) ≤ ((a3.len : Nat) : Int)) ∧ LetW (α := Sl) ⟨(sbase a3.base 1 1 a3.cap), (a3.len - 1), (a3.cap - 1)⟩ fun y5 =>
 k y5 ⟨b.base, b.len, b.cap⟩ r4 h10)) h9) h8)
 else
 ((InB b.base b.len (0 : Int)) ∧ LdW none (shInt .i64) h8 (sat b.base 1 (0 : Int)) fun x2 =>
 NewW [(.int .i64 x2)] (fun a4 h9 =>
 AppendW 1 8 [(.int .i64 (0 : Int))] ⟨out.base, out.len, out.cap⟩ ⟨(some a4), 1, 1⟩ (fun r4 h10 =>
 (((0 : Int) ≤ (1 : Int) ∧ (1 : Int) ≤ ((b.len : Nat) : Int)) ∧ LetW (α := Sl) ⟨(sbase b.base 1 1 b.cap), (b.len - 1), (b.cap - 1)⟩ fun y5 =>
 k ⟨a3.base, a3.len, a3.cap⟩ y5 r4 h10)) h9) h8)))))
 (fun a4 b1 out1 h9 =>
 again ⟨a4.base, a4.len, a4.cap⟩ ⟨b1.base, b1.len, b1.cap⟩ ⟨out1.base, out1.len, out1.cap⟩ h9)
 else
 Q ⟨out.base, out.len, out.cap⟩ h8)) r1 r3 ⟨(some a2), 0, 0⟩ h7) h6) h5) h4))) h3) h2) h1))) h)

def firebreakref20_told_w (P : Program) (next : Option Nat) (p : Int) (Q : (Sl → (Hp → Prop))) (h : Hp) : Prop :=
 LookW none (.int .i64) (shInt .i64) (.int .i64 (0 : Int)) next (.int .i64 p) h fun x ok =>
 LoopW2 (α1 := Int) (α2 := Int) (fun again least q h1 =>
 (if (q != p) = true then
 LookW none (.int .i64) (shInt .i64) (.int .i64 (0 : Int)) next (.int .i64 q) h1 fun x1 ok1 =>
 again (min2I least q) x1 h1
 else
 NewW [(.int .i64 least)] (fun a h2 =>
 LookW none (.int .i64) (shInt .i64) (.int .i64 (0 : Int)) next (.int .i64 least) h2 fun x1 ok1 =>
 LoopW2 (α1 := Sl) (α2 := Int) (fun again1 out q1 h3 =>
 (if (q1 != least) = true then
 NewW [(.int .i64 q1)] (fun a1 h4 =>
 AppendW 1 8 [(.int .i64 (0 : Int))] ⟨out.base, out.len, out.cap⟩ ⟨(some a1), 1, 1⟩ (fun r h5 =>
 LookW none (.int .i64) (shInt .i64) (.int .i64 (0 : Int)) next (.int .i64 q1) h5 fun x2 ok2 =>
 again1 r x2 h5) h4) h3
 else
 Q ⟨out.base, out.len, out.cap⟩ h3)) ⟨(some a), 1, 1⟩ x1 h2) h1)) p x h

def slices_Sorted_int_w (P : Program) (seq : Leaf) (Q : (Sl → (Hp → Prop))) (h : Hp) : Prop :=
 CallT P n_slices_Collect_int [seq.v] shSl (fun r h1 =>
 Call0 P n_slices_Sort_int_int [r.v] (fun h2 =>
 Q r h2) h1) h

def maps_Keys_map_int_int_int_int_w (P : Program) (m : Option Nat) (Q : (Leaf → (Hp → Prop))) (h : Hp) : Prop :=
 NewW [(.map m)] (fun a h1 =>
 Q ⟨(.func (.func 52) #[] #[(.pointer (some a))]), rfl⟩ h1) h

def graph_turned_w (P : Program) (ring : Sl) (Q : (Sl → (Hp → Prop))) (h : Hp) : Prop :=
 CallT P n_slices_Min_int_int [ring.v] (shInt .i64) (fun r h1 =>
 CallT P n_slices_Index_int_int [ring.v, (.int .i64 r)] (shInt .i64) (fun r1 h2 =>
 (((0 : Int) ≤ r1 ∧ r1 ≤ ((ring.len : Nat) : Int)) ∧ LetW (α := Sl) ⟨(sbase ring.base 1 (Int.toNat r1) ring.cap), (ring.len - (Int.toNat r1)), (ring.cap - (Int.toNat r1))⟩ fun y =>
 (((0 : Int) ≤ r1 ∧ r1 ≤ ((ring.cap : Nat) : Int)) ∧ LetW (α := Sl) ⟨(sbase ring.base 1 0 ring.cap), ((Int.toNat r1) - 0), (ring.cap - 0)⟩ fun y1 =>
 CallT P n_slices_Clone_int_int [y.v] shSl (fun r2 h3 =>
 AppendW 1 8 [(.int .i64 (0 : Int))] r2 y1 (fun r3 h4 =>
 Q r3 h4) h3) h2))) h1) h

def slices_Index_int_int_w (P : Program) (s : Sl) (v : Int) (Q : (Int → (Hp → Prop))) (h : Hp) : Prop :=
 LoopW1 (α1 := Int) (fun again t8 h1 =>
 (if (decide (t8 < ((s.len : Nat) : Int))) = true then
 ((InB s.base s.len t8) ∧ LdW none (shInt .i64) h1 (sat s.base 1 t8) fun x =>
 (if (v == x) = true then
 Q t8 h1
 else
 again (IntKind.wrap .i64 (t8 + (1 : Int))) h1))
 else
 Q (-1 : Int) h1)) (0 : Int) h

def table_Table_Len_w (P : Program) (t : Option Addr) (Q : (Int → (Hp → Prop))) (h : Hp) : Prop :=
 NilW none t fun p =>
 LdW none shSl h (Addr.add p 0) fun x =>
 Q ((x.len : Nat) : Int) h

def table_Table_Label_w (P : Program) (t : Option Addr) (i : Int) (Q : (Int → (Int → (Hp → Prop)))) (h : Hp) : Prop :=
 CallT P n_table_Table_is [(.pointer t), (.int .i64 i)] shBool (fun r h1 =>
 (if (!r) = true then
 Q (0 : Int) (2 : Int) h1
 else
 NilW none t fun p =>
 LdW none shSl h1 (Addr.add p 0) fun x =>
 ((InB x.base x.len i) ∧ LdW none (shInt .u64) h1 (sat x.base 1 i) fun x1 =>
 Q x1 (0 : Int) h1))) h

def table_Table_Index_w (P : Program) (t : Option Addr) (a : Int) (Q : (Int → (Bool → (Hp → Prop)))) (h : Hp) : Prop :=
 NilW none t fun p =>
 LdW none shMap h (Addr.add p 1) fun x =>
 LookW none (.int .u64) (shInt .i64) (.int .i64 (0 : Int)) x (.int .u64 a) h fun x1 ok =>
 Q x1 ok h

def slices_Clone_uint64_uint64_w (P : Program) (s : Sl) (Q : (Sl → (Hp → Prop))) (h : Hp) : Prop :=
 SemV none P (binS .eql 33 (.tmp 3) (.const (.slice none 0 0)) s.v (.slice none 0 0)) shBool h fun x =>
 (if x = true then
 Q ⟨none, 0, 0⟩ h
 else
 NewW [] (fun a h1 =>
 AppendW 1 8 [(.int .u64 (0 : Int))] ⟨(some a), 0, 0⟩ s (fun r h2 =>
 Q r h2) h1) h)

def slices_Sort_uint64_uint64_w (P : Program) (x : Sl) (Q : (Hp → Prop)) (h : Hp) : Prop :=
 CallT P n_math_bits_Len [(.int .u64 (IntKind.wrap .u64 ((x.len : Nat) : Int)))] (shInt .i64) (fun r h1 =>
 Call0 P n_slices_pdqsortOrdered_uint64 [x.v, (.int .i64 (0 : Int)), (.int .i64 ((x.len : Nat) : Int)), (.int .i64 r)] (fun h2 =>
 Q h2) h1) h

def slices_Compact_uint64_uint64_w (P : Program) (s : Sl) (Q : (Sl → (Hp → Prop))) (h : Hp) : Prop :=
 (if (decide (((s.len : Nat) : Int) < (2 : Int))) = true then
 Q s h
 else
 LoopW1 (α1 := Int) (fun again k h1 =>
 (if (decide (k < ((s.len : Nat) : Int))) = true then
 ((InB s.base s.len k) ∧ LdW none (shInt .u64) h1 (sat s.base 1 k) fun x =>
 ((InB s.base s.len (IntKind.wrap .i64 (k - (1 : Int)))) ∧ LdW none (shInt .u64) h1 (sat s.base 1 (IntKind.wrap .i64 (k - (1 : Int)))) fun x1 =>
 (if (x == x1) = true then
 (((0 : Int) ≤ k ∧ k ≤ ((s.len : Nat) : Int)) ∧ LetW (α := Sl) ⟨(sbase s.base 1 (Int.toNat k) s.cap), (s.len - (Int.toNat k)), (s.cap - (Int.toNat k))⟩ fun y =>
 LoopW2 (α1 := Int) (α2 := Int) (fun again1 k1 k2 h2 =>
 (if (decide (k2 < ((y.len : Nat) : Int))) = true then
 JoinW1 (α1 := Int) (fun k3 =>
 ((InB y.base y.len k2) ∧ LdW none (shInt .u64) h2 (sat y.base 1 k2) fun x2 =>
 ((InB y.base y.len (IntKind.wrap .i64 (k2 - (1 : Int)))) ∧ LdW none (shInt .u64) h2 (sat y.base 1 (IntKind.wrap .i64 (k2 - (1 : Int)))) fun x3 =>
 (if (x2 != x3) = true then
 ((InB y.base y.len k2) ∧ LdW none (shInt .u64) h2 (sat y.base 1 k2) fun x4 =>
 ((InB s.base s.len k1) ∧ StW h2 (sat s.base 1 k1) [(.int .u64 x4)] (fun h3 =>
 k3 (IntKind.wrap .i64 (k1 + (1 : Int))) h3)))
 else
 k3 k1 h2))))
 (fun k3 h3 =>
 again1 k3 (IntKind.wrap .i64 (k2 + (1 : Int))) h3)
 else
 (((0 : Int) ≤ k1 ∧ k1 ≤ ((s.len : Nat) : Int)) ∧ LetW (α := Sl) ⟨(sbase s.base 1 (Int.toNat k1) s.cap), (s.len - (Int.toNat k1)), (s.cap - (Int.toNat k1))⟩ fun y1 =>
 SemE0 P (Builtin.clear_ #[33] 0 #[y1.v]) shUnit (fun h3 =>
 (((0 : Int) ≤ k1 ∧ k1 ≤ ((s.cap : Nat) : Int)) ∧ LetW (α := Sl) ⟨(sbase s.base 1 0 s.cap), ((Int.toNat k1) - 0), (s.cap - 0)⟩ fun y2 =>
 Q y2 h3)) h2))) k (1 : Int) h1)
 else
 again (IntKind.wrap .i64 (k + (1 : Int))) h1)))
 else
 Q s h1)) (1 : Int) h)

def table_Table_those_w (P : Program) (t : Option Addr) (is : Leaf) (Q : (Sl → (Hp → Prop))) (h : Hp) : Prop :=
 NilW none t fun p =>
 LdW none shSl h (Addr.add p 0) fun x =>
 LoopW2 (α1 := Sl) (α2 := Int) (fun again l t12 h1 =>
 (if (decide (t12 < ((x.len : Nat) : Int))) = true then
 JoinW1 (α1 := Sl) (fun k =>
 CallV P tb is.v [(.int .i64 t12)] shBool (fun r h2 =>
 (if r = true then
 NewW [(.int .i64 t12)] (fun a h3 =>
 AppendW 1 8 [(.int .i64 (0 : Int))] ⟨l.base, l.len, l.cap⟩ ⟨(some a), 1, 1⟩ (fun r1 h4 =>
 k r1 h4) h3) h2
 else
 k ⟨l.base, l.len, l.cap⟩ h2)) h1)
 (fun l1 h2 =>
 again l1 (IntKind.wrap .i64 (t12 + (1 : Int))) h2)
 else
 Q ⟨l.base, l.len, l.cap⟩ h1)) ⟨none, 0, 0⟩ (0 : Int) h

def table_Table_Up_1_w (P : Program) (j : Int) (a1 : Addr) (a2 : Addr) (Q : (Bool → (Hp → Prop))) (h : Hp) : Prop :=
 LdW none shPtr h a1 fun x =>
 LdW none (shInt .i64) h a2 fun x1 =>
 CallT P n_table_Table_Flows [(.pointer x), (.int .i64 x1), (.int .i64 j)] shBool (fun r h1 =>
 Q r h1) h

def table_Table_Down_1_w (P : Program) (i : Int) (a1 : Addr) (a2 : Addr) (Q : (Bool → (Hp → Prop))) (h : Hp) : Prop :=
 LdW none shPtr h a1 fun x =>
 NilW none x fun p =>
 LdW none shSl h (Addr.add p 0) fun x1 =>
 ((InB x1.base x1.len i) ∧ LdW none (shInt .u64) h (sat x1.base 1 i) fun x2 =>
 LdW none (shInt .u64) h a2 fun x3 =>
 CallT P n_label_Flows [(.int .u64 x2), (.int .u64 x3)] shBool (fun r h1 =>
 Q r h1) h)

def label_Flows_w (P : Program) (a : Int) (b : Int) (Q : (Bool → (Hp → Prop))) (h : Hp) : Prop :=
 Q ((bitsI .andNot .u64 a b) == (0 : Int)) h

def table_Table_is_w (P : Program) (t : Option Addr) (i : Int) (Q : (Bool → (Hp → Prop))) (h : Hp) : Prop :=
 NilW (some (decide (i ≥ (0 : Int)))) t fun p =>
 LdW (some (decide (i ≥ (0 : Int)))) shSl h (Addr.add p 0) fun x =>
 LetW ((decide (i ≥ (0 : Int))) && (decide (i < ((x.len : Nat) : Int)))) fun y =>
 Q y h

def firebreakref01_Flows_w (P : Program) (a : Int) (b : Int) (Q : (Bool → (Hp → Prop))) (h : Hp) : Prop :=
 LoopW1 (α1 := Int) (fun again n h1 =>
 (if (decide (n < (64 : Int))) = true then
 CallT P n_firebreakref01_Has [(.int .u64 a), (.int .i64 n)] shBool (fun r h2 =>
 EffC (some r) (CallT P n_firebreakref01_Has [(.int .u64 b), (.int .i64 n)] shBool) (fun r1 h3 =>
 LetW (r && (!r1)) fun y =>
 (if y = true then
 Q false h3
 else
 again (IntKind.wrap .i64 (n + (1 : Int))) h3)) h2) h1
 else
 Q true h1)) (0 : Int) h

def firebreakref02_Flows_w (P : Program) (l : Sl) (i : Int) (j : Int) (Q : (Bool → (Hp → Prop))) (h : Hp) : Prop :=
 LetW ((decide (i ≥ (0 : Int))) && (decide (i < ((l.len : Nat) : Int)))) fun y =>
 LetW (y && (decide (j ≥ (0 : Int)))) fun y1 =>
 LetW (y1 && (decide (j < ((l.len : Nat) : Int)))) fun y2 =>
 ((y2 = true → (InB l.base l.len i)) ∧ LdW (some y2) (shInt .u64) h (sat l.base 1 i) fun x =>
 ((y2 = true → (InB l.base l.len j)) ∧ LdW (some y2) (shInt .u64) h (sat l.base 1 j) fun x1 =>
 EffC (some y2) (CallT P n_firebreakref01_Flows [(.int .u64 x), (.int .u64 x1)] shBool) (fun r h1 =>
 LetW (y2 && r) fun y3 =>
 Q y3 h1) h))

def slices_Collect_int_w (P : Program) (seq : Leaf) (Q : (Sl → (Hp → Prop))) (h : Hp) : Prop :=
 CallT P n_slices_AppendSeq_int_int [(.slice none 0 0), seq.v] shSl (fun r h1 =>
 Q r h1) h

def slices_Sort_int_int_w (P : Program) (x : Sl) (Q : (Hp → Prop)) (h : Hp) : Prop :=
 CallT P n_math_bits_Len [(.int .u64 (IntKind.wrap .u64 ((x.len : Nat) : Int)))] (shInt .i64) (fun r h1 =>
 Call0 P n_slices_pdqsortOrdered_int [x.v, (.int .i64 (0 : Int)), (.int .i64 ((x.len : Nat) : Int)), (.int .i64 r)] (fun h2 =>
 Q h2) h1) h

def maps_Keys_map_int_int_int_int_1_w (P : Program) (yield : Leaf) (a1 : Addr) (Q : (Hp → Prop)) (h : Hp) : Prop :=
 LdW none shMap h a1 fun x =>
 SemE0 P (Instr.range 29 (.map x)) shUnit (fun h1 =>
 LoopW0 (fun again h2 =>
 SemE0 P (Instr.next (.tuple #[]) false 0) shUnit (fun h3 =>
 False) h2)  h1) h

def slices_Min_int_int_w (P : Program) (x : Sl) (Q : (Int → (Hp → Prop))) (h : Hp) : Prop :=
 JoinW0 (fun k =>
 (if (decide (((x.len : Nat) : Int) < (1 : Int))) = true then
 False
 else
 k h))
 (fun h1 =>
 ((InB x.base x.len (0 : Int)) ∧ LdW none (shInt .i64) h1 (sat x.base 1 (0 : Int)) fun x1 =>
 LoopW2 (α1 := Int) (α2 := Int) (fun again m i h2 =>
 (if (decide (i < ((x.len : Nat) : Int))) = true then
 ((InB x.base x.len i) ∧ LdW none (shInt .i64) h2 (sat x.base 1 i) fun x2 =>
 again (min2I m x2) (IntKind.wrap .i64 (i + (1 : Int))) h2)
 else
 Q m h2)) x1 (1 : Int) h1))

def slices_Clone_int_int_w (P : Program) (s : Sl) (Q : (Sl → (Hp → Prop))) (h : Hp) : Prop :=
 SemV none P (binS .eql 25 (.tmp 3) (.const (.slice none 0 0)) s.v (.slice none 0 0)) shBool h fun x =>
 (if x = true then
 Q ⟨none, 0, 0⟩ h
 else
 NewW [] (fun a h1 =>
 AppendW 1 8 [(.int .i64 (0 : Int))] ⟨(some a), 0, 0⟩ s (fun r h2 =>
 Q r h2) h1) h)

def slices_pdqsortOrdered_uint64_w (P : Program) (data : Sl) (a : Int) (b : Int) (limit : Int) (Q : (Hp → Prop)) (h : Hp) : Prop :=
 LoopW5 (α1 := Int) (α2 := Int) (α3 := Int) (α4 := Bool) (α5 := Bool) (fun again a1 b1 limit1 wasBalanced wasPartitioned h1 =>
 JoinW5 (α1 := Int) (α2 := Int) (α3 := Int) (α4 := Bool) (α5 := Bool) (fun k =>
 (if (decide ((IntKind.wrap .i64 (b1 - a1)) ≤ (12 : Int))) = true then
 Call0 P n_slices_insertionSortOrdered_uint64 [data.v, (.int .i64 a1), (.int .i64 b1)] (fun h2 =>
 Q h2) h1
 else
 (if (limit1 == (0 : Int)) = true then
 Call0 P n_slices_heapSortOrdered_uint64 [data.v, (.int .i64 a1), (.int .i64 b1)] (fun h2 =>
 Q h2) h1
 else
 JoinW1 (α1 := Int) (fun k1 =>
 (if (!wasBalanced) = true then
 Call0 P n_slices_breakPatternsOrdered_uint64 [data.v, (.int .i64 a1), (.int .i64 b1)] (fun h2 =>
 k1 (IntKind.wrap .i64 (limit1 - (1 : Int))) h2) h1
 else
 k1 limit1 h1))
 (fun limit2 h2 =>
 Call2 P n_slices_choosePivotOrdered_uint64 [data.v, (.int .i64 a1), (.int .i64 b1)] (shInt .i64) (shInt .i64) (fun r r1 h3 =>
 JoinW2 (α1 := Int) (α2 := Int) (fun k1 =>
 (if (r1 == (2 : Int)) = true then
 Call0 P n_slices_reverseRangeOrdered_uint64 [data.v, (.int .i64 a1), (.int .i64 b1)] (fun h4 =>
 k1 (IntKind.wrap .i64 ((IntKind.wrap .i64 (b1 - (1 : Int))) - (IntKind.wrap .i64 (r - a1)))) (1 : Int) h4) h3
 else
 k1 r r1 h3))
 (fun pivot hint h4 =>
 JoinW0 (fun k1 =>
 LetW (wasBalanced && wasPartitioned) fun y =>
 LetW (y && (hint == (1 : Int))) fun y1 =>
 (if y1 = true then
 CallT P n_slices_partialInsertionSortOrdered_uint64 [data.v, (.int .i64 a1), (.int .i64 b1)] shBool (fun r2 h5 =>
 (if r2 = true then
 Q h5
 else
 k1 h5)) h4
 else
 k1 h4))
 (fun h5 =>
 (((decide (a1 > (0 : Int))) = true → (InB data.base data.len (IntKind.wrap .i64 (a1 - (1 : Int))))) ∧ LdW (some (decide (a1 > (0 : Int)))) (shInt .u64) h5 (sat data.base 1 (IntKind.wrap .i64 (a1 - (1 : Int)))) fun x =>
 (((decide (a1 > (0 : Int))) = true → (InB data.base data.len pivot)) ∧ LdW (some (decide (a1 > (0 : Int)))) (shInt .u64) h5 (sat data.base 1 pivot) fun x1 =>
 EffC (some (decide (a1 > (0 : Int)))) (CallT P n_cmp_Less_uint64 [(.int .u64 x), (.int .u64 x1)] shBool) (fun r2 h6 =>
 LetW ((decide (a1 > (0 : Int))) && (!r2)) fun y =>
 (if y = true then
 CallT P n_slices_partitionEqualOrdered_uint64 [data.v, (.int .i64 a1), (.int .i64 b1), (.int .i64 pivot)] (shInt .i64) (fun r3 h7 =>
 k r3 b1 limit2 wasBalanced wasPartitioned h7) h6
 else
 Call2 P n_slices_partitionOrdered_uint64 [data.v, (.int .i64 a1), (.int .i64 b1), (.int .i64 pivot)] (shInt .i64) shBool (fun r3 r4 h7 =>
 ((8 : Int) ≠ (0 : Int) ∧ (if (decide ((IntKind.wrap .i64 (r3 - a1)) < (IntKind.wrap .i64 (b1 - r3)))) = true then
 Call0 P n_slices_pdqsortOrdered_uint64 [data.v, (.int .i64 a1), (.int .i64 r3), (.int .i64 limit2)] (fun h8 =>
 k (IntKind.wrap .i64 (r3 + (1 : Int))) b1 limit2 (decide ((IntKind.wrap .i64 (r3 - a1)) ≥ (IntKind.wrap .i64 (Int.tdiv (IntKind.wrap .i64 (b1 - a1)) (8 : Int))))) r4 h8) h7
 else
 Call0 P n_slices_pdqsortOrdered_uint64 [data.v, (.int .i64 (IntKind.wrap .i64 (r3 + (1 : Int)))), (.int .i64 b1), (.int .i64 limit2)] (fun h8 =>
 k a1 r3 limit2 (decide ((IntKind.wrap .i64 (b1 - r3)) ≥ (IntKind.wrap .i64 (Int.tdiv (IntKind.wrap .i64 (b1 - a1)) (8 : Int))))) r4 h8) h7))) h6)) h5))))) h2))))
 (fun a2 b2 limit2 wasBalanced1 wasPartitioned1 h2 =>
 again a2 b2 limit2 wasBalanced1 wasPartitioned1 h2)) a b limit true true h

def math_bits_Len_w (P : Program) (x : Int) (Q : (Int → (Hp → Prop))) (h : Hp) : Prop :=
 CallT P n_math_bits_Len64 [(.int .u64 x)] (shInt .i64) (fun r h1 =>
 Q r h1) h

def firebreakref01_Has_w (P : Program) (a : Int) (n : Int) (Q : (Bool → (Hp → Prop))) (h : Hp) : Prop :=
 LetW ((decide (n ≥ (0 : Int))) && (decide (n ≤ (63 : Int)))) fun y =>
 ((y = true → (0 : Int) ≤ n) ∧ LetW (y && ((bitsI .and .u64 (shrI .u64 a n) (1 : Int)) == (1 : Int))) fun y1 =>
 Q y1 h)

def slices_pdqsortOrdered_int_w (P : Program) (data : Sl) (a : Int) (b : Int) (limit : Int) (Q : (Hp → Prop)) (h : Hp) : Prop :=
 LoopW5 (α1 := Int) (α2 := Int) (α3 := Int) (α4 := Bool) (α5 := Bool) (fun again a1 b1 limit1 wasBalanced wasPartitioned h1 =>
 JoinW5 (α1 := Int) (α2 := Int) (α3 := Int) (α4 := Bool) (α5 := Bool) (fun k =>
 (if (decide ((IntKind.wrap .i64 (b1 - a1)) ≤ (12 : Int))) = true then
 Call0 P n_slices_insertionSortOrdered_int [data.v, (.int .i64 a1), (.int .i64 b1)] (fun h2 =>
 Q h2) h1
 else
 (if (limit1 == (0 : Int)) = true then
 Call0 P n_slices_heapSortOrdered_int [data.v, (.int .i64 a1), (.int .i64 b1)] (fun h2 =>
 Q h2) h1
 else
 JoinW1 (α1 := Int) (fun k1 =>
 (if (!wasBalanced) = true then
 Call0 P n_slices_breakPatternsOrdered_int [data.v, (.int .i64 a1), (.int .i64 b1)] (fun h2 =>
 k1 (IntKind.wrap .i64 (limit1 - (1 : Int))) h2) h1
 else
 k1 limit1 h1))
 (fun limit2 h2 =>
 Call2 P n_slices_choosePivotOrdered_int [data.v, (.int .i64 a1), (.int .i64 b1)] (shInt .i64) (shInt .i64) (fun r r1 h3 =>
 JoinW2 (α1 := Int) (α2 := Int) (fun k1 =>
 (if (r1 == (2 : Int)) = true then
 Call0 P n_slices_reverseRangeOrdered_int [data.v, (.int .i64 a1), (.int .i64 b1)] (fun h4 =>
 k1 (IntKind.wrap .i64 ((IntKind.wrap .i64 (b1 - (1 : Int))) - (IntKind.wrap .i64 (r - a1)))) (1 : Int) h4) h3
 else
 k1 r r1 h3))
 (fun pivot hint h4 =>
 JoinW0 (fun k1 =>
 LetW (wasBalanced && wasPartitioned) fun y =>
 LetW (y && (hint == (1 : Int))) fun y1 =>
 (if y1 = true then
 CallT P n_slices_partialInsertionSortOrdered_int [data.v, (.int .i64 a1), (.int .i64 b1)] shBool (fun r2 h5 =>
 (if r2 = true then
 Q h5
 else
 k1 h5)) h4
 else
 k1 h4))
 (fun h5 =>
 (((decide (a1 > (0 : Int))) = true → (InB data.base data.len (IntKind.wrap .i64 (a1 - (1 : Int))))) ∧ LdW (some (decide (a1 > (0 : Int)))) (shInt .i64) h5 (sat data.base 1 (IntKind.wrap .i64 (a1 - (1 : Int)))) fun x =>
 (((decide (a1 > (0 : Int))) = true → (InB data.base data.len pivot)) ∧ LdW (some (decide (a1 > (0 : Int)))) (shInt .i64) h5 (sat data.base 1 pivot) fun x1 =>
 EffC (some (decide (a1 > (0 : Int)))) (CallT P n_cmp_Less_int [(.int .i64 x), (.int .i64 x1)] shBool) (fun r2 h6 =>
 LetW ((decide (a1 > (0 : Int))) && (!r2)) fun y =>
 (if y = true then
 CallT P n_slices_partitionEqualOrdered_int [data.v, (.int .i64 a1), (.int .i64 b1), (.int .i64 pivot)] (shInt .i64) (fun r3 h7 =>
 k r3 b1 limit2 wasBalanced wasPartitioned h7) h6
 else
 Call2 P n_slices_partitionOrdered_int [data.v, (.int .i64 a1), (.int .i64 b1), (.int .i64 pivot)] (shInt .i64) shBool (fun r3 r4 h7 =>
 ((8 : Int) ≠ (0 : Int) ∧ (if (decide ((IntKind.wrap .i64 (r3 - a1)) < (IntKind.wrap .i64 (b1 - r3)))) = true then
 Call0 P n_slices_pdqsortOrdered_int [data.v, (.int .i64 a1), (.int .i64 r3), (.int .i64 limit2)] (fun h8 =>
 k (IntKind.wrap .i64 (r3 + (1 : Int))) b1 limit2 (decide ((IntKind.wrap .i64 (r3 - a1)) ≥ (IntKind.wrap .i64 (Int.tdiv (IntKind.wrap .i64 (b1 - a1)) (8 : Int))))) r4 h8) h7
 else
 Call0 P n_slices_pdqsortOrdered_int [data.v, (.int .i64 (IntKind.wrap .i64 (r3 + (1 : Int)))), (.int .i64 b1), (.int .i64 limit2)] (fun h8 =>
 k a1 r3 limit2 (decide ((IntKind.wrap .i64 (b1 - r3)) ≥ (IntKind.wrap .i64 (Int.tdiv (IntKind.wrap .i64 (b1 - a1)) (8 : Int))))) r4 h8) h7))) h6)) h5))))) h2))))
 (fun a2 b2 limit2 wasBalanced1 wasPartitioned1 h2 =>
 again a2 b2 limit2 wasBalanced1 wasPartitioned1 h2)) a b limit true true h

def slices_insertionSortOrdered_uint64_w (P : Program) (data : Sl) (a : Int) (b : Int) (Q : (Hp → Prop)) (h : Hp) : Prop :=
 LoopW1 (α1 := Int) (fun again i h1 =>
 (if (decide (i < b)) = true then
 LoopW1 (α1 := Int) (fun again1 j h2 =>
 (((decide (j > a)) = true → (InB data.base data.len j)) ∧ LdW (some (decide (j > a))) (shInt .u64) h2 (sat data.base 1 j) fun x =>
 (((decide (j > a)) = true → (InB data.base data.len (IntKind.wrap .i64 (j - (1 : Int))))) ∧ LdW (some (decide (j > a))) (shInt .u64) h2 (sat data.base 1 (IntKind.wrap .i64 (j - (1 : Int)))) fun x1 =>
 EffC (some (decide (j > a))) (CallT P n_cmp_Less_uint64 [(.int .u64 x), (.int .u64 x1)] shBool) (fun r h3 =>
 LetW ((decide (j > a)) && r) fun y =>
 (if y = true then
 ((InB data.base data.len (IntKind.wrap .i64 (j - (1 : Int)))) ∧ LdW none (shInt .u64) h3 (sat data.base 1 (IntKind.wrap .i64 (j - (1 : Int)))) fun x2 =>
 ((InB data.base data.len j) ∧ LdW none (shInt .u64) h3 (sat data.base 1 j) fun x3 =>
 ((InB data.base data.len j) ∧ StW h3 (sat data.base 1 j) [(.int .u64 x2)] (fun h4 =>
 ((InB data.base data.len (IntKind.wrap .i64 (j - (1 : Int)))) ∧ StW h4 (sat data.base 1 (IntKind.wrap .i64 (j - (1 : Int)))) [(.int .u64 x3)] (fun h5 =>
 again1 (IntKind.wrap .i64 (j - (1 : Int))) h5))))))
 else
 again (IntKind.wrap .i64 (i + (1 : Int))) h3)) h2))) i h1
 else
 Q h1)) (IntKind.wrap .i64 (a + (1 : Int))) h

def slices_heapSortOrdered_uint64_w (P : Program) (data : Sl) (a : Int) (b : Int) (Q : (Hp → Prop)) (h : Hp) : Prop :=
 ((2 : Int) ≠ (0 : Int) ∧ LoopW1 (α1 := Int) (fun again i h1 =>
 (if (decide (i ≥ (0 : Int))) = true then
 Call0 P n_slices_siftDownOrdered_uint64 [data.v, (.int .i64 i), (.int .i64 (IntKind.wrap .i64 (b - a))), (.int .i64 a)] (fun h2 =>
 again (IntKind.wrap .i64 (i - (1 : Int))) h2) h1
 else
 LoopW1 (α1 := Int) (fun again1 i1 h2 =>
 (if (decide (i1 ≥ (0 : Int))) = true then
 ((InB data.base data.len (IntKind.wrap .i64 (a + i1))) ∧ LdW none (shInt .u64) h2 (sat data.base 1 (IntKind.wrap .i64 (a + i1))) fun x =>
 ((InB data.base data.len a) ∧ LdW none (shInt .u64) h2 (sat data.base 1 a) fun x1 =>
 ((InB data.base data.len a) ∧ StW h2 (sat data.base 1 a) [(.int .u64 x)] (fun h3 =>
 ((InB data.base data.len (IntKind.wrap .i64 (a + i1))) ∧ StW h3 (sat data.base 1 (IntKind.wrap .i64 (a + i1))) [(.int .u64 x1)] (fun h4 =>
 Call0 P n_slices_siftDownOrdered_uint64 [data.v, (.int .i64 (0 : Int)), (.int .i64 i1), (.int .i64 a)] (fun h5 =>
 again1 (IntKind.wrap .i64 (i1 - (1 : Int))) h5) h4))))))
 else
 Q h2)) (IntKind.wrap .i64 ((IntKind.wrap .i64 (b - a)) - (1 : Int))) h1)) (IntKind.wrap .i64 (Int.tdiv (IntKind.wrap .i64 ((IntKind.wrap .i64 (b - a)) - (1 : Int))) (2 : Int))) h)

def slices_breakPatternsOrdered_uint64_w (P : Program) (data : Sl) (a : Int) (b : Int) (Q : (Hp → Prop)) (h : Hp) : Prop :=
 (if (decide ((IntKind.wrap .i64 (b - a)) ≥ (8 : Int))) = true then
 NewW [(.int .u64 (0 : Int))] (fun a1 h1 =>
 StW h1 a1 [(.int .u64 (IntKind.wrap .u64 (IntKind.wrap .i64 (b - a))))] (fun h2 =>
 CallT P n_slices_nextPowerOfTwo [(.int .i64 (IntKind.wrap .i64 (b - a)))] (shInt .u64) (fun r h3 =>
 ((4 : Int) ≠ (0 : Int) ∧ LoopW1 (α1 := Int) (fun again idx h4 =>
 ((4 : Int) ≠ (0 : Int) ∧ (if (decide (idx ≤ (IntKind.wrap .i64 ((IntKind.wrap .i64 (a + (IntKind.wrap .i64 ((IntKind.wrap .i64 (Int.tdiv (IntKind.wrap .i64 (b - a)) (4 : Int))) * (2 : Int))))) + (1 : Int))))) = true then
 CallT P n_slices_xorshift_Next [(.pointer (some a1))] (shInt .u64) (fun r1 h5 =>
 JoinW1 (α1 := Int) (fun k =>
 (if (decide ((IntKind.wrap .i64 (bitsI .and .u64 r1 (IntKind.wrap .u64 (r - (1 : Int))))) ≥ (IntKind.wrap .i64 (b - a)))) = true then
 k (IntKind.wrap .i64 ((IntKind.wrap .i64 (bitsI .and .u64 r1 (IntKind.wrap .u64 (r - (1 : Int))))) - (IntKind.wrap .i64 (b - a)))) h5
 else
 k (IntKind.wrap .i64 (bitsI .and .u64 r1 (IntKind.wrap .u64 (r - (1 : Int))))) h5))
 (fun other h6 =>
 ((InB data.base data.len (IntKind.wrap .i64 (a + other))) ∧ LdW none (shInt .u64) h6 (sat data.base 1 (IntKind.wrap .i64 (a + other))) fun x =>
 ((InB data.base data.len idx) ∧ LdW none (shInt .u64) h6 (sat data.base 1 idx) fun x1 =>
 ((InB data.base data.len idx) ∧ StW h6 (sat data.base 1 idx) [(.int .u64 x)] (fun h7 =>
 ((InB data.base data.len (IntKind.wrap .i64 (a + other))) ∧ StW h7 (sat data.base 1 (IntKind.wrap .i64 (a + other))) [(.int .u64 x1)] (fun h8 =>
 again (IntKind.wrap .i64 (idx + (1 : Int))) h8)))))))) h4
 else
 Q h4))) (IntKind.wrap .i64 ((IntKind.wrap .i64 (a + (IntKind.wrap .i64 ((IntKind.wrap .i64 (Int.tdiv (IntKind.wrap .i64 (b - a)) (4 : Int))) * (2 : Int))))) - (1 : Int))) h3)) h2)) h
 else
 Q h)

def slices_choosePivotOrdered_uint64_w (P : Program) (data : Sl) (a : Int) (b : Int) (Q : (Int → (Int → (Hp → Prop)))) (h : Hp) : Prop :=
 NewW [(.int .i64 (0 : Int))] (fun a1 h1 =>
 ((4 : Int) ≠ (0 : Int) ∧ ((4 : Int) ≠ (0 : Int) ∧ ((4 : Int) ≠ (0 : Int) ∧ (if (decide ((IntKind.wrap .i64 (b - a)) ≥ (8 : Int))) = true then
 JoinW3 (α1 := Int) (α2 := Int) (α3 := Int) (fun k =>
 (if (decide ((IntKind.wrap .i64 (b - a)) ≥ (50 : Int))) = true then
 CallT P n_slices_medianAdjacentOrdered_uint64 [data.v, (.int .i64 (IntKind.wrap .i64 (a + (IntKind.wrap .i64 ((IntKind.wrap .i64 (Int.tdiv (IntKind.wrap .i64 (b - a)) (4 : Int))) * (1 : Int)))))), (.pointer (some a1))] (shInt .i64) (fun r h2 =>
 CallT P n_slices_medianAdjacentOrdered_uint64 [data.v, (.int .i64 (IntKind.wrap .i64 (a + (IntKind.wrap .i64 ((IntKind.wrap .i64 (Int.tdiv (IntKind.wrap .i64 (b - a)) (4 : Int))) * (2 : Int)))))), (.pointer (some a1))] (shInt .i64) (fun r1 h3 =>
 CallT P n_slices_medianAdjacentOrdered_uint64 [data.v, (.int .i64 (IntKind.wrap .i64 (a + (IntKind.wrap .i64 ((IntKind.wrap .i64 (Int.tdiv (IntKind.wrap .i64 (b - a)) (4 : Int))) * (3 : Int)))))), (.pointer (some a1))] (shInt .i64) (fun r2 h4 =>
 k r r1 r2 h4) h3) h2) h1
 else
 k (IntKind.wrap .i64 (a + (IntKind.wrap .i64 ((IntKind.wrap .i64 (Int.tdiv (IntKind.wrap .i64 (b - a)) (4 : Int))) * (1 : Int))))) (IntKind.wrap .i64 (a + (IntKind.wrap .i64 ((IntKind.wrap .i64 (Int.tdiv (IntKind.wrap .i64 (b - a)) (4 : Int))) * (2 : Int))))) (IntKind.wrap .i64 (a + (IntKind.wrap .i64 ((IntKind.wrap .i64 (Int.tdiv (IntKind.wrap .i64 (b - a)) (4 : Int))) * (3 : Int))))) h1))
 (fun i j k h2 =>
 CallT P n_slices_medianOrdered_uint64 [data.v, (.int .i64 i), (.int .i64 j), (.int .i64 k), (.pointer (some a1))] (shInt .i64) (fun r h3 =>
 LdW none (shInt .i64) h3 a1 fun x =>
 (if (x == (0 : Int)) = true then
 Q r (1 : Int) h3
 else
 (if (x == (12 : Int)) = true then
 Q r (2 : Int) h3
 else
 Q r (0 : Int) h3))) h2)
 else
 LdW none (shInt .i64) h1 a1 fun x =>
 (if (x == (0 : Int)) = true then
 Q (IntKind.wrap .i64 (a + (IntKind.wrap .i64 ((IntKind.wrap .i64 (Int.tdiv (IntKind.wrap .i64 (b - a)) (4 : Int))) * (2 : Int))))) (1 : Int) h1
 else
 (if (x == (12 : Int)) = true then
 Q (IntKind.wrap .i64 (a + (IntKind.wrap .i64 ((IntKind.wrap .i64 (Int.tdiv (IntKind.wrap .i64 (b - a)) (4 : Int))) * (2 : Int))))) (2 : Int) h1
 else
 Q (IntKind.wrap .i64 (a + (IntKind.wrap .i64 ((IntKind.wrap .i64 (Int.tdiv (IntKind.wrap .i64 (b - a)) (4 : Int))) * (2 : Int))))) (0 : Int) h1))))))) h

def slices_reverseRangeOrdered_uint64_w (P : Program) (data : Sl) (a : Int) (b : Int) (Q : (Hp → Prop)) (h : Hp) : Prop :=
 LoopW2 (α1 := Int) (α2 := Int) (fun again i j h1 =>
 (if (decide (i < j)) = true then
 ((InB data.base data.len j) ∧ LdW none (shInt .u64) h1 (sat data.base 1 j) fun x =>
 ((InB data.base data.len i) ∧ LdW none (shInt .u64) h1 (sat data.base 1 i) fun x1 =>
 ((InB data.base data.len i) ∧ StW h1 (sat data.base 1 i) [(.int .u64 x)] (fun h2 =>
 ((InB data.base data.len j) ∧ StW h2 (sat data.base 1 j) [(.int .u64 x1)] (fun h3 =>
 again (IntKind.wrap .i64 (i + (1 : Int))) (IntKind.wrap .i64 (j - (1 : Int))) h3))))))
 else
 Q h1)) a (IntKind.wrap .i64 (b - (1 : Int))) h

def slices_partialInsertionSortOrdered_uint64_w (P : Program) (data : Sl) (a : Int) (b : Int) (Q : (Bool → (Hp → Prop))) (h : Hp) : Prop :=
 LoopW2 (α1 := Int) (α2 := Int) (fun again i j h1 =>
 (if (decide (j < (5 : Int))) = true then
 JoinW1 (α1 := Int) (fun k =>
 LoopW1 (α1 := Int) (fun again1 i1 h2 =>
 (((decide (i1 < b)) = true → (InB data.base data.len i1)) ∧ LdW (some (decide (i1 < b))) (shInt .u64) h2 (sat data.base 1 i1) fun x =>
 (((decide (i1 < b)) = true → (InB data.base data.len (IntKind.wrap .i64 (i1 - (1 : Int))))) ∧ LdW (some (decide (i1 < b))) (shInt .u64) h2 (sat data.base 1 (IntKind.wrap .i64 (i1 - (1 : Int)))) fun x1 =>
 EffC (some (decide (i1 < b))) (CallT P n_cmp_Less_uint64 [(.int .u64 x), (.int .u64 x1)] shBool) (fun r h3 =>
 LetW ((decide (i1 < b)) && (!r)) fun y =>
 (if y = true then
 again1 (IntKind.wrap .i64 (i1 + (1 : Int))) h3
 else
 (if (i1 == b) = true then
 Q true h3
 else
 (if (decide ((IntKind.wrap .i64 (b - a)) < (50 : Int))) = true then
 Q false h3
 else
 ((InB data.base data.len (IntKind.wrap .i64 (i1 - (1 : Int)))) ∧ LdW none (shInt .u64) h3 (sat data.base 1 (IntKind.wrap .i64 (i1 - (1 : Int)))) fun x2 =>
 ((InB data.base data.len i1) ∧ LdW none (shInt .u64) h3 (sat data.base 1 i1) fun x3 =>
 ((InB data.base data.len i1) ∧ StW h3 (sat data.base 1 i1) [(.int .u64 x2)] (fun h4 =>
 ((InB data.base data.len (IntKind.wrap .i64 (i1 - (1 : Int)))) ∧ StW h4 (sat data.base 1 (IntKind.wrap .i64 (i1 - (1 : Int)))) [(.int .u64 x3)] (fun h5 =>
 JoinW0 (fun k1 =>
 (if (decide ((IntKind.wrap .i64 (i1 - a)) ≥ (2 : Int))) = true then
 JoinW0 (fun k2 =>
 LoopW1 (α1 := Int) (fun again2 j1 h6 =>
 (if (decide (j1 ≥ (1 : Int))) = true then
 ((InB data.base data.len j1) ∧ LdW none (shInt .u64) h6 (sat data.base 1 j1) fun x4 =>
 ((InB data.base data.len (IntKind.wrap .i64 (j1 - (1 : Int)))) ∧ LdW none (shInt .u64) h6 (sat data.base 1 (IntKind.wrap .i64 (j1 - (1 : Int)))) fun x5 =>
 CallT P n_cmp_Less_uint64 [(.int .u64 x4), (.int .u64 x5)] shBool (fun r1 h7 =>
 (if (!r1) = true then
 k2 h7
 else
 ((InB data.base data.len (IntKind.wrap .i64 (j1 - (1 : Int)))) ∧ LdW none (shInt .u64) h7 (sat data.base 1 (IntKind.wrap .i64 (j1 - (1 : Int)))) fun x6 =>
 ((InB data.base data.len j1) ∧ LdW none (shInt .u64) h7 (sat data.base 1 j1) fun x7 =>
 ((InB data.base data.len j1) ∧ StW h7 (sat data.base 1 j1) [(.int .u64 x6)] (fun h8 =>
 ((InB data.base data.len (IntKind.wrap .i64 (j1 - (1 : Int)))) ∧ StW h8 (sat data.base 1 (IntKind.wrap .i64 (j1 - (1 : Int)))) [(.int .u64 x7)] (fun h9 =>
 again2 (IntKind.wrap .i64 (j1 - (1 : Int))) h9)))))))) h6))
 else
 k2 h6)) (IntKind.wrap .i64 (i1 - (1 : Int))) h5)
 (fun h6 =>
 k1 h6)
 else
 k1 h5))
 (fun h6 =>
 (if (decide ((IntKind.wrap .i64 (b - i1)) ≥ (2 : Int))) = true then
 JoinW0 (fun k1 =>
 LoopW1 (α1 := Int) (fun again2 j1 h7 =>
 (if (decide (j1 < b)) = true then
 ((InB data.base data.len j1) ∧ LdW none (shInt .u64) h7 (sat data.base 1 j1) fun x4 =>
 ((InB data.base data.len (IntKind.wrap .i64 (j1 - (1 : Int)))) ∧ LdW none (shInt .u64) h7 (sat data.base 1 (IntKind.wrap .i64 (j1 - (1 : Int)))) fun x5 =>
 CallT P n_cmp_Less_uint64 [(.int .u64 x4), (.int .u64 x5)] shBool (fun r1 h8 =>
 (if (!r1) = true then
 k1 h8
 else
 ((InB data.base data.len (IntKind.wrap .i64 (j1 - (1 : Int)))) ∧ LdW none (shInt .u64) h8 (sat data.base 1 (IntKind.wrap .i64 (j1 - (1 : Int)))) fun x6 =>
 ((InB data.base data.len j1) ∧ LdW none (shInt .u64) h8 (sat data.base 1 j1) fun x7 =>
 ((InB data.base data.len j1) ∧ StW h8 (sat data.base 1 j1) [(.int .u64 x6)] (fun h9 =>
 ((InB data.base data.len (IntKind.wrap .i64 (j1 - (1 : Int)))) ∧ StW h9 (sat data.base 1 (IntKind.wrap .i64 (j1 - (1 : Int)))) [(.int .u64 x7)] (fun h10 =>
 again2 (IntKind.wrap .i64 (j1 + (1 : Int))) h10)))))))) h7))
 else
 k1 h7)) (IntKind.wrap .i64 (i1 + (1 : Int))) h6)
 (fun h7 =>
 k i1 h7)
 else
 k i1 h6)))))))))))) h2))) i h1)
 (fun i1 h2 =>
 again i1 (IntKind.wrap .i64 (j + (1 : Int))) h2)
 else
 Q false h1)) (IntKind.wrap .i64 (a + (1 : Int))) (0 : Int) h

def cmp_Less_uint64_w (P : Program) (x : Int) (y : Int) (Q : (Bool → (Hp → Prop))) (h : Hp) : Prop :=
 CallT P n_cmp_isNaN_uint64 [(.int .u64 x)] shBool (fun r h1 =>
 EffC (some r) (CallT P n_cmp_isNaN_uint64 [(.int .u64 y)] shBool) (fun r1 h2 =>
 LetW (r && (!r1)) fun y1 =>
 LetW (y1 || (decide (x < y))) fun y2 =>
 Q y2 h2) h1) h

def slices_partitionEqualOrdered_uint64_w (P : Program) (data : Sl) (a : Int) (b : Int) (pivot : Int) (Q : (Int → (Hp → Prop))) (h : Hp) : Prop :=
 ((InB data.base data.len pivot) ∧ LdW none (shInt .u64) h (sat data.base 1 pivot) fun x =>
 ((InB data.base data.len a) ∧ LdW none (shInt .u64) h (sat data.base 1 a) fun x1 =>
 ((InB data.base data.len a) ∧ StW h (sat data.base 1 a) [(.int .u64 x)] (fun h1 =>
 ((InB data.base data.len pivot) ∧ StW h1 (sat data.base 1 pivot) [(.int .u64 x1)] (fun h2 =>
 LoopW2 (α1 := Int) (α2 := Int) (fun again i j h3 =>
 LoopW1 (α1 := Int) (fun again1 i1 h4 =>
 (((decide (i1 ≤ j)) = true → (InB data.base data.len a)) ∧ LdW (some (decide (i1 ≤ j))) (shInt .u64) h4 (sat data.base 1 a) fun x2 =>
 (((decide (i1 ≤ j)) = true → (InB data.base data.len i1)) ∧ LdW (some (decide (i1 ≤ j))) (shInt .u64) h4 (sat data.base 1 i1) fun x3 =>
 EffC (some (decide (i1 ≤ j))) (CallT P n_cmp_Less_uint64 [(.int .u64 x2), (.int .u64 x3)] shBool) (fun r h5 =>
 LetW ((decide (i1 ≤ j)) && (!r)) fun y =>
 (if y = true then
 again1 (IntKind.wrap .i64 (i1 + (1 : Int))) h5
 else
 LoopW1 (α1 := Int) (fun again2 j1 h6 =>
 (((decide (i1 ≤ j1)) = true → (InB data.base data.len a)) ∧ LdW (some (decide (i1 ≤ j1))) (shInt .u64) h6 (sat data.base 1 a) fun x4 =>
 (((decide (i1 ≤ j1)) = true → (InB data.base data.len j1)) ∧ LdW (some (decide (i1 ≤ j1))) (shInt .u64) h6 (sat data.base 1 j1) fun x5 =>
 EffC (some (decide (i1 ≤ j1))) (CallT P n_cmp_Less_uint64 [(.int .u64 x4), (.int .u64 x5)] shBool) (fun r1 h7 =>
 LetW ((decide (i1 ≤ j1)) && r1) fun y1 =>
 (if y1 = true then
 again2 (IntKind.wrap .i64 (j1 - (1 : Int))) h7
 else
 (if (decide (i1 > j1)) = true then
 Q i1 h7
 else
 ((InB data.base data.len j1) ∧ LdW none (shInt .u64) h7 (sat data.base 1 j1) fun x6 =>
 ((InB data.base data.len i1) ∧ LdW none (shInt .u64) h7 (sat data.base 1 i1) fun x7 =>
 ((InB data.base data.len i1) ∧ StW h7 (sat data.base 1 i1) [(.int .u64 x6)] (fun h8 =>
 ((InB data.base data.len j1) ∧ StW h8 (sat data.base 1 j1) [(.int .u64 x7)] (fun h9 =>
 again (IntKind.wrap .i64 (i1 + (1 : Int))) (IntKind.wrap .i64 (j1 - (1 : Int))) h9))))))))) h6))) j h5)) h4))) i h3) (IntKind.wrap .i64 (a + (1 : Int))) (IntKind.wrap .i64 (b - (1 : Int))) h2))))))

def slices_partitionOrdered_uint64_w (P : Program) (data : Sl) (a : Int) (b : Int) (pivot : Int) (Q : (Int → (Bool → (Hp → Prop)))) (h : Hp) : Prop :=
 ((InB data.base data.len pivot) ∧ LdW none (shInt .u64) h (sat data.base 1 pivot) fun x =>
 ((InB data.base data.len a) ∧ LdW none (shInt .u64) h (sat data.base 1 a) fun x1 =>
 ((InB data.base data.len a) ∧ StW h (sat data.base 1 a) [(.int .u64 x)] (fun h1 =>
 ((InB data.base data.len pivot) ∧ StW h1 (sat data.base 1 pivot) [(.int .u64 x1)] (fun h2 =>
 LoopW1 (α1 := Int) (fun again i h3 =>
 (((decide (i ≤ (IntKind.wrap .i64 (b - (1 : Int))))) = true → (InB data.base data.len i)) ∧ LdW (some (decide (i ≤ (IntKind.wrap .i64 (b - (1 : Int)))))) (shInt .u64) h3 (sat data.base 1 i) fun x2 =>
 (((decide (i ≤ (IntKind.wrap .i64 (b - (1 : Int))))) = true → (InB data.base data.len a)) ∧ LdW (some (decide (i ≤ (IntKind.wrap .i64 (b - (1 : Int)))))) (shInt .u64) h3 (sat data.base 1 a) fun x3 =>
 EffC (some (decide (i ≤ (IntKind.wrap .i64 (b - (1 : Int)))))) (CallT P n_cmp_Less_uint64 [(.int .u64 x2), (.int .u64 x3)] shBool) (fun r h4 =>
 LetW ((decide (i ≤ (IntKind.wrap .i64 (b - (1 : Int))))) && r) fun y =>
 (if y = true then
 again (IntKind.wrap .i64 (i + (1 : Int))) h4
 else
 LoopW1 (α1 := Int) (fun again1 j h5 =>
 (((decide (i ≤ j)) = true → (InB data.base data.len j)) ∧ LdW (some (decide (i ≤ j))) (shInt .u64) h5 (sat data.base 1 j) fun x4 =>
 (((decide (i ≤ j)) = true → (InB data.base data.len a)) ∧ LdW (some (decide (i ≤ j))) (shInt .u64) h5 (sat data.base 1 a) fun x5 =>
 EffC (some (decide (i ≤ j))) (CallT P n_cmp_Less_uint64 [(.int .u64 x4), (.int .u64 x5)] shBool) (fun r1 h6 =>
 LetW ((decide (i ≤ j)) && (!r1)) fun y1 =>
 (if y1 = true then
 again1 (IntKind.wrap .i64 (j - (1 : Int))) h6
 else
 (if (decide (i > j)) = true then
 ((InB data.base data.len a) ∧ LdW none (shInt .u64) h6 (sat data.base 1 a) fun x6 =>
 ((InB data.base data.len j) ∧ LdW none (shInt .u64) h6 (sat data.base 1 j) fun x7 =>
 ((InB data.base data.len j) ∧ StW h6 (sat data.base 1 j) [(.int .u64 x6)] (fun h7 =>
 ((InB data.base data.len a) ∧ StW h7 (sat data.base 1 a) [(.int .u64 x7)] (fun h8 =>
 Q j true h8))))))
 else
 ((InB data.base data.len j) ∧ LdW none (shInt .u64) h6 (sat data.base 1 j) fun x6 =>
 ((InB data.base data.len i) ∧ LdW none (shInt .u64) h6 (sat data.base 1 i) fun x7 =>
 ((InB data.base data.len i) ∧ StW h6 (sat data.base 1 i) [(.int .u64 x6)] (fun h7 =>
 ((InB data.base data.len j) ∧ StW h7 (sat data.base 1 j) [(.int .u64 x7)] (fun h8 =>
 LoopW2 (α1 := Int) (α2 := Int) (fun again2 i1 j1 h9 =>
 LoopW1 (α1 := Int) (fun again3 i2 h10 =>
 (((decide (i2 ≤ j1)) = true → (InB data.base data.len i2)) ∧ LdW (some (decide (i2 ≤ j1))) (shInt .u64) h10 (sat data.base 1 i2) fun x8 =>
 (((decide (i2 ≤ j1)) = true → (InB data.base data.len a)) ∧ LdW (some (decide (i2 ≤ j1))) (shInt .u64) h10 (sat data.base 1 a) fun x9 =>
 EffC (some (decide (i2 ≤ j1))) (CallT P n_cmp_Less_uint64 [(.int .u64 x8), (.int .u64 x9)] shBool) (fun r2 h11 =>
 LetW ((decide (i2 ≤ j1)) && r2) fun y2 =>
 (if y2 = true then
 again3 (IntKind.wrap .i64 (i2 + (1 : Int))) h11
 else
 LoopW1 (α1 := Int) (fun again4 j2 h12 =>
 (((decide (i2 ≤ j2)) = true → (InB data.base data.len j2)) ∧ LdW (some (decide (i2 ≤ j2))) (shInt .u64) h12 (sat data.base 1 j2) fun x10 =>
 (((decide (i2 ≤ j2)) = true → (InB data.base data.len a)) ∧ LdW (some (decide (i2 ≤ j2))) (shInt .u64) h12 (sat data.base 1 a) fun x11 =>
 EffC (some (decide (i2 ≤ j2))) (CallT P n_cmp_Less_uint64 [(.int .u64 x10), (.int .u64 x11)] shBool) (fun r3 h13 =>
 LetW ((decide (i2 ≤ j2)) && (!r3)) fun y3 =>
 (if y3 = true then
 again4 (IntKind.wrap .i64 (j2 - (1 : Int))) h13
 else
 (if (decide (i2 > j2)) = true then
 ((InB data.base data.len a) ∧ LdW none (shInt .u64) h13 (sat data.base 1 a) fun x12 =>
 ((InB data.base data.len j2) ∧ LdW none (shInt .u64) h13 (sat data.base 1 j2) fun x13 =>
 ((InB data.base data.len j2) ∧ StW h13 (sat data.base 1 j2) [(.int .u64 x12)] (fun h14 =>
 ((InB data.base data.len a) ∧ StW h14 (sat data.base 1 a) [(.int .u64 x13)] (fun h15 =>
 Q j2 false h15))))))
 else
 ((InB data.base data.len j2) ∧ LdW none (shInt .u64) h13 (sat data.base 1 j2) fun x12 =>
 ((InB data.base data.len i2) ∧ LdW none (shInt .u64) h13 (sat data.base 1 i2) fun x13 =>
 ((InB data.base data.len i2) ∧ StW h13 (sat data.base 1 i2) [(.int .u64 x12)] (fun h14 =>
 ((InB data.base data.len j2) ∧ StW h14 (sat data.base 1 j2) [(.int .u64 x13)] (fun h15 =>
 again2 (IntKind.wrap .i64 (i2 + (1 : Int))) (IntKind.wrap .i64 (j2 - (1 : Int))) h15))))))))) h12))) j1 h11)) h10))) i1 h9) (IntKind.wrap .i64 (i + (1 : Int))) (IntKind.wrap .i64 (j - (1 : Int))) h8))))))))) h5))) (IntKind.wrap .i64 (b - (1 : Int))) h4)) h3))) (IntKind.wrap .i64 (a + (1 : Int))) h2))))))

def math_bits_Len32_w (P : Program) (x : Int) (Q : (Int → (Hp → Prop))) (h : Hp) : Prop :=
 JoinW2 (α1 := Int) (α2 := Int) (fun k =>
 (if (decide (x ≥ (65536 : Int))) = true then
 ((0 : Int) ≤ (16 : Int) ∧ k (shrI .u32 x (16 : Int)) (16 : Int) h)
 else
 k x (0 : Int) h))
 (fun x1 n h1 =>
 (if (decide (x1 ≥ (256 : Int))) = true then
 ((0 : Int) ≤ (8 : Int) ∧ (((0 : Int) ≤ (IntKind.wrap .u8 (shrI .u32 x1 (8 : Int))) ∧ (IntKind.wrap .u8 (shrI .u32 x1 (8 : Int))) < (256 : Int)) ∧ Q (IntKind.wrap .i64 ((IntKind.wrap .i64 (n + (8 : Int))) + (IntKind.wrap .i64 (((UInt8.toNat (List.getD [⟨⟨⟨0, (Nat.mod_lt 0 (BitVec.ofNat._proof_1 8))⟩⟩⟩, ⟨⟨⟨1, (Nat.mod_lt 1 (BitVec.ofNat._proof_1 8))⟩⟩⟩, ⟨⟨⟨2, (Nat.mod_lt 2 (BitVec.ofNat._proof_1 8))⟩⟩⟩, ⟨⟨⟨2, (Nat.mod_lt 2 (BitVec.ofNat._proof_1 8))⟩⟩⟩, ⟨⟨⟨3, (Nat.mod_lt 3 (BitVec.ofNat._proof_1 8))⟩⟩⟩, ⟨⟨⟨3, (Nat.mod_lt 3 (BitVec.ofNat._proof_1 8))⟩⟩⟩, ⟨⟨⟨3, (Nat.mod_lt 3 (BitVec.ofNat._proof_1 8))⟩⟩⟩, ⟨⟨⟨3, (Nat.mod_lt 3 (BitVec.ofNat._proof_1 8))⟩⟩⟩, ⟨⟨⟨4, (Nat.mod_lt 4 (BitVec.ofNat._proof_1 8))⟩⟩⟩, ⟨⟨⟨4, (Nat.mod_lt 4 (BitVec.ofNat._proof_1 8))⟩⟩⟩, ⟨⟨⟨4, (Nat.mod_lt 4 (BitVec.ofNat._proof_1 8))⟩⟩⟩, ⟨⟨⟨4, (Nat.mod_lt 4 (BitVec.ofNat._proof_1 8))⟩⟩⟩, ⟨⟨⟨4, (Nat.mod_lt 4 (BitVec.ofNat._proof_1 8))⟩⟩⟩, ⟨⟨⟨4, (Nat.mod_lt 4 (BitVec.ofNat._proof_1 8))⟩⟩⟩, ⟨⟨⟨4, (Nat.mod_lt 4 (BitVec.ofNat._proof_1 8))⟩⟩⟩, ⟨⟨⟨4, (Nat.mod_lt 4 (BitVec.ofNat._proof_1 8))⟩⟩⟩, ⟨⟨⟨5, (Nat.mod_lt 5 (BitVec.ofNat._proof_1 8))⟩⟩⟩, ⟨⟨⟨5, (Nat.mod_lt 5 (BitVec.ofNat._proof_1 8))⟩⟩⟩, ⟨⟨⟨5, (Nat.mod_lt 5 (BitVec.ofNat._proof_1 8))⟩⟩⟩, ⟨⟨⟨5, (Nat.mod_lt 5 (BitVec.ofNat._proof_1 8))⟩⟩⟩, ⟨⟨⟨5, (Nat.mod_lt 5 (BitVec.ofNat._proof_1 8))⟩⟩⟩, ⟨⟨⟨5, (Nat.mod_lt 5 (BitVec.ofNat._proof_1 8))⟩⟩⟩, ⟨⟨⟨5, (Nat.mod_lt 5 (BitVec.ofNat._proof_1 8))⟩⟩⟩, ⟨⟨⟨5, (Nat.mod_lt 5 (BitVec.ofNat._proof_1 8))⟩⟩⟩, ⟨⟨⟨5, (Nat.mod_lt 5 (BitVec.ofNat._proof_1 8))⟩⟩⟩, ⟨⟨⟨5, (Nat.mod_lt 5 (BitVec.ofNat._proof_1 8))⟩⟩⟩, ⟨⟨⟨5, (Nat.mod_lt 5 (BitVec.ofNat._proof_1 8))⟩⟩⟩, ⟨⟨⟨5, (Nat.mod_lt 5 (BitVec.ofNat._proof_1 8))⟩⟩⟩, ⟨⟨⟨5, (Nat.mod_lt 5 (BitVec.ofNat._proof_1 8))⟩⟩⟩, ⟨⟨⟨5, (Nat.mod_lt 5 (BitVec.ofNat._proof_1 8))⟩⟩⟩, ⟨⟨⟨5, (Nat.mod_lt 5 (BitVec.ofNat._proof_1 8))⟩⟩⟩, ⟨⟨⟨5, (Nat.mod_lt 5 (BitVec.ofNat._proof_1 8))⟩⟩⟩, ⟨⟨⟨6, (Nat.mod_lt 6 (BitVec.ofNat._proof_1 8))⟩⟩⟩, ⟨⟨⟨6, (Nat.mod_lt 6 (BitVec.ofNat._proof_1 8))⟩⟩⟩, ⟨⟨⟨6, (Nat.mod_lt 6 (BitVec.ofNat._proof_1 8))⟩⟩⟩, ⟨⟨⟨6, (Nat.mod_lt 6 (BitVec.ofNat._proof_1 8))⟩⟩⟩, ⟨⟨⟨6, (Nat.mod_lt 6 (BitVec.ofNat._proof_1 8))⟩⟩⟩, ⟨⟨⟨6, (Nat.mod_lt 6 (BitVec.ofNat._proof_1 8))⟩⟩⟩, ⟨⟨⟨6, (Nat.mod_lt 6 (BitVec.ofNat._proof_1 8))⟩⟩⟩, ⟨⟨⟨6, (Nat.mod_lt 6 (BitVec.ofNat._proof_1 8))⟩⟩⟩, ⟨⟨⟨6, (Nat.mod_lt 6 (BitVec.ofNat._proof_1 8))⟩⟩⟩, ⟨⟨⟨6, (Nat.mod_lt 6 (BitVec.ofNat._proof_1 8))⟩⟩⟩, ⟨⟨⟨6, (Nat.mod_lt 6 (BitVec.ofNat._proof_1 8))⟩⟩⟩, ⟨⟨⟨6, (Nat.mod_lt 6 (BitVec.ofNat._proof_1 8))⟩⟩⟩, ⟨⟨⟨6, (Nat.mod_lt 6 (BitVec.ofNat._proof_1 8))⟩⟩⟩, ⟨⟨⟨6, (Nat.mod_lt 6 (BitVec.ofNat._proof_1 8))⟩⟩⟩, ⟨⟨⟨6, (Nat.mod_lt 6 (BitVec.ofNat._proof_1 8))⟩⟩⟩, ⟨⟨⟨6, (Nat.mod_lt 6 (BitVec.ofNat._proof_1 8))⟩⟩⟩, ⟨⟨⟨6, (Nat.mod_lt 6 (BitVec.ofNat._proof_1 8))⟩⟩⟩, ⟨⟨⟨6, (Nat.mod_lt 6 (BitVec.ofNat._proof_1 8))⟩⟩⟩, ⟨⟨⟨6, (Nat.mod_lt 6 (BitVec.ofNat._proof_1 8))⟩⟩⟩, ⟨⟨⟨6, (Nat.mod_lt 6 (BitVec.ofNat._proof_1 8))⟩⟩⟩, ⟨⟨⟨6, (Nat.mod_lt 6 (BitVec.ofNat._proof_1 8))⟩⟩⟩, ⟨⟨⟨6, (Nat.mod_lt 6 (BitVec.ofNat._proof_1 8))⟩⟩⟩, ⟨⟨⟨6, (Nat.mod_lt 6 (BitVec.ofNat._proof_1 8))⟩⟩⟩, ⟨⟨⟨6, (Nat.mod_lt 6 (BitVec.ofNat._proof_1 8))⟩⟩⟩, ⟨⟨⟨6, (Nat.mod_lt 6 (BitVec.ofNat._proof_1 8))⟩⟩⟩, ⟨⟨⟨6, (Nat.mod_lt 6 (BitVec.ofNat._proof_1 8))⟩⟩⟩, ⟨⟨⟨6, (Nat.mod_lt 6 (BitVec.ofNat._proof_1 8))⟩⟩⟩, ⟨⟨⟨6, (Nat.mod_lt 6 (BitVec.ofNat._proof_1 8))⟩⟩⟩, ⟨⟨⟨6, (Nat.mod_lt 6 (BitVec.ofNat._proof_1 8))⟩⟩⟩, ⟨⟨⟨6, (Nat.mod_lt 6 (BitVec.ofNat._proof_1 8))⟩⟩⟩, ⟨⟨⟨6, (Nat.mod_lt 6 (BitVec.ofNat._proof_1 8))⟩⟩⟩, ⟨⟨⟨6, (Nat.mod_lt 6 (BitVec.ofNat._proof_1 8))⟩⟩⟩, ⟨⟨⟨7, (Nat.mod_lt 7 (BitVec.ofNat._proof_1 8))⟩⟩⟩, ⟨⟨⟨7, (Nat.mod_lt 7 (BitVec.ofNat._proof_1 8))⟩⟩⟩, ⟨⟨⟨7, (Nat.mod_lt 7 (BitVec.ofNat._proof_1 8))⟩⟩⟩, ⟨⟨⟨7, (Nat.mod_lt 7 (BitVec.ofNat._proof_1 8))⟩⟩⟩, ⟨⟨⟨7, (Nat.mod_lt 7 (BitVec.ofNat._proof_1 8))⟩⟩⟩, ⟨⟨⟨7, (Nat.mod_lt 7 (BitVec.ofNat._proof_1 8))⟩⟩⟩, ⟨⟨⟨7, (Nat.mod_lt 7 (BitVec.ofNat._proof_1 8))⟩⟩⟩, ⟨⟨⟨7, (Nat.mod_lt 7 (BitVec.ofNat._proof_1 8))⟩⟩⟩, ⟨⟨⟨7, (Nat.mod_lt 7 (BitVec.ofNat._proof_1 8))⟩⟩⟩, ⟨⟨⟨7, (Nat.mod_lt 7 (BitVec.ofNat._proof_1 8))⟩⟩⟩, ⟨⟨⟨7, (Nat.mod_lt 7 (BitVec.ofNat._proof_1 8))⟩⟩⟩, ⟨⟨⟨7, (Nat.mod_lt 7 (BitVec.ofNat._proof_1 8))⟩⟩⟩, ⟨⟨⟨7, (Nat.mod_lt 7 (BitVec.ofNat._proof_1 8))⟩⟩⟩, ⟨⟨⟨7, (Nat.mod_lt 7 (BitVec.ofNat._proof_1 8))⟩⟩⟩, ⟨⟨⟨7, (Nat.mod_lt 7 (BitVec.ofNat._proof_1 8))⟩⟩⟩, ⟨⟨⟨7, (Nat.mod_lt 7 (BitVec.ofNat._proof_1 8))⟩⟩⟩, ⟨⟨⟨7, (Nat.mod_lt 7 (BitVec.ofNat._proof_1 8))⟩⟩⟩, ⟨⟨⟨7, (Nat.mod_lt 7 (BitVec.ofNat._proof_1 8))⟩⟩⟩, ⟨⟨⟨7, (Nat.mod_lt 7 (BitVec.ofNat._proof_1 8))⟩⟩⟩, ⟨⟨⟨7, (Nat.mod_lt 7 (BitVec.ofNat._proof_1 8))⟩⟩⟩, ⟨⟨⟨7, (Nat.mod_lt 7 (BitVec.ofNat._proof_1 8))⟩⟩⟩, ⟨⟨⟨7, (Nat.mod_lt 7 (BitVec.ofNat._proof_1 8))⟩⟩⟩, ⟨⟨⟨7, (Nat.mod_lt 7 (BitVec.ofNat._proof_1 8))⟩⟩⟩, ⟨⟨⟨7, (Nat.mod_lt 7 (BitVec.ofNat._proof_1 8))⟩⟩⟩, ⟨⟨⟨7, (Nat.mod_lt 7 (BitVec.ofNat._proof_1 8))⟩⟩⟩, ⟨⟨⟨7, (Nat.mod_lt 7 (BitVec.ofNat._proof_1 8))⟩⟩⟩, ⟨⟨⟨7, (Nat.mod_lt 7 (BitVec.ofNat._proof_1 8))⟩⟩⟩, ⟨⟨⟨7, (Nat.mod_lt 7 (BitVec.ofNat._proof_1 8))⟩⟩⟩, ⟨⟨⟨7, (Nat.mod_lt 7 (BitVec.ofNat._proof_1 8))⟩⟩⟩, ⟨⟨⟨7, (Nat.mod_lt 7 (BitVec.ofNat._proof_1 8))⟩⟩⟩, ⟨⟨⟨7, (Nat.mod_lt 7 (BitVec.ofNat._proof_1 8))⟩⟩⟩, ⟨⟨⟨7, (Nat.mod_lt 7 (BitVec.ofNat._proof_1 8))⟩⟩⟩, ⟨⟨⟨7, (Nat.mod_lt 7 (BitVec.ofNat._proof_1 8))⟩⟩⟩, ⟨⟨⟨7, (Nat.mod_lt 7 (BitVec.ofNat._proof_1 8))⟩⟩⟩, ⟨⟨⟨7, (Nat.mod_lt 7 (BitVec.ofNat._proof_1 8))⟩⟩⟩, ⟨⟨⟨7, (Nat.mod_lt 7 (BitVec.ofNat._proof_1 8))⟩⟩⟩, ⟨⟨⟨7, (Nat.mod_lt 7 (BitVec.ofNat._proof_1 8))⟩⟩⟩, ⟨⟨⟨7, (Nat.mod_lt 7 (BitVec.ofNat._proof_1 8))⟩⟩⟩, ⟨⟨⟨7, (Nat.mod_lt 7 (BitVec.ofNat._proof_1 8))⟩⟩⟩, ⟨⟨⟨7, (Nat.mod_lt 7 (BitVec.ofNat._proof_1 8))⟩⟩⟩, ⟨⟨⟨7, (Nat.mod_lt 7 (BitVec.ofNat._proof_1 8))⟩⟩⟩, ⟨⟨⟨7, (Nat.mod_lt 7 (BitVec.ofNat._proof_1 8))⟩⟩⟩, ⟨⟨⟨7, (Nat.mod_lt 7 (BitVec.ofNat._proof_1 8))⟩⟩⟩, ⟨⟨⟨7, (Nat.mod_lt 7 (BitVec.ofNat._proof_1 8))⟩⟩⟩, ⟨⟨⟨7, (Nat.mod_lt 7 (BitVec.ofNat._proof_1 8))⟩⟩⟩, ⟨⟨⟨7, (Nat.mod_lt 7 (BitVec.ofNat._proof_1 8))⟩⟩⟩, ⟨⟨⟨7, (Nat.mod_lt 7 (BitVec.ofNat._proof_1 8))⟩⟩⟩, ⟨⟨⟨7, (Nat.mod_lt 7 (BitVec.ofNat._proof_1 8))⟩⟩⟩, ⟨⟨⟨7, (Nat.mod_lt 7 (BitVec.ofNat._proof_1 8))⟩⟩⟩, ⟨⟨⟨7, (Nat.mod_lt 7 (BitVec.ofNat._proof_1 8))⟩⟩⟩, ⟨⟨⟨7, (Nat.mod_lt 7 (BitVec.ofNat._proof_1 8))⟩⟩⟩, ⟨⟨⟨7, (Nat.mod_lt 7 (BitVec.ofNat._proof_1 8))⟩⟩⟩, ⟨⟨⟨7, (Nat.mod_lt 7 (BitVec.ofNat._proof_1 8))⟩⟩⟩, ⟨⟨⟨7, (Nat.mod_lt 7 (BitVec.ofNat._proof_1 8))⟩⟩⟩, ⟨⟨⟨7, (Nat.mod_lt 7 (BitVec.ofNat._proof_1 8))⟩⟩⟩, ⟨⟨⟨7, (Nat.mod_lt 7 (BitVec.ofNat._proof_1 8))⟩⟩⟩, ⟨⟨⟨7, (Nat.mod_lt 7 (BitVec.ofNat._proof_1 8))⟩⟩⟩, ⟨⟨⟨7, (Nat.mod_lt 7 (BitVec.ofNat._proof_1 8))⟩⟩⟩, ⟨⟨⟨7, (Nat.mod_lt 7 (BitVec.ofNat._proof_1 8))⟩⟩⟩, ⟨⟨⟨7, (Nat.mod_lt 7 (BitVec.ofNat._proof_1 8))⟩⟩⟩, ⟨⟨⟨7, (Nat.mod_lt 7 (BitVec.ofNat._proof_1 8))⟩⟩⟩, ⟨⟨⟨7, (Nat.mod_lt 7 (BitVec.ofNat._proof_1 8))⟩⟩⟩, ⟨⟨⟨7, (Nat.mod_lt 7 (BitVec.ofNat._proof_1 8))⟩⟩⟩, ⟨⟨⟨7, (Nat.mod_lt 7 (BitVec.ofNat._proof_1 8))⟩⟩⟩, ⟨⟨⟨8, (Nat.mod_lt 8 (BitVec.ofNat._proof_1 8))⟩⟩⟩, ⟨⟨⟨8, (Nat.mod_lt 8 (BitVec.ofNat._proof_1 8))⟩⟩⟩, ⟨⟨⟨8, (Nat.mod_lt 8 (BitVec.ofNat._proof_1 8))⟩⟩⟩, ⟨⟨⟨8, (Nat.mod_lt 8 (BitVec.ofNat._proof_1 8))⟩⟩⟩, ⟨⟨⟨8, (Nat.mod_lt 8 (BitVec.ofNat._proof_1 8))⟩⟩⟩, ⟨⟨⟨8, (Nat.mod_lt 8 (BitVec.ofNat._proof_1 8))⟩⟩⟩, ⟨⟨⟨8, (Nat.mod_lt 8 (BitVec.ofNat._proof_1 8))⟩⟩⟩, ⟨⟨⟨8, (Nat.mod_lt 8 (BitVec.ofNat._proof_1 8))⟩⟩⟩, ⟨⟨⟨8, (Nat.mod_lt 8 (BitVec.ofNat._proof_1 8))⟩⟩⟩, ⟨⟨⟨8, (Nat.mod_lt 8 (BitVec.ofNat._proof_1 8))⟩⟩⟩, ⟨⟨⟨8, (Nat.mod_lt 8 (BitVec.ofNat._proof_1 8))⟩⟩⟩, ⟨⟨⟨8, (Nat.mod_lt 8 (BitVec.ofNat._proof_1 8))⟩⟩⟩, ⟨⟨⟨8, (Nat.mod_lt 8 (BitVec.ofNat._proof_1 8))⟩⟩⟩, ⟨⟨⟨8, (Nat.mod_lt 8 (BitVec.ofNat._proof_1 8))⟩⟩⟩, ⟨⟨⟨8, (Nat.mod_lt 8 (BitVec.ofNat._proof_1 8))⟩⟩⟩, ⟨⟨⟨8, (Nat.mod_lt 8 (BitVec.ofNat._proof_1 8))⟩⟩⟩, ⟨⟨⟨8, (Nat.mod_lt 8 (BitVec.ofNat._proof_1 8))⟩⟩⟩, ⟨⟨⟨8, (Nat.mod_lt 8 (BitVec.ofNat._proof_1 8))⟩⟩⟩, ⟨⟨⟨8, (Nat.mod_lt 8 (BitVec.ofNat._proof_1 8))⟩⟩⟩, ⟨⟨⟨8, (Nat.mod_lt 8 (BitVec.ofNat._proof_1 8))⟩⟩⟩, ⟨⟨⟨8, (Nat.mod_lt 8 (BitVec.ofNat._proof_1 8))⟩⟩⟩, ⟨⟨⟨8, (Nat.mod_lt 8 (BitVec.ofNat._proof_1 8))⟩⟩⟩, ⟨⟨⟨8, (Nat.mod_lt 8 (BitVec.ofNat._proof_1 8))⟩⟩⟩, ⟨⟨⟨8, (Nat.mod_lt 8 (BitVec.ofNat._proof_1 8))⟩⟩⟩, ⟨⟨⟨8, (Nat.mod_lt 8 (BitVec.ofNat._proof_1 8))⟩⟩⟩, ⟨⟨⟨8, (Nat.mod_lt 8 (BitVec.ofNat._proof_1 8))⟩⟩⟩, ⟨⟨⟨8, (Nat.mod_lt 8 (BitVec.ofNat._proof_1 8))⟩⟩⟩, ⟨⟨⟨8, (Nat.mod_lt 8 (BitVec.ofNat._proof_1 8))⟩⟩⟩, ⟨⟨⟨8, (Nat.mod_lt 8 (BitVec.ofNat._proof_1 8))⟩⟩⟩, ⟨⟨⟨8, (Nat.mod_lt 8 (BitVec.ofNat._proof_1 8))⟩⟩⟩, ⟨⟨⟨8, (Nat.mod_lt 8 (BitVec.ofNat._proof_1 8))⟩⟩⟩, ⟨⟨⟨8, (Nat.mod_lt 8 (BitVec.ofNat._proof_1 8))⟩⟩⟩, ⟨⟨⟨8, (Nat.mod_lt 8 (BitVec.ofNat._proof_1 8))⟩⟩⟩, ⟨⟨⟨8, (Nat.mod_lt 8 (BitVec.ofNat._proof_1 8))⟩⟩⟩, ⟨⟨⟨8, (Nat.mod_lt 8 (BitVec.ofNat._proof_1 8))⟩⟩⟩, ⟨⟨⟨8, (Nat.mod_lt 8 (BitVec.ofNat._proof_1 8))⟩⟩⟩, ⟨⟨⟨8, (Nat.mod_lt 8 (BitVec.ofNat._proof_1 8))⟩⟩⟩, ⟨⟨⟨8, (Nat.mod_lt 8 (BitVec.ofNat._proof_1 8))⟩⟩⟩, ⟨⟨⟨8, (Nat.mod_lt 8 (BitVec.ofNat._proof_1 8))⟩⟩⟩, ⟨⟨⟨8, (Nat.mod_lt 8 (BitVec.ofNat._proof_1 8))⟩⟩⟩, ⟨⟨⟨8, (Nat.mod_lt 8 (BitVec.ofNat._proof_1 8))⟩⟩⟩, ⟨⟨⟨8, (Nat.mod_lt 8 (BitVec.ofNat._proof_1 8))⟩⟩⟩, ⟨⟨⟨8, (Nat.mod_lt 8 (BitVec.ofNat._proof_1 8))⟩⟩⟩, ⟨⟨⟨8, (Nat.mod_lt 8 (BitVec.ofNat._proof_1 8))⟩⟩⟩, ⟨⟨⟨8, (Nat.mod_lt 8 (BitVec.ofNat._proof_1 8))⟩⟩⟩, ⟨⟨⟨8, (Nat.mod_lt 8 (BitVec.ofNat._proof_1 8))⟩⟩⟩, ⟨⟨⟨8, (Nat.mod_lt 8 (BitVec.ofNat._proof_1 8))⟩⟩⟩, ⟨⟨⟨8, (Nat.mod_lt 8 (BitVec.ofNat._proof_1 8))⟩⟩⟩, ⟨⟨⟨8, (Nat.mod_lt 8 (BitVec.ofNat._proof_1 8))⟩⟩⟩, ⟨⟨⟨8, (Nat.mod_lt 8 (BitVec.ofNat._proof_1 8))⟩⟩⟩, ⟨⟨⟨8, (Nat.mod_lt 8 (BitVec.ofNat._proof_1 8))⟩⟩⟩, ⟨⟨⟨8, (Nat.mod_lt 8 (BitVec.ofNat._proof_1 8))⟩⟩⟩, ⟨⟨⟨8, (Nat.mod_lt 8 (BitVec.ofNat._proof_1 8))⟩⟩⟩, ⟨⟨⟨8, (Nat.mod_lt 8 (BitVec.ofNat._proof_1 8))⟩⟩⟩, ⟨⟨⟨8, (Nat.mod_lt 8 (BitVec.ofNat._proof_1 8))⟩⟩⟩, ⟨⟨⟨8, (Nat.mod_lt 8 (BitVec.ofNat._proof_1 8))⟩⟩⟩, ⟨⟨⟨8, (Nat.mod_lt 8 (BitVec.ofNat._proof_1 8))⟩⟩⟩, ⟨⟨⟨8, (Nat.mod_lt 8 (BitVec.ofNat._proof_1 8))⟩⟩⟩, ⟨⟨⟨8, (Nat.mod_lt 8 (BitVec.ofNat._proof_1 8))⟩⟩⟩, ⟨⟨⟨8, (Nat.mod_lt 8 (BitVec.ofNat._proof_1 8))⟩⟩⟩, ⟨⟨⟨8, (Nat.mod_lt 8 (BitVec.ofNat._proof_1 8))⟩⟩⟩, ⟨⟨⟨8, (Nat.mod_lt 8 (BitVec.ofNat._proof_1 8))⟩⟩⟩, ⟨⟨⟨8, (Nat.mod_lt 8 (BitVec.ofNat._proof_1 8))⟩⟩⟩, ⟨⟨⟨8, (Nat.mod_lt 8 (BitVec.ofNat._proof_1 8))⟩⟩⟩, ⟨⟨⟨8, (Nat.mod_lt 8 (BitVec.ofNat._proof_1 8))⟩⟩⟩, ⟨⟨⟨8, (Nat.mod_lt 8 (BitVec.ofNat._proof_1 8))⟩⟩⟩, ⟨⟨⟨8, (Nat.mod_lt 8 (BitVec.ofNat._proof_1 8))⟩⟩⟩, ⟨⟨⟨8, (Nat.mod_lt 8 (BitVec.ofNat._proof_1 8))⟩⟩⟩, ⟨⟨⟨8, (Nat.mod_lt 8 (BitVec.ofNat._proof_1 8))⟩⟩⟩, ⟨⟨⟨8, (Nat.mod_lt 8 (BitVec.ofNat._proof_1 8))⟩⟩⟩, ⟨⟨⟨8, (Nat.mod_lt 8 (BitVec.ofNat._proof_1 8))⟩⟩⟩, ⟨⟨⟨8, (Nat.mod_lt 8 (BitVec.ofNat._proof_1 8))⟩⟩⟩, ⟨⟨⟨8, (Nat.mod_lt 8 (BitVec.ofNat._proof_1 8))⟩⟩⟩, ⟨⟨⟨8, (Nat.mod_lt 8 (BitVec.ofNat._proof_1 8))⟩⟩⟩, ⟨⟨⟨8, (Nat.mod_lt 8 (BitVec.ofNat._proof_1 8))⟩⟩⟩, ⟨⟨⟨8, (Nat.mod_lt 8 (BitVec.ofNat._proof_1 8))⟩⟩⟩, ⟨⟨⟨8, (Nat.mod_lt 8 (BitVec.ofNat._proof_1 8))⟩⟩⟩, ⟨⟨⟨8, (Nat.mod_lt 8 (BitVec.ofNat._proof_1 8))⟩⟩⟩, ⟨⟨⟨8, (Nat.mod_lt 8 (BitVec.ofNat._proof_1 8))⟩⟩⟩, ⟨⟨⟨8, (Nat.mod_lt 8 (BitVec.ofNat._proof_1 8))⟩⟩⟩, ⟨⟨⟨8, (Nat.mod_lt 8 (BitVec.ofNat._proof_1 8))⟩⟩⟩, ⟨⟨⟨8, (Nat.mod_lt 8 (BitVec.ofNat._proof_1 8))⟩⟩⟩, ⟨⟨⟨8, (Nat.mod_lt 8 (BitVec.ofNat._proof_1 8))⟩⟩⟩, ⟨⟨⟨8, (Nat.mod_lt 8 (BitVec.ofNat._proof_1 8))⟩⟩⟩, ⟨⟨⟨8, (Nat.mod_lt 8 (BitVec.ofNat._proof_1 8))⟩⟩⟩, ⟨⟨⟨8, (Nat.mod_lt 8 (BitVec.ofNat._proof_1 8))⟩⟩⟩, ⟨⟨⟨8, (Nat.mod_lt 8 (BitVec.ofNat._proof_1 8))⟩⟩⟩, ⟨⟨⟨8, (Nat.mod_lt 8 (BitVec.ofNat._proof_1 8))⟩⟩⟩, ⟨⟨⟨8, (Nat.mod_lt 8 (BitVec.ofNat._proof_1 8))⟩⟩⟩, ⟨⟨⟨8, (Nat.mod_lt 8 (BitVec.ofNat._proof_1 8))⟩⟩⟩, ⟨⟨⟨8, (Nat.mod_lt 8 (BitVec.ofNat._proof_1 8))⟩⟩⟩, ⟨⟨⟨8, (Nat.mod_lt 8 (BitVec.ofNat._proof_1 8))⟩⟩⟩, ⟨⟨⟨8, (Nat.mod_lt 8 (BitVec.ofNat._proof_1 8))⟩⟩⟩, ⟨⟨⟨8, (Nat.mod_lt 8 (BitVec.ofNat._proof_1 8))⟩⟩⟩, ⟨⟨⟨8, (Nat.mod_lt 8 (BitVec.ofNat._proof_1 8))⟩⟩⟩, ⟨⟨⟨8, (Nat.mod_lt 8 (BitVec.ofNat._proof_1 8))⟩⟩⟩, ⟨⟨⟨8, (Nat.mod_lt 8 (BitVec.ofNat._proof_1 8))⟩⟩⟩, ⟨⟨⟨8, (Nat.mod_lt 8 (BitVec.ofNat._proof_1 8))⟩⟩⟩, ⟨⟨⟨8, (Nat.mod_lt 8 (BitVec.ofNat._proof_1 8))⟩⟩⟩, ⟨⟨⟨8, (Nat.mod_lt 8 (BitVec.ofNat._proof_1 8))⟩⟩⟩, ⟨⟨⟨8, (Nat.mod_lt 8 (BitVec.ofNat._proof_1 8))⟩⟩⟩, ⟨⟨⟨8, (Nat.mod_lt 8 (BitVec.ofNat._proof_1 8))⟩⟩⟩, ⟨⟨⟨8, (Nat.mod_lt 8 (BitVec.ofNat._proof_1 8))⟩⟩⟩, ⟨⟨⟨8, (Nat.mod_lt 8 (BitVec.ofNat._proof_1 8))⟩⟩⟩, ⟨⟨⟨8, (Nat.mod_lt 8 (BitVec.ofNat._proof_1 8))⟩⟩⟩, ⟨⟨⟨8, (Nat.mod_lt 8 (BitVec.ofNat._proof_1 8))⟩⟩⟩, ⟨⟨⟨8, (Nat.mod_lt 8 (BitVec.ofNat._proof_1 8))⟩⟩⟩, ⟨⟨⟨8, (Nat.mod_lt 8 (BitVec.ofNat._proof_1 8))⟩⟩⟩, ⟨⟨⟨8, (Nat.mod_lt 8 (BitVec.ofNat._proof_1 8))⟩⟩⟩, ⟨⟨⟨8, (Nat.mod_lt 8 (BitVec.ofNat._proof_1 8))⟩⟩⟩, ⟨⟨⟨8, (Nat.mod_lt 8 (BitVec.ofNat._proof_1 8))⟩⟩⟩, ⟨⟨⟨8, (Nat.mod_lt 8 (BitVec.ofNat._proof_1 8))⟩⟩⟩, ⟨⟨⟨8, (Nat.mod_lt 8 (BitVec.ofNat._proof_1 8))⟩⟩⟩, ⟨⟨⟨8, (Nat.mod_lt 8 (BitVec.ofNat._proof_1 8))⟩⟩⟩, ⟨⟨⟨8, (Nat.mod_lt 8 (BitVec.ofNat._proof_1 8))⟩⟩⟩, ⟨⟨⟨8, (Nat.mod_lt 8 (BitVec.ofNat._proof_1 8))⟩⟩⟩, ⟨⟨⟨8, (Nat.mod_lt 8 (BitVec.ofNat._proof_1 8))⟩⟩⟩, ⟨⟨⟨8, (Nat.mod_lt 8 (BitVec.ofNat._proof_1 8))⟩⟩⟩, ⟨⟨⟨8, (Nat.mod_lt 8 (BitVec.ofNat._proof_1 8))⟩⟩⟩, ⟨⟨⟨8, (Nat.mod_lt 8 (BitVec.ofNat._proof_1 8))⟩⟩⟩, ⟨⟨⟨8, (Nat.mod_lt 8 (BitVec.ofNat._proof_1 8))⟩⟩⟩, ⟨⟨⟨8, (Nat.mod_lt 8 (BitVec.ofNat._proof_1 8))⟩⟩⟩, ⟨⟨⟨8, (Nat.mod_lt 8 (BitVec.ofNat._proof_1 8))⟩⟩⟩, ⟨⟨⟨8, (Nat.mod_lt 8 (BitVec.ofNat._proof_1 8))⟩⟩⟩, ⟨⟨⟨8, (Nat.mod_lt 8 (BitVec.ofNat._proof_1 8))⟩⟩⟩, ⟨⟨⟨8, (Nat.mod_lt 8 (BitVec.ofNat._proof_1 8))⟩⟩⟩, ⟨⟨⟨8, (Nat.mod_lt 8 (BitVec.ofNat._proof_1 8))⟩⟩⟩, ⟨⟨⟨8, (Nat.mod_lt 8 (BitVec.ofNat._proof_1 8))⟩⟩⟩] (Int.toNat (IntKind.wrap .u8 (shrI .u32 x1 (8 : Int)))) ⟨⟨⟨0, (Nat.mod_lt 0 (BitVec.ofNat._proof_1 8))⟩⟩⟩)) : Nat) : Int)))) h1))
 else
 (((0 : Int) ≤ (IntKind.wrap .u8 x1) ∧ (IntKind.wrap .u8 x1) < (256 : Int)) ∧ Q (IntKind.wrap .i64 (n + (IntKind.wrap .i64 (((UInt8.toNat (List.getD [⟨⟨⟨0, (Nat.mod_lt 0 (BitVec.ofNat._proof_1 8))⟩⟩⟩, ⟨⟨⟨1, (Nat.mod_lt 1 (BitVec.ofNat._proof_1 8))⟩⟩⟩, ⟨⟨⟨2, (Nat.mod_lt 2 (BitVec.ofNat._proof_1 8))⟩⟩⟩, ⟨⟨⟨2, (Nat.mod_lt 2 (BitVec.ofNat._proof_1 8))⟩⟩⟩, ⟨⟨⟨3, (Nat.mod_lt 3 (BitVec.ofNat._proof_1 8))⟩⟩⟩, ⟨⟨⟨3, (Nat.mod_lt 3 (BitVec.ofNat._proof_1 8))⟩⟩⟩, ⟨⟨⟨3, (Nat.mod_lt 3 (BitVec.ofNat._proof_1 8))⟩⟩⟩, ⟨⟨⟨3, (Nat.mod_lt 3 (BitVec.ofNat._proof_1 8))⟩⟩⟩, ⟨⟨⟨4, (Nat.mod_lt 4 (BitVec.ofNat._proof_1 8))⟩⟩⟩, ⟨⟨⟨4, (Nat.mod_lt 4 (BitVec.ofNat._proof_1 8))⟩⟩⟩, ⟨⟨⟨4, (Nat.mod_lt 4 (BitVec.ofNat._proof_1 8))⟩⟩⟩, ⟨⟨⟨4, (Nat.mod_lt 4 (BitVec.ofNat._proof_1 8))⟩⟩⟩, ⟨⟨⟨4, (Nat.mod_lt 4 (BitVec.ofNat._proof_1 8))⟩⟩⟩, ⟨⟨⟨4, (Nat.mod_lt 4 (BitVec.ofNat._proof_1 8))⟩⟩⟩, ⟨⟨⟨4, (Nat.mod_lt 4 (BitVec.ofNat._proof_1 8))⟩⟩⟩, ⟨⟨⟨4, (Nat.mod_lt 4 (BitVec.ofNat._proof_1 8))⟩⟩⟩, ⟨⟨⟨5, (Nat.mod_lt 5 (BitVec.ofNat._proof_1 8))⟩⟩⟩, ⟨⟨⟨5, (Nat.mod_lt 5 (BitVec.ofNat._proof_1 8))⟩⟩⟩, ⟨⟨⟨5, (Nat.mod_lt 5 (BitVec.ofNat._proof_1 8))⟩⟩⟩, ⟨⟨⟨5, (Nat.mod_lt 5 (BitVec.ofNat._proof_1 8))⟩⟩⟩, ⟨⟨⟨5, (Nat.mod_lt 5 (BitVec.ofNat._proof_1 8))⟩⟩⟩, ⟨⟨⟨5, (Nat.mod_lt 5 (BitVec.ofNat._proof_1 8))⟩⟩⟩, ⟨⟨⟨5, (Nat.mod_lt 5 (BitVec.ofNat._proof_1 8))⟩⟩⟩, ⟨⟨⟨5, (Nat.mod_lt 5 (BitVec.ofNat._proof_1 8))⟩⟩⟩, ⟨⟨⟨5, (Nat.mod_lt 5 (BitVec.ofNat._proof_1 8))⟩⟩⟩, ⟨⟨⟨5, (Nat.mod_lt 5 (BitVec.ofNat._proof_1 8))⟩⟩⟩, ⟨⟨⟨5, (Nat.mod_lt 5 (BitVec.ofNat._proof_1 8))⟩⟩⟩, ⟨⟨⟨5, (Nat.mod_lt 5 (BitVec.ofNat._proof_1 8))⟩⟩⟩, ⟨⟨⟨5, (Nat.mod_lt 5 (BitVec.ofNat._proof_1 8))⟩⟩⟩, ⟨⟨⟨5, (Nat.mod_lt 5 (BitVec.ofNat._proof_1 8))⟩⟩⟩, ⟨⟨⟨5, (Nat.mod_lt 5 (BitVec.ofNat._proof_1 8))⟩⟩⟩, ⟨⟨⟨5, (Nat.mod_lt 5 (BitVec.ofNat._proof_1 8))⟩⟩⟩, ⟨⟨⟨6, (Nat.mod_lt 6 (BitVec.ofNat._proof_1 8))⟩⟩⟩, ⟨⟨⟨6, (Nat.mod_lt 6 (BitVec.ofNat._proof_1 8))⟩⟩⟩, ⟨⟨⟨6, (Nat.mod_lt 6 (BitVec.ofNat._proof_1 8))⟩⟩⟩, ⟨⟨⟨6, (Nat.mod_lt 6 (BitVec.ofNat._proof_1 8))⟩⟩⟩, ⟨⟨⟨6, (Nat.mod_lt 6 (BitVec.ofNat._proof_1 8))⟩⟩⟩, ⟨⟨⟨6, (Nat.mod_lt 6 (BitVec.ofNat._proof_1 8))⟩⟩⟩, ⟨⟨⟨6, (Nat.mod_lt 6 (BitVec.ofNat._proof_1 8))⟩⟩⟩, ⟨⟨⟨6, (Nat.mod_lt 6 (BitVec.ofNat._proof_1 8))⟩⟩⟩, ⟨⟨⟨6, (Nat.mod_lt 6 (BitVec.ofNat._proof_1 8))⟩⟩⟩, ⟨⟨⟨6, (Nat.mod_lt 6 (BitVec.ofNat._proof_1 8))⟩⟩⟩, ⟨⟨⟨6, (Nat.mod_lt 6 (BitVec.ofNat._proof_1 8))⟩⟩⟩, ⟨⟨⟨6, (Nat.mod_lt 6 (BitVec.ofNat._proof_1 8))⟩⟩⟩, ⟨⟨⟨6, (Nat.mod_lt 6 (BitVec.ofNat._proof_1 8))⟩⟩⟩, ⟨⟨⟨6, (Nat.mod_lt 6 (BitVec.ofNat._proof_1 8))⟩⟩⟩, ⟨⟨⟨6, (Nat.mod_lt 6 (BitVec.ofNat._proof_1 8))⟩⟩⟩, ⟨⟨⟨6, (Nat.mod_lt 6 (BitVec.ofNat._proof_1 8))⟩⟩⟩, ⟨⟨⟨6, (Nat.mod_lt 6 (BitVec.ofNat._proof_1 8))⟩⟩⟩, ⟨⟨⟨6, (Nat.mod_lt 6 (BitVec.ofNat._proof_1 8))⟩⟩⟩, ⟨⟨⟨6, (Nat.mod_lt 6 (BitVec.ofNat._proof_1 8))⟩⟩⟩, ⟨⟨⟨6, (Nat.mod_lt 6 (BitVec.ofNat._proof_1 8))⟩⟩⟩, ⟨⟨⟨6, (Nat.mod_lt 6 (BitVec.ofNat._proof_1 8))⟩⟩⟩, ⟨⟨⟨6, (Nat.mod_lt 6 (BitVec.ofNat._proof_1 8))⟩⟩⟩, ⟨⟨⟨6, (Nat.mod_lt 6 (BitVec.ofNat._proof_1 8))⟩⟩⟩, ⟨⟨⟨6, (Nat.mod_lt 6 (BitVec.ofNat._proof_1 8))⟩⟩⟩, ⟨⟨⟨6, (Nat.mod_lt 6 (BitVec.ofNat._proof_1 8))⟩⟩⟩, ⟨⟨⟨6, (Nat.mod_lt 6 (BitVec.ofNat._proof_1 8))⟩⟩⟩, ⟨⟨⟨6, (Nat.mod_lt 6 (BitVec.ofNat._proof_1 8))⟩⟩⟩, ⟨⟨⟨6, (Nat.mod_lt 6 (BitVec.ofNat._proof_1 8))⟩⟩⟩, ⟨⟨⟨6, (Nat.mod_lt 6 (BitVec.ofNat._proof_1 8))⟩⟩⟩, ⟨⟨⟨6, (Nat.mod_lt 6 (BitVec.ofNat._proof_1 8))⟩⟩⟩, ⟨⟨⟨6, (Nat.mod_lt 6 (BitVec.ofNat._proof_1 8))⟩⟩⟩, ⟨⟨⟨6, (Nat.mod_lt 6 (BitVec.ofNat._proof_1 8))⟩⟩⟩, ⟨⟨⟨7, (Nat.mod_lt 7 (BitVec.ofNat._proof_1 8))⟩⟩⟩, ⟨⟨⟨7, (Nat.mod_lt 7 (BitVec.ofNat._proof_1 8))⟩⟩⟩, ⟨⟨⟨7, (Nat.mod_lt 7 (BitVec.ofNat._proof_1 8))⟩⟩⟩, ⟨⟨⟨7, (Nat.mod_lt 7 (BitVec.ofNat._proof_1 8))⟩⟩⟩, ⟨⟨⟨7, (Nat.mod_lt 7 (BitVec.ofNat._proof_1 8))⟩⟩⟩, ⟨⟨⟨7, (Nat.mod_lt 7 (BitVec.ofNat._proof_1 8))⟩⟩⟩, ⟨⟨⟨7, (Nat.mod_lt 7 (BitVec.ofNat._proof_1 8))⟩⟩⟩, ⟨⟨⟨7, (Nat.mod_lt 7 (BitVec.ofNat._proof_1 8))⟩⟩⟩, ⟨⟨⟨7, (Nat.mod_lt 7 (BitVec.ofNat._proof_1 8))⟩⟩⟩, ⟨⟨⟨7, (Nat.mod_lt 7 (BitVec.ofNat._proof_1 8))⟩⟩⟩, ⟨⟨⟨7, (Nat.mod_lt 7 (BitVec.ofNat._proof_1 8))⟩⟩⟩, ⟨⟨⟨7, (Nat.mod_lt 7 (BitVec.ofNat._proof_1 8))⟩⟩⟩, ⟨⟨⟨7, (Nat.mod_lt 7 (BitVec.ofNat._proof_1 8))⟩⟩⟩, ⟨⟨⟨7, (Nat.mod_lt 7 (BitVec.ofNat._proof_1 8))⟩⟩⟩, ⟨⟨⟨7, (Nat.mod_lt 7 (BitVec.ofNat._proof_1 8))⟩⟩⟩, ⟨⟨⟨7, (Nat.mod_lt 7 (BitVec.ofNat._proof_1 8))⟩⟩⟩, ⟨⟨⟨7, (Nat.mod_lt 7 (BitVec.ofNat._proof_1 8))⟩⟩⟩, ⟨⟨⟨7, (Nat.mod_lt 7 (BitVec.ofNat._proof_1 8))⟩⟩⟩, ⟨⟨⟨7, (Nat.mod_lt 7 (BitVec.ofNat._proof_1 8))⟩⟩⟩, ⟨⟨⟨7, (Nat.mod_lt 7 (BitVec.ofNat._proof_1 8))⟩⟩⟩, ⟨⟨⟨7, (Nat.mod_lt 7 (BitVec.ofNat._proof_1 8))⟩⟩⟩, ⟨⟨⟨7, (Nat.mod_lt 7 (BitVec.ofNat._proof_1 8))⟩⟩⟩, ⟨⟨⟨7, (Nat.mod_lt 7 (BitVec.ofNat._proof_1 8))⟩⟩⟩, ⟨⟨⟨7, (Nat.mod_lt 7 (BitVec.ofNat._proof_1 8))⟩⟩⟩, ⟨⟨⟨7, (Nat.mod_lt 7 (BitVec.ofNat._proof_1 8))⟩⟩⟩, ⟨⟨⟨7, (Nat.mod_lt 7 (BitVec.ofNat._proof_1 8))⟩⟩⟩, ⟨⟨⟨7, (Nat.mod_lt 7 (BitVec.ofNat._proof_1 8))⟩⟩⟩, ⟨⟨⟨7, (Nat.mod_lt 7 (BitVec.ofNat._proof_1 8))⟩⟩⟩, ⟨⟨⟨7, (Nat.mod_lt 7 (BitVec.ofNat._proof_1 8))⟩⟩⟩, ⟨⟨⟨7, (Nat.mod_lt 7 (BitVec.ofNat._proof_1 8))⟩⟩⟩, ⟨⟨⟨7, (Nat.mod_lt 7 (BitVec.ofNat._proof_1 8))⟩⟩⟩, ⟨⟨⟨7, (Nat.mod_lt 7 (BitVec.ofNat._proof_1 8))⟩⟩⟩, ⟨⟨⟨7, (Nat.mod_lt 7 (BitVec.ofNat._proof_1 8))⟩⟩⟩, ⟨⟨⟨7, (Nat.mod_lt 7 (BitVec.ofNat._proof_1 8))⟩⟩⟩, ⟨⟨⟨7, (Nat.mod_lt 7 (BitVec.ofNat._proof_1 8))⟩⟩⟩, ⟨⟨⟨7, (Nat.mod_lt 7 (BitVec.ofNat._proof_1 8))⟩⟩⟩, ⟨⟨⟨7, (Nat.mod_lt 7 (BitVec.ofNat._proof_1 8))⟩⟩⟩, ⟨⟨⟨7, (Nat.mod_lt 7 (BitVec.ofNat._proof_1 8))⟩⟩⟩, ⟨⟨⟨7, (Nat.mod_lt 7 (BitVec.ofNat._proof_1 8))⟩⟩⟩, ⟨⟨⟨7, (Nat.mod_lt 7 (BitVec.ofNat._proof_1 8))⟩⟩⟩, ⟨⟨⟨7, (Nat.mod_lt 7 (BitVec.ofNat._proof_1 8))⟩⟩⟩, ⟨⟨⟨7, (Nat.mod_lt 7 (BitVec.ofNat._proof_1 8))⟩⟩⟩, ⟨⟨⟨7, (Nat.mod_lt 7 (BitVec.ofNat._proof_1 8))⟩⟩⟩, ⟨⟨⟨7, (Nat.mod_lt 7 (BitVec.ofNat._proof_1 8))⟩⟩⟩, ⟨⟨⟨7, (Nat.mod_lt 7 (BitVec.ofNat._proof_1 8))⟩⟩⟩, ⟨⟨⟨7, (Nat.mod_lt 7 (BitVec.ofNat._proof_1 8))⟩⟩⟩, ⟨⟨⟨7, (Nat.mod_lt 7 (BitVec.ofNat._proof_1 8))⟩⟩⟩, ⟨⟨⟨7, (Nat.mod_lt 7 (BitVec.ofNat._proof_1 8))⟩⟩⟩, ⟨⟨⟨7, (Nat.mod_lt 7 (BitVec.ofNat._proof_1 8))⟩⟩⟩, ⟨⟨⟨7, (Nat.mod_lt 7 (BitVec.ofNat._proof_1 8))⟩⟩⟩, ⟨⟨⟨7, (Nat.mod_lt 7 (BitVec.ofNat._proof_1 8))⟩⟩⟩, ⟨⟨⟨7, (Nat.mod_lt 7 (BitVec.ofNat._proof_1 8))⟩⟩⟩, ⟨⟨⟨7, (Nat.mod_lt 7 (BitVec.ofNat._proof_1 8))⟩⟩⟩, ⟨⟨⟨7, (Nat.mod_lt 7 (BitVec.ofNat._proof_1 8))⟩⟩⟩, ⟨⟨⟨7, (Nat.mod_lt 7 (BitVec.ofNat._proof_1 8))⟩⟩⟩, ⟨⟨⟨7, (Nat.mod_lt 7 (BitVec.ofNat._proof_1 8))⟩⟩⟩, ⟨⟨⟨7, (Nat.mod_lt 7 (BitVec.ofNat._proof_1 8))⟩⟩⟩, ⟨⟨⟨7, (Nat.mod_lt 7 (BitVec.ofNat._proof_1 8))⟩⟩⟩, ⟨⟨⟨7, (Nat.mod_lt 7 (BitVec.ofNat._proof_1 8))⟩⟩⟩, ⟨⟨⟨7, (Nat.mod_lt 7 (BitVec.ofNat._proof_1 8))⟩⟩⟩, ⟨⟨⟨7, (Nat.mod_lt 7 (BitVec.ofNat._proof_1 8))⟩⟩⟩, ⟨⟨⟨7, (Nat.mod_lt 7 (BitVec.ofNat._proof_1 8))⟩⟩⟩, ⟨⟨⟨7, (Nat.mod_lt 7 (BitVec.ofNat._proof_1 8))⟩⟩⟩, ⟨⟨⟨7, (Nat.mod_lt 7 (BitVec.ofNat._proof_1 8))⟩⟩⟩, ⟨⟨⟨8, (Nat.mod_lt 8 (BitVec.ofNat._proof_1 8))⟩⟩⟩, ⟨⟨⟨8, (Nat.mod_lt 8 (BitVec.ofNat._proof_1 8))⟩⟩⟩, ⟨⟨⟨8, (Nat.mod_lt 8 (BitVec.ofNat._proof_1 8))⟩⟩⟩, ⟨⟨⟨8, (Nat.mod_lt 8 (BitVec.ofNat._proof_1 8))⟩⟩⟩, ⟨⟨⟨8, (Nat.mod_lt 8 (BitVec.ofNat._proof_1 8))⟩⟩⟩, ⟨⟨⟨8, (Nat.mod_lt 8 (BitVec.ofNat._proof_1 8))⟩⟩⟩, ⟨⟨⟨8, (Nat.mod_lt 8 (BitVec.ofNat._proof_1 8))⟩⟩⟩, ⟨⟨⟨8, (Nat.mod_lt 8 (BitVec.ofNat._proof_1 8))⟩⟩⟩, ⟨⟨⟨8, (Nat.mod_lt 8 (BitVec.ofNat._proof_1 8))⟩⟩⟩, ⟨⟨⟨8, (Nat.mod_lt 8 (BitVec.ofNat._proof_1 8))⟩⟩⟩, ⟨⟨⟨8, (Nat.mod_lt 8 (BitVec.ofNat._proof_1 8))⟩⟩⟩, ⟨⟨⟨8, (Nat.mod_lt 8 (BitVec.ofNat._proof_1 8))⟩⟩⟩, ⟨⟨⟨8, (Nat.mod_lt 8 (BitVec.ofNat._proof_1 8))⟩⟩⟩, ⟨⟨⟨8, (Nat.mod_lt 8 (BitVec.ofNat._proof_1 8))⟩⟩⟩, ⟨⟨⟨8, (Nat.mod_lt 8 (BitVec.ofNat._proof_1 8))⟩⟩⟩, ⟨⟨⟨8, (Nat.mod_lt 8 (BitVec.ofNat._proof_1 8))⟩⟩⟩, ⟨⟨⟨8, (Nat.mod_lt 8 (BitVec.ofNat._proof_1 8))⟩⟩⟩, ⟨⟨⟨8, (Nat.mod_lt 8 (BitVec.ofNat._proof_1 8))⟩⟩⟩, ⟨⟨⟨8, (Nat.mod_lt 8 (BitVec.ofNat._proof_1 8))⟩⟩⟩, ⟨⟨⟨8, (Nat.mod_lt 8 (BitVec.ofNat._proof_1 8))⟩⟩⟩, ⟨⟨⟨8, (Nat.mod_lt 8 (BitVec.ofNat._proof_1 8))⟩⟩⟩, ⟨⟨⟨8, (Nat.mod_lt 8 (BitVec.ofNat._proof_1 8))⟩⟩⟩, ⟨⟨⟨8, (Nat.mod_lt 8 (BitVec.ofNat._proof_1 8))⟩⟩⟩, ⟨⟨⟨8, (Nat.mod_lt 8 (BitVec.ofNat._proof_1 8))⟩⟩⟩, ⟨⟨⟨8, (Nat.mod_lt 8 (BitVec.ofNat._proof_1 8))⟩⟩⟩, ⟨⟨⟨8, (Nat.mod_lt 8 (BitVec.ofNat._proof_1 8))⟩⟩⟩, ⟨⟨⟨8, (Nat.mod_lt 8 (BitVec.ofNat._proof_1 8))⟩⟩⟩, ⟨⟨⟨8, (Nat.mod_lt 8 (BitVec.ofNat._proof_1 8))⟩⟩⟩, ⟨⟨⟨8, (Nat.mod_lt 8 (BitVec.ofNat._proof_1 8))⟩⟩⟩, ⟨⟨⟨8, (Nat.mod_lt 8 (BitVec.ofNat._proof_1 8))⟩⟩⟩, ⟨⟨⟨8, (Nat.mod_lt 8 (BitVec.ofNat._proof_1 8))⟩⟩⟩, ⟨⟨⟨8, (Nat.mod_lt 8 (BitVec.ofNat._proof_1 8))⟩⟩⟩, ⟨⟨⟨8, (Nat.mod_lt 8 (BitVec.ofNat._proof_1 8))⟩⟩⟩, ⟨⟨⟨8, (Nat.mod_lt 8 (BitVec.ofNat._proof_1 8))⟩⟩⟩, ⟨⟨⟨8, (Nat.mod_lt 8 (BitVec.ofNat._proof_1 8))⟩⟩⟩, ⟨⟨⟨8, (Nat.mod_lt 8 (BitVec.ofNat._proof_1 8))⟩⟩⟩, ⟨⟨⟨8, (Nat.mod_lt 8 (BitVec.ofNat._proof_1 8))⟩⟩⟩, ⟨⟨⟨8, (Nat.mod_lt 8 (BitVec.ofNat._proof_1 8))⟩⟩⟩, ⟨⟨⟨8, (Nat.mod_lt 8 (BitVec.ofNat._proof_1 8))⟩⟩⟩, ⟨⟨⟨8, (Nat.mod_lt 8 (BitVec.ofNat._proof_1 8))⟩⟩⟩, ⟨⟨⟨8, (Nat.mod_lt 8 (BitVec.ofNat._proof_1 8))⟩⟩⟩, ⟨⟨⟨8, (Nat.mod_lt 8 (BitVec.ofNat._proof_1 8))⟩⟩⟩, ⟨⟨⟨8, (Nat.mod_lt 8 (BitVec.ofNat._proof_1 8))⟩⟩⟩, ⟨⟨⟨8, (Nat.mod_lt 8 (BitVec.ofNat._proof_1 8))⟩⟩⟩, ⟨⟨⟨8, (Nat.mod_lt 8 (BitVec.ofNat._proof_1 8))⟩⟩⟩, ⟨⟨⟨8, (Nat.mod_lt 8 (BitVec.ofNat._proof_1 8))⟩⟩⟩, ⟨⟨⟨8, (Nat.mod_lt 8 (BitVec.ofNat._proof_1 8))⟩⟩⟩, ⟨⟨⟨8, (Nat.mod_lt 8 (BitVec.ofNat._proof_1 8))⟩⟩⟩, ⟨⟨⟨8, (Nat.mod_lt 8 (BitVec.ofNat._proof_1 8))⟩⟩⟩, ⟨⟨⟨8, (Nat.mod_lt 8 (BitVec.ofNat._proof_1 8))⟩⟩⟩, ⟨⟨⟨8, (Nat.mod_lt 8 (BitVec.ofNat._proof_1 8))⟩⟩⟩, ⟨⟨⟨8, (Nat.mod_lt 8 (BitVec.ofNat._proof_1 8))⟩⟩⟩, ⟨⟨⟨8, (Nat.mod_lt 8 (BitVec.ofNat._proof_1 8))⟩⟩⟩, ⟨⟨⟨8, (Nat.mod_lt 8 (BitVec.ofNat._proof_1 8))⟩⟩⟩, ⟨⟨⟨8, (Nat.mod_lt 8 (BitVec.ofNat._proof_1 8))⟩⟩⟩, ⟨⟨⟨8, (Nat.mod_lt 8 (BitVec.ofNat._proof_1 8))⟩⟩⟩, ⟨⟨⟨8, (Nat.mod_lt 8 (BitVec.ofNat._proof_1 8))⟩⟩⟩, ⟨⟨⟨8, (Nat.mod_lt 8 (BitVec.ofNat._proof_1 8))⟩⟩⟩, ⟨⟨⟨8, (Nat.mod_lt 8 (BitVec.ofNat._proof_1 8))⟩⟩⟩, ⟨⟨⟨8, (Nat.mod_lt 8 (BitVec.ofNat._proof_1 8))⟩⟩⟩, ⟨⟨⟨8, (Nat.mod_lt 8 (BitVec.ofNat._proof_1 8))⟩⟩⟩, ⟨⟨⟨8, (Nat.mod_lt 8 (BitVec.ofNat._proof_1 8))⟩⟩⟩, ⟨⟨⟨8, (Nat.mod_lt 8 (BitVec.ofNat._proof_1 8))⟩⟩⟩, ⟨⟨⟨8, (Nat.mod_lt 8 (BitVec.ofNat._proof_1 8))⟩⟩⟩, ⟨⟨⟨8, (Nat.mod_lt 8 (BitVec.ofNat._proof_1 8))⟩⟩⟩, ⟨⟨⟨8, (Nat.mod_lt 8 (BitVec.ofNat._proof_1 8))⟩⟩⟩, ⟨⟨⟨8, (Nat.mod_lt 8 (BitVec.ofNat._proof_1 8))⟩⟩⟩, ⟨⟨⟨8, (Nat.mod_lt 8 (BitVec.ofNat._proof_1 8))⟩⟩⟩, ⟨⟨⟨8, (Nat.mod_lt 8 (BitVec.ofNat._proof_1 8))⟩⟩⟩, ⟨⟨⟨8, (Nat.mod_lt 8 (BitVec.ofNat._proof_1 8))⟩⟩⟩, ⟨⟨⟨8, (Nat.mod_lt 8 (BitVec.ofNat._proof_1 8))⟩⟩⟩, ⟨⟨⟨8, (Nat.mod_lt 8 (BitVec.ofNat._proof_1 8))⟩⟩⟩, ⟨⟨⟨8, (Nat.mod_lt 8 (BitVec.ofNat._proof_1 8))⟩⟩⟩, ⟨⟨⟨8, (Nat.mod_lt 8 (BitVec.ofNat._proof_1 8))⟩⟩⟩, ⟨⟨⟨8, (Nat.mod_lt 8 (BitVec.ofNat._proof_1 8))⟩⟩⟩, ⟨⟨⟨8, (Nat.mod_lt 8 (BitVec.ofNat._proof_1 8))⟩⟩⟩, ⟨⟨⟨8, (Nat.mod_lt 8 (BitVec.ofNat._proof_1 8))⟩⟩⟩, ⟨⟨⟨8, (Nat.mod_lt 8 (BitVec.ofNat._proof_1 8))⟩⟩⟩, ⟨⟨⟨8, (Nat.mod_lt 8 (BitVec.ofNat._proof_1 8))⟩⟩⟩, ⟨⟨⟨8, (Nat.mod_lt 8 (BitVec.ofNat._proof_1 8))⟩⟩⟩, ⟨⟨⟨8, (Nat.mod_lt 8 (BitVec.ofNat._proof_1 8))⟩⟩⟩, ⟨⟨⟨8, (Nat.mod_lt 8 (BitVec.ofNat._proof_1 8))⟩⟩⟩, ⟨⟨⟨8, (Nat.mod_lt 8 (BitVec.ofNat._proof_1 8))⟩⟩⟩, ⟨⟨⟨8, (Nat.mod_lt 8 (BitVec.ofNat._proof_1 8))⟩⟩⟩, ⟨⟨⟨8, (Nat.mod_lt 8 (BitVec.ofNat._proof_1 8))⟩⟩⟩, ⟨⟨⟨8, (Nat.mod_lt 8 (BitVec.ofNat._proof_1 8))⟩⟩⟩, ⟨⟨⟨8, (Nat.mod_lt 8 (BitVec.ofNat._proof_1 8))⟩⟩⟩, ⟨⟨⟨8, (Nat.mod_lt 8 (BitVec.ofNat._proof_1 8))⟩⟩⟩, ⟨⟨⟨8, (Nat.mod_lt 8 (BitVec.ofNat._proof_1 8))⟩⟩⟩, ⟨⟨⟨8, (Nat.mod_lt 8 (BitVec.ofNat._proof_1 8))⟩⟩⟩, ⟨⟨⟨8, (Nat.mod_lt 8 (BitVec.ofNat._proof_1 8))⟩⟩⟩, ⟨⟨⟨8, (Nat.mod_lt 8 (BitVec.ofNat._proof_1 8))⟩⟩⟩, ⟨⟨⟨8, (Nat.mod_lt 8 (BitVec.ofNat._proof_1 8))⟩⟩⟩, ⟨⟨⟨8, (Nat.mod_lt 8 (BitVec.ofNat._proof_1 8))⟩⟩⟩, ⟨⟨⟨8, (Nat.mod_lt 8 (BitVec.ofNat._proof_1 8))⟩⟩⟩, ⟨⟨⟨8, (Nat.mod_lt 8 (BitVec.ofNat._proof_1 8))⟩⟩⟩, ⟨⟨⟨8, (Nat.mod_lt 8 (BitVec.ofNat._proof_1 8))⟩⟩⟩, ⟨⟨⟨8, (Nat.mod_lt 8 (BitVec.ofNat._proof_1 8))⟩⟩⟩, ⟨⟨⟨8, (Nat.mod_lt 8 (BitVec.ofNat._proof_1 8))⟩⟩⟩, ⟨⟨⟨8, (Nat.mod_lt 8 (BitVec.ofNat._proof_1 8))⟩⟩⟩, ⟨⟨⟨8, (Nat.mod_lt 8 (BitVec.ofNat._proof_1 8))⟩⟩⟩, ⟨⟨⟨8, (Nat.mod_lt 8 (BitVec.ofNat._proof_1 8))⟩⟩⟩, ⟨⟨⟨8, (Nat.mod_lt 8 (BitVec.ofNat._proof_1 8))⟩⟩⟩, ⟨⟨⟨8, (Nat.mod_lt 8 (BitVec.ofNat._proof_1 8))⟩⟩⟩, ⟨⟨⟨8, (Nat.mod_lt 8 (BitVec.ofNat._proof_1 8))⟩⟩⟩, ⟨⟨⟨8, (Nat.mod_lt 8 (BitVec.ofNat._proof_1 8))⟩⟩⟩, ⟨⟨⟨8, (Nat.mod_lt 8 (BitVec.ofNat._proof_1 8))⟩⟩⟩, ⟨⟨⟨8, (Nat.mod_lt 8 (BitVec.ofNat._proof_1 8))⟩⟩⟩, ⟨⟨⟨8, (Nat.mod_lt 8 (BitVec.ofNat._proof_1 8))⟩⟩⟩, ⟨⟨⟨8, (Nat.mod_lt 8 (BitVec.ofNat._proof_1 8))⟩⟩⟩, ⟨⟨⟨8, (Nat.mod_lt 8 (BitVec.ofNat._proof_1 8))⟩⟩⟩, ⟨⟨⟨8, (Nat.mod_lt 8 (BitVec.ofNat._proof_1 8))⟩⟩⟩, ⟨⟨⟨8, (Nat.mod_lt 8 (BitVec.ofNat._proof_1 8))⟩⟩⟩, ⟨⟨⟨8, (Nat.mod_lt 8 (BitVec.ofNat._proof_1 8))⟩⟩⟩, ⟨⟨⟨8, (Nat.mod_lt 8 (BitVec.ofNat._proof_1 8))⟩⟩⟩, ⟨⟨⟨8, (Nat.mod_lt 8 (BitVec.ofNat._proof_1 8))⟩⟩⟩, ⟨⟨⟨8, (Nat.mod_lt 8 (BitVec.ofNat._proof_1 8))⟩⟩⟩, ⟨⟨⟨8, (Nat.mod_lt 8 (BitVec.ofNat._proof_1 8))⟩⟩⟩, ⟨⟨⟨8, (Nat.mod_lt 8 (BitVec.ofNat._proof_1 8))⟩⟩⟩, ⟨⟨⟨8, (Nat.mod_lt 8 (BitVec.ofNat._proof_1 8))⟩⟩⟩, ⟨⟨⟨8, (Nat.mod_lt 8 (BitVec.ofNat._proof_1 8))⟩⟩⟩, ⟨⟨⟨8, (Nat.mod_lt 8 (BitVec.ofNat._proof_1 8))⟩⟩⟩, ⟨⟨⟨8, (Nat.mod_lt 8 (BitVec.ofNat._proof_1 8))⟩⟩⟩, ⟨⟨⟨8, (Nat.mod_lt 8 (BitVec.ofNat._proof_1 8))⟩⟩⟩, ⟨⟨⟨8, (Nat.mod_lt 8 (BitVec.ofNat._proof_1 8))⟩⟩⟩, ⟨⟨⟨8, (Nat.mod_lt 8 (BitVec.ofNat._proof_1 8))⟩⟩⟩, ⟨⟨⟨8, (Nat.mod_lt 8 (BitVec.ofNat._proof_1 8))⟩⟩⟩, ⟨⟨⟨8, (Nat.mod_lt 8 (BitVec.ofNat._proof_1 8))⟩⟩⟩] (Int.toNat (IntKind.wrap .u8 x1)) ⟨⟨⟨0, (Nat.mod_lt 0 (BitVec.ofNat._proof_1 8))⟩⟩⟩)) : Nat) : Int)))) h1)))

def math_bits_Len64_w (P : Program) (x : Int) (Q : (Int → (Hp → Prop))) (h : Hp) : Prop :=
 JoinW2 (α1 := Int) (α2 := Int) (fun k =>
 (if (decide (x ≥ (4294967296 : Int))) = true then
 ((0 : Int) ≤ (32 : Int) ∧ k (shrI .u64 x (32 : Int)) (32 : Int) h)
 else
 k x (0 : Int) h))
 (fun x1 n h1 =>
 JoinW2 (α1 := Int) (α2 := Int) (fun k =>
 (if (decide (x1 ≥ (65536 : Int))) = true then
 ((0 : Int) ≤ (16 : Int) ∧ k (shrI .u64 x1 (16 : Int)) (IntKind.wrap .i64 (n + (16 : Int))) h1)
 else
 k x1 n h1))
 (fun x2 n1 h2 =>
 (if (decide (x2 ≥ (256 : Int))) = true then
 ((0 : Int) ≤ (8 : Int) ∧ (((0 : Int) ≤ (IntKind.wrap .u8 (shrI .u64 x2 (8 : Int))) ∧ (IntKind.wrap .u8 (shrI .u64 x2 (8 : Int))) < (256 : Int)) ∧ Q (IntKind.wrap .i64 ((IntKind.wrap .i64 (n1 + (8 : Int))) + (IntKind.wrap .i64 (((UInt8.toNat (List.getD [⟨⟨⟨0, (Nat.mod_lt 0 (BitVec.ofNat._proof_1 8))⟩⟩⟩, ⟨⟨⟨1, (Nat.mod_lt 1 (BitVec.ofNat._proof_1 8))⟩⟩⟩, ⟨⟨⟨2, (Nat.mod_lt 2 (BitVec.ofNat._proof_1 8))⟩⟩⟩, ⟨⟨⟨2, (Nat.mod_lt 2 (BitVec.ofNat._proof_1 8))⟩⟩⟩, ⟨⟨⟨3, (Nat.mod_lt 3 (BitVec.ofNat._proof_1 8))⟩⟩⟩, ⟨⟨⟨3, (Nat.mod_lt 3 (BitVec.ofNat._proof_1 8))⟩⟩⟩, ⟨⟨⟨3, (Nat.mod_lt 3 (BitVec.ofNat._proof_1 8))⟩⟩⟩, ⟨⟨⟨3, (Nat.mod_lt 3 (BitVec.ofNat._proof_1 8))⟩⟩⟩, ⟨⟨⟨4, (Nat.mod_lt 4 (BitVec.ofNat._proof_1 8))⟩⟩⟩, ⟨⟨⟨4, (Nat.mod_lt 4 (BitVec.ofNat._proof_1 8))⟩⟩⟩, ⟨⟨⟨4, (Nat.mod_lt 4 (BitVec.ofNat._proof_1 8))⟩⟩⟩, ⟨⟨⟨4, (Nat.mod_lt 4 (BitVec.ofNat._proof_1 8))⟩⟩⟩, ⟨⟨⟨4, (Nat.mod_lt 4 (BitVec.ofNat._proof_1 8))⟩⟩⟩, ⟨⟨⟨4, (Nat.mod_lt 4 (BitVec.ofNat._proof_1 8))⟩⟩⟩, ⟨⟨⟨4, (Nat.mod_lt 4 (BitVec.ofNat._proof_1 8))⟩⟩⟩, ⟨⟨⟨4, (Nat.mod_lt 4 (BitVec.ofNat._proof_1 8))⟩⟩⟩, ⟨⟨⟨5, (Nat.mod_lt 5 (BitVec.ofNat._proof_1 8))⟩⟩⟩, ⟨⟨⟨5, (Nat.mod_lt 5 (BitVec.ofNat._proof_1 8))⟩⟩⟩, ⟨⟨⟨5, (Nat.mod_lt 5 (BitVec.ofNat._proof_1 8))⟩⟩⟩, ⟨⟨⟨5, (Nat.mod_lt 5 (BitVec.ofNat._proof_1 8))⟩⟩⟩, ⟨⟨⟨5, (Nat.mod_lt 5 (BitVec.ofNat._proof_1 8))⟩⟩⟩, ⟨⟨⟨5, (Nat.mod_lt 5 (BitVec.ofNat._proof_1 8))⟩⟩⟩, ⟨⟨⟨5, (Nat.mod_lt 5 (BitVec.ofNat._proof_1 8))⟩⟩⟩, ⟨⟨⟨5, (Nat.mod_lt 5 (BitVec.ofNat._proof_1 8))⟩⟩⟩, ⟨⟨⟨5, (Nat.mod_lt 5 (BitVec.ofNat._proof_1 8))⟩⟩⟩, ⟨⟨⟨5, (Nat.mod_lt 5 (BitVec.ofNat._proof_1 8))⟩⟩⟩, ⟨⟨⟨5, (Nat.mod_lt 5 (BitVec.ofNat._proof_1 8))⟩⟩⟩, ⟨⟨⟨5, (Nat.mod_lt 5 (BitVec.ofNat._proof_1 8))⟩⟩⟩, ⟨⟨⟨5, (Nat.mod_lt 5 (BitVec.ofNat._proof_1 8))⟩⟩⟩, ⟨⟨⟨5, (Nat.mod_lt 5 (BitVec.ofNat._proof_1 8))⟩⟩⟩, ⟨⟨⟨5, (Nat.mod_lt 5 (BitVec.ofNat._proof_1 8))⟩⟩⟩, ⟨⟨⟨5, (Nat.mod_lt 5 (BitVec.ofNat._proof_1 8))⟩⟩⟩, ⟨⟨⟨6, (Nat.mod_lt 6 (BitVec.ofNat._proof_1 8))⟩⟩⟩, ⟨⟨⟨6, (Nat.mod_lt 6 (BitVec.ofNat._proof_1 8))⟩⟩⟩, ⟨⟨⟨6, (Nat.mod_lt 6 (BitVec.ofNat._proof_1 8))⟩⟩⟩, ⟨⟨⟨6, (Nat.mod_lt 6 (BitVec.ofNat._proof_1 8))⟩⟩⟩, ⟨⟨⟨6, (Nat.mod_lt 6 (BitVec.ofNat._proof_1 8))⟩⟩⟩, ⟨⟨⟨6, (Nat.mod_lt 6 (BitVec.ofNat._proof_1 8))⟩⟩⟩, ⟨⟨⟨6, (Nat.mod_lt 6 (BitVec.ofNat._proof_1 8))⟩⟩⟩, ⟨⟨⟨6, (Nat.mod_lt 6 (BitVec.ofNat._proof_1 8))⟩⟩⟩, ⟨⟨⟨6, (Nat.mod_lt 6 (BitVec.ofNat._proof_1 8))⟩⟩⟩, ⟨⟨⟨6, (Nat.mod_lt 6 (BitVec.ofNat._proof_1 8))⟩⟩⟩, ⟨⟨⟨6, (Nat.mod_lt 6 (BitVec.ofNat._proof_1 8))⟩⟩⟩, ⟨⟨⟨6, (Nat.mod_lt 6 (BitVec.ofNat._proof_1 8))⟩⟩⟩, ⟨⟨⟨6, (Nat.mod_lt 6 (BitVec.ofNat._proof_1 8))⟩⟩⟩, ⟨⟨⟨6, (Nat.mod_lt 6 (BitVec.ofNat._proof_1 8))⟩⟩⟩, ⟨⟨⟨6, (Nat.mod_lt 6 (BitVec.ofNat._proof_1 8))⟩⟩⟩, ⟨⟨⟨6, (Nat.mod_lt 6 (BitVec.ofNat._proof_1 8))⟩⟩⟩, ⟨⟨⟨6, (Nat.mod_lt 6 (BitVec.ofNat._proof_1 8))⟩⟩⟩, ⟨⟨⟨6, (Nat.mod_lt 6 (BitVec.ofNat._proof_1 8))⟩⟩⟩, ⟨⟨⟨6, (Nat.mod_lt 6 (BitVec.ofNat._proof_1 8))⟩⟩⟩, ⟨⟨⟨6, (Nat.mod_lt 6 (BitVec.ofNat._proof_1 8))⟩⟩⟩, ⟨⟨⟨6, (Nat.mod_lt 6 (BitVec.ofNat._proof_1 8))⟩⟩⟩, ⟨⟨⟨6, (Nat.mod_lt 6 (BitVec.ofNat._proof_1 8))⟩⟩⟩, ⟨⟨⟨6, (Nat.mod_lt 6 (BitVec.ofNat._proof_1 8))⟩⟩⟩, ⟨⟨⟨6, (Nat.mod_lt 6 (BitVec.ofNat._proof_1 8))⟩⟩⟩, ⟨⟨⟨6, (Nat.mod_lt 6 (BitVec.ofNat._proof_1 8))⟩⟩⟩, ⟨⟨⟨6, (Nat.mod_lt 6 (BitVec.ofNat._proof_1 8))⟩⟩⟩, ⟨⟨⟨6, (Nat.mod_lt 6 (BitVec.ofNat._proof_1 8))⟩⟩⟩, ⟨⟨⟨6, (Nat.mod_lt 6 (BitVec.ofNat._proof_1 8))⟩⟩⟩, ⟨⟨⟨6, (Nat.mod_lt 6 (BitVec.ofNat._proof_1 8))⟩⟩⟩, ⟨⟨⟨6, (Nat.mod_lt 6 (BitVec.ofNat._proof_1 8))⟩⟩⟩, ⟨⟨⟨6, (Nat.mod_lt 6 (BitVec.ofNat._proof_1 8))⟩⟩⟩, ⟨⟨⟨6, (Nat.mod_lt 6 (BitVec.ofNat._proof_1 8))⟩⟩⟩, ⟨⟨⟨7, (Nat.mod_lt 7 (BitVec.ofNat._proof_1 8))⟩⟩⟩, ⟨⟨⟨7, (Nat.mod_lt 7 (BitVec.ofNat._proof_1 8))⟩⟩⟩, ⟨⟨⟨7, (Nat.mod_lt 7 (BitVec.ofNat._proof_1 8))⟩⟩⟩, ⟨⟨⟨7, (Nat.mod_lt 7 (BitVec.ofNat._proof_1 8))⟩⟩⟩, ⟨⟨⟨7, (Nat.mod_lt 7 (BitVec.ofNat._proof_1 8))⟩⟩⟩, ⟨⟨⟨7, (Nat.mod_lt 7 (BitVec.ofNat._proof_1 8))⟩⟩⟩, ⟨⟨⟨7, (Nat.mod_lt 7 (BitVec.ofNat._proof_1 8))⟩⟩⟩, ⟨⟨⟨7, (Nat.mod_lt 7 (BitVec.ofNat._proof_1 8))⟩⟩⟩, ⟨⟨⟨7, (Nat.mod_lt 7 (BitVec.ofNat._proof_1 8))⟩⟩⟩, ⟨⟨⟨7, (Nat.mod_lt 7 (BitVec.ofNat._proof_1 8))⟩⟩⟩, ⟨⟨⟨7, (Nat.mod_lt 7 (BitVec.ofNat._proof_1 8))⟩⟩⟩, ⟨⟨⟨7, (Nat.mod_lt 7 (BitVec.ofNat._proof_1 8))⟩⟩⟩, ⟨⟨⟨7, (Nat.mod_lt 7 (BitVec.ofNat._proof_1 8))⟩⟩⟩, ⟨⟨⟨7, (Nat.mod_lt 7 (BitVec.ofNat._proof_1 8))⟩⟩⟩, ⟨⟨⟨7, (Nat.mod_lt 7 (BitVec.ofNat._proof_1 8))⟩⟩⟩, ⟨⟨⟨7, (Nat.mod_lt 7 (BitVec.ofNat._proof_1 8))⟩⟩⟩, ⟨⟨⟨7, (Nat.mod_lt 7 (BitVec.ofNat._proof_1 8))⟩⟩⟩, ⟨⟨⟨7, (Nat.mod_lt 7 (BitVec.ofNat._proof_1 8))⟩⟩⟩, ⟨⟨⟨7, (Nat.mod_lt 7 (BitVec.ofNat._proof_1 8))⟩⟩⟩, ⟨⟨⟨7, (Nat.mod_lt 7 (BitVec.ofNat._proof_1 8))⟩⟩⟩, ⟨⟨⟨7, (Nat.mod_lt 7 (BitVec.ofNat._proof_1 8))⟩⟩⟩, ⟨⟨⟨7, (Nat.mod_lt 7 (BitVec.ofNat._proof_1 8))⟩⟩⟩, ⟨⟨⟨7, (Nat.mod_lt 7 (BitVec.ofNat._proof_1 8))⟩⟩⟩, ⟨⟨⟨7, (Nat.mod_lt 7 (BitVec.ofNat._proof_1 8))⟩⟩⟩, ⟨⟨⟨7, (Nat.mod_lt 7 (BitVec.ofNat._proof_1 8))⟩⟩⟩, ⟨⟨⟨7, (Nat.mod_lt 7 (BitVec.ofNat._proof_1 8))⟩⟩⟩, ⟨⟨⟨7, (Nat.mod_lt 7 (BitVec.ofNat._proof_1 8))⟩⟩⟩, ⟨⟨⟨7, (Nat.mod_lt 7 (BitVec.ofNat._proof_1 8))⟩⟩⟩, ⟨⟨⟨7, (Nat.mod_lt 7 (BitVec.ofNat._proof_1 8))⟩⟩⟩, ⟨⟨⟨7, (Nat.mod_lt 7 (BitVec.ofNat._proof_1 8))⟩⟩⟩, ⟨⟨⟨7, (Nat.mod_lt 7 (BitVec.ofNat._proof_1 8))⟩⟩⟩, ⟨⟨⟨7, (Nat.mod_lt 7 (BitVec.ofNat._proof_1 8))⟩⟩⟩, ⟨⟨⟨7, (Nat.mod_lt 7 (BitVec.ofNat._proof_1 8))⟩⟩⟩, ⟨⟨⟨7, (Nat.mod_lt 7 (BitVec.ofNat._proof_1 8))⟩⟩⟩, ⟨⟨⟨7, (Nat.mod_lt 7 (BitVec.ofNat._proof_1 8))⟩⟩⟩, ⟨⟨⟨7, (Nat.mod_lt 7 (BitVec.ofNat._proof_1 8))⟩⟩⟩, ⟨⟨⟨7, (Nat.mod_lt 7 (BitVec.ofNat._proof_1 8))⟩⟩⟩, ⟨⟨⟨7, (Nat.mod_lt 7 (BitVec.ofNat._proof_1 8))⟩⟩⟩, ⟨⟨⟨7, (Nat.mod_lt 7 (BitVec.ofNat._proof_1 8))⟩⟩⟩, ⟨⟨⟨7, (Nat.mod_lt 7 (BitVec.ofNat._proof_1 8))⟩⟩⟩, ⟨⟨⟨7, (Nat.mod_lt 7 (BitVec.ofNat._proof_1 8))⟩⟩⟩, ⟨⟨⟨7, (Nat.mod_lt 7 (BitVec.ofNat._proof_1 8))⟩⟩⟩, ⟨⟨⟨7, (Nat.mod_lt 7 (BitVec.ofNat._proof_1 8))⟩⟩⟩, ⟨⟨⟨7, (Nat.mod_lt 7 (BitVec.ofNat._proof_1 8))⟩⟩⟩, ⟨⟨⟨7, (Nat.mod_lt 7 (BitVec.ofNat._proof_1 8))⟩⟩⟩, ⟨⟨⟨7, (Nat.mod_lt 7 (BitVec.ofNat._proof_1 8))⟩⟩⟩, ⟨⟨⟨7, (Nat.mod_lt 7 (BitVec.ofNat._proof_1 8))⟩⟩⟩, ⟨⟨⟨7, (Nat.mod_lt 7 (BitVec.ofNat._proof_1 8))⟩⟩⟩, ⟨⟨⟨7, (Nat.mod_lt 7 (BitVec.ofNat._proof_1 8))⟩⟩⟩, ⟨⟨⟨7, (Nat.mod_lt 7 (BitVec.ofNat._proof_1 8))⟩⟩⟩, ⟨⟨⟨7, (Nat.mod_lt 7 (BitVec.ofNat._proof_1 8))⟩⟩⟩, ⟨⟨⟨7, (Nat.mod_lt 7 (BitVec.ofNat._proof_1 8))⟩⟩⟩, ⟨⟨⟨7, (Nat.mod_lt 7 (BitVec.ofNat._proof_1 8))⟩⟩⟩, ⟨⟨⟨7, (Nat.mod_lt 7 (BitVec.ofNat._proof_1 8))⟩⟩⟩, ⟨⟨⟨7, (Nat.mod_lt 7 (BitVec.ofNat._proof_1 8))⟩⟩⟩, ⟨⟨⟨7, (Nat.mod_lt 7 (BitVec.ofNat._proof_1 8))⟩⟩⟩, ⟨⟨⟨7, (Nat.mod_lt 7 (BitVec.ofNat._proof_1 8))⟩⟩⟩, ⟨⟨⟨7, (Nat.mod_lt 7 (BitVec.ofNat._proof_1 8))⟩⟩⟩, ⟨⟨⟨7, (Nat.mod_lt 7 (BitVec.ofNat._proof_1 8))⟩⟩⟩, ⟨⟨⟨7, (Nat.mod_lt 7 (BitVec.ofNat._proof_1 8))⟩⟩⟩, ⟨⟨⟨7, (Nat.mod_lt 7 (BitVec.ofNat._proof_1 8))⟩⟩⟩, ⟨⟨⟨7, (Nat.mod_lt 7 (BitVec.ofNat._proof_1 8))⟩⟩⟩, ⟨⟨⟨7, (Nat.mod_lt 7 (BitVec.ofNat._proof_1 8))⟩⟩⟩, ⟨⟨⟨7, (Nat.mod_lt 7 (BitVec.ofNat._proof_1 8))⟩⟩⟩, ⟨⟨⟨8, (Nat.mod_lt 8 (BitVec.ofNat._proof_1 8))⟩⟩⟩, ⟨⟨⟨8, (Nat.mod_lt 8 (BitVec.ofNat._proof_1 8))⟩⟩⟩, ⟨⟨⟨8, (Nat.mod_lt 8 (BitVec.ofNat._proof_1 8))⟩⟩⟩, ⟨⟨⟨8, (Nat.mod_lt 8 (BitVec.ofNat._proof_1 8))⟩⟩⟩, ⟨⟨⟨8, (Nat.mod_lt 8 (BitVec.ofNat._proof_1 8))⟩⟩⟩, ⟨⟨⟨8, (Nat.mod_lt 8 (BitVec.ofNat._proof_1 8))⟩⟩⟩, ⟨⟨⟨8, (Nat.mod_lt 8 (BitVec.ofNat._proof_1 8))⟩⟩⟩, ⟨⟨⟨8, (Nat.mod_lt 8 (BitVec.ofNat._proof_1 8))⟩⟩⟩, ⟨⟨⟨8, (Nat.mod_lt 8 (BitVec.ofNat._proof_1 8))⟩⟩⟩, ⟨⟨⟨8, (Nat.mod_lt 8 (BitVec.ofNat._proof_1 8))⟩⟩⟩, ⟨⟨⟨8, (Nat.mod_lt 8 (BitVec.ofNat._proof_1 8))⟩⟩⟩, ⟨⟨⟨8, (Nat.mod_lt 8 (BitVec.ofNat._proof_1 8))⟩⟩⟩, ⟨⟨⟨8, (Nat.mod_lt 8 (BitVec.ofNat._proof_1 8))⟩⟩⟩, ⟨⟨⟨8, (Nat.mod_lt 8 (BitVec.ofNat._proof_1 8))⟩⟩⟩, ⟨⟨⟨8, (Nat.mod_lt 8 (BitVec.ofNat._proof_1 8))⟩⟩⟩, ⟨⟨⟨8, (Nat.mod_lt 8 (BitVec.ofNat._proof_1 8))⟩⟩⟩, ⟨⟨⟨8, (Nat.mod_lt 8 (BitVec.ofNat._proof_1 8))⟩⟩⟩, ⟨⟨⟨8, (Nat.mod_lt 8 (BitVec.ofNat._proof_1 8))⟩⟩⟩, ⟨⟨⟨8, (Nat.mod_lt 8 (BitVec.ofNat._proof_1 8))⟩⟩⟩, ⟨⟨⟨8, (Nat.mod_lt 8 (BitVec.ofNat._proof_1 8))⟩⟩⟩, ⟨⟨⟨8, (Nat.mod_lt 8 (BitVec.ofNat._proof_1 8))⟩⟩⟩, ⟨⟨⟨8, (Nat.mod_lt 8 (BitVec.ofNat._proof_1 8))⟩⟩⟩, ⟨⟨⟨8, (Nat.mod_lt 8 (BitVec.ofNat._proof_1 8))⟩⟩⟩, ⟨⟨⟨8, (Nat.mod_lt 8 (BitVec.ofNat._proof_1 8))⟩⟩⟩, ⟨⟨⟨8, (Nat.mod_lt 8 (BitVec.ofNat._proof_1 8))⟩⟩⟩, ⟨⟨⟨8, (Nat.mod_lt 8 (BitVec.ofNat._proof_1 8))⟩⟩⟩, ⟨⟨⟨8, (Nat.mod_lt 8 (BitVec.ofNat._proof_1 8))⟩⟩⟩, ⟨⟨⟨8, (Nat.mod_lt 8 (BitVec.ofNat._proof_1 8))⟩⟩⟩, ⟨⟨⟨8, (Nat.mod_lt 8 (BitVec.ofNat._proof_1 8))⟩⟩⟩, ⟨⟨⟨8, (Nat.mod_lt 8 (BitVec.ofNat._proof_1 8))⟩⟩⟩, ⟨⟨⟨8, (Nat.mod_lt 8 (BitVec.ofNat._proof_1 8))⟩⟩⟩, ⟨⟨⟨8, (Nat.mod_lt 8 (BitVec.ofNat._proof_1 8))⟩⟩⟩, ⟨⟨⟨8, (Nat.mod_lt 8 (BitVec.ofNat._proof_1 8))⟩⟩⟩, ⟨⟨⟨8, (Nat.mod_lt 8 (BitVec.ofNat._proof_1 8))⟩⟩⟩, ⟨⟨⟨8, (Nat.mod_lt 8 (BitVec.ofNat._proof_1 8))⟩⟩⟩, ⟨⟨⟨8, (Nat.mod_lt 8 (BitVec.ofNat._proof_1 8))⟩⟩⟩, ⟨⟨⟨8, (Nat.mod_lt 8 (BitVec.ofNat._proof_1 8))⟩⟩⟩, ⟨⟨⟨8, (Nat.mod_lt 8 (BitVec.ofNat._proof_1 8))⟩⟩⟩, ⟨⟨⟨8, (Nat.mod_lt 8 (BitVec.ofNat._proof_1 8))⟩⟩⟩, ⟨⟨⟨8, (Nat.mod_lt 8 (BitVec.ofNat._proof_1 8))⟩⟩⟩, ⟨⟨⟨8, (Nat.mod_lt 8 (BitVec.ofNat._proof_1 8))⟩⟩⟩, ⟨⟨⟨8, (Nat.mod_lt 8 (BitVec.ofNat._proof_1 8))⟩⟩⟩, ⟨⟨⟨8, (Nat.mod_lt 8 (BitVec.ofNat._proof_1 8))⟩⟩⟩, ⟨⟨⟨8, (Nat.mod_lt 8 (BitVec.ofNat._proof_1 8))⟩⟩⟩, ⟨⟨⟨8, (Nat.mod_lt 8 (BitVec.ofNat._proof_1 8))⟩⟩⟩, ⟨⟨⟨8, (Nat.mod_lt 8 (BitVec.ofNat._proof_1 8))⟩⟩⟩, ⟨⟨⟨8, (Nat.mod_lt 8 (BitVec.ofNat._proof_1 8))⟩⟩⟩, ⟨⟨⟨8, (Nat.mod_lt 8 (BitVec.ofNat._proof_1 8))⟩⟩⟩, ⟨⟨⟨8, (Nat.mod_lt 8 (BitVec.ofNat._proof_1 8))⟩⟩⟩, ⟨⟨⟨8, (Nat.mod_lt 8 (BitVec.ofNat._proof_1 8))⟩⟩⟩, ⟨⟨⟨8, (Nat.mod_lt 8 (BitVec.ofNat._proof_1 8))⟩⟩⟩, ⟨⟨⟨8, (Nat.mod_lt 8 (BitVec.ofNat._proof_1 8))⟩⟩⟩, ⟨⟨⟨8, (Nat.mod_lt 8 (BitVec.ofNat._proof_1 8))⟩⟩⟩, ⟨⟨⟨8, (Nat.mod_lt 8 (BitVec.ofNat._proof_1 8))⟩⟩⟩, ⟨⟨⟨8, (Nat.mod_lt 8 (BitVec.ofNat._proof_1 8))⟩⟩⟩, ⟨⟨⟨8, (Nat.mod_lt 8 (BitVec.ofNat._proof_1 8))⟩⟩⟩, ⟨⟨⟨8, (Nat.mod_lt 8 (BitVec.ofNat._proof_1 8))⟩⟩⟩, ⟨⟨⟨8, (Nat.mod_lt 8 (BitVec.ofNat._proof_1 8))⟩⟩⟩, ⟨⟨⟨8, (Nat.mod_lt 8 (BitVec.ofNat._proof_1 8))⟩⟩⟩, ⟨⟨⟨8, (Nat.mod_lt 8 (BitVec.ofNat._proof_1 8))⟩⟩⟩, ⟨⟨⟨8, (Nat.mod_lt 8 (BitVec.ofNat._proof_1 8))⟩⟩⟩, ⟨⟨⟨8, (Nat.mod_lt 8 (BitVec.ofNat._proof_1 8))⟩⟩⟩, ⟨⟨⟨8, (Nat.mod_lt 8 (BitVec.ofNat._proof_1 8))⟩⟩⟩, ⟨⟨⟨8, (Nat.mod_lt 8 (BitVec.ofNat._proof_1 8))⟩⟩⟩, ⟨⟨⟨8, (Nat.mod_lt 8 (BitVec.ofNat._proof_1 8))⟩⟩⟩, ⟨⟨⟨8, (Nat.mod_lt 8 (BitVec.ofNat._proof_1 8))⟩⟩⟩, ⟨⟨⟨8, (Nat.mod_lt 8 (BitVec.ofNat._proof_1 8))⟩⟩⟩, ⟨⟨⟨8, (Nat.mod_lt 8 (BitVec.ofNat._proof_1 8))⟩⟩⟩, ⟨⟨⟨8, (Nat.mod_lt 8 (BitVec.ofNat._proof_1 8))⟩⟩⟩, ⟨⟨⟨8, (Nat.mod_lt 8 (BitVec.ofNat._proof_1 8))⟩⟩⟩, ⟨⟨⟨8, (Nat.mod_lt 8 (BitVec.ofNat._proof_1 8))⟩⟩⟩, ⟨⟨⟨8, (Nat.mod_lt 8 (BitVec.ofNat._proof_1 8))⟩⟩⟩, ⟨⟨⟨8, (Nat.mod_lt 8 (BitVec.ofNat._proof_1 8))⟩⟩⟩, ⟨⟨⟨8, (Nat.mod_lt 8 (BitVec.ofNat._proof_1 8))⟩⟩⟩, ⟨⟨⟨8, (Nat.mod_lt 8 (BitVec.ofNat._proof_1 8))⟩⟩⟩, ⟨⟨⟨8, (Nat.mod_lt 8 (BitVec.ofNat._proof_1 8))⟩⟩⟩, ⟨⟨⟨8, (Nat.mod_lt 8 (BitVec.ofNat._proof_1 8))⟩⟩⟩, ⟨⟨⟨8, (Nat.mod_lt 8 (BitVec.ofNat._proof_1 8))⟩⟩⟩, ⟨⟨⟨8, (Nat.mod_lt 8 (BitVec.ofNat._proof_1 8))⟩⟩⟩, ⟨⟨⟨8, (Nat.mod_lt 8 (BitVec.ofNat._proof_1 8))⟩⟩⟩, ⟨⟨⟨8, (Nat.mod_lt 8 (BitVec.ofNat._proof_1 8))⟩⟩⟩, ⟨⟨⟨8, (Nat.mod_lt 8 (BitVec.ofNat._proof_1 8))⟩⟩⟩, ⟨⟨⟨8, (Nat.mod_lt 8 (BitVec.ofNat._proof_1 8))⟩⟩⟩, ⟨⟨⟨8, (Nat.mod_lt 8 (BitVec.ofNat._proof_1 8))⟩⟩⟩, ⟨⟨⟨8, (Nat.mod_lt 8 (BitVec.ofNat._proof_1 8))⟩⟩⟩, ⟨⟨⟨8, (Nat.mod_lt 8 (BitVec.ofNat._proof_1 8))⟩⟩⟩, ⟨⟨⟨8, (Nat.mod_lt 8 (BitVec.ofNat._proof_1 8))⟩⟩⟩, ⟨⟨⟨8, (Nat.mod_lt 8 (BitVec.ofNat._proof_1 8))⟩⟩⟩, ⟨⟨⟨8, (Nat.mod_lt 8 (BitVec.ofNat._proof_1 8))⟩⟩⟩, ⟨⟨⟨8, (Nat.mod_lt 8 (BitVec.ofNat._proof_1 8))⟩⟩⟩, ⟨⟨⟨8, (Nat.mod_lt 8 (BitVec.ofNat._proof_1 8))⟩⟩⟩, ⟨⟨⟨8, (Nat.mod_lt 8 (BitVec.ofNat._proof_1 8))⟩⟩⟩, ⟨⟨⟨8, (Nat.mod_lt 8 (BitVec.ofNat._proof_1 8))⟩⟩⟩, ⟨⟨⟨8, (Nat.mod_lt 8 (BitVec.ofNat._proof_1 8))⟩⟩⟩, ⟨⟨⟨8, (Nat.mod_lt 8 (BitVec.ofNat._proof_1 8))⟩⟩⟩, ⟨⟨⟨8, (Nat.mod_lt 8 (BitVec.ofNat._proof_1 8))⟩⟩⟩, ⟨⟨⟨8, (Nat.mod_lt 8 (BitVec.ofNat._proof_1 8))⟩⟩⟩, ⟨⟨⟨8, (Nat.mod_lt 8 (BitVec.ofNat._proof_1 8))⟩⟩⟩, ⟨⟨⟨8, (Nat.mod_lt 8 (BitVec.ofNat._proof_1 8))⟩⟩⟩, ⟨⟨⟨8, (Nat.mod_lt 8 (BitVec.ofNat._proof_1 8))⟩⟩⟩, ⟨⟨⟨8, (Nat.mod_lt 8 (BitVec.ofNat._proof_1 8))⟩⟩⟩, ⟨⟨⟨8, (Nat.mod_lt 8 (BitVec.ofNat._proof_1 8))⟩⟩⟩, ⟨⟨⟨8, (Nat.mod_lt 8 (BitVec.ofNat._proof_1 8))⟩⟩⟩, ⟨⟨⟨8, (Nat.mod_lt 8 (BitVec.ofNat._proof_1 8))⟩⟩⟩, ⟨⟨⟨8, (Nat.mod_lt 8 (BitVec.ofNat._proof_1 8))⟩⟩⟩, ⟨⟨⟨8, (Nat.mod_lt 8 (BitVec.ofNat._proof_1 8))⟩⟩⟩, ⟨⟨⟨8, (Nat.mod_lt 8 (BitVec.ofNat._proof_1 8))⟩⟩⟩, ⟨⟨⟨8, (Nat.mod_lt 8 (BitVec.ofNat._proof_1 8))⟩⟩⟩, ⟨⟨⟨8, (Nat.mod_lt 8 (BitVec.ofNat._proof_1 8))⟩⟩⟩, ⟨⟨⟨8, (Nat.mod_lt 8 (BitVec.ofNat._proof_1 8))⟩⟩⟩, ⟨⟨⟨8, (Nat.mod_lt 8 (BitVec.ofNat._proof_1 8))⟩⟩⟩, ⟨⟨⟨8, (Nat.mod_lt 8 (BitVec.ofNat._proof_1 8))⟩⟩⟩, ⟨⟨⟨8, (Nat.mod_lt 8 (BitVec.ofNat._proof_1 8))⟩⟩⟩, ⟨⟨⟨8, (Nat.mod_lt 8 (BitVec.ofNat._proof_1 8))⟩⟩⟩, ⟨⟨⟨8, (Nat.mod_lt 8 (BitVec.ofNat._proof_1 8))⟩⟩⟩, ⟨⟨⟨8, (Nat.mod_lt 8 (BitVec.ofNat._proof_1 8))⟩⟩⟩, ⟨⟨⟨8, (Nat.mod_lt 8 (BitVec.ofNat._proof_1 8))⟩⟩⟩, ⟨⟨⟨8, (Nat.mod_lt 8 (BitVec.ofNat._proof_1 8))⟩⟩⟩, ⟨⟨⟨8, (Nat.mod_lt 8 (BitVec.ofNat._proof_1 8))⟩⟩⟩, ⟨⟨⟨8, (Nat.mod_lt 8 (BitVec.ofNat._proof_1 8))⟩⟩⟩, ⟨⟨⟨8, (Nat.mod_lt 8 (BitVec.ofNat._proof_1 8))⟩⟩⟩, ⟨⟨⟨8, (Nat.mod_lt 8 (BitVec.ofNat._proof_1 8))⟩⟩⟩, ⟨⟨⟨8, (Nat.mod_lt 8 (BitVec.ofNat._proof_1 8))⟩⟩⟩, ⟨⟨⟨8, (Nat.mod_lt 8 (BitVec.ofNat._proof_1 8))⟩⟩⟩, ⟨⟨⟨8, (Nat.mod_lt 8 (BitVec.ofNat._proof_1 8))⟩⟩⟩, ⟨⟨⟨8, (Nat.mod_lt 8 (BitVec.ofNat._proof_1 8))⟩⟩⟩, ⟨⟨⟨8, (Nat.mod_lt 8 (BitVec.ofNat._proof_1 8))⟩⟩⟩, ⟨⟨⟨8, (Nat.mod_lt 8 (BitVec.ofNat._proof_1 8))⟩⟩⟩] (Int.toNat (IntKind.wrap .u8 (shrI .u64 x2 (8 : Int)))) ⟨⟨⟨0, (Nat.mod_lt 0 (BitVec.ofNat._proof_1 8))⟩⟩⟩)) : Nat) : Int)))) h2))
 else
 (((0 : Int) ≤ (IntKind.wrap .u8 x2) ∧ (IntKind.wrap .u8 x2) < (256 : Int)) ∧ Q (IntKind.wrap .i64 (n1 + (IntKind.wrap .i64 (((UInt8.toNat (List.getD [⟨⟨⟨0, (Nat.mod_lt 0 (BitVec.ofNat._proof_1 8))⟩⟩⟩, ⟨⟨⟨1, (Nat.mod_lt 1 (BitVec.ofNat._proof_1 8))⟩⟩⟩, ⟨⟨⟨2, (Nat.mod_lt 2 (BitVec.ofNat._proof_1 8))⟩⟩⟩, ⟨⟨⟨2, (Nat.mod_lt 2 (BitVec.ofNat._proof_1 8))⟩⟩⟩, ⟨⟨⟨3, (Nat.mod_lt 3 (BitVec.ofNat._proof_1 8))⟩⟩⟩, ⟨⟨⟨3, (Nat.mod_lt 3 (BitVec.ofNat._proof_1 8))⟩⟩⟩, ⟨⟨⟨3, (Nat.mod_lt 3 (BitVec.ofNat._proof_1 8))⟩⟩⟩, ⟨⟨⟨3, (Nat.mod_lt 3 (BitVec.ofNat._proof_1 8))⟩⟩⟩, ⟨⟨⟨4, (Nat.mod_lt 4 (BitVec.ofNat._proof_1 8))⟩⟩⟩, ⟨⟨⟨4, (Nat.mod_lt 4 (BitVec.ofNat._proof_1 8))⟩⟩⟩, ⟨⟨⟨4, (Nat.mod_lt 4 (BitVec.ofNat._proof_1 8))⟩⟩⟩, ⟨⟨⟨4, (Nat.mod_lt 4 (BitVec.ofNat._proof_1 8))⟩⟩⟩, ⟨⟨⟨4, (Nat.mod_lt 4 (BitVec.ofNat._proof_1 8))⟩⟩⟩, ⟨⟨⟨4, (Nat.mod_lt 4 (BitVec.ofNat._proof_1 8))⟩⟩⟩, ⟨⟨⟨4, (Nat.mod_lt 4 (BitVec.ofNat._proof_1 8))⟩⟩⟩, ⟨⟨⟨4, (Nat.mod_lt 4 (BitVec.ofNat._proof_1 8))⟩⟩⟩, ⟨⟨⟨5, (Nat.mod_lt 5 (BitVec.ofNat._proof_1 8))⟩⟩⟩, ⟨⟨⟨5, (Nat.mod_lt 5 (BitVec.ofNat._proof_1 8))⟩⟩⟩, ⟨⟨⟨5, (Nat.mod_lt 5 (BitVec.ofNat._proof_1 8))⟩⟩⟩, ⟨⟨⟨5, (Nat.mod_lt 5 (BitVec.ofNat._proof_1 8))⟩⟩⟩, ⟨⟨⟨5, (Nat.mod_lt 5 (BitVec.ofNat._proof_1 8))⟩⟩⟩, ⟨⟨⟨5, (Nat.mod_lt 5 (BitVec.ofNat._proof_1 8))⟩⟩⟩, ⟨⟨⟨5, (Nat.mod_lt 5 (BitVec.ofNat._proof_1 8))⟩⟩⟩, ⟨⟨⟨5, (Nat.mod_lt 5 (BitVec.ofNat._proof_1 8))⟩⟩⟩, ⟨⟨⟨5, (Nat.mod_lt 5 (BitVec.ofNat._proof_1 8))⟩⟩⟩, ⟨⟨⟨5, (Nat.mod_lt 5 (BitVec.ofNat._proof_1 8))⟩⟩⟩, ⟨⟨⟨5, (Nat.mod_lt 5 (BitVec.ofNat._proof_1 8))⟩⟩⟩, ⟨⟨⟨5, (Nat.mod_lt 5 (BitVec.ofNat._proof_1 8))⟩⟩⟩, ⟨⟨⟨5, (Nat.mod_lt 5 (BitVec.ofNat._proof_1 8))⟩⟩⟩, ⟨⟨⟨5, (Nat.mod_lt 5 (BitVec.ofNat._proof_1 8))⟩⟩⟩, ⟨⟨⟨5, (Nat.mod_lt 5 (BitVec.ofNat._proof_1 8))⟩⟩⟩, ⟨⟨⟨5, (Nat.mod_lt 5 (BitVec.ofNat._proof_1 8))⟩⟩⟩, ⟨⟨⟨6, (Nat.mod_lt 6 (BitVec.ofNat._proof_1 8))⟩⟩⟩, ⟨⟨⟨6, (Nat.mod_lt 6 (BitVec.ofNat._proof_1 8))⟩⟩⟩, ⟨⟨⟨6, (Nat.mod_lt 6 (BitVec.ofNat._proof_1 8))⟩⟩⟩, ⟨⟨⟨6, (Nat.mod_lt 6 (BitVec.ofNat._proof_1 8))⟩⟩⟩, ⟨⟨⟨6, (Nat.mod_lt 6 (BitVec.ofNat._proof_1 8))⟩⟩⟩, ⟨⟨⟨6, (Nat.mod_lt 6 (BitVec.ofNat._proof_1 8))⟩⟩⟩, ⟨⟨⟨6, (Nat.mod_lt 6 (BitVec.ofNat._proof_1 8))⟩⟩⟩, ⟨⟨⟨6, (Nat.mod_lt 6 (BitVec.ofNat._proof_1 8))⟩⟩⟩, ⟨⟨⟨6, (Nat.mod_lt 6 (BitVec.ofNat._proof_1 8))⟩⟩⟩, ⟨⟨⟨6, (Nat.mod_lt 6 (BitVec.ofNat._proof_1 8))⟩⟩⟩, ⟨⟨⟨6, (Nat.mod_lt 6 (BitVec.ofNat._proof_1 8))⟩⟩⟩, ⟨⟨⟨6, (Nat.mod_lt 6 (BitVec.ofNat._proof_1 8))⟩⟩⟩, ⟨⟨⟨6, (Nat.mod_lt 6 (BitVec.ofNat._proof_1 8))⟩⟩⟩, ⟨⟨⟨6, (Nat.mod_lt 6 (BitVec.ofNat._proof_1 8))⟩⟩⟩, ⟨⟨⟨6, (Nat.mod_lt 6 (BitVec.ofNat._proof_1 8))⟩⟩⟩, ⟨⟨⟨6, (Nat.mod_lt 6 (BitVec.ofNat._proof_1 8))⟩⟩⟩, ⟨⟨⟨6, (Nat.mod_lt 6 (BitVec.ofNat._proof_1 8))⟩⟩⟩, ⟨⟨⟨6, (Nat.mod_lt 6 (BitVec.ofNat._proof_1 8))⟩⟩⟩, ⟨⟨⟨6, (Nat.mod_lt 6 (BitVec.ofNat._proof_1 8))⟩⟩⟩, ⟨⟨⟨6, (Nat.mod_lt 6 (BitVec.ofNat._proof_1 8))⟩⟩⟩, ⟨⟨⟨6, (Nat.mod_lt 6 (BitVec.ofNat._proof_1 8))⟩⟩⟩, ⟨⟨⟨6, (Nat.mod_lt 6 (BitVec.ofNat._proof_1 8))⟩⟩⟩, ⟨⟨⟨6, (Nat.mod_lt 6 (BitVec.ofNat._proof_1 8))⟩⟩⟩, ⟨⟨⟨6, (Nat.mod_lt 6 (BitVec.ofNat._proof_1 8))⟩⟩⟩, ⟨⟨⟨6, (Nat.mod_lt 6 (BitVec.ofNat._proof_1 8))⟩⟩⟩, ⟨⟨⟨6, (Nat.mod_lt 6 (BitVec.ofNat._proof_1 8))⟩⟩⟩, ⟨⟨⟨6, (Nat.mod_lt 6 (BitVec.ofNat._proof_1 8))⟩⟩⟩, ⟨⟨⟨6, (Nat.mod_lt 6 (BitVec.ofNat._proof_1 8))⟩⟩⟩, ⟨⟨⟨6, (Nat.mod_lt 6 (BitVec.ofNat._proof_1 8))⟩⟩⟩, ⟨⟨⟨6, (Nat.mod_lt 6 (BitVec.ofNat._proof_1 8))⟩⟩⟩, ⟨⟨⟨6, (Nat.mod_lt 6 (BitVec.ofNat._proof_1 8))⟩⟩⟩, ⟨⟨⟨6, (Nat.mod_lt 6 (BitVec.ofNat._proof_1 8))⟩⟩⟩, ⟨⟨⟨7, (Nat.mod_lt 7 (BitVec.ofNat._proof_1 8))⟩⟩⟩, ⟨⟨⟨7, (Nat.mod_lt 7 (BitVec.ofNat._proof_1 8))⟩⟩⟩, ⟨⟨⟨7, (Nat.mod_lt 7 (BitVec.ofNat._proof_1 8))⟩⟩⟩, ⟨⟨⟨7, (Nat.mod_lt 7 (BitVec.ofNat._proof_1 8))⟩⟩⟩, ⟨⟨⟨7, (Nat.mod_lt 7 (BitVec.ofNat._proof_1 8))⟩⟩⟩, ⟨⟨⟨7, (Nat.mod_lt 7 (BitVec.ofNat._proof_1 8))⟩⟩⟩, ⟨⟨⟨7, (Nat.mod_lt 7 (BitVec.ofNat._proof_1 8))⟩⟩⟩, ⟨⟨⟨7, (Nat.mod_lt 7 (BitVec.ofNat._proof_1 8))⟩⟩⟩, ⟨⟨⟨7, (Nat.mod_lt 7 (BitVec.ofNat._proof_1 8))⟩⟩⟩, ⟨⟨⟨7, (Nat.mod_lt 7 (BitVec.ofNat._proof_1 8))⟩⟩⟩, ⟨⟨⟨7, (Nat.mod_lt 7 (BitVec.ofNat._proof_1 8))⟩⟩⟩, ⟨⟨⟨7, (Nat.mod_lt 7 (BitVec.ofNat._proof_1 8))⟩⟩⟩, ⟨⟨⟨7, (Nat.mod_lt 7 (BitVec.ofNat._proof_1 8))⟩⟩⟩, ⟨⟨⟨7, (Nat.mod_lt 7 (BitVec.ofNat._proof_1 8))⟩⟩⟩, ⟨⟨⟨7, (Nat.mod_lt 7 (BitVec.ofNat._proof_1 8))⟩⟩⟩, ⟨⟨⟨7, (Nat.mod_lt 7 (BitVec.ofNat._proof_1 8))⟩⟩⟩, ⟨⟨⟨7, (Nat.mod_lt 7 (BitVec.ofNat._proof_1 8))⟩⟩⟩, ⟨⟨⟨7, (Nat.mod_lt 7 (BitVec.ofNat._proof_1 8))⟩⟩⟩, ⟨⟨⟨7, (Nat.mod_lt 7 (BitVec.ofNat._proof_1 8))⟩⟩⟩, ⟨⟨⟨7, (Nat.mod_lt 7 (BitVec.ofNat._proof_1 8))⟩⟩⟩, ⟨⟨⟨7, (Nat.mod_lt 7 (BitVec.ofNat._proof_1 8))⟩⟩⟩, ⟨⟨⟨7, (Nat.mod_lt 7 (BitVec.ofNat._proof_1 8))⟩⟩⟩, ⟨⟨⟨7, (Nat.mod_lt 7 (BitVec.ofNat._proof_1 8))⟩⟩⟩, ⟨⟨⟨7, (Nat.mod_lt 7 (BitVec.ofNat._proof_1 8))⟩⟩⟩, ⟨⟨⟨7, (Nat.mod_lt 7 (BitVec.ofNat._proof_1 8))⟩⟩⟩, ⟨⟨⟨7, (Nat.mod_lt 7 (BitVec.ofNat._proof_1 8))⟩⟩⟩, ⟨⟨⟨7, (Nat.mod_lt 7 (BitVec.ofNat._proof_1 8))⟩⟩⟩, ⟨⟨⟨7, (Nat.mod_lt 7 (BitVec.ofNat._proof_1 8))⟩⟩⟩, ⟨⟨⟨7, (Nat.mod_lt 7 (BitVec.ofNat._proof_1 8))⟩⟩⟩, ⟨⟨⟨7, (Nat.mod_lt 7 (BitVec.ofNat._proof_1 8))⟩⟩⟩, ⟨⟨⟨7, (Nat.mod_lt 7 (BitVec.ofNat._proof_1 8))⟩⟩⟩, ⟨⟨⟨7, (Nat.mod_lt 7 (BitVec.ofNat._proof_1 8))⟩⟩⟩, ⟨⟨⟨7, (Nat.mod_lt 7 (BitVec.ofNat._proof_1 8))⟩⟩⟩, ⟨⟨⟨7, (Nat.mod_lt 7 (BitVec.ofNat._proof_1 8))⟩⟩⟩, ⟨⟨⟨7, (Nat.mod_lt 7 (BitVec.ofNat._proof_1 8))⟩⟩⟩, ⟨⟨⟨7, (Nat.mod_lt 7 (BitVec.ofNat._proof_1 8))⟩⟩⟩, ⟨⟨⟨7, (Nat.mod_lt 7 (BitVec.ofNat._proof_1 8))⟩⟩⟩, ⟨⟨⟨7, (Nat.mod_lt 7 (BitVec.ofNat._proof_1 8))⟩⟩⟩, ⟨⟨⟨7, (Nat.mod_lt 7 (BitVec.ofNat._proof_1 8))⟩⟩⟩, ⟨⟨⟨7, (Nat.mod_lt 7 (BitVec.ofNat._proof_1 8))⟩⟩⟩, ⟨⟨⟨7, (Nat.mod_lt 7 (BitVec.ofNat._proof_1 8))⟩⟩⟩, ⟨⟨⟨7, (Nat.mod_lt 7 (BitVec.ofNat._proof_1 8))⟩⟩⟩, ⟨⟨⟨7, (Nat.mod_lt 7 (BitVec.ofNat._proof_1 8))⟩⟩⟩, ⟨⟨⟨7, (Nat.mod_lt 7 (BitVec.ofNat._proof_1 8))⟩⟩⟩, ⟨⟨⟨7, (Nat.mod_lt 7 (BitVec.ofNat._proof_1 8))⟩⟩⟩, ⟨⟨⟨7, (Nat.mod_lt 7 (BitVec.ofNat._proof_1 8))⟩⟩⟩, ⟨⟨⟨7, (Nat.mod_lt 7 (BitVec.ofNat._proof_1 8))⟩⟩⟩, ⟨⟨⟨7, (Nat.mod_lt 7 (BitVec.ofNat._proof_1 8))⟩⟩⟩, ⟨⟨⟨7, (Nat.mod_lt 7 (BitVec.ofNat._proof_1 8))⟩⟩⟩, ⟨⟨⟨7, (Nat.mod_lt 7 (BitVec.ofNat._proof_1 8))⟩⟩⟩, ⟨⟨⟨7, (Nat.mod_lt 7 (BitVec.ofNat._proof_1 8))⟩⟩⟩, ⟨⟨⟨7, (Nat.mod_lt 7 (BitVec.ofNat._proof_1 8))⟩⟩⟩, ⟨⟨⟨7, (Nat.mod_lt 7 (BitVec.ofNat._proof_1 8))⟩⟩⟩, ⟨⟨⟨7, (Nat.mod_lt 7 (BitVec.ofNat._proof_1 8))⟩⟩⟩, ⟨⟨⟨7, (Nat.mod_lt 7 (BitVec.ofNat._proof_1 8))⟩⟩⟩, ⟨⟨⟨7, (Nat.mod_lt 7 (BitVec.ofNat._proof_1 8))⟩⟩⟩, ⟨⟨⟨7, (Nat.mod_lt 7 (BitVec.ofNat._proof_1 8))⟩⟩⟩, ⟨⟨⟨7, (Nat.mod_lt 7 (BitVec.ofNat._proof_1 8))⟩⟩⟩, ⟨⟨⟨7, (Nat.mod_lt 7 (BitVec.ofNat._proof_1 8))⟩⟩⟩, ⟨⟨⟨7, (Nat.mod_lt 7 (BitVec.ofNat._proof_1 8))⟩⟩⟩, ⟨⟨⟨7, (Nat.mod_lt 7 (BitVec.ofNat._proof_1 8))⟩⟩⟩, ⟨⟨⟨7, (Nat.mod_lt 7 (BitVec.ofNat._proof_1 8))⟩⟩⟩, ⟨⟨⟨7, (Nat.mod_lt 7 (BitVec.ofNat._proof_1 8))⟩⟩⟩, ⟨⟨⟨7, (Nat.mod_lt 7 (BitVec.ofNat._proof_1 8))⟩⟩⟩, ⟨⟨⟨8, (Nat.mod_lt 8 (BitVec.ofNat._proof_1 8))⟩⟩⟩, ⟨⟨⟨8, (Nat.mod_lt 8 (BitVec.ofNat._proof_1 8))⟩⟩⟩, ⟨⟨⟨8, (Nat.mod_lt 8 (BitVec.ofNat._proof_1 8))⟩⟩⟩, ⟨⟨⟨8, (Nat.mod_lt 8 (BitVec.ofNat._proof_1 8))⟩⟩⟩, ⟨⟨⟨8, (Nat.mod_lt 8 (BitVec.ofNat._proof_1 8))⟩⟩⟩, ⟨⟨⟨8, (Nat.mod_lt 8 (BitVec.ofNat._proof_1 8))⟩⟩⟩, ⟨⟨⟨8, (Nat.mod_lt 8 (BitVec.ofNat._proof_1 8))⟩⟩⟩, ⟨⟨⟨8, (Nat.mod_lt 8 (BitVec.ofNat._proof_1 8))⟩⟩⟩, ⟨⟨⟨8, (Nat.mod_lt 8 (BitVec.ofNat._proof_1 8))⟩⟩⟩, ⟨⟨⟨8, (Nat.mod_lt 8 (BitVec.ofNat._proof_1 8))⟩⟩⟩, ⟨⟨⟨8, (Nat.mod_lt 8 (BitVec.ofNat._proof_1 8))⟩⟩⟩, ⟨⟨⟨8, (Nat.mod_lt 8 (BitVec.ofNat._proof_1 8))⟩⟩⟩, ⟨⟨⟨8, (Nat.mod_lt 8 (BitVec.ofNat._proof_1 8))⟩⟩⟩, ⟨⟨⟨8, (Nat.mod_lt 8 (BitVec.ofNat._proof_1 8))⟩⟩⟩, ⟨⟨⟨8, (Nat.mod_lt 8 (BitVec.ofNat._proof_1 8))⟩⟩⟩, ⟨⟨⟨8, (Nat.mod_lt 8 (BitVec.ofNat._proof_1 8))⟩⟩⟩, ⟨⟨⟨8, (Nat.mod_lt 8 (BitVec.ofNat._proof_1 8))⟩⟩⟩, ⟨⟨⟨8, (Nat.mod_lt 8 (BitVec.ofNat._proof_1 8))⟩⟩⟩, ⟨⟨⟨8, (Nat.mod_lt 8 (BitVec.ofNat._proof_1 8))⟩⟩⟩, ⟨⟨⟨8, (Nat.mod_lt 8 (BitVec.ofNat._proof_1 8))⟩⟩⟩, ⟨⟨⟨8, (Nat.mod_lt 8 (BitVec.ofNat._proof_1 8))⟩⟩⟩, ⟨⟨⟨8, (Nat.mod_lt 8 (BitVec.ofNat._proof_1 8))⟩⟩⟩, ⟨⟨⟨8, (Nat.mod_lt 8 (BitVec.ofNat._proof_1 8))⟩⟩⟩, ⟨⟨⟨8, (Nat.mod_lt 8 (BitVec.ofNat._proof_1 8))⟩⟩⟩, ⟨⟨⟨8, (Nat.mod_lt 8 (BitVec.ofNat._proof_1 8))⟩⟩⟩, ⟨⟨⟨8, (Nat.mod_lt 8 (BitVec.ofNat._proof_1 8))⟩⟩⟩, ⟨⟨⟨8, (Nat.mod_lt 8 (BitVec.ofNat._proof_1 8))⟩⟩⟩, ⟨⟨⟨8, (Nat.mod_lt 8 (BitVec.ofNat._proof_1 8))⟩⟩⟩, ⟨⟨⟨8, (Nat.mod_lt 8 (BitVec.ofNat._proof_1 8))⟩⟩⟩, ⟨⟨⟨8, (Nat.mod_lt 8 (BitVec.ofNat._proof_1 8))⟩⟩⟩, ⟨⟨⟨8, (Nat.mod_lt 8 (BitVec.ofNat._proof_1 8))⟩⟩⟩, ⟨⟨⟨8, (Nat.mod_lt 8 (BitVec.ofNat._proof_1 8))⟩⟩⟩, ⟨⟨⟨8, (Nat.mod_lt 8 (BitVec.ofNat._proof_1 8))⟩⟩⟩, ⟨⟨⟨8, (Nat.mod_lt 8 (BitVec.ofNat._proof_1 8))⟩⟩⟩, ⟨⟨⟨8, (Nat.mod_lt 8 (BitVec.ofNat._proof_1 8))⟩⟩⟩, ⟨⟨⟨8, (Nat.mod_lt 8 (BitVec.ofNat._proof_1 8))⟩⟩⟩, ⟨⟨⟨8, (Nat.mod_lt 8 (BitVec.ofNat._proof_1 8))⟩⟩⟩, ⟨⟨⟨8, (Nat.mod_lt 8 (BitVec.ofNat._proof_1 8))⟩⟩⟩, ⟨⟨⟨8, (Nat.mod_lt 8 (BitVec.ofNat._proof_1 8))⟩⟩⟩, ⟨⟨⟨8, (Nat.mod_lt 8 (BitVec.ofNat._proof_1 8))⟩⟩⟩, ⟨⟨⟨8, (Nat.mod_lt 8 (BitVec.ofNat._proof_1 8))⟩⟩⟩, ⟨⟨⟨8, (Nat.mod_lt 8 (BitVec.ofNat._proof_1 8))⟩⟩⟩, ⟨⟨⟨8, (Nat.mod_lt 8 (BitVec.ofNat._proof_1 8))⟩⟩⟩, ⟨⟨⟨8, (Nat.mod_lt 8 (BitVec.ofNat._proof_1 8))⟩⟩⟩, ⟨⟨⟨8, (Nat.mod_lt 8 (BitVec.ofNat._proof_1 8))⟩⟩⟩, ⟨⟨⟨8, (Nat.mod_lt 8 (BitVec.ofNat._proof_1 8))⟩⟩⟩, ⟨⟨⟨8, (Nat.mod_lt 8 (BitVec.ofNat._proof_1 8))⟩⟩⟩, ⟨⟨⟨8, (Nat.mod_lt 8 (BitVec.ofNat._proof_1 8))⟩⟩⟩, ⟨⟨⟨8, (Nat.mod_lt 8 (BitVec.ofNat._proof_1 8))⟩⟩⟩, ⟨⟨⟨8, (Nat.mod_lt 8 (BitVec.ofNat._proof_1 8))⟩⟩⟩, ⟨⟨⟨8, (Nat.mod_lt 8 (BitVec.ofNat._proof_1 8))⟩⟩⟩, ⟨⟨⟨8, (Nat.mod_lt 8 (BitVec.ofNat._proof_1 8))⟩⟩⟩, ⟨⟨⟨8, (Nat.mod_lt 8 (BitVec.ofNat._proof_1 8))⟩⟩⟩, ⟨⟨⟨8, (Nat.mod_lt 8 (BitVec.ofNat._proof_1 8))⟩⟩⟩, ⟨⟨⟨8, (Nat.mod_lt 8 (BitVec.ofNat._proof_1 8))⟩⟩⟩, ⟨⟨⟨8, (Nat.mod_lt 8 (BitVec.ofNat._proof_1 8))⟩⟩⟩, ⟨⟨⟨8, (Nat.mod_lt 8 (BitVec.ofNat._proof_1 8))⟩⟩⟩, ⟨⟨⟨8, (Nat.mod_lt 8 (BitVec.ofNat._proof_1 8))⟩⟩⟩, ⟨⟨⟨8, (Nat.mod_lt 8 (BitVec.ofNat._proof_1 8))⟩⟩⟩, ⟨⟨⟨8, (Nat.mod_lt 8 (BitVec.ofNat._proof_1 8))⟩⟩⟩, ⟨⟨⟨8, (Nat.mod_lt 8 (BitVec.ofNat._proof_1 8))⟩⟩⟩, ⟨⟨⟨8, (Nat.mod_lt 8 (BitVec.ofNat._proof_1 8))⟩⟩⟩, ⟨⟨⟨8, (Nat.mod_lt 8 (BitVec.ofNat._proof_1 8))⟩⟩⟩, ⟨⟨⟨8, (Nat.mod_lt 8 (BitVec.ofNat._proof_1 8))⟩⟩⟩, ⟨⟨⟨8, (Nat.mod_lt 8 (BitVec.ofNat._proof_1 8))⟩⟩⟩, ⟨⟨⟨8, (Nat.mod_lt 8 (BitVec.ofNat._proof_1 8))⟩⟩⟩, ⟨⟨⟨8, (Nat.mod_lt 8 (BitVec.ofNat._proof_1 8))⟩⟩⟩, ⟨⟨⟨8, (Nat.mod_lt 8 (BitVec.ofNat._proof_1 8))⟩⟩⟩, ⟨⟨⟨8, (Nat.mod_lt 8 (BitVec.ofNat._proof_1 8))⟩⟩⟩, ⟨⟨⟨8, (Nat.mod_lt 8 (BitVec.ofNat._proof_1 8))⟩⟩⟩, ⟨⟨⟨8, (Nat.mod_lt 8 (BitVec.ofNat._proof_1 8))⟩⟩⟩, ⟨⟨⟨8, (Nat.mod_lt 8 (BitVec.ofNat._proof_1 8))⟩⟩⟩, ⟨⟨⟨8, (Nat.mod_lt 8 (BitVec.ofNat._proof_1 8))⟩⟩⟩, ⟨⟨⟨8, (Nat.mod_lt 8 (BitVec.ofNat._proof_1 8))⟩⟩⟩, ⟨⟨⟨8, (Nat.mod_lt 8 (BitVec.ofNat._proof_1 8))⟩⟩⟩, ⟨⟨⟨8, (Nat.mod_lt 8 (BitVec.ofNat._proof_1 8))⟩⟩⟩, ⟨⟨⟨8, (Nat.mod_lt 8 (BitVec.ofNat._proof_1 8))⟩⟩⟩, ⟨⟨⟨8, (Nat.mod_lt 8 (BitVec.ofNat._proof_1 8))⟩⟩⟩, ⟨⟨⟨8, (Nat.mod_lt 8 (BitVec.ofNat._proof_1 8))⟩⟩⟩, ⟨⟨⟨8, (Nat.mod_lt 8 (BitVec.ofNat._proof_1 8))⟩⟩⟩, ⟨⟨⟨8, (Nat.mod_lt 8 (BitVec.ofNat._proof_1 8))⟩⟩⟩, ⟨⟨⟨8, (Nat.mod_lt 8 (BitVec.ofNat._proof_1 8))⟩⟩⟩, ⟨⟨⟨8, (Nat.mod_lt 8 (BitVec.ofNat._proof_1 8))⟩⟩⟩, ⟨⟨⟨8, (Nat.mod_lt 8 (BitVec.ofNat._proof_1 8))⟩⟩⟩, ⟨⟨⟨8, (Nat.mod_lt 8 (BitVec.ofNat._proof_1 8))⟩⟩⟩, ⟨⟨⟨8, (Nat.mod_lt 8 (BitVec.ofNat._proof_1 8))⟩⟩⟩, ⟨⟨⟨8, (Nat.mod_lt 8 (BitVec.ofNat._proof_1 8))⟩⟩⟩, ⟨⟨⟨8, (Nat.mod_lt 8 (BitVec.ofNat._proof_1 8))⟩⟩⟩, ⟨⟨⟨8, (Nat.mod_lt 8 (BitVec.ofNat._proof_1 8))⟩⟩⟩, ⟨⟨⟨8, (Nat.mod_lt 8 (BitVec.ofNat._proof_1 8))⟩⟩⟩, ⟨⟨⟨8, (Nat.mod_lt 8 (BitVec.ofNat._proof_1 8))⟩⟩⟩, ⟨⟨⟨8, (Nat.mod_lt 8 (BitVec.ofNat._proof_1 8))⟩⟩⟩, ⟨⟨⟨8, (Nat.mod_lt 8 (BitVec.ofNat._proof_1 8))⟩⟩⟩, ⟨⟨⟨8, (Nat.mod_lt 8 (BitVec.ofNat._proof_1 8))⟩⟩⟩, ⟨⟨⟨8, (Nat.mod_lt 8 (BitVec.ofNat._proof_1 8))⟩⟩⟩, ⟨⟨⟨8, (Nat.mod_lt 8 (BitVec.ofNat._proof_1 8))⟩⟩⟩, ⟨⟨⟨8, (Nat.mod_lt 8 (BitVec.ofNat._proof_1 8))⟩⟩⟩, ⟨⟨⟨8, (Nat.mod_lt 8 (BitVec.ofNat._proof_1 8))⟩⟩⟩, ⟨⟨⟨8, (Nat.mod_lt 8 (BitVec.ofNat._proof_1 8))⟩⟩⟩, ⟨⟨⟨8, (Nat.mod_lt 8 (BitVec.ofNat._proof_1 8))⟩⟩⟩, ⟨⟨⟨8, (Nat.mod_lt 8 (BitVec.ofNat._proof_1 8))⟩⟩⟩, ⟨⟨⟨8, (Nat.mod_lt 8 (BitVec.ofNat._proof_1 8))⟩⟩⟩, ⟨⟨⟨8, (Nat.mod_lt 8 (BitVec.ofNat._proof_1 8))⟩⟩⟩, ⟨⟨⟨8, (Nat.mod_lt 8 (BitVec.ofNat._proof_1 8))⟩⟩⟩, ⟨⟨⟨8, (Nat.mod_lt 8 (BitVec.ofNat._proof_1 8))⟩⟩⟩, ⟨⟨⟨8, (Nat.mod_lt 8 (BitVec.ofNat._proof_1 8))⟩⟩⟩, ⟨⟨⟨8, (Nat.mod_lt 8 (BitVec.ofNat._proof_1 8))⟩⟩⟩, ⟨⟨⟨8, (Nat.mod_lt 8 (BitVec.ofNat._proof_1 8))⟩⟩⟩, ⟨⟨⟨8, (Nat.mod_lt 8 (BitVec.ofNat._proof_1 8))⟩⟩⟩, ⟨⟨⟨8, (Nat.mod_lt 8 (BitVec.ofNat._proof_1 8))⟩⟩⟩, ⟨⟨⟨8, (Nat.mod_lt 8 (BitVec.ofNat._proof_1 8))⟩⟩⟩, ⟨⟨⟨8, (Nat.mod_lt 8 (BitVec.ofNat._proof_1 8))⟩⟩⟩, ⟨⟨⟨8, (Nat.mod_lt 8 (BitVec.ofNat._proof_1 8))⟩⟩⟩, ⟨⟨⟨8, (Nat.mod_lt 8 (BitVec.ofNat._proof_1 8))⟩⟩⟩, ⟨⟨⟨8, (Nat.mod_lt 8 (BitVec.ofNat._proof_1 8))⟩⟩⟩, ⟨⟨⟨8, (Nat.mod_lt 8 (BitVec.ofNat._proof_1 8))⟩⟩⟩, ⟨⟨⟨8, (Nat.mod_lt 8 (BitVec.ofNat._proof_1 8))⟩⟩⟩, ⟨⟨⟨8, (Nat.mod_lt 8 (BitVec.ofNat._proof_1 8))⟩⟩⟩, ⟨⟨⟨8, (Nat.mod_lt 8 (BitVec.ofNat._proof_1 8))⟩⟩⟩, ⟨⟨⟨8, (Nat.mod_lt 8 (BitVec.ofNat._proof_1 8))⟩⟩⟩, ⟨⟨⟨8, (Nat.mod_lt 8 (BitVec.ofNat._proof_1 8))⟩⟩⟩, ⟨⟨⟨8, (Nat.mod_lt 8 (BitVec.ofNat._proof_1 8))⟩⟩⟩, ⟨⟨⟨8, (Nat.mod_lt 8 (BitVec.ofNat._proof_1 8))⟩⟩⟩, ⟨⟨⟨8, (Nat.mod_lt 8 (BitVec.ofNat._proof_1 8))⟩⟩⟩, ⟨⟨⟨8, (Nat.mod_lt 8 (BitVec.ofNat._proof_1 8))⟩⟩⟩, ⟨⟨⟨8, (Nat.mod_lt 8 (BitVec.ofNat._proof_1 8))⟩⟩⟩, ⟨⟨⟨8, (Nat.mod_lt 8 (BitVec.ofNat._proof_1 8))⟩⟩⟩, ⟨⟨⟨8, (Nat.mod_lt 8 (BitVec.ofNat._proof_1 8))⟩⟩⟩] (Int.toNat (IntKind.wrap .u8 x2)) ⟨⟨⟨0, (Nat.mod_lt 0 (BitVec.ofNat._proof_1 8))⟩⟩⟩)) : Nat) : Int)))) h2))))

def slices_insertionSortOrdered_int_w (P : Program) (data : Sl) (a : Int) (b : Int) (Q : (Hp → Prop)) (h : Hp) : Prop :=
 LoopW1 (α1 := Int) (fun again i h1 =>
 (if (decide (i < b)) = true then
 LoopW1 (α1 := Int) (fun again1 j h2 =>
 (((decide (j > a)) = true → (InB data.base data.len j)) ∧ LdW (some (decide (j > a))) (shInt .i64) h2 (sat data.base 1 j) fun x =>
 (((decide (j > a)) = true → (InB data.base data.len (IntKind.wrap .i64 (j - (1 : Int))))) ∧ LdW (some (decide (j > a))) (shInt .i64) h2 (sat data.base 1 (IntKind.wrap .i64 (j - (1 : Int)))) fun x1 =>
 EffC (some (decide (j > a))) (CallT P n_cmp_Less_int [(.int .i64 x), (.int .i64 x1)] shBool) (fun r h3 =>
 LetW ((decide (j > a)) && r) fun y =>
 (if y = true then
 ((InB data.base data.len (IntKind.wrap .i64 (j - (1 : Int)))) ∧ LdW none (shInt .i64) h3 (sat data.base 1 (IntKind.wrap .i64 (j - (1 : Int)))) fun x2 =>
 ((InB data.base data.len j) ∧ LdW none (shInt .i64) h3 (sat data.base 1 j) fun x3 =>
 ((InB data.base data.len j) ∧ StW h3 (sat data.base 1 j) [(.int .i64 x2)] (fun h4 =>
 ((InB data.base data.len (IntKind.wrap .i64 (j - (1 : Int)))) ∧ StW h4 (sat data.base 1 (IntKind.wrap .i64 (j - (1 : Int)))) [(.int .i64 x3)] (fun h5 =>
 again1 (IntKind.wrap .i64 (j - (1 : Int))) h5))))))
 else
 again (IntKind.wrap .i64 (i + (1 : Int))) h3)) h2))) i h1
 else
 Q h1)) (IntKind.wrap .i64 (a + (1 : Int))) h

def slices_heapSortOrdered_int_w (P : Program) (data : Sl) (a : Int) (b : Int) (Q : (Hp → Prop)) (h : Hp) : Prop :=
 ((2 : Int) ≠ (0 : Int) ∧ LoopW1 (α1 := Int) (fun again i h1 =>
 (if (decide (i ≥ (0 : Int))) = true then
 Call0 P n_slices_siftDownOrdered_int [data.v, (.int .i64 i), (.int .i64 (IntKind.wrap .i64 (b - a))), (.int .i64 a)] (fun h2 =>
 again (IntKind.wrap .i64 (i - (1 : Int))) h2) h1
 else
 LoopW1 (α1 := Int) (fun again1 i1 h2 =>
 (if (decide (i1 ≥ (0 : Int))) = true then
 ((InB data.base data.len (IntKind.wrap .i64 (a + i1))) ∧ LdW none (shInt .i64) h2 (sat data.base 1 (IntKind.wrap .i64 (a + i1))) fun x =>
 ((InB data.base data.len a) ∧ LdW none (shInt .i64) h2 (sat data.base 1 a) fun x1 =>
 ((InB data.base data.len a) ∧ StW h2 (sat data.base 1 a) [(.int .i64 x)] (fun h3 =>
 ((InB data.base data.len (IntKind.wrap .i64 (a + i1))) ∧ StW h3 (sat data.base 1 (IntKind.wrap .i64 (a + i1))) [(.int .i64 x1)] (fun h4 =>
 Call0 P n_slices_siftDownOrdered_int [data.v, (.int .i64 (0 : Int)), (.int .i64 i1), (.int .i64 a)] (fun h5 =>
 again1 (IntKind.wrap .i64 (i1 - (1 : Int))) h5) h4))))))
 else
 Q h2)) (IntKind.wrap .i64 ((IntKind.wrap .i64 (b - a)) - (1 : Int))) h1)) (IntKind.wrap .i64 (Int.tdiv (IntKind.wrap .i64 ((IntKind.wrap .i64 (b - a)) - (1 : Int))) (2 : Int))) h)

def slices_breakPatternsOrdered_int_w (P : Program) (data : Sl) (a : Int) (b : Int) (Q : (Hp → Prop)) (h : Hp) : Prop :=
 (if (decide ((IntKind.wrap .i64 (b - a)) ≥ (8 : Int))) = true then
 NewW [(.int .u64 (0 : Int))] (fun a1 h1 =>
 StW h1 a1 [(.int .u64 (IntKind.wrap .u64 (IntKind.wrap .i64 (b - a))))] (fun h2 =>
 CallT P n_slices_nextPowerOfTwo [(.int .i64 (IntKind.wrap .i64 (b - a)))] (shInt .u64) (fun r h3 =>
 ((4 : Int) ≠ (0 : Int) ∧ LoopW1 (α1 := Int) (fun again idx h4 =>
 ((4 : Int) ≠ (0 : Int) ∧ (if (decide (idx ≤ (IntKind.wrap .i64 ((IntKind.wrap .i64 (a + (IntKind.wrap .i64 ((IntKind.wrap .i64 (Int.tdiv (IntKind.wrap .i64 (b - a)) (4 : Int))) * (2 : Int))))) + (1 : Int))))) = true then
 CallT P n_slices_xorshift_Next [(.pointer (some a1))] (shInt .u64) (fun r1 h5 =>
 JoinW1 (α1 := Int) (fun k =>
 (if (decide ((IntKind.wrap .i64 (bitsI .and .u64 r1 (IntKind.wrap .u64 (r - (1 : Int))))) ≥ (IntKind.wrap .i64 (b - a)))) = true then
 k (IntKind.wrap .i64 ((IntKind.wrap .i64 (bitsI .and .u64 r1 (IntKind.wrap .u64 (r - (1 : Int))))) - (IntKind.wrap .i64 (b - a)))) h5
 else
 k (IntKind.wrap .i64 (bitsI .and .u64 r1 (IntKind.wrap .u64 (r - (1 : Int))))) h5))
 (fun other h6 =>
 ((InB data.base data.len (IntKind.wrap .i64 (a + other))) ∧ LdW none (shInt .i64) h6 (sat data.base 1 (IntKind.wrap .i64 (a + other))) fun x =>
 ((InB data.base data.len idx) ∧ LdW none (shInt .i64) h6 (sat data.base 1 idx) fun x1 =>
 ((InB data.base data.len idx) ∧ StW h6 (sat data.base 1 idx) [(.int .i64 x)] (fun h7 =>
 ((InB data.base data.len (IntKind.wrap .i64 (a + other))) ∧ StW h7 (sat data.base 1 (IntKind.wrap .i64 (a + other))) [(.int .i64 x1)] (fun h8 =>
 again (IntKind.wrap .i64 (idx + (1 : Int))) h8)))))))) h4
 else
 Q h4))) (IntKind.wrap .i64 ((IntKind.wrap .i64 (a + (IntKind.wrap .i64 ((IntKind.wrap .i64 (Int.tdiv (IntKind.wrap .i64 (b - a)) (4 : Int))) * (2 : Int))))) - (1 : Int))) h3)) h2)) h
 else
 Q h)

def slices_choosePivotOrdered_int_w (P : Program) (data : Sl) (a : Int) (b : Int) (Q : (Int → (Int → (Hp → Prop)))) (h : Hp) : Prop :=
 NewW [(.int .i64 (0 : Int))] (fun a1 h1 =>
 ((4 : Int) ≠ (0 : Int) ∧ ((4 : Int) ≠ (0 : Int) ∧ ((4 : Int) ≠ (0 : Int) ∧ (if (decide ((IntKind.wrap .i64 (b - a)) ≥ (8 : Int))) = true then
 JoinW3 (α1 := Int) (α2 := Int) (α3 := Int) (fun k =>
 (if (decide ((IntKind.wrap .i64 (b - a)) ≥ (50 : Int))) = true then
 CallT P n_slices_medianAdjacentOrdered_int [data.v, (.int .i64 (IntKind.wrap .i64 (a + (IntKind.wrap .i64 ((IntKind.wrap .i64 (Int.tdiv (IntKind.wrap .i64 (b - a)) (4 : Int))) * (1 : Int)))))), (.pointer (some a1))] (shInt .i64) (fun r h2 =>
 CallT P n_slices_medianAdjacentOrdered_int [data.v, (.int .i64 (IntKind.wrap .i64 (a + (IntKind.wrap .i64 ((IntKind.wrap .i64 (Int.tdiv (IntKind.wrap .i64 (b - a)) (4 : Int))) * (2 : Int)))))), (.pointer (some a1))] (shInt .i64) (fun r1 h3 =>
 CallT P n_slices_medianAdjacentOrdered_int [data.v, (.int .i64 (IntKind.wrap .i64 (a + (IntKind.wrap .i64 ((IntKind.wrap .i64 (Int.tdiv (IntKind.wrap .i64 (b - a)) (4 : Int))) * (3 : Int)))))), (.pointer (some a1))] (shInt .i64) (fun r2 h4 =>
 k r r1 r2 h4) h3) h2) h1
 else
 k (IntKind.wrap .i64 (a + (IntKind.wrap .i64 ((IntKind.wrap .i64 (Int.tdiv (IntKind.wrap .i64 (b - a)) (4 : Int))) * (1 : Int))))) (IntKind.wrap .i64 (a + (IntKind.wrap .i64 ((IntKind.wrap .i64 (Int.tdiv (IntKind.wrap .i64 (b - a)) (4 : Int))) * (2 : Int))))) (IntKind.wrap .i64 (a + (IntKind.wrap .i64 ((IntKind.wrap .i64 (Int.tdiv (IntKind.wrap .i64 (b - a)) (4 : Int))) * (3 : Int))))) h1))
 (fun i j k h2 =>
 CallT P n_slices_medianOrdered_int [data.v, (.int .i64 i), (.int .i64 j), (.int .i64 k), (.pointer (some a1))] (shInt .i64) (fun r h3 =>
 LdW none (shInt .i64) h3 a1 fun x =>
 (if (x == (0 : Int)) = true then
 Q r (1 : Int) h3
 else
 (if (x == (12 : Int)) = true then
 Q r (2 : Int) h3
 else
 Q r (0 : Int) h3))) h2)
 else
 LdW none (shInt .i64) h1 a1 fun x =>
 (if (x == (0 : Int)) = true then
 Q (IntKind.wrap .i64 (a + (IntKind.wrap .i64 ((IntKind.wrap .i64 (Int.tdiv (IntKind.wrap .i64 (b - a)) (4 : Int))) * (2 : Int))))) (1 : Int) h1
 else
 (if (x == (12 : Int)) = true then
 Q (IntKind.wrap .i64 (a + (IntKind.wrap .i64 ((IntKind.wrap .i64 (Int.tdiv (IntKind.wrap .i64 (b - a)) (4 : Int))) * (2 : Int))))) (2 : Int) h1
 else
 Q (IntKind.wrap .i64 (a + (IntKind.wrap .i64 ((IntKind.wrap .i64 (Int.tdiv (IntKind.wrap .i64 (b - a)) (4 : Int))) * (2 : Int))))) (0 : Int) h1))))))) h

def slices_reverseRangeOrdered_int_w (P : Program) (data : Sl) (a : Int) (b : Int) (Q : (Hp → Prop)) (h : Hp) : Prop :=
 LoopW2 (α1 := Int) (α2 := Int) (fun again i j h1 =>
 (if (decide (i < j)) = true then
 ((InB data.base data.len j) ∧ LdW none (shInt .i64) h1 (sat data.base 1 j) fun x =>
 ((InB data.base data.len i) ∧ LdW none (shInt .i64) h1 (sat data.base 1 i) fun x1 =>
 ((InB data.base data.len i) ∧ StW h1 (sat data.base 1 i) [(.int .i64 x)] (fun h2 =>
 ((InB data.base data.len j) ∧ StW h2 (sat data.base 1 j) [(.int .i64 x1)] (fun h3 =>
 again (IntKind.wrap .i64 (i + (1 : Int))) (IntKind.wrap .i64 (j - (1 : Int))) h3))))))
 else
 Q h1)) a (IntKind.wrap .i64 (b - (1 : Int))) h

def slices_partialInsertionSortOrdered_int_w (P : Program) (data : Sl) (a : Int) (b : Int) (Q : (Bool → (Hp → Prop))) (h : Hp) : Prop :=
 LoopW2 (α1 := Int) (α2 := Int) (fun again i j h1 =>
 (if (decide (j < (5 : Int))) = true then
 JoinW1 (α1 := Int) (fun k =>
 LoopW1 (α1 := Int) (fun again1 i1 h2 =>
 (((decide (i1 < b)) = true → (InB data.base data.len i1)) ∧ LdW (some (decide (i1 < b))) (shInt .i64) h2 (sat data.base 1 i1) fun x =>
 (((decide (i1 < b)) = true → (InB data.base data.len (IntKind.wrap .i64 (i1 - (1 : Int))))) ∧ LdW (some (decide (i1 < b))) (shInt .i64) h2 (sat data.base 1 (IntKind.wrap .i64 (i1 - (1 : Int)))) fun x1 =>
 EffC (some (decide (i1 < b))) (CallT P n_cmp_Less_int [(.int .i64 x), (.int .i64 x1)] shBool) (fun r h3 =>
 LetW ((decide (i1 < b)) && (!r)) fun y =>
 (if y = true then
 again1 (IntKind.wrap .i64 (i1 + (1 : Int))) h3
 else
 (if (i1 == b) = true then
 Q true h3
 else
 (if (decide ((IntKind.wrap .i64 (b - a)) < (50 : Int))) = true then
 Q false h3
 else
 ((InB data.base data.len (IntKind.wrap .i64 (i1 - (1 : Int)))) ∧ LdW none (shInt .i64) h3 (sat data.base 1 (IntKind.wrap .i64 (i1 - (1 : Int)))) fun x2 =>
 ((InB data.base data.len i1) ∧ LdW none (shInt .i64) h3 (sat data.base 1 i1) fun x3 =>
 ((InB data.base data.len i1) ∧ StW h3 (sat data.base 1 i1) [(.int .i64 x2)] (fun h4 =>
 ((InB data.base data.len (IntKind.wrap .i64 (i1 - (1 : Int)))) ∧ StW h4 (sat data.base 1 (IntKind.wrap .i64 (i1 - (1 : Int)))) [(.int .i64 x3)] (fun h5 =>
 JoinW0 (fun k1 =>
 (if (decide ((IntKind.wrap .i64 (i1 - a)) ≥ (2 : Int))) = true then
 JoinW0 (fun k2 =>
 LoopW1 (α1 := Int) (fun again2 j1 h6 =>
 (if (decide (j1 ≥ (1 : Int))) = true then
 ((InB data.base data.len j1) ∧ LdW none (shInt .i64) h6 (sat data.base 1 j1) fun x4 =>
 ((InB data.base data.len (IntKind.wrap .i64 (j1 - (1 : Int)))) ∧ LdW none (shInt .i64) h6 (sat data.base 1 (IntKind.wrap .i64 (j1 - (1 : Int)))) fun x5 =>
 CallT P n_cmp_Less_int [(.int .i64 x4), (.int .i64 x5)] shBool (fun r1 h7 =>
 (if (!r1) = true then
 k2 h7
 else
 ((InB data.base data.len (IntKind.wrap .i64 (j1 - (1 : Int)))) ∧ LdW none (shInt .i64) h7 (sat data.base 1 (IntKind.wrap .i64 (j1 - (1 : Int)))) fun x6 =>
 ((InB data.base data.len j1) ∧ LdW none (shInt .i64) h7 (sat data.base 1 j1) fun x7 =>
 ((InB data.base data.len j1) ∧ StW h7 (sat data.base 1 j1) [(.int .i64 x6)] (fun h8 =>
 ((InB data.base data.len (IntKind.wrap .i64 (j1 - (1 : Int)))) ∧ StW h8 (sat data.base 1 (IntKind.wrap .i64 (j1 - (1 : Int)))) [(.int .i64 x7)] (fun h9 =>
 again2 (IntKind.wrap .i64 (j1 - (1 : Int))) h9)))))))) h6))
 else
 k2 h6)) (IntKind.wrap .i64 (i1 - (1 : Int))) h5)
 (fun h6 =>
 k1 h6)
 else
 k1 h5))
 (fun h6 =>
 (if (decide ((IntKind.wrap .i64 (b - i1)) ≥ (2 : Int))) = true then
 JoinW0 (fun k1 =>
 LoopW1 (α1 := Int) (fun again2 j1 h7 =>
 (if (decide (j1 < b)) = true then
 ((InB data.base data.len j1) ∧ LdW none (shInt .i64) h7 (sat data.base 1 j1) fun x4 =>
 ((InB data.base data.len (IntKind.wrap .i64 (j1 - (1 : Int)))) ∧ LdW none (shInt .i64) h7 (sat data.base 1 (IntKind.wrap .i64 (j1 - (1 : Int)))) fun x5 =>
 CallT P n_cmp_Less_int [(.int .i64 x4), (.int .i64 x5)] shBool (fun r1 h8 =>
 (if (!r1) = true then
 k1 h8
 else
 ((InB data.base data.len (IntKind.wrap .i64 (j1 - (1 : Int)))) ∧ LdW none (shInt .i64) h8 (sat data.base 1 (IntKind.wrap .i64 (j1 - (1 : Int)))) fun x6 =>
 ((InB data.base data.len j1) ∧ LdW none (shInt .i64) h8 (sat data.base 1 j1) fun x7 =>
 ((InB data.base data.len j1) ∧ StW h8 (sat data.base 1 j1) [(.int .i64 x6)] (fun h9 =>
 ((InB data.base data.len (IntKind.wrap .i64 (j1 - (1 : Int)))) ∧ StW h9 (sat data.base 1 (IntKind.wrap .i64 (j1 - (1 : Int)))) [(.int .i64 x7)] (fun h10 =>
 again2 (IntKind.wrap .i64 (j1 + (1 : Int))) h10)))))))) h7))
 else
 k1 h7)) (IntKind.wrap .i64 (i1 + (1 : Int))) h6)
 (fun h7 =>
 k i1 h7)
 else
 k i1 h6)))))))))))) h2))) i h1)
 (fun i1 h2 =>
 again i1 (IntKind.wrap .i64 (j + (1 : Int))) h2)
 else
 Q false h1)) (IntKind.wrap .i64 (a + (1 : Int))) (0 : Int) h

def cmp_Less_int_w (P : Program) (x : Int) (y : Int) (Q : (Bool → (Hp → Prop))) (h : Hp) : Prop :=
 CallT P n_cmp_isNaN_int [(.int .i64 x)] shBool (fun r h1 =>
 EffC (some r) (CallT P n_cmp_isNaN_int [(.int .i64 y)] shBool) (fun r1 h2 =>
 LetW (r && (!r1)) fun y1 =>
 LetW (y1 || (decide (x < y))) fun y2 =>
 Q y2 h2) h1) h

def slices_partitionEqualOrdered_int_w (P : Program) (data : Sl) (a : Int) (b : Int) (pivot : Int) (Q : (Int → (Hp → Prop))) (h : Hp) : Prop :=
 ((InB data.base data.len pivot) ∧ LdW none (shInt .i64) h (sat data.base 1 pivot) fun x =>
 ((InB data.base data.len a) ∧ LdW none (shInt .i64) h (sat data.base 1 a) fun x1 =>
 ((InB data.base data.len a) ∧ StW h (sat data.base 1 a) [(.int .i64 x)] (fun h1 =>
 ((InB data.base data.len pivot) ∧ StW h1 (sat data.base 1 pivot) [(.int .i64 x1)] (fun h2 =>
 LoopW2 (α1 := Int) (α2 := Int) (fun again i j h3 =>
 LoopW1 (α1 := Int) (fun again1 i1 h4 =>
 (((decide (i1 ≤ j)) = true → (InB data.base data.len a)) ∧ LdW (some (decide (i1 ≤ j))) (shInt .i64) h4 (sat data.base 1 a) fun x2 =>
 (((decide (i1 ≤ j)) = true → (InB data.base data.len i1)) ∧ LdW (some (decide (i1 ≤ j))) (shInt .i64) h4 (sat data.base 1 i1) fun x3 =>
 EffC (some (decide (i1 ≤ j))) (CallT P n_cmp_Less_int [(.int .i64 x2), (.int .i64 x3)] shBool) (fun r h5 =>
 LetW ((decide (i1 ≤ j)) && (!r)) fun y =>
 (if y = true then
 again1 (IntKind.wrap .i64 (i1 + (1 : Int))) h5
 else
 LoopW1 (α1 := Int) (fun again2 j1 h6 =>
 (((decide (i1 ≤ j1)) = true → (InB data.base data.len a)) ∧ LdW (some (decide (i1 ≤ j1))) (shInt .i64) h6 (sat data.base 1 a) fun x4 =>
 (((decide (i1 ≤ j1)) = true → (InB data.base data.len j1)) ∧ LdW (some (decide (i1 ≤ j1))) (shInt .i64) h6 (sat data.base 1 j1) fun x5 =>
 EffC (some (decide (i1 ≤ j1))) (CallT P n_cmp_Less_int [(.int .i64 x4), (.int .i64 x5)] shBool) (fun r1 h7 =>
 LetW ((decide (i1 ≤ j1)) && r1) fun y1 =>
 (if y1 = true then
 again2 (IntKind.wrap .i64 (j1 - (1 : Int))) h7
 else
 (if (decide (i1 > j1)) = true then
 Q i1 h7
 else
 ((InB data.base data.len j1) ∧ LdW none (shInt .i64) h7 (sat data.base 1 j1) fun x6 =>
 ((InB data.base data.len i1) ∧ LdW none (shInt .i64) h7 (sat data.base 1 i1) fun x7 =>
 ((InB data.base data.len i1) ∧ StW h7 (sat data.base 1 i1) [(.int .i64 x6)] (fun h8 =>
 ((InB data.base data.len j1) ∧ StW h8 (sat data.base 1 j1) [(.int .i64 x7)] (fun h9 =>
 again (IntKind.wrap .i64 (i1 + (1 : Int))) (IntKind.wrap .i64 (j1 - (1 : Int))) h9))))))))) h6))) j h5)) h4))) i h3) (IntKind.wrap .i64 (a + (1 : Int))) (IntKind.wrap .i64 (b - (1 : Int))) h2))))))

def slices_partitionOrdered_int_w (P : Program) (data : Sl) (a : Int) (b : Int) (pivot : Int) (Q : (Int → (Bool → (Hp → Prop)))) (h : Hp) : Prop :=
 ((InB data.base data.len pivot) ∧ LdW none (shInt .i64) h (sat data.base 1 pivot) fun x =>
 ((InB data.base data.len a) ∧ LdW none (shInt .i64) h (sat data.base 1 a) fun x1 =>
 ((InB data.base data.len a) ∧ StW h (sat data.base 1 a) [(.int .i64 x)] (fun h1 =>
 ((InB data.base data.len pivot) ∧ StW h1 (sat data.base 1 pivot) [(.int .i64 x1)] (fun h2 =>
 LoopW1 (α1 := Int) (fun again i h3 =>
 (((decide (i ≤ (IntKind.wrap .i64 (b - (1 : Int))))) = true → (InB data.base data.len i)) ∧ LdW (some (decide (i ≤ (IntKind.wrap .i64 (b - (1 : Int)))))) (shInt .i64) h3 (sat data.base 1 i) fun x2 =>
 (((decide (i ≤ (IntKind.wrap .i64 (b - (1 : Int))))) = true → (InB data.base data.len a)) ∧ LdW (some (decide (i ≤ (IntKind.wrap .i64 (b - (1 : Int)))))) (shInt .i64) h3 (sat data.base 1 a) fun x3 =>
 EffC (some (decide (i ≤ (IntKind.wrap .i64 (b - (1 : Int)))))) (CallT P n_cmp_Less_int [(.int .i64 x2), (.int .i64 x3)] shBool) (fun r h4 =>
 LetW ((decide (i ≤ (IntKind.wrap .i64 (b - (1 : Int))))) && r) fun y =>
 (if y = true then
 again (IntKind.wrap .i64 (i + (1 : Int))) h4
 else
 LoopW1 (α1 := Int) (fun again1 j h5 =>
 (((decide (i ≤ j)) = true → (InB data.base data.len j)) ∧ LdW (some (decide (i ≤ j))) (shInt .i64) h5 (sat data.base 1 j) fun x4 =>
 (((decide (i ≤ j)) = true → (InB data.base data.len a)) ∧ LdW (some (decide (i ≤ j))) (shInt .i64) h5 (sat data.base 1 a) fun x5 =>
 EffC (some (decide (i ≤ j))) (CallT P n_cmp_Less_int [(.int .i64 x4), (.int .i64 x5)] shBool) (fun r1 h6 =>
 LetW ((decide (i ≤ j)) && (!r1)) fun y1 =>
 (if y1 = true then
 again1 (IntKind.wrap .i64 (j - (1 : Int))) h6
 else
 (if (decide (i > j)) = true then
 ((InB data.base data.len a) ∧ LdW none (shInt .i64) h6 (sat data.base 1 a) fun x6 =>
 ((InB data.base data.len j) ∧ LdW none (shInt .i64) h6 (sat data.base 1 j) fun x7 =>
 ((InB data.base data.len j) ∧ StW h6 (sat data.base 1 j) [(.int .i64 x6)] (fun h7 =>
 ((InB data.base data.len a) ∧ StW h7 (sat data.base 1 a) [(.int .i64 x7)] (fun h8 =>
 Q j true h8))))))
 else
 ((InB data.base data.len j) ∧ LdW none (shInt .i64) h6 (sat data.base 1 j) fun x6 =>
 ((InB data.base data.len i) ∧ LdW none (shInt .i64) h6 (sat data.base 1 i) fun x7 =>
 ((InB data.base data.len i) ∧ StW h6 (sat data.base 1 i) [(.int .i64 x6)] (fun h7 =>
 ((InB data.base data.len j) ∧ StW h7 (sat data.base 1 j) [(.int .i64 x7)] (fun h8 =>
 LoopW2 (α1 := Int) (α2 := Int) (fun again2 i1 j1 h9 =>
 LoopW1 (α1 := Int) (fun again3 i2 h10 =>
 (((decide (i2 ≤ j1)) = true → (InB data.base data.len i2)) ∧ LdW (some (decide (i2 ≤ j1))) (shInt .i64) h10 (sat data.base 1 i2) fun x8 =>
 (((decide (i2 ≤ j1)) = true → (InB data.base data.len a)) ∧ LdW (some (decide (i2 ≤ j1))) (shInt .i64) h10 (sat data.base 1 a) fun x9 =>
 EffC (some (decide (i2 ≤ j1))) (CallT P n_cmp_Less_int [(.int .i64 x8), (.int .i64 x9)] shBool) (fun r2 h11 =>
 LetW ((decide (i2 ≤ j1)) && r2) fun y2 =>
 (if y2 = true then
 again3 (IntKind.wrap .i64 (i2 + (1 : Int))) h11
 else
 LoopW1 (α1 := Int) (fun again4 j2 h12 =>
 (((decide (i2 ≤ j2)) = true → (InB data.base data.len j2)) ∧ LdW (some (decide (i2 ≤ j2))) (shInt .i64) h12 (sat data.base 1 j2) fun x10 =>
 (((decide (i2 ≤ j2)) = true → (InB data.base data.len a)) ∧ LdW (some (decide (i2 ≤ j2))) (shInt .i64) h12 (sat data.base 1 a) fun x11 =>
 EffC (some (decide (i2 ≤ j2))) (CallT P n_cmp_Less_int [(.int .i64 x10), (.int .i64 x11)] shBool) (fun r3 h13 =>
 LetW ((decide (i2 ≤ j2)) && (!r3)) fun y3 =>
 (if y3 = true then
 again4 (IntKind.wrap .i64 (j2 - (1 : Int))) h13
 else
 (if (decide (i2 > j2)) = true then
 ((InB data.base data.len a) ∧ LdW none (shInt .i64) h13 (sat data.base 1 a) fun x12 =>
 ((InB data.base data.len j2) ∧ LdW none (shInt .i64) h13 (sat data.base 1 j2) fun x13 =>
 ((InB data.base data.len j2) ∧ StW h13 (sat data.base 1 j2) [(.int .i64 x12)] (fun h14 =>
 ((InB data.base data.len a) ∧ StW h14 (sat data.base 1 a) [(.int .i64 x13)] (fun h15 =>
 Q j2 false h15))))))
 else
 ((InB data.base data.len j2) ∧ LdW none (shInt .i64) h13 (sat data.base 1 j2) fun x12 =>
 ((InB data.base data.len i2) ∧ LdW none (shInt .i64) h13 (sat data.base 1 i2) fun x13 =>
 ((InB data.base data.len i2) ∧ StW h13 (sat data.base 1 i2) [(.int .i64 x12)] (fun h14 =>
 ((InB data.base data.len j2) ∧ StW h14 (sat data.base 1 j2) [(.int .i64 x13)] (fun h15 =>
 again2 (IntKind.wrap .i64 (i2 + (1 : Int))) (IntKind.wrap .i64 (j2 - (1 : Int))) h15))))))))) h12))) j1 h11)) h10))) i1 h9) (IntKind.wrap .i64 (i + (1 : Int))) (IntKind.wrap .i64 (j - (1 : Int))) h8))))))))) h5))) (IntKind.wrap .i64 (b - (1 : Int))) h4)) h3))) (IntKind.wrap .i64 (a + (1 : Int))) h2))))))

def slices_siftDownOrdered_uint64_w (P : Program) (data : Sl) (lo : Int) (hi : Int) (first : Int) (Q : (Hp → Prop)) (h : Hp) : Prop :=
 LoopW1 (α1 := Int) (fun again root h1 =>
 (if (decide ((IntKind.wrap .i64 ((IntKind.wrap .i64 ((2 : Int) * root)) + (1 : Int))) ≥ hi)) = true then
 Q h1
 else
 JoinW1 (α1 := Int) (fun k =>
 (((decide ((IntKind.wrap .i64 ((IntKind.wrap .i64 ((IntKind.wrap .i64 ((2 : Int) * root)) + (1 : Int))) + (1 : Int))) < hi)) = true → (InB data.base data.len (IntKind.wrap .i64 (first + (IntKind.wrap .i64 ((IntKind.wrap .i64 ((2 : Int) * root)) + (1 : Int))))))) ∧ LdW (some (decide ((IntKind.wrap .i64 ((IntKind.wrap .i64 ((IntKind.wrap .i64 ((2 : Int) * root)) + (1 : Int))) + (1 : Int))) < hi))) (shInt .u64) h1 (sat data.base 1 (IntKind.wrap .i64 (first + (IntKind.wrap .i64 ((IntKind.wrap .i64 ((2 : Int) * root)) + (1 : Int)))))) fun x =>
 (((decide ((IntKind.wrap .i64 ((IntKind.wrap .i64 ((IntKind.wrap .i64 ((2 : Int) * root)) + (1 : Int))) + (1 : Int))) < hi)) = true → (InB data.base data.len (IntKind.wrap .i64 ((IntKind.wrap .i64 (first + (IntKind.wrap .i64 ((IntKind.wrap .i64 ((2 : Int) * root)) + (1 : Int))))) + (1 : Int))))) ∧ LdW (some (decide ((IntKind.wrap .i64 ((IntKind.wrap .i64 ((IntKind.wrap .i64 ((2 : Int) * root)) + (1 : Int))) + (1 : Int))) < hi))) (shInt .u64) h1 (sat data.base 1 (IntKind.wrap .i64 ((IntKind.wrap .i64 (first + (IntKind.wrap .i64 ((IntKind.wrap .i64 ((2 : Int) * root)) + (1 : Int))))) + (1 : Int)))) fun x1 =>
 EffC (some (decide ((IntKind.wrap .i64 ((IntKind.wrap .i64 ((IntKind.wrap .i64 ((2 : Int) * root)) + (1 : Int))) + (1 : Int))) < hi))) (CallT P n_cmp_Less_uint64 [(.int .u64 x), (.int .u64 x1)] shBool) (fun r h2 =>
 LetW ((decide ((IntKind.wrap .i64 ((IntKind.wrap .i64 ((IntKind.wrap .i64 ((2 : Int) * root)) + (1 : Int))) + (1 : Int))) < hi)) && r) fun y =>
 (if y = true then
 k (IntKind.wrap .i64 ((IntKind.wrap .i64 ((IntKind.wrap .i64 ((2 : Int) * root)) + (1 : Int))) + (1 : Int))) h2
 else
 k (IntKind.wrap .i64 ((IntKind.wrap .i64 ((2 : Int) * root)) + (1 : Int))) h2)) h1)))
 (fun child h2 =>
 ((InB data.base data.len (IntKind.wrap .i64 (first + root))) ∧ LdW none (shInt .u64) h2 (sat data.base 1 (IntKind.wrap .i64 (first + root))) fun x =>
 ((InB data.base data.len (IntKind.wrap .i64 (first + child))) ∧ LdW none (shInt .u64) h2 (sat data.base 1 (IntKind.wrap .i64 (first + child))) fun x1 =>
 CallT P n_cmp_Less_uint64 [(.int .u64 x), (.int .u64 x1)] shBool (fun r h3 =>
 (if (!r) = true then
 Q h3
 else
 ((InB data.base data.len (IntKind.wrap .i64 (first + child))) ∧ LdW none (shInt .u64) h3 (sat data.base 1 (IntKind.wrap .i64 (first + child))) fun x2 =>
 ((InB data.base data.len (IntKind.wrap .i64 (first + root))) ∧ LdW none (shInt .u64) h3 (sat data.base 1 (IntKind.wrap .i64 (first + root))) fun x3 =>
 ((InB data.base data.len (IntKind.wrap .i64 (first + root))) ∧ StW h3 (sat data.base 1 (IntKind.wrap .i64 (first + root))) [(.int .u64 x2)] (fun h4 =>
 ((InB data.base data.len (IntKind.wrap .i64 (first + child))) ∧ StW h4 (sat data.base 1 (IntKind.wrap .i64 (first + child))) [(.int .u64 x3)] (fun h5 =>
 again child h5)))))))) h2))))) lo h

def slices_nextPowerOfTwo_w (P : Program) (length : Int) (Q : (Int → (Hp → Prop))) (h : Hp) : Prop :=
 CallT P n_math_bits_Len [(.int .u64 (IntKind.wrap .u64 length))] (shInt .i64) (fun r h1 =>
 ((0 : Int) ≤ r ∧ Q (shlI .u64 (1 : Int) r) h1)) h

def slices_xorshift_Next_w (P : Program) (r : Option Addr) (Q : (Int → (Hp → Prop))) (h : Hp) : Prop :=
 NilW none r fun p =>
 LdW none (shInt .u64) h p fun x =>
 NilW none r fun p1 =>
 LdW none (shInt .u64) h p1 fun x1 =>
 ((0 : Int) ≤ (13 : Int) ∧ NilW none r fun p2 =>
 StW h p2 [(.int .u64 (bitsI .xor .u64 x (shlI .u64 x1 (13 : Int))))] (fun h1 =>
 NilW none r fun p3 =>
 LdW none (shInt .u64) h1 p3 fun x2 =>
 NilW none r fun p4 =>
 LdW none (shInt .u64) h1 p4 fun x3 =>
 ((0 : Int) ≤ (7 : Int) ∧ NilW none r fun p5 =>
 StW h1 p5 [(.int .u64 (bitsI .xor .u64 x2 (shrI .u64 x3 (7 : Int))))] (fun h2 =>
 NilW none r fun p6 =>
 LdW none (shInt .u64) h2 p6 fun x4 =>
 NilW none r fun p7 =>
 LdW none (shInt .u64) h2 p7 fun x5 =>
 ((0 : Int) ≤ (17 : Int) ∧ NilW none r fun p8 =>
 StW h2 p8 [(.int .u64 (bitsI .xor .u64 x4 (shlI .u64 x5 (17 : Int))))] (fun h3 =>
 NilW none r fun p9 =>
 LdW none (shInt .u64) h3 p9 fun x6 =>
 Q x6 h3))))))

def slices_medianAdjacentOrdered_uint64_w (P : Program) (data : Sl) (a : Int) (swaps : Option Addr) (Q : (Int → (Hp → Prop))) (h : Hp) : Prop :=
 CallT P n_slices_medianOrdered_uint64 [data.v, (.int .i64 (IntKind.wrap .i64 (a - (1 : Int)))), (.int .i64 a), (.int .i64 (IntKind.wrap .i64 (a + (1 : Int)))), (.pointer swaps)] (shInt .i64) (fun r h1 =>
 Q r h1) h

def slices_medianOrdered_uint64_w (P : Program) (data : Sl) (a : Int) (b : Int) (c : Int) (swaps : Option Addr) (Q : (Int → (Hp → Prop))) (h : Hp) : Prop :=
 Call2 P n_slices_order2Ordered_uint64 [data.v, (.int .i64 a), (.int .i64 b), (.pointer swaps)] (shInt .i64) (shInt .i64) (fun r r1 h1 =>
 Call2 P n_slices_order2Ordered_uint64 [data.v, (.int .i64 r1), (.int .i64 c), (.pointer swaps)] (shInt .i64) (shInt .i64) (fun r2 r3 h2 =>
 Call2 P n_slices_order2Ordered_uint64 [data.v, (.int .i64 r), (.int .i64 r2), (.pointer swaps)] (shInt .i64) (shInt .i64) (fun r4 r5 h3 =>
 Q r5 h3) h2) h1) h

def cmp_isNaN_uint64_w (P : Program) (x : Int) (Q : (Bool → (Hp → Prop))) (h : Hp) : Prop :=
 Q (x != x) h

def slices_siftDownOrdered_int_w (P : Program) (data : Sl) (lo : Int) (hi : Int) (first : Int) (Q : (Hp → Prop)) (h : Hp) : Prop :=
 LoopW1 (α1 := Int) (fun again root h1 =>
 (if (decide ((IntKind.wrap .i64 ((IntKind.wrap .i64 ((2 : Int) * root)) + (1 : Int))) ≥ hi)) = true then
 Q h1
 else
 JoinW1 (α1 := Int) (fun k =>
 (((decide ((IntKind.wrap .i64 ((IntKind.wrap .i64 ((IntKind.wrap .i64 ((2 : Int) * root)) + (1 : Int))) + (1 : Int))) < hi)) = true → (InB data.base data.len (IntKind.wrap .i64 (first + (IntKind.wrap .i64 ((IntKind.wrap .i64 ((2 : Int) * root)) + (1 : Int))))))) ∧ LdW (some (decide ((IntKind.wrap .i64 ((IntKind.wrap .i64 ((IntKind.wrap .i64 ((2 : Int) * root)) + (1 : Int))) + (1 : Int))) < hi))) (shInt .i64) h1 (sat data.base 1 (IntKind.wrap .i64 (first + (IntKind.wrap .i64 ((IntKind.wrap .i64 ((2 : Int) * root)) + (1 : Int)))))) fun x =>
 (((decide ((IntKind.wrap .i64 ((IntKind.wrap .i64 ((IntKind.wrap .i64 ((2 : Int) * root)) + (1 : Int))) + (1 : Int))) < hi)) = true → (InB data.base data.len (IntKind.wrap .i64 ((IntKind.wrap .i64 (first + (IntKind.wrap .i64 ((IntKind.wrap .i64 ((2 : Int) * root)) + (1 : Int))))) + (1 : Int))))) ∧ LdW (some (decide ((IntKind.wrap .i64 ((IntKind.wrap .i64 ((IntKind.wrap .i64 ((2 : Int) * root)) + (1 : Int))) + (1 : Int))) < hi))) (shInt .i64) h1 (sat data.base 1 (IntKind.wrap .i64 ((IntKind.wrap .i64 (first + (IntKind.wrap .i64 ((IntKind.wrap .i64 ((2 : Int) * root)) + (1 : Int))))) + (1 : Int)))) fun x1 =>
 EffC (some (decide ((IntKind.wrap .i64 ((IntKind.wrap .i64 ((IntKind.wrap .i64 ((2 : Int) * root)) + (1 : Int))) + (1 : Int))) < hi))) (CallT P n_cmp_Less_int [(.int .i64 x), (.int .i64 x1)] shBool) (fun r h2 =>
 LetW ((decide ((IntKind.wrap .i64 ((IntKind.wrap .i64 ((IntKind.wrap .i64 ((2 : Int) * root)) + (1 : Int))) + (1 : Int))) < hi)) && r) fun y =>
 (if y = true then
 k (IntKind.wrap .i64 ((IntKind.wrap .i64 ((IntKind.wrap .i64 ((2 : Int) * root)) + (1 : Int))) + (1 : Int))) h2
 else
 k (IntKind.wrap .i64 ((IntKind.wrap .i64 ((2 : Int) * root)) + (1 : Int))) h2)) h1)))
 (fun child h2 =>
 ((InB data.base data.len (IntKind.wrap .i64 (first + root))) ∧ LdW none (shInt .i64) h2 (sat data.base 1 (IntKind.wrap .i64 (first + root))) fun x =>
 ((InB data.base data.len (IntKind.wrap .i64 (first + child))) ∧ LdW none (shInt .i64) h2 (sat data.base 1 (IntKind.wrap .i64 (first + child))) fun x1 =>
 CallT P n_cmp_Less_int [(.int .i64 x), (.int .i64 x1)] shBool (fun r h3 =>
 (if (!r) = true then
 Q h3
 else
 ((InB data.base data.len (IntKind.wrap .i64 (first + child))) ∧ LdW none (shInt .i64) h3 (sat data.base 1 (IntKind.wrap .i64 (first + child))) fun x2 =>
 ((InB data.base data.len (IntKind.wrap .i64 (first + root))) ∧ LdW none (shInt .i64) h3 (sat data.base 1 (IntKind.wrap .i64 (first + root))) fun x3 =>
 ((InB data.base data.len (IntKind.wrap .i64 (first + root))) ∧ StW h3 (sat data.base 1 (IntKind.wrap .i64 (first + root))) [(.int .i64 x2)] (fun h4 =>
 ((InB data.base data.len (IntKind.wrap .i64 (first + child))) ∧ StW h4 (sat data.base 1 (IntKind.wrap .i64 (first + child))) [(.int .i64 x3)] (fun h5 =>
 again child h5)))))))) h2))))) lo h

def slices_medianAdjacentOrdered_int_w (P : Program) (data : Sl) (a : Int) (swaps : Option Addr) (Q : (Int → (Hp → Prop))) (h : Hp) : Prop :=
 CallT P n_slices_medianOrdered_int [data.v, (.int .i64 (IntKind.wrap .i64 (a - (1 : Int)))), (.int .i64 a), (.int .i64 (IntKind.wrap .i64 (a + (1 : Int)))), (.pointer swaps)] (shInt .i64) (fun r h1 =>
 Q r h1) h

def slices_medianOrdered_int_w (P : Program) (data : Sl) (a : Int) (b : Int) (c : Int) (swaps : Option Addr) (Q : (Int → (Hp → Prop))) (h : Hp) : Prop :=
 Call2 P n_slices_order2Ordered_int [data.v, (.int .i64 a), (.int .i64 b), (.pointer swaps)] (shInt .i64) (shInt .i64) (fun r r1 h1 =>
 Call2 P n_slices_order2Ordered_int [data.v, (.int .i64 r1), (.int .i64 c), (.pointer swaps)] (shInt .i64) (shInt .i64) (fun r2 r3 h2 =>
 Call2 P n_slices_order2Ordered_int [data.v, (.int .i64 r), (.int .i64 r2), (.pointer swaps)] (shInt .i64) (shInt .i64) (fun r4 r5 h3 =>
 Q r5 h3) h2) h1) h

def cmp_isNaN_int_w (P : Program) (x : Int) (Q : (Bool → (Hp → Prop))) (h : Hp) : Prop :=
 Q (x != x) h

def slices_order2Ordered_uint64_w (P : Program) (data : Sl) (a : Int) (b : Int) (swaps : Option Addr) (Q : (Int → (Int → (Hp → Prop)))) (h : Hp) : Prop :=
 ((InB data.base data.len b) ∧ LdW none (shInt .u64) h (sat data.base 1 b) fun x =>
 ((InB data.base data.len a) ∧ LdW none (shInt .u64) h (sat data.base 1 a) fun x1 =>
 CallT P n_cmp_Less_uint64 [(.int .u64 x), (.int .u64 x1)] shBool (fun r h1 =>
 (if r = true then
 NilW none swaps fun p =>
 LdW none (shInt .i64) h1 p fun x2 =>
 NilW none swaps fun p1 =>
 StW h1 p1 [(.int .i64 (IntKind.wrap .i64 (x2 + (1 : Int))))] (fun h2 =>
 Q b a h2)
 else
 Q a b h1)) h))

def slices_order2Ordered_int_w (P : Program) (data : Sl) (a : Int) (b : Int) (swaps : Option Addr) (Q : (Int → (Int → (Hp → Prop)))) (h : Hp) : Prop :=
 ((InB data.base data.len b) ∧ LdW none (shInt .i64) h (sat data.base 1 b) fun x =>
 ((InB data.base data.len a) ∧ LdW none (shInt .i64) h (sat data.base 1 a) fun x1 =>
 CallT P n_cmp_Less_int [(.int .i64 x), (.int .i64 x1)] shBool (fun r h1 =>
 (if r = true then
 NilW none swaps fun p =>
 LdW none (shInt .i64) h1 p fun x2 =>
 NilW none swaps fun p1 =>
 StW h1 p1 [(.int .i64 (IntKind.wrap .i64 (x2 + (1 : Int))))] (fun h2 =>
 Q b a h2)
 else
 Q a b h1)) h))

end Lf

/-
  Tables: what the functions come to.
-/
namespace Lf
open Go

abbrev Us (h : Hp) (l : Sl) (xs : List Int) : Prop := Rs h (shInt .u64) 1 l xs
abbrev Is (h : Hp) (l : Sl) (xs : List Int) : Prop := Rs h (shInt .i64) 1 l xs

theorem may_ok {P : Program} {l : Sl} {xs : List Int} {Q : Int → Int → Hp → Prop} {h : Hp} (r : Us h l xs) (hl : xs.length ≤ 8) (asc : xs.Pairwise (· < ·)) (h0 : xs = [] → Q 1 0 h) (h1 : xs ≠ [] → Q 0 0 h) : table_May_w P l Q h := by
  unfold table_May_w
  have hlen := r.1
  split
  · rename_i e
    have e : (l.len : Int) = 0 := by simpa using e
    exact h0 (List.length_eq_zero_iff.1 (by omega))
  · rename_i e
    have e : ¬ (l.len : Int) = 0 := by simpa using e
    split
    · rename_i e2
      have e2 : (l.len : Int) > 8 := by simpa using e2
      omega
    · refine LoopW1.intro (fun i k => k = h ∧ 1 ≤ i ∧ i ≤ (xs.length : Int)) (fun i _ => (xs.length - i).toNat) ⟨rfl, by omega, by omega⟩ ?_
      rintro i k ⟨rfl, hi1, hi2⟩
      split
      · rename_i e3
        have e3 : i < (l.len : Int) := by simpa using e3
        have hw : IntKind.wrap .i64 (i - 1) = i - 1 := wrap64 (by omega) (by omega)
        rw [hw]
        refine r.get (fun _ => rfl) (by omega) (by omega) (by omega) fun (x : Int) hx => ?_
        refine r.get (fun _ => rfl) (by omega) (by omega) (by omega) fun (y : Int) hy => ?_
        have hxy : y < x := by
          have e4 : (i - 1).toNat < i.toNat := by omega
          have hxl := (List.getElem?_eq_some_iff.1 hx)
          have hyl := (List.getElem?_eq_some_iff.1 hy)
          obtain ⟨hx1, hx2⟩ := hxl
          obtain ⟨hy1, hy2⟩ := hyl
          rw [← hx2, ← hy2]
          exact List.pairwise_iff_getElem.1 asc _ _ hy1 hx1 e4
        rw [if_neg (show ¬ ((x == y) = true) by simp; omega)]
        refine r.get (fun _ => rfl) (by omega) (by omega) (by omega) fun (x' : Int) hx' => ?_
        rw [hx] at hx'; cases hx'
        refine r.get (fun _ => rfl) (by omega) (by omega) (by omega) fun (y' : Int) hy' => ?_
        rw [hy] at hy'; cases hy'
        rw [if_neg (show ¬ (decide (x < y) = true) by simp; omega)]
        have hw2 : IntKind.wrap .i64 (i + 1) = i + 1 := wrap64 (by omega) (by omega)
        rw [hw2]
        exact ⟨⟨rfl, by omega, by omega⟩, by omega⟩
      · exact h1 fun e4 => by rw [e4] at hlen; simp at hlen; omega

end Lf

/-
  The plain order of a list.
-/
namespace Lf
open Go

abbrev OwnU (h0 h : Hp) (l : Sl) (xs : List Int) : Prop := Own h0 h 1 (fun x => cellsL ((shInt .u64).enc x)) l xs
abbrev OwnI (h0 h : Hp) (l : Sl) (xs : List Int) : Prop := Own h0 h 1 (fun x => cellsL ((shInt .i64).enc x)) l xs

theorem canon_ok {P : Program} {l : Sl} {xs : List Int} {Q : Sl → Hp → Prop} {h : Hp} (r : Us h l xs) (hl : xs.length ≤ 1000000)
    (hq : ∀ out ys h', h ≤ h' → OwnU h h' out ys → ys.Pairwise (· < ·) → (∀ y ∈ ys, y ∈ xs) → Q out h') : firebreakref02_Canon_w P l Q h := by
  unfold firebreakref02_Canon_w
  refine new_row (xs := ([] : List Int)) (enc := fun x => cellsL ((shInt .u64).enc x)) (sz := 1) (Hp.le_refl h) rfl (fun _ => rfl) fun a h1 hle1 ho1 => ?_
  refine LoopW1.intro (fun out k => h ≤ k ∧ ∃ ys, OwnU h k out ys ∧ ys.Pairwise (· < ·) ∧ ∀ y ∈ ys, y ∈ xs) (fun out _ => xs.length + 1 - out.len) ⟨hle1, [], ho1, List.Pairwise.nil, fun y hy => by cases hy⟩ ?_
  rintro out k ⟨hle, ys, ho, hasc, hmem⟩
  have hlx := r.1
  have hly := ho.1
  have hyx : ys.length ≤ xs.length := nodup_len ys xs (asc_nodup hasc) hmem
  have rk : Us k l xs := r.mono hle
  have ro : Us k out ys := ho.rw fun _ => rfl
  refine LoopW3.intro (fun found least i k' => k' = k ∧ 0 ≤ i ∧ i ≤ (xs.length : Int) ∧ (found = true → least ∈ xs ∧ ∀ z, ys.getLast? = some z → z < least)) (fun _ _ i _ => (xs.length - i).toNat)
    ⟨rfl, by omega, by omega, fun e => by cases e⟩ ?_
  rintro found least i k' ⟨rfl, hi0, hi1, hf⟩
  split
  · rename_i e
    have e : i < (l.len : Int) := by simpa using e
    refine JoinW2.intro (fun found least k2 => k2 = k' ∧ (found = true → least ∈ xs ∧ ∀ z, ys.getLast? = some z → z < least)) ?_ ?_
    · have hwl : IntKind.wrap .i64 ((out.len : Int) - 1) = (out.len : Int) - 1 := wrap64 (by omega) (by omega)
      rw [hwl]
      refine Rs.getC rk (0 : Int) (fun _ => rfl) (by omega) (fun _ => ⟨hi0, by omega⟩) fun (x : Int) hx => ?_
      refine Rs.getC ro (0 : Int) (fun _ => rfl) (by omega) (fun hc => ?_) fun (x1 : Int) hx1 => ?_
      · have : ¬ (out.len : Int) = 0 := by simpa using hc
        omega
      refine letW ?_
      refine Rs.getC rk (0 : Int) (fun _ => rfl) (by omega) (fun _ => ⟨hi0, by omega⟩) fun (x2 : Int) hx2 => ?_
      refine letW (letW ?_)
      split
      · rename_i hy
        refine Rs.get rk (fun _ => rfl) (by omega) hi0 (by omega) fun (x3 : Int) hx3 => ?_
        refine ⟨rfl, fun _ => ⟨List.mem_of_getElem? hx3, fun z hz => ?_⟩⟩
        have hne : ¬ (out.len : Int) = 0 := fun e0 => by
          have : ys = [] := List.length_eq_zero_iff.1 (by omega)
          rw [this] at hz; cases hz
        have hc : (!((out.len : Int) == 0)) = true := by simp; omega
        have hx' := hx hc
        have hx1' := hx1 hc
        rw [hx3] at hx'; cases hx'
        have hyl : ((out.len : Int) - 1).toNat = ys.length - 1 := by omega
        rw [hyl, ← List.getLast?_eq_getElem?, hz] at hx1'
        cases hx1'
        simp at hy
        have := hy.1
        omega
      · exact ⟨rfl, hf⟩
    · rintro found1 least1 k1 ⟨rfl, hf1⟩
      have hw : IntKind.wrap .i64 (i + 1) = i + 1 := wrap64 (by omega) (by omega)
      rw [hw]
      exact ⟨⟨rfl, by omega, by omega, hf1⟩, by omega⟩
  · split
    · exact hq out ys _ hle ho hasc hmem
    · rename_i e2
      have hfd : found = true := by simpa using e2
      obtain ⟨h5, h6⟩ := hf hfd
      refine new_row (xs := [least]) (enc := fun x => cellsL ((shInt .u64).enc x)) (sz := 1) (h0 := h) hle rfl (fun _ => rfl) fun a1 h4 hle4 ho4 => ?_
      have ho' : OwnU h h4 out ys := ho.mono hle4
      refine app_own (Hp.le_trans hle hle4) ho' (ho4.rw fun _ => rfl) (fun _ => rfl) (fun _ => rfl) rfl ?_ fun l' h' hle' hown _ => ?_
      · simp; omega
      · have hsn := asc_snoc hasc h6
        have hm : ∀ y ∈ ys ++ [least], y ∈ xs := fun y hy => by
          rcases List.mem_append.1 hy with hy | hy
          · exact hmem y hy
          · rw [List.mem_singleton.1 hy]; exact h5
        have hlen := nodup_len _ xs (asc_nodup hsn) hm
        have hl' := hown.1
        simp at hlen hl'
        exact ⟨⟨hle', _, hown, hsn, hm⟩, by omega⟩

end Lf

/-
  By program: how the functions are cut.
-/
set_option maxRecDepth 100000
namespace Lf
open Go

def gosem_cut_init_p : List Nat := []
def gosem_cut_init_a : Ann := .tt
def firebreaklaw20_GraphNames_p : List Nat := []
def firebreaklaw20_GraphNames_a : Ann := .tt
def firebreaklaw20_GraphRings_p : List Nat := []
def firebreaklaw20_GraphRings_a : Ann := (.sq .tt (.sq .tt (.sq .tt (.sq .tt (.sq .tt (.sq .tt (.sq .tt (.sq .tt (.sq .tt (.sq (.sq .tt (.bk (.lp [⟨false, 7, 23⟩, ⟨false, 8, 3⟩] [] .tt))) (.sq .tt (.sq .tt (.sq .tt (.sq (.sq .tt (.bk (.lp [⟨false, 11, 3⟩] [] (.sq .tt (.sq (.bk (.sq .tt (.sq .tt (.sq (.rg [(0, []), (1, []), (2, []), (3, []), (4, []), (5, []), (6, []), (7, []), (8, []), (9, []), (10, []), (11, []), (12, []), (13, []), (14, []), (15, []), (16, []), (17, []), (18, []), (19, []), (20, []), (21, []), (22, []), (23, []), (24, []), (25, []), (26, []), (27, []), (28, []), (29, []), (30, []), (31, []), (32, [])]) .tt)))) .tt))))) (.sq (.sq .tt (.bk (.lp [⟨false, 14, 3⟩] [] .tt))) (.sq (.sq .tt (.bk (.lp [⟨false, 5, 25⟩, ⟨false, 15, 3⟩] [] .tt))) .tt))))))))))))))))
def firebreaklaw02_TableMays_p : List Nat := []
def firebreaklaw02_TableMays_a : Ann := .tt
def firebreaklaw02_TableOrder_p : List Nat := []
def firebreaklaw02_TableOrder_a : Ann := (.sq .tt (.sq .tt (.sq .tt (.sq .tt (.sq (.sq .tt (.bk (.lp [⟨false, 36, 3⟩] [] (.sq .tt (.sq .tt (.sq (.bk (.sq .tt (.sq .tt (.sq .tt (.sq (.sq .tt (.bk (.lp [⟨false, 6, 4⟩, ⟨false, 54, 3⟩] [] .tt))) .tt))))) .tt)))))) (.sq (.sq .tt (.bk (.lp [⟨false, 70, 3⟩] [] (.sq .tt (.sq .tt (.sq (.bk (.sq .tt (.sq .tt (.sq (.sq .tt (.bk (.lp [⟨false, 11, 4⟩, ⟨false, 76, 3⟩] [] .tt))) .tt)))) .tt)))))) (.sq .tt (.sq .tt (.sq .tt (.sq .tt (.sq (.sq .tt (.bk (.lp [⟨false, 114, 3⟩] [] (.sq .tt (.sq .tt (.sq (.bk (.sq .tt (.sq (.rg [(0, []), (1, []), (3, []), (4, []), (5, []), (6, []), (7, []), (2, [7]), (8, []), (9, []), (10, [])]) (.sq .tt (.bk (.lp [⟨false, 128, 3⟩] [] (.sq .tt (.sq .tt (.sq (.bk (.sq .tt (.sq .tt (.sq .tt (.bk (.lp [⟨false, 185, 3⟩] [] .tt)))))) .tt))))))))) .tt)))))) .tt)))))))))))
def firebreaklaw02_TableKeeps_p : List Nat := []
def firebreaklaw02_TableKeeps_a : Ann := (.sq .tt (.sq .tt (.sq .tt (.sq .tt (.sq .tt (.sq .tt (.sq .tt (.sq .tt (.sq .tt (.sq (.sq .tt (.bk (.lp [⟨false, 54, 3⟩] [] .tt))) (.sq .tt (.sq .tt (.sq (.sq .tt (.bk (.lp [⟨false, 82, 3⟩] [] .tt))) (.sq (.sq .tt (.bk (.lp [⟨false, 6, 33⟩, ⟨false, 89, 3⟩] [] .tt))) (.sq .tt (.sq .tt (.sq .tt (.sq (.sq .tt (.bk (.lp [⟨false, 14, 48⟩, ⟨false, 109, 3⟩] [] .tt))) (.sq .tt (.sq (.sq .tt (.bk (.lp [⟨false, 15, 48⟩, ⟨false, 128, 3⟩] [] (.sq .tt (.sq .tt (.sq (.bk (.sq .tt (.sq (.sq .tt (.bk (.lp [⟨false, 135, 3⟩] [] .tt))) (.sq (.sq .tt (.bk (.lp [⟨false, 17, 25⟩, ⟨false, 144, 3⟩] [] .tt))) .tt)))) .tt)))))) (.sq (.sq .tt (.bk (.lp [⟨false, 159, 3⟩] [] (.sq .tt (.sq .tt (.sq (.bk (.sq .tt (.sq .tt (.bk (.lp [⟨false, 166, 3⟩] [] .tt))))) .tt)))))) .tt)))))))))))))))))))))
def firebreaklaw20_fixed_p : List Nat := []
def firebreaklaw20_fixed_a : Ann := .tt
def firebreakref20_Ring_p : List Nat := []
def firebreakref20_Ring_a : Ann := (.sq .tt (.sq .tt (.sq .tt (.sq (.sq .tt (.bk (.lp [⟨false, 4, 25⟩] [] .tt))) (.sq .tt (.sq .tt (.sq (.sq .tt (.bk (.lp [⟨false, 7, 3⟩] [] (.sq .tt (.sq (.bk (.sq .tt (.sq (.sq .tt (.bk (.lp [⟨false, 8, 3⟩, ⟨false, 9, 4⟩] [] (.sq .tt (.bj [⟨false, 8, 3⟩, ⟨false, 9, 4⟩] [] .tt))))) .tt))) .tt))))) .tt)))))))
def firebreaklaw20_ints_p : List Nat := []
def firebreaklaw20_ints_a : Ann := (.sq .tt (.sq .tt (.sq (.sq .tt (.bk (.lp [⟨false, 5, 3⟩] [] (.sq .tt (.sq (.bk (.sq (.rg [(0, []), (1, []), (2, []), (3, []), (4, []), (5, []), (6, []), (7, []), (8, [])]) .tt)) .tt))))) .tt)))
def firebreaklaw20_edges_p : List Nat := []
def firebreaklaw20_edges_a : Ann := (.sq .tt (.sq .tt (.sq (.sq .tt (.bk (.lp [⟨false, 5, 3⟩] [] (.sq .tt (.sq (.bk (.sq (.rg [(0, []), (1, []), (2, []), (3, []), (4, []), (5, []), (6, []), (7, []), (8, [])]) .tt)) .tt))))) .tt)))
def firebreakref20_Next_p : List Nat := []
def firebreakref20_Next_a : Ann := (.sq .tt (.sq .tt (.sq (.sq .tt (.bk (.lp [⟨false, 4, 3⟩] [] (.sq .tt (.sq (.bj [] [] (.sq .tt (.sq .tt (.sq (.rg [(0, []), (1, []), (2, []), (3, []), (4, []), (5, []), (6, []), (7, []), (8, []), (9, []), (10, []), (11, [])]) .tt)))) .tt))))) .tt)))
def firebreaklaw02_awake_p : List Nat := []
def firebreaklaw02_awake_a : Ann := .tt
def firebreaklaw02_short_p : List Nat := []
def firebreaklaw02_short_a : Ann := .tt
def table_May_p : List Nat := []
def table_May_a : Ann := (.sq .tt (.sq .tt (.sq (.sq .tt (.bk (.lp [⟨false, 4, 3⟩] [] (.sq .tt (.sq (.bk (.bk (.sq (.rg [(0, []), (1, []), (2, []), (3, []), (4, []), (5, []), (6, []), (7, []), (8, []), (9, []), (10, [])]) (.sq .tt (.sq (.rg [(0, []), (1, []), (2, []), (3, []), (4, []), (5, []), (6, []), (7, []), (8, []), (9, []), (10, [])]) .tt))))) .tt))))) .tt)))
def firebreakref02_May_p : List Nat := []
def firebreakref02_May_a : Ann := (.sq .tt (.sq .tt (.sq .tt (.sq (.sq .tt (.bk (.lp [⟨false, 4, 3⟩] [] (.sq .tt (.sq (.bk (.sq (.sq (.rg [(0, []), (1, []), (2, []), (3, []), (4, []), (5, []), (6, []), (7, []), (8, []), (9, [])]) .tt) (.sq (.rg [(0, []), (1, []), (2, []), (3, []), (4, []), (5, []), (6, []), (7, []), (8, []), (9, [])]) .tt))) .tt))))) .tt))))
def table_New_p : List Nat := []
def table_New_a : Ann := (.sq .tt (.sq .tt (.sq .tt (.sq (.sq .tt (.bk (.lp [⟨false, 29, 3⟩] [] .tt))) .tt))))
def firebreakref02_SameLabels_p : List Nat := []
def firebreakref02_SameLabels_a : Ann := (.sq .tt (.sq .tt (.sq (.sq .tt (.bk (.lp [⟨false, 5, 3⟩] [] (.sq .tt (.sq (.bk (.sq (.rg [(0, []), (1, []), (2, []), (3, []), (4, []), (5, []), (6, []), (7, []), (8, [])]) .tt)) .tt))))) .tt)))
def table_Canon_p : List Nat := []
def table_Canon_a : Ann := .tt
def firebreakref02_Canon_p : List Nat := []
def firebreakref02_Canon_a : Ann := (.sq .tt (.sq .tt (.bk (.lp [⟨false, 3, 33⟩] [] (.bk (.sq .tt (.sq .tt (.sq (.sq .tt (.bk (.lp [⟨false, 4, 4⟩, ⟨false, 5, 43⟩, ⟨false, 6, 3⟩] [] (.sq .tt (.sq (.bj [⟨false, 4, 4⟩, ⟨false, 5, 43⟩] [] (.sq (.rg [(0, []), (1, []), (2, []), (3, []), (4, []), (5, []), (6, []), (7, []), (8, []), (9, []), (10, []), (11, []), (12, []), (13, []), (14, []), (15, []), (16, [])]) .tt)) .tt))))) .tt))))))))
def table_Table_Up_p : List Nat := []
def table_Table_Up_a : Ann := .tt
def table_Table_Down_p : List Nat := []
def table_Table_Down_a : Ann := .tt
def table_Table_Flows_p : List Nat := []
def table_Table_Flows_a : Ann := (.sq .tt (.sq (.rg [(0, []), (1, []), (2, []), (3, []), (4, []), (5, []), (6, []), (7, []), (8, []), (9, []), (10, []), (11, []), (12, []), (13, []), (14, []), (15, []), (16, []), (17, []), (18, []), (19, []), (20, []), (21, []), (22, []), (23, []), (24, []), (25, [])]) .tt))
def firebreaklaw02_has_p : List Nat := []
def firebreaklaw02_has_a : Ann := (.sq .tt (.sq (.sq .tt (.bk (.lp [⟨false, 9, 3⟩] [] .tt))) .tt))
def firebreaklaw02_wide_p : List Nat := []
def firebreaklaw02_wide_a : Ann := .tt
def firebreaklaw02_kept_p : List Nat := []
def firebreaklaw02_kept_a : Ann := .tt
def firebreakref02_SameInts_p : List Nat := []
def firebreakref02_SameInts_a : Ann := (.sq .tt (.sq .tt (.sq (.sq .tt (.bk (.lp [⟨false, 5, 3⟩] [] (.sq .tt (.sq (.bk (.sq (.rg [(0, []), (1, []), (2, []), (3, []), (4, []), (5, []), (6, []), (7, []), (8, [])]) .tt)) .tt))))) .tt)))
def firebreakref02_Down_p : List Nat := []
def firebreakref02_Down_a : Ann := (.sq .tt (.sq .tt (.sq (.sq .tt (.bk (.lp [⟨false, 5, 25⟩, ⟨false, 6, 3⟩] [] (.sq .tt (.sq (.bj [⟨false, 5, 25⟩] [] .tt) .tt))))) .tt)))
def firebreakref02_Up_p : List Nat := []
def firebreakref02_Up_a : Ann := (.sq .tt (.sq .tt (.sq (.sq .tt (.bk (.lp [⟨false, 5, 25⟩, ⟨false, 6, 3⟩] [] (.sq .tt (.sq (.bj [⟨false, 5, 25⟩] [] .tt) .tt))))) .tt)))
def firebreakref20_sorted_p : List Nat := []
def firebreakref20_sorted_a : Ann := (.sq .tt (.sq .tt (.sq .tt (.sq .tt (.sq .tt (.sq (.bk (.lp [⟨false, 3, 25⟩, ⟨false, 4, 25⟩, ⟨false, 5, 25⟩] [] (.sq .tt (.bj [⟨false, 3, 25⟩, ⟨false, 4, 25⟩, ⟨false, 5, 25⟩] [] (.sq (.sq (.rg [(0, []), (1, []), (2, []), (3, []), (4, []), (5, []), (6, []), (7, []), (8, []), (9, []), (10, []), (11, []), (12, []), (13, []), (14, []), (15, []), (16, [])]) .tt) .tt))))) .tt))))))
def firebreakref20_told_p : List Nat := []
def firebreakref20_told_a : Ann := (.sq .tt (.sq .tt (.sq (.sq .tt (.bk (.lp [⟨false, 5, 3⟩, ⟨false, 6, 3⟩] [] .tt))) (.sq .tt (.sq (.sq .tt (.bk (.lp [⟨false, 7, 25⟩, ⟨false, 8, 3⟩] [] .tt))) .tt)))))
def slices_Sorted_int_p : List Nat := []
def slices_Sorted_int_a : Ann := .tt
def maps_Keys_map_int_int_int_int_p : List Nat := []
def maps_Keys_map_int_int_int_int_a : Ann := .tt
def graph_turned_p : List Nat := []
def graph_turned_a : Ann := (.sq .tt (.sq .tt (.sq (.rg [(0, []), (1, []), (2, []), (4, []), (5, []), (6, []), (3, []), (7, []), (8, [])]) .tt)))
def slices_Index_int_int_p : List Nat := []
def slices_Index_int_int_a : Ann := (.sq .tt (.sq (.sq .tt (.bk (.lp [⟨false, 8, 3⟩] [] .tt))) .tt))
def table_Table_Len_p : List Nat := []
def table_Table_Len_a : Ann := .tt
def table_Table_Label_p : List Nat := []
def table_Table_Label_a : Ann := .tt
def table_Table_Index_p : List Nat := []
def table_Table_Index_a : Ann := .tt
def slices_Clone_uint64_uint64_p : List Nat := []
def slices_Clone_uint64_uint64_a : Ann := .tt
def slices_Sort_uint64_uint64_p : List Nat := []
def slices_Sort_uint64_uint64_a : Ann := .tt
def slices_Compact_uint64_uint64_p : List Nat := []
def slices_Compact_uint64_uint64_a : Ann := (.sq .tt (.sq .tt (.sq (.sq .tt (.bk (.lp [⟨false, 3, 3⟩] [] (.sq .tt (.sq (.bk (.sq (.rg [(0, []), (1, []), (2, []), (3, []), (4, []), (5, []), (6, []), (7, []), (8, []), (9, [])]) (.sq (.sq .tt (.sq (.sq .tt (.bk (.lp [⟨false, 3, 3⟩, ⟨false, 5, 3⟩] [] (.sq .tt (.sq (.bj [⟨false, 3, 3⟩] [] (.sq (.rg [(0, []), (1, []), (2, []), (3, []), (4, []), (5, []), (6, []), (7, []), (8, []), (9, [])]) .tt)) .tt))))) .tt)) .tt))) .tt))))) .tt)))
def table_Table_those_p : List Nat := []
def table_Table_those_a : Ann := (.sq .tt (.sq .tt (.sq (.sq .tt (.bk (.lp [⟨false, 5, 25⟩, ⟨false, 12, 3⟩] [] (.sq .tt (.sq .tt (.sq (.bj [⟨false, 5, 25⟩] [] .tt) .tt)))))) .tt)))
def table_Table_Up_1_p : List Nat := []
def table_Table_Up_1_a : Ann := .tt
def table_Table_Down_1_p : List Nat := []
def table_Table_Down_1_a : Ann := (.sq .tt (.sq (.rg [(0, []), (1, []), (2, []), (3, []), (4, []), (5, []), (6, []), (7, []), (8, []), (9, [])]) .tt))
def label_Flows_p : List Nat := []
def label_Flows_a : Ann := .tt
def table_Table_is_p : List Nat := []
def table_Table_is_a : Ann := .tt
def firebreakref01_Flows_p : List Nat := []
def firebreakref01_Flows_a : Ann := (.sq .tt (.sq (.sq .tt (.bk (.lp [⟨false, 5, 3⟩] [] .tt))) .tt))
def firebreakref02_Flows_p : List Nat := []
def firebreakref02_Flows_a : Ann := (.sq .tt (.sq (.rg [(0, []), (1, []), (2, []), (3, []), (4, []), (5, []), (6, []), (7, []), (8, []), (9, []), (10, []), (11, []), (12, []), (13, []), (14, []), (15, []), (16, []), (17, []), (18, []), (19, []), (20, []), (21, []), (22, []), (23, []), (24, []), (25, []), (26, []), (27, []), (28, []), (29, [])]) .tt))
def slices_Collect_int_p : List Nat := []
def slices_Collect_int_a : Ann := .tt
def slices_Sort_int_int_p : List Nat := []
def slices_Sort_int_int_a : Ann := .tt
def maps_Keys_map_int_int_int_int_1_p : List Nat := []
def maps_Keys_map_int_int_int_int_1_a : Ann := (.sq .tt (.bk (.lp [] [] .tt)))
def slices_Min_int_int_p : List Nat := []
def slices_Min_int_int_a : Ann := (.sq .tt (.jn [] [] .tt (.sq .tt (.sq (.sq .tt (.bk (.lp [⟨false, 3, 3⟩, ⟨false, 4, 3⟩] [] .tt))) .tt))))
def slices_Clone_int_int_p : List Nat := []
def slices_Clone_int_int_a : Ann := .tt
def slices_pdqsortOrdered_uint64_p : List Nat := []
def slices_pdqsortOrdered_uint64_a : Ann := (.sq .tt (.sq .tt (.bk (.lp [⟨false, 1, 3⟩, ⟨false, 2, 3⟩, ⟨false, 3, 3⟩, ⟨false, 8, 4⟩, ⟨false, 9, 4⟩] [] (.bj [⟨false, 1, 3⟩, ⟨false, 2, 3⟩, ⟨false, 3, 3⟩, ⟨false, 8, 4⟩, ⟨false, 9, 4⟩] [] (.sq .tt (.sq .tt (.sq .tt (.jn [⟨false, 3, 3⟩] [] .tt (.sq .tt (.jn [⟨false, 11, 3⟩, ⟨false, 12, 80⟩] [] .tt (.jn [] [] .tt (.sq (.sq (.rg [(0, []), (1, []), (2, []), (3, []), (4, []), (5, []), (6, []), (7, []), (8, []), (9, []), (10, []), (11, []), (12, []), (13, []), (14, [])]) .tt) .tt)))))))))))))
def math_bits_Len_p : List Nat := []
def math_bits_Len_a : Ann := .tt
def firebreakref01_Has_p : List Nat := []
def firebreakref01_Has_a : Ann := .tt
def slices_pdqsortOrdered_int_p : List Nat := []
def slices_pdqsortOrdered_int_a : Ann := (.sq .tt (.sq .tt (.bk (.lp [⟨false, 1, 3⟩, ⟨false, 2, 3⟩, ⟨false, 3, 3⟩, ⟨false, 8, 4⟩, ⟨false, 9, 4⟩] [] (.bj [⟨false, 1, 3⟩, ⟨false, 2, 3⟩, ⟨false, 3, 3⟩, ⟨false, 8, 4⟩, ⟨false, 9, 4⟩] [] (.sq .tt (.sq .tt (.sq .tt (.jn [⟨false, 3, 3⟩] [] .tt (.sq .tt (.jn [⟨false, 11, 3⟩, ⟨false, 12, 80⟩] [] .tt (.jn [] [] .tt (.sq (.sq (.rg [(0, []), (1, []), (2, []), (3, []), (4, []), (5, []), (6, []), (7, []), (8, []), (9, []), (10, []), (11, []), (12, []), (13, []), (14, [])]) .tt) .tt)))))))))))))
def slices_insertionSortOrdered_uint64_p : List Nat := []
def slices_insertionSortOrdered_uint64_a : Ann := (.sq .tt (.bk (.lp [⟨false, 6, 3⟩] [] (.sq .tt (.sq (.bk (.sq .tt (.bk (.lp [⟨false, 7, 3⟩] [] (.sq (.sq (.rg [(0, []), (1, []), (2, []), (3, []), (4, []), (5, []), (6, []), (7, []), (8, []), (9, []), (10, []), (11, []), (12, []), (13, []), (14, [])]) .tt) (.sq (.bk (.rg [(0, []), (1, []), (2, []), (3, []), (4, []), (5, []), (6, []), (7, []), (8, []), (9, []), (10, []), (11, []), (12, []), (13, []), (14, []), (15, []), (16, []), (17, [])])) .tt)))))) .tt)))))
def slices_heapSortOrdered_uint64_p : List Nat := []
def slices_heapSortOrdered_uint64_a : Ann := (.sq .tt (.sq .tt (.sq .tt (.sq (.sq .tt (.bk (.lp [⟨false, 9, 3⟩] [] .tt))) (.sq .tt (.bk (.lp [⟨false, 10, 3⟩] [] (.sq .tt (.sq (.bk (.sq (.rg [(0, []), (1, []), (2, []), (3, []), (4, []), (5, []), (6, []), (7, []), (8, []), (9, []), (10, []), (11, []), (12, []), (13, []), (14, []), (15, []), (16, []), (17, []), (18, []), (19, [])]) .tt)) .tt)))))))))
def slices_breakPatternsOrdered_uint64_p : List Nat := []
def slices_breakPatternsOrdered_uint64_a : Ann := (.sq .tt (.sq .tt (.sq (.sq .tt (.sq .tt (.sq .tt (.bk (.lp [⟨false, 9, 3⟩] [] (.sq .tt (.sq (.bk (.sq .tt (.jn [⟨false, 10, 3⟩] [] .tt (.rg [(0, []), (1, []), (2, []), (3, []), (4, []), (5, []), (6, []), (7, []), (8, []), (9, []), (10, []), (11, []), (12, []), (13, []), (14, []), (15, []), (16, []), (17, []), (18, []), (19, [])])))) .tt))))))) .tt)))
def slices_choosePivotOrdered_uint64_p : List Nat := []
def slices_choosePivotOrdered_uint64_a : Ann := (.sq .tt (.sq .tt (.sq .tt (.sq .tt (.sq .tt (.sq .tt (.sq (.sq .tt (.sq (.jn [⟨false, 10, 3⟩, ⟨false, 11, 3⟩, ⟨false, 12, 3⟩] [] .tt .tt) .tt)) .tt)))))))
def slices_reverseRangeOrdered_uint64_p : List Nat := []
def slices_reverseRangeOrdered_uint64_a : Ann := (.sq .tt (.sq .tt (.bk (.lp [⟨false, 6, 3⟩, ⟨false, 7, 3⟩] [] (.sq .tt (.bk (.sq (.rg [(0, []), (1, []), (2, []), (3, []), (4, []), (5, []), (6, []), (7, []), (8, []), (9, []), (10, []), (11, []), (12, []), (13, []), (14, []), (15, [])]) .tt)))))))
def slices_partialInsertionSortOrdered_uint64_p : List Nat := []
def slices_partialInsertionSortOrdered_uint64_a : Ann := (.sq .tt (.sq .tt (.sq (.sq .tt (.bk (.lp [⟨false, 7, 3⟩, ⟨false, 8, 3⟩] [] (.sq .tt (.sq (.bj [⟨false, 7, 3⟩] [] (.sq (.bk (.lp [⟨false, 7, 3⟩] [] (.sq (.sq (.rg [(0, []), (1, []), (2, []), (3, []), (4, []), (5, []), (6, []), (7, []), (8, []), (9, []), (10, []), (11, []), (12, []), (13, []), (14, []), (15, [])]) .tt) .tt))) (.sq .tt (.sq .tt (.sq (.rg [(0, []), (1, []), (2, []), (3, []), (4, []), (5, []), (6, []), (7, []), (8, []), (9, []), (10, []), (11, []), (12, []), (13, []), (14, []), (15, []), (16, []), (17, [])]) (.jn [] [] (.sq .tt (.sq (.sq .tt (.bj [] [] (.lp [⟨false, 9, 3⟩] [] (.sq .tt (.sq (.bk (.sq (.sq (.rg [(0, []), (1, []), (2, []), (3, []), (4, []), (5, []), (6, []), (7, []), (8, []), (9, []), (10, [])]) .tt) (.rg [(0, []), (1, []), (2, []), (3, []), (4, []), (5, []), (6, []), (7, []), (8, []), (9, []), (10, []), (11, []), (12, []), (13, []), (14, []), (15, []), (16, []), (17, [])]))) .tt))))) .tt)) (.sq .tt (.sq (.sq .tt (.bj [] [] (.lp [⟨false, 10, 3⟩] [] (.sq .tt (.sq (.bk (.sq (.sq (.rg [(0, []), (1, []), (2, []), (3, []), (4, []), (5, []), (6, []), (7, []), (8, []), (9, []), (10, [])]) .tt) (.rg [(0, []), (1, []), (2, []), (3, []), (4, []), (5, []), (6, []), (7, []), (8, []), (9, []), (10, []), (11, []), (12, []), (13, []), (14, []), (15, []), (16, []), (17, [])]))) .tt))))) .tt)))))))) .tt))))) .tt)))
def cmp_Less_uint64_p : List Nat := []
def cmp_Less_uint64_a : Ann := .tt
def slices_partitionEqualOrdered_uint64_p : List Nat := []
def slices_partitionEqualOrdered_uint64_a : Ann := (.sq .tt (.sq (.rg [(0, []), (1, []), (2, []), (3, []), (4, []), (5, []), (6, []), (7, []), (8, []), (9, []), (10, []), (11, []), (12, []), (13, []), (14, []), (15, [])]) (.sq .tt (.sq (.bk (.lp [⟨false, 9, 3⟩, ⟨false, 10, 3⟩] [] (.bk (.sq (.bk (.lp [⟨false, 9, 3⟩] [] (.sq (.sq (.rg [(0, []), (1, []), (2, []), (3, []), (4, []), (5, []), (6, []), (7, []), (8, []), (9, []), (10, []), (11, []), (12, []), (13, []), (14, [])]) .tt) .tt))) (.sq (.bk (.lp [⟨false, 10, 3⟩] [] (.sq (.sq (.rg [(0, []), (1, []), (2, []), (3, []), (4, []), (5, []), (6, []), (7, []), (8, []), (9, []), (10, []), (11, []), (12, []), (13, [])]) .tt) .tt))) (.sq .tt (.sq (.rg [(0, []), (1, []), (2, []), (3, []), (4, []), (5, []), (6, []), (7, []), (8, []), (9, []), (10, []), (11, []), (12, []), (13, []), (14, []), (15, [])]) .tt))))))) .tt))))
def slices_partitionOrdered_uint64_p : List Nat := []
def slices_partitionOrdered_uint64_a : Ann := (.sq .tt (.sq (.rg [(0, []), (1, []), (2, []), (3, []), (4, []), (5, []), (6, []), (7, []), (8, []), (9, []), (10, []), (11, []), (12, []), (13, []), (14, []), (15, [])]) (.sq .tt (.sq (.bk (.lp [⟨false, 10, 3⟩] [] (.sq (.sq (.rg [(0, []), (1, []), (2, []), (3, []), (4, []), (5, []), (6, []), (7, []), (8, []), (9, []), (10, []), (11, []), (12, []), (13, [])]) .tt) .tt))) (.sq (.bk (.lp [⟨false, 11, 3⟩] [] (.sq (.sq (.rg [(0, []), (1, []), (2, []), (3, []), (4, []), (5, []), (6, []), (7, []), (8, []), (9, []), (10, []), (11, []), (12, []), (13, []), (14, [])]) .tt) .tt))) (.sq (.sq .tt (.sq (.sq (.rg [(0, []), (1, []), (2, []), (3, []), (4, []), (5, []), (6, []), (7, []), (8, []), (9, []), (10, []), (11, []), (12, []), (13, []), (14, []), (15, [])]) .tt) .tt)) (.sq (.rg [(0, []), (1, []), (2, []), (3, []), (4, []), (5, []), (6, []), (7, []), (8, []), (9, []), (10, []), (11, []), (12, []), (13, []), (14, []), (15, [])]) (.sq .tt (.sq .tt (.sq (.bk (.lp [⟨false, 10, 3⟩, ⟨false, 11, 3⟩] [] (.bk (.sq (.bk (.lp [⟨false, 10, 3⟩] [] (.sq (.sq (.rg [(0, []), (1, []), (2, []), (3, []), (4, []), (5, []), (6, []), (7, []), (8, []), (9, []), (10, []), (11, []), (12, []), (13, [])]) .tt) .tt))) (.sq (.bk (.lp [⟨false, 11, 3⟩] [] (.sq (.sq (.rg [(0, []), (1, []), (2, []), (3, []), (4, []), (5, []), (6, []), (7, []), (8, []), (9, []), (10, []), (11, []), (12, []), (13, []), (14, [])]) .tt) .tt))) (.sq .tt (.sq (.rg [(0, []), (1, []), (2, []), (3, []), (4, []), (5, []), (6, []), (7, []), (8, []), (9, []), (10, []), (11, []), (12, []), (13, []), (14, []), (15, [])]) .tt))))))) (.sq (.rg [(0, []), (1, []), (2, []), (3, []), (4, []), (5, []), (6, []), (7, []), (8, []), (9, []), (10, []), (11, []), (12, []), (13, []), (14, []), (15, [])]) .tt)))))))))))
def math_bits_Len32_p : List Nat := []
def math_bits_Len32_a : Ann := (.sq .tt (.jn [⟨false, 0, 86⟩, ⟨false, 2, 3⟩] [] .tt .tt))
def math_bits_Len64_p : List Nat := []
def math_bits_Len64_a : Ann := (.sq .tt (.jn [⟨false, 0, 43⟩, ⟨false, 2, 3⟩] [] .tt (.jn [⟨false, 0, 43⟩, ⟨false, 2, 3⟩] [] .tt .tt)))
def slices_insertionSortOrdered_int_p : List Nat := []
def slices_insertionSortOrdered_int_a : Ann := (.sq .tt (.bk (.lp [⟨false, 6, 3⟩] [] (.sq .tt (.sq (.bk (.sq .tt (.bk (.lp [⟨false, 7, 3⟩] [] (.sq (.sq (.rg [(0, []), (1, []), (2, []), (3, []), (4, []), (5, []), (6, []), (7, []), (8, []), (9, []), (10, []), (11, []), (12, []), (13, []), (14, [])]) .tt) (.sq (.bk (.rg [(0, []), (1, []), (2, []), (3, []), (4, []), (5, []), (6, []), (7, []), (8, []), (9, []), (10, []), (11, []), (12, []), (13, []), (14, []), (15, []), (16, []), (17, [])])) .tt)))))) .tt)))))
def slices_heapSortOrdered_int_p : List Nat := []
def slices_heapSortOrdered_int_a : Ann := (.sq .tt (.sq .tt (.sq .tt (.sq (.sq .tt (.bk (.lp [⟨false, 9, 3⟩] [] .tt))) (.sq .tt (.bk (.lp [⟨false, 10, 3⟩] [] (.sq .tt (.sq (.bk (.sq (.rg [(0, []), (1, []), (2, []), (3, []), (4, []), (5, []), (6, []), (7, []), (8, []), (9, []), (10, []), (11, []), (12, []), (13, []), (14, []), (15, []), (16, []), (17, []), (18, []), (19, [])]) .tt)) .tt)))))))))
def slices_breakPatternsOrdered_int_p : List Nat := []
def slices_breakPatternsOrdered_int_a : Ann := (.sq .tt (.sq .tt (.sq (.sq .tt (.sq .tt (.sq .tt (.bk (.lp [⟨false, 9, 3⟩] [] (.sq .tt (.sq (.bk (.sq .tt (.jn [⟨false, 10, 3⟩] [] .tt (.rg [(0, []), (1, []), (2, []), (3, []), (4, []), (5, []), (6, []), (7, []), (8, []), (9, []), (10, []), (11, []), (12, []), (13, []), (14, []), (15, []), (16, []), (17, []), (18, []), (19, [])])))) .tt))))))) .tt)))
def slices_choosePivotOrdered_int_p : List Nat := []
def slices_choosePivotOrdered_int_a : Ann := (.sq .tt (.sq .tt (.sq .tt (.sq .tt (.sq .tt (.sq .tt (.sq (.sq .tt (.sq (.jn [⟨false, 10, 3⟩, ⟨false, 11, 3⟩, ⟨false, 12, 3⟩] [] .tt .tt) .tt)) .tt)))))))
def slices_reverseRangeOrdered_int_p : List Nat := []
def slices_reverseRangeOrdered_int_a : Ann := (.sq .tt (.sq .tt (.bk (.lp [⟨false, 6, 3⟩, ⟨false, 7, 3⟩] [] (.sq .tt (.bk (.sq (.rg [(0, []), (1, []), (2, []), (3, []), (4, []), (5, []), (6, []), (7, []), (8, []), (9, []), (10, []), (11, []), (12, []), (13, []), (14, []), (15, [])]) .tt)))))))
def slices_partialInsertionSortOrdered_int_p : List Nat := []
def slices_partialInsertionSortOrdered_int_a : Ann := (.sq .tt (.sq .tt (.sq (.sq .tt (.bk (.lp [⟨false, 7, 3⟩, ⟨false, 8, 3⟩] [] (.sq .tt (.sq (.bj [⟨false, 7, 3⟩] [] (.sq (.bk (.lp [⟨false, 7, 3⟩] [] (.sq (.sq (.rg [(0, []), (1, []), (2, []), (3, []), (4, []), (5, []), (6, []), (7, []), (8, []), (9, []), (10, []), (11, []), (12, []), (13, []), (14, []), (15, [])]) .tt) .tt))) (.sq .tt (.sq .tt (.sq (.rg [(0, []), (1, []), (2, []), (3, []), (4, []), (5, []), (6, []), (7, []), (8, []), (9, []), (10, []), (11, []), (12, []), (13, []), (14, []), (15, []), (16, []), (17, [])]) (.jn [] [] (.sq .tt (.sq (.sq .tt (.bj [] [] (.lp [⟨false, 9, 3⟩] [] (.sq .tt (.sq (.bk (.sq (.sq (.rg [(0, []), (1, []), (2, []), (3, []), (4, []), (5, []), (6, []), (7, []), (8, []), (9, []), (10, [])]) .tt) (.rg [(0, []), (1, []), (2, []), (3, []), (4, []), (5, []), (6, []), (7, []), (8, []), (9, []), (10, []), (11, []), (12, []), (13, []), (14, []), (15, []), (16, []), (17, [])]))) .tt))))) .tt)) (.sq .tt (.sq (.sq .tt (.bj [] [] (.lp [⟨false, 10, 3⟩] [] (.sq .tt (.sq (.bk (.sq (.sq (.rg [(0, []), (1, []), (2, []), (3, []), (4, []), (5, []), (6, []), (7, []), (8, []), (9, []), (10, [])]) .tt) (.rg [(0, []), (1, []), (2, []), (3, []), (4, []), (5, []), (6, []), (7, []), (8, []), (9, []), (10, []), (11, []), (12, []), (13, []), (14, []), (15, []), (16, []), (17, [])]))) .tt))))) .tt)))))))) .tt))))) .tt)))
def cmp_Less_int_p : List Nat := []
def cmp_Less_int_a : Ann := .tt
def slices_partitionEqualOrdered_int_p : List Nat := []
def slices_partitionEqualOrdered_int_a : Ann := (.sq .tt (.sq (.rg [(0, []), (1, []), (2, []), (3, []), (4, []), (5, []), (6, []), (7, []), (8, []), (9, []), (10, []), (11, []), (12, []), (13, []), (14, []), (15, [])]) (.sq .tt (.sq (.bk (.lp [⟨false, 9, 3⟩, ⟨false, 10, 3⟩] [] (.bk (.sq (.bk (.lp [⟨false, 9, 3⟩] [] (.sq (.sq (.rg [(0, []), (1, []), (2, []), (3, []), (4, []), (5, []), (6, []), (7, []), (8, []), (9, []), (10, []), (11, []), (12, []), (13, []), (14, [])]) .tt) .tt))) (.sq (.bk (.lp [⟨false, 10, 3⟩] [] (.sq (.sq (.rg [(0, []), (1, []), (2, []), (3, []), (4, []), (5, []), (6, []), (7, []), (8, []), (9, []), (10, []), (11, []), (12, []), (13, [])]) .tt) .tt))) (.sq .tt (.sq (.rg [(0, []), (1, []), (2, []), (3, []), (4, []), (5, []), (6, []), (7, []), (8, []), (9, []), (10, []), (11, []), (12, []), (13, []), (14, []), (15, [])]) .tt))))))) .tt))))
def slices_partitionOrdered_int_p : List Nat := []
def slices_partitionOrdered_int_a : Ann := (.sq .tt (.sq (.rg [(0, []), (1, []), (2, []), (3, []), (4, []), (5, []), (6, []), (7, []), (8, []), (9, []), (10, []), (11, []), (12, []), (13, []), (14, []), (15, [])]) (.sq .tt (.sq (.bk (.lp [⟨false, 10, 3⟩] [] (.sq (.sq (.rg [(0, []), (1, []), (2, []), (3, []), (4, []), (5, []), (6, []), (7, []), (8, []), (9, []), (10, []), (11, []), (12, []), (13, [])]) .tt) .tt))) (.sq (.bk (.lp [⟨false, 11, 3⟩] [] (.sq (.sq (.rg [(0, []), (1, []), (2, []), (3, []), (4, []), (5, []), (6, []), (7, []), (8, []), (9, []), (10, []), (11, []), (12, []), (13, []), (14, [])]) .tt) .tt))) (.sq (.sq .tt (.sq (.sq (.rg [(0, []), (1, []), (2, []), (3, []), (4, []), (5, []), (6, []), (7, []), (8, []), (9, []), (10, []), (11, []), (12, []), (13, []), (14, []), (15, [])]) .tt) .tt)) (.sq (.rg [(0, []), (1, []), (2, []), (3, []), (4, []), (5, []), (6, []), (7, []), (8, []), (9, []), (10, []), (11, []), (12, []), (13, []), (14, []), (15, [])]) (.sq .tt (.sq .tt (.sq (.bk (.lp [⟨false, 10, 3⟩, ⟨false, 11, 3⟩] [] (.bk (.sq (.bk (.lp [⟨false, 10, 3⟩] [] (.sq (.sq (.rg [(0, []), (1, []), (2, []), (3, []), (4, []), (5, []), (6, []), (7, []), (8, []), (9, []), (10, []), (11, []), (12, []), (13, [])]) .tt) .tt))) (.sq (.bk (.lp [⟨false, 11, 3⟩] [] (.sq (.sq (.rg [(0, []), (1, []), (2, []), (3, []), (4, []), (5, []), (6, []), (7, []), (8, []), (9, []), (10, []), (11, []), (12, []), (13, []), (14, [])]) .tt) .tt))) (.sq .tt (.sq (.rg [(0, []), (1, []), (2, []), (3, []), (4, []), (5, []), (6, []), (7, []), (8, []), (9, []), (10, []), (11, []), (12, []), (13, []), (14, []), (15, [])]) .tt))))))) (.sq (.rg [(0, []), (1, []), (2, []), (3, []), (4, []), (5, []), (6, []), (7, []), (8, []), (9, []), (10, []), (11, []), (12, []), (13, []), (14, []), (15, [])]) .tt)))))))))))
def slices_siftDownOrdered_uint64_p : List Nat := []
def slices_siftDownOrdered_uint64_a : Ann := (.sq .tt (.bk (.lp [⟨false, 8, 3⟩] [] (.bk (.sq .tt (.sq .tt (.jn [⟨false, 9, 3⟩] [] (.sq (.rg [(0, []), (1, []), (2, []), (3, []), (4, []), (5, []), (6, []), (7, []), (8, []), (9, []), (10, []), (11, []), (12, []), (13, []), (14, []), (15, []), (16, []), (17, []), (18, []), (19, [])]) .tt) (.sq (.sq (.rg [(0, []), (1, []), (2, []), (3, []), (4, []), (5, []), (6, []), (7, []), (8, []), (9, []), (10, []), (11, []), (12, []), (13, [])]) .tt) (.sq (.rg [(0, []), (1, []), (2, []), (3, []), (4, []), (5, []), (6, []), (7, []), (8, []), (9, []), (10, []), (11, []), (12, []), (13, []), (14, []), (15, []), (16, []), (17, []), (18, []), (19, []), (20, []), (21, []), (22, []), (23, [])]) .tt)))))))))
def slices_nextPowerOfTwo_p : List Nat := []
def slices_nextPowerOfTwo_a : Ann := .tt
def slices_xorshift_Next_p : List Nat := []
def slices_xorshift_Next_a : Ann := (.sq .tt (.sq (.rg [(0, []), (1, []), (2, []), (3, []), (4, []), (5, []), (6, []), (7, []), (8, []), (9, [])]) (.sq (.rg [(0, []), (1, []), (2, []), (3, []), (4, []), (5, []), (6, []), (7, []), (8, []), (9, [])]) (.sq (.rg [(0, []), (1, []), (2, []), (3, []), (4, []), (5, []), (6, []), (7, []), (8, []), (9, [])]) .tt))))
def slices_medianAdjacentOrdered_uint64_p : List Nat := []
def slices_medianAdjacentOrdered_uint64_a : Ann := .tt
def slices_medianOrdered_uint64_p : List Nat := []
def slices_medianOrdered_uint64_a : Ann := .tt
def cmp_isNaN_uint64_p : List Nat := []
def cmp_isNaN_uint64_a : Ann := .tt
def slices_siftDownOrdered_int_p : List Nat := []
def slices_siftDownOrdered_int_a : Ann := (.sq .tt (.bk (.lp [⟨false, 8, 3⟩] [] (.bk (.sq .tt (.sq .tt (.jn [⟨false, 9, 3⟩] [] (.sq (.rg [(0, []), (1, []), (2, []), (3, []), (4, []), (5, []), (6, []), (7, []), (8, []), (9, []), (10, []), (11, []), (12, []), (13, []), (14, []), (15, []), (16, []), (17, []), (18, []), (19, [])]) .tt) (.sq (.sq (.rg [(0, []), (1, []), (2, []), (3, []), (4, []), (5, []), (6, []), (7, []), (8, []), (9, []), (10, []), (11, []), (12, []), (13, [])]) .tt) (.sq (.rg [(0, []), (1, []), (2, []), (3, []), (4, []), (5, []), (6, []), (7, []), (8, []), (9, []), (10, []), (11, []), (12, []), (13, []), (14, []), (15, []), (16, []), (17, []), (18, []), (19, []), (20, []), (21, []), (22, []), (23, [])]) .tt)))))))))
def slices_medianAdjacentOrdered_int_p : List Nat := []
def slices_medianAdjacentOrdered_int_a : Ann := .tt
def slices_medianOrdered_int_p : List Nat := []
def slices_medianOrdered_int_a : Ann := .tt
def cmp_isNaN_int_p : List Nat := []
def cmp_isNaN_int_a : Ann := .tt
def slices_order2Ordered_uint64_p : List Nat := []
def slices_order2Ordered_uint64_a : Ann := (.sq .tt (.sq (.sq (.rg [(0, []), (1, []), (2, []), (3, []), (4, []), (5, []), (6, []), (7, []), (8, [])]) .tt) .tt))
def slices_order2Ordered_int_p : List Nat := []
def slices_order2Ordered_int_a : Ann := (.sq .tt (.sq (.sq (.rg [(0, []), (1, []), (2, []), (3, []), (4, []), (5, []), (6, []), (7, []), (8, [])]) .tt) .tt))
end Lf

