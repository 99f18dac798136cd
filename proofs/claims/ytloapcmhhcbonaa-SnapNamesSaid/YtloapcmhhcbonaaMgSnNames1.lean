/-
  Part 2 of the texts that the claim leans on.
-/
import Derived.Laws.Sem
import Derived.Test.YtloapcmhhcbonaaMgSnNames0
/-
  By program: what the functions do.
-/
set_option linter.unusedVariables false
namespace Lf
open Go

def firebreaklaw22_SnapNames_w (P : Program)  (Q : (Bool → (Hp → Prop))) (h : Hp) : Prop :=
 EffC (some true) (CallT P n_firebreaklaw22_awake [] shBool) (fun r h1 =>
 LetW (true && r) fun y =>
 Q y h1) h

def firebreaklaw22_awake_w (P : Program)  (Q : (Bool → (Hp → Prop))) (h : Hp) : Prop :=
 Call2 P n_firebreaklaw22_plain [] sh_api_Config sh_api_State (fun r r1 h1 =>
 Call2 P n_snap_Encode [r.v, r1.v] shSl (shInt .i64) (fun r2 r3 h2 =>
 Call4 P n_snap_Decode [r2.v] sh_api_Config sh_api_State (shInt .i64) (shInt .i64) (fun r4 r5 r6 r7 h3 =>
 NewW [(.int .u8 (70 : Int)), (.int .u8 (66 : Int)), (.int .u8 (83 : Int)), (.int .u8 (78 : Int)), (.int .u8 (2 : Int))] (fun a h4 =>
 MarkW (some a) (fun r8 h5 =>
 Call4 P n_snap_Decode [(.slice (some a) 5 5)] sh_api_Config sh_api_State (shInt .i64) (shInt .i64) (fun r9 r10 r11 r12 h6 =>
 LetW ((r3 == (0 : Int)) && (((r2.len : Nat) : Int) == (147 : Int))) fun y =>
 LetW (y && (r6 == (0 : Int))) fun y1 =>
 LetW (y1 && (r7 == (0 : Int))) fun y2 =>
 EffC (some y2) (CallT P n_firebreakref14_Same [r.v, r4.v] shBool) (fun r13 h7 =>
 LetW (y2 && r13) fun y3 =>
 EffC (some y3) (CallT P n_firebreakref18_Same [r1.v, r5.v] shBool) (fun r14 h8 =>
 LetW (y3 && r14) fun y4 =>
 LetW (y4 && (r11 == (4 : Int))) fun y5 =>
 LetW (y5 && (r12 == (4 : Int))) fun y6 =>
 Q y6 h8) h7) h6) h5) h4) h3) h2) h1) h

def firebreaklaw22_plain_w (P : Program)  (Q : (S_api_Config → (S_api_State → (Hp → Prop)))) (h : Hp) : Prop :=
 NewW [(.int .u64 (0 : Int))] (fun a h1 =>
 NewW [(.int .i64 (0 : Int))] (fun a1 h2 =>
 NewW [(.int .i64 (0 : Int)), (.slice none 0 0)] (fun a2 h3 =>
 NewW [(.int .i64 (0 : Int)), (.slice none 0 0), (.int .i64 (0 : Int)), (.int .i64 (0 : Int)), (.slice none 0 0), (.slice none 0 0)] (fun a3 h4 =>
 NewW [(.slice none 0 0), (.slice none 0 0), (.int .i64 (0 : Int)), (.int .i64 (0 : Int)), (.slice none 0 0), (.slice none 0 0), (.int .i64 (0 : Int)), (.int .i64 (0 : Int))] (fun a4 h5 =>
 NewW [(.int .i64 (0 : Int)), (.int .i64 (0 : Int)), (.int .i64 (0 : Int)), (.int .i64 (0 : Int)), (.int .i64 (0 : Int)), (.int .i64 (0 : Int)), (.int .i64 (0 : Int)), (.int .i64 (0 : Int)), (.int .i64 (0 : Int)), (.int .i64 (0 : Int)), (.int .i64 (0 : Int)), (.int .i64 (0 : Int)), (.bool false), (.int .i64 (0 : Int)), (.slice (some a4) 2 2)] (fun a5 h6 =>
 Q ⟨⟨(some a), 1, 1⟩, ⟨(some a1), 1, 1⟩, (1 : Int), (1 : Int), (0 : Int), (0 : Int), ⟨(some a2), 1, 1⟩⟩ ⟨(0 : Int), ⟨(some a3), 1, 1⟩, ⟨(some a5), 1, 1⟩⟩ h6) h5) h4) h3) h2) h1) h

def snap_Encode_w (P : Program) (c : S_api_Config) (s : S_api_State) (Q : (Sl → (Int → (Hp → Prop)))) (h : Hp) : Prop :=
 CallT P n_machine_May [c.v, s.v] (shInt .i64) (fun r h1 =>
 (if (r != (0 : Int)) = true then
 Q ⟨none, 0, 0⟩ r h1
 else
 Call2 P n_conf_Encode [c.v] shSl (shInt .i64) (fun r1 r2 h2 =>
 (if (r2 != (0 : Int)) = true then
 Q ⟨none, 0, 0⟩ r2 h2
 else
 NewW [(.int .u8 (70 : Int)), (.int .u8 (66 : Int)), (.int .u8 (83 : Int)), (.int .u8 (78 : Int)), (.int .u8 (1 : Int))] (fun a h3 =>
 MarkW (some a) (fun r3 h4 =>
 NewW [(.slice (some a) 5 5)] (fun a1 h5 =>
 NilW none (some a1) fun p =>
 Call0 P n_snap_numbers_count [(.pointer (some (Addr.add p 0))), (.int .i64 ((r1.len : Nat) : Int)), (.int .i64 (4 : Int))] (fun h6 =>
 NilW none (some a1) fun p1 =>
 LdW none shSl h6 (Addr.add (Addr.add p1 0) 0) fun x =>
 AppendW 1 1 [(.int .u8 (0 : Int))] x ⟨r1.base, r1.len, r1.cap⟩ (fun r4 h7 =>
 NilW none (some a1) fun p2 =>
 StW h7 (Addr.add (Addr.add p2 0) 0) [r4.v] (fun h8 =>
 NilW none (some a1) fun p3 =>
 Call0 P n_snap_numbers_put [(.pointer (some (Addr.add p3 0))), (.int .i64 s.Tick), (.int .i64 (8 : Int))] (fun h9 =>
 LoopW1 (α1 := Int) (fun again t59 h10 =>
 (if (decide (t59 < ((s.Parts.len : Nat) : Int))) = true then
 ((InB s.Parts.base s.Parts.len t59) ∧ LdW none sh_api_Part h10 (sat s.Parts.base 6 t59) fun x1 =>
 Call0 P n_snap_writer_part [(.pointer (some a1)), x1.v] (fun h11 =>
 again (IntKind.wrap .i64 (t59 + (1 : Int))) h11) h10)
 else
 LoopW1 (α1 := Int) (fun again1 t70 h11 =>
 (if (decide (t70 < ((s.Procs.len : Nat) : Int))) = true then
 ((InB s.Procs.base s.Procs.len t70) ∧ LdW none sh_api_Process h11 (sat s.Procs.base 15 t70) fun x1 =>
 Call0 P n_snap_writer_proc [(.pointer (some a1)), x1.v] (fun h12 =>
 again1 (IntKind.wrap .i64 (t70 + (1 : Int))) h12) h11)
 else
 NilW none (some a1) fun p4 =>
 LdW none shSl h11 (Addr.add (Addr.add p4 0) 0) fun x1 =>
 Q x1 (0 : Int) h11)) (0 : Int) h10)) (0 : Int) h9) h8)) h6) h5) h4) h3) h2)) h1)) h

def snap_Decode_w (P : Program) (b : Sl) (Q : (S_api_Config → (S_api_State → (Int → (Int → (Hp → Prop)))))) (h : Hp) : Prop :=
 (if (decide (((b.len : Nat) : Int) > (1048576 : Int))) = true then
 Q ⟨⟨none, 0, 0⟩, ⟨none, 0, 0⟩, (0 : Int), (0 : Int), (0 : Int), (0 : Int), ⟨none, 0, 0⟩⟩ ⟨(0 : Int), ⟨none, 0, 0⟩, ⟨none, 0, 0⟩⟩ (22 : Int) (1048576 : Int) h
 else
 NewW [b.v, (.int .i64 (0 : Int)), (.int .i64 (0 : Int)), (.int .i64 (0 : Int)), (.slice none 0 0), (.slice none 0 0), (.int .i64 (0 : Int)), (.int .i64 (0 : Int)), (.int .i64 (0 : Int)), (.int .i64 (0 : Int)), (.slice none 0 0)] (fun a h1 =>
 CallT P n_snap_reader_state [(.pointer (some a))] sh_api_State (fun r h2 =>
 JoinW0 (fun k =>
 NilW none (some a) fun p =>
 LdW none (shInt .i64) h2 (Addr.add (Addr.add p 0) 2) fun x =>
 (if (x == (0 : Int)) = true then
 NilW none (some a) fun p1 =>
 NilW none (some a) fun p2 =>
 LdW none sh_api_Config h2 (Addr.add p2 4) fun x1 =>
 CallT P n_machine_May [x1.v, r.v] (shInt .i64) (fun r1 h3 =>
 Call0 P n_snap_source_give [(.pointer (some (Addr.add p1 0))), (.int .i64 r1), (.int .i64 (0 : Int))] (fun h4 =>
 k h4) h3) h2
 else
 k h2))
 (fun h3 =>
 NilW none (some a) fun p =>
 LdW none (shInt .i64) h3 (Addr.add (Addr.add p 0) 2) fun x =>
 (if (x != (0 : Int)) = true then
 NilW none (some a) fun p1 =>
 LdW none (shInt .i64) h3 (Addr.add (Addr.add p1 0) 2) fun x1 =>
 NilW none (some a) fun p2 =>
 LdW none (shInt .i64) h3 (Addr.add (Addr.add p2 0) 3) fun x2 =>
 (((LdIs h3 (Addr.add (Addr.add p1 0) 2) [(.int .i64 x1)]) ∧ ((LdIs h3 (Addr.add (Addr.add p2 0) 3) [(.int .i64 x2)]) ∧ True)) ∧ (((LdIs h3 (Addr.add (Addr.add p1 0) 2) [(.int .i64 x1)]) ∧ ((LdIs h3 (Addr.add (Addr.add p2 0) 3) [(.int .i64 x2)]) ∧ True)) ∧ Q ⟨⟨none, 0, 0⟩, ⟨none, 0, 0⟩, (0 : Int), (0 : Int), (0 : Int), (0 : Int), ⟨none, 0, 0⟩⟩ ⟨(0 : Int), ⟨none, 0, 0⟩, ⟨none, 0, 0⟩⟩ x1 x2 h3))
 else
 NilW none (some a) fun p1 =>
 LdW none sh_api_Config h3 (Addr.add p1 4) fun x1 =>
 ((True ∧ True) ∧ Q x1 r (0 : Int) (0 : Int) h3)))) h1) h)

def firebreakref14_Same_w (P : Program) (a : S_api_Config) (b : S_api_Config) (Q : (Bool → (Hp → Prop))) (h : Hp) : Prop :=
 CallT P n_firebreakref14_Skeleton [a.v, b.v] shBool (fun r h1 =>
 LoopW2 (α1 := Bool) (α2 := Int) (fun again ok i h2 =>
 LetW (ok && (decide (i < ((a.Procs.len : Nat) : Int)))) fun y =>
 (if y = true then
 ((InB a.Procs.base a.Procs.len i) ∧ LdW none shSl h2 (Addr.add (sat a.Procs.base 2 i) 1) fun x =>
 ((InB b.Procs.base b.Procs.len i) ∧ LdW none shSl h2 (Addr.add (sat b.Procs.base 2 i) 1) fun x1 =>
 CallT P n_firebreakref06_Same [x.v, x1.v] shBool (fun r1 h3 =>
 again r1 (IntKind.wrap .i64 (i + (1 : Int))) h3) h2))
 else
 Q ok h2)) r (0 : Int) h1) h

def firebreakref18_Same_w (P : Program) (a : S_api_State) (b : S_api_State) (Q : (Bool → (Hp → Prop))) (h : Hp) : Prop :=
 LetW ((a.Tick != b.Tick) || (((a.Parts.len : Nat) : Int) != ((b.Parts.len : Nat) : Int))) fun y =>
 LetW (y || (((a.Procs.len : Nat) : Int) != ((b.Procs.len : Nat) : Int))) fun y1 =>
 (if y1 = true then
 Q false h
 else
 LoopW1 (α1 := Int) (fun again i h1 =>
 (if (decide (i < ((a.Parts.len : Nat) : Int))) = true then
 ((InB a.Parts.base a.Parts.len i) ∧ LdW none sh_api_Part h1 (sat a.Parts.base 6 i) fun x =>
 ((InB b.Parts.base b.Parts.len i) ∧ LdW none sh_api_Part h1 (sat b.Parts.base 6 i) fun x1 =>
 CallT P n_firebreakref18_samePart [x.v, x1.v] shBool (fun r h2 =>
 (if (!r) = true then
 Q false h2
 else
 again (IntKind.wrap .i64 (i + (1 : Int))) h2)) h1))
 else
 LoopW1 (α1 := Int) (fun again1 i1 h2 =>
 (if (decide (i1 < ((a.Procs.len : Nat) : Int))) = true then
 ((InB a.Procs.base a.Procs.len i1) ∧ LdW none sh_api_Process h2 (sat a.Procs.base 15 i1) fun x =>
 ((InB b.Procs.base b.Procs.len i1) ∧ LdW none sh_api_Process h2 (sat b.Procs.base 15 i1) fun x1 =>
 CallT P n_firebreakref18_sameProcess [x.v, x1.v] shBool (fun r h3 =>
 (if (!r) = true then
 Q false h3
 else
 again1 (IntKind.wrap .i64 (i1 + (1 : Int))) h3)) h2))
 else
 Q true h2)) (0 : Int) h1)) (0 : Int) h)

def machine_May_w (P : Program) (c : S_api_Config) (s : S_api_State) (Q : (Int → (Hp → Prop))) (h : Hp) : Prop :=
 Call2 P n_conf_May [c.v] (shInt .i64) (shInt .i64) (fun r r1 h1 =>
 (if (r != (0 : Int)) = true then
 Q r h1
 else
 Call3 P n_table_New [c.Labels.v] shPtr (shInt .i64) (shInt .i64) (fun r2 r3 r4 h2 =>
 LetW ((decide (s.Tick < (0 : Int))) || (decide (s.Tick > (4611686018427387904 : Int)))) fun y =>
 LetW (y || (((s.Parts.len : Nat) : Int) != ((c.Labels.len : Nat) : Int))) fun y1 =>
 LetW (y1 || (((s.Procs.len : Nat) : Int) != ((c.Procs.len : Nat) : Int))) fun y2 =>
 (if y2 = true then
 Q (4 : Int) h2
 else
 LoopW1 (α1 := Int) (fun again t61 h3 =>
 (if (decide (t61 < ((s.Parts.len : Nat) : Int))) = true then
 CallT P n_machine_asked_part [(.agg #[c.Labels.v, c.Table.v, (.int .i64 c.Fuel), (.int .i64 c.Lane), (.int .i64 c.Locks), (.int .i64 c.Log), c.Procs.v, (.int .i64 s.Tick), s.Parts.v, s.Procs.v, (.pointer r2)]), (.int .i64 t61)] shBool (fun r5 h4 =>
 (if (!r5) = true then
 Q (4 : Int) h4
 else
 again (IntKind.wrap .i64 (t61 + (1 : Int))) h4)) h3
 else
 LoopW1 (α1 := Int) (fun again1 t72 h4 =>
 (if (decide (t72 < ((s.Procs.len : Nat) : Int))) = true then
 CallT P n_machine_asked_proc [(.agg #[c.Labels.v, c.Table.v, (.int .i64 c.Fuel), (.int .i64 c.Lane), (.int .i64 c.Locks), (.int .i64 c.Log), c.Procs.v, (.int .i64 s.Tick), s.Parts.v, s.Procs.v, (.pointer r2)]), (.int .i64 t72)] shBool (fun r5 h5 =>
 (if (!r5) = true then
 Q (4 : Int) h5
 else
 again1 (IntKind.wrap .i64 (t72 + (1 : Int))) h5)) h4
 else
 CallT P n_machine_asked_waits [(.agg #[c.Labels.v, c.Table.v, (.int .i64 c.Fuel), (.int .i64 c.Lane), (.int .i64 c.Locks), (.int .i64 c.Log), c.Procs.v, (.int .i64 s.Tick), s.Parts.v, s.Procs.v, (.pointer r2)])] shBool (fun r5 h5 =>
 (if (!r5) = true then
 Q (4 : Int) h5
 else
 Q (0 : Int) h5)) h4)) (0 : Int) h3)) (0 : Int) h2)) h1)) h

def conf_Encode_w (P : Program) (c : S_api_Config) (Q : (Sl → (Int → (Hp → Prop)))) (h : Hp) : Prop :=
 Call2 P n_conf_May [c.v] (shInt .i64) (shInt .i64) (fun r r1 h1 =>
 (if (r != (0 : Int)) = true then
 Q ⟨none, 0, 0⟩ r h1
 else
 NewW [(.int .u8 (70 : Int)), (.int .u8 (66 : Int)), (.int .u8 (67 : Int)), (.int .u8 (70 : Int)), (.int .u8 (1 : Int))] (fun a h2 =>
 MarkW (some a) (fun r2 h3 =>
 NewW [(.int .u8 (IntKind.wrap .u8 ((c.Labels.len : Nat) : Int)))] (fun a1 h4 =>
 AppendW 1 1 [(.int .u8 (0 : Int))] ⟨(some a), 5, 5⟩ ⟨(some a1), 1, 1⟩ (fun r3 h5 =>
 LoopW2 (α1 := Sl) (α2 := Int) (fun again b t35 h6 =>
 (if (decide (t35 < ((c.Labels.len : Nat) : Int))) = true then
 ((InB c.Labels.base c.Labels.len t35) ∧ LdW none (shInt .u64) h6 (sat c.Labels.base 1 t35) fun x =>
 CallT P n_conf_lay [b.v, (.int .u64 x), (.int .i64 (8 : Int))] shSl (fun r4 h7 =>
 again r4 (IntKind.wrap .i64 (t35 + (1 : Int))) h7) h6)
 else
 NewW [(.int .u8 (IntKind.wrap .u8 ((c.Table.len : Nat) : Int)))] (fun a2 h7 =>
 AppendW 1 1 [(.int .u8 (0 : Int))] ⟨b.base, b.len, b.cap⟩ ⟨(some a2), 1, 1⟩ (fun r4 h8 =>
 LoopW2 (α1 := Sl) (α2 := Int) (fun again1 b1 t53 h9 =>
 (if (decide (t53 < ((c.Table.len : Nat) : Int))) = true then
 ((InB c.Table.base c.Table.len t53) ∧ LdW none (shInt .i64) h9 (sat c.Table.base 1 t53) fun x =>
 NewW [(.int .u8 (IntKind.wrap .u8 x))] (fun a3 h10 =>
 AppendW 1 1 [(.int .u8 (0 : Int))] ⟨b1.base, b1.len, b1.cap⟩ ⟨(some a3), 1, 1⟩ (fun r5 h11 =>
 again1 r5 (IntKind.wrap .i64 (t53 + (1 : Int))) h11) h10) h9)
 else
 CallT P n_conf_lay [b1.v, (.int .u64 (IntKind.wrap .u64 c.Fuel)), (.int .i64 (2 : Int))] shSl (fun r5 h10 =>
 NewW [(.int .u8 (IntKind.wrap .u8 c.Lane)), (.int .u8 (IntKind.wrap .u8 c.Locks))] (fun a3 h11 =>
 AppendW 1 1 [(.int .u8 (0 : Int))] r5 ⟨(some a3), 2, 2⟩ (fun r6 h12 =>
 CallT P n_conf_lay [r6.v, (.int .u64 (IntKind.wrap .u64 c.Log)), (.int .i64 (2 : Int))] shSl (fun r7 h13 =>
 NewW [(.int .u8 (IntKind.wrap .u8 ((c.Procs.len : Nat) : Int)))] (fun a4 h14 =>
 AppendW 1 1 [(.int .u8 (0 : Int))] r7 ⟨(some a4), 1, 1⟩ (fun r8 h15 =>
 LoopW2 (α1 := Sl) (α2 := Int) (fun again2 b2 t92 h16 =>
 (if (decide (t92 < ((c.Procs.len : Nat) : Int))) = true then
 ((InB c.Procs.base c.Procs.len t92) ∧ LdW none sh_api_Proc h16 (sat c.Procs.base 2 t92) fun x =>
 Call3 P n_code_Encode [x.Code.v] shSl (shInt .i64) (shInt .i64) (fun r9 r10 r11 h17 =>
 NewW [(.int .u8 (IntKind.wrap .u8 x.Part))] (fun a5 h18 =>
 AppendW 1 1 [(.int .u8 (0 : Int))] ⟨b2.base, b2.len, b2.cap⟩ ⟨(some a5), 1, 1⟩ (fun r12 h19 =>
 CallT P n_conf_lay [r12.v, (.int .u64 (IntKind.wrap .u64 ((x.Code.len : Nat) : Int))), (.int .i64 (2 : Int))] shSl (fun r13 h20 =>
 AppendW 1 1 [(.int .u8 (0 : Int))] r13 ⟨r9.base, r9.len, r9.cap⟩ (fun r14 h21 =>
 again2 r14 (IntKind.wrap .i64 (t92 + (1 : Int))) h21) h20) h19) h18) h17) h16)
 else
 Q ⟨b2.base, b2.len, b2.cap⟩ (0 : Int) h16)) r8 (0 : Int) h15) h14) h13) h12) h11) h10) h9)) r4 (0 : Int) h8) h7) h6)) r3 (0 : Int) h5) h4) h3) h2) h1)) h

def snap_numbers_count_w (P : Program) (w : Option Addr) (n : Int) (many : Int) (Q : (Hp → Prop)) (h : Hp) : Prop :=
 Call0 P n_snap_numbers_put [(.pointer w), (.int .i64 n), (.int .i64 many)] (fun h1 =>
 Q h1) h

def snap_numbers_put_w (P : Program) (w : Option Addr) (n : Int) (many : Int) (Q : (Hp → Prop)) (h : Hp) : Prop :=
 LoopW1 (α1 := Int) (fun again t8 h1 =>
 (if (decide (t8 < many)) = true then
 NilW none w fun p =>
 LdW none shSl h1 (Addr.add p 0) fun x =>
 ((0 : Int) ≤ (IntKind.wrap .i64 ((8 : Int) * t8)) ∧ NewW [(.int .u8 (IntKind.wrap .u8 (shrI .u64 (IntKind.wrap .u64 n) (IntKind.wrap .i64 ((8 : Int) * t8)))))] (fun a h2 =>
 (((LdIs h2 (Addr.add p 0) [x.v]) ∧ True) ∧ AppendW 1 1 [(.int .u8 (0 : Int))] x ⟨(some a), 1, 1⟩ (fun r h3 =>
 NilW none w fun p1 =>
 StW h3 (Addr.add p1 0) [r.v] (fun h4 =>
 again (IntKind.wrap .i64 (t8 + (1 : Int))) h4)) h2)) h1)
 else
 Q h1)) (0 : Int) h

def snap_writer_part_w (P : Program) (w : Option Addr) (x : S_api_Part) (Q : (Hp → Prop)) (h : Hp) : Prop :=
 NilW none w fun p =>
 Call0 P n_snap_numbers_count [(.pointer (some (Addr.add p 0))), (.int .i64 x.Cursor), (.int .i64 (1 : Int))] (fun h1 =>
 NilW none w fun p1 =>
 Call0 P n_snap_numbers_count [(.pointer (some (Addr.add p1 0))), (.int .i64 ((x.Log.len : Nat) : Int)), (.int .i64 (2 : Int))] (fun h2 =>
 LoopW1 (α1 := Int) (fun again t26 h3 =>
 (if (decide (t26 < ((x.Log.len : Nat) : Int))) = true then
 ((InB x.Log.base x.Log.len t26) ∧ LdW none sh_api_Entry h3 (sat x.Log.base 3 t26) fun x1 =>
 NilW none w fun p2 =>
 Call0 P n_snap_numbers_put [(.pointer (some (Addr.add p2 0))), (.int .i64 x1.Tick), (.int .i64 (8 : Int))] (fun h4 =>
 NilW none w fun p3 =>
 Call0 P n_snap_numbers_count [(.pointer (some (Addr.add p3 0))), (.int .i64 x1.Proc), (.int .i64 (1 : Int))] (fun h5 =>
 NilW none w fun p4 =>
 Call0 P n_snap_numbers_put [(.pointer (some (Addr.add p4 0))), (.int .i64 x1.Value_), (.int .i64 (8 : Int))] (fun h6 =>
 again (IntKind.wrap .i64 (t26 + (1 : Int))) h6) h5) h4) h3)
 else
 NilW none w fun p2 =>
 Call0 P n_snap_numbers_count [(.pointer (some (Addr.add p2 0))), (.int .i64 x.Lost), (.int .i64 (2 : Int))] (fun h4 =>
 NilW none w fun p3 =>
 Call0 P n_snap_numbers_count [(.pointer (some (Addr.add p3 0))), (.int .i64 x.Forbidden), (.int .i64 (2 : Int))] (fun h5 =>
 LoopW1 (α1 := Int) (fun again1 t64 h6 =>
 (if (decide (t64 < ((x.Owners.len : Nat) : Int))) = true then
 ((InB x.Owners.base x.Owners.len t64) ∧ LdW none (shInt .i64) h6 (sat x.Owners.base 1 t64) fun x1 =>
 NilW none w fun p4 =>
 Call0 P n_snap_numbers_count [(.pointer (some (Addr.add p4 0))), (.int .i64 (IntKind.wrap .i64 (x1 + (1 : Int)))), (.int .i64 (1 : Int))] (fun h7 =>
 NilW none w fun p5 =>
 ((InB x.Queues.base x.Queues.len t64) ∧ LdW none shSl h7 (sat x.Queues.base 1 t64) fun x2 =>
 Call0 P n_snap_numbers_count [(.pointer (some (Addr.add p5 0))), (.int .i64 ((x2.len : Nat) : Int)), (.int .i64 (1 : Int))] (fun h8 =>
 ((InB x.Queues.base x.Queues.len t64) ∧ LdW none shSl h8 (sat x.Queues.base 1 t64) fun x3 =>
 LoopW1 (α1 := Int) (fun again2 t91 h9 =>
 (if (decide (t91 < ((x3.len : Nat) : Int))) = true then
 ((InB x3.base x3.len t91) ∧ LdW none (shInt .i64) h9 (sat x3.base 1 t91) fun x4 =>
 NilW none w fun p6 =>
 Call0 P n_snap_numbers_count [(.pointer (some (Addr.add p6 0))), (.int .i64 x4), (.int .i64 (1 : Int))] (fun h10 =>
 again2 (IntKind.wrap .i64 (t91 + (1 : Int))) h10) h9)
 else
 again1 (IntKind.wrap .i64 (t64 + (1 : Int))) h9)) (0 : Int) h8)) h7)) h6)
 else
 Q h6)) (0 : Int) h5) h4) h3)) (0 : Int) h2) h1) h

def snap_writer_proc_w (P : Program) (w : Option Addr) (x : S_api_Process) (Q : (Hp → Prop)) (h : Hp) : Prop :=
 NilW none w fun p =>
 Call0 P n_snap_numbers_count [(.pointer (some (Addr.add p 0))), (.int .i64 x.State), (.int .i64 (1 : Int))] (fun h1 =>
 NilW none w fun p1 =>
 Call0 P n_snap_numbers_count [(.pointer (some (Addr.add p1 0))), (.int .i64 x.PC), (.int .i64 (2 : Int))] (fun h2 =>
 LoopW1 (α1 := Int) (fun again t23 h3 =>
 (if (decide (t23 < (8 : Int))) = true then
 (((0 : Int) ≤ t23 ∧ t23 < (8 : Int)) ∧ ∃ x1 : Int, ((List.get?Internal (α := Value) [(.int .i64 x.Regs_0), (.int .i64 x.Regs_1), (.int .i64 x.Regs_2), (.int .i64 x.Regs_3), (.int .i64 x.Regs_4), (.int .i64 x.Regs_5), (.int .i64 x.Regs_6), (.int .i64 x.Regs_7)] ((Int.toNat t23) * 1)) = (some (.int .i64 x1)) ∧ NilW none w fun p2 =>
 Call0 P n_snap_numbers_put [(.pointer (some (Addr.add p2 0))), (.int .i64 x1), (.int .i64 (8 : Int))] (fun h4 =>
 again (IntKind.wrap .i64 (t23 + (1 : Int))) h4) h3))
 else
 NilW none w fun p2 =>
 Call0 P n_snap_numbers_count [(.pointer (some (Addr.add p2 0))), (.int .i64 x.Cursor), (.int .i64 (1 : Int))] (fun h4 =>
 NilW none w fun p3 =>
 Call0 P n_snap_numbers_put [(.pointer (some (Addr.add p3 0))), (.int .i64 x.Timer), (.int .i64 (8 : Int))] (fun h5 =>
 JoinW1 (α1 := Int) (fun k =>
 (if x.Fired = true then
 k (1 : Int) h5
 else
 k (0 : Int) h5))
 (fun fired h6 =>
 NilW none w fun p4 =>
 Call0 P n_snap_numbers_count [(.pointer (some (Addr.add p4 0))), (.int .i64 fired), (.int .i64 (1 : Int))] (fun h7 =>
 NilW none w fun p5 =>
 Call0 P n_snap_numbers_put [(.pointer (some (Addr.add p5 0))), (.int .i64 x.Wake), (.int .i64 (8 : Int))] (fun h8 =>
 LoopW1 (α1 := Int) (fun again1 t60 h9 =>
 (if (decide (t60 < ((x.Lanes.len : Nat) : Int))) = true then
 ((InB x.Lanes.base x.Lanes.len t60) ∧ LdW none sh_api_Lane h9 (sat x.Lanes.base 4 t60) fun x1 =>
 Call0 P n_snap_writer_lane [(.pointer w), x1.v] (fun h10 =>
 again1 (IntKind.wrap .i64 (t60 + (1 : Int))) h10) h9)
 else
 Q h9)) (0 : Int) h8) h7) h6)) h4) h3)) (0 : Int) h2) h1) h

def snap_reader_state_w (P : Program) (r : Option Addr) (Q : (S_api_State → (Hp → Prop))) (h : Hp) : Prop :=
 LoopW1 (α1 := Int) (fun again t7 h1 =>
 (if (decide (t7 < (5 : Int))) = true then
 JoinW0 (fun k =>
 NilW none r fun p =>
 LdW none (shInt .i64) h1 (Addr.add (Addr.add p 0) 1) fun x =>
 NilW none r fun p1 =>
 CallT P n_snap_source_get [(.pointer (some (Addr.add p1 0))), (.int .i64 (1 : Int))] (shInt .i64) (fun r1 h2 =>
 (((0 : Int) ≤ t7 ∧ t7 < (5 : Int)) ∧ (if ((IntKind.wrap .u8 r1) != (((UInt8.toNat (List.getD [70, 66, 83, 78, 1] (Int.toNat t7) 0)) : Nat) : Int)) = true then
 NilW none r fun p2 =>
 Call0 P n_snap_source_give [(.pointer (some (Addr.add p2 0))), (.int .i64 (4 : Int)), (.int .i64 x)] (fun h3 =>
 k h3) h2
 else
 k h2))) h1)
 (fun h2 =>
 again (IntKind.wrap .i64 (t7 + (1 : Int))) h2)
 else
 Call0 P n_snap_reader_config [(.pointer r)] (fun h2 =>
 NilW none r fun p =>
 CallT P n_snap_source_get [(.pointer (some (Addr.add p 0))), (.int .i64 (8 : Int))] (shInt .i64) (fun r1 h3 =>
 NilW none r fun p1 =>
 LdW none shSl h3 (Addr.add (Addr.add p1 4) 0) fun x =>
 LoopW2 (α1 := Int) (α2 := S_api_State) (fun again1 t43 s h4 =>
 (if (decide (t43 < ((x.len : Nat) : Int))) = true then
 CallT P n_snap_reader_part [(.pointer r)] sh_api_Part (fun r2 h5 =>
 ((True ∧ True) ∧ NewW [(.int .i64 r2.Cursor), r2.Log.v, (.int .i64 r2.Lost), (.int .i64 r2.Forbidden), r2.Owners.v, r2.Queues.v] (fun a h6 =>
 ((True ∧ True) ∧ AppendW 6 96 [(.int .i64 (0 : Int)), (.slice none 0 0), (.int .i64 (0 : Int)), (.int .i64 (0 : Int)), (.slice none 0 0), (.slice none 0 0)] ⟨s.Parts.base, s.Parts.len, s.Parts.cap⟩ ⟨(some a), 1, 1⟩ (fun r3 h7 =>
 again1 (IntKind.wrap .i64 (t43 + (1 : Int))) ⟨s.Tick, r3, s.Procs⟩ h7) h6)) h5)) h4
 else
 NilW none r fun p2 =>
 LdW none shSl h4 (Addr.add (Addr.add p2 4) 6) fun x1 =>
 LoopW2 (α1 := Int) (α2 := S_api_State) (fun again2 t59 s1 h5 =>
 (if (decide (t59 < ((x1.len : Nat) : Int))) = true then
 CallT P n_snap_reader_proc [(.pointer r)] sh_api_Process (fun r2 h6 =>
 ((True ∧ True) ∧ NewW [(.int .i64 r2.State), (.int .i64 r2.PC), (.int .i64 r2.Regs_0), (.int .i64 r2.Regs_1), (.int .i64 r2.Regs_2), (.int .i64 r2.Regs_3), (.int .i64 r2.Regs_4), (.int .i64 r2.Regs_5), (.int .i64 r2.Regs_6), (.int .i64 r2.Regs_7), (.int .i64 r2.Cursor), (.int .i64 r2.Timer), (.bool r2.Fired), (.int .i64 r2.Wake), r2.Lanes.v] (fun a h7 =>
 ((True ∧ True) ∧ AppendW 15 136 [(.int .i64 (0 : Int)), (.int .i64 (0 : Int)), (.int .i64 (0 : Int)), (.int .i64 (0 : Int)), (.int .i64 (0 : Int)), (.int .i64 (0 : Int)), (.int .i64 (0 : Int)), (.int .i64 (0 : Int)), (.int .i64 (0 : Int)), (.int .i64 (0 : Int)), (.int .i64 (0 : Int)), (.int .i64 (0 : Int)), (.bool false), (.int .i64 (0 : Int)), (.slice none 0 0)] ⟨s1.Procs.base, s1.Procs.len, s1.Procs.cap⟩ ⟨(some a), 1, 1⟩ (fun r3 h8 =>
 again2 (IntKind.wrap .i64 (t59 + (1 : Int))) ⟨s1.Tick, s1.Parts, r3⟩ h8) h7)) h6)) h5
 else
 NilW none r fun p3 =>
 LdW none (shInt .i64) h5 (Addr.add (Addr.add p3 0) 1) fun x2 =>
 NilW none r fun p4 =>
 LdW none shSl h5 (Addr.add (Addr.add p4 0) 0) fun x3 =>
 (if (decide (x2 < ((x3.len : Nat) : Int))) = true then
 NilW none r fun p5 =>
 NilW none r fun p6 =>
 LdW none (shInt .i64) h5 (Addr.add (Addr.add p6 0) 1) fun x4 =>
 Call0 P n_snap_source_give [(.pointer (some (Addr.add p5 0))), (.int .i64 (6 : Int)), (.int .i64 x4)] (fun h6 =>
 Q s1 h6) h5
 else
 Q s1 h5))) (0 : Int) s h4)) (0 : Int) ⟨r1, ⟨none, 0, 0⟩, ⟨none, 0, 0⟩⟩ h3) h2) h1)) (0 : Int) h

def snap_source_give_w (P : Program) (r : Option Addr) (e : Int) (place : Int) (Q : (Hp → Prop)) (h : Hp) : Prop :=
 NilW none r fun p =>
 LdW none (shInt .i64) h (Addr.add p 2) fun x =>
 (if (x == (0 : Int)) = true then
 NilW none r fun p1 =>
 StW h (Addr.add p1 2) [(.int .i64 e)] (fun h1 =>
 NilW none r fun p2 =>
 StW h1 (Addr.add p2 3) [(.int .i64 place)] (fun h2 =>
 Q h2))
 else
 Q h)

def firebreakref14_Skeleton_w (P : Program) (a : S_api_Config) (b : S_api_Config) (Q : (Bool → (Hp → Prop))) (h : Hp) : Prop :=
 CallT P n_firebreakref02_SameLabels [a.Labels.v, b.Labels.v] shBool (fun r h1 =>
 EffC (some (!(!r))) (CallT P n_firebreakref02_SameInts [a.Table.v, b.Table.v] shBool) (fun r1 h2 =>
 LetW ((!r) || (!r1)) fun y =>
 LetW (y || (a.Fuel != b.Fuel)) fun y1 =>
 LetW (y1 || (a.Lane != b.Lane)) fun y2 =>
 LetW (y2 || (a.Locks != b.Locks)) fun y3 =>
 LetW (y3 || (a.Log != b.Log)) fun y4 =>
 LetW (y4 || (((a.Procs.len : Nat) : Int) != ((b.Procs.len : Nat) : Int))) fun y5 =>
 (if y5 = true then
 Q false h2
 else
 LoopW1 (α1 := Int) (fun again i h3 =>
 (if (decide (i < ((a.Procs.len : Nat) : Int))) = true then
 ((InB a.Procs.base a.Procs.len i) ∧ LdW none (shInt .i64) h3 (Addr.add (sat a.Procs.base 2 i) 0) fun x =>
 ((InB b.Procs.base b.Procs.len i) ∧ LdW none (shInt .i64) h3 (Addr.add (sat b.Procs.base 2 i) 0) fun x1 =>
 (if (x != x1) = true then
 Q false h3
 else
 again (IntKind.wrap .i64 (i + (1 : Int))) h3)))
 else
 Q true h3)) (0 : Int) h2)) h1) h

def firebreakref06_Same_w (P : Program) (a : Sl) (b : Sl) (Q : (Bool → (Hp → Prop))) (h : Hp) : Prop :=
 (if (((a.len : Nat) : Int) != ((b.len : Nat) : Int)) = true then
 Q false h
 else
 LoopW1 (α1 := Int) (fun again i h1 =>
 (if (decide (i < ((a.len : Nat) : Int))) = true then
 ((InB a.base a.len i) ∧ LdW none sh_api_Ins h1 (sat a.base 5 i) fun x =>
 ((InB b.base b.len i) ∧ LdW none sh_api_Ins h1 (sat b.base 5 i) fun x1 =>
 SemV none P (binS .neq 101 (.tmp 20) (.tmp 24) x.v x1.v) shBool h1 fun x2 =>
 (if x2 = true then
 Q false h1
 else
 again (IntKind.wrap .i64 (i + (1 : Int))) h1)))
 else
 Q true h1)) (0 : Int) h)

def firebreakref18_samePart_w (P : Program) (a : S_api_Part) (b : S_api_Part) (Q : (Bool → (Hp → Prop))) (h : Hp) : Prop :=
 LetW ((a.Cursor != b.Cursor) || (a.Lost != b.Lost)) fun y =>
 LetW (y || (a.Forbidden != b.Forbidden)) fun y1 =>
 LetW (y1 || (((a.Log.len : Nat) : Int) != ((b.Log.len : Nat) : Int))) fun y2 =>
 LetW (y2 || (((a.Queues.len : Nat) : Int) != ((b.Queues.len : Nat) : Int))) fun y3 =>
 (if y3 = true then
 Q false h
 else
 LoopW1 (α1 := Int) (fun again i h1 =>
 (if (decide (i < ((a.Log.len : Nat) : Int))) = true then
 ((InB a.Log.base a.Log.len i) ∧ LdW none sh_api_Entry h1 (sat a.Log.base 3 i) fun x =>
 ((InB b.Log.base b.Log.len i) ∧ LdW none sh_api_Entry h1 (sat b.Log.base 3 i) fun x1 =>
 SemV none P (binS .neq 92 (.tmp 56) (.tmp 61) x.v x1.v) shBool h1 fun x2 =>
 (if x2 = true then
 Q false h1
 else
 again (IntKind.wrap .i64 (i + (1 : Int))) h1)))
 else
 LoopW1 (α1 := Int) (fun again1 i1 h2 =>
 (if (decide (i1 < ((a.Queues.len : Nat) : Int))) = true then
 ((InB a.Queues.base a.Queues.len i1) ∧ LdW none shSl h2 (sat a.Queues.base 1 i1) fun x =>
 ((InB b.Queues.base b.Queues.len i1) ∧ LdW none shSl h2 (sat b.Queues.base 1 i1) fun x1 =>
 CallT P n_firebreakref18_ints [x.v, x1.v] shBool (fun r h3 =>
 (if (!r) = true then
 Q false h3
 else
 again1 (IntKind.wrap .i64 (i1 + (1 : Int))) h3)) h2))
 else
 CallT P n_firebreakref18_ints [a.Owners.v, b.Owners.v] shBool (fun r h3 =>
 Q r h3) h2)) (0 : Int) h1)) (0 : Int) h)

def firebreakref18_sameProcess_w (P : Program) (a : S_api_Process) (b : S_api_Process) (Q : (Bool → (Hp → Prop))) (h : Hp) : Prop :=
 LetW ((a.State != b.State) || (a.PC != b.PC)) fun y =>
 SemV (some (!y)) P (binS .neq 55 (.tmp 21) (.tmp 23) (.agg #[(.int .i64 a.Regs_0), (.int .i64 a.Regs_1), (.int .i64 a.Regs_2), (.int .i64 a.Regs_3), (.int .i64 a.Regs_4), (.int .i64 a.Regs_5), (.int .i64 a.Regs_6), (.int .i64 a.Regs_7)]) (.agg #[(.int .i64 b.Regs_0), (.int .i64 b.Regs_1), (.int .i64 b.Regs_2), (.int .i64 b.Regs_3), (.int .i64 b.Regs_4), (.int .i64 b.Regs_5), (.int .i64 b.Regs_6), (.int .i64 b.Regs_7)])) shBool h fun x =>
 LetW (y || x) fun y1 =>
 LetW (y1 || (a.Cursor != b.Cursor)) fun y2 =>
 LetW (y2 || (a.Timer != b.Timer)) fun y3 =>
 LetW (y3 || (!(a.Fired == b.Fired))) fun y4 =>
 LetW (y4 || (a.Wake != b.Wake)) fun y5 =>
 LetW (y5 || (((a.Lanes.len : Nat) : Int) != ((b.Lanes.len : Nat) : Int))) fun y6 =>
 (if y6 = true then
 Q false h
 else
 LoopW1 (α1 := Int) (fun again i h1 =>
 (if (decide (i < ((a.Lanes.len : Nat) : Int))) = true then
 ((InB a.Lanes.base a.Lanes.len i) ∧ LdW none sh_api_Lane h1 (sat a.Lanes.base 4 i) fun x1 =>
 ((InB b.Lanes.base b.Lanes.len i) ∧ LdW none sh_api_Lane h1 (sat b.Lanes.base 4 i) fun x2 =>
 CallT P n_firebreakref18_sameLane [x1.v, x2.v] shBool (fun r h2 =>
 (if (!r) = true then
 Q false h2
 else
 again (IntKind.wrap .i64 (i + (1 : Int))) h2)) h1))
 else
 Q true h1)) (0 : Int) h)

def conf_May_w (P : Program) (c : S_api_Config) (Q : (Int → (Int → (Hp → Prop)))) (h : Hp) : Prop :=
 Call2 P n_table_May [c.Labels.v] (shInt .i64) (shInt .i64) (fun r r1 h1 =>
 (if (r != (0 : Int)) = true then
 Q r (0 : Int) h1
 else
 CallT P n_conf_many [(.int .i64 ((c.Table.len : Nat) : Int)), (.int .i64 (64 : Int))] (shInt .i64) (fun r2 h2 =>
 (if (r2 != (0 : Int)) = true then
 Q r2 (1 : Int) h2
 else
 Call3 P n_slots_New [c.Table.v, (.int .i64 ((c.Labels.len : Nat) : Int))] shPtr (shInt .i64) (shInt .i64) (fun r3 r4 r5 h3 =>
 (if (r4 != (0 : Int)) = true then
 Q r4 (1 : Int) h3
 else
 NewW [(.int .i64 (0 : Int)), (.int .i64 (0 : Int)), (.int .i64 c.Fuel), (.int .i64 c.Lane), (.int .i64 c.Locks), (.int .i64 c.Log)] (fun a h4 =>
 LoopW1 (α1 := Int) (fun again t57 h5 =>
 (if (decide (t57 < (6 : Int))) = true then
 ((InB (some a) 6 t57) ∧ LdW none (shInt .i64) h5 (sat (some a) 1 t57) fun x =>
 CallT P n_conf_ranged [(.int .i64 t57), (.int .i64 x)] (shInt .i64) (fun r6 h6 =>
 (if (r6 != (0 : Int)) = true then
 Q r6 t57 h6
 else
 again (IntKind.wrap .i64 (t57 + (1 : Int))) h6)) h5)
 else
 CallT P n_conf_many [(.int .i64 ((c.Procs.len : Nat) : Int)), (.int .i64 (32 : Int))] (shInt .i64) (fun r6 h6 =>
 (if (r6 != (0 : Int)) = true then
 Q r6 (6 : Int) h6
 else
 LoopW1 (α1 := Int) (fun again1 t80 h7 =>
 (if (decide (t80 < ((c.Procs.len : Nat) : Int))) = true then
 ((InB c.Procs.base c.Procs.len t80) ∧ LdW none sh_api_Proc h7 (sat c.Procs.base 2 t80) fun x =>
 CallT P n_conf_within [(.int .i64 x.Part), (.int .i64 (0 : Int)), (.int .i64 (IntKind.wrap .i64 (((c.Labels.len : Nat) : Int) - (1 : Int))))] shBool (fun r7 h8 =>
 (if (!r7) = true then
 Q (2 : Int) (IntKind.wrap .i64 ((7 : Int) + t80)) h8
 else
 Call2 P n_code_May [x.Code.v, (.int .i64 c.Locks)] (shInt .i64) (shInt .i64) (fun r8 r9 h9 =>
 (if (r8 != (0 : Int)) = true then
 Q r8 (IntKind.wrap .i64 ((7 : Int) + t80)) h9
 else
 again1 (IntKind.wrap .i64 (t80 + (1 : Int))) h9)) h8)) h7)
 else
 Q (0 : Int) (0 : Int) h7)) (0 : Int) h6)) h5)) (0 : Int) h4) h3)) h2)) h1)) h

def table_New_w (P : Program) (l : Sl) (Q : (Option Addr → (Int → (Int → (Hp → Prop))))) (h : Hp) : Prop :=
 Call2 P n_table_May [l.v] (shInt .i64) (shInt .i64) (fun r r1 h1 =>
 (if (r != (0 : Int)) = true then
 Q none r r1 h1
 else
 CallT P n_slices_Clone_uint64_uint64 [l.v] shSl (fun r2 h2 =>
 MakeMapW  (fun r3 h3 =>
 NewW [r2.v, (.map r3)] (fun a h4 =>
 NilW none (some a) fun p =>
 LdW none shSl h4 (Addr.add p 0) fun x =>
 LoopW1 (α1 := Int) (fun again t29 h5 =>
 (if (decide (t29 < ((x.len : Nat) : Int))) = true then
 ((InB x.base x.len t29) ∧ LdW none (shInt .u64) h5 (sat x.base 1 t29) fun x1 =>
 NilW none (some a) fun p1 =>
 LdW none shMap h5 (Addr.add p1 1) fun x2 =>
 MapSetW (.int .u64) x2 (.int .u64 x1) (.int .i64 t29) (fun h6 =>
 again (IntKind.wrap .i64 (t29 + (1 : Int))) h6) h5)
 else
 Q (some a) (0 : Int) (0 : Int) h5)) (0 : Int) h4) h3) h2) h1)) h

def machine_asked_part_w (P : Program) (a : S_machine_asked) (i : Int) (Q : (Bool → (Hp → Prop))) (h : Hp) : Prop :=
 NewW [a.c_Labels.v, a.c_Table.v, (.int .i64 a.c_Fuel), (.int .i64 a.c_Lane), (.int .i64 a.c_Locks), (.int .i64 a.c_Log), a.c_Procs.v, (.int .i64 a.s_Tick), a.s_Parts.v, a.s_Procs.v, (.pointer a.t)] (fun a1 h1 =>
 NewW [(.int .i64 i)] (fun a2 h2 =>
 LdW none shSl h2 (Addr.add (Addr.add a1 7) 1) fun x =>
 LdW none (shInt .i64) h2 a2 fun x1 =>
 ((InB x.base x.len x1) ∧ LdW none sh_api_Part h2 (sat x.base 6 x1) fun x2 =>
 LdW (some ((!(decide (x2.Cursor < (0 : Int)))) && (decide (x2.Cursor > (0 : Int))))) sh_machine_asked h2 a1 fun x3 =>
 LdW (some ((!(decide (x2.Cursor < (0 : Int)))) && (decide (x2.Cursor > (0 : Int))))) (shInt .i64) h2 a2 fun x4 =>
 EffC (some ((!(decide (x2.Cursor < (0 : Int)))) && (decide (x2.Cursor > (0 : Int))))) (CallT P n_machine_asked_many [x3.v, (.int .i64 x4)] (shInt .i64)) (fun r h3 =>
 ((True ∧ True) ∧ LetW ((decide (x2.Cursor > (0 : Int))) && (decide (x2.Cursor ≥ r))) fun y =>
 LetW ((decide (x2.Cursor < (0 : Int))) || y) fun y1 =>
 LdW (some (!y1)) (shInt .i64) h3 (Addr.add (Addr.add a1 0) 5) fun x5 =>
 LetW (y1 || (decide (((x2.Log.len : Nat) : Int) > x5))) fun y2 =>
 (if y2 = true then
 Q false h3
 else
 LoopW2 (α1 := Int) (α2 := Int) (fun again last t43 h4 =>
 (if (decide (t43 < ((x2.Log.len : Nat) : Int))) = true then
 ((InB x2.Log.base x2.Log.len t43) ∧ LdW none sh_api_Entry h4 (sat x2.Log.base 3 t43) fun x6 =>
 LdW (some (!(decide (x6.Tick < last)))) (shInt .i64) h4 (Addr.add (Addr.add a1 7) 0) fun x7 =>
 LetW ((decide (x6.Tick < last)) || (decide (x6.Tick ≥ x7))) fun y3 =>
 LdW (some (!y3)) sh_machine_asked h4 a1 fun x8 =>
 LdW (some (!y3)) (shInt .i64) h4 a2 fun x9 =>
 EffC (some (!y3)) (CallT P n_machine_asked_of [x8.v, (.int .i64 x6.Proc), (.int .i64 x9)] shBool) (fun r1 h5 =>
 LetW (y3 || (!r1)) fun y4 =>
 (if y4 = true then
 Q false h5
 else
 again x6.Tick (IntKind.wrap .i64 (t43 + (1 : Int))) h5)) h4)
 else
 CallT P n_machine_count [(.int .i64 x2.Lost)] shBool (fun r1 h5 =>
 EffC (some (!(!r1))) (CallT P n_machine_count [(.int .i64 x2.Forbidden)] shBool) (fun r2 h6 =>
 LetW ((!r1) || (!r2)) fun y3 =>
 LdW (some ((!y3) && (decide (x2.Lost > (0 : Int))))) (shInt .i64) h6 (Addr.add (Addr.add a1 0) 5) fun x6 =>
 LetW ((decide (x2.Lost > (0 : Int))) && (decide (((x2.Log.len : Nat) : Int) < x6))) fun y4 =>
 LetW (y3 || y4) fun y5 =>
 LdW (some (!y5)) (shInt .i64) h6 (Addr.add (Addr.add a1 0) 4) fun x7 =>
 LetW (y5 || (((x2.Owners.len : Nat) : Int) != x7)) fun y6 =>
 LdW (some (!y6)) (shInt .i64) h6 (Addr.add (Addr.add a1 0) 4) fun x8 =>
 LetW (y6 || (((x2.Queues.len : Nat) : Int) != x8)) fun y7 =>
 (if y7 = true then
 Q false h6
 else
 CallT P n_slices_ContainsFunc_int_int [x2.Owners.v, (.func (.func 49) #[] #[(.pointer (some a1)), (.pointer (some a2))])] shBool (fun r3 h7 =>
 Q (!r3) h7) h6)) h5) h4)) (0 : Int) (0 : Int) h3))) h2)) h1) h

def machine_asked_proc_w (P : Program) (a : S_machine_asked) (p : Int) (Q : (Bool → (Hp → Prop))) (h : Hp) : Prop :=
 ((InB a.s_Procs.base a.s_Procs.len p) ∧ LdW none sh_api_Process h (sat a.s_Procs.base 15 p) fun x =>
 ((InB a.c_Procs.base a.c_Procs.len p) ∧ LdW none sh_api_Proc h (sat a.c_Procs.base 2 p) fun x1 =>
 ((True ∧ ((LdIs h (sat a.c_Procs.base 2 p) [(.int .i64 x1.Part), x1.Code.v]) ∧ True)) ∧ JoinW1 (α1 := Bool) (fun k =>
 LetW ((decide (x.State < (0 : Int))) || (decide (x.State > (6 : Int)))) fun y =>
 (if y = true then
 k y h
 else
 LetW ((decide (x.PC < (0 : Int))) || (decide (x.PC > ((x1.Code.len : Nat) : Int)))) fun y1 =>
 (if y1 = true then
 k y1 h
 else
 (if (((x.Lanes.len : Nat) : Int) != (IntKind.wrap .i64 (((a.c_Labels.len : Nat) : Int) + (1 : Int)))) = true then
 k (((x.Lanes.len : Nat) : Int) != (IntKind.wrap .i64 (((a.c_Labels.len : Nat) : Int) + (1 : Int)))) h
 else
 LetW ((decide (x.Cursor < (0 : Int))) || (decide (x.Cursor ≥ ((x.Lanes.len : Nat) : Int)))) fun y2 =>
 k y2 h))))
 (fun t28 h1 =>
 (if t28 = true then
 Q false h1
 else
 JoinW1 (α1 := Bool) (fun k =>
 LetW ((decide (x.Timer < (0 : Int))) || (decide (x.Timer > (IntKind.wrap .i64 (a.s_Tick + (1099511627776 : Int)))))) fun y =>
 (if y = true then
 k y h1
 else
 LetW ((decide (x.Wake < (0 : Int))) || (decide (x.Wake > (IntKind.wrap .i64 (a.s_Tick + (1099511627776 : Int)))))) fun y1 =>
 (if y1 = true then
 k y1 h1
 else
 k (!((decide (x.Wake > (0 : Int))) == (x.State == (4 : Int)))) h1)))
 (fun t68 h2 =>
 (if t68 = true then
 Q false h2
 else
 CallT P n_machine_lives [(.int .i64 x.State)] shBool (fun r h3 =>
 LetW ((x.Timer != (0 : Int)) || x.Fired) fun y =>
 LetW ((!r) && y) fun y1 =>
 (if y1 = true then
 Q false h3
 else
 LoopW2 (α1 := Bool) (α2 := Int) (fun again some_ t111 h4 =>
 (if (decide (t111 < ((x.Lanes.len : Nat) : Int))) = true then
 ((InB x.Lanes.base x.Lanes.len t111) ∧ LdW none sh_api_Lane h4 (sat x.Lanes.base 4 t111) fun x2 =>
 LetW ((decide (((x2.Values.len : Nat) : Int) > (0 : Int))) || (decide (x2.Taken > (0 : Int)))) fun y2 =>
 LetW (y2 || (decide (x2.Dropped > (0 : Int)))) fun y3 =>
 EffC (some (!(decide (((x2.Values.len : Nat) : Int) > a.c_Lane)))) (CallT P n_machine_count [(.int .i64 x2.Taken)] shBool) (fun r1 h5 =>
 LetW ((decide (((x2.Values.len : Nat) : Int) > a.c_Lane)) || (!r1)) fun y4 =>
 EffC (some (!y4)) (CallT P n_machine_count [(.int .i64 x2.Dropped)] shBool) (fun r2 h6 =>
 LetW (y4 || (!r2)) fun y5 =>
 LetW (y3 && (decide (t111 < ((a.c_Labels.len : Nat) : Int)))) fun y6 =>
 EffC (some ((!y5) && y6)) (CallT P n_table_Table_Flows [(.pointer a.t), (.int .i64 t111), (.int .i64 x1.Part)] shBool) (fun r3 h7 =>
 LetW (y6 && (!r3)) fun y7 =>
 LetW (y5 || y7) fun y8 =>
 (if y8 = true then
 Q false h7
 else
 LetW (some_ || (decide (((x2.Values.len : Nat) : Int) > (0 : Int)))) fun y9 =>
 again y9 (IntKind.wrap .i64 (t111 + (1 : Int))) h7)) h6) h5) h4)
 else
 (if (x.State == (1 : Int)) = true then
 CallT P n_machine_asked_op [a.v, (.int .i64 p)] (shInt .i64) (fun r1 h5 =>
 LetW ((r1 == (25 : Int)) && (!some_)) fun y2 =>
 LetW (y2 && (!x.Fired)) fun y3 =>
 Q y3 h5) h4
 else
 (if (x.State == (2 : Int)) = true then
 CallT P n_machine_asked_op [a.v, (.int .i64 p)] (shInt .i64) (fun r1 h5 =>
 Q (r1 == (24 : Int)) h5) h4
 else
 (if (x.State == (3 : Int)) = true then
 CallT P n_machine_asked_op [a.v, (.int .i64 p)] (shInt .i64) (fun r1 h5 =>
 Q (r1 == (29 : Int)) h5) h4
 else
 (if (x.State == (4 : Int)) = true then
 CallT P n_machine_asked_op [a.v, (.int .i64 p)] (shInt .i64) (fun r1 h5 =>
 Q (r1 == (28 : Int)) h5) h4
 else
 Q true h4)))))) false (0 : Int) h3)) h2)))))))

def machine_asked_waits_w (P : Program) (a : S_machine_asked) (Q : (Bool → (Hp → Prop))) (h : Hp) : Prop :=
 MakeW 8 [(.int .i64 (0 : Int))] ((a.s_Procs.len : Nat) : Int) ((a.s_Procs.len : Nat) : Int) (fun r h1 =>
 LoopW1 (α1 := Int) (fun again t28 h2 =>
 (if (decide (t28 < ((a.s_Parts.len : Nat) : Int))) = true then
 ((InB a.s_Parts.base a.s_Parts.len t28) ∧ LdW none sh_api_Part h2 (sat a.s_Parts.base 6 t28) fun x =>
 LoopW1 (α1 := Int) (fun again1 t36 h3 =>
 (if (decide (t36 < ((x.Queues.len : Nat) : Int))) = true then
 ((InB x.Queues.base x.Queues.len t36) ∧ LdW none shSl h3 (sat x.Queues.base 1 t36) fun x1 =>
 LoopW1 (α1 := Int) (fun again2 t43 h4 =>
 (if (decide (t43 < ((x1.len : Nat) : Int))) = true then
 ((InB x1.base x1.len t43) ∧ LdW none (shInt .i64) h4 (sat x1.base 1 t43) fun x2 =>
 CallT P n_machine_asked_of [a.v, (.int .i64 x2), (.int .i64 t28)] shBool (fun r1 h5 =>
 (((!(!r1)) = true → (InB a.s_Procs.base a.s_Procs.len x2)) ∧ LdW (some (!(!r1))) (shInt .i64) h5 (Addr.add (sat a.s_Procs.base 15 x2) 0) fun x3 =>
 LetW ((!r1) || (x3 != (3 : Int))) fun y =>
 EffC (some (!y)) (CallT P n_machine_asked_ins [a.v, (.int .i64 x2)] sh_api_Ins) (fun r2 h6 =>
 LetW (y || (r2.Imm != t36)) fun y1 =>
 (((!y1) = true → (InB x.Owners.base x.Owners.len t36)) ∧ LdW (some (!y1)) (shInt .i64) h6 (sat x.Owners.base 1 t36) fun x4 =>
 LetW (y1 || (decide (x4 < (0 : Int)))) fun y2 =>
 (((!y2) = true → (InB x.Owners.base x.Owners.len t36)) ∧ LdW (some (!y2)) (shInt .i64) h6 (sat x.Owners.base 1 t36) fun x5 =>
 LetW (y2 || (x5 == x2)) fun y3 =>
 (if y3 = true then
 Q false h6
 else
 ((InB r.base r.len x2) ∧ LdW none (shInt .i64) h6 (sat r.base 1 x2) fun x6 =>
 ((InB r.base r.len x2) ∧ StW h6 (sat r.base 1 x2) [(.int .i64 (IntKind.wrap .i64 (x6 + (1 : Int))))] (fun h7 =>
 again2 (IntKind.wrap .i64 (t43 + (1 : Int))) h7))))))) h5)) h4)
 else
 again1 (IntKind.wrap .i64 (t36 + (1 : Int))) h4)) (0 : Int) h3)
 else
 again (IntKind.wrap .i64 (t28 + (1 : Int))) h3)) (0 : Int) h2)
 else
 LoopW1 (α1 := Int) (fun again1 t100 h3 =>
 (if (decide (t100 < ((a.s_Procs.len : Nat) : Int))) = true then
 ((InB a.s_Procs.base a.s_Procs.len t100) ∧ LdW none sh_api_Process h3 (sat a.s_Procs.base 15 t100) fun x =>
 LoopW1 (α1 := Int) (fun again2 t108 h4 =>
 (if (decide (t108 < ((x.Lanes.len : Nat) : Int))) = true then
 ((InB x.Lanes.base x.Lanes.len t108) ∧ LdW none sh_api_Lane h4 (sat x.Lanes.base 4 t108) fun x1 =>
 LoopW1 (α1 := Int) (fun again3 t116 h5 =>
 (if (decide (t116 < ((x1.Waiters.len : Nat) : Int))) = true then
 ((InB x1.Waiters.base x1.Waiters.len t116) ∧ LdW none sh_api_Waiter h5 (sat x1.Waiters.base 2 t116) fun x2 =>
 ((InB a.c_Procs.base a.c_Procs.len t100) ∧ LdW none (shInt .i64) h5 (Addr.add (sat a.c_Procs.base 2 t100) 0) fun x3 =>
 EffC (some (!(t108 != x3))) (CallT P n_machine_asked_of [a.v, (.int .i64 x2.Proc), (.int .i64 t108)] shBool) (fun r1 h6 =>
 LetW ((t108 != x3) || (!r1)) fun y =>
 EffC (some (!y)) (CallT P n_machine_lives [(.int .i64 x.State)] shBool) (fun r2 h7 =>
 LetW (y || (!r2)) fun y1 =>
 LetW (y1 || (((x1.Values.len : Nat) : Int) != a.c_Lane)) fun y2 =>
 EffC (some (!y2)) (CallT P n_machine_asked_sends [a.v, x2.v, (.int .i64 t100)] shBool) (fun r3 h8 =>
 LetW (y2 || (!r3)) fun y3 =>
 (if y3 = true then
 Q false h8
 else
 ((InB r.base r.len x2.Proc) ∧ LdW none (shInt .i64) h8 (sat r.base 1 x2.Proc) fun x4 =>
 ((InB r.base r.len x2.Proc) ∧ StW h8 (sat r.base 1 x2.Proc) [(.int .i64 (IntKind.wrap .i64 (x4 + (1 : Int))))] (fun h9 =>
 again3 (IntKind.wrap .i64 (t116 + (1 : Int))) h9))))) h7) h6) h5))
 else
 again2 (IntKind.wrap .i64 (t108 + (1 : Int))) h5)) (0 : Int) h4)
 else
 again1 (IntKind.wrap .i64 (t100 + (1 : Int))) h4)) (0 : Int) h3)
 else
 LoopW1 (α1 := Int) (fun again2 t173 h4 =>
 (if (decide (t173 < ((a.s_Procs.len : Nat) : Int))) = true then
 ((InB a.s_Procs.base a.s_Procs.len t173) ∧ LdW none sh_api_Process h4 (sat a.s_Procs.base 15 t173) fun x =>
 JoinW1 (α1 := Int) (fun k =>
 LetW ((x.State == (3 : Int)) || (x.State == (2 : Int))) fun y =>
 (if y = true then
 k (1 : Int) h4
 else
 k (0 : Int) h4))
 (fun must h5 =>
 ((InB r.base r.len t173) ∧ LdW none (shInt .i64) h5 (sat r.base 1 t173) fun x1 =>
 (if (x1 != must) = true then
 Q false h5
 else
 again2 (IntKind.wrap .i64 (t173 + (1 : Int))) h5))))
 else
 Q true h4)) (0 : Int) h3)) (0 : Int) h2)) (0 : Int) h1) h

def conf_lay_w (P : Program) (b : Sl) (n : Int) (many : Int) (Q : (Sl → (Hp → Prop))) (h : Hp) : Prop :=
 LoopW2 (α1 := Sl) (α2 := Int) (fun again b1 t9 h1 =>
 (if (decide (t9 < many)) = true then
 ((0 : Int) ≤ (IntKind.wrap .i64 ((8 : Int) * t9)) ∧ NewW [(.int .u8 (IntKind.wrap .u8 (shrI .u64 n (IntKind.wrap .i64 ((8 : Int) * t9)))))] (fun a h2 =>
 AppendW 1 1 [(.int .u8 (0 : Int))] ⟨b1.base, b1.len, b1.cap⟩ ⟨(some a), 1, 1⟩ (fun r h3 =>
 again r (IntKind.wrap .i64 (t9 + (1 : Int))) h3) h2) h1)
 else
 Q ⟨b1.base, b1.len, b1.cap⟩ h1)) b (0 : Int) h

def code_Encode_w (P : Program) (l : Sl) (Q : (Sl → (Int → (Int → (Hp → Prop))))) (h : Hp) : Prop :=
 Call2 P n_code_May [l.v, (.int .i64 (8 : Int))] (shInt .i64) (shInt .i64) (fun r r1 h1 =>
 (if (r != (0 : Int)) = true then
 Q ⟨none, 0, 0⟩ r r1 h1
 else
 MakeW 1 [(.int .u8 (0 : Int))] (0 : Int) (IntKind.wrap .i64 ((12 : Int) * ((l.len : Nat) : Int))) (fun r2 h2 =>
 LoopW2 (α1 := Sl) (α2 := Int) (fun again b t26 h3 =>
 (if (decide (t26 < ((l.len : Nat) : Int))) = true then
 ((InB l.base l.len t26) ∧ LdW none sh_api_Ins h3 (sat l.base 5 t26) fun x =>
 NewW [(.int .u8 (IntKind.wrap .u8 x.Op)), (.int .u8 (IntKind.wrap .u8 x.A)), (.int .u8 (IntKind.wrap .u8 x.B)), (.int .u8 (IntKind.wrap .u8 x.C))] (fun a h4 =>
 AppendW 1 1 [(.int .u8 (0 : Int))] ⟨b.base, b.len, b.cap⟩ ⟨(some a), 4, 4⟩ (fun r3 h5 =>
 LoopW2 (α1 := Sl) (α2 := Int) (fun again1 b1 t45 h6 =>
 (if (decide (t45 < (8 : Int))) = true then
 ((0 : Int) ≤ (IntKind.wrap .i64 ((8 : Int) * t45)) ∧ NewW [(.int .u8 (IntKind.wrap .u8 (shrI .u64 (IntKind.wrap .u64 x.Imm) (IntKind.wrap .i64 ((8 : Int) * t45)))))] (fun a1 h7 =>
 AppendW 1 1 [(.int .u8 (0 : Int))] ⟨b1.base, b1.len, b1.cap⟩ ⟨(some a1), 1, 1⟩ (fun r4 h8 =>
 again1 r4 (IntKind.wrap .i64 (t45 + (1 : Int))) h8) h7) h6)
 else
 again ⟨b1.base, b1.len, b1.cap⟩ (IntKind.wrap .i64 (t26 + (1 : Int))) h6)) r3 (0 : Int) h5) h4) h3)
 else
 Q ⟨b.base, b.len, b.cap⟩ (0 : Int) (0 : Int) h3)) r2 (0 : Int) h2) h1)) h

def snap_writer_lane_w (P : Program) (w : Option Addr) (x : S_api_Lane) (Q : (Hp → Prop)) (h : Hp) : Prop :=
 NilW none w fun p =>
 Call0 P n_snap_numbers_count [(.pointer (some (Addr.add p 0))), (.int .i64 ((x.Values.len : Nat) : Int)), (.int .i64 (1 : Int))] (fun h1 =>
 LoopW1 (α1 := Int) (fun again t18 h2 =>
 (if (decide (t18 < ((x.Values.len : Nat) : Int))) = true then
 ((InB x.Values.base x.Values.len t18) ∧ LdW none (shInt .i64) h2 (sat x.Values.base 1 t18) fun x1 =>
 NilW none w fun p1 =>
 Call0 P n_snap_numbers_put [(.pointer (some (Addr.add p1 0))), (.int .i64 x1), (.int .i64 (8 : Int))] (fun h3 =>
 again (IntKind.wrap .i64 (t18 + (1 : Int))) h3) h2)
 else
 NilW none w fun p1 =>
 Call0 P n_snap_numbers_count [(.pointer (some (Addr.add p1 0))), (.int .i64 ((x.Waiters.len : Nat) : Int)), (.int .i64 (1 : Int))] (fun h3 =>
 LoopW1 (α1 := Int) (fun again1 t38 h4 =>
 (if (decide (t38 < ((x.Waiters.len : Nat) : Int))) = true then
 ((InB x.Waiters.base x.Waiters.len t38) ∧ LdW none sh_api_Waiter h4 (sat x.Waiters.base 2 t38) fun x1 =>
 NilW none w fun p2 =>
 Call0 P n_snap_numbers_count [(.pointer (some (Addr.add p2 0))), (.int .i64 x1.Proc), (.int .i64 (1 : Int))] (fun h5 =>
 NilW none w fun p3 =>
 Call0 P n_snap_numbers_put [(.pointer (some (Addr.add p3 0))), (.int .i64 x1.Value_), (.int .i64 (8 : Int))] (fun h6 =>
 again1 (IntKind.wrap .i64 (t38 + (1 : Int))) h6) h5) h4)
 else
 NilW none w fun p2 =>
 Call0 P n_snap_numbers_count [(.pointer (some (Addr.add p2 0))), (.int .i64 x.Taken), (.int .i64 (2 : Int))] (fun h5 =>
 NilW none w fun p3 =>
 Call0 P n_snap_numbers_count [(.pointer (some (Addr.add p3 0))), (.int .i64 x.Dropped), (.int .i64 (2 : Int))] (fun h6 =>
 Q h6) h5) h4)) (0 : Int) h3) h2)) (0 : Int) h1) h

def snap_source_get_w (P : Program) (r : Option Addr) (many : Int) (Q : (Int → (Hp → Prop))) (h : Hp) : Prop :=
 NilW none r fun p =>
 LdW none (shInt .i64) h (Addr.add p 2) fun x =>
 (if (x != (0 : Int)) = true then
 Q (0 : Int) h
 else
 NilW none r fun p1 =>
 LdW none shSl h (Addr.add p1 0) fun x1 =>
 NilW none r fun p2 =>
 LdW none (shInt .i64) h (Addr.add p2 1) fun x2 =>
 (if (decide ((IntKind.wrap .i64 (((x1.len : Nat) : Int) - x2)) < many)) = true then
 NilW none r fun p3 =>
 LdW none shSl h (Addr.add p3 0) fun x3 =>
 Call0 P n_snap_source_give [(.pointer r), (.int .i64 (5 : Int)), (.int .i64 ((x3.len : Nat) : Int))] (fun h1 =>
 Q (0 : Int) h1) h
 else
 NilW none r fun p3 =>
 LdW none shSl h (Addr.add p3 0) fun x3 =>
 NilW none r fun p4 =>
 LdW none (shInt .i64) h (Addr.add p4 1) fun x4 =>
 NilW none r fun p5 =>
 LdW none (shInt .i64) h (Addr.add p5 1) fun x5 =>
 (((0 : Int) ≤ x4 ∧ (x4 ≤ (IntKind.wrap .i64 (x5 + many)) ∧ (IntKind.wrap .i64 (x5 + many)) ≤ ((x3.cap : Nat) : Int))) ∧ LetW (α := Sl) ⟨(sbase x3.base 1 (Int.toNat x4) x3.cap), ((Int.toNat (IntKind.wrap .i64 (x5 + many))) - (Int.toNat x4)), (x3.cap - (Int.toNat x4))⟩ fun y =>
 LoopW2 (α1 := Int) (α2 := Int) (fun again n t48 h1 =>
 (if (decide (t48 < ((y.len : Nat) : Int))) = true then
 ((InB y.base y.len t48) ∧ LdW none (shInt .u8) h1 (sat y.base 1 t48) fun x6 =>
 ((0 : Int) ≤ (IntKind.wrap .i64 ((8 : Int) * t48)) ∧ again (bitsI .or .u64 n (shlI .u64 (IntKind.wrap .u64 x6) (IntKind.wrap .i64 ((8 : Int) * t48)))) (IntKind.wrap .i64 (t48 + (1 : Int))) h1))
 else
 NilW none r fun p6 =>
 LdW none (shInt .i64) h1 (Addr.add p6 1) fun x6 =>
 NilW none r fun p7 =>
 StW h1 (Addr.add p7 1) [(.int .i64 (IntKind.wrap .i64 (x6 + many)))] (fun h2 =>
 Q (IntKind.wrap .i64 n) h2))) (0 : Int) (0 : Int) h)))

def snap_reader_config_w (P : Program) (r : Option Addr) (Q : (Hp → Prop)) (h : Hp) : Prop :=
 NilW none r fun p =>
 CallT P n_snap_source_small [(.pointer (some (Addr.add p 0))), (.int .i64 (4 : Int))] (shInt .i64) (fun r1 h1 =>
 NilW none r fun p1 =>
 LdW none (shInt .i64) h1 (Addr.add (Addr.add p1 0) 2) fun x =>
 (if (x != (0 : Int)) = true then
 Q h1
 else
 NilW none r fun p2 =>
 LdW none shSl h1 (Addr.add (Addr.add p2 0) 0) fun x1 =>
 NilW none r fun p3 =>
 LdW none (shInt .i64) h1 (Addr.add (Addr.add p3 0) 1) fun x2 =>
 (if (decide ((IntKind.wrap .i64 (((x1.len : Nat) : Int) - x2)) < r1)) = true then
 NilW none r fun p4 =>
 NilW none r fun p5 =>
 LdW none shSl h1 (Addr.add (Addr.add p5 0) 0) fun x3 =>
 Call0 P n_snap_source_give [(.pointer (some (Addr.add p4 0))), (.int .i64 (5 : Int)), (.int .i64 ((x3.len : Nat) : Int))] (fun h2 =>
 Q h2) h1
 else
 NilW none r fun p4 =>
 LdW none shSl h1 (Addr.add (Addr.add p4 0) 0) fun x3 =>
 NilW none r fun p5 =>
 LdW none (shInt .i64) h1 (Addr.add (Addr.add p5 0) 1) fun x4 =>
 NilW none r fun p6 =>
 LdW none (shInt .i64) h1 (Addr.add (Addr.add p6 0) 1) fun x5 =>
 (((0 : Int) ≤ x4 ∧ (x4 ≤ (IntKind.wrap .i64 (x5 + r1)) ∧ (IntKind.wrap .i64 (x5 + r1)) ≤ ((x3.cap : Nat) : Int))) ∧ LetW (α := Sl) ⟨(sbase x3.base 1 (Int.toNat x4) x3.cap), ((Int.toNat (IntKind.wrap .i64 (x5 + r1))) - (Int.toNat x4)), (x3.cap - (Int.toNat x4))⟩ fun y =>
 Call3 P n_conf_Decode [y.v] sh_api_Config (shInt .i64) (shInt .i64) (fun r2 r3 r4 h2 =>
 (if (r3 != (0 : Int)) = true then
 NilW none r fun p7 =>
 NilW none r fun p8 =>
 LdW none (shInt .i64) h2 (Addr.add (Addr.add p8 0) 1) fun x6 =>
 Call0 P n_snap_source_give [(.pointer (some (Addr.add p7 0))), (.int .i64 r3), (.int .i64 (IntKind.wrap .i64 (x6 + r4)))] (fun h3 =>
 Q h3) h2
 else
 NilW none r fun p7 =>
 StW h2 (Addr.add p7 4) [r2.Labels.v, r2.Table.v, (.int .i64 r2.Fuel), (.int .i64 r2.Lane), (.int .i64 r2.Locks), (.int .i64 r2.Log), r2.Procs.v] (fun h3 =>
 NilW none r fun p8 =>
 LdW none (shInt .i64) h3 (Addr.add (Addr.add p8 0) 1) fun x6 =>
 NilW none r fun p9 =>
 StW h3 (Addr.add (Addr.add p9 0) 1) [(.int .i64 (IntKind.wrap .i64 (x6 + r1)))] (fun h4 =>
 Q h4)))) h1)))) h

def snap_reader_part_w (P : Program) (r : Option Addr) (Q : (S_api_Part → (Hp → Prop))) (h : Hp) : Prop :=
 NilW none r fun p =>
 CallT P n_snap_source_small [(.pointer (some (Addr.add p 0))), (.int .i64 (1 : Int))] (shInt .i64) (fun r1 h1 =>
 NilW none r fun p1 =>
 NilW none r fun p2 =>
 LdW none (shInt .i64) h1 (Addr.add (Addr.add p2 4) 5) fun x =>
 CallT P n_snap_source_many [(.pointer (some (Addr.add p1 0))), (.int .i64 (2 : Int)), (.int .i64 x)] (shInt .i64) (fun r2 h2 =>
 LoopW2 (α1 := Int) (α2 := S_api_Part) (fun again t19 x1 h3 =>
 (if (decide (t19 < r2)) = true then
 NilW none r fun p3 =>
 NilW none r fun p4 =>
 NilW none r fun p5 =>
 CallT P n_snap_source_get [(.pointer (some (Addr.add p3 0))), (.int .i64 (8 : Int))] (shInt .i64) (fun r3 h4 =>
 ((True ∧ True) ∧ CallT P n_snap_source_small [(.pointer (some (Addr.add p4 0))), (.int .i64 (1 : Int))] (shInt .i64) (fun r4 h5 =>
 ((True ∧ True) ∧ CallT P n_snap_source_get [(.pointer (some (Addr.add p5 0))), (.int .i64 (8 : Int))] (shInt .i64) (fun r5 h6 =>
 ((True ∧ True) ∧ NewW [(.int .i64 r3), (.int .i64 r4), (.int .i64 r5)] (fun a h7 =>
 ((True ∧ True) ∧ AppendW 3 24 [(.int .i64 (0 : Int)), (.int .i64 (0 : Int)), (.int .i64 (0 : Int))] ⟨x1.Log.base, x1.Log.len, x1.Log.cap⟩ ⟨(some a), 1, 1⟩ (fun r6 h8 =>
 again (IntKind.wrap .i64 (t19 + (1 : Int))) ⟨x1.Cursor, r6, x1.Lost, x1.Forbidden, x1.Owners, x1.Queues⟩ h8) h7)) h6)) h5)) h4)) h3
 else
 NilW none r fun p3 =>
 NilW none r fun p4 =>
 CallT P n_snap_source_small [(.pointer (some (Addr.add p3 0))), (.int .i64 (2 : Int))] (shInt .i64) (fun r3 h4 =>
 CallT P n_snap_source_small [(.pointer (some (Addr.add p4 0))), (.int .i64 (2 : Int))] (shInt .i64) (fun r4 h5 =>
 NilW none r fun p5 =>
 LdW none (shInt .i64) h5 (Addr.add (Addr.add p5 4) 4) fun x2 =>
 LoopW2 (α1 := Int) (α2 := S_api_Part) (fun again1 t55 x3 h6 =>
 (if (decide (t55 < x2)) = true then
 NilW none r fun p6 =>
 CallT P n_snap_source_small [(.pointer (some (Addr.add p6 0))), (.int .i64 (1 : Int))] (shInt .i64) (fun r5 h7 =>
 ((True ∧ True) ∧ NewW [(.int .i64 (IntKind.wrap .i64 (r5 - (1 : Int))))] (fun a h8 =>
 ((True ∧ True) ∧ AppendW 1 8 [(.int .i64 (0 : Int))] ⟨x3.Owners.base, x3.Owners.len, x3.Owners.cap⟩ ⟨(some a), 1, 1⟩ (fun r6 h9 =>
 NilW none r fun p7 =>
 NilW none r fun p8 =>
 LdW none shSl h9 (Addr.add (Addr.add p8 4) 6) fun x4 =>
 CallT P n_snap_source_many [(.pointer (some (Addr.add p7 0))), (.int .i64 (1 : Int)), (.int .i64 ((x4.len : Nat) : Int))] (shInt .i64) (fun r7 h10 =>
 LoopW2 (α1 := Sl) (α2 := Int) (fun again2 q t77 h11 =>
 (if (decide (t77 < r7)) = true then
 NilW none r fun p9 =>
 CallT P n_snap_source_small [(.pointer (some (Addr.add p9 0))), (.int .i64 (1 : Int))] (shInt .i64) (fun r8 h12 =>
 NewW [(.int .i64 r8)] (fun a1 h13 =>
 AppendW 1 8 [(.int .i64 (0 : Int))] ⟨q.base, q.len, q.cap⟩ ⟨(some a1), 1, 1⟩ (fun r9 h14 =>
 again2 r9 (IntKind.wrap .i64 (t77 + (1 : Int))) h14) h13) h12) h11
 else
 NewW [q.v] (fun a1 h12 =>
 AppendW 1 24 [(.slice none 0 0)] ⟨x3.Queues.base, x3.Queues.len, x3.Queues.cap⟩ ⟨(some a1), 1, 1⟩ (fun r8 h13 =>
 again1 (IntKind.wrap .i64 (t55 + (1 : Int))) ⟨x3.Cursor, x3.Log, x3.Lost, x3.Forbidden, r6, r8⟩ h13) h12) h11)) ⟨none, 0, 0⟩ (0 : Int) h10) h9) h8)) h7)) h6
 else
 Q x3 h6)) (0 : Int) ⟨x1.Cursor, x1.Log, r3, r4, x1.Owners, x1.Queues⟩ h5) h4) h3)) (0 : Int) ⟨r1, ⟨none, 0, 0⟩, (0 : Int), (0 : Int), ⟨none, 0, 0⟩, ⟨none, 0, 0⟩⟩ h2) h1) h

def snap_reader_proc_w (P : Program) (r : Option Addr) (Q : (S_api_Process → (Hp → Prop))) (h : Hp) : Prop :=
 NilW none r fun p =>
 NilW none r fun p1 =>
 CallT P n_snap_source_small [(.pointer (some (Addr.add p 0))), (.int .i64 (1 : Int))] (shInt .i64) (fun r1 h1 =>
 CallT P n_snap_source_small [(.pointer (some (Addr.add p1 0))), (.int .i64 (2 : Int))] (shInt .i64) (fun r2 h2 =>
 NewW [(.int .i64 r1), (.int .i64 r2), (.int .i64 (0 : Int)), (.int .i64 (0 : Int)), (.int .i64 (0 : Int)), (.int .i64 (0 : Int)), (.int .i64 (0 : Int)), (.int .i64 (0 : Int)), (.int .i64 (0 : Int)), (.int .i64 (0 : Int)), (.int .i64 (0 : Int)), (.int .i64 (0 : Int)), (.bool false), (.int .i64 (0 : Int)), (.slice none 0 0)] (fun a h3 =>
 LoopW1 (α1 := Int) (fun again t16 h4 =>
 (if (decide (t16 < (8 : Int))) = true then
 NilW none r fun p2 =>
 CallT P n_snap_source_get [(.pointer (some (Addr.add p2 0))), (.int .i64 (8 : Int))] (shInt .i64) (fun r3 h5 =>
 (((0 : Int) ≤ t16 ∧ t16 < (8 : Int)) ∧ StW h5 (Addr.add (Addr.add a 2) ((Int.toNat t16) * 1)) [(.int .i64 r3)] (fun h6 =>
 again (IntKind.wrap .i64 (t16 + (1 : Int))) h6))) h4
 else
 NilW none r fun p2 =>
 CallT P n_snap_source_small [(.pointer (some (Addr.add p2 0))), (.int .i64 (1 : Int))] (shInt .i64) (fun r3 h5 =>
 StW h5 (Addr.add a 10) [(.int .i64 r3)] (fun h6 =>
 NilW none r fun p3 =>
 CallT P n_snap_source_get [(.pointer (some (Addr.add p3 0))), (.int .i64 (8 : Int))] (shInt .i64) (fun r4 h7 =>
 StW h7 (Addr.add a 11) [(.int .i64 r4)] (fun h8 =>
 NilW none r fun p4 =>
 LdW none (shInt .i64) h8 (Addr.add (Addr.add p4 0) 1) fun x =>
 NilW none r fun p5 =>
 CallT P n_snap_source_small [(.pointer (some (Addr.add p5 0))), (.int .i64 (1 : Int))] (shInt .i64) (fun r5 h9 =>
 JoinW0 (fun k =>
 (if (decide (r5 > (1 : Int))) = true then
 NilW none r fun p6 =>
 Call0 P n_snap_source_give [(.pointer (some (Addr.add p6 0))), (.int .i64 (4 : Int)), (.int .i64 x)] (fun h10 =>
 k h10) h9
 else
 k h9))
 (fun h10 =>
 StW h10 (Addr.add a 12) [(.bool (r5 == (1 : Int)))] (fun h11 =>
 NilW none r fun p6 =>
 CallT P n_snap_source_get [(.pointer (some (Addr.add p6 0))), (.int .i64 (8 : Int))] (shInt .i64) (fun r6 h12 =>
 StW h12 (Addr.add a 13) [(.int .i64 r6)] (fun h13 =>
 NilW none r fun p7 =>
 LdW none shSl h13 (Addr.add (Addr.add p7 4) 0) fun x1 =>
 LoopW1 (α1 := Int) (fun again1 t68 h14 =>
 (if (decide (t68 < (IntKind.wrap .i64 (((x1.len : Nat) : Int) + (1 : Int))))) = true then
 LdW none shSl h14 (Addr.add a 14) fun x2 =>
 CallT P n_snap_reader_lane [(.pointer r)] sh_api_Lane (fun r7 h15 =>
 (((LdIs h15 (Addr.add a 14) [x2.v]) ∧ True) ∧ NewW [r7.Values.v, r7.Waiters.v, (.int .i64 r7.Taken), (.int .i64 r7.Dropped)] (fun a1 h16 =>
 (((LdIs h16 (Addr.add a 14) [x2.v]) ∧ True) ∧ AppendW 4 64 [(.slice none 0 0), (.slice none 0 0), (.int .i64 (0 : Int)), (.int .i64 (0 : Int))] x2 ⟨(some a1), 1, 1⟩ (fun r8 h17 =>
 StW h17 (Addr.add a 14) [r8.v] (fun h18 =>
 again1 (IntKind.wrap .i64 (t68 + (1 : Int))) h18)) h16)) h15)) h14
 else
 LdW none sh_api_Process h14 a fun x2 =>
 Q x2 h14)) (0 : Int) h13)) h11))) h8)) h6)) h4)) (0 : Int) h3) h2) h1) h

def firebreakref02_SameLabels_w (P : Program) (a : Sl) (b : Sl) (Q : (Bool → (Hp → Prop))) (h : Hp) : Prop :=
 (if (((a.len : Nat) : Int) != ((b.len : Nat) : Int)) = true then
 Q false h
 else
 LoopW1 (α1 := Int) (fun again i h1 =>
 (if (decide (i < ((a.len : Nat) : Int))) = true then
 ((InB a.base a.len i) ∧ LdW none (shInt .u64) h1 (sat a.base 1 i) fun x =>
 ((InB b.base b.len i) ∧ LdW none (shInt .u64) h1 (sat b.base 1 i) fun x1 =>
 (if (x != x1) = true then
 Q false h1
 else
 again (IntKind.wrap .i64 (i + (1 : Int))) h1)))
 else
 Q true h1)) (0 : Int) h)

def firebreakref02_SameInts_w (P : Program) (a : Sl) (b : Sl) (Q : (Bool → (Hp → Prop))) (h : Hp) : Prop :=
 (if (((a.len : Nat) : Int) != ((b.len : Nat) : Int)) = true then
 Q false h
 else
 LoopW1 (α1 := Int) (fun again i h1 =>
 (if (decide (i < ((a.len : Nat) : Int))) = true then
 ((InB a.base a.len i) ∧ LdW none (shInt .i64) h1 (sat a.base 1 i) fun x =>
 ((InB b.base b.len i) ∧ LdW none (shInt .i64) h1 (sat b.base 1 i) fun x1 =>
 (if (x != x1) = true then
 Q false h1
 else
 again (IntKind.wrap .i64 (i + (1 : Int))) h1)))
 else
 Q true h1)) (0 : Int) h)

def firebreakref18_ints_w (P : Program) (a : Sl) (b : Sl) (Q : (Bool → (Hp → Prop))) (h : Hp) : Prop :=
 (if (((a.len : Nat) : Int) != ((b.len : Nat) : Int)) = true then
 Q false h
 else
 LoopW1 (α1 := Int) (fun again i h1 =>
 (if (decide (i < ((a.len : Nat) : Int))) = true then
 ((InB a.base a.len i) ∧ LdW none (shInt .i64) h1 (sat a.base 1 i) fun x =>
 ((InB b.base b.len i) ∧ LdW none (shInt .i64) h1 (sat b.base 1 i) fun x1 =>
 (if (x != x1) = true then
 Q false h1
 else
 again (IntKind.wrap .i64 (i + (1 : Int))) h1)))
 else
 Q true h1)) (0 : Int) h)

def firebreakref18_sameLane_w (P : Program) (a : S_api_Lane) (b : S_api_Lane) (Q : (Bool → (Hp → Prop))) (h : Hp) : Prop :=
 LetW ((((a.Values.len : Nat) : Int) != ((b.Values.len : Nat) : Int)) || (((a.Waiters.len : Nat) : Int) != ((b.Waiters.len : Nat) : Int))) fun y =>
 LetW (y || (a.Taken != b.Taken)) fun y1 =>
 LetW (y1 || (a.Dropped != b.Dropped)) fun y2 =>
 (if y2 = true then
 Q false h
 else
 LoopW1 (α1 := Int) (fun again i h1 =>
 (if (decide (i < ((a.Values.len : Nat) : Int))) = true then
 ((InB a.Values.base a.Values.len i) ∧ LdW none (shInt .i64) h1 (sat a.Values.base 1 i) fun x =>
 ((InB b.Values.base b.Values.len i) ∧ LdW none (shInt .i64) h1 (sat b.Values.base 1 i) fun x1 =>
 (if (x != x1) = true then
 Q false h1
 else
 again (IntKind.wrap .i64 (i + (1 : Int))) h1)))
 else
 LoopW1 (α1 := Int) (fun again1 i1 h2 =>
 (if (decide (i1 < ((a.Waiters.len : Nat) : Int))) = true then
 ((InB a.Waiters.base a.Waiters.len i1) ∧ LdW none sh_api_Waiter h2 (sat a.Waiters.base 2 i1) fun x =>
 ((InB b.Waiters.base b.Waiters.len i1) ∧ LdW none sh_api_Waiter h2 (sat b.Waiters.base 2 i1) fun x1 =>
 SemV none P (binS .neq 119 (.tmp 66) (.tmp 71) x.v x1.v) shBool h2 fun x2 =>
 (if x2 = true then
 Q false h2
 else
 again1 (IntKind.wrap .i64 (i1 + (1 : Int))) h2)))
 else
 Q true h2)) (0 : Int) h1)) (0 : Int) h)

def table_May_w (P : Program) (l : Sl) (Q : (Int → (Int → (Hp → Prop)))) (h : Hp) : Prop :=
 (if (((l.len : Nat) : Int) == (0 : Int)) = true then
 Q (1 : Int) (0 : Int) h
 else
 (if (decide (((l.len : Nat) : Int) > (8 : Int))) = true then
 Q (3 : Int) (8 : Int) h
 else
 LoopW1 (α1 := Int) (fun again i h1 =>
 (if (decide (i < ((l.len : Nat) : Int))) = true then
 ((InB l.base l.len i) ∧ LdW none (shInt .u64) h1 (sat l.base 1 i) fun x =>
 ((InB l.base l.len (IntKind.wrap .i64 (i - (1 : Int)))) ∧ LdW none (shInt .u64) h1 (sat l.base 1 (IntKind.wrap .i64 (i - (1 : Int)))) fun x1 =>
 (if (x == x1) = true then
 Q (8 : Int) i h1
 else
 ((InB l.base l.len i) ∧ LdW none (shInt .u64) h1 (sat l.base 1 i) fun x2 =>
 ((InB l.base l.len (IntKind.wrap .i64 (i - (1 : Int)))) ∧ LdW none (shInt .u64) h1 (sat l.base 1 (IntKind.wrap .i64 (i - (1 : Int)))) fun x3 =>
 (if (decide (x2 < x3)) = true then
 Q (7 : Int) i h1
 else
 again (IntKind.wrap .i64 (i + (1 : Int))) h1))))))
 else
 Q (0 : Int) (0 : Int) h1)) (1 : Int) h))

def conf_many_w (P : Program) (n : Int) (most : Int) (Q : (Int → (Hp → Prop))) (h : Hp) : Prop :=
 (if (n == (0 : Int)) = true then
 Q (1 : Int) h
 else
 (if (decide (n > most)) = true then
 Q (3 : Int) h
 else
 Q (0 : Int) h))

def slots_New_w (P : Program) (table : Sl) (parts : Int) (Q : (Option Addr → (Int → (Int → (Hp → Prop))))) (h : Hp) : Prop :=
 NewW [(.int .i64 parts)] (fun a h1 =>
 LdW none (shInt .i64) h1 a fun x =>
 LdW (some (!(decide (x < (1 : Int))))) (shInt .i64) h1 a fun x1 =>
 LetW ((decide (x < (1 : Int))) || (decide (x1 > (8 : Int)))) fun y =>
 LetW (y || (((table.len : Nat) : Int) == (0 : Int))) fun y1 =>
 (if y1 = true then
 Q none (1 : Int) (0 : Int) h1
 else
 (if (decide (((table.len : Nat) : Int) > (64 : Int))) = true then
 Q none (3 : Int) (64 : Int) h1
 else
 CallT P n_slices_IndexFunc_int_int [table.v, (.func (.func 60) #[] #[(.pointer (some a))])] (shInt .i64) (fun r h2 =>
 (if (decide (r ≥ (0 : Int))) = true then
 Q none (2 : Int) r h2
 else
 LdW none (shInt .i64) h2 a fun x2 =>
 CallT P n_slices_Clone_int_int [table.v] shSl (fun r1 h3 =>
 (((LdIs h3 a [(.int .i64 x2)]) ∧ True) ∧ NewW [r1.v, (.int .i64 x2)] (fun a1 h4 =>
 Q (some a1) (0 : Int) (0 : Int) h4) h3)) h2)) h1))) h

def conf_ranged_w (P : Program) (part : Int) (n : Int) (Q : (Int → (Hp → Prop))) (h : Hp) : Prop :=
 (if (part == (2 : Int)) = true then
 CallT P n_conf_within [(.int .i64 n), (.int .i64 (1 : Int)), (.int .i64 (256 : Int))] shBool (fun r h1 =>
 (if (!r) = true then
 Q (2 : Int) h1
 else
 Q (0 : Int) h1)) h
 else
 (if (part == (3 : Int)) = true then
 CallT P n_conf_within [(.int .i64 n), (.int .i64 (1 : Int)), (.int .i64 (64 : Int))] shBool (fun r h1 =>
 (if (!r) = true then
 Q (2 : Int) h1
 else
 Q (0 : Int) h1)) h
 else
 (if (part == (4 : Int)) = true then
 CallT P n_conf_within [(.int .i64 n), (.int .i64 (0 : Int)), (.int .i64 (8 : Int))] shBool (fun r h1 =>
 (if (!r) = true then
 Q (2 : Int) h1
 else
 Q (0 : Int) h1)) h
 else
 (if (part == (5 : Int)) = true then
 CallT P n_conf_within [(.int .i64 n), (.int .i64 (0 : Int)), (.int .i64 (4096 : Int))] shBool (fun r h1 =>
 (if (!r) = true then
 Q (2 : Int) h1
 else
 Q (0 : Int) h1)) h
 else
 Q (0 : Int) h))))

def conf_within_w (P : Program) (n : Int) (from_ : Int) (to : Int) (Q : (Bool → (Hp → Prop))) (h : Hp) : Prop :=
 LetW ((decide (n ≥ from_)) && (decide (n ≤ to))) fun y =>
 Q y h

def code_May_w (P : Program) (l : Sl) (locks : Int) (Q : (Int → (Int → (Hp → Prop)))) (h : Hp) : Prop :=
 LetW ((decide (locks < (0 : Int))) || (decide (locks > (8 : Int)))) fun y =>
 (if y = true then
 Q (1 : Int) (0 : Int) h
 else
 (if (decide (((l.len : Nat) : Int) > (256 : Int))) = true then
 Q (3 : Int) (256 : Int) h
 else
 LoopW1 (α1 := Int) (fun again t22 h1 =>
 (if (decide (t22 < ((l.len : Nat) : Int))) = true then
 ((InB l.base l.len t22) ∧ LdW none sh_api_Ins h1 (sat l.base 5 t22) fun x =>
 CallT P n_code_Check [x.v, (.int .i64 ((l.len : Nat) : Int)), (.int .i64 locks)] (shInt .i64) (fun r h2 =>
 (if (r != (0 : Int)) = true then
 Q r t22 h2
 else
 again (IntKind.wrap .i64 (t22 + (1 : Int))) h2)) h1)
 else
 Q (0 : Int) (0 : Int) h1)) (0 : Int) h))

def slices_Clone_uint64_uint64_w (P : Program) (s : Sl) (Q : (Sl → (Hp → Prop))) (h : Hp) : Prop :=
 SemV none P (binS .eql 23 (.tmp 3) (.const (.slice none 0 0)) s.v (.slice none 0 0)) shBool h fun x =>
 (if x = true then
 Q ⟨none, 0, 0⟩ h
 else
 NewW [] (fun a h1 =>
 AppendW 1 8 [(.int .u64 (0 : Int))] ⟨(some a), 0, 0⟩ s (fun r h2 =>
 Q r h2) h1) h)

def machine_asked_many_w (P : Program) (a : S_machine_asked) (i : Int) (Q : (Int → (Hp → Prop))) (h : Hp) : Prop :=
 LoopW2 (α1 := Int) (α2 := Int) (fun again n t12 h1 =>
 (if (decide (t12 < ((a.c_Procs.len : Nat) : Int))) = true then
 JoinW1 (α1 := Int) (fun k =>
 ((InB a.c_Procs.base a.c_Procs.len t12) ∧ LdW none sh_api_Proc h1 (sat a.c_Procs.base 2 t12) fun x =>
 (if (x.Part == i) = true then
 k (IntKind.wrap .i64 (n + (1 : Int))) h1
 else
 k n h1)))
 (fun n1 h2 =>
 again n1 (IntKind.wrap .i64 (t12 + (1 : Int))) h2)
 else
 Q n h1)) (0 : Int) (0 : Int) h

def machine_asked_of_w (P : Program) (a : S_machine_asked) (p : Int) (i : Int) (Q : (Bool → (Hp → Prop))) (h : Hp) : Prop :=
 LetW ((decide (p ≥ (0 : Int))) && (decide (p < ((a.c_Procs.len : Nat) : Int)))) fun y =>
 ((y = true → (InB a.c_Procs.base a.c_Procs.len p)) ∧ LdW (some y) (shInt .i64) h (Addr.add (sat a.c_Procs.base 2 p) 0) fun x =>
 LetW (y && (x == i)) fun y1 =>
 Q y1 h)

def machine_count_w (P : Program) (n : Int) (Q : (Bool → (Hp → Prop))) (h : Hp) : Prop :=
 LetW ((decide (n ≥ (0 : Int))) && (decide (n ≤ (65535 : Int)))) fun y =>
 Q y h

def slices_ContainsFunc_int_int_w (P : Program) (s : Sl) (f : FnV) (Q : (Bool → (Hp → Prop))) (h : Hp) : Prop :=
 CallT P n_slices_IndexFunc_int_int [s.v, (.func (.func f.g) f.first f.captured)] (shInt .i64) (fun r h1 =>
 Q (decide (r ≥ (0 : Int))) h1) h

def machine_asked_part_1_w (P : Program) (p : Int) (a1 : Addr) (a2 : Addr) (Q : (Bool → (Hp → Prop))) (h : Hp) : Prop :=
 LdW (some (p != (-1 : Int))) sh_machine_asked h a1 fun x =>
 LdW (some (p != (-1 : Int))) (shInt .i64) h a2 fun x1 =>
 EffC (some (p != (-1 : Int))) (CallT P n_machine_asked_of [x.v, (.int .i64 p), (.int .i64 x1)] shBool) (fun r h1 =>
 LdW (some ((p != (-1 : Int)) && (!(!r)))) shSl h1 (Addr.add (Addr.add a1 7) 2) fun x2 =>
 ((((p != (-1 : Int)) && (!(!r))) = true → (InB x2.base x2.len p)) ∧ LdW (some ((p != (-1 : Int)) && (!(!r)))) (shInt .i64) h1 (Addr.add (sat x2.base 15 p) 0) fun x3 =>
 EffC (some ((p != (-1 : Int)) && (!(!r)))) (CallT P n_machine_lives [(.int .i64 x3)] shBool) (fun r1 h2 =>
 LetW ((!r) || (!r1)) fun y =>
 LetW ((p != (-1 : Int)) && y) fun y1 =>
 Q y1 h2) h1)) h

def machine_lives_w (P : Program) (state : Int) (Q : (Bool → (Hp → Prop))) (h : Hp) : Prop :=
 LetW ((state != (5 : Int)) && (state != (6 : Int))) fun y =>
 Q y h

def table_Table_Flows_w (P : Program) (t : Option Addr) (i : Int) (j : Int) (Q : (Bool → (Hp → Prop))) (h : Hp) : Prop :=
 CallT P n_table_Table_is [(.pointer t), (.int .i64 i)] shBool (fun r h1 =>
 EffC (some r) (CallT P n_table_Table_is [(.pointer t), (.int .i64 j)] shBool) (fun r1 h2 =>
 LetW (r && r1) fun y =>
 NilW (some y) t fun p =>
 LdW (some y) shSl h2 (Addr.add p 0) fun x =>
 ((y = true → (InB x.base x.len i)) ∧ LdW (some y) (shInt .u64) h2 (sat x.base 1 i) fun x1 =>
 NilW (some y) t fun p1 =>
 LdW (some y) shSl h2 (Addr.add p1 0) fun x2 =>
 ((y = true → (InB x2.base x2.len j)) ∧ LdW (some y) (shInt .u64) h2 (sat x2.base 1 j) fun x3 =>
 EffC (some y) (CallT P n_label_Flows [(.int .u64 x1), (.int .u64 x3)] shBool) (fun r2 h3 =>
 LetW (y && r2) fun y1 =>
 Q y1 h3) h2))) h1) h

def machine_asked_op_w (P : Program) (a : S_machine_asked) (p : Int) (Q : (Int → (Hp → Prop))) (h : Hp) : Prop :=
 CallT P n_machine_asked_ins [a.v, (.int .i64 p)] sh_api_Ins (fun r h1 =>
 Q r.Op h1) h

def machine_asked_ins_w (P : Program) (a : S_machine_asked) (p : Int) (Q : (S_api_Ins → (Hp → Prop))) (h : Hp) : Prop :=
 ((InB a.c_Procs.base a.c_Procs.len p) ∧ LdW none shSl h (Addr.add (sat a.c_Procs.base 2 p) 1) fun x =>
 ((InB a.s_Procs.base a.s_Procs.len p) ∧ LdW none (shInt .i64) h (Addr.add (sat a.s_Procs.base 15 p) 1) fun x1 =>
 LetW ((decide (x1 < (0 : Int))) || (decide (x1 ≥ ((x.len : Nat) : Int)))) fun y =>
 (if y = true then
 Q ⟨(-1 : Int), (0 : Int), (0 : Int), (0 : Int), (0 : Int)⟩ h
 else
 ((InB x.base x.len x1) ∧ LdW none sh_api_Ins h (sat x.base 5 x1) fun x2 =>
 Q x2 h))))

def machine_asked_sends_w (P : Program) (a : S_machine_asked) (w : S_api_Waiter) (r : Int) (Q : (Bool → (Hp → Prop))) (h : Hp) : Prop :=
 ((InB a.s_Procs.base a.s_Procs.len w.Proc) ∧ LdW none sh_api_Process h (sat a.s_Procs.base 15 w.Proc) fun x =>
 CallT P n_machine_asked_ins [a.v, (.int .i64 w.Proc)] sh_api_Ins (fun r1 h1 =>
 ((True ∧ (True ∧ ((LdIs h1 (sat a.s_Procs.base 15 w.Proc) [(.int .i64 x.State), (.int .i64 x.PC), (.int .i64 x.Regs_0), (.int .i64 x.Regs_1), (.int .i64 x.Regs_2), (.int .i64 x.Regs_3), (.int .i64 x.Regs_4), (.int .i64 x.Regs_5), (.int .i64 x.Regs_6), (.int .i64 x.Regs_7), (.int .i64 x.Cursor), (.int .i64 x.Timer), (.bool x.Fired), (.int .i64 x.Wake), x.Lanes.v]) ∧ True))) ∧ LetW ((x.State == (2 : Int)) && (r1.Op == (24 : Int))) fun y =>
 ((y = true → ((0 : Int) ≤ r1.B ∧ r1.B < (8 : Int))) ∧ ∃ x1 : Int, ((y = true → (List.get?Internal (α := Value) [(.int .i64 x.State), (.int .i64 x.PC), (.int .i64 x.Regs_0), (.int .i64 x.Regs_1), (.int .i64 x.Regs_2), (.int .i64 x.Regs_3), (.int .i64 x.Regs_4), (.int .i64 x.Regs_5), (.int .i64 x.Regs_6), (.int .i64 x.Regs_7), (.int .i64 x.Cursor), (.int .i64 x.Timer), (.bool x.Fired), (.int .i64 x.Wake), x.Lanes.v] (2 + ((Int.toNat r1.B) * 1))) = (some (.int .i64 x1))) ∧ LetW (y && (x1 == r)) fun y1 =>
 ((y1 = true → ((0 : Int) ≤ r1.C ∧ r1.C < (8 : Int))) ∧ ∃ x2 : Int, ((y1 = true → (List.get?Internal (α := Value) [(.int .i64 x.State), (.int .i64 x.PC), (.int .i64 x.Regs_0), (.int .i64 x.Regs_1), (.int .i64 x.Regs_2), (.int .i64 x.Regs_3), (.int .i64 x.Regs_4), (.int .i64 x.Regs_5), (.int .i64 x.Regs_6), (.int .i64 x.Regs_7), (.int .i64 x.Cursor), (.int .i64 x.Timer), (.bool x.Fired), (.int .i64 x.Wake), x.Lanes.v] (2 + ((Int.toNat r1.C) * 1))) = (some (.int .i64 x2))) ∧ LetW (y1 && (x2 == w.Value_)) fun y2 =>
 Q y2 h1)))))) h)

def snap_source_small_w (P : Program) (r : Option Addr) (many : Int) (Q : (Int → (Hp → Prop))) (h : Hp) : Prop :=
 CallT P n_snap_source_get [(.pointer r), (.int .i64 many)] (shInt .i64) (fun r1 h1 =>
 Q r1 h1) h

def conf_Decode_w (P : Program) (b : Sl) (Q : (S_api_Config → (Int → (Int → (Hp → Prop))))) (h : Hp) : Prop :=
 NewW [(.slice none 0 0), (.slice none 0 0), (.int .i64 (0 : Int)), (.int .i64 (0 : Int)), (.int .i64 (0 : Int)), (.int .i64 (0 : Int)), (.slice none 0 0)] (fun a h1 =>
 NewW [b.v, (.int .i64 (0 : Int)), (.int .i64 (0 : Int)), (.int .i64 (0 : Int))] (fun a1 h2 =>
 JoinW1 (α1 := S_api_Config) (fun k =>
 (if (decide (((b.len : Nat) : Int) > (1048576 : Int))) = true then
 Call0 P n_conf_reader_give [(.pointer (some a1)), (.int .i64 (22 : Int)), (.int .i64 (1048576 : Int))] (fun h3 =>
 k ⟨⟨none, 0, 0⟩, ⟨none, 0, 0⟩, (0 : Int), (0 : Int), (0 : Int), (0 : Int), ⟨none, 0, 0⟩⟩ h3) h2
 else
 Call0 P n_conf_reader_marked [(.pointer (some a1))] (fun h3 =>
 CallT P n_conf_reader_bad [(.pointer (some a1))] shBool (fun r h4 =>
 (if r = true then
 k ⟨⟨none, 0, 0⟩, ⟨none, 0, 0⟩, (0 : Int), (0 : Int), (0 : Int), (0 : Int), ⟨none, 0, 0⟩⟩ h4
 else
 Call0 P n_conf_reader_labels [(.pointer (some a1)), (.pointer (some a))] (fun h5 =>
 CallT P n_conf_reader_bad [(.pointer (some a1))] shBool (fun r1 h6 =>
 (if r1 = true then
 k ⟨⟨none, 0, 0⟩, ⟨none, 0, 0⟩, (0 : Int), (0 : Int), (0 : Int), (0 : Int), ⟨none, 0, 0⟩⟩ h6
 else
 Call0 P n_conf_reader_table [(.pointer (some a1)), (.pointer (some a))] (fun h7 =>
 CallT P n_conf_reader_bad [(.pointer (some a1))] shBool (fun r2 h8 =>
 (if r2 = true then
 k ⟨⟨none, 0, 0⟩, ⟨none, 0, 0⟩, (0 : Int), (0 : Int), (0 : Int), (0 : Int), ⟨none, 0, 0⟩⟩ h8
 else
 CallT P n_conf_reader_ranged [(.pointer (some a1)), (.int .i64 (2 : Int)), (.int .i64 (2 : Int))] (shInt .i64) (fun r3 h9 =>
 StW h9 (Addr.add a 2) [(.int .i64 r3)] (fun h10 =>
 CallT P n_conf_reader_ranged [(.pointer (some a1)), (.int .i64 (3 : Int)), (.int .i64 (1 : Int))] (shInt .i64) (fun r4 h11 =>
 StW h11 (Addr.add a 3) [(.int .i64 r4)] (fun h12 =>
 CallT P n_conf_reader_ranged [(.pointer (some a1)), (.int .i64 (4 : Int)), (.int .i64 (1 : Int))] (shInt .i64) (fun r5 h13 =>
 StW h13 (Addr.add a 4) [(.int .i64 r5)] (fun h14 =>
 CallT P n_conf_reader_ranged [(.pointer (some a1)), (.int .i64 (5 : Int)), (.int .i64 (2 : Int))] (shInt .i64) (fun r6 h15 =>
 StW h15 (Addr.add a 5) [(.int .i64 r6)] (fun h16 =>
 CallT P n_conf_reader_counted [(.pointer (some a1)), (.int .i64 (32 : Int))] (shInt .i64) (fun r7 h17 =>
 LoopW1 (α1 := Int) (fun again n h18 =>
 EffC (some (decide (n > (0 : Int)))) (CallT P n_conf_reader_bad [(.pointer (some a1))] shBool) (fun r8 h19 =>
 LetW ((decide (n > (0 : Int))) && (!r8)) fun y =>
 (if y = true then
 Call0 P n_conf_reader_proc [(.pointer (some a1)), (.pointer (some a))] (fun h20 =>
 again (IntKind.wrap .i64 (n - (1 : Int))) h20) h19
 else
 NilW none (some a1) fun p =>
 LdW none (shInt .i64) h19 (Addr.add p 1) fun x =>
 (if (decide (x < ((b.len : Nat) : Int))) = true then
 NilW none (some a1) fun p1 =>
 LdW none (shInt .i64) h19 (Addr.add p1 1) fun x1 =>
 Call0 P n_conf_reader_give [(.pointer (some a1)), (.int .i64 (6 : Int)), (.int .i64 x1)] (fun h20 =>
 k ⟨⟨none, 0, 0⟩, ⟨none, 0, 0⟩, (0 : Int), (0 : Int), (0 : Int), (0 : Int), ⟨none, 0, 0⟩⟩ h20) h19
 else
 k ⟨⟨none, 0, 0⟩, ⟨none, 0, 0⟩, (0 : Int), (0 : Int), (0 : Int), (0 : Int), ⟨none, 0, 0⟩⟩ h19))) h18) r7 h17) h16)) h14)) h12)) h10)) h8)) h7) h6)) h5) h4)) h3) h2))
 (fun t2 h3 =>
 CallT P n_conf_reader_bad [(.pointer (some a1))] shBool (fun r h4 =>
 (if r = true then
 NilW none (some a1) fun p =>
 LdW none (shInt .i64) h4 (Addr.add p 2) fun x =>
 NilW none (some a1) fun p1 =>
 LdW none (shInt .i64) h4 (Addr.add p1 3) fun x1 =>
 (((LdIs h4 (Addr.add p 2) [(.int .i64 x)]) ∧ ((LdIs h4 (Addr.add p1 3) [(.int .i64 x1)]) ∧ True)) ∧ Q ⟨⟨none, 0, 0⟩, ⟨none, 0, 0⟩, (0 : Int), (0 : Int), (0 : Int), (0 : Int), ⟨none, 0, 0⟩⟩ x x1 h4)
 else
 LdW none sh_api_Config h4 a fun x =>
 Q x (0 : Int) (0 : Int) h4)) h3)) h1) h

def snap_source_many_w (P : Program) (r : Option Addr) (bytes : Int) (most : Int) (Q : (Int → (Hp → Prop))) (h : Hp) : Prop :=
 NilW none r fun p =>
 LdW none (shInt .i64) h (Addr.add p 1) fun x =>
 CallT P n_snap_source_small [(.pointer r), (.int .i64 bytes)] (shInt .i64) (fun r1 h1 =>
 (if (decide (r1 > most)) = true then
 Call0 P n_snap_source_give [(.pointer r), (.int .i64 (3 : Int)), (.int .i64 x)] (fun h2 =>
 NilW none r fun p1 =>
 LdW none (shInt .i64) h2 (Addr.add p1 2) fun x1 =>
 (if (x1 != (0 : Int)) = true then
 Q (0 : Int) h2
 else
 Q r1 h2)) h1
 else
 NilW none r fun p1 =>
 LdW none (shInt .i64) h1 (Addr.add p1 2) fun x1 =>
 (if (x1 != (0 : Int)) = true then
 Q (0 : Int) h1
 else
 Q r1 h1))) h

def snap_reader_lane_w (P : Program) (r : Option Addr) (Q : (S_api_Lane → (Hp → Prop))) (h : Hp) : Prop :=
 NilW none r fun p =>
 NilW none r fun p1 =>
 LdW none (shInt .i64) h (Addr.add (Addr.add p1 4) 3) fun x =>
 CallT P n_snap_source_many [(.pointer (some (Addr.add p 0))), (.int .i64 (1 : Int)), (.int .i64 x)] (shInt .i64) (fun r1 h1 =>
 LoopW2 (α1 := Int) (α2 := S_api_Lane) (fun again t13 x1 h2 =>
 (if (decide (t13 < r1)) = true then
 NilW none r fun p2 =>
 CallT P n_snap_source_get [(.pointer (some (Addr.add p2 0))), (.int .i64 (8 : Int))] (shInt .i64) (fun r2 h3 =>
 ((True ∧ True) ∧ NewW [(.int .i64 r2)] (fun a h4 =>
 ((True ∧ True) ∧ AppendW 1 8 [(.int .i64 (0 : Int))] ⟨x1.Values.base, x1.Values.len, x1.Values.cap⟩ ⟨(some a), 1, 1⟩ (fun r3 h5 =>
 again (IntKind.wrap .i64 (t13 + (1 : Int))) ⟨r3, x1.Waiters, x1.Taken, x1.Dropped⟩ h5) h4)) h3)) h2
 else
 NilW none r fun p2 =>
 NilW none r fun p3 =>
 LdW none shSl h2 (Addr.add (Addr.add p3 4) 6) fun x2 =>
 CallT P n_snap_source_many [(.pointer (some (Addr.add p2 0))), (.int .i64 (1 : Int)), (.int .i64 ((x2.len : Nat) : Int))] (shInt .i64) (fun r2 h3 =>
 LoopW2 (α1 := Int) (α2 := S_api_Lane) (fun again1 t35 x3 h4 =>
 (if (decide (t35 < r2)) = true then
 NilW none r fun p4 =>
 NilW none r fun p5 =>
 CallT P n_snap_source_small [(.pointer (some (Addr.add p4 0))), (.int .i64 (1 : Int))] (shInt .i64) (fun r3 h5 =>
 ((True ∧ True) ∧ CallT P n_snap_source_get [(.pointer (some (Addr.add p5 0))), (.int .i64 (8 : Int))] (shInt .i64) (fun r4 h6 =>
 ((True ∧ True) ∧ NewW [(.int .i64 r3), (.int .i64 r4)] (fun a h7 =>
 ((True ∧ True) ∧ AppendW 2 16 [(.int .i64 (0 : Int)), (.int .i64 (0 : Int))] ⟨x3.Waiters.base, x3.Waiters.len, x3.Waiters.cap⟩ ⟨(some a), 1, 1⟩ (fun r5 h8 =>
 again1 (IntKind.wrap .i64 (t35 + (1 : Int))) ⟨x3.Values, r5, x3.Taken, x3.Dropped⟩ h8) h7)) h6)) h5)) h4
 else
 NilW none r fun p4 =>
 NilW none r fun p5 =>
 CallT P n_snap_source_small [(.pointer (some (Addr.add p4 0))), (.int .i64 (2 : Int))] (shInt .i64) (fun r3 h5 =>
 CallT P n_snap_source_small [(.pointer (some (Addr.add p5 0))), (.int .i64 (2 : Int))] (shInt .i64) (fun r4 h6 =>
 Q ⟨x3.Values, x3.Waiters, r3, r4⟩ h6) h5) h4)) (0 : Int) x1 h3) h2)) (0 : Int) ⟨⟨none, 0, 0⟩, ⟨none, 0, 0⟩, (0 : Int), (0 : Int)⟩ h1) h

def slices_IndexFunc_int_int_w (P : Program) (s : Sl) (f : FnV) (Q : (Int → (Hp → Prop))) (h : Hp) : Prop :=
 LoopW1 (α1 := Int) (fun again t8 h1 =>
 (if (decide (t8 < ((s.len : Nat) : Int))) = true then
 ((InB s.base s.len t8) ∧ LdW none (shInt .i64) h1 (sat s.base 1 t8) fun x =>
 CallV P tb (.func (.func f.g) f.first f.captured) [(.int .i64 x)] shBool (fun r h2 =>
 (if r = true then
 Q t8 h2
 else
 again (IntKind.wrap .i64 (t8 + (1 : Int))) h2)) h1)
 else
 Q (-1 : Int) h1)) (0 : Int) h

def slots_New_1_w (P : Program) (p : Int) (a1 : Addr) (Q : (Bool → (Hp → Prop))) (h : Hp) : Prop :=
 LdW (some (!(decide (p < (0 : Int))))) (shInt .i64) h a1 fun x =>
 LetW ((decide (p < (0 : Int))) || (decide (p ≥ x))) fun y =>
 Q y h

def slices_Clone_int_int_w (P : Program) (s : Sl) (Q : (Sl → (Hp → Prop))) (h : Hp) : Prop :=
 SemV none P (binS .eql 24 (.tmp 3) (.const (.slice none 0 0)) s.v (.slice none 0 0)) shBool h fun x =>
 (if x = true then
 Q ⟨none, 0, 0⟩ h
 else
 NewW [] (fun a h1 =>
 AppendW 1 8 [(.int .i64 (0 : Int))] ⟨(some a), 0, 0⟩ s (fun r h2 =>
 Q r h2) h1) h)

def code_Check_w (P : Program) (x : S_api_Ins) (n : Int) (locks : Int) (Q : (Int → (Hp → Prop))) (h : Hp) : Prop :=
 Call2 P n_code_wrong [x.v, (.int .i64 n), (.int .i64 locks)] (shInt .i64) (shInt .i64) (fun r r1 h1 =>
 Q r h1) h

def table_Table_is_w (P : Program) (t : Option Addr) (i : Int) (Q : (Bool → (Hp → Prop))) (h : Hp) : Prop :=
 NilW (some (decide (i ≥ (0 : Int)))) t fun p =>
 LdW (some (decide (i ≥ (0 : Int)))) shSl h (Addr.add p 0) fun x =>
 LetW ((decide (i ≥ (0 : Int))) && (decide (i < ((x.len : Nat) : Int)))) fun y =>
 Q y h

def label_Flows_w (P : Program) (a : Int) (b : Int) (Q : (Bool → (Hp → Prop))) (h : Hp) : Prop :=
 Q ((bitsI .andNot .u64 a b) == (0 : Int)) h

def conf_reader_give_w (P : Program) (r : Option Addr) (e : Int) (place : Int) (Q : (Hp → Prop)) (h : Hp) : Prop :=
 EffC (some (e != (0 : Int))) (CallT P n_conf_reader_bad [(.pointer r)] shBool) (fun r1 h1 =>
 LetW ((e != (0 : Int)) && (!r1)) fun y =>
 (if y = true then
 NilW none r fun p =>
 StW h1 (Addr.add p 2) [(.int .i64 e)] (fun h2 =>
 NilW none r fun p1 =>
 StW h2 (Addr.add p1 3) [(.int .i64 place)] (fun h3 =>
 Q h3))
 else
 Q h1)) h

def conf_reader_marked_w (P : Program) (r : Option Addr) (Q : (Hp → Prop)) (h : Hp) : Prop :=
 LoopW1 (α1 := Int) (fun again t3 h1 =>
 (if (decide (t3 < (5 : Int))) = true then
 NewW [(.int .i64 (0 : Int))] (fun a h2 =>
 StW h2 a [(.int .i64 t3)] (fun h3 =>
 CallT P n_conf_reader_number [(.pointer r), (.int .i64 (1 : Int)), (.func (.func 75) #[] #[(.pointer (some a))])] (shInt .u64) (fun r1 h4 =>
 again (IntKind.wrap .i64 (t3 + (1 : Int))) h4) h3)) h1
 else
 Q h1)) (0 : Int) h

def conf_reader_bad_w (P : Program) (r : Option Addr) (Q : (Bool → (Hp → Prop))) (h : Hp) : Prop :=
 NilW none r fun p =>
 LdW none (shInt .i64) h (Addr.add p 2) fun x =>
 Q (x != (0 : Int)) h

def conf_reader_labels_w (P : Program) (r : Option Addr) (c : Option Addr) (Q : (Hp → Prop)) (h : Hp) : Prop :=
 NewW [(.pointer c)] (fun a h1 =>
 CallT P n_conf_reader_counted [(.pointer r), (.int .i64 (8 : Int))] (shInt .i64) (fun r1 h2 =>
 LoopW1 (α1 := Int) (fun again n h3 =>
 EffC (some (decide (n > (0 : Int)))) (CallT P n_conf_reader_bad [(.pointer r)] shBool) (fun r2 h4 =>
 LetW ((decide (n > (0 : Int))) && (!r2)) fun y =>
 (if y = true then
 CallT P n_conf_reader_number [(.pointer r), (.int .i64 (8 : Int)), (.func (.func 76) #[] #[(.pointer (some a))])] (shInt .u64) (fun r3 h5 =>
 LdW none shPtr h5 a fun x =>
 LdW none shPtr h5 a fun x1 =>
 NilW none x1 fun p =>
 LdW none shSl h5 (Addr.add p 0) fun x2 =>
 NewW [(.int .u64 r3)] (fun a1 h6 =>
 (((LdIs h6 a [(.pointer x)]) ∧ ((LdIs h6 a [(.pointer x1)]) ∧ ((LdIs h6 (Addr.add p 0) [x2.v]) ∧ True))) ∧ AppendW 1 8 [(.int .u64 (0 : Int))] x2 ⟨(some a1), 1, 1⟩ (fun r4 h7 =>
 (((LdIs h7 a [(.pointer x)]) ∧ True) ∧ NilW none x fun p1 =>
 StW h7 (Addr.add p1 0) [r4.v] (fun h8 =>
 again (IntKind.wrap .i64 (n - (1 : Int))) h8))) h6)) h5) h4
 else
 Q h4)) h3) r1 h2) h1) h

def conf_reader_table_w (P : Program) (r : Option Addr) (c : Option Addr) (Q : (Hp → Prop)) (h : Hp) : Prop :=
 CallT P n_conf_reader_counted [(.pointer r), (.int .i64 (64 : Int))] (shInt .i64) (fun r1 h1 =>
 LoopW1 (α1 := Int) (fun again n h2 =>
 EffC (some (decide (n > (0 : Int)))) (CallT P n_conf_reader_bad [(.pointer r)] shBool) (fun r2 h3 =>
 LetW ((decide (n > (0 : Int))) && (!r2)) fun y =>
 (if y = true then
 NilW none c fun p =>
 LdW none shSl h3 (Addr.add p 1) fun x =>
 CallT P n_conf_reader_partition [(.pointer r), (.pointer c)] (shInt .i64) (fun r3 h4 =>
 (((LdIs h4 (Addr.add p 1) [x.v]) ∧ True) ∧ NewW [(.int .i64 r3)] (fun a h5 =>
 (((LdIs h5 (Addr.add p 1) [x.v]) ∧ True) ∧ AppendW 1 8 [(.int .i64 (0 : Int))] x ⟨(some a), 1, 1⟩ (fun r4 h6 =>
 NilW none c fun p1 =>
 StW h6 (Addr.add p1 1) [r4.v] (fun h7 =>
 again (IntKind.wrap .i64 (n - (1 : Int))) h7)) h5)) h4)) h3
 else
 Q h3)) h2) r1 h1) h

def conf_reader_ranged_w (P : Program) (r : Option Addr) (part : Int) (bytes : Int) (Q : (Int → (Hp → Prop))) (h : Hp) : Prop :=
 NewW [(.int .i64 part)] (fun a h1 =>
 CallT P n_conf_reader_int [(.pointer r), (.int .i64 bytes), (.func (.func 79) #[] #[(.pointer (some a))])] (shInt .i64) (fun r1 h2 =>
 Q r1 h2) h1) h

def conf_reader_counted_w (P : Program) (r : Option Addr) (most : Int) (Q : (Int → (Hp → Prop))) (h : Hp) : Prop :=
 NewW [(.int .i64 most)] (fun a h1 =>
 CallT P n_conf_reader_int [(.pointer r), (.int .i64 (1 : Int)), (.func (.func 80) #[] #[(.pointer (some a))])] (shInt .i64) (fun r1 h2 =>
 Q r1 h2) h1) h

def conf_reader_proc_w (P : Program) (r : Option Addr) (c : Option Addr) (Q : (Hp → Prop)) (h : Hp) : Prop :=
 CallT P n_conf_reader_partition [(.pointer r), (.pointer c)] (shInt .i64) (fun r1 h1 =>
 CallT P n_conf_reader_int [(.pointer r), (.int .i64 (2 : Int)), (.func (.func 81) #[] #[])] (shInt .i64) (fun r2 h2 =>
 LoopW2 (α1 := Int) (α2 := S_api_Proc) (fun again i p h3 =>
 EffC (some (decide (i < r2))) (CallT P n_conf_reader_bad [(.pointer r)] shBool) (fun r3 h4 =>
 LetW ((decide (i < r2)) && (!r3)) fun y =>
 (if y = true then
 NilW none c fun p1 =>
 LdW none (shInt .i64) h4 (Addr.add p1 4) fun x =>
 CallT P n_conf_reader_ins [(.pointer r), (.int .i64 r2), (.int .i64 x)] sh_api_Ins (fun r4 h5 =>
 ((True ∧ True) ∧ NewW [(.int .i64 r4.Op), (.int .i64 r4.A), (.int .i64 r4.B), (.int .i64 r4.C), (.int .i64 r4.Imm)] (fun a h6 =>
 ((True ∧ True) ∧ AppendW 5 40 [(.int .i64 (0 : Int)), (.int .i64 (0 : Int)), (.int .i64 (0 : Int)), (.int .i64 (0 : Int)), (.int .i64 (0 : Int))] ⟨p.Code.base, p.Code.len, p.Code.cap⟩ ⟨(some a), 1, 1⟩ (fun r5 h7 =>
 again (IntKind.wrap .i64 (i + (1 : Int))) ⟨p.Part, r5⟩ h7) h6)) h5)) h4
 else
 NilW none c fun p1 =>
 LdW none shSl h4 (Addr.add p1 6) fun x =>
 NewW [(.int .i64 p.Part), p.Code.v] (fun a h5 =>
 (((LdIs h5 (Addr.add p1 6) [x.v]) ∧ True) ∧ AppendW 2 32 [(.int .i64 (0 : Int)), (.slice none 0 0)] x ⟨(some a), 1, 1⟩ (fun r4 h6 =>
 NilW none c fun p2 =>
 StW h6 (Addr.add p2 6) [r4.v] (fun h7 =>
 Q h7)) h5)) h4)) h3) (0 : Int) ⟨r1, ⟨none, 0, 0⟩⟩ h2) h1) h

def code_wrong_w (P : Program) (x : S_api_Ins) (n : Int) (locks : Int) (Q : (Int → (Int → (Hp → Prop)))) (h : Hp) : Prop :=
 LetW ((decide (x.Op < (0 : Int))) || (decide (x.Op ≥ (34 : Int)))) fun y =>
 (if y = true then
 Q (9 : Int) (0 : Int) h
 else
 Call4 P n_code_Fields [(.int .i64 x.Op)] shBool shBool shBool shBool (fun r r1 r2 r3 h1 =>
 CallT P n_code_register [(.bool r), (.int .i64 x.A)] (shInt .i64) (fun r4 h2 =>
 (if (r4 != (0 : Int)) = true then
 Q r4 (1 : Int) h2
 else
 CallT P n_code_register [(.bool r1), (.int .i64 x.B)] (shInt .i64) (fun r5 h3 =>
 (if (r5 != (0 : Int)) = true then
 Q r5 (2 : Int) h3
 else
 CallT P n_code_register [(.bool r2), (.int .i64 x.C)] (shInt .i64) (fun r6 h4 =>
 (if (r6 != (0 : Int)) = true then
 Q r6 (3 : Int) h4
 else
 CallT P n_code_number [x.v, (.bool r3), (.int .i64 n), (.int .i64 locks)] (shInt .i64) (fun r7 h5 =>
 Q r7 (4 : Int) h5) h4)) h3)) h2)) h1) h)

def conf_reader_number_w (P : Program) (r : Option Addr) (many : Int) (wrong : FnV) (Q : (Int → (Hp → Prop))) (h : Hp) : Prop :=
 CallT P n_conf_reader_bad [(.pointer r)] shBool (fun r1 h1 =>
 (if r1 = true then
 Q (0 : Int) h1
 else
 NilW none r fun p =>
 LdW none shSl h1 (Addr.add p 0) fun x =>
 NilW none r fun p1 =>
 LdW none (shInt .i64) h1 (Addr.add p1 1) fun x1 =>
 (if (decide ((IntKind.wrap .i64 (((x.len : Nat) : Int) - x1)) < many)) = true then
 NilW none r fun p2 =>
 LdW none shSl h1 (Addr.add p2 0) fun x2 =>
 Call0 P n_conf_reader_give [(.pointer r), (.int .i64 (5 : Int)), (.int .i64 ((x2.len : Nat) : Int))] (fun h2 =>
 Q (0 : Int) h2) h1
 else
 NilW none r fun p2 =>
 LdW none shSl h1 (Addr.add p2 0) fun x2 =>
 NilW none r fun p3 =>
 LdW none (shInt .i64) h1 (Addr.add p3 1) fun x3 =>
 NilW none r fun p4 =>
 LdW none (shInt .i64) h1 (Addr.add p4 1) fun x4 =>
 (((0 : Int) ≤ x3 ∧ (x3 ≤ (IntKind.wrap .i64 (x4 + many)) ∧ (IntKind.wrap .i64 (x4 + many)) ≤ ((x2.cap : Nat) : Int))) ∧ LetW (α := Sl) ⟨(sbase x2.base 1 (Int.toNat x3) x2.cap), ((Int.toNat (IntKind.wrap .i64 (x4 + many))) - (Int.toNat x3)), (x2.cap - (Int.toNat x3))⟩ fun y =>
 LoopW2 (α1 := Int) (α2 := Int) (fun again n t47 h2 =>
 (if (decide (t47 < ((y.len : Nat) : Int))) = true then
 ((InB y.base y.len t47) ∧ LdW none (shInt .u8) h2 (sat y.base 1 t47) fun x5 =>
 ((0 : Int) ≤ (IntKind.wrap .i64 ((8 : Int) * t47)) ∧ again (bitsI .or .u64 n (shlI .u64 (IntKind.wrap .u64 x5) (IntKind.wrap .i64 ((8 : Int) * t47)))) (IntKind.wrap .i64 (t47 + (1 : Int))) h2))
 else
 NilW none r fun p5 =>
 LdW none (shInt .i64) h2 (Addr.add p5 1) fun x5 =>
 CallV P tb (.func (.func wrong.g) wrong.first wrong.captured) [(.int .u64 n)] (shInt .i64) (fun r2 h3 =>
 (((LdIs h3 (Addr.add p5 1) [(.int .i64 x5)]) ∧ True) ∧ Call0 P n_conf_reader_give [(.pointer r), (.int .i64 r2), (.int .i64 x5)] (fun h4 =>
 NilW none r fun p6 =>
 LdW none (shInt .i64) h4 (Addr.add p6 1) fun x6 =>
 NilW none r fun p7 =>
 StW h4 (Addr.add p7 1) [(.int .i64 (IntKind.wrap .i64 (x6 + many)))] (fun h5 =>
 Q n h5)) h3)) h2)) (0 : Int) (0 : Int) h1)))) h

def conf_reader_marked_1_w (P : Program) (n : Int) (a1 : Addr) (Q : (Int → (Hp → Prop))) (h : Hp) : Prop :=
 LdW none (shInt .i64) h a1 fun x =>
 (((0 : Int) ≤ x ∧ x < (5 : Int)) ∧ (if ((IntKind.wrap .u8 n) != (((UInt8.toNat (List.getD [70, 66, 67, 70, 1] (Int.toNat x) 0)) : Nat) : Int)) = true then
 Q (4 : Int) h
 else
 Q (0 : Int) h))

def conf_reader_labels_1_w (P : Program) (a : Int) (a1 : Addr) (Q : (Int → (Hp → Prop))) (h : Hp) : Prop :=
 LdW none shPtr h a1 fun x =>
 NilW none x fun p =>
 LdW none shSl h (Addr.add p 0) fun x1 =>
 LdW (some (decide ((IntKind.wrap .i64 (((x1.len : Nat) : Int) - (1 : Int))) ≥ (0 : Int)))) shPtr h a1 fun x2 =>
 NilW (some (decide ((IntKind.wrap .i64 (((x1.len : Nat) : Int) - (1 : Int))) ≥ (0 : Int)))) x2 fun p1 =>
 LdW (some (decide ((IntKind.wrap .i64 (((x1.len : Nat) : Int) - (1 : Int))) ≥ (0 : Int)))) shSl h (Addr.add p1 0) fun x3 =>
 (((decide ((IntKind.wrap .i64 (((x1.len : Nat) : Int) - (1 : Int))) ≥ (0 : Int))) = true → (InB x3.base x3.len (IntKind.wrap .i64 (((x1.len : Nat) : Int) - (1 : Int))))) ∧ LdW (some (decide ((IntKind.wrap .i64 (((x1.len : Nat) : Int) - (1 : Int))) ≥ (0 : Int)))) (shInt .u64) h (sat x3.base 1 (IntKind.wrap .i64 (((x1.len : Nat) : Int) - (1 : Int)))) fun x4 =>
 LetW ((decide ((IntKind.wrap .i64 (((x1.len : Nat) : Int) - (1 : Int))) ≥ (0 : Int))) && (a == x4)) fun y =>
 (if y = true then
 Q (8 : Int) h
 else
 LdW (some (decide ((IntKind.wrap .i64 (((x1.len : Nat) : Int) - (1 : Int))) ≥ (0 : Int)))) shPtr h a1 fun x5 =>
 NilW (some (decide ((IntKind.wrap .i64 (((x1.len : Nat) : Int) - (1 : Int))) ≥ (0 : Int)))) x5 fun p2 =>
 LdW (some (decide ((IntKind.wrap .i64 (((x1.len : Nat) : Int) - (1 : Int))) ≥ (0 : Int)))) shSl h (Addr.add p2 0) fun x6 =>
 (((decide ((IntKind.wrap .i64 (((x1.len : Nat) : Int) - (1 : Int))) ≥ (0 : Int))) = true → (InB x6.base x6.len (IntKind.wrap .i64 (((x1.len : Nat) : Int) - (1 : Int))))) ∧ LdW (some (decide ((IntKind.wrap .i64 (((x1.len : Nat) : Int) - (1 : Int))) ≥ (0 : Int)))) (shInt .u64) h (sat x6.base 1 (IntKind.wrap .i64 (((x1.len : Nat) : Int) - (1 : Int)))) fun x7 =>
 LetW ((decide ((IntKind.wrap .i64 (((x1.len : Nat) : Int) - (1 : Int))) ≥ (0 : Int))) && (decide (a < x7))) fun y1 =>
 (if y1 = true then
 Q (7 : Int) h
 else
 Q (0 : Int) h))))

def conf_reader_partition_w (P : Program) (r : Option Addr) (c : Option Addr) (Q : (Int → (Hp → Prop))) (h : Hp) : Prop :=
 NewW [(.pointer c)] (fun a h1 =>
 CallT P n_conf_reader_int [(.pointer r), (.int .i64 (1 : Int)), (.func (.func 86) #[] #[(.pointer (some a))])] (shInt .i64) (fun r1 h2 =>
 Q r1 h2) h1) h

def conf_reader_int_w (P : Program) (r : Option Addr) (many : Int) (wrong : FnV) (Q : (Int → (Hp → Prop))) (h : Hp) : Prop :=
 NewW [(.func (.func wrong.g) wrong.first wrong.captured)] (fun a h1 =>
 CallT P n_conf_reader_number [(.pointer r), (.int .i64 many), (.func (.func 87) #[] #[(.pointer (some a))])] (shInt .u64) (fun r1 h2 =>
 Q (IntKind.wrap .i64 r1) h2) h1) h

def conf_reader_ranged_1_w (P : Program) (n : Int) (a1 : Addr) (Q : (Int → (Hp → Prop))) (h : Hp) : Prop :=
 LdW none (shInt .i64) h a1 fun x =>
 CallT P n_conf_ranged [(.int .i64 x), (.int .i64 n)] (shInt .i64) (fun r h1 =>
 Q r h1) h

def conf_reader_counted_1_w (P : Program) (n : Int) (a1 : Addr) (Q : (Int → (Hp → Prop))) (h : Hp) : Prop :=
 LdW none (shInt .i64) h a1 fun x =>
 CallT P n_conf_many [(.int .i64 n), (.int .i64 x)] (shInt .i64) (fun r h1 =>
 Q r h1) h

def conf_reader_proc_1_w (P : Program) (n : Int) (Q : (Int → (Hp → Prop))) (h : Hp) : Prop :=
 (if (decide (n > (256 : Int))) = true then
 Q (3 : Int) h
 else
 Q (0 : Int) h)

def conf_reader_ins_w (P : Program) (r : Option Addr) (n : Int) (locks : Int) (Q : (S_api_Ins → (Hp → Prop))) (h : Hp) : Prop :=
 CallT P n_conf_reader_bad [(.pointer r)] shBool (fun r1 h1 =>
 (if r1 = true then
 Q ⟨(0 : Int), (0 : Int), (0 : Int), (0 : Int), (0 : Int)⟩ h1
 else
 NilW none r fun p =>
 LdW none (shInt .i64) h1 (Addr.add p 1) fun x =>
 NilW none r fun p1 =>
 LdW none shSl h1 (Addr.add p1 0) fun x1 =>
 (if (decide ((IntKind.wrap .i64 (((x1.len : Nat) : Int) - x)) < (12 : Int))) = true then
 NilW none r fun p2 =>
 LdW none shSl h1 (Addr.add p2 0) fun x2 =>
 Call0 P n_conf_reader_give [(.pointer r), (.int .i64 (5 : Int)), (.int .i64 ((x2.len : Nat) : Int))] (fun h2 =>
 Q ⟨(0 : Int), (0 : Int), (0 : Int), (0 : Int), (0 : Int)⟩ h2) h1
 else
 CallT P n_conf_reader_number [(.pointer r), (.int .i64 (1 : Int)), (.func (.func 88) #[] #[])] (shInt .u64) (fun r2 h2 =>
 CallT P n_conf_reader_number [(.pointer r), (.int .i64 (1 : Int)), (.func (.func 88) #[] #[])] (shInt .u64) (fun r3 h3 =>
 CallT P n_conf_reader_number [(.pointer r), (.int .i64 (1 : Int)), (.func (.func 88) #[] #[])] (shInt .u64) (fun r4 h4 =>
 CallT P n_conf_reader_number [(.pointer r), (.int .i64 (1 : Int)), (.func (.func 88) #[] #[])] (shInt .u64) (fun r5 h5 =>
 CallT P n_conf_reader_number [(.pointer r), (.int .i64 (8 : Int)), (.func (.func 88) #[] #[])] (shInt .u64) (fun r6 h6 =>
 CallT P n_code_Check [(.agg #[(.int .i64 (IntKind.wrap .i64 r2)), (.int .i64 (IntKind.wrap .i64 r3)), (.int .i64 (IntKind.wrap .i64 r4)), (.int .i64 (IntKind.wrap .i64 r5)), (.int .i64 (IntKind.wrap .i64 r6))]), (.int .i64 n), (.int .i64 locks)] (shInt .i64) (fun r7 h7 =>
 (if (r7 != (0 : Int)) = true then
 CallT P n_conf_spoilt [(.agg #[(.int .i64 (IntKind.wrap .i64 r2)), (.int .i64 (IntKind.wrap .i64 r3)), (.int .i64 (IntKind.wrap .i64 r4)), (.int .i64 (IntKind.wrap .i64 r5)), (.int .i64 (IntKind.wrap .i64 r6))]), (.int .i64 r7)] (shInt .i64) (fun r8 h8 =>
 Call0 P n_conf_reader_give [(.pointer r), (.int .i64 r7), (.int .i64 (IntKind.wrap .i64 (x + r8)))] (fun h9 =>
 Q ⟨(IntKind.wrap .i64 r2), (IntKind.wrap .i64 r3), (IntKind.wrap .i64 r4), (IntKind.wrap .i64 r5), (IntKind.wrap .i64 r6)⟩ h9) h8) h7
 else
 Q ⟨(IntKind.wrap .i64 r2), (IntKind.wrap .i64 r3), (IntKind.wrap .i64 r4), (IntKind.wrap .i64 r5), (IntKind.wrap .i64 r6)⟩ h7)) h6) h5) h4) h3) h2) h1))) h

def code_Fields_w (P : Program) (op : Int) (Q : (Bool → (Bool → (Bool → (Bool → (Hp → Prop)))))) (h : Hp) : Prop :=
 CallT P n_code_fields [(.int .i64 op)] shStr (fun r h1 =>
 NewW [(.string ⟨#[]⟩)] (fun a h2 =>
 StW h2 a [(.string r)] (fun h3 =>
 CallV P tb (.func (.func 91) #[] #[(.pointer (some a))]) [(.string ⟨#[97]⟩)] shBool (fun r1 h4 =>
 CallV P tb (.func (.func 91) #[] #[(.pointer (some a))]) [(.string ⟨#[98]⟩)] shBool (fun r2 h5 =>
 CallV P tb (.func (.func 91) #[] #[(.pointer (some a))]) [(.string ⟨#[99]⟩)] shBool (fun r3 h6 =>
 CallV P tb (.func (.func 91) #[] #[(.pointer (some a))]) [(.string ⟨#[105]⟩)] shBool (fun r4 h7 =>
 Q r1 r2 r3 r4 h7) h6) h5) h4) h3)) h1) h

def code_register_w (P : Program) (has : Bool) (n : Int) (Q : (Int → (Hp → Prop))) (h : Hp) : Prop :=
 LetW ((!has) && (n != (0 : Int))) fun y =>
 (if y = true then
 Q (11 : Int) h
 else
 LetW ((decide (n < (0 : Int))) || (decide (n ≥ (8 : Int)))) fun y1 =>
 (if y1 = true then
 Q (10 : Int) h
 else
 Q (0 : Int) h))

def code_number_w (P : Program) (x : S_api_Ins) (has : Bool) (n : Int) (locks : Int) (Q : (Int → (Hp → Prop))) (h : Hp) : Prop :=
 LetW ((!has) && (x.Imm != (0 : Int))) fun y =>
 (if y = true then
 Q (11 : Int) h
 else
 LetW ((x.Op == (22 : Int)) || (x.Op == (23 : Int))) fun y1 =>
 (if y1 = true then
 LetW ((decide (x.Imm < (0 : Int))) || (decide (x.Imm > n))) fun y2 =>
 (if y2 = true then
 Q (12 : Int) h
 else
 Q (0 : Int) h)
 else
 LetW ((x.Op == (29 : Int)) || (x.Op == (30 : Int))) fun y2 =>
 (if y2 = true then
 LetW ((decide (x.Imm < (0 : Int))) || (decide (x.Imm ≥ locks))) fun y3 =>
 (if y3 = true then
 Q (13 : Int) h
 else
 Q (0 : Int) h)
 else
 Q (0 : Int) h)))

def conf_reader_partition_1_w (P : Program) (n : Int) (a1 : Addr) (Q : (Int → (Hp → Prop))) (h : Hp) : Prop :=
 LdW none shPtr h a1 fun x =>
 NilW none x fun p =>
 LdW none shSl h (Addr.add p 0) fun x1 =>
 (if (decide (n ≥ ((x1.len : Nat) : Int))) = true then
 Q (2 : Int) h
 else
 Q (0 : Int) h)

def conf_reader_int_1_w (P : Program) (n : Int) (a1 : Addr) (Q : (Int → (Hp → Prop))) (h : Hp) : Prop :=
 LdW none shFn h a1 fun x =>
 CallV P tb (.func (.func x.g) x.first x.captured) [(.int .i64 (IntKind.wrap .i64 n))] (shInt .i64) (fun r h1 =>
 Q r h1) h

def conf_reader_ins_1_w (P : Program) (a0 : Int) (Q : (Int → (Hp → Prop))) (h : Hp) : Prop :=
 Q (0 : Int) h

def conf_spoilt_w (P : Program) (x : S_api_Ins) (e : Int) (Q : (Int → (Hp → Prop))) (h : Hp) : Prop :=
 (if (e == (9 : Int)) = true then
 Q (0 : Int) h
 else
 Call4 P n_code_Fields [(.int .i64 x.Op)] shBool shBool shBool shBool (fun r r1 r2 r3 h1 =>
 NewW [(.bool r), (.int .i64 x.A), (.bool r1), (.int .i64 x.B), (.bool r2), (.int .i64 x.C)] (fun a h2 =>
 LoopW1 (α1 := Int) (fun again t35 h3 =>
 (if (decide (t35 < (3 : Int))) = true then
 ((InB (some a) 3 t35) ∧ LdW none sh_struct_has_bool_n_int h3 (sat (some a) 2 t35) fun x1 =>
 LetW (x1.has && (decide (x1.n ≥ (8 : Int)))) fun y =>
 LetW ((!x1.has) && (x1.n != (0 : Int))) fun y1 =>
 LetW (y || y1) fun y2 =>
 (if y2 = true then
 Q (IntKind.wrap .i64 ((1 : Int) + t35)) h3
 else
 again (IntKind.wrap .i64 (t35 + (1 : Int))) h3))
 else
 Q (4 : Int) h3)) (0 : Int) h2) h1) h)

def code_fields_w (P : Program) (op : Int) (Q : (ByteArray → (Hp → Prop))) (h : Hp) : Prop :=
 LetW ((decide (op < (0 : Int))) || (decide (op ≥ (34 : Int)))) fun y =>
 (if y = true then
 Q ⟨#[]⟩ h
 else
 (((0 : Int) ≤ op ∧ op < (34 : Int)) ∧ ∃ x : ByteArray, ((List.get?Internal (α := Value) [(.string ⟨#[]⟩), (.string ⟨#[97, 105]⟩), (.string ⟨#[97, 98]⟩), (.string ⟨#[97, 98, 99]⟩), (.string ⟨#[97, 98, 99]⟩), (.string ⟨#[97, 98, 99]⟩), (.string ⟨#[97, 98, 99]⟩), (.string ⟨#[97, 98, 99]⟩), (.string ⟨#[97, 98, 99]⟩), (.string ⟨#[97, 98, 99]⟩), (.string ⟨#[97, 98, 99]⟩), (.string ⟨#[97, 98, 99]⟩), (.string ⟨#[97, 98, 99]⟩), (.string ⟨#[97, 98, 99]⟩), (.string ⟨#[97, 98, 99]⟩), (.string ⟨#[97, 98, 99]⟩), (.string ⟨#[97, 98, 99]⟩), (.string ⟨#[97, 98, 99]⟩), (.string ⟨#[97, 98, 99]⟩), (.string ⟨#[97, 98, 99]⟩), (.string ⟨#[97, 98]⟩), (.string ⟨#[97, 98]⟩), (.string ⟨#[105]⟩), (.string ⟨#[97, 105]⟩), (.string ⟨#[97, 98, 99]⟩), (.string ⟨#[97, 98]⟩), (.string ⟨#[97, 98]⟩), (.string ⟨#[97]⟩), (.string ⟨#[97]⟩), (.string ⟨#[105]⟩), (.string ⟨#[105]⟩), (.string ⟨#[97]⟩), (.string ⟨#[97]⟩), (.string ⟨#[97]⟩)] ((Int.toNat op) * 1)) = (some (.string x)) ∧ Q x h)))

def code_Fields_1_w (P : Program) (field : ByteArray) (a1 : Addr) (Q : (Bool → (Hp → Prop))) (h : Hp) : Prop :=
 LdW none shStr h a1 fun x =>
 CallT P n_strings_Contains [(.string x), (.string field)] shBool (fun r h1 =>
 Q r h1) h

end Lf

/-
  By program: how the functions are cut.
-/
set_option maxRecDepth 100000
namespace Lf
open Go

def gosem_cut_init_p : List Nat := []
def gosem_cut_init_a : Ann := .tt
def firebreaklaw22_SnapNames_p : List Nat := []
def firebreaklaw22_SnapNames_a : Ann := .tt
def firebreaklaw22_awake_p : List Nat := [1, 2, 5, 6, 9, 10]
def firebreaklaw22_awake_a : Ann := .tt
def firebreaklaw22_plain_p : List Nat := [0, 1, 2]
def firebreaklaw22_plain_a : Ann := .tt
def snap_Encode_p : List Nat := [2, 3, 11, 13]
def snap_Encode_a : Ann := (.sq .tt (.sq .tt (.sq .tt (.sq .tt (.sq .tt (.sq .tt (.sq .tt (.sq (.rg [(0, []), (1, []), (2, []), (3, []), (4, []), (5, [])]) (.sq (.sq .tt (.bk (.lp [⟨false, 59, 3⟩] [11] .tt))) (.sq (.sq .tt (.bk (.lp [⟨false, 70, 3⟩] [13] .tt))) .tt))))))))))
def snap_Decode_p : List Nat := [2, 3, 7]
def snap_Decode_a : Ann := (.sq .tt (.sq .tt (.sq .tt (.sq .tt (.jn [] [] (.sq .tt (.sq (.rg [(0, []), (1, []), (2, []), (3, []), (4, []), (5, []), (6, []), (7, []), (8, []), (9, [])]) .tt)) (.sq (.sq .tt (.sq (.sq (.rg [(0, []), (1, []), (2, []), (3, []), (4, []), (5, []), (6, []), (7, []), (8, []), (9, []), (10, []), (11, []), (12, [6, 11]), (13, [6, 11]), (14, []), (15, [])]) .tt) .tt)) (.sq (.rg [(0, []), (1, []), (2, []), (3, []), (4, []), (5, [4]), (6, []), (7, []), (8, [])]) .tt)))))))
def firebreakref14_Same_p : List Nat := [2, 3]
def firebreakref14_Same_a : Ann := (.sq .tt (.sq .tt (.sq (.sq .tt (.bk (.lp [⟨false, 5, 4⟩, ⟨false, 6, 3⟩] [] (.sq .tt (.sq (.bk (.rg [(0, []), (1, []), (2, []), (3, []), (4, []), (5, []), (6, []), (7, []), (8, []), (9, []), (10, []), (11, []), (12, []), (13, [])])) .tt))))) .tt)))
def firebreakref18_Same_p : List Nat := [2, 3]
def firebreakref18_Same_a : Ann := (.sq .tt (.sq .tt (.sq (.sq .tt (.bk (.lp [⟨false, 5, 3⟩] [] (.sq .tt (.sq (.bk (.sq (.rg [(0, []), (1, []), (2, []), (3, []), (4, []), (5, []), (6, []), (7, []), (8, []), (9, []), (10, []), (11, [])]) .tt)) .tt))))) (.sq (.sq .tt (.bk (.lp [⟨false, 7, 3⟩] [] (.sq .tt (.sq (.bk (.sq (.rg [(0, []), (1, []), (2, []), (3, []), (4, []), (5, []), (6, []), (7, []), (8, []), (9, []), (10, []), (11, [])]) .tt)) .tt))))) .tt))))
def machine_May_p : List Nat := [2, 3, 10]
def machine_May_a : Ann := (.sq .tt (.sq .tt (.sq .tt (.sq .tt (.sq .tt (.sq (.sq .tt (.bk (.lp [⟨false, 61, 3⟩] [] .tt))) (.sq (.sq .tt (.bk (.lp [⟨false, 72, 3⟩] [] .tt))) .tt)))))))
def conf_Encode_p : List Nat := [1, 12]
def conf_Encode_a : Ann := (.sq .tt (.sq .tt (.sq .tt (.sq (.sq .tt (.bk (.lp [⟨false, 6, 34⟩, ⟨false, 35, 3⟩] [] .tt))) (.sq .tt (.sq (.sq .tt (.bk (.lp [⟨false, 6, 34⟩, ⟨false, 53, 3⟩] [] .tt))) (.sq .tt (.sq .tt (.sq .tt (.sq .tt (.sq (.sq .tt (.bk (.lp [⟨false, 6, 34⟩, ⟨false, 92, 3⟩] [12] .tt))) .tt)))))))))))
def snap_numbers_count_p : List Nat := []
def snap_numbers_count_a : Ann := .tt
def snap_numbers_put_p : List Nat := []
def snap_numbers_put_a : Ann := (.sq .tt (.bk (.lp [⟨false, 8, 3⟩] [] (.sq .tt (.sq .tt (.sq (.bk (.sq .tt (.rg [(0, []), (1, []), (2, []), (3, []), (4, []), (5, []), (6, []), (7, []), (8, []), (9, []), (10, []), (11, [4]), (12, []), (13, []), (14, []), (15, [])]))) .tt))))))
def snap_writer_part_p : List Nat := [3, 5]
def snap_writer_part_a : Ann := (.sq .tt (.sq (.rg [(0, []), (1, []), (2, []), (3, []), (4, []), (5, [])]) (.sq (.rg [(0, []), (1, []), (2, []), (3, []), (4, []), (5, []), (6, [])]) (.sq (.sq .tt (.bk (.lp [⟨false, 26, 3⟩] [5] (.sq .tt (.sq .tt (.sq (.bk (.sq .tt (.sq (.rg [(0, []), (1, []), (2, []), (3, []), (4, []), (5, [])]) (.sq (.rg [(0, []), (1, []), (2, []), (3, []), (4, []), (5, [])]) (.rg [(0, []), (1, []), (2, []), (3, []), (4, []), (5, [])]))))) .tt)))))) (.sq (.rg [(0, []), (1, []), (2, []), (3, []), (4, []), (5, [])]) (.sq (.rg [(0, []), (1, []), (2, []), (3, []), (4, []), (5, [])]) (.sq .tt (.bk (.lp [⟨false, 64, 3⟩] [] (.sq .tt (.sq .tt (.sq (.bk (.sq .tt (.sq .tt (.sq (.rg [(0, []), (1, []), (2, []), (3, []), (4, []), (5, []), (6, []), (7, []), (8, []), (9, [])]) (.sq .tt (.bk (.lp [⟨false, 91, 3⟩] [] .tt))))))) .tt))))))))))))
def snap_writer_proc_p : List Nat := [3, 8]
def snap_writer_proc_a : Ann := (.sq .tt (.sq (.rg [(0, []), (1, []), (2, []), (3, []), (4, []), (5, [])]) (.sq (.rg [(0, []), (1, []), (2, []), (3, []), (4, []), (5, [])]) (.sq (.sq .tt (.bk (.lp [⟨false, 23, 3⟩] [] .tt))) (.sq (.rg [(0, []), (1, []), (2, []), (3, []), (4, []), (5, [])]) (.sq (.rg [(0, []), (1, []), (2, []), (3, []), (4, []), (5, [])]) (.sq .tt (.jn [⟨false, 6, 3⟩] [] .tt (.sq .tt (.sq (.rg [(0, []), (1, []), (2, []), (3, []), (4, []), (5, [])]) (.sq .tt (.bk (.lp [⟨false, 60, 3⟩] [8] .tt)))))))))))))
def snap_reader_state_p : List Nat := [2, 6]
def snap_reader_state_a : Ann := (.sq .tt (.sq (.sq .tt (.bk (.lp [⟨false, 7, 3⟩] [] (.sq .tt (.sq .tt (.sq (.bj [] [] .tt) .tt)))))) (.sq .tt (.sq .tt (.sq (.sq .tt (.bk (.lp [⟨false, 43, 3⟩, ⟨true, 6, 31⟩] [6] (.sq .tt (.sq .tt (.sq (.bk (.rg [(0, []), (1, []), (2, []), (3, [1]), (4, [1]), (5, []), (6, []), (7, [])])) .tt)))))) (.sq (.sq .tt (.bk (.lp [⟨false, 59, 3⟩, ⟨true, 6, 31⟩] [6] (.sq .tt (.sq .tt (.sq (.bk (.rg [(0, []), (1, []), (2, []), (3, [1]), (4, [1]), (5, []), (6, []), (7, [])])) .tt)))))) (.sq (.sq (.rg [(0, []), (1, []), (2, []), (3, []), (4, []), (5, []), (6, []), (7, []), (8, []), (9, []), (10, []), (11, [])]) (.sq (.rg [(0, []), (1, []), (2, []), (3, []), (4, []), (5, []), (6, []), (7, []), (8, [])]) .tt)) .tt)))))))
def snap_source_give_p : List Nat := []
def snap_source_give_a : Ann := .tt
def firebreakref14_Skeleton_p : List Nat := [2, 3]
def firebreakref14_Skeleton_a : Ann := (.sq .tt (.sq .tt (.sq (.sq .tt (.bk (.lp [⟨false, 5, 3⟩] [] (.sq .tt (.sq (.bk (.sq (.rg [(0, []), (1, []), (2, []), (3, []), (4, []), (5, []), (6, []), (7, []), (8, []), (9, []), (10, []), (11, []), (12, [])]) .tt)) .tt))))) .tt)))
def firebreakref06_Same_p : List Nat := []
def firebreakref06_Same_a : Ann := (.sq .tt (.sq .tt (.sq (.sq .tt (.bk (.lp [⟨false, 5, 3⟩] [] (.sq .tt (.sq (.bk (.sq (.rg [(0, []), (1, []), (2, []), (3, []), (4, []), (5, []), (6, []), (7, []), (8, [])]) .tt)) .tt))))) .tt)))
def firebreakref18_samePart_p : List Nat := [2, 3]
def firebreakref18_samePart_a : Ann := (.sq .tt (.sq .tt (.sq (.sq .tt (.bk (.lp [⟨false, 5, 3⟩] [] (.sq .tt (.sq (.bk (.sq (.rg [(0, []), (1, []), (2, []), (3, []), (4, []), (5, []), (6, []), (7, []), (8, []), (9, []), (10, [])]) .tt)) .tt))))) (.sq (.sq .tt (.bk (.lp [⟨false, 6, 3⟩] [] (.sq .tt (.sq (.bk (.sq (.rg [(0, []), (1, []), (2, []), (3, []), (4, []), (5, []), (6, []), (7, []), (8, []), (9, []), (10, []), (11, [])]) .tt)) .tt))))) .tt))))
def firebreakref18_sameProcess_p : List Nat := [2, 3]
def firebreakref18_sameProcess_a : Ann := (.sq .tt (.sq .tt (.sq (.sq .tt (.bk (.lp [⟨false, 5, 3⟩] [] (.sq .tt (.sq (.bk (.sq (.rg [(0, []), (1, []), (2, []), (3, []), (4, []), (5, []), (6, []), (7, []), (8, []), (9, []), (10, []), (11, [])]) .tt)) .tt))))) .tt)))
def conf_May_p : List Nat := [1, 15]
def conf_May_a : Ann := (.sq .tt (.sq .tt (.sq .tt (.sq .tt (.sq (.sq .tt (.bk (.lp [⟨false, 57, 3⟩] [] .tt))) (.sq .tt (.sq (.sq .tt (.bk (.lp [⟨false, 80, 3⟩] [15] .tt))) .tt)))))))
def table_New_p : List Nat := []
def table_New_a : Ann := (.sq .tt (.sq .tt (.sq .tt (.sq (.sq .tt (.bk (.lp [⟨false, 29, 3⟩] [] .tt))) .tt))))
def machine_asked_part_p : List Nat := [5, 8]
def machine_asked_part_a : Ann := (.sq .tt (.sq .tt (.sq (.sq (.rg [(0, []), (1, []), (2, []), (3, []), (4, []), (5, []), (6, []), (7, []), (8, []), (9, []), (10, []), (11, []), (12, [9]), (13, []), (14, []), (15, []), (16, []), (17, []), (18, []), (19, []), (20, []), (21, []), (22, []), (23, []), (24, [])]) .tt) (.sq .tt (.sq (.sq .tt (.bk (.lp [⟨false, 6, 2⟩, ⟨false, 43, 3⟩] [8] .tt))) .tt)))))
def machine_asked_proc_p : List Nat := [2, 5, 6, 10]
def machine_asked_proc_a : Ann := (.sq .tt (.sq (.rg [(0, []), (1, []), (2, []), (3, []), (4, []), (5, []), (6, []), (7, []), (8, []), (9, []), (10, []), (11, []), (12, []), (13, []), (14, [8, 11]), (15, [])]) (.sq .tt (.sq (.bk (.jn [⟨false, 28, 4⟩] [] .tt (.sq .tt (.jn [⟨false, 68, 4⟩] [] .tt .tt)))) (.sq .tt (.sq (.sq .tt (.bk (.lp [⟨false, 8, 4⟩, ⟨false, 111, 3⟩] [10] .tt))) .tt))))))
def machine_asked_waits_p : List Nat := [1, 5, 11, 13, 15, 17]
def machine_asked_waits_a : Ann := (.sq .tt (.sq .tt (.sq (.sq .tt (.bk (.lp [⟨false, 28, 3⟩] [5] (.sq .tt (.sq .tt (.sq (.bk (.sq .tt (.sq .tt (.bk (.lp [⟨false, 36, 3⟩] [] (.sq .tt (.sq .tt (.sq (.bk (.sq .tt (.sq .tt (.bk (.lp [⟨false, 43, 3⟩] [] .tt))))) .tt)))))))) .tt)))))) (.sq (.sq .tt (.bk (.lp [⟨false, 100, 3⟩] [11, 13, 15] (.sq .tt (.sq .tt (.sq (.bk (.sq .tt (.sq .tt (.bk (.lp [⟨false, 108, 3⟩] [13, 15] (.sq .tt (.sq .tt (.sq (.bk (.sq .tt (.sq .tt (.bk (.lp [⟨false, 116, 3⟩] [15] .tt))))) .tt)))))))) .tt)))))) (.sq (.sq .tt (.bk (.lp [⟨false, 173, 3⟩] [17] (.sq .tt (.sq .tt (.sq (.bk (.sq .tt (.sq .tt (.jn [⟨false, 18, 3⟩] [] .tt .tt)))) .tt)))))) .tt)))))
def conf_lay_p : List Nat := []
def conf_lay_a : Ann := (.sq .tt (.sq (.sq .tt (.bk (.lp [⟨false, 0, 34⟩, ⟨false, 9, 3⟩] [] .tt))) .tt))
def code_Encode_p : List Nat := [9]
def code_Encode_a : Ann := (.sq .tt (.sq .tt (.sq .tt (.sq (.sq .tt (.bk (.lp [⟨false, 7, 34⟩, ⟨false, 26, 3⟩] [9] (.sq .tt (.sq .tt (.sq (.bk (.sq .tt (.sq .tt (.sq .tt (.bk (.lp [⟨false, 7, 34⟩, ⟨false, 45, 3⟩] [] .tt)))))) .tt)))))) .tt))))
def snap_writer_lane_p : List Nat := [3, 7]
def snap_writer_lane_a : Ann := (.sq .tt (.sq (.rg [(0, []), (1, []), (2, []), (3, []), (4, []), (5, []), (6, [])]) (.sq (.sq .tt (.bk (.lp [⟨false, 18, 3⟩] [] .tt))) (.sq (.rg [(0, []), (1, []), (2, []), (3, []), (4, []), (5, []), (6, [])]) (.sq (.sq .tt (.bk (.lp [⟨false, 38, 3⟩] [7] (.sq .tt (.sq .tt (.sq (.bk (.sq .tt (.sq (.rg [(0, []), (1, []), (2, []), (3, []), (4, []), (5, [])]) (.rg [(0, []), (1, []), (2, []), (3, []), (4, []), (5, [])])))) .tt)))))) (.sq (.rg [(0, []), (1, []), (2, []), (3, []), (4, []), (5, [])]) (.rg [(0, []), (1, []), (2, []), (3, []), (4, []), (5, [])])))))))
def snap_source_get_p : List Nat := []
def snap_source_get_a : Ann := (.sq .tt (.sq .tt (.sq (.sq (.rg [(0, []), (1, []), (2, []), (3, []), (4, []), (5, []), (6, []), (7, []), (8, []), (9, []), (10, []), (11, [])]) .tt) (.sq .tt (.sq (.sq (.rg [(0, []), (1, []), (2, []), (3, []), (4, []), (5, []), (6, []), (7, []), (8, []), (9, []), (10, []), (11, []), (12, []), (13, []), (14, []), (15, []), (16, [])]) (.bk (.lp [⟨false, 5, 42⟩, ⟨false, 48, 3⟩] [] .tt))) .tt)))))
def snap_reader_config_p : List Nat := [3]
def snap_reader_config_a : Ann := (.sq .tt (.sq .tt (.sq (.sq (.rg [(0, []), (1, []), (2, []), (3, []), (4, []), (5, []), (6, []), (7, []), (8, []), (9, []), (10, []), (11, []), (12, []), (13, [])]) (.sq (.sq (.rg [(0, []), (1, []), (2, []), (3, []), (4, []), (5, []), (6, []), (7, []), (8, []), (9, [])]) .tt) .tt)) (.sq (.rg [(0, []), (1, []), (2, []), (3, []), (4, []), (5, []), (6, []), (7, []), (8, []), (9, []), (10, []), (11, []), (12, []), (13, []), (14, []), (15, []), (16, []), (17, []), (23, []), (18, []), (19, []), (20, []), (21, []), (22, []), (24, []), (25, []), (26, [])]) (.sq (.sq .tt (.sq (.sq (.rg [(0, []), (1, []), (2, []), (3, []), (4, []), (5, []), (6, []), (7, []), (8, []), (9, []), (10, []), (11, [])]) .tt) .tt)) .tt)))))
def snap_reader_part_p : List Nat := [2, 3]
def snap_reader_part_a : Ann := (.sq .tt (.sq .tt (.sq (.sq (.rg [(0, []), (1, []), (2, []), (3, []), (4, []), (5, []), (6, []), (7, []), (9, []), (8, [])]) (.bk (.lp [⟨false, 19, 3⟩, ⟨true, 3, 49⟩] [3] (.sq .tt (.sq .tt (.sq (.bk (.rg [(0, []), (1, []), (2, []), (3, []), (4, []), (6, []), (7, []), (8, []), (10, []), (11, []), (12, []), (5, [1]), (9, [1]), (13, [1]), (14, []), (15, [1]), (16, []), (17, []), (18, [])])) .tt)))))) (.sq (.rg [(0, []), (1, []), (2, []), (4, []), (5, []), (6, []), (3, []), (8, []), (7, []), (9, []), (10, []), (11, [])]) (.sq (.sq .tt (.bk (.lp [⟨false, 55, 3⟩, ⟨true, 3, 49⟩] [3] (.sq .tt (.sq .tt (.sq (.bk (.sq (.rg [(0, []), (1, []), (2, []), (3, []), (4, []), (5, [1]), (6, []), (7, [1]), (8, []), (9, []), (10, [])]) (.sq .tt (.sq (.sq (.rg [(0, []), (1, []), (2, []), (3, []), (4, []), (5, []), (6, []), (7, []), (8, []), (10, []), (9, [])]) (.bk (.lp [⟨false, 4, 24⟩, ⟨false, 77, 3⟩] [] .tt))) .tt)))) .tt)))))) .tt)))))
def snap_reader_proc_p : List Nat := [2, 3]
def snap_reader_proc_a : Ann := (.sq .tt (.sp 3 (.rg [(0, []), (1, []), (2, []), (4, []), (5, []), (6, []), (9, []), (3, []), (7, []), (8, []), (10, [])]) (.sq (.sq .tt (.bk (.lp [⟨false, 16, 3⟩] [] .tt))) (.sq .tt (.sq .tt (.sq .tt (.sq .tt (.jn [] [] .tt (.sq .tt (.sq .tt (.sq (.sq .tt (.bk (.lp [⟨false, 68, 3⟩] [] (.sq .tt (.sq .tt (.sq (.bk (.rg [(0, []), (1, []), (2, []), (3, [1]), (4, [1]), (5, []), (6, []), (7, [])])) .tt)))))) .tt)))))))))))
def firebreakref02_SameLabels_p : List Nat := []
def firebreakref02_SameLabels_a : Ann := (.sq .tt (.sq .tt (.sq (.sq .tt (.bk (.lp [⟨false, 5, 3⟩] [] (.sq .tt (.sq (.bk (.sq (.rg [(0, []), (1, []), (2, []), (3, []), (4, []), (5, []), (6, []), (7, []), (8, [])]) .tt)) .tt))))) .tt)))
def firebreakref02_SameInts_p : List Nat := []
def firebreakref02_SameInts_a : Ann := (.sq .tt (.sq .tt (.sq (.sq .tt (.bk (.lp [⟨false, 5, 3⟩] [] (.sq .tt (.sq (.bk (.sq (.rg [(0, []), (1, []), (2, []), (3, []), (4, []), (5, []), (6, []), (7, []), (8, [])]) .tt)) .tt))))) .tt)))
def firebreakref18_ints_p : List Nat := []
def firebreakref18_ints_a : Ann := (.sq .tt (.sq .tt (.sq (.sq .tt (.bk (.lp [⟨false, 5, 3⟩] [] (.sq .tt (.sq (.bk (.sq (.rg [(0, []), (1, []), (2, []), (3, []), (4, []), (5, []), (6, []), (7, []), (8, [])]) .tt)) .tt))))) .tt)))
def firebreakref18_sameLane_p : List Nat := [2, 3]
def firebreakref18_sameLane_a : Ann := (.sq .tt (.sq .tt (.sq (.sq .tt (.bk (.lp [⟨false, 5, 3⟩] [] (.sq .tt (.sq (.bk (.sq (.rg [(0, []), (1, []), (2, []), (3, []), (4, []), (5, []), (6, []), (7, []), (8, []), (9, []), (10, [])]) .tt)) .tt))))) (.sq (.sq .tt (.bk (.lp [⟨false, 6, 3⟩] [] (.sq .tt (.sq (.bk (.sq (.rg [(0, []), (1, []), (2, []), (3, []), (4, []), (5, []), (6, []), (7, []), (8, []), (9, []), (10, [])]) .tt)) .tt))))) .tt))))
def table_May_p : List Nat := []
def table_May_a : Ann := (.sq .tt (.sq .tt (.sq (.sq .tt (.bk (.lp [⟨false, 4, 3⟩] [] (.sq .tt (.sq (.bk (.bk (.sq (.rg [(0, []), (1, []), (2, []), (3, []), (4, []), (5, []), (6, []), (7, []), (8, []), (9, []), (10, [])]) (.sq .tt (.sq (.rg [(0, []), (1, []), (2, []), (3, []), (4, []), (5, []), (6, []), (7, []), (8, []), (9, []), (10, [])]) .tt))))) .tt))))) .tt)))
def conf_many_p : List Nat := []
def conf_many_a : Ann := .tt
def slots_New_p : List Nat := []
def slots_New_a : Ann := (.sq .tt (.sq .tt (.sq .tt (.sq (.rg [(0, []), (2, []), (1, [2]), (3, []), (4, []), (5, []), (6, []), (7, [])]) .tt))))
def conf_ranged_p : List Nat := []
def conf_ranged_a : Ann := .tt
def conf_within_p : List Nat := []
def conf_within_a : Ann := .tt
def code_May_p : List Nat := [7]
def code_May_a : Ann := (.sq .tt (.sq .tt (.sq (.sq .tt (.bk (.lp [⟨false, 22, 3⟩] [7] .tt))) .tt)))
def slices_Clone_uint64_uint64_p : List Nat := []
def slices_Clone_uint64_uint64_a : Ann := .tt
def machine_asked_many_p : List Nat := [2, 7]
def machine_asked_many_a : Ann := (.sq .tt (.sq .tt (.sq (.sq .tt (.bk (.lp [⟨false, 5, 3⟩, ⟨false, 12, 3⟩] [7] (.sq .tt (.sq .tt (.sq (.bj [⟨false, 5, 3⟩] [7] .tt) .tt)))))) .tt)))
def machine_asked_of_p : List Nat := [3]
def machine_asked_of_a : Ann := .tt
def machine_count_p : List Nat := []
def machine_count_a : Ann := .tt
def slices_ContainsFunc_int_int_p : List Nat := []
def slices_ContainsFunc_int_int_a : Ann := .tt
def machine_asked_part_1_p : List Nat := []
def machine_asked_part_1_a : Ann := .tt
def machine_lives_p : List Nat := []
def machine_lives_a : Ann := .tt
def table_Table_Flows_p : List Nat := []
def table_Table_Flows_a : Ann := (.sq .tt (.sq (.rg [(0, []), (1, []), (2, []), (3, []), (4, []), (5, []), (6, []), (7, []), (8, []), (9, []), (10, []), (11, []), (12, []), (13, []), (14, []), (15, []), (16, []), (17, []), (18, []), (19, []), (20, []), (21, []), (22, []), (23, []), (24, []), (25, [])]) .tt))
def machine_asked_op_p : List Nat := [2]
def machine_asked_op_a : Ann := .tt
def machine_asked_ins_p : List Nat := [2, 4]
def machine_asked_ins_a : Ann := (.sq .tt (.sq (.rg [(0, []), (1, []), (2, []), (3, []), (4, []), (5, []), (6, []), (7, []), (8, []), (9, []), (10, []), (11, []), (12, []), (13, []), (14, []), (15, [])]) .tt))
def machine_asked_sends_p : List Nat := [3, 4, 7, 8]
def machine_asked_sends_a : Ann := (.sq .tt (.sq (.rg [(0, []), (1, []), (2, []), (3, []), (4, []), (5, []), (6, []), (7, []), (8, []), (9, []), (11, []), (12, []), (10, [2, 4, 6]), (13, []), (14, [])]) (.sq (.rg [(0, []), (1, []), (2, []), (3, []), (4, []), (5, []), (6, []), (7, []), (8, []), (9, []), (10, []), (11, []), (12, []), (13, []), (14, []), (15, []), (16, []), (17, []), (18, []), (19, []), (20, []), (21, []), (22, []), (23, []), (24, []), (25, []), (26, []), (27, [])]) .tt)))
def snap_source_small_p : List Nat := []
def snap_source_small_a : Ann := .tt
def conf_Decode_p : List Nat := [2]
def conf_Decode_a : Ann := (.sq .tt (.gs 0 (.sq .tt (.sq .tt (.gj 0 [⟨true, 2, 27⟩] [2] (.sq .tt (.sq .tt (.sq .tt (.sq .tt (.sq .tt (.sq .tt (.sq .tt (.sq .tt (.sq .tt (.sq .tt (.sq .tt (.sq (.sq .tt (.bk (.lp [⟨false, 6, 3⟩] [] .tt))) (.sq .tt .tt))))))))))))) (.sq (.sq .tt (.sq (.sq (.rg [(0, []), (1, []), (2, []), (3, []), (4, []), (5, []), (6, []), (7, []), (8, []), (9, [4, 8]), (10, []), (11, [])]) .tt) .tt)) .tt))))))
def snap_source_many_p : List Nat := []
def snap_source_many_a : Ann := .tt
def snap_reader_lane_p : List Nat := [2, 3]
def snap_reader_lane_a : Ann := (.sq .tt (.sq .tt (.sq (.sq (.rg [(0, []), (1, []), (2, []), (3, []), (4, []), (5, []), (6, []), (7, []), (9, []), (8, [])]) (.bk (.lp [⟨false, 13, 3⟩, ⟨true, 3, 53⟩] [3] (.sq .tt (.sq .tt (.sq (.bk (.rg [(0, []), (1, []), (2, []), (3, []), (4, []), (5, [1]), (6, [1]), (7, []), (8, []), (9, [])])) .tt)))))) (.sq (.sq (.rg [(0, []), (1, []), (2, []), (3, []), (4, []), (5, []), (6, []), (7, []), (8, []), (10, []), (9, [])]) (.bk (.lp [⟨false, 35, 3⟩, ⟨true, 3, 53⟩] [3] (.sq .tt (.sq .tt (.sq (.bk (.rg [(0, []), (1, []), (2, []), (3, []), (4, []), (6, []), (7, []), (8, []), (5, [1]), (9, [1]), (10, []), (11, [1]), (12, []), (13, []), (14, [])])) .tt)))))) (.sq (.rg [(0, []), (1, []), (2, []), (4, []), (5, []), (6, []), (3, []), (8, []), (7, []), (9, []), (10, []), (11, [])]) .tt)))))
def slices_IndexFunc_int_int_p : List Nat := []
def slices_IndexFunc_int_int_a : Ann := (.sq .tt (.sq (.sq .tt (.bk (.lp [⟨false, 8, 3⟩] [] .tt))) .tt))
def slots_New_1_p : List Nat := []
def slots_New_1_a : Ann := .tt
def slices_Clone_int_int_p : List Nat := []
def slices_Clone_int_int_a : Ann := .tt
def code_Check_p : List Nat := [3]
def code_Check_a : Ann := .tt
def table_Table_is_p : List Nat := []
def table_Table_is_a : Ann := .tt
def label_Flows_p : List Nat := []
def label_Flows_a : Ann := .tt
def conf_reader_give_p : List Nat := []
def conf_reader_give_a : Ann := .tt
def conf_reader_marked_p : List Nat := []
def conf_reader_marked_a : Ann := (.sq .tt (.bk (.lp [⟨false, 3, 3⟩] [] .tt)))
def conf_reader_bad_p : List Nat := []
def conf_reader_bad_a : Ann := .tt
def conf_reader_labels_p : List Nat := []
def conf_reader_labels_a : Ann := (.sq .tt (.sq .tt (.bk (.lp [⟨false, 4, 3⟩] [] (.sq .tt (.sq (.bk (.sq .tt (.rg [(0, []), (1, []), (2, []), (3, []), (4, []), (5, []), (6, [0, 1, 4]), (7, [0]), (8, []), (9, []), (10, [])]))) .tt))))))
def conf_reader_table_p : List Nat := []
def conf_reader_table_a : Ann := (.sq .tt (.bk (.lp [⟨false, 4, 3⟩] [] (.sq .tt (.sq (.bk (.rg [(0, []), (1, []), (2, []), (3, []), (4, []), (5, []), (6, []), (7, [4]), (8, [4]), (9, []), (10, []), (11, []), (12, [])])) .tt)))))
def conf_reader_ranged_p : List Nat := []
def conf_reader_ranged_a : Ann := .tt
def conf_reader_counted_p : List Nat := []
def conf_reader_counted_a : Ann := .tt
def conf_reader_proc_p : List Nat := [4]
def conf_reader_proc_a : Ann := (.sq .tt (.sq .tt (.sq (.sq .tt (.bk (.lp [⟨false, 6, 3⟩, ⟨true, 4, 45⟩] [4] (.sq .tt (.sq (.bk (.rg [(0, []), (1, []), (2, []), (3, []), (4, []), (5, []), (6, []), (7, []), (8, [1]), (9, [1]), (10, []), (11, []), (12, [])])) .tt))))) (.rg [(0, []), (1, []), (2, []), (3, []), (4, []), (5, []), (6, [4]), (7, []), (8, []), (9, []), (10, [])]))))
def code_wrong_p : List Nat := [3]
def code_wrong_a : Ann := .tt
def conf_reader_number_p : List Nat := []
def conf_reader_number_a : Ann := (.sq .tt (.sq .tt (.sq (.sq (.rg [(0, []), (1, []), (2, []), (3, []), (4, []), (5, []), (6, []), (7, []), (8, []), (9, []), (10, []), (11, [])]) .tt) (.sq .tt (.sq (.sq (.rg [(0, []), (1, []), (2, []), (3, []), (4, []), (5, []), (6, []), (7, []), (8, []), (9, []), (10, []), (11, []), (12, []), (13, []), (14, []), (15, []), (16, [])]) (.bk (.lp [⟨false, 7, 42⟩, ⟨false, 47, 3⟩] [] .tt))) (.sq (.rg [(0, []), (1, []), (2, []), (4, []), (5, []), (6, []), (7, []), (3, [7]), (8, [])]) .tt))))))
def conf_reader_marked_1_p : List Nat := []
def conf_reader_marked_1_a : Ann := .tt
def conf_reader_labels_1_p : List Nat := []
def conf_reader_labels_1_a : Ann := .tt
def conf_reader_partition_p : List Nat := []
def conf_reader_partition_a : Ann := .tt
def conf_reader_int_p : List Nat := []
def conf_reader_int_a : Ann := .tt
def conf_reader_ranged_1_p : List Nat := []
def conf_reader_ranged_1_a : Ann := .tt
def conf_reader_counted_1_p : List Nat := []
def conf_reader_counted_1_a : Ann := .tt
def conf_reader_proc_1_p : List Nat := []
def conf_reader_proc_1_a : Ann := .tt
def conf_reader_ins_p : List Nat := [6, 9]
def conf_reader_ins_a : Ann := .tt
def code_Fields_p : List Nat := []
def code_Fields_a : Ann := .tt
def code_register_p : List Nat := []
def code_register_a : Ann := .tt
def code_number_p : List Nat := [4]
def code_number_a : Ann := .tt
def conf_reader_partition_1_p : List Nat := []
def conf_reader_partition_1_a : Ann := .tt
def conf_reader_int_1_p : List Nat := []
def conf_reader_int_1_a : Ann := .tt
def conf_reader_ins_1_p : List Nat := []
def conf_reader_ins_1_a : Ann := .tt
def conf_spoilt_p : List Nat := [2, 10]
def conf_spoilt_a : Ann := (.sq .tt (.sq .tt (.sq .tt (.sq (.sq .tt (.bk (.lp [⟨false, 35, 3⟩] [10] .tt))) .tt))))
def code_fields_p : List Nat := []
def code_fields_a : Ann := .tt
def code_Fields_1_p : List Nat := []
def code_Fields_1_a : Ann := .tt
def strings_Contains_p : List Nat := []
def strings_Contains_a : Ann := .tt
def strings_Index_p : List Nat := []
def strings_Index_a : Ann := .tt
def internal_stringslite_Index_p : List Nat := []
def internal_stringslite_Index_a : Ann := (.sq .tt (.sq .tt (.sq .tt (.sq .tt (.sq .tt (.sq .tt (.sq .tt (.sq .tt (.sq (.bk (.lp [⟨false, 8, 3⟩, ⟨false, 10, 3⟩] [] (.sq .tt (.bk (.jn [⟨false, 8, 3⟩] [] .tt .tt))))) .tt)))))))))
def internal_stringslite_IndexByte_p : List Nat := []
def internal_stringslite_IndexByte_a : Ann := .tt
def internal_bytealg_Cutover_p : List Nat := []
def internal_bytealg_Cutover_a : Ann := .tt
def internal_bytealg_IndexRabinKarp_string_p : List Nat := []
def internal_bytealg_IndexRabinKarp_string_a : Ann := (.sq .tt (.sq .tt (.sq .tt (.sq .tt (.sq (.sq .tt (.bk (.lp [⟨false, 8, 157⟩, ⟨false, 9, 3⟩] [] .tt))) (.sq .tt (.sq (.sq .tt (.bk (.lp [⟨false, 8, 157⟩, ⟨false, 10, 3⟩] [] .tt))) .tt)))))))
def internal_bytealg_hashStr_string_p : List Nat := []
def internal_bytealg_hashStr_string_a : Ann := (.sq .tt (.sq .tt (.sq (.sq .tt (.bk (.lp [⟨false, 4, 157⟩, ⟨false, 5, 3⟩] [] .tt))) (.sq .tt (.sq (.sq .tt (.bk (.lp [⟨false, 6, 157⟩, ⟨false, 7, 157⟩, ⟨false, 8, 3⟩] [] (.sq .tt (.sq (.bk (.jn [⟨false, 6, 157⟩] [] .tt .tt)) .tt))))) .tt)))))
end Lf

/-
  The lifting layer, part 5: that what is told of operations that change nothing is so.
-/
namespace Lf
open Go

/-- What is told of the types is so of the program. -/
structure Tb.Ok (P : Program) (tb : Tb) : Prop where
  und : ∀ t e, tb.ty t = some e → P.underlying t = some e.und
  info : ∀ t e, tb.ty t = some e → ∃ i, P.info? t = some i ∧ i.size = e.size ∧ i.bytes = e.bytes ∧ i.zero = some e.zero
  agg : ∀ t e, tb.ty t = some e → isAggD e.und = true → ∀ x, ∃ cs, e.sh.enc x = .agg cs ∧ cs.size = e.size
  leaf : ∀ t e, tb.ty t = some e → isAggD e.und = false → e.size = 1 ∧ ∀ x, (cellsL (e.sh.enc x)).length = 1 ∧ ∀ cs, e.sh.enc x ≠ .agg cs
  zlen : ∀ t e, tb.ty t = some e → (cellsL e.zero).length = e.size
  zero8 : ∀ t e, tb.ty t = some e → e.und = .int .u8 → cellsL e.zero = [.int .u8 0]
  zagg : ∀ t e, tb.ty t = some e → isAggD e.und = true → ∃ cs, e.zero = .agg cs
  call : ∀ g, tb.call g = true → ∀ args w, (callFunc g args).run P w = .ok (.enter g args) w
  ext : ∀ g f, tb.ext g = some f → ∀ args w, (callFunc g args).run P w = ((f args).run P w).andThen fun v w' => .ok (.value v) w'
  mixed : P.follows .mixedOrders = true

theorem chEq_eq : ∀ {c d : Chain}, chEq c d = true → c = d
  | [], [], _ => rfl
  | [], _ :: _, h => by simp [chEq] at h
  | (t, w) :: c, [], h => by simp [chEq] at h
  | (t, w) :: c, (u, x) :: d, h => by
    simp only [chEq] at h
    cases h1 : Nat.beq t u with
    | false => simp [h1] at h
    | true =>
      cases h2 : boolEq w x with
      | false => simp [h1, h2] at h
      | true =>
        simp only [h1, h2, cond_true] at h
        have e1 : t = u := Nat.eq_of_beq_eq_true h1
        have e2 : w = x := by cases w <;> cases x <;> first | rfl | cases h2
        rw [e1, e2, chEq_eq h]

theorem sufx_mem : ∀ {c ch : Chain}, sufx c ch = true → ∀ p ∈ c, p ∈ ch
  | c, [], h => by
    cases c with
    | nil => intro p hp; cases hp
    | cons a r => simp [sufx] at h
  | c, q :: d, h => by
    cases c with
    | nil => intro p hp; cases hp
    | cons a r =>
      simp only [sufx] at h
      cases h1 : chEq (a :: r) (q :: d) with
      | true => intro p hp; rw [← chEq_eq h1]; exact hp
      | false =>
        simp only [h1, cond_false] at h
        intro p hp
        exact List.mem_cons_of_mem _ (sufx_mem h p hp)

/-- The truth in a slot. -/
def hb (s : St) (t : Nat) : Option Bool := match s.f t with
  | some (.v (.bool b), _) => some b
  | _ => none

def holds (s : St) (ch : Chain) : Prop := ∀ p ∈ ch, hb s p.1 = some p.2

theorem holds_nil (s : St) : holds s [] := fun _ h => by cases h

theorem holds_sufx {s : St} {c ch : Chain} (hs : sufx c ch = true) (h : holds s ch) : holds s c := fun p hp => h p (sufx_mem hs p hp)

theorem cnd_cons {s : St} (t : Nat) (w : Bool) (r : Chain) : ∃ b, cnd s ((t, w) :: r) = some b ∧ (holds s ((t, w) :: r) → b = true) := by
  induction r generalizing t w with
  | nil =>
    simp only [cnd]
    split
    · rename_i b c hf
      refine ⟨_, rfl, fun h => ?_⟩
      have := h (t, w) (List.mem_cons_self ..)
      simp only [hb, hf] at this
      injection this with this
      subst this
      cases b <;> rfl
    · refine ⟨false, rfl, fun h => ?_⟩
      have := h (t, w) (List.mem_cons_self ..)
      unfold hb at this
      split at this
      · rename_i hn _ b c hf; exact absurd hf (hn b c)
      · cases this
  | cons p r ih =>
    obtain ⟨t', w'⟩ := p
    obtain ⟨b', hb', hh'⟩ := ih t' w'
    simp only [cnd]
    split
    · rename_i b c hf
      rw [hb']
      refine ⟨_, rfl, fun h => ?_⟩
      have h1 := h (t, w) (List.mem_cons_self ..)
      simp only [hb, hf] at h1
      injection h1 with h1
      have h2 : b' = true := hh' fun q hq => h q (List.mem_cons_of_mem _ hq)
      subst h1; subst h2
      cases b <;> rfl
    · refine ⟨false, rfl, fun h => ?_⟩
      have := h (t, w) (List.mem_cons_self ..)
      unfold hb at this
      split at this
      · rename_i hn _ b c hf; exact absurd hf (hn b c)
      · cases this

theorem req_cnd {s : St} {ch : Chain} {p : Prop} (h : Req (cnd s ch) p) (hh : holds s ch) : p := by
  cases ch with
  | nil => exact h
  | cons q r =>
    obtain ⟨t, w⟩ := q
    obtain ⟨b, hb, hi⟩ := cnd_cons (s := s) t w r
    rw [hb] at h
    exact h (hi hh)

/-- What a slot's content is in memory. -/
def LVal (β : Nat → Nat) : LV → Value
  | .v x => x
  | .box k o => .pointer (some ⟨β k, o, none⟩)
  | .boxd k o => .pointer (some ⟨β k, o, none⟩)

def Opnd (β : Nat → Nat) (s : St) (ρ : Operand → Value) : Operand → Prop
  | .tmp t => ∀ l c, s.f t = some (l, c) → holds s c → ρ (.tmp t) = LVal β l
  | .const v => ρ (.const v) = v
  | .global g => ρ (.global g) = .pointer (some ⟨g, 0, none⟩)
  | .func f => ρ (.func f) = .func (.func f) #[] #[]

theorem ev_ok {β : Nat → Nat} {s : St} {ρ : Operand → Value} {x : Operand} {ch : Chain} {l : LV} (ho : Opnd β s ρ x) (hh : holds s ch) (he : ev s ch x = some l) : ρ x = LVal β l := by
  cases x with
  | tmp t =>
    simp only [ev] at he
    split at he
    · rename_i l' c hf
      cases hs : sufx c ch with
      | false => simp [hs] at he
      | true =>
        simp only [hs, cond_true] at he
        cases he
        exact ho l c hf (holds_sufx hs hh)
    · cases he
  | const v => cases he; exact ho
  | global g => cases he; exact ho
  | func f => cases he; exact ho

theorem onL_some {l : Option LV} {K : LV → Prop} (h : onL l K) : ∃ x, l = some x ∧ K x := by
  cases l with
  | none => exact h.elim
  | some x => exact ⟨x, rfl, h⟩

theorem onV_some {l : Option LV} {K : Value → Prop} (h : onV l K) : ∃ x, l = some (.v x) ∧ K x := by
  cases l with
  | none => exact h.elim
  | some x => cases x <;> first | exact ⟨_, rfl, h⟩ | exact h.elim

theorem onVs_some {l : Option (List Value)} {K : List Value → Prop} (h : onVs l K) : ∃ x, l = some x ∧ K x := by
  cases l with
  | none => exact h.elim
  | some x => exact ⟨x, rfl, h⟩

/-- The private variables lie in memory. -/
def BoxR (β : Nat → Nat) (m : Nat → Option (List Value)) (w : World) : Prop :=
  ∀ k cs, m k = some cs → ∃ t, w.heap[β k]? = some (.cells cs.toArray t (0, 0))

/-- Those that the operation's operands lead to. -/
def BoxU (β : Nat → Nat) (s : St) (o : Oper) (w : World) : Prop :=
  ∀ t, Operand.tmp t ∈ o.op.operands → ∀ k off c, (s.f t = some (.box k off, c) ∨ s.f t = some (.boxd k off, c)) → holds s c → ∀ cs, s.m k = some cs → ∃ ct, w.heap[β k]? = some (.cells cs.toArray ct (0, 0))

theorem ev_tmp {s : St} {ch : Chain} {x : Operand} {l : LV} (he : ev s ch x = some l) (hl : ∀ v, l ≠ .v v) (hh : holds s ch) : ∃ t c, x = .tmp t ∧ s.f t = some (l, c) ∧ holds s c := by
  cases x with
  | tmp t =>
    simp only [ev] at he
    split at he
    · rename_i l' c hf
      cases hs : sufx c ch with
      | false => simp [hs] at he
      | true =>
        simp only [hs, cond_true] at he
        cases he
        exact ⟨t, c, rfl, hf, holds_sufx hs hh⟩
    · cases he
  | const v => cases he; exact absurd rfl (hl _)
  | global g => cases he; exact absurd rfl (hl _)
  | func f => cases he; exact absurd rfl (hl _)

theorem BoxU.box {β : Nat → Nat} {s : St} {o : Oper} {w : World} (hb : BoxU β s o w) {ch : Chain} {x : Operand} {k off : Nat} (hx : x ∈ o.op.operands) (he : ev s ch x = some (.box k off)) (hh : holds s ch)
    {cs : List Value} (hm : s.m k = some cs) : ∃ ct, w.heap[β k]? = some (.cells cs.toArray ct (0, 0)) := by
  obtain ⟨t, c, rfl, hf, hc⟩ := ev_tmp he (by simp) hh
  exact hb t hx k off c (.inl hf) hc cs hm

theorem BoxU.boxd {β : Nat → Nat} {s : St} {o : Oper} {w : World} (hb : BoxU β s o w) {ch : Chain} {x : Operand} {k off : Nat} (hx : x ∈ o.op.operands) (he : ev s ch x = some (.boxd k off)) (hh : holds s ch)
    {cs : List Value} (hm : s.m k = some cs) : ∃ ct, w.heap[β k]? = some (.cells cs.toArray ct (0, 0)) := by
  obtain ⟨t, c, rfl, hf, hc⟩ := ev_tmp he (by simp) hh
  exact hb t hx k off c (.inr hf) hc cs hm

/-- The operation comes to 'l', and changes nothing that is known. -/
def RunsK (kd : Kd) (P : Program) (o : Oper) (s : St) (h : Hp) (l : LV) : Prop :=
  ∀ (β : Nat → Nat) (ρ : Operand → Value) (w : World), (∀ x ∈ o.op.operands, Opnd β s ρ x) → (kd = .mem → Sub h w) → (kd ≠ .pure → BoxU β s o w) →
    ∃ w', (execOp ρ o).run P w = .ok (.value (LVal β l)) w' ∧ (kd ≠ .mem → w' = w) ∧ (kd = .mem → Step h h w w')

theorem nth_get {α : Type _} : ∀ (l : List α) (i : Nat), nth l i = l[i]?
  | [], _ => by simp [nth]
  | a :: l, 0 => by simp [nth]
  | a :: l, n + 1 => by simp [nth, nth_get l n]

theorem dropL_eq {α : Type _} : ∀ (l : List α) (i : Nat), dropL l i = l.drop i
  | l, 0 => by simp [dropL]
  | [], n + 1 => by simp [dropL]
  | a :: l, n + 1 => by simp [dropL, dropL_eq l n]

theorem takeL_eq {α : Type _} : ∀ (l : List α) (i : Nat), takeL l i = l.take i
  | l, 0 => by simp [takeL]
  | [], n + 1 => by simp [takeL]
  | a :: l, n + 1 => by simp [takeL, takeL_eq l n]

theorem app_eq {α : Type _} : ∀ (l r : List α), app l r = l ++ r
  | [], r => rfl
  | a :: l, r => by simp [app, app_eq l r]

theorem has_iff : ∀ (l : List Nat) (i : Nat), has l i = true ↔ i ∈ l
  | [], i => by simp [has]
  | a :: l, i => by
    simp only [has]
    cases h : Nat.beq i a with
    | true => simp [Nat.eq_of_beq_eq_true h]
    | false =>
      have : i ≠ a := fun e => by rw [e] at h; simp at h
      simp [has_iff l i, this]

theorem has_false {l : List Nat} {i : Nat} (h : has l i = false) : i ∉ l := fun hm => by rw [(has_iff l i).2 hm] at h; cases h

section
variable {P : Program} {tb : Tb}

theorem run_underlying' (ok : tb.Ok P) {t : Nat} {e : Ty} (h : tb.ty t = some e) (w : World) : (underlying t).run P w = .ok e.und w := by
  simp [underlying, ok.und t e h]

theorem run_typeInfo' (ok : tb.Ok P) {t : Nat} {e : Ty} (h : tb.ty t = some e) (w : World) :
    ∃ i, (typeInfo t).run P w = .ok i w ∧ i.size = e.size ∧ i.bytes = e.bytes ∧ i.zero = some e.zero := by
  obtain ⟨i, hi, h1, h2, h3⟩ := ok.info t e h
  exact ⟨i, by simp [typeInfo, hi], h1, h2, h3⟩

theorem run_sizeOf' (ok : tb.Ok P) {t : Nat} {e : Ty} (h : tb.ty t = some e) (w : World) : (Go.sizeOf t).run P w = .ok e.size w := by
  obtain ⟨i, hi, h1, h2, h3⟩ := run_typeInfo' ok h w
  simp only [Go.sizeOf, Sem.run_bind, hi, Result.andThen_ok, Sem.run_pure, h1]

theorem run_zeroValue' (ok : tb.Ok P) {t : Nat} {e : Ty} (h : tb.ty t = some e) (w : World) : (zeroValue t).run P w = .ok e.zero w := by
  obtain ⟨i, hi, h1, h2, h3⟩ := run_typeInfo' ok h w
  simp only [zeroValue, Sem.run_bind, hi, Result.andThen_ok, h3, Sem.run_pure]

theorem run_isAgg' (ok : tb.Ok P) {t : Nat} {e : Ty} (h : tb.ty t = some e) (w : World) : (isAgg t).run P w = .ok (isAggD e.und) w := by
  simp only [isAgg, Sem.run_bind, run_underlying' ok h, Result.andThen_ok]
  cases e.und <;> rfl

theorem cells_list (v : Value) : v.cells.toList = cellsL v := by cases v <;> rfl

/-- A row of cells is read. -/
theorem run_loadCellsFrom {w : World} {a : Addr} : ∀ (n i : Nat) (acc : Array Value) (cs : List Value), cs.length = n →
    (∀ j v, cs[j]? = some v → w.cell? (a.add (i + j)) = some v) → (loadCellsFrom a i n acc).run P w = .ok (acc ++ cs.toArray) w
  | 0, i, acc, cs, hl, _ => by
    have : cs = [] := List.length_eq_zero_iff.1 hl
    subst this; simp [loadCellsFrom]
  | n + 1, i, acc, [], hl, _ => by simp at hl
  | n + 1, i, acc, c :: cs, hl, hc => by
    have h0 : w.cell? (a.add i) = some c := by simpa using hc 0 c (by simp)
    have ih := run_loadCellsFrom n (i + 1) (acc.push c) cs (by simpa using hl) (fun j v hj => by
      have := hc (j + 1) v (by simpa using hj)
      rwa [show i + 1 + j = i + (j + 1) from by omega])
    simp only [loadCellsFrom, Sem.run_bind, run_load, h0, Result.andThen_ok, ih]
    congr 1
    simp

theorem run_loadCells {w : World} {a : Addr} {cs : List Value} (hc : ∀ j v, cs[j]? = some v → w.cell? (a.add j) = some v) : (loadCells a cs.length).run P w = .ok cs.toArray w := by
  unfold loadCells
  rw [run_loadCellsFrom cs.length 0 #[] cs rfl (by simpa using hc)]
  simp

/-- A variable is read whose cells are known. -/
theorem run_loadVar (ok : tb.Ok P) {t : Nat} {e : Ty} (h : tb.ty t = some e) {w : World} {a : Addr} {x : e.sh.T}
    (hc : ∀ j v, (cellsL (e.sh.enc x))[j]? = some v → w.cell? (a.add j) = some v) : (loadVar t a).run P w = .ok (e.sh.enc x) w := by
  simp only [loadVar, Sem.run_bind, run_isAgg' ok h, Result.andThen_ok]
  cases ha : isAggD e.und with
  | true =>
    obtain ⟨cs, he, hs⟩ := ok.agg t e h ha x
    simp only [if_true, Sem.run_bind, run_sizeOf' ok h, Result.andThen_ok]
    have hl : cs.toList.length = e.size := by simpa using hs
    have hc' : ∀ j v, cs.toList[j]? = some v → w.cell? (a.add j) = some v := by simpa [he, cellsL] using hc
    rw [← hl, run_loadCells hc']
    simp [he]
  | false =>
    obtain ⟨h1, h2⟩ := ok.leaf t e h ha
    have hne := (h2 x).2
    have hcl : cellsL (e.sh.enc x) = [e.sh.enc x] := by
      generalize e.sh.enc x = v at hne
      cases v <;> first | rfl | exact absurd rfl (hne _)
    have := hc 0 (e.sh.enc x) (by simp [hcl])
    have h0 : a.add 0 = a := by simp [Addr.add]
    rw [h0] at this
    simp [this]

theorem add_add (a : Addr) (i j : Nat) : (a.add i).add j = a.add (i + j) := by
  unfold Addr.add
  by_cases hi : i = 0
  · simp [hi]
  · by_cases hj : j = 0
    · simp [hj]
    · simp [hi, hj, Nat.add_assoc]

theorem box_add (b o i : Nat) : (⟨b, o, none⟩ : Addr).add i = ⟨b, o + i, none⟩ := by
  unfold Addr.add
  by_cases h : i = 0
  · simp [h]
  · simp [h]

theorem box_cell {w : World} {b t : Nat} {cs : List Value} (hb : w.heap[b]? = some (.cells cs.toArray t (0, 0))) (i : Nat) : w.cell? ⟨b, i, none⟩ = cs[i]? := by
  unfold World.cell?
  simp [hb]
end

end Lf

/-
  The lifting layer, part 6: what is told of operations that change nothing.
-/
namespace Lf
open Go

section
variable {P : Program} {tb : Tb}

/-- A private address comes from one of the operands. -/
def Prov (o : Oper) (ch : Chain) (s : St) (l : LV) : Prop :=
  ∀ k off, (l = .box k off ∨ l = .boxd k off) → ∃ x ∈ o.op.operands, ∃ off', ev s ch x = some (.box k off') ∨ ev s ch x = some (.boxd k off')

theorem prov_v (o : Oper) (ch : Chain) (s : St) (v : Value) : Prov o ch s (.v v) := fun _ _ e => by rcases e with e | e <;> cases e

theorem prov_ev {o : Oper} {ch : Chain} {s : St} {l : LV} {x : Operand} (hx : x ∈ o.op.operands) (he : ev s ch x = some l) : Prov o ch s l := fun k off e =>
  ⟨x, hx, off, by rcases e with e | e <;> simp [he, e]⟩

theorem prov_box {o : Oper} {ch : Chain} {s : St} {l : LV} {x : Operand} {k off : Nat} (hx : x ∈ o.op.operands) (he : ev s ch x = some (.box k off))
    (hl : ∀ k' off', (l = .box k' off' ∨ l = .boxd k' off') → k' = k) : Prov o ch s l := fun k' off' e => ⟨x, hx, off, .inl (by rw [hl k' off' e]; exact he)⟩

theorem prov_boxd {o : Oper} {ch : Chain} {s : St} {l : LV} {x : Operand} {k off : Nat} (hx : x ∈ o.op.operands) (he : ev s ch x = some (.boxd k off))
    (hl : ∀ k' off', (l = .box k' off' ∨ l = .boxd k' off') → k' = k) : Prov o ch s l := fun k' off' e => ⟨x, hx, off, .inr (by rw [hl k' off' e]; exact he)⟩

/-- What a value operation must come to. -/
def ValOk (P : Program) (tb : Tb) (o : Oper) (ch : Chain) (s : St) (h : Hp) (K : LV → Prop) : Prop :=
  ∃ l, K l ∧ (holds s ch → RunsK (kindD tb o ch s) P o s h l) ∧ Prov o ch s l

/-- A run that is the same in every world. -/
theorem valOk_same {o : Oper} {ch : Chain} {s : St} {h : Hp} {K : LV → Prop} (l : LV) (hk : K l)
    (hr : holds s ch → ∀ (β : Nat → Nat) (ρ : Operand → Value) (w : World), (∀ x ∈ o.op.operands, Opnd β s ρ x) →
      (execOp ρ o).run P w = .ok (.value (LVal β l)) w)
    (hp : Prov o ch s l := by exact prov_v _ _ _ _) : ValOk P tb o ch s h K :=
  ⟨l, hk, fun hh β ρ w ho hs hb => ⟨w, hr hh β ρ w ho, fun _ => rfl, fun e => .refl (hs e)⟩, hp⟩

theorem valOk_box {o : Oper} {ch : Chain} {s : St} {h : Hp} {K : LV → Prop} (hkd : kindD tb o ch s = .box) (l : LV) (hk : K l)
    (hr : holds s ch → ∀ (β : Nat → Nat) (ρ : Operand → Value) (w : World), (∀ x ∈ o.op.operands, Opnd β s ρ x) → BoxU β s o w →
      (execOp ρ o).run P w = .ok (.value (LVal β l)) w)
    (hp : Prov o ch s l := by exact prov_v _ _ _ _) : ValOk P tb o ch s h K :=
  ⟨l, hk, fun hh β ρ w ho hs hb => ⟨w, hr hh β ρ w ho (hb (by rw [hkd]; simp)), fun _ => rfl, fun e => .refl (hs e)⟩, hp⟩

theorem valOk_mem {o : Oper} {ch : Chain} {s : St} {h : Hp} {K : LV → Prop} (hkd : kindD tb o ch s = .mem) (l : LV) (hk : K l)
    (hr : holds s ch → ∀ (β : Nat → Nat) (ρ : Operand → Value) (w : World), (∀ x ∈ o.op.operands, Opnd β s ρ x) → Sub h w →
      (execOp ρ o).run P w = .ok (.value (LVal β l)) w)
    (hp : Prov o ch s l := by exact prov_v _ _ _ _) : ValOk P tb o ch s h K :=
  ⟨l, hk, fun hh β ρ w ho hs hb => ⟨w, hr hh β ρ w ho (hs hkd), fun _ => rfl, fun e => .refl (hs e)⟩, hp⟩

theorem semIs_run {s : Sem Value} {h : Hp} {v : Value} (hi : SemIs P s h v) {w : World} (hs : Sub h w) : ∃ w', s.run P w = .ok v w' ∧ Step h h w w' := hi w hs

theorem val_gen {o : Oper} {ch : Chain} {s : St} {h : Hp} {K : LV → Prop} {t : Nat} {sem : Sem Value} (hkd : kindD tb o ch s = .mem) (hg : genV (cnd s ch) P tb t sem h K)
    (hx : holds s ch → ∀ (β : Nat → Nat) (ρ : Operand → Value), (∀ x ∈ o.op.operands, Opnd β s ρ x) → ∀ (w w' : World) (v : Value), sem.run P w = .ok v w' → (execOp ρ o).run P w = .ok (.value v) w') :
    ValOk P tb o ch s h K := by
  unfold genV at hg
  split at hg
  · rename_i e he
    obtain ⟨x, hx1, hk⟩ := hg
    refine ⟨_, hk, fun hh β ρ w ho hs hb => ?_, prov_v _ _ _ _⟩
    obtain ⟨w', hr, hst⟩ := semIs_run (req_cnd hx1 hh) (hs hkd)
    exact ⟨w', hx hh β ρ ho w w' _ hr, fun e => absurd hkd e, fun _ => hst⟩
  · exact hg.elim

theorem kEq_self (k : IntKind) : kEq k k = true := by cases k <;> rfl

theorem val_move {o : Oper} {ch : Chain} {s : St} {h : Hp} {K : LV → Prop} {x : Operand} (hop : o.op = .move x ∨ o.op = .assign x) (hv : onL (ev s ch x) K) : ValOk P tb o ch s h K := by
  obtain ⟨l, he, hk⟩ := onL_some hv
  refine valOk_same l hk (fun hh β ρ w ho => ?_) (prov_ev (by rcases hop with h | h <;> simp [h, Op.operands]) he)
  have hx : ρ x = LVal β l := ev_ok (ho x (by rcases hop with h | h <;> simp [h, Op.operands])) hh he
  rcases hop with h | h <;> simp [execOp, h, hx]

theorem run_equal_bool {t : Nat} {w : World} {a b : Bool} (hu : (underlying t).run P w = .ok .bool w) : (Op.equal t (.bool a) (.bool b)).run P w = .ok (a == b) w := by
  have key : ∀ d, (Op.equalIn (d + 1) t (.bool a) (.bool b)).run P w = .ok (a == b) w := by
    intro d
    unfold Op.equalIn
    simp only [Sem.run_bind, hu, Result.andThen_ok, Sem.run_pure]
  exact key 9999

theorem run_equal_nil {t elem : Nat} {w : World} {p : Option Addr} (hu : (underlying t).run P w = .ok (.pointer elem) w) : (Op.equal t (.pointer p) (.pointer none)).run P w = .ok p.isNone w := by
  have key : ∀ d, (Op.equalIn (d + 1) t (.pointer p) (.pointer none)).run P w = .ok p.isNone w := by
    intro d
    unfold Op.equalIn
    simp only [Sem.run_bind, hu, Result.andThen_ok]
    cases p <;> simp only [Sem.run_pure] <;> rfl
  exact key 9999

set_option maxHeartbeats 800000 in
theorem val_bin0 (ok : tb.Ok P) {o : Oper} {ch : Chain} {s : St} {h : Hp} {K : LV → Prop} {op : BinOp} {t yt : Nat} {x y : Operand} (hop : o.op = .binOp op t x y yt)
    (hv : onV (ev s ch x) fun a => onV (ev s ch y) fun b => binW0 (cnd s ch) P tb op t x y o.type a b h K) : ValOk P tb o ch s h K := by
  obtain ⟨a, hea, hv'⟩ := onV_some hv
  clear hv
  obtain ⟨b, heb, hv⟩ := onV_some hv'
  clear hv'
  -- the operands
  have hρ : holds s ch → ∀ (β : Nat → Nat) (ρ : Operand → Value), (∀ x ∈ o.op.operands, Opnd β s ρ x) → ρ x = a ∧ ρ y = b := fun hh β ρ ho =>
    ⟨ev_ok (ho x (by simp [hop, Op.operands])) hh hea, ev_ok (ho y (by simp [hop, Op.operands])) hh heb⟩
  have hex : holds s ch → ∀ (β : Nat → Nat) (ρ : Operand → Value), (∀ x ∈ o.op.operands, Opnd β s ρ x) → ∀ (w w' : World) (v : Value), (binS op t x y a b).run P w = .ok v w' →
      (execOp ρ o).run P w = .ok (.value v) w' := by
    intro hh β ρ ho w w' v hr
    obtain ⟨ha, hb⟩ := hρ hh β ρ ho
    simp only [execOp, hop, ha, hb]
    change (binS op t x y a b >>= fun x => pure (Next.value x)).run P w = _
    rw [Sem.run_bind, hr]
    rfl
  have gen : ∀ v : Value, K (.v v) → (holds s ch → ∀ w, (binS op t x y a b).run P w = .ok v w) → ValOk P tb o ch s h K := fun v hk hr =>
    valOk_same (.v v) hk fun hh β ρ w ho => hex hh β ρ ho w w v (hr hh w)
  unfold binW0 at hv
  split at hv
  · -- numbers
    rename_i k m k' n
    have hgd : ∀ w : World, (eqGuard op t x y (.int k m) (.int k' n)).run P w = .ok () w := fun w => by unfold eqGuard; split <;> rfl
    split at hv
    · refine gen _ hv.2 fun hh w => ?_
      have h0 := req_cnd hv.1 hh
      simp only [binS, Sem.run_bind, hgd, Result.andThen_ok]
      simp [binOp, Op.shift, shlI, Int.not_lt.2 h0]
    · refine gen _ hv.2 fun hh w => ?_
      have h0 := req_cnd hv.1 hh
      simp only [binS, Sem.run_bind, hgd, Result.andThen_ok]
      simp [binOp, Op.shift, shrI, Int.not_lt.2 h0]
    · cases hk : kEq k k' with
      | false => simp [hk] at hv
      | true =>
        have hkk := kEq_eq hk
        subst hkk
        simp only [hk, cond_true] at hv
        cases op <;> simp only [intW] at hv <;>
          first
          | exact hv.elim
          | exact gen _ hv fun _ w => by simp only [binS, Sem.run_bind, hgd, Result.andThen_ok]; simp [binOp, Op.intArith, Op.intCmp, Op.intBits, bitsI]
          | exact gen _ hv.2 fun hh w => by
              have h0 := req_cnd hv.1 hh
              simp only [binS, Sem.run_bind, hgd, Result.andThen_ok]
              simp [binOp, Op.intDiv, h0]
  · -- truths
    rename_i m n
    split at hv
    · rename_i e he
      have hgd : ∀ w : World, (eqGuard op t x y (.bool m) (.bool n)).run P w = .ok () w := fun w => by unfold eqGuard; split <;> rfl
      have hu := fun w => run_underlying' ok he w
      split at hv
      · rename_i heu
        refine gen _ hv fun _ w => ?_
        simp only [binS, Sem.run_bind, hgd, Result.andThen_ok, binOp, run_equal_bool (heu ▸ hu w), Sem.run_pure]
      · rename_i heu
        refine gen _ hv fun _ w => ?_
        simp only [binS, Sem.run_bind, hgd, Result.andThen_ok, binOp, run_equal_bool (heu ▸ hu w), Sem.run_pure]
      · exact hv.elim
    · exact hv.elim
  · -- texts
    rename_i m n
    have hgd : ∀ w : World, (eqGuard op t x y (.string m) (.string n)).run P w = .ok () w := fun w => by unfold eqGuard; split <;> rfl
    split at hv
    · exact gen _ hv fun _ w => by simp only [binS, Sem.run_bind, hgd, Result.andThen_ok]; simp [binOp, Op.stringOp]
    · exact gen _ hv fun _ w => by simp only [binS, Sem.run_bind, hgd, Result.andThen_ok]; simp [binOp, Op.stringOp]
    · refine gen _ hv.2 fun hh w => ?_
      have h0 := req_cnd hv.1 hh
      simp only [binS, Sem.run_bind, hgd, Result.andThen_ok]
      have h1 : ¬ (((m.size + n.size : Nat) : Int) > IntKind.i64.max) := by
        have : IntKind.i64.max = 9223372036854775807 := by decide
        rw [this]; omega
      simp only [binOp, Op.stringOp, if_neg h1, Sem.run_pure]
    · exact val_gen (by simp_all [kindD]) hv fun hh β ρ ho w w' v hr => hex hh β ρ ho w w' v hr
  · -- pointers
    rename_i p q
    cases hn : isNilOp y with
    | false =>
      simp only [hn, cond_false] at hv
      exact val_gen (by simp_all [kindD]) hv fun hh β ρ ho w w' v hr => hex hh β ρ ho w w' v hr
    | true =>
      simp only [hn, cond_true] at hv
      split at hv
      · rename_i e he
        split at hv
        · rename_i elem heu
          have hq : q = none := by
            cases y with
            | const v =>
              simp only [ev] at heb
              cases heb
              cases q with
              | none => rfl
              | some _ => simp [isNilOp] at hn
            | tmp _ => simp [isNilOp] at hn
            | global _ => simp [isNilOp] at hn
            | func _ => simp [isNilOp] at hn
          subst hq
          have hgd : ∀ w : World, (eqGuard op t x y (.pointer p) (.pointer none)).run P w = .ok () w := fun w => by unfold eqGuard; split <;> rfl
          have hu := fun w => run_underlying' ok he w
          unfold nilW at hv
          split at hv
          · refine gen _ hv fun _ w => ?_
            simp only [binS, Sem.run_bind, hgd, Result.andThen_ok, binOp, run_equal_nil (heu ▸ hu w), Sem.run_pure]
          · refine gen _ hv fun _ w => ?_
            simp only [binS, Sem.run_bind, hgd, Result.andThen_ok, binOp, run_equal_nil (heu ▸ hu w), Sem.run_pure]
          · exact hv.elim
        · exact hv.elim
      · exact hv.elim
  · rename_i n1 n2 n3 n4
    have hkd : kindD tb o ch s = .mem := by
      unfold kindD
      rw [hop]
      simp only [hea, heb]
      split
      · rename_i e1 e2; cases e1; cases e2; exact absurd rfl (n1 _ _ _ _ rfl)
      · rename_i e1 e2; cases e1; cases e2; exact absurd rfl (n2 _ _ rfl)
      · rename_i e1 e2; cases e1; cases e2; exact absurd rfl (n3 _ _ rfl)
      · rename_i e1 e2; cases e1; cases e2; exact absurd rfl (n4 _ _ rfl)
      · rfl
    exact val_gen hkd hv fun hh β ρ ho w w' v hr => hex hh β ρ ho w w' v hr

theorem run_equal_if {t : Nat} {w : World} {ms} {a : Value} (ha : isIfV a = true) (hu : (underlying t).run P w = .ok (.interface ms) w) : (Op.equal t a .nilIface).run P w = .ok (isNilIface a) w := by
  have key : ∀ d, (Op.equalIn (d + 1) t a .nilIface).run P w = .ok (isNilIface a) w := by
    intro d
    unfold Op.equalIn
    simp only [Sem.run_bind, hu, Result.andThen_ok]
    cases a <;> first | rfl | cases ha
  exact key 9999

theorem isIf_or {a : Value} (ha : isIfV a = true) : a = .nilIface ∨ ∃ t v, a = .iface t v := by
  cases a <;> first | exact .inl rfl | exact .inr ⟨_, _, rfl⟩ | cases ha

theorem val_bin (ok : tb.Ok P) {o : Oper} {ch : Chain} {s : St} {h : Hp} {K : LV → Prop} {op : BinOp} {t yt : Nat} {x y : Operand} (hop : o.op = .binOp op t x y yt)
    (hv : onV (ev s ch x) fun a => onV (ev s ch y) fun b => binW (cnd s ch) P tb op t x y o.type a b h K) : ValOk P tb o ch s h K := by
  cases hn : isNilIf y with
  | false =>
    refine val_bin0 ok hop ?_
    simpa only [binW, hn, cond_false] using hv
  | true =>
    cases hi : isIfD tb t with
    | false =>
      refine val_bin0 ok hop ?_
      simpa only [binW, hn, hi, cond_false, cond_true] using hv
    | true =>
      obtain ⟨a, hea, hv'⟩ := onV_some hv
      clear hv
      obtain ⟨b, heb, hv⟩ := onV_some hv'
      clear hv'
      simp only [binW, hn, hi, cond_true] at hv
      obtain ⟨hif, hv⟩ := hv
      have hy : y = .const .nilIface := by
        unfold isNilIf at hn
        split at hn
        · rfl
        · cases hn
      subst hy
      have hb : b = .nilIface := by
        simp only [ev] at heb
        cases heb
        rfl
      subst hb
      have hex : holds s ch → ∀ (β : Nat → Nat) (ρ : Operand → Value), (∀ x ∈ o.op.operands, Opnd β s ρ x) → ∀ (w w' : World) (v : Value), (binS op t x (.const .nilIface) a .nilIface).run P w = .ok v w' →
          (execOp ρ o).run P w = .ok (.value v) w' := by
        intro hh β ρ ho w w' v hr
        have ha : ρ x = a := ev_ok (ho x (by simp [hop, Op.operands])) hh hea
        have hb : ρ (.const .nilIface) = .nilIface := ev_ok (ho (.const .nilIface) (by simp [hop, Op.operands])) hh heb
        simp only [execOp, hop, ha, hb]
        change (binS op t x (.const .nilIface) a .nilIface >>= fun x => pure (Next.value x)).run P w = _
        rw [Sem.run_bind, hr]
        rfl
      have gen : ∀ v : Value, K (.v v) → (holds s ch → ∀ w, (binS op t x (.const .nilIface) a .nilIface).run P w = .ok v w) → ValOk P tb o ch s h K := fun v hk hr =>
        valOk_same (.v v) hk fun hh β ρ w ho => hex hh β ρ ho w w v (hr hh w)
      unfold isIfD at hi
      split at hi
      · rename_i e he
        split at hi
        · rename_i ms heu
          have hu := fun w => run_underlying' ok he w
          have hgd : isIfV a = true → ∀ w : World, (eqGuard op t x (.const .nilIface) a .nilIface).run P w = .ok () w := fun ha w => by
            unfold eqGuard
            rcases isIf_or ha with rfl | ⟨_, _, rfl⟩ <;> cases op <;> first | rfl | (cases x <;> rfl)
          have hbo : isIfV a = true → op = .eql → ∀ w : World, (binOp op t a .nilIface).run P w = .ok (.bool (isNilIface a)) w := fun ha ho w => by
            subst ho
            rcases isIf_or ha with rfl | ⟨_, _, rfl⟩ <;> simp only [binOp, Sem.run_bind, run_equal_if (P := P) ha (heu ▸ hu w), Result.andThen_ok, Sem.run_pure]
          have hbn : isIfV a = true → op = .neq → ∀ w : World, (binOp op t a .nilIface).run P w = .ok (.bool (!isNilIface a)) w := fun ha ho w => by
            subst ho
            rcases isIf_or ha with rfl | ⟨_, _, rfl⟩ <;> simp only [binOp, Sem.run_bind, run_equal_if (P := P) ha (heu ▸ hu w), Result.andThen_ok, Sem.run_pure]
          unfold nilW at hv
          split at hv
          · refine gen _ hv fun hh w => ?_
            have ha := req_cnd hif hh
            simp only [binS, Sem.run_bind, hgd ha, Result.andThen_ok, hbo ha rfl]
          · refine gen _ hv fun hh w => ?_
            have ha := req_cnd hif hh
            simp only [binS, Sem.run_bind, hgd ha, Result.andThen_ok, hbn ha rfl]
          · exact hv.elim
        · cases hi
      · cases hi

end
end Lf

/-
  The lifting layer, part 7: the other operations that change nothing.
-/
namespace Lf
open Go

section
variable {P : Program} {tb : Tb} {o : Oper} {ch : Chain} {s : St} {h : Hp} {K : LV → Prop}

theorem vals_ok {β : Nat → Nat} {ρ : Operand → Value} (hh : holds s ch) : ∀ {l : List Operand} {vs : List Value}, vals s ch l = some vs → (∀ x ∈ l, Opnd β s ρ x) → l.map ρ = vs
  | [], vs, h, _ => by cases h; rfl
  | x :: l, vs, h, ho => by
    simp only [vals] at h
    split at h
    · rename_i v r hv hr
      cases h
      simp only [List.map_cons]
      rw [ev_ok (ho x (List.mem_cons_self ..)) hh hv, vals_ok hh hr fun y hy => ho y (List.mem_cons_of_mem _ hy)]
      rfl
    · cases h

theorem pairs_ok {β : Nat → Nat} {ρ : Operand → Value} (hh : holds s ch) : ∀ {l : List (Nat × Operand)} {vs : List (Nat × Value)}, pairs s ch l = some vs → (∀ x ∈ l.map (·.2), Opnd β s ρ x) →
    l.map (fun p => (p.1, ρ p.2)) = vs
  | [], vs, h, _ => by cases h; rfl
  | (i, x) :: l, vs, h, ho => by
    simp only [pairs] at h
    split at h
    · rename_i v r hv hr
      cases h
      simp only [List.map_cons]
      rw [ev_ok (ho x (by simp)) hh hv, pairs_ok hh hr fun y hy => ho y (by simp at hy ⊢; exact .inr hy)]
      rfl
    · cases h

theorem evPick_ok {β : Nat → Nat} {ρ : Operand → Value} {x : Operand} {t : Nat} {w : Bool} {l : LV} (ho : Opnd β s ρ x) (hh : holds s ch) (hb' : hb s t = some w)
    (he : evPick s ch t w x = some l) : ρ x = LVal β l := by
  cases x with
  | tmp u =>
    simp only [evPick] at he
    split at he
    · rename_i l' c hf
      cases hs : sufx c ((t, w) :: ch) with
      | false => simp [hs] at he
      | true =>
        simp only [hs, cond_true] at he
        cases he
        refine ho l c hf (holds_sufx hs fun p hp => ?_)
        rcases List.mem_cons.1 hp with rfl | hp
        · exact hb'
        · exact hh p hp
    · cases he
  | const v => cases he; exact ho
  | global g => cases he
  | func f => cases he

theorem val_pick {x a b : Operand} (hop : o.op = .pick x a b) (hv : pickW s ch x a b K) : ValOk P tb o ch s h K := by
  unfold pickW at hv
  split at hv
  · rename_i t
    split at hv
    · rename_i p c0 hf
      cases hs : sufx c0 ch with
      | false => simp [hs] at hv
      | true =>
        simp only [hs, cond_true] at hv
        have hbp : hb s t = some p := by simp [hb, hf]
        have hx : holds s ch → ∀ (β : Nat → Nat) (ρ : Operand → Value), (∀ x ∈ o.op.operands, Opnd β s ρ x) → ρ (.tmp t) = .bool p := fun hh β ρ ho =>
          ho (.tmp t) (by simp [hop, Op.operands]) _ _ hf (holds_sufx hs hh)
        have run : ∀ (ρ : Operand → Value) (w : World), ρ (.tmp t) = .bool p → (execOp ρ o).run P w = .ok (.value (if p = true then ρ a else ρ b)) w := by
          intro ρ w hp
          simp only [execOp, hop, hp, asBool, Sem.run_bind, Sem.run_pure, Result.andThen_ok]
        split at hv
        · rename_i u
          obtain ⟨v, hev, hv⟩ := onV_some hv
          split at hv
          · rename_i q
            refine valOk_same (.v (.bool (p && q))) (hv _ rfl) fun hh β ρ w ho => ?_
            rw [run ρ w (hx hh β ρ ho)]
            cases hp : p with
            | true =>
              have := evPick_ok (ho (.tmp u) (by simp [hop, Op.operands])) hh (hp ▸ hbp) hev
              simp [this, LVal]
            | false =>
              have : ρ (.const (.bool false)) = .bool false := ho (.const (.bool false)) (by simp [hop, Op.operands])
              simp [this, LVal]
          · exact hv.elim
        · rename_i u
          obtain ⟨v, hev, hv⟩ := onV_some hv
          split at hv
          · rename_i q
            refine valOk_same (.v (.bool (p || q))) (hv _ rfl) fun hh β ρ w ho => ?_
            rw [run ρ w (hx hh β ρ ho)]
            cases hp : p with
            | false =>
              have := evPick_ok (ho (.tmp u) (by simp [hop, Op.operands])) hh (hp ▸ hbp) hev
              simp [this, LVal]
            | true =>
              have : ρ (.const (.bool true)) = .bool true := ho (.const (.bool true)) (by simp [hop, Op.operands])
              simp [this, LVal]
          · exact hv.elim
        · refine valOk_same _ hv fun hh β ρ w ho => ?_
          rw [run ρ w (hx hh β ρ ho)]
          have h1 : ρ (.const (.bool true)) = .bool true := ho (.const (.bool true)) (by simp [hop, Op.operands])
          have h2 : ρ (.const (.bool false)) = .bool false := ho (.const (.bool false)) (by simp [hop, Op.operands])
          cases p <;> simp [h1, h2, LVal]
        · rename_i u v _
          refine valOk_same _ hv fun hh β ρ w ho => ?_
          rw [run ρ w (hx hh β ρ ho)]
          have h1 : ρ (.const (.bool u)) = .bool u := ho (.const (.bool u)) (by simp [hop, Op.operands])
          have h2 : ρ (.const (.bool v)) = .bool v := ho (.const (.bool v)) (by simp [hop, Op.operands])
          cases p <;> simp [h1, h2, LVal]
        · exact hv.elim
    · exact hv.elim
  · exact hv.elim

/-- One operand. -/
theorem opnd1 {x : Operand} {v : Value} (hx : ∀ (β : Nat → Nat) (ρ : Operand → Value), (∀ y ∈ o.op.operands, Opnd β s ρ y) → Opnd β s ρ x) (he : ev s ch x = some (.v v)) :
    holds s ch → ∀ (β : Nat → Nat) (ρ : Operand → Value), (∀ y ∈ o.op.operands, Opnd β s ρ y) → ρ x = v :=
  fun hh β ρ ho => ev_ok (hx β ρ ho) hh he

theorem val_extract {x : Operand} {i : Nat} (hop : o.op = .extract x i) (hv : onV (ev s ch x) fun v => match v with
    | .tuple vs => match nth vs.toList i with
      | some y => K (.v y)
      | none => False
    | _ => False) : ValOk P tb o ch s h K := by
  obtain ⟨v, he, hv'⟩ := onV_some hv
  clear hv
  split at hv'
  · rename_i vs
    split at hv'
    · rename_i y hy
      refine valOk_same (.v y) hv' fun hh β ρ w ho => ?_
      have hx := ev_ok (ho x (by simp [hop, Op.operands])) hh he
      have : vs[i]? = some y := by rw [nth_get] at hy; simpa using hy
      simp only [execOp, hop, hx, LVal, Instr.extract, this, Sem.run_bind, Sem.run_pure, Result.andThen_ok]
    · exact hv'.elim
  · exact hv'.elim

theorem val_un {op : UnOp} {t : Nat} {x : Operand} (hop : o.op = .unOp op t x) (hv : onV (ev s ch x) fun a => unW op a K) : ValOk P tb o ch s h K := by
  obtain ⟨v, he, hv'⟩ := onV_some hv
  clear hv
  unfold unW at hv'
  split at hv' <;>
    first
    | exact hv'.elim
    | refine valOk_same _ hv' fun hh β ρ w ho => ?_
      have hx := ev_ok (ho x (by simp [hop, Op.operands])) hh he
      simp [execOp, hop, hx, LVal, Op.unary, Op.intArith, Op.intBits, bitsI]

theorem val_nil {x : Operand} (hop : o.op = .nilCheck x) (hv : match ev s ch x with
    | some (.v (.pointer p)) => NilW (cnd s ch) p fun a => K (.v (.pointer (some a)))
    | some (.box k off) => K (.box k off)
    | some (.boxd k off) => K (.boxd k off)
    | _ => False) : ValOk P tb o ch s h K := by
  split at hv
  · rename_i p he
    obtain ⟨a, hr, hk⟩ := hv
    refine valOk_same _ hk fun hh β ρ w ho => ?_
    have hx := ev_ok (ho x (by simp [hop, Op.operands])) hh he
    have hp := req_cnd hr hh
    subst hp
    simp [execOp, hop, hx, LVal]
  · rename_i k off he
    refine valOk_same _ hv (fun hh β ρ w ho => ?_) (prov_ev (by simp [hop, Op.operands]) he)
    have hx := ev_ok (ho x (by simp [hop, Op.operands])) hh he
    simp [execOp, hop, hx, LVal]
  · rename_i k off he
    refine valOk_same _ hv (fun hh β ρ w ho => ?_) (prov_ev (by simp [hop, Op.operands]) he)
    have hx := ev_ok (ho x (by simp [hop, Op.operands])) hh he
    simp [execOp, hop, hx, LVal]
  · exact hv.elim

theorem partW_some {t : Nat} {cs : List Value} {off : Nat} (hv : partW tb t cs off K) :
    ∃ e v, tb.ty t = some e ∧ K (.v v) ∧ ((isAggD e.und = true ∧ v = .agg ((cs.drop off).take e.size).toArray ∧ off + e.size ≤ cs.length) ∨ (isAggD e.und = false ∧ cs[off]? = some v)) := by
  unfold partW at hv
  split at hv
  · rename_i e he
    cases ha : isAggD e.und with
    | true =>
      simp only [ha, cond_true, dropL_eq, takeL_eq] at hv
      cases hl : Nat.ble (off + e.size) cs.length with
      | false => simp [hl] at hv
      | true =>
        simp only [hl, cond_true] at hv
        exact ⟨e, _, he, hv, .inl ⟨ha, rfl, Nat.le_of_ble_eq_true hl⟩⟩
    | false =>
      simp only [ha, cond_false, nth_get] at hv
      split at hv
      · rename_i v hc
        exact ⟨e, v, he, hv, .inr ⟨ha, hc⟩⟩
      · exact hv.elim
  · exact hv.elim

/-- A private variable is read. -/
theorem run_loadBox (ok : tb.Ok P) {t : Nat} {cs : List Value} {off b ct : Nat} {e : Ty} {v : Value} {w : World} (he : tb.ty t = some e)
    (hv : (isAggD e.und = true ∧ v = .agg ((cs.drop off).take e.size).toArray ∧ off + e.size ≤ cs.length) ∨ (isAggD e.und = false ∧ cs[off]? = some v))
    (hb : w.heap[b]? = some (.cells cs.toArray ct (0, 0))) : (loadVar t ⟨b, off, none⟩).run P w = .ok v w := by
  simp only [loadVar, Sem.run_bind, run_isAgg' ok he, Result.andThen_ok]
  rcases hv with ⟨ha, hv, hl⟩ | ⟨ha, hv⟩
  · have hlen : ((cs.drop off).take e.size).length = e.size := by simp; omega
    have hc : ∀ j v, ((cs.drop off).take e.size)[j]? = some v → w.cell? ((⟨b, off, none⟩ : Addr).add j) = some v := by
      intro j v hj
      rw [box_add, box_cell hb]
      rw [List.getElem?_take] at hj
      split at hj
      · simpa using hj
      · cases hj
    rw [ha]
    simp only [if_true, Sem.run_bind, run_sizeOf' ok he, Result.andThen_ok]
    conv => lhs; rw [← hlen]
    rw [run_loadCells hc]
    simp [hv]
  · have := box_cell hb off
    rw [hv] at this
    simp [ha, this]

theorem val_load (ok : tb.Ok P) {t : Nat} {x : Operand} (hop : o.op = .load t x) (hv : match ev s ch x with
    | some (.v (.pointer (some a))) => match tb.ty t with
      | some e => LdW (cnd s ch) e.sh h a fun x => K (.v (e.sh.enc x))
      | none => False
    | some (.box k off) => match s.m k with
      | some cs => partW tb t cs off K
      | none => False
    | some (.boxd k off) => match s.m k, tb.ty t with
      | some cs, some e => cond (isAggD e.und) False (∃ x, Req (cnd s ch) (cs[off]? = some (e.sh.enc x)) ∧ K (.v (e.sh.enc x)))
      | _, _ => False
    | _ => False) : ValOk P tb o ch s h K := by
  have run : ∀ (ρ : Operand → Value) (w : World) (a : Addr) (v : Value), ρ x = .pointer (some a) → (loadVar t a).run P w = .ok v w → (execOp ρ o).run P w = .ok (.value v) w := by
    intro ρ w a v hx hr
    simp only [execOp, hop, hx, Instr.loadAt, Instr.sureAddr, Sem.run_bind, Sem.run_pure, Result.andThen_ok, hr]
  split at hv
  · rename_i a he
    split at hv
    · rename_i e hte
      obtain ⟨y, hr, hk⟩ := hv
      refine valOk_mem (by simp [kindD, hop, he]) _ hk fun hh β ρ w ho hs => ?_
      have hx := ev_ok (ho x (by simp [hop, Op.operands])) hh he
      exact run ρ w a _ hx (run_loadVar ok hte fun j v hj => hcell_sub hs (req_cnd hr hh j v hj))
    · exact hv.elim
  · rename_i k off he
    split at hv
    · rename_i cs hm
      obtain ⟨e, v, hte, hk, hc⟩ := partW_some hv
      refine valOk_box (by simp [kindD, hop, he]) _ hk fun hh β ρ w ho hb => ?_
      have hx := ev_ok (ho x (by simp [hop, Op.operands])) hh he
      obtain ⟨ct, hbk⟩ := hb.box (by simp [hop, Op.operands]) he hh hm
      exact run ρ w _ _ hx (run_loadBox ok hte hc hbk)
    · exact hv.elim
  · rename_i k off he
    split at hv
    · rename_i cs e hm hte
      cases ha : isAggD e.und with
      | true => simp [ha] at hv
      | false =>
        simp only [ha, cond_false] at hv
        obtain ⟨y, hr, hk⟩ := hv
        refine valOk_box (by simp [kindD, hop, he]) _ hk fun hh β ρ w ho hb => ?_
        have hx := ev_ok (ho x (by simp [hop, Op.operands])) hh he
        obtain ⟨ct, hbk⟩ := hb.boxd (by simp [hop, Op.operands]) he hh hm
        exact run ρ w _ _ hx (run_loadBox ok hte (.inr ⟨ha, req_cnd hr hh⟩) hbk)
    · exact hv.elim
  · exact hv.elim

theorem fieldOf_some {t i : Nat} {Q : Nat → Nat → Prop} (hv : fieldOf tb t i Q) :
    ∃ e fs f g, tb.ty t = some e ∧ e.und = .struct fs ∧ fs[i]? = some f ∧ tb.ty f.type = some g ∧ g.size ≠ 0 ∧ Q f.offset g.size := by
  unfold fieldOf at hv
  split at hv
  · rename_i e he
    split at hv
    · rename_i fs hfs
      split at hv
      · rename_i f hf
        split at hv
        · rename_i g hg
          split at hv
          · exact hv.elim
          · rename_i n hn
            refine ⟨e, fs, f, g, he, hfs, by rw [nth_get] at hf; simpa using hf, hg, by omega, hn ▸ hv⟩
        · exact hv.elim
      · exact hv.elim
    · exact hv.elim
  · exact hv.elim

theorem val_fieldAddr (ok : tb.Ok P) {t i : Nat} {x : Operand} (hop : o.op = .fieldAddr t x i) (hv : fieldOf tb t i fun off _ => match ev s ch x with
    | some (.v (.pointer (some a))) => K (.v (.pointer (some (a.add off))))
    | some (.box k o) => K (.box k (o + off))
    | some (.boxd k o) => K (.boxd k (o + off))
    | _ => False) : ValOk P tb o ch s h K := by
  obtain ⟨e, fs, f, g, he, hfs, hf, hg, hz, hq⟩ := fieldOf_some hv
  have run : ∀ (ρ : Operand → Value) (w : World) (a : Addr), ρ x = .pointer (some a) → (execOp ρ o).run P w = .ok (.value (.pointer (some (a.add f.offset)))) w := by
    intro ρ w a hx
    have hu := run_underlying' ok he w
    rw [hfs] at hu
    have hsz := run_sizeOf' ok hg w
    simp only [execOp, hop, hx, Instr.fieldAt, Instr.sureAddr, Sem.run_bind, hu, Result.andThen_ok, hf, Sem.run_pure, fieldPlace, hsz, if_neg hz]
  split at hq
  · rename_i a hea
    refine valOk_same _ hq fun hh β ρ w ho => ?_
    exact run ρ w a (ev_ok (ho x (by simp [hop, Op.operands])) hh hea)
  · rename_i k o' hea
    refine valOk_same _ hq (fun hh β ρ w ho => ?_) (prov_box (by simp [hop, Op.operands]) hea (by intro k' off' e; rcases e with e | e <;> cases e <;> rfl))
    rw [run ρ w _ (ev_ok (ho x (by simp [hop, Op.operands])) hh hea), box_add]
    rfl
  · rename_i k o' hea
    refine valOk_same _ hq (fun hh β ρ w ho => ?_) (prov_boxd (by simp [hop, Op.operands]) hea (by intro k' off' e; rcases e with e | e <;> cases e <;> rfl))
    rw [run ρ w _ (ev_ok (ho x (by simp [hop, Op.operands])) hh hea), box_add]
    rfl
  · exact hq.elim

theorem run_part (ok : tb.Ok P) {t : Nat} {cs : List Value} {off : Nat} {e : Ty} {v : Value} {w : World} (he : tb.ty t = some e)
    (hv : (isAggD e.und = true ∧ v = .agg ((cs.drop off).take e.size).toArray ∧ off + e.size ≤ cs.length) ∨ (isAggD e.und = false ∧ cs[off]? = some v)) :
    (part t cs.toArray off).run P w = .ok v w := by
  simp only [part, Sem.run_bind, run_isAgg' ok he, Result.andThen_ok]
  rcases hv with ⟨ha, hv, _⟩ | ⟨ha, hv⟩
  · simp only [ha, if_true, Sem.run_bind, run_sizeOf' ok he, Result.andThen_ok, Sem.run_pure, hv]
    congr 2
    apply Array.ext'
    simp
  · simp [ha, hv]

theorem val_field (ok : tb.Ok P) {t i : Nat} {x : Operand} (hop : o.op = .field t x i) (hv : match tb.ty t with
    | some e => match e.und with
      | .struct fs => match nth fs.toList i with
        | some f => onV (ev s ch x) fun v => match v with
          | .agg cs => partW tb f.type cs.toList f.offset K
          | _ => False
        | none => False
      | _ => False
    | none => False) : ValOk P tb o ch s h K := by
  split at hv
  · rename_i e he
    split at hv
    · rename_i fs hfs
      split at hv
      · rename_i f hf
        obtain ⟨v, hev, hv'⟩ := onV_some hv
        clear hv
        split at hv'
        · rename_i cs
          obtain ⟨g, y, hg, hk, hc⟩ := partW_some hv'
          refine valOk_same _ hk fun hh β ρ w ho => ?_
          have hx := ev_ok (ho x (by simp [hop, Op.operands])) hh hev
          have hu := run_underlying' ok he w
          rw [hfs] at hu
          have hf' : fs[i]? = some f := by rw [nth_get] at hf; simpa using hf
          have hp := run_part (w := w) ok hg hc
          simp only [Array.toArray_toList] at hp
          simp only [execOp, hop, hx, LVal, Instr.field, Sem.run_bind, hu, Result.andThen_ok, hf', asAgg, Sem.run_pure, hp]
        · exact hv'.elim
      · exact hv.elim
    · exact hv.elim
  · exact hv.elim

end
end Lf

/-
  The lifting layer, part 8: the rest of the operations that change nothing.
-/
namespace Lf
open Go

section
variable {P : Program} {tb : Tb} {o : Oper} {ch : Chain} {s : St} {h : Hp} {K : LV → Prop}

theorem elemS_some {t : Nat} {g : Ty} (h : elemS tb t = some g) : ∃ e u, tb.ty t = some e ∧ e.und = .slice u ∧ tb.ty u = some g := by
  unfold elemS at h
  split at h
  · rename_i e he
    split at h
    · rename_i u hu
      exact ⟨e, u, he, hu, h⟩
    · cases h
  · cases h

theorem elemA_some {t n : Nat} {g : Ty} (h : elemA tb t = some (n, g)) : ∃ e u, tb.ty t = some e ∧ e.und = .array n u ∧ tb.ty u = some g := by
  unfold elemA at h
  split at h
  · rename_i e he
    split at h
    · rename_i m u hu
      split at h
      · rename_i g' hg
        cases h
        exact ⟨e, u, he, hu, hg⟩
      · cases h
    · cases h
  · cases h

theorem val_indexAddr (ok : tb.Ok P) {t : Nat} {x i : Operand} (hop : o.op = .indexAddr t x i) (hv : match ev s ch x, ev s ch i with
    | some (.v (.slice base len _)), some (.v (.int _ n)) => match elemS tb t with
      | some e => Req (cnd s ch) (InB base len n) ∧ K (.v (.pointer (some (sat base e.size n))))
      | none => False
    | some (.v (.pointer (some a))), some (.v (.int _ n)) => match elemA tb t with
      | some (len, e) => Req (cnd s ch) (0 ≤ n ∧ n < (len : Int)) ∧ K (.v (.pointer (some (a.add (n.toNat * e.size)))))
      | none => False
    | some (.box k off), some (.v (.int _ n)) => match elemA tb t with
      | some (len, e) => Req (cnd s ch) (0 ≤ n ∧ n < (len : Int)) ∧ cond (isConstOp i) (K (.box k (off + n.toNat * e.size))) (K (.boxd k (off + n.toNat * e.size)))
      | none => False
    | _, _ => False) : ValOk P tb o ch s h K := by
  have runA : ∀ (ρ : Operand → Value) (w : World) (a : Addr) (k : IntKind) (n : Int) (len : Nat) (e : Ty), elemA tb t = some (len, e) → ρ x = .pointer (some a) → ρ i = .int k n → 0 ≤ n ∧ n < (len : Int) →
      (execOp ρ o).run P w = .ok (.value (.pointer (some (a.add (n.toNat * e.size))))) w := by
    intro ρ w a k n len e hel hx hi hb
    obtain ⟨y, u, hy, hu, hg⟩ := elemA_some hel
    have hun := run_underlying' ok hy w
    have hsz := run_sizeOf' ok hg w
    rw [hu] at hun
    simp only [execOp, hop, hx, hi, Instr.indexAt, asIntOf, Instr.sureAddr, Sem.run_bind, Sem.run_pure, Result.andThen_ok, hun, if_pos hb, hsz]
  split at hv
  · rename_i base len c k n hex hei
    split at hv
    · rename_i e hel
      obtain ⟨y, u, hy, hu, hg⟩ := elemS_some hel
      refine valOk_same _ hv.2 fun hh β ρ w ho => ?_
      have hx := ev_ok (ho x (by simp [hop, Op.operands])) hh hex
      have hi := ev_ok (ho i (by simp [hop, Op.operands])) hh hei
      obtain ⟨hbase, h0, h1⟩ := req_cnd hv.1 hh
      obtain ⟨a, rfl⟩ : ∃ a, base = some a := Option.ne_none_iff_exists'.1 hbase
      have hun := run_underlying' ok hy w
      have hsz := run_sizeOf' ok hg w
      rw [hu] at hun
      simp only [execOp, hop, hx, hi, LVal, Instr.indexAt, asIntOf, Sem.run_bind, Sem.run_pure, Result.andThen_ok, hun, if_pos (And.intro h0 h1), hsz, sat, Option.getD_some]
    · exact hv.elim
  · rename_i a k n hex hei
    split at hv
    · rename_i len e hel
      refine valOk_same _ hv.2 fun hh β ρ w ho => ?_
      exact runA ρ w a k n len e hel (ev_ok (ho x (by simp [hop, Op.operands])) hh hex) (ev_ok (ho i (by simp [hop, Op.operands])) hh hei) (req_cnd hv.1 hh)
    · exact hv.elim
  · rename_i k' off k n hex hei
    split at hv
    · rename_i len e hel
      have main : ∀ l : LV, (∀ β, LVal β l = .pointer (some ⟨β k', off + n.toNat * e.size, none⟩)) → (∀ k1 off', (l = .box k1 off' ∨ l = .boxd k1 off') → k1 = k') → K l → ValOk P tb o ch s h K := fun l hl hb hk =>
        valOk_same l hk (fun hh β ρ w ho => by
          rw [runA ρ w _ k n len e hel (ev_ok (ho x (by simp [hop, Op.operands])) hh hex) (ev_ok (ho i (by simp [hop, Op.operands])) hh hei) (req_cnd hv.1 hh), box_add, hl]) (prov_box (by simp [hop, Op.operands]) hex hb)
      cases hc : isConstOp i with
      | true => exact main (.box k' (off + n.toNat * e.size)) (fun _ => rfl) (by intro k' off' e; rcases e with e | e <;> cases e <;> rfl) (by simpa [hc] using hv.2)
      | false => exact main (.boxd k' (off + n.toNat * e.size)) (fun _ => rfl) (by intro k' off' e; rcases e with e | e <;> cases e <;> rfl) (by simpa [hc] using hv.2)
    · exact hv.elim
  · exact hv.elim

theorem val_index (ok : tb.Ok P) {t : Nat} {x i : Operand} (hop : o.op = .index t x i) (hv : match ev s ch x, ev s ch i with
    | some (.v (.string b)), some (.v (.int _ n)) => match tb.ty t with
      | some y => match y.und with
        | .string => Req (cnd s ch) (0 ≤ n ∧ n < (b.size : Int)) ∧ K (.v (.int .u8 ((b.data.toList.getD n.toNat 0).toNat : Int)))
        | _ => False
      | none => False
    | some (.v (.agg cs)), some (.v (.int _ n)) => idxW (cnd s ch) tb t cs.toList n K
    | _, _ => False) : ValOk P tb o ch s h K := by
  split at hv
  · rename_i b k n hex hei
    split at hv
    · rename_i y hy
      split at hv
      · rename_i hu
        refine valOk_same _ hv.2 fun hh β ρ w ho => ?_
        have hx := ev_ok (ho x (by simp [hop, Op.operands])) hh hex
        have hi := ev_ok (ho i (by simp [hop, Op.operands])) hh hei
        obtain ⟨h0, h1⟩ := req_cnd hv.1 hh
        have hun := run_underlying' ok hy w
        rw [hu] at hun
        have hlt : n.toNat < b.size := by omega
        have hget : b[n.toNat]? = some (b.data.toList.getD n.toNat 0) := by
          rw [getElem?_pos b n.toNat hlt]
          congr 1
          have : n.toNat < b.data.toList.length := by simpa using hlt
          rw [List.getD_eq_getElem?_getD, List.getElem?_eq_getElem this]
          rfl
        simp only [execOp, hop, hx, hi, LVal, Instr.index, asIntOf, Sem.run_bind, Sem.run_pure, Result.andThen_ok, hun, if_pos h0, hget]
      · exact hv.elim
    · exact hv.elim
  · rename_i cs k n hex hei
    unfold idxW at hv
    split at hv
    · rename_i len e hel
      obtain ⟨y, u, hy, hu, hg⟩ := elemA_some hel
      cases ha : isAggD e.und with
      | true => simp only [ha, cond_true] at hv
      | false =>
        simp only [ha, cond_false] at hv
        obtain ⟨hb, z, hz, hk⟩ := hv
        refine valOk_same _ hk fun hh β ρ w ho => ?_
        have hx := ev_ok (ho x (by simp [hop, Op.operands])) hh hex
        have hi := ev_ok (ho i (by simp [hop, Op.operands])) hh hei
        have hun := run_underlying' ok hy w
        have hsz := run_sizeOf' ok hg w
        have hp := run_part ok (w := w) (cs := cs.toList) hg (.inr ⟨ha, req_cnd hz hh⟩)
        rw [hu] at hun
        simp only [Array.toArray_toList] at hp
        simp only [execOp, hop, hx, hi, LVal, Instr.index, asIntOf, Sem.run_bind, Sem.run_pure, Result.andThen_ok, hun, if_pos (req_cnd hb hh), hsz, hp]
    · exact hv.elim
  · exact hv.elim

theorem optI_run {β : Nat → Nat} {ρ : Operand → Value} (hh : holds s ch) {x : Option Operand} {r : Option Int} (he : optI s ch x = some r) (ho : ∀ y, x = some y → Opnd β s ρ y) :
    (x = none ∧ r = none) ∨ ∃ y k n, x = some y ∧ ρ y = .int k n ∧ r = some n := by
  cases x with
  | none => cases he; exact .inl ⟨rfl, rfl⟩
  | some y =>
    simp only [optI] at he
    split at he
    · rename_i k n hy
      cases he
      exact .inr ⟨y, k, n, rfl, ev_ok (ho y rfl) hh hy, rfl⟩
    · cases he

theorem run_bound {k : IntKind} {n : Int} {m : Nat} {c : BoundsCode} {w : World} (h0 : 0 ≤ n) (h1 : n ≤ (m : Int)) : (Instr.sliceBound (.int k n) m c).run P w = .ok n.toNat w := by
  simp only [Instr.sliceBound, asIntOf, Sem.run_bind, Sem.run_pure, Result.andThen_ok, if_pos (And.intro h0 h1)]

theorem slB_run {c : Option Bool} {isS : Bool} {len cap : Nat} {lo hi mx : Option Int} {Q : Nat → Nat → Nat → Prop} (hv : slB c isS len cap lo hi mx Q) :
    ∃ l x m, Q l x m ∧ ((c = none ∨ (c = some true)) → ∀ (vl vh vm : Option Value), (lo = none ∧ vl = none ∨ ∃ k n, lo = some n ∧ vl = some (.int k n)) →
      (hi = none ∧ vh = none ∨ ∃ k n, hi = some n ∧ vh = some (.int k n)) → (mx = none ∧ vm = none ∨ ∃ k n, mx = some n ∧ vm = some (.int k n)) →
      ∀ w : World, (Instr.sliceBounds isS len cap vl vh vm).run P w = .ok (l, x, m) w) := by
  have rq : ∀ {p : Prop}, Req c p → (c = none ∨ c = some true) → p := by
    intro p hr hc
    rcases hc with hc | hc <;> subst hc
    · exact hr
    · exact hr rfl
  unfold slB at hv
  split at hv
  · refine ⟨_, _, _, hv, fun hc vl vh vm h1 h2 h3 w => ?_⟩
    simp at h1 h2 h3; subst h1; subst h2; subst h3
    simp [Instr.sliceBounds]
  · rename_i l
    refine ⟨_, _, _, hv.2, fun hc vl vh vm h1 h2 h3 w => ?_⟩
    obtain ⟨a0, a1⟩ := rq hv.1 hc
    simp at h1 h2 h3; subst h2; subst h3; obtain ⟨k, rfl⟩ := h1
    simp [Instr.sliceBounds, run_bound a0 a1]
  · rename_i x
    refine ⟨_, _, _, hv.2, fun hc vl vh vm h1 h2 h3 w => ?_⟩
    obtain ⟨a0, a1⟩ := rq hv.1 hc
    simp at h1 h2 h3; subst h1; subst h3; obtain ⟨k, rfl⟩ := h2
    simp [Instr.sliceBounds, run_bound a0 a1]
  · rename_i l x
    refine ⟨_, _, _, hv.2, fun hc vl vh vm h1 h2 h3 w => ?_⟩
    obtain ⟨a0, a1, a2⟩ := rq hv.1 hc
    simp at h1 h2 h3; subst h3; obtain ⟨k, rfl⟩ := h1; obtain ⟨k', rfl⟩ := h2
    have e : (x.toNat : Int) = x := Int.toNat_of_nonneg (by omega)
    simp [Instr.sliceBounds, run_bound (Int.le_trans a0 a1) a2, run_bound (n := l) (m := x.toNat) a0 (by omega)]
  · rename_i x m
    refine ⟨_, _, _, hv.2, fun hc vl vh vm h1 h2 h3 w => ?_⟩
    obtain ⟨a0, a1, a2⟩ := rq hv.1 hc
    simp at h1 h2 h3; subst h1; obtain ⟨k, rfl⟩ := h2; obtain ⟨k', rfl⟩ := h3
    simp [Instr.sliceBounds, run_bound (n := m) (Int.le_trans a0 a1) a2, run_bound (n := x) (m := m.toNat) a0 (by omega)]
  · rename_i l x m
    refine ⟨_, _, _, hv.2, fun hc vl vh vm h1 h2 h3 w => ?_⟩
    obtain ⟨a0, a1, a2, a3⟩ := rq hv.1 hc
    simp at h1 h2 h3; obtain ⟨k, rfl⟩ := h1; obtain ⟨k', rfl⟩ := h2; obtain ⟨k'', rfl⟩ := h3
    simp [Instr.sliceBounds, run_bound (n := m) (by omega) a3, run_bound (n := x) (m := m.toNat) (by omega) (by omega), run_bound (n := l) (m := x.toNat) a0 (by omega)]
  · simp at hv

end
end Lf

/-
  The lifting layer, part 9: slices, literals, looks into maps; all operations that change nothing.
-/
namespace Lf
open Go

section
variable {P : Program} {tb : Tb} {o : Oper} {ch : Chain} {s : St} {h : Hp} {K : LV → Prop}

theorem cnd_holds (hh : holds s ch) : cnd s ch = none ∨ cnd s ch = some true := by
  cases ch with
  | nil => exact .inl rfl
  | cons q r =>
    obtain ⟨t, w⟩ := q
    obtain ⟨b, hb, hi⟩ := cnd_cons (s := s) t w r
    rw [hb, hi hh]
    exact .inr rfl

theorem val_slice (ok : tb.Ok P) {t : Nat} {x : Operand} {lo hi mx : Option Operand} (hop : o.op = .slice t x lo hi mx) (hv : onV (ev s ch x) fun v => match optI s ch lo, optI s ch hi, optI s ch mx with
    | some lo, some hi, some mx => sliceW (cnd s ch) tb t v lo hi mx K
    | _, _, _ => False) : ValOk P tb o ch s h K := by
  obtain ⟨v, hev, hv'⟩ := onV_some hv
  clear hv
  split at hv'
  · rename_i l n m hl hn hm
    have opt : holds s ch → ∀ (β : Nat → Nat) (ρ : Operand → Value), (∀ x ∈ o.op.operands, Opnd β s ρ x) → ∀ {y : Option Operand} {r : Option Int}, optI s ch y = some r → (∀ z, y = some z → z ∈ o.op.operands) →
        (r = none ∧ y.map ρ = none ∨ ∃ k n, r = some n ∧ y.map ρ = some (.int k n)) := by
      intro hh β ρ ho y r he hm
      rcases optI_run hh he (fun z hz => ho z (hm z hz)) with ⟨h1, h2⟩ | ⟨z, k, n, h1, h2, h3⟩
      · exact .inl ⟨h2, by rw [h1]; rfl⟩
      · exact .inr ⟨k, n, h3, by rw [h1]; simp [h2]⟩
    unfold sliceW at hv'
    split at hv'
    · rename_i base len cap
      split at hv'
      · rename_i e hel
        obtain ⟨y, u, hy, hu, hg⟩ := elemS_some hel
        obtain ⟨l', x', m', hq, hrun⟩ := slB_run (P := P) hv'
        refine valOk_same _ (hq _ rfl) fun hh β ρ w ho => ?_
        have hx := ev_ok (ho x (by simp [hop, Op.operands])) hh hev
        have hun := run_underlying' ok hy w
        have hsz := run_sizeOf' ok hg w
        rw [hu] at hun
        have hr := hrun (cnd_holds hh) _ _ _ (opt hh β ρ ho hl (by intro z hz; simp [hop, Op.operands, hz])) (opt hh β ρ ho hn (by intro z hz; simp [hop, Op.operands, hz]))
          (opt hh β ρ ho hm (by intro z hz; simp [hop, Op.operands, hz])) w
        simp only [execOp, hop, hx, LVal, Instr.sliceAt, Instr.slice, Sem.run_bind, hun, Result.andThen_ok, hr, hsz, Sem.run_pure, sbase]
      · exact hv'.elim
    · rename_i b
      split at hv'
      · rename_i e hy
        split at hv'
        · rename_i hu
          obtain ⟨l', x', m', hq, hrun⟩ := slB_run (P := P) hv'
          refine valOk_same _ hq fun hh β ρ w ho => ?_
          have hx := ev_ok (ho x (by simp [hop, Op.operands])) hh hev
          have hun := run_underlying' ok hy w
          rw [hu] at hun
          have hmx : mx = none := by
            cases mx with
            | none => rfl
            | some z => simp only [optI] at hm; split at hm <;> cases hm
          have hr := hrun (cnd_holds hh) _ _ none (opt hh β ρ ho hl (by intro z hz; simp [hop, Op.operands, hz])) (opt hh β ρ ho hn (by intro z hz; simp [hop, Op.operands, hz])) (.inl ⟨rfl, rfl⟩) w
          subst hmx
          simp [execOp, hop, hx, LVal, Instr.sliceAt, Instr.slice, hun, hr]
        · exact hv'.elim
      · exact hv'.elim
    · exact hv'.elim
  · exact hv'.elim

theorem val_iface (ok : tb.Ok P) {t : Nat} {x : Operand} (hop : o.op = .makeInterface t x) (hv : onV (ev s ch x) fun v => match tb.ty t with
    | some e => match e.und with
      | .interface _ => False
      | _ => K (.v (.iface t v))
    | none => False) : ValOk P tb o ch s h K := by
  obtain ⟨v, hev, hv'⟩ := onV_some hv
  clear hv
  split at hv'
  · rename_i e he
    have run : (∀ ms, e.und ≠ .interface ms) → K (.v (.iface t v)) → ValOk P tb o ch s h K := fun hne hk =>
      valOk_same _ hk fun hh β ρ w ho => by
        have hx := ev_ok (ho x (by simp [hop, Op.operands])) hh hev
        have hun := run_underlying' ok he w
        simp only [execOp, hop, hx, LVal, Instr.makeInterface, Sem.run_bind, hun, Result.andThen_ok]
        cases hu : e.und <;> first | exact absurd hu (hne _) | rfl
    split at hv'
    · exact hv'.elim
    · rename_i hne; exact run (fun ms h => hne ms h) hv'
  · exact hv'.elim

theorem val_func {fn : Fn} {first captured : Array Operand} (hop : o.op = .makeFunc fn first captured)
    (hv : onVs (vals s ch first.toList) fun a => onVs (vals s ch captured.toList) fun b => K (.v (.func fn a.toArray b.toArray))) : ValOk P tb o ch s h K := by
  obtain ⟨a, ha, hv1⟩ := onVs_some hv
  obtain ⟨b, hb, hk⟩ := onVs_some hv1
  refine valOk_same _ hk fun hh β ρ w ho => ?_
  have h1 := vals_ok (β := β) (ρ := ρ) hh ha fun x hx => ho x (by simp [hop, Op.operands]; simp at hx; exact .inl hx)
  have h2 := vals_ok (β := β) (ρ := ρ) hh hb fun x hx => ho x (by simp [hop, Op.operands]; simp at hx; exact .inr hx)
  have e1 : first.map ρ = a.toArray := by apply Array.ext'; simpa using h1
  have e2 : captured.map ρ = b.toArray := by apply Array.ext'; simpa using h2
  simp only [execOp, hop, Instr.makeFunc, Sem.run_bind, Sem.run_pure, Result.andThen_ok, e1, e2, LVal]

theorem val_convert (ok : tb.Ok P) {src dst : Nat} {x : Operand} (hop : o.op = .convert src dst x) (hv : onV (ev s ch x) fun v => match tb.ty src, tb.ty dst, v with
    | some _, some e, .int _ n => match e.und with
      | .int k => K (.v (.int k (k.wrap n)))
      | _ => genV (cnd s ch) P tb dst (convert src dst v) h K
    | some _, some _, v => genV (cnd s ch) P tb dst (convert src dst v) h K
    | _, _, _ => False) : ValOk P tb o ch s h K := by
  obtain ⟨v, hev, hv'⟩ := onV_some hv
  clear hv
  have hex : holds s ch → ∀ (β : Nat → Nat) (ρ : Operand → Value), (∀ x ∈ o.op.operands, Opnd β s ρ x) → ∀ (w w' : World) (u : Value), (convert src dst v).run P w = .ok u w' → (execOp ρ o).run P w = .ok (.value u) w' := by
    intro hh β ρ ho w w' u hr
    have hx := ev_ok (ho x (by simp [hop, Op.operands])) hh hev
    simp only [execOp, hop, hx, LVal, Sem.run_bind, hr, Result.andThen_ok, Sem.run_pure]
  split at hv'
  · rename_i e0 e k n hs hd
    split at hv'
    · rename_i k' hu
      refine valOk_same _ hv' fun hh β ρ w ho => hex hh β ρ ho w w _ ?_
      have h1 := run_underlying' ok hs w
      have h2 := run_underlying' ok hd w
      rw [hu] at h2
      generalize e0.und = u0 at h1
      simp only [convert, Sem.run_bind, h1, h2, Result.andThen_ok]
      cases u0 <;> rfl
    · exact val_gen (by simp_all [kindD]) hv' fun hh β ρ ho w w' u hr => hex hh β ρ ho w w' u hr
  · exact val_gen (by simp_all [kindD]) hv' fun hh β ρ ho w w' u hr => hex hh β ρ ho w w' u hr
  · exact hv'.elim

/-! Literals -/
theorem layL_eq : ∀ (l : List Value) (i : Nat) (new : List Value), i + new.length ≤ l.length → layL l i new = l.take i ++ new ++ l.drop (i + new.length)
  | l, 0, [], _ => by cases l <;> simp [layL]
  | [], 0, b :: new, h => by simp at h
  | a :: l, 0, b :: new, h => by
    have := layL_eq l 0 new (by simp at h ⊢; omega)
    simp only [layL, this]
    simp
  | [], n + 1, new, h => by simp at h
  | a :: l, n + 1, new, h => by
    have := layL_eq l n new (by simp at h ⊢; omega)
    simp only [layL, this]
    simp [show n + 1 + new.length = n + new.length + 1 from by omega]

theorem layL_length (l : List Value) (i : Nat) (new : List Value) (h : i + new.length ≤ l.length) : (layL l i new).length = l.length := by
  rw [layL_eq l i new h]; simp; omega

theorem fold_lay : ∀ (new : List Value) (k : Nat) (l : List Value) (off : Nat), off + k + new.length ≤ l.length →
    ((new.zipIdx k).foldl (fun (cs : Array Value) (p : Value × Nat) => cs.setIfInBounds (off + p.2) p.1) l.toArray).toList = l.take (off + k) ++ new ++ l.drop (off + k + new.length)
  | [], k, l, off, _ => by simp
  | v :: new, k, l, off, h => by
    simp only [List.zipIdx_cons, List.foldl_cons]
    have h' : off + (k + 1) + new.length ≤ (l.set (off + k) v).length := by simp at h ⊢; omega
    have := fold_lay new (k + 1) (l.set (off + k) v) off h'
    rw [show (l.toArray.setIfInBounds (off + k) v) = (l.set (off + k) v).toArray by simp]
    rw [this]
    simp at h
    apply List.ext_getElem?
    intro j
    simp only [List.getElem?_append, List.length_append, List.length_take, List.length_set, List.length_cons, List.getElem?_take, List.getElem?_drop, List.getElem?_set]
    rcases Nat.lt_trichotomy j (off + k) with hj | hj | hj
    · have e1 : j < min (off + (k + 1)) l.length + new.length := by omega
      have e2 : j < min (off + (k + 1)) l.length := by omega
      have e3 : j < off + (k + 1) := by omega
      have e4 : ¬ off + k = j := by omega
      have e5 : j < min (off + k) l.length + (new.length + 1) := by omega
      have e6 : j < min (off + k) l.length := by omega
      simp [e1, e2, e3, e4, e5, e6, hj]
    · subst hj
      have e1 : off + k < min (off + (k + 1)) l.length + new.length := by omega
      have e2 : off + k < min (off + (k + 1)) l.length := by omega
      have e5 : off + k < min (off + k) l.length + (new.length + 1) := by omega
      have e6 : ¬ off + k < min (off + k) l.length := by omega
      have e7 : off + k - min (off + k) l.length = 0 := by omega
      have e8 : off + k < l.length := by omega
      have e9 : off + k < off + (k + 1) := by omega
      simp [e1, e2, e5, e6, e7, e8, e9]
    · by_cases hj2 : j < off + k + (new.length + 1)
      · have e1 : j < min (off + (k + 1)) l.length + new.length := by omega
        have e2 : ¬ j < min (off + (k + 1)) l.length := by omega
        have e5 : j < min (off + k) l.length + (new.length + 1) := by omega
        have e6 : ¬ j < min (off + k) l.length := by omega
        obtain ⟨m, hm⟩ : ∃ m, j - min (off + k) l.length = m + 1 := ⟨j - min (off + k) l.length - 1, by omega⟩
        have e7 : j - min (off + (k + 1)) l.length = m := by omega
        simp [e1, e2, e5, e6, hm, e7]
      · have e1 : ¬ j < min (off + (k + 1)) l.length + new.length := by omega
        have e5 : ¬ j < min (off + k) l.length + (new.length + 1) := by omega
        have e7 : off + (k + 1) + new.length + (j - (min (off + (k + 1)) l.length + new.length)) = j := by omega
        have e8 : off + k + (new.length + 1) + (j - (min (off + k) l.length + (new.length + 1))) = j := by omega
        have e9 : ¬ off + k = j := by omega
        simp [e1, e5, e7, e8, e9]

theorem fillStep (v : Value) (l : List Value) (off : Nat) (h : off + (cellsL v).length ≤ l.length) :
    (v.cells.zipIdx.foldl (fun (cs : Array Value) (p : Value × Nat) => cs.setIfInBounds (off + p.2) p.1) l.toArray) = (layL l off (cellsL v)).toArray := by
  apply Array.ext'
  rw [← Array.foldl_toList]
  have : v.cells.zipIdx.toList = (cellsL v).zipIdx := by
    rw [Array.toList_zipIdx, cells_list]
  rw [this, fold_lay (cellsL v) 0 l off (by omega), layL_eq l off _ h]
  simp

theorem fillA_ok {size : Nat} : ∀ {ps : List (Nat × Value)} {cs cs' : List Value}, fillA size cs ps = some cs' →
    Instr.fill (fun i => some (i * size, size)) cs.toArray ps = some cs'.toArray
  | [], cs, cs', h => by cases h; rfl
  | (i, v) :: r, cs, cs', h => by
    simp only [fillA] at h
    cases h1 : Nat.beq (cellsL v).length size with
    | false => simp [h1] at h
    | true =>
      cases h2 : Nat.ble (i * size + size) cs.length with
      | false => simp [h1, h2] at h
      | true =>
        simp only [h1, h2, cond_true] at h
        have e1 := Nat.eq_of_beq_eq_true h1
        have e2 := Nat.le_of_ble_eq_true h2
        have hc : v.cells.size = size := by rw [← Array.length_toList, cells_list, e1]
        have := fillA_ok h
        simp only [Instr.fill, hc, ne_eq, not_true, decide_false, Bool.false_or, decide_eq_true_eq]
        rw [if_neg (by simp; omega)]
        have hst := fillStep v cs (i * size) (by omega)
        rw [hst]
        exact this

theorem fillW_ok {fs : List Field} {pl : Nat → Option (Nat × Nat)} (hpl : ∀ i f e, fs[i]? = some f → tb.ty f.type = some e → pl i = some (f.offset, e.size)) :
    ∀ {ps : List (Nat × Value)} {cs cs' : List Value}, fillW tb fs cs ps = some cs' → Instr.fill pl cs.toArray ps = some cs'.toArray
  | [], cs, cs', h => by cases h; rfl
  | (i, v) :: r, cs, cs', h => by
    simp only [fillW] at h
    split at h
    · rename_i f hf
      split at h
      · rename_i e he
        cases h1 : Nat.beq (cellsL v).length e.size with
        | false => simp [h1] at h
        | true =>
          cases h2 : Nat.ble (f.offset + e.size) cs.length with
          | false => simp [h1, h2] at h
          | true =>
            simp only [h1, h2, cond_true] at h
            have e1 := Nat.eq_of_beq_eq_true h1
            have e2 := Nat.le_of_ble_eq_true h2
            have hc : v.cells.size = e.size := by rw [← Array.length_toList, cells_list, e1]
            have := fillW_ok hpl h
            rw [nth_get] at hf
            simp only [Instr.fill, hpl i f e hf he, hc]
            rw [if_neg (by simp; omega)]
            rw [fillStep v cs f.offset (by omega)]
            exact this
      · cases h
    · cases h

theorem run_places (ok : tb.Ok P) {w : World} : ∀ (fs : List Field), (∀ f ∈ fs, ∃ e, tb.ty f.type = some e) →
    ∃ ps : List (Nat × Nat), (fs.mapM fun f => (do pure (f.offset, ← Go.sizeOf f.type) : Sem (Nat × Nat))).run P w = .ok ps w ∧ ps.length = fs.length ∧
      ∀ (i : Nat) f e, fs[i]? = some f → tb.ty f.type = some e → ps[i]? = some (f.offset, e.size)
  | [], _ => ⟨[], by simp, rfl, by simp⟩
  | f :: fs, hf => by
    obtain ⟨e, he⟩ := hf f (List.mem_cons_self ..)
    obtain ⟨ps, hr, hl, hp⟩ := run_places ok (w := w) fs fun g hg => hf g (List.mem_cons_of_mem _ hg)
    refine ⟨(f.offset, e.size) :: ps, ?_, by simp [hl], ?_⟩
    · simp only [List.mapM_cons, Sem.run_bind, run_sizeOf' ok he, Result.andThen_ok, Sem.run_pure, hr]
    · intro i g e' hg he'
      cases i with
      | zero => simp at hg; subst hg; rw [he] at he'; cases he'; simp
      | succ i => simp at hg ⊢; exact hp i g e' hg he'

theorem tysIn_all : ∀ {fs : List Field}, tysIn tb fs = true → ∀ f ∈ fs, ∃ e, tb.ty f.type = some e
  | [], _, f, hf => by cases hf
  | g :: fs, h, f, hf => by
    simp only [tysIn] at h
    split at h
    · rename_i e he
      rcases List.mem_cons.1 hf with rfl | hf
      · exact ⟨e, he⟩
      · exact tysIn_all h f hf
    · cases h

theorem val_build (ok : tb.Ok P) {t : Nat} {parts : Array (Nat × Operand)} (hop : o.op = .build t parts)
    (hv : onVs ((pairs s ch parts.toList).map fun _ => []) fun _ => match pairs s ch parts.toList, tb.ty t with
    | some ps, some e => match e.und with
      | .struct fs => cond (tysIn tb fs.toList) (match fillW tb fs.toList (cellsL e.zero) ps with
        | some cs => K (.v (.agg cs.toArray))
        | none => False) False
      | .array _ u => match tb.ty u with
        | some g => match fillA g.size (cellsL e.zero) ps with
          | some cs => K (.v (.agg cs.toArray))
          | none => False
        | none => False
      | _ => False
    | _, _ => False) : ValOk P tb o ch s h K := by
  obtain ⟨_, _, hv'⟩ := onVs_some hv
  clear hv
  split at hv'
  · rename_i ps e hps he
    have hparts : holds s ch → ∀ (β : Nat → Nat) (ρ : Operand → Value), (∀ x ∈ o.op.operands, Opnd β s ρ x) → (parts.map fun (i, x) => (i, ρ x)).toList = ps := by
      intro hh β ρ ho
      have := pairs_ok (β := β) (ρ := ρ) hh hps fun x hx => ho x (by simp [hop, Op.operands]; simpa using hx)
      simpa using this
    split at hv'
    · rename_i fs hu
      cases hty : tysIn tb fs.toList with
      | false => simp [hty] at hv'
      | true =>
        simp only [hty, cond_true] at hv'
        split at hv'
        · rename_i cs hcs
          refine valOk_same _ hv' fun hh β ρ w ho => ?_
          have hun := run_underlying' ok he w
          rw [hu] at hun
          have hz := run_zeroValue' ok he w
          obtain ⟨pl, hr, hl, hp⟩ := run_places ok (w := w) fs.toList (tysIn_all hty)
          have hm : (fs.mapM fun f => (do pure (f.offset, ← Go.sizeOf f.type) : Sem (Nat × Nat))).run P w = .ok pl.toArray w := by
            rw [Array.mapM_eq_mapM_toList]
            simp only [Sem.run_map, hr, Result.andThen_ok]
          have hfill := fillW_ok (tb := tb) (fs := fs.toList) (pl := fun (i : Nat) => pl[i]?) hp hcs
          have e1 : (parts.map fun (i, x) => (i, ρ x)).toList = ps := hparts hh β ρ ho
          have e2 : (cellsL e.zero).toArray = e.zero.cells := by apply Array.ext'; simp [cells_list]
          rw [e2] at hfill
          simp only [execOp, hop, Instr.build, Sem.run_bind, hz, Result.andThen_ok, hun, hm, e1]
          have e3 : (fun (i : Nat) => pl.toArray[i]?) = fun (i : Nat) => pl[i]? := by funext i; simp
          rw [e3, hfill]
          simp [LVal]
        · exact hv'.elim
    · rename_i n u hu
      split at hv'
      · rename_i g hg
        split at hv'
        · rename_i cs hcs
          refine valOk_same _ hv' fun hh β ρ w ho => ?_
          have hun := run_underlying' ok he w
          rw [hu] at hun
          have hz := run_zeroValue' ok he w
          have hsz := run_sizeOf' ok hg w
          have hfill := fillA_ok hcs
          have e1 : (parts.map fun (i, x) => (i, ρ x)).toList = ps := hparts hh β ρ ho
          have e2 : (cellsL e.zero).toArray = e.zero.cells := by apply Array.ext'; simp [cells_list]
          rw [e2] at hfill
          simp only [execOp, hop, Instr.build, Sem.run_bind, hz, Result.andThen_ok, hun, hsz, e1, hfill]
          simp [LVal]
        · exact hv'.elim
      · exact hv'.elim
    · exact hv'.elim
  · exact hv'.elim

end
end Lf

/-
  The lifting layer, part 10: looks into maps, lengths; all operations that change nothing.
-/
namespace Lf
open Go

section
variable {P : Program} {tb : Tb} {o : Oper} {ch : Chain} {s : St} {h : Hp} {K : LV → Prop}

theorem run_checkKey (ok : tb.Ok P) {k : Nat} {e : Ty} {b : Bool} {v : Value} {w : World} (he : tb.ty k = some e) (hk : isKeyD e.und = true) :
    (Instr.checkKey b 10000 k v).run P w = .ok () w := by
  have hu := run_underlying' ok he w
  have key : ∀ n, (Instr.checkKey b (n + 1) k v).run P w = .ok () w := by
    intro n
    unfold Instr.checkKey
    simp only [Sem.run_bind, hu, Result.andThen_ok]
    generalize e.und = d at hk
    cases d <;> first | rfl | (simp [isKeyD] at hk)
  exact key 9999

theorem run_findKey (ok : tb.Ok P) {k : Nat} {e : Ty} {v : Value} {es : List MapEntry} {r : Option (Nat × Value)} {w : World} (he : tb.ty k = some e)
    (hf : Instr.findNow e.und v es 0 = some r) : (Instr.findKey k v es).run P w = .ok r w := by
  simp only [Instr.findKey, Sem.run_bind, run_underlying' ok he, Result.andThen_ok, hf, Sem.run_pure]

theorem run_getMap {r : Nat} {es : Array MapEntry} {ck : Nat} {w : World} (hb : w.heap[r]? = some (.map es ck)) : (getObj r).run P w = .ok (.map es ck) w := by
  simp [getObj, Sem.run, hb]

theorem run_lookup (ok : tb.Ok P) {t k u : Nat} {e ke ue : Ty} {m : Option Nat} {b v : Value} {y cok : Bool} {w : World} (he : tb.ty t = some e) (hu : e.und = .map k u)
    (hk : tb.ty k = some ke) (hue : tb.ty u = some ue) (hkd : isKeyD ke.und = true) (hs : Sub h w) (hl : LookIs ke.und ue.zero m b h v y) :
    (Instr.lookup t (.map m) b cok).run P w = .ok (if cok then .tuple #[v, .bool y] else v) w := by
  have hun := run_underlying' ok he w
  rw [hu] at hun
  obtain ⟨es, hm, hl⟩ := hl
  rcases hm with ⟨rfl, rfl⟩ | ⟨r, ck, rfl, hr⟩
  · simp only [Instr.lookup, Sem.run_bind, hun, Result.andThen_ok, Sem.run_pure, run_checkKey ok hk hkd]
    rcases hl with ⟨hf, hv, hy⟩ | ⟨i, hf, hy⟩
    · simp only [run_findKey ok hk hf, Result.andThen_ok, Sem.run_bind, run_zeroValue' ok hue, Sem.run_pure, hv, hy]
    · simp only [run_findKey ok hk hf, Result.andThen_ok, Sem.run_bind, Sem.run_pure, hy]
  · simp only [Instr.lookup, Sem.run_bind, hun, Result.andThen_ok, run_getMap (hs r _ hr), Sem.run_pure, run_checkKey ok hk hkd]
    rcases hl with ⟨hf, hv, hy⟩ | ⟨i, hf, hy⟩
    · simp only [run_findKey ok hk hf, Result.andThen_ok, Sem.run_bind, run_zeroValue' ok hue, Sem.run_pure, hv, hy]
    · simp only [run_findKey ok hk hf, Result.andThen_ok, Sem.run_bind, Sem.run_pure, hy]

theorem val_lookup (ok : tb.Ok P) {t : Nat} {x i : Operand} {cok : Bool} (hop : o.op = .lookup t x i cok) (hv : onV (ev s ch x) fun a => onV (ev s ch i) fun b => match a, tb.ty t with
    | .map m, some e => match e.und with
      | .map k u => match tb.ty k, tb.ty u with
        | some ke, some ue => cond (isKeyD ke.und) (LookW (cnd s ch) ke.und ue.sh ue.zero m b h fun x y => cond cok (K (.v (.tuple #[ue.sh.enc x, .bool y]))) (K (.v (ue.sh.enc x))))
            (genV (cnd s ch) P tb o.type (Instr.lookup t a b cok) h K)
        | _, _ => False
      | _ => False
    | _, _ => False) : ValOk P tb o ch s h K := by
  obtain ⟨a, hea, hv1⟩ := onV_some hv
  clear hv
  obtain ⟨b, heb, hv⟩ := onV_some hv1
  clear hv1
  have hex : holds s ch → ∀ (β : Nat → Nat) (ρ : Operand → Value), (∀ x ∈ o.op.operands, Opnd β s ρ x) → ∀ (w w' : World) (u : Value), (Instr.lookup t a b cok).run P w = .ok u w' → (execOp ρ o).run P w = .ok (.value u) w' := by
    intro hh β ρ ho w w' u hr
    have hx := ev_ok (ho x (by simp [hop, Op.operands])) hh hea
    have hi := ev_ok (ho i (by simp [hop, Op.operands])) hh heb
    simp only [execOp, hop, hx, hi, LVal, Sem.run_bind, hr, Result.andThen_ok, Sem.run_pure]
  split at hv
  · rename_i m e he
    split at hv
    · rename_i k u hu
      split at hv
      · rename_i ke ue hk hue
        cases hkd : isKeyD ke.und with
        | false =>
          simp only [hkd, cond_false] at hv
          exact val_gen (by simp_all [kindD]) hv fun hh β ρ ho w w' u hr => hex hh β ρ ho w w' u hr
        | true =>
          simp only [hkd, cond_true] at hv
          obtain ⟨y, z, hr, hq⟩ := hv
          cases cok with
          | true =>
            refine valOk_mem (by simp [kindD, hop]) _ hq fun hh β ρ w ho hs => hex hh β ρ ho w w _ ?_
            rw [run_lookup ok he hu hk hue hkd hs (req_cnd hr hh)]
            rfl
          | false =>
            refine valOk_mem (by simp [kindD, hop]) _ hq fun hh β ρ w ho hs => hex hh β ρ ho w w _ ?_
            rw [run_lookup ok he hu hk hue hkd hs (req_cnd hr hh)]
            rfl
      · exact hv.elim
    · exact hv.elim
  · exact hv.elim

theorem run_min {k : IntKind} {w : World} : ∀ {r : List Value} {x : Int} {v : Value}, minI min2I k x r = some v → (r.foldlM Builtin.min2 (.int k x)).run P w = .ok v w
  | [], x, v, h => by cases h; rfl
  | a :: r, x, v, h => by
    cases a <;> simp only [minI] at h <;> first
      | cases h
      | (simp only [List.foldlM_cons, Sem.run_bind, Builtin.min2, Sem.run_pure, Result.andThen_ok]
         exact run_min h)

theorem run_max {k : IntKind} {w : World} : ∀ {r : List Value} {x : Int} {v : Value}, minI max2I k x r = some v → (r.foldlM Builtin.max2 (.int k x)).run P w = .ok v w
  | [], x, v, h => by cases h; rfl
  | a :: r, x, v, h => by
    cases a <;> simp only [minI] at h <;> first
      | cases h
      | (simp only [List.foldlM_cons, Sem.run_bind, Builtin.max2, Sem.run_pure, Result.andThen_ok]
         exact run_max h)

theorem val_builtin (ok : tb.Ok P) {b : Builtin} {xs : Array Operand} {ts : Array TypeId} (hop : o.op = .call { callee := .builtin b, args := xs, argTypes := ts })
    (hv : onVs (vals s ch xs.toList) fun vs => biV (cnd s ch) P tb b vs ts.toList o.type h K) : ValOk P tb o ch s h K := by
  obtain ⟨vs, hvs, hv'⟩ := onVs_some hv
  clear hv
  have hargs : holds s ch → ∀ (β : Nat → Nat) (ρ : Operand → Value), (∀ x ∈ o.op.operands, Opnd β s ρ x) → xs.map ρ = vs.toArray := by
    intro hh β ρ ho
    have := vals_ok (β := β) (ρ := ρ) hh hvs fun x hx => ho x (by simp [hop, Op.operands, Call.operands]; simpa using hx)
    apply Array.ext'; simpa using this
  unfold biV at hv'
  split at hv'
  · rename_i x ty hts
    have hts' : ts = #[ty] := by apply Array.ext'; simpa using hts
    have hex : holds s ch → ∀ (β : Nat → Nat) (ρ : Operand → Value), (∀ x ∈ o.op.operands, Opnd β s ρ x) → ∀ (w w' : World) (u : Value), (Builtin.len_ #[ty] o.type #[x]).run P w = .ok u w' → (execOp ρ o).run P w = .ok (.value u) w' := by
      intro hh β ρ ho w w' u hr
      have ha := hargs hh β ρ ho
      simp only [execOp, hop, resolve, invoke, builtin, Sem.run_bind, Sem.run_pure, Result.andThen_ok, ha, hts', hr]
    unfold lenW at hv'
    split at hv'
    · rename_i e he
      have hu := fun w => run_underlying' ok he w
      split at hv'
      · rename_i bs heu
        refine valOk_same _ hv' fun hh β ρ w ho => hex hh β ρ ho w w _ ?_
        simp [Builtin.len_, hu, heu, goInt, LVal]
      · rename_i el p n c heu
        refine valOk_same _ hv' fun hh β ρ w ho => hex hh β ρ ho w w _ ?_
        simp [Builtin.len_, hu, heu, goInt, LVal]
      · rename_i y n el heu
        refine valOk_same _ hv' fun hh β ρ w ho => hex hh β ρ ho w w _ ?_
        cases y <;> simp [Builtin.len_, hu, heu, goInt, LVal]
      · exact val_gen (by simp_all [kindD]) hv' fun hh β ρ ho w w' u hr => hex hh β ρ ho w w' u hr
    · exact hv'.elim
  · rename_i p n c ty hts
    have hts' : ts = #[ty] := by apply Array.ext'; simpa using hts
    split at hv'
    · rename_i e he
      split at hv'
      · rename_i u hu
        refine valOk_same _ hv' fun hh β ρ w ho => ?_
        have ha := hargs hh β ρ ho
        have hun := run_underlying' ok he w
        rw [hu] at hun
        simp [execOp, hop, resolve, invoke, builtin, ha, hts', Builtin.cap_, hun, goInt, LVal]
      · exact hv'.elim
    · exact hv'.elim
  · rename_i k x r
    split at hv'
    · rename_i v hm
      refine valOk_same _ hv' fun hh β ρ w ho => ?_
      have ha := hargs hh β ρ ho
      simp [execOp, hop, resolve, invoke, builtin, ha, Builtin.min_, run_min hm, LVal]
    · exact hv'.elim
  · rename_i k x r
    split at hv'
    · rename_i v hm
      refine valOk_same _ hv' fun hh β ρ w ho => ?_
      have ha := hargs hh β ρ ho
      simp [execOp, hop, resolve, invoke, builtin, ha, Builtin.max_, run_max hm, LVal]
    · exact hv'.elim
  · exact hv'.elim

/-- Whatever is told of an operation that changes nothing is so. -/
theorem valW_sound (ok : tb.Ok P) (hv : valW P tb o ch s h K) : ValOk P tb o ch s h K := by
  obtain ⟨dst, op, ty, pos, after, guard⟩ := o
  cases op with
  | move x => exact val_move (.inl rfl) hv
  | assign x => exact val_move (.inr rfl) hv
  | pick x a b => exact val_pick rfl hv
  | extract x i => exact val_extract rfl hv
  | binOp op t x y yt => exact val_bin ok rfl hv
  | unOp op t x => exact val_un rfl hv
  | nilCheck x => exact val_nil rfl hv
  | load t x => exact val_load ok rfl hv
  | fieldAddr t x i => exact val_fieldAddr ok rfl hv
  | field t x i => exact val_field ok rfl hv
  | indexAddr t x i => exact val_indexAddr ok rfl hv
  | index t x i => exact val_index ok rfl hv
  | slice t x lo hi mx => exact val_slice ok rfl hv
  | makeInterface t x => exact val_iface ok rfl hv
  | makeFunc fn a b => exact val_func rfl hv
  | convert a b x => exact val_convert ok rfl hv
  | build t ps => exact val_build ok rfl hv
  | lookup t x i k => exact val_lookup ok rfl hv
  | call c =>
    obtain ⟨callee, args, ats⟩ := c
    cases callee with
    | builtin b => exact val_builtin ok rfl hv
    | value f => exact hv.elim
    | invoke r m => exact hv.elim
  | _ => exact hv.elim

end
end Lf

/-
  The lifting layer, part 11: stores and new memory.
-/
namespace Lf
open Go

section
variable {P : Program} {tb : Tb} {o : Oper} {ch : Chain} {s : St} {h : Hp} {K : LV → Hp → Prop}

theorem cnd_iff (s : St) (t : Nat) (w : Bool) (r : Chain) : ∃ b, cnd s ((t, w) :: r) = some b ∧ (b = true ↔ holds s ((t, w) :: r)) := by
  induction r generalizing t w with
  | nil =>
    simp only [cnd]
    split
    · rename_i b c hf
      refine ⟨_, rfl, fun h => ?_, fun h => ?_⟩
      · intro p hp
        simp at hp
        subst hp
        simp only [hb, hf]
        cases w <;> cases b <;> first | rfl | cases h
      · have := h (t, w) (List.mem_cons_self ..)
        simp only [hb, hf] at this
        injection this with this
        subst this
        cases b <;> rfl
    · refine ⟨false, rfl, fun h => (by cases h), fun h => ?_⟩
      have := h (t, w) (List.mem_cons_self ..)
      unfold hb at this
      split at this
      · rename_i hn _ b c hf; exact absurd hf (hn b c)
      · cases this
  | cons p r ih =>
    obtain ⟨t', w'⟩ := p
    obtain ⟨b', hb', hh'⟩ := ih t' w'
    simp only [cnd]
    split
    · rename_i b c hf
      rw [hb']
      refine ⟨_, rfl, fun h => ?_, fun h => ?_⟩
      · have h2 : b' = true ∧ b = w := by cases w <;> cases b <;> cases b' <;> first | exact ⟨rfl, rfl⟩ | cases h
        intro q hq
        rcases List.mem_cons.1 hq with rfl | hq
        · simp only [hb, hf, h2.2]
        · exact hh'.1 h2.1 q hq
      · have h1 := h (t, w) (List.mem_cons_self ..)
        simp only [hb, hf] at h1
        injection h1 with h1
        have h2 : b' = true := hh'.2 fun q hq => h q (List.mem_cons_of_mem _ hq)
        subst h1; subst h2
        cases b <;> rfl
    · refine ⟨false, rfl, fun h => (by cases h), fun h => ?_⟩
      have := h (t, w) (List.mem_cons_self ..)
      unfold hb at this
      split at this
      · rename_i hn _ b c hf; exact absurd hf (hn b c)
      · cases this

/-- What an operation that may change memory must come to. -/
def EffOk (P : Program) (o : Oper) (ch : Chain) (s : St) (h : Hp) (K : LV → Hp → Prop) : Prop :=
  (holds s ch → ∀ (β : Nat → Nat) (a : Act) (w : World), (∀ x ∈ o.op.operands, Opnd β s a.eval x) → Sub h w → ∀ (next : Act → World → Prop) (Q : Exit → Act → World → Prop),
    (∀ x h' w', K (.v x) h' → Step h h' w w' → next (a.put o.dst x) w') → o.wp P a w next Q) ∧
  (¬ holds s ch → ∃ x, K (.v x) h)

theorem effC_none {α : Type} {A : (α → Hp → Prop) → Hp → Prop} {K : α → Hp → Prop} (he : EffC (cnd s ch) A K h) : (holds s ch → A K h) ∧ (¬ holds s ch → ∃ x, K x h) := by
  cases ch with
  | nil => exact ⟨fun _ => he, fun hn => absurd (holds_nil s) hn⟩
  | cons p r =>
    obtain ⟨t, w⟩ := p
    obtain ⟨b, hb, hi⟩ := cnd_iff s t w r
    rw [hb] at he
    exact ⟨fun hh => he.1 (hi.2 hh), fun hn => he.2 (by cases b with
      | false => rfl
      | true => exact absurd (hi.1 rfl) hn)⟩

/-- One that comes to a value. -/
theorem eff_value {α : Type} {A : (α → Hp → Prop) → Hp → Prop} {f : α → Value} (he : EffC (cnd s ch) A (fun x h' => K (.v (f x)) h') h)
    (hr : holds s ch → ∀ (β : Nat → Nat) (ρ : Operand → Value) (w : World), (∀ x ∈ o.op.operands, Opnd β s ρ x) → Sub h w → ∀ (K : α → Hp → Prop), A K h →
      ∃ x h' w', (execOp ρ o).run P w = .ok (.value (f x)) w' ∧ K x h' ∧ Step h h' w w') : EffOk P o ch s h K := by
  obtain ⟨h1, h2⟩ := effC_none he
  refine ⟨fun hh β a w ho hs next Q hn => ?_, fun hn => ?_⟩
  · obtain ⟨x, h', w', hr, hk, hst⟩ := hr hh β a.eval w ho hs _ (h1 hh)
    unfold Oper.wp
    rw [hr, Oper.upon_value]
    exact hn _ _ _ hk hst
  · obtain ⟨x, hx⟩ := h2 hn
    exact ⟨_, hx⟩

theorem hcell_put {h : Hp} {a a' : Addr} {v : Value} (he : ∃ u, hcell h a' = some u) : ∃ u, hcell (h.put a v) a' = some u := by
  obtain ⟨u, hu⟩ := he
  obtain ⟨c, t, fr, hb, hsp, hc⟩ := hcell_block hu
  unfold Hp.put
  split
  · rename_i c' e' fr' hb'
    unfold hcell Hp.set
    by_cases hbl : a'.block = a.block
    · rw [hbl] at hb
      rw [hb] at hb'
      cases hb'
      simp only [hbl, if_true, hsp, Option.isSome_none, Bool.false_eq_true, if_false]
      split
      · exact ⟨u, hc⟩
      · rw [Array.getElem?_setIfInBounds]
        split
        · rename_i hoff
          have : a'.off < c.size := by
            rcases Nat.lt_or_ge a'.off c.size with h | h
            · exact h
            · rw [Array.getElem?_eq_none h] at hc; cases hc
          rw [if_pos (by omega)]
          exact ⟨v, rfl⟩
        · exact ⟨u, hc⟩
    · simp only [if_neg hbl, hb, hsp]
      exact ⟨u, by simpa using hc⟩
  · exact ⟨u, hu⟩

theorem hfroz_put (h : Hp) (a a' : Addr) (v : Value) : hfroz (h.put a v) a' = hfroz h a' := by
  unfold Hp.put
  split
  · rename_i c e fr hb
    unfold hfroz Hp.set
    by_cases hbl : a'.block = a.block
    · simp only [hbl, if_true, hb]
    · simp only [if_neg hbl]
  · rfl

theorem stOk_get {h : Hp} {a : Addr} : ∀ {n : Nat}, StOk h a n → ∀ i, i < n → (∃ v, hcell h (a.add i) = some v) ∧ hfroz h (a.add i) = false
  | 0, _, i, hi => by omega
  | n + 1, hs, i, hi => by
    rcases Nat.lt_or_ge i n with h | h
    · exact stOk_get hs.1 i h
    · have : i = n := by omega
      subst this
      exact hs.2

theorem run_storeCells {a : Addr} : ∀ (cs : List Value) (i : Nat) (h : Hp) (w : World), Sub h w → okCells cs = true →
    (∀ j, j < cs.length → (∃ v, hcell h (a.add (i + j)) = some v) ∧ hfroz h (a.add (i + j)) = false) →
    ∃ w', (storeCells a cs i).run P w = .ok () w' ∧ Step h (putL h a cs i) w w'
  | [], i, h, w, hs, _, _ => ⟨w, rfl, .refl hs⟩
  | v :: cs, i, h, w, hs, hok, hc => by
    obtain ⟨⟨v0, h0⟩, hf⟩ := hc 0 (by simp)
    rw [Nat.add_zero] at h0 hf
    have hst := step_put (v := v) hs h0
    have hok' : okCells cs = true ∧ v.oneCell' = true := by
      cases v <;> simp only [okCells] at hok <;> first | exact ⟨hok, rfl⟩ | cases hok
    obtain ⟨w', hr, hst'⟩ := run_storeCells cs (i + 1) (h.put (a.add i) v) (w.setCell (a.add i) v) hst.sub hok'.1 (fun j hj => by
      have := hc (j + 1) (by simp; omega)
      rw [show i + 1 + j = i + (j + 1) from by omega]
      exact ⟨hcell_put this.1, by rw [hfroz_put]; exact this.2⟩)
    refine ⟨w', ?_, hst.trans hst'⟩
    simp only [storeCells, Sem.run_bind]
    have hst1 : (store (a.add i) v).run P w = .ok () (w.setCell (a.add i) v) := by
      have hcl := hcell_sub hs h0
      obtain ⟨c, t, fr, hb, _, _⟩ := hcell_block h0
      have hfr : w.frozen? (a.add i) = false := by rw [hfroz_sub hs hb]; exact hf
      have hv := hok'.2
      cases v <;> first
        | (simp [Value.oneCell'] at hv; done)
        | simp only [store, Sem.run, hcl, hfr, Bool.false_eq_true, if_false]
    rw [hst1]
    simp only [Result.andThen_ok]
    exact hr

theorem eff_store (ok : tb.Ok P) {t : Nat} {x y : Operand} (hop : o.op = .store t x y) (hv : match ev s ch x, ev s ch y with
    | some (.v (.pointer (some a))), some (.v v) => match ch, tb.ty t with
      | [], some e => cond (Nat.beq (cellsL v).length e.size) (cond (okCells (cellsL v)) (StW h a (cellsL v) fun h' => K (.v (.tuple #[])) h') False) False
      | _, _ => False
    | _, _ => False) : EffOk P o ch s h K := by
  split at hv
  · rename_i a v hea hev
    split at hv
    · rename_i e he
      cases h1 : Nat.beq (cellsL v).length e.size with
      | false => simp [h1] at hv
      | true =>
        cases h2 : okCells (cellsL v) with
        | false => simp [h1, h2] at hv
        | true =>
          simp only [h1, h2, cond_true] at hv
          refine ⟨fun hh β act w ho hs next Q hn => ?_, fun hn => absurd (holds_nil s) hn⟩
          have hx : act.eval x = _ := ev_ok (ho x (by simp [hop, Op.operands])) hh hea
          have hy : act.eval y = _ := ev_ok (ho y (by simp [hop, Op.operands])) hh hev
          obtain ⟨w', hr, hst⟩ := run_storeCells (P := P) (cellsL v) 0 h w hs h2 (fun j hj => by simpa using stOk_get hv.1 j hj)
          have hsz := run_sizeOf' ok he w
          have hlen : v.cells.size = e.size := by rw [← Array.length_toList, cells_list]; exact Nat.eq_of_beq_eq_true h1
          unfold Oper.wp
          have hrun : (execOp act.eval o).run P w = .ok .skip w' := by
            simp only [execOp, hop, hx, hy, LVal, Instr.storeAt, Instr.sureAddr, Sem.run_bind, Sem.run_pure, Result.andThen_ok, storeVar, hsz, hlen, ne_eq, not_true, if_false, cells_list]
            have : (if False then (stuck "storeVar: the value has not the size of the variable" : Sem Unit) else pure PUnit.unit).run P w = .ok () w := rfl
            first | rw [this] | skip
            simp only [hr, Result.andThen_ok]
          rw [hrun, Oper.upon_skip]
          exact hn _ _ _ hv.2 hst
    · exact hv.elim
  · exact hv.elim

theorem run_newRow {e : TypeId} {cs : Array Value} {w : World} : (newRow e cs).run P w = .ok ⟨w.heap.size, 0, none⟩ { w with heap := w.heap.push (.cells cs e) } := by
  simp [newRow]

theorem newW_run {cs : List Value} {K : Addr → Hp → Prop} {t : Nat} {w : World} (hs : Sub h w) (hk : NewW cs K h) :
    ∃ h', K ⟨w.heap.size, 0, none⟩ h' ∧ Step h h' w { w with heap := w.heap.push (.cells cs.toArray t) } := by
  obtain ⟨hn, hst⟩ := step_new hs (.cells cs.toArray t)
  exact ⟨_, hk _ t hn, hst⟩

theorem eff_alloc (ok : tb.Ok P) {t : Nat} (hop : o.op = .alloc t) (hv : match tb.ty t with
    | some e => EffC (cnd s ch) (NewW (cellsL e.zero)) (fun a h' => K (.v (.pointer (some a))) h') h
    | none => False) : EffOk P o ch s h K := by
  split at hv
  · rename_i e he
    refine eff_value (f := fun a => .pointer (some a)) hv fun hh β ρ w ho hs K hk => ?_
    obtain ⟨h', hk', hst⟩ := newW_run (t := t) hs hk
    refine ⟨_, h', _, ?_, hk', hst⟩
    have e2 : (cellsL e.zero).toArray = e.zero.cells := by apply Array.ext'; simp [cells_list]
    rw [e2]
    simp [execOp, hop, Instr.alloc, run_zeroValue' ok he, newVar, run_newRow]
  · exact hv.elim

theorem eff_box {t : Nat} {x : Operand} (hop : o.op = .box t x) (hv : onV (ev s ch x) fun v => EffC (cnd s ch) (NewW (cellsL v)) (fun a h' => K (.v (.pointer (some a))) h') h) :
    EffOk P o ch s h K := by
  obtain ⟨v, hev, hv'⟩ := onV_some hv
  refine eff_value (f := fun a => .pointer (some a)) hv' fun hh β ρ w ho hs K hk => ?_
  obtain ⟨h', hk', hst⟩ := newW_run (t := t) hs hk
  refine ⟨_, h', _, ?_, hk', hst⟩
  have hx := ev_ok (ho x (by simp [hop, Op.operands])) hh hev
  have e2 : (cellsL v).toArray = v.cells := by apply Array.ext'; simp [cells_list]
  rw [e2]
  simp [execOp, hop, hx, LVal, Instr.box, newVar, run_newRow]

theorem repL_length {α : Type} (l : List α) : ∀ n, (repL l n).length = n * l.length
  | 0 => by simp [repL]
  | n + 1 => by simp [repL, repL_length l n, Nat.add_mul, Nat.add_comm]

theorem repL_get (l : List Value) : ∀ n i, i < n * l.length → (repL l n)[i]? = l[i % l.length]?
  | 0, i, h => by simp at h
  | n + 1, i, h => by
    simp only [repL]
    rcases Nat.lt_or_ge i l.length with hi | hi
    · rw [List.getElem?_append_left hi, Nat.mod_eq_of_lt hi]
    · rw [List.getElem?_append_right hi, repL_get l n (i - l.length) (by rw [Nat.add_mul] at h; omega)]
      congr 1
      rw [← Nat.mod_eq_sub_mod hi]

theorem zeros_arr (z : List Value) (n size : Nat) (hz : z.length = size) : ((Array.range (n * size)).map (fun i => z.toArray[i % z.toArray.size]!)) = (repL z n).toArray := by
  apply Array.ext'
  apply List.ext_getElem?
  intro i
  rcases Nat.lt_or_ge i (n * size) with hi | hi
  · have h1 : (repL z n)[i]? = z[i % z.length]? := repL_get z n i (by rw [hz]; exact hi)
    have hpos : 0 < size := by
      rcases Nat.eq_zero_or_pos size with h | h
      · subst h; simp at hi
      · exact h
    have hlt : i % z.length < z.length := Nat.mod_lt _ (by omega)
    simp only [List.getElem?_toArray, h1]
    simp [hi, List.getElem?_eq_getElem hlt]
  · have h1 : (repL z n).length ≤ i := by rw [repL_length, hz]; exact hi
    simp [List.getElem?_eq_none h1, Nat.not_lt.2 hi]

theorem eff_buildSlice (ok : tb.Ok P) {t len : Nat} {parts : Array (Nat × Operand)} (hop : o.op = .buildSlice t len parts) (hv : match pairs s ch parts.toList, elemS tb t with
    | some ps, some e => cond (Nat.ble (len * e.size) 16777216) (match fillA e.size (repL (cellsL e.zero) len) ps with
      | some cs => EffC (cnd s ch) (NewW cs) (fun a h' => K (.v (.slice (some a) len len)) h') h
      | none => False) False
    | _, _ => False) : EffOk P o ch s h K := by
  split at hv
  · rename_i ps e hps hel
    obtain ⟨y, u, hy, hu, hg⟩ := elemS_some hel
    cases h1 : Nat.ble (len * e.size) 16777216 with
    | false => simp [h1] at hv
    | true =>
      simp only [h1, cond_true] at hv
      have hle := Nat.le_of_ble_eq_true h1
      split at hv
      · rename_i cs hcs
        refine eff_value (f := fun a => .slice (some a) len len) hv fun hh β ρ w ho hs K hk => ?_
        obtain ⟨h', hk', hst⟩ := newW_run (t := u) hs hk
        refine ⟨_, h', _, ?_, hk', hst⟩
        have hparts : (parts.map fun (i, x) => (i, ρ x)).toList = ps := by
          have := pairs_ok (β := β) (ρ := ρ) hh hps fun x hx => ho x (by simp [hop, Op.operands]; simpa using hx)
          simpa using this
        have hun := run_underlying' ok hy w
        rw [hu] at hun
        have hsz := run_sizeOf' ok hg w
        have hz := run_zeroValue' ok hg w
        have hzl := ok.zlen u e hg
        have hfill := fillA_ok hcs
        have e2 : e.zero.cells = (cellsL e.zero).toArray := by apply Array.ext'; simp [cells_list]
        simp only [execOp, hop, Instr.buildSlice, Sem.run_bind, hun, Result.andThen_ok, hsz, hparts]
        rw [if_neg (by omega)]
        by_cases h0 : len * e.size = 0
        · have hr0 : repL (cellsL e.zero) len = [] := by
            apply List.length_eq_zero_iff.1
            rw [repL_length, hzl]; exact h0
          rw [hr0] at hfill
          have e3 : (Array.map (fun x => (#[] : Array Value)[x % (#[] : Array Value).size]!) (Array.range (len * e.size))) = ([] : List Value).toArray := by rw [h0]; simp
          simp only [h0, if_true, Sem.run_pure, Result.andThen_ok, Sem.run_bind]
          rw [h0] at e3
          simp only [e3, hfill, Sem.run_bind, run_newRow, Result.andThen_ok, Sem.run_pure]
        · have e3 := zeros_arr (cellsL e.zero) len e.size hzl
          simp only [h0, if_false, Sem.run_bind, hz, Result.andThen_ok, Sem.run_pure, e2]
          simp only [e3, hfill, Sem.run_bind, run_newRow, Result.andThen_ok, Sem.run_pure]
      · exact hv.elim
  · exact hv.elim

end
end Lf

/-
  The lifting layer, part 12: append, copy, make, maps, calls; all operations.
-/
namespace Lf
open Go

section
variable {P : Program} {tb : Tb} {o : Oper} {ch : Chain} {s : St} {h : Hp} {K : LV → Hp → Prop}

theorem rd_cells {base : Option Addr} {n : Nat} {cs : List Value} {w : World} (hs : Sub h w) (hr : RdCells h base n cs) {m c : Nat} {size : Nat} (hn : n = m * size) :
    (Builtin.firstCells size m (.slice base m c)).run P w = .ok cs.toArray w := by
  obtain ⟨hl, hc⟩ := hr
  subst hn
  cases base with
  | none =>
    rcases hc with h0 | ⟨a, ha, _⟩
    · have : cs = [] := List.length_eq_zero_iff.1 (by omega)
      subst this
      rfl
    · cases ha
  | some a =>
    have hld : ∀ j v, cs[j]? = some v → w.cell? (a.add j) = some v := by
      intro j v hj
      rcases hc with h0 | ⟨a', ha, hld⟩
      · have : cs = [] := List.length_eq_zero_iff.1 (by omega)
        subst this; simp at hj
      · cases ha; exact hcell_sub hs (hld j v hj)
    simp only [Builtin.firstCells]
    rw [← hl]
    exact run_loadCells hld

theorem slicecap_le {need cap : Nat} (h : cap < need) : Builtin.nextslicecap need cap ≤ 2 * need := by
  unfold Builtin.nextslicecap
  split
  · omega
  · split
    · omega
    · have key : ∀ r c, c < 2 * need → (c < need → 256 ≤ c) → Builtin.growBy need r c ≤ 2 * need := by
        intro r
        induction r with
        | zero => intro c hc _; simp only [Builtin.growBy]; omega
        | succ r ih =>
          intro c hc h256
          simp only [Builtin.growBy]
          split
          · omega
          · rename_i hlt
            have := h256 (by omega)
            exact ih _ (by omega) (by omega)
      exact key 4 cap (by omega) (by omega)

theorem zerosL_eq (z : List Value) : ∀ n, zerosL z n = repL z n
  | 0 => rfl
  | n + 1 => by simp only [zerosL, List.replicate_succ, List.flatten_cons, repL]; rw [← zerosL_eq z n, zerosL]

theorem zeroCells_eq (z : Array Value) (n : Nat) : Builtin.zeroCells z n = (zerosL z.toList n).toArray := by
  rw [zerosL_eq]
  have := zeros_arr z.toList n z.size (by simp)
  unfold Builtin.zeroCells
  rw [← this]

theorem maxI64 : IntKind.i64.max = 9223372036854775807 := by decide

/-- Append: what the run comes to. -/
theorem run_append (ok : tb.Ok P) {t t' u rt n : Nat} {y e e' : Ty} {l : Sl} {x : Value} {new : List Value} {K : Sl → Hp → Prop} {w : World}
    (hy : tb.ty t = some y) (hu : y.und = .slice u) (hg : tb.ty u = some e) (hy' : tb.ty t' = some e') (hnint : ∀ k, e'.und ≠ .int k)
    (hs : Sub h w) (ha : AppCells e.size e.bytes (cellsL e.zero) l n new K h) (hlen : ∀ w : World, (Builtin.lenOf x).run P w = .ok n w)
    (hnew : ∀ w : World, Sub h w → (Builtin.firstCells e.size n x).run P w = .ok new.toArray w) (hnl : new.length = n * e.size) :
    ∃ r h' w', (Builtin.append_ #[t, t'] rt #[.slice l.base l.len l.cap, x]).run P w = .ok (.slice r.base r.len r.cap) w' ∧ K r h' ∧ Step h h' w w' := by
  obtain ⟨old, hold, ⟨hbn, hbd⟩, hokc, hin, hgrow⟩ := ha
  have h1 := fun w => run_underlying' ok hy w
  have h2 := fun w => run_underlying' ok hy' w
  have h3 := fun w => run_sizeOf' ok hg w
  have h5 := fun w => run_zeroValue' ok hg w
  obtain ⟨i, hi, _, hib, _⟩ := ok.info u e hg
  have h4 : ∀ w, (typeInfo u).run P w = .ok i w := fun w => by simp [typeInfo, hi]
  have hz : (match e'.und with | .int _ => true | _ => false) = false := by
    generalize e'.und = d at hnint
    cases d <;> first | rfl | exact absurd rfl (hnint _)
  simp only [hu] at h1
  by_cases hle : l.len + n ≤ l.cap
  · obtain ⟨hst, hk⟩ := hin hle
    cases hb : l.base with
    | none =>
      refine ⟨_, _, w, ?_, hk, ?_⟩
      · simp [Builtin.append_, h1, h2, h3, hz, hlen, hle, hnew w hs, hb]
      · simp only [putO, hb]; exact .refl hs
    | some a =>
      obtain ⟨w', hr, hstep⟩ := run_storeCells (P := P) new 0 h w hs hokc (a := a.add (l.len * e.size)) (fun j hj => by
        have := stOk_get (hst a hb) j (by omega)
        simpa using this)
      refine ⟨_, _, w', ?_, hk, ?_⟩
      · simp [Builtin.append_, h1, h2, h3, hz, hlen, hle, hnew w hs, hb, hr]
      · simp only [putO, hb]; exact hstep
  · have hlt : l.cap < l.len + n := by omega
    have hcap := slicecap_le hlt
    have hby : ¬ (Builtin.nextslicecap (l.len + n) l.cap * e.bytes > 281474976710656) := by
      have : Builtin.nextslicecap (l.len + n) l.cap * e.bytes ≤ 2 * (l.len + n) * e.bytes := Nat.mul_le_mul_right _ hcap
      have h' : 2 * (l.len + n) * e.bytes = 2 * ((l.len + n) * e.bytes) := by rw [Nat.mul_assoc]
      omega
    have hmax : ¬ (((l.len + n : Nat) : Int) > IntKind.i64.max) := by rw [maxI64]; omega
    have hw1 : Sub h { w with drawn := w.drawn + 1 } := hs
    have hold' : ∀ w : World, Sub h w → (Builtin.firstCells e.size l.len (.slice l.base l.len l.cap)).run P w = .ok old.toArray w := fun w hs => rd_cells hs hold rfl
    let c := (Question.appendCap (l.len + n) l.cap u).cut (w.tape w.drawn (.appendCap (l.len + n) l.cap u))
    have hc : l.len + n ≤ c := by simp only [c, Question.cut]; omega
    have hrow : (old.toArray ++ new.toArray ++ Builtin.zeroCells e.zero.cells (c - (l.len + n))) = (old ++ new ++ zerosL (cellsL e.zero) (c - (l.len + n))).toArray := by
      rw [zeroCells_eq, cells_list]; simp
    obtain ⟨hn, hst⟩ := step_new hw1 (.cells (old ++ new ++ zerosL (cellsL e.zero) (c - (l.len + n))).toArray u)
    refine ⟨_, _, _, ?_, hgrow hlt c _ u hc hn, hst.drew⟩
    have hmax' : ¬ (9223372036854775807 < (l.len : Int) + (n : Int)) := by omega
    have hw2 : Sub h w.drew := hs
    have hby' : ¬ (281474976710656 < Builtin.nextslicecap (l.len + n) l.cap * i.bytes) := by rw [hib]; omega
    have hrow' : old.toArray ++ (new.toArray ++ Builtin.zeroCells e.zero.cells (c - (l.len + n))) = (old ++ (new ++ zerosL (cellsL e.zero) (c - (l.len + n)))).toArray := by
      rw [← Array.append_assoc, hrow, List.append_assoc]
    simp [Builtin.append_, h1, h2, h3, h4, h5, hz, hlen, Nat.not_le.2 hlt, hmax', hby', Question.forced, hold' _ hw2, hnew _ hw2, run_newRow]
    refine ⟨rfl, ?_⟩
    rw [← hrow']
    rfl

theorem zerosL_len (z : List Value) (n : Nat) : (zerosL z n).length = n * z.length := by simp [zerosL]

/-- Append of zero values: what the run comes to. -/
theorem run_appendZ (ok : tb.Ok P) {t t' u rt : Nat} {m : Int} {y e e' : Ty} {l : Sl} {K : Sl → Hp → Prop} {w : World}
    (hy : tb.ty t = some y) (hu : y.und = .slice u) (hg : tb.ty u = some e) (hy' : tb.ty t' = some e') (hint : e'.und = .int .i64)
    (hs : Sub h w) (hm : 0 ≤ m) (ha : AppCells e.size e.bytes (cellsL e.zero) l m.toNat (zerosL (cellsL e.zero) m.toNat) K h) :
    ∃ r h' w', (Builtin.append_ #[t, t'] rt #[.slice l.base l.len l.cap, .int .i64 m]).run P w = .ok (.slice r.base r.len r.cap) w' ∧ K r h' ∧ Step h h' w w' := by
  obtain ⟨old, hold, ⟨hbn, hbd⟩, hokc, hin, hgrow⟩ := ha
  have h1 := fun w => run_underlying' ok hy w
  have h2 := fun w => run_underlying' ok hy' w
  have h3 := fun w => run_sizeOf' ok hg w
  have h5 := fun w => run_zeroValue' ok hg w
  obtain ⟨i, hi, _, hib, _⟩ := ok.info u e hg
  have h4 : ∀ w, (typeInfo u).run P w = .ok i w := fun w => by simp [typeInfo, hi]
  simp only [hu] at h1
  simp only [hint] at h2
  have hzl := ok.zlen u e hg
  have hwm : IntKind.i64.wrap m = m := by
    unfold IntKind.wrap
    simp only [IntKind.signed, IntKind.bits]
    first | omega | (simp; omega)
  have hneg : ¬ m < 0 := by omega
  obtain ⟨n, rfl⟩ := Int.eq_ofNat_of_zero_le hm
  have hmn : ((n : Int)).toNat = n := by omega
  rw [hmn] at hbn hbd hokc hin hgrow
  have hbig : ¬ ((n : Int) * (i.bytes : Int) > 281474976710656) := by
    rw [hib]
    have : n * e.bytes ≤ (l.len + n) * e.bytes := Nat.mul_le_mul_right _ (by omega)
    have : n * e.bytes ≤ 140737488355328 := by omega
    have h' : ((n : Int) * (e.bytes : Int)) = ((n * e.bytes : Nat) : Int) := by simp
    rw [h']
    omega
  have hbig' : ¬ (281474976710656 < (n : Int) * (i.bytes : Int)) := by omega
  have happ : ∀ w : World, (if n * e.size = 0 then (pure #[] : Sem (Array Value)) else do pure (Builtin.zeroCells (← zeroValue u).cells n)).run P w = .ok (zerosL (cellsL e.zero) n).toArray w := by
    intro w
    by_cases h0 : n * e.size = 0
    · have : zerosL (cellsL e.zero) n = [] := List.length_eq_zero_iff.1 (by rw [zerosL_len, hzl]; exact h0)
      rw [if_pos h0, this]
      rfl
    · rw [if_neg h0]
      simp only [Sem.run_bind, h5, Result.andThen_ok, Sem.run_pure]
      congr 1
      rw [zeroCells_eq, cells_list]
  have hasI : ∀ w : World, (asInt (.int .i64 (n : Int))).run P w = .ok (n : Int) w := fun w => rfl
  have hnn : ¬ (n : Int) < 0 := by omega
  have hzc : Builtin.zeroCells e.zero.cells n = (zerosL (cellsL e.zero) n).toArray := by rw [zeroCells_eq, cells_list]
  have hz0 : n * e.size = 0 → zerosL (cellsL e.zero) n = [] := fun h0 => List.length_eq_zero_iff.1 (by rw [zerosL_len, hzl]; exact h0)
  by_cases hle : l.len + n ≤ l.cap
  · obtain ⟨hst, hk⟩ := hin hle
    cases hb : l.base with
    | none =>
      refine ⟨_, _, w, ?_, hk, ?_⟩
      · by_cases h0 : n * e.size = 0
        · simp [Builtin.append_, h1, h2, h3, h4, hasI, hwm, hnn, hbig', hle, h0, hb]
        · simp [Builtin.append_, h1, h2, h3, h4, h5, hasI, hwm, hnn, hbig', hle, h0, hb]
      · simp only [putO, hb]; exact .refl hs
    | some a =>
      obtain ⟨w', hr, hstep⟩ := run_storeCells (P := P) (zerosL (cellsL e.zero) n) 0 h w hs hokc (a := a.add (l.len * e.size)) (fun j hj => by
        have := stOk_get (hst a hb) j (by rw [zerosL_len, hzl] at hj; exact hj)
        simpa using this)
      refine ⟨_, _, w', ?_, hk, ?_⟩
      · by_cases h0 : n * e.size = 0
        · rw [hz0 h0] at hr
          simp [Builtin.append_, h1, h2, h3, h4, hasI, hwm, hnn, hbig', hle, h0, hb, hr]
        · simp [Builtin.append_, h1, h2, h3, h4, h5, hasI, hwm, hnn, hbig', hle, h0, hzc, hb, hr]
      · simp only [putO, hb]; exact hstep
  · have hlt : l.cap < l.len + n := by omega
    have hcap := slicecap_le hlt
    have hby : ¬ (Builtin.nextslicecap (l.len + n) l.cap * e.bytes > 281474976710656) := by
      have : Builtin.nextslicecap (l.len + n) l.cap * e.bytes ≤ 2 * (l.len + n) * e.bytes := Nat.mul_le_mul_right _ hcap
      have h' : 2 * (l.len + n) * e.bytes = 2 * ((l.len + n) * e.bytes) := by rw [Nat.mul_assoc]
      omega
    have hw1 : Sub h { w with drawn := w.drawn + 1 } := hs
    have hold' : ∀ w : World, Sub h w → (Builtin.firstCells e.size l.len (.slice l.base l.len l.cap)).run P w = .ok old.toArray w := fun w hs => rd_cells hs hold rfl
    let c := (Question.appendCap (l.len + n) l.cap u).cut (w.tape w.drawn (.appendCap (l.len + n) l.cap u))
    have hc : l.len + n ≤ c := by simp only [c, Question.cut]; omega
    have hrow : (old.toArray ++ (zerosL (cellsL e.zero) n).toArray ++ Builtin.zeroCells e.zero.cells (c - (l.len + n))) = (old ++ zerosL (cellsL e.zero) n ++ zerosL (cellsL e.zero) (c - (l.len + n))).toArray := by
      rw [zeroCells_eq, cells_list]; simp
    obtain ⟨hn, hst⟩ := step_new hw1 (.cells (old ++ zerosL (cellsL e.zero) n ++ zerosL (cellsL e.zero) (c - (l.len + n))).toArray u)
    refine ⟨_, _, _, ?_, hgrow hlt c _ u hc hn, hst.drew⟩
    have hmax' : ¬ (9223372036854775807 < (l.len : Int) + (n : Int)) := by omega
    have hw2 : Sub h w.drew := hs
    have hby' : ¬ (281474976710656 < Builtin.nextslicecap (l.len + n) l.cap * i.bytes) := by rw [hib]; omega
    have hrow' : old.toArray ++ ((zerosL (cellsL e.zero) n).toArray ++ Builtin.zeroCells e.zero.cells (c - (l.len + n))) = (old ++ (zerosL (cellsL e.zero) n ++ zerosL (cellsL e.zero) (c - (l.len + n)))).toArray := by
      rw [← Array.append_assoc, hrow, List.append_assoc]
    have hzc' : ∀ k, Builtin.zeroCells e.zero.cells k = (zerosL (cellsL e.zero) k).toArray := fun k => by rw [zeroCells_eq, cells_list]
    by_cases h0 : n * e.size = 0
    · simp only [hz0 h0] at hrow' ⊢
      simp [Builtin.append_, h1, h2, h3, h4, h5, hasI, hwm, hnn, hbig', Nat.not_le.2 hlt, maxI64, hmax', hby', Question.forced, hold' _ hw2, h0, run_newRow, hzc']
      exact ⟨rfl, rfl⟩
    · simp [Builtin.append_, h1, h2, h3, h4, h5, hasI, hwm, hnn, hbig', Nat.not_le.2 hlt, maxI64, hmax', hby', Question.forced, hold' _ hw2, h0, run_newRow, hzc']
      exact ⟨rfl, rfl⟩

theorem rdCells_len {base : Option Addr} {n : Nat} {cs : List Value} (h' : RdCells h base n cs) : cs.length = n := h'.1

theorem eff_append (ok : tb.Ok P) {xs : Array Operand} {ts : Array TypeId} (hop : o.op = .call { callee := .builtin .append, args := xs, argTypes := ts }) {vs : List Value} (hvs : vals s ch xs.toList = some vs)
    (hv : appW tb (cnd s ch) ts.toList vs h K) : EffOk P o ch s h K := by
  have hargs : holds s ch → ∀ (β : Nat → Nat) (ρ : Operand → Value), (∀ x ∈ o.op.operands, Opnd β s ρ x) → xs.map ρ = vs.toArray := by
    intro hh β ρ ho
    have := vals_ok (β := β) (ρ := ρ) hh hvs fun x hx => ho x (by simp [hop, Op.operands, Call.operands]; simpa using hx)
    apply Array.ext'; simpa using this
  unfold appW at hv
  split at hv
  · rename_i p n c p' n' c' t t' hts

    have hts' : ts = #[t, t'] := by apply Array.ext'; simpa using hts
    split at hv
    · rename_i e e' hel hel'
      obtain ⟨y, u, hy, hu, hg⟩ := elemS_some hel
      obtain ⟨y', u', hy', hu', hg'⟩ := elemS_some hel'
      refine eff_value (f := fun (l : Sl) => .slice l.base l.len l.cap) hv fun hh β ρ w ho hs K hk => ?_
      obtain ⟨new, hnew, happ⟩ := hk
      obtain ⟨r, h', w', hr, hk', hst⟩ := run_append (P := P) (rt := o.type) (x := .slice p' n' c') (l := ⟨p, n, c⟩) ok hy hu hg hy' (by rw [hu']; intro k h; cases h) hs happ (fun w => rfl)
        (fun w hs => rd_cells hs hnew rfl) hnew.1
      refine ⟨r, h', w', ?_, hk', hst⟩
      simp only [execOp, hop, resolve, invoke, builtin, Sem.run_bind, Sem.run_pure, Result.andThen_ok, hargs hh β ρ ho, hts', hr]
    · exact hv.elim
  · rename_i p n c x t t' hts
    have hts' : ts = #[t, t'] := by apply Array.ext'; simpa using hts
    split at hv
    · rename_i e e' hel he'
      obtain ⟨y, u, hy, hu, hg⟩ := elemS_some hel
      split at hv
      · rename_i hu8 hstr
        cases hb1 : Nat.beq e.bytes 1 with
        | false => simp [hb1] at hv
        | true =>
          simp only [hb1, cond_true] at hv
          have hb1' := Nat.eq_of_beq_eq_true hb1
          have hsz : e.size = 1 := (ok.leaf u e hg (by rw [hu8]; rfl)).1
          refine eff_value (f := fun (l : Sl) => .slice l.base l.len l.cap) hv fun hh β ρ w ho hs K hk => ?_
          have hz : cellsL e.zero = [.int .u8 0] := ok.zero8 u e hg hu8
          have happ : AppCells e.size e.bytes (cellsL e.zero) ⟨p, n, c⟩ x.size (bytesL x) K h := by rw [hsz, hb1', hz]; exact hk
          obtain ⟨r, h', w', hr, hk', hst⟩ := run_append (P := P) (rt := o.type) (x := .string x) (l := ⟨p, n, c⟩) ok hy hu hg he' (by rw [hstr]; intro k h; cases h) hs happ (fun w => rfl)
            (fun w hs => by
              have : (x.extract 0 x.size) = x := by simp
              simp only [Builtin.firstCells, this, Sem.run_pure]
              congr 1
              apply Array.ext'
              simp [bytesL]) (by simp [bytesL, hsz])
          refine ⟨r, h', w', ?_, hk', hst⟩
          simp only [execOp, hop, resolve, invoke, builtin, Sem.run_bind, Sem.run_pure, Result.andThen_ok, hargs hh β ρ ho, hts', hr]
      · exact hv.elim
    · exact hv.elim
  · rename_i p n c m t t' hts
    have hts' : ts = #[t, t'] := by apply Array.ext'; simpa using hts
    split at hv
    · rename_i e e' hel he'
      obtain ⟨y, u, hy, hu, hg⟩ := elemS_some hel
      split at hv
      · rename_i hint
        refine eff_value (f := fun (l : Sl) => .slice l.base l.len l.cap) hv fun hh β ρ w ho hs K hk => ?_
        obtain ⟨hm, happ⟩ := hk
        obtain ⟨r, h', w', hr, hk', hst⟩ := run_appendZ (P := P) (rt := o.type) (l := ⟨p, n, c⟩) ok hy hu hg he' hint hs hm happ
        refine ⟨r, h', w', ?_, hk', hst⟩
        simp only [execOp, hop, resolve, invoke, builtin, Sem.run_bind, Sem.run_pure, Result.andThen_ok, hargs hh β ρ ho, hts', hr]
      · exact hv.elim
    · exact hv.elim
  · exact hv.elim

theorem eff_copy (ok : tb.Ok P) {xs : Array Operand} {ts : Array TypeId} (hop : o.op = .call { callee := .builtin .copy, args := xs, argTypes := ts }) {p p' : Option Addr} {n n' c c' : Nat} {t t' : Nat}
    (hvs : vals s ch xs.toList = some [.slice p n c, .slice p' n' c']) (hts : ts.toList = [t, t']) {e : Ty} (hel : elemS tb t = some e)
    (hv : EffC (cnd s ch) (CopyW e.size ⟨p, n, c⟩ ⟨p', n', c'⟩) (fun k h' => K (.v (.int .i64 k)) h') h) : EffOk P o ch s h K := by
  have hargs : holds s ch → ∀ (β : Nat → Nat) (ρ : Operand → Value), (∀ x ∈ o.op.operands, Opnd β s ρ x) → xs.map ρ = #[.slice p n c, .slice p' n' c'] := by
    intro hh β ρ ho
    have := vals_ok (β := β) (ρ := ρ) hh hvs fun x hx => ho x (by simp [hop, Op.operands, Call.operands]; simpa using hx)
    apply Array.ext'; simpa using this
  have hts' : ts = #[t, t'] := by apply Array.ext'; simpa using hts
  obtain ⟨y, u, hy, hu, hg⟩ := elemS_some hel
  refine eff_value (f := fun (k : Int) => .int .i64 k) hv fun hh β ρ w ho hs K hk => ?_
  obtain ⟨new, hnew, hokc, hst, hk'⟩ := hk
  have h1 := fun w => run_underlying' ok hy w
  have h3 := fun w => run_sizeOf' ok hg w
  rw [hu] at h1
  have hmin : Nat.min n' n = min n' n := rfl
  have hrd : (Builtin.firstCells e.size (min n' n) (.slice p' n' c')).run P w = .ok new.toArray w := by
    have := rd_cells (P := P) (m := min n' n) (c := c') hs hnew rfl
    cases p' <;> exact this
  cases hp : p with
  | none =>
    subst hp
    refine ⟨_, _, w, ?_, hk', by simp only [putO]; exact .refl hs⟩
    simp only [execOp, hop, resolve, invoke, builtin, Sem.run_bind, Sem.run_pure, Result.andThen_ok, hargs hh β ρ ho, hts']
    simp [Builtin.copy_, h1, h3, Builtin.lenOf, hmin, hrd, goInt]
  | some a =>
    subst hp
    obtain ⟨w', hr, hstep⟩ := run_storeCells (P := P) (a := a) new 0 h w hs hokc (fun j hj => by
      have := stOk_get (hst a rfl) j (by rw [hnew.1] at hj; exact hj)
      simpa using this)
    refine ⟨_, _, w', ?_, hk', by simp only [putO, show a.add 0 = a from by simp [Addr.add]]; exact hstep⟩
    simp only [execOp, hop, resolve, invoke, builtin, Sem.run_bind, Sem.run_pure, Result.andThen_ok, hargs hh β ρ ho, hts']
    simp [Builtin.copy_, h1, h3, Builtin.lenOf, hmin, hrd, goInt, hr]

theorem eff_make (ok : tb.Ok P) {t : Nat} {x y : Operand} (hop : o.op = .makeSlice t x y) {m n : Int} {e : Ty} (hex : ev s ch x = some (.v (.int .i64 m))) (hey : ev s ch y = some (.v (.int .i64 n)))
    (hel : elemS tb t = some e) (hv : EffC (cnd s ch) (MakeW e.bytes (cellsL e.zero) m n) (fun l h' => K (.v (.slice l.base l.len l.cap)) h') h) : EffOk P o ch s h K := by
  obtain ⟨y', u, hy, hu, hg⟩ := elemS_some hel
  refine eff_value (f := fun (l : Sl) => .slice l.base l.len l.cap) hv fun hh β ρ w ho hs K hk => ?_
  obtain ⟨⟨h0, hle, hc1, hc2⟩, hk'⟩ := hk
  have hx : ρ x = _ := ev_ok (ho x (by simp [hop, Op.operands])) hh hex
  have hy2 : ρ y = _ := ev_ok (ho y (by simp [hop, Op.operands])) hh hey
  have h1 := run_underlying' ok hy w
  rw [hu] at h1
  have h3 := fun w => run_sizeOf' ok hg w
  have h5 := fun w => run_zeroValue' ok hg w
  obtain ⟨i, hi, _, hib, _⟩ := ok.info u e hg
  have h4 : ∀ w, (typeInfo u).run P w = .ok i w := fun w => by simp [typeInfo, hi]
  have hzl := ok.zlen u e hg
  have wm : IntKind.i64.wrap m = m := by simp [IntKind.wrap, IntKind.bits, IntKind.signed]; omega
  have wn : IntKind.i64.wrap n = n := by simp [IntKind.wrap, IntKind.bits, IntKind.signed]; omega
  have hc2' : ¬ ((e.bytes : Int) * n > 281474976710656) := by
    have e1 : ((n.toNat * e.bytes : Nat) : Int) = (e.bytes : Int) * n := by
      rw [Int.natCast_mul, Int.toNat_of_nonneg (by omega), Int.mul_comm]
    omega
  obtain ⟨hn, hst⟩ := step_new hs (.cells (zerosL (cellsL e.zero) n.toNat).toArray u)
  refine ⟨_, _, _, ?_, hk' _ u hn, hst⟩
  have g1 : ¬ n < 0 := by omega
  have g2 : ¬ m < 0 := by omega
  have g3 : ¬ m > n := by omega
  have hcond : ((n < 0 || decide ((e.bytes : Int) * n > 2 ^ 48)) || decide (m < 0) || decide (m > n)) = false := by
    simp [g1, g2, g3]; omega
  have hrow : (if n.toNat * e.size = 0 then (#[] : Array Value) else e.zero.cells) = e.zero.cells ∨ n.toNat * e.size = 0 := by
    by_cases h : n.toNat * e.size = 0
    · exact .inr h
    · exact .inl (by simp [h])
  have hz : (Array.range (n.toNat * e.size)).map (fun i => e.zero.cells[i % e.zero.cells.size]!) = (zerosL (cellsL e.zero) n.toNat).toArray := by
    have := zeros_arr (cellsL e.zero) n.toNat e.size hzl
    rw [zerosL_eq, ← this]
    have e2 : e.zero.cells = (cellsL e.zero).toArray := by apply Array.ext'; simp [cells_list]
    rw [e2]
  simp only [execOp, hop, hx, hy2, LVal, Instr.makeSlice, Sem.run_bind, h1, Result.andThen_ok, asInt, asIntOf, Sem.run_pure, h4, wm, wn, hib]
  have hb : ((n < 0 || decide ((e.bytes : Int) * n > 2 ^ 48)) || decide (m < 0) || decide (m > n)) = false := hcond
  simp only [hb, Bool.false_eq_true, if_false, Sem.run_bind, run_askRoom, Result.andThen_ok, h3]
  by_cases h00 : n.toNat * e.size = 0
  · have hz0 : (zerosL (cellsL e.zero) n.toNat).toArray = #[] := by rw [← hz, h00]; simp
    simp [h00, hz0, run_newRow]
    have : ∀ g : Nat → Value, Array.map g (Array.range 0) = #[] := fun g => by apply Array.ext'; simp
    rw [this]
  · simp [h00, h5, run_newRow, hz]

end
end Lf

/-
  The lifting layer, part 13: maps, texts as bytes, calls; whatever is told of an operation is so.
-/
namespace Lf
open Go

section
variable {P : Program} {tb : Tb} {o : Oper} {ch : Chain} {s : St} {h : Hp} {K : LV → Hp → Prop}

theorem eff_makeMap {t : Nat} (hop : o.op = .makeMap t none) (hv : EffC (cnd s ch) MakeMapW (fun m h' => K (.v (.map m)) h') h) : EffOk P o ch s h K := by
  refine eff_value (f := fun m => .map m) hv fun hh β ρ w ho hs K hk => ?_
  obtain ⟨hn, hst⟩ := step_new hs (.map #[] 0)
  refine ⟨_, _, _, ?_, hk _ hn, hst⟩
  simp [execOp, hop, Instr.makeMap]

theorem freeze_step {h : Hp} {w : World} {cs : List Value} {t : Nat} (hs : Sub h w) :
    h w.heap.size = none ∧ Step h (h.set w.heap.size (.cells cs.toArray t (cs.length, cs.length + 1))) w { w with heap := w.heap.push (.cells cs.toArray t (cs.length, cs.length + 1)) } :=
  step_new hs _

theorem modify_push (h : Array Obj) (o : Obj) (g : Obj → Obj) : (h.push o).modify h.size g = h.push (g o) := by
  apply Array.ext_getElem?
  intro i
  rw [Array.getElem?_modify]
  by_cases hi : h.size = i
  · subst hi; simp
  · simp only [if_neg hi, Array.getElem?_push, if_neg (Ne.symm hi)]

theorem eff_bytes (ok : tb.Ok P) {src dst : Nat} {x : Operand} (hop : o.op = .convert src dst x) {b : ByteArray} {e g : Ty} (hex : ev s ch x = some (.v (.string b))) (hsrc : tb.ty src = some e)
    (hel : elemS tb dst = some g) (he : e.und = .string) (hg8 : g.und = .int .u8)
    (hv : EffC (cnd s ch) (BytesW b) (fun l h' => K (.v (.slice l.base l.len l.cap)) h') h) : EffOk P o ch s h K := by
  obtain ⟨y, u, hy, hu, hg⟩ := elemS_some hel
  refine eff_value (f := fun (l : Sl) => .slice l.base l.len l.cap) hv fun hh β ρ w ho hs K hk => ?_
  have hx : ρ x = _ := ev_ok (ho x (by simp [hop, Op.operands])) hh hex
  have h1 := fun w => run_underlying' ok hsrc w
  have h2 := fun w => run_underlying' ok hy w
  have h3 := fun w => run_underlying' ok hg w
  rw [he] at h1; rw [hu] at h2; rw [hg8] at h3
  let c := (Question.appendCap b.size 0 u).cut (w.tape w.drawn (.appendCap b.size 0 u))
  have hc : b.size ≤ c := by simp only [c, Question.cut]; omega
  have hw1 : Sub h w.drew := hs
  let cs := bytesL b ++ zerosL [.int .u8 0] (c - b.size)
  have hcl : cs.length = c := by
    have : (bytesL b).length = b.size := by simp [bytesL]
    simp only [cs, List.length_append, zerosL_eq, repL_length, this]; simp; omega
  obtain ⟨hn, hst⟩ := step_new hw1 (.cells cs.toArray u (c, c + 1))
  refine ⟨_, _, _, ?_, hk c _ u hc hn, Step.drew hst⟩
  have harr : (b.data.map fun x => (.int .u8 x.toNat : Value)) ++ Array.replicate (c - b.size) (.int .u8 0) = cs.toArray := by
    apply Array.ext'
    simp only [cs, bytesL, zerosL_eq]
    have : ∀ n, List.replicate n (.int .u8 0 : Value) = repL [.int .u8 0] n := by
      intro n; induction n with
      | zero => rfl
      | succ n ih => simp only [List.replicate_succ, repL, ih]; rfl
    simp [this]
  simp only [execOp, hop, hx, LVal, convert, Sem.run_bind, h1, h2, h3, Result.andThen_ok, Conv.stringToBytes, run_choose, Question.forced, Bool.false_eq_true, if_false, run_newRow, Sem.run_pure]
  change _ = Result.ok (Next.value (.slice (some ⟨w.heap.size, 0, none⟩) b.size c)) _
  rw [show ((Question.appendCap b.size 0 u).cut (w.tape w.drawn (.appendCap b.size 0 u))) = c from rfl, harr]
  have hsh : ({ w.drew with heap := w.heap.push (.cells cs.toArray u) } : World).shape? w.heap.size = some (u, c) := by
    simp [World.shape?, hcl]
  have hfz : ({ w.drew with heap := w.heap.push (.cells cs.toArray u) } : World).freeze ⟨w.heap.size, c, none⟩ 1 = { w.drew with heap := w.heap.push (.cells cs.toArray u (c, c + 1)) } := by
    simp only [World.freeze, Nat.one_ne_zero, if_false]
    congr 1
    exact modify_push _ _ _
  have hms : (markStringish ⟨w.heap.size, 0, none⟩).run P { w.drew with heap := w.heap.push (.cells cs.toArray u) } = .ok () { w.drew with heap := w.heap.push (.cells cs.toArray u (c, c + 1)) } := by
    simp only [markStringish, Sem.run_bind, run_shape, Result.andThen_ok, hsh, run_freeze]
    rw [hfz]
  change (((markStringish ⟨w.heap.size, 0, none⟩).run P { w.drew with heap := w.heap.push (.cells cs.toArray u) }).andThen _).andThen _ = _
  rw [hms]
  rfl

theorem modify_at (h : Array Obj) (b : Nat) (o : Obj) (g : Obj → Obj) (e : h[b]? = some o) : h.modify b g = h.setIfInBounds b (g o) := by
  apply Array.ext_getElem?
  intro i
  rw [Array.getElem?_modify, Array.getElem?_setIfInBounds]
  by_cases hi : b = i
  · subst hi
    have hlt : b < h.size := (Array.getElem?_eq_some_iff.1 e).1
    rw [if_pos rfl, if_pos rfl, e]
    simp [hlt]
  · rw [if_neg hi, if_neg hi]

theorem eff_mark (ok : tb.Ok P) {src dst : Nat} {x : Operand} (hop : o.op = .convert src dst x) {p : Option Addr} {n c : Nat} {e g : Ty} {u0 : Nat} (hex : ev s ch x = some (.v (.slice p n c))) (hsrc : tb.ty src = some e)
    (hel : elemS tb dst = some g) (he : e.und = .slice u0) (hg8 : g.und = .int .u8) (hsd : src = dst)
    (hv : EffC (cnd s ch) (MarkW p) (fun _ h' => K (.v (.slice p n c)) h') h) : EffOk P o ch s h K := by
  obtain ⟨y, u, hy, hu, hg⟩ := elemS_some hel
  refine eff_value (f := fun (_ : Unit) => .slice p n c) hv fun hh β ρ w ho hs K hk => ?_
  have hx : ρ x = _ := ev_ok (ho x (by simp [hop, Op.operands])) hh hex
  have h1 := fun w => run_underlying' ok hsrc w
  have h2 := fun w => run_underlying' ok hy w
  have h3 := fun w => run_underlying' ok hg w
  rw [he] at h1; rw [hu] at h2; rw [hg8] at h3
  obtain ⟨b, off, cs, t, rfl, hb, hk⟩ := hk
  have hst := step_set hs hb (o := .cells cs t (cs.size, cs.size + 1))
  refine ⟨_, _, _, ?_, hk, hst⟩
  have hbw : w.heap[b]? = some (.cells cs t (0, 0)) := hs _ _ hb
  have hfz : w.freeze ⟨b, cs.size, none⟩ 1 = { w with heap := w.heap.setIfInBounds b (.cells cs t (cs.size, cs.size + 1)) } := by
    simp only [World.freeze, Nat.one_ne_zero, if_false]
    congr 1
    exact modify_at _ _ _ _ hbw
  have hms : (markStringish ⟨b, off, none⟩).run P w = .ok () { w with heap := w.heap.setIfInBounds b (.cells cs t (cs.size, cs.size + 1)) } := by
    have hsh : w.shape? b = some (t, cs.size) := by simp [World.shape?, hbw]
    simp only [markStringish, Sem.run_bind, run_shape, Result.andThen_ok, hsh, run_freeze]
    rw [hfz]
  have hbe : (src == dst) = true := by rw [hsd]; simp
  simp only [execOp, hop, hx, LVal, convert, Sem.run_bind, h1, h2, h3, Result.andThen_ok, hbe, hms, Sem.run_pure]

end
end Lf

