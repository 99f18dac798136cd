/-
  By program: a call does what its text tells.
-/
import Derived.Test.YtoffikpplbiohaaLfFun
import Derived.Test.YtoffikpplbiohaaLfAnn
import Derived.Test.YtoffikpplbiohaaLfOk
set_option maxRecDepth 100000
namespace Lf
open Go Go.Proofs

theorem firebreaklaw02_TableNames_eq  (Q : (Bool → (Hp → Prop))) (h : Hp) : funW ⟨Try.prog, tb, firebreaklaw02_TableNames_p⟩ Try.f3 firebreaklaw02_TableNames_a [] (Q) h = firebreaklaw02_TableNames_w Try.prog  Q h := by kernel_rfl
theorem firebreaklaw02_TableNames_call {Q : (Bool → (Hp → Prop))} {h : Hp} (hv : firebreaklaw02_TableNames_w Try.prog  Q h) : CallT Try.prog n_firebreaklaw02_TableNames [] (shBool) Q h :=
  show CallT Try.prog n_firebreaklaw02_TableNames [] (shRes tb [4]) (Q) h from fun_sound (C := ⟨Try.prog, tb, firebreaklaw02_TableNames_p⟩) tb_ok Try.func3 rfl (Eq.mpr (firebreaklaw02_TableNames_eq  Q h) hv)

theorem firebreaklaw02_TableTells_eq (l : Sl) (asks : Sl) (numbers : Sl) (Q : (Bool → (Hp → Prop))) (h : Hp) : funW ⟨Try.prog, tb, firebreaklaw02_TableTells_p⟩ Try.f4 firebreaklaw02_TableTells_a [(shSl).enc l, (shSl).enc asks, (shSl).enc numbers] (Q) h = firebreaklaw02_TableTells_w Try.prog l asks numbers Q h := by kernel_rfl
theorem firebreaklaw02_TableTells_call {l : Sl} {asks : Sl} {numbers : Sl} {Q : (Bool → (Hp → Prop))} {h : Hp} (hv : firebreaklaw02_TableTells_w Try.prog l asks numbers Q h) : CallT Try.prog n_firebreaklaw02_TableTells [(shSl).enc l, (shSl).enc asks, (shSl).enc numbers] (shBool) Q h :=
  show CallT Try.prog n_firebreaklaw02_TableTells [(shSl).enc l, (shSl).enc asks, (shSl).enc numbers] (shRes tb [4]) (Q) h from fun_sound (C := ⟨Try.prog, tb, firebreaklaw02_TableTells_p⟩) tb_ok Try.func4 rfl (Eq.mpr (firebreaklaw02_TableTells_eq l asks numbers Q h) hv)

theorem firebreaklaw11_WheelNames_eq  (Q : (Bool → (Hp → Prop))) (h : Hp) : funW ⟨Try.prog, tb, firebreaklaw11_WheelNames_p⟩ Try.f5 firebreaklaw11_WheelNames_a [] (Q) h = firebreaklaw11_WheelNames_w Try.prog  Q h := by kernel_rfl
theorem firebreaklaw11_WheelNames_call {Q : (Bool → (Hp → Prop))} {h : Hp} (hv : firebreaklaw11_WheelNames_w Try.prog  Q h) : CallT Try.prog n_firebreaklaw11_WheelNames [] (shBool) Q h :=
  show CallT Try.prog n_firebreaklaw11_WheelNames [] (shRes tb [4]) (Q) h from fun_sound (C := ⟨Try.prog, tb, firebreaklaw11_WheelNames_p⟩) tb_ok Try.func5 rfl (Eq.mpr (firebreaklaw11_WheelNames_eq  Q h) hv)

theorem firebreaklaw11_WheelTurns_eq (script : Sl) (Q : (Bool → (Hp → Prop))) (h : Hp) : funW ⟨Try.prog, tb, firebreaklaw11_WheelTurns_p⟩ Try.f6 firebreaklaw11_WheelTurns_a [(shSl).enc script] (Q) h = firebreaklaw11_WheelTurns_w Try.prog script Q h := by kernel_rfl
theorem firebreaklaw11_WheelTurns_call {script : Sl} {Q : (Bool → (Hp → Prop))} {h : Hp} (hv : firebreaklaw11_WheelTurns_w Try.prog script Q h) : CallT Try.prog n_firebreaklaw11_WheelTurns [(shSl).enc script] (shBool) Q h :=
  show CallT Try.prog n_firebreaklaw11_WheelTurns [(shSl).enc script] (shRes tb [4]) (Q) h from fun_sound (C := ⟨Try.prog, tb, firebreaklaw11_WheelTurns_p⟩) tb_ok Try.func6 rfl (Eq.mpr (firebreaklaw11_WheelTurns_eq script Q h) hv)

theorem firebreaklaw11_WheelOnce_eq (l : Sl) (gone : Sl) (nows : Sl) (Q : (Bool → (Hp → Prop))) (h : Hp) : funW ⟨Try.prog, tb, firebreaklaw11_WheelOnce_p⟩ Try.f7 firebreaklaw11_WheelOnce_a [(shSl).enc l, (shSl).enc gone, (shSl).enc nows] (Q) h = firebreaklaw11_WheelOnce_w Try.prog l gone nows Q h := by kernel_rfl
theorem firebreaklaw11_WheelOnce_call {l : Sl} {gone : Sl} {nows : Sl} {Q : (Bool → (Hp → Prop))} {h : Hp} (hv : firebreaklaw11_WheelOnce_w Try.prog l gone nows Q h) : CallT Try.prog n_firebreaklaw11_WheelOnce [(shSl).enc l, (shSl).enc gone, (shSl).enc nows] (shBool) Q h :=
  show CallT Try.prog n_firebreaklaw11_WheelOnce [(shSl).enc l, (shSl).enc gone, (shSl).enc nows] (shRes tb [4]) (Q) h from fun_sound (C := ⟨Try.prog, tb, firebreaklaw11_WheelOnce_p⟩) tb_ok Try.func7 rfl (Eq.mpr (firebreaklaw11_WheelOnce_eq l gone nows Q h) hv)

theorem firebreaklaw02_awake_eq  (Q : (Bool → (Hp → Prop))) (h : Hp) : funW ⟨Try.prog, tb, firebreaklaw02_awake_p⟩ Try.f8 firebreaklaw02_awake_a [] (Q) h = firebreaklaw02_awake_w Try.prog  Q h := by kernel_rfl
theorem firebreaklaw02_awake_call {Q : (Bool → (Hp → Prop))} {h : Hp} (hv : firebreaklaw02_awake_w Try.prog  Q h) : CallT Try.prog n_firebreaklaw02_awake [] (shBool) Q h :=
  show CallT Try.prog n_firebreaklaw02_awake [] (shRes tb [4]) (Q) h from fun_sound (C := ⟨Try.prog, tb, firebreaklaw02_awake_p⟩) tb_ok Try.func8 rfl (Eq.mpr (firebreaklaw02_awake_eq  Q h) hv)

theorem firebreakref02_Canon_eq (l : Sl) (Q : (Sl → (Hp → Prop))) (h : Hp) : funW ⟨Try.prog, tb, firebreakref02_Canon_p⟩ Try.f9 firebreakref02_Canon_a [(shSl).enc l] (Q) h = firebreakref02_Canon_w Try.prog l Q h := by kernel_rfl
theorem firebreakref02_Canon_call {l : Sl} {Q : (Sl → (Hp → Prop))} {h : Hp} (hv : firebreakref02_Canon_w Try.prog l Q h) : CallT Try.prog n_firebreakref02_Canon [(shSl).enc l] (shSl) Q h :=
  show CallT Try.prog n_firebreakref02_Canon [(shSl).enc l] (shRes tb [23]) (Q) h from fun_sound (C := ⟨Try.prog, tb, firebreakref02_Canon_p⟩) tb_ok Try.func9 rfl (Eq.mpr (firebreakref02_Canon_eq l Q h) hv)

theorem table_New_eq (l : Sl) (Q : (Option Addr → (Int → (Int → (Hp → Prop))))) (h : Hp) : funW ⟨Try.prog, tb, table_New_p⟩ Try.f10 table_New_a [(shSl).enc l] (fun r => Q r.1 r.2.1 r.2.2) h = table_New_w Try.prog l Q h := by kernel_rfl
theorem table_New_call {l : Sl} {Q : (Option Addr → (Int → (Int → (Hp → Prop))))} {h : Hp} (hv : table_New_w Try.prog l Q h) : Call3 Try.prog n_table_New [(shSl).enc l] (shPtr) (shInt .i64) (shInt .i64) Q h :=
  show CallT Try.prog n_table_New [(shSl).enc l] (shRes tb [26, 27, 3]) (fun r => Q r.1 r.2.1 r.2.2) h from fun_sound (C := ⟨Try.prog, tb, table_New_p⟩) tb_ok Try.func10 rfl (Eq.mpr (table_New_eq l Q h) hv)

theorem firebreaklaw02_wide_eq (l : Sl) (Q : (Sl → (Hp → Prop))) (h : Hp) : funW ⟨Try.prog, tb, firebreaklaw02_wide_p⟩ Try.f11 firebreaklaw02_wide_a [(shSl).enc l] (Q) h = firebreaklaw02_wide_w Try.prog l Q h := by kernel_rfl
theorem firebreaklaw02_wide_call {l : Sl} {Q : (Sl → (Hp → Prop))} {h : Hp} (hv : firebreaklaw02_wide_w Try.prog l Q h) : CallT Try.prog n_firebreaklaw02_wide [(shSl).enc l] (shSl) Q h :=
  show CallT Try.prog n_firebreaklaw02_wide [(shSl).enc l] (shRes tb [23]) (Q) h from fun_sound (C := ⟨Try.prog, tb, firebreaklaw02_wide_p⟩) tb_ok Try.func11 rfl (Eq.mpr (firebreaklaw02_wide_eq l Q h) hv)

theorem table_Table_Len_eq (t : Option Addr) (Q : (Int → (Hp → Prop))) (h : Hp) : funW ⟨Try.prog, tb, table_Table_Len_p⟩ Try.f12 table_Table_Len_a [(shPtr).enc t] (Q) h = table_Table_Len_w Try.prog t Q h := by kernel_rfl
theorem table_Table_Len_call {t : Option Addr} {Q : (Int → (Hp → Prop))} {h : Hp} (hv : table_Table_Len_w Try.prog t Q h) : CallT Try.prog n_table_Table_Len [(shPtr).enc t] (shInt .i64) Q h :=
  show CallT Try.prog n_table_Table_Len [(shPtr).enc t] (shRes tb [3]) (Q) h from fun_sound (C := ⟨Try.prog, tb, table_Table_Len_p⟩) tb_ok Try.func12 rfl (Eq.mpr (table_Table_Len_eq t Q h) hv)

theorem table_Table_Label_eq (t : Option Addr) (i : Int) (Q : (Int → (Int → (Hp → Prop)))) (h : Hp) : funW ⟨Try.prog, tb, table_Table_Label_p⟩ Try.f13 table_Table_Label_a [(shPtr).enc t, (shInt .i64).enc i] (fun r => Q r.1 r.2) h = table_Table_Label_w Try.prog t i Q h := by kernel_rfl
theorem table_Table_Label_call {t : Option Addr} {i : Int} {Q : (Int → (Int → (Hp → Prop)))} {h : Hp} (hv : table_Table_Label_w Try.prog t i Q h) : Call2 Try.prog n_table_Table_Label [(shPtr).enc t, (shInt .i64).enc i] (shInt .u64) (shInt .i64) Q h :=
  show CallT Try.prog n_table_Table_Label [(shPtr).enc t, (shInt .i64).enc i] (shRes tb [31, 27]) (fun r => Q r.1 r.2) h from fun_sound (C := ⟨Try.prog, tb, table_Table_Label_p⟩) tb_ok Try.func13 rfl (Eq.mpr (table_Table_Label_eq t i Q h) hv)

theorem firebreakref02_SameInts_eq (a : Sl) (b : Sl) (Q : (Bool → (Hp → Prop))) (h : Hp) : funW ⟨Try.prog, tb, firebreakref02_SameInts_p⟩ Try.f14 firebreakref02_SameInts_a [(shSl).enc a, (shSl).enc b] (Q) h = firebreakref02_SameInts_w Try.prog a b Q h := by kernel_rfl
theorem firebreakref02_SameInts_call {a : Sl} {b : Sl} {Q : (Bool → (Hp → Prop))} {h : Hp} (hv : firebreakref02_SameInts_w Try.prog a b Q h) : CallT Try.prog n_firebreakref02_SameInts [(shSl).enc a, (shSl).enc b] (shBool) Q h :=
  show CallT Try.prog n_firebreakref02_SameInts [(shSl).enc a, (shSl).enc b] (shRes tb [4]) (Q) h from fun_sound (C := ⟨Try.prog, tb, firebreakref02_SameInts_p⟩) tb_ok Try.func14 rfl (Eq.mpr (firebreakref02_SameInts_eq a b Q h) hv)

theorem table_Table_Up_eq (t : Option Addr) (i : Int) (Q : (Sl → (Hp → Prop))) (h : Hp) : funW ⟨Try.prog, tb, table_Table_Up_p⟩ Try.f15 table_Table_Up_a [(shPtr).enc t, (shInt .i64).enc i] (Q) h = table_Table_Up_w Try.prog t i Q h := by kernel_rfl
theorem table_Table_Up_call {t : Option Addr} {i : Int} {Q : (Sl → (Hp → Prop))} {h : Hp} (hv : table_Table_Up_w Try.prog t i Q h) : CallT Try.prog n_table_Table_Up [(shPtr).enc t, (shInt .i64).enc i] (shSl) Q h :=
  show CallT Try.prog n_table_Table_Up [(shPtr).enc t, (shInt .i64).enc i] (shRes tb [24]) (Q) h from fun_sound (C := ⟨Try.prog, tb, table_Table_Up_p⟩) tb_ok Try.func15 rfl (Eq.mpr (table_Table_Up_eq t i Q h) hv)

theorem firebreakref02_Up_eq (l : Sl) (i : Int) (Q : (Sl → (Hp → Prop))) (h : Hp) : funW ⟨Try.prog, tb, firebreakref02_Up_p⟩ Try.f16 firebreakref02_Up_a [(shSl).enc l, (shInt .i64).enc i] (Q) h = firebreakref02_Up_w Try.prog l i Q h := by kernel_rfl
theorem firebreakref02_Up_call {l : Sl} {i : Int} {Q : (Sl → (Hp → Prop))} {h : Hp} (hv : firebreakref02_Up_w Try.prog l i Q h) : CallT Try.prog n_firebreakref02_Up [(shSl).enc l, (shInt .i64).enc i] (shSl) Q h :=
  show CallT Try.prog n_firebreakref02_Up [(shSl).enc l, (shInt .i64).enc i] (shRes tb [24]) (Q) h from fun_sound (C := ⟨Try.prog, tb, firebreakref02_Up_p⟩) tb_ok Try.func16 rfl (Eq.mpr (firebreakref02_Up_eq l i Q h) hv)

theorem table_Table_Flows_eq (t : Option Addr) (i : Int) (j : Int) (Q : (Bool → (Hp → Prop))) (h : Hp) : funW ⟨Try.prog, tb, table_Table_Flows_p⟩ Try.f17 table_Table_Flows_a [(shPtr).enc t, (shInt .i64).enc i, (shInt .i64).enc j] (Q) h = table_Table_Flows_w Try.prog t i j Q h := by kernel_rfl
theorem table_Table_Flows_call {t : Option Addr} {i : Int} {j : Int} {Q : (Bool → (Hp → Prop))} {h : Hp} (hv : table_Table_Flows_w Try.prog t i j Q h) : CallT Try.prog n_table_Table_Flows [(shPtr).enc t, (shInt .i64).enc i, (shInt .i64).enc j] (shBool) Q h :=
  show CallT Try.prog n_table_Table_Flows [(shPtr).enc t, (shInt .i64).enc i, (shInt .i64).enc j] (shRes tb [4]) (Q) h from fun_sound (C := ⟨Try.prog, tb, table_Table_Flows_p⟩) tb_ok Try.func17 rfl (Eq.mpr (table_Table_Flows_eq t i j Q h) hv)

theorem firebreakref02_Flows_eq (l : Sl) (i : Int) (j : Int) (Q : (Bool → (Hp → Prop))) (h : Hp) : funW ⟨Try.prog, tb, firebreakref02_Flows_p⟩ Try.f18 firebreakref02_Flows_a [(shSl).enc l, (shInt .i64).enc i, (shInt .i64).enc j] (Q) h = firebreakref02_Flows_w Try.prog l i j Q h := by kernel_rfl
theorem firebreakref02_Flows_call {l : Sl} {i : Int} {j : Int} {Q : (Bool → (Hp → Prop))} {h : Hp} (hv : firebreakref02_Flows_w Try.prog l i j Q h) : CallT Try.prog n_firebreakref02_Flows [(shSl).enc l, (shInt .i64).enc i, (shInt .i64).enc j] (shBool) Q h :=
  show CallT Try.prog n_firebreakref02_Flows [(shSl).enc l, (shInt .i64).enc i, (shInt .i64).enc j] (shRes tb [4]) (Q) h from fun_sound (C := ⟨Try.prog, tb, firebreakref02_Flows_p⟩) tb_ok Try.func18 rfl (Eq.mpr (firebreakref02_Flows_eq l i j Q h) hv)

theorem table_Table_Index_eq (t : Option Addr) (a : Int) (Q : (Int → (Bool → (Hp → Prop)))) (h : Hp) : funW ⟨Try.prog, tb, table_Table_Index_p⟩ Try.f19 table_Table_Index_a [(shPtr).enc t, (shInt .u64).enc a] (fun r => Q r.1 r.2) h = table_Table_Index_w Try.prog t a Q h := by kernel_rfl
theorem table_Table_Index_call {t : Option Addr} {a : Int} {Q : (Int → (Bool → (Hp → Prop)))} {h : Hp} (hv : table_Table_Index_w Try.prog t a Q h) : Call2 Try.prog n_table_Table_Index [(shPtr).enc t, (shInt .u64).enc a] (shInt .i64) (shBool) Q h :=
  show CallT Try.prog n_table_Table_Index [(shPtr).enc t, (shInt .u64).enc a] (shRes tb [3, 4]) (fun r => Q r.1 r.2) h from fun_sound (C := ⟨Try.prog, tb, table_Table_Index_p⟩) tb_ok Try.func19 rfl (Eq.mpr (table_Table_Index_eq t a Q h) hv)

theorem firebreakref02_Index_eq (l : Sl) (a : Int) (Q : (Int → (Bool → (Hp → Prop)))) (h : Hp) : funW ⟨Try.prog, tb, firebreakref02_Index_p⟩ Try.f20 firebreakref02_Index_a [(shSl).enc l, (shInt .u64).enc a] (fun r => Q r.1 r.2) h = firebreakref02_Index_w Try.prog l a Q h := by kernel_rfl
theorem firebreakref02_Index_call {l : Sl} {a : Int} {Q : (Int → (Bool → (Hp → Prop)))} {h : Hp} (hv : firebreakref02_Index_w Try.prog l a Q h) : Call2 Try.prog n_firebreakref02_Index [(shSl).enc l, (shInt .u64).enc a] (shInt .i64) (shBool) Q h :=
  show CallT Try.prog n_firebreakref02_Index [(shSl).enc l, (shInt .u64).enc a] (shRes tb [3, 4]) (fun r => Q r.1 r.2) h from fun_sound (C := ⟨Try.prog, tb, firebreakref02_Index_p⟩) tb_ok Try.func20 rfl (Eq.mpr (firebreakref02_Index_eq l a Q h) hv)

theorem table_Table_Down_eq (t : Option Addr) (a : Int) (Q : (Sl → (Hp → Prop))) (h : Hp) : funW ⟨Try.prog, tb, table_Table_Down_p⟩ Try.f21 table_Table_Down_a [(shPtr).enc t, (shInt .u64).enc a] (Q) h = table_Table_Down_w Try.prog t a Q h := by kernel_rfl
theorem table_Table_Down_call {t : Option Addr} {a : Int} {Q : (Sl → (Hp → Prop))} {h : Hp} (hv : table_Table_Down_w Try.prog t a Q h) : CallT Try.prog n_table_Table_Down [(shPtr).enc t, (shInt .u64).enc a] (shSl) Q h :=
  show CallT Try.prog n_table_Table_Down [(shPtr).enc t, (shInt .u64).enc a] (shRes tb [24]) (Q) h from fun_sound (C := ⟨Try.prog, tb, table_Table_Down_p⟩) tb_ok Try.func21 rfl (Eq.mpr (table_Table_Down_eq t a Q h) hv)

theorem firebreakref02_Down_eq (l : Sl) (a : Int) (Q : (Sl → (Hp → Prop))) (h : Hp) : funW ⟨Try.prog, tb, firebreakref02_Down_p⟩ Try.f22 firebreakref02_Down_a [(shSl).enc l, (shInt .u64).enc a] (Q) h = firebreakref02_Down_w Try.prog l a Q h := by kernel_rfl
theorem firebreakref02_Down_call {l : Sl} {a : Int} {Q : (Sl → (Hp → Prop))} {h : Hp} (hv : firebreakref02_Down_w Try.prog l a Q h) : CallT Try.prog n_firebreakref02_Down [(shSl).enc l, (shInt .u64).enc a] (shSl) Q h :=
  show CallT Try.prog n_firebreakref02_Down [(shSl).enc l, (shInt .u64).enc a] (shRes tb [24]) (Q) h from fun_sound (C := ⟨Try.prog, tb, firebreakref02_Down_p⟩) tb_ok Try.func22 rfl (Eq.mpr (firebreakref02_Down_eq l a Q h) hv)

theorem firebreaklaw11_cleared_eq  (Q : (Bool → (Hp → Prop))) (h : Hp) : funW ⟨Try.prog, tb, firebreaklaw11_cleared_p⟩ Try.f23 firebreaklaw11_cleared_a [] (Q) h = firebreaklaw11_cleared_w Try.prog  Q h := by kernel_rfl
theorem firebreaklaw11_cleared_call {Q : (Bool → (Hp → Prop))} {h : Hp} (hv : firebreaklaw11_cleared_w Try.prog  Q h) : CallT Try.prog n_firebreaklaw11_cleared [] (shBool) Q h :=
  show CallT Try.prog n_firebreaklaw11_cleared [] (shRes tb [4]) (Q) h from fun_sound (C := ⟨Try.prog, tb, firebreaklaw11_cleared_p⟩) tb_ok Try.func23 rfl (Eq.mpr (firebreaklaw11_cleared_eq  Q h) hv)

theorem firebreaklaw11_fixed_eq  (Q : (Bool → (Hp → Prop))) (h : Hp) : funW ⟨Try.prog, tb, firebreaklaw11_fixed_p⟩ Try.f24 firebreaklaw11_fixed_a [] (Q) h = firebreaklaw11_fixed_w Try.prog  Q h := by kernel_rfl
theorem firebreaklaw11_fixed_call {Q : (Bool → (Hp → Prop))} {h : Hp} (hv : firebreaklaw11_fixed_w Try.prog  Q h) : CallT Try.prog n_firebreaklaw11_fixed [] (shBool) Q h :=
  show CallT Try.prog n_firebreaklaw11_fixed [] (shRes tb [4]) (Q) h from fun_sound (C := ⟨Try.prog, tb, firebreaklaw11_fixed_p⟩) tb_ok Try.func24 rfl (Eq.mpr (firebreaklaw11_fixed_eq  Q h) hv)

end Lf
