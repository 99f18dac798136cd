/-
  By program: a call does what its text tells.
-/
import Derived.Test.YtoffikpplbiohaaLfFun
import Derived.Test.YtoffikpplbiohaaLfAnn
import Derived.Test.YtoffikpplbiohaaLfOk
set_option maxRecDepth 100000
namespace Lf
open Go Go.Proofs

theorem wheel_New_eq  (Q : (Option Addr → (Hp → Prop))) (h : Hp) : funW ⟨Try.prog, tb, wheel_New_p⟩ Try.f25 wheel_New_a [] (Q) h = wheel_New_w Try.prog  Q h := by kernel_rfl
theorem wheel_New_call {Q : (Option Addr → (Hp → Prop))} {h : Hp} (hv : wheel_New_w Try.prog  Q h) : CallT Try.prog n_wheel_New [] (shPtr) Q h :=
  show CallT Try.prog n_wheel_New [] (shRes tb [46]) (Q) h from fun_sound (C := ⟨Try.prog, tb, wheel_New_p⟩) tb_ok Try.func25 rfl (Eq.mpr (wheel_New_eq  Q h) hv)

theorem firebreaklaw11_step_eq (w : Option Addr) (x : Option Addr) (o : S_firebreaklaw11_Op) (Q : (Bool → (Hp → Prop))) (h : Hp) : funW ⟨Try.prog, tb, firebreaklaw11_step_p⟩ Try.f26 firebreaklaw11_step_a [(shPtr).enc w, (shPtr).enc x, (sh_firebreaklaw11_Op).enc o] (Q) h = firebreaklaw11_step_w Try.prog w x o Q h := by kernel_rfl
theorem firebreaklaw11_step_call {w : Option Addr} {x : Option Addr} {o : S_firebreaklaw11_Op} {Q : (Bool → (Hp → Prop))} {h : Hp} (hv : firebreaklaw11_step_w Try.prog w x o Q h) : CallT Try.prog n_firebreaklaw11_step [(shPtr).enc w, (shPtr).enc x, (sh_firebreaklaw11_Op).enc o] (shBool) Q h :=
  show CallT Try.prog n_firebreaklaw11_step [(shPtr).enc w, (shPtr).enc x, (sh_firebreaklaw11_Op).enc o] (shRes tb [4]) (Q) h from fun_sound (C := ⟨Try.prog, tb, firebreaklaw11_step_p⟩) tb_ok Try.func26 rfl (Eq.mpr (firebreaklaw11_step_eq w x o Q h) hv)

theorem wheel_Wheel_Pop_eq (w : Option Addr) (now : Int) (Q : (Sl → (Hp → Prop))) (h : Hp) : funW ⟨Try.prog, tb, wheel_Wheel_Pop_p⟩ Try.f27 wheel_Wheel_Pop_a [(shPtr).enc w, (shInt .i64).enc now] (Q) h = wheel_Wheel_Pop_w Try.prog w now Q h := by kernel_rfl
theorem wheel_Wheel_Pop_call {w : Option Addr} {now : Int} {Q : (Sl → (Hp → Prop))} {h : Hp} (hv : wheel_Wheel_Pop_w Try.prog w now Q h) : CallT Try.prog n_wheel_Wheel_Pop [(shPtr).enc w, (shInt .i64).enc now] (shSl) Q h :=
  show CallT Try.prog n_wheel_Wheel_Pop [(shPtr).enc w, (shInt .i64).enc now] (shRes tb [24]) (Q) h from fun_sound (C := ⟨Try.prog, tb, wheel_Wheel_Pop_p⟩) tb_ok Try.func27 rfl (Eq.mpr (wheel_Wheel_Pop_eq w now Q h) hv)

theorem firebreaklaw11_same_eq (a : Sl) (b : Sl) (Q : (Bool → (Hp → Prop))) (h : Hp) : funW ⟨Try.prog, tb, firebreaklaw11_same_p⟩ Try.f28 firebreaklaw11_same_a [(shSl).enc a, (shSl).enc b] (Q) h = firebreaklaw11_same_w Try.prog a b Q h := by kernel_rfl
theorem firebreaklaw11_same_call {a : Sl} {b : Sl} {Q : (Bool → (Hp → Prop))} {h : Hp} (hv : firebreaklaw11_same_w Try.prog a b Q h) : CallT Try.prog n_firebreaklaw11_same [(shSl).enc a, (shSl).enc b] (shBool) Q h :=
  show CallT Try.prog n_firebreaklaw11_same [(shSl).enc a, (shSl).enc b] (shRes tb [4]) (Q) h from fun_sound (C := ⟨Try.prog, tb, firebreaklaw11_same_p⟩) tb_ok Try.func28 rfl (Eq.mpr (firebreaklaw11_same_eq a b Q h) hv)

theorem firebreakref11_Wheel_Pop_eq (w : Option Addr) (now : Int) (Q : (Sl → (Hp → Prop))) (h : Hp) : funW ⟨Try.prog, tb, firebreakref11_Wheel_Pop_p⟩ Try.f29 firebreakref11_Wheel_Pop_a [(shPtr).enc w, (shInt .i64).enc now] (Q) h = firebreakref11_Wheel_Pop_w Try.prog w now Q h := by kernel_rfl
theorem firebreakref11_Wheel_Pop_call {w : Option Addr} {now : Int} {Q : (Sl → (Hp → Prop))} {h : Hp} (hv : firebreakref11_Wheel_Pop_w Try.prog w now Q h) : CallT Try.prog n_firebreakref11_Wheel_Pop [(shPtr).enc w, (shInt .i64).enc now] (shSl) Q h :=
  show CallT Try.prog n_firebreakref11_Wheel_Pop [(shPtr).enc w, (shInt .i64).enc now] (shRes tb [24]) (Q) h from fun_sound (C := ⟨Try.prog, tb, firebreakref11_Wheel_Pop_p⟩) tb_ok Try.func29 rfl (Eq.mpr (firebreakref11_Wheel_Pop_eq w now Q h) hv)

theorem wheel_Wheel_Len_eq (w : Option Addr) (Q : (Int → (Hp → Prop))) (h : Hp) : funW ⟨Try.prog, tb, wheel_Wheel_Len_p⟩ Try.f30 wheel_Wheel_Len_a [(shPtr).enc w] (Q) h = wheel_Wheel_Len_w Try.prog w Q h := by kernel_rfl
theorem wheel_Wheel_Len_call {w : Option Addr} {Q : (Int → (Hp → Prop))} {h : Hp} (hv : wheel_Wheel_Len_w Try.prog w Q h) : CallT Try.prog n_wheel_Wheel_Len [(shPtr).enc w] (shInt .i64) Q h :=
  show CallT Try.prog n_wheel_Wheel_Len [(shPtr).enc w] (shRes tb [3]) (Q) h from fun_sound (C := ⟨Try.prog, tb, wheel_Wheel_Len_p⟩) tb_ok Try.func30 rfl (Eq.mpr (wheel_Wheel_Len_eq w Q h) hv)

theorem wheel_Wheel_Set_eq (w : Option Addr) (id_ : Int) (due : Int) (Q : (Int → (Hp → Prop))) (h : Hp) : funW ⟨Try.prog, tb, wheel_Wheel_Set_p⟩ Try.f31 wheel_Wheel_Set_a [(shPtr).enc w, (shInt .i64).enc id_, (shInt .i64).enc due] (Q) h = wheel_Wheel_Set_w Try.prog w id_ due Q h := by kernel_rfl
theorem wheel_Wheel_Set_call {w : Option Addr} {id_ : Int} {due : Int} {Q : (Int → (Hp → Prop))} {h : Hp} (hv : wheel_Wheel_Set_w Try.prog w id_ due Q h) : CallT Try.prog n_wheel_Wheel_Set [(shPtr).enc w, (shInt .i64).enc id_, (shInt .i64).enc due] (shInt .i64) Q h :=
  show CallT Try.prog n_wheel_Wheel_Set [(shPtr).enc w, (shInt .i64).enc id_, (shInt .i64).enc due] (shRes tb [27]) (Q) h from fun_sound (C := ⟨Try.prog, tb, wheel_Wheel_Set_p⟩) tb_ok Try.func31 rfl (Eq.mpr (wheel_Wheel_Set_eq w id_ due Q h) hv)

theorem wheel_Wheel_Clear_eq (w : Option Addr) (id_ : Int) (Q : (Bool → (Hp → Prop))) (h : Hp) : funW ⟨Try.prog, tb, wheel_Wheel_Clear_p⟩ Try.f32 wheel_Wheel_Clear_a [(shPtr).enc w, (shInt .i64).enc id_] (Q) h = wheel_Wheel_Clear_w Try.prog w id_ Q h := by kernel_rfl
theorem wheel_Wheel_Clear_call {w : Option Addr} {id_ : Int} {Q : (Bool → (Hp → Prop))} {h : Hp} (hv : wheel_Wheel_Clear_w Try.prog w id_ Q h) : CallT Try.prog n_wheel_Wheel_Clear [(shPtr).enc w, (shInt .i64).enc id_] (shBool) Q h :=
  show CallT Try.prog n_wheel_Wheel_Clear [(shPtr).enc w, (shInt .i64).enc id_] (shRes tb [4]) (Q) h from fun_sound (C := ⟨Try.prog, tb, wheel_Wheel_Clear_p⟩) tb_ok Try.func32 rfl (Eq.mpr (wheel_Wheel_Clear_eq w id_ Q h) hv)

theorem firebreaklaw11_past_eq (l : Sl) (id_ : Int) (Q : (Int → (Hp → Prop))) (h : Hp) : funW ⟨Try.prog, tb, firebreaklaw11_past_p⟩ Try.f33 firebreaklaw11_past_a [(shSl).enc l, (shInt .i64).enc id_] (Q) h = firebreaklaw11_past_w Try.prog l id_ Q h := by kernel_rfl
theorem firebreaklaw11_past_call {l : Sl} {id_ : Int} {Q : (Int → (Hp → Prop))} {h : Hp} (hv : firebreaklaw11_past_w Try.prog l id_ Q h) : CallT Try.prog n_firebreaklaw11_past [(shSl).enc l, (shInt .i64).enc id_] (shInt .i64) Q h :=
  show CallT Try.prog n_firebreaklaw11_past [(shSl).enc l, (shInt .i64).enc id_] (shRes tb [2]) (Q) h from fun_sound (C := ⟨Try.prog, tb, firebreaklaw11_past_p⟩) tb_ok Try.func33 rfl (Eq.mpr (firebreaklaw11_past_eq l id_ Q h) hv)

theorem wheel_Wheel_Next_eq (w : Option Addr) (Q : (Int → (Bool → (Hp → Prop)))) (h : Hp) : funW ⟨Try.prog, tb, wheel_Wheel_Next_p⟩ Try.f34 wheel_Wheel_Next_a [(shPtr).enc w] (fun r => Q r.1 r.2) h = wheel_Wheel_Next_w Try.prog w Q h := by kernel_rfl
theorem wheel_Wheel_Next_call {w : Option Addr} {Q : (Int → (Bool → (Hp → Prop)))} {h : Hp} (hv : wheel_Wheel_Next_w Try.prog w Q h) : Call2 Try.prog n_wheel_Wheel_Next [(shPtr).enc w] (shInt .i64) (shBool) Q h :=
  show CallT Try.prog n_wheel_Wheel_Next [(shPtr).enc w] (shRes tb [2, 4]) (fun r => Q r.1 r.2) h from fun_sound (C := ⟨Try.prog, tb, wheel_Wheel_Next_p⟩) tb_ok Try.func34 rfl (Eq.mpr (wheel_Wheel_Next_eq w Q h) hv)

theorem table_May_eq (l : Sl) (Q : (Int → (Int → (Hp → Prop)))) (h : Hp) : funW ⟨Try.prog, tb, table_May_p⟩ Try.f35 table_May_a [(shSl).enc l] (fun r => Q r.1 r.2) h = table_May_w Try.prog l Q h := by kernel_rfl
theorem table_May_call {l : Sl} {Q : (Int → (Int → (Hp → Prop)))} {h : Hp} (hv : table_May_w Try.prog l Q h) : Call2 Try.prog n_table_May [(shSl).enc l] (shInt .i64) (shInt .i64) Q h :=
  show CallT Try.prog n_table_May [(shSl).enc l] (shRes tb [27, 3]) (fun r => Q r.1 r.2) h from fun_sound (C := ⟨Try.prog, tb, table_May_p⟩) tb_ok Try.func35 rfl (Eq.mpr (table_May_eq l Q h) hv)

theorem slices_Clone_uint64_uint64_eq (s : Sl) (Q : (Sl → (Hp → Prop))) (h : Hp) : funW ⟨Try.prog, tb, slices_Clone_uint64_uint64_p⟩ Try.f36 slices_Clone_uint64_uint64_a [(shSl).enc s] (Q) h = slices_Clone_uint64_uint64_w Try.prog s Q h := by kernel_rfl
theorem slices_Clone_uint64_uint64_call {s : Sl} {Q : (Sl → (Hp → Prop))} {h : Hp} (hv : slices_Clone_uint64_uint64_w Try.prog s Q h) : CallT Try.prog n_slices_Clone_uint64_uint64 [(shSl).enc s] (shSl) Q h :=
  show CallT Try.prog n_slices_Clone_uint64_uint64 [(shSl).enc s] (shRes tb [23]) (Q) h from fun_sound (C := ⟨Try.prog, tb, slices_Clone_uint64_uint64_p⟩) tb_ok Try.func36 rfl (Eq.mpr (slices_Clone_uint64_uint64_eq s Q h) hv)

theorem table_Table_is_eq (t : Option Addr) (i : Int) (Q : (Bool → (Hp → Prop))) (h : Hp) : funW ⟨Try.prog, tb, table_Table_is_p⟩ Try.f37 table_Table_is_a [(shPtr).enc t, (shInt .i64).enc i] (Q) h = table_Table_is_w Try.prog t i Q h := by kernel_rfl
theorem table_Table_is_call {t : Option Addr} {i : Int} {Q : (Bool → (Hp → Prop))} {h : Hp} (hv : table_Table_is_w Try.prog t i Q h) : CallT Try.prog n_table_Table_is [(shPtr).enc t, (shInt .i64).enc i] (shBool) Q h :=
  show CallT Try.prog n_table_Table_is [(shPtr).enc t, (shInt .i64).enc i] (shRes tb [4]) (Q) h from fun_sound (C := ⟨Try.prog, tb, table_Table_is_p⟩) tb_ok Try.func37 rfl (Eq.mpr (table_Table_is_eq t i Q h) hv)

theorem table_Table_those_eq (t : Option Addr) (is : Leaf) (Q : (Sl → (Hp → Prop))) (h : Hp) : funW ⟨Try.prog, tb, table_Table_those_p⟩ Try.f38 table_Table_those_a [(shPtr).enc t, (shLeaf).enc is] (Q) h = table_Table_those_w Try.prog t is Q h := by kernel_rfl
theorem table_Table_those_call {t : Option Addr} {is : Leaf} {Q : (Sl → (Hp → Prop))} {h : Hp} (hv : table_Table_those_w Try.prog t is Q h) : CallT Try.prog n_table_Table_those [(shPtr).enc t, (shLeaf).enc is] (shSl) Q h :=
  show CallT Try.prog n_table_Table_those [(shPtr).enc t, (shLeaf).enc is] (shRes tb [24]) (Q) h from fun_sound (C := ⟨Try.prog, tb, table_Table_those_p⟩) tb_ok Try.func38 rfl (Eq.mpr (table_Table_those_eq t is Q h) hv)

theorem table_Table_Up_1_eq (j : Int) (a1 : Addr) (a2 : Addr) (Q : (Bool → (Hp → Prop))) (h : Hp) : funW ⟨Try.prog, tb, table_Table_Up_1_p⟩ Try.f39 table_Table_Up_1_a [(shInt .i64).enc j, .pointer (some a1), .pointer (some a2)] (Q) h = table_Table_Up_1_w Try.prog j a1 a2 Q h := by kernel_rfl
theorem table_Table_Up_1_call {j : Int} {a1 : Addr} {a2 : Addr} {Q : (Bool → (Hp → Prop))} {h : Hp} (hv : table_Table_Up_1_w Try.prog j a1 a2 Q h) : CallT Try.prog n_table_Table_Up_1 [(shInt .i64).enc j, .pointer (some a1), .pointer (some a2)] (shBool) Q h :=
  show CallT Try.prog n_table_Table_Up_1 [(shInt .i64).enc j, .pointer (some a1), .pointer (some a2)] (shRes tb [4]) (Q) h from fun_sound (C := ⟨Try.prog, tb, table_Table_Up_1_p⟩) tb_ok Try.func39 rfl (Eq.mpr (table_Table_Up_1_eq j a1 a2 Q h) hv)

theorem label_Flows_eq (a : Int) (b : Int) (Q : (Bool → (Hp → Prop))) (h : Hp) : funW ⟨Try.prog, tb, label_Flows_p⟩ Try.f40 label_Flows_a [(shInt .u64).enc a, (shInt .u64).enc b] (Q) h = label_Flows_w Try.prog a b Q h := by kernel_rfl
theorem label_Flows_call {a : Int} {b : Int} {Q : (Bool → (Hp → Prop))} {h : Hp} (hv : label_Flows_w Try.prog a b Q h) : CallT Try.prog n_label_Flows [(shInt .u64).enc a, (shInt .u64).enc b] (shBool) Q h :=
  show CallT Try.prog n_label_Flows [(shInt .u64).enc a, (shInt .u64).enc b] (shRes tb [4]) (Q) h from fun_sound (C := ⟨Try.prog, tb, label_Flows_p⟩) tb_ok Try.func40 rfl (Eq.mpr (label_Flows_eq a b Q h) hv)

theorem firebreakref01_Flows_eq (a : Int) (b : Int) (Q : (Bool → (Hp → Prop))) (h : Hp) : funW ⟨Try.prog, tb, firebreakref01_Flows_p⟩ Try.f41 firebreakref01_Flows_a [(shInt .u64).enc a, (shInt .u64).enc b] (Q) h = firebreakref01_Flows_w Try.prog a b Q h := by kernel_rfl
theorem firebreakref01_Flows_call {a : Int} {b : Int} {Q : (Bool → (Hp → Prop))} {h : Hp} (hv : firebreakref01_Flows_w Try.prog a b Q h) : CallT Try.prog n_firebreakref01_Flows [(shInt .u64).enc a, (shInt .u64).enc b] (shBool) Q h :=
  show CallT Try.prog n_firebreakref01_Flows [(shInt .u64).enc a, (shInt .u64).enc b] (shRes tb [4]) (Q) h from fun_sound (C := ⟨Try.prog, tb, firebreakref01_Flows_p⟩) tb_ok Try.func41 rfl (Eq.mpr (firebreakref01_Flows_eq a b Q h) hv)

theorem table_Table_Down_1_eq (i : Int) (a1 : Addr) (a2 : Addr) (Q : (Bool → (Hp → Prop))) (h : Hp) : funW ⟨Try.prog, tb, table_Table_Down_1_p⟩ Try.f42 table_Table_Down_1_a [(shInt .i64).enc i, .pointer (some a1), .pointer (some a2)] (Q) h = table_Table_Down_1_w Try.prog i a1 a2 Q h := by kernel_rfl
theorem table_Table_Down_1_call {i : Int} {a1 : Addr} {a2 : Addr} {Q : (Bool → (Hp → Prop))} {h : Hp} (hv : table_Table_Down_1_w Try.prog i a1 a2 Q h) : CallT Try.prog n_table_Table_Down_1 [(shInt .i64).enc i, .pointer (some a1), .pointer (some a2)] (shBool) Q h :=
  show CallT Try.prog n_table_Table_Down_1 [(shInt .i64).enc i, .pointer (some a1), .pointer (some a2)] (shRes tb [4]) (Q) h from fun_sound (C := ⟨Try.prog, tb, table_Table_Down_1_p⟩) tb_ok Try.func42 rfl (Eq.mpr (table_Table_Down_1_eq i a1 a2 Q h) hv)

theorem wheel_Wheel_Due_eq (w : Option Addr) (id_ : Int) (Q : (Int → (Bool → (Hp → Prop)))) (h : Hp) : funW ⟨Try.prog, tb, wheel_Wheel_Due_p⟩ Try.f43 wheel_Wheel_Due_a [(shPtr).enc w, (shInt .i64).enc id_] (fun r => Q r.1 r.2) h = wheel_Wheel_Due_w Try.prog w id_ Q h := by kernel_rfl
theorem wheel_Wheel_Due_call {w : Option Addr} {id_ : Int} {Q : (Int → (Bool → (Hp → Prop)))} {h : Hp} (hv : wheel_Wheel_Due_w Try.prog w id_ Q h) : Call2 Try.prog n_wheel_Wheel_Due [(shPtr).enc w, (shInt .i64).enc id_] (shInt .i64) (shBool) Q h :=
  show CallT Try.prog n_wheel_Wheel_Due [(shPtr).enc w, (shInt .i64).enc id_] (shRes tb [2, 4]) (fun r => Q r.1 r.2) h from fun_sound (C := ⟨Try.prog, tb, wheel_Wheel_Due_p⟩) tb_ok Try.func43 rfl (Eq.mpr (wheel_Wheel_Due_eq w id_ Q h) hv)

theorem firebreakref11_Wheel_Set_eq (w : Option Addr) (id_ : Int) (due : Int) (Q : (Int → (Hp → Prop))) (h : Hp) : funW ⟨Try.prog, tb, firebreakref11_Wheel_Set_p⟩ Try.f44 firebreakref11_Wheel_Set_a [(shPtr).enc w, (shInt .i64).enc id_, (shInt .i64).enc due] (Q) h = firebreakref11_Wheel_Set_w Try.prog w id_ due Q h := by kernel_rfl
theorem firebreakref11_Wheel_Set_call {w : Option Addr} {id_ : Int} {due : Int} {Q : (Int → (Hp → Prop))} {h : Hp} (hv : firebreakref11_Wheel_Set_w Try.prog w id_ due Q h) : CallT Try.prog n_firebreakref11_Wheel_Set [(shPtr).enc w, (shInt .i64).enc id_, (shInt .i64).enc due] (shInt .i64) Q h :=
  show CallT Try.prog n_firebreakref11_Wheel_Set [(shPtr).enc w, (shInt .i64).enc id_, (shInt .i64).enc due] (shRes tb [27]) (Q) h from fun_sound (C := ⟨Try.prog, tb, firebreakref11_Wheel_Set_p⟩) tb_ok Try.func44 rfl (Eq.mpr (firebreakref11_Wheel_Set_eq w id_ due Q h) hv)

theorem firebreakref11_Wheel_Clear_eq (w : Option Addr) (id_ : Int) (Q : (Bool → (Hp → Prop))) (h : Hp) : funW ⟨Try.prog, tb, firebreakref11_Wheel_Clear_p⟩ Try.f45 firebreakref11_Wheel_Clear_a [(shPtr).enc w, (shInt .i64).enc id_] (Q) h = firebreakref11_Wheel_Clear_w Try.prog w id_ Q h := by kernel_rfl
theorem firebreakref11_Wheel_Clear_call {w : Option Addr} {id_ : Int} {Q : (Bool → (Hp → Prop))} {h : Hp} (hv : firebreakref11_Wheel_Clear_w Try.prog w id_ Q h) : CallT Try.prog n_firebreakref11_Wheel_Clear [(shPtr).enc w, (shInt .i64).enc id_] (shBool) Q h :=
  show CallT Try.prog n_firebreakref11_Wheel_Clear [(shPtr).enc w, (shInt .i64).enc id_] (shRes tb [4]) (Q) h from fun_sound (C := ⟨Try.prog, tb, firebreakref11_Wheel_Clear_p⟩) tb_ok Try.func45 rfl (Eq.mpr (firebreakref11_Wheel_Clear_eq w id_ Q h) hv)

theorem firebreakref11_Wheel_Due_eq (w : Option Addr) (id_ : Int) (Q : (Int → (Bool → (Hp → Prop)))) (h : Hp) : funW ⟨Try.prog, tb, firebreakref11_Wheel_Due_p⟩ Try.f46 firebreakref11_Wheel_Due_a [(shPtr).enc w, (shInt .i64).enc id_] (fun r => Q r.1 r.2) h = firebreakref11_Wheel_Due_w Try.prog w id_ Q h := by kernel_rfl
theorem firebreakref11_Wheel_Due_call {w : Option Addr} {id_ : Int} {Q : (Int → (Bool → (Hp → Prop)))} {h : Hp} (hv : firebreakref11_Wheel_Due_w Try.prog w id_ Q h) : Call2 Try.prog n_firebreakref11_Wheel_Due [(shPtr).enc w, (shInt .i64).enc id_] (shInt .i64) (shBool) Q h :=
  show CallT Try.prog n_firebreakref11_Wheel_Due [(shPtr).enc w, (shInt .i64).enc id_] (shRes tb [2, 4]) (fun r => Q r.1 r.2) h from fun_sound (C := ⟨Try.prog, tb, firebreakref11_Wheel_Due_p⟩) tb_ok Try.func46 rfl (Eq.mpr (firebreakref11_Wheel_Due_eq w id_ Q h) hv)

end Lf
