/-
  Part 4 of the texts that the claim leans on.
-/
import Derived.Test.YtloapcmhhcbonaaMgSnNames2
/-
  By program: a call does what its text tells.
-/
set_option maxRecDepth 100000
namespace Lf
open Go Go.Proofs

theorem firebreaklaw22_SnapNames_eq  (Q : (Bool → (Hp → Prop))) (h : Hp) : funW ⟨Try.prog, tb, firebreaklaw22_SnapNames_p⟩ Try.f3 firebreaklaw22_SnapNames_a [] (Q) h = firebreaklaw22_SnapNames_w Try.prog  Q h := by kernel_rfl
theorem firebreaklaw22_SnapNames_call {Q : (Bool → (Hp → Prop))} {h : Hp} (hv : firebreaklaw22_SnapNames_w Try.prog  Q h) : CallT Try.prog n_firebreaklaw22_SnapNames [] (shBool) Q h :=
  show CallT Try.prog n_firebreaklaw22_SnapNames [] (shRes tb [4]) (Q) h from fun_sound (C := ⟨Try.prog, tb, firebreaklaw22_SnapNames_p⟩) tb_ok Try.func3 rfl (Eq.mpr (firebreaklaw22_SnapNames_eq  Q h) hv)

theorem firebreaklaw22_awake_eq  (Q : (Bool → (Hp → Prop))) (h : Hp) : funW ⟨Try.prog, tb, firebreaklaw22_awake_p⟩ Try.f4 firebreaklaw22_awake_a [] (Q) h = firebreaklaw22_awake_w Try.prog  Q h := by kernel_rfl
theorem firebreaklaw22_awake_call {Q : (Bool → (Hp → Prop))} {h : Hp} (hv : firebreaklaw22_awake_w Try.prog  Q h) : CallT Try.prog n_firebreaklaw22_awake [] (shBool) Q h :=
  show CallT Try.prog n_firebreaklaw22_awake [] (shRes tb [4]) (Q) h from fun_sound (C := ⟨Try.prog, tb, firebreaklaw22_awake_p⟩) tb_ok Try.func4 rfl (Eq.mpr (firebreaklaw22_awake_eq  Q h) hv)

theorem firebreaklaw22_plain_eq  (Q : (S_api_Config → (S_api_State → (Hp → Prop)))) (h : Hp) : funW ⟨Try.prog, tb, firebreaklaw22_plain_p⟩ Try.f5 firebreaklaw22_plain_a [] (fun r => Q r.1 r.2) h = firebreaklaw22_plain_w Try.prog  Q h := by kernel_rfl
theorem firebreaklaw22_plain_call {Q : (S_api_Config → (S_api_State → (Hp → Prop)))} {h : Hp} (hv : firebreaklaw22_plain_w Try.prog  Q h) : Call2 Try.prog n_firebreaklaw22_plain [] (sh_api_Config) (sh_api_State) Q h :=
  show CallT Try.prog n_firebreaklaw22_plain [] (shRes tb [27, 31]) (fun r => Q r.1 r.2) h from fun_sound (C := ⟨Try.prog, tb, firebreaklaw22_plain_p⟩) tb_ok Try.func5 rfl (Eq.mpr (firebreaklaw22_plain_eq  Q h) hv)

theorem snap_Encode_eq (c : S_api_Config) (s : S_api_State) (Q : (Sl → (Int → (Hp → Prop)))) (h : Hp) : funW ⟨Try.prog, tb, snap_Encode_p⟩ Try.f6 snap_Encode_a [(sh_api_Config).enc c, (sh_api_State).enc s] (fun r => Q r.1 r.2) h = snap_Encode_w Try.prog c s Q h := by kernel_rfl
theorem snap_Encode_call {c : S_api_Config} {s : S_api_State} {Q : (Sl → (Int → (Hp → Prop)))} {h : Hp} (hv : snap_Encode_w Try.prog c s Q h) : Call2 Try.prog n_snap_Encode [(sh_api_Config).enc c, (sh_api_State).enc s] (shSl) (shInt .i64) Q h :=
  show CallT Try.prog n_snap_Encode [(sh_api_Config).enc c, (sh_api_State).enc s] (shRes tb [34, 35]) (fun r => Q r.1 r.2) h from fun_sound (C := ⟨Try.prog, tb, snap_Encode_p⟩) tb_ok Try.func6 rfl (Eq.mpr (snap_Encode_eq c s Q h) hv)

theorem snap_Decode_eq (b : Sl) (Q : (S_api_Config → (S_api_State → (Int → (Int → (Hp → Prop)))))) (h : Hp) : funW ⟨Try.prog, tb, snap_Decode_p⟩ Try.f7 snap_Decode_a [(shSl).enc b] (fun r => Q r.1 r.2.1 r.2.2.1 r.2.2.2) h = snap_Decode_w Try.prog b Q h := by kernel_rfl
theorem snap_Decode_call {b : Sl} {Q : (S_api_Config → (S_api_State → (Int → (Int → (Hp → Prop)))))} {h : Hp} (hv : snap_Decode_w Try.prog b Q h) : Call4 Try.prog n_snap_Decode [(shSl).enc b] (sh_api_Config) (sh_api_State) (shInt .i64) (shInt .i64) Q h :=
  show CallT Try.prog n_snap_Decode [(shSl).enc b] (shRes tb [27, 31, 35, 3]) (fun r => Q r.1 r.2.1 r.2.2.1 r.2.2.2) h from fun_sound (C := ⟨Try.prog, tb, snap_Decode_p⟩) tb_ok Try.func7 rfl (Eq.mpr (snap_Decode_eq b Q h) hv)

theorem firebreakref14_Same_eq (a : S_api_Config) (b : S_api_Config) (Q : (Bool → (Hp → Prop))) (h : Hp) : funW ⟨Try.prog, tb, firebreakref14_Same_p⟩ Try.f8 firebreakref14_Same_a [(sh_api_Config).enc a, (sh_api_Config).enc b] (Q) h = firebreakref14_Same_w Try.prog a b Q h := by kernel_rfl
theorem firebreakref14_Same_call {a : S_api_Config} {b : S_api_Config} {Q : (Bool → (Hp → Prop))} {h : Hp} (hv : firebreakref14_Same_w Try.prog a b Q h) : CallT Try.prog n_firebreakref14_Same [(sh_api_Config).enc a, (sh_api_Config).enc b] (shBool) Q h :=
  show CallT Try.prog n_firebreakref14_Same [(sh_api_Config).enc a, (sh_api_Config).enc b] (shRes tb [4]) (Q) h from fun_sound (C := ⟨Try.prog, tb, firebreakref14_Same_p⟩) tb_ok Try.func8 rfl (Eq.mpr (firebreakref14_Same_eq a b Q h) hv)

theorem firebreakref18_Same_eq (a : S_api_State) (b : S_api_State) (Q : (Bool → (Hp → Prop))) (h : Hp) : funW ⟨Try.prog, tb, firebreakref18_Same_p⟩ Try.f9 firebreakref18_Same_a [(sh_api_State).enc a, (sh_api_State).enc b] (Q) h = firebreakref18_Same_w Try.prog a b Q h := by kernel_rfl
theorem firebreakref18_Same_call {a : S_api_State} {b : S_api_State} {Q : (Bool → (Hp → Prop))} {h : Hp} (hv : firebreakref18_Same_w Try.prog a b Q h) : CallT Try.prog n_firebreakref18_Same [(sh_api_State).enc a, (sh_api_State).enc b] (shBool) Q h :=
  show CallT Try.prog n_firebreakref18_Same [(sh_api_State).enc a, (sh_api_State).enc b] (shRes tb [4]) (Q) h from fun_sound (C := ⟨Try.prog, tb, firebreakref18_Same_p⟩) tb_ok Try.func9 rfl (Eq.mpr (firebreakref18_Same_eq a b Q h) hv)

theorem machine_May_eq (c : S_api_Config) (s : S_api_State) (Q : (Int → (Hp → Prop))) (h : Hp) : funW ⟨Try.prog, tb, machine_May_p⟩ Try.f10 machine_May_a [(sh_api_Config).enc c, (sh_api_State).enc s] (Q) h = machine_May_w Try.prog c s Q h := by kernel_rfl
theorem machine_May_call {c : S_api_Config} {s : S_api_State} {Q : (Int → (Hp → Prop))} {h : Hp} (hv : machine_May_w Try.prog c s Q h) : CallT Try.prog n_machine_May [(sh_api_Config).enc c, (sh_api_State).enc s] (shInt .i64) Q h :=
  show CallT Try.prog n_machine_May [(sh_api_Config).enc c, (sh_api_State).enc s] (shRes tb [35]) (Q) h from fun_sound (C := ⟨Try.prog, tb, machine_May_p⟩) tb_ok Try.func10 rfl (Eq.mpr (machine_May_eq c s Q h) hv)

theorem conf_Encode_eq (c : S_api_Config) (Q : (Sl → (Int → (Hp → Prop)))) (h : Hp) : funW ⟨Try.prog, tb, conf_Encode_p⟩ Try.f11 conf_Encode_a [(sh_api_Config).enc c] (fun r => Q r.1 r.2) h = conf_Encode_w Try.prog c Q h := by kernel_rfl
theorem conf_Encode_call {c : S_api_Config} {Q : (Sl → (Int → (Hp → Prop)))} {h : Hp} (hv : conf_Encode_w Try.prog c Q h) : Call2 Try.prog n_conf_Encode [(sh_api_Config).enc c] (shSl) (shInt .i64) Q h :=
  show CallT Try.prog n_conf_Encode [(sh_api_Config).enc c] (shRes tb [34, 35]) (fun r => Q r.1 r.2) h from fun_sound (C := ⟨Try.prog, tb, conf_Encode_p⟩) tb_ok Try.func11 rfl (Eq.mpr (conf_Encode_eq c Q h) hv)

theorem snap_numbers_count_eq (w : Option Addr) (n : Int) (many : Int) (Q : (Hp → Prop)) (h : Hp) : funW ⟨Try.prog, tb, snap_numbers_count_p⟩ Try.f12 snap_numbers_count_a [(shPtr).enc w, (shInt .i64).enc n, (shInt .i64).enc many] (fun _ => Q) h = snap_numbers_count_w Try.prog w n many Q h := by kernel_rfl
theorem snap_numbers_count_call {w : Option Addr} {n : Int} {many : Int} {Q : (Hp → Prop)} {h : Hp} (hv : snap_numbers_count_w Try.prog w n many Q h) : Call0 Try.prog n_snap_numbers_count [(shPtr).enc w, (shInt .i64).enc n, (shInt .i64).enc many] (Q) h :=
  show CallT Try.prog n_snap_numbers_count [(shPtr).enc w, (shInt .i64).enc n, (shInt .i64).enc many] (shRes tb []) (fun _ => Q) h from fun_sound (C := ⟨Try.prog, tb, snap_numbers_count_p⟩) tb_ok Try.func12 rfl (Eq.mpr (snap_numbers_count_eq w n many Q h) hv)

theorem snap_numbers_put_eq (w : Option Addr) (n : Int) (many : Int) (Q : (Hp → Prop)) (h : Hp) : funW ⟨Try.prog, tb, snap_numbers_put_p⟩ Try.f13 snap_numbers_put_a [(shPtr).enc w, (shInt .i64).enc n, (shInt .i64).enc many] (fun _ => Q) h = snap_numbers_put_w Try.prog w n many Q h := by kernel_rfl
theorem snap_numbers_put_call {w : Option Addr} {n : Int} {many : Int} {Q : (Hp → Prop)} {h : Hp} (hv : snap_numbers_put_w Try.prog w n many Q h) : Call0 Try.prog n_snap_numbers_put [(shPtr).enc w, (shInt .i64).enc n, (shInt .i64).enc many] (Q) h :=
  show CallT Try.prog n_snap_numbers_put [(shPtr).enc w, (shInt .i64).enc n, (shInt .i64).enc many] (shRes tb []) (fun _ => Q) h from fun_sound (C := ⟨Try.prog, tb, snap_numbers_put_p⟩) tb_ok Try.func13 rfl (Eq.mpr (snap_numbers_put_eq w n many Q h) hv)

theorem snap_writer_part_eq (w : Option Addr) (x : S_api_Part) (Q : (Hp → Prop)) (h : Hp) : funW ⟨Try.prog, tb, snap_writer_part_p⟩ Try.f14 snap_writer_part_a [(shPtr).enc w, (sh_api_Part).enc x] (fun _ => Q) h = snap_writer_part_w Try.prog w x Q h := by kernel_rfl
theorem snap_writer_part_call {w : Option Addr} {x : S_api_Part} {Q : (Hp → Prop)} {h : Hp} (hv : snap_writer_part_w Try.prog w x Q h) : Call0 Try.prog n_snap_writer_part [(shPtr).enc w, (sh_api_Part).enc x] (Q) h :=
  show CallT Try.prog n_snap_writer_part [(shPtr).enc w, (sh_api_Part).enc x] (shRes tb []) (fun _ => Q) h from fun_sound (C := ⟨Try.prog, tb, snap_writer_part_p⟩) tb_ok Try.func14 rfl (Eq.mpr (snap_writer_part_eq w x Q h) hv)

theorem snap_writer_proc_eq (w : Option Addr) (x : S_api_Process) (Q : (Hp → Prop)) (h : Hp) : funW ⟨Try.prog, tb, snap_writer_proc_p⟩ Try.f15 snap_writer_proc_a [(shPtr).enc w, (sh_api_Process).enc x] (fun _ => Q) h = snap_writer_proc_w Try.prog w x Q h := by kernel_rfl
theorem snap_writer_proc_call {w : Option Addr} {x : S_api_Process} {Q : (Hp → Prop)} {h : Hp} (hv : snap_writer_proc_w Try.prog w x Q h) : Call0 Try.prog n_snap_writer_proc [(shPtr).enc w, (sh_api_Process).enc x] (Q) h :=
  show CallT Try.prog n_snap_writer_proc [(shPtr).enc w, (sh_api_Process).enc x] (shRes tb []) (fun _ => Q) h from fun_sound (C := ⟨Try.prog, tb, snap_writer_proc_p⟩) tb_ok Try.func15 rfl (Eq.mpr (snap_writer_proc_eq w x Q h) hv)

theorem snap_reader_state_eq (r : Option Addr) (Q : (S_api_State → (Hp → Prop))) (h : Hp) : funW ⟨Try.prog, tb, snap_reader_state_p⟩ Try.f16 snap_reader_state_a [(shPtr).enc r] (Q) h = snap_reader_state_w Try.prog r Q h := by kernel_rfl
theorem snap_reader_state_call {r : Option Addr} {Q : (S_api_State → (Hp → Prop))} {h : Hp} (hv : snap_reader_state_w Try.prog r Q h) : CallT Try.prog n_snap_reader_state [(shPtr).enc r] (sh_api_State) Q h :=
  show CallT Try.prog n_snap_reader_state [(shPtr).enc r] (shRes tb [31]) (Q) h from fun_sound (C := ⟨Try.prog, tb, snap_reader_state_p⟩) tb_ok Try.func16 rfl (Eq.mpr (snap_reader_state_eq r Q h) hv)

theorem snap_source_give_eq (r : Option Addr) (e : Int) (place : Int) (Q : (Hp → Prop)) (h : Hp) : funW ⟨Try.prog, tb, snap_source_give_p⟩ Try.f17 snap_source_give_a [(shPtr).enc r, (shInt .i64).enc e, (shInt .i64).enc place] (fun _ => Q) h = snap_source_give_w Try.prog r e place Q h := by kernel_rfl
theorem snap_source_give_call {r : Option Addr} {e : Int} {place : Int} {Q : (Hp → Prop)} {h : Hp} (hv : snap_source_give_w Try.prog r e place Q h) : Call0 Try.prog n_snap_source_give [(shPtr).enc r, (shInt .i64).enc e, (shInt .i64).enc place] (Q) h :=
  show CallT Try.prog n_snap_source_give [(shPtr).enc r, (shInt .i64).enc e, (shInt .i64).enc place] (shRes tb []) (fun _ => Q) h from fun_sound (C := ⟨Try.prog, tb, snap_source_give_p⟩) tb_ok Try.func17 rfl (Eq.mpr (snap_source_give_eq r e place Q h) hv)

theorem firebreakref14_Skeleton_eq (a : S_api_Config) (b : S_api_Config) (Q : (Bool → (Hp → Prop))) (h : Hp) : funW ⟨Try.prog, tb, firebreakref14_Skeleton_p⟩ Try.f18 firebreakref14_Skeleton_a [(sh_api_Config).enc a, (sh_api_Config).enc b] (Q) h = firebreakref14_Skeleton_w Try.prog a b Q h := by kernel_rfl
theorem firebreakref14_Skeleton_call {a : S_api_Config} {b : S_api_Config} {Q : (Bool → (Hp → Prop))} {h : Hp} (hv : firebreakref14_Skeleton_w Try.prog a b Q h) : CallT Try.prog n_firebreakref14_Skeleton [(sh_api_Config).enc a, (sh_api_Config).enc b] (shBool) Q h :=
  show CallT Try.prog n_firebreakref14_Skeleton [(sh_api_Config).enc a, (sh_api_Config).enc b] (shRes tb [4]) (Q) h from fun_sound (C := ⟨Try.prog, tb, firebreakref14_Skeleton_p⟩) tb_ok Try.func18 rfl (Eq.mpr (firebreakref14_Skeleton_eq a b Q h) hv)

theorem firebreakref06_Same_eq (a : Sl) (b : Sl) (Q : (Bool → (Hp → Prop))) (h : Hp) : funW ⟨Try.prog, tb, firebreakref06_Same_p⟩ Try.f19 firebreakref06_Same_a [(shSl).enc a, (shSl).enc b] (Q) h = firebreakref06_Same_w Try.prog a b Q h := by kernel_rfl
theorem firebreakref06_Same_call {a : Sl} {b : Sl} {Q : (Bool → (Hp → Prop))} {h : Hp} (hv : firebreakref06_Same_w Try.prog a b Q h) : CallT Try.prog n_firebreakref06_Same [(shSl).enc a, (shSl).enc b] (shBool) Q h :=
  show CallT Try.prog n_firebreakref06_Same [(shSl).enc a, (shSl).enc b] (shRes tb [4]) (Q) h from fun_sound (C := ⟨Try.prog, tb, firebreakref06_Same_p⟩) tb_ok Try.func19 rfl (Eq.mpr (firebreakref06_Same_eq a b Q h) hv)

theorem firebreakref18_samePart_eq (a : S_api_Part) (b : S_api_Part) (Q : (Bool → (Hp → Prop))) (h : Hp) : funW ⟨Try.prog, tb, firebreakref18_samePart_p⟩ Try.f20 firebreakref18_samePart_a [(sh_api_Part).enc a, (sh_api_Part).enc b] (Q) h = firebreakref18_samePart_w Try.prog a b Q h := by kernel_rfl
theorem firebreakref18_samePart_call {a : S_api_Part} {b : S_api_Part} {Q : (Bool → (Hp → Prop))} {h : Hp} (hv : firebreakref18_samePart_w Try.prog a b Q h) : CallT Try.prog n_firebreakref18_samePart [(sh_api_Part).enc a, (sh_api_Part).enc b] (shBool) Q h :=
  show CallT Try.prog n_firebreakref18_samePart [(sh_api_Part).enc a, (sh_api_Part).enc b] (shRes tb [4]) (Q) h from fun_sound (C := ⟨Try.prog, tb, firebreakref18_samePart_p⟩) tb_ok Try.func20 rfl (Eq.mpr (firebreakref18_samePart_eq a b Q h) hv)

theorem firebreakref18_sameProcess_eq (a : S_api_Process) (b : S_api_Process) (Q : (Bool → (Hp → Prop))) (h : Hp) : funW ⟨Try.prog, tb, firebreakref18_sameProcess_p⟩ Try.f21 firebreakref18_sameProcess_a [(sh_api_Process).enc a, (sh_api_Process).enc b] (Q) h = firebreakref18_sameProcess_w Try.prog a b Q h := by kernel_rfl
theorem firebreakref18_sameProcess_call {a : S_api_Process} {b : S_api_Process} {Q : (Bool → (Hp → Prop))} {h : Hp} (hv : firebreakref18_sameProcess_w Try.prog a b Q h) : CallT Try.prog n_firebreakref18_sameProcess [(sh_api_Process).enc a, (sh_api_Process).enc b] (shBool) Q h :=
  show CallT Try.prog n_firebreakref18_sameProcess [(sh_api_Process).enc a, (sh_api_Process).enc b] (shRes tb [4]) (Q) h from fun_sound (C := ⟨Try.prog, tb, firebreakref18_sameProcess_p⟩) tb_ok Try.func21 rfl (Eq.mpr (firebreakref18_sameProcess_eq a b Q h) hv)

theorem conf_May_eq (c : S_api_Config) (Q : (Int → (Int → (Hp → Prop)))) (h : Hp) : funW ⟨Try.prog, tb, conf_May_p⟩ Try.f22 conf_May_a [(sh_api_Config).enc c] (fun r => Q r.1 r.2) h = conf_May_w Try.prog c Q h := by kernel_rfl
theorem conf_May_call {c : S_api_Config} {Q : (Int → (Int → (Hp → Prop)))} {h : Hp} (hv : conf_May_w Try.prog c Q h) : Call2 Try.prog n_conf_May [(sh_api_Config).enc c] (shInt .i64) (shInt .i64) Q h :=
  show CallT Try.prog n_conf_May [(sh_api_Config).enc c] (shRes tb [35, 3]) (fun r => Q r.1 r.2) h from fun_sound (C := ⟨Try.prog, tb, conf_May_p⟩) tb_ok Try.func22 rfl (Eq.mpr (conf_May_eq c Q h) hv)

theorem table_New_eq (l : Sl) (Q : (Option Addr → (Int → (Int → (Hp → Prop))))) (h : Hp) : funW ⟨Try.prog, tb, table_New_p⟩ Try.f23 table_New_a [(shSl).enc l] (fun r => Q r.1 r.2.1 r.2.2) h = table_New_w Try.prog l Q h := by kernel_rfl
theorem table_New_call {l : Sl} {Q : (Option Addr → (Int → (Int → (Hp → Prop))))} {h : Hp} (hv : table_New_w Try.prog l Q h) : Call3 Try.prog n_table_New [(shSl).enc l] (shPtr) (shInt .i64) (shInt .i64) Q h :=
  show CallT Try.prog n_table_New [(shSl).enc l] (shRes tb [81, 35, 3]) (fun r => Q r.1 r.2.1 r.2.2) h from fun_sound (C := ⟨Try.prog, tb, table_New_p⟩) tb_ok Try.func23 rfl (Eq.mpr (table_New_eq l Q h) hv)

theorem machine_asked_part_eq (a : S_machine_asked) (i : Int) (Q : (Bool → (Hp → Prop))) (h : Hp) : funW ⟨Try.prog, tb, machine_asked_part_p⟩ Try.f24 machine_asked_part_a [(sh_machine_asked).enc a, (shInt .i64).enc i] (Q) h = machine_asked_part_w Try.prog a i Q h := by kernel_rfl
theorem machine_asked_part_call {a : S_machine_asked} {i : Int} {Q : (Bool → (Hp → Prop))} {h : Hp} (hv : machine_asked_part_w Try.prog a i Q h) : CallT Try.prog n_machine_asked_part [(sh_machine_asked).enc a, (shInt .i64).enc i] (shBool) Q h :=
  show CallT Try.prog n_machine_asked_part [(sh_machine_asked).enc a, (shInt .i64).enc i] (shRes tb [4]) (Q) h from fun_sound (C := ⟨Try.prog, tb, machine_asked_part_p⟩) tb_ok Try.func24 rfl (Eq.mpr (machine_asked_part_eq a i Q h) hv)

end Lf

/-
  By program: a call does what its text tells.
-/
set_option maxRecDepth 100000
namespace Lf
open Go Go.Proofs

theorem machine_asked_proc_eq (a : S_machine_asked) (p : Int) (Q : (Bool → (Hp → Prop))) (h : Hp) : funW ⟨Try.prog, tb, machine_asked_proc_p⟩ Try.f25 machine_asked_proc_a [(sh_machine_asked).enc a, (shInt .i64).enc p] (Q) h = machine_asked_proc_w Try.prog a p Q h := by kernel_rfl
theorem machine_asked_proc_call {a : S_machine_asked} {p : Int} {Q : (Bool → (Hp → Prop))} {h : Hp} (hv : machine_asked_proc_w Try.prog a p Q h) : CallT Try.prog n_machine_asked_proc [(sh_machine_asked).enc a, (shInt .i64).enc p] (shBool) Q h :=
  show CallT Try.prog n_machine_asked_proc [(sh_machine_asked).enc a, (shInt .i64).enc p] (shRes tb [4]) (Q) h from fun_sound (C := ⟨Try.prog, tb, machine_asked_proc_p⟩) tb_ok Try.func25 rfl (Eq.mpr (machine_asked_proc_eq a p Q h) hv)

theorem machine_asked_waits_eq (a : S_machine_asked) (Q : (Bool → (Hp → Prop))) (h : Hp) : funW ⟨Try.prog, tb, machine_asked_waits_p⟩ Try.f26 machine_asked_waits_a [(sh_machine_asked).enc a] (Q) h = machine_asked_waits_w Try.prog a Q h := by kernel_rfl
theorem machine_asked_waits_call {a : S_machine_asked} {Q : (Bool → (Hp → Prop))} {h : Hp} (hv : machine_asked_waits_w Try.prog a Q h) : CallT Try.prog n_machine_asked_waits [(sh_machine_asked).enc a] (shBool) Q h :=
  show CallT Try.prog n_machine_asked_waits [(sh_machine_asked).enc a] (shRes tb [4]) (Q) h from fun_sound (C := ⟨Try.prog, tb, machine_asked_waits_p⟩) tb_ok Try.func26 rfl (Eq.mpr (machine_asked_waits_eq a Q h) hv)

theorem conf_lay_eq (b : Sl) (n : Int) (many : Int) (Q : (Sl → (Hp → Prop))) (h : Hp) : funW ⟨Try.prog, tb, conf_lay_p⟩ Try.f27 conf_lay_a [(shSl).enc b, (shInt .u64).enc n, (shInt .i64).enc many] (Q) h = conf_lay_w Try.prog b n many Q h := by kernel_rfl
theorem conf_lay_call {b : Sl} {n : Int} {many : Int} {Q : (Sl → (Hp → Prop))} {h : Hp} (hv : conf_lay_w Try.prog b n many Q h) : CallT Try.prog n_conf_lay [(shSl).enc b, (shInt .u64).enc n, (shInt .i64).enc many] (shSl) Q h :=
  show CallT Try.prog n_conf_lay [(shSl).enc b, (shInt .u64).enc n, (shInt .i64).enc many] (shRes tb [34]) (Q) h from fun_sound (C := ⟨Try.prog, tb, conf_lay_p⟩) tb_ok Try.func27 rfl (Eq.mpr (conf_lay_eq b n many Q h) hv)

theorem code_Encode_eq (l : Sl) (Q : (Sl → (Int → (Int → (Hp → Prop))))) (h : Hp) : funW ⟨Try.prog, tb, code_Encode_p⟩ Try.f28 code_Encode_a [(shSl).enc l] (fun r => Q r.1 r.2.1 r.2.2) h = code_Encode_w Try.prog l Q h := by kernel_rfl
theorem code_Encode_call {l : Sl} {Q : (Sl → (Int → (Int → (Hp → Prop))))} {h : Hp} (hv : code_Encode_w Try.prog l Q h) : Call3 Try.prog n_code_Encode [(shSl).enc l] (shSl) (shInt .i64) (shInt .i64) Q h :=
  show CallT Try.prog n_code_Encode [(shSl).enc l] (shRes tb [34, 35, 3]) (fun r => Q r.1 r.2.1 r.2.2) h from fun_sound (C := ⟨Try.prog, tb, code_Encode_p⟩) tb_ok Try.func28 rfl (Eq.mpr (code_Encode_eq l Q h) hv)

theorem snap_writer_lane_eq (w : Option Addr) (x : S_api_Lane) (Q : (Hp → Prop)) (h : Hp) : funW ⟨Try.prog, tb, snap_writer_lane_p⟩ Try.f29 snap_writer_lane_a [(shPtr).enc w, (sh_api_Lane).enc x] (fun _ => Q) h = snap_writer_lane_w Try.prog w x Q h := by kernel_rfl
theorem snap_writer_lane_call {w : Option Addr} {x : S_api_Lane} {Q : (Hp → Prop)} {h : Hp} (hv : snap_writer_lane_w Try.prog w x Q h) : Call0 Try.prog n_snap_writer_lane [(shPtr).enc w, (sh_api_Lane).enc x] (Q) h :=
  show CallT Try.prog n_snap_writer_lane [(shPtr).enc w, (sh_api_Lane).enc x] (shRes tb []) (fun _ => Q) h from fun_sound (C := ⟨Try.prog, tb, snap_writer_lane_p⟩) tb_ok Try.func29 rfl (Eq.mpr (snap_writer_lane_eq w x Q h) hv)

theorem snap_source_get_eq (r : Option Addr) (many : Int) (Q : (Int → (Hp → Prop))) (h : Hp) : funW ⟨Try.prog, tb, snap_source_get_p⟩ Try.f30 snap_source_get_a [(shPtr).enc r, (shInt .i64).enc many] (Q) h = snap_source_get_w Try.prog r many Q h := by kernel_rfl
theorem snap_source_get_call {r : Option Addr} {many : Int} {Q : (Int → (Hp → Prop))} {h : Hp} (hv : snap_source_get_w Try.prog r many Q h) : CallT Try.prog n_snap_source_get [(shPtr).enc r, (shInt .i64).enc many] (shInt .i64) Q h :=
  show CallT Try.prog n_snap_source_get [(shPtr).enc r, (shInt .i64).enc many] (shRes tb [2]) (Q) h from fun_sound (C := ⟨Try.prog, tb, snap_source_get_p⟩) tb_ok Try.func30 rfl (Eq.mpr (snap_source_get_eq r many Q h) hv)

theorem snap_reader_config_eq (r : Option Addr) (Q : (Hp → Prop)) (h : Hp) : funW ⟨Try.prog, tb, snap_reader_config_p⟩ Try.f31 snap_reader_config_a [(shPtr).enc r] (fun _ => Q) h = snap_reader_config_w Try.prog r Q h := by kernel_rfl
theorem snap_reader_config_call {r : Option Addr} {Q : (Hp → Prop)} {h : Hp} (hv : snap_reader_config_w Try.prog r Q h) : Call0 Try.prog n_snap_reader_config [(shPtr).enc r] (Q) h :=
  show CallT Try.prog n_snap_reader_config [(shPtr).enc r] (shRes tb []) (fun _ => Q) h from fun_sound (C := ⟨Try.prog, tb, snap_reader_config_p⟩) tb_ok Try.func31 rfl (Eq.mpr (snap_reader_config_eq r Q h) hv)

theorem snap_reader_part_eq (r : Option Addr) (Q : (S_api_Part → (Hp → Prop))) (h : Hp) : funW ⟨Try.prog, tb, snap_reader_part_p⟩ Try.f32 snap_reader_part_a [(shPtr).enc r] (Q) h = snap_reader_part_w Try.prog r Q h := by kernel_rfl
theorem snap_reader_part_call {r : Option Addr} {Q : (S_api_Part → (Hp → Prop))} {h : Hp} (hv : snap_reader_part_w Try.prog r Q h) : CallT Try.prog n_snap_reader_part [(shPtr).enc r] (sh_api_Part) Q h :=
  show CallT Try.prog n_snap_reader_part [(shPtr).enc r] (shRes tb [49]) (Q) h from fun_sound (C := ⟨Try.prog, tb, snap_reader_part_p⟩) tb_ok Try.func32 rfl (Eq.mpr (snap_reader_part_eq r Q h) hv)

theorem snap_reader_proc_eq (r : Option Addr) (Q : (S_api_Process → (Hp → Prop))) (h : Hp) : funW ⟨Try.prog, tb, snap_reader_proc_p⟩ Try.f33 snap_reader_proc_a [(shPtr).enc r] (Q) h = snap_reader_proc_w Try.prog r Q h := by kernel_rfl
theorem snap_reader_proc_call {r : Option Addr} {Q : (S_api_Process → (Hp → Prop))} {h : Hp} (hv : snap_reader_proc_w Try.prog r Q h) : CallT Try.prog n_snap_reader_proc [(shPtr).enc r] (sh_api_Process) Q h :=
  show CallT Try.prog n_snap_reader_proc [(shPtr).enc r] (shRes tb [57]) (Q) h from fun_sound (C := ⟨Try.prog, tb, snap_reader_proc_p⟩) tb_ok Try.func33 rfl (Eq.mpr (snap_reader_proc_eq r Q h) hv)

theorem firebreakref02_SameLabels_eq (a : Sl) (b : Sl) (Q : (Bool → (Hp → Prop))) (h : Hp) : funW ⟨Try.prog, tb, firebreakref02_SameLabels_p⟩ Try.f34 firebreakref02_SameLabels_a [(shSl).enc a, (shSl).enc b] (Q) h = firebreakref02_SameLabels_w Try.prog a b Q h := by kernel_rfl
theorem firebreakref02_SameLabels_call {a : Sl} {b : Sl} {Q : (Bool → (Hp → Prop))} {h : Hp} (hv : firebreakref02_SameLabels_w Try.prog a b Q h) : CallT Try.prog n_firebreakref02_SameLabels [(shSl).enc a, (shSl).enc b] (shBool) Q h :=
  show CallT Try.prog n_firebreakref02_SameLabels [(shSl).enc a, (shSl).enc b] (shRes tb [4]) (Q) h from fun_sound (C := ⟨Try.prog, tb, firebreakref02_SameLabels_p⟩) tb_ok Try.func34 rfl (Eq.mpr (firebreakref02_SameLabels_eq a b Q h) hv)

theorem firebreakref02_SameInts_eq (a : Sl) (b : Sl) (Q : (Bool → (Hp → Prop))) (h : Hp) : funW ⟨Try.prog, tb, firebreakref02_SameInts_p⟩ Try.f35 firebreakref02_SameInts_a [(shSl).enc a, (shSl).enc b] (Q) h = firebreakref02_SameInts_w Try.prog a b Q h := by kernel_rfl
theorem firebreakref02_SameInts_call {a : Sl} {b : Sl} {Q : (Bool → (Hp → Prop))} {h : Hp} (hv : firebreakref02_SameInts_w Try.prog a b Q h) : CallT Try.prog n_firebreakref02_SameInts [(shSl).enc a, (shSl).enc b] (shBool) Q h :=
  show CallT Try.prog n_firebreakref02_SameInts [(shSl).enc a, (shSl).enc b] (shRes tb [4]) (Q) h from fun_sound (C := ⟨Try.prog, tb, firebreakref02_SameInts_p⟩) tb_ok Try.func35 rfl (Eq.mpr (firebreakref02_SameInts_eq a b Q h) hv)

theorem firebreakref18_ints_eq (a : Sl) (b : Sl) (Q : (Bool → (Hp → Prop))) (h : Hp) : funW ⟨Try.prog, tb, firebreakref18_ints_p⟩ Try.f36 firebreakref18_ints_a [(shSl).enc a, (shSl).enc b] (Q) h = firebreakref18_ints_w Try.prog a b Q h := by kernel_rfl
theorem firebreakref18_ints_call {a : Sl} {b : Sl} {Q : (Bool → (Hp → Prop))} {h : Hp} (hv : firebreakref18_ints_w Try.prog a b Q h) : CallT Try.prog n_firebreakref18_ints [(shSl).enc a, (shSl).enc b] (shBool) Q h :=
  show CallT Try.prog n_firebreakref18_ints [(shSl).enc a, (shSl).enc b] (shRes tb [4]) (Q) h from fun_sound (C := ⟨Try.prog, tb, firebreakref18_ints_p⟩) tb_ok Try.func36 rfl (Eq.mpr (firebreakref18_ints_eq a b Q h) hv)

theorem firebreakref18_sameLane_eq (a : S_api_Lane) (b : S_api_Lane) (Q : (Bool → (Hp → Prop))) (h : Hp) : funW ⟨Try.prog, tb, firebreakref18_sameLane_p⟩ Try.f37 firebreakref18_sameLane_a [(sh_api_Lane).enc a, (sh_api_Lane).enc b] (Q) h = firebreakref18_sameLane_w Try.prog a b Q h := by kernel_rfl
theorem firebreakref18_sameLane_call {a : S_api_Lane} {b : S_api_Lane} {Q : (Bool → (Hp → Prop))} {h : Hp} (hv : firebreakref18_sameLane_w Try.prog a b Q h) : CallT Try.prog n_firebreakref18_sameLane [(sh_api_Lane).enc a, (sh_api_Lane).enc b] (shBool) Q h :=
  show CallT Try.prog n_firebreakref18_sameLane [(sh_api_Lane).enc a, (sh_api_Lane).enc b] (shRes tb [4]) (Q) h from fun_sound (C := ⟨Try.prog, tb, firebreakref18_sameLane_p⟩) tb_ok Try.func37 rfl (Eq.mpr (firebreakref18_sameLane_eq a b Q h) hv)

theorem table_May_eq (l : Sl) (Q : (Int → (Int → (Hp → Prop)))) (h : Hp) : funW ⟨Try.prog, tb, table_May_p⟩ Try.f38 table_May_a [(shSl).enc l] (fun r => Q r.1 r.2) h = table_May_w Try.prog l Q h := by kernel_rfl
theorem table_May_call {l : Sl} {Q : (Int → (Int → (Hp → Prop)))} {h : Hp} (hv : table_May_w Try.prog l Q h) : Call2 Try.prog n_table_May [(shSl).enc l] (shInt .i64) (shInt .i64) Q h :=
  show CallT Try.prog n_table_May [(shSl).enc l] (shRes tb [35, 3]) (fun r => Q r.1 r.2) h from fun_sound (C := ⟨Try.prog, tb, table_May_p⟩) tb_ok Try.func38 rfl (Eq.mpr (table_May_eq l Q h) hv)

theorem conf_many_eq (n : Int) (most : Int) (Q : (Int → (Hp → Prop))) (h : Hp) : funW ⟨Try.prog, tb, conf_many_p⟩ Try.f39 conf_many_a [(shInt .i64).enc n, (shInt .i64).enc most] (Q) h = conf_many_w Try.prog n most Q h := by kernel_rfl
theorem conf_many_call {n : Int} {most : Int} {Q : (Int → (Hp → Prop))} {h : Hp} (hv : conf_many_w Try.prog n most Q h) : CallT Try.prog n_conf_many [(shInt .i64).enc n, (shInt .i64).enc most] (shInt .i64) Q h :=
  show CallT Try.prog n_conf_many [(shInt .i64).enc n, (shInt .i64).enc most] (shRes tb [35]) (Q) h from fun_sound (C := ⟨Try.prog, tb, conf_many_p⟩) tb_ok Try.func39 rfl (Eq.mpr (conf_many_eq n most Q h) hv)

theorem slots_New_eq (table : Sl) (parts : Int) (Q : (Option Addr → (Int → (Int → (Hp → Prop))))) (h : Hp) : funW ⟨Try.prog, tb, slots_New_p⟩ Try.f40 slots_New_a [(shSl).enc table, (shInt .i64).enc parts] (fun r => Q r.1 r.2.1 r.2.2) h = slots_New_w Try.prog table parts Q h := by kernel_rfl
theorem slots_New_call {table : Sl} {parts : Int} {Q : (Option Addr → (Int → (Int → (Hp → Prop))))} {h : Hp} (hv : slots_New_w Try.prog table parts Q h) : Call3 Try.prog n_slots_New [(shSl).enc table, (shInt .i64).enc parts] (shPtr) (shInt .i64) (shInt .i64) Q h :=
  show CallT Try.prog n_slots_New [(shSl).enc table, (shInt .i64).enc parts] (shRes tb [105, 35, 3]) (fun r => Q r.1 r.2.1 r.2.2) h from fun_sound (C := ⟨Try.prog, tb, slots_New_p⟩) tb_ok Try.func40 rfl (Eq.mpr (slots_New_eq table parts Q h) hv)

theorem conf_ranged_eq (part : Int) (n : Int) (Q : (Int → (Hp → Prop))) (h : Hp) : funW ⟨Try.prog, tb, conf_ranged_p⟩ Try.f41 conf_ranged_a [(shInt .i64).enc part, (shInt .i64).enc n] (Q) h = conf_ranged_w Try.prog part n Q h := by kernel_rfl
theorem conf_ranged_call {part : Int} {n : Int} {Q : (Int → (Hp → Prop))} {h : Hp} (hv : conf_ranged_w Try.prog part n Q h) : CallT Try.prog n_conf_ranged [(shInt .i64).enc part, (shInt .i64).enc n] (shInt .i64) Q h :=
  show CallT Try.prog n_conf_ranged [(shInt .i64).enc part, (shInt .i64).enc n] (shRes tb [35]) (Q) h from fun_sound (C := ⟨Try.prog, tb, conf_ranged_p⟩) tb_ok Try.func41 rfl (Eq.mpr (conf_ranged_eq part n Q h) hv)

theorem conf_within_eq (n : Int) (from_ : Int) (to : Int) (Q : (Bool → (Hp → Prop))) (h : Hp) : funW ⟨Try.prog, tb, conf_within_p⟩ Try.f42 conf_within_a [(shInt .i64).enc n, (shInt .i64).enc from_, (shInt .i64).enc to] (Q) h = conf_within_w Try.prog n from_ to Q h := by kernel_rfl
theorem conf_within_call {n : Int} {from_ : Int} {to : Int} {Q : (Bool → (Hp → Prop))} {h : Hp} (hv : conf_within_w Try.prog n from_ to Q h) : CallT Try.prog n_conf_within [(shInt .i64).enc n, (shInt .i64).enc from_, (shInt .i64).enc to] (shBool) Q h :=
  show CallT Try.prog n_conf_within [(shInt .i64).enc n, (shInt .i64).enc from_, (shInt .i64).enc to] (shRes tb [4]) (Q) h from fun_sound (C := ⟨Try.prog, tb, conf_within_p⟩) tb_ok Try.func42 rfl (Eq.mpr (conf_within_eq n from_ to Q h) hv)

theorem code_May_eq (l : Sl) (locks : Int) (Q : (Int → (Int → (Hp → Prop)))) (h : Hp) : funW ⟨Try.prog, tb, code_May_p⟩ Try.f43 code_May_a [(shSl).enc l, (shInt .i64).enc locks] (fun r => Q r.1 r.2) h = code_May_w Try.prog l locks Q h := by kernel_rfl
theorem code_May_call {l : Sl} {locks : Int} {Q : (Int → (Int → (Hp → Prop)))} {h : Hp} (hv : code_May_w Try.prog l locks Q h) : Call2 Try.prog n_code_May [(shSl).enc l, (shInt .i64).enc locks] (shInt .i64) (shInt .i64) Q h :=
  show CallT Try.prog n_code_May [(shSl).enc l, (shInt .i64).enc locks] (shRes tb [35, 3]) (fun r => Q r.1 r.2) h from fun_sound (C := ⟨Try.prog, tb, code_May_p⟩) tb_ok Try.func43 rfl (Eq.mpr (code_May_eq l locks Q h) hv)

theorem slices_Clone_uint64_uint64_eq (s : Sl) (Q : (Sl → (Hp → Prop))) (h : Hp) : funW ⟨Try.prog, tb, slices_Clone_uint64_uint64_p⟩ Try.f44 slices_Clone_uint64_uint64_a [(shSl).enc s] (Q) h = slices_Clone_uint64_uint64_w Try.prog s Q h := by kernel_rfl
theorem slices_Clone_uint64_uint64_call {s : Sl} {Q : (Sl → (Hp → Prop))} {h : Hp} (hv : slices_Clone_uint64_uint64_w Try.prog s Q h) : CallT Try.prog n_slices_Clone_uint64_uint64 [(shSl).enc s] (shSl) Q h :=
  show CallT Try.prog n_slices_Clone_uint64_uint64 [(shSl).enc s] (shRes tb [23]) (Q) h from fun_sound (C := ⟨Try.prog, tb, slices_Clone_uint64_uint64_p⟩) tb_ok Try.func44 rfl (Eq.mpr (slices_Clone_uint64_uint64_eq s Q h) hv)

theorem machine_asked_many_eq (a : S_machine_asked) (i : Int) (Q : (Int → (Hp → Prop))) (h : Hp) : funW ⟨Try.prog, tb, machine_asked_many_p⟩ Try.f45 machine_asked_many_a [(sh_machine_asked).enc a, (shInt .i64).enc i] (Q) h = machine_asked_many_w Try.prog a i Q h := by kernel_rfl
theorem machine_asked_many_call {a : S_machine_asked} {i : Int} {Q : (Int → (Hp → Prop))} {h : Hp} (hv : machine_asked_many_w Try.prog a i Q h) : CallT Try.prog n_machine_asked_many [(sh_machine_asked).enc a, (shInt .i64).enc i] (shInt .i64) Q h :=
  show CallT Try.prog n_machine_asked_many [(sh_machine_asked).enc a, (shInt .i64).enc i] (shRes tb [3]) (Q) h from fun_sound (C := ⟨Try.prog, tb, machine_asked_many_p⟩) tb_ok Try.func45 rfl (Eq.mpr (machine_asked_many_eq a i Q h) hv)

theorem machine_asked_of_eq (a : S_machine_asked) (p : Int) (i : Int) (Q : (Bool → (Hp → Prop))) (h : Hp) : funW ⟨Try.prog, tb, machine_asked_of_p⟩ Try.f46 machine_asked_of_a [(sh_machine_asked).enc a, (shInt .i64).enc p, (shInt .i64).enc i] (Q) h = machine_asked_of_w Try.prog a p i Q h := by kernel_rfl
theorem machine_asked_of_call {a : S_machine_asked} {p : Int} {i : Int} {Q : (Bool → (Hp → Prop))} {h : Hp} (hv : machine_asked_of_w Try.prog a p i Q h) : CallT Try.prog n_machine_asked_of [(sh_machine_asked).enc a, (shInt .i64).enc p, (shInt .i64).enc i] (shBool) Q h :=
  show CallT Try.prog n_machine_asked_of [(sh_machine_asked).enc a, (shInt .i64).enc p, (shInt .i64).enc i] (shRes tb [4]) (Q) h from fun_sound (C := ⟨Try.prog, tb, machine_asked_of_p⟩) tb_ok Try.func46 rfl (Eq.mpr (machine_asked_of_eq a p i Q h) hv)

end Lf

/-
  By program: a call does what its text tells.
-/
set_option maxRecDepth 100000
namespace Lf
open Go Go.Proofs

theorem machine_count_eq (n : Int) (Q : (Bool → (Hp → Prop))) (h : Hp) : funW ⟨Try.prog, tb, machine_count_p⟩ Try.f47 machine_count_a [(shInt .i64).enc n] (Q) h = machine_count_w Try.prog n Q h := by kernel_rfl
theorem machine_count_call {n : Int} {Q : (Bool → (Hp → Prop))} {h : Hp} (hv : machine_count_w Try.prog n Q h) : CallT Try.prog n_machine_count [(shInt .i64).enc n] (shBool) Q h :=
  show CallT Try.prog n_machine_count [(shInt .i64).enc n] (shRes tb [4]) (Q) h from fun_sound (C := ⟨Try.prog, tb, machine_count_p⟩) tb_ok Try.func47 rfl (Eq.mpr (machine_count_eq n Q h) hv)

theorem slices_ContainsFunc_int_int_eq (s : Sl) (f : FnV) (Q : (Bool → (Hp → Prop))) (h : Hp) : funW ⟨Try.prog, tb, slices_ContainsFunc_int_int_p⟩ Try.f48 slices_ContainsFunc_int_int_a [(shSl).enc s, (shFn).enc f] (Q) h = slices_ContainsFunc_int_int_w Try.prog s f Q h := by kernel_rfl
theorem slices_ContainsFunc_int_int_call {s : Sl} {f : FnV} {Q : (Bool → (Hp → Prop))} {h : Hp} (hv : slices_ContainsFunc_int_int_w Try.prog s f Q h) : CallT Try.prog n_slices_ContainsFunc_int_int [(shSl).enc s, (shFn).enc f] (shBool) Q h :=
  show CallT Try.prog n_slices_ContainsFunc_int_int [(shSl).enc s, (shFn).enc f] (shRes tb [4]) (Q) h from fun_sound (C := ⟨Try.prog, tb, slices_ContainsFunc_int_int_p⟩) tb_ok Try.func48 rfl (Eq.mpr (slices_ContainsFunc_int_int_eq s f Q h) hv)

theorem machine_asked_part_1_eq (p : Int) (a1 : Addr) (a2 : Addr) (Q : (Bool → (Hp → Prop))) (h : Hp) : funW ⟨Try.prog, tb, machine_asked_part_1_p⟩ Try.f49 machine_asked_part_1_a [(shInt .i64).enc p, .pointer (some a1), .pointer (some a2)] (Q) h = machine_asked_part_1_w Try.prog p a1 a2 Q h := by kernel_rfl
theorem machine_asked_part_1_call {p : Int} {a1 : Addr} {a2 : Addr} {Q : (Bool → (Hp → Prop))} {h : Hp} (hv : machine_asked_part_1_w Try.prog p a1 a2 Q h) : CallT Try.prog n_machine_asked_part_1 [(shInt .i64).enc p, .pointer (some a1), .pointer (some a2)] (shBool) Q h :=
  show CallT Try.prog n_machine_asked_part_1 [(shInt .i64).enc p, .pointer (some a1), .pointer (some a2)] (shRes tb [4]) (Q) h from fun_sound (C := ⟨Try.prog, tb, machine_asked_part_1_p⟩) tb_ok Try.func49 rfl (Eq.mpr (machine_asked_part_1_eq p a1 a2 Q h) hv)

theorem machine_lives_eq (state : Int) (Q : (Bool → (Hp → Prop))) (h : Hp) : funW ⟨Try.prog, tb, machine_lives_p⟩ Try.f50 machine_lives_a [(shInt .i64).enc state] (Q) h = machine_lives_w Try.prog state Q h := by kernel_rfl
theorem machine_lives_call {state : Int} {Q : (Bool → (Hp → Prop))} {h : Hp} (hv : machine_lives_w Try.prog state Q h) : CallT Try.prog n_machine_lives [(shInt .i64).enc state] (shBool) Q h :=
  show CallT Try.prog n_machine_lives [(shInt .i64).enc state] (shRes tb [4]) (Q) h from fun_sound (C := ⟨Try.prog, tb, machine_lives_p⟩) tb_ok Try.func50 rfl (Eq.mpr (machine_lives_eq state Q h) hv)

theorem table_Table_Flows_eq (t : Option Addr) (i : Int) (j : Int) (Q : (Bool → (Hp → Prop))) (h : Hp) : funW ⟨Try.prog, tb, table_Table_Flows_p⟩ Try.f51 table_Table_Flows_a [(shPtr).enc t, (shInt .i64).enc i, (shInt .i64).enc j] (Q) h = table_Table_Flows_w Try.prog t i j Q h := by kernel_rfl
theorem table_Table_Flows_call {t : Option Addr} {i : Int} {j : Int} {Q : (Bool → (Hp → Prop))} {h : Hp} (hv : table_Table_Flows_w Try.prog t i j Q h) : CallT Try.prog n_table_Table_Flows [(shPtr).enc t, (shInt .i64).enc i, (shInt .i64).enc j] (shBool) Q h :=
  show CallT Try.prog n_table_Table_Flows [(shPtr).enc t, (shInt .i64).enc i, (shInt .i64).enc j] (shRes tb [4]) (Q) h from fun_sound (C := ⟨Try.prog, tb, table_Table_Flows_p⟩) tb_ok Try.func51 rfl (Eq.mpr (table_Table_Flows_eq t i j Q h) hv)

theorem machine_asked_op_eq (a : S_machine_asked) (p : Int) (Q : (Int → (Hp → Prop))) (h : Hp) : funW ⟨Try.prog, tb, machine_asked_op_p⟩ Try.f52 machine_asked_op_a [(sh_machine_asked).enc a, (shInt .i64).enc p] (Q) h = machine_asked_op_w Try.prog a p Q h := by kernel_rfl
theorem machine_asked_op_call {a : S_machine_asked} {p : Int} {Q : (Int → (Hp → Prop))} {h : Hp} (hv : machine_asked_op_w Try.prog a p Q h) : CallT Try.prog n_machine_asked_op [(sh_machine_asked).enc a, (shInt .i64).enc p] (shInt .i64) Q h :=
  show CallT Try.prog n_machine_asked_op [(sh_machine_asked).enc a, (shInt .i64).enc p] (shRes tb [3]) (Q) h from fun_sound (C := ⟨Try.prog, tb, machine_asked_op_p⟩) tb_ok Try.func52 rfl (Eq.mpr (machine_asked_op_eq a p Q h) hv)

theorem machine_asked_ins_eq (a : S_machine_asked) (p : Int) (Q : (S_api_Ins → (Hp → Prop))) (h : Hp) : funW ⟨Try.prog, tb, machine_asked_ins_p⟩ Try.f53 machine_asked_ins_a [(sh_machine_asked).enc a, (shInt .i64).enc p] (Q) h = machine_asked_ins_w Try.prog a p Q h := by kernel_rfl
theorem machine_asked_ins_call {a : S_machine_asked} {p : Int} {Q : (S_api_Ins → (Hp → Prop))} {h : Hp} (hv : machine_asked_ins_w Try.prog a p Q h) : CallT Try.prog n_machine_asked_ins [(sh_machine_asked).enc a, (shInt .i64).enc p] (sh_api_Ins) Q h :=
  show CallT Try.prog n_machine_asked_ins [(sh_machine_asked).enc a, (shInt .i64).enc p] (shRes tb [101]) (Q) h from fun_sound (C := ⟨Try.prog, tb, machine_asked_ins_p⟩) tb_ok Try.func53 rfl (Eq.mpr (machine_asked_ins_eq a p Q h) hv)

theorem machine_asked_sends_eq (a : S_machine_asked) (w : S_api_Waiter) (r : Int) (Q : (Bool → (Hp → Prop))) (h : Hp) : funW ⟨Try.prog, tb, machine_asked_sends_p⟩ Try.f54 machine_asked_sends_a [(sh_machine_asked).enc a, (sh_api_Waiter).enc w, (shInt .i64).enc r] (Q) h = machine_asked_sends_w Try.prog a w r Q h := by kernel_rfl
theorem machine_asked_sends_call {a : S_machine_asked} {w : S_api_Waiter} {r : Int} {Q : (Bool → (Hp → Prop))} {h : Hp} (hv : machine_asked_sends_w Try.prog a w r Q h) : CallT Try.prog n_machine_asked_sends [(sh_machine_asked).enc a, (sh_api_Waiter).enc w, (shInt .i64).enc r] (shBool) Q h :=
  show CallT Try.prog n_machine_asked_sends [(sh_machine_asked).enc a, (sh_api_Waiter).enc w, (shInt .i64).enc r] (shRes tb [4]) (Q) h from fun_sound (C := ⟨Try.prog, tb, machine_asked_sends_p⟩) tb_ok Try.func54 rfl (Eq.mpr (machine_asked_sends_eq a w r Q h) hv)

theorem snap_source_small_eq (r : Option Addr) (many : Int) (Q : (Int → (Hp → Prop))) (h : Hp) : funW ⟨Try.prog, tb, snap_source_small_p⟩ Try.f55 snap_source_small_a [(shPtr).enc r, (shInt .i64).enc many] (Q) h = snap_source_small_w Try.prog r many Q h := by kernel_rfl
theorem snap_source_small_call {r : Option Addr} {many : Int} {Q : (Int → (Hp → Prop))} {h : Hp} (hv : snap_source_small_w Try.prog r many Q h) : CallT Try.prog n_snap_source_small [(shPtr).enc r, (shInt .i64).enc many] (shInt .i64) Q h :=
  show CallT Try.prog n_snap_source_small [(shPtr).enc r, (shInt .i64).enc many] (shRes tb [3]) (Q) h from fun_sound (C := ⟨Try.prog, tb, snap_source_small_p⟩) tb_ok Try.func55 rfl (Eq.mpr (snap_source_small_eq r many Q h) hv)

theorem conf_Decode_eq (b : Sl) (Q : (S_api_Config → (Int → (Int → (Hp → Prop))))) (h : Hp) : funW ⟨Try.prog, tb, conf_Decode_p⟩ Try.f56 conf_Decode_a [(shSl).enc b] (fun r => Q r.1 r.2.1 r.2.2) h = conf_Decode_w Try.prog b Q h := by kernel_rfl
theorem conf_Decode_call {b : Sl} {Q : (S_api_Config → (Int → (Int → (Hp → Prop))))} {h : Hp} (hv : conf_Decode_w Try.prog b Q h) : Call3 Try.prog n_conf_Decode [(shSl).enc b] (sh_api_Config) (shInt .i64) (shInt .i64) Q h :=
  show CallT Try.prog n_conf_Decode [(shSl).enc b] (shRes tb [27, 35, 3]) (fun r => Q r.1 r.2.1 r.2.2) h from fun_sound (C := ⟨Try.prog, tb, conf_Decode_p⟩) tb_ok Try.func56 rfl (Eq.mpr (conf_Decode_eq b Q h) hv)

theorem snap_source_many_eq (r : Option Addr) (bytes : Int) (most : Int) (Q : (Int → (Hp → Prop))) (h : Hp) : funW ⟨Try.prog, tb, snap_source_many_p⟩ Try.f57 snap_source_many_a [(shPtr).enc r, (shInt .i64).enc bytes, (shInt .i64).enc most] (Q) h = snap_source_many_w Try.prog r bytes most Q h := by kernel_rfl
theorem snap_source_many_call {r : Option Addr} {bytes : Int} {most : Int} {Q : (Int → (Hp → Prop))} {h : Hp} (hv : snap_source_many_w Try.prog r bytes most Q h) : CallT Try.prog n_snap_source_many [(shPtr).enc r, (shInt .i64).enc bytes, (shInt .i64).enc most] (shInt .i64) Q h :=
  show CallT Try.prog n_snap_source_many [(shPtr).enc r, (shInt .i64).enc bytes, (shInt .i64).enc most] (shRes tb [3]) (Q) h from fun_sound (C := ⟨Try.prog, tb, snap_source_many_p⟩) tb_ok Try.func57 rfl (Eq.mpr (snap_source_many_eq r bytes most Q h) hv)

theorem snap_reader_lane_eq (r : Option Addr) (Q : (S_api_Lane → (Hp → Prop))) (h : Hp) : funW ⟨Try.prog, tb, snap_reader_lane_p⟩ Try.f58 snap_reader_lane_a [(shPtr).enc r] (Q) h = snap_reader_lane_w Try.prog r Q h := by kernel_rfl
theorem snap_reader_lane_call {r : Option Addr} {Q : (S_api_Lane → (Hp → Prop))} {h : Hp} (hv : snap_reader_lane_w Try.prog r Q h) : CallT Try.prog n_snap_reader_lane [(shPtr).enc r] (sh_api_Lane) Q h :=
  show CallT Try.prog n_snap_reader_lane [(shPtr).enc r] (shRes tb [53]) (Q) h from fun_sound (C := ⟨Try.prog, tb, snap_reader_lane_p⟩) tb_ok Try.func58 rfl (Eq.mpr (snap_reader_lane_eq r Q h) hv)

theorem slices_IndexFunc_int_int_eq (s : Sl) (f : FnV) (Q : (Int → (Hp → Prop))) (h : Hp) : funW ⟨Try.prog, tb, slices_IndexFunc_int_int_p⟩ Try.f59 slices_IndexFunc_int_int_a [(shSl).enc s, (shFn).enc f] (Q) h = slices_IndexFunc_int_int_w Try.prog s f Q h := by kernel_rfl
theorem slices_IndexFunc_int_int_call {s : Sl} {f : FnV} {Q : (Int → (Hp → Prop))} {h : Hp} (hv : slices_IndexFunc_int_int_w Try.prog s f Q h) : CallT Try.prog n_slices_IndexFunc_int_int [(shSl).enc s, (shFn).enc f] (shInt .i64) Q h :=
  show CallT Try.prog n_slices_IndexFunc_int_int [(shSl).enc s, (shFn).enc f] (shRes tb [3]) (Q) h from fun_sound (C := ⟨Try.prog, tb, slices_IndexFunc_int_int_p⟩) tb_ok Try.func59 rfl (Eq.mpr (slices_IndexFunc_int_int_eq s f Q h) hv)

theorem slots_New_1_eq (p : Int) (a1 : Addr) (Q : (Bool → (Hp → Prop))) (h : Hp) : funW ⟨Try.prog, tb, slots_New_1_p⟩ Try.f60 slots_New_1_a [(shInt .i64).enc p, .pointer (some a1)] (Q) h = slots_New_1_w Try.prog p a1 Q h := by kernel_rfl
theorem slots_New_1_call {p : Int} {a1 : Addr} {Q : (Bool → (Hp → Prop))} {h : Hp} (hv : slots_New_1_w Try.prog p a1 Q h) : CallT Try.prog n_slots_New_1 [(shInt .i64).enc p, .pointer (some a1)] (shBool) Q h :=
  show CallT Try.prog n_slots_New_1 [(shInt .i64).enc p, .pointer (some a1)] (shRes tb [4]) (Q) h from fun_sound (C := ⟨Try.prog, tb, slots_New_1_p⟩) tb_ok Try.func60 rfl (Eq.mpr (slots_New_1_eq p a1 Q h) hv)

theorem slices_Clone_int_int_eq (s : Sl) (Q : (Sl → (Hp → Prop))) (h : Hp) : funW ⟨Try.prog, tb, slices_Clone_int_int_p⟩ Try.f61 slices_Clone_int_int_a [(shSl).enc s] (Q) h = slices_Clone_int_int_w Try.prog s Q h := by kernel_rfl
theorem slices_Clone_int_int_call {s : Sl} {Q : (Sl → (Hp → Prop))} {h : Hp} (hv : slices_Clone_int_int_w Try.prog s Q h) : CallT Try.prog n_slices_Clone_int_int [(shSl).enc s] (shSl) Q h :=
  show CallT Try.prog n_slices_Clone_int_int [(shSl).enc s] (shRes tb [24]) (Q) h from fun_sound (C := ⟨Try.prog, tb, slices_Clone_int_int_p⟩) tb_ok Try.func61 rfl (Eq.mpr (slices_Clone_int_int_eq s Q h) hv)

theorem code_Check_eq (x : S_api_Ins) (n : Int) (locks : Int) (Q : (Int → (Hp → Prop))) (h : Hp) : funW ⟨Try.prog, tb, code_Check_p⟩ Try.f62 code_Check_a [(sh_api_Ins).enc x, (shInt .i64).enc n, (shInt .i64).enc locks] (Q) h = code_Check_w Try.prog x n locks Q h := by kernel_rfl
theorem code_Check_call {x : S_api_Ins} {n : Int} {locks : Int} {Q : (Int → (Hp → Prop))} {h : Hp} (hv : code_Check_w Try.prog x n locks Q h) : CallT Try.prog n_code_Check [(sh_api_Ins).enc x, (shInt .i64).enc n, (shInt .i64).enc locks] (shInt .i64) Q h :=
  show CallT Try.prog n_code_Check [(sh_api_Ins).enc x, (shInt .i64).enc n, (shInt .i64).enc locks] (shRes tb [35]) (Q) h from fun_sound (C := ⟨Try.prog, tb, code_Check_p⟩) tb_ok Try.func62 rfl (Eq.mpr (code_Check_eq x n locks Q h) hv)

theorem table_Table_is_eq (t : Option Addr) (i : Int) (Q : (Bool → (Hp → Prop))) (h : Hp) : funW ⟨Try.prog, tb, table_Table_is_p⟩ Try.f63 table_Table_is_a [(shPtr).enc t, (shInt .i64).enc i] (Q) h = table_Table_is_w Try.prog t i Q h := by kernel_rfl
theorem table_Table_is_call {t : Option Addr} {i : Int} {Q : (Bool → (Hp → Prop))} {h : Hp} (hv : table_Table_is_w Try.prog t i Q h) : CallT Try.prog n_table_Table_is [(shPtr).enc t, (shInt .i64).enc i] (shBool) Q h :=
  show CallT Try.prog n_table_Table_is [(shPtr).enc t, (shInt .i64).enc i] (shRes tb [4]) (Q) h from fun_sound (C := ⟨Try.prog, tb, table_Table_is_p⟩) tb_ok Try.func63 rfl (Eq.mpr (table_Table_is_eq t i Q h) hv)

theorem label_Flows_eq (a : Int) (b : Int) (Q : (Bool → (Hp → Prop))) (h : Hp) : funW ⟨Try.prog, tb, label_Flows_p⟩ Try.f64 label_Flows_a [(shInt .u64).enc a, (shInt .u64).enc b] (Q) h = label_Flows_w Try.prog a b Q h := by kernel_rfl
theorem label_Flows_call {a : Int} {b : Int} {Q : (Bool → (Hp → Prop))} {h : Hp} (hv : label_Flows_w Try.prog a b Q h) : CallT Try.prog n_label_Flows [(shInt .u64).enc a, (shInt .u64).enc b] (shBool) Q h :=
  show CallT Try.prog n_label_Flows [(shInt .u64).enc a, (shInt .u64).enc b] (shRes tb [4]) (Q) h from fun_sound (C := ⟨Try.prog, tb, label_Flows_p⟩) tb_ok Try.func64 rfl (Eq.mpr (label_Flows_eq a b Q h) hv)

theorem conf_reader_give_eq (r : Option Addr) (e : Int) (place : Int) (Q : (Hp → Prop)) (h : Hp) : funW ⟨Try.prog, tb, conf_reader_give_p⟩ Try.f65 conf_reader_give_a [(shPtr).enc r, (shInt .i64).enc e, (shInt .i64).enc place] (fun _ => Q) h = conf_reader_give_w Try.prog r e place Q h := by kernel_rfl
theorem conf_reader_give_call {r : Option Addr} {e : Int} {place : Int} {Q : (Hp → Prop)} {h : Hp} (hv : conf_reader_give_w Try.prog r e place Q h) : Call0 Try.prog n_conf_reader_give [(shPtr).enc r, (shInt .i64).enc e, (shInt .i64).enc place] (Q) h :=
  show CallT Try.prog n_conf_reader_give [(shPtr).enc r, (shInt .i64).enc e, (shInt .i64).enc place] (shRes tb []) (fun _ => Q) h from fun_sound (C := ⟨Try.prog, tb, conf_reader_give_p⟩) tb_ok Try.func65 rfl (Eq.mpr (conf_reader_give_eq r e place Q h) hv)

theorem conf_reader_marked_eq (r : Option Addr) (Q : (Hp → Prop)) (h : Hp) : funW ⟨Try.prog, tb, conf_reader_marked_p⟩ Try.f66 conf_reader_marked_a [(shPtr).enc r] (fun _ => Q) h = conf_reader_marked_w Try.prog r Q h := by kernel_rfl
theorem conf_reader_marked_call {r : Option Addr} {Q : (Hp → Prop)} {h : Hp} (hv : conf_reader_marked_w Try.prog r Q h) : Call0 Try.prog n_conf_reader_marked [(shPtr).enc r] (Q) h :=
  show CallT Try.prog n_conf_reader_marked [(shPtr).enc r] (shRes tb []) (fun _ => Q) h from fun_sound (C := ⟨Try.prog, tb, conf_reader_marked_p⟩) tb_ok Try.func66 rfl (Eq.mpr (conf_reader_marked_eq r Q h) hv)

theorem conf_reader_bad_eq (r : Option Addr) (Q : (Bool → (Hp → Prop))) (h : Hp) : funW ⟨Try.prog, tb, conf_reader_bad_p⟩ Try.f67 conf_reader_bad_a [(shPtr).enc r] (Q) h = conf_reader_bad_w Try.prog r Q h := by kernel_rfl
theorem conf_reader_bad_call {r : Option Addr} {Q : (Bool → (Hp → Prop))} {h : Hp} (hv : conf_reader_bad_w Try.prog r Q h) : CallT Try.prog n_conf_reader_bad [(shPtr).enc r] (shBool) Q h :=
  show CallT Try.prog n_conf_reader_bad [(shPtr).enc r] (shRes tb [4]) (Q) h from fun_sound (C := ⟨Try.prog, tb, conf_reader_bad_p⟩) tb_ok Try.func67 rfl (Eq.mpr (conf_reader_bad_eq r Q h) hv)

theorem conf_reader_labels_eq (r : Option Addr) (c : Option Addr) (Q : (Hp → Prop)) (h : Hp) : funW ⟨Try.prog, tb, conf_reader_labels_p⟩ Try.f68 conf_reader_labels_a [(shPtr).enc r, (shPtr).enc c] (fun _ => Q) h = conf_reader_labels_w Try.prog r c Q h := by kernel_rfl
theorem conf_reader_labels_call {r : Option Addr} {c : Option Addr} {Q : (Hp → Prop)} {h : Hp} (hv : conf_reader_labels_w Try.prog r c Q h) : Call0 Try.prog n_conf_reader_labels [(shPtr).enc r, (shPtr).enc c] (Q) h :=
  show CallT Try.prog n_conf_reader_labels [(shPtr).enc r, (shPtr).enc c] (shRes tb []) (fun _ => Q) h from fun_sound (C := ⟨Try.prog, tb, conf_reader_labels_p⟩) tb_ok Try.func68 rfl (Eq.mpr (conf_reader_labels_eq r c Q h) hv)

end Lf

/-
  By program: a call does what its text tells.
-/
set_option maxRecDepth 100000
namespace Lf
open Go Go.Proofs

theorem conf_reader_table_eq (r : Option Addr) (c : Option Addr) (Q : (Hp → Prop)) (h : Hp) : funW ⟨Try.prog, tb, conf_reader_table_p⟩ Try.f69 conf_reader_table_a [(shPtr).enc r, (shPtr).enc c] (fun _ => Q) h = conf_reader_table_w Try.prog r c Q h := by kernel_rfl
theorem conf_reader_table_call {r : Option Addr} {c : Option Addr} {Q : (Hp → Prop)} {h : Hp} (hv : conf_reader_table_w Try.prog r c Q h) : Call0 Try.prog n_conf_reader_table [(shPtr).enc r, (shPtr).enc c] (Q) h :=
  show CallT Try.prog n_conf_reader_table [(shPtr).enc r, (shPtr).enc c] (shRes tb []) (fun _ => Q) h from fun_sound (C := ⟨Try.prog, tb, conf_reader_table_p⟩) tb_ok Try.func69 rfl (Eq.mpr (conf_reader_table_eq r c Q h) hv)

theorem conf_reader_ranged_eq (r : Option Addr) (part : Int) (bytes : Int) (Q : (Int → (Hp → Prop))) (h : Hp) : funW ⟨Try.prog, tb, conf_reader_ranged_p⟩ Try.f70 conf_reader_ranged_a [(shPtr).enc r, (shInt .i64).enc part, (shInt .i64).enc bytes] (Q) h = conf_reader_ranged_w Try.prog r part bytes Q h := by kernel_rfl
theorem conf_reader_ranged_call {r : Option Addr} {part : Int} {bytes : Int} {Q : (Int → (Hp → Prop))} {h : Hp} (hv : conf_reader_ranged_w Try.prog r part bytes Q h) : CallT Try.prog n_conf_reader_ranged [(shPtr).enc r, (shInt .i64).enc part, (shInt .i64).enc bytes] (shInt .i64) Q h :=
  show CallT Try.prog n_conf_reader_ranged [(shPtr).enc r, (shInt .i64).enc part, (shInt .i64).enc bytes] (shRes tb [3]) (Q) h from fun_sound (C := ⟨Try.prog, tb, conf_reader_ranged_p⟩) tb_ok Try.func70 rfl (Eq.mpr (conf_reader_ranged_eq r part bytes Q h) hv)

theorem conf_reader_counted_eq (r : Option Addr) (most : Int) (Q : (Int → (Hp → Prop))) (h : Hp) : funW ⟨Try.prog, tb, conf_reader_counted_p⟩ Try.f71 conf_reader_counted_a [(shPtr).enc r, (shInt .i64).enc most] (Q) h = conf_reader_counted_w Try.prog r most Q h := by kernel_rfl
theorem conf_reader_counted_call {r : Option Addr} {most : Int} {Q : (Int → (Hp → Prop))} {h : Hp} (hv : conf_reader_counted_w Try.prog r most Q h) : CallT Try.prog n_conf_reader_counted [(shPtr).enc r, (shInt .i64).enc most] (shInt .i64) Q h :=
  show CallT Try.prog n_conf_reader_counted [(shPtr).enc r, (shInt .i64).enc most] (shRes tb [3]) (Q) h from fun_sound (C := ⟨Try.prog, tb, conf_reader_counted_p⟩) tb_ok Try.func71 rfl (Eq.mpr (conf_reader_counted_eq r most Q h) hv)

theorem conf_reader_proc_eq (r : Option Addr) (c : Option Addr) (Q : (Hp → Prop)) (h : Hp) : funW ⟨Try.prog, tb, conf_reader_proc_p⟩ Try.f72 conf_reader_proc_a [(shPtr).enc r, (shPtr).enc c] (fun _ => Q) h = conf_reader_proc_w Try.prog r c Q h := by kernel_rfl
theorem conf_reader_proc_call {r : Option Addr} {c : Option Addr} {Q : (Hp → Prop)} {h : Hp} (hv : conf_reader_proc_w Try.prog r c Q h) : Call0 Try.prog n_conf_reader_proc [(shPtr).enc r, (shPtr).enc c] (Q) h :=
  show CallT Try.prog n_conf_reader_proc [(shPtr).enc r, (shPtr).enc c] (shRes tb []) (fun _ => Q) h from fun_sound (C := ⟨Try.prog, tb, conf_reader_proc_p⟩) tb_ok Try.func72 rfl (Eq.mpr (conf_reader_proc_eq r c Q h) hv)

theorem code_wrong_eq (x : S_api_Ins) (n : Int) (locks : Int) (Q : (Int → (Int → (Hp → Prop)))) (h : Hp) : funW ⟨Try.prog, tb, code_wrong_p⟩ Try.f73 code_wrong_a [(sh_api_Ins).enc x, (shInt .i64).enc n, (shInt .i64).enc locks] (fun r => Q r.1 r.2) h = code_wrong_w Try.prog x n locks Q h := by kernel_rfl
theorem code_wrong_call {x : S_api_Ins} {n : Int} {locks : Int} {Q : (Int → (Int → (Hp → Prop)))} {h : Hp} (hv : code_wrong_w Try.prog x n locks Q h) : Call2 Try.prog n_code_wrong [(sh_api_Ins).enc x, (shInt .i64).enc n, (shInt .i64).enc locks] (shInt .i64) (shInt .i64) Q h :=
  show CallT Try.prog n_code_wrong [(sh_api_Ins).enc x, (shInt .i64).enc n, (shInt .i64).enc locks] (shRes tb [35, 3]) (fun r => Q r.1 r.2) h from fun_sound (C := ⟨Try.prog, tb, code_wrong_p⟩) tb_ok Try.func73 rfl (Eq.mpr (code_wrong_eq x n locks Q h) hv)

theorem conf_reader_number_eq (r : Option Addr) (many : Int) (wrong : FnV) (Q : (Int → (Hp → Prop))) (h : Hp) : funW ⟨Try.prog, tb, conf_reader_number_p⟩ Try.f74 conf_reader_number_a [(shPtr).enc r, (shInt .i64).enc many, (shFn).enc wrong] (Q) h = conf_reader_number_w Try.prog r many wrong Q h := by kernel_rfl
theorem conf_reader_number_call {r : Option Addr} {many : Int} {wrong : FnV} {Q : (Int → (Hp → Prop))} {h : Hp} (hv : conf_reader_number_w Try.prog r many wrong Q h) : CallT Try.prog n_conf_reader_number [(shPtr).enc r, (shInt .i64).enc many, (shFn).enc wrong] (shInt .u64) Q h :=
  show CallT Try.prog n_conf_reader_number [(shPtr).enc r, (shInt .i64).enc many, (shFn).enc wrong] (shRes tb [42]) (Q) h from fun_sound (C := ⟨Try.prog, tb, conf_reader_number_p⟩) tb_ok Try.func74 rfl (Eq.mpr (conf_reader_number_eq r many wrong Q h) hv)

theorem conf_reader_marked_1_eq (n : Int) (a1 : Addr) (Q : (Int → (Hp → Prop))) (h : Hp) : funW ⟨Try.prog, tb, conf_reader_marked_1_p⟩ Try.f75 conf_reader_marked_1_a [(shInt .u64).enc n, .pointer (some a1)] (Q) h = conf_reader_marked_1_w Try.prog n a1 Q h := by kernel_rfl
theorem conf_reader_marked_1_call {n : Int} {a1 : Addr} {Q : (Int → (Hp → Prop))} {h : Hp} (hv : conf_reader_marked_1_w Try.prog n a1 Q h) : CallT Try.prog n_conf_reader_marked_1 [(shInt .u64).enc n, .pointer (some a1)] (shInt .i64) Q h :=
  show CallT Try.prog n_conf_reader_marked_1 [(shInt .u64).enc n, .pointer (some a1)] (shRes tb [35]) (Q) h from fun_sound (C := ⟨Try.prog, tb, conf_reader_marked_1_p⟩) tb_ok Try.func75 rfl (Eq.mpr (conf_reader_marked_1_eq n a1 Q h) hv)

theorem conf_reader_labels_1_eq (a : Int) (a1 : Addr) (Q : (Int → (Hp → Prop))) (h : Hp) : funW ⟨Try.prog, tb, conf_reader_labels_1_p⟩ Try.f76 conf_reader_labels_1_a [(shInt .u64).enc a, .pointer (some a1)] (Q) h = conf_reader_labels_1_w Try.prog a a1 Q h := by kernel_rfl
theorem conf_reader_labels_1_call {a : Int} {a1 : Addr} {Q : (Int → (Hp → Prop))} {h : Hp} (hv : conf_reader_labels_1_w Try.prog a a1 Q h) : CallT Try.prog n_conf_reader_labels_1 [(shInt .u64).enc a, .pointer (some a1)] (shInt .i64) Q h :=
  show CallT Try.prog n_conf_reader_labels_1 [(shInt .u64).enc a, .pointer (some a1)] (shRes tb [35]) (Q) h from fun_sound (C := ⟨Try.prog, tb, conf_reader_labels_1_p⟩) tb_ok Try.func76 rfl (Eq.mpr (conf_reader_labels_1_eq a a1 Q h) hv)

theorem conf_reader_partition_eq (r : Option Addr) (c : Option Addr) (Q : (Int → (Hp → Prop))) (h : Hp) : funW ⟨Try.prog, tb, conf_reader_partition_p⟩ Try.f77 conf_reader_partition_a [(shPtr).enc r, (shPtr).enc c] (Q) h = conf_reader_partition_w Try.prog r c Q h := by kernel_rfl
theorem conf_reader_partition_call {r : Option Addr} {c : Option Addr} {Q : (Int → (Hp → Prop))} {h : Hp} (hv : conf_reader_partition_w Try.prog r c Q h) : CallT Try.prog n_conf_reader_partition [(shPtr).enc r, (shPtr).enc c] (shInt .i64) Q h :=
  show CallT Try.prog n_conf_reader_partition [(shPtr).enc r, (shPtr).enc c] (shRes tb [3]) (Q) h from fun_sound (C := ⟨Try.prog, tb, conf_reader_partition_p⟩) tb_ok Try.func77 rfl (Eq.mpr (conf_reader_partition_eq r c Q h) hv)

theorem conf_reader_int_eq (r : Option Addr) (many : Int) (wrong : FnV) (Q : (Int → (Hp → Prop))) (h : Hp) : funW ⟨Try.prog, tb, conf_reader_int_p⟩ Try.f78 conf_reader_int_a [(shPtr).enc r, (shInt .i64).enc many, (shFn).enc wrong] (Q) h = conf_reader_int_w Try.prog r many wrong Q h := by kernel_rfl
theorem conf_reader_int_call {r : Option Addr} {many : Int} {wrong : FnV} {Q : (Int → (Hp → Prop))} {h : Hp} (hv : conf_reader_int_w Try.prog r many wrong Q h) : CallT Try.prog n_conf_reader_int [(shPtr).enc r, (shInt .i64).enc many, (shFn).enc wrong] (shInt .i64) Q h :=
  show CallT Try.prog n_conf_reader_int [(shPtr).enc r, (shInt .i64).enc many, (shFn).enc wrong] (shRes tb [3]) (Q) h from fun_sound (C := ⟨Try.prog, tb, conf_reader_int_p⟩) tb_ok Try.func78 rfl (Eq.mpr (conf_reader_int_eq r many wrong Q h) hv)

theorem conf_reader_ranged_1_eq (n : Int) (a1 : Addr) (Q : (Int → (Hp → Prop))) (h : Hp) : funW ⟨Try.prog, tb, conf_reader_ranged_1_p⟩ Try.f79 conf_reader_ranged_1_a [(shInt .i64).enc n, .pointer (some a1)] (Q) h = conf_reader_ranged_1_w Try.prog n a1 Q h := by kernel_rfl
theorem conf_reader_ranged_1_call {n : Int} {a1 : Addr} {Q : (Int → (Hp → Prop))} {h : Hp} (hv : conf_reader_ranged_1_w Try.prog n a1 Q h) : CallT Try.prog n_conf_reader_ranged_1 [(shInt .i64).enc n, .pointer (some a1)] (shInt .i64) Q h :=
  show CallT Try.prog n_conf_reader_ranged_1 [(shInt .i64).enc n, .pointer (some a1)] (shRes tb [35]) (Q) h from fun_sound (C := ⟨Try.prog, tb, conf_reader_ranged_1_p⟩) tb_ok Try.func79 rfl (Eq.mpr (conf_reader_ranged_1_eq n a1 Q h) hv)

theorem conf_reader_counted_1_eq (n : Int) (a1 : Addr) (Q : (Int → (Hp → Prop))) (h : Hp) : funW ⟨Try.prog, tb, conf_reader_counted_1_p⟩ Try.f80 conf_reader_counted_1_a [(shInt .i64).enc n, .pointer (some a1)] (Q) h = conf_reader_counted_1_w Try.prog n a1 Q h := by kernel_rfl
theorem conf_reader_counted_1_call {n : Int} {a1 : Addr} {Q : (Int → (Hp → Prop))} {h : Hp} (hv : conf_reader_counted_1_w Try.prog n a1 Q h) : CallT Try.prog n_conf_reader_counted_1 [(shInt .i64).enc n, .pointer (some a1)] (shInt .i64) Q h :=
  show CallT Try.prog n_conf_reader_counted_1 [(shInt .i64).enc n, .pointer (some a1)] (shRes tb [35]) (Q) h from fun_sound (C := ⟨Try.prog, tb, conf_reader_counted_1_p⟩) tb_ok Try.func80 rfl (Eq.mpr (conf_reader_counted_1_eq n a1 Q h) hv)

theorem conf_reader_proc_1_eq (n : Int) (Q : (Int → (Hp → Prop))) (h : Hp) : funW ⟨Try.prog, tb, conf_reader_proc_1_p⟩ Try.f81 conf_reader_proc_1_a [(shInt .i64).enc n] (Q) h = conf_reader_proc_1_w Try.prog n Q h := by kernel_rfl
theorem conf_reader_proc_1_call {n : Int} {Q : (Int → (Hp → Prop))} {h : Hp} (hv : conf_reader_proc_1_w Try.prog n Q h) : CallT Try.prog n_conf_reader_proc_1 [(shInt .i64).enc n] (shInt .i64) Q h :=
  show CallT Try.prog n_conf_reader_proc_1 [(shInt .i64).enc n] (shRes tb [35]) (Q) h from fun_sound (C := ⟨Try.prog, tb, conf_reader_proc_1_p⟩) tb_ok Try.func81 rfl (Eq.mpr (conf_reader_proc_1_eq n Q h) hv)

theorem conf_reader_ins_eq (r : Option Addr) (n : Int) (locks : Int) (Q : (S_api_Ins → (Hp → Prop))) (h : Hp) : funW ⟨Try.prog, tb, conf_reader_ins_p⟩ Try.f82 conf_reader_ins_a [(shPtr).enc r, (shInt .i64).enc n, (shInt .i64).enc locks] (Q) h = conf_reader_ins_w Try.prog r n locks Q h := by kernel_rfl
theorem conf_reader_ins_call {r : Option Addr} {n : Int} {locks : Int} {Q : (S_api_Ins → (Hp → Prop))} {h : Hp} (hv : conf_reader_ins_w Try.prog r n locks Q h) : CallT Try.prog n_conf_reader_ins [(shPtr).enc r, (shInt .i64).enc n, (shInt .i64).enc locks] (sh_api_Ins) Q h :=
  show CallT Try.prog n_conf_reader_ins [(shPtr).enc r, (shInt .i64).enc n, (shInt .i64).enc locks] (shRes tb [101]) (Q) h from fun_sound (C := ⟨Try.prog, tb, conf_reader_ins_p⟩) tb_ok Try.func82 rfl (Eq.mpr (conf_reader_ins_eq r n locks Q h) hv)

theorem code_Fields_eq (op : Int) (Q : (Bool → (Bool → (Bool → (Bool → (Hp → Prop)))))) (h : Hp) : funW ⟨Try.prog, tb, code_Fields_p⟩ Try.f83 code_Fields_a [(shInt .i64).enc op] (fun r => Q r.1 r.2.1 r.2.2.1 r.2.2.2) h = code_Fields_w Try.prog op Q h := by kernel_rfl
theorem code_Fields_call {op : Int} {Q : (Bool → (Bool → (Bool → (Bool → (Hp → Prop)))))} {h : Hp} (hv : code_Fields_w Try.prog op Q h) : Call4 Try.prog n_code_Fields [(shInt .i64).enc op] (shBool) (shBool) (shBool) (shBool) Q h :=
  show CallT Try.prog n_code_Fields [(shInt .i64).enc op] (shRes tb [4, 4, 4, 4]) (fun r => Q r.1 r.2.1 r.2.2.1 r.2.2.2) h from fun_sound (C := ⟨Try.prog, tb, code_Fields_p⟩) tb_ok Try.func83 rfl (Eq.mpr (code_Fields_eq op Q h) hv)

theorem code_register_eq (has : Bool) (n : Int) (Q : (Int → (Hp → Prop))) (h : Hp) : funW ⟨Try.prog, tb, code_register_p⟩ Try.f84 code_register_a [(shBool).enc has, (shInt .i64).enc n] (Q) h = code_register_w Try.prog has n Q h := by kernel_rfl
theorem code_register_call {has : Bool} {n : Int} {Q : (Int → (Hp → Prop))} {h : Hp} (hv : code_register_w Try.prog has n Q h) : CallT Try.prog n_code_register [(shBool).enc has, (shInt .i64).enc n] (shInt .i64) Q h :=
  show CallT Try.prog n_code_register [(shBool).enc has, (shInt .i64).enc n] (shRes tb [35]) (Q) h from fun_sound (C := ⟨Try.prog, tb, code_register_p⟩) tb_ok Try.func84 rfl (Eq.mpr (code_register_eq has n Q h) hv)

theorem code_number_eq (x : S_api_Ins) (has : Bool) (n : Int) (locks : Int) (Q : (Int → (Hp → Prop))) (h : Hp) : funW ⟨Try.prog, tb, code_number_p⟩ Try.f85 code_number_a [(sh_api_Ins).enc x, (shBool).enc has, (shInt .i64).enc n, (shInt .i64).enc locks] (Q) h = code_number_w Try.prog x has n locks Q h := by kernel_rfl
theorem code_number_call {x : S_api_Ins} {has : Bool} {n : Int} {locks : Int} {Q : (Int → (Hp → Prop))} {h : Hp} (hv : code_number_w Try.prog x has n locks Q h) : CallT Try.prog n_code_number [(sh_api_Ins).enc x, (shBool).enc has, (shInt .i64).enc n, (shInt .i64).enc locks] (shInt .i64) Q h :=
  show CallT Try.prog n_code_number [(sh_api_Ins).enc x, (shBool).enc has, (shInt .i64).enc n, (shInt .i64).enc locks] (shRes tb [35]) (Q) h from fun_sound (C := ⟨Try.prog, tb, code_number_p⟩) tb_ok Try.func85 rfl (Eq.mpr (code_number_eq x has n locks Q h) hv)

theorem conf_reader_partition_1_eq (n : Int) (a1 : Addr) (Q : (Int → (Hp → Prop))) (h : Hp) : funW ⟨Try.prog, tb, conf_reader_partition_1_p⟩ Try.f86 conf_reader_partition_1_a [(shInt .i64).enc n, .pointer (some a1)] (Q) h = conf_reader_partition_1_w Try.prog n a1 Q h := by kernel_rfl
theorem conf_reader_partition_1_call {n : Int} {a1 : Addr} {Q : (Int → (Hp → Prop))} {h : Hp} (hv : conf_reader_partition_1_w Try.prog n a1 Q h) : CallT Try.prog n_conf_reader_partition_1 [(shInt .i64).enc n, .pointer (some a1)] (shInt .i64) Q h :=
  show CallT Try.prog n_conf_reader_partition_1 [(shInt .i64).enc n, .pointer (some a1)] (shRes tb [35]) (Q) h from fun_sound (C := ⟨Try.prog, tb, conf_reader_partition_1_p⟩) tb_ok Try.func86 rfl (Eq.mpr (conf_reader_partition_1_eq n a1 Q h) hv)

theorem conf_reader_int_1_eq (n : Int) (a1 : Addr) (Q : (Int → (Hp → Prop))) (h : Hp) : funW ⟨Try.prog, tb, conf_reader_int_1_p⟩ Try.f87 conf_reader_int_1_a [(shInt .u64).enc n, .pointer (some a1)] (Q) h = conf_reader_int_1_w Try.prog n a1 Q h := by kernel_rfl
theorem conf_reader_int_1_call {n : Int} {a1 : Addr} {Q : (Int → (Hp → Prop))} {h : Hp} (hv : conf_reader_int_1_w Try.prog n a1 Q h) : CallT Try.prog n_conf_reader_int_1 [(shInt .u64).enc n, .pointer (some a1)] (shInt .i64) Q h :=
  show CallT Try.prog n_conf_reader_int_1 [(shInt .u64).enc n, .pointer (some a1)] (shRes tb [35]) (Q) h from fun_sound (C := ⟨Try.prog, tb, conf_reader_int_1_p⟩) tb_ok Try.func87 rfl (Eq.mpr (conf_reader_int_1_eq n a1 Q h) hv)

theorem conf_reader_ins_1_eq (a0 : Int) (Q : (Int → (Hp → Prop))) (h : Hp) : funW ⟨Try.prog, tb, conf_reader_ins_1_p⟩ Try.f88 conf_reader_ins_1_a [(shInt .u64).enc a0] (Q) h = conf_reader_ins_1_w Try.prog a0 Q h := by kernel_rfl
theorem conf_reader_ins_1_call {a0 : Int} {Q : (Int → (Hp → Prop))} {h : Hp} (hv : conf_reader_ins_1_w Try.prog a0 Q h) : CallT Try.prog n_conf_reader_ins_1 [(shInt .u64).enc a0] (shInt .i64) Q h :=
  show CallT Try.prog n_conf_reader_ins_1 [(shInt .u64).enc a0] (shRes tb [35]) (Q) h from fun_sound (C := ⟨Try.prog, tb, conf_reader_ins_1_p⟩) tb_ok Try.func88 rfl (Eq.mpr (conf_reader_ins_1_eq a0 Q h) hv)

theorem conf_spoilt_eq (x : S_api_Ins) (e : Int) (Q : (Int → (Hp → Prop))) (h : Hp) : funW ⟨Try.prog, tb, conf_spoilt_p⟩ Try.f89 conf_spoilt_a [(sh_api_Ins).enc x, (shInt .i64).enc e] (Q) h = conf_spoilt_w Try.prog x e Q h := by kernel_rfl
theorem conf_spoilt_call {x : S_api_Ins} {e : Int} {Q : (Int → (Hp → Prop))} {h : Hp} (hv : conf_spoilt_w Try.prog x e Q h) : CallT Try.prog n_conf_spoilt [(sh_api_Ins).enc x, (shInt .i64).enc e] (shInt .i64) Q h :=
  show CallT Try.prog n_conf_spoilt [(sh_api_Ins).enc x, (shInt .i64).enc e] (shRes tb [3]) (Q) h from fun_sound (C := ⟨Try.prog, tb, conf_spoilt_p⟩) tb_ok Try.func89 rfl (Eq.mpr (conf_spoilt_eq x e Q h) hv)

theorem code_fields_eq (op : Int) (Q : (ByteArray → (Hp → Prop))) (h : Hp) : funW ⟨Try.prog, tb, code_fields_p⟩ Try.f90 code_fields_a [(shInt .i64).enc op] (Q) h = code_fields_w Try.prog op Q h := by kernel_rfl
theorem code_fields_call {op : Int} {Q : (ByteArray → (Hp → Prop))} {h : Hp} (hv : code_fields_w Try.prog op Q h) : CallT Try.prog n_code_fields [(shInt .i64).enc op] (shStr) Q h :=
  show CallT Try.prog n_code_fields [(shInt .i64).enc op] (shRes tb [9]) (Q) h from fun_sound (C := ⟨Try.prog, tb, code_fields_p⟩) tb_ok Try.func90 rfl (Eq.mpr (code_fields_eq op Q h) hv)

end Lf

/-
  By program: a call does what its text tells.
-/
set_option maxRecDepth 100000
namespace Lf
open Go Go.Proofs

theorem code_Fields_1_eq (field : ByteArray) (a1 : Addr) (Q : (Bool → (Hp → Prop))) (h : Hp) : funW ⟨Try.prog, tb, code_Fields_1_p⟩ Try.f91 code_Fields_1_a [(shStr).enc field, .pointer (some a1)] (Q) h = code_Fields_1_w Try.prog field a1 Q h := by kernel_rfl
theorem code_Fields_1_call {field : ByteArray} {a1 : Addr} {Q : (Bool → (Hp → Prop))} {h : Hp} (hv : code_Fields_1_w Try.prog field a1 Q h) : CallT Try.prog n_code_Fields_1 [(shStr).enc field, .pointer (some a1)] (shBool) Q h :=
  show CallT Try.prog n_code_Fields_1 [(shStr).enc field, .pointer (some a1)] (shRes tb [4]) (Q) h from fun_sound (C := ⟨Try.prog, tb, code_Fields_1_p⟩) tb_ok Try.func91 rfl (Eq.mpr (code_Fields_1_eq field a1 Q h) hv)

end Lf



/-
  Slices that hold lists.
-/
namespace Lf
open Go

/-- The slice holds the list, each element as a row of 'sz' cells. -/
def Rw {α : Type} (h : Hp) (sz : Nat) (enc : α → List Value) (l : Sl) (xs : List α) : Prop :=
  l.len = xs.length ∧ RdCells h l.base (xs.length * sz) (xs.flatMap enc)

section
variable {α : Type} {h h' : Hp} {sz : Nat} {enc : α → List Value} {l : Sl} {xs : List α}

theorem hcell_mono (hl : h ≤ h') {a : Addr} {v : Value} (e : hcell h a = some v) : hcell h' a = some v := by
  unfold hcell at e ⊢
  split at e
  · rename_i c t f hb
    rw [hl _ _ hb]
    exact e
  · cases e

theorem ldIs_mono (hl : h ≤ h') {a : Addr} {cs : List Value} (e : LdIs h a cs) : LdIs h' a cs := fun i v hv => hcell_mono hl (e i v hv)

theorem Rw.mono (hl : h ≤ h') (r : Rw h sz enc l xs) : Rw h' sz enc l xs := by
  obtain ⟨h1, h2, h3⟩ := r
  refine ⟨h1, h2, h3.imp id ?_⟩
  rintro ⟨a, ha, hc⟩
  exact ⟨a, ha, ldIs_mono hl hc⟩

theorem flat_get (henc : ∀ x, (enc x).length = sz) : ∀ (xs : List α) (i : Nat) (x : α), xs[i]? = some x → ∀ j v, (enc x)[j]? = some v → (xs.flatMap enc)[i * sz + j]? = some v
  | [], i, x, hx, _, _, _ => by simp at hx
  | y :: xs, 0, x, hx, j, v, hv => by
    simp at hx
    subst hx
    have hj : j < (enc y).length := (List.getElem?_eq_some_iff.1 hv).1
    simp only [List.flatMap_cons, Nat.zero_mul, Nat.zero_add]
    rw [List.getElem?_append_left hj]
    exact hv
  | y :: xs, i + 1, x, hx, j, v, hv => by
    have := flat_get henc xs i x (by simpa using hx) j v hv
    simp only [List.flatMap_cons]
    have e : (i + 1) * sz + j = sz + (i * sz + j) := by rw [Nat.add_mul]; omega
    rw [List.getElem?_append_right (by rw [henc, e]; omega), henc, e, Nat.add_sub_cancel_left]
    exact this

theorem flat_at (henc : ∀ x, (enc x).length = sz) : ∀ (xs : List α) (i : Nat) (v : Value), (xs.flatMap enc)[i]? = some v → ∃ q x j, xs[q]? = some x ∧ (enc x)[j]? = some v ∧ i = q * sz + j
  | [], i, v, hv => by simp at hv
  | y :: xs, i, v, hv => by
    simp only [List.flatMap_cons] at hv
    by_cases hi : i < (enc y).length
    · rw [List.getElem?_append_left hi] at hv
      exact ⟨0, y, i, rfl, hv, by simp⟩
    · rw [List.getElem?_append_right (by omega)] at hv
      obtain ⟨q, x, j, h1, h2, h3⟩ := flat_at henc xs _ v hv
      rw [henc] at h3 hi
      exact ⟨q + 1, x, j, by simpa using h1, h2, by rw [Nat.add_mul]; omega⟩

theorem Rw.read (r : Rw h sz enc l xs) (henc : ∀ x, (enc x).length = sz) (hsz : 0 < sz) {i : Int} (h0 : 0 ≤ i) (h1 : i < (l.len : Int)) :
    InB l.base l.len i ∧ ∃ x, xs[i.toNat]? = some x ∧ LdIs h (sat l.base sz i) (enc x) := by
  obtain ⟨h2, h3, h4⟩ := r
  have hi : i.toNat < xs.length := by omega
  have hne : xs.length * sz ≠ 0 := by
    have : 0 < xs.length := by omega
    exact Nat.ne_of_gt (Nat.mul_pos this hsz)
  obtain ⟨a, ha, hc⟩ := h4.resolve_left hne
  refine ⟨⟨by simp [ha], h0, h1⟩, xs[i.toNat], by simp [hi], fun j v hv => ?_⟩
  have := hc (i.toNat * sz + j) v (flat_get henc xs i.toNat _ (by simp [hi]) j v hv)
  unfold sat
  rw [ha, Option.getD_some, add_add]
  exact this

/-- A slice in a block of its own, that was not known at the start. -/
def Own (h0 h : Hp) (sz : Nat) (enc : α → List Value) (l : Sl) (xs : List α) : Prop :=
  l.len = xs.length ∧ l.len ≤ l.cap ∧ ((l.base = none ∧ l.cap = 0) ∨
    ∃ (b : Nat) (cs : List Value) (t : Nat), l.base = some ⟨b, 0, none⟩ ∧ h b = some (.cells cs.toArray t (0, 0)) ∧ cs.length = l.cap * sz ∧ cs.take (l.len * sz) = xs.flatMap enc ∧ h0 b = none)

theorem flat_len (henc : ∀ x, (enc x).length = sz) : ∀ xs : List α, (xs.flatMap enc).length = xs.length * sz
  | [] => by simp
  | x :: xs => by
    simp only [List.flatMap_cons, List.length_append, henc, flat_len henc xs, List.length_cons, Nat.add_mul, Nat.one_mul]
    omega

theorem flat_ok (hok : ∀ x, okCells (enc x) = true) : ∀ xs : List α, okCells (xs.flatMap enc) = true := by
  have app : ∀ a b : List Value, okCells a = true → okCells b = true → okCells (a ++ b) = true := by
    intro a b ha hb
    induction a with
    | nil => exact hb
    | cons v a ih => cases v <;> first | (exact ih ha) | (cases ha)
  intro xs
  induction xs with
  | nil => rfl
  | cons x xs ih => exact app _ _ (hok x) ih

theorem hcell_block0 {b : Nat} {cs : List Value} {t : Nat} (e : h b = some (.cells cs.toArray t (0, 0))) (i : Nat) : hcell h ⟨b, i, none⟩ = cs[i]? := by
  unfold hcell
  simp [e]

theorem Own.rw {h0 : Hp} (o : Own h0 h sz enc l xs) (henc : ∀ x, (enc x).length = sz) : Rw h sz enc l xs := by
  obtain ⟨h1, h2, h3⟩ := o
  refine ⟨h1, flat_len henc xs, ?_⟩
  rcases h3 with ⟨e, ec⟩ | ⟨b, cs, t, e, hb, hl, ht, _⟩
  · left
    have : xs.length = 0 := by omega
    rw [this, Nat.zero_mul]
  · right
    refine ⟨_, e, fun j v hv => ?_⟩
    rw [box_add, hcell_block0 hb, Nat.zero_add]
    rw [← ht, List.getElem?_take] at hv
    split at hv
    · exact hv
    · cases hv

theorem Own.mono {h0 : Hp} (hl : h ≤ h') (o : Own h0 h sz enc l xs) : Own h0 h' sz enc l xs := by
  obtain ⟨h1, h2, h3⟩ := o
  refine ⟨h1, h2, h3.imp id ?_⟩
  rintro ⟨b, cs, t, e1, e2, e3⟩
  exact ⟨b, cs, t, e1, hl _ _ e2, e3⟩

theorem app_own {h0 : Hp} {zero : List Value} {bytes : Nat} {x : Sl} {ys : List α} {K : Sl → Hp → Prop} (hw : h0 ≤ h) (o : Own h0 h sz enc l xs) (r : Rw h sz enc x ys) (henc : ∀ x, (enc x).length = sz) (hok : ∀ x, okCells (enc x) = true)
    (hz : zero.length = sz) (hb : xs.length + ys.length ≤ 140737488355328 ∧ (xs.length + ys.length) * bytes ≤ 140737488355328)
    (hk : ∀ l' h', h0 ≤ h' → Own h0 h' sz enc l' (xs ++ ys) → (∀ b ob, h b = some ob → (∀ a, l.base = some a → a.block ≠ b) → h' b = some ob) → K l' h') : AppendW sz bytes zero l x K h := by
  have hrw := o.rw henc
  obtain ⟨h1, h2, h3⟩ := o
  obtain ⟨hx1, hx2⟩ := r
  refine ⟨ys.flatMap enc, by rw [hx1]; exact hx2, xs.flatMap enc, by rw [h1]; exact hrw.2, by rw [h1, hx1]; exact hb, flat_ok hok ys, fun hcap => ?_, fun hcap c b t hc hbn => ?_⟩
  · rcases h3 with ⟨e, ec⟩ | ⟨b, cs, t, e, hbk, hl, ht, hn⟩
    · -- nothing is put
      have e1 : ys.length = 0 := by omega
      have e2 : ys = [] := List.length_eq_zero_iff.1 e1
      subst e2
      refine ⟨fun a ha => (by rw [e] at ha; cases ha), ?_⟩
      have e3 : putO h l.base (l.len * sz) (([] : List α).flatMap enc) = h := by rw [e]; rfl
      rw [e3, hx1]
      refine hk _ h hw ⟨by simp [h1], by simpa using h2, .inl ⟨e, ec⟩⟩ fun _ _ e _ => e
    · have hle : l.len * sz + (ys.flatMap enc).length ≤ cs.length := by
        rw [hl, flat_len henc, ← Nat.add_mul]
        exact Nat.mul_le_mul_right sz (by omega)
      obtain ⟨p1, p2⟩ := put_cells b t (ys.flatMap enc) h 0 (l.len * sz) cs (by simpa using hle) hbk
      have hst : ∀ (k : Nat), l.len * sz + k ≤ cs.length → StOk h (⟨b, l.len * sz, none⟩ : Addr) k := by
        intro k
        induction k with
        | zero => intro _; trivial
        | succ k ih =>
          intro hk'
          refine ⟨ih (by omega), ⟨cs[l.len * sz + k]'(by omega), ?_⟩, ?_⟩
          · rw [box_add, hcell_block0 hbk]
            simp
          · rw [box_add]
            unfold hfroz
            simp [hbk]
      refine ⟨fun a ha => ?_, ?_⟩
      · rw [e] at ha; cases ha
        rw [box_add, Nat.zero_add]
        refine hst _ ?_
        rw [hx1, ← flat_len henc ys]
        exact hle
      · have e3 : putO h l.base (l.len * sz) (ys.flatMap enc) = putL h ⟨b, l.len * sz, none⟩ (ys.flatMap enc) 0 := by
          rw [e]
          simp only [putO, box_add, Nat.zero_add]
        rw [e3]
        rw [Nat.add_zero] at p1
        refine hk _ _ (fun b' ob eb => ?_) ⟨by simp [h1, hx1], hcap, .inr ⟨b, _, t, e, p1, ?_, ?_, hn⟩⟩ fun b' ob eb hne => ?_
        · have hne : b' ≠ b := fun e' => by rw [e', hn] at eb; cases eb
          rw [p2 b' hne]
          exact hw _ _ eb
        · rw [layL_length _ _ _ hle, hl]
        · rw [layL_eq _ _ _ hle]
          have e4 : (l.len + x.len) * sz = (cs.take (l.len * sz) ++ ys.flatMap enc).length := by
            rw [List.length_append, ht, flat_len henc, flat_len henc, h1, hx1, Nat.add_mul]
          rw [e4, List.take_left, ht, List.flatMap_append]
        · rw [p2 b' fun e' => hne _ e e'.symm]
          exact eb
  · have hh : ∀ b' ob, h b' = some ob → (h.set b (.cells (xs.flatMap enc ++ ys.flatMap enc ++ zerosL zero (c - (l.len + x.len))).toArray t (0, 0))) b' = some ob := fun b' ob eb => by
      have hne : b' ≠ b := fun e' => by rw [e', hbn] at eb; cases eb
      simp [Hp.set, hne, eb]
    refine hk _ _ (fun b' ob eb => hh b' ob (hw _ _ eb)) ⟨by simp [h1, hx1], hc, .inr ⟨b, xs.flatMap enc ++ ys.flatMap enc ++ zerosL zero (c - (l.len + x.len)), t, rfl, by simp [Hp.set], ?_, ?_, ?_⟩⟩ fun b' ob eb _ => hh b' ob eb
    · have hzl : ∀ k, (zerosL zero k).length = k * sz := fun k => by simp [zerosL, hz]
      rw [List.length_append, List.length_append, flat_len henc, flat_len henc, hzl, ← Nat.add_mul, ← Nat.add_mul]
      show _ = c * sz
      congr 1
      omega
    · have e4 : (l.len + x.len) * sz = (xs.flatMap enc ++ ys.flatMap enc).length := by
        rw [List.length_append, flat_len henc, flat_len henc, h1, hx1, Nat.add_mul]
      show List.take ((l.len + x.len) * sz) _ = _
      rw [e4, List.take_left, List.flatMap_append]
    · cases e0 : h0 b with
      | none => rfl
      | some ob => rw [hw _ _ e0] at hbn; cases hbn

end

/-- The slice holds a list of values of one type. -/
abbrev Rs (h : Hp) (sh : Shape) (sz : Nat) (l : Sl) (xs : List sh.T) : Prop := Rw h sz (fun x => cellsL (sh.enc x)) l xs

section
variable {h h' : Hp} {sh : Shape} {sz : Nat} {l : Sl} {xs : List sh.T} {K : sh.T → Prop} {i : Int}

theorem Rs.get (r : Rs h sh sz l xs) (henc : ∀ x, (cellsL (sh.enc x)).length = sz) (hsz : 0 < sz) (h0 : 0 ≤ i) (h1 : i < (xs.length : Int)) (hk : ∀ x, xs[i.toNat]? = some x → K x) :
    InB l.base l.len i ∧ LdW none sh h (sat l.base sz i) K := by
  obtain ⟨e1, x, hx, hl⟩ := Rw.read r henc hsz h0 (by rw [r.1]; exact h1)
  exact ⟨e1, x, hl, hk x hx⟩

theorem Rs.getC {c : Bool} (r : Rs h sh sz l xs) (x0 : sh.T) (henc : ∀ x, (cellsL (sh.enc x)).length = sz) (hsz : 0 < sz) (h0 : c = true → 0 ≤ i ∧ i < (xs.length : Int)) (hk : ∀ x, (c = true → xs[i.toNat]? = some x) → K x) :
    (c = true → InB l.base l.len i) ∧ LdW (some c) sh h (sat l.base sz i) K := by
  cases c with
  | false => exact ⟨fun e => (by cases e), x0, fun e => (by cases e), hk x0 fun e => (by cases e)⟩
  | true =>
    obtain ⟨e1, x, hx, hl⟩ := Rw.read r henc hsz (h0 rfl).1 (by rw [r.1]; exact (h0 rfl).2)
    exact ⟨fun _ => e1, x, fun _ => hl, hk x fun _ => hx⟩

theorem ld_at {a : Addr} (x : sh.T) (hl : LdIs h a (cellsL (sh.enc x))) (hk : K x) : LdW none sh h a K := ⟨x, hl, hk⟩

theorem letW {α : Type} {x : α} {K : α → Prop} (hk : K x) : LetW x K := fun _ e => e ▸ hk

theorem wrap64 {n : Int} (h0 : -9223372036854775808 ≤ n) (h1 : n < 9223372036854775808) : IntKind.wrap .i64 n = n := by
  unfold IntKind.wrap
  simp only [IntKind.signed, IntKind.bits]
  first | omega | (simp; omega)

end

theorem nodup_len : ∀ (ys xs : List Int), ys.Nodup → (∀ y ∈ ys, y ∈ xs) → ys.length ≤ xs.length
  | [], xs, _, _ => Nat.zero_le _
  | y :: ys, xs, hn, hs => by
    have hn' := List.nodup_cons.1 hn
    have hy := hs y (List.mem_cons_self ..)
    have := nodup_len ys (xs.erase y) hn'.2 fun z hz => by
      have hne : z ≠ y := fun e => hn'.1 (e ▸ hz)
      exact (List.mem_erase_of_ne hne).2 (hs z (List.mem_cons_of_mem _ hz))
    rw [List.length_erase_of_mem hy] at this
    have hpos : 0 < xs.length := List.length_pos_of_mem hy
    simp only [List.length_cons]
    omega

theorem asc_nodup {ys : List Int} (h : ys.Pairwise (· < ·)) : ys.Nodup := h.imp fun hab => Int.ne_of_lt hab

theorem asc_snoc {ys : List Int} {x : Int} (h : ys.Pairwise (· < ·)) (hx : ∀ z, ys.getLast? = some z → z < x) : (ys ++ [x]).Pairwise (· < ·) := by
  refine List.pairwise_append.2 ⟨h, List.pairwise_singleton _ _, fun a ha b hb => ?_⟩
  rw [List.mem_singleton.1 hb]
  cases hl : ys.getLast? with
  | none => rw [List.getLast?_eq_none_iff.1 hl] at ha; cases ha
  | some z =>
    have hz := hx z hl
    obtain ⟨ys', rfl⟩ := List.getLast?_eq_some_iff.1 hl
    rcases List.mem_append.1 ha with ha | ha
    · have := (List.pairwise_append.1 h).2.2 a ha z (List.mem_singleton.2 rfl)
      omega
    · rw [List.mem_singleton.1 ha]; exact hz

/-- One block that was made here. -/
theorem new_row {α : Type} {h0 h : Hp} {sz : Nat} {enc : α → List Value} {cs : List Value} {xs : List α} {K : Addr → Hp → Prop} (hw : h0 ≤ h) (hc : cs = xs.flatMap enc) (henc : ∀ x, (enc x).length = sz)
    (hk : ∀ a h', h ≤ h' → Own h0 h' sz enc ⟨some a, xs.length, xs.length⟩ xs → K a h') : NewW cs K h := by
  intro b t hb
  have hle : h ≤ h.set b (.cells cs.toArray t (0, 0)) := fun b' o e => by
    have hne : b' ≠ b := fun e' => by rw [e', hb] at e; cases e
    simp [Hp.set, hne, e]
  refine hk _ _ hle ⟨rfl, Nat.le_refl _, .inr ⟨b, cs, t, rfl, by simp [Hp.set], ?_, ?_, ?_⟩⟩
  · rw [hc, flat_len henc]
  · have : (xs.length * sz) = (xs.flatMap enc).length := (flat_len henc xs).symm
    show List.take (xs.length * sz) cs = _
    rw [this, hc, List.take_length]
  · cases e0 : h0 b with
    | none => rfl
    | some ob => rw [hw _ _ e0] at hb; cases hb

end Lf

/-
  What a change to a block that holds no cells leaves.
-/
namespace Lf
open Go

/-- All cells are as they were. -/
def CKeep (h h' : Hp) : Prop := ∀ a v, hcell h a = some v → hcell h' a = some v

theorem CKeep.of_le {h h' : Hp} (hl : h ≤ h') : CKeep h h' := fun _ _ e => hcell_mono hl e

theorem ldIs_ck {h h' : Hp} (hl : CKeep h h') {a : Addr} {cs : List Value} (e : LdIs h a cs) : LdIs h' a cs := fun i v hv => hl _ _ (e i v hv)

theorem Rw.ck {α : Type} {h h' : Hp} {sz : Nat} {enc : α → List Value} {l : Sl} {xs : List α} (hl : CKeep h h') (r : Rw h sz enc l xs) : Rw h' sz enc l xs := by
  obtain ⟨h1, h2, h3⟩ := r
  refine ⟨h1, h2, h3.imp id ?_⟩
  rintro ⟨a, ha, hc⟩
  exact ⟨a, ha, ldIs_ck hl hc⟩

theorem ck_set {h : Hp} {m : Nat} {o o' : Obj} (e : h m = some o) (hc : isCells o = false) : CKeep h (h.set m o') := by
  intro a v hv
  obtain ⟨c, t, fr, hb, hsp, hg⟩ := hcell_block hv
  have hne : a.block ≠ m := fun e' => by rw [e', e] at hb; cases hb; cases hc
  unfold hcell at hv ⊢
  have : (h.set m o') a.block = h a.block := by simp [Hp.set, hne]
  rw [this]
  exact hv

theorem set_new {h : Hp} {b : Nat} {o : Obj} (hn : h b = none) : h ≤ h.set b o := fun b' o' e => by
  have hne : b' ≠ b := fun e' => by rw [e', hn] at e; cases e
  simp [Hp.set, hne, e]

theorem set_self {h : Hp} {b : Nat} {o : Obj} : (h.set b o) b = some o := by simp [Hp.set]

theorem set_over {h h0 : Hp} {b : Nat} {o : Obj} (hl : h0 ≤ h) (hn : h0 b = none) : h0 ≤ h.set b o := fun b' o' e => by
  have hne : b' ≠ b := fun e' => by rw [e', hn] at e; cases e
  simp only [Hp.set, hne, if_false]
  exact hl _ _ e

theorem none_of_le {h0 h : Hp} {b : Nat} (hl : h0 ≤ h) (hn : h b = none) : h0 b = none := by
  cases e : h0 b with
  | none => rfl
  | some o => rw [hl _ _ e] at hn; cases hn

theorem ldIs_new {h : Hp} {b t : Nat} {cs : List Value} : LdIs (h.set b (.cells cs.toArray t (0, 0))) ⟨b, 0, none⟩ cs := fun i v hv => by
  rw [box_add, hcell_block0 set_self, Nat.zero_add]
  exact hv

theorem effT {α : Type} {A : (α → Hp → Prop) → Hp → Prop} {K : α → Hp → Prop} {h : Hp} (hk : A K h) : EffC (some true) A K h := ⟨fun _ => hk, fun e => by cases e⟩

theorem effB {α : Type} {b : Bool} {A : (α → Hp → Prop) → Hp → Prop} {K : α → Hp → Prop} {h : Hp} (hb : b = true) (hk : A K h) : EffC (some b) A K h := ⟨fun _ => hk, fun e => by rw [hb] at e; cases e⟩

theorem notNil {p : Addr} {c : Option Bool} {K : Addr → Prop} (hk : K p) : NilW c (some p) K := by
  refine ⟨p, ?_, hk⟩
  cases c with
  | none => rfl
  | some b => exact fun _ => rfl

theorem semW_und {P : Program} {t : Nat} {d : TypeDesc} (hu : P.underlying t = some d) {K : TypeDesc → Hp → Prop} {h : Hp} (hk : K d h) : semW P (underlying t) K h := by
  show semW P (match P.underlying t with
    | some d => Sem.pure d
    | none => _) K h
  rw [hu]
  exact hk

theorem semW_zero {P : Program} {tb : Tb} (ok : tb.Ok P) {t : Nat} {e : Ty} (he : tb.ty t = some e) {K : Value → Hp → Prop} {h : Hp} (hk : K e.zero h) : semW P (zeroValue t) K h := by
  obtain ⟨i, e1, _, _, e4⟩ := ok.info t e he
  have key : semW P (match P.info? t with
    | some d => (match d.zero with
      | some v => Sem.pure v
      | none => unsupported (.resourceLimit "a value of more than 2^22 cells"))
    | none => stuck "no such type") K h := by
    rw [e1]
    dsimp only
    rw [e4]
    exact hk
  cases hi : P.info? t with
  | none => rw [e1] at hi; cases hi
  | some d =>
    rw [hi] at key
    show semW P (Sem.bind (match P.info? t with
      | some d => Sem.pure d
      | none => _) _) K h
    rw [hi]
    exact key

theorem semIs_of_semW {P : Program} {s : Sem Value} {h : Hp} {v : Value} (hi : semW P s (fun u h' => u = v ∧ h' = h) h) : SemIs P s h v := by
  intro w hs
  obtain ⟨a, w', h', hr, ⟨ha, hh⟩, hst⟩ := semW_sound s hs hi
  subst ha; subst hh
  exact ⟨w', hr, hst⟩

theorem semIs_of_run {P : Program} {s : Sem Value} {h : Hp} {v : Value} (hi : ∀ w, s.run P w = .ok v w) : SemIs P s h v := fun w hs => ⟨w, hi w, .refl hs⟩

theorem semIs_nilSl {P : Program} {t e : Nat} {x y : Operand} {h : Hp} (hu : P.underlying t = some (.slice e)) (s : Sl) : SemIs P (binS .eql t x y s.v (.slice none 0 0)) h (.bool s.base.isNone) := by
  have key : ∀ d, semW P (Op.equalIn (d + 1) t s.v (.slice none 0 0)) (fun u h' => u = s.base.isNone ∧ h' = h) h := by
    intro d
    unfold Op.equalIn
    refine (semW_bind _ _).2 (semW_und hu ?_)
    cases hb : s.base with
    | none => simp only [Sl.v, hb]; exact ⟨rfl, rfl⟩
    | some a => simp only [Sl.v, hb]; exact ⟨rfl, rfl⟩
  refine semIs_of_semW ?_
  show semW P (Sem.bind (Op.equal t s.v (.slice none 0 0)) fun b => Sem.pure (Value.bool b)) _ h
  refine (semW_bind _ _).2 (semW_mono _ (fun a k hk => ?_) (key 9999))
  obtain ⟨rfl, rfl⟩ := hk
  exact ⟨rfl, rfl⟩

end Lf

/-
  Parts of slices.
-/
namespace Lf
open Go

theorem ldIs_drop {h : Hp} {a : Addr} {cs : List Value} (e : LdIs h a cs) (n : Nat) : LdIs h (a.add n) (cs.drop n) := fun i v hv => by
  rw [add_add]
  exact e (n + i) v (by simpa [List.getElem?_drop] using hv)

theorem flat_drop {α : Type} {sz : Nat} {enc : α → List Value} (henc : ∀ x, (enc x).length = sz) : ∀ (xs : List α) (n : Nat), (xs.drop n).flatMap enc = (xs.flatMap enc).drop (n * sz)
  | [], n => by simp
  | x :: xs, 0 => by simp
  | x :: xs, n + 1 => by
    simp only [List.drop_succ_cons, List.flatMap_cons]
    have e : (enc x).drop (n * sz + sz) = [] := List.drop_eq_nil_of_le (by rw [henc]; omega)
    rw [flat_drop henc xs n, Nat.add_mul, Nat.one_mul, List.drop_append, henc, e, List.nil_append, Nat.add_sub_cancel]

theorem flat_take {α : Type} {sz : Nat} {enc : α → List Value} (henc : ∀ x, (enc x).length = sz) : ∀ (xs : List α) (n : Nat), (xs.take n).flatMap enc = (xs.flatMap enc).take (n * sz)
  | [], n => by simp
  | x :: xs, 0 => by simp
  | x :: xs, n + 1 => by
    simp only [List.take_succ_cons, List.flatMap_cons]
    have e : (enc x).take (n * sz + sz) = enc x := List.take_of_length_le (by rw [henc]; omega)
    rw [flat_take henc xs n, Nat.add_mul, Nat.one_mul, List.take_append, henc, e, Nat.add_sub_cancel]

/-- A part of a slice holds a part of the list. -/
theorem Rw.cut {α : Type} {h : Hp} {sz : Nat} {enc : α → List Value} {l : Sl} {xs : List α} (r : Rw h sz enc l xs) (henc : ∀ x, (enc x).length = sz) {a b c n m : Nat} (hab : a ≤ b) (hb : b ≤ xs.length) (hc : b ≤ c) (hn : n = b - a) :
    Rw h sz enc ⟨sbase l.base sz a c, n, m⟩ ((xs.drop a).take (b - a)) := by
  obtain ⟨h1, h2, h3⟩ := r
  have hlen : ((xs.drop a).take (b - a)).length = b - a := by rw [List.length_take, List.length_drop]; omega
  refine ⟨hn.trans hlen.symm, flat_len henc _, ?_⟩
  rw [hlen]
  by_cases h0 : (b - a) * sz = 0
  · exact .inl h0
  · right
    have hba : b - a ≠ 0 := fun e => h0 (by rw [e, Nat.zero_mul])
    have hsz : sz ≠ 0 := fun e => h0 (by rw [e, Nat.mul_zero])
    have hx : xs.length * sz ≠ 0 := Nat.mul_ne_zero (by omega) hsz
    obtain ⟨p, hp, hl⟩ := h3.resolve_left hx
    refine ⟨p.add (a * sz), ?_, fun i v hv => ?_⟩
    · unfold sbase
      rw [if_neg (show ¬ c = a by omega), hp]
      rfl
    · rw [flat_take henc, flat_drop henc, List.getElem?_take] at hv
      split at hv
      · exact ldIs_drop hl (a * sz) i v hv
      · cases hv

theorem Rw.head {α : Type} {h : Hp} {sz : Nat} {enc : α → List Value} {l : Sl} {xs : List α} (r : Rw h sz enc l xs) (henc : ∀ x, (enc x).length = sz) {b c n m : Nat} (hb : b ≤ xs.length) (hc : b ≤ c) (hn : n = b) :
    Rw h sz enc ⟨sbase l.base sz 0 c, n, m⟩ (xs.take b) := by
  have := r.cut (m := m) henc (Nat.zero_le b) hb hc (n := n) (by omega)
  simpa using this

theorem min2_le {x y : Int} : min2I x y ≤ x ∧ min2I x y ≤ y ∧ (min2I x y = x ∨ min2I x y = y) := by
  unfold min2I
  split <;> omega

end Lf

/-
  Blocks that are written: what stays.
-/
namespace Lf
open Go

/-- From one partial memory to the next: of the known blocks, none but those of the first list has changed; the second list has old ones of the first list, and new ones. -/
structure Mv (F : List Nat) (h : Hp) (F' : List Nat) (h' : Hp) : Prop where
  keep : ∀ b o, h b = some o → b ∉ F → h' b = some o
  from_ : ∀ b ∈ F', b ∈ F ∨ h b = none

theorem Mv.refl (F : List Nat) (h : Hp) : Mv F h F h := ⟨fun _ _ e _ => e, fun _ e => .inl e⟩

theorem Mv.trans {F F' F'' : List Nat} {h h' h'' : Hp} (a : Mv F h F' h') (b : Mv F' h' F'' h'') : Mv F h F'' h'' := by
  refine ⟨fun i o e hn => b.keep i o (a.keep i o e hn) fun hf => ?_, fun i hi => ?_⟩
  · rcases a.from_ i hf with h1 | h1
    · exact hn h1
    · rw [h1] at e; cases e
  · rcases b.from_ i hi with h1 | h1
    · exact a.from_ i h1
    · cases e : h i with
      | none => exact .inr rfl
      | some o =>
        left
        refine Classical.byContradiction fun hn => ?_
        rw [a.keep i o e hn] at h1; cases h1

theorem Mv.of_le {h h' : Hp} (F : List Nat) (hl : h ≤ h') : Mv F h F h' := ⟨fun b o e _ => hl b o e, fun _ e => .inl e⟩

theorem Mv.le {F F' : List Nat} {h0 h h' : Hp} (a : Mv F h F' h') (hl : h0 ≤ h) (hf : ∀ b ∈ F, h0 b = none) : h0 ≤ h' ∧ ∀ b ∈ F', h0 b = none := by
  refine ⟨fun b o e => a.keep b o (hl b o e) fun hb => (by rw [hf b hb] at e; cases e), fun b hb => ?_⟩
  rcases a.from_ b hb with h1 | h1
  · exact hf b h1
  · exact none_of_le hl h1

/-- More may have changed. -/
theorem Mv.wide {F F' : List Nat} {h h' : Hp} (a : Mv F h F' h') (G : List Nat) : Mv (F ++ G) h (F' ++ G) h' :=
  ⟨fun b o e hn => a.keep b o e fun hb => hn (List.mem_append_left _ hb), fun b hb => by
    rcases List.mem_append.1 hb with hb | hb
    · rcases a.from_ b hb with h1 | h1
      · exact .inl (List.mem_append_left _ h1)
      · exact .inr h1
    · exact .inl (List.mem_append_right _ hb)⟩

theorem Mv.sub {F F' G G' : List Nat} {h h' : Hp} (a : Mv F h F' h') (h1 : ∀ b ∈ F, b ∈ G) (h2 : ∀ b ∈ G', b ∈ F' ∨ b ∈ G ∨ h b = none) : Mv G h G' h' :=
  ⟨fun b o e hn => a.keep b o e fun hb => hn (h1 b hb), fun b hb => by
    rcases h2 b hb with h3 | h3
    · rcases a.from_ b h3 with h4 | h4
      · exact .inl (h1 b h4)
      · exact .inr h4
    · exact h3⟩

theorem Mv.set {h : Hp} {b : Nat} {o : Obj} : Mv [b] h [b] (h.set b o) := by
  refine ⟨fun i x e hn => ?_, fun i hi => .inl hi⟩
  have hne : i ≠ b := fun e' => hn (by rw [e']; exact List.mem_singleton.2 rfl)
  simp only [Hp.set, hne, if_false]
  exact e

theorem Mv.new {h : Hp} {b : Nat} {o : Obj} (hn : h b = none) : Mv [] h [b] (h.set b o) :=
  ⟨fun i x e _ => set_new hn i x e, fun i hi => .inr (by rw [List.mem_singleton.1 hi]; exact hn)⟩

/-- A block of cells. -/
def Blk (h : Hp) (b : Nat) (cs : List Value) : Prop := ∃ t, h b = some (.cells cs.toArray t (0, 0))

theorem Blk.mv {F F' : List Nat} {h h' : Hp} {b : Nat} {cs : List Value} (k : Blk h b cs) (a : Mv F h F' h') (hn : b ∉ F) : Blk h' b cs := by
  obtain ⟨t, e⟩ := k
  exact ⟨t, a.keep b _ e hn⟩

theorem Blk.le {h h' : Hp} {b : Nat} {cs : List Value} (k : Blk h b cs) (hl : h ≤ h') : Blk h' b cs := by
  obtain ⟨t, e⟩ := k
  exact ⟨t, hl _ _ e⟩

theorem Blk.known {h : Hp} {b : Nat} {cs : List Value} (k : Blk h b cs) : h b ≠ none := by
  obtain ⟨t, e⟩ := k
  rw [e]; simp

/-- A place in a block. -/
def at_ (b off : Nat) : Addr := ⟨b, off, none⟩

theorem Blk.ldIs {h : Hp} {b : Nat} {cs : List Value} (k : Blk h b cs) {off n : Nat} {vs : List Value} (e : (cs.drop off).take n = vs) : LdIs h ⟨b, off, none⟩ vs := by
  obtain ⟨t, hb⟩ := k
  intro i v hv
  rw [box_add, hcell_block0 hb]
  rw [← e, List.getElem?_take] at hv
  split at hv
  · rw [List.getElem?_drop] at hv
    exact hv
  · cases hv

theorem Blk.stOk {h : Hp} {b : Nat} {cs : List Value} (k : Blk h b cs) {off : Nat} : ∀ n, off + n ≤ cs.length → StOk h ⟨b, off, none⟩ n
  | 0, _ => trivial
  | n + 1, hn => by
    obtain ⟨t, hb⟩ := k
    refine ⟨Blk.stOk ⟨t, hb⟩ n (by omega), ⟨cs[off + n]'(by omega), ?_⟩, ?_⟩
    · rw [box_add, hcell_block0 hb]
      simp
    · rw [box_add]
      unfold hfroz
      simp [hb]

/-- Cells are laid into a block. -/
theorem Blk.put {h : Hp} {b : Nat} {cs new : List Value} (k : Blk h b cs) {off : Nat} (hl : off + new.length ≤ cs.length) :
    Blk (putL h ⟨b, off, none⟩ new 0) b (cs.take off ++ new ++ cs.drop (off + new.length)) ∧ ∀ b', b' ≠ b → (putL h ⟨b, off, none⟩ new 0) b' = h b' := by
  obtain ⟨t, hb⟩ := k
  obtain ⟨p1, p2⟩ := put_cells b t new h 0 off cs (by simpa using hl) hb
  rw [Nat.add_zero, layL_eq _ _ _ hl] at p1
  exact ⟨⟨t, p1⟩, p2⟩

theorem Mv.of_other {h h' : Hp} {b : Nat} (ho : ∀ b', b' ≠ b → h' b' = h b') : Mv [b] h [b] h' :=
  ⟨fun i o e hn => by rw [ho i fun e' => hn (by rw [e']; exact List.mem_singleton.2 rfl)]; exact e, fun i hi => .inl hi⟩

theorem stW_blk {h : Hp} {b : Nat} {cs new : List Value} {off : Nat} {K : Hp → Prop} (k : Blk h b cs) (hl : off + new.length ≤ cs.length)
    (hk : ∀ h', Mv [b] h [b] h' → Blk h' b (cs.take off ++ new ++ cs.drop (off + new.length)) → K h') : StW h ⟨b, off, none⟩ new K := by
  obtain ⟨p1, p2⟩ := k.put hl
  exact ⟨k.stOk _ hl, hk _ (Mv.of_other p2) p1⟩

section
variable {α : Type} {h : Hp} {sz : Nat} {enc : α → List Value} {l : Sl} {xs : List α}

/-- A slice in a block of its own: 'F' has it, if there is one. -/
def OwnF (h : Hp) (sz : Nat) (enc : α → List Value) (l : Sl) (xs : List α) (F : List Nat) : Prop :=
  l.len = xs.length ∧ l.len ≤ l.cap ∧ ((l.base = none ∧ l.cap = 0 ∧ F = []) ∨
    ∃ (b : Nat) (cs : List Value), l.base = some ⟨b, 0, none⟩ ∧ F = [b] ∧ Blk h b cs ∧ cs.length = l.cap * sz ∧ cs.take (l.len * sz) = xs.flatMap enc)

theorem OwnF.own {F : List Nat} {h0 : Hp} (o : OwnF h sz enc l xs F) (hf : ∀ b ∈ F, h0 b = none) : Own h0 h sz enc l xs := by
  obtain ⟨h1, h2, h3⟩ := o
  refine ⟨h1, h2, ?_⟩
  rcases h3 with ⟨e1, e2, _⟩ | ⟨b, cs, e1, rfl, ⟨t, e3⟩, e4, e5⟩
  · exact .inl ⟨e1, e2⟩
  · exact .inr ⟨b, cs, t, e1, e3, e4, e5, hf b (List.mem_singleton.2 rfl)⟩

theorem OwnF.rw {F : List Nat} (o : OwnF h sz enc l xs F) (henc : ∀ x, (enc x).length = sz) : Rw h sz enc l xs := (o.own (h0 := fun _ => none) fun _ _ => rfl).rw henc

theorem Own.ownF {h0 : Hp} (o : Own h0 h sz enc l xs) : ∃ F, OwnF h sz enc l xs F ∧ ∀ b ∈ F, h0 b = none := by
  obtain ⟨h1, h2, h3⟩ := o
  rcases h3 with ⟨e1, e2⟩ | ⟨b, cs, t, e1, e3, e4, e5, e6⟩
  · exact ⟨[], ⟨h1, h2, .inl ⟨e1, e2, rfl⟩⟩, fun b hb => by cases hb⟩
  · exact ⟨[b], ⟨h1, h2, .inr ⟨b, cs, e1, rfl, ⟨t, e3⟩, e4, e5⟩⟩, fun b' hb => by rw [List.mem_singleton.1 hb]; exact e6⟩

theorem OwnF.known {F : List Nat} (o : OwnF h sz enc l xs F) : ∀ b ∈ F, h b ≠ none := by
  obtain ⟨_, _, h3⟩ := o
  rcases h3 with ⟨_, _, rfl⟩ | ⟨b, cs, _, rfl, e3, _, _⟩
  · intro b hb; cases hb
  · intro b' hb; rw [List.mem_singleton.1 hb]; exact e3.known

theorem OwnF.same {F : List Nat} {h' : Hp} (o : OwnF h sz enc l xs F) (hs : ∀ b ∈ F, h' b = h b) : OwnF h' sz enc l xs F := by
  obtain ⟨h1, h2, h3⟩ := o
  refine ⟨h1, h2, h3.imp id ?_⟩
  rintro ⟨b, cs, e1, rfl, ⟨t, e3⟩, e4⟩
  exact ⟨b, cs, e1, rfl, ⟨t, by rw [hs b (List.mem_singleton.2 rfl)]; exact e3⟩, e4⟩

theorem OwnF.mv {F G G' : List Nat} {h' : Hp} (o : OwnF h sz enc l xs F) (a : Mv G h G' h') (hd : ∀ b ∈ F, b ∉ G) : OwnF h' sz enc l xs F := by
  obtain ⟨h1, h2, h3⟩ := o
  refine ⟨h1, h2, h3.imp id ?_⟩
  rintro ⟨b, cs, e1, rfl, e3, e4⟩
  exact ⟨b, cs, e1, rfl, e3.mv a (hd b (List.mem_singleton.2 rfl)), e4⟩

theorem newF {cs : List Value} {K : Addr → Hp → Prop} (hc : cs = xs.flatMap enc) (henc : ∀ x, (enc x).length = sz)
    (hk : ∀ b h', h b = none → h ≤ h' → Mv [] h [b] h' → OwnF h' sz enc ⟨some ⟨b, 0, none⟩, xs.length, xs.length⟩ xs [b] → K ⟨b, 0, none⟩ h') : NewW cs K h := by
  intro b t hb
  refine hk b _ hb (set_new hb) (Mv.new hb) ⟨rfl, Nat.le_refl _, .inr ⟨b, cs, rfl, rfl, ⟨t, set_self⟩, ?_, ?_⟩⟩
  · rw [hc, flat_len henc]
  · have : (xs.length * sz) = (xs.flatMap enc).length := (flat_len henc xs).symm
    show List.take (xs.length * sz) cs = _
    rw [this, hc, List.take_length]

/-- Append. -/
theorem appF {F : List Nat} {zero : List Value} {bytes : Nat} {x : Sl} {ys : List α} {K : Sl → Hp → Prop} (o : OwnF h sz enc l xs F) (r : Rw h sz enc x ys) (henc : ∀ x, (enc x).length = sz) (hok : ∀ x, okCells (enc x) = true)
    (hz : zero.length = sz) (hb : xs.length + ys.length ≤ 140737488355328 ∧ (xs.length + ys.length) * bytes ≤ 140737488355328)
    (hk : ∀ l' h' F', OwnF h' sz enc l' (xs ++ ys) F' → Mv F h F' h' → K l' h') : AppendW sz bytes zero l x K h := by
  have hrw := o.rw henc
  obtain ⟨h1, h2, h3⟩ := o
  obtain ⟨hx1, hx2⟩ := r
  refine ⟨ys.flatMap enc, by rw [hx1]; exact hx2, xs.flatMap enc, by rw [h1]; exact hrw.2, by rw [h1, hx1]; exact hb, flat_ok hok ys, fun hcap => ?_, fun hcap c b t hc hbn => ?_⟩
  · rcases h3 with ⟨e, ec, rfl⟩ | ⟨b, cs, e, rfl, hbk, hl, ht⟩
    · have e1 : ys.length = 0 := by omega
      have e2 : ys = [] := List.length_eq_zero_iff.1 e1
      subst e2
      refine ⟨fun a ha => (by rw [e] at ha; cases ha), ?_⟩
      have e3 : putO h l.base (l.len * sz) (([] : List α).flatMap enc) = h := by rw [e]; rfl
      rw [e3, hx1]
      exact hk _ h [] ⟨by simp [h1], by simpa using h2, .inl ⟨e, ec, rfl⟩⟩ (Mv.refl _ _)
    · have hle : l.len * sz + (ys.flatMap enc).length ≤ cs.length := by
        rw [hl, flat_len henc, ← Nat.add_mul]
        exact Nat.mul_le_mul_right sz (by omega)
      obtain ⟨p1, p2⟩ := hbk.put hle
      refine ⟨fun a ha => ?_, ?_⟩
      · rw [e] at ha; cases ha
        rw [box_add, Nat.zero_add]
        refine hbk.stOk _ ?_
        rw [hx1, ← flat_len henc ys]
        exact hle
      · have e3 : putO h l.base (l.len * sz) (ys.flatMap enc) = putL h ⟨b, l.len * sz, none⟩ (ys.flatMap enc) 0 := by
          rw [e]
          simp only [putO, box_add, Nat.zero_add]
        rw [e3]
        refine hk _ _ [b] ⟨by simp [h1, hx1], hcap, .inr ⟨b, _, e, rfl, p1, ?_, ?_⟩⟩ (Mv.of_other p2)
        · rw [← hl]
          simp only [List.length_append, List.length_take, List.length_drop]
          omega
        · have e4 : (l.len + x.len) * sz = (cs.take (l.len * sz) ++ ys.flatMap enc).length := by
            rw [List.length_append, ht, flat_len henc, flat_len henc, h1, hx1, Nat.add_mul]
          show List.take ((l.len + x.len) * sz) _ = _
          rw [e4, List.take_left, ht, List.flatMap_append]
  · have hn : Mv F h [b] (h.set b (.cells (xs.flatMap enc ++ ys.flatMap enc ++ zerosL zero (c - (l.len + x.len))).toArray t (0, 0))) :=
      (Mv.new hbn).sub (fun b hb => by cases hb) fun b hb => .inl hb
    refine hk _ _ [b] ⟨by simp [h1, hx1], hc, .inr ⟨b, xs.flatMap enc ++ ys.flatMap enc ++ zerosL zero (c - (l.len + x.len)), rfl, rfl, ⟨t, set_self⟩, ?_, ?_⟩⟩ hn
    · rw [List.length_append, List.length_append, flat_len henc, flat_len henc, zerosL_len, hz, ← Nat.add_mul, ← Nat.add_mul]
      show _ = c * sz
      congr 1
      omega
    · have e4 : (l.len + x.len) * sz = (xs.flatMap enc ++ ys.flatMap enc).length := by
        rw [List.length_append, flat_len henc, flat_len henc, h1, hx1, Nat.add_mul]
      show List.take ((l.len + x.len) * sz) _ = _
      rw [e4, List.take_left, List.flatMap_append]

end
end Lf

/-
  Regions of memory that do not meet.
-/
namespace Lf
open Go

theorem mv_same {F F' E : List Nat} {k k' : Hp} (m : Mv F k F' k') (hE : ∀ c ∈ E, k c ≠ none) (hd : ∀ c ∈ E, c ∉ F) : ∀ c ∈ E, k' c = k c := fun c hc => by
  cases hk : k c with
  | none => exact absurd hk (hE c hc)
  | some o => exact m.keep c o hk (hd c hc)

theorem mv_disj {F F' E : List Nat} {k k' : Hp} (m : Mv F k F' k') (hE : ∀ c ∈ E, k c ≠ none) (hd : ∀ c ∈ E, c ∉ F) : ∀ c ∈ E, c ∉ F' := fun c hc hf => by
  rcases m.from_ c hf with h | h
  · exact hd c hc h
  · exact hE c hc h

/-- First the one region, then the other one. -/
theorem mv_two {F F' R R' : List Nat} {k k1 k2 : Hp} (m1 : Mv F k F' k1) (m2 : Mv R k1 R' k2) : Mv (F ++ R) k (F' ++ R') k2 := by
  have q1 := m1.wide R
  have q2 : Mv (F' ++ R) k1 (F' ++ R') k2 := m2.sub (fun c hc => List.mem_append_right _ hc) fun c hc => by
    rcases List.mem_append.1 hc with hc | hc
    · exact .inr (.inl (List.mem_append_left _ hc))
    · exact .inl hc
  exact q1.trans q2

/-- Of what is made, some is let go. -/
theorem Mv.less {F F' E : List Nat} {h h' : Hp} (a : Mv F h F' h') (hs : ∀ c ∈ E, c ∈ F') : Mv F h E h' := ⟨a.keep, fun b hb => a.from_ b (hs b hb)⟩

/-- Regions that do not meet, all known, none of them known at first. -/
structure Regs (h k : Hp) (Rg : List (List Nat)) : Prop where
  sep : ∀ (a b : Nat) E G, Rg[a]? = some E → Rg[b]? = some G → a ≠ b → ∀ c ∈ E, c ∉ G
  known : ∀ (a : Nat) E, Rg[a]? = some E → ∀ c ∈ E, k c ≠ none
  fresh : ∀ (a : Nat) E, Rg[a]? = some E → ∀ c ∈ E, h c = none
  le : h ≤ k

theorem Regs.grow {h k k' : Hp} {Rg : List (List Nat)} (r : Regs h k Rg) (hl : k ≤ k') : Regs h k' Rg :=
  ⟨r.sep, fun a E hE c hc e => r.known a E hE c hc (none_of_le hl e), r.fresh, Hp.le_trans r.le hl⟩

theorem Regs.step {h k k' : Hp} {Rg : List (List Nat)} {j : Nat} {F F' : List Nat} (r : Regs h k Rg) (hj : Rg[j]? = some F) (m : Mv F k F' k') (kn : ∀ c ∈ F', k' c ≠ none) : Regs h k' (Rg.set j F') := by
  have hjl : j < Rg.length := (List.getElem?_eq_some_iff.1 hj).1
  have hget : ∀ a E, (Rg.set j F')[a]? = some E → (a = j ∧ E = F') ∨ (a ≠ j ∧ Rg[a]? = some E) := by
    intro a E hE
    rw [List.getElem?_set, if_pos hjl] at hE
    split at hE
    · rename_i e
      exact .inl ⟨e.symm, (Option.some.inj hE).symm⟩
    · rename_i e
      exact .inr ⟨fun e' => e e'.symm, hE⟩
  have hdis : ∀ a E, a ≠ j → Rg[a]? = some E → ∀ c ∈ E, c ∉ F' := fun a E hne hE => mv_disj m (r.known a E hE) (r.sep a j E F hE hj hne)
  have hfr : ∀ c ∈ F', h c = none := (m.le r.le (r.fresh j F hj)).2
  refine ⟨fun a b E G hE hG hab c hc hc' => ?_, fun a E hE c hc => ?_, fun a E hE c hc => ?_, (m.le r.le (r.fresh j F hj)).1⟩
  · rcases hget a E hE with ⟨rfl, rfl⟩ | ⟨h1, h2⟩
    · rcases hget b G hG with ⟨rfl, rfl⟩ | ⟨h3, h4⟩
      · exact hab rfl
      · exact hdis b G h3 h4 c hc' hc
    · rcases hget b G hG with ⟨rfl, rfl⟩ | ⟨h3, h4⟩
      · exact hdis a E h1 h2 c hc hc'
      · exact r.sep a b E G h2 h4 hab c hc hc'
  · rcases hget a E hE with ⟨rfl, rfl⟩ | ⟨h1, h2⟩
    · exact kn c hc
    · have := mv_same m (r.known a E h2) (r.sep a j E F h2 hj h1) c hc
      rw [this]
      exact r.known a E h2 c hc
  · rcases hget a E hE with ⟨rfl, rfl⟩ | ⟨h1, h2⟩
    · exact hfr c hc
    · exact r.fresh a E h2 c hc

theorem Regs.other {h k k' : Hp} {Rg : List (List Nat)} {j a : Nat} {F F' E : List Nat} (r : Regs h k Rg) (hj : Rg[j]? = some F) (m : Mv F k F' k') (ha : Rg[a]? = some E) (hne : a ≠ j) : ∀ c ∈ E, k' c = k c :=
  mv_same m (r.known a E ha) (r.sep a j E F ha hj hne)

theorem Regs.push {h k k' : Hp} {Rg : List (List Nat)} {E : List Nat} (r : Regs h k Rg) (hl : k ≤ k') (hn : ∀ c ∈ E, k c = none) (kn : ∀ c ∈ E, k' c ≠ none) : Regs h k' (Rg ++ [E]) := by
  have hget : ∀ a G, (Rg ++ [E])[a]? = some G → (a = Rg.length ∧ G = E) ∨ (a < Rg.length ∧ Rg[a]? = some G) := by
    intro a G hG
    by_cases h1 : a < Rg.length
    · rw [List.getElem?_append_left h1] at hG
      exact .inr ⟨h1, hG⟩
    · rw [List.getElem?_append_right (by omega)] at hG
      have h2 : a - Rg.length = 0 := by
        have := (List.getElem?_eq_some_iff.1 hG).1
        simp at this
        omega
      rw [h2] at hG
      exact .inl ⟨by omega, (Option.some.inj hG).symm⟩
  refine ⟨fun a b A B hA hB hab c hc hc' => ?_, fun a A hA c hc => ?_, fun a A hA c hc => ?_, Hp.le_trans r.le hl⟩
  · rcases hget a A hA with ⟨rfl, rfl⟩ | ⟨h1, h2⟩
    · rcases hget b B hB with ⟨rfl, rfl⟩ | ⟨h3, h4⟩
      · exact hab rfl
      · exact r.known b B h4 c hc' (hn c hc)
    · rcases hget b B hB with ⟨rfl, rfl⟩ | ⟨h3, h4⟩
      · exact r.known a A h2 c hc (hn c hc')
      · exact r.sep a b A B h2 h4 hab c hc hc'
  · rcases hget a A hA with ⟨rfl, rfl⟩ | ⟨h1, h2⟩
    · exact kn c hc
    · exact fun e => r.known a A h2 c hc (none_of_le hl e)
  · rcases hget a A hA with ⟨rfl, rfl⟩ | ⟨h1, h2⟩
    · exact none_of_le r.le (hn c hc)
    · exact r.fresh a A h2 c hc

end Lf

/-
  Operations of the library's own: cleared cells, slices that do not meet, fields of elements.
-/
namespace Lf
open Go

section
variable {P : Program} {h : Hp}

theorem semW_bind' {α β : Type} (s : Sem α) (f : α → Sem β) {K : β → Hp → Prop} : semW P (s >>= f) K h ↔ semW P s (fun a h => semW P (f a) K h) h := semW_bind s f

theorem semW_pure' {α : Type} (a : α) {K : α → Hp → Prop} : semW P (pure a) K h ↔ K a h := Iff.rfl

theorem semW_size {t : Nat} {i : TypeInfo} (hi : P.info? t = some i) {K : Nat → Hp → Prop} (hk : K i.size h) : semW P (sizeOf t) K h := by
  show semW P (Sem.bind (match P.info? t with
    | some d => Sem.pure d
    | none => _) _) K h
  rw [hi]
  exact hk

theorem semW_frozen {a : Addr} {o : Obj} (e : h a.block = some o) {K : Bool → Hp → Prop} (hk : K (hfroz h a) h) : semW P (frozen a) K h := ⟨⟨o, e⟩, hk⟩

theorem semW_shape {r : Nat} {o : Obj} (e : h r = some o) {K : Option (TypeId × Nat) → Hp → Prop} (hk : K (shapeOf o) h) : semW P (shape r) K h := ⟨o, e, hk⟩

theorem blk_froz {b : Nat} {cs : List Value} (k : Blk h b cs) (off : Nat) : hfroz h ⟨b, off, none⟩ = false := by
  obtain ⟨t, e⟩ := k
  unfold hfroz
  simp [e]

theorem semW_noView {b off : Nat} {cs : List Value} (k : Blk h b cs) {K : Unit → Hp → Prop} (hk : K () h) : semW P (noView ⟨b, off, none⟩) K h := by
  obtain ⟨t, e⟩ := k
  unfold noView viewAt
  refine (semW_bind' _ _).2 ((semW_bind' _ _).2 (semW_shape (r := b) e ?_))
  exact hk

theorem semW_stringish {b off : Nat} {cs : List Value} (k : Blk h b cs) {K : Bool → Hp → Prop} (hk : K false h) : semW P (stringish ⟨b, off, none⟩) K h := by
  have k0 := k
  obtain ⟨t, e⟩ := k
  unfold stringish
  refine (semW_bind' _ _).2 (semW_frozen (a := ⟨b, off, none⟩) e ?_)
  rw [blk_froz k0]
  refine (semW_bind' _ _).2 (semW_shape (r := b) e ?_)
  refine semW_frozen (a := ⟨b, _, none⟩) e ?_
  rw [blk_froz k0]
  exact hk

/-- Two slices in two blocks of plain memory. -/
theorem overlaps_apart {tS tR e : Nat} {i : TypeInfo} {a b ao bo la ca lb cb : Nat} {ca' cb' : List Value} {K : Bool → Hp → Prop} (ht : P.underlying tS = some (.slice e)) (hi : P.info? e = some i) (ka : Blk h a ca') (kb : Blk h b cb') (hne : a ≠ b)
    (hk : K false h) : SemE P (Extern.SlicesOverlaps.overlaps #[tS, tS] #[tR] #[.slice (some ⟨a, ao, none⟩) la ca, .slice (some ⟨b, bo, none⟩) lb cb]) shBool K h := by
  have hb1 : ((⟨a, ao, none⟩ : Addr).block != (⟨b, bo, none⟩ : Addr).block) = true := by simpa using hne
  have hb2 : ((⟨a, ao, none⟩ : Addr).block == (⟨b, bo, none⟩ : Addr).block) = false := by simpa using hne
  obtain ⟨ta, ea⟩ := id ka
  obtain ⟨tb, eb⟩ := id kb
  unfold SemE
  show semW P (α := Value) (underlying tS >>= fun d => _) _ h
  refine (semW_bind' _ _).2 (semW_und ht ?_)
  refine (semW_bind' _ _).2 (semW_size hi ?_)
  dsimp only
  by_cases h0 : la = 0 ∨ lb = 0 ∨ i.size = 0
  · rw [if_pos h0]
    exact ⟨false, rfl, hk⟩
  · rw [if_neg h0]
    refine (semW_bind' _ _).2 (semW_frozen (a := ⟨a, ao, none⟩) ea ?_)
    refine (semW_bind' _ _).2 (semW_frozen (a := ⟨b, bo, none⟩) eb ?_)
    rw [hb1, blk_froz ka]
    simp only [Bool.true_and, Bool.false_and, Bool.false_eq_true, if_false, if_true]
    refine (semW_bind' _ _).2 (semW_noView ka ?_)
    refine (semW_bind' _ _).2 (semW_noView kb ?_)
    refine (semW_bind' _ _).2 ?_
    unfold mayBeOne
    refine (semW_bind' _ _).2 (semW_stringish ka ?_)
    refine (semW_bind' _ _).2 (semW_stringish kb ?_)
    refine (semW_bind' _ _).2 ((semW_bind' _ _).2 (semW_shape (r := a) ea ?_))
    refine (semW_bind' _ _).2 ((semW_bind' _ _).2 (semW_shape (r := b) eb ?_))
    simp only [Bool.false_and, Bool.or_false]
    refine ⟨false, ?_, hk⟩
    rw [hb2]
    rfl

theorem semW_storeCells {a : Addr} : ∀ (vs : List Value) (i : Nat) {h : Hp} {K : Unit → Hp → Prop}, okCells vs = true → (∀ j, j < vs.length → (∃ v, hcell h (a.add (i + j)) = some v) ∧ hfroz h (a.add (i + j)) = false) →
    K () (putL h a vs i) → semW P (storeCells a vs i) K h
  | [], i, h, K, _, _, hk => hk
  | v :: vs, i, h, K, hok, hst, hk => by
    obtain ⟨h1, h2⟩ := hst 0 (by simp)
    rw [Nat.add_zero] at h1 h2
    have hok' : okCells vs = true := by cases v <;> first | (exact hok) | (cases hok)
    have step : semW P (storeCells a vs (i + 1)) K (h.put (a.add i) v) := by
      refine semW_storeCells vs (i + 1) hok' (fun j hj => ?_) hk
      obtain ⟨⟨u, h3⟩, h4⟩ := hst (j + 1) (by simpa using hj)
      have e : i + (j + 1) = i + 1 + j := by omega
      rw [e] at h3 h4
      exact ⟨hcell_put ⟨u, h3⟩, (by rw [hfroz_put]; exact h4)⟩
    show semW P (Sem.store Mode.plain (a.add i) v (storeCells a vs (i + 1))) K h
    cases v <;> first | (exact ⟨h1, h2, step⟩) | (cases hok)

/-- Some cells of a block are set to zero. -/
theorem clear_blk {t e b off n c : Nat} {z : Value} {cs : List Value} {K : Hp → Prop} (ht : P.underlying t = some (.slice e)) (hz : ∀ {K : Value → Hp → Prop} {h : Hp}, K z h → semW P (zeroValue e) K h) (hok : ∀ n, okCells (zerosL (cellsL z) n) = true) (kb : Blk h b cs)
    (hl : off + n * (cellsL z).length ≤ cs.length)
    (hk : ∀ h', Mv [b] h [b] h' → Blk h' b (cs.take off ++ zerosL (cellsL z) n ++ cs.drop (off + n * (cellsL z).length)) → K h') :
    SemE0 P (Builtin.clear_ #[t] 0 #[.slice (some ⟨b, off, none⟩) n c]) shUnit K h := by
  unfold SemE0 SemE
  show semW P (α := Value) (underlying t >>= fun d => _) _ h
  refine (semW_bind' _ _).2 (semW_und ht ?_)
  cases n with
  | zero =>
    refine ⟨(), rfl, hk h (Mv.refl _ _) ?_⟩
    simp [zerosL]
    exact kb
  | succ n =>
    refine (semW_bind' _ _).2 ?_
    refine hz ?_
    have hzc : (Builtin.zeroCells z.cells (n + 1)).toList = zerosL (cellsL z) (n + 1) := by rw [zeroCells_eq, cells_list]
    have hlen : (zerosL (cellsL z) (n + 1)).length = (n + 1) * (cellsL z).length := zerosL_len _ _
    obtain ⟨p1, p2⟩ := kb.put (off := off) (new := zerosL (cellsL z) (n + 1)) (by rw [hlen]; exact hl)
    have hst := kb.stOk (off := off) (zerosL (cellsL z) (n + 1)).length (by rw [hlen]; exact hl)
    refine (semW_bind' _ _).2 ?_
    rw [hzc]
    refine semW_storeCells _ 0 (hok _) (fun j hj => ?_) ⟨(), rfl, hk _ (Mv.of_other p2) (by rw [hlen] at p1; exact p1)⟩
    rw [Nat.zero_add]
    exact stOk_get hst j hj

end
end Lf

/-
  Fields of elements; parts of slices by their places; copies into a block.
-/
namespace Lf
open Go

section
variable {α : Type} {h : Hp} {sz : Nat} {enc : α → List Value} {l : Sl} {xs : List α}

theorem Rw.fld (r : Rw h sz enc l xs) (henc : ∀ x, (enc x).length = sz) (hsz : 0 < sz) {sh : Shape} (g : α → sh.T) {j : Nat} (hg : ∀ x, ((enc x).drop j).take (cellsL (sh.enc (g x))).length = cellsL (sh.enc (g x))) {i : Int} (h0 : 0 ≤ i) (h1 : i < (xs.length : Int))
    {K : sh.T → Prop} (hk : ∀ x, xs[i.toNat]? = some x → K (g x)) : InB l.base l.len i ∧ LdW none sh h ((sat l.base sz i).add j) K := by
  obtain ⟨e1, x, hx, hl⟩ := r.read henc hsz h0 (by rw [r.1]; exact h1)
  refine ⟨e1, g x, fun q v hv => ?_, hk x hx⟩
  rw [add_add]
  refine hl (j + q) v ?_
  rw [← hg x, List.getElem?_take] at hv
  split at hv
  · rw [List.getElem?_drop] at hv; exact hv
  · cases hv

theorem Rw.fldC (r : Rw h sz enc l xs) (henc : ∀ x, (enc x).length = sz) (hsz : 0 < sz) {sh : Shape} (g : α → sh.T) {j : Nat} (hg : ∀ x, ((enc x).drop j).take (cellsL (sh.enc (g x))).length = cellsL (sh.enc (g x))) (x0 : sh.T) {c : Bool} {i : Int} (h0 : c = true → 0 ≤ i ∧ i < (xs.length : Int))
    {K : sh.T → Prop} (hk : ∀ y, (c = true → ∃ x, xs[i.toNat]? = some x ∧ y = g x) → K y) : (c = true → InB l.base l.len i) ∧ LdW (some c) sh h ((sat l.base sz i).add j) K := by
  cases c with
  | false => exact ⟨fun e => (by cases e), x0, fun e => (by cases e), hk x0 fun e => (by cases e)⟩
  | true =>
    obtain ⟨h0, h1⟩ := h0 rfl
    obtain ⟨e1, y, hy, hk'⟩ := r.fld henc hsz g hg h0 h1 (K := fun y => ∃ x, xs[i.toNat]? = some x ∧ y = g x) fun x hx => ⟨x, hx, rfl⟩
    exact ⟨fun _ => e1, y, fun _ => hy, hk y fun _ => hk'⟩

theorem sbase_at {b o a c : Nat} (hne : c ≠ a) : sbase (some ⟨b, o, none⟩) sz a c = some ⟨b, o + a * sz, none⟩ := by
  unfold sbase
  rw [if_neg hne]
  show some ((⟨b, o, none⟩ : Addr).add (a * sz)) = _
  rw [box_add]

theorem Blk.rd {b : Nat} {cs new : List Value} (k : Blk h b cs) {off n : Nat} (hn : new.length = n) (e : (cs.drop off).take n = new) : RdCells h (some ⟨b, off, none⟩) n new := ⟨hn, .inr ⟨_, rfl, k.ldIs e⟩⟩

theorem copyW_blk {b off dl dc n : Nat} {cs new : List Value} {x : Sl} {K : Int → Hp → Prop} (kb : Blk h b cs) (hn : min x.len dl = n) (hr : RdCells h x.base (n * sz) new) (hok : okCells new = true) (hl : off + n * sz ≤ cs.length)
    (hk : ∀ h', Mv [b] h [b] h' → Blk h' b (cs.take off ++ new ++ cs.drop (off + n * sz)) → K (n : Nat) h') : CopyW sz ⟨some ⟨b, off, none⟩, dl, dc⟩ x K h := by
  subst hn
  have hlen : new.length = min x.len dl * sz := hr.1
  refine ⟨new, hr, hok, fun a ha => ?_, ?_⟩
  · cases ha
    exact kb.stOk _ hl
  · obtain ⟨p1, p2⟩ := kb.put (off := off) (new := new) (by rw [hlen]; exact hl)
    have e : putO h (some ⟨b, off, none⟩) 0 new = putL h ⟨b, off, none⟩ new 0 := by simp only [putO, box_add, Nat.add_zero]
    show K _ (putO h (some ⟨b, off, none⟩) 0 new)
    rw [e]
    rw [hlen] at p1
    exact hk _ (Mv.of_other p2) p1

/-- Zero values are appended where there is no room. -/
theorem appZ_new {bytes : Nat} {zero : List Value} {l : Sl} {m : Int} {old : List Value} {K : Sl → Hp → Prop} (hm : 0 ≤ m) (hr : RdCells h l.base (l.len * sz) old) (hb : l.len + m.toNat ≤ 140737488355328 ∧ (l.len + m.toNat) * bytes ≤ 140737488355328)
    (hz : okCells (zerosL zero m.toNat) = true) (hfull : l.cap < l.len + m.toNat) (hk : ∀ b c h', h b = none → l.len + m.toNat ≤ c → h ≤ h' → Mv [] h [b] h' → Blk h' b (old ++ zerosL zero m.toNat ++ zerosL zero (c - (l.len + m.toNat))) → K ⟨some ⟨b, 0, none⟩, l.len + m.toNat, c⟩ h') :
    AppendZW sz bytes zero l m K h :=
  ⟨hm, old, hr, hb, hz, fun h1 => absurd h1 (by omega), fun _ c b t hc hbn => hk b c _ hbn hc (set_new hbn) (Mv.new hbn) ⟨t, set_self⟩⟩

/-- Append in place, of cells that may lie in the same block. -/
theorem app_in {bytes b off ll lc n : Nat} {zero : List Value} {x : Sl} {cs new old : List Value} {K : Sl → Hp → Prop} (kb : Blk h b cs) (hro : RdCells h (some ⟨b, off, none⟩) (ll * sz) old) (hrn : RdCells h x.base (x.len * sz) new) (hn : x.len = n) (hok : okCells new = true)
    (hb : ll + n ≤ 140737488355328 ∧ (ll + n) * bytes ≤ 140737488355328) (hroom : ll + n ≤ lc) (hl : off + ll * sz + n * sz ≤ cs.length)
    (hk : ∀ h', Mv [b] h [b] h' → Blk h' b (cs.take (off + ll * sz) ++ new ++ cs.drop (off + ll * sz + n * sz)) → K ⟨some ⟨b, off, none⟩, ll + n, lc⟩ h') : AppendW sz bytes zero ⟨some ⟨b, off, none⟩, ll, lc⟩ x K h := by
  subst hn
  have hlen : new.length = x.len * sz := hrn.1
  refine ⟨new, hrn, old, hro, hb, hok, fun _ => ⟨fun a ha => ?_, ?_⟩, fun h1 => absurd h1 (by show ¬ lc < ll + x.len; omega)⟩
  · cases ha
    rw [box_add]
    exact kb.stOk _ hl
  · obtain ⟨p1, p2⟩ := kb.put (off := off + ll * sz) (new := new) (by rw [hlen]; exact hl)
    have e : putO h (some ⟨b, off, none⟩) (ll * sz) new = putL h ⟨b, off + ll * sz, none⟩ new 0 := by simp only [putO, box_add]
    show K _ (putO h (some ⟨b, off, none⟩) (ll * sz) new)
    rw [e]
    rw [hlen] at p1
    exact hk _ (Mv.of_other p2) p1

theorem set_split {xs : List α} {i : Nat} (x : α) (hi : i < xs.length) : xs.set i x = xs.take i ++ x :: xs.drop (i + 1) := by
  rw [List.set_eq_take_append_cons_drop, if_pos hi]

/-- An element is written over. -/
theorem OwnF.store {F : List Nat} (o : OwnF h sz enc l xs F) (henc : ∀ x, (enc x).length = sz) {i : Int} (h0 : 0 ≤ i) (h1 : i < (xs.length : Int)) (x : α) {K : Hp → Prop} (hk : ∀ h', OwnF h' sz enc l (xs.set i.toNat x) F → Mv F h F h' → K h') :
    InB l.base l.len i ∧ StW h (sat l.base sz i) (enc x) K := by
  obtain ⟨o1, o2, o3⟩ := o
  rcases o3 with ⟨_, e2, _⟩ | ⟨b, cs, e1, rfl, kb, e4, e5⟩
  · omega
  · refine ⟨⟨by rw [e1]; simp, h0, by omega⟩, ?_⟩
    have hi : i.toNat < xs.length := by omega
    have ha : sat l.base sz i = ⟨b, i.toNat * sz, none⟩ := by unfold sat; rw [e1, Option.getD_some, box_add, Nat.zero_add]
    rw [ha]
    have hmul : i.toNat * sz + sz ≤ l.len * sz := by
      have := Nat.mul_le_mul_right sz (show i.toNat + 1 ≤ l.len by omega)
      rw [Nat.add_mul, Nat.one_mul] at this
      exact this
    have hmul2 : l.len * sz ≤ l.cap * sz := Nat.mul_le_mul_right sz o2
    refine stW_blk kb (by rw [henc, e4]; omega) fun h' m' k' => ?_
    rw [henc] at k'
    refine hk h' ⟨by simp [o1], o2, .inr ⟨b, _, e1, rfl, k', ?_, ?_⟩⟩ m'
    · simp only [List.length_append, List.length_take, List.length_drop, henc, e4]
      omega
    · rw [set_split x hi]
      have t1 : cs.take (i.toNat * sz) = (xs.take i.toNat).flatMap enc := by
        rw [flat_take henc, ← e5, List.take_take]; congr 1; omega
      have t2 : (cs.drop (i.toNat * sz + sz)).take (l.len * sz - (i.toNat * sz + sz)) = (xs.drop (i.toNat + 1)).flatMap enc := by
        rw [flat_drop henc, ← e5, Nat.add_mul, Nat.one_mul, List.drop_take]
      have hl1 : (cs.take (i.toNat * sz) ++ enc x).length = i.toNat * sz + sz := by
        rw [List.length_append, List.length_take, henc, e4]; omega
      rw [List.take_append, hl1, t2, List.take_of_length_le (by rw [hl1]; exact hmul), t1]
      simp

end
end Lf

/-
  What is done with is held in a part of memory.
-/
namespace Lf
open Go

/-- A memory without some blocks. -/
def cutH (k : Hp) (R : List Nat) : Hp := fun b => if b ∈ R then none else k b

theorem cut_le {k : Hp} {R : List Nat} : cutH k R ≤ k := fun b o e => by
  unfold cutH at e
  split at e
  · cases e
  · exact e

theorem cut_none {k : Hp} {R : List Nat} {b : Nat} (h : b ∈ R) : cutH k R b = none := by
  unfold cutH
  rw [if_pos h]

theorem cut_eq {k : Hp} {R : List Nat} {b : Nat} (h : b ∉ R) : cutH k R b = k b := by
  unfold cutH
  rw [if_neg h]

theorem le_cut {d k : Hp} {R : List Nat} (hl : d ≤ k) (hn : ∀ b ∈ R, d b = none) : d ≤ cutH k R := fun b o e => by
  rw [cut_eq fun hb => by rw [hn b hb] at e; cases e]
  exact hl b o e

theorem hcell_same {h h' : Hp} {a : Addr} (e : h' a.block = h a.block) : hcell h' a = hcell h a := by
  unfold hcell
  rw [e]

theorem addr_block (a : Addr) (n : Nat) : (a.add n).block = a.block := by
  unfold Addr.add
  split <;> rfl

theorem ldIs_same {h h' : Hp} {a : Addr} {cs : List Value} (l : LdIs h a cs) (e : h' a.block = h a.block) : LdIs h' a cs := fun i v hv => by
  have : hcell h' (a.add i) = hcell h (a.add i) := hcell_same (a := a.add i) (by rw [addr_block]; exact e)
  rw [this]
  exact l i v hv

section
variable {α : Type} {h h' : Hp} {sz : Nat} {enc : α → List Value} {l : Sl} {xs : List α} {F : List Nat}

theorem Rw.same (r : Rw h sz enc l xs) (e : ∀ a, l.base = some a → h' a.block = h a.block) : Rw h' sz enc l xs := by
  obtain ⟨h1, h2, h3⟩ := r
  refine ⟨h1, h2, h3.imp id ?_⟩
  rintro ⟨a, ha, hl⟩
  exact ⟨a, ha, ldIs_same hl (e a ha)⟩

theorem Rw.nil {l : Sl} (hl : l.len = 0) : Rw h sz enc l ([] : List α) := ⟨hl, (by simp), .inl (by simp)⟩

theorem OwnF.grow (o : OwnF h sz enc l xs F) (hl : h ≤ h') : OwnF h' sz enc l xs F := by
  obtain ⟨h1, h2, h3⟩ := o
  refine ⟨h1, h2, h3.imp id ?_⟩
  rintro ⟨b, cs, e1, rfl, e3, e4⟩
  exact ⟨b, cs, e1, rfl, e3.le hl, e4⟩

theorem OwnF.cut {R : List Nat} (o : OwnF h sz enc l xs F) (hd : ∀ b ∈ F, b ∉ R) : OwnF (cutH h R) sz enc l xs F := o.same fun b hb => cut_eq (hd b hb)

theorem OwnF.head (o : OwnF h sz enc l xs F) (henc : ∀ x, (enc x).length = sz) {n : Nat} (hn : n ≤ xs.length) : OwnF h sz enc ⟨l.base, n, l.cap⟩ (xs.take n) F := by
  obtain ⟨h1, h2, h3⟩ := o
  refine ⟨by simp; omega, by show n ≤ l.cap; omega, h3.imp id ?_⟩
  rintro ⟨b, cs, e1, e2, e3, e4, e5⟩
  refine ⟨b, cs, e1, e2, e3, e4, ?_⟩
  show cs.take (n * sz) = _
  rw [flat_take henc, ← e5, List.take_take, h1, Nat.min_eq_left (Nat.mul_le_mul_right sz hn)]

theorem OwnF.base (o : OwnF h sz enc l xs F) {a : Addr} (ha : l.base = some a) : F = [a.block] := by
  obtain ⟨_, _, h3⟩ := o
  rcases h3 with ⟨e, _⟩ | ⟨b, cs, e1, rfl, _⟩
  · rw [e] at ha; cases ha
  · rw [e1] at ha; cases ha; rfl

/-- Append, and whether it was in place. -/
theorem appS {zero : List Value} {bytes : Nat} {x : Sl} {ys : List α} {K : Sl → Hp → Prop} (o : OwnF h sz enc l xs F) (r : Rw h sz enc x ys) (henc : ∀ x, (enc x).length = sz) (hok : ∀ x, okCells (enc x) = true)
    (hz : zero.length = sz) (hb : xs.length + ys.length ≤ 140737488355328 ∧ (xs.length + ys.length) * bytes ≤ 140737488355328)
    (hk : ∀ l' h' F', OwnF h' sz enc l' (xs ++ ys) F' → Mv F h F' h' → (F' = F ∧ l'.base = l.base) ∨ (h ≤ h' ∧ ∀ b ∈ F', h b = none) → K l' h') : AppendW sz bytes zero l x K h := by
  have hrw := o.rw henc
  obtain ⟨h1, h2, h3⟩ := o
  obtain ⟨hx1, hx2⟩ := r
  refine ⟨ys.flatMap enc, by rw [hx1]; exact hx2, xs.flatMap enc, by rw [h1]; exact hrw.2, by rw [h1, hx1]; exact hb, flat_ok hok ys, fun hcap => ?_, fun hcap c b t hc hbn => ?_⟩
  · rcases h3 with ⟨e, ec, rfl⟩ | ⟨b, cs, e, rfl, hbk, hl, ht⟩
    · have e1 : ys.length = 0 := by omega
      have e2 : ys = [] := List.length_eq_zero_iff.1 e1
      subst e2
      refine ⟨fun a ha => (by rw [e] at ha; cases ha), ?_⟩
      have e3 : putO h l.base (l.len * sz) (([] : List α).flatMap enc) = h := by rw [e]; rfl
      rw [e3, hx1]
      exact hk _ h [] ⟨by simp [h1], by simpa using h2, .inl ⟨e, ec, rfl⟩⟩ (Mv.refl _ _) (.inl ⟨rfl, rfl⟩)
    · have hle : l.len * sz + (ys.flatMap enc).length ≤ cs.length := by
        rw [hl, flat_len henc, ← Nat.add_mul]
        exact Nat.mul_le_mul_right sz (by omega)
      obtain ⟨p1, p2⟩ := hbk.put hle
      refine ⟨fun a ha => ?_, ?_⟩
      · rw [e] at ha; cases ha
        rw [box_add, Nat.zero_add]
        refine hbk.stOk _ ?_
        rw [hx1, ← flat_len henc ys]
        exact hle
      · have e3 : putO h l.base (l.len * sz) (ys.flatMap enc) = putL h ⟨b, l.len * sz, none⟩ (ys.flatMap enc) 0 := by
          rw [e]
          simp only [putO, box_add, Nat.zero_add]
        rw [e3]
        refine hk _ _ [b] ⟨by simp [h1, hx1], hcap, .inr ⟨b, _, e, rfl, p1, ?_, ?_⟩⟩ (Mv.of_other p2) (.inl ⟨rfl, rfl⟩)
        · rw [← hl]
          simp only [List.length_append, List.length_take, List.length_drop]
          omega
        · have e4 : (l.len + x.len) * sz = (cs.take (l.len * sz) ++ ys.flatMap enc).length := by
            rw [List.length_append, ht, flat_len henc, flat_len henc, h1, hx1, Nat.add_mul]
          show List.take ((l.len + x.len) * sz) _ = _
          rw [e4, List.take_left, ht, List.flatMap_append]
  · have hn : Mv F h [b] (h.set b (.cells (xs.flatMap enc ++ ys.flatMap enc ++ zerosL zero (c - (l.len + x.len))).toArray t (0, 0))) :=
      (Mv.new hbn).sub (fun b hb => by cases hb) fun b hb => .inl hb
    refine hk _ _ [b] ⟨by simp [h1, hx1], hc, .inr ⟨b, xs.flatMap enc ++ ys.flatMap enc ++ zerosL zero (c - (l.len + x.len)), rfl, rfl, ⟨t, set_self⟩, ?_, ?_⟩⟩ hn (.inr ⟨set_new hbn, fun b' hb' => by rw [List.mem_singleton.1 hb']; exact hbn⟩)
    · rw [List.length_append, List.length_append, flat_len henc, flat_len henc, zerosL_len, hz, ← Nat.add_mul, ← Nat.add_mul]
      show _ = c * sz
      congr 1
      omega
    · have e4 : (l.len + x.len) * sz = (xs.flatMap enc ++ ys.flatMap enc).length := by
        rw [List.length_append, flat_len henc, flat_len henc, h1, hx1, Nat.add_mul]
      show List.take ((l.len + x.len) * sz) _ = _
      rw [e4, List.take_left, List.flatMap_append]

/-- All elements are written over by one. -/
theorem fill_ok {bound : Nat} {c : α} (o : OwnF h sz enc l xs F) (henc : ∀ x, (enc x).length = sz) (hl : xs.length ≤ 1000000000) {K : Hp → Prop} {cs : List Value} (hc : cs = enc c)
    (hk : ∀ h', OwnF h' sz enc l (List.replicate xs.length c) F → Mv F h F h' → K h') (hb : l.len = bound) :
    LoopW1 (α1 := Int) (fun again i h1 =>
 (if (decide (i < ((bound : Nat) : Int))) = true then
 ((InB l.base bound i) ∧ StW h1 (sat l.base sz i) cs (fun h2 =>
 again (IntKind.wrap .i64 (i + (1 : Int))) h2))
 else
 K h1)) (0 : Int) h := by
  subst hb
  have h1 := o.1
  refine LoopW1.intro (fun i k => ∃ zs, OwnF k sz enc l zs F ∧ Mv F h F k ∧ zs.length = xs.length ∧ 0 ≤ i ∧ i ≤ (xs.length : Int) ∧ zs.take i.toNat = List.replicate i.toNat c) (fun i _ => (xs.length - i).toNat) ⟨xs, o, Mv.refl _ _, rfl, by omega, by omega, rfl⟩ ?_
  rintro i k ⟨zs, oz, mz, hz, hi0, hi1, ht⟩
  split
  · rename_i e
    have e : i < (l.len : Int) := by simpa using e
    subst hc
    refine oz.store henc hi0 (by omega) c fun h' o' m' => ?_
    rw [wrap64 (by omega) (by omega)]
    refine ⟨⟨_, o', mz.trans m', by rw [List.length_set]; exact hz, by omega, by omega, ?_⟩, by omega⟩
    have e1 : (i + 1).toNat = i.toNat + 1 := by omega
    rw [e1, List.take_add_one, List.take_set_of_le (Nat.le_refl _), List.getElem?_set_self (by omega), ht, List.replicate_succ']
    rfl
  · rename_i e
    have e : ¬ i < (l.len : Int) := by simpa using e
    have e1 : i.toNat = xs.length := by omega
    rw [e1, ← hz, List.take_length, hz] at ht
    refine hk _ ?_ mz
    rw [← ht]
    exact oz

end
end Lf

/-
  What stays of a slice that is read while others are written.
-/
namespace Lf
open Go

theorem hcell_known {h : Hp} {a : Addr} {v : Value} (e : hcell h a = some v) : ∃ o, h a.block = some o := by
  unfold hcell at e
  split at e
  · rename_i c t f hb
    exact ⟨_, hb⟩
  · cases e

theorem ldIs_mv {F F' : List Nat} {h h' : Hp} {a : Addr} {cs : List Value} (l : LdIs h a cs) (m : Mv F h F' h') (hn : a.block ∉ F) : LdIs h' a cs := fun i v hv => by
  have h1 := l i v hv
  obtain ⟨o, ho⟩ := hcell_known h1
  have hb : (a.add i).block = a.block := addr_block a i
  rw [hcell_same (h := h) (h' := h') (a := a.add i) (by rw [ho]; exact m.keep _ _ ho (by rw [hb]; exact hn))]
  exact h1

section
variable {α : Type} {h h' : Hp} {sz : Nat} {enc : α → List Value} {l : Sl} {xs : List α} {F F' : List Nat}

theorem Rw.mvk (r : Rw h sz enc l xs) (m : Mv F h F' h') (hn : ∀ a, l.base = some a → xs.length * sz ≠ 0 → a.block ∉ F) : Rw h' sz enc l xs := by
  obtain ⟨h1, h2, h3⟩ := r
  by_cases h0 : xs.length * sz = 0
  · exact ⟨h1, h2, .inl h0⟩
  · obtain ⟨a, ha, hl⟩ := h3.resolve_left h0
    exact ⟨h1, h2, .inr ⟨a, ha, ldIs_mv hl m (hn a ha h0)⟩⟩

theorem Rw.known (r : Rw h sz enc l xs) {a : Addr} (ha : l.base = some a) (h0 : xs.length * sz ≠ 0) : h a.block ≠ none := by
  obtain ⟨h1, h2, h3⟩ := r
  obtain ⟨a', ha', hl⟩ := h3.resolve_left h0
  rw [ha] at ha'
  cases ha'
  have hne : (xs.flatMap enc).length ≠ 0 := by rw [h2]; exact h0
  obtain ⟨v, hv⟩ : ∃ v, (xs.flatMap enc)[0]? = some v := ⟨(xs.flatMap enc)[0]'(by omega), List.getElem?_eq_getElem (by omega)⟩
  obtain ⟨o, ho⟩ := hcell_known (hl 0 v hv)
  rw [addr_block] at ho
  rw [ho]
  simp

theorem Rw.cutR {R : List Nat} (r : Rw h sz enc l xs) (hn : ∀ a, l.base = some a → xs.length * sz ≠ 0 → a.block ∉ R) : Rw (cutH h R) sz enc l xs := by
  obtain ⟨h1, h2, h3⟩ := r
  by_cases h0 : xs.length * sz = 0
  · exact ⟨h1, h2, .inl h0⟩
  · obtain ⟨a, ha, hl⟩ := h3.resolve_left h0
    exact ⟨h1, h2, .inr ⟨a, ha, ldIs_same hl (cut_eq (hn a ha h0))⟩⟩

/-- Only the place and the length count. -/
theorem Rw.re {l' : Sl} (r : Rw h sz enc l xs) (hb : l'.base = l.base) (hl : l'.len = l.len) : Rw h sz enc l' xs := by
  obtain ⟨h1, h2⟩ := r
  exact ⟨hl.trans h1, by rw [hb]; exact h2⟩

/-- One is appended again and again, to a slice whose first elements are read elsewhere. -/
theorem appends_ok {c : α} {cs zero : List Value} {bytes N : Nat} {NI : Int} {x1 : Sl} {n : Nat} {K : Sl → Hp → Prop} (henc : ∀ x, (enc x).length = sz) (hok : ∀ x, okCells (enc x) = true) (hz : zero.length = sz) (hc : cs = enc c) (hsz : sz = 1) (hNI : NI = (N : Int)) (hN : n + N ≤ 1000000) (hb : bytes ≤ 1000)
    (o : OwnF h sz enc x1 (List.replicate n c) F)
    (hk : ∀ m h' F', OwnF h' sz enc m (List.replicate (n + N) c) F' → Mv F h F' h' → Rw h' sz enc x1 (List.replicate n c) → (∀ a, x1.base = some a → n ≠ 0 → a.block ∈ F) → K m h') :
    LoopW2 (α1 := Sl) (α2 := Int) (fun again6 m i h21 =>
 (if (decide (i < NI)) = true then
 NewW cs (fun a3 h22 =>
 AppendW sz bytes zero ⟨m.base, m.len, m.cap⟩ ⟨(some a3), 1, 1⟩ (fun r15 h23 =>
 again6 r15 (IntKind.wrap .i64 (i + (1 : Int))) h23) h22) h21
 else
 K m h21)) x1 (0 : Int) h := by
  subst hc
  subst hNI
  have hlen := o.1
  simp only [List.length_replicate] at hlen
  have hF : ∀ a, x1.base = some a → F = [a.block] := fun a ha => o.base ha
  refine LoopW2.intro (fun m i k => 0 ≤ i ∧ i ≤ (N : Int) ∧ ∃ F', OwnF k sz enc m (List.replicate (n + i.toNat) c) F' ∧ Mv F h F' k ∧ Rw k sz enc x1 (List.replicate n c) ∧ ((F' = F ∧ m.base = x1.base) ∨ ∀ a, x1.base = some a → n ≠ 0 → a.block ∉ F')) (fun _ i _ => (N - i).toNat)
    ⟨by omega, by omega, F, o, Mv.refl _ _, o.rw henc, .inl ⟨rfl, rfl⟩⟩ ?_
  rintro m i k ⟨hi0, hi1, F', o', m', r', hcase⟩
  split
  · rename_i e
    have e : i < (N : Int) := by simpa using e
    refine newF (xs := [c]) (enc := enc) (sz := sz) (by simp) henc fun b k2 hb2 hle2 _ o2 => ?_
    refine appS (o'.grow hle2) (o2.rw henc) henc hok hz (by
      simp only [List.length_replicate, List.length_cons, List.length_nil]
      refine ⟨by omega, ?_⟩
      exact Nat.le_trans (Nat.mul_le_mul (show n + i.toNat + (0 + 1) ≤ 1000000 by omega) hb) (by omega)) fun l' k3 F3 o3 m3 hw => ?_
    rw [wrap64 (by omega) (by omega)]
    have e1 : n + (i + 1).toNat = n + i.toNat + 1 := by omega
    have e2 : List.replicate (n + i.toNat) c ++ [c] = List.replicate (n + i.toNat + 1) c := by rw [List.replicate_succ']
    rw [e2] at o3
    have r2 := Rw.mono hle2 r'
    have mm := m'.trans ((Mv.of_le F' hle2).trans m3)
    have hnn : ∀ {a : Addr}, n ≠ 0 → (List.replicate n c).length * sz ≠ 0 := fun hn => by rw [hsz, List.length_replicate]; omega
    have hnn' : (List.replicate n c).length * sz ≠ 0 → n ≠ 0 := fun hn e => by rw [e] at hn; simp at hn
    rcases hw with ⟨rfl, hbase⟩ | ⟨hle3, hnew⟩
    · rcases hcase with ⟨rfl, hA⟩ | hB
      · refine ⟨⟨by omega, by omega, F3, by rw [e1]; exact o3, mm, ?_, .inl ⟨rfl, hbase.trans hA⟩⟩, by omega⟩
        have h5 := (o3.head henc (n := n) (by simp; omega)).rw henc
        have h6 : (List.replicate (n + i.toNat + 1) c).take n = List.replicate n c := by
          rw [List.take_replicate]; congr 1; omega
        rw [h6] at h5
        exact h5.re (hA.symm.trans hbase.symm) hlen
      · refine ⟨⟨by omega, by omega, F3, by rw [e1]; exact o3, mm, ?_, .inr hB⟩, by omega⟩
        exact r2.mvk m3 fun a ha hn => hB a ha (hnn' hn)
    · refine ⟨⟨by omega, by omega, F3, by rw [e1]; exact o3, mm, Rw.mono hle3 r2, .inr fun a ha hn hmem => ?_⟩, by omega⟩
      exact r2.known ha (hnn (a := a) hn) (hnew _ hmem)
  · rename_i e
    have e : ¬ i < (N : Int) := by simpa using e
    have e1 : i.toNat = N := by omega
    rw [e1] at o'
    exact hk m k F' o' m' r' fun a ha _ => by rw [hF a ha]; exact List.mem_singleton.2 rfl

end
end Lf

/-
  Instructions and configs: plain: which may be; their bytes.
-/
namespace Lf

/-- An instruction. -/
structure PIns where
  op : Int
  a : Int
  b : Int
  c : Int
  imm : Int

/-- Which fields an instruction has: a, b, c, its number. -/
def fieldsP (op : Int) : Bool × Bool × Bool × Bool :=
  if op = 1 then (true, false, false, true)
  else if op = 2 ∨ op = 20 ∨ op = 21 ∨ op = 25 ∨ op = 26 then (true, true, false, false)
  else if (3 ≤ op ∧ op ≤ 14) ∨ (15 ≤ op ∧ op ≤ 19) ∨ op = 24 then (true, true, true, false)
  else if op = 22 ∨ op = 29 ∨ op = 30 then (false, false, false, true)
  else if op = 23 then (true, false, false, true)
  else if op = 27 ∨ op = 28 ∨ op = 31 ∨ op = 32 ∨ op = 33 then (true, false, false, false)
  else (false, false, false, false)

/-- What is wrong with a register's field. -/
def regP (has : Bool) (n : Int) : Int := if has = false ∧ n ≠ 0 then 11 else if n < 0 ∨ 8 ≤ n then 10 else 0

/-- What is wrong with an instruction, and at which of its fields. -/
def wrongP (x : PIns) (n locks : Int) : Int × Int :=
  if x.op < 0 ∨ 34 ≤ x.op then (9, 0)
  else if regP (fieldsP x.op).1 x.a ≠ 0 then (regP (fieldsP x.op).1 x.a, 1)
  else if regP (fieldsP x.op).2.1 x.b ≠ 0 then (regP (fieldsP x.op).2.1 x.b, 2)
  else if regP (fieldsP x.op).2.2.1 x.c ≠ 0 then (regP (fieldsP x.op).2.2.1 x.c, 3)
  else if (fieldsP x.op).2.2.2 = false ∧ x.imm ≠ 0 then (11, 4)
  else if (x.op = 22 ∨ x.op = 23) ∧ (x.imm < 0 ∨ n < x.imm) then (12, 4)
  else if (x.op = 29 ∨ x.op = 30) ∧ (x.imm < 0 ∨ locks ≤ x.imm) then (13, 4)
  else (0, 0)

/-- What is wrong with the rest of a program of n. -/
def codeR (n locks : Int) : List PIns → Int → Int × Int
  | [], _ => (0, 0)
  | x :: r, i => if (wrongP x n locks).1 ≠ 0 then ((wrongP x n locks).1, i) else codeR n locks r (i + 1)

def codeP (l : List PIns) (locks : Int) : Int × Int :=
  if locks < 0 ∨ 8 < locks then (1, 0) else if 256 < l.length then (3, 256) else codeR l.length locks l 0

/-- A process: its partition, its program. -/
structure PProc where
  part : Int
  code : List PIns

structure PCfg where
  labels : List Int
  table : List Int
  fuel : Int
  lane : Int
  locks : Int
  log : Int
  procs : List PProc

def within (n a b : Int) : Bool := decide (a ≤ n) && decide (n ≤ b)

/-- What is wrong with the processes from number i on. -/
def procsR (parts locks : Int) : List PProc → Int → Int × Int
  | [], _ => (0, 0)
  | p :: r, i => if within p.part 0 (parts - 1) = false then (2, 7 + i) else if (codeP p.code locks).1 ≠ 0 then ((codeP p.code locks).1, 7 + i) else procsR parts locks r (i + 1)

/-- What is wrong with a config, and with which part of it; 'm': what is wrong with the labels. -/
def cfgP (m : Int) (c : PCfg) : Int × Int :=
  if m ≠ 0 then (m, 0)
  else if c.table = [] then (1, 1)
  else if 64 < c.table.length then (3, 1)
  else if c.table.all (fun p => within p 0 (c.labels.length - 1)) = false then (2, 1)
  else if within c.fuel 1 256 = false then (2, 2)
  else if within c.lane 1 64 = false then (2, 3)
  else if within c.locks 0 8 = false then (2, 4)
  else if within c.log 0 4096 = false then (2, 5)
  else if c.procs = [] then (1, 6)
  else if 32 < c.procs.length then (3, 6)
  else procsR c.labels.length c.locks c.procs 0

/-- A number as so many bytes, the least first. -/
def leB (n : Int) : Nat → List UInt8
  | 0 => []
  | k + 1 => UInt8.ofNat (n % 256).toNat :: leB (n / 256) k

def valB : List UInt8 → Nat
  | [] => 0
  | b :: r => b.toNat + 256 * valB r

theorem leB_len (n : Int) (k : Nat) : (leB n k).length = k := by
  induction k generalizing n with
  | zero => rfl
  | succ k ih => simp [leB, ih]

theorem valB_leB (n : Int) (k : Nat) : (valB (leB n k) : Int) = n % ((256 ^ k : Nat) : Int) := by
  induction k generalizing n with
  | zero =>
    show ((0 : Nat) : Int) = n % 1
    omega
  | succ k ih =>
    have h1 : (UInt8.ofNat (n % 256).toNat).toNat = (n % 256).toNat := by
      rw [UInt8.toNat_ofNat']
      have : (n % 256).toNat < 256 := by omega
      omega
    have h2 := ih (n / 256)
    have e : ((256 ^ (k + 1) : Nat) : Int) = 256 * ((256 ^ k : Nat) : Int) := by
      rw [Nat.pow_succ, Int.natCast_mul, Int.mul_comm]; rfl
    rw [e]
    show (((UInt8.ofNat (n % 256).toNat).toNat + 256 * valB (leB (n / 256) k) : Nat) : Int) = _
    rw [h1]
    generalize ((256 ^ k : Nat) : Int) = q at *
    have h3 : (0 : Int) ≤ n % 256 := by omega
    have h4 := Int.emod_add_mul_ediv n (256 * q)
    have h5 := Int.emod_add_mul_ediv (n / 256) q
    have h6 := Int.emod_add_mul_ediv n 256
    have h7 : n / (256 * q) = n / 256 / q := (Int.ediv_ediv_of_nonneg (by decide)).symm
    rw [h7, Int.mul_assoc] at h4
    rw [Int.natCast_add, Int.natCast_mul, h2, Int.toNat_of_nonneg h3]
    generalize q * (n / 256 / q) = z at *
    generalize n % (256 * q) = y at *
    generalize (n / 256) % q = x at *
    show n % 256 + 256 * x = y
    omega

theorem valB_lt : ∀ l : List UInt8, valB l < 256 ^ l.length
  | [] => by simp [valB]
  | b :: r => by
    have h1 := valB_lt r
    have h2 := b.toNat_lt
    simp only [valB, List.length_cons, Nat.pow_succ]
    omega

theorem leB_valB : ∀ l : List UInt8, leB (valB l : Int) l.length = l
  | [] => rfl
  | b :: r => by
    have h2 := b.toNat_lt
    have e1 : (((b.toNat + 256 * valB r : Nat) : Int) % 256).toNat = b.toNat := by omega
    have e2 : ((b.toNat + 256 * valB r : Nat) : Int) / 256 = (valB r : Int) := by omega
    simp only [valB, List.length_cons, leB]
    rw [e1, e2, leB_valB r]
    simp

def insB (x : PIns) : List UInt8 := leB x.op 1 ++ (leB x.a 1 ++ (leB x.b 1 ++ (leB x.c 1 ++ leB x.imm 8)))

def codeB (l : List PIns) : List UInt8 := l.flatMap insB

def procB (p : PProc) : List UInt8 := leB p.part 1 ++ (leB p.code.length 2 ++ codeB p.code)

def cfgB (c : PCfg) : List UInt8 :=
  [70, 66, 67, 70, 1] ++ (leB c.labels.length 1 ++ (c.labels.flatMap (fun a => leB a 8) ++ (leB c.table.length 1 ++ (c.table.flatMap (fun a => leB a 1) ++
    (leB c.fuel 2 ++ (leB c.lane 1 ++ (leB c.locks 1 ++ (leB c.log 2 ++ (leB c.procs.length 1 ++ c.procs.flatMap procB)))))))))

end Lf

/-
  How a machine may stand: as the program asks it, and as the document does; plain.
-/
namespace Lf

structure PEntry where
  tick : Int
  proc : Int
  value : Int

structure PWaiter where
  proc : Int
  value : Int

structure PLane where
  values : List Int
  waiters : List PWaiter
  taken : Int
  dropped : Int

structure PProcess where
  state : Int
  pc : Int
  regs : List Int
  cursor : Int
  timer : Int
  fired : Bool
  wake : Int
  lanes : List PLane

structure PPart where
  cursor : Int
  log : List PEntry
  lost : Int
  forbidden : Int
  owners : List Int
  queues : List (List Int)

structure PState where
  tick : Int
  parts : List PPart
  procs : List PProcess

section
variable (c : PCfg) (s : PState)

/-- A process of a partition. -/
def ofP (p : Int) (i : Nat) : Prop := 0 ≤ p ∧ ∃ y, c.procs[p.toNat]? = some y ∧ y.part = (i : Int)

/-- How a process stands. -/
def stP (p : Int) (q : PProcess → Prop) : Prop := ∃ x, s.procs[p.toNat]? = some x ∧ q x

def manyP (i : Nat) : Nat := (c.procs.filter fun y => decide (y.part = (i : Int))).length

def Cnt (n : Int) : Prop := 0 ≤ n ∧ n ≤ 65535

/-- The instruction that a process is at. -/
def insP (y : PProc) (pc : Int) : Option PIns := if 0 ≤ pc then y.code[pc.toNat]? else none

def LogG (i : Nat) : Int → List PEntry → Prop
  | _, [] => True
  | last, e :: r => last ≤ e.tick ∧ e.tick < s.tick ∧ ofP c e.proc i ∧ LogG i e.tick r

/-- The program's look at a partition. -/
def PartG (i : Nat) (x : PPart) : Prop :=
  (0 ≤ x.cursor ∧ (0 < x.cursor → x.cursor < manyP c i) ∧ (x.log.length : Int) ≤ c.log) ∧ LogG c s i 0 x.log ∧ Cnt x.lost ∧ Cnt x.forbidden ∧ (0 < x.lost → c.log ≤ x.log.length) ∧
  (x.owners.length : Int) = c.locks ∧ (x.queues.length : Int) = c.locks ∧ ∀ p ∈ x.owners, p ≠ -1 → ofP c p i ∧ stP s p fun z => z.state ≠ 5 ∧ z.state ≠ 6

def Used (l : PLane) : Prop := l.values ≠ [] ∨ 0 < l.taken ∨ 0 < l.dropped

/-- The program's look at a process. 'fl': may a partition's secrets come to another one? -/
def ProcG (fl : Nat → Int → Prop) (x : PProcess) (y : PProc) : Prop :=
  (0 ≤ x.state ∧ x.state ≤ 6) ∧ (0 ≤ x.pc ∧ x.pc ≤ y.code.length) ∧ x.lanes.length = c.labels.length + 1 ∧ (0 ≤ x.cursor ∧ x.cursor < x.lanes.length) ∧
  (0 ≤ x.timer ∧ x.timer ≤ s.tick + 1099511627776) ∧ (0 ≤ x.wake ∧ x.wake ≤ s.tick + 1099511627776) ∧ (0 < x.wake ↔ x.state = 4) ∧
  (x.state = 5 ∨ x.state = 6 → x.timer = 0 ∧ x.fired = false) ∧
  (∀ (i : Nat) l, x.lanes[i]? = some l → (l.values.length : Int) ≤ c.lane ∧ Cnt l.taken ∧ Cnt l.dropped ∧ (Used l → i < c.labels.length → fl i y.part)) ∧
  (x.state = 1 → (∃ n, insP y x.pc = some n ∧ n.op = 25) ∧ (∀ l ∈ x.lanes, l.values = []) ∧ x.fired = false) ∧
  (x.state = 2 → ∃ n, insP y x.pc = some n ∧ n.op = 24) ∧ (x.state = 3 → ∃ n, insP y x.pc = some n ∧ n.op = 29) ∧ (x.state = 4 → ∃ n, insP y x.pc = some n ∧ n.op = 28)

/-- The number behind the instruction that process p is at; its sending. -/
def atP (p : Int) (q : PProcess → PIns → Prop) : Prop := ∃ x y n, s.procs[p.toNat]? = some x ∧ c.procs[p.toNat]? = some y ∧ insP y x.pc = some n ∧ q x n

def SendsP (p v : Int) (r : Nat) : Prop := atP c s p fun x n => x.state = 2 ∧ n.op = 24 ∧ x.regs[n.b.toNat]? = some (r : Int) ∧ x.regs[n.c.toNat]? = some v

def cntQ (p : Int) (x : PPart) : Nat := (x.queues.map fun q => q.countP (fun z => decide (z = p))).sum
def cntW (p : Int) (l : PLane) : Nat := l.waiters.countP fun w => decide (w.proc = p)
def cntL (p : Int) (x : PProcess) : Nat := (x.lanes.map (cntW p)).sum

/-- The program's look at who waits. -/
def WaitsG : Prop :=
  (∀ (i : Nat) x, s.parts[i]? = some x → ∀ (k : Nat) q, x.queues[k]? = some q → ∀ p ∈ q, ofP c p i ∧ (atP c s p fun z n => z.state = 3 ∧ n.imm = (k : Int)) ∧ ∃ o, x.owners[k]? = some o ∧ 0 ≤ o ∧ o ≠ p) ∧
  (∀ (r : Nat) x y, s.procs[r]? = some x → c.procs[r]? = some y → ∀ (i : Nat) l, x.lanes[i]? = some l → ∀ w ∈ l.waiters, (i : Int) = y.part ∧ ofP c w.proc i ∧ (x.state ≠ 5 ∧ x.state ≠ 6) ∧ (l.values.length : Int) = c.lane ∧ SendsP c s w.proc w.value r) ∧
  (∀ (p : Nat) x, s.procs[p]? = some x → (s.parts.map (cntQ (p : Int))).sum + (s.procs.map (cntL (p : Int))).sum = if x.state = 3 ∨ x.state = 2 then 1 else 0)

def SizesP : Prop := (0 ≤ s.tick ∧ s.tick ≤ 4611686018427387904) ∧ s.parts.length = c.labels.length ∧ s.procs.length = c.procs.length

/-- May a machine stand so? As the program asks it. -/
def MayG (fl : Nat → Int → Prop) : Prop :=
  SizesP c s ∧ (∀ (i : Nat) x, s.parts[i]? = some x → PartG c s i x) ∧ (∀ (p : Nat) x y, s.procs[p]? = some x → c.procs[p]? = some y → ProcG c s fl x y) ∧ WaitsG c s

/-! The document's words. -/
def ofR (p : Int) (i : Nat) : Prop := ofP c p i ∧ stP s p fun z => z.state < 5

def PartR (i : Nat) (x : PPart) : Prop :=
  (0 ≤ x.cursor ∧ (0 < x.cursor → x.cursor < manyP c i)) ∧ Cnt x.lost ∧ Cnt x.forbidden ∧ (0 < x.lost → c.log ≤ x.log.length) ∧
  (∀ (k : Nat) e, x.log[k]? = some e → (0 ≤ e.tick ∧ e.tick ≤ s.tick - 1) ∧ (∀ d, 0 < k → x.log[k - 1]? = some d → d.tick ≤ e.tick) ∧ ofP c e.proc i) ∧
  (∀ (k : Nat) o, x.owners[k]? = some o → (o = -1 ∨ ofR c s o i) ∧ ∀ q, x.queues[k]? = some q → (o = -1 → q = []) ∧ ∀ p ∈ q, ofR c s p i ∧ (stP s p fun z => z.state = 3) ∧ o ≠ p)

def ProcR (fl : Nat → Int → Prop) (x : PProcess) (y : PProc) : Prop :=
  (0 ≤ x.state ∧ x.state ≤ 6) ∧ (0 ≤ x.pc ∧ x.pc ≤ y.code.length) ∧ (0 ≤ x.cursor ∧ x.cursor < x.lanes.length) ∧
  (0 ≤ x.timer ∧ x.timer ≤ s.tick + 1099511627776) ∧ (0 ≤ x.wake ∧ x.wake ≤ s.tick + 1099511627776) ∧ (0 < x.wake ↔ x.state = 4) ∧ (5 ≤ x.state → x.timer = 0 ∧ x.fired = false) ∧
  (∀ (k : Nat) l, x.lanes[k]? = some l → Cnt l.taken ∧ Cnt l.dropped ∧ (k < c.labels.length → Used l → fl k y.part) ∧ (l.waiters ≠ [] → (k : Int) = y.part ∧ x.state < 5 ∧ c.lane ≤ l.values.length) ∧
    ∀ w ∈ l.waiters, (∀ i : Nat, (i : Int) = y.part → ofR c s w.proc i) ∧ stP s w.proc fun z => z.state = 2)

/-- Of one process: whether it waits as it should. -/
def WaitR (p i : Nat) (x : PProcess) (y : PProc) : Prop :=
  (∀ z, s.parts[i]? = some z → ∀ (k : Nat) q, z.queues[k]? = some q → (p : Int) ∈ q → ∃ n, insP y x.pc = some n ∧ n.op = 29 ∧ n.imm = (k : Int)) ∧
  (∀ (r : Nat) z, s.procs[r]? = some z → ∀ l, z.lanes[i]? = some l → ∀ w ∈ l.waiters, w.proc = (p : Int) → ∃ n, insP y x.pc = some n ∧ n.op = 24 ∧ x.regs[n.b.toNat]? = some (r : Int) ∧ x.regs[n.c.toNat]? = some w.value) ∧
  (∀ z, s.parts[i]? = some z → cntQ (p : Int) z = if x.state = 3 then 1 else 0) ∧ ((s.procs.map fun z => ((z.lanes[i]?).map (cntW (p : Int))).getD 0).sum = if x.state = 2 then 1 else 0) ∧
  (x.state = 1 → (∃ n, insP y x.pc = some n ∧ n.op = 25) ∧ (∀ l ∈ x.lanes, l.values = []) ∧ x.fired = false) ∧ (x.state = 4 → ∃ n, insP y x.pc = some n ∧ n.op = 28)

def SizesR : Prop := SizesP c s ∧ (∀ x ∈ s.parts, (x.owners.length : Int) = c.locks ∧ (x.queues.length : Int) = c.locks ∧ (x.log.length : Int) ≤ c.log) ∧
  ∀ x ∈ s.procs, x.lanes.length = c.labels.length + 1 ∧ ∀ l ∈ x.lanes, (l.values.length : Int) ≤ c.lane

/-- May a machine stand so? As the document asks it. -/
def MayR (fl : Nat → Int → Prop) : Prop :=
  SizesR c s ∧ (∀ (i : Nat) x, s.parts[i]? = some x → PartR c s i x) ∧ (∀ (p : Nat) x y, s.procs[p]? = some x → c.procs[p]? = some y → ProcR c s fl x y) ∧
  ∀ (p i : Nat) x y, s.procs[p]? = some x → c.procs[p]? = some y → y.part = (i : Int) → WaitR s p i x y

end

theorem sum_only {α : Type} (f : α → Nat) : ∀ (l : List α) (i : Nat), (∀ j x, l[j]? = some x → j ≠ i → f x = 0) → (l.map f).sum = ((l[i]?).map f).getD 0
  | [], i, _ => by simp
  | x :: r, 0, h => by
    have : (r.map f).sum = 0 := by
      rw [List.sum_eq_zero_iff_forall_eq_nat]
      intro y hy
      obtain ⟨z, hz, rfl⟩ := List.mem_map.1 hy
      obtain ⟨j, hj⟩ := List.getElem?_of_mem hz
      exact h (j + 1) z (by simpa using hj) (by omega)
    simp [this]
  | x :: r, i + 1, h => by
    have h0 := h 0 x rfl (by omega)
    have := sum_only f r i fun j y hj hne => h (j + 1) y (by simpa using hj) (by omega)
    simp [h0, this]

theorem sum_zero {α : Type} (f : α → Nat) (l : List α) (h : ∀ x ∈ l, f x = 0) : (l.map f).sum = 0 := by
  rw [List.sum_eq_zero_iff_forall_eq_nat]
  intro y hy
  obtain ⟨z, hz, rfl⟩ := List.mem_map.1 hy
  exact h z hz

theorem sum_pos {α : Type} (f : α → Nat) : ∀ (l : List α), 0 < (l.map f).sum → ∃ x ∈ l, 0 < f x
  | [], h => by simp at h
  | x :: r, h => by
    by_cases hx : 0 < f x
    · exact ⟨x, List.mem_cons_self .., hx⟩
    · have h2 : 0 < (r.map f).sum := by
        simp at h
        omega
      obtain ⟨y, hy, h3⟩ := sum_pos f r h2
      exact ⟨y, List.mem_cons_of_mem _ hy, h3⟩

end Lf

/-
  How a machine may stand: the program asks it as the document does.
-/
namespace Lf

section
variable {c : PCfg} {s : PState}

theorem logG_at {i : Nat} : ∀ {l : List PEntry} {last : Int}, LogG c s i last l → ∀ (k : Nat) e, l[k]? = some e → last ≤ e.tick ∧ e.tick < s.tick ∧ ofP c e.proc i ∧ ∀ d, 0 < k → l[k - 1]? = some d → d.tick ≤ e.tick
  | [], _, _, k, e, he => by simp at he
  | x :: r, last, h, 0, e, he => by
    obtain ⟨h1, h2, h3, _⟩ := h
    cases he
    exact ⟨h1, h2, h3, fun d hd => absurd hd (by omega)⟩
  | x :: r, last, h, k + 1, e, he => by
    obtain ⟨h1, h2, h3, h4⟩ := h
    obtain ⟨g1, g2, g3, g4⟩ := logG_at h4 k e (by simpa using he)
    refine ⟨by omega, g2, g3, fun d _ hd => ?_⟩
    cases k with
    | zero =>
      cases hd
      exact g1
    | succ k => exact g4 d (by omega) hd

theorem logG_of {i : Nat} : ∀ {l : List PEntry} {last : Int}, (∀ e, l[0]? = some e → last ≤ e.tick) → (∀ (k : Nat) e, l[k]? = some e → e.tick < s.tick ∧ ofP c e.proc i ∧ ∀ d, 0 < k → l[k - 1]? = some d → d.tick ≤ e.tick) → LogG c s i last l
  | [], _, _, _ => trivial
  | x :: r, last, h0, h => by
    obtain ⟨h1, h2, _⟩ := h 0 x rfl
    refine ⟨h0 x rfl, h1, h2, logG_of (fun e he => ?_) fun k e he => ?_⟩
    · exact (h 1 e he).2.2 x (by omega) rfl
    · obtain ⟨g1, g2, g3⟩ := h (k + 1) e he
      refine ⟨g1, g2, fun d hk hd => g3 d (by omega) ?_⟩
      obtain ⟨j, rfl⟩ : ∃ j, k = j + 1 := ⟨k - 1, by omega⟩
      exact hd

theorem ofP_part {p i : Nat} {y : PProc} (h : ofP c (p : Int) i) (hy : c.procs[p]? = some y) : y.part = (i : Int) := by
  obtain ⟨_, z, hz, hp⟩ := h
  rw [Int.toNat_natCast, hy] at hz
  cases hz
  exact hp

theorem cntQ_zero {p : Int} {x : PPart} (h : ∀ (k : Nat) q, x.queues[k]? = some q → p ∉ q) : cntQ p x = 0 := by
  refine sum_zero _ _ fun q hq => ?_
  obtain ⟨k, hk⟩ := List.getElem?_of_mem hq
  rw [List.countP_eq_zero]
  intro z hz e
  have e : z = p := by simpa using e
  exact h k q hk (e ▸ hz)

theorem cntQ_pos {p : Int} {x : PPart} (h : 0 < cntQ p x) : ∃ (k : Nat) (q : List Int), x.queues[k]? = some q ∧ p ∈ q := by
  obtain ⟨q, hq, hp⟩ := sum_pos _ _ h
  obtain ⟨k, hk⟩ := List.getElem?_of_mem hq
  obtain ⟨z, hz, e⟩ := List.countP_pos_iff.1 hp
  have e : z = p := by simpa using e
  exact ⟨k, q, hk, e ▸ hz⟩

theorem cntW_zero {p : Int} {l : PLane} (h : ∀ w ∈ l.waiters, w.proc ≠ p) : cntW p l = 0 := by
  unfold cntW
  rw [List.countP_eq_zero]
  intro w hw e
  exact h w hw (by simpa using e)

theorem cntW_pos {p : Int} {l : PLane} (h : 0 < cntW p l) : ∃ w ∈ l.waiters, w.proc = p := by
  obtain ⟨w, hw, e⟩ := List.countP_pos_iff.1 h
  exact ⟨w, hw, by simpa using e⟩

theorem sumQ {p i : Nat} {y : PProc} (hy : c.procs[p]? = some y) (hi : y.part = (i : Int))
    (hq : ∀ (j : Nat) x, s.parts[j]? = some x → ∀ (k : Nat) q, x.queues[k]? = some q → ∀ z ∈ q, ofP c z j) : (s.parts.map (cntQ (p : Int))).sum = ((s.parts[i]?).map (cntQ (p : Int))).getD 0 := by
  refine sum_only _ _ _ fun j x hx hj => cntQ_zero fun k q hk hp => ?_
  have := ofP_part (hq j x hx k q hk _ hp) hy
  omega

theorem sumL {p i : Nat} {y : PProc} (hy : c.procs[p]? = some y) (hi : y.part = (i : Int))
    (hw : ∀ (r : Nat) x, s.procs[r]? = some x → ∀ (j : Nat) l, x.lanes[j]? = some l → ∀ w ∈ l.waiters, ofP c w.proc j) :
    (s.procs.map (cntL (p : Int))).sum = (s.procs.map fun z => ((z.lanes[i]?).map (cntW (p : Int))).getD 0).sum := by
  congr 1
  refine List.map_congr_left fun z hz => ?_
  obtain ⟨r, hr⟩ := List.getElem?_of_mem hz
  refine sum_only _ _ _ fun j l hl hj => cntW_zero fun w hw2 e => ?_
  have h := hw r z hr j l hl w hw2
  rw [e] at h
  have := ofP_part h hy
  omega

end

section
variable {c : PCfg} {s : PState} {fl : Nat → Int → Prop}

theorem same_at {α : Type} {l : List α} {i : Nat} {a b : α} (h1 : l[i]? = some a) (h2 : l[i]? = some b) : a = b := Option.some.inj (h1.symm.trans h2)

theorem at_len {α β : Type} {l : List α} {m : List β} {i : Nat} {a : α} (h : l[i]? = some a) (hl : l.length = m.length) : ∃ b, m[i]? = some b := by
  have := (List.getElem?_eq_some_iff.1 h).1
  exact ⟨m[i]'(by omega), by rw [List.getElem?_eq_getElem]⟩

theorem mayR_of (hpart : ∀ y ∈ c.procs, 0 ≤ y.part ∧ y.part < c.labels.length) (h : MayG c s fl) : MayR c s fl := by
  obtain ⟨hS, hP, hQ, w1, w2, w3⟩ := h
  have hq : ∀ (j : Nat) x, s.parts[j]? = some x → ∀ (k : Nat) q, x.queues[k]? = some q → ∀ z ∈ q, ofP c z j := fun j x hx k q hk z hz => (w1 j x hx k q hk z hz).1
  have hw : ∀ (r : Nat) x, s.procs[r]? = some x → ∀ (j : Nat) l, x.lanes[j]? = some l → ∀ w ∈ l.waiters, ofP c w.proc j := fun r x hx j l hl w hww => by
    obtain ⟨y, hy⟩ := at_len hx hS.2.2
    exact (w2 r x y hx hy j l hl w hww).2.1
  have st3 : ∀ (p : Int) (q : PProcess → PIns → Prop), (atP c s p fun z n => z.state = 3 ∧ q z n) → stP s p fun z => z.state = 3 := fun p q ⟨x, y, n, h1, h2, h3, h4, h5⟩ => ⟨x, h1, h4⟩
  have st2 : ∀ (p v : Int) (r : Nat), SendsP c s p v r → stP s p fun z => z.state = 2 := fun p v r ⟨x, y, n, h1, h2, h3, h4, h5⟩ => ⟨x, h1, h4⟩
  refine ⟨⟨hS, fun x hx => ?_, fun x hx => ?_⟩, fun i x hx => ?_, fun p x y hx hy => ?_, fun p i x y hx hy hi => ?_⟩
  · obtain ⟨i, hi⟩ := List.getElem?_of_mem hx
    obtain ⟨⟨_, _, g1⟩, _, _, _, _, g2, g3, _⟩ := hP i x hi
    exact ⟨g2, g3, g1⟩
  · obtain ⟨p, hp⟩ := List.getElem?_of_mem hx
    obtain ⟨y, hy⟩ := at_len hp hS.2.2
    obtain ⟨_, _, g1, _, _, _, _, _, g2, _⟩ := hQ p x y hp hy
    refine ⟨g1, fun l hl => ?_⟩
    obtain ⟨i, hi⟩ := List.getElem?_of_mem hl
    exact (g2 i l hi).1
  · obtain ⟨⟨g1, g2, g3⟩, g4, g5, g6, g7, g8, g9, g10⟩ := hP i x hx
    refine ⟨⟨g1, g2⟩, g5, g6, g7, fun k e he => ?_, fun k o ho => ⟨?_, fun q hk => ⟨fun e => ?_, fun p hp => ?_⟩⟩⟩
    · obtain ⟨a1, a2, a3, a4⟩ := logG_at g4 k e he
      exact ⟨⟨a1, by omega⟩, a4, a3⟩
    · by_cases e : o = -1
      · exact .inl e
      · obtain ⟨a1, z, a2, a3⟩ := g10 o (List.mem_of_getElem? ho) e
        refine .inr ⟨a1, z, a2, ?_⟩
        obtain ⟨y, hy⟩ := at_len a2 hS.2.2
        have := (hQ _ z y a2 hy).1
        omega
    · cases q with
      | nil => rfl
      | cons p q =>
        obtain ⟨_, _, o', b1, b2, _⟩ := w1 i x hx k _ hk p (List.mem_cons_self ..)
        have := same_at ho b1
        omega
    · obtain ⟨b0, b1, o', b2, b3, b4⟩ := w1 i x hx k q hk p hp
      obtain ⟨z, c1, c2⟩ := st3 p _ b1
      have := same_at ho b2
      subst this
      exact ⟨⟨b0, z, c1, by omega⟩, ⟨z, c1, c2⟩, b4⟩
  · obtain ⟨g1, g2, g3, g4, g5, g6, g7, g8, g9, _⟩ := hQ p x y hx hy
    refine ⟨g1, g2, g4, g5, g6, g7, fun e => g8 (by omega), fun k l hl => ?_⟩
    obtain ⟨a1, a2, a3, a4⟩ := g9 k l hl
    refine ⟨a2, a3, fun hk hu => a4 hu hk, fun hne => ?_, fun w hww => ?_⟩
    · obtain ⟨w, hww⟩ := List.exists_mem_of_ne_nil _ hne
      obtain ⟨b1, b2, b3, b4, b5⟩ := w2 p x y hx hy k l hl w hww
      exact ⟨b1, by omega, by omega⟩
    · obtain ⟨b1, b2, b3, b4, b5⟩ := w2 p x y hx hy k l hl w hww
      obtain ⟨z, c1, c2⟩ := st2 _ _ _ b5
      refine ⟨fun i hi => ?_, z, c1, c2⟩
      have : k = i := by omega
      subst this
      exact ⟨b2, z, c1, by omega⟩
  · obtain ⟨g1, _, _, _, _, _, _, _, _, g10, g11, g12, g13⟩ := hQ p x y hx hy
    have e3 : ∀ z, s.parts[i]? = some z → ∀ (k : Nat) q, z.queues[k]? = some q → (p : Int) ∈ q → x.state = 3 ∧ ∃ n, insP y x.pc = some n ∧ n.op = 29 ∧ n.imm = (k : Int) := fun z hz k q hk hpq => by
      obtain ⟨_, ⟨x', y', n, b1, b2, b3, b4, b5⟩, _⟩ := w1 i z hz k q hk p hpq
      rw [Int.toNat_natCast] at b1 b2
      obtain rfl := same_at hx b1
      obtain rfl := same_at hy b2
      obtain ⟨n', c1, c2⟩ := g12 b4
      rw [b3] at c1
      cases c1
      exact ⟨b4, n, b3, c2, b5⟩
    have e2 : ∀ (r : Nat) z, s.procs[r]? = some z → ∀ l, z.lanes[i]? = some l → ∀ w ∈ l.waiters, w.proc = (p : Int) → x.state = 2 ∧ ∃ n, insP y x.pc = some n ∧ n.op = 24 ∧ x.regs[n.b.toNat]? = some (r : Int) ∧ x.regs[n.c.toNat]? = some w.value := fun r z hz l hl w hww hwp => by
      obtain ⟨y', hy'⟩ := at_len hz hS.2.2
      obtain ⟨_, _, _, _, x', y'', n, b1, b2, b3, b4, b5, b6, b7⟩ := w2 r z y' hz hy' i l hl w hww
      rw [hwp, Int.toNat_natCast] at b1 b2
      obtain rfl := same_at hx b1
      obtain rfl := same_at hy b2
      exact ⟨b4, n, b3, b5, b6, b7⟩
    have t := w3 p x hx
    rw [sumQ hy hi hq, sumL hy hi hw] at t
    have z2 : x.state ≠ 2 → (s.procs.map fun z => ((z.lanes[i]?).map (cntW (p : Int))).getD 0).sum = 0 := fun hne => by
      refine sum_zero _ _ fun z hz => ?_
      obtain ⟨r, hr⟩ := List.getElem?_of_mem hz
      cases hl : z.lanes[i]? with
      | none => rfl
      | some l => exact cntW_zero fun w hww hwp => hne (e2 r z hr l hl w hww hwp).1
    have z3 : x.state ≠ 3 → ((s.parts[i]?).map (cntQ (p : Int))).getD 0 = 0 := fun hne => by
      cases hz : s.parts[i]? with
      | none => rfl
      | some z => exact cntQ_zero fun k q hk hpq => hne (e3 z hz k q hk hpq).1
    refine ⟨fun z hz k q hk hpq => (e3 z hz k q hk hpq).2, fun r z hz l hl w hww hwp => (e2 r z hz l hl w hww hwp).2, fun z hz => ?_, ?_, g10, g13⟩
    · rw [hz] at t z3
      have t : cntQ (p : Int) z + _ = _ := t
      have z3 : x.state ≠ 3 → cntQ (p : Int) z = 0 := z3
      by_cases h3 : x.state = 3
      · rw [z2 (by omega), if_pos (.inl h3)] at t
        rw [if_pos h3]; omega
      · rw [if_neg h3, z3 h3]
    · by_cases h2 : x.state = 2
      · rw [z3 (by omega), if_pos (.inr h2)] at t
        rw [if_pos h2]; omega
      · rw [if_neg h2, z2 h2]

theorem mayG_of (hpart : ∀ y ∈ c.procs, 0 ≤ y.part ∧ y.part < c.labels.length) (h : MayR c s fl) : MayG c s fl := by
  obtain ⟨⟨hS, s1, s2⟩, hP, hQ, hW⟩ := h
  have hpt : ∀ (p : Nat) y, c.procs[p]? = some y → ∃ i : Nat, y.part = (i : Int) ∧ ∃ z, s.parts[i]? = some z := fun p y hy => by
    obtain ⟨a1, a2⟩ := hpart y (List.mem_of_getElem? hy)
    refine ⟨y.part.toNat, by omega, s.parts[y.part.toNat]'(by have := hS.2.1; omega), by rw [List.getElem?_eq_getElem]⟩
  have own : ∀ (i : Nat) x, s.parts[i]? = some x → ∀ (k : Nat) q, x.queues[k]? = some q → ∃ o, x.owners[k]? = some o := fun i x hx k q hk => by
    obtain ⟨a1, a2, _⟩ := s1 x (List.mem_of_getElem? hx)
    exact at_len hk (by omega)
  have hq : ∀ (j : Nat) x, s.parts[j]? = some x → ∀ (k : Nat) q, x.queues[k]? = some q → ∀ z ∈ q, ofP c z j := fun j x hx k q hk z hz => by
    obtain ⟨o, ho⟩ := own j x hx k q hk
    exact ((((hP j x hx).2.2.2.2.2 k o ho).2 q hk).2 z hz).1.1
  have hw : ∀ (r : Nat) x, s.procs[r]? = some x → ∀ (j : Nat) l, x.lanes[j]? = some l → ∀ w ∈ l.waiters, ofP c w.proc j := fun r x hx j l hl w hww => by
    obtain ⟨y, hy⟩ := at_len hx hS.2.2
    obtain ⟨_, _, _, b1, b2⟩ := (hQ r x y hx hy).2.2.2.2.2.2.2 j l hl
    exact ((b2 w hww).1 j (b1 (List.ne_nil_of_mem hww)).1).1
  refine ⟨hS, fun i x hx => ?_, fun p x y hx hy => ?_, fun i x hx k q hk p hp => ?_, fun r x y hx hy i l hl w hww => ?_, fun p x hx => ?_⟩
  · obtain ⟨a1, a2, a3⟩ := s1 x (List.mem_of_getElem? hx)
    obtain ⟨g1, g2, g3, g4, g5, g6⟩ := hP i x hx
    refine ⟨⟨g1.1, g1.2, a3⟩, logG_of (fun e he => (g5 0 e he).1.1) (fun k e he => ?_), g2, g3, g4, a1, a2, fun p hp hne => ?_⟩
    · obtain ⟨b1, b2, b3⟩ := g5 k e he
      exact ⟨by omega, b3, b2⟩
    · obtain ⟨k, hk⟩ := List.getElem?_of_mem hp
      obtain ⟨b1, z, b2, b3⟩ := (g6 k p hk).1.resolve_left hne
      exact ⟨b1, z, b2, by omega, by omega⟩
  · obtain ⟨a1, a2⟩ := s2 x (List.mem_of_getElem? hx)
    obtain ⟨g1, g2, g3, g4, g5, g6, g7, g8⟩ := hQ p x y hx hy
    obtain ⟨i, hi, z, hz⟩ := hpt p y hy
    obtain ⟨c1, c2, c3, c4, c5, c6⟩ := hW p i x y hx hy hi
    refine ⟨g1, g2, a1, g3, g4, g5, g6, fun e => g7 (by omega), fun k l hl => ?_, c5, fun h2 => ?_, fun h3 => ?_, c6⟩
    · obtain ⟨b1, b2, b3, _⟩ := g8 k l hl
      exact ⟨a2 l (List.mem_of_getElem? hl), b1, b2, fun hu hk => b3 hk hu⟩
    · rw [if_pos h2] at c4
      obtain ⟨z', hz', hpos⟩ := sum_pos _ _ (show 0 < _ by rw [c4]; omega)
      obtain ⟨r, hr⟩ := List.getElem?_of_mem hz'
      cases hl : z'.lanes[i]? with
      | none => rw [hl] at hpos; simp at hpos
      | some l =>
        rw [hl] at hpos
        obtain ⟨w, hww, hwp⟩ := cntW_pos hpos
        obtain ⟨n, d1, d2, _⟩ := c2 r z' hr l hl w hww hwp
        exact ⟨n, d1, d2⟩
    · have := c3 z hz
      rw [if_pos h3] at this
      obtain ⟨k, q, hk, hpq⟩ := cntQ_pos (show 0 < cntQ (p : Int) z by omega)
      obtain ⟨n, d1, d2, _⟩ := c1 z hz k q hk hpq
      exact ⟨n, d1, d2⟩
  · obtain ⟨o, ho⟩ := own i x hx k q hk
    obtain ⟨b1, b2⟩ := (hP i x hx).2.2.2.2.2 k o ho
    obtain ⟨b3, b4⟩ := b2 q hk
    obtain ⟨⟨d1, z, d2, d3⟩, ⟨z', d4, d5⟩, d6⟩ := b4 p hp
    obtain ⟨d0, y, d7, d8⟩ := d1
    obtain rfl := same_at d2 d4
    have hpc : ((p.toNat : Nat) : Int) = p := by omega
    obtain ⟨c1, _⟩ := hW p.toNat i z y d2 d7 d8
    obtain ⟨n, f1, f2, f3⟩ := c1 x hx k q hk (by rw [hpc]; exact hp)
    refine ⟨⟨d0, y, d7, d8⟩, ⟨z, y, n, d2, d7, f1, d5, f3⟩, o, ho, ?_, d6⟩
    rcases b1 with e | e
    · rw [b3 e] at hp; cases hp
    · exact e.1.1
  · obtain ⟨_, _, _, b1, b2⟩ := (hQ r x y hx hy).2.2.2.2.2.2.2 i l hl
    obtain ⟨e1, e2, e3⟩ := b1 (List.ne_nil_of_mem hww)
    obtain ⟨f1, z', f2, f3⟩ := b2 w hww
    obtain ⟨⟨d0, y', d7, d8⟩, _⟩ := f1 i e1
    have hv := (s2 x (List.mem_of_getElem? hx)).2 l (List.mem_of_getElem? hl)
    have hpc : ((w.proc.toNat : Nat) : Int) = w.proc := by omega
    obtain ⟨_, c2, _⟩ := hW w.proc.toNat i z' y' f2 d7 d8
    obtain ⟨n, g1, g2, g3, g4⟩ := c2 r x hx l hl w hww hpc.symm
    exact ⟨e1, ⟨d0, y', d7, d8⟩, by omega, by omega, z', y', n, f2, d7, g1, f3, g2, g3, g4⟩
  · obtain ⟨y, hy⟩ := at_len hx hS.2.2
    obtain ⟨i, hi, z, hz⟩ := hpt p y hy
    obtain ⟨_, _, c3, c4, _⟩ := hW p i x y hx hy hi
    rw [sumQ hy hi hq, sumL hy hi hw, hz, c4]
    show cntQ (p : Int) z + _ = _
    rw [c3 z hz]
    by_cases h3 : x.state = 3
    · rw [if_pos h3, if_neg (by omega), if_pos (.inl h3)]
    · by_cases h2 : x.state = 2
      · rw [if_neg h3, if_pos h2, if_pos (.inr h2)]
      · rw [if_neg h3, if_neg h2, if_neg (by omega)]

/-- The program asks what the document asks. -/
theorem may_iff (hpart : ∀ y ∈ c.procs, 0 ≤ y.part ∧ y.part < c.labels.length) : MayG c s fl ↔ MayR c s fl := ⟨mayR_of hpart, mayG_of hpart⟩

end
end Lf

/-
  Readers of bytes that go from the left, and writers: what is written is read back, what is read was written, what is cut is too short.
-/
namespace Lf

/-- A reader: all bytes, a place; a value and the place behind it, or the first thing that is wrong and where. -/
abbrev D (α : Type) : Type := List UInt8 → Nat → Except (Int × Nat) (α × Nat)

namespace D
variable {α β : Type}

def ret (x : α) : D α := fun _ at_ => .ok (x, at_)

def bind (d : D α) (f : α → D β) : D β := fun b at_ => match d b at_ with
  | .ok (x, at2) => f x b at2
  | .error e => .error e

/-- A number of so many bytes. -/
def num (k : Nat) : D Nat := fun b at_ => if b.length < at_ + k then .error (5, b.length) else .ok (valB ((b.drop at_).take k), at_ + k)

/-- What was read must be so; else it is wrong, at its first byte. -/
def must (d : D α) (wrong : α → Int) : D α := fun b at_ => match d b at_ with
  | .ok (x, at2) => if wrong x = 0 then .ok (x, at2) else .error (wrong x, at_)
  | .error e => .error e

/-- So many in a row; each may hang on those ahead. -/
def many (d : List α → D α) : Nat → List α → D (List α)
  | 0, acc => ret acc
  | n + 1, acc => bind (d acc) fun x => many d n (acc ++ [x])

def map (f : α → β) (d : D α) : D β := bind d fun x => ret (f x)

/-- The laws of a reader and a writer. -/
structure Law (d : D α) (enc : α → List UInt8) (valid : α → Prop) : Prop where
  back : ∀ x, valid x → ∀ u t, d (u ++ (enc x ++ t)) u.length = .ok (x, u.length + (enc x).length)
  sound : ∀ b at_ x at2, d b at_ = .ok (x, at2) → at_ ≤ b.length → valid x ∧ at2 = at_ + (enc x).length ∧ ∃ t, b.drop at_ = enc x ++ t
  cut : ∀ x, valid x → ∀ u t r, enc x = t ++ r → r ≠ [] → d (u ++ t) u.length = .error (5, u.length + t.length)

theorem Law.within {d : D α} {enc : α → List UInt8} {valid : α → Prop} (L : Law d enc valid) {b : List UInt8} {at_ at2 : Nat} {x : α} (h : d b at_ = .ok (x, at2)) (ha : at_ ≤ b.length) : at2 ≤ b.length := by
  obtain ⟨_, h2, t, ht⟩ := L.sound b at_ x at2 h ha
  have := congrArg List.length ht
  rw [List.length_drop, List.length_append] at this
  omega

theorem law_num (k : Nat) : Law (num k) (fun n => leB (n : Int) k) (fun n => n < 256 ^ k) where
  back := fun x hx u t => by
    unfold num
    have hl := leB_len (x : Int) k
    rw [if_neg (by simp [hl])]
    have e : ((u ++ (leB (x : Int) k ++ t)).drop u.length).take k = leB (x : Int) k := by
      rw [List.drop_left, List.take_left' hl]
    rw [e]
    have h1 := valB_leB (x : Int) k
    have h2 : (x : Int) % ((256 ^ k : Nat) : Int) = (x : Int) := Int.emod_eq_of_lt (by omega) (by exact_mod_cast hx)
    rw [h2] at h1
    have h3 : valB (leB (x : Int) k) = x := by exact_mod_cast h1
    rw [h3, hl]
  sound := fun b at_ x at2 h ha => by
    unfold num at h
    by_cases hc : b.length < at_ + k
    · rw [if_pos hc] at h; cases h
    · rw [if_neg hc] at h
      cases h
      have hl : ((b.drop at_).take k).length = k := by rw [List.length_take, List.length_drop]; omega
      have h1 := valB_lt ((b.drop at_).take k)
      rw [hl] at h1
      have h2 := leB_valB ((b.drop at_).take k)
      rw [hl] at h2
      refine ⟨h1, by rw [leB_len], (b.drop at_).drop k, ?_⟩
      rw [h2, List.take_append_drop]
  cut := fun x hx u t r he hr => by
    unfold num
    have hl := leB_len (x : Int) k
    rw [he, List.length_append] at hl
    have : 0 < r.length := List.length_pos_iff.2 hr
    rw [if_pos (by rw [List.length_append]; omega), List.length_append]

theorem law_ret (x : α) : Law (ret x) (fun _ => []) (fun y => y = x) where
  back := fun y hy u t => by subst hy; rfl
  sound := fun b at_ y at2 h _ => by
    cases h
    exact ⟨rfl, rfl, _, rfl⟩
  cut := fun y _ u t r he hr => by
    exact absurd (List.append_eq_nil_iff.1 he.symm).2 hr

/-- One behind the other. -/
theorem law_seq {γ : Type} {d1 : D α} {d2 : α → D β} {e1 : α → List UInt8} {e2 : α → β → List UInt8} {v1 : α → Prop} {v2 : α → β → Prop} (f : α → β → γ) (g : γ → α × β) (hfg : ∀ x y, v1 x → v2 x y → g (f x y) = (x, y)) (hgf : ∀ z, f (g z).1 (g z).2 = z)
    (L1 : Law d1 e1 v1) (L2 : ∀ x, v1 x → Law (d2 x) (e2 x) (v2 x)) :
    Law (bind d1 fun x => bind (d2 x) fun y => ret (f x y)) (fun z => e1 (g z).1 ++ e2 (g z).1 (g z).2) (fun z => v1 (g z).1 ∧ v2 (g z).1 (g z).2) where
  back := fun z hz u t => by
    obtain ⟨h1, h2⟩ := hz
    have a := L1.back _ h1 u (e2 (g z).1 (g z).2 ++ t)
    have b := (L2 _ h1).back _ h2 (u ++ e1 (g z).1) t
    rw [List.append_assoc] at b
    simp only [bind]
    rw [List.append_assoc, a]
    dsimp only
    rw [List.length_append] at b
    rw [b]
    dsimp only [ret]
    rw [hgf, List.length_append, Nat.add_assoc]
  sound := fun b at_ z at2 h ha => by
    simp only [bind] at h
    cases h1 : d1 b at_ with
    | error e => rw [h1] at h; cases h
    | ok p =>
      obtain ⟨x, a1⟩ := p
      rw [h1] at h
      dsimp only at h
      obtain ⟨g1, g2, t1, g3⟩ := L1.sound b at_ x a1 h1 ha
      cases h2 : d2 x b a1 with
      | error e => rw [h2] at h; cases h
      | ok q =>
        obtain ⟨y, a2⟩ := q
        rw [h2] at h
        dsimp only [ret] at h
        cases h
        obtain ⟨k1, k2, t2, k3⟩ := (L2 x g1).sound b a1 y _ h2 (L1.within h1 ha)
        rw [hfg x y g1 k1]
        dsimp only
        refine ⟨⟨g1, k1⟩, by rw [List.length_append]; omega, t2, ?_⟩
        rw [g2] at k3
        rw [← List.drop_drop, g3, List.drop_left] at k3
        rw [g3, k3, List.append_assoc]
  cut := fun z hz u t r he hr => by
    obtain ⟨h1, h2⟩ := hz
    simp only [bind]
    by_cases hl : t.length < (e1 (g z).1).length
    · -- cut in the first
      obtain ⟨r1, hr1⟩ : ∃ r1, e1 (g z).1 = t ++ r1 := by
        have hp : t <+: e1 (g z).1 := List.prefix_of_prefix_length_le ⟨r, he.symm⟩ (List.prefix_append _ _) (Nat.le_of_lt hl)
        obtain ⟨r1, hr1⟩ := hp
        exact ⟨r1, hr1.symm⟩
      have hne : r1 ≠ [] := fun e => by
        rw [e, List.append_nil] at hr1
        rw [hr1] at hl
        omega
      rw [L1.cut _ h1 u t r1 hr1 hne]
    · obtain ⟨t2, ht2⟩ : ∃ t2, t = e1 (g z).1 ++ t2 := by
        have hp : e1 (g z).1 <+: t := List.prefix_of_prefix_length_le (List.prefix_append _ _) ⟨r, he.symm⟩ (by omega)
        obtain ⟨t2, ht2⟩ := hp
        exact ⟨t2, ht2.symm⟩
      subst ht2
      have he2 : e2 (g z).1 (g z).2 = t2 ++ r := by
        rw [List.append_assoc] at he
        exact List.append_cancel_left he
      have a := L1.back _ h1 u t2
      rw [a]
      dsimp only
      have b := (L2 _ h1).cut _ h2 (u ++ e1 (g z).1) t2 r he2 hr
      rw [List.append_assoc, List.length_append] at b
      rw [b]
      simp [Nat.add_assoc]

theorem law_must {d : D α} {enc : α → List UInt8} {valid : α → Prop} (L : Law d enc valid) (wrong : α → Int) : Law (must d wrong) enc (fun x => valid x ∧ wrong x = 0) where
  back := fun x hx u t => by
    simp only [must, L.back x hx.1 u t, if_pos hx.2]
  sound := fun b at_ x at2 h ha => by
    simp only [must] at h
    cases h1 : d b at_ with
    | error e => rw [h1] at h; cases h
    | ok p =>
      obtain ⟨y, a1⟩ := p
      rw [h1] at h
      dsimp only at h
      by_cases hw : wrong y = 0
      · rw [if_pos hw] at h
        cases h
        obtain ⟨g1, g2, g3⟩ := L.sound b at_ x at2 h1 ha
        exact ⟨⟨g1, hw⟩, g2, g3⟩
      · rw [if_neg hw] at h; cases h
  cut := fun x hx u t r he hr => by
    simp only [must, L.cut x hx.1 u t r he hr]

theorem Law.congr {d : D α} {enc enc' : α → List UInt8} {valid valid' : α → Prop} (L : Law d enc valid) (hv : ∀ x, valid x ↔ valid' x) (he : ∀ x, valid x → enc x = enc' x) : Law d enc' valid' where
  back := fun x hx u t => by
    have hx := (hv x).2 hx
    rw [← he x hx]
    exact L.back x hx u t
  sound := fun b at_ x at2 h ha => by
    obtain ⟨h1, h2, h3⟩ := L.sound b at_ x at2 h ha
    rw [← he x h1]
    exact ⟨(hv x).1 h1, h2, h3⟩
  cut := fun x hx u t r hr hne => by
    have hx := (hv x).2 hx
    rw [← he x hx] at hr
    exact L.cut x hx u t r hr hne

theorem law_map {d : D α} {enc : α → List UInt8} {valid : α → Prop} (h : α → β) {enc' : β → List UInt8} {valid' : β → Prop} (L : Law d enc valid) (hv : ∀ y, valid' y ↔ ∃ x, valid x ∧ h x = y) (he : ∀ x, valid x → enc' (h x) = enc x) : Law (map h d) enc' valid' where
  back := fun y hy u t => by
    obtain ⟨x, hx, rfl⟩ := (hv y).1 hy
    rw [he x hx]
    simp only [map, bind, L.back x hx u t]
    rfl
  sound := fun b at_ y at2 hh ha => by
    simp only [map, bind] at hh
    cases h1 : d b at_ with
    | error e => rw [h1] at hh; cases hh
    | ok p =>
      obtain ⟨x, a1⟩ := p
      rw [h1] at hh
      dsimp only [ret] at hh
      cases hh
      obtain ⟨g1, g2, g3⟩ := L.sound b at_ x _ h1 ha
      rw [he x g1]
      exact ⟨(hv _).2 ⟨x, g1, rfl⟩, g2, g3⟩
  cut := fun y hy u t r hr hne => by
    obtain ⟨x, hx, rfl⟩ := (hv y).1 hy
    rw [he x hx] at hr
    simp only [map, bind, L.cut x hx u t r hr hne]

/-- One behind the other, each as those ahead let it be. -/
def manyV (v : List α → α → Prop) : List α → List α → Prop
  | _, [] => True
  | acc, x :: r => v acc x ∧ manyV v (acc ++ [x]) r

theorem map_snd (d1 : D α) (d2 : α → D β) : map (fun z : α × β => z.2) (bind d1 fun x => bind (d2 x) fun y => ret (x, y)) = bind d1 d2 := by
  funext b at_
  simp only [map, bind]
  cases d1 b at_ with
  | error e => rfl
  | ok p =>
    obtain ⟨x, a1⟩ := p
    dsimp only
    cases d2 x b a1 with
    | error e => rfl
    | ok q => rfl

theorem law_many {d : List α → D α} {e : α → List UInt8} {v : List α → α → Prop} (L : ∀ acc, Law (d acc) e (v acc)) : ∀ (n : Nat) (acc : List α),
    Law (many d n acc) (fun z => (z.drop acc.length).flatMap e) (fun z => ∃ xs, z = acc ++ xs ∧ xs.length = n ∧ manyV v acc xs)
  | 0, acc => by
    refine (law_ret acc).congr (fun z => ⟨fun h => ⟨[], by rw [h, List.append_nil], rfl, trivial⟩, ?_⟩) fun z h => ?_
    · rintro ⟨xs, rfl, hl, _⟩
      rw [List.length_eq_zero_iff.1 hl, List.append_nil]
    · rw [h, List.drop_length]; rfl
  | n + 1, acc => by
    have h := law_seq (γ := α × List α) (d1 := d acc) (d2 := fun x => many d n (acc ++ [x])) Prod.mk id (fun _ _ _ _ => rfl) (fun _ => rfl) (L acc) fun x _ => law_many L n (acc ++ [x])
    have h2 := law_map (h := fun z : α × List α => z.2) (enc' := fun z => (z.drop acc.length).flatMap e) (valid' := fun z => ∃ xs, z = acc ++ xs ∧ xs.length = n + 1 ∧ manyV v acc xs) h (fun y => ⟨?_, ?_⟩) ?_
    · rw [map_snd] at h2
      exact h2
    · rintro ⟨xs, rfl, hl, hm⟩
      cases xs with
      | nil => simp at hl
      | cons x r => exact ⟨(x, acc ++ x :: r), ⟨hm.1, r, by simp, by simpa using hl, hm.2⟩, rfl⟩
    · rintro ⟨⟨x, z⟩, ⟨h1, r, h3, h4, h5⟩, rfl⟩
      have h3 : z = acc ++ [x] ++ r := h3
      refine ⟨x :: r, by simp [h3], by simp [h4], h1, h5⟩
    · rintro ⟨x, z⟩ ⟨h1, r, h3, h4, h5⟩
      have h3 : z = acc ++ [x] ++ r := h3
      subst h3
      show ((acc ++ [x] ++ r).drop acc.length).flatMap e = e x ++ ((acc ++ [x] ++ r).drop (acc ++ [x]).length).flatMap e
      rw [List.drop_left, List.append_assoc, List.drop_left]
      rfl

end D
end Lf

/-
  The readers of a config and of a machine's state: plain.
-/
namespace Lf
namespace D
variable {α γ : Type}

/-- One behind the other, where what comes last tells what came first. -/
theorem law_bind {d1 : D α} {d2 : α → D γ} {e1 : α → List UInt8} {e2 : α → γ → List UInt8} {v1 : α → Prop} {v2 : α → γ → Prop} (g : γ → α) (hg : ∀ x z, v1 x → v2 x z → g z = x)
    (L1 : Law d1 e1 v1) (L2 : ∀ x, v1 x → Law (d2 x) (e2 x) (v2 x)) : Law (bind d1 d2) (fun z => e1 (g z) ++ e2 (g z) z) (fun z => v1 (g z) ∧ v2 (g z) z) := by
  have h := law_seq (γ := α × γ) Prod.mk id (fun _ _ _ _ => rfl) (fun _ => rfl) L1 L2
  have h2 := law_map (h := fun z : α × γ => z.2) (enc' := fun z => e1 (g z) ++ e2 (g z) z) (valid' := fun z => v1 (g z) ∧ v2 (g z) z) h (fun y => ⟨?_, ?_⟩) ?_
  · rw [map_snd] at h2
    exact h2
  · rintro ⟨h1, h3⟩
    exact ⟨(g y, y), ⟨h1, h3⟩, rfl⟩
  · rintro ⟨⟨x, z⟩, ⟨h1, h3⟩, rfl⟩
    have h1 : v1 x := h1
    have h3 : v2 x z := h3
    show v1 (g z) ∧ v2 (g z) z
    rw [hg x z h1 h3]
    exact ⟨h1, h3⟩
  · rintro ⟨x, z⟩ ⟨h1, h3⟩
    have h1 : v1 x := h1
    have h3 : v2 x z := h3
    show e1 (g z) ++ e2 (g z) z = e1 x ++ e2 x z
    rw [hg x z h1 h3]

/-- The like, in a row of several: 'P' is what those ahead tell. -/
theorem law_bindP {d1 : D α} {d2 : α → D γ} {e1 : α → List UInt8} {v1 : α → Prop} {E : γ → List UInt8} {P W : γ → Prop} (g : γ → α)
    (L1 : Law d1 e1 v1) (L2 : ∀ x, v1 x → Law (d2 x) E (fun z => (g z = x ∧ P z) ∧ W z)) : Law (bind d1 d2) (fun z => e1 (g z) ++ E z) (fun z => P z ∧ (v1 (g z) ∧ W z)) := by
  have h := law_bind (e2 := fun _ => E) (v2 := fun x z => (g z = x ∧ P z) ∧ W z) g (fun x z _ h => h.1.1) L1 L2
  exact h.congr (fun z => ⟨fun h => ⟨h.2.1.2, h.1, h.2.2⟩, fun h => ⟨h.2.1, ⟨rfl, h.1⟩, h.2.2⟩⟩) fun _ _ => rfl

/-- How many, then so many in a row. -/
theorem law_listP {d1 : D Int} {d : Int → List α → D α} {d2 : Int → List α → D γ} {e1 : Int → List UInt8} {v1 : Int → Prop} {e : α → List UInt8} {v : Int → List α → α → Prop} {E : γ → List UInt8} {P W : γ → Prop} (g : γ → List α)
    (h0 : ∀ n, v1 n → 0 ≤ n) (L1 : Law d1 e1 v1) (L : ∀ n acc, Law (d n acc) e (v n acc)) (L2 : ∀ n l, (l.length : Int) = n → Law (d2 n l) E (fun z => (g z = l ∧ P z) ∧ W z)) :
    Law (bind d1 fun n => bind (many (d n) n.toNat []) fun l => d2 n l) (fun z => e1 (g z).length ++ ((g z).flatMap e ++ E z)) (fun z => P z ∧ (v1 (g z).length ∧ (manyV (v (g z).length) [] (g z) ∧ W z))) := by
  refine law_bindP (fun z => ((g z).length : Int)) L1 fun n hn => ?_
  have hl : ∀ l : List α, (∃ xs, l = [] ++ xs ∧ xs.length = n.toNat ∧ manyV (v n) [] xs) → (l.length : Int) = n := by
    rintro l ⟨xs, rfl, h1, _⟩
    have := h0 n hn
    omega
  have h := law_bind (e2 := fun _ => E) (v2 := fun l z => (g z = l ∧ P z) ∧ W z) g (fun x z _ h => h.1.1) (law_many (L n) n.toNat []) fun l hx => L2 n l (hl l hx)
  refine h.congr (fun z => ⟨fun h => ?_, fun h => ?_⟩) fun z _ => by simp
  · obtain ⟨⟨xs, h1, h2, h3⟩, ⟨_, h4⟩, h5⟩ := h
    have hz := hl (g z) ⟨xs, h1, h2, h3⟩
    have h1 : g z = xs := h1
    refine ⟨⟨hz, h4⟩, ?_, h5⟩
    rw [hz, h1]
    exact h3
  · obtain ⟨⟨hz, h4⟩, h3, h5⟩ := h
    have hz : ((g z).length : Int) = n := hz
    rw [hz] at h3
    exact ⟨⟨g z, rfl, by omega, h3⟩, ⟨rfl, h4⟩, h5⟩

/-- What was read must be so; else it is wrong, so far behind its first byte. -/
def mustAt (d : D α) (wrong : α → Int × Int) : D α := fun b at_ => match d b at_ with
  | .ok (x, at2) => if (wrong x).1 = 0 then .ok (x, at2) else .error ((wrong x).1, at_ + (wrong x).2.toNat)
  | .error e => .error e

theorem law_mustAt {d : D α} {enc : α → List UInt8} {valid : α → Prop} (L : Law d enc valid) (wrong : α → Int × Int) : Law (mustAt d wrong) enc (fun x => valid x ∧ (wrong x).1 = 0) where
  back := fun x hx u t => by
    simp only [mustAt, L.back x hx.1 u t, if_pos hx.2]
  sound := fun b at_ x at2 h ha => by
    simp only [mustAt] at h
    cases h1 : d b at_ with
    | error e => rw [h1] at h; cases h
    | ok p =>
      obtain ⟨y, a1⟩ := p
      rw [h1] at h
      dsimp only at h
      by_cases hw : (wrong y).1 = 0
      · rw [if_pos hw] at h
        cases h
        obtain ⟨g1, g2, g3⟩ := L.sound b at_ x at2 h1 ha
        exact ⟨⟨g1, hw⟩, g2, g3⟩
      · rw [if_neg hw] at h; cases h
  cut := fun x hx u t r he hr => by
    simp only [mustAt, L.cut x hx.1 u t r he hr]

end D
open D

/-- A number that is read, as a signed one. -/
def i64 (n : Nat) : Int := if n < 9223372036854775808 then n else (n : Int) - 18446744073709551616

def I64 (x : Int) : Prop := -9223372036854775808 ≤ x ∧ x < 9223372036854775808

theorem law_i64 : Law (map i64 (num 8)) (fun x => leB x 8) I64 := by
  refine law_map i64 (law_num 8) (fun y => ⟨fun h => ?_, ?_⟩) fun x hx => ?_
  · obtain ⟨h1, h2⟩ := h
    refine ⟨(y % 18446744073709551616).toNat, ?_, ?_⟩
    · show _ < 18446744073709551616
      omega
    · unfold i64
      split <;> omega
  · rintro ⟨x, hx, rfl⟩
    have hx : x < 18446744073709551616 := hx
    unfold i64 I64
    split <;> omega
  · have hx : x < 18446744073709551616 := hx
    have key : ∀ (k : Nat) (a b : Int), a % ((256 ^ k : Nat) : Int) = b % ((256 ^ k : Nat) : Int) → leB a k = leB b k := by
      intro k a b h
      have h1 := valB_leB a k
      have h2 := valB_leB b k
      rw [h, ← h2] at h1
      have h3 : valB (leB a k) = valB (leB b k) := by exact_mod_cast h1
      have h4 := leB_valB (leB a k)
      have h5 := leB_valB (leB b k)
      rw [leB_len] at h4 h5
      rw [← h4, ← h5, h3]
    refine key 8 _ _ ?_
    show i64 x % 18446744073709551616 = (x : Int) % 18446744073709551616
    unfold i64
    split <;> omega

def toZ (n : Nat) : Int := n

theorem law_toZ (k : Nat) : Law (map toZ (num k)) (fun x => leB x k) (fun x => 0 ≤ x ∧ x < ((256 ^ k : Nat) : Int)) :=
  law_map toZ (law_num k) (fun y => ⟨fun h => ⟨y.toNat, by omega, by unfold toZ; omega⟩, by rintro ⟨x, hx, rfl⟩; unfold toZ; omega⟩) fun x _ => rfl

def zD (k : Nat) : D Int := map toZ (num k)

def insRaw : D PIns := bind (zD 1) fun op => bind (zD 1) fun a => bind (zD 1) fun b => bind (zD 1) fun c => bind (map i64 (num 8)) fun imm => ret ⟨op, a, b, c, imm⟩

def insD (n locks : Int) : D PIns := mustAt insRaw fun x => wrongP x n locks

def rngE (a b : Int) (n : Int) : Int := if within n a b then 0 else 2

/-- How many: one at least, so many at most. -/
def cntE (most : Int) (n : Int) : Int := if n = 0 then 1 else if most < n then 3 else 0

def labE (acc : List Int) (a : Int) : Int := match acc.getLast? with
  | none => 0
  | some l => if a = l then 8 else if a < l then 7 else 0

def procD (parts locks : Int) : D PProc := bind (must (zD 1) (rngE 0 (parts - 1))) fun part => bind (must (zD 2) fun n => if 256 < n then 3 else 0) fun n =>
  bind (many (fun _ => insD n locks) n.toNat []) fun code => ret ⟨part, code⟩

def markD : List UInt8 → D Unit
  | [] => ret ()
  | c :: r => bind (must (num 1) fun n => if n = c.toNat then 0 else 4) fun _ => markD r

def configD : D PCfg := bind (markD [70, 66, 67, 70, 1]) fun _ => bind (must (zD 1) (cntE 8)) fun nl => bind (many (fun acc => must (zD 8) (labE acc)) nl.toNat []) fun labels =>
  bind (must (zD 1) (cntE 64)) fun nt => bind (many (fun _ => must (zD 1) (rngE 0 (nl - 1))) nt.toNat []) fun table =>
  bind (must (zD 2) (rngE 1 256)) fun fuel => bind (must (zD 1) (rngE 1 64)) fun lane => bind (must (zD 1) (rngE 0 8)) fun locks => bind (must (zD 2) (rngE 0 4096)) fun log =>
  bind (must (zD 1) (cntE 32)) fun np => bind (many (fun _ => procD nl locks) np.toNat []) fun procs => ret ⟨labels, table, fuel, lane, locks, log, procs⟩

/-- All bytes. -/
def whole1 {α : Type} (d : D α) (b : List UInt8) : Except (Int × Nat) α :=
  if 1048576 < b.length then .error (22, 1048576) else match d b 0 with
    | .error e => .error e
    | .ok (x, at_) => if at_ < b.length then .error (6, at_) else .ok x

def configOf (b : List UInt8) : Except (Int × Nat) PCfg := whole1 configD b

theorem law_mark : ∀ m : List UInt8, Law (markD m) (fun _ => m) (fun _ => True)
  | [] => (law_ret ()).congr (fun _ => by simp) fun _ _ => rfl
  | c :: r => by
    have h1 : ∀ (x : Nat) (z : Unit), (x < 256 ^ 1 ∧ (if x = c.toNat then (0 : Int) else 4) = 0) → True → c.toNat = x := fun x z h1 _ => by
      obtain ⟨_, h2⟩ := h1
      by_cases hx : x = c.toNat
      · exact hx.symm
      · rw [if_neg hx] at h2; cases h2
    have h := law_bind (g := fun _ : Unit => c.toNat) (d2 := fun _ => markD r) (e2 := fun _ _ => r) (v2 := fun _ _ => True) h1 (law_must (law_num 1) fun n => if n = c.toNat then (0 : Int) else 4) fun _ _ => law_mark r
    · refine h.congr (fun _ => ?_) fun _ _ => ?_
      · simp
        exact c.toNat_lt
      · have := leB_valB [c]
        simp only [valB, List.length_cons, List.length_nil] at this
        show leB (c.toNat : Int) 1 ++ r = c :: r
        have e : ((c.toNat + 256 * 0 : Nat) : Int) = (c.toNat : Int) := by omega
        rw [e] at this
        rw [this]; rfl

theorem law_ins : D.Law insRaw insB fun x => (0 ≤ x.op ∧ x.op < 256) ∧ (0 ≤ x.a ∧ x.a < 256) ∧ (0 ≤ x.b ∧ x.b < 256) ∧ (0 ≤ x.c ∧ x.c < 256) ∧ I64 x.imm := by
  have h := D.law_bindP (P := fun _ => True) (W := fun z => (0 ≤ z.a ∧ z.a < ((256 ^ 1 : Nat) : Int)) ∧ ((0 ≤ z.b ∧ z.b < ((256 ^ 1 : Nat) : Int)) ∧ ((0 ≤ z.c ∧ z.c < ((256 ^ 1 : Nat) : Int)) ∧ (I64 z.imm ∧ True)))) (E := fun z => leB z.a 1 ++ (leB z.b 1 ++ (leB z.c 1 ++ (leB z.imm 8 ++ [])))) (fun z : PIns => z.op) (law_toZ 1) fun op _ =>
    D.law_bindP (W := fun z => (0 ≤ z.b ∧ z.b < ((256 ^ 1 : Nat) : Int)) ∧ ((0 ≤ z.c ∧ z.c < ((256 ^ 1 : Nat) : Int)) ∧ (I64 z.imm ∧ True))) (E := fun z => leB z.b 1 ++ (leB z.c 1 ++ (leB z.imm 8 ++ []))) (fun z : PIns => z.a) (law_toZ 1) fun a _ =>
    D.law_bindP (W := fun z => (0 ≤ z.c ∧ z.c < ((256 ^ 1 : Nat) : Int)) ∧ (I64 z.imm ∧ True)) (E := fun z => leB z.c 1 ++ (leB z.imm 8 ++ [])) (fun z : PIns => z.b) (law_toZ 1) fun b _ =>
    D.law_bindP (W := fun z => I64 z.imm ∧ True) (E := fun z => leB z.imm 8 ++ []) (fun z : PIns => z.c) (law_toZ 1) fun c _ =>
    D.law_bindP (W := fun z => True) (E := fun z => []) (fun z : PIns => z.imm) law_i64 fun imm _ =>
    (D.law_ret (⟨op, a, b, c, imm⟩ : PIns)).congr (fun z => ⟨fun h => by subst h; simp, fun h => by cases z; simp at h; simp [h]⟩) fun _ _ => rfl
  refine h.congr (fun z => ?_) fun z _ => ?_
  · simp
  · simp [insB]

theorem manyV_all {α : Type} {V : α → Prop} : ∀ (l acc : List α), manyV (fun _ x => V x) acc l ↔ ∀ x ∈ l, V x
  | [], _ => by simp [manyV]
  | x :: r, acc => by simp [manyV, manyV_all r]

/-- An instruction that bytes may be. -/
def InsB (x : PIns) : Prop := (0 ≤ x.op ∧ x.op < 256) ∧ (0 ≤ x.a ∧ x.a < 256) ∧ (0 ≤ x.b ∧ x.b < 256) ∧ (0 ≤ x.c ∧ x.c < 256) ∧ I64 x.imm

def ProcV (parts locks : Int) (z : PProc) : Prop :=
  (0 ≤ z.part ∧ z.part < 256) ∧ rngE 0 (parts - 1) z.part = 0 ∧ z.code.length ≤ 256 ∧ ∀ x ∈ z.code, InsB x ∧ (wrongP x z.code.length locks).1 = 0

theorem law_proc (parts locks : Int) : D.Law (procD parts locks) procB (ProcV parts locks) := by
  have h := D.law_bindP (P := fun _ => True) (W := fun z : PProc => ((0 ≤ (z.code.length : Int) ∧ (z.code.length : Int) < ((256 ^ 2 : Nat) : Int)) ∧ (if 256 < (z.code.length : Int) then (3 : Int) else 0) = 0) ∧ (manyV (fun _ x => InsB x ∧ (wrongP x z.code.length locks).1 = 0) [] z.code ∧ True))
    (E := fun z => leB z.code.length 2 ++ (z.code.flatMap insB ++ [])) PProc.part (D.law_must (law_toZ 1) (rngE 0 (parts - 1))) fun part _ =>
    D.law_listP (d := fun n _ => insD n locks) (v := fun n _ x => InsB x ∧ (wrongP x n locks).1 = 0) (W := fun _ => True) (E := fun _ => []) PProc.code (fun n hn => hn.1.1) (D.law_must (law_toZ 2) fun n => if 256 < n then (3 : Int) else 0)
      (fun n _ => D.law_mustAt law_ins _) fun n l _ => (D.law_ret (⟨part, l⟩ : PProc)).congr (fun z => ⟨fun h => by subst h; simp, fun h => by cases z; simp at h; simp [h]⟩) fun _ _ => rfl
  refine h.congr (fun z => ?_) fun z _ => ?_
  · rw [manyV_all]
    unfold ProcV
    have e : (if 256 < (z.code.length : Int) then (3 : Int) else 0) = 0 ↔ z.code.length ≤ 256 := by
      by_cases h : 256 < (z.code.length : Int)
      · rw [if_pos h]; omega
      · rw [if_neg h]; omega
    rw [e]
    constructor
    · rintro ⟨_, ⟨h1, h2⟩, ⟨h3, h4⟩, h5, _⟩
      exact ⟨h1, h2, h4, h5⟩
    · rintro ⟨h1, h2, h4, h5⟩
      exact ⟨trivial, ⟨h1, h2⟩, ⟨⟨by omega, by show _ < (65536 : Int); omega⟩, h4⟩, h5, trivial⟩
  · simp [procB, codeB]

end Lf

/-
  A config's bytes are read back; what is read was written; what is cut is too short.
-/
namespace Lf

open D (manyV)

abbrev By (k : Nat) (x : Int) : Prop := 0 ≤ x ∧ x < ((256 ^ k : Nat) : Int)

abbrev CfgV2 (nl locks : Int) (z : PCfg) : Prop := (By 2 z.log ∧ rngE 0 4096 z.log = 0) ∧ ((By 1 z.procs.length ∧ cntE 32 z.procs.length = 0) ∧ (manyV (fun _ p => ProcV nl locks p) [] z.procs ∧ True))

abbrev CfgV1 (nl : Int) (z : PCfg) : Prop :=
  (By 1 z.table.length ∧ cntE 64 z.table.length = 0) ∧ (manyV (fun _ x => By 1 x ∧ rngE 0 (nl - 1) x = 0) [] z.table ∧ ((By 2 z.fuel ∧ rngE 1 256 z.fuel = 0) ∧ ((By 1 z.lane ∧ rngE 1 64 z.lane = 0) ∧ ((By 1 z.locks ∧ rngE 0 8 z.locks = 0) ∧ CfgV2 nl z.locks z))))

abbrev CfgV (z : PCfg) : Prop := (By 1 z.labels.length ∧ cntE 8 z.labels.length = 0) ∧ (manyV (fun acc a => By 8 a ∧ labE acc a = 0) [] z.labels ∧ CfgV1 z.labels.length z)

theorem law_config : D.Law configD cfgB CfgV := by
  have h2 : ∀ (labels table : List Int) (fuel lane : Int) (nl locks : Int), D.Law (D.bind (D.must (zD 2) (rngE 0 4096)) fun log => D.bind (D.must (zD 1) (cntE 32)) fun np => D.bind (D.many (fun _ => procD nl locks) np.toNat []) fun procs => D.ret (⟨labels, table, fuel, lane, locks, log, procs⟩ : PCfg))
      (fun z => leB z.log 2 ++ (leB z.procs.length 1 ++ (z.procs.flatMap procB ++ []))) (fun z => (z.locks = locks ∧ (z.lane = lane ∧ (z.fuel = fuel ∧ (z.table = table ∧ (z.labels = labels ∧ True))))) ∧ CfgV2 nl locks z) := fun labels table fuel lane nl locks =>
    D.law_bindP (γ := PCfg) (P := fun z => z.locks = locks ∧ (z.lane = lane ∧ (z.fuel = fuel ∧ (z.table = table ∧ (z.labels = labels ∧ True))))) (W := fun z => (By 1 z.procs.length ∧ cntE 32 z.procs.length = 0) ∧ (manyV (fun _ p => ProcV nl locks p) [] z.procs ∧ True))
      (E := fun z => leB z.procs.length 1 ++ (z.procs.flatMap procB ++ [])) PCfg.log (D.law_must (law_toZ 2) (rngE 0 4096)) fun log _ =>
      D.law_listP (γ := PCfg) (d := fun _ _ => procD nl locks) (v := fun _ _ p => ProcV nl locks p) (W := fun _ => True) (E := fun _ => []) PCfg.procs (fun n hn => hn.1.1) (D.law_must (law_toZ 1) (cntE 32)) (fun _ _ => law_proc nl locks) fun n l _ =>
      (D.law_ret (⟨labels, table, fuel, lane, locks, log, l⟩ : PCfg)).congr (fun z => ⟨fun h => by subst h; simp, fun h => by cases z; simp at h; simp [h]⟩) fun _ _ => rfl
  have h1 : ∀ (labels : List Int) (nl : Int), D.Law (D.bind (D.must (zD 1) (cntE 64)) fun nt => D.bind (D.many (fun _ => D.must (zD 1) (rngE 0 (nl - 1))) nt.toNat []) fun table =>
      D.bind (D.must (zD 2) (rngE 1 256)) fun fuel => D.bind (D.must (zD 1) (rngE 1 64)) fun lane => D.bind (D.must (zD 1) (rngE 0 8)) fun locks => D.bind (D.must (zD 2) (rngE 0 4096)) fun log =>
      D.bind (D.must (zD 1) (cntE 32)) fun np => D.bind (D.many (fun _ => procD nl locks) np.toNat []) fun procs => D.ret (⟨labels, table, fuel, lane, locks, log, procs⟩ : PCfg))
      (fun z => leB z.table.length 1 ++ (z.table.flatMap (fun a => leB a 1) ++ (leB z.fuel 2 ++ (leB z.lane 1 ++ (leB z.locks 1 ++ (leB z.log 2 ++ (leB z.procs.length 1 ++ (z.procs.flatMap procB ++ []))))))))
      (fun z => (z.labels = labels ∧ True) ∧ CfgV1 nl z) := fun labels nl =>
    D.law_listP (γ := PCfg) (d := fun _ _ => D.must (zD 1) (rngE 0 (nl - 1))) (v := fun _ _ x => By 1 x ∧ rngE 0 (nl - 1) x = 0) (P := fun z => z.labels = labels ∧ True)
      (W := fun z => (By 2 z.fuel ∧ rngE 1 256 z.fuel = 0) ∧ ((By 1 z.lane ∧ rngE 1 64 z.lane = 0) ∧ ((By 1 z.locks ∧ rngE 0 8 z.locks = 0) ∧ CfgV2 nl z.locks z)))
      (E := fun z => leB z.fuel 2 ++ (leB z.lane 1 ++ (leB z.locks 1 ++ (leB z.log 2 ++ (leB z.procs.length 1 ++ (z.procs.flatMap procB ++ [])))))) PCfg.table (fun n hn => hn.1.1) (D.law_must (law_toZ 1) (cntE 64)) (fun _ _ => D.law_must (law_toZ 1) (rngE 0 (nl - 1))) fun n table _ =>
      D.law_bindP (γ := PCfg) (W := fun z => (By 1 z.lane ∧ rngE 1 64 z.lane = 0) ∧ ((By 1 z.locks ∧ rngE 0 8 z.locks = 0) ∧ CfgV2 nl z.locks z)) (E := fun z => leB z.lane 1 ++ (leB z.locks 1 ++ (leB z.log 2 ++ (leB z.procs.length 1 ++ (z.procs.flatMap procB ++ []))))) PCfg.fuel (D.law_must (law_toZ 2) (rngE 1 256)) fun fuel _ =>
      D.law_bindP (γ := PCfg) (W := fun z => (By 1 z.locks ∧ rngE 0 8 z.locks = 0) ∧ CfgV2 nl z.locks z) (E := fun z => leB z.locks 1 ++ (leB z.log 2 ++ (leB z.procs.length 1 ++ (z.procs.flatMap procB ++ [])))) PCfg.lane (D.law_must (law_toZ 1) (rngE 1 64)) fun lane _ =>
      D.law_bindP (γ := PCfg) (W := fun z => CfgV2 nl z.locks z) (E := fun z => leB z.log 2 ++ (leB z.procs.length 1 ++ (z.procs.flatMap procB ++ []))) PCfg.locks (D.law_must (law_toZ 1) (rngE 0 8)) fun locks _ =>
      (h2 labels table fuel lane nl locks).congr (fun z => and_congr_right fun h => by rw [h.1]) fun _ _ => rfl
  have h0 := D.law_bind (g := fun _ : PCfg => ()) (v2 := fun _ z => True ∧ CfgV z) (e2 := fun _ z => leB z.labels.length 1 ++ (z.labels.flatMap (fun a => leB a 8) ++ (leB z.table.length 1 ++ (z.table.flatMap (fun a => leB a 1) ++ (leB z.fuel 2 ++ (leB z.lane 1 ++ (leB z.locks 1 ++ (leB z.log 2 ++ (leB z.procs.length 1 ++ (z.procs.flatMap procB ++ []))))))))))
    (fun x z _ _ => rfl) (law_mark [70, 66, 67, 70, 1]) fun _ _ =>
    D.law_listP (γ := PCfg) (d := fun _ acc => D.must (zD 8) (labE acc)) (v := fun _ acc a => By 8 a ∧ labE acc a = 0) (P := fun _ => True) (W := fun z => CfgV1 z.labels.length z)
      (E := fun z => leB z.table.length 1 ++ (z.table.flatMap (fun a => leB a 1) ++ (leB z.fuel 2 ++ (leB z.lane 1 ++ (leB z.locks 1 ++ (leB z.log 2 ++ (leB z.procs.length 1 ++ (z.procs.flatMap procB ++ [])))))))) PCfg.labels (fun n hn => hn.1.1) (D.law_must (law_toZ 1) (cntE 8)) (fun _ acc => D.law_must (law_toZ 8) (labE acc)) fun nl labels hl =>
      (h1 labels nl).congr (fun z => and_congr_right fun h => by rw [h.1, hl]) fun _ _ => rfl
  refine h0.congr (fun z => by simp) fun z _ => ?_
  simp [cfgB]

end Lf

/-
  The reader and the writer of a machine's state: plain.
-/
namespace Lf
open D (manyV)

def entryB (e : PEntry) : List UInt8 := leB e.tick 8 ++ (leB e.proc 1 ++ leB e.value 8)
def waiterB (w : PWaiter) : List UInt8 := leB w.proc 1 ++ leB w.value 8
def laneB (l : PLane) : List UInt8 := leB l.values.length 1 ++ (l.values.flatMap (fun v => leB v 8) ++ (leB l.waiters.length 1 ++ (l.waiters.flatMap waiterB ++ (leB l.taken 2 ++ leB l.dropped 2))))
def lockB (x : Int × List Int) : List UInt8 := leB (x.1 + 1) 1 ++ (leB x.2.length 1 ++ x.2.flatMap fun p => leB p 1)
def firedB (b : Bool) : Int := if b = true then 1 else 0
def procSB (x : PProcess) : List UInt8 :=
  leB x.state 1 ++ (leB x.pc 2 ++ (x.regs.flatMap (fun v => leB v 8) ++ (leB x.cursor 1 ++ (leB x.timer 8 ++ (leB (firedB x.fired) 1 ++ (leB x.wake 8 ++ x.lanes.flatMap laneB))))))
def partB (x : PPart) : List UInt8 :=
  leB x.cursor 1 ++ (leB x.log.length 2 ++ (x.log.flatMap entryB ++ (leB x.lost 2 ++ (leB x.forbidden 2 ++ (x.owners.zip x.queues).flatMap lockB))))

def snapB (c : PCfg) (s : PState) : List UInt8 :=
  [70, 66, 83, 78, 1] ++ (leB (cfgB c).length 4 ++ (cfgB c ++ (leB s.tick 8 ++ (s.parts.flatMap partB ++ s.procs.flatMap procSB))))

/-! The readers. -/
def iD : D Int := D.map i64 (D.num 8)

/-- How many, so many at most. -/
def mostE (most : Int) (n : Int) : Int := if most < n then 3 else 0

def entryD : D PEntry := D.bind iD fun tick => D.bind (zD 1) fun proc => D.bind iD fun value => D.ret ⟨tick, proc, value⟩
def waiterD : D PWaiter := D.bind (zD 1) fun proc => D.bind iD fun value => D.ret ⟨proc, value⟩
def laneD (lane np : Int) : D PLane := D.bind (D.must (zD 1) (mostE lane)) fun n => D.bind (D.many (fun _ => iD) n.toNat []) fun values =>
  D.bind (D.must (zD 1) (mostE np)) fun m => D.bind (D.many (fun _ => waiterD) m.toNat []) fun waiters => D.bind (zD 2) fun taken => D.bind (zD 2) fun dropped => D.ret ⟨values, waiters, taken, dropped⟩

theorem law_entry : D.Law entryD entryB fun z => I64 z.tick ∧ By 1 z.proc ∧ I64 z.value := by
  have h := D.law_bindP (P := fun _ => True) (W := fun z => By 1 z.proc ∧ (I64 z.value ∧ True)) (E := fun z => leB z.proc 1 ++ (leB z.value 8 ++ [])) (fun z : PEntry => z.tick) law_i64 fun tick _ =>
    D.law_bindP (W := fun z => I64 z.value ∧ True) (E := fun z => leB z.value 8 ++ []) (fun z : PEntry => z.proc) (law_toZ 1) fun proc _ =>
    D.law_bindP (W := fun z => True) (E := fun z => []) (fun z : PEntry => z.value) law_i64 fun value _ =>
    (D.law_ret (⟨tick, proc, value⟩ : PEntry)).congr (fun z => ⟨fun h => by subst h; simp, fun h => by cases z; simp at h; simp [h]⟩) fun _ _ => rfl
  refine h.congr (fun z => ?_) fun z _ => ?_
  · simp
  · simp [entryB]

theorem law_waiter : D.Law waiterD waiterB fun z => By 1 z.proc ∧ I64 z.value := by
  have h := D.law_bindP (P := fun _ => True) (W := fun z => I64 z.value ∧ True) (E := fun z => leB z.value 8 ++ []) (fun z : PWaiter => z.proc) (law_toZ 1) fun proc _ =>
    D.law_bindP (W := fun z => True) (E := fun z => []) (fun z : PWaiter => z.value) law_i64 fun value _ =>
    (D.law_ret (⟨proc, value⟩ : PWaiter)).congr (fun z => ⟨fun h => by subst h; simp, fun h => by cases z; simp at h; simp [h]⟩) fun _ _ => rfl
  refine h.congr (fun z => ?_) fun z _ => ?_
  · simp
  · simp [waiterB]

def LaneV (lane np : Int) (z : PLane) : Prop :=
  (By 1 z.values.length ∧ mostE lane z.values.length = 0) ∧ (manyV (fun _ v => I64 v) [] z.values ∧ ((By 1 z.waiters.length ∧ mostE np z.waiters.length = 0) ∧ (manyV (fun _ w => By 1 w.proc ∧ I64 w.value) [] z.waiters ∧ (By 2 z.taken ∧ (By 2 z.dropped ∧ True)))))

theorem law_lane (lane np : Int) : D.Law (laneD lane np) laneB (LaneV lane np) := by
  have h := D.law_listP (γ := PLane) (d := fun _ _ => iD) (v := fun _ _ v => I64 v) (P := fun _ => True) (W := fun z => (By 1 z.waiters.length ∧ mostE np z.waiters.length = 0) ∧ (manyV (fun _ w => By 1 w.proc ∧ I64 w.value) [] z.waiters ∧ (By 2 z.taken ∧ (By 2 z.dropped ∧ True))))
    (E := fun z => leB z.waiters.length 1 ++ (z.waiters.flatMap waiterB ++ (leB z.taken 2 ++ (leB z.dropped 2 ++ [])))) PLane.values (fun n hn => hn.1.1) (D.law_must (law_toZ 1) (mostE lane)) (fun _ _ => law_i64) fun n values _ =>
    D.law_listP (γ := PLane) (d := fun _ _ => waiterD) (v := fun _ _ w => By 1 w.proc ∧ I64 w.value) (P := fun z => z.values = values ∧ True) (W := fun z => By 2 z.taken ∧ (By 2 z.dropped ∧ True)) (E := fun z => leB z.taken 2 ++ (leB z.dropped 2 ++ [])) PLane.waiters (fun n hn => hn.1.1) (D.law_must (law_toZ 1) (mostE np)) (fun _ _ => law_waiter) fun m waiters _ =>
    D.law_bindP (γ := PLane) (W := fun z => By 2 z.dropped ∧ True) (E := fun z => leB z.dropped 2 ++ []) PLane.taken (law_toZ 2) fun taken _ =>
    D.law_bindP (γ := PLane) (W := fun z => True) (E := fun z => []) PLane.dropped (law_toZ 2) fun dropped _ =>
    (D.law_ret (⟨values, waiters, taken, dropped⟩ : PLane)).congr (fun z => ⟨fun h => by subst h; simp, fun h => by cases z; simp at h; simp [h]⟩) fun _ _ => rfl
  refine h.congr (fun z => ?_) fun z _ => ?_
  · exact ⟨fun h => h.2, fun h => ⟨trivial, h⟩⟩
  · simp [laneB]

/-! A lock: who holds it, who waits for it. -/
def less (n : Int) : Int := n - 1
def lockD (np : Int) : D (Int × List Int) := D.bind (D.map less (zD 1)) fun o => D.bind (D.must (zD 1) (mostE np)) fun n => D.bind (D.many (fun _ => zD 1) n.toNat []) fun q => D.ret (o, q)

theorem law_less : D.Law (D.map less (zD 1)) (fun o => leB (o + 1) 1) (fun o => By 1 (o + 1)) :=
  D.law_map less (law_toZ 1) (fun y => ⟨fun h => ⟨y + 1, h, by unfold less; omega⟩, by rintro ⟨x, hx, rfl⟩; unfold less; rw [Int.sub_add_cancel]; exact hx⟩) fun x _ => by unfold less; rw [Int.sub_add_cancel]

def LockV (np : Int) (z : Int × List Int) : Prop := By 1 (z.1 + 1) ∧ ((By 1 z.2.length ∧ mostE np z.2.length = 0) ∧ (manyV (fun _ p => By 1 p) [] z.2 ∧ True))

theorem law_lock (np : Int) : D.Law (lockD np) lockB (LockV np) := by
  have h := D.law_bindP (γ := Int × List Int) (P := fun _ => True) (W := fun z => (By 1 z.2.length ∧ mostE np z.2.length = 0) ∧ (manyV (fun _ p => By 1 p) [] z.2 ∧ True)) (E := fun z => leB z.2.length 1 ++ (z.2.flatMap (fun p => leB p 1) ++ [])) Prod.fst law_less fun o _ =>
    D.law_listP (γ := Int × List Int) (d := fun _ _ => zD 1) (v := fun _ _ p => By 1 p) (P := fun z => z.1 = o ∧ True) (W := fun _ => True) (E := fun _ => []) Prod.snd (fun n hn => hn.1.1) (D.law_must (law_toZ 1) (mostE np)) (fun _ _ => law_toZ 1) fun n q _ =>
    (D.law_ret ((o, q) : Int × List Int)).congr (fun z => ⟨fun h => by subst h; simp, fun h => by cases z; simp at h; simp [h]⟩) fun _ _ => rfl
  refine h.congr (fun z => ⟨fun h => h.2, fun h => ⟨trivial, h⟩⟩) fun z _ => ?_
  simp [lockB]

def mkPart (cursor : Int) (log : List PEntry) (lost forbidden : Int) (l : List (Int × List Int)) : PPart := ⟨cursor, log, lost, forbidden, l.map Prod.fst, l.map Prod.snd⟩

def partD (most locks np : Int) : D PPart := D.bind (zD 1) fun cursor => D.bind (D.must (zD 2) (mostE most)) fun n => D.bind (D.many (fun _ => entryD) n.toNat []) fun log => D.bind (zD 2) fun lost => D.bind (zD 2) fun forbidden =>
  D.bind (D.many (fun _ => lockD np) locks.toNat []) fun l => D.ret (mkPart cursor log lost forbidden l)

def PartV (most locks np : Int) (z : PPart) : Prop :=
  By 1 z.cursor ∧ ((By 2 z.log.length ∧ mostE most z.log.length = 0) ∧ (manyV (fun _ e => I64 e.tick ∧ By 1 e.proc ∧ I64 e.value) [] z.log ∧ (By 2 z.lost ∧ (By 2 z.forbidden ∧
    ((∃ xs, z.owners.zip z.queues = [] ++ xs ∧ xs.length = locks.toNat ∧ manyV (fun _ => LockV np) [] xs) ∧ z.owners.length = z.queues.length)))))

theorem part_eq (cursor : Int) (log : List PEntry) (lost forbidden : Int) (l : List (Int × List Int)) (z : PPart) :
    z = mkPart cursor log lost forbidden l ↔ (z.owners.zip z.queues = l ∧ (z.forbidden = forbidden ∧ (z.lost = lost ∧ (z.log = log ∧ (z.cursor = cursor ∧ True))))) ∧ z.owners.length = z.queues.length := by
  constructor
  · rintro rfl
    refine ⟨⟨?_, rfl, rfl, rfl, rfl, trivial⟩, by simp [mkPart]⟩
    show (l.map Prod.fst).zip (l.map Prod.snd) = l
    induction l with
    | nil => rfl
    | cons x r ih => simp [ih]
  · obtain ⟨z1, z2, z3, z4, z5, z6⟩ := z
    rintro ⟨⟨h1, h2, h3, h4, h5, _⟩, h6⟩
    have h1 : z5.zip z6 = l := h1
    have h6 : z5.length = z6.length := h6
    simp only at h2 h3 h4 h5
    subst h1 h2 h3 h4 h5
    unfold mkPart
    rw [List.map_fst_zip (by omega), List.map_snd_zip (by omega)]

theorem law_part (most locks np : Int) : D.Law (partD most locks np) partB (PartV most locks np) := by
  have h := D.law_bindP (γ := PPart) (P := fun _ => True) (W := fun z => (By 2 z.log.length ∧ mostE most z.log.length = 0) ∧ (manyV (fun _ e => I64 e.tick ∧ By 1 e.proc ∧ I64 e.value) [] z.log ∧ (By 2 z.lost ∧ (By 2 z.forbidden ∧
      ((∃ xs, z.owners.zip z.queues = [] ++ xs ∧ xs.length = locks.toNat ∧ manyV (fun _ => LockV np) [] xs) ∧ z.owners.length = z.queues.length)))))
      (E := fun z => leB z.log.length 2 ++ (z.log.flatMap entryB ++ (leB z.lost 2 ++ (leB z.forbidden 2 ++ (((z.owners.zip z.queues).drop 0).flatMap lockB ++ []))))) PPart.cursor (law_toZ 1) fun cursor _ =>
    D.law_listP (γ := PPart) (d := fun _ _ => entryD) (v := fun _ _ e => I64 e.tick ∧ By 1 e.proc ∧ I64 e.value) (P := fun z => z.cursor = cursor ∧ True) (W := fun z => By 2 z.lost ∧ (By 2 z.forbidden ∧
      ((∃ xs, z.owners.zip z.queues = [] ++ xs ∧ xs.length = locks.toNat ∧ manyV (fun _ => LockV np) [] xs) ∧ z.owners.length = z.queues.length)))
      (E := fun z => leB z.lost 2 ++ (leB z.forbidden 2 ++ (((z.owners.zip z.queues).drop 0).flatMap lockB ++ []))) PPart.log (fun n hn => hn.1.1) (D.law_must (law_toZ 2) (mostE most)) (fun _ _ => law_entry) fun n log _ =>
    D.law_bindP (γ := PPart) (W := fun z => By 2 z.forbidden ∧ ((∃ xs, z.owners.zip z.queues = [] ++ xs ∧ xs.length = locks.toNat ∧ manyV (fun _ => LockV np) [] xs) ∧ z.owners.length = z.queues.length))
      (E := fun z => leB z.forbidden 2 ++ (((z.owners.zip z.queues).drop 0).flatMap lockB ++ [])) PPart.lost (law_toZ 2) fun lost _ =>
    D.law_bindP (γ := PPart) (W := fun z => (∃ xs, z.owners.zip z.queues = [] ++ xs ∧ xs.length = locks.toNat ∧ manyV (fun _ => LockV np) [] xs) ∧ z.owners.length = z.queues.length)
      (E := fun z => ((z.owners.zip z.queues).drop 0).flatMap lockB ++ []) PPart.forbidden (law_toZ 2) fun forbidden _ =>
    D.law_bindP (γ := PPart) (W := fun z => z.owners.length = z.queues.length) (E := fun _ => []) (fun z => z.owners.zip z.queues) (D.law_many (fun _ => law_lock np) locks.toNat []) fun l _ =>
    (D.law_ret (mkPart cursor log lost forbidden l)).congr (fun z => part_eq cursor log lost forbidden l z) fun _ _ => rfl
  refine h.congr (fun z => ⟨fun h => h.2, fun h => ⟨trivial, h⟩⟩) fun z _ => ?_
  simp [partB]

def isOne (n : Int) : Bool := decide (n = 1)
def yesE (n : Int) : Int := if 1 < n then 4 else 0

theorem law_fired : D.Law (D.map isOne (D.must (zD 1) yesE)) (fun b => leB (firedB b) 1) (fun _ => True) := by
  refine D.law_map isOne (D.law_must (law_toZ 1) yesE) (fun y => ⟨fun _ => ?_, fun _ => trivial⟩) fun x hx => ?_
  · cases y with
    | true => exact ⟨1, ⟨⟨by decide, by decide⟩, by decide⟩, by decide⟩
    | false => exact ⟨0, ⟨⟨by decide, by decide⟩, by decide⟩, by decide⟩
  · obtain ⟨⟨h1, _⟩, h2⟩ := hx
    unfold yesE at h2
    have : x = 0 ∨ x = 1 := by
      by_cases h : 1 < x
      · rw [if_pos h] at h2; cases h2
      · omega
    rcases this with rfl | rfl <;> rfl

def procSD (nl : Nat) (lane np : Int) : D PProcess := D.bind (zD 1) fun state => D.bind (zD 2) fun pc => D.bind (D.many (fun _ => iD) 8 []) fun regs => D.bind (zD 1) fun cursor => D.bind iD fun timer =>
  D.bind (D.map isOne (D.must (zD 1) yesE)) fun fired => D.bind iD fun wake => D.bind (D.many (fun _ => laneD lane np) (nl + 1) []) fun lanes => D.ret ⟨state, pc, regs, cursor, timer, fired, wake, lanes⟩

abbrev ManyV {α : Type} (V : α → Prop) (n : Nat) (l : List α) : Prop := ∃ xs, l = [] ++ xs ∧ xs.length = n ∧ manyV (fun _ => V) [] xs

def ProcSV (nl : Nat) (lane np : Int) (z : PProcess) : Prop :=
  By 1 z.state ∧ (By 2 z.pc ∧ (ManyV I64 8 z.regs ∧ (By 1 z.cursor ∧ (I64 z.timer ∧ (True ∧ (I64 z.wake ∧ (ManyV (LaneV lane np) (nl + 1) z.lanes ∧ True)))))))

theorem law_procS (nl : Nat) (lane np : Int) : D.Law (procSD nl lane np) procSB (ProcSV nl lane np) := by
  have h := D.law_bindP (γ := PProcess) (P := fun _ => True) (W := fun z => By 2 z.pc ∧ (ManyV I64 8 z.regs ∧ (By 1 z.cursor ∧ (I64 z.timer ∧ (True ∧ (I64 z.wake ∧ (ManyV (LaneV lane np) (nl + 1) z.lanes ∧ True)))))))
      (E := fun z => leB z.pc 2 ++ ((z.regs.drop 0).flatMap (fun v => leB v 8) ++ (leB z.cursor 1 ++ (leB z.timer 8 ++ (leB (firedB z.fired) 1 ++ (leB z.wake 8 ++ ((z.lanes.drop 0).flatMap laneB ++ []))))))) PProcess.state (law_toZ 1) fun state _ =>
    D.law_bindP (γ := PProcess) (W := fun z => ManyV I64 8 z.regs ∧ (By 1 z.cursor ∧ (I64 z.timer ∧ (True ∧ (I64 z.wake ∧ (ManyV (LaneV lane np) (nl + 1) z.lanes ∧ True))))))
      (E := fun z => (z.regs.drop 0).flatMap (fun v => leB v 8) ++ (leB z.cursor 1 ++ (leB z.timer 8 ++ (leB (firedB z.fired) 1 ++ (leB z.wake 8 ++ ((z.lanes.drop 0).flatMap laneB ++ [])))))) PProcess.pc (law_toZ 2) fun pc _ =>
    D.law_bindP (γ := PProcess) (W := fun z => By 1 z.cursor ∧ (I64 z.timer ∧ (True ∧ (I64 z.wake ∧ (ManyV (LaneV lane np) (nl + 1) z.lanes ∧ True)))))
      (E := fun z => leB z.cursor 1 ++ (leB z.timer 8 ++ (leB (firedB z.fired) 1 ++ (leB z.wake 8 ++ ((z.lanes.drop 0).flatMap laneB ++ []))))) PProcess.regs (D.law_many (fun _ => law_i64) 8 []) fun regs _ =>
    D.law_bindP (γ := PProcess) (W := fun z => I64 z.timer ∧ (True ∧ (I64 z.wake ∧ (ManyV (LaneV lane np) (nl + 1) z.lanes ∧ True))))
      (E := fun z => leB z.timer 8 ++ (leB (firedB z.fired) 1 ++ (leB z.wake 8 ++ ((z.lanes.drop 0).flatMap laneB ++ [])))) PProcess.cursor (law_toZ 1) fun cursor _ =>
    D.law_bindP (γ := PProcess) (W := fun z => True ∧ (I64 z.wake ∧ (ManyV (LaneV lane np) (nl + 1) z.lanes ∧ True)))
      (E := fun z => leB (firedB z.fired) 1 ++ (leB z.wake 8 ++ ((z.lanes.drop 0).flatMap laneB ++ []))) PProcess.timer law_i64 fun timer _ =>
    D.law_bindP (γ := PProcess) (W := fun z => I64 z.wake ∧ (ManyV (LaneV lane np) (nl + 1) z.lanes ∧ True))
      (E := fun z => leB z.wake 8 ++ ((z.lanes.drop 0).flatMap laneB ++ [])) PProcess.fired law_fired fun fired _ =>
    D.law_bindP (γ := PProcess) (W := fun z => ManyV (LaneV lane np) (nl + 1) z.lanes ∧ True) (E := fun z => (z.lanes.drop 0).flatMap laneB ++ []) PProcess.wake law_i64 fun wake _ =>
    D.law_bindP (γ := PProcess) (W := fun _ => True) (E := fun _ => []) PProcess.lanes (D.law_many (fun _ => law_lane lane np) (nl + 1) []) fun lanes _ =>
    (D.law_ret (⟨state, pc, regs, cursor, timer, fired, wake, lanes⟩ : PProcess)).congr (fun z => ⟨fun h => by subst h; simp, fun h => by cases z; simp at h; simp [h]⟩) fun _ _ => rfl
  refine h.congr (fun z => ⟨fun h => h.2, fun h => ⟨trivial, h⟩⟩) fun z _ => ?_
  simp [procSB]

end Lf

/-
  A machine's bytes are read back; what is read was written; what is cut is too short; what is longer has a rest.
-/
namespace Lf
open D (manyV)

def stateB (s : PState) : List UInt8 := leB s.tick 8 ++ (s.parts.flatMap partB ++ s.procs.flatMap procSB)

def stateD (c : PCfg) : D PState := D.bind iD fun tick => D.bind (D.many (fun _ => partD c.log c.locks c.procs.length) c.labels.length []) fun parts =>
  D.bind (D.many (fun _ => procSD c.labels.length c.lane c.procs.length) c.procs.length []) fun procs => D.ret ⟨tick, parts, procs⟩

def StateV (c : PCfg) (z : PState) : Prop := I64 z.tick ∧ (ManyV (PartV c.log c.locks c.procs.length) c.labels.length z.parts ∧ (ManyV (ProcSV c.labels.length c.lane c.procs.length) c.procs.length z.procs ∧ True))

theorem law_state (c : PCfg) : D.Law (stateD c) stateB (StateV c) := by
  have h := D.law_bindP (γ := PState) (P := fun _ => True) (W := fun z => ManyV (PartV c.log c.locks c.procs.length) c.labels.length z.parts ∧ (ManyV (ProcSV c.labels.length c.lane c.procs.length) c.procs.length z.procs ∧ True))
      (E := fun z => (z.parts.drop 0).flatMap partB ++ ((z.procs.drop 0).flatMap procSB ++ [])) PState.tick law_i64 fun tick _ =>
    D.law_bindP (γ := PState) (W := fun z => ManyV (ProcSV c.labels.length c.lane c.procs.length) c.procs.length z.procs ∧ True) (E := fun z => (z.procs.drop 0).flatMap procSB ++ []) PState.parts (D.law_many (fun _ => law_part c.log c.locks c.procs.length) c.labels.length []) fun parts _ =>
    D.law_bindP (γ := PState) (W := fun _ => True) (E := fun _ => []) PState.procs (D.law_many (fun _ => law_procS c.labels.length c.lane c.procs.length) c.procs.length []) fun procs _ =>
    (D.law_ret (⟨tick, parts, procs⟩ : PState)).congr (fun z => ⟨fun h => by subst h; simp, fun h => by cases z; simp at h; simp [h]⟩) fun _ _ => rfl
  refine h.congr (fun z => ⟨fun h => h.2, fun h => ⟨trivial, h⟩⟩) fun z _ => ?_
  simp [stateB]

theorem law_whole {α : Type} {d : D α} {enc : α → List UInt8} {valid : α → Prop} (L : D.Law d enc valid) {x : α} (hx : valid x) (hl : (enc x).length ≤ 1048576) : whole1 d (enc x) = .ok x := by
  have h := L.back x hx [] []
  rw [List.append_nil, List.nil_append] at h
  unfold whole1
  rw [if_neg (by omega)]
  have h : d (enc x) 0 = .ok (x, 0 + (enc x).length) := h
  rw [h]
  dsimp only
  rw [if_neg (by omega)]

theorem whole_sound {α : Type} {d : D α} {enc : α → List UInt8} {valid : α → Prop} (L : D.Law d enc valid) {b : List UInt8} {x : α} (h : whole1 d b = .ok x) : valid x ∧ enc x = b ∧ b.length ≤ 1048576 := by
  unfold whole1 at h
  by_cases hl : 1048576 < b.length
  · rw [if_pos hl] at h; cases h
  · rw [if_neg hl] at h
    cases hd : d b 0 with
    | error e => rw [hd] at h; cases h
    | ok p =>
      obtain ⟨y, at2⟩ := p
      rw [hd] at h
      dsimp only at h
      by_cases hr : at2 < b.length
      · rw [if_pos hr] at h; cases h
      · rw [if_neg hr] at h
        cases h
        obtain ⟨h1, h2, t, h3⟩ := L.sound b 0 _ at2 hd (Nat.zero_le _)
        rw [List.drop_zero] at h3
        have h4 := congrArg List.length h3
        rw [List.length_append] at h4
        have h5 : t = [] := List.length_eq_zero_iff.1 (by omega)
        rw [h5, List.append_nil] at h3
        exact ⟨h1, h3.symm, by omega⟩

theorem whole_cut {α : Type} {d : D α} {enc : α → List UInt8} {valid : α → Prop} (L : D.Law d enc valid) {x : α} (hx : valid x) (hl : (enc x).length ≤ 1048576) {k : Nat} (hk : k < (enc x).length) : whole1 d ((enc x).take k) = .error (5, k) := by
  have hlen : ((enc x).take k).length = k := by rw [List.length_take]; omega
  have h := L.cut x hx [] ((enc x).take k) ((enc x).drop k) (List.take_append_drop k (enc x)).symm (fun e => by
    have := congrArg List.length e
    rw [List.length_drop] at this
    simp at this
    omega)
  rw [List.nil_append] at h
  have h : d ((enc x).take k) 0 = .error (5, 0 + ((enc x).take k).length) := h
  unfold whole1
  rw [if_neg (by omega), h, hlen, Nat.zero_add]

theorem whole_rest {α : Type} {d : D α} {enc : α → List UInt8} {valid : α → Prop} (L : D.Law d enc valid) {x : α} (hx : valid x) (hl : (enc x).length < 1048576) (c : UInt8) : whole1 d (enc x ++ [c]) = .error (6, (enc x).length) := by
  have h := L.back x hx [] [c]
  rw [List.nil_append] at h
  have h : d (enc x ++ [c]) 0 = .ok (x, 0 + (enc x).length) := h
  unfold whole1
  rw [if_neg (by rw [List.length_append]; simp; omega), h]
  dsimp only
  rw [if_pos (by rw [List.length_append]; simp), Nat.zero_add]

/-- A config inside other bytes: how long it is, then its own bytes. -/
def configSub : D PCfg := fun b at_ => match D.num 4 b at_ with
  | .error e => .error e
  | .ok (n, at2) => if b.length < at2 + n then .error (5, b.length) else match configOf ((b.drop at2).take n) with
    | .error (e, p) => .error (e, at2 + p)
    | .ok c => .ok (c, at2 + n)

theorem law_sub : D.Law configSub (fun c => leB (cfgB c).length 4 ++ cfgB c) (fun c => CfgV c ∧ (cfgB c).length ≤ 1048576) where
  back := fun c hc u t => by
    obtain ⟨h1, h2⟩ := hc
    have ha := (D.law_num 4).back (cfgB c).length (show (cfgB c).length < 4294967296 by omega) u (cfgB c ++ t)
    unfold configSub
    rw [List.append_assoc, ha]
    dsimp only
    have hl : (leB ((cfgB c).length : Int) 4).length = 4 := leB_len _ _
    rw [if_neg (by simp [hl]; omega)]
    have e : ((u ++ (leB ((cfgB c).length : Int) 4 ++ (cfgB c ++ t))).drop (u.length + (leB ((cfgB c).length : Int) 4).length)).take (cfgB c).length = cfgB c := by
      rw [← List.append_assoc, ← List.length_append, List.drop_left, List.take_left]
    rw [e]
    have hw : configOf (cfgB c) = .ok c := law_whole law_config h1 h2
    rw [hw]
    dsimp only
    rw [List.length_append, Nat.add_assoc]
  sound := fun b at_ c at3 h ha => by
    unfold configSub at h
    cases hn : D.num 4 b at_ with
    | error e => rw [hn] at h; cases h
    | ok p =>
      obtain ⟨n, at2⟩ := p
      rw [hn] at h
      dsimp only at h
      obtain ⟨g1, g2, t, g3⟩ := (D.law_num 4).sound b at_ n at2 hn ha
      by_cases hc : b.length < at2 + n
      · rw [if_pos hc] at h; cases h
      · rw [if_neg hc] at h
        cases hw : configOf ((b.drop at2).take n) with
        | error e => rw [hw] at h; cases h
        | ok x =>
          rw [hw] at h
          dsimp only at h
          cases h
          obtain ⟨k1, k2, k3⟩ := whole_sound law_config hw
          have hl : ((b.drop at2).take n).length = n := by rw [List.length_take, List.length_drop]; omega
          rw [← k2] at hl k3
          refine ⟨⟨k1, k3⟩, ?_, (b.drop at2).drop n, ?_⟩
          · rw [List.length_append, hl]; omega
          · have g4 : b.drop at2 = t := by
              rw [g2, ← List.drop_drop, g3, List.drop_left]
            rw [hl, g3, List.append_assoc]
            congr 1
            rw [k2, List.take_append_drop, g4]
  cut := fun c hc u t r he hr => by
    obtain ⟨h1, h2⟩ := hc
    have hl : (leB ((cfgB c).length : Int) 4).length = 4 := leB_len _ _
    unfold configSub
    by_cases ht : t.length < 4
    · obtain ⟨r1, hr1⟩ : ∃ r1, leB ((cfgB c).length : Int) 4 = t ++ r1 := by
        have hp : t <+: leB ((cfgB c).length : Int) 4 := List.prefix_of_prefix_length_le ⟨r, he.symm⟩ (List.prefix_append _ _) (by omega)
        obtain ⟨r1, hr1⟩ := hp
        exact ⟨r1, hr1.symm⟩
      have hne : r1 ≠ [] := fun e => by
        rw [e, List.append_nil] at hr1
        rw [hr1] at hl
        omega
      rw [(D.law_num 4).cut (cfgB c).length (show (cfgB c).length < 4294967296 by omega) u t r1 hr1 hne]
    · obtain ⟨t2, rfl⟩ : ∃ t2, t = leB ((cfgB c).length : Int) 4 ++ t2 := by
        have hp : leB ((cfgB c).length : Int) 4 <+: t := List.prefix_of_prefix_length_le (List.prefix_append _ _) ⟨r, he.symm⟩ (by omega)
        obtain ⟨t2, ht2⟩ := hp
        exact ⟨t2, ht2.symm⟩
      have he2 : cfgB c = t2 ++ r := by
        rw [List.append_assoc] at he
        exact List.append_cancel_left he
      have h3 := congrArg List.length he2
      rw [List.length_append] at h3
      have : 0 < r.length := List.length_pos_iff.2 hr
      rw [(D.law_num 4).back (cfgB c).length (show (cfgB c).length < 4294967296 by omega) u t2]
      dsimp only
      rw [if_pos (by simp [hl]; omega)]
      simp

/-- The reader of a machine. -/
def snapD : D (PCfg × PState) := D.bind (markD [70, 66, 83, 78, 1]) fun _ => D.bind configSub fun c => D.bind (stateD c) fun s => D.ret (c, s)

theorem snapB_eq (c : PCfg) (s : PState) : snapB c s = [70, 66, 83, 78, 1] ++ ((leB (cfgB c).length 4 ++ cfgB c) ++ stateB s) := by
  simp [snapB, stateB]

theorem law_snap : D.Law snapD (fun z => snapB z.1 z.2) (fun z => (CfgV z.1 ∧ (cfgB z.1).length ≤ 1048576) ∧ StateV z.1 z.2) := by
  have h1 := D.law_seq (γ := PCfg × PState) (d2 := stateD) (e2 := fun _ => stateB) Prod.mk id (fun _ _ _ _ => rfl) (fun _ => rfl) law_sub fun c _ => law_state c
  have h2 := D.law_bind (g := fun _ : PCfg × PState => ()) (fun _ _ _ _ => rfl) (law_mark [70, 66, 83, 78, 1]) fun _ _ => h1
  refine h2.congr (fun z => ⟨fun h => h.2, fun h => ⟨trivial, h⟩⟩) fun z _ => ?_
  rw [snapB_eq]
  rfl

end Lf

/-
  The configs that may be are those that bytes may be.
-/
namespace Lf
open D (manyV)

theorem rngE_zero {a b n : Int} : rngE a b n = 0 ↔ a ≤ n ∧ n ≤ b := by
  unfold rngE within
  by_cases h1 : a ≤ n
  · by_cases h2 : n ≤ b
    · simp [h1, h2]
    · simp [h1, h2]
  · simp [h1]

theorem within_true {a b n : Int} : within n a b = true ↔ a ≤ n ∧ n ≤ b := by
  unfold within
  simp

theorem within_false {a b n : Int} : within n a b = false ↔ ¬ (a ≤ n ∧ n ≤ b) := by
  rw [← Bool.not_eq_true, within_true]

theorem cntE_zero {m n : Int} : cntE m n = 0 ↔ n ≠ 0 ∧ n ≤ m := by
  unfold cntE
  by_cases h : n = 0
  · simp [h]
  · rw [if_neg h]
    by_cases h2 : m < n
    · rw [if_pos h2]; omega
    · rw [if_neg h2]; omega

theorem labE_zero {acc : List Int} {a : Int} : labE acc a = 0 ↔ ∀ x, acc.getLast? = some x → x < a := by
  unfold labE
  cases h : acc.getLast? with
  | none => simp
  | some l =>
    dsimp only
    by_cases h1 : a = l
    · rw [if_pos h1]
      exact ⟨fun e => (by cases e), fun e => by have := e l rfl; omega⟩
    · rw [if_neg h1]
      by_cases h2 : a < l
      · rw [if_pos h2]
        exact ⟨fun e => (by cases e), fun e => by have := e l rfl; omega⟩
      · rw [if_neg h2]
        refine ⟨fun _ x hx => ?_, fun _ => rfl⟩
        cases hx; omega

theorem labels_iff : ∀ (l acc : List Int), manyV (fun acc a => By 8 a ∧ labE acc a = 0) acc l ↔ (∀ a ∈ l, By 8 a) ∧ l.Pairwise (· < ·) ∧ ∀ x, acc.getLast? = some x → ∀ a ∈ l, x < a
  | [], acc => by simp [manyV]
  | a :: r, acc => by
    have ih := labels_iff r (acc ++ [a])
    have hl : (acc ++ [a]).getLast? = some a := by simp
    simp only [manyV]
    rw [ih, labE_zero, List.pairwise_cons]
    constructor
    · rintro ⟨⟨h1, h2⟩, h3, h4, h5⟩
      have h6 := h5 a hl
      refine ⟨fun y hy => ?_, ⟨h6, h4⟩, fun x hx y hy => ?_⟩
      · rcases List.mem_cons.1 hy with rfl | hy
        · exact h1
        · exact h3 y hy
      · have := h2 x hx
        rcases List.mem_cons.1 hy with rfl | hy
        · exact this
        · have := h6 y hy; omega
    · rintro ⟨h1, ⟨h2, h3⟩, h4⟩
      refine ⟨⟨h1 a (List.mem_cons_self ..), fun x hx => h4 x hx a (List.mem_cons_self ..)⟩, fun y hy => h1 y (List.mem_cons_of_mem _ hy), h3, fun x hx y hy => ?_⟩
      rw [hl] at hx
      cases hx
      exact h2 y hy

theorem regP_zero {has : Bool} {n : Int} : regP has n = 0 ↔ (has = false → n = 0) ∧ 0 ≤ n ∧ n < 8 := by
  unfold regP
  cases has with
  | true =>
    rw [if_neg (by simp)]
    by_cases h : n < 0 ∨ 8 ≤ n
    · rw [if_pos h]; simp; omega
    · rw [if_neg h]; simp; omega
  | false =>
    by_cases h0 : n = 0
    · subst h0; simp
    · rw [if_pos ⟨rfl, h0⟩]; simp [h0]

theorem wrongP_in {x : PIns} {n locks : Int} (h : (wrongP x n locks).1 = 0) : (0 ≤ x.op ∧ x.op < 34) ∧ (0 ≤ x.a ∧ x.a < 8) ∧ (0 ≤ x.b ∧ x.b < 8) ∧ (0 ≤ x.c ∧ x.c < 8) := by
  unfold wrongP at h
  by_cases h1 : x.op < 0 ∨ 34 ≤ x.op
  · rw [if_pos h1] at h; cases h
  rw [if_neg h1] at h
  by_cases h2 : regP (fieldsP x.op).1 x.a ≠ 0
  · rw [if_pos h2] at h; exact absurd h h2
  rw [if_neg h2] at h
  by_cases h3 : regP (fieldsP x.op).2.1 x.b ≠ 0
  · rw [if_pos h3] at h; exact absurd h h3
  rw [if_neg h3] at h
  by_cases h4 : regP (fieldsP x.op).2.2.1 x.c ≠ 0
  · rw [if_pos h4] at h; exact absurd h h4
  have g2 := (regP_zero.1 (Decidable.not_not.1 h2)).2
  have g3 := (regP_zero.1 (Decidable.not_not.1 h3)).2
  have g4 := (regP_zero.1 (Decidable.not_not.1 h4)).2
  exact ⟨by omega, g2, g3, g4⟩

theorem codeR_zero {n locks : Int} : ∀ {l : List PIns} {i : Int}, (codeR n locks l i).1 = 0 ↔ ∀ x ∈ l, (wrongP x n locks).1 = 0
  | [], i => by simp [codeR]
  | x :: r, i => by
    simp only [codeR]
    by_cases h : (wrongP x n locks).1 = 0
    · rw [if_neg (fun hh => hh h), codeR_zero]
      simp [h]
    · rw [if_pos h]
      simp [h]

theorem codeP_zero {l : List PIns} {locks : Int} (hl : 0 ≤ locks ∧ locks ≤ 8) : (codeP l locks).1 = 0 ↔ l.length ≤ 256 ∧ ∀ x ∈ l, (wrongP x l.length locks).1 = 0 := by
  unfold codeP
  rw [if_neg (by omega)]
  by_cases h : 256 < l.length
  · rw [if_pos h]
    exact ⟨fun e => (by cases e), fun e => by omega⟩
  · rw [if_neg h, codeR_zero]
    exact ⟨fun e => ⟨by omega, e⟩, fun e => e.2⟩

theorem procsR_zero {parts locks : Int} : ∀ {l : List PProc} {i : Int}, (procsR parts locks l i).1 = 0 ↔ ∀ p ∈ l, (0 ≤ p.part ∧ p.part ≤ parts - 1) ∧ (codeP p.code locks).1 = 0
  | [], i => by simp [procsR]
  | p :: r, i => by
    simp only [procsR]
    by_cases h1 : within p.part 0 (parts - 1) = false
    · rw [if_pos h1]
      have := within_false.1 h1
      exact ⟨fun e => (by cases e), fun e => absurd (e p (List.mem_cons_self ..)).1 this⟩
    · rw [if_neg h1]
      have g1 := within_true.1 (Bool.not_eq_false _ ▸ h1 : within p.part 0 (parts - 1) = true)
      by_cases h2 : (codeP p.code locks).1 = 0
      · rw [if_neg (fun hh => hh h2), procsR_zero]
        simp [h2, g1]
      · rw [if_pos h2]
        exact ⟨fun e => absurd e h2, fun e => absurd (e p (List.mem_cons_self ..)).2 h2⟩

/-- The labels that may be. -/
def LabOK (l : List Int) : Prop := l ≠ [] ∧ l.length ≤ 8 ∧ l.Pairwise (· < ·)

/-- What a config's numbers are in the program's memory. -/
def Typed (c : PCfg) : Prop := (∀ a ∈ c.labels, By 8 a) ∧ ∀ p ∈ c.procs, ∀ x ∈ p.code, I64 x.imm

theorem cfgP_zero {m : Int} {c : PCfg} : (cfgP m c).1 = 0 ↔ m = 0 ∧ c.table ≠ [] ∧ c.table.length ≤ 64 ∧ (∀ x ∈ c.table, 0 ≤ x ∧ x ≤ c.labels.length - 1) ∧ (1 ≤ c.fuel ∧ c.fuel ≤ 256) ∧ (1 ≤ c.lane ∧ c.lane ≤ 64) ∧ (0 ≤ c.locks ∧ c.locks ≤ 8) ∧
    (0 ≤ c.log ∧ c.log ≤ 4096) ∧ c.procs ≠ [] ∧ c.procs.length ≤ 32 ∧ ∀ p ∈ c.procs, (0 ≤ p.part ∧ p.part ≤ c.labels.length - 1) ∧ (codeP p.code c.locks).1 = 0 := by
  unfold cfgP
  by_cases h0 : m = 0
  case neg => rw [if_pos h0]; exact ⟨fun e => absurd e h0, fun e => absurd e.1 h0⟩
  rw [if_neg (fun hh => hh h0)]
  by_cases h1 : c.table = []
  · rw [if_pos h1]; exact ⟨fun e => (by cases e), fun e => absurd h1 e.2.1⟩
  rw [if_neg h1]
  by_cases h2 : 64 < c.table.length
  · rw [if_pos h2]; exact ⟨fun e => (by cases e), fun e => (by have := e.2.2.1; omega)⟩
  rw [if_neg h2]
  by_cases h3 : c.table.all (fun p => within p 0 (c.labels.length - 1)) = false
  · rw [if_pos h3]
    refine ⟨fun e => (by cases e), fun e => ?_⟩
    have : c.table.all (fun p => within p 0 (c.labels.length - 1)) = true := List.all_eq_true.2 fun x hx => within_true.2 (e.2.2.2.1 x hx)
    rw [this] at h3; cases h3
  rw [if_neg h3]
  have g3 : ∀ x ∈ c.table, 0 ≤ x ∧ x ≤ c.labels.length - 1 := fun x hx => within_true.1 (List.all_eq_true.1 (Bool.not_eq_false _ ▸ h3 : c.table.all (fun p => within p 0 (c.labels.length - 1)) = true) x hx)
  by_cases h4 : within c.fuel 1 256 = false
  · rw [if_pos h4]; exact ⟨fun e => (by cases e), fun e => absurd e.2.2.2.2.1 (within_false.1 h4)⟩
  rw [if_neg h4]
  have g4 := within_true.1 (Bool.not_eq_false _ ▸ h4 : within c.fuel 1 256 = true)
  by_cases h5 : within c.lane 1 64 = false
  · rw [if_pos h5]; exact ⟨fun e => (by cases e), fun e => absurd e.2.2.2.2.2.1 (within_false.1 h5)⟩
  rw [if_neg h5]
  have g5 := within_true.1 (Bool.not_eq_false _ ▸ h5 : within c.lane 1 64 = true)
  by_cases h6 : within c.locks 0 8 = false
  · rw [if_pos h6]; exact ⟨fun e => (by cases e), fun e => absurd e.2.2.2.2.2.2.1 (within_false.1 h6)⟩
  rw [if_neg h6]
  have g6 := within_true.1 (Bool.not_eq_false _ ▸ h6 : within c.locks 0 8 = true)
  by_cases h7 : within c.log 0 4096 = false
  · rw [if_pos h7]; exact ⟨fun e => (by cases e), fun e => absurd e.2.2.2.2.2.2.2.1 (within_false.1 h7)⟩
  rw [if_neg h7]
  have g7 := within_true.1 (Bool.not_eq_false _ ▸ h7 : within c.log 0 4096 = true)
  by_cases h8 : c.procs = []
  · rw [if_pos h8]; exact ⟨fun e => (by cases e), fun e => absurd h8 e.2.2.2.2.2.2.2.2.1⟩
  rw [if_neg h8]
  by_cases h9 : 32 < c.procs.length
  · rw [if_pos h9]; exact ⟨fun e => (by cases e), fun e => (by have := e.2.2.2.2.2.2.2.2.2.1; omega)⟩
  rw [if_neg h9, procsR_zero]
  exact ⟨fun e => ⟨h0, h1, by omega, g3, g4, g5, g6, g7, h8, by omega, e⟩, fun e => e.2.2.2.2.2.2.2.2.2.2⟩

theorem cfgV_iff {m : Int} {c : PCfg} (hm : m = 0 ↔ LabOK c.labels) : Typed c ∧ (cfgP m c).1 = 0 ↔ CfgV c := by
  rw [cfgP_zero, hm]
  have hall : ∀ {α : Type} {V : α → Prop} {l : List α}, manyV (fun _ x => V x) [] l ↔ ∀ x ∈ l, V x := manyV_all _ _
  constructor
  · rintro ⟨⟨t1, t2⟩, ⟨l1, l2, l3⟩, a1, a2, a3, a4, a5, a6, a7, a8, a9, a10⟩
    have n1 : 0 < c.labels.length := List.length_pos_iff.2 l1
    have n2 : 0 < c.table.length := List.length_pos_iff.2 a1
    have n3 : 0 < c.procs.length := List.length_pos_iff.2 a8
    refine ⟨⟨⟨by omega, by show _ < (256 : Int); omega⟩, cntE_zero.2 (by omega)⟩, (labels_iff _ _).2 ⟨t1, l3, fun x hx => by cases hx⟩, ⟨⟨by omega, by show _ < (256 : Int); omega⟩, cntE_zero.2 (by omega)⟩,
      hall.2 fun x hx => ⟨⟨(a3 x hx).1, by have := (a3 x hx).2; show _ < (256 : Int); omega⟩, rngE_zero.2 (a3 x hx)⟩, ⟨⟨by omega, by show _ < (65536 : Int); omega⟩, rngE_zero.2 a4⟩, ⟨⟨by omega, by show _ < (256 : Int); omega⟩, rngE_zero.2 a5⟩,
      ⟨⟨by omega, by show _ < (256 : Int); omega⟩, rngE_zero.2 a6⟩, ⟨⟨by omega, by show _ < (65536 : Int); omega⟩, rngE_zero.2 a7⟩, ⟨⟨by omega, by show _ < (256 : Int); omega⟩, cntE_zero.2 (by omega)⟩, hall.2 fun p hp => ?_, trivial⟩
    obtain ⟨b1, b2⟩ := a10 p hp
    obtain ⟨b3, b4⟩ := (codeP_zero a6).1 b2
    refine ⟨⟨b1.1, by omega⟩, rngE_zero.2 b1, b3, fun x hx => ⟨?_, b4 x hx⟩⟩
    obtain ⟨c1, c2, c3, c4⟩ := wrongP_in (b4 x hx)
    exact ⟨by omega, by omega, by omega, by omega, t2 p hp x hx⟩
  · rintro ⟨⟨_, b1⟩, b2, ⟨_, b3⟩, b4, ⟨_, b5⟩, ⟨_, b6⟩, ⟨_, b7⟩, ⟨_, b8⟩, ⟨_, b9⟩, b10, _⟩
    obtain ⟨c1, c2, _⟩ := (labels_iff _ _).1 b2
    have b4 := hall.1 b4
    have b10 := hall.1 b10
    have b7 := rngE_zero.1 b7
    have d1 := cntE_zero.1 b1
    have d3 := cntE_zero.1 b3
    have d9 := cntE_zero.1 b9
    refine ⟨⟨c1, fun p hp x hx => ((b10 p hp).2.2.2 x hx).1.2.2.2.2⟩, ⟨fun e => ?_, by omega, c2⟩, fun e => ?_, by omega, fun x hx => rngE_zero.1 (b4 x hx).2, rngE_zero.1 b5, rngE_zero.1 b6, b7, rngE_zero.1 b8, fun e => ?_, by omega, fun p hp => ?_⟩
    · rw [e] at d1; exact d1.1 rfl
    · rw [e] at d3; exact d3.1 rfl
    · rw [e] at d9; exact d9.1 rfl
    · obtain ⟨_, e1, e2, e3⟩ := b10 p hp
      exact ⟨rngE_zero.1 e1, (codeP_zero b7).2 ⟨e2, fun x hx => (e3 x hx).2⟩⟩

end Lf

/-
  The states that may be are states that bytes may be.
-/
namespace Lf
open D (manyV)

theorem short_of : ∀ (n : Nat) (l : List Int), l.Nodup → (∀ x ∈ l, 0 ≤ x ∧ x < n) → l.length ≤ n
  | 0, l, _, h => by
    cases l with
    | nil => simp
    | cons x r => have := h x (List.mem_cons_self ..); omega
  | n + 1, l, hn, h => by
    by_cases hm : (n : Int) ∈ l
    · have := short_of n (l.erase (n : Int)) (hn.erase _) fun x hx => by
        have h1 := h x (List.mem_of_mem_erase hx)
        have h2 : x ≠ (n : Int) := fun e => by
          rw [e] at hx
          exact (hn.not_mem_erase) hx
        omega
      rw [List.length_erase_of_mem hm] at this
      omega
    · have := short_of n l hn fun x hx => by
        have h1 := h x hx
        have h2 : x ≠ (n : Int) := fun e => hm (e ▸ hx)
        omega
      omega

theorem sum_ge {α : Type} (f : α → Nat) : ∀ (l : List α) (x : α), x ∈ l → f x ≤ (l.map f).sum
  | [], _, h => by cases h
  | y :: r, x, h => by
    rcases List.mem_cons.1 h with rfl | h
    · simp
    · have := sum_ge f r x h
      simp; omega

theorem zip_mem {α β : Type} : ∀ {l : List α} {m : List β} {x : α × β}, x ∈ l.zip m → ∃ k : Nat, l[k]? = some x.1 ∧ m[k]? = some x.2
  | [], _, _, h => by simp at h
  | _ :: _, [], _, h => by simp at h
  | a :: l, b :: m, x, h => by
    rw [List.zip_cons_cons] at h
    rcases List.mem_cons.1 h with rfl | h
    · exact ⟨0, rfl, rfl⟩
    · obtain ⟨k, h1, h2⟩ := zip_mem h
      exact ⟨k + 1, by simpa using h1, by simpa using h2⟩

/-- What a state's numbers are in the program's memory. -/
def TypedS (s : PState) : Prop :=
  I64 s.tick ∧ (∀ x ∈ s.parts, ∀ e ∈ x.log, I64 e.tick ∧ I64 e.value) ∧
  ∀ x ∈ s.procs, x.regs.length = 8 ∧ (∀ v ∈ x.regs, I64 v) ∧ I64 x.timer ∧ I64 x.wake ∧ ∀ l ∈ x.lanes, (∀ v ∈ l.values, I64 v) ∧ ∀ w ∈ l.waiters, I64 w.value

/-- What a config bounds. -/
structure Small (c : PCfg) : Prop where
  nl : c.labels.length ≤ 8
  np : c.procs.length ≤ 32
  lane : c.lane ≤ 64
  locks : 0 ≤ c.locks ∧ c.locks ≤ 8
  log : c.log ≤ 4096
  code : ∀ p ∈ c.procs, p.code.length ≤ 256

theorem small_of {m : Int} {c : PCfg} (hl : LabOK c.labels) (h : (cfgP m c).1 = 0) : Small c := by
  obtain ⟨_, _, _, _, _, a5, a6, a7, _, a9, a10⟩ := cfgP_zero.1 h
  exact ⟨hl.2.1, a9, a5.2, a6, a7.2, fun p hp => ((codeP_zero a6).1 (a10 p hp).2).1⟩

section
variable {c : PCfg} {s : PState} {fl : Nat → Int → Prop}

theorem ofP_lt {p : Int} {i : Nat} (h : ofP c p i) : 0 ≤ p ∧ p < c.procs.length := by
  obtain ⟨h0, y, h1, _⟩ := h
  have := (List.getElem?_eq_some_iff.1 h1).1
  omega

theorem waits_le (h : WaitsG c s) {p : Int} (h0 : 0 ≤ p) {x : PProcess} (hx : s.procs[p.toNat]? = some x) : (s.parts.map (cntQ p)).sum + (s.procs.map (cntL p)).sum ≤ 1 := by
  have := h.2.2 p.toNat x hx
  rw [show ((p.toNat : Nat) : Int) = p by omega] at this
  rw [this]
  split <;> omega

theorem queue_short (hlen : s.procs.length = c.procs.length) (h : WaitsG c s) {i : Nat} {x : PPart} (hx : s.parts[i]? = some x) {k : Nat} {q : List Int} (hq : x.queues[k]? = some q) : q.length ≤ c.procs.length := by
  have hin : ∀ p ∈ q, 0 ≤ p ∧ p < c.procs.length := fun p hp => ofP_lt (h.1 i x hx k q hq p hp).1
  refine short_of _ q (List.nodup_iff_count.2 fun p => ?_) hin
  by_cases hp : p ∈ q
  · obtain ⟨h0, h1⟩ := hin p hp
    have hz : p.toNat < s.procs.length := by omega
    have h2 := waits_le h h0 (List.getElem?_eq_getElem hz)
    have h3 : cntQ p x ≤ (s.parts.map (cntQ p)).sum := sum_ge _ _ _ (List.mem_of_getElem? hx)
    have h4 : q.countP (fun z => decide (z = p)) ≤ cntQ p x := sum_ge (fun q : List Int => q.countP fun z => decide (z = p)) _ _ (List.mem_of_getElem? hq)
    have h5 : List.count p q = q.countP (fun z => decide (z = p)) := by
      unfold List.count
      congr 1
    omega
  · rw [List.count_eq_zero_of_not_mem hp]; omega

theorem lane_short (hlen : s.procs.length = c.procs.length) (h : WaitsG c s) {r : Nat} {x : PProcess} (hx : s.procs[r]? = some x) {i : Nat} {l : PLane} (hl : x.lanes[i]? = some l) : l.waiters.length ≤ c.procs.length := by
  obtain ⟨y, hy⟩ := at_len hx hlen
  have hin : ∀ p ∈ l.waiters.map PWaiter.proc, 0 ≤ p ∧ p < c.procs.length := fun p hp => by
    obtain ⟨w, hw, rfl⟩ := List.mem_map.1 hp
    exact ofP_lt (h.2.1 r x y hx hy i l hl w hw).2.1
  have := short_of _ (l.waiters.map PWaiter.proc) (List.nodup_iff_count.2 fun p => ?_) hin
  · simpa using this
  by_cases hp : p ∈ l.waiters.map PWaiter.proc
  · obtain ⟨h0, h1⟩ := hin p hp
    have hz : p.toNat < s.procs.length := by omega
    have h2 := waits_le h h0 (List.getElem?_eq_getElem hz)
    have h3 : cntL p x ≤ (s.procs.map (cntL p)).sum := sum_ge _ _ _ (List.mem_of_getElem? hx)
    have h4 : cntW p l ≤ cntL p x := sum_ge (cntW p) _ _ (List.mem_of_getElem? hl)
    have h5 : List.count p (l.waiters.map PWaiter.proc) = cntW p l := by
      unfold List.count cntW
      rw [List.countP_map]
      congr 1
    omega
  · rw [List.count_eq_zero_of_not_mem hp]; omega

theorem manyAll {α : Type} {V : α → Prop} {n : Nat} {l : List α} (hl : l.length = n) (h : ∀ x ∈ l, V x) : ManyV V n l := ⟨l, rfl, hl, (manyV_all _ _).2 h⟩

theorem mostE_zero {m n : Int} (h : n ≤ m) : mostE m n = 0 := by
  unfold mostE
  rw [if_neg (by omega)]

theorem stateV_of (hc : Small c) (ht : TypedS s) (h : MayG c s fl) : StateV c s := by
  obtain ⟨hS, hP, hQ, hW⟩ := h
  obtain ⟨t1, t2, t3⟩ := ht
  have hnp := hc.np
  have hnl := hc.nl
  refine ⟨t1, manyAll hS.2.1 fun x hx => ?_, manyAll hS.2.2 fun x hx => ?_, trivial⟩
  · obtain ⟨i, hi⟩ := List.getElem?_of_mem hx
    obtain ⟨⟨g1, g2, g3⟩, g4, g5, g6, _, g8, g9, g10⟩ := hP i x hi
    have hlog := hc.log
    have hmany : manyP c i ≤ c.procs.length := List.length_filter_le _ _
    refine ⟨⟨g1, ?_⟩, ⟨⟨by omega, by show _ < (65536 : Int); omega⟩, mostE_zero g3⟩, (manyV_all _ _).2 fun e he => ?_, ⟨g5.1, by have := g5.2; show _ < (65536 : Int); omega⟩, ⟨g6.1, by have := g6.2; show _ < (65536 : Int); omega⟩, ?_, by omega⟩
    · show _ < (256 : Int)
      by_cases hpos : 0 < x.cursor
      · have := g2 hpos; omega
      · omega
    · obtain ⟨k, hk⟩ := List.getElem?_of_mem he
      obtain ⟨_, _, b3, _⟩ := logG_at g4 k e hk
      obtain ⟨c1, c2⟩ := ofP_lt b3
      exact ⟨(t2 x hx e he).1, ⟨c1, by show _ < (256 : Int); omega⟩, (t2 x hx e he).2⟩
    · have hlk := hc.locks
      refine manyAll (by rw [List.length_zip]; omega) fun z hz => ?_
      obtain ⟨k, k1, k2⟩ := zip_mem hz
      have hq := queue_short hS.2.2 hW hi k2
      refine ⟨?_, ⟨⟨by omega, by show _ < (256 : Int); omega⟩, mostE_zero (by omega)⟩, (manyV_all _ _).2 fun p hp => ?_, trivial⟩
      · by_cases e : z.1 = -1
        · rw [e]; exact ⟨by decide, by decide⟩
        · obtain ⟨c1, c2⟩ := ofP_lt (g10 z.1 (List.mem_of_getElem? k1) e).1
          exact ⟨by omega, by show _ < (256 : Int); omega⟩
      · obtain ⟨c1, c2⟩ := ofP_lt (hW.1 i x hi k _ k2 p hp).1
        exact ⟨c1, by show _ < (256 : Int); omega⟩
  · obtain ⟨p, hp⟩ := List.getElem?_of_mem hx
    obtain ⟨y, hy⟩ := at_len hp hS.2.2
    obtain ⟨g1, g2, g3, g4, g5, g6, _, _, g9, _⟩ := hQ p x y hp hy
    obtain ⟨r1, r2, r3, r4, r5⟩ := t3 x hx
    have hcode := hc.code y (List.mem_of_getElem? hy)
    refine ⟨⟨g1.1, by show _ < (256 : Int); omega⟩, ⟨g2.1, by show _ < (65536 : Int); omega⟩, manyAll r1 r2, ⟨g4.1, by show _ < (256 : Int); omega⟩, r3, trivial, r4, manyAll g3 fun l hl => ?_, trivial⟩
    obtain ⟨k, hk⟩ := List.getElem?_of_mem hl
    obtain ⟨b1, b2, b3, _⟩ := g9 k l hk
    have hs := lane_short hS.2.2 hW hp hk
    have hlane := hc.lane
    refine ⟨⟨⟨by omega, by show _ < (256 : Int); omega⟩, mostE_zero b1⟩, (manyV_all _ _).2 (r5 l hl).1, ⟨⟨by omega, by show _ < (256 : Int); omega⟩, mostE_zero (by omega)⟩, (manyV_all _ _).2 fun w hw => ?_, ⟨b2.1, by have := b2.2; show _ < (65536 : Int); omega⟩, ⟨b3.1, by have := b3.2; show _ < (65536 : Int); omega⟩, trivial⟩
    obtain ⟨c1, c2⟩ := ofP_lt (hW.2.1 p x y hp hy k l hk w hw).2.1
    exact ⟨⟨c1, by show _ < (256 : Int); omega⟩, (r5 l hl).2 w hw⟩

end
end Lf

/-
  How many bytes a machine has.
-/
namespace Lf
open D (manyV)

theorem flat_le {α : Type} {f : α → List UInt8} {B : Nat} : ∀ (l : List α), (∀ x ∈ l, (f x).length ≤ B) → (l.flatMap f).length ≤ l.length * B
  | [], _ => by simp
  | x :: r, h => by
    have h1 := h x (List.mem_cons_self ..)
    have h2 := flat_le r fun y hy => h y (List.mem_cons_of_mem _ hy)
    rw [List.flatMap_cons, List.length_append, List.length_cons, Nat.succ_mul]
    omega

theorem manyV_of {α : Type} {V : α → Prop} {n : Nat} {l : List α} (h : ManyV V n l) : l.length = n ∧ ∀ x ∈ l, V x := by
  obtain ⟨xs, h1, h2, h3⟩ := h
  have h1 : l = xs := h1
  subst h1
  exact ⟨h2, (manyV_all _ _).1 h3⟩

theorem mostE_le {m n : Int} (h : mostE m n = 0) : n ≤ m := by
  unfold mostE at h
  by_cases hh : m < n
  · rw [if_pos hh] at h; cases h
  · omega

theorem lane_len {lane np : Int} {l : PLane} (h : LaneV lane np l) (h1 : lane ≤ 64) (h2 : np ≤ 32) : (laneB l).length ≤ 806 := by
  obtain ⟨⟨_, a1⟩, _, ⟨_, a2⟩, _⟩ := h
  have b1 := mostE_le a1
  have b2 := mostE_le a2
  have f1 := flat_le (f := fun v => leB v 8) (B := 8) l.values fun v _ => by rw [leB_len]; omega
  have f2 := flat_le (f := waiterB) (B := 9) l.waiters fun w _ => by simp [waiterB, leB_len]
  simp only [laneB, List.length_append, leB_len]
  omega

theorem proc_len {nl : Nat} {lane np : Int} {x : PProcess} (h : ProcSV nl lane np x) (h0 : nl ≤ 8) (h1 : lane ≤ 64) (h2 : np ≤ 32) : (procSB x).length ≤ 7339 := by
  obtain ⟨_, _, a1, _, _, _, _, a2, _⟩ := h
  obtain ⟨b1, _⟩ := manyV_of a1
  obtain ⟨b2, b3⟩ := manyV_of a2
  have f1 := flat_le (f := fun v => leB v 8) (B := 8) x.regs fun v _ => by rw [leB_len]; omega
  have f2 := flat_le (f := laneB) (B := 806) x.lanes fun l hl => lane_len (b3 l hl) h1 h2
  simp only [procSB, List.length_append, leB_len]
  omega

theorem part_len {most locks np : Int} {x : PPart} (h : PartV most locks np x) (h0 : most ≤ 4096) (h1 : 0 ≤ locks ∧ locks ≤ 8) (h2 : np ≤ 32) : (partB x).length ≤ 69911 := by
  obtain ⟨_, ⟨_, a1⟩, _, _, _, a2, _⟩ := h
  have b1 := mostE_le a1
  obtain ⟨b2, b3⟩ := manyV_of (n := locks.toNat) a2
  have f1 := flat_le (f := entryB) (B := 17) x.log fun v _ => by simp [entryB, leB_len]
  have f2 := flat_le (f := lockB) (B := 34) (x.owners.zip x.queues) fun z hz => by
    obtain ⟨_, ⟨_, c1⟩, _⟩ := b3 z hz
    have := mostE_le c1
    have f3 := flat_le (f := fun p => leB p 1) (B := 1) z.2 fun v _ => by rw [leB_len]; omega
    simp only [lockB, List.length_append, leB_len]
    omega
  simp only [partB, List.length_append, leB_len]
  omega

theorem cfg_len {c : PCfg} (hc : Small c) (h : CfgV c) : (cfgB c).length ≤ 98542 := by
  obtain ⟨_, _, ⟨_, b3⟩, _⟩ := h
  have d3 := cntE_zero.1 b3
  have hnl := hc.nl
  have hnp := hc.np
  have f1 := flat_le (f := fun v => leB v 8) (B := 8) c.labels fun v _ => by rw [leB_len]; omega
  have f2 := flat_le (f := fun v => leB v 1) (B := 1) c.table fun v _ => by rw [leB_len]; omega
  have f3 := flat_le (f := procB) (B := 3075) c.procs fun p hp => by
    have hcode := hc.code p hp
    have f4 := flat_le (f := insB) (B := 12) p.code fun v _ => by simp [insB, leB_len]
    simp only [procB, codeB, List.length_append, leB_len]
    omega
  simp only [cfgB, List.length_append, leB_len, List.length_cons, List.length_nil]
  omega

theorem snap_len {c : PCfg} {s : PState} (hc : Small c) (hv : CfgV c) (h : StateV c s) : (snapB c s).length < 1048576 := by
  obtain ⟨_, a1, a2, _⟩ := h
  obtain ⟨b1, b2⟩ := manyV_of a1
  obtain ⟨b3, b4⟩ := manyV_of a2
  have hnl := hc.nl
  have hnp := hc.np
  have f1 := flat_le (f := partB) (B := 69911) s.parts fun x hx => part_len (b2 x hx) hc.log hc.locks (by omega)
  have f2 := flat_le (f := procSB) (B := 7339) s.procs fun x hx => proc_len (b4 x hx) hnl hc.lane (by omega)
  have f3 := cfg_len hc hv
  simp only [snapB, List.length_append, leB_len, List.length_cons, List.length_nil]
  omega

end Lf

