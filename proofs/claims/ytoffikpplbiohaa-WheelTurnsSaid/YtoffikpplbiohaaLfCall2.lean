/-
  By program: a call does what its text tells.
-/
import Derived.Test.YtoffikpplbiohaaLfFun
import Derived.Test.YtoffikpplbiohaaLfAnn
import Derived.Test.YtoffikpplbiohaaLfOk
set_option maxRecDepth 100000
namespace Lf
open Go Go.Proofs

theorem firebreaklaw11_own_eq (l : Sl) (Q : (Hp → Prop)) (h : Hp) : funW ⟨Try.prog, tb, firebreaklaw11_own_p⟩ Try.f47 firebreaklaw11_own_a [(shSl).enc l] (fun _ => Q) h = firebreaklaw11_own_w Try.prog l Q h := by kernel_rfl
theorem firebreaklaw11_own_call {l : Sl} {Q : (Hp → Prop)} {h : Hp} (hv : firebreaklaw11_own_w Try.prog l Q h) : Call0 Try.prog n_firebreaklaw11_own [(shSl).enc l] (Q) h :=
  show CallT Try.prog n_firebreaklaw11_own [(shSl).enc l] (shRes tb []) (fun _ => Q) h from fun_sound (C := ⟨Try.prog, tb, firebreaklaw11_own_p⟩) tb_ok Try.func47 rfl (Eq.mpr (firebreaklaw11_own_eq l Q h) hv)

theorem firebreakref11_Wheel_Next_eq (w : Option Addr) (Q : (Int → (Bool → (Hp → Prop)))) (h : Hp) : funW ⟨Try.prog, tb, firebreakref11_Wheel_Next_p⟩ Try.f48 firebreakref11_Wheel_Next_a [(shPtr).enc w] (fun r => Q r.1 r.2) h = firebreakref11_Wheel_Next_w Try.prog w Q h := by kernel_rfl
theorem firebreakref11_Wheel_Next_call {w : Option Addr} {Q : (Int → (Bool → (Hp → Prop)))} {h : Hp} (hv : firebreakref11_Wheel_Next_w Try.prog w Q h) : Call2 Try.prog n_firebreakref11_Wheel_Next [(shPtr).enc w] (shInt .i64) (shBool) Q h :=
  show CallT Try.prog n_firebreakref11_Wheel_Next [(shPtr).enc w] (shRes tb [2, 4]) (fun r => Q r.1 r.2) h from fun_sound (C := ⟨Try.prog, tb, firebreakref11_Wheel_Next_p⟩) tb_ok Try.func48 rfl (Eq.mpr (firebreakref11_Wheel_Next_eq w Q h) hv)

theorem firebreakref11_Wheel_first_eq (w : Option Addr) (Q : (Int → (Hp → Prop))) (h : Hp) : funW ⟨Try.prog, tb, firebreakref11_Wheel_first_p⟩ Try.f49 firebreakref11_Wheel_first_a [(shPtr).enc w] (Q) h = firebreakref11_Wheel_first_w Try.prog w Q h := by kernel_rfl
theorem firebreakref11_Wheel_first_call {w : Option Addr} {Q : (Int → (Hp → Prop))} {h : Hp} (hv : firebreakref11_Wheel_first_w Try.prog w Q h) : CallT Try.prog n_firebreakref11_Wheel_first [(shPtr).enc w] (shInt .i64) Q h :=
  show CallT Try.prog n_firebreakref11_Wheel_first [(shPtr).enc w] (shRes tb [3]) (Q) h from fun_sound (C := ⟨Try.prog, tb, firebreakref11_Wheel_first_p⟩) tb_ok Try.func49 rfl (Eq.mpr (firebreakref11_Wheel_first_eq w Q h) hv)

theorem slices_BinarySearchFunc_wheel_entry_wheel_entry_wheel_entry_eq (x : Sl) (target : S_wheel_entry) (cmp : Leaf) (Q : (Int → (Bool → (Hp → Prop)))) (h : Hp) : funW ⟨Try.prog, tb, slices_BinarySearchFunc_wheel_entry_wheel_entry_wheel_entry_p⟩ Try.f50 slices_BinarySearchFunc_wheel_entry_wheel_entry_wheel_entry_a [(shSl).enc x, (sh_wheel_entry).enc target, (shLeaf).enc cmp] (fun r => Q r.1 r.2) h = slices_BinarySearchFunc_wheel_entry_wheel_entry_wheel_entry_w Try.prog x target cmp Q h := by kernel_rfl
theorem slices_BinarySearchFunc_wheel_entry_wheel_entry_wheel_entry_call {x : Sl} {target : S_wheel_entry} {cmp : Leaf} {Q : (Int → (Bool → (Hp → Prop)))} {h : Hp} (hv : slices_BinarySearchFunc_wheel_entry_wheel_entry_wheel_entry_w Try.prog x target cmp Q h) : Call2 Try.prog n_slices_BinarySearchFunc_wheel_entry_wheel_entry_wheel_entry [(shSl).enc x, (sh_wheel_entry).enc target, (shLeaf).enc cmp] (shInt .i64) (shBool) Q h :=
  show CallT Try.prog n_slices_BinarySearchFunc_wheel_entry_wheel_entry_wheel_entry [(shSl).enc x, (sh_wheel_entry).enc target, (shLeaf).enc cmp] (shRes tb [3, 4]) (fun r => Q r.1 r.2) h from fun_sound (C := ⟨Try.prog, tb, slices_BinarySearchFunc_wheel_entry_wheel_entry_wheel_entry_p⟩) tb_ok Try.func50 rfl (Eq.mpr (slices_BinarySearchFunc_wheel_entry_wheel_entry_wheel_entry_eq x target cmp Q h) hv)

theorem wheel_order_eq (a : S_wheel_entry) (b : S_wheel_entry) (Q : (Int → (Hp → Prop))) (h : Hp) : funW ⟨Try.prog, tb, wheel_order_p⟩ Try.f51 wheel_order_a [(sh_wheel_entry).enc a, (sh_wheel_entry).enc b] (Q) h = wheel_order_w Try.prog a b Q h := by kernel_rfl
theorem wheel_order_call {a : S_wheel_entry} {b : S_wheel_entry} {Q : (Int → (Hp → Prop))} {h : Hp} (hv : wheel_order_w Try.prog a b Q h) : CallT Try.prog n_wheel_order [(sh_wheel_entry).enc a, (sh_wheel_entry).enc b] (shInt .i64) Q h :=
  show CallT Try.prog n_wheel_order [(sh_wheel_entry).enc a, (sh_wheel_entry).enc b] (shRes tb [3]) (Q) h from fun_sound (C := ⟨Try.prog, tb, wheel_order_p⟩) tb_ok Try.func51 rfl (Eq.mpr (wheel_order_eq a b Q h) hv)

theorem slices_Insert_wheel_entry_wheel_entry_eq (s : Sl) (i : Int) (v : Sl) (Q : (Sl → (Hp → Prop))) (h : Hp) : funW ⟨Try.prog, tb, slices_Insert_wheel_entry_wheel_entry_p⟩ Try.f52 slices_Insert_wheel_entry_wheel_entry_a [(shSl).enc s, (shInt .i64).enc i, (shSl).enc v] (Q) h = slices_Insert_wheel_entry_wheel_entry_w Try.prog s i v Q h := by kernel_rfl
theorem slices_Insert_wheel_entry_wheel_entry_call {s : Sl} {i : Int} {v : Sl} {Q : (Sl → (Hp → Prop))} {h : Hp} (hv : slices_Insert_wheel_entry_wheel_entry_w Try.prog s i v Q h) : CallT Try.prog n_slices_Insert_wheel_entry_wheel_entry [(shSl).enc s, (shInt .i64).enc i, (shSl).enc v] (shSl) Q h :=
  show CallT Try.prog n_slices_Insert_wheel_entry_wheel_entry [(shSl).enc s, (shInt .i64).enc i, (shSl).enc v] (shRes tb [79]) (Q) h from fun_sound (C := ⟨Try.prog, tb, slices_Insert_wheel_entry_wheel_entry_p⟩) tb_ok Try.func52 rfl (Eq.mpr (slices_Insert_wheel_entry_wheel_entry_eq s i v Q h) hv)

theorem slices_Delete_wheel_entry_wheel_entry_eq (s : Sl) (i : Int) (j : Int) (Q : (Sl → (Hp → Prop))) (h : Hp) : funW ⟨Try.prog, tb, slices_Delete_wheel_entry_wheel_entry_p⟩ Try.f53 slices_Delete_wheel_entry_wheel_entry_a [(shSl).enc s, (shInt .i64).enc i, (shInt .i64).enc j] (Q) h = slices_Delete_wheel_entry_wheel_entry_w Try.prog s i j Q h := by kernel_rfl
theorem slices_Delete_wheel_entry_wheel_entry_call {s : Sl} {i : Int} {j : Int} {Q : (Sl → (Hp → Prop))} {h : Hp} (hv : slices_Delete_wheel_entry_wheel_entry_w Try.prog s i j Q h) : CallT Try.prog n_slices_Delete_wheel_entry_wheel_entry [(shSl).enc s, (shInt .i64).enc i, (shInt .i64).enc j] (shSl) Q h :=
  show CallT Try.prog n_slices_Delete_wheel_entry_wheel_entry [(shSl).enc s, (shInt .i64).enc i, (shInt .i64).enc j] (shRes tb [79]) (Q) h from fun_sound (C := ⟨Try.prog, tb, slices_Delete_wheel_entry_wheel_entry_p⟩) tb_ok Try.func53 rfl (Eq.mpr (slices_Delete_wheel_entry_wheel_entry_eq s i j Q h) hv)

theorem firebreakref01_Has_eq (a : Int) (n : Int) (Q : (Bool → (Hp → Prop))) (h : Hp) : funW ⟨Try.prog, tb, firebreakref01_Has_p⟩ Try.f54 firebreakref01_Has_a [(shInt .u64).enc a, (shInt .i64).enc n] (Q) h = firebreakref01_Has_w Try.prog a n Q h := by kernel_rfl
theorem firebreakref01_Has_call {a : Int} {n : Int} {Q : (Bool → (Hp → Prop))} {h : Hp} (hv : firebreakref01_Has_w Try.prog a n Q h) : CallT Try.prog n_firebreakref01_Has [(shInt .u64).enc a, (shInt .i64).enc n] (shBool) Q h :=
  show CallT Try.prog n_firebreakref01_Has [(shInt .u64).enc a, (shInt .i64).enc n] (shRes tb [4]) (Q) h from fun_sound (C := ⟨Try.prog, tb, firebreakref01_Has_p⟩) tb_ok Try.func54 rfl (Eq.mpr (firebreakref01_Has_eq a n Q h) hv)

theorem firebreakref11_Wheel_place_eq (w : Option Addr) (id_ : Int) (Q : (Int → (Hp → Prop))) (h : Hp) : funW ⟨Try.prog, tb, firebreakref11_Wheel_place_p⟩ Try.f55 firebreakref11_Wheel_place_a [(shPtr).enc w, (shInt .i64).enc id_] (Q) h = firebreakref11_Wheel_place_w Try.prog w id_ Q h := by kernel_rfl
theorem firebreakref11_Wheel_place_call {w : Option Addr} {id_ : Int} {Q : (Int → (Hp → Prop))} {h : Hp} (hv : firebreakref11_Wheel_place_w Try.prog w id_ Q h) : CallT Try.prog n_firebreakref11_Wheel_place [(shPtr).enc w, (shInt .i64).enc id_] (shInt .i64) Q h :=
  show CallT Try.prog n_firebreakref11_Wheel_place [(shPtr).enc w, (shInt .i64).enc id_] (shRes tb [3]) (Q) h from fun_sound (C := ⟨Try.prog, tb, firebreakref11_Wheel_place_p⟩) tb_ok Try.func55 rfl (Eq.mpr (firebreakref11_Wheel_place_eq w id_ Q h) hv)

theorem cmp_Or_int_eq (vals : Sl) (Q : (Int → (Hp → Prop))) (h : Hp) : funW ⟨Try.prog, tb, cmp_Or_int_p⟩ Try.f56 cmp_Or_int_a [(shSl).enc vals] (Q) h = cmp_Or_int_w Try.prog vals Q h := by kernel_rfl
theorem cmp_Or_int_call {vals : Sl} {Q : (Int → (Hp → Prop))} {h : Hp} (hv : cmp_Or_int_w Try.prog vals Q h) : CallT Try.prog n_cmp_Or_int [(shSl).enc vals] (shInt .i64) Q h :=
  show CallT Try.prog n_cmp_Or_int [(shSl).enc vals] (shRes tb [3]) (Q) h from fun_sound (C := ⟨Try.prog, tb, cmp_Or_int_p⟩) tb_ok Try.func56 rfl (Eq.mpr (cmp_Or_int_eq vals Q h) hv)

theorem cmp_Compare_int64_eq (x : Int) (y : Int) (Q : (Int → (Hp → Prop))) (h : Hp) : funW ⟨Try.prog, tb, cmp_Compare_int64_p⟩ Try.f57 cmp_Compare_int64_a [(shInt .i64).enc x, (shInt .i64).enc y] (Q) h = cmp_Compare_int64_w Try.prog x y Q h := by kernel_rfl
theorem cmp_Compare_int64_call {x : Int} {y : Int} {Q : (Int → (Hp → Prop))} {h : Hp} (hv : cmp_Compare_int64_w Try.prog x y Q h) : CallT Try.prog n_cmp_Compare_int64 [(shInt .i64).enc x, (shInt .i64).enc y] (shInt .i64) Q h :=
  show CallT Try.prog n_cmp_Compare_int64 [(shInt .i64).enc x, (shInt .i64).enc y] (shRes tb [3]) (Q) h from fun_sound (C := ⟨Try.prog, tb, cmp_Compare_int64_p⟩) tb_ok Try.func57 rfl (Eq.mpr (cmp_Compare_int64_eq x y Q h) hv)

theorem cmp_Compare_int_eq (x : Int) (y : Int) (Q : (Int → (Hp → Prop))) (h : Hp) : funW ⟨Try.prog, tb, cmp_Compare_int_p⟩ Try.f58 cmp_Compare_int_a [(shInt .i64).enc x, (shInt .i64).enc y] (Q) h = cmp_Compare_int_w Try.prog x y Q h := by kernel_rfl
theorem cmp_Compare_int_call {x : Int} {y : Int} {Q : (Int → (Hp → Prop))} {h : Hp} (hv : cmp_Compare_int_w Try.prog x y Q h) : CallT Try.prog n_cmp_Compare_int [(shInt .i64).enc x, (shInt .i64).enc y] (shInt .i64) Q h :=
  show CallT Try.prog n_cmp_Compare_int [(shInt .i64).enc x, (shInt .i64).enc y] (shRes tb [3]) (Q) h from fun_sound (C := ⟨Try.prog, tb, cmp_Compare_int_p⟩) tb_ok Try.func58 rfl (Eq.mpr (cmp_Compare_int_eq x y Q h) hv)

theorem slices_rotateRight_wheel_entry_eq (s : Sl) (r : Int) (Q : (Hp → Prop)) (h : Hp) : funW ⟨Try.prog, tb, slices_rotateRight_wheel_entry_p⟩ Try.f60 slices_rotateRight_wheel_entry_a [(shSl).enc s, (shInt .i64).enc r] (fun _ => Q) h = slices_rotateRight_wheel_entry_w Try.prog s r Q h := by kernel_rfl
theorem slices_rotateRight_wheel_entry_call {s : Sl} {r : Int} {Q : (Hp → Prop)} {h : Hp} (hv : slices_rotateRight_wheel_entry_w Try.prog s r Q h) : Call0 Try.prog n_slices_rotateRight_wheel_entry [(shSl).enc s, (shInt .i64).enc r] (Q) h :=
  show CallT Try.prog n_slices_rotateRight_wheel_entry [(shSl).enc s, (shInt .i64).enc r] (shRes tb []) (fun _ => Q) h from fun_sound (C := ⟨Try.prog, tb, slices_rotateRight_wheel_entry_p⟩) tb_ok Try.func60 rfl (Eq.mpr (slices_rotateRight_wheel_entry_eq s r Q h) hv)

theorem cmp_isNaN_int64_eq (x : Int) (Q : (Bool → (Hp → Prop))) (h : Hp) : funW ⟨Try.prog, tb, cmp_isNaN_int64_p⟩ Try.f61 cmp_isNaN_int64_a [(shInt .i64).enc x] (Q) h = cmp_isNaN_int64_w Try.prog x Q h := by kernel_rfl
theorem cmp_isNaN_int64_call {x : Int} {Q : (Bool → (Hp → Prop))} {h : Hp} (hv : cmp_isNaN_int64_w Try.prog x Q h) : CallT Try.prog n_cmp_isNaN_int64 [(shInt .i64).enc x] (shBool) Q h :=
  show CallT Try.prog n_cmp_isNaN_int64 [(shInt .i64).enc x] (shRes tb [4]) (Q) h from fun_sound (C := ⟨Try.prog, tb, cmp_isNaN_int64_p⟩) tb_ok Try.func61 rfl (Eq.mpr (cmp_isNaN_int64_eq x Q h) hv)

theorem cmp_isNaN_int_eq (x : Int) (Q : (Bool → (Hp → Prop))) (h : Hp) : funW ⟨Try.prog, tb, cmp_isNaN_int_p⟩ Try.f62 cmp_isNaN_int_a [(shInt .i64).enc x] (Q) h = cmp_isNaN_int_w Try.prog x Q h := by kernel_rfl
theorem cmp_isNaN_int_call {x : Int} {Q : (Bool → (Hp → Prop))} {h : Hp} (hv : cmp_isNaN_int_w Try.prog x Q h) : CallT Try.prog n_cmp_isNaN_int [(shInt .i64).enc x] (shBool) Q h :=
  show CallT Try.prog n_cmp_isNaN_int [(shInt .i64).enc x] (shRes tb [4]) (Q) h from fun_sound (C := ⟨Try.prog, tb, cmp_isNaN_int_p⟩) tb_ok Try.func62 rfl (Eq.mpr (cmp_isNaN_int_eq x Q h) hv)

theorem slices_rotateLeft_wheel_entry_eq (s : Sl) (r : Int) (Q : (Hp → Prop)) (h : Hp) : funW ⟨Try.prog, tb, slices_rotateLeft_wheel_entry_p⟩ Try.f63 slices_rotateLeft_wheel_entry_a [(shSl).enc s, (shInt .i64).enc r] (fun _ => Q) h = slices_rotateLeft_wheel_entry_w Try.prog s r Q h := by kernel_rfl
theorem slices_rotateLeft_wheel_entry_call {s : Sl} {r : Int} {Q : (Hp → Prop)} {h : Hp} (hv : slices_rotateLeft_wheel_entry_w Try.prog s r Q h) : Call0 Try.prog n_slices_rotateLeft_wheel_entry [(shSl).enc s, (shInt .i64).enc r] (Q) h :=
  show CallT Try.prog n_slices_rotateLeft_wheel_entry [(shSl).enc s, (shInt .i64).enc r] (shRes tb []) (fun _ => Q) h from fun_sound (C := ⟨Try.prog, tb, slices_rotateLeft_wheel_entry_p⟩) tb_ok Try.func63 rfl (Eq.mpr (slices_rotateLeft_wheel_entry_eq s r Q h) hv)

theorem slices_Reverse_wheel_entry_wheel_entry_eq (s : Sl) (Q : (Hp → Prop)) (h : Hp) : funW ⟨Try.prog, tb, slices_Reverse_wheel_entry_wheel_entry_p⟩ Try.f64 slices_Reverse_wheel_entry_wheel_entry_a [(shSl).enc s] (fun _ => Q) h = slices_Reverse_wheel_entry_wheel_entry_w Try.prog s Q h := by kernel_rfl
theorem slices_Reverse_wheel_entry_wheel_entry_call {s : Sl} {Q : (Hp → Prop)} {h : Hp} (hv : slices_Reverse_wheel_entry_wheel_entry_w Try.prog s Q h) : Call0 Try.prog n_slices_Reverse_wheel_entry_wheel_entry [(shSl).enc s] (Q) h :=
  show CallT Try.prog n_slices_Reverse_wheel_entry_wheel_entry [(shSl).enc s] (shRes tb []) (fun _ => Q) h from fun_sound (C := ⟨Try.prog, tb, slices_Reverse_wheel_entry_wheel_entry_p⟩) tb_ok Try.func64 rfl (Eq.mpr (slices_Reverse_wheel_entry_wheel_entry_eq s Q h) hv)

end Lf
