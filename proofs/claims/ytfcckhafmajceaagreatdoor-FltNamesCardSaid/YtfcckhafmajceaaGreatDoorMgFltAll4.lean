/-
  Part 5 of the texts that the claim leans on.
-/
import GoSem.Core.Float
import GoSem.PinnedTables
import Derived.Test.YtfcckhafmajceaaGreatDoorMgFltAll3
/-
  By program: a call does what its text tells.
-/
set_option maxRecDepth 100000
namespace Lf
open Go Go.Proofs

theorem strconv_ParseFloat_eq (s : ByteArray) (bitSize : Int) (Q : (Nat → (Leaf → (Hp → Prop)))) (h : Hp) : funW ⟨Tryz.prog, tb, strconv_ParseFloat_p⟩ Tryz.f26 strconv_ParseFloat_a [(shStr).enc s, (shInt .i64).enc bitSize] (fun r => Q r.1 r.2) h = strconv_ParseFloat_w Tryz.prog s bitSize Q h := by kernel_rfl
theorem strconv_ParseFloat_call {s : ByteArray} {bitSize : Int} {Q : (Nat → (Leaf → (Hp → Prop)))} {h : Hp} (hv : strconv_ParseFloat_w Tryz.prog s bitSize Q h) : Call2 Tryz.prog n_strconv_ParseFloat [(shStr).enc s, (shInt .i64).enc bitSize] (shFlt .f64) (shLeaf) Q h :=
  show CallT Tryz.prog n_strconv_ParseFloat [(shStr).enc s, (shInt .i64).enc bitSize] (shRes tb [34, 45]) (fun r => Q r.1 r.2) h from fun_sound (C := ⟨Tryz.prog, tb, strconv_ParseFloat_p⟩) tb_ok Tryz.func26 rfl (Eq.mpr (strconv_ParseFloat_eq s bitSize Q h) hv)

theorem strings_Cut_eq (s : ByteArray) (sep : ByteArray) (Q : (ByteArray → (ByteArray → (Bool → (Hp → Prop))))) (h : Hp) : funW ⟨Tryz.prog, tb, strings_Cut_p⟩ Tryz.f29 strings_Cut_a [(shStr).enc s, (shStr).enc sep] (fun r => Q r.1 r.2.1 r.2.2) h = strings_Cut_w Tryz.prog s sep Q h := by kernel_rfl
theorem strings_Cut_call {s : ByteArray} {sep : ByteArray} {Q : (ByteArray → (ByteArray → (Bool → (Hp → Prop))))} {h : Hp} (hv : strings_Cut_w Tryz.prog s sep Q h) : Call3 Tryz.prog n_strings_Cut [(shStr).enc s, (shStr).enc sep] (shStr) (shStr) (shBool) Q h :=
  show CallT Tryz.prog n_strings_Cut [(shStr).enc s, (shStr).enc sep] (shRes tb [9, 9, 4]) (fun r => Q r.1 r.2.1 r.2.2) h from fun_sound (C := ⟨Tryz.prog, tb, strings_Cut_p⟩) tb_ok Tryz.func29 rfl (Eq.mpr (strings_Cut_eq s sep Q h) hv)

theorem strconv_FormatFloat_eq (f : Nat) (fmt : Int) (prec : Int) (bitSize : Int) (Q : (ByteArray → (Hp → Prop))) (h : Hp) : funW ⟨Tryz.prog, tb, strconv_FormatFloat_p⟩ Tryz.f30 strconv_FormatFloat_a [(shFlt .f64).enc f, (shInt .u8).enc fmt, (shInt .i64).enc prec, (shInt .i64).enc bitSize] (Q) h = strconv_FormatFloat_w Tryz.prog f fmt prec bitSize Q h := by kernel_rfl
theorem strconv_FormatFloat_call {f : Nat} {fmt : Int} {prec : Int} {bitSize : Int} {Q : (ByteArray → (Hp → Prop))} {h : Hp} (hv : strconv_FormatFloat_w Tryz.prog f fmt prec bitSize Q h) : CallT Tryz.prog n_strconv_FormatFloat [(shFlt .f64).enc f, (shInt .u8).enc fmt, (shInt .i64).enc prec, (shInt .i64).enc bitSize] (shStr) Q h :=
  show CallT Tryz.prog n_strconv_FormatFloat [(shFlt .f64).enc f, (shInt .u8).enc fmt, (shInt .i64).enc prec, (shInt .i64).enc bitSize] (shRes tb [9]) (Q) h from fun_sound (C := ⟨Tryz.prog, tb, strconv_FormatFloat_p⟩) tb_ok Tryz.func30 rfl (Eq.mpr (strconv_FormatFloat_eq f fmt prec bitSize Q h) hv)

theorem strconv_Atoi_eq (s : ByteArray) (Q : (Int → (Leaf → (Hp → Prop)))) (h : Hp) : funW ⟨Tryz.prog, tb, strconv_Atoi_p⟩ Tryz.f31 strconv_Atoi_a [(shStr).enc s] (fun r => Q r.1 r.2) h = strconv_Atoi_w Tryz.prog s Q h := by kernel_rfl
theorem strconv_Atoi_call {s : ByteArray} {Q : (Int → (Leaf → (Hp → Prop)))} {h : Hp} (hv : strconv_Atoi_w Tryz.prog s Q h) : Call2 Tryz.prog n_strconv_Atoi [(shStr).enc s] (shInt .i64) (shLeaf) Q h :=
  show CallT Tryz.prog n_strconv_Atoi [(shStr).enc s] (shRes tb [3, 45]) (fun r => Q r.1 r.2) h from fun_sound (C := ⟨Tryz.prog, tb, strconv_Atoi_p⟩) tb_ok Tryz.func31 rfl (Eq.mpr (strconv_Atoi_eq s Q h) hv)

theorem strconv_Itoa_eq (i : Int) (Q : (ByteArray → (Hp → Prop))) (h : Hp) : funW ⟨Tryz.prog, tb, strconv_Itoa_p⟩ Tryz.f32 strconv_Itoa_a [(shInt .i64).enc i] (Q) h = strconv_Itoa_w Tryz.prog i Q h := by kernel_rfl
theorem strconv_Itoa_call {i : Int} {Q : (ByteArray → (Hp → Prop))} {h : Hp} (hv : strconv_Itoa_w Tryz.prog i Q h) : CallT Tryz.prog n_strconv_Itoa [(shInt .i64).enc i] (shStr) Q h :=
  show CallT Tryz.prog n_strconv_Itoa [(shInt .i64).enc i] (shRes tb [9]) (Q) h from fun_sound (C := ⟨Tryz.prog, tb, strconv_Itoa_p⟩) tb_ok Tryz.func32 rfl (Eq.mpr (strconv_Itoa_eq i Q h) hv)

theorem firebreakref05_parts_eq (b : Int) (Q : (Int → (Int → (Hp → Prop)))) (h : Hp) : funW ⟨Tryz.prog, tb, firebreakref05_parts_p⟩ Tryz.f34 firebreakref05_parts_a [(shInt .u64).enc b] (fun r => Q r.1 r.2) h = firebreakref05_parts_w Tryz.prog b Q h := by kernel_rfl
theorem firebreakref05_parts_call {b : Int} {Q : (Int → (Int → (Hp → Prop)))} {h : Hp} (hv : firebreakref05_parts_w Tryz.prog b Q h) : Call2 Tryz.prog n_firebreakref05_parts [(shInt .u64).enc b] (shInt .u64) (shInt .i64) Q h :=
  show CallT Tryz.prog n_firebreakref05_parts [(shInt .u64).enc b] (shRes tb [31, 3]) (fun r => Q r.1 r.2) h from fun_sound (C := ⟨Tryz.prog, tb, firebreakref05_parts_p⟩) tb_ok Tryz.func34 rfl (Eq.mpr (firebreakref05_parts_eq b Q h) hv)

theorem firebreakref05_shift_eq (a : Sl) (n : Int) (Q : (Sl → (Hp → Prop))) (h : Hp) : funW ⟨Tryz.prog, tb, firebreakref05_shift_p⟩ Tryz.f35 firebreakref05_shift_a [(shSl).enc a, (shInt .i64).enc n] (Q) h = firebreakref05_shift_w Tryz.prog a n Q h := by kernel_rfl
theorem firebreakref05_shift_call {a : Sl} {n : Int} {Q : (Sl → (Hp → Prop))} {h : Hp} (hv : firebreakref05_shift_w Tryz.prog a n Q h) : CallT Tryz.prog n_firebreakref05_shift [(shSl).enc a, (shInt .i64).enc n] (shSl) Q h :=
  show CallT Tryz.prog n_firebreakref05_shift [(shSl).enc a, (shInt .i64).enc n] (shRes tb [62]) (Q) h from fun_sound (C := ⟨Tryz.prog, tb, firebreakref05_shift_p⟩) tb_ok Tryz.func35 rfl (Eq.mpr (firebreakref05_shift_eq a n Q h) hv)

theorem firebreakref05_of_eq (x : Int) (Q : (Sl → (Hp → Prop))) (h : Hp) : funW ⟨Tryz.prog, tb, firebreakref05_of_p⟩ Tryz.f36 firebreakref05_of_a [(shInt .u64).enc x] (Q) h = firebreakref05_of_w Tryz.prog x Q h := by kernel_rfl
theorem firebreakref05_of_call {x : Int} {Q : (Sl → (Hp → Prop))} {h : Hp} (hv : firebreakref05_of_w Tryz.prog x Q h) : CallT Tryz.prog n_firebreakref05_of [(shInt .u64).enc x] (shSl) Q h :=
  show CallT Tryz.prog n_firebreakref05_of [(shInt .u64).enc x] (shRes tb [62]) (Q) h from fun_sound (C := ⟨Tryz.prog, tb, firebreakref05_of_p⟩) tb_ok Tryz.func36 rfl (Eq.mpr (firebreakref05_of_eq x Q h) hv)

theorem firebreakref05_rounded_eq (neg : Int) (m : Sl) (e : Int) (more : Bool) (Q : (Int → (Hp → Prop))) (h : Hp) : funW ⟨Tryz.prog, tb, firebreakref05_rounded_p⟩ Tryz.f37 firebreakref05_rounded_a [(shInt .u64).enc neg, (shSl).enc m, (shInt .i64).enc e, (shBool).enc more] (Q) h = firebreakref05_rounded_w Tryz.prog neg m e more Q h := by kernel_rfl
theorem firebreakref05_rounded_call {neg : Int} {m : Sl} {e : Int} {more : Bool} {Q : (Int → (Hp → Prop))} {h : Hp} (hv : firebreakref05_rounded_w Tryz.prog neg m e more Q h) : CallT Tryz.prog n_firebreakref05_rounded [(shInt .u64).enc neg, (shSl).enc m, (shInt .i64).enc e, (shBool).enc more] (shInt .u64) Q h :=
  show CallT Tryz.prog n_firebreakref05_rounded [(shInt .u64).enc neg, (shSl).enc m, (shInt .i64).enc e, (shBool).enc more] (shRes tb [31]) (Q) h from fun_sound (C := ⟨Tryz.prog, tb, firebreakref05_rounded_p⟩) tb_ok Tryz.func37 rfl (Eq.mpr (firebreakref05_rounded_eq neg m e more Q h) hv)

theorem firebreakref05_sum_eq (a : Sl) (b : Sl) (Q : (Sl → (Hp → Prop))) (h : Hp) : funW ⟨Tryz.prog, tb, firebreakref05_sum_p⟩ Tryz.f38 firebreakref05_sum_a [(shSl).enc a, (shSl).enc b] (Q) h = firebreakref05_sum_w Tryz.prog a b Q h := by kernel_rfl
theorem firebreakref05_sum_call {a : Sl} {b : Sl} {Q : (Sl → (Hp → Prop))} {h : Hp} (hv : firebreakref05_sum_w Tryz.prog a b Q h) : CallT Tryz.prog n_firebreakref05_sum [(shSl).enc a, (shSl).enc b] (shSl) Q h :=
  show CallT Tryz.prog n_firebreakref05_sum [(shSl).enc a, (shSl).enc b] (shRes tb [62]) (Q) h from fun_sound (C := ⟨Tryz.prog, tb, firebreakref05_sum_p⟩) tb_ok Tryz.func38 rfl (Eq.mpr (firebreakref05_sum_eq a b Q h) hv)

theorem firebreakref05_compare_eq (a : Sl) (b : Sl) (Q : (Int → (Hp → Prop))) (h : Hp) : funW ⟨Tryz.prog, tb, firebreakref05_compare_p⟩ Tryz.f39 firebreakref05_compare_a [(shSl).enc a, (shSl).enc b] (Q) h = firebreakref05_compare_w Tryz.prog a b Q h := by kernel_rfl
theorem firebreakref05_compare_call {a : Sl} {b : Sl} {Q : (Int → (Hp → Prop))} {h : Hp} (hv : firebreakref05_compare_w Tryz.prog a b Q h) : CallT Tryz.prog n_firebreakref05_compare [(shSl).enc a, (shSl).enc b] (shInt .i64) Q h :=
  show CallT Tryz.prog n_firebreakref05_compare [(shSl).enc a, (shSl).enc b] (shRes tb [3]) (Q) h from fun_sound (C := ⟨Tryz.prog, tb, firebreakref05_compare_p⟩) tb_ok Tryz.func39 rfl (Eq.mpr (firebreakref05_compare_eq a b Q h) hv)

theorem firebreakref05_less_eq (a : Sl) (b : Sl) (Q : (Sl → (Hp → Prop))) (h : Hp) : funW ⟨Tryz.prog, tb, firebreakref05_less_p⟩ Tryz.f40 firebreakref05_less_a [(shSl).enc a, (shSl).enc b] (Q) h = firebreakref05_less_w Tryz.prog a b Q h := by kernel_rfl
theorem firebreakref05_less_call {a : Sl} {b : Sl} {Q : (Sl → (Hp → Prop))} {h : Hp} (hv : firebreakref05_less_w Tryz.prog a b Q h) : CallT Tryz.prog n_firebreakref05_less [(shSl).enc a, (shSl).enc b] (shSl) Q h :=
  show CallT Tryz.prog n_firebreakref05_less [(shSl).enc a, (shSl).enc b] (shRes tb [62]) (Q) h from fun_sound (C := ⟨Tryz.prog, tb, firebreakref05_less_p⟩) tb_ok Tryz.func40 rfl (Eq.mpr (firebreakref05_less_eq a b Q h) hv)

theorem firebreakref05_product_eq (a : Int) (b : Int) (Q : (Sl → (Hp → Prop))) (h : Hp) : funW ⟨Tryz.prog, tb, firebreakref05_product_p⟩ Tryz.f41 firebreakref05_product_a [(shInt .u64).enc a, (shInt .u64).enc b] (Q) h = firebreakref05_product_w Tryz.prog a b Q h := by kernel_rfl
theorem firebreakref05_product_call {a : Int} {b : Int} {Q : (Sl → (Hp → Prop))} {h : Hp} (hv : firebreakref05_product_w Tryz.prog a b Q h) : CallT Tryz.prog n_firebreakref05_product [(shInt .u64).enc a, (shInt .u64).enc b] (shSl) Q h :=
  show CallT Tryz.prog n_firebreakref05_product [(shInt .u64).enc a, (shInt .u64).enc b] (shRes tb [62]) (Q) h from fun_sound (C := ⟨Tryz.prog, tb, firebreakref05_product_p⟩) tb_ok Tryz.func41 rfl (Eq.mpr (firebreakref05_product_eq a b Q h) hv)

theorem firebreakref05_times_eq (a : Sl) (m : Int) (Q : (Sl → (Hp → Prop))) (h : Hp) : funW ⟨Tryz.prog, tb, firebreakref05_times_p⟩ Tryz.f42 firebreakref05_times_a [(shSl).enc a, (shInt .u32).enc m] (Q) h = firebreakref05_times_w Tryz.prog a m Q h := by kernel_rfl
theorem firebreakref05_times_call {a : Sl} {m : Int} {Q : (Sl → (Hp → Prop))} {h : Hp} (hv : firebreakref05_times_w Tryz.prog a m Q h) : CallT Tryz.prog n_firebreakref05_times [(shSl).enc a, (shInt .u32).enc m] (shSl) Q h :=
  show CallT Tryz.prog n_firebreakref05_times [(shSl).enc a, (shInt .u32).enc m] (shRes tb [62]) (Q) h from fun_sound (C := ⟨Tryz.prog, tb, firebreakref05_times_p⟩) tb_ok Tryz.func42 rfl (Eq.mpr (firebreakref05_times_eq a m Q h) hv)

theorem internal_stringslite_CutPrefix_eq (s : ByteArray) (prefix_ : ByteArray) (Q : (ByteArray → (Bool → (Hp → Prop)))) (h : Hp) : funW ⟨Tryz.prog, tb, internal_stringslite_CutPrefix_p⟩ Tryz.f43 internal_stringslite_CutPrefix_a [(shStr).enc s, (shStr).enc prefix_] (fun r => Q r.1 r.2) h = internal_stringslite_CutPrefix_w Tryz.prog s prefix_ Q h := by kernel_rfl
theorem internal_stringslite_CutPrefix_call {s : ByteArray} {prefix_ : ByteArray} {Q : (ByteArray → (Bool → (Hp → Prop)))} {h : Hp} (hv : internal_stringslite_CutPrefix_w Tryz.prog s prefix_ Q h) : Call2 Tryz.prog n_internal_stringslite_CutPrefix [(shStr).enc s, (shStr).enc prefix_] (shStr) (shBool) Q h :=
  show CallT Tryz.prog n_internal_stringslite_CutPrefix [(shStr).enc s, (shStr).enc prefix_] (shRes tb [9, 4]) (fun r => Q r.1 r.2) h from fun_sound (C := ⟨Tryz.prog, tb, internal_stringslite_CutPrefix_p⟩) tb_ok Tryz.func43 rfl (Eq.mpr (internal_stringslite_CutPrefix_eq s prefix_ Q h) hv)

theorem internal_strconv_ParseFloat_eq (s : ByteArray) (bitSize : Int) (Q : (Nat → (Leaf → (Hp → Prop)))) (h : Hp) : funW ⟨Tryz.prog, tb, internal_strconv_ParseFloat_p⟩ Tryz.f46 internal_strconv_ParseFloat_a [(shStr).enc s, (shInt .i64).enc bitSize] (fun r => Q r.1 r.2) h = internal_strconv_ParseFloat_w Tryz.prog s bitSize Q h := by kernel_rfl
theorem internal_strconv_ParseFloat_call {s : ByteArray} {bitSize : Int} {Q : (Nat → (Leaf → (Hp → Prop)))} {h : Hp} (hv : internal_strconv_ParseFloat_w Tryz.prog s bitSize Q h) : Call2 Tryz.prog n_internal_strconv_ParseFloat [(shStr).enc s, (shInt .i64).enc bitSize] (shFlt .f64) (shLeaf) Q h :=
  show CallT Tryz.prog n_internal_strconv_ParseFloat [(shStr).enc s, (shInt .i64).enc bitSize] (shRes tb [34, 45]) (fun r => Q r.1 r.2) h from fun_sound (C := ⟨Tryz.prog, tb, internal_strconv_ParseFloat_p⟩) tb_ok Tryz.func46 rfl (Eq.mpr (internal_strconv_ParseFloat_eq s bitSize Q h) hv)

theorem internal_stringslite_Cut_eq (s : ByteArray) (sep : ByteArray) (Q : (ByteArray → (ByteArray → (Bool → (Hp → Prop))))) (h : Hp) : funW ⟨Tryz.prog, tb, internal_stringslite_Cut_p⟩ Tryz.f49 internal_stringslite_Cut_a [(shStr).enc s, (shStr).enc sep] (fun r => Q r.1 r.2.1 r.2.2) h = internal_stringslite_Cut_w Tryz.prog s sep Q h := by kernel_rfl
theorem internal_stringslite_Cut_call {s : ByteArray} {sep : ByteArray} {Q : (ByteArray → (ByteArray → (Bool → (Hp → Prop))))} {h : Hp} (hv : internal_stringslite_Cut_w Tryz.prog s sep Q h) : Call3 Tryz.prog n_internal_stringslite_Cut [(shStr).enc s, (shStr).enc sep] (shStr) (shStr) (shBool) Q h :=
  show CallT Tryz.prog n_internal_stringslite_Cut [(shStr).enc s, (shStr).enc sep] (shRes tb [9, 9, 4]) (fun r => Q r.1 r.2.1 r.2.2) h from fun_sound (C := ⟨Tryz.prog, tb, internal_stringslite_Cut_p⟩) tb_ok Tryz.func49 rfl (Eq.mpr (internal_stringslite_Cut_eq s sep Q h) hv)

theorem internal_strconv_FormatFloat_eq (f : Nat) (fmt : Int) (prec : Int) (bitSize : Int) (Q : (ByteArray → (Hp → Prop))) (h : Hp) : funW ⟨Tryz.prog, tb, internal_strconv_FormatFloat_p⟩ Tryz.f50 internal_strconv_FormatFloat_a [(shFlt .f64).enc f, (shInt .u8).enc fmt, (shInt .i64).enc prec, (shInt .i64).enc bitSize] (Q) h = internal_strconv_FormatFloat_w Tryz.prog f fmt prec bitSize Q h := by kernel_rfl
theorem internal_strconv_FormatFloat_call {f : Nat} {fmt : Int} {prec : Int} {bitSize : Int} {Q : (ByteArray → (Hp → Prop))} {h : Hp} (hv : internal_strconv_FormatFloat_w Tryz.prog f fmt prec bitSize Q h) : CallT Tryz.prog n_internal_strconv_FormatFloat [(shFlt .f64).enc f, (shInt .u8).enc fmt, (shInt .i64).enc prec, (shInt .i64).enc bitSize] (shStr) Q h :=
  show CallT Tryz.prog n_internal_strconv_FormatFloat [(shFlt .f64).enc f, (shInt .u8).enc fmt, (shInt .i64).enc prec, (shInt .i64).enc bitSize] (shRes tb [9]) (Q) h from fun_sound (C := ⟨Tryz.prog, tb, internal_strconv_FormatFloat_p⟩) tb_ok Tryz.func50 rfl (Eq.mpr (internal_strconv_FormatFloat_eq f fmt prec bitSize Q h) hv)

theorem internal_strconv_Atoi_eq (s : ByteArray) (Q : (Int → (Leaf → (Hp → Prop)))) (h : Hp) : funW ⟨Tryz.prog, tb, internal_strconv_Atoi_p⟩ Tryz.f51 internal_strconv_Atoi_a [(shStr).enc s] (fun r => Q r.1 r.2) h = internal_strconv_Atoi_w Tryz.prog s Q h := by kernel_rfl
theorem internal_strconv_Atoi_call {s : ByteArray} {Q : (Int → (Leaf → (Hp → Prop)))} {h : Hp} (hv : internal_strconv_Atoi_w Tryz.prog s Q h) : Call2 Tryz.prog n_internal_strconv_Atoi [(shStr).enc s] (shInt .i64) (shLeaf) Q h :=
  show CallT Tryz.prog n_internal_strconv_Atoi [(shStr).enc s] (shRes tb [3, 45]) (fun r => Q r.1 r.2) h from fun_sound (C := ⟨Tryz.prog, tb, internal_strconv_Atoi_p⟩) tb_ok Tryz.func51 rfl (Eq.mpr (internal_strconv_Atoi_eq s Q h) hv)

theorem internal_strconv_Itoa_eq (i : Int) (Q : (ByteArray → (Hp → Prop))) (h : Hp) : funW ⟨Tryz.prog, tb, internal_strconv_Itoa_p⟩ Tryz.f52 internal_strconv_Itoa_a [(shInt .i64).enc i] (Q) h = internal_strconv_Itoa_w Tryz.prog i Q h := by kernel_rfl
theorem internal_strconv_Itoa_call {i : Int} {Q : (ByteArray → (Hp → Prop))} {h : Hp} (hv : internal_strconv_Itoa_w Tryz.prog i Q h) : CallT Tryz.prog n_internal_strconv_Itoa [(shInt .i64).enc i] (shStr) Q h :=
  show CallT Tryz.prog n_internal_strconv_Itoa [(shInt .i64).enc i] (shRes tb [9]) (Q) h from fun_sound (C := ⟨Tryz.prog, tb, internal_strconv_Itoa_p⟩) tb_ok Tryz.func52 rfl (Eq.mpr (internal_strconv_Itoa_eq i Q h) hv)

theorem firebreakref05_trim_eq (a : Sl) (Q : (Sl → (Hp → Prop))) (h : Hp) : funW ⟨Tryz.prog, tb, firebreakref05_trim_p⟩ Tryz.f53 firebreakref05_trim_a [(shSl).enc a] (Q) h = firebreakref05_trim_w Tryz.prog a Q h := by kernel_rfl
theorem firebreakref05_trim_call {a : Sl} {Q : (Sl → (Hp → Prop))} {h : Hp} (hv : firebreakref05_trim_w Tryz.prog a Q h) : CallT Tryz.prog n_firebreakref05_trim [(shSl).enc a] (shSl) Q h :=
  show CallT Tryz.prog n_firebreakref05_trim [(shSl).enc a] (shRes tb [62]) (Q) h from fun_sound (C := ⟨Tryz.prog, tb, firebreakref05_trim_p⟩) tb_ok Tryz.func53 rfl (Eq.mpr (firebreakref05_trim_eq a Q h) hv)

theorem firebreakref05_bits_eq (m : Sl) (Q : (Int → (Hp → Prop))) (h : Hp) : funW ⟨Tryz.prog, tb, firebreakref05_bits_p⟩ Tryz.f54 firebreakref05_bits_a [(shSl).enc m] (Q) h = firebreakref05_bits_w Tryz.prog m Q h := by kernel_rfl
theorem firebreakref05_bits_call {m : Sl} {Q : (Int → (Hp → Prop))} {h : Hp} (hv : firebreakref05_bits_w Tryz.prog m Q h) : CallT Tryz.prog n_firebreakref05_bits [(shSl).enc m] (shInt .i64) Q h :=
  show CallT Tryz.prog n_firebreakref05_bits [(shSl).enc m] (shRes tb [3]) (Q) h from fun_sound (C := ⟨Tryz.prog, tb, firebreakref05_bits_p⟩) tb_ok Tryz.func54 rfl (Eq.mpr (firebreakref05_bits_eq m Q h) hv)

end Lf

/-
  By program: a call does what its text tells.
-/
set_option maxRecDepth 100000
namespace Lf
open Go Go.Proofs

theorem firebreakref05_small_eq (m : Sl) (Q : (Int → (Hp → Prop))) (h : Hp) : funW ⟨Tryz.prog, tb, firebreakref05_small_p⟩ Tryz.f55 firebreakref05_small_a [(shSl).enc m] (Q) h = firebreakref05_small_w Tryz.prog m Q h := by kernel_rfl
theorem firebreakref05_small_call {m : Sl} {Q : (Int → (Hp → Prop))} {h : Hp} (hv : firebreakref05_small_w Tryz.prog m Q h) : CallT Tryz.prog n_firebreakref05_small [(shSl).enc m] (shInt .u64) Q h :=
  show CallT Tryz.prog n_firebreakref05_small [(shSl).enc m] (shRes tb [31]) (Q) h from fun_sound (C := ⟨Tryz.prog, tb, firebreakref05_small_p⟩) tb_ok Tryz.func55 rfl (Eq.mpr (firebreakref05_small_eq m Q h) hv)

theorem firebreakref05_low_eq (m : Sl) (n : Int) (Q : (Sl → (Sl → (Hp → Prop)))) (h : Hp) : funW ⟨Tryz.prog, tb, firebreakref05_low_p⟩ Tryz.f56 firebreakref05_low_a [(shSl).enc m, (shInt .i64).enc n] (fun r => Q r.1 r.2) h = firebreakref05_low_w Tryz.prog m n Q h := by kernel_rfl
theorem firebreakref05_low_call {m : Sl} {n : Int} {Q : (Sl → (Sl → (Hp → Prop)))} {h : Hp} (hv : firebreakref05_low_w Tryz.prog m n Q h) : Call2 Tryz.prog n_firebreakref05_low [(shSl).enc m, (shInt .i64).enc n] (shSl) (shSl) Q h :=
  show CallT Tryz.prog n_firebreakref05_low [(shSl).enc m, (shInt .i64).enc n] (shRes tb [62, 62]) (fun r => Q r.1 r.2) h from fun_sound (C := ⟨Tryz.prog, tb, firebreakref05_low_p⟩) tb_ok Tryz.func56 rfl (Eq.mpr (firebreakref05_low_eq m n Q h) hv)

theorem internal_stringslite_HasPrefix_eq (s : ByteArray) (prefix_ : ByteArray) (Q : (Bool → (Hp → Prop))) (h : Hp) : funW ⟨Tryz.prog, tb, internal_stringslite_HasPrefix_p⟩ Tryz.f57 internal_stringslite_HasPrefix_a [(shStr).enc s, (shStr).enc prefix_] (Q) h = internal_stringslite_HasPrefix_w Tryz.prog s prefix_ Q h := by kernel_rfl
theorem internal_stringslite_HasPrefix_call {s : ByteArray} {prefix_ : ByteArray} {Q : (Bool → (Hp → Prop))} {h : Hp} (hv : internal_stringslite_HasPrefix_w Tryz.prog s prefix_ Q h) : CallT Tryz.prog n_internal_stringslite_HasPrefix [(shStr).enc s, (shStr).enc prefix_] (shBool) Q h :=
  show CallT Tryz.prog n_internal_stringslite_HasPrefix [(shStr).enc s, (shStr).enc prefix_] (shRes tb [4]) (Q) h from fun_sound (C := ⟨Tryz.prog, tb, internal_stringslite_HasPrefix_p⟩) tb_ok Tryz.func57 rfl (Eq.mpr (internal_stringslite_HasPrefix_eq s prefix_ Q h) hv)

theorem internal_strconv_lower_eq (c : Int) (Q : (Int → (Hp → Prop))) (h : Hp) : funW ⟨Tryz.prog, tb, internal_strconv_lower_p⟩ Tryz.f58 internal_strconv_lower_a [(shInt .u8).enc c] (Q) h = internal_strconv_lower_w Tryz.prog c Q h := by kernel_rfl
theorem internal_strconv_lower_call {c : Int} {Q : (Int → (Hp → Prop))} {h : Hp} (hv : internal_strconv_lower_w Tryz.prog c Q h) : CallT Tryz.prog n_internal_strconv_lower [(shInt .u8).enc c] (shInt .u8) Q h :=
  show CallT Tryz.prog n_internal_strconv_lower [(shInt .u8).enc c] (shRes tb [5]) (Q) h from fun_sound (C := ⟨Tryz.prog, tb, internal_strconv_lower_p⟩) tb_ok Tryz.func58 rfl (Eq.mpr (internal_strconv_lower_eq c Q h) hv)

theorem internal_strconv_parseFloatPrefix_eq (s : ByteArray) (bitSize : Int) (Q : (Nat → (Int → (Leaf → (Hp → Prop))))) (h : Hp) : funW ⟨Tryz.prog, tb, internal_strconv_parseFloatPrefix_p⟩ Tryz.f64 internal_strconv_parseFloatPrefix_a [(shStr).enc s, (shInt .i64).enc bitSize] (fun r => Q r.1 r.2.1 r.2.2) h = internal_strconv_parseFloatPrefix_w Tryz.prog s bitSize Q h := by kernel_rfl
theorem internal_strconv_parseFloatPrefix_call {s : ByteArray} {bitSize : Int} {Q : (Nat → (Int → (Leaf → (Hp → Prop))))} {h : Hp} (hv : internal_strconv_parseFloatPrefix_w Tryz.prog s bitSize Q h) : Call3 Tryz.prog n_internal_strconv_parseFloatPrefix [(shStr).enc s, (shInt .i64).enc bitSize] (shFlt .f64) (shInt .i64) (shLeaf) Q h :=
  show CallT Tryz.prog n_internal_strconv_parseFloatPrefix [(shStr).enc s, (shInt .i64).enc bitSize] (shRes tb [34, 3, 45]) (fun r => Q r.1 r.2.1 r.2.2) h from fun_sound (C := ⟨Tryz.prog, tb, internal_strconv_parseFloatPrefix_p⟩) tb_ok Tryz.func64 rfl (Eq.mpr (internal_strconv_parseFloatPrefix_eq s bitSize Q h) hv)

theorem internal_stringslite_Index_eq (s : ByteArray) (substr : ByteArray) (Q : (Int → (Hp → Prop))) (h : Hp) : funW ⟨Tryz.prog, tb, internal_stringslite_Index_p⟩ Tryz.f72 internal_stringslite_Index_a [(shStr).enc s, (shStr).enc substr] (Q) h = internal_stringslite_Index_w Tryz.prog s substr Q h := by kernel_rfl
theorem internal_stringslite_Index_call {s : ByteArray} {substr : ByteArray} {Q : (Int → (Hp → Prop))} {h : Hp} (hv : internal_stringslite_Index_w Tryz.prog s substr Q h) : CallT Tryz.prog n_internal_stringslite_Index [(shStr).enc s, (shStr).enc substr] (shInt .i64) Q h :=
  show CallT Tryz.prog n_internal_stringslite_Index [(shStr).enc s, (shStr).enc substr] (shRes tb [3]) (Q) h from fun_sound (C := ⟨Tryz.prog, tb, internal_stringslite_Index_p⟩) tb_ok Tryz.func72 rfl (Eq.mpr (internal_stringslite_Index_eq s substr Q h) hv)

theorem internal_strconv_ftoa64_eq (dst : Sl) (val : Nat) (fmt : Int) (prec : Int) (Q : (Sl → (Hp → Prop))) (h : Hp) : funW ⟨Tryz.prog, tb, internal_strconv_ftoa64_p⟩ Tryz.f74 internal_strconv_ftoa64_a [(shSl).enc dst, (shFlt .f64).enc val, (shInt .u8).enc fmt, (shInt .i64).enc prec] (Q) h = internal_strconv_ftoa64_w Tryz.prog dst val fmt prec Q h := by kernel_rfl
theorem internal_strconv_ftoa64_call {dst : Sl} {val : Nat} {fmt : Int} {prec : Int} {Q : (Sl → (Hp → Prop))} {h : Hp} (hv : internal_strconv_ftoa64_w Tryz.prog dst val fmt prec Q h) : CallT Tryz.prog n_internal_strconv_ftoa64 [(shSl).enc dst, (shFlt .f64).enc val, (shInt .u8).enc fmt, (shInt .i64).enc prec] (shSl) Q h :=
  show CallT Tryz.prog n_internal_strconv_ftoa64 [(shSl).enc dst, (shFlt .f64).enc val, (shInt .u8).enc fmt, (shInt .i64).enc prec] (shRes tb [83]) (Q) h from fun_sound (C := ⟨Tryz.prog, tb, internal_strconv_ftoa64_p⟩) tb_ok Tryz.func74 rfl (Eq.mpr (internal_strconv_ftoa64_eq dst val fmt prec Q h) hv)

theorem internal_strconv_FormatInt_eq (i : Int) (base : Int) (Q : (ByteArray → (Hp → Prop))) (h : Hp) : funW ⟨Tryz.prog, tb, internal_strconv_FormatInt_p⟩ Tryz.f76 internal_strconv_FormatInt_a [(shInt .i64).enc i, (shInt .i64).enc base] (Q) h = internal_strconv_FormatInt_w Tryz.prog i base Q h := by kernel_rfl
theorem internal_strconv_FormatInt_call {i : Int} {base : Int} {Q : (ByteArray → (Hp → Prop))} {h : Hp} (hv : internal_strconv_FormatInt_w Tryz.prog i base Q h) : CallT Tryz.prog n_internal_strconv_FormatInt [(shInt .i64).enc i, (shInt .i64).enc base] (shStr) Q h :=
  show CallT Tryz.prog n_internal_strconv_FormatInt [(shInt .i64).enc i, (shInt .i64).enc base] (shRes tb [9]) (Q) h from fun_sound (C := ⟨Tryz.prog, tb, internal_strconv_FormatInt_p⟩) tb_ok Tryz.func76 rfl (Eq.mpr (internal_strconv_FormatInt_eq i base Q h) hv)

theorem internal_strconv_atof64_eq (s : ByteArray) (Q : (Nat → (Int → (Leaf → (Hp → Prop))))) (h : Hp) : funW ⟨Tryz.prog, tb, internal_strconv_atof64_p⟩ Tryz.f80 internal_strconv_atof64_a [(shStr).enc s] (fun r => Q r.1 r.2.1 r.2.2) h = internal_strconv_atof64_w Tryz.prog s Q h := by kernel_rfl
theorem internal_strconv_atof64_call {s : ByteArray} {Q : (Nat → (Int → (Leaf → (Hp → Prop))))} {h : Hp} (hv : internal_strconv_atof64_w Tryz.prog s Q h) : Call3 Tryz.prog n_internal_strconv_atof64 [(shStr).enc s] (shFlt .f64) (shInt .i64) (shLeaf) Q h :=
  show CallT Tryz.prog n_internal_strconv_atof64 [(shStr).enc s] (shRes tb [34, 3, 45]) (fun r => Q r.1 r.2.1 r.2.2) h from fun_sound (C := ⟨Tryz.prog, tb, internal_strconv_atof64_p⟩) tb_ok Tryz.func80 rfl (Eq.mpr (internal_strconv_atof64_eq s Q h) hv)

theorem internal_strconv_small_eq (i : Int) (Q : (ByteArray → (Hp → Prop))) (h : Hp) : funW ⟨Tryz.prog, tb, internal_strconv_small_p⟩ Tryz.f81 internal_strconv_small_a [(shInt .i64).enc i] (Q) h = internal_strconv_small_w Tryz.prog i Q h := by kernel_rfl
theorem internal_strconv_small_call {i : Int} {Q : (ByteArray → (Hp → Prop))} {h : Hp} (hv : internal_strconv_small_w Tryz.prog i Q h) : CallT Tryz.prog n_internal_strconv_small [(shInt .i64).enc i] (shStr) Q h :=
  show CallT Tryz.prog n_internal_strconv_small [(shInt .i64).enc i] (shRes tb [9]) (Q) h from fun_sound (C := ⟨Tryz.prog, tb, internal_strconv_small_p⟩) tb_ok Tryz.func81 rfl (Eq.mpr (internal_strconv_small_eq i Q h) hv)

theorem internal_strconv_numDigits_eq (d : Int) (Q : (Int → (Hp → Prop))) (h : Hp) : funW ⟨Tryz.prog, tb, internal_strconv_numDigits_p⟩ Tryz.f82 internal_strconv_numDigits_a [(shInt .u64).enc d] (Q) h = internal_strconv_numDigits_w Tryz.prog d Q h := by kernel_rfl
theorem internal_strconv_numDigits_call {d : Int} {Q : (Int → (Hp → Prop))} {h : Hp} (hv : internal_strconv_numDigits_w Tryz.prog d Q h) : CallT Tryz.prog n_internal_strconv_numDigits [(shInt .u64).enc d] (shInt .i64) Q h :=
  show CallT Tryz.prog n_internal_strconv_numDigits [(shInt .u64).enc d] (shRes tb [3]) (Q) h from fun_sound (C := ⟨Tryz.prog, tb, internal_strconv_numDigits_p⟩) tb_ok Tryz.func82 rfl (Eq.mpr (internal_strconv_numDigits_eq d Q h) hv)

theorem internal_strconv_formatBase10_eq (a : Sl) (u : Int) (Q : (Hp → Prop)) (h : Hp) : funW ⟨Tryz.prog, tb, internal_strconv_formatBase10_p⟩ Tryz.f83 internal_strconv_formatBase10_a [(shSl).enc a, (shInt .u64).enc u] (fun _ => Q) h = internal_strconv_formatBase10_w Tryz.prog a u Q h := by kernel_rfl
theorem internal_strconv_formatBase10_call {a : Sl} {u : Int} {Q : (Hp → Prop)} {h : Hp} (hv : internal_strconv_formatBase10_w Tryz.prog a u Q h) : Call0 Tryz.prog n_internal_strconv_formatBase10 [(shSl).enc a, (shInt .u64).enc u] (Q) h :=
  show CallT Tryz.prog n_internal_strconv_formatBase10 [(shSl).enc a, (shInt .u64).enc u] (shRes tb []) (fun _ => Q) h from fun_sound (C := ⟨Tryz.prog, tb, internal_strconv_formatBase10_p⟩) tb_ok Tryz.func83 rfl (Eq.mpr (internal_strconv_formatBase10_eq a u Q h) hv)

theorem math_bits_Mul64_eq (x : Int) (y : Int) (Q : (Int → (Int → (Hp → Prop)))) (h : Hp) : funW ⟨Tryz.prog, tb, math_bits_Mul64_p⟩ Tryz.f86 math_bits_Mul64_a [(shInt .u64).enc x, (shInt .u64).enc y] (fun r => Q r.1 r.2) h = math_bits_Mul64_w Tryz.prog x y Q h := by kernel_rfl
theorem math_bits_Mul64_call {x : Int} {y : Int} {Q : (Int → (Int → (Hp → Prop)))} {h : Hp} (hv : math_bits_Mul64_w Tryz.prog x y Q h) : Call2 Tryz.prog n_math_bits_Mul64 [(shInt .u64).enc x, (shInt .u64).enc y] (shInt .u64) (shInt .u64) Q h :=
  show CallT Tryz.prog n_math_bits_Mul64 [(shInt .u64).enc x, (shInt .u64).enc y] (shRes tb [31, 31]) (fun r => Q r.1 r.2) h from fun_sound (C := ⟨Tryz.prog, tb, math_bits_Mul64_p⟩) tb_ok Tryz.func86 rfl (Eq.mpr (math_bits_Mul64_eq x y Q h) hv)

theorem internal_stringslite_IndexByte_eq (s : ByteArray) (c : Int) (Q : (Int → (Hp → Prop))) (h : Hp) : funW ⟨Tryz.prog, tb, internal_stringslite_IndexByte_p⟩ Tryz.f89 internal_stringslite_IndexByte_a [(shStr).enc s, (shInt .u8).enc c] (Q) h = internal_stringslite_IndexByte_w Tryz.prog s c Q h := by kernel_rfl
theorem internal_stringslite_IndexByte_call {s : ByteArray} {c : Int} {Q : (Int → (Hp → Prop))} {h : Hp} (hv : internal_stringslite_IndexByte_w Tryz.prog s c Q h) : CallT Tryz.prog n_internal_stringslite_IndexByte [(shStr).enc s, (shInt .u8).enc c] (shInt .i64) Q h :=
  show CallT Tryz.prog n_internal_stringslite_IndexByte [(shStr).enc s, (shInt .u8).enc c] (shRes tb [3]) (Q) h from fun_sound (C := ⟨Tryz.prog, tb, internal_stringslite_IndexByte_p⟩) tb_ok Tryz.func89 rfl (Eq.mpr (internal_stringslite_IndexByte_eq s c Q h) hv)

theorem internal_strconv_fmtEFG_eq (dst : Sl) (neg : Bool) (s : Sl) (dp : Int) (nd : Int) (prec : Int) (fmt : Int) (shortest : Bool) (Q : (Sl → (Hp → Prop))) (h : Hp) : funW ⟨Tryz.prog, tb, internal_strconv_fmtEFG_p⟩ Tryz.f97 internal_strconv_fmtEFG_a [(shSl).enc dst, (shBool).enc neg, (shSl).enc s, (shInt .i64).enc dp, (shInt .i64).enc nd, (shInt .i64).enc prec, (shInt .u8).enc fmt, (shBool).enc shortest] (Q) h = internal_strconv_fmtEFG_w Tryz.prog dst neg s dp nd prec fmt shortest Q h := by kernel_rfl
theorem internal_strconv_fmtEFG_call {dst : Sl} {neg : Bool} {s : Sl} {dp : Int} {nd : Int} {prec : Int} {fmt : Int} {shortest : Bool} {Q : (Sl → (Hp → Prop))} {h : Hp} (hv : internal_strconv_fmtEFG_w Tryz.prog dst neg s dp nd prec fmt shortest Q h) : CallT Tryz.prog n_internal_strconv_fmtEFG [(shSl).enc dst, (shBool).enc neg, (shSl).enc s, (shInt .i64).enc dp, (shInt .i64).enc nd, (shInt .i64).enc prec, (shInt .u8).enc fmt, (shBool).enc shortest] (shSl) Q h :=
  show CallT Tryz.prog n_internal_strconv_fmtEFG [(shSl).enc dst, (shBool).enc neg, (shSl).enc s, (shInt .i64).enc dp, (shInt .i64).enc nd, (shInt .i64).enc prec, (shInt .u8).enc fmt, (shBool).enc shortest] (shRes tb [83]) (Q) h from fun_sound (C := ⟨Tryz.prog, tb, internal_strconv_fmtEFG_p⟩) tb_ok Tryz.func97 rfl (Eq.mpr (internal_strconv_fmtEFG_eq dst neg s dp nd prec fmt shortest Q h) hv)

theorem math_bits_Len64_eq (x : Int) (Q : (Int → (Hp → Prop))) (h : Hp) : funW ⟨Tryz.prog, tb, math_bits_Len64_p⟩ Tryz.f98 math_bits_Len64_a [(shInt .u64).enc x] (Q) h = math_bits_Len64_w Tryz.prog x Q h := by kernel_rfl
theorem math_bits_Len64_call {x : Int} {Q : (Int → (Hp → Prop))} {h : Hp} (hv : math_bits_Len64_w Tryz.prog x Q h) : CallT Tryz.prog n_math_bits_Len64 [(shInt .u64).enc x] (shInt .i64) Q h :=
  show CallT Tryz.prog n_math_bits_Len64 [(shInt .u64).enc x] (shRes tb [3]) (Q) h from fun_sound (C := ⟨Tryz.prog, tb, math_bits_Len64_p⟩) tb_ok Tryz.func98 rfl (Eq.mpr (math_bits_Len64_eq x Q h) hv)

end Lf

/-
  By program: a call does what its text tells.
-/
set_option maxRecDepth 100000
namespace Lf
open Go Go.Proofs

theorem internal_strconv_setDigits_eq (s : Sl) (d : Int) (p : Int) (nd : Int) (Q : (Int → (Int → (Hp → Prop)))) (h : Hp) : funW ⟨Tryz.prog, tb, internal_strconv_setDigits_p⟩ Tryz.f100 internal_strconv_setDigits_a [(shSl).enc s, (shInt .u64).enc d, (shInt .i64).enc p, (shInt .i64).enc nd] (fun r => Q r.1 r.2) h = internal_strconv_setDigits_w Tryz.prog s d p nd Q h := by kernel_rfl
theorem internal_strconv_setDigits_call {s : Sl} {d : Int} {p : Int} {nd : Int} {Q : (Int → (Int → (Hp → Prop)))} {h : Hp} (hv : internal_strconv_setDigits_w Tryz.prog s d p nd Q h) : Call2 Tryz.prog n_internal_strconv_setDigits [(shSl).enc s, (shInt .u64).enc d, (shInt .i64).enc p, (shInt .i64).enc nd] (shInt .i64) (shInt .i64) Q h :=
  show CallT Tryz.prog n_internal_strconv_setDigits [(shSl).enc s, (shInt .u64).enc d, (shInt .i64).enc p, (shInt .i64).enc nd] (shRes tb [3, 3]) (fun r => Q r.1 r.2) h from fun_sound (C := ⟨Tryz.prog, tb, internal_strconv_setDigits_p⟩) tb_ok Tryz.func100 rfl (Eq.mpr (internal_strconv_setDigits_eq s d p nd Q h) hv)

theorem internal_strconv_log10Pow2_eq (x : Int) (Q : (Int → (Hp → Prop))) (h : Hp) : funW ⟨Tryz.prog, tb, internal_strconv_log10Pow2_p⟩ Tryz.f101 internal_strconv_log10Pow2_a [(shInt .i64).enc x] (Q) h = internal_strconv_log10Pow2_w Tryz.prog x Q h := by kernel_rfl
theorem internal_strconv_log10Pow2_call {x : Int} {Q : (Int → (Hp → Prop))} {h : Hp} (hv : internal_strconv_log10Pow2_w Tryz.prog x Q h) : CallT Tryz.prog n_internal_strconv_log10Pow2 [(shInt .i64).enc x] (shInt .i64) Q h :=
  show CallT Tryz.prog n_internal_strconv_log10Pow2 [(shInt .i64).enc x] (shRes tb [3]) (Q) h from fun_sound (C := ⟨Tryz.prog, tb, internal_strconv_log10Pow2_p⟩) tb_ok Tryz.func101 rfl (Eq.mpr (internal_strconv_log10Pow2_eq x Q h) hv)

theorem internal_strconv_shortFloat_float64_eq (m : Int) (e : Int) (Q : (Int → (Int → (Hp → Prop)))) (h : Hp) : funW ⟨Tryz.prog, tb, internal_strconv_shortFloat_float64_p⟩ Tryz.f106 internal_strconv_shortFloat_float64_a [(shInt .u64).enc m, (shInt .i64).enc e] (fun r => Q r.1 r.2) h = internal_strconv_shortFloat_float64_w Tryz.prog m e Q h := by kernel_rfl
theorem internal_strconv_shortFloat_float64_call {m : Int} {e : Int} {Q : (Int → (Int → (Hp → Prop)))} {h : Hp} (hv : internal_strconv_shortFloat_float64_w Tryz.prog m e Q h) : Call2 Tryz.prog n_internal_strconv_shortFloat_float64 [(shInt .u64).enc m, (shInt .i64).enc e] (shInt .u64) (shInt .i64) Q h :=
  show CallT Tryz.prog n_internal_strconv_shortFloat_float64 [(shInt .u64).enc m, (shInt .i64).enc e] (shRes tb [31, 3]) (fun r => Q r.1 r.2) h from fun_sound (C := ⟨Tryz.prog, tb, internal_strconv_shortFloat_float64_p⟩) tb_ok Tryz.func106 rfl (Eq.mpr (internal_strconv_shortFloat_float64_eq m e Q h) hv)

theorem internal_strconv_special_eq (s : ByteArray) (Q : (Nat → (Int → (Bool → (Hp → Prop))))) (h : Hp) : funW ⟨Tryz.prog, tb, internal_strconv_special_p⟩ Tryz.f107 internal_strconv_special_a [(shStr).enc s] (fun r => Q r.1 r.2.1 r.2.2) h = internal_strconv_special_w Tryz.prog s Q h := by kernel_rfl
theorem internal_strconv_special_call {s : ByteArray} {Q : (Nat → (Int → (Bool → (Hp → Prop))))} {h : Hp} (hv : internal_strconv_special_w Tryz.prog s Q h) : Call3 Tryz.prog n_internal_strconv_special [(shStr).enc s] (shFlt .f64) (shInt .i64) (shBool) Q h :=
  show CallT Tryz.prog n_internal_strconv_special [(shStr).enc s] (shRes tb [34, 3, 4]) (fun r => Q r.1 r.2.1 r.2.2) h from fun_sound (C := ⟨Tryz.prog, tb, internal_strconv_special_p⟩) tb_ok Tryz.func107 rfl (Eq.mpr (internal_strconv_special_eq s Q h) hv)

theorem internal_strconv_readFloat_eq (s : ByteArray) (Q : (Int → (Int → (Bool → (Bool → (Bool → (Int → (Bool → (Hp → Prop))))))))) (h : Hp) : funW ⟨Tryz.prog, tb, internal_strconv_readFloat_p⟩ Tryz.f108 internal_strconv_readFloat_a [(shStr).enc s] (fun r => Q r.1 r.2.1 r.2.2.1 r.2.2.2.1 r.2.2.2.2.1 r.2.2.2.2.2.1 r.2.2.2.2.2.2) h = internal_strconv_readFloat_w Tryz.prog s Q h := by kernel_rfl
theorem internal_strconv_readFloat_call {s : ByteArray} {Q : (Int → (Int → (Bool → (Bool → (Bool → (Int → (Bool → (Hp → Prop))))))))} {h : Hp} (hv : internal_strconv_readFloat_w Tryz.prog s Q h) : Call7 Tryz.prog n_internal_strconv_readFloat [(shStr).enc s] (shInt .u64) (shInt .i64) (shBool) (shBool) (shBool) (shInt .i64) (shBool) Q h :=
  show CallT Tryz.prog n_internal_strconv_readFloat [(shStr).enc s] (shRes tb [31, 3, 4, 4, 4, 3, 4]) (fun r => Q r.1 r.2.1 r.2.2.1 r.2.2.2.1 r.2.2.2.2.1 r.2.2.2.2.2.1 r.2.2.2.2.2.2) h from fun_sound (C := ⟨Tryz.prog, tb, internal_strconv_readFloat_p⟩) tb_ok Tryz.func108 rfl (Eq.mpr (internal_strconv_readFloat_eq s Q h) hv)

theorem internal_strconv_bool2_uint64_eq (b : Bool) (Q : (Int → (Hp → Prop))) (h : Hp) : funW ⟨Tryz.prog, tb, internal_strconv_bool2_uint64_p⟩ Tryz.f116 internal_strconv_bool2_uint64_a [(shBool).enc b] (Q) h = internal_strconv_bool2_uint64_w Tryz.prog b Q h := by kernel_rfl
theorem internal_strconv_bool2_uint64_call {b : Bool} {Q : (Int → (Hp → Prop))} {h : Hp} (hv : internal_strconv_bool2_uint64_w Tryz.prog b Q h) : CallT Tryz.prog n_internal_strconv_bool2_uint64 [(shBool).enc b] (shInt .u64) Q h :=
  show CallT Tryz.prog n_internal_strconv_bool2_uint64 [(shBool).enc b] (shRes tb [31]) (Q) h from fun_sound (C := ⟨Tryz.prog, tb, internal_strconv_bool2_uint64_p⟩) tb_ok Tryz.func116 rfl (Eq.mpr (internal_strconv_bool2_uint64_eq b Q h) hv)

theorem internal_strconv_atof64exact_eq (mantissa : Int) (exp : Int) (neg : Bool) (Q : (Nat → (Bool → (Hp → Prop)))) (h : Hp) : funW ⟨Tryz.prog, tb, internal_strconv_atof64exact_p⟩ Tryz.f118 internal_strconv_atof64exact_a [(shInt .u64).enc mantissa, (shInt .i64).enc exp, (shBool).enc neg] (fun r => Q r.1 r.2) h = internal_strconv_atof64exact_w Tryz.prog mantissa exp neg Q h := by kernel_rfl
theorem internal_strconv_atof64exact_call {mantissa : Int} {exp : Int} {neg : Bool} {Q : (Nat → (Bool → (Hp → Prop)))} {h : Hp} (hv : internal_strconv_atof64exact_w Tryz.prog mantissa exp neg Q h) : Call2 Tryz.prog n_internal_strconv_atof64exact [(shInt .u64).enc mantissa, (shInt .i64).enc exp, (shBool).enc neg] (shFlt .f64) (shBool) Q h :=
  show CallT Tryz.prog n_internal_strconv_atof64exact [(shInt .u64).enc mantissa, (shInt .i64).enc exp, (shBool).enc neg] (shRes tb [34, 4]) (fun r => Q r.1 r.2) h from fun_sound (C := ⟨Tryz.prog, tb, internal_strconv_atof64exact_p⟩) tb_ok Tryz.func118 rfl (Eq.mpr (internal_strconv_atof64exact_eq mantissa exp neg Q h) hv)

theorem internal_strconv_bool2_int_eq (b : Bool) (Q : (Int → (Hp → Prop))) (h : Hp) : funW ⟨Tryz.prog, tb, internal_strconv_bool2_int_p⟩ Tryz.f120 internal_strconv_bool2_int_a [(shBool).enc b] (Q) h = internal_strconv_bool2_int_w Tryz.prog b Q h := by kernel_rfl
theorem internal_strconv_bool2_int_call {b : Bool} {Q : (Int → (Hp → Prop))} {h : Hp} (hv : internal_strconv_bool2_int_w Tryz.prog b Q h) : CallT Tryz.prog n_internal_strconv_bool2_int [(shBool).enc b] (shInt .i64) Q h :=
  show CallT Tryz.prog n_internal_strconv_bool2_int [(shBool).enc b] (shRes tb [3]) (Q) h from fun_sound (C := ⟨Tryz.prog, tb, internal_strconv_bool2_int_p⟩) tb_ok Tryz.func120 rfl (Eq.mpr (internal_strconv_bool2_int_eq b Q h) hv)

theorem internal_strconv_skewed_eq (e : Int) (Q : (Int → (Hp → Prop))) (h : Hp) : funW ⟨Tryz.prog, tb, internal_strconv_skewed_p⟩ Tryz.f129 internal_strconv_skewed_a [(shInt .i64).enc e] (Q) h = internal_strconv_skewed_w Tryz.prog e Q h := by kernel_rfl
theorem internal_strconv_skewed_call {e : Int} {Q : (Int → (Hp → Prop))} {h : Hp} (hv : internal_strconv_skewed_w Tryz.prog e Q h) : CallT Tryz.prog n_internal_strconv_skewed [(shInt .i64).enc e] (shInt .i64) Q h :=
  show CallT Tryz.prog n_internal_strconv_skewed [(shInt .i64).enc e] (shRes tb [3]) (Q) h from fun_sound (C := ⟨Tryz.prog, tb, internal_strconv_skewed_p⟩) tb_ok Tryz.func129 rfl (Eq.mpr (internal_strconv_skewed_eq e Q h) hv)

theorem internal_strconv_prescale_eq (pre : Option Addr) (e : Int) (p : Int) (lp : Int) (Q : (Hp → Prop)) (h : Hp) : funW ⟨Tryz.prog, tb, internal_strconv_prescale_p⟩ Tryz.f130 internal_strconv_prescale_a [(shPtr).enc pre, (shInt .i64).enc e, (shInt .i64).enc p, (shInt .i64).enc lp] (fun _ => Q) h = internal_strconv_prescale_w Tryz.prog pre e p lp Q h := by kernel_rfl
theorem internal_strconv_prescale_call {pre : Option Addr} {e : Int} {p : Int} {lp : Int} {Q : (Hp → Prop)} {h : Hp} (hv : internal_strconv_prescale_w Tryz.prog pre e p lp Q h) : Call0 Tryz.prog n_internal_strconv_prescale [(shPtr).enc pre, (shInt .i64).enc e, (shInt .i64).enc p, (shInt .i64).enc lp] (Q) h :=
  show CallT Tryz.prog n_internal_strconv_prescale [(shPtr).enc pre, (shInt .i64).enc e, (shInt .i64).enc p, (shInt .i64).enc lp] (shRes tb []) (fun _ => Q) h from fun_sound (C := ⟨Tryz.prog, tb, internal_strconv_prescale_p⟩) tb_ok Tryz.func130 rfl (Eq.mpr (internal_strconv_prescale_eq pre e p lp Q h) hv)

theorem internal_strconv_log2Pow10_eq (x : Int) (Q : (Int → (Hp → Prop))) (h : Hp) : funW ⟨Tryz.prog, tb, internal_strconv_log2Pow10_p⟩ Tryz.f131 internal_strconv_log2Pow10_a [(shInt .i64).enc x] (Q) h = internal_strconv_log2Pow10_w Tryz.prog x Q h := by kernel_rfl
theorem internal_strconv_log2Pow10_call {x : Int} {Q : (Int → (Hp → Prop))} {h : Hp} (hv : internal_strconv_log2Pow10_w Tryz.prog x Q h) : CallT Tryz.prog n_internal_strconv_log2Pow10 [(shInt .i64).enc x] (shInt .i64) Q h :=
  show CallT Tryz.prog n_internal_strconv_log2Pow10 [(shInt .i64).enc x] (shRes tb [3]) (Q) h from fun_sound (C := ⟨Tryz.prog, tb, internal_strconv_log2Pow10_p⟩) tb_ok Tryz.func131 rfl (Eq.mpr (internal_strconv_log2Pow10_eq x Q h) hv)

theorem internal_strconv_uscale_eq (x : Int) (c : Option Addr) (Q : (Int → (Hp → Prop))) (h : Hp) : funW ⟨Tryz.prog, tb, internal_strconv_uscale_p⟩ Tryz.f132 internal_strconv_uscale_a [(shInt .u64).enc x, (shPtr).enc c] (Q) h = internal_strconv_uscale_w Tryz.prog x c Q h := by kernel_rfl
theorem internal_strconv_uscale_call {x : Int} {c : Option Addr} {Q : (Int → (Hp → Prop))} {h : Hp} (hv : internal_strconv_uscale_w Tryz.prog x c Q h) : CallT Tryz.prog n_internal_strconv_uscale [(shInt .u64).enc x, (shPtr).enc c] (shInt .u64) Q h :=
  show CallT Tryz.prog n_internal_strconv_uscale [(shInt .u64).enc x, (shPtr).enc c] (shRes tb [177]) (Q) h from fun_sound (C := ⟨Tryz.prog, tb, internal_strconv_uscale_p⟩) tb_ok Tryz.func132 rfl (Eq.mpr (internal_strconv_uscale_eq x c Q h) hv)

theorem internal_strconv_unrounded_nudge_eq (u : Int) (x : Int) (Q : (Int → (Hp → Prop))) (h : Hp) : funW ⟨Tryz.prog, tb, internal_strconv_unrounded_nudge_p⟩ Tryz.f133 internal_strconv_unrounded_nudge_a [(shInt .u64).enc u, (shInt .i64).enc x] (Q) h = internal_strconv_unrounded_nudge_w Tryz.prog u x Q h := by kernel_rfl
theorem internal_strconv_unrounded_nudge_call {u : Int} {x : Int} {Q : (Int → (Hp → Prop))} {h : Hp} (hv : internal_strconv_unrounded_nudge_w Tryz.prog u x Q h) : CallT Tryz.prog n_internal_strconv_unrounded_nudge [(shInt .u64).enc u, (shInt .i64).enc x] (shInt .u64) Q h :=
  show CallT Tryz.prog n_internal_strconv_unrounded_nudge [(shInt .u64).enc u, (shInt .i64).enc x] (shRes tb [177]) (Q) h from fun_sound (C := ⟨Tryz.prog, tb, internal_strconv_unrounded_nudge_p⟩) tb_ok Tryz.func133 rfl (Eq.mpr (internal_strconv_unrounded_nudge_eq u x Q h) hv)

theorem internal_strconv_unrounded_ceil_eq (u : Int) (Q : (Int → (Hp → Prop))) (h : Hp) : funW ⟨Tryz.prog, tb, internal_strconv_unrounded_ceil_p⟩ Tryz.f134 internal_strconv_unrounded_ceil_a [(shInt .u64).enc u] (Q) h = internal_strconv_unrounded_ceil_w Tryz.prog u Q h := by kernel_rfl
theorem internal_strconv_unrounded_ceil_call {u : Int} {Q : (Int → (Hp → Prop))} {h : Hp} (hv : internal_strconv_unrounded_ceil_w Tryz.prog u Q h) : CallT Tryz.prog n_internal_strconv_unrounded_ceil [(shInt .u64).enc u] (shInt .u64) Q h :=
  show CallT Tryz.prog n_internal_strconv_unrounded_ceil [(shInt .u64).enc u] (shRes tb [31]) (Q) h from fun_sound (C := ⟨Tryz.prog, tb, internal_strconv_unrounded_ceil_p⟩) tb_ok Tryz.func134 rfl (Eq.mpr (internal_strconv_unrounded_ceil_eq u Q h) hv)

theorem internal_strconv_unrounded_floor_eq (u : Int) (Q : (Int → (Hp → Prop))) (h : Hp) : funW ⟨Tryz.prog, tb, internal_strconv_unrounded_floor_p⟩ Tryz.f135 internal_strconv_unrounded_floor_a [(shInt .u64).enc u] (Q) h = internal_strconv_unrounded_floor_w Tryz.prog u Q h := by kernel_rfl
theorem internal_strconv_unrounded_floor_call {u : Int} {Q : (Int → (Hp → Prop))} {h : Hp} (hv : internal_strconv_unrounded_floor_w Tryz.prog u Q h) : CallT Tryz.prog n_internal_strconv_unrounded_floor [(shInt .u64).enc u] (shInt .u64) Q h :=
  show CallT Tryz.prog n_internal_strconv_unrounded_floor [(shInt .u64).enc u] (shRes tb [31]) (Q) h from fun_sound (C := ⟨Tryz.prog, tb, internal_strconv_unrounded_floor_p⟩) tb_ok Tryz.func135 rfl (Eq.mpr (internal_strconv_unrounded_floor_eq u Q h) hv)

theorem internal_strconv_unrounded_round_eq (u : Int) (Q : (Int → (Hp → Prop))) (h : Hp) : funW ⟨Tryz.prog, tb, internal_strconv_unrounded_round_p⟩ Tryz.f136 internal_strconv_unrounded_round_a [(shInt .u64).enc u] (Q) h = internal_strconv_unrounded_round_w Tryz.prog u Q h := by kernel_rfl
theorem internal_strconv_unrounded_round_call {u : Int} {Q : (Int → (Hp → Prop))} {h : Hp} (hv : internal_strconv_unrounded_round_w Tryz.prog u Q h) : CallT Tryz.prog n_internal_strconv_unrounded_round [(shInt .u64).enc u] (shInt .u64) Q h :=
  show CallT Tryz.prog n_internal_strconv_unrounded_round [(shInt .u64).enc u] (shRes tb [31]) (Q) h from fun_sound (C := ⟨Tryz.prog, tb, internal_strconv_unrounded_round_p⟩) tb_ok Tryz.func136 rfl (Eq.mpr (internal_strconv_unrounded_round_eq u Q h) hv)

end Lf

/-
  By program: a call does what its text tells.
-/
set_option maxRecDepth 100000
namespace Lf
open Go Go.Proofs

theorem internal_strconv_commonPrefixLenIgnoreCase_eq (s : ByteArray) (prefix_ : ByteArray) (Q : (Int → (Hp → Prop))) (h : Hp) : funW ⟨Tryz.prog, tb, internal_strconv_commonPrefixLenIgnoreCase_p⟩ Tryz.f145 internal_strconv_commonPrefixLenIgnoreCase_a [(shStr).enc s, (shStr).enc prefix_] (Q) h = internal_strconv_commonPrefixLenIgnoreCase_w Tryz.prog s prefix_ Q h := by kernel_rfl
theorem internal_strconv_commonPrefixLenIgnoreCase_call {s : ByteArray} {prefix_ : ByteArray} {Q : (Int → (Hp → Prop))} {h : Hp} (hv : internal_strconv_commonPrefixLenIgnoreCase_w Tryz.prog s prefix_ Q h) : CallT Tryz.prog n_internal_strconv_commonPrefixLenIgnoreCase [(shStr).enc s, (shStr).enc prefix_] (shInt .i64) Q h :=
  show CallT Tryz.prog n_internal_strconv_commonPrefixLenIgnoreCase [(shStr).enc s, (shStr).enc prefix_] (shRes tb [3]) (Q) h from fun_sound (C := ⟨Tryz.prog, tb, internal_strconv_commonPrefixLenIgnoreCase_p⟩) tb_ok Tryz.func145 rfl (Eq.mpr (internal_strconv_commonPrefixLenIgnoreCase_eq s prefix_ Q h) hv)

end Lf



/-
  Whole numbers and floats: what an instruction makes of two.
-/
namespace Lf
open Go Go.Proofs

abbrev f64 : FloatKind := .f64

def oneP (b : Bool) : Int := if b then 1 else 0

def nanP : Int := 9221120237041090560
def isNaN (f : Nat) : Bool := f64.format.order f f != some .eq
def bitsP (f : Nat) : Int := if isNaN f then nanP else IntKind.wrap .i64 (f : Int)
def resP : Option Nat → Int
  | some r => bitsP r
  | none => nanP
def floatP (b : Int) : Nat := (IntKind.wrap .u64 b).toNat
def wholeP (f : Nat) : Int :=
  if isNaN f then 0
  else if f64.format.order f 4890909195324358656 = some .gt ∨ f64.format.order f 4890909195324358656 = some .eq then 9223372036854775807
  else if f64.format.order f 14114281232179134464 = some .lt then -9223372036854775808
  else ((f64.decode f).toInt .zero).getD 0

def fltP (op b c : Int) : Int :=
  if op = 15 then resP (f64.format.add (floatP b) (floatP c))
  else if op = 16 then resP (f64.format.sub (floatP b) (floatP c))
  else if op = 17 then resP (f64.format.mul (floatP b) (floatP c))
  else if op = 18 then resP (f64.format.div (floatP b) (floatP c))
  else if op = 19 then oneP (f64.format.order (floatP b) (floatP c) == some .lt)
  else if op = 20 then bitsP (f64.nearest b)
  else if op = 21 then wholeP (floatP b)
  else 0

section
variable {P : Program} {h : Hp}

theorem nan_cut (x y t : Nat) : isNaN ((Question.nanBits .f64 x y).cut t) = true := by
  have key : ∀ s z : Nat, s < 2 → z < 2 ^ 52 - 1 → isNaN (s * 2 ^ 63 + 0x7ff0000000000000 + 1 + z) = true := by
    intro s z hs hz
    have e1 : (s * 2 ^ 63 + 0x7ff0000000000000 + 1 + z) % Ieee.double.signWeight = 0x7ff0000000000000 + 1 + z := by
      show (s * 2 ^ 63 + 0x7ff0000000000000 + 1 + z) % 9223372036854775808 = _
      omega
    have e2 : Ieee.double.read (s * 2 ^ 63 + 0x7ff0000000000000 + 1 + z) = .nan ((s * 2 ^ 63 + 0x7ff0000000000000 + 1 + z) / Ieee.double.signWeight % 2 == 1) (1 + z) := by
      unfold Ieee.Format.read
      rw [e1]
      have b1 : Ieee.double.binade = 4503599627370496 := rfl
      have b2 : Ieee.double.infRung = 9218868437227405312 := rfl
      dsimp only
      rw [b1, b2, if_neg (by omega), if_neg (by omega), if_neg (by omega), show 0x7ff0000000000000 + 1 + z - 9218868437227405312 = 1 + z by omega]
    unfold isNaN
    show ((Ieee.double.read _).order (Ieee.double.read _) != some .eq) = true
    rw [e2]
    rfl
  have := key (t % 2) ((t / 2) % (2 ^ 52 - 1)) (by omega) (Nat.mod_lt _ (by decide))
  exact this
end
end Lf

/-
  Floats: which is below, whole numbers, and all instructions.
-/
namespace Lf
open Ieee Go

/-- Where a float stands among all. -/
def rzD (w : Nat) : Int := if negD w then -((w % 9223372036854775808 : Nat) : Int) else ((w % 9223372036854775808 : Nat) : Int)
def valD (r : Nat) : Nat := partsM r * 2 ^ (partsE r + 1074).toNat

theorem val_lt {r s : Nat} (h : r < s) : valD r < valD s := by
  unfold valD partsM partsE
  by_cases h1 : s < 4503599627370496
  · rw [if_pos (show r < 4503599627370496 by omega), if_pos (show r < 4503599627370496 by omega), if_pos h1, if_pos h1]
    simpa using h
  · rw [if_neg h1, if_neg h1]
    have e2 : (((s / 4503599627370496 : Nat) : Int) - 1075 + 1074).toNat = s / 4503599627370496 - 1 := by omega
    rw [e2]
    by_cases h2 : r < 4503599627370496
    · rw [if_pos h2, if_pos h2]
      have := Nat.two_pow_pos (s / 4503599627370496 - 1)
      have h3 : (s % 4503599627370496 + 4503599627370496) * 1 ≤ (s % 4503599627370496 + 4503599627370496) * 2 ^ (s / 4503599627370496 - 1) := Nat.mul_le_mul_left _ this
      show r * 1 < _
      omega
    · rw [if_neg h2, if_neg h2, show (((r / 4503599627370496 : Nat) : Int) - 1075 + 1074).toNat = r / 4503599627370496 - 1 by omega]
      by_cases h3 : r / 4503599627370496 = s / 4503599627370496
      · rw [h3]
        exact Nat.mul_lt_mul_of_pos_right (by omega) (Nat.two_pow_pos _)
      · have h4 : r / 4503599627370496 - 1 + 1 ≤ s / 4503599627370496 - 1 := by omega
        have h5 : 2 ^ (r / 4503599627370496 - 1 + 1) ≤ 2 ^ (s / 4503599627370496 - 1) := Nat.pow_le_pow_right (by decide) h4
        rw [Nat.pow_succ] at h5
        have h6 : (r % 4503599627370496 + 4503599627370496) * 2 ^ (r / 4503599627370496 - 1) < (2 * 4503599627370496) * 2 ^ (r / 4503599627370496 - 1) := Nat.mul_lt_mul_of_pos_right (by omega) (Nat.two_pow_pos _)
        have h7 : 4503599627370496 * (2 ^ (r / 4503599627370496 - 1) * 2) ≤ (s % 4503599627370496 + 4503599627370496) * 2 ^ (s / 4503599627370496 - 1) := Nat.mul_le_mul (by omega) h5
        have h8 : (2 * 4503599627370496) * 2 ^ (r / 4503599627370496 - 1) = 4503599627370496 * (2 ^ (r / 4503599627370496 - 1) * 2) := by omega
        omega

theorem cmpZ {x y X Y : Int} (h1 : x < y ↔ X < Y) (h2 : x = y ↔ X = Y) : compare x y = compare X Y := by
  show compareOfLessAndEq x y = compareOfLessAndEq X Y
  unfold compareOfLessAndEq
  simp only [h1, h2]

theorem order_eq {a b : Nat} (ha : a < 18446744073709551616) (hb : b < 18446744073709551616) (na : ¬ 9218868437227405312 < a % 9223372036854775808) (nb : ¬ 9218868437227405312 < b % 9223372036854775808) : dbl.order a b = some (compare (rzD a) (rzD b)) := by
  unfold Format.order
  have lt_ : ∀ {x y : Int}, x < y → compare x y = .lt := fun {x y} h => by show compareOfLessAndEq x y = _; unfold compareOfLessAndEq; rw [if_pos h]
  have gt_ : ∀ {x y : Int}, y < x → compare x y = .gt := fun {x y} h => by show compareOfLessAndEq x y = _; unfold compareOfLessAndEq; rw [if_neg (by omega), if_neg (by omega)]
  have eq_ : ∀ {x y : Int}, x = y → compare x y = .eq := fun {x y} h => by show compareOfLessAndEq x y = _; unfold compareOfLessAndEq; rw [if_neg (by omega), if_pos h]
  by_cases ia : a % 9223372036854775808 = 9218868437227405312
  · rw [read_inf ha ia]
    by_cases ib : b % 9223372036854775808 = 9218868437227405312
    · rw [read_inf hb ib]
      unfold rzD
      rw [ia, ib]
      cases negD a <;> cases negD b <;> rfl
    · rw [read_num hb (by omega)]
      unfold rzD
      rw [ia]
      have e1 : (Datum.infinity (negD a)).order (.number (negD b) (partsM (b % 9223372036854775808)) (partsE (b % 9223372036854775808))) = some (if negD a then .lt else .gt) := rfl
      rw [e1]
      cases negD a
      · rw [gt_ (by cases negD b <;> simp <;> omega)]; rfl
      · rw [lt_ (by cases negD b <;> simp <;> omega)]; rfl
  · rw [read_num ha (by omega)]
    by_cases ib : b % 9223372036854775808 = 9218868437227405312
    · rw [read_inf hb ib]
      unfold rzD
      rw [ib]
      have e1 : (Datum.number (negD a) (partsM (a % 9223372036854775808)) (partsE (a % 9223372036854775808))).order (.infinity (negD b)) = some (if negD b then .gt else .lt) := rfl
      rw [e1]
      cases negD b
      · rw [lt_ (by cases negD a <;> simp <;> omega)]; rfl
      · rw [gt_ (by cases negD a <;> simp <;> omega)]; rfl
    · rw [read_num hb (by omega)]
      have e1 : ∀ {s m i t n j}, (Datum.number s m i).order (.number t n j) = some (compare (signed s m (i - min i j).toNat) (signed t n (j - min i j).toNat)) := rfl
      rw [e1, signed_eq, signed_eq]
      unfold rzD
      have hva : partsM (a % 9223372036854775808) * 2 ^ (partsE (a % 9223372036854775808) - min (partsE (a % 9223372036854775808)) (partsE (b % 9223372036854775808))).toNat * 2 ^ (min (partsE (a % 9223372036854775808)) (partsE (b % 9223372036854775808)) + 1074).toNat = valD (a % 9223372036854775808) := by
        unfold valD
        have h1 : -1074 ≤ partsE (a % 9223372036854775808) := by unfold partsE; split <;> omega
        have h2 : -1074 ≤ partsE (b % 9223372036854775808) := by unfold partsE; split <;> omega
        rw [Nat.mul_assoc, ← Nat.pow_add]
        congr 2
        omega
      have hvb : partsM (b % 9223372036854775808) * 2 ^ (partsE (b % 9223372036854775808) - min (partsE (a % 9223372036854775808)) (partsE (b % 9223372036854775808))).toNat * 2 ^ (min (partsE (a % 9223372036854775808)) (partsE (b % 9223372036854775808)) + 1074).toNat = valD (b % 9223372036854775808) := by
        unfold valD
        have h1 : -1074 ≤ partsE (a % 9223372036854775808) := by unfold partsE; split <;> omega
        have h2 : -1074 ≤ partsE (b % 9223372036854775808) := by unfold partsE; split <;> omega
        rw [Nat.mul_assoc, ← Nat.pow_add]
        congr 2
        omega
      have hP := Nat.two_pow_pos (min (partsE (a % 9223372036854775808)) (partsE (b % 9223372036854775808)) + 1074).toNat
      have hz : ∀ {r x P : Nat}, x * P = valD r → 0 < P → (x = 0 ↔ r = 0) := fun {r x P} h hp => by
        constructor
        · intro e
          subst e
          rw [Nat.zero_mul] at h
          refine Classical.byContradiction fun hr => ?_
          have := val_lt (r := 0) (s := r) (by omega)
          omega
        · intro e
          subst e
          have : valD 0 = 0 := by unfold valD partsM; simp
          rw [this] at h
          rcases Nat.mul_eq_zero.1 h with h | h <;> omega
      generalize 2 ^ (min (partsE (a % 9223372036854775808)) (partsE (b % 9223372036854775808)) + 1074).toNat = P at *
      generalize partsM (a % 9223372036854775808) * 2 ^ (partsE (a % 9223372036854775808) - min (partsE (a % 9223372036854775808)) (partsE (b % 9223372036854775808))).toNat = x at *
      generalize partsM (b % 9223372036854775808) * 2 ^ (partsE (b % 9223372036854775808) - min (partsE (a % 9223372036854775808)) (partsE (b % 9223372036854775808))).toNat = y at *
      generalize a % 9223372036854775808 = r at *
      generalize b % 9223372036854775808 = s at *
      have hlt : ∀ {r s x y : Nat}, x * P = valD r → y * P = valD s → (x < y ↔ r < s) := fun {r s x y} h1 h2 => by
        constructor
        · intro h
          have h3 : x * P < y * P := Nat.mul_lt_mul_of_pos_right h hP
          rw [h1, h2] at h3
          rcases Nat.lt_trichotomy r s with h4 | h4 | h4
          · exact h4
          · subst h4; omega
          · have := val_lt h4; omega
        · intro h
          have h3 := val_lt h
          rw [← h1, ← h2] at h3
          exact Nat.lt_of_mul_lt_mul_right h3
      have l1 := hlt hva hvb
      have l2 := hlt hvb hva
      have z1 := hz hva hP
      have z2 := hz hvb hP
      congr 1
      refine cmpZ ?_ ?_ <;> cases negD a <;> cases negD b <;> simp only [Bool.false_eq_true, if_true, if_false, reduceIte] <;> omega

theorem isNaN_eq {w : Nat} (h : w < 18446744073709551616) : isNaN w = isNaND w := by
  unfold isNaN isNaND
  show (dbl.order w w != some .eq) = _
  by_cases hn : 9218868437227405312 < w % 9223372036854775808
  · rw [decide_eq_true hn]
    unfold Format.order
    rw [read_nan h hn]
    rfl
  · rw [order_eq h h hn hn, decide_eq_false hn, show compare (rzD w) (rzD w) = .eq by show compareOfLessAndEq _ _ = _; unfold compareOfLessAndEq; rw [if_neg (by omega), if_pos rfl]]
    rfl

theorem order_nan {a b : Nat} (ha : a < 18446744073709551616) (hb : b < 18446744073709551616) (hn : isNaND a = true ∨ isNaND b = true) : dbl.order a b = none := by
  unfold Format.order
  rcases hn with hn | hn
  · rw [read_nan ha (of_decide_eq_true hn)]; rfl
  · rw [read_nan hb (of_decide_eq_true hn)]
    have : ∀ d : Datum, d.order (.nan (negD b) (b % 9223372036854775808 - 9218868437227405312)) = none := fun d => by cases d <;> rfl
    exact this _

def keyD (w : Nat) : Nat := if 9223372036854775808 ≤ w then 18446744073709551615 - w else w + 9223372036854775808
def belowD (a b : Nat) : Int := if isNaND a = true ∨ isNaND b = true ∨ (a % 9223372036854775808 = 0 ∧ b % 9223372036854775808 = 0) then 0 else if keyD a < keyD b then 1 else 0

theorem below_eq {a b : Nat} (ha : a < 18446744073709551616) (hb : b < 18446744073709551616) : oneP (dbl.order a b == some .lt) = belowD a b := by
  unfold belowD
  by_cases na : isNaND a = true
  · rw [if_pos (.inl na), order_nan ha hb (.inl na)]; rfl
  by_cases nb : isNaND b = true
  · rw [if_pos (.inr (.inl nb)), order_nan ha hb (.inr nb)]; rfl
  have na' : ¬ 9218868437227405312 < a % 9223372036854775808 := fun h => na (decide_eq_true h)
  have nb' : ¬ 9218868437227405312 < b % 9223372036854775808 := fun h => nb (decide_eq_true h)
  rw [order_eq ha hb na' nb']
  have hc : (some (compare (rzD a) (rzD b)) == some Ordering.lt) = decide (rzD a < rzD b) := by
    show (some (compareOfLessAndEq (rzD a) (rzD b)) == some Ordering.lt) = _
    unfold compareOfLessAndEq
    by_cases h : rzD a < rzD b
    · rw [if_pos h, decide_eq_true h]; rfl
    · rw [if_neg h, decide_eq_false h]; split <;> rfl
  rw [hc]
  have sa := neg_split ha
  have sb := neg_split hb
  unfold oneP
  have hiff : rzD a < rzD b ↔ ¬ (a % 9223372036854775808 = 0 ∧ b % 9223372036854775808 = 0) ∧ keyD a < keyD b := by
    unfold rzD keyD negD
    by_cases h1 : 9223372036854775808 ≤ a <;> by_cases h2 : 9223372036854775808 ≤ b <;> simp only [h1, h2, decide_true, decide_false, if_true, if_false, Bool.false_eq_true, reduceIte] <;> omega
  by_cases h : rzD a < rzD b
  · rw [if_pos (decide_eq_true h), if_neg (by rintro (h1 | h1 | h1); exact na h1; exact nb h1; exact (hiff.1 h).1 h1), if_pos (hiff.1 h).2]
  · rw [if_neg (fun e => h (of_decide_eq_true e))]
    by_cases h0 : a % 9223372036854775808 = 0 ∧ b % 9223372036854775808 = 0
    · rw [if_pos (.inr (.inr h0))]
    · rw [if_neg (by rintro (h1 | h1 | h1); exact na h1; exact nb h1; exact h0 h1), if_neg (fun hk => h (hiff.2 ⟨h0, hk⟩))]

def toFloatD (n : Int) : Nat := roundedD (decide (n < 0)) n.natAbs 0 false

theorem float_eq {n : Int} : f64.nearest n = toFloatD n := by
  show dbl.write (.number (decide (n < 0)) n.natAbs 0) = _
  rw [write_num]; rfl

/-- A float, made whole. -/
def wholeD (a : Nat) : Int :=
  let x := a % 9223372036854775808
  if isNaND a then 0
  else if 4890909195324358656 ≤ x then (if 9223372036854775808 ≤ a then -9223372036854775808 else 9223372036854775807)
  else
    let n : Nat := if 0 ≤ partsE x then partsM x * 2 ^ (partsE x).toNat else partsM x / 2 ^ (-partsE x).toNat
    if 9223372036854775808 ≤ a then -(n : Int) else n

theorem cut_zeroE {s : Bool} {n d : Nat} : Toward.zero.cut s n d = n / 2 ^ d := by
  show n / (1 <<< min d (n.log2 + 2)) + 0 = _
  rw [Nat.add_zero, shl, Nat.one_mul]
  by_cases h : d ≤ n.log2 + 2
  · rw [Nat.min_eq_left h]
  · rw [Nat.min_eq_right (by omega)]
    have h1 := half_lt (n := n) (Nat.le_refl _)
    have h2 := half_lt (n := n) (d := d) (by omega)
    rw [Nat.div_eq_of_lt (by omega), Nat.div_eq_of_lt (by omega)]

theorem whole_eq {a : Nat} (ha : a < 18446744073709551616) : wholeP a = wholeD a := by
  unfold wholeP wholeD
  dsimp only
  rw [isNaN_eq ha]
  by_cases na : isNaND a = true
  · rw [if_pos na, if_pos na]
  · rw [if_neg na, if_neg na]
    have na' : ¬ 9218868437227405312 < a % 9223372036854775808 := fun h => na (decide_eq_true h)
    have o1 : f64.format.order a 4890909195324358656 = some (compare (rzD a) 4890909195324358656) := order_eq ha (by decide) na' (by decide)
    have o2 : f64.format.order a 14114281232179134464 = some (compare (rzD a) (-4890909195324358656)) := order_eq ha (by decide) na' (by decide)
    rw [o1, o2]
    have gte : ∀ {x y : Int}, (some (compare x y) = some Ordering.gt ∨ some (compare x y) = some Ordering.eq) ↔ y ≤ x := fun {x y} => by
      show (some (compareOfLessAndEq x y) = _ ∨ some (compareOfLessAndEq x y) = _) ↔ _
      unfold compareOfLessAndEq
      by_cases h : x < y
      · rw [if_pos h]; simp; omega
      · rw [if_neg h]; split <;> simp <;> omega
    have lt_ : ∀ {x y : Int}, some (compare x y) = some Ordering.lt ↔ x < y := fun {x y} => by
      show some (compareOfLessAndEq x y) = _ ↔ _
      unfold compareOfLessAndEq
      by_cases h : x < y
      · rw [if_pos h]; simp; exact h
      · rw [if_neg h]; split <;> simp <;> omega
    have hrz : rzD a = if 9223372036854775808 ≤ a then -((a % 9223372036854775808 : Nat) : Int) else ((a % 9223372036854775808 : Nat) : Int) := by
      unfold rzD negD
      by_cases h : 9223372036854775808 ≤ a
      · rw [if_pos h, if_pos (decide_eq_true h)]
      · rw [if_neg h, if_neg (fun e => h (of_decide_eq_true e))]
    by_cases h1 : 4890909195324358656 ≤ rzD a
    · rw [if_pos (gte.2 h1)]
      by_cases hs : 9223372036854775808 ≤ a
      · rw [hrz, if_pos hs] at h1; omega
      · rw [hrz, if_neg hs] at h1
        rw [if_pos (by omega), if_neg hs]
    · rw [if_neg (fun h => h1 (gte.1 h))]
      -- what is left is made whole
      have hnum : a % 9223372036854775808 < 9218868437227405312 → (((f64.decode a).toInt .zero).getD 0) = (if 9223372036854775808 ≤ a then -(((if 0 ≤ partsE (a % 9223372036854775808) then partsM (a % 9223372036854775808) * 2 ^ (partsE (a % 9223372036854775808)).toNat else partsM (a % 9223372036854775808) / 2 ^ (-partsE (a % 9223372036854775808)).toNat : Nat)) : Int) else (((if 0 ≤ partsE (a % 9223372036854775808) then partsM (a % 9223372036854775808) * 2 ^ (partsE (a % 9223372036854775808)).toNat else partsM (a % 9223372036854775808) / 2 ^ (-partsE (a % 9223372036854775808)).toNat : Nat)) : Int)) := fun hlt => by
        have hr : f64.decode a = .number (negD a) (partsM (a % 9223372036854775808)) (partsE (a % 9223372036854775808)) := read_num ha hlt
        rw [hr]
        have e1 : ∀ {s m i}, (((Datum.number s m i).toInt .zero).getD 0) = signed s (Toward.zero.cut s (m <<< i.toNat) (-i).toNat) 0 := rfl
        rw [e1, cut_zeroE, shl, signed_eq]
        have e2 : partsM (a % 9223372036854775808) * 2 ^ (partsE (a % 9223372036854775808)).toNat / 2 ^ (-partsE (a % 9223372036854775808)).toNat = if 0 ≤ partsE (a % 9223372036854775808) then partsM (a % 9223372036854775808) * 2 ^ (partsE (a % 9223372036854775808)).toNat else partsM (a % 9223372036854775808) / 2 ^ (-partsE (a % 9223372036854775808)).toNat := by
          by_cases h : 0 ≤ partsE (a % 9223372036854775808)
          · rw [if_pos h, show (-partsE (a % 9223372036854775808)).toNat = 0 by omega, Nat.pow_zero, Nat.div_one]
          · rw [if_neg h, show (partsE (a % 9223372036854775808)).toNat = 0 by omega, Nat.pow_zero, Nat.mul_one]
        rw [e2, Nat.pow_zero, Nat.mul_one]
        unfold negD
        by_cases hs : 9223372036854775808 ≤ a
        · rw [if_pos hs, if_pos (decide_eq_true hs)]
        · rw [if_neg hs, if_neg (fun e => hs (of_decide_eq_true e))]
      by_cases h2 : rzD a < -4890909195324358656
      · rw [if_pos (lt_.2 h2)]
        by_cases hs : 9223372036854775808 ≤ a
        · rw [hrz, if_pos hs] at h2
          rw [if_pos (by omega), if_pos hs]
        · rw [hrz, if_neg hs] at h2; omega
      · rw [if_neg (fun h => h2 (lt_.1 h))]
        by_cases h3 : 4890909195324358656 ≤ a % 9223372036854775808
        · -- just the least whole number
          have hs : 9223372036854775808 ≤ a := Classical.byContradiction fun hs => by rw [hrz, if_neg hs] at h1; omega
          rw [hrz, if_pos hs] at h2
          have e3 : a % 9223372036854775808 = 4890909195324358656 := by omega
          rw [if_pos h3, hnum (by omega), e3, if_pos hs, if_pos hs]
          rfl
        · rw [if_neg h3, hnum (by omega)]

/-! All instructions. -/
def fltD (op b c : Int) : Int :=
  let x := (IntKind.wrap .u64 b).toNat
  let y := (IntKind.wrap .u64 c).toNat
  if op = 15 then IntKind.wrap .i64 (addD x y : Int)
  else if op = 16 then (if isNaND y then IntKind.wrap .i64 9221120237041090560 else IntKind.wrap .i64 (addD x (if 9223372036854775808 ≤ y then y - 9223372036854775808 else y + 9223372036854775808) : Int))
  else if op = 17 then IntKind.wrap .i64 (mulD x y : Int)
  else if op = 18 then IntKind.wrap .i64 (divD x y : Int)
  else if op = 19 then belowD x y
  else if op = 20 then IntKind.wrap .i64 (toFloatD b : Int)
  else if op = 21 then wholeD x
  else 0

theorem res_eq {o : Option Nat} {r : Nat} (h : outD o = r) (hn : ∀ r, o = some r → isNaND r = false) (hlt : ∀ r, o = some r → r < 18446744073709551616) : resP o = IntKind.wrap .i64 (r : Int) := by
  cases o with
  | none =>
    have : 9221120237041090560 = r := h
    subst this
    rfl
  | some f =>
    have : f = r := h
    subst this
    show bitsP f = _
    unfold bitsP
    rw [isNaN_eq (hlt f rfl), hn f rfl, if_neg (by decide)]

theorem sub_eq {a b : Nat} (ha : a < 18446744073709551616) (hb : b < 18446744073709551616) (hn : isNaND b = false) : dbl.sub a b = dbl.add a (if 9223372036854775808 ≤ b then b - 9223372036854775808 else b + 9223372036854775808) := by
  unfold Format.sub Format.add
  congr 2
  have nb : ¬ 9218868437227405312 < b % 9223372036854775808 := fun h => by unfold isNaND at hn; rw [decide_eq_true h] at hn; cases hn
  have hb' : (if 9223372036854775808 ≤ b then b - 9223372036854775808 else b + 9223372036854775808) < 18446744073709551616 := by split <;> omega
  have hm : (if 9223372036854775808 ≤ b then b - 9223372036854775808 else b + 9223372036854775808) % 9223372036854775808 = b % 9223372036854775808 := by split <;> omega
  have hng : negD (if 9223372036854775808 ≤ b then b - 9223372036854775808 else b + 9223372036854775808) = !negD b := by
    unfold negD
    by_cases h : 9223372036854775808 ≤ b
    · rw [if_pos h, decide_eq_true h, decide_eq_false (by omega)]; rfl
    · rw [if_neg h, decide_eq_false h, decide_eq_true (by omega)]; rfl
  by_cases ib : b % 9223372036854775808 = 9218868437227405312
  · rw [read_inf hb ib, read_inf hb' (by rw [hm]; exact ib), hng]; rfl
  · rw [read_num hb (by omega), read_num hb' (by rw [hm]; omega), hng, hm]; rfl

theorem sub_nan {a b : Nat} (ha : a < 18446744073709551616) (hb : b < 18446744073709551616) (hn : isNaND b = true) : dbl.sub a b = none := by
  unfold Format.sub
  rw [read_nan hb (of_decide_eq_true hn)]
  have : ∀ d : Datum, d.sum (Datum.opposite (.nan (negD b) (b % 9223372036854775808 - 9218868437227405312))) = none := fun d => by cases d <;> rfl
  rw [this]; rfl

theorem floatP_lt {b : Int} : floatP b < 18446744073709551616 := by
  unfold floatP IntKind.wrap
  simp [IntKind.signed, IntKind.bits]
  omega

/-- The program's floats are the document's. -/
theorem flt_doc {op b c : Int} : fltP op b c = fltD op b c := by
  unfold fltP fltD
  dsimp only
  have hx := floatP_lt (b := b)
  have hy := floatP_lt (b := c)
  rw [show (IntKind.wrap .u64 b).toNat = floatP b from rfl, show (IntKind.wrap .u64 c).toNat = floatP c from rfl]
  have lt64 : ∀ {o : Option Datum} {r : Nat}, o.map dbl.write = some r → (∀ d, o = some d → (∃ s, d = .infinity s) ∨ ∃ s m e, d = .number s m e) → r < 18446744073709551616 := fun {o r} h hd => by
    cases o with
    | none => cases h
    | some d =>
      have h : dbl.write d = r := Option.some.inj h
      subst h
      rcases hd d rfl with ⟨s, rfl⟩ | ⟨s, m, e, rfl⟩
      · rw [write_infS]; cases s <;> decide
      · rw [write_num]; exact roundedD_mod.2
  have sumd : ∀ {d e : Datum} {x : Datum}, d.sum e = some x → (∃ s, x = .infinity s) ∨ ∃ s m i, x = .number s m i := fun {d e x} h => by
    cases d <;> cases e <;> simp only [Datum.sum] at h <;> first | (cases h; exact .inl ⟨_, rfl⟩) | (cases h; exact .inr ⟨_, _, _, rfl⟩) | (cases h; done) | (split at h <;> cases h; exact .inl ⟨_, rfl⟩)
  have prod : ∀ {d e : Datum} {x : Datum}, d.product e = some x → (∃ s, x = .infinity s) ∨ ∃ s m i, x = .number s m i := fun {d e x} h => by
    cases d <;> cases e <;> simp only [Datum.product] at h <;> first | (cases h; exact .inl ⟨_, rfl⟩) | (cases h; exact .inr ⟨_, _, _, rfl⟩) | (cases h; done) | (split at h <;> cases h; exact .inl ⟨_, rfl⟩)
  have quod : ∀ {n : Nat} {d e : Datum} {x : Datum}, d.quotient n e = some x → (∃ s, x = .infinity s) ∨ ∃ s m i, x = .number s m i := fun {n d e x} h => by
    cases d <;> cases e <;> simp only [Datum.quotient] at h <;> first | (cases h; exact .inl ⟨_, rfl⟩) | (cases h; exact .inr ⟨_, _, _, rfl⟩) | (cases h; done) | skip
    split at h
    · split at h <;> cases h
      exact .inl ⟨_, rfl⟩
    · cases h; exact .inr ⟨_, _, _, rfl⟩
  generalize floatP b = x at *
  generalize floatP c = y at *
  by_cases h15 : op = 15
  · rw [if_pos h15, if_pos h15]
    exact res_eq (add_eq hx hy).1 (add_eq hx hy).2 fun r hr => lt64 hr fun d hd => sumd hd
  rw [if_neg h15, if_neg h15]
  by_cases h16 : op = 16
  · rw [if_pos h16, if_pos h16]
    by_cases hn : isNaND y = true
    · rw [if_pos hn]
      show resP (dbl.sub x y) = _
      rw [sub_nan hx hy hn]; rfl
    · rw [if_neg hn]
      show resP (dbl.sub x y) = _
      have hn' : isNaND y = false := by simpa using hn
      rw [sub_eq hx hy hn']
      have hy' : (if 9223372036854775808 ≤ y then y - 9223372036854775808 else y + 9223372036854775808) < 18446744073709551616 := by split <;> omega
      exact res_eq (add_eq hx hy').1 (add_eq hx hy').2 fun r hr => lt64 hr fun d hd => sumd hd
  rw [if_neg h16, if_neg h16]
  by_cases h17 : op = 17
  · rw [if_pos h17, if_pos h17]
    exact res_eq (mul_eq hx hy).1 (mul_eq hx hy).2 fun r hr => lt64 hr fun d hd => prod hd
  rw [if_neg h17, if_neg h17]
  by_cases h18 : op = 18
  · rw [if_pos h18, if_pos h18]
    exact res_eq (div_eq hx hy).1 (div_eq hx hy).2 fun r hr => lt64 hr fun d hd => quod hd
  rw [if_neg h18, if_neg h18]
  by_cases h19 : op = 19
  · rw [if_pos h19, if_pos h19]; exact below_eq hx hy
  rw [if_neg h19, if_neg h19]
  by_cases h20 : op = 20
  · rw [if_pos h20, if_pos h20, float_eq]
    unfold bitsP toFloatD
    have h2 := roundedD_mod (s := decide (b < 0)) (m := b.natAbs) (e := 0) (b := false)
    rw [isNaN_eq h2.2, if_neg (fun h => by have := of_decide_eq_true h; omega)]
  rw [if_neg h20, if_neg h20]
  by_cases h21 : op = 21
  · rw [if_pos h21, if_pos h21]; exact whole_eq hx
  · rw [if_neg h21, if_neg h21]
end Lf



/-
  Fields of elements; parts of slices by their places; copies into a block.
-/
namespace Lf
open Go

section
variable {α : Type} {h : Hp} {sz : Nat} {enc : α → List Value} {l : Sl} {xs : List α}

theorem Blk.rd {b : Nat} {cs new : List Value} (k : Blk h b cs) {off n : Nat} (hn : new.length = n) (e : (cs.drop off).take n = new) : RdCells h (some ⟨b, off, none⟩) n new := ⟨hn, .inr ⟨_, rfl, k.ldIs e⟩⟩

theorem set_split {xs : List α} {i : Nat} (x : α) (hi : i < xs.length) : xs.set i x = xs.take i ++ x :: xs.drop (i + 1) := by
  rw [List.set_eq_take_append_cons_drop, if_pos hi]

/-- An element is written over. -/
theorem OwnF.store {F : List Nat} (o : OwnF h sz enc l xs F) (henc : ∀ x, (enc x).length = sz) {i : Int} (h0 : 0 ≤ i) (h1 : i < (xs.length : Int)) (x : α) {K : Hp → Prop} (hk : ∀ h', OwnF h' sz enc l (xs.set i.toNat x) F → Mv F h F h' → K h') :
    InB l.base l.len i ∧ StW h (sat l.base sz i) (enc x) K := by
  obtain ⟨o1, o2, o3⟩ := o
  rcases o3 with ⟨_, e2, _⟩ | ⟨b, cs, e1, rfl, kb, e4, e5⟩
  · omega
  · refine ⟨⟨by rw [e1]; simp, h0, by omega⟩, ?_⟩
    have hi : i.toNat < xs.length := by omega
    have ha : sat l.base sz i = ⟨b, i.toNat * sz, none⟩ := by unfold sat; rw [e1, Option.getD_some, box_add, Nat.zero_add]
    rw [ha]
    have hmul : i.toNat * sz + sz ≤ l.len * sz := by
      have := Nat.mul_le_mul_right sz (show i.toNat + 1 ≤ l.len by omega)
      grind
    have hmul2 : l.len * sz ≤ l.cap * sz := Nat.mul_le_mul_right sz o2
    refine stW_blk kb (by grind) fun h' m' k' => ?_
    rw [henc] at k'
    refine hk h' ⟨by simp [o1], o2, .inr ⟨b, _, e1, rfl, k', ?_, ?_⟩⟩ m'
    · grind
    · rw [set_split x hi]
      have t1 : cs.take (i.toNat * sz) = (xs.take i.toNat).flatMap enc := by
        rw [flat_take henc, ← e5, List.take_take]; congr 1; omega
      have t2 : (cs.drop (i.toNat * sz + sz)).take (l.len * sz - (i.toNat * sz + sz)) = (xs.drop (i.toNat + 1)).flatMap enc := by
        rw [flat_drop henc, ← e5, Nat.add_mul, Nat.one_mul, List.drop_take]
      have hl1 : (cs.take (i.toNat * sz) ++ enc x).length = i.toNat * sz + sz := by
        grind
      rw [List.take_append, hl1, t2, List.take_of_length_le (by omega), t1]
      simp

end
end Lf

/-
  What is done with is held in a part of memory.
-/
namespace Lf
open Go

/-- A memory without some blocks. -/
def cutH (k : Hp) (R : List Nat) : Hp := fun b => if b ∈ R then none else k b

theorem cut_le {k : Hp} {R : List Nat} : cutH k R ≤ k := fun b o e => by
  unfold cutH at e
  grind

theorem cut_none {k : Hp} {R : List Nat} {b : Nat} (h : b ∈ R) : cutH k R b = none := by
  unfold cutH
  rw [if_pos h]

theorem cut_eq {k : Hp} {R : List Nat} {b : Nat} (h : b ∉ R) : cutH k R b = k b := by
  unfold cutH
  rw [if_neg h]

theorem le_cut {d k : Hp} {R : List Nat} (hl : d ≤ k) (hn : ∀ b ∈ R, d b = none) : d ≤ cutH k R := fun b o e => by
  rw [cut_eq fun hb => by grind]
  exact hl b o e

theorem hcell_same {h h' : Hp} {a : Addr} (e : h' a.block = h a.block) : hcell h' a = hcell h a := by
  unfold hcell
  rw [e]

theorem addr_block (a : Addr) (n : Nat) : (a.add n).block = a.block := by
  unfold Addr.add
  split <;> rfl

theorem ldIs_same {h h' : Hp} {a : Addr} {cs : List Value} (l : LdIs h a cs) (e : h' a.block = h a.block) : LdIs h' a cs := fun i v hv => by
  have : hcell h' (a.add i) = hcell h (a.add i) := hcell_same (a := a.add i) (by rw [addr_block]; exact e)
  rw [this]
  exact l i v hv

section
variable {α : Type} {h h' : Hp} {sz : Nat} {enc : α → List Value} {l : Sl} {xs : List α} {F : List Nat}

theorem Rw.same (r : Rw h sz enc l xs) (e : ∀ a, l.base = some a → h' a.block = h a.block) : Rw h' sz enc l xs := by
  obtain ⟨h1, h2, h3⟩ := r
  refine ⟨h1, h2, h3.imp id ?_⟩
  rintro ⟨a, ha, hl⟩
  exact ⟨a, ha, ldIs_same hl (e a ha)⟩

theorem Rw.nil {l : Sl} (hl : l.len = 0) : Rw h sz enc l ([] : List α) := ⟨hl, (by simp), .inl (by simp)⟩

theorem OwnF.cut {R : List Nat} (o : OwnF h sz enc l xs F) (hd : ∀ b ∈ F, b ∉ R) : OwnF (cutH h R) sz enc l xs F := o.same fun b hb => cut_eq (hd b hb)

theorem OwnF.base (o : OwnF h sz enc l xs F) {a : Addr} (ha : l.base = some a) : F = [a.block] := by
  obtain ⟨_, _, h3⟩ := o
  grind

end
end Lf

/-
  What stays of a slice that is read while others are written.
-/
namespace Lf
open Go

theorem hcell_known {h : Hp} {a : Addr} {v : Value} (e : hcell h a = some v) : ∃ o, h a.block = some o := by
  unfold hcell at e
  grind

theorem ldIs_mv {F F' : List Nat} {h h' : Hp} {a : Addr} {cs : List Value} (l : LdIs h a cs) (m : Mv F h F' h') (hn : a.block ∉ F) : LdIs h' a cs := fun i v hv => by
  have h1 := l i v hv
  obtain ⟨o, ho⟩ := hcell_known h1
  have hb : (a.add i).block = a.block := addr_block a i
  rw [hcell_same (h := h) (h' := h') (a := a.add i) (by rw [ho]; exact m.keep _ _ ho (by rw [hb]; exact hn))]
  exact h1

section
variable {α : Type} {h h' : Hp} {sz : Nat} {enc : α → List Value} {l : Sl} {xs : List α} {F F' : List Nat}

theorem Rw.known (r : Rw h sz enc l xs) {a : Addr} (ha : l.base = some a) (h0 : xs.length * sz ≠ 0) : h a.block ≠ none := by
  obtain ⟨h1, h2, h3⟩ := r
  obtain ⟨a', ha', hl⟩ := h3.resolve_left h0
  rw [ha] at ha'
  cases ha'
  have hne : (xs.flatMap enc).length ≠ 0 := by rw [h2]; exact h0
  obtain ⟨v, hv⟩ : ∃ v, (xs.flatMap enc)[0]? = some v := ⟨(xs.flatMap enc)[0]'(by omega), List.getElem?_eq_getElem (by omega)⟩
  obtain ⟨o, ho⟩ := hcell_known (hl 0 v hv)
  rw [addr_block] at ho
  rw [ho]
  simp

end
end Lf

/-
  A row that is made of a new one.
-/
namespace Lf
open Go

theorem app_new {α : Type} {h0 h : Hp} {sz n bytes : Nat} {enc : α → List Value} {zero cs : List Value} {l : Sl} {xs ys : List α} {K : Sl → Hp → Prop} (hw : h0 ≤ h) (o : Own h0 h sz enc l xs) (hc : cs = ys.flatMap enc) (hn : n = ys.length)
    (henc : ∀ x, (enc x).length = sz) (hok : ∀ x, okCells (enc x) = true) (hz : zero.length = sz) (hb : xs.length + ys.length ≤ 140737488355328 ∧ (xs.length + ys.length) * bytes ≤ 140737488355328)
    (hk : ∀ l' h', h0 ≤ h' → Own h0 h' sz enc l' (xs ++ ys) → (∀ b ob, h b = some ob → (∀ a, l.base = some a → a.block ≠ b) → h' b = some ob) → K l' h') : NewW cs (fun a h2 => AppendW sz bytes zero l ⟨some a, n, n⟩ K h2) h := by
  subst hn
  refine new_row (h0 := h0) hw hc henc fun a h2 hle ho2 => ?_
  refine app_own (Hp.le_trans hw hle) (o.mono hle) (ho2.rw henc) henc hok hz hb fun l' h' hl' ho' hk' => hk l' h' hl' ho' fun b ob e hne => hk' b ob (hle b ob e) hne

end Lf

/-
  The document's whole numbers of any size: lists of 32 bits each.
-/
namespace Lf
open Go Go.Proofs

def valI : List Int → Int
  | [] => 0
  | d :: ds => d + 4294967296 * valI ds
def Dig (ds : List Int) : Prop := ∀ d ∈ ds, 0 ≤ d ∧ d < 4294967296
abbrev R32 (h : Hp) (l : Sl) (ds : List Int) : Prop := Rs h (shInt .u32) 1 l ds
/-- A whole number in memory. -/
def Nt (h : Hp) (s : Sl) (x : Nat) : Prop := ∃ ds, R32 h s ds ∧ s.len ≤ s.cap ∧ Dig ds ∧ valI ds = x ∧ ds.getLast? ≠ some 0

theorem Dig.app {a b : List Int} (h1 : Dig a) (h2 : Dig b) : Dig (a ++ b) := fun d hd => (List.mem_append.1 hd).elim (h1 d) (h2 d)
theorem Dig.one {d : Int} (h0 : 0 ≤ d) (h1 : d < 4294967296) : Dig [d] := fun x hx => by rw [List.mem_singleton.1 hx]; exact ⟨h0, h1⟩
theorem Dig.zeros (n : Nat) : Dig (List.replicate n 0) := fun d hd => by rw [(List.mem_replicate.1 hd).2]; omega

theorem valI_app : ∀ (a b : List Int), valI (a ++ b) = valI a + 4294967296 ^ a.length * valI b
  | [], b => by simp [valI]
  | d :: a, b => by
    rw [List.cons_append, valI, valI_app a b, valI, List.length_cons, Int.pow_succ]
    grind

theorem valI_zeros : ∀ n, valI (List.replicate n 0) = 0
  | 0 => rfl
  | n + 1 => by rw [List.replicate_succ, valI, valI_zeros n]; rfl

theorem valI_pos : ∀ {a : List Int}, Dig a → 0 ≤ valI a
  | [], _ => by simp [valI]
  | d :: a, h => by
    have := h d (List.mem_cons_self ..)
    have := valI_pos (a := a) fun x hx => h x (List.mem_cons_of_mem _ hx)
    rw [valI]
    omega

theorem valI_lt : ∀ {a : List Int}, Dig a → valI a < 4294967296 ^ a.length
  | [], _ => by simp [valI]
  | d :: a, h => by
    have := h d (List.mem_cons_self ..)
    have := valI_lt (a := a) fun x hx => h x (List.mem_cons_of_mem _ hx)
    rw [valI, List.length_cons, Int.pow_succ]
    omega

theorem pow_mono32 {m n : Nat} (h : m ≤ n) : (4294967296 : Int) ^ m ≤ 4294967296 ^ n := by
  have h1 := Int.ofNat_le.2 (Nat.pow_le_pow_right (n := 4294967296) (by decide) h)
  rw [Int.natCast_pow, Int.natCast_pow] at h1
  exact h1
theorem pow_pos32 (n : Nat) : (0 : Int) < 4294967296 ^ n := Int.pow_pos (by decide)

/-- As long as it must be. -/
theorem norm_len {a : List Int} (h : Dig a) (hl : a.getLast? ≠ some 0) {L : Nat} (hx : valI a < 4294967296 ^ L) : a.length ≤ L := by
  refine Classical.byContradiction fun hn => ?_
  have hne : a ≠ [] := fun e => by subst e; exact hn (Nat.zero_le _)
  obtain ⟨b, d, e⟩ := List.eq_nil_or_concat a |>.resolve_left hne
  rw [List.concat_eq_append] at e
  subst e
  rw [List.getLast?_concat] at hl
  rw [List.length_append, List.length_singleton] at hn
  have hd := h d (by simp)
  have hb := valI_pos (a := b) fun x hx => h x (List.mem_append_left _ hx)
  rw [valI_app] at hx
  have h1 : (4294967296 : Int) ^ L ≤ 4294967296 ^ b.length := pow_mono32 (by omega)
  have h2 := pow_pos32 b.length
  have h3 : (4294967296 : Int) ^ b.length * 1 ≤ 4294967296 ^ b.length * d := Int.mul_le_mul_of_nonneg_left (by have : d ≠ 0 := fun e => hl (by rw [e]); omega) (by omega)
  simp only [valI] at hx
  rw [show d + 4294967296 * 0 = d by omega] at hx
  omega

theorem e32_len : ∀ x : (shInt .u32).T, (cellsL ((shInt .u32).enc x)).length = 1 := fun _ => rfl
theorem e32_ok : ∀ x : (shInt .u32).T, okCells (cellsL ((shInt .u32).enc x)) = true := fun _ => rfl

theorem Nt.mono {h h' : Hp} {s : Sl} {x : Nat} (hl : h ≤ h') : Nt h s x → Nt h' s x := fun ⟨ds, a, b⟩ => ⟨ds, a.mono hl, b⟩
theorem Nt.len {h : Hp} {s : Sl} {x L : Nat} (n : Nt h s x) (hx : x < 2 ^ (32 * L)) : s.len ≤ L := by
  obtain ⟨ds, a, b, c, d, e⟩ := n
  rw [a.1]
  refine norm_len c e ?_
  rw [d]
  rw [Nat.pow_mul] at hx
  have : ((x : Nat) : Int) < (((2 ^ 32) ^ L : Nat) : Int) := Int.ofNat_lt.2 hx
  rw [Int.natCast_pow] at this
  exact this
theorem Nt.zero {h : Hp} {s : Sl} {x : Nat} (n : Nt h s x) : s.len = 0 ↔ x = 0 := by
  constructor
  · intro hs
    obtain ⟨ds, a, b, c, d, e⟩ := n
    have h1 : ds.length = 0 := by rw [← a.1]; exact hs
    have h2 := List.length_eq_zero_iff.1 h1
    subst h2
    simp only [valI] at d
    omega
  · rintro rfl
    have := n.len (L := 0) (by decide)
    omega

section
variable {P : Program} {h : Hp}

theorem trim_ok {a : Sl} {ds : List Int} {Q : Sl → Hp → Prop} (r : R32 h a ds) (hc : a.len ≤ a.cap) (hb : a.len < 1000000) (hd : Dig ds) (hk : ∀ r, Nt h r (valI ds).toNat → Q r h) : firebreakref05_trim_w P a Q h := by
  unfold firebreakref05_trim_w
  refine LoopW1.intro (fun a1 h1 => h1 = h ∧ ∃ d1, R32 h a1 d1 ∧ a1.len ≤ a1.cap ∧ a1.len < 1000000 ∧ Dig d1 ∧ valI d1 = valI ds) (fun a1 _ => a1.len) ⟨rfl, ds, r, hc, hb, hd, rfl⟩ ?_
  rintro a1 h1 ⟨rfl, d1, r1, c1, b1, g1, v1⟩
  refine Rs.getC r1 (0 : Int) e32_len (by decide) (fun e => ?_) fun x hx => ?_
  · have e0 := of_decide_eq_true e
    rw [wrap64 (by omega) (by omega)]
    have := r1.1
    omega
  refine letW ?_
  by_cases hp : ((a1.len : Nat) : Int) > 0
  · have hx' := hx (decide_eq_true hp)
    rw [wrap64 (by omega) (by omega)] at hx' ⊢
    rw [decide_eq_true hp, Bool.true_and]
    have el := r1.1
    have hlast : d1.getLast? = some x := by
      rw [List.getLast?_eq_getElem?]
      rw [show (((a1.len : Nat) : Int) - 1).toNat = d1.length - 1 by omega] at hx'
      exact hx'
    obtain ⟨d2, rfl⟩ := List.getLast?_eq_some_iff.1 hlast
    by_cases e : x = 0
    · rw [if_pos (by simpa using e)]
      refine ⟨⟨by omega, by omega⟩, letW ?_⟩
      have e1 : sbase a1.base 1 0 a1.cap = a1.base := by unfold sbase; split <;> simp [Addr.add]
      have e2 : (((a1.len : Nat) : Int) - 1).toNat - 0 = d2.length := by
        rw [List.length_append, List.length_singleton] at el
        omega
      rw [List.length_append, List.length_singleton] at el
      rw [e1, e2]
      refine ⟨⟨rfl, d2, ⟨rfl, ?_⟩, by show d2.length ≤ a1.cap - 0; omega, by show d2.length < _; omega, fun y hy => g1 y (List.mem_append_left _ hy), ?_⟩, by show d2.length < _; omega⟩
      · obtain ⟨_, hr1, hr2⟩ := r1
        refine ⟨flat_len e32_len d2, ?_⟩
        rcases hr2 with hr2 | ⟨a, ha, hr2⟩
        · simp at hr2
        · refine .inr ⟨a, ha, fun i v hv => hr2 i v ?_⟩
          rw [List.flatMap_append, List.getElem?_append_left (List.getElem?_eq_some_iff.1 hv).1]
          exact hv
      · rw [← v1, valI_app, e]
        simp [valI]
    · rw [if_neg (by simpa using e)]
      refine (hk a1 ⟨_, r1, c1, g1, ?_, ?_⟩)
      · rw [v1]; have := valI_pos hd; omega
      · rw [hlast]; intro e'; exact e (Option.some.inj e')
  · rw [decide_eq_false hp, Bool.false_and, if_neg (by simp)]
    have el := r1.1
    have : d1 = [] := List.length_eq_zero_iff.1 (by omega)
    subst this
    exact hk a1 ⟨_, r1, c1, g1, by rw [v1]; have := valI_pos hd; omega, by simp⟩

abbrev O32 (h0 h : Hp) (l : Sl) (ds : List Int) : Prop := Own h0 h 1 (fun x => cellsL ((shInt .u32).enc x)) l ds

theorem app32 {h0 : Hp} {out : Sl} {os : List Int} {v : Int} {K : Sl → Hp → Prop} (hw : h0 ≤ h) (o : O32 h0 h out os) (hb : os.length < 1000000) (hk : ∀ l' h', h0 ≤ h' → O32 h0 h' l' (os ++ [v]) → K l' h') :
    NewW [(.int .u32 v)] (fun a2 h3 => AppendW 1 4 [(.int .u32 (0 : Int))] ⟨out.base, out.len, out.cap⟩ ⟨some a2, 1, 1⟩ K h3) h :=
  app_new hw o (ys := [v]) rfl rfl e32_len e32_ok rfl (by simp only [List.length_singleton]; omega) fun l' h' a b _ => hk l' h' a b

theorem O32.r {h0 : Hp} {l : Sl} {ds : List Int} (o : O32 h0 h l ds) : R32 h l ds := o.rw e32_len
theorem nil32 {K : Addr → Hp → Prop} (hk : ∀ a h', h ≤ h' → O32 h h' ⟨some a, 0, 0⟩ [] → K a h') : NewW [] K h := new_row (xs := ([] : List Int)) (h0 := h) (Hp.le_refl h) rfl e32_len hk

theorem wrap32 (x : Int) : IntKind.wrap .u32 x = x % 4294967296 := rfl
theorem wrapU64 (x : Int) : IntKind.wrap .u64 x = x % 18446744073709551616 := rfl
theorem shrU (x : Int) (n : Nat) (hn : n ≤ 64) : shrI .u64 x (n : Int) = x / 2 ^ n := by
  unfold shrI
  rw [show min ((n : Int)).toNat IntKind.u64.bits = n by have : IntKind.u64.bits = 64 := rfl; omega]
  exact Int.fdiv_eq_ediv_of_nonneg _ (by have := Int.pow_pos (n := 2) (m := n) (by decide); omega)
theorem shr32 (x : Int) : shrI .u64 x (32 : Int) = x / 4294967296 := shrU x 32 (by decide)
theorem take_one {ds : List Int} {i : Nat} {x : Int} (h : ds[i]? = some x) : ds.take (i + 1) = ds.take i ++ [x] := by rw [List.take_add_one, h]; rfl
theorem carry {os t : List Int} {c d x : Int} {i : Nat} (e1 : os.length = i) (e2 : t.length = i) (b : Int) (hv : valI os + 4294967296 ^ i * c = b) (h : c + x = d % 4294967296 + 4294967296 * (d / 4294967296)) :
    valI (os ++ [d % 4294967296]) + 4294967296 ^ (i + 1) * (d / 4294967296) = b + 4294967296 ^ i * x := by
  rw [valI_app, e1, Int.pow_succ, ← hv]
  simp only [valI]
  grind

theorem times_ok {a : Sl} {ds : List Int} {m : Int} {Q : Sl → Hp → Prop} (r : R32 h a ds) (hd : Dig ds) (hb : ds.length < 100000) (m0 : 0 ≤ m) (m1 : m < 4294967296) (hk : ∀ r h', h ≤ h' → Nt h' r (valI ds * m).toNat → Q r h') : firebreakref05_times_w Tryz.prog a m Q h := by
  unfold firebreakref05_times_w
  have el := r.1
  refine nil32 fun a1 h1 hle o1 => ?_
  refine LoopW3.intro (fun out c i h2 => 0 ≤ i ∧ i ≤ (ds.length : Int) ∧ h ≤ h2 ∧ 0 ≤ c ∧ c < 4294967296 ∧ ∃ os, O32 h h2 out os ∧ Dig os ∧ os.length = i.toNat ∧ valI os + 4294967296 ^ i.toNat * c = valI (ds.take i.toNat) * m) (fun _ _ i _ => (ds.length - i).toNat)
    ⟨by omega, by omega, hle, by omega, by omega, [], o1, fun _ hx => (by cases hx), rfl, by simp [valI]⟩ ?_
  rintro out c i h2 ⟨i0, i1, hl2, c0, c1, os, o2, g2, len2, v2⟩
  by_cases hi : i < (ds.length : Int)
  · rw [if_pos (decide_eq_true (by omega))]
    refine Rs.get (r.mono hl2) e32_len (by decide) i0 hi fun (x : Int) hx => ?_
    have hx' : 0 ≤ x ∧ x < 4294967296 := hd x (List.mem_of_getElem? hx)
    have hm : (0 : Int) ≤ x * m := Int.mul_nonneg hx'.1 m0
    have hm2 : x * m ≤ 4294967295 * 4294967295 := Int.mul_le_mul (by omega) (by omega) m0 (by omega)
    have e1 : IntKind.wrap .u64 (c + (IntKind.wrap .u64 ((IntKind.wrap .u64 x) * (IntKind.wrap .u64 m)))) = c + x * m := by
      rw [wrapU64 x, wrapU64 m, Int.emod_eq_of_lt hx'.1 (by omega), Int.emod_eq_of_lt m0 (by omega), wrapU64, wrapU64, Int.emod_eq_of_lt hm (by omega), Int.emod_eq_of_lt (by omega) (by omega)]
    rw [e1, wrap32, shr32]
    generalize hy : x * m = y at *
    refine app32 hl2 o2 (by omega) fun l' h' hl' o' => ⟨by omega, ?_⟩
    rw [wrap64 (by omega) (by omega)]
    have ei : (i + 1).toNat = i.toNat + 1 := by omega
    refine ⟨⟨by omega, by omega, hl', by omega, by omega, _, o', g2.app (Dig.one (by omega) (by omega)), by rw [List.length_append, len2, ei]; rfl, ?_⟩, by omega⟩
    rw [ei, take_one hx, carry len2 (t := ds.take i.toNat) (by rw [List.length_take]; omega) _ v2 (x := y) (by omega), valI_app, List.length_take, show min i.toNat ds.length = i.toNat by omega]
    simp only [valI]
    rw [← hy]
    grind
  · rw [if_neg (fun e => hi (by have := of_decide_eq_true e; omega)), wrap32, Int.emod_eq_of_lt c0 c1]
    refine app32 hl2 o2 (by omega) fun l' h' hl' o' => ?_
    refine firebreakref05_trim_call (trim_ok o'.r o'.2.1 (by rw [o'.1, List.length_append, List.length_singleton]; omega) (g2.app (Dig.one c0 c1)) fun r n => hk r h' hl' ?_)
    have : i.toNat = ds.length := by omega
    rw [this, List.take_length] at v2
    rw [valI_app] at n
    simp only [valI] at n
    rw [len2, this, show c + 4294967296 * 0 = c by omega, v2] at n
    exact n

end
end Lf

/-
  The document's whole numbers: sums, differences, which is greater, shifts.
-/
namespace Lf
open Go Go.Proofs

theorem take_val (ds : List Int) (i : Nat) : valI (ds.take (i + 1)) = valI (ds.take i) + 4294967296 ^ i * ds.getD i 0 := by
  by_cases h : i < ds.length
  · have hx : ds[i]? = some (ds.getD i 0) := by simp [List.getD, h]
    rw [take_one hx, valI_app, List.length_take, show min i ds.length = i by omega]
    simp only [valI]
    rw [show ds.getD i 0 + 4294967296 * 0 = ds.getD i 0 by omega]
  · rw [List.take_of_length_le (by omega), List.take_of_length_le (by omega), show ds.getD i 0 = 0 by simp [List.getD, List.getElem?_eq_none (show ds.length ≤ i by omega)]]
    omega
theorem dig_getD {ds : List Int} (h : Dig ds) (i : Nat) : 0 ≤ ds.getD i 0 ∧ ds.getD i 0 < 4294967296 := by
  unfold List.getD
  cases e : ds[i]? with
  | none => exact ⟨by decide, by decide⟩
  | some x => exact h x (List.mem_of_getElem? e)
theorem getD_of {ds : List Int} {i : Nat} {x : Int} (h : ds[i]? = some x) : ds.getD i 0 = x := by simp [List.getD, h]

section
variable {h : Hp}

theorem condAdd {a : Sl} {ds : List Int} {c i : Int} {k : Int → Hp → Prop} (r : R32 h a ds) (hd : Dig ds) (i0 : 0 ≤ i) (c0 : 0 ≤ c) (c1 : c < 8589934592) (hk : k (c + ds.getD i.toNat 0) h) :
    (if (decide (i < ((a.len : Nat) : Int))) = true then
     ((InB a.base a.len i) ∧ LdW none (shInt .u32) h (sat a.base 1 i) fun x =>
     k (IntKind.wrap .u64 (c + (IntKind.wrap .u64 x))) h)
     else
     k c h) := by
  have el := r.1
  by_cases hi : i < ((a.len : Nat) : Int)
  · rw [if_pos (decide_eq_true hi)]
    refine Rs.get r e32_len (by decide) i0 (by omega) fun (x : Int) hx => ?_
    have hx' : 0 ≤ x ∧ x < 4294967296 := hd x (List.mem_of_getElem? hx)
    rw [getD_of hx] at hk
    rw [wrapU64 x, Int.emod_eq_of_lt hx'.1 (by omega), wrapU64, Int.emod_eq_of_lt (by omega) (by omega)]
    exact hk
  · rw [if_neg (fun e => hi (of_decide_eq_true e))]
    rw [show ds.getD i.toNat 0 = 0 by simp [List.getD, List.getElem?_eq_none (show ds.length ≤ i.toNat by omega)], Int.add_zero] at hk
    exact hk

theorem sum_ok {a b : Sl} {x y : Nat} {Q : Sl → Hp → Prop} (ha : Nt h a x) (hb : Nt h b y) (la : a.len < 100000) (lb : b.len < 100000) (hk : ∀ r h', h ≤ h' → Nt h' r (x + y) → Q r h') : firebreakref05_sum_w Tryz.prog a b Q h := by
  obtain ⟨da, ra, _, ga, va, _⟩ := ha
  obtain ⟨db, rb, _, gb, vb, _⟩ := hb
  unfold firebreakref05_sum_w
  have ea := ra.1
  have eb := rb.1
  refine nil32 fun a1 h1 hle o1 => ?_
  refine LoopW3.intro (fun out c i h2 => 0 ≤ i ∧ i < 100000 ∧ h ≤ h2 ∧ 0 ≤ c ∧ c ≤ 1 ∧ ∃ os, O32 h h2 out os ∧ Dig os ∧ os.length = i.toNat ∧ valI os + 4294967296 ^ i.toNat * c = valI (da.take i.toNat) + valI (db.take i.toNat)) (fun _ _ i _ => (100000 - i).toNat)
    ⟨by omega, by omega, hle, by omega, by omega, [], o1, fun _ hx => (by cases hx), rfl, by simp [valI]⟩ ?_
  rintro out c i h2 ⟨i0, i1, hl2, c0, c1, os, o2, g2, len2, v2⟩
  refine letW ?_
  by_cases hi : i < (da.length : Int) ∨ i < (db.length : Int)
  · rw [if_pos (by simpa using (show i < ((a.len : Nat) : Int) ∨ i < ((b.len : Nat) : Int) by omega))]
    have d1 := dig_getD ga i.toNat
    have d2 := dig_getD gb i.toNat
    refine JoinW1.intro (fun c1 h3 => h3 = h2 ∧ c1 = c + da.getD i.toNat 0) (condAdd (k := fun c1 h3 => h3 = h2 ∧ c1 = c + da.getD i.toNat 0) (ra.mono hl2) ga i0 c0 (by omega) ⟨rfl, rfl⟩) ?_
    rintro c2 h3 ⟨rfl, rfl⟩
    refine JoinW1.intro (fun c1 h4 => h4 = h3 ∧ c1 = c + da.getD i.toNat 0 + db.getD i.toNat 0) (condAdd (k := fun c1 h4 => h4 = h3 ∧ c1 = c + da.getD i.toNat 0 + db.getD i.toNat 0) (rb.mono hl2) gb i0 (by omega) (by omega) ⟨rfl, rfl⟩) ?_
    rintro c3 h4 ⟨rfl, rfl⟩
    rw [wrap32, shr32]
    refine app32 hl2 o2 (by omega) fun l' h' hl' o' => ⟨by omega, ?_⟩
    rw [wrap64 (by omega) (by omega)]
    have ei : (i + 1).toNat = i.toNat + 1 := by omega
    refine ⟨⟨by omega, by omega, hl', by omega, by omega, _, o', g2.app (Dig.one (by omega) (by omega)), by rw [List.length_append, len2, ei]; rfl, ?_⟩, by omega⟩
    rw [ei, take_val, take_val]
    have := carry len2 (t := List.replicate i.toNat 0) (by simp) _ v2 (x := da.getD i.toNat 0 + db.getD i.toNat 0) (d := c + da.getD i.toNat 0 + db.getD i.toNat 0) (by omega)
    rw [this]
    grind
  · rw [if_neg (by simpa using (show ¬ (i < ((a.len : Nat) : Int) ∨ i < ((b.len : Nat) : Int)) by omega)), wrap32, Int.emod_eq_of_lt c0 (by omega)]
    refine app32 hl2 o2 (by omega) fun l' h' hl' o' => ?_
    refine firebreakref05_trim_call (trim_ok o'.r o'.2.1 (by rw [o'.1, List.length_append, List.length_singleton]; omega) (g2.app (Dig.one c0 (by omega))) fun r n => hk r h' hl' ?_)
    rw [List.take_of_length_le (by omega), List.take_of_length_le (by omega)] at v2
    rw [valI_app] at n
    simp only [valI] at n
    rw [len2, show c + 4294967296 * 0 = c by omega, v2, va, vb] at n
    exact n

def cmpN (x y : Nat) : Int := if x < y then -1 else if y < x then 1 else 0

theorem drop_val {ds : List Int} {i : Nat} {x : Int} (h : ds[i]? = some x) : valI ds = valI (ds.take i) + 4294967296 ^ i * (x + 4294967296 * valI (ds.drop (i + 1))) := by
  obtain ⟨e1, e2⟩ := List.getElem?_eq_some_iff.1 h
  conv => lhs; rw [← List.take_append_drop i ds, valI_app, List.length_take, show min i ds.length = i by omega, List.drop_eq_getElem_cons e1, e2]
  rfl

theorem compare_ok {a b : Sl} {x y : Nat} {Q : Int → Hp → Prop} (ha : Nt h a x) (hb : Nt h b y) (la : a.len < 100000) (lb : b.len < 100000) (hk : Q (cmpN x y) h) : firebreakref05_compare_w Tryz.prog a b Q h := by
  obtain ⟨da, ra, _, ga, va, na⟩ := ha
  obtain ⟨db, rb, _, gb, vb, nb⟩ := hb
  unfold firebreakref05_compare_w
  have ea := ra.1
  have eb := rb.1
  have la' := valI_lt ga
  have lb' := valI_lt gb
  by_cases hl : a.len = b.len
  · rw [if_neg (by simp [hl])]
    refine LoopW1.intro (fun i h1 => h1 = h ∧ -1 ≤ i ∧ i < (da.length : Int) ∧ da.drop (i + 1).toNat = db.drop (i + 1).toNat) (fun i _ => (i + 1).toNat) ⟨rfl, ?_, ?_, ?_⟩ ?_
    · rw [wrap64 (by omega) (by omega)]; omega
    · rw [wrap64 (by omega) (by omega)]; omega
    · rw [wrap64 (by omega) (by omega), List.drop_of_length_le (by omega), List.drop_of_length_le (by omega)]
    rintro i h1 ⟨rfl, i0, i1, he⟩
    by_cases hi : 0 ≤ i
    · rw [if_pos (decide_eq_true (show i ≥ 0 from hi))]
      refine Rs.get ra e32_len (by decide) hi i1 fun (u : Int) hu => ?_
      refine Rs.get rb e32_len (by decide) hi (by omega) fun (v : Int) hv => ?_
      have xu := drop_val hu
      have xv := drop_val hv
      have pa := valI_pos (a := da.take i.toNat) fun z hz => ga z (List.mem_of_mem_take hz)
      have pb := valI_pos (a := db.take i.toNat) fun z hz => gb z (List.mem_of_mem_take hz)
      have qa := valI_lt (a := da.take i.toNat) fun z hz => ga z (List.mem_of_mem_take hz)
      have qb := valI_lt (a := db.take i.toNat) fun z hz => gb z (List.mem_of_mem_take hz)
      rw [List.length_take, show min i.toNat da.length = i.toNat by omega] at qa
      rw [List.length_take, show min i.toNat db.length = i.toNat by omega] at qb
      rw [show (i + 1).toNat = i.toNat + 1 by omega] at he
      rw [he] at xu
      have hP := pow_pos32 i.toNat
      have key : ∀ {s t : Int}, s < t → (4294967296 : Int) ^ i.toNat * (s + 4294967296 * valI (db.drop (i.toNat + 1))) + 4294967296 ^ i.toNat ≤ 4294967296 ^ i.toNat * (t + 4294967296 * valI (db.drop (i.toNat + 1))) := fun {s t} hst => by
        have := Int.mul_le_mul_of_nonneg_left (show s + 4294967296 * valI (db.drop (i.toNat + 1)) + 1 ≤ t + 4294967296 * valI (db.drop (i.toNat + 1)) by omega) (Int.le_of_lt hP)
        rw [Int.mul_add, Int.mul_one] at this
        exact this
      by_cases h1 : u < v
      · rw [if_pos (decide_eq_true h1)]
        have := key h1
        have hxy : x < y := by omega
        unfold cmpN at hk
        rw [if_pos hxy] at hk
        exact hk
      · rw [if_neg (fun e => h1 (of_decide_eq_true e))]
        refine Rs.get ra e32_len (by decide) hi i1 fun (u' : Int) hu' => ?_
        refine Rs.get rb e32_len (by decide) hi (by omega) fun (v' : Int) hv' => ?_
        have e1 : u' = u := Option.some.inj (hu'.symm.trans hu)
        have e2 : v' = v := Option.some.inj (hv'.symm.trans hv)
        rw [e1, e2]
        by_cases h2 : v < u
        · rw [if_pos (decide_eq_true (show u > v from h2))]
          have := key h2
          unfold cmpN at hk
          rw [if_neg (by omega), if_pos (by omega)] at hk
          exact hk
        · rw [if_neg (fun e => h2 (of_decide_eq_true e)), wrap64 (by omega) (by omega)]
          refine ⟨⟨rfl, by omega, by omega, ?_⟩, by omega⟩
          rw [show (i - 1 + 1).toNat = i.toNat by omega]
          have hu2 := List.getElem?_eq_some_iff.1 hu
          have hv2 := List.getElem?_eq_some_iff.1 hv
          rw [List.drop_eq_getElem_cons hu2.1, List.drop_eq_getElem_cons hv2.1, hu2.2, hv2.2, he, show u = v by omega]
    · rw [if_neg (fun e => hi (of_decide_eq_true e))]
      rw [show (i + 1).toNat = 0 by omega] at he
      have : da = db := by simpa using he
      subst this
      unfold cmpN at hk
      rw [if_neg (by omega), if_neg (by omega)] at hk
      exact hk
  · rw [if_pos (by simpa using (show ¬ ((a.len : Nat) : Int) = ((b.len : Nat) : Int) by omega))]
    unfold cmpN at hk
    by_cases h1 : a.len < b.len
    · rw [if_pos (decide_eq_true (by omega))]
      have : ¬ valI db < 4294967296 ^ da.length := fun e => by have := norm_len gb nb e; omega
      rw [if_pos (by omega)] at hk
      exact hk
    · rw [if_neg (fun e => h1 (by have := of_decide_eq_true e; omega))]
      have : ¬ valI da < 4294967296 ^ db.length := fun e => by have := norm_len ga na e; omega
      rw [if_neg (by omega), if_pos (by omega)] at hk
      exact hk

end
end Lf

/-
  The document's whole numbers: differences, shifts, products, how many binary digits.
-/
namespace Lf
open Go Go.Proofs

section
variable {h : Hp}

theorem less_ok {a b : Sl} {x y : Nat} {Q : Sl → Hp → Prop} (ha : Nt h a x) (hb : Nt h b y) (la : a.len < 100000) (hxy : y ≤ x) (hk : ∀ r h', h ≤ h' → Nt h' r (x - y) → Q r h') : firebreakref05_less_w Tryz.prog a b Q h := by
  obtain ⟨da, ra, _, ga, va, na⟩ := ha
  obtain ⟨db, rb, _, gb, vb, nb⟩ := hb
  unfold firebreakref05_less_w
  have ea := ra.1
  have eb := rb.1
  have hlen : db.length ≤ da.length := norm_len gb nb (by have := valI_lt ga; omega)
  refine nil32 fun a1 h1 hle o1 => ?_
  refine LoopW3.intro (fun out c i h2 => 0 ≤ i ∧ i ≤ (da.length : Int) ∧ h ≤ h2 ∧ -1 ≤ c ∧ c ≤ 0 ∧ ∃ os, O32 h h2 out os ∧ Dig os ∧ os.length = i.toNat ∧ valI os + 4294967296 ^ i.toNat * c = valI (da.take i.toNat) - valI (db.take i.toNat)) (fun _ _ i _ => (da.length - i).toNat)
    ⟨by omega, by omega, hle, by omega, by omega, [], o1, fun _ hx => (by cases hx), rfl, by simp [valI]⟩ ?_
  rintro out c i h2 ⟨i0, i1, hl2, c0, c1, os, o2, g2, len2, v2⟩
  by_cases hi : i < (da.length : Int)
  · rw [if_pos (decide_eq_true (by omega))]
    refine Rs.get (ra.mono hl2) e32_len (by decide) i0 hi fun (u : Int) hu => ?_
    have d1 : 0 ≤ u ∧ u < 4294967296 := ga u (List.mem_of_getElem? hu)
    have d2 := dig_getD gb i.toNat
    refine JoinW1.intro (fun c1 h3 => h3 = h2 ∧ c1 = c + u - db.getD i.toNat 0) ?_ ?_
    · by_cases hj : i < ((b.len : Nat) : Int)
      · rw [if_pos (decide_eq_true hj)]
        refine Rs.get (rb.mono hl2) e32_len (by decide) i0 (by omega) fun (v : Int) hv => ?_
        have d3 : 0 ≤ v ∧ v < 4294967296 := gb v (List.mem_of_getElem? hv)
        rw [wrap64 (n := u) (by omega) (by omega), wrap64 (n := v) (by omega) (by omega), wrap64 (n := c + u) (by omega) (by omega), wrap64 (by omega) (by omega), getD_of hv]
        exact ⟨rfl, rfl⟩
      · rw [if_neg (fun e => hj (of_decide_eq_true e)), wrap64 (n := u) (by omega) (by omega), wrap64 (by omega) (by omega), show db.getD i.toNat 0 = 0 by simp [List.getD, List.getElem?_eq_none (show db.length ≤ i.toNat by omega)], Int.sub_zero]
        exact ⟨rfl, rfl⟩
    rintro c2 h3 ⟨rfl, rfl⟩
    have es : shrI .i64 (c + u - db.getD i.toNat 0) (32 : Int) = (c + u - db.getD i.toNat 0) / 4294967296 := by
      unfold shrI
      exact Int.fdiv_eq_ediv_of_nonneg _ (by decide)
    rw [wrap32, es]
    refine app32 hl2 o2 (by omega) fun l' h' hl' o' => ⟨by omega, ?_⟩
    rw [wrap64 (by omega) (by omega)]
    have ei : (i + 1).toNat = i.toNat + 1 := by omega
    refine ⟨⟨by omega, by omega, hl', by omega, by omega, _, o', g2.app (Dig.one (by omega) (by omega)), by rw [List.length_append, len2, ei]; rfl, ?_⟩, by omega⟩
    rw [ei, take_val, take_val, getD_of hu]
    have := carry len2 (t := List.replicate i.toNat 0) (by simp) _ v2 (x := u - db.getD i.toNat 0) (d := c + u - db.getD i.toNat 0) (by omega)
    rw [this]
    grind
  · rw [if_neg (fun e => hi (by have := of_decide_eq_true e; omega))]
    refine firebreakref05_trim_call (trim_ok o2.r o2.2.1 (by rw [o2.1]; omega) g2 fun r n => hk r h2 hl2 ?_)
    rw [List.take_of_length_le (by omega), List.take_of_length_le (by omega), va, vb] at v2
    have h4 := valI_lt g2
    have hP := pow_pos32 i.toNat
    rw [len2] at h4
    have hc : c = 0 := by
      rcases (by omega : c = 0 ∨ c = -1) with e | e
      · exact e
      · rw [e] at v2; omega
    rw [hc, Int.mul_zero] at v2
    rw [show (valI os).toNat = x - y by omega] at n
    exact n

theorem O32.nt {h0 : Hp} {l : Sl} {ds : List Int} {x : Nat} (o : O32 h0 h l ds) (g : Dig ds) (v : valI ds = x) (n : ds.getLast? ≠ some 0) : Nt h l x := ⟨ds, o.r, o.2.1, g, v, n⟩

theorem two32 {u v : Int} {K : Addr → Hp → Prop} (hk : ∀ a h', h ≤ h' → O32 h h' ⟨some a, 2, 2⟩ [u, v] → K a h') : NewW [(.int .u32 u), (.int .u32 v)] K h := new_row (xs := ([u, v] : List Int)) (h0 := h) (Hp.le_refl h) rfl e32_len hk

theorem of_ok {x : Int} {Q : Sl → Hp → Prop} (x0 : 0 ≤ x) (x1 : x < 18446744073709551616) (hk : ∀ r h', h ≤ h' → Nt h' r x.toNat → Q r h') : firebreakref05_of_w Tryz.prog x Q h := by
  unfold firebreakref05_of_w
  refine ⟨by decide, ?_⟩
  rw [wrap32, wrap32, shr32, Int.emod_eq_of_lt (a := x / 4294967296) (by omega) (by omega)]
  refine two32 fun a h' hl o => ?_
  refine firebreakref05_trim_call (a := ⟨some a, 2, 2⟩) (trim_ok o.r o.2.1 (show (2 : Nat) < 1000000 by omega) (fun d hd => ?_) fun r n => hk r h' hl ?_)
  · rcases List.mem_cons.1 hd with e | hd
    · subst e; omega
    · rw [List.mem_singleton.1 hd]; omega
  · simp only [valI] at n
    rw [show x % 4294967296 + 4294967296 * (x / 4294967296 + 4294967296 * 0) = x by omega] at n
    exact n

theorem pow32 (n : Nat) : (4294967296 : Int) ^ n = ((2 ^ (32 * n) : Nat) : Int) := by
  rw [Nat.pow_mul, Int.natCast_pow]; rfl

theorem shift_ok {a : Sl} {x n : Nat} {Q : Sl → Hp → Prop} (ha : Nt h a x) (la : a.len < 50000) (hn : n < 50000) (hk : ∀ r h', h ≤ h' → Nt h' r (x * 2 ^ n) → Q r h') : firebreakref05_shift_w Tryz.prog a (n : Int) Q h := by
  unfold firebreakref05_shift_w
  by_cases hz : a.len = 0
  · rw [if_pos (by simp [hz])]
    have e := ha.zero.1 hz
    subst e
    exact hk a h (Hp.le_refl h) (by rw [Nat.zero_mul]; exact ha)
  rw [if_neg (by simpa using hz)]
  obtain ⟨ds, ra, _, ga, va, na⟩ := ha
  have ea := ra.1
  refine nil32 fun a1 h1 hle o1 => ?_
  have ed : Int.tdiv (n : Int) 32 = (n : Int) / 32 := Int.tdiv_eq_ediv_of_nonneg (by omega)
  have em : Int.tmod (n : Int) 32 = ((n % 32 : Nat) : Int) := by rw [Int.tmod_eq_emod_of_nonneg (by omega)]; omega
  refine LoopW2.intro (fun out i h2 => 0 ≤ i ∧ i ≤ (n : Int) / 32 ∧ h ≤ h2 ∧ O32 h h2 out (List.replicate i.toNat 0)) (fun _ i _ => ((n : Int) / 32 - i).toNat) ⟨by omega, by omega, hle, o1⟩ ?_
  rintro out i h2 ⟨i0, i1, hl2, o2⟩
  refine ⟨by decide, ?_⟩
  rw [ed, wrap64 (by omega) (by omega)]
  by_cases hi : i < (n : Int) / 32
  · rw [if_pos (decide_eq_true hi)]
    refine app32 hl2 o2 (by rw [List.length_replicate]; omega) fun l' h' hl' o' => ?_
    rw [wrap64 (by omega) (by omega)]
    refine ⟨⟨by omega, by omega, hl', ?_⟩, by omega⟩
    rw [show (i + 1).toNat = i.toNat + 1 by omega, List.replicate_succ']
    exact o'
  · rw [if_neg (fun e => hi (of_decide_eq_true e))]
    refine app_own hl2 o2 (ra.mono hl2) e32_len e32_ok rfl (by rw [List.length_replicate]; omega) fun l' h' hl' o' _ => ⟨by decide, by rw [em]; omega, ?_⟩
    have e1 : shlI .u32 (1 : Int) (Int.tmod (n : Int) 32) = ((2 ^ (n % 32) : Nat) : Int) := by
      rw [em]
      unfold shlI
      have hb : IntKind.u32.bits = 32 := rfl
      rw [show min (((n % 32 : Nat) : Int)).toNat IntKind.u32.bits = n % 32 by omega, Int.one_mul, wrap32]
      have h3 : 2 ^ (n % 32) < 2 ^ 32 := Nat.pow_lt_pow_right (by decide) (by omega)
      rw [Int.natCast_pow]
      have h4 : ((2 ^ (n % 32) : Nat) : Int) < ((2 ^ 32 : Nat) : Int) := Int.ofNat_lt.2 h3
      rw [Int.natCast_pow] at h4
      exact Int.emod_eq_of_lt (Int.le_of_lt (Int.pow_pos (by decide))) h4
    rw [e1]
    have h3 : 2 ^ (n % 32) < 2 ^ 32 := Nat.pow_lt_pow_right (by decide) (by omega)
    refine firebreakref05_times_call (times_ok (O32.r o') (Dig.app (Dig.zeros _) ga) (by rw [List.length_append, List.length_replicate]; omega) (Int.natCast_nonneg _) (by have := Int.ofNat_lt.2 h3; exact this) fun r h3 hl3 n3 => hk r h3 (Hp.le_trans hl' hl3) ?_)
    rw [valI_app, valI_zeros, List.length_replicate, pow32, va, show i.toNat = n / 32 by omega] at n3
    rw [show (0 + ((2 ^ (32 * (n / 32)) : Nat) : Int) * (x : Int)) * ((2 ^ (n % 32) : Nat) : Int) = ((x * 2 ^ n : Nat) : Int) by
      conv => rhs; rw [← Nat.div_add_mod n 32, Nat.pow_add]
      rw [Int.natCast_mul, Int.natCast_mul]
      grind, Int.toNat_natCast] at n3
    exact n3

end
end Lf

/-
  The document's whole numbers: products, how many binary digits, the small ones.
-/
namespace Lf
open Go Go.Proofs

theorem or_add {k : IntKind} {a s v : Nat} (hk : k = .u64 ∧ a * 2 ^ s + v < 18446744073709551616 ∨ k = .u32 ∧ a * 2 ^ s + v < 4294967296) (hv : v < 2 ^ s) : bitsI .or k ((a * 2 ^ s : Nat) : Int) (v : Int) = ((a * 2 ^ s + v : Nat) : Int) := by
  have e : a * 2 ^ s ||| v = a * 2 ^ s + v := by rw [← Nat.shiftLeft_eq, Nat.shiftLeft_add_eq_or_of_lt hv]
  unfold bitsI
  dsimp only
  rw [BitVec.ofInt_natCast, BitVec.ofInt_natCast, BitVec.toNat_or, BitVec.toNat_ofNat, BitVec.toNat_ofNat]
  rcases hk with ⟨rfl, h⟩ | ⟨rfl, h⟩
  · rw [show IntKind.u64.bits = 64 by rfl, Nat.mod_eq_of_lt (by omega), Nat.mod_eq_of_lt (by omega), e, wrapU64]; omega
  · rw [show IntKind.u32.bits = 32 by rfl, Nat.mod_eq_of_lt (by omega), Nat.mod_eq_of_lt (by omega), e, wrap32]; omega

theorem bitsN_eq {m b : Nat} (h1 : m < 2 ^ b) (h2 : 0 < b → 2 ^ (b - 1) ≤ m) : bitsN m = b := by
  unfold bitsN
  by_cases hm : m = 0
  · rw [if_pos hm]
    rcases Nat.eq_zero_or_pos b with e | e
    · exact e.symm
    · have := h2 e; have := Nat.two_pow_pos (b - 1); omega
  · rw [if_neg hm]
    have hb : 0 < b := Nat.pos_of_ne_zero fun e => by subst e; simp at h1; omega
    have := (Nat.log2_eq_iff (k := b - 1) hm).2 ⟨h2 hb, by rw [show b - 1 + 1 = b by omega]; exact h1⟩
    omega
theorem bitsN_lt (m : Nat) : m < 2 ^ bitsN m := by
  unfold bitsN
  split
  · subst_vars; decide
  · exact Nat.lt_log2_self
theorem bitsN_ge {m : Nat} (h : m ≠ 0) : 2 ^ (bitsN m - 1) ≤ m := by
  unfold bitsN
  rw [if_neg h, Nat.add_sub_cancel]
  exact Nat.log2_self_le h
theorem bitsN_half {m : Nat} (h : m ≠ 0) : bitsN m = bitsN (m / 2) + 1 := by
  have h1 := bitsN_lt (m / 2)
  refine bitsN_eq (by rw [Nat.pow_succ]; omega) fun _ => ?_
  rw [Nat.add_sub_cancel]
  by_cases h0 : m / 2 = 0
  · rw [h0]; show 2 ^ 0 ≤ m; omega
  · have := bitsN_ge h0
    have hb : 0 < bitsN (m / 2) := by unfold bitsN; rw [if_neg h0]; omega
    rw [show bitsN (m / 2) = bitsN (m / 2) - 1 + 1 by omega, Nat.pow_succ]
    omega

section
variable {h : Hp}

theorem times_nt {a : Sl} {x : Nat} {m : Int} {Q : Sl → Hp → Prop} (ha : Nt h a x) (la : a.len < 100000) (m0 : 0 ≤ m) (m1 : m < 4294967296) (hk : ∀ r h', h ≤ h' → Nt h' r (x * m.toNat) → Q r h') : firebreakref05_times_w Tryz.prog a m Q h := by
  obtain ⟨ds, ra, _, ga, va, _⟩ := ha
  refine times_ok ra ga (by have := ra.1; omega) m0 m1 fun r h' hl n => hk r h' hl ?_
  rw [va, show ((x : Nat) : Int) * m = ((x * m.toNat : Nat) : Int) by rw [Int.natCast_mul]; congr 1; omega, Int.toNat_natCast] at n
  exact n

theorem product_ok {a b : Int} {Q : Sl → Hp → Prop} (a0 : 0 ≤ a) (a1 : a < 18446744073709551616) (b0 : 0 ≤ b) (b1 : b < 18446744073709551616) (hk : ∀ r h', h ≤ h' → Nt h' r (a.toNat * b.toNat) → Q r h') : firebreakref05_product_w Tryz.prog a b Q h := by
  unfold firebreakref05_product_w
  have ln : ∀ {k : Hp} {s : Sl} {x : Nat}, Nt k s x → x < 2 ^ (32 * 4) → s.len < 50000 := fun n hx => by have := n.len hx; omega
  have hab : ∀ {m : Nat}, m < 4294967296 → a.toNat * m < 2 ^ (32 * 4) := fun {m} hm => by
    have : a.toNat * m ≤ 18446744073709551616 * 4294967296 := Nat.mul_le_mul (by omega) (by omega)
    omega
  refine firebreakref05_of_call (of_ok a0 a1 fun r h1 l1 n1 => ?_)
  rw [wrap32, shr32, wrap32, Int.emod_eq_of_lt (a := b / 4294967296) (by omega) (by omega)]
  refine firebreakref05_times_call (times_nt n1 (by have := ln n1 (by omega); omega) (by omega) (by omega) fun r1 h2 l2 n2 => ?_)
  refine firebreakref05_of_call (of_ok a0 a1 fun r2 h3 l3 n3 => ⟨by decide, ?_⟩)
  refine firebreakref05_times_call (times_nt n3 (by have := ln n3 (by omega); omega) (by omega) (by omega) fun r3 h4 l4 n4 => ?_)
  refine firebreakref05_shift_call (shift_ok (n := 32) n4 (ln n4 (hab (by omega))) (by decide) fun r4 h5 l5 n5 => ?_)
  have hv := hab (m := (b / 4294967296).toNat) (by omega)
  refine firebreakref05_sum_call (sum_ok (n2.mono (Hp.le_trans l3 (Hp.le_trans l4 l5))) n5 (by have := ln n2 (hab (by omega)); omega) (by have := n5.len (L := 8) (by omega); omega) fun r5 h6 l6 n6 => hk r5 h6 (Hp.le_trans l1 (Hp.le_trans l2 (Hp.le_trans l3 (Hp.le_trans l4 (Hp.le_trans l5 l6))))) ?_)
  have e : a.toNat * (b % 4294967296).toNat + a.toNat * (b / 4294967296).toNat * 2 ^ 32 = a.toNat * b.toNat := by
    rw [Nat.mul_assoc, ← Nat.mul_add]
    congr 1
    omega
  rw [e] at n6
  exact n6

theorem top_val {ds : List Int} {x : Nat} (g : Dig ds) (v : valI ds = x) (hne : ds ≠ []) : ∃ t : Int, ds[ds.length - 1]? = some t ∧ 0 ≤ t ∧ t < 4294967296 ∧ (ds.getLast? ≠ some 0 → 0 < t) ∧ ∃ w : Nat, w < 2 ^ (32 * (ds.length - 1)) ∧ x = w + 2 ^ (32 * (ds.length - 1)) * t.toNat := by
  obtain ⟨b, d, e⟩ := List.eq_nil_or_concat ds |>.resolve_left hne
  rw [List.concat_eq_append] at e
  subst e
  have hd := g d (by simp)
  have gb : Dig b := fun z hz => g z (List.mem_append_left _ hz)
  have h1 := valI_pos gb
  have h2 := valI_lt gb
  rw [pow32] at h2
  have el : (b ++ [d]).length - 1 = b.length := by rw [List.length_append, List.length_singleton]; omega
  rw [el]
  refine ⟨d, by simp, hd.1, hd.2, fun hl => ?_, (valI b).toNat, by omega, ?_⟩
  · rw [List.getLast?_concat] at hl
    have : d ≠ 0 := fun e => hl (by rw [e])
    omega
  · rw [valI_app, pow32] at v
    simp only [valI] at v
    rw [show d + 4294967296 * 0 = ((d.toNat : Nat) : Int) by omega, ← Int.natCast_mul] at v
    omega

theorem bitsR_ok {m : Sl} {x : Nat} {Q : Int → Hp → Prop} (hm : Nt h m x) (lm : m.len < 100000) (hk : Q (bitsN x : Int) h) : firebreakref05_bits_w Tryz.prog m Q h := by
  unfold firebreakref05_bits_w
  by_cases hz : m.len = 0
  · rw [if_pos (by simp [hz])]
    have e := hm.zero.1 hz
    subst e
    exact hk
  rw [if_neg (by simpa using hz)]
  obtain ⟨ds, r, _, g, v, n⟩ := hm
  have el := r.1
  rw [wrap64 (n := ((m.len : Nat) : Int) - 1) (by omega) (by omega)]
  obtain ⟨t, ht, t0, t1, tp, w, hw, hx⟩ := top_val g v (fun e => by subst e; simp at el; omega)
  have tp' := tp n
  refine Rs.get r e32_len (by decide) (by omega) (by omega) fun (u : Int) hu => ?_
  have eu : u = t := by
    rw [show (((m.len : Nat) : Int) - 1).toNat = ds.length - 1 by omega] at hu
    exact Option.some.inj (hu.symm.trans ht)
  subst eu
  rw [wrap64 (by omega) (by omega)]
  have key : bitsN x = 32 * (ds.length - 1) + bitsN u.toNat := by
    have h1 := bitsN_lt u.toNat
    have h2 := bitsN_ge (m := u.toNat) (by omega)
    have hP := Nat.two_pow_pos (32 * (ds.length - 1))
    have hb : 0 < bitsN u.toNat := by unfold bitsN; rw [if_neg (by omega)]; omega
    refine bitsN_eq ?_ fun _ => ?_
    · rw [Nat.pow_add, hx]
      have := Nat.mul_le_mul_left (2 ^ (32 * (ds.length - 1))) (show u.toNat + 1 ≤ 2 ^ bitsN u.toNat by omega)
      rw [Nat.mul_add, Nat.mul_one] at this
      omega
    · rw [show 32 * (ds.length - 1) + bitsN u.toNat - 1 = 32 * (ds.length - 1) + (bitsN u.toNat - 1) by omega, Nat.pow_add, hx]
      have := Nat.mul_le_mul_left (2 ^ (32 * (ds.length - 1))) h2
      omega
  refine LoopW2.intro (fun n1 t1 h1 => h1 = h ∧ 0 ≤ t1 ∧ t1 < 4294967296 ∧ 0 ≤ n1 ∧ n1 + (bitsN t1.toNat : Int) = bitsN x ∧ n1 ≤ 3200000 + 32) (fun _ t1 _ => t1.toNat) ⟨rfl, t0, t1, by omega, by rw [key]; omega, by omega⟩ ?_
  rintro n1 u1 h1 ⟨rfl, a0, a1, b0, hs, b1⟩
  have hbl : bitsN u1.toNat ≤ 32 := by
    by_cases e : u1.toNat = 0
    · rw [e]; decide
    · refine Classical.byContradiction fun hc => ?_
      have h2 := bitsN_ge e
      have h3 : 2 ^ 32 ≤ 2 ^ (bitsN u1.toNat - 1) := Nat.pow_le_pow_right (by decide) (by omega)
      omega
  by_cases hu1 : u1 > 0
  · rw [if_pos (decide_eq_true hu1), Int.tdiv_eq_ediv_of_nonneg a0, wrap32, wrap64 (by omega) (by omega), Int.emod_eq_of_lt (by omega) (by omega)]
    have hh := bitsN_half (m := u1.toNat) (by omega)
    rw [show u1.toNat / 2 = (u1 / 2).toNat by omega] at hh
    have hxl : bitsN x ≤ 3200000 := by
      have : bitsN u.toNat ≤ 32 := by
        refine Classical.byContradiction fun hc => ?_
        have h2 := bitsN_ge (m := u.toNat) (by omega)
        have h3 : 2 ^ 32 ≤ 2 ^ (bitsN u.toNat - 1) := Nat.pow_le_pow_right (by decide) (by omega)
        omega
      omega
    exact ⟨by decide, ⟨rfl, by omega, by omega, by omega, by omega, by omega⟩, by omega⟩
  · rw [if_neg (fun e => hu1 (of_decide_eq_true e))]
    have : u1.toNat = 0 := by omega
    rw [this] at hs
    rw [show n1 = (bitsN x : Int) by have : bitsN 0 = 0 := rfl; omega]
    exact hk

theorem small_ok {m : Sl} {x : Nat} {Q : Int → Hp → Prop} (hm : Nt h m x) (hx : x < 18446744073709551616) (hk : Q (x : Int) h) : firebreakref05_small_w Tryz.prog m Q h := by
  unfold firebreakref05_small_w
  have hl := hm.len (L := 2) (by omega)
  obtain ⟨ds, r, _, g, v, n⟩ := hm
  have el := r.1
  rw [wrap64 (by omega) (by omega)]
  refine LoopW2.intro (fun n1 i h1 => h1 = h ∧ -1 ≤ i ∧ i < (ds.length : Int) ∧ n1 = valI (ds.drop (i + 1).toNat)) (fun _ i _ => (i + 1).toNat) ⟨rfl, by omega, by omega, by rw [List.drop_of_length_le (by omega)]; rfl⟩ ?_
  rintro n1 i h1 ⟨rfl, i0, i1, e1⟩
  by_cases hi : 0 ≤ i
  · rw [if_pos (decide_eq_true (show i ≥ 0 from hi))]
    refine ⟨by decide, Rs.get r e32_len (by decide) hi i1 fun (u : Int) hu => ?_⟩
    have hu' : 0 ≤ u ∧ u < 4294967296 := g u (List.mem_of_getElem? hu)
    obtain ⟨e2, e3⟩ := List.getElem?_eq_some_iff.1 hu
    have gd : Dig (ds.drop (i.toNat + 1)) := fun z hz => g z (List.mem_of_mem_drop hz)
    have p0 := valI_pos gd
    rw [show (i + 1).toNat = i.toNat + 1 by omega] at e1
    have ed : valI (ds.drop i.toNat) = u + 4294967296 * n1 := by rw [List.drop_eq_getElem_cons e2, e3, e1]; rfl
    have hd : valI (ds.drop i.toNat) ≤ valI ds := by
      conv => rhs; rw [← List.take_append_drop i.toNat ds, valI_app]
      have q0 := valI_pos (a := ds.take i.toNat) fun z hz => g z (List.mem_of_mem_take hz)
      have q1 := valI_pos (a := ds.drop i.toNat) fun z hz => g z (List.mem_of_mem_drop hz)
      have := Int.mul_le_mul_of_nonneg_right (show (1 : Int) ≤ 4294967296 ^ (ds.take i.toNat).length from pow_pos32 _) q1
      omega
    have es : shlI .u64 n1 32 = ((n1.toNat * 2 ^ 32 : Nat) : Int) := by
      unfold shlI
      rw [show min (32 : Int).toNat IntKind.u64.bits = 32 from rfl, wrapU64, Int.emod_eq_of_lt (by omega) (by omega)]
      omega
    have ew : IntKind.wrap .u64 u = ((u.toNat : Nat) : Int) := by rw [wrapU64]; omega
    rw [es, ew, or_add (.inl ⟨rfl, by omega⟩) (by omega), wrap64 (by omega) (by omega)]
    refine ⟨⟨rfl, by omega, by omega, ?_⟩, by omega⟩
    rw [show (i - 1 + 1).toNat = i.toNat by omega, ed]
    omega
  · rw [if_neg (fun e => hi (of_decide_eq_true e))]
    rw [show (i + 1).toNat = 0 by omega, List.drop_zero, v] at e1
    rw [e1]
    exact hk

end
end Lf

/-
  The document's whole numbers: the lowest n binary digits, and the others.
-/
namespace Lf
open Go Go.Proofs

abbrev F32 (h : Hp) (l : Sl) (ds : List Int) (F : List Nat) : Prop := OwnF h 1 (fun x => cellsL ((shInt .u32).enc x)) l ds F

theorem flat32 : ∀ ds : List Int, ds.flatMap (fun x => cellsL ((shInt .u32).enc x)) = ds.map fun x => Value.int .u32 x
  | [] => rfl
  | d :: ds => by rw [List.flatMap_cons, flat32 ds]; rfl

section
variable {h : Hp}

theorem put32 {l : Sl} {ds : List Int} {F : List Nat} (o : F32 h l ds F) {i : Int} (i0 : 0 ≤ i) (hi : i < (ds.length : Int)) {v : Int} {K : Hp → Prop} (hk : ∀ h', F32 h' l (ds.set i.toNat v) F → Mv F h F h' → K h') : StW h (sat l.base 1 i) [.int .u32 v] K := by
  obtain ⟨o1, o2, o3⟩ := o
  rcases o3 with ⟨_, e2, _⟩ | ⟨b, cs, e1, rfl, kb, e4, e5⟩
  · omega
  · rw [e1]
    unfold sat
    rw [Option.getD_some, box_add]
    rw [flat32, Nat.mul_one] at e5
    refine stW_blk (off := 0 + i.toNat * 1) (new := [Value.int .u32 v]) kb (by rw [e4, List.length_singleton]; omega) fun h' m' k' => hk h' ⟨by rw [List.length_set]; exact o1, o2, .inr ⟨b, _, e1, rfl, k', ?_, ?_⟩⟩ m'
    · simp only [List.length_append, List.length_take, List.length_drop, e4, List.length_singleton]
      omega
    · have hlt : i.toNat < cs.length := by omega
      have e6 : List.take (0 + i.toNat * 1) cs ++ [Value.int .u32 v] ++ List.drop (0 + i.toNat * 1 + 1) cs = cs.set i.toNat (.int .u32 v) := by
        rw [Nat.zero_add, Nat.mul_one, List.set_eq_take_append_cons_drop, if_pos hlt, List.append_assoc]; rfl
      show List.take _ (List.take (0 + i.toNat * 1) cs ++ [Value.int .u32 v] ++ List.drop (0 + i.toNat * 1 + 1) cs) = _
      rw [e6, flat32, List.map_set, ← e5, Nat.mul_one, List.take_set]

/-- A box that holds a list of its own. -/
def Box (h : Hp) (b : Nat) (s : Sl) (ds : List Int) (F : List Nat) : Prop := Blk h b [s.v] ∧ F32 h s ds F ∧ b ∉ F

theorem and_one {y : Int} (y0 : 0 ≤ y) (y1 : y < 4294967296) : bitsI .and .u32 y 1 = y % 2 := by
  obtain ⟨n, rfl⟩ := Int.eq_ofNat_of_zero_le y0
  unfold bitsI
  dsimp only
  rw [BitVec.ofInt_natCast, BitVec.toNat_and, BitVec.toNat_ofNat, show IntKind.u32.bits = 32 by rfl, show (BitVec.ofInt 32 1).toNat = 1 by rfl, Nat.mod_eq_of_lt (by omega), Nat.and_one_is_mod, wrap32]
  omega

theorem shr32u {x : Int} {n : Nat} (hn : n ≤ 32) : shrI .u32 x (n : Int) = x / 2 ^ n := by
  unfold shrI
  rw [show min ((n : Int)).toNat IntKind.u32.bits = n by have : IntKind.u32.bits = 32 := rfl; omega]
  exact Int.fdiv_eq_ediv_of_nonneg _ (by have := Int.pow_pos (n := 2) (m := n) (by decide); omega)

theorem set_val {ds : List Int} {i : Nat} {x y : Int} (h : ds[i]? = some x) : valI (ds.set i y) = valI ds + 4294967296 ^ i * (y - x) := by
  have h2 : (ds.set i y)[i]? = some y := by
    have := (List.getElem?_eq_some_iff.1 h).1
    simp [this]
  rw [drop_val h, drop_val h2]
  have e1 : (ds.set i y).take i = ds.take i := by rw [List.take_set]; exact List.set_eq_of_length_le (by rw [List.length_take]; omega)
  have e2 : (ds.set i y).drop (i + 1) = ds.drop (i + 1) := by rw [List.drop_set, if_pos (by omega)]
  rw [e1, e2]
  grind

/-- One more binary digit is laid on. -/
theorem bitStep {b k : Nat} {s : Sl} {ds : List Int} {F : List Nat} {bit : Int} {again : Hp → Prop} (o : Box h b s ds F) (g : Dig ds) (hl : ds.length = (k + 31) / 32) (hv : valI ds < 2 ^ k) (hk : k < 3200000) (hbit : bit = 0 ∨ bit = 1)
    (hq : ∀ s' ds' F' h', Box h' b s' ds' F' → Mv (b :: F) h (b :: F') h' → Dig ds' → ds'.length = (k + 1 + 31) / 32 → valI ds' = valI ds + 2 ^ k * bit → again h') :
    JoinW0 (fun k1 =>
     ((32 : Int) ≠ (0 : Int) ∧ (if ((Int.tmod (k : Int) (32 : Int)) == (0 : Int)) = true then
     NilW none (some ⟨b, 0, none⟩) fun p =>
     LdW none shSl h p fun x1 =>
     NewW [(.int .u32 (0 : Int))] (fun a4 h9 =>
     AppendW 1 4 [(.int .u32 (0 : Int))] x1 ⟨(some a4), 1, 1⟩ (fun r h10 =>
     NilW none (some ⟨b, 0, none⟩) fun p1 =>
     StW h10 p1 [r.v] (fun h11 =>
     k1 h11)) h9) h
     else
     k1 h)))
     (fun h9 =>
     NilW none (some ⟨b, 0, none⟩) fun p =>
     LdW none shSl h9 p fun x1 =>
     ((32 : Int) ≠ (0 : Int) ∧ ((InB x1.base x1.len (IntKind.wrap .i64 (Int.tdiv (k : Int) (32 : Int)))) ∧ LdW none (shInt .u32) h9 (sat x1.base 1 (IntKind.wrap .i64 (Int.tdiv (k : Int) (32 : Int)))) fun x2 =>
     ((32 : Int) ≠ (0 : Int) ∧ ((0 : Int) ≤ (Int.tmod (k : Int) (32 : Int)) ∧ ((InB x1.base x1.len (IntKind.wrap .i64 (Int.tdiv (k : Int) (32 : Int)))) ∧ StW h9 (sat x1.base 1 (IntKind.wrap .i64 (Int.tdiv (k : Int) (32 : Int)))) [(.int .u32 (bitsI .or .u32 x2 (shlI .u32 bit (Int.tmod (k : Int) (32 : Int)))))] (fun h10 =>
     again h10))))))) := by
  have et : Int.tdiv (k : Int) 32 = ((k / 32 : Nat) : Int) := by rw [Int.tdiv_eq_ediv_of_nonneg (by omega)]; omega
  have em : Int.tmod (k : Int) 32 = ((k % 32 : Nat) : Int) := by rw [Int.tmod_eq_emod_of_nonneg (by omega)]; omega
  rw [et, em, wrap64 (by omega) (by omega)]
  refine JoinW0.intro (fun h1 => ∃ s1 d1 F1, Box h1 b s1 d1 F1 ∧ Mv (b :: F) h (b :: F1) h1 ∧ Dig d1 ∧ d1.length = k / 32 + 1 ∧ valI d1 = valI ds) ⟨by decide, ?_⟩ ?_
  · by_cases hz : k % 32 = 0
    · rw [if_pos (by simp [hz])]
      refine notNil (ld_at (sh := shSl) s (o.1.ldIs (n := 1) rfl) ?_)
      refine newF (xs := ([0] : List Int)) (enc := fun x => cellsL ((shInt .u32).enc x)) rfl e32_len fun c h2 hn hle2 m2 o2 => ?_
      have o1 := o.2.1.mv m2 (fun _ _ hh => by cases hh)
      have kb := o.1.le hle2
      refine appF (ys := ([0] : List Int)) o1 (o2.rw e32_len) e32_len e32_ok rfl (by rw [List.length_singleton]; omega) fun l' h3 F' o3 m3 => ?_
      have kb3 := kb.mv m3 o.2.2
      have hb' : b ∉ F' := fun hh => (m3.from_ b hh).elim o.2.2 fun e => kb.known e
      refine notNil (stW_blk kb3 (new := [l'.v]) (off := 0) (by simp) fun h4 m4 kb4 => ?_)
      refine ⟨l', ds ++ [0], F', ⟨kb4, o3.mv m4 (fun x hx hx' => hb' (by rw [← List.mem_singleton.1 hx']; exact hx)), hb'⟩, ?_, g.app (Dig.one (by decide) (by decide)), by rw [List.length_append, List.length_singleton]; omega, by rw [valI_app]; simp [valI]⟩
      refine ⟨fun c' ob e hne => ?_, fun c' hc' => ?_⟩
      · exact m4.keep c' ob (m3.keep c' ob (hle2 c' ob e) fun hh => hne (List.mem_cons_of_mem _ hh)) fun hh => hne (by rw [List.mem_singleton.1 hh]; exact List.mem_cons_self ..)
      · rcases List.mem_cons.1 hc' with e | hc'
        · exact .inl (by rw [e]; exact List.mem_cons_self ..)
        · rcases m3.from_ c' hc' with e | e
          · exact .inl (List.mem_cons_of_mem _ e)
          · exact .inr (none_of_le hle2 e)
    · rw [if_neg (by simp; omega)]
      exact ⟨s, ds, F, o, Mv.refl _ _, g, by omega, rfl⟩
  · rintro h1 ⟨s1, d1, F1, o1, m1, g1, l1, v1⟩
    refine notNil (ld_at (sh := shSl) s1 (o1.1.ldIs (n := 1) rfl) ?_)
    have r1 := o1.2.1.rw e32_len
    refine ⟨by decide, Rs.get r1 e32_len (by decide) (by omega) (by omega) fun (u : Int) hu => ⟨by decide, by omega, ⟨(Rw.read r1 e32_len (by decide) (by omega) (by rw [r1.1]; omega)).1, ?_⟩⟩⟩
    have hu' : 0 ≤ u ∧ u < 4294967296 := g1 u (List.mem_of_getElem? hu)
    rw [Int.toNat_natCast] at hu
    -- what stands there is below the new digit
    have hP := Nat.two_pow_pos (32 * (k / 32))
    have ek : (2 : Int) ^ k = ((2 ^ (32 * (k / 32)) : Nat) : Int) * ((2 ^ (k % 32) : Nat) : Int) := by
      rw [← Int.natCast_mul, ← Nat.pow_add, show 32 * (k / 32) + k % 32 = k by omega, Int.natCast_pow]; rfl
    have hlt : u < ((2 ^ (k % 32) : Nat) : Int) := by
      have e1 := drop_val hu
      have q0 := valI_pos (a := d1.take (k / 32)) fun z hz => g1 z (List.mem_of_mem_take hz)
      have e2 : d1.drop (k / 32 + 1) = [] := List.drop_of_length_le (by omega)
      rw [e2, pow32] at e1
      simp only [valI] at e1
      rw [show u + 4294967296 * 0 = u by omega] at e1
      refine Classical.byContradiction fun hc => ?_
      have := Int.mul_le_mul_of_nonneg_left (show ((2 ^ (k % 32) : Nat) : Int) ≤ u by omega) (Int.natCast_nonneg (2 ^ (32 * (k / 32))))
      omega
    have hp32 : 2 ^ (k % 32) ≤ 2 ^ 31 := Nat.pow_le_pow_right (by decide) (by omega)
    have es : shlI .u32 bit ((k % 32 : Nat) : Int) = ((bit.toNat * 2 ^ (k % 32) : Nat) : Int) := by
      unfold shlI
      rw [show min (((k % 32 : Nat) : Int)).toNat IntKind.u32.bits = k % 32 by have : IntKind.u32.bits = 32 := rfl; omega, wrap32]
      rw [show ((2 : Int) ^ (k % 32)) = ((2 ^ (k % 32) : Nat) : Int) by rw [Int.natCast_pow]; rfl]
      rcases hbit with e | e <;> rw [e] <;> simp only [Int.zero_mul, Int.one_mul, Int.toNat_zero, Int.toNat_one, Nat.zero_mul, Nat.one_mul] <;> omega
    have ho : bitsI .or .u32 u (shlI .u32 bit ((k % 32 : Nat) : Int)) = u + bit * ((2 ^ (k % 32) : Nat) : Int) := by
      rw [es, show u = ((u.toNat : Nat) : Int) by omega]
      have hb2 : bit.toNat * 2 ^ (k % 32) + u.toNat < 4294967296 := by
        rcases hbit with e | e <;> rw [e] <;> simp only [Int.toNat_zero, Int.toNat_one, Nat.zero_mul, Nat.one_mul] <;> omega
      have hc : bitsI .or .u32 ((u.toNat : Nat) : Int) ((bit.toNat * 2 ^ (k % 32) : Nat) : Int) = bitsI .or .u32 ((bit.toNat * 2 ^ (k % 32) : Nat) : Int) ((u.toNat : Nat) : Int) := by
        unfold bitsI; dsimp only; rw [BitVec.or_comm]
      rw [hc, or_add (.inr ⟨rfl, hb2⟩) (by omega), Int.natCast_add, Int.natCast_mul, show ((bit.toNat : Nat) : Int) = bit by omega]
      omega
    rw [ho]
    refine put32 o1.2.1 (by omega) (by omega) fun h2 o2 m2 => ?_
    rw [Int.toNat_natCast] at o2
    have hnb : b ∉ F1 := o1.2.2
    refine hq s1 _ F1 h2 ⟨o1.1.mv m2 hnb, o2, hnb⟩ (m1.trans ⟨fun c ob e hne => m2.keep c ob e fun hh => hne (List.mem_cons_of_mem _ hh), fun c hc => .inl hc⟩) (fun z hz => ?_) (by rw [List.length_set, l1]; omega) ?_
    · rcases List.mem_or_eq_of_mem_set hz with hz | rfl
      · exact g1 z hz
      · rcases hbit with e | e <;> rw [e] <;> omega
    · rw [set_val hu, v1, pow32, ek]
      grind

theorem newBox {K : Addr → Hp → Prop} (hk : ∀ b s h', h b = none → h ≤ h' → (∃ F, Box h' b s [] F ∧ ∀ c ∈ F, h c = none) → K ⟨b, 0, none⟩ h') :
    NewW [] (fun a h1 => NewW [(.slice none 0 0)] (fun a1 h2 => StW h2 a1 [(.slice (some a) 0 0)] (fun h3 => K a1 h3)) h1) h := by
  refine newF (xs := ([] : List Int)) (enc := fun x => cellsL ((shInt .u32).enc x)) rfl e32_len fun c h1 hc hl1 m1 o1 => ?_
  intro b t hb
  have hl2 : h1 ≤ h1.set b (.cells #[.slice none 0 0] t (0, 0)) := set_new hb
  have kb : Blk (h1.set b (.cells #[.slice none 0 0] t (0, 0))) b [.slice none 0 0] := ⟨t, set_self⟩
  have hcb : b ∉ [c] := fun hh => o1.known b hh hb
  refine stW_blk kb (off := 0) (by simp) fun h3 m3 k3 => ?_
  have hn : h b = none := none_of_le hl1 hb
  refine hk b ⟨some ⟨c, 0, none⟩, 0, 0⟩ h3 hn ?_ ⟨[c], ⟨k3, ?_, hcb⟩, fun d hd => by rw [List.mem_singleton.1 hd]; exact hc⟩
  · intro d ob e
    exact m3.keep d ob (hl2 d ob (hl1 d ob e)) fun hh => by rw [List.mem_singleton.1 hh, hn] at e; cases e
  · exact (o1.mv (Mv.of_le [] hl2) fun _ _ hh => by cases hh).mv m3 fun d hd hd' => hcb (by rw [← List.mem_singleton.1 hd']; exact hd)

/-- Two boxes apart, over the base h0. -/
structure Boxes (h0 h : Hp) (b1 b3 : Nat) (s1 s3 : Sl) (d1 d3 : List Int) (F1 F3 : List Nat) : Prop where
  le : h0 ≤ h
  one : Box h b1 s1 d1 F1
  two : Box h b3 s3 d3 F3
  n1 : ∀ c ∈ b1 :: F1, h0 c = none
  n3 : ∀ c ∈ b3 :: F3, h0 c = none
  ap : ∀ c ∈ b1 :: F1, c ∉ b3 :: F3

theorem Box.known {b : Nat} {s : Sl} {ds : List Int} {F : List Nat} (o : Box h b s ds F) : ∀ c ∈ b :: F, h c ≠ none := fun c hc => by
  rcases List.mem_cons.1 hc with rfl | hc
  · exact o.1.known
  · exact o.2.1.known c hc
theorem Box.mv {b : Nat} {s : Sl} {ds : List Int} {F G G' : List Nat} {h' : Hp} (o : Box h b s ds F) (m : Mv G h G' h') (hd : ∀ c ∈ b :: F, c ∉ G) : Box h' b s ds F :=
  ⟨o.1.mv m (hd b (List.mem_cons_self ..)), o.2.1.mv m fun c hc => hd c (List.mem_cons_of_mem _ hc), o.2.2⟩
theorem Boxes.put1 {h0 h' : Hp} {b1 b3 : Nat} {s1 s3 s1' : Sl} {d1 d3 d1' : List Int} {F1 F3 F1' : List Nat} (o : Boxes h0 h b1 b3 s1 s3 d1 d3 F1 F3) (n : Box h' b1 s1' d1' F1') (m : Mv (b1 :: F1) h (b1 :: F1') h') : Boxes h0 h' b1 b3 s1' s3 d1' d3 F1' F3 := by
  obtain ⟨l1, l2⟩ := m.le o.le o.n1
  refine ⟨l1, n, o.two.mv m fun c hc hc' => o.ap c hc' hc, l2, o.n3, fun c hc hc' => ?_⟩
  rcases m.from_ c hc with e | e
  · exact o.ap c e hc'
  · exact o.two.known c hc' e
theorem Boxes.swap {h0 : Hp} {b1 b3 : Nat} {s1 s3 : Sl} {d1 d3 : List Int} {F1 F3 : List Nat} (o : Boxes h0 h b1 b3 s1 s3 d1 d3 F1 F3) : Boxes h0 h b3 b1 s3 s1 d3 d1 F3 F1 := ⟨o.le, o.two, o.one, o.n3, o.n1, fun c hc hc' => o.ap c hc' hc⟩

theorem digit_of {ds : List Int} {x i : Nat} {u : Int} (g : Dig ds) (v : valI ds = x) (hu : ds[i / 32]? = some u) : (u / 2 ^ (i % 32)) % 2 = ((x / 2 ^ i % 2 : Nat) : Int) := by
  have hu' := g u (List.mem_of_getElem? hu)
  have e1 := drop_val hu
  have q0 := valI_pos (a := ds.take (i / 32)) fun z hz => g z (List.mem_of_mem_take hz)
  have q1 := valI_lt (a := ds.take (i / 32)) fun z hz => g z (List.mem_of_mem_take hz)
  have q2 := valI_pos (a := ds.drop (i / 32 + 1)) fun z hz => g z (List.mem_of_mem_drop hz)
  have hlt := (List.getElem?_eq_some_iff.1 hu).1
  rw [List.length_take, show min (i / 32) ds.length = i / 32 by omega, pow32] at q1
  rw [pow32, v] at e1
  generalize hw : valI (ds.take (i / 32)) = w at *
  generalize hr : valI (ds.drop (i / 32 + 1)) = r at *
  have e2 : x = w.toNat + 2 ^ (32 * (i / 32)) * (u.toNat + 4294967296 * r.toNat) := by
    have : ((x : Nat) : Int) = ((w.toNat + 2 ^ (32 * (i / 32)) * (u.toNat + 4294967296 * r.toNat) : Nat) : Int) := by
      rw [Int.natCast_add, Int.natCast_mul, e1, show ((u.toNat + 4294967296 * r.toNat : Nat) : Int) = u + 4294967296 * r by omega]
      omega
    omega
  have e3 : x / 2 ^ i = (u.toNat + 4294967296 * r.toNat) / 2 ^ (i % 32) := by
    conv => lhs; rw [show i = 32 * (i / 32) + i % 32 by omega, Nat.pow_add, ← Nat.div_div_eq_div_mul, e2]
    congr 1
    rw [Nat.add_mul_div_left _ _ (Nat.two_pow_pos _), Nat.div_eq_of_lt (by omega), Nat.zero_add]
  have e4 : (4294967296 : Nat) = 2 ^ (i % 32) * (2 * 2 ^ (31 - i % 32)) := by
    rw [Nat.mul_comm 2, ← Nat.pow_succ, ← Nat.pow_add, show i % 32 + (31 - i % 32 + 1) = 32 by omega]
  have e5 : x / 2 ^ i % 2 = u.toNat / 2 ^ (i % 32) % 2 := by
    rw [e3, e4, Nat.mul_assoc, Nat.add_mul_div_left _ _ (Nat.two_pow_pos _), Nat.mul_assoc, Nat.add_mul_mod_self_left]
  rw [e5, show u = ((u.toNat : Nat) : Int) by omega, Int.toNat_natCast, show ((2 : Int) ^ (i % 32)) = ((2 ^ (i % 32) : Nat) : Int) by rw [Int.natCast_pow]; rfl]
  rfl

theorem mod_succ (x i : Nat) : x % 2 ^ (i + 1) = x % 2 ^ i + 2 ^ i * (x / 2 ^ i % 2) := by
  rw [Nat.pow_succ, Nat.mod_mul]

end
end Lf

/-
  The document's whole numbers: low.
-/
namespace Lf
open Go Go.Proofs

section
variable {h : Hp}

theorem two_cast (k : Nat) : (2 : Int) ^ k = ((2 ^ k : Nat) : Int) := by rw [Int.natCast_pow]; rfl

set_option maxRecDepth 20000 in
theorem low_ok {m : Sl} {x n : Nat} {Q : Sl → Sl → Hp → Prop} (hm : Nt h m x) (lm : m.len < 50000) (hn : n < 1000000) (hk : ∀ r1 r2 h', h ≤ h' → Nt h' r1 (x % 2 ^ n) → Nt h' r2 (x / 2 ^ n) → Q r1 r2 h') : firebreakref05_low_w Tryz.prog m (n : Int) Q h := by
  obtain ⟨ds, r, _, g, v, _⟩ := hm
  have el := r.1
  unfold firebreakref05_low_w
  refine newBox fun b1 s1 h1 n1 l1 ⟨F1, o1, f1⟩ => ?_
  refine newBox fun b3 s3 h2 n3 l2 ⟨F3, o3, f3⟩ => ?_
  have hB : Boxes h h2 b1 b3 s1 s3 [] [] F1 F3 := by
    refine ⟨Hp.le_trans l1 l2, o1.mv (Mv.of_le [] l2) (fun _ _ hh => by cases hh), o3, fun c hc => ?_, fun c hc => ?_, fun c hc hc' => ?_⟩
    · rcases List.mem_cons.1 hc with rfl | hc
      · exact n1
      · exact f1 c hc
    · rcases List.mem_cons.1 hc with rfl | hc
      · exact none_of_le l1 n3
      · exact none_of_le l1 (f3 c hc)
    · refine o1.known c hc ?_
      rcases List.mem_cons.1 hc' with rfl | hc'
      · exact n3
      · exact f3 c hc'
  refine LoopW1.intro (fun i h7 => 0 ≤ i ∧ i ≤ 32 * (ds.length : Int) ∧ ∃ s1 s3 d1 d3 F1 F3, Boxes h h7 b1 b3 s1 s3 d1 d3 F1 F3 ∧ Dig d1 ∧ Dig d3 ∧ d1.length = (min i.toNat n + 31) / 32 ∧ d3.length = (i.toNat - n + 31) / 32 ∧ valI d1 = ((x % 2 ^ min i.toNat n : Nat) : Int) ∧ valI d3 = ((x % 2 ^ i.toNat / 2 ^ n : Nat) : Int)) (fun i _ => (32 * (ds.length : Int) - i).toNat)
    ⟨by omega, by omega, s1, s3, [], [], F1, F3, hB, fun _ hx => (by cases hx), fun _ hx => (by cases hx), by simp, by simp, by simp [valI, Nat.mod_one], by simp [valI, Nat.mod_one]⟩ ?_
  rintro i h7 ⟨i0, i1, s1, s3, d1, d3, F1, F3, hB, g1, g3, e1, e3, v1, v3⟩
  obtain ⟨j, rfl⟩ := Int.eq_ofNat_of_zero_le i0
  rw [Int.toNat_natCast] at e1 e3 v1 v3
  rw [wrap64 (n := (32 : Int) * ((m.len : Nat) : Int)) (by omega) (by omega)]
  by_cases hi : (j : Int) < 32 * ((m.len : Nat) : Int)
  · rw [if_pos (decide_eq_true hi)]
    refine ⟨by decide, ?_⟩
    have et : Int.tdiv (j : Int) 32 = ((j / 32 : Nat) : Int) := by rw [Int.tdiv_eq_ediv_of_nonneg (by omega)]; omega
    have em : Int.tmod (j : Int) 32 = ((j % 32 : Nat) : Int) := by rw [Int.tmod_eq_emod_of_nonneg (by omega)]; omega
    have ew : IntKind.wrap .i64 (Int.tdiv (j : Int) 32) = ((j / 32 : Nat) : Int) := by rw [et, wrap64 (by omega) (by omega)]
    have ew' := ew
    refine Rs.get (r.mono hB.le) e32_len (by decide) (by rw [ew]; omega) (by rw [ew]; omega) fun (u : Int) hu => ⟨by decide, by rw [em]; omega, ?_⟩
    rw [ew, Int.toNat_natCast] at hu
    have hu' := g u (List.mem_of_getElem? hu)
    have hb : bitsI .and .u32 (shrI .u32 u (Int.tmod (j : Int) 32)) 1 = ((x / 2 ^ j % 2 : Nat) : Int) := by
      rw [em, shr32u (by omega), and_one (Int.ediv_nonneg hu'.1 (by have := Int.pow_pos (n := 2) (m := j % 32) (by decide); omega)) ?_, digit_of g v hu]
      have := Int.ediv_le_self (2 ^ (j % 32)) hu'.1
      omega
    rw [hb]
    have hbit : ((x / 2 ^ j % 2 : Nat) : Int) = 0 ∨ ((x / 2 ^ j % 2 : Nat) : Int) = 1 := by omega
    have hms := mod_succ x j
    generalize x / 2 ^ j % 2 = bt at hbit hb hms ⊢
    by_cases hj : n ≤ j
    · refine JoinW2.direct ?_
      rw [if_pos (decide_eq_true (show (j : Int) ≥ (n : Int) by omega))]
      dsimp only
      rw [wrap64 (n := (j : Int) - (n : Int)) (by omega) (by omega), show (j : Int) - (n : Int) = ((j - n : Nat) : Int) by omega]
      have ep : 2 ^ j = 2 ^ n * 2 ^ (j - n) := by rw [← Nat.pow_add]; congr 1; omega
      have hlt : x % 2 ^ j / 2 ^ n < 2 ^ (j - n) := by
        rw [Nat.div_lt_iff_lt_mul (Nat.two_pow_pos n), Nat.mul_comm, ← ep]
        exact Nat.mod_lt _ (Nat.two_pow_pos j)
      refine bitStep hB.two g3 e3 (by rw [v3, two_cast]; omega) (by omega) hbit fun s' d' F' h' o' m' g' e' v' => ?_
      rw [wrap64 (by omega) (by omega)]
      refine ⟨⟨by omega, by omega, s1, s', d1, d', F1, F', ((hB.swap).put1 o' m').swap, g1, g', ?_, ?_, ?_, ?_⟩, by omega⟩
      · rw [e1]; omega
      · rw [e']; omega
      · rw [v1, show min ((j : Int) + 1).toNat n = min j n by omega]
      · rw [v', v3, show ((j : Int) + 1).toNat = j + 1 by omega, hms, two_cast, ← Int.natCast_mul, ← Int.natCast_add, ep, Nat.mul_assoc, Nat.add_mul_div_left _ _ (Nat.two_pow_pos n)]
    · refine JoinW2.direct ?_
      rw [if_neg (fun e => hj (by have := of_decide_eq_true e; omega))]
      dsimp only
      rw [show min j n = j by omega] at e1 v1
      have hlt : x % 2 ^ j < 2 ^ j := Nat.mod_lt _ (Nat.two_pow_pos j)
      refine bitStep hB.one g1 e1 (by rw [v1, two_cast]; omega) (by omega) hbit fun s' d' F' h' o' m' g' e' v' => ?_
      rw [wrap64 (by omega) (by omega)]
      refine ⟨⟨by omega, by omega, s', s3, d', d3, F', F3, hB.put1 o' m', g', g3, ?_, ?_, ?_, ?_⟩, by omega⟩
      · rw [e']; omega
      · rw [e3]; omega
      · rw [v', v1, show min ((j : Int) + 1).toNat n = j + 1 by omega, hms, two_cast, ← Int.natCast_mul, ← Int.natCast_add]
      · rw [v3, show ((j : Int) + 1).toNat = j + 1 by omega]
        have : ∀ a, a ≤ n → x % 2 ^ a / 2 ^ n = 0 := fun a ha => Nat.div_eq_of_lt (Nat.lt_of_lt_of_le (Nat.mod_lt _ (Nat.two_pow_pos a)) (Nat.pow_le_pow_right (by decide) ha))
        rw [this _ (by omega), this _ (by omega)]
  · rw [if_neg (fun e => hi (of_decide_eq_true e))]
    have hj : j = 32 * ds.length := by omega
    have hx : x < 2 ^ j := by
      have := valI_lt g
      rw [pow32, v] at this
      rw [hj]
      omega
    refine ld_at (sh := shSl) s1 (hB.one.1.ldIs (n := 1) rfl) (ld_at (sh := shSl) s3 (hB.two.1.ldIs (n := 1) rfl) ?_)
    have c1 := hB.one.2.1
    have c3 := hB.two.2.1
    refine firebreakref05_trim_call (trim_ok (c1.rw e32_len) c1.2.1 (by rw [c1.1]; omega) g1 fun r1 q1 => ?_)
    refine ⟨⟨hB.two.1.ldIs (n := 1) rfl, trivial⟩, firebreakref05_trim_call (trim_ok (c3.rw e32_len) c3.2.1 (by rw [c3.1]; omega) g3 fun r3 q3 => hk r1 r3 h7 hB.le ?_ ?_)⟩
    · rw [v1, Int.toNat_natCast] at q1
      by_cases hjn : j ≤ n
      · rw [show min j n = j by omega, Nat.mod_eq_of_lt hx] at q1
        rw [Nat.mod_eq_of_lt (Nat.lt_of_lt_of_le hx (Nat.pow_le_pow_right (by decide) hjn))]
        exact q1
      · rw [show min j n = n by omega] at q1
        exact q1
    · rw [v3, Int.toNat_natCast, Nat.mod_eq_of_lt hx] at q3
      exact q3

end
end Lf

/-
  The document's floats: words by their bits, parts, rounded.
-/
namespace Lf
open Go Go.Proofs

section
variable {a b : Nat}

theorem u64_bits : IntKind.u64.bits = 64 := rfl
theorem ofInt64 (ha : a < 18446744073709551616) : (BitVec.ofInt 64 ((a : Nat) : Int)).toNat = a := by
  rw [BitVec.ofInt_natCast, BitVec.toNat_ofNat]; exact Nat.mod_eq_of_lt ha
theorem wrapN (ha : a < 18446744073709551616) : IntKind.wrap .u64 ((a : Nat) : Int) = a := by rw [wrapU64]; omega

theorem andNot_sign (ha : a < 18446744073709551616) : bitsI .andNot .u64 (a : Int) (9223372036854775808 : Int) = ((a % 9223372036854775808 : Nat) : Int) := by
  unfold bitsI
  dsimp only
  rw [u64_bits, BitVec.toNat_and, ofInt64 ha, show (~~~ BitVec.ofInt 64 9223372036854775808).toNat = 2 ^ 63 - 1 by decide, Nat.and_two_pow_sub_one_eq_mod, wrapU64]
  omega

theorem and63 (a : Nat) : a &&& 2 ^ 63 = if a / 2 ^ 63 % 2 = 1 then 2 ^ 63 else 0 := by
  refine Nat.eq_of_testBit_eq fun i => ?_
  rw [Nat.testBit_and, Nat.testBit_two_pow]
  by_cases hi : 63 = i
  · subst hi
    rw [decide_eq_true rfl, Bool.and_true, Nat.testBit_eq_decide_div_mod_eq]
    by_cases h : a / 2 ^ 63 % 2 = 1
    · rw [if_pos h, decide_eq_true h]; exact (Nat.testBit_two_pow_self (n := 63)).symm
    · rw [if_neg h, decide_eq_false h, Nat.zero_testBit]
  · rw [decide_eq_false hi, Bool.and_false]
    by_cases h : a / 2 ^ 63 % 2 = 1
    · rw [if_pos h, Nat.testBit_two_pow, decide_eq_false hi]
    · rw [if_neg h, Nat.zero_testBit]

theorem and_sign (ha : a < 18446744073709551616) : bitsI .and .u64 (a : Int) (9223372036854775808 : Int) = ((sgn (negD a) : Nat) : Int) := by
  unfold bitsI
  dsimp only
  rw [u64_bits, BitVec.toNat_and, ofInt64 ha, show (BitVec.ofInt 64 9223372036854775808).toNat = 2 ^ 63 by decide, and63]
  unfold sgn negD
  by_cases h : 9223372036854775808 ≤ a
  · rw [decide_eq_true h, if_pos (show a / 2 ^ 63 % 2 = 1 by omega)]; rfl
  · rw [decide_eq_false h, if_neg (show ¬ a / 2 ^ 63 % 2 = 1 by omega)]; rfl

theorem xor_sign (ha : a < 18446744073709551616) (hb : b < 18446744073709551616) : bitsI .and .u64 (bitsI .xor .u64 (a : Int) (b : Int)) (9223372036854775808 : Int) = ((sgn (negD a ^^ negD b) : Nat) : Int) := by
  have e : bitsI .xor .u64 (a : Int) (b : Int) = ((a ^^^ b : Nat) : Int) := by
    unfold bitsI
    dsimp only
    have : a ^^^ b < 2 ^ 64 := Nat.xor_lt_two_pow ha hb
    rw [u64_bits, BitVec.toNat_xor, ofInt64 ha, ofInt64 hb, wrapN (by omega)]
  have hx : a ^^^ b < 2 ^ 64 := Nat.xor_lt_two_pow ha hb
  rw [e, and_sign (by omega)]
  congr 2
  have key : ∀ {n : Nat}, n < 2 ^ 64 → negD n = n.testBit 63 := fun {n} hn => by
    rw [Nat.testBit_eq_decide_div_mod_eq]
    unfold negD
    congr 1
    exact propext ⟨fun _ => by omega, fun _ => by omega⟩
  rw [key hx, key ha, key hb, Nat.testBit_xor]

theorem or_sign {s : Bool} (ha : a < 9223372036854775808) : bitsI .or .u64 ((sgn s : Nat) : Int) (a : Int) = ((sgn s + a : Nat) : Int) := by
  cases s with
  | false => exact or_add (a := 0) (s := 63) (.inl ⟨rfl, by omega⟩) ha
  | true => exact or_add (a := 1) (s := 63) (.inl ⟨rfl, by omega⟩) ha

theorem not_eq (ha : a < 18446744073709551616) : bitsI .xor .u64 (18446744073709551615 : Int) (a : Int) = ((18446744073709551615 - a : Nat) : Int) := by
  unfold bitsI
  dsimp only
  rw [u64_bits, show BitVec.ofInt 64 18446744073709551615 = BitVec.allOnes 64 by decide, BitVec.allOnes_xor, BitVec.toNat_not, ofInt64 ha]
  exact wrapN (a := 2 ^ 64 - 1 - a) (by omega)

theorem and_frac (ha : a < 18446744073709551616) : bitsI .and .u64 (a : Int) (4503599627370495 : Int) = ((a % 4503599627370496 : Nat) : Int) := by
  unfold bitsI
  dsimp only
  rw [u64_bits, BitVec.toNat_and, ofInt64 ha, show (BitVec.ofInt 64 4503599627370495).toNat = 2 ^ 52 - 1 by decide, Nat.and_two_pow_sub_one_eq_mod, wrapU64]
  omega

theorem or_comm64 (x y : Int) : bitsI .or .u64 x y = bitsI .or .u64 y x := by unfold bitsI; dsimp only; rw [BitVec.or_comm]

variable {h : Hp}

theorem parts_ok {Q : Int → Int → Hp → Prop} (ha : a < 9223372036854775808) (hk : Q ((partsM a : Nat) : Int) (partsE a) h) : firebreakref05_parts_w Tryz.prog (a : Int) Q h := by
  unfold firebreakref05_parts_w
  refine ⟨by decide, ?_⟩
  have e1 : shrI .u64 (a : Int) (52 : Int) = ((a / 4503599627370496 : Nat) : Int) := by
    exact shrU (a : Int) 52 (by decide)
  rw [e1, and_frac (by omega), wrap64 (by omega) (by omega)]
  unfold partsM partsE at hk
  by_cases hz : a < 4503599627370496
  · rw [if_pos (by rw [show a / 4503599627370496 = 0 by omega]; rfl), Nat.mod_eq_of_lt hz]
    rw [if_pos hz, if_pos hz] at hk
    exact hk
  · rw [if_neg (by simp; omega), or_comm64, show bitsI .or .u64 (4503599627370496 : Int) ((a % 4503599627370496 : Nat) : Int) = _ from or_add (a := 1) (s := 52) (v := a % 4503599627370496) (.inl ⟨rfl, by omega⟩) (by omega), wrap64 (by omega) (by omega)]
    rw [if_neg hz, if_neg hz] at hk
    rw [show 1 * 2 ^ 52 + a % 4503599627370496 = a % 4503599627370496 + 4503599627370496 by omega]
    exact hk

theorem isNaN_ok {Q : Bool → Hp → Prop} (ha : a < 18446744073709551616) (hk : Q (isNaND a) h) : firebreakref05_isNaN_w Tryz.prog (a : Int) Q h := by
  unfold firebreakref05_isNaN_w
  rw [andNot_sign ha]
  have e : decide (((a % 9223372036854775808 : Nat) : Int) > (9218868437227405312 : Int)) = isNaND a := by
    unfold isNaND
    congr 1
    exact propext ⟨fun _ => by omega, fun _ => by omega⟩
  rw [e]
  exact hk

end
end Lf

/-
  The document's floats: rounded.
-/
namespace Lf
open Go Go.Proofs

section
variable {h : Hp}

theorem bitsN_le {m b : Nat} (hm : m < 2 ^ b) : bitsN m ≤ b := by
  refine Classical.byContradiction fun hc => ?_
  have h0 : m ≠ 0 := fun e => by subst e; exact hc (Nat.zero_le _)
  have h1 := bitsN_ge h0
  have h2 : 2 ^ b ≤ 2 ^ (bitsN m - 1) := Nat.pow_le_pow_right (by decide) (by omega)
  omega

theorem Nt.lt {s : Sl} {x : Nat} (n : Nt h s x) : x < 2 ^ (32 * s.len) := by
  obtain ⟨ds, a, b, c, d, e⟩ := n
  have := valI_lt c
  rw [pow32, d] at this
  rw [a.1]
  omega

theorem max_off (m : Nat) (e : Int) : max2I ((bitsN m : Int) - 53) (-1074 - e) = offD m e := rfl

theorem tail_ok {s d : Bool} {q : Nat} {e o : Int} {Q : Int → Hp → Prop} (hq' : q ≤ 9007199254740992) (h0 : -1074 ≤ e + o) (h1 : -10000 ≤ e ∧ e ≤ 10000 ∧ o ≤ 20000)
    {r : Nat} (r1 : q < 4503599627370496 → r = q) (r2 : ¬ q < 4503599627370496 → 2047 ≤ e + o + 1075 → r = 9218868437227405312) (r3 : ¬ q < 4503599627370496 → ¬ 2047 ≤ e + o + 1075 → r = min ((e + o + 1075).toNat * 4503599627370496 + (q - 4503599627370496)) 9218868437227405312)
    (p1 : d = true → q < 4503599627370496) (p2 : d = false → ¬ q < 4503599627370496) (hk : Q ((sgn s + r : Nat) : Int) h) :
    (if d = true then
     Q (bitsI .or .u64 ((sgn s : Nat) : Int) (q : Int)) h
     else
     (if (decide ((IntKind.wrap .i64 ((IntKind.wrap .i64 (e + o)) + (1075 : Int))) ≥ (2047 : Int))) = true then
     Q (bitsI .or .u64 ((sgn s : Nat) : Int) (9218868437227405312 : Int)) h
     else
     ((0 : Int) ≤ (52 : Int) ∧ Q (bitsI .or .u64 ((sgn s : Nat) : Int) (min2I (IntKind.wrap .u64 ((shlI .u64 (IntKind.wrap .u64 (IntKind.wrap .i64 ((IntKind.wrap .i64 (e + o)) + (1075 : Int)))) (52 : Int)) + (IntKind.wrap .u64 ((q : Int) - (4503599627370496 : Int))))) (9218868437227405312 : Int))) h))) := by
  rw [wrap64 (n := e + o) (by omega) (by omega), wrap64 (n := e + o + 1075) (by omega) (by omega)]
  cases d with
  | true =>
    have c1 := p1 rfl
    rw [if_pos rfl, or_sign (by omega)]
    rw [r1 c1] at hk
    exact hk
  | false =>
    rw [if_neg (by decide)]
    have c1 := p2 rfl
    clear p1 p2
    have q1 : decide (e + o + 1075 ≥ (2047 : Int)) = true → 2047 ≤ e + o + 1075 := fun e => of_decide_eq_true e
    have q2 : decide (e + o + 1075 ≥ (2047 : Int)) = false → ¬ 2047 ≤ e + o + 1075 := fun e => of_decide_eq_false e
    generalize decide (e + o + 1075 ≥ (2047 : Int)) = d at *
    cases d with
    | true =>
      rw [if_pos rfl, show bitsI .or .u64 ((sgn s : Nat) : Int) (9218868437227405312 : Int) = _ from or_sign (a := 9218868437227405312) (by decide)]
      rw [r2 c1 (q1 rfl)] at hk
      exact hk
    | false =>
      have c2 := q2 rfl
      rw [if_neg (by decide)]
      rw [r3 c1 c2] at hk
      refine ⟨by decide, ?_⟩
      have es : shlI .u64 (IntKind.wrap .u64 (e + o + 1075)) (52 : Int) = (((e + o + 1075).toNat * 4503599627370496 : Nat) : Int) := by
        unfold shlI
        rw [show min (52 : Int).toNat IntKind.u64.bits = 52 from rfl, wrapU64, wrapU64]
        omega
      have em : min2I (IntKind.wrap .u64 ((((e + o + 1075).toNat * 4503599627370496 : Nat) : Int) + IntKind.wrap .u64 (((q : Nat) : Int) - 4503599627370496))) 9218868437227405312 = ((min ((e + o + 1075).toNat * 4503599627370496 + (q - 4503599627370496)) 9218868437227405312 : Nat) : Int) := by
        rw [wrapU64, wrapU64]
        unfold min2I
        split <;> omega
      rw [es, em, or_sign (by omega)]
      exact hk

set_option maxRecDepth 20000 in
theorem rounded_ok {s : Bool} {m : Sl} {x : Nat} {e : Int} {more : Bool} {Q : Int → Hp → Prop} (hm : Nt h m x) (lm : m.len < 100) (e0 : -10000 ≤ e) (e1 : e ≤ 10000) (hk : ∀ h', h ≤ h' → Q ((roundedD s x e more : Nat) : Int) h') : firebreakref05_rounded_w Tryz.prog ((sgn s : Nat) : Int) m e more Q h := by
  unfold firebreakref05_rounded_w
  unfold roundedD at hk
  by_cases hz : m.len = 0
  · rw [if_pos (by simp [hz])]
    rw [if_pos (hm.zero.1 hz)] at hk
    exact hk h (Hp.le_refl h)
  rw [if_neg (by simpa using hz)]
  have hx0 : x ≠ 0 := fun e => hz (hm.zero.2 e)
  rw [if_neg hx0] at hk
  refine firebreakref05_bits_call (bitsR_ok hm (by omega) ?_)
  have hb : bitsN x ≤ 3200 := Nat.le_trans (bitsN_le hm.lt) (by omega)
  rw [wrap64 (n := (bitsN x : Int) - 53) (by omega) (by omega), wrap64 (n := -1074 - e) (by omega) (by omega), max_off]
  have ho1 : (bitsN x : Int) - 53 ≤ offD x e ∧ -1074 - e ≤ offD x e ∧ offD x e ≤ 20000 := by unfold offD; split <;> omega
  have hxl := bitsN_lt x
  -- what is kept
  have hq : keptD x (offD x e) more ≤ 2 ^ 53 := by
    unfold keptD
    by_cases h0 : offD x e ≤ 0
    · rw [if_pos h0]
      have h1 : x * 2 ^ (-offD x e).toNat < 2 ^ bitsN x * 2 ^ (-offD x e).toNat := Nat.mul_lt_mul_of_pos_right hxl (Nat.two_pow_pos _)
      rw [← Nat.pow_add] at h1
      exact Nat.le_of_lt (Nat.lt_of_lt_of_le h1 (Nat.pow_le_pow_right (by decide) (by omega)))
    · rw [if_neg h0]
      have h1 : x / 2 ^ (offD x e).toNat < 2 ^ 53 := by
        rw [Nat.div_lt_iff_lt_mul (Nat.two_pow_pos _), ← Nat.pow_add]
        exact Nat.lt_of_lt_of_le hxl (Nat.pow_le_pow_right (by decide) (by omega))
      dsimp only
      split <;> omega
  refine JoinW1.intro (fun q h2 => h ≤ h2 ∧ q = ((keptD x (offD x e) more : Nat) : Int)) ?_ ?_
  · by_cases h0 : offD x e ≤ 0
    · rw [if_pos (decide_eq_true h0), wrap64 (n := (0 : Int) - offD x e) (by omega) (by omega), show (0 : Int) - offD x e = (((-offD x e).toNat : Nat) : Int) by omega]
      refine firebreakref05_shift_call (shift_ok hm (by omega) (by omega) fun r1 h2 l2 n2 => ?_)
      have ek : keptD x (offD x e) more = x * 2 ^ (-offD x e).toNat := by unfold keptD; rw [if_pos h0]
      rw [ek] at hq
      refine firebreakref05_small_call (small_ok n2 (by omega) ⟨l2, by rw [ek]⟩)
    · rw [if_neg (fun e => h0 (of_decide_eq_true e))]
      generalize hO : (offD x e).toNat = o
      rw [show offD x e = (o : Int) by omega]
      have hdiv : x / 2 ^ o < 2 ^ 53 := by
        rw [Nat.div_lt_iff_lt_mul (Nat.two_pow_pos _), ← Nat.pow_add]
        exact Nat.lt_of_lt_of_le hxl (Nat.pow_le_pow_right (by decide) (by omega))
      have ek : keptD x (o : Int) more = if 2 ^ (o - 1) < x % 2 ^ o ∨ (x % 2 ^ o = 2 ^ (o - 1) ∧ (more = true ∨ x / 2 ^ o % 2 = 1)) then x / 2 ^ o + 1 else x / 2 ^ o := by
        unfold keptD; rw [if_neg (by omega), Int.toNat_natCast]
      obtain ⟨L, hL⟩ : ∃ L : Nat, L = 100 := ⟨100, rfl⟩
      have hrest : x % 2 ^ o < 2 ^ (32 * L) := Nat.lt_of_le_of_lt (Nat.mod_le _ _) (Nat.lt_of_lt_of_le hxl (Nat.pow_le_pow_right (by decide) (by omega)))
      refine firebreakref05_low_call (low_ok hm (by omega) (by omega) fun r1 r2 h2 l2 n1 n2 => ?_)
      rw [ek]
      clear ek
      generalize x / 2 ^ o = qq at *
      generalize x % 2 ^ o = rr at *
      refine firebreakref05_small_call (small_ok n2 (by omega) ?_)
      refine firebreakref05_of_call (of_ok (by decide) (by decide) fun r4 h4 l4 n4 => ?_)
      rw [wrap64 (n := (o : Int) - 1) (by omega) (by omega), show (o : Int) - 1 = ((o - 1 : Nat) : Int) by omega]
      refine firebreakref05_shift_call (shift_ok n4 (by have := n4.len (L := 1) (by decide); omega) (by omega) fun r5 h5 l5 n5 => ?_)
      rw [show (1 : Int).toNat * 2 ^ (o - 1) = 2 ^ (o - 1) by rw [Int.toNat_one, Nat.one_mul]] at n5
      have hr5 : r5.len < 100000 := by
        have := n5.len (L := 10 * L) (Nat.pow_lt_pow_right (n := 32 * (10 * L)) (by decide) (by omega))
        omega
      have hr1 : r1.len < 100000 := by
        have := n1.len (L := L) hrest
        omega
      refine firebreakref05_compare_call (compare_ok (n1.mono (Hp.le_trans l4 l5)) n5 hr1 hr5 ⟨fun _ => by decide, ?_⟩)
      refine letW (letW (letW ?_))
      have et : (Int.tmod ((qq : Nat) : Int) 2 == 1) = decide (qq % 2 = 1) := by
        rw [Int.tmod_eq_emod_of_nonneg (by omega)]
        by_cases h1 : qq % 2 = 1
        · rw [decide_eq_true h1]; simp; omega
        · rw [decide_eq_false h1]; simp; omega
      have hle := Hp.le_trans l2 (Hp.le_trans l4 l5)
      rw [et]
      unfold cmpN
      by_cases c1 : rr < 2 ^ (o - 1)
      · rw [if_pos c1, if_neg (by simp), if_neg (by omega)]
        exact ⟨hle, rfl⟩
      · rw [if_neg c1]
        by_cases c2 : 2 ^ (o - 1) < rr
        · rw [if_pos c2, if_pos (by simp), if_pos (.inl c2), wrapU64]
          exact ⟨hle, by omega⟩
        · rw [if_neg c2]
          by_cases c3 : more = true ∨ qq % 2 = 1
          · rw [if_pos (by simpa using c3), if_pos (.inr ⟨by omega, c3⟩), wrapU64]
            exact ⟨hle, by omega⟩
          · rw [if_neg (by simpa using c3), if_neg (by rintro (c | ⟨_, c⟩); exact c2 c; exact c3 c)]
            exact ⟨hle, rfl⟩
  · rintro q' h2 ⟨hl, rfl⟩
    have t1 : -1074 ≤ e + offD x e := by omega
    have t2 : -10000 ≤ e ∧ e ≤ 10000 ∧ offD x e ≤ 20000 := by omega
    have hk2 := hk h2 hl
    clear hk hm lm hz hx0 hb hxl ho1
    have B1 : keptD x (offD x e) more ≤ 9007199254740992 := by omega
    have r1 : keptD x (offD x e) more < 4503599627370496 → rungD x e more = keptD x (offD x e) more := by intro c; unfold rungD; dsimp only; rw [if_pos c]
    have r2 : ¬ keptD x (offD x e) more < 4503599627370496 → 2047 ≤ e + offD x e + 1075 → rungD x e more = 9218868437227405312 := by intro c d; unfold rungD; dsimp only; rw [if_neg c, if_pos d]
    have r3 : ¬ keptD x (offD x e) more < 4503599627370496 → ¬ 2047 ≤ e + offD x e + 1075 → rungD x e more = min ((e + offD x e + 1075).toNat * 4503599627370496 + (keptD x (offD x e) more - 4503599627370496)) 9218868437227405312 := by intro c d; unfold rungD; dsimp only; rw [if_neg c, if_neg d]
    have p1 : decide (((keptD x (offD x e) more : Nat) : Int) < (4503599627370496 : Int)) = true → keptD x (offD x e) more < 4503599627370496 := fun e => by have := of_decide_eq_true e; omega
    have p2 : decide (((keptD x (offD x e) more : Nat) : Int) < (4503599627370496 : Int)) = false → ¬ keptD x (offD x e) more < 4503599627370496 := fun e => by have := of_decide_eq_false e; omega
    generalize decide (((keptD x (offD x e) more : Nat) : Int) < (4503599627370496 : Int)) = d at p1 p2 ⊢
    exact tail_ok B1 t1 t2 r1 r2 r3 p1 p2 hk2

end
end Lf

/-
  Floats as texts: products of 128 bits, scaling.
-/
namespace Lf
open Go Go.Proofs

theorem iteT {c : Prop} [Decidable c] {a b : Prop} (hc : c) (ha : a) : if c then a else b := by rw [if_pos hc]; exact ha
theorem iteF {c : Prop} [Decidable c] {a b : Prop} (hc : ¬ c) (hb : b) : if c then a else b := by rw [if_neg hc]; exact hb

section
variable {h : Hp}

theorem and_mask {a : Nat} (k : Nat) (ha : a < 18446744073709551616) (hk : k ≤ 64) : bitsI .and .u64 (a : Int) ((2 ^ k - 1 : Nat) : Int) = ((a % 2 ^ k : Nat) : Int) := by
  have h2 : 2 ^ k ≤ 2 ^ 64 := Nat.pow_le_pow_right (by decide) hk
  have hp := Nat.two_pow_pos k
  unfold bitsI
  dsimp only
  rw [u64_bits, BitVec.toNat_and, ofInt64 ha, ofInt64 (by omega), Nat.and_two_pow_sub_one_eq_mod, wrapN]
  exact Nat.lt_of_le_of_lt (Nat.mod_le _ _) ha

theorem and32 {a : Nat} (ha : a < 18446744073709551616) : bitsI .and .u64 (a : Int) (4294967295 : Int) = ((a % 4294967296 : Nat) : Int) := by
  have e := and_mask 32 ha (by decide)
  rw [show (2 : Nat) ^ 32 - 1 = 4294967295 by decide, show (2 : Nat) ^ 32 = 4294967296 by decide] at e
  exact e

theorem shrN (x : Nat) {n : Nat} (hn : n ≤ 64) : shrI .u64 (x : Int) (n : Int) = ((x / 2 ^ n : Nat) : Int) := by
  rw [shrU _ n hn]; norm_cast

theorem shr32N (x : Nat) : shrI .u64 (x : Int) (32 : Int) = ((x / 4294967296 : Nat) : Int) := by
  have e := shrN x (n := 32) (by decide)
  rw [show (2 : Nat) ^ 32 = 4294967296 by decide] at e
  exact e

theorem mul_lt {a b n m : Nat} (ha : a ≤ n) (hb : b ≤ m) : a * b ≤ n * m := Nat.mul_le_mul ha hb

theorem mul64_eq {a b c d : Nat} (ha : a ≤ 18446744065119617025) (hb : b ≤ 18446744065119617025) (hc : c ≤ 18446744065119617025) (hd : d ≤ 18446744065119617025) :
    a + (b + d / 4294967296) / 4294967296 + ((b + d / 4294967296) % 4294967296 + c) / 4294967296 = (a * 18446744073709551616 + (b + c) * 4294967296 + d) / 18446744073709551616 := by
  have e1 : (a * 18446744073709551616 + (b + c) * 4294967296 + d) / 18446744073709551616 = a + ((b + c) * 4294967296 + d) / 18446744073709551616 := by rw [Nat.add_assoc, Nat.mul_comm a, Nat.mul_add_div (by decide)]
  have e2 : ((b + c) * 4294967296 + d) / 18446744073709551616 = ((b + c) + d / 4294967296) / 4294967296 := by rw [show 18446744073709551616 = 4294967296 * 4294967296 by decide, ← Nat.div_div_eq_div_mul, Nat.mul_comm (b + c), Nat.mul_add_div (by decide)]
  rw [e1, e2]
  generalize d / 4294967296 = t at *
  omega

/-- Where one cell of a block is written over. -/
theorem put1 {b i : Nat} {cs : List Value} {v : Value} {K : Hp → Prop} (k : Blk h b cs) (hi : i < cs.length) (hk : ∀ h', Mv [b] h [b] h' → Blk h' b (cs.set i v) → K h') : StW h ⟨b, i, none⟩ [v] K :=
  stW_blk k (by simp only [List.length_singleton]; omega) fun h' m k' => hk h' m (by
    rw [List.set_eq_take_append_cons_drop, if_pos hi]
    simpa using k')

/-- A product of two words, in two words. -/
theorem mul64_ok {x y : Nat} {Q : Int → Int → Hp → Prop} (hx : x < 18446744073709551616) (hy : y < 18446744073709551616) (hq : Q ((x * y / 18446744073709551616 : Nat) : Int) ((x * y % 18446744073709551616 : Nat) : Int) h) : math_bits_Mul64_w Tryz.prog x y Q h := by
  unfold math_bits_Mul64_w
  refine ⟨by decide, by decide, by decide, by decide, by decide, ?_⟩
  rw [shr32N, shr32N, and32 hx, and32 hy]
  have hxy : x * y = (x / 4294967296 * (y / 4294967296)) * 18446744073709551616 + (x / 4294967296 * (y % 4294967296) + x % 4294967296 * (y / 4294967296)) * 4294967296 + x % 4294967296 * (y % 4294967296) := by
    have e1 : x = x / 4294967296 * 4294967296 + x % 4294967296 := by omega
    have e2 : y = y / 4294967296 * 4294967296 + y % 4294967296 := by omega
    generalize x / 4294967296 = p at *
    generalize x % 4294967296 = q at *
    generalize y / 4294967296 = r at *
    generalize y % 4294967296 = s at *
    subst e1 e2
    grind
  have b1 : x / 4294967296 ≤ 4294967295 := by omega
  have b2 : y / 4294967296 ≤ 4294967295 := by omega
  have b3 : x % 4294967296 ≤ 4294967295 := by omega
  have b4 : y % 4294967296 ≤ 4294967295 := by omega
  have ha := mul_lt b1 b2
  have hb := mul_lt b1 b4
  have hc := mul_lt b3 b2
  have hd := mul_lt b3 b4
  have hl : IntKind.wrap .u64 ((x : Int) * (y : Int)) = ((x * y % 18446744073709551616 : Nat) : Int) := by
    rw [wrapU64, show (x : Int) * (y : Int) = ((x * y : Nat) : Int) by norm_cast]
    generalize x * y = z
    omega
  rw [hl]
  have hk := mul64_eq ha hb hc hd
  rw [← hxy] at hk
  rw [← hk] at hq
  have c1 : ((x / 4294967296 : Nat) : Int) * ((y / 4294967296 : Nat) : Int) = ((x / 4294967296 * (y / 4294967296) : Nat) : Int) := by norm_cast
  have c2 : ((x / 4294967296 : Nat) : Int) * ((y % 4294967296 : Nat) : Int) = ((x / 4294967296 * (y % 4294967296) : Nat) : Int) := by norm_cast
  have c3 : ((x % 4294967296 : Nat) : Int) * ((y / 4294967296 : Nat) : Int) = ((x % 4294967296 * (y / 4294967296) : Nat) : Int) := by norm_cast
  have c4 : ((x % 4294967296 : Nat) : Int) * ((y % 4294967296 : Nat) : Int) = ((x % 4294967296 * (y % 4294967296) : Nat) : Int) := by norm_cast
  rw [c1, c2, c3, c4]
  clear c1 c2 c3 c4 hk hxy hl
  generalize x / 4294967296 * (y / 4294967296) = a at *
  generalize x / 4294967296 * (y % 4294967296) = b at *
  generalize x % 4294967296 * (y / 4294967296) = c at *
  generalize x % 4294967296 * (y % 4294967296) = d at *
  have sum : ∀ {u v : Nat}, u + v < 18446744073709551616 → IntKind.wrap .u64 ((u : Int) + (v : Int)) = ((u + v : Nat) : Int) := fun {u v} huv => by rw [wrapU64]; omega
  rw [wrapN (a := a) (by omega), wrapN (a := b) (by omega), wrapN (a := c) (by omega), wrapN (a := d) (by omega), shr32N, sum (u := b) (by omega), shr32N, and32 (by omega), sum (u := (b + d / 4294967296) % 4294967296) (v := c) (by omega), shr32N, sum (u := a) (by omega), sum (by omega)]
  exact hq

/-- An unrounded product. -/
def uscaleN (x hi lo s : Nat) : Nat :=
  let u := x * hi / 18446744073709551616
  let mid := x * hi % 18446744073709551616
  let mid2 := x * lo / 18446744073709551616
  if u % 2 ^ s ≠ 0 then u / 2 ^ s ||| 1
  else (if mid < mid2 then u - 1 else u) / 2 ^ s ||| (if mid2 + 1 < mid ∨ mid < mid2 then 1 else 0)

/-- What scaling leans on, in memory. -/
abbrev Scl (h : Hp) (b hi lo s : Nat) : Prop := Blk h b [.int .u64 (hi : Int), .int .u64 (lo : Int), .int .i64 (s : Int)]

theorem orN {x y : Nat} (hx : x < 18446744073709551616) (hy : y < 18446744073709551616) : bitsI .or .u64 (x : Int) (y : Int) = ((x ||| y : Nat) : Int) := by
  unfold bitsI
  dsimp only
  have : x ||| y < 2 ^ 64 := Nat.or_lt_two_pow hx hy
  rw [u64_bits, BitVec.toNat_or, ofInt64 hx, ofInt64 hy, wrapN (by omega)]

theorem bool64_ok {b : Bool} {Q : Int → Hp → Prop} (hq : Q ((b.toNat : Nat) : Int) h) : internal_strconv_bool2_uint64_w Tryz.prog b Q h := by
  unfold internal_strconv_bool2_uint64_w
  cases b
  · exact hq
  · exact hq

theorem and63i {s : Nat} (hs : s < 64) : bitsI .and .i64 (s : Int) (63 : Int) = (s : Int) := by
  unfold bitsI
  dsimp only
  show IntKind.wrap .i64 (((BitVec.ofInt 64 (s : Int)) &&& (BitVec.ofInt 64 63)).toNat : Int) = _
  rw [BitVec.toNat_and, ofInt64 (by omega), show (BitVec.ofInt 64 63).toNat = 2 ^ 6 - 1 by decide, Nat.and_two_pow_sub_one_eq_mod, wrap64 (by omega) (by omega), Nat.mod_eq_of_lt hs]

theorem shlN {x n : Nat} (hn : n ≤ 64) (hx : x * 2 ^ n < 18446744073709551616) : shlI .u64 (x : Int) (n : Int) = ((x * 2 ^ n : Nat) : Int) := by
  unfold shlI
  rw [show min ((n : Int)).toNat IntKind.u64.bits = n by have : IntKind.u64.bits = 64 := rfl; omega, show (x : Int) * 2 ^ n = ((x * 2 ^ n : Nat) : Int) by norm_cast, wrapN hx]

theorem uscale_ok {x hi lo s b : Nat} {Q : Int → Hp → Prop} (hx : x < 18446744073709551616) (hh : hi < 18446744073709551616) (hl : lo < 18446744073709551616) (hs : s < 64) (hu : x * hi / 18446744073709551616 ≠ 0)
    (k : Scl h b hi lo s) (hq : Q ((uscaleN x hi lo s : Nat) : Int) h) : internal_strconv_uscale_w Tryz.prog x (some ⟨b, 0, none⟩) Q h := by
  unfold internal_strconv_uscale_w
  refine notNil (ld_at (sh := shInt .u64) (hi : Int) (k.ldIs (off := 0) (n := 1) rfl) (math_bits_Mul64_call (mul64_ok hx hh ?_)))
  refine notNil (ld_at (sh := shInt .i64) (s : Int) (k.ldIs (off := 2) (n := 1) rfl) ?_)
  rw [and63i hs]
  have hul : x * hi / 18446744073709551616 < 18446744073709551616 := Nat.div_lt_of_lt_mul (Nat.lt_of_lt_of_le (Nat.mul_lt_mul_of_lt_of_lt hx hh) (Nat.le_refl _))
  have hml : x * hi % 18446744073709551616 < 18446744073709551616 := Nat.mod_lt _ (by decide)
  have hm2 : x * lo / 18446744073709551616 < 18446744073709551615 := by
    have := Nat.mul_le_mul (Nat.le_pred_of_lt hx) (Nat.le_pred_of_lt hl)
    have : x * lo ≤ 18446744073709551615 * 18446744073709551615 := this
    generalize x * lo = z at *
    omega
  unfold uscaleN at hq
  dsimp only at hq
  have hdiv : ∀ {v : Nat}, v < 18446744073709551616 → v / 2 ^ s < 18446744073709551616 := fun hv => Nat.lt_of_le_of_lt (Nat.div_le_self _ _) hv
  refine ⟨by omega, by omega, ?_⟩
  generalize hU : x * hi / 18446744073709551616 = u at *
  generalize hM : x * hi % 18446744073709551616 = mid at *
  have hback : u / 2 ^ s * 2 ^ s ≤ u := Nat.div_mul_le_self _ _
  rw [shrN u (by omega), shlN (by omega) (by omega)]
  have hcond : u % 2 ^ s ≠ 0 ↔ ((u / 2 ^ s * 2 ^ s : Nat) : Int) ≠ (u : Int) := by
    have := Nat.div_add_mod u (2 ^ s)
    rw [Nat.mul_comm] at this
    omega
  by_cases hc : u % 2 ^ s ≠ 0
  · rw [if_pos hc] at hq
    refine iteT (bne_iff_ne.2 (hcond.1 hc)) ⟨by omega, ?_⟩
    rw [show (1 : Int) = ((1 : Nat) : Int) from rfl, orN (hdiv hul) (by omega)]
    exact hq
  · rw [if_neg hc] at hq
    refine iteF (fun e => hc (hcond.2 (bne_iff_ne.1 e))) ?_
    refine notNil (ld_at (sh := shInt .u64) (lo : Int) (k.ldIs (off := 1) (n := 1) rfl) (math_bits_Mul64_call (mul64_ok hx hl ?_)))
    generalize hM2 : x * lo / 18446744073709551616 = mid2 at *
    refine internal_strconv_bool2_uint64_call (bool64_ok ⟨by omega, ?_⟩)
    refine internal_strconv_bool2_uint64_call (bool64_ok ?_)
    have e1 : IntKind.wrap .u64 ((u : Int) - (((decide ((mid : Int) < (mid2 : Int))).toNat : Nat) : Int)) = ((if mid < mid2 then u - 1 else u : Nat) : Int) := by
      rw [wrapU64]
      by_cases h1 : mid < mid2
      · rw [if_pos h1, decide_eq_true (by omega)]
        show ((u : Int) - 1) % _ = _
        omega
      · rw [if_neg h1, decide_eq_false (by omega)]
        show ((u : Int) - 0) % _ = _
        omega
    have e2 : (((decide (IntKind.wrap .u64 ((mid : Int) - (mid2 : Int)) > (1 : Int))).toNat : Nat) : Int) = ((if mid2 + 1 < mid ∨ mid < mid2 then 1 else 0 : Nat) : Int) := by
      rw [wrapU64]
      by_cases h1 : mid2 + 1 < mid ∨ mid < mid2
      · rw [if_pos h1, decide_eq_true (by omega)]; rfl
      · rw [if_neg h1, decide_eq_false (by omega)]; rfl
    rw [e1, e2, shrN _ (by omega), orN (hdiv (by split <;> omega)) (by split <;> omega)]
    exact hq
end
end Lf

/-
  Floats as texts: the shortest digits, as they are reckoned.
-/
namespace Lf
open Go Go.Proofs Go.Pinned

def log10P (x : Int) : Int := x * 78913 / 262144
def log2P (x : Int) : Int := x * 108853 / 32768
def skewP (x : Int) : Int := (x * 631305 - 261663) / 2097152

/-- The table of powers of ten in memory. -/
abbrev Pow10 (h : Hp) : Prop := LdIs h ⟨11, 0, none⟩ (pow10Rows.flatMap fun x => [Value.int .u64 (x.1 : Int), Value.int .u64 (x.2 : Int)])

theorem pow10_len : pow10Rows.length = 696 := by decide +kernel
theorem pow10_top : ∀ x ∈ pow10Rows, 9223372036854775808 ≤ x.1 ∧ x.1 < 18446744073709551616 ∧ x.2 < 18446744073709551616 := by decide +kernel

def hiP (p : Int) : Nat := (pow10Rows.getD (p + 348).toNat (0, 0)).1
def loP (p : Int) : Nat := (pow10Rows.getD (p + 348).toNat (0, 0)).2

section
variable {h : Hp}

theorem row_at {p : Int} (h0 : -348 ≤ p) (h1 : p ≤ 347) : pow10Rows[(p + 348).toNat]? = some (hiP p, loP p) := by
  have hl : (p + 348).toNat < pow10Rows.length := by rw [pow10_len]; omega
  unfold hiP loP
  rw [List.getElem?_eq_getElem hl]
  simp [List.getD, List.getElem?_eq_getElem hl]

theorem row_in {p : Int} (h0 : -348 ≤ p) (h1 : p ≤ 347) : 9223372036854775808 ≤ hiP p ∧ hiP p < 18446744073709551616 ∧ loP p < 18446744073709551616 :=
  pow10_top _ (List.mem_of_getElem? (row_at h0 h1))

theorem flat2 {l : List (Nat × Nat)} {i : Nat} {x : Nat × Nat} (e : l[i]? = some x) : (l.flatMap fun x => [Value.int .u64 (x.1 : Int), Value.int .u64 (x.2 : Int)])[i * 2]? = some (.int .u64 x.1) ∧
    (l.flatMap fun x => [Value.int .u64 (x.1 : Int), Value.int .u64 (x.2 : Int)])[i * 2 + 1]? = some (.int .u64 x.2) := by
  induction l generalizing i with
  | nil => simp at e
  | cons y l ih =>
    cases i with
    | zero => simp at e; subst e; simp
    | succ i =>
      have := ih (i := i) (by simpa using e)
      rw [show (i + 1) * 2 = i * 2 + 1 + 1 by omega]
      simpa using this

theorem one_cell {h : Hp} {a : Addr} {v : Value} (e : hcell h a = some v) : LdIs h a [v] := fun i u hu => by
  cases i with
  | zero => cases hu; exact e
  | succ i => simp at hu

theorem pow10_at (t : Pow10 h) {p : Int} (h0 : -348 ≤ p) (h1 : p ≤ 347) : LdIs h ⟨11, (p + 348).toNat * 2, none⟩ [.int .u64 (hiP p : Int)] ∧ LdIs h ⟨11, (p + 348).toNat * 2 + 1, none⟩ [.int .u64 (loP p : Int)] := by
  obtain ⟨e1, e2⟩ := flat2 (row_at h0 h1)
  have c1 := t _ _ e1
  have c2 := t _ _ e2
  rw [box_add, Nat.zero_add] at c1 c2
  exact ⟨one_cell c1, one_cell c2⟩

theorem log10_ok {x : Int} {Q : Int → Hp → Prop} (h0 : -100000 ≤ x) (h1 : x ≤ 100000) (hq : Q (log10P x) h) : internal_strconv_log10Pow2_w Tryz.prog x Q h := by
  unfold internal_strconv_log10Pow2_w
  refine ⟨by decide, ?_⟩
  rw [wrap64 (by omega) (by omega)]
  unfold shrI
  rw [show (2 : Int) ^ (min (18 : Int).toNat IntKind.i64.bits) = 262144 by decide, Int.fdiv_eq_ediv_of_nonneg _ (by decide)]
  exact hq

theorem log2_ok {x : Int} {Q : Int → Hp → Prop} (h0 : -100000 ≤ x) (h1 : x ≤ 100000) (hq : Q (log2P x) h) : internal_strconv_log2Pow10_w Tryz.prog x Q h := by
  unfold internal_strconv_log2Pow10_w
  refine ⟨by decide, ?_⟩
  rw [wrap64 (by omega) (by omega)]
  unfold shrI
  rw [show (2 : Int) ^ (min (15 : Int).toNat IntKind.i64.bits) = 32768 by decide, Int.fdiv_eq_ediv_of_nonneg _ (by decide)]
  exact hq

theorem skew_ok {x : Int} {Q : Int → Hp → Prop} (h0 : -100000 ≤ x) (h1 : x ≤ 100000) (hq : Q (skewP x) h) : internal_strconv_skewed_w Tryz.prog x Q h := by
  unfold internal_strconv_skewed_w
  refine ⟨by decide, ?_⟩
  rw [wrap64 (n := x * 631305) (by omega) (by omega), wrap64 (by omega) (by omega)]
  unfold shrI
  rw [show (2 : Int) ^ (min (21 : Int).toNat IntKind.i64.bits) = 2097152 by decide, Int.fdiv_eq_ediv_of_nonneg _ (by decide)]
  exact hq

theorem prescale_ok {b : Nat} {x0 x1 x2 : Value} {e p lp : Int} {Q : Hp → Prop} (k : Blk h b [x0, x1, x2]) (t : Pow10 h) (hb : b ≠ 11) (h0 : -348 ≤ p) (h1 : p ≤ 347) (hl : lp = log2P p) (s0 : 0 ≤ -(e + lp + 3)) (s1 : -(e + lp + 3) < 64)
    (hk : ∀ h', Mv [b] h [b] h' → Scl h' b (hiP p) (loP p) (-(e + lp + 3)).toNat → Q h') : internal_strconv_prescale_w Tryz.prog (some ⟨b, 0, none⟩) e p lp Q h := by
  unfold internal_strconv_prescale_w
  have hlp : -1200 ≤ lp ∧ lp ≤ 1200 := by subst hl; unfold log2P; omega
  have e1 : IntKind.wrap .i64 (p - (-348 : Int)) = p + 348 := by rw [wrap64 (by omega) (by omega)]; omega
  have e2 : IntKind.wrap .i64 ((0 : Int) - (IntKind.wrap .i64 ((IntKind.wrap .i64 (e + lp)) + (3 : Int)))) = (((-(e + lp + 3)).toNat : Nat) : Int) := by
    rw [wrap64 (n := e + lp) (by omega) (by omega), wrap64 (n := e + lp + 3) (by omega) (by omega), wrap64 (by omega) (by omega)]
    omega
  rw [e1, e2]
  obtain ⟨c1, c2⟩ := pow10_at t h0 h1
  have a1 : Addr.add (Addr.add ⟨11, 0, none⟩ ((p + 348).toNat * 2)) 0 = ⟨11, (p + 348).toNat * 2, none⟩ := by rw [box_add, box_add]; simp
  have a2 : Addr.add (Addr.add ⟨11, 0, none⟩ ((p + 348).toNat * 2)) 1 = ⟨11, (p + 348).toNat * 2 + 1, none⟩ := by rw [box_add, box_add]; simp
  rw [a1, a2]
  refine ⟨⟨by omega, by omega⟩, ld_at (sh := shInt .u64) (hiP p : Int) c1 (notNil ?_)⟩
  refine put1 (i := 0) k (by simp) fun k1 m1 b1 => ?_
  have c2' := ldIs_mv c2 m1 (by simpa using Ne.symm hb)
  refine ⟨⟨by omega, by omega⟩, ld_at (sh := shInt .u64) (loP p : Int) c2' (notNil ?_)⟩
  refine put1 (i := 1) b1 (by simp) fun k2 m2 b2 => ?_
  refine notNil (put1 (i := 2) b2 (by simp) fun k3 m3 b3 => ?_)
  exact hk k3 (m1.trans (m2.trans m3)) b3
end

/-! What comes of it, in plain numbers. -/
def nudgeP (u : Nat) (odd : Bool) (up : Bool) : Nat := if odd then (if up then u + 1 else u + 18446744073709551615) % 18446744073709551616 else u
def roundP (u : Nat) : Nat := (u + 1 + u / 4 % 2) % 18446744073709551616 / 4

/-- How far off a float's neighbours stand. -/
def zP (e : Int) : Nat := if -1085 ≤ e then 11 else (11 + (-1085 - e)).toNat
def pP (m : Nat) (e : Int) : Int := if m = 9223372036854775808 ∧ -1085 < e then -skewP (e + 11) else -log10P (e + zP e)
def minP (m : Nat) (e : Int) : Nat := if m = 9223372036854775808 ∧ -1085 < e then m - 512 else m - 2 ^ (zP e - 1)
def maxP (m : Nat) (e : Int) : Nat := m + 2 ^ (zP e - 1)
def oddP (m : Nat) (e : Int) : Bool := m / 2 ^ zP e % 2 == 1
def sclP (m : Nat) (e : Int) (x : Nat) : Nat := uscaleN x (hiP (pP m e)) (loP (pP m e)) (-(e + log2P (pP m e) + 3)).toNat
def dminP (m : Nat) (e : Int) : Nat := (nudgeP (sclP m e (minP m e)) (oddP m e) true + 3) % 18446744073709551616 / 4
def dmaxP (m : Nat) (e : Int) : Nat := nudgeP (sclP m e (maxP m e)) (oddP m e) false / 4
def shortP (m : Nat) (e : Int) : Nat × Int :=
  if dminP m e ≤ dmaxP m e / 10 * 10 then (dmaxP m e / 10, -(pP m e - 1))
  else if dminP m e < dmaxP m e then (roundP (sclP m e m), -pP m e)
  else (dminP m e, -pP m e)

theorem p_in {m : Nat} {e : Int} (h0 : -1137 ≤ e) (h1 : e ≤ 974) : -348 ≤ pP m e ∧ pP m e ≤ 347 ∧ 0 ≤ -(e + log2P (pP m e) + 3) ∧ -(e + log2P (pP m e) + 3) < 64 := by
  unfold pP
  split
  · unfold skewP log2P
    omega
  · unfold zP log10P log2P
    split <;> omega

section
variable {h : Hp}

theorem nudge_ok {u : Nat} {d : Int} {odd up : Bool} {Q : Int → Hp → Prop} (hu : u < 18446744073709551616) (hd : d = if odd then (if up then 1 else -1) else 0) (hq : Q ((nudgeP u odd up : Nat) : Int) h) : internal_strconv_unrounded_nudge_w Tryz.prog u d Q h := by
  unfold internal_strconv_unrounded_nudge_w
  unfold nudgeP at hq
  subst hd
  rw [wrapU64, wrapU64]
  cases odd with
  | false =>
    simp only [Bool.false_eq_true, if_false] at hq ⊢
    rw [show ((u : Int) + 0 % 18446744073709551616) % 18446744073709551616 = (u : Int) by omega]
    exact hq
  | true =>
    cases up with
    | true =>
      simp only [if_true] at hq ⊢
      rw [show ((u : Int) + 1 % 18446744073709551616) % 18446744073709551616 = (((u + 1) % 18446744073709551616 : Nat) : Int) by omega]
      exact hq
    | false =>
      simp only [if_true, Bool.false_eq_true, if_false] at hq ⊢
      rw [show ((u : Int) + -1 % 18446744073709551616) % 18446744073709551616 = (((u + 18446744073709551615) % 18446744073709551616 : Nat) : Int) by omega]
      exact hq

theorem shr2N (x : Nat) : shrI .u64 (x : Int) (2 : Int) = ((x / 4 : Nat) : Int) := shrN x (n := 2) (by decide)

theorem ceil_ok {u : Nat} {Q : Int → Hp → Prop} (hq : Q (((u + 3) % 18446744073709551616 / 4 : Nat) : Int) h) : internal_strconv_unrounded_ceil_w Tryz.prog u Q h := by
  unfold internal_strconv_unrounded_ceil_w
  rw [show IntKind.wrap .u64 ((u : Int) + (3 : Int)) = (((u + 3) % 18446744073709551616 : Nat) : Int) by rw [wrapU64]; omega, shr2N]
  exact ⟨by decide, hq⟩

theorem floor_ok {u : Nat} {Q : Int → Hp → Prop} (hu : u < 18446744073709551616) (hq : Q ((u / 4 : Nat) : Int) h) : internal_strconv_unrounded_floor_w Tryz.prog u Q h := by
  unfold internal_strconv_unrounded_floor_w
  simp only [Int.add_zero, wrapN hu, shr2N]
  first | exact ⟨by decide, hq⟩ | exact hq

theorem round_ok {u : Nat} {Q : Int → Hp → Prop} (hu : u < 18446744073709551616) (hq : Q ((roundP u : Nat) : Int) h) : internal_strconv_unrounded_round_w Tryz.prog u Q h := by
  unfold internal_strconv_unrounded_round_w
  have e1 : bitsI .and .u64 (shrI .u64 (u : Int) (2 : Int)) (1 : Int) = ((u / 4 % 2 : Nat) : Int) := by
    rw [shr2N]
    have := and_mask (a := u / 4) 1 (by omega) (by decide)
    exact this
  rw [e1]
  have e2 : IntKind.wrap .u64 (IntKind.wrap .u64 ((u : Int) + (1 : Int)) + ((u / 4 % 2 : Nat) : Int)) = (((u + 1 + u / 4 % 2) % 18446744073709551616 : Nat) : Int) := by rw [wrapU64, wrapU64]; omega
  rw [e2, shr2N]
  exact ⟨by decide, by decide, hq⟩
end
end Lf

/-
  Floats as texts: the shortest digits.
-/
namespace Lf
open Go Go.Proofs Go.Pinned

section
variable {h : Hp}

theorem Pow10.known (t : Pow10 h) : h 11 ≠ none := by
  have e := t 0 (.int .u64 ((pow10Rows.getD 0 (0, 0)).1 : Int)) (by
    have := (flat2 (l := pow10Rows) (i := 0) (x := pow10Rows.getD 0 (0, 0)) (by
      have hl : 0 < pow10Rows.length := by rw [pow10_len]; decide
      simp [List.getD, List.getElem?_eq_getElem hl])).1
    exact this)
  obtain ⟨o, ho⟩ := hcell_known e
  have ho : h 11 = some o := ho
  rw [ho]
  simp

theorem andi1 {s : Nat} (hs : s < 9223372036854775808) : bitsI .and .i64 (IntKind.wrap .i64 (s : Int)) (1 : Int) = ((s % 2 : Nat) : Int) := by
  rw [wrap64 (by omega) (by omega)]
  unfold bitsI
  dsimp only
  show IntKind.wrap .i64 (((BitVec.ofInt 64 (s : Int)) &&& (BitVec.ofInt 64 1)).toNat : Int) = _
  rw [BitVec.toNat_and, ofInt64 (by omega), show (BitVec.ofInt 64 1).toNat = 2 ^ 1 - 1 by decide, Nat.and_two_pow_sub_one_eq_mod, wrap64 (by omega) (by omega), Nat.pow_one]

theorem odd_int {n : Nat} : ((n % 2 : Nat) : Int) = if (n % 2 == 1) = true then 1 else 0 := by
  by_cases h : n % 2 = 1
  · rw [if_pos (by simpa using h), h]; rfl
  · rw [if_neg (by simpa using h), show n % 2 = 0 by omega]; rfl

theorem uscaleN_lt {x hi lo s : Nat} (hx : x < 18446744073709551616) (hh : hi < 18446744073709551616) : uscaleN x hi lo s < 18446744073709551616 := by
  have hul : x * hi / 18446744073709551616 < 18446744073709551616 := Nat.div_lt_of_lt_mul (Nat.lt_of_lt_of_le (Nat.mul_lt_mul_of_lt_of_lt hx hh) (Nat.le_refl _))
  have hdiv : ∀ {v : Nat}, v < 18446744073709551616 → v / 2 ^ s < 18446744073709551616 := fun hv => Nat.lt_of_le_of_lt (Nat.div_le_self _ _) hv
  have o1 : ∀ {v k : Nat}, v < 18446744073709551616 → k < 18446744073709551616 → v ||| k < 18446744073709551616 := fun {v k} hv hk => Nat.or_lt_two_pow (n := 64) hv hk
  unfold uscaleN
  dsimp only
  split
  · exact o1 (hdiv hul) (by omega)
  · exact o1 (hdiv (by split <;> omega)) (by split <;> omega)

theorem nudge_lt {u : Nat} {a b : Bool} (hu : u < 18446744073709551616) : nudgeP u a b < 18446744073709551616 := by
  unfold nudgeP
  split
  · exact Nat.mod_lt _ (by decide)
  · exact hu

theorem big_prod {x hi : Nat} (hx : 2305843009213693952 ≤ x) (hh : 9223372036854775808 ≤ hi) : x * hi / 18446744073709551616 ≠ 0 := by
  have := Nat.mul_le_mul hx hh
  have : 2305843009213693952 * 9223372036854775808 ≤ x * hi := this
  generalize x * hi = z at *
  omega

theorem short_ok {m : Nat} {e : Int} {Q : Int → Int → Hp → Prop} (m0 : 9223372036854775808 ≤ m) (m1 : m + 2 ^ zP e ≤ 18446744073709551616) (h0 : -1137 ≤ e) (h1 : e ≤ 974) (t : Pow10 h)
    (hk : ∀ h', h ≤ h' → Q ((shortP m e).1 : Int) (shortP m e).2 h') : internal_strconv_shortFloat_float64_w Tryz.prog m e Q h := by
  obtain ⟨p0, p1, s0, s1⟩ := p_in (m := m) h0 h1
  have hz : 11 ≤ zP e ∧ zP e ≤ 63 := by unfold zP; split <;> omega
  have hz1 : 2 ^ zP e = 2 * 2 ^ (zP e - 1) := by rw [← Nat.pow_succ']; congr 1; omega
  have hzm : 2 ^ (zP e - 1) ≤ 4611686018427387904 := by
    have : 2 ^ (zP e - 1) ≤ 2 ^ 62 := Nat.pow_le_pow_right (by decide) (by omega)
    exact this
  have hz0 : 1024 ≤ 2 ^ (zP e - 1) := by
    have : 2 ^ 10 ≤ 2 ^ (zP e - 1) := Nat.pow_le_pow_right (by decide) (by omega)
    exact this
  have hodd : ∀ {z : Int}, z = (zP e : Int) → bitsI .and .i64 (IntKind.wrap .i64 (shrI .u64 (m : Int) z)) (1 : Int) = if oddP m e = true then 1 else 0 := fun {z} hz' => by
    subst hz'
    rw [shrN m (by omega), andi1, odd_int]
    · rfl
    · have : m / 2 ^ zP e ≤ m / 2 ^ 11 := Nat.div_le_div_left (Nat.pow_le_pow_right (by decide) hz.1) (by decide)
      omega
  have one : ∀ {z : Int} (n : Nat), z = (n : Int) → n ≤ 62 → shlI .u64 (1 : Int) z = ((2 ^ n : Nat) : Int) := fun {z} n hn hl => by
    subst hn
    have := shlN (x := 1) (n := n) (by omega) (by
      have : 2 ^ n ≤ 2 ^ 62 := Nat.pow_le_pow_right (by decide) hl
      omega)
    rw [Nat.one_mul] at this
    exact this
  unfold internal_strconv_shortFloat_float64_w
  refine JoinW2.direct ?_
  dsimp only
  rw [show IntKind.wrap .i64 ((63 : Int) - (52 : Int)) = 11 by decide]
  refine JoinW4.intro (fun p mn mx od k => k = h ∧ p = pP m e ∧ mn = ((minP m e : Nat) : Int) ∧ mx = ((maxP m e : Nat) : Int) ∧ od = if oddP m e = true then 1 else 0) (letW ?_) ?_
  · by_cases hc : m = 9223372036854775808 ∧ -1085 < e
    · have hze : zP e = 11 := by unfold zP; rw [if_pos (by omega)]
      refine iteT (by rw [Bool.and_eq_true]; exact ⟨by rw [beq_iff_eq]; omega, decide_eq_true (by omega)⟩) ?_
      rw [wrap64 (n := e + 11) (by omega) (by omega)]
      refine internal_strconv_skewed_call (skew_ok (by omega) (by omega) ⟨by decide, by decide, by decide, rfl, ?_, ?_, ?_, ?_⟩)
      · have : -5000 ≤ skewP (e + 11) ∧ skewP (e + 11) ≤ 5000 := by unfold skewP; omega
        rw [wrap64 (by omega) (by omega)]
        unfold pP
        rw [if_pos hc]
        omega
      · rw [one 9 (by decide) (by decide), wrapU64]
        unfold minP
        rw [if_pos hc]
        omega
      · rw [one 10 (by decide) (by decide), wrapU64]
        unfold maxP
        rw [hze]
        omega
      · exact hodd (by rw [hze]; rfl)
    · refine iteF (fun hh => hc (by rw [Bool.and_eq_true, beq_iff_eq] at hh; exact ⟨by omega, of_decide_eq_true hh.2⟩)) ?_
      have hp : pP m e = -log10P (e + (zP e : Int)) := by unfold pP; rw [if_neg hc]
      have hmn : minP m e = m - 2 ^ (zP e - 1) := by unfold minP; rw [if_neg hc]
      by_cases hd : -1085 ≤ e
      · have hze : zP e = 11 := by unfold zP; rw [if_pos hd]
        refine iteT (decide_eq_true hd) ?_
        rw [wrap64 (n := e + 11) (by omega) (by omega)]
        refine internal_strconv_log10Pow2_call (log10_ok (by omega) (by omega) ⟨by decide, by decide, by decide, rfl, ?_, ?_, ?_, ?_⟩)
        · have : -5000 ≤ log10P (e + 11) ∧ log10P (e + 11) ≤ 5000 := by unfold log10P; omega
          rw [wrap64 (by omega) (by omega), hp, hze, Int.zero_sub]
          rfl
        · rw [one 10 (by decide) (by decide), wrapU64, hmn, hze]
          omega
        · rw [one 10 (by decide) (by decide), wrapU64]
          unfold maxP
          rw [hze]
          omega
        · exact hodd (by rw [hze]; rfl)
      · have hze : (zP e : Int) = 11 + (-1085 - e) := by unfold zP; rw [if_neg hd]; omega
        refine iteF (fun hh => hd (of_decide_eq_true hh)) ?_
        have e1 : IntKind.wrap .i64 ((11 : Int) + IntKind.wrap .i64 ((-1085 : Int) - e)) = (zP e : Int) := by rw [wrap64 (n := -1085 - e) (by omega) (by omega), wrap64 (by omega) (by omega), hze]
        have e2 : IntKind.wrap .i64 ((zP e : Int) - 1) = ((zP e - 1 : Nat) : Int) := by rw [wrap64 (by omega) (by omega)]; omega
        rw [e1, e2, wrap64 (n := e + (zP e : Int)) (by omega) (by omega)]
        refine internal_strconv_log10Pow2_call (log10_ok (by omega) (by omega) ⟨by omega, by omega, by omega, rfl, ?_, ?_, ?_, ?_⟩)
        · have : -5000 ≤ log10P (e + (zP e : Int)) ∧ log10P (e + (zP e : Int)) ≤ 5000 := by unfold log10P; omega
          rw [wrap64 (by omega) (by omega), hp]
          omega
        · rw [one (zP e - 1) rfl (by omega), wrapU64, hmn]
          omega
        · rw [one (zP e - 1) rfl (by omega), wrapU64]
          unfold maxP
          omega
        · exact hodd rfl
  · rintro p mn mx od k ⟨rfl, rfl, rfl, rfl, rfl⟩
    have bn : 2305843009213693952 ≤ minP m e ∧ minP m e < 18446744073709551616 := by unfold minP; split <;> omega
    have bx : 2305843009213693952 ≤ maxP m e ∧ maxP m e < 18446744073709551616 := by unfold maxP; omega
    obtain ⟨r0, r1, r2⟩ := row_in p0 p1
    intro b ty hb
    have hb11 : b ≠ 11 := fun e1 => t.known (e1 ▸ hb)
    have hle := set_new (o := .cells #[.int .u64 (0 : Int), .int .u64 (0 : Int), .int .i64 (0 : Int)] ty (0, 0)) hb
    have kb : Blk (k.set b (.cells #[.int .u64 (0 : Int), .int .u64 (0 : Int), .int .i64 (0 : Int)] ty (0, 0))) b [.int .u64 (0 : Int), .int .u64 (0 : Int), .int .i64 (0 : Int)] := ⟨ty, set_self⟩
    refine internal_strconv_log2Pow10_call (log2_ok (by omega) (by omega) ?_)
    refine internal_strconv_prescale_call (prescale_ok kb (ldIs_mono hle t) hb11 p0 p1 rfl s0 s1 fun k1 mv sc => ?_)
    have hle1 : k ≤ k1 := fun c o hc => mv.keep c o (hle c o hc) (by
      simp only [List.mem_singleton]
      intro e1
      rw [e1, hb] at hc
      cases hc)
    have scale : ∀ {x : Nat} {Q' : Int → Hp → Prop}, 2305843009213693952 ≤ x → x < 18446744073709551616 → Q' ((sclP m e x : Nat) : Int) k1 → CallT Tryz.prog n_internal_strconv_uscale [(.int .u64 (x : Int)), (.pointer (some ⟨b, 0, none⟩))] (shInt .u64) Q' k1 := fun {x Q'} x0 x1 hq =>
      internal_strconv_uscale_call (uscale_ok x1 r1 r2 (by omega) (big_prod x0 r0) sc hq)
    have slt : ∀ {x : Nat}, x < 18446744073709551616 → sclP m e x < 18446744073709551616 := fun hx => uscaleN_lt hx r1
    refine scale bn.1 bn.2 ?_
    refine internal_strconv_unrounded_nudge_call (nudge_ok (odd := oddP m e) (up := true) (slt bn.2) (by simp) ?_)
    refine internal_strconv_unrounded_ceil_call (ceil_ok ?_)
    refine scale bx.1 bx.2 ?_
    refine internal_strconv_unrounded_nudge_call (nudge_ok (odd := oddP m e) (up := false) (slt bx.2) (by cases oddP m e <;> decide) ?_)
    refine internal_strconv_unrounded_floor_call (floor_ok (nudge_lt (slt bx.2)) ⟨by decide, ?_⟩)
    have hdx : dmaxP m e = nudgeP (sclP m e (maxP m e)) (oddP m e) false / 4 := rfl
    have hdn : dminP m e = (nudgeP (sclP m e (minP m e)) (oddP m e) true + 3) % 18446744073709551616 / 4 := rfl
    have ldx : dmaxP m e < 18446744073709551616 := by rw [hdx]; have := nudge_lt (a := oddP m e) (b := false) (slt bx.2); omega
    rw [← hdx, ← hdn]
    have e1 : IntKind.wrap .u64 (Int.tdiv ((dmaxP m e : Nat) : Int) (10 : Int)) = ((dmaxP m e / 10 : Nat) : Int) := by
      rw [Int.tdiv_eq_ediv_of_nonneg (by omega), wrapU64]
      omega
    have e2 : IntKind.wrap .u64 (((dmaxP m e / 10 : Nat) : Int) * (10 : Int)) = ((dmaxP m e / 10 * 10 : Nat) : Int) := by
      rw [wrapU64]
      omega
    rw [e1, e2]
    have hk1 := hk k1 hle1
    unfold shortP at hk1
    by_cases c1 : dminP m e ≤ dmaxP m e / 10 * 10
    · rw [if_pos c1] at hk1
      refine iteT (decide_eq_true (by omega)) ?_
      rw [wrap64 (n := pP m e - 1) (by omega) (by omega), wrap64 (by omega) (by omega), Int.zero_sub]
      exact hk1
    · rw [if_neg c1] at hk1
      refine iteF (fun hh => c1 (by have := of_decide_eq_true hh; omega)) ?_
      rw [wrap64 (n := 0 - pP m e) (by omega) (by omega), Int.zero_sub]
      by_cases c2 : dminP m e < dmaxP m e
      · rw [if_pos c2] at hk1
        refine iteT (decide_eq_true (by omega)) ?_
        refine scale (by omega) (by omega) ?_
        exact internal_strconv_unrounded_round_call (round_ok (slt (by omega)) hk1)
      · rw [if_neg c2] at hk1
        exact iteF (fun hh => c2 (by have := of_decide_eq_true hh; omega)) hk1
end
end Lf

/-
  Digits of a number, laid into memory.
-/
namespace Lf
open Go Go.Proofs

def digC (d : Nat) : Value := .int .u8 ((48 + d : Nat) : Int)
/-- So many digits of a number. -/
def digV : Nat → Nat → List Value
  | 0, _ => []
  | n + 1, u => digV n (u / 10) ++ [digC (u % 10)]

theorem digV_len : ∀ n u, (digV n u).length = n
  | 0, _ => rfl
  | n + 1, u => by rw [digV, List.length_append, digV_len n]; rfl

theorem digV_two (n u : Nat) : digV (n + 2) u = digV n (u / 100) ++ [digC (u % 100 / 10), digC (u % 100 % 10)] := by
  rw [digV, digV, Nat.div_div_eq_div_mul, List.append_assoc, show u / 10 % 10 = u % 100 / 10 by omega, show u % 10 = u % 100 % 10 by omega]
  rfl

theorem smalls_get : ∀ k, k < 100 → (bl200.getD (2 * k) 0).toNat = 48 + k / 10 ∧ (bl200.getD (2 * k + 1) 0).toNat = 48 + k % 10 := by decide +kernel

theorem take_two {cs : List Value} {i : Nat} (hi : i + 2 ≤ cs.length) : ∃ x y, cs.take (i + 2) = cs.take i ++ [x, y] := by
  refine ⟨cs[i], cs[i + 1], ?_⟩
  rw [List.take_add_one, List.take_add_one, List.getElem?_eq_getElem (by omega), List.getElem?_eq_getElem (by omega), List.append_assoc]
  rfl

theorem set_two {cs suf T : List Value} {i : Nat} {v0 v1 : Value} (hi : i + 2 ≤ cs.length) : ((cs.take (i + 2) ++ suf ++ T).set (i + 1) v1).set i v0 = cs.take i ++ (v0 :: v1 :: suf) ++ T := by
  obtain ⟨x, y, e⟩ := take_two hi
  rw [e]
  have hl : (cs.take i).length = i := by rw [List.length_take]; omega
  generalize cs.take i = P at *
  subst hl
  rw [List.append_assoc, List.append_assoc, List.set_append_right (h := by omega), List.set_append_right (h := by omega)]
  simp [show P.length + 1 - P.length = 1 by omega]

section
variable {h : Hp}

/-- Two digits. -/
theorem pair_ok {a : Sl} {b o k j : Nat} {X J1 J2 : Int} {cs suf T : List Value} {K : Hp → Prop} (hX : X = ((2 * k : Nat) : Int)) (hk : k < 100) (ha : a.base = some ⟨b, o, none⟩) (h1 : J1 = ((j + 1 : Nat) : Int)) (h2 : J2 = (j : Int))
    (hn : j + 2 ≤ a.len) (hl : o + j + 2 ≤ cs.length) (kb : Blk h b (cs.take (o + (j + 2)) ++ suf ++ T)) (hK : ∀ h', Mv [b] h [b] h' → Blk h' b (cs.take (o + j) ++ (digC (k / 10) :: digC (k % 10) :: suf) ++ T) → K h') :
    ((0 : Int) ≤ IntKind.wrap .u32 (X + 1) ∧ IntKind.wrap .u32 (X + 1) < 200) ∧ ((0 : Int) ≤ X ∧ X < 200) ∧ InB a.base a.len J1 ∧ StW h (sat a.base 1 J1) [.int .u8 (((UInt8.toNat (List.getD bl200 (Int.toNat (IntKind.wrap .u32 (X + 1))) 0)) : Nat) : Int)] (fun h2 =>
      InB a.base a.len J2 ∧ StW h2 (sat a.base 1 J2) [.int .u8 (((UInt8.toNat (List.getD bl200 (Int.toNat X) 0)) : Nat) : Int)] K) := by
  subst hX h1 h2
  obtain ⟨g0, g1⟩ := smalls_get k hk
  have e1 : IntKind.wrap .u32 (((2 * k : Nat) : Int) + 1) = ((2 * k + 1 : Nat) : Int) := by rw [wrap32]; omega
  rw [e1, Int.toNat_natCast, Int.toNat_natCast, g0, g1]
  have s1 : sat a.base 1 ((j + 1 : Nat) : Int) = ⟨b, o + (j + 1), none⟩ := by rw [ha]; show Addr.add ⟨b, o, none⟩ _ = _; rw [box_add]; simp
  have s2 : sat a.base 1 (j : Int) = ⟨b, o + j, none⟩ := by rw [ha]; show Addr.add ⟨b, o, none⟩ _ = _; rw [box_add]; simp
  rw [s1, s2]
  have tl : (cs.take (o + (j + 2))).length = o + j + 2 := by rw [List.length_take]; omega
  refine ⟨⟨by omega, by omega⟩, ⟨by omega, by omega⟩, ⟨by rw [ha]; simp, by omega, by omega⟩, put1 kb (by rw [List.length_append, List.length_append, tl]; omega) fun h1 m1 k1 => ⟨⟨by rw [ha]; simp, by omega, by omega⟩, put1 k1 (by rw [List.length_set, List.length_append, List.length_append, tl]; omega) fun h2 m2 k2 => hK h2 (m1.trans m2) ?_⟩⟩
  have e2 := set_two (cs := cs) (suf := suf) (T := T) (i := o + j) (v0 := digC (k / 10)) (v1 := digC (k % 10)) (by omega)
  rw [← e2]
  exact k2

theorem tmodN {x y : Nat} : Int.tmod (x : Int) (y : Int) = ((x % y : Nat) : Int) := by rw [Int.tmod_eq_emod_of_nonneg (by omega)]; rfl
theorem tdivN {x y : Nat} : Int.tdiv (x : Int) (y : Int) = ((x / y : Nat) : Int) := by rw [Int.tdiv_eq_ediv_of_nonneg (by omega)]; rfl

theorem pow_split (j : Nat) {v k : Nat} (h : v < 10 ^ (j + k)) : v / 10 ^ k < 10 ^ j := by
  rw [Nat.div_lt_iff_lt_mul (Nat.pow_pos (by decide)), ← Nat.pow_add]
  exact h

theorem format_ok {a : Sl} {b o u : Nat} {cs : List Value} {Q : Hp → Prop} (ha : a.base = some ⟨b, o, none⟩) (hl : o + a.len ≤ cs.length) (ha64 : a.len < 1000000) (kb : Blk h b cs) (hu : u < 10 ^ a.len) (hu64 : u < 18446744073709551616)
    (hk : ∀ h', Mv [b] h [b] h' → Blk h' b (cs.take o ++ digV a.len u ++ cs.drop (o + a.len)) → Q h') : internal_strconv_formatBase10_w Tryz.prog a u Q h := by
  unfold internal_strconv_formatBase10_w
  -- what stands so far
  have step : ∀ {v : Nat} {suf : List Value} (j : Nat), digV a.len u = digV (j + 2) v ++ suf → digV a.len u = digV j (v / 100) ++ (digC (v % 100 / 10) :: digC (v % 100 % 10) :: suf) := fun {v suf} j e => by
    rw [e, digV_two, List.append_assoc]; rfl
  refine LoopW2.intro (fun u1 nd k => ∃ (v j : Nat) (suf : List Value), u1 = (v : Int) ∧ nd = (j : Int) ∧ j ≤ a.len ∧ v < 10 ^ j ∧ v < 18446744073709551616 ∧ Mv [b] h [b] k ∧ Blk k b (cs.take (o + j) ++ suf ++ cs.drop (o + a.len)) ∧ digV a.len u = digV j v ++ suf) (fun u1 nd k => nd.toNat)
    ⟨u, a.len, [], rfl, rfl, Nat.le_refl _, hu, hu64, Mv.refl _ _, by rw [List.append_nil, List.take_append_drop]; exact kb, (List.append_nil _).symm⟩ ?_
  rintro u1 nd k ⟨v, j, suf, rfl, rfl, hj, hv, hv64, mv, kb, hd⟩
  by_cases h8 : 8 ≤ j
  · obtain ⟨i, rfl⟩ : ∃ i, j = i + 8 := ⟨j - 8, by omega⟩
    refine iteT (decide_eq_true (by omega)) ⟨by decide, by decide, by decide, by decide, by decide, by decide, by decide, by decide, ?_⟩
    have e0 : IntKind.wrap .u32 (Int.tmod (v : Int) 100000000) = ((v % 100000000 : Nat) : Int) := by rw [show (100000000 : Int) = ((100000000 : Nat) : Int) from rfl, tmodN, wrap32]; omega
    have e1 : Int.tmod ((v % 100000000 : Nat) : Int) 10000 = ((v % 10000 : Nat) : Int) := by rw [show (10000 : Int) = ((10000 : Nat) : Int) from rfl, tmodN, show v % 100000000 % 10000 = v % 10000 by omega]
    have e2 : IntKind.wrap .u32 (Int.tdiv ((v % 100000000 : Nat) : Int) 10000) = ((v / 10000 % 10000 : Nat) : Int) := by rw [show (10000 : Int) = ((10000 : Nat) : Int) from rfl, tdivN, wrap32]; omega
    have m1 : ∀ {w : Nat}, IntKind.wrap .u32 ((Int.tmod (w : Int) 100) * 2) = ((2 * (w % 100) : Nat) : Int) := fun {w} => by rw [show (100 : Int) = ((100 : Nat) : Int) from rfl, tmodN, wrap32]; omega
    have m2 : ∀ {w : Nat}, w < 10000 → IntKind.wrap .u32 (IntKind.wrap .u32 (Int.tdiv (w : Int) 100) * 2) = ((2 * (w / 100) : Nat) : Int) := fun {w} hw => by rw [show (100 : Int) = ((100 : Nat) : Int) from rfl, tdivN, wrap32, wrap32]; omega
    rw [e0, e1, e2, m1, m1, m2 (by omega), m2 (by omega)]
    have w : ∀ {c : Int} {n : Nat}, (i + 8 : Nat) - c = (n : Int) → n < 1000000 → IntKind.wrap .i64 (((i + 8 : Nat) : Int) - c) = (n : Int) := fun {c n} e hn => by rw [e, wrap64 (by omega) (by omega)]
    refine pair_ok (k := v % 10000 % 100) (j := i + 6) rfl (by omega) ha (w (by omega) (by omega)) (w (by omega) (by omega)) (by omega) (by omega) kb fun h1 n1 b1 => ?_
    have d1 := step (i + 6) hd
    refine pair_ok (k := v % 10000 / 100) (j := i + 4) rfl (by omega) ha (w (by omega) (by omega)) (w (by omega) (by omega)) (by omega) (by omega) b1 fun h2 n2 b2 => ?_
    have d2 := step (i + 4) d1
    refine pair_ok (k := v / 10000 % 10000 % 100) (j := i + 2) rfl (by omega) ha (w (by omega) (by omega)) (w (by omega) (by omega)) (by omega) (by omega) b2 fun h3 n3 b3 => ?_
    have d3 := step (i + 2) d2
    refine pair_ok (k := v / 10000 % 10000 / 100) (j := i) rfl (by omega) ha (w (by omega) (by omega)) (w (by omega) (by omega)) (by omega) (by omega) b3 fun h4 n4 b4 => ?_
    have d4 := step i d3
    have q0 : v % 10000 % 100 = v % 100 := by omega
    have q1 : v % 10000 / 100 = v / 100 % 100 := by omega
    have q2 : v / 10000 % 10000 % 100 = v / 100 / 100 % 100 := by omega
    have q3 : v / 10000 % 10000 / 100 = v / 100 / 100 / 100 % 100 := by omega
    rw [q0, q1, q2, q3] at b4
    have e8 : IntKind.wrap .u64 (Int.tdiv (v : Int) 100000000) = ((v / 100 / 100 / 100 / 100 : Nat) : Int) := by rw [show (100000000 : Int) = ((100000000 : Nat) : Int) from rfl, tdivN, wrapN (by omega)]; omega
    rw [e8, w (n := i) (by omega) (by omega)]
    have hlt := pow_split i (k := 8) hv
    refine ⟨⟨_, i, _, rfl, rfl, by omega, ?_, by omega, mv.trans (n1.trans (n2.trans (n3.trans n4))), b4, d4⟩, ?_⟩
    · rw [show v / 100 / 100 / 100 / 100 = v / 10 ^ 8 by omega]
      exact hlt
    · omega
  · refine iteF (fun hh => h8 (by have := of_decide_eq_true hh; omega)) ?_
    have v7 : v < 10000000 := Nat.lt_of_lt_of_le hv (Nat.pow_le_pow_right (n := 10) (i := j) (j := 7) (by decide) (by omega))
    have m1 : ∀ {w : Nat}, IntKind.wrap .u32 ((Int.tmod (w : Int) 100) * 2) = ((2 * (w % 100) : Nat) : Int) := fun {w} => by rw [show (100 : Int) = ((100 : Nat) : Int) from rfl, tmodN, wrap32]; omega
    have m2 : ∀ {w : Nat}, w < 10000 → IntKind.wrap .u32 (IntKind.wrap .u32 (Int.tdiv (w : Int) 100) * 2) = ((2 * (w / 100) : Nat) : Int) := fun {w} hw => by rw [show (100 : Int) = ((100 : Nat) : Int) from rfl, tdivN, wrap32, wrap32]; omega
    have eu : IntKind.wrap .u32 (v : Int) = (v : Int) := by rw [wrap32]; omega
    rw [eu]
    have w : ∀ {j : Nat} {c : Int} {n : Nat}, (j : Int) - c = (n : Int) → n < 1000000 → IntKind.wrap .i64 ((j : Int) - c) = (n : Int) := fun {j c n} e hn => by rw [e, wrap64 (by omega) (by omega)]
    refine JoinW2.intro (fun nd x k => ∃ (v j : Nat) (suf : List Value), x = (v : Int) ∧ nd = (j : Int) ∧ j < 4 ∧ j ≤ a.len ∧ v < 10 ^ j ∧ Mv [b] h [b] k ∧ Blk k b (cs.take (o + j) ++ suf ++ cs.drop (o + a.len)) ∧ digV a.len u = digV j v ++ suf) ?_ ?_
    · by_cases h4 : 4 ≤ j
      · obtain ⟨i, rfl⟩ : ∃ i, j = i + 4 := ⟨j - 4, by omega⟩
        refine iteT (decide_eq_true (by omega)) ⟨by decide, by decide, by decide, by decide, ?_⟩
        have e1 : Int.tmod (v : Int) 10000 = ((v % 10000 : Nat) : Int) := by rw [show (10000 : Int) = ((10000 : Nat) : Int) from rfl, tmodN]
        rw [e1, m1, m2 (by omega)]
        refine pair_ok (k := v % 10000 % 100) (j := i + 2) rfl (by omega) ha (w (by omega) (by omega)) (w (by omega) (by omega)) (by omega) (by omega) kb fun h1 n1 b1 => ?_
        have d1 := step (i + 2) hd
        refine pair_ok (k := v % 10000 / 100) (j := i) rfl (by omega) ha (w (by omega) (by omega)) (w (by omega) (by omega)) (by omega) (by omega) b1 fun h2 n2 b2 => ?_
        have d2 := step i d1
        have q0 : v % 10000 % 100 = v % 100 := by omega
        have q1 : v % 10000 / 100 = v / 100 % 100 := by omega
        rw [q0, q1] at b2
        have e8 : IntKind.wrap .u32 (Int.tdiv (v : Int) 10000) = ((v / 100 / 100 : Nat) : Int) := by rw [show (10000 : Int) = ((10000 : Nat) : Int) from rfl, tdivN, wrap32]; omega
        have hlt := pow_split i (k := 4) hv
        rw [e8, w (n := i) (by omega) (by omega)]
        refine ⟨_, i, _, rfl, rfl, by omega, by omega, ?_, mv.trans (n1.trans n2), b2, d2⟩
        rw [show v / 100 / 100 = v / 10 ^ 4 by omega]
        exact hlt
      · exact iteF (fun hh => h4 (by have := of_decide_eq_true hh; omega)) ⟨v, j, suf, rfl, rfl, by omega, hj, hv, mv, kb, hd⟩
    · clear v7 eu kb hd mv hv hv64 hj h8 v j suf
      rintro nd x k1 ⟨v, j, suf, rfl, rfl, hj4, hj, hv, mv, kb, hd⟩
      have v3 : v < 1000 := Nat.lt_of_lt_of_le hv (Nat.pow_le_pow_right (n := 10) (i := j) (j := 3) (by decide) (by omega))
      refine JoinW2.intro (fun nd x k => ∃ (v j : Nat) (suf : List Value), x = (v : Int) ∧ nd = (j : Int) ∧ j < 2 ∧ j ≤ a.len ∧ v < 10 ^ j ∧ Mv [b] h [b] k ∧ Blk k b (cs.take (o + j) ++ suf ++ cs.drop (o + a.len)) ∧ digV a.len u = digV j v ++ suf) ?_ ?_
      · by_cases h2 : 2 ≤ j
        · obtain ⟨i, rfl⟩ : ∃ i, j = i + 2 := ⟨j - 2, by omega⟩
          refine iteT (decide_eq_true (by omega)) ⟨by decide, by decide, ?_⟩
          rw [m1]
          refine pair_ok (k := v % 100) (j := i) rfl (by omega) ha (w (by omega) (by omega)) (w (by omega) (by omega)) (by omega) (by omega) kb fun h1 n1 b1 => ?_
          have d1 := step i hd
          have e8 : IntKind.wrap .u32 (Int.tdiv (v : Int) 100) = ((v / 100 : Nat) : Int) := by rw [show (100 : Int) = ((100 : Nat) : Int) from rfl, tdivN, wrap32]; omega
          have hlt := pow_split i (k := 2) hv
          rw [e8, w (n := i) (by omega) (by omega)]
          exact ⟨_, i, _, rfl, rfl, by omega, by omega, hlt, mv.trans n1, b1, d1⟩
        · exact iteF (fun hh => h2 (by have := of_decide_eq_true hh; omega)) ⟨v, j, suf, rfl, rfl, by omega, hj, hv, mv, kb, hd⟩
      · clear v3 kb hd mv hv hj4 hj v j suf
        rintro nd x k2 ⟨v, j, suf, rfl, rfl, hj4, hj, hv, mv, kb, hd⟩
        by_cases h0 : 0 < j
        · obtain rfl : j = 1 := by omega
          refine iteT (decide_eq_true (by omega)) ⟨⟨by rw [ha]; simp, by omega, by omega⟩, ?_⟩
          have s1 : sat a.base 1 (0 : Int) = ⟨b, o, none⟩ := by rw [ha]; show Addr.add ⟨b, o, none⟩ _ = _; rw [box_add]; simp
          have e1 : IntKind.wrap .u8 (IntKind.wrap .u32 ((48 : Int) + (v : Int))) = ((48 + v : Nat) : Int) := by
            rw [wrap32, show IntKind.wrap .u8 ((48 + (v : Int)) % 4294967296) = ((48 + (v : Int)) % 4294967296) % 256 from rfl]
            omega
          rw [s1, e1]
          have tl : (cs.take (o + 1)).length = o + 1 := by rw [List.length_take]; omega
          refine put1 kb (by rw [List.length_append, List.length_append, tl]; omega) fun h3 m3 k3 => hk h3 (mv.trans m3) ?_
          rw [hd, show digV 1 v = [digC v] by rw [digV, digV, Nat.mod_eq_of_lt (by omega)]; rfl]
          have e2 : (cs.take (o + 1) ++ suf ++ cs.drop (o + a.len)).set o (digC v) = cs.take o ++ ([digC v] ++ suf) ++ cs.drop (o + a.len) := by
            rw [List.take_add_one, List.getElem?_eq_getElem (by omega)]
            have hl' : (cs.take o).length = o := by rw [List.length_take]; omega
            generalize cs.take o = P at *
            subst hl'
            simp
          rw [← e2]
          exact k3
        · obtain rfl : j = 0 := by omega
          refine iteF (fun hh => h0 (by have := of_decide_eq_true hh; omega)) (hk k2 mv ?_)
          rw [hd]
          simpa [digV] using kb
end
end Lf

/-
  How many digits a number has; its digits without zeros last.
-/
namespace Lf
open Go Go.Proofs

theorem len8_get : ∀ n, n < 256 → (bl256.getD n 0).toNat = bitsN n := by decide +kernel

theorem bitsN_shift {n k : Nat} (h : 2 ^ k ≤ n) : bitsN n = k + bitsN (n / 2 ^ k) := by
  have hp := Nat.two_pow_pos k
  have h1 := bitsN_lt (n / 2 ^ k)
  have h0 : n / 2 ^ k ≠ 0 := fun e => by rw [Nat.div_eq_zero_iff] at e; omega
  have h2 := bitsN_ge h0
  have hb : 0 < bitsN (n / 2 ^ k) := by unfold bitsN; rw [if_neg h0]; omega
  refine bitsN_eq ?_ fun _ => ?_
  · rw [Nat.div_lt_iff_lt_mul hp, ← Nat.pow_add, Nat.add_comm] at h1
    exact h1
  · rw [Nat.le_div_iff_mul_le hp, ← Nat.pow_add] at h2
    rw [show k + bitsN (n / 2 ^ k) - 1 = bitsN (n / 2 ^ k) - 1 + k by omega]
    exact h2

theorem wrap8n {n : Nat} (h1 : n < 256) : IntKind.wrap .u8 (n : Int) = (n : Int) := by
  show (n : Int) % 256 = n
  omega

theorem bitsN_le2 {n k : Nat} (h : n < 2 ^ k) : bitsN n ≤ k := by
  by_cases h0 : n = 0
  · subst h0; simp [bitsN]
  · have := bitsN_ge h0
    have h2 : 2 ^ (bitsN n - 1) < 2 ^ k := Nat.lt_of_le_of_lt this h
    have := (Nat.pow_lt_pow_iff_right (a := 2) (by decide)).1 h2
    omega

section
variable {h : Hp}

theorem len64_ok {n : Nat} {Q : Int → Hp → Prop} (hn : n < 18446744073709551616) (hq : Q (bitsN n : Int) h) : math_bits_Len64_w Tryz.prog (n : Int) Q h := by
  unfold math_bits_Len64_w
  refine JoinW2.intro (fun x1 n1 k => k = h ∧ ∃ (m c : Nat), x1 = (m : Int) ∧ n1 = (c : Int) ∧ m < 4294967296 ∧ c ≤ 32 ∧ bitsN n = c + bitsN m) ?_ ?_
  · by_cases hb : (n : Int) ≥ 4294967296
    · refine iteT (decide_eq_true hb) ⟨by decide, rfl, n / 2 ^ 32, 32, shrN n (n := 32) (by decide), rfl, ?_, by decide, bitsN_shift (by omega)⟩
      rw [Nat.div_lt_iff_lt_mul (by decide)]
      omega
    · exact iteF (fun hh => hb (of_decide_eq_true hh)) ⟨rfl, n, 0, rfl, rfl, by omega, by decide, by omega⟩
  · rintro x1 n1 k ⟨rfl, m, c, rfl, rfl, hm, hc, he⟩
    refine JoinW2.intro (fun x2 n2 k' => k' = k ∧ ∃ (m c : Nat), x2 = (m : Int) ∧ n2 = (c : Int) ∧ m < 65536 ∧ c ≤ 48 ∧ bitsN n = c + bitsN m) ?_ ?_
    · by_cases hb : (m : Int) ≥ 65536
      · rw [wrap64 (by omega) (by omega)]
        refine iteT (decide_eq_true hb) ⟨by decide, rfl, m / 2 ^ 16, c + 16, shrN m (n := 16) (by decide), by omega, ?_, by omega, ?_⟩
        · rw [Nat.div_lt_iff_lt_mul (by decide)]
          omega
        · rw [he, bitsN_shift (n := m) (k := 16) (by omega)]
          omega
      · exact iteF (fun hh => hb (of_decide_eq_true hh)) ⟨rfl, m, c, rfl, rfl, by omega, by omega, he⟩
    · clear he hc hm m c
      rintro x2 n2 k' ⟨rfl, m, c, rfl, rfl, hm, hc, he⟩
      by_cases hb : (m : Int) ≥ 256
      · have e1 : shrI .u64 (m : Int) 8 = ((m / 2 ^ 8 : Nat) : Int) := shrN m (n := 8) (by decide)
        have hlt : m / 2 ^ 8 < 256 := by
          rw [Nat.div_lt_iff_lt_mul (by decide)]
          omega
        refine iteT (decide_eq_true hb) ⟨by decide, ?_⟩
        have hs := bitsN_le2 (k := 8) hlt
        have hb2 := bitsN_shift (n := m) (k := 8) (by omega)
        rw [e1, wrap8n hlt, Int.toNat_natCast, len8_get _ hlt, wrap64 (n := (c : Int) + 8) (by omega) (by omega), wrap64 (n := ((bitsN (m / 2 ^ 8) : Nat) : Int)) (by omega) (by omega), wrap64 (by omega) (by omega)]
        rw [show (c : Int) + 8 + ((bitsN (m / 2 ^ 8) : Nat) : Int) = (bitsN n : Int) by omega]
        exact ⟨⟨by omega, by omega⟩, hq⟩
      · have hlt : m < 256 := by omega
        have hs := bitsN_le2 (k := 8) hlt
        refine iteF (fun hh => hb (of_decide_eq_true hh)) ?_
        rw [wrap8n hlt, Int.toNat_natCast, len8_get _ hlt, wrap64 (n := ((bitsN m : Nat) : Int)) (by omega) (by omega), wrap64 (by omega) (by omega)]
        rw [show (c : Int) + ((bitsN m : Nat) : Int) = (bitsN n : Int) by omega]
        exact ⟨⟨by omega, by omega⟩, hq⟩

/-- The table of small powers of ten in memory. -/
abbrev Small10 (h : Hp) : Prop := LdIs h ⟨7, 0, none⟩ ((List.range 20).map fun k => Value.int .u64 ((10 ^ k : Nat) : Int))

theorem small10_at (t : Small10 h) {k : Nat} (hk : k < 20) : LdIs h ⟨7, k, none⟩ [.int .u64 ((10 ^ k : Nat) : Int)] := by
  have c := t k (.int .u64 ((10 ^ k : Nat) : Int)) (by simp [List.getElem?_range hk])
  rw [box_add, Nat.zero_add] at c
  exact one_cell c

theorem log10_bits : ∀ b : Nat, b < 65 → 1 ≤ b → 0 ≤ log10P (b : Int) ∧ log10P (b : Int) < 20 ∧ 2 ^ b ≤ 10 ^ ((log10P (b : Int)).toNat + 1) ∧ (1 ≤ log10P (b : Int) → 10 ^ ((log10P (b : Int)).toNat - 1) ≤ 2 ^ (b - 1)) := by decide +kernel

theorem boolI_ok {b : Bool} {Q : Int → Hp → Prop} (hq : Q ((b.toNat : Nat) : Int) h) : internal_strconv_bool2_int_w Tryz.prog b Q h := by
  unfold internal_strconv_bool2_int_w
  cases b
  · exact hq
  · exact hq

theorem numDigits_ok {d : Nat} {Q : Int → Hp → Prop} (h0 : d ≠ 0) (h1 : d < 18446744073709551616) (t : Small10 h) (hk : ∀ n : Nat, 1 ≤ n → n ≤ 20 → 10 ^ (n - 1) ≤ d → d < 10 ^ n → Q (n : Int) h) : internal_strconv_numDigits_w Tryz.prog d Q h := by
  unfold internal_strconv_numDigits_w
  have b1 : 1 ≤ bitsN d := by unfold bitsN; rw [if_neg h0]; omega
  have b2 : bitsN d ≤ 64 := bitsN_le2 (k := 64) h1
  obtain ⟨l0, l1, l2, l3⟩ := log10_bits (bitsN d) (by omega) b1
  have d1 := bitsN_lt d
  have d2 := bitsN_ge h0
  refine math_bits_Len64_call (len64_ok h1 ?_)
  refine internal_strconv_log10Pow2_call (log10_ok (by omega) (by omega) ⟨⟨l0, l1⟩, ?_⟩)
  obtain ⟨k, hk'⟩ : ∃ k : Nat, log10P (bitsN d) = k := ⟨_, (Int.toNat_of_nonneg l0).symm⟩
  rw [hk'] at l0 l1 l2 l3 ⊢
  rw [Int.toNat_natCast] at l2 l3 ⊢
  have ea : Addr.add ⟨7, 0, none⟩ (k * 1) = ⟨7, k, none⟩ := by rw [box_add]; simp
  rw [ea]
  refine ld_at (sh := shInt .u64) ((10 ^ k : Nat) : Int) (small10_at t (by omega)) ?_
  refine internal_strconv_bool2_int_call (boolI_ok ?_)
  by_cases hc : 10 ^ k ≤ d
  · rw [decide_eq_true (by exact Int.ofNat_le.2 hc), wrap64 (by rw [Bool.toNat_true]; omega) (by rw [Bool.toNat_true]; omega)]
    exact hk (k + 1) (by omega) (by omega) hc (Nat.lt_of_lt_of_le d1 l2)
  · have k1 : 1 ≤ k := by
      rcases Nat.eq_zero_or_pos k with e | e
      · subst e; omega
      · exact e
    rw [decide_eq_false (fun hh => hc (Int.ofNat_le.1 hh)), wrap64 (by rw [Bool.toNat_false]; omega) (by rw [Bool.toNat_false]; omega)]
    have := hk k k1 (by omega) (Nat.le_trans (l3 (by omega)) d2) (by omega)
    simpa using this

theorem digV_get : ∀ (n u i : Nat), i < n → (digV n u)[i]? = some (digC (u / 10 ^ (n - 1 - i) % 10))
  | 0, _, _, h => by omega
  | n + 1, u, i, h => by
    rw [digV]
    by_cases hi : i < n
    · rw [List.getElem?_append_left (by rw [digV_len]; exact hi), digV_get n (u / 10) i hi, Nat.div_div_eq_div_mul, ← Nat.pow_succ', show (n - 1 - i).succ = n + 1 - 1 - i by omega]
    · rw [List.getElem?_append_right (by rw [digV_len]; omega), digV_len, show i - n = 0 by omega, show n + 1 - 1 - i = 0 by omega]
      simp

theorem setDigits_ok {s : Sl} {b d n : Nat} {p : Int} {cs : List Value} {Q : Int → Int → Hp → Prop} (hb : s.base = some ⟨b, 0, none⟩) (hs : s.len = cs.length) (hc : s.cap = s.len) (hl : s.len < 1000000) (kb : Blk h b cs)
    (d0 : d ≠ 0) (d1 : d < 18446744073709551616) (hn : n ≤ s.len) (hd : d < 10 ^ n) (p0 : -100000 ≤ p) (p1 : p ≤ 100000)
    (hk : ∀ h' k v, Mv [b] h [b] h' → Blk h' b (digV n d ++ cs.drop n) → d = v * 10 ^ k → v % 10 ≠ 0 → k < n → Q (n + p) ((n - k : Nat) : Int) h') : internal_strconv_setDigits_w Tryz.prog s d p n Q h := by
  unfold internal_strconv_setDigits_w
  refine iteT (decide_eq_true (by omega)) ⟨⟨by omega, by omega⟩, letW ?_⟩
  rw [Int.toNat_natCast]
  have eb : sbase s.base 1 0 s.cap = some ⟨b, 0, none⟩ := by
    unfold sbase
    rw [hb]
    split
    · rfl
    · show some (Addr.add _ _) = _
      rw [box_add]
  rw [eb]
  refine internal_strconv_formatBase10_call (format_ok (a := ⟨some ⟨b, 0, none⟩, n - 0, s.cap - 0⟩) rfl (by show 0 + (n - 0) ≤ _; omega) (by show n - 0 < _; omega) kb (by show d < 10 ^ (n - 0); exact hd) d1 fun h1 mv k1 => ?_)
  have k1 : Blk h1 b (digV n d ++ cs.drop n) := by
    have e : cs.take 0 ++ digV (n - 0) d ++ cs.drop (0 + (n - 0)) = digV n d ++ cs.drop n := by simp
    rw [← e]
    exact k1
  have nz : ∀ {v k : Nat}, d = v * 10 ^ k → v ≠ 0 := fun {v k} e e0 => d0 (by rw [e, e0, Nat.zero_mul])
  have lt : ∀ {v k : Nat}, d = v * 10 ^ k → k ≤ n → k < n := fun {v k} e hk' => by
    rcases Nat.lt_or_ge k n with hlt | hge
    · exact hlt
    · have : k = n := by omega
      subst this
      have := nz e
      have h2 : 1 * 10 ^ k ≤ v * 10 ^ k := Nat.mul_le_mul_right _ (by omega)
      omega
  refine LoopW1.intro (fun nd k => k = h1 ∧ ∃ (j v : Nat), nd = ((n - j : Nat) : Int) ∧ j ≤ n ∧ d = v * 10 ^ j) (fun nd _ => nd.toNat) ⟨rfl, 0, d, rfl, by omega, by simp⟩ ?_
  rintro nd k ⟨rfl, j, v, rfl, hj, hv⟩
  have hjn := lt hv hj
  have hpos : ((n - j : Nat) : Int) > 0 := by omega
  rw [decide_eq_true hpos]
  have e1 : IntKind.wrap .i64 (((n - j : Nat) : Int) - 1) = ((n - j - 1 : Nat) : Int) := by rw [wrap64 (by omega) (by omega)]; omega
  rw [e1]
  have ea : sat s.base 1 ((n - j - 1 : Nat) : Int) = ⟨b, n - j - 1, none⟩ := by rw [hb]; show Addr.add ⟨b, 0, none⟩ _ = _; rw [box_add]; simp
  rw [ea]
  have hcell : ((digV n d ++ cs.drop n).drop (n - j - 1)).take 1 = [digC (v % 10)] := by
    have hg := digV_get n d (n - j - 1) (by omega)
    rw [show n - 1 - (n - j - 1) = j by omega, hv, Nat.mul_div_cancel _ (Nat.pow_pos (by decide)), ← hv] at hg
    have hg2 : (digV n d ++ cs.drop n)[n - j - 1]? = some (digC (v % 10)) := by rw [List.getElem?_append_left (by rw [digV_len]; omega)]; exact hg
    rw [List.take_one, List.head?_drop, hg2]
    rfl
  refine ⟨fun _ => ⟨by rw [hb]; simp, by omega, by omega⟩, ((48 + v % 10 : Nat) : Int), fun _ => k1.ldIs hcell, letW ?_⟩
  rw [Bool.true_and]
  by_cases hz : v % 10 = 0
  · refine iteT (by rw [hz]; rfl) ⟨⟨rfl, j + 1, v / 10, ?_, by omega, ?_⟩, ?_⟩
    · exact congrArg Nat.cast (show n - j - 1 = n - (j + 1) by omega)
    · rw [hv, Nat.pow_succ', ← Nat.mul_assoc, Nat.div_mul_cancel (Nat.dvd_of_mod_eq_zero hz)]
    · omega
  · refine iteF (fun hh => hz (by have : ((48 + v % 10 : Nat) : Int) = 48 := beq_iff_eq.1 hh; omega)) ?_
    rw [wrap64 (by omega) (by omega)]
    exact hk k j v mv k1 hv hz hjn
end
end Lf

/-
  Floats as texts: digits, a point, an exponent.
-/
namespace Lf
open Go Go.Proofs

/-- A byte in memory. -/
def eN (n : Nat) : List Value := [.int .u8 (n : Int)]
theorem eN_len (n : Nat) : (eN n).length = 1 := rfl
theorem eN_ok (n : Nat) : okCells (eN n) = true := rfl

theorem eN_map : ∀ ds : List Nat, (ds.map fun (c : Nat) => Value.int .u8 (c : Int)) = ds.flatMap eN
  | [] => rfl
  | c :: ds => by rw [List.map_cons, eN_map ds, List.flatMap_cons]; rfl

/-- An exponent's digits. -/
def expL (n : Nat) : List Nat := if n < 10 then [48, 48 + n] else if n < 100 then [48 + n / 10, 48 + n % 10] else [48 + n / 100, 48 + n / 10 % 10, 48 + n % 10]
/-- Digits, a point, an exponent. -/
def sciL (neg : Bool) (d : Nat) (ds : List Nat) (e : Int) : List Nat :=
  (if neg then [45] else []) ++ [d] ++ (if ds = [] then [] else 46 :: ds) ++ [101, if e < 0 then 45 else 43] ++ expL e.natAbs

section
variable {h0 h : Hp}

abbrev ON (h0 h : Hp) (l : Sl) (xs : List Nat) : Prop := Own h0 h 1 eN l xs

theorem app1 {l : Sl} {xs : List Nat} {v : Int} {c : Nat} {K : Sl → Hp → Prop} (hw : h0 ≤ h) (o : ON h0 h l xs) (hv : v = (c : Int)) (hb : xs.length < 1000000) (hk : ∀ l' h', h0 ≤ h' → ON h0 h' l' (xs ++ [c]) → K l' h') :
    NewW [.int .u8 v] (fun a h2 => AppendW 1 1 [.int .u8 (0 : Int)] l ⟨some a, 1, 1⟩ K h2) h := by
  subst hv
  exact app_new hw o (ys := [c]) rfl rfl eN_len eN_ok rfl (by simp only [List.length_singleton]; omega) fun l' h' a b _ => hk l' h' a b

theorem app2 {l : Sl} {xs : List Nat} {v w : Int} {c d : Nat} {K : Sl → Hp → Prop} (hw : h0 ≤ h) (o : ON h0 h l xs) (hv : v = (c : Int)) (hv2 : w = (d : Int)) (hb : xs.length < 1000000) (hk : ∀ l' h', h0 ≤ h' → ON h0 h' l' (xs ++ [c, d]) → K l' h') :
    NewW [.int .u8 v, .int .u8 w] (fun a h2 => AppendW 1 1 [.int .u8 (0 : Int)] l ⟨some a, 2, 2⟩ K h2) h := by
  subst hv hv2
  exact app_new hw o (ys := [c, d]) rfl rfl eN_len eN_ok rfl (by simp only [List.length_cons, List.length_nil]; omega) fun l' h' a b _ => hk l' h' a b

theorem app3 {l : Sl} {xs : List Nat} {v w z : Int} {c d e : Nat} {K : Sl → Hp → Prop} (hw : h0 ≤ h) (o : ON h0 h l xs) (hv : v = (c : Int)) (hv2 : w = (d : Int)) (hv3 : z = (e : Int)) (hb : xs.length < 1000000) (hk : ∀ l' h', h0 ≤ h' → ON h0 h' l' (xs ++ [c, d, e]) → K l' h') :
    NewW [.int .u8 v, .int .u8 w, .int .u8 z] (fun a h2 => AppendW 1 1 [.int .u8 (0 : Int)] l ⟨some a, 3, 3⟩ K h2) h := by
  subst hv hv2 hv3
  exact app_new hw o (ys := [c, d, e]) rfl rfl eN_len eN_ok rfl (by simp only [List.length_cons, List.length_nil]; omega) fun l' h' a b _ => hk l' h' a b

theorem byte8 (x : Int) : IntKind.wrap .u8 x = x % 256 := rfl

/-- A text of a number, a sign ahead of it. -/
theorem efg_ok {dst s : Sl} {xs : List Nat} {b : Nat} {cs : List Value} {neg : Bool} {d : Nat} {ds : List Nat} {dp nd prec : Int} {Q : Sl → Hp → Prop} (hw : h0 ≤ h) (o : ON h0 h dst xs) (hx : xs.length < 1000) (hb : s.base = some ⟨b, 0, none⟩) (kb : Blk h0 b cs)
    (hs : s.len = cs.length) (hc : s.cap = s.len) (hl : s.len < 1000) (hn : nd = ((ds.length + 1 : Nat) : Int)) (hcs : cs.take (ds.length + 1) = (d :: ds).map fun (c : Nat) => Value.int .u8 (c : Int)) (hp : prec = ds.length) (p0 : -999 < dp) (p1 : dp < 1000)
    (hk : ∀ r h', h0 ≤ h' → ON h0 h' r (xs ++ sciL neg d ds (dp - 1)) → Q r h') : internal_strconv_fmtEFG_w Tryz.prog dst neg s dp nd prec (101 : Int) true Q h := by
  have hlen : ds.length + 1 ≤ cs.length := by
    have := congrArg List.length hcs
    simp only [List.length_take, List.length_map, List.length_cons] at this
    omega
  unfold internal_strconv_fmtEFG_w
  refine JoinW2.direct (letW (iteF (by decide) ?_))
  refine JoinW1.direct (iteT (by decide) (iteT (by decide) ?_))
  -- a sign
  refine JoinW1.intro (fun l k => h0 ≤ k ∧ ON h0 k l (xs ++ if neg then [45] else [])) ?_ ?_
  · cases neg with
    | true => exact iteT rfl (app1 hw o (c := 45) rfl (by omega) fun l' h' a b => ⟨a, b⟩)
    | false => exact iteF (by decide) ⟨hw, by simpa using o⟩
  rintro l1 k1 ⟨w1, o1⟩
  have len1 : (xs ++ if neg then [45] else []).length < 1002 := by cases neg <;> simp <;> omega
  -- the first digit
  refine JoinW1.intro (fun c k => k = k1 ∧ c = (d : Int)) ?_ ?_
  · refine iteT (by rw [hn]; exact bne_iff_ne.2 (by omega)) ⟨⟨by rw [hb]; simp, by omega, by omega⟩, ld_at (sh := shInt .u8) (d : Int) ?_ ⟨rfl, rfl⟩⟩
    have e : sat s.base 1 (0 : Int) = ⟨b, 0, none⟩ := by rw [hb]; show Addr.add ⟨b, 0, none⟩ _ = _; rw [box_add]; rfl
    rw [e]
    refine (kb.le w1).ldIs (n := 1) ?_
    show List.take 1 (List.drop 0 cs) = [Value.int .u8 (d : Int)]
    have := congrArg (List.take 1) hcs
    rw [List.take_take, show min 1 (ds.length + 1) = 1 by omega] at this
    simpa using this
  rintro _ k1 ⟨rfl, rfl⟩
  refine app1 w1 o1 rfl (by omega) fun l2 k2 w2 o2 => ?_
  -- the others
  refine JoinW1.intro (fun l k => h0 ≤ k ∧ ON h0 k l (xs ++ (if neg then [45] else []) ++ [d] ++ if ds = [] then [] else 46 :: ds)) ?_ ?_
  · rw [hp]
    by_cases hds : ds = []
    · exact iteF (by rw [hds]; decide) ⟨w2, by rw [if_pos hds]; simpa using o2⟩
    · have hd1 : 1 ≤ ds.length := by
        cases ds with
        | nil => exact absurd rfl hds
        | cons _ _ => simp
      refine iteT (decide_eq_true (by omega)) (app1 w2 o2 (c := 46) rfl (by rw [List.length_append]; simp only [List.length_singleton]; omega) fun l3 k3 w3 o3 => ?_)
      have emin : min2I nd (IntKind.wrap .i64 ((ds.length : Int) + (1 : Int))) = ((ds.length + 1 : Nat) : Int) := by
        rw [wrap64 (by omega) (by omega), hn]
        unfold min2I
        split <;> omega
      rw [emin]
      refine JoinW2.intro (fun l i k => h0 ≤ k ∧ i = ((ds.length + 1 : Nat) : Int) ∧ ON h0 k l (xs ++ (if neg then [45] else []) ++ [d] ++ 46 :: ds)) ?_ ?_
      · refine iteT (decide_eq_true (by omega)) ⟨⟨by decide, by omega, by omega⟩, letW ?_⟩
        rw [Int.toNat_natCast]
        have hrow : Rw k3 1 eN ⟨sbase s.base 1 1 s.cap, ds.length + 1 - 1, s.cap - 1⟩ ds := by
          refine ⟨by show ds.length + 1 - 1 = _; omega, ?_⟩
          have eb : sbase s.base 1 1 s.cap = some ⟨b, 1, none⟩ := by
            unfold sbase
            rw [hb, if_neg (by omega)]
            show some (Addr.add _ _) = _
            rw [box_add]
          show RdCells k3 (sbase s.base 1 1 s.cap) (ds.length * 1) (ds.flatMap eN)
          rw [eb]
          refine (kb.le w3).rd (by rw [flat_len eN_len]) ?_
          have := congrArg (List.drop 1) hcs
          rw [List.drop_take, Nat.add_sub_cancel] at this
          rw [Nat.mul_one, this]
          simp only [List.map_cons, List.drop_succ_cons, List.drop_zero]
          exact eN_map ds
        refine app_own w3 o3 hrow eN_len eN_ok rfl (by rw [List.length_append, List.length_append]; simp only [List.length_singleton]; omega) fun l4 k4 w4 o4 _ => ⟨w4, rfl, ?_⟩
        simpa using o4
      · rintro l4 i k4 ⟨w4, rfl, o4⟩
        refine LoopW2.intro (fun l t k => l = l4 ∧ t = 0 ∧ k = k4) (fun _ _ _ => 0) ⟨rfl, rfl, rfl⟩ ?_
        rintro _ _ _ ⟨rfl, rfl, rfl⟩
        refine iteF (fun hh => ?_) ⟨w4, by rw [if_neg hds]; exact o4⟩
        have := of_decide_eq_true hh
        rw [wrap64 (n := (ds.length : Int) + 1) (by omega) (by omega), wrap64 (by omega) (by omega)] at this
        omega
  rintro l3 k3 ⟨w3, o3⟩
  have len3 : (xs ++ (if neg then [45] else []) ++ [d] ++ if ds = [] then [] else 46 :: ds).length < 5000 := by
    rw [List.length_append, List.length_append]
    have : (if ds = [] then [] else 46 :: ds).length ≤ ds.length + 1 := by split <;> simp
    simp only [List.length_singleton]
    omega
  refine app1 w3 o3 (c := 101) rfl (by omega) fun l4 k4 w4 o4 => ?_
  refine JoinW1.intro (fun e k => k = k4 ∧ e = dp - 1) (iteF (by rw [hn]; intro hh; have := beq_iff_eq.1 hh; omega) ⟨rfl, wrap64 (by omega) (by omega)⟩) ?_
  rintro _ k4 ⟨rfl, rfl⟩
  refine JoinW2.intro (fun c e k => k = k4 ∧ c = ((if dp - 1 < 0 then 45 else 43 : Nat) : Int) ∧ e = ((dp - 1).natAbs : Int)) ?_ ?_
  · by_cases hneg : dp - 1 < 0
    · refine iteT (decide_eq_true hneg) ⟨rfl, by rw [if_pos hneg]; rfl, ?_⟩
      rw [wrap64 (by omega) (by omega)]
      omega
    · exact iteF (fun hh => hneg (of_decide_eq_true hh)) ⟨rfl, by rw [if_neg hneg]; rfl, by omega⟩
  rintro _ _ k4 ⟨rfl, rfl, rfl⟩
  refine app1 w4 o4 rfl (by rw [List.length_append, List.length_singleton]; omega) fun l5 k5 w5 o5 => ?_
  have fin : ∀ {r : Sl} {k : Hp} {zs : List Nat}, h0 ≤ k → zs = expL (dp - 1).natAbs → ON h0 k r (xs ++ (if neg then [45] else []) ++ [d] ++ (if ds = [] then [] else 46 :: ds) ++ [101] ++ [if dp - 1 < 0 then 45 else 43] ++ zs) → Q r k := fun {r k zs} w e o' => hk r k w (by
    subst e
    unfold sciL
    simpa using o')
  have len5 : (xs ++ (if neg then [45] else []) ++ [d] ++ (if ds = [] then [] else 46 :: ds) ++ [101] ++ [if dp - 1 < 0 then 45 else 43]).length < 1000000 := by
    rw [List.length_append, List.length_append, List.length_singleton, List.length_singleton]
    omega
  have he : (dp - 1).natAbs < 1000 := by omega
  generalize (dp - 1).natAbs = e at *
  unfold expL at fin
  by_cases c1 : e < 10
  · refine iteT (decide_eq_true (by omega)) (app2 w5 o5 (c := 48) (d := 48 + e) rfl (by rw [byte8, byte8]; omega) len5 fun r k w o' => fin w (by rw [if_pos c1]) o')
  · refine iteF (fun hh => c1 (by have := of_decide_eq_true hh; omega)) ?_
    rw [if_neg c1] at fin
    have t10 : ∀ {x : Nat}, Int.tdiv (x : Int) (10 : Int) = ((x / 10 : Nat) : Int) := tdivN
    have t100 : ∀ {x : Nat}, Int.tdiv (x : Int) (100 : Int) = ((x / 100 : Nat) : Int) := tdivN
    have m10 : ∀ {x : Nat}, Int.tmod (x : Int) (10 : Int) = ((x % 10 : Nat) : Int) := tmodN
    by_cases c2 : e < 100
    · refine iteT (decide_eq_true (by omega)) ⟨by decide, by decide, app2 w5 o5 (c := 48 + e / 10) (d := 48 + e % 10) ?_ ?_ len5 fun r k w o' => fin w (by rw [if_pos c2]) o'⟩
      · rw [t10, byte8, byte8, wrap64 (by omega) (by omega)]; omega
      · rw [m10, byte8, byte8]; omega
    · rw [if_neg c2] at fin
      refine iteF (fun hh => c2 (by have := of_decide_eq_true hh; omega)) ⟨by decide, by decide, by decide, by decide, app3 w5 o5 (c := 48 + e / 100) (d := 48 + e / 10 % 10) (e := 48 + e % 10) ?_ ?_ ?_ len5 fun r k w o' => fin w rfl o'⟩
      · rw [t100, byte8, byte8, wrap64 (by omega) (by omega)]; omega
      · rw [t10, wrap64 (by omega) (by omega), byte8 ((e / 10 : Nat) : Int), show ((e / 10 : Nat) : Int) % 256 = ((e / 10 : Nat) : Int) by omega, m10, byte8]; omega
      · rw [m10, byte8, byte8]; omega
end
end Lf

/-
  Floats: what the program makes of bits.
-/
namespace Lf
open Go Go.Proofs

section
variable {P : Program} {h : Hp}

theorem semE_of {P : Program} {s : Sem Value} {sh : Shape} {K : sh.T → Hp → Prop} {h : Hp} (hs : semW P s (fun v h' => ∃ x, v = sh.enc x ∧ K x h') h) : SemE P s sh K h := hs

/-- A sum, a difference, a product, a quotient. -/
theorem semE_float {op : BinOp} {t : Nat} {x y : Operand} {a b : Nat} {r : Option Nat} {K : Nat → Hp → Prop} (he : binS op t x y (.float .f64 a) (.float .f64 b) = (match r with
      | some r => Sem.pure (Value.float .f64 r)
      | none => Sem.bind (choose (.nanBits .f64 a b)) fun n => Sem.pure (Value.float .f64 n)))
    (hk : ∀ f, (∀ v, r = some v → f = v) → (r = none → isNaN f = true) → K f h) : SemE P (binS op t x y (.float .f64 a) (.float .f64 b)) (shFlt .f64) K h := by
  refine semE_of ?_
  rw [he]
  cases r with
  | some r => exact ⟨r, rfl, hk r (fun v e => (Option.some.inj e)) fun e => by cases e⟩
  | none =>
    intro n
    exact ⟨_, rfl, hk _ (fun v e => by cases e) fun _ => nan_cut a b n⟩

theorem bin_add {t : Nat} {x y : Operand} {a b : Nat} : binS .add t x y (.float .f64 a) (.float .f64 b) = (match f64.format.add a b with
      | some r => Sem.pure (Value.float .f64 r)
      | none => Sem.bind (choose (.nanBits .f64 a b)) fun n => Sem.pure (Value.float .f64 n)) := by
  cases e : f64.format.add a b <;> (show Op.floatArith .add .f64 a b = _; unfold Op.floatArith; simp only [pure, bind, Sem.bind, e])

theorem bin_sub {t : Nat} {x y : Operand} {a b : Nat} : binS .sub t x y (.float .f64 a) (.float .f64 b) = (match f64.format.sub a b with
      | some r => Sem.pure (Value.float .f64 r)
      | none => Sem.bind (choose (.nanBits .f64 a b)) fun n => Sem.pure (Value.float .f64 n)) := by
  cases e : f64.format.sub a b <;> (show Op.floatArith .sub .f64 a b = _; unfold Op.floatArith; simp only [pure, bind, Sem.bind, e])

theorem bin_mul {t : Nat} {x y : Operand} {a b : Nat} : binS .mul t x y (.float .f64 a) (.float .f64 b) = (match f64.format.mul a b with
      | some r => Sem.pure (Value.float .f64 r)
      | none => Sem.bind (choose (.nanBits .f64 a b)) fun n => Sem.pure (Value.float .f64 n)) := by
  cases e : f64.format.mul a b <;> (show Op.floatArith .mul .f64 a b = _; unfold Op.floatArith; simp only [pure, bind, Sem.bind, e])

theorem bin_div {t : Nat} {x y : Operand} {a b : Nat} : binS .quo t x y (.float .f64 a) (.float .f64 b) = (match f64.format.div a b with
      | some r => Sem.pure (Value.float .f64 r)
      | none => Sem.bind (choose (.nanBits .f64 a b)) fun n => Sem.pure (Value.float .f64 n)) := by
  cases e : f64.format.div a b <;> (show Op.floatArith .quo .f64 a b = _; unfold Op.floatArith; simp only [pure, bind, Sem.bind, e])

theorem semV_pure {s : Sem Value} {sh : Shape} {v : sh.T} {K : sh.T → Prop} (he : s = Sem.pure (sh.enc v)) (hk : K v) : SemV none P s sh h K := by
  refine ⟨v, semIs_of_semW ?_, hk⟩
  rw [he]
  exact ⟨rfl, rfl⟩

theorem float_ok {b : Int} {Q : Nat → Hp → Prop} (hq : Q (floatP b) h) : flt_float_w Tryz.prog b Q h := by
  unfold flt_float_w
  exact ⟨_, rfl, hq⟩

theorem bits_ok {f : Nat} {Q : Int → Hp → Prop} (hq : Q (bitsP f) h) : flt_bits_w Tryz.prog f Q h := by
  unfold flt_bits_w
  refine semV_pure (sh := shBool) (v := isNaN f) rfl ?_
  unfold bitsP at hq
  by_cases e : isNaN f = true
  · rw [if_pos e]; rw [if_pos e] at hq; exact hq
  · rw [if_neg e]; rw [if_neg e] at hq
    exact ⟨(f : Int), rfl, hq⟩

/-! How far numbers reach. -/
theorem cut_zero {s : Bool} {n d : Nat} : Ieee.Toward.zero.cut s n d * 2 ^ d ≤ n := by
  unfold Ieee.Toward.cut
  simp only [Bool.toNat_false, Nat.add_zero, Nat.shiftLeft_eq, Nat.one_mul]
  by_cases hd : d ≤ n.log2 + 2
  · rw [Nat.min_eq_left hd]
    exact Nat.div_mul_le_self n (2 ^ d)
  · rw [Nat.min_eq_right (by omega)]
    have : n < 2 ^ (n.log2 + 2) := by
      by_cases h0 : n = 0
      · grind
      · have := Nat.lt_log2_self (n := n)
        grind
    rw [Nat.div_eq_of_lt this, Nat.zero_mul]
    omega

theorem shl_mul (m i : Nat) : m <<< i = m * 2 ^ i := Nat.shiftLeft_eq m i

/-- The whole part of a number between two bounds. -/
theorem whole_in {s : Bool} {m : Nat} {i : Int} (h1 : Ieee.Datum.order (.number s m i) (.number false 4503599627370496 11) = some .lt) (h2 : Ieee.Datum.order (.number s m i) (.number true 4503599627370496 11) ≠ some .lt) :
    ∃ n, (Ieee.Datum.number s m i).toInt .zero = some n ∧ -9223372036854775808 ≤ n ∧ n ≤ 9223372036854775807 := by
  refine ⟨_, rfl, ?_⟩
  have h1 : compare (Ieee.signed s m (i - min i 11).toNat) (Ieee.signed false 4503599627370496 (11 - min i 11).toNat) = .lt := Option.some.inj h1
  have h2 : compare (Ieee.signed s m (i - min i 11).toNat) (Ieee.signed true 4503599627370496 (11 - min i 11).toNat) ≠ .lt := fun e => h2 (congrArg some e)
  rw [Int.compare_eq_lt] at h1
  rw [ne_eq, Int.compare_eq_lt] at h2
  have hc := cut_zero (s := s) (n := m <<< i.toNat) (d := (-i).toNat)
  generalize hw : Ieee.Toward.zero.cut s (m <<< i.toNat) (-i).toNat = w at hc
  have e0 : Ieee.signed s w 0 = if s then -(w : Int) else (w : Int) := by unfold Ieee.signed; simp
  show -9223372036854775808 ≤ Ieee.signed s w 0 ∧ Ieee.signed s w 0 ≤ 9223372036854775807
  rw [e0]
  have key : ∃ C B : Nat, 0 < C ∧ 0 < B ∧ w * B ≤ (m <<< (i - min i 11).toNat) * C ∧ (4503599627370496 <<< (11 - min i 11).toNat) * C = 9223372036854775808 * B := by
    by_cases hi : i ≤ 11
    · have e1 : min i 11 = i := by omega
      rw [e1, Int.sub_self]
      by_cases h0 : 0 ≤ i
      · refine ⟨2 ^ i.toNat, 1, Nat.two_pow_pos _, by decide, ?_, ?_⟩
        · have e2 : (-i).toNat = 0 := by omega
          rw [e2, Nat.pow_zero, shl_mul] at hc
          grind
        · rw [shl_mul, Nat.mul_assoc, ← Nat.pow_add, show (11 - i).toNat + i.toNat = 11 by omega]
      · refine ⟨1, 2 ^ (-i).toNat, by decide, Nat.two_pow_pos _, ?_, ?_⟩
        · grind
        · rw [shl_mul, Nat.mul_one, show (11 - i).toNat = 11 + (-i).toNat by omega, Nat.pow_add, ← Nat.mul_assoc]
    · have e1 : min i 11 = 11 := by omega
      rw [e1]
      refine ⟨2 ^ 11, 1, by decide, by decide, ?_, by decide⟩
      have e2 : (-i).toNat = 0 := by omega
      rw [e2, Nat.pow_zero, shl_mul] at hc
      rw [shl_mul, Nat.mul_assoc, ← Nat.pow_add, show (i - 11).toNat + 11 = i.toNat by omega]
      exact hc
  obtain ⟨C, B, hC, hB, hwB, hM⟩ := key
  generalize hm' : m <<< (i - min i 11).toNat = m' at *
  generalize hn' : 4503599627370496 <<< (11 - min i 11).toNat = n' at *
  have s1 : Ieee.signed s m (i - min i 11).toNat = if s then -(m' : Int) else (m' : Int) := by unfold Ieee.signed; rw [hm']
  have s2 : Ieee.signed false 4503599627370496 (11 - min i 11).toNat = (n' : Int) := by unfold Ieee.signed; rw [hn']; rfl
  have s3 : Ieee.signed true 4503599627370496 (11 - min i 11).toNat = -(n' : Int) := by unfold Ieee.signed; rw [hn']; rfl
  rw [s1, s2] at h1
  rw [s1, s3] at h2
  cases s with
  | false =>
    simp only [Bool.false_eq_true, if_false] at h1 ⊢
    have h1 : m' < n' := by omega
    have : m' * C < n' * C := Nat.mul_lt_mul_of_pos_right h1 hC
    have : w * B < 9223372036854775808 * B := by omega
    have := Nat.lt_of_mul_lt_mul_right this
    omega
  | true =>
    simp only [if_true] at h2 ⊢
    have h2 : m' ≤ n' := by omega
    have : m' * C ≤ n' * C := Nat.mul_le_mul_right C h2
    have : w * B ≤ 9223372036854775808 * B := by omega
    have := Nat.le_of_mul_le_mul_right this hB
    omega

theorem conv_fi {b : Nat} {n : Int} (h0 : (f64.decode b).toInt .zero = some n) (h1 : IntKind.min .i64 ≤ n ∧ n ≤ IntKind.max .i64) : SemIs Tryz.prog (convert 34 2 (.float .f64 b)) h (.int .i64 n) := by
  refine semIs_of_run fun w => ?_
  have u1 := run_underlying' (e := ty34) tb_ok (t := 34) rfl w
  have u2 := run_underlying' (e := ty2) tb_ok (t := 2) rfl w
  simp only [convert, Sem.run_bind, u1, u2, Result.andThen_ok]
  show (Conv.floatToInt .f64 b .i64).run Tryz.prog w = _
  unfold Conv.floatToInt
  rw [h0]
  dsimp only
  rw [if_pos h1]
  rfl

theorem conv_if {b : Int} : SemIs Tryz.prog (convert 2 34 (.int .i64 b)) h (.float .f64 (f64.nearest b)) := by
  refine semIs_of_run fun w => ?_
  have u1 := run_underlying' (e := ty34) tb_ok (t := 34) rfl w
  have u2 := run_underlying' (e := ty2) tb_ok (t := 2) rfl w
  simp only [convert, Sem.run_bind, u1, u2, Result.andThen_ok]
  rfl

theorem read_hi : f64.format.read 4890909195324358656 = .number false 4503599627370496 11 := by decide
theorem read_lo : f64.format.read 14114281232179134464 = .number true 4503599627370496 11 := by decide

/-- A float that is neither a NaN nor out of bounds has a whole part within them. -/
theorem whole_some {f : Nat} (hn : isNaN f = false) (h1 : ¬ (f64.format.order f 4890909195324358656 = some .gt ∨ f64.format.order f 4890909195324358656 = some .eq)) (h2 : f64.format.order f 14114281232179134464 ≠ some .lt) :
    ∃ n, (f64.decode f).toInt .zero = some n ∧ IntKind.min .i64 ≤ n ∧ n ≤ IntKind.max .i64 := by
  have o1 : f64.format.order f 4890909195324358656 = (f64.format.read f).order (.number false 4503599627370496 11) := by
    show (f64.format.read f).order (f64.format.read _) = _
    rw [read_hi]
  have o2 : f64.format.order f 14114281232179134464 = (f64.format.read f).order (.number true 4503599627370496 11) := by
    show (f64.format.read f).order (f64.format.read _) = _
    rw [read_lo]
  rw [o1] at h1
  rw [o2] at h2
  unfold isNaN at hn
  have hn : (((f64.format.read f).order (f64.format.read f)) != some .eq) = false := hn
  show ∃ n, (f64.format.read f).toInt .zero = some n ∧ _
  generalize f64.format.read f = d at *
  cases d with
  | nan a b => simp [Ieee.Datum.order] at hn
  | infinity a => cases a <;> simp [Ieee.Datum.order] at h1 h2
  | number a m i =>
    refine whole_in ?_ h2
    have h1 : ¬ (some (compare _ _) = _ ∨ some (compare _ _) = _) := h1
    show some (compare _ _) = some .lt
    generalize compare (Ieee.signed a m (i - min i 11).toNat) (Ieee.signed false 4503599627370496 (11 - min i 11).toNat) = c at *
    cases c <;> simp at h1 ⊢

theorem wholeF_ok {f : Nat} {Q : Int → Hp → Prop} (hq : Q (wholeP f) h) : flt_whole_w Tryz.prog f Q h := by
  unfold flt_whole_w
  refine semV_pure (sh := shBool) (v := isNaN f) rfl ?_
  unfold wholeP at hq
  by_cases e : isNaN f = true
  · rw [if_pos e]; rw [if_pos e] at hq; exact hq
  rw [if_neg e]; rw [if_neg e] at hq
  refine semV_pure (sh := shBool) (v := f64.format.order f 4890909195324358656 == some .gt || f64.format.order f 4890909195324358656 == some .eq) rfl ?_
  by_cases e1 : f64.format.order f 4890909195324358656 = some .gt ∨ f64.format.order f 4890909195324358656 = some .eq
  · grind
  rw [if_neg (by simpa using e1)]; rw [if_neg e1] at hq
  refine semV_pure (sh := shBool) (v := f64.format.order f 14114281232179134464 == some .lt) rfl ?_
  by_cases e2 : f64.format.order f 14114281232179134464 = some .lt
  · grind
  rw [if_neg (by simpa using e2)]; rw [if_neg e2] at hq
  obtain ⟨n, e3, e4⟩ := whole_some (by simpa using e) e1 e2
  rw [e3] at hq
  exact ⟨n, conv_fi e3 e4, hq⟩

theorem res_ok {o : Option Nat} {f : Nat} (h1 : ∀ v, o = some v → f = v) (h2 : o = none → isNaN f = true) : bitsP f = resP o := by
  cases o with
  | some v => rw [h1 v rfl]; rfl
  | none => unfold bitsP; rw [if_pos (h2 rfl)]; rfl

theorem fltDo_ok {op b c : Int} {Q : Int → Int → Hp → Prop} (h1 : 15 ≤ op ∧ op ≤ 21 → Q (fltP op b c) 0 h) (h2 : ¬ (15 ≤ op ∧ op ≤ 21) → Q 0 9 h) : flt_Do_w Tryz.prog op b c Q h := by
  have case : ∀ n : Int, (op == n) = decide (op = n) := fun n => by by_cases e : op = n <;> simp [e]
  unfold flt_Do_w
  refine flt_float_call (float_ok ?_)
  refine flt_float_call (float_ok ?_)
  unfold fltP at h1
  simp only [case]
  by_cases h3 : op = 15
  · subst h3
    refine semE_float bin_add fun f e1 e2 => flt_bits_call (bits_ok ?_)
    rw [res_ok e1 e2]; simpa using h1
  by_cases h4 : op = 16
  · subst h4
    refine semE_float bin_sub fun f e1 e2 => flt_bits_call (bits_ok ?_)
    rw [res_ok e1 e2]; simpa using h1
  by_cases h5 : op = 17
  · subst h5
    refine semE_float bin_mul fun f e1 e2 => flt_bits_call (bits_ok ?_)
    rw [res_ok e1 e2]; simpa using h1
  by_cases h6 : op = 18
  · subst h6
    refine semE_float bin_div fun f e1 e2 => flt_bits_call (bits_ok ?_)
    rw [res_ok e1 e2]; simpa using h1
  by_cases h7 : op = 19
  · subst h7
    refine semV_pure (sh := shBool) (v := f64.format.order (floatP b) (floatP c) == some .lt) rfl ?_
    simp [oneP] at h1 ⊢
    by_cases e : f64.format.order (floatP b) (floatP c) = some .lt
    · rw [if_pos e]; rw [if_pos e] at h1; exact h1
    · rw [if_neg e]; rw [if_neg e] at h1; exact h1
  by_cases h8 : op = 20
  · subst h8
    refine ⟨f64.nearest b, conv_if, flt_bits_call (bits_ok ?_)⟩
    simpa using h1
  by_cases h9 : op = 21
  · subst h9
    refine flt_whole_call (wholeF_ok ?_)
    simpa using h1
  grind
end
end Lf

