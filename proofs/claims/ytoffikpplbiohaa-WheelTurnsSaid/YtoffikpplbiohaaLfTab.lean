/-
  By program: the types of the module by their numbers.
-/
import Derived.Test.YtoffikpplbiohaaLfStr
set_option maxRecDepth 100000
namespace Lf
open Go

def ty0 : Ty := { und := (.tuple #[]), size := 1, bytes := 0, zero := (.tuple #[]), sh := shUnit }
def ty2 : Ty := { und := (.int .i64), size := 1, bytes := 8, zero := (.int .i64 0), sh := shInt .i64 }
def ty3 : Ty := { und := (.int .i64), size := 1, bytes := 8, zero := (.int .i64 0), sh := shInt .i64 }
def ty4 : Ty := { und := .bool, size := 1, bytes := 1, zero := (.bool false), sh := shBool }
def ty23 : Ty := { und := (.slice 31), size := 1, bytes := 24, zero := (.slice none 0 0), sh := shSl }
def ty24 : Ty := { und := (.slice 3), size := 1, bytes := 24, zero := (.slice none 0 0), sh := shSl }
def ty26 : Ty := { und := (.pointer 74), size := 1, bytes := 8, zero := (.pointer none), sh := shPtr }
def ty27 : Ty := { und := (.int .i64), size := 1, bytes := 8, zero := (.int .i64 0), sh := shInt .i64 }
def ty28 : Ty := { und := (.tuple #[26, 27, 3]), size := 1, bytes := 0, zero := (.tuple #[(.pointer none), (.int .i64 0), (.int .i64 0)]), sh := shTup3 shPtr (shInt .i64) (shInt .i64) }
def ty31 : Ty := { und := (.int .u64), size := 1, bytes := 8, zero := (.int .u64 0), sh := shInt .u64 }
def ty32 : Ty := { und := (.tuple #[31, 27]), size := 1, bytes := 0, zero := (.tuple #[(.int .u64 0), (.int .i64 0)]), sh := shTup2 (shInt .u64) (shInt .i64) }
def ty39 : Ty := { und := (.tuple #[3, 4]), size := 1, bytes := 0, zero := (.tuple #[(.int .i64 0), (.bool false)]), sh := shTup2 (shInt .i64) shBool }
def ty45 : Ty := { und := (.slice 55), size := 1, bytes := 24, zero := (.slice none 0 0), sh := shSl }
def ty46 : Ty := { und := (.pointer 81), size := 1, bytes := 8, zero := (.pointer none), sh := shPtr }
def ty48 : Ty := { und := (.slice 46), size := 1, bytes := 24, zero := (.slice none 0 0), sh := shSl }
def ty49 : Ty := { und := (.pointer 52), size := 1, bytes := 8, zero := (.pointer none), sh := shPtr }
def ty50 : Ty := { und := (.slice 85), size := 1, bytes := 24, zero := (.slice none 0 0), sh := shSl }
def ty52 : Ty := { und := (.struct #[{ name := "L", type := 50, offset := 0, embedded := false, tag := "", pkgPath := "", byteOffset := 0 }]), size := 1, bytes := 24, zero := (.agg #[(.slice none 0 0)]), sh := sh_firebreakref11_Wheel }
def ty53 : Ty := { und := (.slice 49), size := 1, bytes := 24, zero := (.slice none 0 0), sh := shSl }
def ty55 : Ty := { und := (.struct #[{ name := "Kind", type := 3, offset := 0, embedded := false, tag := "", pkgPath := "", byteOffset := 0 }, { name := "On", type := 3, offset := 1, embedded := false, tag := "", pkgPath := "", byteOffset := 8 }, { name := "ID", type := 3, offset := 2, embedded := false, tag := "", pkgPath := "", byteOffset := 16 }, { name := "At", type := 2, offset := 3, embedded := false, tag := "", pkgPath := "", byteOffset := 24 }]), size := 4, bytes := 32, zero := (.agg #[(.int .i64 0), (.int .i64 0), (.int .i64 0), (.int .i64 0)]), sh := sh_firebreaklaw11_Op }
def ty59 : Ty := { und := (.slice 64), size := 1, bytes := 24, zero := (.slice none 0 0), sh := shSl }
def ty60 : Ty := { und := (.slice 2), size := 1, bytes := 24, zero := (.slice none 0 0), sh := shSl }
def ty61 : Ty := { und := (.map 3 2), size := 1, bytes := 8, zero := (.map none), sh := shMap }
def ty64 : Ty := { und := (.struct #[{ name := "ID", type := 3, offset := 0, embedded := false, tag := "", pkgPath := "", byteOffset := 0 }, { name := "Due", type := 2, offset := 1, embedded := false, tag := "", pkgPath := "", byteOffset := 8 }]), size := 2, bytes := 16, zero := (.agg #[(.int .i64 0), (.int .i64 0)]), sh := sh_firebreaklaw11_Set }
def ty65 : Ty := { und := (.tuple #[2, 4]), size := 1, bytes := 0, zero := (.tuple #[(.int .i64 0), (.bool false)]), sh := shTup2 (shInt .i64) shBool }
def ty66 : Ty := { und := (.func #[3] #[4] false), size := 1, bytes := 8, zero := .nilFunc, sh := shLeaf }
def ty70 : Ty := { und := (.tuple #[27, 3]), size := 1, bytes := 0, zero := (.tuple #[(.int .i64 0), (.int .i64 0)]), sh := shTup2 (shInt .i64) (shInt .i64) }
def ty72 : Ty := { und := (.map 31 3), size := 1, bytes := 8, zero := (.map none), sh := shMap }
def ty74 : Ty := { und := (.struct #[{ name := "labels", type := 23, offset := 0, embedded := false, tag := "", pkgPath := "firebreak/table", byteOffset := 0 }, { name := "by", type := 72, offset := 1, embedded := false, tag := "", pkgPath := "firebreak/table", byteOffset := 24 }]), size := 2, bytes := 32, zero := (.agg #[(.slice none 0 0), (.map none)]), sh := sh_table_Table }
def ty78 : Ty := { und := (.map 3 84), size := 1, bytes := 8, zero := (.map none), sh := shMap }
def ty79 : Ty := { und := (.slice 84), size := 1, bytes := 24, zero := (.slice none 0 0), sh := shSl }
def ty81 : Ty := { und := (.struct #[{ name := "l", type := 79, offset := 0, embedded := false, tag := "", pkgPath := "firebreak/wheel", byteOffset := 0 }, { name := "of", type := 78, offset := 1, embedded := false, tag := "", pkgPath := "firebreak/wheel", byteOffset := 24 }]), size := 2, bytes := 32, zero := (.agg #[(.slice none 0 0), (.map none)]), sh := sh_wheel_Wheel }
def ty84 : Ty := { und := (.struct #[{ name := "due", type := 2, offset := 0, embedded := false, tag := "", pkgPath := "firebreak/wheel", byteOffset := 0 }, { name := "id", type := 3, offset := 1, embedded := false, tag := "", pkgPath := "firebreak/wheel", byteOffset := 8 }]), size := 2, bytes := 16, zero := (.agg #[(.int .i64 0), (.int .i64 0)]), sh := sh_wheel_entry }
def ty85 : Ty := { und := (.struct #[{ name := "ID", type := 3, offset := 0, embedded := false, tag := "", pkgPath := "", byteOffset := 0 }, { name := "Due", type := 2, offset := 1, embedded := false, tag := "", pkgPath := "", byteOffset := 8 }]), size := 2, bytes := 16, zero := (.agg #[(.int .i64 0), (.int .i64 0)]), sh := sh_firebreakref11_One }
def ty87 : Ty := { und := (.func #[84, 84] #[3] false), size := 1, bytes := 8, zero := .nilFunc, sh := shLeaf }
def ty89 : Ty := { und := (.tuple #[84, 4]), size := 1, bytes := 0, zero := (.tuple #[(.agg #[(.int .i64 0), (.int .i64 0)]), (.bool false)]), sh := shTup2 sh_wheel_entry shBool }
def ty93 : Ty := { und := (.int .u64), size := 1, bytes := 8, zero := (.int .u64 0), sh := shInt .u64 }
def tyRows : List (List (Option Ty)) := [[some ty0, none, some ty2, some ty3, some ty4, none, none, none, none, none, none, none, none, none, none, none],
  [none, none, none, none, none, none, none, some ty23, some ty24, none, some ty26, some ty27, some ty28, none, none, some ty31],
  [some ty32, none, none, none, none, none, none, some ty39, none, none, none, none, none, some ty45, some ty46, none],
  [some ty48, some ty49, some ty50, none, some ty52, some ty53, none, some ty55, none, none, none, some ty59, some ty60, some ty61, none, none],
  [some ty64, some ty65, some ty66, none, none, none, some ty70, none, some ty72, none, some ty74, none, none, none, some ty78, some ty79],
  [none, some ty81, none, none, some ty84, some ty85, none, some ty87, none, some ty89, none, none, none, some ty93]]
def tyAt (t : Nat) : Option Ty := match nth tyRows (t / 16) with
  | some r => match nth r (t % 16) with
    | some e => e
    | none => none
  | none => none
def fnRows : List (List Bool) := [[false, false, true, true, true, true, true, true, true, true, true, true, true, true, true, true],
  [true, true, true, true, true, true, true, true, true, true, true, true, true, true, true, true],
  [true, true, true, true, true, true, true, true, true, true, true, true, true, true, true, true],
  [true, true, true, true, true, true, true, true, true, true, true, false, true, true, true, true],
  [true]]
def fnAt (g : Nat) : Bool := match nth fnRows (g / 16) with
  | some r => match nth r (g % 16) with
    | some e => e
    | none => false
  | none => false
def extAt (g : Nat) : Option (Array Value → Sem Value) := cond (Nat.beq g 59) (some (Extern.SlicesOverlaps.overlaps #[79, 79] #[4])) (none)
def tb : Tb := { ty := tyAt, call := fnAt, ext := extAt }

abbrev n_gosem_cut_init : Nat := 2
abbrev n_firebreaklaw02_TableNames : Nat := 3
abbrev n_firebreaklaw02_TableTells : Nat := 4
abbrev n_firebreaklaw11_WheelNames : Nat := 5
abbrev n_firebreaklaw11_WheelTurns : Nat := 6
abbrev n_firebreaklaw11_WheelOnce : Nat := 7
abbrev n_firebreaklaw02_awake : Nat := 8
abbrev n_firebreakref02_Canon : Nat := 9
abbrev n_table_New : Nat := 10
abbrev n_firebreaklaw02_wide : Nat := 11
abbrev n_table_Table_Len : Nat := 12
abbrev n_table_Table_Label : Nat := 13
abbrev n_firebreakref02_SameInts : Nat := 14
abbrev n_table_Table_Up : Nat := 15
abbrev n_firebreakref02_Up : Nat := 16
abbrev n_table_Table_Flows : Nat := 17
abbrev n_firebreakref02_Flows : Nat := 18
abbrev n_table_Table_Index : Nat := 19
abbrev n_firebreakref02_Index : Nat := 20
abbrev n_table_Table_Down : Nat := 21
abbrev n_firebreakref02_Down : Nat := 22
abbrev n_firebreaklaw11_cleared : Nat := 23
abbrev n_firebreaklaw11_fixed : Nat := 24
abbrev n_wheel_New : Nat := 25
abbrev n_firebreaklaw11_step : Nat := 26
abbrev n_wheel_Wheel_Pop : Nat := 27
abbrev n_firebreaklaw11_same : Nat := 28
abbrev n_firebreakref11_Wheel_Pop : Nat := 29
abbrev n_wheel_Wheel_Len : Nat := 30
abbrev n_wheel_Wheel_Set : Nat := 31
abbrev n_wheel_Wheel_Clear : Nat := 32
abbrev n_firebreaklaw11_past : Nat := 33
abbrev n_wheel_Wheel_Next : Nat := 34
abbrev n_table_May : Nat := 35
abbrev n_slices_Clone_uint64_uint64 : Nat := 36
abbrev n_table_Table_is : Nat := 37
abbrev n_table_Table_those : Nat := 38
abbrev n_table_Table_Up_1 : Nat := 39
abbrev n_label_Flows : Nat := 40
abbrev n_firebreakref01_Flows : Nat := 41
abbrev n_table_Table_Down_1 : Nat := 42
abbrev n_wheel_Wheel_Due : Nat := 43
abbrev n_firebreakref11_Wheel_Set : Nat := 44
abbrev n_firebreakref11_Wheel_Clear : Nat := 45
abbrev n_firebreakref11_Wheel_Due : Nat := 46
abbrev n_firebreaklaw11_own : Nat := 47
abbrev n_firebreakref11_Wheel_Next : Nat := 48
abbrev n_firebreakref11_Wheel_first : Nat := 49
abbrev n_slices_BinarySearchFunc_wheel_entry_wheel_entry_wheel_entry : Nat := 50
abbrev n_wheel_order : Nat := 51
abbrev n_slices_Insert_wheel_entry_wheel_entry : Nat := 52
abbrev n_slices_Delete_wheel_entry_wheel_entry : Nat := 53
abbrev n_firebreakref01_Has : Nat := 54
abbrev n_firebreakref11_Wheel_place : Nat := 55
abbrev n_cmp_Or_int : Nat := 56
abbrev n_cmp_Compare_int64 : Nat := 57
abbrev n_cmp_Compare_int : Nat := 58
abbrev n_slices_rotateRight_wheel_entry : Nat := 60
abbrev n_cmp_isNaN_int64 : Nat := 61
abbrev n_cmp_isNaN_int : Nat := 62
abbrev n_slices_rotateLeft_wheel_entry : Nat := 63
abbrev n_slices_Reverse_wheel_entry_wheel_entry : Nat := 64
end Lf
