/-
  Part 3 of the texts that the claim leans on.
-/
import Derived.Test.YtgmfbapkfjemnaaGreatDoorMgFltReturns1
/-
  By program: the types of the module by their numbers.
-/
set_option maxRecDepth 100000
namespace Lf
open Go

def fldT (n : String) (t o b : Nat) : Field := { name := n, type := t, offset := o, embedded := false, tag := "", pkgPath := "", byteOffset := b }

def ty0 : Ty := { und := (.tuple #[]), size := 1, bytes := 0, zero := (.tuple #[]), sh := zam1 }
def ty2 : Ty := { und := (.int .i64), size := 1, bytes := 8, zero := (.int .i64 0), sh := shInt .i64 }
def ty3 : Ty := { und := (.int .i64), size := 1, bytes := 8, zero := (.int .i64 0), sh := shInt .i64 }
def ty4 : Ty := { und := .bool, size := 1, bytes := 1, zero := (.bool false), sh := zag }
def ty5 : Ty := { und := (.int .u8), size := 1, bytes := 1, zero := (.int .u8 0), sh := shInt .u8 }
def ty9 : Ty := { und := .string, size := 1, bytes := 16, zero := (.string ByteArray.empty), sh := shStr }
def ty12 : Ty := { und := (.int .u64), size := 1, bytes := 8, zero := (.int .u64 0), sh := shInt .u64 }
def ty20 : Ty := { und := (.interface #[]), size := 1, bytes := 16, zero := .nilIface, sh := zaj }
def ty21 : Ty := { und := (.int .i32), size := 1, bytes := 4, zero := (.int .i32 0), sh := shInt .i32 }
def ty22 : Ty := { und := (.slice 2), size := 1, bytes := 24, zero := (.slice none 0 0), sh := shSl }
def ty23 : Ty := { und := (.slice 9), size := 1, bytes := 24, zero := (.slice none 0 0), sh := shSl }
def ty25 : Ty := { und := (.int .i64), size := 1, bytes := 8, zero := (.int .i64 0), sh := shInt .i64 }
def ty26 : Ty := { und := (.tuple #[2, 25]), size := 1, bytes := 0, zero := (.tuple #[(.int .i64 0), (.int .i64 0)]), sh := zii (shInt .i64) (shInt .i64) }
def ty31 : Ty := { und := (.slice 44), size := 1, bytes := 24, zero := (.slice none 0 0), sh := shSl }
def ty33 : Ty := { und := (.tuple #[9, 25, 3]), size := 1, bytes := 0, zero := (.tuple #[(.string ByteArray.empty), (.int .i64 0), (.int .i64 0)]), sh := zud shStr (shInt .i64) (shInt .i64) }
def ty36 : Ty := { und := (.tuple #[31, 25, 3, 3]), size := 1, bytes := 0, zero := (.tuple #[(.slice none 0 0), (.int .i64 0), (.int .i64 0), (.int .i64 0)]), sh := zij1 shSl (shInt .i64) (shInt .i64) (shInt .i64) }
def ty39 : Ty := { und := (.func #[9] #[4] false), size := 1, bytes := 8, zero := .nilFunc, sh := shFn }
def ty40 : Ty := { und := (.tuple #[25, 3]), size := 1, bytes := 0, zero := (.tuple #[(.int .i64 0), (.int .i64 0)]), sh := zii (shInt .i64) (shInt .i64) }
def ty44 : Ty := { und := (.struct #[fldT "Op" 3 0 0, fldT "A" 3 1 8, fldT "B" 3 2 16, fldT "C" 3 3 24, fldT "Imm" 2 4 32]), size := 5, bytes := 40, zero := (.agg #[(.int .i64 0), (.int .i64 0), (.int .i64 0), (.int .i64 0), (.int .i64 0)]), sh := zbj1 }
def ty48 : Ty := { und := (.float .f64), size := 1, bytes := 8, zero := (.float .f64 0), sh := shFlt .f64 }
def ty51 : Ty := { und := (.int .u64), size := 1, bytes := 8, zero := (.int .u64 0), sh := shInt .u64 }
def ty52 : Ty := { und := (.tuple #[9, 9, 4]), size := 1, bytes := 0, zero := (.tuple #[(.string ByteArray.empty), (.string ByteArray.empty), (.bool false)]), sh := zud shStr shStr zag }
def ty56 : Ty := { und := (.interface #[("Error", 78)]), size := 1, bytes := 16, zero := .nilIface, sh := zaj }
def ty57 : Ty := { und := (.tuple #[3, 56]), size := 1, bytes := 0, zero := (.tuple #[(.int .i64 0), .nilIface]), sh := zii (shInt .i64) zaj }
def ty60 : Ty := { und := (.tuple #[9, 4]), size := 1, bytes := 0, zero := (.tuple #[(.string ByteArray.empty), (.bool false)]), sh := zii shStr zag }
def ty62 : Ty := { und := (.tuple #[51, 56]), size := 1, bytes := 0, zero := (.tuple #[(.int .u64 0), .nilIface]), sh := zii (shInt .u64) zaj }
def ty64 : Ty := { und := (.tuple #[48, 56]), size := 1, bytes := 0, zero := (.tuple #[(.float .f64 0), .nilIface]), sh := zii (shFlt .f64) zaj }
def ty67 : Ty := { und := (.int .u64), size := 1, bytes := 8, zero := (.int .u64 0), sh := shInt .u64 }
def ty69 : Ty := { und := (.tuple #[51, 3, 4]), size := 1, bytes := 0, zero := (.tuple #[(.int .u64 0), (.int .i64 0), (.bool false)]), sh := zud (shInt .u64) (shInt .i64) zag }
def ty73 : Ty := { und := (.pointer 76), size := 1, bytes := 8, zero := (.pointer none), sh := shPtr }
def ty74 : Ty := { und := (.slice 5), size := 1, bytes := 24, zero := (.slice none 0 0), sh := shSl }
def ty76 : Ty := { und := (.struct #[{ name := "addr", type := 73, offset := 0, embedded := false, tag := "", pkgPath := "strings", byteOffset := 0 }, { name := "buf", type := 74, offset := 1, embedded := false, tag := "", pkgPath := "strings", byteOffset := 8 }]), size := 2, bytes := 32, zero := (.agg #[(.pointer none), (.slice none 0 0)]), sh := zvs }
def ty80 : Ty := { und := (.pointer 82), size := 1, bytes := 8, zero := (.pointer none), sh := shPtr }
def ty82 : Ty := { und := (.struct #[{ name := "s", type := 9, offset := 0, embedded := false, tag := "", pkgPath := "firebreak/asm", byteOffset := 0 }, { name := "at", type := 3, offset := 1, embedded := false, tag := "", pkgPath := "firebreak/asm", byteOffset := 16 }, { name := "e", type := 25, offset := 2, embedded := false, tag := "", pkgPath := "firebreak/asm", byteOffset := 24 }, { name := "in", type := 3, offset := 3, embedded := false, tag := "", pkgPath := "firebreak/asm", byteOffset := 32 }]), size := 4, bytes := 40, zero := (.agg #[(.string ByteArray.empty), (.int .i64 0), (.int .i64 0), (.int .i64 0)]), sh := zcs1 }
def ty85 : Ty := { und := (.tuple #[44, 25, 3]), size := 1, bytes := 0, zero := (.tuple #[(.agg #[(.int .i64 0), (.int .i64 0), (.int .i64 0), (.int .i64 0), (.int .i64 0)]), (.int .i64 0), (.int .i64 0)]), sh := zud zbj1 (shInt .i64) (shInt .i64) }
def ty92 : Ty := { und := (.tuple #[51, 3]), size := 1, bytes := 0, zero := (.tuple #[(.int .u64 0), (.int .i64 0)]), sh := zii (shInt .u64) (shInt .i64) }
def ty96 : Ty := { und := (.tuple #[4, 4, 4, 4]), size := 1, bytes := 0, zero := (.tuple #[(.bool false), (.bool false), (.bool false), (.bool false)]), sh := zij1 zag zag zag zag }
def ty99 : Ty := { und := (.pointer 5), size := 1, bytes := 8, zero := (.pointer none), sh := shPtr }
def ty102 : Ty := { und := (.tuple #[3, 4]), size := 1, bytes := 0, zero := (.tuple #[(.int .i64 0), (.bool false)]), sh := zii (shInt .i64) zag }
def ty107 : Ty := { und := (.array 3 4), size := 3, bytes := 3, zero := (.agg #[(.bool false), (.bool false), (.bool false)]), sh := zlw1 }
def ty108 : Ty := { und := (.array 3 3), size := 3, bytes := 24, zero := (.agg #[(.int .i64 0), (.int .i64 0), (.int .i64 0)]), sh := zoz1 }
def ty109 : Ty := { und := (.tuple #[9, 3, 3, 4]), size := 1, bytes := 0, zero := (.tuple #[(.string ByteArray.empty), (.int .i64 0), (.int .i64 0), (.bool false)]), sh := zij1 shStr (shInt .i64) (shInt .i64) zag }
def ty114 : Ty := { und := (.tuple #[67, 67]), size := 1, bytes := 0, zero := (.tuple #[(.int .u64 0), (.int .u64 0)]), sh := zii (shInt .u64) (shInt .u64) }
def ty120 : Ty := { und := (.float .f32), size := 1, bytes := 4, zero := (.float .f32 0), sh := shFlt .f32 }
def ty122 : Ty := { und := (.int .i64), size := 1, bytes := 8, zero := (.int .i64 0), sh := shInt .i64 }
def ty123 : Ty := { und := (.tuple #[2, 56]), size := 1, bytes := 0, zero := (.tuple #[(.int .i64 0), .nilIface]), sh := zii (shInt .i64) zaj }
def ty125 : Ty := { und := (.pointer 169), size := 1, bytes := 8, zero := (.pointer none), sh := shPtr }
def ty132 : Ty := { und := (.tuple #[48, 3, 56]), size := 1, bytes := 0, zero := (.tuple #[(.float .f64 0), (.int .i64 0), .nilIface]), sh := zud (shFlt .f64) (shInt .i64) zaj }
def ty135 : Ty := { und := .unsafePointer, size := 1, bytes := 8, zero := (.pointer none), sh := zaj }
def ty137 : Ty := { und := (.array 34 9), size := 34, bytes := 544, zero := (.agg #[(.string ByteArray.empty), (.string ByteArray.empty), (.string ByteArray.empty), (.string ByteArray.empty), (.string ByteArray.empty), (.string ByteArray.empty), (.string ByteArray.empty), (.string ByteArray.empty), (.string ByteArray.empty), (.string ByteArray.empty), (.string ByteArray.empty), (.string ByteArray.empty), (.string ByteArray.empty), (.string ByteArray.empty), (.string ByteArray.empty), (.string ByteArray.empty), (.string ByteArray.empty), (.string ByteArray.empty), (.string ByteArray.empty), (.string ByteArray.empty), (.string ByteArray.empty), (.string ByteArray.empty), (.string ByteArray.empty), (.string ByteArray.empty), (.string ByteArray.empty), (.string ByteArray.empty), (.string ByteArray.empty), (.string ByteArray.empty), (.string ByteArray.empty), (.string ByteArray.empty), (.string ByteArray.empty), (.string ByteArray.empty), (.string ByteArray.empty), (.string ByteArray.empty)]), sh := zwe 34 }
def ty140 : Ty := { und := (.tuple #[9, 3, 4]), size := 1, bytes := 0, zero := (.tuple #[(.string ByteArray.empty), (.int .i64 0), (.bool false)]), sh := zud shStr (shInt .i64) zag }
def ty142 : Ty := { und := (.func #[9] #[2, 4] false), size := 1, bytes := 8, zero := .nilFunc, sh := shFn }
def ty143 : Ty := { und := (.tuple #[2, 4]), size := 1, bytes := 0, zero := (.tuple #[(.int .i64 0), (.bool false)]), sh := zii (shInt .i64) zag }
def ty144 : Ty := { und := (.array 24 5), size := 24, bytes := 24, zero := (.agg #[(.int .u8 0), (.int .u8 0), (.int .u8 0), (.int .u8 0), (.int .u8 0), (.int .u8 0), (.int .u8 0), (.int .u8 0), (.int .u8 0), (.int .u8 0), (.int .u8 0), (.int .u8 0), (.int .u8 0), (.int .u8 0), (.int .u8 0), (.int .u8 0), (.int .u8 0), (.int .u8 0), (.int .u8 0), (.int .u8 0), (.int .u8 0), (.int .u8 0), (.int .u8 0), (.int .u8 0)]), sh := zet1 }
def ty146 : Ty := { und := (.tuple #[74, 9]), size := 1, bytes := 0, zero := (.tuple #[(.slice none 0 0), (.string ByteArray.empty)]), sh := zii shSl shStr }
def ty148 : Ty := { und := (.int .u32), size := 1, bytes := 4, zero := (.int .u32 0), sh := shInt .u32 }
def ty149 : Ty := { und := (.tuple #[148, 148]), size := 1, bytes := 0, zero := (.tuple #[(.int .u32 0), (.int .u32 0)]), sh := zii (shInt .u32) (shInt .u32) }
def ty151 : Ty := { und := (.tuple #[51, 51]), size := 1, bytes := 0, zero := (.tuple #[(.int .u64 0), (.int .u64 0)]), sh := zii (shInt .u64) (shInt .u64) }
def ty158 : Ty := { und := (.array 32 5), size := 32, bytes := 32, zero := (.agg #[(.int .u8 0), (.int .u8 0), (.int .u8 0), (.int .u8 0), (.int .u8 0), (.int .u8 0), (.int .u8 0), (.int .u8 0), (.int .u8 0), (.int .u8 0), (.int .u8 0), (.int .u8 0), (.int .u8 0), (.int .u8 0), (.int .u8 0), (.int .u8 0), (.int .u8 0), (.int .u8 0), (.int .u8 0), (.int .u8 0), (.int .u8 0), (.int .u8 0), (.int .u8 0), (.int .u8 0), (.int .u8 0), (.int .u8 0), (.int .u8 0), (.int .u8 0), (.int .u8 0), (.int .u8 0), (.int .u8 0), (.int .u8 0)]), sh := zeu1 }
def ty159 : Ty := { und := (.tuple #[3, 3]), size := 1, bytes := 0, zero := (.tuple #[(.int .i64 0), (.int .i64 0)]), sh := zii (shInt .i64) (shInt .i64) }
def ty162 : Ty := { und := (.pointer 165), size := 1, bytes := 8, zero := (.pointer none), sh := shPtr }
def ty163 : Ty := { und := (.array 800 5), size := 800, bytes := 800, zero := (.agg #[(.int .u8 0), (.int .u8 0), (.int .u8 0), (.int .u8 0), (.int .u8 0), (.int .u8 0), (.int .u8 0), (.int .u8 0), (.int .u8 0), (.int .u8 0), (.int .u8 0), (.int .u8 0), (.int .u8 0), (.int .u8 0), (.int .u8 0), (.int .u8 0), (.int .u8 0), (.int .u8 0), (.int .u8 0), (.int .u8 0), (.int .u8 0), (.int .u8 0), (.int .u8 0), (.int .u8 0), (.int .u8 0), (.int .u8 0), (.int .u8 0), (.int .u8 0), (.int .u8 0), (.int .u8 0), (.int .u8 0), (.int .u8 0), (.int .u8 0), (.int .u8 0), (.int .u8 0), (.int .u8 0), (.int .u8 0), (.int .u8 0), (.int .u8 0), (.int .u8 0), (.int .u8 0), (.int .u8 0), (.int .u8 0), (.int .u8 0), (.int .u8 0), (.int .u8 0), (.int .u8 0), (.int .u8 0), (.int .u8 0), (.int .u8 0), (.int .u8 0), (.int .u8 0), (.int .u8 0), (.int .u8 0), (.int .u8 0), (.int .u8 0), (.int .u8 0), (.int .u8 0), (.int .u8 0), (.int .u8 0), (.int .u8 0), (.int .u8 0), (.int .u8 0), (.int .u8 0), (.int .u8 0), (.int .u8 0), (.int .u8 0), (.int .u8 0), (.int .u8 0), (.int .u8 0), (.int .u8 0), (.int .u8 0), (.int .u8 0), (.int .u8 0), (.int .u8 0), (.int .u8 0), (.int .u8 0), (.int .u8 0), (.int .u8 0), (.int .u8 0), (.int .u8 0), (.int .u8 0), (.int .u8 0), (.int .u8 0), (.int .u8 0), (.int .u8 0), (.int .u8 0), (.int .u8 0), (.int .u8 0), (.int .u8 0), (.int .u8 0), (.int .u8 0), (.int .u8 0), (.int .u8 0), (.int .u8 0), (.int .u8 0), (.int .u8 0), (.int .u8 0), (.int .u8 0), (.int .u8 0), (.int .u8 0), (.int .u8 0), (.int .u8 0), (.int .u8 0), (.int .u8 0), (.int .u8 0), (.int .u8 0), (.int .u8 0), (.int .u8 0), (.int .u8 0), (.int .u8 0), (.int .u8 0), (.int .u8 0), (.int .u8 0), (.int .u8 0), (.int .u8 0), (.int .u8 0), (.int .u8 0), (.int .u8 0), (.int .u8 0), (.int .u8 0), (.int .u8 0), (.int .u8 0), (.int .u8 0), (.int .u8 0), (.int .u8 0), (.int .u8 0), (.int .u8 0), (.int .u8 0), (.int .u8 0), (.int .u8 0), (.int .u8 0), (.int .u8 0), (.int .u8 0), (.int .u8 0), (.int .u8 0), (.int .u8 0), (.int .u8 0), (.int .u8 0), (.int .u8 0), (.int .u8 0), (.int .u8 0), (.int .u8 0), (.int .u8 0), (.int .u8 0), (.int .u8 0), (.int .u8 0), (.int .u8 0), (.int .u8 0), (.int .u8 0), (.int .u8 0), (.int .u8 0), (.int .u8 0), (.int .u8 0), (.int .u8 0), (.int .u8 0), (.int .u8 0), (.int .u8 0), (.int .u8 0), (.int .u8 0), (.int .u8 0), (.int .u8 0), (.int .u8 0), (.int .u8 0), (.int .u8 0), (.int .u8 0), (.int .u8 0), (.int .u8 0), (.int .u8 0), (.int .u8 0), (.int .u8 0), (.int .u8 0), (.int .u8 0), (.int .u8 0), (.int .u8 0), (.int .u8 0), (.int .u8 0), (.int .u8 0), (.int .u8 0), (.int .u8 0), (.int .u8 0), (.int .u8 0), (.int .u8 0), (.int .u8 0), (.int .u8 0), (.int .u8 0), (.int .u8 0), (.int .u8 0), (.int .u8 0), (.int .u8 0), (.int .u8 0), (.int .u8 0), (.int .u8 0), (.int .u8 0), (.int .u8 0), (.int .u8 0), (.int .u8 0), (.int .u8 0), (.int .u8 0), (.int .u8 0), (.int .u8 0), (.int .u8 0), (.int .u8 0), (.int .u8 0), (.int .u8 0), (.int .u8 0), (.int .u8 0), (.int .u8 0), (.int .u8 0), (.int .u8 0), (.int .u8 0), (.int .u8 0), (.int .u8 0), (.int .u8 0), (.int .u8 0), (.int .u8 0), (.int .u8 0), (.int .u8 0), (.int .u8 0), (.int .u8 0), (.int .u8 0), (.int .u8 0), (.int .u8 0), (.int .u8 0), (.int .u8 0), (.int .u8 0), (.int .u8 0), (.int .u8 0), (.int .u8 0), (.int .u8 0), (.int .u8 0), (.int .u8 0), (.int .u8 0), (.int .u8 0), (.int .u8 0), (.int .u8 0), (.int .u8 0), (.int .u8 0), (.int .u8 0), (.int .u8 0), (.int .u8 0), (.int .u8 0), (.int .u8 0), (.int .u8 0), (.int .u8 0), (.int .u8 0), (.int .u8 0), (.int .u8 0), (.int .u8 0), (.int .u8 0), (.int .u8 0), (.int .u8 0), (.int .u8 0), (.int .u8 0), (.int .u8 0), (.int .u8 0), (.int .u8 0), (.int .u8 0), (.int .u8 0), (.int .u8 0), (.int .u8 0), (.int .u8 0), (.int .u8 0), (.int .u8 0), (.int .u8 0), (.int .u8 0), (.int .u8 0), (.int .u8 0), (.int .u8 0), (.int .u8 0), (.int .u8 0), (.int .u8 0), (.int .u8 0), (.int .u8 0), (.int .u8 0), (.int .u8 0), (.int .u8 0), (.int .u8 0), (.int .u8 0), (.int .u8 0), (.int .u8 0), (.int .u8 0), (.int .u8 0), (.int .u8 0), (.int .u8 0), (.int .u8 0), (.int .u8 0), (.int .u8 0), (.int .u8 0), (.int .u8 0), (.int .u8 0), (.int .u8 0), (.int .u8 0), (.int .u8 0), (.int .u8 0), (.int .u8 0), (.int .u8 0), (.int .u8 0), (.int .u8 0), (.int .u8 0), (.int .u8 0), (.int .u8 0), (.int .u8 0), (.int .u8 0), (.int .u8 0), (.int .u8 0), (.int .u8 0), (.int .u8 0), (.int .u8 0), (.int .u8 0), (.int .u8 0), (.int .u8 0), (.int .u8 0), (.int .u8 0), (.int .u8 0), (.int .u8 0), (.int .u8 0), (.int .u8 0), (.int .u8 0), (.int .u8 0), (.int .u8 0), (.int .u8 0), (.int .u8 0), (.int .u8 0), (.int .u8 0), (.int .u8 0), (.int .u8 0), (.int .u8 0), (.int .u8 0), (.int .u8 0), (.int .u8 0), (.int .u8 0), (.int .u8 0), (.int .u8 0), (.int .u8 0), (.int .u8 0), (.int .u8 0), (.int .u8 0), (.int .u8 0), (.int .u8 0), (.int .u8 0), (.int .u8 0), (.int .u8 0), (.int .u8 0), (.int .u8 0), (.int .u8 0), (.int .u8 0), (.int .u8 0), (.int .u8 0), (.int .u8 0), (.int .u8 0), (.int .u8 0), (.int .u8 0), (.int .u8 0), (.int .u8 0), (.int .u8 0), (.int .u8 0), (.int .u8 0), (.int .u8 0), (.int .u8 0), (.int .u8 0), (.int .u8 0), (.int .u8 0), (.int .u8 0), (.int .u8 0), (.int .u8 0), (.int .u8 0), (.int .u8 0), (.int .u8 0), (.int .u8 0), (.int .u8 0), (.int .u8 0), (.int .u8 0), (.int .u8 0), (.int .u8 0), (.int .u8 0), (.int .u8 0), (.int .u8 0), (.int .u8 0), (.int .u8 0), (.int .u8 0), (.int .u8 0), (.int .u8 0), (.int .u8 0), (.int .u8 0), (.int .u8 0), (.int .u8 0), (.int .u8 0), (.int .u8 0), (.int .u8 0), (.int .u8 0), (.int .u8 0), (.int .u8 0), (.int .u8 0), (.int .u8 0), (.int .u8 0), (.int .u8 0), (.int .u8 0), (.int .u8 0), (.int .u8 0), (.int .u8 0), (.int .u8 0), (.int .u8 0), (.int .u8 0), (.int .u8 0), (.int .u8 0), (.int .u8 0), (.int .u8 0), (.int .u8 0), (.int .u8 0), (.int .u8 0), (.int .u8 0), (.int .u8 0), (.int .u8 0), (.int .u8 0), (.int .u8 0), (.int .u8 0), (.int .u8 0), (.int .u8 0), (.int .u8 0), (.int .u8 0), (.int .u8 0), (.int .u8 0), (.int .u8 0), (.int .u8 0), (.int .u8 0), (.int .u8 0), (.int .u8 0), (.int .u8 0), (.int .u8 0), (.int .u8 0), (.int .u8 0), (.int .u8 0), (.int .u8 0), (.int .u8 0), (.int .u8 0), (.int .u8 0), (.int .u8 0), (.int .u8 0), (.int .u8 0), (.int .u8 0), (.int .u8 0), (.int .u8 0), (.int .u8 0), (.int .u8 0), (.int .u8 0), (.int .u8 0), (.int .u8 0), (.int .u8 0), (.int .u8 0), (.int .u8 0), (.int .u8 0), (.int .u8 0), (.int .u8 0), (.int .u8 0), (.int .u8 0), (.int .u8 0), (.int .u8 0), (.int .u8 0), (.int .u8 0), (.int .u8 0), (.int .u8 0), (.int .u8 0), (.int .u8 0), (.int .u8 0), (.int .u8 0), (.int .u8 0), (.int .u8 0), (.int .u8 0), (.int .u8 0), (.int .u8 0), (.int .u8 0), (.int .u8 0), (.int .u8 0), (.int .u8 0), (.int .u8 0), (.int .u8 0), (.int .u8 0), (.int .u8 0), (.int .u8 0), (.int .u8 0), (.int .u8 0), (.int .u8 0), (.int .u8 0), (.int .u8 0), (.int .u8 0), (.int .u8 0), (.int .u8 0), (.int .u8 0), (.int .u8 0), (.int .u8 0), (.int .u8 0), (.int .u8 0), (.int .u8 0), (.int .u8 0), (.int .u8 0), (.int .u8 0), (.int .u8 0), (.int .u8 0), (.int .u8 0), (.int .u8 0), (.int .u8 0), (.int .u8 0), (.int .u8 0), (.int .u8 0), (.int .u8 0), (.int .u8 0), (.int .u8 0), (.int .u8 0), (.int .u8 0), (.int .u8 0), (.int .u8 0), (.int .u8 0), (.int .u8 0), (.int .u8 0), (.int .u8 0), (.int .u8 0), (.int .u8 0), (.int .u8 0), (.int .u8 0), (.int .u8 0), (.int .u8 0), (.int .u8 0), (.int .u8 0), (.int .u8 0), (.int .u8 0), (.int .u8 0), (.int .u8 0), (.int .u8 0), (.int .u8 0), (.int .u8 0), (.int .u8 0), (.int .u8 0), (.int .u8 0), (.int .u8 0), (.int .u8 0), (.int .u8 0), (.int .u8 0), (.int .u8 0), (.int .u8 0), (.int .u8 0), (.int .u8 0), (.int .u8 0), (.int .u8 0), (.int .u8 0), (.int .u8 0), (.int .u8 0), (.int .u8 0), (.int .u8 0), (.int .u8 0), (.int .u8 0), (.int .u8 0), (.int .u8 0), (.int .u8 0), (.int .u8 0), (.int .u8 0), (.int .u8 0), (.int .u8 0), (.int .u8 0), (.int .u8 0), (.int .u8 0), (.int .u8 0), (.int .u8 0), (.int .u8 0), (.int .u8 0), (.int .u8 0), (.int .u8 0), (.int .u8 0), (.int .u8 0), (.int .u8 0), (.int .u8 0), (.int .u8 0), (.int .u8 0), (.int .u8 0), (.int .u8 0), (.int .u8 0), (.int .u8 0), (.int .u8 0), (.int .u8 0), (.int .u8 0), (.int .u8 0), (.int .u8 0), (.int .u8 0), (.int .u8 0), (.int .u8 0), (.int .u8 0), (.int .u8 0), (.int .u8 0), (.int .u8 0), (.int .u8 0), (.int .u8 0), (.int .u8 0), (.int .u8 0), (.int .u8 0), (.int .u8 0), (.int .u8 0), (.int .u8 0), (.int .u8 0), (.int .u8 0), (.int .u8 0), (.int .u8 0), (.int .u8 0), (.int .u8 0), (.int .u8 0), (.int .u8 0), (.int .u8 0), (.int .u8 0), (.int .u8 0), (.int .u8 0), (.int .u8 0), (.int .u8 0), (.int .u8 0), (.int .u8 0), (.int .u8 0), (.int .u8 0), (.int .u8 0), (.int .u8 0), (.int .u8 0), (.int .u8 0), (.int .u8 0), (.int .u8 0), (.int .u8 0), (.int .u8 0), (.int .u8 0), (.int .u8 0), (.int .u8 0), (.int .u8 0), (.int .u8 0), (.int .u8 0), (.int .u8 0), (.int .u8 0), (.int .u8 0), (.int .u8 0), (.int .u8 0), (.int .u8 0), (.int .u8 0), (.int .u8 0), (.int .u8 0), (.int .u8 0), (.int .u8 0), (.int .u8 0), (.int .u8 0), (.int .u8 0), (.int .u8 0), (.int .u8 0), (.int .u8 0), (.int .u8 0), (.int .u8 0), (.int .u8 0), (.int .u8 0), (.int .u8 0), (.int .u8 0), (.int .u8 0), (.int .u8 0), (.int .u8 0), (.int .u8 0), (.int .u8 0), (.int .u8 0), (.int .u8 0), (.int .u8 0), (.int .u8 0), (.int .u8 0), (.int .u8 0), (.int .u8 0), (.int .u8 0), (.int .u8 0), (.int .u8 0), (.int .u8 0), (.int .u8 0), (.int .u8 0), (.int .u8 0), (.int .u8 0), (.int .u8 0), (.int .u8 0), (.int .u8 0), (.int .u8 0), (.int .u8 0), (.int .u8 0), (.int .u8 0), (.int .u8 0), (.int .u8 0), (.int .u8 0), (.int .u8 0), (.int .u8 0), (.int .u8 0), (.int .u8 0), (.int .u8 0), (.int .u8 0), (.int .u8 0), (.int .u8 0), (.int .u8 0), (.int .u8 0), (.int .u8 0), (.int .u8 0), (.int .u8 0), (.int .u8 0), (.int .u8 0), (.int .u8 0), (.int .u8 0), (.int .u8 0), (.int .u8 0), (.int .u8 0), (.int .u8 0), (.int .u8 0), (.int .u8 0), (.int .u8 0), (.int .u8 0), (.int .u8 0), (.int .u8 0), (.int .u8 0), (.int .u8 0), (.int .u8 0), (.int .u8 0), (.int .u8 0), (.int .u8 0), (.int .u8 0), (.int .u8 0), (.int .u8 0), (.int .u8 0), (.int .u8 0), (.int .u8 0), (.int .u8 0), (.int .u8 0), (.int .u8 0), (.int .u8 0), (.int .u8 0), (.int .u8 0), (.int .u8 0), (.int .u8 0), (.int .u8 0), (.int .u8 0), (.int .u8 0), (.int .u8 0), (.int .u8 0), (.int .u8 0), (.int .u8 0), (.int .u8 0), (.int .u8 0), (.int .u8 0), (.int .u8 0), (.int .u8 0), (.int .u8 0), (.int .u8 0), (.int .u8 0), (.int .u8 0), (.int .u8 0), (.int .u8 0), (.int .u8 0), (.int .u8 0), (.int .u8 0), (.int .u8 0), (.int .u8 0), (.int .u8 0), (.int .u8 0), (.int .u8 0), (.int .u8 0), (.int .u8 0), (.int .u8 0), (.int .u8 0), (.int .u8 0), (.int .u8 0), (.int .u8 0), (.int .u8 0), (.int .u8 0), (.int .u8 0), (.int .u8 0), (.int .u8 0), (.int .u8 0), (.int .u8 0), (.int .u8 0), (.int .u8 0), (.int .u8 0), (.int .u8 0), (.int .u8 0), (.int .u8 0), (.int .u8 0), (.int .u8 0), (.int .u8 0), (.int .u8 0), (.int .u8 0), (.int .u8 0), (.int .u8 0), (.int .u8 0), (.int .u8 0), (.int .u8 0), (.int .u8 0), (.int .u8 0), (.int .u8 0), (.int .u8 0), (.int .u8 0), (.int .u8 0), (.int .u8 0), (.int .u8 0), (.int .u8 0), (.int .u8 0), (.int .u8 0), (.int .u8 0), (.int .u8 0), (.int .u8 0), (.int .u8 0)]), sh := zwe 800 }
def ty165 : Ty := { und := (.struct #[{ name := "d", type := 163, offset := 0, embedded := false, tag := "", pkgPath := "internal/strconv", byteOffset := 0 }, { name := "nd", type := 3, offset := 800, embedded := false, tag := "", pkgPath := "internal/strconv", byteOffset := 800 }, { name := "dp", type := 3, offset := 801, embedded := false, tag := "", pkgPath := "internal/strconv", byteOffset := 808 }, { name := "neg", type := 4, offset := 802, embedded := false, tag := "", pkgPath := "internal/strconv", byteOffset := 816 }, { name := "trunc", type := 4, offset := 803, embedded := false, tag := "", pkgPath := "internal/strconv", byteOffset := 817 }]), size := 804, bytes := 824, zero := (.agg #[(.int .u8 0), (.int .u8 0), (.int .u8 0), (.int .u8 0), (.int .u8 0), (.int .u8 0), (.int .u8 0), (.int .u8 0), (.int .u8 0), (.int .u8 0), (.int .u8 0), (.int .u8 0), (.int .u8 0), (.int .u8 0), (.int .u8 0), (.int .u8 0), (.int .u8 0), (.int .u8 0), (.int .u8 0), (.int .u8 0), (.int .u8 0), (.int .u8 0), (.int .u8 0), (.int .u8 0), (.int .u8 0), (.int .u8 0), (.int .u8 0), (.int .u8 0), (.int .u8 0), (.int .u8 0), (.int .u8 0), (.int .u8 0), (.int .u8 0), (.int .u8 0), (.int .u8 0), (.int .u8 0), (.int .u8 0), (.int .u8 0), (.int .u8 0), (.int .u8 0), (.int .u8 0), (.int .u8 0), (.int .u8 0), (.int .u8 0), (.int .u8 0), (.int .u8 0), (.int .u8 0), (.int .u8 0), (.int .u8 0), (.int .u8 0), (.int .u8 0), (.int .u8 0), (.int .u8 0), (.int .u8 0), (.int .u8 0), (.int .u8 0), (.int .u8 0), (.int .u8 0), (.int .u8 0), (.int .u8 0), (.int .u8 0), (.int .u8 0), (.int .u8 0), (.int .u8 0), (.int .u8 0), (.int .u8 0), (.int .u8 0), (.int .u8 0), (.int .u8 0), (.int .u8 0), (.int .u8 0), (.int .u8 0), (.int .u8 0), (.int .u8 0), (.int .u8 0), (.int .u8 0), (.int .u8 0), (.int .u8 0), (.int .u8 0), (.int .u8 0), (.int .u8 0), (.int .u8 0), (.int .u8 0), (.int .u8 0), (.int .u8 0), (.int .u8 0), (.int .u8 0), (.int .u8 0), (.int .u8 0), (.int .u8 0), (.int .u8 0), (.int .u8 0), (.int .u8 0), (.int .u8 0), (.int .u8 0), (.int .u8 0), (.int .u8 0), (.int .u8 0), (.int .u8 0), (.int .u8 0), (.int .u8 0), (.int .u8 0), (.int .u8 0), (.int .u8 0), (.int .u8 0), (.int .u8 0), (.int .u8 0), (.int .u8 0), (.int .u8 0), (.int .u8 0), (.int .u8 0), (.int .u8 0), (.int .u8 0), (.int .u8 0), (.int .u8 0), (.int .u8 0), (.int .u8 0), (.int .u8 0), (.int .u8 0), (.int .u8 0), (.int .u8 0), (.int .u8 0), (.int .u8 0), (.int .u8 0), (.int .u8 0), (.int .u8 0), (.int .u8 0), (.int .u8 0), (.int .u8 0), (.int .u8 0), (.int .u8 0), (.int .u8 0), (.int .u8 0), (.int .u8 0), (.int .u8 0), (.int .u8 0), (.int .u8 0), (.int .u8 0), (.int .u8 0), (.int .u8 0), (.int .u8 0), (.int .u8 0), (.int .u8 0), (.int .u8 0), (.int .u8 0), (.int .u8 0), (.int .u8 0), (.int .u8 0), (.int .u8 0), (.int .u8 0), (.int .u8 0), (.int .u8 0), (.int .u8 0), (.int .u8 0), (.int .u8 0), (.int .u8 0), (.int .u8 0), (.int .u8 0), (.int .u8 0), (.int .u8 0), (.int .u8 0), (.int .u8 0), (.int .u8 0), (.int .u8 0), (.int .u8 0), (.int .u8 0), (.int .u8 0), (.int .u8 0), (.int .u8 0), (.int .u8 0), (.int .u8 0), (.int .u8 0), (.int .u8 0), (.int .u8 0), (.int .u8 0), (.int .u8 0), (.int .u8 0), (.int .u8 0), (.int .u8 0), (.int .u8 0), (.int .u8 0), (.int .u8 0), (.int .u8 0), (.int .u8 0), (.int .u8 0), (.int .u8 0), (.int .u8 0), (.int .u8 0), (.int .u8 0), (.int .u8 0), (.int .u8 0), (.int .u8 0), (.int .u8 0), (.int .u8 0), (.int .u8 0), (.int .u8 0), (.int .u8 0), (.int .u8 0), (.int .u8 0), (.int .u8 0), (.int .u8 0), (.int .u8 0), (.int .u8 0), (.int .u8 0), (.int .u8 0), (.int .u8 0), (.int .u8 0), (.int .u8 0), (.int .u8 0), (.int .u8 0), (.int .u8 0), (.int .u8 0), (.int .u8 0), (.int .u8 0), (.int .u8 0), (.int .u8 0), (.int .u8 0), (.int .u8 0), (.int .u8 0), (.int .u8 0), (.int .u8 0), (.int .u8 0), (.int .u8 0), (.int .u8 0), (.int .u8 0), (.int .u8 0), (.int .u8 0), (.int .u8 0), (.int .u8 0), (.int .u8 0), (.int .u8 0), (.int .u8 0), (.int .u8 0), (.int .u8 0), (.int .u8 0), (.int .u8 0), (.int .u8 0), (.int .u8 0), (.int .u8 0), (.int .u8 0), (.int .u8 0), (.int .u8 0), (.int .u8 0), (.int .u8 0), (.int .u8 0), (.int .u8 0), (.int .u8 0), (.int .u8 0), (.int .u8 0), (.int .u8 0), (.int .u8 0), (.int .u8 0), (.int .u8 0), (.int .u8 0), (.int .u8 0), (.int .u8 0), (.int .u8 0), (.int .u8 0), (.int .u8 0), (.int .u8 0), (.int .u8 0), (.int .u8 0), (.int .u8 0), (.int .u8 0), (.int .u8 0), (.int .u8 0), (.int .u8 0), (.int .u8 0), (.int .u8 0), (.int .u8 0), (.int .u8 0), (.int .u8 0), (.int .u8 0), (.int .u8 0), (.int .u8 0), (.int .u8 0), (.int .u8 0), (.int .u8 0), (.int .u8 0), (.int .u8 0), (.int .u8 0), (.int .u8 0), (.int .u8 0), (.int .u8 0), (.int .u8 0), (.int .u8 0), (.int .u8 0), (.int .u8 0), (.int .u8 0), (.int .u8 0), (.int .u8 0), (.int .u8 0), (.int .u8 0), (.int .u8 0), (.int .u8 0), (.int .u8 0), (.int .u8 0), (.int .u8 0), (.int .u8 0), (.int .u8 0), (.int .u8 0), (.int .u8 0), (.int .u8 0), (.int .u8 0), (.int .u8 0), (.int .u8 0), (.int .u8 0), (.int .u8 0), (.int .u8 0), (.int .u8 0), (.int .u8 0), (.int .u8 0), (.int .u8 0), (.int .u8 0), (.int .u8 0), (.int .u8 0), (.int .u8 0), (.int .u8 0), (.int .u8 0), (.int .u8 0), (.int .u8 0), (.int .u8 0), (.int .u8 0), (.int .u8 0), (.int .u8 0), (.int .u8 0), (.int .u8 0), (.int .u8 0), (.int .u8 0), (.int .u8 0), (.int .u8 0), (.int .u8 0), (.int .u8 0), (.int .u8 0), (.int .u8 0), (.int .u8 0), (.int .u8 0), (.int .u8 0), (.int .u8 0), (.int .u8 0), (.int .u8 0), (.int .u8 0), (.int .u8 0), (.int .u8 0), (.int .u8 0), (.int .u8 0), (.int .u8 0), (.int .u8 0), (.int .u8 0), (.int .u8 0), (.int .u8 0), (.int .u8 0), (.int .u8 0), (.int .u8 0), (.int .u8 0), (.int .u8 0), (.int .u8 0), (.int .u8 0), (.int .u8 0), (.int .u8 0), (.int .u8 0), (.int .u8 0), (.int .u8 0), (.int .u8 0), (.int .u8 0), (.int .u8 0), (.int .u8 0), (.int .u8 0), (.int .u8 0), (.int .u8 0), (.int .u8 0), (.int .u8 0), (.int .u8 0), (.int .u8 0), (.int .u8 0), (.int .u8 0), (.int .u8 0), (.int .u8 0), (.int .u8 0), (.int .u8 0), (.int .u8 0), (.int .u8 0), (.int .u8 0), (.int .u8 0), (.int .u8 0), (.int .u8 0), (.int .u8 0), (.int .u8 0), (.int .u8 0), (.int .u8 0), (.int .u8 0), (.int .u8 0), (.int .u8 0), (.int .u8 0), (.int .u8 0), (.int .u8 0), (.int .u8 0), (.int .u8 0), (.int .u8 0), (.int .u8 0), (.int .u8 0), (.int .u8 0), (.int .u8 0), (.int .u8 0), (.int .u8 0), (.int .u8 0), (.int .u8 0), (.int .u8 0), (.int .u8 0), (.int .u8 0), (.int .u8 0), (.int .u8 0), (.int .u8 0), (.int .u8 0), (.int .u8 0), (.int .u8 0), (.int .u8 0), (.int .u8 0), (.int .u8 0), (.int .u8 0), (.int .u8 0), (.int .u8 0), (.int .u8 0), (.int .u8 0), (.int .u8 0), (.int .u8 0), (.int .u8 0), (.int .u8 0), (.int .u8 0), (.int .u8 0), (.int .u8 0), (.int .u8 0), (.int .u8 0), (.int .u8 0), (.int .u8 0), (.int .u8 0), (.int .u8 0), (.int .u8 0), (.int .u8 0), (.int .u8 0), (.int .u8 0), (.int .u8 0), (.int .u8 0), (.int .u8 0), (.int .u8 0), (.int .u8 0), (.int .u8 0), (.int .u8 0), (.int .u8 0), (.int .u8 0), (.int .u8 0), (.int .u8 0), (.int .u8 0), (.int .u8 0), (.int .u8 0), (.int .u8 0), (.int .u8 0), (.int .u8 0), (.int .u8 0), (.int .u8 0), (.int .u8 0), (.int .u8 0), (.int .u8 0), (.int .u8 0), (.int .u8 0), (.int .u8 0), (.int .u8 0), (.int .u8 0), (.int .u8 0), (.int .u8 0), (.int .u8 0), (.int .u8 0), (.int .u8 0), (.int .u8 0), (.int .u8 0), (.int .u8 0), (.int .u8 0), (.int .u8 0), (.int .u8 0), (.int .u8 0), (.int .u8 0), (.int .u8 0), (.int .u8 0), (.int .u8 0), (.int .u8 0), (.int .u8 0), (.int .u8 0), (.int .u8 0), (.int .u8 0), (.int .u8 0), (.int .u8 0), (.int .u8 0), (.int .u8 0), (.int .u8 0), (.int .u8 0), (.int .u8 0), (.int .u8 0), (.int .u8 0), (.int .u8 0), (.int .u8 0), (.int .u8 0), (.int .u8 0), (.int .u8 0), (.int .u8 0), (.int .u8 0), (.int .u8 0), (.int .u8 0), (.int .u8 0), (.int .u8 0), (.int .u8 0), (.int .u8 0), (.int .u8 0), (.int .u8 0), (.int .u8 0), (.int .u8 0), (.int .u8 0), (.int .u8 0), (.int .u8 0), (.int .u8 0), (.int .u8 0), (.int .u8 0), (.int .u8 0), (.int .u8 0), (.int .u8 0), (.int .u8 0), (.int .u8 0), (.int .u8 0), (.int .u8 0), (.int .u8 0), (.int .u8 0), (.int .u8 0), (.int .u8 0), (.int .u8 0), (.int .u8 0), (.int .u8 0), (.int .u8 0), (.int .u8 0), (.int .u8 0), (.int .u8 0), (.int .u8 0), (.int .u8 0), (.int .u8 0), (.int .u8 0), (.int .u8 0), (.int .u8 0), (.int .u8 0), (.int .u8 0), (.int .u8 0), (.int .u8 0), (.int .u8 0), (.int .u8 0), (.int .u8 0), (.int .u8 0), (.int .u8 0), (.int .u8 0), (.int .u8 0), (.int .u8 0), (.int .u8 0), (.int .u8 0), (.int .u8 0), (.int .u8 0), (.int .u8 0), (.int .u8 0), (.int .u8 0), (.int .u8 0), (.int .u8 0), (.int .u8 0), (.int .u8 0), (.int .u8 0), (.int .u8 0), (.int .u8 0), (.int .u8 0), (.int .u8 0), (.int .u8 0), (.int .u8 0), (.int .u8 0), (.int .u8 0), (.int .u8 0), (.int .u8 0), (.int .u8 0), (.int .u8 0), (.int .u8 0), (.int .u8 0), (.int .u8 0), (.int .u8 0), (.int .u8 0), (.int .u8 0), (.int .u8 0), (.int .u8 0), (.int .u8 0), (.int .u8 0), (.int .u8 0), (.int .u8 0), (.int .u8 0), (.int .u8 0), (.int .u8 0), (.int .u8 0), (.int .u8 0), (.int .u8 0), (.int .u8 0), (.int .u8 0), (.int .u8 0), (.int .u8 0), (.int .u8 0), (.int .u8 0), (.int .u8 0), (.int .u8 0), (.int .u8 0), (.int .u8 0), (.int .u8 0), (.int .u8 0), (.int .u8 0), (.int .u8 0), (.int .u8 0), (.int .u8 0), (.int .u8 0), (.int .u8 0), (.int .u8 0), (.int .u8 0), (.int .u8 0), (.int .u8 0), (.int .u8 0), (.int .u8 0), (.int .u8 0), (.int .u8 0), (.int .u8 0), (.int .u8 0), (.int .u8 0), (.int .u8 0), (.int .u8 0), (.int .u8 0), (.int .u8 0), (.int .u8 0), (.int .u8 0), (.int .u8 0), (.int .u8 0), (.int .u8 0), (.int .u8 0), (.int .u8 0), (.int .u8 0), (.int .u8 0), (.int .u8 0), (.int .u8 0), (.int .u8 0), (.int .u8 0), (.int .u8 0), (.int .u8 0), (.int .u8 0), (.int .u8 0), (.int .u8 0), (.int .u8 0), (.int .u8 0), (.int .u8 0), (.int .u8 0), (.int .u8 0), (.int .u8 0), (.int .u8 0), (.int .u8 0), (.int .u8 0), (.int .u8 0), (.int .u8 0), (.int .u8 0), (.int .u8 0), (.int .u8 0), (.int .u8 0), (.int .u8 0), (.int .u8 0), (.int .u8 0), (.int .u8 0), (.int .u8 0), (.int .u8 0), (.int .u8 0), (.int .u8 0), (.int .u8 0), (.int .u8 0), (.int .u8 0), (.int .u8 0), (.int .u8 0), (.int .u8 0), (.int .u8 0), (.int .u8 0), (.int .u8 0), (.int .u8 0), (.int .u8 0), (.int .u8 0), (.int .u8 0), (.int .u8 0), (.int .u8 0), (.int .u8 0), (.int .u8 0), (.int .u8 0), (.int .u8 0), (.int .u8 0), (.int .u8 0), (.int .u8 0), (.int .u8 0), (.int .u8 0), (.int .u8 0), (.int .u8 0), (.int .u8 0), (.int .u8 0), (.int .u8 0), (.int .u8 0), (.int .u8 0), (.int .u8 0), (.int .u8 0), (.int .u8 0), (.int .u8 0), (.int .u8 0), (.int .u8 0), (.int .u8 0), (.int .u8 0), (.int .u8 0), (.int .u8 0), (.int .u8 0), (.int .u8 0), (.int .u8 0), (.int .u8 0), (.int .u8 0), (.int .u8 0), (.int .u8 0), (.int .u8 0), (.int .u8 0), (.int .u8 0), (.int .u8 0), (.int .u8 0), (.int .u8 0), (.int .u8 0), (.int .u8 0), (.int .u8 0), (.int .u8 0), (.int .u8 0), (.int .u8 0), (.int .u8 0), (.int .u8 0), (.int .u8 0), (.int .u8 0), (.int .u8 0), (.int .u8 0), (.int .u8 0), (.int .u8 0), (.int .u8 0), (.int .u8 0), (.int .u8 0), (.int .u8 0), (.int .u8 0), (.int .u8 0), (.int .u8 0), (.int .u8 0), (.int .u8 0), (.int .u8 0), (.int .u8 0), (.int .u8 0), (.int .u8 0), (.int .u8 0), (.int .u8 0), (.int .u8 0), (.int .u8 0), (.int .u8 0), (.int .u8 0), (.int .u8 0), (.int .u8 0), (.int .u8 0), (.int .u8 0), (.int .u8 0), (.int .u8 0), (.int .u8 0), (.int .u8 0), (.int .u8 0), (.int .u8 0), (.int .u8 0), (.int .u8 0), (.int .u8 0), (.int .u8 0), (.int .u8 0), (.int .u8 0), (.int .u8 0), (.int .u8 0), (.int .u8 0), (.int .u8 0), (.int .u8 0), (.int .u8 0), (.int .u8 0), (.int .u8 0), (.int .u8 0), (.int .u8 0), (.int .u8 0), (.int .u8 0), (.int .u8 0), (.int .u8 0), (.int .u8 0), (.int .u8 0), (.int .u8 0), (.int .u8 0), (.int .u8 0), (.int .u8 0), (.int .u8 0), (.int .u8 0), (.int .u8 0), (.int .u8 0), (.int .i64 0), (.int .i64 0), (.bool false), (.bool false)]), sh := zwe 804 }
def ty169 : Ty := { und := (.struct #[fldT "Func" 9 0 0, fldT "Num" 9 1 16, fldT "Err" 56 2 32]), size := 3, bytes := 48, zero := (.agg #[(.string ByteArray.empty), (.string ByteArray.empty), .nilIface]), sh := zuu }
def ty172 : Ty := { und := (.slice 148), size := 1, bytes := 24, zero := (.slice none 0 0), sh := shSl }
def ty178 : Ty := { und := (.tuple #[120, 3, 56]), size := 1, bytes := 0, zero := (.tuple #[(.float .f32 0), (.int .i64 0), .nilIface]), sh := zud (shFlt .f32) (shInt .i64) zaj }
def ty182 : Ty := { und := (.array 20 51), size := 20, bytes := 160, zero := (.agg #[(.int .u64 0), (.int .u64 0), (.int .u64 0), (.int .u64 0), (.int .u64 0), (.int .u64 0), (.int .u64 0), (.int .u64 0), (.int .u64 0), (.int .u64 0), (.int .u64 0), (.int .u64 0), (.int .u64 0), (.int .u64 0), (.int .u64 0), (.int .u64 0), (.int .u64 0), (.int .u64 0), (.int .u64 0), (.int .u64 0)]), sh := zct1 }
def ty183 : Ty := { und := (.array 65 5), size := 65, bytes := 65, zero := (.agg #[(.int .u8 0), (.int .u8 0), (.int .u8 0), (.int .u8 0), (.int .u8 0), (.int .u8 0), (.int .u8 0), (.int .u8 0), (.int .u8 0), (.int .u8 0), (.int .u8 0), (.int .u8 0), (.int .u8 0), (.int .u8 0), (.int .u8 0), (.int .u8 0), (.int .u8 0), (.int .u8 0), (.int .u8 0), (.int .u8 0), (.int .u8 0), (.int .u8 0), (.int .u8 0), (.int .u8 0), (.int .u8 0), (.int .u8 0), (.int .u8 0), (.int .u8 0), (.int .u8 0), (.int .u8 0), (.int .u8 0), (.int .u8 0), (.int .u8 0), (.int .u8 0), (.int .u8 0), (.int .u8 0), (.int .u8 0), (.int .u8 0), (.int .u8 0), (.int .u8 0), (.int .u8 0), (.int .u8 0), (.int .u8 0), (.int .u8 0), (.int .u8 0), (.int .u8 0), (.int .u8 0), (.int .u8 0), (.int .u8 0), (.int .u8 0), (.int .u8 0), (.int .u8 0), (.int .u8 0), (.int .u8 0), (.int .u8 0), (.int .u8 0), (.int .u8 0), (.int .u8 0), (.int .u8 0), (.int .u8 0), (.int .u8 0), (.int .u8 0), (.int .u8 0), (.int .u8 0), (.int .u8 0)]), sh := zwe 65 }
def ty191 : Ty := { und := (.struct #[{ name := "pmHi", type := 51, offset := 0, embedded := false, tag := "", pkgPath := "internal/strconv", byteOffset := 0 }, { name := "pmLo", type := 51, offset := 1, embedded := false, tag := "", pkgPath := "internal/strconv", byteOffset := 8 }, { name := "s", type := 3, offset := 2, embedded := false, tag := "", pkgPath := "internal/strconv", byteOffset := 16 }]), size := 3, bytes := 24, zero := (.agg #[(.int .u64 0), (.int .u64 0), (.int .i64 0)]), sh := zpd }
def ty193 : Ty := { und := (.pointer 191), size := 1, bytes := 8, zero := (.pointer none), sh := shPtr }
def ty194 : Ty := { und := (.int .u64), size := 1, bytes := 8, zero := (.int .u64 0), sh := shInt .u64 }
def ty202 : Ty := { und := (.pointer 204), size := 1, bytes := 8, zero := (.pointer none), sh := shPtr }
def ty204 : Ty := { und := (.struct #[{ name := "s", type := 9, offset := 0, embedded := false, tag := "", pkgPath := "errors", byteOffset := 0 }]), size := 1, bytes := 16, zero := (.agg #[(.string ByteArray.empty)]), sh := zth }
def ty206 : Ty := { und := (.tuple #[48, 3, 4]), size := 1, bytes := 0, zero := (.tuple #[(.float .f64 0), (.int .i64 0), (.bool false)]), sh := zud (shFlt .f64) (shInt .i64) zag }
def ty208 : Ty := { und := (.tuple #[51, 3, 4, 4, 4, 3, 4]), size := 1, bytes := 0, zero := (.tuple #[(.int .u64 0), (.int .i64 0), (.bool false), (.bool false), (.bool false), (.int .i64 0), (.bool false)]), sh := zmx1 (shInt .u64) (shInt .i64) zag zag zag (shInt .i64) zag }
def ty211 : Ty := { und := (.pointer 213), size := 1, bytes := 8, zero := (.pointer none), sh := shPtr }
def ty213 : Ty := { und := (.struct #[{ name := "mantbits", type := 67, offset := 0, embedded := false, tag := "", pkgPath := "internal/strconv", byteOffset := 0 }, { name := "expbits", type := 67, offset := 1, embedded := false, tag := "", pkgPath := "internal/strconv", byteOffset := 8 }, { name := "bias", type := 3, offset := 2, embedded := false, tag := "", pkgPath := "internal/strconv", byteOffset := 16 }]), size := 3, bytes := 24, zero := (.agg #[(.int .u64 0), (.int .u64 0), (.int .i64 0)]), sh := zmr }
def ty216 : Ty := { und := (.tuple #[120, 4]), size := 1, bytes := 0, zero := (.tuple #[(.float .f32 0), (.bool false)]), sh := zii (shFlt .f32) zag }
def ty218 : Ty := { und := (.tuple #[120, 56]), size := 1, bytes := 0, zero := (.tuple #[(.float .f32 0), .nilIface]), sh := zii (shFlt .f32) zaj }
def ty220 : Ty := { und := (.tuple #[51, 4]), size := 1, bytes := 0, zero := (.tuple #[(.int .u64 0), (.bool false)]), sh := zii (shInt .u64) zag }
def ty223 : Ty := { und := (.tuple #[48, 4]), size := 1, bytes := 0, zero := (.tuple #[(.float .f64 0), (.bool false)]), sh := zii (shFlt .f64) zag }
def ty228 : Ty := { und := (.struct #[{ name := "hi", type := 51, offset := 0, embedded := false, tag := "", pkgPath := "internal/strconv", byteOffset := 0 }, { name := "lo", type := 51, offset := 1, embedded := false, tag := "", pkgPath := "internal/strconv", byteOffset := 8 }]), size := 2, bytes := 16, zero := (.agg #[(.int .u64 0), (.int .u64 0)]), sh := zpe }
def ty229 : Ty := { und := (.array 696 228), size := 1392, bytes := 11136, zero := (.agg #[(.int .u64 0), (.int .u64 0), (.int .u64 0), (.int .u64 0), (.int .u64 0), (.int .u64 0), (.int .u64 0), (.int .u64 0), (.int .u64 0), (.int .u64 0), (.int .u64 0), (.int .u64 0), (.int .u64 0), (.int .u64 0), (.int .u64 0), (.int .u64 0), (.int .u64 0), (.int .u64 0), (.int .u64 0), (.int .u64 0), (.int .u64 0), (.int .u64 0), (.int .u64 0), (.int .u64 0), (.int .u64 0), (.int .u64 0), (.int .u64 0), (.int .u64 0), (.int .u64 0), (.int .u64 0), (.int .u64 0), (.int .u64 0), (.int .u64 0), (.int .u64 0), (.int .u64 0), (.int .u64 0), (.int .u64 0), (.int .u64 0), (.int .u64 0), (.int .u64 0), (.int .u64 0), (.int .u64 0), (.int .u64 0), (.int .u64 0), (.int .u64 0), (.int .u64 0), (.int .u64 0), (.int .u64 0), (.int .u64 0), (.int .u64 0), (.int .u64 0), (.int .u64 0), (.int .u64 0), (.int .u64 0), (.int .u64 0), (.int .u64 0), (.int .u64 0), (.int .u64 0), (.int .u64 0), (.int .u64 0), (.int .u64 0), (.int .u64 0), (.int .u64 0), (.int .u64 0), (.int .u64 0), (.int .u64 0), (.int .u64 0), (.int .u64 0), (.int .u64 0), (.int .u64 0), (.int .u64 0), (.int .u64 0), (.int .u64 0), (.int .u64 0), (.int .u64 0), (.int .u64 0), (.int .u64 0), (.int .u64 0), (.int .u64 0), (.int .u64 0), (.int .u64 0), (.int .u64 0), (.int .u64 0), (.int .u64 0), (.int .u64 0), (.int .u64 0), (.int .u64 0), (.int .u64 0), (.int .u64 0), (.int .u64 0), (.int .u64 0), (.int .u64 0), (.int .u64 0), (.int .u64 0), (.int .u64 0), (.int .u64 0), (.int .u64 0), (.int .u64 0), (.int .u64 0), (.int .u64 0), (.int .u64 0), (.int .u64 0), (.int .u64 0), (.int .u64 0), (.int .u64 0), (.int .u64 0), (.int .u64 0), (.int .u64 0), (.int .u64 0), (.int .u64 0), (.int .u64 0), (.int .u64 0), (.int .u64 0), (.int .u64 0), (.int .u64 0), (.int .u64 0), (.int .u64 0), (.int .u64 0), (.int .u64 0), (.int .u64 0), (.int .u64 0), (.int .u64 0), (.int .u64 0), (.int .u64 0), (.int .u64 0), (.int .u64 0), (.int .u64 0), (.int .u64 0), (.int .u64 0), (.int .u64 0), (.int .u64 0), (.int .u64 0), (.int .u64 0), (.int .u64 0), (.int .u64 0), (.int .u64 0), (.int .u64 0), (.int .u64 0), (.int .u64 0), (.int .u64 0), (.int .u64 0), (.int .u64 0), (.int .u64 0), (.int .u64 0), (.int .u64 0), (.int .u64 0), (.int .u64 0), (.int .u64 0), (.int .u64 0), (.int .u64 0), (.int .u64 0), (.int .u64 0), (.int .u64 0), (.int .u64 0), (.int .u64 0), (.int .u64 0), (.int .u64 0), (.int .u64 0), (.int .u64 0), (.int .u64 0), (.int .u64 0), (.int .u64 0), (.int .u64 0), (.int .u64 0), (.int .u64 0), (.int .u64 0), (.int .u64 0), (.int .u64 0), (.int .u64 0), (.int .u64 0), (.int .u64 0), (.int .u64 0), (.int .u64 0), (.int .u64 0), (.int .u64 0), (.int .u64 0), (.int .u64 0), (.int .u64 0), (.int .u64 0), (.int .u64 0), (.int .u64 0), (.int .u64 0), (.int .u64 0), (.int .u64 0), (.int .u64 0), (.int .u64 0), (.int .u64 0), (.int .u64 0), (.int .u64 0), (.int .u64 0), (.int .u64 0), (.int .u64 0), (.int .u64 0), (.int .u64 0), (.int .u64 0), (.int .u64 0), (.int .u64 0), (.int .u64 0), (.int .u64 0), (.int .u64 0), (.int .u64 0), (.int .u64 0), (.int .u64 0), (.int .u64 0), (.int .u64 0), (.int .u64 0), (.int .u64 0), (.int .u64 0), (.int .u64 0), (.int .u64 0), (.int .u64 0), (.int .u64 0), (.int .u64 0), (.int .u64 0), (.int .u64 0), (.int .u64 0), (.int .u64 0), (.int .u64 0), (.int .u64 0), (.int .u64 0), (.int .u64 0), (.int .u64 0), (.int .u64 0), (.int .u64 0), (.int .u64 0), (.int .u64 0), (.int .u64 0), (.int .u64 0), (.int .u64 0), (.int .u64 0), (.int .u64 0), (.int .u64 0), (.int .u64 0), (.int .u64 0), (.int .u64 0), (.int .u64 0), (.int .u64 0), (.int .u64 0), (.int .u64 0), (.int .u64 0), (.int .u64 0), (.int .u64 0), (.int .u64 0), (.int .u64 0), (.int .u64 0), (.int .u64 0), (.int .u64 0), (.int .u64 0), (.int .u64 0), (.int .u64 0), (.int .u64 0), (.int .u64 0), (.int .u64 0), (.int .u64 0), (.int .u64 0), (.int .u64 0), (.int .u64 0), (.int .u64 0), (.int .u64 0), (.int .u64 0), (.int .u64 0), (.int .u64 0), (.int .u64 0), (.int .u64 0), (.int .u64 0), (.int .u64 0), (.int .u64 0), (.int .u64 0), (.int .u64 0), (.int .u64 0), (.int .u64 0), (.int .u64 0), (.int .u64 0), (.int .u64 0), (.int .u64 0), (.int .u64 0), (.int .u64 0), (.int .u64 0), (.int .u64 0), (.int .u64 0), (.int .u64 0), (.int .u64 0), (.int .u64 0), (.int .u64 0), (.int .u64 0), (.int .u64 0), (.int .u64 0), (.int .u64 0), (.int .u64 0), (.int .u64 0), (.int .u64 0), (.int .u64 0), (.int .u64 0), (.int .u64 0), (.int .u64 0), (.int .u64 0), (.int .u64 0), (.int .u64 0), (.int .u64 0), (.int .u64 0), (.int .u64 0), (.int .u64 0), (.int .u64 0), (.int .u64 0), (.int .u64 0), (.int .u64 0), (.int .u64 0), (.int .u64 0), (.int .u64 0), (.int .u64 0), (.int .u64 0), (.int .u64 0), (.int .u64 0), (.int .u64 0), (.int .u64 0), (.int .u64 0), (.int .u64 0), (.int .u64 0), (.int .u64 0), (.int .u64 0), (.int .u64 0), (.int .u64 0), (.int .u64 0), (.int .u64 0), (.int .u64 0), (.int .u64 0), (.int .u64 0), (.int .u64 0), (.int .u64 0), (.int .u64 0), (.int .u64 0), (.int .u64 0), (.int .u64 0), (.int .u64 0), (.int .u64 0), (.int .u64 0), (.int .u64 0), (.int .u64 0), (.int .u64 0), (.int .u64 0), (.int .u64 0), (.int .u64 0), (.int .u64 0), (.int .u64 0), (.int .u64 0), (.int .u64 0), (.int .u64 0), (.int .u64 0), (.int .u64 0), (.int .u64 0), (.int .u64 0), (.int .u64 0), (.int .u64 0), (.int .u64 0), (.int .u64 0), (.int .u64 0), (.int .u64 0), (.int .u64 0), (.int .u64 0), (.int .u64 0), (.int .u64 0), (.int .u64 0), (.int .u64 0), (.int .u64 0), (.int .u64 0), (.int .u64 0), (.int .u64 0), (.int .u64 0), (.int .u64 0), (.int .u64 0), (.int .u64 0), (.int .u64 0), (.int .u64 0), (.int .u64 0), (.int .u64 0), (.int .u64 0), (.int .u64 0), (.int .u64 0), (.int .u64 0), (.int .u64 0), (.int .u64 0), (.int .u64 0), (.int .u64 0), (.int .u64 0), (.int .u64 0), (.int .u64 0), (.int .u64 0), (.int .u64 0), (.int .u64 0), (.int .u64 0), (.int .u64 0), (.int .u64 0), (.int .u64 0), (.int .u64 0), (.int .u64 0), (.int .u64 0), (.int .u64 0), (.int .u64 0), (.int .u64 0), (.int .u64 0), (.int .u64 0), (.int .u64 0), (.int .u64 0), (.int .u64 0), (.int .u64 0), (.int .u64 0), (.int .u64 0), (.int .u64 0), (.int .u64 0), (.int .u64 0), (.int .u64 0), (.int .u64 0), (.int .u64 0), (.int .u64 0), (.int .u64 0), (.int .u64 0), (.int .u64 0), (.int .u64 0), (.int .u64 0), (.int .u64 0), (.int .u64 0), (.int .u64 0), (.int .u64 0), (.int .u64 0), (.int .u64 0), (.int .u64 0), (.int .u64 0), (.int .u64 0), (.int .u64 0), (.int .u64 0), (.int .u64 0), (.int .u64 0), (.int .u64 0), (.int .u64 0), (.int .u64 0), (.int .u64 0), (.int .u64 0), (.int .u64 0), (.int .u64 0), (.int .u64 0), (.int .u64 0), (.int .u64 0), (.int .u64 0), (.int .u64 0), (.int .u64 0), (.int .u64 0), (.int .u64 0), (.int .u64 0), (.int .u64 0), (.int .u64 0), (.int .u64 0), (.int .u64 0), (.int .u64 0), (.int .u64 0), (.int .u64 0), (.int .u64 0), (.int .u64 0), (.int .u64 0), (.int .u64 0), (.int .u64 0), (.int .u64 0), (.int .u64 0), (.int .u64 0), (.int .u64 0), (.int .u64 0), (.int .u64 0), (.int .u64 0), (.int .u64 0), (.int .u64 0), (.int .u64 0), (.int .u64 0), (.int .u64 0), (.int .u64 0), (.int .u64 0), (.int .u64 0), (.int .u64 0), (.int .u64 0), (.int .u64 0), (.int .u64 0), (.int .u64 0), (.int .u64 0), (.int .u64 0), (.int .u64 0), (.int .u64 0), (.int .u64 0), (.int .u64 0), (.int .u64 0), (.int .u64 0), (.int .u64 0), (.int .u64 0), (.int .u64 0), (.int .u64 0), (.int .u64 0), (.int .u64 0), (.int .u64 0), (.int .u64 0), (.int .u64 0), (.int .u64 0), (.int .u64 0), (.int .u64 0), (.int .u64 0), (.int .u64 0), (.int .u64 0), (.int .u64 0), (.int .u64 0), (.int .u64 0), (.int .u64 0), (.int .u64 0), (.int .u64 0), (.int .u64 0), (.int .u64 0), (.int .u64 0), (.int .u64 0), (.int .u64 0), (.int .u64 0), (.int .u64 0), (.int .u64 0), (.int .u64 0), (.int .u64 0), (.int .u64 0), (.int .u64 0), (.int .u64 0), (.int .u64 0), (.int .u64 0), (.int .u64 0), (.int .u64 0), (.int .u64 0), (.int .u64 0), (.int .u64 0), (.int .u64 0), (.int .u64 0), (.int .u64 0), (.int .u64 0), (.int .u64 0), (.int .u64 0), (.int .u64 0), (.int .u64 0), (.int .u64 0), (.int .u64 0), (.int .u64 0), (.int .u64 0), (.int .u64 0), (.int .u64 0), (.int .u64 0), (.int .u64 0), (.int .u64 0), (.int .u64 0), (.int .u64 0), (.int .u64 0), (.int .u64 0), (.int .u64 0), (.int .u64 0), (.int .u64 0), (.int .u64 0), (.int .u64 0), (.int .u64 0), (.int .u64 0), (.int .u64 0), (.int .u64 0), (.int .u64 0), (.int .u64 0), (.int .u64 0), (.int .u64 0), (.int .u64 0), (.int .u64 0), (.int .u64 0), (.int .u64 0), (.int .u64 0), (.int .u64 0), (.int .u64 0), (.int .u64 0), (.int .u64 0), (.int .u64 0), (.int .u64 0), (.int .u64 0), (.int .u64 0), (.int .u64 0), (.int .u64 0), (.int .u64 0), (.int .u64 0), (.int .u64 0), (.int .u64 0), (.int .u64 0), (.int .u64 0), (.int .u64 0), (.int .u64 0), (.int .u64 0), (.int .u64 0), (.int .u64 0), (.int .u64 0), (.int .u64 0), (.int .u64 0), (.int .u64 0), (.int .u64 0), (.int .u64 0), (.int .u64 0), (.int .u64 0), (.int .u64 0), (.int .u64 0), (.int .u64 0), (.int .u64 0), (.int .u64 0), (.int .u64 0), (.int .u64 0), (.int .u64 0), (.int .u64 0), (.int .u64 0), (.int .u64 0), (.int .u64 0), (.int .u64 0), (.int .u64 0), (.int .u64 0), (.int .u64 0), (.int .u64 0), (.int .u64 0), (.int .u64 0), (.int .u64 0), (.int .u64 0), (.int .u64 0), (.int .u64 0), (.int .u64 0), (.int .u64 0), (.int .u64 0), (.int .u64 0), (.int .u64 0), (.int .u64 0), (.int .u64 0), (.int .u64 0), (.int .u64 0), (.int .u64 0), (.int .u64 0), (.int .u64 0), (.int .u64 0), (.int .u64 0), (.int .u64 0), (.int .u64 0), (.int .u64 0), (.int .u64 0), (.int .u64 0), (.int .u64 0), (.int .u64 0), (.int .u64 0), (.int .u64 0), (.int .u64 0), (.int .u64 0), (.int .u64 0), (.int .u64 0), (.int .u64 0), (.int .u64 0), (.int .u64 0), (.int .u64 0), (.int .u64 0), (.int .u64 0), (.int .u64 0), (.int .u64 0), (.int .u64 0), (.int .u64 0), (.int .u64 0), (.int .u64 0), (.int .u64 0), (.int .u64 0), (.int .u64 0), (.int .u64 0), (.int .u64 0), (.int .u64 0), (.int .u64 0), (.int .u64 0), (.int .u64 0), (.int .u64 0), (.int .u64 0), (.int .u64 0), (.int .u64 0), (.int .u64 0), (.int .u64 0), (.int .u64 0), (.int .u64 0), (.int .u64 0), (.int .u64 0), (.int .u64 0), (.int .u64 0), (.int .u64 0), (.int .u64 0), (.int .u64 0), (.int .u64 0), (.int .u64 0), (.int .u64 0), (.int .u64 0), (.int .u64 0), (.int .u64 0), (.int .u64 0), (.int .u64 0), (.int .u64 0), (.int .u64 0), (.int .u64 0), (.int .u64 0), (.int .u64 0), (.int .u64 0), (.int .u64 0), (.int .u64 0), (.int .u64 0), (.int .u64 0), (.int .u64 0), (.int .u64 0), (.int .u64 0), (.int .u64 0), (.int .u64 0), (.int .u64 0), (.int .u64 0), (.int .u64 0), (.int .u64 0), (.int .u64 0), (.int .u64 0), (.int .u64 0), (.int .u64 0), (.int .u64 0), (.int .u64 0), (.int .u64 0), (.int .u64 0), (.int .u64 0), (.int .u64 0), (.int .u64 0), (.int .u64 0), (.int .u64 0), (.int .u64 0), (.int .u64 0), (.int .u64 0), (.int .u64 0), (.int .u64 0), (.int .u64 0), (.int .u64 0), (.int .u64 0), (.int .u64 0), (.int .u64 0), (.int .u64 0), (.int .u64 0), (.int .u64 0), (.int .u64 0), (.int .u64 0), (.int .u64 0), (.int .u64 0), (.int .u64 0), (.int .u64 0), (.int .u64 0), (.int .u64 0), (.int .u64 0), (.int .u64 0), (.int .u64 0), (.int .u64 0), (.int .u64 0), (.int .u64 0), (.int .u64 0), (.int .u64 0), (.int .u64 0), (.int .u64 0), (.int .u64 0), (.int .u64 0), (.int .u64 0), (.int .u64 0), (.int .u64 0), (.int .u64 0), (.int .u64 0), (.int .u64 0), (.int .u64 0), (.int .u64 0), (.int .u64 0), (.int .u64 0), (.int .u64 0), (.int .u64 0), (.int .u64 0), (.int .u64 0), (.int .u64 0), (.int .u64 0), (.int .u64 0), (.int .u64 0), (.int .u64 0), (.int .u64 0), (.int .u64 0), (.int .u64 0), (.int .u64 0), (.int .u64 0), (.int .u64 0), (.int .u64 0), (.int .u64 0), (.int .u64 0), (.int .u64 0), (.int .u64 0), (.int .u64 0), (.int .u64 0), (.int .u64 0), (.int .u64 0), (.int .u64 0), (.int .u64 0), (.int .u64 0), (.int .u64 0), (.int .u64 0), (.int .u64 0), (.int .u64 0), (.int .u64 0), (.int .u64 0), (.int .u64 0), (.int .u64 0), (.int .u64 0), (.int .u64 0), (.int .u64 0), (.int .u64 0), (.int .u64 0), (.int .u64 0), (.int .u64 0), (.int .u64 0), (.int .u64 0), (.int .u64 0), (.int .u64 0), (.int .u64 0), (.int .u64 0), (.int .u64 0), (.int .u64 0), (.int .u64 0), (.int .u64 0), (.int .u64 0), (.int .u64 0), (.int .u64 0), (.int .u64 0), (.int .u64 0), (.int .u64 0), (.int .u64 0), (.int .u64 0), (.int .u64 0), (.int .u64 0), (.int .u64 0), (.int .u64 0), (.int .u64 0), (.int .u64 0), (.int .u64 0), (.int .u64 0), (.int .u64 0), (.int .u64 0), (.int .u64 0), (.int .u64 0), (.int .u64 0), (.int .u64 0), (.int .u64 0), (.int .u64 0), (.int .u64 0), (.int .u64 0), (.int .u64 0), (.int .u64 0), (.int .u64 0), (.int .u64 0), (.int .u64 0), (.int .u64 0), (.int .u64 0), (.int .u64 0), (.int .u64 0), (.int .u64 0), (.int .u64 0), (.int .u64 0), (.int .u64 0), (.int .u64 0), (.int .u64 0), (.int .u64 0), (.int .u64 0), (.int .u64 0), (.int .u64 0), (.int .u64 0), (.int .u64 0), (.int .u64 0), (.int .u64 0), (.int .u64 0), (.int .u64 0), (.int .u64 0), (.int .u64 0), (.int .u64 0), (.int .u64 0), (.int .u64 0), (.int .u64 0), (.int .u64 0), (.int .u64 0), (.int .u64 0), (.int .u64 0), (.int .u64 0), (.int .u64 0), (.int .u64 0), (.int .u64 0), (.int .u64 0), (.int .u64 0), (.int .u64 0), (.int .u64 0), (.int .u64 0), (.int .u64 0), (.int .u64 0), (.int .u64 0), (.int .u64 0), (.int .u64 0), (.int .u64 0), (.int .u64 0), (.int .u64 0), (.int .u64 0), (.int .u64 0), (.int .u64 0), (.int .u64 0), (.int .u64 0), (.int .u64 0), (.int .u64 0), (.int .u64 0), (.int .u64 0), (.int .u64 0), (.int .u64 0), (.int .u64 0), (.int .u64 0), (.int .u64 0), (.int .u64 0), (.int .u64 0), (.int .u64 0), (.int .u64 0), (.int .u64 0), (.int .u64 0), (.int .u64 0), (.int .u64 0), (.int .u64 0), (.int .u64 0), (.int .u64 0), (.int .u64 0), (.int .u64 0), (.int .u64 0), (.int .u64 0), (.int .u64 0), (.int .u64 0), (.int .u64 0), (.int .u64 0), (.int .u64 0), (.int .u64 0), (.int .u64 0), (.int .u64 0), (.int .u64 0), (.int .u64 0), (.int .u64 0), (.int .u64 0), (.int .u64 0), (.int .u64 0), (.int .u64 0), (.int .u64 0), (.int .u64 0), (.int .u64 0), (.int .u64 0), (.int .u64 0), (.int .u64 0), (.int .u64 0), (.int .u64 0), (.int .u64 0), (.int .u64 0), (.int .u64 0), (.int .u64 0), (.int .u64 0), (.int .u64 0), (.int .u64 0), (.int .u64 0), (.int .u64 0), (.int .u64 0), (.int .u64 0), (.int .u64 0), (.int .u64 0), (.int .u64 0), (.int .u64 0), (.int .u64 0), (.int .u64 0), (.int .u64 0), (.int .u64 0), (.int .u64 0), (.int .u64 0), (.int .u64 0), (.int .u64 0), (.int .u64 0), (.int .u64 0), (.int .u64 0), (.int .u64 0), (.int .u64 0), (.int .u64 0), (.int .u64 0), (.int .u64 0), (.int .u64 0), (.int .u64 0), (.int .u64 0), (.int .u64 0), (.int .u64 0), (.int .u64 0), (.int .u64 0), (.int .u64 0), (.int .u64 0), (.int .u64 0), (.int .u64 0), (.int .u64 0), (.int .u64 0), (.int .u64 0), (.int .u64 0), (.int .u64 0), (.int .u64 0), (.int .u64 0), (.int .u64 0), (.int .u64 0), (.int .u64 0), (.int .u64 0), (.int .u64 0), (.int .u64 0), (.int .u64 0), (.int .u64 0), (.int .u64 0), (.int .u64 0), (.int .u64 0), (.int .u64 0), (.int .u64 0), (.int .u64 0), (.int .u64 0), (.int .u64 0), (.int .u64 0), (.int .u64 0), (.int .u64 0), (.int .u64 0), (.int .u64 0), (.int .u64 0), (.int .u64 0), (.int .u64 0), (.int .u64 0), (.int .u64 0), (.int .u64 0), (.int .u64 0), (.int .u64 0), (.int .u64 0), (.int .u64 0), (.int .u64 0), (.int .u64 0), (.int .u64 0), (.int .u64 0), (.int .u64 0), (.int .u64 0), (.int .u64 0), (.int .u64 0), (.int .u64 0), (.int .u64 0), (.int .u64 0), (.int .u64 0), (.int .u64 0), (.int .u64 0), (.int .u64 0), (.int .u64 0), (.int .u64 0), (.int .u64 0), (.int .u64 0), (.int .u64 0), (.int .u64 0), (.int .u64 0), (.int .u64 0), (.int .u64 0), (.int .u64 0), (.int .u64 0), (.int .u64 0), (.int .u64 0), (.int .u64 0), (.int .u64 0), (.int .u64 0), (.int .u64 0), (.int .u64 0), (.int .u64 0), (.int .u64 0), (.int .u64 0), (.int .u64 0), (.int .u64 0), (.int .u64 0), (.int .u64 0), (.int .u64 0), (.int .u64 0), (.int .u64 0), (.int .u64 0), (.int .u64 0), (.int .u64 0), (.int .u64 0), (.int .u64 0), (.int .u64 0), (.int .u64 0), (.int .u64 0), (.int .u64 0), (.int .u64 0), (.int .u64 0), (.int .u64 0), (.int .u64 0), (.int .u64 0), (.int .u64 0), (.int .u64 0), (.int .u64 0), (.int .u64 0), (.int .u64 0), (.int .u64 0), (.int .u64 0), (.int .u64 0), (.int .u64 0), (.int .u64 0), (.int .u64 0), (.int .u64 0), (.int .u64 0), (.int .u64 0), (.int .u64 0), (.int .u64 0), (.int .u64 0), (.int .u64 0), (.int .u64 0), (.int .u64 0), (.int .u64 0), (.int .u64 0), (.int .u64 0), (.int .u64 0), (.int .u64 0), (.int .u64 0), (.int .u64 0), (.int .u64 0), (.int .u64 0), (.int .u64 0), (.int .u64 0), (.int .u64 0), (.int .u64 0), (.int .u64 0), (.int .u64 0), (.int .u64 0), (.int .u64 0), (.int .u64 0), (.int .u64 0), (.int .u64 0), (.int .u64 0), (.int .u64 0), (.int .u64 0), (.int .u64 0), (.int .u64 0), (.int .u64 0), (.int .u64 0), (.int .u64 0), (.int .u64 0), (.int .u64 0), (.int .u64 0), (.int .u64 0), (.int .u64 0), (.int .u64 0), (.int .u64 0), (.int .u64 0), (.int .u64 0), (.int .u64 0), (.int .u64 0), (.int .u64 0), (.int .u64 0), (.int .u64 0), (.int .u64 0), (.int .u64 0), (.int .u64 0), (.int .u64 0), (.int .u64 0), (.int .u64 0), (.int .u64 0), (.int .u64 0), (.int .u64 0), (.int .u64 0), (.int .u64 0), (.int .u64 0), (.int .u64 0), (.int .u64 0), (.int .u64 0), (.int .u64 0), (.int .u64 0), (.int .u64 0), (.int .u64 0), (.int .u64 0), (.int .u64 0), (.int .u64 0), (.int .u64 0), (.int .u64 0), (.int .u64 0), (.int .u64 0), (.int .u64 0), (.int .u64 0), (.int .u64 0), (.int .u64 0), (.int .u64 0), (.int .u64 0), (.int .u64 0), (.int .u64 0), (.int .u64 0), (.int .u64 0), (.int .u64 0), (.int .u64 0), (.int .u64 0), (.int .u64 0), (.int .u64 0), (.int .u64 0), (.int .u64 0), (.int .u64 0), (.int .u64 0), (.int .u64 0), (.int .u64 0), (.int .u64 0), (.int .u64 0), (.int .u64 0), (.int .u64 0), (.int .u64 0), (.int .u64 0), (.int .u64 0), (.int .u64 0), (.int .u64 0), (.int .u64 0), (.int .u64 0), (.int .u64 0), (.int .u64 0), (.int .u64 0), (.int .u64 0), (.int .u64 0), (.int .u64 0), (.int .u64 0), (.int .u64 0), (.int .u64 0), (.int .u64 0), (.int .u64 0), (.int .u64 0), (.int .u64 0), (.int .u64 0), (.int .u64 0), (.int .u64 0), (.int .u64 0), (.int .u64 0), (.int .u64 0), (.int .u64 0), (.int .u64 0), (.int .u64 0), (.int .u64 0), (.int .u64 0), (.int .u64 0), (.int .u64 0), (.int .u64 0), (.int .u64 0), (.int .u64 0), (.int .u64 0), (.int .u64 0), (.int .u64 0), (.int .u64 0), (.int .u64 0), (.int .u64 0), (.int .u64 0), (.int .u64 0), (.int .u64 0), (.int .u64 0), (.int .u64 0), (.int .u64 0), (.int .u64 0), (.int .u64 0), (.int .u64 0), (.int .u64 0), (.int .u64 0), (.int .u64 0), (.int .u64 0), (.int .u64 0), (.int .u64 0), (.int .u64 0), (.int .u64 0), (.int .u64 0), (.int .u64 0), (.int .u64 0), (.int .u64 0), (.int .u64 0), (.int .u64 0), (.int .u64 0), (.int .u64 0), (.int .u64 0), (.int .u64 0), (.int .u64 0), (.int .u64 0), (.int .u64 0), (.int .u64 0), (.int .u64 0), (.int .u64 0), (.int .u64 0), (.int .u64 0), (.int .u64 0), (.int .u64 0), (.int .u64 0), (.int .u64 0), (.int .u64 0), (.int .u64 0), (.int .u64 0), (.int .u64 0), (.int .u64 0), (.int .u64 0), (.int .u64 0), (.int .u64 0), (.int .u64 0), (.int .u64 0), (.int .u64 0), (.int .u64 0), (.int .u64 0), (.int .u64 0), (.int .u64 0), (.int .u64 0), (.int .u64 0), (.int .u64 0), (.int .u64 0), (.int .u64 0), (.int .u64 0), (.int .u64 0), (.int .u64 0), (.int .u64 0), (.int .u64 0), (.int .u64 0), (.int .u64 0), (.int .u64 0), (.int .u64 0), (.int .u64 0), (.int .u64 0), (.int .u64 0), (.int .u64 0), (.int .u64 0), (.int .u64 0), (.int .u64 0), (.int .u64 0), (.int .u64 0), (.int .u64 0), (.int .u64 0), (.int .u64 0), (.int .u64 0), (.int .u64 0), (.int .u64 0), (.int .u64 0), (.int .u64 0), (.int .u64 0), (.int .u64 0), (.int .u64 0), (.int .u64 0), (.int .u64 0), (.int .u64 0), (.int .u64 0), (.int .u64 0), (.int .u64 0), (.int .u64 0), (.int .u64 0), (.int .u64 0), (.int .u64 0), (.int .u64 0), (.int .u64 0), (.int .u64 0), (.int .u64 0), (.int .u64 0), (.int .u64 0), (.int .u64 0), (.int .u64 0), (.int .u64 0), (.int .u64 0), (.int .u64 0), (.int .u64 0), (.int .u64 0), (.int .u64 0), (.int .u64 0), (.int .u64 0), (.int .u64 0), (.int .u64 0), (.int .u64 0), (.int .u64 0), (.int .u64 0), (.int .u64 0), (.int .u64 0), (.int .u64 0), (.int .u64 0), (.int .u64 0), (.int .u64 0), (.int .u64 0), (.int .u64 0), (.int .u64 0), (.int .u64 0), (.int .u64 0), (.int .u64 0), (.int .u64 0), (.int .u64 0), (.int .u64 0), (.int .u64 0), (.int .u64 0), (.int .u64 0), (.int .u64 0), (.int .u64 0), (.int .u64 0), (.int .u64 0), (.int .u64 0), (.int .u64 0), (.int .u64 0), (.int .u64 0), (.int .u64 0), (.int .u64 0), (.int .u64 0), (.int .u64 0), (.int .u64 0), (.int .u64 0), (.int .u64 0)]), sh := zwe 1392 }
def ty232 : Ty := { und := (.struct #[{ name := "delta", type := 3, offset := 0, embedded := false, tag := "", pkgPath := "internal/strconv", byteOffset := 0 }, { name := "cutoff", type := 9, offset := 1, embedded := false, tag := "", pkgPath := "internal/strconv", byteOffset := 8 }]), size := 2, bytes := 24, zero := (.agg #[(.int .i64 0), (.string ByteArray.empty)]), sh := zms }
def ty233 : Ty := { und := (.slice 232), size := 1, bytes := 24, zero := (.slice none 0 0), sh := shSl }
def ty237 : Ty := { und := (.slice 120), size := 1, bytes := 24, zero := (.slice none 0 0), sh := shSl }
def ty239 : Ty := { und := (.slice 3), size := 1, bytes := 24, zero := (.slice none 0 0), sh := shSl }
def ty240 : Ty := { und := (.slice 48), size := 1, bytes := 24, zero := (.slice none 0 0), sh := shSl }
def ty242 : Ty := { und := (.array 64 5), size := 64, bytes := 64, zero := (.agg #[(.int .u8 0), (.int .u8 0), (.int .u8 0), (.int .u8 0), (.int .u8 0), (.int .u8 0), (.int .u8 0), (.int .u8 0), (.int .u8 0), (.int .u8 0), (.int .u8 0), (.int .u8 0), (.int .u8 0), (.int .u8 0), (.int .u8 0), (.int .u8 0), (.int .u8 0), (.int .u8 0), (.int .u8 0), (.int .u8 0), (.int .u8 0), (.int .u8 0), (.int .u8 0), (.int .u8 0), (.int .u8 0), (.int .u8 0), (.int .u8 0), (.int .u8 0), (.int .u8 0), (.int .u8 0), (.int .u8 0), (.int .u8 0), (.int .u8 0), (.int .u8 0), (.int .u8 0), (.int .u8 0), (.int .u8 0), (.int .u8 0), (.int .u8 0), (.int .u8 0), (.int .u8 0), (.int .u8 0), (.int .u8 0), (.int .u8 0), (.int .u8 0), (.int .u8 0), (.int .u8 0), (.int .u8 0), (.int .u8 0), (.int .u8 0), (.int .u8 0), (.int .u8 0), (.int .u8 0), (.int .u8 0), (.int .u8 0), (.int .u8 0), (.int .u8 0), (.int .u8 0), (.int .u8 0), (.int .u8 0), (.int .u8 0), (.int .u8 0), (.int .u8 0), (.int .u8 0)]), sh := zwe 64 }
def tyRows : List (List (Option Ty)) := [[some ty0, none, some ty2, some ty3, some ty4, some ty5, none, none, none, some ty9, none, none, some ty12, none, none, none],
  [none, none, none, none, some ty20, some ty21, some ty22, some ty23, none, some ty25, some ty26, none, none, none, none, some ty31],
  [none, some ty33, none, none, some ty36, none, none, some ty39, some ty40, none, none, none, some ty44, none, none, none],
  [some ty48, none, none, some ty51, some ty52, none, none, none, some ty56, some ty57, none, none, some ty60, none, some ty62, none],
  [some ty64, none, none, some ty67, none, some ty69, none, none, none, some ty73, some ty74, none, some ty76, none, none, none],
  [some ty80, none, some ty82, none, none, some ty85, none, none, none, none, none, none, some ty92, none, none, none],
  [some ty96, none, none, some ty99, none, none, some ty102, none, none, none, none, some ty107, some ty108, some ty109, none, none],
  [none, none, some ty114, none, none, none, none, none, some ty120, none, some ty122, some ty123, none, some ty125, none, none],
  [none, none, none, none, some ty132, none, none, some ty135, none, some ty137, none, none, some ty140, none, some ty142, some ty143],
  [some ty144, none, some ty146, none, some ty148, some ty149, none, some ty151, none, none, none, none, none, none, some ty158, some ty159],
  [none, none, some ty162, some ty163, none, some ty165, none, none, none, some ty169, none, none, some ty172, none, none, none],
  [none, none, some ty178, none, none, none, some ty182, some ty183, none, none, none, none, none, none, none, some ty191],
  [none, some ty193, some ty194, none, none, none, none, none, none, none, some ty202, none, some ty204, none, some ty206, none],
  [some ty208, none, none, some ty211, none, some ty213, none, none, some ty216, none, some ty218, none, some ty220, none, none, some ty223],
  [none, none, none, none, some ty228, some ty229, none, none, some ty232, some ty233, none, none, none, some ty237, none, some ty239],
  [some ty240, none, some ty242]]
def tyAt (t : Nat) : Option Ty := match nth tyRows (t / 16) with
  | some r => match nth r (t % 16) with
    | some e => e
    | none => none
  | none => none
def fnRows : List (List Bool) := [[false, false, true, true, true, true, true, true, true, true, true, true, true, true, true, true],
  [true, true, true, true, true, true, true, true, true, true, true, true, true, true, true, true],
  [true, true, true, true, true, false, true, true, true, true, true, true, true, true, true, true],
  [true, true, true, true, false, true, true, true, true, true, true, true, true, true, true, true],
  [true, true, true, true, true, true, true, true, true, true, true, true, true, true, true, false],
  [true, true, true, true, true, true, true, true, true, true, true, true, true, true, true, true],
  [true, true, true, true, true, true, true, true, true, true, true, true, true, true, true, true],
  [false, true, true, true, true, true, true, true, true, true, true, true, true, true, true, true],
  [true, true, true, true, false, true, true, false, false, true, true, true, true, true, true, true],
  [true, true, true, true, true, true, true, true, true, true, true, true, true, true, true, true],
  [true, true, true, true, false, false, true, true, true, true, true, true, true, true, true, true],
  [true, true, true, true, true, true, true, true, true, true, true, true, true, true, false, true],
  [true, true, true, true, false, true, true, true, true, true, true, true, true, true, true, true],
  [true, false, false, false, false, false, false, false, false, false, false, false, false, false, false, false],
  [false, false, false, false, false, false, false, false, false, false, false, false, false, false, false, false],
  [false, false, false, false, false, false, false, false, true]]
def fnAt (g : Nat) : Bool := match nth fnRows (g / 16) with
  | some r => match nth r (g % 16) with
    | some e => e
    | none => false
  | none => false
def extAt (g : Nat) : Option (Array Value → Sem Value) := cond (Nat.beq g 37) (some Extern.MathFloatBits.float64bits) (cond (Nat.beq g 52) (some Extern.MathFloatBits.float64frombits) (cond (Nat.beq g 112) (some Extern.AbiNoEscape.same) (cond (Nat.beq g 135) (some Extern.MathFloatBits.float32bits) (cond (Nat.beq g 136) (some Extern.MathFloatBits.float64bits) (cond (Nat.beq g 165) (some Extern.BytealgIndexByte.indexByte) (cond (Nat.beq g 190) (some Extern.MathFloatBits.float32frombits) (cond (Nat.beq g 196) (some Extern.MathFloatBits.float64frombits) (none))))))))
def tb : Tb := { ty := tyAt, call := fnAt, ext := extAt }

abbrev zor : Nat := 4
abbrev zht : Nat := 11
abbrev zll : Nat := 13
abbrev zhc : Nat := 15
abbrev zry : Nat := 26
abbrev zvt : Nat := 27
abbrev zrz : Nat := 28
abbrev zmf : Nat := 29
abbrev zpy : Nat := 30
abbrev zuj : Nat := 31
abbrev zjc : Nat := 34
abbrev zjd : Nat := 35
abbrev zim : Nat := 36
abbrev zvu : Nat := 41
abbrev zgx : Nat := 42
abbrev zjm : Nat := 44
abbrev znf : Nat := 53
abbrev zsr : Nat := 54
abbrev zfh : Nat := 55
abbrev zgq : Nat := 56
abbrev zgs : Nat := 57
abbrev zew : Nat := 58
abbrev zkh : Nat := 59
abbrev zdc : Nat := 62
abbrev zeh : Nat := 63
abbrev zec : Nat := 64
abbrev zoj : Nat := 66
abbrev zzg : Nat := 67
abbrev zgy : Nat := 90
abbrev zzh : Nat := 91
abbrev zex : Nat := 92
abbrev zsu : Nat := 93
abbrev zhu : Nat := 94
abbrev zhh : Nat := 95
abbrev zpz : Nat := 96
abbrev zis : Nat := 97
abbrev zos : Nat := 98
abbrev zhi : Nat := 103
abbrev zfu : Nat := 106
abbrev zad : Nat := 107
abbrev zdm : Nat := 108
abbrev zcn : Nat := 109
abbrev zge : Nat := 124
abbrev zbu : Nat := 125
abbrev zbf : Nat := 126
abbrev zck : Nat := 127
abbrev zie : Nat := 129
abbrev zdd : Nat := 131
abbrev zpf : Nat := 133
abbrev zhn : Nat := 134
abbrev zsa : Nat := 137
abbrev zsb : Nat := 138
abbrev zcf : Nat := 139
abbrev zgf : Nat := 140
abbrev zcq : Nat := 142
abbrev zba : Nat := 143
abbrev zjq : Nat := 144
abbrev zki : Nat := 145
abbrev zaq : Nat := 146
abbrev zde : Nat := 147
abbrev zcc : Nat := 148
abbrev zqa : Nat := 157
abbrev zfp : Nat := 158
abbrev zei : Nat := 161
abbrev zgg : Nat := 162
abbrev zit : Nat := 163
abbrev ziu : Nat := 169
abbrev zcz : Nat := 170
abbrev zej : Nat := 171
abbrev zbs : Nat := 172
abbrev zct : Nat := 173
abbrev zfl : Nat := 174
abbrev zfe : Nat := 175
abbrev zcu : Nat := 176
abbrev zjn : Nat := 177
abbrev zek : Nat := 179
abbrev zcr : Nat := 180
abbrev zcl : Nat := 181
abbrev zfv : Nat := 182
abbrev zfi : Nat := 186
abbrev zel : Nat := 187
abbrev zfj : Nat := 188
abbrev zdu : Nat := 193
abbrev zbi : Nat := 194
abbrev zby : Nat := 195
abbrev zdv : Nat := 197
abbrev zbz : Nat := 198
abbrev zhv : Nat := 200
abbrev zey : Nat := 202
abbrev zbk : Nat := 203
abbrev zle : Nat := 204
abbrev zlf : Nat := 205
abbrev zdk : Nat := 207
abbrev zfq : Nat := 208
end Lf

/-
  By program: what the functions do.
-/
set_option linter.unusedVariables false
namespace Lf
open Go

def zez (P : Program) (a : Int) (b : Int) (text : ByteArray) (Q : (Bool → (Hp → Prop))) (h : Hp) : Prop :=
 CallT P zht [(.int .i64 a)] shStr (fun r h1 =>
 CallT P zht [(.int .i64 b)] shStr (fun r1 h2 =>
 Call2 P zll [(.string r)] (shInt .i64) (shInt .i64) (fun r2 r3 h3 =>
 Call2 P zll [(.string text)] (shInt .i64) (shInt .i64) (fun r4 r5 h4 =>
 LetW ((r3 != (0 : Int)) || (r2 != a)) fun y =>
 LetW (y || (!(((ByteArray.toList r) == (ByteArray.toList r1)) == (a == b)))) fun y1 =>
 LetW (y1 || (decide ((((ByteArray.size r) : Nat) : Int) > (25 : Int)))) fun y2 =>
 (if y2 = true then
 Q false h4
 else
 (if (r5 != (0 : Int)) = true then
 LetW ((r5 == (4 : Int)) && (r4 == (0 : Int))) fun y3 =>
 EffC (some y3) (CallT P zhc [] zag) (fun r6 h5 =>
 LetW (y3 && r6) fun y4 =>
 Q y4 h5) h4
 else
 CallT P zht [(.int .i64 r4)] shStr (fun r6 h5 =>
 EffC (some ((ByteArray.toList r6) == (ByteArray.toList text))) (CallT P zhc [] zag) (fun r7 h6 =>
 LetW (((ByteArray.toList r6) == (ByteArray.toList text)) && r7) fun y3 =>
 Q y3 h6) h5) h4))) h3) h2) h1) h

def zje (P : Program) (bits : Int) (Q : (ByteArray → (Hp → Prop))) (h : Hp) : Prop :=
 CallT P zry [(.int .i64 bits)] (shFlt .f64) (fun r h1 =>
 SemV none P (binS .neq 48 (.tmp 12) (.tmp 13) (.float .f64 r) (.float .f64 r)) zag h1 fun x =>
 (if x = true then
 CallT P zvt [(.int .u64 (IntKind.wrap .u64 bits))] shStr (fun r1 h2 =>
 ((4 + (ByteArray.size r1)) ≤ 9223372036854775807 ∧ Q ⟨⟨(110 :: (97 :: (110 :: (58 :: r1.data.toList))))⟩⟩ h2)) h1
 else
 SemV none P (binS .gtr 48 (.tmp 20) (.const (.float .f64 9218868437227405311)) (.float .f64 r) (.float .f64 9218868437227405311)) zag h1 fun x1 =>
 (if x1 = true then
 Q ⟨#[105, 110, 102]⟩ h1
 else
 SemV none P (binS .lss 48 (.tmp 23) (.const (.float .f64 18442240474082181119)) (.float .f64 r) (.float .f64 18442240474082181119)) zag h1 fun x2 =>
 (if x2 = true then
 Q ⟨#[45, 105, 110, 102]⟩ h1
 else
 CallT P zmf [(.float .f64 r), (.int .u8 (101 : Int)), (.int .i64 (-1 : Int)), (.int .i64 (64 : Int))] shStr (fun r1 h2 =>
 Call3 P zrz [(.string r1), (.string ⟨#[101]⟩)] shStr shStr zag (fun r2 r3 r4 h3 =>
 Call2 P zpy [(.string r3)] (shInt .i64) zaj (fun r5 r6 h4 =>
 (((ByteArray.size r2) + 1) ≤ 9223372036854775807 ∧ CallT P zuj [(.int .i64 r5)] shStr (fun r7 h5 =>
 (((ByteArray.size ⟨⟨(List.append r2.data.toList [101])⟩⟩) + (ByteArray.size r7)) ≤ 9223372036854775807 ∧ Q ⟨⟨(List.append (List.append r2.data.toList [101]) r7.data.toList)⟩⟩ h5)) h4)) h3) h2) h1)))) h

def zot (P : Program) (text : ByteArray) (Q : (Int → (Int → (Hp → Prop)))) (h : Hp) : Prop :=
 Call2 P zjc [(.string text), (.string ⟨#[110, 97, 110, 58]⟩)] shStr zag (fun r r1 h1 =>
 JoinW1 (α1 := Int) (fun k =>
 (if r1 = true then
 Call2 P zjd [(.string r), (.int .i64 (16 : Int)), (.int .i64 (64 : Int))] (shInt .u64) zaj (fun r2 r3 h2 =>
 k r2 h2) h1
 else
 Call2 P zim [(.string text), (.int .i64 (64 : Int))] (shFlt .f64) zaj (fun r2 r3 h2 =>
 SemE P (Extern.MathFloatBits.float64bits #[(.float .f64 r2)]) (shInt .u64) (fun r4 h3 =>
 k r4 h3) h2) h1))
 (fun u h2 =>
 CallT P zht [(.int .i64 (IntKind.wrap .i64 u))] shStr (fun r2 h3 =>
 (if (!((ByteArray.toList r2) == (ByteArray.toList text))) = true then
 Q (0 : Int) (4 : Int) h3
 else
 Q (IntKind.wrap .i64 u) (0 : Int) h3)) h2)) h

def zhd (P : Program)  (Q : (Bool → (Hp → Prop))) (h : Hp) : Prop :=
 Call2 P zvu [(.int .i64 (15 : Int)), (.int .i64 (4607182418800017408 : Int)), (.int .i64 (4607182418800017408 : Int))] (shInt .i64) (shInt .i64) (fun r r1 h1 =>
 Call2 P zvu [(.int .i64 (18 : Int)), (.int .i64 (0 : Int)), (.int .i64 (0 : Int))] (shInt .i64) (shInt .i64) (fun r2 r3 h2 =>
 Call2 P zvu [(.int .i64 (3 : Int)), (.int .i64 (1 : Int)), (.int .i64 (1 : Int))] (shInt .i64) (shInt .i64) (fun r4 r5 h3 =>
 Call2 P zll [(.string ⟨#[49, 46, 53, 101, 48]⟩)] (shInt .i64) (shInt .i64) (fun r6 r7 h4 =>
 Call2 P zll [(.string ⟨#[49, 46, 53, 48, 101, 48]⟩)] (shInt .i64) (shInt .i64) (fun r8 r9 h5 =>
 LetW ((r == (4611686018427387904 : Int)) && (r1 == (0 : Int))) fun y =>
 LetW (y && (r2 == (9221120237041090560 : Int))) fun y1 =>
 LetW (y1 && (r3 == (0 : Int))) fun y2 =>
 LetW (y2 && (r5 == (9 : Int))) fun y3 =>
 LetW (y3 && (r6 == (4609434218613702656 : Int))) fun y4 =>
 LetW (y4 && (r7 == (0 : Int))) fun y5 =>
 LetW (y5 && (r9 == (4 : Int))) fun y6 =>
 EffC (some y6) (CallT P zht [(.int .i64 r6)] shStr) (fun r10 h6 =>
 LetW (y6 && ((ByteArray.toList r10) == (ByteArray.toList ⟨#[49, 46, 53, 101, 48]⟩))) fun y7 =>
 Q y7 h6) h5) h4) h3) h2) h1) h

def zuv (P : Program) (bits : Int) (Q : (Nat → (Hp → Prop))) (h : Hp) : Prop :=
 SemE P (Extern.MathFloatBits.float64frombits #[(.int .u64 (IntKind.wrap .u64 bits))]) (shFlt .f64) (fun r h1 =>
 Q r h1) h

def zsc (P : Program) (u : Int) (Q : (ByteArray → (Hp → Prop))) (h : Hp) : Prop :=
 CallT P znf [(.int .u64 u), (.int .i64 (16 : Int))] shStr (fun r h1 =>
 CallT P zsr [(.string ⟨#[48]⟩), (.int .i64 (IntKind.wrap .i64 ((16 : Int) - (((ByteArray.size r) : Nat) : Int))))] shStr (fun r1 h2 =>
 (((ByteArray.size r1) + (ByteArray.size r)) ≤ 9223372036854775807 ∧ Q ⟨⟨(List.append r1.data.toList r.data.toList)⟩⟩ h2)) h1) h

def zsd (P : Program) (s : ByteArray) (sep : ByteArray) (Q : (ByteArray → (ByteArray → (Bool → (Hp → Prop))))) (h : Hp) : Prop :=
 Call3 P zfh [(.string s), (.string sep)] shStr shStr zag (fun r r1 r2 h1 =>
 Q r r1 r2 h1) h

def zdw (P : Program) (f : Nat) (fmt : Int) (prec : Int) (bitSize : Int) (Q : (ByteArray → (Hp → Prop))) (h : Hp) : Prop :=
 CallT P zgq [(.float .f64 f), (.int .u8 fmt), (.int .i64 prec), (.int .i64 bitSize)] shStr (fun r h1 =>
 Q r h1) h

def zqb (P : Program) (s : ByteArray) (Q : (Int → (Leaf → (Hp → Prop)))) (h : Hp) : Prop :=
 Call2 P zgs [(.string s)] (shInt .i64) zaj (fun r r1 h1 =>
 ((isIfV r1.v) = true ∧ (if (!(zha r1.v)) = true then
 CallT P zew [(.string ⟨#[65, 116, 111, 105]⟩), (.string s), (.int .i64 (0 : Int)), (.int .i64 (0 : Int)), r1.v] zaj (fun r2 h2 =>
 EncW zaj r2.v fun e =>
 Q r e h2) h1
 else
 EncW zaj .nilIface fun e =>
 Q r e h1))) h

def zqc (P : Program) (i : Int) (Q : (ByteArray → (Hp → Prop))) (h : Hp) : Prop :=
 CallT P zkh [(.int .i64 i)] shStr (fun r h1 =>
 Q r h1) h

def zgt (P : Program) (s : ByteArray) (prefix_ : ByteArray) (Q : (ByteArray → (Bool → (Hp → Prop)))) (h : Hp) : Prop :=
 Call2 P zdc [(.string s), (.string prefix_)] shStr zag (fun r r1 h1 =>
 Q r r1 h1) h

def zfa (P : Program) (s : ByteArray) (base : Int) (bitSize : Int) (Q : (Int → (Leaf → (Hp → Prop)))) (h : Hp) : Prop :=
 Call2 P zeh [(.string s), (.int .i64 base), (.int .i64 bitSize)] (shInt .u64) zaj (fun r r1 h1 =>
 ((isIfV r1.v) = true ∧ (if (!(zha r1.v)) = true then
 CallT P zew [(.string ⟨#[80, 97, 114, 115, 101, 85, 105, 110, 116]⟩), (.string s), (.int .i64 base), (.int .i64 bitSize), r1.v] zaj (fun r2 h2 =>
 EncW zaj r2.v fun e =>
 Q r e h2) h1
 else
 EncW zaj .nilIface fun e =>
 Q r e h1))) h

def zcd (P : Program) (s : ByteArray) (bitSize : Int) (Q : (Nat → (Leaf → (Hp → Prop)))) (h : Hp) : Prop :=
 Call2 P zec [(.string s), (.int .i64 bitSize)] (shFlt .f64) zaj (fun r r1 h1 =>
 ((isIfV r1.v) = true ∧ (if (!(zha r1.v)) = true then
 CallT P zew [(.string ⟨#[80, 97, 114, 115, 101, 70, 108, 111, 97, 116]⟩), (.string s), (.int .i64 (0 : Int)), (.int .i64 bitSize), r1.v] zaj (fun r2 h2 =>
 EncW zaj r2.v fun e =>
 Q r e h2) h1
 else
 EncW zaj .nilIface fun e =>
 Q r e h1))) h

def zcu1 (P : Program) (op : Int) (b : Int) (c : Int) (Q : (Int → (Int → (Hp → Prop)))) (h : Hp) : Prop :=
 CallT P zry [(.int .i64 b)] (shFlt .f64) (fun r h1 =>
 CallT P zry [(.int .i64 c)] (shFlt .f64) (fun r1 h2 =>
 (if (op == (15 : Int)) = true then
 SemE P (binS .add 48 (.tmp 17) (.tmp 18) (.float .f64 r) (.float .f64 r1)) (shFlt .f64) (fun r2 h3 =>
 CallT P zoj [(.float .f64 r2)] (shInt .i64) (fun r3 h4 =>
 Q r3 (0 : Int) h4) h3) h2
 else
 (if (op == (16 : Int)) = true then
 SemE P (binS .sub 48 (.tmp 23) (.tmp 24) (.float .f64 r) (.float .f64 r1)) (shFlt .f64) (fun r2 h3 =>
 CallT P zoj [(.float .f64 r2)] (shInt .i64) (fun r3 h4 =>
 Q r3 (0 : Int) h4) h3) h2
 else
 (if (op == (17 : Int)) = true then
 SemE P (binS .mul 48 (.tmp 29) (.tmp 30) (.float .f64 r) (.float .f64 r1)) (shFlt .f64) (fun r2 h3 =>
 CallT P zoj [(.float .f64 r2)] (shInt .i64) (fun r3 h4 =>
 Q r3 (0 : Int) h4) h3) h2
 else
 (if (op == (18 : Int)) = true then
 SemE P (binS .quo 48 (.tmp 35) (.tmp 36) (.float .f64 r) (.float .f64 r1)) (shFlt .f64) (fun r2 h3 =>
 CallT P zoj [(.float .f64 r2)] (shInt .i64) (fun r3 h4 =>
 Q r3 (0 : Int) h4) h3) h2
 else
 (if (op == (19 : Int)) = true then
 SemV none P (binS .lss 48 (.tmp 41) (.tmp 42) (.float .f64 r) (.float .f64 r1)) zag h2 fun x =>
 (if x = true then
 Q (1 : Int) (0 : Int) h2
 else
 Q (0 : Int) (0 : Int) h2)
 else
 (if (op == (20 : Int)) = true then
 SemV none P (convert 2 48 (.int .i64 b)) (shFlt .f64) h2 fun x =>
 CallT P zoj [(.float .f64 x)] (shInt .i64) (fun r2 h3 =>
 Q r2 (0 : Int) h3) h2
 else
 (if (op == (21 : Int)) = true then
 CallT P zzg [(.float .f64 r)] (shInt .i64) (fun r2 h3 =>
 Q r2 (0 : Int) h3) h2
 else
 Q (0 : Int) (9 : Int) h2)))))))) h1) h

def zng (P : Program) (i : Int) (base : Int) (Q : (ByteArray → (Hp → Prop))) (h : Hp) : Prop :=
 CallT P zgy [(.int .u64 i), (.int .i64 base)] shStr (fun r h1 =>
 Q r h1) h

def zss (P : Program) (s : ByteArray) (count : Int) (Q : (ByteArray → (Hp → Prop))) (h : Hp) : Prop :=
 (if (count == (0 : Int)) = true then
 Q ⟨#[]⟩ h
 else
 (if (count == (1 : Int)) = true then
 Q s h
 else
 JoinW0 (fun k =>
 (if (decide (count < (0 : Int))) = true then
 False
 else
 k h))
 (fun h1 =>
 Call2 P zzh [(.int .u64 (IntKind.wrap .u64 (((ByteArray.size s) : Nat) : Int))), (.int .u64 (IntKind.wrap .u64 count))] (shInt .u64) (shInt .u64) (fun r r1 h2 =>
 JoinW0 (fun k =>
 LetW ((decide (r > (0 : Int))) || (decide (r1 > (9223372036854775807 : Int)))) fun y =>
 (if y = true then
 False
 else
 k h2))
 (fun h3 =>
 (if ((((ByteArray.size s) : Nat) : Int) == (0 : Int)) = true then
 Q ⟨#[]⟩ h3
 else
 (((0 : Int) ≤ (0 : Int) ∧ (0 : Int) < (((ByteArray.size s) : Nat) : Int)) ∧ JoinW0 (fun k =>
 JoinW1 (α1 := Bool) (fun k1 =>
 (if ((((UInt8.toNat (List.getD s.data.toList 0 0)) : Nat) : Int) == (32 : Int)) = true then
 k1 ((((UInt8.toNat (List.getD s.data.toList 0 0)) : Nat) : Int) == (32 : Int)) h3
 else
 (if ((((UInt8.toNat (List.getD s.data.toList 0 0)) : Nat) : Int) == (45 : Int)) = true then
 k1 ((((UInt8.toNat (List.getD s.data.toList 0 0)) : Nat) : Int) == (45 : Int)) h3
 else
 (if ((((UInt8.toNat (List.getD s.data.toList 0 0)) : Nat) : Int) == (48 : Int)) = true then
 k1 ((((UInt8.toNat (List.getD s.data.toList 0 0)) : Nat) : Int) == (48 : Int)) h3
 else
 (if ((((UInt8.toNat (List.getD s.data.toList 0 0)) : Nat) : Int) == (61 : Int)) = true then
 k1 ((((UInt8.toNat (List.getD s.data.toList 0 0)) : Nat) : Int) == (61 : Int)) h3
 else
 k1 ((((UInt8.toNat (List.getD s.data.toList 0 0)) : Nat) : Int) == (9 : Int)) h3)))))
 (fun t43 h4 =>
 (if t43 = true then
 EffC (some (decide ((IntKind.wrap .i64 r1) ≤ (128 : Int)))) (CallT P zex [(.string ⟨#[32, 32, 32, 32, 32, 32, 32, 32, 32, 32, 32, 32, 32, 32, 32, 32, 32, 32, 32, 32, 32, 32, 32, 32, 32, 32, 32, 32, 32, 32, 32, 32, 32, 32, 32, 32, 32, 32, 32, 32, 32, 32, 32, 32, 32, 32, 32, 32, 32, 32, 32, 32, 32, 32, 32, 32, 32, 32, 32, 32, 32, 32, 32, 32, 32, 32, 32, 32, 32, 32, 32, 32, 32, 32, 32, 32, 32, 32, 32, 32, 32, 32, 32, 32, 32, 32, 32, 32, 32, 32, 32, 32, 32, 32, 32, 32, 32, 32, 32, 32, 32, 32, 32, 32, 32, 32, 32, 32, 32, 32, 32, 32, 32, 32, 32, 32, 32, 32, 32, 32, 32, 32, 32, 32, 32, 32, 32, 32]⟩), (.string s)] zag) (fun r2 h5 =>
 LetW ((decide ((IntKind.wrap .i64 r1) ≤ (128 : Int))) && r2) fun y =>
 (if y = true then
 (((0 : Int) ≤ (IntKind.wrap .i64 r1) ∧ (IntKind.wrap .i64 r1) ≤ (128 : Int)) ∧ Q (ByteArray.extract ⟨#[32, 32, 32, 32, 32, 32, 32, 32, 32, 32, 32, 32, 32, 32, 32, 32, 32, 32, 32, 32, 32, 32, 32, 32, 32, 32, 32, 32, 32, 32, 32, 32, 32, 32, 32, 32, 32, 32, 32, 32, 32, 32, 32, 32, 32, 32, 32, 32, 32, 32, 32, 32, 32, 32, 32, 32, 32, 32, 32, 32, 32, 32, 32, 32, 32, 32, 32, 32, 32, 32, 32, 32, 32, 32, 32, 32, 32, 32, 32, 32, 32, 32, 32, 32, 32, 32, 32, 32, 32, 32, 32, 32, 32, 32, 32, 32, 32, 32, 32, 32, 32, 32, 32, 32, 32, 32, 32, 32, 32, 32, 32, 32, 32, 32, 32, 32, 32, 32, 32, 32, 32, 32, 32, 32, 32, 32, 32, 32]⟩ 0 (Int.toNat (IntKind.wrap .i64 r1))) h5)
 else
 EffC (some (decide ((IntKind.wrap .i64 r1) ≤ (128 : Int)))) (CallT P zex [(.string ⟨#[45, 45, 45, 45, 45, 45, 45, 45, 45, 45, 45, 45, 45, 45, 45, 45, 45, 45, 45, 45, 45, 45, 45, 45, 45, 45, 45, 45, 45, 45, 45, 45, 45, 45, 45, 45, 45, 45, 45, 45, 45, 45, 45, 45, 45, 45, 45, 45, 45, 45, 45, 45, 45, 45, 45, 45, 45, 45, 45, 45, 45, 45, 45, 45, 45, 45, 45, 45, 45, 45, 45, 45, 45, 45, 45, 45, 45, 45, 45, 45, 45, 45, 45, 45, 45, 45, 45, 45, 45, 45, 45, 45, 45, 45, 45, 45, 45, 45, 45, 45, 45, 45, 45, 45, 45, 45, 45, 45, 45, 45, 45, 45, 45, 45, 45, 45, 45, 45, 45, 45, 45, 45, 45, 45, 45, 45, 45, 45]⟩), (.string s)] zag) (fun r3 h6 =>
 LetW ((decide ((IntKind.wrap .i64 r1) ≤ (128 : Int))) && r3) fun y1 =>
 (if y1 = true then
 (((0 : Int) ≤ (IntKind.wrap .i64 r1) ∧ (IntKind.wrap .i64 r1) ≤ (128 : Int)) ∧ Q (ByteArray.extract ⟨#[45, 45, 45, 45, 45, 45, 45, 45, 45, 45, 45, 45, 45, 45, 45, 45, 45, 45, 45, 45, 45, 45, 45, 45, 45, 45, 45, 45, 45, 45, 45, 45, 45, 45, 45, 45, 45, 45, 45, 45, 45, 45, 45, 45, 45, 45, 45, 45, 45, 45, 45, 45, 45, 45, 45, 45, 45, 45, 45, 45, 45, 45, 45, 45, 45, 45, 45, 45, 45, 45, 45, 45, 45, 45, 45, 45, 45, 45, 45, 45, 45, 45, 45, 45, 45, 45, 45, 45, 45, 45, 45, 45, 45, 45, 45, 45, 45, 45, 45, 45, 45, 45, 45, 45, 45, 45, 45, 45, 45, 45, 45, 45, 45, 45, 45, 45, 45, 45, 45, 45, 45, 45, 45, 45, 45, 45, 45, 45]⟩ 0 (Int.toNat (IntKind.wrap .i64 r1))) h6)
 else
 EffC (some (decide ((IntKind.wrap .i64 r1) ≤ (64 : Int)))) (CallT P zex [(.string ⟨#[48, 48, 48, 48, 48, 48, 48, 48, 48, 48, 48, 48, 48, 48, 48, 48, 48, 48, 48, 48, 48, 48, 48, 48, 48, 48, 48, 48, 48, 48, 48, 48, 48, 48, 48, 48, 48, 48, 48, 48, 48, 48, 48, 48, 48, 48, 48, 48, 48, 48, 48, 48, 48, 48, 48, 48, 48, 48, 48, 48, 48, 48, 48, 48]⟩), (.string s)] zag) (fun r4 h7 =>
 LetW ((decide ((IntKind.wrap .i64 r1) ≤ (64 : Int))) && r4) fun y2 =>
 (if y2 = true then
 (((0 : Int) ≤ (IntKind.wrap .i64 r1) ∧ (IntKind.wrap .i64 r1) ≤ (64 : Int)) ∧ Q (ByteArray.extract ⟨#[48, 48, 48, 48, 48, 48, 48, 48, 48, 48, 48, 48, 48, 48, 48, 48, 48, 48, 48, 48, 48, 48, 48, 48, 48, 48, 48, 48, 48, 48, 48, 48, 48, 48, 48, 48, 48, 48, 48, 48, 48, 48, 48, 48, 48, 48, 48, 48, 48, 48, 48, 48, 48, 48, 48, 48, 48, 48, 48, 48, 48, 48, 48, 48]⟩ 0 (Int.toNat (IntKind.wrap .i64 r1))) h7)
 else
 EffC (some (decide ((IntKind.wrap .i64 r1) ≤ (128 : Int)))) (CallT P zex [(.string ⟨#[61, 61, 61, 61, 61, 61, 61, 61, 61, 61, 61, 61, 61, 61, 61, 61, 61, 61, 61, 61, 61, 61, 61, 61, 61, 61, 61, 61, 61, 61, 61, 61, 61, 61, 61, 61, 61, 61, 61, 61, 61, 61, 61, 61, 61, 61, 61, 61, 61, 61, 61, 61, 61, 61, 61, 61, 61, 61, 61, 61, 61, 61, 61, 61, 61, 61, 61, 61, 61, 61, 61, 61, 61, 61, 61, 61, 61, 61, 61, 61, 61, 61, 61, 61, 61, 61, 61, 61, 61, 61, 61, 61, 61, 61, 61, 61, 61, 61, 61, 61, 61, 61, 61, 61, 61, 61, 61, 61, 61, 61, 61, 61, 61, 61, 61, 61, 61, 61, 61, 61, 61, 61, 61, 61, 61, 61, 61, 61]⟩), (.string s)] zag) (fun r5 h8 =>
 LetW ((decide ((IntKind.wrap .i64 r1) ≤ (128 : Int))) && r5) fun y3 =>
 (if y3 = true then
 (((0 : Int) ≤ (IntKind.wrap .i64 r1) ∧ (IntKind.wrap .i64 r1) ≤ (128 : Int)) ∧ Q (ByteArray.extract ⟨#[61, 61, 61, 61, 61, 61, 61, 61, 61, 61, 61, 61, 61, 61, 61, 61, 61, 61, 61, 61, 61, 61, 61, 61, 61, 61, 61, 61, 61, 61, 61, 61, 61, 61, 61, 61, 61, 61, 61, 61, 61, 61, 61, 61, 61, 61, 61, 61, 61, 61, 61, 61, 61, 61, 61, 61, 61, 61, 61, 61, 61, 61, 61, 61, 61, 61, 61, 61, 61, 61, 61, 61, 61, 61, 61, 61, 61, 61, 61, 61, 61, 61, 61, 61, 61, 61, 61, 61, 61, 61, 61, 61, 61, 61, 61, 61, 61, 61, 61, 61, 61, 61, 61, 61, 61, 61, 61, 61, 61, 61, 61, 61, 61, 61, 61, 61, 61, 61, 61, 61, 61, 61, 61, 61, 61, 61, 61, 61]⟩ 0 (Int.toNat (IntKind.wrap .i64 r1))) h8)
 else
 EffC (some (decide ((IntKind.wrap .i64 r1) ≤ (64 : Int)))) (CallT P zex [(.string ⟨#[9, 9, 9, 9, 9, 9, 9, 9, 9, 9, 9, 9, 9, 9, 9, 9, 9, 9, 9, 9, 9, 9, 9, 9, 9, 9, 9, 9, 9, 9, 9, 9, 9, 9, 9, 9, 9, 9, 9, 9, 9, 9, 9, 9, 9, 9, 9, 9, 9, 9, 9, 9, 9, 9, 9, 9, 9, 9, 9, 9, 9, 9, 9, 9]⟩), (.string s)] zag) (fun r6 h9 =>
 LetW ((decide ((IntKind.wrap .i64 r1) ≤ (64 : Int))) && r6) fun y4 =>
 (if y4 = true then
 (((0 : Int) ≤ (IntKind.wrap .i64 r1) ∧ (IntKind.wrap .i64 r1) ≤ (64 : Int)) ∧ Q (ByteArray.extract ⟨#[9, 9, 9, 9, 9, 9, 9, 9, 9, 9, 9, 9, 9, 9, 9, 9, 9, 9, 9, 9, 9, 9, 9, 9, 9, 9, 9, 9, 9, 9, 9, 9, 9, 9, 9, 9, 9, 9, 9, 9, 9, 9, 9, 9, 9, 9, 9, 9, 9, 9, 9, 9, 9, 9, 9, 9, 9, 9, 9, 9, 9, 9, 9, 9]⟩ 0 (Int.toNat (IntKind.wrap .i64 r1))) h9)
 else
 k h9)) h8)) h7)) h6)) h5)) h4
 else
 k h4)))
 (fun h4 =>
 JoinW1 (α1 := Int) (fun k =>
 (if (decide ((IntKind.wrap .i64 r1) > (8192 : Int))) = true then
 ((((ByteArray.size s) : Nat) : Int) ≠ (0 : Int) ∧ (if ((IntKind.wrap .i64 ((IntKind.wrap .i64 (Int.tdiv (8192 : Int) (((ByteArray.size s) : Nat) : Int))) * (((ByteArray.size s) : Nat) : Int))) == (0 : Int)) = true then
 k (((ByteArray.size s) : Nat) : Int) h4
 else
 k (IntKind.wrap .i64 ((IntKind.wrap .i64 (Int.tdiv (8192 : Int) (((ByteArray.size s) : Nat) : Int))) * (((ByteArray.size s) : Nat) : Int))) h4))
 else
 k (IntKind.wrap .i64 r1) h4))
 (fun chunkMax h5 =>
 NewTW 76 [(.pointer none), (.slice none 0 0)] (fun a h6 =>
 Call0 P zsu [(.pointer (some a)), (.int .i64 (IntKind.wrap .i64 r1))] (fun h7 =>
 Call2 P zgx [(.pointer (some a)), (.string s)] (shInt .i64) zaj (fun r2 r3 h8 =>
 LoopW0 (fun again h9 =>
 CallT P zhu [(.pointer (some a))] (shInt .i64) (fun r4 h10 =>
 (if (decide (r4 < (IntKind.wrap .i64 r1))) = true then
 CallT P zhu [(.pointer (some a))] (shInt .i64) (fun r5 h11 =>
 CallT P zhu [(.pointer (some a))] (shInt .i64) (fun r6 h12 =>
 CallT P zjm [(.pointer (some a))] shStr (fun r7 h13 =>
 (((0 : Int) ≤ (min2I (min2I (IntKind.wrap .i64 ((IntKind.wrap .i64 r1) - r5)) r6) chunkMax) ∧ (min2I (min2I (IntKind.wrap .i64 ((IntKind.wrap .i64 r1) - r5)) r6) chunkMax) ≤ (((ByteArray.size r7) : Nat) : Int)) ∧ Call2 P zgx [(.pointer (some a)), (.string (ByteArray.extract r7 0 (Int.toNat (min2I (min2I (IntKind.wrap .i64 ((IntKind.wrap .i64 r1) - r5)) r6) chunkMax))))] (shInt .i64) zaj (fun r8 r9 h14 =>
 again h14) h13)) h12) h11) h10
 else
 CallT P zjm [(.pointer (some a))] shStr (fun r5 h11 =>
 Q r5 h11) h10)) h9)  h8) h7) h6) h5)))))) h1)))

def zik (P : Program) (s : ByteArray) (sep : ByteArray) (Q : (ByteArray → (ByteArray → (Bool → (Hp → Prop))))) (h : Hp) : Prop :=
 CallT P zhh [(.string s), (.string sep)] (shInt .i64) (fun r h1 =>
 (if (decide (r ≥ (0 : Int))) = true then
 (((0 : Int) ≤ r ∧ r ≤ (((ByteArray.size s) : Nat) : Int)) ∧ (((0 : Int) ≤ (IntKind.wrap .i64 (r + (((ByteArray.size sep) : Nat) : Int))) ∧ (IntKind.wrap .i64 (r + (((ByteArray.size sep) : Nat) : Int))) ≤ (((ByteArray.size s) : Nat) : Int)) ∧ Q (ByteArray.extract s 0 (Int.toNat r)) (ByteArray.extract s (Int.toNat (IntKind.wrap .i64 (r + (((ByteArray.size sep) : Nat) : Int)))) (ByteArray.size s)) true h1))
 else
 Q s ⟨#[]⟩ false h1)) h

def zdx (P : Program) (f : Nat) (fmt : Int) (prec : Int) (bitSize : Int) (Q : (ByteArray → (Hp → Prop))) (h : Hp) : Prop :=
 (if (bitSize == (32 : Int)) = true then
 MakeW 1 [(.int .u8 (0 : Int))] (0 : Int) (max2I (IntKind.wrap .i64 (prec + (4 : Int))) (24 : Int)) (fun r h1 =>
 SemV none P (convert 48 120 (.float .f64 f)) (shFlt .f32) h1 fun x =>
 CallT P zpz [r.v, (.float .f32 x), (.int .u8 fmt), (.int .i64 prec)] shSl (fun r1 h2 =>
 SemV none P (convert 74 9 r1.v) shStr h2 fun x1 =>
 Q x1 h2) h1) h
 else
 (if (bitSize == (64 : Int)) = true then
 MakeW 1 [(.int .u8 (0 : Int))] (0 : Int) (max2I (IntKind.wrap .i64 (prec + (4 : Int))) (24 : Int)) (fun r h1 =>
 CallT P zis [r.v, (.float .f64 f), (.int .u8 fmt), (.int .i64 prec)] shSl (fun r1 h2 =>
 SemV none P (convert 74 9 r1.v) shStr h2 fun x =>
 Q x h2) h1) h
 else
 False))

def zkj (P : Program) (s : ByteArray) (Q : (Int → (Leaf → (Hp → Prop)))) (h : Hp) : Prop :=
 LetW ((decide ((0 : Int) < (((ByteArray.size s) : Nat) : Int))) && (decide ((((ByteArray.size s) : Nat) : Int) < (10 : Int)))) fun y =>
 LetW (false && y) fun y1 =>
 LetW ((decide ((0 : Int) < (((ByteArray.size s) : Nat) : Int))) && (decide ((((ByteArray.size s) : Nat) : Int) < (19 : Int)))) fun y2 =>
 LetW (true && y2) fun y3 =>
 LetW (y1 || y3) fun y4 =>
 (if y4 = true then
 JoinW1 (α1 := ByteArray) (fun k =>
 (((0 : Int) ≤ (0 : Int) ∧ (0 : Int) < (((ByteArray.size s) : Nat) : Int)) ∧ (((!((((UInt8.toNat (List.getD s.data.toList 0 0)) : Nat) : Int) == (45 : Int))) = true → ((0 : Int) ≤ (0 : Int) ∧ (0 : Int) < (((ByteArray.size s) : Nat) : Int))) ∧ LetW (((((UInt8.toNat (List.getD s.data.toList 0 0)) : Nat) : Int) == (45 : Int)) || ((((UInt8.toNat (List.getD s.data.toList 0 0)) : Nat) : Int) == (43 : Int))) fun y5 =>
 (if y5 = true then
 (((0 : Int) ≤ (1 : Int) ∧ (1 : Int) ≤ (((ByteArray.size s) : Nat) : Int)) ∧ (if (decide ((((ByteArray.size (ByteArray.extract s 1 (ByteArray.size s))) : Nat) : Int) < (1 : Int))) = true then
 EncW zaj (.iface 122 (.int .i64 (2 : Int))) fun e =>
 Q (0 : Int) e h
 else
 k (ByteArray.extract s 1 (ByteArray.size s)) h))
 else
 k s h))))
 (fun s1 h1 =>
 zil1 s1 (fun r h2 =>
 LoopW2 (α1 := Int) (α2 := Int) (fun again n t49 h3 =>
 (if (decide (t49 < ((r.len : Nat) : Int))) = true then
 ((InB r.base r.len t49) ∧ LdW none (shInt .u8) h3 (sat r.base 1 t49) fun x =>
 (if (decide ((IntKind.wrap .u8 (x - (48 : Int))) > (9 : Int))) = true then
 EncW zaj (.iface 122 (.int .i64 (2 : Int))) fun e =>
 Q (0 : Int) e h3
 else
 again (IntKind.wrap .i64 ((IntKind.wrap .i64 (n * (10 : Int))) + (IntKind.wrap .i64 (IntKind.wrap .u8 (x - (48 : Int)))))) (IntKind.wrap .i64 (t49 + (1 : Int))) h3))
 else
 (((0 : Int) ≤ (0 : Int) ∧ (0 : Int) < (((ByteArray.size s) : Nat) : Int)) ∧ (if ((((UInt8.toNat (List.getD s.data.toList 0 0)) : Nat) : Int) == (45 : Int)) = true then
 EncW zaj .nilIface fun e =>
 Q (IntKind.wrap .i64 ((0 : Int) - n)) e h3
 else
 EncW zaj .nilIface fun e =>
 Q n e h3)))) (0 : Int) (0 : Int) h2) h1)
 else
 Call2 P zos [(.string s), (.int .i64 (10 : Int)), (.int .i64 (0 : Int))] (shInt .i64) zaj (fun r r1 h1 =>
 EncW zaj r1.v fun e =>
 Q r e h1) h)

def zkk (P : Program) (i : Int) (Q : (ByteArray → (Hp → Prop))) (h : Hp) : Prop :=
 CallT P zhi [(.int .i64 i), (.int .i64 (10 : Int))] shStr (fun r h1 =>
 Q r h1) h

def zdf (P : Program) (s : ByteArray) (prefix_ : ByteArray) (Q : (ByteArray → (Bool → (Hp → Prop)))) (h : Hp) : Prop :=
 CallT P zfu [(.string s), (.string prefix_)] zag (fun r h1 =>
 (if (!r) = true then
 Q s false h1
 else
 (((0 : Int) ≤ (((ByteArray.size prefix_) : Nat) : Int) ∧ (((ByteArray.size prefix_) : Nat) : Int) ≤ (((ByteArray.size s) : Nat) : Int)) ∧ Q (ByteArray.extract s (Int.toNat (((ByteArray.size prefix_) : Nat) : Int)) (ByteArray.size s)) true h1))) h

def zbv (P : Program) (s : ByteArray) (base : Int) (bitSize : Int) (Q : (Int → (Leaf → (Hp → Prop)))) (h : Hp) : Prop :=
 (if ((ByteArray.toList s) == (ByteArray.toList ⟨#[]⟩)) = true then
 EncW zaj (.iface 122 (.int .i64 (2 : Int))) fun e =>
 Q (0 : Int) e h
 else
 JoinW2 (α1 := ByteArray) (α2 := Int) (fun k =>
 LetW ((decide ((2 : Int) ≤ base)) && (decide (base ≤ (36 : Int)))) fun y =>
 (if y = true then
 k s base h
 else
 (if (base == (0 : Int)) = true then
 (((0 : Int) ≤ (0 : Int) ∧ (0 : Int) < (((ByteArray.size s) : Nat) : Int)) ∧ (if ((((UInt8.toNat (List.getD s.data.toList 0 0)) : Nat) : Int) == (48 : Int)) = true then
 JoinW2 (α1 := ByteArray) (α2 := Int) (fun k1 =>
 (((decide ((((ByteArray.size s) : Nat) : Int) ≥ (3 : Int))) = true → ((0 : Int) ≤ (1 : Int) ∧ (1 : Int) < (((ByteArray.size s) : Nat) : Int))) ∧ EffC (some (decide ((((ByteArray.size s) : Nat) : Int) ≥ (3 : Int)))) (CallT P zad [(.int .u8 (((UInt8.toNat (List.getD s.data.toList 1 0)) : Nat) : Int))] (shInt .u8)) (fun r h1 =>
 LetW ((decide ((((ByteArray.size s) : Nat) : Int) ≥ (3 : Int))) && (r == (98 : Int))) fun y1 =>
 (if y1 = true then
 (((0 : Int) ≤ (2 : Int) ∧ (2 : Int) ≤ (((ByteArray.size s) : Nat) : Int)) ∧ k1 (ByteArray.extract s 2 (ByteArray.size s)) (2 : Int) h1)
 else
 (((decide ((((ByteArray.size s) : Nat) : Int) ≥ (3 : Int))) = true → ((0 : Int) ≤ (1 : Int) ∧ (1 : Int) < (((ByteArray.size s) : Nat) : Int))) ∧ EffC (some (decide ((((ByteArray.size s) : Nat) : Int) ≥ (3 : Int)))) (CallT P zad [(.int .u8 (((UInt8.toNat (List.getD s.data.toList 1 0)) : Nat) : Int))] (shInt .u8)) (fun r1 h2 =>
 LetW ((decide ((((ByteArray.size s) : Nat) : Int) ≥ (3 : Int))) && (r1 == (111 : Int))) fun y2 =>
 (if y2 = true then
 (((0 : Int) ≤ (2 : Int) ∧ (2 : Int) ≤ (((ByteArray.size s) : Nat) : Int)) ∧ k1 (ByteArray.extract s 2 (ByteArray.size s)) (8 : Int) h2)
 else
 (((decide ((((ByteArray.size s) : Nat) : Int) ≥ (3 : Int))) = true → ((0 : Int) ≤ (1 : Int) ∧ (1 : Int) < (((ByteArray.size s) : Nat) : Int))) ∧ EffC (some (decide ((((ByteArray.size s) : Nat) : Int) ≥ (3 : Int)))) (CallT P zad [(.int .u8 (((UInt8.toNat (List.getD s.data.toList 1 0)) : Nat) : Int))] (shInt .u8)) (fun r2 h3 =>
 LetW ((decide ((((ByteArray.size s) : Nat) : Int) ≥ (3 : Int))) && (r2 == (120 : Int))) fun y3 =>
 (if y3 = true then
 (((0 : Int) ≤ (2 : Int) ∧ (2 : Int) ≤ (((ByteArray.size s) : Nat) : Int)) ∧ k1 (ByteArray.extract s 2 (ByteArray.size s)) (16 : Int) h3)
 else
 (((0 : Int) ≤ (1 : Int) ∧ (1 : Int) ≤ (((ByteArray.size s) : Nat) : Int)) ∧ k1 (ByteArray.extract s 1 (ByteArray.size s)) (8 : Int) h3))) h2))) h1))) h))
 (fun s1 base1 h1 =>
 k s1 base1 h1)
 else
 k s (10 : Int) h))
 else
 EncW zaj (.iface 122 (.int .i64 (3 : Int))) fun e =>
 Q (0 : Int) e h)))
 (fun s1 base1 h1 =>
 JoinW1 (α1 := Int) (fun k =>
 (if (bitSize == (0 : Int)) = true then
 k (64 : Int) h1
 else
 LetW ((decide (bitSize < (0 : Int))) || (decide (bitSize > (64 : Int)))) fun y =>
 (if y = true then
 EncW zaj (.iface 122 (.int .i64 (4 : Int))) fun e =>
 Q (0 : Int) e h1
 else
 k bitSize h1)))
 (fun bitSize1 h2 =>
 JoinW1 (α1 := Int) (fun k =>
 (if (base1 == (10 : Int)) = true then
 k (1844674407370955162 : Int) h2
 else
 (if (base1 == (16 : Int)) = true then
 k (1152921504606846976 : Int) h2
 else
 ((IntKind.wrap .u64 base1) ≠ (0 : Int) ∧ k (IntKind.wrap .u64 ((IntKind.wrap .u64 (Int.tdiv (18446744073709551615 : Int) (IntKind.wrap .u64 base1))) + (1 : Int))) h2))))
 (fun cutoff h3 =>
 ((0 : Int) ≤ (IntKind.wrap .u64 bitSize1) ∧ zil1 s1 (fun r h4 =>
 LoopW3 (α1 := Bool) (α2 := Int) (α3 := Int) (fun again underscores n t101 h5 =>
 (if (decide (t101 < ((r.len : Nat) : Int))) = true then
 JoinW2 (α1 := Bool) (α2 := Int) (fun k =>
 ((InB r.base r.len t101) ∧ LdW none (shInt .u8) h5 (sat r.base 1 t101) fun x =>
 JoinW2 (α1 := Bool) (α2 := Int) (fun k1 =>
 LetW ((x == (95 : Int)) && (base == (0 : Int))) fun y =>
 (if y = true then
 k true n h5
 else
 LetW ((decide ((48 : Int) ≤ x)) && (decide (x ≤ (57 : Int)))) fun y1 =>
 (if y1 = true then
 k1 underscores (IntKind.wrap .u8 (x - (48 : Int))) h5
 else
 CallT P zad [(.int .u8 x)] (shInt .u8) (fun r1 h6 =>
 EffC (some (decide ((97 : Int) ≤ r1))) (CallT P zad [(.int .u8 x)] (shInt .u8)) (fun r2 h7 =>
 LetW ((decide ((97 : Int) ≤ r1)) && (decide (r2 ≤ (122 : Int)))) fun y2 =>
 (if y2 = true then
 CallT P zad [(.int .u8 x)] (shInt .u8) (fun r3 h8 =>
 k1 underscores (IntKind.wrap .u8 ((IntKind.wrap .u8 (r3 - (97 : Int))) + (10 : Int))) h8) h7
 else
 EncW zaj (.iface 122 (.int .i64 (2 : Int))) fun e =>
 Q (0 : Int) e h7)) h6) h5)))
 (fun underscores1 d h6 =>
 (if (decide (d ≥ (IntKind.wrap .u8 base1))) = true then
 EncW zaj (.iface 122 (.int .i64 (2 : Int))) fun e =>
 Q (0 : Int) e h6
 else
 (if (decide (n ≥ cutoff)) = true then
 EncW zaj (.iface 122 (.int .i64 (1 : Int))) fun e =>
 Q (IntKind.wrap .u64 ((shlI .u64 (1 : Int) (IntKind.wrap .u64 bitSize1)) - (1 : Int))) e h6
 else
 LetW ((decide ((IntKind.wrap .u64 ((IntKind.wrap .u64 (n * (IntKind.wrap .u64 base1))) + (IntKind.wrap .u64 d))) < (IntKind.wrap .u64 (n * (IntKind.wrap .u64 base1))))) || (decide ((IntKind.wrap .u64 ((IntKind.wrap .u64 (n * (IntKind.wrap .u64 base1))) + (IntKind.wrap .u64 d))) > (IntKind.wrap .u64 ((shlI .u64 (1 : Int) (IntKind.wrap .u64 bitSize1)) - (1 : Int)))))) fun y =>
 (if y = true then
 EncW zaj (.iface 122 (.int .i64 (1 : Int))) fun e =>
 Q (IntKind.wrap .u64 ((shlI .u64 (1 : Int) (IntKind.wrap .u64 bitSize1)) - (1 : Int))) e h6
 else
 k underscores1 (IntKind.wrap .u64 ((IntKind.wrap .u64 (n * (IntKind.wrap .u64 base1))) + (IntKind.wrap .u64 d))) h6))))))
 (fun underscores1 n1 h6 =>
 again underscores1 n1 (IntKind.wrap .i64 (t101 + (1 : Int))) h6)
 else
 EffC (some underscores) (CallT P zdm [(.string s)] zag) (fun r1 h6 =>
 LetW (underscores && (!r1)) fun y =>
 (if y = true then
 EncW zaj (.iface 122 (.int .i64 (2 : Int))) fun e =>
 Q (0 : Int) e h6
 else
 EncW zaj .nilIface fun e =>
 Q n e h6)) h5)) false (0 : Int) (0 : Int) h4) h3)))))

def zcm (P : Program) (s : ByteArray) (bitSize : Int) (Q : (Nat → (Leaf → (Hp → Prop)))) (h : Hp) : Prop :=
 Call3 P zcn [(.string s), (.int .i64 bitSize)] (shFlt .f64) (shInt .i64) zaj (fun r r1 r2 h1 =>
 (if (r1 != (((ByteArray.size s) : Nat) : Int)) = true then
 EncW zaj (.iface 122 (.int .i64 (2 : Int))) fun e =>
 Q 0 e h1
 else
 EncW zaj r2.v fun e =>
 Q r e h1)) h

def zwm (P : Program) (f : Nat) (Q : (Int → (Hp → Prop))) (h : Hp) : Prop :=
 SemV none P (binS .neq 48 (.tmp 3) (.tmp 4) (.float .f64 f) (.float .f64 f)) zag h fun x =>
 (if x = true then
 Q (9221120237041090560 : Int) h
 else
 SemE P (Extern.MathFloatBits.float64bits #[(.float .f64 f)]) (shInt .u64) (fun r h1 =>
 Q (IntKind.wrap .i64 r) h1) h)

def zuw (P : Program) (f : Nat) (Q : (Int → (Hp → Prop))) (h : Hp) : Prop :=
 SemV none P (binS .neq 48 (.tmp 4) (.tmp 5) (.float .f64 f) (.float .f64 f)) zag h fun x =>
 (if x = true then
 Q (0 : Int) h
 else
 SemV none P (binS .geq 48 (.tmp 8) (.const (.float .f64 4890909195324358656)) (.float .f64 f) (.float .f64 4890909195324358656)) zag h fun x1 =>
 (if x1 = true then
 Q (9223372036854775807 : Int) h
 else
 SemV none P (binS .lss 48 (.tmp 11) (.const (.float .f64 14114281232179134464)) (.float .f64 f) (.float .f64 14114281232179134464)) zag h fun x2 =>
 (if x2 = true then
 Q (-9223372036854775808 : Int) h
 else
 SemV none P (convert 48 2 (.float .f64 f)) (shInt .i64) h fun x3 =>
 Q x3 h)))

def zgz (P : Program) (i : Int) (base : Int) (Q : (ByteArray → (Hp → Prop))) (h : Hp) : Prop :=
 (if (base == (10 : Int)) = true then
 (if (decide (i < (100 : Int))) = true then
 CallT P zge [(.int .i64 (IntKind.wrap .i64 i))] shStr (fun r h1 =>
 Q r h1) h
 else
 NewW [(.int .u8 (0 : Int)), (.int .u8 (0 : Int)), (.int .u8 (0 : Int)), (.int .u8 (0 : Int)), (.int .u8 (0 : Int)), (.int .u8 (0 : Int)), (.int .u8 (0 : Int)), (.int .u8 (0 : Int)), (.int .u8 (0 : Int)), (.int .u8 (0 : Int)), (.int .u8 (0 : Int)), (.int .u8 (0 : Int)), (.int .u8 (0 : Int)), (.int .u8 (0 : Int)), (.int .u8 (0 : Int)), (.int .u8 (0 : Int)), (.int .u8 (0 : Int)), (.int .u8 (0 : Int)), (.int .u8 (0 : Int)), (.int .u8 (0 : Int)), (.int .u8 (0 : Int)), (.int .u8 (0 : Int)), (.int .u8 (0 : Int)), (.int .u8 (0 : Int))] (fun a h1 =>
 CallT P zbu [(.int .u64 i)] (shInt .i64) (fun r h2 =>
 (((0 : Int) ≤ r ∧ r ≤ (24 : Int)) ∧ LetW (α := Sl) ⟨(sbase (some a) 1 0 24), ((Int.toNat r) - 0), 24⟩ fun y =>
 Call0 P zbf [y.v, (.int .u64 i)] (fun h3 =>
 (((0 : Int) ≤ r ∧ r ≤ (24 : Int)) ∧ LetW (α := Sl) ⟨(sbase (some a) 1 0 24), ((Int.toNat r) - 0), 24⟩ fun y1 =>
 SemV none P (convert 74 9 y1.v) shStr h3 fun x =>
 Q x h3)) h2)) h1) h)
 else
 Call2 P zck [(.slice none 0 0), (.int .u64 i), (.int .i64 base), (.bool false), (.bool false)] shSl shStr (fun r r1 h1 =>
 Q r1 h1) h)

def zhj (P : Program) (s : ByteArray) (substr : ByteArray) (Q : (Int → (Hp → Prop))) (h : Hp) : Prop :=
 LetW (((((ByteArray.size substr) : Nat) : Int) == (0 : Int)) || ((ByteArray.toList substr) == (ByteArray.toList s))) fun y =>
 (if y = true then
 Q (0 : Int) h
 else
 (if ((((ByteArray.size substr) : Nat) : Int) == (1 : Int)) = true then
 (((0 : Int) ≤ (0 : Int) ∧ (0 : Int) < (((ByteArray.size substr) : Nat) : Int)) ∧ CallT P zdd [(.string s), (.int .u8 (((UInt8.toNat (List.getD substr.data.toList 0 0)) : Nat) : Int))] (shInt .i64) (fun r h1 =>
 Q r h1) h)
 else
 (if (decide ((((ByteArray.size substr) : Nat) : Int) ≥ (((ByteArray.size s) : Nat) : Int))) = true then
 Q (-1 : Int) h
 else
 LdW none (shInt .i64) h ⟨1, 0, none⟩ fun x =>
 LetW ((decide ((((ByteArray.size substr) : Nat) : Int) ≤ x)) && (decide ((((ByteArray.size s) : Nat) : Int) ≤ (64 : Int)))) fun y1 =>
 (if y1 = true then
 False
 else
 (((0 : Int) ≤ (0 : Int) ∧ (0 : Int) < (((ByteArray.size substr) : Nat) : Int)) ∧ (((0 : Int) ≤ (1 : Int) ∧ (1 : Int) < (((ByteArray.size substr) : Nat) : Int)) ∧ LoopW2 (α1 := Int) (α2 := Int) (fun again i fails h1 =>
 (if (decide (i < (IntKind.wrap .i64 ((IntKind.wrap .i64 ((((ByteArray.size s) : Nat) : Int) - (((ByteArray.size substr) : Nat) : Int))) + (1 : Int))))) = true then
 JoinW1 (α1 := Int) (fun k =>
 (((0 : Int) ≤ i ∧ i < (((ByteArray.size s) : Nat) : Int)) ∧ (if ((((UInt8.toNat (List.getD s.data.toList (Int.toNat i) 0)) : Nat) : Int) != (((UInt8.toNat (List.getD substr.data.toList 0 0)) : Nat) : Int)) = true then
 (((0 : Int) ≤ (IntKind.wrap .i64 (i + (1 : Int))) ∧ ((IntKind.wrap .i64 (i + (1 : Int))) ≤ (IntKind.wrap .i64 ((IntKind.wrap .i64 ((((ByteArray.size s) : Nat) : Int) - (((ByteArray.size substr) : Nat) : Int))) + (1 : Int))) ∧ (IntKind.wrap .i64 ((IntKind.wrap .i64 ((((ByteArray.size s) : Nat) : Int) - (((ByteArray.size substr) : Nat) : Int))) + (1 : Int))) ≤ (((ByteArray.size s) : Nat) : Int))) ∧ CallT P zdd [(.string (ByteArray.extract s (Int.toNat (IntKind.wrap .i64 (i + (1 : Int)))) (Int.toNat (IntKind.wrap .i64 ((IntKind.wrap .i64 ((((ByteArray.size s) : Nat) : Int) - (((ByteArray.size substr) : Nat) : Int))) + (1 : Int)))))), (.int .u8 (((UInt8.toNat (List.getD substr.data.toList 0 0)) : Nat) : Int))] (shInt .i64) (fun r h2 =>
 (if (decide (r < (0 : Int))) = true then
 Q (-1 : Int) h2
 else
 k (IntKind.wrap .i64 (i + (IntKind.wrap .i64 (r + (1 : Int))))) h2)) h1)
 else
 k i h1)))
 (fun i1 h2 =>
 (((0 : Int) ≤ (IntKind.wrap .i64 (i1 + (1 : Int))) ∧ (IntKind.wrap .i64 (i1 + (1 : Int))) < (((ByteArray.size s) : Nat) : Int)) ∧ ((((((UInt8.toNat (List.getD s.data.toList (Int.toNat (IntKind.wrap .i64 (i1 + (1 : Int)))) 0)) : Nat) : Int) == (((UInt8.toNat (List.getD substr.data.toList 1 0)) : Nat) : Int)) = true → ((0 : Int) ≤ i1 ∧ (i1 ≤ (IntKind.wrap .i64 (i1 + (((ByteArray.size substr) : Nat) : Int))) ∧ (IntKind.wrap .i64 (i1 + (((ByteArray.size substr) : Nat) : Int))) ≤ (((ByteArray.size s) : Nat) : Int)))) ∧ LetW (((((UInt8.toNat (List.getD s.data.toList (Int.toNat (IntKind.wrap .i64 (i1 + (1 : Int)))) 0)) : Nat) : Int) == (((UInt8.toNat (List.getD substr.data.toList 1 0)) : Nat) : Int)) && ((ByteArray.toList (ByteArray.extract s (Int.toNat i1) (Int.toNat (IntKind.wrap .i64 (i1 + (((ByteArray.size substr) : Nat) : Int)))))) == (ByteArray.toList substr))) fun y2 =>
 (if y2 = true then
 Q i1 h2
 else
 LdW none (shInt .i64) h2 ⟨1, 0, none⟩ fun x1 =>
 EffC (some (decide ((((ByteArray.size substr) : Nat) : Int) ≤ x1))) (CallT P zpf [(.int .i64 (IntKind.wrap .i64 (i1 + (1 : Int))))] (shInt .i64)) (fun r h3 =>
 LetW ((decide ((((ByteArray.size substr) : Nat) : Int) ≤ x1)) && (decide ((IntKind.wrap .i64 (fails + (1 : Int))) > r))) fun y3 =>
 (if y3 = true then
 (((0 : Int) ≤ (IntKind.wrap .i64 (i1 + (1 : Int))) ∧ (IntKind.wrap .i64 (i1 + (1 : Int))) ≤ (((ByteArray.size s) : Nat) : Int)) ∧ False)
 else
 LdW none (shInt .i64) h3 ⟨1, 0, none⟩ fun x2 =>
 (((decide ((((ByteArray.size substr) : Nat) : Int) > x2)) = true → (0 : Int) ≤ (4 : Int)) ∧ LetW ((decide ((((ByteArray.size substr) : Nat) : Int) > x2)) && (decide ((IntKind.wrap .i64 (fails + (1 : Int))) ≥ (IntKind.wrap .i64 ((4 : Int) + (shrI .i64 (IntKind.wrap .i64 (i1 + (1 : Int))) (4 : Int))))))) fun y4 =>
 LetW (y4 && (decide ((IntKind.wrap .i64 (i1 + (1 : Int))) < (IntKind.wrap .i64 ((IntKind.wrap .i64 ((((ByteArray.size s) : Nat) : Int) - (((ByteArray.size substr) : Nat) : Int))) + (1 : Int)))))) fun y5 =>
 (if y5 = true then
 (((0 : Int) ≤ (IntKind.wrap .i64 (i1 + (1 : Int))) ∧ (IntKind.wrap .i64 (i1 + (1 : Int))) ≤ (((ByteArray.size s) : Nat) : Int)) ∧ CallT P zhn [(.string (ByteArray.extract s (Int.toNat (IntKind.wrap .i64 (i1 + (1 : Int)))) (ByteArray.size s))), (.string substr)] (shInt .i64) (fun r1 h4 =>
 (if (decide (r1 < (0 : Int))) = true then
 Q (-1 : Int) h4
 else
 Q (IntKind.wrap .i64 ((IntKind.wrap .i64 (i1 + (1 : Int))) + r1)) h4)) h3)
 else
 again (IntKind.wrap .i64 (i1 + (1 : Int))) (IntKind.wrap .i64 (fails + (1 : Int))) h3)))) h2))))
 else
 Q (-1 : Int) h1)) (0 : Int) (0 : Int) h))))))

def zds (P : Program) (dst : Sl) (val : Nat) (fmt : Int) (prec : Int) (Q : (Sl → (Hp → Prop))) (h : Hp) : Prop :=
 JoinW4 (α1 := Int) (α2 := Int) (α3 := Int) (α4 := Int) (fun k =>
 SemE P (Extern.MathFloatBits.float64bits #[(.float .f64 val)]) (shInt .u64) (fun r h1 =>
 k r (11 : Int) (52 : Int) (-1023 : Int) h1) h)
 (fun b expBits mantBits bias h1 =>
 ((0 : Int) ≤ (IntKind.wrap .i64 (expBits + mantBits)) ∧ ((0 : Int) ≤ mantBits ∧ ((0 : Int) ≤ expBits ∧ ((0 : Int) ≤ mantBits ∧ ((0 : Int) ≤ expBits ∧ (if ((bitsI .and .i64 (IntKind.wrap .i64 (shrI .u64 b mantBits)) (IntKind.wrap .i64 ((shlI .i64 (1 : Int) expBits) - (1 : Int)))) == (IntKind.wrap .i64 ((shlI .i64 (1 : Int) expBits) - (1 : Int)))) = true then
 (if ((bitsI .and .u64 b (IntKind.wrap .u64 ((shlI .u64 (1 : Int) mantBits) - (1 : Int)))) != (0 : Int)) = true then
 ztp 5 dst ⟨#[78, 97, 78]⟩ (fun r h2 =>
 Q r h2) h1
 else
 (if ((shrI .u64 b (IntKind.wrap .i64 (expBits + mantBits))) != (0 : Int)) = true then
 ztp 5 dst ⟨#[45, 73, 110, 102]⟩ (fun r h2 =>
 Q r h2) h1
 else
 ztp 5 dst ⟨#[43, 73, 110, 102]⟩ (fun r h2 =>
 Q r h2) h1))
 else
 JoinW2 (α1 := Int) (α2 := Int) (fun k =>
 (if ((bitsI .and .i64 (IntKind.wrap .i64 (shrI .u64 b mantBits)) (IntKind.wrap .i64 ((shlI .i64 (1 : Int) expBits) - (1 : Int)))) == (0 : Int)) = true then
 k (IntKind.wrap .i64 ((bitsI .and .i64 (IntKind.wrap .i64 (shrI .u64 b mantBits)) (IntKind.wrap .i64 ((shlI .i64 (1 : Int) expBits) - (1 : Int)))) + (1 : Int))) (bitsI .and .u64 b (IntKind.wrap .u64 ((shlI .u64 (1 : Int) mantBits) - (1 : Int)))) h1
 else
 ((0 : Int) ≤ mantBits ∧ k (bitsI .and .i64 (IntKind.wrap .i64 (shrI .u64 b mantBits)) (IntKind.wrap .i64 ((shlI .i64 (1 : Int) expBits) - (1 : Int)))) (bitsI .or .u64 (bitsI .and .u64 b (IntKind.wrap .u64 ((shlI .u64 (1 : Int) mantBits) - (1 : Int)))) (shlI .u64 (1 : Int) mantBits)) h1)))
 (fun exp mant h2 =>
 (if (fmt == (98 : Int)) = true then
 CallT P zsa [dst.v, (.bool ((shrI .u64 b (IntKind.wrap .i64 (expBits + mantBits))) != (0 : Int))), (.int .u64 mant), (.int .i64 (IntKind.wrap .i64 ((IntKind.wrap .i64 (exp + bias)) - mantBits)))] shSl (fun r h3 =>
 Q r h3) h2
 else
 LetW ((fmt == (120 : Int)) || (fmt == (88 : Int))) fun y =>
 (if y = true then
 CallT P zsb [dst.v, (.int .i64 prec), (.int .u8 fmt), (.bool ((shrI .u64 b (IntKind.wrap .i64 (expBits + mantBits))) != (0 : Int))), (.int .u64 mant), (.int .i64 (IntKind.wrap .i64 (exp + bias))), (.int .i64 mantBits)] shSl (fun r h3 =>
 Q r h3) h2
 else
 (if (mant == (0 : Int)) = true then
 CallT P zcf [dst.v, (.bool ((shrI .u64 b (IntKind.wrap .i64 (expBits + mantBits))) != (0 : Int))), (.slice none 0 0), (.int .i64 (0 : Int)), (.int .i64 (0 : Int)), (.int .i64 prec), (.int .u8 fmt), (.bool (decide (prec < (0 : Int))))] shSl (fun r h3 =>
 Q r h3) h2
 else
 (if (decide (prec < (0 : Int))) = true then
 NewW [(.int .u8 (0 : Int)), (.int .u8 (0 : Int)), (.int .u8 (0 : Int)), (.int .u8 (0 : Int)), (.int .u8 (0 : Int)), (.int .u8 (0 : Int)), (.int .u8 (0 : Int)), (.int .u8 (0 : Int)), (.int .u8 (0 : Int)), (.int .u8 (0 : Int)), (.int .u8 (0 : Int)), (.int .u8 (0 : Int)), (.int .u8 (0 : Int)), (.int .u8 (0 : Int)), (.int .u8 (0 : Int)), (.int .u8 (0 : Int)), (.int .u8 (0 : Int)), (.int .u8 (0 : Int)), (.int .u8 (0 : Int)), (.int .u8 (0 : Int)), (.int .u8 (0 : Int)), (.int .u8 (0 : Int)), (.int .u8 (0 : Int)), (.int .u8 (0 : Int)), (.int .u8 (0 : Int)), (.int .u8 (0 : Int)), (.int .u8 (0 : Int)), (.int .u8 (0 : Int)), (.int .u8 (0 : Int)), (.int .u8 (0 : Int)), (.int .u8 (0 : Int)), (.int .u8 (0 : Int))] (fun a h3 =>
 CallT P zgf [(.int .u64 mant)] (shInt .i64) (fun r h4 =>
 ((0 : Int) ≤ (IntKind.wrap .i64 ((64 : Int) - r)) ∧ Call2 P zcc [(.int .u64 (shlI .u64 mant (IntKind.wrap .i64 ((64 : Int) - r)))), (.int .i64 (IntKind.wrap .i64 ((IntKind.wrap .i64 ((IntKind.wrap .i64 (exp + bias)) - (IntKind.wrap .i64 ((64 : Int) - r)))) - mantBits)))] (shInt .u64) (shInt .i64) (fun r1 r2 h5 =>
 LetW (α := Sl) ⟨(sbase (some a) 1 0 32), 32, 32⟩ fun y1 =>
 CallT P zbu [(.int .u64 r1)] (shInt .i64) (fun r3 h6 =>
 Call2 P zcq [y1.v, (.int .u64 r1), (.int .i64 r2), (.int .i64 r3)] (shInt .i64) (shInt .i64) (fun r4 r5 h7 =>
 JoinW1 (α1 := Int) (fun k =>
 JoinW1 (α1 := Bool) (fun k1 =>
 (if (fmt == (101 : Int)) = true then
 k1 (fmt == (101 : Int)) h7
 else
 k1 (fmt == (69 : Int)) h7))
 (fun t149 h8 =>
 (if t149 = true then
 k (max2I (IntKind.wrap .i64 (r5 - (1 : Int))) (0 : Int)) h8
 else
 (if (fmt == (102 : Int)) = true then
 k (max2I (IntKind.wrap .i64 (r5 - r4)) (0 : Int)) h8
 else
 JoinW1 (α1 := Bool) (fun k1 =>
 (if (fmt == (103 : Int)) = true then
 k1 (fmt == (103 : Int)) h8
 else
 k1 (fmt == (71 : Int)) h8))
 (fun t161 h9 =>
 (if t161 = true then
 k r5 h9
 else
 k prec h9))))))
 (fun prec1 h8 =>
 LetW (α := Sl) ⟨(sbase (some a) 1 0 32), 32, 32⟩ fun y2 =>
 CallT P zcf [dst.v, (.bool ((shrI .u64 b (IntKind.wrap .i64 (expBits + mantBits))) != (0 : Int))), y2.v, (.int .i64 r4), (.int .i64 r5), (.int .i64 prec1), (.int .u8 fmt), (.bool true)] shSl (fun r6 h9 =>
 Q r6 h9) h8)) h6) h5) h4)) h3) h2
 else
 JoinW1 (α1 := Int) (fun k =>
 LdW none zag h2 ⟨2, 0, none⟩ fun x =>
 (if x = true then
 JoinW2 (α1 := Int) (α2 := Int) (fun k1 =>
 (if (fmt == (102 : Int)) = true then
 (if (decide ((IntKind.wrap .i64 (exp + bias)) ≥ (0 : Int))) = true then
 CallT P zba [(.int .i64 (IntKind.wrap .i64 ((1 : Int) + (IntKind.wrap .i64 (exp + bias)))))] (shInt .i64) (fun r h3 =>
 k1 prec (IntKind.wrap .i64 ((IntKind.wrap .i64 ((1 : Int) + r)) + prec)) h3) h2
 else
 CallT P zba [(.int .i64 (IntKind.wrap .i64 ((0 : Int) - (IntKind.wrap .i64 (exp + bias)))))] (shInt .i64) (fun r h3 =>
 k1 prec (IntKind.wrap .i64 ((IntKind.wrap .i64 ((1 : Int) + prec)) - r)) h3) h2)
 else
 JoinW1 (α1 := Bool) (fun k2 =>
 (if (fmt == (101 : Int)) = true then
 k2 (fmt == (101 : Int)) h2
 else
 k2 (fmt == (69 : Int)) h2))
 (fun t192 h3 =>
 (if t192 = true then
 k1 prec (IntKind.wrap .i64 (prec + (1 : Int))) h3
 else
 JoinW1 (α1 := Bool) (fun k2 =>
 (if (fmt == (103 : Int)) = true then
 k2 (fmt == (103 : Int)) h3
 else
 k2 (fmt == (71 : Int)) h3))
 (fun t197 h4 =>
 (if t197 = true then
 JoinW1 (α1 := Int) (fun k2 =>
 (if (prec == (0 : Int)) = true then
 k2 (1 : Int) h4
 else
 k2 prec h4))
 (fun prec1 h5 =>
 k1 prec1 prec1 h5)
 else
 k1 prec (1 : Int) h4))))))
 (fun prec1 digits h3 =>
 (if (decide (digits ≤ (18 : Int))) = true then
 NewW [(.int .u8 (0 : Int)), (.int .u8 (0 : Int)), (.int .u8 (0 : Int)), (.int .u8 (0 : Int)), (.int .u8 (0 : Int)), (.int .u8 (0 : Int)), (.int .u8 (0 : Int)), (.int .u8 (0 : Int)), (.int .u8 (0 : Int)), (.int .u8 (0 : Int)), (.int .u8 (0 : Int)), (.int .u8 (0 : Int)), (.int .u8 (0 : Int)), (.int .u8 (0 : Int)), (.int .u8 (0 : Int)), (.int .u8 (0 : Int)), (.int .u8 (0 : Int)), (.int .u8 (0 : Int)), (.int .u8 (0 : Int)), (.int .u8 (0 : Int)), (.int .u8 (0 : Int)), (.int .u8 (0 : Int)), (.int .u8 (0 : Int)), (.int .u8 (0 : Int))] (fun a h4 =>
 JoinW2 (α1 := Int) (α2 := Int) (fun k1 =>
 (if (decide (digits > (0 : Int))) = true then
 CallT P zgf [(.int .u64 mant)] (shInt .i64) (fun r h5 =>
 ((0 : Int) ≤ (IntKind.wrap .i64 ((64 : Int) - r)) ∧ Call2 P zjq [(.int .u64 (shlI .u64 mant (IntKind.wrap .i64 ((64 : Int) - r)))), (.int .i64 (IntKind.wrap .i64 ((IntKind.wrap .i64 ((IntKind.wrap .i64 (exp + bias)) - (IntKind.wrap .i64 ((64 : Int) - r)))) - mantBits))), (.int .i64 digits), (.int .i64 prec1), (.int .u8 fmt)] (shInt .u64) (shInt .i64) (fun r1 r2 h6 =>
 (if (r1 != (0 : Int)) = true then
 LetW (α := Sl) ⟨(sbase (some a) 1 0 24), 24, 24⟩ fun y1 =>
 CallT P zbu [(.int .u64 r1)] (shInt .i64) (fun r3 h7 =>
 Call2 P zcq [y1.v, (.int .u64 r1), (.int .i64 r2), (.int .i64 r3)] (shInt .i64) (shInt .i64) (fun r4 r5 h8 =>
 k1 r4 r5 h8) h7) h6
 else
 k1 (0 : Int) (0 : Int) h6)) h5)) h4
 else
 k1 (0 : Int) (0 : Int) h4))
 (fun dp nd h5 =>
 LetW (α := Sl) ⟨(sbase (some a) 1 0 24), 24, 24⟩ fun y1 =>
 CallT P zcf [dst.v, (.bool ((shrI .u64 b (IntKind.wrap .i64 (expBits + mantBits))) != (0 : Int))), y1.v, (.int .i64 dp), (.int .i64 nd), (.int .i64 prec1), (.int .u8 fmt), (.bool false)] shSl (fun r h6 =>
 Q r h6) h5)) h3
 else
 k prec1 h3))
 else
 k prec h2))
 (fun prec1 h3 =>
 NewW [(.int .u8 (0 : Int)), (.int .u8 (0 : Int)), (.int .u8 (0 : Int)), (.int .u8 (0 : Int)), (.int .u8 (0 : Int)), (.int .u8 (0 : Int)), (.int .u8 (0 : Int)), (.int .u8 (0 : Int)), (.int .u8 (0 : Int)), (.int .u8 (0 : Int)), (.int .u8 (0 : Int)), (.int .u8 (0 : Int)), (.int .u8 (0 : Int)), (.int .u8 (0 : Int)), (.int .u8 (0 : Int)), (.int .u8 (0 : Int)), (.int .u8 (0 : Int)), (.int .u8 (0 : Int)), (.int .u8 (0 : Int)), (.int .u8 (0 : Int)), (.int .u8 (0 : Int)), (.int .u8 (0 : Int)), (.int .u8 (0 : Int)), (.int .u8 (0 : Int)), (.int .u8 (0 : Int)), (.int .u8 (0 : Int)), (.int .u8 (0 : Int)), (.int .u8 (0 : Int)), (.int .u8 (0 : Int)), (.int .u8 (0 : Int)), (.int .u8 (0 : Int)), (.int .u8 (0 : Int)), (.int .u8 (0 : Int)), (.int .u8 (0 : Int)), (.int .u8 (0 : Int)), (.int .u8 (0 : Int)), (.int .u8 (0 : Int)), (.int .u8 (0 : Int)), (.int .u8 (0 : Int)), (.int .u8 (0 : Int)), (.int .u8 (0 : Int)), (.int .u8 (0 : Int)), (.int .u8 (0 : Int)), (.int .u8 (0 : Int)), (.int .u8 (0 : Int)), (.int .u8 (0 : Int)), (.int .u8 (0 : Int)), (.int .u8 (0 : Int)), (.int .u8 (0 : Int)), (.int .u8 (0 : Int)), (.int .u8 (0 : Int)), (.int .u8 (0 : Int)), (.int .u8 (0 : Int)), (.int .u8 (0 : Int)), (.int .u8 (0 : Int)), (.int .u8 (0 : Int)), (.int .u8 (0 : Int)), (.int .u8 (0 : Int)), (.int .u8 (0 : Int)), (.int .u8 (0 : Int)), (.int .u8 (0 : Int)), (.int .u8 (0 : Int)), (.int .u8 (0 : Int)), (.int .u8 (0 : Int)), (.int .u8 (0 : Int)), (.int .u8 (0 : Int)), (.int .u8 (0 : Int)), (.int .u8 (0 : Int)), (.int .u8 (0 : Int)), (.int .u8 (0 : Int)), (.int .u8 (0 : Int)), (.int .u8 (0 : Int)), (.int .u8 (0 : Int)), (.int .u8 (0 : Int)), (.int .u8 (0 : Int)), (.int .u8 (0 : Int)), (.int .u8 (0 : Int)), (.int .u8 (0 : Int)), (.int .u8 (0 : Int)), (.int .u8 (0 : Int)), (.int .u8 (0 : Int)), (.int .u8 (0 : Int)), (.int .u8 (0 : Int)), (.int .u8 (0 : Int)), (.int .u8 (0 : Int)), (.int .u8 (0 : Int)), (.int .u8 (0 : Int)), (.int .u8 (0 : Int)), (.int .u8 (0 : Int)), (.int .u8 (0 : Int)), (.int .u8 (0 : Int)), (.int .u8 (0 : Int)), (.int .u8 (0 : Int)), (.int .u8 (0 : Int)), (.int .u8 (0 : Int)), (.int .u8 (0 : Int)), (.int .u8 (0 : Int)), (.int .u8 (0 : Int)), (.int .u8 (0 : Int)), (.int .u8 (0 : Int)), (.int .u8 (0 : Int)), (.int .u8 (0 : Int)), (.int .u8 (0 : Int)), (.int .u8 (0 : Int)), (.int .u8 (0 : Int)), (.int .u8 (0 : Int)), (.int .u8 (0 : Int)), (.int .u8 (0 : Int)), (.int .u8 (0 : Int)), (.int .u8 (0 : Int)), (.int .u8 (0 : Int)), (.int .u8 (0 : Int)), (.int .u8 (0 : Int)), (.int .u8 (0 : Int)), (.int .u8 (0 : Int)), (.int .u8 (0 : Int)), (.int .u8 (0 : Int)), (.int .u8 (0 : Int)), (.int .u8 (0 : Int)), (.int .u8 (0 : Int)), (.int .u8 (0 : Int)), (.int .u8 (0 : Int)), (.int .u8 (0 : Int)), (.int .u8 (0 : Int)), (.int .u8 (0 : Int)), (.int .u8 (0 : Int)), (.int .u8 (0 : Int)), (.int .u8 (0 : Int)), (.int .u8 (0 : Int)), (.int .u8 (0 : Int)), (.int .u8 (0 : Int)), (.int .u8 (0 : Int)), (.int .u8 (0 : Int)), (.int .u8 (0 : Int)), (.int .u8 (0 : Int)), (.int .u8 (0 : Int)), (.int .u8 (0 : Int)), (.int .u8 (0 : Int)), (.int .u8 (0 : Int)), (.int .u8 (0 : Int)), (.int .u8 (0 : Int)), (.int .u8 (0 : Int)), (.int .u8 (0 : Int)), (.int .u8 (0 : Int)), (.int .u8 (0 : Int)), (.int .u8 (0 : Int)), (.int .u8 (0 : Int)), (.int .u8 (0 : Int)), (.int .u8 (0 : Int)), (.int .u8 (0 : Int)), (.int .u8 (0 : Int)), (.int .u8 (0 : Int)), (.int .u8 (0 : Int)), (.int .u8 (0 : Int)), (.int .u8 (0 : Int)), (.int .u8 (0 : Int)), (.int .u8 (0 : Int)), (.int .u8 (0 : Int)), (.int .u8 (0 : Int)), (.int .u8 (0 : Int)), (.int .u8 (0 : Int)), (.int .u8 (0 : Int)), (.int .u8 (0 : Int)), (.int .u8 (0 : Int)), (.int .u8 (0 : Int)), (.int .u8 (0 : Int)), (.int .u8 (0 : Int)), (.int .u8 (0 : Int)), (.int .u8 (0 : Int)), (.int .u8 (0 : Int)), (.int .u8 (0 : Int)), (.int .u8 (0 : Int)), (.int .u8 (0 : Int)), (.int .u8 (0 : Int)), (.int .u8 (0 : Int)), (.int .u8 (0 : Int)), (.int .u8 (0 : Int)), (.int .u8 (0 : Int)), (.int .u8 (0 : Int)), (.int .u8 (0 : Int)), (.int .u8 (0 : Int)), (.int .u8 (0 : Int)), (.int .u8 (0 : Int)), (.int .u8 (0 : Int)), (.int .u8 (0 : Int)), (.int .u8 (0 : Int)), (.int .u8 (0 : Int)), (.int .u8 (0 : Int)), (.int .u8 (0 : Int)), (.int .u8 (0 : Int)), (.int .u8 (0 : Int)), (.int .u8 (0 : Int)), (.int .u8 (0 : Int)), (.int .u8 (0 : Int)), (.int .u8 (0 : Int)), (.int .u8 (0 : Int)), (.int .u8 (0 : Int)), (.int .u8 (0 : Int)), (.int .u8 (0 : Int)), (.int .u8 (0 : Int)), (.int .u8 (0 : Int)), (.int .u8 (0 : Int)), (.int .u8 (0 : Int)), (.int .u8 (0 : Int)), (.int .u8 (0 : Int)), (.int .u8 (0 : Int)), (.int .u8 (0 : Int)), (.int .u8 (0 : Int)), (.int .u8 (0 : Int)), (.int .u8 (0 : Int)), (.int .u8 (0 : Int)), (.int .u8 (0 : Int)), (.int .u8 (0 : Int)), (.int .u8 (0 : Int)), (.int .u8 (0 : Int)), (.int .u8 (0 : Int)), (.int .u8 (0 : Int)), (.int .u8 (0 : Int)), (.int .u8 (0 : Int)), (.int .u8 (0 : Int)), (.int .u8 (0 : Int)), (.int .u8 (0 : Int)), (.int .u8 (0 : Int)), (.int .u8 (0 : Int)), (.int .u8 (0 : Int)), (.int .u8 (0 : Int)), (.int .u8 (0 : Int)), (.int .u8 (0 : Int)), (.int .u8 (0 : Int)), (.int .u8 (0 : Int)), (.int .u8 (0 : Int)), (.int .u8 (0 : Int)), (.int .u8 (0 : Int)), (.int .u8 (0 : Int)), (.int .u8 (0 : Int)), (.int .u8 (0 : Int)), (.int .u8 (0 : Int)), (.int .u8 (0 : Int)), (.int .u8 (0 : Int)), (.int .u8 (0 : Int)), (.int .u8 (0 : Int)), (.int .u8 (0 : Int)), (.int .u8 (0 : Int)), (.int .u8 (0 : Int)), (.int .u8 (0 : Int)), (.int .u8 (0 : Int)), (.int .u8 (0 : Int)), (.int .u8 (0 : Int)), (.int .u8 (0 : Int)), (.int .u8 (0 : Int)), (.int .u8 (0 : Int)), (.int .u8 (0 : Int)), (.int .u8 (0 : Int)), (.int .u8 (0 : Int)), (.int .u8 (0 : Int)), (.int .u8 (0 : Int)), (.int .u8 (0 : Int)), (.int .u8 (0 : Int)), (.int .u8 (0 : Int)), (.int .u8 (0 : Int)), (.int .u8 (0 : Int)), (.int .u8 (0 : Int)), (.int .u8 (0 : Int)), (.int .u8 (0 : Int)), (.int .u8 (0 : Int)), (.int .u8 (0 : Int)), (.int .u8 (0 : Int)), (.int .u8 (0 : Int)), (.int .u8 (0 : Int)), (.int .u8 (0 : Int)), (.int .u8 (0 : Int)), (.int .u8 (0 : Int)), (.int .u8 (0 : Int)), (.int .u8 (0 : Int)), (.int .u8 (0 : Int)), (.int .u8 (0 : Int)), (.int .u8 (0 : Int)), (.int .u8 (0 : Int)), (.int .u8 (0 : Int)), (.int .u8 (0 : Int)), (.int .u8 (0 : Int)), (.int .u8 (0 : Int)), (.int .u8 (0 : Int)), (.int .u8 (0 : Int)), (.int .u8 (0 : Int)), (.int .u8 (0 : Int)), (.int .u8 (0 : Int)), (.int .u8 (0 : Int)), (.int .u8 (0 : Int)), (.int .u8 (0 : Int)), (.int .u8 (0 : Int)), (.int .u8 (0 : Int)), (.int .u8 (0 : Int)), (.int .u8 (0 : Int)), (.int .u8 (0 : Int)), (.int .u8 (0 : Int)), (.int .u8 (0 : Int)), (.int .u8 (0 : Int)), (.int .u8 (0 : Int)), (.int .u8 (0 : Int)), (.int .u8 (0 : Int)), (.int .u8 (0 : Int)), (.int .u8 (0 : Int)), (.int .u8 (0 : Int)), (.int .u8 (0 : Int)), (.int .u8 (0 : Int)), (.int .u8 (0 : Int)), (.int .u8 (0 : Int)), (.int .u8 (0 : Int)), (.int .u8 (0 : Int)), (.int .u8 (0 : Int)), (.int .u8 (0 : Int)), (.int .u8 (0 : Int)), (.int .u8 (0 : Int)), (.int .u8 (0 : Int)), (.int .u8 (0 : Int)), (.int .u8 (0 : Int)), (.int .u8 (0 : Int)), (.int .u8 (0 : Int)), (.int .u8 (0 : Int)), (.int .u8 (0 : Int)), (.int .u8 (0 : Int)), (.int .u8 (0 : Int)), (.int .u8 (0 : Int)), (.int .u8 (0 : Int)), (.int .u8 (0 : Int)), (.int .u8 (0 : Int)), (.int .u8 (0 : Int)), (.int .u8 (0 : Int)), (.int .u8 (0 : Int)), (.int .u8 (0 : Int)), (.int .u8 (0 : Int)), (.int .u8 (0 : Int)), (.int .u8 (0 : Int)), (.int .u8 (0 : Int)), (.int .u8 (0 : Int)), (.int .u8 (0 : Int)), (.int .u8 (0 : Int)), (.int .u8 (0 : Int)), (.int .u8 (0 : Int)), (.int .u8 (0 : Int)), (.int .u8 (0 : Int)), (.int .u8 (0 : Int)), (.int .u8 (0 : Int)), (.int .u8 (0 : Int)), (.int .u8 (0 : Int)), (.int .u8 (0 : Int)), (.int .u8 (0 : Int)), (.int .u8 (0 : Int)), (.int .u8 (0 : Int)), (.int .u8 (0 : Int)), (.int .u8 (0 : Int)), (.int .u8 (0 : Int)), (.int .u8 (0 : Int)), (.int .u8 (0 : Int)), (.int .u8 (0 : Int)), (.int .u8 (0 : Int)), (.int .u8 (0 : Int)), (.int .u8 (0 : Int)), (.int .u8 (0 : Int)), (.int .u8 (0 : Int)), (.int .u8 (0 : Int)), (.int .u8 (0 : Int)), (.int .u8 (0 : Int)), (.int .u8 (0 : Int)), (.int .u8 (0 : Int)), (.int .u8 (0 : Int)), (.int .u8 (0 : Int)), (.int .u8 (0 : Int)), (.int .u8 (0 : Int)), (.int .u8 (0 : Int)), (.int .u8 (0 : Int)), (.int .u8 (0 : Int)), (.int .u8 (0 : Int)), (.int .u8 (0 : Int)), (.int .u8 (0 : Int)), (.int .u8 (0 : Int)), (.int .u8 (0 : Int)), (.int .u8 (0 : Int)), (.int .u8 (0 : Int)), (.int .u8 (0 : Int)), (.int .u8 (0 : Int)), (.int .u8 (0 : Int)), (.int .u8 (0 : Int)), (.int .u8 (0 : Int)), (.int .u8 (0 : Int)), (.int .u8 (0 : Int)), (.int .u8 (0 : Int)), (.int .u8 (0 : Int)), (.int .u8 (0 : Int)), (.int .u8 (0 : Int)), (.int .u8 (0 : Int)), (.int .u8 (0 : Int)), (.int .u8 (0 : Int)), (.int .u8 (0 : Int)), (.int .u8 (0 : Int)), (.int .u8 (0 : Int)), (.int .u8 (0 : Int)), (.int .u8 (0 : Int)), (.int .u8 (0 : Int)), (.int .u8 (0 : Int)), (.int .u8 (0 : Int)), (.int .u8 (0 : Int)), (.int .u8 (0 : Int)), (.int .u8 (0 : Int)), (.int .u8 (0 : Int)), (.int .u8 (0 : Int)), (.int .u8 (0 : Int)), (.int .u8 (0 : Int)), (.int .u8 (0 : Int)), (.int .u8 (0 : Int)), (.int .u8 (0 : Int)), (.int .u8 (0 : Int)), (.int .u8 (0 : Int)), (.int .u8 (0 : Int)), (.int .u8 (0 : Int)), (.int .u8 (0 : Int)), (.int .u8 (0 : Int)), (.int .u8 (0 : Int)), (.int .u8 (0 : Int)), (.int .u8 (0 : Int)), (.int .u8 (0 : Int)), (.int .u8 (0 : Int)), (.int .u8 (0 : Int)), (.int .u8 (0 : Int)), (.int .u8 (0 : Int)), (.int .u8 (0 : Int)), (.int .u8 (0 : Int)), (.int .u8 (0 : Int)), (.int .u8 (0 : Int)), (.int .u8 (0 : Int)), (.int .u8 (0 : Int)), (.int .u8 (0 : Int)), (.int .u8 (0 : Int)), (.int .u8 (0 : Int)), (.int .u8 (0 : Int)), (.int .u8 (0 : Int)), (.int .u8 (0 : Int)), (.int .u8 (0 : Int)), (.int .u8 (0 : Int)), (.int .u8 (0 : Int)), (.int .u8 (0 : Int)), (.int .u8 (0 : Int)), (.int .u8 (0 : Int)), (.int .u8 (0 : Int)), (.int .u8 (0 : Int)), (.int .u8 (0 : Int)), (.int .u8 (0 : Int)), (.int .u8 (0 : Int)), (.int .u8 (0 : Int)), (.int .u8 (0 : Int)), (.int .u8 (0 : Int)), (.int .u8 (0 : Int)), (.int .u8 (0 : Int)), (.int .u8 (0 : Int)), (.int .u8 (0 : Int)), (.int .u8 (0 : Int)), (.int .u8 (0 : Int)), (.int .u8 (0 : Int)), (.int .u8 (0 : Int)), (.int .u8 (0 : Int)), (.int .u8 (0 : Int)), (.int .u8 (0 : Int)), (.int .u8 (0 : Int)), (.int .u8 (0 : Int)), (.int .u8 (0 : Int)), (.int .u8 (0 : Int)), (.int .u8 (0 : Int)), (.int .u8 (0 : Int)), (.int .u8 (0 : Int)), (.int .u8 (0 : Int)), (.int .u8 (0 : Int)), (.int .u8 (0 : Int)), (.int .u8 (0 : Int)), (.int .u8 (0 : Int)), (.int .u8 (0 : Int)), (.int .u8 (0 : Int)), (.int .u8 (0 : Int)), (.int .u8 (0 : Int)), (.int .u8 (0 : Int)), (.int .u8 (0 : Int)), (.int .u8 (0 : Int)), (.int .u8 (0 : Int)), (.int .u8 (0 : Int)), (.int .u8 (0 : Int)), (.int .u8 (0 : Int)), (.int .u8 (0 : Int)), (.int .u8 (0 : Int)), (.int .u8 (0 : Int)), (.int .u8 (0 : Int)), (.int .u8 (0 : Int)), (.int .u8 (0 : Int)), (.int .u8 (0 : Int)), (.int .u8 (0 : Int)), (.int .u8 (0 : Int)), (.int .u8 (0 : Int)), (.int .u8 (0 : Int)), (.int .u8 (0 : Int)), (.int .u8 (0 : Int)), (.int .u8 (0 : Int)), (.int .u8 (0 : Int)), (.int .u8 (0 : Int)), (.int .u8 (0 : Int)), (.int .u8 (0 : Int)), (.int .u8 (0 : Int)), (.int .u8 (0 : Int)), (.int .u8 (0 : Int)), (.int .u8 (0 : Int)), (.int .u8 (0 : Int)), (.int .u8 (0 : Int)), (.int .u8 (0 : Int)), (.int .u8 (0 : Int)), (.int .u8 (0 : Int)), (.int .u8 (0 : Int)), (.int .u8 (0 : Int)), (.int .u8 (0 : Int)), (.int .u8 (0 : Int)), (.int .u8 (0 : Int)), (.int .u8 (0 : Int)), (.int .u8 (0 : Int)), (.int .u8 (0 : Int)), (.int .u8 (0 : Int)), (.int .u8 (0 : Int)), (.int .u8 (0 : Int)), (.int .u8 (0 : Int)), (.int .u8 (0 : Int)), (.int .u8 (0 : Int)), (.int .u8 (0 : Int)), (.int .u8 (0 : Int)), (.int .u8 (0 : Int)), (.int .u8 (0 : Int)), (.int .u8 (0 : Int)), (.int .u8 (0 : Int)), (.int .u8 (0 : Int)), (.int .u8 (0 : Int)), (.int .u8 (0 : Int)), (.int .u8 (0 : Int)), (.int .u8 (0 : Int)), (.int .u8 (0 : Int)), (.int .u8 (0 : Int)), (.int .u8 (0 : Int)), (.int .u8 (0 : Int)), (.int .u8 (0 : Int)), (.int .u8 (0 : Int)), (.int .u8 (0 : Int)), (.int .u8 (0 : Int)), (.int .u8 (0 : Int)), (.int .u8 (0 : Int)), (.int .u8 (0 : Int)), (.int .u8 (0 : Int)), (.int .u8 (0 : Int)), (.int .u8 (0 : Int)), (.int .u8 (0 : Int)), (.int .u8 (0 : Int)), (.int .u8 (0 : Int)), (.int .u8 (0 : Int)), (.int .u8 (0 : Int)), (.int .u8 (0 : Int)), (.int .u8 (0 : Int)), (.int .u8 (0 : Int)), (.int .u8 (0 : Int)), (.int .u8 (0 : Int)), (.int .u8 (0 : Int)), (.int .u8 (0 : Int)), (.int .u8 (0 : Int)), (.int .u8 (0 : Int)), (.int .u8 (0 : Int)), (.int .u8 (0 : Int)), (.int .u8 (0 : Int)), (.int .u8 (0 : Int)), (.int .u8 (0 : Int)), (.int .u8 (0 : Int)), (.int .u8 (0 : Int)), (.int .u8 (0 : Int)), (.int .u8 (0 : Int)), (.int .u8 (0 : Int)), (.int .u8 (0 : Int)), (.int .u8 (0 : Int)), (.int .u8 (0 : Int)), (.int .u8 (0 : Int)), (.int .u8 (0 : Int)), (.int .u8 (0 : Int)), (.int .u8 (0 : Int)), (.int .u8 (0 : Int)), (.int .u8 (0 : Int)), (.int .u8 (0 : Int)), (.int .u8 (0 : Int)), (.int .u8 (0 : Int)), (.int .u8 (0 : Int)), (.int .u8 (0 : Int)), (.int .u8 (0 : Int)), (.int .u8 (0 : Int)), (.int .u8 (0 : Int)), (.int .u8 (0 : Int)), (.int .u8 (0 : Int)), (.int .u8 (0 : Int)), (.int .u8 (0 : Int)), (.int .u8 (0 : Int)), (.int .u8 (0 : Int)), (.int .u8 (0 : Int)), (.int .u8 (0 : Int)), (.int .u8 (0 : Int)), (.int .u8 (0 : Int)), (.int .u8 (0 : Int)), (.int .u8 (0 : Int)), (.int .u8 (0 : Int)), (.int .u8 (0 : Int)), (.int .u8 (0 : Int)), (.int .u8 (0 : Int)), (.int .u8 (0 : Int)), (.int .u8 (0 : Int)), (.int .u8 (0 : Int)), (.int .u8 (0 : Int)), (.int .u8 (0 : Int)), (.int .u8 (0 : Int)), (.int .u8 (0 : Int)), (.int .u8 (0 : Int)), (.int .u8 (0 : Int)), (.int .u8 (0 : Int)), (.int .u8 (0 : Int)), (.int .u8 (0 : Int)), (.int .u8 (0 : Int)), (.int .u8 (0 : Int)), (.int .u8 (0 : Int)), (.int .u8 (0 : Int)), (.int .u8 (0 : Int)), (.int .u8 (0 : Int)), (.int .u8 (0 : Int)), (.int .u8 (0 : Int)), (.int .u8 (0 : Int)), (.int .u8 (0 : Int)), (.int .u8 (0 : Int)), (.int .u8 (0 : Int)), (.int .u8 (0 : Int)), (.int .u8 (0 : Int)), (.int .u8 (0 : Int)), (.int .u8 (0 : Int)), (.int .u8 (0 : Int)), (.int .u8 (0 : Int)), (.int .u8 (0 : Int)), (.int .u8 (0 : Int)), (.int .u8 (0 : Int)), (.int .u8 (0 : Int)), (.int .u8 (0 : Int)), (.int .u8 (0 : Int)), (.int .u8 (0 : Int)), (.int .u8 (0 : Int)), (.int .u8 (0 : Int)), (.int .u8 (0 : Int)), (.int .u8 (0 : Int)), (.int .u8 (0 : Int)), (.int .u8 (0 : Int)), (.int .u8 (0 : Int)), (.int .u8 (0 : Int)), (.int .u8 (0 : Int)), (.int .u8 (0 : Int)), (.int .u8 (0 : Int)), (.int .u8 (0 : Int)), (.int .u8 (0 : Int)), (.int .u8 (0 : Int)), (.int .u8 (0 : Int)), (.int .u8 (0 : Int)), (.int .u8 (0 : Int)), (.int .u8 (0 : Int)), (.int .u8 (0 : Int)), (.int .u8 (0 : Int)), (.int .u8 (0 : Int)), (.int .u8 (0 : Int)), (.int .u8 (0 : Int)), (.int .u8 (0 : Int)), (.int .u8 (0 : Int)), (.int .u8 (0 : Int)), (.int .u8 (0 : Int)), (.int .u8 (0 : Int)), (.int .u8 (0 : Int)), (.int .u8 (0 : Int)), (.int .u8 (0 : Int)), (.int .u8 (0 : Int)), (.int .u8 (0 : Int)), (.int .u8 (0 : Int)), (.int .u8 (0 : Int)), (.int .u8 (0 : Int)), (.int .u8 (0 : Int)), (.int .u8 (0 : Int)), (.int .u8 (0 : Int)), (.int .u8 (0 : Int)), (.int .u8 (0 : Int)), (.int .u8 (0 : Int)), (.int .u8 (0 : Int)), (.int .u8 (0 : Int)), (.int .u8 (0 : Int)), (.int .u8 (0 : Int)), (.int .u8 (0 : Int)), (.int .u8 (0 : Int)), (.int .u8 (0 : Int)), (.int .u8 (0 : Int)), (.int .u8 (0 : Int)), (.int .u8 (0 : Int)), (.int .u8 (0 : Int)), (.int .u8 (0 : Int)), (.int .u8 (0 : Int)), (.int .u8 (0 : Int)), (.int .u8 (0 : Int)), (.int .u8 (0 : Int)), (.int .u8 (0 : Int)), (.int .u8 (0 : Int)), (.int .u8 (0 : Int)), (.int .u8 (0 : Int)), (.int .u8 (0 : Int)), (.int .u8 (0 : Int)), (.int .u8 (0 : Int)), (.int .u8 (0 : Int)), (.int .u8 (0 : Int)), (.int .u8 (0 : Int)), (.int .u8 (0 : Int)), (.int .u8 (0 : Int)), (.int .u8 (0 : Int)), (.int .u8 (0 : Int)), (.int .u8 (0 : Int)), (.int .u8 (0 : Int)), (.int .u8 (0 : Int)), (.int .u8 (0 : Int)), (.int .u8 (0 : Int)), (.int .u8 (0 : Int)), (.int .u8 (0 : Int)), (.int .u8 (0 : Int)), (.int .u8 (0 : Int)), (.int .u8 (0 : Int)), (.int .u8 (0 : Int)), (.int .u8 (0 : Int)), (.int .u8 (0 : Int)), (.int .u8 (0 : Int)), (.int .u8 (0 : Int)), (.int .u8 (0 : Int)), (.int .u8 (0 : Int)), (.int .u8 (0 : Int)), (.int .u8 (0 : Int)), (.int .u8 (0 : Int)), (.int .u8 (0 : Int)), (.int .u8 (0 : Int)), (.int .u8 (0 : Int)), (.int .u8 (0 : Int)), (.int .u8 (0 : Int)), (.int .u8 (0 : Int)), (.int .u8 (0 : Int)), (.int .u8 (0 : Int)), (.int .u8 (0 : Int)), (.int .u8 (0 : Int)), (.int .u8 (0 : Int)), (.int .u8 (0 : Int)), (.int .u8 (0 : Int)), (.int .u8 (0 : Int)), (.int .u8 (0 : Int)), (.int .u8 (0 : Int)), (.int .u8 (0 : Int)), (.int .u8 (0 : Int)), (.int .u8 (0 : Int)), (.int .u8 (0 : Int)), (.int .u8 (0 : Int)), (.int .u8 (0 : Int)), (.int .u8 (0 : Int)), (.int .u8 (0 : Int)), (.int .u8 (0 : Int)), (.int .u8 (0 : Int)), (.int .u8 (0 : Int)), (.int .u8 (0 : Int)), (.int .u8 (0 : Int)), (.int .u8 (0 : Int)), (.int .u8 (0 : Int)), (.int .u8 (0 : Int)), (.int .u8 (0 : Int)), (.int .u8 (0 : Int)), (.int .u8 (0 : Int)), (.int .u8 (0 : Int)), (.int .u8 (0 : Int)), (.int .u8 (0 : Int)), (.int .u8 (0 : Int)), (.int .u8 (0 : Int)), (.int .u8 (0 : Int)), (.int .u8 (0 : Int)), (.int .u8 (0 : Int)), (.int .u8 (0 : Int)), (.int .u8 (0 : Int)), (.int .u8 (0 : Int)), (.int .u8 (0 : Int)), (.int .u8 (0 : Int)), (.int .u8 (0 : Int)), (.int .u8 (0 : Int)), (.int .u8 (0 : Int)), (.int .u8 (0 : Int)), (.int .u8 (0 : Int)), (.int .u8 (0 : Int)), (.int .u8 (0 : Int)), (.int .u8 (0 : Int)), (.int .u8 (0 : Int)), (.int .u8 (0 : Int)), (.int .u8 (0 : Int)), (.int .u8 (0 : Int)), (.int .u8 (0 : Int)), (.int .u8 (0 : Int)), (.int .i64 (0 : Int)), (.int .i64 (0 : Int)), (.bool false), (.bool false)] (fun a h4 =>
 Call0 P zki [(.pointer (some a)), (.int .u64 mant)] (fun h5 =>
 Call0 P zaq [(.pointer (some a)), (.int .i64 (IntKind.wrap .i64 ((IntKind.wrap .i64 (exp + bias)) - mantBits)))] (fun h6 =>
 JoinW1 (α1 := Int) (fun k =>
 JoinW1 (α1 := Bool) (fun k1 =>
 (if (fmt == (101 : Int)) = true then
 k1 (fmt == (101 : Int)) h6
 else
 k1 (fmt == (69 : Int)) h6))
 (fun t256 h7 =>
 (if t256 = true then
 Call0 P zde [(.pointer (some a)), (.int .i64 (IntKind.wrap .i64 (prec1 + (1 : Int))))] (fun h8 =>
 k prec1 h8) h7
 else
 (if (fmt == (102 : Int)) = true then
 NilW none (some a) fun p =>
 LdW none (shInt .i64) h7 (Addr.add p 801) fun x =>
 Call0 P zde [(.pointer (some a)), (.int .i64 (IntKind.wrap .i64 (x + prec1)))] (fun h8 =>
 k prec1 h8) h7
 else
 JoinW1 (α1 := Bool) (fun k1 =>
 (if (fmt == (103 : Int)) = true then
 k1 (fmt == (103 : Int)) h7
 else
 k1 (fmt == (71 : Int)) h7))
 (fun t273 h8 =>
 (if t273 = true then
 JoinW1 (α1 := Int) (fun k1 =>
 (if (prec1 == (0 : Int)) = true then
 k1 (1 : Int) h8
 else
 k1 prec1 h8))
 (fun prec2 h9 =>
 Call0 P zde [(.pointer (some a)), (.int .i64 prec2)] (fun h10 =>
 k prec2 h10) h9)
 else
 k prec1 h8))))))
 (fun prec2 h7 =>
 NilW none (some a) fun p =>
 LetW (α := Sl) ⟨(sbase (some (Addr.add p 0)) 1 0 800), 800, 800⟩ fun y1 =>
 NilW none (some a) fun p1 =>
 LdW none (shInt .i64) h7 (Addr.add p1 801) fun x =>
 NilW none (some a) fun p2 =>
 LdW none (shInt .i64) h7 (Addr.add p2 800) fun x1 =>
 CallT P zcf [dst.v, (.bool ((shrI .u64 b (IntKind.wrap .i64 (expBits + mantBits))) != (0 : Int))), y1.v, (.int .i64 x), (.int .i64 x1), (.int .i64 prec2), (.int .u8 fmt), (.bool false)] shSl (fun r h8 =>
 Q r h8) h7)) h5) h4) h3)))))))))))))

def zem (P : Program) (i : Int) (base : Int) (Q : (ByteArray → (Hp → Prop))) (h : Hp) : Prop :=
 (if (base == (10 : Int)) = true then
 LetW ((decide ((0 : Int) ≤ i)) && (decide (i < (100 : Int)))) fun y =>
 (if y = true then
 CallT P zge [(.int .i64 i)] shStr (fun r h1 =>
 Q r h1) h
 else
 NewW [(.int .u8 (0 : Int)), (.int .u8 (0 : Int)), (.int .u8 (0 : Int)), (.int .u8 (0 : Int)), (.int .u8 (0 : Int)), (.int .u8 (0 : Int)), (.int .u8 (0 : Int)), (.int .u8 (0 : Int)), (.int .u8 (0 : Int)), (.int .u8 (0 : Int)), (.int .u8 (0 : Int)), (.int .u8 (0 : Int)), (.int .u8 (0 : Int)), (.int .u8 (0 : Int)), (.int .u8 (0 : Int)), (.int .u8 (0 : Int)), (.int .u8 (0 : Int)), (.int .u8 (0 : Int)), (.int .u8 (0 : Int)), (.int .u8 (0 : Int)), (.int .u8 (0 : Int)), (.int .u8 (0 : Int)), (.int .u8 (0 : Int)), (.int .u8 (0 : Int))] (fun a h1 =>
 JoinW1 (α1 := Int) (fun k =>
 (if (decide (i < (0 : Int))) = true then
 k (IntKind.wrap .u64 ((0 : Int) - (IntKind.wrap .u64 i))) h1
 else
 k (IntKind.wrap .u64 i) h1))
 (fun u h2 =>
 CallT P zbu [(.int .u64 u)] (shInt .i64) (fun r h3 =>
 (((0 : Int) ≤ (1 : Int) ∧ ((1 : Int) ≤ (IntKind.wrap .i64 ((1 : Int) + r)) ∧ (IntKind.wrap .i64 ((1 : Int) + r)) ≤ (24 : Int))) ∧ LetW (α := Sl) ⟨(sbase (some a) 1 1 24), ((Int.toNat (IntKind.wrap .i64 ((1 : Int) + r))) - 1), 23⟩ fun y1 =>
 Call0 P zbf [y1.v, (.int .u64 u)] (fun h4 =>
 (if (decide (i < (0 : Int))) = true then
 (((0 : Int) ≤ (0 : Int) ∧ (0 : Int) < (24 : Int)) ∧ StW h4 (Addr.add a 0) [(.int .u8 (45 : Int))] (fun h5 =>
 (((0 : Int) ≤ (IntKind.wrap .i64 ((1 : Int) + r)) ∧ (IntKind.wrap .i64 ((1 : Int) + r)) ≤ (24 : Int)) ∧ LetW (α := Sl) ⟨(sbase (some a) 1 0 24), ((Int.toNat (IntKind.wrap .i64 ((1 : Int) + r))) - 0), 24⟩ fun y2 =>
 SemV none P (convert 74 9 y2.v) shStr h5 fun x =>
 Q x h5)))
 else
 (((0 : Int) ≤ (1 : Int) ∧ ((1 : Int) ≤ (IntKind.wrap .i64 ((1 : Int) + r)) ∧ (IntKind.wrap .i64 ((1 : Int) + r)) ≤ (24 : Int))) ∧ LetW (α := Sl) ⟨(sbase (some a) 1 1 24), ((Int.toNat (IntKind.wrap .i64 ((1 : Int) + r))) - 1), 23⟩ fun y2 =>
 SemV none P (convert 74 9 y2.v) shStr h4 fun x =>
 Q x h4))) h3)) h2)) h)
 else
 Call2 P zck [(.slice none 0 0), (.int .u64 (IntKind.wrap .u64 i)), (.int .i64 base), (.bool (decide (i < (0 : Int)))), (.bool false)] shSl shStr (fun r r1 h1 =>
 Q r1 h1) h)

def zdg (P : Program) (s : ByteArray) (prefix_ : ByteArray) (Q : (Bool → (Hp → Prop))) (h : Hp) : Prop :=
 (((decide ((((ByteArray.size s) : Nat) : Int) ≥ (((ByteArray.size prefix_) : Nat) : Int))) = true → ((0 : Int) ≤ (((ByteArray.size prefix_) : Nat) : Int) ∧ (((ByteArray.size prefix_) : Nat) : Int) ≤ (((ByteArray.size s) : Nat) : Int))) ∧ LetW ((decide ((((ByteArray.size s) : Nat) : Int) ≥ (((ByteArray.size prefix_) : Nat) : Int))) && ((ByteArray.toList (ByteArray.extract s 0 (Int.toNat (((ByteArray.size prefix_) : Nat) : Int)))) == (ByteArray.toList prefix_))) fun y =>
 Q y h)

def zgh (P : Program) (c : Int) (Q : (Int → (Hp → Prop))) (h : Hp) : Prop :=
 Q (bitsI .or .u8 c (32 : Int)) h

def zdn (P : Program) (s : ByteArray) (Q : (Bool → (Hp → Prop))) (h : Hp) : Prop :=
 JoinW1 (α1 := ByteArray) (fun k =>
 (((decide ((((ByteArray.size s) : Nat) : Int) ≥ (1 : Int))) = true → ((0 : Int) ≤ (0 : Int) ∧ (0 : Int) < (((ByteArray.size s) : Nat) : Int))) ∧ ((((decide ((((ByteArray.size s) : Nat) : Int) ≥ (1 : Int))) && (!((((UInt8.toNat (List.getD s.data.toList 0 0)) : Nat) : Int) == (45 : Int)))) = true → ((0 : Int) ≤ (0 : Int) ∧ (0 : Int) < (((ByteArray.size s) : Nat) : Int))) ∧ LetW (((((UInt8.toNat (List.getD s.data.toList 0 0)) : Nat) : Int) == (45 : Int)) || ((((UInt8.toNat (List.getD s.data.toList 0 0)) : Nat) : Int) == (43 : Int))) fun y =>
 LetW ((decide ((((ByteArray.size s) : Nat) : Int) ≥ (1 : Int))) && y) fun y1 =>
 (if y1 = true then
 (((0 : Int) ≤ (1 : Int) ∧ (1 : Int) ≤ (((ByteArray.size s) : Nat) : Int)) ∧ k (ByteArray.extract s 1 (ByteArray.size s)) h)
 else
 k s h))))
 (fun s1 h1 =>
 JoinW3 (α1 := Int) (α2 := Int) (α3 := Bool) (fun k =>
 (((decide ((((ByteArray.size s1) : Nat) : Int) ≥ (2 : Int))) = true → ((0 : Int) ≤ (0 : Int) ∧ (0 : Int) < (((ByteArray.size s1) : Nat) : Int))) ∧ LetW ((decide ((((ByteArray.size s1) : Nat) : Int) ≥ (2 : Int))) && ((((UInt8.toNat (List.getD s1.data.toList 0 0)) : Nat) : Int) == (48 : Int))) fun y =>
 ((y = true → ((0 : Int) ≤ (1 : Int) ∧ (1 : Int) < (((ByteArray.size s1) : Nat) : Int))) ∧ EffC (some y) (CallT P zad [(.int .u8 (((UInt8.toNat (List.getD s1.data.toList 1 0)) : Nat) : Int))] (shInt .u8)) (fun r h2 =>
 (((y && (!(r == (98 : Int)))) = true → ((0 : Int) ≤ (1 : Int) ∧ (1 : Int) < (((ByteArray.size s1) : Nat) : Int))) ∧ EffC (some (y && (!(r == (98 : Int))))) (CallT P zad [(.int .u8 (((UInt8.toNat (List.getD s1.data.toList 1 0)) : Nat) : Int))] (shInt .u8)) (fun r1 h3 =>
 LetW ((r == (98 : Int)) || (r1 == (111 : Int))) fun y1 =>
 (((y && (!y1)) = true → ((0 : Int) ≤ (1 : Int) ∧ (1 : Int) < (((ByteArray.size s1) : Nat) : Int))) ∧ EffC (some (y && (!y1))) (CallT P zad [(.int .u8 (((UInt8.toNat (List.getD s1.data.toList 1 0)) : Nat) : Int))] (shInt .u8)) (fun r2 h4 =>
 LetW (y1 || (r2 == (120 : Int))) fun y2 =>
 LetW (y && y2) fun y3 =>
 (if y3 = true then
 (((0 : Int) ≤ (1 : Int) ∧ (1 : Int) < (((ByteArray.size s1) : Nat) : Int)) ∧ CallT P zad [(.int .u8 (((UInt8.toNat (List.getD s1.data.toList 1 0)) : Nat) : Int))] (shInt .u8) (fun r3 h5 =>
 k (48 : Int) (2 : Int) (r3 == (120 : Int)) h5) h4)
 else
 k (94 : Int) (0 : Int) false h4)) h3)) h2)) h1)))
 (fun saw i hex h2 =>
 LoopW2 (α1 := Int) (α2 := Int) (fun again saw1 i1 h3 =>
 (if (decide (i1 < (((ByteArray.size s1) : Nat) : Int))) = true then
 JoinW1 (α1 := Int) (fun k =>
 (((0 : Int) ≤ i1 ∧ i1 < (((ByteArray.size s1) : Nat) : Int)) ∧ (((decide ((48 : Int) ≤ (((UInt8.toNat (List.getD s1.data.toList (Int.toNat i1) 0)) : Nat) : Int))) = true → ((0 : Int) ≤ i1 ∧ i1 < (((ByteArray.size s1) : Nat) : Int))) ∧ LetW ((decide ((48 : Int) ≤ (((UInt8.toNat (List.getD s1.data.toList (Int.toNat i1) 0)) : Nat) : Int))) && (decide ((((UInt8.toNat (List.getD s1.data.toList (Int.toNat i1) 0)) : Nat) : Int) ≤ (57 : Int)))) fun y =>
 ((((!y) && hex) = true → ((0 : Int) ≤ i1 ∧ i1 < (((ByteArray.size s1) : Nat) : Int))) ∧ EffC (some ((!y) && hex)) (CallT P zad [(.int .u8 (((UInt8.toNat (List.getD s1.data.toList (Int.toNat i1) 0)) : Nat) : Int))] (shInt .u8)) (fun r h4 =>
 LetW (hex && (decide ((97 : Int) ≤ r))) fun y1 =>
 ((((!y) && y1) = true → ((0 : Int) ≤ i1 ∧ i1 < (((ByteArray.size s1) : Nat) : Int))) ∧ EffC (some ((!y) && y1)) (CallT P zad [(.int .u8 (((UInt8.toNat (List.getD s1.data.toList (Int.toNat i1) 0)) : Nat) : Int))] (shInt .u8)) (fun r1 h5 =>
 LetW (y1 && (decide (r1 ≤ (102 : Int)))) fun y2 =>
 LetW (y || y2) fun y3 =>
 (if y3 = true then
 k (48 : Int) h5
 else
 (((0 : Int) ≤ i1 ∧ i1 < (((ByteArray.size s1) : Nat) : Int)) ∧ (if ((((UInt8.toNat (List.getD s1.data.toList (Int.toNat i1) 0)) : Nat) : Int) == (95 : Int)) = true then
 (if (saw1 != (48 : Int)) = true then
 Q false h5
 else
 k (95 : Int) h5)
 else
 (if (saw1 == (95 : Int)) = true then
 Q false h5
 else
 k (33 : Int) h5))))) h4)) h3))))
 (fun saw2 h4 =>
 again saw2 (IntKind.wrap .i64 (i1 + (1 : Int))) h4)
 else
 Q (saw1 != (95 : Int)) h3)) saw i h2))

def zbo (P : Program) (s : ByteArray) (bitSize : Int) (Q : (Nat → (Int → (Leaf → (Hp → Prop))))) (h : Hp) : Prop :=
 (if (bitSize == (32 : Int)) = true then
 Call3 P zqa [(.string s)] (shFlt .f32) (shInt .i64) zaj (fun r r1 r2 h1 =>
 SemV none P (convert 120 48 (.float .f32 r)) (shFlt .f64) h1 fun x =>
 EncW zaj r2.v fun e =>
 Q x r1 e h1) h
 else
 Call3 P zfp [(.string s)] (shFlt .f64) (shInt .i64) zaj (fun r r1 r2 h1 =>
 EncW zaj r2.v fun e =>
 Q r r1 e h1) h)

def zgi (P : Program) (i : Int) (Q : (ByteArray → (Hp → Prop))) (h : Hp) : Prop :=
 (if (decide (i < (10 : Int))) = true then
 (((0 : Int) ≤ i ∧ (i ≤ (IntKind.wrap .i64 (i + (1 : Int))) ∧ (IntKind.wrap .i64 (i + (1 : Int))) ≤ (36 : Int))) ∧ Q (ByteArray.extract ⟨#[48, 49, 50, 51, 52, 53, 54, 55, 56, 57, 97, 98, 99, 100, 101, 102, 103, 104, 105, 106, 107, 108, 109, 110, 111, 112, 113, 114, 115, 116, 117, 118, 119, 120, 121, 122]⟩ (Int.toNat i) (Int.toNat (IntKind.wrap .i64 (i + (1 : Int))))) h)
 else
 (((0 : Int) ≤ (IntKind.wrap .i64 (i * (2 : Int))) ∧ ((IntKind.wrap .i64 (i * (2 : Int))) ≤ (IntKind.wrap .i64 ((IntKind.wrap .i64 (i * (2 : Int))) + (2 : Int))) ∧ (IntKind.wrap .i64 ((IntKind.wrap .i64 (i * (2 : Int))) + (2 : Int))) ≤ (200 : Int))) ∧ Q (ByteArray.extract ⟨#[48, 48, 48, 49, 48, 50, 48, 51, 48, 52, 48, 53, 48, 54, 48, 55, 48, 56, 48, 57, 49, 48, 49, 49, 49, 50, 49, 51, 49, 52, 49, 53, 49, 54, 49, 55, 49, 56, 49, 57, 50, 48, 50, 49, 50, 50, 50, 51, 50, 52, 50, 53, 50, 54, 50, 55, 50, 56, 50, 57, 51, 48, 51, 49, 51, 50, 51, 51, 51, 52, 51, 53, 51, 54, 51, 55, 51, 56, 51, 57, 52, 48, 52, 49, 52, 50, 52, 51, 52, 52, 52, 53, 52, 54, 52, 55, 52, 56, 52, 57, 53, 48, 53, 49, 53, 50, 53, 51, 53, 52, 53, 53, 53, 54, 53, 55, 53, 56, 53, 57, 54, 48, 54, 49, 54, 50, 54, 51, 54, 52, 54, 53, 54, 54, 54, 55, 54, 56, 54, 57, 55, 48, 55, 49, 55, 50, 55, 51, 55, 52, 55, 53, 55, 54, 55, 55, 55, 56, 55, 57, 56, 48, 56, 49, 56, 50, 56, 51, 56, 52, 56, 53, 56, 54, 56, 55, 56, 56, 56, 57, 57, 48, 57, 49, 57, 50, 57, 51, 57, 52, 57, 53, 57, 54, 57, 55, 57, 56, 57, 57]⟩ (Int.toNat (IntKind.wrap .i64 (i * (2 : Int)))) (Int.toNat (IntKind.wrap .i64 ((IntKind.wrap .i64 (i * (2 : Int))) + (2 : Int))))) h))

def zen (P : Program) (d : Int) (Q : (Int → (Hp → Prop))) (h : Hp) : Prop :=
 CallT P zgf [(.int .u64 d)] (shInt .i64) (fun r h1 =>
 CallT P zba [(.int .i64 r)] (shInt .i64) (fun r1 h2 =>
 (((0 : Int) ≤ r1 ∧ r1 < (20 : Int)) ∧ LdW none (shInt .u64) h2 (Addr.add ⟨5, 0, none⟩ ((Int.toNat r1) * 1)) fun x =>
 CallT P zei [(.bool (decide (d ≥ x)))] (shInt .i64) (fun r2 h3 =>
 Q (IntKind.wrap .i64 (r1 + r2)) h3) h2)) h1) h

def bl200 : List UInt8 := [48, 48, 48, 49, 48, 50, 48, 51, 48, 52, 48, 53, 48, 54, 48, 55, 48, 56, 48, 57, 49, 48, 49, 49, 49, 50, 49, 51, 49, 52, 49, 53, 49, 54, 49, 55, 49, 56, 49, 57, 50, 48, 50, 49, 50, 50, 50, 51, 50, 52, 50, 53, 50, 54, 50, 55, 50, 56, 50, 57, 51, 48, 51, 49, 51, 50, 51, 51, 51, 52, 51, 53, 51, 54, 51, 55, 51, 56, 51, 57, 52, 48, 52, 49, 52, 50, 52, 51, 52, 52, 52, 53, 52, 54, 52, 55, 52, 56, 52, 57, 53, 48, 53, 49, 53, 50, 53, 51, 53, 52, 53, 53, 53, 54, 53, 55, 53, 56, 53, 57, 54, 48, 54, 49, 54, 50, 54, 51, 54, 52, 54, 53, 54, 54, 54, 55, 54, 56, 54, 57, 55, 48, 55, 49, 55, 50, 55, 51, 55, 52, 55, 53, 55, 54, 55, 55, 55, 56, 55, 57, 56, 48, 56, 49, 56, 50, 56, 51, 56, 52, 56, 53, 56, 54, 56, 55, 56, 56, 56, 57, 57, 48, 57, 49, 57, 50, 57, 51, 57, 52, 57, 53, 57, 54, 57, 55, 57, 56, 57, 57]

def zdo (P : Program) (a : Sl) (u : Int) (Q : (Hp → Prop)) (h : Hp) : Prop :=
 LoopW2 (α1 := Int) (α2 := Int) (fun again u1 nd h1 =>
 (if (decide (nd ≥ (8 : Int))) = true then
 ((100000000 : Int) ≠ (0 : Int) ∧ ((100000000 : Int) ≠ (0 : Int) ∧ ((10000 : Int) ≠ (0 : Int) ∧ ((10000 : Int) ≠ (0 : Int) ∧ ((100 : Int) ≠ (0 : Int) ∧ ((100 : Int) ≠ (0 : Int) ∧ ((100 : Int) ≠ (0 : Int) ∧ ((100 : Int) ≠ (0 : Int) ∧ (((0 : Int) ≤ (IntKind.wrap .u32 ((IntKind.wrap .u32 ((Int.tmod (Int.tmod (IntKind.wrap .u32 (Int.tmod u1 (100000000 : Int))) (10000 : Int)) (100 : Int)) * (2 : Int))) + (1 : Int))) ∧ (IntKind.wrap .u32 ((IntKind.wrap .u32 ((Int.tmod (Int.tmod (IntKind.wrap .u32 (Int.tmod u1 (100000000 : Int))) (10000 : Int)) (100 : Int)) * (2 : Int))) + (1 : Int))) < (200 : Int)) ∧ (((0 : Int) ≤ (IntKind.wrap .u32 ((Int.tmod (Int.tmod (IntKind.wrap .u32 (Int.tmod u1 (100000000 : Int))) (10000 : Int)) (100 : Int)) * (2 : Int))) ∧ (IntKind.wrap .u32 ((Int.tmod (Int.tmod (IntKind.wrap .u32 (Int.tmod u1 (100000000 : Int))) (10000 : Int)) (100 : Int)) * (2 : Int))) < (200 : Int)) ∧ ((InB a.base a.len (IntKind.wrap .i64 (nd - (1 : Int)))) ∧ StW h1 (sat a.base 1 (IntKind.wrap .i64 (nd - (1 : Int)))) [(.int .u8 (((UInt8.toNat (List.getD bl200 (Int.toNat (IntKind.wrap .u32 ((IntKind.wrap .u32 ((Int.tmod (Int.tmod (IntKind.wrap .u32 (Int.tmod u1 (100000000 : Int))) (10000 : Int)) (100 : Int)) * (2 : Int))) + (1 : Int)))) 0)) : Nat) : Int))] (fun h2 =>
 ((InB a.base a.len (IntKind.wrap .i64 (nd - (2 : Int)))) ∧ StW h2 (sat a.base 1 (IntKind.wrap .i64 (nd - (2 : Int)))) [(.int .u8 (((UInt8.toNat (List.getD bl200 (Int.toNat (IntKind.wrap .u32 ((Int.tmod (Int.tmod (IntKind.wrap .u32 (Int.tmod u1 (100000000 : Int))) (10000 : Int)) (100 : Int)) * (2 : Int)))) 0)) : Nat) : Int))] (fun h3 =>
 (((0 : Int) ≤ (IntKind.wrap .u32 ((IntKind.wrap .u32 ((IntKind.wrap .u32 (Int.tdiv (Int.tmod (IntKind.wrap .u32 (Int.tmod u1 (100000000 : Int))) (10000 : Int)) (100 : Int))) * (2 : Int))) + (1 : Int))) ∧ (IntKind.wrap .u32 ((IntKind.wrap .u32 ((IntKind.wrap .u32 (Int.tdiv (Int.tmod (IntKind.wrap .u32 (Int.tmod u1 (100000000 : Int))) (10000 : Int)) (100 : Int))) * (2 : Int))) + (1 : Int))) < (200 : Int)) ∧ (((0 : Int) ≤ (IntKind.wrap .u32 ((IntKind.wrap .u32 (Int.tdiv (Int.tmod (IntKind.wrap .u32 (Int.tmod u1 (100000000 : Int))) (10000 : Int)) (100 : Int))) * (2 : Int))) ∧ (IntKind.wrap .u32 ((IntKind.wrap .u32 (Int.tdiv (Int.tmod (IntKind.wrap .u32 (Int.tmod u1 (100000000 : Int))) (10000 : Int)) (100 : Int))) * (2 : Int))) < (200 : Int)) ∧ ((InB a.base a.len (IntKind.wrap .i64 (nd - (3 : Int)))) ∧ StW h3 (sat a.base 1 (IntKind.wrap .i64 (nd - (3 : Int)))) [(.int .u8 (((UInt8.toNat (List.getD bl200 (Int.toNat (IntKind.wrap .u32 ((IntKind.wrap .u32 ((IntKind.wrap .u32 (Int.tdiv (Int.tmod (IntKind.wrap .u32 (Int.tmod u1 (100000000 : Int))) (10000 : Int)) (100 : Int))) * (2 : Int))) + (1 : Int)))) 0)) : Nat) : Int))] (fun h4 =>
 ((InB a.base a.len (IntKind.wrap .i64 (nd - (4 : Int)))) ∧ StW h4 (sat a.base 1 (IntKind.wrap .i64 (nd - (4 : Int)))) [(.int .u8 (((UInt8.toNat (List.getD bl200 (Int.toNat (IntKind.wrap .u32 ((IntKind.wrap .u32 (Int.tdiv (Int.tmod (IntKind.wrap .u32 (Int.tmod u1 (100000000 : Int))) (10000 : Int)) (100 : Int))) * (2 : Int)))) 0)) : Nat) : Int))] (fun h5 =>
 (((0 : Int) ≤ (IntKind.wrap .u32 ((IntKind.wrap .u32 ((Int.tmod (IntKind.wrap .u32 (Int.tdiv (IntKind.wrap .u32 (Int.tmod u1 (100000000 : Int))) (10000 : Int))) (100 : Int)) * (2 : Int))) + (1 : Int))) ∧ (IntKind.wrap .u32 ((IntKind.wrap .u32 ((Int.tmod (IntKind.wrap .u32 (Int.tdiv (IntKind.wrap .u32 (Int.tmod u1 (100000000 : Int))) (10000 : Int))) (100 : Int)) * (2 : Int))) + (1 : Int))) < (200 : Int)) ∧ (((0 : Int) ≤ (IntKind.wrap .u32 ((Int.tmod (IntKind.wrap .u32 (Int.tdiv (IntKind.wrap .u32 (Int.tmod u1 (100000000 : Int))) (10000 : Int))) (100 : Int)) * (2 : Int))) ∧ (IntKind.wrap .u32 ((Int.tmod (IntKind.wrap .u32 (Int.tdiv (IntKind.wrap .u32 (Int.tmod u1 (100000000 : Int))) (10000 : Int))) (100 : Int)) * (2 : Int))) < (200 : Int)) ∧ ((InB a.base a.len (IntKind.wrap .i64 (nd - (5 : Int)))) ∧ StW h5 (sat a.base 1 (IntKind.wrap .i64 (nd - (5 : Int)))) [(.int .u8 (((UInt8.toNat (List.getD bl200 (Int.toNat (IntKind.wrap .u32 ((IntKind.wrap .u32 ((Int.tmod (IntKind.wrap .u32 (Int.tdiv (IntKind.wrap .u32 (Int.tmod u1 (100000000 : Int))) (10000 : Int))) (100 : Int)) * (2 : Int))) + (1 : Int)))) 0)) : Nat) : Int))] (fun h6 =>
 ((InB a.base a.len (IntKind.wrap .i64 (nd - (6 : Int)))) ∧ StW h6 (sat a.base 1 (IntKind.wrap .i64 (nd - (6 : Int)))) [(.int .u8 (((UInt8.toNat (List.getD bl200 (Int.toNat (IntKind.wrap .u32 ((Int.tmod (IntKind.wrap .u32 (Int.tdiv (IntKind.wrap .u32 (Int.tmod u1 (100000000 : Int))) (10000 : Int))) (100 : Int)) * (2 : Int)))) 0)) : Nat) : Int))] (fun h7 =>
 (((0 : Int) ≤ (IntKind.wrap .u32 ((IntKind.wrap .u32 ((IntKind.wrap .u32 (Int.tdiv (IntKind.wrap .u32 (Int.tdiv (IntKind.wrap .u32 (Int.tmod u1 (100000000 : Int))) (10000 : Int))) (100 : Int))) * (2 : Int))) + (1 : Int))) ∧ (IntKind.wrap .u32 ((IntKind.wrap .u32 ((IntKind.wrap .u32 (Int.tdiv (IntKind.wrap .u32 (Int.tdiv (IntKind.wrap .u32 (Int.tmod u1 (100000000 : Int))) (10000 : Int))) (100 : Int))) * (2 : Int))) + (1 : Int))) < (200 : Int)) ∧ (((0 : Int) ≤ (IntKind.wrap .u32 ((IntKind.wrap .u32 (Int.tdiv (IntKind.wrap .u32 (Int.tdiv (IntKind.wrap .u32 (Int.tmod u1 (100000000 : Int))) (10000 : Int))) (100 : Int))) * (2 : Int))) ∧ (IntKind.wrap .u32 ((IntKind.wrap .u32 (Int.tdiv (IntKind.wrap .u32 (Int.tdiv (IntKind.wrap .u32 (Int.tmod u1 (100000000 : Int))) (10000 : Int))) (100 : Int))) * (2 : Int))) < (200 : Int)) ∧ ((InB a.base a.len (IntKind.wrap .i64 (nd - (7 : Int)))) ∧ StW h7 (sat a.base 1 (IntKind.wrap .i64 (nd - (7 : Int)))) [(.int .u8 (((UInt8.toNat (List.getD bl200 (Int.toNat (IntKind.wrap .u32 ((IntKind.wrap .u32 ((IntKind.wrap .u32 (Int.tdiv (IntKind.wrap .u32 (Int.tdiv (IntKind.wrap .u32 (Int.tmod u1 (100000000 : Int))) (10000 : Int))) (100 : Int))) * (2 : Int))) + (1 : Int)))) 0)) : Nat) : Int))] (fun h8 =>
 ((InB a.base a.len (IntKind.wrap .i64 (nd - (8 : Int)))) ∧ StW h8 (sat a.base 1 (IntKind.wrap .i64 (nd - (8 : Int)))) [(.int .u8 (((UInt8.toNat (List.getD bl200 (Int.toNat (IntKind.wrap .u32 ((IntKind.wrap .u32 (Int.tdiv (IntKind.wrap .u32 (Int.tdiv (IntKind.wrap .u32 (Int.tmod u1 (100000000 : Int))) (10000 : Int))) (100 : Int))) * (2 : Int)))) 0)) : Nat) : Int))] (fun h9 =>
 again (IntKind.wrap .u64 (Int.tdiv u1 (100000000 : Int))) (IntKind.wrap .i64 (nd - (8 : Int))) h9))))))))))))))))))))))))))))))))
 else
 JoinW2 (α1 := Int) (α2 := Int) (fun k =>
 (if (decide (nd ≥ (4 : Int))) = true then
 ((10000 : Int) ≠ (0 : Int) ∧ ((10000 : Int) ≠ (0 : Int) ∧ ((100 : Int) ≠ (0 : Int) ∧ ((100 : Int) ≠ (0 : Int) ∧ (((0 : Int) ≤ (IntKind.wrap .u32 ((IntKind.wrap .u32 ((Int.tmod (Int.tmod (IntKind.wrap .u32 u1) (10000 : Int)) (100 : Int)) * (2 : Int))) + (1 : Int))) ∧ (IntKind.wrap .u32 ((IntKind.wrap .u32 ((Int.tmod (Int.tmod (IntKind.wrap .u32 u1) (10000 : Int)) (100 : Int)) * (2 : Int))) + (1 : Int))) < (200 : Int)) ∧ (((0 : Int) ≤ (IntKind.wrap .u32 ((Int.tmod (Int.tmod (IntKind.wrap .u32 u1) (10000 : Int)) (100 : Int)) * (2 : Int))) ∧ (IntKind.wrap .u32 ((Int.tmod (Int.tmod (IntKind.wrap .u32 u1) (10000 : Int)) (100 : Int)) * (2 : Int))) < (200 : Int)) ∧ ((InB a.base a.len (IntKind.wrap .i64 (nd - (1 : Int)))) ∧ StW h1 (sat a.base 1 (IntKind.wrap .i64 (nd - (1 : Int)))) [(.int .u8 (((UInt8.toNat (List.getD bl200 (Int.toNat (IntKind.wrap .u32 ((IntKind.wrap .u32 ((Int.tmod (Int.tmod (IntKind.wrap .u32 u1) (10000 : Int)) (100 : Int)) * (2 : Int))) + (1 : Int)))) 0)) : Nat) : Int))] (fun h2 =>
 ((InB a.base a.len (IntKind.wrap .i64 (nd - (2 : Int)))) ∧ StW h2 (sat a.base 1 (IntKind.wrap .i64 (nd - (2 : Int)))) [(.int .u8 (((UInt8.toNat (List.getD bl200 (Int.toNat (IntKind.wrap .u32 ((Int.tmod (Int.tmod (IntKind.wrap .u32 u1) (10000 : Int)) (100 : Int)) * (2 : Int)))) 0)) : Nat) : Int))] (fun h3 =>
 (((0 : Int) ≤ (IntKind.wrap .u32 ((IntKind.wrap .u32 ((IntKind.wrap .u32 (Int.tdiv (Int.tmod (IntKind.wrap .u32 u1) (10000 : Int)) (100 : Int))) * (2 : Int))) + (1 : Int))) ∧ (IntKind.wrap .u32 ((IntKind.wrap .u32 ((IntKind.wrap .u32 (Int.tdiv (Int.tmod (IntKind.wrap .u32 u1) (10000 : Int)) (100 : Int))) * (2 : Int))) + (1 : Int))) < (200 : Int)) ∧ (((0 : Int) ≤ (IntKind.wrap .u32 ((IntKind.wrap .u32 (Int.tdiv (Int.tmod (IntKind.wrap .u32 u1) (10000 : Int)) (100 : Int))) * (2 : Int))) ∧ (IntKind.wrap .u32 ((IntKind.wrap .u32 (Int.tdiv (Int.tmod (IntKind.wrap .u32 u1) (10000 : Int)) (100 : Int))) * (2 : Int))) < (200 : Int)) ∧ ((InB a.base a.len (IntKind.wrap .i64 (nd - (3 : Int)))) ∧ StW h3 (sat a.base 1 (IntKind.wrap .i64 (nd - (3 : Int)))) [(.int .u8 (((UInt8.toNat (List.getD bl200 (Int.toNat (IntKind.wrap .u32 ((IntKind.wrap .u32 ((IntKind.wrap .u32 (Int.tdiv (Int.tmod (IntKind.wrap .u32 u1) (10000 : Int)) (100 : Int))) * (2 : Int))) + (1 : Int)))) 0)) : Nat) : Int))] (fun h4 =>
 ((InB a.base a.len (IntKind.wrap .i64 (nd - (4 : Int)))) ∧ StW h4 (sat a.base 1 (IntKind.wrap .i64 (nd - (4 : Int)))) [(.int .u8 (((UInt8.toNat (List.getD bl200 (Int.toNat (IntKind.wrap .u32 ((IntKind.wrap .u32 (Int.tdiv (Int.tmod (IntKind.wrap .u32 u1) (10000 : Int)) (100 : Int))) * (2 : Int)))) 0)) : Nat) : Int))] (fun h5 =>
 k (IntKind.wrap .i64 (nd - (4 : Int))) (IntKind.wrap .u32 (Int.tdiv (IntKind.wrap .u32 u1) (10000 : Int))) h5))))))))))))))))
 else
 k nd (IntKind.wrap .u32 u1) h1))
 (fun nd1 x h2 =>
 JoinW2 (α1 := Int) (α2 := Int) (fun k =>
 (if (decide (nd1 ≥ (2 : Int))) = true then
 ((100 : Int) ≠ (0 : Int) ∧ ((100 : Int) ≠ (0 : Int) ∧ (((0 : Int) ≤ (IntKind.wrap .u32 ((IntKind.wrap .u32 ((Int.tmod x (100 : Int)) * (2 : Int))) + (1 : Int))) ∧ (IntKind.wrap .u32 ((IntKind.wrap .u32 ((Int.tmod x (100 : Int)) * (2 : Int))) + (1 : Int))) < (200 : Int)) ∧ (((0 : Int) ≤ (IntKind.wrap .u32 ((Int.tmod x (100 : Int)) * (2 : Int))) ∧ (IntKind.wrap .u32 ((Int.tmod x (100 : Int)) * (2 : Int))) < (200 : Int)) ∧ ((InB a.base a.len (IntKind.wrap .i64 (nd1 - (1 : Int)))) ∧ StW h2 (sat a.base 1 (IntKind.wrap .i64 (nd1 - (1 : Int)))) [(.int .u8 (((UInt8.toNat (List.getD bl200 (Int.toNat (IntKind.wrap .u32 ((IntKind.wrap .u32 ((Int.tmod x (100 : Int)) * (2 : Int))) + (1 : Int)))) 0)) : Nat) : Int))] (fun h3 =>
 ((InB a.base a.len (IntKind.wrap .i64 (nd1 - (2 : Int)))) ∧ StW h3 (sat a.base 1 (IntKind.wrap .i64 (nd1 - (2 : Int)))) [(.int .u8 (((UInt8.toNat (List.getD bl200 (Int.toNat (IntKind.wrap .u32 ((Int.tmod x (100 : Int)) * (2 : Int)))) 0)) : Nat) : Int))] (fun h4 =>
 k (IntKind.wrap .i64 (nd1 - (2 : Int))) (IntKind.wrap .u32 (Int.tdiv x (100 : Int))) h4))))))))
 else
 k nd1 x h2))
 (fun nd2 x1 h3 =>
 (if (decide (nd2 > (0 : Int))) = true then
 ((InB a.base a.len (0 : Int)) ∧ StW h3 (sat a.base 1 (0 : Int)) [(.int .u8 (IntKind.wrap .u8 (IntKind.wrap .u32 ((48 : Int) + x1))))] (fun h4 =>
 Q h4))
 else
 Q h3))))) u ((a.len : Nat) : Int) h

def zed (P : Program) (dst : Sl) (u : Int) (base : Int) (neg : Bool) (append_ : Bool) (Q : (Sl → (ByteArray → (Hp → Prop)))) (h : Hp) : Prop :=
 JoinW0 (fun k =>
 LetW ((decide (base < (2 : Int))) || (base == (10 : Int))) fun y =>
 LetW (y || (decide (base > (36 : Int)))) fun y1 =>
 (if y1 = true then
 False
 else
 k h))
 (fun h1 =>
 NewW [(.int .u8 (0 : Int)), (.int .u8 (0 : Int)), (.int .u8 (0 : Int)), (.int .u8 (0 : Int)), (.int .u8 (0 : Int)), (.int .u8 (0 : Int)), (.int .u8 (0 : Int)), (.int .u8 (0 : Int)), (.int .u8 (0 : Int)), (.int .u8 (0 : Int)), (.int .u8 (0 : Int)), (.int .u8 (0 : Int)), (.int .u8 (0 : Int)), (.int .u8 (0 : Int)), (.int .u8 (0 : Int)), (.int .u8 (0 : Int)), (.int .u8 (0 : Int)), (.int .u8 (0 : Int)), (.int .u8 (0 : Int)), (.int .u8 (0 : Int)), (.int .u8 (0 : Int)), (.int .u8 (0 : Int)), (.int .u8 (0 : Int)), (.int .u8 (0 : Int)), (.int .u8 (0 : Int)), (.int .u8 (0 : Int)), (.int .u8 (0 : Int)), (.int .u8 (0 : Int)), (.int .u8 (0 : Int)), (.int .u8 (0 : Int)), (.int .u8 (0 : Int)), (.int .u8 (0 : Int)), (.int .u8 (0 : Int)), (.int .u8 (0 : Int)), (.int .u8 (0 : Int)), (.int .u8 (0 : Int)), (.int .u8 (0 : Int)), (.int .u8 (0 : Int)), (.int .u8 (0 : Int)), (.int .u8 (0 : Int)), (.int .u8 (0 : Int)), (.int .u8 (0 : Int)), (.int .u8 (0 : Int)), (.int .u8 (0 : Int)), (.int .u8 (0 : Int)), (.int .u8 (0 : Int)), (.int .u8 (0 : Int)), (.int .u8 (0 : Int)), (.int .u8 (0 : Int)), (.int .u8 (0 : Int)), (.int .u8 (0 : Int)), (.int .u8 (0 : Int)), (.int .u8 (0 : Int)), (.int .u8 (0 : Int)), (.int .u8 (0 : Int)), (.int .u8 (0 : Int)), (.int .u8 (0 : Int)), (.int .u8 (0 : Int)), (.int .u8 (0 : Int)), (.int .u8 (0 : Int)), (.int .u8 (0 : Int)), (.int .u8 (0 : Int)), (.int .u8 (0 : Int)), (.int .u8 (0 : Int)), (.int .u8 (0 : Int))] (fun a h2 =>
 JoinW1 (α1 := Int) (fun k =>
 (if neg = true then
 k (IntKind.wrap .u64 ((0 : Int) - u)) h2
 else
 k u h2))
 (fun u1 h3 =>
 JoinW1 (α1 := Int) (fun k =>
 CallT P zgg [(.int .i64 base)] zag (fun r h4 =>
 (if r = true then
 CallT P zit [(.int .u64 (IntKind.wrap .u64 base))] (shInt .i64) (fun r1 h5 =>
 LoopW2 (α1 := Int) (α2 := Int) (fun again u2 i h6 =>
 (if (decide (u2 ≥ (IntKind.wrap .u64 base))) = true then
 (((0 : Int) ≤ (bitsI .and .u64 u2 (IntKind.wrap .u64 ((IntKind.wrap .u64 base) - (1 : Int)))) ∧ (bitsI .and .u64 u2 (IntKind.wrap .u64 ((IntKind.wrap .u64 base) - (1 : Int)))) < (36 : Int)) ∧ (((0 : Int) ≤ (IntKind.wrap .i64 (i - (1 : Int))) ∧ (IntKind.wrap .i64 (i - (1 : Int))) < (65 : Int)) ∧ StW h6 (Addr.add a ((Int.toNat (IntKind.wrap .i64 (i - (1 : Int)))) * 1)) [(.int .u8 (((UInt8.toNat (List.getD [48, 49, 50, 51, 52, 53, 54, 55, 56, 57, 97, 98, 99, 100, 101, 102, 103, 104, 105, 106, 107, 108, 109, 110, 111, 112, 113, 114, 115, 116, 117, 118, 119, 120, 121, 122] (Int.toNat (bitsI .and .u64 u2 (IntKind.wrap .u64 ((IntKind.wrap .u64 base) - (1 : Int))))) 0)) : Nat) : Int))] (fun h7 =>
 ((0 : Int) ≤ (IntKind.wrap .u64 r1) ∧ again (shrI .u64 u2 (IntKind.wrap .u64 r1)) (IntKind.wrap .i64 (i - (1 : Int))) h7))))
 else
 (((0 : Int) ≤ u2 ∧ u2 < (36 : Int)) ∧ (((0 : Int) ≤ (IntKind.wrap .i64 (i - (1 : Int))) ∧ (IntKind.wrap .i64 (i - (1 : Int))) < (65 : Int)) ∧ StW h6 (Addr.add a ((Int.toNat (IntKind.wrap .i64 (i - (1 : Int)))) * 1)) [(.int .u8 (((UInt8.toNat (List.getD [48, 49, 50, 51, 52, 53, 54, 55, 56, 57, 97, 98, 99, 100, 101, 102, 103, 104, 105, 106, 107, 108, 109, 110, 111, 112, 113, 114, 115, 116, 117, 118, 119, 120, 121, 122] (Int.toNat u2) 0)) : Nat) : Int))] (fun h7 =>
 k (IntKind.wrap .i64 (i - (1 : Int))) h7))))) u1 (65 : Int) h5) h4
 else
 LoopW2 (α1 := Int) (α2 := Int) (fun again u2 i h5 =>
 (if (decide (u2 ≥ (IntKind.wrap .u64 base))) = true then
 ((IntKind.wrap .u64 base) ≠ (0 : Int) ∧ (((0 : Int) ≤ (IntKind.wrap .u64 (u2 - (IntKind.wrap .u64 ((IntKind.wrap .u64 (Int.tdiv u2 (IntKind.wrap .u64 base))) * (IntKind.wrap .u64 base))))) ∧ (IntKind.wrap .u64 (u2 - (IntKind.wrap .u64 ((IntKind.wrap .u64 (Int.tdiv u2 (IntKind.wrap .u64 base))) * (IntKind.wrap .u64 base))))) < (36 : Int)) ∧ (((0 : Int) ≤ (IntKind.wrap .i64 (i - (1 : Int))) ∧ (IntKind.wrap .i64 (i - (1 : Int))) < (65 : Int)) ∧ StW h5 (Addr.add a ((Int.toNat (IntKind.wrap .i64 (i - (1 : Int)))) * 1)) [(.int .u8 (((UInt8.toNat (List.getD [48, 49, 50, 51, 52, 53, 54, 55, 56, 57, 97, 98, 99, 100, 101, 102, 103, 104, 105, 106, 107, 108, 109, 110, 111, 112, 113, 114, 115, 116, 117, 118, 119, 120, 121, 122] (Int.toNat (IntKind.wrap .u64 (u2 - (IntKind.wrap .u64 ((IntKind.wrap .u64 (Int.tdiv u2 (IntKind.wrap .u64 base))) * (IntKind.wrap .u64 base)))))) 0)) : Nat) : Int))] (fun h6 =>
 again (IntKind.wrap .u64 (Int.tdiv u2 (IntKind.wrap .u64 base))) (IntKind.wrap .i64 (i - (1 : Int))) h6))))
 else
 (((0 : Int) ≤ u2 ∧ u2 < (36 : Int)) ∧ (((0 : Int) ≤ (IntKind.wrap .i64 (i - (1 : Int))) ∧ (IntKind.wrap .i64 (i - (1 : Int))) < (65 : Int)) ∧ StW h5 (Addr.add a ((Int.toNat (IntKind.wrap .i64 (i - (1 : Int)))) * 1)) [(.int .u8 (((UInt8.toNat (List.getD [48, 49, 50, 51, 52, 53, 54, 55, 56, 57, 97, 98, 99, 100, 101, 102, 103, 104, 105, 106, 107, 108, 109, 110, 111, 112, 113, 114, 115, 116, 117, 118, 119, 120, 121, 122] (Int.toNat u2) 0)) : Nat) : Int))] (fun h6 =>
 k (IntKind.wrap .i64 (i - (1 : Int))) h6))))) u1 (65 : Int) h4)) h3)
 (fun i h4 =>
 (if neg = true then
 (((0 : Int) ≤ (IntKind.wrap .i64 (i - (1 : Int))) ∧ (IntKind.wrap .i64 (i - (1 : Int))) < (65 : Int)) ∧ StW h4 (Addr.add a ((Int.toNat (IntKind.wrap .i64 (i - (1 : Int)))) * 1)) [(.int .u8 (45 : Int))] (fun h5 =>
 (if append_ = true then
 (((0 : Int) ≤ (IntKind.wrap .i64 (i - (1 : Int))) ∧ (IntKind.wrap .i64 (i - (1 : Int))) ≤ (65 : Int)) ∧ LetW (α := Sl) ⟨(sbase (some a) 1 (Int.toNat (IntKind.wrap .i64 (i - (1 : Int)))) 65), (65 - (Int.toNat (IntKind.wrap .i64 (i - (1 : Int))))), (65 - (Int.toNat (IntKind.wrap .i64 (i - (1 : Int)))))⟩ fun y =>
 zdl 1 1 [(.int .u8 (0 : Int))] dst y (fun r h6 =>
 Q r ⟨#[]⟩ h6) h5)
 else
 (((0 : Int) ≤ (IntKind.wrap .i64 (i - (1 : Int))) ∧ (IntKind.wrap .i64 (i - (1 : Int))) ≤ (65 : Int)) ∧ LetW (α := Sl) ⟨(sbase (some a) 1 (Int.toNat (IntKind.wrap .i64 (i - (1 : Int)))) 65), (65 - (Int.toNat (IntKind.wrap .i64 (i - (1 : Int))))), (65 - (Int.toNat (IntKind.wrap .i64 (i - (1 : Int)))))⟩ fun y =>
 SemV none P (convert 74 9 y.v) shStr h5 fun x =>
 Q ⟨none, 0, 0⟩ x h5))))
 else
 (if append_ = true then
 (((0 : Int) ≤ i ∧ i ≤ (65 : Int)) ∧ LetW (α := Sl) ⟨(sbase (some a) 1 (Int.toNat i) 65), (65 - (Int.toNat i)), (65 - (Int.toNat i))⟩ fun y =>
 zdl 1 1 [(.int .u8 (0 : Int))] dst y (fun r h5 =>
 Q r ⟨#[]⟩ h5) h4)
 else
 (((0 : Int) ≤ i ∧ i ≤ (65 : Int)) ∧ LetW (α := Sl) ⟨(sbase (some a) 1 (Int.toNat i) 65), (65 - (Int.toNat i)), (65 - (Int.toNat i))⟩ fun y =>
 SemV none P (convert 74 9 y.v) shStr h4 fun x =>
 Q ⟨none, 0, 0⟩ x h4)))))) h1)

def zlm (P : Program) (x : Int) (y : Int) (Q : (Int → (Int → (Hp → Prop)))) (h : Hp) : Prop :=
 ((0 : Int) ≤ (32 : Int) ∧ ((0 : Int) ≤ (32 : Int) ∧ ((0 : Int) ≤ (32 : Int) ∧ ((0 : Int) ≤ (32 : Int) ∧ ((0 : Int) ≤ (32 : Int) ∧ Q (IntKind.wrap .u64 ((IntKind.wrap .u64 ((IntKind.wrap .u64 ((shrI .u64 x (32 : Int)) * (shrI .u64 y (32 : Int)))) + (shrI .u64 (IntKind.wrap .u64 ((IntKind.wrap .u64 ((shrI .u64 x (32 : Int)) * (bitsI .and .u64 y (4294967295 : Int)))) + (shrI .u64 (IntKind.wrap .u64 ((bitsI .and .u64 x (4294967295 : Int)) * (bitsI .and .u64 y (4294967295 : Int)))) (32 : Int)))) (32 : Int)))) + (shrI .u64 (IntKind.wrap .u64 ((bitsI .and .u64 (IntKind.wrap .u64 ((IntKind.wrap .u64 ((shrI .u64 x (32 : Int)) * (bitsI .and .u64 y (4294967295 : Int)))) + (shrI .u64 (IntKind.wrap .u64 ((bitsI .and .u64 x (4294967295 : Int)) * (bitsI .and .u64 y (4294967295 : Int)))) (32 : Int)))) (4294967295 : Int)) + (IntKind.wrap .u64 ((bitsI .and .u64 x (4294967295 : Int)) * (shrI .u64 y (32 : Int)))))) (32 : Int)))) (IntKind.wrap .u64 (x * y)) h)))))

def zfw (P : Program) (s : ByteArray) (c : Int) (Q : (Int → (Hp → Prop))) (h : Hp) : Prop :=
 SemE P (Extern.BytealgIndexByte.indexByte #[(.string s), (.int .u8 c)]) (shInt .i64) (fun r h1 =>
 Q r h1) h

def zcg (P : Program) (dst : Sl) (neg : Bool) (s : Sl) (dp : Int) (nd : Int) (prec : Int) (fmt : Int) (shortest : Bool) (Q : (Sl → (Hp → Prop))) (h : Hp) : Prop :=
 JoinW2 (α1 := Int) (α2 := Int) (fun k =>
 LetW ((fmt == (103 : Int)) || (fmt == (71 : Int))) fun y =>
 (if y = true then
 JoinW1 (α1 := Int) (fun k1 =>
 LetW ((decide (prec > nd)) && (decide (nd ≥ dp))) fun y1 =>
 (if y1 = true then
 k1 nd h
 else
 k1 prec h))
 (fun eprec h1 =>
 JoinW1 (α1 := Int) (fun k1 =>
 (if shortest = true then
 k1 (6 : Int) h1
 else
 k1 eprec h1))
 (fun eprec1 h2 =>
 LetW ((decide ((IntKind.wrap .i64 (dp - (1 : Int))) < (-4 : Int))) || (decide ((IntKind.wrap .i64 (dp - (1 : Int))) ≥ eprec1))) fun y1 =>
 (if y1 = true then
 JoinW1 (α1 := Int) (fun k1 =>
 (if (decide (prec > nd)) = true then
 k1 nd h2
 else
 k1 prec h2))
 (fun prec1 h3 =>
 k (IntKind.wrap .i64 (prec1 - (1 : Int))) (IntKind.wrap .u8 ((IntKind.wrap .u8 (fmt + (101 : Int))) - (103 : Int))) h3)
 else
 JoinW1 (α1 := Int) (fun k1 =>
 (if (decide (prec > dp)) = true then
 k1 nd h2
 else
 k1 prec h2))
 (fun prec1 h3 =>
 k (max2I (IntKind.wrap .i64 (prec1 - dp)) (0 : Int)) (102 : Int) h3))))
 else
 k prec fmt h))
 (fun prec1 fmt1 h1 =>
 JoinW1 (α1 := Bool) (fun k =>
 (if (fmt1 == (101 : Int)) = true then
 k (fmt1 == (101 : Int)) h1
 else
 k (fmt1 == (69 : Int)) h1))
 (fun t75 h2 =>
 (if t75 = true then
 JoinW1 (α1 := Sl) (fun k =>
 (if neg = true then
 NewW [(.int .u8 (45 : Int))] (fun a h3 =>
 zdl 1 1 [(.int .u8 (0 : Int))] dst ⟨(some a), 1, 1⟩ (fun r h4 =>
 k r h4) h3) h2
 else
 k dst h2))
 (fun dst1 h3 =>
 JoinW1 (α1 := Int) (fun k =>
 (if (nd != (0 : Int)) = true then
 ((InB s.base s.len (0 : Int)) ∧ LdW none (shInt .u8) h3 (sat s.base 1 (0 : Int)) fun x =>
 k x h3)
 else
 k (48 : Int) h3))
 (fun ch h4 =>
 NewW [(.int .u8 ch)] (fun a h5 =>
 zdl 1 1 [(.int .u8 (0 : Int))] dst1 ⟨(some a), 1, 1⟩ (fun r h6 =>
 JoinW1 (α1 := Sl) (fun k =>
 (if (decide (prec1 > (0 : Int))) = true then
 NewW [(.int .u8 (46 : Int))] (fun a1 h7 =>
 zdl 1 1 [(.int .u8 (0 : Int))] r ⟨(some a1), 1, 1⟩ (fun r1 h8 =>
 JoinW2 (α1 := Sl) (α2 := Int) (fun k1 =>
 (if (decide ((1 : Int) < (min2I nd (IntKind.wrap .i64 (prec1 + (1 : Int)))))) = true then
 (((0 : Int) ≤ (1 : Int) ∧ ((1 : Int) ≤ (min2I nd (IntKind.wrap .i64 (prec1 + (1 : Int)))) ∧ (min2I nd (IntKind.wrap .i64 (prec1 + (1 : Int)))) ≤ ((s.cap : Nat) : Int))) ∧ LetW (α := Sl) ⟨(sbase s.base 1 1 s.cap), ((Int.toNat (min2I nd (IntKind.wrap .i64 (prec1 + (1 : Int))))) - 1), (s.cap - 1)⟩ fun y =>
 zdl 1 1 [(.int .u8 (0 : Int))] r1 y (fun r2 h9 =>
 k1 r2 (min2I nd (IntKind.wrap .i64 (prec1 + (1 : Int)))) h9) h8)
 else
 k1 r1 (1 : Int) h8))
 (fun dst2 i h9 =>
 LoopW2 (α1 := Sl) (α2 := Int) (fun again dst3 t114 h10 =>
 (if (decide (t114 < (IntKind.wrap .i64 ((IntKind.wrap .i64 (prec1 + (1 : Int))) - i)))) = true then
 NewW [(.int .u8 (48 : Int))] (fun a2 h11 =>
 zdl 1 1 [(.int .u8 (0 : Int))] ⟨dst3.base, dst3.len, dst3.cap⟩ ⟨(some a2), 1, 1⟩ (fun r2 h12 =>
 again r2 (IntKind.wrap .i64 (t114 + (1 : Int))) h12) h11) h10
 else
 k ⟨dst3.base, dst3.len, dst3.cap⟩ h10)) ⟨dst2.base, dst2.len, dst2.cap⟩ (0 : Int) h9)) h7) h6
 else
 k r h6))
 (fun dst2 h7 =>
 NewW [(.int .u8 fmt1)] (fun a1 h8 =>
 zdl 1 1 [(.int .u8 (0 : Int))] dst2 ⟨(some a1), 1, 1⟩ (fun r1 h9 =>
 JoinW1 (α1 := Int) (fun k =>
 (if (nd == (0 : Int)) = true then
 k (0 : Int) h9
 else
 k (IntKind.wrap .i64 (dp - (1 : Int))) h9))
 (fun exp h10 =>
 JoinW2 (α1 := Int) (α2 := Int) (fun k =>
 (if (decide (exp < (0 : Int))) = true then
 k (45 : Int) (IntKind.wrap .i64 ((0 : Int) - exp)) h10
 else
 k (43 : Int) exp h10))
 (fun ch1 exp1 h11 =>
 NewW [(.int .u8 ch1)] (fun a2 h12 =>
 zdl 1 1 [(.int .u8 (0 : Int))] r1 ⟨(some a2), 1, 1⟩ (fun r2 h13 =>
 (if (decide (exp1 < (10 : Int))) = true then
 NewW [(.int .u8 (48 : Int)), (.int .u8 (IntKind.wrap .u8 ((IntKind.wrap .u8 exp1) + (48 : Int))))] (fun a3 h14 =>
 zdl 1 1 [(.int .u8 (0 : Int))] r2 ⟨(some a3), 2, 2⟩ (fun r3 h15 =>
 Q r3 h15) h14) h13
 else
 (if (decide (exp1 < (100 : Int))) = true then
 ((10 : Int) ≠ (0 : Int) ∧ ((10 : Int) ≠ (0 : Int) ∧ NewW [(.int .u8 (IntKind.wrap .u8 ((IntKind.wrap .u8 (IntKind.wrap .i64 (Int.tdiv exp1 (10 : Int)))) + (48 : Int)))), (.int .u8 (IntKind.wrap .u8 ((IntKind.wrap .u8 (Int.tmod exp1 (10 : Int))) + (48 : Int))))] (fun a3 h14 =>
 zdl 1 1 [(.int .u8 (0 : Int))] r2 ⟨(some a3), 2, 2⟩ (fun r3 h15 =>
 Q r3 h15) h14) h13))
 else
 ((100 : Int) ≠ (0 : Int) ∧ ((10 : Int) ≠ (0 : Int) ∧ ((10 : Int) ≠ (0 : Int) ∧ ((10 : Int) ≠ (0 : Int) ∧ NewW [(.int .u8 (IntKind.wrap .u8 ((IntKind.wrap .u8 (IntKind.wrap .i64 (Int.tdiv exp1 (100 : Int)))) + (48 : Int)))), (.int .u8 (IntKind.wrap .u8 ((Int.tmod (IntKind.wrap .u8 (IntKind.wrap .i64 (Int.tdiv exp1 (10 : Int)))) (10 : Int)) + (48 : Int)))), (.int .u8 (IntKind.wrap .u8 ((IntKind.wrap .u8 (Int.tmod exp1 (10 : Int))) + (48 : Int))))] (fun a3 h14 =>
 zdl 1 1 [(.int .u8 (0 : Int))] r2 ⟨(some a3), 3, 3⟩ (fun r3 h15 =>
 Q r3 h15) h14) h13))))))) h12) h11))) h8) h7)) h5) h4))
 else
 (if (fmt1 == (102 : Int)) = true then
 JoinW1 (α1 := Sl) (fun k =>
 (if neg = true then
 NewW [(.int .u8 (45 : Int))] (fun a h3 =>
 zdl 1 1 [(.int .u8 (0 : Int))] dst ⟨(some a), 1, 1⟩ (fun r h4 =>
 k r h4) h3) h2
 else
 k dst h2))
 (fun dst1 h3 =>
 JoinW1 (α1 := Sl) (fun k =>
 (if (decide (dp > (0 : Int))) = true then
 (((0 : Int) ≤ (min2I nd dp) ∧ (min2I nd dp) ≤ ((s.cap : Nat) : Int)) ∧ LetW (α := Sl) ⟨(sbase s.base 1 0 s.cap), ((Int.toNat (min2I nd dp)) - 0), (s.cap - 0)⟩ fun y =>
 LoopW2 (α1 := Sl) (α2 := Int) (fun again dst2 t191 h4 =>
 (if (decide (t191 < ((y.len : Nat) : Int))) = true then
 ((InB y.base y.len t191) ∧ LdW none (shInt .u8) h4 (sat y.base 1 t191) fun x =>
 NewW [(.int .u8 x)] (fun a h5 =>
 zdl 1 1 [(.int .u8 (0 : Int))] ⟨dst2.base, dst2.len, dst2.cap⟩ ⟨(some a), 1, 1⟩ (fun r h6 =>
 again r (IntKind.wrap .i64 (t191 + (1 : Int))) h6) h5) h4)
 else
 LoopW2 (α1 := Sl) (α2 := Int) (fun again1 dst3 t203 h5 =>
 (if (decide (t203 < (IntKind.wrap .i64 (dp - (min2I nd dp))))) = true then
 NewW [(.int .u8 (48 : Int))] (fun a h6 =>
 zdl 1 1 [(.int .u8 (0 : Int))] ⟨dst3.base, dst3.len, dst3.cap⟩ ⟨(some a), 1, 1⟩ (fun r h7 =>
 again1 r (IntKind.wrap .i64 (t203 + (1 : Int))) h7) h6) h5
 else
 k ⟨dst3.base, dst3.len, dst3.cap⟩ h5)) ⟨dst2.base, dst2.len, dst2.cap⟩ (0 : Int) h4)) dst1 (0 : Int) h3)
 else
 NewW [(.int .u8 (48 : Int))] (fun a h4 =>
 zdl 1 1 [(.int .u8 (0 : Int))] dst1 ⟨(some a), 1, 1⟩ (fun r h5 =>
 k r h5) h4) h3))
 (fun dst2 h4 =>
 (if (decide (prec1 > (0 : Int))) = true then
 NewW [(.int .u8 (46 : Int))] (fun a h5 =>
 zdl 1 1 [(.int .u8 (0 : Int))] dst2 ⟨(some a), 1, 1⟩ (fun r h6 =>
 LoopW2 (α1 := Sl) (α2 := Int) (fun again dst3 t240 h7 =>
 (if (decide (t240 < (min2I prec1 (max2I (0 : Int) (IntKind.wrap .i64 ((0 : Int) - dp)))))) = true then
 NewW [(.int .u8 (48 : Int))] (fun a1 h8 =>
 zdl 1 1 [(.int .u8 (0 : Int))] ⟨dst3.base, dst3.len, dst3.cap⟩ ⟨(some a1), 1, 1⟩ (fun r1 h9 =>
 again r1 (IntKind.wrap .i64 (t240 + (1 : Int))) h9) h8) h7
 else
 LoopW2 (α1 := Sl) (α2 := Int) (fun again1 dst4 t247 h8 =>
 (if (decide (t247 < (min2I (IntKind.wrap .i64 (prec1 - (min2I prec1 (max2I (0 : Int) (IntKind.wrap .i64 ((0 : Int) - dp)))))) (max2I (0 : Int) (IntKind.wrap .i64 (nd - (IntKind.wrap .i64 (dp + (min2I prec1 (max2I (0 : Int) (IntKind.wrap .i64 ((0 : Int) - dp)))))))))))) = true then
 ((InB s.base s.len (IntKind.wrap .i64 ((IntKind.wrap .i64 (dp + (min2I prec1 (max2I (0 : Int) (IntKind.wrap .i64 ((0 : Int) - dp)))))) + t247))) ∧ LdW none (shInt .u8) h8 (sat s.base 1 (IntKind.wrap .i64 ((IntKind.wrap .i64 (dp + (min2I prec1 (max2I (0 : Int) (IntKind.wrap .i64 ((0 : Int) - dp)))))) + t247))) fun x =>
 NewW [(.int .u8 x)] (fun a1 h9 =>
 zdl 1 1 [(.int .u8 (0 : Int))] ⟨dst4.base, dst4.len, dst4.cap⟩ ⟨(some a1), 1, 1⟩ (fun r1 h10 =>
 again1 r1 (IntKind.wrap .i64 (t247 + (1 : Int))) h10) h9) h8)
 else
 LoopW2 (α1 := Sl) (α2 := Int) (fun again2 dst5 t261 h9 =>
 (if (decide (t261 < (max2I (0 : Int) (IntKind.wrap .i64 ((IntKind.wrap .i64 (prec1 - (min2I prec1 (max2I (0 : Int) (IntKind.wrap .i64 ((0 : Int) - dp)))))) - (min2I (IntKind.wrap .i64 (prec1 - (min2I prec1 (max2I (0 : Int) (IntKind.wrap .i64 ((0 : Int) - dp)))))) (max2I (0 : Int) (IntKind.wrap .i64 (nd - (IntKind.wrap .i64 (dp + (min2I prec1 (max2I (0 : Int) (IntKind.wrap .i64 ((0 : Int) - dp))))))))))))))) = true then
 NewW [(.int .u8 (48 : Int))] (fun a1 h10 =>
 zdl 1 1 [(.int .u8 (0 : Int))] ⟨dst5.base, dst5.len, dst5.cap⟩ ⟨(some a1), 1, 1⟩ (fun r1 h11 =>
 again2 r1 (IntKind.wrap .i64 (t261 + (1 : Int))) h11) h10) h9
 else
 Q ⟨dst5.base, dst5.len, dst5.cap⟩ h9)) ⟨dst4.base, dst4.len, dst4.cap⟩ (0 : Int) h8)) ⟨dst3.base, dst3.len, dst3.cap⟩ (0 : Int) h7)) r (0 : Int) h6) h5) h4
 else
 Q dst2 h4)))
 else
 NewW [(.int .u8 (37 : Int)), (.int .u8 fmt1)] (fun a h3 =>
 zdl 1 1 [(.int .u8 (0 : Int))] dst ⟨(some a), 2, 2⟩ (fun r h4 =>
 Q r h4) h3) h2))))

def bl256 : List UInt8 := [0, 1, 2, 2, 3, 3, 3, 3, 4, 4, 4, 4, 4, 4, 4, 4, 5, 5, 5, 5, 5, 5, 5, 5, 5, 5, 5, 5, 5, 5, 5, 5, 6, 6, 6, 6, 6, 6, 6, 6, 6, 6, 6, 6, 6, 6, 6, 6, 6, 6, 6, 6, 6, 6, 6, 6, 6, 6, 6, 6, 6, 6, 6, 6, 7, 7, 7, 7, 7, 7, 7, 7, 7, 7, 7, 7, 7, 7, 7, 7, 7, 7, 7, 7, 7, 7, 7, 7, 7, 7, 7, 7, 7, 7, 7, 7, 7, 7, 7, 7, 7, 7, 7, 7, 7, 7, 7, 7, 7, 7, 7, 7, 7, 7, 7, 7, 7, 7, 7, 7, 7, 7, 7, 7, 7, 7, 7, 7, 8, 8, 8, 8, 8, 8, 8, 8, 8, 8, 8, 8, 8, 8, 8, 8, 8, 8, 8, 8, 8, 8, 8, 8, 8, 8, 8, 8, 8, 8, 8, 8, 8, 8, 8, 8, 8, 8, 8, 8, 8, 8, 8, 8, 8, 8, 8, 8, 8, 8, 8, 8, 8, 8, 8, 8, 8, 8, 8, 8, 8, 8, 8, 8, 8, 8, 8, 8, 8, 8, 8, 8, 8, 8, 8, 8, 8, 8, 8, 8, 8, 8, 8, 8, 8, 8, 8, 8, 8, 8, 8, 8, 8, 8, 8, 8, 8, 8, 8, 8, 8, 8, 8, 8, 8, 8, 8, 8, 8, 8, 8, 8, 8, 8, 8, 8, 8, 8, 8, 8, 8, 8, 8, 8, 8, 8, 8, 8]

def zln (P : Program) (x : Int) (Q : (Int → (Hp → Prop))) (h : Hp) : Prop :=
 JoinW2 (α1 := Int) (α2 := Int) (fun k =>
 (if (decide (x ≥ (4294967296 : Int))) = true then
 ((0 : Int) ≤ (32 : Int) ∧ k (shrI .u64 x (32 : Int)) (32 : Int) h)
 else
 k x (0 : Int) h))
 (fun x1 n h1 =>
 JoinW2 (α1 := Int) (α2 := Int) (fun k =>
 (if (decide (x1 ≥ (65536 : Int))) = true then
 ((0 : Int) ≤ (16 : Int) ∧ k (shrI .u64 x1 (16 : Int)) (IntKind.wrap .i64 (n + (16 : Int))) h1)
 else
 k x1 n h1))
 (fun x2 n1 h2 =>
 (if (decide (x2 ≥ (256 : Int))) = true then
 ((0 : Int) ≤ (8 : Int) ∧ (((0 : Int) ≤ (IntKind.wrap .u8 (shrI .u64 x2 (8 : Int))) ∧ (IntKind.wrap .u8 (shrI .u64 x2 (8 : Int))) < (256 : Int)) ∧ Q (IntKind.wrap .i64 ((IntKind.wrap .i64 (n1 + (8 : Int))) + (IntKind.wrap .i64 (((UInt8.toNat (List.getD bl256 (Int.toNat (IntKind.wrap .u8 (shrI .u64 x2 (8 : Int)))) 0)) : Nat) : Int)))) h2))
 else
 (((0 : Int) ≤ (IntKind.wrap .u8 x2) ∧ (IntKind.wrap .u8 x2) < (256 : Int)) ∧ Q (IntKind.wrap .i64 (n1 + (IntKind.wrap .i64 (((UInt8.toNat (List.getD bl256 (Int.toNat (IntKind.wrap .u8 x2)) 0)) : Nat) : Int)))) h2))))

def zeo (P : Program) (s : Sl) (d : Int) (p : Int) (nd : Int) (Q : (Int → (Int → (Hp → Prop)))) (h : Hp) : Prop :=
 (if (decide (nd ≤ ((s.len : Nat) : Int))) = true then
 (((0 : Int) ≤ nd ∧ nd ≤ ((s.cap : Nat) : Int)) ∧ LetW (α := Sl) ⟨(sbase s.base 1 0 s.cap), ((Int.toNat nd) - 0), (s.cap - 0)⟩ fun y =>
 Call0 P zbf [y.v, (.int .u64 d)] (fun h1 =>
 LoopW1 (α1 := Int) (fun again nd1 h2 =>
 (((decide (nd1 > (0 : Int))) = true → (InB s.base s.len (IntKind.wrap .i64 (nd1 - (1 : Int))))) ∧ LdW (some (decide (nd1 > (0 : Int)))) (shInt .u8) h2 (sat s.base 1 (IntKind.wrap .i64 (nd1 - (1 : Int)))) fun x =>
 LetW ((decide (nd1 > (0 : Int))) && (x == (48 : Int))) fun y1 =>
 (if y1 = true then
 again (IntKind.wrap .i64 (nd1 - (1 : Int))) h2
 else
 Q (IntKind.wrap .i64 (nd + p)) nd1 h2))) nd h1) h)
 else
 Q (0 : Int) nd h)

def zep (P : Program) (x : Int) (Q : (Int → (Hp → Prop))) (h : Hp) : Prop :=
 ((0 : Int) ≤ (18 : Int) ∧ Q (shrI .i64 (IntKind.wrap .i64 (x * (78913 : Int))) (18 : Int)) h)

def zar (P : Program) (a : Option Addr) (k : Int) (Q : (Hp → Prop)) (h : Hp) : Prop :=
 NilW none a fun p =>
 LdW none (shInt .i64) h (Addr.add p 800) fun x =>
 (if (x == (0 : Int)) = true then
 Q h
 else
 (if (decide (k > (0 : Int))) = true then
 LoopW1 (α1 := Int) (fun again k1 h1 =>
 (if (decide (k1 > (60 : Int))) = true then
 Call0 P zcr [(.pointer a), (.int .u64 (60 : Int))] (fun h2 =>
 again (IntKind.wrap .i64 (k1 - (60 : Int))) h2) h1
 else
 Call0 P zcr [(.pointer a), (.int .u64 (IntKind.wrap .u64 k1))] (fun h2 =>
 Q h2) h1)) k h
 else
 (if (decide (k < (0 : Int))) = true then
 LoopW1 (α1 := Int) (fun again k1 h1 =>
 (if (decide (k1 < (-60 : Int))) = true then
 Call0 P zcl [(.pointer a), (.int .u64 (60 : Int))] (fun h2 =>
 again (IntKind.wrap .i64 (k1 + (60 : Int))) h2) h1
 else
 Call0 P zcl [(.pointer a), (.int .u64 (IntKind.wrap .u64 (IntKind.wrap .i64 ((0 : Int) - k1))))] (fun h2 =>
 Q h2) h1)) k h
 else
 Q h)))

def zce (P : Program) (m : Int) (e : Int) (Q : (Int → (Int → (Hp → Prop)))) (h : Hp) : Prop :=
 JoinW2 (α1 := Int) (α2 := Int) (fun k =>
 k (52 : Int) (-1085 : Int) h)
 (fun mantBits minExp h1 =>
 JoinW4 (α1 := Int) (α2 := Int) (α3 := Int) (α4 := Int) (fun k =>
 LetW ((m == (9223372036854775808 : Int)) && (decide (e > minExp))) fun y =>
 (if y = true then
 CallT P ziu [(.int .i64 (IntKind.wrap .i64 (e + (IntKind.wrap .i64 ((63 : Int) - mantBits)))))] (shInt .i64) (fun r h2 =>
 ((0 : Int) ≤ (IntKind.wrap .i64 ((IntKind.wrap .i64 ((63 : Int) - mantBits)) - (2 : Int))) ∧ ((0 : Int) ≤ (IntKind.wrap .i64 ((IntKind.wrap .i64 ((63 : Int) - mantBits)) - (1 : Int))) ∧ ((0 : Int) ≤ (IntKind.wrap .i64 ((63 : Int) - mantBits)) ∧ k (IntKind.wrap .i64 ((0 : Int) - r)) (IntKind.wrap .u64 (m - (shlI .u64 (1 : Int) (IntKind.wrap .i64 ((IntKind.wrap .i64 ((63 : Int) - mantBits)) - (2 : Int)))))) (IntKind.wrap .u64 (m + (shlI .u64 (1 : Int) (IntKind.wrap .i64 ((IntKind.wrap .i64 ((63 : Int) - mantBits)) - (1 : Int)))))) (bitsI .and .i64 (IntKind.wrap .i64 (shrI .u64 m (IntKind.wrap .i64 ((63 : Int) - mantBits)))) (1 : Int)) h2)))) h1
 else
 (if (decide (e ≥ minExp)) = true then
 CallT P zba [(.int .i64 (IntKind.wrap .i64 (e + (IntKind.wrap .i64 ((63 : Int) - mantBits)))))] (shInt .i64) (fun r h2 =>
 ((0 : Int) ≤ (IntKind.wrap .i64 ((IntKind.wrap .i64 ((63 : Int) - mantBits)) - (1 : Int))) ∧ ((0 : Int) ≤ (IntKind.wrap .i64 ((IntKind.wrap .i64 ((63 : Int) - mantBits)) - (1 : Int))) ∧ ((0 : Int) ≤ (IntKind.wrap .i64 ((63 : Int) - mantBits)) ∧ k (IntKind.wrap .i64 ((0 : Int) - r)) (IntKind.wrap .u64 (m - (shlI .u64 (1 : Int) (IntKind.wrap .i64 ((IntKind.wrap .i64 ((63 : Int) - mantBits)) - (1 : Int)))))) (IntKind.wrap .u64 (m + (shlI .u64 (1 : Int) (IntKind.wrap .i64 ((IntKind.wrap .i64 ((63 : Int) - mantBits)) - (1 : Int)))))) (bitsI .and .i64 (IntKind.wrap .i64 (shrI .u64 m (IntKind.wrap .i64 ((63 : Int) - mantBits)))) (1 : Int)) h2)))) h1
 else
 CallT P zba [(.int .i64 (IntKind.wrap .i64 (e + (IntKind.wrap .i64 ((IntKind.wrap .i64 ((63 : Int) - mantBits)) + (IntKind.wrap .i64 (minExp - e)))))))] (shInt .i64) (fun r h2 =>
 ((0 : Int) ≤ (IntKind.wrap .i64 ((IntKind.wrap .i64 ((IntKind.wrap .i64 ((63 : Int) - mantBits)) + (IntKind.wrap .i64 (minExp - e)))) - (1 : Int))) ∧ ((0 : Int) ≤ (IntKind.wrap .i64 ((IntKind.wrap .i64 ((IntKind.wrap .i64 ((63 : Int) - mantBits)) + (IntKind.wrap .i64 (minExp - e)))) - (1 : Int))) ∧ ((0 : Int) ≤ (IntKind.wrap .i64 ((IntKind.wrap .i64 ((63 : Int) - mantBits)) + (IntKind.wrap .i64 (minExp - e)))) ∧ k (IntKind.wrap .i64 ((0 : Int) - r)) (IntKind.wrap .u64 (m - (shlI .u64 (1 : Int) (IntKind.wrap .i64 ((IntKind.wrap .i64 ((IntKind.wrap .i64 ((63 : Int) - mantBits)) + (IntKind.wrap .i64 (minExp - e)))) - (1 : Int)))))) (IntKind.wrap .u64 (m + (shlI .u64 (1 : Int) (IntKind.wrap .i64 ((IntKind.wrap .i64 ((IntKind.wrap .i64 ((63 : Int) - mantBits)) + (IntKind.wrap .i64 (minExp - e)))) - (1 : Int)))))) (bitsI .and .i64 (IntKind.wrap .i64 (shrI .u64 m (IntKind.wrap .i64 ((IntKind.wrap .i64 ((63 : Int) - mantBits)) + (IntKind.wrap .i64 (minExp - e)))))) (1 : Int)) h2)))) h1)))
 (fun p min max odd h2 =>
 NewW [(.int .u64 (0 : Int)), (.int .u64 (0 : Int)), (.int .i64 (0 : Int))] (fun a h3 =>
 CallT P zej [(.int .i64 p)] (shInt .i64) (fun r h4 =>
 Call0 P zcz [(.pointer (some a)), (.int .i64 e), (.int .i64 p), (.int .i64 r)] (fun h5 =>
 CallT P zbs [(.int .u64 min), (.pointer (some a))] (shInt .u64) (fun r1 h6 =>
 CallT P zct [(.int .u64 r1), (.int .i64 odd)] (shInt .u64) (fun r2 h7 =>
 CallT P zfl [(.int .u64 r2)] (shInt .u64) (fun r3 h8 =>
 CallT P zbs [(.int .u64 max), (.pointer (some a))] (shInt .u64) (fun r4 h9 =>
 CallT P zct [(.int .u64 r4), (.int .i64 (IntKind.wrap .i64 ((0 : Int) - odd)))] (shInt .u64) (fun r5 h10 =>
 CallT P zfe [(.int .u64 r5)] (shInt .u64) (fun r6 h11 =>
 ((10 : Int) ≠ (0 : Int) ∧ (if (decide ((IntKind.wrap .u64 ((IntKind.wrap .u64 (Int.tdiv r6 (10 : Int))) * (10 : Int))) ≥ r3)) = true then
 Q (IntKind.wrap .u64 (Int.tdiv r6 (10 : Int))) (IntKind.wrap .i64 ((0 : Int) - (IntKind.wrap .i64 (p - (1 : Int))))) h11
 else
 (if (decide (r3 < r6)) = true then
 CallT P zbs [(.int .u64 m), (.pointer (some a))] (shInt .u64) (fun r7 h12 =>
 CallT P zcu [(.int .u64 r7)] (shInt .u64) (fun r8 h13 =>
 Q r8 (IntKind.wrap .i64 ((0 : Int) - p)) h13) h12) h11
 else
 Q r3 (IntKind.wrap .i64 ((0 : Int) - p)) h11)))) h10) h9) h8) h7) h6) h5) h4) h3) h2))

def zal (P : Program) (s : ByteArray) (Q : (Nat → (Int → (Leaf → (Hp → Prop))))) (h : Hp) : Prop :=
 Call3 P zfi [(.string s)] (shFlt .f64) (shInt .i64) zag (fun r r1 r2 h1 =>
 (if r2 = true then
 EncW zaj .nilIface fun e =>
 Q r r1 e h1
 else
 Call7 P zel [(.string s)] (shInt .u64) (shInt .i64) zag zag zag (shInt .i64) zag (fun r3 r4 r5 r6 r7 r8 r9 h2 =>
 (if (!r9) = true then
 EncW zaj (.iface 122 (.int .i64 (2 : Int))) fun e =>
 Q 0 r8 e h2
 else
 (if r7 = true then
 (((0 : Int) ≤ r8 ∧ r8 ≤ (((ByteArray.size s) : Nat) : Int)) ∧ Call2 P zfj [(.string (ByteArray.extract s 0 (Int.toNat r8))), (.pointer (some ⟨7, 0, none⟩)), (.int .u64 r3), (.int .i64 r4), (.bool r5), (.bool r6)] (shFlt .f64) zaj (fun r10 r11 h3 =>
 EncW zaj r11.v fun e =>
 Q r10 r8 e h3) h2)
 else
 JoinW2 (α1 := Int) (α2 := Leaf) (fun k =>
 LdW none zag h2 ⟨2, 0, none⟩ fun x =>
 (if x = true then
 CallT P zby [(.bool r5)] (shInt .u64) (fun r10 h3 =>
 ((0 : Int) ≤ (63 : Int) ∧ (if (r3 == (0 : Int)) = true then
 SemE P (Extern.MathFloatBits.float64frombits #[(.int .u64 (bitsI .or .u64 (shlI .u64 r10 (63 : Int)) (0 : Int)))]) (shFlt .f64) (fun r11 h4 =>
 EncW zaj .nilIface fun e =>
 Q r11 r8 e h4) h3
 else
 (if (decide (r4 > (310 : Int))) = true then
 SemE P (Extern.MathFloatBits.float64frombits #[(.int .u64 (bitsI .or .u64 (shlI .u64 r10 (63 : Int)) (9218868437227405312 : Int)))]) (shFlt .f64) (fun r11 h4 =>
 EncW zaj (.iface 122 (.int .i64 (1 : Int))) fun e =>
 Q r11 r8 e h4) h3
 else
 (if (decide (r4 < (-345 : Int))) = true then
 SemE P (Extern.MathFloatBits.float64frombits #[(.int .u64 (bitsI .or .u64 (shlI .u64 r10 (63 : Int)) (0 : Int)))]) (shFlt .f64) (fun r11 h4 =>
 EncW zaj .nilIface fun e =>
 Q r11 r8 e h4) h3
 else
 JoinW2 (α1 := Int) (α2 := Leaf) (fun k1 =>
 (if (!r6) = true then
 Call2 P zdv [(.int .u64 r3), (.int .i64 r4), (.bool r5)] (shFlt .f64) zag (fun r11 r12 h4 =>
 (if r12 = true then
 EncW zaj .nilIface fun e =>
 Q r11 r8 e h4
 else
 EncW zaj .nilIface fun e =>
 k1 r8 e h4)) h3
 else
 EncW zaj .nilIface fun e =>
 k1 r8 e h3))
 (fun n err h4 =>
 Call2 P zbz [(.int .u64 r3), (.int .i64 r4), (.int .u64 (shlI .u64 r10 (63 : Int)))] (shFlt .f64) zaj (fun r11 r12 h5 =>
 (if (!r6) = true then
 EncW zaj r12.v fun e =>
 Q r11 n e h5
 else
 Call2 P zbz [(.int .u64 (IntKind.wrap .u64 (r3 + (1 : Int)))), (.int .i64 r4), (.int .u64 (shlI .u64 r10 (63 : Int)))] (shFlt .f64) zaj (fun r13 r14 h6 =>
 SemV none P (binS .eql 48 (.tmp 119) (.tmp 120) (.float .f64 r11) (.float .f64 r13)) zag h6 fun x1 =>
 (if x1 = true then
 EncW zaj r12.v fun e =>
 Q r11 n e h6
 else
 EncW zaj err.v fun e =>
 k n e h6)) h5)) h4)))))) h2
 else
 EncW zaj .nilIface fun e =>
 k r8 e h2))
 (fun n err h3 =>
 NewW [(.int .u8 (0 : Int)), (.int .u8 (0 : Int)), (.int .u8 (0 : Int)), (.int .u8 (0 : Int)), (.int .u8 (0 : Int)), (.int .u8 (0 : Int)), (.int .u8 (0 : Int)), (.int .u8 (0 : Int)), (.int .u8 (0 : Int)), (.int .u8 (0 : Int)), (.int .u8 (0 : Int)), (.int .u8 (0 : Int)), (.int .u8 (0 : Int)), (.int .u8 (0 : Int)), (.int .u8 (0 : Int)), (.int .u8 (0 : Int)), (.int .u8 (0 : Int)), (.int .u8 (0 : Int)), (.int .u8 (0 : Int)), (.int .u8 (0 : Int)), (.int .u8 (0 : Int)), (.int .u8 (0 : Int)), (.int .u8 (0 : Int)), (.int .u8 (0 : Int)), (.int .u8 (0 : Int)), (.int .u8 (0 : Int)), (.int .u8 (0 : Int)), (.int .u8 (0 : Int)), (.int .u8 (0 : Int)), (.int .u8 (0 : Int)), (.int .u8 (0 : Int)), (.int .u8 (0 : Int)), (.int .u8 (0 : Int)), (.int .u8 (0 : Int)), (.int .u8 (0 : Int)), (.int .u8 (0 : Int)), (.int .u8 (0 : Int)), (.int .u8 (0 : Int)), (.int .u8 (0 : Int)), (.int .u8 (0 : Int)), (.int .u8 (0 : Int)), (.int .u8 (0 : Int)), (.int .u8 (0 : Int)), (.int .u8 (0 : Int)), (.int .u8 (0 : Int)), (.int .u8 (0 : Int)), (.int .u8 (0 : Int)), (.int .u8 (0 : Int)), (.int .u8 (0 : Int)), (.int .u8 (0 : Int)), (.int .u8 (0 : Int)), (.int .u8 (0 : Int)), (.int .u8 (0 : Int)), (.int .u8 (0 : Int)), (.int .u8 (0 : Int)), (.int .u8 (0 : Int)), (.int .u8 (0 : Int)), (.int .u8 (0 : Int)), (.int .u8 (0 : Int)), (.int .u8 (0 : Int)), (.int .u8 (0 : Int)), (.int .u8 (0 : Int)), (.int .u8 (0 : Int)), (.int .u8 (0 : Int)), (.int .u8 (0 : Int)), (.int .u8 (0 : Int)), (.int .u8 (0 : Int)), (.int .u8 (0 : Int)), (.int .u8 (0 : Int)), (.int .u8 (0 : Int)), (.int .u8 (0 : Int)), (.int .u8 (0 : Int)), (.int .u8 (0 : Int)), (.int .u8 (0 : Int)), (.int .u8 (0 : Int)), (.int .u8 (0 : Int)), (.int .u8 (0 : Int)), (.int .u8 (0 : Int)), (.int .u8 (0 : Int)), (.int .u8 (0 : Int)), (.int .u8 (0 : Int)), (.int .u8 (0 : Int)), (.int .u8 (0 : Int)), (.int .u8 (0 : Int)), (.int .u8 (0 : Int)), (.int .u8 (0 : Int)), (.int .u8 (0 : Int)), (.int .u8 (0 : Int)), (.int .u8 (0 : Int)), (.int .u8 (0 : Int)), (.int .u8 (0 : Int)), (.int .u8 (0 : Int)), (.int .u8 (0 : Int)), (.int .u8 (0 : Int)), (.int .u8 (0 : Int)), (.int .u8 (0 : Int)), (.int .u8 (0 : Int)), (.int .u8 (0 : Int)), (.int .u8 (0 : Int)), (.int .u8 (0 : Int)), (.int .u8 (0 : Int)), (.int .u8 (0 : Int)), (.int .u8 (0 : Int)), (.int .u8 (0 : Int)), (.int .u8 (0 : Int)), (.int .u8 (0 : Int)), (.int .u8 (0 : Int)), (.int .u8 (0 : Int)), (.int .u8 (0 : Int)), (.int .u8 (0 : Int)), (.int .u8 (0 : Int)), (.int .u8 (0 : Int)), (.int .u8 (0 : Int)), (.int .u8 (0 : Int)), (.int .u8 (0 : Int)), (.int .u8 (0 : Int)), (.int .u8 (0 : Int)), (.int .u8 (0 : Int)), (.int .u8 (0 : Int)), (.int .u8 (0 : Int)), (.int .u8 (0 : Int)), (.int .u8 (0 : Int)), (.int .u8 (0 : Int)), (.int .u8 (0 : Int)), (.int .u8 (0 : Int)), (.int .u8 (0 : Int)), (.int .u8 (0 : Int)), (.int .u8 (0 : Int)), (.int .u8 (0 : Int)), (.int .u8 (0 : Int)), (.int .u8 (0 : Int)), (.int .u8 (0 : Int)), (.int .u8 (0 : Int)), (.int .u8 (0 : Int)), (.int .u8 (0 : Int)), (.int .u8 (0 : Int)), (.int .u8 (0 : Int)), (.int .u8 (0 : Int)), (.int .u8 (0 : Int)), (.int .u8 (0 : Int)), (.int .u8 (0 : Int)), (.int .u8 (0 : Int)), (.int .u8 (0 : Int)), (.int .u8 (0 : Int)), (.int .u8 (0 : Int)), (.int .u8 (0 : Int)), (.int .u8 (0 : Int)), (.int .u8 (0 : Int)), (.int .u8 (0 : Int)), (.int .u8 (0 : Int)), (.int .u8 (0 : Int)), (.int .u8 (0 : Int)), (.int .u8 (0 : Int)), (.int .u8 (0 : Int)), (.int .u8 (0 : Int)), (.int .u8 (0 : Int)), (.int .u8 (0 : Int)), (.int .u8 (0 : Int)), (.int .u8 (0 : Int)), (.int .u8 (0 : Int)), (.int .u8 (0 : Int)), (.int .u8 (0 : Int)), (.int .u8 (0 : Int)), (.int .u8 (0 : Int)), (.int .u8 (0 : Int)), (.int .u8 (0 : Int)), (.int .u8 (0 : Int)), (.int .u8 (0 : Int)), (.int .u8 (0 : Int)), (.int .u8 (0 : Int)), (.int .u8 (0 : Int)), (.int .u8 (0 : Int)), (.int .u8 (0 : Int)), (.int .u8 (0 : Int)), (.int .u8 (0 : Int)), (.int .u8 (0 : Int)), (.int .u8 (0 : Int)), (.int .u8 (0 : Int)), (.int .u8 (0 : Int)), (.int .u8 (0 : Int)), (.int .u8 (0 : Int)), (.int .u8 (0 : Int)), (.int .u8 (0 : Int)), (.int .u8 (0 : Int)), (.int .u8 (0 : Int)), (.int .u8 (0 : Int)), (.int .u8 (0 : Int)), (.int .u8 (0 : Int)), (.int .u8 (0 : Int)), (.int .u8 (0 : Int)), (.int .u8 (0 : Int)), (.int .u8 (0 : Int)), (.int .u8 (0 : Int)), (.int .u8 (0 : Int)), (.int .u8 (0 : Int)), (.int .u8 (0 : Int)), (.int .u8 (0 : Int)), (.int .u8 (0 : Int)), (.int .u8 (0 : Int)), (.int .u8 (0 : Int)), (.int .u8 (0 : Int)), (.int .u8 (0 : Int)), (.int .u8 (0 : Int)), (.int .u8 (0 : Int)), (.int .u8 (0 : Int)), (.int .u8 (0 : Int)), (.int .u8 (0 : Int)), (.int .u8 (0 : Int)), (.int .u8 (0 : Int)), (.int .u8 (0 : Int)), (.int .u8 (0 : Int)), (.int .u8 (0 : Int)), (.int .u8 (0 : Int)), (.int .u8 (0 : Int)), (.int .u8 (0 : Int)), (.int .u8 (0 : Int)), (.int .u8 (0 : Int)), (.int .u8 (0 : Int)), (.int .u8 (0 : Int)), (.int .u8 (0 : Int)), (.int .u8 (0 : Int)), (.int .u8 (0 : Int)), (.int .u8 (0 : Int)), (.int .u8 (0 : Int)), (.int .u8 (0 : Int)), (.int .u8 (0 : Int)), (.int .u8 (0 : Int)), (.int .u8 (0 : Int)), (.int .u8 (0 : Int)), (.int .u8 (0 : Int)), (.int .u8 (0 : Int)), (.int .u8 (0 : Int)), (.int .u8 (0 : Int)), (.int .u8 (0 : Int)), (.int .u8 (0 : Int)), (.int .u8 (0 : Int)), (.int .u8 (0 : Int)), (.int .u8 (0 : Int)), (.int .u8 (0 : Int)), (.int .u8 (0 : Int)), (.int .u8 (0 : Int)), (.int .u8 (0 : Int)), (.int .u8 (0 : Int)), (.int .u8 (0 : Int)), (.int .u8 (0 : Int)), (.int .u8 (0 : Int)), (.int .u8 (0 : Int)), (.int .u8 (0 : Int)), (.int .u8 (0 : Int)), (.int .u8 (0 : Int)), (.int .u8 (0 : Int)), (.int .u8 (0 : Int)), (.int .u8 (0 : Int)), (.int .u8 (0 : Int)), (.int .u8 (0 : Int)), (.int .u8 (0 : Int)), (.int .u8 (0 : Int)), (.int .u8 (0 : Int)), (.int .u8 (0 : Int)), (.int .u8 (0 : Int)), (.int .u8 (0 : Int)), (.int .u8 (0 : Int)), (.int .u8 (0 : Int)), (.int .u8 (0 : Int)), (.int .u8 (0 : Int)), (.int .u8 (0 : Int)), (.int .u8 (0 : Int)), (.int .u8 (0 : Int)), (.int .u8 (0 : Int)), (.int .u8 (0 : Int)), (.int .u8 (0 : Int)), (.int .u8 (0 : Int)), (.int .u8 (0 : Int)), (.int .u8 (0 : Int)), (.int .u8 (0 : Int)), (.int .u8 (0 : Int)), (.int .u8 (0 : Int)), (.int .u8 (0 : Int)), (.int .u8 (0 : Int)), (.int .u8 (0 : Int)), (.int .u8 (0 : Int)), (.int .u8 (0 : Int)), (.int .u8 (0 : Int)), (.int .u8 (0 : Int)), (.int .u8 (0 : Int)), (.int .u8 (0 : Int)), (.int .u8 (0 : Int)), (.int .u8 (0 : Int)), (.int .u8 (0 : Int)), (.int .u8 (0 : Int)), (.int .u8 (0 : Int)), (.int .u8 (0 : Int)), (.int .u8 (0 : Int)), (.int .u8 (0 : Int)), (.int .u8 (0 : Int)), (.int .u8 (0 : Int)), (.int .u8 (0 : Int)), (.int .u8 (0 : Int)), (.int .u8 (0 : Int)), (.int .u8 (0 : Int)), (.int .u8 (0 : Int)), (.int .u8 (0 : Int)), (.int .u8 (0 : Int)), (.int .u8 (0 : Int)), (.int .u8 (0 : Int)), (.int .u8 (0 : Int)), (.int .u8 (0 : Int)), (.int .u8 (0 : Int)), (.int .u8 (0 : Int)), (.int .u8 (0 : Int)), (.int .u8 (0 : Int)), (.int .u8 (0 : Int)), (.int .u8 (0 : Int)), (.int .u8 (0 : Int)), (.int .u8 (0 : Int)), (.int .u8 (0 : Int)), (.int .u8 (0 : Int)), (.int .u8 (0 : Int)), (.int .u8 (0 : Int)), (.int .u8 (0 : Int)), (.int .u8 (0 : Int)), (.int .u8 (0 : Int)), (.int .u8 (0 : Int)), (.int .u8 (0 : Int)), (.int .u8 (0 : Int)), (.int .u8 (0 : Int)), (.int .u8 (0 : Int)), (.int .u8 (0 : Int)), (.int .u8 (0 : Int)), (.int .u8 (0 : Int)), (.int .u8 (0 : Int)), (.int .u8 (0 : Int)), (.int .u8 (0 : Int)), (.int .u8 (0 : Int)), (.int .u8 (0 : Int)), (.int .u8 (0 : Int)), (.int .u8 (0 : Int)), (.int .u8 (0 : Int)), (.int .u8 (0 : Int)), (.int .u8 (0 : Int)), (.int .u8 (0 : Int)), (.int .u8 (0 : Int)), (.int .u8 (0 : Int)), (.int .u8 (0 : Int)), (.int .u8 (0 : Int)), (.int .u8 (0 : Int)), (.int .u8 (0 : Int)), (.int .u8 (0 : Int)), (.int .u8 (0 : Int)), (.int .u8 (0 : Int)), (.int .u8 (0 : Int)), (.int .u8 (0 : Int)), (.int .u8 (0 : Int)), (.int .u8 (0 : Int)), (.int .u8 (0 : Int)), (.int .u8 (0 : Int)), (.int .u8 (0 : Int)), (.int .u8 (0 : Int)), (.int .u8 (0 : Int)), (.int .u8 (0 : Int)), (.int .u8 (0 : Int)), (.int .u8 (0 : Int)), (.int .u8 (0 : Int)), (.int .u8 (0 : Int)), (.int .u8 (0 : Int)), (.int .u8 (0 : Int)), (.int .u8 (0 : Int)), (.int .u8 (0 : Int)), (.int .u8 (0 : Int)), (.int .u8 (0 : Int)), (.int .u8 (0 : Int)), (.int .u8 (0 : Int)), (.int .u8 (0 : Int)), (.int .u8 (0 : Int)), (.int .u8 (0 : Int)), (.int .u8 (0 : Int)), (.int .u8 (0 : Int)), (.int .u8 (0 : Int)), (.int .u8 (0 : Int)), (.int .u8 (0 : Int)), (.int .u8 (0 : Int)), (.int .u8 (0 : Int)), (.int .u8 (0 : Int)), (.int .u8 (0 : Int)), (.int .u8 (0 : Int)), (.int .u8 (0 : Int)), (.int .u8 (0 : Int)), (.int .u8 (0 : Int)), (.int .u8 (0 : Int)), (.int .u8 (0 : Int)), (.int .u8 (0 : Int)), (.int .u8 (0 : Int)), (.int .u8 (0 : Int)), (.int .u8 (0 : Int)), (.int .u8 (0 : Int)), (.int .u8 (0 : Int)), (.int .u8 (0 : Int)), (.int .u8 (0 : Int)), (.int .u8 (0 : Int)), (.int .u8 (0 : Int)), (.int .u8 (0 : Int)), (.int .u8 (0 : Int)), (.int .u8 (0 : Int)), (.int .u8 (0 : Int)), (.int .u8 (0 : Int)), (.int .u8 (0 : Int)), (.int .u8 (0 : Int)), (.int .u8 (0 : Int)), (.int .u8 (0 : Int)), (.int .u8 (0 : Int)), (.int .u8 (0 : Int)), (.int .u8 (0 : Int)), (.int .u8 (0 : Int)), (.int .u8 (0 : Int)), (.int .u8 (0 : Int)), (.int .u8 (0 : Int)), (.int .u8 (0 : Int)), (.int .u8 (0 : Int)), (.int .u8 (0 : Int)), (.int .u8 (0 : Int)), (.int .u8 (0 : Int)), (.int .u8 (0 : Int)), (.int .u8 (0 : Int)), (.int .u8 (0 : Int)), (.int .u8 (0 : Int)), (.int .u8 (0 : Int)), (.int .u8 (0 : Int)), (.int .u8 (0 : Int)), (.int .u8 (0 : Int)), (.int .u8 (0 : Int)), (.int .u8 (0 : Int)), (.int .u8 (0 : Int)), (.int .u8 (0 : Int)), (.int .u8 (0 : Int)), (.int .u8 (0 : Int)), (.int .u8 (0 : Int)), (.int .u8 (0 : Int)), (.int .u8 (0 : Int)), (.int .u8 (0 : Int)), (.int .u8 (0 : Int)), (.int .u8 (0 : Int)), (.int .u8 (0 : Int)), (.int .u8 (0 : Int)), (.int .u8 (0 : Int)), (.int .u8 (0 : Int)), (.int .u8 (0 : Int)), (.int .u8 (0 : Int)), (.int .u8 (0 : Int)), (.int .u8 (0 : Int)), (.int .u8 (0 : Int)), (.int .u8 (0 : Int)), (.int .u8 (0 : Int)), (.int .u8 (0 : Int)), (.int .u8 (0 : Int)), (.int .u8 (0 : Int)), (.int .u8 (0 : Int)), (.int .u8 (0 : Int)), (.int .u8 (0 : Int)), (.int .u8 (0 : Int)), (.int .u8 (0 : Int)), (.int .u8 (0 : Int)), (.int .u8 (0 : Int)), (.int .u8 (0 : Int)), (.int .u8 (0 : Int)), (.int .u8 (0 : Int)), (.int .u8 (0 : Int)), (.int .u8 (0 : Int)), (.int .u8 (0 : Int)), (.int .u8 (0 : Int)), (.int .u8 (0 : Int)), (.int .u8 (0 : Int)), (.int .u8 (0 : Int)), (.int .u8 (0 : Int)), (.int .u8 (0 : Int)), (.int .u8 (0 : Int)), (.int .u8 (0 : Int)), (.int .u8 (0 : Int)), (.int .u8 (0 : Int)), (.int .u8 (0 : Int)), (.int .u8 (0 : Int)), (.int .u8 (0 : Int)), (.int .u8 (0 : Int)), (.int .u8 (0 : Int)), (.int .u8 (0 : Int)), (.int .u8 (0 : Int)), (.int .u8 (0 : Int)), (.int .u8 (0 : Int)), (.int .u8 (0 : Int)), (.int .u8 (0 : Int)), (.int .u8 (0 : Int)), (.int .u8 (0 : Int)), (.int .u8 (0 : Int)), (.int .u8 (0 : Int)), (.int .u8 (0 : Int)), (.int .u8 (0 : Int)), (.int .u8 (0 : Int)), (.int .u8 (0 : Int)), (.int .u8 (0 : Int)), (.int .u8 (0 : Int)), (.int .u8 (0 : Int)), (.int .u8 (0 : Int)), (.int .u8 (0 : Int)), (.int .u8 (0 : Int)), (.int .u8 (0 : Int)), (.int .u8 (0 : Int)), (.int .u8 (0 : Int)), (.int .u8 (0 : Int)), (.int .u8 (0 : Int)), (.int .u8 (0 : Int)), (.int .u8 (0 : Int)), (.int .u8 (0 : Int)), (.int .u8 (0 : Int)), (.int .u8 (0 : Int)), (.int .u8 (0 : Int)), (.int .u8 (0 : Int)), (.int .u8 (0 : Int)), (.int .u8 (0 : Int)), (.int .u8 (0 : Int)), (.int .u8 (0 : Int)), (.int .u8 (0 : Int)), (.int .u8 (0 : Int)), (.int .u8 (0 : Int)), (.int .u8 (0 : Int)), (.int .u8 (0 : Int)), (.int .u8 (0 : Int)), (.int .u8 (0 : Int)), (.int .u8 (0 : Int)), (.int .u8 (0 : Int)), (.int .u8 (0 : Int)), (.int .u8 (0 : Int)), (.int .u8 (0 : Int)), (.int .u8 (0 : Int)), (.int .u8 (0 : Int)), (.int .u8 (0 : Int)), (.int .u8 (0 : Int)), (.int .u8 (0 : Int)), (.int .u8 (0 : Int)), (.int .u8 (0 : Int)), (.int .u8 (0 : Int)), (.int .u8 (0 : Int)), (.int .u8 (0 : Int)), (.int .u8 (0 : Int)), (.int .u8 (0 : Int)), (.int .u8 (0 : Int)), (.int .u8 (0 : Int)), (.int .u8 (0 : Int)), (.int .u8 (0 : Int)), (.int .u8 (0 : Int)), (.int .u8 (0 : Int)), (.int .u8 (0 : Int)), (.int .u8 (0 : Int)), (.int .u8 (0 : Int)), (.int .u8 (0 : Int)), (.int .u8 (0 : Int)), (.int .u8 (0 : Int)), (.int .u8 (0 : Int)), (.int .u8 (0 : Int)), (.int .u8 (0 : Int)), (.int .u8 (0 : Int)), (.int .u8 (0 : Int)), (.int .u8 (0 : Int)), (.int .u8 (0 : Int)), (.int .u8 (0 : Int)), (.int .u8 (0 : Int)), (.int .u8 (0 : Int)), (.int .u8 (0 : Int)), (.int .u8 (0 : Int)), (.int .u8 (0 : Int)), (.int .u8 (0 : Int)), (.int .u8 (0 : Int)), (.int .u8 (0 : Int)), (.int .u8 (0 : Int)), (.int .u8 (0 : Int)), (.int .u8 (0 : Int)), (.int .u8 (0 : Int)), (.int .u8 (0 : Int)), (.int .u8 (0 : Int)), (.int .u8 (0 : Int)), (.int .u8 (0 : Int)), (.int .u8 (0 : Int)), (.int .u8 (0 : Int)), (.int .u8 (0 : Int)), (.int .u8 (0 : Int)), (.int .u8 (0 : Int)), (.int .u8 (0 : Int)), (.int .u8 (0 : Int)), (.int .u8 (0 : Int)), (.int .u8 (0 : Int)), (.int .u8 (0 : Int)), (.int .u8 (0 : Int)), (.int .u8 (0 : Int)), (.int .u8 (0 : Int)), (.int .u8 (0 : Int)), (.int .u8 (0 : Int)), (.int .u8 (0 : Int)), (.int .u8 (0 : Int)), (.int .u8 (0 : Int)), (.int .u8 (0 : Int)), (.int .u8 (0 : Int)), (.int .u8 (0 : Int)), (.int .u8 (0 : Int)), (.int .u8 (0 : Int)), (.int .u8 (0 : Int)), (.int .u8 (0 : Int)), (.int .u8 (0 : Int)), (.int .u8 (0 : Int)), (.int .u8 (0 : Int)), (.int .u8 (0 : Int)), (.int .u8 (0 : Int)), (.int .u8 (0 : Int)), (.int .u8 (0 : Int)), (.int .u8 (0 : Int)), (.int .u8 (0 : Int)), (.int .u8 (0 : Int)), (.int .u8 (0 : Int)), (.int .u8 (0 : Int)), (.int .u8 (0 : Int)), (.int .u8 (0 : Int)), (.int .u8 (0 : Int)), (.int .u8 (0 : Int)), (.int .u8 (0 : Int)), (.int .u8 (0 : Int)), (.int .u8 (0 : Int)), (.int .u8 (0 : Int)), (.int .u8 (0 : Int)), (.int .u8 (0 : Int)), (.int .u8 (0 : Int)), (.int .u8 (0 : Int)), (.int .u8 (0 : Int)), (.int .u8 (0 : Int)), (.int .u8 (0 : Int)), (.int .u8 (0 : Int)), (.int .u8 (0 : Int)), (.int .u8 (0 : Int)), (.int .u8 (0 : Int)), (.int .u8 (0 : Int)), (.int .u8 (0 : Int)), (.int .u8 (0 : Int)), (.int .u8 (0 : Int)), (.int .u8 (0 : Int)), (.int .u8 (0 : Int)), (.int .u8 (0 : Int)), (.int .u8 (0 : Int)), (.int .u8 (0 : Int)), (.int .u8 (0 : Int)), (.int .u8 (0 : Int)), (.int .u8 (0 : Int)), (.int .u8 (0 : Int)), (.int .u8 (0 : Int)), (.int .u8 (0 : Int)), (.int .u8 (0 : Int)), (.int .u8 (0 : Int)), (.int .u8 (0 : Int)), (.int .u8 (0 : Int)), (.int .u8 (0 : Int)), (.int .u8 (0 : Int)), (.int .u8 (0 : Int)), (.int .u8 (0 : Int)), (.int .u8 (0 : Int)), (.int .u8 (0 : Int)), (.int .u8 (0 : Int)), (.int .u8 (0 : Int)), (.int .u8 (0 : Int)), (.int .u8 (0 : Int)), (.int .u8 (0 : Int)), (.int .u8 (0 : Int)), (.int .u8 (0 : Int)), (.int .u8 (0 : Int)), (.int .u8 (0 : Int)), (.int .u8 (0 : Int)), (.int .u8 (0 : Int)), (.int .u8 (0 : Int)), (.int .u8 (0 : Int)), (.int .u8 (0 : Int)), (.int .u8 (0 : Int)), (.int .u8 (0 : Int)), (.int .u8 (0 : Int)), (.int .u8 (0 : Int)), (.int .u8 (0 : Int)), (.int .u8 (0 : Int)), (.int .u8 (0 : Int)), (.int .u8 (0 : Int)), (.int .u8 (0 : Int)), (.int .u8 (0 : Int)), (.int .u8 (0 : Int)), (.int .u8 (0 : Int)), (.int .u8 (0 : Int)), (.int .u8 (0 : Int)), (.int .u8 (0 : Int)), (.int .u8 (0 : Int)), (.int .u8 (0 : Int)), (.int .u8 (0 : Int)), (.int .u8 (0 : Int)), (.int .u8 (0 : Int)), (.int .u8 (0 : Int)), (.int .u8 (0 : Int)), (.int .u8 (0 : Int)), (.int .u8 (0 : Int)), (.int .u8 (0 : Int)), (.int .u8 (0 : Int)), (.int .u8 (0 : Int)), (.int .u8 (0 : Int)), (.int .u8 (0 : Int)), (.int .u8 (0 : Int)), (.int .u8 (0 : Int)), (.int .u8 (0 : Int)), (.int .u8 (0 : Int)), (.int .u8 (0 : Int)), (.int .u8 (0 : Int)), (.int .u8 (0 : Int)), (.int .u8 (0 : Int)), (.int .u8 (0 : Int)), (.int .u8 (0 : Int)), (.int .u8 (0 : Int)), (.int .u8 (0 : Int)), (.int .u8 (0 : Int)), (.int .u8 (0 : Int)), (.int .u8 (0 : Int)), (.int .u8 (0 : Int)), (.int .u8 (0 : Int)), (.int .u8 (0 : Int)), (.int .u8 (0 : Int)), (.int .u8 (0 : Int)), (.int .u8 (0 : Int)), (.int .u8 (0 : Int)), (.int .u8 (0 : Int)), (.int .u8 (0 : Int)), (.int .u8 (0 : Int)), (.int .u8 (0 : Int)), (.int .u8 (0 : Int)), (.int .u8 (0 : Int)), (.int .u8 (0 : Int)), (.int .u8 (0 : Int)), (.int .u8 (0 : Int)), (.int .u8 (0 : Int)), (.int .u8 (0 : Int)), (.int .u8 (0 : Int)), (.int .u8 (0 : Int)), (.int .u8 (0 : Int)), (.int .u8 (0 : Int)), (.int .u8 (0 : Int)), (.int .u8 (0 : Int)), (.int .u8 (0 : Int)), (.int .u8 (0 : Int)), (.int .u8 (0 : Int)), (.int .u8 (0 : Int)), (.int .u8 (0 : Int)), (.int .u8 (0 : Int)), (.int .u8 (0 : Int)), (.int .u8 (0 : Int)), (.int .u8 (0 : Int)), (.int .u8 (0 : Int)), (.int .u8 (0 : Int)), (.int .u8 (0 : Int)), (.int .u8 (0 : Int)), (.int .u8 (0 : Int)), (.int .u8 (0 : Int)), (.int .u8 (0 : Int)), (.int .u8 (0 : Int)), (.int .u8 (0 : Int)), (.int .u8 (0 : Int)), (.int .u8 (0 : Int)), (.int .u8 (0 : Int)), (.int .u8 (0 : Int)), (.int .u8 (0 : Int)), (.int .u8 (0 : Int)), (.int .u8 (0 : Int)), (.int .u8 (0 : Int)), (.int .u8 (0 : Int)), (.int .u8 (0 : Int)), (.int .u8 (0 : Int)), (.int .u8 (0 : Int)), (.int .u8 (0 : Int)), (.int .u8 (0 : Int)), (.int .u8 (0 : Int)), (.int .u8 (0 : Int)), (.int .u8 (0 : Int)), (.int .u8 (0 : Int)), (.int .u8 (0 : Int)), (.int .u8 (0 : Int)), (.int .u8 (0 : Int)), (.int .u8 (0 : Int)), (.int .u8 (0 : Int)), (.int .u8 (0 : Int)), (.int .u8 (0 : Int)), (.int .u8 (0 : Int)), (.int .u8 (0 : Int)), (.int .u8 (0 : Int)), (.int .u8 (0 : Int)), (.int .u8 (0 : Int)), (.int .u8 (0 : Int)), (.int .u8 (0 : Int)), (.int .u8 (0 : Int)), (.int .u8 (0 : Int)), (.int .u8 (0 : Int)), (.int .u8 (0 : Int)), (.int .u8 (0 : Int)), (.int .u8 (0 : Int)), (.int .u8 (0 : Int)), (.int .u8 (0 : Int)), (.int .i64 (0 : Int)), (.int .i64 (0 : Int)), (.bool false), (.bool false)] (fun a h4 =>
 (((0 : Int) ≤ n ∧ n ≤ (((ByteArray.size s) : Nat) : Int)) ∧ CallT P zdu [(.pointer (some a)), (.string (ByteArray.extract s 0 (Int.toNat n)))] zag (fun r10 h5 =>
 (if (!r10) = true then
 EncW zaj (.iface 122 (.int .i64 (2 : Int))) fun e =>
 Q 0 n e h5
 else
 Call2 P zbi [(.pointer (some a)), (.pointer (some ⟨7, 0, none⟩))] (shInt .u64) zag (fun r11 r12 h6 =>
 SemE P (Extern.MathFloatBits.float64frombits #[(.int .u64 r11)]) (shFlt .f64) (fun r13 h7 =>
 (if r12 = true then
 EncW zaj (.iface 122 (.int .i64 (1 : Int))) fun e =>
 Q r13 n e h7
 else
 EncW zaj err.v fun e =>
 Q r13 n e h7)) h6) h5)) h4)) h3)))) h1)) h

def zeq (P : Program) (b : Bool) (Q : (Int → (Hp → Prop))) (h : Hp) : Prop :=
 (if b = true then
 Q (1 : Int) h
 else
 Q (0 : Int) h)

def zgj (P : Program) (x : Int) (Q : (Bool → (Hp → Prop))) (h : Hp) : Prop :=
 Q ((bitsI .and .i64 x (IntKind.wrap .i64 (x - (1 : Int)))) == (0 : Int)) h

def zfr (P : Program) (x : Int) (Q : (Int → (Hp → Prop))) (h : Hp) : Prop :=
 CallT P zhv [(.int .u64 x)] (shInt .i64) (fun r h1 =>
 Q r h1) h

def zfs (P : Program) (e : Int) (Q : (Int → (Hp → Prop))) (h : Hp) : Prop :=
 ((0 : Int) ≤ (21 : Int) ∧ Q (shrI .i64 (IntKind.wrap .i64 ((IntKind.wrap .i64 (e * (631305 : Int))) - (261663 : Int))) (21 : Int)) h)

def zbw (P : Program) (pre : Option Addr) (e : Int) (p : Int) (lp : Int) (Q : (Hp → Prop)) (h : Hp) : Prop :=
 (((0 : Int) ≤ (IntKind.wrap .i64 (p - (-348 : Int))) ∧ (IntKind.wrap .i64 (p - (-348 : Int))) < (696 : Int)) ∧ LdW none (shInt .u64) h (Addr.add (Addr.add ⟨8, 0, none⟩ ((Int.toNat (IntKind.wrap .i64 (p - (-348 : Int)))) * 2)) 0) fun x =>
 NilW none pre fun p1 =>
 StW h (Addr.add p1 0) [(.int .u64 x)] (fun h1 =>
 (((0 : Int) ≤ (IntKind.wrap .i64 (p - (-348 : Int))) ∧ (IntKind.wrap .i64 (p - (-348 : Int))) < (696 : Int)) ∧ LdW none (shInt .u64) h1 (Addr.add (Addr.add ⟨8, 0, none⟩ ((Int.toNat (IntKind.wrap .i64 (p - (-348 : Int)))) * 2)) 1) fun x1 =>
 NilW none pre fun p2 =>
 StW h1 (Addr.add p2 1) [(.int .u64 x1)] (fun h2 =>
 NilW none pre fun p3 =>
 StW h2 (Addr.add p3 2) [(.int .i64 (IntKind.wrap .i64 ((0 : Int) - (IntKind.wrap .i64 ((IntKind.wrap .i64 (e + lp)) + (3 : Int))))))] (fun h3 =>
 Q h3)))))

def zer (P : Program) (x : Int) (Q : (Int → (Hp → Prop))) (h : Hp) : Prop :=
 ((0 : Int) ≤ (15 : Int) ∧ Q (shrI .i64 (IntKind.wrap .i64 (x * (108853 : Int))) (15 : Int)) h)

def zch (P : Program) (x : Int) (c : Option Addr) (Q : (Int → (Hp → Prop))) (h : Hp) : Prop :=
 NilW none c fun p =>
 LdW none (shInt .u64) h (Addr.add p 0) fun x1 =>
 Call2 P zie [(.int .u64 x), (.int .u64 x1)] (shInt .u64) (shInt .u64) (fun r r1 h1 =>
 NilW none c fun p1 =>
 LdW none (shInt .i64) h1 (Addr.add p1 2) fun x2 =>
 ((0 : Int) ≤ (bitsI .and .i64 x2 (63 : Int)) ∧ ((0 : Int) ≤ (bitsI .and .i64 x2 (63 : Int)) ∧ (if ((shlI .u64 (shrI .u64 r (bitsI .and .i64 x2 (63 : Int))) (bitsI .and .i64 x2 (63 : Int))) != r) = true then
 ((0 : Int) ≤ (bitsI .and .i64 x2 (63 : Int)) ∧ Q (bitsI .or .u64 (shrI .u64 r (bitsI .and .i64 x2 (63 : Int))) (1 : Int)) h1)
 else
 NilW none c fun p2 =>
 LdW none (shInt .u64) h1 (Addr.add p2 1) fun x3 =>
 Call2 P zie [(.int .u64 x), (.int .u64 x3)] (shInt .u64) (shInt .u64) (fun r2 r3 h2 =>
 CallT P zby [(.bool (decide (r1 < r2)))] (shInt .u64) (fun r4 h3 =>
 ((0 : Int) ≤ (bitsI .and .i64 x2 (63 : Int)) ∧ CallT P zby [(.bool (decide ((IntKind.wrap .u64 (r1 - r2)) > (1 : Int))))] (shInt .u64) (fun r5 h4 =>
 Q (bitsI .or .u64 (shrI .u64 (IntKind.wrap .u64 (r - r4)) (bitsI .and .i64 x2 (63 : Int))) r5) h4) h3)) h2) h1)))) h

def zcv (P : Program) (u : Int) (x : Int) (Q : (Int → (Hp → Prop))) (h : Hp) : Prop :=
 Q (IntKind.wrap .u64 (u + (IntKind.wrap .u64 x))) h

def zda (P : Program) (u : Int) (Q : (Int → (Hp → Prop))) (h : Hp) : Prop :=
 ((0 : Int) ≤ (2 : Int) ∧ Q (shrI .u64 (IntKind.wrap .u64 (u + (3 : Int))) (2 : Int)) h)

def zcw (P : Program) (u : Int) (Q : (Int → (Hp → Prop))) (h : Hp) : Prop :=
 ((0 : Int) ≤ (2 : Int) ∧ Q (shrI .u64 (IntKind.wrap .u64 (u + (0 : Int))) (2 : Int)) h)

def zcx (P : Program) (u : Int) (Q : (Int → (Hp → Prop))) (h : Hp) : Prop :=
 ((0 : Int) ≤ (2 : Int) ∧ ((0 : Int) ≤ (2 : Int) ∧ Q (shrI .u64 (IntKind.wrap .u64 ((IntKind.wrap .u64 (u + (1 : Int))) + (bitsI .and .u64 (shrI .u64 u (2 : Int)) (1 : Int)))) (2 : Int)) h))

def zgk (P : Program) (x : Int) (Q : (Int → (Hp → Prop))) (h : Hp) : Prop :=
 ((0 : Int) ≤ (2 : Int) ∧ Q (IntKind.wrap .u64 ((shlI .u64 x (2 : Int)) - (2 : Int))) h)

def zgu (P : Program) (a : Option Addr) (Q : (Hp → Prop)) (h : Hp) : Prop :=
 LoopW0 (fun again h1 =>
 NilW none a fun p =>
 LdW none (shInt .i64) h1 (Addr.add p 800) fun x =>
 NilW (some (decide (x > (0 : Int)))) a fun p1 =>
 LdW (some (decide (x > (0 : Int)))) (shInt .i64) h1 (Addr.add p1 800) fun x1 =>
 NilW (some (decide (x > (0 : Int)))) a fun p2 =>
 (((decide (x > (0 : Int))) = true → ((0 : Int) ≤ (IntKind.wrap .i64 (x1 - (1 : Int))) ∧ (IntKind.wrap .i64 (x1 - (1 : Int))) < (800 : Int))) ∧ LdW (some (decide (x > (0 : Int)))) (shInt .u8) h1 (Addr.add (Addr.add p2 0) ((Int.toNat (IntKind.wrap .i64 (x1 - (1 : Int)))) * 1)) fun x2 =>
 LetW ((decide (x > (0 : Int))) && (x2 == (48 : Int))) fun y =>
 (if y = true then
 NilW none a fun p3 =>
 LdW none (shInt .i64) h1 (Addr.add p3 800) fun x3 =>
 NilW none a fun p4 =>
 StW h1 (Addr.add p4 800) [(.int .i64 (IntKind.wrap .i64 (x3 - (1 : Int))))] (fun h2 =>
 again h2)
 else
 NilW none a fun p3 =>
 LdW none (shInt .i64) h1 (Addr.add p3 800) fun x3 =>
 (if (x3 == (0 : Int)) = true then
 NilW none a fun p4 =>
 StW h1 (Addr.add p4 801) [(.int .i64 (0 : Int))] (fun h2 =>
 Q h2)
 else
 Q h1))))  h

def zes (P : Program) (a : Option Addr) (k : Int) (Q : (Hp → Prop)) (h : Hp) : Prop :=
 LdW none shSl h ⟨9, 0, none⟩ fun x =>
 ((InB x.base x.len k) ∧ LdW none (shInt .i64) h (Addr.add (sat x.base 2 k) 0) fun x1 =>
 JoinW1 (α1 := Int) (fun k1 =>
 NilW none a fun p =>
 NilW none a fun p1 =>
 LdW none (shInt .i64) h (Addr.add p1 800) fun x2 =>
 (((0 : Int) ≤ (0 : Int) ∧ ((0 : Int) ≤ x2 ∧ x2 ≤ (800 : Int))) ∧ LetW (α := Sl) ⟨(sbase (some (Addr.add p 0)) 1 0 800), ((Int.toNat x2) - 0), 800⟩ fun y =>
 LdW none shSl h ⟨9, 0, none⟩ fun x3 =>
 ((InB x3.base x3.len k) ∧ LdW none shStr h (Addr.add (sat x3.base 2 k) 1) fun x4 =>
 CallT P zey [y.v, (.string x4)] zag (fun r h1 =>
 (if r = true then
 k1 (IntKind.wrap .i64 (x1 - (1 : Int))) h1
 else
 k1 x1 h1)) h)))
 (fun delta h1 =>
 NilW none a fun p =>
 LdW none (shInt .i64) h1 (Addr.add p 800) fun x2 =>
 NilW none a fun p1 =>
 LdW none (shInt .i64) h1 (Addr.add p1 800) fun x3 =>
 LoopW3 (α1 := Int) (α2 := Int) (α3 := Int) (fun again r w n h2 =>
 (if (decide (r ≥ (0 : Int))) = true then
 NilW none a fun p2 =>
 (((0 : Int) ≤ r ∧ r < (800 : Int)) ∧ LdW none (shInt .u8) h2 (Addr.add (Addr.add p2 0) ((Int.toNat r) * 1)) fun x4 =>
 ((0 : Int) ≤ k ∧ ((10 : Int) ≠ (0 : Int) ∧ JoinW0 (fun k1 =>
 (if (decide ((IntKind.wrap .i64 (w - (1 : Int))) < (800 : Int))) = true then
 NilW none a fun p3 =>
 (((0 : Int) ≤ (IntKind.wrap .i64 (w - (1 : Int))) ∧ (IntKind.wrap .i64 (w - (1 : Int))) < (800 : Int)) ∧ StW h2 (Addr.add (Addr.add p3 0) ((Int.toNat (IntKind.wrap .i64 (w - (1 : Int)))) * 1)) [(.int .u8 (IntKind.wrap .u8 (IntKind.wrap .u64 ((IntKind.wrap .u64 ((IntKind.wrap .u64 (n + (shlI .u64 (IntKind.wrap .u64 ((IntKind.wrap .u64 x4) - (48 : Int))) k))) - (IntKind.wrap .u64 ((10 : Int) * (IntKind.wrap .u64 (Int.tdiv (IntKind.wrap .u64 (n + (shlI .u64 (IntKind.wrap .u64 ((IntKind.wrap .u64 x4) - (48 : Int))) k))) (10 : Int))))))) + (48 : Int)))))] (fun h3 =>
 k1 h3))
 else
 (if ((IntKind.wrap .u64 ((IntKind.wrap .u64 (n + (shlI .u64 (IntKind.wrap .u64 ((IntKind.wrap .u64 x4) - (48 : Int))) k))) - (IntKind.wrap .u64 ((10 : Int) * (IntKind.wrap .u64 (Int.tdiv (IntKind.wrap .u64 (n + (shlI .u64 (IntKind.wrap .u64 ((IntKind.wrap .u64 x4) - (48 : Int))) k))) (10 : Int))))))) != (0 : Int)) = true then
 NilW none a fun p3 =>
 StW h2 (Addr.add p3 803) [(.bool true)] (fun h3 =>
 k1 h3)
 else
 k1 h2)))
 (fun h3 =>
 again (IntKind.wrap .i64 (r - (1 : Int))) (IntKind.wrap .i64 (w - (1 : Int))) (IntKind.wrap .u64 (Int.tdiv (IntKind.wrap .u64 (n + (shlI .u64 (IntKind.wrap .u64 ((IntKind.wrap .u64 x4) - (48 : Int))) k))) (10 : Int))) h3))))
 else
 LoopW2 (α1 := Int) (α2 := Int) (fun again1 w1 n1 h3 =>
 (if (decide (n1 > (0 : Int))) = true then
 ((10 : Int) ≠ (0 : Int) ∧ JoinW0 (fun k1 =>
 (if (decide ((IntKind.wrap .i64 (w1 - (1 : Int))) < (800 : Int))) = true then
 NilW none a fun p2 =>
 (((0 : Int) ≤ (IntKind.wrap .i64 (w1 - (1 : Int))) ∧ (IntKind.wrap .i64 (w1 - (1 : Int))) < (800 : Int)) ∧ StW h3 (Addr.add (Addr.add p2 0) ((Int.toNat (IntKind.wrap .i64 (w1 - (1 : Int)))) * 1)) [(.int .u8 (IntKind.wrap .u8 (IntKind.wrap .u64 ((IntKind.wrap .u64 (n1 - (IntKind.wrap .u64 ((10 : Int) * (IntKind.wrap .u64 (Int.tdiv n1 (10 : Int))))))) + (48 : Int)))))] (fun h4 =>
 k1 h4))
 else
 (if ((IntKind.wrap .u64 (n1 - (IntKind.wrap .u64 ((10 : Int) * (IntKind.wrap .u64 (Int.tdiv n1 (10 : Int))))))) != (0 : Int)) = true then
 NilW none a fun p2 =>
 StW h3 (Addr.add p2 803) [(.bool true)] (fun h4 =>
 k1 h4)
 else
 k1 h3)))
 (fun h4 =>
 again1 (IntKind.wrap .i64 (w1 - (1 : Int))) (IntKind.wrap .u64 (Int.tdiv n1 (10 : Int))) h4))
 else
 NilW none a fun p2 =>
 LdW none (shInt .i64) h3 (Addr.add p2 800) fun x4 =>
 NilW none a fun p3 =>
 StW h3 (Addr.add p3 800) [(.int .i64 (IntKind.wrap .i64 (x4 + delta)))] (fun h4 =>
 JoinW0 (fun k1 =>
 NilW none a fun p4 =>
 LdW none (shInt .i64) h4 (Addr.add p4 800) fun x5 =>
 (if (decide (x5 ≥ (800 : Int))) = true then
 NilW none a fun p5 =>
 StW h4 (Addr.add p5 800) [(.int .i64 (800 : Int))] (fun h5 =>
 k1 h5)
 else
 k1 h4))
 (fun h5 =>
 NilW none a fun p4 =>
 LdW none (shInt .i64) h5 (Addr.add p4 801) fun x5 =>
 NilW none a fun p5 =>
 StW h5 (Addr.add p5 801) [(.int .i64 (IntKind.wrap .i64 (x5 + delta)))] (fun h6 =>
 Call0 P zek [(.pointer a)] (fun h7 =>
 Q h7) h6))))) w n h2)) (IntKind.wrap .i64 (x2 - (1 : Int))) (IntKind.wrap .i64 (x3 + delta)) (0 : Int) h1))

def zee (P : Program) (a : Option Addr) (k : Int) (Q : (Hp → Prop)) (h : Hp) : Prop :=
 JoinW2 (α1 := Int) (α2 := Int) (fun k1 =>
 LoopW2 (α1 := Int) (α2 := Int) (fun again r n h1 =>
 ((0 : Int) ≤ k ∧ (if ((shrI .u64 n k) == (0 : Int)) = true then
 NilW none a fun p =>
 LdW none (shInt .i64) h1 (Addr.add p 800) fun x =>
 (if (decide (r ≥ x)) = true then
 (if (n == (0 : Int)) = true then
 NilW none a fun p1 =>
 StW h1 (Addr.add p1 800) [(.int .i64 (0 : Int))] (fun h2 =>
 Q h2)
 else
 LoopW2 (α1 := Int) (α2 := Int) (fun again1 r1 n1 h2 =>
 ((0 : Int) ≤ k ∧ (if ((shrI .u64 n1 k) == (0 : Int)) = true then
 again1 (IntKind.wrap .i64 (r1 + (1 : Int))) (IntKind.wrap .u64 (n1 * (10 : Int))) h2
 else
 k1 r1 n1 h2))) r n h1)
 else
 NilW none a fun p1 =>
 (((0 : Int) ≤ r ∧ r < (800 : Int)) ∧ LdW none (shInt .u8) h1 (Addr.add (Addr.add p1 0) ((Int.toNat r) * 1)) fun x1 =>
 again (IntKind.wrap .i64 (r + (1 : Int))) (IntKind.wrap .u64 ((IntKind.wrap .u64 ((IntKind.wrap .u64 (n * (10 : Int))) + (IntKind.wrap .u64 x1))) - (48 : Int))) h1))
 else
 k1 r n h1))) (0 : Int) (0 : Int) h)
 (fun r n h1 =>
 NilW none a fun p =>
 LdW none (shInt .i64) h1 (Addr.add p 801) fun x =>
 NilW none a fun p1 =>
 StW h1 (Addr.add p1 801) [(.int .i64 (IntKind.wrap .i64 (x - (IntKind.wrap .i64 (r - (1 : Int))))))] (fun h2 =>
 ((0 : Int) ≤ k ∧ LoopW3 (α1 := Int) (α2 := Int) (α3 := Int) (fun again r1 w n1 h3 =>
 NilW none a fun p2 =>
 LdW none (shInt .i64) h3 (Addr.add p2 800) fun x1 =>
 (if (decide (r1 < x1)) = true then
 NilW none a fun p3 =>
 (((0 : Int) ≤ r1 ∧ r1 < (800 : Int)) ∧ LdW none (shInt .u8) h3 (Addr.add (Addr.add p3 0) ((Int.toNat r1) * 1)) fun x2 =>
 ((0 : Int) ≤ k ∧ NilW none a fun p4 =>
 (((0 : Int) ≤ w ∧ w < (800 : Int)) ∧ StW h3 (Addr.add (Addr.add p4 0) ((Int.toNat w) * 1)) [(.int .u8 (IntKind.wrap .u8 (IntKind.wrap .u64 ((shrI .u64 n1 k) + (48 : Int)))))] (fun h4 =>
 again (IntKind.wrap .i64 (r1 + (1 : Int))) (IntKind.wrap .i64 (w + (1 : Int))) (IntKind.wrap .u64 ((IntKind.wrap .u64 ((IntKind.wrap .u64 ((bitsI .and .u64 n1 (IntKind.wrap .u64 ((shlI .u64 (1 : Int) k) - (1 : Int)))) * (10 : Int))) + (IntKind.wrap .u64 x2))) - (48 : Int))) h4))))
 else
 LoopW2 (α1 := Int) (α2 := Int) (fun again1 w1 n2 h4 =>
 (if (decide (n2 > (0 : Int))) = true then
 ((0 : Int) ≤ k ∧ JoinW1 (α1 := Int) (fun k1 =>
 (if (decide (w1 < (800 : Int))) = true then
 NilW none a fun p3 =>
 (((0 : Int) ≤ w1 ∧ w1 < (800 : Int)) ∧ StW h4 (Addr.add (Addr.add p3 0) ((Int.toNat w1) * 1)) [(.int .u8 (IntKind.wrap .u8 (IntKind.wrap .u64 ((shrI .u64 n2 k) + (48 : Int)))))] (fun h5 =>
 k1 (IntKind.wrap .i64 (w1 + (1 : Int))) h5))
 else
 (if (decide ((shrI .u64 n2 k) > (0 : Int))) = true then
 NilW none a fun p3 =>
 StW h4 (Addr.add p3 803) [(.bool true)] (fun h5 =>
 k1 w1 h5)
 else
 k1 w1 h4)))
 (fun w2 h5 =>
 again1 w2 (IntKind.wrap .u64 ((bitsI .and .u64 n2 (IntKind.wrap .u64 ((shlI .u64 (1 : Int) k) - (1 : Int)))) * (10 : Int))) h5))
 else
 NilW none a fun p3 =>
 StW h4 (Addr.add p3 800) [(.int .i64 w1)] (fun h5 =>
 Call0 P zek [(.pointer a)] (fun h6 =>
 Q h6) h5))) w n1 h3)) r (0 : Int) n h2)))

def zdh (P : Program) (a : Option Addr) (nd : Int) (Q : (Bool → (Hp → Prop))) (h : Hp) : Prop :=
 NilW (some (!(decide (nd < (0 : Int))))) a fun p =>
 LdW (some (!(decide (nd < (0 : Int))))) (shInt .i64) h (Addr.add p 800) fun x =>
 LetW ((decide (nd < (0 : Int))) || (decide (nd ≥ x))) fun y =>
 (if y = true then
 Q false h
 else
 NilW none a fun p1 =>
 (((0 : Int) ≤ nd ∧ nd < (800 : Int)) ∧ LdW none (shInt .u8) h (Addr.add (Addr.add p1 0) ((Int.toNat nd) * 1)) fun x1 =>
 NilW (some (x1 == (53 : Int))) a fun p2 =>
 LdW (some (x1 == (53 : Int))) (shInt .i64) h (Addr.add p2 800) fun x2 =>
 LetW ((x1 == (53 : Int)) && ((IntKind.wrap .i64 (nd + (1 : Int))) == x2)) fun y1 =>
 (if y1 = true then
 NilW none a fun p3 =>
 LdW none zag h (Addr.add p3 803) fun x3 =>
 (if x3 = true then
 Q true h
 else
 NilW (some (decide (nd > (0 : Int)))) a fun p4 =>
 (((decide (nd > (0 : Int))) = true → ((0 : Int) ≤ (IntKind.wrap .i64 (nd - (1 : Int))) ∧ (IntKind.wrap .i64 (nd - (1 : Int))) < (800 : Int))) ∧ LdW (some (decide (nd > (0 : Int)))) (shInt .u8) h (Addr.add (Addr.add p4 0) ((Int.toNat (IntKind.wrap .i64 (nd - (1 : Int)))) * 1)) fun x4 =>
 (((decide (nd > (0 : Int))) = true → (2 : Int) ≠ (0 : Int)) ∧ LetW ((decide (nd > (0 : Int))) && ((Int.tmod (IntKind.wrap .u8 (x4 - (48 : Int))) (2 : Int)) != (0 : Int))) fun y2 =>
 Q y2 h)))
 else
 NilW none a fun p3 =>
 (((0 : Int) ≤ nd ∧ nd < (800 : Int)) ∧ LdW none (shInt .u8) h (Addr.add (Addr.add p3 0) ((Int.toNat nd) * 1)) fun x3 =>
 Q (decide (x3 ≥ (53 : Int))) h))))

def zay (P : Program) (s : ByteArray) (Q : (Nat → (Int → (Bool → (Hp → Prop))))) (h : Hp) : Prop :=
 (if ((((ByteArray.size s) : Nat) : Int) == (0 : Int)) = true then
 Q 0 (0 : Int) false h
 else
 (((0 : Int) ≤ (0 : Int) ∧ (0 : Int) < (((ByteArray.size s) : Nat) : Int)) ∧ JoinW3 (α1 := ByteArray) (α2 := Int) (α3 := Int) (fun k =>
 JoinW1 (α1 := Bool) (fun k1 =>
 (if ((((UInt8.toNat (List.getD s.data.toList 0 0)) : Nat) : Int) == (43 : Int)) = true then
 k1 ((((UInt8.toNat (List.getD s.data.toList 0 0)) : Nat) : Int) == (43 : Int)) h
 else
 k1 ((((UInt8.toNat (List.getD s.data.toList 0 0)) : Nat) : Int) == (45 : Int)) h))
 (fun t13 h1 =>
 (if t13 = true then
 JoinW1 (α1 := Int) (fun k1 =>
 (((0 : Int) ≤ (0 : Int) ∧ (0 : Int) < (((ByteArray.size s) : Nat) : Int)) ∧ (if ((((UInt8.toNat (List.getD s.data.toList 0 0)) : Nat) : Int) == (45 : Int)) = true then
 k1 (-1 : Int) h1
 else
 k1 (1 : Int) h1)))
 (fun sign h2 =>
 (((0 : Int) ≤ (1 : Int) ∧ (1 : Int) ≤ (((ByteArray.size s) : Nat) : Int)) ∧ k (ByteArray.extract s 1 (ByteArray.size s)) sign (1 : Int) h2))
 else
 JoinW1 (α1 := Bool) (fun k1 =>
 (if ((((UInt8.toNat (List.getD s.data.toList 0 0)) : Nat) : Int) == (105 : Int)) = true then
 k1 ((((UInt8.toNat (List.getD s.data.toList 0 0)) : Nat) : Int) == (105 : Int)) h1
 else
 k1 ((((UInt8.toNat (List.getD s.data.toList 0 0)) : Nat) : Int) == (73 : Int)) h1))
 (fun t16 h2 =>
 (if t16 = true then
 k s (1 : Int) (0 : Int) h2
 else
 JoinW1 (α1 := Bool) (fun k1 =>
 (if ((((UInt8.toNat (List.getD s.data.toList 0 0)) : Nat) : Int) == (110 : Int)) = true then
 k1 ((((UInt8.toNat (List.getD s.data.toList 0 0)) : Nat) : Int) == (110 : Int)) h2
 else
 k1 ((((UInt8.toNat (List.getD s.data.toList 0 0)) : Nat) : Int) == (78 : Int)) h2))
 (fun t19 h3 =>
 (if t19 = true then
 CallT P zbk [(.string s), (.string ⟨#[110, 97, 110]⟩)] (shInt .i64) (fun r h4 =>
 (if (r == (3 : Int)) = true then
 CallT P zlf [] (shFlt .f64) (fun r1 h5 =>
 Q r1 (3 : Int) true h5) h4
 else
 Q 0 (0 : Int) false h4)) h3
 else
 Q 0 (0 : Int) false h3)))))))
 (fun s1 sign nsign h1 =>
 CallT P zbk [(.string s1), (.string ⟨#[105, 110, 102, 105, 110, 105, 116, 121]⟩)] (shInt .i64) (fun r h2 =>
 JoinW1 (α1 := Int) (fun k =>
 LetW ((decide ((3 : Int) < r)) && (decide (r < (8 : Int)))) fun y =>
 (if y = true then
 k (3 : Int) h2
 else
 k r h2))
 (fun n h3 =>
 LetW ((n == (3 : Int)) || (n == (8 : Int))) fun y =>
 (if y = true then
 CallT P zle [(.int .i64 sign)] (shFlt .f64) (fun r1 h4 =>
 Q r1 (IntKind.wrap .i64 (nsign + n)) true h4) h3
 else
 Q 0 (0 : Int) false h3))) h1)))

def zaw (P : Program) (s : ByteArray) (Q : (Int → (Int → (Bool → (Bool → (Bool → (Int → (Bool → (Hp → Prop))))))))) (h : Hp) : Prop :=
 (if (decide ((0 : Int) ≥ (((ByteArray.size s) : Nat) : Int))) = true then
 Q (0 : Int) (0 : Int) false false false (0 : Int) false h
 else
 (((0 : Int) ≤ (0 : Int) ∧ (0 : Int) < (((ByteArray.size s) : Nat) : Int)) ∧ JoinW2 (α1 := Bool) (α2 := Int) (fun k =>
 (if ((((UInt8.toNat (List.getD s.data.toList 0 0)) : Nat) : Int) == (43 : Int)) = true then
 k false (1 : Int) h
 else
 (if ((((UInt8.toNat (List.getD s.data.toList 0 0)) : Nat) : Int) == (45 : Int)) = true then
 k true (1 : Int) h
 else
 k false (0 : Int) h)))
 (fun neg i h1 =>
 JoinW5 (α1 := Bool) (α2 := Int) (α3 := Int) (α4 := Int) (α5 := Int) (fun k =>
 (((decide ((IntKind.wrap .i64 (i + (2 : Int))) < (((ByteArray.size s) : Nat) : Int))) = true → ((0 : Int) ≤ i ∧ i < (((ByteArray.size s) : Nat) : Int))) ∧ LetW ((decide ((IntKind.wrap .i64 (i + (2 : Int))) < (((ByteArray.size s) : Nat) : Int))) && ((((UInt8.toNat (List.getD s.data.toList (Int.toNat i) 0)) : Nat) : Int) == (48 : Int))) fun y =>
 ((y = true → ((0 : Int) ≤ (IntKind.wrap .i64 (i + (1 : Int))) ∧ (IntKind.wrap .i64 (i + (1 : Int))) < (((ByteArray.size s) : Nat) : Int))) ∧ EffC (some y) (CallT P zad [(.int .u8 (((UInt8.toNat (List.getD s.data.toList (Int.toNat (IntKind.wrap .i64 (i + (1 : Int)))) 0)) : Nat) : Int))] (shInt .u8)) (fun r h2 =>
 LetW (y && (r == (120 : Int))) fun y1 =>
 (if y1 = true then
 k true (IntKind.wrap .i64 (i + (2 : Int))) (16 : Int) (16 : Int) (112 : Int) h2
 else
 k false i (10 : Int) (19 : Int) (101 : Int) h2)) h1)))
 (fun hex i1 base maxMantDigits expChar h2 =>
 JoinW9 (α1 := Int) (α2 := Bool) (α3 := Int) (α4 := Bool) (α5 := Bool) (α6 := Bool) (α7 := Int) (α8 := Int) (α9 := Int) (fun k =>
 LoopW9 (α1 := Int) (α2 := Bool) (α3 := Int) (α4 := Bool) (α5 := Bool) (α6 := Bool) (α7 := Int) (α8 := Int) (α9 := Int) (fun again mantissa trunc i2 underscores sawdot sawdigits nd ndMant dp h3 =>
 (if (decide (i2 < (((ByteArray.size s) : Nat) : Int))) = true then
 JoinW8 (α1 := Int) (α2 := Bool) (α3 := Bool) (α4 := Bool) (α5 := Bool) (α6 := Int) (α7 := Int) (α8 := Int) (fun k1 =>
 (((0 : Int) ≤ i2 ∧ i2 < (((ByteArray.size s) : Nat) : Int)) ∧ (if (true == ((((UInt8.toNat (List.getD s.data.toList (Int.toNat i2) 0)) : Nat) : Int) == (95 : Int))) = true then
 k1 mantissa trunc true sawdot sawdigits nd ndMant dp h3
 else
 (if (true == ((((UInt8.toNat (List.getD s.data.toList (Int.toNat i2) 0)) : Nat) : Int) == (46 : Int))) = true then
 (if sawdot = true then
 k mantissa trunc i2 underscores sawdot sawdigits nd ndMant dp h3
 else
 k1 mantissa trunc underscores true sawdigits nd ndMant nd h3)
 else
 LetW ((decide ((48 : Int) ≤ (((UInt8.toNat (List.getD s.data.toList (Int.toNat i2) 0)) : Nat) : Int))) && (decide ((((UInt8.toNat (List.getD s.data.toList (Int.toNat i2) 0)) : Nat) : Int) ≤ (57 : Int)))) fun y =>
 (if (true == y) = true then
 LetW (((((UInt8.toNat (List.getD s.data.toList (Int.toNat i2) 0)) : Nat) : Int) == (48 : Int)) && (nd == (0 : Int))) fun y1 =>
 (if y1 = true then
 k1 mantissa trunc underscores sawdot true nd ndMant (IntKind.wrap .i64 (dp - (1 : Int))) h3
 else
 (if (decide (ndMant < maxMantDigits)) = true then
 k1 (IntKind.wrap .u64 ((IntKind.wrap .u64 (mantissa * base)) + (IntKind.wrap .u64 (IntKind.wrap .u8 ((((UInt8.toNat (List.getD s.data.toList (Int.toNat i2) 0)) : Nat) : Int) - (48 : Int)))))) trunc underscores sawdot true (IntKind.wrap .i64 (nd + (1 : Int))) (IntKind.wrap .i64 (ndMant + (1 : Int))) dp h3
 else
 (if ((((UInt8.toNat (List.getD s.data.toList (Int.toNat i2) 0)) : Nat) : Int) != (48 : Int)) = true then
 k1 mantissa true underscores sawdot true (IntKind.wrap .i64 (nd + (1 : Int))) ndMant dp h3
 else
 k1 mantissa trunc underscores sawdot true (IntKind.wrap .i64 (nd + (1 : Int))) ndMant dp h3)))
 else
 EffC (some (base == (16 : Int))) (CallT P zad [(.int .u8 (((UInt8.toNat (List.getD s.data.toList (Int.toNat i2) 0)) : Nat) : Int))] (shInt .u8)) (fun r h4 =>
 LetW ((base == (16 : Int)) && (decide ((97 : Int) ≤ r))) fun y1 =>
 EffC (some y1) (CallT P zad [(.int .u8 (((UInt8.toNat (List.getD s.data.toList (Int.toNat i2) 0)) : Nat) : Int))] (shInt .u8)) (fun r1 h5 =>
 LetW (y1 && (decide (r1 ≤ (102 : Int)))) fun y2 =>
 (if (true == y2) = true then
 (if (decide (ndMant < maxMantDigits)) = true then
 CallT P zad [(.int .u8 (((UInt8.toNat (List.getD s.data.toList (Int.toNat i2) 0)) : Nat) : Int))] (shInt .u8) (fun r2 h6 =>
 k1 (IntKind.wrap .u64 ((IntKind.wrap .u64 (mantissa * (16 : Int))) + (IntKind.wrap .u64 (IntKind.wrap .u8 ((IntKind.wrap .u8 (r2 - (97 : Int))) + (10 : Int)))))) trunc underscores sawdot true (IntKind.wrap .i64 (nd + (1 : Int))) (IntKind.wrap .i64 (ndMant + (1 : Int))) dp h6) h5
 else
 k1 mantissa true underscores sawdot true (IntKind.wrap .i64 (nd + (1 : Int))) ndMant dp h5)
 else
 k mantissa trunc i2 underscores sawdot sawdigits nd ndMant dp h5)) h4) h3)))))
 (fun mantissa1 trunc1 underscores1 sawdot1 sawdigits1 nd1 ndMant1 dp1 h4 =>
 again mantissa1 trunc1 (IntKind.wrap .i64 (i2 + (1 : Int))) underscores1 sawdot1 sawdigits1 nd1 ndMant1 dp1 h4)
 else
 k mantissa trunc i2 underscores sawdot sawdigits nd ndMant dp h3)) (0 : Int) false i1 false false false (0 : Int) (0 : Int) (0 : Int) h2)
 (fun mantissa trunc i2 underscores sawdot sawdigits nd ndMant dp h3 =>
 (if (!sawdigits) = true then
 Q mantissa (0 : Int) neg trunc hex i2 false h3
 else
 JoinW1 (α1 := Int) (fun k =>
 (if (!sawdot) = true then
 k nd h3
 else
 k dp h3))
 (fun dp1 h4 =>
 JoinW2 (α1 := Int) (α2 := Int) (fun k =>
 (if (base == (16 : Int)) = true then
 k (IntKind.wrap .i64 (ndMant * (4 : Int))) (IntKind.wrap .i64 (dp1 * (4 : Int))) h4
 else
 k ndMant dp1 h4))
 (fun ndMant1 dp2 h5 =>
 JoinW3 (α1 := Int) (α2 := Bool) (α3 := Int) (fun k =>
 (((decide (i2 < (((ByteArray.size s) : Nat) : Int))) = true → ((0 : Int) ≤ i2 ∧ i2 < (((ByteArray.size s) : Nat) : Int))) ∧ EffC (some (decide (i2 < (((ByteArray.size s) : Nat) : Int)))) (CallT P zad [(.int .u8 (((UInt8.toNat (List.getD s.data.toList (Int.toNat i2) 0)) : Nat) : Int))] (shInt .u8)) (fun r h6 =>
 LetW ((decide (i2 < (((ByteArray.size s) : Nat) : Int))) && (r == expChar)) fun y =>
 (if y = true then
 (if (decide ((IntKind.wrap .i64 (i2 + (1 : Int))) ≥ (((ByteArray.size s) : Nat) : Int))) = true then
 Q mantissa (0 : Int) neg trunc hex (IntKind.wrap .i64 (i2 + (1 : Int))) false h6
 else
 (((0 : Int) ≤ (IntKind.wrap .i64 (i2 + (1 : Int))) ∧ (IntKind.wrap .i64 (i2 + (1 : Int))) < (((ByteArray.size s) : Nat) : Int)) ∧ JoinW2 (α1 := Int) (α2 := Int) (fun k1 =>
 (if ((((UInt8.toNat (List.getD s.data.toList (Int.toNat (IntKind.wrap .i64 (i2 + (1 : Int)))) 0)) : Nat) : Int) == (43 : Int)) = true then
 k1 (IntKind.wrap .i64 ((IntKind.wrap .i64 (i2 + (1 : Int))) + (1 : Int))) (1 : Int) h6
 else
 (if ((((UInt8.toNat (List.getD s.data.toList (Int.toNat (IntKind.wrap .i64 (i2 + (1 : Int)))) 0)) : Nat) : Int) == (45 : Int)) = true then
 k1 (IntKind.wrap .i64 ((IntKind.wrap .i64 (i2 + (1 : Int))) + (1 : Int))) (-1 : Int) h6
 else
 k1 (IntKind.wrap .i64 (i2 + (1 : Int))) (1 : Int) h6)))
 (fun i3 esign h7 =>
 (((!(decide (i3 ≥ (((ByteArray.size s) : Nat) : Int)))) = true → ((0 : Int) ≤ i3 ∧ i3 < (((ByteArray.size s) : Nat) : Int))) ∧ LetW ((decide (i3 ≥ (((ByteArray.size s) : Nat) : Int))) || (decide ((((UInt8.toNat (List.getD s.data.toList (Int.toNat i3) 0)) : Nat) : Int) < (48 : Int)))) fun y1 =>
 (((!y1) = true → ((0 : Int) ≤ i3 ∧ i3 < (((ByteArray.size s) : Nat) : Int))) ∧ LetW (y1 || (decide ((((UInt8.toNat (List.getD s.data.toList (Int.toNat i3) 0)) : Nat) : Int) > (57 : Int)))) fun y2 =>
 (if y2 = true then
 Q mantissa (0 : Int) neg trunc hex i3 false h7
 else
 LoopW3 (α1 := Int) (α2 := Bool) (α3 := Int) (fun again i4 underscores1 e h8 =>
 (((decide (i4 < (((ByteArray.size s) : Nat) : Int))) = true → ((0 : Int) ≤ i4 ∧ i4 < (((ByteArray.size s) : Nat) : Int))) ∧ ((((decide (i4 < (((ByteArray.size s) : Nat) : Int))) && (decide ((48 : Int) ≤ (((UInt8.toNat (List.getD s.data.toList (Int.toNat i4) 0)) : Nat) : Int)))) = true → ((0 : Int) ≤ i4 ∧ i4 < (((ByteArray.size s) : Nat) : Int))) ∧ LetW ((decide ((48 : Int) ≤ (((UInt8.toNat (List.getD s.data.toList (Int.toNat i4) 0)) : Nat) : Int))) && (decide ((((UInt8.toNat (List.getD s.data.toList (Int.toNat i4) 0)) : Nat) : Int) ≤ (57 : Int)))) fun y3 =>
 ((((decide (i4 < (((ByteArray.size s) : Nat) : Int))) && (!y3)) = true → ((0 : Int) ≤ i4 ∧ i4 < (((ByteArray.size s) : Nat) : Int))) ∧ LetW (y3 || ((((UInt8.toNat (List.getD s.data.toList (Int.toNat i4) 0)) : Nat) : Int) == (95 : Int))) fun y4 =>
 LetW ((decide (i4 < (((ByteArray.size s) : Nat) : Int))) && y4) fun y5 =>
 (if y5 = true then
 JoinW2 (α1 := Bool) (α2 := Int) (fun k1 =>
 (((0 : Int) ≤ i4 ∧ i4 < (((ByteArray.size s) : Nat) : Int)) ∧ (if ((((UInt8.toNat (List.getD s.data.toList (Int.toNat i4) 0)) : Nat) : Int) == (95 : Int)) = true then
 k1 true e h8
 else
 (if (decide (e < (10000 : Int))) = true then
 (((0 : Int) ≤ i4 ∧ i4 < (((ByteArray.size s) : Nat) : Int)) ∧ k1 underscores1 (IntKind.wrap .i64 ((IntKind.wrap .i64 ((IntKind.wrap .i64 (e * (10 : Int))) + (IntKind.wrap .i64 (((UInt8.toNat (List.getD s.data.toList (Int.toNat i4) 0)) : Nat) : Int)))) - (48 : Int))) h8)
 else
 k1 underscores1 e h8))))
 (fun underscores2 e1 h9 =>
 again (IntKind.wrap .i64 (i4 + (1 : Int))) underscores2 e1 h9)
 else
 k i4 underscores1 (IntKind.wrap .i64 (dp2 + (IntKind.wrap .i64 (e * esign)))) h8))))) i3 underscores (0 : Int) h7))))))
 else
 (if (base == (16 : Int)) = true then
 Q mantissa (0 : Int) neg trunc hex i2 false h6
 else
 k i2 underscores dp2 h6))) h5))
 (fun i3 underscores1 dp3 h6 =>
 JoinW1 (α1 := Int) (fun k =>
 (if (mantissa != (0 : Int)) = true then
 k (IntKind.wrap .i64 (dp3 - ndMant1)) h6
 else
 k (0 : Int) h6))
 (fun exp h7 =>
 ((underscores1 = true → ((0 : Int) ≤ i3 ∧ i3 ≤ (((ByteArray.size s) : Nat) : Int))) ∧ EffC (some underscores1) (CallT P zdm [(.string (ByteArray.extract s 0 (Int.toNat i3)))] zag) (fun r h8 =>
 LetW (underscores1 && (!r)) fun y =>
 (if y = true then
 Q mantissa exp neg trunc hex i3 false h8
 else
 Q mantissa exp neg trunc hex i3 true h8)) h7)))))))))))

def zfk (P : Program) (s : ByteArray) (flt : Option Addr) (mantissa : Int) (exp : Int) (neg : Bool) (trunc : Bool) (Q : (Nat → (Leaf → (Hp → Prop)))) (h : Hp) : Prop :=
 NilW none flt fun p =>
 LdW none (shInt .u64) h (Addr.add p 1) fun x =>
 ((0 : Int) ≤ x ∧ NilW none flt fun p1 =>
 LdW none (shInt .i64) h (Addr.add p1 2) fun x1 =>
 NilW none flt fun p2 =>
 LdW none (shInt .i64) h (Addr.add p2 2) fun x2 =>
 NilW none flt fun p3 =>
 LdW none (shInt .u64) h (Addr.add p3 0) fun x3 =>
 LoopW2 (α1 := Int) (α2 := Int) (fun again mantissa1 exp1 h1 =>
 NilW (some (mantissa1 != (0 : Int))) flt fun p4 =>
 LdW (some (mantissa1 != (0 : Int))) (shInt .u64) h1 (Addr.add p4 0) fun x4 =>
 (((mantissa1 != (0 : Int)) = true → (0 : Int) ≤ (IntKind.wrap .u64 (x4 + (2 : Int)))) ∧ LetW ((mantissa1 != (0 : Int)) && ((shrI .u64 mantissa1 (IntKind.wrap .u64 (x4 + (2 : Int)))) == (0 : Int))) fun y =>
 (if y = true then
 ((0 : Int) ≤ (1 : Int) ∧ again (shlI .u64 mantissa1 (1 : Int)) (IntKind.wrap .i64 (exp1 - (1 : Int))) h1)
 else
 JoinW1 (α1 := Int) (fun k =>
 (if trunc = true then
 k (bitsI .or .u64 mantissa1 (1 : Int)) h1
 else
 k mantissa1 h1))
 (fun mantissa2 h2 =>
 LoopW2 (α1 := Int) (α2 := Int) (fun again1 mantissa3 exp2 h3 =>
 NilW none flt fun p5 =>
 LdW none (shInt .u64) h3 (Addr.add p5 0) fun x5 =>
 ((0 : Int) ≤ (IntKind.wrap .u64 ((IntKind.wrap .u64 ((1 : Int) + x5)) + (2 : Int))) ∧ (if ((shrI .u64 mantissa3 (IntKind.wrap .u64 ((IntKind.wrap .u64 ((1 : Int) + x5)) + (2 : Int)))) != (0 : Int)) = true then
 ((0 : Int) ≤ (1 : Int) ∧ again1 (bitsI .or .u64 (shrI .u64 mantissa3 (1 : Int)) (bitsI .and .u64 mantissa3 (1 : Int))) (IntKind.wrap .i64 (exp2 + (1 : Int))) h3)
 else
 LoopW2 (α1 := Int) (α2 := Int) (fun again2 mantissa4 exp3 h4 =>
 LetW ((decide (mantissa4 > (1 : Int))) && (decide (exp3 < (IntKind.wrap .i64 ((IntKind.wrap .i64 (x2 + (1 : Int))) - (2 : Int)))))) fun y1 =>
 (if y1 = true then
 ((0 : Int) ≤ (1 : Int) ∧ again2 (bitsI .or .u64 (shrI .u64 mantissa4 (1 : Int)) (bitsI .and .u64 mantissa4 (1 : Int))) (IntKind.wrap .i64 (exp3 + (1 : Int))) h4)
 else
 ((0 : Int) ≤ (2 : Int) ∧ JoinW2 (α1 := Int) (α2 := Int) (fun k =>
 (if ((bitsI .or .u64 (bitsI .and .u64 mantissa4 (3 : Int)) (bitsI .and .u64 (shrI .u64 mantissa4 (2 : Int)) (1 : Int))) == (3 : Int)) = true then
 NilW none flt fun p6 =>
 LdW none (shInt .u64) h4 (Addr.add p6 0) fun x6 =>
 ((0 : Int) ≤ (IntKind.wrap .u64 ((1 : Int) + x6)) ∧ (if ((IntKind.wrap .u64 ((shrI .u64 mantissa4 (2 : Int)) + (1 : Int))) == (shlI .u64 (1 : Int) (IntKind.wrap .u64 ((1 : Int) + x6)))) = true then
 ((0 : Int) ≤ (1 : Int) ∧ k (shrI .u64 (IntKind.wrap .u64 ((shrI .u64 mantissa4 (2 : Int)) + (1 : Int))) (1 : Int)) (IntKind.wrap .i64 ((IntKind.wrap .i64 (exp3 + (2 : Int))) + (1 : Int))) h4)
 else
 k (IntKind.wrap .u64 ((shrI .u64 mantissa4 (2 : Int)) + (1 : Int))) (IntKind.wrap .i64 (exp3 + (2 : Int))) h4))
 else
 k (shrI .u64 mantissa4 (2 : Int)) (IntKind.wrap .i64 (exp3 + (2 : Int))) h4))
 (fun mantissa5 exp4 h5 =>
 JoinW1 (α1 := Int) (fun k =>
 NilW none flt fun p6 =>
 LdW none (shInt .u64) h5 (Addr.add p6 0) fun x6 =>
 ((0 : Int) ≤ x6 ∧ (if ((shrI .u64 mantissa5 x6) == (0 : Int)) = true then
 NilW none flt fun p7 =>
 LdW none (shInt .i64) h5 (Addr.add p7 2) fun x7 =>
 k x7 h5
 else
 k exp4 h5)))
 (fun exp5 h6 =>
 JoinW3 (α1 := Int) (α2 := Int) (α3 := Leaf) (fun k =>
 (if (decide (exp5 > (IntKind.wrap .i64 ((IntKind.wrap .i64 ((shlI .i64 (1 : Int) x) + x1)) - (2 : Int))))) = true then
 NilW none flt fun p6 =>
 LdW none (shInt .u64) h6 (Addr.add p6 0) fun x6 =>
 ((0 : Int) ≤ x6 ∧ EncW zaj (.iface 122 (.int .i64 (1 : Int))) fun e =>
 k (shlI .u64 (1 : Int) x6) (IntKind.wrap .i64 ((IntKind.wrap .i64 ((IntKind.wrap .i64 ((shlI .i64 (1 : Int) x) + x1)) - (2 : Int))) + (1 : Int))) e h6)
 else
 EncW zaj .nilIface fun e =>
 k mantissa5 exp5 e h6))
 (fun mantissa6 exp6 err h7 =>
 NilW none flt fun p6 =>
 LdW none (shInt .u64) h7 (Addr.add p6 0) fun x6 =>
 ((0 : Int) ≤ x6 ∧ NilW none flt fun p7 =>
 LdW none (shInt .i64) h7 (Addr.add p7 2) fun x7 =>
 NilW none flt fun p8 =>
 LdW none (shInt .u64) h7 (Addr.add p8 1) fun x8 =>
 ((0 : Int) ≤ x8 ∧ NilW none flt fun p9 =>
 LdW none (shInt .u64) h7 (Addr.add p9 0) fun x9 =>
 ((0 : Int) ≤ x9 ∧ JoinW1 (α1 := Int) (fun k =>
 (if neg = true then
 NilW none flt fun p10 =>
 LdW none (shInt .u64) h7 (Addr.add p10 0) fun x10 =>
 ((0 : Int) ≤ x10 ∧ NilW none flt fun p11 =>
 LdW none (shInt .u64) h7 (Addr.add p11 1) fun x11 =>
 ((0 : Int) ≤ x11 ∧ k (bitsI .or .u64 (bitsI .or .u64 (bitsI .and .u64 mantissa6 (IntKind.wrap .u64 ((shlI .u64 (1 : Int) x6) - (1 : Int)))) (shlI .u64 (IntKind.wrap .u64 (bitsI .and .i64 (IntKind.wrap .i64 (exp6 - x7)) (IntKind.wrap .i64 ((shlI .i64 (1 : Int) x8) - (1 : Int))))) x9)) (shlI .u64 (shlI .u64 (1 : Int) x10) x11)) h7))
 else
 k (bitsI .or .u64 (bitsI .and .u64 mantissa6 (IntKind.wrap .u64 ((shlI .u64 (1 : Int) x6) - (1 : Int)))) (shlI .u64 (IntKind.wrap .u64 (bitsI .and .i64 (IntKind.wrap .i64 (exp6 - x7)) (IntKind.wrap .i64 ((shlI .i64 (1 : Int) x8) - (1 : Int))))) x9)) h7))
 (fun bits h8 =>
 SemV none P (binS .eql 211 (.tmp 182) (.global 6) (.pointer flt) (.pointer (some ⟨6, 0, none⟩))) zag h8 fun x10 =>
 (if x10 = true then
 SemE P (Extern.MathFloatBits.float32frombits #[(.int .u32 (IntKind.wrap .u32 bits))]) (shFlt .f32) (fun r h9 =>
 SemV none P (convert 120 48 (.float .f32 r)) (shFlt .f64) h9 fun x11 =>
 EncW zaj err.v fun e =>
 Q x11 e h9) h8
 else
 SemE P (Extern.MathFloatBits.float64frombits #[(.int .u64 bits)]) (shFlt .f64) (fun r h9 =>
 EncW zaj err.v fun e =>
 Q r e h9) h8))))))))))) mantissa3 exp2 h3))) mantissa2 exp1 h2)))) mantissa (IntKind.wrap .i64 (exp + (IntKind.wrap .i64 x3))) h)

def zdy (P : Program) (b : Option Addr) (s : ByteArray) (Q : (Bool → (Hp → Prop))) (h : Hp) : Prop :=
 NilW none b fun p =>
 StW h (Addr.add p 802) [(.bool false)] (fun h1 =>
 NilW none b fun p1 =>
 StW h1 (Addr.add p1 803) [(.bool false)] (fun h2 =>
 (if (decide ((0 : Int) ≥ (((ByteArray.size s) : Nat) : Int))) = true then
 Q false h2
 else
 (((0 : Int) ≤ (0 : Int) ∧ (0 : Int) < (((ByteArray.size s) : Nat) : Int)) ∧ JoinW1 (α1 := Int) (fun k =>
 (if ((((UInt8.toNat (List.getD s.data.toList 0 0)) : Nat) : Int) == (43 : Int)) = true then
 k (1 : Int) h2
 else
 (if ((((UInt8.toNat (List.getD s.data.toList 0 0)) : Nat) : Int) == (45 : Int)) = true then
 NilW none b fun p2 =>
 StW h2 (Addr.add p2 802) [(.bool true)] (fun h3 =>
 k (1 : Int) h3)
 else
 k (0 : Int) h2)))
 (fun i h3 =>
 JoinW3 (α1 := Int) (α2 := Bool) (α3 := Bool) (fun k =>
 LoopW3 (α1 := Int) (α2 := Bool) (α3 := Bool) (fun again i1 sawdot sawdigits h4 =>
 (if (decide (i1 < (((ByteArray.size s) : Nat) : Int))) = true then
 JoinW2 (α1 := Bool) (α2 := Bool) (fun k1 =>
 (((0 : Int) ≤ i1 ∧ i1 < (((ByteArray.size s) : Nat) : Int)) ∧ (if ((((UInt8.toNat (List.getD s.data.toList (Int.toNat i1) 0)) : Nat) : Int) == (95 : Int)) = true then
 k1 sawdot sawdigits h4
 else
 (((0 : Int) ≤ i1 ∧ i1 < (((ByteArray.size s) : Nat) : Int)) ∧ (if ((((UInt8.toNat (List.getD s.data.toList (Int.toNat i1) 0)) : Nat) : Int) == (46 : Int)) = true then
 (if sawdot = true then
 Q false h4
 else
 NilW none b fun p2 =>
 LdW none (shInt .i64) h4 (Addr.add p2 800) fun x =>
 NilW none b fun p3 =>
 StW h4 (Addr.add p3 801) [(.int .i64 x)] (fun h5 =>
 k1 true sawdigits h5))
 else
 (((0 : Int) ≤ i1 ∧ i1 < (((ByteArray.size s) : Nat) : Int)) ∧ (((decide ((48 : Int) ≤ (((UInt8.toNat (List.getD s.data.toList (Int.toNat i1) 0)) : Nat) : Int))) = true → ((0 : Int) ≤ i1 ∧ i1 < (((ByteArray.size s) : Nat) : Int))) ∧ LetW ((decide ((48 : Int) ≤ (((UInt8.toNat (List.getD s.data.toList (Int.toNat i1) 0)) : Nat) : Int))) && (decide ((((UInt8.toNat (List.getD s.data.toList (Int.toNat i1) 0)) : Nat) : Int) ≤ (57 : Int)))) fun y =>
 (if y = true then
 (((0 : Int) ≤ i1 ∧ i1 < (((ByteArray.size s) : Nat) : Int)) ∧ NilW (some ((((UInt8.toNat (List.getD s.data.toList (Int.toNat i1) 0)) : Nat) : Int) == (48 : Int))) b fun p2 =>
 LdW (some ((((UInt8.toNat (List.getD s.data.toList (Int.toNat i1) 0)) : Nat) : Int) == (48 : Int))) (shInt .i64) h4 (Addr.add p2 800) fun x =>
 LetW (((((UInt8.toNat (List.getD s.data.toList (Int.toNat i1) 0)) : Nat) : Int) == (48 : Int)) && (x == (0 : Int))) fun y1 =>
 (if y1 = true then
 NilW none b fun p3 =>
 LdW none (shInt .i64) h4 (Addr.add p3 801) fun x1 =>
 NilW none b fun p4 =>
 StW h4 (Addr.add p4 801) [(.int .i64 (IntKind.wrap .i64 (x1 - (1 : Int))))] (fun h5 =>
 k1 sawdot true h5)
 else
 NilW none b fun p3 =>
 LdW none (shInt .i64) h4 (Addr.add p3 800) fun x1 =>
 (if (decide (x1 < (800 : Int))) = true then
 NilW none b fun p4 =>
 LdW none (shInt .i64) h4 (Addr.add p4 800) fun x2 =>
 (((0 : Int) ≤ i1 ∧ i1 < (((ByteArray.size s) : Nat) : Int)) ∧ NilW none b fun p5 =>
 (((0 : Int) ≤ x2 ∧ x2 < (800 : Int)) ∧ StW h4 (Addr.add (Addr.add p5 0) ((Int.toNat x2) * 1)) [(.int .u8 (((UInt8.toNat (List.getD s.data.toList (Int.toNat i1) 0)) : Nat) : Int))] (fun h5 =>
 NilW none b fun p6 =>
 LdW none (shInt .i64) h5 (Addr.add p6 800) fun x3 =>
 NilW none b fun p7 =>
 StW h5 (Addr.add p7 800) [(.int .i64 (IntKind.wrap .i64 (x3 + (1 : Int))))] (fun h6 =>
 k1 sawdot true h6))))
 else
 (((0 : Int) ≤ i1 ∧ i1 < (((ByteArray.size s) : Nat) : Int)) ∧ (if ((((UInt8.toNat (List.getD s.data.toList (Int.toNat i1) 0)) : Nat) : Int) != (48 : Int)) = true then
 NilW none b fun p4 =>
 StW h4 (Addr.add p4 803) [(.bool true)] (fun h5 =>
 k1 sawdot true h5)
 else
 k1 sawdot true h4)))))
 else
 k i1 sawdot sawdigits h4))))))))
 (fun sawdot1 sawdigits1 h5 =>
 again (IntKind.wrap .i64 (i1 + (1 : Int))) sawdot1 sawdigits1 h5)
 else
 k i1 sawdot sawdigits h4)) i false false h3)
 (fun i1 sawdot sawdigits h4 =>
 (if (!sawdigits) = true then
 Q false h4
 else
 JoinW0 (fun k =>
 (if (!sawdot) = true then
 NilW none b fun p2 =>
 LdW none (shInt .i64) h4 (Addr.add p2 800) fun x =>
 NilW none b fun p3 =>
 StW h4 (Addr.add p3 801) [(.int .i64 x)] (fun h5 =>
 k h5)
 else
 k h4))
 (fun h5 =>
 (((decide (i1 < (((ByteArray.size s) : Nat) : Int))) = true → ((0 : Int) ≤ i1 ∧ i1 < (((ByteArray.size s) : Nat) : Int))) ∧ EffC (some (decide (i1 < (((ByteArray.size s) : Nat) : Int)))) (CallT P zad [(.int .u8 (((UInt8.toNat (List.getD s.data.toList (Int.toNat i1) 0)) : Nat) : Int))] (shInt .u8)) (fun r h6 =>
 LetW ((decide (i1 < (((ByteArray.size s) : Nat) : Int))) && (r == (101 : Int))) fun y =>
 (if y = true then
 (if (decide ((IntKind.wrap .i64 (i1 + (1 : Int))) ≥ (((ByteArray.size s) : Nat) : Int))) = true then
 Q false h6
 else
 (((0 : Int) ≤ (IntKind.wrap .i64 (i1 + (1 : Int))) ∧ (IntKind.wrap .i64 (i1 + (1 : Int))) < (((ByteArray.size s) : Nat) : Int)) ∧ JoinW2 (α1 := Int) (α2 := Int) (fun k =>
 (if ((((UInt8.toNat (List.getD s.data.toList (Int.toNat (IntKind.wrap .i64 (i1 + (1 : Int)))) 0)) : Nat) : Int) == (43 : Int)) = true then
 k (IntKind.wrap .i64 ((IntKind.wrap .i64 (i1 + (1 : Int))) + (1 : Int))) (1 : Int) h6
 else
 (if ((((UInt8.toNat (List.getD s.data.toList (Int.toNat (IntKind.wrap .i64 (i1 + (1 : Int)))) 0)) : Nat) : Int) == (45 : Int)) = true then
 k (IntKind.wrap .i64 ((IntKind.wrap .i64 (i1 + (1 : Int))) + (1 : Int))) (-1 : Int) h6
 else
 k (IntKind.wrap .i64 (i1 + (1 : Int))) (1 : Int) h6)))
 (fun i2 esign h7 =>
 (((!(decide (i2 ≥ (((ByteArray.size s) : Nat) : Int)))) = true → ((0 : Int) ≤ i2 ∧ i2 < (((ByteArray.size s) : Nat) : Int))) ∧ LetW ((decide (i2 ≥ (((ByteArray.size s) : Nat) : Int))) || (decide ((((UInt8.toNat (List.getD s.data.toList (Int.toNat i2) 0)) : Nat) : Int) < (48 : Int)))) fun y1 =>
 (((!y1) = true → ((0 : Int) ≤ i2 ∧ i2 < (((ByteArray.size s) : Nat) : Int))) ∧ LetW (y1 || (decide ((((UInt8.toNat (List.getD s.data.toList (Int.toNat i2) 0)) : Nat) : Int) > (57 : Int)))) fun y2 =>
 (if y2 = true then
 Q false h7
 else
 LoopW2 (α1 := Int) (α2 := Int) (fun again i3 e h8 =>
 (((decide (i3 < (((ByteArray.size s) : Nat) : Int))) = true → ((0 : Int) ≤ i3 ∧ i3 < (((ByteArray.size s) : Nat) : Int))) ∧ ((((decide (i3 < (((ByteArray.size s) : Nat) : Int))) && (decide ((48 : Int) ≤ (((UInt8.toNat (List.getD s.data.toList (Int.toNat i3) 0)) : Nat) : Int)))) = true → ((0 : Int) ≤ i3 ∧ i3 < (((ByteArray.size s) : Nat) : Int))) ∧ LetW ((decide ((48 : Int) ≤ (((UInt8.toNat (List.getD s.data.toList (Int.toNat i3) 0)) : Nat) : Int))) && (decide ((((UInt8.toNat (List.getD s.data.toList (Int.toNat i3) 0)) : Nat) : Int) ≤ (57 : Int)))) fun y3 =>
 ((((decide (i3 < (((ByteArray.size s) : Nat) : Int))) && (!y3)) = true → ((0 : Int) ≤ i3 ∧ i3 < (((ByteArray.size s) : Nat) : Int))) ∧ LetW (y3 || ((((UInt8.toNat (List.getD s.data.toList (Int.toNat i3) 0)) : Nat) : Int) == (95 : Int))) fun y4 =>
 LetW ((decide (i3 < (((ByteArray.size s) : Nat) : Int))) && y4) fun y5 =>
 (if y5 = true then
 JoinW1 (α1 := Int) (fun k =>
 (((0 : Int) ≤ i3 ∧ i3 < (((ByteArray.size s) : Nat) : Int)) ∧ (if ((((UInt8.toNat (List.getD s.data.toList (Int.toNat i3) 0)) : Nat) : Int) == (95 : Int)) = true then
 k e h8
 else
 (if (decide (e < (10000 : Int))) = true then
 (((0 : Int) ≤ i3 ∧ i3 < (((ByteArray.size s) : Nat) : Int)) ∧ k (IntKind.wrap .i64 ((IntKind.wrap .i64 ((IntKind.wrap .i64 (e * (10 : Int))) + (IntKind.wrap .i64 (((UInt8.toNat (List.getD s.data.toList (Int.toNat i3) 0)) : Nat) : Int)))) - (48 : Int))) h8)
 else
 k e h8))))
 (fun e1 h9 =>
 again (IntKind.wrap .i64 (i3 + (1 : Int))) e1 h9)
 else
 NilW none b fun p2 =>
 LdW none (shInt .i64) h8 (Addr.add p2 801) fun x =>
 NilW none b fun p3 =>
 StW h8 (Addr.add p3 801) [(.int .i64 (IntKind.wrap .i64 (x + (IntKind.wrap .i64 (e * esign)))))] (fun h9 =>
 (if (i3 != (((ByteArray.size s) : Nat) : Int)) = true then
 Q false h9
 else
 Q true h9))))))) i2 (0 : Int) h7))))))
 else
 (if (i1 != (((ByteArray.size s) : Nat) : Int)) = true then
 Q false h6
 else
 Q true h6))) h5)))))))))

def zci (P : Program) (d : Option Addr) (flt : Option Addr) (Q : (Int → (Bool → (Hp → Prop)))) (h : Hp) : Prop :=
 NilW none d fun p =>
 LdW none (shInt .i64) h (Addr.add p 800) fun x =>
 (if (x == (0 : Int)) = true then
 NilW none flt fun p1 =>
 LdW none (shInt .i64) h (Addr.add p1 2) fun x1 =>
 NilW none flt fun p2 =>
 LdW none (shInt .u64) h (Addr.add p2 0) fun x2 =>
 ((0 : Int) ≤ x2 ∧ NilW none flt fun p3 =>
 LdW none (shInt .i64) h (Addr.add p3 2) fun x3 =>
 NilW none flt fun p4 =>
 LdW none (shInt .u64) h (Addr.add p4 1) fun x4 =>
 ((0 : Int) ≤ x4 ∧ NilW none flt fun p5 =>
 LdW none (shInt .u64) h (Addr.add p5 0) fun x5 =>
 ((0 : Int) ≤ x5 ∧ NilW none d fun p6 =>
 LdW none zag h (Addr.add p6 802) fun x6 =>
 (if x6 = true then
 NilW none flt fun p7 =>
 LdW none (shInt .u64) h (Addr.add p7 0) fun x7 =>
 ((0 : Int) ≤ x7 ∧ NilW none flt fun p8 =>
 LdW none (shInt .u64) h (Addr.add p8 1) fun x8 =>
 ((0 : Int) ≤ x8 ∧ Q (bitsI .or .u64 (bitsI .or .u64 (bitsI .and .u64 (0 : Int) (IntKind.wrap .u64 ((shlI .u64 (1 : Int) x2) - (1 : Int)))) (shlI .u64 (IntKind.wrap .u64 (bitsI .and .i64 (IntKind.wrap .i64 (x1 - x3)) (IntKind.wrap .i64 ((shlI .i64 (1 : Int) x4) - (1 : Int))))) x5)) (shlI .u64 (shlI .u64 (1 : Int) x7) x8)) false h))
 else
 Q (bitsI .or .u64 (bitsI .and .u64 (0 : Int) (IntKind.wrap .u64 ((shlI .u64 (1 : Int) x2) - (1 : Int)))) (shlI .u64 (IntKind.wrap .u64 (bitsI .and .i64 (IntKind.wrap .i64 (x1 - x3)) (IntKind.wrap .i64 ((shlI .i64 (1 : Int) x4) - (1 : Int))))) x5)) false h))))
 else
 NilW none d fun p1 =>
 LdW none (shInt .i64) h (Addr.add p1 801) fun x1 =>
 (if (decide (x1 > (310 : Int))) = true then
 NilW none flt fun p2 =>
 LdW none (shInt .u64) h (Addr.add p2 1) fun x2 =>
 ((0 : Int) ≤ x2 ∧ NilW none flt fun p3 =>
 LdW none (shInt .i64) h (Addr.add p3 2) fun x3 =>
 NilW none flt fun p4 =>
 LdW none (shInt .u64) h (Addr.add p4 0) fun x4 =>
 ((0 : Int) ≤ x4 ∧ NilW none flt fun p5 =>
 LdW none (shInt .i64) h (Addr.add p5 2) fun x5 =>
 NilW none flt fun p6 =>
 LdW none (shInt .u64) h (Addr.add p6 1) fun x6 =>
 ((0 : Int) ≤ x6 ∧ NilW none flt fun p7 =>
 LdW none (shInt .u64) h (Addr.add p7 0) fun x7 =>
 ((0 : Int) ≤ x7 ∧ NilW none d fun p8 =>
 LdW none zag h (Addr.add p8 802) fun x8 =>
 (if x8 = true then
 NilW none flt fun p9 =>
 LdW none (shInt .u64) h (Addr.add p9 0) fun x9 =>
 ((0 : Int) ≤ x9 ∧ NilW none flt fun p10 =>
 LdW none (shInt .u64) h (Addr.add p10 1) fun x10 =>
 ((0 : Int) ≤ x10 ∧ Q (bitsI .or .u64 (bitsI .or .u64 (bitsI .and .u64 (0 : Int) (IntKind.wrap .u64 ((shlI .u64 (1 : Int) x4) - (1 : Int)))) (shlI .u64 (IntKind.wrap .u64 (bitsI .and .i64 (IntKind.wrap .i64 ((IntKind.wrap .i64 ((IntKind.wrap .i64 ((shlI .i64 (1 : Int) x2) - (1 : Int))) + x3)) - x5)) (IntKind.wrap .i64 ((shlI .i64 (1 : Int) x6) - (1 : Int))))) x7)) (shlI .u64 (shlI .u64 (1 : Int) x9) x10)) true h))
 else
 Q (bitsI .or .u64 (bitsI .and .u64 (0 : Int) (IntKind.wrap .u64 ((shlI .u64 (1 : Int) x4) - (1 : Int)))) (shlI .u64 (IntKind.wrap .u64 (bitsI .and .i64 (IntKind.wrap .i64 ((IntKind.wrap .i64 ((IntKind.wrap .i64 ((shlI .i64 (1 : Int) x2) - (1 : Int))) + x3)) - x5)) (IntKind.wrap .i64 ((shlI .i64 (1 : Int) x6) - (1 : Int))))) x7)) true h)))))
 else
 NilW none d fun p2 =>
 LdW none (shInt .i64) h (Addr.add p2 801) fun x2 =>
 (if (decide (x2 < (-330 : Int))) = true then
 NilW none flt fun p3 =>
 LdW none (shInt .i64) h (Addr.add p3 2) fun x3 =>
 NilW none flt fun p4 =>
 LdW none (shInt .u64) h (Addr.add p4 0) fun x4 =>
 ((0 : Int) ≤ x4 ∧ NilW none flt fun p5 =>
 LdW none (shInt .i64) h (Addr.add p5 2) fun x5 =>
 NilW none flt fun p6 =>
 LdW none (shInt .u64) h (Addr.add p6 1) fun x6 =>
 ((0 : Int) ≤ x6 ∧ NilW none flt fun p7 =>
 LdW none (shInt .u64) h (Addr.add p7 0) fun x7 =>
 ((0 : Int) ≤ x7 ∧ NilW none d fun p8 =>
 LdW none zag h (Addr.add p8 802) fun x8 =>
 (if x8 = true then
 NilW none flt fun p9 =>
 LdW none (shInt .u64) h (Addr.add p9 0) fun x9 =>
 ((0 : Int) ≤ x9 ∧ NilW none flt fun p10 =>
 LdW none (shInt .u64) h (Addr.add p10 1) fun x10 =>
 ((0 : Int) ≤ x10 ∧ Q (bitsI .or .u64 (bitsI .or .u64 (bitsI .and .u64 (0 : Int) (IntKind.wrap .u64 ((shlI .u64 (1 : Int) x4) - (1 : Int)))) (shlI .u64 (IntKind.wrap .u64 (bitsI .and .i64 (IntKind.wrap .i64 (x3 - x5)) (IntKind.wrap .i64 ((shlI .i64 (1 : Int) x6) - (1 : Int))))) x7)) (shlI .u64 (shlI .u64 (1 : Int) x9) x10)) false h))
 else
 Q (bitsI .or .u64 (bitsI .and .u64 (0 : Int) (IntKind.wrap .u64 ((shlI .u64 (1 : Int) x4) - (1 : Int)))) (shlI .u64 (IntKind.wrap .u64 (bitsI .and .i64 (IntKind.wrap .i64 (x3 - x5)) (IntKind.wrap .i64 ((shlI .i64 (1 : Int) x6) - (1 : Int))))) x7)) false h))))
 else
 LoopW1 (α1 := Int) (fun again exp h1 =>
 NilW none d fun p3 =>
 LdW none (shInt .i64) h1 (Addr.add p3 801) fun x3 =>
 (if (decide (x3 > (0 : Int))) = true then
 JoinW1 (α1 := Int) (fun k =>
 NilW none d fun p4 =>
 LdW none (shInt .i64) h1 (Addr.add p4 801) fun x4 =>
 LdW none shSl h1 ⟨11, 0, none⟩ fun x5 =>
 (if (decide (x4 ≥ ((x5.len : Nat) : Int))) = true then
 k (27 : Int) h1
 else
 LdW none shSl h1 ⟨11, 0, none⟩ fun x6 =>
 NilW none d fun p5 =>
 LdW none (shInt .i64) h1 (Addr.add p5 801) fun x7 =>
 ((InB x6.base x6.len x7) ∧ LdW none (shInt .i64) h1 (sat x6.base 1 x7) fun x8 =>
 k x8 h1)))
 (fun n h2 =>
 Call0 P zaq [(.pointer d), (.int .i64 (IntKind.wrap .i64 ((0 : Int) - n)))] (fun h3 =>
 again (IntKind.wrap .i64 (exp + n)) h3) h2)
 else
 LoopW1 (α1 := Int) (fun again1 exp1 h2 =>
 NilW none d fun p4 =>
 LdW none (shInt .i64) h2 (Addr.add p4 801) fun x4 =>
 NilW (some (!(decide (x4 < (0 : Int))))) d fun p5 =>
 LdW (some (!(decide (x4 < (0 : Int))))) (shInt .i64) h2 (Addr.add p5 801) fun x5 =>
 NilW (some ((!(decide (x4 < (0 : Int)))) && (x5 == (0 : Int)))) d fun p6 =>
 ((((!(decide (x4 < (0 : Int)))) && (x5 == (0 : Int))) = true → ((0 : Int) ≤ (0 : Int) ∧ (0 : Int) < (800 : Int))) ∧ LdW (some ((!(decide (x4 < (0 : Int)))) && (x5 == (0 : Int)))) (shInt .u8) h2 (Addr.add (Addr.add p6 0) 0) fun x6 =>
 LetW ((x5 == (0 : Int)) && (decide (x6 < (53 : Int)))) fun y =>
 LetW ((decide (x4 < (0 : Int))) || y) fun y1 =>
 (if y1 = true then
 JoinW1 (α1 := Int) (fun k =>
 NilW none d fun p7 =>
 LdW none (shInt .i64) h2 (Addr.add p7 801) fun x7 =>
 LdW none shSl h2 ⟨11, 0, none⟩ fun x8 =>
 (if (decide ((IntKind.wrap .i64 ((0 : Int) - x7)) ≥ ((x8.len : Nat) : Int))) = true then
 k (27 : Int) h2
 else
 LdW none shSl h2 ⟨11, 0, none⟩ fun x9 =>
 NilW none d fun p8 =>
 LdW none (shInt .i64) h2 (Addr.add p8 801) fun x10 =>
 ((InB x9.base x9.len (IntKind.wrap .i64 ((0 : Int) - x10))) ∧ LdW none (shInt .i64) h2 (sat x9.base 1 (IntKind.wrap .i64 ((0 : Int) - x10))) fun x11 =>
 k x11 h2)))
 (fun n h3 =>
 Call0 P zaq [(.pointer d), (.int .i64 n)] (fun h4 =>
 again1 (IntKind.wrap .i64 (exp1 - n)) h4) h3)
 else
 JoinW1 (α1 := Int) (fun k =>
 NilW none flt fun p7 =>
 LdW none (shInt .i64) h2 (Addr.add p7 2) fun x7 =>
 (if (decide ((IntKind.wrap .i64 (exp1 - (1 : Int))) < (IntKind.wrap .i64 (x7 + (1 : Int))))) = true then
 NilW none flt fun p8 =>
 LdW none (shInt .i64) h2 (Addr.add p8 2) fun x8 =>
 Call0 P zaq [(.pointer d), (.int .i64 (IntKind.wrap .i64 ((0 : Int) - (IntKind.wrap .i64 ((IntKind.wrap .i64 (x8 + (1 : Int))) - (IntKind.wrap .i64 (exp1 - (1 : Int))))))))] (fun h3 =>
 k (IntKind.wrap .i64 ((IntKind.wrap .i64 (exp1 - (1 : Int))) + (IntKind.wrap .i64 ((IntKind.wrap .i64 (x8 + (1 : Int))) - (IntKind.wrap .i64 (exp1 - (1 : Int))))))) h3) h2
 else
 k (IntKind.wrap .i64 (exp1 - (1 : Int))) h2))
 (fun exp2 h3 =>
 NilW none flt fun p7 =>
 LdW none (shInt .i64) h3 (Addr.add p7 2) fun x7 =>
 NilW none flt fun p8 =>
 LdW none (shInt .u64) h3 (Addr.add p8 1) fun x8 =>
 ((0 : Int) ≤ x8 ∧ (if (decide ((IntKind.wrap .i64 (exp2 - x7)) ≥ (IntKind.wrap .i64 ((shlI .i64 (1 : Int) x8) - (1 : Int))))) = true then
 NilW none flt fun p9 =>
 LdW none (shInt .u64) h3 (Addr.add p9 1) fun x9 =>
 ((0 : Int) ≤ x9 ∧ NilW none flt fun p10 =>
 LdW none (shInt .i64) h3 (Addr.add p10 2) fun x10 =>
 NilW none flt fun p11 =>
 LdW none (shInt .u64) h3 (Addr.add p11 0) fun x11 =>
 ((0 : Int) ≤ x11 ∧ NilW none flt fun p12 =>
 LdW none (shInt .i64) h3 (Addr.add p12 2) fun x12 =>
 NilW none flt fun p13 =>
 LdW none (shInt .u64) h3 (Addr.add p13 1) fun x13 =>
 ((0 : Int) ≤ x13 ∧ NilW none flt fun p14 =>
 LdW none (shInt .u64) h3 (Addr.add p14 0) fun x14 =>
 ((0 : Int) ≤ x14 ∧ NilW none d fun p15 =>
 LdW none zag h3 (Addr.add p15 802) fun x15 =>
 (if x15 = true then
 NilW none flt fun p16 =>
 LdW none (shInt .u64) h3 (Addr.add p16 0) fun x16 =>
 ((0 : Int) ≤ x16 ∧ NilW none flt fun p17 =>
 LdW none (shInt .u64) h3 (Addr.add p17 1) fun x17 =>
 ((0 : Int) ≤ x17 ∧ Q (bitsI .or .u64 (bitsI .or .u64 (bitsI .and .u64 (0 : Int) (IntKind.wrap .u64 ((shlI .u64 (1 : Int) x11) - (1 : Int)))) (shlI .u64 (IntKind.wrap .u64 (bitsI .and .i64 (IntKind.wrap .i64 ((IntKind.wrap .i64 ((IntKind.wrap .i64 ((shlI .i64 (1 : Int) x9) - (1 : Int))) + x10)) - x12)) (IntKind.wrap .i64 ((shlI .i64 (1 : Int) x13) - (1 : Int))))) x14)) (shlI .u64 (shlI .u64 (1 : Int) x16) x17)) true h3))
 else
 Q (bitsI .or .u64 (bitsI .and .u64 (0 : Int) (IntKind.wrap .u64 ((shlI .u64 (1 : Int) x11) - (1 : Int)))) (shlI .u64 (IntKind.wrap .u64 (bitsI .and .i64 (IntKind.wrap .i64 ((IntKind.wrap .i64 ((IntKind.wrap .i64 ((shlI .i64 (1 : Int) x9) - (1 : Int))) + x10)) - x12)) (IntKind.wrap .i64 ((shlI .i64 (1 : Int) x13) - (1 : Int))))) x14)) true h3)))))
 else
 NilW none flt fun p9 =>
 LdW none (shInt .u64) h3 (Addr.add p9 0) fun x9 =>
 Call0 P zaq [(.pointer d), (.int .i64 (IntKind.wrap .i64 (IntKind.wrap .u64 ((1 : Int) + x9))))] (fun h4 =>
 CallT P zdk [(.pointer d)] (shInt .u64) (fun r h5 =>
 JoinW2 (α1 := Int) (α2 := Int) (fun k =>
 NilW none flt fun p10 =>
 LdW none (shInt .u64) h5 (Addr.add p10 0) fun x10 =>
 ((0 : Int) ≤ x10 ∧ (if (r == (shlI .u64 (2 : Int) x10)) = true then
 ((0 : Int) ≤ (1 : Int) ∧ NilW none flt fun p11 =>
 LdW none (shInt .i64) h5 (Addr.add p11 2) fun x11 =>
 NilW none flt fun p12 =>
 LdW none (shInt .u64) h5 (Addr.add p12 1) fun x12 =>
 ((0 : Int) ≤ x12 ∧ (if (decide ((IntKind.wrap .i64 ((IntKind.wrap .i64 (exp2 + (1 : Int))) - x11)) ≥ (IntKind.wrap .i64 ((shlI .i64 (1 : Int) x12) - (1 : Int))))) = true then
 NilW none flt fun p13 =>
 LdW none (shInt .u64) h5 (Addr.add p13 1) fun x13 =>
 ((0 : Int) ≤ x13 ∧ NilW none flt fun p14 =>
 LdW none (shInt .i64) h5 (Addr.add p14 2) fun x14 =>
 NilW none flt fun p15 =>
 LdW none (shInt .u64) h5 (Addr.add p15 0) fun x15 =>
 ((0 : Int) ≤ x15 ∧ NilW none flt fun p16 =>
 LdW none (shInt .i64) h5 (Addr.add p16 2) fun x16 =>
 NilW none flt fun p17 =>
 LdW none (shInt .u64) h5 (Addr.add p17 1) fun x17 =>
 ((0 : Int) ≤ x17 ∧ NilW none flt fun p18 =>
 LdW none (shInt .u64) h5 (Addr.add p18 0) fun x18 =>
 ((0 : Int) ≤ x18 ∧ NilW none d fun p19 =>
 LdW none zag h5 (Addr.add p19 802) fun x19 =>
 (if x19 = true then
 NilW none flt fun p20 =>
 LdW none (shInt .u64) h5 (Addr.add p20 0) fun x20 =>
 ((0 : Int) ≤ x20 ∧ NilW none flt fun p21 =>
 LdW none (shInt .u64) h5 (Addr.add p21 1) fun x21 =>
 ((0 : Int) ≤ x21 ∧ Q (bitsI .or .u64 (bitsI .or .u64 (bitsI .and .u64 (0 : Int) (IntKind.wrap .u64 ((shlI .u64 (1 : Int) x15) - (1 : Int)))) (shlI .u64 (IntKind.wrap .u64 (bitsI .and .i64 (IntKind.wrap .i64 ((IntKind.wrap .i64 ((IntKind.wrap .i64 ((shlI .i64 (1 : Int) x13) - (1 : Int))) + x14)) - x16)) (IntKind.wrap .i64 ((shlI .i64 (1 : Int) x17) - (1 : Int))))) x18)) (shlI .u64 (shlI .u64 (1 : Int) x20) x21)) true h5))
 else
 Q (bitsI .or .u64 (bitsI .and .u64 (0 : Int) (IntKind.wrap .u64 ((shlI .u64 (1 : Int) x15) - (1 : Int)))) (shlI .u64 (IntKind.wrap .u64 (bitsI .and .i64 (IntKind.wrap .i64 ((IntKind.wrap .i64 ((IntKind.wrap .i64 ((shlI .i64 (1 : Int) x13) - (1 : Int))) + x14)) - x16)) (IntKind.wrap .i64 ((shlI .i64 (1 : Int) x17) - (1 : Int))))) x18)) true h5)))))
 else
 k (IntKind.wrap .i64 (exp2 + (1 : Int))) (shrI .u64 r (1 : Int)) h5)))
 else
 k exp2 r h5)))
 (fun exp3 mant h6 =>
 JoinW1 (α1 := Int) (fun k =>
 NilW none flt fun p10 =>
 LdW none (shInt .u64) h6 (Addr.add p10 0) fun x10 =>
 ((0 : Int) ≤ x10 ∧ (if ((bitsI .and .u64 mant (shlI .u64 (1 : Int) x10)) == (0 : Int)) = true then
 NilW none flt fun p11 =>
 LdW none (shInt .i64) h6 (Addr.add p11 2) fun x11 =>
 k x11 h6
 else
 k exp3 h6)))
 (fun exp4 h7 =>
 NilW none flt fun p10 =>
 LdW none (shInt .u64) h7 (Addr.add p10 0) fun x10 =>
 ((0 : Int) ≤ x10 ∧ NilW none flt fun p11 =>
 LdW none (shInt .i64) h7 (Addr.add p11 2) fun x11 =>
 NilW none flt fun p12 =>
 LdW none (shInt .u64) h7 (Addr.add p12 1) fun x12 =>
 ((0 : Int) ≤ x12 ∧ NilW none flt fun p13 =>
 LdW none (shInt .u64) h7 (Addr.add p13 0) fun x13 =>
 ((0 : Int) ≤ x13 ∧ NilW none d fun p14 =>
 LdW none zag h7 (Addr.add p14 802) fun x14 =>
 (if x14 = true then
 NilW none flt fun p15 =>
 LdW none (shInt .u64) h7 (Addr.add p15 0) fun x15 =>
 ((0 : Int) ≤ x15 ∧ NilW none flt fun p16 =>
 LdW none (shInt .u64) h7 (Addr.add p16 1) fun x16 =>
 ((0 : Int) ≤ x16 ∧ Q (bitsI .or .u64 (bitsI .or .u64 (bitsI .and .u64 mant (IntKind.wrap .u64 ((shlI .u64 (1 : Int) x10) - (1 : Int)))) (shlI .u64 (IntKind.wrap .u64 (bitsI .and .i64 (IntKind.wrap .i64 (exp4 - x11)) (IntKind.wrap .i64 ((shlI .i64 (1 : Int) x12) - (1 : Int))))) x13)) (shlI .u64 (shlI .u64 (1 : Int) x15) x16)) false h7))
 else
 Q (bitsI .or .u64 (bitsI .and .u64 mant (IntKind.wrap .u64 ((shlI .u64 (1 : Int) x10) - (1 : Int)))) (shlI .u64 (IntKind.wrap .u64 (bitsI .and .i64 (IntKind.wrap .i64 (exp4 - x11)) (IntKind.wrap .i64 ((shlI .i64 (1 : Int) x12) - (1 : Int))))) x13)) false h7))))))) h4) h3)))))) exp h1)) (0 : Int) h)))

def zbg (P : Program) (b : Bool) (Q : (Int → (Hp → Prop))) (h : Hp) : Prop :=
 (if b = true then
 Q (1 : Int) h
 else
 Q (0 : Int) h)

def zat (P : Program) (mantissa : Int) (exp : Int) (neg : Bool) (Q : (Nat → (Bool → (Hp → Prop)))) (h : Hp) : Prop :=
 LdW none (shInt .u64) h (Addr.add ⟨7, 0, none⟩ 0) fun x =>
 ((0 : Int) ≤ x ∧ (if ((shrI .u64 mantissa x) != (0 : Int)) = true then
 Q 0 false h
 else
 SemV none P (convert 51 48 (.int .u64 mantissa)) (shFlt .f64) h fun x1 =>
 JoinW1 (α1 := Nat) (fun k =>
 (if neg = true then
 k (Op.negFloat .f64 x1) h
 else
 k x1 h))
 (fun f h1 =>
 (if (exp == (0 : Int)) = true then
 Q f true h1
 else
 LetW ((decide (exp > (0 : Int))) && (decide (exp ≤ (37 : Int)))) fun y =>
 (if y = true then
 JoinW2 (α1 := Int) (α2 := Nat) (fun k =>
 (if (decide (exp > (22 : Int))) = true then
 LdW none shSl h1 ⟨12, 0, none⟩ fun x2 =>
 ((InB x2.base x2.len (IntKind.wrap .i64 (exp - (22 : Int)))) ∧ LdW none (shFlt .f64) h1 (sat x2.base 1 (IntKind.wrap .i64 (exp - (22 : Int)))) fun x3 =>
 SemE P (binS .mul 48 (.tmp 31) (.tmp 36) (.float .f64 f) (.float .f64 x3)) (shFlt .f64) (fun r h2 =>
 k (22 : Int) r h2) h1)
 else
 k exp f h1))
 (fun exp1 f1 h2 =>
 SemV none P (binS .gtr 48 (.tmp 38) (.const (.float .f64 4831355200913801216)) (.float .f64 f1) (.float .f64 4831355200913801216)) zag h2 fun x2 =>
 SemV (some (!x2)) P (binS .lss 48 (.tmp 41) (.const (.float .f64 14054727237768577024)) (.float .f64 f1) (.float .f64 14054727237768577024)) zag h2 fun x3 =>
 LetW (x2 || x3) fun y1 =>
 (if y1 = true then
 Q f1 false h2
 else
 LdW none shSl h2 ⟨12, 0, none⟩ fun x4 =>
 ((InB x4.base x4.len exp1) ∧ LdW none (shFlt .f64) h2 (sat x4.base 1 exp1) fun x5 =>
 SemE P (binS .mul 48 (.tmp 44) (.tmp 48) (.float .f64 f1) (.float .f64 x5)) (shFlt .f64) (fun r h3 =>
 Q r true h3) h2)))
 else
 LetW ((decide (exp < (0 : Int))) && (decide (exp ≥ (-22 : Int)))) fun y1 =>
 (if y1 = true then
 LdW none shSl h1 ⟨12, 0, none⟩ fun x2 =>
 ((InB x2.base x2.len (IntKind.wrap .i64 ((0 : Int) - exp))) ∧ LdW none (shFlt .f64) h1 (sat x2.base 1 (IntKind.wrap .i64 ((0 : Int) - exp))) fun x3 =>
 SemE P (binS .quo 48 (.tmp 57) (.tmp 62) (.float .f64 f) (.float .f64 x3)) (shFlt .f64) (fun r h2 =>
 Q r true h2) h1)
 else
 Q f false h1))))))

def zbh (P : Program) (d : Int) (p : Int) (sign : Int) (Q : (Nat → (Leaf → (Hp → Prop)))) (h : Hp) : Prop :=
 CallT P zgf [(.int .u64 d)] (shInt .i64) (fun r h1 =>
 CallT P zej [(.int .i64 p)] (shInt .i64) (fun r1 h2 =>
 NewW [(.int .u64 (0 : Int)), (.int .u64 (0 : Int)), (.int .i64 (0 : Int))] (fun a h3 =>
 Call0 P zcz [(.pointer (some a)), (.int .i64 (IntKind.wrap .i64 ((min2I (1074 : Int) (IntKind.wrap .i64 ((IntKind.wrap .i64 ((53 : Int) - r)) - r1))) - (IntKind.wrap .i64 ((64 : Int) - r))))), (.int .i64 p), (.int .i64 r1)] (fun h4 =>
 LdW none (shInt .i64) h4 (Addr.add a 2) fun x =>
 (if (decide (x ≥ (64 : Int))) = true then
 SemE P (Extern.MathFloatBits.float64frombits #[(.int .u64 (bitsI .or .u64 sign (0 : Int)))]) (shFlt .f64) (fun r2 h5 =>
 EncW zaj .nilIface fun e =>
 Q r2 e h5) h4
 else
 ((0 : Int) ≤ (IntKind.wrap .i64 ((64 : Int) - r)) ∧ CallT P zbs [(.int .u64 (shlI .u64 d (IntKind.wrap .i64 ((64 : Int) - r)))), (.pointer (some a))] (shInt .u64) (fun r2 h5 =>
 CallT P zjn [(.int .u64 (9007199254740992 : Int))] (shInt .u64) (fun r3 h6 =>
 CallT P zei [(.bool (decide (r2 ≥ r3)))] (shInt .i64) (fun r4 h7 =>
 ((0 : Int) ≤ r4 ∧ CallT P zcu [(.int .u64 (bitsI .or .u64 (shrI .u64 r2 r4) (bitsI .and .u64 r2 (1 : Int))))] (shInt .u64) (fun r5 h8 =>
 Call2 P zfq [(.int .u64 (bitsI .or .u64 sign r5)), (.int .i64 (IntKind.wrap .i64 ((0 : Int) - (IntKind.wrap .i64 ((min2I (1074 : Int) (IntKind.wrap .i64 ((IntKind.wrap .i64 ((53 : Int) - r)) - r1))) - r4)))))] (shFlt .f64) zaj (fun r6 r7 h9 =>
 EncW zaj r7.v fun e =>
 Q r6 e h9) h8) h7)) h6) h5) h4))) h3) h2) h1) h

def zhw (P : Program) (x : Int) (Q : (Int → (Hp → Prop))) (h : Hp) : Prop :=
 (if (x == (0 : Int)) = true then
 Q (64 : Int) h
 else
 ((0 : Int) ≤ (58 : Int) ∧ (((0 : Int) ≤ (shrI .u64 (IntKind.wrap .u64 ((bitsI .and .u64 x (IntKind.wrap .u64 ((0 : Int) - x))) * (285870213051353865 : Int))) (58 : Int)) ∧ (shrI .u64 (IntKind.wrap .u64 ((bitsI .and .u64 x (IntKind.wrap .u64 ((0 : Int) - x))) * (285870213051353865 : Int))) (58 : Int)) < (64 : Int)) ∧ LdW none (shInt .u8) h (Addr.add ⟨14, 0, none⟩ ((Int.toNat (shrI .u64 (IntKind.wrap .u64 ((bitsI .and .u64 x (IntKind.wrap .u64 ((0 : Int) - x))) * (285870213051353865 : Int))) (58 : Int))) * 1)) fun x1 =>
 Q (IntKind.wrap .i64 x1) h)))

def zco (P : Program) (b : Sl) (s : ByteArray) (Q : (Bool → (Hp → Prop))) (h : Hp) : Prop :=
 LoopW1 (α1 := Int) (fun again i h1 =>
 (if (decide (i < (((ByteArray.size s) : Nat) : Int))) = true then
 (if (decide (i ≥ ((b.len : Nat) : Int))) = true then
 Q true h1
 else
 ((InB b.base b.len i) ∧ LdW none (shInt .u8) h1 (sat b.base 1 i) fun x =>
 (((0 : Int) ≤ i ∧ i < (((ByteArray.size s) : Nat) : Int)) ∧ (if (x != (((UInt8.toNat (List.getD s.data.toList (Int.toNat i) 0)) : Nat) : Int)) = true then
 ((InB b.base b.len i) ∧ LdW none (shInt .u8) h1 (sat b.base 1 i) fun x1 =>
 (((0 : Int) ≤ i ∧ i < (((ByteArray.size s) : Nat) : Int)) ∧ Q (decide (x1 < (((UInt8.toNat (List.getD s.data.toList (Int.toNat i) 0)) : Nat) : Int))) h1))
 else
 again (IntKind.wrap .i64 (i + (1 : Int))) h1))))
 else
 Q false h1)) (0 : Int) h

def zah (P : Program) (s : ByteArray) (prefix_ : ByteArray) (Q : (Int → (Hp → Prop))) (h : Hp) : Prop :=
 LoopW1 (α1 := Int) (fun again i h1 =>
 (if (decide (i < (min2I (((ByteArray.size prefix_) : Nat) : Int) (((ByteArray.size s) : Nat) : Int)))) = true then
 (((0 : Int) ≤ i ∧ i < (((ByteArray.size s) : Nat) : Int)) ∧ JoinW1 (α1 := Int) (fun k =>
 LetW ((decide ((65 : Int) ≤ (((UInt8.toNat (List.getD s.data.toList (Int.toNat i) 0)) : Nat) : Int))) && (decide ((((UInt8.toNat (List.getD s.data.toList (Int.toNat i) 0)) : Nat) : Int) ≤ (90 : Int)))) fun y =>
 (if y = true then
 k (IntKind.wrap .u8 ((((UInt8.toNat (List.getD s.data.toList (Int.toNat i) 0)) : Nat) : Int) + (32 : Int))) h1
 else
 k (((UInt8.toNat (List.getD s.data.toList (Int.toNat i) 0)) : Nat) : Int) h1))
 (fun c h2 =>
 (((0 : Int) ≤ i ∧ i < (((ByteArray.size prefix_) : Nat) : Int)) ∧ (if (c != (((UInt8.toNat (List.getD prefix_.data.toList (Int.toNat i) 0)) : Nat) : Int)) = true then
 Q i h2
 else
 again (IntKind.wrap .i64 (i + (1 : Int))) h2))))
 else
 Q (min2I (((ByteArray.size prefix_) : Nat) : Int) (((ByteArray.size s) : Nat) : Int)) h1)) (0 : Int) h

def zhe (P : Program) (sign : Int) (Q : (Nat → (Hp → Prop))) (h : Hp) : Prop :=
 JoinW1 (α1 := Int) (fun k =>
 (if (decide (sign ≥ (0 : Int))) = true then
 k (9218868437227405312 : Int) h
 else
 k (18442240474082181120 : Int) h))
 (fun v h1 =>
 SemE P (Extern.MathFloatBits.float64frombits #[(.int .u64 v)]) (shFlt .f64) (fun r h2 =>
 Q r h2) h1)

def zlg (P : Program)  (Q : (Nat → (Hp → Prop))) (h : Hp) : Prop :=
 SemE P (Extern.MathFloatBits.float64frombits #[(.int .u64 (9221120237041090561 : Int))]) (shFlt .f64) (fun r h1 =>
 Q r h1) h

def zbt (P : Program) (a : Option Addr) (Q : (Int → (Hp → Prop))) (h : Hp) : Prop :=
 NilW none a fun p =>
 LdW none (shInt .i64) h (Addr.add p 801) fun x =>
 (if (decide (x > (20 : Int))) = true then
 Q (18446744073709551615 : Int) h
 else
 LoopW2 (α1 := Int) (α2 := Int) (fun again i n h1 =>
 NilW none a fun p1 =>
 LdW none (shInt .i64) h1 (Addr.add p1 801) fun x1 =>
 NilW (some (decide (i < x1))) a fun p2 =>
 LdW (some (decide (i < x1))) (shInt .i64) h1 (Addr.add p2 800) fun x2 =>
 LetW ((decide (i < x1)) && (decide (i < x2))) fun y =>
 (if y = true then
 NilW none a fun p3 =>
 (((0 : Int) ≤ i ∧ i < (800 : Int)) ∧ LdW none (shInt .u8) h1 (Addr.add (Addr.add p3 0) ((Int.toNat i) * 1)) fun x3 =>
 again (IntKind.wrap .i64 (i + (1 : Int))) (IntKind.wrap .u64 ((IntKind.wrap .u64 (n * (10 : Int))) + (IntKind.wrap .u64 (IntKind.wrap .u8 (x3 - (48 : Int)))))) h1)
 else
 LoopW2 (α1 := Int) (α2 := Int) (fun again1 i1 n1 h2 =>
 NilW none a fun p3 =>
 LdW none (shInt .i64) h2 (Addr.add p3 801) fun x3 =>
 (if (decide (i1 < x3)) = true then
 again1 (IntKind.wrap .i64 (i1 + (1 : Int))) (IntKind.wrap .u64 (n1 * (10 : Int))) h2
 else
 NilW none a fun p4 =>
 LdW none (shInt .i64) h2 (Addr.add p4 801) fun x4 =>
 CallT P zfv [(.pointer a), (.int .i64 x4)] zag (fun r h3 =>
 (if r = true then
 Q (IntKind.wrap .u64 (n1 + (1 : Int))) h3
 else
 Q n1 h3)) h2)) i n h1)) (0 : Int) (0 : Int) h)

def zcj (P : Program) (m : Int) (e : Int) (Q : (Nat → (Leaf → (Hp → Prop)))) (h : Hp) : Prop :=
 (if ((bitsI .and .u64 m (4503599627370496 : Int)) == (0 : Int)) = true then
 SemE P (Extern.MathFloatBits.float64frombits #[(.int .u64 m)]) (shFlt .f64) (fun r h1 =>
 EncW zaj .nilIface fun e1 =>
 Q r e1 h1) h
 else
 (if (decide (e ≥ (972 : Int))) = true then
 SemE P (Extern.MathFloatBits.float64frombits #[(.int .u64 (bitsI .or .u64 (bitsI .and .u64 m (9223372036854775808 : Int)) (9218868437227405312 : Int)))]) (shFlt .f64) (fun r h1 =>
 EncW zaj (.iface 122 (.int .i64 (1 : Int))) fun e1 =>
 Q r e1 h1) h
 else
 ((0 : Int) ≤ (52 : Int) ∧ SemE P (Extern.MathFloatBits.float64frombits #[(.int .u64 (bitsI .or .u64 (bitsI .andNot .u64 m (4503599627370496 : Int)) (shlI .u64 (IntKind.wrap .u64 (IntKind.wrap .i64 ((1075 : Int) + e))) (52 : Int))))]) (shFlt .f64) (fun r h1 =>
 EncW zaj .nilIface fun e1 =>
 Q r e1 h1) h)))

end Lf

/-
  By program: how the functions are cut.
-/
set_option maxRecDepth 100000
namespace Lf
open Go

def Ann.s (a : Ann) : Ann := .sq .tt a
def rgR (a n : Nat) : List (Nat × List Nat) := (List.range' a n).map fun i => (i, [])

def zou : List Nat := []
def zov : Ann := .tt
def zhf1 : List Nat := []
def zhg1 : Ann := .tt
def zhh1 : List Nat := []
def zhi1 : Ann := (.s (.s (.s (.jn [⟨false, 4, 51⟩] [] .tt .tt))))
def zsv : List Nat := []
def zsw : Ann := .tt
def zhj1 : List Nat := []
def zhk1 : Ann := .tt
def zcv1 : List Nat := []
def zcw1 : Ann := .tt
def zcx1 : List Nat := []
def zcy1 : Ann := .tt
def zti : List Nat := []
def ztj : Ann := .tt
def zaa1 : List Nat := []
def zab1 : Ann := .tt
def zac1 : List Nat := []
def zad1 : Ann := .tt
def zux : List Nat := []
def zuy : Ann := .tt
def zuz : List Nat := []
def zva : Ann := .tt
def ztz : List Nat := []
def zua : Ann := .tt
def zrx1 : List Nat := []
def zry1 : Ann := .tt
def zub : List Nat := []
def zuc : Ann := .tt
def zxk : List Nat := []
def zxl : Ann := (.s (.s (.jn [] [] .tt (.s (.jn [] [] .tt (.s (.s (.sq (.s (.bj [] [] (.jn [⟨false, 43, 4⟩] [] .tt .tt))) (.s (.jn [⟨false, 8, 3⟩] [] .tt (.s (.s (.s (.sq (.bk (.lp [] [] .tt)) .tt))))))))))))))
def zpg : List Nat := []
def zph : Ann := (.s (.sq (.s (.s (.sq (.sq (.rg (rgR 0 12)) .tt) .tt))) .tt))
def zmg : List Nat := []
def zmh : Ann := .tt
def zse : List Nat := []
def zsf : Ann := (.s (.s (.sq (.s (.sq (.s (.jn [⟨false, 0, 9⟩] [] .tt (.s (.sq (.s (.bk (.lp [⟨false, 6, 3⟩, ⟨false, 49, 3⟩] [] .tt))) .tt)))) .tt)) .tt)))
def zsg : List Nat := []
def zsh : Ann := .tt
def zkr : List Nat := []
def zks : Ann := .tt
def znj : List Nat := []
def znk : Ann := (.s (.s (.s (.s (.sq (.bj [⟨false, 0, 9⟩, ⟨false, 1, 3⟩] [] (.s (.s (.s (.sq (.s (.s (.sq (.bj [⟨false, 0, 9⟩, ⟨false, 1, 3⟩] [] .tt) .tt))) .tt))))) (.jn [⟨false, 2, 3⟩] [] .tt (.s (.sq (.s (.bj [⟨false, 10, 51⟩] [] .tt)) (.s (.s (.s (.sq (.s (.bk (.lp [⟨false, 12, 4⟩, ⟨false, 13, 51⟩, ⟨false, 101, 3⟩] [] (.s (.s (.sq (.bj [⟨false, 12, 4⟩, ⟨false, 13, 51⟩] [] (.s (.s (.sq (.bj [⟨false, 12, 4⟩, ⟨false, 16, 5⟩] [] .tt) .tt)))) .tt)))))) .tt))))))))))))
def zmt : List Nat := []
def zmu : Ann := .tt
def zlx1 : List Nat := []
def zly1 : Ann := .tt
def zhl1 : List Nat := []
def zhm1 : Ann := .tt
def zmv : List Nat := []
def zmw : Ann := .tt
def znl : List Nat := []
def znm : Ann := (.s (.s (.s (.s (.s (.s (.s (.s (.sq (.bk (.lp [⟨false, 8, 3⟩, ⟨false, 10, 3⟩] [] (.s (.bk (.jn [⟨false, 8, 3⟩] [] .tt .tt))))) .tt)))))))))
def zqd : List Nat := []
def zqe : Ann := (.s (.s (.s (.sq (.bj [⟨false, 9, 51⟩, ⟨false, 10, 3⟩, ⟨false, 11, 3⟩, ⟨false, 12, 3⟩] [] .tt) (.s (.sq (.rg (rgR 0 9)) (.s (.s (.jn [⟨false, 14, 3⟩, ⟨false, 15, 51⟩] [] .tt (.s (.s (.s (.s (.sq (.s (.sq (.s (.s (.s (.s (.s (.sq (.rg (rgR 0 11)) (.sq (.s (.bj [⟨false, 3, 3⟩] [] (.jn [⟨false, 149, 4⟩] [] .tt (.s (.s (.s (.jn [⟨false, 161, 4⟩] [] .tt .tt))))))) .tt))))))) .tt)) (.jn [⟨false, 3, 3⟩] [] (.s (.sq (.s (.sq (.s (.bj [⟨false, 3, 3⟩, ⟨false, 24, 3⟩] [] (.s (.s (.jn [⟨false, 192, 4⟩] [] .tt (.s (.jn [⟨false, 197, 4⟩] [] .tt (.sq (.jn [⟨false, 3, 3⟩] [] .tt .tt) .tt)))))))) (.s (.sq (.s (.s (.jn [⟨false, 26, 3⟩, ⟨false, 27, 3⟩] [] (.s (.sq (.s (.s (.s (.s (.s (.sq (.rg (rgR 0 11)) .tt)))))) .tt)) .tt))) .tt)))) .tt)) (.s (.s (.s (.sq (.s (.bj [⟨false, 3, 3⟩] [] (.jn [⟨false, 256, 4⟩] [] .tt (.s (.s (.s (.jn [⟨false, 273, 4⟩] [] .tt (.sq (.jn [⟨false, 3, 3⟩] [] .tt .tt) .tt)))))))) (.sq (.rg (rgR 0 18)) .tt))))))))))))))))))))
def znn : List Nat := []
def zno : Ann := (.s (.sq (.s (.sq (.s (.s (.s (.jn [⟨false, 6, 51⟩] [] .tt .tt)))) .tt)) .tt))
def zkt : List Nat := []
def zku : Ann := .tt
def zrd : List Nat := []
def zre : Ann := .tt
def zlo : List Nat := []
def zlp : Ann := (.s (.s (.s (.jn [⟨false, 0, 9⟩] [] .tt (.s (.jn [⟨false, 3, 21⟩, ⟨false, 4, 3⟩, ⟨false, 5, 4⟩] [] .tt (.sq (.bk (.lp [⟨false, 3, 21⟩, ⟨false, 4, 3⟩] [] (.s (.sq (.bj [⟨false, 3, 21⟩] [] .tt) .tt)))) .tt)))))))
def zjf : List Nat := []
def zjg : Ann := .tt
def zrf : List Nat := []
def zrg : Ann := .tt
def znp : List Nat := []
def znq : Ann := .tt
def zlq : List Nat := []
def zlr : Ann := (.s (.sq (.bk (.lp [⟨false, 1, 51⟩, ⟨false, 4, 3⟩] [] (.s (.bk (.s (.s (.s (.s (.s (.sq (.rg (rgR 0 15)) (.sq (.rg (rgR 0 15)) (.sq (.rg (rgR 0 15)) (.sq (.rg (rgR 0 15)) .tt))))))))))))) (.s (.jn [⟨false, 4, 3⟩, ⟨false, 12, 148⟩] [] (.s (.sq (.s (.s (.s (.sq (.rg (rgR 0 15)) (.sq (.rg (rgR 0 15)) .tt))))) .tt)) (.jn [⟨false, 4, 3⟩, ⟨false, 12, 148⟩] [] (.s (.sq (.s (.s (.sq (.rg (rgR 0 15)) .tt))) .tt)) .tt)))))
def zmx : List Nat := []
def zmy : Ann := (.s (.jn [] [] .tt (.s (.s (.jn [⟨false, 1, 51⟩] [] .tt (.jn [⟨false, 13, 3⟩] [] (.s (.sq (.s (.s (.s (.sq (.bk (.lp [⟨false, 1, 51⟩, ⟨false, 13, 3⟩] [] .tt)) .tt)))) (.s (.sq (.bk (.lp [⟨false, 1, 51⟩, ⟨false, 13, 3⟩] [] .tt)) .tt)))) .tt))))))
def zwn : List Nat := []
def zwo : Ann := .tt
def zkv : List Nat := []
def zkw : Ann := .tt
def zqf : List Nat := []
def zqg : Ann := (.s (.jn [⟨false, 5, 3⟩, ⟨false, 6, 5⟩] [] (.s (.sq (.s (.jn [⟨false, 17, 3⟩] [] .tt (.jn [⟨false, 17, 3⟩] [] .tt (.s (.s (.sq (.jn [⟨false, 5, 3⟩] [] .tt .tt) (.jn [⟨false, 5, 3⟩] [] .tt .tt))))))) .tt)) (.sq (.s (.bk (.jn [⟨false, 75, 4⟩] [] .tt (.sq (.jn [⟨false, 0, 74⟩] [] .tt (.s (.jn [⟨false, 19, 5⟩] [] .tt (.s (.jn [⟨false, 0, 74⟩] [] (.s (.sq (.s (.s (.s (.jn [⟨false, 0, 74⟩, ⟨false, 20, 3⟩] [] .tt (.s (.bk (.lp [⟨false, 0, 74⟩, ⟨false, 114, 3⟩] [] .tt))))))) .tt)) (.s (.s (.jn [⟨false, 22, 3⟩] [] .tt (.jn [⟨false, 19, 5⟩, ⟨false, 22, 3⟩] [] .tt .tt))))))))) (.s (.sq (.jn [⟨false, 0, 74⟩] [] .tt (.jn [⟨false, 0, 74⟩] [] (.s (.sq (.s (.sq (.s (.bk (.lp [⟨false, 0, 74⟩, ⟨false, 191, 3⟩] [] .tt))) (.s (.bk (.lp [⟨false, 0, 74⟩, ⟨false, 203, 3⟩] [] .tt))))) .tt)) (.sq (.s (.sq (.s (.s (.s (.s (.s (.sq (.s (.bk (.lp [⟨false, 0, 74⟩, ⟨false, 240, 3⟩] [] .tt))) (.sq (.s (.bk (.lp [⟨false, 0, 74⟩, ⟨false, 247, 3⟩] [] .tt))) (.s (.bk (.lp [⟨false, 0, 74⟩, ⟨false, 261, 3⟩] [] .tt)))))))))) .tt)) .tt))) .tt)))))) .tt)))
def zwp : List Nat := []
def zwq : Ann := (.s (.jn [⟨false, 0, 51⟩, ⟨false, 2, 3⟩] [] .tt (.jn [⟨false, 0, 51⟩, ⟨false, 2, 3⟩] [] .tt .tt)))
def znr : List Nat := []
def zns : Ann := (.s (.sq (.s (.sq (.s (.s (.bk (.lp [⟨false, 3, 3⟩] [] .tt)))) .tt)) .tt))
def znt : List Nat := []
def znu : Ann := .tt
def zkx : List Nat := []
def zky : Ann := (.bk (.s (.s (.s (.sq (.sq (.bk (.lp [⟨false, 1, 3⟩] [] .tt)) .tt) (.s (.sq (.sq (.bk (.lp [⟨false, 1, 3⟩] [] .tt)) .tt) .tt)))))))
def zio : List Nat := []
def zip : Ann := (.s (.s (.sq (.s (.bj [⟨false, 6, 3⟩, ⟨false, 7, 3⟩] [] .tt)) (.s (.s (.s (.jn [⟨false, 5, 3⟩, ⟨false, 8, 51⟩, ⟨false, 9, 51⟩, ⟨false, 10, 3⟩] [] .tt .tt)))))))
def zqh : List Nat := []
def zqi : Ann := (.s (.s (.s (.s (.s (.jn [⟨false, 3, 3⟩, ⟨false, 4, 56⟩] [] (.s (.sq (.s (.s (.s (.s (.jn [⟨false, 3, 3⟩, ⟨false, 4, 56⟩] [] .tt .tt))))) .tt)) .tt))))))
def znv : List Nat := []
def znw : Ann := .tt
def zls : List Nat := []
def zlt : Ann := .tt
def zqj : List Nat := []
def zqk : Ann := .tt
def zql : List Nat := []
def zqm : Ann := .tt
def zow : List Nat := []
def zox : Ann := .tt
def znx : List Nat := []
def zny : Ann := .tt
def zqn : List Nat := []
def zqo : Ann := (.s (.s (.s (.s (.s (.s (.sq (.rg (rgR 0 10)) .tt)))))))
def zjr : List Nat := []
def zjs : Ann := .tt
def zkl : List Nat := []
def zkm : Ann := .tt
def zjt : List Nat := []
def zju : Ann := .tt
def zjv : List Nat := []
def zjw : Ann := .tt
def zrh : List Nat := []
def zri : Ann := .tt
def zsi : List Nat := []
def zsj : Ann := (.sq (.bk (.lp [] [] (.sq (.sq (.rg (rgR 0 18)) .tt) .tt))) .tt)
def znz : List Nat := []
def zoa : Ann := (.s (.jn [⟨false, 4, 3⟩] [] (.sq (.rg (rgR 0 14)) .tt) (.s (.s (.s (.sq (.s (.bk (.lp [⟨false, 5, 3⟩, ⟨false, 6, 3⟩, ⟨false, 7, 67⟩] [] (.s (.sq (.bk (.s (.s (.s (.s (.jn [] [] .tt .tt)))))) .tt))))) (.sq (.bk (.lp [⟨false, 6, 3⟩, ⟨false, 7, 67⟩] [] (.s (.bk (.s (.s (.s (.jn [] [] .tt .tt)))))))) (.s (.jn [] [] .tt .tt)))))))))
def zmz : List Nat := []
def zna : Ann := (.s (.s (.s (.sq (.bj [⟨false, 4, 3⟩, ⟨false, 6, 67⟩] [] (.lp [⟨false, 4, 3⟩, ⟨false, 6, 67⟩] [] (.s (.sq (.bk (.sq (.s (.sq (.s (.sq (.bk (.lp [⟨false, 4, 3⟩, ⟨false, 6, 67⟩] [] .tt)) .tt)) .tt)) .tt)) .tt)))) (.s (.s (.sq (.bk (.lp [⟨false, 4, 3⟩, ⟨false, 5, 3⟩, ⟨false, 6, 67⟩] [] .tt)) (.sq (.bk (.lp [⟨false, 5, 3⟩, ⟨false, 6, 67⟩] [] (.s (.bk (.s (.s (.jn [⟨false, 5, 3⟩] [] .tt .tt))))))) .tt))))))))
def zkz : List Nat := []
def zla : Ann := .tt
def zpi : List Nat := []
def zpj : Ann := (.s (.s (.s (.s (.sq (.s (.bk (.sq (.bk (.sq (.bj [⟨false, 0, 9⟩, ⟨false, 5, 3⟩, ⟨false, 6, 3⟩] [] (.sq (.bk (.sq (.sq (.jn [⟨false, 13, 4⟩] [] .tt .tt) (.sq (.jn [⟨false, 16, 4⟩] [] .tt .tt) (.jn [⟨false, 19, 4⟩] [] .tt .tt))) .tt)) (.jn [⟨false, 5, 3⟩] [] .tt .tt))) (.sq (.s (.jn [⟨false, 7, 3⟩] [] .tt .tt)) .tt))) .tt))) .tt)))))
def zob : List Nat := []
def zoc : Ann := (.s (.s (.s (.sq (.s (.bj [⟨false, 4, 4⟩, ⟨false, 7, 3⟩] [] .tt)) (.s (.s (.s (.jn [⟨false, 6, 4⟩, ⟨false, 7, 3⟩, ⟨false, 10, 51⟩, ⟨false, 11, 3⟩, ⟨false, 12, 5⟩] [] .tt (.s (.s (.s (.s (.s (.s (.sq (.bj [⟨false, 2, 51⟩, ⟨false, 5, 4⟩, ⟨false, 7, 3⟩, ⟨false, 9, 4⟩, ⟨false, 13, 4⟩, ⟨false, 14, 4⟩, ⟨false, 15, 3⟩, ⟨false, 16, 3⟩, ⟨false, 17, 3⟩] [] (.lp [⟨false, 2, 51⟩, ⟨false, 5, 4⟩, ⟨false, 7, 3⟩, ⟨false, 9, 4⟩, ⟨false, 13, 4⟩, ⟨false, 14, 4⟩, ⟨false, 15, 3⟩, ⟨false, 16, 3⟩, ⟨false, 17, 3⟩] [] (.s (.sq (.bj [⟨false, 2, 51⟩, ⟨false, 5, 4⟩, ⟨false, 9, 4⟩, ⟨false, 13, 4⟩, ⟨false, 14, 4⟩, ⟨false, 15, 3⟩, ⟨false, 16, 3⟩, ⟨false, 17, 3⟩] [] .tt) .tt)))) (.s (.jn [⟨false, 17, 3⟩] [] .tt (.jn [⟨false, 16, 3⟩, ⟨false, 17, 3⟩] [] .tt (.jn [⟨false, 7, 3⟩, ⟨false, 9, 4⟩, ⟨false, 17, 3⟩] [] (.s (.sq (.s (.s (.s (.sq (.s (.bj [⟨false, 7, 3⟩, ⟨false, 19, 3⟩] [] .tt)) (.s (.s (.sq (.bk (.lp [⟨false, 7, 3⟩, ⟨false, 9, 4⟩, ⟨false, 20, 3⟩] [] (.s (.sq (.bj [⟨false, 9, 4⟩, ⟨false, 20, 3⟩] [] .tt) .tt)))) .tt))))))) .tt)) (.jn [⟨false, 3, 3⟩] [] .tt .tt))))))))))))))))))))
def zpk : List Nat := []
def zpl : Ann := (.s (.sq (.rg (rgR 0 12)) (.s (.s (.sq (.bk (.lp [⟨false, 2, 51⟩, ⟨false, 3, 3⟩] [] .tt)) (.jn [⟨false, 2, 51⟩] [] .tt (.sq (.bk (.lp [⟨false, 2, 51⟩, ⟨false, 3, 3⟩] [] .tt)) (.sq (.bk (.lp [⟨false, 2, 51⟩, ⟨false, 3, 3⟩] [] .tt)) (.s (.s (.s (.s (.jn [⟨false, 2, 51⟩, ⟨false, 3, 3⟩] [] .tt (.jn [⟨false, 3, 3⟩] [] .tt (.s (.jn [⟨false, 2, 51⟩, ⟨false, 3, 3⟩, ⟨false, 17, 56⟩] [] .tt (.s (.sq (.rg (rgR 0 22)) (.jn [⟨false, 18, 51⟩] [] (.s (.sq (.rg (rgR 0 13)) .tt)) .tt)))))))))))))))))))
def zmi : List Nat := []
def zmj : Ann := (.s (.s (.s (.s (.s (.sq (.s (.bj [⟨false, 5, 3⟩] [] .tt)) (.s (.s (.sq (.bj [⟨false, 5, 3⟩, ⟨false, 6, 4⟩, ⟨false, 7, 4⟩] [] (.lp [⟨false, 5, 3⟩, ⟨false, 6, 4⟩, ⟨false, 7, 4⟩] [] (.s (.sq (.bj [⟨false, 6, 4⟩, ⟨false, 7, 4⟩] [] (.sq (.bk (.s (.s (.s (.s (.s (.sq (.s (.s (.sq (.s (.sq (.sq (.rg (rgR 0 12)) .tt) .tt)) .tt))) .tt))))))) .tt)) .tt)))) (.s (.jn [] [] .tt (.sq (.s (.sq (.s (.s (.s (.sq (.s (.bj [⟨false, 5, 3⟩, ⟨false, 8, 3⟩] [] .tt)) (.s (.s (.sq (.bk (.lp [⟨false, 5, 3⟩, ⟨false, 9, 3⟩] [] (.s (.sq (.bj [⟨false, 9, 3⟩] [] .tt) .tt)))) .tt))))))) .tt)) .tt))))))))))))
def ziv : List Nat := []
def ziw : Ann := (.s (.gd 0 (.s (.sq (.rg (rgR 0 22)) (.sq (.s (.sq (.rg (rgR 0 13)) .tt)) .tt))) (.gd 1 (.s (.sq (.rg (rgR 0 12)) (.s (.s (.s (.sq (.rg (rgR 0 22)) (.sq (.s (.sq (.rg (rgR 0 13)) .tt)) .tt))))))) (.s (.s (.s (.s (.s (.s (.sq (.bk (.lp [⟨false, 6, 3⟩] [] (.s (.bk (.s (.jn [⟨false, 8, 3⟩] [] (.sq (.rg (rgR 0 7)) (.s (.rg (rgR 0 8)))) .tt)))))) (.sq (.bk (.lp [⟨false, 6, 3⟩] [] (.s (.bk (.s (.jn [⟨false, 9, 3⟩] [] (.sq (.rg (rgR 0 8)) (.s (.rg (rgR 0 9)))) .tt)))))) (.s (.jn [⟨false, 6, 3⟩] [] .tt (.sq (.sq (.rg (rgR 0 13)) .tt) (.s (.s (.jn [⟨false, 6, 3⟩, ⟨false, 7, 51⟩] [] (.s (.sq (.s (.s (.sq (.rg (rgR 0 13)) .tt))) .tt)) (.jn [⟨false, 6, 3⟩] [] .tt (.s (.s (.s (.sq (.rg (rgR 0 12)) (.s (.s (.s (.sq (.rg (rgR 0 22)) (.sq (.s (.sq (.rg (rgR 0 13)) .tt)) .tt)))))))))))))))))))))))))))
def zlu : List Nat := []
def zlv : Ann := .tt
def zmk : List Nat := []
def zml : Ann := (.s (.s (.s (.jn [⟨false, 6, 48⟩] [] .tt (.sq (.bk (.s (.s (.s (.sq (.jn [⟨false, 1, 3⟩, ⟨false, 6, 48⟩] [] .tt .tt) .tt))))) .tt)))))
def zlw : List Nat := []
def zlx : Ann := .tt
def zoy : List Nat := []
def zoz : Ann := .tt
def zjh : List Nat := []
def zji : Ann := (.s (.sq (.s (.bk (.lp [⟨false, 5, 3⟩] [] (.s (.sq (.bk (.s (.sq (.rg (rgR 0 8)) (.sq (.sq (.rg (rgR 0 9)) .tt) .tt)))) .tt))))) .tt))
def zgn : List Nat := []
def zgo : Ann := (.s (.s (.sq (.s (.bk (.lp [⟨false, 6, 3⟩] [] (.s (.sq (.bk (.s (.jn [⟨false, 7, 5⟩] [] .tt .tt))) .tt))))) .tt)))
def zsx : List Nat := []
def zsy : Ann := (.s (.s (.jn [⟨false, 3, 51⟩] [] .tt .tt)))
def zsz : List Nat := []
def zta : Ann := .tt
def zhf : List Nat := []
def zhg : Ann := (.s (.s (.s (.s (.sq (.s (.bk (.lp [⟨false, 3, 3⟩, ⟨false, 4, 51⟩] [] .tt))) (.sq (.bk (.lp [⟨false, 3, 3⟩, ⟨false, 4, 51⟩] [] .tt)) .tt))))))
def zqp : List Nat := []
def zqq : Ann := .tt
end Lf

