/-
  Part 4 of the texts that the claim leans on.
-/
import Derived.Test.YtgmfbapkfjemnaaGreatDoorRows
import Derived.Laws.Externs
import GoSem.Core.Float
import GoSem.PinnedTables
import Derived.Laws.IdiomStrings
import Derived.Test.YtgmfbapkfjemnaaGreatDoorMgFltReturns2
/-
  By program: what is told of the types is so of the program.
-/
set_option maxRecDepth 100000
namespace Lf
open Go Go.Proofs

theorem zjv1 {α : Type _} {l : List α} {i : Nat} (h : l.length ≤ i) : nth l i = none := by rw [zdt]; exact List.getElem?_eq_none h

theorem tyS {a e : Ty} {p : Ty → Prop} (h : some a = some e) (x : p a) : p e := Option.some.inj h ▸ x
theorem tyAll {p : Nat → Ty → Prop} (h0 : p 0 ty0) (h2 : p 2 ty2) (h3 : p 3 ty3) (h4 : p 4 ty4) (h5 : p 5 ty5) (h9 : p 9 ty9) (h12 : p 12 ty12) (h20 : p 20 ty20) (h21 : p 21 ty21) (h22 : p 22 ty22) (h23 : p 23 ty23) (h25 : p 25 ty25) (h26 : p 26 ty26) (h31 : p 31 ty31) (h33 : p 33 ty33) (h36 : p 36 ty36) (h39 : p 39 ty39) (h40 : p 40 ty40) (h44 : p 44 ty44) (h48 : p 48 ty48) (h51 : p 51 ty51) (h52 : p 52 ty52) (h56 : p 56 ty56) (h57 : p 57 ty57) (h60 : p 60 ty60) (h62 : p 62 ty62) (h64 : p 64 ty64) (h67 : p 67 ty67) (h69 : p 69 ty69) (h73 : p 73 ty73) (h74 : p 74 ty74) (h76 : p 76 ty76) (h80 : p 80 ty80) (h82 : p 82 ty82) (h85 : p 85 ty85) (h92 : p 92 ty92) (h96 : p 96 ty96) (h99 : p 99 ty99) (h102 : p 102 ty102) (h107 : p 107 ty107) (h108 : p 108 ty108) (h109 : p 109 ty109) (h114 : p 114 ty114) (h120 : p 120 ty120) (h122 : p 122 ty122) (h123 : p 123 ty123) (h125 : p 125 ty125) (h132 : p 132 ty132) (h135 : p 135 ty135) (h137 : p 137 ty137) (h140 : p 140 ty140) (h142 : p 142 ty142) (h143 : p 143 ty143) (h144 : p 144 ty144) (h146 : p 146 ty146) (h148 : p 148 ty148) (h149 : p 149 ty149) (h151 : p 151 ty151) (h158 : p 158 ty158) (h159 : p 159 ty159) (h162 : p 162 ty162) (h163 : p 163 ty163) (h165 : p 165 ty165) (h169 : p 169 ty169) (h172 : p 172 ty172) (h178 : p 178 ty178) (h182 : p 182 ty182) (h183 : p 183 ty183) (h191 : p 191 ty191) (h193 : p 193 ty193) (h194 : p 194 ty194) (h202 : p 202 ty202) (h204 : p 204 ty204) (h206 : p 206 ty206) (h208 : p 208 ty208) (h211 : p 211 ty211) (h213 : p 213 ty213) (h216 : p 216 ty216) (h218 : p 218 ty218) (h220 : p 220 ty220) (h223 : p 223 ty223) (h228 : p 228 ty228) (h229 : p 229 ty229) (h232 : p 232 ty232) (h233 : p 233 ty233) (h237 : p 237 ty237) (h239 : p 239 ty239) (h240 : p 240 ty240) (h242 : p 242 ty242) : ∀ t e, tyAt t = some e → p t e := by
  intro t e h
  by_cases hlt : t < 256
  · match t, hlt, h with
    | 0, _, h => exact tyS h h0
    | 1, _, h => exact absurd (show (none : Option Ty) = some e from h) (by simp)
    | 2, _, h => exact tyS h h2
    | 3, _, h => exact tyS h h3
    | 4, _, h => exact tyS h h4
    | 5, _, h => exact tyS h h5
    | 6, _, h => exact absurd (show (none : Option Ty) = some e from h) (by simp)
    | 7, _, h => exact absurd (show (none : Option Ty) = some e from h) (by simp)
    | 8, _, h => exact absurd (show (none : Option Ty) = some e from h) (by simp)
    | 9, _, h => exact tyS h h9
    | 10, _, h => exact absurd (show (none : Option Ty) = some e from h) (by simp)
    | 11, _, h => exact absurd (show (none : Option Ty) = some e from h) (by simp)
    | 12, _, h => exact tyS h h12
    | 13, _, h => exact absurd (show (none : Option Ty) = some e from h) (by simp)
    | 14, _, h => exact absurd (show (none : Option Ty) = some e from h) (by simp)
    | 15, _, h => exact absurd (show (none : Option Ty) = some e from h) (by simp)
    | 16, _, h => exact absurd (show (none : Option Ty) = some e from h) (by simp)
    | 17, _, h => exact absurd (show (none : Option Ty) = some e from h) (by simp)
    | 18, _, h => exact absurd (show (none : Option Ty) = some e from h) (by simp)
    | 19, _, h => exact absurd (show (none : Option Ty) = some e from h) (by simp)
    | 20, _, h => exact tyS h h20
    | 21, _, h => exact tyS h h21
    | 22, _, h => exact tyS h h22
    | 23, _, h => exact tyS h h23
    | 24, _, h => exact absurd (show (none : Option Ty) = some e from h) (by simp)
    | 25, _, h => exact tyS h h25
    | 26, _, h => exact tyS h h26
    | 27, _, h => exact absurd (show (none : Option Ty) = some e from h) (by simp)
    | 28, _, h => exact absurd (show (none : Option Ty) = some e from h) (by simp)
    | 29, _, h => exact absurd (show (none : Option Ty) = some e from h) (by simp)
    | 30, _, h => exact absurd (show (none : Option Ty) = some e from h) (by simp)
    | 31, _, h => exact tyS h h31
    | 32, _, h => exact absurd (show (none : Option Ty) = some e from h) (by simp)
    | 33, _, h => exact tyS h h33
    | 34, _, h => exact absurd (show (none : Option Ty) = some e from h) (by simp)
    | 35, _, h => exact absurd (show (none : Option Ty) = some e from h) (by simp)
    | 36, _, h => exact tyS h h36
    | 37, _, h => exact absurd (show (none : Option Ty) = some e from h) (by simp)
    | 38, _, h => exact absurd (show (none : Option Ty) = some e from h) (by simp)
    | 39, _, h => exact tyS h h39
    | 40, _, h => exact tyS h h40
    | 41, _, h => exact absurd (show (none : Option Ty) = some e from h) (by simp)
    | 42, _, h => exact absurd (show (none : Option Ty) = some e from h) (by simp)
    | 43, _, h => exact absurd (show (none : Option Ty) = some e from h) (by simp)
    | 44, _, h => exact tyS h h44
    | 45, _, h => exact absurd (show (none : Option Ty) = some e from h) (by simp)
    | 46, _, h => exact absurd (show (none : Option Ty) = some e from h) (by simp)
    | 47, _, h => exact absurd (show (none : Option Ty) = some e from h) (by simp)
    | 48, _, h => exact tyS h h48
    | 49, _, h => exact absurd (show (none : Option Ty) = some e from h) (by simp)
    | 50, _, h => exact absurd (show (none : Option Ty) = some e from h) (by simp)
    | 51, _, h => exact tyS h h51
    | 52, _, h => exact tyS h h52
    | 53, _, h => exact absurd (show (none : Option Ty) = some e from h) (by simp)
    | 54, _, h => exact absurd (show (none : Option Ty) = some e from h) (by simp)
    | 55, _, h => exact absurd (show (none : Option Ty) = some e from h) (by simp)
    | 56, _, h => exact tyS h h56
    | 57, _, h => exact tyS h h57
    | 58, _, h => exact absurd (show (none : Option Ty) = some e from h) (by simp)
    | 59, _, h => exact absurd (show (none : Option Ty) = some e from h) (by simp)
    | 60, _, h => exact tyS h h60
    | 61, _, h => exact absurd (show (none : Option Ty) = some e from h) (by simp)
    | 62, _, h => exact tyS h h62
    | 63, _, h => exact absurd (show (none : Option Ty) = some e from h) (by simp)
    | 64, _, h => exact tyS h h64
    | 65, _, h => exact absurd (show (none : Option Ty) = some e from h) (by simp)
    | 66, _, h => exact absurd (show (none : Option Ty) = some e from h) (by simp)
    | 67, _, h => exact tyS h h67
    | 68, _, h => exact absurd (show (none : Option Ty) = some e from h) (by simp)
    | 69, _, h => exact tyS h h69
    | 70, _, h => exact absurd (show (none : Option Ty) = some e from h) (by simp)
    | 71, _, h => exact absurd (show (none : Option Ty) = some e from h) (by simp)
    | 72, _, h => exact absurd (show (none : Option Ty) = some e from h) (by simp)
    | 73, _, h => exact tyS h h73
    | 74, _, h => exact tyS h h74
    | 75, _, h => exact absurd (show (none : Option Ty) = some e from h) (by simp)
    | 76, _, h => exact tyS h h76
    | 77, _, h => exact absurd (show (none : Option Ty) = some e from h) (by simp)
    | 78, _, h => exact absurd (show (none : Option Ty) = some e from h) (by simp)
    | 79, _, h => exact absurd (show (none : Option Ty) = some e from h) (by simp)
    | 80, _, h => exact tyS h h80
    | 81, _, h => exact absurd (show (none : Option Ty) = some e from h) (by simp)
    | 82, _, h => exact tyS h h82
    | 83, _, h => exact absurd (show (none : Option Ty) = some e from h) (by simp)
    | 84, _, h => exact absurd (show (none : Option Ty) = some e from h) (by simp)
    | 85, _, h => exact tyS h h85
    | 86, _, h => exact absurd (show (none : Option Ty) = some e from h) (by simp)
    | 87, _, h => exact absurd (show (none : Option Ty) = some e from h) (by simp)
    | 88, _, h => exact absurd (show (none : Option Ty) = some e from h) (by simp)
    | 89, _, h => exact absurd (show (none : Option Ty) = some e from h) (by simp)
    | 90, _, h => exact absurd (show (none : Option Ty) = some e from h) (by simp)
    | 91, _, h => exact absurd (show (none : Option Ty) = some e from h) (by simp)
    | 92, _, h => exact tyS h h92
    | 93, _, h => exact absurd (show (none : Option Ty) = some e from h) (by simp)
    | 94, _, h => exact absurd (show (none : Option Ty) = some e from h) (by simp)
    | 95, _, h => exact absurd (show (none : Option Ty) = some e from h) (by simp)
    | 96, _, h => exact tyS h h96
    | 97, _, h => exact absurd (show (none : Option Ty) = some e from h) (by simp)
    | 98, _, h => exact absurd (show (none : Option Ty) = some e from h) (by simp)
    | 99, _, h => exact tyS h h99
    | 100, _, h => exact absurd (show (none : Option Ty) = some e from h) (by simp)
    | 101, _, h => exact absurd (show (none : Option Ty) = some e from h) (by simp)
    | 102, _, h => exact tyS h h102
    | 103, _, h => exact absurd (show (none : Option Ty) = some e from h) (by simp)
    | 104, _, h => exact absurd (show (none : Option Ty) = some e from h) (by simp)
    | 105, _, h => exact absurd (show (none : Option Ty) = some e from h) (by simp)
    | 106, _, h => exact absurd (show (none : Option Ty) = some e from h) (by simp)
    | 107, _, h => exact tyS h h107
    | 108, _, h => exact tyS h h108
    | 109, _, h => exact tyS h h109
    | 110, _, h => exact absurd (show (none : Option Ty) = some e from h) (by simp)
    | 111, _, h => exact absurd (show (none : Option Ty) = some e from h) (by simp)
    | 112, _, h => exact absurd (show (none : Option Ty) = some e from h) (by simp)
    | 113, _, h => exact absurd (show (none : Option Ty) = some e from h) (by simp)
    | 114, _, h => exact tyS h h114
    | 115, _, h => exact absurd (show (none : Option Ty) = some e from h) (by simp)
    | 116, _, h => exact absurd (show (none : Option Ty) = some e from h) (by simp)
    | 117, _, h => exact absurd (show (none : Option Ty) = some e from h) (by simp)
    | 118, _, h => exact absurd (show (none : Option Ty) = some e from h) (by simp)
    | 119, _, h => exact absurd (show (none : Option Ty) = some e from h) (by simp)
    | 120, _, h => exact tyS h h120
    | 121, _, h => exact absurd (show (none : Option Ty) = some e from h) (by simp)
    | 122, _, h => exact tyS h h122
    | 123, _, h => exact tyS h h123
    | 124, _, h => exact absurd (show (none : Option Ty) = some e from h) (by simp)
    | 125, _, h => exact tyS h h125
    | 126, _, h => exact absurd (show (none : Option Ty) = some e from h) (by simp)
    | 127, _, h => exact absurd (show (none : Option Ty) = some e from h) (by simp)
    | 128, _, h => exact absurd (show (none : Option Ty) = some e from h) (by simp)
    | 129, _, h => exact absurd (show (none : Option Ty) = some e from h) (by simp)
    | 130, _, h => exact absurd (show (none : Option Ty) = some e from h) (by simp)
    | 131, _, h => exact absurd (show (none : Option Ty) = some e from h) (by simp)
    | 132, _, h => exact tyS h h132
    | 133, _, h => exact absurd (show (none : Option Ty) = some e from h) (by simp)
    | 134, _, h => exact absurd (show (none : Option Ty) = some e from h) (by simp)
    | 135, _, h => exact tyS h h135
    | 136, _, h => exact absurd (show (none : Option Ty) = some e from h) (by simp)
    | 137, _, h => exact tyS h h137
    | 138, _, h => exact absurd (show (none : Option Ty) = some e from h) (by simp)
    | 139, _, h => exact absurd (show (none : Option Ty) = some e from h) (by simp)
    | 140, _, h => exact tyS h h140
    | 141, _, h => exact absurd (show (none : Option Ty) = some e from h) (by simp)
    | 142, _, h => exact tyS h h142
    | 143, _, h => exact tyS h h143
    | 144, _, h => exact tyS h h144
    | 145, _, h => exact absurd (show (none : Option Ty) = some e from h) (by simp)
    | 146, _, h => exact tyS h h146
    | 147, _, h => exact absurd (show (none : Option Ty) = some e from h) (by simp)
    | 148, _, h => exact tyS h h148
    | 149, _, h => exact tyS h h149
    | 150, _, h => exact absurd (show (none : Option Ty) = some e from h) (by simp)
    | 151, _, h => exact tyS h h151
    | 152, _, h => exact absurd (show (none : Option Ty) = some e from h) (by simp)
    | 153, _, h => exact absurd (show (none : Option Ty) = some e from h) (by simp)
    | 154, _, h => exact absurd (show (none : Option Ty) = some e from h) (by simp)
    | 155, _, h => exact absurd (show (none : Option Ty) = some e from h) (by simp)
    | 156, _, h => exact absurd (show (none : Option Ty) = some e from h) (by simp)
    | 157, _, h => exact absurd (show (none : Option Ty) = some e from h) (by simp)
    | 158, _, h => exact tyS h h158
    | 159, _, h => exact tyS h h159
    | 160, _, h => exact absurd (show (none : Option Ty) = some e from h) (by simp)
    | 161, _, h => exact absurd (show (none : Option Ty) = some e from h) (by simp)
    | 162, _, h => exact tyS h h162
    | 163, _, h => exact tyS h h163
    | 164, _, h => exact absurd (show (none : Option Ty) = some e from h) (by simp)
    | 165, _, h => exact tyS h h165
    | 166, _, h => exact absurd (show (none : Option Ty) = some e from h) (by simp)
    | 167, _, h => exact absurd (show (none : Option Ty) = some e from h) (by simp)
    | 168, _, h => exact absurd (show (none : Option Ty) = some e from h) (by simp)
    | 169, _, h => exact tyS h h169
    | 170, _, h => exact absurd (show (none : Option Ty) = some e from h) (by simp)
    | 171, _, h => exact absurd (show (none : Option Ty) = some e from h) (by simp)
    | 172, _, h => exact tyS h h172
    | 173, _, h => exact absurd (show (none : Option Ty) = some e from h) (by simp)
    | 174, _, h => exact absurd (show (none : Option Ty) = some e from h) (by simp)
    | 175, _, h => exact absurd (show (none : Option Ty) = some e from h) (by simp)
    | 176, _, h => exact absurd (show (none : Option Ty) = some e from h) (by simp)
    | 177, _, h => exact absurd (show (none : Option Ty) = some e from h) (by simp)
    | 178, _, h => exact tyS h h178
    | 179, _, h => exact absurd (show (none : Option Ty) = some e from h) (by simp)
    | 180, _, h => exact absurd (show (none : Option Ty) = some e from h) (by simp)
    | 181, _, h => exact absurd (show (none : Option Ty) = some e from h) (by simp)
    | 182, _, h => exact tyS h h182
    | 183, _, h => exact tyS h h183
    | 184, _, h => exact absurd (show (none : Option Ty) = some e from h) (by simp)
    | 185, _, h => exact absurd (show (none : Option Ty) = some e from h) (by simp)
    | 186, _, h => exact absurd (show (none : Option Ty) = some e from h) (by simp)
    | 187, _, h => exact absurd (show (none : Option Ty) = some e from h) (by simp)
    | 188, _, h => exact absurd (show (none : Option Ty) = some e from h) (by simp)
    | 189, _, h => exact absurd (show (none : Option Ty) = some e from h) (by simp)
    | 190, _, h => exact absurd (show (none : Option Ty) = some e from h) (by simp)
    | 191, _, h => exact tyS h h191
    | 192, _, h => exact absurd (show (none : Option Ty) = some e from h) (by simp)
    | 193, _, h => exact tyS h h193
    | 194, _, h => exact tyS h h194
    | 195, _, h => exact absurd (show (none : Option Ty) = some e from h) (by simp)
    | 196, _, h => exact absurd (show (none : Option Ty) = some e from h) (by simp)
    | 197, _, h => exact absurd (show (none : Option Ty) = some e from h) (by simp)
    | 198, _, h => exact absurd (show (none : Option Ty) = some e from h) (by simp)
    | 199, _, h => exact absurd (show (none : Option Ty) = some e from h) (by simp)
    | 200, _, h => exact absurd (show (none : Option Ty) = some e from h) (by simp)
    | 201, _, h => exact absurd (show (none : Option Ty) = some e from h) (by simp)
    | 202, _, h => exact tyS h h202
    | 203, _, h => exact absurd (show (none : Option Ty) = some e from h) (by simp)
    | 204, _, h => exact tyS h h204
    | 205, _, h => exact absurd (show (none : Option Ty) = some e from h) (by simp)
    | 206, _, h => exact tyS h h206
    | 207, _, h => exact absurd (show (none : Option Ty) = some e from h) (by simp)
    | 208, _, h => exact tyS h h208
    | 209, _, h => exact absurd (show (none : Option Ty) = some e from h) (by simp)
    | 210, _, h => exact absurd (show (none : Option Ty) = some e from h) (by simp)
    | 211, _, h => exact tyS h h211
    | 212, _, h => exact absurd (show (none : Option Ty) = some e from h) (by simp)
    | 213, _, h => exact tyS h h213
    | 214, _, h => exact absurd (show (none : Option Ty) = some e from h) (by simp)
    | 215, _, h => exact absurd (show (none : Option Ty) = some e from h) (by simp)
    | 216, _, h => exact tyS h h216
    | 217, _, h => exact absurd (show (none : Option Ty) = some e from h) (by simp)
    | 218, _, h => exact tyS h h218
    | 219, _, h => exact absurd (show (none : Option Ty) = some e from h) (by simp)
    | 220, _, h => exact tyS h h220
    | 221, _, h => exact absurd (show (none : Option Ty) = some e from h) (by simp)
    | 222, _, h => exact absurd (show (none : Option Ty) = some e from h) (by simp)
    | 223, _, h => exact tyS h h223
    | 224, _, h => exact absurd (show (none : Option Ty) = some e from h) (by simp)
    | 225, _, h => exact absurd (show (none : Option Ty) = some e from h) (by simp)
    | 226, _, h => exact absurd (show (none : Option Ty) = some e from h) (by simp)
    | 227, _, h => exact absurd (show (none : Option Ty) = some e from h) (by simp)
    | 228, _, h => exact tyS h h228
    | 229, _, h => exact tyS h h229
    | 230, _, h => exact absurd (show (none : Option Ty) = some e from h) (by simp)
    | 231, _, h => exact absurd (show (none : Option Ty) = some e from h) (by simp)
    | 232, _, h => exact tyS h h232
    | 233, _, h => exact tyS h h233
    | 234, _, h => exact absurd (show (none : Option Ty) = some e from h) (by simp)
    | 235, _, h => exact absurd (show (none : Option Ty) = some e from h) (by simp)
    | 236, _, h => exact absurd (show (none : Option Ty) = some e from h) (by simp)
    | 237, _, h => exact tyS h h237
    | 238, _, h => exact absurd (show (none : Option Ty) = some e from h) (by simp)
    | 239, _, h => exact tyS h h239
    | 240, _, h => exact tyS h h240
    | 241, _, h => exact absurd (show (none : Option Ty) = some e from h) (by simp)
    | 242, _, h => exact tyS h h242
    | 243, _, h => exact absurd (show (none : Option Ty) = some e from h) (by simp)
    | 244, _, h => exact absurd (show (none : Option Ty) = some e from h) (by simp)
    | 245, _, h => exact absurd (show (none : Option Ty) = some e from h) (by simp)
    | 246, _, h => exact absurd (show (none : Option Ty) = some e from h) (by simp)
    | 247, _, h => exact absurd (show (none : Option Ty) = some e from h) (by simp)
    | 248, _, h => exact absurd (show (none : Option Ty) = some e from h) (by simp)
    | 249, _, h => exact absurd (show (none : Option Ty) = some e from h) (by simp)
    | 250, _, h => exact absurd (show (none : Option Ty) = some e from h) (by simp)
    | 251, _, h => exact absurd (show (none : Option Ty) = some e from h) (by simp)
    | 252, _, h => exact absurd (show (none : Option Ty) = some e from h) (by simp)
    | 253, _, h => exact absurd (show (none : Option Ty) = some e from h) (by simp)
    | 254, _, h => exact absurd (show (none : Option Ty) = some e from h) (by simp)
    | 255, _, h => exact absurd (show (none : Option Ty) = some e from h) (by simp)
    | n + 256, hlt, _ => omega
  · have hl : tyRows.length = 16 := rfl
    have : nth tyRows (t / 16) = none := zjv1 (l := tyRows) (i := t / 16) (by rw [hl]; omega)
    unfold tyAt at h
    rw [this] at h
    cases h

theorem zup1 (x : Leaf) : (zai x.v).length = 1 ∧ ∀ cs, x.v ≠ .agg cs := by
  obtain ⟨v, h⟩ := x
  cases v <;> first | exact ⟨rfl, fun cs h => by cases h⟩ | cases h

theorem tb_ok : tb.Ok Tryz.prog where
  und := tyAll (p := fun t e => Tryz.prog.underlying t = some e.und) Tryz.underlying0 Tryz.underlying2 Tryz.underlying3 Tryz.underlying4 Tryz.underlying5 Tryz.underlying9 Tryz.underlying12 Tryz.underlying20 Tryz.underlying21 Tryz.underlying22 Tryz.underlying23 Tryz.underlying25 Tryz.underlying26 Tryz.underlying31 Tryz.underlying33 Tryz.underlying36 Tryz.underlying39 Tryz.underlying40 Tryz.underlying44 Tryz.underlying48 Tryz.underlying51 Tryz.underlying52 Tryz.underlying56 Tryz.underlying57 Tryz.underlying60 Tryz.underlying62 Tryz.underlying64 Tryz.underlying67 Tryz.underlying69 Tryz.underlying73 Tryz.underlying74 Tryz.underlying76 Tryz.underlying80 Tryz.underlying82 Tryz.underlying85 Tryz.underlying92 Tryz.underlying96 Tryz.underlying99 Tryz.underlying102 Tryz.underlying107 Tryz.underlying108 Tryz.underlying109 Tryz.underlying114 Tryz.underlying120 Tryz.underlying122 Tryz.underlying123 Tryz.underlying125 Tryz.underlying132 Tryz.underlying135 Tryz.underlying137 Tryz.underlying140 Tryz.underlying142 Tryz.underlying143 Tryz.underlying144 Tryz.underlying146 Tryz.underlying148 Tryz.underlying149 Tryz.underlying151 Tryz.underlying158 Tryz.underlying159 Tryz.underlying162 Tryz.underlying163 Tryz.underlying165 Tryz.underlying169 Tryz.underlying172 Tryz.underlying178 Tryz.underlying182 Tryz.underlying183 Tryz.underlying191 Tryz.underlying193 Tryz.underlying194 Tryz.underlying202 Tryz.underlying204 Tryz.underlying206 Tryz.underlying208 Tryz.underlying211 Tryz.underlying213 Tryz.underlying216 Tryz.underlying218 Tryz.underlying220 Tryz.underlying223 Tryz.underlying228 Tryz.underlying229 Tryz.underlying232 Tryz.underlying233 Tryz.underlying237 Tryz.underlying239 Tryz.underlying240 Tryz.underlying242
  info := tyAll (p := fun t e => ∃ i, Tryz.prog.info? t = some i ∧ i.size = e.size ∧ i.bytes = e.bytes ∧ i.zero = some e.zero) ⟨Tryz.t0, Tryz.type0, rfl, rfl, rfl⟩ ⟨Tryz.t2, Tryz.type2, rfl, rfl, rfl⟩ ⟨Tryz.t3, Tryz.type3, rfl, rfl, rfl⟩ ⟨Tryz.t4, Tryz.type4, rfl, rfl, rfl⟩ ⟨Tryz.t5, Tryz.type5, rfl, rfl, rfl⟩ ⟨Tryz.t9, Tryz.type9, rfl, rfl, rfl⟩ ⟨Tryz.t12, Tryz.type12, rfl, rfl, rfl⟩ ⟨Tryz.t20, Tryz.type20, rfl, rfl, rfl⟩ ⟨Tryz.t21, Tryz.type21, rfl, rfl, rfl⟩ ⟨Tryz.t22, Tryz.type22, rfl, rfl, rfl⟩ ⟨Tryz.t23, Tryz.type23, rfl, rfl, rfl⟩ ⟨Tryz.t25, Tryz.type25, rfl, rfl, rfl⟩ ⟨Tryz.t26, Tryz.type26, rfl, rfl, rfl⟩ ⟨Tryz.t31, Tryz.type31, rfl, rfl, rfl⟩ ⟨Tryz.t33, Tryz.type33, rfl, rfl, rfl⟩ ⟨Tryz.t36, Tryz.type36, rfl, rfl, rfl⟩ ⟨Tryz.t39, Tryz.type39, rfl, rfl, rfl⟩ ⟨Tryz.t40, Tryz.type40, rfl, rfl, rfl⟩ ⟨Tryz.t44, Tryz.type44, rfl, rfl, rfl⟩ ⟨Tryz.t48, Tryz.type48, rfl, rfl, rfl⟩ ⟨Tryz.t51, Tryz.type51, rfl, rfl, rfl⟩ ⟨Tryz.t52, Tryz.type52, rfl, rfl, rfl⟩ ⟨Tryz.t56, Tryz.type56, rfl, rfl, rfl⟩ ⟨Tryz.t57, Tryz.type57, rfl, rfl, rfl⟩ ⟨Tryz.t60, Tryz.type60, rfl, rfl, rfl⟩ ⟨Tryz.t62, Tryz.type62, rfl, rfl, rfl⟩ ⟨Tryz.t64, Tryz.type64, rfl, rfl, rfl⟩ ⟨Tryz.t67, Tryz.type67, rfl, rfl, rfl⟩ ⟨Tryz.t69, Tryz.type69, rfl, rfl, rfl⟩ ⟨Tryz.t73, Tryz.type73, rfl, rfl, rfl⟩ ⟨Tryz.t74, Tryz.type74, rfl, rfl, rfl⟩ ⟨Tryz.t76, Tryz.type76, rfl, rfl, rfl⟩ ⟨Tryz.t80, Tryz.type80, rfl, rfl, rfl⟩ ⟨Tryz.t82, Tryz.type82, rfl, rfl, rfl⟩ ⟨Tryz.t85, Tryz.type85, rfl, rfl, rfl⟩ ⟨Tryz.t92, Tryz.type92, rfl, rfl, rfl⟩ ⟨Tryz.t96, Tryz.type96, rfl, rfl, rfl⟩ ⟨Tryz.t99, Tryz.type99, rfl, rfl, rfl⟩ ⟨Tryz.t102, Tryz.type102, rfl, rfl, rfl⟩ ⟨Tryz.t107, Tryz.type107, rfl, rfl, rfl⟩ ⟨Tryz.t108, Tryz.type108, rfl, rfl, rfl⟩ ⟨Tryz.t109, Tryz.type109, rfl, rfl, rfl⟩ ⟨Tryz.t114, Tryz.type114, rfl, rfl, rfl⟩ ⟨Tryz.t120, Tryz.type120, rfl, rfl, rfl⟩ ⟨Tryz.t122, Tryz.type122, rfl, rfl, rfl⟩ ⟨Tryz.t123, Tryz.type123, rfl, rfl, rfl⟩ ⟨Tryz.t125, Tryz.type125, rfl, rfl, rfl⟩ ⟨Tryz.t132, Tryz.type132, rfl, rfl, rfl⟩ ⟨Tryz.t135, Tryz.type135, rfl, rfl, rfl⟩ ⟨Tryz.t137, Tryz.type137, rfl, rfl, rfl⟩ ⟨Tryz.t140, Tryz.type140, rfl, rfl, rfl⟩ ⟨Tryz.t142, Tryz.type142, rfl, rfl, rfl⟩ ⟨Tryz.t143, Tryz.type143, rfl, rfl, rfl⟩ ⟨Tryz.t144, Tryz.type144, rfl, rfl, rfl⟩ ⟨Tryz.t146, Tryz.type146, rfl, rfl, rfl⟩ ⟨Tryz.t148, Tryz.type148, rfl, rfl, rfl⟩ ⟨Tryz.t149, Tryz.type149, rfl, rfl, rfl⟩ ⟨Tryz.t151, Tryz.type151, rfl, rfl, rfl⟩ ⟨Tryz.t158, Tryz.type158, rfl, rfl, rfl⟩ ⟨Tryz.t159, Tryz.type159, rfl, rfl, rfl⟩ ⟨Tryz.t162, Tryz.type162, rfl, rfl, rfl⟩ ⟨Tryz.t163, Tryz.type163, rfl, rfl, rfl⟩ ⟨Tryz.t165, Tryz.type165, rfl, rfl, rfl⟩ ⟨Tryz.t169, Tryz.type169, rfl, rfl, rfl⟩ ⟨Tryz.t172, Tryz.type172, rfl, rfl, rfl⟩ ⟨Tryz.t178, Tryz.type178, rfl, rfl, rfl⟩ ⟨Tryz.t182, Tryz.type182, rfl, rfl, rfl⟩ ⟨Tryz.t183, Tryz.type183, rfl, rfl, rfl⟩ ⟨Tryz.t191, Tryz.type191, rfl, rfl, rfl⟩ ⟨Tryz.t193, Tryz.type193, rfl, rfl, rfl⟩ ⟨Tryz.t194, Tryz.type194, rfl, rfl, rfl⟩ ⟨Tryz.t202, Tryz.type202, rfl, rfl, rfl⟩ ⟨Tryz.t204, Tryz.type204, rfl, rfl, rfl⟩ ⟨Tryz.t206, Tryz.type206, rfl, rfl, rfl⟩ ⟨Tryz.t208, Tryz.type208, rfl, rfl, rfl⟩ ⟨Tryz.t211, Tryz.type211, rfl, rfl, rfl⟩ ⟨Tryz.t213, Tryz.type213, rfl, rfl, rfl⟩ ⟨Tryz.t216, Tryz.type216, rfl, rfl, rfl⟩ ⟨Tryz.t218, Tryz.type218, rfl, rfl, rfl⟩ ⟨Tryz.t220, Tryz.type220, rfl, rfl, rfl⟩ ⟨Tryz.t223, Tryz.type223, rfl, rfl, rfl⟩ ⟨Tryz.t228, Tryz.type228, rfl, rfl, rfl⟩ ⟨Tryz.t229, Tryz.type229, rfl, rfl, rfl⟩ ⟨Tryz.t232, Tryz.type232, rfl, rfl, rfl⟩ ⟨Tryz.t233, Tryz.type233, rfl, rfl, rfl⟩ ⟨Tryz.t237, Tryz.type237, rfl, rfl, rfl⟩ ⟨Tryz.t239, Tryz.type239, rfl, rfl, rfl⟩ ⟨Tryz.t240, Tryz.type240, rfl, rfl, rfl⟩ ⟨Tryz.t242, Tryz.type242, rfl, rfl, rfl⟩
  agg := by
    apply tyAll (p := fun t e => zij e.und = true → ∀ x, ∃ cs, e.sh.enc x = .agg cs ∧ cs.size = e.size) <;> first | (intro h; cases h; done) | exact (fun _ x => ⟨_, rfl, rfl⟩) | exact (fun _ x => ⟨_, rfl, x.size⟩)
  leaf := by
    apply tyAll (p := fun t e => zij e.und = false → e.size = 1 ∧ ∀ x, (zai (e.sh.enc x)).length = 1 ∧ ∀ cs, e.sh.enc x ≠ .agg cs) <;> first | (intro h; cases h; done) | (refine fun _ => ⟨rfl, fun x => ⟨rfl, fun cs h => ?_⟩⟩; cases h; done) | exact (fun _ => ⟨rfl, zup1⟩)
  zlen := by
    apply tyAll (p := fun t e => (zai e.zero).length = e.size) <;> first | exact rfl
  zero8 := by
    apply tyAll (p := fun t e => e.und = .int .u8 → zai e.zero = [.int .u8 0]) <;> first | (intro h; cases h; done) | exact (fun _ => rfl)
  zagg := by
    apply tyAll (p := fun t e => zij e.und = true → ∃ cs, e.zero = .agg cs) <;> first | (intro h; cases h; done) | exact (fun _ => ⟨_, rfl⟩)
  call := by
    intro g h
    by_cases hlt : g < 256
    · match g, hlt, h with
      | 0, _, h => exact absurd (show false = true from h) (by simp)
      | 1, _, h => exact absurd (show false = true from h) (by simp)
      | 2, _, _ => exact Tryz.call2
      | 3, _, _ => exact Tryz.call3
      | 4, _, _ => exact Tryz.call4
      | 5, _, _ => exact Tryz.call5
      | 6, _, _ => exact Tryz.call6
      | 7, _, _ => exact Tryz.call7
      | 8, _, _ => exact Tryz.call8
      | 9, _, _ => exact Tryz.call9
      | 10, _, _ => exact Tryz.call10
      | 11, _, _ => exact Tryz.call11
      | 12, _, _ => exact Tryz.call12
      | 13, _, _ => exact Tryz.call13
      | 14, _, _ => exact Tryz.call14
      | 15, _, _ => exact Tryz.call15
      | 16, _, _ => exact Tryz.call16
      | 17, _, _ => exact Tryz.call17
      | 18, _, _ => exact Tryz.call18
      | 19, _, _ => exact Tryz.call19
      | 20, _, _ => exact Tryz.call20
      | 21, _, _ => exact Tryz.call21
      | 22, _, _ => exact Tryz.call22
      | 23, _, _ => exact Tryz.call23
      | 24, _, _ => exact Tryz.call24
      | 25, _, _ => exact Tryz.call25
      | 26, _, _ => exact Tryz.call26
      | 27, _, _ => exact Tryz.call27
      | 28, _, _ => exact Tryz.call28
      | 29, _, _ => exact Tryz.call29
      | 30, _, _ => exact Tryz.call30
      | 31, _, _ => exact Tryz.call31
      | 32, _, _ => exact Tryz.call32
      | 33, _, _ => exact Tryz.call33
      | 34, _, _ => exact Tryz.call34
      | 35, _, _ => exact Tryz.call35
      | 36, _, _ => exact Tryz.call36
      | 37, _, h => exact absurd (show false = true from h) (by simp)
      | 38, _, _ => exact Tryz.call38
      | 39, _, _ => exact Tryz.call39
      | 40, _, _ => exact Tryz.call40
      | 41, _, _ => exact Tryz.call41
      | 42, _, _ => exact Tryz.call42
      | 43, _, _ => exact Tryz.call43
      | 44, _, _ => exact Tryz.call44
      | 45, _, _ => exact Tryz.call45
      | 46, _, _ => exact Tryz.call46
      | 47, _, _ => exact Tryz.call47
      | 48, _, _ => exact Tryz.call48
      | 49, _, _ => exact Tryz.call49
      | 50, _, _ => exact Tryz.call50
      | 51, _, _ => exact Tryz.call51
      | 52, _, h => exact absurd (show false = true from h) (by simp)
      | 53, _, _ => exact Tryz.call53
      | 54, _, _ => exact Tryz.call54
      | 55, _, _ => exact Tryz.call55
      | 56, _, _ => exact Tryz.call56
      | 57, _, _ => exact Tryz.call57
      | 58, _, _ => exact Tryz.call58
      | 59, _, _ => exact Tryz.call59
      | 60, _, _ => exact Tryz.call60
      | 61, _, _ => exact Tryz.call61
      | 62, _, _ => exact Tryz.call62
      | 63, _, _ => exact Tryz.call63
      | 64, _, _ => exact Tryz.call64
      | 65, _, _ => exact Tryz.call65
      | 66, _, _ => exact Tryz.call66
      | 67, _, _ => exact Tryz.call67
      | 68, _, _ => exact Tryz.call68
      | 69, _, _ => exact Tryz.call69
      | 70, _, _ => exact Tryz.call70
      | 71, _, _ => exact Tryz.call71
      | 72, _, _ => exact Tryz.call72
      | 73, _, _ => exact Tryz.call73
      | 74, _, _ => exact Tryz.call74
      | 75, _, _ => exact Tryz.call75
      | 76, _, _ => exact Tryz.call76
      | 77, _, _ => exact Tryz.call77
      | 78, _, _ => exact Tryz.call78
      | 79, _, h => exact absurd (show false = true from h) (by simp)
      | 80, _, _ => exact Tryz.call80
      | 81, _, _ => exact Tryz.call81
      | 82, _, _ => exact Tryz.call82
      | 83, _, _ => exact Tryz.call83
      | 84, _, _ => exact Tryz.call84
      | 85, _, _ => exact Tryz.call85
      | 86, _, _ => exact Tryz.call86
      | 87, _, _ => exact Tryz.call87
      | 88, _, _ => exact Tryz.call88
      | 89, _, _ => exact Tryz.call89
      | 90, _, _ => exact Tryz.call90
      | 91, _, _ => exact Tryz.call91
      | 92, _, _ => exact Tryz.call92
      | 93, _, _ => exact Tryz.call93
      | 94, _, _ => exact Tryz.call94
      | 95, _, _ => exact Tryz.call95
      | 96, _, _ => exact Tryz.call96
      | 97, _, _ => exact Tryz.call97
      | 98, _, _ => exact Tryz.call98
      | 99, _, _ => exact Tryz.call99
      | 100, _, _ => exact Tryz.call100
      | 101, _, _ => exact Tryz.call101
      | 102, _, _ => exact Tryz.call102
      | 103, _, _ => exact Tryz.call103
      | 104, _, _ => exact Tryz.call104
      | 105, _, _ => exact Tryz.call105
      | 106, _, _ => exact Tryz.call106
      | 107, _, _ => exact Tryz.call107
      | 108, _, _ => exact Tryz.call108
      | 109, _, _ => exact Tryz.call109
      | 110, _, _ => exact Tryz.call110
      | 111, _, _ => exact Tryz.call111
      | 112, _, h => exact absurd (show false = true from h) (by simp)
      | 113, _, _ => exact Tryz.call113
      | 114, _, _ => exact Tryz.call114
      | 115, _, _ => exact Tryz.call115
      | 116, _, _ => exact Tryz.call116
      | 117, _, _ => exact Tryz.call117
      | 118, _, _ => exact Tryz.call118
      | 119, _, _ => exact Tryz.call119
      | 120, _, _ => exact Tryz.call120
      | 121, _, _ => exact Tryz.call121
      | 122, _, _ => exact Tryz.call122
      | 123, _, _ => exact Tryz.call123
      | 124, _, _ => exact Tryz.call124
      | 125, _, _ => exact Tryz.call125
      | 126, _, _ => exact Tryz.call126
      | 127, _, _ => exact Tryz.call127
      | 128, _, _ => exact Tryz.call128
      | 129, _, _ => exact Tryz.call129
      | 130, _, _ => exact Tryz.call130
      | 131, _, _ => exact Tryz.call131
      | 132, _, h => exact absurd (show false = true from h) (by simp)
      | 133, _, _ => exact Tryz.call133
      | 134, _, _ => exact Tryz.call134
      | 135, _, h => exact absurd (show false = true from h) (by simp)
      | 136, _, h => exact absurd (show false = true from h) (by simp)
      | 137, _, _ => exact Tryz.call137
      | 138, _, _ => exact Tryz.call138
      | 139, _, _ => exact Tryz.call139
      | 140, _, _ => exact Tryz.call140
      | 141, _, _ => exact Tryz.call141
      | 142, _, _ => exact Tryz.call142
      | 143, _, _ => exact Tryz.call143
      | 144, _, _ => exact Tryz.call144
      | 145, _, _ => exact Tryz.call145
      | 146, _, _ => exact Tryz.call146
      | 147, _, _ => exact Tryz.call147
      | 148, _, _ => exact Tryz.call148
      | 149, _, _ => exact Tryz.call149
      | 150, _, _ => exact Tryz.call150
      | 151, _, _ => exact Tryz.call151
      | 152, _, _ => exact Tryz.call152
      | 153, _, _ => exact Tryz.call153
      | 154, _, _ => exact Tryz.call154
      | 155, _, _ => exact Tryz.call155
      | 156, _, _ => exact Tryz.call156
      | 157, _, _ => exact Tryz.call157
      | 158, _, _ => exact Tryz.call158
      | 159, _, _ => exact Tryz.call159
      | 160, _, _ => exact Tryz.call160
      | 161, _, _ => exact Tryz.call161
      | 162, _, _ => exact Tryz.call162
      | 163, _, _ => exact Tryz.call163
      | 164, _, h => exact absurd (show false = true from h) (by simp)
      | 165, _, h => exact absurd (show false = true from h) (by simp)
      | 166, _, _ => exact Tryz.call166
      | 167, _, _ => exact Tryz.call167
      | 168, _, _ => exact Tryz.call168
      | 169, _, _ => exact Tryz.call169
      | 170, _, _ => exact Tryz.call170
      | 171, _, _ => exact Tryz.call171
      | 172, _, _ => exact Tryz.call172
      | 173, _, _ => exact Tryz.call173
      | 174, _, _ => exact Tryz.call174
      | 175, _, _ => exact Tryz.call175
      | 176, _, _ => exact Tryz.call176
      | 177, _, _ => exact Tryz.call177
      | 178, _, _ => exact Tryz.call178
      | 179, _, _ => exact Tryz.call179
      | 180, _, _ => exact Tryz.call180
      | 181, _, _ => exact Tryz.call181
      | 182, _, _ => exact Tryz.call182
      | 183, _, _ => exact Tryz.call183
      | 184, _, _ => exact Tryz.call184
      | 185, _, _ => exact Tryz.call185
      | 186, _, _ => exact Tryz.call186
      | 187, _, _ => exact Tryz.call187
      | 188, _, _ => exact Tryz.call188
      | 189, _, _ => exact Tryz.call189
      | 190, _, h => exact absurd (show false = true from h) (by simp)
      | 191, _, _ => exact Tryz.call191
      | 192, _, _ => exact Tryz.call192
      | 193, _, _ => exact Tryz.call193
      | 194, _, _ => exact Tryz.call194
      | 195, _, _ => exact Tryz.call195
      | 196, _, h => exact absurd (show false = true from h) (by simp)
      | 197, _, _ => exact Tryz.call197
      | 198, _, _ => exact Tryz.call198
      | 199, _, _ => exact Tryz.call199
      | 200, _, _ => exact Tryz.call200
      | 201, _, _ => exact Tryz.call201
      | 202, _, _ => exact Tryz.call202
      | 203, _, _ => exact Tryz.call203
      | 204, _, _ => exact Tryz.call204
      | 205, _, _ => exact Tryz.call205
      | 206, _, _ => exact Tryz.call206
      | 207, _, _ => exact Tryz.call207
      | 208, _, _ => exact Tryz.call208
      | 209, _, h => exact absurd (show false = true from h) (by simp)
      | 210, _, h => exact absurd (show false = true from h) (by simp)
      | 211, _, h => exact absurd (show false = true from h) (by simp)
      | 212, _, h => exact absurd (show false = true from h) (by simp)
      | 213, _, h => exact absurd (show false = true from h) (by simp)
      | 214, _, h => exact absurd (show false = true from h) (by simp)
      | 215, _, h => exact absurd (show false = true from h) (by simp)
      | 216, _, h => exact absurd (show false = true from h) (by simp)
      | 217, _, h => exact absurd (show false = true from h) (by simp)
      | 218, _, h => exact absurd (show false = true from h) (by simp)
      | 219, _, h => exact absurd (show false = true from h) (by simp)
      | 220, _, h => exact absurd (show false = true from h) (by simp)
      | 221, _, h => exact absurd (show false = true from h) (by simp)
      | 222, _, h => exact absurd (show false = true from h) (by simp)
      | 223, _, h => exact absurd (show false = true from h) (by simp)
      | 224, _, h => exact absurd (show false = true from h) (by simp)
      | 225, _, h => exact absurd (show false = true from h) (by simp)
      | 226, _, h => exact absurd (show false = true from h) (by simp)
      | 227, _, h => exact absurd (show false = true from h) (by simp)
      | 228, _, h => exact absurd (show false = true from h) (by simp)
      | 229, _, h => exact absurd (show false = true from h) (by simp)
      | 230, _, h => exact absurd (show false = true from h) (by simp)
      | 231, _, h => exact absurd (show false = true from h) (by simp)
      | 232, _, h => exact absurd (show false = true from h) (by simp)
      | 233, _, h => exact absurd (show false = true from h) (by simp)
      | 234, _, h => exact absurd (show false = true from h) (by simp)
      | 235, _, h => exact absurd (show false = true from h) (by simp)
      | 236, _, h => exact absurd (show false = true from h) (by simp)
      | 237, _, h => exact absurd (show false = true from h) (by simp)
      | 238, _, h => exact absurd (show false = true from h) (by simp)
      | 239, _, h => exact absurd (show false = true from h) (by simp)
      | 240, _, h => exact absurd (show false = true from h) (by simp)
      | 241, _, h => exact absurd (show false = true from h) (by simp)
      | 242, _, h => exact absurd (show false = true from h) (by simp)
      | 243, _, h => exact absurd (show false = true from h) (by simp)
      | 244, _, h => exact absurd (show false = true from h) (by simp)
      | 245, _, h => exact absurd (show false = true from h) (by simp)
      | 246, _, h => exact absurd (show false = true from h) (by simp)
      | 247, _, h => exact absurd (show false = true from h) (by simp)
      | 248, _, _ => exact Tryz.call248
      | 249, _, h => exact absurd (show false = true from h) (by simp)
      | 250, _, h => exact absurd (show false = true from h) (by simp)
      | 251, _, h => exact absurd (show false = true from h) (by simp)
      | 252, _, h => exact absurd (show false = true from h) (by simp)
      | 253, _, h => exact absurd (show false = true from h) (by simp)
      | 254, _, h => exact absurd (show false = true from h) (by simp)
      | 255, _, h => exact absurd (show false = true from h) (by simp)
      | n + 256, hlt, _ => omega
    · have hl : fnRows.length = 16 := rfl
      have : nth fnRows (g / 16) = none := zjv1 (l := fnRows) (i := g / 16) (by rw [hl]; omega)
      have h : fnAt g = true := h
      unfold fnAt at h
      rw [this] at h
      cases h
  ext := by
    intro g f h args w
    have h : extAt g = some f := h
    unfold extAt at h
    cases e37 : Nat.beq g 37 with
    | true =>
      have hg : g = 37 := Nat.eq_of_beq_eq_true e37
      subst hg
      exact run_callFunc_extern Tryz.func37 (by kernel_rfl) (by kernel_rfl) (by kernel_rfl) (show _ = _ from (show _ = some _ by kernel_rfl : _ = some _).trans h) args w
    | false =>
    simp only [e37, cond_false] at h
    cases e52 : Nat.beq g 52 with
    | true =>
      have hg : g = 52 := Nat.eq_of_beq_eq_true e52
      subst hg
      exact run_callFunc_extern Tryz.func52 (by kernel_rfl) (by kernel_rfl) (by kernel_rfl) (show _ = _ from (show _ = some _ by kernel_rfl : _ = some _).trans h) args w
    | false =>
    simp only [e52, cond_false] at h
    cases e112 : Nat.beq g 112 with
    | true =>
      have hg : g = 112 := Nat.eq_of_beq_eq_true e112
      subst hg
      exact run_callFunc_extern Tryz.func112 (by kernel_rfl) (by kernel_rfl) (by kernel_rfl) (show _ = _ from (show _ = some _ by kernel_rfl : _ = some _).trans h) args w
    | false =>
    simp only [e112, cond_false] at h
    cases e135 : Nat.beq g 135 with
    | true =>
      have hg : g = 135 := Nat.eq_of_beq_eq_true e135
      subst hg
      exact run_callFunc_extern Tryz.func135 (by kernel_rfl) (by kernel_rfl) (by kernel_rfl) (show _ = _ from (show _ = some _ by kernel_rfl : _ = some _).trans h) args w
    | false =>
    simp only [e135, cond_false] at h
    cases e136 : Nat.beq g 136 with
    | true =>
      have hg : g = 136 := Nat.eq_of_beq_eq_true e136
      subst hg
      exact run_callFunc_extern Tryz.func136 (by kernel_rfl) (by kernel_rfl) (by kernel_rfl) (show _ = _ from (show _ = some _ by kernel_rfl : _ = some _).trans h) args w
    | false =>
    simp only [e136, cond_false] at h
    cases e165 : Nat.beq g 165 with
    | true =>
      have hg : g = 165 := Nat.eq_of_beq_eq_true e165
      subst hg
      exact run_callFunc_extern Tryz.func165 (by kernel_rfl) (by kernel_rfl) (by kernel_rfl) (show _ = _ from (show _ = some _ by kernel_rfl : _ = some _).trans h) args w
    | false =>
    simp only [e165, cond_false] at h
    cases e190 : Nat.beq g 190 with
    | true =>
      have hg : g = 190 := Nat.eq_of_beq_eq_true e190
      subst hg
      exact run_callFunc_extern Tryz.func190 (by kernel_rfl) (by kernel_rfl) (by kernel_rfl) (show _ = _ from (show _ = some _ by kernel_rfl : _ = some _).trans h) args w
    | false =>
    simp only [e190, cond_false] at h
    cases e196 : Nat.beq g 196 with
    | true =>
      have hg : g = 196 := Nat.eq_of_beq_eq_true e196
      subst hg
      exact run_callFunc_extern Tryz.func196 (by kernel_rfl) (by kernel_rfl) (by kernel_rfl) (show _ = _ from (show _ = some _ by kernel_rfl : _ = some _).trans h) args w
    | false =>
    simp only [e196, cond_false] at h
    cases h
  mixed := by kernel_rfl

end Lf

/-
  By program: a call does what its text tells.
-/
set_option maxRecDepth 100000
namespace Lf
open Go Go.Proofs

theorem firebreaklaw05_FltReturns_call {a b text Q h} (hv : zez Tryz.prog a b text Q h) : CallT Tryz.prog zor [(shInt .i64).enc a, (shInt .i64).enc b, (shStr).enc text] (zag) Q h :=
  zac (C := ⟨Tryz.prog, tb, zou⟩) (A := zov) tb_ok Tryz.func4 rfl (Eq.mpr (by kernel_rfl) hv)

theorem zft {bits Q h} (hv : zje Tryz.prog bits Q h) : CallT Tryz.prog zht [(shInt .i64).enc bits] (shStr) Q h :=
  zac (C := ⟨Tryz.prog, tb, zhf1⟩) (A := zhg1) tb_ok Tryz.func11 rfl (Eq.mpr (by kernel_rfl) hv)

theorem zmc {text Q h} (hv : zot Tryz.prog text Q h) : Call2 Tryz.prog zll [(shStr).enc text] (shInt .i64) (shInt .i64) Q h :=
  show CallT Tryz.prog zll [(shStr).enc text] (shRes tb [2, 25]) (fun r => Q r.1 r.2) h from zac (C := ⟨Tryz.prog, tb, zhh1⟩) (A := zhi1) tb_ok Tryz.func13 rfl (Eq.mpr (by kernel_rfl) hv)

theorem zix {Q h} (hv : zhd Tryz.prog  Q h) : CallT Tryz.prog zhc [] (zag) Q h :=
  zac (C := ⟨Tryz.prog, tb, zsv⟩) (A := zsw) tb_ok Tryz.func15 rfl (Eq.mpr (by kernel_rfl) hv)

end Lf

/-
  By program: a call does what its text tells.
-/
set_option maxRecDepth 100000
namespace Lf
open Go Go.Proofs

theorem ziy {bits Q h} (hv : zuv Tryz.prog bits Q h) : CallT Tryz.prog zry [(shInt .i64).enc bits] (shFlt .f64) Q h :=
  zac (C := ⟨Tryz.prog, tb, zhj1⟩) (A := zhk1) tb_ok Tryz.func26 rfl (Eq.mpr (by kernel_rfl) hv)

theorem zxm {u Q h} (hv : zsc Tryz.prog u Q h) : CallT Tryz.prog zvt [(shInt .u64).enc u] (shStr) Q h :=
  zac (C := ⟨Tryz.prog, tb, zcv1⟩) (A := zcw1) tb_ok Tryz.func27 rfl (Eq.mpr (by kernel_rfl) hv)

theorem zst {s sep Q h} (hv : zsd Tryz.prog s sep Q h) : Call3 Tryz.prog zrz [(shStr).enc s, (shStr).enc sep] (shStr) (shStr) (zag) Q h :=
  show CallT Tryz.prog zrz [(shStr).enc s, (shStr).enc sep] (shRes tb [9, 9, 4]) (fun r => Q r.1 r.2.1 r.2.2) h from zac (C := ⟨Tryz.prog, tb, zcx1⟩) (A := zcy1) tb_ok Tryz.func28 rfl (Eq.mpr (by kernel_rfl) hv)

theorem zjo {f fmt prec bitSize Q h} (hv : zdw Tryz.prog f fmt prec bitSize Q h) : CallT Tryz.prog zmf [(shFlt .f64).enc f, (shInt .u8).enc fmt, (shInt .i64).enc prec, (shInt .i64).enc bitSize] (shStr) Q h :=
  zac (C := ⟨Tryz.prog, tb, zti⟩) (A := ztj) tb_ok Tryz.func29 rfl (Eq.mpr (by kernel_rfl) hv)

theorem zrj {s Q h} (hv : zqb Tryz.prog s Q h) : Call2 Tryz.prog zpy [(shStr).enc s] (shInt .i64) (zaj) Q h :=
  show CallT Tryz.prog zpy [(shStr).enc s] (shRes tb [3, 56]) (fun r => Q r.1 r.2) h from zac (C := ⟨Tryz.prog, tb, zaa1⟩) (A := zab1) tb_ok Tryz.func30 rfl (Eq.mpr (by kernel_rfl) hv)

theorem zrk {i Q h} (hv : zqc Tryz.prog i Q h) : CallT Tryz.prog zuj [(shInt .i64).enc i] (shStr) Q h :=
  zac (C := ⟨Tryz.prog, tb, zac1⟩) (A := zad1) tb_ok Tryz.func31 rfl (Eq.mpr (by kernel_rfl) hv)

theorem zfd {s prefix_ Q h} (hv : zgt Tryz.prog s prefix_ Q h) : Call2 Tryz.prog zjc [(shStr).enc s, (shStr).enc prefix_] (shStr) (zag) Q h :=
  show CallT Tryz.prog zjc [(shStr).enc s, (shStr).enc prefix_] (shRes tb [9, 4]) (fun r => Q r.1 r.2) h from zac (C := ⟨Tryz.prog, tb, zux⟩) (A := zuy) tb_ok Tryz.func34 rfl (Eq.mpr (by kernel_rfl) hv)

theorem zlh {s base bitSize Q h} (hv : zfa Tryz.prog s base bitSize Q h) : Call2 Tryz.prog zjd [(shStr).enc s, (shInt .i64).enc base, (shInt .i64).enc bitSize] (shInt .u64) (zaj) Q h :=
  show CallT Tryz.prog zjd [(shStr).enc s, (shInt .i64).enc base, (shInt .i64).enc bitSize] (shRes tb [51, 56]) (fun r => Q r.1 r.2) h from zac (C := ⟨Tryz.prog, tb, zuz⟩) (A := zva) tb_ok Tryz.func35 rfl (Eq.mpr (by kernel_rfl) hv)

theorem zgv {s bitSize Q h} (hv : zcd Tryz.prog s bitSize Q h) : Call2 Tryz.prog zim [(shStr).enc s, (shInt .i64).enc bitSize] (shFlt .f64) (zaj) Q h :=
  show CallT Tryz.prog zim [(shStr).enc s, (shInt .i64).enc bitSize] (shRes tb [48, 56]) (fun r => Q r.1 r.2) h from zac (C := ⟨Tryz.prog, tb, ztz⟩) (A := zua) tb_ok Tryz.func36 rfl (Eq.mpr (by kernel_rfl) hv)

theorem zvb {op b c Q h} (hv : zcu1 Tryz.prog op b c Q h) : Call2 Tryz.prog zvu [(shInt .i64).enc op, (shInt .i64).enc b, (shInt .i64).enc c] (shInt .i64) (shInt .i64) Q h :=
  show CallT Tryz.prog zvu [(shInt .i64).enc op, (shInt .i64).enc b, (shInt .i64).enc c] (shRes tb [2, 25]) (fun r => Q r.1 r.2) h from zac (C := ⟨Tryz.prog, tb, zrx1⟩) (A := zry1) tb_ok Tryz.func41 rfl (Eq.mpr (by kernel_rfl) hv)

end Lf

/-
  By program: a call does what its text tells.
-/
set_option maxRecDepth 100000
namespace Lf
open Go Go.Proofs

theorem zsk {i base Q h} (hv : zng Tryz.prog i base Q h) : CallT Tryz.prog znf [(shInt .u64).enc i, (shInt .i64).enc base] (shStr) Q h :=
  zac (C := ⟨Tryz.prog, tb, zub⟩) (A := zuc) tb_ok Tryz.func53 rfl (Eq.mpr (by kernel_rfl) hv)

theorem zvc {s count Q h} (hv : zss Tryz.prog s count Q h) : CallT Tryz.prog zsr [(shStr).enc s, (shInt .i64).enc count] (shStr) Q h :=
  zac (C := ⟨Tryz.prog, tb, zxk⟩) (A := zxl) tb_ok Tryz.func54 rfl (Eq.mpr (by kernel_rfl) hv)

theorem znb {s sep Q h} (hv : zik Tryz.prog s sep Q h) : Call3 Tryz.prog zfh [(shStr).enc s, (shStr).enc sep] (shStr) (shStr) (zag) Q h :=
  show CallT Tryz.prog zfh [(shStr).enc s, (shStr).enc sep] (shRes tb [9, 9, 4]) (fun r => Q r.1 r.2.1 r.2.2) h from zac (C := ⟨Tryz.prog, tb, zpg⟩) (A := zph) tb_ok Tryz.func55 rfl (Eq.mpr (by kernel_rfl) hv)

theorem zfm {f fmt prec bitSize Q h} (hv : zdx Tryz.prog f fmt prec bitSize Q h) : CallT Tryz.prog zgq [(shFlt .f64).enc f, (shInt .u8).enc fmt, (shInt .i64).enc prec, (shInt .i64).enc bitSize] (shStr) Q h :=
  zac (C := ⟨Tryz.prog, tb, zmg⟩) (A := zmh) tb_ok Tryz.func56 rfl (Eq.mpr (by kernel_rfl) hv)

theorem zpm {s Q h} (hv : zkj Tryz.prog s Q h) : Call2 Tryz.prog zgs [(shStr).enc s] (shInt .i64) (zaj) Q h :=
  show CallT Tryz.prog zgs [(shStr).enc s] (shRes tb [3, 56]) (fun r => Q r.1 r.2) h from zac (C := ⟨Tryz.prog, tb, zse⟩) (A := zsf) tb_ok Tryz.func57 rfl (Eq.mpr (by kernel_rfl) hv)

theorem zpn {i Q h} (hv : zkk Tryz.prog i Q h) : CallT Tryz.prog zkh [(shInt .i64).enc i] (shStr) Q h :=
  zac (C := ⟨Tryz.prog, tb, zsg⟩) (A := zsh) tb_ok Tryz.func59 rfl (Eq.mpr (by kernel_rfl) hv)

theorem zfb {s prefix_ Q h} (hv : zdf Tryz.prog s prefix_ Q h) : Call2 Tryz.prog zdc [(shStr).enc s, (shStr).enc prefix_] (shStr) (zag) Q h :=
  show CallT Tryz.prog zdc [(shStr).enc s, (shStr).enc prefix_] (shRes tb [9, 4]) (fun r => Q r.1 r.2) h from zac (C := ⟨Tryz.prog, tb, zkr⟩) (A := zks) tb_ok Tryz.func62 rfl (Eq.mpr (by kernel_rfl) hv)

theorem zgl {s base bitSize Q h} (hv : zbv Tryz.prog s base bitSize Q h) : Call2 Tryz.prog zeh [(shStr).enc s, (shInt .i64).enc base, (shInt .i64).enc bitSize] (shInt .u64) (zaj) Q h :=
  show CallT Tryz.prog zeh [(shStr).enc s, (shInt .i64).enc base, (shInt .i64).enc bitSize] (shRes tb [51, 56]) (fun r => Q r.1 r.2) h from zac (C := ⟨Tryz.prog, tb, znj⟩) (A := znk) tb_ok Tryz.func63 rfl (Eq.mpr (by kernel_rfl) hv)

theorem zdi {s bitSize Q h} (hv : zcm Tryz.prog s bitSize Q h) : Call2 Tryz.prog zec [(shStr).enc s, (shInt .i64).enc bitSize] (shFlt .f64) (zaj) Q h :=
  show CallT Tryz.prog zec [(shStr).enc s, (shInt .i64).enc bitSize] (shRes tb [48, 56]) (fun r => Q r.1 r.2) h from zac (C := ⟨Tryz.prog, tb, zmt⟩) (A := zmu) tb_ok Tryz.func64 rfl (Eq.mpr (by kernel_rfl) hv)

theorem zkn {f Q h} (hv : zwm Tryz.prog f Q h) : CallT Tryz.prog zoj [(shFlt .f64).enc f] (shInt .i64) Q h :=
  zac (C := ⟨Tryz.prog, tb, zlx1⟩) (A := zly1) tb_ok Tryz.func66 rfl (Eq.mpr (by kernel_rfl) hv)

theorem zae1 {f Q h} (hv : zuw Tryz.prog f Q h) : CallT Tryz.prog zzg [(shFlt .f64).enc f] (shInt .i64) Q h :=
  zac (C := ⟨Tryz.prog, tb, zhl1⟩) (A := zhm1) tb_ok Tryz.func67 rfl (Eq.mpr (by kernel_rfl) hv)

end Lf

/-
  By program: a call does what its text tells.
-/
set_option maxRecDepth 100000
namespace Lf
open Go Go.Proofs

theorem zlb {i base Q h} (hv : zgz Tryz.prog i base Q h) : CallT Tryz.prog zgy [(shInt .u64).enc i, (shInt .i64).enc base] (shStr) Q h :=
  zac (C := ⟨Tryz.prog, tb, zmv⟩) (A := zmw) tb_ok Tryz.func90 rfl (Eq.mpr (by kernel_rfl) hv)

theorem zly {s substr Q h} (hv : zhj Tryz.prog s substr Q h) : CallT Tryz.prog zhh [(shStr).enc s, (shStr).enc substr] (shInt .i64) Q h :=
  zac (C := ⟨Tryz.prog, tb, znl⟩) (A := znm) tb_ok Tryz.func95 rfl (Eq.mpr (by kernel_rfl) hv)

theorem zhk {dst val fmt prec Q h} (hv : zds Tryz.prog dst val fmt prec Q h) : CallT Tryz.prog zis [(shSl).enc dst, (shFlt .f64).enc val, (shInt .u8).enc fmt, (shInt .i64).enc prec] (shSl) Q h :=
  zac (C := ⟨Tryz.prog, tb, zqd⟩) (A := zqe) tb_ok Tryz.func97 rfl (Eq.mpr (by kernel_rfl) hv)

theorem zlz {i base Q h} (hv : zem Tryz.prog i base Q h) : CallT Tryz.prog zhi [(shInt .i64).enc i, (shInt .i64).enc base] (shStr) Q h :=
  zac (C := ⟨Tryz.prog, tb, znn⟩) (A := zno) tb_ok Tryz.func103 rfl (Eq.mpr (by kernel_rfl) hv)

end Lf

/-
  By program: a call does what its text tells.
-/
set_option maxRecDepth 100000
namespace Lf
open Go Go.Proofs

theorem zfc {s prefix_ Q h} (hv : zdg Tryz.prog s prefix_ Q h) : CallT Tryz.prog zfu [(shStr).enc s, (shStr).enc prefix_] (zag) Q h :=
  zac (C := ⟨Tryz.prog, tb, zkt⟩) (A := zku) tb_ok Tryz.func106 rfl (Eq.mpr (by kernel_rfl) hv)

theorem zau {c Q h} (hv : zgh Tryz.prog c Q h) : CallT Tryz.prog zad [(shInt .u8).enc c] (shInt .u8) Q h :=
  zac (C := ⟨Tryz.prog, tb, zrd⟩) (A := zre) tb_ok Tryz.func107 rfl (Eq.mpr (by kernel_rfl) hv)

theorem zjx {s Q h} (hv : zdn Tryz.prog s Q h) : CallT Tryz.prog zdm [(shStr).enc s] (zag) Q h :=
  zac (C := ⟨Tryz.prog, tb, zlo⟩) (A := zlp) tb_ok Tryz.func108 rfl (Eq.mpr (by kernel_rfl) hv)

theorem zca {s bitSize Q h} (hv : zbo Tryz.prog s bitSize Q h) : Call3 Tryz.prog zcn [(shStr).enc s, (shInt .i64).enc bitSize] (shFlt .f64) (shInt .i64) (zaj) Q h :=
  show CallT Tryz.prog zcn [(shStr).enc s, (shInt .i64).enc bitSize] (shRes tb [48, 3, 56]) (fun r => Q r.1 r.2.1 r.2.2) h from zac (C := ⟨Tryz.prog, tb, zjf⟩) (A := zjg) tb_ok Tryz.func109 rfl (Eq.mpr (by kernel_rfl) hv)

theorem zpa {i Q h} (hv : zgi Tryz.prog i Q h) : CallT Tryz.prog zge [(shInt .i64).enc i] (shStr) Q h :=
  zac (C := ⟨Tryz.prog, tb, zrf⟩) (A := zrg) tb_ok Tryz.func124 rfl (Eq.mpr (by kernel_rfl) hv)

theorem zgm {d Q h} (hv : zen Tryz.prog d Q h) : CallT Tryz.prog zbu [(shInt .u64).enc d] (shInt .i64) Q h :=
  zac (C := ⟨Tryz.prog, tb, znp⟩) (A := znq) tb_ok Tryz.func125 rfl (Eq.mpr (by kernel_rfl) hv)

theorem zff {a u Q h} (hv : zdo Tryz.prog a u Q h) : Call0 Tryz.prog zbf [(shSl).enc a, (shInt .u64).enc u] (Q) h :=
  show CallT Tryz.prog zbf [(shSl).enc a, (shInt .u64).enc u] (shRes tb []) (fun _ => Q) h from zac (C := ⟨Tryz.prog, tb, zlq⟩) (A := zlr) tb_ok Tryz.func126 rfl (Eq.mpr (by kernel_rfl) hv)

theorem zlc {dst u base neg append_ Q h} (hv : zed Tryz.prog dst u base neg append_ Q h) : Call2 Tryz.prog zck [(shSl).enc dst, (shInt .u64).enc u, (shInt .i64).enc base, (zag).enc neg, (zag).enc append_] (shSl) (shStr) Q h :=
  show CallT Tryz.prog zck [(shSl).enc dst, (shInt .u64).enc u, (shInt .i64).enc base, (zag).enc neg, (zag).enc append_] (shRes tb [74, 9]) (fun r => Q r.1 r.2) h from zac (C := ⟨Tryz.prog, tb, zmx⟩) (A := zmy) tb_ok Tryz.func127 rfl (Eq.mpr (by kernel_rfl) hv)

theorem zfy {x y Q h} (hv : zlm Tryz.prog x y Q h) : Call2 Tryz.prog zie [(shInt .u64).enc x, (shInt .u64).enc y] (shInt .u64) (shInt .u64) Q h :=
  show CallT Tryz.prog zie [(shInt .u64).enc x, (shInt .u64).enc y] (shRes tb [51, 51]) (fun r => Q r.1 r.2) h from zac (C := ⟨Tryz.prog, tb, zwn⟩) (A := zwo) tb_ok Tryz.func129 rfl (Eq.mpr (by kernel_rfl) hv)

end Lf

/-
  By program: a call does what its text tells.
-/
set_option maxRecDepth 100000
namespace Lf
open Go Go.Proofs

theorem zjj {s c Q h} (hv : zfw Tryz.prog s c Q h) : CallT Tryz.prog zdd [(shStr).enc s, (shInt .u8).enc c] (shInt .i64) Q h :=
  zac (C := ⟨Tryz.prog, tb, zkv⟩) (A := zkw) tb_ok Tryz.func131 rfl (Eq.mpr (by kernel_rfl) hv)

theorem zhl {dst neg s dp nd prec fmt shortest Q h} (hv : zcg Tryz.prog dst neg s dp nd prec fmt shortest Q h) : CallT Tryz.prog zcf [(shSl).enc dst, (zag).enc neg, (shSl).enc s, (shInt .i64).enc dp, (shInt .i64).enc nd, (shInt .i64).enc prec, (shInt .u8).enc fmt, (zag).enc shortest] (shSl) Q h :=
  zac (C := ⟨Tryz.prog, tb, zqf⟩) (A := zqg) tb_ok Tryz.func139 rfl (Eq.mpr (by kernel_rfl) hv)

theorem zfz {x Q h} (hv : zln Tryz.prog x Q h) : CallT Tryz.prog zgf [(shInt .u64).enc x] (shInt .i64) Q h :=
  zac (C := ⟨Tryz.prog, tb, zwp⟩) (A := zwq) tb_ok Tryz.func140 rfl (Eq.mpr (by kernel_rfl) hv)

theorem zma {s d p nd Q h} (hv : zeo Tryz.prog s d p nd Q h) : Call2 Tryz.prog zcq [(shSl).enc s, (shInt .u64).enc d, (shInt .i64).enc p, (shInt .i64).enc nd] (shInt .i64) (shInt .i64) Q h :=
  show CallT Tryz.prog zcq [(shSl).enc s, (shInt .u64).enc d, (shInt .i64).enc p, (shInt .i64).enc nd] (shRes tb [3, 3]) (fun r => Q r.1 r.2) h from zac (C := ⟨Tryz.prog, tb, znr⟩) (A := zns) tb_ok Tryz.func142 rfl (Eq.mpr (by kernel_rfl) hv)

theorem zdp {x Q h} (hv : zep Tryz.prog x Q h) : CallT Tryz.prog zba [(shInt .i64).enc x] (shInt .i64) Q h :=
  zac (C := ⟨Tryz.prog, tb, znt⟩) (A := znu) tb_ok Tryz.func143 rfl (Eq.mpr (by kernel_rfl) hv)

theorem zbp {a k Q h} (hv : zar Tryz.prog a k Q h) : Call0 Tryz.prog zaq [(shPtr).enc a, (shInt .i64).enc k] (Q) h :=
  show CallT Tryz.prog zaq [(shPtr).enc a, (shInt .i64).enc k] (shRes tb []) (fun _ => Q) h from zac (C := ⟨Tryz.prog, tb, zkx⟩) (A := zky) tb_ok Tryz.func146 rfl (Eq.mpr (by kernel_rfl) hv)

theorem zho {m e Q h} (hv : zce Tryz.prog m e Q h) : Call2 Tryz.prog zcc [(shInt .u64).enc m, (shInt .i64).enc e] (shInt .u64) (shInt .i64) Q h :=
  show CallT Tryz.prog zcc [(shInt .u64).enc m, (shInt .i64).enc e] (shRes tb [51, 3]) (fun r => Q r.1 r.2) h from zac (C := ⟨Tryz.prog, tb, zio⟩) (A := zip) tb_ok Tryz.func148 rfl (Eq.mpr (by kernel_rfl) hv)

theorem zet {s Q h} (hv : zal Tryz.prog s Q h) : Call3 Tryz.prog zfp [(shStr).enc s] (shFlt .f64) (shInt .i64) (zaj) Q h :=
  show CallT Tryz.prog zfp [(shStr).enc s] (shRes tb [48, 3, 56]) (fun r => Q r.1 r.2.1 r.2.2) h from zac (C := ⟨Tryz.prog, tb, zqh⟩) (A := zqi) tb_ok Tryz.func158 rfl (Eq.mpr (by kernel_rfl) hv)

theorem zdq {b Q h} (hv : zeq Tryz.prog b Q h) : CallT Tryz.prog zei [(zag).enc b] (shInt .i64) Q h :=
  zac (C := ⟨Tryz.prog, tb, znv⟩) (A := znw) tb_ok Tryz.func161 rfl (Eq.mpr (by kernel_rfl) hv)

theorem zjy {x Q h} (hv : zgj Tryz.prog x Q h) : CallT Tryz.prog zgg [(shInt .i64).enc x] (zag) Q h :=
  zac (C := ⟨Tryz.prog, tb, zls⟩) (A := zlt) tb_ok Tryz.func162 rfl (Eq.mpr (by kernel_rfl) hv)

theorem zod {x Q h} (hv : zfr Tryz.prog x Q h) : CallT Tryz.prog zit [(shInt .u64).enc x] (shInt .i64) Q h :=
  zac (C := ⟨Tryz.prog, tb, zqj⟩) (A := zqk) tb_ok Tryz.func163 rfl (Eq.mpr (by kernel_rfl) hv)

end Lf

/-
  By program: a call does what its text tells.
-/
set_option maxRecDepth 100000
namespace Lf
open Go Go.Proofs

theorem zoe {e Q h} (hv : zfs Tryz.prog e Q h) : CallT Tryz.prog ziu [(shInt .i64).enc e] (shInt .i64) Q h :=
  zac (C := ⟨Tryz.prog, tb, zql⟩) (A := zqm) tb_ok Tryz.func169 rfl (Eq.mpr (by kernel_rfl) hv)

theorem zdz {pre e p lp Q h} (hv : zbw Tryz.prog pre e p lp Q h) : Call0 Tryz.prog zcz [(shPtr).enc pre, (shInt .i64).enc e, (shInt .i64).enc p, (shInt .i64).enc lp] (Q) h :=
  show CallT Tryz.prog zcz [(shPtr).enc pre, (shInt .i64).enc e, (shInt .i64).enc p, (shInt .i64).enc lp] (shRes tb []) (fun _ => Q) h from zac (C := ⟨Tryz.prog, tb, zow⟩) (A := zox) tb_ok Tryz.func170 rfl (Eq.mpr (by kernel_rfl) hv)

theorem zdr {x Q h} (hv : zer Tryz.prog x Q h) : CallT Tryz.prog zej [(shInt .i64).enc x] (shInt .i64) Q h :=
  zac (C := ⟨Tryz.prog, tb, znx⟩) (A := zny) tb_ok Tryz.func171 rfl (Eq.mpr (by kernel_rfl) hv)

theorem zeu {x c Q h} (hv : zch Tryz.prog x c Q h) : CallT Tryz.prog zbs [(shInt .u64).enc x, (shPtr).enc c] (shInt .u64) Q h :=
  zac (C := ⟨Tryz.prog, tb, zqn⟩) (A := zqo) tb_ok Tryz.func172 rfl (Eq.mpr (by kernel_rfl) hv)

theorem zef {u x Q h} (hv : zcv Tryz.prog u x Q h) : CallT Tryz.prog zct [(shInt .u64).enc u, (shInt .i64).enc x] (shInt .u64) Q h :=
  zac (C := ⟨Tryz.prog, tb, zjr⟩) (A := zjs) tb_ok Tryz.func173 rfl (Eq.mpr (by kernel_rfl) hv)

theorem ziz {u Q h} (hv : zda Tryz.prog u Q h) : CallT Tryz.prog zfl [(shInt .u64).enc u] (shInt .u64) Q h :=
  zac (C := ⟨Tryz.prog, tb, zkl⟩) (A := zkm) tb_ok Tryz.func174 rfl (Eq.mpr (by kernel_rfl) hv)

theorem ziq {u Q h} (hv : zcw Tryz.prog u Q h) : CallT Tryz.prog zfe [(shInt .u64).enc u] (shInt .u64) Q h :=
  zac (C := ⟨Tryz.prog, tb, zjt⟩) (A := zju) tb_ok Tryz.func175 rfl (Eq.mpr (by kernel_rfl) hv)

theorem zbd {u Q h} (hv : zcx Tryz.prog u Q h) : CallT Tryz.prog zcu [(shInt .u64).enc u] (shInt .u64) Q h :=
  zac (C := ⟨Tryz.prog, tb, zjv⟩) (A := zjw) tb_ok Tryz.func176 rfl (Eq.mpr (by kernel_rfl) hv)

theorem zhx {x Q h} (hv : zgk Tryz.prog x Q h) : CallT Tryz.prog zjn [(shInt .u64).enc x] (shInt .u64) Q h :=
  zac (C := ⟨Tryz.prog, tb, zrh⟩) (A := zri) tb_ok Tryz.func177 rfl (Eq.mpr (by kernel_rfl) hv)

theorem zil {a Q h} (hv : zgu Tryz.prog a Q h) : Call0 Tryz.prog zek [(shPtr).enc a] (Q) h :=
  show CallT Tryz.prog zek [(shPtr).enc a] (shRes tb []) (fun _ => Q) h from zac (C := ⟨Tryz.prog, tb, zsi⟩) (A := zsj) tb_ok Tryz.func179 rfl (Eq.mpr (by kernel_rfl) hv)

theorem zmb {a k Q h} (hv : zes Tryz.prog a k Q h) : Call0 Tryz.prog zcr [(shPtr).enc a, (shInt .u64).enc k] (Q) h :=
  show CallT Tryz.prog zcr [(shPtr).enc a, (shInt .u64).enc k] (shRes tb []) (fun _ => Q) h from zac (C := ⟨Tryz.prog, tb, znz⟩) (A := zoa) tb_ok Tryz.func180 rfl (Eq.mpr (by kernel_rfl) hv)

theorem zdj {a k Q h} (hv : zee Tryz.prog a k Q h) : Call0 Tryz.prog zcl [(shPtr).enc a, (shInt .u64).enc k] (Q) h :=
  show CallT Tryz.prog zcl [(shPtr).enc a, (shInt .u64).enc k] (shRes tb []) (fun _ => Q) h from zac (C := ⟨Tryz.prog, tb, zmz⟩) (A := zna) tb_ok Tryz.func181 rfl (Eq.mpr (by kernel_rfl) hv)

theorem zjk {a nd Q h} (hv : zdh Tryz.prog a nd Q h) : CallT Tryz.prog zfv [(shPtr).enc a, (shInt .i64).enc nd] (zag) Q h :=
  zac (C := ⟨Tryz.prog, tb, zkz⟩) (A := zla) tb_ok Tryz.func182 rfl (Eq.mpr (by kernel_rfl) hv)

theorem zbr {s Q h} (hv : zay Tryz.prog s Q h) : Call3 Tryz.prog zfi [(shStr).enc s] (shFlt .f64) (shInt .i64) (zag) Q h :=
  show CallT Tryz.prog zfi [(shStr).enc s] (shRes tb [48, 3, 4]) (fun r => Q r.1 r.2.1 r.2.2) h from zac (C := ⟨Tryz.prog, tb, zpi⟩) (A := zpj) tb_ok Tryz.func186 rfl (Eq.mpr (by kernel_rfl) hv)

theorem zcb {s Q h} (hv : zaw Tryz.prog s Q h) : Call7 Tryz.prog zel [(shStr).enc s] (shInt .u64) (shInt .i64) (zag) (zag) (zag) (shInt .i64) (zag) Q h :=
  show CallT Tryz.prog zel [(shStr).enc s] (shRes tb [51, 3, 4, 4, 4, 3, 4]) (fun r => Q r.1 r.2.1 r.2.2.1 r.2.2.2.1 r.2.2.2.2.1 r.2.2.2.2.2.1 r.2.2.2.2.2.2) h from zac (C := ⟨Tryz.prog, tb, zob⟩) (A := zoc) tb_ok Tryz.func187 rfl (Eq.mpr (by kernel_rfl) hv)

theorem znc {s flt mantissa exp neg trunc Q h} (hv : zfk Tryz.prog s flt mantissa exp neg trunc Q h) : Call2 Tryz.prog zfj [(shStr).enc s, (shPtr).enc flt, (shInt .u64).enc mantissa, (shInt .i64).enc exp, (zag).enc neg, (zag).enc trunc] (shFlt .f64) (zaj) Q h :=
  show CallT Tryz.prog zfj [(shStr).enc s, (shPtr).enc flt, (shInt .u64).enc mantissa, (shInt .i64).enc exp, (zag).enc neg, (zag).enc trunc] (shRes tb [48, 56]) (fun r => Q r.1 r.2) h from zac (C := ⟨Tryz.prog, tb, zpk⟩) (A := zpl) tb_ok Tryz.func188 rfl (Eq.mpr (by kernel_rfl) hv)

theorem zko {b s Q h} (hv : zdy Tryz.prog b s Q h) : CallT Tryz.prog zdu [(shPtr).enc b, (shStr).enc s] (zag) Q h :=
  zac (C := ⟨Tryz.prog, tb, zmi⟩) (A := zmj) tb_ok Tryz.func193 rfl (Eq.mpr (by kernel_rfl) hv)

theorem zhy {d flt Q h} (hv : zci Tryz.prog d flt Q h) : Call2 Tryz.prog zbi [(shPtr).enc d, (shPtr).enc flt] (shInt .u64) (zag) Q h :=
  show CallT Tryz.prog zbi [(shPtr).enc d, (shPtr).enc flt] (shRes tb [51, 4]) (fun r => Q r.1 r.2) h from zac (C := ⟨Tryz.prog, tb, ziv⟩) (A := ziw) tb_ok Tryz.func194 rfl (Eq.mpr (by kernel_rfl) hv)

theorem zam {b Q h} (hv : zbg Tryz.prog b Q h) : CallT Tryz.prog zby [(zag).enc b] (shInt .u64) Q h :=
  zac (C := ⟨Tryz.prog, tb, zlu⟩) (A := zlv) tb_ok Tryz.func195 rfl (Eq.mpr (by kernel_rfl) hv)

theorem zdb {mantissa exp neg Q h} (hv : zat Tryz.prog mantissa exp neg Q h) : Call2 Tryz.prog zdv [(shInt .u64).enc mantissa, (shInt .i64).enc exp, (zag).enc neg] (shFlt .f64) (zag) Q h :=
  show CallT Tryz.prog zdv [(shInt .u64).enc mantissa, (shInt .i64).enc exp, (zag).enc neg] (shRes tb [48, 4]) (fun r => Q r.1 r.2) h from zac (C := ⟨Tryz.prog, tb, zmk⟩) (A := zml) tb_ok Tryz.func197 rfl (Eq.mpr (by kernel_rfl) hv)

end Lf

/-
  By program: a call does what its text tells.
-/
set_option maxRecDepth 100000
namespace Lf
open Go Go.Proofs

theorem zcy {d p sign Q h} (hv : zbh Tryz.prog d p sign Q h) : Call2 Tryz.prog zbz [(shInt .u64).enc d, (shInt .i64).enc p, (shInt .u64).enc sign] (shFlt .f64) (zaj) Q h :=
  show CallT Tryz.prog zbz [(shInt .u64).enc d, (shInt .i64).enc p, (shInt .u64).enc sign] (shRes tb [48, 56]) (fun r => Q r.1 r.2) h from zac (C := ⟨Tryz.prog, tb, zlw⟩) (A := zlx) tb_ok Tryz.func198 rfl (Eq.mpr (by kernel_rfl) hv)

theorem zmm {x Q h} (hv : zhw Tryz.prog x Q h) : CallT Tryz.prog zhv [(shInt .u64).enc x] (shInt .i64) Q h :=
  zac (C := ⟨Tryz.prog, tb, zoy⟩) (A := zoz) tb_ok Tryz.func200 rfl (Eq.mpr (by kernel_rfl) hv)

theorem zif {b s Q h} (hv : zco Tryz.prog b s Q h) : CallT Tryz.prog zey [(shSl).enc b, (shStr).enc s] (zag) Q h :=
  zac (C := ⟨Tryz.prog, tb, zjh⟩) (A := zji) tb_ok Tryz.func202 rfl (Eq.mpr (by kernel_rfl) hv)

theorem zas {s prefix_ Q h} (hv : zah Tryz.prog s prefix_ Q h) : CallT Tryz.prog zbk [(shStr).enc s, (shStr).enc prefix_] (shInt .i64) Q h :=
  zac (C := ⟨Tryz.prog, tb, zgn⟩) (A := zgo) tb_ok Tryz.func203 rfl (Eq.mpr (by kernel_rfl) hv)

theorem zja {sign Q h} (hv : zhe Tryz.prog sign Q h) : CallT Tryz.prog zle [(shInt .i64).enc sign] (shFlt .f64) Q h :=
  zac (C := ⟨Tryz.prog, tb, zsx⟩) (A := zsy) tb_ok Tryz.func204 rfl (Eq.mpr (by kernel_rfl) hv)

theorem zqr {Q h} (hv : zlg Tryz.prog  Q h) : CallT Tryz.prog zlf [] (shFlt .f64) Q h :=
  zac (C := ⟨Tryz.prog, tb, zsz⟩) (A := zta) tb_ok Tryz.func205 rfl (Eq.mpr (by kernel_rfl) hv)

theorem zgp {a Q h} (hv : zbt Tryz.prog a Q h) : CallT Tryz.prog zdk [(shPtr).enc a] (shInt .u64) Q h :=
  zac (C := ⟨Tryz.prog, tb, zhf⟩) (A := zhg) tb_ok Tryz.func207 rfl (Eq.mpr (by kernel_rfl) hv)

theorem zev {m e Q h} (hv : zcj Tryz.prog m e Q h) : Call2 Tryz.prog zfq [(shInt .u64).enc m, (shInt .i64).enc e] (shFlt .f64) (zaj) Q h :=
  show CallT Tryz.prog zfq [(shInt .u64).enc m, (shInt .i64).enc e] (shRes tb [48, 56]) (fun r => Q r.1 r.2) h from zac (C := ⟨Tryz.prog, tb, zqp⟩) (A := zqq) tb_ok Tryz.func208 rfl (Eq.mpr (by kernel_rfl) hv)

end Lf



/-
  Whole numbers and floats: what an instruction makes of two.
-/
namespace Lf
open Go Go.Proofs

abbrev f64 : FloatKind := .f64

def oneP (b : Bool) : Int := if b then 1 else 0

def nanP : Int := 9221120237041090560
def isNaN (f : Nat) : Bool := f64.format.order f f != some .eq
def bitsP (f : Nat) : Int := if isNaN f then nanP else IntKind.wrap .i64 (f : Int)
def resP : Option Nat → Int
  | some r => bitsP r
  | none => nanP
def zjb (b : Int) : Nat := (IntKind.wrap .u64 b).toNat
def zpa1 (f : Nat) : Int :=
  if isNaN f then 0
  else if f64.format.order f 4890909195324358656 = some .gt ∨ f64.format.order f 4890909195324358656 = some .eq then 9223372036854775807
  else if f64.format.order f 14114281232179134464 = some .lt then -9223372036854775808
  else ((f64.decode f).toInt .zero).getD 0

def fltP (op b c : Int) : Int :=
  if op = 15 then resP (f64.format.add (zjb b) (zjb c))
  else if op = 16 then resP (f64.format.sub (zjb b) (zjb c))
  else if op = 17 then resP (f64.format.mul (zjb b) (zjb c))
  else if op = 18 then resP (f64.format.div (zjb b) (zjb c))
  else if op = 19 then oneP (f64.format.order (zjb b) (zjb c) == some .lt)
  else if op = 20 then bitsP (f64.nearest b)
  else if op = 21 then zpa1 (zjb b)
  else 0

section
variable {P : Program} {h : Hp}

theorem zuq1 (x y t : Nat) : isNaN ((Question.nanBits .f64 x y).cut t) = true := by
  have key : ∀ s z : Nat, s < 2 → z < 2 ^ 52 - 1 → isNaN (s * 2 ^ 63 + 0x7ff0000000000000 + 1 + z) = true := by
    intro s z hs hz
    have e1 : (s * 2 ^ 63 + 0x7ff0000000000000 + 1 + z) % Ieee.double.signWeight = 0x7ff0000000000000 + 1 + z := by
      show (s * 2 ^ 63 + 0x7ff0000000000000 + 1 + z) % 9223372036854775808 = _
      omega
    have e2 : Ieee.double.read (s * 2 ^ 63 + 0x7ff0000000000000 + 1 + z) = .nan ((s * 2 ^ 63 + 0x7ff0000000000000 + 1 + z) / Ieee.double.signWeight % 2 == 1) (1 + z) := by
      unfold Ieee.Format.read
      rw [e1]
      have b1 : Ieee.double.binade = 4503599627370496 := rfl
      have b2 : Ieee.double.infRung = 9218868437227405312 := rfl
      dsimp only
      rw [b1, b2, if_neg (by omega), if_neg (by omega), if_neg (by omega), show 0x7ff0000000000000 + 1 + z - 9218868437227405312 = 1 + z by omega]
    unfold isNaN
    show ((Ieee.double.read _).order (Ieee.double.read _) != some .eq) = true
    rw [e2]
    rfl
  have := key (t % 2) ((t / 2) % (2 ^ 52 - 1)) (by omega) (Nat.mod_lt _ (by decide))
  exact this
end
end Lf

/-
  Floats: which is below, whole numbers, and all instructions.
-/
namespace Lf
open Ieee Go

/-- Where a float stands among all. -/
def rzD (w : Nat) : Int := if negD w then -((w % 9223372036854775808 : Nat) : Int) else ((w % 9223372036854775808 : Nat) : Int)
def valD (r : Nat) : Nat := zaa r * 2 ^ (zab r + 1074).toNat

theorem zev1 {r s : Nat} (h : r < s) : valD r < valD s := by
  unfold valD zaa zab
  by_cases h1 : s < 4503599627370496
  · rw [if_pos (show r < 4503599627370496 by omega), if_pos (show r < 4503599627370496 by omega), if_pos h1, if_pos h1]
    simpa using h
  · rw [if_neg h1, if_neg h1]
    have e2 : (((s / 4503599627370496 : Nat) : Int) - 1075 + 1074).toNat = s / 4503599627370496 - 1 := by omega
    rw [e2]
    by_cases h2 : r < 4503599627370496
    · rw [if_pos h2, if_pos h2]
      have := Nat.two_pow_pos (s / 4503599627370496 - 1)
      have h3 : (s % 4503599627370496 + 4503599627370496) * 1 ≤ (s % 4503599627370496 + 4503599627370496) * 2 ^ (s / 4503599627370496 - 1) := Nat.mul_le_mul_left _ this
      show r * 1 < _
      omega
    · rw [if_neg h2, if_neg h2, show (((r / 4503599627370496 : Nat) : Int) - 1075 + 1074).toNat = r / 4503599627370496 - 1 by omega]
      by_cases h3 : r / 4503599627370496 = s / 4503599627370496
      · rw [h3]
        exact Nat.mul_lt_mul_of_pos_right (by omega) (Nat.two_pow_pos _)
      · have h4 : r / 4503599627370496 - 1 + 1 ≤ s / 4503599627370496 - 1 := by omega
        have h5 : 2 ^ (r / 4503599627370496 - 1 + 1) ≤ 2 ^ (s / 4503599627370496 - 1) := Nat.pow_le_pow_right (by decide) h4
        rw [Nat.pow_succ] at h5
        have h6 : (r % 4503599627370496 + 4503599627370496) * 2 ^ (r / 4503599627370496 - 1) < (2 * 4503599627370496) * 2 ^ (r / 4503599627370496 - 1) := Nat.mul_lt_mul_of_pos_right (by omega) (Nat.two_pow_pos _)
        have h7 : 4503599627370496 * (2 ^ (r / 4503599627370496 - 1) * 2) ≤ (s % 4503599627370496 + 4503599627370496) * 2 ^ (s / 4503599627370496 - 1) := Nat.mul_le_mul (by omega) h5
        have h8 : (2 * 4503599627370496) * 2 ^ (r / 4503599627370496 - 1) = 4503599627370496 * (2 ^ (r / 4503599627370496 - 1) * 2) := by omega
        omega

theorem cmpZ {x y X Y : Int} (h1 : x < y ↔ X < Y) (h2 : x = y ↔ X = Y) : compare x y = compare X Y := by
  show compareOfLessAndEq x y = compareOfLessAndEq X Y
  unfold compareOfLessAndEq
  simp only [h1, h2]

theorem zsl {a b : Nat} (ha : a < 18446744073709551616) (hb : b < 18446744073709551616) (na : ¬ 9218868437227405312 < a % 9223372036854775808) (nb : ¬ 9218868437227405312 < b % 9223372036854775808) : dbl.order a b = some (compare (rzD a) (rzD b)) := by
  unfold Format.order
  have lt_ : ∀ {x y : Int}, x < y → compare x y = .lt := fun {x y} h => by show compareOfLessAndEq x y = _; unfold compareOfLessAndEq; rw [if_pos h]
  have gt_ : ∀ {x y : Int}, y < x → compare x y = .gt := fun {x y} h => by show compareOfLessAndEq x y = _; unfold compareOfLessAndEq; rw [if_neg (by omega), if_neg (by omega)]
  have eq_ : ∀ {x y : Int}, x = y → compare x y = .eq := fun {x y} h => by show compareOfLessAndEq x y = _; unfold compareOfLessAndEq; rw [if_neg (by omega), if_pos h]
  by_cases ia : a % 9223372036854775808 = 9218868437227405312
  · rw [zni ha ia]
    by_cases ib : b % 9223372036854775808 = 9218868437227405312
    · rw [zni hb ib]
      unfold rzD
      rw [ia, ib]
      cases negD a <;> cases negD b <;> rfl
    · rw [znh hb (by omega)]
      unfold rzD
      rw [ia]
      have e1 : (Datum.infinity (negD a)).order (.number (negD b) (zaa (b % 9223372036854775808)) (zab (b % 9223372036854775808))) = some (if negD a then .lt else .gt) := rfl
      rw [e1]
      cases negD a
      · rw [gt_ (by cases negD b <;> simp <;> omega)]; rfl
      · rw [lt_ (by cases negD b <;> simp <;> omega)]; rfl
  · rw [znh ha (by omega)]
    by_cases ib : b % 9223372036854775808 = 9218868437227405312
    · rw [zni hb ib]
      unfold rzD
      rw [ib]
      have e1 : (Datum.number (negD a) (zaa (a % 9223372036854775808)) (zab (a % 9223372036854775808))).order (.infinity (negD b)) = some (if negD b then .gt else .lt) := rfl
      rw [e1]
      cases negD b
      · rw [lt_ (by cases negD a <;> simp <;> omega)]; rfl
      · rw [gt_ (by cases negD a <;> simp <;> omega)]; rfl
    · rw [znh hb (by omega)]
      have e1 : ∀ {s m i t n j}, (Datum.number s m i).order (.number t n j) = some (compare (signed s m (i - min i j).toNat) (signed t n (j - min i j).toNat)) := rfl
      rw [e1, zes1, zes1]
      unfold rzD
      have hva : zaa (a % 9223372036854775808) * 2 ^ (zab (a % 9223372036854775808) - min (zab (a % 9223372036854775808)) (zab (b % 9223372036854775808))).toNat * 2 ^ (min (zab (a % 9223372036854775808)) (zab (b % 9223372036854775808)) + 1074).toNat = valD (a % 9223372036854775808) := by
        unfold valD
        have h1 : -1074 ≤ zab (a % 9223372036854775808) := by unfold zab; split <;> omega
        have h2 : -1074 ≤ zab (b % 9223372036854775808) := by unfold zab; split <;> omega
        rw [Nat.mul_assoc, ← Nat.pow_add]
        congr 2
        omega
      have hvb : zaa (b % 9223372036854775808) * 2 ^ (zab (b % 9223372036854775808) - min (zab (a % 9223372036854775808)) (zab (b % 9223372036854775808))).toNat * 2 ^ (min (zab (a % 9223372036854775808)) (zab (b % 9223372036854775808)) + 1074).toNat = valD (b % 9223372036854775808) := by
        unfold valD
        have h1 : -1074 ≤ zab (a % 9223372036854775808) := by unfold zab; split <;> omega
        have h2 : -1074 ≤ zab (b % 9223372036854775808) := by unfold zab; split <;> omega
        rw [Nat.mul_assoc, ← Nat.pow_add]
        congr 2
        omega
      have hP := Nat.two_pow_pos (min (zab (a % 9223372036854775808)) (zab (b % 9223372036854775808)) + 1074).toNat
      have hz : ∀ {r x P : Nat}, x * P = valD r → 0 < P → (x = 0 ↔ r = 0) := fun {r x P} h hp => by
        constructor
        · intro e
          subst e
          rw [Nat.zero_mul] at h
          refine Classical.byContradiction fun hr => ?_
          have := zev1 (r := 0) (s := r) (by omega)
          omega
        · intro e
          subst e
          have : valD 0 = 0 := by unfold valD zaa; simp
          rw [this] at h
          rcases Nat.mul_eq_zero.1 h with h | h <;> omega
      generalize 2 ^ (min (zab (a % 9223372036854775808)) (zab (b % 9223372036854775808)) + 1074).toNat = P at *
      generalize zaa (a % 9223372036854775808) * 2 ^ (zab (a % 9223372036854775808) - min (zab (a % 9223372036854775808)) (zab (b % 9223372036854775808))).toNat = x at *
      generalize zaa (b % 9223372036854775808) * 2 ^ (zab (b % 9223372036854775808) - min (zab (a % 9223372036854775808)) (zab (b % 9223372036854775808))).toNat = y at *
      generalize a % 9223372036854775808 = r at *
      generalize b % 9223372036854775808 = s at *
      have hlt : ∀ {r s x y : Nat}, x * P = valD r → y * P = valD s → (x < y ↔ r < s) := fun {r s x y} h1 h2 => by
        constructor
        · intro h
          have h3 : x * P < y * P := Nat.mul_lt_mul_of_pos_right h hP
          rw [h1, h2] at h3
          rcases Nat.lt_trichotomy r s with h4 | h4 | h4
          · exact h4
          · subst h4; omega
          · have := zev1 h4; omega
        · intro h
          have h3 := zev1 h
          rw [← h1, ← h2] at h3
          exact Nat.lt_of_mul_lt_mul_right h3
      have l1 := hlt hva hvb
      have l2 := hlt hvb hva
      have z1 := hz hva hP
      have z2 := hz hvb hP
      congr 1
      refine cmpZ ?_ ?_ <;> cases negD a <;> cases negD b <;> simp only [Bool.false_eq_true, if_true, if_false, reduceIte] <;> omega

theorem zcz1 {w : Nat} (h : w < 18446744073709551616) : isNaN w = zkg w := by
  unfold isNaN zkg
  show (dbl.order w w != some .eq) = _
  by_cases hn : 9218868437227405312 < w % 9223372036854775808
  · rw [decide_eq_true hn]
    unfold Format.order
    rw [zvr h hn]
    rfl
  · rw [zsl h h hn hn, decide_eq_false hn, show compare (rzD w) (rzD w) = .eq by show compareOfLessAndEq _ _ = _; unfold compareOfLessAndEq; rw [if_neg (by omega), if_pos rfl]]
    rfl

def zjw1 (n : Int) : Nat := zgr (decide (n < 0)) n.natAbs 0 false

theorem zrz1 {n : Int} : f64.nearest n = zjw1 n := by
  show dbl.write (.number (decide (n < 0)) n.natAbs 0) = _
  rw [ztf]; rfl

theorem zpb1 {b : Int} : zjb b < 18446744073709551616 := by
  unfold zjb IntKind.wrap
  simp [IntKind.signed, IntKind.bits]
  omega

end Lf

/-
  Operations of the library's own: cleared cells, slices that do not meet, fields of elements.
-/
namespace Lf
open Go

section
variable {P : Program} {h : Hp}

theorem semW_bind' {α β : Type} (s : Sem α) (f : α → Sem β) {K : β → Hp → Prop} : semW P (s >>= f) K h ↔ semW P s (fun a h => semW P (f a) K h) h := zyh s f

theorem zpc1 {t : Nat} {i : TypeInfo} (hi : P.info? t = some i) {K : Nat → Hp → Prop} (hk : K i.size h) : semW P (sizeOf t) K h := by
  show semW P (Sem.bind (match P.info? t with
    | some d => Sem.pure d
    | none => _) _) K h
  rw [hi]
  exact hk

theorem zsm {a : Addr} {o : Obj} (e : h a.block = some o) {K : Bool → Hp → Prop} (hk : K (hfroz h a) h) : semW P (frozen a) K h := ⟨⟨o, e⟩, hk⟩

theorem ztx {r : Nat} {o : Obj} (e : h r = some o) {K : Option (TypeId × Nat) → Hp → Prop} (hk : K (zge1 o) h) : semW P (shape r) K h := ⟨o, e, hk⟩

theorem zda1 {b : Nat} {cs : List Value} (k : Blk h b cs) (off : Nat) : hfroz h ⟨b, off, none⟩ = false := by
  obtain ⟨t, e⟩ := k
  unfold hfroz
  simp [e]

theorem zzi {b off : Nat} {cs : List Value} (k : Blk h b cs) {K : Unit → Hp → Prop} (hk : K () h) : semW P (noView ⟨b, off, none⟩) K h := by
  obtain ⟨t, e⟩ := k
  unfold noView viewAt
  refine (semW_bind' _ _).2 ((semW_bind' _ _).2 (ztx (r := b) e ?_))
  exact hk

theorem zuk {b off : Nat} {cs : List Value} (k : Blk h b cs) {K : Bool → Hp → Prop} (hk : K false h) : semW P (stringish ⟨b, off, none⟩) K h := by
  have k0 := k
  obtain ⟨t, e⟩ := k
  unfold stringish
  refine (semW_bind' _ _).2 (zsm (a := ⟨b, off, none⟩) e ?_)
  rw [zda1 k0]
  refine (semW_bind' _ _).2 (ztx (r := b) e ?_)
  refine zsm (a := ⟨b, _, none⟩) e ?_
  rw [zda1 k0]
  exact hk

end
end Lf

/-
  Fields of elements; parts of slices by their places; copies into a block.
-/
namespace Lf
open Go

section
variable {α : Type} {h : Hp} {sz : Nat} {enc : α → List Value} {l : Sl} {xs : List α}

theorem Blk.rd {b : Nat} {cs new : List Value} (k : Blk h b cs) {off n : Nat} (hn : new.length = n) (e : (cs.drop off).take n = new) : ztb h (some ⟨b, off, none⟩) n new := ⟨hn, .inr ⟨_, rfl, k.ldIs e⟩⟩

end
end Lf

/-
  What is done with is held in a part of memory.
-/
namespace Lf
open Go

/-- A memory without some blocks. -/
def cutH (k : Hp) (R : List Nat) : Hp := fun b => if b ∈ R then none else k b

theorem zwp1 {k : Hp} {R : List Nat} : cutH k R ≤ k := fun b o e => by
  unfold cutH at e
  grind

theorem zsa1 {k : Hp} {R : List Nat} {b : Nat} (h : b ∈ R) : cutH k R b = none := by
  unfold cutH
  rw [if_pos h]

theorem zto1 {k : Hp} {R : List Nat} {b : Nat} (h : b ∉ R) : cutH k R b = k b := by
  unfold cutH
  rw [if_neg h]

theorem zwq1 {d k : Hp} {R : List Nat} (hl : d ≤ k) (hn : ∀ b ∈ R, d b = none) : d ≤ cutH k R := fun b o e => by
  rw [zto1 fun hb => by grind]
  exact hl b o e

theorem zbk1 {h h' : Hp} {a : Addr} (e : h' a.block = h a.block) : hcell h' a = hcell h a := by
  unfold hcell
  rw [e]

theorem zwr (a : Addr) (n : Nat) : (a.add n).block = a.block := by
  unfold Addr.add
  split <;> rfl

theorem zpd1 {h h' : Hp} {a : Addr} {cs : List Value} (l : LdIs h a cs) (e : h' a.block = h a.block) : LdIs h' a cs := fun i v hv => by
  have : hcell h' (a.add i) = hcell h (a.add i) := zbk1 (a := a.add i) (by rw [zwr]; exact e)
  rw [this]
  exact l i v hv

section
variable {α : Type} {h h' : Hp} {sz : Nat} {enc : α → List Value} {l : Sl} {xs : List α} {F : List Nat}

theorem Rw.same (r : Rw h sz enc l xs) (e : ∀ a, l.base = some a → h' a.block = h a.block) : Rw h' sz enc l xs := by
  obtain ⟨h1, h2, h3⟩ := r
  refine ⟨h1, h2, h3.imp id ?_⟩
  rintro ⟨a, ha, hl⟩
  exact ⟨a, ha, zpd1 hl (e a ha)⟩

theorem Rw.nil {l : Sl} (hl : l.len = 0) : Rw h sz enc l ([] : List α) := ⟨hl, (by simp), .inl (by simp)⟩

end
end Lf

/-
  What stays of a slice that is read while others are written.
-/
namespace Lf
open Go

theorem zvd {h : Hp} {a : Addr} {v : Value} (e : hcell h a = some v) : ∃ o, h a.block = some o := by
  unfold hcell at e
  grind

theorem zpe1 {F F' : List Nat} {h h' : Hp} {a : Addr} {cs : List Value} (l : LdIs h a cs) (m : Mv F h F' h') (hn : a.block ∉ F) : LdIs h' a cs := fun i v hv => by
  have h1 := l i v hv
  obtain ⟨o, ho⟩ := zvd h1
  have hb : (a.add i).block = a.block := zwr a i
  rw [zbk1 (h := h) (h' := h') (a := a.add i) (by rw [ho]; exact m.keep _ _ ho (by rw [hb]; exact hn))]
  exact h1

section
variable {α : Type} {h h' : Hp} {sz : Nat} {enc : α → List Value} {l : Sl} {xs : List α} {F F' : List Nat}

theorem Rw.known (r : Rw h sz enc l xs) {a : Addr} (ha : l.base = some a) (h0 : xs.length * sz ≠ 0) : h a.block ≠ none := by
  obtain ⟨h1, h2, h3⟩ := r
  obtain ⟨a', ha', hl⟩ := h3.resolve_left h0
  rw [ha] at ha'
  cases ha'
  have hne : (xs.flatMap enc).length ≠ 0 := by rw [h2]; exact h0
  obtain ⟨v, hv⟩ : ∃ v, (xs.flatMap enc)[0]? = some v := ⟨(xs.flatMap enc)[0]'(by omega), List.getElem?_eq_getElem (by omega)⟩
  obtain ⟨o, ho⟩ := zvd (hl 0 v hv)
  rw [zwr] at ho
  rw [ho]
  simp

end
end Lf

/-
  A row that is made of a new one.
-/
namespace Lf
open Go

theorem zhn1 {α : Type} {h0 h : Hp} {sz n bytes : Nat} {enc : α → List Value} {zero cs : List Value} {l : Sl} {xs ys : List α} {K : Sl → Hp → Prop} (hw : h0 ≤ h) (o : Own h0 h sz enc l xs) (hc : cs = ys.flatMap enc) (hn : n = ys.length)
    (henc : ∀ x, (enc x).length = sz) (hok : ∀ x, zfo (enc x) = true) (hz : zero.length = sz) (hb : xs.length + ys.length ≤ 140737488355328 ∧ (xs.length + ys.length) * bytes ≤ 140737488355328)
    (hk : ∀ l' h', h0 ≤ h' → Own h0 h' sz enc l' (xs ++ ys) → (∀ b ob, h b = some ob → (∀ a, l.base = some a → a.block ≠ b) → h' b = some ob) → K l' h') : NewW cs (fun a h2 => zdl sz bytes zero l ⟨some a, n, n⟩ K h2) h := by
  subst hn
  refine zul1 (h0 := h0) hw hc henc fun a h2 hle ho2 => ?_
  refine zos1 (Hp.le_trans hw hle) (o.mono hle) (ho2.rw henc) henc hok hz hb fun l' h' hl' ho' hk' => hk l' h' hl' ho' fun b ob e hne => hk' b ob (hle b ob e) hne

end Lf

/-
  The document's whole numbers of any size: lists of 32 bits each.
-/
namespace Lf
open Go Go.Proofs

section
variable {P : Program} {h : Hp}

theorem zpu (x : Int) : IntKind.wrap .u32 x = x % 4294967296 := rfl
theorem zao (x : Int) : IntKind.wrap .u64 x = x % 18446744073709551616 := rfl
theorem shrU (x : Int) (n : Nat) (hn : n ≤ 64) : shrI .u64 x (n : Int) = x / 2 ^ n := by
  unfold shrI
  rw [show min ((n : Int)).toNat IntKind.u64.bits = n by have : IntKind.u64.bits = 64 := rfl; omega]
  exact Int.fdiv_eq_ediv_of_nonneg _ (by have := Int.pow_pos (n := 2) (m := n) (by decide); omega)
theorem take_one {ds : List Int} {i : Nat} {x : Int} (h : ds[i]? = some x) : ds.take (i + 1) = ds.take i ++ [x] := by rw [List.take_add_one, h]; rfl
end
end Lf





/-
  The document's whole numbers: products, how many binary digits, the small ones.
-/
namespace Lf
open Go Go.Proofs

theorem zjx1 {k : IntKind} {a s v : Nat} (hk : k = .u64 ∧ a * 2 ^ s + v < 18446744073709551616 ∨ k = .u32 ∧ a * 2 ^ s + v < 4294967296) (hv : v < 2 ^ s) : bitsI .or k ((a * 2 ^ s : Nat) : Int) (v : Int) = ((a * 2 ^ s + v : Nat) : Int) := by
  have e : a * 2 ^ s ||| v = a * 2 ^ s + v := by rw [← Nat.shiftLeft_eq, Nat.shiftLeft_add_eq_or_of_lt hv]
  unfold bitsI
  dsimp only
  rw [BitVec.ofInt_natCast, BitVec.ofInt_natCast, BitVec.toNat_or, BitVec.toNat_ofNat, BitVec.toNat_ofNat]
  rcases hk with ⟨rfl, h⟩ | ⟨rfl, h⟩
  · rw [show IntKind.u64.bits = 64 by rfl, Nat.mod_eq_of_lt (by omega), Nat.mod_eq_of_lt (by omega), e, zao]; omega
  · rw [show IntKind.u32.bits = 32 by rfl, Nat.mod_eq_of_lt (by omega), Nat.mod_eq_of_lt (by omega), e, zpu]; omega

theorem zsb1 {m b : Nat} (h1 : m < 2 ^ b) (h2 : 0 < b → 2 ^ (b - 1) ≤ m) : bitsN m = b := by
  unfold bitsN
  by_cases hm : m = 0
  · rw [if_pos hm]
    rcases Nat.eq_zero_or_pos b with e | e
    · exact e.symm
    · have := h2 e; have := Nat.two_pow_pos (b - 1); omega
  · rw [if_neg hm]
    have hb : 0 < b := Nat.pos_of_ne_zero fun e => by subst e; simp at h1; omega
    have := (Nat.log2_eq_iff (k := b - 1) hm).2 ⟨h2 hb, by rw [show b - 1 + 1 = b by omega]; exact h1⟩
    omega
theorem zof (m : Nat) : m < 2 ^ bitsN m := by
  unfold bitsN
  split
  · subst_vars; decide
  · exact Nat.lt_log2_self
theorem zsn {m : Nat} (h : m ≠ 0) : 2 ^ (bitsN m - 1) ≤ m := by
  unfold bitsN
  rw [if_neg h, Nat.add_sub_cancel]
  exact Nat.log2_self_le h
section
variable {h : Hp}

end
end Lf





/-
  The document's floats: words by their bits, parts, rounded.
-/
namespace Lf
open Go Go.Proofs

section
variable {a b : Nat}

theorem zpv : IntKind.u64.bits = 64 := rfl
theorem zjl (ha : a < 18446744073709551616) : (BitVec.ofInt 64 ((a : Nat) : Int)).toNat = a := by
  rw [BitVec.ofInt_natCast, BitVec.toNat_ofNat]; exact Nat.mod_eq_of_lt ha
theorem wrapN (ha : a < 18446744073709551616) : IntKind.wrap .u64 ((a : Nat) : Int) = a := by rw [zao]; omega

theorem zho1 {s : Bool} (ha : a < 9223372036854775808) : bitsI .or .u64 ((sgn s : Nat) : Int) (a : Int) = ((sgn s + a : Nat) : Int) := by
  cases s with
  | false => exact zjx1 (a := 0) (s := 63) (.inl ⟨rfl, by omega⟩) ha
  | true => exact zjx1 (a := 1) (s := 63) (.inl ⟨rfl, by omega⟩) ha

theorem zjy1 (ha : a < 18446744073709551616) : bitsI .and .u64 (a : Int) (4503599627370495 : Int) = ((a % 4503599627370496 : Nat) : Int) := by
  unfold bitsI
  dsimp only
  rw [zpv, BitVec.toNat_and, zjl ha, show (BitVec.ofInt 64 4503599627370495).toNat = 2 ^ 52 - 1 by decide, Nat.and_two_pow_sub_one_eq_mod, zao]
  omega

theorem zpf1 (x y : Int) : bitsI .or .u64 x y = bitsI .or .u64 y x := by unfold bitsI; dsimp only; rw [BitVec.or_comm]

variable {h : Hp}

end
end Lf

/-
  The document's floats: rounded.
-/
namespace Lf
open Go Go.Proofs

section
variable {h : Hp}

theorem zjz1 {m b : Nat} (hm : m < 2 ^ b) : bitsN m ≤ b := by
  refine Classical.byContradiction fun hc => ?_
  have h0 : m ≠ 0 := fun e => by subst e; exact hc (Nat.zero_le _)
  have h1 := zsn h0
  have h2 : 2 ^ b ≤ 2 ^ (bitsN m - 1) := Nat.pow_le_pow_right (by decide) (by omega)
  omega

end
end Lf

/-
  Floats as texts: products of 128 bits, scaling.
-/
namespace Lf
open Go Go.Proofs

theorem iteT {c : Prop} [Decidable c] {a b : Prop} (hc : c) (ha : a) : if c then a else b := by rw [if_pos hc]; exact ha
theorem iteF {c : Prop} [Decidable c] {a b : Prop} (hc : ¬ c) (hb : b) : if c then a else b := by rw [if_neg hc]; exact hb

section
variable {h : Hp}

theorem zka1 {a : Nat} (k : Nat) (ha : a < 18446744073709551616) (hk : k ≤ 64) : bitsI .and .u64 (a : Int) ((2 ^ k - 1 : Nat) : Int) = ((a % 2 ^ k : Nat) : Int) := by
  have h2 : 2 ^ k ≤ 2 ^ 64 := Nat.pow_le_pow_right (by decide) hk
  have hp := Nat.two_pow_pos k
  unfold bitsI
  dsimp only
  rw [zpv, BitVec.toNat_and, zjl ha, zjl (by omega), Nat.and_two_pow_sub_one_eq_mod, wrapN]
  exact Nat.lt_of_le_of_lt (Nat.mod_le _ _) ha

theorem and32 {a : Nat} (ha : a < 18446744073709551616) : bitsI .and .u64 (a : Int) (4294967295 : Int) = ((a % 4294967296 : Nat) : Int) := by
  have e := zka1 32 ha (by decide)
  rw [show (2 : Nat) ^ 32 - 1 = 4294967295 by decide, show (2 : Nat) ^ 32 = 4294967296 by decide] at e
  exact e

theorem shrN (x : Nat) {n : Nat} (hn : n ≤ 64) : shrI .u64 (x : Int) (n : Int) = ((x / 2 ^ n : Nat) : Int) := by
  rw [shrU _ n hn]; norm_cast

theorem zew1 (x : Nat) : shrI .u64 (x : Int) (32 : Int) = ((x / 4294967296 : Nat) : Int) := by
  have e := shrN x (n := 32) (by decide)
  rw [show (2 : Nat) ^ 32 = 4294967296 by decide] at e
  exact e

theorem zkb1 {a b n m : Nat} (ha : a ≤ n) (hb : b ≤ m) : a * b ≤ n * m := Nat.mul_le_mul ha hb

theorem zsc1 {a b c d : Nat} (ha : a ≤ 18446744065119617025) (hb : b ≤ 18446744065119617025) (hc : c ≤ 18446744065119617025) (hd : d ≤ 18446744065119617025) :
    a + (b + d / 4294967296) / 4294967296 + ((b + d / 4294967296) % 4294967296 + c) / 4294967296 = (a * 18446744073709551616 + (b + c) * 4294967296 + d) / 18446744073709551616 := by
  have e1 : (a * 18446744073709551616 + (b + c) * 4294967296 + d) / 18446744073709551616 = a + ((b + c) * 4294967296 + d) / 18446744073709551616 := by rw [Nat.add_assoc, Nat.mul_comm a, Nat.mul_add_div (by decide)]
  have e2 : ((b + c) * 4294967296 + d) / 18446744073709551616 = ((b + c) + d / 4294967296) / 4294967296 := by rw [show 18446744073709551616 = 4294967296 * 4294967296 by decide, ← Nat.div_div_eq_div_mul, Nat.mul_comm (b + c), Nat.mul_add_div (by decide)]
  rw [e1, e2]
  generalize d / 4294967296 = t at *
  omega

/-- Where one cell of a block is written over. -/
theorem put1 {b i : Nat} {cs : List Value} {v : Value} {K : Hp → Prop} (k : Blk h b cs) (hi : i < cs.length) (hk : ∀ h', Mv [b] h [b] h' → Blk h' b (cs.set i v) → K h') : StW h ⟨b, i, none⟩ [v] K :=
  zun1 k (by simp only [List.length_singleton]; omega) fun h' m k' => hk h' m (by
    rw [List.set_eq_take_append_cons_drop, if_pos hi]
    simpa using k')

/-- A product of two words, in two words. -/
theorem zxt {x y : Nat} {Q : Int → Int → Hp → Prop} (hx : x < 18446744073709551616) (hy : y < 18446744073709551616) (hq : Q ((x * y / 18446744073709551616 : Nat) : Int) ((x * y % 18446744073709551616 : Nat) : Int) h) : zlm Tryz.prog x y Q h := by
  unfold zlm
  refine ⟨by decide, by decide, by decide, by decide, by decide, ?_⟩
  rw [zew1, zew1, and32 hx, and32 hy]
  have hxy : x * y = (x / 4294967296 * (y / 4294967296)) * 18446744073709551616 + (x / 4294967296 * (y % 4294967296) + x % 4294967296 * (y / 4294967296)) * 4294967296 + x % 4294967296 * (y % 4294967296) := by
    have e1 : x = x / 4294967296 * 4294967296 + x % 4294967296 := by omega
    have e2 : y = y / 4294967296 * 4294967296 + y % 4294967296 := by omega
    generalize x / 4294967296 = p at *
    generalize x % 4294967296 = q at *
    generalize y / 4294967296 = r at *
    generalize y % 4294967296 = s at *
    subst e1 e2
    grind
  have b1 : x / 4294967296 ≤ 4294967295 := by omega
  have b2 : y / 4294967296 ≤ 4294967295 := by omega
  have b3 : x % 4294967296 ≤ 4294967295 := by omega
  have b4 : y % 4294967296 ≤ 4294967295 := by omega
  have ha := zkb1 b1 b2
  have hb := zkb1 b1 b4
  have hc := zkb1 b3 b2
  have hd := zkb1 b3 b4
  have hl : IntKind.wrap .u64 ((x : Int) * (y : Int)) = ((x * y % 18446744073709551616 : Nat) : Int) := by
    rw [zao, show (x : Int) * (y : Int) = ((x * y : Nat) : Int) by norm_cast]
    generalize x * y = z
    omega
  rw [hl]
  have hk := zsc1 ha hb hc hd
  rw [← hxy] at hk
  rw [← hk] at hq
  have c1 : ((x / 4294967296 : Nat) : Int) * ((y / 4294967296 : Nat) : Int) = ((x / 4294967296 * (y / 4294967296) : Nat) : Int) := by norm_cast
  have c2 : ((x / 4294967296 : Nat) : Int) * ((y % 4294967296 : Nat) : Int) = ((x / 4294967296 * (y % 4294967296) : Nat) : Int) := by norm_cast
  have c3 : ((x % 4294967296 : Nat) : Int) * ((y / 4294967296 : Nat) : Int) = ((x % 4294967296 * (y / 4294967296) : Nat) : Int) := by norm_cast
  have c4 : ((x % 4294967296 : Nat) : Int) * ((y % 4294967296 : Nat) : Int) = ((x % 4294967296 * (y % 4294967296) : Nat) : Int) := by norm_cast
  rw [c1, c2, c3, c4]
  clear c1 c2 c3 c4 hk hxy hl
  generalize x / 4294967296 * (y / 4294967296) = a at *
  generalize x / 4294967296 * (y % 4294967296) = b at *
  generalize x % 4294967296 * (y / 4294967296) = c at *
  generalize x % 4294967296 * (y % 4294967296) = d at *
  have sum : ∀ {u v : Nat}, u + v < 18446744073709551616 → IntKind.wrap .u64 ((u : Int) + (v : Int)) = ((u + v : Nat) : Int) := fun {u v} huv => by rw [zao]; omega
  rw [wrapN (a := a) (by omega), wrapN (a := b) (by omega), wrapN (a := c) (by omega), wrapN (a := d) (by omega), zew1, sum (u := b) (by omega), zew1, and32 (by omega), sum (u := (b + d / 4294967296) % 4294967296) (v := c) (by omega), zew1, sum (u := a) (by omega), sum (by omega)]
  exact hq

/-- An unrounded product. -/
def zqs (x hi lo s : Nat) : Nat :=
  let u := x * hi / 18446744073709551616
  let mid := x * hi % 18446744073709551616
  let mid2 := x * lo / 18446744073709551616
  if u % 2 ^ s ≠ 0 then u / 2 ^ s ||| 1
  else (if mid < mid2 then u - 1 else u) / 2 ^ s ||| (if mid2 + 1 < mid ∨ mid < mid2 then 1 else 0)

/-- What scaling leans on, in memory. -/
abbrev Scl (h : Hp) (b hi lo s : Nat) : Prop := Blk h b [.int .u64 (hi : Int), .int .u64 (lo : Int), .int .i64 (s : Int)]

theorem orN {x y : Nat} (hx : x < 18446744073709551616) (hy : y < 18446744073709551616) : bitsI .or .u64 (x : Int) (y : Int) = ((x ||| y : Nat) : Int) := by
  unfold bitsI
  dsimp only
  have : x ||| y < 2 ^ 64 := Nat.or_lt_two_pow hx hy
  rw [zpv, BitVec.toNat_or, zjl hx, zjl hy, wrapN (by omega)]

theorem ztk {b : Bool} {Q : Int → Hp → Prop} (hq : Q ((b.toNat : Nat) : Int) h) : zbg Tryz.prog b Q h := by
  unfold zbg
  cases b
  · exact hq
  · exact hq

theorem zwr1 {s : Nat} (hs : s < 64) : bitsI .and .i64 (s : Int) (63 : Int) = (s : Int) := by
  unfold bitsI
  dsimp only
  show IntKind.wrap .i64 (((BitVec.ofInt 64 (s : Int)) &&& (BitVec.ofInt 64 63)).toNat : Int) = _
  rw [BitVec.toNat_and, zjl (by omega), show (BitVec.ofInt 64 63).toNat = 2 ^ 6 - 1 by decide, Nat.and_two_pow_sub_one_eq_mod, zaf (by omega) (by omega), Nat.mod_eq_of_lt hs]

theorem shlN {x n : Nat} (hn : n ≤ 64) (hx : x * 2 ^ n < 18446744073709551616) : shlI .u64 (x : Int) (n : Int) = ((x * 2 ^ n : Nat) : Int) := by
  unfold shlI
  rw [show min ((n : Int)).toNat IntKind.u64.bits = n by have : IntKind.u64.bits = 64 := rfl; omega, show (x : Int) * 2 ^ n = ((x * 2 ^ n : Nat) : Int) by norm_cast, wrapN hx]

theorem zex1 {x hi lo s b : Nat} {Q : Int → Hp → Prop} (hx : x < 18446744073709551616) (hh : hi < 18446744073709551616) (hl : lo < 18446744073709551616) (hs : s < 64) (hu : x * hi / 18446744073709551616 ≠ 0)
    (k : Scl h b hi lo s) (hq : Q ((zqs x hi lo s : Nat) : Int) h) : zch Tryz.prog x (some ⟨b, 0, none⟩) Q h := by
  unfold zch
  refine zae (ld_at (sh := shInt .u64) (hi : Int) (k.ldIs (off := 0) (n := 1) rfl) (zfy (zxt hx hh ?_)))
  refine zae (ld_at (sh := shInt .i64) (s : Int) (k.ldIs (off := 2) (n := 1) rfl) ?_)
  rw [zwr1 hs]
  have hul : x * hi / 18446744073709551616 < 18446744073709551616 := Nat.div_lt_of_lt_mul (Nat.lt_of_lt_of_le (Nat.mul_lt_mul_of_lt_of_lt hx hh) (Nat.le_refl _))
  have hml : x * hi % 18446744073709551616 < 18446744073709551616 := Nat.mod_lt _ (by decide)
  have hm2 : x * lo / 18446744073709551616 < 18446744073709551615 := by
    have := Nat.mul_le_mul (Nat.le_pred_of_lt hx) (Nat.le_pred_of_lt hl)
    have : x * lo ≤ 18446744073709551615 * 18446744073709551615 := this
    generalize x * lo = z at *
    omega
  unfold zqs at hq
  dsimp only at hq
  have hdiv : ∀ {v : Nat}, v < 18446744073709551616 → v / 2 ^ s < 18446744073709551616 := fun hv => Nat.lt_of_le_of_lt (Nat.div_le_self _ _) hv
  refine ⟨by omega, by omega, ?_⟩
  generalize hU : x * hi / 18446744073709551616 = u at *
  generalize hM : x * hi % 18446744073709551616 = mid at *
  have hback : u / 2 ^ s * 2 ^ s ≤ u := Nat.div_mul_le_self _ _
  rw [shrN u (by omega), shlN (by omega) (by omega)]
  have hcond : u % 2 ^ s ≠ 0 ↔ ((u / 2 ^ s * 2 ^ s : Nat) : Int) ≠ (u : Int) := by
    have := Nat.div_add_mod u (2 ^ s)
    rw [Nat.mul_comm] at this
    omega
  by_cases hc : u % 2 ^ s ≠ 0
  · rw [if_pos hc] at hq
    refine iteT (bne_iff_ne.2 (hcond.1 hc)) ⟨by omega, ?_⟩
    rw [show (1 : Int) = ((1 : Nat) : Int) from rfl, orN (hdiv hul) (by omega)]
    exact hq
  · rw [if_neg hc] at hq
    refine iteF (fun e => hc (hcond.2 (bne_iff_ne.1 e))) ?_
    refine zae (ld_at (sh := shInt .u64) (lo : Int) (k.ldIs (off := 1) (n := 1) rfl) (zfy (zxt hx hl ?_)))
    generalize hM2 : x * lo / 18446744073709551616 = mid2 at *
    refine zam (ztk ⟨by omega, ?_⟩)
    refine zam (ztk ?_)
    have e1 : IntKind.wrap .u64 ((u : Int) - (((decide ((mid : Int) < (mid2 : Int))).toNat : Nat) : Int)) = ((if mid < mid2 then u - 1 else u : Nat) : Int) := by
      rw [zao]
      by_cases h1 : mid < mid2
      · rw [if_pos h1, decide_eq_true (by omega)]
        show ((u : Int) - 1) % _ = _
        omega
      · rw [if_neg h1, decide_eq_false (by omega)]
        show ((u : Int) - 0) % _ = _
        omega
    have e2 : (((decide (IntKind.wrap .u64 ((mid : Int) - (mid2 : Int)) > (1 : Int))).toNat : Nat) : Int) = ((if mid2 + 1 < mid ∨ mid < mid2 then 1 else 0 : Nat) : Int) := by
      rw [zao]
      by_cases h1 : mid2 + 1 < mid ∨ mid < mid2
      · rw [if_pos h1, decide_eq_true (by omega)]; rfl
      · rw [if_neg h1, decide_eq_false (by omega)]; rfl
    rw [e1, e2, shrN _ (by omega), orN (hdiv (by split <;> omega)) (by split <;> omega)]
    exact hq
end
end Lf

/-
  Floats as texts: the shortest digits, as they are reckoned.
-/
namespace Lf
open Go Go.Proofs Go.Pinned

def zhm (x : Int) : Int := x * 78913 / 262144
def log2P (x : Int) : Int := x * 108853 / 32768
def skewP (x : Int) : Int := (x * 631305 - 261663) / 2097152

/-- The table of powers of ten in memory. -/
abbrev Pow10 (h : Hp) : Prop := LdIs h ⟨8, 0, none⟩ (pow10Rows.flatMap fun x => [Value.int .u64 (x.1 : Int), Value.int .u64 (x.2 : Int)])

theorem zey1 : pow10Rows.length = 696 := by decide +kernel
theorem zpg1 : ∀ x ∈ pow10Rows, 9223372036854775808 ≤ x.1 ∧ x.1 < 18446744073709551616 ∧ x.2 < 18446744073709551616 := by decide +kernel

def hiP (p : Int) : Nat := (pow10Rows.getD (p + 348).toNat (0, 0)).1
def loP (p : Int) : Nat := (pow10Rows.getD (p + 348).toNat (0, 0)).2

section
variable {h : Hp}

theorem ztp1 {p : Int} (h0 : -348 ≤ p) (h1 : p ≤ 347) : pow10Rows[(p + 348).toNat]? = some (hiP p, loP p) := by
  have hl : (p + 348).toNat < pow10Rows.length := by rw [zey1]; omega
  unfold hiP loP
  rw [List.getElem?_eq_getElem hl]
  simp [List.getD, List.getElem?_eq_getElem hl]

theorem zbl1 {p : Int} (h0 : -348 ≤ p) (h1 : p ≤ 347) : 9223372036854775808 ≤ hiP p ∧ hiP p < 18446744073709551616 ∧ loP p < 18446744073709551616 :=
  zpg1 _ (List.mem_of_getElem? (ztp1 h0 h1))

theorem flat2 {l : List (Nat × Nat)} {i : Nat} {x : Nat × Nat} (e : l[i]? = some x) : (l.flatMap fun x => [Value.int .u64 (x.1 : Int), Value.int .u64 (x.2 : Int)])[i * 2]? = some (.int .u64 x.1) ∧
    (l.flatMap fun x => [Value.int .u64 (x.1 : Int), Value.int .u64 (x.2 : Int)])[i * 2 + 1]? = some (.int .u64 x.2) := by
  induction l generalizing i with
  | nil => simp at e
  | cons y l ih =>
    cases i with
    | zero => simp at e; subst e; simp
    | succ i =>
      have := ih (i := i) (by simpa using e)
      rw [show (i + 1) * 2 = i * 2 + 1 + 1 by omega]
      simpa using this

theorem zpw {h : Hp} {a : Addr} {v : Value} (e : hcell h a = some v) : LdIs h a [v] := fun i u hu => by
  cases i with
  | zero => cases hu; exact e
  | succ i => simp at hu

theorem zxu (t : Pow10 h) {p : Int} (h0 : -348 ≤ p) (h1 : p ≤ 347) : LdIs h ⟨8, (p + 348).toNat * 2, none⟩ [.int .u64 (hiP p : Int)] ∧ LdIs h ⟨8, (p + 348).toNat * 2 + 1, none⟩ [.int .u64 (loP p : Int)] := by
  obtain ⟨e1, e2⟩ := flat2 (ztp1 h0 h1)
  have c1 := t _ _ e1
  have c2 := t _ _ e2
  rw [zak, Nat.zero_add] at c1 c2
  exact ⟨zpw c1, zpw c2⟩

theorem zdb1 {x : Int} {Q : Int → Hp → Prop} (h0 : -100000 ≤ x) (h1 : x ≤ 100000) (hq : Q (zhm x) h) : zep Tryz.prog x Q h := by
  unfold zep
  refine ⟨by decide, ?_⟩
  rw [zaf (by omega) (by omega)]
  unfold shrI
  rw [show (2 : Int) ^ (min (18 : Int).toNat IntKind.i64.bits) = 262144 by decide, Int.fdiv_eq_ediv_of_nonneg _ (by decide)]
  exact hq

theorem zhp1 {x : Int} {Q : Int → Hp → Prop} (h0 : -100000 ≤ x) (h1 : x ≤ 100000) (hq : Q (log2P x) h) : zer Tryz.prog x Q h := by
  unfold zer
  refine ⟨by decide, ?_⟩
  rw [zaf (by omega) (by omega)]
  unfold shrI
  rw [show (2 : Int) ^ (min (15 : Int).toNat IntKind.i64.bits) = 32768 by decide, Int.fdiv_eq_ediv_of_nonneg _ (by decide)]
  exact hq

theorem zur1 {x : Int} {Q : Int → Hp → Prop} (h0 : -100000 ≤ x) (h1 : x ≤ 100000) (hq : Q (skewP x) h) : zfs Tryz.prog x Q h := by
  unfold zfs
  refine ⟨by decide, ?_⟩
  rw [zaf (n := x * 631305) (by omega) (by omega), zaf (by omega) (by omega)]
  unfold shrI
  rw [show (2 : Int) ^ (min (21 : Int).toNat IntKind.i64.bits) = 2097152 by decide, Int.fdiv_eq_ediv_of_nonneg _ (by decide)]
  exact hq

theorem zhq1 {b : Nat} {x0 x1 x2 : Value} {e p lp : Int} {Q : Hp → Prop} (k : Blk h b [x0, x1, x2]) (t : Pow10 h) (hb : b ≠ 8) (h0 : -348 ≤ p) (h1 : p ≤ 347) (hl : lp = log2P p) (s0 : 0 ≤ -(e + lp + 3)) (s1 : -(e + lp + 3) < 64)
    (hk : ∀ h', Mv [b] h [b] h' → Scl h' b (hiP p) (loP p) (-(e + lp + 3)).toNat → Q h') : zbw Tryz.prog (some ⟨b, 0, none⟩) e p lp Q h := by
  unfold zbw
  have hlp : -1200 ≤ lp ∧ lp ≤ 1200 := by subst hl; unfold log2P; omega
  have e1 : IntKind.wrap .i64 (p - (-348 : Int)) = p + 348 := by rw [zaf (by omega) (by omega)]; omega
  have e2 : IntKind.wrap .i64 ((0 : Int) - (IntKind.wrap .i64 ((IntKind.wrap .i64 (e + lp)) + (3 : Int)))) = (((-(e + lp + 3)).toNat : Nat) : Int) := by
    rw [zaf (n := e + lp) (by omega) (by omega), zaf (n := e + lp + 3) (by omega) (by omega), zaf (by omega) (by omega)]
    omega
  rw [e1, e2]
  obtain ⟨c1, c2⟩ := zxu t h0 h1
  have a1 : Addr.add (Addr.add ⟨8, 0, none⟩ ((p + 348).toNat * 2)) 0 = ⟨8, (p + 348).toNat * 2, none⟩ := by rw [zak, zak]; simp
  have a2 : Addr.add (Addr.add ⟨8, 0, none⟩ ((p + 348).toNat * 2)) 1 = ⟨8, (p + 348).toNat * 2 + 1, none⟩ := by rw [zak, zak]; simp
  rw [a1, a2]
  refine ⟨⟨by omega, by omega⟩, ld_at (sh := shInt .u64) (hiP p : Int) c1 (zae ?_)⟩
  refine put1 (i := 0) k (by simp) fun k1 m1 b1 => ?_
  have c2' := zpe1 c2 m1 (by simpa using Ne.symm hb)
  refine ⟨⟨by omega, by omega⟩, ld_at (sh := shInt .u64) (loP p : Int) c2' (zae ?_)⟩
  refine put1 (i := 1) b1 (by simp) fun k2 m2 b2 => ?_
  refine zae (put1 (i := 2) b2 (by simp) fun k3 m3 b3 => ?_)
  exact hk k3 (m1.trans (m2.trans m3)) b3
end

/-! What comes of it, in plain numbers. -/
def zmn (u : Nat) (odd : Bool) (up : Bool) : Nat := if odd then (if up then u + 1 else u + 18446744073709551615) % 18446744073709551616 else u
def zvv (u : Nat) : Nat := (u + 1 + u / 4 % 2) % 18446744073709551616 / 4

/-- How far off a float's neighbours stand. -/
def zP (e : Int) : Nat := if -1085 ≤ e then 11 else (11 + (-1085 - e)).toNat
def pP (m : Nat) (e : Int) : Int := if m = 9223372036854775808 ∧ -1085 < e then -skewP (e + 11) else -zhm (e + zP e)
def minP (m : Nat) (e : Int) : Nat := if m = 9223372036854775808 ∧ -1085 < e then m - 512 else m - 2 ^ (zP e - 1)
def maxP (m : Nat) (e : Int) : Nat := m + 2 ^ (zP e - 1)
def oddP (m : Nat) (e : Int) : Bool := m / 2 ^ zP e % 2 == 1
def sclP (m : Nat) (e : Int) (x : Nat) : Nat := zqs x (hiP (pP m e)) (loP (pP m e)) (-(e + log2P (pP m e) + 3)).toNat
def dminP (m : Nat) (e : Int) : Nat := (zmn (sclP m e (minP m e)) (oddP m e) true + 3) % 18446744073709551616 / 4
def dmaxP (m : Nat) (e : Int) : Nat := zmn (sclP m e (maxP m e)) (oddP m e) false / 4
def zbj (m : Nat) (e : Int) : Nat × Int :=
  if dminP m e ≤ dmaxP m e / 10 * 10 then (dmaxP m e / 10, -(pP m e - 1))
  else if dminP m e < dmaxP m e then (zvv (sclP m e m), -pP m e)
  else (dminP m e, -pP m e)

theorem p_in {m : Nat} {e : Int} (h0 : -1137 ≤ e) (h1 : e ≤ 974) : -348 ≤ pP m e ∧ pP m e ≤ 347 ∧ 0 ≤ -(e + log2P (pP m e) + 3) ∧ -(e + log2P (pP m e) + 3) < 64 := by
  unfold pP
  split
  · unfold skewP log2P
    omega
  · unfold zP zhm log2P
    split <;> omega

section
variable {h : Hp}

theorem zkc1 {u : Nat} {d : Int} {odd up : Bool} {Q : Int → Hp → Prop} (hu : u < 18446744073709551616) (hd : d = if odd then (if up then 1 else -1) else 0) (hq : Q ((zmn u odd up : Nat) : Int) h) : zcv Tryz.prog u d Q h := by
  unfold zcv
  unfold zmn at hq
  subst hd
  rw [zao, zao]
  cases odd with
  | false =>
    simp only [Bool.false_eq_true, if_false] at hq ⊢
    rw [show ((u : Int) + 0 % 18446744073709551616) % 18446744073709551616 = (u : Int) by omega]
    exact hq
  | true =>
    cases up with
    | true =>
      simp only [if_true] at hq ⊢
      rw [show ((u : Int) + 1 % 18446744073709551616) % 18446744073709551616 = (((u + 1) % 18446744073709551616 : Nat) : Int) by omega]
      exact hq
    | false =>
      simp only [if_true, Bool.false_eq_true, if_false] at hq ⊢
      rw [show ((u : Int) + -1 % 18446744073709551616) % 18446744073709551616 = (((u + 18446744073709551615) % 18446744073709551616 : Nat) : Int) by omega]
      exact hq

theorem shr2N (x : Nat) : shrI .u64 (x : Int) (2 : Int) = ((x / 4 : Nat) : Int) := shrN x (n := 2) (by decide)

theorem zus1 {u : Nat} {Q : Int → Hp → Prop} (hq : Q (((u + 3) % 18446744073709551616 / 4 : Nat) : Int) h) : zda Tryz.prog u Q h := by
  unfold zda
  rw [show IntKind.wrap .u64 ((u : Int) + (3 : Int)) = (((u + 3) % 18446744073709551616 : Nat) : Int) by rw [zao]; omega, shr2N]
  exact ⟨by decide, hq⟩

theorem zsd1 {u : Nat} {Q : Int → Hp → Prop} (hu : u < 18446744073709551616) (hq : Q ((u / 4 : Nat) : Int) h) : zcw Tryz.prog u Q h := by
  unfold zcw
  simp only [Int.add_zero, wrapN hu, shr2N]
  first | exact ⟨by decide, hq⟩ | exact hq

theorem zxv {u : Nat} {Q : Int → Hp → Prop} (hu : u < 18446744073709551616) (hq : Q ((zvv u : Nat) : Int) h) : zcx Tryz.prog u Q h := by
  unfold zcx
  have e1 : bitsI .and .u64 (shrI .u64 (u : Int) (2 : Int)) (1 : Int) = ((u / 4 % 2 : Nat) : Int) := by
    rw [shr2N]
    have := zka1 (a := u / 4) 1 (by omega) (by decide)
    exact this
  rw [e1]
  have e2 : IntKind.wrap .u64 (IntKind.wrap .u64 ((u : Int) + (1 : Int)) + ((u / 4 % 2 : Nat) : Int)) = (((u + 1 + u / 4 % 2) % 18446744073709551616 : Nat) : Int) := by rw [zao, zao]; omega
  rw [e2, shr2N]
  exact ⟨by decide, by decide, hq⟩
end
end Lf

/-
  Floats as texts: when a scaled number is what it should be.
-/
namespace Lf
open Go.Pinned

/-! A fraction F / (B D), reckoned by N = x pm, which is at most x too much. -/

theorem zhr1 {F N x B D U : Nat} (h1 : (N - x) * B < F) (h2 : F ≤ N * B) (u0 : U * D ≤ N - x) (u1 : N < (U + 1) * D) : F / (B * D) = U ∧ ¬ B * D ∣ F := by
  have a1 := Nat.mul_le_mul_right B u0
  have a2 : N * B < (U + 1) * D * B ∨ B = 0 := by
    rcases Nat.eq_zero_or_pos B with hb | hb
    · exact .inr hb
    · exact .inl (Nat.mul_lt_mul_of_pos_right u1 hb)
  rcases a2 with a2 | hb
  · have e1 : U * D * B = U * (B * D) := by rw [Nat.mul_assoc, Nat.mul_comm D]
    have e2 : (U + 1) * D * B = (U + 1) * (B * D) := by rw [Nat.mul_assoc, Nat.mul_comm D]
    rw [e1] at a1
    rw [e2] at a2
    have e3 : (U + 1) * (B * D) = U * (B * D) + B * D := by rw [Nat.add_mul, Nat.one_mul]
    refine ⟨Nat.div_eq_of_lt_le (by omega) (by omega), fun ⟨j, hj⟩ => ?_⟩
    have l1 : U * (B * D) < B * D * j := by omega
    have l2 : B * D * j < (U + 1) * (B * D) := by omega
    rw [Nat.mul_comm] at l1
    have g1 : U < j := Nat.lt_of_mul_lt_mul_left l1
    rw [Nat.mul_comm (U + 1)] at l2
    have g2 : j < U + 1 := Nat.lt_of_mul_lt_mul_left l2
    omega
  · subst hb
    omega

/-- What must hold of a number, that it's scaled well: what looks whole is whole. -/
def WholeOk (F N B D : Nat) : Prop := N % D ≤ 18446744073709551616 ∨ D - 18446744073709551616 < N % D → B * D ∣ F

/-- An unrounded number: its whole part, and whether there is more. -/
def zav (F G : Nat) : Nat := F / G ||| (if G ∣ F then 0 else 1)

theorem zxe {x hi lo s A B : Nat} (hx : 0 < x) (hx1 : x < 18446744073709551616) (hl : lo < 18446744073709551616)
    (r1 : (hi * 18446744073709551616 - lo - 1) * B < A) (r2 : A ≤ (hi * 18446744073709551616 - lo) * B)
    (hc : WholeOk (x * A) (x * (hi * 18446744073709551616 - lo)) B (2 ^ 128 * 2 ^ s)) (hu : x * hi / 18446744073709551616 ≠ 0) :
    zqs x hi lo s = zav (x * A) (B * (2 ^ 128 * 2 ^ s)) := by
  have hB : 0 < B := by
    rcases Nat.eq_zero_or_pos B with h | h
    · subst h; omega
    · exact h
  generalize hP : hi * 18446744073709551616 - lo = P at *
  have hN : x * P = x * hi * 18446744073709551616 - x * lo := by rw [← hP, Nat.mul_sub, Nat.mul_assoc]
  have f1 : (x * P - x) * B < x * A := by
    have e : x * P - x = x * (P - 1) := by rw [Nat.mul_sub, Nat.mul_one]
    rw [e, Nat.mul_assoc]
    exact Nat.mul_lt_mul_of_pos_left r1 hx
  have f2 : x * A ≤ x * P * B := by
    rw [Nat.mul_assoc]
    exact Nat.mul_le_mul_left x r2
  generalize x * A = F at *
  have hxl : x * lo + x ≤ x * 18446744073709551616 := by
    have := Nat.mul_le_mul_left x (show lo + 1 ≤ 18446744073709551616 by omega)
    rw [Nat.mul_add, Nat.mul_one] at this
    exact this
  generalize hD : 2 ^ 128 * 2 ^ s = D at *
  have hS : 0 < 2 ^ s := Nat.two_pow_pos s
  have hD' : D = 340282366920938463463374607431768211456 * 2 ^ s := by rw [← hD]
  generalize hT : 2 ^ s = T at *
  unfold zqs
  dsimp only
  rw [hT]
  generalize hU : x * hi / 18446744073709551616 = u at *
  generalize hM : x * hi % 18446744073709551616 = mid at *
  generalize hM2 : x * lo / 18446744073709551616 = mid2 at *
  have ehi : x * hi = u * 18446744073709551616 + mid := by omega
  have elo : x * lo = mid2 * 18446744073709551616 + x * lo % 18446744073709551616 := by omega
  have rlt : x * lo % 18446744073709551616 < 18446744073709551616 := Nat.mod_lt _ (by decide)
  generalize x * lo % 18446744073709551616 = r at *
  generalize x * lo = X at *
  generalize x * hi = Y at *
  generalize hNN : x * P = N at *
  have eU := Nat.div_add_mod u T
  have tlt := Nat.mod_lt u hS
  have eUD : T * (u / T) * 340282366920938463463374607431768211456 = (u / T) * D := by rw [hD', Nat.mul_comm T, Nat.mul_assoc, Nat.mul_comm T]
  have eUD1 : (u / T + 1) * D = (u / T) * D + D := by rw [Nat.add_mul, Nat.one_mul]
  have eD : D = T * 340282366920938463463374607431768211456 := by rw [hD', Nat.mul_comm]
  have eb : u % T = 0 → u / T ≠ 0 → (u - 1) / T = u / T - 1 := fun c1 hu0 => by
    obtain ⟨k, hk⟩ := Nat.exists_eq_succ_of_ne_zero hu0
    have e := eU
    rw [hk, c1, Nat.mul_succ] at e
    rw [hk, show u - 1 = T * k + (T - 1) by omega, Nat.mul_add_div hS, Nat.div_eq_of_lt (show T - 1 < T by omega)]
    rfl
  have hu0 : u % T = 0 → u / T ≠ 0 := fun h0 h => by rw [h] at eU; omega
  generalize hV : u / T = V at *
  by_cases c1 : u % T ≠ 0
  · rw [if_pos c1]
    obtain ⟨g1, g2⟩ := zhr1 (U := V) (D := D) f1 f2 (by omega) (by omega)
    unfold zav
    rw [g1, if_neg g2]
  · rw [if_neg c1]
    have hu0 := hu0 (by omega)
    have eb := eb (by omega) hu0
    by_cases c2 : mid < mid2
    · rw [if_pos c2, if_pos (.inr c2)]
      have eU1 : (V - 1 + 1) * D = (V - 1) * D + D := by rw [Nat.add_mul, Nat.one_mul]
      have eU2 : V - 1 + 1 = V := by omega
      rw [eU2] at eU1
      obtain ⟨g1, g2⟩ := zhr1 (U := V - 1) (D := D) f1 f2 (by omega) (by rw [eU2]; omega)
      unfold zav
      rw [g1, if_neg g2, eb]
    · rw [if_neg c2, hV]
      by_cases c3 : mid2 + 1 < mid
      · rw [if_pos (.inl c3)]
        obtain ⟨g1, g2⟩ := zhr1 (U := V) (D := D) f1 f2 (by omega) (by omega)
        unfold zav
        rw [g1, if_neg g2]
      · rw [if_neg (fun h => by omega)]
        have hdv : B * D ∣ F := by
          refine hc ?_
          by_cases c4 : (V) * D ≤ N
          · left
            have : N = (V) * D + (N - (V) * D) := by omega
            rw [this, Nat.add_comm, Nat.add_mul_mod_self_right, Nat.mod_eq_of_lt (by omega)]
            omega
          · right
            have eU1 : (V - 1 + 1) * D = (V - 1) * D + D := by rw [Nat.add_mul, Nat.one_mul]
            rw [show V - 1 + 1 = V by omega] at eU1
            have : N = (V - 1) * D + (N - (V - 1) * D) := by omega
            rw [this, Nat.add_comm, Nat.add_mul_mod_self_right, Nat.mod_eq_of_lt (by omega)]
            omega
        unfold zav
        rw [if_pos hdv]
        obtain ⟨j, rfl⟩ := hdv
        have hBD : 0 < B * D := Nat.mul_pos hB (by rw [eD]; omega)
        rw [Nat.mul_div_cancel_left _ hBD]
        have ej : B * D * j = j * D * B := by rw [Nat.mul_comm, Nat.mul_comm B, Nat.mul_assoc]
        rw [ej] at f1 f2
        have j1 : N - x < j * D := Nat.lt_of_mul_lt_mul_right f1
        have j2 : j * D ≤ N := Nat.le_of_mul_le_mul_right f2 hB
        have : j = V := by
          have t1 : j * D < (V + 1) * D := by omega
          have t1 := Nat.lt_of_mul_lt_mul_right t1
          have eU1 : (V - 1 + 1) * D = (V - 1) * D + D := by rw [Nat.add_mul, Nat.one_mul]
          have eU2 : V - 1 + 1 = V := by omega
          rw [eU2] at eU1
          have t2 : (V - 1) * D < j * D := by omega
          have t2 := Nat.lt_of_mul_lt_mul_right t2
          omega
        rw [this]
end Lf

/-
  Floats as texts: no multiple of a power of ten comes too near a whole number, unless it is one.
-/
namespace Lf
open Go.Pinned

/-- Two steps of a lattice: k1 a is d1 above a multiple of M, k2 a is d2 below one. Smaller and smaller ones, till no factor below Y comes nearer. -/
def cfOk : Nat → Nat → Nat → Nat → Nat → Nat → Nat → Bool
  | 0, _, _, _, _, _, _ => false
  | fuel + 1, k1, d1, k2, d2, Y, W =>
    if Y ≤ k1 + k2 then decide (W < d1) && decide (W ≤ d2)
    else if d2 < d1 then
      let q := min ((d1 - 1) / d2) ((Y - k1 - k2 - 1) / k2 + 1)
      cfOk fuel (k1 + q * k2) (d1 - q * d2) k2 d2 Y W
    else
      let q := min ((d2 - 1) / d1) ((Y - k1 - k2 - 1) / k1 + 1)
      cfOk fuel k1 d1 (k2 + q * k1) (d2 - q * d1) Y W

theorem zut1 {a M k1 d1 k2 d2 c1 c2 y n r : Int} (hM : 0 < M) (p1 : 0 ≤ k1) (p2 : 0 ≤ k2) (q1 : 0 < d1) (q2 : 0 < d2) (e0 : k1 * d2 + k2 * d1 = M) (e1 : k1 * a = d1 + c1 * M) (e2 : k2 * a = c2 * M - d2)
    (hy : 0 < y) (hr : y * a = n * M + r) (h : (0 ≤ r ∧ r < d1) ∨ (r < 0 ∧ -d2 < r)) : k1 + k2 ≤ y := by
  have x1 : (y * c2 - k2 * n) * M = y * d2 + k2 * r := by grind
  have x2 : (k1 * n - y * c1) * M = y * d1 - k1 * r := by grind
  have u1 : (c2 * k1 - c1 * k2) * M = 1 * M := by grind
  have u1 : c2 * k1 - c1 * k2 = 1 := Int.eq_of_mul_eq_mul_right (by omega) u1
  have u2 : (c2 * d1 + c1 * d2) * M = a * M := by grind
  have u2 : c2 * d1 + c1 * d2 = a := Int.eq_of_mul_eq_mul_right (by omega) u2
  have y1 : y = (y * c2 - k2 * n) * k1 + (k1 * n - y * c1) * k2 := by grind
  have r1 : r = (y * c2 - k2 * n) * d1 - (k1 * n - y * c1) * d2 := by grind
  generalize y * c2 - k2 * n = α at *
  generalize k1 * n - y * c1 = β at *
  have yd2 : 0 < y * d2 := Int.mul_pos hy q2
  have yd1 : 0 < y * d1 := Int.mul_pos hy q1
  have pos : ∀ {z : Int}, 0 < z * M → 1 ≤ z := fun {z} hz => by
    rcases Int.lt_or_le 0 z with h | h
    · omega
    · have := Int.mul_nonpos_of_nonpos_of_nonneg h (show 0 ≤ M by omega)
      omega
  have both : 1 ≤ α → 1 ≤ β → k1 + k2 ≤ y := fun ha hb => by
    have t1 := Int.mul_le_mul_of_nonneg_right ha p1
    have t2 := Int.mul_le_mul_of_nonneg_right hb p2
    omega
  rcases h with ⟨h0, h1⟩ | ⟨h0, h1⟩
  · have k2r : 0 ≤ k2 * r := Int.mul_nonneg p2 h0
    have ha : 1 ≤ α := pos (by omega)
    refine both ha ?_
    rcases Int.lt_or_le 0 β with hb | hb
    · omega
    · have t1 := Int.mul_le_mul_of_nonneg_right ha (show 0 ≤ d1 by omega)
      have t2 := Int.mul_nonpos_of_nonpos_of_nonneg hb (show 0 ≤ d2 by omega)
      omega
  · have k1r : 0 ≤ k1 * (-r) := Int.mul_nonneg p1 (by omega)
    rw [Int.mul_neg] at k1r
    have hb : 1 ≤ β := pos (by omega)
    refine both ?_ hb
    rcases Int.lt_or_le 0 α with ha | ha
    · omega
    · have t1 := Int.mul_le_mul_of_nonneg_right hb (show 0 ≤ d2 by omega)
      have t2 := Int.mul_nonpos_of_nonpos_of_nonneg ha (show 0 ≤ d1 by omega)
      omega

theorem zws1 {a M Y W : Nat} (hM : 0 < M) : ∀ (fuel k1 d1 k2 d2 : Nat) (c1 c2 : Int), cfOk fuel k1 d1 k2 d2 Y W = true → 0 < d1 → 0 < d2 → k1 * d2 + k2 * d1 = M → (k1 : Int) * a = d1 + c1 * M → (k2 : Int) * a = c2 * M - d2 →
    ∀ y, 0 < y → y < Y → W < y * a % M ∧ y * a % M + W ≤ M := by
  intro fuel
  induction fuel with
  | zero => intro _ _ _ _ _ _ h; cases h
  | succ fuel ih =>
    intro k1 d1 k2 d2 c1 c2 h q1 q2 e0 e1 e2 y y0 y1
    unfold cfOk at h
    by_cases hY : Y ≤ k1 + k2
    · rw [if_pos hY, Bool.and_eq_true] at h
      have w1 := of_decide_eq_true h.1
      have w2 := of_decide_eq_true h.2
      have hdm := Nat.div_add_mod (y * a) M
      have hlt := Nat.mod_lt (y * a) hM
      have e0' : (k1 : Int) * d2 + k2 * d1 = M := by rw [← e0]; norm_cast
      have go := fun (n r : Int) (hr : (y : Int) * a = n * M + r) hc => zut1 (n := n) (r := r) (by omega) (by omega) (by omega) (by omega) (by omega) e0' e1 e2 (show 0 < (y : Int) by omega) hr hc
      constructor
      · refine Classical.byContradiction fun hh => ?_
        have := go ((y * a / M : Nat) : Int) ((y * a % M : Nat) : Int) (by rw [Int.mul_comm _ (M : Int)]; norm_cast; exact hdm.symm) (.inl ⟨by omega, by omega⟩)
        omega
      · refine Classical.byContradiction fun hh => ?_
        have := go ((y * a / M : Nat) + 1 : Int) (((y * a % M : Nat) : Int) - M) (by
          have : (y : Int) * a = M * ((y * a / M : Nat) : Int) + ((y * a % M : Nat) : Int) := by norm_cast; exact hdm.symm
          rw [this, Int.add_mul, Int.mul_comm (M : Int)]
          omega) (.inr ⟨by omega, by omega⟩)
        omega
    · rw [if_neg hY] at h
      by_cases hd : d2 < d1
      · rw [if_pos hd] at h
        dsimp only at h
        have hq : min ((d1 - 1) / d2) ((Y - k1 - k2 - 1) / k2 + 1) ≤ (d1 - 1) / d2 := Nat.min_le_left _ _
        generalize min ((d1 - 1) / d2) ((Y - k1 - k2 - 1) / k2 + 1) = q at *
        have hq : q * d2 ≤ d1 - 1 := Nat.le_trans (Nat.mul_le_mul_right _ hq) (Nat.div_mul_le_self _ _)
        refine ih _ _ _ _ (c1 + q * c2) c2 h (by omega) q2 ?_ ?_ e2 y y0 y1
        · rw [Nat.add_mul, Nat.mul_sub, ← e0]
          have : k2 * (q * d2) ≤ k2 * d1 := Nat.mul_le_mul_left _ (by omega)
          have : q * k2 * d2 = k2 * (q * d2) := by rw [Nat.mul_comm q, Nat.mul_assoc]
          omega
        · rw [Int.natCast_sub (by omega)]
          push_cast
          grind
      · rw [if_neg hd] at h
        dsimp only at h
        have hq : min ((d2 - 1) / d1) ((Y - k1 - k2 - 1) / k1 + 1) ≤ (d2 - 1) / d1 := Nat.min_le_left _ _
        generalize min ((d2 - 1) / d1) ((Y - k1 - k2 - 1) / k1 + 1) = q at *
        have hq : q * d1 ≤ d2 - 1 := Nat.le_trans (Nat.mul_le_mul_right _ hq) (Nat.div_mul_le_self _ _)
        refine ih _ _ _ _ c1 (c2 + q * c1) h q1 (by omega) ?_ e1 ?_ y y0 y1
        · rw [Nat.add_mul, Nat.mul_sub, ← e0]
          have : k1 * (q * d1) ≤ k1 * d2 := Nat.mul_le_mul_left _ (by omega)
          have : q * k1 * d1 = k1 * (q * d1) := by rw [Nat.mul_comm q, Nat.mul_assoc]
          omega
        · rw [Int.natCast_sub (by omega)]
          push_cast
          grind

/-- 10^p 2^(127 - L) as a fraction. -/
def numP (p : Int) : Nat := 10 ^ p.toNat * 2 ^ (127 - log2P p).toNat
def denP (p : Int) : Nat := 10 ^ (-p).toNat * 2 ^ (log2P p - 127).toNat
def pmP (p : Int) : Nat := hiP p * 18446744073709551616 - loP p

/-- May a number of 64 bits, of which the last t are 0, be scaled by 10^p, and by s bits? -/
def certP (p : Int) (s t : Nat) : Bool :=
  let M := 2 ^ (128 + s - t)
  decide (36893488147419103232 * denP p ≤ Nat.gcd (2 ^ t * numP p) (denP p * (2 ^ 128 * 2 ^ s))) ||
  (decide (0 < pmP p % M) && cfOk 200 1 (pmP p % M) 0 M (2 ^ (64 - t)) (2 ^ (64 - t)))

theorem zez1 {x A B N D g : Nat} (hx1 : x < 18446744073709551616) (f1 : (N - x) * B < x * A) (f2 : x * A ≤ N * B) (hg : g ∣ x * A) (hg2 : g ∣ B * D) (big : 36893488147419103232 * B ≤ g) (hD : 18446744073709551616 < D) (hB : 0 < B) : WholeOk (x * A) N B D := by
  intro h
  have hdm := Nat.div_add_mod N D
  have hlt := Nat.mod_lt N (show 0 < D by omega)
  generalize x * A = F at *
  obtain ⟨f, rfl⟩ := hg
  obtain ⟨b, hb⟩ := hg2
  have hg0 : 0 < g := by omega
  have near : ∀ j : Nat, g * f < j * (B * D) + g → j * (B * D) < g * f + g → g * f = j * (B * D) := fun j h1 h2 => by
    rw [hb] at h1 h2 ⊢
    have e : j * (g * b) = g * (j * b) := by rw [← Nat.mul_assoc, Nat.mul_comm j, Nat.mul_assoc]
    rw [e] at h1 h2 ⊢
    have h1 : g * f < g * (j * b + 1) := by rw [Nat.mul_add, Nat.mul_one]; exact h1
    have h2 : g * (j * b) < g * (f + 1) := by rw [Nat.mul_add, Nat.mul_one]; exact h2
    have h1 := Nat.lt_of_mul_lt_mul_left h1
    have h2 := Nat.lt_of_mul_lt_mul_left h2
    rw [show f = j * b by omega]
  have xB : x * B ≤ 18446744073709551615 * B := Nat.mul_le_mul_right B (by omega)
  have nB : (N - x) * B = N * B - x * B := Nat.sub_mul _ _ _
  have eN : N * B = N / D * (B * D) + N % D * B := by
    conv => lhs; rw [← hdm]
    rw [Nat.add_mul, Nat.mul_comm D, Nat.mul_assoc, Nat.mul_comm D]
  rcases h with h | h
  · have t1 : N % D * B ≤ 18446744073709551616 * B := Nat.mul_le_mul_right B h
    exact ⟨N / D, by rw [near (N / D) (by omega) (by omega), Nat.mul_comm]⟩
  · have e1 : (N / D + 1) * (B * D) = N / D * (B * D) + B * D := by rw [Nat.add_mul, Nat.one_mul]
    have t1 : (D - 18446744073709551616) * B ≤ N % D * B := Nat.mul_le_mul_right B (by omega)
    rw [Nat.sub_mul] at t1
    have t2 : N % D * B ≤ D * B := Nat.mul_le_mul_right B (by omega)
    have t3 : 18446744073709551616 * B ≤ D * B := Nat.mul_le_mul_right B (by omega)
    have e2 : D * B = B * D := Nat.mul_comm _ _
    exact ⟨N / D + 1, by rw [near (N / D + 1) (by omega) (by omega), Nat.mul_comm]⟩

/-- What a row of the table is. -/
def rowOk (p : Int) : Bool := decide ((pmP p - 1) * denP p < numP p) && decide (numP p ≤ pmP p * denP p)

theorem zuu1 : ∀ i : Nat, i < 696 → rowOk ((i : Int) - 348) = true := by decide +kernel

theorem zph1 {p : Int} (h0 : -348 ≤ p) (h1 : p ≤ 347) : (pmP p - 1) * denP p < numP p ∧ numP p ≤ pmP p * denP p := by
  have := zuu1 (p + 348).toNat (by omega)
  rw [show (((p + 348).toNat : Nat) : Int) - 348 = p by omega] at this
  unfold rowOk at this
  rw [Bool.and_eq_true] at this
  exact ⟨of_decide_eq_true this.1, of_decide_eq_true this.2⟩

theorem zbm1 {p : Int} {s t y : Nat} (h0 : -348 ≤ p) (h1 : p ≤ 347) (ht : t < 64) (hc : certP p s t = true) (hy : 0 < y) (hy1 : y < 2 ^ (64 - t)) :
    WholeOk (2 ^ t * y * numP p) (2 ^ t * y * pmP p) (denP p) (2 ^ 128 * 2 ^ s) := by
  obtain ⟨r1, r2⟩ := zph1 h0 h1
  have hB : 0 < denP p := by
    rcases Nat.eq_zero_or_pos (denP p) with h | h
    · rw [h] at r1 r2; omega
    · exact h
  have hx1 : 2 ^ t * y < 18446744073709551616 := by
    have := Nat.mul_lt_mul_of_pos_left hy1 (Nat.two_pow_pos t)
    rw [← Nat.pow_add, show t + (64 - t) = 64 by omega] at this
    exact this
  have hx : 0 < 2 ^ t * y := Nat.mul_pos (Nat.two_pow_pos t) hy
  have hD : 18446744073709551616 < 2 ^ 128 * 2 ^ s := by
    have := Nat.mul_le_mul_left (2 ^ 128) (Nat.two_pow_pos s)
    have : 2 ^ 128 * 1 ≤ 2 ^ 128 * 2 ^ s := this
    omega
  unfold certP at hc
  dsimp only at hc
  rw [Bool.or_eq_true, Bool.and_eq_true] at hc
  rcases hc with hc | ⟨hc1, hc2⟩
  · have hc := of_decide_eq_true hc
    refine zez1 (g := Nat.gcd (2 ^ t * numP p) (denP p * (2 ^ 128 * 2 ^ s))) hx1 ?_ ?_ ?_ (Nat.gcd_dvd_right _ _) hc hD hB
    · have e : 2 ^ t * y * pmP p - 2 ^ t * y = 2 ^ t * y * (pmP p - 1) := by rw [Nat.mul_sub, Nat.mul_one]
      rw [e, Nat.mul_assoc]
      exact Nat.mul_lt_mul_of_pos_left r1 hx
    · rw [Nat.mul_assoc (2 ^ t * y)]
      exact Nat.mul_le_mul_left _ r2
    · refine Nat.dvd_trans (Nat.gcd_dvd_left _ _) ⟨y, ?_⟩
      rw [Nat.mul_assoc, Nat.mul_comm y, ← Nat.mul_assoc]
  · have hc1 := of_decide_eq_true hc1
    intro hw
    exfalso
    have hM : 0 < 2 ^ (128 + s - t) := Nat.two_pow_pos _
    have eD : 2 ^ 128 * 2 ^ s = 2 ^ t * 2 ^ (128 + s - t) := by rw [← Nat.pow_add, ← Nat.pow_add]; congr 1; omega
    generalize 2 ^ (128 + s - t) = M at *
    have lt := Nat.mod_lt (pmP p) hM
    have hdm := Nat.div_add_mod (pmP p) M
    have far := zws1 hM 200 1 (pmP p % M) 0 M (a := pmP p) ((pmP p / M : Nat) : Int) 1 hc2 hc1 hM (by omega) (by
      have : (pmP p : Int) = ((M : Nat) : Int) * ((pmP p / M : Nat) : Int) + ((pmP p % M : Nat) : Int) := by norm_cast; exact hdm.symm
      rw [Int.mul_comm _ ((M : Nat) : Int), this]
      show (1 : Int) * _ = _
      generalize ((pmP p / M : Nat) : Int) = k
      generalize ((pmP p % M : Nat) : Int) = l
      omega) (by omega) y hy hy1
    have eW : 18446744073709551616 = 2 ^ t * 2 ^ (64 - t) := by rw [← Nat.pow_add, show t + (64 - t) = 64 by omega]
    rw [eD, Nat.mul_assoc, Nat.mul_mod_mul_left, eW, ← Nat.mul_sub] at hw
    rcases hw with hw | hw
    · have := Nat.le_of_mul_le_mul_left hw (Nat.two_pow_pos t)
      omega
    · have := Nat.lt_of_mul_lt_mul_left hw
      omega
end Lf

/-
  Floats as texts: all scalings of the shortest digits are exact.
-/
namespace Lf

def certE (e p : Int) : Bool := certP p (-(e + log2P p + 3)).toNat 9
def certS (i : Nat) : Bool := certE ((i : Int) - 1085) (-zhm ((i : Int) - 1074)) && certE ((i : Int) - 1085) (-skewP ((i : Int) - 1074))

theorem zkd1 : ∀ i : Nat, i < 2060 → certS i = true := by decide +kernel
end Lf

/-
  Floats as texts: the shortest digits.
-/
namespace Lf
open Go Go.Proofs Go.Pinned

section
variable {h : Hp}

theorem Pow10.known (t : Pow10 h) : h 8 ≠ none := by
  have e := t 0 (.int .u64 ((pow10Rows.getD 0 (0, 0)).1 : Int)) (by
    have := (flat2 (l := pow10Rows) (i := 0) (x := pow10Rows.getD 0 (0, 0)) (by
      have hl : 0 < pow10Rows.length := by rw [zey1]; decide
      simp [List.getD, List.getElem?_eq_getElem hl])).1
    exact this)
  obtain ⟨o, ho⟩ := zvd e
  have ho : h 8 = some o := ho
  rw [ho]
  simp

theorem andi1 {s : Nat} (hs : s < 9223372036854775808) : bitsI .and .i64 (IntKind.wrap .i64 (s : Int)) (1 : Int) = ((s % 2 : Nat) : Int) := by
  rw [zaf (by omega) (by omega)]
  unfold bitsI
  dsimp only
  show IntKind.wrap .i64 (((BitVec.ofInt 64 (s : Int)) &&& (BitVec.ofInt 64 1)).toNat : Int) = _
  rw [BitVec.toNat_and, zjl (by omega), show (BitVec.ofInt 64 1).toNat = 2 ^ 1 - 1 by decide, Nat.and_two_pow_sub_one_eq_mod, zaf (by omega) (by omega), Nat.pow_one]

theorem zuv1 {n : Nat} : ((n % 2 : Nat) : Int) = if (n % 2 == 1) = true then 1 else 0 := by
  by_cases h : n % 2 = 1
  · rw [if_pos (by simpa using h), h]; rfl
  · rw [if_neg (by simpa using h), show n % 2 = 0 by omega]; rfl

theorem zbn1 {x hi lo s : Nat} (hx : x < 18446744073709551616) (hh : hi < 18446744073709551616) : zqs x hi lo s < 18446744073709551616 := by
  have hul : x * hi / 18446744073709551616 < 18446744073709551616 := Nat.div_lt_of_lt_mul (Nat.lt_of_lt_of_le (Nat.mul_lt_mul_of_lt_of_lt hx hh) (Nat.le_refl _))
  have hdiv : ∀ {v : Nat}, v < 18446744073709551616 → v / 2 ^ s < 18446744073709551616 := fun hv => Nat.lt_of_le_of_lt (Nat.div_le_self _ _) hv
  have o1 : ∀ {v k : Nat}, v < 18446744073709551616 → k < 18446744073709551616 → v ||| k < 18446744073709551616 := fun {v k} hv hk => Nat.or_lt_two_pow (n := 64) hv hk
  unfold zqs
  dsimp only
  split
  · exact o1 (hdiv hul) (by omega)
  · exact o1 (hdiv (by split <;> omega)) (by split <;> omega)

theorem zke1 {u : Nat} {a b : Bool} (hu : u < 18446744073709551616) : zmn u a b < 18446744073709551616 := by
  unfold zmn
  split
  · exact Nat.mod_lt _ (by decide)
  · exact hu

theorem zxw {x hi : Nat} (hx : 2305843009213693952 ≤ x) (hh : 9223372036854775808 ≤ hi) : x * hi / 18446744073709551616 ≠ 0 := by
  have := Nat.mul_le_mul hx hh
  have : 2305843009213693952 * 9223372036854775808 ≤ x * hi := this
  generalize x * hi = z at *
  omega

theorem zse1 {m : Nat} {e : Int} {Q : Int → Int → Hp → Prop} (m0 : 9223372036854775808 ≤ m) (m1 : m + 2 ^ zP e ≤ 18446744073709551616) (h0 : -1137 ≤ e) (h1 : e ≤ 974) (t : Pow10 h)
    (hk : ∀ h', h ≤ h' → Q ((zbj m e).1 : Int) (zbj m e).2 h') : zce Tryz.prog m e Q h := by
  obtain ⟨p0, p1, s0, s1⟩ := p_in (m := m) h0 h1
  have hz : 11 ≤ zP e ∧ zP e ≤ 63 := by unfold zP; split <;> omega
  have hz1 : 2 ^ zP e = 2 * 2 ^ (zP e - 1) := by rw [← Nat.pow_succ']; congr 1; omega
  have hzm : 2 ^ (zP e - 1) ≤ 4611686018427387904 := by
    have : 2 ^ (zP e - 1) ≤ 2 ^ 62 := Nat.pow_le_pow_right (by decide) (by omega)
    exact this
  have hz0 : 1024 ≤ 2 ^ (zP e - 1) := by
    have : 2 ^ 10 ≤ 2 ^ (zP e - 1) := Nat.pow_le_pow_right (by decide) (by omega)
    exact this
  have hodd : ∀ {z : Int}, z = (zP e : Int) → bitsI .and .i64 (IntKind.wrap .i64 (shrI .u64 (m : Int) z)) (1 : Int) = if oddP m e = true then 1 else 0 := fun {z} hz' => by
    subst hz'
    rw [shrN m (by omega), andi1, zuv1]
    · rfl
    · have : m / 2 ^ zP e ≤ m / 2 ^ 11 := Nat.div_le_div_left (Nat.pow_le_pow_right (by decide) hz.1) (by decide)
      omega
  have one : ∀ {z : Int} (n : Nat), z = (n : Int) → n ≤ 62 → shlI .u64 (1 : Int) z = ((2 ^ n : Nat) : Int) := fun {z} n hn hl => by
    subst hn
    have := shlN (x := 1) (n := n) (by omega) (by
      have : 2 ^ n ≤ 2 ^ 62 := Nat.pow_le_pow_right (by decide) hl
      omega)
    rw [Nat.one_mul] at this
    exact this
  unfold zce
  refine JoinW2.direct ?_
  dsimp only
  rw [show IntKind.wrap .i64 ((63 : Int) - (52 : Int)) = 11 by decide]
  refine JoinW4.intro (fun p mn mx od k => k = h ∧ p = pP m e ∧ mn = ((minP m e : Nat) : Int) ∧ mx = ((maxP m e : Nat) : Int) ∧ od = if oddP m e = true then 1 else 0) (letW ?_) ?_
  · by_cases hc : m = 9223372036854775808 ∧ -1085 < e
    · have hze : zP e = 11 := by unfold zP; rw [if_pos (by omega)]
      refine iteT (by rw [Bool.and_eq_true]; exact ⟨by rw [beq_iff_eq]; omega, decide_eq_true (by omega)⟩) ?_
      rw [zaf (n := e + 11) (by omega) (by omega)]
      refine zoe (zur1 (by omega) (by omega) ⟨by decide, by decide, by decide, rfl, ?_, ?_, ?_, ?_⟩)
      · have : -5000 ≤ skewP (e + 11) ∧ skewP (e + 11) ≤ 5000 := by unfold skewP; omega
        rw [zaf (by omega) (by omega)]
        unfold pP
        rw [if_pos hc]
        omega
      · rw [one 9 (by decide) (by decide), zao]
        unfold minP
        rw [if_pos hc]
        omega
      · rw [one 10 (by decide) (by decide), zao]
        unfold maxP
        rw [hze]
        omega
      · exact hodd (by rw [hze]; rfl)
    · refine iteF (fun hh => hc (by rw [Bool.and_eq_true, beq_iff_eq] at hh; exact ⟨by omega, of_decide_eq_true hh.2⟩)) ?_
      have hp : pP m e = -zhm (e + (zP e : Int)) := by unfold pP; rw [if_neg hc]
      have hmn : minP m e = m - 2 ^ (zP e - 1) := by unfold minP; rw [if_neg hc]
      by_cases hd : -1085 ≤ e
      · have hze : zP e = 11 := by unfold zP; rw [if_pos hd]
        refine iteT (decide_eq_true hd) ?_
        rw [zaf (n := e + 11) (by omega) (by omega)]
        refine zdp (zdb1 (by omega) (by omega) ⟨by decide, by decide, by decide, rfl, ?_, ?_, ?_, ?_⟩)
        · have : -5000 ≤ zhm (e + 11) ∧ zhm (e + 11) ≤ 5000 := by unfold zhm; omega
          rw [zaf (by omega) (by omega), hp, hze, Int.zero_sub]
          rfl
        · rw [one 10 (by decide) (by decide), zao, hmn, hze]
          omega
        · rw [one 10 (by decide) (by decide), zao]
          unfold maxP
          rw [hze]
          omega
        · exact hodd (by rw [hze]; rfl)
      · have hze : (zP e : Int) = 11 + (-1085 - e) := by unfold zP; rw [if_neg hd]; omega
        refine iteF (fun hh => hd (of_decide_eq_true hh)) ?_
        have e1 : IntKind.wrap .i64 ((11 : Int) + IntKind.wrap .i64 ((-1085 : Int) - e)) = (zP e : Int) := by rw [zaf (n := -1085 - e) (by omega) (by omega), zaf (by omega) (by omega), hze]
        have e2 : IntKind.wrap .i64 ((zP e : Int) - 1) = ((zP e - 1 : Nat) : Int) := by rw [zaf (by omega) (by omega)]; omega
        rw [e1, e2, zaf (n := e + (zP e : Int)) (by omega) (by omega)]
        refine zdp (zdb1 (by omega) (by omega) ⟨by omega, by omega, by omega, rfl, ?_, ?_, ?_, ?_⟩)
        · have : -5000 ≤ zhm (e + (zP e : Int)) ∧ zhm (e + (zP e : Int)) ≤ 5000 := by unfold zhm; omega
          rw [zaf (by omega) (by omega), hp]
          omega
        · rw [one (zP e - 1) rfl (by omega), zao, hmn]
          omega
        · rw [one (zP e - 1) rfl (by omega), zao]
          unfold maxP
          omega
        · exact hodd rfl
  · rintro p mn mx od k ⟨rfl, rfl, rfl, rfl, rfl⟩
    have bn : 2305843009213693952 ≤ minP m e ∧ minP m e < 18446744073709551616 := by unfold minP; split <;> omega
    have bx : 2305843009213693952 ≤ maxP m e ∧ maxP m e < 18446744073709551616 := by unfold maxP; omega
    obtain ⟨r0, r1, r2⟩ := zbl1 p0 p1
    intro b ty hb
    have hb11 : b ≠ 8 := fun e1 => t.known (e1 ▸ hb)
    have hle := zlj (o := .cells #[.int .u64 (0 : Int), .int .u64 (0 : Int), .int .i64 (0 : Int)] ty (0, 0)) hb
    have kb : Blk (k.set b (.cells #[.int .u64 (0 : Int), .int .u64 (0 : Int), .int .i64 (0 : Int)] ty (0, 0))) b [.int .u64 (0 : Int), .int .u64 (0 : Int), .int .i64 (0 : Int)] := ⟨ty, zkf⟩
    refine zdr (zhp1 (by omega) (by omega) ?_)
    refine zdz (zhq1 kb (zbc hle t) hb11 p0 p1 rfl s0 s1 fun k1 mv sc => ?_)
    have hle1 : k ≤ k1 := fun c o hc => mv.keep c o (hle c o hc) (by
      simp only [List.mem_singleton]
      intro e1
      rw [e1, hb] at hc
      cases hc)
    have scale : ∀ {x : Nat} {Q' : Int → Hp → Prop}, 2305843009213693952 ≤ x → x < 18446744073709551616 → Q' ((sclP m e x : Nat) : Int) k1 → CallT Tryz.prog zbs [(.int .u64 (x : Int)), (.pointer (some ⟨b, 0, none⟩))] (shInt .u64) Q' k1 := fun {x Q'} x0 x1 hq =>
      zeu (zex1 x1 r1 r2 (by omega) (zxw x0 r0) sc hq)
    have slt : ∀ {x : Nat}, x < 18446744073709551616 → sclP m e x < 18446744073709551616 := fun hx => zbn1 hx r1
    refine scale bn.1 bn.2 ?_
    refine zef (zkc1 (odd := oddP m e) (up := true) (slt bn.2) (by simp) ?_)
    refine ziz (zus1 ?_)
    refine scale bx.1 bx.2 ?_
    refine zef (zkc1 (odd := oddP m e) (up := false) (slt bx.2) (by cases oddP m e <;> decide) ?_)
    refine ziq (zsd1 (zke1 (slt bx.2)) ⟨by decide, ?_⟩)
    have hdx : dmaxP m e = zmn (sclP m e (maxP m e)) (oddP m e) false / 4 := rfl
    have hdn : dminP m e = (zmn (sclP m e (minP m e)) (oddP m e) true + 3) % 18446744073709551616 / 4 := rfl
    have ldx : dmaxP m e < 18446744073709551616 := by rw [hdx]; have := zke1 (a := oddP m e) (b := false) (slt bx.2); omega
    rw [← hdx, ← hdn]
    have e1 : IntKind.wrap .u64 (Int.tdiv ((dmaxP m e : Nat) : Int) (10 : Int)) = ((dmaxP m e / 10 : Nat) : Int) := by
      rw [Int.tdiv_eq_ediv_of_nonneg (by omega), zao]
      omega
    have e2 : IntKind.wrap .u64 (((dmaxP m e / 10 : Nat) : Int) * (10 : Int)) = ((dmaxP m e / 10 * 10 : Nat) : Int) := by
      rw [zao]
      omega
    rw [e1, e2]
    have hk1 := hk k1 hle1
    unfold zbj at hk1
    by_cases c1 : dminP m e ≤ dmaxP m e / 10 * 10
    · rw [if_pos c1] at hk1
      refine iteT (decide_eq_true (by omega)) ?_
      rw [zaf (n := pP m e - 1) (by omega) (by omega), zaf (by omega) (by omega), Int.zero_sub]
      exact hk1
    · rw [if_neg c1] at hk1
      refine iteF (fun hh => c1 (by have := of_decide_eq_true hh; omega)) ?_
      rw [zaf (n := 0 - pP m e) (by omega) (by omega), Int.zero_sub]
      by_cases c2 : dminP m e < dmaxP m e
      · rw [if_pos c2] at hk1
        refine iteT (decide_eq_true (by omega)) ?_
        refine scale (by omega) (by omega) ?_
        exact zbd (zxv (slt (by omega)) hk1)
      · rw [if_neg c2] at hk1
        exact iteF (fun hh => c2 (by have := of_decide_eq_true hh; omega)) hk1
end
end Lf

/-
  Floats as texts: what is scaled for the shortest digits, as it is.
-/
namespace Lf

/-- 2^a 10^b, in a unit so small that it is whole. -/
def unitW (a b : Int) : Nat := 2 ^ (a + 5000).toNat * 10 ^ (b + 5000).toNat

theorem zbx (a b : Int) : 0 < unitW a b := Nat.mul_pos (Nat.two_pow_pos _) (Nat.pow_pos (by decide))

theorem zcp {a b : Int} {n : Nat} (h : -5000 ≤ a) : 2 ^ n * unitW a b = unitW (a + n) b := by
  unfold unitW
  rw [← Nat.mul_assoc, ← Nat.pow_add]
  congr 2
  omega

theorem zhz {a b : Int} {n : Nat} (h : -5000 ≤ b) : 10 ^ n * unitW a b = unitW a (b + n) := by
  unfold unitW
  rw [Nat.mul_left_comm, ← Nat.pow_add]
  congr 2
  omega

theorem zkf1 {p a b : Int} (h0 : -348 ≤ p) (h1 : p ≤ 347) (a0 : -3000 ≤ a) (b0 : -3000 ≤ b) : numP p * unitW a b = denP p * unitW (a + 127 - log2P p) (b + p) := by
  have hl : -1200 ≤ log2P p ∧ log2P p ≤ 1200 := by unfold log2P; omega
  unfold numP denP unitW
  generalize log2P p = L at *
  have e : ∀ i j k l : Nat, 10 ^ i * 2 ^ j * (2 ^ k * 10 ^ l) = 2 ^ (j + k) * 10 ^ (i + l) := fun i j k l => by
    rw [Nat.pow_add, Nat.pow_add]
    ac_rfl
  rw [e, e]
  congr 2 <;> omega

attribute [irreducible] unitW

theorem zfa1 {F G F' G' : Nat} (hG : 0 < G) (hG' : 0 < G') (h : F * G' = F' * G) : zav F G = zav F' G' := by
  have e1 : F / G = F' / G' := by
    rw [← Nat.mul_div_mul_right F G hG', h, Nat.mul_comm G, Nat.mul_div_mul_right F' G' hG]
  have e2 : G ∣ F ↔ G' ∣ F' := by
    rw [← Nat.mul_dvd_mul_iff_right hG', h, Nat.mul_comm G, Nat.mul_dvd_mul_iff_right hG]
  unfold zav
  rw [e1]
  by_cases h : G' ∣ F'
  · rw [if_pos h, if_pos (e2.2 h)]
  · rw [if_neg h, if_neg (fun hh => h (e2.1 hh))]

theorem WholeOk.mul {F N B D c : Nat} (h : WholeOk F N B D) (hc : 0 < c) : WholeOk (c * F) (c * N) B (c * D) := by
  intro hh
  rw [Nat.mul_mod_mul_left] at hh
  have e : B * (c * D) = c * (B * D) := Nat.mul_left_comm _ _ _
  rw [e]
  refine Nat.mul_dvd_mul_left c (h ?_)
  rcases hh with hh | hh
  · left
    have l1 := Nat.mul_le_mul_right (N % D) hc
    omega
  · right
    refine Classical.byContradiction fun hn => ?_
    by_cases hd : D < 18446744073709551616
    · have : N % D = 0 := by omega
      rw [this, Nat.mul_zero] at hh
      omega
    · have t := Nat.mul_le_mul_left c (show N % D + 18446744073709551616 ≤ D by omega)
      rw [Nat.mul_add] at t
      omega

/-- A multiple of 2^9 with its power of ten. -/
theorem zfb1 {x : Nat} {p : Int} {s : Nat} (h0 : -348 ≤ p) (h1 : p ≤ 347) (hc : certP p s 9 = true) (hx : 0 < x) (hx1 : x < 18446744073709551616) (hd : x % 512 = 0) :
    WholeOk (x * numP p) (x * pmP p) (denP p) (2 ^ 128 * 2 ^ s) := by
  have := zbm1 (y := x / 512) h0 h1 (by decide) hc (by omega) (by
    show x / 512 < 2 ^ 55
    omega)
  rw [show (2 : Nat) ^ 9 * (x / 512) = x by omega] at this
  exact this

theorem s_in {m : Nat} {e : Int} (h0 : -1137 ≤ e) (h1 : e ≤ 974) : 4 ≤ (-(e + log2P (pP m e) + 3)).toNat := by
  unfold pP
  split
  · unfold skewP log2P
    omega
  · unfold zP zhm log2P
    split <;> omega

theorem zhs1 {m x : Nat} {e : Int} (h0 : -1137 ≤ e) (h1 : e ≤ 974) (hx : 0 < x) (hx1 : x < 18446744073709551616)
    (hd : x % 2 ^ (if -1085 ≤ e then 9 else zP e - 1) = 0) :
    WholeOk (x * numP (pP m e)) (x * pmP (pP m e)) (denP (pP m e)) (2 ^ 128 * 2 ^ (-(e + log2P (pP m e) + 3)).toNat) := by
  obtain ⟨p0, p1, s0, s1⟩ := p_in (m := m) h0 h1
  by_cases he : -1085 ≤ e
  · rw [if_pos he] at hd
    refine zfb1 p0 p1 ?_ hx hx1 hd
    have c := zkd1 (e + 1085).toNat (by omega)
    unfold certS certE at c
    rw [Bool.and_eq_true, show (((e + 1085).toNat : Nat) : Int) - 1085 = e by omega, show (((e + 1085).toNat : Nat) : Int) - 1074 = e + 11 by omega] at c
    unfold pP zP
    rw [if_pos he]
    split
    · exact c.2
    · exact c.1
  · rw [if_neg he] at hd
    have hz : zP e = (11 + (-1085 - e)).toNat := by unfold zP; rw [if_neg he]
    have hp : pP m e = 324 := by
      unfold pP
      rw [if_neg (fun h => by omega), hz, show e + (((11 + (-1085 - e)).toNat : Nat) : Int) = -1074 by omega]
      decide
    have c := zkd1 0 (by decide)
    unfold certS certE at c
    rw [Bool.and_eq_true] at c
    have c := c.1
    rw [show -zhm (((0 : Nat) : Int) - 1074) = 324 by decide] at c
    rw [hp]
    have hl : log2P 324 = 1076 := by decide
    rw [hl] at c ⊢
    obtain ⟨k, hk⟩ : ∃ k : Nat, e = -1085 - (k : Int) := ⟨(-1085 - e).toNat, by omega⟩
    have hz : zP e = 11 + k := by rw [hz]; omega
    rw [hz, show 11 + k - 1 = 10 + k by omega] at hd
    obtain ⟨y, rfl⟩ := Nat.dvd_of_mod_eq_zero hd
    have hk0 := Nat.two_pow_pos k
    have ex : 2 ^ (10 + k) * y = 2 ^ k * (1024 * y) := by rw [Nat.pow_add, Nat.mul_comm (2 ^ 10), Nat.mul_assoc]
    rw [ex] at hx hx1 ⊢
    have es : (-(e + 1076 + 3)).toNat = k + 6 := by omega
    have es0 : (-(((0 : Nat) : Int) - 1085 + 1076 + 3)).toNat = 6 := by decide
    rw [es0] at c
    have := (zfb1 (x := 1024 * y) (by decide) (by decide) c (by
      rcases Nat.eq_zero_or_pos y with h | h
      · subst h; simp at hx
      · omega) (by
      have := Nat.mul_le_mul_right (1024 * y) hk0
      omega) (by omega)).mul hk0
    rw [es, show 2 ^ 128 * 2 ^ (k + 6) = 2 ^ k * (2 ^ 128 * 2 ^ 6) by rw [Nat.pow_add]; ac_rfl]
    rw [Nat.mul_assoc, Nat.mul_assoc (2 ^ k)]
    exact this

/-- What is scaled: four times the number, in units of its power of ten, and whether there is more. -/
theorem zpi1 {m x : Nat} {e : Int} (h0 : -1137 ≤ e) (h1 : e ≤ 974) (hx : 2305843009213693952 ≤ x) (hx1 : x < 18446744073709551616)
    (hd : x % 2 ^ (if -1085 ≤ e then 9 else zP e - 1) = 0) : sclP m e x = zav (4 * (x * unitW e 0)) (unitW 0 (-pP m e)) := by
  obtain ⟨p0, p1, s0, s1⟩ := p_in (m := m) h0 h1
  obtain ⟨t1, t2, t3⟩ := zbl1 p0 p1
  obtain ⟨r1, r2⟩ := zph1 p0 p1
  have hw := zhs1 (m := m) h0 h1 (show 0 < x by omega) hx1 hd
  have hB : 0 < denP (pP m e) := by
    rcases Nat.eq_zero_or_pos (denP (pP m e)) with h | h
    · rw [h] at r1 r2; omega
    · exact h
  unfold sclP
  have big := zxw hx t1
  unfold pmP at r1 r2 hw
  rw [zxe (by omega) hx1 t3 r1 r2 hw big]
  have hl : -1200 ≤ log2P (pP m e) ∧ log2P (pP m e) ≤ 1200 := by unfold log2P; omega
  refine zfa1 (Nat.mul_pos hB (Nat.mul_pos (Nat.two_pow_pos _) (Nat.two_pow_pos _))) (zbx _ _) ?_
  have e1 := zkf1 (a := 0) (b := -pP m e) p0 p1 (by decide) (by omega)
  have e2 := zcp (a := e) (b := 0) (n := 2 + 128 + (-(e + log2P (pP m e) + 3)).toNat) (by omega)
  rw [show (0 : Int) + 127 - log2P (pP m e) = e + ((2 + 128 + (-(e + log2P (pP m e) + 3)).toNat : Nat) : Int) by omega, show -pP m e + pP m e = 0 by omega, ← e2] at e1
  have e3 : ∀ n : Nat, 2 ^ (2 + 128 + n) = 4 * (2 ^ 128 * 2 ^ n) := fun n => by rw [Nat.pow_add, Nat.pow_add, Nat.mul_assoc]
  rw [e3] at e1
  rw [Nat.mul_assoc, e1]
  generalize 2 ^ 128 * 2 ^ (-(e + log2P (pP m e) + 3)).toNat = z
  generalize denP (pP m e) = y
  generalize unitW e 0 = E
  ac_rfl
end Lf

/-
  Floats as texts: what comes of unrounded numbers.
-/
namespace Lf

theorem ztq1 (k : Nat) : k ||| 1 = 2 * (k / 2) + 1 := by
  have h1 := Nat.or_div_two (a := k) (b := 1)
  have h2 := (Nat.or_mod_two_eq_one (a := k) (b := 1)).2 (.inr rfl)
  rw [show 1 / 2 = 0 by decide, Nat.or_zero] at h1
  omega

theorem zws {F G c : Nat} (hG : 0 < G) (hc : c % 2 = 0) : (zav F G ≤ c ↔ F ≤ c * G) ∧ (zav F G < c ↔ F < c * G) := by
  have hdm := Nat.div_add_mod F G
  have hlt := Nat.mod_lt F hG
  have hk : ∀ {a b : Nat}, a ≤ b → G * a ≤ G * b := fun h => Nat.mul_le_mul_left G h
  have hs : ∀ a : Nat, G * (a + 1) = G * a + G := fun a => by rw [Nat.mul_add, Nat.mul_one]
  unfold zav
  rw [Nat.mul_comm c]
  by_cases h : G ∣ F
  · rw [if_pos h, Nat.or_zero]
    have hz : F % G = 0 := Nat.mod_eq_zero_of_dvd h
    generalize F / G = k at *
    constructor
    · constructor
      · intro h; have := hk h; omega
      · intro h; refine Classical.byContradiction fun hn => ?_
        have := hk (show c + 1 ≤ k by omega); rw [hs] at this; omega
    · constructor
      · intro h; have := hk (show k + 1 ≤ c by omega); rw [hs] at this; omega
      · intro h; refine Classical.byContradiction fun hn => ?_
        have := hk (show c ≤ k by omega); omega
  · rw [if_neg h, ztq1]
    have hz : F % G ≠ 0 := fun e => h (Nat.dvd_of_mod_eq_zero e)
    generalize F / G = k at *
    constructor
    · constructor
      · intro h; have := hk (show k + 1 ≤ c by omega); rw [hs] at this; omega
      · intro h; refine Classical.byContradiction fun hn => ?_
        have := hk (show c ≤ k by omega); omega
    · constructor
      · intro h; have := hk (show k + 1 ≤ c by omega); rw [hs] at this; omega
      · intro h; refine Classical.byContradiction fun hn => ?_
        have := hk (show c ≤ k by omega); omega

section
variable {F T U d : Nat}

theorem zwt (hT : 0 < T) (hU : U = zav (4 * F) T) (c : Nat) : (U ≤ 4 * c ↔ F ≤ c * T) ∧ (U < 4 * c ↔ F < c * T) := by
  have h := zws (F := 4 * F) (G := T) (c := 4 * c) hT (by omega)
  rw [← hU, Nat.mul_assoc] at h
  omega

theorem zpj1 (hT : 0 < T) (hU : U = zav (4 * F) T) (c : Nat) : (U ≤ 4 * c + 2 ↔ 2 * F ≤ 2 * (c * T) + T) ∧ (U < 4 * c + 2 ↔ 2 * F < 2 * (c * T) + T) := by
  have h := zws (F := 4 * F) (G := T) (c := 4 * c + 2) hT (by omega)
  rw [← hU, Nat.add_mul, Nat.mul_assoc] at h
  omega

theorem zpk1 (hT : 0 < T) (hU : U = zav (4 * F) T) (hb : U < 18446744073709551000) : (zmn U false true + 3) % 18446744073709551616 / 4 ≤ d ↔ F ≤ d * T := by
  have h := (zwt hT hU d).1
  unfold zmn
  simp only [Bool.false_eq_true, if_false]
  omega

theorem zsf1 (hT : 0 < T) (hU : U = zav (4 * F) T) (hb : U < 18446744073709551000) : (zmn U true true + 3) % 18446744073709551616 / 4 ≤ d ↔ F < d * T := by
  have h := (zwt hT hU d).2
  unfold zmn
  simp only [if_true]
  omega

theorem zlz1 (hT : 0 < T) (hU : U = zav (4 * F) T) (_ : U < 18446744073709551000) : d ≤ zmn U false false / 4 ↔ d * T ≤ F := by
  have h := (zwt hT hU d).2
  unfold zmn
  simp only [Bool.false_eq_true, if_false]
  omega

theorem zpl1 (hT : 0 < T) (hU : U = zav (4 * F) T) (hb : U < 18446744073709551000) (h0 : 0 < U) : d ≤ zmn U true false / 4 ↔ d * T < F := by
  have h := (zwt hT hU d).1
  have e : zmn U true false = U - 1 := by
    unfold zmn
    simp only [if_true, Bool.false_eq_true, if_false]
    clear hU h
    omega
  rw [e]
  clear hU hb
  omega

theorem zbo1 (hT : 0 < T) (hU : U = zav (4 * F) T) (hb : U < 18446744073709551000) :
    zvv U = if 2 * (F % T) < T ∨ (2 * (F % T) = T ∧ F / T % 2 = 0) then F / T else F / T + 1 := by
  have hdm := Nat.div_add_mod F T
  have hlt := Nat.mod_lt F hT
  have h1 := (zwt hT hU (F / T)).2
  have h2 := (zwt hT hU (F / T + 1)).2
  obtain ⟨h3, h4⟩ := zpj1 hT hU (F / T)
  rw [Nat.add_mul, Nat.one_mul] at h2
  rw [Nat.mul_comm T] at hdm
  have e0 : zvv U = (U + 1 + U / 4 % 2) / 4 := by
    unfold zvv
    rw [Nat.mod_eq_of_lt (by clear hU h1 h2 h3 h4; omega)]
  rw [e0]
  clear hU hb e0
  generalize F / T = q at *
  generalize F % T = r at *
  generalize q * T = z at *
  have e : U / 4 = q := by omega
  rw [e]
  split <;> omega
end
end Lf

/-
  Floats as texts: what is the shortest number within bounds, as it is reckoned and as it is said.
-/
namespace Lf

/-- zqg1 the bounds? (An odd float's bounds don't count.) -/
def inI (lo hi : Nat) (odd : Bool) (X : Nat) : Bool := if odd then decide (lo < X) && decide (X < hi) else decide (lo ≤ X) && decide (X ≤ hi)

theorem zkp {lo hi : Nat} {odd : Bool} {X : Nat} : inI lo hi odd X = true ↔ (if odd = true then lo < X else lo ≤ X) ∧ (if odd = true then X < hi else X ≤ hi) := by
  unfold inI
  cases odd <;> simp

/-- Of the two multiples of T beside v the nearer one that lies within the bounds. -/
def pickD (lo hi : Nat) (odd : Bool) (v T : Nat) : Nat :=
  if inI lo hi odd (v / T * T) = true ∧ ¬ (inI lo hi odd ((v / T + 1) * T) = true ∧ (T < 2 * (v % T) ∨ (2 * (v % T) = T ∧ v / T % 2 = 1))) then v / T else v / T + 1

def zbp1 (dmin dmax near T : Nat) : Nat := if dmin ≤ dmax / 10 * 10 then dmax / 10 * (10 * T) else if dmin < dmax then near * T else dmin * T

section
variable {lo v hi T dmin dmax near : Nat} {odd : Bool}

/-- No multiple within, if none of the two. -/
theorem zuw1 (hT : 0 < T) (hlo : lo < v) (hhi : v < hi) (h1 : inI lo hi odd (v / T * T) = false) (h2 : inI lo hi odd ((v / T + 1) * T) = false) (d : Nat) : inI lo hi odd (d * T) = false := by
  rw [Bool.eq_false_iff] at h1 h2 ⊢
  intro h
  rw [Ne, zkp] at h1 h2
  rw [zkp] at h
  have hdm := Nat.div_add_mod v T
  have hlt := Nat.mod_lt v hT
  rw [Nat.mul_comm] at hdm
  rw [Nat.add_mul, Nat.one_mul] at h2
  generalize hq : v / T = q at *
  generalize v % T = ρ at *
  rcases Nat.lt_or_ge q d with hd | hd
  · have := Nat.mul_le_mul_right T (show q + 1 ≤ d by omega)
    rw [Nat.add_mul, Nat.one_mul] at this
    generalize q * T = a at *
    generalize d * T = b at *
    refine h2 ?_
    cases odd
    · simp only [Bool.false_eq_true, if_false] at *; omega
    · simp only [if_true] at *; omega
  · have := Nat.mul_le_mul_right T hd
    generalize q * T = a at *
    generalize d * T = b at *
    refine h1 ?_
    cases odd
    · simp only [Bool.false_eq_true, if_false] at *; omega
    · simp only [if_true] at *; omega

theorem zma1 (h2 : hi - lo < 10 * T) (hlo : lo < v) (hhi : v < hi)
    (hmin : ∀ d, dmin ≤ d ↔ if odd = true then lo < d * T else lo ≤ d * T) (hmax : ∀ d, d ≤ dmax ↔ if odd = true then d * T < hi else d * T ≤ hi)
    {c : Nat} (hc : inI lo hi odd (c * (10 * T)) = true) : zbp1 dmin dmax near T = c * (10 * T) := by
  rw [zkp] at hc
  have e : 10 * c * T = c * (10 * T) := by rw [Nat.mul_comm 10, Nat.mul_assoc]
  have a1 := (hmin (10 * c)).2 (by rw [e]; exact hc.1)
  have a2 := (hmax (10 * c)).2 (by rw [e]; exact hc.2)
  have a3 : dmax / 10 = c := by
    refine Classical.byContradiction fun hn => ?_
    have := (hmax (10 * c + 10)).1 (by omega)
    rw [Nat.add_mul, e] at this
    cases odd
    · simp only [Bool.false_eq_true, if_false] at *; omega
    · simp only [if_true] at *; omega
  unfold zbp1
  rw [if_pos (by omega), a3]

theorem zmb1 (hT : 0 < T) (h1 : T ≤ hi - lo) (hlo : lo < v) (hhi : v < hi)
    (hs : (2 * (v - lo) = hi - lo ∧ (T = hi - lo → v % T = 0)) ∨ (3 * (v - lo) = hi - lo ∧ T < hi - lo))
    (hmin : ∀ d, dmin ≤ d ↔ if odd = true then lo < d * T else lo ≤ d * T) (hmax : ∀ d, d ≤ dmax ↔ if odd = true then d * T < hi else d * T ≤ hi)
    (hn : near = if 2 * (v % T) < T ∨ (2 * (v % T) = T ∧ v / T % 2 = 0) then v / T else v / T + 1)
    (hno : ∀ c, inI lo hi odd (c * (10 * T)) = false) : zbp1 dmin dmax near T = pickD lo hi odd v T * T ∧ inI lo hi odd (pickD lo hi odd v T * T) = true := by
  have hdm := Nat.div_add_mod v T
  have hlt := Nat.mod_lt v hT
  rw [Nat.mul_comm] at hdm
  have n0 : ¬ dmin ≤ dmax / 10 * 10 := fun h => by
    have h := (hmin _).1 h
    have h' := (hmax (dmax / 10 * 10)).1 (by omega)
    have := hno (dmax / 10)
    rw [Bool.eq_false_iff, Ne, zkp, ← Nat.mul_assoc] at this
    exact this ⟨h, h'⟩
  have inn : ∀ d, inI lo hi odd (d * T) = true ↔ dmin ≤ d ∧ d ≤ dmax := fun d => by rw [zkp, hmin, hmax]
  -- there is one
  have ex : inI lo hi odd (v / T * T) = true ∨ inI lo hi odd ((v / T + 1) * T) = true := by
    refine Classical.byContradiction fun h => ?_
    rw [not_or, Bool.not_eq_true, Bool.not_eq_true] at h
    have no := zuw1 hT hlo hhi h.1 h.2
    by_cases hw : T = hi - lo
    · rcases hs with ⟨_, hs⟩ | ⟨_, hs⟩
      · have hz := hs hw
        have := h.1
        rw [Bool.eq_false_iff, Ne, zkp] at this
        refine this ?_
        rw [show v / T * T = v by omega]
        cases odd
        · simp only [Bool.false_eq_true, if_false]; omega
        · simp only [if_true]; omega
      · omega
    · have := no (lo / T + 1)
      rw [Bool.eq_false_iff, Ne, zkp] at this
      have l1 := Nat.div_add_mod lo T
      have l2 := Nat.mod_lt lo hT
      rw [Nat.mul_comm] at l1
      refine this ?_
      rw [Nat.add_mul, Nat.one_mul]
      cases odd
      · simp only [Bool.false_eq_true, if_false]; omega
      · simp only [if_true]; omega
  have pk : pickD lo hi odd v T = v / T ∨ pickD lo hi odd v T = v / T + 1 := by unfold pickD; split <;> simp
  have pin : inI lo hi odd (pickD lo hi odd v T * T) = true := by
    unfold pickD
    split
    · rename_i h; exact h.1
    · rename_i h
      refine Classical.byContradiction fun hh => ?_
      rcases ex with ex | ex
      · exact h ⟨ex, fun h' => hh h'.1⟩
      · exact hh ex
  refine ⟨?_, pin⟩
  unfold zbp1
  rw [if_neg n0]
  by_cases hd : dmin < dmax
  · rw [if_pos hd]
    congr 1
    rw [hn]
    unfold pickD
    have m1 := hmin (v / T)
    have m2 := hmin (v / T + 1)
    have x1 := hmax (v / T)
    have x2 := hmax (v / T + 1)
    have x3 := hmax (v / T + 2)
    rw [Nat.add_mul, Nat.one_mul] at m2 x2
    rw [Nat.add_mul] at x3
    simp only [inn] at ex ⊢
    generalize v / T = q at *
    generalize v % T = ρ at *
    generalize q * T = a at *
    clear hno inn pk pin hmin hmax hn
    cases odd
    · simp only [Bool.false_eq_true, if_false] at *
      split <;> split <;> omega
    · simp only [if_true] at *
      split <;> split <;> omega
  · rw [if_neg hd]
    have := (inn _).1 pin
    rw [show dmin = pickD lo hi odd v T by omega]
end
end Lf

/-
  Digits of a number, laid into memory.
-/
namespace Lf
open Go Go.Proofs

def digC (d : Nat) : Value := .int .u8 ((48 + d : Nat) : Int)
/-- So many digits of a number. -/
def digV : Nat → Nat → List Value
  | 0, _ => []
  | n + 1, u => digV n (u / 10) ++ [digC (u % 10)]

theorem zso : ∀ n u, (digV n u).length = n
  | 0, _ => rfl
  | n + 1, u => by rw [digV, List.length_append, zso n]; rfl

theorem zsg1 (n u : Nat) : digV (n + 2) u = digV n (u / 100) ++ [digC (u % 100 / 10), digC (u % 100 % 10)] := by
  rw [digV, digV, Nat.div_div_eq_div_mul, List.append_assoc, show u / 10 % 10 = u % 100 / 10 by omega, show u % 10 = u % 100 % 10 by omega]
  rfl

theorem zmc1 : ∀ k, k < 100 → (bl200.getD (2 * k) 0).toNat = 48 + k / 10 ∧ (bl200.getD (2 * k + 1) 0).toNat = 48 + k % 10 := by decide +kernel

theorem zsh1 {cs : List Value} {i : Nat} (hi : i + 2 ≤ cs.length) : ∃ x y, cs.take (i + 2) = cs.take i ++ [x, y] := by
  refine ⟨cs[i], cs[i + 1], ?_⟩
  rw [List.take_add_one, List.take_add_one, List.getElem?_eq_getElem (by omega), List.getElem?_eq_getElem (by omega), List.append_assoc]
  rfl

theorem zux1 {cs suf T : List Value} {i : Nat} {v0 v1 : Value} (hi : i + 2 ≤ cs.length) : ((cs.take (i + 2) ++ suf ++ T).set (i + 1) v1).set i v0 = cs.take i ++ (v0 :: v1 :: suf) ++ T := by
  obtain ⟨x, y, e⟩ := zsh1 hi
  rw [e]
  have hl : (cs.take i).length = i := by rw [List.length_take]; omega
  generalize cs.take i = P at *
  subst hl
  rw [List.append_assoc, List.append_assoc, List.set_append_right (h := by omega), List.set_append_right (h := by omega)]
  simp [show P.length + 1 - P.length = 1 by omega]

section
variable {h : Hp}

/-- Two digits. -/
theorem zve {a : Sl} {b o k j : Nat} {X J1 J2 : Int} {cs suf T : List Value} {K : Hp → Prop} (hX : X = ((2 * k : Nat) : Int)) (hk : k < 100) (ha : a.base = some ⟨b, o, none⟩) (h1 : J1 = ((j + 1 : Nat) : Int)) (h2 : J2 = (j : Int))
    (hn : j + 2 ≤ a.len) (hl : o + j + 2 ≤ cs.length) (kb : Blk h b (cs.take (o + (j + 2)) ++ suf ++ T)) (hK : ∀ h', Mv [b] h [b] h' → Blk h' b (cs.take (o + j) ++ (digC (k / 10) :: digC (k % 10) :: suf) ++ T) → K h') :
    ((0 : Int) ≤ IntKind.wrap .u32 (X + 1) ∧ IntKind.wrap .u32 (X + 1) < 200) ∧ ((0 : Int) ≤ X ∧ X < 200) ∧ InB a.base a.len J1 ∧ StW h (sat a.base 1 J1) [.int .u8 (((UInt8.toNat (List.getD bl200 (Int.toNat (IntKind.wrap .u32 (X + 1))) 0)) : Nat) : Int)] (fun h2 =>
      InB a.base a.len J2 ∧ StW h2 (sat a.base 1 J2) [.int .u8 (((UInt8.toNat (List.getD bl200 (Int.toNat X) 0)) : Nat) : Int)] K) := by
  subst hX h1 h2
  obtain ⟨g0, g1⟩ := zmc1 k hk
  have e1 : IntKind.wrap .u32 (((2 * k : Nat) : Int) + 1) = ((2 * k + 1 : Nat) : Int) := by rw [zpu]; omega
  rw [e1, Int.toNat_natCast, Int.toNat_natCast, g0, g1]
  have s1 : sat a.base 1 ((j + 1 : Nat) : Int) = ⟨b, o + (j + 1), none⟩ := by rw [ha]; show Addr.add ⟨b, o, none⟩ _ = _; rw [zak]; simp
  have s2 : sat a.base 1 (j : Int) = ⟨b, o + j, none⟩ := by rw [ha]; show Addr.add ⟨b, o, none⟩ _ = _; rw [zak]; simp
  rw [s1, s2]
  have tl : (cs.take (o + (j + 2))).length = o + j + 2 := by rw [List.length_take]; omega
  refine ⟨⟨by omega, by omega⟩, ⟨by omega, by omega⟩, ⟨by rw [ha]; simp, by omega, by omega⟩, put1 kb (by rw [List.length_append, List.length_append, tl]; omega) fun h1 m1 k1 => ⟨⟨by rw [ha]; simp, by omega, by omega⟩, put1 k1 (by rw [List.length_set, List.length_append, List.length_append, tl]; omega) fun h2 m2 k2 => hK h2 (m1.trans m2) ?_⟩⟩
  have e2 := zux1 (cs := cs) (suf := suf) (T := T) (i := o + j) (v0 := digC (k / 10)) (v1 := digC (k % 10)) (by omega)
  rw [← e2]
  exact k2

theorem tmodN {x y : Nat} : Int.tmod (x : Int) (y : Int) = ((x % y : Nat) : Int) := by rw [Int.tmod_eq_emod_of_nonneg (by omega)]; rfl
theorem tdivN {x y : Nat} : Int.tdiv (x : Int) (y : Int) = ((x / y : Nat) : Int) := by rw [Int.tdiv_eq_ediv_of_nonneg (by omega)]; rfl

theorem zzj (j : Nat) {v k : Nat} (h : v < 10 ^ (j + k)) : v / 10 ^ k < 10 ^ j := by
  rw [Nat.div_lt_iff_lt_mul (Nat.pow_pos (by decide)), ← Nat.pow_add]
  exact h

theorem zfc1 {a : Sl} {b o u : Nat} {cs : List Value} {Q : Hp → Prop} (ha : a.base = some ⟨b, o, none⟩) (hl : o + a.len ≤ cs.length) (ha64 : a.len < 1000000) (kb : Blk h b cs) (hu : u < 10 ^ a.len) (hu64 : u < 18446744073709551616)
    (hk : ∀ h', Mv [b] h [b] h' → Blk h' b (cs.take o ++ digV a.len u ++ cs.drop (o + a.len)) → Q h') : zdo Tryz.prog a u Q h := by
  unfold zdo
  -- what stands so far
  have step : ∀ {v : Nat} {suf : List Value} (j : Nat), digV a.len u = digV (j + 2) v ++ suf → digV a.len u = digV j (v / 100) ++ (digC (v % 100 / 10) :: digC (v % 100 % 10) :: suf) := fun {v suf} j e => by
    rw [e, zsg1, List.append_assoc]; rfl
  refine LoopW2.intro (fun u1 nd k => ∃ (v j : Nat) (suf : List Value), u1 = (v : Int) ∧ nd = (j : Int) ∧ j ≤ a.len ∧ v < 10 ^ j ∧ v < 18446744073709551616 ∧ Mv [b] h [b] k ∧ Blk k b (cs.take (o + j) ++ suf ++ cs.drop (o + a.len)) ∧ digV a.len u = digV j v ++ suf) (fun u1 nd k => nd.toNat)
    ⟨u, a.len, [], rfl, rfl, Nat.le_refl _, hu, hu64, Mv.refl _ _, by rw [List.append_nil, List.take_append_drop]; exact kb, (List.append_nil _).symm⟩ ?_
  rintro u1 nd k ⟨v, j, suf, rfl, rfl, hj, hv, hv64, mv, kb, hd⟩
  by_cases h8 : 8 ≤ j
  · obtain ⟨i, rfl⟩ : ∃ i, j = i + 8 := ⟨j - 8, by omega⟩
    refine iteT (decide_eq_true (by omega)) ⟨by decide, by decide, by decide, by decide, by decide, by decide, by decide, by decide, ?_⟩
    have e0 : IntKind.wrap .u32 (Int.tmod (v : Int) 100000000) = ((v % 100000000 : Nat) : Int) := by rw [show (100000000 : Int) = ((100000000 : Nat) : Int) from rfl, tmodN, zpu]; omega
    have e1 : Int.tmod ((v % 100000000 : Nat) : Int) 10000 = ((v % 10000 : Nat) : Int) := by rw [show (10000 : Int) = ((10000 : Nat) : Int) from rfl, tmodN, show v % 100000000 % 10000 = v % 10000 by omega]
    have e2 : IntKind.wrap .u32 (Int.tdiv ((v % 100000000 : Nat) : Int) 10000) = ((v / 10000 % 10000 : Nat) : Int) := by rw [show (10000 : Int) = ((10000 : Nat) : Int) from rfl, tdivN, zpu]; omega
    have m1 : ∀ {w : Nat}, IntKind.wrap .u32 ((Int.tmod (w : Int) 100) * 2) = ((2 * (w % 100) : Nat) : Int) := fun {w} => by rw [show (100 : Int) = ((100 : Nat) : Int) from rfl, tmodN, zpu]; omega
    have m2 : ∀ {w : Nat}, w < 10000 → IntKind.wrap .u32 (IntKind.wrap .u32 (Int.tdiv (w : Int) 100) * 2) = ((2 * (w / 100) : Nat) : Int) := fun {w} hw => by rw [show (100 : Int) = ((100 : Nat) : Int) from rfl, tdivN, zpu, zpu]; omega
    rw [e0, e1, e2, m1, m1, m2 (by omega), m2 (by omega)]
    have w : ∀ {c : Int} {n : Nat}, (i + 8 : Nat) - c = (n : Int) → n < 1000000 → IntKind.wrap .i64 (((i + 8 : Nat) : Int) - c) = (n : Int) := fun {c n} e hn => by rw [e, zaf (by omega) (by omega)]
    refine zve (k := v % 10000 % 100) (j := i + 6) rfl (by omega) ha (w (by omega) (by omega)) (w (by omega) (by omega)) (by omega) (by omega) kb fun h1 n1 b1 => ?_
    have d1 := step (i + 6) hd
    refine zve (k := v % 10000 / 100) (j := i + 4) rfl (by omega) ha (w (by omega) (by omega)) (w (by omega) (by omega)) (by omega) (by omega) b1 fun h2 n2 b2 => ?_
    have d2 := step (i + 4) d1
    refine zve (k := v / 10000 % 10000 % 100) (j := i + 2) rfl (by omega) ha (w (by omega) (by omega)) (w (by omega) (by omega)) (by omega) (by omega) b2 fun h3 n3 b3 => ?_
    have d3 := step (i + 2) d2
    refine zve (k := v / 10000 % 10000 / 100) (j := i) rfl (by omega) ha (w (by omega) (by omega)) (w (by omega) (by omega)) (by omega) (by omega) b3 fun h4 n4 b4 => ?_
    have d4 := step i d3
    have q0 : v % 10000 % 100 = v % 100 := by omega
    have q1 : v % 10000 / 100 = v / 100 % 100 := by omega
    have q2 : v / 10000 % 10000 % 100 = v / 100 / 100 % 100 := by omega
    have q3 : v / 10000 % 10000 / 100 = v / 100 / 100 / 100 % 100 := by omega
    rw [q0, q1, q2, q3] at b4
    have e8 : IntKind.wrap .u64 (Int.tdiv (v : Int) 100000000) = ((v / 100 / 100 / 100 / 100 : Nat) : Int) := by rw [show (100000000 : Int) = ((100000000 : Nat) : Int) from rfl, tdivN, wrapN (by omega)]; omega
    rw [e8, w (n := i) (by omega) (by omega)]
    have hlt := zzj i (k := 8) hv
    refine ⟨⟨_, i, _, rfl, rfl, by omega, ?_, by omega, mv.trans (n1.trans (n2.trans (n3.trans n4))), b4, d4⟩, ?_⟩
    · rw [show v / 100 / 100 / 100 / 100 = v / 10 ^ 8 by omega]
      exact hlt
    · omega
  · refine iteF (fun hh => h8 (by have := of_decide_eq_true hh; omega)) ?_
    have v7 : v < 10000000 := Nat.lt_of_lt_of_le hv (Nat.pow_le_pow_right (n := 10) (i := j) (j := 7) (by decide) (by omega))
    have m1 : ∀ {w : Nat}, IntKind.wrap .u32 ((Int.tmod (w : Int) 100) * 2) = ((2 * (w % 100) : Nat) : Int) := fun {w} => by rw [show (100 : Int) = ((100 : Nat) : Int) from rfl, tmodN, zpu]; omega
    have m2 : ∀ {w : Nat}, w < 10000 → IntKind.wrap .u32 (IntKind.wrap .u32 (Int.tdiv (w : Int) 100) * 2) = ((2 * (w / 100) : Nat) : Int) := fun {w} hw => by rw [show (100 : Int) = ((100 : Nat) : Int) from rfl, tdivN, zpu, zpu]; omega
    have eu : IntKind.wrap .u32 (v : Int) = (v : Int) := by rw [zpu]; omega
    rw [eu]
    have w : ∀ {j : Nat} {c : Int} {n : Nat}, (j : Int) - c = (n : Int) → n < 1000000 → IntKind.wrap .i64 ((j : Int) - c) = (n : Int) := fun {j c n} e hn => by rw [e, zaf (by omega) (by omega)]
    refine JoinW2.intro (fun nd x k => ∃ (v j : Nat) (suf : List Value), x = (v : Int) ∧ nd = (j : Int) ∧ j < 4 ∧ j ≤ a.len ∧ v < 10 ^ j ∧ Mv [b] h [b] k ∧ Blk k b (cs.take (o + j) ++ suf ++ cs.drop (o + a.len)) ∧ digV a.len u = digV j v ++ suf) ?_ ?_
    · by_cases h4 : 4 ≤ j
      · obtain ⟨i, rfl⟩ : ∃ i, j = i + 4 := ⟨j - 4, by omega⟩
        refine iteT (decide_eq_true (by omega)) ⟨by decide, by decide, by decide, by decide, ?_⟩
        have e1 : Int.tmod (v : Int) 10000 = ((v % 10000 : Nat) : Int) := by rw [show (10000 : Int) = ((10000 : Nat) : Int) from rfl, tmodN]
        rw [e1, m1, m2 (by omega)]
        refine zve (k := v % 10000 % 100) (j := i + 2) rfl (by omega) ha (w (by omega) (by omega)) (w (by omega) (by omega)) (by omega) (by omega) kb fun h1 n1 b1 => ?_
        have d1 := step (i + 2) hd
        refine zve (k := v % 10000 / 100) (j := i) rfl (by omega) ha (w (by omega) (by omega)) (w (by omega) (by omega)) (by omega) (by omega) b1 fun h2 n2 b2 => ?_
        have d2 := step i d1
        have q0 : v % 10000 % 100 = v % 100 := by omega
        have q1 : v % 10000 / 100 = v / 100 % 100 := by omega
        rw [q0, q1] at b2
        have e8 : IntKind.wrap .u32 (Int.tdiv (v : Int) 10000) = ((v / 100 / 100 : Nat) : Int) := by rw [show (10000 : Int) = ((10000 : Nat) : Int) from rfl, tdivN, zpu]; omega
        have hlt := zzj i (k := 4) hv
        rw [e8, w (n := i) (by omega) (by omega)]
        refine ⟨_, i, _, rfl, rfl, by omega, by omega, ?_, mv.trans (n1.trans n2), b2, d2⟩
        rw [show v / 100 / 100 = v / 10 ^ 4 by omega]
        exact hlt
      · exact iteF (fun hh => h4 (by have := of_decide_eq_true hh; omega)) ⟨v, j, suf, rfl, rfl, by omega, hj, hv, mv, kb, hd⟩
    · clear v7 eu kb hd mv hv hv64 hj h8 v j suf
      rintro nd x k1 ⟨v, j, suf, rfl, rfl, hj4, hj, hv, mv, kb, hd⟩
      have v3 : v < 1000 := Nat.lt_of_lt_of_le hv (Nat.pow_le_pow_right (n := 10) (i := j) (j := 3) (by decide) (by omega))
      refine JoinW2.intro (fun nd x k => ∃ (v j : Nat) (suf : List Value), x = (v : Int) ∧ nd = (j : Int) ∧ j < 2 ∧ j ≤ a.len ∧ v < 10 ^ j ∧ Mv [b] h [b] k ∧ Blk k b (cs.take (o + j) ++ suf ++ cs.drop (o + a.len)) ∧ digV a.len u = digV j v ++ suf) ?_ ?_
      · by_cases h2 : 2 ≤ j
        · obtain ⟨i, rfl⟩ : ∃ i, j = i + 2 := ⟨j - 2, by omega⟩
          refine iteT (decide_eq_true (by omega)) ⟨by decide, by decide, ?_⟩
          rw [m1]
          refine zve (k := v % 100) (j := i) rfl (by omega) ha (w (by omega) (by omega)) (w (by omega) (by omega)) (by omega) (by omega) kb fun h1 n1 b1 => ?_
          have d1 := step i hd
          have e8 : IntKind.wrap .u32 (Int.tdiv (v : Int) 100) = ((v / 100 : Nat) : Int) := by rw [show (100 : Int) = ((100 : Nat) : Int) from rfl, tdivN, zpu]; omega
          have hlt := zzj i (k := 2) hv
          rw [e8, w (n := i) (by omega) (by omega)]
          exact ⟨_, i, _, rfl, rfl, by omega, by omega, hlt, mv.trans n1, b1, d1⟩
        · exact iteF (fun hh => h2 (by have := of_decide_eq_true hh; omega)) ⟨v, j, suf, rfl, rfl, by omega, hj, hv, mv, kb, hd⟩
      · clear v3 kb hd mv hv hj4 hj v j suf
        rintro nd x k2 ⟨v, j, suf, rfl, rfl, hj4, hj, hv, mv, kb, hd⟩
        by_cases h0 : 0 < j
        · obtain rfl : j = 1 := by omega
          refine iteT (decide_eq_true (by omega)) ⟨⟨by rw [ha]; simp, by omega, by omega⟩, ?_⟩
          have s1 : sat a.base 1 (0 : Int) = ⟨b, o, none⟩ := by rw [ha]; show Addr.add ⟨b, o, none⟩ _ = _; rw [zak]; simp
          have e1 : IntKind.wrap .u8 (IntKind.wrap .u32 ((48 : Int) + (v : Int))) = ((48 + v : Nat) : Int) := by
            rw [zpu, show IntKind.wrap .u8 ((48 + (v : Int)) % 4294967296) = ((48 + (v : Int)) % 4294967296) % 256 from rfl]
            omega
          rw [s1, e1]
          have tl : (cs.take (o + 1)).length = o + 1 := by rw [List.length_take]; omega
          refine put1 kb (by rw [List.length_append, List.length_append, tl]; omega) fun h3 m3 k3 => hk h3 (mv.trans m3) ?_
          rw [hd, show digV 1 v = [digC v] by rw [digV, digV, Nat.mod_eq_of_lt (by omega)]; rfl]
          have e2 : (cs.take (o + 1) ++ suf ++ cs.drop (o + a.len)).set o (digC v) = cs.take o ++ ([digC v] ++ suf) ++ cs.drop (o + a.len) := by
            rw [List.take_add_one, List.getElem?_eq_getElem (by omega)]
            have hl' : (cs.take o).length = o := by rw [List.length_take]; omega
            generalize cs.take o = P at *
            subst hl'
            simp
          rw [← e2]
          exact k3
        · obtain rfl : j = 0 := by omega
          refine iteF (fun hh => h0 (by have := of_decide_eq_true hh; omega)) (hk k2 mv ?_)
          rw [hd]
          simpa [digV] using kb
end
end Lf

/-
  How many digits a number has; its digits without zeros last.
-/
namespace Lf
open Go Go.Proofs

theorem zkg1 : ∀ n, n < 256 → (bl256.getD n 0).toNat = bitsN n := by decide +kernel

theorem zvf {n k : Nat} (h : 2 ^ k ≤ n) : bitsN n = k + bitsN (n / 2 ^ k) := by
  have hp := Nat.two_pow_pos k
  have h1 := zof (n / 2 ^ k)
  have h0 : n / 2 ^ k ≠ 0 := fun e => by rw [Nat.div_eq_zero_iff] at e; omega
  have h2 := zsn h0
  have hb : 0 < bitsN (n / 2 ^ k) := by unfold bitsN; rw [if_neg h0]; omega
  refine zsb1 ?_ fun _ => ?_
  · rw [Nat.div_lt_iff_lt_mul hp, ← Nat.pow_add, Nat.add_comm] at h1
    exact h1
  · rw [Nat.le_div_iff_mul_le hp, ← Nat.pow_add] at h2
    rw [show k + bitsN (n / 2 ^ k) - 1 = bitsN (n / 2 ^ k) - 1 + k by omega]
    exact h2

theorem ztr1 {n : Nat} (h1 : n < 256) : IntKind.wrap .u8 (n : Int) = (n : Int) := by
  show (n : Int) % 256 = n
  omega

theorem zvw {n k : Nat} (h : n < 2 ^ k) : bitsN n ≤ k := by
  by_cases h0 : n = 0
  · subst h0; simp [bitsN]
  · have := zsn h0
    have h2 : 2 ^ (bitsN n - 1) < 2 ^ k := Nat.lt_of_le_of_lt this h
    have := (Nat.pow_lt_pow_iff_right (a := 2) (by decide)).1 h2
    omega

section
variable {h : Hp}

theorem zxx {n : Nat} {Q : Int → Hp → Prop} (hn : n < 18446744073709551616) (hq : Q (bitsN n : Int) h) : zln Tryz.prog (n : Int) Q h := by
  unfold zln
  refine JoinW2.intro (fun x1 n1 k => k = h ∧ ∃ (m c : Nat), x1 = (m : Int) ∧ n1 = (c : Int) ∧ m < 4294967296 ∧ c ≤ 32 ∧ bitsN n = c + bitsN m) ?_ ?_
  · by_cases hb : (n : Int) ≥ 4294967296
    · refine iteT (decide_eq_true hb) ⟨by decide, rfl, n / 2 ^ 32, 32, shrN n (n := 32) (by decide), rfl, ?_, by decide, zvf (by omega)⟩
      rw [Nat.div_lt_iff_lt_mul (by decide)]
      omega
    · exact iteF (fun hh => hb (of_decide_eq_true hh)) ⟨rfl, n, 0, rfl, rfl, by omega, by decide, by omega⟩
  · rintro x1 n1 k ⟨rfl, m, c, rfl, rfl, hm, hc, he⟩
    refine JoinW2.intro (fun x2 n2 k' => k' = k ∧ ∃ (m c : Nat), x2 = (m : Int) ∧ n2 = (c : Int) ∧ m < 65536 ∧ c ≤ 48 ∧ bitsN n = c + bitsN m) ?_ ?_
    · by_cases hb : (m : Int) ≥ 65536
      · rw [zaf (by omega) (by omega)]
        refine iteT (decide_eq_true hb) ⟨by decide, rfl, m / 2 ^ 16, c + 16, shrN m (n := 16) (by decide), by omega, ?_, by omega, ?_⟩
        · rw [Nat.div_lt_iff_lt_mul (by decide)]
          omega
        · rw [he, zvf (n := m) (k := 16) (by omega)]
          omega
      · exact iteF (fun hh => hb (of_decide_eq_true hh)) ⟨rfl, m, c, rfl, rfl, by omega, by omega, he⟩
    · clear he hc hm m c
      rintro x2 n2 k' ⟨rfl, m, c, rfl, rfl, hm, hc, he⟩
      by_cases hb : (m : Int) ≥ 256
      · have e1 : shrI .u64 (m : Int) 8 = ((m / 2 ^ 8 : Nat) : Int) := shrN m (n := 8) (by decide)
        have hlt : m / 2 ^ 8 < 256 := by
          rw [Nat.div_lt_iff_lt_mul (by decide)]
          omega
        refine iteT (decide_eq_true hb) ⟨by decide, ?_⟩
        have hs := zvw (k := 8) hlt
        have hb2 := zvf (n := m) (k := 8) (by omega)
        rw [e1, ztr1 hlt, Int.toNat_natCast, zkg1 _ hlt, zaf (n := (c : Int) + 8) (by omega) (by omega), zaf (n := ((bitsN (m / 2 ^ 8) : Nat) : Int)) (by omega) (by omega), zaf (by omega) (by omega)]
        rw [show (c : Int) + 8 + ((bitsN (m / 2 ^ 8) : Nat) : Int) = (bitsN n : Int) by omega]
        exact ⟨⟨by omega, by omega⟩, hq⟩
      · have hlt : m < 256 := by omega
        have hs := zvw (k := 8) hlt
        refine iteF (fun hh => hb (of_decide_eq_true hh)) ?_
        rw [ztr1 hlt, Int.toNat_natCast, zkg1 _ hlt, zaf (n := ((bitsN m : Nat) : Int)) (by omega) (by omega), zaf (by omega) (by omega)]
        rw [show (c : Int) + ((bitsN m : Nat) : Int) = (bitsN n : Int) by omega]
        exact ⟨⟨by omega, by omega⟩, hq⟩

/-- The table of small powers of ten in memory. -/
abbrev ztl (h : Hp) : Prop := LdIs h ⟨5, 0, none⟩ ((List.range 20).map fun k => Value.int .u64 ((10 ^ k : Nat) : Int))

theorem zmd1 (t : ztl h) {k : Nat} (hk : k < 20) : LdIs h ⟨5, k, none⟩ [.int .u64 ((10 ^ k : Nat) : Int)] := by
  have c := t k (.int .u64 ((10 ^ k : Nat) : Int)) (by simp [List.getElem?_range hk])
  rw [zak, Nat.zero_add] at c
  exact zpw c

theorem zme1 : ∀ b : Nat, b < 65 → 1 ≤ b → 0 ≤ zhm (b : Int) ∧ zhm (b : Int) < 20 ∧ 2 ^ b ≤ 10 ^ ((zhm (b : Int)).toNat + 1) ∧ (1 ≤ zhm (b : Int) → 10 ^ ((zhm (b : Int)).toNat - 1) ≤ 2 ^ (b - 1)) := by decide +kernel

theorem zdc1 {b : Bool} {Q : Int → Hp → Prop} (hq : Q ((b.toNat : Nat) : Int) h) : zeq Tryz.prog b Q h := by
  unfold zeq
  cases b
  · exact hq
  · exact hq

theorem zxf {d : Nat} {Q : Int → Hp → Prop} (h0 : d ≠ 0) (h1 : d < 18446744073709551616) (t : ztl h) (hk : ∀ n : Nat, 1 ≤ n → n ≤ 20 → 10 ^ (n - 1) ≤ d → d < 10 ^ n → Q (n : Int) h) : zen Tryz.prog d Q h := by
  unfold zen
  have b1 : 1 ≤ bitsN d := by unfold bitsN; rw [if_neg h0]; omega
  have b2 : bitsN d ≤ 64 := zvw (k := 64) h1
  obtain ⟨l0, l1, l2, l3⟩ := zme1 (bitsN d) (by omega) b1
  have d1 := zof d
  have d2 := zsn h0
  refine zfz (zxx h1 ?_)
  refine zdp (zdb1 (by omega) (by omega) ⟨⟨l0, l1⟩, ?_⟩)
  obtain ⟨k, hk'⟩ : ∃ k : Nat, zhm (bitsN d) = k := ⟨_, (Int.toNat_of_nonneg l0).symm⟩
  rw [hk'] at l0 l1 l2 l3 ⊢
  rw [Int.toNat_natCast] at l2 l3 ⊢
  have ea : Addr.add ⟨5, 0, none⟩ (k * 1) = ⟨5, k, none⟩ := by rw [zak]; simp
  rw [ea]
  refine ld_at (sh := shInt .u64) ((10 ^ k : Nat) : Int) (zmd1 t (by omega)) ?_
  refine zdq (zdc1 ?_)
  by_cases hc : 10 ^ k ≤ d
  · rw [decide_eq_true (by exact Int.ofNat_le.2 hc), zaf (by rw [Bool.toNat_true]; omega) (by rw [Bool.toNat_true]; omega)]
    exact hk (k + 1) (by omega) (by omega) hc (Nat.lt_of_lt_of_le d1 l2)
  · have k1 : 1 ≤ k := by
      rcases Nat.eq_zero_or_pos k with e | e
      · subst e; omega
      · exact e
    rw [decide_eq_false (fun hh => hc (Int.ofNat_le.1 hh)), zaf (by rw [Bool.toNat_false]; omega) (by rw [Bool.toNat_false]; omega)]
    have := hk k k1 (by omega) (Nat.le_trans (l3 (by omega)) d2) (by omega)
    simpa using this

theorem zkh1 : ∀ (n u i : Nat), i < n → (digV n u)[i]? = some (digC (u / 10 ^ (n - 1 - i) % 10))
  | 0, _, _, h => by omega
  | n + 1, u, i, h => by
    rw [digV]
    by_cases hi : i < n
    · rw [List.getElem?_append_left (by rw [zso]; exact hi), zkh1 n (u / 10) i hi, Nat.div_div_eq_div_mul, ← Nat.pow_succ', show (n - 1 - i).succ = n + 1 - 1 - i by omega]
    · rw [List.getElem?_append_right (by rw [zso]; omega), zso, show i - n = 0 by omega, show n + 1 - 1 - i = 0 by omega]
      simp

theorem zfd1 {s : Sl} {b d n : Nat} {p : Int} {cs : List Value} {Q : Int → Int → Hp → Prop} (hb : s.base = some ⟨b, 0, none⟩) (hs : s.len = cs.length) (hc : s.cap = s.len) (hl : s.len < 1000000) (kb : Blk h b cs)
    (d0 : d ≠ 0) (d1 : d < 18446744073709551616) (hn : n ≤ s.len) (hd : d < 10 ^ n) (p0 : -100000 ≤ p) (p1 : p ≤ 100000)
    (hk : ∀ h' k v, Mv [b] h [b] h' → Blk h' b (digV n d ++ cs.drop n) → d = v * 10 ^ k → v % 10 ≠ 0 → k < n → Q (n + p) ((n - k : Nat) : Int) h') : zeo Tryz.prog s d p n Q h := by
  unfold zeo
  refine iteT (decide_eq_true (by omega)) ⟨⟨by omega, by omega⟩, letW ?_⟩
  rw [Int.toNat_natCast]
  have eb : sbase s.base 1 0 s.cap = some ⟨b, 0, none⟩ := by
    unfold sbase
    rw [hb]
    split
    · rfl
    · show some (Addr.add _ _) = _
      rw [zak]
  rw [eb]
  refine zff (zfc1 (a := ⟨some ⟨b, 0, none⟩, n - 0, s.cap - 0⟩) rfl (by show 0 + (n - 0) ≤ _; omega) (by show n - 0 < _; omega) kb (by show d < 10 ^ (n - 0); exact hd) d1 fun h1 mv k1 => ?_)
  have k1 : Blk h1 b (digV n d ++ cs.drop n) := by
    have e : cs.take 0 ++ digV (n - 0) d ++ cs.drop (0 + (n - 0)) = digV n d ++ cs.drop n := by simp
    rw [← e]
    exact k1
  have nz : ∀ {v k : Nat}, d = v * 10 ^ k → v ≠ 0 := fun {v k} e e0 => d0 (by rw [e, e0, Nat.zero_mul])
  have lt : ∀ {v k : Nat}, d = v * 10 ^ k → k ≤ n → k < n := fun {v k} e hk' => by
    rcases Nat.lt_or_ge k n with hlt | hge
    · exact hlt
    · have : k = n := by omega
      subst this
      have := nz e
      have h2 : 1 * 10 ^ k ≤ v * 10 ^ k := Nat.mul_le_mul_right _ (by omega)
      omega
  refine LoopW1.intro (fun nd k => k = h1 ∧ ∃ (j v : Nat), nd = ((n - j : Nat) : Int) ∧ j ≤ n ∧ d = v * 10 ^ j) (fun nd _ => nd.toNat) ⟨rfl, 0, d, rfl, by omega, by simp⟩ ?_
  rintro nd k ⟨rfl, j, v, rfl, hj, hv⟩
  have hjn := lt hv hj
  have hpos : ((n - j : Nat) : Int) > 0 := by omega
  rw [decide_eq_true hpos]
  have e1 : IntKind.wrap .i64 (((n - j : Nat) : Int) - 1) = ((n - j - 1 : Nat) : Int) := by rw [zaf (by omega) (by omega)]; omega
  rw [e1]
  have ea : sat s.base 1 ((n - j - 1 : Nat) : Int) = ⟨b, n - j - 1, none⟩ := by rw [hb]; show Addr.add ⟨b, 0, none⟩ _ = _; rw [zak]; simp
  rw [ea]
  have hcell : ((digV n d ++ cs.drop n).drop (n - j - 1)).take 1 = [digC (v % 10)] := by
    have hg := zkh1 n d (n - j - 1) (by omega)
    rw [show n - 1 - (n - j - 1) = j by omega, hv, Nat.mul_div_cancel _ (Nat.pow_pos (by decide)), ← hv] at hg
    have hg2 : (digV n d ++ cs.drop n)[n - j - 1]? = some (digC (v % 10)) := by rw [List.getElem?_append_left (by rw [zso]; omega)]; exact hg
    rw [List.take_one, List.head?_drop, hg2]
    rfl
  refine ⟨fun _ => ⟨by rw [hb]; simp, by omega, by omega⟩, ((48 + v % 10 : Nat) : Int), fun _ => k1.ldIs hcell, letW ?_⟩
  rw [Bool.true_and]
  by_cases hz : v % 10 = 0
  · refine iteT (by rw [hz]; rfl) ⟨⟨rfl, j + 1, v / 10, ?_, by omega, ?_⟩, ?_⟩
    · exact congrArg Nat.cast (show n - j - 1 = n - (j + 1) by omega)
    · rw [hv, Nat.pow_succ', ← Nat.mul_assoc, Nat.div_mul_cancel (Nat.dvd_of_mod_eq_zero hz)]
    · omega
  · refine iteF (fun hh => hz (by have : ((48 + v % 10 : Nat) : Int) = 48 := beq_iff_eq.1 hh; omega)) ?_
    rw [zaf (by omega) (by omega)]
    exact hk k j v mv k1 hv hz hjn
end
end Lf

/-
  Floats as texts: digits, a point, an exponent.
-/
namespace Lf
open Go Go.Proofs

/-- A byte in memory. -/
def eN (n : Nat) : List Value := [.int .u8 (n : Int)]
theorem zul (n : Nat) : (eN n).length = 1 := rfl
theorem eN_ok (n : Nat) : zfo (eN n) = true := rfl

theorem zbq1 : ∀ ds : List Nat, (ds.map fun (c : Nat) => Value.int .u8 (c : Int)) = ds.flatMap eN
  | [] => rfl
  | c :: ds => by rw [List.map_cons, zbq1 ds, List.flatMap_cons]; rfl

/-- An exponent's digits. -/
def expL (n : Nat) : List Nat := if n < 10 then [48, 48 + n] else if n < 100 then [48 + n / 10, 48 + n % 10] else [48 + n / 100, 48 + n / 10 % 10, 48 + n % 10]
/-- Digits, a point, an exponent. -/
def sciL (neg : Bool) (d : Nat) (ds : List Nat) (e : Int) : List Nat :=
  (if neg then [45] else []) ++ [d] ++ (if ds = [] then [] else 46 :: ds) ++ [101, if e < 0 then 45 else 43] ++ expL e.natAbs

section
variable {h0 h : Hp}

abbrev ON (h0 h : Hp) (l : Sl) (xs : List Nat) : Prop := Own h0 h 1 eN l xs

theorem app1 {l : Sl} {xs : List Nat} {v : Int} {c : Nat} {K : Sl → Hp → Prop} (hw : h0 ≤ h) (o : ON h0 h l xs) (hv : v = (c : Int)) (hb : xs.length < 1000000) (hk : ∀ l' h', h0 ≤ h' → ON h0 h' l' (xs ++ [c]) → K l' h') :
    NewW [.int .u8 v] (fun a h2 => zdl 1 1 [.int .u8 (0 : Int)] l ⟨some a, 1, 1⟩ K h2) h := by
  subst hv
  exact zhn1 hw o (ys := [c]) rfl rfl zul eN_ok rfl (by simp only [List.length_singleton]; omega) fun l' h' a b _ => hk l' h' a b

theorem app2 {l : Sl} {xs : List Nat} {v w : Int} {c d : Nat} {K : Sl → Hp → Prop} (hw : h0 ≤ h) (o : ON h0 h l xs) (hv : v = (c : Int)) (hv2 : w = (d : Int)) (hb : xs.length < 1000000) (hk : ∀ l' h', h0 ≤ h' → ON h0 h' l' (xs ++ [c, d]) → K l' h') :
    NewW [.int .u8 v, .int .u8 w] (fun a h2 => zdl 1 1 [.int .u8 (0 : Int)] l ⟨some a, 2, 2⟩ K h2) h := by
  subst hv hv2
  exact zhn1 hw o (ys := [c, d]) rfl rfl zul eN_ok rfl (by simp only [List.length_cons, List.length_nil]; omega) fun l' h' a b _ => hk l' h' a b

theorem app3 {l : Sl} {xs : List Nat} {v w z : Int} {c d e : Nat} {K : Sl → Hp → Prop} (hw : h0 ≤ h) (o : ON h0 h l xs) (hv : v = (c : Int)) (hv2 : w = (d : Int)) (hv3 : z = (e : Int)) (hb : xs.length < 1000000) (hk : ∀ l' h', h0 ≤ h' → ON h0 h' l' (xs ++ [c, d, e]) → K l' h') :
    NewW [.int .u8 v, .int .u8 w, .int .u8 z] (fun a h2 => zdl 1 1 [.int .u8 (0 : Int)] l ⟨some a, 3, 3⟩ K h2) h := by
  subst hv hv2 hv3
  exact zhn1 hw o (ys := [c, d, e]) rfl rfl zul eN_ok rfl (by simp only [List.length_cons, List.length_nil]; omega) fun l' h' a b _ => hk l' h' a b

theorem byte8 (x : Int) : IntKind.wrap .u8 x = x % 256 := rfl

/-- A text of a number, a sign ahead of it. -/
theorem zwt1 {dst s : Sl} {xs : List Nat} {b : Nat} {cs : List Value} {neg : Bool} {d : Nat} {ds : List Nat} {dp nd prec : Int} {Q : Sl → Hp → Prop} (hw : h0 ≤ h) (o : ON h0 h dst xs) (hx : xs.length < 1000) (hb : s.base = some ⟨b, 0, none⟩) (kb : Blk h0 b cs)
    (hs : s.len = cs.length) (hc : s.cap = s.len) (hl : s.len < 1000) (hn : nd = ((ds.length + 1 : Nat) : Int)) (hcs : cs.take (ds.length + 1) = (d :: ds).map fun (c : Nat) => Value.int .u8 (c : Int)) (hp : prec = ds.length) (p0 : -999 < dp) (p1 : dp < 1000)
    (hk : ∀ r h', h0 ≤ h' → ON h0 h' r (xs ++ sciL neg d ds (dp - 1)) → Q r h') : zcg Tryz.prog dst neg s dp nd prec (101 : Int) true Q h := by
  have hlen : ds.length + 1 ≤ cs.length := by
    have := congrArg List.length hcs
    simp only [List.length_take, List.length_map, List.length_cons] at this
    omega
  unfold zcg
  refine JoinW2.direct (letW (iteF (by decide) ?_))
  refine JoinW1.direct (iteT (by decide) (iteT (by decide) ?_))
  -- a sign
  refine JoinW1.intro (fun l k => h0 ≤ k ∧ ON h0 k l (xs ++ if neg then [45] else [])) ?_ ?_
  · cases neg with
    | true => exact iteT rfl (app1 hw o (c := 45) rfl (by omega) fun l' h' a b => ⟨a, b⟩)
    | false => exact iteF (by decide) ⟨hw, by simpa using o⟩
  rintro l1 k1 ⟨w1, o1⟩
  have len1 : (xs ++ if neg then [45] else []).length < 1002 := by cases neg <;> simp <;> omega
  -- the first digit
  refine JoinW1.intro (fun c k => k = k1 ∧ c = (d : Int)) ?_ ?_
  · refine iteT (by rw [hn]; exact bne_iff_ne.2 (by omega)) ⟨⟨by rw [hb]; simp, by omega, by omega⟩, ld_at (sh := shInt .u8) (d : Int) ?_ ⟨rfl, rfl⟩⟩
    have e : sat s.base 1 (0 : Int) = ⟨b, 0, none⟩ := by rw [hb]; show Addr.add ⟨b, 0, none⟩ _ = _; rw [zak]; rfl
    rw [e]
    refine (kb.le w1).ldIs (n := 1) ?_
    show List.take 1 (List.drop 0 cs) = [Value.int .u8 (d : Int)]
    have := congrArg (List.take 1) hcs
    rw [List.take_take, show min 1 (ds.length + 1) = 1 by omega] at this
    simpa using this
  rintro _ k1 ⟨rfl, rfl⟩
  refine app1 w1 o1 rfl (by omega) fun l2 k2 w2 o2 => ?_
  -- the others
  refine JoinW1.intro (fun l k => h0 ≤ k ∧ ON h0 k l (xs ++ (if neg then [45] else []) ++ [d] ++ if ds = [] then [] else 46 :: ds)) ?_ ?_
  · rw [hp]
    by_cases hds : ds = []
    · exact iteF (by rw [hds]; decide) ⟨w2, by rw [if_pos hds]; simpa using o2⟩
    · have hd1 : 1 ≤ ds.length := by
        cases ds with
        | nil => exact absurd rfl hds
        | cons _ _ => simp
      refine iteT (decide_eq_true (by omega)) (app1 w2 o2 (c := 46) rfl (by rw [List.length_append]; simp only [List.length_singleton]; omega) fun l3 k3 w3 o3 => ?_)
      have emin : min2I nd (IntKind.wrap .i64 ((ds.length : Int) + (1 : Int))) = ((ds.length + 1 : Nat) : Int) := by
        rw [zaf (by omega) (by omega), hn]
        unfold min2I
        split <;> omega
      rw [emin]
      refine JoinW2.intro (fun l i k => h0 ≤ k ∧ i = ((ds.length + 1 : Nat) : Int) ∧ ON h0 k l (xs ++ (if neg then [45] else []) ++ [d] ++ 46 :: ds)) ?_ ?_
      · refine iteT (decide_eq_true (by omega)) ⟨⟨by decide, by omega, by omega⟩, letW ?_⟩
        rw [Int.toNat_natCast]
        have hrow : Rw k3 1 eN ⟨sbase s.base 1 1 s.cap, ds.length + 1 - 1, s.cap - 1⟩ ds := by
          refine ⟨by show ds.length + 1 - 1 = _; omega, ?_⟩
          have eb : sbase s.base 1 1 s.cap = some ⟨b, 1, none⟩ := by
            unfold sbase
            rw [hb, if_neg (by omega)]
            show some (Addr.add _ _) = _
            rw [zak]
          show ztb k3 (sbase s.base 1 1 s.cap) (ds.length * 1) (ds.flatMap eN)
          rw [eb]
          refine (kb.le w3).rd (by rw [zfx zul]) ?_
          have := congrArg (List.drop 1) hcs
          rw [List.drop_take, Nat.add_sub_cancel] at this
          rw [Nat.mul_one, this]
          simp only [List.map_cons, List.drop_succ_cons, List.drop_zero]
          exact zbq1 ds
        refine zos1 w3 o3 hrow zul eN_ok rfl (by rw [List.length_append, List.length_append]; simp only [List.length_singleton]; omega) fun l4 k4 w4 o4 _ => ⟨w4, rfl, ?_⟩
        simpa using o4
      · rintro l4 i k4 ⟨w4, rfl, o4⟩
        refine LoopW2.intro (fun l t k => l = l4 ∧ t = 0 ∧ k = k4) (fun _ _ _ => 0) ⟨rfl, rfl, rfl⟩ ?_
        rintro _ _ _ ⟨rfl, rfl, rfl⟩
        refine iteF (fun hh => ?_) ⟨w4, by rw [if_neg hds]; exact o4⟩
        have := of_decide_eq_true hh
        rw [zaf (n := (ds.length : Int) + 1) (by omega) (by omega), zaf (by omega) (by omega)] at this
        omega
  rintro l3 k3 ⟨w3, o3⟩
  have len3 : (xs ++ (if neg then [45] else []) ++ [d] ++ if ds = [] then [] else 46 :: ds).length < 5000 := by
    rw [List.length_append, List.length_append]
    have : (if ds = [] then [] else 46 :: ds).length ≤ ds.length + 1 := by split <;> simp
    simp only [List.length_singleton]
    omega
  refine app1 w3 o3 (c := 101) rfl (by omega) fun l4 k4 w4 o4 => ?_
  refine JoinW1.intro (fun e k => k = k4 ∧ e = dp - 1) (iteF (by rw [hn]; intro hh; have := beq_iff_eq.1 hh; omega) ⟨rfl, zaf (by omega) (by omega)⟩) ?_
  rintro _ k4 ⟨rfl, rfl⟩
  refine JoinW2.intro (fun c e k => k = k4 ∧ c = ((if dp - 1 < 0 then 45 else 43 : Nat) : Int) ∧ e = ((dp - 1).natAbs : Int)) ?_ ?_
  · by_cases hneg : dp - 1 < 0
    · refine iteT (decide_eq_true hneg) ⟨rfl, by rw [if_pos hneg]; rfl, ?_⟩
      rw [zaf (by omega) (by omega)]
      omega
    · exact iteF (fun hh => hneg (of_decide_eq_true hh)) ⟨rfl, by rw [if_neg hneg]; rfl, by omega⟩
  rintro _ _ k4 ⟨rfl, rfl, rfl⟩
  refine app1 w4 o4 rfl (by rw [List.length_append, List.length_singleton]; omega) fun l5 k5 w5 o5 => ?_
  have fin : ∀ {r : Sl} {k : Hp} {zs : List Nat}, h0 ≤ k → zs = expL (dp - 1).natAbs → ON h0 k r (xs ++ (if neg then [45] else []) ++ [d] ++ (if ds = [] then [] else 46 :: ds) ++ [101] ++ [if dp - 1 < 0 then 45 else 43] ++ zs) → Q r k := fun {r k zs} w e o' => hk r k w (by
    subst e
    unfold sciL
    simpa using o')
  have len5 : (xs ++ (if neg then [45] else []) ++ [d] ++ (if ds = [] then [] else 46 :: ds) ++ [101] ++ [if dp - 1 < 0 then 45 else 43]).length < 1000000 := by
    rw [List.length_append, List.length_append, List.length_singleton, List.length_singleton]
    omega
  have he : (dp - 1).natAbs < 1000 := by omega
  generalize (dp - 1).natAbs = e at *
  unfold expL at fin
  by_cases c1 : e < 10
  · refine iteT (decide_eq_true (by omega)) (app2 w5 o5 (c := 48) (d := 48 + e) rfl (by rw [byte8, byte8]; omega) len5 fun r k w o' => fin w (by rw [if_pos c1]) o')
  · refine iteF (fun hh => c1 (by have := of_decide_eq_true hh; omega)) ?_
    rw [if_neg c1] at fin
    have t10 : ∀ {x : Nat}, Int.tdiv (x : Int) (10 : Int) = ((x / 10 : Nat) : Int) := tdivN
    have t100 : ∀ {x : Nat}, Int.tdiv (x : Int) (100 : Int) = ((x / 100 : Nat) : Int) := tdivN
    have m10 : ∀ {x : Nat}, Int.tmod (x : Int) (10 : Int) = ((x % 10 : Nat) : Int) := tmodN
    by_cases c2 : e < 100
    · refine iteT (decide_eq_true (by omega)) ⟨by decide, by decide, app2 w5 o5 (c := 48 + e / 10) (d := 48 + e % 10) ?_ ?_ len5 fun r k w o' => fin w (by rw [if_pos c2]) o'⟩
      · rw [t10, byte8, byte8, zaf (by omega) (by omega)]; omega
      · rw [m10, byte8, byte8]; omega
    · rw [if_neg c2] at fin
      refine iteF (fun hh => c2 (by have := of_decide_eq_true hh; omega)) ⟨by decide, by decide, by decide, by decide, app3 w5 o5 (c := 48 + e / 100) (d := 48 + e / 10 % 10) (e := 48 + e % 10) ?_ ?_ ?_ len5 fun r k w o' => fin w rfl o'⟩
      · rw [t100, byte8, byte8, zaf (by omega) (by omega)]; omega
      · rw [t10, zaf (by omega) (by omega), byte8 ((e / 10 : Nat) : Int), show ((e / 10 : Nat) : Int) % 256 = ((e / 10 : Nat) : Int) by omega, m10, byte8]; omega
      · rw [m10, byte8, byte8]; omega
end
end Lf

/-
  Floats: what the program makes of bits.
-/
namespace Lf
open Go Go.Proofs

section
variable {P : Program} {h : Hp}

theorem zuy1 {P : Program} {s : Sem Value} {sh : Shape} {K : sh.T → Hp → Prop} {h : Hp} (hs : semW P s (fun v h' => ∃ x, v = sh.enc x ∧ K x h') h) : SemE P s sh K h := hs

/-- A sum, a difference, a product, a quotient. -/
theorem zig {op : BinOp} {t : Nat} {x y : Operand} {a b : Nat} {r : Option Nat} {K : Nat → Hp → Prop} (he : binS op t x y (.float .f64 a) (.float .f64 b) = (match r with
      | some r => Sem.pure (Value.float .f64 r)
      | none => Sem.bind (choose (.nanBits .f64 a b)) fun n => Sem.pure (Value.float .f64 n)))
    (hk : ∀ f, (∀ v, r = some v → f = v) → (r = none → isNaN f = true) → K f h) : SemE P (binS op t x y (.float .f64 a) (.float .f64 b)) (shFlt .f64) K h := by
  refine zuy1 ?_
  rw [he]
  cases r with
  | some r => exact ⟨r, rfl, hk r (fun v e => (Option.some.inj e)) fun e => by cases e⟩
  | none =>
    intro n
    exact ⟨_, rfl, hk _ (fun v e => by cases e) fun _ => zuq1 a b n⟩

theorem zuz1 {t : Nat} {x y : Operand} {a b : Nat} : binS .add t x y (.float .f64 a) (.float .f64 b) = (match f64.format.add a b with
      | some r => Sem.pure (Value.float .f64 r)
      | none => Sem.bind (choose (.nanBits .f64 a b)) fun n => Sem.pure (Value.float .f64 n)) := by
  cases e : f64.format.add a b <;> (show Op.floatArith .add .f64 a b = _; unfold Op.floatArith; simp only [pure, bind, Sem.bind, e])

theorem zva1 {t : Nat} {x y : Operand} {a b : Nat} : binS .sub t x y (.float .f64 a) (.float .f64 b) = (match f64.format.sub a b with
      | some r => Sem.pure (Value.float .f64 r)
      | none => Sem.bind (choose (.nanBits .f64 a b)) fun n => Sem.pure (Value.float .f64 n)) := by
  cases e : f64.format.sub a b <;> (show Op.floatArith .sub .f64 a b = _; unfold Op.floatArith; simp only [pure, bind, Sem.bind, e])

theorem zdd1 {t : Nat} {x y : Operand} {a b : Nat} : binS .mul t x y (.float .f64 a) (.float .f64 b) = (match f64.format.mul a b with
      | some r => Sem.pure (Value.float .f64 r)
      | none => Sem.bind (choose (.nanBits .f64 a b)) fun n => Sem.pure (Value.float .f64 n)) := by
  cases e : f64.format.mul a b <;> (show Op.floatArith .mul .f64 a b = _; unfold Op.floatArith; simp only [pure, bind, Sem.bind, e])

theorem zht1 {t : Nat} {x y : Operand} {a b : Nat} : binS .quo t x y (.float .f64 a) (.float .f64 b) = (match f64.format.div a b with
      | some r => Sem.pure (Value.float .f64 r)
      | none => Sem.bind (choose (.nanBits .f64 a b)) fun n => Sem.pure (Value.float .f64 n)) := by
  cases e : f64.format.div a b <;> (show Op.floatArith .quo .f64 a b = _; unfold Op.floatArith; simp only [pure, bind, Sem.bind, e])

theorem zea {s : Sem Value} {sh : Shape} {v : sh.T} {K : sh.T → Prop} (he : s = Sem.pure (sh.enc v)) (hk : K v) : SemV none P s sh h K := by
  refine ⟨v, zvp ?_, hk⟩
  rw [he]
  exact ⟨rfl, rfl⟩

theorem zvx {b : Int} {Q : Nat → Hp → Prop} (hq : Q (zjb b) h) : zuv Tryz.prog b Q h := by
  unfold zuv
  exact ⟨_, rfl, hq⟩

theorem zzk {f : Nat} {Q : Int → Hp → Prop} (hq : Q (bitsP f) h) : zwm Tryz.prog f Q h := by
  unfold zwm
  refine zea (sh := zag) (v := isNaN f) rfl ?_
  unfold bitsP at hq
  by_cases e : isNaN f = true
  · rw [if_pos e]; rw [if_pos e] at hq; exact hq
  · rw [if_neg e]; rw [if_neg e] at hq
    exact ⟨(f : Int), rfl, hq⟩

/-! How far numbers reach. -/
theorem zsi1 {s : Bool} {n d : Nat} : Ieee.Toward.zero.cut s n d * 2 ^ d ≤ n := by
  unfold Ieee.Toward.cut
  simp only [Bool.toNat_false, Nat.add_zero, Nat.shiftLeft_eq, Nat.one_mul]
  by_cases hd : d ≤ n.log2 + 2
  · rw [Nat.min_eq_left hd]
    exact Nat.div_mul_le_self n (2 ^ d)
  · rw [Nat.min_eq_right (by omega)]
    have : n < 2 ^ (n.log2 + 2) := by
      by_cases h0 : n = 0
      · grind
      · have := Nat.lt_log2_self (n := n)
        grind
    rw [Nat.div_eq_of_lt this, Nat.zero_mul]
    omega

theorem zzl (m i : Nat) : m <<< i = m * 2 ^ i := Nat.shiftLeft_eq m i

/-- The whole part of a number between two bounds. -/
theorem zsj1 {s : Bool} {m : Nat} {i : Int} (h1 : Ieee.Datum.order (.number s m i) (.number false 4503599627370496 11) = some .lt) (h2 : Ieee.Datum.order (.number s m i) (.number true 4503599627370496 11) ≠ some .lt) :
    ∃ n, (Ieee.Datum.number s m i).toInt .zero = some n ∧ -9223372036854775808 ≤ n ∧ n ≤ 9223372036854775807 := by
  refine ⟨_, rfl, ?_⟩
  have h1 : compare (Ieee.signed s m (i - min i 11).toNat) (Ieee.signed false 4503599627370496 (11 - min i 11).toNat) = .lt := Option.some.inj h1
  have h2 : compare (Ieee.signed s m (i - min i 11).toNat) (Ieee.signed true 4503599627370496 (11 - min i 11).toNat) ≠ .lt := fun e => h2 (congrArg some e)
  rw [Int.compare_eq_lt] at h1
  rw [ne_eq, Int.compare_eq_lt] at h2
  have hc := zsi1 (s := s) (n := m <<< i.toNat) (d := (-i).toNat)
  generalize hw : Ieee.Toward.zero.cut s (m <<< i.toNat) (-i).toNat = w at hc
  have e0 : Ieee.signed s w 0 = if s then -(w : Int) else (w : Int) := by unfold Ieee.signed; simp
  show -9223372036854775808 ≤ Ieee.signed s w 0 ∧ Ieee.signed s w 0 ≤ 9223372036854775807
  rw [e0]
  have key : ∃ C B : Nat, 0 < C ∧ 0 < B ∧ w * B ≤ (m <<< (i - min i 11).toNat) * C ∧ (4503599627370496 <<< (11 - min i 11).toNat) * C = 9223372036854775808 * B := by
    by_cases hi : i ≤ 11
    · have e1 : min i 11 = i := by omega
      rw [e1, Int.sub_self]
      by_cases h0 : 0 ≤ i
      · refine ⟨2 ^ i.toNat, 1, Nat.two_pow_pos _, by decide, ?_, ?_⟩
        · have e2 : (-i).toNat = 0 := by omega
          rw [e2, Nat.pow_zero, zzl] at hc
          grind
        · rw [zzl, Nat.mul_assoc, ← Nat.pow_add, show (11 - i).toNat + i.toNat = 11 by omega]
      · refine ⟨1, 2 ^ (-i).toNat, by decide, Nat.two_pow_pos _, ?_, ?_⟩
        · grind
        · rw [zzl, Nat.mul_one, show (11 - i).toNat = 11 + (-i).toNat by omega, Nat.pow_add, ← Nat.mul_assoc]
    · have e1 : min i 11 = 11 := by omega
      rw [e1]
      refine ⟨2 ^ 11, 1, by decide, by decide, ?_, by decide⟩
      have e2 : (-i).toNat = 0 := by omega
      rw [e2, Nat.pow_zero, zzl] at hc
      rw [zzl, Nat.mul_assoc, ← Nat.pow_add, show (i - 11).toNat + 11 = i.toNat by omega]
      exact hc
  obtain ⟨C, B, hC, hB, hwB, hM⟩ := key
  generalize hm' : m <<< (i - min i 11).toNat = m' at *
  generalize hn' : 4503599627370496 <<< (11 - min i 11).toNat = n' at *
  have s1 : Ieee.signed s m (i - min i 11).toNat = if s then -(m' : Int) else (m' : Int) := by unfold Ieee.signed; rw [hm']
  have s2 : Ieee.signed false 4503599627370496 (11 - min i 11).toNat = (n' : Int) := by unfold Ieee.signed; rw [hn']; rfl
  have s3 : Ieee.signed true 4503599627370496 (11 - min i 11).toNat = -(n' : Int) := by unfold Ieee.signed; rw [hn']; rfl
  rw [s1, s2] at h1
  rw [s1, s3] at h2
  cases s with
  | false =>
    simp only [Bool.false_eq_true, if_false] at h1 ⊢
    have h1 : m' < n' := by omega
    have : m' * C < n' * C := Nat.mul_lt_mul_of_pos_right h1 hC
    have : w * B < 9223372036854775808 * B := by omega
    have := Nat.lt_of_mul_lt_mul_right this
    omega
  | true =>
    simp only [if_true] at h2 ⊢
    have h2 : m' ≤ n' := by omega
    have : m' * C ≤ n' * C := Nat.mul_le_mul_right C h2
    have : w * B ≤ 9223372036854775808 * B := by omega
    have := Nat.le_of_mul_le_mul_right this hB
    omega

theorem zvb1 {b : Nat} {n : Int} (h0 : (f64.decode b).toInt .zero = some n) (h1 : IntKind.min .i64 ≤ n ∧ n ≤ IntKind.max .i64) : SemIs Tryz.prog (convert 48 2 (.float .f64 b)) h (.int .i64 n) := by
  refine zte fun w => ?_
  have u1 := run_underlying' (e := ty48) tb_ok (t := 48) rfl w
  have u2 := run_underlying' (e := ty2) tb_ok (t := 2) rfl w
  simp only [convert, Sem.run_bind, u1, u2, Result.andThen_ok]
  show (Conv.floatToInt .f64 b .i64).run Tryz.prog w = _
  unfold Conv.floatToInt
  rw [h0]
  dsimp only
  rw [if_pos h1]
  rfl

theorem zvc1 {b : Int} : SemIs Tryz.prog (convert 2 48 (.int .i64 b)) h (.float .f64 (f64.nearest b)) := by
  refine zte fun w => ?_
  have u1 := run_underlying' (e := ty48) tb_ok (t := 48) rfl w
  have u2 := run_underlying' (e := ty2) tb_ok (t := 2) rfl w
  simp only [convert, Sem.run_bind, u1, u2, Result.andThen_ok]
  rfl

theorem zvd1 : f64.format.read 4890909195324358656 = .number false 4503599627370496 11 := by decide
theorem zve1 : f64.format.read 14114281232179134464 = .number true 4503599627370496 11 := by decide

/-- A float that is neither a NaN nor out of bounds has a whole part within them. -/
theorem zmf1 {f : Nat} (hn : isNaN f = false) (h1 : ¬ (f64.format.order f 4890909195324358656 = some .gt ∨ f64.format.order f 4890909195324358656 = some .eq)) (h2 : f64.format.order f 14114281232179134464 ≠ some .lt) :
    ∃ n, (f64.decode f).toInt .zero = some n ∧ IntKind.min .i64 ≤ n ∧ n ≤ IntKind.max .i64 := by
  have o1 : f64.format.order f 4890909195324358656 = (f64.format.read f).order (.number false 4503599627370496 11) := by
    show (f64.format.read f).order (f64.format.read _) = _
    rw [zvd1]
  have o2 : f64.format.order f 14114281232179134464 = (f64.format.read f).order (.number true 4503599627370496 11) := by
    show (f64.format.read f).order (f64.format.read _) = _
    rw [zve1]
  rw [o1] at h1
  rw [o2] at h2
  unfold isNaN at hn
  have hn : (((f64.format.read f).order (f64.format.read f)) != some .eq) = false := hn
  show ∃ n, (f64.format.read f).toInt .zero = some n ∧ _
  generalize f64.format.read f = d at *
  cases d with
  | nan a b => simp [Ieee.Datum.order] at hn
  | infinity a => cases a <;> simp [Ieee.Datum.order] at h1 h2
  | number a m i =>
    refine zsj1 ?_ h2
    have h1 : ¬ (some (compare _ _) = _ ∨ some (compare _ _) = _) := h1
    show some (compare _ _) = some .lt
    generalize compare (Ieee.signed a m (i - min i 11).toNat) (Ieee.signed false 4503599627370496 (11 - min i 11).toNat) = c at *
    cases c <;> simp at h1 ⊢

theorem zpm1 {f : Nat} {Q : Int → Hp → Prop} (hq : Q (zpa1 f) h) : zuw Tryz.prog f Q h := by
  unfold zuw
  refine zea (sh := zag) (v := isNaN f) rfl ?_
  unfold zpa1 at hq
  by_cases e : isNaN f = true
  · rw [if_pos e]; rw [if_pos e] at hq; exact hq
  rw [if_neg e]; rw [if_neg e] at hq
  refine zea (sh := zag) (v := f64.format.order f 4890909195324358656 == some .gt || f64.format.order f 4890909195324358656 == some .eq) rfl ?_
  by_cases e1 : f64.format.order f 4890909195324358656 = some .gt ∨ f64.format.order f 4890909195324358656 = some .eq
  · grind
  rw [if_neg (by simpa using e1)]; rw [if_neg e1] at hq
  refine zea (sh := zag) (v := f64.format.order f 14114281232179134464 == some .lt) rfl ?_
  by_cases e2 : f64.format.order f 14114281232179134464 = some .lt
  · grind
  rw [if_neg (by simpa using e2)]; rw [if_neg e2] at hq
  obtain ⟨n, e3, e4⟩ := zmf1 (by simpa using e) e1 e2
  rw [e3] at hq
  exact ⟨n, zvb1 e3 e4, hq⟩

theorem zki1 {o : Option Nat} {f : Nat} (h1 : ∀ v, o = some v → f = v) (h2 : o = none → isNaN f = true) : bitsP f = resP o := by
  cases o with
  | some v => rw [h1 v rfl]; rfl
  | none => unfold bitsP; rw [if_pos (h2 rfl)]; rfl

theorem zde1 {op b c : Int} {Q : Int → Int → Hp → Prop} (h1 : 15 ≤ op ∧ op ≤ 21 → Q (fltP op b c) 0 h) (h2 : ¬ (15 ≤ op ∧ op ≤ 21) → Q 0 9 h) : zcu1 Tryz.prog op b c Q h := by
  have case : ∀ n : Int, (op == n) = decide (op = n) := fun n => by by_cases e : op = n <;> simp [e]
  unfold zcu1
  refine ziy (zvx ?_)
  refine ziy (zvx ?_)
  unfold fltP at h1
  simp only [case]
  by_cases h3 : op = 15
  · subst h3
    refine zig zuz1 fun f e1 e2 => zkn (zzk ?_)
    rw [zki1 e1 e2]; simpa using h1
  by_cases h4 : op = 16
  · subst h4
    refine zig zva1 fun f e1 e2 => zkn (zzk ?_)
    rw [zki1 e1 e2]; simpa using h1
  by_cases h5 : op = 17
  · subst h5
    refine zig zdd1 fun f e1 e2 => zkn (zzk ?_)
    rw [zki1 e1 e2]; simpa using h1
  by_cases h6 : op = 18
  · subst h6
    refine zig zht1 fun f e1 e2 => zkn (zzk ?_)
    rw [zki1 e1 e2]; simpa using h1
  by_cases h7 : op = 19
  · subst h7
    refine zea (sh := zag) (v := f64.format.order (zjb b) (zjb c) == some .lt) rfl ?_
    simp [oneP] at h1 ⊢
    by_cases e : f64.format.order (zjb b) (zjb c) = some .lt
    · rw [if_pos e]; rw [if_pos e] at h1; exact h1
    · rw [if_neg e]; rw [if_neg e] at h1; exact h1
  by_cases h8 : op = 20
  · subst h8
    refine ⟨f64.nearest b, zvc1, zkn (zzk ?_)⟩
    simpa using h1
  by_cases h9 : op = 21
  · subst h9
    refine zae1 (zpm1 ?_)
    simpa using h1
  grind
end
end Lf

/-
  Floats as texts: what FormatFloat makes of a finite one.
-/
namespace Lf
open Go Go.Proofs

def strN (xs : List Nat) : ByteArray := ⟨(xs.map UInt8.ofNat).toArray⟩

theorem zpb {P : Program} {src dst e : TypeId} {h : Hp} {l : Sl} {xs : List Nat} (hs : P.underlying src = some (.slice e)) (he : P.underlying e = some (.int .u8)) (hd : P.underlying dst = some .string) (r : Rw h 1 eN l xs) (hx : ∀ x ∈ xs, x < 256) : SemIs P (convert src dst l.v) h (.string (strN xs)) := fun w hw => by
  refine ⟨w, ?_, .refl hw⟩
  obtain ⟨h1, h3⟩ := r
  obtain ⟨-, h3⟩ := h3
  rw [Nat.mul_one] at h3
  have nilc : l.base = none → xs.length = 0 := fun hb => by
    rcases h3 with h3 | ⟨a, ha, _⟩
    · exact h3
    · rw [hb] at ha; cases ha
  unfold Sl.v strN
  have hlen : (xs.map UInt8.ofNat).length = xs.length := List.length_map ..
  cases hb : l.base with
  | none =>
    have : xs = [] := List.length_eq_zero_iff.1 (nilc hb)
    subst this
    rw [run_convert_bytes_string w src dst e none l.len l.cap hs he hd]
    rfl
  | some a =>
    rw [h1, ← hlen]
    refine run_convert_bytes_back w src dst e a l.cap (xs.map UInt8.ofNat) hs he hd fun j hj => ?_
    rcases h3 with h3 | ⟨a', ha, hl⟩
    · omega
    · rw [hb] at ha; cases ha
      have hj' : j < xs.length := by omega
      have e1 : ((xs.map UInt8.ofNat)[j]'hj).toNat = xs[j] := by
        rw [List.getElem_map, UInt8.toNat_ofNat']
        have := hx _ (List.getElem_mem hj')
        omega
      have : (xs.flatMap eN)[j]? = some (.int .u8 (((xs.map UInt8.ofNat)[j]'hj).toNat : Int)) := by
        rw [← zbq1, List.getElem?_map, List.getElem?_eq_getElem hj', e1]; rfl
      have hc := hl j _ this
      rw [← zlk]
      exact ztw (fun b o e => hw b o e) hc

/-- The digits of a number, as letters. -/
def digL : Nat → Nat → List Nat
  | 0, _ => []
  | n + 1, u => digL n (u / 10) ++ [48 + u % 10]

theorem zkq : ∀ n u, (digL n u).length = n
  | 0, _ => rfl
  | n + 1, u => by rw [digL, List.length_append, zkq n]; rfl

theorem zdf1 : ∀ n u, digV n u = (digL n u).map fun (c : Nat) => Value.int .u8 (c : Int)
  | 0, _ => rfl
  | n + 1, u => by rw [digV, digL, List.map_append, zdf1 n]; rfl

theorem zzm : ∀ (k a u : Nat), (digL (a + k) u).take a = digL a (u / 10 ^ k)
  | 0, a, u => by rw [Nat.add_zero, Nat.pow_zero, Nat.div_one, List.take_of_length_le (by rw [zkq]; exact Nat.le_refl _)]
  | k + 1, a, u => by
    rw [← Nat.add_assoc, digL, List.take_append_of_le_length (by rw [zkq]; omega), zzm k a (u / 10), Nat.div_div_eq_div_mul, Nat.pow_succ']

theorem zwu : ∀ (n u : Nat), ∀ x ∈ digL n u, 48 ≤ x ∧ x < 58
  | 0, _, x, h => by simp [digL] at h
  | n + 1, u, x, h => by
    rw [digL, List.mem_append] at h
    rcases h with h | h
    · exact zwu n _ x h
    · rw [List.mem_singleton.1 h]; omega

/-- A number's text: so many digits, an exponent. -/
def sciT (neg : Bool) (a v : Nat) (e : Int) : List Nat := match digL a v with
  | [] => []
  | c :: ds => sciL neg c ds e

theorem zvf1 {neg : Bool} {a v : Nat} {e : Int} (he : e.natAbs < 1000) : ∀ x ∈ sciT neg a v e, x < 256 := by
  unfold sciT
  have hd := zwu a v
  generalize digL a v = l at *
  intro x hx
  cases l with
  | nil => simp at hx
  | cons c ds =>
    have h1 := hd c (List.mem_cons_self ..)
    have h2 : ∀ y ∈ ds, y < 58 := fun y hy => (hd y (List.mem_cons_of_mem _ hy)).2
    have h3 : ∀ y ∈ expL e.natAbs, y < 256 := by
      unfold expL
      intro y hy
      split at hy
      · simp at hy; omega
      · split at hy <;> simp at hy <;> omega
    have hx : x ∈ (if neg then [45] else []) ++ [c] ++ (if ds = [] then [] else 46 :: ds) ++ [101, if e < 0 then 45 else 43] ++ expL e.natAbs := hx
    rw [List.mem_append, List.mem_append, List.mem_append, List.mem_append] at hx
    rcases hx with (((hx | hx) | hx) | hx) | hx
    · cases neg <;> simp at hx; omega
    · simp at hx; omega
    · split at hx
      · cases hx
      · rcases List.mem_cons.1 hx with hx | hx
        · omega
        · have := h2 x hx; omega
    · simp at hx
      rcases hx with hx | hx
      · omega
      · split at hx <;> omega
    · exact h3 x hx

section
variable {h0 h : Hp}

theorem zfe1 {a : Nat} (k : Nat) (ha : a < 9223372036854775808) (hk : k ≤ 62) : bitsI .and .i64 (IntKind.wrap .i64 (a : Int)) ((2 ^ k - 1 : Nat) : Int) = ((a % 2 ^ k : Nat) : Int) := by
  have h2 : 2 ^ k ≤ 2 ^ 62 := Nat.pow_le_pow_right (by decide) hk
  have hp := Nat.two_pow_pos k
  have hm : a % 2 ^ k ≤ a := Nat.mod_le _ _
  rw [zaf (by omega) (by omega)]
  unfold bitsI
  dsimp only
  show IntKind.wrap .i64 (((BitVec.ofInt 64 (a : Int)) &&& (BitVec.ofInt 64 ((2 ^ k - 1 : Nat) : Int))).toNat : Int) = _
  rw [BitVec.toNat_and, zjl (by omega), zjl (by omega), Nat.and_two_pow_sub_one_eq_mod, zaf (by omega) (by omega)]

/-- A float's parts, shifted to the left. -/
def mS (r : Nat) : Nat := zaa r * 2 ^ (64 - bitsN (zaa r))
def eS (r : Nat) : Int := zab r - ((64 - bitsN (zaa r) : Nat) : Int)

theorem zih {r : Nat} (h1 : 0 < r) (h2 : r < 9218868437227405312) : 1 ≤ bitsN (zaa r) ∧ bitsN (zaa r) ≤ 53 ∧ (bitsN (zaa r) < 53 → zab r = -1074) ∧ -1074 ≤ zab r ∧ zab r ≤ 971 ∧ zaa r ≠ 0 := by
  have hm : zaa r ≠ 0 := fun e => by rw [zoq h2] at e; omega
  have b1 := zof (zaa r)
  have b2 := zsn hm
  have hl : zaa r < 2 ^ 53 := by unfold zaa; split <;> omega
  have b3 := zvw hl
  refine ⟨by unfold bitsN; rw [if_neg hm]; omega, b3, fun hb => ?_, partsE_ge' r, ?_, hm⟩
  · unfold zab
    by_cases hr : r < 4503599627370496
    · rw [if_pos hr]
    · exfalso
      have : 4503599627370496 ≤ zaa r := by unfold zaa; rw [if_neg hr]; omega
      have : 2 ^ bitsN (zaa r) ≤ 2 ^ 52 := Nat.pow_le_pow_right (by decide) (by omega)
      omega
  · unfold zab; split <;> omega
where
  partsE_ge' (r : Nat) : -1074 ≤ zab r := by unfold zab; split <;> omega

theorem mS_in {r : Nat} (h1 : 0 < r) (h2 : r < 9218868437227405312) : 9223372036854775808 ≤ mS r ∧ mS r + 2 ^ zP (eS r) ≤ 18446744073709551616 ∧ -1137 ≤ eS r ∧ eS r ≤ 974 ∧ zP (eS r) = 64 - bitsN (zaa r) := by
  obtain ⟨b1, b2, b3, b4, b5, hm⟩ := zih h1 h2
  have l1 := zof (zaa r)
  have l2 := zsn hm
  have hz : zP (eS r) = 64 - bitsN (zaa r) := by
    unfold zP eS
    split
    · omega
    · have := b3 (by omega); omega
  have e1 : 2 ^ (bitsN (zaa r) - 1) * 2 ^ (64 - bitsN (zaa r)) = 9223372036854775808 := by
    rw [← Nat.pow_add, show bitsN (zaa r) - 1 + (64 - bitsN (zaa r)) = 63 by omega]
  have e2 : 2 ^ bitsN (zaa r) * 2 ^ (64 - bitsN (zaa r)) = 18446744073709551616 := by
    rw [← Nat.pow_add, show bitsN (zaa r) + (64 - bitsN (zaa r)) = 64 by omega]
  refine ⟨?_, ?_, by unfold eS; omega, by unfold eS; omega, hz⟩
  · have := Nat.mul_le_mul_right (2 ^ (64 - bitsN (zaa r))) l2
    unfold mS
    omega
  · have := Nat.mul_le_mul_right (2 ^ (64 - bitsN (zaa r))) (show zaa r + 1 ≤ 2 ^ bitsN (zaa r) from l1)
    rw [hz]
    unfold mS
    rw [Nat.succ_mul] at this
    omega

/-- What a finite float's text is. -/
def Shown (r : Nat) (neg : Bool) (zs : List Nat) : Prop := ∃ n k v : Nat, (zbj (mS r) (eS r)).1 = v * 10 ^ k ∧ v % 10 ≠ 0 ∧ k < n ∧ n ≤ 20 ∧ 10 ^ (n - 1) ≤ (zbj (mS r) (eS r)).1 ∧ (zbj (mS r) (eS r)).1 < 10 ^ n ∧ zs = sciT neg (n - k) v ((n : Int) + (zbj (mS r) (eS r)).2 - 1)

theorem zvg1 {dst : Sl} {xs : List Nat} {w b0 : Nat} {Q : Sl → Hp → Prop} (hw : h0 ≤ h) (o : ON h0 h dst xs) (hbase : dst.base = some ⟨b0, 0, none⟩) (hx : xs.length < 1000) (hw64 : w < 18446744073709551616) (w0 : 0 < w % 9223372036854775808) (w1 : w % 9223372036854775808 < 9218868437227405312)
    (d0 : (zbj (mS (w % 9223372036854775808)) (eS (w % 9223372036854775808))).1 ≠ 0) (d1 : (zbj (mS (w % 9223372036854775808)) (eS (w % 9223372036854775808))).1 < 18446744073709551616)
    (t1 : Pow10 h0) (t2 : ztl h0) (hk : ∀ r h' zs, h0 ≤ h' → Shown (w % 9223372036854775808) (negD w) zs → ON h0 h' r (xs ++ zs) → Q r h') : zds Tryz.prog dst w (101 : Int) (-1 : Int) Q h := by
  obtain ⟨b1, b2, b3, b4, b5, hm⟩ := zih w0 w1
  obtain ⟨m0, m1, e0, e1, hz⟩ := mS_in w0 w1
  unfold zds
  refine JoinW4.direct ⟨(w : Int), rfl, ⟨by decide, by decide, by decide, by decide, by decide, ?_⟩⟩
  rw [show IntKind.wrap .i64 ((shlI .i64 (1 : Int) (11 : Int)) - (1 : Int)) = ((2 ^ 11 - 1 : Nat) : Int) by decide, show IntKind.wrap .u64 ((shlI .u64 (1 : Int) (52 : Int)) - (1 : Int)) = (4503599627370495 : Int) by decide, show shlI .u64 (1 : Int) (52 : Int) = ((1 * 2 ^ 52 : Nat) : Int) by decide,
    show IntKind.wrap .i64 ((11 : Int) + (52 : Int)) = ((63 : Nat) : Int) by decide, show (52 : Int) = ((52 : Nat) : Int) from rfl, shrN w (by decide), shrN w (by decide), zfe1 11 (by omega) (by decide), zjy1 hw64]
  have hE : w / 2 ^ 52 % 2 ^ 11 = w % 9223372036854775808 / 4503599627370496 := by omega
  have hF : w % 4503599627370496 = w % 9223372036854775808 % 4503599627370496 := by omega
  rw [hE, hF]
  have hneg : (((w / 2 ^ 63 : Nat) : Int) != (0 : Int)) = negD w := by
    unfold negD
    by_cases c : 9223372036854775808 ≤ w
    · rw [decide_eq_true c]; exact bne_iff_ne.2 (by omega)
    · rw [decide_eq_false c, Bool.eq_false_iff]
      intro hh
      exact bne_iff_ne.1 hh (by omega)
  rw [hneg]
  generalize w % 9223372036854775808 = r at *
  refine iteF (fun hh => by have := beq_iff_eq.1 hh; omega) ?_
  refine JoinW2.intro (fun e m k => k = h ∧ e = zab r + 1075 ∧ m = ((zaa r : Nat) : Int)) ?_ ?_
  · by_cases hr : r < 4503599627370496
    · refine iteT (beq_iff_eq.2 (by omega)) ⟨rfl, ?_, ?_⟩
      · rw [show r / 4503599627370496 = 0 by omega]
        unfold zab
        rw [if_pos hr]
        decide
      · unfold zaa
        rw [if_pos hr, Nat.mod_eq_of_lt hr]
    · refine iteF (fun hh => hr (by have := beq_iff_eq.1 hh; omega)) ⟨by decide, rfl, ?_, ?_⟩
      · unfold zab
        rw [if_neg hr]
        omega
      · unfold zaa
        rw [if_neg hr, zpf1, zjx1 (a := 1) (s := 52) (.inl ⟨rfl, by omega⟩) (by omega)]
        omega
  rintro _ _ h ⟨rfl, rfl, rfl⟩
  refine iteF (by decide) (letW (iteF (by decide) (iteF (fun hh => hm (by have := beq_iff_eq.1 hh; omega)) (iteT (by decide) ?_))))
  intro b ty hb
  generalize hbuf : [Value.int .u8 (0 : Int), _, _, _, _, _, _, _, _, _, _, _, _, _, _, _, _, _, _, _, _, _, _, _, _, _, _, _, _, _, _, _] = buf
  have hbl : buf.length = 32 := by rw [← hbuf]; rfl
  have hle := zlj (o := .cells buf.toArray ty (0, 0)) hb
  have kb : Blk (h.set b (.cells buf.toArray ty (0, 0))) b buf := ⟨ty, zkf⟩
  have hne : b ≠ b0 := fun e => by
    subst e
    obtain ⟨_, _, o3⟩ := o
    rcases o3 with ⟨o3, _⟩ | ⟨b', cs, t, o3, o4, _⟩
    · rw [hbase] at o3; cases o3
    · rw [hbase] at o3; cases o3; rw [hb] at o4; cases o4
  have own := o.mono hle
  have hw2 := Hp.le_trans hw hle
  have hb0 : h0 b = none := zwj hw hb
  clear hbuf
  generalize h.set b (.cells buf.toArray ty (0, 0)) = h1 at *
  have ml : zaa r < 18446744073709551616 := Nat.lt_of_lt_of_le (zof _) (Nat.le_trans (Nat.pow_le_pow_right (by decide) b2) (by decide))
  have hL : IntKind.wrap .i64 ((64 : Int) - (bitsN (zaa r) : Int)) = ((64 - bitsN (zaa r) : Nat) : Int) := by rw [zaf (by omega) (by omega)]; omega
  refine zfz (zxx ml ?_)
  rw [hL]
  have eM : shlI .u64 ((zaa r : Nat) : Int) ((64 - bitsN (zaa r) : Nat) : Int) = ((mS r : Nat) : Int) := shlN (by omega) (by have : 0 < 2 ^ zP (eS r) := Nat.two_pow_pos _; unfold mS at m1; omega)
  have eE : IntKind.wrap .i64 ((IntKind.wrap .i64 ((IntKind.wrap .i64 (zab r + 1075 + (-1023 : Int))) - ((64 - bitsN (zaa r) : Nat) : Int))) - ((52 : Nat) : Int)) = eS r := by
    unfold eS
    rw [zaf (n := zab r + 1075 + -1023) (by omega) (by omega), zaf (n := zab r + 1075 + -1023 - _) (by omega) (by omega), zaf (by omega) (by omega)]
    omega
  rw [eM, eE]
  refine ⟨by omega, zho (zse1 m0 m1 e0 e1 (zbc hw2 t1) fun h2 l2 => letW ?_)⟩
  have eb : sbase (some ⟨b, 0, none⟩) 1 0 32 = some ⟨b, 0, none⟩ := by unfold sbase; rw [if_neg (by decide)]; show some (Addr.add _ _) = _; rw [zak]
  rw [eb]
  obtain ⟨p0, p1, -, -⟩ := p_in (m := mS r) e0 e1
  have hp2 : -400 ≤ (zbj (mS r) (eS r)).2 ∧ (zbj (mS r) (eS r)).2 ≤ 400 := by
    unfold zbj
    split
    · show -400 ≤ -(pP _ _ - 1) ∧ -(pP _ _ - 1) ≤ 400; omega
    · split
      · show -400 ≤ -(pP _ _) ∧ -(pP _ _) ≤ 400; omega
      · show -400 ≤ -(pP _ _) ∧ -(pP _ _) ≤ 400; omega
  have sh : ∀ {n k v : Nat}, (zbj (mS r) (eS r)).1 = v * 10 ^ k → v % 10 ≠ 0 → k < n → n ≤ 20 → 10 ^ (n - 1) ≤ (zbj (mS r) (eS r)).1 → (zbj (mS r) (eS r)).1 < 10 ^ n → Shown r (negD w) (sciT (negD w) (n - k) v ((n : Int) + (zbj (mS r) (eS r)).2 - 1)) := fun a1 a2 a3 a4 a5 a6 => ⟨_, _, _, a1, a2, a3, a4, a5, a6, rfl⟩
  generalize (zbj (mS r) (eS r)).1 = d at *
  generalize (zbj (mS r) (eS r)).2 = p at *
  have kb2 := kb.le l2
  have own2 := own.mono l2
  have hw3 := Hp.le_trans hw2 l2
  refine zgm (zxf d0 d1 (zbc hw3 t2) fun n n1 n20 dn dn1 => ?_)
  refine zma (zfd1 (s := ⟨some ⟨b, 0, none⟩, 32, 32⟩) rfl hbl.symm rfl (by show 32 < _; decide) kb2 d0 d1 (by show n ≤ 32; omega) dn1 (by omega) (by omega) fun h3 k v mv kb3 hv hv10 hkn => ?_)
  refine JoinW1.intro (fun q k' => k' = h3 ∧ q = ((n - k - 1 : Nat) : Int)) (JoinW1.direct (iteT (by decide) (iteT (by decide) ⟨rfl, ?_⟩))) ?_
  · rw [zaf (by omega) (by omega)]
    unfold max2I
    split <;> omega
  rintro q h3' ⟨rfl, rfl⟩
  refine letW ?_
  -- the digits lie beside the text
  have hb03 : h3' b0 = h2 b0 ∨ True := .inr trivial
  have own3 : ON h0 h3' dst xs := by
    obtain ⟨o1, o2, o3⟩ := own2
    refine ⟨o1, o2, ?_⟩
    rcases o3 with o3 | ⟨b', cs, t, o3, o4, o5⟩
    · exact .inl o3
    · refine .inr ⟨b', cs, t, o3, ?_, o5⟩
      rw [hbase] at o3; cases o3
      exact mv.keep _ _ o4 (by simpa using Ne.symm hne)
  have hw4 : h0 ≤ h3' := fun c ob hc => mv.keep c ob (hw3 c ob hc) (by simp only [List.mem_singleton]; intro e; rw [e, hb0] at hc; cases hc)
  have hb0n : h0 b0 = none := by
    obtain ⟨_, _, o3⟩ := own3
    rcases o3 with ⟨o3, _⟩ | ⟨b', cs, t, o3, _, _, _, o4⟩
    · rw [hbase] at o3; cases o3
    · rw [hbase] at o3; cases o3; exact o4
  have own4 : ON (cutH h3' [b0]) h3' dst xs := by
    obtain ⟨o1, o2, o3⟩ := own3
    refine ⟨o1, o2, ?_⟩
    rcases o3 with o3 | ⟨b', cs, t, o3, o4, o5, o6, o7⟩
    · exact .inl o3
    · rw [hbase] at o3; cases o3
      exact .inr ⟨b0, cs, t, hbase, o4, o5, o6, zsa1 (List.mem_singleton.2 rfl)⟩
  have hcut : h0 ≤ cutH h3' [b0] := zwq1 hw4 (by simpa using hb0n)
  have kb4 : Blk (cutH h3' [b0]) b (digV n d ++ buf.drop n) := by
    obtain ⟨t, e⟩ := kb3
    exact ⟨t, by rw [zto1 (by simpa using hne)]; exact e⟩
  -- the digits without zeros last
  obtain ⟨c, ds, hcd⟩ : ∃ c ds, digL (n - k) v = c :: ds := by
    cases hq : digL (n - k) v with
    | nil => have := congrArg List.length hq; rw [zkq] at this; simp at this; omega
    | cons c ds => exact ⟨c, ds, rfl⟩
  have hds : ds.length + 1 = n - k := by have := congrArg List.length hcd; rw [zkq] at this; simpa using this.symm
  have htake : (digV n d ++ buf.drop n).take (ds.length + 1) = (c :: ds).map fun (c : Nat) => Value.int .u8 (c : Int) := by
    rw [hds, List.take_append_of_le_length (by rw [zso]; omega), zdf1, ← List.map_take, ← hcd]
    have := zzm k (n - k) d
    rw [show n - k + k = n by omega, hv, Nat.mul_div_cancel _ (Nat.pow_pos (by decide))] at this
    rw [hv, this]
  refine zhl (zwt1 (s := ⟨some ⟨b, 0, none⟩, 32, 32⟩) zwp1 own4 hx rfl kb4 (by show 32 = _; rw [List.length_append, zso, List.length_drop, hbl]; omega) rfl (by show 32 < _; decide) (by rw [hds]) htake (by omega) (by omega) (by omega) fun r' h4 l4 o4 => ?_)
  have o5 : ON h0 h4 r' (xs ++ sciL (negD w) c ds ((n : Int) + p - 1)) := by
    obtain ⟨q1, q2, q3⟩ := o4
    refine ⟨q1, q2, ?_⟩
    rcases q3 with q3 | ⟨b', cs, t, q3, q4, q5, q6, q7⟩
    · exact .inl q3
    · exact .inr ⟨b', cs, t, q3, q4, q5, q6, zwj hcut q7⟩
  refine hk r' h4 _ (Hp.le_trans hcut l4) (sh hv hv10 hkn n20 dn dn1) ?_
  unfold sciT
  rw [hcd]
  exact o5

end
end Lf

/-
  Floats as texts: a float's bounds; what is reckoned of it is the shortest number within them.
-/
namespace Lf

/-- A float's value and its bounds, in one unit. -/
def kF (r : Nat) : Nat := unitW (zab r - 2) 0
def lowF (r : Nat) : Nat := if zaa r = 4503599627370496 ∧ 1 < r / 4503599627370496 then 4 * zaa r - 1 else 4 * zaa r - 2
def loF (r : Nat) : Nat := lowF r * kF r
def hiF (r : Nat) : Nat := (4 * zaa r + 2) * kF r
def vF (r : Nat) : Nat := 4 * zaa r * kF r
def oddF (r : Nat) : Bool := zaa r % 2 == 1
def pF (r : Nat) : Int := pP (mS r) (eS r)
def inF (r : Nat) (X : Nat) : Bool := inI (loF r) (hiF r) (oddF r) X
def pickF (r : Nat) (s : Int) : Nat := pickD (loF r) (hiF r) (oddF r) (vF r) (unitW 0 s)
/-- The number that is reckoned. -/
def valS (r : Nat) : Nat := (zbj (mS r) (eS r)).1 * unitW 0 (zbj (mS r) (eS r)).2

theorem zty (s k : Int) (hs : -3000 ≤ s) (hk : -3000 ≤ k) : ∃ Z, 0 < Z ∧ 10 ^ s.toNat * 2 ^ (-k).toNat * Z = unitW 0 s ∧ 2 ^ k.toNat * 10 ^ (-s).toNat * Z = unitW k 0 := by
  refine ⟨2 ^ (5000 - (-k).toNat) * 10 ^ (5000 - (-s).toNat), Nat.mul_pos (Nat.two_pow_pos _) (Nat.pow_pos (by decide)), ?_, ?_⟩
  · unfold unitW
    have e : ∀ i j k l : Nat, 10 ^ i * 2 ^ j * (2 ^ k * 10 ^ l) = 2 ^ (j + k) * 10 ^ (i + l) := fun i j k l => by
      rw [Nat.pow_add, Nat.pow_add]; ac_rfl
    rw [e]
    congr 2 <;> omega
  · unfold unitW
    have e : ∀ i j k l : Nat, 2 ^ i * 10 ^ j * (2 ^ k * 10 ^ l) = 2 ^ (i + k) * 10 ^ (j + l) := fun i j k l => by
      rw [Nat.pow_add, Nat.pow_add]; ac_rfl
    rw [e]
    congr 2 <;> omega

/-- c 2^n lies between a power of ten and the next one. -/
def logOk (c : Nat) (n x : Int) : Bool := decide (10 ^ x.toNat * 2 ^ (-n).toNat ≤ c * (2 ^ n.toNat * 10 ^ (-x).toNat)) && decide (c * (2 ^ n.toNat * 10 ^ (-x).toNat) < 10 * (10 ^ x.toNat * 2 ^ (-n).toNat))
def logLt (c : Nat) (n x : Int) : Bool := decide (10 ^ x.toNat * 2 ^ (-n).toNat < c * (2 ^ n.toNat * 10 ^ (-x).toNat))

theorem zkj1 {c : Nat} {n x : Int} (hn : -3000 ≤ n) (hx : -3000 ≤ x) (h : logOk c n x = true) : unitW 0 x ≤ c * unitW n 0 ∧ c * unitW n 0 < 10 * unitW 0 x := by
  obtain ⟨Z, z0, e1, e2⟩ := zty x n hx hn
  unfold logOk at h
  rw [Bool.and_eq_true] at h
  have h1 := Nat.mul_le_mul_right Z (of_decide_eq_true h.1)
  have h2 := Nat.mul_lt_mul_of_pos_right (of_decide_eq_true h.2) z0
  rw [Nat.mul_assoc c, e1, e2] at h1
  rw [Nat.mul_assoc c, Nat.mul_assoc 10, e1, e2] at h2
  exact ⟨h1, h2⟩

theorem zvh1 {c : Nat} {n x : Int} (hn : -3000 ≤ n) (hx : -3000 ≤ x) (h : logLt c n x = true) : unitW 0 x < c * unitW n 0 := by
  obtain ⟨Z, z0, e1, e2⟩ := zty x n hx hn
  unfold logLt at h
  have h2 := Nat.mul_lt_mul_of_pos_right (of_decide_eq_true h) z0
  rw [Nat.mul_assoc c, e1, e2] at h2
  exact h2

theorem zvi1 : ∀ i : Nat, i < 2060 → logOk 1 ((i : Int) - 1074) (zhm ((i : Int) - 1074)) = true := by decide +kernel
theorem zsk1 : ∀ i : Nat, i < 2060 → (logOk 3 ((i : Int) - 1076) (skewP ((i : Int) - 1074)) && logLt 3 ((i : Int) - 1076) (skewP ((i : Int) - 1074))) = true := by decide +kernel
section
variable {r : Nat}

theorem zpc {r : Nat} (h1 : 0 < r) (h2 : r < 9218868437227405312) : zP (eS r) = 64 - bitsN (zaa r) ∧ mS r = zaa r * 2 ^ zP (eS r) ∧ eS r = zab r - (zP (eS r) : Nat) ∧ 11 ≤ zP (eS r) ∧ zP (eS r) ≤ 63 ∧ (-1085 ≤ eS r → zP (eS r) = 11) ∧ 0 < zaa r := by
  obtain ⟨b1, b2, b3, b4, b5, hm⟩ := zih h1 h2
  obtain ⟨m0, m1, e0, e1, hz⟩ := mS_in h1 h2
  refine ⟨hz, by rw [hz]; rfl, by rw [hz]; rfl, by omega, by omega, fun h => ?_, by omega⟩
  unfold zP
  rw [if_pos h]

theorem zdg1 (h1 : 0 < r) (h2 : r < 9218868437227405312) : (mS r = 9223372036854775808 ∧ -1085 < eS r) ↔ (zaa r = 4503599627370496 ∧ 1 < r / 4503599627370496) := by
  obtain ⟨hz, hm, he, z0, z1, z2, hM⟩ := zpc h1 h2
  obtain ⟨b1, b2, b3, b4, b5, -⟩ := zih h1 h2
  constructor
  · rintro ⟨a1, a2⟩
    have z11 := z2 (by omega)
    rw [z11] at hm he
    have m2 : zaa r = 4503599627370496 := by
      rw [show (2 : Nat) ^ 11 = 2048 by decide] at hm
      omega
    refine ⟨m2, ?_⟩
    have hr : ¬ r < 4503599627370496 := fun h => by
      have : zaa r = r := by unfold zaa; rw [if_pos h]
      omega
    have : zab r = ((r / 4503599627370496 : Nat) : Int) - 1075 := by unfold zab; rw [if_neg hr]
    omega
  · rintro ⟨a1, a2⟩
    have hr : ¬ r < 4503599627370496 := fun h => by omega
    have hE : zab r = ((r / 4503599627370496 : Nat) : Int) - 1075 := by unfold zab; rw [if_neg hr]
    have hb : bitsN (zaa r) = 53 := by rw [a1]; decide
    have z11 : zP (eS r) = 11 := by omega
    rw [z11] at hm he
    refine ⟨by rw [hm, a1], by omega⟩

theorem zwu1 (h1 : 0 < r) (h2 : r < 9218868437227405312) : 2 ^ (zP (eS r) - 2) * unitW (eS r) 0 = kF r := by
  obtain ⟨hz, hm, he, z0, z1, z2, hM⟩ := zpc h1 h2
  obtain ⟨m0, m1, e0, e1, -⟩ := mS_in h1 h2
  rw [zcp (by omega)]
  unfold kF
  congr 1
  omega

theorem two_z {z : Nat} (hz : 11 ≤ z) : 2 ^ z = 4 * 2 ^ (z - 2) ∧ 2 ^ (z - 1) = 2 * 2 ^ (z - 2) := by
  obtain ⟨k, rfl⟩ : ∃ k, z = k + 2 := ⟨z - 2, by omega⟩
  rw [show k + 2 - 1 = k + 1 by omega, show k + 2 - 2 = k by omega, Nat.pow_succ, Nat.pow_succ]
  omega

theorem zkk1 (h1 : 0 < r) (h2 : r < 9218868437227405312) : minP (mS r) (eS r) = lowF r * 2 ^ (zP (eS r) - 2) ∧ maxP (mS r) (eS r) = (4 * zaa r + 2) * 2 ^ (zP (eS r) - 2) ∧ mS r = 4 * zaa r * 2 ^ (zP (eS r) - 2) ∧ oddP (mS r) (eS r) = oddF r := by
  obtain ⟨hz, hm, he, z0, z1, z2, hM⟩ := zpc h1 h2
  have sk := zdg1 h1 h2
  obtain ⟨t1, t2⟩ := two_z z0
  have hm4 : mS r = 4 * zaa r * 2 ^ (zP (eS r) - 2) := by rw [hm, t1, Nat.mul_left_comm, Nat.mul_assoc]
  refine ⟨?_, ?_, hm4, ?_⟩
  · unfold minP lowF
    by_cases h : mS r = 9223372036854775808 ∧ -1085 < eS r
    · rw [if_pos h, if_pos (sk.1 h), z2 (by omega)]
      have := (sk.1 h).1
      rw [h.1, this]
    · rw [if_neg h, if_neg (fun hh => h (sk.2 hh)), hm4, t2, ← Nat.sub_mul]
  · unfold maxP
    rw [hm4, t2, ← Nat.add_mul]
  · unfold oddP oddF
    rw [hm, Nat.mul_div_cancel _ (Nat.two_pow_pos _)]

theorem zmg1 (h1 : 0 < r) (h2 : r < 9218868437227405312) {x : Nat} (hx : x = minP (mS r) (eS r) ∨ x = mS r ∨ x = maxP (mS r) (eS r)) :
    2305843009213693952 ≤ x ∧ x < 18446744073709551616 ∧ x % 2 ^ (if -1085 ≤ eS r then 9 else zP (eS r) - 1) = 0 := by
  obtain ⟨hz, hm, he, z0, z1, z2, hM⟩ := zpc h1 h2
  obtain ⟨m0, m1, e0, e1, -⟩ := mS_in h1 h2
  obtain ⟨n1, n2, n3, -⟩ := zkk1 h1 h2
  obtain ⟨t1, t2⟩ := two_z z0
  have p62 : 2 ^ (zP (eS r) - 1) ≤ 4611686018427387904 := by
    have : 2 ^ (zP (eS r) - 1) ≤ 2 ^ 62 := Nat.pow_le_pow_right (by decide) (by omega)
    exact this
  have pz := Nat.two_pow_pos (zP (eS r) - 2)
  refine ⟨?_, ?_, ?_⟩
  · rcases hx with rfl | rfl | rfl
    · unfold minP; split <;> omega
    · omega
    · unfold maxP; omega
  · rcases hx with rfl | rfl | rfl
    · unfold minP; split <;> omega
    · omega
    · unfold maxP; omega
  · by_cases h : -1085 ≤ eS r
    · rw [if_pos h]
      rw [z2 h, show (2 : Nat) ^ (11 - 2) = 512 by decide] at n1 n2 n3
      rcases hx with rfl | rfl | rfl
      · rw [n1]; exact Nat.mul_mod_left _ _
      · rw [n3]; exact Nat.mul_mod_left _ _
      · rw [n2]; exact Nat.mul_mod_left _ _
    · rw [if_neg h]
      have e3 : ∀ c : Nat, 2 * c * 2 ^ (zP (eS r) - 2) % 2 ^ (zP (eS r) - 1) = 0 := fun c => by
        rw [t2, Nat.mul_comm 2 c, Nat.mul_assoc]
        exact Nat.mul_mod_left _ _
      have hl : lowF r = 2 * (2 * zaa r - 1) := by
        unfold lowF
        rw [if_neg (fun hh => h (by have := ((zdg1 h1 h2).2 hh).2; omega))]
        omega
      rcases hx with rfl | rfl | rfl
      · rw [n1, hl]; exact e3 _
      · rw [n3, show 4 * zaa r = 2 * (2 * zaa r) by omega]; exact e3 _
      · rw [n2, show 4 * zaa r + 2 = 2 * (2 * zaa r + 1) by omega]; exact e3 _

/-- The scalings, in the float's unit. -/
theorem scl_F (h1 : 0 < r) (h2 : r < 9218868437227405312) {x c : Nat} (hx : x = minP (mS r) (eS r) ∨ x = mS r ∨ x = maxP (mS r) (eS r)) (hc : x = c * 2 ^ (zP (eS r) - 2)) :
    sclP (mS r) (eS r) x = zav (4 * (c * kF r)) (unitW 0 (-pF r)) ∧ sclP (mS r) (eS r) x < 18446744073709551000 ∧ 0 < sclP (mS r) (eS r) x := by
  obtain ⟨m0, m1, e0, e1, -⟩ := mS_in h1 h2
  obtain ⟨l1, l2, l3⟩ := zmg1 h1 h2 hx
  have hs := s_in (m := mS r) e0 e1
  obtain ⟨p0, p1, s0, s1⟩ := p_in (m := mS r) e0 e1
  obtain ⟨t1, t2, t3⟩ := zbl1 p0 p1
  have e := zpi1 (m := mS r) e0 e1 l1 l2 l3
  rw [hc, Nat.mul_assoc, zwu1 h1 h2, ← hc] at e
  refine ⟨e, ?_, ?_⟩
  · unfold sclP zqs
    dsimp only
    have hul : x * hiP (pP (mS r) (eS r)) / 18446744073709551616 < 18446744073709551616 := Nat.div_lt_of_lt_mul (Nat.lt_of_lt_of_le (Nat.mul_lt_mul_of_lt_of_lt l2 t2) (Nat.le_refl _))
    generalize x * hiP (pP (mS r) (eS r)) / 18446744073709551616 = u at *
    have hp : 2 ^ 4 ≤ 2 ^ (-(eS r + log2P (pP (mS r) (eS r)) + 3)).toNat := Nat.pow_le_pow_right (by decide) hs
    generalize 2 ^ (-(eS r + log2P (pP (mS r) (eS r)) + 3)).toNat = D at *
    have hdiv : ∀ {w : Nat}, w < 18446744073709551616 → w / D < 2 ^ 60 := fun {w} hw => by
      have : w / D ≤ w / 2 ^ 4 := Nat.div_le_div_left hp (by decide)
      omega
    have o1 : ∀ {w k : Nat}, w < 18446744073709551616 → k < 2 → w / D ||| k < 18446744073709551000 := fun {w k} hw hk => by
      have : w / D ||| k < 2 ^ 60 := Nat.or_lt_two_pow (hdiv hw) (by omega)
      omega
    split
    · exact o1 hul (by omega)
    · exact o1 (by split <;> omega) (by split <;> omega)
  · refine Nat.pos_of_ne_zero fun hz => ?_
    rw [hz] at e
    have := (zws (F := 4 * (c * kF r)) (c := 0) (zbx 0 (-pP (mS r) (eS r))) rfl).1.1 (by rw [← e]; exact Nat.le_refl _)
    rw [Nat.zero_mul] at this
    have hc0 : 0 < c := by
      rcases Nat.eq_zero_or_pos c with h | h
      · rw [h, Nat.zero_mul] at hc; omega
      · exact h
    have hk : 0 < kF r := zbx _ _
    have := Nat.mul_pos hc0 hk
    omega
end
end Lf

/-
  Floats as texts: the number that is reckoned of a float is its shortest one.
-/
namespace Lf

section
variable {r : Nat}

theorem zff1 (r : Nat) : 0 < kF r := zbx _ _

theorem zvj1 (h1 : 0 < r) (h2 : r < 9218868437227405312) : lowF r < 4 * zaa r := by
  obtain ⟨hz, hm, he, z0, z1, z2, hM⟩ := zpc h1 h2
  unfold lowF; split <;> omega

theorem v_in (h1 : 0 < r) (h2 : r < 9218868437227405312) : loF r < vF r ∧ vF r < hiF r := by
  have hk := zff1 r
  exact ⟨Nat.mul_lt_mul_of_pos_right (zvj1 h1 h2) hk, Nat.mul_lt_mul_of_pos_right (by omega) hk⟩

/-- How wide the bounds are. -/
theorem zfg1 (h1 : 0 < r) (h2 : r < 9218868437227405312) : unitW 0 (-pF r) ≤ hiF r - loF r ∧ hiF r - loF r < 10 * unitW 0 (-pF r) ∧
    ((2 * (vF r - loF r) = hiF r - loF r ∧ vF r = zaa r * (hiF r - loF r)) ∨ (3 * (vF r - loF r) = hiF r - loF r ∧ unitW 0 (-pF r) < hiF r - loF r ∧ zaa r = 4503599627370496)) := by
  obtain ⟨hz, hm, he, z0, z1, z2, hM⟩ := zpc h1 h2
  obtain ⟨b1, b2, b3, b4, b5, -⟩ := zih h1 h2
  have sk := zdg1 h1 h2
  have hk := zff1 r
  by_cases h : mS r = 9223372036854775808 ∧ -1085 < eS r
  · have h' := sk.1 h
    have hp : -pF r = skewP (zab r) := by
      unfold pF pP
      rw [if_pos h, show eS r + 11 = zab r by have := z2 (by omega); omega]
      omega
    have hl : lowF r = 4 * zaa r - 1 := by unfold lowF; rw [if_pos h']
    have hw : hiF r - loF r = 3 * kF r := by
      unfold hiF loF
      rw [← Nat.sub_mul, hl]
      congr 1; omega
    have hv : vF r - loF r = kF r := by
      unfold vF loF
      rw [← Nat.sub_mul, hl, show 4 * zaa r - (4 * zaa r - 1) = 1 by omega, Nat.one_mul]
    have c := zsk1 (zab r + 1074).toNat (by omega)
    rw [show (((zab r + 1074).toNat : Nat) : Int) - 1076 = zab r - 2 by omega, show (((zab r + 1074).toNat : Nat) : Int) - 1074 = zab r by omega, Bool.and_eq_true] at c
    have hx : -3000 ≤ skewP (zab r) := by unfold skewP; omega
    obtain ⟨c1, c2⟩ := zkj1 (by omega) hx c.1
    have c3 := zvh1 (by omega) hx c.2
    rw [hp, hw, hv]
    exact ⟨c1, c2, .inr ⟨rfl, c3, h'.1⟩⟩
  · have h' : ¬ _ := fun hh => h (sk.2 hh)
    have hp : -pF r = zhm (zab r) := by
      unfold pF pP
      rw [if_neg h, show eS r + (zP (eS r) : Nat) = zab r by omega]
      omega
    have hl : lowF r = 4 * zaa r - 2 := by unfold lowF; rw [if_neg h']
    have hw : hiF r - loF r = 4 * kF r := by
      unfold hiF loF
      rw [← Nat.sub_mul, hl]
      congr 1; omega
    have hv : vF r - loF r = 2 * kF r := by
      unfold vF loF
      rw [← Nat.sub_mul, hl]
      congr 1; omega
    have hw1 : 4 * kF r = 1 * unitW (zab r) 0 := by
      have := zcp (a := zab r - 2) (b := 0) (n := 2) (by omega)
      rw [show zab r - 2 + ((2 : Nat) : Int) = zab r by omega] at this
      rw [Nat.one_mul, ← this]
      rfl
    have c := zvi1 (zab r + 1074).toNat (by omega)
    rw [show (((zab r + 1074).toNat : Nat) : Int) - 1074 = zab r by omega] at c
    have hx : -3000 ≤ zhm (zab r) := by unfold zhm; omega
    obtain ⟨c1, c2⟩ := zkj1 (by omega) hx c
    rw [hp, hw, hv]
    rw [← hw1] at c1 c2
    refine ⟨c1, c2, .inl ⟨by omega, ?_⟩⟩
    unfold vF
    rw [← Nat.mul_assoc]
    congr 1; omega

theorem min_F (h1 : 0 < r) (h2 : r < 9218868437227405312) (d : Nat) : dminP (mS r) (eS r) ≤ d ↔ if oddF r = true then loF r < d * unitW 0 (-pF r) else loF r ≤ d * unitW 0 (-pF r) := by
  obtain ⟨n1, n2, n3, n4⟩ := zkk1 h1 h2
  obtain ⟨s1, s2, s3⟩ := scl_F h1 h2 (.inl rfl) n1
  unfold dminP
  rw [n4]
  cases h : oddF r
  · exact zpk1 (zbx _ _) s1 s2
  · exact zsf1 (zbx _ _) s1 s2

theorem max_F (h1 : 0 < r) (h2 : r < 9218868437227405312) (d : Nat) : d ≤ dmaxP (mS r) (eS r) ↔ if oddF r = true then d * unitW 0 (-pF r) < hiF r else d * unitW 0 (-pF r) ≤ hiF r := by
  obtain ⟨n1, n2, n3, n4⟩ := zkk1 h1 h2
  obtain ⟨s1, s2, s3⟩ := scl_F h1 h2 (.inr (.inr rfl)) n2
  unfold dmaxP
  rw [n4]
  cases h : oddF r
  · exact zlz1 (zbx _ _) s1 s2
  · exact zpl1 (zbx _ _) s1 s2 s3

theorem zwv1 (h1 : 0 < r) (h2 : r < 9218868437227405312) : zvv (sclP (mS r) (eS r) (mS r)) = if 2 * (vF r % unitW 0 (-pF r)) < unitW 0 (-pF r) ∨ (2 * (vF r % unitW 0 (-pF r)) = unitW 0 (-pF r) ∧ vF r / unitW 0 (-pF r) % 2 = 0) then vF r / unitW 0 (-pF r) else vF r / unitW 0 (-pF r) + 1 := by
  obtain ⟨n1, n2, n3, n4⟩ := zkk1 h1 h2
  obtain ⟨s1, s2, s3⟩ := scl_F h1 h2 (.inr (.inl rfl)) n3
  exact zbo1 (zbx _ _) s1 s2

theorem zhu1 (h1 : 0 < r) (h2 : r < 9218868437227405312) : -348 ≤ pF r ∧ pF r ≤ 347 := by
  obtain ⟨m0, m1, e0, e1, -⟩ := mS_in h1 h2
  obtain ⟨p0, p1, -, -⟩ := p_in (m := mS r) e0 e1
  exact ⟨p0, p1⟩

theorem ten_F (h1 : 0 < r) (h2 : r < 9218868437227405312) : 10 * unitW 0 (-pF r) = unitW 0 (1 - pF r) := by
  obtain ⟨p0, p1⟩ := zhu1 h1 h2
  have := zhz (a := 0) (b := -pF r) (n := 1) (by omega)
  rw [Nat.pow_one] at this
  rw [this]
  congr 1
  omega

theorem zbr1 (h1 : 0 < r) (h2 : r < 9218868437227405312) : valS r = zbp1 (dminP (mS r) (eS r)) (dmaxP (mS r) (eS r)) (zvv (sclP (mS r) (eS r) (mS r))) (unitW 0 (-pF r)) := by
  unfold valS zbp1 zbj
  rw [ten_F h1 h2]
  by_cases c1 : dminP (mS r) (eS r) ≤ dmaxP (mS r) (eS r) / 10 * 10
  · rw [if_pos c1, if_pos c1]
    show _ * unitW 0 (-(pF r - 1)) = _
    congr 2
    omega
  · rw [if_neg c1, if_neg c1]
    by_cases c2 : dminP (mS r) (eS r) < dmaxP (mS r) (eS r)
    · rw [if_pos c2, if_pos c2]; rfl
    · rw [if_neg c2, if_neg c2]; rfl

/-- If a multiple of ten lies within, it's that. -/
theorem zpn1 (h1 : 0 < r) (h2 : r < 9218868437227405312) {c : Nat} (hc : inF r (c * unitW 0 (1 - pF r)) = true) : valS r = c * unitW 0 (1 - pF r) := by
  obtain ⟨w1, w2, w3⟩ := zfg1 h1 h2
  obtain ⟨v1, v2⟩ := v_in h1 h2
  rw [zbr1 h1 h2]
  rw [← ten_F h1 h2] at hc ⊢
  exact zma1 w2 v1 v2 (min_F h1 h2) (max_F h1 h2) hc

/-- Else the nearest one within. -/
theorem zpo1 (h1 : 0 < r) (h2 : r < 9218868437227405312) (hno : ∀ c, inF r (c * unitW 0 (1 - pF r)) = false) : valS r = pickF r (-pF r) * unitW 0 (-pF r) ∧ inF r (pickF r (-pF r) * unitW 0 (-pF r)) = true := by
  obtain ⟨w1, w2, w3⟩ := zfg1 h1 h2
  obtain ⟨v1, v2⟩ := v_in h1 h2
  rw [zbr1 h1 h2]
  rw [← ten_F h1 h2] at hno
  have hT := zbx 0 (-pF r)
  refine zmb1 hT w1 v1 v2 ?_ (min_F h1 h2) (max_F h1 h2) (zwv1 h1 h2) hno
  rcases w3 with ⟨a, b⟩ | ⟨a, b, c⟩
  · refine .inl ⟨a, fun e => ?_⟩
    rw [e, b]
    exact Nat.mul_mod_left _ _
  · exact .inr ⟨a, b⟩

theorem zzn (h1 : 0 < r) (h2 : r < 9218868437227405312) : inF r (valS r) = true := by
  by_cases h : ∃ c, inF r (c * unitW 0 (1 - pF r)) = true
  · obtain ⟨c, hc⟩ := h
    rw [zpn1 h1 h2 hc]
    exact hc
  · obtain ⟨e, hh⟩ := zpo1 h1 h2 fun c => by
      cases hc : inF r (c * unitW 0 (1 - pF r))
      · rfl
      · exact absurd ⟨c, hc⟩ h
    rw [e]
    exact hh
end
end Lf

/-
  Floats as texts: the shortest number, as the document looks for it.
-/
namespace Lf

section
variable {r : Nat}

theorem zzo {a b : Int} (ha : -5000 ≤ a) (h : a ≤ b) : unitW 0 a ≤ unitW 0 b := by
  have e := zhz (a := 0) (b := a) (n := (b - a).toNat) ha
  rw [show a + (((b - a).toNat : Nat) : Int) = b by omega] at e
  rw [← e]
  exact Nat.le_mul_of_pos_left _ (Nat.pow_pos (by decide))

theorem zvk1 {a b : Int} (hb : -5000 ≤ b) (h : unitW 0 a < unitW 0 b) : a < b := by
  rcases Int.lt_or_le a b with hh | hh
  · exact hh
  · have := zzo hb hh
    omega

/-- How many digits there are at most. -/
theorem zww1 (h1 : 0 < r) (h2 : r < 9218868437227405312) : unitW 0 (-pF r) ≤ vF r ∧ vF r < unitW 0 (17 - pF r) ∧ (vF r < 10 * unitW 0 (-pF r) → r ≤ 9) := by
  obtain ⟨w1, w2, w3⟩ := zfg1 h1 h2
  obtain ⟨v1, v2⟩ := v_in h1 h2
  obtain ⟨p0, p1⟩ := zhu1 h1 h2
  obtain ⟨hz, hm, he, z0, z1, z2, hM⟩ := zpc h1 h2
  have hM2 : zaa r < 9007199254740992 := by unfold zaa; split <;> omega
  have e := zhz (a := 0) (b := -pF r) (n := 17) (by omega)
  rw [show -pF r + ((17 : Nat) : Int) = 17 - pF r by omega] at e
  have hT := zbx 0 (-pF r)
  rw [← e, show (10 : Nat) ^ 17 = 100000000000000000 by decide]
  generalize unitW 0 (-pF r) = T at *
  have small : zaa r ≤ 9 → r ≤ 9 := fun h => by
    unfold zaa at h
    split at h <;> omega
  rcases w3 with ⟨a, b⟩ | ⟨a, b, c⟩
  · generalize hiF r - loF r = w at *
    have t1 := Nat.mul_le_mul_right w hM
    have t2 := Nat.mul_le_mul_right w (show zaa r ≤ 9007199254740991 by omega)
    refine ⟨by omega, by omega, fun h => small ?_⟩
    refine Classical.byContradiction fun hn => ?_
    have t3 := Nat.mul_le_mul_right w (show 10 ≤ zaa r by omega)
    omega
  · have hv : vF r = 18014398509481984 * kF r := by unfold vF; rw [c]
    have hk := zff1 r
    have hl : hiF r = (18014398509481984 + 2) * kF r := by unfold hiF; rw [c]
    have hl2 : lowF r = 18014398509481983 ∨ lowF r = 18014398509481982 := by unfold lowF; rw [c]; split <;> omega
    have hl3 : loF r = 18014398509481983 * kF r ∨ loF r = 18014398509481982 * kF r := by
      unfold loF
      rcases hl2 with h | h
      · rw [h]; exact .inl rfl
      · rw [h]; exact .inr rfl
    generalize hiF r = H at *
    generalize vF r = v at *
    generalize loF r = l at *
    generalize kF r = k at *
    refine ⟨?_, ?_, fun h => ?_⟩
    · rcases hl3 with h | h <;> omega
    · rcases hl3 with h | h <;> omega
    · exfalso
      rcases hl3 with h | h <;> omega

/-- One number, without zeros last, is told in one way. -/
theorem zpp1 {c d : Nat} {s t : Int} (hs : -3000 ≤ s) (ht : -3000 ≤ t) (hc : c % 10 ≠ 0) (hd : d % 10 ≠ 0) (h : c * unitW 0 s = d * unitW 0 t) : c = d ∧ s = t := by
  have main : ∀ {c d : Nat} {s t : Int}, -3000 ≤ s → c % 10 ≠ 0 → s ≤ t → c * unitW 0 s = d * unitW 0 t → s = t := fun {c d s t} hs hc hst h => by
    refine Classical.byContradiction fun hn => ?_
    have e := zhz (a := 0) (b := s) (n := (t - s).toNat) (by omega)
    rw [show s + (((t - s).toNat : Nat) : Int) = t by omega] at e
    rw [← e, ← Nat.mul_assoc] at h
    have := Nat.eq_of_mul_eq_mul_right (zbx 0 s) h
    obtain ⟨k, hk⟩ : ∃ k, (t - s).toNat = k + 1 := ⟨(t - s).toNat - 1, by omega⟩
    rw [hk, Nat.pow_succ, ← Nat.mul_assoc] at this
    omega
  have hst : s = t := by
    rcases Int.le_total s t with hh | hh
    · exact main hs hc hh h
    · exact (main ht hd hh h.symm).symm
  subst hst
  exact ⟨Nat.eq_of_mul_eq_mul_right (zbx 0 s) h, rfl⟩
end
end Lf

/-
  Floats as texts: numbers of at most 17 digits, scaled to be read.
-/
namespace Lf

theorem zsl1 : ∀ i : Nat, i < 696 → certP ((i : Int) - 348) 8 7 = true := by decide +kernel

theorem zvl1 {D r : Nat} (h1 : D < r + 18446744073709551616) (h2 : 73786976294838206464 ≤ D) : D - 18446744073709551616 < r := by omega

theorem WholeOk.up {F N x B D c : Nat} (h : WholeOk F N B D) (hx : x < 18446744073709551616) (f1 : (N - x) * B < F) (f2 : F ≤ N * B) (hB : 0 < B) (hD : 73786976294838206464 ≤ D) (hc : 0 < c) : WholeOk F N B (c * D) := by
  intro hh
  have hcD : D ≤ c * D := Nat.le_mul_of_pos_left D hc
  have hdm := Nat.div_add_mod N (c * D)
  have hlt := Nat.mod_lt N (show 0 < c * D by omega)
  have em : N % D = N % (c * D) % D := (Nat.mod_mod_of_dvd N (Nat.dvd_mul_left D c)).symm
  generalize N % (c * D) = ρ at *
  have eq : c * D * (N / (c * D)) = (c * (N / (c * D))) * D := by rw [Nat.mul_assoc, Nat.mul_assoc, Nat.mul_comm D]
  rw [eq] at hdm
  generalize N / (c * D) = q at *
  have eF : ∀ j, F = B * D * j → (N - x < j * D ∧ j * D ≤ N) := fun j hj => by
    have ej : B * D * j = j * D * B := by rw [Nat.mul_comm, Nat.mul_comm B, Nat.mul_assoc]
    rw [hj, ej] at f1 f2
    exact ⟨Nat.lt_of_mul_lt_mul_right f1, Nat.le_of_mul_le_mul_right f2 hB⟩
  rcases hh with hh | hh
  · have e1 : N % D = ρ := by rw [em, Nat.mod_eq_of_lt (by omega)]
    obtain ⟨j, hj⟩ := h (.inl (by omega))
    obtain ⟨j1, j2⟩ := eF j hj
    have : j = c * q := by
      have t1 : j * D < (c * q + 1) * D := by rw [Nat.add_mul, Nat.one_mul]; omega
      have t2 : c * q * D < (j + 1) * D := by rw [Nat.add_mul, Nat.one_mul]; omega
      have t1 := Nat.lt_of_mul_lt_mul_right t1
      have t2 := Nat.lt_of_mul_lt_mul_right t2
      omega
    exact ⟨q, by rw [hj, this]; ac_rfl⟩
  · have e1 : N % D = ρ - (c - 1) * D := by
      have e2 : c * D = (c - 1) * D + D := by
        obtain ⟨k, rfl⟩ : ∃ k, c = k + 1 := ⟨c - 1, by omega⟩
        rw [Nat.add_sub_cancel, Nat.add_mul, Nat.one_mul]
      have : ρ = ρ - (c - 1) * D + (c - 1) * D := by omega
      rw [em, this, Nat.add_mul_mod_self_right, Nat.mod_eq_of_lt (by omega), Nat.add_sub_cancel]
    have e2 : c * D = (c - 1) * D + D := by
      obtain ⟨k, rfl⟩ : ∃ k, c = k + 1 := ⟨c - 1, by omega⟩
      rw [Nat.add_sub_cancel, Nat.add_mul, Nat.one_mul]
    have hx2 : D - 18446744073709551616 < N % D := by
      rw [e1]
      generalize (c - 1) * D = z at *
      generalize c * D = y at *
      clear em eF eq h f1 f2 e1 hdm
      exact zvl1 (by omega) hD
    obtain ⟨j, hj⟩ := h (.inr hx2)
    obtain ⟨j1, j2⟩ := eF j hj
    exfalso
    have e3 : c * q * D + c * D = (c * q + c) * D := by rw [Nat.add_mul]
    have t1 : j * D < (c * q + c) * D := by rw [← e3]; omega
    have t2 : (c * q + c - 1) * D < j * D := by
      have : (c * q + c) * D = (c * q + c - 1) * D + D := by
        obtain ⟨k, hk⟩ : ∃ k, c * q + c = k + 1 := ⟨c * q + c - 1, by omega⟩
        rw [hk, Nat.add_sub_cancel, Nat.add_mul, Nat.one_mul]
      omega
    have t1 := Nat.lt_of_mul_lt_mul_right t1
    have t2 := Nat.lt_of_mul_lt_mul_right t2
    omega

/-- The exponent to which a number d 10^p is scaled. -/
def readE (b : Nat) (p : Int) : Int := min 1074 (53 - (b : Int) - log2P p)
def readS (b : Nat) (p : Int) : Int := -(readE b p - (64 - (b : Int)) + log2P p + 3)

theorem zmh1 {d b : Nat} {p : Int} (h0 : -348 ≤ p) (h1 : p ≤ 347) (hb : b ≤ 57) (d0 : 2 ^ (b - 1) ≤ d) (d1 : d < 2 ^ b) (b0 : 1 ≤ b) (hs : readS b p < 64) :
    8 ≤ readS b p ∧ zqs (d * 2 ^ (64 - b)) (hiP p) (loP p) (readS b p).toNat = zav (4 * (d * unitW 0 p)) (unitW (-readE b p) 0) := by
  have hl : -1200 ≤ log2P p ∧ log2P p ≤ 1200 := by unfold log2P; omega
  have hs8 : 8 ≤ readS b p := by unfold readS readE; omega
  refine ⟨hs8, ?_⟩
  obtain ⟨r1, r2⟩ := zph1 h0 h1
  obtain ⟨t1, t2, t3⟩ := zbl1 h0 h1
  have hB : 0 < denP p := by
    rcases Nat.eq_zero_or_pos (denP p) with h | h
    · rw [h] at r1 r2; omega
    · exact h
  have x0 : 9223372036854775808 ≤ d * 2 ^ (64 - b) := by
    have := Nat.mul_le_mul_right (2 ^ (64 - b)) d0
    rw [← Nat.pow_add, show b - 1 + (64 - b) = 63 by omega] at this
    exact this
  have x1 : d * 2 ^ (64 - b) < 18446744073709551616 := by
    have := Nat.mul_lt_mul_of_pos_right d1 (Nat.two_pow_pos (64 - b))
    rw [← Nat.pow_add, show b + (64 - b) = 64 by omega] at this
    exact this
  have hw8 : WholeOk (d * 2 ^ (64 - b) * numP p) (d * 2 ^ (64 - b) * pmP p) (denP p) (2 ^ 128 * 2 ^ 8) := by
    have c := zsl1 (p + 348).toNat (by omega)
    rw [show (((p + 348).toNat : Nat) : Int) - 348 = p by omega] at c
    have e : d * 2 ^ (64 - b) = 2 ^ 7 * (d * 2 ^ (57 - b)) := by
      rw [Nat.mul_left_comm, ← Nat.pow_add, show 7 + (57 - b) = 64 - b by omega]
    have := zbm1 (y := d * 2 ^ (57 - b)) h0 h1 (by decide) c (by omega) (by
      show d * 2 ^ (57 - b) < 2 ^ 57
      omega)
    rw [← e] at this
    exact this
  have f1 : (d * 2 ^ (64 - b) * pmP p - d * 2 ^ (64 - b)) * denP p < d * 2 ^ (64 - b) * numP p := by
    have e : d * 2 ^ (64 - b) * pmP p - d * 2 ^ (64 - b) = d * 2 ^ (64 - b) * (pmP p - 1) := by rw [Nat.mul_sub _ (pmP p), Nat.mul_one]
    rw [e, Nat.mul_assoc]
    exact Nat.mul_lt_mul_of_pos_left r1 (by omega)
  have f2 : d * 2 ^ (64 - b) * numP p ≤ d * 2 ^ (64 - b) * pmP p * denP p := by
    rw [Nat.mul_assoc (d * 2 ^ (64 - b))]
    exact Nat.mul_le_mul_left _ r2
  have hw := hw8.up (c := 2 ^ ((readS b p).toNat - 8)) x1 f1 f2 hB (by decide) (Nat.two_pow_pos _)
  have eD : 2 ^ ((readS b p).toNat - 8) * (2 ^ 128 * 2 ^ 8) = 2 ^ 128 * 2 ^ (readS b p).toNat := by
    rw [Nat.mul_left_comm, ← Nat.pow_add, show (readS b p).toNat - 8 + 8 = (readS b p).toNat by omega]
  rw [eD] at hw
  have big := zxw (x := d * 2 ^ (64 - b)) (by omega) t1
  unfold pmP at r1 r2 hw
  rw [zxe (by omega) x1 t3 r1 r2 hw big]
  refine zfa1 (Nat.mul_pos hB (Nat.mul_pos (Nat.two_pow_pos _) (Nat.two_pow_pos _))) (zbx _ _) ?_
  -- one unit for both
  have he : readE b p = -(readS b p) - log2P p - 3 + (64 - (b : Int)) := by unfold readS; omega
  have e1 := zkf1 (a := -readE b p) (b := 0) h0 h1 (by unfold readE; omega) (by decide)
  have e2 := zcp (a := 0) (b := p) (n := 130 + (readS b p).toNat - (64 - b)) (by decide)
  rw [show -readE b p + 127 - log2P p = 0 + ((130 + (readS b p).toNat - (64 - b) : Nat) : Int) by omega, Int.zero_add p, ← e2] at e1
  have e3 : 2 ^ (64 - b) * 2 ^ (130 + (readS b p).toNat - (64 - b)) = 4 * (2 ^ 128 * 2 ^ (readS b p).toNat) := by
    rw [← Nat.pow_add, show 64 - b + (130 + (readS b p).toNat - (64 - b)) = 2 + (128 + (readS b p).toNat) by omega, Nat.pow_add, Nat.pow_add]
  generalize 2 ^ 128 * 2 ^ (readS b p).toNat = z at *
  generalize 2 ^ (130 + (readS b p).toNat - (64 - b)) = y at *
  generalize 2 ^ (64 - b) = w at *
  generalize unitW 0 p = E at *
  rw [Nat.mul_assoc, e1]
  have : w * (denP p * (y * E)) = denP p * E * (w * y) := by ac_rfl
  rw [Nat.mul_assoc d, this, e3]
  ac_rfl
end Lf

/-
  Floats as texts: a number within a float's bounds, read, is that float.
-/
namespace Lf

/-- 2^lp is at most 10^p, and 10^p not too near the next power of two. -/
def zts1 (p : Int) : Bool := decide (2 ^ (log2P p).toNat * 10 ^ (-p).toNat ≤ 10 ^ p.toNat * 2 ^ (-log2P p).toNat) && decide (9007199254740992 * (10 ^ p.toNat * 2 ^ (-log2P p).toNat) ≤ 18014398509481983 * (2 ^ (log2P p).toNat * 10 ^ (-p).toNat))

theorem zsm1 : ∀ i : Nat, i < 696 → zts1 ((i : Int) - 348) = true := by decide +kernel

theorem zpq1 {p : Int} (h0 : -348 ≤ p) (h1 : p ≤ 347) : unitW (log2P p) 0 ≤ unitW 0 p ∧ 9007199254740992 * unitW 0 p ≤ 18014398509481983 * unitW (log2P p) 0 := by
  have hl : -1200 ≤ log2P p ∧ log2P p ≤ 1200 := by unfold log2P; omega
  have c := zsm1 (p + 348).toNat (by omega)
  rw [show (((p + 348).toNat : Nat) : Int) - 348 = p by omega] at c
  unfold zts1 at c
  rw [Bool.and_eq_true] at c
  obtain ⟨Z, z0, e1, e2⟩ := zty p (log2P p) (by omega) (by omega)
  have c1 := Nat.mul_le_mul_right Z (of_decide_eq_true c.1)
  have c2 := Nat.mul_le_mul_right Z (of_decide_eq_true c.2)
  rw [e1, e2] at c1
  rw [Nat.mul_assoc 9007199254740992, Nat.mul_assoc 18014398509481983, e1, e2] at c2
  exact ⟨c1, c2⟩

/-- What is read of an unrounded number u to the exponent e: a whole number, and its exponent. -/
def readM (u : Nat) : Nat := zvv (if 36028797018963966 ≤ u then u / 2 ||| u % 2 else u)
def readX (u : Nat) (e : Int) : Int := if 36028797018963966 ≤ u then e - 1 else e

theorem zsn1 {F G : Nat} (hG : 0 < G) : zav F G / 2 ||| zav F G % 2 = zav F (2 * G) := by
  have hdm := Nat.div_add_mod F G
  have hlt := Nat.mod_lt F hG
  have hq : F / (2 * G) = F / G / 2 := by rw [Nat.mul_comm, Nat.div_div_eq_div_mul]
  have hdv : 2 * G ∣ F ↔ G ∣ F ∧ F / G % 2 = 0 := by
    constructor
    · rintro ⟨c, rfl⟩
      have e : 2 * G * c = G * (2 * c) := by ac_rfl
      rw [e, Nat.mul_div_cancel_left _ hG]
      exact ⟨⟨_, rfl⟩, by omega⟩
    · rintro ⟨⟨c, rfl⟩, h⟩
      rw [Nat.mul_div_cancel_left _ hG] at h
      exact ⟨c / 2, by rw [Nat.mul_comm 2 G, Nat.mul_assoc, show 2 * (c / 2) = c by omega]⟩
  unfold zav
  rw [hq]
  by_cases h : G ∣ F
  · rw [if_pos h, Nat.or_zero]
    by_cases h2 : F / G % 2 = 0
    · rw [if_pos (hdv.2 ⟨h, h2⟩), h2]
    · rw [if_neg (fun hh => h2 (hdv.1 hh).2), show F / G % 2 = 1 by omega]
  · rw [if_neg h, if_neg (fun hh => h (hdv.1 hh).1), ztq1]
    rw [show (2 * (F / G / 2) + 1) / 2 = F / G / 2 by omega, show (2 * (F / G / 2) + 1) % 2 = 1 by omega]

section
variable {r : Nat}

theorem zwx1 {X K M : Nat} {odd : Bool} (hK : 0 < K) (hM : 0 < M) (ho : odd = (M % 2 == 1)) (h1 : if odd = true then (4 * M - 2) * K < X else (4 * M - 2) * K ≤ X) (h2 : if odd = true then X < (4 * M + 2) * K else X ≤ (4 * M + 2) * K) :
    (if 2 * (X % (4 * K)) < 4 * K ∨ (2 * (X % (4 * K)) = 4 * K ∧ X / (4 * K) % 2 = 0) then X / (4 * K) else X / (4 * K) + 1) = M := by
  have hT : 0 < 4 * K := by omega
  have hdm := Nat.div_add_mod X (4 * K)
  have hlt := Nat.mod_lt X hT
  have e1 : (4 * M - 2) * K + 2 * K = M * (4 * K) := by
    rw [← Nat.add_mul, show 4 * M - 2 + 2 = M * 4 by omega, Nat.mul_assoc]
  have e2 : (4 * M + 2) * K = M * (4 * K) + 2 * K := by rw [Nat.add_mul, Nat.mul_comm 4 M, Nat.mul_assoc]
  have hq : X / (4 * K) = M ∨ X / (4 * K) + 1 = M := by
    have l1 : M * (4 * K) < (X / (4 * K) + 2) * (4 * K) := by
      rw [Nat.add_mul, Nat.mul_comm (X / (4 * K))]
      cases odd
      · simp only [Bool.false_eq_true, if_false] at h1 h2; omega
      · simp only [if_true] at h1 h2; omega
    have l2 : X / (4 * K) * (4 * K) < (M + 1) * (4 * K) := by
      rw [Nat.add_mul, Nat.mul_comm (X / (4 * K))]
      cases odd
      · simp only [Bool.false_eq_true, if_false] at h1 h2; omega
      · simp only [if_true] at h1 h2; omega
    have l1 := Nat.lt_of_mul_lt_mul_right l1
    have l2 := Nat.lt_of_mul_lt_mul_right l2
    omega
  rw [Nat.mul_comm (4 * K)] at hdm
  generalize X / (4 * K) = q at *
  generalize X % (4 * K) = ρ at *
  have ev : odd = false ↔ M % 2 = 0 := by
    rw [ho]
    by_cases h : M % 2 = 1
    · rw [h]; simp
    · rw [show M % 2 = 0 by omega]; simp
  rcases hq with hq | hq
  · subst hq
    cases odd
    · have := ev.1 rfl
      simp only [Bool.false_eq_true, if_false] at h1 h2
      rw [if_pos (by omega)]
    · simp only [if_true] at h1 h2
      rw [if_pos (by omega)]
  · have eM : M * (4 * K) = q * (4 * K) + 4 * K := by rw [← hq, Nat.add_mul, Nat.one_mul]
    cases odd
    · have := ev.1 rfl
      simp only [Bool.false_eq_true, if_false] at h1 h2
      rw [if_neg (by omega), hq]
    · simp only [if_true] at h1 h2
      rw [if_neg (by omega), hq]

theorem zrl {a b : Int} (ha : -5000 ≤ a) (h : a ≤ b) : unitW a 0 ≤ unitW b 0 := by
  have e := zcp (a := a) (b := 0) (n := (b - a).toNat) ha
  rw [show a + (((b - a).toNat : Nat) : Int) = b by omega] at e
  rw [← e]
  exact Nat.le_mul_of_pos_left _ (Nat.two_pow_pos _)

theorem zkl1 {a b : Int} (hb : -5000 ≤ b) (h : unitW a 0 < unitW b 0) : a < b := by
  rcases Int.lt_or_le a b with hh | hh
  · exact hh
  · have := zrl hb hh
    omega

theorem zia {a b : Int} (n c : Nat) (hc : 2 ^ n = c) (ha : -5000 ≤ a) (h : a + (n : Int) = b) : c * unitW a 0 = unitW b 0 := by
  rw [← hc, zcp ha, h]

/-- A number d 10^p within a float's bounds: read, it is the float. -/
theorem zvm1 (h1 : 0 < r) (h2 : r < 9218868437227405312) {d b : Nat} {p : Int} (p0 : -348 ≤ p) (p1 : p ≤ 347) (hb : b ≤ 57) (b0 : 1 ≤ b) (d0 : 2 ^ (b - 1) ≤ d) (d1 : d < 2 ^ b) (hin : inF r (d * unitW 0 p) = true) :
    readS b p < 64 ∧ readM (zav (4 * (d * unitW 0 p)) (unitW (-readE b p) 0)) = zaa r ∧ -readX (zav (4 * (d * unitW 0 p)) (unitW (-readE b p) 0)) (readE b p) = zab r := by
  have hl : -1200 ≤ log2P p ∧ log2P p ≤ 1200 := by unfold log2P; omega
  obtain ⟨eA, eB⟩ := zpq1 p0 p1
  obtain ⟨hz, hm, he, z0, z1, z2, hM⟩ := zpc h1 h2
  obtain ⟨b1, b2, b3, b4, b5, -⟩ := zih h1 h2
  have hM2 : zaa r < 9007199254740992 := by unfold zaa; split <;> omega
  have hU := zbx 0 p
  have hK := zff1 r
  have hG := zbx (-readE b p) 0
  have hE : readE b p = min 1074 (53 - (b : Int) - log2P p) := rfl
  -- the number, from below and above
  have X0 : 2 ^ (b - 1) * unitW (log2P p) 0 ≤ d * unitW 0 p := Nat.mul_le_mul d0 eA
  rw [zcp (by omega)] at X0
  have X1 : d * unitW 0 p < 2 ^ b * unitW 0 p := Nat.mul_lt_mul_of_pos_right d1 hU
  have X2 : 9007199254740992 * (2 ^ b * unitW 0 p) ≤ 18014398509481983 * unitW (log2P p + b) 0 := by
    have := Nat.mul_le_mul_left (2 ^ b) eB
    rw [Nat.mul_left_comm, Nat.mul_left_comm (2 ^ b) 18014398509481983, zcp (a := log2P p) (by omega)] at this
    exact this
  have low : lowF r * kF r ≤ d * unitW 0 p ∧ (oddF r = true → lowF r * kF r < d * unitW 0 p) := by
    rw [inF, zkp] at hin
    unfold loF at hin
    cases ho : oddF r
    · rw [ho] at hin; simp only [Bool.false_eq_true, if_false] at hin; exact ⟨hin.1, fun e => by cases e⟩
    · rw [ho] at hin; simp only [if_true] at hin; exact ⟨Nat.le_of_lt hin.1, fun _ => hin.1⟩
  have high : d * unitW 0 p ≤ (4 * zaa r + 2) * kF r ∧ (oddF r = true → d * unitW 0 p < (4 * zaa r + 2) * kF r) := by
    rw [inF, zkp] at hin
    unfold hiF at hin
    cases ho : oddF r
    · rw [ho] at hin; simp only [Bool.false_eq_true, if_false] at hin; exact ⟨hin.2, fun e => by cases e⟩
    · rw [ho] at hin; simp only [if_true] at hin; exact ⟨Nat.le_of_lt hin.2, fun _ => hin.2⟩
  have kmin : unitW (-1076) 0 ≤ kF r := zrl (by decide) (by omega)
  have lowM : 4 * zaa r - 2 ≤ lowF r ∧ 2 ≤ lowF r := by unfold lowF; split <;> omega
  -- no zero bits too many
  have hs : -1075 < log2P p + b + 1 := by
    refine zkl1 (by omega) ?_
    have e1 := zia 1 2 rfl (a := -1076) (b := -1075) (by decide) (by decide)
    have e2 := zia 1 2 rfl (a := log2P p + b) (b := log2P p + b + 1) (by omega) (by omega)
    have t1 := Nat.mul_le_mul lowM.2 kmin
    omega
  have hG2 : unitW (log2P p + b) 0 ≤ 9007199254740992 * unitW (-readE b p) 0 := by
    rw [zia 53 9007199254740992 rfl (a := -readE b p) (b := -readE b p + 53) (by omega) (by omega)]
    exact zrl (by omega) (by omega)
  have hX : d * unitW 0 p < 18014398509481983 * unitW (-readE b p) 0 := by omega
  have big : -1073 ≤ zab r → 18014398509481983 ≤ lowF r := fun hk => by
    have hr : ¬ r < 4503599627370496 := fun h => by
      have : zab r = -1074 := by unfold zab; rw [if_pos h]
      omega
    have hE2 : zab r = ((r / 4503599627370496 : Nat) : Int) - 1075 := by unfold zab; rw [if_neg hr]
    have hMM : 4503599627370496 ≤ zaa r := by unfold zaa; rw [if_neg hr]; omega
    unfold lowF
    split
    · omega
    · rename_i hn
      have : zaa r ≠ 4503599627370496 := fun e => hn ⟨e, by omega⟩
      omega
  have hkd : kF r = unitW (zab r - 2) 0 := rfl
  have up : zab r + readE b p ≤ 1 := by
    refine Classical.byContradiction fun hn => ?_
    have t1 : unitW (-readE b p) 0 ≤ kF r := zrl (by omega) (by omega)
    have t2 := Nat.mul_le_mul (big (by omega)) t1
    omega
  have down : 0 ≤ zab r + readE b p := by
    refine Classical.byContradiction fun hn => ?_
    have t1 : unitW (zab r + 1) 0 ≤ unitW (-readE b p) 0 := zrl (by omega) (by omega)
    rw [← zia 3 8 rfl (a := zab r - 2) (b := zab r + 1) (by omega) (by omega), ← hkd] at t1
    have t2 : 4503599627370496 * unitW (-readE b p) 0 = unitW (log2P p + ((b - 1 : Nat) : Int)) 0 := zia 52 4503599627370496 rfl (by omega) (by omega)
    have t3 := Nat.mul_le_mul_right (kF r) (show 4 * zaa r + 2 ≤ 36028797018963966 by omega)
    omega
  refine ⟨by unfold readS; omega, ?_⟩
  -- what comes of it
  have fin : ∀ {U : Nat}, U = zav (4 * (d * unitW 0 p)) (4 * kF r) → zvv U = zaa r := fun {U} hU => by
    have hb : U < 18446744073709551000 := by
      have c := (zws (F := 4 * (d * unitW 0 p)) (G := 4 * kF r) (c := 36028797018963968) (by omega) (by decide)).2
      have t3 := Nat.mul_le_mul_right (kF r) (show 4 * zaa r + 2 ≤ 36028797018963966 by omega)
      have := c.2 (by omega)
      omega
    rw [zbo1 (T := 4 * kF r) (F := d * unitW 0 p) (by omega) hU hb]
    have t1 := Nat.mul_le_mul_right (kF r) lowM.1
    refine zwx1 (odd := oddF r) hK hM rfl ?_ ?_
    · cases ho : oddF r
      · simp only [Bool.false_eq_true, if_false]; omega
      · simp only [if_true]; have := low.2 ho; omega
    · cases ho : oddF r
      · simp only [Bool.false_eq_true, if_false]; omega
      · simp only [if_true]; exact high.2 ho
  rcases (show zab r + readE b p = 0 ∨ zab r + readE b p = 1 by omega) with hj | hj
  · have eG : unitW (-readE b p) 0 = 4 * kF r := by
      rw [hkd, zia 2 4 rfl (a := zab r - 2) (b := zab r) (by omega) (by omega)]
      congr 1; omega
    rw [eG]
    have c := (zws (F := 4 * (d * unitW 0 p)) (G := 4 * kF r) (c := 36028797018963966) (by omega) (by decide)).2
    have small : d * unitW 0 p < 36028797018963966 * kF r := by
      by_cases ho : oddF r = true
      · have t3 := Nat.mul_le_mul_right (kF r) (show 4 * zaa r + 2 ≤ 36028797018963966 by omega)
        have := high.2 ho
        omega
      · have hev : zaa r % 2 ≠ 1 := fun e => ho (by unfold oddF; rw [e]; rfl)
        have t3 := Nat.mul_lt_mul_of_pos_right (show 4 * zaa r + 2 < 36028797018963966 by omega) hK
        omega
    have lt := c.2 (by omega)
    refine ⟨?_, ?_⟩
    · unfold readM
      rw [if_neg (by omega)]
      exact fin rfl
    · unfold readX
      rw [if_neg (by omega)]
      omega
  · have eG : unitW (-readE b p) 0 = 2 * kF r := by
      rw [hkd, zia 1 2 rfl (a := zab r - 2) (b := zab r - 1) (by omega) (by omega)]
      congr 1; omega
    rw [eG]
    have c := (zws (F := 4 * (d * unitW 0 p)) (G := 2 * kF r) (c := 36028797018963966) (by omega) (by decide)).2
    have t2 := Nat.mul_le_mul_right (kF r) (big (by omega))
    have ge : 36028797018963966 ≤ zav (4 * (d * unitW 0 p)) (2 * kF r) := by
      refine Nat.le_of_not_lt fun hh => ?_
      have := c.1 hh
      omega
    refine ⟨?_, ?_⟩
    · unfold readM
      rw [if_pos ge, zsn1 (by omega)]
      refine fin ?_
      congr 1
      omega
    · unfold readX
      rw [if_pos ge]
      omega
end
end Lf

/-
  Floats, rounded: which numbers a rung stands for.
-/
namespace Lf
open Ieee

theorem pow_add' (a b : Nat) : 2 ^ (a + b) = 2 ^ a * 2 ^ b := Nat.pow_add 2 a b

/-- How far the next rung lies. -/
def gapD (r : Nat) : Nat := r / 4503599627370496 - 1

theorem zvy {r : Nat} (h : r < 4503599627370496) : valD r = r := by
  unfold valD zaa zab
  rw [if_pos h, if_pos h]
  show r * 1 = r
  omega

theorem zvn1 {r : Nat} (h : 4503599627370496 ≤ r) : valD r = (r % 4503599627370496 + 4503599627370496) * 2 ^ gapD r := by
  unfold valD zaa zab gapD
  rw [if_neg (by omega), if_neg (by omega), show (((r / 4503599627370496 : Nat) : Int) - 1075 + 1074).toNat = r / 4503599627370496 - 1 by omega]

theorem zvz (E q : Nat) (h : q < 4503599627370496) : valD ((E + 1) * 4503599627370496 + q) = (q + 4503599627370496) * 2 ^ E := by
  rw [zvn1 (by omega)]
  unfold gapD
  rw [show ((E + 1) * 4503599627370496 + q) % 4503599627370496 = q by omega, show ((E + 1) * 4503599627370496 + q) / 4503599627370496 - 1 = E by omega]

theorem zkm1 (r : Nat) : valD (r + 1) = valD r + 2 ^ gapD r := by
  by_cases h : r < 4503599627370496
  · have hg : gapD r = 0 := by unfold gapD; omega
    rw [zvy h, hg]
    by_cases h1 : r + 1 < 4503599627370496
    · rw [zvy h1]
    · have : r + 1 = (0 + 1) * 4503599627370496 + 0 := by omega
      have e1 : valD (r + 1) = 4503599627370496 := by rw [this, zvz 0 0 (by omega), Nat.pow_zero, Nat.mul_one, Nat.zero_add]
      rw [e1, Nat.pow_zero]
      omega
  · obtain ⟨E, q, hq, rfl⟩ : ∃ E q, q < 4503599627370496 ∧ r = (E + 1) * 4503599627370496 + q := ⟨r / 4503599627370496 - 1, r % 4503599627370496, by omega, by omega⟩
    have hg : gapD ((E + 1) * 4503599627370496 + q) = E := by unfold gapD; omega
    rw [zvz E q hq, hg]
    by_cases h1 : q + 1 < 4503599627370496
    · rw [show (E + 1) * 4503599627370496 + q + 1 = (E + 1) * 4503599627370496 + (q + 1) by omega, zvz E (q + 1) h1, show q + 1 + 4503599627370496 = q + 4503599627370496 + 1 by omega, Nat.succ_mul]
    · rw [show (E + 1) * 4503599627370496 + q + 1 = (E + 1 + 1) * 4503599627370496 + 0 by omega, zvz (E + 1) 0 (by omega), pow_add']
      have : q = 4503599627370495 := by omega
      subst this
      generalize 2 ^ E = g
      omega

/-- Twice the bounds. -/
def lowB (r : Nat) : Nat := valD (r - 1) + valD r
def highB (r : Nat) : Nat := valD r + valD (r + 1)

theorem ztt1 {r s : Nat} (h : r ≤ s) : valD r ≤ valD s := by
  rcases Nat.lt_or_eq_of_le h with h | h
  · exact Nat.le_of_lt (zev1 h)
  · rw [h]; exact Nat.le_refl _

theorem zxy {r s : Nat} (h : r < s) : highB r ≤ lowB s ∧ (highB r = lowB s → r + 1 = s) := by
  unfold highB lowB
  have h1 : valD r ≤ valD (s - 1) := ztt1 (by omega)
  have h2 : valD (r + 1) ≤ valD s := ztt1 (by omega)
  refine ⟨by omega, fun e => ?_⟩
  rcases Nat.lt_or_ge (r + 1) s with h3 | h3
  · have := zev1 h3
    omega
  · omega

theorem zvo1 {m : Nat} {e : Int} : -1074 ≤ e + offD m e := by unfold offD; split <;> omega

theorem zkn1 {m : Nat} {e : Int} (hm : m ≠ 0) (h : -1074 < e + offD m e) : 4503599627370496 * 2 ^ (offD m e).toNat ≤ m * 2 ^ (-offD m e).toNat ∧ m * 2 ^ (-offD m e).toNat < 9007199254740992 * 2 ^ (offD m e).toNat := by
  have hoe : offD m e = (bitsN m : Int) - 53 := by
    unfold offD at h ⊢
    split
    · rename_i h'; rw [if_pos h'] at h; omega
    · rfl
  have hb : bitsN m = m.log2 + 1 := by unfold bitsN; rw [if_neg hm]
  have h2 : 2 ^ m.log2 ≤ m := Nat.log2_self_le hm
  have h3 : m < 2 ^ (m.log2 + 1) := Nat.lt_log2_self
  rw [hoe, hb]
  generalize m.log2 = l at *
  have e1 : (4503599627370496 : Nat) = 2 ^ 52 := by decide
  have e2 : (9007199254740992 : Nat) = 2 ^ 53 := by decide
  rw [e1, e2, ← pow_add', ← pow_add']
  refine ⟨?_, ?_⟩
  · calc 2 ^ (52 + (((l + 1 : Nat) : Int) - 53).toNat) = 2 ^ l * 2 ^ (-(((l + 1 : Nat) : Int) - 53)).toNat := by rw [← pow_add']; congr 1; omega
      _ ≤ _ := Nat.mul_le_mul_right _ h2
  · calc m * 2 ^ (-(((l + 1 : Nat) : Int) - 53)).toNat < 2 ^ (l + 1) * 2 ^ (-(((l + 1 : Nat) : Int) - 53)).toNat := Nat.mul_lt_mul_of_pos_right h3 (Nat.two_pow_pos _)
      _ = 2 ^ (53 + (((l + 1 : Nat) : Int) - 53).toNat) := by rw [← pow_add']; congr 1; omega

/-- All numbers have at most 53 digits behind. -/
theorem zvp1 {m : Nat} {e : Int} (hm : m ≠ 0) : m * 2 ^ (-offD m e).toNat < 9007199254740992 * 2 ^ (offD m e).toNat := by
  by_cases h : -1074 < e + offD m e
  · exact (zkn1 hm h).2
  · have hoe : (bitsN m : Int) - 53 ≤ offD m e := by unfold offD; split <;> omega
    have hb : bitsN m = m.log2 + 1 := by unfold bitsN; rw [if_neg hm]
    have h3 : m < 2 ^ (m.log2 + 1) := Nat.lt_log2_self
    rw [hb] at hoe
    generalize m.log2 = l at *
    generalize offD m e = o at *
    have e2 : (9007199254740992 : Nat) = 2 ^ 53 := by decide
    rw [e2, ← pow_add']
    calc m * 2 ^ (-o).toNat < 2 ^ (l + 1) * 2 ^ (-o).toNat := Nat.mul_lt_mul_of_pos_right h3 (Nat.two_pow_pos _)
      _ = 2 ^ (l + 1 + (-o).toNat) := by rw [← pow_add']
      _ ≤ _ := Nat.pow_le_pow_right (by decide) (by omega)

theorem zpr1 {m : Nat} {o : Int} : 2 * (m * 2 ^ (-o).toNat) ≤ (2 * keptD m o false + 1) * 2 ^ o.toNat ∧ 2 * keptD m o false * 2 ^ o.toNat ≤ 2 * (m * 2 ^ (-o).toNat) + 2 ^ o.toNat
    ∧ (2 * (m * 2 ^ (-o).toNat) = (2 * keptD m o false + 1) * 2 ^ o.toNat → keptD m o false % 2 = 0) ∧ (2 * keptD m o false * 2 ^ o.toNat = 2 * (m * 2 ^ (-o).toNat) + 2 ^ o.toNat → keptD m o false % 2 = 0) := by
  unfold keptD
  by_cases h : o ≤ 0
  · rw [if_pos h, show o.toNat = 0 by omega]
    generalize m * 2 ^ (-o).toNat = x
    omega
  · rw [if_neg h, show (-o).toNat = 0 by omega]
    obtain ⟨d, hd⟩ : ∃ d, o.toNat = d + 1 := ⟨o.toNat - 1, by omega⟩
    rw [hd]
    dsimp only
    rw [Nat.add_sub_cancel]
    have hp : 2 ^ (d + 1) = 2 * 2 ^ d := by rw [Nat.pow_succ, Nat.mul_comm]
    have hm := Nat.div_add_mod m (2 ^ (d + 1))
    have hr := Nat.mod_lt m (Nat.two_pow_pos (d + 1))
    generalize m % 2 ^ (d + 1) = r at *
    generalize m / 2 ^ (d + 1) = q at *
    rw [hp] at hm hr ⊢
    have hg := Nat.two_pow_pos d
    generalize 2 ^ d = g at *
    have hm : 2 * (g * q) + r = m := by rw [← hm, Nat.mul_assoc]
    have e1 : ∀ k, k * (2 * g) = 2 * (g * k) := fun k => by rw [Nat.mul_left_comm, Nat.mul_comm k g]
    rw [e1, e1]
    have e2 : ∀ k, g * (2 * k + 1) = 2 * (g * k) + g := fun k => by rw [Nat.mul_add, Nat.mul_left_comm, Nat.mul_one]
    have e3 : ∀ k, g * (2 * k) = 2 * (g * k) := fun k => by rw [Nat.mul_left_comm]
    rw [e2, e3]
    split
    · have e4 : g * (q + 1) = g * q + g := by rw [Nat.mul_add, Nat.mul_one]
      rename_i hc
      rw [e4]
      generalize g * q = z at *
      simp only [Bool.false_eq_true, false_or] at hc
      omega
    · rename_i hc
      generalize g * q = z at *
      simp only [Bool.false_eq_true, false_or] at hc
      omega

theorem cross {X G A P : Nat} (hG : 0 < G) (hP : 0 < P) (h : A * G = X * P) (k c : Nat) : (k * X ≤ c * G ↔ k * A ≤ c * P) ∧ (c * G ≤ k * X ↔ c * P ≤ k * A) := by
  have e1 : k * A * G = k * X * P := by rw [Nat.mul_assoc, h, Nat.mul_assoc]
  have e2 : c * G * P = c * P * G := by rw [Nat.mul_assoc, Nat.mul_comm G P, Nat.mul_assoc]
  refine ⟨⟨fun hh => ?_, fun hh => ?_⟩, ⟨fun hh => ?_, fun hh => ?_⟩⟩
  · refine Nat.le_of_mul_le_mul_right (c := G) ?_ hG
    rw [e1, ← e2]
    exact Nat.mul_le_mul_right _ hh
  · refine Nat.le_of_mul_le_mul_right (c := P) ?_ hP
    rw [e2, ← e1]
    exact Nat.mul_le_mul_right _ hh
  · refine Nat.le_of_mul_le_mul_right (c := G) ?_ hG
    rw [e1, ← e2]
    exact Nat.mul_le_mul_right _ hh
  · refine Nat.le_of_mul_le_mul_right (c := P) ?_ hP
    rw [e2, ← e1]
    exact Nat.mul_le_mul_right _ hh

/-- What is kept of a number, and which rung it is. -/
theorem zfh1 {m : Nat} {e : Int} {K : Nat} (hm : m ≠ 0) (hK : 0 ≤ e + 1074 + K) :
    ∃ q u : Nat, (2 * (m * 2 ^ (e + 1074 + K).toNat) ≤ (2 * q + 1) * 2 ^ (u + K) ∧ (2 * (m * 2 ^ (e + 1074 + K).toNat) = (2 * q + 1) * 2 ^ (u + K) → q % 2 = 0))
      ∧ ((2 * q - 1) * 2 ^ (u + K) ≤ 2 * (m * 2 ^ (e + 1074 + K).toNat) ∧ (1 ≤ q → (2 * q - 1) * 2 ^ (u + K) = 2 * (m * 2 ^ (e + 1074 + K).toNat) → q % 2 = 0))
      ∧ (u = 0 ∨ 4503599627370496 * 2 ^ (u + K) ≤ m * 2 ^ (e + 1074 + K).toNat)
      ∧ (q < 4503599627370496 ∧ u = 0 ∧ rungD m e false = q ∨ 4503599627370496 ≤ q ∧ q ≤ 9007199254740992 ∧ rungD m e false = min ((u + 1) * 4503599627370496 + (q - 4503599627370496)) 9218868437227405312) := by
  have ho := zvo1 (m := m) (e := e)
  have hX := zvp1 (e := e) hm
  have hB := zkn1 (e := e) hm
  obtain ⟨n1, n2, n3, n4⟩ := zpr1 (m := m) (o := offD m e)
  have hr : rungD m e false = (let off := offD m e; let q := keptD m off false; if q < 4503599627370496 then q else if 2047 ≤ e + off + 1075 then 9218868437227405312 else min ((e + off + 1075).toNat * 4503599627370496 + (q - 4503599627370496)) 9218868437227405312) := rfl
  dsimp only at hr
  generalize keptD m (offD m e) false = q at *
  generalize offD m e = o at *
  obtain ⟨u, hu⟩ : ∃ u : Nat, e + o + 1074 = u := ⟨(e + o + 1074).toNat, by omega⟩
  have hG := Nat.two_pow_pos o.toNat
  have hP := Nat.two_pow_pos (u + K)
  have hc : m * 2 ^ (e + 1074 + K).toNat * 2 ^ o.toNat = m * 2 ^ (-o).toNat * 2 ^ (u + K) := by
    rw [Nat.mul_assoc, Nat.mul_assoc, ← pow_add', ← pow_add']
    congr 2
    omega
  have hcr := cross hG hP hc
  generalize m * 2 ^ (e + 1074 + K).toNat = A at *
  generalize m * 2 ^ (-o).toNat = X at *
  have m1 : ∀ k, (2 * k + 1) * 2 ^ o.toNat = 2 * k * 2 ^ o.toNat + 2 ^ o.toNat := fun k => by rw [Nat.succ_mul]
  have n2' : (2 * q - 1) * 2 ^ o.toNat ≤ 2 * X := by
    rw [Nat.sub_mul]
    omega
  refine ⟨q, u, ⟨(hcr 2 (2 * q + 1)).1.1 n1, fun e1 => ?_⟩, ⟨(hcr 2 (2 * q - 1)).2.1 n2', fun hq e1 => ?_⟩, ?_, ?_⟩
  · refine n3 (Nat.le_antisymm n1 ((hcr 2 (2 * q + 1)).2.2 (by omega)))
  · have h1 := (hcr 2 (2 * q - 1)).1.2 (by omega)
    have h2 := Nat.le_antisymm n2' h1
    refine n4 ?_
    obtain ⟨k, rfl⟩ : ∃ k, q = k + 1 := ⟨q - 1, by omega⟩
    rw [show 2 * (k + 1) - 1 = 2 * k + 1 by omega] at h2
    rw [← h2, show 2 * (k + 1) = (2 * k + 1) + 1 by omega, Nat.succ_mul]
  · rcases Nat.eq_zero_or_pos u with h0 | h0
    · exact .inl h0
    · right
      have := (hcr 1 4503599627370496).2.1 (by have := (hB (by omega)).1; omega)
      omega
  · have q1 : q ≤ 9007199254740992 := by
      have h1 : 2 * q * 2 ^ o.toNat < (2 * 9007199254740992 + 1) * 2 ^ o.toNat := by
        rw [m1]
        have : 2 * 9007199254740992 * 2 ^ o.toNat = 2 * (9007199254740992 * 2 ^ o.toNat) := Nat.mul_assoc _ _ _
        omega
      have := Nat.lt_of_mul_lt_mul_right h1
      omega
    by_cases hq : q < 4503599627370496
    · rw [if_pos hq] at hr
      refine .inl ⟨hq, ?_, hr⟩
      rcases Nat.eq_zero_or_pos u with h0 | h0
      · exact h0
      · exfalso
        have h2 := (hB (by omega)).1
        have h1 : (2 * 4503599627370496) * 2 ^ o.toNat ≤ (2 * q + 1) * 2 ^ o.toNat := by
          have : 2 * 4503599627370496 * 2 ^ o.toNat = 2 * (4503599627370496 * 2 ^ o.toNat) := Nat.mul_assoc _ _ _
          omega
        have := Nat.le_of_mul_le_mul_right h1 hG
        omega
    · rw [if_neg hq] at hr
      refine .inr ⟨by omega, q1, ?_⟩
      rw [hr]
      split
      · rw [Nat.min_eq_right]
        omega
      · rw [show (e + o + 1075).toNat = u + 1 by omega]

theorem ztu1 {r : Nat} (h : 1 ≤ r) : lowB r + 2 ^ gapD (r - 1) = 2 * valD r := by
  have := zkm1 (r - 1)
  rw [show r - 1 + 1 = r by omega] at this
  unfold lowB
  omega

theorem zdh1 {r : Nat} : highB r = 2 * valD r + 2 ^ gapD r := by
  have := zkm1 r
  unfold highB
  omega

theorem zfi1 {m : Nat} {e : Int} {K : Nat} (hm : m ≠ 0) (hK : 0 ≤ e + 1074 + K) (hr : rungD m e false < 9218868437227405312) :
    2 * (m * 2 ^ (e + 1074 + K).toNat) ≤ highB (rungD m e false) * 2 ^ K ∧ (2 * (m * 2 ^ (e + 1074 + K).toNat) = highB (rungD m e false) * 2 ^ K → rungD m e false % 2 = 0) := by
  obtain ⟨q, u, ⟨a1, a2⟩, -, -, h⟩ := zfh1 hm hK
  generalize m * 2 ^ (e + 1074 + K).toNat = A at *
  rw [pow_add', ← Nat.mul_assoc] at a1 a2
  rcases h with ⟨hq, rfl, hr'⟩ | ⟨hq, hq', hr'⟩
  · rw [hr', zdh1, zvy hq, show gapD q = 0 by unfold gapD; omega]
    rw [Nat.pow_zero, Nat.mul_one] at a1 a2
    exact ⟨a1, a2⟩
  · rw [hr'] at hr ⊢
    rw [Nat.min_def] at hr ⊢
    split
    · rename_i hc
      rcases Nat.lt_or_ge q 9007199254740992 with h1 | h1
      · have hv : valD ((u + 1) * 4503599627370496 + (q - 4503599627370496)) = q * 2 ^ u := by
          rw [zvz u _ (by omega)]
          congr 1
          omega
        have hg : gapD ((u + 1) * 4503599627370496 + (q - 4503599627370496)) = u := by unfold gapD; omega
        rw [zdh1, hv, hg]
        have e1 : (2 * q + 1) * 2 ^ u = 2 * (q * 2 ^ u) + 2 ^ u := by rw [Nat.succ_mul, Nat.mul_assoc]
        rw [e1] at a1 a2
        exact ⟨a1, fun h2 => by have := a2 h2; omega⟩
      · have h1 : q = 9007199254740992 := by omega
        subst h1
        have e0 : (u + 1) * 4503599627370496 + (9007199254740992 - 4503599627370496) = (u + 1 + 1) * 4503599627370496 + 0 := by omega
        rw [e0, zdh1, zvz (u + 1) 0 (by omega), show gapD ((u + 1 + 1) * 4503599627370496 + 0) = u + 1 by unfold gapD; omega]
        have h3 : (2 * 9007199254740992 + 1) * 2 ^ u * 2 ^ K < (2 * ((0 + 4503599627370496) * 2 ^ (u + 1)) + 2 ^ (u + 1)) * 2 ^ K := by
          refine Nat.mul_lt_mul_of_pos_right ?_ (Nat.two_pow_pos _)
          have := Nat.two_pow_pos u
          rw [Nat.pow_succ]
          omega
        exact ⟨by omega, fun h2 => by omega⟩
    · rename_i hc
      rw [if_neg hc] at hr
      omega

theorem zvq1 {k : Nat} (hk : k = 2046) : valD 9218868437227405312 = 4503599627370496 * 2 ^ k := by
  rw [show 9218868437227405312 = (k + 1) * 4503599627370496 + 0 by omega, zvz k 0 (by omega), Nat.zero_add]

theorem zko1 {m : Nat} {e : Int} {K : Nat} (hm : m ≠ 0) (hK : 0 ≤ e + 1074 + K) (hr : 1 ≤ rungD m e false) :
    lowB (rungD m e false) * 2 ^ K ≤ 2 * (m * 2 ^ (e + 1074 + K).toNat) ∧ (lowB (rungD m e false) * 2 ^ K = 2 * (m * 2 ^ (e + 1074 + K).toNat) → rungD m e false % 2 = 0) := by
  have hl := ztu1 hr
  obtain ⟨q, u, -, ⟨a1, a2⟩, a3, h⟩ := zfh1 hm hK
  generalize m * 2 ^ (e + 1074 + K).toNat = A at *
  rw [pow_add', ← Nat.mul_assoc] at a1 a2 a3
  have strict : ∀ {x : Nat}, x < 2 * 4503599627370496 * 2 ^ u → 4503599627370496 * 2 ^ u * 2 ^ K ≤ A → x * 2 ^ K ≤ 2 * A ∧ x * 2 ^ K ≠ 2 * A := fun {x} h1 h2 => by
    have h3 := Nat.mul_lt_mul_of_pos_right h1 (Nat.two_pow_pos K)
    have h4 : 2 * 4503599627370496 * 2 ^ u * 2 ^ K = 2 * (4503599627370496 * 2 ^ u * 2 ^ K) := by rw [Nat.mul_assoc 2, Nat.mul_assoc 2]
    omega
  rcases h with ⟨hq, rfl, hr'⟩ | ⟨hq, hq', hr'⟩
  · rw [hr'] at hr hl ⊢
    rw [zvy hq, show gapD (q - 1) = 0 by unfold gapD; omega] at hl
    rw [Nat.pow_zero, Nat.mul_one] at a1 a2
    rw [show lowB q = 2 * q - 1 by omega]
    exact ⟨a1, a2 hr⟩
  · rw [Nat.min_def] at hr'
    by_cases hc : (u + 1) * 4503599627370496 + (q - 4503599627370496) ≤ 9218868437227405312
    · rw [if_pos hc] at hr'
      rw [hr'] at hr hl ⊢
      have hv : valD ((u + 1) * 4503599627370496 + (q - 4503599627370496)) = q * 2 ^ u := by
        rcases Nat.lt_or_ge q 9007199254740992 with h1 | h1
        · rw [zvz u _ (by omega), Nat.sub_add_cancel hq]
        · have h1 : q = 9007199254740992 := by omega
          subst h1
          rw [show (u + 1) * 4503599627370496 + (9007199254740992 - 4503599627370496) = (u + 1 + 1) * 4503599627370496 + 0 by omega, zvz (u + 1) 0 (by omega), Nat.pow_succ]
          omega
      rw [hv] at hl
      have e1 : (2 * q - 1) * 2 ^ u + 2 ^ u = 2 * (q * 2 ^ u) := by rw [← Nat.succ_mul, ← Nat.mul_assoc, show (2 * q - 1).succ = 2 * q by omega]
      by_cases h1 : 4503599627370496 < q ∨ u = 0
      · have hg : gapD ((u + 1) * 4503599627370496 + (q - 4503599627370496) - 1) = u := by unfold gapD; omega
        rw [hg] at hl
        rw [show lowB ((u + 1) * 4503599627370496 + (q - 4503599627370496)) = (2 * q - 1) * 2 ^ u by omega]
        exact ⟨a1, fun h2 => by have := a2 (by omega) h2; omega⟩
      · have h1 : q = 4503599627370496 := by omega
        subst h1
        have := Nat.two_pow_pos (gapD ((u + 1) * 4503599627370496 + (4503599627370496 - 4503599627370496) - 1))
        have h5 := strict (x := lowB ((u + 1) * 4503599627370496 + (4503599627370496 - 4503599627370496))) (by rw [Nat.mul_assoc]; omega) (by omega)
        exact ⟨h5.1, fun h2 => absurd h2 h5.2⟩
    · rw [if_neg hc] at hr'
      rw [hr'] at hr hl ⊢
      obtain ⟨T, hT⟩ : ∃ T : Nat, T = 2045 := ⟨2045, rfl⟩
      have hv : valD 9218868437227405312 = 4503599627370496 * 2 ^ (T + 1) := zvq1 (by omega)
      have hg : gapD (9218868437227405312 - 1) = T := by unfold gapD; omega
      have hps : (2 : Nat) ^ (T + 1) = 2 ^ T * 2 := Nat.pow_succ 2 T
      rw [hv, hg] at hl
      rcases Nat.lt_or_ge u (T + 1) with h1 | h1
      · have h2 : u = T := by omega
        have h3 : q = 9007199254740992 := by omega
        subst h2; subst h3
        omega
      · have h2 : 4503599627370496 * 2 ^ (T + 1) ≤ 4503599627370496 * 2 ^ u := Nat.mul_le_mul_left _ (Nat.pow_le_pow_right (by decide) h1)
        have := Nat.two_pow_pos T
        have h5 := strict (x := lowB 9218868437227405312) (by rw [Nat.mul_assoc]; omega) (by omega)
        exact ⟨h5.1, fun h2 => absurd h2 h5.2⟩

/-- Which rung a number comes to. -/
theorem zvr1 {m : Nat} {e : Int} {K r : Nat} (hm : m ≠ 0) (hK : 0 ≤ e + 1074 + K) (hr : r ≤ 9218868437227405312)
    (h1 : r = 0 ∨ lowB r * 2 ^ K < 2 * (m * 2 ^ (e + 1074 + K).toNat) ∨ (lowB r * 2 ^ K = 2 * (m * 2 ^ (e + 1074 + K).toNat) ∧ r % 2 = 0))
    (h2 : r = 9218868437227405312 ∨ 2 * (m * 2 ^ (e + 1074 + K).toNat) < highB r * 2 ^ K ∨ (2 * (m * 2 ^ (e + 1074 + K).toNat) = highB r * 2 ^ K ∧ r % 2 = 0)) : rungD m e false = r := by
  have hle := zxs (m := m) (e := e) (b := false)
  have hh := zfi1 (e := e) hm hK
  have hl := zko1 (e := e) hm hK
  generalize rungD m e false = s at *
  generalize m * 2 ^ (e + 1074 + K).toNat = A at *
  rcases Nat.lt_trichotomy s r with h | h | h
  · exfalso
    obtain ⟨c1, c2⟩ := zxy h
    obtain ⟨d1, d2⟩ := hh (by omega)
    have c3 := Nat.mul_le_mul_right (2 ^ K) c1
    have e1 : lowB r * 2 ^ K = 2 * A ∧ r % 2 = 0 := by omega
    have e2 : highB s * 2 ^ K = lowB r * 2 ^ K := by omega
    have e3 := Nat.eq_of_mul_eq_mul_right (Nat.two_pow_pos K) e2
    have := d2 (by omega)
    have := c2 e3
    omega
  · exact h
  · exfalso
    obtain ⟨c1, c2⟩ := zxy h
    obtain ⟨d1, d2⟩ := hl (by omega)
    have c3 := Nat.mul_le_mul_right (2 ^ K) c1
    have e1 : 2 * A = highB r * 2 ^ K ∧ r % 2 = 0 := by omega
    have e2 : highB r * 2 ^ K = lowB s * 2 ^ K := by omega
    have e3 := Nat.eq_of_mul_eq_mul_right (Nat.two_pow_pos K) e2
    have := d2 (by omega)
    have := c2 e3
    omega

/-- The greater number has no lesser rung. -/
theorem zps1 {m n : Nat} {e f : Int} {K : Nat} (hm : m ≠ 0) (hn : n ≠ 0) (he : 0 ≤ e + 1074 + K) (hf : 0 ≤ f + 1074 + K) (h : m * 2 ^ (e + 1074 + K).toNat ≤ n * 2 ^ (f + 1074 + K).toNat) : rungD m e false ≤ rungD n f false := by
  rcases Nat.lt_or_ge (rungD n f false) (rungD m e false) with hlt | hge
  · exfalso
    have hle := zxs (m := m) (e := e) (b := false)
    obtain ⟨a1, a2⟩ := zfi1 hn hf (by omega)
    obtain ⟨b1, b2⟩ := zko1 hm he (by omega)
    obtain ⟨c1, c2⟩ := zxy hlt
    have c3 := Nat.mul_le_mul_right (2 ^ K) c1
    generalize m * 2 ^ (e + 1074 + K).toNat = A at *
    generalize n * 2 ^ (f + 1074 + K).toNat = B at *
    have e2 : highB (rungD n f false) * 2 ^ K = lowB (rungD m e false) * 2 ^ K := by omega
    have e3 := c2 (Nat.eq_of_mul_eq_mul_right (Nat.two_pow_pos K) e2)
    have := a2 (by omega)
    have := b2 (by omega)
    omega
  · exact hge

end Lf

/-
  Floats as texts: a float's bounds, and which float a number is rounded to.
-/
namespace Lf

section
variable {r : Nat}

theorem zdi1 (h1 : 0 < r) : lowB r * unitW (-1074) 0 = 2 * loF r ∧ highB r * unitW (-1074) 0 = 2 * hiF r := by
  have hl := ztu1 (r := r) h1
  have hh := zdh1 (r := r)
  have hk : zab r = (gapD r : Int) - 1074 ∧ valD r = zaa r * 2 ^ gapD r := by
    unfold valD zab gapD
    split
    · rename_i h
      rw [show r / 4503599627370496 - 1 = 0 by omega]
      exact ⟨by omega, rfl⟩
    · rename_i h
      refine ⟨by omega, ?_⟩
      congr 2; omega
  have eK : 2 ^ gapD r * unitW (-1074) 0 = 4 * kF r := by
    rw [zcp (by decide)]
    unfold kF
    rw [zia 2 4 rfl (a := zab r - 2) (b := zab r) (by omega) (by omega)]
    congr 1; omega
  have eV : valD r * unitW (-1074) 0 = 4 * zaa r * kF r := by rw [hk.2, Nat.mul_assoc, eK]; ac_rfl
  have hM : 1 ≤ zaa r := by unfold zaa; split <;> omega
  constructor
  · by_cases hs : zaa r = 4503599627370496 ∧ 1 < r / 4503599627370496
    · have hm : r % 4503599627370496 = 0 := by
        have := hs.1
        unfold zaa at this
        split at this <;> omega
      have hg : gapD r = gapD (r - 1) + 1 := by unfold gapD; omega
      have e2 : 2 ^ gapD (r - 1) * unitW (-1074) 0 = 2 * kF r := by
        rw [hg, Nat.pow_succ, Nat.mul_right_comm] at eK
        omega
      have e3 : lowF r = 4 * zaa r - 1 := by unfold lowF; rw [if_pos hs]
      have := congrArg (· * unitW (-1074) 0) hl
      rw [Nat.add_mul, e2, Nat.mul_assoc 2, eV] at this
      unfold loF
      rw [e3, Nat.sub_mul, Nat.one_mul]
      have t := Nat.mul_le_mul_right (kF r) hM
      rw [Nat.mul_assoc] at this ⊢
      omega
    · have hg : gapD (r - 1) = gapD r := by
        unfold zaa at hs
        unfold gapD
        split at hs <;> omega
      have e3 : lowF r = 4 * zaa r - 2 := by unfold lowF; rw [if_neg hs]
      have := congrArg (· * unitW (-1074) 0) hl
      rw [Nat.add_mul, hg, eK, Nat.mul_assoc 2, eV] at this
      unfold loF
      rw [e3, Nat.sub_mul]
      have t := Nat.mul_le_mul_right (kF r) hM
      rw [Nat.mul_assoc] at this ⊢
      omega
  · have := congrArg (· * unitW (-1074) 0) hh
    rw [Nat.add_mul, eK, Nat.mul_assoc 2, eV] at this
    unfold hiF
    rw [Nat.add_mul, this]
    omega

theorem odd_r : oddF r = (r % 2 == 1) := by
  unfold oddF zaa
  split
  · rfl
  · rw [show (r % 4503599627370496 + 4503599627370496) % 2 = r % 2 by omega]

/-- A number within a float's bounds is rounded to it. -/
theorem zhv1 (h1 : 0 < r) (h2 : r < 9218868437227405312) {m : Nat} {e : Int} (hm : m ≠ 0) (he : -3000 ≤ e) (hin : inF r (m * unitW e 0) = true) : rungD m e false = r := by
  obtain ⟨bl, bh⟩ := zdi1 h1
  obtain ⟨K, hK⟩ : ∃ K : Nat, K = (-e - 1074).toNat := ⟨_, rfl⟩
  have hw := zbx (-1074 - (K : Int)) 0
  have eK : 2 ^ K * unitW (-1074 - (K : Int)) 0 = unitW (-1074) 0 := by
    rw [zcp (by omega)]; congr 1; omega
  have eA : m * 2 ^ (e + 1074 + (K : Int)).toNat * unitW (-1074 - (K : Int)) 0 = m * unitW e 0 := by
    rw [Nat.mul_assoc, zcp (by omega)]; congr 2; omega
  rw [← eK, ← Nat.mul_assoc] at bl bh
  rw [inF, zkp, ← eA] at hin
  refine zvr1 (K := K) hm (by omega) (by omega) (.inr ?_) (.inr ?_)
  · generalize m * 2 ^ (e + 1074 + (K : Int)).toNat = A at *
    generalize lowB r * 2 ^ K = L at *
    generalize unitW (-1074 - (K : Int)) 0 = w at *
    have c : ∀ {x y : Nat}, x * w < y * w → x < y := fun h => Nat.lt_of_mul_lt_mul_right h
    cases ho : oddF r
    · rw [ho] at hin
      simp only [Bool.false_eq_true, if_false] at hin
      rw [odd_r] at ho
      have ho : r % 2 = 0 := by
        rcases Nat.mod_two_eq_zero_or_one r with h | h
        · exact h
        · rw [h] at ho; cases ho
      have : L * w ≤ (2 * A) * w := by rw [bl, Nat.mul_assoc]; omega
      have := Nat.le_of_mul_le_mul_right this hw
      omega
    · rw [ho] at hin
      simp only [if_true] at hin
      have : L * w < (2 * A) * w := by rw [bl, Nat.mul_assoc]; omega
      exact .inl (c this)
  · generalize m * 2 ^ (e + 1074 + (K : Int)).toNat = A at *
    generalize highB r * 2 ^ K = H at *
    generalize unitW (-1074 - (K : Int)) 0 = w at *
    have c : ∀ {x y : Nat}, x * w < y * w → x < y := fun h => Nat.lt_of_mul_lt_mul_right h
    cases ho : oddF r
    · rw [ho] at hin
      simp only [Bool.false_eq_true, if_false] at hin
      rw [odd_r] at ho
      have ho : r % 2 = 0 := by
        rcases Nat.mod_two_eq_zero_or_one r with h | h
        · exact h
        · rw [h] at ho; cases ho
      have : (2 * A) * w ≤ H * w := by rw [bh, Nat.mul_assoc]; omega
      have := Nat.le_of_mul_le_mul_right this hw
      omega
    · rw [ho] at hin
      simp only [if_true] at hin
      have : (2 * A) * w < H * w := by rw [bh, Nat.mul_assoc]; omega
      exact .inl (c this)
end
end Lf

/-
  Floats as texts: a quotient with something left, rounded.
-/
namespace Lf

theorem zmi1 {q : Nat} (hq : q ≠ 0) : bitsN (2 * q + 1) = bitsN q + 1 := by
  unfold bitsN
  rw [if_neg hq, if_neg (by omega)]
  have e : (2 * q + 1) / 2 = q := by omega
  rw [Nat.log2_def, if_pos (by omega), e]

theorem zpt1 {q : Nat} {e : Int} (hq : 1152921504606846976 ≤ q) : rungD q e true = rungD (2 * q + 1) (e - 1) false := by
  have hb := zmi1 (q := q) (by omega)
  have h61 : 61 ≤ bitsN q := by
    refine Nat.le_of_not_lt fun h => ?_
    have h1 := zof q
    have h2 : 2 ^ bitsN q ≤ 2 ^ 60 := Nat.pow_le_pow_right (by decide) (by omega)
    omega
  have ho : offD (2 * q + 1) (e - 1) = offD q e + 1 := by
    unfold offD
    rw [hb]
    split <;> split <;> omega
  have ho1 : 8 ≤ offD q e := by unfold offD; split <;> omega
  have hk : keptD (2 * q + 1) (offD q e + 1) false = keptD q (offD q e) true := by
    unfold keptD
    obtain ⟨o, e0⟩ : ∃ o : Nat, offD q e = (o : Int) + 1 := ⟨(offD q e - 1).toNat, by omega⟩
    rw [e0, if_neg (show ¬ ((o : Int) + 1 + 1 ≤ 0) by omega), if_neg (show ¬ ((o : Int) + 1 ≤ 0) by omega)]
    dsimp only
    rw [show ((o : Int) + 1 + 1).toNat = o + 1 + 1 by omega, show ((o : Int) + 1).toNat = o + 1 by omega, show o + 1 + 1 - 1 = o + 1 from rfl, show o + 1 - 1 = o from rfl]
    have e1 : (2 * q + 1) / 2 ^ (o + 1 + 1) = q / 2 ^ (o + 1) := by
      rw [Nat.pow_succ 2 (o + 1), Nat.mul_comm _ 2, ← Nat.div_div_eq_div_mul, show (2 * q + 1) / 2 = q by omega]
    have e2 : (2 * q + 1) % 2 ^ (o + 1 + 1) = 2 * (q % 2 ^ (o + 1)) + 1 := by
      have d1 := Nat.div_add_mod (2 * q + 1) (2 ^ (o + 1 + 1))
      have d2 := Nat.div_add_mod q (2 ^ (o + 1))
      rw [e1, Nat.pow_succ 2 (o + 1), Nat.mul_comm _ 2, Nat.mul_assoc] at d1
      rw [Nat.pow_succ 2 (o + 1), Nat.mul_comm _ 2]
      generalize 2 ^ (o + 1) * (q / 2 ^ (o + 1)) = z at *
      omega
    rw [e1, e2]
    have e3 : 2 ^ (o + 1) = 2 * 2 ^ o := by rw [Nat.pow_succ, Nat.mul_comm]
    generalize q % 2 ^ (o + 1) = ρ at *
    rw [e3]
    generalize 2 ^ o = g at *
    by_cases h : g ≤ ρ
    · rw [if_pos (.inl (by omega)), if_pos (by
        rcases Nat.lt_or_ge g ρ with h' | h'
        · exact .inl h'
        · exact .inr ⟨by omega, .inl rfl⟩)]
    · rw [if_neg (fun hh => by omega), if_neg (fun hh => by omega)]
  unfold rungD
  dsimp only
  rw [ho, hk, show e - 1 + (offD q e + 1) + 1075 = e + offD q e + 1075 by omega]

section
variable {r : Nat}

theorem zvs1 (h1 : 0 < r) (h2 : r < 9218868437227405312) {q X : Nat} {e : Int} (hq : 1152921504606846976 ≤ q) (he : -2900 ≤ e) (x0 : q * unitW e 0 < X) (x1 : X < (q + 1) * unitW e 0) (hin : inF r X = true) : rungD q e true = r := by
  rw [zpt1 hq]
  obtain ⟨hz, hm, he2, z0, z1, z2, hM⟩ := zpc h1 h2
  have hM2 : zaa r < 9007199254740992 := by unfold zaa; split <;> omega
  obtain ⟨b1, b2, b3, b4, b5, -⟩ := zih h1 h2
  have hE := zbx e 0
  have hk : e < zab r - 2 := by
    refine zkl1 (by omega) ?_
    rw [inF, zkp] at hin
    have hi : X ≤ hiF r := by
      cases ho : oddF r
      · rw [ho] at hin; simp only [Bool.false_eq_true, if_false] at hin; exact hin.2
      · rw [ho] at hin; simp only [if_true] at hin; exact Nat.le_of_lt hin.2
    have t1 := Nat.mul_le_mul_right (unitW e 0) hq
    have t2 := Nat.mul_le_mul_right (kF r) (show 4 * zaa r + 2 ≤ 36028797018963966 by omega)
    have : hiF r = (4 * zaa r + 2) * kF r := rfl
    show unitW e 0 < kF r
    omega
  have eK : kF r = 2 ^ (zab r - 2 - e).toNat * unitW e 0 := by
    rw [zcp (by omega)]
    unfold kF
    congr 1; omega
  have eE : unitW e 0 = 2 * unitW (e - 1) 0 := (zia 1 2 rfl (by omega) (by omega)).symm
  refine zhv1 h1 h2 (by omega) (by omega) ?_
  rw [inF, zkp] at hin ⊢
  have lo : loF r = lowF r * 2 ^ (zab r - 2 - e).toNat * unitW e 0 := by unfold loF; rw [eK, Nat.mul_assoc]
  have hi : hiF r = (4 * zaa r + 2) * 2 ^ (zab r - 2 - e).toNat * unitW e 0 := by unfold hiF; rw [eK, Nat.mul_assoc]
  have hin' : loF r ≤ X ∧ X ≤ hiF r := by
    cases ho : oddF r
    · rw [ho] at hin; simp only [Bool.false_eq_true, if_false] at hin; exact hin
    · rw [ho] at hin; simp only [if_true] at hin; omega
  clear hin
  rw [lo, hi] at hin' ⊢
  generalize lowF r * 2 ^ (zab r - 2 - e).toNat = c1 at *
  generalize (4 * zaa r + 2) * 2 ^ (zab r - 2 - e).toNat = c2 at *
  have g1 : c1 < q + 1 := Nat.lt_of_mul_lt_mul_right (Nat.lt_of_le_of_lt hin'.1 x1)
  have g2 : q < c2 := Nat.lt_of_mul_lt_mul_right (Nat.lt_of_lt_of_le x0 hin'.2)
  have t1 := Nat.mul_le_mul_right (unitW e 0) (show c1 ≤ q by omega)
  have t2 := Nat.mul_le_mul_right (unitW e 0) (show q + 1 ≤ c2 by omega)
  have hE1 := zbx (e - 1) 0
  have e4 : (2 * q + 1) * unitW (e - 1) 0 = q * unitW e 0 + unitW (e - 1) 0 := by rw [Nat.add_mul, Nat.one_mul, eE, Nat.mul_comm 2 q, Nat.mul_assoc]
  rw [Nat.add_mul, Nat.one_mul] at t2
  rw [e4]
  cases ho : oddF r
  · simp only [Bool.false_eq_true, if_false]; omega
  · simp only [if_true]; omega
end
end Lf

/-
  Floats as texts: the bounds of floats follow one another; a number lies within those of one float.
-/
namespace Lf

theorem zfj1 {a b : Nat} (ha : 0 < a) (h : a < b) : hiF a ≤ loF b ∧ (hiF a = loF b → a + 1 = b) := by
  obtain ⟨-, e1⟩ := zdi1 ha
  obtain ⟨e2, -⟩ := zdi1 (r := b) (by omega)
  obtain ⟨c1, c2⟩ := zxy h
  have t := Nat.mul_le_mul_right (unitW (-1074) 0) c1
  refine ⟨by omega, fun he => c2 ?_⟩
  refine Nat.eq_of_mul_eq_mul_right (zbx (-1074) 0) ?_
  omega

theorem zkp1 {r X : Nat} (h : inF r X = true) : loF r ≤ X ∧ X ≤ hiF r ∧ (r % 2 = 1 → loF r < X ∧ X < hiF r) := by
  rw [inF, zkp] at h
  cases ho : oddF r
  · rw [ho] at h
    simp only [Bool.false_eq_true, if_false] at h
    rw [odd_r] at ho
    exact ⟨h.1, h.2, fun e => by rw [e] at ho; cases ho⟩
  · rw [ho] at h
    simp only [if_true] at h
    exact ⟨Nat.le_of_lt h.1, Nat.le_of_lt h.2, fun _ => h⟩

theorem zwy1 {r X : Nat} (h0 : loF r ≤ X) (h1 : X ≤ hiF r) (h2 : r % 2 = 1 → loF r < X ∧ X < hiF r) : inF r X = true := by
  rw [inF, zkp]
  cases ho : oddF r
  · simp only [Bool.false_eq_true, if_false]; exact ⟨h0, h1⟩
  · simp only [if_true]
    rw [odd_r] at ho
    exact h2 (by simpa using ho)

/-- zqg1 one float's bounds alone. -/
theorem zpu1 {a b X : Nat} (ha : 0 < a) (hb : 0 < b) (h1 : inF a X = true) (h2 : inF b X = true) : a = b := by
  have main : ∀ {a b : Nat}, 0 < a → inF a X = true → inF b X = true → ¬ a < b := fun {a b} ha h1 h2 h => by
    obtain ⟨c1, c2⟩ := zfj1 ha h
    obtain ⟨x1, x2, x3⟩ := zkp1 h1
    obtain ⟨y1, y2, y3⟩ := zkp1 h2
    have e := c2 (by omega)
    rcases Nat.mod_two_eq_zero_or_one a with p | p
    · have := y3 (by omega); omega
    · have := x3 p; omega
  rcases Nat.lt_trichotomy a b with h | h | h
  · exact absurd h (main ha h1 h2)
  · exact h
  · exact absurd h (main hb h2 h1)

end Lf

/-
  Floats as texts: how the document looks for the digits.
-/
namespace Lf

/-- The first guess of the exponent is not too small. -/
def topOk (n : Int) : Bool := decide (-400 ≤ Int.tdiv (n * 30103) 100000 ∧ Int.tdiv (n * 30103) 100000 ≤ 400) && decide (2 ^ (n + 1).toNat * 10 ^ (-(Int.tdiv (n * 30103) 100000 + 3)).toNat ≤ 10 ^ (Int.tdiv (n * 30103) 100000 + 3).toNat * 2 ^ (-(n + 1)).toNat)

theorem zpv1 : ∀ i : Nat, i < 2100 → topOk ((i : Int) - 1074) = true := by decide +kernel

section
variable {r : Nat}

/-- The place of a float's highest binary digit. -/
def twoF (r : Nat) : Int := zab r + ((bitsN (zaa r) : Int) - 1)

theorem ztv1 {n : Int} (h0 : -1074 ≤ n) (h1 : n ≤ 1023) : -400 ≤ Int.tdiv (n * 30103) 100000 ∧ Int.tdiv (n * 30103) 100000 ≤ 400 := by
  have c := zpv1 (n + 1074).toNat (by omega)
  rw [show (((n + 1074).toNat : Nat) : Int) - 1074 = n by omega] at c
  unfold topOk at c
  rw [Bool.and_eq_true] at c
  exact of_decide_eq_true c.1

theorem zvt1 (h1 : 0 < r) (h2 : r < 9218868437227405312) : vF r < unitW 0 (Int.tdiv (twoF r * 30103) 100000 + 3) := by
  obtain ⟨b1, b2, b3, b4, b5, -⟩ := zih h1 h2
  have hb := zof (zaa r)
  have ht : -1074 ≤ twoF r ∧ twoF r ≤ 1023 := by unfold twoF; omega
  have c := zpv1 (twoF r + 1074).toNat (by omega)
  rw [show (((twoF r + 1074).toNat : Nat) : Int) - 1074 = twoF r by omega] at c
  unfold topOk at c
  rw [Bool.and_eq_true] at c
  have hx := of_decide_eq_true c.1
  obtain ⟨Z, z0, e1, e2⟩ := zty (Int.tdiv (twoF r * 30103) 100000 + 3) (twoF r + 1) (by omega) (by omega)
  have c1 := Nat.mul_le_mul_right Z (of_decide_eq_true c.2)
  rw [e1, e2] at c1
  have e3 : vF r = zaa r * unitW (zab r) 0 := by
    unfold vF kF
    rw [← zia 2 4 rfl (a := zab r - 2) (b := zab r) (by omega) (by omega)]
    ac_rfl
  have e4 := Nat.mul_lt_mul_of_pos_right hb (zbx (zab r) 0)
  rw [zcp (by omega), show zab r + ((bitsN (zaa r) : Nat) : Int) = twoF r + 1 by unfold twoF; omega] at e4
  omega

end
end Lf

