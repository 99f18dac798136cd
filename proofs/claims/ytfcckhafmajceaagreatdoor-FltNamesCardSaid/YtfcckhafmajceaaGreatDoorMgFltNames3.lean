/-
  Part 4 of the texts that the claim leans on.
-/
import Derived.Test.YtfcckhafmajceaaGreatDoorRows
import Derived.Laws.Externs
import GoSem.Core.Float
import GoSem.PinnedTables
import Derived.Laws.IdiomStrings
import Derived.Test.YtfcckhafmajceaaGreatDoorMgFltNames2
/-
  By program: what is told of the types is so of the program.
-/
set_option autoImplicit false
set_option maxRecDepth 100000
namespace Lf
open Go Go.Proofs

theorem nth_none {α : Type _} {l : List α} {i : Nat} (h : l.length ≤ i) : nth l i = none := by rw [nth_get]; exact List.getElem?_eq_none h

theorem tyAll {p : Nat → Ty → Prop} (h0 : p 0 ty0) (h2 : p 2 ty2) (h3 : p 3 ty3) (h4 : p 4 ty4) (h5 : p 5 ty5) (h9 : p 9 ty9) (h12 : p 12 ty12) (h20 : p 20 ty20) (h21 : p 21 ty21) (h23 : p 23 ty23) (h24 : p 24 ty24) (h29 : p 29 ty29) (h31 : p 31 ty31) (h34 : p 34 ty34) (h42 : p 42 ty42) (h45 : p 45 ty45) (h46 : p 46 ty46) (h48 : p 48 ty48) (h52 : p 52 ty52) (h55 : p 55 ty55) (h59 : p 59 ty59) (h62 : p 62 ty62) (h70 : p 70 ty70) (h74 : p 74 ty74) (h78 : p 78 ty78) (h81 : p 81 ty81) (h83 : p 83 ty83) (h85 : p 85 ty85) (h88 : p 88 ty88) (h90 : p 90 ty90) (h92 : p 92 ty92) (h94 : p 94 ty94) (h100 : p 100 ty100) (h102 : p 102 ty102) (h105 : p 105 ty105) (h108 : p 108 ty108) (h110 : p 110 ty110) (h113 : p 113 ty113) (h116 : p 116 ty116) (h118 : p 118 ty118) (h120 : p 120 ty120) (h122 : p 122 ty122) (h129 : p 129 ty129) (h131 : p 131 ty131) (h134 : p 134 ty134) (h135 : p 135 ty135) (h137 : p 137 ty137) (h139 : p 139 ty139) (h141 : p 141 ty141) (h142 : p 142 ty142) (h144 : p 144 ty144) (h147 : p 147 ty147) (h149 : p 149 ty149) (h152 : p 152 ty152) (h154 : p 154 ty154) (h156 : p 156 ty156) (h159 : p 159 ty159) (h163 : p 163 ty163) (h164 : p 164 ty164) (h167 : p 167 ty167) (h174 : p 174 ty174) (h176 : p 176 ty176) (h177 : p 177 ty177) (h187 : p 187 ty187) (h189 : p 189 ty189) (h190 : p 190 ty190) (h194 : p 194 ty194) (h195 : p 195 ty195) (h198 : p 198 ty198) (h199 : p 199 ty199) (h201 : p 201 ty201) : ∀ t e, tyAt t = some e → p t e := by
  intro t e h
  by_cases hlt : t < 208
  · match t, hlt, h with
    | 0, _, h => exact Option.some.inj (show some ty0 = some e from h) ▸ h0
    | 1, _, h => exact absurd (show (none : Option Ty) = some e from h) (by simp)
    | 2, _, h => exact Option.some.inj (show some ty2 = some e from h) ▸ h2
    | 3, _, h => exact Option.some.inj (show some ty3 = some e from h) ▸ h3
    | 4, _, h => exact Option.some.inj (show some ty4 = some e from h) ▸ h4
    | 5, _, h => exact Option.some.inj (show some ty5 = some e from h) ▸ h5
    | 6, _, h => exact absurd (show (none : Option Ty) = some e from h) (by simp)
    | 7, _, h => exact absurd (show (none : Option Ty) = some e from h) (by simp)
    | 8, _, h => exact absurd (show (none : Option Ty) = some e from h) (by simp)
    | 9, _, h => exact Option.some.inj (show some ty9 = some e from h) ▸ h9
    | 10, _, h => exact absurd (show (none : Option Ty) = some e from h) (by simp)
    | 11, _, h => exact absurd (show (none : Option Ty) = some e from h) (by simp)
    | 12, _, h => exact Option.some.inj (show some ty12 = some e from h) ▸ h12
    | 13, _, h => exact absurd (show (none : Option Ty) = some e from h) (by simp)
    | 14, _, h => exact absurd (show (none : Option Ty) = some e from h) (by simp)
    | 15, _, h => exact absurd (show (none : Option Ty) = some e from h) (by simp)
    | 16, _, h => exact absurd (show (none : Option Ty) = some e from h) (by simp)
    | 17, _, h => exact absurd (show (none : Option Ty) = some e from h) (by simp)
    | 18, _, h => exact absurd (show (none : Option Ty) = some e from h) (by simp)
    | 19, _, h => exact absurd (show (none : Option Ty) = some e from h) (by simp)
    | 20, _, h => exact Option.some.inj (show some ty20 = some e from h) ▸ h20
    | 21, _, h => exact Option.some.inj (show some ty21 = some e from h) ▸ h21
    | 22, _, h => exact absurd (show (none : Option Ty) = some e from h) (by simp)
    | 23, _, h => exact Option.some.inj (show some ty23 = some e from h) ▸ h23
    | 24, _, h => exact Option.some.inj (show some ty24 = some e from h) ▸ h24
    | 25, _, h => exact absurd (show (none : Option Ty) = some e from h) (by simp)
    | 26, _, h => exact absurd (show (none : Option Ty) = some e from h) (by simp)
    | 27, _, h => exact absurd (show (none : Option Ty) = some e from h) (by simp)
    | 28, _, h => exact absurd (show (none : Option Ty) = some e from h) (by simp)
    | 29, _, h => exact Option.some.inj (show some ty29 = some e from h) ▸ h29
    | 30, _, h => exact absurd (show (none : Option Ty) = some e from h) (by simp)
    | 31, _, h => exact Option.some.inj (show some ty31 = some e from h) ▸ h31
    | 32, _, h => exact absurd (show (none : Option Ty) = some e from h) (by simp)
    | 33, _, h => exact absurd (show (none : Option Ty) = some e from h) (by simp)
    | 34, _, h => exact Option.some.inj (show some ty34 = some e from h) ▸ h34
    | 35, _, h => exact absurd (show (none : Option Ty) = some e from h) (by simp)
    | 36, _, h => exact absurd (show (none : Option Ty) = some e from h) (by simp)
    | 37, _, h => exact absurd (show (none : Option Ty) = some e from h) (by simp)
    | 38, _, h => exact absurd (show (none : Option Ty) = some e from h) (by simp)
    | 39, _, h => exact absurd (show (none : Option Ty) = some e from h) (by simp)
    | 40, _, h => exact absurd (show (none : Option Ty) = some e from h) (by simp)
    | 41, _, h => exact absurd (show (none : Option Ty) = some e from h) (by simp)
    | 42, _, h => exact Option.some.inj (show some ty42 = some e from h) ▸ h42
    | 43, _, h => exact absurd (show (none : Option Ty) = some e from h) (by simp)
    | 44, _, h => exact absurd (show (none : Option Ty) = some e from h) (by simp)
    | 45, _, h => exact Option.some.inj (show some ty45 = some e from h) ▸ h45
    | 46, _, h => exact Option.some.inj (show some ty46 = some e from h) ▸ h46
    | 47, _, h => exact absurd (show (none : Option Ty) = some e from h) (by simp)
    | 48, _, h => exact Option.some.inj (show some ty48 = some e from h) ▸ h48
    | 49, _, h => exact absurd (show (none : Option Ty) = some e from h) (by simp)
    | 50, _, h => exact absurd (show (none : Option Ty) = some e from h) (by simp)
    | 51, _, h => exact absurd (show (none : Option Ty) = some e from h) (by simp)
    | 52, _, h => exact Option.some.inj (show some ty52 = some e from h) ▸ h52
    | 53, _, h => exact absurd (show (none : Option Ty) = some e from h) (by simp)
    | 54, _, h => exact absurd (show (none : Option Ty) = some e from h) (by simp)
    | 55, _, h => exact Option.some.inj (show some ty55 = some e from h) ▸ h55
    | 56, _, h => exact absurd (show (none : Option Ty) = some e from h) (by simp)
    | 57, _, h => exact absurd (show (none : Option Ty) = some e from h) (by simp)
    | 58, _, h => exact absurd (show (none : Option Ty) = some e from h) (by simp)
    | 59, _, h => exact Option.some.inj (show some ty59 = some e from h) ▸ h59
    | 60, _, h => exact absurd (show (none : Option Ty) = some e from h) (by simp)
    | 61, _, h => exact absurd (show (none : Option Ty) = some e from h) (by simp)
    | 62, _, h => exact Option.some.inj (show some ty62 = some e from h) ▸ h62
    | 63, _, h => exact absurd (show (none : Option Ty) = some e from h) (by simp)
    | 64, _, h => exact absurd (show (none : Option Ty) = some e from h) (by simp)
    | 65, _, h => exact absurd (show (none : Option Ty) = some e from h) (by simp)
    | 66, _, h => exact absurd (show (none : Option Ty) = some e from h) (by simp)
    | 67, _, h => exact absurd (show (none : Option Ty) = some e from h) (by simp)
    | 68, _, h => exact absurd (show (none : Option Ty) = some e from h) (by simp)
    | 69, _, h => exact absurd (show (none : Option Ty) = some e from h) (by simp)
    | 70, _, h => exact Option.some.inj (show some ty70 = some e from h) ▸ h70
    | 71, _, h => exact absurd (show (none : Option Ty) = some e from h) (by simp)
    | 72, _, h => exact absurd (show (none : Option Ty) = some e from h) (by simp)
    | 73, _, h => exact absurd (show (none : Option Ty) = some e from h) (by simp)
    | 74, _, h => exact Option.some.inj (show some ty74 = some e from h) ▸ h74
    | 75, _, h => exact absurd (show (none : Option Ty) = some e from h) (by simp)
    | 76, _, h => exact absurd (show (none : Option Ty) = some e from h) (by simp)
    | 77, _, h => exact absurd (show (none : Option Ty) = some e from h) (by simp)
    | 78, _, h => exact Option.some.inj (show some ty78 = some e from h) ▸ h78
    | 79, _, h => exact absurd (show (none : Option Ty) = some e from h) (by simp)
    | 80, _, h => exact absurd (show (none : Option Ty) = some e from h) (by simp)
    | 81, _, h => exact Option.some.inj (show some ty81 = some e from h) ▸ h81
    | 82, _, h => exact absurd (show (none : Option Ty) = some e from h) (by simp)
    | 83, _, h => exact Option.some.inj (show some ty83 = some e from h) ▸ h83
    | 84, _, h => exact absurd (show (none : Option Ty) = some e from h) (by simp)
    | 85, _, h => exact Option.some.inj (show some ty85 = some e from h) ▸ h85
    | 86, _, h => exact absurd (show (none : Option Ty) = some e from h) (by simp)
    | 87, _, h => exact absurd (show (none : Option Ty) = some e from h) (by simp)
    | 88, _, h => exact Option.some.inj (show some ty88 = some e from h) ▸ h88
    | 89, _, h => exact absurd (show (none : Option Ty) = some e from h) (by simp)
    | 90, _, h => exact Option.some.inj (show some ty90 = some e from h) ▸ h90
    | 91, _, h => exact absurd (show (none : Option Ty) = some e from h) (by simp)
    | 92, _, h => exact Option.some.inj (show some ty92 = some e from h) ▸ h92
    | 93, _, h => exact absurd (show (none : Option Ty) = some e from h) (by simp)
    | 94, _, h => exact Option.some.inj (show some ty94 = some e from h) ▸ h94
    | 95, _, h => exact absurd (show (none : Option Ty) = some e from h) (by simp)
    | 96, _, h => exact absurd (show (none : Option Ty) = some e from h) (by simp)
    | 97, _, h => exact absurd (show (none : Option Ty) = some e from h) (by simp)
    | 98, _, h => exact absurd (show (none : Option Ty) = some e from h) (by simp)
    | 99, _, h => exact absurd (show (none : Option Ty) = some e from h) (by simp)
    | 100, _, h => exact Option.some.inj (show some ty100 = some e from h) ▸ h100
    | 101, _, h => exact absurd (show (none : Option Ty) = some e from h) (by simp)
    | 102, _, h => exact Option.some.inj (show some ty102 = some e from h) ▸ h102
    | 103, _, h => exact absurd (show (none : Option Ty) = some e from h) (by simp)
    | 104, _, h => exact absurd (show (none : Option Ty) = some e from h) (by simp)
    | 105, _, h => exact Option.some.inj (show some ty105 = some e from h) ▸ h105
    | 106, _, h => exact absurd (show (none : Option Ty) = some e from h) (by simp)
    | 107, _, h => exact absurd (show (none : Option Ty) = some e from h) (by simp)
    | 108, _, h => exact Option.some.inj (show some ty108 = some e from h) ▸ h108
    | 109, _, h => exact absurd (show (none : Option Ty) = some e from h) (by simp)
    | 110, _, h => exact Option.some.inj (show some ty110 = some e from h) ▸ h110
    | 111, _, h => exact absurd (show (none : Option Ty) = some e from h) (by simp)
    | 112, _, h => exact absurd (show (none : Option Ty) = some e from h) (by simp)
    | 113, _, h => exact Option.some.inj (show some ty113 = some e from h) ▸ h113
    | 114, _, h => exact absurd (show (none : Option Ty) = some e from h) (by simp)
    | 115, _, h => exact absurd (show (none : Option Ty) = some e from h) (by simp)
    | 116, _, h => exact Option.some.inj (show some ty116 = some e from h) ▸ h116
    | 117, _, h => exact absurd (show (none : Option Ty) = some e from h) (by simp)
    | 118, _, h => exact Option.some.inj (show some ty118 = some e from h) ▸ h118
    | 119, _, h => exact absurd (show (none : Option Ty) = some e from h) (by simp)
    | 120, _, h => exact Option.some.inj (show some ty120 = some e from h) ▸ h120
    | 121, _, h => exact absurd (show (none : Option Ty) = some e from h) (by simp)
    | 122, _, h => exact Option.some.inj (show some ty122 = some e from h) ▸ h122
    | 123, _, h => exact absurd (show (none : Option Ty) = some e from h) (by simp)
    | 124, _, h => exact absurd (show (none : Option Ty) = some e from h) (by simp)
    | 125, _, h => exact absurd (show (none : Option Ty) = some e from h) (by simp)
    | 126, _, h => exact absurd (show (none : Option Ty) = some e from h) (by simp)
    | 127, _, h => exact absurd (show (none : Option Ty) = some e from h) (by simp)
    | 128, _, h => exact absurd (show (none : Option Ty) = some e from h) (by simp)
    | 129, _, h => exact Option.some.inj (show some ty129 = some e from h) ▸ h129
    | 130, _, h => exact absurd (show (none : Option Ty) = some e from h) (by simp)
    | 131, _, h => exact Option.some.inj (show some ty131 = some e from h) ▸ h131
    | 132, _, h => exact absurd (show (none : Option Ty) = some e from h) (by simp)
    | 133, _, h => exact absurd (show (none : Option Ty) = some e from h) (by simp)
    | 134, _, h => exact Option.some.inj (show some ty134 = some e from h) ▸ h134
    | 135, _, h => exact Option.some.inj (show some ty135 = some e from h) ▸ h135
    | 136, _, h => exact absurd (show (none : Option Ty) = some e from h) (by simp)
    | 137, _, h => exact Option.some.inj (show some ty137 = some e from h) ▸ h137
    | 138, _, h => exact absurd (show (none : Option Ty) = some e from h) (by simp)
    | 139, _, h => exact Option.some.inj (show some ty139 = some e from h) ▸ h139
    | 140, _, h => exact absurd (show (none : Option Ty) = some e from h) (by simp)
    | 141, _, h => exact Option.some.inj (show some ty141 = some e from h) ▸ h141
    | 142, _, h => exact Option.some.inj (show some ty142 = some e from h) ▸ h142
    | 143, _, h => exact absurd (show (none : Option Ty) = some e from h) (by simp)
    | 144, _, h => exact Option.some.inj (show some ty144 = some e from h) ▸ h144
    | 145, _, h => exact absurd (show (none : Option Ty) = some e from h) (by simp)
    | 146, _, h => exact absurd (show (none : Option Ty) = some e from h) (by simp)
    | 147, _, h => exact Option.some.inj (show some ty147 = some e from h) ▸ h147
    | 148, _, h => exact absurd (show (none : Option Ty) = some e from h) (by simp)
    | 149, _, h => exact Option.some.inj (show some ty149 = some e from h) ▸ h149
    | 150, _, h => exact absurd (show (none : Option Ty) = some e from h) (by simp)
    | 151, _, h => exact absurd (show (none : Option Ty) = some e from h) (by simp)
    | 152, _, h => exact Option.some.inj (show some ty152 = some e from h) ▸ h152
    | 153, _, h => exact absurd (show (none : Option Ty) = some e from h) (by simp)
    | 154, _, h => exact Option.some.inj (show some ty154 = some e from h) ▸ h154
    | 155, _, h => exact absurd (show (none : Option Ty) = some e from h) (by simp)
    | 156, _, h => exact Option.some.inj (show some ty156 = some e from h) ▸ h156
    | 157, _, h => exact absurd (show (none : Option Ty) = some e from h) (by simp)
    | 158, _, h => exact absurd (show (none : Option Ty) = some e from h) (by simp)
    | 159, _, h => exact Option.some.inj (show some ty159 = some e from h) ▸ h159
    | 160, _, h => exact absurd (show (none : Option Ty) = some e from h) (by simp)
    | 161, _, h => exact absurd (show (none : Option Ty) = some e from h) (by simp)
    | 162, _, h => exact absurd (show (none : Option Ty) = some e from h) (by simp)
    | 163, _, h => exact Option.some.inj (show some ty163 = some e from h) ▸ h163
    | 164, _, h => exact Option.some.inj (show some ty164 = some e from h) ▸ h164
    | 165, _, h => exact absurd (show (none : Option Ty) = some e from h) (by simp)
    | 166, _, h => exact absurd (show (none : Option Ty) = some e from h) (by simp)
    | 167, _, h => exact Option.some.inj (show some ty167 = some e from h) ▸ h167
    | 168, _, h => exact absurd (show (none : Option Ty) = some e from h) (by simp)
    | 169, _, h => exact absurd (show (none : Option Ty) = some e from h) (by simp)
    | 170, _, h => exact absurd (show (none : Option Ty) = some e from h) (by simp)
    | 171, _, h => exact absurd (show (none : Option Ty) = some e from h) (by simp)
    | 172, _, h => exact absurd (show (none : Option Ty) = some e from h) (by simp)
    | 173, _, h => exact absurd (show (none : Option Ty) = some e from h) (by simp)
    | 174, _, h => exact Option.some.inj (show some ty174 = some e from h) ▸ h174
    | 175, _, h => exact absurd (show (none : Option Ty) = some e from h) (by simp)
    | 176, _, h => exact Option.some.inj (show some ty176 = some e from h) ▸ h176
    | 177, _, h => exact Option.some.inj (show some ty177 = some e from h) ▸ h177
    | 178, _, h => exact absurd (show (none : Option Ty) = some e from h) (by simp)
    | 179, _, h => exact absurd (show (none : Option Ty) = some e from h) (by simp)
    | 180, _, h => exact absurd (show (none : Option Ty) = some e from h) (by simp)
    | 181, _, h => exact absurd (show (none : Option Ty) = some e from h) (by simp)
    | 182, _, h => exact absurd (show (none : Option Ty) = some e from h) (by simp)
    | 183, _, h => exact absurd (show (none : Option Ty) = some e from h) (by simp)
    | 184, _, h => exact absurd (show (none : Option Ty) = some e from h) (by simp)
    | 185, _, h => exact absurd (show (none : Option Ty) = some e from h) (by simp)
    | 186, _, h => exact absurd (show (none : Option Ty) = some e from h) (by simp)
    | 187, _, h => exact Option.some.inj (show some ty187 = some e from h) ▸ h187
    | 188, _, h => exact absurd (show (none : Option Ty) = some e from h) (by simp)
    | 189, _, h => exact Option.some.inj (show some ty189 = some e from h) ▸ h189
    | 190, _, h => exact Option.some.inj (show some ty190 = some e from h) ▸ h190
    | 191, _, h => exact absurd (show (none : Option Ty) = some e from h) (by simp)
    | 192, _, h => exact absurd (show (none : Option Ty) = some e from h) (by simp)
    | 193, _, h => exact absurd (show (none : Option Ty) = some e from h) (by simp)
    | 194, _, h => exact Option.some.inj (show some ty194 = some e from h) ▸ h194
    | 195, _, h => exact Option.some.inj (show some ty195 = some e from h) ▸ h195
    | 196, _, h => exact absurd (show (none : Option Ty) = some e from h) (by simp)
    | 197, _, h => exact absurd (show (none : Option Ty) = some e from h) (by simp)
    | 198, _, h => exact Option.some.inj (show some ty198 = some e from h) ▸ h198
    | 199, _, h => exact Option.some.inj (show some ty199 = some e from h) ▸ h199
    | 200, _, h => exact absurd (show (none : Option Ty) = some e from h) (by simp)
    | 201, _, h => exact Option.some.inj (show some ty201 = some e from h) ▸ h201
    | 202, _, h => exact absurd (show (none : Option Ty) = some e from h) (by simp)
    | 203, _, h => exact absurd (show (none : Option Ty) = some e from h) (by simp)
    | 204, _, h => exact absurd (show (none : Option Ty) = some e from h) (by simp)
    | 205, _, h => exact absurd (show (none : Option Ty) = some e from h) (by simp)
    | 206, _, h => exact absurd (show (none : Option Ty) = some e from h) (by simp)
    | 207, _, h => exact absurd (show (none : Option Ty) = some e from h) (by simp)
    | n + 208, hlt, _ => omega
  · have hl : tyRows.length = 13 := rfl
    have : nth tyRows (t / 16) = none := nth_none (l := tyRows) (i := t / 16) (by rw [hl]; omega)
    unfold tyAt at h
    rw [this] at h
    cases h

theorem leaf_of (x : Leaf) : (cellsL x.v).length = 1 ∧ ∀ cs, x.v ≠ .agg cs := by
  obtain ⟨v, h⟩ := x
  cases v <;> first | exact ⟨rfl, fun cs h => by cases h⟩ | cases h

theorem tb_ok : tb.Ok Tryz.prog where
  und := tyAll (p := fun t e => Tryz.prog.underlying t = some e.und) Tryz.underlying0 Tryz.underlying2 Tryz.underlying3 Tryz.underlying4 Tryz.underlying5 Tryz.underlying9 Tryz.underlying12 Tryz.underlying20 Tryz.underlying21 Tryz.underlying23 Tryz.underlying24 Tryz.underlying29 Tryz.underlying31 Tryz.underlying34 Tryz.underlying42 Tryz.underlying45 Tryz.underlying46 Tryz.underlying48 Tryz.underlying52 Tryz.underlying55 Tryz.underlying59 Tryz.underlying62 Tryz.underlying70 Tryz.underlying74 Tryz.underlying78 Tryz.underlying81 Tryz.underlying83 Tryz.underlying85 Tryz.underlying88 Tryz.underlying90 Tryz.underlying92 Tryz.underlying94 Tryz.underlying100 Tryz.underlying102 Tryz.underlying105 Tryz.underlying108 Tryz.underlying110 Tryz.underlying113 Tryz.underlying116 Tryz.underlying118 Tryz.underlying120 Tryz.underlying122 Tryz.underlying129 Tryz.underlying131 Tryz.underlying134 Tryz.underlying135 Tryz.underlying137 Tryz.underlying139 Tryz.underlying141 Tryz.underlying142 Tryz.underlying144 Tryz.underlying147 Tryz.underlying149 Tryz.underlying152 Tryz.underlying154 Tryz.underlying156 Tryz.underlying159 Tryz.underlying163 Tryz.underlying164 Tryz.underlying167 Tryz.underlying174 Tryz.underlying176 Tryz.underlying177 Tryz.underlying187 Tryz.underlying189 Tryz.underlying190 Tryz.underlying194 Tryz.underlying195 Tryz.underlying198 Tryz.underlying199 Tryz.underlying201
  info := tyAll (p := fun t e => ∃ i, Tryz.prog.info? t = some i ∧ i.size = e.size ∧ i.bytes = e.bytes ∧ i.zero = some e.zero) ⟨Tryz.t0, Tryz.type0, rfl, rfl, rfl⟩ ⟨Tryz.t2, Tryz.type2, rfl, rfl, rfl⟩ ⟨Tryz.t3, Tryz.type3, rfl, rfl, rfl⟩ ⟨Tryz.t4, Tryz.type4, rfl, rfl, rfl⟩ ⟨Tryz.t5, Tryz.type5, rfl, rfl, rfl⟩ ⟨Tryz.t9, Tryz.type9, rfl, rfl, rfl⟩ ⟨Tryz.t12, Tryz.type12, rfl, rfl, rfl⟩ ⟨Tryz.t20, Tryz.type20, rfl, rfl, rfl⟩ ⟨Tryz.t21, Tryz.type21, rfl, rfl, rfl⟩ ⟨Tryz.t23, Tryz.type23, rfl, rfl, rfl⟩ ⟨Tryz.t24, Tryz.type24, rfl, rfl, rfl⟩ ⟨Tryz.t29, Tryz.type29, rfl, rfl, rfl⟩ ⟨Tryz.t31, Tryz.type31, rfl, rfl, rfl⟩ ⟨Tryz.t34, Tryz.type34, rfl, rfl, rfl⟩ ⟨Tryz.t42, Tryz.type42, rfl, rfl, rfl⟩ ⟨Tryz.t45, Tryz.type45, rfl, rfl, rfl⟩ ⟨Tryz.t46, Tryz.type46, rfl, rfl, rfl⟩ ⟨Tryz.t48, Tryz.type48, rfl, rfl, rfl⟩ ⟨Tryz.t52, Tryz.type52, rfl, rfl, rfl⟩ ⟨Tryz.t55, Tryz.type55, rfl, rfl, rfl⟩ ⟨Tryz.t59, Tryz.type59, rfl, rfl, rfl⟩ ⟨Tryz.t62, Tryz.type62, rfl, rfl, rfl⟩ ⟨Tryz.t70, Tryz.type70, rfl, rfl, rfl⟩ ⟨Tryz.t74, Tryz.type74, rfl, rfl, rfl⟩ ⟨Tryz.t78, Tryz.type78, rfl, rfl, rfl⟩ ⟨Tryz.t81, Tryz.type81, rfl, rfl, rfl⟩ ⟨Tryz.t83, Tryz.type83, rfl, rfl, rfl⟩ ⟨Tryz.t85, Tryz.type85, rfl, rfl, rfl⟩ ⟨Tryz.t88, Tryz.type88, rfl, rfl, rfl⟩ ⟨Tryz.t90, Tryz.type90, rfl, rfl, rfl⟩ ⟨Tryz.t92, Tryz.type92, rfl, rfl, rfl⟩ ⟨Tryz.t94, Tryz.type94, rfl, rfl, rfl⟩ ⟨Tryz.t100, Tryz.type100, rfl, rfl, rfl⟩ ⟨Tryz.t102, Tryz.type102, rfl, rfl, rfl⟩ ⟨Tryz.t105, Tryz.type105, rfl, rfl, rfl⟩ ⟨Tryz.t108, Tryz.type108, rfl, rfl, rfl⟩ ⟨Tryz.t110, Tryz.type110, rfl, rfl, rfl⟩ ⟨Tryz.t113, Tryz.type113, rfl, rfl, rfl⟩ ⟨Tryz.t116, Tryz.type116, rfl, rfl, rfl⟩ ⟨Tryz.t118, Tryz.type118, rfl, rfl, rfl⟩ ⟨Tryz.t120, Tryz.type120, rfl, rfl, rfl⟩ ⟨Tryz.t122, Tryz.type122, rfl, rfl, rfl⟩ ⟨Tryz.t129, Tryz.type129, rfl, rfl, rfl⟩ ⟨Tryz.t131, Tryz.type131, rfl, rfl, rfl⟩ ⟨Tryz.t134, Tryz.type134, rfl, rfl, rfl⟩ ⟨Tryz.t135, Tryz.type135, rfl, rfl, rfl⟩ ⟨Tryz.t137, Tryz.type137, rfl, rfl, rfl⟩ ⟨Tryz.t139, Tryz.type139, rfl, rfl, rfl⟩ ⟨Tryz.t141, Tryz.type141, rfl, rfl, rfl⟩ ⟨Tryz.t142, Tryz.type142, rfl, rfl, rfl⟩ ⟨Tryz.t144, Tryz.type144, rfl, rfl, rfl⟩ ⟨Tryz.t147, Tryz.type147, rfl, rfl, rfl⟩ ⟨Tryz.t149, Tryz.type149, rfl, rfl, rfl⟩ ⟨Tryz.t152, Tryz.type152, rfl, rfl, rfl⟩ ⟨Tryz.t154, Tryz.type154, rfl, rfl, rfl⟩ ⟨Tryz.t156, Tryz.type156, rfl, rfl, rfl⟩ ⟨Tryz.t159, Tryz.type159, rfl, rfl, rfl⟩ ⟨Tryz.t163, Tryz.type163, rfl, rfl, rfl⟩ ⟨Tryz.t164, Tryz.type164, rfl, rfl, rfl⟩ ⟨Tryz.t167, Tryz.type167, rfl, rfl, rfl⟩ ⟨Tryz.t174, Tryz.type174, rfl, rfl, rfl⟩ ⟨Tryz.t176, Tryz.type176, rfl, rfl, rfl⟩ ⟨Tryz.t177, Tryz.type177, rfl, rfl, rfl⟩ ⟨Tryz.t187, Tryz.type187, rfl, rfl, rfl⟩ ⟨Tryz.t189, Tryz.type189, rfl, rfl, rfl⟩ ⟨Tryz.t190, Tryz.type190, rfl, rfl, rfl⟩ ⟨Tryz.t194, Tryz.type194, rfl, rfl, rfl⟩ ⟨Tryz.t195, Tryz.type195, rfl, rfl, rfl⟩ ⟨Tryz.t198, Tryz.type198, rfl, rfl, rfl⟩ ⟨Tryz.t199, Tryz.type199, rfl, rfl, rfl⟩ ⟨Tryz.t201, Tryz.type201, rfl, rfl, rfl⟩
  agg := tyAll (p := fun t e => isAggD e.und = true → ∀ x, ∃ cs, e.sh.enc x = .agg cs ∧ cs.size = e.size) (fun h => by cases h) (fun h => by cases h) (fun h => by cases h) (fun h => by cases h) (fun h => by cases h) (fun h => by cases h) (fun h => by cases h) (fun h => by cases h) (fun h => by cases h) (fun h => by cases h) (fun h => by cases h) (fun h => by cases h) (fun h => by cases h) (fun h => by cases h) (fun h => by cases h) (fun h => by cases h) (fun h => by cases h) (fun h => by cases h) (fun h => by cases h) (fun h => by cases h) (fun h => by cases h) (fun h => by cases h) (fun h => by cases h) (fun h => by cases h) (fun h => by cases h) (fun h => by cases h) (fun h => by cases h) (fun h => by cases h) (fun h => by cases h) (fun h => by cases h) (fun h => by cases h) (fun _ x => ⟨_, rfl, rfl⟩) (fun h => by cases h) (fun h => by cases h) (fun h => by cases h) (fun _ x => ⟨_, rfl, rfl⟩) (fun h => by cases h) (fun _ x => ⟨_, rfl, rfl⟩) (fun h => by cases h) (fun h => by cases h) (fun h => by cases h) (fun h => by cases h) (fun _ x => ⟨_, rfl, rfl⟩) (fun h => by cases h) (fun h => by cases h) (fun _ x => ⟨_, rfl, x.size⟩) (fun _ x => ⟨_, rfl, x.size⟩) (fun h => by cases h) (fun _ x => ⟨_, rfl, rfl⟩) (fun h => by cases h) (fun h => by cases h) (fun h => by cases h) (fun _ x => ⟨_, rfl, rfl⟩) (fun h => by cases h) (fun h => by cases h) (fun h => by cases h) (fun h => by cases h) (fun _ x => ⟨_, rfl, rfl⟩) (fun _ x => ⟨_, rfl, x.size⟩) (fun h => by cases h) (fun _ x => ⟨_, rfl, rfl⟩) (fun h => by cases h) (fun h => by cases h) (fun h => by cases h) (fun h => by cases h) (fun h => by cases h) (fun _ x => ⟨_, rfl, rfl⟩) (fun _ x => ⟨_, rfl, x.size⟩) (fun _ x => ⟨_, rfl, rfl⟩) (fun h => by cases h) (fun _ x => ⟨_, rfl, x.size⟩)
  leaf := tyAll (p := fun t e => isAggD e.und = false → e.size = 1 ∧ ∀ x, (cellsL (e.sh.enc x)).length = 1 ∧ ∀ cs, e.sh.enc x ≠ .agg cs) (fun _ => ⟨rfl, fun x => ⟨rfl, fun cs h => by cases h⟩⟩) (fun _ => ⟨rfl, fun x => ⟨rfl, fun cs h => by cases h⟩⟩) (fun _ => ⟨rfl, fun x => ⟨rfl, fun cs h => by cases h⟩⟩) (fun _ => ⟨rfl, fun x => ⟨rfl, fun cs h => by cases h⟩⟩) (fun _ => ⟨rfl, fun x => ⟨rfl, fun cs h => by cases h⟩⟩) (fun _ => ⟨rfl, fun x => ⟨rfl, fun cs h => by cases h⟩⟩) (fun _ => ⟨rfl, fun x => ⟨rfl, fun cs h => by cases h⟩⟩) (fun _ => ⟨rfl, leaf_of⟩) (fun _ => ⟨rfl, fun x => ⟨rfl, fun cs h => by cases h⟩⟩) (fun _ => ⟨rfl, fun x => ⟨rfl, fun cs h => by cases h⟩⟩) (fun _ => ⟨rfl, fun x => ⟨rfl, fun cs h => by cases h⟩⟩) (fun _ => ⟨rfl, fun x => ⟨rfl, fun cs h => by cases h⟩⟩) (fun _ => ⟨rfl, fun x => ⟨rfl, fun cs h => by cases h⟩⟩) (fun _ => ⟨rfl, fun x => ⟨rfl, fun cs h => by cases h⟩⟩) (fun _ => ⟨rfl, fun x => ⟨rfl, fun cs h => by cases h⟩⟩) (fun _ => ⟨rfl, leaf_of⟩) (fun _ => ⟨rfl, fun x => ⟨rfl, fun cs h => by cases h⟩⟩) (fun _ => ⟨rfl, fun x => ⟨rfl, fun cs h => by cases h⟩⟩) (fun _ => ⟨rfl, fun x => ⟨rfl, fun cs h => by cases h⟩⟩) (fun _ => ⟨rfl, fun x => ⟨rfl, fun cs h => by cases h⟩⟩) (fun _ => ⟨rfl, fun x => ⟨rfl, fun cs h => by cases h⟩⟩) (fun _ => ⟨rfl, fun x => ⟨rfl, fun cs h => by cases h⟩⟩) (fun _ => ⟨rfl, fun x => ⟨rfl, fun cs h => by cases h⟩⟩) (fun _ => ⟨rfl, fun x => ⟨rfl, fun cs h => by cases h⟩⟩) (fun _ => ⟨rfl, fun x => ⟨rfl, fun cs h => by cases h⟩⟩) (fun _ => ⟨rfl, fun x => ⟨rfl, fun cs h => by cases h⟩⟩) (fun _ => ⟨rfl, fun x => ⟨rfl, fun cs h => by cases h⟩⟩) (fun _ => ⟨rfl, fun x => ⟨rfl, fun cs h => by cases h⟩⟩) (fun _ => ⟨rfl, fun x => ⟨rfl, fun cs h => by cases h⟩⟩) (fun _ => ⟨rfl, fun x => ⟨rfl, fun cs h => by cases h⟩⟩) (fun _ => ⟨rfl, fun x => ⟨rfl, fun cs h => by cases h⟩⟩) (fun h => by cases h) (fun _ => ⟨rfl, fun x => ⟨rfl, fun cs h => by cases h⟩⟩) (fun _ => ⟨rfl, fun x => ⟨rfl, fun cs h => by cases h⟩⟩) (fun _ => ⟨rfl, fun x => ⟨rfl, fun cs h => by cases h⟩⟩) (fun h => by cases h) (fun _ => ⟨rfl, fun x => ⟨rfl, fun cs h => by cases h⟩⟩) (fun h => by cases h) (fun _ => ⟨rfl, fun x => ⟨rfl, fun cs h => by cases h⟩⟩) (fun _ => ⟨rfl, fun x => ⟨rfl, fun cs h => by cases h⟩⟩) (fun _ => ⟨rfl, fun x => ⟨rfl, fun cs h => by cases h⟩⟩) (fun _ => ⟨rfl, fun x => ⟨rfl, fun cs h => by cases h⟩⟩) (fun h => by cases h) (fun _ => ⟨rfl, fun x => ⟨rfl, fun cs h => by cases h⟩⟩) (fun _ => ⟨rfl, fun x => ⟨rfl, fun cs h => by cases h⟩⟩) (fun h => by cases h) (fun h => by cases h) (fun _ => ⟨rfl, fun x => ⟨rfl, fun cs h => by cases h⟩⟩) (fun h => by cases h) (fun _ => ⟨rfl, fun x => ⟨rfl, fun cs h => by cases h⟩⟩) (fun _ => ⟨rfl, fun x => ⟨rfl, fun cs h => by cases h⟩⟩) (fun _ => ⟨rfl, fun x => ⟨rfl, fun cs h => by cases h⟩⟩) (fun h => by cases h) (fun _ => ⟨rfl, fun x => ⟨rfl, fun cs h => by cases h⟩⟩) (fun _ => ⟨rfl, fun x => ⟨rfl, fun cs h => by cases h⟩⟩) (fun _ => ⟨rfl, fun x => ⟨rfl, fun cs h => by cases h⟩⟩) (fun _ => ⟨rfl, fun x => ⟨rfl, fun cs h => by cases h⟩⟩) (fun h => by cases h) (fun h => by cases h) (fun _ => ⟨rfl, leaf_of⟩) (fun h => by cases h) (fun _ => ⟨rfl, fun x => ⟨rfl, fun cs h => by cases h⟩⟩) (fun _ => ⟨rfl, fun x => ⟨rfl, fun cs h => by cases h⟩⟩) (fun _ => ⟨rfl, fun x => ⟨rfl, fun cs h => by cases h⟩⟩) (fun _ => ⟨rfl, fun x => ⟨rfl, fun cs h => by cases h⟩⟩) (fun _ => ⟨rfl, fun x => ⟨rfl, fun cs h => by cases h⟩⟩) (fun h => by cases h) (fun h => by cases h) (fun h => by cases h) (fun _ => ⟨rfl, fun x => ⟨rfl, fun cs h => by cases h⟩⟩) (fun h => by cases h)
  zlen := tyAll (p := fun t e => (cellsL e.zero).length = e.size) rfl rfl rfl rfl rfl rfl rfl rfl rfl rfl rfl rfl rfl rfl rfl rfl rfl rfl rfl rfl rfl rfl rfl rfl rfl rfl rfl rfl rfl rfl rfl rfl rfl rfl rfl rfl rfl rfl rfl rfl rfl rfl rfl rfl rfl rfl rfl rfl rfl rfl rfl rfl rfl rfl rfl rfl rfl rfl rfl rfl rfl rfl rfl rfl rfl rfl rfl rfl rfl rfl rfl
  zero8 := tyAll (p := fun t e => e.und = .int .u8 → cellsL e.zero = [.int .u8 0]) (fun h => by cases h) (fun h => by cases h) (fun h => by cases h) (fun h => by cases h) (fun _ => rfl) (fun h => by cases h) (fun h => by cases h) (fun h => by cases h) (fun h => by cases h) (fun h => by cases h) (fun h => by cases h) (fun h => by cases h) (fun h => by cases h) (fun h => by cases h) (fun h => by cases h) (fun h => by cases h) (fun h => by cases h) (fun h => by cases h) (fun h => by cases h) (fun h => by cases h) (fun h => by cases h) (fun h => by cases h) (fun h => by cases h) (fun h => by cases h) (fun h => by cases h) (fun h => by cases h) (fun h => by cases h) (fun h => by cases h) (fun h => by cases h) (fun h => by cases h) (fun h => by cases h) (fun h => by cases h) (fun h => by cases h) (fun h => by cases h) (fun h => by cases h) (fun h => by cases h) (fun h => by cases h) (fun h => by cases h) (fun h => by cases h) (fun h => by cases h) (fun h => by cases h) (fun h => by cases h) (fun h => by cases h) (fun h => by cases h) (fun h => by cases h) (fun h => by cases h) (fun h => by cases h) (fun h => by cases h) (fun h => by cases h) (fun h => by cases h) (fun h => by cases h) (fun h => by cases h) (fun h => by cases h) (fun h => by cases h) (fun h => by cases h) (fun h => by cases h) (fun h => by cases h) (fun h => by cases h) (fun h => by cases h) (fun h => by cases h) (fun h => by cases h) (fun h => by cases h) (fun h => by cases h) (fun h => by cases h) (fun h => by cases h) (fun h => by cases h) (fun h => by cases h) (fun h => by cases h) (fun h => by cases h) (fun h => by cases h) (fun h => by cases h)
  zagg := tyAll (p := fun t e => isAggD e.und = true → ∃ cs, e.zero = .agg cs) (fun h => by cases h) (fun h => by cases h) (fun h => by cases h) (fun h => by cases h) (fun h => by cases h) (fun h => by cases h) (fun h => by cases h) (fun h => by cases h) (fun h => by cases h) (fun h => by cases h) (fun h => by cases h) (fun h => by cases h) (fun h => by cases h) (fun h => by cases h) (fun h => by cases h) (fun h => by cases h) (fun h => by cases h) (fun h => by cases h) (fun h => by cases h) (fun h => by cases h) (fun h => by cases h) (fun h => by cases h) (fun h => by cases h) (fun h => by cases h) (fun h => by cases h) (fun h => by cases h) (fun h => by cases h) (fun h => by cases h) (fun h => by cases h) (fun h => by cases h) (fun h => by cases h) (fun _ => ⟨_, rfl⟩) (fun h => by cases h) (fun h => by cases h) (fun h => by cases h) (fun _ => ⟨_, rfl⟩) (fun h => by cases h) (fun _ => ⟨_, rfl⟩) (fun h => by cases h) (fun h => by cases h) (fun h => by cases h) (fun h => by cases h) (fun _ => ⟨_, rfl⟩) (fun h => by cases h) (fun h => by cases h) (fun _ => ⟨_, rfl⟩) (fun _ => ⟨_, rfl⟩) (fun h => by cases h) (fun _ => ⟨_, rfl⟩) (fun h => by cases h) (fun h => by cases h) (fun h => by cases h) (fun _ => ⟨_, rfl⟩) (fun h => by cases h) (fun h => by cases h) (fun h => by cases h) (fun h => by cases h) (fun _ => ⟨_, rfl⟩) (fun _ => ⟨_, rfl⟩) (fun h => by cases h) (fun _ => ⟨_, rfl⟩) (fun h => by cases h) (fun h => by cases h) (fun h => by cases h) (fun h => by cases h) (fun h => by cases h) (fun _ => ⟨_, rfl⟩) (fun _ => ⟨_, rfl⟩) (fun _ => ⟨_, rfl⟩) (fun h => by cases h) (fun _ => ⟨_, rfl⟩)
  call := by
    intro g h
    by_cases hlt : g < 208
    · match g, hlt, h with
      | 0, _, h => exact absurd (show false = true from h) (by simp)
      | 1, _, h => exact absurd (show false = true from h) (by simp)
      | 2, _, _ => exact Tryz.call2
      | 3, _, _ => exact Tryz.call3
      | 4, _, _ => exact Tryz.call4
      | 5, _, _ => exact Tryz.call5
      | 6, _, _ => exact Tryz.call6
      | 7, _, _ => exact Tryz.call7
      | 8, _, _ => exact Tryz.call8
      | 9, _, _ => exact Tryz.call9
      | 10, _, _ => exact Tryz.call10
      | 11, _, _ => exact Tryz.call11
      | 12, _, _ => exact Tryz.call12
      | 13, _, _ => exact Tryz.call13
      | 14, _, _ => exact Tryz.call14
      | 15, _, _ => exact Tryz.call15
      | 16, _, _ => exact Tryz.call16
      | 17, _, _ => exact Tryz.call17
      | 18, _, _ => exact Tryz.call18
      | 19, _, _ => exact Tryz.call19
      | 20, _, _ => exact Tryz.call20
      | 21, _, _ => exact Tryz.call21
      | 22, _, _ => exact Tryz.call22
      | 23, _, _ => exact Tryz.call23
      | 24, _, _ => exact Tryz.call24
      | 25, _, _ => exact Tryz.call25
      | 26, _, _ => exact Tryz.call26
      | 27, _, h => exact absurd (show false = true from h) (by simp)
      | 28, _, _ => exact Tryz.call28
      | 29, _, _ => exact Tryz.call29
      | 30, _, _ => exact Tryz.call30
      | 31, _, _ => exact Tryz.call31
      | 32, _, _ => exact Tryz.call32
      | 33, _, h => exact absurd (show false = true from h) (by simp)
      | 34, _, _ => exact Tryz.call34
      | 35, _, _ => exact Tryz.call35
      | 36, _, _ => exact Tryz.call36
      | 37, _, _ => exact Tryz.call37
      | 38, _, _ => exact Tryz.call38
      | 39, _, _ => exact Tryz.call39
      | 40, _, _ => exact Tryz.call40
      | 41, _, _ => exact Tryz.call41
      | 42, _, _ => exact Tryz.call42
      | 43, _, _ => exact Tryz.call43
      | 44, _, _ => exact Tryz.call44
      | 45, _, _ => exact Tryz.call45
      | 46, _, _ => exact Tryz.call46
      | 47, _, _ => exact Tryz.call47
      | 48, _, _ => exact Tryz.call48
      | 49, _, _ => exact Tryz.call49
      | 50, _, _ => exact Tryz.call50
      | 51, _, _ => exact Tryz.call51
      | 52, _, _ => exact Tryz.call52
      | 53, _, _ => exact Tryz.call53
      | 54, _, _ => exact Tryz.call54
      | 55, _, _ => exact Tryz.call55
      | 56, _, _ => exact Tryz.call56
      | 57, _, _ => exact Tryz.call57
      | 58, _, _ => exact Tryz.call58
      | 59, _, _ => exact Tryz.call59
      | 60, _, _ => exact Tryz.call60
      | 61, _, _ => exact Tryz.call61
      | 62, _, _ => exact Tryz.call62
      | 63, _, _ => exact Tryz.call63
      | 64, _, _ => exact Tryz.call64
      | 65, _, _ => exact Tryz.call65
      | 66, _, _ => exact Tryz.call66
      | 67, _, _ => exact Tryz.call67
      | 68, _, _ => exact Tryz.call68
      | 69, _, _ => exact Tryz.call69
      | 70, _, _ => exact Tryz.call70
      | 71, _, _ => exact Tryz.call71
      | 72, _, _ => exact Tryz.call72
      | 73, _, _ => exact Tryz.call73
      | 74, _, _ => exact Tryz.call74
      | 75, _, _ => exact Tryz.call75
      | 76, _, _ => exact Tryz.call76
      | 77, _, _ => exact Tryz.call77
      | 78, _, _ => exact Tryz.call78
      | 79, _, _ => exact Tryz.call79
      | 80, _, _ => exact Tryz.call80
      | 81, _, _ => exact Tryz.call81
      | 82, _, _ => exact Tryz.call82
      | 83, _, _ => exact Tryz.call83
      | 84, _, _ => exact Tryz.call84
      | 85, _, _ => exact Tryz.call85
      | 86, _, _ => exact Tryz.call86
      | 87, _, _ => exact Tryz.call87
      | 88, _, _ => exact Tryz.call88
      | 89, _, _ => exact Tryz.call89
      | 90, _, h => exact absurd (show false = true from h) (by simp)
      | 91, _, _ => exact Tryz.call91
      | 92, _, _ => exact Tryz.call92
      | 93, _, h => exact absurd (show false = true from h) (by simp)
      | 94, _, h => exact absurd (show false = true from h) (by simp)
      | 95, _, _ => exact Tryz.call95
      | 96, _, _ => exact Tryz.call96
      | 97, _, _ => exact Tryz.call97
      | 98, _, _ => exact Tryz.call98
      | 99, _, _ => exact Tryz.call99
      | 100, _, _ => exact Tryz.call100
      | 101, _, _ => exact Tryz.call101
      | 102, _, _ => exact Tryz.call102
      | 103, _, _ => exact Tryz.call103
      | 104, _, _ => exact Tryz.call104
      | 105, _, _ => exact Tryz.call105
      | 106, _, _ => exact Tryz.call106
      | 107, _, _ => exact Tryz.call107
      | 108, _, _ => exact Tryz.call108
      | 109, _, _ => exact Tryz.call109
      | 110, _, _ => exact Tryz.call110
      | 111, _, h => exact absurd (show false = true from h) (by simp)
      | 112, _, _ => exact Tryz.call112
      | 113, _, _ => exact Tryz.call113
      | 114, _, _ => exact Tryz.call114
      | 115, _, _ => exact Tryz.call115
      | 116, _, _ => exact Tryz.call116
      | 117, _, h => exact absurd (show false = true from h) (by simp)
      | 118, _, _ => exact Tryz.call118
      | 119, _, _ => exact Tryz.call119
      | 120, _, _ => exact Tryz.call120
      | 121, _, _ => exact Tryz.call121
      | 122, _, _ => exact Tryz.call122
      | 123, _, h => exact absurd (show false = true from h) (by simp)
      | 124, _, h => exact absurd (show false = true from h) (by simp)
      | 125, _, h => exact absurd (show false = true from h) (by simp)
      | 126, _, _ => exact Tryz.call126
      | 127, _, _ => exact Tryz.call127
      | 128, _, _ => exact Tryz.call128
      | 129, _, _ => exact Tryz.call129
      | 130, _, _ => exact Tryz.call130
      | 131, _, _ => exact Tryz.call131
      | 132, _, _ => exact Tryz.call132
      | 133, _, _ => exact Tryz.call133
      | 134, _, _ => exact Tryz.call134
      | 135, _, _ => exact Tryz.call135
      | 136, _, _ => exact Tryz.call136
      | 137, _, _ => exact Tryz.call137
      | 138, _, _ => exact Tryz.call138
      | 139, _, _ => exact Tryz.call139
      | 140, _, _ => exact Tryz.call140
      | 141, _, _ => exact Tryz.call141
      | 142, _, _ => exact Tryz.call142
      | 143, _, _ => exact Tryz.call143
      | 144, _, _ => exact Tryz.call144
      | 145, _, _ => exact Tryz.call145
      | 146, _, _ => exact Tryz.call146
      | 147, _, _ => exact Tryz.call147
      | 148, _, _ => exact Tryz.call148
      | 149, _, _ => exact Tryz.call149
      | 150, _, _ => exact Tryz.call150
      | 151, _, _ => exact Tryz.call151
      | 152, _, _ => exact Tryz.call152
      | 153, _, _ => exact Tryz.call153
      | 154, _, _ => exact Tryz.call154
      | 155, _, h => exact absurd (show false = true from h) (by simp)
      | 156, _, h => exact absurd (show false = true from h) (by simp)
      | 157, _, h => exact absurd (show false = true from h) (by simp)
      | 158, _, h => exact absurd (show false = true from h) (by simp)
      | 159, _, h => exact absurd (show false = true from h) (by simp)
      | 160, _, h => exact absurd (show false = true from h) (by simp)
      | 161, _, h => exact absurd (show false = true from h) (by simp)
      | 162, _, h => exact absurd (show false = true from h) (by simp)
      | 163, _, h => exact absurd (show false = true from h) (by simp)
      | 164, _, h => exact absurd (show false = true from h) (by simp)
      | 165, _, h => exact absurd (show false = true from h) (by simp)
      | 166, _, h => exact absurd (show false = true from h) (by simp)
      | 167, _, h => exact absurd (show false = true from h) (by simp)
      | 168, _, h => exact absurd (show false = true from h) (by simp)
      | 169, _, h => exact absurd (show false = true from h) (by simp)
      | 170, _, h => exact absurd (show false = true from h) (by simp)
      | 171, _, h => exact absurd (show false = true from h) (by simp)
      | 172, _, h => exact absurd (show false = true from h) (by simp)
      | 173, _, h => exact absurd (show false = true from h) (by simp)
      | 174, _, h => exact absurd (show false = true from h) (by simp)
      | 175, _, h => exact absurd (show false = true from h) (by simp)
      | 176, _, h => exact absurd (show false = true from h) (by simp)
      | 177, _, h => exact absurd (show false = true from h) (by simp)
      | 178, _, h => exact absurd (show false = true from h) (by simp)
      | 179, _, h => exact absurd (show false = true from h) (by simp)
      | 180, _, h => exact absurd (show false = true from h) (by simp)
      | 181, _, h => exact absurd (show false = true from h) (by simp)
      | 182, _, h => exact absurd (show false = true from h) (by simp)
      | 183, _, h => exact absurd (show false = true from h) (by simp)
      | 184, _, h => exact absurd (show false = true from h) (by simp)
      | 185, _, h => exact absurd (show false = true from h) (by simp)
      | 186, _, h => exact absurd (show false = true from h) (by simp)
      | 187, _, h => exact absurd (show false = true from h) (by simp)
      | 188, _, h => exact absurd (show false = true from h) (by simp)
      | 189, _, h => exact absurd (show false = true from h) (by simp)
      | 190, _, h => exact absurd (show false = true from h) (by simp)
      | 191, _, h => exact absurd (show false = true from h) (by simp)
      | 192, _, h => exact absurd (show false = true from h) (by simp)
      | 193, _, h => exact absurd (show false = true from h) (by simp)
      | 194, _, _ => exact Tryz.call194
      | 195, _, h => exact absurd (show false = true from h) (by simp)
      | 196, _, h => exact absurd (show false = true from h) (by simp)
      | 197, _, h => exact absurd (show false = true from h) (by simp)
      | 198, _, h => exact absurd (show false = true from h) (by simp)
      | 199, _, h => exact absurd (show false = true from h) (by simp)
      | 200, _, h => exact absurd (show false = true from h) (by simp)
      | 201, _, h => exact absurd (show false = true from h) (by simp)
      | 202, _, h => exact absurd (show false = true from h) (by simp)
      | 203, _, h => exact absurd (show false = true from h) (by simp)
      | 204, _, h => exact absurd (show false = true from h) (by simp)
      | 205, _, h => exact absurd (show false = true from h) (by simp)
      | 206, _, h => exact absurd (show false = true from h) (by simp)
      | 207, _, h => exact absurd (show false = true from h) (by simp)
      | n + 208, hlt, _ => omega
    · have hl : fnRows.length = 13 := rfl
      have : nth fnRows (g / 16) = none := nth_none (l := fnRows) (i := g / 16) (by rw [hl]; omega)
      have h : fnAt g = true := h
      unfold fnAt at h
      rw [this] at h
      cases h
  ext := by
    intro g f h args w
    have h : extAt g = some f := h
    unfold extAt at h
    cases e27 : Nat.beq g 27 with
    | true =>
      have hg : g = 27 := Nat.eq_of_beq_eq_true e27
      subst hg
      exact run_callFunc_extern Tryz.func27 (by kernel_rfl) (by kernel_rfl) (by kernel_rfl) (show _ = _ from (show _ = some _ by kernel_rfl : _ = some _).trans h) args w
    | false =>
    simp only [e27, cond_false] at h
    cases e33 : Nat.beq g 33 with
    | true =>
      have hg : g = 33 := Nat.eq_of_beq_eq_true e33
      subst hg
      exact run_callFunc_extern Tryz.func33 (by kernel_rfl) (by kernel_rfl) (by kernel_rfl) (show _ = _ from (show _ = some _ by kernel_rfl : _ = some _).trans h) args w
    | false =>
    simp only [e33, cond_false] at h
    cases e93 : Nat.beq g 93 with
    | true =>
      have hg : g = 93 := Nat.eq_of_beq_eq_true e93
      subst hg
      exact run_callFunc_extern Tryz.func93 (by kernel_rfl) (by kernel_rfl) (by kernel_rfl) (show _ = _ from (show _ = some _ by kernel_rfl : _ = some _).trans h) args w
    | false =>
    simp only [e93, cond_false] at h
    cases e94 : Nat.beq g 94 with
    | true =>
      have hg : g = 94 := Nat.eq_of_beq_eq_true e94
      subst hg
      exact run_callFunc_extern Tryz.func94 (by kernel_rfl) (by kernel_rfl) (by kernel_rfl) (show _ = _ from (show _ = some _ by kernel_rfl : _ = some _).trans h) args w
    | false =>
    simp only [e94, cond_false] at h
    cases e111 : Nat.beq g 111 with
    | true =>
      have hg : g = 111 := Nat.eq_of_beq_eq_true e111
      subst hg
      exact run_callFunc_extern Tryz.func111 (by kernel_rfl) (by kernel_rfl) (by kernel_rfl) (show _ = _ from (show _ = some _ by kernel_rfl : _ = some _).trans h) args w
    | false =>
    simp only [e111, cond_false] at h
    cases e117 : Nat.beq g 117 with
    | true =>
      have hg : g = 117 := Nat.eq_of_beq_eq_true e117
      subst hg
      exact run_callFunc_extern Tryz.func117 (by kernel_rfl) (by kernel_rfl) (by kernel_rfl) (show _ = _ from (show _ = some _ by kernel_rfl : _ = some _).trans h) args w
    | false =>
    simp only [e117, cond_false] at h
    cases e123 : Nat.beq g 123 with
    | true =>
      have hg : g = 123 := Nat.eq_of_beq_eq_true e123
      subst hg
      exact run_callFunc_extern Tryz.func123 (by kernel_rfl) (by kernel_rfl) (by kernel_rfl) (show _ = _ from (show _ = some _ by kernel_rfl : _ = some _).trans h) args w
    | false =>
    simp only [e123, cond_false] at h
    cases e125 : Nat.beq g 125 with
    | true =>
      have hg : g = 125 := Nat.eq_of_beq_eq_true e125
      subst hg
      exact run_callFunc_extern Tryz.func125 (by kernel_rfl) (by kernel_rfl) (by kernel_rfl) (show _ = _ from (show _ = some _ by kernel_rfl : _ = some _).trans h) args w
    | false =>
    simp only [e125, cond_false] at h
    cases h
  mixed := by kernel_rfl

end Lf

/-
  By program: a call does what its text tells.
-/
set_option autoImplicit false
set_option maxRecDepth 100000
namespace Lf
open Go Go.Proofs

theorem firebreaklaw05_FltNames_eq  (Q : (Bool → (Hp → Prop))) (h : Hp) : funW ⟨Tryz.prog, tb, firebreaklaw05_FltNames_p⟩ Tryz.f3 firebreaklaw05_FltNames_a [] (Q) h = firebreaklaw05_FltNames_w Tryz.prog  Q h := by kernel_rfl
theorem firebreaklaw05_FltNames_call {Q : (Bool → (Hp → Prop))} {h : Hp} (hv : firebreaklaw05_FltNames_w Tryz.prog  Q h) : CallT Tryz.prog n_firebreaklaw05_FltNames [] (shBool) Q h :=
  show CallT Tryz.prog n_firebreaklaw05_FltNames [] (shRes tb [4]) (Q) h from fun_sound (C := ⟨Tryz.prog, tb, firebreaklaw05_FltNames_p⟩) tb_ok Tryz.func3 rfl (Eq.mpr (firebreaklaw05_FltNames_eq  Q h) hv)

theorem firebreaklaw05_fixed_eq  (Q : (Bool → (Hp → Prop))) (h : Hp) : funW ⟨Tryz.prog, tb, firebreaklaw05_fixed_p⟩ Tryz.f7 firebreaklaw05_fixed_a [] (Q) h = firebreaklaw05_fixed_w Tryz.prog  Q h := by kernel_rfl
theorem firebreaklaw05_fixed_call {Q : (Bool → (Hp → Prop))} {h : Hp} (hv : firebreaklaw05_fixed_w Tryz.prog  Q h) : CallT Tryz.prog n_firebreaklaw05_fixed [] (shBool) Q h :=
  show CallT Tryz.prog n_firebreaklaw05_fixed [] (shRes tb [4]) (Q) h from fun_sound (C := ⟨Tryz.prog, tb, firebreaklaw05_fixed_p⟩) tb_ok Tryz.func7 rfl (Eq.mpr (firebreaklaw05_fixed_eq  Q h) hv)

theorem flt_Do_eq (op : Int) (b : Int) (c : Int) (Q : (Int → (Int → (Hp → Prop)))) (h : Hp) : funW ⟨Tryz.prog, tb, flt_Do_p⟩ Tryz.f8 flt_Do_a [(shInt .i64).enc op, (shInt .i64).enc b, (shInt .i64).enc c] (fun r => Q r.1 r.2) h = flt_Do_w Tryz.prog op b c Q h := by kernel_rfl
theorem flt_Do_call {op : Int} {b : Int} {c : Int} {Q : (Int → (Int → (Hp → Prop)))} {h : Hp} (hv : flt_Do_w Tryz.prog op b c Q h) : Call2 Tryz.prog n_flt_Do [(shInt .i64).enc op, (shInt .i64).enc b, (shInt .i64).enc c] (shInt .i64) (shInt .i64) Q h :=
  show CallT Tryz.prog n_flt_Do [(shInt .i64).enc op, (shInt .i64).enc b, (shInt .i64).enc c] (shRes tb [2, 23]) (fun r => Q r.1 r.2) h from fun_sound (C := ⟨Tryz.prog, tb, flt_Do_p⟩) tb_ok Tryz.func8 rfl (Eq.mpr (flt_Do_eq op b c Q h) hv)

theorem flt_Parse_eq (text : ByteArray) (Q : (Int → (Int → (Hp → Prop)))) (h : Hp) : funW ⟨Tryz.prog, tb, flt_Parse_p⟩ Tryz.f12 flt_Parse_a [(shStr).enc text] (fun r => Q r.1 r.2) h = flt_Parse_w Tryz.prog text Q h := by kernel_rfl
theorem flt_Parse_call {text : ByteArray} {Q : (Int → (Int → (Hp → Prop)))} {h : Hp} (hv : flt_Parse_w Tryz.prog text Q h) : Call2 Tryz.prog n_flt_Parse [(shStr).enc text] (shInt .i64) (shInt .i64) Q h :=
  show CallT Tryz.prog n_flt_Parse [(shStr).enc text] (shRes tb [2, 23]) (fun r => Q r.1 r.2) h from fun_sound (C := ⟨Tryz.prog, tb, flt_Parse_p⟩) tb_ok Tryz.func12 rfl (Eq.mpr (flt_Parse_eq text Q h) hv)

theorem flt_Print_eq (bits : Int) (Q : (ByteArray → (Hp → Prop))) (h : Hp) : funW ⟨Tryz.prog, tb, flt_Print_p⟩ Tryz.f13 flt_Print_a [(shInt .i64).enc bits] (Q) h = flt_Print_w Tryz.prog bits Q h := by kernel_rfl
theorem flt_Print_call {bits : Int} {Q : (ByteArray → (Hp → Prop))} {h : Hp} (hv : flt_Print_w Tryz.prog bits Q h) : CallT Tryz.prog n_flt_Print [(shInt .i64).enc bits] (shStr) Q h :=
  show CallT Tryz.prog n_flt_Print [(shInt .i64).enc bits] (shRes tb [9]) (Q) h from fun_sound (C := ⟨Tryz.prog, tb, flt_Print_p⟩) tb_ok Tryz.func13 rfl (Eq.mpr (flt_Print_eq bits Q h) hv)

theorem flt_float_eq (bits : Int) (Q : (Nat → (Hp → Prop))) (h : Hp) : funW ⟨Tryz.prog, tb, flt_float_p⟩ Tryz.f14 flt_float_a [(shInt .i64).enc bits] (Q) h = flt_float_w Tryz.prog bits Q h := by kernel_rfl
theorem flt_float_call {bits : Int} {Q : (Nat → (Hp → Prop))} {h : Hp} (hv : flt_float_w Tryz.prog bits Q h) : CallT Tryz.prog n_flt_float [(shInt .i64).enc bits] (shFlt .f64) Q h :=
  show CallT Tryz.prog n_flt_float [(shInt .i64).enc bits] (shRes tb [34]) (Q) h from fun_sound (C := ⟨Tryz.prog, tb, flt_float_p⟩) tb_ok Tryz.func14 rfl (Eq.mpr (flt_float_eq bits Q h) hv)

theorem flt_bits_eq (f : Nat) (Q : (Int → (Hp → Prop))) (h : Hp) : funW ⟨Tryz.prog, tb, flt_bits_p⟩ Tryz.f15 flt_bits_a [(shFlt .f64).enc f] (Q) h = flt_bits_w Tryz.prog f Q h := by kernel_rfl
theorem flt_bits_call {f : Nat} {Q : (Int → (Hp → Prop))} {h : Hp} (hv : flt_bits_w Tryz.prog f Q h) : CallT Tryz.prog n_flt_bits [(shFlt .f64).enc f] (shInt .i64) Q h :=
  show CallT Tryz.prog n_flt_bits [(shFlt .f64).enc f] (shRes tb [2]) (Q) h from fun_sound (C := ⟨Tryz.prog, tb, flt_bits_p⟩) tb_ok Tryz.func15 rfl (Eq.mpr (flt_bits_eq f Q h) hv)

theorem flt_whole_eq (f : Nat) (Q : (Int → (Hp → Prop))) (h : Hp) : funW ⟨Tryz.prog, tb, flt_whole_p⟩ Tryz.f16 flt_whole_a [(shFlt .f64).enc f] (Q) h = flt_whole_w Tryz.prog f Q h := by kernel_rfl
theorem flt_whole_call {f : Nat} {Q : (Int → (Hp → Prop))} {h : Hp} (hv : flt_whole_w Tryz.prog f Q h) : CallT Tryz.prog n_flt_whole [(shFlt .f64).enc f] (shInt .i64) Q h :=
  show CallT Tryz.prog n_flt_whole [(shFlt .f64).enc f] (shRes tb [2]) (Q) h from fun_sound (C := ⟨Tryz.prog, tb, flt_whole_p⟩) tb_ok Tryz.func16 rfl (Eq.mpr (flt_whole_eq f Q h) hv)

theorem strings_CutPrefix_eq (s : ByteArray) (prefix_ : ByteArray) (Q : (ByteArray → (Bool → (Hp → Prop)))) (h : Hp) : funW ⟨Tryz.prog, tb, strings_CutPrefix_p⟩ Tryz.f24 strings_CutPrefix_a [(shStr).enc s, (shStr).enc prefix_] (fun r => Q r.1 r.2) h = strings_CutPrefix_w Tryz.prog s prefix_ Q h := by kernel_rfl
theorem strings_CutPrefix_call {s : ByteArray} {prefix_ : ByteArray} {Q : (ByteArray → (Bool → (Hp → Prop)))} {h : Hp} (hv : strings_CutPrefix_w Tryz.prog s prefix_ Q h) : Call2 Tryz.prog n_strings_CutPrefix [(shStr).enc s, (shStr).enc prefix_] (shStr) (shBool) Q h :=
  show CallT Tryz.prog n_strings_CutPrefix [(shStr).enc s, (shStr).enc prefix_] (shRes tb [9, 4]) (fun r => Q r.1 r.2) h from fun_sound (C := ⟨Tryz.prog, tb, strings_CutPrefix_p⟩) tb_ok Tryz.func24 rfl (Eq.mpr (strings_CutPrefix_eq s prefix_ Q h) hv)

end Lf

/-
  By program: a call does what its text tells.
-/
set_option autoImplicit false
set_option maxRecDepth 100000
namespace Lf
open Go Go.Proofs

theorem strconv_ParseFloat_eq (s : ByteArray) (bitSize : Int) (Q : (Nat → (Leaf → (Hp → Prop)))) (h : Hp) : funW ⟨Tryz.prog, tb, strconv_ParseFloat_p⟩ Tryz.f26 strconv_ParseFloat_a [(shStr).enc s, (shInt .i64).enc bitSize] (fun r => Q r.1 r.2) h = strconv_ParseFloat_w Tryz.prog s bitSize Q h := by kernel_rfl
theorem strconv_ParseFloat_call {s : ByteArray} {bitSize : Int} {Q : (Nat → (Leaf → (Hp → Prop)))} {h : Hp} (hv : strconv_ParseFloat_w Tryz.prog s bitSize Q h) : Call2 Tryz.prog n_strconv_ParseFloat [(shStr).enc s, (shInt .i64).enc bitSize] (shFlt .f64) (shLeaf) Q h :=
  show CallT Tryz.prog n_strconv_ParseFloat [(shStr).enc s, (shInt .i64).enc bitSize] (shRes tb [34, 45]) (fun r => Q r.1 r.2) h from fun_sound (C := ⟨Tryz.prog, tb, strconv_ParseFloat_p⟩) tb_ok Tryz.func26 rfl (Eq.mpr (strconv_ParseFloat_eq s bitSize Q h) hv)

theorem strings_Cut_eq (s : ByteArray) (sep : ByteArray) (Q : (ByteArray → (ByteArray → (Bool → (Hp → Prop))))) (h : Hp) : funW ⟨Tryz.prog, tb, strings_Cut_p⟩ Tryz.f29 strings_Cut_a [(shStr).enc s, (shStr).enc sep] (fun r => Q r.1 r.2.1 r.2.2) h = strings_Cut_w Tryz.prog s sep Q h := by kernel_rfl
theorem strings_Cut_call {s : ByteArray} {sep : ByteArray} {Q : (ByteArray → (ByteArray → (Bool → (Hp → Prop))))} {h : Hp} (hv : strings_Cut_w Tryz.prog s sep Q h) : Call3 Tryz.prog n_strings_Cut [(shStr).enc s, (shStr).enc sep] (shStr) (shStr) (shBool) Q h :=
  show CallT Tryz.prog n_strings_Cut [(shStr).enc s, (shStr).enc sep] (shRes tb [9, 9, 4]) (fun r => Q r.1 r.2.1 r.2.2) h from fun_sound (C := ⟨Tryz.prog, tb, strings_Cut_p⟩) tb_ok Tryz.func29 rfl (Eq.mpr (strings_Cut_eq s sep Q h) hv)

theorem strconv_FormatFloat_eq (f : Nat) (fmt : Int) (prec : Int) (bitSize : Int) (Q : (ByteArray → (Hp → Prop))) (h : Hp) : funW ⟨Tryz.prog, tb, strconv_FormatFloat_p⟩ Tryz.f30 strconv_FormatFloat_a [(shFlt .f64).enc f, (shInt .u8).enc fmt, (shInt .i64).enc prec, (shInt .i64).enc bitSize] (Q) h = strconv_FormatFloat_w Tryz.prog f fmt prec bitSize Q h := by kernel_rfl
theorem strconv_FormatFloat_call {f : Nat} {fmt : Int} {prec : Int} {bitSize : Int} {Q : (ByteArray → (Hp → Prop))} {h : Hp} (hv : strconv_FormatFloat_w Tryz.prog f fmt prec bitSize Q h) : CallT Tryz.prog n_strconv_FormatFloat [(shFlt .f64).enc f, (shInt .u8).enc fmt, (shInt .i64).enc prec, (shInt .i64).enc bitSize] (shStr) Q h :=
  show CallT Tryz.prog n_strconv_FormatFloat [(shFlt .f64).enc f, (shInt .u8).enc fmt, (shInt .i64).enc prec, (shInt .i64).enc bitSize] (shRes tb [9]) (Q) h from fun_sound (C := ⟨Tryz.prog, tb, strconv_FormatFloat_p⟩) tb_ok Tryz.func30 rfl (Eq.mpr (strconv_FormatFloat_eq f fmt prec bitSize Q h) hv)

theorem strconv_Atoi_eq (s : ByteArray) (Q : (Int → (Leaf → (Hp → Prop)))) (h : Hp) : funW ⟨Tryz.prog, tb, strconv_Atoi_p⟩ Tryz.f31 strconv_Atoi_a [(shStr).enc s] (fun r => Q r.1 r.2) h = strconv_Atoi_w Tryz.prog s Q h := by kernel_rfl
theorem strconv_Atoi_call {s : ByteArray} {Q : (Int → (Leaf → (Hp → Prop)))} {h : Hp} (hv : strconv_Atoi_w Tryz.prog s Q h) : Call2 Tryz.prog n_strconv_Atoi [(shStr).enc s] (shInt .i64) (shLeaf) Q h :=
  show CallT Tryz.prog n_strconv_Atoi [(shStr).enc s] (shRes tb [3, 45]) (fun r => Q r.1 r.2) h from fun_sound (C := ⟨Tryz.prog, tb, strconv_Atoi_p⟩) tb_ok Tryz.func31 rfl (Eq.mpr (strconv_Atoi_eq s Q h) hv)

theorem strconv_Itoa_eq (i : Int) (Q : (ByteArray → (Hp → Prop))) (h : Hp) : funW ⟨Tryz.prog, tb, strconv_Itoa_p⟩ Tryz.f32 strconv_Itoa_a [(shInt .i64).enc i] (Q) h = strconv_Itoa_w Tryz.prog i Q h := by kernel_rfl
theorem strconv_Itoa_call {i : Int} {Q : (ByteArray → (Hp → Prop))} {h : Hp} (hv : strconv_Itoa_w Tryz.prog i Q h) : CallT Tryz.prog n_strconv_Itoa [(shInt .i64).enc i] (shStr) Q h :=
  show CallT Tryz.prog n_strconv_Itoa [(shInt .i64).enc i] (shRes tb [9]) (Q) h from fun_sound (C := ⟨Tryz.prog, tb, strconv_Itoa_p⟩) tb_ok Tryz.func32 rfl (Eq.mpr (strconv_Itoa_eq i Q h) hv)

theorem internal_stringslite_CutPrefix_eq (s : ByteArray) (prefix_ : ByteArray) (Q : (ByteArray → (Bool → (Hp → Prop)))) (h : Hp) : funW ⟨Tryz.prog, tb, internal_stringslite_CutPrefix_p⟩ Tryz.f43 internal_stringslite_CutPrefix_a [(shStr).enc s, (shStr).enc prefix_] (fun r => Q r.1 r.2) h = internal_stringslite_CutPrefix_w Tryz.prog s prefix_ Q h := by kernel_rfl
theorem internal_stringslite_CutPrefix_call {s : ByteArray} {prefix_ : ByteArray} {Q : (ByteArray → (Bool → (Hp → Prop)))} {h : Hp} (hv : internal_stringslite_CutPrefix_w Tryz.prog s prefix_ Q h) : Call2 Tryz.prog n_internal_stringslite_CutPrefix [(shStr).enc s, (shStr).enc prefix_] (shStr) (shBool) Q h :=
  show CallT Tryz.prog n_internal_stringslite_CutPrefix [(shStr).enc s, (shStr).enc prefix_] (shRes tb [9, 4]) (fun r => Q r.1 r.2) h from fun_sound (C := ⟨Tryz.prog, tb, internal_stringslite_CutPrefix_p⟩) tb_ok Tryz.func43 rfl (Eq.mpr (internal_stringslite_CutPrefix_eq s prefix_ Q h) hv)

theorem internal_strconv_ParseFloat_eq (s : ByteArray) (bitSize : Int) (Q : (Nat → (Leaf → (Hp → Prop)))) (h : Hp) : funW ⟨Tryz.prog, tb, internal_strconv_ParseFloat_p⟩ Tryz.f46 internal_strconv_ParseFloat_a [(shStr).enc s, (shInt .i64).enc bitSize] (fun r => Q r.1 r.2) h = internal_strconv_ParseFloat_w Tryz.prog s bitSize Q h := by kernel_rfl
theorem internal_strconv_ParseFloat_call {s : ByteArray} {bitSize : Int} {Q : (Nat → (Leaf → (Hp → Prop)))} {h : Hp} (hv : internal_strconv_ParseFloat_w Tryz.prog s bitSize Q h) : Call2 Tryz.prog n_internal_strconv_ParseFloat [(shStr).enc s, (shInt .i64).enc bitSize] (shFlt .f64) (shLeaf) Q h :=
  show CallT Tryz.prog n_internal_strconv_ParseFloat [(shStr).enc s, (shInt .i64).enc bitSize] (shRes tb [34, 45]) (fun r => Q r.1 r.2) h from fun_sound (C := ⟨Tryz.prog, tb, internal_strconv_ParseFloat_p⟩) tb_ok Tryz.func46 rfl (Eq.mpr (internal_strconv_ParseFloat_eq s bitSize Q h) hv)

theorem internal_stringslite_Cut_eq (s : ByteArray) (sep : ByteArray) (Q : (ByteArray → (ByteArray → (Bool → (Hp → Prop))))) (h : Hp) : funW ⟨Tryz.prog, tb, internal_stringslite_Cut_p⟩ Tryz.f49 internal_stringslite_Cut_a [(shStr).enc s, (shStr).enc sep] (fun r => Q r.1 r.2.1 r.2.2) h = internal_stringslite_Cut_w Tryz.prog s sep Q h := by kernel_rfl
theorem internal_stringslite_Cut_call {s : ByteArray} {sep : ByteArray} {Q : (ByteArray → (ByteArray → (Bool → (Hp → Prop))))} {h : Hp} (hv : internal_stringslite_Cut_w Tryz.prog s sep Q h) : Call3 Tryz.prog n_internal_stringslite_Cut [(shStr).enc s, (shStr).enc sep] (shStr) (shStr) (shBool) Q h :=
  show CallT Tryz.prog n_internal_stringslite_Cut [(shStr).enc s, (shStr).enc sep] (shRes tb [9, 9, 4]) (fun r => Q r.1 r.2.1 r.2.2) h from fun_sound (C := ⟨Tryz.prog, tb, internal_stringslite_Cut_p⟩) tb_ok Tryz.func49 rfl (Eq.mpr (internal_stringslite_Cut_eq s sep Q h) hv)

theorem internal_strconv_FormatFloat_eq (f : Nat) (fmt : Int) (prec : Int) (bitSize : Int) (Q : (ByteArray → (Hp → Prop))) (h : Hp) : funW ⟨Tryz.prog, tb, internal_strconv_FormatFloat_p⟩ Tryz.f50 internal_strconv_FormatFloat_a [(shFlt .f64).enc f, (shInt .u8).enc fmt, (shInt .i64).enc prec, (shInt .i64).enc bitSize] (Q) h = internal_strconv_FormatFloat_w Tryz.prog f fmt prec bitSize Q h := by kernel_rfl
theorem internal_strconv_FormatFloat_call {f : Nat} {fmt : Int} {prec : Int} {bitSize : Int} {Q : (ByteArray → (Hp → Prop))} {h : Hp} (hv : internal_strconv_FormatFloat_w Tryz.prog f fmt prec bitSize Q h) : CallT Tryz.prog n_internal_strconv_FormatFloat [(shFlt .f64).enc f, (shInt .u8).enc fmt, (shInt .i64).enc prec, (shInt .i64).enc bitSize] (shStr) Q h :=
  show CallT Tryz.prog n_internal_strconv_FormatFloat [(shFlt .f64).enc f, (shInt .u8).enc fmt, (shInt .i64).enc prec, (shInt .i64).enc bitSize] (shRes tb [9]) (Q) h from fun_sound (C := ⟨Tryz.prog, tb, internal_strconv_FormatFloat_p⟩) tb_ok Tryz.func50 rfl (Eq.mpr (internal_strconv_FormatFloat_eq f fmt prec bitSize Q h) hv)

theorem internal_strconv_Atoi_eq (s : ByteArray) (Q : (Int → (Leaf → (Hp → Prop)))) (h : Hp) : funW ⟨Tryz.prog, tb, internal_strconv_Atoi_p⟩ Tryz.f51 internal_strconv_Atoi_a [(shStr).enc s] (fun r => Q r.1 r.2) h = internal_strconv_Atoi_w Tryz.prog s Q h := by kernel_rfl
theorem internal_strconv_Atoi_call {s : ByteArray} {Q : (Int → (Leaf → (Hp → Prop)))} {h : Hp} (hv : internal_strconv_Atoi_w Tryz.prog s Q h) : Call2 Tryz.prog n_internal_strconv_Atoi [(shStr).enc s] (shInt .i64) (shLeaf) Q h :=
  show CallT Tryz.prog n_internal_strconv_Atoi [(shStr).enc s] (shRes tb [3, 45]) (fun r => Q r.1 r.2) h from fun_sound (C := ⟨Tryz.prog, tb, internal_strconv_Atoi_p⟩) tb_ok Tryz.func51 rfl (Eq.mpr (internal_strconv_Atoi_eq s Q h) hv)

theorem internal_strconv_Itoa_eq (i : Int) (Q : (ByteArray → (Hp → Prop))) (h : Hp) : funW ⟨Tryz.prog, tb, internal_strconv_Itoa_p⟩ Tryz.f52 internal_strconv_Itoa_a [(shInt .i64).enc i] (Q) h = internal_strconv_Itoa_w Tryz.prog i Q h := by kernel_rfl
theorem internal_strconv_Itoa_call {i : Int} {Q : (ByteArray → (Hp → Prop))} {h : Hp} (hv : internal_strconv_Itoa_w Tryz.prog i Q h) : CallT Tryz.prog n_internal_strconv_Itoa [(shInt .i64).enc i] (shStr) Q h :=
  show CallT Tryz.prog n_internal_strconv_Itoa [(shInt .i64).enc i] (shRes tb [9]) (Q) h from fun_sound (C := ⟨Tryz.prog, tb, internal_strconv_Itoa_p⟩) tb_ok Tryz.func52 rfl (Eq.mpr (internal_strconv_Itoa_eq i Q h) hv)

end Lf

/-
  By program: a call does what its text tells.
-/
set_option autoImplicit false
set_option maxRecDepth 100000
namespace Lf
open Go Go.Proofs

theorem internal_stringslite_HasPrefix_eq (s : ByteArray) (prefix_ : ByteArray) (Q : (Bool → (Hp → Prop))) (h : Hp) : funW ⟨Tryz.prog, tb, internal_stringslite_HasPrefix_p⟩ Tryz.f57 internal_stringslite_HasPrefix_a [(shStr).enc s, (shStr).enc prefix_] (Q) h = internal_stringslite_HasPrefix_w Tryz.prog s prefix_ Q h := by kernel_rfl
theorem internal_stringslite_HasPrefix_call {s : ByteArray} {prefix_ : ByteArray} {Q : (Bool → (Hp → Prop))} {h : Hp} (hv : internal_stringslite_HasPrefix_w Tryz.prog s prefix_ Q h) : CallT Tryz.prog n_internal_stringslite_HasPrefix [(shStr).enc s, (shStr).enc prefix_] (shBool) Q h :=
  show CallT Tryz.prog n_internal_stringslite_HasPrefix [(shStr).enc s, (shStr).enc prefix_] (shRes tb [4]) (Q) h from fun_sound (C := ⟨Tryz.prog, tb, internal_stringslite_HasPrefix_p⟩) tb_ok Tryz.func57 rfl (Eq.mpr (internal_stringslite_HasPrefix_eq s prefix_ Q h) hv)

theorem internal_strconv_lower_eq (c : Int) (Q : (Int → (Hp → Prop))) (h : Hp) : funW ⟨Tryz.prog, tb, internal_strconv_lower_p⟩ Tryz.f58 internal_strconv_lower_a [(shInt .u8).enc c] (Q) h = internal_strconv_lower_w Tryz.prog c Q h := by kernel_rfl
theorem internal_strconv_lower_call {c : Int} {Q : (Int → (Hp → Prop))} {h : Hp} (hv : internal_strconv_lower_w Tryz.prog c Q h) : CallT Tryz.prog n_internal_strconv_lower [(shInt .u8).enc c] (shInt .u8) Q h :=
  show CallT Tryz.prog n_internal_strconv_lower [(shInt .u8).enc c] (shRes tb [5]) (Q) h from fun_sound (C := ⟨Tryz.prog, tb, internal_strconv_lower_p⟩) tb_ok Tryz.func58 rfl (Eq.mpr (internal_strconv_lower_eq c Q h) hv)

theorem internal_strconv_parseFloatPrefix_eq (s : ByteArray) (bitSize : Int) (Q : (Nat → (Int → (Leaf → (Hp → Prop))))) (h : Hp) : funW ⟨Tryz.prog, tb, internal_strconv_parseFloatPrefix_p⟩ Tryz.f64 internal_strconv_parseFloatPrefix_a [(shStr).enc s, (shInt .i64).enc bitSize] (fun r => Q r.1 r.2.1 r.2.2) h = internal_strconv_parseFloatPrefix_w Tryz.prog s bitSize Q h := by kernel_rfl
theorem internal_strconv_parseFloatPrefix_call {s : ByteArray} {bitSize : Int} {Q : (Nat → (Int → (Leaf → (Hp → Prop))))} {h : Hp} (hv : internal_strconv_parseFloatPrefix_w Tryz.prog s bitSize Q h) : Call3 Tryz.prog n_internal_strconv_parseFloatPrefix [(shStr).enc s, (shInt .i64).enc bitSize] (shFlt .f64) (shInt .i64) (shLeaf) Q h :=
  show CallT Tryz.prog n_internal_strconv_parseFloatPrefix [(shStr).enc s, (shInt .i64).enc bitSize] (shRes tb [34, 3, 45]) (fun r => Q r.1 r.2.1 r.2.2) h from fun_sound (C := ⟨Tryz.prog, tb, internal_strconv_parseFloatPrefix_p⟩) tb_ok Tryz.func64 rfl (Eq.mpr (internal_strconv_parseFloatPrefix_eq s bitSize Q h) hv)

theorem internal_stringslite_Index_eq (s : ByteArray) (substr : ByteArray) (Q : (Int → (Hp → Prop))) (h : Hp) : funW ⟨Tryz.prog, tb, internal_stringslite_Index_p⟩ Tryz.f72 internal_stringslite_Index_a [(shStr).enc s, (shStr).enc substr] (Q) h = internal_stringslite_Index_w Tryz.prog s substr Q h := by kernel_rfl
theorem internal_stringslite_Index_call {s : ByteArray} {substr : ByteArray} {Q : (Int → (Hp → Prop))} {h : Hp} (hv : internal_stringslite_Index_w Tryz.prog s substr Q h) : CallT Tryz.prog n_internal_stringslite_Index [(shStr).enc s, (shStr).enc substr] (shInt .i64) Q h :=
  show CallT Tryz.prog n_internal_stringslite_Index [(shStr).enc s, (shStr).enc substr] (shRes tb [3]) (Q) h from fun_sound (C := ⟨Tryz.prog, tb, internal_stringslite_Index_p⟩) tb_ok Tryz.func72 rfl (Eq.mpr (internal_stringslite_Index_eq s substr Q h) hv)

theorem internal_strconv_ftoa64_eq (dst : Sl) (val : Nat) (fmt : Int) (prec : Int) (Q : (Sl → (Hp → Prop))) (h : Hp) : funW ⟨Tryz.prog, tb, internal_strconv_ftoa64_p⟩ Tryz.f74 internal_strconv_ftoa64_a [(shSl).enc dst, (shFlt .f64).enc val, (shInt .u8).enc fmt, (shInt .i64).enc prec] (Q) h = internal_strconv_ftoa64_w Tryz.prog dst val fmt prec Q h := by kernel_rfl
theorem internal_strconv_ftoa64_call {dst : Sl} {val : Nat} {fmt : Int} {prec : Int} {Q : (Sl → (Hp → Prop))} {h : Hp} (hv : internal_strconv_ftoa64_w Tryz.prog dst val fmt prec Q h) : CallT Tryz.prog n_internal_strconv_ftoa64 [(shSl).enc dst, (shFlt .f64).enc val, (shInt .u8).enc fmt, (shInt .i64).enc prec] (shSl) Q h :=
  show CallT Tryz.prog n_internal_strconv_ftoa64 [(shSl).enc dst, (shFlt .f64).enc val, (shInt .u8).enc fmt, (shInt .i64).enc prec] (shRes tb [83]) (Q) h from fun_sound (C := ⟨Tryz.prog, tb, internal_strconv_ftoa64_p⟩) tb_ok Tryz.func74 rfl (Eq.mpr (internal_strconv_ftoa64_eq dst val fmt prec Q h) hv)

theorem internal_strconv_FormatInt_eq (i : Int) (base : Int) (Q : (ByteArray → (Hp → Prop))) (h : Hp) : funW ⟨Tryz.prog, tb, internal_strconv_FormatInt_p⟩ Tryz.f76 internal_strconv_FormatInt_a [(shInt .i64).enc i, (shInt .i64).enc base] (Q) h = internal_strconv_FormatInt_w Tryz.prog i base Q h := by kernel_rfl
theorem internal_strconv_FormatInt_call {i : Int} {base : Int} {Q : (ByteArray → (Hp → Prop))} {h : Hp} (hv : internal_strconv_FormatInt_w Tryz.prog i base Q h) : CallT Tryz.prog n_internal_strconv_FormatInt [(shInt .i64).enc i, (shInt .i64).enc base] (shStr) Q h :=
  show CallT Tryz.prog n_internal_strconv_FormatInt [(shInt .i64).enc i, (shInt .i64).enc base] (shRes tb [9]) (Q) h from fun_sound (C := ⟨Tryz.prog, tb, internal_strconv_FormatInt_p⟩) tb_ok Tryz.func76 rfl (Eq.mpr (internal_strconv_FormatInt_eq i base Q h) hv)

theorem internal_strconv_atof64_eq (s : ByteArray) (Q : (Nat → (Int → (Leaf → (Hp → Prop))))) (h : Hp) : funW ⟨Tryz.prog, tb, internal_strconv_atof64_p⟩ Tryz.f80 internal_strconv_atof64_a [(shStr).enc s] (fun r => Q r.1 r.2.1 r.2.2) h = internal_strconv_atof64_w Tryz.prog s Q h := by kernel_rfl
theorem internal_strconv_atof64_call {s : ByteArray} {Q : (Nat → (Int → (Leaf → (Hp → Prop))))} {h : Hp} (hv : internal_strconv_atof64_w Tryz.prog s Q h) : Call3 Tryz.prog n_internal_strconv_atof64 [(shStr).enc s] (shFlt .f64) (shInt .i64) (shLeaf) Q h :=
  show CallT Tryz.prog n_internal_strconv_atof64 [(shStr).enc s] (shRes tb [34, 3, 45]) (fun r => Q r.1 r.2.1 r.2.2) h from fun_sound (C := ⟨Tryz.prog, tb, internal_strconv_atof64_p⟩) tb_ok Tryz.func80 rfl (Eq.mpr (internal_strconv_atof64_eq s Q h) hv)

theorem internal_strconv_small_eq (i : Int) (Q : (ByteArray → (Hp → Prop))) (h : Hp) : funW ⟨Tryz.prog, tb, internal_strconv_small_p⟩ Tryz.f81 internal_strconv_small_a [(shInt .i64).enc i] (Q) h = internal_strconv_small_w Tryz.prog i Q h := by kernel_rfl
theorem internal_strconv_small_call {i : Int} {Q : (ByteArray → (Hp → Prop))} {h : Hp} (hv : internal_strconv_small_w Tryz.prog i Q h) : CallT Tryz.prog n_internal_strconv_small [(shInt .i64).enc i] (shStr) Q h :=
  show CallT Tryz.prog n_internal_strconv_small [(shInt .i64).enc i] (shRes tb [9]) (Q) h from fun_sound (C := ⟨Tryz.prog, tb, internal_strconv_small_p⟩) tb_ok Tryz.func81 rfl (Eq.mpr (internal_strconv_small_eq i Q h) hv)

theorem internal_strconv_numDigits_eq (d : Int) (Q : (Int → (Hp → Prop))) (h : Hp) : funW ⟨Tryz.prog, tb, internal_strconv_numDigits_p⟩ Tryz.f82 internal_strconv_numDigits_a [(shInt .u64).enc d] (Q) h = internal_strconv_numDigits_w Tryz.prog d Q h := by kernel_rfl
theorem internal_strconv_numDigits_call {d : Int} {Q : (Int → (Hp → Prop))} {h : Hp} (hv : internal_strconv_numDigits_w Tryz.prog d Q h) : CallT Tryz.prog n_internal_strconv_numDigits [(shInt .u64).enc d] (shInt .i64) Q h :=
  show CallT Tryz.prog n_internal_strconv_numDigits [(shInt .u64).enc d] (shRes tb [3]) (Q) h from fun_sound (C := ⟨Tryz.prog, tb, internal_strconv_numDigits_p⟩) tb_ok Tryz.func82 rfl (Eq.mpr (internal_strconv_numDigits_eq d Q h) hv)

theorem internal_strconv_formatBase10_eq (a : Sl) (u : Int) (Q : (Hp → Prop)) (h : Hp) : funW ⟨Tryz.prog, tb, internal_strconv_formatBase10_p⟩ Tryz.f83 internal_strconv_formatBase10_a [(shSl).enc a, (shInt .u64).enc u] (fun _ => Q) h = internal_strconv_formatBase10_w Tryz.prog a u Q h := by kernel_rfl
theorem internal_strconv_formatBase10_call {a : Sl} {u : Int} {Q : (Hp → Prop)} {h : Hp} (hv : internal_strconv_formatBase10_w Tryz.prog a u Q h) : Call0 Tryz.prog n_internal_strconv_formatBase10 [(shSl).enc a, (shInt .u64).enc u] (Q) h :=
  show CallT Tryz.prog n_internal_strconv_formatBase10 [(shSl).enc a, (shInt .u64).enc u] (shRes tb []) (fun _ => Q) h from fun_sound (C := ⟨Tryz.prog, tb, internal_strconv_formatBase10_p⟩) tb_ok Tryz.func83 rfl (Eq.mpr (internal_strconv_formatBase10_eq a u Q h) hv)

theorem math_bits_Mul64_eq (x : Int) (y : Int) (Q : (Int → (Int → (Hp → Prop)))) (h : Hp) : funW ⟨Tryz.prog, tb, math_bits_Mul64_p⟩ Tryz.f86 math_bits_Mul64_a [(shInt .u64).enc x, (shInt .u64).enc y] (fun r => Q r.1 r.2) h = math_bits_Mul64_w Tryz.prog x y Q h := by kernel_rfl
theorem math_bits_Mul64_call {x : Int} {y : Int} {Q : (Int → (Int → (Hp → Prop)))} {h : Hp} (hv : math_bits_Mul64_w Tryz.prog x y Q h) : Call2 Tryz.prog n_math_bits_Mul64 [(shInt .u64).enc x, (shInt .u64).enc y] (shInt .u64) (shInt .u64) Q h :=
  show CallT Tryz.prog n_math_bits_Mul64 [(shInt .u64).enc x, (shInt .u64).enc y] (shRes tb [31, 31]) (fun r => Q r.1 r.2) h from fun_sound (C := ⟨Tryz.prog, tb, math_bits_Mul64_p⟩) tb_ok Tryz.func86 rfl (Eq.mpr (math_bits_Mul64_eq x y Q h) hv)

theorem internal_stringslite_IndexByte_eq (s : ByteArray) (c : Int) (Q : (Int → (Hp → Prop))) (h : Hp) : funW ⟨Tryz.prog, tb, internal_stringslite_IndexByte_p⟩ Tryz.f89 internal_stringslite_IndexByte_a [(shStr).enc s, (shInt .u8).enc c] (Q) h = internal_stringslite_IndexByte_w Tryz.prog s c Q h := by kernel_rfl
theorem internal_stringslite_IndexByte_call {s : ByteArray} {c : Int} {Q : (Int → (Hp → Prop))} {h : Hp} (hv : internal_stringslite_IndexByte_w Tryz.prog s c Q h) : CallT Tryz.prog n_internal_stringslite_IndexByte [(shStr).enc s, (shInt .u8).enc c] (shInt .i64) Q h :=
  show CallT Tryz.prog n_internal_stringslite_IndexByte [(shStr).enc s, (shInt .u8).enc c] (shRes tb [3]) (Q) h from fun_sound (C := ⟨Tryz.prog, tb, internal_stringslite_IndexByte_p⟩) tb_ok Tryz.func89 rfl (Eq.mpr (internal_stringslite_IndexByte_eq s c Q h) hv)

theorem internal_strconv_fmtEFG_eq (dst : Sl) (neg : Bool) (s : Sl) (dp : Int) (nd : Int) (prec : Int) (fmt : Int) (shortest : Bool) (Q : (Sl → (Hp → Prop))) (h : Hp) : funW ⟨Tryz.prog, tb, internal_strconv_fmtEFG_p⟩ Tryz.f97 internal_strconv_fmtEFG_a [(shSl).enc dst, (shBool).enc neg, (shSl).enc s, (shInt .i64).enc dp, (shInt .i64).enc nd, (shInt .i64).enc prec, (shInt .u8).enc fmt, (shBool).enc shortest] (Q) h = internal_strconv_fmtEFG_w Tryz.prog dst neg s dp nd prec fmt shortest Q h := by kernel_rfl
theorem internal_strconv_fmtEFG_call {dst : Sl} {neg : Bool} {s : Sl} {dp : Int} {nd : Int} {prec : Int} {fmt : Int} {shortest : Bool} {Q : (Sl → (Hp → Prop))} {h : Hp} (hv : internal_strconv_fmtEFG_w Tryz.prog dst neg s dp nd prec fmt shortest Q h) : CallT Tryz.prog n_internal_strconv_fmtEFG [(shSl).enc dst, (shBool).enc neg, (shSl).enc s, (shInt .i64).enc dp, (shInt .i64).enc nd, (shInt .i64).enc prec, (shInt .u8).enc fmt, (shBool).enc shortest] (shSl) Q h :=
  show CallT Tryz.prog n_internal_strconv_fmtEFG [(shSl).enc dst, (shBool).enc neg, (shSl).enc s, (shInt .i64).enc dp, (shInt .i64).enc nd, (shInt .i64).enc prec, (shInt .u8).enc fmt, (shBool).enc shortest] (shRes tb [83]) (Q) h from fun_sound (C := ⟨Tryz.prog, tb, internal_strconv_fmtEFG_p⟩) tb_ok Tryz.func97 rfl (Eq.mpr (internal_strconv_fmtEFG_eq dst neg s dp nd prec fmt shortest Q h) hv)

theorem math_bits_Len64_eq (x : Int) (Q : (Int → (Hp → Prop))) (h : Hp) : funW ⟨Tryz.prog, tb, math_bits_Len64_p⟩ Tryz.f98 math_bits_Len64_a [(shInt .u64).enc x] (Q) h = math_bits_Len64_w Tryz.prog x Q h := by kernel_rfl
theorem math_bits_Len64_call {x : Int} {Q : (Int → (Hp → Prop))} {h : Hp} (hv : math_bits_Len64_w Tryz.prog x Q h) : CallT Tryz.prog n_math_bits_Len64 [(shInt .u64).enc x] (shInt .i64) Q h :=
  show CallT Tryz.prog n_math_bits_Len64 [(shInt .u64).enc x] (shRes tb [3]) (Q) h from fun_sound (C := ⟨Tryz.prog, tb, math_bits_Len64_p⟩) tb_ok Tryz.func98 rfl (Eq.mpr (math_bits_Len64_eq x Q h) hv)

end Lf

/-
  By program: a call does what its text tells.
-/
set_option autoImplicit false
set_option maxRecDepth 100000
namespace Lf
open Go Go.Proofs

theorem internal_strconv_setDigits_eq (s : Sl) (d : Int) (p : Int) (nd : Int) (Q : (Int → (Int → (Hp → Prop)))) (h : Hp) : funW ⟨Tryz.prog, tb, internal_strconv_setDigits_p⟩ Tryz.f100 internal_strconv_setDigits_a [(shSl).enc s, (shInt .u64).enc d, (shInt .i64).enc p, (shInt .i64).enc nd] (fun r => Q r.1 r.2) h = internal_strconv_setDigits_w Tryz.prog s d p nd Q h := by kernel_rfl
theorem internal_strconv_setDigits_call {s : Sl} {d : Int} {p : Int} {nd : Int} {Q : (Int → (Int → (Hp → Prop)))} {h : Hp} (hv : internal_strconv_setDigits_w Tryz.prog s d p nd Q h) : Call2 Tryz.prog n_internal_strconv_setDigits [(shSl).enc s, (shInt .u64).enc d, (shInt .i64).enc p, (shInt .i64).enc nd] (shInt .i64) (shInt .i64) Q h :=
  show CallT Tryz.prog n_internal_strconv_setDigits [(shSl).enc s, (shInt .u64).enc d, (shInt .i64).enc p, (shInt .i64).enc nd] (shRes tb [3, 3]) (fun r => Q r.1 r.2) h from fun_sound (C := ⟨Tryz.prog, tb, internal_strconv_setDigits_p⟩) tb_ok Tryz.func100 rfl (Eq.mpr (internal_strconv_setDigits_eq s d p nd Q h) hv)

theorem internal_strconv_log10Pow2_eq (x : Int) (Q : (Int → (Hp → Prop))) (h : Hp) : funW ⟨Tryz.prog, tb, internal_strconv_log10Pow2_p⟩ Tryz.f101 internal_strconv_log10Pow2_a [(shInt .i64).enc x] (Q) h = internal_strconv_log10Pow2_w Tryz.prog x Q h := by kernel_rfl
theorem internal_strconv_log10Pow2_call {x : Int} {Q : (Int → (Hp → Prop))} {h : Hp} (hv : internal_strconv_log10Pow2_w Tryz.prog x Q h) : CallT Tryz.prog n_internal_strconv_log10Pow2 [(shInt .i64).enc x] (shInt .i64) Q h :=
  show CallT Tryz.prog n_internal_strconv_log10Pow2 [(shInt .i64).enc x] (shRes tb [3]) (Q) h from fun_sound (C := ⟨Tryz.prog, tb, internal_strconv_log10Pow2_p⟩) tb_ok Tryz.func101 rfl (Eq.mpr (internal_strconv_log10Pow2_eq x Q h) hv)

theorem internal_strconv_shortFloat_float64_eq (m : Int) (e : Int) (Q : (Int → (Int → (Hp → Prop)))) (h : Hp) : funW ⟨Tryz.prog, tb, internal_strconv_shortFloat_float64_p⟩ Tryz.f106 internal_strconv_shortFloat_float64_a [(shInt .u64).enc m, (shInt .i64).enc e] (fun r => Q r.1 r.2) h = internal_strconv_shortFloat_float64_w Tryz.prog m e Q h := by kernel_rfl
theorem internal_strconv_shortFloat_float64_call {m : Int} {e : Int} {Q : (Int → (Int → (Hp → Prop)))} {h : Hp} (hv : internal_strconv_shortFloat_float64_w Tryz.prog m e Q h) : Call2 Tryz.prog n_internal_strconv_shortFloat_float64 [(shInt .u64).enc m, (shInt .i64).enc e] (shInt .u64) (shInt .i64) Q h :=
  show CallT Tryz.prog n_internal_strconv_shortFloat_float64 [(shInt .u64).enc m, (shInt .i64).enc e] (shRes tb [31, 3]) (fun r => Q r.1 r.2) h from fun_sound (C := ⟨Tryz.prog, tb, internal_strconv_shortFloat_float64_p⟩) tb_ok Tryz.func106 rfl (Eq.mpr (internal_strconv_shortFloat_float64_eq m e Q h) hv)

theorem internal_strconv_special_eq (s : ByteArray) (Q : (Nat → (Int → (Bool → (Hp → Prop))))) (h : Hp) : funW ⟨Tryz.prog, tb, internal_strconv_special_p⟩ Tryz.f107 internal_strconv_special_a [(shStr).enc s] (fun r => Q r.1 r.2.1 r.2.2) h = internal_strconv_special_w Tryz.prog s Q h := by kernel_rfl
theorem internal_strconv_special_call {s : ByteArray} {Q : (Nat → (Int → (Bool → (Hp → Prop))))} {h : Hp} (hv : internal_strconv_special_w Tryz.prog s Q h) : Call3 Tryz.prog n_internal_strconv_special [(shStr).enc s] (shFlt .f64) (shInt .i64) (shBool) Q h :=
  show CallT Tryz.prog n_internal_strconv_special [(shStr).enc s] (shRes tb [34, 3, 4]) (fun r => Q r.1 r.2.1 r.2.2) h from fun_sound (C := ⟨Tryz.prog, tb, internal_strconv_special_p⟩) tb_ok Tryz.func107 rfl (Eq.mpr (internal_strconv_special_eq s Q h) hv)

theorem internal_strconv_readFloat_eq (s : ByteArray) (Q : (Int → (Int → (Bool → (Bool → (Bool → (Int → (Bool → (Hp → Prop))))))))) (h : Hp) : funW ⟨Tryz.prog, tb, internal_strconv_readFloat_p⟩ Tryz.f108 internal_strconv_readFloat_a [(shStr).enc s] (fun r => Q r.1 r.2.1 r.2.2.1 r.2.2.2.1 r.2.2.2.2.1 r.2.2.2.2.2.1 r.2.2.2.2.2.2) h = internal_strconv_readFloat_w Tryz.prog s Q h := by kernel_rfl
theorem internal_strconv_readFloat_call {s : ByteArray} {Q : (Int → (Int → (Bool → (Bool → (Bool → (Int → (Bool → (Hp → Prop))))))))} {h : Hp} (hv : internal_strconv_readFloat_w Tryz.prog s Q h) : Call7 Tryz.prog n_internal_strconv_readFloat [(shStr).enc s] (shInt .u64) (shInt .i64) (shBool) (shBool) (shBool) (shInt .i64) (shBool) Q h :=
  show CallT Tryz.prog n_internal_strconv_readFloat [(shStr).enc s] (shRes tb [31, 3, 4, 4, 4, 3, 4]) (fun r => Q r.1 r.2.1 r.2.2.1 r.2.2.2.1 r.2.2.2.2.1 r.2.2.2.2.2.1 r.2.2.2.2.2.2) h from fun_sound (C := ⟨Tryz.prog, tb, internal_strconv_readFloat_p⟩) tb_ok Tryz.func108 rfl (Eq.mpr (internal_strconv_readFloat_eq s Q h) hv)

theorem internal_strconv_bool2_uint64_eq (b : Bool) (Q : (Int → (Hp → Prop))) (h : Hp) : funW ⟨Tryz.prog, tb, internal_strconv_bool2_uint64_p⟩ Tryz.f116 internal_strconv_bool2_uint64_a [(shBool).enc b] (Q) h = internal_strconv_bool2_uint64_w Tryz.prog b Q h := by kernel_rfl
theorem internal_strconv_bool2_uint64_call {b : Bool} {Q : (Int → (Hp → Prop))} {h : Hp} (hv : internal_strconv_bool2_uint64_w Tryz.prog b Q h) : CallT Tryz.prog n_internal_strconv_bool2_uint64 [(shBool).enc b] (shInt .u64) Q h :=
  show CallT Tryz.prog n_internal_strconv_bool2_uint64 [(shBool).enc b] (shRes tb [31]) (Q) h from fun_sound (C := ⟨Tryz.prog, tb, internal_strconv_bool2_uint64_p⟩) tb_ok Tryz.func116 rfl (Eq.mpr (internal_strconv_bool2_uint64_eq b Q h) hv)

theorem internal_strconv_atof64exact_eq (mantissa : Int) (exp : Int) (neg : Bool) (Q : (Nat → (Bool → (Hp → Prop)))) (h : Hp) : funW ⟨Tryz.prog, tb, internal_strconv_atof64exact_p⟩ Tryz.f118 internal_strconv_atof64exact_a [(shInt .u64).enc mantissa, (shInt .i64).enc exp, (shBool).enc neg] (fun r => Q r.1 r.2) h = internal_strconv_atof64exact_w Tryz.prog mantissa exp neg Q h := by kernel_rfl
theorem internal_strconv_atof64exact_call {mantissa : Int} {exp : Int} {neg : Bool} {Q : (Nat → (Bool → (Hp → Prop)))} {h : Hp} (hv : internal_strconv_atof64exact_w Tryz.prog mantissa exp neg Q h) : Call2 Tryz.prog n_internal_strconv_atof64exact [(shInt .u64).enc mantissa, (shInt .i64).enc exp, (shBool).enc neg] (shFlt .f64) (shBool) Q h :=
  show CallT Tryz.prog n_internal_strconv_atof64exact [(shInt .u64).enc mantissa, (shInt .i64).enc exp, (shBool).enc neg] (shRes tb [34, 4]) (fun r => Q r.1 r.2) h from fun_sound (C := ⟨Tryz.prog, tb, internal_strconv_atof64exact_p⟩) tb_ok Tryz.func118 rfl (Eq.mpr (internal_strconv_atof64exact_eq mantissa exp neg Q h) hv)

theorem internal_strconv_bool2_int_eq (b : Bool) (Q : (Int → (Hp → Prop))) (h : Hp) : funW ⟨Tryz.prog, tb, internal_strconv_bool2_int_p⟩ Tryz.f120 internal_strconv_bool2_int_a [(shBool).enc b] (Q) h = internal_strconv_bool2_int_w Tryz.prog b Q h := by kernel_rfl
theorem internal_strconv_bool2_int_call {b : Bool} {Q : (Int → (Hp → Prop))} {h : Hp} (hv : internal_strconv_bool2_int_w Tryz.prog b Q h) : CallT Tryz.prog n_internal_strconv_bool2_int [(shBool).enc b] (shInt .i64) Q h :=
  show CallT Tryz.prog n_internal_strconv_bool2_int [(shBool).enc b] (shRes tb [3]) (Q) h from fun_sound (C := ⟨Tryz.prog, tb, internal_strconv_bool2_int_p⟩) tb_ok Tryz.func120 rfl (Eq.mpr (internal_strconv_bool2_int_eq b Q h) hv)

theorem internal_strconv_skewed_eq (e : Int) (Q : (Int → (Hp → Prop))) (h : Hp) : funW ⟨Tryz.prog, tb, internal_strconv_skewed_p⟩ Tryz.f129 internal_strconv_skewed_a [(shInt .i64).enc e] (Q) h = internal_strconv_skewed_w Tryz.prog e Q h := by kernel_rfl
theorem internal_strconv_skewed_call {e : Int} {Q : (Int → (Hp → Prop))} {h : Hp} (hv : internal_strconv_skewed_w Tryz.prog e Q h) : CallT Tryz.prog n_internal_strconv_skewed [(shInt .i64).enc e] (shInt .i64) Q h :=
  show CallT Tryz.prog n_internal_strconv_skewed [(shInt .i64).enc e] (shRes tb [3]) (Q) h from fun_sound (C := ⟨Tryz.prog, tb, internal_strconv_skewed_p⟩) tb_ok Tryz.func129 rfl (Eq.mpr (internal_strconv_skewed_eq e Q h) hv)

theorem internal_strconv_prescale_eq (pre : Option Addr) (e : Int) (p : Int) (lp : Int) (Q : (Hp → Prop)) (h : Hp) : funW ⟨Tryz.prog, tb, internal_strconv_prescale_p⟩ Tryz.f130 internal_strconv_prescale_a [(shPtr).enc pre, (shInt .i64).enc e, (shInt .i64).enc p, (shInt .i64).enc lp] (fun _ => Q) h = internal_strconv_prescale_w Tryz.prog pre e p lp Q h := by kernel_rfl
theorem internal_strconv_prescale_call {pre : Option Addr} {e : Int} {p : Int} {lp : Int} {Q : (Hp → Prop)} {h : Hp} (hv : internal_strconv_prescale_w Tryz.prog pre e p lp Q h) : Call0 Tryz.prog n_internal_strconv_prescale [(shPtr).enc pre, (shInt .i64).enc e, (shInt .i64).enc p, (shInt .i64).enc lp] (Q) h :=
  show CallT Tryz.prog n_internal_strconv_prescale [(shPtr).enc pre, (shInt .i64).enc e, (shInt .i64).enc p, (shInt .i64).enc lp] (shRes tb []) (fun _ => Q) h from fun_sound (C := ⟨Tryz.prog, tb, internal_strconv_prescale_p⟩) tb_ok Tryz.func130 rfl (Eq.mpr (internal_strconv_prescale_eq pre e p lp Q h) hv)

theorem internal_strconv_log2Pow10_eq (x : Int) (Q : (Int → (Hp → Prop))) (h : Hp) : funW ⟨Tryz.prog, tb, internal_strconv_log2Pow10_p⟩ Tryz.f131 internal_strconv_log2Pow10_a [(shInt .i64).enc x] (Q) h = internal_strconv_log2Pow10_w Tryz.prog x Q h := by kernel_rfl
theorem internal_strconv_log2Pow10_call {x : Int} {Q : (Int → (Hp → Prop))} {h : Hp} (hv : internal_strconv_log2Pow10_w Tryz.prog x Q h) : CallT Tryz.prog n_internal_strconv_log2Pow10 [(shInt .i64).enc x] (shInt .i64) Q h :=
  show CallT Tryz.prog n_internal_strconv_log2Pow10 [(shInt .i64).enc x] (shRes tb [3]) (Q) h from fun_sound (C := ⟨Tryz.prog, tb, internal_strconv_log2Pow10_p⟩) tb_ok Tryz.func131 rfl (Eq.mpr (internal_strconv_log2Pow10_eq x Q h) hv)

theorem internal_strconv_uscale_eq (x : Int) (c : Option Addr) (Q : (Int → (Hp → Prop))) (h : Hp) : funW ⟨Tryz.prog, tb, internal_strconv_uscale_p⟩ Tryz.f132 internal_strconv_uscale_a [(shInt .u64).enc x, (shPtr).enc c] (Q) h = internal_strconv_uscale_w Tryz.prog x c Q h := by kernel_rfl
theorem internal_strconv_uscale_call {x : Int} {c : Option Addr} {Q : (Int → (Hp → Prop))} {h : Hp} (hv : internal_strconv_uscale_w Tryz.prog x c Q h) : CallT Tryz.prog n_internal_strconv_uscale [(shInt .u64).enc x, (shPtr).enc c] (shInt .u64) Q h :=
  show CallT Tryz.prog n_internal_strconv_uscale [(shInt .u64).enc x, (shPtr).enc c] (shRes tb [177]) (Q) h from fun_sound (C := ⟨Tryz.prog, tb, internal_strconv_uscale_p⟩) tb_ok Tryz.func132 rfl (Eq.mpr (internal_strconv_uscale_eq x c Q h) hv)

theorem internal_strconv_unrounded_nudge_eq (u : Int) (x : Int) (Q : (Int → (Hp → Prop))) (h : Hp) : funW ⟨Tryz.prog, tb, internal_strconv_unrounded_nudge_p⟩ Tryz.f133 internal_strconv_unrounded_nudge_a [(shInt .u64).enc u, (shInt .i64).enc x] (Q) h = internal_strconv_unrounded_nudge_w Tryz.prog u x Q h := by kernel_rfl
theorem internal_strconv_unrounded_nudge_call {u : Int} {x : Int} {Q : (Int → (Hp → Prop))} {h : Hp} (hv : internal_strconv_unrounded_nudge_w Tryz.prog u x Q h) : CallT Tryz.prog n_internal_strconv_unrounded_nudge [(shInt .u64).enc u, (shInt .i64).enc x] (shInt .u64) Q h :=
  show CallT Tryz.prog n_internal_strconv_unrounded_nudge [(shInt .u64).enc u, (shInt .i64).enc x] (shRes tb [177]) (Q) h from fun_sound (C := ⟨Tryz.prog, tb, internal_strconv_unrounded_nudge_p⟩) tb_ok Tryz.func133 rfl (Eq.mpr (internal_strconv_unrounded_nudge_eq u x Q h) hv)

theorem internal_strconv_unrounded_ceil_eq (u : Int) (Q : (Int → (Hp → Prop))) (h : Hp) : funW ⟨Tryz.prog, tb, internal_strconv_unrounded_ceil_p⟩ Tryz.f134 internal_strconv_unrounded_ceil_a [(shInt .u64).enc u] (Q) h = internal_strconv_unrounded_ceil_w Tryz.prog u Q h := by kernel_rfl
theorem internal_strconv_unrounded_ceil_call {u : Int} {Q : (Int → (Hp → Prop))} {h : Hp} (hv : internal_strconv_unrounded_ceil_w Tryz.prog u Q h) : CallT Tryz.prog n_internal_strconv_unrounded_ceil [(shInt .u64).enc u] (shInt .u64) Q h :=
  show CallT Tryz.prog n_internal_strconv_unrounded_ceil [(shInt .u64).enc u] (shRes tb [31]) (Q) h from fun_sound (C := ⟨Tryz.prog, tb, internal_strconv_unrounded_ceil_p⟩) tb_ok Tryz.func134 rfl (Eq.mpr (internal_strconv_unrounded_ceil_eq u Q h) hv)

theorem internal_strconv_unrounded_floor_eq (u : Int) (Q : (Int → (Hp → Prop))) (h : Hp) : funW ⟨Tryz.prog, tb, internal_strconv_unrounded_floor_p⟩ Tryz.f135 internal_strconv_unrounded_floor_a [(shInt .u64).enc u] (Q) h = internal_strconv_unrounded_floor_w Tryz.prog u Q h := by kernel_rfl
theorem internal_strconv_unrounded_floor_call {u : Int} {Q : (Int → (Hp → Prop))} {h : Hp} (hv : internal_strconv_unrounded_floor_w Tryz.prog u Q h) : CallT Tryz.prog n_internal_strconv_unrounded_floor [(shInt .u64).enc u] (shInt .u64) Q h :=
  show CallT Tryz.prog n_internal_strconv_unrounded_floor [(shInt .u64).enc u] (shRes tb [31]) (Q) h from fun_sound (C := ⟨Tryz.prog, tb, internal_strconv_unrounded_floor_p⟩) tb_ok Tryz.func135 rfl (Eq.mpr (internal_strconv_unrounded_floor_eq u Q h) hv)

theorem internal_strconv_unrounded_round_eq (u : Int) (Q : (Int → (Hp → Prop))) (h : Hp) : funW ⟨Tryz.prog, tb, internal_strconv_unrounded_round_p⟩ Tryz.f136 internal_strconv_unrounded_round_a [(shInt .u64).enc u] (Q) h = internal_strconv_unrounded_round_w Tryz.prog u Q h := by kernel_rfl
theorem internal_strconv_unrounded_round_call {u : Int} {Q : (Int → (Hp → Prop))} {h : Hp} (hv : internal_strconv_unrounded_round_w Tryz.prog u Q h) : CallT Tryz.prog n_internal_strconv_unrounded_round [(shInt .u64).enc u] (shInt .u64) Q h :=
  show CallT Tryz.prog n_internal_strconv_unrounded_round [(shInt .u64).enc u] (shRes tb [31]) (Q) h from fun_sound (C := ⟨Tryz.prog, tb, internal_strconv_unrounded_round_p⟩) tb_ok Tryz.func136 rfl (Eq.mpr (internal_strconv_unrounded_round_eq u Q h) hv)

end Lf

/-
  By program: a call does what its text tells.
-/
set_option autoImplicit false
set_option maxRecDepth 100000
namespace Lf
open Go Go.Proofs

theorem internal_strconv_commonPrefixLenIgnoreCase_eq (s : ByteArray) (prefix_ : ByteArray) (Q : (Int → (Hp → Prop))) (h : Hp) : funW ⟨Tryz.prog, tb, internal_strconv_commonPrefixLenIgnoreCase_p⟩ Tryz.f145 internal_strconv_commonPrefixLenIgnoreCase_a [(shStr).enc s, (shStr).enc prefix_] (Q) h = internal_strconv_commonPrefixLenIgnoreCase_w Tryz.prog s prefix_ Q h := by kernel_rfl
theorem internal_strconv_commonPrefixLenIgnoreCase_call {s : ByteArray} {prefix_ : ByteArray} {Q : (Int → (Hp → Prop))} {h : Hp} (hv : internal_strconv_commonPrefixLenIgnoreCase_w Tryz.prog s prefix_ Q h) : CallT Tryz.prog n_internal_strconv_commonPrefixLenIgnoreCase [(shStr).enc s, (shStr).enc prefix_] (shInt .i64) Q h :=
  show CallT Tryz.prog n_internal_strconv_commonPrefixLenIgnoreCase [(shStr).enc s, (shStr).enc prefix_] (shRes tb [3]) (Q) h from fun_sound (C := ⟨Tryz.prog, tb, internal_strconv_commonPrefixLenIgnoreCase_p⟩) tb_ok Tryz.func145 rfl (Eq.mpr (internal_strconv_commonPrefixLenIgnoreCase_eq s prefix_ Q h) hv)

end Lf



/-
  Whole numbers and floats: what an instruction makes of two.
-/
set_option autoImplicit false
namespace Lf
open Go Go.Proofs

abbrev f64 : FloatKind := .f64

def oneP (b : Bool) : Int := if b then 1 else 0

def nanP : Int := 9221120237041090560
def isNaN (f : Nat) : Bool := f64.format.order f f != some .eq
def bitsP (f : Nat) : Int := if isNaN f then nanP else IntKind.wrap .i64 (f : Int)
def resP : Option Nat → Int
  | some r => bitsP r
  | none => nanP
def floatP (b : Int) : Nat := (IntKind.wrap .u64 b).toNat
def wholeP (f : Nat) : Int :=
  if isNaN f then 0
  else if f64.format.order f 4890909195324358656 = some .gt ∨ f64.format.order f 4890909195324358656 = some .eq then 9223372036854775807
  else if f64.format.order f 14114281232179134464 = some .lt then -9223372036854775808
  else ((f64.decode f).toInt .zero).getD 0

def fltP (op b c : Int) : Int :=
  if op = 15 then resP (f64.format.add (floatP b) (floatP c))
  else if op = 16 then resP (f64.format.sub (floatP b) (floatP c))
  else if op = 17 then resP (f64.format.mul (floatP b) (floatP c))
  else if op = 18 then resP (f64.format.div (floatP b) (floatP c))
  else if op = 19 then oneP (f64.format.order (floatP b) (floatP c) == some .lt)
  else if op = 20 then bitsP (f64.nearest b)
  else if op = 21 then wholeP (floatP b)
  else 0

section
variable {P : Program} {h : Hp}

theorem nan_cut (x y t : Nat) : isNaN ((Question.nanBits .f64 x y).cut t) = true := by
  have key : ∀ s z : Nat, s < 2 → z < 2 ^ 52 - 1 → isNaN (s * 2 ^ 63 + 0x7ff0000000000000 + 1 + z) = true := by
    intro s z hs hz
    have e1 : (s * 2 ^ 63 + 0x7ff0000000000000 + 1 + z) % Ieee.double.signWeight = 0x7ff0000000000000 + 1 + z := by
      show (s * 2 ^ 63 + 0x7ff0000000000000 + 1 + z) % 9223372036854775808 = _
      omega
    have e2 : Ieee.double.read (s * 2 ^ 63 + 0x7ff0000000000000 + 1 + z) = .nan ((s * 2 ^ 63 + 0x7ff0000000000000 + 1 + z) / Ieee.double.signWeight % 2 == 1) (1 + z) := by
      unfold Ieee.Format.read
      rw [e1]
      have b1 : Ieee.double.binade = 4503599627370496 := rfl
      have b2 : Ieee.double.infRung = 9218868437227405312 := rfl
      dsimp only
      rw [b1, b2, if_neg (by omega), if_neg (by omega), if_neg (by omega), show 0x7ff0000000000000 + 1 + z - 9218868437227405312 = 1 + z by omega]
    unfold isNaN
    show ((Ieee.double.read _).order (Ieee.double.read _) != some .eq) = true
    rw [e2]
    rfl
  have := key (t % 2) ((t / 2) % (2 ^ 52 - 1)) (by omega) (Nat.mod_lt _ (by decide))
  exact this
end
end Lf

/-
  Floats: which is below, whole numbers, and all instructions.
-/
set_option autoImplicit false
namespace Lf
open Ieee Go

/-- Where a float stands among all. -/
def rzD (w : Nat) : Int := if negD w then -((w % 9223372036854775808 : Nat) : Int) else ((w % 9223372036854775808 : Nat) : Int)
def valD (r : Nat) : Nat := partsM r * 2 ^ (partsE r + 1074).toNat

theorem val_lt {r s : Nat} (h : r < s) : valD r < valD s := by
  unfold valD partsM partsE
  by_cases h1 : s < 4503599627370496
  · rw [if_pos (show r < 4503599627370496 by omega), if_pos (show r < 4503599627370496 by omega), if_pos h1, if_pos h1]
    simpa using h
  · rw [if_neg h1, if_neg h1]
    have e2 : (((s / 4503599627370496 : Nat) : Int) - 1075 + 1074).toNat = s / 4503599627370496 - 1 := by omega
    rw [e2]
    by_cases h2 : r < 4503599627370496
    · rw [if_pos h2, if_pos h2]
      have := Nat.two_pow_pos (s / 4503599627370496 - 1)
      have h3 : (s % 4503599627370496 + 4503599627370496) * 1 ≤ (s % 4503599627370496 + 4503599627370496) * 2 ^ (s / 4503599627370496 - 1) := Nat.mul_le_mul_left _ this
      show r * 1 < _
      omega
    · rw [if_neg h2, if_neg h2, show (((r / 4503599627370496 : Nat) : Int) - 1075 + 1074).toNat = r / 4503599627370496 - 1 by omega]
      by_cases h3 : r / 4503599627370496 = s / 4503599627370496
      · rw [h3]
        exact Nat.mul_lt_mul_of_pos_right (by omega) (Nat.two_pow_pos _)
      · have h4 : r / 4503599627370496 - 1 + 1 ≤ s / 4503599627370496 - 1 := by omega
        have h5 : 2 ^ (r / 4503599627370496 - 1 + 1) ≤ 2 ^ (s / 4503599627370496 - 1) := Nat.pow_le_pow_right (by decide) h4
        rw [Nat.pow_succ] at h5
        have h6 : (r % 4503599627370496 + 4503599627370496) * 2 ^ (r / 4503599627370496 - 1) < (2 * 4503599627370496) * 2 ^ (r / 4503599627370496 - 1) := Nat.mul_lt_mul_of_pos_right (by omega) (Nat.two_pow_pos _)
        have h7 : 4503599627370496 * (2 ^ (r / 4503599627370496 - 1) * 2) ≤ (s % 4503599627370496 + 4503599627370496) * 2 ^ (s / 4503599627370496 - 1) := Nat.mul_le_mul (by omega) h5
        have h8 : (2 * 4503599627370496) * 2 ^ (r / 4503599627370496 - 1) = 4503599627370496 * (2 ^ (r / 4503599627370496 - 1) * 2) := by omega
        omega

theorem cmpZ {x y X Y : Int} (h1 : x < y ↔ X < Y) (h2 : x = y ↔ X = Y) : compare x y = compare X Y := by
  show compareOfLessAndEq x y = compareOfLessAndEq X Y
  unfold compareOfLessAndEq
  simp only [h1, h2]

theorem order_eq {a b : Nat} (ha : a < 18446744073709551616) (hb : b < 18446744073709551616) (na : ¬ 9218868437227405312 < a % 9223372036854775808) (nb : ¬ 9218868437227405312 < b % 9223372036854775808) : dbl.order a b = some (compare (rzD a) (rzD b)) := by
  unfold Format.order
  have lt_ : ∀ {x y : Int}, x < y → compare x y = .lt := fun {x y} h => by show compareOfLessAndEq x y = _; unfold compareOfLessAndEq; rw [if_pos h]
  have gt_ : ∀ {x y : Int}, y < x → compare x y = .gt := fun {x y} h => by show compareOfLessAndEq x y = _; unfold compareOfLessAndEq; rw [if_neg (by omega), if_neg (by omega)]
  have eq_ : ∀ {x y : Int}, x = y → compare x y = .eq := fun {x y} h => by show compareOfLessAndEq x y = _; unfold compareOfLessAndEq; rw [if_neg (by omega), if_pos h]
  by_cases ia : a % 9223372036854775808 = 9218868437227405312
  · rw [read_inf ha ia]
    by_cases ib : b % 9223372036854775808 = 9218868437227405312
    · rw [read_inf hb ib]
      unfold rzD
      rw [ia, ib]
      cases negD a <;> cases negD b <;> rfl
    · rw [read_num hb (by omega)]
      unfold rzD
      rw [ia]
      have e1 : (Datum.infinity (negD a)).order (.number (negD b) (partsM (b % 9223372036854775808)) (partsE (b % 9223372036854775808))) = some (if negD a then .lt else .gt) := rfl
      rw [e1]
      cases negD a
      · rw [gt_ (by cases negD b <;> simp <;> omega)]; rfl
      · rw [lt_ (by cases negD b <;> simp <;> omega)]; rfl
  · rw [read_num ha (by omega)]
    by_cases ib : b % 9223372036854775808 = 9218868437227405312
    · rw [read_inf hb ib]
      unfold rzD
      rw [ib]
      have e1 : (Datum.number (negD a) (partsM (a % 9223372036854775808)) (partsE (a % 9223372036854775808))).order (.infinity (negD b)) = some (if negD b then .gt else .lt) := rfl
      rw [e1]
      cases negD b
      · rw [lt_ (by cases negD a <;> simp <;> omega)]; rfl
      · rw [gt_ (by cases negD a <;> simp <;> omega)]; rfl
    · rw [read_num hb (by omega)]
      have e1 : ∀ {s m i t n j}, (Datum.number s m i).order (.number t n j) = some (compare (signed s m (i - min i j).toNat) (signed t n (j - min i j).toNat)) := rfl
      rw [e1, signed_eq, signed_eq]
      unfold rzD
      have hva : partsM (a % 9223372036854775808) * 2 ^ (partsE (a % 9223372036854775808) - min (partsE (a % 9223372036854775808)) (partsE (b % 9223372036854775808))).toNat * 2 ^ (min (partsE (a % 9223372036854775808)) (partsE (b % 9223372036854775808)) + 1074).toNat = valD (a % 9223372036854775808) := by
        unfold valD
        have h1 : -1074 ≤ partsE (a % 9223372036854775808) := by unfold partsE; split <;> omega
        have h2 : -1074 ≤ partsE (b % 9223372036854775808) := by unfold partsE; split <;> omega
        rw [Nat.mul_assoc, ← Nat.pow_add]
        congr 2
        omega
      have hvb : partsM (b % 9223372036854775808) * 2 ^ (partsE (b % 9223372036854775808) - min (partsE (a % 9223372036854775808)) (partsE (b % 9223372036854775808))).toNat * 2 ^ (min (partsE (a % 9223372036854775808)) (partsE (b % 9223372036854775808)) + 1074).toNat = valD (b % 9223372036854775808) := by
        unfold valD
        have h1 : -1074 ≤ partsE (a % 9223372036854775808) := by unfold partsE; split <;> omega
        have h2 : -1074 ≤ partsE (b % 9223372036854775808) := by unfold partsE; split <;> omega
        rw [Nat.mul_assoc, ← Nat.pow_add]
        congr 2
        omega
      have hP := Nat.two_pow_pos (min (partsE (a % 9223372036854775808)) (partsE (b % 9223372036854775808)) + 1074).toNat
      have hz : ∀ {r x P : Nat}, x * P = valD r → 0 < P → (x = 0 ↔ r = 0) := fun {r x P} h hp => by
        constructor
        · intro e
          subst e
          rw [Nat.zero_mul] at h
          refine Classical.byContradiction fun hr => ?_
          have := val_lt (r := 0) (s := r) (by omega)
          omega
        · intro e
          subst e
          have : valD 0 = 0 := by unfold valD partsM; simp
          rw [this] at h
          rcases Nat.mul_eq_zero.1 h with h | h <;> omega
      generalize 2 ^ (min (partsE (a % 9223372036854775808)) (partsE (b % 9223372036854775808)) + 1074).toNat = P at *
      generalize partsM (a % 9223372036854775808) * 2 ^ (partsE (a % 9223372036854775808) - min (partsE (a % 9223372036854775808)) (partsE (b % 9223372036854775808))).toNat = x at *
      generalize partsM (b % 9223372036854775808) * 2 ^ (partsE (b % 9223372036854775808) - min (partsE (a % 9223372036854775808)) (partsE (b % 9223372036854775808))).toNat = y at *
      generalize a % 9223372036854775808 = r at *
      generalize b % 9223372036854775808 = s at *
      have hlt : ∀ {r s x y : Nat}, x * P = valD r → y * P = valD s → (x < y ↔ r < s) := fun {r s x y} h1 h2 => by
        constructor
        · intro h
          have h3 : x * P < y * P := Nat.mul_lt_mul_of_pos_right h hP
          rw [h1, h2] at h3
          rcases Nat.lt_trichotomy r s with h4 | h4 | h4
          · exact h4
          · subst h4; omega
          · have := val_lt h4; omega
        · intro h
          have h3 := val_lt h
          rw [← h1, ← h2] at h3
          exact Nat.lt_of_mul_lt_mul_right h3
      have l1 := hlt hva hvb
      have l2 := hlt hvb hva
      have z1 := hz hva hP
      have z2 := hz hvb hP
      congr 1
      refine cmpZ ?_ ?_ <;> cases negD a <;> cases negD b <;> simp only [Bool.false_eq_true, if_true, if_false, reduceIte] <;> omega

theorem isNaN_eq {w : Nat} (h : w < 18446744073709551616) : isNaN w = isNaND w := by
  unfold isNaN isNaND
  show (dbl.order w w != some .eq) = _
  by_cases hn : 9218868437227405312 < w % 9223372036854775808
  · rw [decide_eq_true hn]
    unfold Format.order
    rw [read_nan h hn]
    rfl
  · rw [order_eq h h hn hn, decide_eq_false hn, show compare (rzD w) (rzD w) = .eq by show compareOfLessAndEq _ _ = _; unfold compareOfLessAndEq; rw [if_neg (by omega), if_pos rfl]]
    rfl

theorem floatP_lt {b : Int} : floatP b < 18446744073709551616 := by
  unfold floatP IntKind.wrap
  simp [IntKind.signed, IntKind.bits]
  omega

end Lf



/-
  Fields of elements; parts of slices by their places; copies into a block.
-/
set_option autoImplicit false
namespace Lf
open Go

section
variable {α : Type} {h : Hp} {sz : Nat} {enc : α → List Value} {l : Sl} {xs : List α}

theorem Blk.rd {b : Nat} {cs new : List Value} (k : Blk h b cs) {off n : Nat} (hn : new.length = n) (e : (cs.drop off).take n = new) : RdCells h (some ⟨b, off, none⟩) n new := ⟨hn, .inr ⟨_, rfl, k.ldIs e⟩⟩

end
end Lf

/-
  What is done with is held in a part of memory.
-/
set_option autoImplicit false
namespace Lf
open Go

/-- A memory without some blocks. -/
def cutH (k : Hp) (R : List Nat) : Hp := fun b => if b ∈ R then none else k b

theorem cut_le {k : Hp} {R : List Nat} : cutH k R ≤ k := fun b o e => by
  unfold cutH at e
  grind

theorem cut_none {k : Hp} {R : List Nat} {b : Nat} (h : b ∈ R) : cutH k R b = none := by
  unfold cutH
  rw [if_pos h]

theorem cut_eq {k : Hp} {R : List Nat} {b : Nat} (h : b ∉ R) : cutH k R b = k b := by
  unfold cutH
  rw [if_neg h]

theorem le_cut {d k : Hp} {R : List Nat} (hl : d ≤ k) (hn : ∀ b ∈ R, d b = none) : d ≤ cutH k R := fun b o e => by
  rw [cut_eq fun hb => by grind]
  exact hl b o e

theorem hcell_same {h h' : Hp} {a : Addr} (e : h' a.block = h a.block) : hcell h' a = hcell h a := by
  unfold hcell
  rw [e]

theorem addr_block (a : Addr) (n : Nat) : (a.add n).block = a.block := by
  unfold Addr.add
  split <;> rfl

theorem ldIs_same {h h' : Hp} {a : Addr} {cs : List Value} (l : LdIs h a cs) (e : h' a.block = h a.block) : LdIs h' a cs := fun i v hv => by
  have : hcell h' (a.add i) = hcell h (a.add i) := hcell_same (a := a.add i) (by rw [addr_block]; exact e)
  rw [this]
  exact l i v hv

section
variable {α : Type} {h h' : Hp} {sz : Nat} {enc : α → List Value} {l : Sl} {xs : List α} {F : List Nat}

theorem Rw.same (r : Rw h sz enc l xs) (e : ∀ a, l.base = some a → h' a.block = h a.block) : Rw h' sz enc l xs := by
  obtain ⟨h1, h2, h3⟩ := r
  refine ⟨h1, h2, h3.imp id ?_⟩
  rintro ⟨a, ha, hl⟩
  exact ⟨a, ha, ldIs_same hl (e a ha)⟩

theorem Rw.nil {l : Sl} (hl : l.len = 0) : Rw h sz enc l ([] : List α) := ⟨hl, (by simp), .inl (by simp)⟩

end
end Lf

/-
  What stays of a slice that is read while others are written.
-/
set_option autoImplicit false
namespace Lf
open Go

theorem hcell_known {h : Hp} {a : Addr} {v : Value} (e : hcell h a = some v) : ∃ o, h a.block = some o := by
  unfold hcell at e
  grind

theorem ldIs_mv {F F' : List Nat} {h h' : Hp} {a : Addr} {cs : List Value} (l : LdIs h a cs) (m : Mv F h F' h') (hn : a.block ∉ F) : LdIs h' a cs := fun i v hv => by
  have h1 := l i v hv
  obtain ⟨o, ho⟩ := hcell_known h1
  have hb : (a.add i).block = a.block := addr_block a i
  rw [hcell_same (h := h) (h' := h') (a := a.add i) (by rw [ho]; exact m.keep _ _ ho (by rw [hb]; exact hn))]
  exact h1

section
variable {α : Type} {h h' : Hp} {sz : Nat} {enc : α → List Value} {l : Sl} {xs : List α} {F F' : List Nat}

theorem Rw.known (r : Rw h sz enc l xs) {a : Addr} (ha : l.base = some a) (h0 : xs.length * sz ≠ 0) : h a.block ≠ none := by
  obtain ⟨h1, h2, h3⟩ := r
  obtain ⟨a', ha', hl⟩ := h3.resolve_left h0
  rw [ha] at ha'
  cases ha'
  have hne : (xs.flatMap enc).length ≠ 0 := by rw [h2]; exact h0
  obtain ⟨v, hv⟩ : ∃ v, (xs.flatMap enc)[0]? = some v := ⟨(xs.flatMap enc)[0]'(by omega), List.getElem?_eq_getElem (by omega)⟩
  obtain ⟨o, ho⟩ := hcell_known (hl 0 v hv)
  rw [addr_block] at ho
  rw [ho]
  simp

end
end Lf

/-
  A row that is made of a new one.
-/
set_option autoImplicit false
namespace Lf
open Go

theorem app_new {α : Type} {h0 h : Hp} {sz n bytes : Nat} {enc : α → List Value} {zero cs : List Value} {l : Sl} {xs ys : List α} {K : Sl → Hp → Prop} (hw : h0 ≤ h) (o : Own h0 h sz enc l xs) (hc : cs = ys.flatMap enc) (hn : n = ys.length)
    (henc : ∀ x, (enc x).length = sz) (hok : ∀ x, okCells (enc x) = true) (hz : zero.length = sz) (hb : xs.length + ys.length ≤ 140737488355328 ∧ (xs.length + ys.length) * bytes ≤ 140737488355328)
    (hk : ∀ l' h', h0 ≤ h' → Own h0 h' sz enc l' (xs ++ ys) → (∀ b ob, h b = some ob → (∀ a, l.base = some a → a.block ≠ b) → h' b = some ob) → K l' h') : NewW cs (fun a h2 => AppendW sz bytes zero l ⟨some a, n, n⟩ K h2) h := by
  subst hn
  refine new_row (h0 := h0) hw hc henc fun a h2 hle ho2 => ?_
  refine app_own (Hp.le_trans hw hle) (o.mono hle) (ho2.rw henc) henc hok hz hb fun l' h' hl' ho' hk' => hk l' h' hl' ho' fun b ob e hne => hk' b ob (hle b ob e) hne

end Lf

/-
  The document's whole numbers of any size: lists of 32 bits each.
-/
set_option autoImplicit false
namespace Lf
open Go Go.Proofs

section
variable {P : Program} {h : Hp}

theorem wrap32 (x : Int) : IntKind.wrap .u32 x = x % 4294967296 := rfl
theorem wrapU64 (x : Int) : IntKind.wrap .u64 x = x % 18446744073709551616 := rfl
theorem shrU (x : Int) (n : Nat) (hn : n ≤ 64) : shrI .u64 x (n : Int) = x / 2 ^ n := by
  unfold shrI
  rw [show min ((n : Int)).toNat IntKind.u64.bits = n by have : IntKind.u64.bits = 64 := rfl; omega]
  exact Int.fdiv_eq_ediv_of_nonneg _ (by have := Int.pow_pos (n := 2) (m := n) (by decide); omega)
theorem take_one {ds : List Int} {i : Nat} {x : Int} (h : ds[i]? = some x) : ds.take (i + 1) = ds.take i ++ [x] := by rw [List.take_add_one, h]; rfl
end
end Lf





/-
  The document's whole numbers: products, how many binary digits, the small ones.
-/
set_option autoImplicit false
namespace Lf
open Go Go.Proofs

theorem or_add {k : IntKind} {a s v : Nat} (hk : k = .u64 ∧ a * 2 ^ s + v < 18446744073709551616 ∨ k = .u32 ∧ a * 2 ^ s + v < 4294967296) (hv : v < 2 ^ s) : bitsI .or k ((a * 2 ^ s : Nat) : Int) (v : Int) = ((a * 2 ^ s + v : Nat) : Int) := by
  have e : a * 2 ^ s ||| v = a * 2 ^ s + v := by rw [← Nat.shiftLeft_eq, Nat.shiftLeft_add_eq_or_of_lt hv]
  unfold bitsI
  dsimp only
  rw [BitVec.ofInt_natCast, BitVec.ofInt_natCast, BitVec.toNat_or, BitVec.toNat_ofNat, BitVec.toNat_ofNat]
  rcases hk with ⟨rfl, h⟩ | ⟨rfl, h⟩
  · rw [show IntKind.u64.bits = 64 by rfl, Nat.mod_eq_of_lt (by omega), Nat.mod_eq_of_lt (by omega), e, wrapU64]; omega
  · rw [show IntKind.u32.bits = 32 by rfl, Nat.mod_eq_of_lt (by omega), Nat.mod_eq_of_lt (by omega), e, wrap32]; omega

theorem bitsN_eq {m b : Nat} (h1 : m < 2 ^ b) (h2 : 0 < b → 2 ^ (b - 1) ≤ m) : bitsN m = b := by
  unfold bitsN
  by_cases hm : m = 0
  · rw [if_pos hm]
    rcases Nat.eq_zero_or_pos b with e | e
    · exact e.symm
    · have := h2 e; have := Nat.two_pow_pos (b - 1); omega
  · rw [if_neg hm]
    have hb : 0 < b := Nat.pos_of_ne_zero fun e => by subst e; simp at h1; omega
    have := (Nat.log2_eq_iff (k := b - 1) hm).2 ⟨h2 hb, by rw [show b - 1 + 1 = b by omega]; exact h1⟩
    omega
theorem bitsN_lt (m : Nat) : m < 2 ^ bitsN m := by
  unfold bitsN
  split
  · subst_vars; decide
  · exact Nat.lt_log2_self
theorem bitsN_ge {m : Nat} (h : m ≠ 0) : 2 ^ (bitsN m - 1) ≤ m := by
  unfold bitsN
  rw [if_neg h, Nat.add_sub_cancel]
  exact Nat.log2_self_le h
section
variable {h : Hp}

end
end Lf





/-
  The document's floats: words by their bits, parts, rounded.
-/
set_option autoImplicit false
namespace Lf
open Go Go.Proofs

section
variable {a b : Nat}

theorem u64_bits : IntKind.u64.bits = 64 := rfl
theorem ofInt64 (ha : a < 18446744073709551616) : (BitVec.ofInt 64 ((a : Nat) : Int)).toNat = a := by
  rw [BitVec.ofInt_natCast, BitVec.toNat_ofNat]; exact Nat.mod_eq_of_lt ha
theorem wrapN (ha : a < 18446744073709551616) : IntKind.wrap .u64 ((a : Nat) : Int) = a := by rw [wrapU64]; omega

theorem and_frac (ha : a < 18446744073709551616) : bitsI .and .u64 (a : Int) (4503599627370495 : Int) = ((a % 4503599627370496 : Nat) : Int) := by
  unfold bitsI
  dsimp only
  rw [u64_bits, BitVec.toNat_and, ofInt64 ha, show (BitVec.ofInt 64 4503599627370495).toNat = 2 ^ 52 - 1 by decide, Nat.and_two_pow_sub_one_eq_mod, wrapU64]
  omega

theorem or_comm64 (x y : Int) : bitsI .or .u64 x y = bitsI .or .u64 y x := by unfold bitsI; dsimp only; rw [BitVec.or_comm]

variable {h : Hp}

end
end Lf



/-
  Floats as texts: products of 128 bits, scaling.
-/
set_option autoImplicit false
namespace Lf
open Go Go.Proofs

theorem iteT {c : Prop} [Decidable c] {a b : Prop} (hc : c) (ha : a) : if c then a else b := by rw [if_pos hc]; exact ha
theorem iteF {c : Prop} [Decidable c] {a b : Prop} (hc : ¬ c) (hb : b) : if c then a else b := by rw [if_neg hc]; exact hb

section
variable {h : Hp}

theorem and_mask {a : Nat} (k : Nat) (ha : a < 18446744073709551616) (hk : k ≤ 64) : bitsI .and .u64 (a : Int) ((2 ^ k - 1 : Nat) : Int) = ((a % 2 ^ k : Nat) : Int) := by
  have h2 : 2 ^ k ≤ 2 ^ 64 := Nat.pow_le_pow_right (by decide) hk
  have hp := Nat.two_pow_pos k
  unfold bitsI
  dsimp only
  rw [u64_bits, BitVec.toNat_and, ofInt64 ha, ofInt64 (by omega), Nat.and_two_pow_sub_one_eq_mod, wrapN]
  exact Nat.lt_of_le_of_lt (Nat.mod_le _ _) ha

theorem and32 {a : Nat} (ha : a < 18446744073709551616) : bitsI .and .u64 (a : Int) (4294967295 : Int) = ((a % 4294967296 : Nat) : Int) := by
  have e := and_mask 32 ha (by decide)
  rw [show (2 : Nat) ^ 32 - 1 = 4294967295 by decide, show (2 : Nat) ^ 32 = 4294967296 by decide] at e
  exact e

theorem shrN (x : Nat) {n : Nat} (hn : n ≤ 64) : shrI .u64 (x : Int) (n : Int) = ((x / 2 ^ n : Nat) : Int) := by
  rw [shrU _ n hn]; norm_cast

theorem shr32N (x : Nat) : shrI .u64 (x : Int) (32 : Int) = ((x / 4294967296 : Nat) : Int) := by
  have e := shrN x (n := 32) (by decide)
  rw [show (2 : Nat) ^ 32 = 4294967296 by decide] at e
  exact e

theorem mul_lt {a b n m : Nat} (ha : a ≤ n) (hb : b ≤ m) : a * b ≤ n * m := Nat.mul_le_mul ha hb

theorem mul64_eq {a b c d : Nat} (ha : a ≤ 18446744065119617025) (hb : b ≤ 18446744065119617025) (hc : c ≤ 18446744065119617025) (hd : d ≤ 18446744065119617025) :
    a + (b + d / 4294967296) / 4294967296 + ((b + d / 4294967296) % 4294967296 + c) / 4294967296 = (a * 18446744073709551616 + (b + c) * 4294967296 + d) / 18446744073709551616 := by
  have e1 : (a * 18446744073709551616 + (b + c) * 4294967296 + d) / 18446744073709551616 = a + ((b + c) * 4294967296 + d) / 18446744073709551616 := by rw [Nat.add_assoc, Nat.mul_comm a, Nat.mul_add_div (by decide)]
  have e2 : ((b + c) * 4294967296 + d) / 18446744073709551616 = ((b + c) + d / 4294967296) / 4294967296 := by rw [show 18446744073709551616 = 4294967296 * 4294967296 by decide, ← Nat.div_div_eq_div_mul, Nat.mul_comm (b + c), Nat.mul_add_div (by decide)]
  rw [e1, e2]
  generalize d / 4294967296 = t at *
  omega

/-- Where one cell of a block is written over. -/
theorem put1 {b i : Nat} {cs : List Value} {v : Value} {K : Hp → Prop} (k : Blk h b cs) (hi : i < cs.length) (hk : ∀ h', Mv [b] h [b] h' → Blk h' b (cs.set i v) → K h') : StW h ⟨b, i, none⟩ [v] K :=
  stW_blk k (by simp only [List.length_singleton]; omega) fun h' m k' => hk h' m (by
    rw [List.set_eq_take_append_cons_drop, if_pos hi]
    simpa using k')

/-- A product of two words, in two words. -/
theorem mul64_ok {x y : Nat} {Q : Int → Int → Hp → Prop} (hx : x < 18446744073709551616) (hy : y < 18446744073709551616) (hq : Q ((x * y / 18446744073709551616 : Nat) : Int) ((x * y % 18446744073709551616 : Nat) : Int) h) : math_bits_Mul64_w Tryz.prog x y Q h := by
  unfold math_bits_Mul64_w
  refine ⟨by decide, by decide, by decide, by decide, by decide, ?_⟩
  rw [shr32N, shr32N, and32 hx, and32 hy]
  have hxy : x * y = (x / 4294967296 * (y / 4294967296)) * 18446744073709551616 + (x / 4294967296 * (y % 4294967296) + x % 4294967296 * (y / 4294967296)) * 4294967296 + x % 4294967296 * (y % 4294967296) := by
    have e1 : x = x / 4294967296 * 4294967296 + x % 4294967296 := by omega
    have e2 : y = y / 4294967296 * 4294967296 + y % 4294967296 := by omega
    generalize x / 4294967296 = p at *
    generalize x % 4294967296 = q at *
    generalize y / 4294967296 = r at *
    generalize y % 4294967296 = s at *
    subst e1 e2
    grind
  have b1 : x / 4294967296 ≤ 4294967295 := by omega
  have b2 : y / 4294967296 ≤ 4294967295 := by omega
  have b3 : x % 4294967296 ≤ 4294967295 := by omega
  have b4 : y % 4294967296 ≤ 4294967295 := by omega
  have ha := mul_lt b1 b2
  have hb := mul_lt b1 b4
  have hc := mul_lt b3 b2
  have hd := mul_lt b3 b4
  have hl : IntKind.wrap .u64 ((x : Int) * (y : Int)) = ((x * y % 18446744073709551616 : Nat) : Int) := by
    rw [wrapU64, show (x : Int) * (y : Int) = ((x * y : Nat) : Int) by norm_cast]
    generalize x * y = z
    omega
  rw [hl]
  have hk := mul64_eq ha hb hc hd
  rw [← hxy] at hk
  rw [← hk] at hq
  have c1 : ((x / 4294967296 : Nat) : Int) * ((y / 4294967296 : Nat) : Int) = ((x / 4294967296 * (y / 4294967296) : Nat) : Int) := by norm_cast
  have c2 : ((x / 4294967296 : Nat) : Int) * ((y % 4294967296 : Nat) : Int) = ((x / 4294967296 * (y % 4294967296) : Nat) : Int) := by norm_cast
  have c3 : ((x % 4294967296 : Nat) : Int) * ((y / 4294967296 : Nat) : Int) = ((x % 4294967296 * (y / 4294967296) : Nat) : Int) := by norm_cast
  have c4 : ((x % 4294967296 : Nat) : Int) * ((y % 4294967296 : Nat) : Int) = ((x % 4294967296 * (y % 4294967296) : Nat) : Int) := by norm_cast
  rw [c1, c2, c3, c4]
  clear c1 c2 c3 c4 hk hxy hl
  generalize x / 4294967296 * (y / 4294967296) = a at *
  generalize x / 4294967296 * (y % 4294967296) = b at *
  generalize x % 4294967296 * (y / 4294967296) = c at *
  generalize x % 4294967296 * (y % 4294967296) = d at *
  have sum : ∀ {u v : Nat}, u + v < 18446744073709551616 → IntKind.wrap .u64 ((u : Int) + (v : Int)) = ((u + v : Nat) : Int) := fun {u v} huv => by rw [wrapU64]; omega
  rw [wrapN (a := a) (by omega), wrapN (a := b) (by omega), wrapN (a := c) (by omega), wrapN (a := d) (by omega), shr32N, sum (u := b) (by omega), shr32N, and32 (by omega), sum (u := (b + d / 4294967296) % 4294967296) (v := c) (by omega), shr32N, sum (u := a) (by omega), sum (by omega)]
  exact hq

/-- An unrounded product. -/
def uscaleN (x hi lo s : Nat) : Nat :=
  let u := x * hi / 18446744073709551616
  let mid := x * hi % 18446744073709551616
  let mid2 := x * lo / 18446744073709551616
  if u % 2 ^ s ≠ 0 then u / 2 ^ s ||| 1
  else (if mid < mid2 then u - 1 else u) / 2 ^ s ||| (if mid2 + 1 < mid ∨ mid < mid2 then 1 else 0)

/-- What scaling leans on, in memory. -/
abbrev Scl (h : Hp) (b hi lo s : Nat) : Prop := Blk h b [.int .u64 (hi : Int), .int .u64 (lo : Int), .int .i64 (s : Int)]

theorem orN {x y : Nat} (hx : x < 18446744073709551616) (hy : y < 18446744073709551616) : bitsI .or .u64 (x : Int) (y : Int) = ((x ||| y : Nat) : Int) := by
  unfold bitsI
  dsimp only
  have : x ||| y < 2 ^ 64 := Nat.or_lt_two_pow hx hy
  rw [u64_bits, BitVec.toNat_or, ofInt64 hx, ofInt64 hy, wrapN (by omega)]

theorem bool64_ok {b : Bool} {Q : Int → Hp → Prop} (hq : Q ((b.toNat : Nat) : Int) h) : internal_strconv_bool2_uint64_w Tryz.prog b Q h := by
  unfold internal_strconv_bool2_uint64_w
  cases b
  · exact hq
  · exact hq

theorem and63i {s : Nat} (hs : s < 64) : bitsI .and .i64 (s : Int) (63 : Int) = (s : Int) := by
  unfold bitsI
  dsimp only
  show IntKind.wrap .i64 (((BitVec.ofInt 64 (s : Int)) &&& (BitVec.ofInt 64 63)).toNat : Int) = _
  rw [BitVec.toNat_and, ofInt64 (by omega), show (BitVec.ofInt 64 63).toNat = 2 ^ 6 - 1 by decide, Nat.and_two_pow_sub_one_eq_mod, wrap64 (by omega) (by omega), Nat.mod_eq_of_lt hs]

theorem shlN {x n : Nat} (hn : n ≤ 64) (hx : x * 2 ^ n < 18446744073709551616) : shlI .u64 (x : Int) (n : Int) = ((x * 2 ^ n : Nat) : Int) := by
  unfold shlI
  rw [show min ((n : Int)).toNat IntKind.u64.bits = n by have : IntKind.u64.bits = 64 := rfl; omega, show (x : Int) * 2 ^ n = ((x * 2 ^ n : Nat) : Int) by norm_cast, wrapN hx]

theorem uscale_ok {x hi lo s b : Nat} {Q : Int → Hp → Prop} (hx : x < 18446744073709551616) (hh : hi < 18446744073709551616) (hl : lo < 18446744073709551616) (hs : s < 64) (hu : x * hi / 18446744073709551616 ≠ 0)
    (k : Scl h b hi lo s) (hq : Q ((uscaleN x hi lo s : Nat) : Int) h) : internal_strconv_uscale_w Tryz.prog x (some ⟨b, 0, none⟩) Q h := by
  unfold internal_strconv_uscale_w
  refine notNil (ld_at (sh := shInt .u64) (hi : Int) (k.ldIs (off := 0) (n := 1) rfl) (math_bits_Mul64_call (mul64_ok hx hh ?_)))
  refine notNil (ld_at (sh := shInt .i64) (s : Int) (k.ldIs (off := 2) (n := 1) rfl) ?_)
  rw [and63i hs]
  have hul : x * hi / 18446744073709551616 < 18446744073709551616 := Nat.div_lt_of_lt_mul (Nat.lt_of_lt_of_le (Nat.mul_lt_mul_of_lt_of_lt hx hh) (Nat.le_refl _))
  have hml : x * hi % 18446744073709551616 < 18446744073709551616 := Nat.mod_lt _ (by decide)
  have hm2 : x * lo / 18446744073709551616 < 18446744073709551615 := by
    have := Nat.mul_le_mul (Nat.le_pred_of_lt hx) (Nat.le_pred_of_lt hl)
    have : x * lo ≤ 18446744073709551615 * 18446744073709551615 := this
    generalize x * lo = z at *
    omega
  unfold uscaleN at hq
  dsimp only at hq
  have hdiv : ∀ {v : Nat}, v < 18446744073709551616 → v / 2 ^ s < 18446744073709551616 := fun hv => Nat.lt_of_le_of_lt (Nat.div_le_self _ _) hv
  refine ⟨by omega, by omega, ?_⟩
  generalize hU : x * hi / 18446744073709551616 = u at *
  generalize hM : x * hi % 18446744073709551616 = mid at *
  have hback : u / 2 ^ s * 2 ^ s ≤ u := Nat.div_mul_le_self _ _
  rw [shrN u (by omega), shlN (by omega) (by omega)]
  have hcond : u % 2 ^ s ≠ 0 ↔ ((u / 2 ^ s * 2 ^ s : Nat) : Int) ≠ (u : Int) := by
    have := Nat.div_add_mod u (2 ^ s)
    rw [Nat.mul_comm] at this
    omega
  by_cases hc : u % 2 ^ s ≠ 0
  · rw [if_pos hc] at hq
    refine iteT (bne_iff_ne.2 (hcond.1 hc)) ⟨by omega, ?_⟩
    rw [show (1 : Int) = ((1 : Nat) : Int) from rfl, orN (hdiv hul) (by omega)]
    exact hq
  · rw [if_neg hc] at hq
    refine iteF (fun e => hc (hcond.2 (bne_iff_ne.1 e))) ?_
    refine notNil (ld_at (sh := shInt .u64) (lo : Int) (k.ldIs (off := 1) (n := 1) rfl) (math_bits_Mul64_call (mul64_ok hx hl ?_)))
    generalize hM2 : x * lo / 18446744073709551616 = mid2 at *
    refine internal_strconv_bool2_uint64_call (bool64_ok ⟨by omega, ?_⟩)
    refine internal_strconv_bool2_uint64_call (bool64_ok ?_)
    have e1 : IntKind.wrap .u64 ((u : Int) - (((decide ((mid : Int) < (mid2 : Int))).toNat : Nat) : Int)) = ((if mid < mid2 then u - 1 else u : Nat) : Int) := by
      rw [wrapU64]
      by_cases h1 : mid < mid2
      · rw [if_pos h1, decide_eq_true (by omega)]
        show ((u : Int) - 1) % _ = _
        omega
      · rw [if_neg h1, decide_eq_false (by omega)]
        show ((u : Int) - 0) % _ = _
        omega
    have e2 : (((decide (IntKind.wrap .u64 ((mid : Int) - (mid2 : Int)) > (1 : Int))).toNat : Nat) : Int) = ((if mid2 + 1 < mid ∨ mid < mid2 then 1 else 0 : Nat) : Int) := by
      rw [wrapU64]
      by_cases h1 : mid2 + 1 < mid ∨ mid < mid2
      · rw [if_pos h1, decide_eq_true (by omega)]; rfl
      · rw [if_neg h1, decide_eq_false (by omega)]; rfl
    rw [e1, e2, shrN _ (by omega), orN (hdiv (by split <;> omega)) (by split <;> omega)]
    exact hq
end
end Lf

/-
  Floats as texts: the shortest digits, as they are reckoned.
-/
set_option autoImplicit false
namespace Lf
open Go Go.Proofs Go.Pinned

def log10P (x : Int) : Int := x * 78913 / 262144
def log2P (x : Int) : Int := x * 108853 / 32768
def skewP (x : Int) : Int := (x * 631305 - 261663) / 2097152

/-- The table of powers of ten in memory. -/
abbrev Pow10 (h : Hp) : Prop := LdIs h ⟨11, 0, none⟩ (pow10Rows.flatMap fun x => [Value.int .u64 (x.1 : Int), Value.int .u64 (x.2 : Int)])

theorem pow10_len : pow10Rows.length = 696 := by decide +kernel
theorem pow10_top : ∀ x ∈ pow10Rows, 9223372036854775808 ≤ x.1 ∧ x.1 < 18446744073709551616 ∧ x.2 < 18446744073709551616 := by decide +kernel

def hiP (p : Int) : Nat := (pow10Rows.getD (p + 348).toNat (0, 0)).1
def loP (p : Int) : Nat := (pow10Rows.getD (p + 348).toNat (0, 0)).2

section
variable {h : Hp}

theorem row_at {p : Int} (h0 : -348 ≤ p) (h1 : p ≤ 347) : pow10Rows[(p + 348).toNat]? = some (hiP p, loP p) := by
  have hl : (p + 348).toNat < pow10Rows.length := by rw [pow10_len]; omega
  unfold hiP loP
  rw [List.getElem?_eq_getElem hl]
  simp [List.getD, List.getElem?_eq_getElem hl]

theorem row_in {p : Int} (h0 : -348 ≤ p) (h1 : p ≤ 347) : 9223372036854775808 ≤ hiP p ∧ hiP p < 18446744073709551616 ∧ loP p < 18446744073709551616 :=
  pow10_top _ (List.mem_of_getElem? (row_at h0 h1))

theorem flat2 {l : List (Nat × Nat)} {i : Nat} {x : Nat × Nat} (e : l[i]? = some x) : (l.flatMap fun x => [Value.int .u64 (x.1 : Int), Value.int .u64 (x.2 : Int)])[i * 2]? = some (.int .u64 x.1) ∧
    (l.flatMap fun x => [Value.int .u64 (x.1 : Int), Value.int .u64 (x.2 : Int)])[i * 2 + 1]? = some (.int .u64 x.2) := by
  induction l generalizing i with
  | nil => simp at e
  | cons y l ih =>
    cases i with
    | zero => simp at e; subst e; simp
    | succ i =>
      have := ih (i := i) (by simpa using e)
      rw [show (i + 1) * 2 = i * 2 + 1 + 1 by omega]
      simpa using this

theorem one_cell {h : Hp} {a : Addr} {v : Value} (e : hcell h a = some v) : LdIs h a [v] := fun i u hu => by
  cases i with
  | zero => cases hu; exact e
  | succ i => simp at hu

theorem pow10_at (t : Pow10 h) {p : Int} (h0 : -348 ≤ p) (h1 : p ≤ 347) : LdIs h ⟨11, (p + 348).toNat * 2, none⟩ [.int .u64 (hiP p : Int)] ∧ LdIs h ⟨11, (p + 348).toNat * 2 + 1, none⟩ [.int .u64 (loP p : Int)] := by
  obtain ⟨e1, e2⟩ := flat2 (row_at h0 h1)
  have c1 := t _ _ e1
  have c2 := t _ _ e2
  rw [box_add, Nat.zero_add] at c1 c2
  exact ⟨one_cell c1, one_cell c2⟩

theorem log10_ok {x : Int} {Q : Int → Hp → Prop} (h0 : -100000 ≤ x) (h1 : x ≤ 100000) (hq : Q (log10P x) h) : internal_strconv_log10Pow2_w Tryz.prog x Q h := by
  unfold internal_strconv_log10Pow2_w
  refine ⟨by decide, ?_⟩
  rw [wrap64 (by omega) (by omega)]
  unfold shrI
  rw [show (2 : Int) ^ (min (18 : Int).toNat IntKind.i64.bits) = 262144 by decide, Int.fdiv_eq_ediv_of_nonneg _ (by decide)]
  exact hq

theorem log2_ok {x : Int} {Q : Int → Hp → Prop} (h0 : -100000 ≤ x) (h1 : x ≤ 100000) (hq : Q (log2P x) h) : internal_strconv_log2Pow10_w Tryz.prog x Q h := by
  unfold internal_strconv_log2Pow10_w
  refine ⟨by decide, ?_⟩
  rw [wrap64 (by omega) (by omega)]
  unfold shrI
  rw [show (2 : Int) ^ (min (15 : Int).toNat IntKind.i64.bits) = 32768 by decide, Int.fdiv_eq_ediv_of_nonneg _ (by decide)]
  exact hq

theorem skew_ok {x : Int} {Q : Int → Hp → Prop} (h0 : -100000 ≤ x) (h1 : x ≤ 100000) (hq : Q (skewP x) h) : internal_strconv_skewed_w Tryz.prog x Q h := by
  unfold internal_strconv_skewed_w
  refine ⟨by decide, ?_⟩
  rw [wrap64 (n := x * 631305) (by omega) (by omega), wrap64 (by omega) (by omega)]
  unfold shrI
  rw [show (2 : Int) ^ (min (21 : Int).toNat IntKind.i64.bits) = 2097152 by decide, Int.fdiv_eq_ediv_of_nonneg _ (by decide)]
  exact hq

theorem prescale_ok {b : Nat} {x0 x1 x2 : Value} {e p lp : Int} {Q : Hp → Prop} (k : Blk h b [x0, x1, x2]) (t : Pow10 h) (hb : b ≠ 11) (h0 : -348 ≤ p) (h1 : p ≤ 347) (hl : lp = log2P p) (s0 : 0 ≤ -(e + lp + 3)) (s1 : -(e + lp + 3) < 64)
    (hk : ∀ h', Mv [b] h [b] h' → Scl h' b (hiP p) (loP p) (-(e + lp + 3)).toNat → Q h') : internal_strconv_prescale_w Tryz.prog (some ⟨b, 0, none⟩) e p lp Q h := by
  unfold internal_strconv_prescale_w
  have hlp : -1200 ≤ lp ∧ lp ≤ 1200 := by subst hl; unfold log2P; omega
  have e1 : IntKind.wrap .i64 (p - (-348 : Int)) = p + 348 := by rw [wrap64 (by omega) (by omega)]; omega
  have e2 : IntKind.wrap .i64 ((0 : Int) - (IntKind.wrap .i64 ((IntKind.wrap .i64 (e + lp)) + (3 : Int)))) = (((-(e + lp + 3)).toNat : Nat) : Int) := by
    rw [wrap64 (n := e + lp) (by omega) (by omega), wrap64 (n := e + lp + 3) (by omega) (by omega), wrap64 (by omega) (by omega)]
    omega
  rw [e1, e2]
  obtain ⟨c1, c2⟩ := pow10_at t h0 h1
  have a1 : Addr.add (Addr.add ⟨11, 0, none⟩ ((p + 348).toNat * 2)) 0 = ⟨11, (p + 348).toNat * 2, none⟩ := by rw [box_add, box_add]; simp
  have a2 : Addr.add (Addr.add ⟨11, 0, none⟩ ((p + 348).toNat * 2)) 1 = ⟨11, (p + 348).toNat * 2 + 1, none⟩ := by rw [box_add, box_add]; simp
  rw [a1, a2]
  refine ⟨⟨by omega, by omega⟩, ld_at (sh := shInt .u64) (hiP p : Int) c1 (notNil ?_)⟩
  refine put1 (i := 0) k (by simp) fun k1 m1 b1 => ?_
  have c2' := ldIs_mv c2 m1 (by simpa using Ne.symm hb)
  refine ⟨⟨by omega, by omega⟩, ld_at (sh := shInt .u64) (loP p : Int) c2' (notNil ?_)⟩
  refine put1 (i := 1) b1 (by simp) fun k2 m2 b2 => ?_
  refine notNil (put1 (i := 2) b2 (by simp) fun k3 m3 b3 => ?_)
  exact hk k3 (m1.trans (m2.trans m3)) b3
end

/-! What comes of it, in plain numbers. -/
def nudgeP (u : Nat) (odd : Bool) (up : Bool) : Nat := if odd then (if up then u + 1 else u + 18446744073709551615) % 18446744073709551616 else u
def roundP (u : Nat) : Nat := (u + 1 + u / 4 % 2) % 18446744073709551616 / 4

/-- How far off a float's neighbours stand. -/
def zP (e : Int) : Nat := if -1085 ≤ e then 11 else (11 + (-1085 - e)).toNat
def pP (m : Nat) (e : Int) : Int := if m = 9223372036854775808 ∧ -1085 < e then -skewP (e + 11) else -log10P (e + zP e)
def minP (m : Nat) (e : Int) : Nat := if m = 9223372036854775808 ∧ -1085 < e then m - 512 else m - 2 ^ (zP e - 1)
def maxP (m : Nat) (e : Int) : Nat := m + 2 ^ (zP e - 1)
def oddP (m : Nat) (e : Int) : Bool := m / 2 ^ zP e % 2 == 1
def sclP (m : Nat) (e : Int) (x : Nat) : Nat := uscaleN x (hiP (pP m e)) (loP (pP m e)) (-(e + log2P (pP m e) + 3)).toNat
def dminP (m : Nat) (e : Int) : Nat := (nudgeP (sclP m e (minP m e)) (oddP m e) true + 3) % 18446744073709551616 / 4
def dmaxP (m : Nat) (e : Int) : Nat := nudgeP (sclP m e (maxP m e)) (oddP m e) false / 4
def shortP (m : Nat) (e : Int) : Nat × Int :=
  if dminP m e ≤ dmaxP m e / 10 * 10 then (dmaxP m e / 10, -(pP m e - 1))
  else if dminP m e < dmaxP m e then (roundP (sclP m e m), -pP m e)
  else (dminP m e, -pP m e)

theorem p_in {m : Nat} {e : Int} (h0 : -1137 ≤ e) (h1 : e ≤ 974) : -348 ≤ pP m e ∧ pP m e ≤ 347 ∧ 0 ≤ -(e + log2P (pP m e) + 3) ∧ -(e + log2P (pP m e) + 3) < 64 := by
  unfold pP
  split
  · unfold skewP log2P
    omega
  · unfold zP log10P log2P
    split <;> omega

section
variable {h : Hp}

theorem nudge_ok {u : Nat} {d : Int} {odd up : Bool} {Q : Int → Hp → Prop} (hu : u < 18446744073709551616) (hd : d = if odd then (if up then 1 else -1) else 0) (hq : Q ((nudgeP u odd up : Nat) : Int) h) : internal_strconv_unrounded_nudge_w Tryz.prog u d Q h := by
  unfold internal_strconv_unrounded_nudge_w
  unfold nudgeP at hq
  subst hd
  rw [wrapU64, wrapU64]
  cases odd with
  | false =>
    simp only [Bool.false_eq_true, if_false] at hq ⊢
    rw [show ((u : Int) + 0 % 18446744073709551616) % 18446744073709551616 = (u : Int) by omega]
    exact hq
  | true =>
    cases up with
    | true =>
      simp only [if_true] at hq ⊢
      rw [show ((u : Int) + 1 % 18446744073709551616) % 18446744073709551616 = (((u + 1) % 18446744073709551616 : Nat) : Int) by omega]
      exact hq
    | false =>
      simp only [if_true, Bool.false_eq_true, if_false] at hq ⊢
      rw [show ((u : Int) + -1 % 18446744073709551616) % 18446744073709551616 = (((u + 18446744073709551615) % 18446744073709551616 : Nat) : Int) by omega]
      exact hq

theorem shr2N (x : Nat) : shrI .u64 (x : Int) (2 : Int) = ((x / 4 : Nat) : Int) := shrN x (n := 2) (by decide)

theorem ceil_ok {u : Nat} {Q : Int → Hp → Prop} (hq : Q (((u + 3) % 18446744073709551616 / 4 : Nat) : Int) h) : internal_strconv_unrounded_ceil_w Tryz.prog u Q h := by
  unfold internal_strconv_unrounded_ceil_w
  rw [show IntKind.wrap .u64 ((u : Int) + (3 : Int)) = (((u + 3) % 18446744073709551616 : Nat) : Int) by rw [wrapU64]; omega, shr2N]
  exact ⟨by decide, hq⟩

theorem floor_ok {u : Nat} {Q : Int → Hp → Prop} (hu : u < 18446744073709551616) (hq : Q ((u / 4 : Nat) : Int) h) : internal_strconv_unrounded_floor_w Tryz.prog u Q h := by
  unfold internal_strconv_unrounded_floor_w
  simp only [Int.add_zero, wrapN hu, shr2N]
  first | exact ⟨by decide, hq⟩ | exact hq

theorem round_ok {u : Nat} {Q : Int → Hp → Prop} (hu : u < 18446744073709551616) (hq : Q ((roundP u : Nat) : Int) h) : internal_strconv_unrounded_round_w Tryz.prog u Q h := by
  unfold internal_strconv_unrounded_round_w
  have e1 : bitsI .and .u64 (shrI .u64 (u : Int) (2 : Int)) (1 : Int) = ((u / 4 % 2 : Nat) : Int) := by
    rw [shr2N]
    have := and_mask (a := u / 4) 1 (by omega) (by decide)
    exact this
  rw [e1]
  have e2 : IntKind.wrap .u64 (IntKind.wrap .u64 ((u : Int) + (1 : Int)) + ((u / 4 % 2 : Nat) : Int)) = (((u + 1 + u / 4 % 2) % 18446744073709551616 : Nat) : Int) := by rw [wrapU64, wrapU64]; omega
  rw [e2, shr2N]
  exact ⟨by decide, by decide, hq⟩
end
end Lf

/-
  Floats as texts: the shortest digits.
-/
set_option autoImplicit false
namespace Lf
open Go Go.Proofs Go.Pinned

section
variable {h : Hp}

theorem Pow10.known (t : Pow10 h) : h 11 ≠ none := by
  have e := t 0 (.int .u64 ((pow10Rows.getD 0 (0, 0)).1 : Int)) (by
    have := (flat2 (l := pow10Rows) (i := 0) (x := pow10Rows.getD 0 (0, 0)) (by
      have hl : 0 < pow10Rows.length := by rw [pow10_len]; decide
      simp [List.getD, List.getElem?_eq_getElem hl])).1
    exact this)
  obtain ⟨o, ho⟩ := hcell_known e
  have ho : h 11 = some o := ho
  rw [ho]
  simp

theorem andi1 {s : Nat} (hs : s < 9223372036854775808) : bitsI .and .i64 (IntKind.wrap .i64 (s : Int)) (1 : Int) = ((s % 2 : Nat) : Int) := by
  rw [wrap64 (by omega) (by omega)]
  unfold bitsI
  dsimp only
  show IntKind.wrap .i64 (((BitVec.ofInt 64 (s : Int)) &&& (BitVec.ofInt 64 1)).toNat : Int) = _
  rw [BitVec.toNat_and, ofInt64 (by omega), show (BitVec.ofInt 64 1).toNat = 2 ^ 1 - 1 by decide, Nat.and_two_pow_sub_one_eq_mod, wrap64 (by omega) (by omega), Nat.pow_one]

theorem odd_int {n : Nat} : ((n % 2 : Nat) : Int) = if (n % 2 == 1) = true then 1 else 0 := by
  by_cases h : n % 2 = 1
  · rw [if_pos (by simpa using h), h]; rfl
  · rw [if_neg (by simpa using h), show n % 2 = 0 by omega]; rfl

theorem uscaleN_lt {x hi lo s : Nat} (hx : x < 18446744073709551616) (hh : hi < 18446744073709551616) : uscaleN x hi lo s < 18446744073709551616 := by
  have hul : x * hi / 18446744073709551616 < 18446744073709551616 := Nat.div_lt_of_lt_mul (Nat.lt_of_lt_of_le (Nat.mul_lt_mul_of_lt_of_lt hx hh) (Nat.le_refl _))
  have hdiv : ∀ {v : Nat}, v < 18446744073709551616 → v / 2 ^ s < 18446744073709551616 := fun hv => Nat.lt_of_le_of_lt (Nat.div_le_self _ _) hv
  have o1 : ∀ {v k : Nat}, v < 18446744073709551616 → k < 18446744073709551616 → v ||| k < 18446744073709551616 := fun {v k} hv hk => Nat.or_lt_two_pow (n := 64) hv hk
  unfold uscaleN
  dsimp only
  split
  · exact o1 (hdiv hul) (by omega)
  · exact o1 (hdiv (by split <;> omega)) (by split <;> omega)

theorem nudge_lt {u : Nat} {a b : Bool} (hu : u < 18446744073709551616) : nudgeP u a b < 18446744073709551616 := by
  unfold nudgeP
  split
  · exact Nat.mod_lt _ (by decide)
  · exact hu

theorem big_prod {x hi : Nat} (hx : 2305843009213693952 ≤ x) (hh : 9223372036854775808 ≤ hi) : x * hi / 18446744073709551616 ≠ 0 := by
  have := Nat.mul_le_mul hx hh
  have : 2305843009213693952 * 9223372036854775808 ≤ x * hi := this
  generalize x * hi = z at *
  omega

theorem short_ok {m : Nat} {e : Int} {Q : Int → Int → Hp → Prop} (m0 : 9223372036854775808 ≤ m) (m1 : m + 2 ^ zP e ≤ 18446744073709551616) (h0 : -1137 ≤ e) (h1 : e ≤ 974) (t : Pow10 h)
    (hk : ∀ h', h ≤ h' → Q ((shortP m e).1 : Int) (shortP m e).2 h') : internal_strconv_shortFloat_float64_w Tryz.prog m e Q h := by
  obtain ⟨p0, p1, s0, s1⟩ := p_in (m := m) h0 h1
  have hz : 11 ≤ zP e ∧ zP e ≤ 63 := by unfold zP; split <;> omega
  have hz1 : 2 ^ zP e = 2 * 2 ^ (zP e - 1) := by rw [← Nat.pow_succ']; congr 1; omega
  have hzm : 2 ^ (zP e - 1) ≤ 4611686018427387904 := by
    have : 2 ^ (zP e - 1) ≤ 2 ^ 62 := Nat.pow_le_pow_right (by decide) (by omega)
    exact this
  have hz0 : 1024 ≤ 2 ^ (zP e - 1) := by
    have : 2 ^ 10 ≤ 2 ^ (zP e - 1) := Nat.pow_le_pow_right (by decide) (by omega)
    exact this
  have hodd : ∀ {z : Int}, z = (zP e : Int) → bitsI .and .i64 (IntKind.wrap .i64 (shrI .u64 (m : Int) z)) (1 : Int) = if oddP m e = true then 1 else 0 := fun {z} hz' => by
    subst hz'
    rw [shrN m (by omega), andi1, odd_int]
    · rfl
    · have : m / 2 ^ zP e ≤ m / 2 ^ 11 := Nat.div_le_div_left (Nat.pow_le_pow_right (by decide) hz.1) (by decide)
      omega
  have one : ∀ {z : Int} (n : Nat), z = (n : Int) → n ≤ 62 → shlI .u64 (1 : Int) z = ((2 ^ n : Nat) : Int) := fun {z} n hn hl => by
    subst hn
    have := shlN (x := 1) (n := n) (by omega) (by
      have : 2 ^ n ≤ 2 ^ 62 := Nat.pow_le_pow_right (by decide) hl
      omega)
    rw [Nat.one_mul] at this
    exact this
  unfold internal_strconv_shortFloat_float64_w
  refine JoinW2.direct ?_
  dsimp only
  rw [show IntKind.wrap .i64 ((63 : Int) - (52 : Int)) = 11 by decide]
  refine JoinW4.intro (fun p mn mx od k => k = h ∧ p = pP m e ∧ mn = ((minP m e : Nat) : Int) ∧ mx = ((maxP m e : Nat) : Int) ∧ od = if oddP m e = true then 1 else 0) (letW ?_) ?_
  · by_cases hc : m = 9223372036854775808 ∧ -1085 < e
    · have hze : zP e = 11 := by unfold zP; rw [if_pos (by omega)]
      refine iteT (by rw [Bool.and_eq_true]; exact ⟨by rw [beq_iff_eq]; omega, decide_eq_true (by omega)⟩) ?_
      rw [wrap64 (n := e + 11) (by omega) (by omega)]
      refine internal_strconv_skewed_call (skew_ok (by omega) (by omega) ⟨by decide, by decide, by decide, rfl, ?_, ?_, ?_, ?_⟩)
      · have : -5000 ≤ skewP (e + 11) ∧ skewP (e + 11) ≤ 5000 := by unfold skewP; omega
        rw [wrap64 (by omega) (by omega)]
        unfold pP
        rw [if_pos hc]
        omega
      · rw [one 9 (by decide) (by decide), wrapU64]
        unfold minP
        rw [if_pos hc]
        omega
      · rw [one 10 (by decide) (by decide), wrapU64]
        unfold maxP
        rw [hze]
        omega
      · exact hodd (by rw [hze]; rfl)
    · refine iteF (fun hh => hc (by rw [Bool.and_eq_true, beq_iff_eq] at hh; exact ⟨by omega, of_decide_eq_true hh.2⟩)) ?_
      have hp : pP m e = -log10P (e + (zP e : Int)) := by unfold pP; rw [if_neg hc]
      have hmn : minP m e = m - 2 ^ (zP e - 1) := by unfold minP; rw [if_neg hc]
      by_cases hd : -1085 ≤ e
      · have hze : zP e = 11 := by unfold zP; rw [if_pos hd]
        refine iteT (decide_eq_true hd) ?_
        rw [wrap64 (n := e + 11) (by omega) (by omega)]
        refine internal_strconv_log10Pow2_call (log10_ok (by omega) (by omega) ⟨by decide, by decide, by decide, rfl, ?_, ?_, ?_, ?_⟩)
        · have : -5000 ≤ log10P (e + 11) ∧ log10P (e + 11) ≤ 5000 := by unfold log10P; omega
          rw [wrap64 (by omega) (by omega), hp, hze, Int.zero_sub]
          rfl
        · rw [one 10 (by decide) (by decide), wrapU64, hmn, hze]
          omega
        · rw [one 10 (by decide) (by decide), wrapU64]
          unfold maxP
          rw [hze]
          omega
        · exact hodd (by rw [hze]; rfl)
      · have hze : (zP e : Int) = 11 + (-1085 - e) := by unfold zP; rw [if_neg hd]; omega
        refine iteF (fun hh => hd (of_decide_eq_true hh)) ?_
        have e1 : IntKind.wrap .i64 ((11 : Int) + IntKind.wrap .i64 ((-1085 : Int) - e)) = (zP e : Int) := by rw [wrap64 (n := -1085 - e) (by omega) (by omega), wrap64 (by omega) (by omega), hze]
        have e2 : IntKind.wrap .i64 ((zP e : Int) - 1) = ((zP e - 1 : Nat) : Int) := by rw [wrap64 (by omega) (by omega)]; omega
        rw [e1, e2, wrap64 (n := e + (zP e : Int)) (by omega) (by omega)]
        refine internal_strconv_log10Pow2_call (log10_ok (by omega) (by omega) ⟨by omega, by omega, by omega, rfl, ?_, ?_, ?_, ?_⟩)
        · have : -5000 ≤ log10P (e + (zP e : Int)) ∧ log10P (e + (zP e : Int)) ≤ 5000 := by unfold log10P; omega
          rw [wrap64 (by omega) (by omega), hp]
          omega
        · rw [one (zP e - 1) rfl (by omega), wrapU64, hmn]
          omega
        · rw [one (zP e - 1) rfl (by omega), wrapU64]
          unfold maxP
          omega
        · exact hodd rfl
  · rintro p mn mx od k ⟨rfl, rfl, rfl, rfl, rfl⟩
    have bn : 2305843009213693952 ≤ minP m e ∧ minP m e < 18446744073709551616 := by unfold minP; split <;> omega
    have bx : 2305843009213693952 ≤ maxP m e ∧ maxP m e < 18446744073709551616 := by unfold maxP; omega
    obtain ⟨r0, r1, r2⟩ := row_in p0 p1
    intro b ty hb
    have hb11 : b ≠ 11 := fun e1 => t.known (e1 ▸ hb)
    have hle := set_new (o := .cells #[.int .u64 (0 : Int), .int .u64 (0 : Int), .int .i64 (0 : Int)] ty (0, 0)) hb
    have kb : Blk (k.set b (.cells #[.int .u64 (0 : Int), .int .u64 (0 : Int), .int .i64 (0 : Int)] ty (0, 0))) b [.int .u64 (0 : Int), .int .u64 (0 : Int), .int .i64 (0 : Int)] := ⟨ty, set_self⟩
    refine internal_strconv_log2Pow10_call (log2_ok (by omega) (by omega) ?_)
    refine internal_strconv_prescale_call (prescale_ok kb (ldIs_mono hle t) hb11 p0 p1 rfl s0 s1 fun k1 mv sc => ?_)
    have hle1 : k ≤ k1 := fun c o hc => mv.keep c o (hle c o hc) (by
      simp only [List.mem_singleton]
      intro e1
      rw [e1, hb] at hc
      cases hc)
    have scale : ∀ {x : Nat} {Q' : Int → Hp → Prop}, 2305843009213693952 ≤ x → x < 18446744073709551616 → Q' ((sclP m e x : Nat) : Int) k1 → CallT Tryz.prog n_internal_strconv_uscale [(.int .u64 (x : Int)), (.pointer (some ⟨b, 0, none⟩))] (shInt .u64) Q' k1 := fun {x Q'} x0 x1 hq =>
      internal_strconv_uscale_call (uscale_ok x1 r1 r2 (by omega) (big_prod x0 r0) sc hq)
    have slt : ∀ {x : Nat}, x < 18446744073709551616 → sclP m e x < 18446744073709551616 := fun hx => uscaleN_lt hx r1
    refine scale bn.1 bn.2 ?_
    refine internal_strconv_unrounded_nudge_call (nudge_ok (odd := oddP m e) (up := true) (slt bn.2) (by simp) ?_)
    refine internal_strconv_unrounded_ceil_call (ceil_ok ?_)
    refine scale bx.1 bx.2 ?_
    refine internal_strconv_unrounded_nudge_call (nudge_ok (odd := oddP m e) (up := false) (slt bx.2) (by cases oddP m e <;> decide) ?_)
    refine internal_strconv_unrounded_floor_call (floor_ok (nudge_lt (slt bx.2)) ⟨by decide, ?_⟩)
    have hdx : dmaxP m e = nudgeP (sclP m e (maxP m e)) (oddP m e) false / 4 := rfl
    have hdn : dminP m e = (nudgeP (sclP m e (minP m e)) (oddP m e) true + 3) % 18446744073709551616 / 4 := rfl
    have ldx : dmaxP m e < 18446744073709551616 := by rw [hdx]; have := nudge_lt (a := oddP m e) (b := false) (slt bx.2); omega
    rw [← hdx, ← hdn]
    have e1 : IntKind.wrap .u64 (Int.tdiv ((dmaxP m e : Nat) : Int) (10 : Int)) = ((dmaxP m e / 10 : Nat) : Int) := by
      rw [Int.tdiv_eq_ediv_of_nonneg (by omega), wrapU64]
      omega
    have e2 : IntKind.wrap .u64 (((dmaxP m e / 10 : Nat) : Int) * (10 : Int)) = ((dmaxP m e / 10 * 10 : Nat) : Int) := by
      rw [wrapU64]
      omega
    rw [e1, e2]
    have hk1 := hk k1 hle1
    unfold shortP at hk1
    by_cases c1 : dminP m e ≤ dmaxP m e / 10 * 10
    · rw [if_pos c1] at hk1
      refine iteT (decide_eq_true (by omega)) ?_
      rw [wrap64 (n := pP m e - 1) (by omega) (by omega), wrap64 (by omega) (by omega), Int.zero_sub]
      exact hk1
    · rw [if_neg c1] at hk1
      refine iteF (fun hh => c1 (by have := of_decide_eq_true hh; omega)) ?_
      rw [wrap64 (n := 0 - pP m e) (by omega) (by omega), Int.zero_sub]
      by_cases c2 : dminP m e < dmaxP m e
      · rw [if_pos c2] at hk1
        refine iteT (decide_eq_true (by omega)) ?_
        refine scale (by omega) (by omega) ?_
        exact internal_strconv_unrounded_round_call (round_ok (slt (by omega)) hk1)
      · rw [if_neg c2] at hk1
        exact iteF (fun hh => c2 (by have := of_decide_eq_true hh; omega)) hk1
end
end Lf

/-
  Digits of a number, laid into memory.
-/
set_option autoImplicit false
namespace Lf
open Go Go.Proofs

def digC (d : Nat) : Value := .int .u8 ((48 + d : Nat) : Int)
/-- So many digits of a number. -/
def digV : Nat → Nat → List Value
  | 0, _ => []
  | n + 1, u => digV n (u / 10) ++ [digC (u % 10)]

theorem digV_len : ∀ n u, (digV n u).length = n
  | 0, _ => rfl
  | n + 1, u => by rw [digV, List.length_append, digV_len n]; rfl

theorem digV_two (n u : Nat) : digV (n + 2) u = digV n (u / 100) ++ [digC (u % 100 / 10), digC (u % 100 % 10)] := by
  rw [digV, digV, Nat.div_div_eq_div_mul, List.append_assoc, show u / 10 % 10 = u % 100 / 10 by omega, show u % 10 = u % 100 % 10 by omega]
  rfl

theorem smalls_get : ∀ k, k < 100 → (bl200.getD (2 * k) 0).toNat = 48 + k / 10 ∧ (bl200.getD (2 * k + 1) 0).toNat = 48 + k % 10 := by decide +kernel

theorem take_two {cs : List Value} {i : Nat} (hi : i + 2 ≤ cs.length) : ∃ x y, cs.take (i + 2) = cs.take i ++ [x, y] := by
  refine ⟨cs[i], cs[i + 1], ?_⟩
  rw [List.take_add_one, List.take_add_one, List.getElem?_eq_getElem (by omega), List.getElem?_eq_getElem (by omega), List.append_assoc]
  rfl

theorem set_two {cs suf T : List Value} {i : Nat} {v0 v1 : Value} (hi : i + 2 ≤ cs.length) : ((cs.take (i + 2) ++ suf ++ T).set (i + 1) v1).set i v0 = cs.take i ++ (v0 :: v1 :: suf) ++ T := by
  obtain ⟨x, y, e⟩ := take_two hi
  rw [e]
  have hl : (cs.take i).length = i := by rw [List.length_take]; omega
  generalize cs.take i = P at *
  subst hl
  rw [List.append_assoc, List.append_assoc, List.set_append_right (h := by omega), List.set_append_right (h := by omega)]
  simp [show P.length + 1 - P.length = 1 by omega]

section
variable {h : Hp}

/-- Two digits. -/
theorem pair_ok {a : Sl} {b o k j : Nat} {X J1 J2 : Int} {cs suf T : List Value} {K : Hp → Prop} (hX : X = ((2 * k : Nat) : Int)) (hk : k < 100) (ha : a.base = some ⟨b, o, none⟩) (h1 : J1 = ((j + 1 : Nat) : Int)) (h2 : J2 = (j : Int))
    (hn : j + 2 ≤ a.len) (hl : o + j + 2 ≤ cs.length) (kb : Blk h b (cs.take (o + (j + 2)) ++ suf ++ T)) (hK : ∀ h', Mv [b] h [b] h' → Blk h' b (cs.take (o + j) ++ (digC (k / 10) :: digC (k % 10) :: suf) ++ T) → K h') :
    ((0 : Int) ≤ IntKind.wrap .u32 (X + 1) ∧ IntKind.wrap .u32 (X + 1) < 200) ∧ ((0 : Int) ≤ X ∧ X < 200) ∧ InB a.base a.len J1 ∧ StW h (sat a.base 1 J1) [.int .u8 (((UInt8.toNat (List.getD bl200 (Int.toNat (IntKind.wrap .u32 (X + 1))) 0)) : Nat) : Int)] (fun h2 =>
      InB a.base a.len J2 ∧ StW h2 (sat a.base 1 J2) [.int .u8 (((UInt8.toNat (List.getD bl200 (Int.toNat X) 0)) : Nat) : Int)] K) := by
  subst hX h1 h2
  obtain ⟨g0, g1⟩ := smalls_get k hk
  have e1 : IntKind.wrap .u32 (((2 * k : Nat) : Int) + 1) = ((2 * k + 1 : Nat) : Int) := by rw [wrap32]; omega
  rw [e1, Int.toNat_natCast, Int.toNat_natCast, g0, g1]
  have s1 : sat a.base 1 ((j + 1 : Nat) : Int) = ⟨b, o + (j + 1), none⟩ := by rw [ha]; show Addr.add ⟨b, o, none⟩ _ = _; rw [box_add]; simp
  have s2 : sat a.base 1 (j : Int) = ⟨b, o + j, none⟩ := by rw [ha]; show Addr.add ⟨b, o, none⟩ _ = _; rw [box_add]; simp
  rw [s1, s2]
  have tl : (cs.take (o + (j + 2))).length = o + j + 2 := by rw [List.length_take]; omega
  refine ⟨⟨by omega, by omega⟩, ⟨by omega, by omega⟩, ⟨by rw [ha]; simp, by omega, by omega⟩, put1 kb (by rw [List.length_append, List.length_append, tl]; omega) fun h1 m1 k1 => ⟨⟨by rw [ha]; simp, by omega, by omega⟩, put1 k1 (by rw [List.length_set, List.length_append, List.length_append, tl]; omega) fun h2 m2 k2 => hK h2 (m1.trans m2) ?_⟩⟩
  have e2 := set_two (cs := cs) (suf := suf) (T := T) (i := o + j) (v0 := digC (k / 10)) (v1 := digC (k % 10)) (by omega)
  rw [← e2]
  exact k2

theorem tmodN {x y : Nat} : Int.tmod (x : Int) (y : Int) = ((x % y : Nat) : Int) := by rw [Int.tmod_eq_emod_of_nonneg (by omega)]; rfl
theorem tdivN {x y : Nat} : Int.tdiv (x : Int) (y : Int) = ((x / y : Nat) : Int) := by rw [Int.tdiv_eq_ediv_of_nonneg (by omega)]; rfl

theorem pow_split (j : Nat) {v k : Nat} (h : v < 10 ^ (j + k)) : v / 10 ^ k < 10 ^ j := by
  rw [Nat.div_lt_iff_lt_mul (Nat.pow_pos (by decide)), ← Nat.pow_add]
  exact h

theorem format_ok {a : Sl} {b o u : Nat} {cs : List Value} {Q : Hp → Prop} (ha : a.base = some ⟨b, o, none⟩) (hl : o + a.len ≤ cs.length) (ha64 : a.len < 1000000) (kb : Blk h b cs) (hu : u < 10 ^ a.len) (hu64 : u < 18446744073709551616)
    (hk : ∀ h', Mv [b] h [b] h' → Blk h' b (cs.take o ++ digV a.len u ++ cs.drop (o + a.len)) → Q h') : internal_strconv_formatBase10_w Tryz.prog a u Q h := by
  unfold internal_strconv_formatBase10_w
  -- what stands so far
  have step : ∀ {v : Nat} {suf : List Value} (j : Nat), digV a.len u = digV (j + 2) v ++ suf → digV a.len u = digV j (v / 100) ++ (digC (v % 100 / 10) :: digC (v % 100 % 10) :: suf) := fun {v suf} j e => by
    rw [e, digV_two, List.append_assoc]; rfl
  refine LoopW2.intro (fun u1 nd k => ∃ (v j : Nat) (suf : List Value), u1 = (v : Int) ∧ nd = (j : Int) ∧ j ≤ a.len ∧ v < 10 ^ j ∧ v < 18446744073709551616 ∧ Mv [b] h [b] k ∧ Blk k b (cs.take (o + j) ++ suf ++ cs.drop (o + a.len)) ∧ digV a.len u = digV j v ++ suf) (fun u1 nd k => nd.toNat)
    ⟨u, a.len, [], rfl, rfl, Nat.le_refl _, hu, hu64, Mv.refl _ _, by rw [List.append_nil, List.take_append_drop]; exact kb, (List.append_nil _).symm⟩ ?_
  rintro u1 nd k ⟨v, j, suf, rfl, rfl, hj, hv, hv64, mv, kb, hd⟩
  by_cases h8 : 8 ≤ j
  · obtain ⟨i, rfl⟩ : ∃ i, j = i + 8 := ⟨j - 8, by omega⟩
    refine iteT (decide_eq_true (by omega)) ⟨by decide, by decide, by decide, by decide, by decide, by decide, by decide, by decide, ?_⟩
    have e0 : IntKind.wrap .u32 (Int.tmod (v : Int) 100000000) = ((v % 100000000 : Nat) : Int) := by rw [show (100000000 : Int) = ((100000000 : Nat) : Int) from rfl, tmodN, wrap32]; omega
    have e1 : Int.tmod ((v % 100000000 : Nat) : Int) 10000 = ((v % 10000 : Nat) : Int) := by rw [show (10000 : Int) = ((10000 : Nat) : Int) from rfl, tmodN, show v % 100000000 % 10000 = v % 10000 by omega]
    have e2 : IntKind.wrap .u32 (Int.tdiv ((v % 100000000 : Nat) : Int) 10000) = ((v / 10000 % 10000 : Nat) : Int) := by rw [show (10000 : Int) = ((10000 : Nat) : Int) from rfl, tdivN, wrap32]; omega
    have m1 : ∀ {w : Nat}, IntKind.wrap .u32 ((Int.tmod (w : Int) 100) * 2) = ((2 * (w % 100) : Nat) : Int) := fun {w} => by rw [show (100 : Int) = ((100 : Nat) : Int) from rfl, tmodN, wrap32]; omega
    have m2 : ∀ {w : Nat}, w < 10000 → IntKind.wrap .u32 (IntKind.wrap .u32 (Int.tdiv (w : Int) 100) * 2) = ((2 * (w / 100) : Nat) : Int) := fun {w} hw => by rw [show (100 : Int) = ((100 : Nat) : Int) from rfl, tdivN, wrap32, wrap32]; omega
    rw [e0, e1, e2, m1, m1, m2 (by omega), m2 (by omega)]
    have w : ∀ {c : Int} {n : Nat}, (i + 8 : Nat) - c = (n : Int) → n < 1000000 → IntKind.wrap .i64 (((i + 8 : Nat) : Int) - c) = (n : Int) := fun {c n} e hn => by rw [e, wrap64 (by omega) (by omega)]
    refine pair_ok (k := v % 10000 % 100) (j := i + 6) rfl (by omega) ha (w (by omega) (by omega)) (w (by omega) (by omega)) (by omega) (by omega) kb fun h1 n1 b1 => ?_
    have d1 := step (i + 6) hd
    refine pair_ok (k := v % 10000 / 100) (j := i + 4) rfl (by omega) ha (w (by omega) (by omega)) (w (by omega) (by omega)) (by omega) (by omega) b1 fun h2 n2 b2 => ?_
    have d2 := step (i + 4) d1
    refine pair_ok (k := v / 10000 % 10000 % 100) (j := i + 2) rfl (by omega) ha (w (by omega) (by omega)) (w (by omega) (by omega)) (by omega) (by omega) b2 fun h3 n3 b3 => ?_
    have d3 := step (i + 2) d2
    refine pair_ok (k := v / 10000 % 10000 / 100) (j := i) rfl (by omega) ha (w (by omega) (by omega)) (w (by omega) (by omega)) (by omega) (by omega) b3 fun h4 n4 b4 => ?_
    have d4 := step i d3
    have q0 : v % 10000 % 100 = v % 100 := by omega
    have q1 : v % 10000 / 100 = v / 100 % 100 := by omega
    have q2 : v / 10000 % 10000 % 100 = v / 100 / 100 % 100 := by omega
    have q3 : v / 10000 % 10000 / 100 = v / 100 / 100 / 100 % 100 := by omega
    rw [q0, q1, q2, q3] at b4
    have e8 : IntKind.wrap .u64 (Int.tdiv (v : Int) 100000000) = ((v / 100 / 100 / 100 / 100 : Nat) : Int) := by rw [show (100000000 : Int) = ((100000000 : Nat) : Int) from rfl, tdivN, wrapN (by omega)]; omega
    rw [e8, w (n := i) (by omega) (by omega)]
    have hlt := pow_split i (k := 8) hv
    refine ⟨⟨_, i, _, rfl, rfl, by omega, ?_, by omega, mv.trans (n1.trans (n2.trans (n3.trans n4))), b4, d4⟩, ?_⟩
    · rw [show v / 100 / 100 / 100 / 100 = v / 10 ^ 8 by omega]
      exact hlt
    · omega
  · refine iteF (fun hh => h8 (by have := of_decide_eq_true hh; omega)) ?_
    have v7 : v < 10000000 := Nat.lt_of_lt_of_le hv (Nat.pow_le_pow_right (n := 10) (i := j) (j := 7) (by decide) (by omega))
    have m1 : ∀ {w : Nat}, IntKind.wrap .u32 ((Int.tmod (w : Int) 100) * 2) = ((2 * (w % 100) : Nat) : Int) := fun {w} => by rw [show (100 : Int) = ((100 : Nat) : Int) from rfl, tmodN, wrap32]; omega
    have m2 : ∀ {w : Nat}, w < 10000 → IntKind.wrap .u32 (IntKind.wrap .u32 (Int.tdiv (w : Int) 100) * 2) = ((2 * (w / 100) : Nat) : Int) := fun {w} hw => by rw [show (100 : Int) = ((100 : Nat) : Int) from rfl, tdivN, wrap32, wrap32]; omega
    have eu : IntKind.wrap .u32 (v : Int) = (v : Int) := by rw [wrap32]; omega
    rw [eu]
    have w : ∀ {j : Nat} {c : Int} {n : Nat}, (j : Int) - c = (n : Int) → n < 1000000 → IntKind.wrap .i64 ((j : Int) - c) = (n : Int) := fun {j c n} e hn => by rw [e, wrap64 (by omega) (by omega)]
    refine JoinW2.intro (fun nd x k => ∃ (v j : Nat) (suf : List Value), x = (v : Int) ∧ nd = (j : Int) ∧ j < 4 ∧ j ≤ a.len ∧ v < 10 ^ j ∧ Mv [b] h [b] k ∧ Blk k b (cs.take (o + j) ++ suf ++ cs.drop (o + a.len)) ∧ digV a.len u = digV j v ++ suf) ?_ ?_
    · by_cases h4 : 4 ≤ j
      · obtain ⟨i, rfl⟩ : ∃ i, j = i + 4 := ⟨j - 4, by omega⟩
        refine iteT (decide_eq_true (by omega)) ⟨by decide, by decide, by decide, by decide, ?_⟩
        have e1 : Int.tmod (v : Int) 10000 = ((v % 10000 : Nat) : Int) := by rw [show (10000 : Int) = ((10000 : Nat) : Int) from rfl, tmodN]
        rw [e1, m1, m2 (by omega)]
        refine pair_ok (k := v % 10000 % 100) (j := i + 2) rfl (by omega) ha (w (by omega) (by omega)) (w (by omega) (by omega)) (by omega) (by omega) kb fun h1 n1 b1 => ?_
        have d1 := step (i + 2) hd
        refine pair_ok (k := v % 10000 / 100) (j := i) rfl (by omega) ha (w (by omega) (by omega)) (w (by omega) (by omega)) (by omega) (by omega) b1 fun h2 n2 b2 => ?_
        have d2 := step i d1
        have q0 : v % 10000 % 100 = v % 100 := by omega
        have q1 : v % 10000 / 100 = v / 100 % 100 := by omega
        rw [q0, q1] at b2
        have e8 : IntKind.wrap .u32 (Int.tdiv (v : Int) 10000) = ((v / 100 / 100 : Nat) : Int) := by rw [show (10000 : Int) = ((10000 : Nat) : Int) from rfl, tdivN, wrap32]; omega
        have hlt := pow_split i (k := 4) hv
        rw [e8, w (n := i) (by omega) (by omega)]
        refine ⟨_, i, _, rfl, rfl, by omega, by omega, ?_, mv.trans (n1.trans n2), b2, d2⟩
        rw [show v / 100 / 100 = v / 10 ^ 4 by omega]
        exact hlt
      · exact iteF (fun hh => h4 (by have := of_decide_eq_true hh; omega)) ⟨v, j, suf, rfl, rfl, by omega, hj, hv, mv, kb, hd⟩
    · clear v7 eu kb hd mv hv hv64 hj h8 v j suf
      rintro nd x k1 ⟨v, j, suf, rfl, rfl, hj4, hj, hv, mv, kb, hd⟩
      have v3 : v < 1000 := Nat.lt_of_lt_of_le hv (Nat.pow_le_pow_right (n := 10) (i := j) (j := 3) (by decide) (by omega))
      refine JoinW2.intro (fun nd x k => ∃ (v j : Nat) (suf : List Value), x = (v : Int) ∧ nd = (j : Int) ∧ j < 2 ∧ j ≤ a.len ∧ v < 10 ^ j ∧ Mv [b] h [b] k ∧ Blk k b (cs.take (o + j) ++ suf ++ cs.drop (o + a.len)) ∧ digV a.len u = digV j v ++ suf) ?_ ?_
      · by_cases h2 : 2 ≤ j
        · obtain ⟨i, rfl⟩ : ∃ i, j = i + 2 := ⟨j - 2, by omega⟩
          refine iteT (decide_eq_true (by omega)) ⟨by decide, by decide, ?_⟩
          rw [m1]
          refine pair_ok (k := v % 100) (j := i) rfl (by omega) ha (w (by omega) (by omega)) (w (by omega) (by omega)) (by omega) (by omega) kb fun h1 n1 b1 => ?_
          have d1 := step i hd
          have e8 : IntKind.wrap .u32 (Int.tdiv (v : Int) 100) = ((v / 100 : Nat) : Int) := by rw [show (100 : Int) = ((100 : Nat) : Int) from rfl, tdivN, wrap32]; omega
          have hlt := pow_split i (k := 2) hv
          rw [e8, w (n := i) (by omega) (by omega)]
          exact ⟨_, i, _, rfl, rfl, by omega, by omega, hlt, mv.trans n1, b1, d1⟩
        · exact iteF (fun hh => h2 (by have := of_decide_eq_true hh; omega)) ⟨v, j, suf, rfl, rfl, by omega, hj, hv, mv, kb, hd⟩
      · clear v3 kb hd mv hv hj4 hj v j suf
        rintro nd x k2 ⟨v, j, suf, rfl, rfl, hj4, hj, hv, mv, kb, hd⟩
        by_cases h0 : 0 < j
        · obtain rfl : j = 1 := by omega
          refine iteT (decide_eq_true (by omega)) ⟨⟨by rw [ha]; simp, by omega, by omega⟩, ?_⟩
          have s1 : sat a.base 1 (0 : Int) = ⟨b, o, none⟩ := by rw [ha]; show Addr.add ⟨b, o, none⟩ _ = _; rw [box_add]; simp
          have e1 : IntKind.wrap .u8 (IntKind.wrap .u32 ((48 : Int) + (v : Int))) = ((48 + v : Nat) : Int) := by
            rw [wrap32, show IntKind.wrap .u8 ((48 + (v : Int)) % 4294967296) = ((48 + (v : Int)) % 4294967296) % 256 from rfl]
            omega
          rw [s1, e1]
          have tl : (cs.take (o + 1)).length = o + 1 := by rw [List.length_take]; omega
          refine put1 kb (by rw [List.length_append, List.length_append, tl]; omega) fun h3 m3 k3 => hk h3 (mv.trans m3) ?_
          rw [hd, show digV 1 v = [digC v] by rw [digV, digV, Nat.mod_eq_of_lt (by omega)]; rfl]
          have e2 : (cs.take (o + 1) ++ suf ++ cs.drop (o + a.len)).set o (digC v) = cs.take o ++ ([digC v] ++ suf) ++ cs.drop (o + a.len) := by
            rw [List.take_add_one, List.getElem?_eq_getElem (by omega)]
            have hl' : (cs.take o).length = o := by rw [List.length_take]; omega
            generalize cs.take o = P at *
            subst hl'
            simp
          rw [← e2]
          exact k3
        · obtain rfl : j = 0 := by omega
          refine iteF (fun hh => h0 (by have := of_decide_eq_true hh; omega)) (hk k2 mv ?_)
          rw [hd]
          simpa [digV] using kb
end
end Lf

/-
  How many digits a number has; its digits without zeros last.
-/
set_option autoImplicit false
namespace Lf
open Go Go.Proofs

theorem len8_get : ∀ n, n < 256 → (bl256.getD n 0).toNat = bitsN n := by decide +kernel

theorem bitsN_shift {n k : Nat} (h : 2 ^ k ≤ n) : bitsN n = k + bitsN (n / 2 ^ k) := by
  have hp := Nat.two_pow_pos k
  have h1 := bitsN_lt (n / 2 ^ k)
  have h0 : n / 2 ^ k ≠ 0 := fun e => by rw [Nat.div_eq_zero_iff] at e; omega
  have h2 := bitsN_ge h0
  have hb : 0 < bitsN (n / 2 ^ k) := by unfold bitsN; rw [if_neg h0]; omega
  refine bitsN_eq ?_ fun _ => ?_
  · rw [Nat.div_lt_iff_lt_mul hp, ← Nat.pow_add, Nat.add_comm] at h1
    exact h1
  · rw [Nat.le_div_iff_mul_le hp, ← Nat.pow_add] at h2
    rw [show k + bitsN (n / 2 ^ k) - 1 = bitsN (n / 2 ^ k) - 1 + k by omega]
    exact h2

theorem wrap8n {n : Nat} (h1 : n < 256) : IntKind.wrap .u8 (n : Int) = (n : Int) := by
  show (n : Int) % 256 = n
  omega

theorem bitsN_le2 {n k : Nat} (h : n < 2 ^ k) : bitsN n ≤ k := by
  by_cases h0 : n = 0
  · subst h0; simp [bitsN]
  · have := bitsN_ge h0
    have h2 : 2 ^ (bitsN n - 1) < 2 ^ k := Nat.lt_of_le_of_lt this h
    have := (Nat.pow_lt_pow_iff_right (a := 2) (by decide)).1 h2
    omega

section
variable {h : Hp}

theorem len64_ok {n : Nat} {Q : Int → Hp → Prop} (hn : n < 18446744073709551616) (hq : Q (bitsN n : Int) h) : math_bits_Len64_w Tryz.prog (n : Int) Q h := by
  unfold math_bits_Len64_w
  refine JoinW2.intro (fun x1 n1 k => k = h ∧ ∃ (m c : Nat), x1 = (m : Int) ∧ n1 = (c : Int) ∧ m < 4294967296 ∧ c ≤ 32 ∧ bitsN n = c + bitsN m) ?_ ?_
  · by_cases hb : (n : Int) ≥ 4294967296
    · refine iteT (decide_eq_true hb) ⟨by decide, rfl, n / 2 ^ 32, 32, shrN n (n := 32) (by decide), rfl, ?_, by decide, bitsN_shift (by omega)⟩
      rw [Nat.div_lt_iff_lt_mul (by decide)]
      omega
    · exact iteF (fun hh => hb (of_decide_eq_true hh)) ⟨rfl, n, 0, rfl, rfl, by omega, by decide, by omega⟩
  · rintro x1 n1 k ⟨rfl, m, c, rfl, rfl, hm, hc, he⟩
    refine JoinW2.intro (fun x2 n2 k' => k' = k ∧ ∃ (m c : Nat), x2 = (m : Int) ∧ n2 = (c : Int) ∧ m < 65536 ∧ c ≤ 48 ∧ bitsN n = c + bitsN m) ?_ ?_
    · by_cases hb : (m : Int) ≥ 65536
      · rw [wrap64 (by omega) (by omega)]
        refine iteT (decide_eq_true hb) ⟨by decide, rfl, m / 2 ^ 16, c + 16, shrN m (n := 16) (by decide), by omega, ?_, by omega, ?_⟩
        · rw [Nat.div_lt_iff_lt_mul (by decide)]
          omega
        · rw [he, bitsN_shift (n := m) (k := 16) (by omega)]
          omega
      · exact iteF (fun hh => hb (of_decide_eq_true hh)) ⟨rfl, m, c, rfl, rfl, by omega, by omega, he⟩
    · clear he hc hm m c
      rintro x2 n2 k' ⟨rfl, m, c, rfl, rfl, hm, hc, he⟩
      by_cases hb : (m : Int) ≥ 256
      · have e1 : shrI .u64 (m : Int) 8 = ((m / 2 ^ 8 : Nat) : Int) := shrN m (n := 8) (by decide)
        have hlt : m / 2 ^ 8 < 256 := by
          rw [Nat.div_lt_iff_lt_mul (by decide)]
          omega
        refine iteT (decide_eq_true hb) ⟨by decide, ?_⟩
        have hs := bitsN_le2 (k := 8) hlt
        have hb2 := bitsN_shift (n := m) (k := 8) (by omega)
        rw [e1, wrap8n hlt, Int.toNat_natCast, len8_get _ hlt, wrap64 (n := (c : Int) + 8) (by omega) (by omega), wrap64 (n := ((bitsN (m / 2 ^ 8) : Nat) : Int)) (by omega) (by omega), wrap64 (by omega) (by omega)]
        rw [show (c : Int) + 8 + ((bitsN (m / 2 ^ 8) : Nat) : Int) = (bitsN n : Int) by omega]
        exact ⟨⟨by omega, by omega⟩, hq⟩
      · have hlt : m < 256 := by omega
        have hs := bitsN_le2 (k := 8) hlt
        refine iteF (fun hh => hb (of_decide_eq_true hh)) ?_
        rw [wrap8n hlt, Int.toNat_natCast, len8_get _ hlt, wrap64 (n := ((bitsN m : Nat) : Int)) (by omega) (by omega), wrap64 (by omega) (by omega)]
        rw [show (c : Int) + ((bitsN m : Nat) : Int) = (bitsN n : Int) by omega]
        exact ⟨⟨by omega, by omega⟩, hq⟩

/-- The table of small powers of ten in memory. -/
abbrev Small10 (h : Hp) : Prop := LdIs h ⟨7, 0, none⟩ ((List.range 20).map fun k => Value.int .u64 ((10 ^ k : Nat) : Int))

theorem small10_at (t : Small10 h) {k : Nat} (hk : k < 20) : LdIs h ⟨7, k, none⟩ [.int .u64 ((10 ^ k : Nat) : Int)] := by
  have c := t k (.int .u64 ((10 ^ k : Nat) : Int)) (by simp [List.getElem?_range hk])
  rw [box_add, Nat.zero_add] at c
  exact one_cell c

theorem log10_bits : ∀ b : Nat, b < 65 → 1 ≤ b → 0 ≤ log10P (b : Int) ∧ log10P (b : Int) < 20 ∧ 2 ^ b ≤ 10 ^ ((log10P (b : Int)).toNat + 1) ∧ (1 ≤ log10P (b : Int) → 10 ^ ((log10P (b : Int)).toNat - 1) ≤ 2 ^ (b - 1)) := by decide +kernel

theorem boolI_ok {b : Bool} {Q : Int → Hp → Prop} (hq : Q ((b.toNat : Nat) : Int) h) : internal_strconv_bool2_int_w Tryz.prog b Q h := by
  unfold internal_strconv_bool2_int_w
  cases b
  · exact hq
  · exact hq

theorem numDigits_ok {d : Nat} {Q : Int → Hp → Prop} (h0 : d ≠ 0) (h1 : d < 18446744073709551616) (t : Small10 h) (hk : ∀ n : Nat, 1 ≤ n → n ≤ 20 → 10 ^ (n - 1) ≤ d → d < 10 ^ n → Q (n : Int) h) : internal_strconv_numDigits_w Tryz.prog d Q h := by
  unfold internal_strconv_numDigits_w
  have b1 : 1 ≤ bitsN d := by unfold bitsN; rw [if_neg h0]; omega
  have b2 : bitsN d ≤ 64 := bitsN_le2 (k := 64) h1
  obtain ⟨l0, l1, l2, l3⟩ := log10_bits (bitsN d) (by omega) b1
  have d1 := bitsN_lt d
  have d2 := bitsN_ge h0
  refine math_bits_Len64_call (len64_ok h1 ?_)
  refine internal_strconv_log10Pow2_call (log10_ok (by omega) (by omega) ⟨⟨l0, l1⟩, ?_⟩)
  obtain ⟨k, hk'⟩ : ∃ k : Nat, log10P (bitsN d) = k := ⟨_, (Int.toNat_of_nonneg l0).symm⟩
  rw [hk'] at l0 l1 l2 l3 ⊢
  rw [Int.toNat_natCast] at l2 l3 ⊢
  have ea : Addr.add ⟨7, 0, none⟩ (k * 1) = ⟨7, k, none⟩ := by rw [box_add]; simp
  rw [ea]
  refine ld_at (sh := shInt .u64) ((10 ^ k : Nat) : Int) (small10_at t (by omega)) ?_
  refine internal_strconv_bool2_int_call (boolI_ok ?_)
  by_cases hc : 10 ^ k ≤ d
  · rw [decide_eq_true (by exact Int.ofNat_le.2 hc), wrap64 (by rw [Bool.toNat_true]; omega) (by rw [Bool.toNat_true]; omega)]
    exact hk (k + 1) (by omega) (by omega) hc (Nat.lt_of_lt_of_le d1 l2)
  · have k1 : 1 ≤ k := by
      rcases Nat.eq_zero_or_pos k with e | e
      · subst e; omega
      · exact e
    rw [decide_eq_false (fun hh => hc (Int.ofNat_le.1 hh)), wrap64 (by rw [Bool.toNat_false]; omega) (by rw [Bool.toNat_false]; omega)]
    have := hk k k1 (by omega) (Nat.le_trans (l3 (by omega)) d2) (by omega)
    simpa using this

theorem digV_get : ∀ (n u i : Nat), i < n → (digV n u)[i]? = some (digC (u / 10 ^ (n - 1 - i) % 10))
  | 0, _, _, h => by omega
  | n + 1, u, i, h => by
    rw [digV]
    by_cases hi : i < n
    · rw [List.getElem?_append_left (by rw [digV_len]; exact hi), digV_get n (u / 10) i hi, Nat.div_div_eq_div_mul, ← Nat.pow_succ', show (n - 1 - i).succ = n + 1 - 1 - i by omega]
    · rw [List.getElem?_append_right (by rw [digV_len]; omega), digV_len, show i - n = 0 by omega, show n + 1 - 1 - i = 0 by omega]
      simp

theorem setDigits_ok {s : Sl} {b d n : Nat} {p : Int} {cs : List Value} {Q : Int → Int → Hp → Prop} (hb : s.base = some ⟨b, 0, none⟩) (hs : s.len = cs.length) (hc : s.cap = s.len) (hl : s.len < 1000000) (kb : Blk h b cs)
    (d0 : d ≠ 0) (d1 : d < 18446744073709551616) (hn : n ≤ s.len) (hd : d < 10 ^ n) (p0 : -100000 ≤ p) (p1 : p ≤ 100000)
    (hk : ∀ h' k v, Mv [b] h [b] h' → Blk h' b (digV n d ++ cs.drop n) → d = v * 10 ^ k → v % 10 ≠ 0 → k < n → Q (n + p) ((n - k : Nat) : Int) h') : internal_strconv_setDigits_w Tryz.prog s d p n Q h := by
  unfold internal_strconv_setDigits_w
  refine iteT (decide_eq_true (by omega)) ⟨⟨by omega, by omega⟩, letW ?_⟩
  rw [Int.toNat_natCast]
  have eb : sbase s.base 1 0 s.cap = some ⟨b, 0, none⟩ := by
    unfold sbase
    rw [hb]
    split
    · rfl
    · show some (Addr.add _ _) = _
      rw [box_add]
  rw [eb]
  refine internal_strconv_formatBase10_call (format_ok (a := ⟨some ⟨b, 0, none⟩, n - 0, s.cap - 0⟩) rfl (by show 0 + (n - 0) ≤ _; omega) (by show n - 0 < _; omega) kb (by show d < 10 ^ (n - 0); exact hd) d1 fun h1 mv k1 => ?_)
  have k1 : Blk h1 b (digV n d ++ cs.drop n) := by
    have e : cs.take 0 ++ digV (n - 0) d ++ cs.drop (0 + (n - 0)) = digV n d ++ cs.drop n := by simp
    rw [← e]
    exact k1
  have nz : ∀ {v k : Nat}, d = v * 10 ^ k → v ≠ 0 := fun {v k} e e0 => d0 (by rw [e, e0, Nat.zero_mul])
  have lt : ∀ {v k : Nat}, d = v * 10 ^ k → k ≤ n → k < n := fun {v k} e hk' => by
    rcases Nat.lt_or_ge k n with hlt | hge
    · exact hlt
    · have : k = n := by omega
      subst this
      have := nz e
      have h2 : 1 * 10 ^ k ≤ v * 10 ^ k := Nat.mul_le_mul_right _ (by omega)
      omega
  refine LoopW1.intro (fun nd k => k = h1 ∧ ∃ (j v : Nat), nd = ((n - j : Nat) : Int) ∧ j ≤ n ∧ d = v * 10 ^ j) (fun nd _ => nd.toNat) ⟨rfl, 0, d, rfl, by omega, by simp⟩ ?_
  rintro nd k ⟨rfl, j, v, rfl, hj, hv⟩
  have hjn := lt hv hj
  have hpos : ((n - j : Nat) : Int) > 0 := by omega
  rw [decide_eq_true hpos]
  have e1 : IntKind.wrap .i64 (((n - j : Nat) : Int) - 1) = ((n - j - 1 : Nat) : Int) := by rw [wrap64 (by omega) (by omega)]; omega
  rw [e1]
  have ea : sat s.base 1 ((n - j - 1 : Nat) : Int) = ⟨b, n - j - 1, none⟩ := by rw [hb]; show Addr.add ⟨b, 0, none⟩ _ = _; rw [box_add]; simp
  rw [ea]
  have hcell : ((digV n d ++ cs.drop n).drop (n - j - 1)).take 1 = [digC (v % 10)] := by
    have hg := digV_get n d (n - j - 1) (by omega)
    rw [show n - 1 - (n - j - 1) = j by omega, hv, Nat.mul_div_cancel _ (Nat.pow_pos (by decide)), ← hv] at hg
    have hg2 : (digV n d ++ cs.drop n)[n - j - 1]? = some (digC (v % 10)) := by rw [List.getElem?_append_left (by rw [digV_len]; omega)]; exact hg
    rw [List.take_one, List.head?_drop, hg2]
    rfl
  refine ⟨fun _ => ⟨by rw [hb]; simp, by omega, by omega⟩, ((48 + v % 10 : Nat) : Int), fun _ => k1.ldIs hcell, letW ?_⟩
  rw [Bool.true_and]
  by_cases hz : v % 10 = 0
  · refine iteT (by rw [hz]; rfl) ⟨⟨rfl, j + 1, v / 10, ?_, by omega, ?_⟩, ?_⟩
    · exact congrArg Nat.cast (show n - j - 1 = n - (j + 1) by omega)
    · rw [hv, Nat.pow_succ', ← Nat.mul_assoc, Nat.div_mul_cancel (Nat.dvd_of_mod_eq_zero hz)]
    · omega
  · refine iteF (fun hh => hz (by have : ((48 + v % 10 : Nat) : Int) = 48 := beq_iff_eq.1 hh; omega)) ?_
    rw [wrap64 (by omega) (by omega)]
    exact hk k j v mv k1 hv hz hjn
end
end Lf

/-
  Floats as texts: digits, a point, an exponent.
-/
set_option autoImplicit false
namespace Lf
open Go Go.Proofs

/-- A byte in memory. -/
def eN (n : Nat) : List Value := [.int .u8 (n : Int)]
theorem eN_len (n : Nat) : (eN n).length = 1 := rfl
theorem eN_ok (n : Nat) : okCells (eN n) = true := rfl

theorem eN_map : ∀ ds : List Nat, (ds.map fun (c : Nat) => Value.int .u8 (c : Int)) = ds.flatMap eN
  | [] => rfl
  | c :: ds => by rw [List.map_cons, eN_map ds, List.flatMap_cons]; rfl

/-- An exponent's digits. -/
def expL (n : Nat) : List Nat := if n < 10 then [48, 48 + n] else if n < 100 then [48 + n / 10, 48 + n % 10] else [48 + n / 100, 48 + n / 10 % 10, 48 + n % 10]
/-- Digits, a point, an exponent. -/
def sciL (neg : Bool) (d : Nat) (ds : List Nat) (e : Int) : List Nat :=
  (if neg then [45] else []) ++ [d] ++ (if ds = [] then [] else 46 :: ds) ++ [101, if e < 0 then 45 else 43] ++ expL e.natAbs

section
variable {h0 h : Hp}

abbrev ON (h0 h : Hp) (l : Sl) (xs : List Nat) : Prop := Own h0 h 1 eN l xs

theorem app1 {l : Sl} {xs : List Nat} {v : Int} {c : Nat} {K : Sl → Hp → Prop} (hw : h0 ≤ h) (o : ON h0 h l xs) (hv : v = (c : Int)) (hb : xs.length < 1000000) (hk : ∀ l' h', h0 ≤ h' → ON h0 h' l' (xs ++ [c]) → K l' h') :
    NewW [.int .u8 v] (fun a h2 => AppendW 1 1 [.int .u8 (0 : Int)] l ⟨some a, 1, 1⟩ K h2) h := by
  subst hv
  exact app_new hw o (ys := [c]) rfl rfl eN_len eN_ok rfl (by simp only [List.length_singleton]; omega) fun l' h' a b _ => hk l' h' a b

theorem app2 {l : Sl} {xs : List Nat} {v w : Int} {c d : Nat} {K : Sl → Hp → Prop} (hw : h0 ≤ h) (o : ON h0 h l xs) (hv : v = (c : Int)) (hv2 : w = (d : Int)) (hb : xs.length < 1000000) (hk : ∀ l' h', h0 ≤ h' → ON h0 h' l' (xs ++ [c, d]) → K l' h') :
    NewW [.int .u8 v, .int .u8 w] (fun a h2 => AppendW 1 1 [.int .u8 (0 : Int)] l ⟨some a, 2, 2⟩ K h2) h := by
  subst hv hv2
  exact app_new hw o (ys := [c, d]) rfl rfl eN_len eN_ok rfl (by simp only [List.length_cons, List.length_nil]; omega) fun l' h' a b _ => hk l' h' a b

theorem app3 {l : Sl} {xs : List Nat} {v w z : Int} {c d e : Nat} {K : Sl → Hp → Prop} (hw : h0 ≤ h) (o : ON h0 h l xs) (hv : v = (c : Int)) (hv2 : w = (d : Int)) (hv3 : z = (e : Int)) (hb : xs.length < 1000000) (hk : ∀ l' h', h0 ≤ h' → ON h0 h' l' (xs ++ [c, d, e]) → K l' h') :
    NewW [.int .u8 v, .int .u8 w, .int .u8 z] (fun a h2 => AppendW 1 1 [.int .u8 (0 : Int)] l ⟨some a, 3, 3⟩ K h2) h := by
  subst hv hv2 hv3
  exact app_new hw o (ys := [c, d, e]) rfl rfl eN_len eN_ok rfl (by simp only [List.length_cons, List.length_nil]; omega) fun l' h' a b _ => hk l' h' a b

theorem byte8 (x : Int) : IntKind.wrap .u8 x = x % 256 := rfl

/-- A text of a number, a sign ahead of it. -/
theorem efg_ok {dst s : Sl} {xs : List Nat} {b : Nat} {cs : List Value} {neg : Bool} {d : Nat} {ds : List Nat} {dp nd prec : Int} {Q : Sl → Hp → Prop} (hw : h0 ≤ h) (o : ON h0 h dst xs) (hx : xs.length < 1000) (hb : s.base = some ⟨b, 0, none⟩) (kb : Blk h0 b cs)
    (hs : s.len = cs.length) (hc : s.cap = s.len) (hl : s.len < 1000) (hn : nd = ((ds.length + 1 : Nat) : Int)) (hcs : cs.take (ds.length + 1) = (d :: ds).map fun (c : Nat) => Value.int .u8 (c : Int)) (hp : prec = ds.length) (p0 : -999 < dp) (p1 : dp < 1000)
    (hk : ∀ r h', h0 ≤ h' → ON h0 h' r (xs ++ sciL neg d ds (dp - 1)) → Q r h') : internal_strconv_fmtEFG_w Tryz.prog dst neg s dp nd prec (101 : Int) true Q h := by
  have hlen : ds.length + 1 ≤ cs.length := by
    have := congrArg List.length hcs
    simp only [List.length_take, List.length_map, List.length_cons] at this
    omega
  unfold internal_strconv_fmtEFG_w
  refine JoinW2.direct (letW (iteF (by decide) ?_))
  refine JoinW1.direct (iteT (by decide) (iteT (by decide) ?_))
  -- a sign
  refine JoinW1.intro (fun l k => h0 ≤ k ∧ ON h0 k l (xs ++ if neg then [45] else [])) ?_ ?_
  · cases neg with
    | true => exact iteT rfl (app1 hw o (c := 45) rfl (by omega) fun l' h' a b => ⟨a, b⟩)
    | false => exact iteF (by decide) ⟨hw, by simpa using o⟩
  rintro l1 k1 ⟨w1, o1⟩
  have len1 : (xs ++ if neg then [45] else []).length < 1002 := by cases neg <;> simp <;> omega
  -- the first digit
  refine JoinW1.intro (fun c k => k = k1 ∧ c = (d : Int)) ?_ ?_
  · refine iteT (by rw [hn]; exact bne_iff_ne.2 (by omega)) ⟨⟨by rw [hb]; simp, by omega, by omega⟩, ld_at (sh := shInt .u8) (d : Int) ?_ ⟨rfl, rfl⟩⟩
    have e : sat s.base 1 (0 : Int) = ⟨b, 0, none⟩ := by rw [hb]; show Addr.add ⟨b, 0, none⟩ _ = _; rw [box_add]; rfl
    rw [e]
    refine (kb.le w1).ldIs (n := 1) ?_
    show List.take 1 (List.drop 0 cs) = [Value.int .u8 (d : Int)]
    have := congrArg (List.take 1) hcs
    rw [List.take_take, show min 1 (ds.length + 1) = 1 by omega] at this
    simpa using this
  rintro _ k1 ⟨rfl, rfl⟩
  refine app1 w1 o1 rfl (by omega) fun l2 k2 w2 o2 => ?_
  -- the others
  refine JoinW1.intro (fun l k => h0 ≤ k ∧ ON h0 k l (xs ++ (if neg then [45] else []) ++ [d] ++ if ds = [] then [] else 46 :: ds)) ?_ ?_
  · rw [hp]
    by_cases hds : ds = []
    · exact iteF (by rw [hds]; decide) ⟨w2, by rw [if_pos hds]; simpa using o2⟩
    · have hd1 : 1 ≤ ds.length := by
        cases ds with
        | nil => exact absurd rfl hds
        | cons _ _ => simp
      refine iteT (decide_eq_true (by omega)) (app1 w2 o2 (c := 46) rfl (by rw [List.length_append]; simp only [List.length_singleton]; omega) fun l3 k3 w3 o3 => ?_)
      have emin : min2I nd (IntKind.wrap .i64 ((ds.length : Int) + (1 : Int))) = ((ds.length + 1 : Nat) : Int) := by
        rw [wrap64 (by omega) (by omega), hn]
        unfold min2I
        split <;> omega
      rw [emin]
      refine JoinW2.intro (fun l i k => h0 ≤ k ∧ i = ((ds.length + 1 : Nat) : Int) ∧ ON h0 k l (xs ++ (if neg then [45] else []) ++ [d] ++ 46 :: ds)) ?_ ?_
      · refine iteT (decide_eq_true (by omega)) ⟨⟨by decide, by omega, by omega⟩, letW ?_⟩
        rw [Int.toNat_natCast]
        have hrow : Rw k3 1 eN ⟨sbase s.base 1 1 s.cap, ds.length + 1 - 1, s.cap - 1⟩ ds := by
          refine ⟨by show ds.length + 1 - 1 = _; omega, ?_⟩
          have eb : sbase s.base 1 1 s.cap = some ⟨b, 1, none⟩ := by
            unfold sbase
            rw [hb, if_neg (by omega)]
            show some (Addr.add _ _) = _
            rw [box_add]
          show RdCells k3 (sbase s.base 1 1 s.cap) (ds.length * 1) (ds.flatMap eN)
          rw [eb]
          refine (kb.le w3).rd (by rw [flat_len eN_len]) ?_
          have := congrArg (List.drop 1) hcs
          rw [List.drop_take, Nat.add_sub_cancel] at this
          rw [Nat.mul_one, this]
          simp only [List.map_cons, List.drop_succ_cons, List.drop_zero]
          exact eN_map ds
        refine app_own w3 o3 hrow eN_len eN_ok rfl (by rw [List.length_append, List.length_append]; simp only [List.length_singleton]; omega) fun l4 k4 w4 o4 _ => ⟨w4, rfl, ?_⟩
        simpa using o4
      · rintro l4 i k4 ⟨w4, rfl, o4⟩
        refine LoopW2.intro (fun l t k => l = l4 ∧ t = 0 ∧ k = k4) (fun _ _ _ => 0) ⟨rfl, rfl, rfl⟩ ?_
        rintro _ _ _ ⟨rfl, rfl, rfl⟩
        refine iteF (fun hh => ?_) ⟨w4, by rw [if_neg hds]; exact o4⟩
        have := of_decide_eq_true hh
        rw [wrap64 (n := (ds.length : Int) + 1) (by omega) (by omega), wrap64 (by omega) (by omega)] at this
        omega
  rintro l3 k3 ⟨w3, o3⟩
  have len3 : (xs ++ (if neg then [45] else []) ++ [d] ++ if ds = [] then [] else 46 :: ds).length < 5000 := by
    rw [List.length_append, List.length_append]
    have : (if ds = [] then [] else 46 :: ds).length ≤ ds.length + 1 := by split <;> simp
    simp only [List.length_singleton]
    omega
  refine app1 w3 o3 (c := 101) rfl (by omega) fun l4 k4 w4 o4 => ?_
  refine JoinW1.intro (fun e k => k = k4 ∧ e = dp - 1) (iteF (by rw [hn]; intro hh; have := beq_iff_eq.1 hh; omega) ⟨rfl, wrap64 (by omega) (by omega)⟩) ?_
  rintro _ k4 ⟨rfl, rfl⟩
  refine JoinW2.intro (fun c e k => k = k4 ∧ c = ((if dp - 1 < 0 then 45 else 43 : Nat) : Int) ∧ e = ((dp - 1).natAbs : Int)) ?_ ?_
  · by_cases hneg : dp - 1 < 0
    · refine iteT (decide_eq_true hneg) ⟨rfl, by rw [if_pos hneg]; rfl, ?_⟩
      rw [wrap64 (by omega) (by omega)]
      omega
    · exact iteF (fun hh => hneg (of_decide_eq_true hh)) ⟨rfl, by rw [if_neg hneg]; rfl, by omega⟩
  rintro _ _ k4 ⟨rfl, rfl, rfl⟩
  refine app1 w4 o4 rfl (by rw [List.length_append, List.length_singleton]; omega) fun l5 k5 w5 o5 => ?_
  have fin : ∀ {r : Sl} {k : Hp} {zs : List Nat}, h0 ≤ k → zs = expL (dp - 1).natAbs → ON h0 k r (xs ++ (if neg then [45] else []) ++ [d] ++ (if ds = [] then [] else 46 :: ds) ++ [101] ++ [if dp - 1 < 0 then 45 else 43] ++ zs) → Q r k := fun {r k zs} w e o' => hk r k w (by
    subst e
    unfold sciL
    simpa using o')
  have len5 : (xs ++ (if neg then [45] else []) ++ [d] ++ (if ds = [] then [] else 46 :: ds) ++ [101] ++ [if dp - 1 < 0 then 45 else 43]).length < 1000000 := by
    rw [List.length_append, List.length_append, List.length_singleton, List.length_singleton]
    omega
  have he : (dp - 1).natAbs < 1000 := by omega
  generalize (dp - 1).natAbs = e at *
  unfold expL at fin
  by_cases c1 : e < 10
  · refine iteT (decide_eq_true (by omega)) (app2 w5 o5 (c := 48) (d := 48 + e) rfl (by rw [byte8, byte8]; omega) len5 fun r k w o' => fin w (by rw [if_pos c1]) o')
  · refine iteF (fun hh => c1 (by have := of_decide_eq_true hh; omega)) ?_
    rw [if_neg c1] at fin
    have t10 : ∀ {x : Nat}, Int.tdiv (x : Int) (10 : Int) = ((x / 10 : Nat) : Int) := tdivN
    have t100 : ∀ {x : Nat}, Int.tdiv (x : Int) (100 : Int) = ((x / 100 : Nat) : Int) := tdivN
    have m10 : ∀ {x : Nat}, Int.tmod (x : Int) (10 : Int) = ((x % 10 : Nat) : Int) := tmodN
    by_cases c2 : e < 100
    · refine iteT (decide_eq_true (by omega)) ⟨by decide, by decide, app2 w5 o5 (c := 48 + e / 10) (d := 48 + e % 10) ?_ ?_ len5 fun r k w o' => fin w (by rw [if_pos c2]) o'⟩
      · rw [t10, byte8, byte8, wrap64 (by omega) (by omega)]; omega
      · rw [m10, byte8, byte8]; omega
    · rw [if_neg c2] at fin
      refine iteF (fun hh => c2 (by have := of_decide_eq_true hh; omega)) ⟨by decide, by decide, by decide, by decide, app3 w5 o5 (c := 48 + e / 100) (d := 48 + e / 10 % 10) (e := 48 + e % 10) ?_ ?_ ?_ len5 fun r k w o' => fin w rfl o'⟩
      · rw [t100, byte8, byte8, wrap64 (by omega) (by omega)]; omega
      · rw [t10, wrap64 (by omega) (by omega), byte8 ((e / 10 : Nat) : Int), show ((e / 10 : Nat) : Int) % 256 = ((e / 10 : Nat) : Int) by omega, m10, byte8]; omega
      · rw [m10, byte8, byte8]; omega
end
end Lf

/-
  Floats: what the program makes of bits.
-/
set_option autoImplicit false
namespace Lf
open Go Go.Proofs

section
variable {P : Program} {h : Hp}

theorem semE_of {P : Program} {s : Sem Value} {sh : Shape} {K : sh.T → Hp → Prop} {h : Hp} (hs : semW P s (fun v h' => ∃ x, v = sh.enc x ∧ K x h') h) : SemE P s sh K h := hs

/-- A sum, a difference, a product, a quotient. -/
theorem semE_float {op : BinOp} {t : Nat} {x y : Operand} {a b : Nat} {r : Option Nat} {K : Nat → Hp → Prop} (he : binS op t x y (.float .f64 a) (.float .f64 b) = (match r with
      | some r => Sem.pure (Value.float .f64 r)
      | none => Sem.bind (choose (.nanBits .f64 a b)) fun n => Sem.pure (Value.float .f64 n)))
    (hk : ∀ f, (∀ v, r = some v → f = v) → (r = none → isNaN f = true) → K f h) : SemE P (binS op t x y (.float .f64 a) (.float .f64 b)) (shFlt .f64) K h := by
  refine semE_of ?_
  rw [he]
  cases r with
  | some r => exact ⟨r, rfl, hk r (fun v e => (Option.some.inj e)) fun e => by cases e⟩
  | none =>
    intro n
    exact ⟨_, rfl, hk _ (fun v e => by cases e) fun _ => nan_cut a b n⟩

theorem bin_add {t : Nat} {x y : Operand} {a b : Nat} : binS .add t x y (.float .f64 a) (.float .f64 b) = (match f64.format.add a b with
      | some r => Sem.pure (Value.float .f64 r)
      | none => Sem.bind (choose (.nanBits .f64 a b)) fun n => Sem.pure (Value.float .f64 n)) := by
  cases e : f64.format.add a b <;> (show Op.floatArith .add .f64 a b = _; unfold Op.floatArith; simp only [pure, bind, Sem.bind, e])

theorem bin_sub {t : Nat} {x y : Operand} {a b : Nat} : binS .sub t x y (.float .f64 a) (.float .f64 b) = (match f64.format.sub a b with
      | some r => Sem.pure (Value.float .f64 r)
      | none => Sem.bind (choose (.nanBits .f64 a b)) fun n => Sem.pure (Value.float .f64 n)) := by
  cases e : f64.format.sub a b <;> (show Op.floatArith .sub .f64 a b = _; unfold Op.floatArith; simp only [pure, bind, Sem.bind, e])

theorem bin_mul {t : Nat} {x y : Operand} {a b : Nat} : binS .mul t x y (.float .f64 a) (.float .f64 b) = (match f64.format.mul a b with
      | some r => Sem.pure (Value.float .f64 r)
      | none => Sem.bind (choose (.nanBits .f64 a b)) fun n => Sem.pure (Value.float .f64 n)) := by
  cases e : f64.format.mul a b <;> (show Op.floatArith .mul .f64 a b = _; unfold Op.floatArith; simp only [pure, bind, Sem.bind, e])

theorem bin_div {t : Nat} {x y : Operand} {a b : Nat} : binS .quo t x y (.float .f64 a) (.float .f64 b) = (match f64.format.div a b with
      | some r => Sem.pure (Value.float .f64 r)
      | none => Sem.bind (choose (.nanBits .f64 a b)) fun n => Sem.pure (Value.float .f64 n)) := by
  cases e : f64.format.div a b <;> (show Op.floatArith .quo .f64 a b = _; unfold Op.floatArith; simp only [pure, bind, Sem.bind, e])

theorem semV_pure {s : Sem Value} {sh : Shape} {v : sh.T} {K : sh.T → Prop} (he : s = Sem.pure (sh.enc v)) (hk : K v) : SemV none P s sh h K := by
  refine ⟨v, semIs_of_semW ?_, hk⟩
  rw [he]
  exact ⟨rfl, rfl⟩

theorem float_ok {b : Int} {Q : Nat → Hp → Prop} (hq : Q (floatP b) h) : flt_float_w Tryz.prog b Q h := by
  unfold flt_float_w
  exact ⟨_, rfl, hq⟩

theorem bits_ok {f : Nat} {Q : Int → Hp → Prop} (hq : Q (bitsP f) h) : flt_bits_w Tryz.prog f Q h := by
  unfold flt_bits_w
  refine semV_pure (sh := shBool) (v := isNaN f) rfl ?_
  unfold bitsP at hq
  by_cases e : isNaN f = true
  · rw [if_pos e]; rw [if_pos e] at hq; exact hq
  · rw [if_neg e]; rw [if_neg e] at hq
    exact ⟨(f : Int), rfl, hq⟩

/-! How far numbers reach. -/
theorem cut_zero {s : Bool} {n d : Nat} : Ieee.Toward.zero.cut s n d * 2 ^ d ≤ n := by
  unfold Ieee.Toward.cut
  simp only [Bool.toNat_false, Nat.add_zero, Nat.shiftLeft_eq, Nat.one_mul]
  by_cases hd : d ≤ n.log2 + 2
  · rw [Nat.min_eq_left hd]
    exact Nat.div_mul_le_self n (2 ^ d)
  · rw [Nat.min_eq_right (by omega)]
    have : n < 2 ^ (n.log2 + 2) := by
      by_cases h0 : n = 0
      · grind
      · have := Nat.lt_log2_self (n := n)
        grind
    rw [Nat.div_eq_of_lt this, Nat.zero_mul]
    omega

theorem shl_mul (m i : Nat) : m <<< i = m * 2 ^ i := Nat.shiftLeft_eq m i

/-- The whole part of a number between two bounds. -/
theorem whole_in {s : Bool} {m : Nat} {i : Int} (h1 : Ieee.Datum.order (.number s m i) (.number false 4503599627370496 11) = some .lt) (h2 : Ieee.Datum.order (.number s m i) (.number true 4503599627370496 11) ≠ some .lt) :
    ∃ n, (Ieee.Datum.number s m i).toInt .zero = some n ∧ -9223372036854775808 ≤ n ∧ n ≤ 9223372036854775807 := by
  refine ⟨_, rfl, ?_⟩
  have h1 : compare (Ieee.signed s m (i - min i 11).toNat) (Ieee.signed false 4503599627370496 (11 - min i 11).toNat) = .lt := Option.some.inj h1
  have h2 : compare (Ieee.signed s m (i - min i 11).toNat) (Ieee.signed true 4503599627370496 (11 - min i 11).toNat) ≠ .lt := fun e => h2 (congrArg some e)
  rw [Int.compare_eq_lt] at h1
  rw [ne_eq, Int.compare_eq_lt] at h2
  have hc := cut_zero (s := s) (n := m <<< i.toNat) (d := (-i).toNat)
  generalize hw : Ieee.Toward.zero.cut s (m <<< i.toNat) (-i).toNat = w at hc
  have e0 : Ieee.signed s w 0 = if s then -(w : Int) else (w : Int) := by unfold Ieee.signed; simp
  show -9223372036854775808 ≤ Ieee.signed s w 0 ∧ Ieee.signed s w 0 ≤ 9223372036854775807
  rw [e0]
  have key : ∃ C B : Nat, 0 < C ∧ 0 < B ∧ w * B ≤ (m <<< (i - min i 11).toNat) * C ∧ (4503599627370496 <<< (11 - min i 11).toNat) * C = 9223372036854775808 * B := by
    by_cases hi : i ≤ 11
    · have e1 : min i 11 = i := by omega
      rw [e1, Int.sub_self]
      by_cases h0 : 0 ≤ i
      · refine ⟨2 ^ i.toNat, 1, Nat.two_pow_pos _, by decide, ?_, ?_⟩
        · have e2 : (-i).toNat = 0 := by omega
          rw [e2, Nat.pow_zero, shl_mul] at hc
          grind
        · rw [shl_mul, Nat.mul_assoc, ← Nat.pow_add, show (11 - i).toNat + i.toNat = 11 by omega]
      · refine ⟨1, 2 ^ (-i).toNat, by decide, Nat.two_pow_pos _, ?_, ?_⟩
        · grind
        · rw [shl_mul, Nat.mul_one, show (11 - i).toNat = 11 + (-i).toNat by omega, Nat.pow_add, ← Nat.mul_assoc]
    · have e1 : min i 11 = 11 := by omega
      rw [e1]
      refine ⟨2 ^ 11, 1, by decide, by decide, ?_, by decide⟩
      have e2 : (-i).toNat = 0 := by omega
      rw [e2, Nat.pow_zero, shl_mul] at hc
      rw [shl_mul, Nat.mul_assoc, ← Nat.pow_add, show (i - 11).toNat + 11 = i.toNat by omega]
      exact hc
  obtain ⟨C, B, hC, hB, hwB, hM⟩ := key
  generalize hm' : m <<< (i - min i 11).toNat = m' at *
  generalize hn' : 4503599627370496 <<< (11 - min i 11).toNat = n' at *
  have s1 : Ieee.signed s m (i - min i 11).toNat = if s then -(m' : Int) else (m' : Int) := by unfold Ieee.signed; rw [hm']
  have s2 : Ieee.signed false 4503599627370496 (11 - min i 11).toNat = (n' : Int) := by unfold Ieee.signed; rw [hn']; rfl
  have s3 : Ieee.signed true 4503599627370496 (11 - min i 11).toNat = -(n' : Int) := by unfold Ieee.signed; rw [hn']; rfl
  rw [s1, s2] at h1
  rw [s1, s3] at h2
  cases s with
  | false =>
    simp only [Bool.false_eq_true, if_false] at h1 ⊢
    have h1 : m' < n' := by omega
    have : m' * C < n' * C := Nat.mul_lt_mul_of_pos_right h1 hC
    have : w * B < 9223372036854775808 * B := by omega
    have := Nat.lt_of_mul_lt_mul_right this
    omega
  | true =>
    simp only [if_true] at h2 ⊢
    have h2 : m' ≤ n' := by omega
    have : m' * C ≤ n' * C := Nat.mul_le_mul_right C h2
    have : w * B ≤ 9223372036854775808 * B := by omega
    have := Nat.le_of_mul_le_mul_right this hB
    omega

theorem conv_fi {b : Nat} {n : Int} (h0 : (f64.decode b).toInt .zero = some n) (h1 : IntKind.min .i64 ≤ n ∧ n ≤ IntKind.max .i64) : SemIs Tryz.prog (convert 34 2 (.float .f64 b)) h (.int .i64 n) := by
  refine semIs_of_run fun w => ?_
  have u1 := run_underlying' (e := ty34) tb_ok (t := 34) rfl w
  have u2 := run_underlying' (e := ty2) tb_ok (t := 2) rfl w
  simp only [convert, Sem.run_bind, u1, u2, Result.andThen_ok]
  show (Conv.floatToInt .f64 b .i64).run Tryz.prog w = _
  unfold Conv.floatToInt
  rw [h0]
  dsimp only
  rw [if_pos h1]
  rfl

theorem conv_if {b : Int} : SemIs Tryz.prog (convert 2 34 (.int .i64 b)) h (.float .f64 (f64.nearest b)) := by
  refine semIs_of_run fun w => ?_
  have u1 := run_underlying' (e := ty34) tb_ok (t := 34) rfl w
  have u2 := run_underlying' (e := ty2) tb_ok (t := 2) rfl w
  simp only [convert, Sem.run_bind, u1, u2, Result.andThen_ok]
  rfl

theorem read_hi : f64.format.read 4890909195324358656 = .number false 4503599627370496 11 := by decide
theorem read_lo : f64.format.read 14114281232179134464 = .number true 4503599627370496 11 := by decide

/-- A float that is neither a NaN nor out of bounds has a whole part within them. -/
theorem whole_some {f : Nat} (hn : isNaN f = false) (h1 : ¬ (f64.format.order f 4890909195324358656 = some .gt ∨ f64.format.order f 4890909195324358656 = some .eq)) (h2 : f64.format.order f 14114281232179134464 ≠ some .lt) :
    ∃ n, (f64.decode f).toInt .zero = some n ∧ IntKind.min .i64 ≤ n ∧ n ≤ IntKind.max .i64 := by
  have o1 : f64.format.order f 4890909195324358656 = (f64.format.read f).order (.number false 4503599627370496 11) := by
    show (f64.format.read f).order (f64.format.read _) = _
    rw [read_hi]
  have o2 : f64.format.order f 14114281232179134464 = (f64.format.read f).order (.number true 4503599627370496 11) := by
    show (f64.format.read f).order (f64.format.read _) = _
    rw [read_lo]
  rw [o1] at h1
  rw [o2] at h2
  unfold isNaN at hn
  have hn : (((f64.format.read f).order (f64.format.read f)) != some .eq) = false := hn
  show ∃ n, (f64.format.read f).toInt .zero = some n ∧ _
  generalize f64.format.read f = d at *
  cases d with
  | nan a b => simp [Ieee.Datum.order] at hn
  | infinity a => cases a <;> simp [Ieee.Datum.order] at h1 h2
  | number a m i =>
    refine whole_in ?_ h2
    have h1 : ¬ (some (compare _ _) = _ ∨ some (compare _ _) = _) := h1
    show some (compare _ _) = some .lt
    generalize compare (Ieee.signed a m (i - min i 11).toNat) (Ieee.signed false 4503599627370496 (11 - min i 11).toNat) = c at *
    cases c <;> simp at h1 ⊢

theorem wholeF_ok {f : Nat} {Q : Int → Hp → Prop} (hq : Q (wholeP f) h) : flt_whole_w Tryz.prog f Q h := by
  unfold flt_whole_w
  refine semV_pure (sh := shBool) (v := isNaN f) rfl ?_
  unfold wholeP at hq
  by_cases e : isNaN f = true
  · rw [if_pos e]; rw [if_pos e] at hq; exact hq
  rw [if_neg e]; rw [if_neg e] at hq
  refine semV_pure (sh := shBool) (v := f64.format.order f 4890909195324358656 == some .gt || f64.format.order f 4890909195324358656 == some .eq) rfl ?_
  by_cases e1 : f64.format.order f 4890909195324358656 = some .gt ∨ f64.format.order f 4890909195324358656 = some .eq
  · grind
  rw [if_neg (by simpa using e1)]; rw [if_neg e1] at hq
  refine semV_pure (sh := shBool) (v := f64.format.order f 14114281232179134464 == some .lt) rfl ?_
  by_cases e2 : f64.format.order f 14114281232179134464 = some .lt
  · grind
  rw [if_neg (by simpa using e2)]; rw [if_neg e2] at hq
  obtain ⟨n, e3, e4⟩ := whole_some (by simpa using e) e1 e2
  rw [e3] at hq
  exact ⟨n, conv_fi e3 e4, hq⟩

theorem res_ok {o : Option Nat} {f : Nat} (h1 : ∀ v, o = some v → f = v) (h2 : o = none → isNaN f = true) : bitsP f = resP o := by
  cases o with
  | some v => rw [h1 v rfl]; rfl
  | none => unfold bitsP; rw [if_pos (h2 rfl)]; rfl

theorem fltDo_ok {op b c : Int} {Q : Int → Int → Hp → Prop} (h1 : 15 ≤ op ∧ op ≤ 21 → Q (fltP op b c) 0 h) (h2 : ¬ (15 ≤ op ∧ op ≤ 21) → Q 0 9 h) : flt_Do_w Tryz.prog op b c Q h := by
  have case : ∀ n : Int, (op == n) = decide (op = n) := fun n => by by_cases e : op = n <;> simp [e]
  unfold flt_Do_w
  refine flt_float_call (float_ok ?_)
  refine flt_float_call (float_ok ?_)
  unfold fltP at h1
  simp only [case]
  by_cases h3 : op = 15
  · subst h3
    refine semE_float bin_add fun f e1 e2 => flt_bits_call (bits_ok ?_)
    rw [res_ok e1 e2]; simpa using h1
  by_cases h4 : op = 16
  · subst h4
    refine semE_float bin_sub fun f e1 e2 => flt_bits_call (bits_ok ?_)
    rw [res_ok e1 e2]; simpa using h1
  by_cases h5 : op = 17
  · subst h5
    refine semE_float bin_mul fun f e1 e2 => flt_bits_call (bits_ok ?_)
    rw [res_ok e1 e2]; simpa using h1
  by_cases h6 : op = 18
  · subst h6
    refine semE_float bin_div fun f e1 e2 => flt_bits_call (bits_ok ?_)
    rw [res_ok e1 e2]; simpa using h1
  by_cases h7 : op = 19
  · subst h7
    refine semV_pure (sh := shBool) (v := f64.format.order (floatP b) (floatP c) == some .lt) rfl ?_
    simp [oneP] at h1 ⊢
    by_cases e : f64.format.order (floatP b) (floatP c) = some .lt
    · rw [if_pos e]; rw [if_pos e] at h1; exact h1
    · rw [if_neg e]; rw [if_neg e] at h1; exact h1
  by_cases h8 : op = 20
  · subst h8
    refine ⟨f64.nearest b, conv_if, flt_bits_call (bits_ok ?_)⟩
    simpa using h1
  by_cases h9 : op = 21
  · subst h9
    refine flt_whole_call (wholeF_ok ?_)
    simpa using h1
  grind
end
end Lf

/-
  Floats as texts: what FormatFloat makes of a finite one.
-/
set_option autoImplicit false
namespace Lf
open Go Go.Proofs

def strN (xs : List Nat) : ByteArray := ⟨(xs.map UInt8.ofNat).toArray⟩

theorem semIs_textN {P : Program} {src dst e : TypeId} {h : Hp} {l : Sl} {xs : List Nat} (hs : P.underlying src = some (.slice e)) (he : P.underlying e = some (.int .u8)) (hd : P.underlying dst = some .string) (r : Rw h 1 eN l xs) (hx : ∀ x ∈ xs, x < 256) : SemIs P (convert src dst l.v) h (.string (strN xs)) := fun w hw => by
  refine ⟨w, ?_, .refl hw⟩
  obtain ⟨h1, h3⟩ := r
  obtain ⟨-, h3⟩ := h3
  rw [Nat.mul_one] at h3
  have nilc : l.base = none → xs.length = 0 := fun hb => by
    rcases h3 with h3 | ⟨a, ha, _⟩
    · exact h3
    · rw [hb] at ha; cases ha
  unfold Sl.v strN
  have hlen : (xs.map UInt8.ofNat).length = xs.length := List.length_map ..
  cases hb : l.base with
  | none =>
    have : xs = [] := List.length_eq_zero_iff.1 (nilc hb)
    subst this
    rw [run_convert_bytes_string w src dst e none l.len l.cap hs he hd]
    rfl
  | some a =>
    rw [h1, ← hlen]
    refine run_convert_bytes_back w src dst e a l.cap (xs.map UInt8.ofNat) hs he hd fun j hj => ?_
    rcases h3 with h3 | ⟨a', ha, hl⟩
    · omega
    · rw [hb] at ha; cases ha
      have hj' : j < xs.length := by omega
      have e1 : ((xs.map UInt8.ofNat)[j]'hj).toNat = xs[j] := by
        rw [List.getElem_map, UInt8.toNat_ofNat']
        have := hx _ (List.getElem_mem hj')
        omega
      have : (xs.flatMap eN)[j]? = some (.int .u8 (((xs.map UInt8.ofNat)[j]'hj).toNat : Int)) := by
        rw [← eN_map, List.getElem?_map, List.getElem?_eq_getElem hj', e1]; rfl
      have hc := hl j _ this
      rw [← hcell_whole]
      exact hcell_mono (fun b o e => hw b o e) hc

/-- The digits of a number, as letters. -/
def digL : Nat → Nat → List Nat
  | 0, _ => []
  | n + 1, u => digL n (u / 10) ++ [48 + u % 10]

theorem digL_len : ∀ n u, (digL n u).length = n
  | 0, _ => rfl
  | n + 1, u => by rw [digL, List.length_append, digL_len n]; rfl

theorem digV_map : ∀ n u, digV n u = (digL n u).map fun (c : Nat) => Value.int .u8 (c : Int)
  | 0, _ => rfl
  | n + 1, u => by rw [digV, digL, List.map_append, digV_map n]; rfl

theorem digL_take : ∀ (k a u : Nat), (digL (a + k) u).take a = digL a (u / 10 ^ k)
  | 0, a, u => by rw [Nat.add_zero, Nat.pow_zero, Nat.div_one, List.take_of_length_le (by rw [digL_len]; exact Nat.le_refl _)]
  | k + 1, a, u => by
    rw [← Nat.add_assoc, digL, List.take_append_of_le_length (by rw [digL_len]; omega), digL_take k a (u / 10), Nat.div_div_eq_div_mul, Nat.pow_succ']

theorem digL_in : ∀ (n u : Nat), ∀ x ∈ digL n u, 48 ≤ x ∧ x < 58
  | 0, _, x, h => by simp [digL] at h
  | n + 1, u, x, h => by
    rw [digL, List.mem_append] at h
    rcases h with h | h
    · exact digL_in n _ x h
    · rw [List.mem_singleton.1 h]; omega

/-- A number's text: so many digits, an exponent. -/
def sciT (neg : Bool) (a v : Nat) (e : Int) : List Nat := match digL a v with
  | [] => []
  | c :: ds => sciL neg c ds e

theorem sciT_in {neg : Bool} {a v : Nat} {e : Int} (he : e.natAbs < 1000) : ∀ x ∈ sciT neg a v e, x < 256 := by
  unfold sciT
  have hd := digL_in a v
  generalize digL a v = l at *
  intro x hx
  cases l with
  | nil => simp at hx
  | cons c ds =>
    have h1 := hd c (List.mem_cons_self ..)
    have h2 : ∀ y ∈ ds, y < 58 := fun y hy => (hd y (List.mem_cons_of_mem _ hy)).2
    have h3 : ∀ y ∈ expL e.natAbs, y < 256 := by
      unfold expL
      intro y hy
      split at hy
      · simp at hy; omega
      · split at hy <;> simp at hy <;> omega
    have hx : x ∈ (if neg then [45] else []) ++ [c] ++ (if ds = [] then [] else 46 :: ds) ++ [101, if e < 0 then 45 else 43] ++ expL e.natAbs := hx
    rw [List.mem_append, List.mem_append, List.mem_append, List.mem_append] at hx
    rcases hx with (((hx | hx) | hx) | hx) | hx
    · cases neg <;> simp at hx; omega
    · simp at hx; omega
    · split at hx
      · cases hx
      · rcases List.mem_cons.1 hx with hx | hx
        · omega
        · have := h2 x hx; omega
    · simp at hx
      rcases hx with hx | hx
      · omega
      · split at hx <;> omega
    · exact h3 x hx

section
variable {h0 h : Hp}

theorem andi_mask {a : Nat} (k : Nat) (ha : a < 9223372036854775808) (hk : k ≤ 62) : bitsI .and .i64 (IntKind.wrap .i64 (a : Int)) ((2 ^ k - 1 : Nat) : Int) = ((a % 2 ^ k : Nat) : Int) := by
  have h2 : 2 ^ k ≤ 2 ^ 62 := Nat.pow_le_pow_right (by decide) hk
  have hp := Nat.two_pow_pos k
  have hm : a % 2 ^ k ≤ a := Nat.mod_le _ _
  rw [wrap64 (by omega) (by omega)]
  unfold bitsI
  dsimp only
  show IntKind.wrap .i64 (((BitVec.ofInt 64 (a : Int)) &&& (BitVec.ofInt 64 ((2 ^ k - 1 : Nat) : Int))).toNat : Int) = _
  rw [BitVec.toNat_and, ofInt64 (by omega), ofInt64 (by omega), Nat.and_two_pow_sub_one_eq_mod, wrap64 (by omega) (by omega)]

/-- A float's parts, shifted to the left. -/
def mS (r : Nat) : Nat := partsM r * 2 ^ (64 - bitsN (partsM r))
def eS (r : Nat) : Int := partsE r - ((64 - bitsN (partsM r) : Nat) : Int)

theorem parts_bits {r : Nat} (h1 : 0 < r) (h2 : r < 9218868437227405312) : 1 ≤ bitsN (partsM r) ∧ bitsN (partsM r) ≤ 53 ∧ (bitsN (partsM r) < 53 → partsE r = -1074) ∧ -1074 ≤ partsE r ∧ partsE r ≤ 971 ∧ partsM r ≠ 0 := by
  have hm : partsM r ≠ 0 := fun e => by rw [partsM_zero h2] at e; omega
  have b1 := bitsN_lt (partsM r)
  have b2 := bitsN_ge hm
  have hl : partsM r < 2 ^ 53 := by unfold partsM; split <;> omega
  have b3 := bitsN_le2 hl
  refine ⟨by unfold bitsN; rw [if_neg hm]; omega, b3, fun hb => ?_, partsE_ge' r, ?_, hm⟩
  · unfold partsE
    by_cases hr : r < 4503599627370496
    · rw [if_pos hr]
    · exfalso
      have : 4503599627370496 ≤ partsM r := by unfold partsM; rw [if_neg hr]; omega
      have : 2 ^ bitsN (partsM r) ≤ 2 ^ 52 := Nat.pow_le_pow_right (by decide) (by omega)
      omega
  · unfold partsE; split <;> omega
where
  partsE_ge' (r : Nat) : -1074 ≤ partsE r := by unfold partsE; split <;> omega

theorem mS_in {r : Nat} (h1 : 0 < r) (h2 : r < 9218868437227405312) : 9223372036854775808 ≤ mS r ∧ mS r + 2 ^ zP (eS r) ≤ 18446744073709551616 ∧ -1137 ≤ eS r ∧ eS r ≤ 974 ∧ zP (eS r) = 64 - bitsN (partsM r) := by
  obtain ⟨b1, b2, b3, b4, b5, hm⟩ := parts_bits h1 h2
  have l1 := bitsN_lt (partsM r)
  have l2 := bitsN_ge hm
  have hz : zP (eS r) = 64 - bitsN (partsM r) := by
    unfold zP eS
    split
    · omega
    · have := b3 (by omega); omega
  have e1 : 2 ^ (bitsN (partsM r) - 1) * 2 ^ (64 - bitsN (partsM r)) = 9223372036854775808 := by
    rw [← Nat.pow_add, show bitsN (partsM r) - 1 + (64 - bitsN (partsM r)) = 63 by omega]
  have e2 : 2 ^ bitsN (partsM r) * 2 ^ (64 - bitsN (partsM r)) = 18446744073709551616 := by
    rw [← Nat.pow_add, show bitsN (partsM r) + (64 - bitsN (partsM r)) = 64 by omega]
  refine ⟨?_, ?_, by unfold eS; omega, by unfold eS; omega, hz⟩
  · have := Nat.mul_le_mul_right (2 ^ (64 - bitsN (partsM r))) l2
    unfold mS
    omega
  · have := Nat.mul_le_mul_right (2 ^ (64 - bitsN (partsM r))) (show partsM r + 1 ≤ 2 ^ bitsN (partsM r) from l1)
    rw [hz]
    unfold mS
    rw [Nat.succ_mul] at this
    omega

/-- What a finite float's text is. -/
def Shown (r : Nat) (neg : Bool) (zs : List Nat) : Prop := ∃ n k v : Nat, (shortP (mS r) (eS r)).1 = v * 10 ^ k ∧ v % 10 ≠ 0 ∧ k < n ∧ n ≤ 20 ∧ 10 ^ (n - 1) ≤ (shortP (mS r) (eS r)).1 ∧ (shortP (mS r) (eS r)).1 < 10 ^ n ∧ zs = sciT neg (n - k) v ((n : Int) + (shortP (mS r) (eS r)).2 - 1)

theorem ftoa_ok {dst : Sl} {xs : List Nat} {w b0 : Nat} {Q : Sl → Hp → Prop} (hw : h0 ≤ h) (o : ON h0 h dst xs) (hbase : dst.base = some ⟨b0, 0, none⟩) (hx : xs.length < 1000) (hw64 : w < 18446744073709551616) (w0 : 0 < w % 9223372036854775808) (w1 : w % 9223372036854775808 < 9218868437227405312)
    (d0 : (shortP (mS (w % 9223372036854775808)) (eS (w % 9223372036854775808))).1 ≠ 0) (d1 : (shortP (mS (w % 9223372036854775808)) (eS (w % 9223372036854775808))).1 < 18446744073709551616)
    (t1 : Pow10 h0) (t2 : Small10 h0) (hk : ∀ r h' zs, h0 ≤ h' → Shown (w % 9223372036854775808) (negD w) zs → ON h0 h' r (xs ++ zs) → Q r h') : internal_strconv_ftoa64_w Tryz.prog dst w (101 : Int) (-1 : Int) Q h := by
  obtain ⟨b1, b2, b3, b4, b5, hm⟩ := parts_bits w0 w1
  obtain ⟨m0, m1, e0, e1, hz⟩ := mS_in w0 w1
  unfold internal_strconv_ftoa64_w
  refine JoinW4.direct ⟨(w : Int), rfl, ⟨by decide, by decide, by decide, by decide, by decide, ?_⟩⟩
  rw [show IntKind.wrap .i64 ((shlI .i64 (1 : Int) (11 : Int)) - (1 : Int)) = ((2 ^ 11 - 1 : Nat) : Int) by decide, show IntKind.wrap .u64 ((shlI .u64 (1 : Int) (52 : Int)) - (1 : Int)) = (4503599627370495 : Int) by decide, show shlI .u64 (1 : Int) (52 : Int) = ((1 * 2 ^ 52 : Nat) : Int) by decide,
    show IntKind.wrap .i64 ((11 : Int) + (52 : Int)) = ((63 : Nat) : Int) by decide, show (52 : Int) = ((52 : Nat) : Int) from rfl, shrN w (by decide), shrN w (by decide), andi_mask 11 (by omega) (by decide), and_frac hw64]
  have hE : w / 2 ^ 52 % 2 ^ 11 = w % 9223372036854775808 / 4503599627370496 := by omega
  have hF : w % 4503599627370496 = w % 9223372036854775808 % 4503599627370496 := by omega
  rw [hE, hF]
  have hneg : (((w / 2 ^ 63 : Nat) : Int) != (0 : Int)) = negD w := by
    unfold negD
    by_cases c : 9223372036854775808 ≤ w
    · rw [decide_eq_true c]; exact bne_iff_ne.2 (by omega)
    · rw [decide_eq_false c, Bool.eq_false_iff]
      intro hh
      exact bne_iff_ne.1 hh (by omega)
  rw [hneg]
  generalize w % 9223372036854775808 = r at *
  refine iteF (fun hh => by have := beq_iff_eq.1 hh; omega) ?_
  refine JoinW2.intro (fun e m k => k = h ∧ e = partsE r + 1075 ∧ m = ((partsM r : Nat) : Int)) ?_ ?_
  · by_cases hr : r < 4503599627370496
    · refine iteT (beq_iff_eq.2 (by omega)) ⟨rfl, ?_, ?_⟩
      · rw [show r / 4503599627370496 = 0 by omega]
        unfold partsE
        rw [if_pos hr]
        decide
      · unfold partsM
        rw [if_pos hr, Nat.mod_eq_of_lt hr]
    · refine iteF (fun hh => hr (by have := beq_iff_eq.1 hh; omega)) ⟨by decide, rfl, ?_, ?_⟩
      · unfold partsE
        rw [if_neg hr]
        omega
      · unfold partsM
        rw [if_neg hr, or_comm64, or_add (a := 1) (s := 52) (.inl ⟨rfl, by omega⟩) (by omega)]
        omega
  rintro _ _ h ⟨rfl, rfl, rfl⟩
  refine iteF (by decide) (letW (iteF (by decide) (iteF (fun hh => hm (by have := beq_iff_eq.1 hh; omega)) (iteT (by decide) ?_))))
  intro b ty hb
  generalize hbuf : [Value.int .u8 (0 : Int), _, _, _, _, _, _, _, _, _, _, _, _, _, _, _, _, _, _, _, _, _, _, _, _, _, _, _, _, _, _, _] = buf
  have hbl : buf.length = 32 := by rw [← hbuf]; rfl
  have hle := set_new (o := .cells buf.toArray ty (0, 0)) hb
  have kb : Blk (h.set b (.cells buf.toArray ty (0, 0))) b buf := ⟨ty, set_self⟩
  have hne : b ≠ b0 := fun e => by
    subst e
    obtain ⟨_, _, o3⟩ := o
    rcases o3 with ⟨o3, _⟩ | ⟨b', cs, t, o3, o4, _⟩
    · rw [hbase] at o3; cases o3
    · rw [hbase] at o3; cases o3; rw [hb] at o4; cases o4
  have own := o.mono hle
  have hw2 := Hp.le_trans hw hle
  have hb0 : h0 b = none := none_of_le hw hb
  clear hbuf
  generalize h.set b (.cells buf.toArray ty (0, 0)) = h1 at *
  have ml : partsM r < 18446744073709551616 := Nat.lt_of_lt_of_le (bitsN_lt _) (Nat.le_trans (Nat.pow_le_pow_right (by decide) b2) (by decide))
  have hL : IntKind.wrap .i64 ((64 : Int) - (bitsN (partsM r) : Int)) = ((64 - bitsN (partsM r) : Nat) : Int) := by rw [wrap64 (by omega) (by omega)]; omega
  refine math_bits_Len64_call (len64_ok ml ?_)
  rw [hL]
  have eM : shlI .u64 ((partsM r : Nat) : Int) ((64 - bitsN (partsM r) : Nat) : Int) = ((mS r : Nat) : Int) := shlN (by omega) (by have : 0 < 2 ^ zP (eS r) := Nat.two_pow_pos _; unfold mS at m1; omega)
  have eE : IntKind.wrap .i64 ((IntKind.wrap .i64 ((IntKind.wrap .i64 (partsE r + 1075 + (-1023 : Int))) - ((64 - bitsN (partsM r) : Nat) : Int))) - ((52 : Nat) : Int)) = eS r := by
    unfold eS
    rw [wrap64 (n := partsE r + 1075 + -1023) (by omega) (by omega), wrap64 (n := partsE r + 1075 + -1023 - _) (by omega) (by omega), wrap64 (by omega) (by omega)]
    omega
  rw [eM, eE]
  refine ⟨by omega, internal_strconv_shortFloat_float64_call (short_ok m0 m1 e0 e1 (ldIs_mono hw2 t1) fun h2 l2 => letW ?_)⟩
  have eb : sbase (some ⟨b, 0, none⟩) 1 0 32 = some ⟨b, 0, none⟩ := by unfold sbase; rw [if_neg (by decide)]; show some (Addr.add _ _) = _; rw [box_add]
  rw [eb]
  obtain ⟨p0, p1, -, -⟩ := p_in (m := mS r) e0 e1
  have hp2 : -400 ≤ (shortP (mS r) (eS r)).2 ∧ (shortP (mS r) (eS r)).2 ≤ 400 := by
    unfold shortP
    split
    · show -400 ≤ -(pP _ _ - 1) ∧ -(pP _ _ - 1) ≤ 400; omega
    · split
      · show -400 ≤ -(pP _ _) ∧ -(pP _ _) ≤ 400; omega
      · show -400 ≤ -(pP _ _) ∧ -(pP _ _) ≤ 400; omega
  have sh : ∀ {n k v : Nat}, (shortP (mS r) (eS r)).1 = v * 10 ^ k → v % 10 ≠ 0 → k < n → n ≤ 20 → 10 ^ (n - 1) ≤ (shortP (mS r) (eS r)).1 → (shortP (mS r) (eS r)).1 < 10 ^ n → Shown r (negD w) (sciT (negD w) (n - k) v ((n : Int) + (shortP (mS r) (eS r)).2 - 1)) := fun a1 a2 a3 a4 a5 a6 => ⟨_, _, _, a1, a2, a3, a4, a5, a6, rfl⟩
  generalize (shortP (mS r) (eS r)).1 = d at *
  generalize (shortP (mS r) (eS r)).2 = p at *
  have kb2 := kb.le l2
  have own2 := own.mono l2
  have hw3 := Hp.le_trans hw2 l2
  refine internal_strconv_numDigits_call (numDigits_ok d0 d1 (ldIs_mono hw3 t2) fun n n1 n20 dn dn1 => ?_)
  refine internal_strconv_setDigits_call (setDigits_ok (s := ⟨some ⟨b, 0, none⟩, 32, 32⟩) rfl hbl.symm rfl (by show 32 < _; decide) kb2 d0 d1 (by show n ≤ 32; omega) dn1 (by omega) (by omega) fun h3 k v mv kb3 hv hv10 hkn => ?_)
  refine JoinW1.intro (fun q k' => k' = h3 ∧ q = ((n - k - 1 : Nat) : Int)) (JoinW1.direct (iteT (by decide) (iteT (by decide) ⟨rfl, ?_⟩))) ?_
  · rw [wrap64 (by omega) (by omega)]
    unfold max2I
    split <;> omega
  rintro q h3' ⟨rfl, rfl⟩
  refine letW ?_
  -- the digits lie beside the text
  have hb03 : h3' b0 = h2 b0 ∨ True := .inr trivial
  have own3 : ON h0 h3' dst xs := by
    obtain ⟨o1, o2, o3⟩ := own2
    refine ⟨o1, o2, ?_⟩
    rcases o3 with o3 | ⟨b', cs, t, o3, o4, o5⟩
    · exact .inl o3
    · refine .inr ⟨b', cs, t, o3, ?_, o5⟩
      rw [hbase] at o3; cases o3
      exact mv.keep _ _ o4 (by simpa using Ne.symm hne)
  have hw4 : h0 ≤ h3' := fun c ob hc => mv.keep c ob (hw3 c ob hc) (by simp only [List.mem_singleton]; intro e; rw [e, hb0] at hc; cases hc)
  have hb0n : h0 b0 = none := by
    obtain ⟨_, _, o3⟩ := own3
    rcases o3 with ⟨o3, _⟩ | ⟨b', cs, t, o3, _, _, _, o4⟩
    · rw [hbase] at o3; cases o3
    · rw [hbase] at o3; cases o3; exact o4
  have own4 : ON (cutH h3' [b0]) h3' dst xs := by
    obtain ⟨o1, o2, o3⟩ := own3
    refine ⟨o1, o2, ?_⟩
    rcases o3 with o3 | ⟨b', cs, t, o3, o4, o5, o6, o7⟩
    · exact .inl o3
    · rw [hbase] at o3; cases o3
      exact .inr ⟨b0, cs, t, hbase, o4, o5, o6, cut_none (List.mem_singleton.2 rfl)⟩
  have hcut : h0 ≤ cutH h3' [b0] := le_cut hw4 (by simpa using hb0n)
  have kb4 : Blk (cutH h3' [b0]) b (digV n d ++ buf.drop n) := by
    obtain ⟨t, e⟩ := kb3
    exact ⟨t, by rw [cut_eq (by simpa using hne)]; exact e⟩
  -- the digits without zeros last
  obtain ⟨c, ds, hcd⟩ : ∃ c ds, digL (n - k) v = c :: ds := by
    cases hq : digL (n - k) v with
    | nil => have := congrArg List.length hq; rw [digL_len] at this; simp at this; omega
    | cons c ds => exact ⟨c, ds, rfl⟩
  have hds : ds.length + 1 = n - k := by have := congrArg List.length hcd; rw [digL_len] at this; simpa using this.symm
  have htake : (digV n d ++ buf.drop n).take (ds.length + 1) = (c :: ds).map fun (c : Nat) => Value.int .u8 (c : Int) := by
    rw [hds, List.take_append_of_le_length (by rw [digV_len]; omega), digV_map, ← List.map_take, ← hcd]
    have := digL_take k (n - k) d
    rw [show n - k + k = n by omega, hv, Nat.mul_div_cancel _ (Nat.pow_pos (by decide))] at this
    rw [hv, this]
  refine internal_strconv_fmtEFG_call (efg_ok (s := ⟨some ⟨b, 0, none⟩, 32, 32⟩) cut_le own4 hx rfl kb4 (by show 32 = _; rw [List.length_append, digV_len, List.length_drop, hbl]; omega) rfl (by show 32 < _; decide) (by rw [hds]) htake (by omega) (by omega) (by omega) fun r' h4 l4 o4 => ?_)
  have o5 : ON h0 h4 r' (xs ++ sciL (negD w) c ds ((n : Int) + p - 1)) := by
    obtain ⟨q1, q2, q3⟩ := o4
    refine ⟨q1, q2, ?_⟩
    rcases q3 with q3 | ⟨b', cs, t, q3, q4, q5, q6, q7⟩
    · exact .inl q3
    · exact .inr ⟨b', cs, t, q3, q4, q5, q6, none_of_le hcut q7⟩
  refine hk r' h4 _ (Hp.le_trans hcut l4) (sh hv hv10 hkn n20 dn dn1) ?_
  unfold sciT
  rw [hcd]
  exact o5

end
end Lf

/-
  Whole numbers as texts.
-/
set_option autoImplicit false
namespace Lf
open Go Go.Proofs

/-- The text of a whole number from 0 on. -/
def NatTxt (u : Nat) (zs : List Nat) : Prop := ∃ n, zs = digL n u ∧ u < 10 ^ n ∧ 1 ≤ n ∧ (n = 1 ∨ 10 ^ (n - 1) ≤ u)
def signL (i : Int) : List Nat := if i < 0 then [45] else []

theorem small_one : ∀ i, i < 10 → (ByteArray.extract ⟨#[48, 49, 50, 51, 52, 53, 54, 55, 56, 57, 97, 98, 99, 100, 101, 102, 103, 104, 105, 106, 107, 108, 109, 110, 111, 112, 113, 114, 115, 116, 117, 118, 119, 120, 121, 122]⟩ i (i + 1)).data = (strN (digL 1 i)).data := by decide +kernel
theorem small_two : ∀ i, i < 100 → (ByteArray.extract ⟨bl200.toArray⟩ (i * 2) (i * 2 + 2)).data = (strN (digL 2 i)).data := by decide +kernel

theorem bytes_ext {a b : ByteArray} (h : a.data = b.data) : a = b := by cases a; cases b; cases h; rfl

section
variable {h : Hp}

theorem smallInt_ok {i : Nat} {Q : ByteArray → Hp → Prop} (hi : i < 100) (hk : ∀ zs, NatTxt i zs → Q (strN zs) h) : internal_strconv_small_w Tryz.prog i Q h := by
  unfold internal_strconv_small_w
  by_cases h10 : i < 10
  · refine iteT (decide_eq_true (by omega)) ?_
    have e1 : IntKind.wrap .i64 ((i : Int) + 1) = ((i + 1 : Nat) : Int) := by rw [wrap64 (by omega) (by omega)]; omega
    rw [e1, Int.toNat_natCast, Int.toNat_natCast, bytes_ext (small_one i h10)]
    exact ⟨⟨by omega, by omega, by omega⟩, hk _ ⟨1, rfl, by omega, by omega, .inl rfl⟩⟩
  · refine iteF (fun hh => h10 (by have := of_decide_eq_true hh; omega)) ?_
    have e1 : IntKind.wrap .i64 ((i : Int) * 2) = ((i * 2 : Nat) : Int) := by rw [wrap64 (by omega) (by omega)]; omega
    have e2 : IntKind.wrap .i64 (((i * 2 : Nat) : Int) + 2) = ((i * 2 + 2 : Nat) : Int) := by rw [wrap64 (by omega) (by omega)]; omega
    rw [e1, e2, Int.toNat_natCast, Int.toNat_natCast]
    have := hk (digL 2 i) ⟨2, rfl, by omega, by omega, .inr (by omega)⟩
    rw [← bytes_ext (small_two i hi)] at this
    exact ⟨⟨by omega, by omega, by omega⟩, this⟩

theorem flat_row {b o n c : Nat} {cs : List Value} {zs : List Nat} (kb : Blk h b cs) (hn : n = zs.length) (e : (cs.drop o).take zs.length = zs.flatMap eN) : Rw h 1 eN ⟨some ⟨b, o, none⟩, n, c⟩ zs :=
  ⟨hn, kb.rd (by rw [flat_len eN_len]) (by rw [Nat.mul_one]; exact e)⟩

theorem formatInt_ok {i : Int} {Q : ByteArray → Hp → Prop} (i0 : -9223372036854775808 ≤ i) (i1 : i < 9223372036854775808) (t : Small10 h) (hk : ∀ zs h', h ≤ h' → NatTxt i.natAbs zs → Q (strN (signL i ++ zs)) h') : internal_strconv_FormatInt_w Tryz.prog i (10 : Int) Q h := by
  unfold internal_strconv_FormatInt_w
  refine iteT (by decide) (letW ?_)
  by_cases hs : 0 ≤ i ∧ i < 100
  · refine iteT (by rw [decide_eq_true hs.1, decide_eq_true hs.2]; rfl) ?_
    obtain ⟨n, rfl⟩ : ∃ n : Nat, i = n := ⟨i.toNat, by omega⟩
    refine internal_strconv_small_call (smallInt_ok (by omega) fun zs hz => ?_)
    have := hk zs h (Hp.le_refl h) (by rw [Int.natAbs_natCast]; exact hz)
    unfold signL at this
    rw [if_neg (by omega)] at this
    exact this
  · refine iteF (fun hh => hs (by rw [Bool.and_eq_true] at hh; exact ⟨of_decide_eq_true hh.1, of_decide_eq_true hh.2⟩)) ?_
    intro b ty hb
    generalize hbuf : [Value.int .u8 (0 : Int), _, _, _, _, _, _, _, _, _, _, _, _, _, _, _, _, _, _, _, _, _, _, _] = buf
    have hbl : buf.length = 24 := by rw [← hbuf]; rfl
    have hle := set_new (o := .cells buf.toArray ty (0, 0)) hb
    have kb : Blk (h.set b (.cells buf.toArray ty (0, 0))) b buf := ⟨ty, set_self⟩
    clear hbuf
    generalize h.set b (.cells buf.toArray ty (0, 0)) = h1 at *
    have hu0 : i.natAbs ≠ 0 := by omega
    have hul : i.natAbs < 18446744073709551616 := by omega
    refine JoinW1.intro (fun u k => k = h1 ∧ u = ((i.natAbs : Nat) : Int)) ?_ ?_
    · by_cases hn : i < 0
      · refine iteT (decide_eq_true hn) ⟨rfl, ?_⟩
        rw [wrapU64, wrapU64]
        omega
      · refine iteF (fun hh => hn (of_decide_eq_true hh)) ⟨rfl, ?_⟩
        rw [wrapU64]
        omega
    rintro u h1 ⟨rfl, rfl⟩
    refine internal_strconv_numDigits_call (numDigits_ok hu0 hul (ldIs_mono hle t) fun n n1 n20 dn dn1 => ?_)
    have e1 : IntKind.wrap .i64 ((1 : Int) + (n : Int)) = ((n + 1 : Nat) : Int) := by rw [wrap64 (by omega) (by omega)]; omega
    rw [e1, Int.toNat_natCast]
    have eb1 : sbase (some ⟨b, 0, none⟩) 1 1 24 = some ⟨b, 1, none⟩ := by unfold sbase; rw [if_neg (by decide)]; show some (Addr.add _ _) = _; rw [box_add]
    have eb0 : sbase (some ⟨b, 0, none⟩) 1 0 24 = some ⟨b, 0, none⟩ := by unfold sbase; rw [if_neg (by decide)]; show some (Addr.add _ _) = _; rw [box_add]
    rw [eb1]
    refine ⟨⟨by decide, by omega, by omega⟩, letW ?_⟩
    refine internal_strconv_formatBase10_call (format_ok (a := ⟨some ⟨b, 1, none⟩, n + 1 - 1, 23⟩) rfl (by show 1 + (n + 1 - 1) ≤ _; omega) (by show n + 1 - 1 < _; omega) kb dn1 hul fun h2 mv k2 => ?_)
    have k2 : Blk h2 b (buf.take 1 ++ digV n i.natAbs ++ buf.drop (1 + n)) := k2
    have hle2 : h ≤ h2 := fun c o hc => mv.keep c o (hle c o hc) (by simp only [List.mem_singleton]; intro e; rw [e, hb] at hc; cases hc)
    have txt : NatTxt i.natAbs (digL n i.natAbs) := ⟨n, rfl, dn1, n1, .inr dn⟩
    have hin := digL_in n i.natAbs
    have hdl := digL_len n i.natAbs
    have hdv : digV n i.natAbs = (digL n i.natAbs).flatMap eN := by rw [digV_map, eN_map]
    rw [hdv] at k2
    generalize digL n i.natAbs = zs at *
    have tl : (buf.take 1).length = 1 := by rw [List.length_take]; omega
    have fl : (zs.flatMap eN).length = n := by rw [flat_len eN_len, Nat.mul_one, hdl]
    by_cases hneg : i < 0
    · refine iteT (decide_eq_true hneg) ⟨by decide, ?_⟩
      have ea : Addr.add (⟨b, 0, none⟩ : Addr) 0 = ⟨b, 0, none⟩ := by rw [box_add]
      rw [ea, eb0]
      refine put1 k2 (by rw [List.length_append, List.length_append, tl]; omega) fun h3 mv3 k3 => ⟨by omega, letW ⟨strN (45 :: zs), semIs_textN (e := 5) (l := ⟨some ⟨b, 0, none⟩, n + 1 - 0, 24⟩) (tb_ok.und _ ty83 rfl) (tb_ok.und _ ty5 rfl) (tb_ok.und _ ty9 rfl) (flat_row k3 (by rw [List.length_cons]; omega) ?_) (fun x hx => ?_), ?_⟩⟩
      · cases hq : buf.take 1 with
        | nil => rw [hq] at tl; cases tl
        | cons x r =>
          have : r = [] := by rw [hq] at tl; simpa using tl
          subst this
          have e0 : (zs.flatMap eN).take (zs.length) = zs.flatMap eN := List.take_of_length_le (by omega)
          simp [List.flatMap_cons, eN, List.take_append_of_le_length, fl, hdl]
      · rcases List.mem_cons.1 hx with hx | hx
        · omega
        · have := hin x hx; omega
      · have := hk zs h3 (fun c o hc => mv3.keep c o (hle2 c o hc) (by simp only [List.mem_singleton]; intro e; rw [e, hb] at hc; cases hc)) txt
        unfold signL at this
        rw [if_pos hneg] at this
        exact this
    · refine iteF (fun hh => hneg (of_decide_eq_true hh)) ⟨⟨by decide, by omega, by omega⟩, letW ⟨strN zs, semIs_textN (e := 5) (l := ⟨some ⟨b, 1, none⟩, n + 1 - 1, 23⟩) (tb_ok.und _ ty83 rfl) (tb_ok.und _ ty5 rfl) (tb_ok.und _ ty9 rfl) (flat_row k2 (by omega) ?_) (fun x hx => by have := hin x hx; omega), ?_⟩⟩
      · rw [List.append_assoc, List.drop_append_of_le_length (by omega), List.drop_of_length_le (by omega), List.nil_append, List.take_append_of_le_length (by omega), List.take_of_length_le (by omega)]
      · have := hk zs h2 hle2 txt
        unfold signL at this
        rw [if_neg hneg] at this
        exact this

theorem itoa_ok {i : Int} {Q : ByteArray → Hp → Prop} (i0 : -9223372036854775808 ≤ i) (i1 : i < 9223372036854775808) (t : Small10 h) (hk : ∀ zs h', h ≤ h' → NatTxt i.natAbs zs → Q (strN (signL i ++ zs)) h') : strconv_Itoa_w Tryz.prog i Q h := by
  unfold strconv_Itoa_w
  refine internal_strconv_Itoa_call ?_
  unfold internal_strconv_Itoa_w
  exact internal_strconv_FormatInt_call (formatInt_ok i0 i1 t hk)
end
end Lf

/-
  Texts that are cut, and read as whole numbers.
-/
set_option autoImplicit false
namespace Lf
open Go Go.Proofs

theorem strN_data (xs : List Nat) : (strN xs).data.toList = xs.map UInt8.ofNat := by simp [strN]
theorem strN_size (xs : List Nat) : (strN xs).size = xs.length := by show (strN xs).data.size = _; simp [strN]
theorem strN_toList (xs : List Nat) : (strN xs).toList = xs.map UInt8.ofNat := by rw [ByteArray.toList_eq]; exact strN_data xs

theorem strN_get {xs : List Nat} {i x : Nat} (hx : xs[i]? = some x) (hl : x < 256) : ((strN xs).data.toList.getD i 0).toNat = x := by
  rw [strN_data, List.getD_eq_getElem?_getD, List.getElem?_map, hx]
  show (UInt8.ofNat x).toNat = x
  rw [UInt8.toNat_ofNat']
  omega

theorem strN_extract (xs : List Nat) (a b : Nat) (hb : b ≤ xs.length) : (strN xs).extract a b = strN ((xs.take b).drop a) := by
  apply bytes_ext
  rw [ByteArray.data_extract]
  apply Array.ext'
  rw [Array.toList_extract]
  show (((strN xs).data.toList).drop a).take (b - a) = _
  rw [strN_data, ← List.drop_take, ← List.map_take, ← List.map_drop]
  simp [strN]

section
variable {h : Hp}

theorem indexByte_ok {s : ByteArray} {c : Int} {K : Int → Hp → Prop} {i : Nat} (hf : (List.range s.size).find? (fun i => s[i]! == c.toNat.toUInt8) = some i) (hk : K (i : Int) h) : SemE Tryz.prog (Extern.BytealgIndexByte.indexByte #[.string s, .int .u8 c]) (shInt .i64) K h := by
  show semW Tryz.prog (match (List.range s.size).find? (fun i => s[i]! == c.toNat.toUInt8) with | some i => pure (goInt i) | none => pure (goInt (-1))) _ h
  rw [hf]
  exact ⟨_, rfl, hk⟩

theorem strN_bang {xs : List Nat} {i : Nat} (hi : i < xs.length) : (strN xs)[i]! = UInt8.ofNat xs[i] := by
  have hs : i < (strN xs).size := by rw [strN_size]; exact hi
  rw [getElem!_pos (strN xs) i hs]
  show (strN xs).data[i] = _
  simp [strN]

theorem find_at {A B : List Nat} {c : Nat} (hc : c < 256) (hA : ∀ x ∈ A, x < 256 ∧ x ≠ c) : (List.range (strN (A ++ c :: B)).size).find? (fun i => (strN (A ++ c :: B))[i]! == ((c : Nat) : Int).toNat.toUInt8) = some A.length := by
  rw [List.find?_range_eq_some]
  have hl : A.length < (A ++ c :: B).length := by rw [List.length_append, List.length_cons]; omega
  refine ⟨?_, ?_, ?_⟩
  · rw [strN_bang hl]
    simp
  · rw [List.mem_range, strN_size]; exact hl
  · intro j hj
    rw [strN_bang (by omega), List.getElem_append_left hj, Int.toNat_natCast]
    obtain ⟨h1, h2⟩ := hA _ (List.getElem_mem hj)
    have : UInt8.ofNat A[j] ≠ c.toUInt8 := fun e => h2 (by
      have := congrArg UInt8.toNat e
      rw [UInt8.toNat_ofNat', show c.toUInt8.toNat = c % 256 from UInt8.toNat_ofNat'] at this
      omega)
    simpa using this

theorem cut_ok {A B : List Nat} {c : Nat} {Q : ByteArray → ByteArray → Bool → Hp → Prop} (hc : c < 256) (hA : ∀ x ∈ A, x < 256 ∧ x ≠ c) (hA0 : A ≠ []) (hlen : (A ++ c :: B).length < 1000000) (hq : Q (strN A) (strN B) true h) : strings_Cut_w Tryz.prog (strN (A ++ c :: B)) (strN [c]) Q h := by
  unfold strings_Cut_w
  refine internal_stringslite_Cut_call ?_
  unfold internal_stringslite_Cut_w
  refine internal_stringslite_Index_call ?_
  unfold internal_stringslite_Index_w
  have hA1 : 1 ≤ A.length := by
    cases A with
    | nil => exact absurd rfl hA0
    | cons _ _ => simp
  have hs : (strN [c]).size = 1 := strN_size _
  have hl : (A ++ c :: B).length = A.length + 1 + B.length := by rw [List.length_append, List.length_cons]; omega
  refine letW (iteF (fun hh => ?_) (iteT (by rw [hs]; decide) ⟨⟨by decide, by rw [hs]; decide⟩, internal_stringslite_IndexByte_call ?_⟩))
  · rw [hs, Bool.or_eq_true] at hh
    rcases hh with hh | hh
    · exact absurd hh (by decide)
    · have := congrArg List.length (eq_of_beq hh)
      rw [strN_toList, strN_toList, List.length_map, List.length_map, hl] at this
      simp at this
      omega
  unfold internal_stringslite_IndexByte_w
  rw [strN_get (xs := [c]) (i := 0) (x := c) rfl hc]
  refine indexByte_ok (find_at hc hA) ?_
  refine iteT (decide_eq_true (by show (A.length : Int) ≥ 0; omega)) ?_
  rw [strN_size, strN_size, hl, List.length_singleton, Int.toNat_natCast]
  have e1 : IntKind.wrap .i64 ((A.length : Int) + ((1 : Nat) : Int)) = ((A.length + 1 : Nat) : Int) := by rw [wrap64 (by omega) (by omega)]; omega
  rw [e1, Int.toNat_natCast]
  refine ⟨⟨by omega, by show (A.length : Int) ≤ ((A.length + 1 + B.length : Nat) : Int); omega⟩, ⟨by omega, by omega⟩, ?_⟩
  rw [strN_extract _ _ _ (by omega), strN_extract _ _ _ (by omega)]
  have t1 : ((A ++ c :: B).take A.length).drop 0 = A := by simp
  have t2 : ((A ++ c :: B).take (A.length + 1 + B.length)).drop (A.length + 1) = B := by
    rw [List.take_of_length_le (by omega), show A ++ c :: B = (A ++ [c]) ++ B by simp, List.drop_append_of_le_length (by simp), List.drop_of_length_le (by simp)]
    rfl
  rw [t1, t2]
  exact hq

/-- What digits say. -/
def numV (zs : List Nat) : Nat := zs.foldl (fun n z => 10 * n + (z - 48)) 0

theorem numV_snoc (zs : List Nat) (z : Nat) : numV (zs ++ [z]) = 10 * numV zs + (z - 48) := by simp [numV]

theorem fold_lt : ∀ (zs : List Nat) {n k : Nat}, n < 10 ^ k → (∀ z ∈ zs, 48 ≤ z ∧ z < 58) → zs.foldl (fun n z => 10 * n + (z - 48)) n < 10 ^ (k + zs.length)
  | [], _, _, h, _ => h
  | z :: zs, n, k, h, hz => by
    have h2 := hz z (List.mem_cons_self ..)
    have := fold_lt zs (n := 10 * n + (z - 48)) (k := k + 1) (by rw [Nat.pow_succ]; omega) fun x hx => hz x (List.mem_cons_of_mem _ hx)
    rw [List.length_cons, show k + (zs.length + 1) = k + 1 + zs.length by omega]
    exact this

theorem numV_lt {zs : List Nat} (hz : ∀ z ∈ zs, 48 ≤ z ∧ z < 58) : numV zs < 10 ^ zs.length := by
  have := fold_lt zs (n := 0) (k := 0) (by decide) hz
  rw [Nat.zero_add] at this
  exact this

theorem atoi_ok {sg : Nat} {zs : List Nat} {Q : Int → Leaf → Hp → Prop} (hsg : sg = 43 ∨ sg = 45) (hz : ∀ z ∈ zs, 48 ≤ z ∧ z < 58) (z1 : 1 ≤ zs.length) (z2 : zs.length ≤ 17)
    (hk : ∀ h' e, h ≤ h' → e.v = .nilIface → Q (if sg = 45 then -(numV zs : Int) else numV zs) e h') : strconv_Atoi_w Tryz.prog (strN (sg :: zs)) Q h := by
  unfold strconv_Atoi_w
  have fin : ∀ {n : Int} {e : Leaf} {h' : Hp}, h ≤ h' → n = (if sg = 45 then -(numV zs : Int) else numV zs) → e.v = .nilIface → ((isIfV e.v) = true ∧ (if (!(isNilIface e.v)) = true then
      CallT Tryz.prog n_strconv_toError [(.string ⟨#[65, 116, 111, 105]⟩), (.string (strN (sg :: zs))), (.int .i64 (0 : Int)), (.int .i64 (0 : Int)), e.v] shLeaf (fun r2 h2 => EncW shLeaf r2.v fun e => Q n e h2) h'
      else EncW shLeaf .nilIface fun e => Q n e h')) := fun {n e h'} hl hn he => by
    rw [he]
    exact ⟨rfl, iteF (by decide) ⟨⟨.nilIface, rfl⟩, rfl, hn ▸ hk h' _ hl rfl⟩⟩
  refine internal_strconv_Atoi_call ?_
  unfold internal_strconv_Atoi_w
  have hs : (strN (sg :: zs)).size = zs.length + 1 := by rw [strN_size]; rfl
  have hg0 : ((strN (sg :: zs)).data.toList.getD 0 0).toNat = sg := strN_get rfl (by omega)
  rw [hs, hg0]
  refine letW (letW (letW (letW (letW (iteT ?_ ?_)))))
  · simp; omega
  refine JoinW1.intro (fun s k => k = h ∧ s = strN zs) ⟨⟨by decide, by omega⟩, fun _ => ⟨by decide, by omega⟩, letW (iteT (by rcases hsg with rfl | rfl <;> decide) ⟨⟨by decide, by omega⟩, ?_⟩)⟩ ?_
  · have e : (strN (sg :: zs)).extract 1 (zs.length + 1) = strN zs := by
      rw [strN_extract _ _ _ (by simp)]
      simp
    rw [e, strN_size]
    exact iteF (fun hh => by have := of_decide_eq_true hh; omega) ⟨rfl, rfl⟩
  rintro _ h ⟨rfl, rfl⟩
  intro c b t hc hb
  rw [strN_size] at hc ⊢
  generalize hh2 : h.set b (.cells (bytesL (strN zs) ++ zerosL [.int .u8 0] (c - zs.length)).toArray t (c, c + 1)) = h2
  have hle : h ≤ h2 := hh2 ▸ set_new hb
  have cell : ∀ (i z : Nat), zs[i]? = some z → hcell h2 ⟨b, i, none⟩ = some (.int .u8 (z : Int)) := fun i z hz' => by
    subst hh2
    have hi : i < zs.length := (List.getElem?_eq_some_iff.1 hz').1
    have e : (bytesL (strN zs))[i]? = some (.int .u8 (z : Int)) := by
      unfold bytesL
      rw [strN_data, List.getElem?_map, List.getElem?_map, hz']
      have := hz z (List.mem_of_getElem? hz')
      show some (Value.int .u8 (((UInt8.ofNat z).toNat : Nat) : Int)) = _
      rw [UInt8.toNat_ofNat']
      congr 2
      omega
    have hl : (bytesL (strN zs)).length = zs.length := by unfold bytesL; rw [strN_data]; simp
    have e2 : (bytesL (strN zs) ++ zerosL [.int .u8 0] (c - zs.length))[i]? = some (.int .u8 (z : Int)) := by rw [List.getElem?_append_left (by omega)]; exact e
    unfold hcell
    simp only [set_self]
    simpa using e2
  clear hh2
  refine LoopW2.intro (fun n i k => k = h2 ∧ ∃ j : Nat, i = (j : Int) ∧ j ≤ zs.length ∧ n = (numV (zs.take j) : Int)) (fun _ i _ => (zs.length - i).toNat) ⟨rfl, 0, rfl, by omega, by simp [numV]⟩ ?_
  rintro n i k ⟨rfl, j, rfl, hj, rfl⟩
  have bound : ∀ {j}, j ≤ zs.length → numV (zs.take j) < 100000000000000000 := fun {j} hj => by
    have h1 := numV_lt (zs := zs.take j) fun z hz' => hz z (List.mem_of_mem_take hz')
    have h2 : 10 ^ (zs.take j).length ≤ 10 ^ 17 := Nat.pow_le_pow_right (by decide) (by rw [List.length_take]; omega)
    omega
  by_cases hlt : j < zs.length
  · have hg : zs[j]? = some zs[j] := List.getElem?_eq_getElem hlt
    obtain ⟨g0, g1⟩ := hz _ (List.getElem_mem hlt)
    have hb1 := bound hj
    have hb2 := bound (j := j + 1) hlt
    have hsn : numV (zs.take (j + 1)) = 10 * numV (zs.take j) + (zs[j] - 48) := by rw [List.take_add_one, hg]; exact numV_snoc _ _
    refine iteT (decide_eq_true (by show (j : Int) < (zs.length : Nat); omega)) ⟨⟨by simp, by omega, by show (j : Int) < (zs.length : Nat); omega⟩, ld_at (sh := shInt .u8) ((zs[j] : Nat) : Int) ?_ ?_⟩
    · have ea : sat (some ⟨b, 0, none⟩) 1 (j : Int) = ⟨b, j, none⟩ := by show Addr.add ⟨b, 0, none⟩ _ = _; rw [box_add]; simp
      show LdIs k (sat (some ⟨b, 0, none⟩) 1 (j : Int)) _
      rw [ea]
      exact one_cell (cell j _ hg)
    · have ex : IntKind.wrap .u8 (((zs[j] : Nat) : Int) - 48) = ((zs[j] - 48 : Nat) : Int) := by rw [byte8]; omega
      rw [ex]
      refine iteF (fun hh => by have := of_decide_eq_true hh; omega) ⟨⟨rfl, j + 1, ?_, by omega, ?_⟩, ?_⟩
      · rw [wrap64 (by omega) (by omega)]; omega
      · rw [wrap64 (n := (numV (zs.take j) : Int) * 10) (by omega) (by omega), wrap64 (n := ((zs[j] - 48 : Nat) : Int)) (by omega) (by omega), wrap64 (by omega) (by omega), hsn]
        omega
      · rw [wrap64 (by omega) (by omega)]
        omega
  · have : j = zs.length := by omega
    subst this
    refine iteF (fun hh => hlt (by have : (zs.length : Int) < (zs.length : Nat) := of_decide_eq_true hh; omega)) ⟨⟨by decide, by omega⟩, ?_⟩
    have hb1 := bound (Nat.le_refl _)
    rw [List.take_of_length_le (Nat.le_refl _)] at hb1 ⊢
    rcases hsg with rfl | rfl
    · exact iteF (by decide) ⟨⟨.nilIface, rfl⟩, rfl, fin hle (by rw [if_neg (by decide)]) rfl⟩
    · exact iteT (by decide) ⟨⟨.nilIface, rfl⟩, rfl, fin hle (by rw [wrap64 (by omega) (by omega), if_pos rfl]; omega) rfl⟩
end
end Lf





/-
  The text of a finite float.
-/
set_option autoImplicit false
namespace Lf
open Go Go.Proofs

section
variable {h : Hp}

theorem formatFloat_ok {w : Nat} {Q : ByteArray → Hp → Prop} (hw64 : w < 18446744073709551616) (w0 : 0 < w % 9223372036854775808) (w1 : w % 9223372036854775808 < 9218868437227405312)
    (d0 : (shortP (mS (w % 9223372036854775808)) (eS (w % 9223372036854775808))).1 ≠ 0) (d1 : (shortP (mS (w % 9223372036854775808)) (eS (w % 9223372036854775808))).1 < 18446744073709551616)
    (t1 : Pow10 h) (t2 : Small10 h) (hz : ∀ zs, Shown (w % 9223372036854775808) (negD w) zs → ∀ z ∈ zs, z < 256) (hk : ∀ h' zs, h ≤ h' → Shown (w % 9223372036854775808) (negD w) zs → Q (strN zs) h') : strconv_FormatFloat_w Tryz.prog w (101 : Int) (-1 : Int) (64 : Int) Q h := by
  unfold strconv_FormatFloat_w
  refine internal_strconv_FormatFloat_call ?_
  unfold internal_strconv_FormatFloat_w
  refine iteF (by decide) (iteT (by decide) ⟨by decide, fun b t hb => ?_⟩)
  have hle := set_new (o := .cells (zerosL [Value.int .u8 (0 : Int)] (max2I (IntKind.wrap .i64 ((-1 : Int) + 4)) 24).toNat).toArray t (0, 0)) hb
  have own : ON h (h.set b (.cells (zerosL [Value.int .u8 (0 : Int)] (max2I (IntKind.wrap .i64 ((-1 : Int) + 4)) 24).toNat).toArray t (0, 0))) ⟨some ⟨b, 0, none⟩, (0 : Int).toNat, (max2I (IntKind.wrap .i64 ((-1 : Int) + 4)) 24).toNat⟩ [] :=
    ⟨rfl, Nat.zero_le _, .inr ⟨b, _, t, rfl, set_self, (by show (zerosL [Value.int .u8 (0 : Int)] (max2I (IntKind.wrap .i64 ((-1 : Int) + 4)) 24).toNat).length = (max2I (IntKind.wrap .i64 ((-1 : Int) + 4)) 24).toNat * 1; decide), rfl, hb⟩⟩
  refine internal_strconv_ftoa64_call (ftoa_ok hle own rfl (by decide) hw64 w0 w1 d0 d1 t1 t2 fun r h' zs hl hs o => ?_)
  exact ⟨strN zs, semIs_textN (e := 5) (tb_ok.und _ ty83 rfl) (tb_ok.und _ ty5 rfl) (tb_ok.und _ ty9 rfl) (Own.rw (by simpa using o) eN_len) (hz zs hs), hk h' zs hl hs⟩

/-- The text ahead of the exponent. -/
def headL (neg : Bool) (a v : Nat) : List Nat := match digL a v with
  | [] => []
  | c :: ds => (if neg then [45] else []) ++ [c] ++ (if ds = [] then [] else 46 :: ds)

theorem sciT_head {neg : Bool} {a v : Nat} {e : Int} (ha : 0 < a) : sciT neg a v e = headL neg a v ++ 101 :: (if e < 0 then 45 else 43) :: expL e.natAbs := by
  unfold sciT headL
  have hl := digL_len a v
  cases hq : digL a v with
  | nil => rw [hq] at hl; simp at hl; omega
  | cons c ds =>
    show (if neg then [45] else []) ++ [c] ++ (if ds = [] then [] else 46 :: ds) ++ [101, if e < 0 then 45 else 43] ++ expL e.natAbs = _
    simp

theorem headL_in {neg : Bool} {a v : Nat} : ∀ x ∈ headL neg a v, x < 58 := by
  unfold headL
  have hd := digL_in a v
  cases hq : digL a v with
  | nil => intro x hx; cases hx
  | cons c ds =>
    rw [hq] at hd
    intro x hx
    have hx : x ∈ (if neg then [45] else []) ++ [c] ++ (if ds = [] then [] else 46 :: ds) := hx
    rw [List.mem_append, List.mem_append] at hx
    rcases hx with (hx | hx) | hx
    · cases neg <;> simp at hx; omega
    · have := hd c (List.mem_cons_self ..); simp at hx; omega
    · split at hx
      · cases hx
      · rcases List.mem_cons.1 hx with hx | hx
        · omega
        · have := hd x (List.mem_cons_of_mem _ hx); omega

theorem headL_len {neg : Bool} {a v : Nat} (ha : 0 < a) : headL neg a v ≠ [] ∧ (headL neg a v).length ≤ a + 2 := by
  unfold headL
  have hl := digL_len a v
  cases hq : digL a v with
  | nil => rw [hq] at hl; simp at hl; omega
  | cons c ds =>
    rw [hq, List.length_cons] at hl
    refine ⟨by simp, ?_⟩
    show ((if neg then [45] else []) ++ [c] ++ (if ds = [] then [] else 46 :: ds)).length ≤ _
    rw [List.length_append, List.length_append]
    have : (if neg then [45] else [] : List Nat).length ≤ 1 := by split <;> simp
    have : (if ds = [] then [] else 46 :: ds).length ≤ ds.length + 1 := by split <;> simp
    simp only [List.length_singleton]
    omega

theorem expL_in {n : Nat} (hn : n < 1000) : (∀ x ∈ expL n, 48 ≤ x ∧ x < 58) ∧ 1 ≤ (expL n).length ∧ (expL n).length ≤ 3 ∧ numV (expL n) = n := by
  unfold expL
  split
  · exact ⟨fun x hx => by simp at hx; omega, by simp, by simp, by simp [numV]⟩
  · split
    · exact ⟨fun x hx => by simp at hx; omega, by simp, by simp, by simp [numV]; omega⟩
    · exact ⟨fun x hx => by simp at hx; omega, by simp, by simp, by simp [numV]; omega⟩

/-- What is printed of a finite float above 0. -/
def PrintedF (r : Nat) (neg : Bool) (out : List Nat) : Prop := ∃ (n k v : Nat) (zs : List Nat), (shortP (mS r) (eS r)).1 = v * 10 ^ k ∧ v % 10 ≠ 0 ∧ k < n ∧ n ≤ 20 ∧ 10 ^ (n - 1) ≤ (shortP (mS r) (eS r)).1 ∧ (shortP (mS r) (eS r)).1 < 10 ^ n ∧
  NatTxt ((n : Int) + (shortP (mS r) (eS r)).2 - 1).natAbs zs ∧ out = headL neg (n - k) v ++ 101 :: (signL ((n : Int) + (shortP (mS r) (eS r)).2 - 1) ++ zs)

theorem short_exp {m : Nat} {e : Int} (h0 : -1137 ≤ e) (h1 : e ≤ 974) : -400 ≤ (shortP m e).2 ∧ (shortP m e).2 ≤ 400 := by
  obtain ⟨p0, p1, -, -⟩ := p_in (m := m) h0 h1
  unfold shortP
  split
  · show -400 ≤ -(pP _ _ - 1) ∧ -(pP _ _ - 1) ≤ 400; omega
  · split
    · show -400 ≤ -(pP _ _) ∧ -(pP _ _) ≤ 400; omega
    · show -400 ≤ -(pP _ _) ∧ -(pP _ _) ≤ 400; omega

theorem rz_bound {w : Nat} (w1 : w % 9223372036854775808 < 9218868437227405312) : rzD w ≤ 9218868437227405311 ∧ -9218868437227405311 ≤ rzD w := by
  unfold rzD
  split <;> omega

theorem cmp_ngt {x y : Int} (hxy : x ≤ y) : compare x y ≠ .gt := fun e => by
  rw [Int.compare_eq_gt] at e
  omega
theorem cmp_nlt {x y : Int} (hxy : y ≤ x) : compare x y ≠ .lt := fun e => by
  rw [Int.compare_eq_lt] at e
  omega

theorem print_ok {b : Int} {w : Nat} {Q : ByteArray → Hp → Prop} (hw : floatP b = w) (w0 : 0 < w % 9223372036854775808) (w1 : w % 9223372036854775808 < 9218868437227405312)
    (d0 : (shortP (mS (w % 9223372036854775808)) (eS (w % 9223372036854775808))).1 ≠ 0) (d1 : (shortP (mS (w % 9223372036854775808)) (eS (w % 9223372036854775808))).1 < 18446744073709551616)
    (t1 : Pow10 h) (t2 : Small10 h) (hk : ∀ h' out, h ≤ h' → PrintedF (w % 9223372036854775808) (negD w) out → Q (strN out) h') : flt_Print_w Tryz.prog b Q h := by
  have hw64 : w < 18446744073709551616 := by rw [← hw]; exact floatP_lt
  obtain ⟨-, -, e0, e1, -⟩ := mS_in w0 w1
  have hex := short_exp (m := mS (w % 9223372036854775808)) e0 e1
  have nn : ¬ isNaND w = true := nan_not (by omega)
  unfold flt_Print_w
  refine flt_float_call (float_ok ?_)
  rw [hw]
  refine semV_pure (sh := shBool) (v := isNaN w) rfl (iteF (by rw [isNaN_eq hw64]; exact nn) ?_)
  have bound := rz_bound w1
  refine semV_pure (sh := shBool) (v := f64.format.order w 9218868437227405311 == some .gt) rfl (iteF (fun hh => ?_) ?_)
  · have o := order_eq (a := w) (b := 9218868437227405311) hw64 (by omega) (by omega) (by omega)
    have hh : (dbl.order w 9218868437227405311 == some .gt) = true := hh
    rw [o] at hh
    have hh := Option.some.inj (eq_of_beq hh)
    exact cmp_ngt (by have : rzD 9218868437227405311 = 9218868437227405311 := by unfold rzD negD; rw [decide_eq_false (by omega)]; decide
                      omega) hh
  refine semV_pure (sh := shBool) (v := f64.format.order w 18442240474082181119 == some .lt) rfl (iteF (fun hh => ?_) ?_)
  · have o := order_eq (a := w) (b := 18442240474082181119) hw64 (by omega) (by omega) (by omega)
    have hh : (dbl.order w 18442240474082181119 == some .lt) = true := hh
    rw [o] at hh
    have hh := Option.some.inj (eq_of_beq hh)
    exact cmp_nlt (by have : rzD 18442240474082181119 = -9218868437227405311 := by unfold rzD negD; rw [decide_eq_true (by omega)]; decide
                      omega) hh
  refine strconv_FormatFloat_call (formatFloat_ok hw64 w0 w1 d0 d1 t1 t2 ?_ fun h1 zs l1 hs => ?_)
  · rintro zs ⟨n, k, v, a1, a2, a3, a4, a5, a6, rfl⟩
    exact sciT_in (by omega)
  obtain ⟨n, k, v, a1, a2, a3, a4, a5, a6, rfl⟩ := hs
  have ha : 0 < n - k := by omega
  rw [sciT_head ha]
  obtain ⟨hl0, hl1⟩ := headL_len (neg := negD w) (v := v) ha
  have hx := expL_in (n := ((n : Int) + (shortP (mS (w % 9223372036854775808)) (eS (w % 9223372036854775808))).2 - 1).natAbs) (by omega)
  have fin := fun zs (hz : NatTxt ((n : Int) + (shortP (mS (w % 9223372036854775808)) (eS (w % 9223372036854775808))).2 - 1).natAbs zs) => (⟨n, k, v, zs, a1, a2, a3, a4, a5, a6, hz, rfl⟩ : PrintedF (w % 9223372036854775808) (negD w) _)
  have hin := headL_in (neg := negD w) (a := n - k) (v := v)
  generalize headL (negD w) (n - k) v = A at *
  generalize hE : (n : Int) + (shortP (mS (w % 9223372036854775808)) (eS (w % 9223372036854775808))).2 - 1 = E at *
  refine strings_Cut_call (cut_ok (c := 101) (by decide) (fun x hx' => by have := hin x hx'; omega) hl0 (by rw [List.length_append, List.length_cons, List.length_cons]; omega) ?_)
  refine strconv_Atoi_call (atoi_ok (by split <;> simp) hx.1 hx.2.1 (by omega) fun h2 er l2 _ => ?_)
  have eE : (if (if E < 0 then 45 else 43) = 45 then -(numV (expL E.natAbs) : Int) else numV (expL E.natAbs)) = E := by
    rw [hx.2.2.2]
    by_cases c : E < 0
    · rw [if_pos c, if_pos rfl]; omega
    · rw [if_neg c, if_neg (by decide)]; omega
  rw [eE, strN_size]
  refine ⟨by omega, strconv_Itoa_call (itoa_ok (by omega) (by omega) (ldIs_mono (Hp.le_trans l1 l2) t2) fun zs h3 l3 hz => ?_)⟩
  have hzl : zs.length ≤ 20 := by
    obtain ⟨q, e1, e2, e3, e4⟩ := hz
    rw [e1, digL_len]
    rcases e4 with e4 | e4
    · omega
    · refine Classical.byContradiction fun hq => ?_
      have : 10 ^ 20 ≤ 10 ^ (q - 1) := Nat.pow_le_pow_right (by decide) (by omega)
      omega
  have hres := hk h3 _ (Hp.le_trans l1 (Hp.le_trans l2 l3)) (fin zs hz)
  refine ⟨?_, ?_⟩
  · rw [strN_size]
    show (List.append (strN A).data.toList [101]).toArray.size + _ ≤ _
    rw [strN_data, List.length_append]
    simp
    have : (signL E).length ≤ 1 := by unfold signL; split <;> simp
    omega
  · have : strN (A ++ 101 :: (signL E ++ zs)) = ⟨⟨List.append (List.append (strN A).data.toList [101]) (strN (signL E ++ zs)).data.toList⟩⟩ := by
      rw [strN_data, strN_data]
      simp [strN]
    rw [this] at hres
    exact hres
end
end Lf

