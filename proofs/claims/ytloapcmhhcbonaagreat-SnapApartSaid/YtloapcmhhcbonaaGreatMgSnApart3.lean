/-
  Part 4 of the texts that the claim leans on.
-/
import Derived.Test.YtloapcmhhcbonaaGreatRows
import Derived.Laws.Externs
import Derived.Test.YtloapcmhhcbonaaGreatMgSnApart2
set_option maxRecDepth 100000
namespace Lf
open Go Go.Proofs
theorem zxp1 {α:Type _} {l:List α} {i:Nat} (h:l.length≤i):nth l i=none:=by rw [zht];exact List.getElem?_eq_none h
theorem tyN {e:Ty} {q:Prop} (h:(none:Option Ty)=some e):q:=by cases h
theorem tyAll {p:Nat→Ty→Prop} (h0:p 0 ty0) (h2:p 2 ty2) (h3:p 3 ty3) (h4:p 4 ty4) (h5:p 5 ty5) (h9:p 9 ty9) (h22:p 22 ty22) (h23:p 23 ty23) (h24:p 24 ty24) (h26:p 26 ty26) (h27:p 27 ty27) (h28:p 28 ty28) (h30:p 30 ty30) (h33:p 33 ty33) (h34:p 34 ty34) (h35:p 35 ty35) (h37:p 37 ty37) (h47:p 47 ty47) (h49:p 49 ty49) (h51:p 51 ty51) (h54:p 54 ty54) (h57:p 57 ty57) (h58:p 58 ty58) (h60:p 60 ty60) (h61:p 61 ty61) (h62:p 62 ty62) (h64:p 64 ty64) (h65:p 65 ty65) (h66:p 66 ty66) (h68:p 68 ty68) (h70:p 70 ty70) (h72:p 72 ty72) (h74:p 74 ty74) (h80:p 80 ty80) (h83:p 83 ty83) (h85:p 85 ty85) (h87:p 87 ty87) (h90:p 90 ty90) (h92:p 92 ty92) (h101:p 101 ty101) (h103:p 103 ty103) (h104:p 104 ty104) (h107:p 107 ty107) (h108:p 108 ty108) (h109:p 109 ty109) (h111:p 111 ty111) (h112:p 112 ty112) (h114:p 114 ty114) (h115:p 115 ty115) (h117:p 117 ty117) (h119:p 119 ty119) (h121:p 121 ty121) (h127:p 127 ty127) (h128:p 128 ty128) (h138:p 138 ty138) (h139:p 139 ty139) (h144:p 144 ty144) (h146:p 146 ty146) (h153:p 153 ty153) (h156:p 156 ty156) (h159:p 159 ty159) (h167:p 167 ty167) (h170:p 170 ty170) (h172:p 172 ty172) (h174:p 174 ty174) (h179:p 179 ty179) (h182:p 182 ty182) (h185:p 185 ty185) (h193:p 193 ty193) (h194:p 194 ty194) (h195:p 195 ty195) (h196:p 196 ty196) (h200:p 200 ty200) (h201:p 201 ty201):∀t e,tyAt t=some e→p t e:=by
 intro t e h
 by_cases hlt:t<208
 ·match t,hlt,h with
  | 0,_,h=>exact Option.some.inj (show some ty0=some e from h)▸h0
  | 1,_,h=>exact tyN h
  | 2,_,h=>exact Option.some.inj (show some ty2=some e from h)▸h2
  | 3,_,h=>exact Option.some.inj (show some ty3=some e from h)▸h3
  | 4,_,h=>exact Option.some.inj (show some ty4=some e from h)▸h4
  | 5,_,h=>exact Option.some.inj (show some ty5=some e from h)▸h5
  | 6,_,h=>exact tyN h
  | 7,_,h=>exact tyN h
  | 8,_,h=>exact tyN h
  | 9,_,h=>exact Option.some.inj (show some ty9=some e from h)▸h9
  | 10,_,h=>exact tyN h
  | 11,_,h=>exact tyN h
  | 12,_,h=>exact tyN h
  | 13,_,h=>exact tyN h
  | 14,_,h=>exact tyN h
  | 15,_,h=>exact tyN h
  | 16,_,h=>exact tyN h
  | 17,_,h=>exact tyN h
  | 18,_,h=>exact tyN h
  | 19,_,h=>exact tyN h
  | 20,_,h=>exact tyN h
  | 21,_,h=>exact tyN h
  | 22,_,h=>exact Option.some.inj (show some ty22=some e from h)▸h22
  | 23,_,h=>exact Option.some.inj (show some ty23=some e from h)▸h23
  | 24,_,h=>exact Option.some.inj (show some ty24=some e from h)▸h24
  | 25,_,h=>exact tyN h
  | 26,_,h=>exact Option.some.inj (show some ty26=some e from h)▸h26
  | 27,_,h=>exact Option.some.inj (show some ty27=some e from h)▸h27
  | 28,_,h=>exact Option.some.inj (show some ty28=some e from h)▸h28
  | 29,_,h=>exact tyN h
  | 30,_,h=>exact Option.some.inj (show some ty30=some e from h)▸h30
  | 31,_,h=>exact tyN h
  | 32,_,h=>exact tyN h
  | 33,_,h=>exact Option.some.inj (show some ty33=some e from h)▸h33
  | 34,_,h=>exact Option.some.inj (show some ty34=some e from h)▸h34
  | 35,_,h=>exact Option.some.inj (show some ty35=some e from h)▸h35
  | 36,_,h=>exact tyN h
  | 37,_,h=>exact Option.some.inj (show some ty37=some e from h)▸h37
  | 38,_,h=>exact tyN h
  | 39,_,h=>exact tyN h
  | 40,_,h=>exact tyN h
  | 41,_,h=>exact tyN h
  | 42,_,h=>exact tyN h
  | 43,_,h=>exact tyN h
  | 44,_,h=>exact tyN h
  | 45,_,h=>exact tyN h
  | 46,_,h=>exact tyN h
  | 47,_,h=>exact Option.some.inj (show some ty47=some e from h)▸h47
  | 48,_,h=>exact tyN h
  | 49,_,h=>exact Option.some.inj (show some ty49=some e from h)▸h49
  | 50,_,h=>exact tyN h
  | 51,_,h=>exact Option.some.inj (show some ty51=some e from h)▸h51
  | 52,_,h=>exact tyN h
  | 53,_,h=>exact tyN h
  | 54,_,h=>exact Option.some.inj (show some ty54=some e from h)▸h54
  | 55,_,h=>exact tyN h
  | 56,_,h=>exact tyN h
  | 57,_,h=>exact Option.some.inj (show some ty57=some e from h)▸h57
  | 58,_,h=>exact Option.some.inj (show some ty58=some e from h)▸h58
  | 59,_,h=>exact tyN h
  | 60,_,h=>exact Option.some.inj (show some ty60=some e from h)▸h60
  | 61,_,h=>exact Option.some.inj (show some ty61=some e from h)▸h61
  | 62,_,h=>exact Option.some.inj (show some ty62=some e from h)▸h62
  | 63,_,h=>exact tyN h
  | 64,_,h=>exact Option.some.inj (show some ty64=some e from h)▸h64
  | 65,_,h=>exact Option.some.inj (show some ty65=some e from h)▸h65
  | 66,_,h=>exact Option.some.inj (show some ty66=some e from h)▸h66
  | 67,_,h=>exact tyN h
  | 68,_,h=>exact Option.some.inj (show some ty68=some e from h)▸h68
  | 69,_,h=>exact tyN h
  | 70,_,h=>exact Option.some.inj (show some ty70=some e from h)▸h70
  | 71,_,h=>exact tyN h
  | 72,_,h=>exact Option.some.inj (show some ty72=some e from h)▸h72
  | 73,_,h=>exact tyN h
  | 74,_,h=>exact Option.some.inj (show some ty74=some e from h)▸h74
  | 75,_,h=>exact tyN h
  | 76,_,h=>exact tyN h
  | 77,_,h=>exact tyN h
  | 78,_,h=>exact tyN h
  | 79,_,h=>exact tyN h
  | 80,_,h=>exact Option.some.inj (show some ty80=some e from h)▸h80
  | 81,_,h=>exact tyN h
  | 82,_,h=>exact tyN h
  | 83,_,h=>exact Option.some.inj (show some ty83=some e from h)▸h83
  | 84,_,h=>exact tyN h
  | 85,_,h=>exact Option.some.inj (show some ty85=some e from h)▸h85
  | 86,_,h=>exact tyN h
  | 87,_,h=>exact Option.some.inj (show some ty87=some e from h)▸h87
  | 88,_,h=>exact tyN h
  | 89,_,h=>exact tyN h
  | 90,_,h=>exact Option.some.inj (show some ty90=some e from h)▸h90
  | 91,_,h=>exact tyN h
  | 92,_,h=>exact Option.some.inj (show some ty92=some e from h)▸h92
  | 93,_,h=>exact tyN h
  | 94,_,h=>exact tyN h
  | 95,_,h=>exact tyN h
  | 96,_,h=>exact tyN h
  | 97,_,h=>exact tyN h
  | 98,_,h=>exact tyN h
  | 99,_,h=>exact tyN h
  | 100,_,h=>exact tyN h
  | 101,_,h=>exact Option.some.inj (show some ty101=some e from h)▸h101
  | 102,_,h=>exact tyN h
  | 103,_,h=>exact Option.some.inj (show some ty103=some e from h)▸h103
  | 104,_,h=>exact Option.some.inj (show some ty104=some e from h)▸h104
  | 105,_,h=>exact tyN h
  | 106,_,h=>exact tyN h
  | 107,_,h=>exact Option.some.inj (show some ty107=some e from h)▸h107
  | 108,_,h=>exact Option.some.inj (show some ty108=some e from h)▸h108
  | 109,_,h=>exact Option.some.inj (show some ty109=some e from h)▸h109
  | 110,_,h=>exact tyN h
  | 111,_,h=>exact Option.some.inj (show some ty111=some e from h)▸h111
  | 112,_,h=>exact Option.some.inj (show some ty112=some e from h)▸h112
  | 113,_,h=>exact tyN h
  | 114,_,h=>exact Option.some.inj (show some ty114=some e from h)▸h114
  | 115,_,h=>exact Option.some.inj (show some ty115=some e from h)▸h115
  | 116,_,h=>exact tyN h
  | 117,_,h=>exact Option.some.inj (show some ty117=some e from h)▸h117
  | 118,_,h=>exact tyN h
  | 119,_,h=>exact Option.some.inj (show some ty119=some e from h)▸h119
  | 120,_,h=>exact tyN h
  | 121,_,h=>exact Option.some.inj (show some ty121=some e from h)▸h121
  | 122,_,h=>exact tyN h
  | 123,_,h=>exact tyN h
  | 124,_,h=>exact tyN h
  | 125,_,h=>exact tyN h
  | 126,_,h=>exact tyN h
  | 127,_,h=>exact Option.some.inj (show some ty127=some e from h)▸h127
  | 128,_,h=>exact Option.some.inj (show some ty128=some e from h)▸h128
  | 129,_,h=>exact tyN h
  | 130,_,h=>exact tyN h
  | 131,_,h=>exact tyN h
  | 132,_,h=>exact tyN h
  | 133,_,h=>exact tyN h
  | 134,_,h=>exact tyN h
  | 135,_,h=>exact tyN h
  | 136,_,h=>exact tyN h
  | 137,_,h=>exact tyN h
  | 138,_,h=>exact Option.some.inj (show some ty138=some e from h)▸h138
  | 139,_,h=>exact Option.some.inj (show some ty139=some e from h)▸h139
  | 140,_,h=>exact tyN h
  | 141,_,h=>exact tyN h
  | 142,_,h=>exact tyN h
  | 143,_,h=>exact tyN h
  | 144,_,h=>exact Option.some.inj (show some ty144=some e from h)▸h144
  | 145,_,h=>exact tyN h
  | 146,_,h=>exact Option.some.inj (show some ty146=some e from h)▸h146
  | 147,_,h=>exact tyN h
  | 148,_,h=>exact tyN h
  | 149,_,h=>exact tyN h
  | 150,_,h=>exact tyN h
  | 151,_,h=>exact tyN h
  | 152,_,h=>exact tyN h
  | 153,_,h=>exact Option.some.inj (show some ty153=some e from h)▸h153
  | 154,_,h=>exact tyN h
  | 155,_,h=>exact tyN h
  | 156,_,h=>exact Option.some.inj (show some ty156=some e from h)▸h156
  | 157,_,h=>exact tyN h
  | 158,_,h=>exact tyN h
  | 159,_,h=>exact Option.some.inj (show some ty159=some e from h)▸h159
  | 160,_,h=>exact tyN h
  | 161,_,h=>exact tyN h
  | 162,_,h=>exact tyN h
  | 163,_,h=>exact tyN h
  | 164,_,h=>exact tyN h
  | 165,_,h=>exact tyN h
  | 166,_,h=>exact tyN h
  | 167,_,h=>exact Option.some.inj (show some ty167=some e from h)▸h167
  | 168,_,h=>exact tyN h
  | 169,_,h=>exact tyN h
  | 170,_,h=>exact Option.some.inj (show some ty170=some e from h)▸h170
  | 171,_,h=>exact tyN h
  | 172,_,h=>exact Option.some.inj (show some ty172=some e from h)▸h172
  | 173,_,h=>exact tyN h
  | 174,_,h=>exact Option.some.inj (show some ty174=some e from h)▸h174
  | 175,_,h=>exact tyN h
  | 176,_,h=>exact tyN h
  | 177,_,h=>exact tyN h
  | 178,_,h=>exact tyN h
  | 179,_,h=>exact Option.some.inj (show some ty179=some e from h)▸h179
  | 180,_,h=>exact tyN h
  | 181,_,h=>exact tyN h
  | 182,_,h=>exact Option.some.inj (show some ty182=some e from h)▸h182
  | 183,_,h=>exact tyN h
  | 184,_,h=>exact tyN h
  | 185,_,h=>exact Option.some.inj (show some ty185=some e from h)▸h185
  | 186,_,h=>exact tyN h
  | 187,_,h=>exact tyN h
  | 188,_,h=>exact tyN h
  | 189,_,h=>exact tyN h
  | 190,_,h=>exact tyN h
  | 191,_,h=>exact tyN h
  | 192,_,h=>exact tyN h
  | 193,_,h=>exact Option.some.inj (show some ty193=some e from h)▸h193
  | 194,_,h=>exact Option.some.inj (show some ty194=some e from h)▸h194
  | 195,_,h=>exact Option.some.inj (show some ty195=some e from h)▸h195
  | 196,_,h=>exact Option.some.inj (show some ty196=some e from h)▸h196
  | 197,_,h=>exact tyN h
  | 198,_,h=>exact tyN h
  | 199,_,h=>exact tyN h
  | 200,_,h=>exact Option.some.inj (show some ty200=some e from h)▸h200
  | 201,_,h=>exact Option.some.inj (show some ty201=some e from h)▸h201
  | 202,_,h=>exact tyN h
  | 203,_,h=>exact tyN h
  | 204,_,h=>exact tyN h
  | 205,_,h=>exact tyN h
  | 206,_,h=>exact tyN h
  | 207,_,h=>exact tyN h
  | n+208,hlt,_=>omega
 ·have hl:tyRows.length=13:=rfl
  have:nth tyRows (t / 16)=none:=zxp1 (l:=tyRows) (i:=t / 16) (by rw [hl];omega)
  unfold tyAt at h
  rw [this] at h
  cases h
theorem tb_ok :tb.Ok Tryz.prog where
 und:=tyAll (p:=fun t e=>Tryz.prog.underlying t=some e.und) Tryz.underlying0 Tryz.underlying2 Tryz.underlying3 Tryz.underlying4 Tryz.underlying5 Tryz.underlying9 Tryz.underlying22 Tryz.underlying23 Tryz.underlying24 Tryz.underlying26 Tryz.underlying27 Tryz.underlying28 Tryz.underlying30 Tryz.underlying33 Tryz.underlying34 Tryz.underlying35 Tryz.underlying37 Tryz.underlying47 Tryz.underlying49 Tryz.underlying51 Tryz.underlying54 Tryz.underlying57 Tryz.underlying58 Tryz.underlying60 Tryz.underlying61 Tryz.underlying62 Tryz.underlying64 Tryz.underlying65 Tryz.underlying66 Tryz.underlying68 Tryz.underlying70 Tryz.underlying72 Tryz.underlying74 Tryz.underlying80 Tryz.underlying83 Tryz.underlying85 Tryz.underlying87 Tryz.underlying90 Tryz.underlying92 Tryz.underlying101 Tryz.underlying103 Tryz.underlying104 Tryz.underlying107 Tryz.underlying108 Tryz.underlying109 Tryz.underlying111 Tryz.underlying112 Tryz.underlying114 Tryz.underlying115 Tryz.underlying117 Tryz.underlying119 Tryz.underlying121 Tryz.underlying127 Tryz.underlying128 Tryz.underlying138 Tryz.underlying139 Tryz.underlying144 Tryz.underlying146 Tryz.underlying153 Tryz.underlying156 Tryz.underlying159 Tryz.underlying167 Tryz.underlying170 Tryz.underlying172 Tryz.underlying174 Tryz.underlying179 Tryz.underlying182 Tryz.underlying185 Tryz.underlying193 Tryz.underlying194 Tryz.underlying195 Tryz.underlying196 Tryz.underlying200 Tryz.underlying201
 info:=tyAll (p:=fun t e=>∃i,Tryz.prog.info? t=some i∧i.size=e.size∧i.bytes=e.bytes∧i.zero=some e.zero) ⟨Tryz.t0,Tryz.type0,rfl,rfl,rfl⟩ ⟨Tryz.t2,Tryz.type2,rfl,rfl,rfl⟩ ⟨Tryz.t3,Tryz.type3,rfl,rfl,rfl⟩ ⟨Tryz.t4,Tryz.type4,rfl,rfl,rfl⟩ ⟨Tryz.t5,Tryz.type5,rfl,rfl,rfl⟩ ⟨Tryz.t9,Tryz.type9,rfl,rfl,rfl⟩ ⟨Tryz.t22,Tryz.type22,rfl,rfl,rfl⟩ ⟨Tryz.t23,Tryz.type23,rfl,rfl,rfl⟩ ⟨Tryz.t24,Tryz.type24,rfl,rfl,rfl⟩ ⟨Tryz.t26,Tryz.type26,rfl,rfl,rfl⟩ ⟨Tryz.t27,Tryz.type27,rfl,rfl,rfl⟩ ⟨Tryz.t28,Tryz.type28,rfl,rfl,rfl⟩ ⟨Tryz.t30,Tryz.type30,rfl,rfl,rfl⟩ ⟨Tryz.t33,Tryz.type33,rfl,rfl,rfl⟩ ⟨Tryz.t34,Tryz.type34,rfl,rfl,rfl⟩ ⟨Tryz.t35,Tryz.type35,rfl,rfl,rfl⟩ ⟨Tryz.t37,Tryz.type37,rfl,rfl,rfl⟩ ⟨Tryz.t47,Tryz.type47,rfl,rfl,rfl⟩ ⟨Tryz.t49,Tryz.type49,rfl,rfl,rfl⟩ ⟨Tryz.t51,Tryz.type51,rfl,rfl,rfl⟩ ⟨Tryz.t54,Tryz.type54,rfl,rfl,rfl⟩ ⟨Tryz.t57,Tryz.type57,rfl,rfl,rfl⟩ ⟨Tryz.t58,Tryz.type58,rfl,rfl,rfl⟩ ⟨Tryz.t60,Tryz.type60,rfl,rfl,rfl⟩ ⟨Tryz.t61,Tryz.type61,rfl,rfl,rfl⟩ ⟨Tryz.t62,Tryz.type62,rfl,rfl,rfl⟩ ⟨Tryz.t64,Tryz.type64,rfl,rfl,rfl⟩ ⟨Tryz.t65,Tryz.type65,rfl,rfl,rfl⟩ ⟨Tryz.t66,Tryz.type66,rfl,rfl,rfl⟩ ⟨Tryz.t68,Tryz.type68,rfl,rfl,rfl⟩ ⟨Tryz.t70,Tryz.type70,rfl,rfl,rfl⟩ ⟨Tryz.t72,Tryz.type72,rfl,rfl,rfl⟩ ⟨Tryz.t74,Tryz.type74,rfl,rfl,rfl⟩ ⟨Tryz.t80,Tryz.type80,rfl,rfl,rfl⟩ ⟨Tryz.t83,Tryz.type83,rfl,rfl,rfl⟩ ⟨Tryz.t85,Tryz.type85,rfl,rfl,rfl⟩ ⟨Tryz.t87,Tryz.type87,rfl,rfl,rfl⟩ ⟨Tryz.t90,Tryz.type90,rfl,rfl,rfl⟩ ⟨Tryz.t92,Tryz.type92,rfl,rfl,rfl⟩ ⟨Tryz.t101,Tryz.type101,rfl,rfl,rfl⟩ ⟨Tryz.t103,Tryz.type103,rfl,rfl,rfl⟩ ⟨Tryz.t104,Tryz.type104,rfl,rfl,rfl⟩ ⟨Tryz.t107,Tryz.type107,rfl,rfl,rfl⟩ ⟨Tryz.t108,Tryz.type108,rfl,rfl,rfl⟩ ⟨Tryz.t109,Tryz.type109,rfl,rfl,rfl⟩ ⟨Tryz.t111,Tryz.type111,rfl,rfl,rfl⟩ ⟨Tryz.t112,Tryz.type112,rfl,rfl,rfl⟩ ⟨Tryz.t114,Tryz.type114,rfl,rfl,rfl⟩ ⟨Tryz.t115,Tryz.type115,rfl,rfl,rfl⟩ ⟨Tryz.t117,Tryz.type117,rfl,rfl,rfl⟩ ⟨Tryz.t119,Tryz.type119,rfl,rfl,rfl⟩ ⟨Tryz.t121,Tryz.type121,rfl,rfl,rfl⟩ ⟨Tryz.t127,Tryz.type127,rfl,rfl,rfl⟩ ⟨Tryz.t128,Tryz.type128,rfl,rfl,rfl⟩ ⟨Tryz.t138,Tryz.type138,rfl,rfl,rfl⟩ ⟨Tryz.t139,Tryz.type139,rfl,rfl,rfl⟩ ⟨Tryz.t144,Tryz.type144,rfl,rfl,rfl⟩ ⟨Tryz.t146,Tryz.type146,rfl,rfl,rfl⟩ ⟨Tryz.t153,Tryz.type153,rfl,rfl,rfl⟩ ⟨Tryz.t156,Tryz.type156,rfl,rfl,rfl⟩ ⟨Tryz.t159,Tryz.type159,rfl,rfl,rfl⟩ ⟨Tryz.t167,Tryz.type167,rfl,rfl,rfl⟩ ⟨Tryz.t170,Tryz.type170,rfl,rfl,rfl⟩ ⟨Tryz.t172,Tryz.type172,rfl,rfl,rfl⟩ ⟨Tryz.t174,Tryz.type174,rfl,rfl,rfl⟩ ⟨Tryz.t179,Tryz.type179,rfl,rfl,rfl⟩ ⟨Tryz.t182,Tryz.type182,rfl,rfl,rfl⟩ ⟨Tryz.t185,Tryz.type185,rfl,rfl,rfl⟩ ⟨Tryz.t193,Tryz.type193,rfl,rfl,rfl⟩ ⟨Tryz.t194,Tryz.type194,rfl,rfl,rfl⟩ ⟨Tryz.t195,Tryz.type195,rfl,rfl,rfl⟩ ⟨Tryz.t196,Tryz.type196,rfl,rfl,rfl⟩ ⟨Tryz.t200,Tryz.type200,rfl,rfl,rfl⟩ ⟨Tryz.t201,Tryz.type201,rfl,rfl,rfl⟩
 agg:=tyAll (p:=fun t e=>zlc e.und=true→∀x,∃cs,e.sh.enc x=.agg cs∧cs.size=e.size) (fun h=>by cases h) (fun h=>by cases h) (fun h=>by cases h) (fun h=>by cases h) (fun h=>by cases h) (fun h=>by cases h) (fun h=>by cases h) (fun h=>by cases h) (fun h=>by cases h) (fun _ x=>⟨_,rfl,rfl⟩) (fun h=>by cases h) (fun h=>by cases h) (fun _ x=>⟨_,rfl,rfl⟩) (fun h=>by cases h) (fun h=>by cases h) (fun h=>by cases h) (fun h=>by cases h) (fun h=>by cases h) (fun _ x=>⟨_,rfl,rfl⟩) (fun _ x=>⟨_,rfl,rfl⟩) (fun h=>by cases h) (fun h=>by cases h) (fun h=>by cases h) (fun _ x=>⟨_,rfl,rfl⟩) (fun _ x=>⟨_,rfl,rfl⟩) (fun h=>by cases h) (fun _ x=>⟨_,rfl,rfl⟩) (fun h=>by cases h) (fun h=>by cases h) (fun _ x=>⟨_,rfl,rfl⟩) (fun h=>by cases h) (fun _ x=>⟨_,rfl,rfl⟩) (fun _ x=>⟨_,rfl,rfl⟩) (fun h=>by cases h) (fun h=>by cases h) (fun _ x=>⟨_,rfl,rfl⟩) (fun _ x=>⟨_,rfl,rfl⟩) (fun h=>by cases h) (fun _ x=>⟨_,rfl,rfl⟩) (fun h=>by cases h) (fun h=>by cases h) (fun h=>by cases h) (fun _ x=>⟨_,rfl,rfl⟩) (fun h=>by cases h) (fun h=>by cases h) (fun _ x=>⟨_,rfl,rfl⟩) (fun h=>by cases h) (fun _ x=>⟨_,rfl,rfl⟩) (fun h=>by cases h) (fun h=>by cases h) (fun h=>by cases h) (fun _ x=>⟨_,rfl,rfl⟩) (fun h=>by cases h) (fun h=>by cases h) (fun h=>by cases h) (fun h=>by cases h) (fun h=>by cases h) (fun _ x=>⟨_,rfl,rfl⟩) (fun _ x=>⟨_,rfl,rfl⟩) (fun h=>by cases h) (fun _ x=>⟨_,rfl,rfl⟩) (fun _ x=>⟨_,rfl,rfl⟩) (fun h=>by cases h) (fun _ x=>⟨_,rfl,rfl⟩) (fun h=>by cases h) (fun h=>by cases h) (fun h=>by cases h) (fun h=>by cases h) (fun h=>by cases h) (fun _ x=>⟨_,rfl,rfl⟩) (fun h=>by cases h) (fun _ x=>⟨_,rfl,x.size⟩) (fun h=>by cases h) (fun h=>by cases h)
 leaf:=tyAll (p:=fun t e=>zlc e.und=false→e.size=1∧∀x,(zae (e.sh.enc x)).length=1∧∀cs,e.sh.enc x≠ .agg cs) (fun _=>⟨rfl,fun x=>⟨rfl,fun cs h=>by cases h⟩⟩) (fun _=>⟨rfl,fun x=>⟨rfl,fun cs h=>by cases h⟩⟩) (fun _=>⟨rfl,fun x=>⟨rfl,fun cs h=>by cases h⟩⟩) (fun _=>⟨rfl,fun x=>⟨rfl,fun cs h=>by cases h⟩⟩) (fun _=>⟨rfl,fun x=>⟨rfl,fun cs h=>by cases h⟩⟩) (fun _=>⟨rfl,fun x=>⟨rfl,fun cs h=>by cases h⟩⟩) (fun _=>⟨rfl,fun x=>⟨rfl,fun cs h=>by cases h⟩⟩) (fun _=>⟨rfl,fun x=>⟨rfl,fun cs h=>by cases h⟩⟩) (fun _=>⟨rfl,fun x=>⟨rfl,fun cs h=>by cases h⟩⟩) (fun h=>by cases h) (fun _=>⟨rfl,fun x=>⟨rfl,fun cs h=>by cases h⟩⟩) (fun _=>⟨rfl,fun x=>⟨rfl,fun cs h=>by cases h⟩⟩) (fun h=>by cases h) (fun _=>⟨rfl,fun x=>⟨rfl,fun cs h=>by cases h⟩⟩) (fun _=>⟨rfl,fun x=>⟨rfl,fun cs h=>by cases h⟩⟩) (fun _=>⟨rfl,fun x=>⟨rfl,fun cs h=>by cases h⟩⟩) (fun _=>⟨rfl,fun x=>⟨rfl,fun cs h=>by cases h⟩⟩) (fun _=>⟨rfl,fun x=>⟨rfl,fun cs h=>by cases h⟩⟩) (fun h=>by cases h) (fun h=>by cases h) (fun _=>⟨rfl,fun x=>⟨rfl,fun cs h=>by cases h⟩⟩) (fun _=>⟨rfl,fun x=>⟨rfl,fun cs h=>by cases h⟩⟩) (fun _=>⟨rfl,fun x=>⟨rfl,fun cs h=>by cases h⟩⟩) (fun h=>by cases h) (fun h=>by cases h) (fun _=>⟨rfl,fun x=>⟨rfl,fun cs h=>by cases h⟩⟩) (fun h=>by cases h) (fun _=>⟨rfl,fun x=>⟨rfl,fun cs h=>by cases h⟩⟩) (fun _=>⟨rfl,fun x=>⟨rfl,fun cs h=>by cases h⟩⟩) (fun h=>by cases h) (fun _=>⟨rfl,fun x=>⟨rfl,fun cs h=>by cases h⟩⟩) (fun h=>by cases h) (fun h=>by cases h) (fun _=>⟨rfl,fun x=>⟨rfl,fun cs h=>by cases h⟩⟩) (fun _=>⟨rfl,fun x=>⟨rfl,fun cs h=>by cases h⟩⟩) (fun h=>by cases h) (fun h=>by cases h) (fun _=>⟨rfl,fun x=>⟨rfl,fun cs h=>by cases h⟩⟩) (fun h=>by cases h) (fun _=>⟨rfl,fun x=>⟨rfl,fun cs h=>by cases h⟩⟩) (fun _=>⟨rfl,fun x=>⟨rfl,fun cs h=>by cases h⟩⟩) (fun _=>⟨rfl,fun x=>⟨rfl,fun cs h=>by cases h⟩⟩) (fun h=>by cases h) (fun _=>⟨rfl,fun x=>⟨rfl,fun cs h=>by cases h⟩⟩) (fun _=>⟨rfl,fun x=>⟨rfl,fun cs h=>by cases h⟩⟩) (fun h=>by cases h) (fun _=>⟨rfl,fun x=>⟨rfl,fun cs h=>by cases h⟩⟩) (fun h=>by cases h) (fun _=>⟨rfl,fun x=>⟨rfl,fun cs h=>by cases h⟩⟩) (fun _=>⟨rfl,fun x=>⟨rfl,fun cs h=>by cases h⟩⟩) (fun _=>⟨rfl,fun x=>⟨rfl,fun cs h=>by cases h⟩⟩) (fun h=>by cases h) (fun _=>⟨rfl,fun x=>⟨rfl,fun cs h=>by cases h⟩⟩) (fun _=>⟨rfl,fun x=>⟨rfl,fun cs h=>by cases h⟩⟩) (fun _=>⟨rfl,fun x=>⟨rfl,fun cs h=>by cases h⟩⟩) (fun _=>⟨rfl,fun x=>⟨rfl,fun cs h=>by cases h⟩⟩) (fun _=>⟨rfl,fun x=>⟨rfl,fun cs h=>by cases h⟩⟩) (fun h=>by cases h) (fun h=>by cases h) (fun _=>⟨rfl,fun x=>⟨rfl,fun cs h=>by cases h⟩⟩) (fun h=>by cases h) (fun h=>by cases h) (fun _=>⟨rfl,fun x=>⟨rfl,fun cs h=>by cases h⟩⟩) (fun h=>by cases h) (fun _=>⟨rfl,fun x=>⟨rfl,fun cs h=>by cases h⟩⟩) (fun _=>⟨rfl,fun x=>⟨rfl,fun cs h=>by cases h⟩⟩) (fun _=>⟨rfl,fun x=>⟨rfl,fun cs h=>by cases h⟩⟩) (fun _=>⟨rfl,fun x=>⟨rfl,fun cs h=>by cases h⟩⟩) (fun _=>⟨rfl,fun x=>⟨rfl,fun cs h=>by cases h⟩⟩) (fun h=>by cases h) (fun _=>⟨rfl,fun x=>⟨rfl,fun cs h=>by cases h⟩⟩) (fun h=>by cases h) (fun _=>⟨rfl,fun x=>⟨rfl,fun cs h=>by cases h⟩⟩) (fun _=>⟨rfl,fun x=>⟨rfl,fun cs h=>by cases h⟩⟩)
 zlen:=tyAll (p:=fun t e=>(zae e.zero).length=e.size) rfl rfl rfl rfl rfl rfl rfl rfl rfl rfl rfl rfl rfl rfl rfl rfl rfl rfl rfl rfl rfl rfl rfl rfl rfl rfl rfl rfl rfl rfl rfl rfl rfl rfl rfl rfl rfl rfl rfl rfl rfl rfl rfl rfl rfl rfl rfl rfl rfl rfl rfl rfl rfl rfl rfl rfl rfl rfl rfl rfl rfl rfl rfl rfl rfl rfl rfl rfl rfl rfl rfl rfl rfl rfl
 zero8:=tyAll (p:=fun t e=>e.und=.int .u8→zae e.zero=[.int .u8 0]) (fun h=>by cases h) (fun h=>by cases h) (fun h=>by cases h) (fun h=>by cases h) (fun _=>rfl) (fun h=>by cases h) (fun h=>by cases h) (fun h=>by cases h) (fun h=>by cases h) (fun h=>by cases h) (fun h=>by cases h) (fun h=>by cases h) (fun h=>by cases h) (fun h=>by cases h) (fun h=>by cases h) (fun h=>by cases h) (fun h=>by cases h) (fun h=>by cases h) (fun h=>by cases h) (fun h=>by cases h) (fun h=>by cases h) (fun h=>by cases h) (fun h=>by cases h) (fun h=>by cases h) (fun h=>by cases h) (fun h=>by cases h) (fun h=>by cases h) (fun h=>by cases h) (fun h=>by cases h) (fun h=>by cases h) (fun h=>by cases h) (fun h=>by cases h) (fun h=>by cases h) (fun h=>by cases h) (fun h=>by cases h) (fun h=>by cases h) (fun h=>by cases h) (fun h=>by cases h) (fun h=>by cases h) (fun h=>by cases h) (fun h=>by cases h) (fun h=>by cases h) (fun h=>by cases h) (fun h=>by cases h) (fun h=>by cases h) (fun h=>by cases h) (fun h=>by cases h) (fun h=>by cases h) (fun h=>by cases h) (fun h=>by cases h) (fun h=>by cases h) (fun h=>by cases h) (fun h=>by cases h) (fun h=>by cases h) (fun h=>by cases h) (fun h=>by cases h) (fun h=>by cases h) (fun h=>by cases h) (fun h=>by cases h) (fun h=>by cases h) (fun h=>by cases h) (fun h=>by cases h) (fun h=>by cases h) (fun h=>by cases h) (fun h=>by cases h) (fun h=>by cases h) (fun h=>by cases h) (fun h=>by cases h) (fun h=>by cases h) (fun h=>by cases h) (fun h=>by cases h) (fun h=>by cases h) (fun h=>by cases h) (fun h=>by cases h)
 zagg:=tyAll (p:=fun t e=>zlc e.und=true→∃cs,e.zero=.agg cs) (fun h=>by cases h) (fun h=>by cases h) (fun h=>by cases h) (fun h=>by cases h) (fun h=>by cases h) (fun h=>by cases h) (fun h=>by cases h) (fun h=>by cases h) (fun h=>by cases h) (fun _=>⟨_,rfl⟩) (fun h=>by cases h) (fun h=>by cases h) (fun _=>⟨_,rfl⟩) (fun h=>by cases h) (fun h=>by cases h) (fun h=>by cases h) (fun h=>by cases h) (fun h=>by cases h) (fun _=>⟨_,rfl⟩) (fun _=>⟨_,rfl⟩) (fun h=>by cases h) (fun h=>by cases h) (fun h=>by cases h) (fun _=>⟨_,rfl⟩) (fun _=>⟨_,rfl⟩) (fun h=>by cases h) (fun _=>⟨_,rfl⟩) (fun h=>by cases h) (fun h=>by cases h) (fun _=>⟨_,rfl⟩) (fun h=>by cases h) (fun _=>⟨_,rfl⟩) (fun _=>⟨_,rfl⟩) (fun h=>by cases h) (fun h=>by cases h) (fun _=>⟨_,rfl⟩) (fun _=>⟨_,rfl⟩) (fun h=>by cases h) (fun _=>⟨_,rfl⟩) (fun h=>by cases h) (fun h=>by cases h) (fun h=>by cases h) (fun _=>⟨_,rfl⟩) (fun h=>by cases h) (fun h=>by cases h) (fun _=>⟨_,rfl⟩) (fun h=>by cases h) (fun _=>⟨_,rfl⟩) (fun h=>by cases h) (fun h=>by cases h) (fun h=>by cases h) (fun _=>⟨_,rfl⟩) (fun h=>by cases h) (fun h=>by cases h) (fun h=>by cases h) (fun h=>by cases h) (fun h=>by cases h) (fun _=>⟨_,rfl⟩) (fun _=>⟨_,rfl⟩) (fun h=>by cases h) (fun _=>⟨_,rfl⟩) (fun _=>⟨_,rfl⟩) (fun h=>by cases h) (fun _=>⟨_,rfl⟩) (fun h=>by cases h) (fun h=>by cases h) (fun h=>by cases h) (fun h=>by cases h) (fun h=>by cases h) (fun _=>⟨_,rfl⟩) (fun h=>by cases h) (fun _=>⟨_,rfl⟩) (fun h=>by cases h) (fun h=>by cases h)
 call:=by
  intro g h
  by_cases hlt:g<160
  ·match g,hlt,h with
   | 0,_,h=>exact absurd (show false=true from h) (by simp)
   | 1,_,h=>exact absurd (show false=true from h) (by simp)
   | 2,_,_=>exact Tryz.call2
   | 3,_,_=>exact Tryz.call3
   | 4,_,_=>exact Tryz.call4
   | 5,_,_=>exact Tryz.call5
   | 6,_,_=>exact Tryz.call6
   | 7,_,_=>exact Tryz.call7
   | 8,_,_=>exact Tryz.call8
   | 9,_,_=>exact Tryz.call9
   | 10,_,_=>exact Tryz.call10
   | 11,_,_=>exact Tryz.call11
   | 12,_,_=>exact Tryz.call12
   | 13,_,_=>exact Tryz.call13
   | 14,_,_=>exact Tryz.call14
   | 15,_,_=>exact Tryz.call15
   | 16,_,_=>exact Tryz.call16
   | 17,_,_=>exact Tryz.call17
   | 18,_,_=>exact Tryz.call18
   | 19,_,_=>exact Tryz.call19
   | 20,_,_=>exact Tryz.call20
   | 21,_,_=>exact Tryz.call21
   | 22,_,_=>exact Tryz.call22
   | 23,_,_=>exact Tryz.call23
   | 24,_,_=>exact Tryz.call24
   | 25,_,_=>exact Tryz.call25
   | 26,_,_=>exact Tryz.call26
   | 27,_,_=>exact Tryz.call27
   | 28,_,_=>exact Tryz.call28
   | 29,_,_=>exact Tryz.call29
   | 30,_,_=>exact Tryz.call30
   | 31,_,_=>exact Tryz.call31
   | 32,_,_=>exact Tryz.call32
   | 33,_,_=>exact Tryz.call33
   | 34,_,_=>exact Tryz.call34
   | 35,_,_=>exact Tryz.call35
   | 36,_,_=>exact Tryz.call36
   | 37,_,_=>exact Tryz.call37
   | 38,_,_=>exact Tryz.call38
   | 39,_,_=>exact Tryz.call39
   | 40,_,_=>exact Tryz.call40
   | 41,_,_=>exact Tryz.call41
   | 42,_,_=>exact Tryz.call42
   | 43,_,_=>exact Tryz.call43
   | 44,_,_=>exact Tryz.call44
   | 45,_,_=>exact Tryz.call45
   | 46,_,_=>exact Tryz.call46
   | 47,_,_=>exact Tryz.call47
   | 48,_,_=>exact Tryz.call48
   | 49,_,_=>exact Tryz.call49
   | 50,_,_=>exact Tryz.call50
   | 51,_,_=>exact Tryz.call51
   | 52,_,_=>exact Tryz.call52
   | 53,_,_=>exact Tryz.call53
   | 54,_,_=>exact Tryz.call54
   | 55,_,_=>exact Tryz.call55
   | 56,_,_=>exact Tryz.call56
   | 57,_,_=>exact Tryz.call57
   | 58,_,_=>exact Tryz.call58
   | 59,_,_=>exact Tryz.call59
   | 60,_,_=>exact Tryz.call60
   | 61,_,_=>exact Tryz.call61
   | 62,_,_=>exact Tryz.call62
   | 63,_,_=>exact Tryz.call63
   | 64,_,_=>exact Tryz.call64
   | 65,_,_=>exact Tryz.call65
   | 66,_,_=>exact Tryz.call66
   | 67,_,_=>exact Tryz.call67
   | 68,_,_=>exact Tryz.call68
   | 69,_,_=>exact Tryz.call69
   | 70,_,_=>exact Tryz.call70
   | 71,_,_=>exact Tryz.call71
   | 72,_,_=>exact Tryz.call72
   | 73,_,_=>exact Tryz.call73
   | 74,_,_=>exact Tryz.call74
   | 75,_,_=>exact Tryz.call75
   | 76,_,_=>exact Tryz.call76
   | 77,_,_=>exact Tryz.call77
   | 78,_,_=>exact Tryz.call78
   | 79,_,_=>exact Tryz.call79
   | 80,_,_=>exact Tryz.call80
   | 81,_,_=>exact Tryz.call81
   | 82,_,_=>exact Tryz.call82
   | 83,_,_=>exact Tryz.call83
   | 84,_,_=>exact Tryz.call84
   | 85,_,_=>exact Tryz.call85
   | 86,_,_=>exact Tryz.call86
   | 87,_,_=>exact Tryz.call87
   | 88,_,_=>exact Tryz.call88
   | 89,_,_=>exact Tryz.call89
   | 90,_,_=>exact Tryz.call90
   | 91,_,_=>exact Tryz.call91
   | 92,_,_=>exact Tryz.call92
   | 93,_,_=>exact Tryz.call93
   | 94,_,_=>exact Tryz.call94
   | 95,_,_=>exact Tryz.call95
   | 96,_,_=>exact Tryz.call96
   | 97,_,_=>exact Tryz.call97
   | 98,_,_=>exact Tryz.call98
   | 99,_,_=>exact Tryz.call99
   | 100,_,_=>exact Tryz.call100
   | 101,_,_=>exact Tryz.call101
   | 102,_,_=>exact Tryz.call102
   | 103,_,_=>exact Tryz.call103
   | 104,_,_=>exact Tryz.call104
   | 105,_,_=>exact Tryz.call105
   | 106,_,_=>exact Tryz.call106
   | 107,_,_=>exact Tryz.call107
   | 108,_,_=>exact Tryz.call108
   | 109,_,_=>exact Tryz.call109
   | 110,_,_=>exact Tryz.call110
   | 111,_,_=>exact Tryz.call111
   | 112,_,_=>exact Tryz.call112
   | 113,_,_=>exact Tryz.call113
   | 114,_,_=>exact Tryz.call114
   | 115,_,_=>exact Tryz.call115
   | 116,_,_=>exact Tryz.call116
   | 117,_,_=>exact Tryz.call117
   | 118,_,_=>exact Tryz.call118
   | 119,_,_=>exact Tryz.call119
   | 120,_,_=>exact Tryz.call120
   | 121,_,_=>exact Tryz.call121
   | 122,_,_=>exact Tryz.call122
   | 123,_,_=>exact Tryz.call123
   | 124,_,_=>exact Tryz.call124
   | 125,_,_=>exact Tryz.call125
   | 126,_,_=>exact Tryz.call126
   | 127,_,_=>exact Tryz.call127
   | 128,_,_=>exact Tryz.call128
   | 129,_,_=>exact Tryz.call129
   | 130,_,_=>exact Tryz.call130
   | 131,_,_=>exact Tryz.call131
   | 132,_,_=>exact Tryz.call132
   | 133,_,_=>exact Tryz.call133
   | 134,_,_=>exact Tryz.call134
   | 135,_,_=>exact Tryz.call135
   | 136,_,_=>exact Tryz.call136
   | 137,_,_=>exact Tryz.call137
   | 138,_,_=>exact Tryz.call138
   | 139,_,_=>exact Tryz.call139
   | 140,_,_=>exact Tryz.call140
   | 141,_,_=>exact Tryz.call141
   | 142,_,_=>exact Tryz.call142
   | 143,_,_=>exact Tryz.call143
   | 144,_,_=>exact Tryz.call144
   | 145,_,_=>exact Tryz.call145
   | 146,_,_=>exact Tryz.call146
   | 147,_,_=>exact Tryz.call147
   | 148,_,_=>exact Tryz.call148
   | 149,_,_=>exact Tryz.call149
   | 150,_,_=>exact Tryz.call150
   | 151,_,_=>exact Tryz.call151
   | 152,_,h=>exact absurd (show false=true from h) (by simp)
   | 153,_,_=>exact Tryz.call153
   | 154,_,_=>exact Tryz.call154
   | 155,_,h=>exact absurd (show false=true from h) (by simp)
   | 156,_,_=>exact Tryz.call156
   | 157,_,h=>exact absurd (show false=true from h) (by simp)
   | 158,_,h=>exact absurd (show false=true from h) (by simp)
   | 159,_,h=>exact absurd (show false=true from h) (by simp)
   | n+160,hlt,_=>omega
  ·have hl:fnRows.length=10:=rfl
   have:nth fnRows (g / 16)=none:=zxp1 (l:=fnRows) (i:=g / 16) (by rw [hl];omega)
   have h:fnAt g=true:=h
   unfold fnAt at h
   rw [this] at h
   cases h
 ext:=by
  intro g f h args w
  have h:extAt g=some f:=h
  unfold extAt at h
  cases h
 mixed:=by kernel_rfl
end Lf

set_option maxRecDepth 100000
namespace Lf
open Go Go.Proofs
theorem ztz (b:Sl) (Q:(Bool→(Hp→Prop))) (h:Hp):funW ⟨Tryz.prog,tb,zle⟩ Tryz.f7 zuf [(shSl).enc b] (Q) h=zdc Tryz.prog b Q h:=by kernel_rfl
theorem firebreaklaw22_SnapApart_call {b:Sl} {Q:(Bool→(Hp→Prop))} {h:Hp} (hv:zdc Tryz.prog b Q h):CallT Tryz.prog zld [(shSl).enc b] (zaf) Q h:=
 show CallT Tryz.prog zld [(shSl).enc b] (shRes tb [4]) (Q) h from zaa (C:=⟨Tryz.prog,tb,zle⟩) tb_ok Tryz.func7 rfl (Eq.mpr (ztz b Q h) hv)
theorem zzb  (Q:(Bool→(Hp→Prop))) (h:Hp):funW ⟨Tryz.prog,tb,zoq⟩ Tryz.f8 zan1 [] (Q) h=zfr Tryz.prog  Q h:=by kernel_rfl
theorem zwf {Q:(Bool→(Hp→Prop))} {h:Hp} (hv:zfr Tryz.prog  Q h):CallT Tryz.prog zjc [] (zaf) Q h:=
 show CallT Tryz.prog zjc [] (shRes tb [4]) (Q) h from zaa (C:=⟨Tryz.prog,tb,zoq⟩) tb_ok Tryz.func8 rfl (Eq.mpr (zzb  Q h) hv)
theorem znn1 (c:S_api_Config) (s:S_api_State) (Q:(Sl→(Int→(Hp→Prop)))) (h:Hp):funW ⟨Tryz.prog,tb,zgv1⟩ Tryz.f10 zpp1 [(sh_api_Config).enc c,(zan).enc s] (fun r=>Q r.1 r.2) h=zrx Tryz.prog c s Q h:=by kernel_rfl
theorem zkm1 {c:S_api_Config} {s:S_api_State} {Q:(Sl→(Int→(Hp→Prop)))} {h:Hp} (hv:zrx Tryz.prog c s Q h):Call2 Tryz.prog zxz [(sh_api_Config).enc c,(zan).enc s] (shSl) (shInt .i64) Q h:=
 show CallT Tryz.prog zxz [(sh_api_Config).enc c,(zan).enc s] (shRes tb [33,34]) (fun r=>Q r.1 r.2) h from zaa (C:=⟨Tryz.prog,tb,zgv1⟩) tb_ok Tryz.func10 rfl (Eq.mpr (znn1 c s Q h) hv)
theorem zno1 (b:Sl) (Q:(S_api_Config→(S_api_State→(Int→(Int→(Hp→Prop)))))) (h:Hp):funW ⟨Tryz.prog,tb,zgw1⟩ Tryz.f12 zpq1 [(shSl).enc b] (fun r=>Q r.1 r.2.1 r.2.2.1 r.2.2.2) h=zry Tryz.prog b Q h:=by kernel_rfl
theorem zix {b:Sl} {Q:(S_api_Config→(S_api_State→(Int→(Int→(Hp→Prop)))))} {h:Hp} (hv:zry Tryz.prog b Q h):Call4 Tryz.prog zkw [(shSl).enc b] (sh_api_Config) (zan) (shInt .i64) (shInt .i64) Q h:=
 show CallT Tryz.prog zkw [(shSl).enc b] (shRes tb [26,30,34,3]) (fun r=>Q r.1 r.2.1 r.2.2.1 r.2.2.2) h from zaa (C:=⟨Tryz.prog,tb,zgw1⟩) tb_ok Tryz.func12 rfl (Eq.mpr (zno1 b Q h) hv)
theorem zxh (b:Sl) (Q:(S_api_Config→(S_api_State→(Int→(Int→(Hp→Prop)))))) (h:Hp):funW ⟨Tryz.prog,tb,znk⟩ Tryz.f13 zyk [(shSl).enc b] (fun r=>Q r.1 r.2.1 r.2.2.1 r.2.2.2) h=zev Tryz.prog b Q h:=by kernel_rfl
theorem zlg {b:Sl} {Q:(S_api_Config→(S_api_State→(Int→(Int→(Hp→Prop)))))} {h:Hp} (hv:zev Tryz.prog b Q h):Call4 Tryz.prog zie [(shSl).enc b] (sh_api_Config) (zan) (shInt .i64) (shInt .i64) Q h:=
 show CallT Tryz.prog zie [(shSl).enc b] (shRes tb [26,30,34,3]) (fun r=>Q r.1 r.2.1 r.2.2.1 r.2.2.2) h from zaa (C:=⟨Tryz.prog,tb,znk⟩) tb_ok Tryz.func13 rfl (Eq.mpr (zxh b Q h) hv)
theorem zba1 (a:S_api_Config) (b:S_api_Config) (Q:(Bool→(Hp→Prop))) (h:Hp):funW ⟨Tryz.prog,tb,zpu⟩ Tryz.f14 zbp1 [(sh_api_Config).enc a,(sh_api_Config).enc b] (Q) h=zgg Tryz.prog a b Q h:=by kernel_rfl
theorem zxi {a:S_api_Config} {b:S_api_Config} {Q:(Bool→(Hp→Prop))} {h:Hp} (hv:zgg Tryz.prog a b Q h):CallT Tryz.prog zkg [(sh_api_Config).enc a,(sh_api_Config).enc b] (zaf) Q h:=
 show CallT Tryz.prog zkg [(sh_api_Config).enc a,(sh_api_Config).enc b] (shRes tb [4]) (Q) h from zaa (C:=⟨Tryz.prog,tb,zpu⟩) tb_ok Tryz.func14 rfl (Eq.mpr (zba1 a b Q h) hv)
theorem zbb1 (a:S_api_State) (b:S_api_State) (Q:(Bool→(Hp→Prop))) (h:Hp):funW ⟨Tryz.prog,tb,zpv⟩ Tryz.f15 zbq1 [(zan).enc a,(zan).enc b] (Q) h=zgh Tryz.prog a b Q h:=by kernel_rfl
theorem zmx {a:S_api_State} {b:S_api_State} {Q:(Bool→(Hp→Prop))} {h:Hp} (hv:zgh Tryz.prog a b Q h):CallT Tryz.prog zdv [(zan).enc a,(zan).enc b] (zaf) Q h:=
 show CallT Tryz.prog zdv [(zan).enc a,(zan).enc b] (shRes tb [4]) (Q) h from zaa (C:=⟨Tryz.prog,tb,zpv⟩) tb_ok Tryz.func15 rfl (Eq.mpr (zbb1 a b Q h) hv)
theorem znp1 (c:S_api_Config) (s:S_api_State) (Q:(Int→(Hp→Prop))) (h:Hp):funW ⟨Tryz.prog,tb,zgx1⟩ Tryz.f16 zpr1 [(sh_api_Config).enc c,(zan).enc s] (Q) h=zrz Tryz.prog c s Q h:=by kernel_rfl
theorem zak1 {c:S_api_Config} {s:S_api_State} {Q:(Int→(Hp→Prop))} {h:Hp} (hv:zrz Tryz.prog c s Q h):CallT Tryz.prog zrs [(sh_api_Config).enc c,(zan).enc s] (shInt .i64) Q h:=
 show CallT Tryz.prog zrs [(sh_api_Config).enc c,(zan).enc s] (shRes tb [34]) (Q) h from zaa (C:=⟨Tryz.prog,tb,zgx1⟩) tb_ok Tryz.func16 rfl (Eq.mpr (znp1 c s Q h) hv)
theorem zzc (s:S_api_State) (Q:(Bool→(Hp→Prop))) (h:Hp):funW ⟨Tryz.prog,tb,zor⟩ Tryz.f20 zao1 [(zan).enc s] (Q) h=zdg Tryz.prog s Q h:=by kernel_rfl
theorem zwg {s:S_api_State} {Q:(Bool→(Hp→Prop))} {h:Hp} (hv:zdg Tryz.prog s Q h):CallT Tryz.prog zfl [(zan).enc s] (zaf) Q h:=
 show CallT Tryz.prog zfl [(zan).enc s] (shRes tb [4]) (Q) h from zaa (C:=⟨Tryz.prog,tb,zor⟩) tb_ok Tryz.func20 rfl (Eq.mpr (zzc s Q h) hv)
theorem zzd  (Q:(S_api_Config→(S_api_State→(Hp→Prop)))) (h:Hp):funW ⟨Tryz.prog,tb,zos⟩ Tryz.f21 zap1 [] (fun r=>Q r.1 r.2) h=zfs Tryz.prog  Q h:=by kernel_rfl
theorem zwh {Q:(S_api_Config→(S_api_State→(Hp→Prop)))} {h:Hp} (hv:zfs Tryz.prog  Q h):Call2 Tryz.prog zjd [] (sh_api_Config) (zan) Q h:=
 show CallT Tryz.prog zjd [] (shRes tb [26,30]) (fun r=>Q r.1 r.2) h from zaa (C:=⟨Tryz.prog,tb,zos⟩) tb_ok Tryz.func21 rfl (Eq.mpr (zzd  Q h) hv)
theorem znq1 (c:S_api_Config) (Q:(Sl→(Int→(Hp→Prop)))) (h:Hp):funW ⟨Tryz.prog,tb,zgy1⟩ Tryz.f23 zps1 [(sh_api_Config).enc c] (fun r=>Q r.1 r.2) h=zsa Tryz.prog c Q h:=by kernel_rfl
theorem zkn1 {c:S_api_Config} {Q:(Sl→(Int→(Hp→Prop)))} {h:Hp} (hv:zsa Tryz.prog c Q h):Call2 Tryz.prog zya [(sh_api_Config).enc c] (shSl) (shInt .i64) Q h:=
 show CallT Tryz.prog zya [(sh_api_Config).enc c] (shRes tb [33,34]) (fun r=>Q r.1 r.2) h from zaa (C:=⟨Tryz.prog,tb,zgy1⟩) tb_ok Tryz.func23 rfl (Eq.mpr (znq1 c Q h) hv)
theorem zcf1 (w:Option Addr) (n:Int) (many:Int) (Q:(Hp→Prop)) (h:Hp):funW ⟨Tryz.prog,tb,zrb⟩ Tryz.f24 zed1 [(shPtr).enc w,(shInt .i64).enc n,(shInt .i64).enc many] (fun _=>Q) h=zhb Tryz.prog w n many Q h:=by kernel_rfl
theorem zaj {w:Option Addr} {n:Int} {many:Int} {Q:(Hp→Prop)} {h:Hp} (hv:zhb Tryz.prog w n many Q h):Call0 Tryz.prog zag [(shPtr).enc w,(shInt .i64).enc n,(shInt .i64).enc many] (Q) h:=
 show CallT Tryz.prog zag [(shPtr).enc w,(shInt .i64).enc n,(shInt .i64).enc many] (shRes tb []) (fun _=>Q) h from zaa (C:=⟨Tryz.prog,tb,zrb⟩) tb_ok Tryz.func24 rfl (Eq.mpr (zcf1 w n many Q h) hv)
end Lf

set_option maxRecDepth 100000
namespace Lf
open Go Go.Proofs
theorem zga1 (w:Option Addr) (n:Int) (many:Int) (Q:(Hp→Prop)) (h:Hp):funW ⟨Tryz.prog,tb,zuy⟩ Tryz.f25 zgz1 [(shPtr).enc w,(shInt .i64).enc n,(shInt .i64).enc many] (fun _=>Q) h=zjm Tryz.prog w n many Q h:=by kernel_rfl
theorem zbg {w:Option Addr} {n:Int} {many:Int} {Q:(Hp→Prop)} {h:Hp} (hv:zjm Tryz.prog w n many Q h):Call0 Tryz.prog zav [(shPtr).enc w,(shInt .i64).enc n,(shInt .i64).enc many] (Q) h:=
 show CallT Tryz.prog zav [(shPtr).enc w,(shInt .i64).enc n,(shInt .i64).enc many] (shRes tb []) (fun _=>Q) h from zaa (C:=⟨Tryz.prog,tb,zuy⟩) tb_ok Tryz.func25 rfl (Eq.mpr (zga1 w n many Q h) hv)
theorem zgb1 (w:Option Addr) (x:S_api_Part) (Q:(Hp→Prop)) (h:Hp):funW ⟨Tryz.prog,tb,zuz⟩ Tryz.f26 zha1 [(shPtr).enc w,(sh_api_Part).enc x] (fun _=>Q) h=zjn Tryz.prog w x Q h:=by kernel_rfl
theorem zcg1 {w:Option Addr} {x:S_api_Part} {Q:(Hp→Prop)} {h:Hp} (hv:zjn Tryz.prog w x Q h):Call0 Tryz.prog zjj [(shPtr).enc w,(sh_api_Part).enc x] (Q) h:=
 show CallT Tryz.prog zjj [(shPtr).enc w,(sh_api_Part).enc x] (shRes tb []) (fun _=>Q) h from zaa (C:=⟨Tryz.prog,tb,zuz⟩) tb_ok Tryz.func26 rfl (Eq.mpr (zgb1 w x Q h) hv)
theorem zgc1 (w:Option Addr) (x:S_api_Process) (Q:(Hp→Prop)) (h:Hp):funW ⟨Tryz.prog,tb,zva⟩ Tryz.f27 zhb1 [(shPtr).enc w,(sh_api_Process).enc x] (fun _=>Q) h=zjo Tryz.prog w x Q h:=by kernel_rfl
theorem zch1 {w:Option Addr} {x:S_api_Process} {Q:(Hp→Prop)} {h:Hp} (hv:zjo Tryz.prog w x Q h):Call0 Tryz.prog zjk [(shPtr).enc w,(sh_api_Process).enc x] (Q) h:=
 show CallT Tryz.prog zjk [(shPtr).enc w,(sh_api_Process).enc x] (shRes tb []) (fun _=>Q) h from zaa (C:=⟨Tryz.prog,tb,zva⟩) tb_ok Tryz.func27 rfl (Eq.mpr (zgc1 w x Q h) hv)
theorem zci1 (c:S_api_Config) (s:S_api_State) (Q:(Int→(Hp→Prop))) (h:Hp):funW ⟨Tryz.prog,tb,zrc⟩ Tryz.f28 zee1 [(sh_api_Config).enc c,(zan).enc s] (Q) h=zhc Tryz.prog c s Q h:=by kernel_rfl
theorem zze {c:S_api_Config} {s:S_api_State} {Q:(Int→(Hp→Prop))} {h:Hp} (hv:zhc Tryz.prog c s Q h):CallT Tryz.prog zli [(sh_api_Config).enc c,(zan).enc s] (shInt .i64) Q h:=
 show CallT Tryz.prog zli [(sh_api_Config).enc c,(zan).enc s] (shRes tb [34]) (Q) h from zaa (C:=⟨Tryz.prog,tb,zrc⟩) tb_ok Tryz.func28 rfl (Eq.mpr (zci1 c s Q h) hv)
theorem zet1 (r:Option Addr) (Q:(S_api_State→(Hp→Prop))) (h:Hp):funW ⟨Tryz.prog,tb,ztk⟩ Tryz.f33 zfm1 [(shPtr).enc r] (Q) h=zil Tryz.prog r Q h:=by kernel_rfl
theorem zbc1 {r:Option Addr} {Q:(S_api_State→(Hp→Prop))} {h:Hp} (hv:zil Tryz.prog r Q h):CallT Tryz.prog zmm [(shPtr).enc r] (zan) Q h:=
 show CallT Tryz.prog zmm [(shPtr).enc r] (shRes tb [30]) (Q) h from zaa (C:=⟨Tryz.prog,tb,ztk⟩) tb_ok Tryz.func33 rfl (Eq.mpr (zet1 r Q h) hv)
theorem zgd1 (r:Option Addr) (e:Int) (place:Int) (Q:(Hp→Prop)) (h:Hp):funW ⟨Tryz.prog,tb,zvb⟩ Tryz.f34 zhc1 [(shPtr).enc r,(shInt .i64).enc e,(shInt .i64).enc place] (fun _=>Q) h=zgi Tryz.prog r e place Q h:=by kernel_rfl
theorem zbh {r:Option Addr} {e:Int} {place:Int} {Q:(Hp→Prop)} {h:Hp} (hv:zgi Tryz.prog r e place Q h):Call0 Tryz.prog zbd [(shPtr).enc r,(shInt .i64).enc e,(shInt .i64).enc place] (Q) h:=
 show CallT Tryz.prog zbd [(shPtr).enc r,(shInt .i64).enc e,(shInt .i64).enc place] (shRes tb []) (fun _=>Q) h from zaa (C:=⟨Tryz.prog,tb,zvb⟩) tb_ok Tryz.func34 rfl (Eq.mpr (zgd1 r e place Q h) hv)
theorem zqr (r:Option Addr) (s:ByteArray) (Q:(Hp→Prop)) (h:Hp):funW ⟨Tryz.prog,tb,zjy⟩ Tryz.f35 zsk [(shPtr).enc r,(shStr).enc s] (fun _=>Q) h=zcp Tryz.prog r s Q h:=by kernel_rfl
theorem zhw {r:Option Addr} {s:ByteArray} {Q:(Hp→Prop)} {h:Hp} (hv:zcp Tryz.prog r s Q h):Call0 Tryz.prog zco [(shPtr).enc r,(shStr).enc s] (Q) h:=
 show CallT Tryz.prog zco [(shPtr).enc r,(shStr).enc s] (shRes tb []) (fun _=>Q) h from zaa (C:=⟨Tryz.prog,tb,zjy⟩) tb_ok Tryz.func35 rfl (Eq.mpr (zqr r s Q h) hv)
theorem zxj (r:Option Addr) (Q:(S_api_Config→(Hp→Prop))) (h:Hp):funW ⟨Tryz.prog,tb,znl⟩ Tryz.f36 zyl [(shPtr).enc r] (Q) h=zew Tryz.prog r Q h:=by kernel_rfl
theorem zuh {r:Option Addr} {Q:(S_api_Config→(Hp→Prop))} {h:Hp} (hv:zew Tryz.prog r Q h):CallT Tryz.prog zif [(shPtr).enc r] (sh_api_Config) Q h:=
 show CallT Tryz.prog zif [(shPtr).enc r] (shRes tb [26]) (Q) h from zaa (C:=⟨Tryz.prog,tb,znl⟩) tb_ok Tryz.func36 rfl (Eq.mpr (zxj r Q h) hv)
theorem zpi (r:Option Addr) (many:Int) (Q:(Int→(Hp→Prop))) (h:Hp):funW ⟨Tryz.prog,tb,zhz⟩ Tryz.f37 zpw [(shPtr).enc r,(shInt .i64).enc many] (Q) h=zcd Tryz.prog r many Q h:=by kernel_rfl
theorem zac {r:Option Addr} {many:Int} {Q:(Int→(Hp→Prop))} {h:Hp} (hv:zcd Tryz.prog r many Q h):CallT Tryz.prog zad [(shPtr).enc r,(shInt .i64).enc many] (shInt .u64) Q h:=
 show CallT Tryz.prog zad [(shPtr).enc r,(shInt .i64).enc many] (shRes tb [80]) (Q) h from zaa (C:=⟨Tryz.prog,tb,zhz⟩) tb_ok Tryz.func37 rfl (Eq.mpr (zpi r many Q h) hv)
theorem zui (r:Option Addr) (c:S_api_Config) (Q:(S_api_Part→(Hp→Prop))) (h:Hp):funW ⟨Tryz.prog,tb,zlu⟩ Tryz.f38 zvx [(shPtr).enc r,(sh_api_Config).enc c] (Q) h=zdl Tryz.prog r c Q h:=by kernel_rfl
theorem zsq {r:Option Addr} {c:S_api_Config} {Q:(S_api_Part→(Hp→Prop))} {h:Hp} (hv:zdl Tryz.prog r c Q h):CallT Tryz.prog zgr [(shPtr).enc r,(sh_api_Config).enc c] (sh_api_Part) Q h:=
 show CallT Tryz.prog zgr [(shPtr).enc r,(sh_api_Config).enc c] (shRes tb [60]) (Q) h from zaa (C:=⟨Tryz.prog,tb,zlu⟩) tb_ok Tryz.func38 rfl (Eq.mpr (zui r c Q h) hv)
theorem zqs (r:Option Addr) (c:S_api_Config) (Q:(S_api_Process→(Hp→Prop))) (h:Hp):funW ⟨Tryz.prog,tb,zjz⟩ Tryz.f39 zsl [(shPtr).enc r,(sh_api_Config).enc c] (Q) h=zcq Tryz.prog r c Q h:=by kernel_rfl
theorem zpj {r:Option Addr} {c:S_api_Config} {Q:(S_api_Process→(Hp→Prop))} {h:Hp} (hv:zcq Tryz.prog r c Q h):CallT Tryz.prog zep [(shPtr).enc r,(sh_api_Config).enc c] (sh_api_Process) Q h:=
 show CallT Tryz.prog zep [(shPtr).enc r,(sh_api_Config).enc c] (shRes tb [64]) (Q) h from zaa (C:=⟨Tryz.prog,tb,zjz⟩) tb_ok Tryz.func39 rfl (Eq.mpr (zqs r c Q h) hv)
theorem zqt (r:Option Addr) (e:Int) (at_:Int) (Q:(Hp→Prop)) (h:Hp):funW ⟨Tryz.prog,tb,zka⟩ Tryz.f40 zsm [(shPtr).enc r,(shInt .i64).enc e,(shInt .i64).enc at_] (fun _=>Q) h=zbu Tryz.prog r e at_ Q h:=by kernel_rfl
theorem zal {r:Option Addr} {e:Int} {at_:Int} {Q:(Hp→Prop)} {h:Hp} (hv:zbu Tryz.prog r e at_ Q h):Call0 Tryz.prog zah [(shPtr).enc r,(shInt .i64).enc e,(shInt .i64).enc at_] (Q) h:=
 show CallT Tryz.prog zah [(shPtr).enc r,(shInt .i64).enc e,(shInt .i64).enc at_] (shRes tb []) (fun _=>Q) h from zaa (C:=⟨Tryz.prog,tb,zka⟩) tb_ok Tryz.func40 rfl (Eq.mpr (zqt r e at_ Q h) hv)
theorem zuj (a:S_api_Config) (b:S_api_Config) (Q:(Bool→(Hp→Prop))) (h:Hp):funW ⟨Tryz.prog,tb,zlv⟩ Tryz.f41 zvy [(sh_api_Config).enc a,(sh_api_Config).enc b] (Q) h=zdm Tryz.prog a b Q h:=by kernel_rfl
theorem zsr {a:S_api_Config} {b:S_api_Config} {Q:(Bool→(Hp→Prop))} {h:Hp} (hv:zdm Tryz.prog a b Q h):CallT Tryz.prog zgs [(sh_api_Config).enc a,(sh_api_Config).enc b] (zaf) Q h:=
 show CallT Tryz.prog zgs [(sh_api_Config).enc a,(sh_api_Config).enc b] (shRes tb [4]) (Q) h from zaa (C:=⟨Tryz.prog,tb,zlv⟩) tb_ok Tryz.func41 rfl (Eq.mpr (zuj a b Q h) hv)
theorem zbd1 (a:Sl) (b:Sl) (Q:(Bool→(Hp→Prop))) (h:Hp):funW ⟨Tryz.prog,tb,zpx⟩ Tryz.f42 zbr1 [(shSl).enc a,(shSl).enc b] (Q) h=zgj Tryz.prog a b Q h:=by kernel_rfl
theorem zxk {a:Sl} {b:Sl} {Q:(Bool→(Hp→Prop))} {h:Hp} (hv:zgj Tryz.prog a b Q h):CallT Tryz.prog zkh [(shSl).enc a,(shSl).enc b] (zaf) Q h:=
 show CallT Tryz.prog zkh [(shSl).enc a,(shSl).enc b] (shRes tb [4]) (Q) h from zaa (C:=⟨Tryz.prog,tb,zpx⟩) tb_ok Tryz.func42 rfl (Eq.mpr (zbd1 a b Q h) hv)
theorem zuk (a:S_api_Part) (b:S_api_Part) (Q:(Bool→(Hp→Prop))) (h:Hp):funW ⟨Tryz.prog,tb,zlw⟩ Tryz.f43 zvz [(sh_api_Part).enc a,(sh_api_Part).enc b] (Q) h=zdn Tryz.prog a b Q h:=by kernel_rfl
theorem zss {a:S_api_Part} {b:S_api_Part} {Q:(Bool→(Hp→Prop))} {h:Hp} (hv:zdn Tryz.prog a b Q h):CallT Tryz.prog zgt [(sh_api_Part).enc a,(sh_api_Part).enc b] (zaf) Q h:=
 show CallT Tryz.prog zgt [(sh_api_Part).enc a,(sh_api_Part).enc b] (shRes tb [4]) (Q) h from zaa (C:=⟨Tryz.prog,tb,zlw⟩) tb_ok Tryz.func43 rfl (Eq.mpr (zuk a b Q h) hv)
theorem zqu (a:S_api_Process) (b:S_api_Process) (Q:(Bool→(Hp→Prop))) (h:Hp):funW ⟨Tryz.prog,tb,zkb⟩ Tryz.f44 zsn [(sh_api_Process).enc a,(sh_api_Process).enc b] (Q) h=zcr Tryz.prog a b Q h:=by kernel_rfl
theorem zpk {a:S_api_Process} {b:S_api_Process} {Q:(Bool→(Hp→Prop))} {h:Hp} (hv:zcr Tryz.prog a b Q h):CallT Tryz.prog zeq [(sh_api_Process).enc a,(sh_api_Process).enc b] (zaf) Q h:=
 show CallT Tryz.prog zeq [(sh_api_Process).enc a,(sh_api_Process).enc b] (shRes tb [4]) (Q) h from zaa (C:=⟨Tryz.prog,tb,zkb⟩) tb_ok Tryz.func44 rfl (Eq.mpr (zqu a b Q h) hv)
theorem zuz1 (c:S_api_Config) (Q:(Int→(Int→(Hp→Prop)))) (h:Hp):funW ⟨Tryz.prog,tb,zoh1⟩ Tryz.f45 zyr1 [(sh_api_Config).enc c] (fun r=>Q r.1 r.2) h=zdo1 Tryz.prog c Q h:=by kernel_rfl
theorem zid1 {c:S_api_Config} {Q:(Int→(Int→(Hp→Prop)))} {h:Hp} (hv:zdo1 Tryz.prog c Q h):Call2 Tryz.prog zdm1 [(sh_api_Config).enc c] (shInt .i64) (shInt .i64) Q h:=
 show CallT Tryz.prog zdm1 [(sh_api_Config).enc c] (shRes tb [34,3]) (fun r=>Q r.1 r.2) h from zaa (C:=⟨Tryz.prog,tb,zoh1⟩) tb_ok Tryz.func45 rfl (Eq.mpr (zuz1 c Q h) hv)
theorem zsm1 (l:Sl) (Q:(Option Addr→(Int→(Int→(Hp→Prop))))) (h:Hp):funW ⟨Tryz.prog,tb,zlj1⟩ Tryz.f46 zud1 [(shSl).enc l] (fun r=>Q r.1 r.2.1 r.2.2) h=zpf Tryz.prog l Q h:=by kernel_rfl
theorem znr1 {l:Sl} {Q:(Option Addr→(Int→(Int→(Hp→Prop))))} {h:Hp} (hv:zpf Tryz.prog l Q h):Call3 Tryz.prog zfk1 [(shSl).enc l] (shPtr) (shInt .i64) (shInt .i64) Q h:=
 show CallT Tryz.prog zfk1 [(shSl).enc l] (shRes tb [103,34,3]) (fun r=>Q r.1 r.2.1 r.2.2) h from zaa (C:=⟨Tryz.prog,tb,zlj1⟩) tb_ok Tryz.func46 rfl (Eq.mpr (zsm1 l Q h) hv)
end Lf

set_option maxRecDepth 100000
namespace Lf
open Go Go.Proofs
theorem zcj1 (a:S_machine_asked) (i:Int) (Q:(Bool→(Hp→Prop))) (h:Hp):funW ⟨Tryz.prog,tb,zrd⟩ Tryz.f47 zef1 [(sh_machine_asked).enc a,(shInt .i64).enc i] (Q) h=zhd Tryz.prog a i Q h:=by kernel_rfl
theorem zzf {a:S_machine_asked} {i:Int} {Q:(Bool→(Hp→Prop))} {h:Hp} (hv:zhd Tryz.prog a i Q h):CallT Tryz.prog zlj [(sh_machine_asked).enc a,(shInt .i64).enc i] (zaf) Q h:=
 show CallT Tryz.prog zlj [(sh_machine_asked).enc a,(shInt .i64).enc i] (shRes tb [4]) (Q) h from zaa (C:=⟨Tryz.prog,tb,zrd⟩) tb_ok Tryz.func47 rfl (Eq.mpr (zcj1 a i Q h) hv)
theorem zck1 (a:S_machine_asked) (p:Int) (Q:(Bool→(Hp→Prop))) (h:Hp):funW ⟨Tryz.prog,tb,zre⟩ Tryz.f48 zeg1 [(sh_machine_asked).enc a,(shInt .i64).enc p] (Q) h=zhe Tryz.prog a p Q h:=by kernel_rfl
theorem zzg {a:S_machine_asked} {p:Int} {Q:(Bool→(Hp→Prop))} {h:Hp} (hv:zhe Tryz.prog a p Q h):CallT Tryz.prog zlk [(sh_machine_asked).enc a,(shInt .i64).enc p] (zaf) Q h:=
 show CallT Tryz.prog zlk [(sh_machine_asked).enc a,(shInt .i64).enc p] (shRes tb [4]) (Q) h from zaa (C:=⟨Tryz.prog,tb,zre⟩) tb_ok Tryz.func48 rfl (Eq.mpr (zck1 a p Q h) hv)
theorem zbe1 (a:S_machine_asked) (Q:(Bool→(Hp→Prop))) (h:Hp):funW ⟨Tryz.prog,tb,zpy⟩ Tryz.f49 zbs1 [(sh_machine_asked).enc a] (Q) h=zgk Tryz.prog a Q h:=by kernel_rfl
theorem zxl {a:S_machine_asked} {Q:(Bool→(Hp→Prop))} {h:Hp} (hv:zgk Tryz.prog a Q h):CallT Tryz.prog zki [(sh_machine_asked).enc a] (zaf) Q h:=
 show CallT Tryz.prog zki [(sh_machine_asked).enc a] (shRes tb [4]) (Q) h from zaa (C:=⟨Tryz.prog,tb,zpy⟩) tb_ok Tryz.func49 rfl (Eq.mpr (zbe1 a Q h) hv)
theorem zbf1 (s:S_api_State) (Q:(Bool→(Hp→Prop))) (h:Hp):funW ⟨Tryz.prog,tb,zpz⟩ Tryz.f50 zbt1 [(zan).enc s] (Q) h=zeb Tryz.prog s Q h:=by kernel_rfl
theorem zxm {s:S_api_State} {Q:(Bool→(Hp→Prop))} {h:Hp} (hv:zeb Tryz.prog s Q h):CallT Tryz.prog zkj [(zan).enc s] (zaf) Q h:=
 show CallT Tryz.prog zkj [(zan).enc s] (shRes tb [4]) (Q) h from zaa (C:=⟨Tryz.prog,tb,zpz⟩) tb_ok Tryz.func50 rfl (Eq.mpr (zbf1 s Q h) hv)
theorem zva1 (b:Sl) (n:Int) (many:Int) (Q:(Sl→(Hp→Prop))) (h:Hp):funW ⟨Tryz.prog,tb,zoi1⟩ Tryz.f51 zys1 [(shSl).enc b,(shInt .u64).enc n,(shInt .i64).enc many] (Q) h=zdp1 Tryz.prog b n many Q h:=by kernel_rfl
theorem zst {b:Sl} {n:Int} {many:Int} {Q:(Sl→(Hp→Prop))} {h:Hp} (hv:zdp1 Tryz.prog b n many Q h):CallT Tryz.prog zmv [(shSl).enc b,(shInt .u64).enc n,(shInt .i64).enc many] (shSl) Q h:=
 show CallT Tryz.prog zmv [(shSl).enc b,(shInt .u64).enc n,(shInt .i64).enc many] (shRes tb [33]) (Q) h from zaa (C:=⟨Tryz.prog,tb,zoi1⟩) tb_ok Tryz.func51 rfl (Eq.mpr (zva1 b n many Q h) hv)
theorem zns1 (l:Sl) (Q:(Sl→(Int→(Int→(Hp→Prop))))) (h:Hp):funW ⟨Tryz.prog,tb,zhd1⟩ Tryz.f52 zpt1 [(shSl).enc l] (fun r=>Q r.1 r.2.1 r.2.2) h=zsb Tryz.prog l Q h:=by kernel_rfl
theorem zko1 {l:Sl} {Q:(Sl→(Int→(Int→(Hp→Prop))))} {h:Hp} (hv:zsb Tryz.prog l Q h):Call3 Tryz.prog zrt [(shSl).enc l] (shSl) (shInt .i64) (shInt .i64) Q h:=
 show CallT Tryz.prog zrt [(shSl).enc l] (shRes tb [33,34,3]) (fun r=>Q r.1 r.2.1 r.2.2) h from zaa (C:=⟨Tryz.prog,tb,zhd1⟩) tb_ok Tryz.func52 rfl (Eq.mpr (zns1 l Q h) hv)
theorem zge1 (w:Option Addr) (x:S_api_Lane) (Q:(Hp→Prop)) (h:Hp):funW ⟨Tryz.prog,tb,zvc⟩ Tryz.f53 zhe1 [(shPtr).enc w,(sh_api_Lane).enc x] (fun _=>Q) h=zjp Tryz.prog w x Q h:=by kernel_rfl
theorem zcl1 {w:Option Addr} {x:S_api_Lane} {Q:(Hp→Prop)} {h:Hp} (hv:zjp Tryz.prog w x Q h):Call0 Tryz.prog zjl [(shPtr).enc w,(sh_api_Lane).enc x] (Q) h:=
 show CallT Tryz.prog zjl [(shPtr).enc w,(sh_api_Lane).enc x] (shRes tb []) (fun _=>Q) h from zaa (C:=⟨Tryz.prog,tb,zvc⟩) tb_ok Tryz.func53 rfl (Eq.mpr (zge1 w x Q h) hv)
theorem zcm1 (c:S_api_Config) (Q:(Int→(Int→(Hp→Prop)))) (h:Hp):funW ⟨Tryz.prog,tb,zrf⟩ Tryz.f54 zeh1 [(sh_api_Config).enc c] (fun r=>Q r.1 r.2) h=zhf Tryz.prog c Q h:=by kernel_rfl
theorem zzh {c:S_api_Config} {Q:(Int→(Int→(Hp→Prop)))} {h:Hp} (hv:zhf Tryz.prog c Q h):Call2 Tryz.prog zll [(sh_api_Config).enc c] (shInt .i64) (shInt .i64) Q h:=
 show CallT Tryz.prog zll [(sh_api_Config).enc c] (shRes tb [34,3]) (fun r=>Q r.1 r.2) h from zaa (C:=⟨Tryz.prog,tb,zrf⟩) tb_ok Tryz.func54 rfl (Eq.mpr (zcm1 c Q h) hv)
theorem zzi (c:S_api_Config) (s:S_api_State) (Q:(Bool→(Hp→Prop))) (h:Hp):funW ⟨Tryz.prog,tb,zot⟩ Tryz.f55 zaq1 [(sh_api_Config).enc c,(zan).enc s] (Q) h=zft Tryz.prog c s Q h:=by kernel_rfl
theorem zwi {c:S_api_Config} {s:S_api_State} {Q:(Bool→(Hp→Prop))} {h:Hp} (hv:zft Tryz.prog c s Q h):CallT Tryz.prog zje [(sh_api_Config).enc c,(zan).enc s] (zaf) Q h:=
 show CallT Tryz.prog zje [(sh_api_Config).enc c,(zan).enc s] (shRes tb [4]) (Q) h from zaa (C:=⟨Tryz.prog,tb,zot⟩) tb_ok Tryz.func55 rfl (Eq.mpr (zzi c s Q h) hv)
theorem zqi (m:Option Addr) (i:Int) (Q:(Bool→(Hp→Prop))) (h:Hp):funW ⟨Tryz.prog,tb,ziu⟩ Tryz.f56 zqo [(shPtr).enc m,(shInt .i64).enc i] (Q) h=zcm Tryz.prog m i Q h:=by kernel_rfl
theorem zol {m:Option Addr} {i:Int} {Q:(Bool→(Hp→Prop))} {h:Hp} (hv:zcm Tryz.prog m i Q h):CallT Tryz.prog zej [(shPtr).enc m,(shInt .i64).enc i] (zaf) Q h:=
 show CallT Tryz.prog zej [(shPtr).enc m,(shInt .i64).enc i] (shRes tb [4]) (Q) h from zaa (C:=⟨Tryz.prog,tb,ziu⟩) tb_ok Tryz.func56 rfl (Eq.mpr (zqi m i Q h) hv)
theorem znv (m:Option Addr) (p:Int) (Q:(Bool→(Hp→Prop))) (h:Hp):funW ⟨Tryz.prog,tb,zgy⟩ Tryz.f57 zok [(shPtr).enc m,(shInt .i64).enc p] (Q) h=zbw Tryz.prog m p Q h:=by kernel_rfl
theorem zmt {m:Option Addr} {p:Int} {Q:(Bool→(Hp→Prop))} {h:Hp} (hv:zbw Tryz.prog m p Q h):CallT Tryz.prog zda [(shPtr).enc m,(shInt .i64).enc p] (zaf) Q h:=
 show CallT Tryz.prog zda [(shPtr).enc m,(shInt .i64).enc p] (shRes tb [4]) (Q) h from zaa (C:=⟨Tryz.prog,tb,zgy⟩) tb_ok Tryz.func57 rfl (Eq.mpr (znv m p Q h) hv)
theorem zpl (m:Option Addr) (p:Int) (Q:(Bool→(Hp→Prop))) (h:Hp):funW ⟨Tryz.prog,tb,zia⟩ Tryz.f58 zqa [(shPtr).enc m,(shInt .i64).enc p] (Q) h=zce Tryz.prog m p Q h:=by kernel_rfl
theorem znw {m:Option Addr} {p:Int} {Q:(Bool→(Hp→Prop))} {h:Hp} (hv:zce Tryz.prog m p Q h):CallT Tryz.prog zdw [(shPtr).enc m,(shInt .i64).enc p] (zaf) Q h:=
 show CallT Tryz.prog zdw [(shPtr).enc m,(shInt .i64).enc p] (shRes tb [4]) (Q) h from zaa (C:=⟨Tryz.prog,tb,zia⟩) tb_ok Tryz.func58 rfl (Eq.mpr (zpl m p Q h) hv)
theorem zie1 (r:Option Addr) (many:Int) (Q:(Int→(Hp→Prop))) (h:Hp):funW ⟨Tryz.prog,tb,zwx⟩ Tryz.f61 zjf1 [(shPtr).enc r,(shInt .i64).enc many] (Q) h=zkx Tryz.prog r many Q h:=by kernel_rfl
theorem zbb {r:Option Addr} {many:Int} {Q:(Int→(Hp→Prop))} {h:Hp} (hv:zkx Tryz.prog r many Q h):CallT Tryz.prog zbc [(shPtr).enc r,(shInt .i64).enc many] (shInt .i64) Q h:=
 show CallT Tryz.prog zbc [(shPtr).enc r,(shInt .i64).enc many] (shRes tb [2]) (Q) h from zaa (C:=⟨Tryz.prog,tb,zwx⟩) tb_ok Tryz.func61 rfl (Eq.mpr (zie1 r many Q h) hv)
theorem zcn1 (r:Option Addr) (Q:(Hp→Prop)) (h:Hp):funW ⟨Tryz.prog,tb,zrg⟩ Tryz.f62 zei1 [(shPtr).enc r] (fun _=>Q) h=zhg Tryz.prog r Q h:=by kernel_rfl
theorem zzj {r:Option Addr} {Q:(Hp→Prop)} {h:Hp} (hv:zhg Tryz.prog r Q h):Call0 Tryz.prog zlm [(shPtr).enc r] (Q) h:=
 show CallT Tryz.prog zlm [(shPtr).enc r] (shRes tb []) (fun _=>Q) h from zaa (C:=⟨Tryz.prog,tb,zrg⟩) tb_ok Tryz.func62 rfl (Eq.mpr (zcn1 r Q h) hv)
theorem zgf1 (r:Option Addr) (Q:(S_api_Part→(Hp→Prop))) (h:Hp):funW ⟨Tryz.prog,tb,zvd⟩ Tryz.f63 zhf1 [(shPtr).enc r] (Q) h=zjq Tryz.prog r Q h:=by kernel_rfl
theorem zco1 {r:Option Addr} {Q:(S_api_Part→(Hp→Prop))} {h:Hp} (hv:zjq Tryz.prog r Q h):CallT Tryz.prog znd [(shPtr).enc r] (sh_api_Part) Q h:=
 show CallT Tryz.prog znd [(shPtr).enc r] (shRes tb [60]) (Q) h from zaa (C:=⟨Tryz.prog,tb,zvd⟩) tb_ok Tryz.func63 rfl (Eq.mpr (zgf1 r Q h) hv)
theorem zgg1 (r:Option Addr) (Q:(S_api_Process→(Hp→Prop))) (h:Hp):funW ⟨Tryz.prog,tb,zve⟩ Tryz.f64 zhg1 [(shPtr).enc r] (Q) h=zjr Tryz.prog r Q h:=by kernel_rfl
theorem zcp1 {r:Option Addr} {Q:(S_api_Process→(Hp→Prop))} {h:Hp} (hv:zjr Tryz.prog r Q h):CallT Tryz.prog zne [(shPtr).enc r] (sh_api_Process) Q h:=
 show CallT Tryz.prog zne [(shPtr).enc r] (shRes tb [64]) (Q) h from zaa (C:=⟨Tryz.prog,tb,zve⟩) tb_ok Tryz.func64 rfl (Eq.mpr (zgg1 r Q h) hv)
theorem zxn (b:Sl) (Q:(S_api_Config→(Int→(Int→(Hp→Prop))))) (h:Hp):funW ⟨Tryz.prog,tb,znm⟩ Tryz.f65 zym [(shSl).enc b] (fun r=>Q r.1 r.2.1 r.2.2) h=zex Tryz.prog b Q h:=by kernel_rfl
theorem zul {b:Sl} {Q:(S_api_Config→(Int→(Int→(Hp→Prop))))} {h:Hp} (hv:zex Tryz.prog b Q h):Call3 Tryz.prog zig [(shSl).enc b] (sh_api_Config) (shInt .i64) (shInt .i64) Q h:=
 show CallT Tryz.prog zig [(shSl).enc b] (shRes tb [26,34,3]) (fun r=>Q r.1 r.2.1 r.2.2) h from zaa (C:=⟨Tryz.prog,tb,znm⟩) tb_ok Tryz.func65 rfl (Eq.mpr (zxn b Q h) hv)
theorem zzk (r:Option Addr) (bytes:Int) (most:Int) (Q:(Int→(Hp→Prop))) (h:Hp):funW ⟨Tryz.prog,tb,zou⟩ Tryz.f66 zar1 [(shPtr).enc r,(shInt .i64).enc bytes,(shInt .i64).enc most] (Q) h=zfu Tryz.prog r bytes most Q h:=by kernel_rfl
theorem zds {r:Option Addr} {bytes:Int} {most:Int} {Q:(Int→(Hp→Prop))} {h:Hp} (hv:zfu Tryz.prog r bytes most Q h):CallT Tryz.prog zci [(shPtr).enc r,(shInt .i64).enc bytes,(shInt .i64).enc most] (shInt .i64) Q h:=
 show CallT Tryz.prog zci [(shPtr).enc r,(shInt .i64).enc bytes,(shInt .i64).enc most] (shRes tb [3]) (Q) h from zaa (C:=⟨Tryz.prog,tb,zou⟩) tb_ok Tryz.func66 rfl (Eq.mpr (zzk r bytes most Q h) hv)
theorem zsu (r:Option Addr) (many:Int) (least:Int) (most:Int) (low:Int) (high:Int) (Q:(Int→(Hp→Prop))) (h:Hp):funW ⟨Tryz.prog,tb,zkn⟩ Tryz.f67 ztl [(shPtr).enc r,(shInt .i64).enc many,(shInt .i64).enc least,(shInt .i64).enc most,(shInt .i64).enc low,(shInt .i64).enc high] (Q) h=zcv Tryz.prog r many least most low high Q h:=by kernel_rfl
theorem zao {r:Option Addr} {many:Int} {least:Int} {most:Int} {low:Int} {high:Int} {Q:(Int→(Hp→Prop))} {h:Hp} (hv:zcv Tryz.prog r many least most low high Q h):CallT Tryz.prog zam [(shPtr).enc r,(shInt .i64).enc many,(shInt .i64).enc least,(shInt .i64).enc most,(shInt .i64).enc low,(shInt .i64).enc high] (shInt .i64) Q h:=
 show CallT Tryz.prog zam [(shPtr).enc r,(shInt .i64).enc many,(shInt .i64).enc least,(shInt .i64).enc most,(shInt .i64).enc low,(shInt .i64).enc high] (shRes tb [3]) (Q) h from zaa (C:=⟨Tryz.prog,tb,zkn⟩) tb_ok Tryz.func67 rfl (Eq.mpr (zsu r many least most low high Q h) hv)
theorem zum (r:Option Addr) (c:S_api_Config) (Q:(S_api_Lane→(Hp→Prop))) (h:Hp):funW ⟨Tryz.prog,tb,zlx⟩ Tryz.f68 zwa [(shPtr).enc r,(sh_api_Config).enc c] (Q) h=zdo Tryz.prog r c Q h:=by kernel_rfl
theorem zsv {r:Option Addr} {c:S_api_Config} {Q:(S_api_Lane→(Hp→Prop))} {h:Hp} (hv:zdo Tryz.prog r c Q h):CallT Tryz.prog zgu [(shPtr).enc r,(sh_api_Config).enc c] (sh_api_Lane) Q h:=
 show CallT Tryz.prog zgu [(shPtr).enc r,(sh_api_Config).enc c] (shRes tb [68]) (Q) h from zaa (C:=⟨Tryz.prog,tb,zlx⟩) tb_ok Tryz.func68 rfl (Eq.mpr (zum r c Q h) hv)
end Lf

set_option maxRecDepth 100000
namespace Lf
open Go Go.Proofs
theorem zsw (a:Sl) (b:Sl) (Q:(Bool→(Hp→Prop))) (h:Hp):funW ⟨Tryz.prog,tb,zko⟩ Tryz.f69 ztm [(shSl).enc a,(shSl).enc b] (Q) h=zcw Tryz.prog a b Q h:=by kernel_rfl
theorem zqj {a:Sl} {b:Sl} {Q:(Bool→(Hp→Prop))} {h:Hp} (hv:zcw Tryz.prog a b Q h):CallT Tryz.prog zfg [(shSl).enc a,(shSl).enc b] (zaf) Q h:=
 show CallT Tryz.prog zfg [(shSl).enc a,(shSl).enc b] (shRes tb [4]) (Q) h from zaa (C:=⟨Tryz.prog,tb,zko⟩) tb_ok Tryz.func69 rfl (Eq.mpr (zsw a b Q h) hv)
theorem zun (a:Sl) (b:Sl) (Q:(Bool→(Hp→Prop))) (h:Hp):funW ⟨Tryz.prog,tb,zly⟩ Tryz.f70 zwb [(shSl).enc a,(shSl).enc b] (Q) h=zdp Tryz.prog a b Q h:=by kernel_rfl
theorem zsx {a:Sl} {b:Sl} {Q:(Bool→(Hp→Prop))} {h:Hp} (hv:zdp Tryz.prog a b Q h):CallT Tryz.prog zgv [(shSl).enc a,(shSl).enc b] (zaf) Q h:=
 show CallT Tryz.prog zgv [(shSl).enc a,(shSl).enc b] (shRes tb [4]) (Q) h from zaa (C:=⟨Tryz.prog,tb,zly⟩) tb_ok Tryz.func70 rfl (Eq.mpr (zun a b Q h) hv)
theorem zbg1 (a:Sl) (b:Sl) (Q:(Bool→(Hp→Prop))) (h:Hp):funW ⟨Tryz.prog,tb,zqb⟩ Tryz.f71 zbu1 [(shSl).enc a,(shSl).enc b] (Q) h=zgl Tryz.prog a b Q h:=by kernel_rfl
theorem zmy {a:Sl} {b:Sl} {Q:(Bool→(Hp→Prop))} {h:Hp} (hv:zgl Tryz.prog a b Q h):CallT Tryz.prog zgf [(shSl).enc a,(shSl).enc b] (zaf) Q h:=
 show CallT Tryz.prog zgf [(shSl).enc a,(shSl).enc b] (shRes tb [4]) (Q) h from zaa (C:=⟨Tryz.prog,tb,zqb⟩) tb_ok Tryz.func71 rfl (Eq.mpr (zbg1 a b Q h) hv)
theorem zuo (a:S_api_Lane) (b:S_api_Lane) (Q:(Bool→(Hp→Prop))) (h:Hp):funW ⟨Tryz.prog,tb,zlz⟩ Tryz.f72 zwc [(sh_api_Lane).enc a,(sh_api_Lane).enc b] (Q) h=zdq Tryz.prog a b Q h:=by kernel_rfl
theorem zsy {a:S_api_Lane} {b:S_api_Lane} {Q:(Bool→(Hp→Prop))} {h:Hp} (hv:zdq Tryz.prog a b Q h):CallT Tryz.prog zgw [(sh_api_Lane).enc a,(sh_api_Lane).enc b] (zaf) Q h:=
 show CallT Tryz.prog zgw [(sh_api_Lane).enc a,(sh_api_Lane).enc b] (shRes tb [4]) (Q) h from zaa (C:=⟨Tryz.prog,tb,zlz⟩) tb_ok Tryz.func72 rfl (Eq.mpr (zuo a b Q h) hv)
theorem zsn1 (l:Sl) (Q:(Int→(Int→(Hp→Prop)))) (h:Hp):funW ⟨Tryz.prog,tb,zlk1⟩ Tryz.f73 zue1 [(shSl).enc l] (fun r=>Q r.1 r.2) h=zpg Tryz.prog l Q h:=by kernel_rfl
theorem zwj {l:Sl} {Q:(Int→(Int→(Hp→Prop)))} {h:Hp} (hv:zpg Tryz.prog l Q h):Call2 Tryz.prog zyb [(shSl).enc l] (shInt .i64) (shInt .i64) Q h:=
 show CallT Tryz.prog zyb [(shSl).enc l] (shRes tb [34,3]) (fun r=>Q r.1 r.2) h from zaa (C:=⟨Tryz.prog,tb,zlk1⟩) tb_ok Tryz.func73 rfl (Eq.mpr (zsn1 l Q h) hv)
theorem zso1 (n:Int) (most:Int) (Q:(Int→(Hp→Prop))) (h:Hp):funW ⟨Tryz.prog,tb,zll1⟩ Tryz.f74 zuf1 [(shInt .i64).enc n,(shInt .i64).enc most] (Q) h=zyh Tryz.prog n most Q h:=by kernel_rfl
theorem zwk {n:Int} {most:Int} {Q:(Int→(Hp→Prop))} {h:Hp} (hv:zyh Tryz.prog n most Q h):CallT Tryz.prog zth [(shInt .i64).enc n,(shInt .i64).enc most] (shInt .i64) Q h:=
 show CallT Tryz.prog zth [(shInt .i64).enc n,(shInt .i64).enc most] (shRes tb [34]) (Q) h from zaa (C:=⟨Tryz.prog,tb,zll1⟩) tb_ok Tryz.func74 rfl (Eq.mpr (zso1 n most Q h) hv)
theorem zsp1 (table:Sl) (parts:Int) (Q:(Option Addr→(Int→(Int→(Hp→Prop))))) (h:Hp):funW ⟨Tryz.prog,tb,zlm1⟩ Tryz.f75 zug1 [(shSl).enc table,(shInt .i64).enc parts] (fun r=>Q r.1 r.2.1 r.2.2) h=zyi Tryz.prog table parts Q h:=by kernel_rfl
theorem znt1 {table:Sl} {parts:Int} {Q:(Option Addr→(Int→(Int→(Hp→Prop))))} {h:Hp} (hv:zyi Tryz.prog table parts Q h):Call3 Tryz.prog zfl1 [(shSl).enc table,(shInt .i64).enc parts] (shPtr) (shInt .i64) (shInt .i64) Q h:=
 show CallT Tryz.prog zfl1 [(shSl).enc table,(shInt .i64).enc parts] (shRes tb [138,34,3]) (fun r=>Q r.1 r.2.1 r.2.2) h from zaa (C:=⟨Tryz.prog,tb,zlm1⟩) tb_ok Tryz.func75 rfl (Eq.mpr (zsp1 table parts Q h) hv)
theorem znu1 (part:Int) (n:Int) (Q:(Int→(Hp→Prop))) (h:Hp):funW ⟨Tryz.prog,tb,zhh1⟩ Tryz.f76 zpu1 [(shInt .i64).enc part,(shInt .i64).enc n] (Q) h=zsc Tryz.prog part n Q h:=by kernel_rfl
theorem zal1 {part:Int} {n:Int} {Q:(Int→(Hp→Prop))} {h:Hp} (hv:zsc Tryz.prog part n Q h):CallT Tryz.prog zru [(shInt .i64).enc part,(shInt .i64).enc n] (shInt .i64) Q h:=
 show CallT Tryz.prog zru [(shInt .i64).enc part,(shInt .i64).enc n] (shRes tb [34]) (Q) h from zaa (C:=⟨Tryz.prog,tb,zhh1⟩) tb_ok Tryz.func76 rfl (Eq.mpr (znu1 part n Q h) hv)
theorem znv1 (n:Int) (from_:Int) (to:Int) (Q:(Bool→(Hp→Prop))) (h:Hp):funW ⟨Tryz.prog,tb,zhi1⟩ Tryz.f77 zpv1 [(shInt .i64).enc n,(shInt .i64).enc from_,(shInt .i64).enc to] (Q) h=zsd Tryz.prog n from_ to Q h:=by kernel_rfl
theorem ziy {n:Int} {from_:Int} {to:Int} {Q:(Bool→(Hp→Prop))} {h:Hp} (hv:zsd Tryz.prog n from_ to Q h):CallT Tryz.prog zih [(shInt .i64).enc n,(shInt .i64).enc from_,(shInt .i64).enc to] (zaf) Q h:=
 show CallT Tryz.prog zih [(shInt .i64).enc n,(shInt .i64).enc from_,(shInt .i64).enc to] (shRes tb [4]) (Q) h from zaa (C:=⟨Tryz.prog,tb,zhi1⟩) tb_ok Tryz.func77 rfl (Eq.mpr (znv1 n from_ to Q h) hv)
theorem zvb1 (l:Sl) (locks:Int) (Q:(Int→(Int→(Hp→Prop)))) (h:Hp):funW ⟨Tryz.prog,tb,zoj1⟩ Tryz.f78 zyt1 [(shSl).enc l,(shInt .i64).enc locks] (fun r=>Q r.1 r.2) h=zdq1 Tryz.prog l locks Q h:=by kernel_rfl
theorem zif1 {l:Sl} {locks:Int} {Q:(Int→(Int→(Hp→Prop)))} {h:Hp} (hv:zdq1 Tryz.prog l locks Q h):Call2 Tryz.prog zdn1 [(shSl).enc l,(shInt .i64).enc locks] (shInt .i64) (shInt .i64) Q h:=
 show CallT Tryz.prog zdn1 [(shSl).enc l,(shInt .i64).enc locks] (shRes tb [34,3]) (fun r=>Q r.1 r.2) h from zaa (C:=⟨Tryz.prog,tb,zoj1⟩) tb_ok Tryz.func78 rfl (Eq.mpr (zvb1 l locks Q h) hv)
theorem zqv (s:Sl) (Q:(Sl→(Hp→Prop))) (h:Hp):funW ⟨Tryz.prog,tb,zkc⟩ Tryz.f79 zso [(shSl).enc s] (Q) h=zcs Tryz.prog s Q h:=by kernel_rfl
theorem zpm {s:Sl} {Q:(Sl→(Hp→Prop))} {h:Hp} (hv:zcs Tryz.prog s Q h):CallT Tryz.prog zer [(shSl).enc s] (shSl) Q h:=
 show CallT Tryz.prog zer [(shSl).enc s] (shRes tb [22]) (Q) h from zaa (C:=⟨Tryz.prog,tb,zkc⟩) tb_ok Tryz.func79 rfl (Eq.mpr (zqv s Q h) hv)
theorem zcq1 (a:S_machine_asked) (i:Int) (Q:(Int→(Hp→Prop))) (h:Hp):funW ⟨Tryz.prog,tb,zrh⟩ Tryz.f80 zej1 [(sh_machine_asked).enc a,(shInt .i64).enc i] (Q) h=zhh Tryz.prog a i Q h:=by kernel_rfl
theorem zzl {a:S_machine_asked} {i:Int} {Q:(Int→(Hp→Prop))} {h:Hp} (hv:zhh Tryz.prog a i Q h):CallT Tryz.prog zln [(sh_machine_asked).enc a,(shInt .i64).enc i] (shInt .i64) Q h:=
 show CallT Tryz.prog zln [(sh_machine_asked).enc a,(shInt .i64).enc i] (shRes tb [3]) (Q) h from zaa (C:=⟨Tryz.prog,tb,zrh⟩) tb_ok Tryz.func80 rfl (Eq.mpr (zcq1 a i Q h) hv)
theorem zgh1 (a:S_machine_asked) (p:Int) (i:Int) (Q:(Bool→(Hp→Prop))) (h:Hp):funW ⟨Tryz.prog,tb,zvf⟩ Tryz.f81 zhj1 [(sh_machine_asked).enc a,(shInt .i64).enc p,(shInt .i64).enc i] (Q) h=zjs Tryz.prog a p i Q h:=by kernel_rfl
theorem zgo {a:S_machine_asked} {p:Int} {i:Int} {Q:(Bool→(Hp→Prop))} {h:Hp} (hv:zjs Tryz.prog a p i Q h):CallT Tryz.prog zee [(sh_machine_asked).enc a,(shInt .i64).enc p,(shInt .i64).enc i] (zaf) Q h:=
 show CallT Tryz.prog zee [(sh_machine_asked).enc a,(shInt .i64).enc p,(shInt .i64).enc i] (shRes tb [4]) (Q) h from zaa (C:=⟨Tryz.prog,tb,zvf⟩) tb_ok Tryz.func81 rfl (Eq.mpr (zgh1 a p i Q h) hv)
theorem zkp1 (n:Int) (Q:(Bool→(Hp→Prop))) (h:Hp):funW ⟨Tryz.prog,tb,zbv1⟩ Tryz.f82 zln1 [(shInt .i64).enc n] (Q) h=znh Tryz.prog n Q h:=by kernel_rfl
theorem zke {n:Int} {Q:(Bool→(Hp→Prop))} {h:Hp} (hv:znh Tryz.prog n Q h):CallT Tryz.prog zhr [(shInt .i64).enc n] (zaf) Q h:=
 show CallT Tryz.prog zhr [(shInt .i64).enc n] (shRes tb [4]) (Q) h from zaa (C:=⟨Tryz.prog,tb,zbv1⟩) tb_ok Tryz.func82 rfl (Eq.mpr (zkp1 n Q h) hv)
theorem zqk (s:Sl) (f:FnV) (Q:(Bool→(Hp→Prop))) (h:Hp):funW ⟨Tryz.prog,tb,ziv⟩ Tryz.f83 zqp [(shSl).enc s,(shFn).enc f] (Q) h=zem Tryz.prog s f Q h:=by kernel_rfl
theorem zom {s:Sl} {f:FnV} {Q:(Bool→(Hp→Prop))} {h:Hp} (hv:zem Tryz.prog s f Q h):CallT Tryz.prog zek [(shSl).enc s,(shFn).enc f] (zaf) Q h:=
 show CallT Tryz.prog zek [(shSl).enc s,(shFn).enc f] (shRes tb [4]) (Q) h from zaa (C:=⟨Tryz.prog,tb,ziv⟩) tb_ok Tryz.func83 rfl (Eq.mpr (zqk s f Q h) hv)
theorem zzm (p:Int) (a1:Addr) (a2:Addr) (Q:(Bool→(Hp→Prop))) (h:Hp):funW ⟨Tryz.prog,tb,zov⟩ Tryz.f84 zas1 [(shInt .i64).enc p,.pointer (some a1),.pointer (some a2)] (Q) h=zfv Tryz.prog p a1 a2 Q h:=by kernel_rfl
theorem zwl {p:Int} {a1:Addr} {a2:Addr} {Q:(Bool→(Hp→Prop))} {h:Hp} (hv:zfv Tryz.prog p a1 a2 Q h):CallT Tryz.prog zdf [(shInt .i64).enc p,.pointer (some a1),.pointer (some a2)] (zaf) Q h:=
 show CallT Tryz.prog zdf [(shInt .i64).enc p,.pointer (some a1),.pointer (some a2)] (shRes tb [4]) (Q) h from zaa (C:=⟨Tryz.prog,tb,zov⟩) tb_ok Tryz.func84 rfl (Eq.mpr (zzm p a1 a2 Q h) hv)
theorem zkq1 (state:Int) (Q:(Bool→(Hp→Prop))) (h:Hp):funW ⟨Tryz.prog,tb,zbw1⟩ Tryz.f85 zlo1 [(shInt .i64).enc state] (Q) h=zni Tryz.prog state Q h:=by kernel_rfl
theorem znx {state:Int} {Q:(Bool→(Hp→Prop))} {h:Hp} (hv:zni Tryz.prog state Q h):CallT Tryz.prog zkk [(shInt .i64).enc state] (zaf) Q h:=
 show CallT Tryz.prog zkk [(shInt .i64).enc state] (shRes tb [4]) (Q) h from zaa (C:=⟨Tryz.prog,tb,zbw1⟩) tb_ok Tryz.func85 rfl (Eq.mpr (zkq1 state Q h) hv)
theorem zeu1 (t:Option Addr) (i:Int) (j:Int) (Q:(Bool→(Hp→Prop))) (h:Hp):funW ⟨Tryz.prog,tb,ztn⟩ Tryz.f86 zfn1 [(shPtr).enc t,(shInt .i64).enc i,(shInt .i64).enc j] (Q) h=zim Tryz.prog t i j Q h:=by kernel_rfl
theorem zbh1 {t:Option Addr} {i:Int} {j:Int} {Q:(Bool→(Hp→Prop))} {h:Hp} (hv:zim Tryz.prog t i j Q h):CallT Tryz.prog zmn [(shPtr).enc t,(shInt .i64).enc i,(shInt .i64).enc j] (zaf) Q h:=
 show CallT Tryz.prog zmn [(shPtr).enc t,(shInt .i64).enc i,(shInt .i64).enc j] (shRes tb [4]) (Q) h from zaa (C:=⟨Tryz.prog,tb,ztn⟩) tb_ok Tryz.func86 rfl (Eq.mpr (zeu1 t i j Q h) hv)
theorem zgi1 (a:S_machine_asked) (p:Int) (Q:(Int→(Hp→Prop))) (h:Hp):funW ⟨Tryz.prog,tb,zvg⟩ Tryz.f87 zhk1 [(sh_machine_asked).enc a,(shInt .i64).enc p] (Q) h=zjt Tryz.prog a p Q h:=by kernel_rfl
theorem zgp {a:S_machine_asked} {p:Int} {Q:(Int→(Hp→Prop))} {h:Hp} (hv:zjt Tryz.prog a p Q h):CallT Tryz.prog zef [(sh_machine_asked).enc a,(shInt .i64).enc p] (shInt .i64) Q h:=
 show CallT Tryz.prog zef [(sh_machine_asked).enc a,(shInt .i64).enc p] (shRes tb [3]) (Q) h from zaa (C:=⟨Tryz.prog,tb,zvg⟩) tb_ok Tryz.func87 rfl (Eq.mpr (zgi1 a p Q h) hv)
theorem zev1 (a:S_machine_asked) (p:Int) (Q:(S_api_Ins→(Hp→Prop))) (h:Hp):funW ⟨Tryz.prog,tb,zto⟩ Tryz.f88 zfo1 [(sh_machine_asked).enc a,(shInt .i64).enc p] (Q) h=zin Tryz.prog a p Q h:=by kernel_rfl
theorem zji {a:S_machine_asked} {p:Int} {Q:(S_api_Ins→(Hp→Prop))} {h:Hp} (hv:zin Tryz.prog a p Q h):CallT Tryz.prog zfh [(sh_machine_asked).enc a,(shInt .i64).enc p] (sh_api_Ins) Q h:=
 show CallT Tryz.prog zfh [(sh_machine_asked).enc a,(shInt .i64).enc p] (shRes tb [51]) (Q) h from zaa (C:=⟨Tryz.prog,tb,zto⟩) tb_ok Tryz.func88 rfl (Eq.mpr (zev1 a p Q h) hv)
theorem zbi1 (a:S_machine_asked) (w:S_api_Waiter) (r:Int) (Q:(Bool→(Hp→Prop))) (h:Hp):funW ⟨Tryz.prog,tb,zqc⟩ Tryz.f89 zbx1 [(sh_machine_asked).enc a,(sh_api_Waiter).enc w,(shInt .i64).enc r] (Q) h=zgm Tryz.prog a w r Q h:=by kernel_rfl
theorem zxo {a:S_machine_asked} {w:S_api_Waiter} {r:Int} {Q:(Bool→(Hp→Prop))} {h:Hp} (hv:zgm Tryz.prog a w r Q h):CallT Tryz.prog zkl [(sh_machine_asked).enc a,(sh_api_Waiter).enc w,(shInt .i64).enc r] (zaf) Q h:=
 show CallT Tryz.prog zkl [(sh_machine_asked).enc a,(sh_api_Waiter).enc w,(shInt .i64).enc r] (shRes tb [4]) (Q) h from zaa (C:=⟨Tryz.prog,tb,zqc⟩) tb_ok Tryz.func89 rfl (Eq.mpr (zbi1 a w r Q h) hv)
theorem zcr1 (l:Sl) (Q:(Int→(Int→(Hp→Prop)))) (h:Hp):funW ⟨Tryz.prog,tb,zri⟩ Tryz.f90 zek1 [(shSl).enc l] (fun r=>Q r.1 r.2) h=zlt Tryz.prog l Q h:=by kernel_rfl
theorem zzn {l:Sl} {Q:(Int→(Int→(Hp→Prop)))} {h:Hp} (hv:zlt Tryz.prog l Q h):Call2 Tryz.prog zlo [(shSl).enc l] (shInt .i64) (shInt .i64) Q h:=
 show CallT Tryz.prog zlo [(shSl).enc l] (shRes tb [34,3]) (fun r=>Q r.1 r.2) h from zaa (C:=⟨Tryz.prog,tb,zri⟩) tb_ok Tryz.func90 rfl (Eq.mpr (zcr1 l Q h) hv)
end Lf

set_option maxRecDepth 100000
namespace Lf
open Go Go.Proofs
theorem zxp (l:Sl) (parts:Int) (Q:(Int→(Hp→Prop))) (h:Hp):funW ⟨Tryz.prog,tb,znn⟩ Tryz.f91 zyn [(shSl).enc l,(shInt .i64).enc parts] (Q) h=zey Tryz.prog l parts Q h:=by kernel_rfl
theorem zup {l:Sl} {parts:Int} {Q:(Int→(Hp→Prop))} {h:Hp} (hv:zey Tryz.prog l parts Q h):CallT Tryz.prog zii [(shSl).enc l,(shInt .i64).enc parts] (shInt .i64) Q h:=
 show CallT Tryz.prog zii [(shSl).enc l,(shInt .i64).enc parts] (shRes tb [34]) (Q) h from zaa (C:=⟨Tryz.prog,tb,znn⟩) tb_ok Tryz.func91 rfl (Eq.mpr (zxp l parts Q h) hv)
theorem zxq (n:Int) (least:Int) (most:Int) (Q:(Bool→(Hp→Prop))) (h:Hp):funW ⟨Tryz.prog,tb,zno⟩ Tryz.f92 zyo [(shInt .i64).enc n,(shInt .i64).enc least,(shInt .i64).enc most] (Q) h=zez Tryz.prog n least most Q h:=by kernel_rfl
theorem zbn {n:Int} {least:Int} {most:Int} {Q:(Bool→(Hp→Prop))} {h:Hp} (hv:zez Tryz.prog n least most Q h):CallT Tryz.prog zbe [(shInt .i64).enc n,(shInt .i64).enc least,(shInt .i64).enc most] (zaf) Q h:=
 show CallT Tryz.prog zbe [(shInt .i64).enc n,(shInt .i64).enc least,(shInt .i64).enc most] (shRes tb [4]) (Q) h from zaa (C:=⟨Tryz.prog,tb,zno⟩) tb_ok Tryz.func92 rfl (Eq.mpr (zxq n least most Q h) hv)
theorem zcs1 (l:Sl) (locks:Int) (Q:(Int→(Int→(Hp→Prop)))) (h:Hp):funW ⟨Tryz.prog,tb,zrj⟩ Tryz.f93 zel1 [(shSl).enc l,(shInt .i64).enc locks] (fun r=>Q r.1 r.2) h=zhi Tryz.prog l locks Q h:=by kernel_rfl
theorem zzo {l:Sl} {locks:Int} {Q:(Int→(Int→(Hp→Prop)))} {h:Hp} (hv:zhi Tryz.prog l locks Q h):Call2 Tryz.prog zlp [(shSl).enc l,(shInt .i64).enc locks] (shInt .i64) (shInt .i64) Q h:=
 show CallT Tryz.prog zlp [(shSl).enc l,(shInt .i64).enc locks] (shRes tb [34,3]) (fun r=>Q r.1 r.2) h from zaa (C:=⟨Tryz.prog,tb,zrj⟩) tb_ok Tryz.func93 rfl (Eq.mpr (zcs1 l locks Q h) hv)
theorem zxr (n:Int) (low:Int) (high:Int) (Q:(Bool→(Hp→Prop))) (h:Hp):funW ⟨Tryz.prog,tb,znp⟩ Tryz.f94 zyp [(shInt .i64).enc n,(shInt .i64).enc low,(shInt .i64).enc high] (Q) h=zfa Tryz.prog n low high Q h:=by kernel_rfl
theorem zde {n:Int} {low:Int} {high:Int} {Q:(Bool→(Hp→Prop))} {h:Hp} (hv:zfa Tryz.prog n low high Q h):CallT Tryz.prog zcb [(shInt .i64).enc n,(shInt .i64).enc low,(shInt .i64).enc high] (zaf) Q h:=
 show CallT Tryz.prog zcb [(shInt .i64).enc n,(shInt .i64).enc low,(shInt .i64).enc high] (shRes tb [4]) (Q) h from zaa (C:=⟨Tryz.prog,tb,znp⟩) tb_ok Tryz.func94 rfl (Eq.mpr (zxr n low high Q h) hv)
theorem zsz (m:Option Addr) (i:Int) (Q:(Sl→(Hp→Prop))) (h:Hp):funW ⟨Tryz.prog,tb,zkp⟩ Tryz.f95 ztp [(shPtr).enc m,(shInt .i64).enc i] (Q) h=zcx Tryz.prog m i Q h:=by kernel_rfl
theorem zql {m:Option Addr} {i:Int} {Q:(Sl→(Hp→Prop))} {h:Hp} (hv:zcx Tryz.prog m i Q h):CallT Tryz.prog zfi [(shPtr).enc m,(shInt .i64).enc i] (shSl) Q h:=
 show CallT Tryz.prog zfi [(shPtr).enc m,(shInt .i64).enc i] (shRes tb [23]) (Q) h from zaa (C:=⟨Tryz.prog,tb,zkp⟩) tb_ok Tryz.func95 rfl (Eq.mpr (zsz m i Q h) hv)
theorem zwm (n:Int) (Q:(Bool→(Hp→Prop))) (h:Hp):funW ⟨Tryz.prog,tb,zmw⟩ Tryz.f96 zwy [(shInt .i64).enc n] (Q) h=zeg Tryz.prog n Q h:=by kernel_rfl
theorem zcy {n:Int} {Q:(Bool→(Hp→Prop))} {h:Hp} (hv:zeg Tryz.prog n Q h):CallT Tryz.prog zbv [(shInt .i64).enc n] (zaf) Q h:=
 show CallT Tryz.prog zbv [(shInt .i64).enc n] (shRes tb [4]) (Q) h from zaa (C:=⟨Tryz.prog,tb,zmw⟩) tb_ok Tryz.func96 rfl (Eq.mpr (zwm n Q h) hv)
theorem zta (m:Option Addr) (p:Int) (i:Int) (Q:(Bool→(Hp→Prop))) (h:Hp):funW ⟨Tryz.prog,tb,zkq⟩ Tryz.f97 ztq [(shPtr).enc m,(shInt .i64).enc p,(shInt .i64).enc i] (Q) h=zby Tryz.prog m p i Q h:=by kernel_rfl
theorem zed {m:Option Addr} {p:Int} {i:Int} {Q:(Bool→(Hp→Prop))} {h:Hp} (hv:zby Tryz.prog m p i Q h):CallT Tryz.prog zbx [(shPtr).enc m,(shInt .i64).enc p,(shInt .i64).enc i] (zaf) Q h:=
 show CallT Tryz.prog zbx [(shPtr).enc m,(shInt .i64).enc p,(shInt .i64).enc i] (shRes tb [4]) (Q) h from zaa (C:=⟨Tryz.prog,tb,zkq⟩) tb_ok Tryz.func97 rfl (Eq.mpr (zta m p i Q h) hv)
theorem zpn (m:Option Addr) (i:Int) (j:Int) (Q:(Bool→(Hp→Prop))) (h:Hp):funW ⟨Tryz.prog,tb,zib⟩ Tryz.f98 zqd [(shPtr).enc m,(shInt .i64).enc i,(shInt .i64).enc j] (Q) h=zbl Tryz.prog m i j Q h:=by kernel_rfl
theorem zny {m:Option Addr} {i:Int} {j:Int} {Q:(Bool→(Hp→Prop))} {h:Hp} (hv:zbl Tryz.prog m i j Q h):CallT Tryz.prog zdx [(shPtr).enc m,(shInt .i64).enc i,(shInt .i64).enc j] (zaf) Q h:=
 show CallT Tryz.prog zdx [(shPtr).enc m,(shInt .i64).enc i,(shInt .i64).enc j] (shRes tb [4]) (Q) h from zaa (C:=⟨Tryz.prog,tb,zib⟩) tb_ok Tryz.func98 rfl (Eq.mpr (zpn m i j Q h) hv)
theorem zew1 (c:S_firebreakref13_Core) (code:Sl) (Q:(S_api_Ins→(Bool→(Hp→Prop)))) (h:Hp):funW ⟨Tryz.prog,tb,ztr⟩ Tryz.f99 zfp1 [(zch).enc c,(shSl).enc code] (fun r=>Q r.1 r.2) h=zio Tryz.prog c code Q h:=by kernel_rfl
theorem zbj1 {c:S_firebreakref13_Core} {code:Sl} {Q:(S_api_Ins→(Bool→(Hp→Prop)))} {h:Hp} (hv:zio Tryz.prog c code Q h):Call2 Tryz.prog zmo [(zch).enc c,(shSl).enc code] (sh_api_Ins) (zaf) Q h:=
 show CallT Tryz.prog zmo [(zch).enc c,(shSl).enc code] (shRes tb [51,4]) (fun r=>Q r.1 r.2) h from zaa (C:=⟨Tryz.prog,tb,ztr⟩) tb_ok Tryz.func99 rfl (Eq.mpr (zew1 c code Q h) hv)
theorem zqm (m:Option Addr) (p:Int) (Q:(S_firebreakref13_Core→(Hp→Prop))) (h:Hp):funW ⟨Tryz.prog,tb,ziw⟩ Tryz.f100 zqq [(shPtr).enc m,(shInt .i64).enc p] (Q) h=zen Tryz.prog m p Q h:=by kernel_rfl
theorem zon {m:Option Addr} {p:Int} {Q:(S_firebreakref13_Core→(Hp→Prop))} {h:Hp} (hv:zen Tryz.prog m p Q h):CallT Tryz.prog zel [(shPtr).enc m,(shInt .i64).enc p] (zch) Q h:=
 show CallT Tryz.prog zel [(shPtr).enc m,(shInt .i64).enc p] (shRes tb [159]) (Q) h from zaa (C:=⟨Tryz.prog,tb,ziw⟩) tb_ok Tryz.func100 rfl (Eq.mpr (zqm m p Q h) hv)
theorem zex1 (r:Option Addr) (many:Int) (Q:(Int→(Hp→Prop))) (h:Hp):funW ⟨Tryz.prog,tb,zts⟩ Tryz.f101 zfq1 [(shPtr).enc r,(shInt .i64).enc many] (Q) h=ziq Tryz.prog r many Q h:=by kernel_rfl
theorem zar {r:Option Addr} {many:Int} {Q:(Int→(Hp→Prop))} {h:Hp} (hv:ziq Tryz.prog r many Q h):CallT Tryz.prog zap [(shPtr).enc r,(shInt .i64).enc many] (shInt .i64) Q h:=
 show CallT Tryz.prog zap [(shPtr).enc r,(shInt .i64).enc many] (shRes tb [3]) (Q) h from zaa (C:=⟨Tryz.prog,tb,zts⟩) tb_ok Tryz.func101 rfl (Eq.mpr (zex1 r many Q h) hv)
theorem znw1 (b:Sl) (Q:(S_api_Config→(Int→(Int→(Hp→Prop))))) (h:Hp):funW ⟨Tryz.prog,tb,zhl1⟩ Tryz.f102 zpw1 [(shSl).enc b] (fun r=>Q r.1 r.2.1 r.2.2) h=zse Tryz.prog b Q h:=by kernel_rfl
theorem zkr1 {b:Sl} {Q:(S_api_Config→(Int→(Int→(Hp→Prop))))} {h:Hp} (hv:zse Tryz.prog b Q h):Call3 Tryz.prog zyc [(shSl).enc b] (sh_api_Config) (shInt .i64) (shInt .i64) Q h:=
 show CallT Tryz.prog zyc [(shSl).enc b] (shRes tb [26,34,3]) (fun r=>Q r.1 r.2.1 r.2.2) h from zaa (C:=⟨Tryz.prog,tb,zhl1⟩) tb_ok Tryz.func102 rfl (Eq.mpr (znw1 b Q h) hv)
theorem zgj1 (r:Option Addr) (bytes:Int) (most:Int) (Q:(Int→(Hp→Prop))) (h:Hp):funW ⟨Tryz.prog,tb,zvh⟩ Tryz.f103 zhm1 [(shPtr).enc r,(shInt .i64).enc bytes,(shInt .i64).enc most] (Q) h=zju Tryz.prog r bytes most Q h:=by kernel_rfl
theorem zgq {r:Option Addr} {bytes:Int} {most:Int} {Q:(Int→(Hp→Prop))} {h:Hp} (hv:zju Tryz.prog r bytes most Q h):CallT Tryz.prog zcu [(shPtr).enc r,(shInt .i64).enc bytes,(shInt .i64).enc most] (shInt .i64) Q h:=
 show CallT Tryz.prog zcu [(shPtr).enc r,(shInt .i64).enc bytes,(shInt .i64).enc most] (shRes tb [3]) (Q) h from zaa (C:=⟨Tryz.prog,tb,zvh⟩) tb_ok Tryz.func103 rfl (Eq.mpr (zgj1 r bytes most Q h) hv)
theorem zgk1 (r:Option Addr) (Q:(S_api_Lane→(Hp→Prop))) (h:Hp):funW ⟨Tryz.prog,tb,zvi⟩ Tryz.f104 zhn1 [(shPtr).enc r] (Q) h=zjv Tryz.prog r Q h:=by kernel_rfl
theorem zct1 {r:Option Addr} {Q:(S_api_Lane→(Hp→Prop))} {h:Hp} (hv:zjv Tryz.prog r Q h):CallT Tryz.prog znf [(shPtr).enc r] (sh_api_Lane) Q h:=
 show CallT Tryz.prog znf [(shPtr).enc r] (shRes tb [68]) (Q) h from zaa (C:=⟨Tryz.prog,tb,zvi⟩) tb_ok Tryz.func104 rfl (Eq.mpr (zgk1 r Q h) hv)
theorem zpo (r:Option Addr) (Q:(S_api_Config→(Hp→Prop))) (h:Hp):funW ⟨Tryz.prog,tb,zic⟩ Tryz.f105 zqe [(shPtr).enc r] (Q) h=zcf Tryz.prog r Q h:=by kernel_rfl
theorem znz {r:Option Addr} {Q:(S_api_Config→(Hp→Prop))} {h:Hp} (hv:zcf Tryz.prog r Q h):CallT Tryz.prog zdy [(shPtr).enc r] (sh_api_Config) Q h:=
 show CallT Tryz.prog zdy [(shPtr).enc r] (shRes tb [26]) (Q) h from zaa (C:=⟨Tryz.prog,tb,zic⟩) tb_ok Tryz.func105 rfl (Eq.mpr (zpo r Q h) hv)
theorem zua (s:Sl) (f:FnV) (Q:(Int→(Hp→Prop))) (h:Hp):funW ⟨Tryz.prog,tb,zlf⟩ Tryz.f106 zug [(shSl).enc s,(shFn).enc f] (Q) h=zdd Tryz.prog s f Q h:=by kernel_rfl
theorem ziz {s:Sl} {f:FnV} {Q:(Int→(Hp→Prop))} {h:Hp} (hv:zdd Tryz.prog s f Q h):CallT Tryz.prog zdb [(shSl).enc s,(shFn).enc f] (shInt .i64) Q h:=
 show CallT Tryz.prog zdb [(shSl).enc s,(shFn).enc f] (shRes tb [3]) (Q) h from zaa (C:=⟨Tryz.prog,tb,zlf⟩) tb_ok Tryz.func106 rfl (Eq.mpr (zua s f Q h) hv)
theorem znx1 (p:Int) (a1:Addr) (Q:(Bool→(Hp→Prop))) (h:Hp):funW ⟨Tryz.prog,tb,zho1⟩ Tryz.f107 zpx1 [(shInt .i64).enc p,.pointer (some a1)] (Q) h=zyj Tryz.prog p a1 Q h:=by kernel_rfl
theorem zks1 {p:Int} {a1:Addr} {Q:(Bool→(Hp→Prop))} {h:Hp} (hv:zyj Tryz.prog p a1 Q h):CallT Tryz.prog zrv [(shInt .i64).enc p,.pointer (some a1)] (zaf) Q h:=
 show CallT Tryz.prog zrv [(shInt .i64).enc p,.pointer (some a1)] (shRes tb [4]) (Q) h from zaa (C:=⟨Tryz.prog,tb,zho1⟩) tb_ok Tryz.func107 rfl (Eq.mpr (znx1 p a1 Q h) hv)
theorem zzp (s:Sl) (Q:(Sl→(Hp→Prop))) (h:Hp):funW ⟨Tryz.prog,tb,zow⟩ Tryz.f108 zat1 [(shSl).enc s] (Q) h=zfw Tryz.prog s Q h:=by kernel_rfl
theorem zwn {s:Sl} {Q:(Sl→(Hp→Prop))} {h:Hp} (hv:zfw Tryz.prog s Q h):CallT Tryz.prog zjf [(shSl).enc s] (shSl) Q h:=
 show CallT Tryz.prog zjf [(shSl).enc s] (shRes tb [23]) (Q) h from zaa (C:=⟨Tryz.prog,tb,zow⟩) tb_ok Tryz.func108 rfl (Eq.mpr (zzp s Q h) hv)
theorem zqq1 (x:S_api_Ins) (n:Int) (locks:Int) (Q:(Int→(Hp→Prop))) (h:Hp):funW ⟨Tryz.prog,tb,zjx1⟩ Tryz.f109 zru1 [(sh_api_Ins).enc x,(shInt .i64).enc n,(shInt .i64).enc locks] (Q) h=zuw Tryz.prog x n locks Q h:=by kernel_rfl
theorem zcu1 {x:S_api_Ins} {n:Int} {locks:Int} {Q:(Int→(Hp→Prop))} {h:Hp} (hv:zuw Tryz.prog x n locks Q h):CallT Tryz.prog zuu [(sh_api_Ins).enc x,(shInt .i64).enc n,(shInt .i64).enc locks] (shInt .i64) Q h:=
 show CallT Tryz.prog zuu [(sh_api_Ins).enc x,(shInt .i64).enc n,(shInt .i64).enc locks] (shRes tb [34]) (Q) h from zaa (C:=⟨Tryz.prog,tb,zjx1⟩) tb_ok Tryz.func109 rfl (Eq.mpr (zqq1 x n locks Q h) hv)
theorem zjm1 (t:Option Addr) (i:Int) (Q:(Bool→(Hp→Prop))) (h:Hp):funW ⟨Tryz.prog,tb,zaj1⟩ Tryz.f110 zkl1 [(shPtr).enc t,(shInt .i64).enc i] (Q) h=zmk Tryz.prog t i Q h:=by kernel_rfl
theorem zub {t:Option Addr} {i:Int} {Q:(Bool→(Hp→Prop))} {h:Hp} (hv:zmk Tryz.prog t i Q h):CallT Tryz.prog zmj [(shPtr).enc t,(shInt .i64).enc i] (zaf) Q h:=
 show CallT Tryz.prog zmj [(shPtr).enc t,(shInt .i64).enc i] (shRes tb [4]) (Q) h from zaa (C:=⟨Tryz.prog,tb,zaj1⟩) tb_ok Tryz.func110 rfl (Eq.mpr (zjm1 t i Q h) hv)
theorem zny1 (a:Int) (b:Int) (Q:(Bool→(Hp→Prop))) (h:Hp):funW ⟨Tryz.prog,tb,zhp1⟩ Tryz.f111 zpy1 [(shInt .u64).enc a,(shInt .u64).enc b] (Q) h=zsf Tryz.prog a b Q h:=by kernel_rfl
theorem zkt1 {a:Int} {b:Int} {Q:(Bool→(Hp→Prop))} {h:Hp} (hv:zsf Tryz.prog a b Q h):CallT Tryz.prog zyd [(shInt .u64).enc a,(shInt .u64).enc b] (zaf) Q h:=
 show CallT Tryz.prog zyd [(shInt .u64).enc a,(shInt .u64).enc b] (shRes tb [4]) (Q) h from zaa (C:=⟨Tryz.prog,tb,zhp1⟩) tb_ok Tryz.func111 rfl (Eq.mpr (zny1 a b Q h) hv)
theorem zzq (x:S_api_Ins) (n:Int) (locks:Int) (Q:(Int→(Hp→Prop))) (h:Hp):funW ⟨Tryz.prog,tb,zox⟩ Tryz.f112 zau1 [(sh_api_Ins).enc x,(shInt .i64).enc n,(shInt .i64).enc locks] (Q) h=zfx Tryz.prog x n locks Q h:=by kernel_rfl
theorem zmd {x:S_api_Ins} {n:Int} {locks:Int} {Q:(Int→(Hp→Prop))} {h:Hp} (hv:zfx Tryz.prog x n locks Q h):CallT Tryz.prog zfm [(sh_api_Ins).enc x,(shInt .i64).enc n,(shInt .i64).enc locks] (shInt .i64) Q h:=
 show CallT Tryz.prog zfm [(sh_api_Ins).enc x,(shInt .i64).enc n,(shInt .i64).enc locks] (shRes tb [34]) (Q) h from zaa (C:=⟨Tryz.prog,tb,zox⟩) tb_ok Tryz.func112 rfl (Eq.mpr (zzq x n locks Q h) hv)
end Lf

set_option maxRecDepth 100000
namespace Lf
open Go Go.Proofs
theorem zpp (m:Option Addr) (p:Int) (Q:(Bool→(Hp→Prop))) (h:Hp):funW ⟨Tryz.prog,tb,zid⟩ Tryz.f113 zqf [(shPtr).enc m,(shInt .i64).enc p] (Q) h=zcg Tryz.prog m p Q h:=by kernel_rfl
theorem zoa {m:Option Addr} {p:Int} {Q:(Bool→(Hp→Prop))} {h:Hp} (hv:zcg Tryz.prog m p Q h):CallT Tryz.prog zdz [(shPtr).enc m,(shInt .i64).enc p] (zaf) Q h:=
 show CallT Tryz.prog zdz [(shPtr).enc m,(shInt .i64).enc p] (shRes tb [4]) (Q) h from zaa (C:=⟨Tryz.prog,tb,zid⟩) tb_ok Tryz.func113 rfl (Eq.mpr (zpp m p Q h) hv)
theorem zzr (a:Int) (b:Int) (Q:(Bool→(Hp→Prop))) (h:Hp):funW ⟨Tryz.prog,tb,zoy⟩ Tryz.f114 zav1 [(shInt .u64).enc a,(shInt .u64).enc b] (Q) h=zfy Tryz.prog a b Q h:=by kernel_rfl
theorem zwo {a:Int} {b:Int} {Q:(Bool→(Hp→Prop))} {h:Hp} (hv:zfy Tryz.prog a b Q h):CallT Tryz.prog zjg [(shInt .u64).enc a,(shInt .u64).enc b] (zaf) Q h:=
 show CallT Tryz.prog zjg [(shInt .u64).enc a,(shInt .u64).enc b] (shRes tb [4]) (Q) h from zaa (C:=⟨Tryz.prog,tb,zoy⟩) tb_ok Tryz.func114 rfl (Eq.mpr (zzr a b Q h) hv)
theorem zgl1 (r:Option Addr) (e:Int) (place:Int) (Q:(Hp→Prop)) (h:Hp):funW ⟨Tryz.prog,tb,zvj⟩ Tryz.f115 zhq1 [(shPtr).enc r,(shInt .i64).enc e,(shInt .i64).enc place] (fun _=>Q) h=zjw Tryz.prog r e place Q h:=by kernel_rfl
theorem zbz {r:Option Addr} {e:Int} {place:Int} {Q:(Hp→Prop)} {h:Hp} (hv:zjw Tryz.prog r e place Q h):Call0 Tryz.prog zbt [(shPtr).enc r,(shInt .i64).enc e,(shInt .i64).enc place] (Q) h:=
 show CallT Tryz.prog zbt [(shPtr).enc r,(shInt .i64).enc e,(shInt .i64).enc place] (shRes tb []) (fun _=>Q) h from zaa (C:=⟨Tryz.prog,tb,zvj⟩) tb_ok Tryz.func115 rfl (Eq.mpr (zgl1 r e place Q h) hv)
theorem zcv1 (r:Option Addr) (Q:(Hp→Prop)) (h:Hp):funW ⟨Tryz.prog,tb,zrk⟩ Tryz.f116 zem1 [(shPtr).enc r] (fun _=>Q) h=zhj Tryz.prog r Q h:=by kernel_rfl
theorem zzs {r:Option Addr} {Q:(Hp→Prop)} {h:Hp} (hv:zhj Tryz.prog r Q h):Call0 Tryz.prog zlq [(shPtr).enc r] (Q) h:=
 show CallT Tryz.prog zlq [(shPtr).enc r] (shRes tb []) (fun _=>Q) h from zaa (C:=⟨Tryz.prog,tb,zrk⟩) tb_ok Tryz.func116 rfl (Eq.mpr (zcv1 r Q h) hv)
theorem zig1 (r:Option Addr) (Q:(Bool→(Hp→Prop))) (h:Hp):funW ⟨Tryz.prog,tb,zwz⟩ Tryz.f117 zjg1 [(shPtr).enc r] (Q) h=zhs Tryz.prog r Q h:=by kernel_rfl
theorem zax {r:Option Addr} {Q:(Bool→(Hp→Prop))} {h:Hp} (hv:zhs Tryz.prog r Q h):CallT Tryz.prog zba [(shPtr).enc r] (zaf) Q h:=
 show CallT Tryz.prog zba [(shPtr).enc r] (shRes tb [4]) (Q) h from zaa (C:=⟨Tryz.prog,tb,zwz⟩) tb_ok Tryz.func117 rfl (Eq.mpr (zig1 r Q h) hv)
theorem zcw1 (r:Option Addr) (c:Option Addr) (Q:(Hp→Prop)) (h:Hp):funW ⟨Tryz.prog,tb,zrl⟩ Tryz.f118 zen1 [(shPtr).enc r,(shPtr).enc c] (fun _=>Q) h=zhk Tryz.prog r c Q h:=by kernel_rfl
theorem zzt {r:Option Addr} {c:Option Addr} {Q:(Hp→Prop)} {h:Hp} (hv:zhk Tryz.prog r c Q h):Call0 Tryz.prog zlr [(shPtr).enc r,(shPtr).enc c] (Q) h:=
 show CallT Tryz.prog zlr [(shPtr).enc r,(shPtr).enc c] (shRes tb []) (fun _=>Q) h from zaa (C:=⟨Tryz.prog,tb,zrl⟩) tb_ok Tryz.func118 rfl (Eq.mpr (zcw1 r c Q h) hv)
theorem zey1 (r:Option Addr) (c:Option Addr) (Q:(Hp→Prop)) (h:Hp):funW ⟨Tryz.prog,tb,ztt⟩ Tryz.f119 zfr1 [(shPtr).enc r,(shPtr).enc c] (fun _=>Q) h=zir Tryz.prog r c Q h:=by kernel_rfl
theorem zbk1 {r:Option Addr} {c:Option Addr} {Q:(Hp→Prop)} {h:Hp} (hv:zir Tryz.prog r c Q h):Call0 Tryz.prog zmp [(shPtr).enc r,(shPtr).enc c] (Q) h:=
 show CallT Tryz.prog zmp [(shPtr).enc r,(shPtr).enc c] (shRes tb []) (fun _=>Q) h from zaa (C:=⟨Tryz.prog,tb,ztt⟩) tb_ok Tryz.func119 rfl (Eq.mpr (zey1 r c Q h) hv)
theorem zcx1 (r:Option Addr) (part:Int) (bytes:Int) (Q:(Int→(Hp→Prop))) (h:Hp):funW ⟨Tryz.prog,tb,zrm⟩ Tryz.f120 zeo1 [(shPtr).enc r,(shInt .i64).enc part,(shInt .i64).enc bytes] (Q) h=zhl Tryz.prog r part bytes Q h:=by kernel_rfl
theorem zzu {r:Option Addr} {part:Int} {bytes:Int} {Q:(Int→(Hp→Prop))} {h:Hp} (hv:zhl Tryz.prog r part bytes Q h):CallT Tryz.prog zcc [(shPtr).enc r,(shInt .i64).enc part,(shInt .i64).enc bytes] (shInt .i64) Q h:=
 show CallT Tryz.prog zcc [(shPtr).enc r,(shInt .i64).enc part,(shInt .i64).enc bytes] (shRes tb [3]) (Q) h from zaa (C:=⟨Tryz.prog,tb,zrm⟩) tb_ok Tryz.func120 rfl (Eq.mpr (zcx1 r part bytes Q h) hv)
theorem zbl1 (r:Option Addr) (most:Int) (Q:(Int→(Hp→Prop))) (h:Hp):funW ⟨Tryz.prog,tb,zqg⟩ Tryz.f121 zby1 [(shPtr).enc r,(shInt .i64).enc most] (Q) h=zgn Tryz.prog r most Q h:=by kernel_rfl
theorem zhx {r:Option Addr} {most:Int} {Q:(Int→(Hp→Prop))} {h:Hp} (hv:zgn Tryz.prog r most Q h):CallT Tryz.prog zea [(shPtr).enc r,(shInt .i64).enc most] (shInt .i64) Q h:=
 show CallT Tryz.prog zea [(shPtr).enc r,(shInt .i64).enc most] (shRes tb [3]) (Q) h from zaa (C:=⟨Tryz.prog,tb,zqg⟩) tb_ok Tryz.func121 rfl (Eq.mpr (zbl1 r most Q h) hv)
theorem zgm1 (r:Option Addr) (c:Option Addr) (Q:(Hp→Prop)) (h:Hp):funW ⟨Tryz.prog,tb,zvk⟩ Tryz.f122 zhr1 [(shPtr).enc r,(shPtr).enc c] (fun _=>Q) h=zjx Tryz.prog r c Q h:=by kernel_rfl
theorem zcy1 {r:Option Addr} {c:Option Addr} {Q:(Hp→Prop)} {h:Hp} (hv:zjx Tryz.prog r c Q h):Call0 Tryz.prog zng [(shPtr).enc r,(shPtr).enc c] (Q) h:=
 show CallT Tryz.prog zng [(shPtr).enc r,(shPtr).enc c] (shRes tb []) (fun _=>Q) h from zaa (C:=⟨Tryz.prog,tb,zvk⟩) tb_ok Tryz.func122 rfl (Eq.mpr (zgm1 r c Q h) hv)
theorem zqw (r:Option Addr) (many:Int) (locks:Int) (Q:(Sl→(Hp→Prop))) (h:Hp):funW ⟨Tryz.prog,tb,zkd⟩ Tryz.f123 zsp [(shPtr).enc r,(shInt .i64).enc many,(shInt .i64).enc locks] (Q) h=zct Tryz.prog r many locks Q h:=by kernel_rfl
theorem zpq {r:Option Addr} {many:Int} {locks:Int} {Q:(Sl→(Hp→Prop))} {h:Hp} (hv:zct Tryz.prog r many locks Q h):CallT Tryz.prog zes [(shPtr).enc r,(shInt .i64).enc many,(shInt .i64).enc locks] (shSl) Q h:=
 show CallT Tryz.prog zes [(shPtr).enc r,(shInt .i64).enc many,(shInt .i64).enc locks] (shRes tb [47]) (Q) h from zaa (C:=⟨Tryz.prog,tb,zkd⟩) tb_ok Tryz.func123 rfl (Eq.mpr (zqw r many locks Q h) hv)
theorem zqr1 (x:S_api_Ins) (n:Int) (locks:Int) (Q:(Int→(Int→(Hp→Prop)))) (h:Hp):funW ⟨Tryz.prog,tb,zjy1⟩ Tryz.f124 zrv1 [(sh_api_Ins).enc x,(shInt .i64).enc n,(shInt .i64).enc locks] (fun r=>Q r.1 r.2) h=zux Tryz.prog x n locks Q h:=by kernel_rfl
theorem zmh1 {x:S_api_Ins} {n:Int} {locks:Int} {Q:(Int→(Int→(Hp→Prop)))} {h:Hp} (hv:zux Tryz.prog x n locks Q h):Call2 Tryz.prog zbo1 [(sh_api_Ins).enc x,(shInt .i64).enc n,(shInt .i64).enc locks] (shInt .i64) (shInt .i64) Q h:=
 show CallT Tryz.prog zbo1 [(sh_api_Ins).enc x,(shInt .i64).enc n,(shInt .i64).enc locks] (shRes tb [34,3]) (fun r=>Q r.1 r.2) h from zaa (C:=⟨Tryz.prog,tb,zjy1⟩) tb_ok Tryz.func124 rfl (Eq.mpr (zqr1 x n locks Q h) hv)
theorem zzv (x:S_api_Ins) (n:Int) (locks:Int) (Q:(Int→(Int→(Hp→Prop)))) (h:Hp):funW ⟨Tryz.prog,tb,zoz⟩ Tryz.f125 zaw1 [(sh_api_Ins).enc x,(shInt .i64).enc n,(shInt .i64).enc locks] (fun r=>Q r.1 r.2) h=zfz Tryz.prog x n locks Q h:=by kernel_rfl
theorem zme {x:S_api_Ins} {n:Int} {locks:Int} {Q:(Int→(Int→(Hp→Prop)))} {h:Hp} (hv:zfz Tryz.prog x n locks Q h):Call2 Tryz.prog zfn [(sh_api_Ins).enc x,(shInt .i64).enc n,(shInt .i64).enc locks] (shInt .i64) (shInt .i64) Q h:=
 show CallT Tryz.prog zfn [(sh_api_Ins).enc x,(shInt .i64).enc n,(shInt .i64).enc locks] (shRes tb [34,3]) (fun r=>Q r.1 r.2) h from zaa (C:=⟨Tryz.prog,tb,zoz⟩) tb_ok Tryz.func125 rfl (Eq.mpr (zzv x n locks Q h) hv)
theorem zcz1 (a:Int) (n:Int) (Q:(Bool→(Hp→Prop))) (h:Hp):funW ⟨Tryz.prog,tb,zrn⟩ Tryz.f126 zep1 [(shInt .u64).enc a,(shInt .i64).enc n] (Q) h=zhm Tryz.prog a n Q h:=by kernel_rfl
theorem zob {a:Int} {n:Int} {Q:(Bool→(Hp→Prop))} {h:Hp} (hv:zhm Tryz.prog a n Q h):CallT Tryz.prog zgz [(shInt .u64).enc a,(shInt .i64).enc n] (zaf) Q h:=
 show CallT Tryz.prog zgz [(shInt .u64).enc a,(shInt .i64).enc n] (shRes tb [4]) (Q) h from zaa (C:=⟨Tryz.prog,tb,zrn⟩) tb_ok Tryz.func126 rfl (Eq.mpr (zcz1 a n Q h) hv)
theorem zda1 (r:Option Addr) (many:Int) (wrong:FnV) (Q:(Int→(Hp→Prop))) (h:Hp):funW ⟨Tryz.prog,tb,zro⟩ Tryz.f127 zeq1 [(shPtr).enc r,(shInt .i64).enc many,(shFn).enc wrong] (Q) h=zhn Tryz.prog r many wrong Q h:=by kernel_rfl
theorem zfd {r:Option Addr} {many:Int} {wrong:FnV} {Q:(Int→(Hp→Prop))} {h:Hp} (hv:zhn Tryz.prog r many wrong Q h):CallT Tryz.prog zaz [(shPtr).enc r,(shInt .i64).enc many,(shFn).enc wrong] (shInt .u64) Q h:=
 show CallT Tryz.prog zaz [(shPtr).enc r,(shInt .i64).enc many,(shFn).enc wrong] (shRes tb [80]) (Q) h from zaa (C:=⟨Tryz.prog,tb,zro⟩) tb_ok Tryz.func127 rfl (Eq.mpr (zda1 r many wrong Q h) hv)
theorem zzw (n:Int) (a1:Addr) (Q:(Int→(Hp→Prop))) (h:Hp):funW ⟨Tryz.prog,tb,zpa⟩ Tryz.f128 zax1 [(shInt .u64).enc n,.pointer (some a1)] (Q) h=zga Tryz.prog n a1 Q h:=by kernel_rfl
theorem zwp {n:Int} {a1:Addr} {Q:(Int→(Hp→Prop))} {h:Hp} (hv:zga Tryz.prog n a1 Q h):CallT Tryz.prog zfo [(shInt .u64).enc n,.pointer (some a1)] (shInt .i64) Q h:=
 show CallT Tryz.prog zfo [(shInt .u64).enc n,.pointer (some a1)] (shRes tb [34]) (Q) h from zaa (C:=⟨Tryz.prog,tb,zpa⟩) tb_ok Tryz.func128 rfl (Eq.mpr (zzw n a1 Q h) hv)
theorem zzx (a:Int) (a1:Addr) (Q:(Int→(Hp→Prop))) (h:Hp):funW ⟨Tryz.prog,tb,zpb⟩ Tryz.f129 zay1 [(shInt .u64).enc a,.pointer (some a1)] (Q) h=zgb Tryz.prog a a1 Q h:=by kernel_rfl
theorem zwq {a:Int} {a1:Addr} {Q:(Int→(Hp→Prop))} {h:Hp} (hv:zgb Tryz.prog a a1 Q h):CallT Tryz.prog zfp [(shInt .u64).enc a,.pointer (some a1)] (shInt .i64) Q h:=
 show CallT Tryz.prog zfp [(shInt .u64).enc a,.pointer (some a1)] (shRes tb [34]) (Q) h from zaa (C:=⟨Tryz.prog,tb,zpb⟩) tb_ok Tryz.func129 rfl (Eq.mpr (zzx a a1 Q h) hv)
theorem zxs (r:Option Addr) (c:Option Addr) (Q:(Int→(Hp→Prop))) (h:Hp):funW ⟨Tryz.prog,tb,znq⟩ Tryz.f130 zyq [(shPtr).enc r,(shPtr).enc c] (Q) h=zfb Tryz.prog r c Q h:=by kernel_rfl
theorem zlh {r:Option Addr} {c:Option Addr} {Q:(Int→(Hp→Prop))} {h:Hp} (hv:zfb Tryz.prog r c Q h):CallT Tryz.prog zet [(shPtr).enc r,(shPtr).enc c] (shInt .i64) Q h:=
 show CallT Tryz.prog zet [(shPtr).enc r,(shPtr).enc c] (shRes tb [3]) (Q) h from zaa (C:=⟨Tryz.prog,tb,znq⟩) tb_ok Tryz.func130 rfl (Eq.mpr (zxs r c Q h) hv)
theorem zih1 (r:Option Addr) (many:Int) (wrong:FnV) (Q:(Int→(Hp→Prop))) (h:Hp):funW ⟨Tryz.prog,tb,zxa⟩ Tryz.f131 zjh1 [(shPtr).enc r,(shInt .i64).enc many,(shFn).enc wrong] (Q) h=zky Tryz.prog r many wrong Q h:=by kernel_rfl
theorem zhq {r:Option Addr} {many:Int} {wrong:FnV} {Q:(Int→(Hp→Prop))} {h:Hp} (hv:zky Tryz.prog r many wrong Q h):CallT Tryz.prog zff [(shPtr).enc r,(shInt .i64).enc many,(shFn).enc wrong] (shInt .i64) Q h:=
 show CallT Tryz.prog zff [(shPtr).enc r,(shInt .i64).enc many,(shFn).enc wrong] (shRes tb [3]) (Q) h from zaa (C:=⟨Tryz.prog,tb,zxa⟩) tb_ok Tryz.func131 rfl (Eq.mpr (zih1 r many wrong Q h) hv)
theorem zzy (n:Int) (a1:Addr) (Q:(Int→(Hp→Prop))) (h:Hp):funW ⟨Tryz.prog,tb,zpc⟩ Tryz.f132 zaz1 [(shInt .i64).enc n,.pointer (some a1)] (Q) h=zjh Tryz.prog n a1 Q h:=by kernel_rfl
theorem zwr {n:Int} {a1:Addr} {Q:(Int→(Hp→Prop))} {h:Hp} (hv:zjh Tryz.prog n a1 Q h):CallT Tryz.prog zfq [(shInt .i64).enc n,.pointer (some a1)] (shInt .i64) Q h:=
 show CallT Tryz.prog zfq [(shInt .i64).enc n,.pointer (some a1)] (shRes tb [34]) (Q) h from zaa (C:=⟨Tryz.prog,tb,zpc⟩) tb_ok Tryz.func132 rfl (Eq.mpr (zzy n a1 Q h) hv)
theorem zxt (n:Int) (a1:Addr) (Q:(Int→(Hp→Prop))) (h:Hp):funW ⟨Tryz.prog,tb,znr⟩ Tryz.f133 zyr [(shInt .i64).enc n,.pointer (some a1)] (Q) h=zis Tryz.prog n a1 Q h:=by kernel_rfl
theorem zuq {n:Int} {a1:Addr} {Q:(Int→(Hp→Prop))} {h:Hp} (hv:zis Tryz.prog n a1 Q h):CallT Tryz.prog zeu [(shInt .i64).enc n,.pointer (some a1)] (shInt .i64) Q h:=
 show CallT Tryz.prog zeu [(shInt .i64).enc n,.pointer (some a1)] (shRes tb [34]) (Q) h from zaa (C:=⟨Tryz.prog,tb,znr⟩) tb_ok Tryz.func133 rfl (Eq.mpr (zxt n a1 Q h) hv)
theorem zdb1 (n:Int) (Q:(Int→(Hp→Prop))) (h:Hp):funW ⟨Tryz.prog,tb,zrp⟩ Tryz.f134 zer1 [(shInt .i64).enc n] (Q) h=zho Tryz.prog n Q h:=by kernel_rfl
theorem zzz {n:Int} {Q:(Int→(Hp→Prop))} {h:Hp} (hv:zho Tryz.prog n Q h):CallT Tryz.prog zha [(shInt .i64).enc n] (shInt .i64) Q h:=
 show CallT Tryz.prog zha [(shInt .i64).enc n] (shRes tb [34]) (Q) h from zaa (C:=⟨Tryz.prog,tb,zrp⟩) tb_ok Tryz.func134 rfl (Eq.mpr (zdb1 n Q h) hv)
end Lf

set_option maxRecDepth 100000
namespace Lf
open Go Go.Proofs
theorem zii1 (r:Option Addr) (n:Int) (locks:Int) (Q:(S_api_Ins→(Hp→Prop))) (h:Hp):funW ⟨Tryz.prog,tb,zxb⟩ Tryz.f135 zji1 [(shPtr).enc r,(shInt .i64).enc n,(shInt .i64).enc locks] (Q) h=zkz Tryz.prog r n locks Q h:=by kernel_rfl
theorem zez1 {r:Option Addr} {n:Int} {locks:Int} {Q:(S_api_Ins→(Hp→Prop))} {h:Hp} (hv:zkz Tryz.prog r n locks Q h):CallT Tryz.prog zpe [(shPtr).enc r,(shInt .i64).enc n,(shInt .i64).enc locks] (sh_api_Ins) Q h:=
 show CallT Tryz.prog zpe [(shPtr).enc r,(shInt .i64).enc n,(shInt .i64).enc locks] (shRes tb [51]) (Q) h from zaa (C:=⟨Tryz.prog,tb,zxb⟩) tb_ok Tryz.func135 rfl (Eq.mpr (zii1 r n locks Q h) hv)
theorem zdc1 (b:Sl) (Q:(S_api_Ins→(Hp→Prop))) (h:Hp):funW ⟨Tryz.prog,tb,zrq⟩ Tryz.f136 zes1 [(shSl).enc b] (Q) h=zhp Tryz.prog b Q h:=by kernel_rfl
theorem zaa1 {b:Sl} {Q:(S_api_Ins→(Hp→Prop))} {h:Hp} (hv:zhp Tryz.prog b Q h):CallT Tryz.prog zls [(shSl).enc b] (sh_api_Ins) Q h:=
 show CallT Tryz.prog zls [(shSl).enc b] (shRes tb [51]) (Q) h from zaa (C:=⟨Tryz.prog,tb,zrq⟩) tb_ok Tryz.func136 rfl (Eq.mpr (zdc1 b Q h) hv)
theorem znz1 (op:Int) (Q:(Bool→(Bool→(Bool→(Bool→(Hp→Prop)))))) (h:Hp):funW ⟨Tryz.prog,tb,zhs1⟩ Tryz.f137 zpz1 [(shInt .i64).enc op] (fun r=>Q r.1 r.2.1 r.2.2.1 r.2.2.2) h=zsg Tryz.prog op Q h:=by kernel_rfl
theorem zam1 {op:Int} {Q:(Bool→(Bool→(Bool→(Bool→(Hp→Prop)))))} {h:Hp} (hv:zsg Tryz.prog op Q h):Call4 Tryz.prog zrw [(shInt .i64).enc op] (zaf) (zaf) (zaf) (zaf) Q h:=
 show CallT Tryz.prog zrw [(shInt .i64).enc op] (shRes tb [4,4,4,4]) (fun r=>Q r.1 r.2.1 r.2.2.1 r.2.2.2) h from zaa (C:=⟨Tryz.prog,tb,zhs1⟩) tb_ok Tryz.func137 rfl (Eq.mpr (znz1 op Q h) hv)
theorem zku1 (has:Bool) (n:Int) (Q:(Int→(Hp→Prop))) (h:Hp):funW ⟨Tryz.prog,tb,zbz1⟩ Tryz.f138 zlp1 [(zaf).enc has,(shInt .i64).enc n] (Q) h=znj Tryz.prog has n Q h:=by kernel_rfl
theorem zoc {has:Bool} {n:Int} {Q:(Int→(Hp→Prop))} {h:Hp} (hv:znj Tryz.prog has n Q h):CallT Tryz.prog zkm [(zaf).enc has,(shInt .i64).enc n] (shInt .i64) Q h:=
 show CallT Tryz.prog zkm [(zaf).enc has,(shInt .i64).enc n] (shRes tb [34]) (Q) h from zaa (C:=⟨Tryz.prog,tb,zbz1⟩) tb_ok Tryz.func138 rfl (Eq.mpr (zku1 has n Q h) hv)
theorem zoa1 (x:S_api_Ins) (has:Bool) (n:Int) (locks:Int) (Q:(Int→(Hp→Prop))) (h:Hp):funW ⟨Tryz.prog,tb,zht1⟩ Tryz.f139 zqa1 [(sh_api_Ins).enc x,(zaf).enc has,(shInt .i64).enc n,(shInt .i64).enc locks] (Q) h=zsh Tryz.prog x has n locks Q h:=by kernel_rfl
theorem zkv1 {x:S_api_Ins} {has:Bool} {n:Int} {locks:Int} {Q:(Int→(Hp→Prop))} {h:Hp} (hv:zsh Tryz.prog x has n locks Q h):CallT Tryz.prog zye [(sh_api_Ins).enc x,(zaf).enc has,(shInt .i64).enc n,(shInt .i64).enc locks] (shInt .i64) Q h:=
 show CallT Tryz.prog zye [(sh_api_Ins).enc x,(zaf).enc has,(shInt .i64).enc n,(shInt .i64).enc locks] (shRes tb [34]) (Q) h from zaa (C:=⟨Tryz.prog,tb,zht1⟩) tb_ok Tryz.func139 rfl (Eq.mpr (zoa1 x has n locks Q h) hv)
theorem zxu (op:Int) (Q:(Bool→(Bool→(Bool→(Bool→(Hp→Prop)))))) (h:Hp):funW ⟨Tryz.prog,tb,zns⟩ Tryz.f140 zys [(shInt .i64).enc op] (fun r=>Q r.1 r.2.1 r.2.2.1 r.2.2.2) h=zfc Tryz.prog op Q h:=by kernel_rfl
theorem zur {op:Int} {Q:(Bool→(Bool→(Bool→(Bool→(Hp→Prop)))))} {h:Hp} (hv:zfc Tryz.prog op Q h):Call4 Tryz.prog zij [(shInt .i64).enc op] (zaf) (zaf) (zaf) (zaf) Q h:=
 show CallT Tryz.prog zij [(shInt .i64).enc op] (shRes tb [4,4,4,4]) (fun r=>Q r.1 r.2.1 r.2.2.1 r.2.2.2) h from zaa (C:=⟨Tryz.prog,tb,zns⟩) tb_ok Tryz.func140 rfl (Eq.mpr (zxu op Q h) hv)
theorem zus (n:Int) (has:Bool) (Q:(Int→(Hp→Prop))) (h:Hp):funW ⟨Tryz.prog,tb,zma⟩ Tryz.f141 zwd [(shInt .i64).enc n,(zaf).enc has] (Q) h=zdr Tryz.prog n has Q h:=by kernel_rfl
theorem zfe {n:Int} {has:Bool} {Q:(Int→(Hp→Prop))} {h:Hp} (hv:zdr Tryz.prog n has Q h):CallT Tryz.prog zcj [(shInt .i64).enc n,(zaf).enc has] (shInt .i64) Q h:=
 show CallT Tryz.prog zcj [(shInt .i64).enc n,(zaf).enc has] (shRes tb [34]) (Q) h from zaa (C:=⟨Tryz.prog,tb,zma⟩) tb_ok Tryz.func141 rfl (Eq.mpr (zus n has Q h) hv)
theorem zut (n:Int) (a1:Addr) (Q:(Int→(Hp→Prop))) (h:Hp):funW ⟨Tryz.prog,tb,zmb⟩ Tryz.f142 zwe [(shInt .i64).enc n,.pointer (some a1)] (Q) h=zgx Tryz.prog n a1 Q h:=by kernel_rfl
theorem ztb {n:Int} {a1:Addr} {Q:(Int→(Hp→Prop))} {h:Hp} (hv:zgx Tryz.prog n a1 Q h):CallT Tryz.prog zdk [(shInt .i64).enc n,.pointer (some a1)] (shInt .i64) Q h:=
 show CallT Tryz.prog zdk [(shInt .i64).enc n,.pointer (some a1)] (shRes tb [34]) (Q) h from zaa (C:=⟨Tryz.prog,tb,zmb⟩) tb_ok Tryz.func142 rfl (Eq.mpr (zut n a1 Q h) hv)
theorem zfa1 (n:Int) (a1:Addr) (Q:(Int→(Hp→Prop))) (h:Hp):funW ⟨Tryz.prog,tb,ztu⟩ Tryz.f143 zfs1 [(shInt .u64).enc n,.pointer (some a1)] (Q) h=zmq Tryz.prog n a1 Q h:=by kernel_rfl
theorem zbm1 {n:Int} {a1:Addr} {Q:(Int→(Hp→Prop))} {h:Hp} (hv:zmq Tryz.prog n a1 Q h):CallT Tryz.prog zik [(shInt .u64).enc n,.pointer (some a1)] (shInt .i64) Q h:=
 show CallT Tryz.prog zik [(shInt .u64).enc n,.pointer (some a1)] (shRes tb [34]) (Q) h from zaa (C:=⟨Tryz.prog,tb,ztu⟩) tb_ok Tryz.func143 rfl (Eq.mpr (zfa1 n a1 Q h) hv)
theorem zfb1 (a0:Int) (Q:(Int→(Hp→Prop))) (h:Hp):funW ⟨Tryz.prog,tb,ztv⟩ Tryz.f144 zft1 [(shInt .u64).enc a0] (Q) h=zmr Tryz.prog a0 Q h:=by kernel_rfl
theorem zbn1 {a0:Int} {Q:(Int→(Hp→Prop))} {h:Hp} (hv:zmr Tryz.prog a0 Q h):CallT Tryz.prog zfj [(shInt .u64).enc a0] (shInt .i64) Q h:=
 show CallT Tryz.prog zfj [(shInt .u64).enc a0] (shRes tb [34]) (Q) h from zaa (C:=⟨Tryz.prog,tb,ztv⟩) tb_ok Tryz.func144 rfl (Eq.mpr (zfb1 a0 Q h) hv)
theorem zob1 (x:S_api_Ins) (e:Int) (Q:(Int→(Hp→Prop))) (h:Hp):funW ⟨Tryz.prog,tb,zhu1⟩ Tryz.f145 zqb1 [(sh_api_Ins).enc x,(shInt .i64).enc e] (Q) h=zsi Tryz.prog x e Q h:=by kernel_rfl
theorem zkw1 {x:S_api_Ins} {e:Int} {Q:(Int→(Hp→Prop))} {h:Hp} (hv:zsi Tryz.prog x e Q h):CallT Tryz.prog zyf [(sh_api_Ins).enc x,(shInt .i64).enc e] (shInt .i64) Q h:=
 show CallT Tryz.prog zyf [(sh_api_Ins).enc x,(shInt .i64).enc e] (shRes tb [3]) (Q) h from zaa (C:=⟨Tryz.prog,tb,zhu1⟩) tb_ok Tryz.func145 rfl (Eq.mpr (zob1 x e Q h) hv)
theorem zoc1 (op:Int) (Q:(ByteArray→(Hp→Prop))) (h:Hp):funW ⟨Tryz.prog,tb,zhv1⟩ Tryz.f146 zqc1 [(shInt .i64).enc op] (Q) h=zsj Tryz.prog op Q h:=by kernel_rfl
theorem zkx1 {op:Int} {Q:(ByteArray→(Hp→Prop))} {h:Hp} (hv:zsj Tryz.prog op Q h):CallT Tryz.prog zyg [(shInt .i64).enc op] (shStr) Q h:=
 show CallT Tryz.prog zyg [(shInt .i64).enc op] (shRes tb [9]) (Q) h from zaa (C:=⟨Tryz.prog,tb,zhv1⟩) tb_ok Tryz.func146 rfl (Eq.mpr (zoc1 op Q h) hv)
theorem zky1 (field:ByteArray) (a1:Addr) (Q:(Bool→(Hp→Prop))) (h:Hp):funW ⟨Tryz.prog,tb,zca1⟩ Tryz.f147 zlq1 [(shStr).enc field,.pointer (some a1)] (Q) h=ztj Tryz.prog field a1 Q h:=by kernel_rfl
theorem zij1 {field:ByteArray} {a1:Addr} {Q:(Bool→(Hp→Prop))} {h:Hp} (hv:ztj Tryz.prog field a1 Q h):CallT Tryz.prog zti [(shStr).enc field,.pointer (some a1)] (zaf) Q h:=
 show CallT Tryz.prog zti [(shStr).enc field,.pointer (some a1)] (shRes tb [4]) (Q) h from zaa (C:=⟨Tryz.prog,tb,zca1⟩) tb_ok Tryz.func147 rfl (Eq.mpr (zky1 field a1 Q h) hv)
end Lf



namespace Lf
open Go
def Rw {α:Type} (h:Hp) (sz:Nat) (enc:α→List Value) (l:Sl) (xs:List α):Prop:=
  l.len=xs.length∧zje1 h l.base (xs.length*sz) (xs.flatMap enc)
section
variable {α:Type} {h h':Hp} {sz:Nat} {enc:α→List Value} {l:Sl} {xs:List α}
theorem zpb1 (hl:h≤h') {a:Addr} {v:Value} (e:hcell h a=some v):hcell h' a=some v:=by
  unfold hcell at e ⊢
  split at e
  · rename_i c t f hb
    rw [hl _ _ hb]
    exact e
  · cases e
theorem zhy (hl:h≤h') {a:Addr} {cs:List Value} (e:LdIs h a cs):LdIs h' a cs:=fun i v hv=>zpb1 hl (e i v hv)
theorem Rw.mono (hl:h≤h') (r:Rw h sz enc l xs):Rw h' sz enc l xs:=by
  obtain ⟨h1,h2,h3⟩:=r
  refine ⟨h1,h2,h3.imp id ?_⟩
  rintro ⟨a,ha,hc⟩
  exact ⟨a,ha,zhy hl hc⟩
theorem zxq1 (henc:∀x,(enc x).length=sz):∀(xs:List α) (i:Nat) (x:α),xs[i]?=some x→∀j v,(enc x)[j]?=some v→(xs.flatMap enc)[i*sz+j]?=some v
  | [],i,x,hx,_,_,_=>by simp at hx
  | y::xs,0,x,hx,j,v,hv=>by
    simp at hx
    subst hx
    have hj:j<(enc y).length:=(List.getElem?_eq_some_iff.1 hv).1
    simp only [List.flatMap_cons,Nat.zero_mul,Nat.zero_add]
    rw [List.getElem?_append_left hj]
    exact hv
  | y::xs,i+1,x,hx,j,v,hv=>by
    have:=zxq1 henc xs i x (by simpa using hx) j v hv
    simp only [List.flatMap_cons]
    have e:(i+1)*sz+j=sz+(i*sz+j):=by rw [Nat.add_mul];omega
    rw [List.getElem?_append_right (by rw [henc,e];omega),henc,e,Nat.add_sub_cancel_left]
    exact this
theorem zbw2 (henc:∀x,(enc x).length=sz):∀(xs:List α) (i:Nat) (v:Value),(xs.flatMap enc)[i]?=some v→∃q x j,xs[q]?=some x∧(enc x)[j]?=some v∧i=q*sz+j
  | [],i,v,hv=>by simp at hv
  | y::xs,i,v,hv=>by
    simp only [List.flatMap_cons] at hv
    by_cases hi:i<(enc y).length
    · rw [List.getElem?_append_left hi] at hv
      exact ⟨0,y,i,rfl,hv,by simp⟩
    · rw [List.getElem?_append_right (by omega)] at hv
      obtain ⟨q,x,j,h1,h2,h3⟩:=zbw2 henc xs _ v hv
      rw [henc] at h3 hi
      exact ⟨q+1,x,j,by simpa using h1,h2,by rw [Nat.add_mul];omega⟩
theorem Rw.read (r:Rw h sz enc l xs) (henc:∀x,(enc x).length=sz) (hsz:0<sz) {i:Int} (h0:0≤i) (h1:i<(l.len:Int)):
    InB l.base l.len i∧∃x,xs[i.toNat]?=some x∧LdIs h (sat l.base sz i) (enc x):=by
  obtain ⟨h2,h3,h4⟩:=r
  have hi:i.toNat<xs.length:=by omega
  have hne:xs.length*sz≠0:=by
    have:0<xs.length:=by omega
    exact Nat.ne_of_gt (Nat.mul_pos this hsz)
  obtain ⟨a,ha,hc⟩:=h4.resolve_left hne
  refine ⟨⟨by simp [ha],h0,h1⟩,xs[i.toNat],by simp [hi],fun j v hv=> ?_⟩
  have:=hc (i.toNat*sz+j) v (zxq1 henc xs i.toNat _ (by simp [hi]) j v hv)
  unfold sat
  rw [ha,Option.getD_some,zcb1]
  exact this
def Own (h0 h:Hp) (sz:Nat) (enc:α→List Value) (l:Sl) (xs:List α):Prop:=
  l.len=xs.length∧l.len≤l.cap∧((l.base=none∧l.cap=0)∨
    ∃(b:Nat) (cs:List Value) (t:Nat),l.base=some ⟨b,0,none⟩∧h b=some (.cells cs.toArray t (0,0))∧cs.length=l.cap*sz∧cs.take (l.len*sz)=xs.flatMap enc∧h0 b=none)
theorem zbq (henc:∀x,(enc x).length=sz):∀xs:List α,(xs.flatMap enc).length=xs.length*sz
  | []=>by simp
  | x::xs=>by
    simp only [List.flatMap_cons,List.length_append,henc,zbq henc xs,List.length_cons,Nat.add_mul,Nat.one_mul]
    omega
theorem zvc1 (hok:∀x,zdu (enc x)=true):∀xs:List α,zdu (xs.flatMap enc)=true:=by
  have app:∀a b:List Value,zdu a=true→zdu b=true→zdu (a++b)=true:=by
    intro a b ha hb
    induction a with
    | nil=>exact hb
    | cons v a ih=>cases v<;>first | (exact ih ha) | (cases ha)
  intro xs
  induction xs with
  | nil=>rfl
  | cons x xs ih=>exact app _ _ (hok x) ih
theorem zqn {b:Nat} {cs:List Value} {t:Nat} (e:h b=some (.cells cs.toArray t (0,0))) (i:Nat):hcell h ⟨b,i,none⟩=cs[i]?:=by
  unfold hcell
  simp [e]
theorem Own.rw {h0:Hp} (o:Own h0 h sz enc l xs) (henc:∀x,(enc x).length=sz):Rw h sz enc l xs:=by
  obtain ⟨h1,h2,h3⟩:=o
  refine ⟨h1,zbq henc xs,?_⟩
  rcases h3 with ⟨e,ec⟩ | ⟨b,cs,t,e,hb,hl,ht,_⟩
  · left
    have:xs.length=0:=by omega
    rw [this,Nat.zero_mul]
  · right
    refine ⟨_,e,fun j v hv=> ?_⟩
    rw [zec,zqn hb,Nat.zero_add]
    rw [←ht,List.getElem?_take] at hv
    split at hv
    · exact hv
    · cases hv
theorem Own.mono {h0:Hp} (hl:h≤h') (o:Own h0 h sz enc l xs):Own h0 h' sz enc l xs:=by
  obtain ⟨h1,h2,h3⟩:=o
  refine ⟨h1,h2,h3.imp id ?_⟩
  rintro ⟨b,cs,t,e1,e2,e3⟩
  exact ⟨b,cs,t,e1,hl _ _ e2,e3⟩
theorem zqs1 {h0:Hp} {zero:List Value} {bytes:Nat} {x:Sl} {ys:List α} {K:Sl→Hp→Prop} (hw:h0≤h) (o:Own h0 h sz enc l xs) (r:Rw h sz enc x ys) (henc:∀x,(enc x).length=sz) (hok:∀x,zdu (enc x)=true)
    (hz:zero.length=sz) (hb:xs.length+ys.length≤140737488355328∧(xs.length+ys.length)*bytes≤140737488355328)
    (hk:∀l' h',h0≤h'→Own h0 h' sz enc l' (xs++ys)→(∀b ob,h b=some ob→(∀a,l.base=some a→a.block≠b)→h' b=some ob)→K l' h'):zas sz bytes zero l x K h:=by
  have hrw:=o.rw henc
  obtain ⟨h1,h2,h3⟩:=o
  obtain ⟨hx1,hx2⟩:=r
  refine ⟨ys.flatMap enc,by rw [hx1];exact hx2,xs.flatMap enc,by rw [h1];exact hrw.2,by rw [h1,hx1];exact hb,zvc1 hok ys,fun hcap=> ?_,fun hcap c b t hc hbn=> ?_⟩
  · rcases h3 with ⟨e,ec⟩ | ⟨b,cs,t,e,hbk,hl,ht,hn⟩
    · -- nothing is put
      have e1:ys.length=0:=by omega
      have e2:ys=[]:=List.length_eq_zero_iff.1 e1
      subst e2
      refine ⟨fun a ha=>(by rw [e] at ha;cases ha),?_⟩
      have e3:putO h l.base (l.len*sz) (([]:List α).flatMap enc)=h:=by rw [e];rfl
      rw [e3,hx1]
      refine hk _ h hw ⟨by simp [h1],by simpa using h2,.inl ⟨e,ec⟩⟩ fun _ _ e _=>e
    · have hle:l.len*sz+(ys.flatMap enc).length≤cs.length:=by
        rw [hl,zbq henc,←Nat.add_mul]
        exact Nat.mul_le_mul_right sz (by omega)
      obtain ⟨p1,p2⟩:=zhz1 b t (ys.flatMap enc) h 0 (l.len*sz) cs (by simpa using hle) hbk
      have hst:∀(k:Nat),l.len*sz+k≤cs.length→StOk h (⟨b,l.len*sz,none⟩:Addr) k:=by
        intro k
        induction k with
        | zero=>intro _;trivial
        | succ k ih=>
          intro hk'
          refine ⟨ih (by omega),⟨cs[l.len*sz+k]'(by omega),?_⟩,?_⟩
          · rw [zec,zqn hbk]
            simp
          · rw [zec]
            unfold hfroz
            simp [hbk]
      refine ⟨fun a ha=> ?_,?_⟩
      · rw [e] at ha;cases ha
        rw [zec,Nat.zero_add]
        refine hst _ ?_
        rw [hx1,←zbq henc ys]
        exact hle
      · have e3:putO h l.base (l.len*sz) (ys.flatMap enc)=putL h ⟨b,l.len*sz,none⟩ (ys.flatMap enc) 0:=by
          rw [e]
          simp only [putO,zec,Nat.zero_add]
        rw [e3]
        rw [Nat.add_zero] at p1
        refine hk _ _ (fun b' ob eb=> ?_) ⟨by simp [h1,hx1],hcap,.inr ⟨b,_,t,e,p1,?_,?_,hn⟩⟩ fun b' ob eb hne=> ?_
        · have hne:b'≠b:=fun e'=>by rw [e',hn] at eb;cases eb
          rw [p2 b' hne]
          exact hw _ _ eb
        · rw [zul1 _ _ _ hle,hl]
        · rw [zyw _ _ _ hle]
          have e4:(l.len+x.len)*sz=(cs.take (l.len*sz)++ys.flatMap enc).length:=by
            rw [List.length_append,ht,zbq henc,zbq henc,h1,hx1,Nat.add_mul]
          rw [e4,List.take_left,ht,List.flatMap_append]
        · rw [p2 b' fun e'=>hne _ e e'.symm]
          exact eb
  · have hh:∀b' ob,h b'=some ob→(h.set b (.cells (xs.flatMap enc++ys.flatMap enc++zbs zero (c-(l.len+x.len))).toArray t (0,0))) b'=some ob:=fun b' ob eb=>by
      have hne:b'≠b:=fun e'=>by rw [e',hbn] at eb;cases eb
      simp [Hp.set,hne,eb]
    refine hk _ _ (fun b' ob eb=>hh b' ob (hw _ _ eb)) ⟨by simp [h1,hx1],hc,.inr ⟨b,xs.flatMap enc++ys.flatMap enc++zbs zero (c-(l.len+x.len)),t,rfl,by simp [Hp.set],?_,?_,?_⟩⟩ fun b' ob eb _=>hh b' ob eb
    · have hzl:∀k,(zbs zero k).length=k*sz:=fun k=>by simp [zbs,hz]
      rw [List.length_append,List.length_append,zbq henc,zbq henc,hzl,←Nat.add_mul,←Nat.add_mul]
      show _=c*sz
      congr 1
      omega
    · have e4:(l.len+x.len)*sz=(xs.flatMap enc++ys.flatMap enc).length:=by
        rw [List.length_append,zbq henc,zbq henc,h1,hx1,Nat.add_mul]
      show List.take ((l.len+x.len)*sz) _=_
      rw [e4,List.take_left,List.flatMap_append]
    · cases e0:h0 b with
      | none=>rfl
      | some ob=>rw [hw _ _ e0] at hbn;cases hbn
end
abbrev Rs (h:Hp) (sh:Shape) (sz:Nat) (l:Sl) (xs:List sh.T):Prop:=Rw h sz (fun x=>zae (sh.enc x)) l xs
section
variable {h h':Hp} {sh:Shape} {sz:Nat} {l:Sl} {xs:List sh.T} {K:sh.T→Prop} {i:Int}
theorem Rs.get (r:Rs h sh sz l xs) (henc:∀x,(zae (sh.enc x)).length=sz) (hsz:0<sz) (h0:0≤i) (h1:i<(xs.length:Int)) (hk:∀x,xs[i.toNat]?=some x→K x):
    InB l.base l.len i∧LdW none sh h (sat l.base sz i) K:=by
  obtain ⟨e1,x,hx,hl⟩:=Rw.read r henc hsz h0 (by rw [r.1];exact h1)
  exact ⟨e1,x,hl,hk x hx⟩
theorem Rs.getC {c:Bool} (r:Rs h sh sz l xs) (x0:sh.T) (henc:∀x,(zae (sh.enc x)).length=sz) (hsz:0<sz) (h0:c=true→0≤i∧i<(xs.length:Int)) (hk:∀x,(c=true→xs[i.toNat]?=some x)→K x):
    (c=true→InB l.base l.len i)∧LdW (some c) sh h (sat l.base sz i) K:=by
  cases c with
  | false=>exact ⟨fun e=>(by cases e),x0,fun e=>(by cases e),hk x0 fun e=>(by cases e)⟩
  | true=>
    obtain ⟨e1,x,hx,hl⟩:=Rw.read r henc hsz (h0 rfl).1 (by rw [r.1];exact (h0 rfl).2)
    exact ⟨fun _=>e1,x,fun _=>hl,hk x fun _=>hx⟩
theorem ld_at {a:Addr} (x:sh.T) (hl:LdIs h a (zae (sh.enc x))) (hk:K x):LdW none sh h a K:=⟨x,hl,hk⟩
theorem letW {α:Type} {x:α} {K:α→Prop} (hk:K x):LetW x K:=fun _ e=>e▸hk
theorem zak {n:Int} (h0: -9223372036854775808≤n) (h1:n<9223372036854775808):IntKind.wrap .i64 n=n:=by
  unfold IntKind.wrap
  simp only [IntKind.signed,IntKind.bits]
  first | omega | (simp;omega)
end
theorem zjn1 {α:Type} {h0 h:Hp} {sz:Nat} {enc:α→List Value} {cs:List Value} {xs:List α} {K:Addr→Hp→Prop} (hw:h0≤h) (hc:cs=xs.flatMap enc) (henc:∀x,(enc x).length=sz)
    (hk:∀a h',h≤h'→Own h0 h' sz enc ⟨some a,xs.length,xs.length⟩ xs→K a h'):NewW cs K h:=by
  intro b t hb
  have hle:h≤h.set b (.cells cs.toArray t (0,0)):=fun b' o e=>by
    have hne:b'≠b:=fun e'=>by rw [e',hb] at e;cases e
    simp [Hp.set,hne,e]
  refine hk _ _ hle ⟨rfl,Nat.le_refl _,.inr ⟨b,cs,t,rfl,by simp [Hp.set],?_,?_,?_⟩⟩
  · rw [hc,zbq henc]
  · have:(xs.length*sz)=(xs.flatMap enc).length:=(zbq henc xs).symm
    show List.take (xs.length*sz) cs=_
    rw [this,hc,List.take_length]
  · cases e0:h0 b with
    | none=>rfl
    | some ob=>rw [hw _ _ e0] at hb;cases hb
end Lf

namespace Lf
open Go
def CKeep (h h':Hp):Prop:=∀a v,hcell h a=some v→hcell h' a=some v
theorem CKeep.of_le {h h':Hp} (hl:h≤h'):CKeep h h':=fun _ _ e=>zpb1 hl e
theorem zbx2 {h h':Hp} (hl:CKeep h h') {a:Addr} {cs:List Value} (e:LdIs h a cs):LdIs h' a cs:=fun i v hv=>hl _ _ (e i v hv)
theorem Rw.ck {α:Type} {h h':Hp} {sz:Nat} {enc:α→List Value} {l:Sl} {xs:List α} (hl:CKeep h h') (r:Rw h sz enc l xs):Rw h' sz enc l xs:=by
  obtain ⟨h1,h2,h3⟩:=r
  refine ⟨h1,h2,h3.imp id ?_⟩
  rintro ⟨a,ha,hc⟩
  exact ⟨a,ha,zbx2 hl hc⟩
theorem zic2 {h:Hp} {m:Nat} {o o':Obj} (e:h m=some o) (hc:zfh1 o=false):CKeep h (h.set m o'):=by
  intro a v hv
  obtain ⟨c,t,fr,hb,hsp,hg⟩:=zpd hv
  have hne:a.block≠m:=fun e'=>by rw [e',e] at hb;cases hb;cases hc
  unfold hcell at hv ⊢
  have:(h.set m o') a.block=h a.block:=by simp [Hp.set,hne]
  rw [this]
  exact hv
theorem zqx {h:Hp} {b:Nat} {o:Obj} (hn:h b=none):h≤h.set b o:=fun b' o' e=>by
  have hne:b'≠b:=fun e'=>by rw [e',hn] at e;cases e
  simp [Hp.set,hne,e]
theorem zla {h:Hp} {b:Nat} {o:Obj}:(h.set b o) b=some o:=by simp [Hp.set]
theorem zev2 {h h0:Hp} {b:Nat} {o:Obj} (hl:h0≤h) (hn:h0 b=none):h0≤h.set b o:=fun b' o' e=>by
  have hne:b'≠b:=fun e'=>by rw [e',hn] at e;cases e
  simp only [Hp.set,hne,if_false]
  exact hl _ _ e
theorem zbk {h0 h:Hp} {b:Nat} (hl:h0≤h) (hn:h b=none):h0 b=none:=by
  cases e:h0 b with
  | none=>rfl
  | some o=>rw [hl _ _ e] at hn;cases hn
theorem zqt1 {h:Hp} {b t:Nat} {cs:List Value}:LdIs (h.set b (.cells cs.toArray t (0,0))) ⟨b,0,none⟩ cs:=fun i v hv=>by
  rw [zec,zqn zla,Nat.zero_add]
  exact hv
theorem zab {p:Addr} {c:Option Bool} {K:Addr→Prop} (hk:K p):NilW c (some p) K:=by
  refine ⟨p,?_,hk⟩
  cases c with
  | none=>rfl
  | some b=>exact fun _=>rfl
theorem zew2 {P:Program} {t:Nat} {d:TypeDesc} (hu:P.underlying t=some d) {K:TypeDesc→Hp→Prop} {h:Hp} (hk:K d h):semW P (underlying t) K h:=by
  show semW P (match P.underlying t with
    | some d=>Sem.pure d
    | none=>_) K h
  rw [hu]
  exact hk
theorem zqu1 {P:Program} {s:Sem Value} {h:Hp} {v:Value} (hi:semW P s (fun u h'=>u=v∧h'=h) h):SemIs P s h v:=by
  intro w hs
  obtain ⟨a,w',h',hr,⟨ha,hh⟩,hst⟩:=zwu s hs hi
  subst ha;subst hh
  exact ⟨w',hr,hst⟩
theorem zkb1 {P:Program} {s:Sem Value} {h:Hp} {v:Value} (hi:∀w,s.run P w=.ok v w):SemIs P s h v:=fun w hs=>⟨w,hi w,.refl hs⟩
theorem zmi1 {P:Program} {t e:Nat} {x y:Operand} {h:Hp} (hu:P.underlying t=some (.slice e)) (s:Sl):SemIs P (binS .eql t x y s.v (.slice none 0 0)) h (.bool s.base.isNone):=by
  have key:∀d,semW P (Op.equalIn (d+1) t s.v (.slice none 0 0)) (fun u h'=>u=s.base.isNone∧h'=h) h:=by
    intro d
    unfold Op.equalIn
    refine (zrr1 _ _).2 (zew2 hu ?_)
    cases hb:s.base with
    | none=>simp only [Sl.v,hb];exact ⟨rfl,rfl⟩
    | some a=>simp only [Sl.v,hb];exact ⟨rfl,rfl⟩
  refine zqu1 ?_
  show semW P (Sem.bind (Op.equal t s.v (.slice none 0 0)) fun b=>Sem.pure (Value.bool b)) _ h
  refine (zrr1 _ _).2 (zag2 _ (fun a k hk=> ?_) (key 9999))
  obtain ⟨rfl,rfl⟩:=hk
  exact ⟨rfl,rfl⟩
end Lf

namespace Lf
open Go
theorem zsq1 {h:Hp} {a:Addr} {cs:List Value} (e:LdIs h a cs) (n:Nat):LdIs h (a.add n) (cs.drop n):=fun i v hv=>by
  rw [zcb1]
  exact e (n+i) v (by simpa [List.getElem?_drop] using hv)
theorem zdd1 {α:Type} {sz:Nat} {enc:α→List Value} (henc:∀x,(enc x).length=sz):∀(xs:List α) (n:Nat),(xs.drop n).flatMap enc=(xs.flatMap enc).drop (n*sz)
  | [],n=>by simp
  | x::xs,0=>by simp
  | x::xs,n+1=>by
    simp only [List.drop_succ_cons,List.flatMap_cons]
    have e:(enc x).drop (n*sz+sz)=[]:=List.drop_eq_nil_of_le (by rw [henc];omega)
    rw [zdd1 henc xs n,Nat.add_mul,Nat.one_mul,List.drop_append,henc,e,List.nil_append,Nat.add_sub_cancel]
theorem zik1 {α:Type} {sz:Nat} {enc:α→List Value} (henc:∀x,(enc x).length=sz):∀(xs:List α) (n:Nat),(xs.take n).flatMap enc=(xs.flatMap enc).take (n*sz)
  | [],n=>by simp
  | x::xs,0=>by simp
  | x::xs,n+1=>by
    simp only [List.take_succ_cons,List.flatMap_cons]
    have e:(enc x).take (n*sz+sz)=enc x:=List.take_of_length_le (by rw [henc];omega)
    rw [zik1 henc xs n,Nat.add_mul,Nat.one_mul,List.take_append,henc,e,Nat.add_sub_cancel]
theorem Rw.cut {α:Type} {h:Hp} {sz:Nat} {enc:α→List Value} {l:Sl} {xs:List α} (r:Rw h sz enc l xs) (henc:∀x,(enc x).length=sz) {a b c n m:Nat} (hab:a≤b) (hb:b≤xs.length) (hc:b≤c) (hn:n=b-a):
    Rw h sz enc ⟨sbase l.base sz a c,n,m⟩ ((xs.drop a).take (b-a)):=by
  obtain ⟨h1,h2,h3⟩:=r
  have hlen:((xs.drop a).take (b-a)).length=b-a:=by rw [List.length_take,List.length_drop];omega
  refine ⟨hn.trans hlen.symm,zbq henc _,?_⟩
  rw [hlen]
  by_cases h0:(b-a)*sz=0
  · exact .inl h0
  · right
    have hba:b-a≠0:=fun e=>h0 (by rw [e,Nat.zero_mul])
    have hsz:sz≠0:=fun e=>h0 (by rw [e,Nat.mul_zero])
    have hx:xs.length*sz≠0:=Nat.mul_ne_zero (by omega) hsz
    obtain ⟨p,hp,hl⟩:=h3.resolve_left hx
    refine ⟨p.add (a*sz),?_,fun i v hv=> ?_⟩
    · unfold sbase
      rw [if_neg (show ¬c=a by omega),hp]
      rfl
    · rw [zik1 henc,zdd1 henc,List.getElem?_take] at hv
      split at hv
      · exact zsq1 hl (a*sz) i v hv
      · cases hv
end Lf

namespace Lf
open Go
structure Mv (F:List Nat) (h:Hp) (F':List Nat) (h':Hp):Prop where
  keep:∀b o,h b=some o→b∉F→h' b=some o
  from_:∀b∈F',b∈F∨h b=none
theorem Mv.refl (F:List Nat) (h:Hp):Mv F h F h:=⟨fun _ _ e _=>e,fun _ e=>.inl e⟩
theorem Mv.trans {F F' F'':List Nat} {h h' h'':Hp} (a:Mv F h F' h') (b:Mv F' h' F'' h''):Mv F h F'' h'':=by
  refine ⟨fun i o e hn=>b.keep i o (a.keep i o e hn) fun hf=> ?_,fun i hi=> ?_⟩
  · rcases a.from_ i hf with h1 | h1
    · exact hn h1
    · rw [h1] at e;cases e
  · rcases b.from_ i hi with h1 | h1
    · exact a.from_ i h1
    · cases e:h i with
      | none=>exact .inr rfl
      | some o=>
        left
        refine Classical.byContradiction fun hn=> ?_
        rw [a.keep i o e hn] at h1;cases h1
theorem Mv.of_le {h h':Hp} (F:List Nat) (hl:h≤h'):Mv F h F h':=⟨fun b o e _=>hl b o e,fun _ e=>.inl e⟩
theorem Mv.le {F F':List Nat} {h0 h h':Hp} (a:Mv F h F' h') (hl:h0≤h) (hf:∀b∈F,h0 b=none):h0≤h'∧∀b∈F',h0 b=none:=by
  refine ⟨fun b o e=>a.keep b o (hl b o e) fun hb=>(by rw [hf b hb] at e;cases e),fun b hb=> ?_⟩
  rcases a.from_ b hb with h1 | h1
  · exact hf b h1
  · exact zbk hl h1
theorem Mv.wide {F F':List Nat} {h h':Hp} (a:Mv F h F' h') (G:List Nat):Mv (F++G) h (F'++G) h':=
  ⟨fun b o e hn=>a.keep b o e fun hb=>hn (List.mem_append_left _ hb),fun b hb=>by
    rcases List.mem_append.1 hb with hb | hb
    · rcases a.from_ b hb with h1 | h1
      · exact .inl (List.mem_append_left _ h1)
      · exact .inr h1
    · exact .inl (List.mem_append_right _ hb)⟩
theorem Mv.sub {F F' G G':List Nat} {h h':Hp} (a:Mv F h F' h') (h1:∀b∈F,b∈G) (h2:∀b∈G',b∈F'∨b∈G∨h b=none):Mv G h G' h':=
  ⟨fun b o e hn=>a.keep b o e fun hb=>hn (h1 b hb),fun b hb=>by
    rcases h2 b hb with h3 | h3
    · rcases a.from_ b h3 with h4 | h4
      · exact .inl (h1 b h4)
      · exact .inr h4
    · exact h3⟩
theorem Mv.set {h:Hp} {b:Nat} {o:Obj}:Mv [b] h [b] (h.set b o):=by
  refine ⟨fun i x e hn=> ?_,fun i hi=>.inl hi⟩
  have hne:i≠b:=fun e'=>hn (by rw [e'];exact List.mem_singleton.2 rfl)
  simp only [Hp.set,hne,if_false]
  exact e
theorem Mv.new {h:Hp} {b:Nat} {o:Obj} (hn:h b=none):Mv [] h [b] (h.set b o):=
  ⟨fun i x e _=>zqx hn i x e,fun i hi=>.inr (by rw [List.mem_singleton.1 hi];exact hn)⟩
def Blk (h:Hp) (b:Nat) (cs:List Value):Prop:=∃t,h b=some (.cells cs.toArray t (0,0))
theorem Blk.mv {F F':List Nat} {h h':Hp} {b:Nat} {cs:List Value} (k:Blk h b cs) (a:Mv F h F' h') (hn:b∉F):Blk h' b cs:=by
  obtain ⟨t,e⟩:=k
  exact ⟨t,a.keep b _ e hn⟩
theorem Blk.le {h h':Hp} {b:Nat} {cs:List Value} (k:Blk h b cs) (hl:h≤h'):Blk h' b cs:=by
  obtain ⟨t,e⟩:=k
  exact ⟨t,hl _ _ e⟩
theorem Blk.known {h:Hp} {b:Nat} {cs:List Value} (k:Blk h b cs):h b≠none:=by
  obtain ⟨t,e⟩:=k
  rw [e];simp
def at_ (b off:Nat):Addr:=⟨b,off,none⟩
theorem Blk.ldIs {h:Hp} {b:Nat} {cs:List Value} (k:Blk h b cs) {off n:Nat} {vs:List Value} (e:(cs.drop off).take n=vs):LdIs h ⟨b,off,none⟩ vs:=by
  obtain ⟨t,hb⟩:=k
  intro i v hv
  rw [zec,zqn hb]
  rw [←e,List.getElem?_take] at hv
  split at hv
  · rw [List.getElem?_drop] at hv
    exact hv
  · cases hv
theorem Blk.stOk {h:Hp} {b:Nat} {cs:List Value} (k:Blk h b cs) {off:Nat}:∀n,off+n≤cs.length→StOk h ⟨b,off,none⟩ n
  | 0,_=>trivial
  | n+1,hn=>by
    obtain ⟨t,hb⟩:=k
    refine ⟨Blk.stOk ⟨t,hb⟩ n (by omega),⟨cs[off+n]'(by omega),?_⟩,?_⟩
    · rw [zec,zqn hb]
      simp
    · rw [zec]
      unfold hfroz
      simp [hb]
theorem Blk.put {h:Hp} {b:Nat} {cs new:List Value} (k:Blk h b cs) {off:Nat} (hl:off+new.length≤cs.length):
    Blk (putL h ⟨b,off,none⟩ new 0) b (cs.take off++new++cs.drop (off+new.length))∧∀b',b'≠b→(putL h ⟨b,off,none⟩ new 0) b'=h b':=by
  obtain ⟨t,hb⟩:=k
  obtain ⟨p1,p2⟩:=zhz1 b t new h 0 off cs (by simpa using hl) hb
  rw [Nat.add_zero,zyw _ _ _ hl] at p1
  exact ⟨⟨t,p1⟩,p2⟩
theorem Mv.of_other {h h':Hp} {b:Nat} (ho:∀b',b'≠b→h' b'=h b'):Mv [b] h [b] h':=
  ⟨fun i o e hn=>by rw [ho i fun e'=>hn (by rw [e'];exact List.mem_singleton.2 rfl)];exact e,fun i hi=>.inl hi⟩
theorem zeo {h:Hp} {b:Nat} {cs new:List Value} {off:Nat} {K:Hp→Prop} (k:Blk h b cs) (hl:off+new.length≤cs.length)
    (hk:∀h',Mv [b] h [b] h'→Blk h' b (cs.take off++new++cs.drop (off+new.length))→K h'):StW h ⟨b,off,none⟩ new K:=by
  obtain ⟨p1,p2⟩:=k.put hl
  exact ⟨k.stOk _ hl,hk _ (Mv.of_other p2) p1⟩
section
variable {α:Type} {h:Hp} {sz:Nat} {enc:α→List Value} {l:Sl} {xs:List α}
def OwnF (h:Hp) (sz:Nat) (enc:α→List Value) (l:Sl) (xs:List α) (F:List Nat):Prop:=
  l.len=xs.length∧l.len≤l.cap∧((l.base=none∧l.cap=0∧F=[])∨
    ∃(b:Nat) (cs:List Value),l.base=some ⟨b,0,none⟩∧F=[b]∧Blk h b cs∧cs.length=l.cap*sz∧cs.take (l.len*sz)=xs.flatMap enc)
theorem OwnF.own {F:List Nat} {h0:Hp} (o:OwnF h sz enc l xs F) (hf:∀b∈F,h0 b=none):Own h0 h sz enc l xs:=by
  obtain ⟨h1,h2,h3⟩:=o
  refine ⟨h1,h2,?_⟩
  rcases h3 with ⟨e1,e2,_⟩ | ⟨b,cs,e1,rfl,⟨t,e3⟩,e4,e5⟩
  · exact .inl ⟨e1,e2⟩
  · exact .inr ⟨b,cs,t,e1,e3,e4,e5,hf b (List.mem_singleton.2 rfl)⟩
theorem OwnF.rw {F:List Nat} (o:OwnF h sz enc l xs F) (henc:∀x,(enc x).length=sz):Rw h sz enc l xs:=(o.own (h0:=fun _=>none) fun _ _=>rfl).rw henc
theorem Own.ownF {h0:Hp} (o:Own h0 h sz enc l xs):∃F,OwnF h sz enc l xs F∧∀b∈F,h0 b=none:=by
  obtain ⟨h1,h2,h3⟩:=o
  rcases h3 with ⟨e1,e2⟩ | ⟨b,cs,t,e1,e3,e4,e5,e6⟩
  · exact ⟨[],⟨h1,h2,.inl ⟨e1,e2,rfl⟩⟩,fun b hb=>by cases hb⟩
  · exact ⟨[b],⟨h1,h2,.inr ⟨b,cs,e1,rfl,⟨t,e3⟩,e4,e5⟩⟩,fun b' hb=>by rw [List.mem_singleton.1 hb];exact e6⟩
theorem OwnF.known {F:List Nat} (o:OwnF h sz enc l xs F):∀b∈F,h b≠none:=by
  obtain ⟨_,_,h3⟩:=o
  rcases h3 with ⟨_,_,rfl⟩ | ⟨b,cs,_,rfl,e3,_,_⟩
  · intro b hb;cases hb
  · intro b' hb;rw [List.mem_singleton.1 hb];exact e3.known
theorem OwnF.same {F:List Nat} {h':Hp} (o:OwnF h sz enc l xs F) (hs:∀b∈F,h' b=h b):OwnF h' sz enc l xs F:=by
  obtain ⟨h1,h2,h3⟩:=o
  refine ⟨h1,h2,h3.imp id ?_⟩
  rintro ⟨b,cs,e1,rfl,⟨t,e3⟩,e4⟩
  exact ⟨b,cs,e1,rfl,⟨t,by rw [hs b (List.mem_singleton.2 rfl)];exact e3⟩,e4⟩
theorem OwnF.mv {F G G':List Nat} {h':Hp} (o:OwnF h sz enc l xs F) (a:Mv G h G' h') (hd:∀b∈F,b∉G):OwnF h' sz enc l xs F:=by
  obtain ⟨h1,h2,h3⟩:=o
  refine ⟨h1,h2,h3.imp id ?_⟩
  rintro ⟨b,cs,e1,rfl,e3,e4⟩
  exact ⟨b,cs,e1,rfl,e3.mv a (hd b (List.mem_singleton.2 rfl)),e4⟩
theorem newF {cs:List Value} {K:Addr→Hp→Prop} (hc:cs=xs.flatMap enc) (henc:∀x,(enc x).length=sz)
    (hk:∀b h',h b=none→h≤h'→Mv [] h [b] h'→OwnF h' sz enc ⟨some ⟨b,0,none⟩,xs.length,xs.length⟩ xs [b]→K ⟨b,0,none⟩ h'):NewW cs K h:=by
  intro b t hb
  refine hk b _ hb (zqx hb) (Mv.new hb) ⟨rfl,Nat.le_refl _,.inr ⟨b,cs,rfl,rfl,⟨t,zla⟩,?_,?_⟩⟩
  · rw [hc,zbq henc]
  · have:(xs.length*sz)=(xs.flatMap enc).length:=(zbq henc xs).symm
    show List.take (xs.length*sz) cs=_
    rw [this,hc,List.take_length]
theorem appF {F:List Nat} {zero:List Value} {bytes:Nat} {x:Sl} {ys:List α} {K:Sl→Hp→Prop} (o:OwnF h sz enc l xs F) (r:Rw h sz enc x ys) (henc:∀x,(enc x).length=sz) (hok:∀x,zdu (enc x)=true)
    (hz:zero.length=sz) (hb:xs.length+ys.length≤140737488355328∧(xs.length+ys.length)*bytes≤140737488355328)
    (hk:∀l' h' F',OwnF h' sz enc l' (xs++ys) F'→Mv F h F' h'→K l' h'):zas sz bytes zero l x K h:=by
  have hrw:=o.rw henc
  obtain ⟨h1,h2,h3⟩:=o
  obtain ⟨hx1,hx2⟩:=r
  refine ⟨ys.flatMap enc,by rw [hx1];exact hx2,xs.flatMap enc,by rw [h1];exact hrw.2,by rw [h1,hx1];exact hb,zvc1 hok ys,fun hcap=> ?_,fun hcap c b t hc hbn=> ?_⟩
  · rcases h3 with ⟨e,ec,rfl⟩ | ⟨b,cs,e,rfl,hbk,hl,ht⟩
    · have e1:ys.length=0:=by omega
      have e2:ys=[]:=List.length_eq_zero_iff.1 e1
      subst e2
      refine ⟨fun a ha=>(by rw [e] at ha;cases ha),?_⟩
      have e3:putO h l.base (l.len*sz) (([]:List α).flatMap enc)=h:=by rw [e];rfl
      rw [e3,hx1]
      exact hk _ h [] ⟨by simp [h1],by simpa using h2,.inl ⟨e,ec,rfl⟩⟩ (Mv.refl _ _)
    · have hle:l.len*sz+(ys.flatMap enc).length≤cs.length:=by
        rw [hl,zbq henc,←Nat.add_mul]
        exact Nat.mul_le_mul_right sz (by omega)
      obtain ⟨p1,p2⟩:=hbk.put hle
      refine ⟨fun a ha=> ?_,?_⟩
      · rw [e] at ha;cases ha
        rw [zec,Nat.zero_add]
        refine hbk.stOk _ ?_
        rw [hx1,←zbq henc ys]
        exact hle
      · have e3:putO h l.base (l.len*sz) (ys.flatMap enc)=putL h ⟨b,l.len*sz,none⟩ (ys.flatMap enc) 0:=by
          rw [e]
          simp only [putO,zec,Nat.zero_add]
        rw [e3]
        refine hk _ _ [b] ⟨by simp [h1,hx1],hcap,.inr ⟨b,_,e,rfl,p1,?_,?_⟩⟩ (Mv.of_other p2)
        · rw [←hl]
          simp only [List.length_append,List.length_take,List.length_drop]
          omega
        · have e4:(l.len+x.len)*sz=(cs.take (l.len*sz)++ys.flatMap enc).length:=by
            rw [List.length_append,ht,zbq henc,zbq henc,h1,hx1,Nat.add_mul]
          show List.take ((l.len+x.len)*sz) _=_
          rw [e4,List.take_left,ht,List.flatMap_append]
  · have hn:Mv F h [b] (h.set b (.cells (xs.flatMap enc++ys.flatMap enc++zbs zero (c-(l.len+x.len))).toArray t (0,0))):=
      (Mv.new hbn).sub (fun b hb=>by cases hb) fun b hb=>.inl hb
    refine hk _ _ [b] ⟨by simp [h1,hx1],hc,.inr ⟨b,xs.flatMap enc++ys.flatMap enc++zbs zero (c-(l.len+x.len)),rfl,rfl,⟨t,zla⟩,?_,?_⟩⟩ hn
    · rw [List.length_append,List.length_append,zbq henc,zbq henc,zdt1,hz,←Nat.add_mul,←Nat.add_mul]
      show _=c*sz
      congr 1
      omega
    · have e4:(l.len+x.len)*sz=(xs.flatMap enc++ys.flatMap enc).length:=by
        rw [List.length_append,zbq henc,zbq henc,h1,hx1,Nat.add_mul]
      show List.take ((l.len+x.len)*sz) _=_
      rw [e4,List.take_left,List.flatMap_append]
end
end Lf

namespace Lf
open Go
theorem zod {F F' E:List Nat} {k k':Hp} (m:Mv F k F' k') (hE:∀c∈E,k c≠none) (hd:∀c∈E,c∉F):∀c∈E,k' c=k c:=fun c hc=>by
  cases hk:k c with
  | none=>exact absurd hk (hE c hc)
  | some o=>exact m.keep c o hk (hd c hc)
theorem zha2 {F F' E:List Nat} {k k':Hp} (m:Mv F k F' k') (hE:∀c∈E,k c≠none) (hd:∀c∈E,c∉F):∀c∈E,c∉F':=fun c hc hf=>by
  rcases m.from_ c hf with h | h
  · exact hd c hc h
  · exact hE c hc h
theorem Mv.less {F F' E:List Nat} {h h':Hp} (a:Mv F h F' h') (hs:∀c∈E,c∈F'):Mv F h E h':=⟨a.keep,fun b hb=>a.from_ b (hs b hb)⟩
structure Regs (h k:Hp) (Rg:List (List Nat)):Prop where
  sep:∀(a b:Nat) E G,Rg[a]?=some E→Rg[b]?=some G→a≠b→∀c∈E,c∉G
  known:∀(a:Nat) E,Rg[a]?=some E→∀c∈E,k c≠none
  fresh:∀(a:Nat) E,Rg[a]?=some E→∀c∈E,h c=none
  le:h≤k
theorem Regs.grow {h k k':Hp} {Rg:List (List Nat)} (r:Regs h k Rg) (hl:k≤k'):Regs h k' Rg:=
  ⟨r.sep,fun a E hE c hc e=>r.known a E hE c hc (zbk hl e),r.fresh,Hp.le_trans r.le hl⟩
theorem Regs.step {h k k':Hp} {Rg:List (List Nat)} {j:Nat} {F F':List Nat} (r:Regs h k Rg) (hj:Rg[j]?=some F) (m:Mv F k F' k') (kn:∀c∈F',k' c≠none):Regs h k' (Rg.set j F'):=by
  have hjl:j<Rg.length:=(List.getElem?_eq_some_iff.1 hj).1
  have hget:∀a E,(Rg.set j F')[a]?=some E→(a=j∧E=F')∨(a≠j∧Rg[a]?=some E):=by
    intro a E hE
    rw [List.getElem?_set,if_pos hjl] at hE
    split at hE
    · rename_i e
      exact .inl ⟨e.symm,(Option.some.inj hE).symm⟩
    · rename_i e
      exact .inr ⟨fun e'=>e e'.symm,hE⟩
  have hdis:∀a E,a≠j→Rg[a]?=some E→∀c∈E,c∉F':=fun a E hne hE=>zha2 m (r.known a E hE) (r.sep a j E F hE hj hne)
  have hfr:∀c∈F',h c=none:=(m.le r.le (r.fresh j F hj)).2
  refine ⟨fun a b E G hE hG hab c hc hc'=> ?_,fun a E hE c hc=> ?_,fun a E hE c hc=> ?_,(m.le r.le (r.fresh j F hj)).1⟩
  · rcases hget a E hE with ⟨rfl,rfl⟩ | ⟨h1,h2⟩
    · rcases hget b G hG with ⟨rfl,rfl⟩ | ⟨h3,h4⟩
      · exact hab rfl
      · exact hdis b G h3 h4 c hc' hc
    · rcases hget b G hG with ⟨rfl,rfl⟩ | ⟨h3,h4⟩
      · exact hdis a E h1 h2 c hc hc'
      · exact r.sep a b E G h2 h4 hab c hc hc'
  · rcases hget a E hE with ⟨rfl,rfl⟩ | ⟨h1,h2⟩
    · exact kn c hc
    · have:=zod m (r.known a E h2) (r.sep a j E F h2 hj h1) c hc
      rw [this]
      exact r.known a E h2 c hc
  · rcases hget a E hE with ⟨rfl,rfl⟩ | ⟨h1,h2⟩
    · exact hfr c hc
    · exact r.fresh a E h2 c hc
theorem Regs.other {h k k':Hp} {Rg:List (List Nat)} {j a:Nat} {F F' E:List Nat} (r:Regs h k Rg) (hj:Rg[j]?=some F) (m:Mv F k F' k') (ha:Rg[a]?=some E) (hne:a≠j):∀c∈E,k' c=k c:=
  zod m (r.known a E ha) (r.sep a j E F ha hj hne)
theorem Regs.push {h k k':Hp} {Rg:List (List Nat)} {E:List Nat} (r:Regs h k Rg) (hl:k≤k') (hn:∀c∈E,k c=none) (kn:∀c∈E,k' c≠none):Regs h k' (Rg++ [E]):=by
  have hget:∀a G,(Rg++ [E])[a]?=some G→(a=Rg.length∧G=E)∨(a<Rg.length∧Rg[a]?=some G):=by
    intro a G hG
    by_cases h1:a<Rg.length
    · rw [List.getElem?_append_left h1] at hG
      exact .inr ⟨h1,hG⟩
    · rw [List.getElem?_append_right (by omega)] at hG
      have h2:a-Rg.length=0:=by
        have:=(List.getElem?_eq_some_iff.1 hG).1
        simp at this
        omega
      rw [h2] at hG
      exact .inl ⟨by omega,(Option.some.inj hG).symm⟩
  refine ⟨fun a b A B hA hB hab c hc hc'=> ?_,fun a A hA c hc=> ?_,fun a A hA c hc=> ?_,Hp.le_trans r.le hl⟩
  · rcases hget a A hA with ⟨rfl,rfl⟩ | ⟨h1,h2⟩
    · rcases hget b B hB with ⟨rfl,rfl⟩ | ⟨h3,h4⟩
      · exact hab rfl
      · exact r.known b B h4 c hc' (hn c hc)
    · rcases hget b B hB with ⟨rfl,rfl⟩ | ⟨h3,h4⟩
      · exact r.known a A h2 c hc (hn c hc')
      · exact r.sep a b A B h2 h4 hab c hc hc'
  · rcases hget a A hA with ⟨rfl,rfl⟩ | ⟨h1,h2⟩
    · exact kn c hc
    · exact fun e=>r.known a A h2 c hc (zbk hl e)
  · rcases hget a A hA with ⟨rfl,rfl⟩ | ⟨h1,h2⟩
    · exact zbk r.le (hn c hc)
    · exact r.fresh a A h2 c hc
end Lf

namespace Lf
open Go
section
variable {P:Program} {h:Hp}
end
end Lf

namespace Lf
open Go
section
variable {α:Type} {h:Hp} {sz:Nat} {enc:α→List Value} {l:Sl} {xs:List α}
theorem Rw.fld (r:Rw h sz enc l xs) (henc:∀x,(enc x).length=sz) (hsz:0<sz) {sh:Shape} (g:α→sh.T) {j:Nat} (hg:∀x,((enc x).drop j).take (zae (sh.enc (g x))).length=zae (sh.enc (g x))) {i:Int} (h0:0≤i) (h1:i<(xs.length:Int))
    {K:sh.T→Prop} (hk:∀x,xs[i.toNat]?=some x→K (g x)):InB l.base l.len i∧LdW none sh h ((sat l.base sz i).add j) K:=by
  obtain ⟨e1,x,hx,hl⟩:=r.read henc hsz h0 (by rw [r.1];exact h1)
  refine ⟨e1,g x,fun q v hv=> ?_,hk x hx⟩
  rw [zcb1]
  refine hl (j+q) v ?_
  rw [←hg x,List.getElem?_take] at hv
  split at hv
  · rw [List.getElem?_drop] at hv;exact hv
  · cases hv
theorem Rw.fldC (r:Rw h sz enc l xs) (henc:∀x,(enc x).length=sz) (hsz:0<sz) {sh:Shape} (g:α→sh.T) {j:Nat} (hg:∀x,((enc x).drop j).take (zae (sh.enc (g x))).length=zae (sh.enc (g x))) (x0:sh.T) {c:Bool} {i:Int} (h0:c=true→0≤i∧i<(xs.length:Int))
    {K:sh.T→Prop} (hk:∀y,(c=true→∃x,xs[i.toNat]?=some x∧y=g x)→K y):(c=true→InB l.base l.len i)∧LdW (some c) sh h ((sat l.base sz i).add j) K:=by
  cases c with
  | false=>exact ⟨fun e=>(by cases e),x0,fun e=>(by cases e),hk x0 fun e=>(by cases e)⟩
  | true=>
    obtain ⟨h0,h1⟩:=h0 rfl
    obtain ⟨e1,y,hy,hk'⟩:=r.fld henc hsz g hg h0 h1 (K:=fun y=>∃x,xs[i.toNat]?=some x∧y=g x) fun x hx=>⟨x,hx,rfl⟩
    exact ⟨fun _=>e1,y,fun _=>hy,hk y fun _=>hk'⟩
theorem Blk.rd {b:Nat} {cs new:List Value} (k:Blk h b cs) {off n:Nat} (hn:new.length=n) (e:(cs.drop off).take n=new):zje1 h (some ⟨b,off,none⟩) n new:=⟨hn,.inr ⟨_,rfl,k.ldIs e⟩⟩
theorem zsr1 {xs:List α} {i:Nat} (x:α) (hi:i<xs.length):xs.set i x=xs.take i++x::xs.drop (i+1):=by
  rw [List.set_eq_take_append_cons_drop,if_pos hi]
theorem OwnF.store {F:List Nat} (o:OwnF h sz enc l xs F) (henc:∀x,(enc x).length=sz) {i:Int} (h0:0≤i) (h1:i<(xs.length:Int)) (x:α) {K:Hp→Prop} (hk:∀h',OwnF h' sz enc l (xs.set i.toNat x) F→Mv F h F h'→K h'):
    InB l.base l.len i∧StW h (sat l.base sz i) (enc x) K:=by
  obtain ⟨o1,o2,o3⟩:=o
  rcases o3 with ⟨_,e2,_⟩ | ⟨b,cs,e1,rfl,kb,e4,e5⟩
  · omega
  · refine ⟨⟨by rw [e1];simp,h0,by omega⟩,?_⟩
    have hi:i.toNat<xs.length:=by omega
    have ha:sat l.base sz i=⟨b,i.toNat*sz,none⟩:=by unfold sat;rw [e1,Option.getD_some,zec,Nat.zero_add]
    rw [ha]
    have hmul:i.toNat*sz+sz≤l.len*sz:=by
      have:=Nat.mul_le_mul_right sz (show i.toNat+1≤l.len by omega)
      rw [Nat.add_mul,Nat.one_mul] at this
      exact this
    have hmul2:l.len*sz≤l.cap*sz:=Nat.mul_le_mul_right sz o2
    refine zeo kb (by rw [henc,e4];omega) fun h' m' k'=> ?_
    rw [henc] at k'
    refine hk h' ⟨by simp [o1],o2,.inr ⟨b,_,e1,rfl,k',?_,?_⟩⟩ m'
    · simp only [List.length_append,List.length_take,List.length_drop,henc,e4]
      omega
    · rw [zsr1 x hi]
      have t1:cs.take (i.toNat*sz)=(xs.take i.toNat).flatMap enc:=by
        rw [zik1 henc,←e5,List.take_take];congr 1;omega
      have t2:(cs.drop (i.toNat*sz+sz)).take (l.len*sz-(i.toNat*sz+sz))=(xs.drop (i.toNat+1)).flatMap enc:=by
        rw [zdd1 henc,←e5,Nat.add_mul,Nat.one_mul,List.drop_take]
      have hl1:(cs.take (i.toNat*sz)++enc x).length=i.toNat*sz+sz:=by
        rw [List.length_append,List.length_take,henc,e4];omega
      rw [List.take_append,hl1,t2,List.take_of_length_le (by rw [hl1];exact hmul),t1]
      simp
end
end Lf

namespace Lf
open Go
def cutH (k:Hp) (R:List Nat):Hp:=fun b=>if b∈R then none else k b
theorem zgl2 {k:Hp} {R:List Nat}:cutH k R≤k:=fun b o e=>by
  unfold cutH at e
  split at e
  · cases e
  · exact e
theorem zxr1 {k:Hp} {R:List Nat} {b:Nat} (h:b∈R):cutH k R b=none:=by
  unfold cutH
  rw [if_pos h]
theorem zkc1 {k:Hp} {R:List Nat} {b:Nat} (h:b∉R):cutH k R b=k b:=by
  unfold cutH
  rw [if_neg h]
theorem zgm2 {d k:Hp} {R:List Nat} (hl:d≤k) (hn:∀b∈R,d b=none):d≤cutH k R:=fun b o e=>by
  rw [zkc1 fun hb=>by rw [hn b hb] at e;cases e]
  exact hl b o e
theorem zzh1 {h h':Hp} {a:Addr} (e:h' a.block=h a.block):hcell h' a=hcell h a:=by
  unfold hcell
  rw [e]
theorem zpc1 (a:Addr) (n:Nat):(a.add n).block=a.block:=by
  unfold Addr.add
  split<;>rfl
theorem zby2 {h h':Hp} {a:Addr} {cs:List Value} (l:LdIs h a cs) (e:h' a.block=h a.block):LdIs h' a cs:=fun i v hv=>by
  have:hcell h' (a.add i)=hcell h (a.add i):=zzh1 (a:=a.add i) (by rw [zpc1];exact e)
  rw [this]
  exact l i v hv
section
variable {α:Type} {h h':Hp} {sz:Nat} {enc:α→List Value} {l:Sl} {xs:List α} {F:List Nat}
theorem Rw.same (r:Rw h sz enc l xs) (e:∀a,l.base=some a→h' a.block=h a.block):Rw h' sz enc l xs:=by
  obtain ⟨h1,h2,h3⟩:=r
  refine ⟨h1,h2,h3.imp id ?_⟩
  rintro ⟨a,ha,hl⟩
  exact ⟨a,ha,zby2 hl (e a ha)⟩
theorem Rw.nil {l:Sl} (hl:l.len=0):Rw h sz enc l ([]:List α):=⟨hl,(by simp),.inl (by simp)⟩
theorem OwnF.grow (o:OwnF h sz enc l xs F) (hl:h≤h'):OwnF h' sz enc l xs F:=by
  obtain ⟨h1,h2,h3⟩:=o
  refine ⟨h1,h2,h3.imp id ?_⟩
  rintro ⟨b,cs,e1,rfl,e3,e4⟩
  exact ⟨b,cs,e1,rfl,e3.le hl,e4⟩
theorem OwnF.cut {R:List Nat} (o:OwnF h sz enc l xs F) (hd:∀b∈F,b∉R):OwnF (cutH h R) sz enc l xs F:=o.same fun b hb=>zkc1 (hd b hb)
theorem OwnF.base (o:OwnF h sz enc l xs F) {a:Addr} (ha:l.base=some a):F=[a.block]:=by
  obtain ⟨_,_,h3⟩:=o
  rcases h3 with ⟨e,_⟩ | ⟨b,cs,e1,rfl,_⟩
  · rw [e] at ha;cases ha
  · rw [e1] at ha;cases ha;rfl
end
end Lf

namespace Lf
open Go
theorem zvd1 {h:Hp} {a:Addr} {v:Value} (e:hcell h a=some v):∃o,h a.block=some o:=by
  unfold hcell at e
  split at e
  · rename_i c t f hb
    exact ⟨_,hb⟩
  · cases e
section
variable {α:Type} {h h':Hp} {sz:Nat} {enc:α→List Value} {l:Sl} {xs:List α} {F F':List Nat}
theorem Rw.known (r:Rw h sz enc l xs) {a:Addr} (ha:l.base=some a) (h0:xs.length*sz≠0):h a.block≠none:=by
  obtain ⟨h1,h2,h3⟩:=r
  obtain ⟨a',ha',hl⟩:=h3.resolve_left h0
  rw [ha] at ha'
  cases ha'
  have hne:(xs.flatMap enc).length≠0:=by rw [h2];exact h0
  obtain ⟨v,hv⟩:∃v,(xs.flatMap enc)[0]?=some v:=⟨(xs.flatMap enc)[0]'(by omega),List.getElem?_eq_getElem (by omega)⟩
  obtain ⟨o,ho⟩:=zvd1 (hl 0 v hv)
  rw [zpc1] at ho
  rw [ho]
  simp
end
end Lf

namespace Lf
structure PIns where
 op:Int
 a:Int
 b:Int
 c:Int
 imm:Int
def zay (op:Int):Bool×Bool×Bool×Bool:=
 if op=1 then (true,false,false,true)
 else if op=2∨op=20∨op=21∨op=25∨op=26 then (true,true,false,false)
 else if (3≤op∧op≤14)∨(15≤op∧op≤19)∨op=24 then (true,true,true,false)
 else if op=22∨op=29∨op=30 then (false,false,false,true)
 else if op=23 then (true,false,false,true)
 else if op=27∨op=28∨op=31∨op=32∨op=33 then (true,false,false,false)
 else (false,false,false,false)
def regP (has:Bool) (n:Int):Int:=if has=false∧n≠0 then 11 else if n<0∨8≤n then 10 else 0
def zbo (x:PIns) (n locks:Int):Int×Int:=
 if x.op<0∨34≤x.op then (9,0)
 else if regP (zay x.op).1 x.a≠0 then (regP (zay x.op).1 x.a,1)
 else if regP (zay x.op).2.1 x.b≠0 then (regP (zay x.op).2.1 x.b,2)
 else if regP (zay x.op).2.2.1 x.c≠0 then (regP (zay x.op).2.2.1 x.c,3)
 else if (zay x.op).2.2.2=false∧x.imm≠0 then (11,4)
 else if (x.op=22∨x.op=23)∧(x.imm<0∨n<x.imm) then (12,4)
 else if (x.op=29∨x.op=30)∧(x.imm<0∨locks≤x.imm) then (13,4)
 else (0,0)
def codeR (n locks:Int):List PIns→Int→Int×Int
 | [],_=>(0,0)
 | x::r,i=>if (zbo x n locks).1≠0 then ((zbo x n locks).1,i) else codeR n locks r (i+1)
def codeP (l:List PIns) (locks:Int):Int×Int:=
 if locks<0∨8<locks then (1,0) else if 256<l.length then (3,256) else codeR l.length locks l 0
structure PProc where
 part:Int
 code:List PIns
structure PCfg where
 labels:List Int
 table:List Int
 fuel:Int
 lane:Int
 locks:Int
 log:Int
 procs:List PProc
def within (n a b:Int):Bool:=decide (a≤n)&&decide (n≤b)
def zvp (parts locks:Int):List PProc→Int→Int×Int
 | [],_=>(0,0)
 | p::r,i=>if within p.part 0 (parts-1)=false then (2,7+i) else if (codeP p.code locks).1≠0 then ((codeP p.code locks).1,7+i) else zvp parts locks r (i+1)
def cfgP (m:Int) (c:PCfg):Int×Int:=
 if m≠0 then (m,0)
 else if c.table=[] then (1,1)
 else if 64<c.table.length then (3,1)
 else if c.table.all (fun p=>within p 0 (c.labels.length-1))=false then (2,1)
 else if within c.fuel 1 256=false then (2,2)
 else if within c.lane 1 64=false then (2,3)
 else if within c.locks 0 8=false then (2,4)
 else if within c.log 0 4096=false then (2,5)
 else if c.procs=[] then (1,6)
 else if 32<c.procs.length then (3,6)
 else zvp c.labels.length c.locks c.procs 0
def leB (n:Int):Nat→List UInt8
 | 0=> []
 | k+1=>UInt8.ofNat (n%256).toNat::leB (n / 256) k
def valB :List UInt8→Nat
 | []=>0
 | b::r=>b.toNat+256*valB r
theorem zaq (n:Int) (k:Nat):(leB n k).length=k:=by
 induction k generalizing n with
 | zero=>rfl
 | succ k ih=>simp [leB,ih]
theorem zil1 (n:Int) (k:Nat):(valB (leB n k):Int)=n%((256^k:Nat):Int):=by
 induction k generalizing n with
 | zero=>
  show ((0:Nat):Int)=n%1
  omega
 | succ k ih=>
  have h1:(UInt8.ofNat (n%256).toNat).toNat=(n%256).toNat:=by
   rw [UInt8.toNat_ofNat']
   have:(n%256).toNat<256:=by omega
   omega
  have h2:=ih (n / 256)
  have e:((256^(k+1):Nat):Int)=256*((256^k:Nat):Int):=by
   rw [Nat.pow_succ,Int.natCast_mul,Int.mul_comm];rfl
  rw [e]
  show (((UInt8.ofNat (n%256).toNat).toNat+256*valB (leB (n / 256) k):Nat):Int)=_
  rw [h1]
  generalize ((256^k:Nat):Int)=q at*
  have h3:(0:Int)≤n%256:=by omega
  have h4:=Int.emod_add_mul_ediv n (256*q)
  have h5:=Int.emod_add_mul_ediv (n / 256) q
  have h6:=Int.emod_add_mul_ediv n 256
  have h7:n / (256*q)=n / 256 / q:=(Int.ediv_ediv_of_nonneg (by decide)).symm
  rw [h7,Int.mul_assoc] at h4
  rw [Int.natCast_add,Int.natCast_mul,h2,Int.toNat_of_nonneg h3]
  generalize q*(n / 256 / q)=z at*
  generalize n%(256*q)=y at*
  generalize (n / 256)%q=x at*
  show n%256+256*x=y
  omega
theorem zab1 :∀l:List UInt8,valB l<256^l.length
 | []=>by simp [valB]
 | b::r=>by
  have h1:=zab1 r
  have h2:=b.toNat_lt
  simp only [valB,List.length_cons,Nat.pow_succ]
  omega
theorem zac1 :∀l:List UInt8,leB (valB l:Int) l.length=l
 | []=>rfl
 | b::r=>by
  have h2:=b.toNat_lt
  have e1:(((b.toNat+256*valB r:Nat):Int)%256).toNat=b.toNat:=by omega
  have e2:((b.toNat+256*valB r:Nat):Int) / 256=(valB r:Int):=by omega
  simp only [valB,List.length_cons,leB]
  rw [e1,e2,zac1 r]
  simp
def insB (x:PIns):List UInt8:=leB x.op 1++(leB x.a 1++(leB x.b 1++(leB x.c 1++leB x.imm 8)))
def codeB (l:List PIns):List UInt8:=l.flatMap insB
def procB (p:PProc):List UInt8:=leB p.part 1++(leB p.code.length 2++codeB p.code)
def cfgB (c:PCfg):List UInt8:=
 [70,66,67,70,1]++(leB c.labels.length 1++(c.labels.flatMap (fun a=>leB a 8)++(leB c.table.length 1++(c.table.flatMap (fun a=>leB a 1)++
  (leB c.fuel 2++(leB c.lane 1++(leB c.locks 1++(leB c.log 2++(leB c.procs.length 1++c.procs.flatMap procB)))))))))
end Lf

namespace Lf
structure PEntry where
 tick:Int
 proc:Int
 value:Int
structure PWaiter where
 proc:Int
 value:Int
structure PLane where
 values:List Int
 waiters:List PWaiter
 taken:Int
 dropped:Int
structure PProcess where
 state:Int
 pc:Int
 regs:List Int
 cursor:Int
 timer:Int
 fired:Bool
 wake:Int
 lanes:List PLane
structure PPart where
 cursor:Int
 log:List PEntry
 lost:Int
 forbidden:Int
 owners:List Int
 queues:List (List Int)
structure PState where
 tick:Int
 parts:List PPart
 procs:List PProcess
section
variable (c:PCfg) (s:PState)
def ofP (p:Int) (i:Nat):Prop:=0≤p∧∃y,c.procs[p.toNat]?=some y∧y.part=(i:Int)
def stP (p:Int) (q:PProcess→Prop):Prop:=∃x,s.procs[p.toNat]?=some x∧q x
def manyP (i:Nat):Nat:=(c.procs.filter fun y=>decide (y.part=(i:Int))).length
def Cnt (n:Int):Prop:=0≤n∧n≤65535
def insP (y:PProc) (pc:Int):Option PIns:=if 0≤pc then y.code[pc.toNat]? else none
def LogG (i:Nat):Int→List PEntry→Prop
 | _,[]=>True
 | last,e::r=>last≤e.tick∧e.tick<s.tick∧ofP c e.proc i∧LogG i e.tick r
def PartG (i:Nat) (x:PPart):Prop:=
 (0≤x.cursor∧(0<x.cursor→x.cursor<manyP c i)∧(x.log.length:Int)≤c.log)∧LogG c s i 0 x.log∧Cnt x.lost∧Cnt x.forbidden∧(0<x.lost→c.log≤x.log.length)∧
 (x.owners.length:Int)=c.locks∧(x.queues.length:Int)=c.locks∧∀p∈x.owners,p≠ -1→ofP c p i∧stP s p fun z=>z.state≠5∧z.state≠6
def Used (l:PLane):Prop:=l.values≠ []∨0<l.taken∨0<l.dropped
def ProcG (fl:Nat→Int→Prop) (x:PProcess) (y:PProc):Prop:=
 (0≤x.state∧x.state≤6)∧(0≤x.pc∧x.pc≤y.code.length)∧x.lanes.length=c.labels.length+1∧(0≤x.cursor∧x.cursor<x.lanes.length)∧
 (0≤x.timer∧x.timer≤s.tick+1099511627776)∧(0≤x.wake∧x.wake≤s.tick+1099511627776)∧(0<x.wake↔x.state=4)∧
 (x.state=5∨x.state=6→x.timer=0∧x.fired=false)∧
 (∀(i:Nat) l,x.lanes[i]?=some l→(l.values.length:Int)≤c.lane∧Cnt l.taken∧Cnt l.dropped∧(Used l→i<c.labels.length→fl i y.part))∧
 (x.state=1→(∃n,insP y x.pc=some n∧n.op=25)∧(∀l∈x.lanes,l.values=[])∧x.fired=false)∧
 (x.state=2→∃n,insP y x.pc=some n∧n.op=24)∧(x.state=3→∃n,insP y x.pc=some n∧n.op=29)∧(x.state=4→∃n,insP y x.pc=some n∧n.op=28)
def atP (p:Int) (q:PProcess→PIns→Prop):Prop:=∃x y n,s.procs[p.toNat]?=some x∧c.procs[p.toNat]?=some y∧insP y x.pc=some n∧q x n
def zmj1 (p v:Int) (r:Nat):Prop:=atP c s p fun x n=>x.state=2∧n.op=24∧x.regs[n.b.toNat]?=some (r:Int)∧x.regs[n.c.toNat]?=some v
def cntQ (p:Int) (x:PPart):Nat:=(x.queues.map fun q=>q.countP (fun z=>decide (z=p))).sum
def cntW (p:Int) (l:PLane):Nat:=l.waiters.countP fun w=>decide (w.proc=p)
def cntL (p:Int) (x:PProcess):Nat:=(x.lanes.map (cntW p)).sum
def zgn2 :Prop:=
 (∀(i:Nat) x,s.parts[i]?=some x→∀(k:Nat) q,x.queues[k]?=some q→∀p∈q,ofP c p i∧(atP c s p fun z n=>z.state=3∧n.imm=(k:Int))∧∃o,x.owners[k]?=some o∧0≤o∧o≠p)∧
 (∀(r:Nat) x y,s.procs[r]?=some x→c.procs[r]?=some y→∀(i:Nat) l,x.lanes[i]?=some l→∀w∈l.waiters,(i:Int)=y.part∧ofP c w.proc i∧(x.state≠5∧x.state≠6)∧(l.values.length:Int)=c.lane∧zmj1 c s w.proc w.value r)∧
 (∀(p:Nat) x,s.procs[p]?=some x→(s.parts.map (cntQ (p:Int))).sum+(s.procs.map (cntL (p:Int))).sum=if x.state=3∨x.state=2 then 1 else 0)
def zxs1 :Prop:=(0≤s.tick∧s.tick≤4611686018427387904)∧s.parts.length=c.labels.length∧s.procs.length=c.procs.length
def MayG (fl:Nat→Int→Prop):Prop:=
 zxs1 c s∧(∀(i:Nat) x,s.parts[i]?=some x→PartG c s i x)∧(∀(p:Nat) x y,s.procs[p]?=some x→c.procs[p]?=some y→ProcG c s fl x y)∧zgn2 c s
def ofR (p:Int) (i:Nat):Prop:=ofP c p i∧stP s p fun z=>z.state<5
def PartR (i:Nat) (x:PPart):Prop:=
 (0≤x.cursor∧(0<x.cursor→x.cursor<manyP c i))∧Cnt x.lost∧Cnt x.forbidden∧(0<x.lost→c.log≤x.log.length)∧
 (∀(k:Nat) e,x.log[k]?=some e→(0≤e.tick∧e.tick≤s.tick-1)∧(∀d,0<k→x.log[k-1]?=some d→d.tick≤e.tick)∧ofP c e.proc i)∧
 (∀(k:Nat) o,x.owners[k]?=some o→(o= -1∨ofR c s o i)∧∀q,x.queues[k]?=some q→(o= -1→q=[])∧∀p∈q,ofR c s p i∧(stP s p fun z=>z.state=3)∧o≠p)
def ProcR (fl:Nat→Int→Prop) (x:PProcess) (y:PProc):Prop:=
 (0≤x.state∧x.state≤6)∧(0≤x.pc∧x.pc≤y.code.length)∧(0≤x.cursor∧x.cursor<x.lanes.length)∧
 (0≤x.timer∧x.timer≤s.tick+1099511627776)∧(0≤x.wake∧x.wake≤s.tick+1099511627776)∧(0<x.wake↔x.state=4)∧(5≤x.state→x.timer=0∧x.fired=false)∧
 (∀(k:Nat) l,x.lanes[k]?=some l→Cnt l.taken∧Cnt l.dropped∧(k<c.labels.length→Used l→fl k y.part)∧(l.waiters≠ []→(k:Int)=y.part∧x.state<5∧c.lane≤l.values.length)∧
  ∀w∈l.waiters,(∀i:Nat,(i:Int)=y.part→ofR c s w.proc i)∧stP s w.proc fun z=>z.state=2)
def WaitR (p i:Nat) (x:PProcess) (y:PProc):Prop:=
 (∀z,s.parts[i]?=some z→∀(k:Nat) q,z.queues[k]?=some q→(p:Int)∈q→∃n,insP y x.pc=some n∧n.op=29∧n.imm=(k:Int))∧
 (∀(r:Nat) z,s.procs[r]?=some z→∀l,z.lanes[i]?=some l→∀w∈l.waiters,w.proc=(p:Int)→∃n,insP y x.pc=some n∧n.op=24∧x.regs[n.b.toNat]?=some (r:Int)∧x.regs[n.c.toNat]?=some w.value)∧
 (∀z,s.parts[i]?=some z→cntQ (p:Int) z=if x.state=3 then 1 else 0)∧((s.procs.map fun z=>((z.lanes[i]?).map (cntW (p:Int))).getD 0).sum=if x.state=2 then 1 else 0)∧
 (x.state=1→(∃n,insP y x.pc=some n∧n.op=25)∧(∀l∈x.lanes,l.values=[])∧x.fired=false)∧(x.state=4→∃n,insP y x.pc=some n∧n.op=28)
def zss1 :Prop:=zxs1 c s∧(∀x∈s.parts,(x.owners.length:Int)=c.locks∧(x.queues.length:Int)=c.locks∧(x.log.length:Int)≤c.log)∧
 ∀x∈s.procs,x.lanes.length=c.labels.length+1∧∀l∈x.lanes,(l.values.length:Int)≤c.lane
def MayR (fl:Nat→Int→Prop):Prop:=
 zss1 c s∧(∀(i:Nat) x,s.parts[i]?=some x→PartR c s i x)∧(∀(p:Nat) x y,s.procs[p]?=some x→c.procs[p]?=some y→ProcR c s fl x y)∧
 ∀(p i:Nat) x y,s.procs[p]?=some x→c.procs[p]?=some y→y.part=(i:Int)→WaitR s p i x y
end
theorem zqv1 {α:Type} (f:α→Nat):∀(l:List α) (i:Nat),(∀j x,l[j]?=some x→j≠i→f x=0)→(l.map f).sum=((l[i]?).map f).getD 0
 | [],i,_=>by simp
 | x::r,0,h=>by
  have:(r.map f).sum=0:=by
   rw [List.sum_eq_zero_iff_forall_eq_nat]
   intro y hy
   obtain ⟨z,hz,rfl⟩:=List.mem_map.1 hy
   obtain ⟨j,hj⟩:=List.getElem?_of_mem hz
   exact h (j+1) z (by simpa using hj) (by omega)
  simp [this]
 | x::r,i+1,h=>by
  have h0:=h 0 x rfl (by omega)
  have:=zqv1 f r i fun j y hj hne=>h (j+1) y (by simpa using hj) (by omega)
  simp [h0,this]
theorem zxt1 {α:Type} (f:α→Nat) (l:List α) (h:∀x∈l,f x=0):(l.map f).sum=0:=by
 rw [List.sum_eq_zero_iff_forall_eq_nat]
 intro y hy
 obtain ⟨z,hz,rfl⟩:=List.mem_map.1 hy
 exact h z hz
theorem zve1 {α:Type} (f:α→Nat):∀(l:List α),0<(l.map f).sum→∃x∈l,0<f x
 | [],h=>by simp at h
 | x::r,h=>by
  by_cases hx:0<f x
  ·exact ⟨x,List.mem_cons_self ..,hx⟩
  ·have h2:0<(r.map f).sum:=by
    simp at h
    omega
   obtain ⟨y,hy,h3⟩:=zve1 f r h2
   exact ⟨y,List.mem_cons_of_mem _ hy,h3⟩
end Lf

namespace Lf
section
variable {c:PCfg} {s:PState}
theorem zbz2 {i:Nat}:∀ {l:List PEntry} {last:Int},LogG c s i last l→∀(k:Nat) e,l[k]?=some e→last≤e.tick∧e.tick<s.tick∧ofP c e.proc i∧∀d,0<k→l[k-1]?=some d→d.tick≤e.tick
 | [],_,_,k,e,he=>by simp at he
 | x::r,last,h,0,e,he=>by
  obtain ⟨h1,h2,h3,_⟩:=h
  cases he
  exact ⟨h1,h2,h3,fun d hd=>absurd hd (by omega)⟩
 | x::r,last,h,k+1,e,he=>by
  obtain ⟨h1,h2,h3,h4⟩:=h
  obtain ⟨g1,g2,g3,g4⟩:=zbz2 h4 k e (by simpa using he)
  refine ⟨by omega,g2,g3,fun d _ hd=> ?_⟩
  cases k with
  | zero=>
   cases hd
   exact g1
  | succ k=>exact g4 d (by omega) hd
theorem zca2 {i:Nat}:∀ {l:List PEntry} {last:Int},(∀e,l[0]?=some e→last≤e.tick)→(∀(k:Nat) e,l[k]?=some e→e.tick<s.tick∧ofP c e.proc i∧∀d,0<k→l[k-1]?=some d→d.tick≤e.tick)→LogG c s i last l
 | [],_,_,_=>trivial
 | x::r,last,h0,h=>by
  obtain ⟨h1,h2,_⟩:=h 0 x rfl
  refine ⟨h0 x rfl,h1,h2,zca2 (fun e he=> ?_) fun k e he=> ?_⟩
  ·exact (h 1 e he).2.2 x (by omega) rfl
  ·obtain ⟨g1,g2,g3⟩:=h (k+1) e he
   refine ⟨g1,g2,fun d hk hd=>g3 d (by omega) ?_⟩
   obtain ⟨j,rfl⟩:∃j,k=j+1:=⟨k-1,by omega⟩
   exact hd
theorem zxu1 {p i:Nat} {y:PProc} (h:ofP c (p:Int) i) (hy:c.procs[p]?=some y):y.part=(i:Int):=by
 obtain ⟨_,z,hz,hp⟩:=h
 rw [Int.toNat_natCast,hy] at hz
 cases hz
 exact hp
theorem zst1 {p:Int} {x:PPart} (h:∀(k:Nat) q,x.queues[k]?=some q→p∉q):cntQ p x=0:=by
 refine zxt1 _ _ fun q hq=> ?_
 obtain ⟨k,hk⟩:=List.getElem?_of_mem hq
 rw [List.countP_eq_zero]
 intro z hz e
 have e:z=p:=by simpa using e
 exact h k q hk (e▸hz)
theorem zex2 {p:Int} {x:PPart} (h:0<cntQ p x):∃(k:Nat) (q:List Int),x.queues[k]?=some q∧p∈q:=by
 obtain ⟨q,hq,hp⟩:=zve1 _ _ h
 obtain ⟨k,hk⟩:=List.getElem?_of_mem hq
 obtain ⟨z,hz,e⟩:=List.countP_pos_iff.1 hp
 have e:z=p:=by simpa using e
 exact ⟨k,q,hk,e▸hz⟩
theorem zsu1 {p:Int} {l:PLane} (h:∀w∈l.waiters,w.proc≠p):cntW p l=0:=by
 unfold cntW
 rw [List.countP_eq_zero]
 intro w hw e
 exact h w hw (by simpa using e)
theorem zey2 {p:Int} {l:PLane} (h:0<cntW p l):∃w∈l.waiters,w.proc=p:=by
 obtain ⟨w,hw,e⟩:=List.countP_pos_iff.1 h
 exact ⟨w,hw,by simpa using e⟩
theorem sumQ {p i:Nat} {y:PProc} (hy:c.procs[p]?=some y) (hi:y.part=(i:Int))
  (hq:∀(j:Nat) x,s.parts[j]?=some x→∀(k:Nat) q,x.queues[k]?=some q→∀z∈q,ofP c z j):(s.parts.map (cntQ (p:Int))).sum=((s.parts[i]?).map (cntQ (p:Int))).getD 0:=by
 refine zqv1 _ _ _ fun j x hx hj=>zst1 fun k q hk hp=> ?_
 have:=zxu1 (hq j x hx k q hk _ hp) hy
 omega
theorem sumL {p i:Nat} {y:PProc} (hy:c.procs[p]?=some y) (hi:y.part=(i:Int))
  (hw:∀(r:Nat) x,s.procs[r]?=some x→∀(j:Nat) l,x.lanes[j]?=some l→∀w∈l.waiters,ofP c w.proc j):
  (s.procs.map (cntL (p:Int))).sum=(s.procs.map fun z=>((z.lanes[i]?).map (cntW (p:Int))).getD 0).sum:=by
 congr 1
 refine List.map_congr_left fun z hz=> ?_
 obtain ⟨r,hr⟩:=List.getElem?_of_mem hz
 refine zqv1 _ _ _ fun j l hl hj=>zsu1 fun w hw2 e=> ?_
 have h:=hw r z hr j l hl w hw2
 rw [e] at h
 have:=zxu1 h hy
 omega
end
section
variable {c:PCfg} {s:PState} {fl:Nat→Int→Prop}
theorem zgn1 {α:Type} {l:List α} {i:Nat} {a b:α} (h1:l[i]?=some a) (h2:l[i]?=some b):a=b:=Option.some.inj (h1.symm.trans h2)
theorem zmk1 {α β:Type} {l:List α} {m:List β} {i:Nat} {a:α} (h:l[i]?=some a) (hl:l.length=m.length):∃b,m[i]?=some b:=by
 have:=(List.getElem?_eq_some_iff.1 h).1
 exact ⟨m[i]'(by omega),by rw [List.getElem?_eq_getElem]⟩
theorem zhb2 (hpart:∀y∈c.procs,0≤y.part∧y.part<c.labels.length) (h:MayG c s fl):MayR c s fl:=by
 obtain ⟨hS,hP,hQ,w1,w2,w3⟩:=h
 have hq:∀(j:Nat) x,s.parts[j]?=some x→∀(k:Nat) q,x.queues[k]?=some q→∀z∈q,ofP c z j:=fun j x hx k q hk z hz=>(w1 j x hx k q hk z hz).1
 have hw:∀(r:Nat) x,s.procs[r]?=some x→∀(j:Nat) l,x.lanes[j]?=some l→∀w∈l.waiters,ofP c w.proc j:=fun r x hx j l hl w hww=>by
  obtain ⟨y,hy⟩:=zmk1 hx hS.2.2
  exact (w2 r x y hx hy j l hl w hww).2.1
 have st3:∀(p:Int) (q:PProcess→PIns→Prop),(atP c s p fun z n=>z.state=3∧q z n)→stP s p fun z=>z.state=3:=fun p q ⟨x,y,n,h1,h2,h3,h4,h5⟩=>⟨x,h1,h4⟩
 have st2:∀(p v:Int) (r:Nat),zmj1 c s p v r→stP s p fun z=>z.state=2:=fun p v r ⟨x,y,n,h1,h2,h3,h4,h5⟩=>⟨x,h1,h4⟩
 refine ⟨⟨hS,fun x hx=> ?_,fun x hx=> ?_⟩,fun i x hx=> ?_,fun p x y hx hy=> ?_,fun p i x y hx hy hi=> ?_⟩
 ·obtain ⟨i,hi⟩:=List.getElem?_of_mem hx
  obtain ⟨⟨_,_,g1⟩,_,_,_,_,g2,g3,_⟩:=hP i x hi
  exact ⟨g2,g3,g1⟩
 ·obtain ⟨p,hp⟩:=List.getElem?_of_mem hx
  obtain ⟨y,hy⟩:=zmk1 hp hS.2.2
  obtain ⟨_,_,g1,_,_,_,_,_,g2,_⟩:=hQ p x y hp hy
  refine ⟨g1,fun l hl=> ?_⟩
  obtain ⟨i,hi⟩:=List.getElem?_of_mem hl
  exact (g2 i l hi).1
 ·obtain ⟨⟨g1,g2,g3⟩,g4,g5,g6,g7,g8,g9,g10⟩:=hP i x hx
  refine ⟨⟨g1,g2⟩,g5,g6,g7,fun k e he=> ?_,fun k o ho=>⟨?_,fun q hk=>⟨fun e=> ?_,fun p hp=> ?_⟩⟩⟩
  ·obtain ⟨a1,a2,a3,a4⟩:=zbz2 g4 k e he
   exact ⟨⟨a1,by omega⟩,a4,a3⟩
  ·by_cases e:o= -1
   ·exact .inl e
   ·obtain ⟨a1,z,a2,a3⟩:=g10 o (List.mem_of_getElem? ho) e
    refine .inr ⟨a1,z,a2,?_⟩
    obtain ⟨y,hy⟩:=zmk1 a2 hS.2.2
    have:=(hQ _ z y a2 hy).1
    omega
  ·cases q with
   | nil=>rfl
   | cons p q=>
    obtain ⟨_,_,o',b1,b2,_⟩:=w1 i x hx k _ hk p (List.mem_cons_self ..)
    have:=zgn1 ho b1
    omega
  ·obtain ⟨b0,b1,o',b2,b3,b4⟩:=w1 i x hx k q hk p hp
   obtain ⟨z,c1,c2⟩:=st3 p _ b1
   have:=zgn1 ho b2
   subst this
   exact ⟨⟨b0,z,c1,by omega⟩,⟨z,c1,c2⟩,b4⟩
 ·obtain ⟨g1,g2,g3,g4,g5,g6,g7,g8,g9,_⟩:=hQ p x y hx hy
  refine ⟨g1,g2,g4,g5,g6,g7,fun e=>g8 (by omega),fun k l hl=> ?_⟩
  obtain ⟨a1,a2,a3,a4⟩:=g9 k l hl
  refine ⟨a2,a3,fun hk hu=>a4 hu hk,fun hne=> ?_,fun w hww=> ?_⟩
  ·obtain ⟨w,hww⟩:=List.exists_mem_of_ne_nil _ hne
   obtain ⟨b1,b2,b3,b4,b5⟩:=w2 p x y hx hy k l hl w hww
   exact ⟨b1,by omega,by omega⟩
  ·obtain ⟨b1,b2,b3,b4,b5⟩:=w2 p x y hx hy k l hl w hww
   obtain ⟨z,c1,c2⟩:=st2 _ _ _ b5
   refine ⟨fun i hi=> ?_,z,c1,c2⟩
   have:k=i:=by omega
   subst this
   exact ⟨b2,z,c1,by omega⟩
 ·obtain ⟨g1,_,_,_,_,_,_,_,_,g10,g11,g12,g13⟩:=hQ p x y hx hy
  have e3:∀z,s.parts[i]?=some z→∀(k:Nat) q,z.queues[k]?=some q→(p:Int)∈q→x.state=3∧∃n,insP y x.pc=some n∧n.op=29∧n.imm=(k:Int):=fun z hz k q hk hpq=>by
   obtain ⟨_,⟨x',y',n,b1,b2,b3,b4,b5⟩,_⟩:=w1 i z hz k q hk p hpq
   rw [Int.toNat_natCast] at b1 b2
   obtain rfl:=zgn1 hx b1
   obtain rfl:=zgn1 hy b2
   obtain ⟨n',c1,c2⟩:=g12 b4
   rw [b3] at c1
   cases c1
   exact ⟨b4,n,b3,c2,b5⟩
  have e2:∀(r:Nat) z,s.procs[r]?=some z→∀l,z.lanes[i]?=some l→∀w∈l.waiters,w.proc=(p:Int)→x.state=2∧∃n,insP y x.pc=some n∧n.op=24∧x.regs[n.b.toNat]?=some (r:Int)∧x.regs[n.c.toNat]?=some w.value:=fun r z hz l hl w hww hwp=>by
   obtain ⟨y',hy'⟩:=zmk1 hz hS.2.2
   obtain ⟨_,_,_,_,x',y'',n,b1,b2,b3,b4,b5,b6,b7⟩:=w2 r z y' hz hy' i l hl w hww
   rw [hwp,Int.toNat_natCast] at b1 b2
   obtain rfl:=zgn1 hx b1
   obtain rfl:=zgn1 hy b2
   exact ⟨b4,n,b3,b5,b6,b7⟩
  have t:=w3 p x hx
  rw [sumQ hy hi hq,sumL hy hi hw] at t
  have z2:x.state≠2→(s.procs.map fun z=>((z.lanes[i]?).map (cntW (p:Int))).getD 0).sum=0:=fun hne=>by
   refine zxt1 _ _ fun z hz=> ?_
   obtain ⟨r,hr⟩:=List.getElem?_of_mem hz
   cases hl:z.lanes[i]? with
   | none=>rfl
   | some l=>exact zsu1 fun w hww hwp=>hne (e2 r z hr l hl w hww hwp).1
  have z3:x.state≠3→((s.parts[i]?).map (cntQ (p:Int))).getD 0=0:=fun hne=>by
   cases hz:s.parts[i]? with
   | none=>rfl
   | some z=>exact zst1 fun k q hk hpq=>hne (e3 z hz k q hk hpq).1
  refine ⟨fun z hz k q hk hpq=>(e3 z hz k q hk hpq).2,fun r z hz l hl w hww hwp=>(e2 r z hz l hl w hww hwp).2,fun z hz=> ?_,?_,g10,g13⟩
  ·rw [hz] at t z3
   have t:cntQ (p:Int) z+_=_:=t
   have z3:x.state≠3→cntQ (p:Int) z=0:=z3
   by_cases h3:x.state=3
   ·rw [z2 (by omega),if_pos (.inl h3)] at t
    rw [if_pos h3];omega
   ·rw [if_neg h3,z3 h3]
  ·by_cases h2:x.state=2
   ·rw [z3 (by omega),if_pos (.inr h2)] at t
    rw [if_pos h2];omega
   ·rw [if_neg h2,z2 h2]
theorem zhc2 (hpart:∀y∈c.procs,0≤y.part∧y.part<c.labels.length) (h:MayR c s fl):MayG c s fl:=by
 obtain ⟨⟨hS,s1,s2⟩,hP,hQ,hW⟩:=h
 have hpt:∀(p:Nat) y,c.procs[p]?=some y→∃i:Nat,y.part=(i:Int)∧∃z,s.parts[i]?=some z:=fun p y hy=>by
  obtain ⟨a1,a2⟩:=hpart y (List.mem_of_getElem? hy)
  refine ⟨y.part.toNat,by omega,s.parts[y.part.toNat]'(by have:=hS.2.1;omega),by rw [List.getElem?_eq_getElem]⟩
 have own:∀(i:Nat) x,s.parts[i]?=some x→∀(k:Nat) q,x.queues[k]?=some q→∃o,x.owners[k]?=some o:=fun i x hx k q hk=>by
  obtain ⟨a1,a2,_⟩:=s1 x (List.mem_of_getElem? hx)
  exact zmk1 hk (by omega)
 have hq:∀(j:Nat) x,s.parts[j]?=some x→∀(k:Nat) q,x.queues[k]?=some q→∀z∈q,ofP c z j:=fun j x hx k q hk z hz=>by
  obtain ⟨o,ho⟩:=own j x hx k q hk
  exact ((((hP j x hx).2.2.2.2.2 k o ho).2 q hk).2 z hz).1.1
 have hw:∀(r:Nat) x,s.procs[r]?=some x→∀(j:Nat) l,x.lanes[j]?=some l→∀w∈l.waiters,ofP c w.proc j:=fun r x hx j l hl w hww=>by
  obtain ⟨y,hy⟩:=zmk1 hx hS.2.2
  obtain ⟨_,_,_,b1,b2⟩:=(hQ r x y hx hy).2.2.2.2.2.2.2 j l hl
  exact ((b2 w hww).1 j (b1 (List.ne_nil_of_mem hww)).1).1
 refine ⟨hS,fun i x hx=> ?_,fun p x y hx hy=> ?_,fun i x hx k q hk p hp=> ?_,fun r x y hx hy i l hl w hww=> ?_,fun p x hx=> ?_⟩
 ·obtain ⟨a1,a2,a3⟩:=s1 x (List.mem_of_getElem? hx)
  obtain ⟨g1,g2,g3,g4,g5,g6⟩:=hP i x hx
  refine ⟨⟨g1.1,g1.2,a3⟩,zca2 (fun e he=>(g5 0 e he).1.1) (fun k e he=> ?_),g2,g3,g4,a1,a2,fun p hp hne=> ?_⟩
  ·obtain ⟨b1,b2,b3⟩:=g5 k e he
   exact ⟨by omega,b3,b2⟩
  ·obtain ⟨k,hk⟩:=List.getElem?_of_mem hp
   obtain ⟨b1,z,b2,b3⟩:=(g6 k p hk).1.resolve_left hne
   exact ⟨b1,z,b2,by omega,by omega⟩
 ·obtain ⟨a1,a2⟩:=s2 x (List.mem_of_getElem? hx)
  obtain ⟨g1,g2,g3,g4,g5,g6,g7,g8⟩:=hQ p x y hx hy
  obtain ⟨i,hi,z,hz⟩:=hpt p y hy
  obtain ⟨c1,c2,c3,c4,c5,c6⟩:=hW p i x y hx hy hi
  refine ⟨g1,g2,a1,g3,g4,g5,g6,fun e=>g7 (by omega),fun k l hl=> ?_,c5,fun h2=> ?_,fun h3=> ?_,c6⟩
  ·obtain ⟨b1,b2,b3,_⟩:=g8 k l hl
   exact ⟨a2 l (List.mem_of_getElem? hl),b1,b2,fun hu hk=>b3 hk hu⟩
  ·rw [if_pos h2] at c4
   obtain ⟨z',hz',hpos⟩:=zve1 _ _ (show 0<_ by rw [c4];omega)
   obtain ⟨r,hr⟩:=List.getElem?_of_mem hz'
   cases hl:z'.lanes[i]? with
   | none=>rw [hl] at hpos;simp at hpos
   | some l=>
    rw [hl] at hpos
    obtain ⟨w,hww,hwp⟩:=zey2 hpos
    obtain ⟨n,d1,d2,_⟩:=c2 r z' hr l hl w hww hwp
    exact ⟨n,d1,d2⟩
  ·have:=c3 z hz
   rw [if_pos h3] at this
   obtain ⟨k,q,hk,hpq⟩:=zex2 (show 0<cntQ (p:Int) z by omega)
   obtain ⟨n,d1,d2,_⟩:=c1 z hz k q hk hpq
   exact ⟨n,d1,d2⟩
 ·obtain ⟨o,ho⟩:=own i x hx k q hk
  obtain ⟨b1,b2⟩:=(hP i x hx).2.2.2.2.2 k o ho
  obtain ⟨b3,b4⟩:=b2 q hk
  obtain ⟨⟨d1,z,d2,d3⟩,⟨z',d4,d5⟩,d6⟩:=b4 p hp
  obtain ⟨d0,y,d7,d8⟩:=d1
  obtain rfl:=zgn1 d2 d4
  have hpc:((p.toNat:Nat):Int)=p:=by omega
  obtain ⟨c1,_⟩:=hW p.toNat i z y d2 d7 d8
  obtain ⟨n,f1,f2,f3⟩:=c1 x hx k q hk (by rw [hpc];exact hp)
  refine ⟨⟨d0,y,d7,d8⟩,⟨z,y,n,d2,d7,f1,d5,f3⟩,o,ho,?_,d6⟩
  rcases b1 with e | e
  ·rw [b3 e] at hp;cases hp
  ·exact e.1.1
 ·obtain ⟨_,_,_,b1,b2⟩:=(hQ r x y hx hy).2.2.2.2.2.2.2 i l hl
  obtain ⟨e1,e2,e3⟩:=b1 (List.ne_nil_of_mem hww)
  obtain ⟨f1,z',f2,f3⟩:=b2 w hww
  obtain ⟨⟨d0,y',d7,d8⟩,_⟩:=f1 i e1
  have hv:=(s2 x (List.mem_of_getElem? hx)).2 l (List.mem_of_getElem? hl)
  have hpc:((w.proc.toNat:Nat):Int)=w.proc:=by omega
  obtain ⟨_,c2,_⟩:=hW w.proc.toNat i z' y' f2 d7 d8
  obtain ⟨n,g1,g2,g3,g4⟩:=c2 r x hx l hl w hww hpc.symm
  exact ⟨e1,⟨d0,y',d7,d8⟩,by omega,by omega,z',y',n,f2,d7,g1,f3,g2,g3,g4⟩
 ·obtain ⟨y,hy⟩:=zmk1 hx hS.2.2
  obtain ⟨i,hi,z,hz⟩:=hpt p y hy
  obtain ⟨_,_,c3,c4,_⟩:=hW p i x y hx hy hi
  rw [sumQ hy hi hq,sumL hy hi hw,hz,c4]
  show cntQ (p:Int) z+_=_
  rw [c3 z hz]
  by_cases h3:x.state=3
  ·rw [if_pos h3,if_neg (by omega),if_pos (.inl h3)]
  ·by_cases h2:x.state=2
   ·rw [if_neg h3,if_pos h2,if_pos (.inr h2)]
   ·rw [if_neg h3,if_neg h2,if_neg (by omega)]
theorem zhd2 (hpart:∀y∈c.procs,0≤y.part∧y.part<c.labels.length):MayG c s fl↔MayR c s fl:=⟨zhb2 hpart,zhc2 hpart⟩
end
end Lf

namespace Lf
abbrev D (α:Type):Type:=List UInt8→Nat→Except (Int×Nat) (α×Nat)
namespace D
variable {α β:Type}
def ret (x:α):D α:=fun _ at_=>.ok (x,at_)
def bind (d:D α) (f:α→D β):D β:=fun b at_=>match d b at_ with
 | .ok (x,at2)=>f x b at2
 | .error e=>.error e
def num (k:Nat):D Nat:=fun b at_=>if b.length<at_+k then .error (5,b.length) else .ok (valB ((b.drop at_).take k),at_+k)
def must (d:D α) (wrong:α→Int):D α:=fun b at_=>match d b at_ with
 | .ok (x,at2)=>if wrong x=0 then .ok (x,at2) else .error (wrong x,at_)
 | .error e=>.error e
def many (d:List α→D α):Nat→List α→D (List α)
 | 0,acc=>ret acc
 | n+1,acc=>bind (d acc) fun x=>many d n (acc++ [x])
def map (f:α→β) (d:D α):D β:=bind d fun x=>ret (f x)
structure Law (d:D α) (enc:α→List UInt8) (valid:α→Prop):Prop where
 back:∀x,valid x→∀u t,d (u++(enc x++t)) u.length=.ok (x,u.length+(enc x).length)
 sound:∀b at_ x at2,d b at_=.ok (x,at2)→at_≤b.length→valid x∧at2=at_+(enc x).length∧∃t,b.drop at_=enc x++t
 cut:∀x,valid x→∀u t r,enc x=t++r→r≠ []→d (u++t) u.length=.error (5,u.length+t.length)
theorem Law.within {d:D α} {enc:α→List UInt8} {valid:α→Prop} (L:Law d enc valid) {b:List UInt8} {at_ at2:Nat} {x:α} (h:d b at_=.ok (x,at2)) (ha:at_≤b.length):at2≤b.length:=by
 obtain ⟨_,h2,t,ht⟩:=L.sound b at_ x at2 h ha
 have:=congrArg List.length ht
 rw [List.length_drop,List.length_append] at this
 omega
theorem law_num (k:Nat):Law (num k) (fun n=>leB (n:Int) k) (fun n=>n<256^k) where
 back:=fun x hx u t=>by
  unfold num
  have hl:=zaq (x:Int) k
  rw [if_neg (by simp [hl])]
  have e:((u++(leB (x:Int) k++t)).drop u.length).take k=leB (x:Int) k:=by
   rw [List.drop_left,List.take_left' hl]
  rw [e]
  have h1:=zil1 (x:Int) k
  have h2:(x:Int)%((256^k:Nat):Int)=(x:Int):=Int.emod_eq_of_lt (by omega) (by exact_mod_cast hx)
  rw [h2] at h1
  have h3:valB (leB (x:Int) k)=x:=by exact_mod_cast h1
  rw [h3,hl]
 sound:=fun b at_ x at2 h ha=>by
  unfold num at h
  by_cases hc:b.length<at_+k
  ·rw [if_pos hc] at h;cases h
  ·rw [if_neg hc] at h
   cases h
   have hl:((b.drop at_).take k).length=k:=by rw [List.length_take,List.length_drop];omega
   have h1:=zab1 ((b.drop at_).take k)
   rw [hl] at h1
   have h2:=zac1 ((b.drop at_).take k)
   rw [hl] at h2
   refine ⟨h1,by rw [zaq],(b.drop at_).drop k,?_⟩
   rw [h2,List.take_append_drop]
 cut:=fun x hx u t r he hr=>by
  unfold num
  have hl:=zaq (x:Int) k
  rw [he,List.length_append] at hl
  have:0<r.length:=List.length_pos_iff.2 hr
  rw [if_pos (by rw [List.length_append];omega),List.length_append]
theorem law_ret (x:α):Law (ret x) (fun _=> []) (fun y=>y=x) where
 back:=fun y hy u t=>by subst hy;rfl
 sound:=fun b at_ y at2 h _=>by
  cases h
  exact ⟨rfl,rfl,_,rfl⟩
 cut:=fun y _ u t r he hr=>by
  exact absurd (List.append_eq_nil_iff.1 he.symm).2 hr
theorem law_seq {γ:Type} {d1:D α} {d2:α→D β} {e1:α→List UInt8} {e2:α→β→List UInt8} {v1:α→Prop} {v2:α→β→Prop} (f:α→β→γ) (g:γ→α×β) (hfg:∀x y,v1 x→v2 x y→g (f x y)=(x,y)) (hgf:∀z,f (g z).1 (g z).2=z)
  (L1:Law d1 e1 v1) (L2:∀x,v1 x→Law (d2 x) (e2 x) (v2 x)):
  Law (bind d1 fun x=>bind (d2 x) fun y=>ret (f x y)) (fun z=>e1 (g z).1++e2 (g z).1 (g z).2) (fun z=>v1 (g z).1∧v2 (g z).1 (g z).2) where
 back:=fun z hz u t=>by
  obtain ⟨h1,h2⟩:=hz
  have a:=L1.back _ h1 u (e2 (g z).1 (g z).2++t)
  have b:=(L2 _ h1).back _ h2 (u++e1 (g z).1) t
  rw [List.append_assoc] at b
  simp only [bind]
  rw [List.append_assoc,a]
  dsimp only
  rw [List.length_append] at b
  rw [b]
  dsimp only [ret]
  rw [hgf,List.length_append,Nat.add_assoc]
 sound:=fun b at_ z at2 h ha=>by
  simp only [bind] at h
  cases h1:d1 b at_ with
  | error e=>rw [h1] at h;cases h
  | ok p=>
   obtain ⟨x,a1⟩:=p
   rw [h1] at h
   dsimp only at h
   obtain ⟨g1,g2,t1,g3⟩:=L1.sound b at_ x a1 h1 ha
   cases h2:d2 x b a1 with
   | error e=>rw [h2] at h;cases h
   | ok q=>
    obtain ⟨y,a2⟩:=q
    rw [h2] at h
    dsimp only [ret] at h
    cases h
    obtain ⟨k1,k2,t2,k3⟩:=(L2 x g1).sound b a1 y _ h2 (L1.within h1 ha)
    rw [hfg x y g1 k1]
    dsimp only
    refine ⟨⟨g1,k1⟩,by rw [List.length_append];omega,t2,?_⟩
    rw [g2] at k3
    rw [←List.drop_drop,g3,List.drop_left] at k3
    rw [g3,k3,List.append_assoc]
 cut:=fun z hz u t r he hr=>by
  obtain ⟨h1,h2⟩:=hz
  simp only [bind]
  by_cases hl:t.length<(e1 (g z).1).length
  · -- cut in the first
   obtain ⟨r1,hr1⟩:∃r1,e1 (g z).1=t++r1:=by
    have hp:t<+:e1 (g z).1:=List.prefix_of_prefix_length_le ⟨r,he.symm⟩ (List.prefix_append _ _) (Nat.le_of_lt hl)
    obtain ⟨r1,hr1⟩:=hp
    exact ⟨r1,hr1.symm⟩
   have hne:r1≠ []:=fun e=>by
    rw [e,List.append_nil] at hr1
    rw [hr1] at hl
    omega
   rw [L1.cut _ h1 u t r1 hr1 hne]
  ·obtain ⟨t2,ht2⟩:∃t2,t=e1 (g z).1++t2:=by
    have hp:e1 (g z).1<+:t:=List.prefix_of_prefix_length_le (List.prefix_append _ _) ⟨r,he.symm⟩ (by omega)
    obtain ⟨t2,ht2⟩:=hp
    exact ⟨t2,ht2.symm⟩
   subst ht2
   have he2:e2 (g z).1 (g z).2=t2++r:=by
    rw [List.append_assoc] at he
    exact List.append_cancel_left he
   have a:=L1.back _ h1 u t2
   rw [a]
   dsimp only
   have b:=(L2 _ h1).cut _ h2 (u++e1 (g z).1) t2 r he2 hr
   rw [List.append_assoc,List.length_append] at b
   rw [b]
   simp [Nat.add_assoc]
theorem law_must {d:D α} {enc:α→List UInt8} {valid:α→Prop} (L:Law d enc valid) (wrong:α→Int):Law (must d wrong) enc (fun x=>valid x∧wrong x=0) where
 back:=fun x hx u t=>by
  simp only [must,L.back x hx.1 u t,if_pos hx.2]
 sound:=fun b at_ x at2 h ha=>by
  simp only [must] at h
  cases h1:d b at_ with
  | error e=>rw [h1] at h;cases h
  | ok p=>
   obtain ⟨y,a1⟩:=p
   rw [h1] at h
   dsimp only at h
   by_cases hw:wrong y=0
   ·rw [if_pos hw] at h
    cases h
    obtain ⟨g1,g2,g3⟩:=L.sound b at_ x at2 h1 ha
    exact ⟨⟨g1,hw⟩,g2,g3⟩
   ·rw [if_neg hw] at h;cases h
 cut:=fun x hx u t r he hr=>by
  simp only [must,L.cut x hx.1 u t r he hr]
theorem Law.congr {d:D α} {enc enc':α→List UInt8} {valid valid':α→Prop} (L:Law d enc valid) (hv:∀x,valid x↔valid' x) (he:∀x,valid x→enc x=enc' x):Law d enc' valid' where
 back:=fun x hx u t=>by
  have hx:=(hv x).2 hx
  rw [←he x hx]
  exact L.back x hx u t
 sound:=fun b at_ x at2 h ha=>by
  obtain ⟨h1,h2,h3⟩:=L.sound b at_ x at2 h ha
  rw [←he x h1]
  exact ⟨(hv x).1 h1,h2,h3⟩
 cut:=fun x hx u t r hr hne=>by
  have hx:=(hv x).2 hx
  rw [←he x hx] at hr
  exact L.cut x hx u t r hr hne
theorem law_map {d:D α} {enc:α→List UInt8} {valid:α→Prop} (h:α→β) {enc':β→List UInt8} {valid':β→Prop} (L:Law d enc valid) (hv:∀y,valid' y↔∃x,valid x∧h x=y) (he:∀x,valid x→enc' (h x)=enc x):Law (map h d) enc' valid' where
 back:=fun y hy u t=>by
  obtain ⟨x,hx,rfl⟩:=(hv y).1 hy
  rw [he x hx]
  simp only [map,bind,L.back x hx u t]
  rfl
 sound:=fun b at_ y at2 hh ha=>by
  simp only [map,bind] at hh
  cases h1:d b at_ with
  | error e=>rw [h1] at hh;cases hh
  | ok p=>
   obtain ⟨x,a1⟩:=p
   rw [h1] at hh
   dsimp only [ret] at hh
   cases hh
   obtain ⟨g1,g2,g3⟩:=L.sound b at_ x _ h1 ha
   rw [he x g1]
   exact ⟨(hv _).2 ⟨x,g1,rfl⟩,g2,g3⟩
 cut:=fun y hy u t r hr hne=>by
  obtain ⟨x,hx,rfl⟩:=(hv y).1 hy
  rw [he x hx] at hr
  simp only [map,bind,L.cut x hx u t r hr hne]
def manyV (v:List α→α→Prop):List α→List α→Prop
 | _,[]=>True
 | acc,x::r=>v acc x∧manyV v (acc++ [x]) r
theorem zcb2 (d1:D α) (d2:α→D β):map (fun z:α×β=>z.2) (bind d1 fun x=>bind (d2 x) fun y=>ret (x,y))=bind d1 d2:=by
 funext b at_
 simp only [map,bind]
 cases d1 b at_ with
 | error e=>rfl
 | ok p=>
  obtain ⟨x,a1⟩:=p
  dsimp only
  cases d2 x b a1 with
  | error e=>rfl
  | ok q=>rfl
theorem law_many {d:List α→D α} {e:α→List UInt8} {v:List α→α→Prop} (L:∀acc,Law (d acc) e (v acc)):∀(n:Nat) (acc:List α),
  Law (many d n acc) (fun z=>(z.drop acc.length).flatMap e) (fun z=>∃xs,z=acc++xs∧xs.length=n∧manyV v acc xs)
 | 0,acc=>by
  refine (law_ret acc).congr (fun z=>⟨fun h=>⟨[],by rw [h,List.append_nil],rfl,trivial⟩,?_⟩) fun z h=> ?_
  ·rintro ⟨xs,rfl,hl,_⟩
   rw [List.length_eq_zero_iff.1 hl,List.append_nil]
  ·rw [h,List.drop_length];rfl
 | n+1,acc=>by
  have h:=law_seq (γ:=α×List α) (d1:=d acc) (d2:=fun x=>many d n (acc++ [x])) Prod.mk id (fun _ _ _ _=>rfl) (fun _=>rfl) (L acc) fun x _=>law_many L n (acc++ [x])
  have h2:=law_map (h:=fun z:α×List α=>z.2) (enc':=fun z=>(z.drop acc.length).flatMap e) (valid':=fun z=>∃xs,z=acc++xs∧xs.length=n+1∧manyV v acc xs) h (fun y=>⟨?_,?_⟩) ?_
  ·rw [zcb2] at h2
   exact h2
  ·rintro ⟨xs,rfl,hl,hm⟩
   cases xs with
   | nil=>simp at hl
   | cons x r=>exact ⟨(x,acc++x::r),⟨hm.1,r,by simp,by simpa using hl,hm.2⟩,rfl⟩
  ·rintro ⟨⟨x,z⟩,⟨h1,r,h3,h4,h5⟩,rfl⟩
   have h3:z=acc++ [x]++r:=h3
   refine ⟨x::r,by simp [h3],by simp [h4],h1,h5⟩
  ·rintro ⟨x,z⟩ ⟨h1,r,h3,h4,h5⟩
   have h3:z=acc++ [x]++r:=h3
   subst h3
   show ((acc++ [x]++r).drop acc.length).flatMap e=e x++((acc++ [x]++r).drop (acc++ [x]).length).flatMap e
   rw [List.drop_left,List.append_assoc,List.drop_left]
   rfl
end D
end Lf

namespace Lf
namespace D
variable {α γ:Type}
theorem law_bind {d1:D α} {d2:α→D γ} {e1:α→List UInt8} {e2:α→γ→List UInt8} {v1:α→Prop} {v2:α→γ→Prop} (g:γ→α) (hg:∀x z,v1 x→v2 x z→g z=x)
  (L1:Law d1 e1 v1) (L2:∀x,v1 x→Law (d2 x) (e2 x) (v2 x)):Law (bind d1 d2) (fun z=>e1 (g z)++e2 (g z) z) (fun z=>v1 (g z)∧v2 (g z) z):=by
 have h:=law_seq (γ:=α×γ) Prod.mk id (fun _ _ _ _=>rfl) (fun _=>rfl) L1 L2
 have h2:=law_map (h:=fun z:α×γ=>z.2) (enc':=fun z=>e1 (g z)++e2 (g z) z) (valid':=fun z=>v1 (g z)∧v2 (g z) z) h (fun y=>⟨?_,?_⟩) ?_
 ·rw [zcb2] at h2
  exact h2
 ·rintro ⟨h1,h3⟩
  exact ⟨(g y,y),⟨h1,h3⟩,rfl⟩
 ·rintro ⟨⟨x,z⟩,⟨h1,h3⟩,rfl⟩
  have h1:v1 x:=h1
  have h3:v2 x z:=h3
  show v1 (g z)∧v2 (g z) z
  rw [hg x z h1 h3]
  exact ⟨h1,h3⟩
 ·rintro ⟨x,z⟩ ⟨h1,h3⟩
  have h1:v1 x:=h1
  have h3:v2 x z:=h3
  show e1 (g z)++e2 (g z) z=e1 x++e2 x z
  rw [hg x z h1 h3]
theorem law_bindP {d1:D α} {d2:α→D γ} {e1:α→List UInt8} {v1:α→Prop} {E:γ→List UInt8} {P W:γ→Prop} (g:γ→α)
  (L1:Law d1 e1 v1) (L2:∀x,v1 x→Law (d2 x) E (fun z=>(g z=x∧P z)∧W z)):Law (bind d1 d2) (fun z=>e1 (g z)++E z) (fun z=>P z∧(v1 (g z)∧W z)):=by
 have h:=law_bind (e2:=fun _=>E) (v2:=fun x z=>(g z=x∧P z)∧W z) g (fun x z _ h=>h.1.1) L1 L2
 exact h.congr (fun z=>⟨fun h=>⟨h.2.1.2,h.1,h.2.2⟩,fun h=>⟨h.2.1,⟨rfl,h.1⟩,h.2.2⟩⟩) fun _ _=>rfl
theorem law_listP {d1:D Int} {d:Int→List α→D α} {d2:Int→List α→D γ} {e1:Int→List UInt8} {v1:Int→Prop} {e:α→List UInt8} {v:Int→List α→α→Prop} {E:γ→List UInt8} {P W:γ→Prop} (g:γ→List α)
  (h0:∀n,v1 n→0≤n) (L1:Law d1 e1 v1) (L:∀n acc,Law (d n acc) e (v n acc)) (L2:∀n l,(l.length:Int)=n→Law (d2 n l) E (fun z=>(g z=l∧P z)∧W z)):
  Law (bind d1 fun n=>bind (many (d n) n.toNat []) fun l=>d2 n l) (fun z=>e1 (g z).length++((g z).flatMap e++E z)) (fun z=>P z∧(v1 (g z).length∧(manyV (v (g z).length) [] (g z)∧W z))):=by
 refine law_bindP (fun z=>((g z).length:Int)) L1 fun n hn=> ?_
 have hl:∀l:List α,(∃xs,l=[]++xs∧xs.length=n.toNat∧manyV (v n) [] xs)→(l.length:Int)=n:=by
  rintro l ⟨xs,rfl,h1,_⟩
  have:=h0 n hn
  omega
 have h:=law_bind (e2:=fun _=>E) (v2:=fun l z=>(g z=l∧P z)∧W z) g (fun x z _ h=>h.1.1) (law_many (L n) n.toNat []) fun l hx=>L2 n l (hl l hx)
 refine h.congr (fun z=>⟨fun h=> ?_,fun h=> ?_⟩) fun z _=>by simp
 ·obtain ⟨⟨xs,h1,h2,h3⟩,⟨_,h4⟩,h5⟩:=h
  have hz:=hl (g z) ⟨xs,h1,h2,h3⟩
  have h1:g z=xs:=h1
  refine ⟨⟨hz,h4⟩,?_,h5⟩
  rw [hz,h1]
  exact h3
 ·obtain ⟨⟨hz,h4⟩,h3,h5⟩:=h
  have hz:((g z).length:Int)=n:=hz
  rw [hz] at h3
  exact ⟨⟨g z,rfl,by omega,h3⟩,⟨rfl,h4⟩,h5⟩
def mustAt (d:D α) (wrong:α→Int×Int):D α:=fun b at_=>match d b at_ with
 | .ok (x,at2)=>if (wrong x).1=0 then .ok (x,at2) else .error ((wrong x).1,at_+(wrong x).2.toNat)
 | .error e=>.error e
theorem law_mustAt {d:D α} {enc:α→List UInt8} {valid:α→Prop} (L:Law d enc valid) (wrong:α→Int×Int):Law (mustAt d wrong) enc (fun x=>valid x∧(wrong x).1=0) where
 back:=fun x hx u t=>by
  simp only [mustAt,L.back x hx.1 u t,if_pos hx.2]
 sound:=fun b at_ x at2 h ha=>by
  simp only [mustAt] at h
  cases h1:d b at_ with
  | error e=>rw [h1] at h;cases h
  | ok p=>
   obtain ⟨y,a1⟩:=p
   rw [h1] at h
   dsimp only at h
   by_cases hw:(wrong y).1=0
   ·rw [if_pos hw] at h
    cases h
    obtain ⟨g1,g2,g3⟩:=L.sound b at_ x at2 h1 ha
    exact ⟨⟨g1,hw⟩,g2,g3⟩
   ·rw [if_neg hw] at h;cases h
 cut:=fun x hx u t r he hr=>by
  simp only [mustAt,L.cut x hx.1 u t r he hr]
end D
open D
def i64 (n:Nat):Int:=if n<9223372036854775808 then n else (n:Int)-18446744073709551616
def I64 (x:Int):Prop:= -9223372036854775808≤x∧x<9223372036854775808
theorem zad1 :Law (map i64 (num 8)) (fun x=>leB x 8) I64:=by
 refine law_map i64 (law_num 8) (fun y=>⟨fun h=> ?_,?_⟩) fun x hx=> ?_
 ·obtain ⟨h1,h2⟩:=h
  refine ⟨(y%18446744073709551616).toNat,?_,?_⟩
  ·show _<18446744073709551616
   omega
  ·unfold i64
   split<;>omega
 ·rintro ⟨x,hx,rfl⟩
  have hx:x<18446744073709551616:=hx
  unfold i64 I64
  split<;>omega
 ·have hx:x<18446744073709551616:=hx
  have key:∀(k:Nat) (a b:Int),a%((256^k:Nat):Int)=b%((256^k:Nat):Int)→leB a k=leB b k:=by
   intro k a b h
   have h1:=zil1 a k
   have h2:=zil1 b k
   rw [h,←h2] at h1
   have h3:valB (leB a k)=valB (leB b k):=by exact_mod_cast h1
   have h4:=zac1 (leB a k)
   have h5:=zac1 (leB b k)
   rw [zaq] at h4 h5
   rw [←h4,←h5,h3]
  refine key 8 _ _ ?_
  show i64 x%18446744073709551616=(x:Int)%18446744073709551616
  unfold i64
  split<;>omega
def toZ (n:Nat):Int:=n
theorem zck (k:Nat):Law (map toZ (num k)) (fun x=>leB x k) (fun x=>0≤x∧x<((256^k:Nat):Int)):=
 law_map toZ (law_num k) (fun y=>⟨fun h=>⟨y.toNat,by omega,by unfold toZ;omega⟩,by rintro ⟨x,hx,rfl⟩;unfold toZ;omega⟩) fun x _=>rfl
def zD (k:Nat):D Int:=map toZ (num k)
def zrr :D PIns:=bind (zD 1) fun op=>bind (zD 1) fun a=>bind (zD 1) fun b=>bind (zD 1) fun c=>bind (map i64 (num 8)) fun imm=>ret ⟨op,a,b,c,imm⟩
def insD (n locks:Int):D PIns:=mustAt zrr fun x=>zbo x n locks
def rngE (a b:Int) (n:Int):Int:=if within n a b then 0 else 2
def cntE (most:Int) (n:Int):Int:=if n=0 then 1 else if most<n then 3 else 0
def labE (acc:List Int) (a:Int):Int:=match acc.getLast? with
 | none=>0
 | some l=>if a=l then 8 else if a<l then 7 else 0
def procD (parts locks:Int):D PProc:=bind (must (zD 1) (rngE 0 (parts-1))) fun part=>bind (must (zD 2) fun n=>if 256<n then 3 else 0) fun n=>
 bind (many (fun _=>insD n locks) n.toNat []) fun code=>ret ⟨part,code⟩
def markD :List UInt8→D Unit
 | []=>ret ()
 | c::r=>bind (must (num 1) fun n=>if n=c.toNat then 0 else 4) fun _=>markD r
def zqy :D PCfg:=bind (markD [70,66,67,70,1]) fun _=>bind (must (zD 1) (cntE 8)) fun nl=>bind (many (fun acc=>must (zD 8) (labE acc)) nl.toNat []) fun labels=>
 bind (must (zD 1) (cntE 64)) fun nt=>bind (many (fun _=>must (zD 1) (rngE 0 (nl-1))) nt.toNat []) fun table=>
 bind (must (zD 2) (rngE 1 256)) fun fuel=>bind (must (zD 1) (rngE 1 64)) fun lane=>bind (must (zD 1) (rngE 0 8)) fun locks=>bind (must (zD 2) (rngE 0 4096)) fun log=>
 bind (must (zD 1) (cntE 32)) fun np=>bind (many (fun _=>procD nl locks) np.toNat []) fun procs=>ret ⟨labels,table,fuel,lane,locks,log,procs⟩
def zfk {α:Type} (d:D α) (b:List UInt8):Except (Int×Nat) α:=
 if 1048576<b.length then .error (22,1048576) else match d b 0 with
  | .error e=>.error e
  | .ok (x,at_)=>if at_<b.length then .error (6,at_) else .ok x
def zei (b:List UInt8):Except (Int×Nat) PCfg:=zfk zqy b
theorem zqw1 :∀m:List UInt8,Law (markD m) (fun _=>m) (fun _=>True)
 | []=>(law_ret ()).congr (fun _=>by simp) fun _ _=>rfl
 | c::r=>by
  have h1:∀(x:Nat) (z:Unit),(x<256^1∧(if x=c.toNat then (0:Int) else 4)=0)→True→c.toNat=x:=fun x z h1 _=>by
   obtain ⟨_,h2⟩:=h1
   by_cases hx:x=c.toNat
   ·exact hx.symm
   ·rw [if_neg hx] at h2;cases h2
  have h:=law_bind (g:=fun _:Unit=>c.toNat) (d2:=fun _=>markD r) (e2:=fun _ _=>r) (v2:=fun _ _=>True) h1 (law_must (law_num 1) fun n=>if n=c.toNat then (0:Int) else 4) fun _ _=>zqw1 r
  ·refine h.congr (fun _=> ?_) fun _ _=> ?_
   ·simp
    exact c.toNat_lt
   ·have:=zac1 [c]
    simp only [valB,List.length_cons,List.length_nil] at this
    show leB (c.toNat:Int) 1++r=c::r
    have e:((c.toNat+256*0:Nat):Int)=(c.toNat:Int):=by omega
    rw [e] at this
    rw [this];rfl
theorem law_ins :D.Law zrr insB fun x=>(0≤x.op∧x.op<256)∧(0≤x.a∧x.a<256)∧(0≤x.b∧x.b<256)∧(0≤x.c∧x.c<256)∧I64 x.imm:=by
 have h:=D.law_bindP (P:=fun _=>True) (W:=fun z=>(0≤z.a∧z.a<((256^1:Nat):Int))∧((0≤z.b∧z.b<((256^1:Nat):Int))∧((0≤z.c∧z.c<((256^1:Nat):Int))∧(I64 z.imm∧True)))) (E:=fun z=>leB z.a 1++(leB z.b 1++(leB z.c 1++(leB z.imm 8++ [])))) (fun z:PIns=>z.op) (zck 1) fun op _=>
  D.law_bindP (W:=fun z=>(0≤z.b∧z.b<((256^1:Nat):Int))∧((0≤z.c∧z.c<((256^1:Nat):Int))∧(I64 z.imm∧True))) (E:=fun z=>leB z.b 1++(leB z.c 1++(leB z.imm 8++ []))) (fun z:PIns=>z.a) (zck 1) fun a _=>
  D.law_bindP (W:=fun z=>(0≤z.c∧z.c<((256^1:Nat):Int))∧(I64 z.imm∧True)) (E:=fun z=>leB z.c 1++(leB z.imm 8++ [])) (fun z:PIns=>z.b) (zck 1) fun b _=>
  D.law_bindP (W:=fun z=>I64 z.imm∧True) (E:=fun z=>leB z.imm 8++ []) (fun z:PIns=>z.c) (zck 1) fun c _=>
  D.law_bindP (W:=fun z=>True) (E:=fun z=> []) (fun z:PIns=>z.imm) zad1 fun imm _=>
  (D.law_ret (⟨op,a,b,c,imm⟩:PIns)).congr (fun z=>⟨fun h=>by subst h;simp,fun h=>by cases z;simp at h;simp [h]⟩) fun _ _=>rfl
 refine h.congr (fun z=> ?_) fun z _=> ?_
 ·simp
 ·simp [insB]
theorem zuc {α:Type} {V:α→Prop}:∀(l acc:List α),manyV (fun _ x=>V x) acc l↔∀x∈l,V x
 | [],_=>by simp [manyV]
 | x::r,acc=>by simp [manyV,zuc r]
def InsB (x:PIns):Prop:=(0≤x.op∧x.op<256)∧(0≤x.a∧x.a<256)∧(0≤x.b∧x.b<256)∧(0≤x.c∧x.c<256)∧I64 x.imm
def ProcV (parts locks:Int) (z:PProc):Prop:=
 (0≤z.part∧z.part<256)∧rngE 0 (parts-1) z.part=0∧z.code.length≤256∧∀x∈z.code,InsB x∧(zbo x z.code.length locks).1=0
theorem zez2 (parts locks:Int):D.Law (procD parts locks) procB (ProcV parts locks):=by
 have h:=D.law_bindP (P:=fun _=>True) (W:=fun z:PProc=>((0≤(z.code.length:Int)∧(z.code.length:Int)<((256^2:Nat):Int))∧(if 256<(z.code.length:Int) then (3:Int) else 0)=0)∧(manyV (fun _ x=>InsB x∧(zbo x z.code.length locks).1=0) [] z.code∧True))
  (E:=fun z=>leB z.code.length 2++(z.code.flatMap insB++ [])) PProc.part (D.law_must (zck 1) (rngE 0 (parts-1))) fun part _=>
  D.law_listP (d:=fun n _=>insD n locks) (v:=fun n _ x=>InsB x∧(zbo x n locks).1=0) (W:=fun _=>True) (E:=fun _=> []) PProc.code (fun n hn=>hn.1.1) (D.law_must (zck 2) fun n=>if 256<n then (3:Int) else 0)
   (fun n _=>D.law_mustAt law_ins _) fun n l _=>(D.law_ret (⟨part,l⟩:PProc)).congr (fun z=>⟨fun h=>by subst h;simp,fun h=>by cases z;simp at h;simp [h]⟩) fun _ _=>rfl
 refine h.congr (fun z=> ?_) fun z _=> ?_
 ·rw [zuc]
  unfold ProcV
  have e:(if 256<(z.code.length:Int) then (3:Int) else 0)=0↔z.code.length≤256:=by
   by_cases h:256<(z.code.length:Int)
   ·rw [if_pos h];omega
   ·rw [if_neg h];omega
  rw [e]
  constructor
  ·rintro ⟨_,⟨h1,h2⟩,⟨h3,h4⟩,h5,_⟩
   exact ⟨h1,h2,h4,h5⟩
  ·rintro ⟨h1,h2,h4,h5⟩
   exact ⟨trivial,⟨h1,h2⟩,⟨⟨by omega,by show _<(65536:Int);omega⟩,h4⟩,h5,trivial⟩
 ·simp [procB,codeB]
end Lf

namespace Lf
open D (manyV)
abbrev By (k:Nat) (x:Int):Prop:=0≤x∧x<((256^k:Nat):Int)
abbrev CfgV2 (nl locks:Int) (z:PCfg):Prop:=(By 2 z.log∧rngE 0 4096 z.log=0)∧((By 1 z.procs.length∧cntE 32 z.procs.length=0)∧(manyV (fun _ p=>ProcV nl locks p) [] z.procs∧True))
abbrev CfgV1 (nl:Int) (z:PCfg):Prop:=
 (By 1 z.table.length∧cntE 64 z.table.length=0)∧(manyV (fun _ x=>By 1 x∧rngE 0 (nl-1) x=0) [] z.table∧((By 2 z.fuel∧rngE 1 256 z.fuel=0)∧((By 1 z.lane∧rngE 1 64 z.lane=0)∧((By 1 z.locks∧rngE 0 8 z.locks=0)∧CfgV2 nl z.locks z))))
abbrev CfgV (z:PCfg):Prop:=(By 1 z.labels.length∧cntE 8 z.labels.length=0)∧(manyV (fun acc a=>By 8 a∧labE acc a=0) [] z.labels∧CfgV1 z.labels.length z)
theorem zdv1 :D.Law zqy cfgB CfgV:=by
 have h2:∀(labels table:List Int) (fuel lane:Int) (nl locks:Int),D.Law (D.bind (D.must (zD 2) (rngE 0 4096)) fun log=>D.bind (D.must (zD 1) (cntE 32)) fun np=>D.bind (D.many (fun _=>procD nl locks) np.toNat []) fun procs=>D.ret (⟨labels,table,fuel,lane,locks,log,procs⟩:PCfg))
   (fun z=>leB z.log 2++(leB z.procs.length 1++(z.procs.flatMap procB++ []))) (fun z=>(z.locks=locks∧(z.lane=lane∧(z.fuel=fuel∧(z.table=table∧(z.labels=labels∧True)))))∧CfgV2 nl locks z):=fun labels table fuel lane nl locks=>
  D.law_bindP (γ:=PCfg) (P:=fun z=>z.locks=locks∧(z.lane=lane∧(z.fuel=fuel∧(z.table=table∧(z.labels=labels∧True))))) (W:=fun z=>(By 1 z.procs.length∧cntE 32 z.procs.length=0)∧(manyV (fun _ p=>ProcV nl locks p) [] z.procs∧True))
   (E:=fun z=>leB z.procs.length 1++(z.procs.flatMap procB++ [])) PCfg.log (D.law_must (zck 2) (rngE 0 4096)) fun log _=>
   D.law_listP (γ:=PCfg) (d:=fun _ _=>procD nl locks) (v:=fun _ _ p=>ProcV nl locks p) (W:=fun _=>True) (E:=fun _=> []) PCfg.procs (fun n hn=>hn.1.1) (D.law_must (zck 1) (cntE 32)) (fun _ _=>zez2 nl locks) fun n l _=>
   (D.law_ret (⟨labels,table,fuel,lane,locks,log,l⟩:PCfg)).congr (fun z=>⟨fun h=>by subst h;simp,fun h=>by cases z;simp at h;simp [h]⟩) fun _ _=>rfl
 have h1:∀(labels:List Int) (nl:Int),D.Law (D.bind (D.must (zD 1) (cntE 64)) fun nt=>D.bind (D.many (fun _=>D.must (zD 1) (rngE 0 (nl-1))) nt.toNat []) fun table=>
   D.bind (D.must (zD 2) (rngE 1 256)) fun fuel=>D.bind (D.must (zD 1) (rngE 1 64)) fun lane=>D.bind (D.must (zD 1) (rngE 0 8)) fun locks=>D.bind (D.must (zD 2) (rngE 0 4096)) fun log=>
   D.bind (D.must (zD 1) (cntE 32)) fun np=>D.bind (D.many (fun _=>procD nl locks) np.toNat []) fun procs=>D.ret (⟨labels,table,fuel,lane,locks,log,procs⟩:PCfg))
   (fun z=>leB z.table.length 1++(z.table.flatMap (fun a=>leB a 1)++(leB z.fuel 2++(leB z.lane 1++(leB z.locks 1++(leB z.log 2++(leB z.procs.length 1++(z.procs.flatMap procB++ []))))))))
   (fun z=>(z.labels=labels∧True)∧CfgV1 nl z):=fun labels nl=>
  D.law_listP (γ:=PCfg) (d:=fun _ _=>D.must (zD 1) (rngE 0 (nl-1))) (v:=fun _ _ x=>By 1 x∧rngE 0 (nl-1) x=0) (P:=fun z=>z.labels=labels∧True)
   (W:=fun z=>(By 2 z.fuel∧rngE 1 256 z.fuel=0)∧((By 1 z.lane∧rngE 1 64 z.lane=0)∧((By 1 z.locks∧rngE 0 8 z.locks=0)∧CfgV2 nl z.locks z)))
   (E:=fun z=>leB z.fuel 2++(leB z.lane 1++(leB z.locks 1++(leB z.log 2++(leB z.procs.length 1++(z.procs.flatMap procB++ [])))))) PCfg.table (fun n hn=>hn.1.1) (D.law_must (zck 1) (cntE 64)) (fun _ _=>D.law_must (zck 1) (rngE 0 (nl-1))) fun n table _=>
   D.law_bindP (γ:=PCfg) (W:=fun z=>(By 1 z.lane∧rngE 1 64 z.lane=0)∧((By 1 z.locks∧rngE 0 8 z.locks=0)∧CfgV2 nl z.locks z)) (E:=fun z=>leB z.lane 1++(leB z.locks 1++(leB z.log 2++(leB z.procs.length 1++(z.procs.flatMap procB++ []))))) PCfg.fuel (D.law_must (zck 2) (rngE 1 256)) fun fuel _=>
   D.law_bindP (γ:=PCfg) (W:=fun z=>(By 1 z.locks∧rngE 0 8 z.locks=0)∧CfgV2 nl z.locks z) (E:=fun z=>leB z.locks 1++(leB z.log 2++(leB z.procs.length 1++(z.procs.flatMap procB++ [])))) PCfg.lane (D.law_must (zck 1) (rngE 1 64)) fun lane _=>
   D.law_bindP (γ:=PCfg) (W:=fun z=>CfgV2 nl z.locks z) (E:=fun z=>leB z.log 2++(leB z.procs.length 1++(z.procs.flatMap procB++ []))) PCfg.locks (D.law_must (zck 1) (rngE 0 8)) fun locks _=>
   (h2 labels table fuel lane nl locks).congr (fun z=>and_congr_right fun h=>by rw [h.1]) fun _ _=>rfl
 have h0:=D.law_bind (g:=fun _:PCfg=>()) (v2:=fun _ z=>True∧CfgV z) (e2:=fun _ z=>leB z.labels.length 1++(z.labels.flatMap (fun a=>leB a 8)++(leB z.table.length 1++(z.table.flatMap (fun a=>leB a 1)++(leB z.fuel 2++(leB z.lane 1++(leB z.locks 1++(leB z.log 2++(leB z.procs.length 1++(z.procs.flatMap procB++ []))))))))))
  (fun x z _ _=>rfl) (zqw1 [70,66,67,70,1]) fun _ _=>
  D.law_listP (γ:=PCfg) (d:=fun _ acc=>D.must (zD 8) (labE acc)) (v:=fun _ acc a=>By 8 a∧labE acc a=0) (P:=fun _=>True) (W:=fun z=>CfgV1 z.labels.length z)
   (E:=fun z=>leB z.table.length 1++(z.table.flatMap (fun a=>leB a 1)++(leB z.fuel 2++(leB z.lane 1++(leB z.locks 1++(leB z.log 2++(leB z.procs.length 1++(z.procs.flatMap procB++ [])))))))) PCfg.labels (fun n hn=>hn.1.1) (D.law_must (zck 1) (cntE 8)) (fun _ acc=>D.law_must (zck 8) (labE acc)) fun nl labels hl=>
   (h1 labels nl).congr (fun z=>and_congr_right fun h=>by rw [h.1,hl]) fun _ _=>rfl
 refine h0.congr (fun z=>by simp) fun z _=> ?_
 simp [cfgB]
end Lf

namespace Lf
open D (manyV)
def zim1 (e:PEntry):List UInt8:=leB e.tick 8++(leB e.proc 1++leB e.value 8)
def zae1 (w:PWaiter):List UInt8:=leB w.proc 1++leB w.value 8
def laneB (l:PLane):List UInt8:=leB l.values.length 1++(l.values.flatMap (fun v=>leB v 8)++(leB l.waiters.length 1++(l.waiters.flatMap zae1++(leB l.taken 2++leB l.dropped 2))))
def lockB (x:Int×List Int):List UInt8:=leB (x.1+1) 1++(leB x.2.length 1++x.2.flatMap fun p=>leB p 1)
def zkd1 (b:Bool):Int:=if b=true then 1 else 0
def zvq (x:PProcess):List UInt8:=
 leB x.state 1++(leB x.pc 2++(x.regs.flatMap (fun v=>leB v 8)++(leB x.cursor 1++(leB x.timer 8++(leB (zkd1 x.fired) 1++(leB x.wake 8++x.lanes.flatMap laneB))))))
def partB (x:PPart):List UInt8:=
 leB x.cursor 1++(leB x.log.length 2++(x.log.flatMap zim1++(leB x.lost 2++(leB x.forbidden 2++(x.owners.zip x.queues).flatMap lockB))))
def snapB (c:PCfg) (s:PState):List UInt8:=
 [70,66,83,78,1]++(leB (cfgB c).length 4++(cfgB c++(leB s.tick 8++(s.parts.flatMap partB++s.procs.flatMap zvq))))
def iD :D Int:=D.map i64 (D.num 8)
def mostE (most:Int) (n:Int):Int:=if most<n then 3 else 0
def zke1 :D PEntry:=D.bind iD fun tick=>D.bind (zD 1) fun proc=>D.bind iD fun value=>D.ret ⟨tick,proc,value⟩
def zaf1 :D PWaiter:=D.bind (zD 1) fun proc=>D.bind iD fun value=>D.ret ⟨proc,value⟩
def laneD (lane np:Int):D PLane:=D.bind (D.must (zD 1) (mostE lane)) fun n=>D.bind (D.many (fun _=>iD) n.toNat []) fun values=>
 D.bind (D.must (zD 1) (mostE np)) fun m=>D.bind (D.many (fun _=>zaf1) m.toNat []) fun waiters=>D.bind (zD 2) fun taken=>D.bind (zD 2) fun dropped=>D.ret ⟨values,waiters,taken,dropped⟩
theorem zcc2 :D.Law zke1 zim1 fun z=>I64 z.tick∧By 1 z.proc∧I64 z.value:=by
 have h:=D.law_bindP (P:=fun _=>True) (W:=fun z=>By 1 z.proc∧(I64 z.value∧True)) (E:=fun z=>leB z.proc 1++(leB z.value 8++ [])) (fun z:PEntry=>z.tick) zad1 fun tick _=>
  D.law_bindP (W:=fun z=>I64 z.value∧True) (E:=fun z=>leB z.value 8++ []) (fun z:PEntry=>z.proc) (zck 1) fun proc _=>
  D.law_bindP (W:=fun z=>True) (E:=fun z=> []) (fun z:PEntry=>z.value) zad1 fun value _=>
  (D.law_ret (⟨tick,proc,value⟩:PEntry)).congr (fun z=>⟨fun h=>by subst h;simp,fun h=>by cases z;simp at h;simp [h]⟩) fun _ _=>rfl
 refine h.congr (fun z=> ?_) fun z _=> ?_
 ·simp
 ·simp [zim1]
theorem zzi1 :D.Law zaf1 zae1 fun z=>By 1 z.proc∧I64 z.value:=by
 have h:=D.law_bindP (P:=fun _=>True) (W:=fun z=>I64 z.value∧True) (E:=fun z=>leB z.value 8++ []) (fun z:PWaiter=>z.proc) (zck 1) fun proc _=>
  D.law_bindP (W:=fun z=>True) (E:=fun z=> []) (fun z:PWaiter=>z.value) zad1 fun value _=>
  (D.law_ret (⟨proc,value⟩:PWaiter)).congr (fun z=>⟨fun h=>by subst h;simp,fun h=>by cases z;simp at h;simp [h]⟩) fun _ _=>rfl
 refine h.congr (fun z=> ?_) fun z _=> ?_
 ·simp
 ·simp [zae1]
def LaneV (lane np:Int) (z:PLane):Prop:=
 (By 1 z.values.length∧mostE lane z.values.length=0)∧(manyV (fun _ v=>I64 v) [] z.values∧((By 1 z.waiters.length∧mostE np z.waiters.length=0)∧(manyV (fun _ w=>By 1 w.proc∧I64 w.value) [] z.waiters∧(By 2 z.taken∧(By 2 z.dropped∧True)))))
theorem zfa2 (lane np:Int):D.Law (laneD lane np) laneB (LaneV lane np):=by
 have h:=D.law_listP (γ:=PLane) (d:=fun _ _=>iD) (v:=fun _ _ v=>I64 v) (P:=fun _=>True) (W:=fun z=>(By 1 z.waiters.length∧mostE np z.waiters.length=0)∧(manyV (fun _ w=>By 1 w.proc∧I64 w.value) [] z.waiters∧(By 2 z.taken∧(By 2 z.dropped∧True))))
  (E:=fun z=>leB z.waiters.length 1++(z.waiters.flatMap zae1++(leB z.taken 2++(leB z.dropped 2++ [])))) PLane.values (fun n hn=>hn.1.1) (D.law_must (zck 1) (mostE lane)) (fun _ _=>zad1) fun n values _=>
  D.law_listP (γ:=PLane) (d:=fun _ _=>zaf1) (v:=fun _ _ w=>By 1 w.proc∧I64 w.value) (P:=fun z=>z.values=values∧True) (W:=fun z=>By 2 z.taken∧(By 2 z.dropped∧True)) (E:=fun z=>leB z.taken 2++(leB z.dropped 2++ [])) PLane.waiters (fun n hn=>hn.1.1) (D.law_must (zck 1) (mostE np)) (fun _ _=>zzi1) fun m waiters _=>
  D.law_bindP (γ:=PLane) (W:=fun z=>By 2 z.dropped∧True) (E:=fun z=>leB z.dropped 2++ []) PLane.taken (zck 2) fun taken _=>
  D.law_bindP (γ:=PLane) (W:=fun z=>True) (E:=fun z=> []) PLane.dropped (zck 2) fun dropped _=>
  (D.law_ret (⟨values,waiters,taken,dropped⟩:PLane)).congr (fun z=>⟨fun h=>by subst h;simp,fun h=>by cases z;simp at h;simp [h]⟩) fun _ _=>rfl
 refine h.congr (fun z=> ?_) fun z _=> ?_
 ·exact ⟨fun h=>h.2,fun h=>⟨trivial,h⟩⟩
 ·simp [laneB]
def less (n:Int):Int:=n-1
def lockD (np:Int):D (Int×List Int):=D.bind (D.map less (zD 1)) fun o=>D.bind (D.must (zD 1) (mostE np)) fun n=>D.bind (D.many (fun _=>zD 1) n.toNat []) fun q=>D.ret (o,q)
theorem zfb2 :D.Law (D.map less (zD 1)) (fun o=>leB (o+1) 1) (fun o=>By 1 (o+1)):=
 D.law_map less (zck 1) (fun y=>⟨fun h=>⟨y+1,h,by unfold less;omega⟩,by rintro ⟨x,hx,rfl⟩;unfold less;rw [Int.sub_add_cancel];exact hx⟩) fun x _=>by unfold less;rw [Int.sub_add_cancel]
def LockV (np:Int) (z:Int×List Int):Prop:=By 1 (z.1+1)∧((By 1 z.2.length∧mostE np z.2.length=0)∧(manyV (fun _ p=>By 1 p) [] z.2∧True))
theorem zfc2 (np:Int):D.Law (lockD np) lockB (LockV np):=by
 have h:=D.law_bindP (γ:=Int×List Int) (P:=fun _=>True) (W:=fun z=>(By 1 z.2.length∧mostE np z.2.length=0)∧(manyV (fun _ p=>By 1 p) [] z.2∧True)) (E:=fun z=>leB z.2.length 1++(z.2.flatMap (fun p=>leB p 1)++ [])) Prod.fst zfb2 fun o _=>
  D.law_listP (γ:=Int×List Int) (d:=fun _ _=>zD 1) (v:=fun _ _ p=>By 1 p) (P:=fun z=>z.1=o∧True) (W:=fun _=>True) (E:=fun _=> []) Prod.snd (fun n hn=>hn.1.1) (D.law_must (zck 1) (mostE np)) (fun _ _=>zck 1) fun n q _=>
  (D.law_ret ((o,q):Int×List Int)).congr (fun z=>⟨fun h=>by subst h;simp,fun h=>by cases z;simp at h;simp [h]⟩) fun _ _=>rfl
 refine h.congr (fun z=>⟨fun h=>h.2,fun h=>⟨trivial,h⟩⟩) fun z _=> ?_
 simp [lockB]
def zin1 (cursor:Int) (log:List PEntry) (lost forbidden:Int) (l:List (Int×List Int)):PPart:=⟨cursor,log,lost,forbidden,l.map Prod.fst,l.map Prod.snd⟩
def partD (most locks np:Int):D PPart:=D.bind (zD 1) fun cursor=>D.bind (D.must (zD 2) (mostE most)) fun n=>D.bind (D.many (fun _=>zke1) n.toNat []) fun log=>D.bind (zD 2) fun lost=>D.bind (zD 2) fun forbidden=>
 D.bind (D.many (fun _=>lockD np) locks.toNat []) fun l=>D.ret (zin1 cursor log lost forbidden l)
def PartV (most locks np:Int) (z:PPart):Prop:=
 By 1 z.cursor∧((By 2 z.log.length∧mostE most z.log.length=0)∧(manyV (fun _ e=>I64 e.tick∧By 1 e.proc∧I64 e.value) [] z.log∧(By 2 z.lost∧(By 2 z.forbidden∧
  ((∃xs,z.owners.zip z.queues=[]++xs∧xs.length=locks.toNat∧manyV (fun _=>LockV np) [] xs)∧z.owners.length=z.queues.length)))))
theorem zhe2 (cursor:Int) (log:List PEntry) (lost forbidden:Int) (l:List (Int×List Int)) (z:PPart):
  z=zin1 cursor log lost forbidden l↔(z.owners.zip z.queues=l∧(z.forbidden=forbidden∧(z.lost=lost∧(z.log=log∧(z.cursor=cursor∧True)))))∧z.owners.length=z.queues.length:=by
 constructor
 ·rintro rfl
  refine ⟨⟨?_,rfl,rfl,rfl,rfl,trivial⟩,by simp [zin1]⟩
  show (l.map Prod.fst).zip (l.map Prod.snd)=l
  induction l with
  | nil=>rfl
  | cons x r ih=>simp [ih]
 ·obtain ⟨z1,z2,z3,z4,z5,z6⟩:=z
  rintro ⟨⟨h1,h2,h3,h4,h5,_⟩,h6⟩
  have h1:z5.zip z6=l:=h1
  have h6:z5.length=z6.length:=h6
  simp only at h2 h3 h4 h5
  subst h1 h2 h3 h4 h5
  unfold zin1
  rw [List.map_fst_zip (by omega),List.map_snd_zip (by omega)]
theorem zfd2 (most locks np:Int):D.Law (partD most locks np) partB (PartV most locks np):=by
 have h:=D.law_bindP (γ:=PPart) (P:=fun _=>True) (W:=fun z=>(By 2 z.log.length∧mostE most z.log.length=0)∧(manyV (fun _ e=>I64 e.tick∧By 1 e.proc∧I64 e.value) [] z.log∧(By 2 z.lost∧(By 2 z.forbidden∧
   ((∃xs,z.owners.zip z.queues=[]++xs∧xs.length=locks.toNat∧manyV (fun _=>LockV np) [] xs)∧z.owners.length=z.queues.length)))))
   (E:=fun z=>leB z.log.length 2++(z.log.flatMap zim1++(leB z.lost 2++(leB z.forbidden 2++(((z.owners.zip z.queues).drop 0).flatMap lockB++ []))))) PPart.cursor (zck 1) fun cursor _=>
  D.law_listP (γ:=PPart) (d:=fun _ _=>zke1) (v:=fun _ _ e=>I64 e.tick∧By 1 e.proc∧I64 e.value) (P:=fun z=>z.cursor=cursor∧True) (W:=fun z=>By 2 z.lost∧(By 2 z.forbidden∧
   ((∃xs,z.owners.zip z.queues=[]++xs∧xs.length=locks.toNat∧manyV (fun _=>LockV np) [] xs)∧z.owners.length=z.queues.length)))
   (E:=fun z=>leB z.lost 2++(leB z.forbidden 2++(((z.owners.zip z.queues).drop 0).flatMap lockB++ []))) PPart.log (fun n hn=>hn.1.1) (D.law_must (zck 2) (mostE most)) (fun _ _=>zcc2) fun n log _=>
  D.law_bindP (γ:=PPart) (W:=fun z=>By 2 z.forbidden∧((∃xs,z.owners.zip z.queues=[]++xs∧xs.length=locks.toNat∧manyV (fun _=>LockV np) [] xs)∧z.owners.length=z.queues.length))
   (E:=fun z=>leB z.forbidden 2++(((z.owners.zip z.queues).drop 0).flatMap lockB++ [])) PPart.lost (zck 2) fun lost _=>
  D.law_bindP (γ:=PPart) (W:=fun z=>(∃xs,z.owners.zip z.queues=[]++xs∧xs.length=locks.toNat∧manyV (fun _=>LockV np) [] xs)∧z.owners.length=z.queues.length)
   (E:=fun z=>((z.owners.zip z.queues).drop 0).flatMap lockB++ []) PPart.forbidden (zck 2) fun forbidden _=>
  D.law_bindP (γ:=PPart) (W:=fun z=>z.owners.length=z.queues.length) (E:=fun _=> []) (fun z=>z.owners.zip z.queues) (D.law_many (fun _=>zfc2 np) locks.toNat []) fun l _=>
  (D.law_ret (zin1 cursor log lost forbidden l)).congr (fun z=>zhe2 cursor log lost forbidden l z) fun _ _=>rfl
 refine h.congr (fun z=>⟨fun h=>h.2,fun h=>⟨trivial,h⟩⟩) fun z _=> ?_
 simp [partB]
def isOne (n:Int):Bool:=decide (n=1)
def yesE (n:Int):Int:=if 1<n then 4 else 0
theorem zcd2 :D.Law (D.map isOne (D.must (zD 1) yesE)) (fun b=>leB (zkd1 b) 1) (fun _=>True):=by
 refine D.law_map isOne (D.law_must (zck 1) yesE) (fun y=>⟨fun _=> ?_,fun _=>trivial⟩) fun x hx=> ?_
 ·cases y with
  | true=>exact ⟨1,⟨⟨by decide,by decide⟩,by decide⟩,by decide⟩
  | false=>exact ⟨0,⟨⟨by decide,by decide⟩,by decide⟩,by decide⟩
 ·obtain ⟨⟨h1,_⟩,h2⟩:=hx
  unfold yesE at h2
  have:x=0∨x=1:=by
   by_cases h:1<x
   ·rw [if_pos h] at h2;cases h2
   ·omega
  rcases this with rfl | rfl<;>rfl
def zde1 (nl:Nat) (lane np:Int):D PProcess:=D.bind (zD 1) fun state=>D.bind (zD 2) fun pc=>D.bind (D.many (fun _=>iD) 8 []) fun regs=>D.bind (zD 1) fun cursor=>D.bind iD fun timer=>
 D.bind (D.map isOne (D.must (zD 1) yesE)) fun fired=>D.bind iD fun wake=>D.bind (D.many (fun _=>laneD lane np) (nl+1) []) fun lanes=>D.ret ⟨state,pc,regs,cursor,timer,fired,wake,lanes⟩
abbrev ManyV {α:Type} (V:α→Prop) (n:Nat) (l:List α):Prop:=∃xs,l=[]++xs∧xs.length=n∧manyV (fun _=>V) [] xs
def zxv1 (nl:Nat) (lane np:Int) (z:PProcess):Prop:=
 By 1 z.state∧(By 2 z.pc∧(ManyV I64 8 z.regs∧(By 1 z.cursor∧(I64 z.timer∧(True∧(I64 z.wake∧(ManyV (LaneV lane np) (nl+1) z.lanes∧True)))))))
theorem zce2 (nl:Nat) (lane np:Int):D.Law (zde1 nl lane np) zvq (zxv1 nl lane np):=by
 have h:=D.law_bindP (γ:=PProcess) (P:=fun _=>True) (W:=fun z=>By 2 z.pc∧(ManyV I64 8 z.regs∧(By 1 z.cursor∧(I64 z.timer∧(True∧(I64 z.wake∧(ManyV (LaneV lane np) (nl+1) z.lanes∧True)))))))
   (E:=fun z=>leB z.pc 2++((z.regs.drop 0).flatMap (fun v=>leB v 8)++(leB z.cursor 1++(leB z.timer 8++(leB (zkd1 z.fired) 1++(leB z.wake 8++((z.lanes.drop 0).flatMap laneB++ []))))))) PProcess.state (zck 1) fun state _=>
  D.law_bindP (γ:=PProcess) (W:=fun z=>ManyV I64 8 z.regs∧(By 1 z.cursor∧(I64 z.timer∧(True∧(I64 z.wake∧(ManyV (LaneV lane np) (nl+1) z.lanes∧True))))))
   (E:=fun z=>(z.regs.drop 0).flatMap (fun v=>leB v 8)++(leB z.cursor 1++(leB z.timer 8++(leB (zkd1 z.fired) 1++(leB z.wake 8++((z.lanes.drop 0).flatMap laneB++ [])))))) PProcess.pc (zck 2) fun pc _=>
  D.law_bindP (γ:=PProcess) (W:=fun z=>By 1 z.cursor∧(I64 z.timer∧(True∧(I64 z.wake∧(ManyV (LaneV lane np) (nl+1) z.lanes∧True)))))
   (E:=fun z=>leB z.cursor 1++(leB z.timer 8++(leB (zkd1 z.fired) 1++(leB z.wake 8++((z.lanes.drop 0).flatMap laneB++ []))))) PProcess.regs (D.law_many (fun _=>zad1) 8 []) fun regs _=>
  D.law_bindP (γ:=PProcess) (W:=fun z=>I64 z.timer∧(True∧(I64 z.wake∧(ManyV (LaneV lane np) (nl+1) z.lanes∧True))))
   (E:=fun z=>leB z.timer 8++(leB (zkd1 z.fired) 1++(leB z.wake 8++((z.lanes.drop 0).flatMap laneB++ [])))) PProcess.cursor (zck 1) fun cursor _=>
  D.law_bindP (γ:=PProcess) (W:=fun z=>True∧(I64 z.wake∧(ManyV (LaneV lane np) (nl+1) z.lanes∧True)))
   (E:=fun z=>leB (zkd1 z.fired) 1++(leB z.wake 8++((z.lanes.drop 0).flatMap laneB++ []))) PProcess.timer zad1 fun timer _=>
  D.law_bindP (γ:=PProcess) (W:=fun z=>I64 z.wake∧(ManyV (LaneV lane np) (nl+1) z.lanes∧True))
   (E:=fun z=>leB z.wake 8++((z.lanes.drop 0).flatMap laneB++ [])) PProcess.fired zcd2 fun fired _=>
  D.law_bindP (γ:=PProcess) (W:=fun z=>ManyV (LaneV lane np) (nl+1) z.lanes∧True) (E:=fun z=>(z.lanes.drop 0).flatMap laneB++ []) PProcess.wake zad1 fun wake _=>
  D.law_bindP (γ:=PProcess) (W:=fun _=>True) (E:=fun _=> []) PProcess.lanes (D.law_many (fun _=>zfa2 lane np) (nl+1) []) fun lanes _=>
  (D.law_ret (⟨state,pc,regs,cursor,timer,fired,wake,lanes⟩:PProcess)).congr (fun z=>⟨fun h=>by subst h;simp,fun h=>by cases z;simp at h;simp [h]⟩) fun _ _=>rfl
 refine h.congr (fun z=>⟨fun h=>h.2,fun h=>⟨trivial,h⟩⟩) fun z _=> ?_
 simp [zvq]
end Lf

namespace Lf
open D (manyV)
def zsv1 (s:PState):List UInt8:=leB s.tick 8++(s.parts.flatMap partB++s.procs.flatMap zvq)
def zml1 (c:PCfg):D PState:=D.bind iD fun tick=>D.bind (D.many (fun _=>partD c.log c.locks c.procs.length) c.labels.length []) fun parts=>
 D.bind (D.many (fun _=>zde1 c.labels.length c.lane c.procs.length) c.procs.length []) fun procs=>D.ret ⟨tick,parts,procs⟩
def StateV (c:PCfg) (z:PState):Prop:=I64 z.tick∧(ManyV (PartV c.log c.locks c.procs.length) c.labels.length z.parts∧(ManyV (zxv1 c.labels.length c.lane c.procs.length) c.procs.length z.procs∧True))
theorem zcf2 (c:PCfg):D.Law (zml1 c) zsv1 (StateV c):=by
 have h:=D.law_bindP (γ:=PState) (P:=fun _=>True) (W:=fun z=>ManyV (PartV c.log c.locks c.procs.length) c.labels.length z.parts∧(ManyV (zxv1 c.labels.length c.lane c.procs.length) c.procs.length z.procs∧True))
   (E:=fun z=>(z.parts.drop 0).flatMap partB++((z.procs.drop 0).flatMap zvq++ [])) PState.tick zad1 fun tick _=>
  D.law_bindP (γ:=PState) (W:=fun z=>ManyV (zxv1 c.labels.length c.lane c.procs.length) c.procs.length z.procs∧True) (E:=fun z=>(z.procs.drop 0).flatMap zvq++ []) PState.parts (D.law_many (fun _=>zfd2 c.log c.locks c.procs.length) c.labels.length []) fun parts _=>
  D.law_bindP (γ:=PState) (W:=fun _=>True) (E:=fun _=> []) PState.procs (D.law_many (fun _=>zce2 c.labels.length c.lane c.procs.length) c.procs.length []) fun procs _=>
  (D.law_ret (⟨tick,parts,procs⟩:PState)).congr (fun z=>⟨fun h=>by subst h;simp,fun h=>by cases z;simp at h;simp [h]⟩) fun _ _=>rfl
 refine h.congr (fun z=>⟨fun h=>h.2,fun h=>⟨trivial,h⟩⟩) fun z _=> ?_
 simp [zsv1]
theorem zcg2 {α:Type} {d:D α} {enc:α→List UInt8} {valid:α→Prop} (L:D.Law d enc valid) {x:α} (hx:valid x) (hl:(enc x).length≤1048576):zfk d (enc x)=.ok x:=by
 have h:=L.back x hx [] []
 rw [List.append_nil,List.nil_append] at h
 unfold zfk
 rw [if_neg (by omega)]
 have h:d (enc x) 0=.ok (x,0+(enc x).length):=h
 rw [h]
 dsimp only
 rw [if_neg (by omega)]
theorem zpr {α:Type} {d:D α} {enc:α→List UInt8} {valid:α→Prop} (L:D.Law d enc valid) {b:List UInt8} {x:α} (h:zfk d b=.ok x):valid x∧enc x=b∧b.length≤1048576:=by
 unfold zfk at h
 by_cases hl:1048576<b.length
 ·rw [if_pos hl] at h;cases h
 ·rw [if_neg hl] at h
  cases hd:d b 0 with
  | error e=>rw [hd] at h;cases h
  | ok p=>
   obtain ⟨y,at2⟩:=p
   rw [hd] at h
   dsimp only at h
   by_cases hr:at2<b.length
   ·rw [if_pos hr] at h;cases h
   ·rw [if_neg hr] at h
    cases h
    obtain ⟨h1,h2,t,h3⟩:=L.sound b 0 _ at2 hd (Nat.zero_le _)
    rw [List.drop_zero] at h3
    have h4:=congrArg List.length h3
    rw [List.length_append] at h4
    have h5:t=[]:=List.length_eq_zero_iff.1 (by omega)
    rw [h5,List.append_nil] at h3
    exact ⟨h1,h3.symm,by omega⟩
def zcl :D PCfg:=fun b at_=>match D.num 4 b at_ with
 | .error e=>.error e
 | .ok (n,at2)=>if b.length<at2+n then .error (5,b.length) else match zei ((b.drop at2).take n) with
  | .error (e,p)=>.error (e,at2+p)
  | .ok c=>.ok (c,at2+n)
theorem zhf2 :D.Law zcl (fun c=>leB (cfgB c).length 4++cfgB c) (fun c=>CfgV c∧(cfgB c).length≤1048576) where
 back:=fun c hc u t=>by
  obtain ⟨h1,h2⟩:=hc
  have ha:=(D.law_num 4).back (cfgB c).length (show (cfgB c).length<4294967296 by omega) u (cfgB c++t)
  unfold zcl
  rw [List.append_assoc,ha]
  dsimp only
  have hl:(leB ((cfgB c).length:Int) 4).length=4:=zaq _ _
  rw [if_neg (by simp [hl];omega)]
  have e:((u++(leB ((cfgB c).length:Int) 4++(cfgB c++t))).drop (u.length+(leB ((cfgB c).length:Int) 4).length)).take (cfgB c).length=cfgB c:=by
   rw [←List.append_assoc,←List.length_append,List.drop_left,List.take_left]
  rw [e]
  have hw:zei (cfgB c)=.ok c:=zcg2 zdv1 h1 h2
  rw [hw]
  dsimp only
  rw [List.length_append,Nat.add_assoc]
 sound:=fun b at_ c at3 h ha=>by
  unfold zcl at h
  cases hn:D.num 4 b at_ with
  | error e=>rw [hn] at h;cases h
  | ok p=>
   obtain ⟨n,at2⟩:=p
   rw [hn] at h
   dsimp only at h
   obtain ⟨g1,g2,t,g3⟩:=(D.law_num 4).sound b at_ n at2 hn ha
   by_cases hc:b.length<at2+n
   ·rw [if_pos hc] at h;cases h
   ·rw [if_neg hc] at h
    cases hw:zei ((b.drop at2).take n) with
    | error e=>rw [hw] at h;cases h
    | ok x=>
     rw [hw] at h
     dsimp only at h
     cases h
     obtain ⟨k1,k2,k3⟩:=zpr zdv1 hw
     have hl:((b.drop at2).take n).length=n:=by rw [List.length_take,List.length_drop];omega
     rw [←k2] at hl k3
     refine ⟨⟨k1,k3⟩,?_,(b.drop at2).drop n,?_⟩
     ·rw [List.length_append,hl];omega
     ·have g4:b.drop at2=t:=by
       rw [g2,←List.drop_drop,g3,List.drop_left]
      rw [hl,g3,List.append_assoc]
      congr 1
      rw [k2,List.take_append_drop,g4]
 cut:=fun c hc u t r he hr=>by
  obtain ⟨h1,h2⟩:=hc
  have hl:(leB ((cfgB c).length:Int) 4).length=4:=zaq _ _
  unfold zcl
  by_cases ht:t.length<4
  ·obtain ⟨r1,hr1⟩:∃r1,leB ((cfgB c).length:Int) 4=t++r1:=by
    have hp:t<+:leB ((cfgB c).length:Int) 4:=List.prefix_of_prefix_length_le ⟨r,he.symm⟩ (List.prefix_append _ _) (by omega)
    obtain ⟨r1,hr1⟩:=hp
    exact ⟨r1,hr1.symm⟩
   have hne:r1≠ []:=fun e=>by
    rw [e,List.append_nil] at hr1
    rw [hr1] at hl
    omega
   rw [(D.law_num 4).cut (cfgB c).length (show (cfgB c).length<4294967296 by omega) u t r1 hr1 hne]
  ·obtain ⟨t2,rfl⟩:∃t2,t=leB ((cfgB c).length:Int) 4++t2:=by
    have hp:leB ((cfgB c).length:Int) 4<+:t:=List.prefix_of_prefix_length_le (List.prefix_append _ _) ⟨r,he.symm⟩ (by omega)
    obtain ⟨t2,ht2⟩:=hp
    exact ⟨t2,ht2.symm⟩
   have he2:cfgB c=t2++r:=by
    rw [List.append_assoc] at he
    exact List.append_cancel_left he
   have h3:=congrArg List.length he2
   rw [List.length_append] at h3
   have:0<r.length:=List.length_pos_iff.2 hr
   rw [(D.law_num 4).back (cfgB c).length (show (cfgB c).length<4294967296 by omega) u t2]
   dsimp only
   rw [if_pos (by simp [hl];omega)]
   simp
def snapD :D (PCfg×PState):=D.bind (markD [70,66,83,78,1]) fun _=>D.bind zcl fun c=>D.bind (zml1 c) fun s=>D.ret (c,s)
theorem zfe2 (c:PCfg) (s:PState):snapB c s=[70,66,83,78,1]++((leB (cfgB c).length 4++cfgB c)++zsv1 s):=by
 simp [snapB,zsv1]
theorem law_snap :D.Law snapD (fun z=>snapB z.1 z.2) (fun z=>(CfgV z.1∧(cfgB z.1).length≤1048576)∧StateV z.1 z.2):=by
 have h1:=D.law_seq (γ:=PCfg×PState) (d2:=zml1) (e2:=fun _=>zsv1) Prod.mk id (fun _ _ _ _=>rfl) (fun _=>rfl) zhf2 fun c _=>zcf2 c
 have h2:=D.law_bind (g:=fun _:PCfg×PState=>()) (fun _ _ _ _=>rfl) (zqw1 [70,66,83,78,1]) fun _ _=>h1
 refine h2.congr (fun z=>⟨fun h=>h.2,fun h=>⟨trivial,h⟩⟩) fun z _=> ?_
 rw [zfe2]
 rfl
end Lf

namespace Lf
open D (manyV)
theorem rngE_zero {a b n:Int}:rngE a b n=0↔a≤n∧n≤b:=by
 unfold rngE within
 by_cases h1:a≤n
 ·by_cases h2:n≤b
  ·simp [h1,h2]
  ·simp [h1,h2]
 ·simp [h1]
theorem within_true {a b n:Int}:within n a b=true↔a≤n∧n≤b:=by
 unfold within
 simp
theorem within_false {a b n:Int}:within n a b=false↔¬(a≤n∧n≤b):=by
 rw [←Bool.not_eq_true,within_true]
theorem cntE_zero {m n:Int}:cntE m n=0↔n≠0∧n≤m:=by
 unfold cntE
 by_cases h:n=0
 ·simp [h]
 ·rw [if_neg h]
  by_cases h2:m<n
  ·rw [if_pos h2];omega
  ·rw [if_neg h2];omega
theorem zch2 {acc:List Int} {a:Int}:labE acc a=0↔∀x,acc.getLast?=some x→x<a:=by
 unfold labE
 cases h:acc.getLast? with
 | none=>simp
 | some l=>
  dsimp only
  by_cases h1:a=l
  ·rw [if_pos h1]
   exact ⟨fun e=>(by cases e),fun e=>by have:=e l rfl;omega⟩
  ·rw [if_neg h1]
   by_cases h2:a<l
   ·rw [if_pos h2]
    exact ⟨fun e=>(by cases e),fun e=>by have:=e l rfl;omega⟩
   ·rw [if_neg h2]
    refine ⟨fun _ x hx=> ?_,fun _=>rfl⟩
    cases hx;omega
theorem zjo1 :∀(l acc:List Int),manyV (fun acc a=>By 8 a∧labE acc a=0) acc l↔(∀a∈l,By 8 a)∧l.Pairwise (· < ·)∧∀x,acc.getLast?=some x→∀a∈l,x<a
 | [],acc=>by simp [manyV]
 | a::r,acc=>by
  have ih:=zjo1 r (acc++ [a])
  have hl:(acc++ [a]).getLast?=some a:=by simp
  simp only [manyV]
  rw [ih,zch2,List.pairwise_cons]
  constructor
  ·rintro ⟨⟨h1,h2⟩,h3,h4,h5⟩
   have h6:=h5 a hl
   refine ⟨fun y hy=> ?_,⟨h6,h4⟩,fun x hx y hy=> ?_⟩
   ·rcases List.mem_cons.1 hy with rfl | hy
    ·exact h1
    ·exact h3 y hy
   ·have:=h2 x hx
    rcases List.mem_cons.1 hy with rfl | hy
    ·exact this
    ·have:=h6 y hy;omega
  ·rintro ⟨h1,⟨h2,h3⟩,h4⟩
   refine ⟨⟨h1 a (List.mem_cons_self ..),fun x hx=>h4 x hx a (List.mem_cons_self ..)⟩,fun y hy=>h1 y (List.mem_cons_of_mem _ hy),h3,fun x hx y hy=> ?_⟩
   rw [hl] at hx
   cases hx
   exact h2 y hy
theorem regP_zero {has:Bool} {n:Int}:regP has n=0↔(has=false→n=0)∧0≤n∧n<8:=by
 unfold regP
 cases has with
 | true=>
  rw [if_neg (by simp)]
  by_cases h:n<0∨8≤n
  ·rw [if_pos h];simp;omega
  ·rw [if_neg h];simp;omega
 | false=>
  by_cases h0:n=0
  ·subst h0;simp
  ·rw [if_pos ⟨rfl,h0⟩];simp [h0]
theorem zci2 {x:PIns} {n locks:Int} (h:(zbo x n locks).1=0):(0≤x.op∧x.op<34)∧(0≤x.a∧x.a<8)∧(0≤x.b∧x.b<8)∧(0≤x.c∧x.c<8):=by
 unfold zbo at h
 by_cases h1:x.op<0∨34≤x.op
 ·rw [if_pos h1] at h;cases h
 rw [if_neg h1] at h
 by_cases h2:regP (zay x.op).1 x.a≠0
 ·rw [if_pos h2] at h;exact absurd h h2
 rw [if_neg h2] at h
 by_cases h3:regP (zay x.op).2.1 x.b≠0
 ·rw [if_pos h3] at h;exact absurd h h3
 rw [if_neg h3] at h
 by_cases h4:regP (zay x.op).2.2.1 x.c≠0
 ·rw [if_pos h4] at h;exact absurd h h4
 have g2:=(regP_zero.1 (Decidable.not_not.1 h2)).2
 have g3:=(regP_zero.1 (Decidable.not_not.1 h3)).2
 have g4:=(regP_zero.1 (Decidable.not_not.1 h4)).2
 exact ⟨by omega,g2,g3,g4⟩
theorem zpd1 {n locks:Int}:∀ {l:List PIns} {i:Int},(codeR n locks l i).1=0↔∀x∈l,(zbo x n locks).1=0
 | [],i=>by simp [codeR]
 | x::r,i=>by
  simp only [codeR]
  by_cases h:(zbo x n locks).1=0
  ·rw [if_neg (fun hh=>hh h),zpd1]
   simp [h]
  ·rw [if_pos h]
   simp [h]
theorem zjb {l:List PIns} {locks:Int} (hl:0≤locks∧locks≤8):(codeP l locks).1=0↔l.length≤256∧∀x∈l,(zbo x l.length locks).1=0:=by
 unfold codeP
 rw [if_neg (by omega)]
 by_cases h:256<l.length
 ·rw [if_pos h]
  exact ⟨fun e=>(by cases e),fun e=>by omega⟩
 ·rw [if_neg h,zpd1]
  exact ⟨fun e=>⟨by omega,e⟩,fun e=>e.2⟩
theorem zmm1 {parts locks:Int}:∀ {l:List PProc} {i:Int},(zvp parts locks l i).1=0↔∀p∈l,(0≤p.part∧p.part≤parts-1)∧(codeP p.code locks).1=0
 | [],i=>by simp [zvp]
 | p::r,i=>by
  simp only [zvp]
  by_cases h1:within p.part 0 (parts-1)=false
  ·rw [if_pos h1]
   have:=within_false.1 h1
   exact ⟨fun e=>(by cases e),fun e=>absurd (e p (List.mem_cons_self ..)).1 this⟩
  ·rw [if_neg h1]
   have g1:=within_true.1 (Bool.not_eq_false _▸h1:within p.part 0 (parts-1)=true)
   by_cases h2:(codeP p.code locks).1=0
   ·rw [if_neg (fun hh=>hh h2),zmm1]
    simp [h2,g1]
   ·rw [if_pos h2]
    exact ⟨fun e=>absurd e h2,fun e=>absurd (e p (List.mem_cons_self ..)).2 h2⟩
def LabOK (l:List Int):Prop:=l≠ []∧l.length≤8∧l.Pairwise (· < ·)
def Typed (c:PCfg):Prop:=(∀a∈c.labels,By 8 a)∧∀p∈c.procs,∀x∈p.code,I64 x.imm
theorem cfgP_zero {m:Int} {c:PCfg}:(cfgP m c).1=0↔m=0∧c.table≠ []∧c.table.length≤64∧(∀x∈c.table,0≤x∧x≤c.labels.length-1)∧(1≤c.fuel∧c.fuel≤256)∧(1≤c.lane∧c.lane≤64)∧(0≤c.locks∧c.locks≤8)∧
  (0≤c.log∧c.log≤4096)∧c.procs≠ []∧c.procs.length≤32∧∀p∈c.procs,(0≤p.part∧p.part≤c.labels.length-1)∧(codeP p.code c.locks).1=0:=by
 unfold cfgP
 by_cases h0:m=0
 case neg=>rw [if_pos h0];exact ⟨fun e=>absurd e h0,fun e=>absurd e.1 h0⟩
 rw [if_neg (fun hh=>hh h0)]
 by_cases h1:c.table=[]
 ·rw [if_pos h1];exact ⟨fun e=>(by cases e),fun e=>absurd h1 e.2.1⟩
 rw [if_neg h1]
 by_cases h2:64<c.table.length
 ·rw [if_pos h2];exact ⟨fun e=>(by cases e),fun e=>(by have:=e.2.2.1;omega)⟩
 rw [if_neg h2]
 by_cases h3:c.table.all (fun p=>within p 0 (c.labels.length-1))=false
 ·rw [if_pos h3]
  refine ⟨fun e=>(by cases e),fun e=> ?_⟩
  have:c.table.all (fun p=>within p 0 (c.labels.length-1))=true:=List.all_eq_true.2 fun x hx=>within_true.2 (e.2.2.2.1 x hx)
  rw [this] at h3;cases h3
 rw [if_neg h3]
 have g3:∀x∈c.table,0≤x∧x≤c.labels.length-1:=fun x hx=>within_true.1 (List.all_eq_true.1 (Bool.not_eq_false _▸h3:c.table.all (fun p=>within p 0 (c.labels.length-1))=true) x hx)
 by_cases h4:within c.fuel 1 256=false
 ·rw [if_pos h4];exact ⟨fun e=>(by cases e),fun e=>absurd e.2.2.2.2.1 (within_false.1 h4)⟩
 rw [if_neg h4]
 have g4:=within_true.1 (Bool.not_eq_false _▸h4:within c.fuel 1 256=true)
 by_cases h5:within c.lane 1 64=false
 ·rw [if_pos h5];exact ⟨fun e=>(by cases e),fun e=>absurd e.2.2.2.2.2.1 (within_false.1 h5)⟩
 rw [if_neg h5]
 have g5:=within_true.1 (Bool.not_eq_false _▸h5:within c.lane 1 64=true)
 by_cases h6:within c.locks 0 8=false
 ·rw [if_pos h6];exact ⟨fun e=>(by cases e),fun e=>absurd e.2.2.2.2.2.2.1 (within_false.1 h6)⟩
 rw [if_neg h6]
 have g6:=within_true.1 (Bool.not_eq_false _▸h6:within c.locks 0 8=true)
 by_cases h7:within c.log 0 4096=false
 ·rw [if_pos h7];exact ⟨fun e=>(by cases e),fun e=>absurd e.2.2.2.2.2.2.2.1 (within_false.1 h7)⟩
 rw [if_neg h7]
 have g7:=within_true.1 (Bool.not_eq_false _▸h7:within c.log 0 4096=true)
 by_cases h8:c.procs=[]
 ·rw [if_pos h8];exact ⟨fun e=>(by cases e),fun e=>absurd h8 e.2.2.2.2.2.2.2.2.1⟩
 rw [if_neg h8]
 by_cases h9:32<c.procs.length
 ·rw [if_pos h9];exact ⟨fun e=>(by cases e),fun e=>(by have:=e.2.2.2.2.2.2.2.2.2.1;omega)⟩
 rw [if_neg h9,zmm1]
 exact ⟨fun e=>⟨h0,h1,by omega,g3,g4,g5,g6,g7,h8,by omega,e⟩,fun e=>e.2.2.2.2.2.2.2.2.2.2⟩
theorem zio1 {m:Int} {c:PCfg} (hm:m=0↔LabOK c.labels):Typed c∧(cfgP m c).1=0↔CfgV c:=by
 rw [cfgP_zero,hm]
 have hall:∀ {α:Type} {V:α→Prop} {l:List α},manyV (fun _ x=>V x) [] l↔∀x∈l,V x:=zuc _ _
 constructor
 ·rintro ⟨⟨t1,t2⟩,⟨l1,l2,l3⟩,a1,a2,a3,a4,a5,a6,a7,a8,a9,a10⟩
  have n1:0<c.labels.length:=List.length_pos_iff.2 l1
  have n2:0<c.table.length:=List.length_pos_iff.2 a1
  have n3:0<c.procs.length:=List.length_pos_iff.2 a8
  refine ⟨⟨⟨by omega,by show _<(256:Int);omega⟩,cntE_zero.2 (by omega)⟩,(zjo1 _ _).2 ⟨t1,l3,fun x hx=>by cases hx⟩,⟨⟨by omega,by show _<(256:Int);omega⟩,cntE_zero.2 (by omega)⟩,
   hall.2 fun x hx=>⟨⟨(a3 x hx).1,by have:=(a3 x hx).2;show _<(256:Int);omega⟩,rngE_zero.2 (a3 x hx)⟩,⟨⟨by omega,by show _<(65536:Int);omega⟩,rngE_zero.2 a4⟩,⟨⟨by omega,by show _<(256:Int);omega⟩,rngE_zero.2 a5⟩,
   ⟨⟨by omega,by show _<(256:Int);omega⟩,rngE_zero.2 a6⟩,⟨⟨by omega,by show _<(65536:Int);omega⟩,rngE_zero.2 a7⟩,⟨⟨by omega,by show _<(256:Int);omega⟩,cntE_zero.2 (by omega)⟩,hall.2 fun p hp=> ?_,trivial⟩
  obtain ⟨b1,b2⟩:=a10 p hp
  obtain ⟨b3,b4⟩:=(zjb a6).1 b2
  refine ⟨⟨b1.1,by omega⟩,rngE_zero.2 b1,b3,fun x hx=>⟨?_,b4 x hx⟩⟩
  obtain ⟨c1,c2,c3,c4⟩:=zci2 (b4 x hx)
  exact ⟨by omega,by omega,by omega,by omega,t2 p hp x hx⟩
 ·rintro ⟨⟨_,b1⟩,b2,⟨_,b3⟩,b4,⟨_,b5⟩,⟨_,b6⟩,⟨_,b7⟩,⟨_,b8⟩,⟨_,b9⟩,b10,_⟩
  obtain ⟨c1,c2,_⟩:=(zjo1 _ _).1 b2
  have b4:=hall.1 b4
  have b10:=hall.1 b10
  have b7:=rngE_zero.1 b7
  have d1:=cntE_zero.1 b1
  have d3:=cntE_zero.1 b3
  have d9:=cntE_zero.1 b9
  refine ⟨⟨c1,fun p hp x hx=>((b10 p hp).2.2.2 x hx).1.2.2.2.2⟩,⟨fun e=> ?_,by omega,c2⟩,fun e=> ?_,by omega,fun x hx=>rngE_zero.1 (b4 x hx).2,rngE_zero.1 b5,rngE_zero.1 b6,b7,rngE_zero.1 b8,fun e=> ?_,by omega,fun p hp=> ?_⟩
  ·rw [e] at d1;exact d1.1 rfl
  ·rw [e] at d3;exact d3.1 rfl
  ·rw [e] at d9;exact d9.1 rfl
  ·obtain ⟨_,e1,e2,e3⟩:=b10 p hp
   exact ⟨rngE_zero.1 e1,(zjb b7).2 ⟨e2,fun x hx=>(e3 x hx).2⟩⟩
end Lf

namespace Lf
open D (manyV)
section
variable {c:PCfg} {s:PState} {fl:Nat→Int→Prop}
end
end Lf

namespace Lf
open D (manyV)
theorem zjp1 {α:Type} {f:α→List UInt8} {B:Nat}:∀(l:List α),(∀x∈l,(f x).length≤B)→(l.flatMap f).length≤l.length*B
 | [],_=>by simp
 | x::r,h=>by
  have h1:=h x (List.mem_cons_self ..)
  have h2:=zjp1 r fun y hy=>h y (List.mem_cons_of_mem _ hy)
  rw [List.flatMap_cons,List.length_append,List.length_cons,Nat.succ_mul]
  omega
theorem ztc {α:Type} {V:α→Prop} {n:Nat} {l:List α} (h:ManyV V n l):l.length=n∧∀x∈l,V x:=by
 obtain ⟨xs,h1,h2,h3⟩:=h
 have h1:l=xs:=h1
 subst h1
 exact ⟨h2,(zuc _ _).1 h3⟩
end Lf

namespace Lf
open Go Go.Proofs Go.RowKit
theorem zzj1 {P:Program} {g:FuncId} {args:List Value} {sh:Shape} {K:sh.T→Hp→Prop} {h:Hp} {x:sh.T} (hc:∀w,Sub h w→Calls P g args.toArray w fun e w'=>e=.returned (sh.enc x)∧w'=w) (hk:K x h):CallT P g args sh K h:=by
 intro w hs
 refine (hc w hs).mono ?_
 rintro e w' ⟨rfl,rfl⟩
 exact ⟨_,h,rfl,⟨x,rfl,hk⟩,⟨hs,Nat.le_refl _,fun i hi hn=>⟨rfl,hn⟩,rfl,rfl,rfl⟩⟩
def hasC (s:ByteArray) (c:UInt8):Bool:=decide (0≤Lib.indexByte s.data.toList c)
theorem zvf1 {s:ByteArray} {c:UInt8} {K:Bool→Hp→Prop} {h:Hp} (hk:K (hasC s c) h):CallT Tryz.prog zuv [.string s,.string ⟨#[c]⟩] zaf K h:=by
 refine zzj1 (x:=hasC s c) (fun w _=> ?_) hk
 exact Tryz.strings_Contains_one s c w
def insOf (x:S_api_Ins):PIns:=⟨x.Op,x.A,x.B,x.C,x.Imm⟩
def fieldTab :List (List UInt8):=[[],[97,105],[97,98],[97,98,99],[97,98,99],[97,98,99],[97,98,99],[97,98,99],[97,98,99],[97,98,99],[97,98,99],[97,98,99],[97,98,99],[97,98,99],[97,98,99],[97,98,99],[97,98,99],[97,98,99],[97,98,99],[97,98,99],[97,98],[97,98],[105],[97,105],[97,98,99],[97,98],[97,98],[97],[97],[105],[105],[97],[97],[97]]
def zlb (op:Int):ByteArray:=if 0≤op∧op<34 then ⟨(fieldTab.getD op.toNat []).toArray⟩ else ⟨#[]⟩
theorem zvg1 :∀n,n<34→(decide (0≤Lib.indexByte (fieldTab.getD n []) 97),decide (0≤Lib.indexByte (fieldTab.getD n []) 98),decide (0≤Lib.indexByte (fieldTab.getD n []) 99),decide (0≤Lib.indexByte (fieldTab.getD n []) 105))=zay (n:Int):=by decide
theorem zzk1 (op:Int):(hasC (zlb op) 97,hasC (zlb op) 98,hasC (zlb op) 99,hasC (zlb op) 105)=zay op:=by
 by_cases h:0≤op∧op<34
 ·have e:=zvg1 op.toNat (by omega)
  rw [Int.toNat_of_nonneg h.1] at e
  rw [←e]
  simp [hasC,zlb,h]
 ·have e1:zlb op=⟨#[]⟩:=if_neg h
  rw [e1]
  have e2:zay op=(false,false,false,false):=by
   unfold zay
   rw [if_neg (by omega),if_neg (by omega),if_neg (by omega),if_neg (by omega),if_neg (by omega),if_neg (by omega)]
  rw [e2]
  decide
theorem zhg2 :∀n,n<34→fieldTab[n]?=some (fieldTab.getD n []):=by decide
theorem zkf1 {α:Type} (l:List α) (i:Nat):List.get?Internal l i=l[i]?:=by
 rw [←List.get?Internal_eq_getElem?]
theorem zqx1 {op:Int} {Q:ByteArray→Hp→Prop} {h:Hp} (hq:Q (zlb op) h):zsj Tryz.prog op Q h:=by
 unfold zsj
 refine letW ?_
 by_cases h0:0≤op∧op<34
 ·rw [if_neg (by simp;omega)]
  refine ⟨h0,zlb op,?_,hq⟩
  have e:zlb op=⟨(fieldTab.getD op.toNat []).toArray⟩:=if_pos h0
  rw [zkf1,e]
  have e2:=zhg2 op.toNat (by omega)
  rw [Nat.mul_one]
  have e3:(fieldTab.map fun l=>Value.string ⟨l.toArray⟩)[op.toNat]?=some (Value.string ⟨(fieldTab.getD op.toNat []).toArray⟩):=by rw [List.getElem?_map,e2];rfl
  exact e3
 ·rw [if_pos (by simp;omega)]
  have e:zlb op=⟨#[]⟩:=if_neg h0
  rw [e] at hq
  exact hq
theorem zoe {P:Program} {g:FuncId} {first captured:Array Value} {args:List Value} {sh:Shape} {K:sh.T→Hp→Prop} {h:Hp} (hg:tb.call g=true) (hc:CallT P g (first.toList++args++captured.toList) sh K h):CallV P tb (.func (.func g) first captured) args sh K h:=
 ⟨g,first,captured,rfl,hg,hc⟩
theorem zip1 {op:Int} {Q:Bool→Bool→Bool→Bool→Hp→Prop} {h:Hp} (hq:∀h',h≤h'→Q (zay op).1 (zay op).2.1 (zay op).2.2.1 (zay op).2.2.2 h'):zsg Tryz.prog op Q h:=by
 unfold zsg
 refine zkx1 (zqx1 ?_)
 intro b t hn
 refine zeo (b:=b) (off:=0) (cs:=[.string ⟨#[]⟩]) ⟨t,zla⟩ (by simp) fun h3 hm hb=> ?_
 have hle:h≤h3:=(((Mv.new hn).trans hm).le (Hp.le_refl h) (by simp)).1
 have hl:LdIs h3 ⟨b,0,none⟩ [.string (zlb op)]:=hb.ldIs (n:=1) (by rfl)
 have one:∀(c:UInt8) (K:Bool→Hp→Prop),K (hasC (zlb op) c) h3→CallV Tryz.prog tb (.func (.func zti) #[] #[.pointer (some ⟨b,0,none⟩)]) [.string ⟨#[c]⟩] zaf K h3:=fun c K hk=>by
  refine zoe rfl (zij1 ?_)
  unfold ztj
  refine ld_at (sh:=shStr) (zlb op) hl ?_
  exact zvf1 hk
 have e:=zzk1 op
 rw [←e] at hq
 exact one 97 _ (one 98 _ (one 99 _ (one 105 _ (hq h3 hle))))
theorem zgo1 {P:Program} {has:Bool} {n:Int} {Q:Int→Hp→Prop} {h:Hp} (hq:Q (regP has n) h):znj P has n Q h:=by
 unfold znj
 refine letW ?_
 unfold regP at hq
 by_cases h1:has=false∧n≠0
 ·rw [if_pos h1] at hq
  rw [if_pos (by simp [h1.1,h1.2])]
  exact hq
 ·rw [if_neg h1] at hq
  rw [if_neg (by cases has<;>simp at h1 ⊢;exact h1)]
  refine letW ?_
  by_cases h2:n<0∨8≤n
  ·rw [if_pos h2] at hq
   rw [if_pos (by simp;omega)]
   exact hq
  ·rw [if_neg h2] at hq
   rw [if_neg (by simp;omega)]
   exact hq
theorem zcj2 {P:Program} {x:S_api_Ins} {has:Bool} {n locks:Int} {Q:Int→Hp→Prop} {h:Hp}
  (hq:Q (if has=false∧x.Imm≠0 then 11 else if (x.Op=22∨x.Op=23)∧(x.Imm<0∨n<x.Imm) then 12 else if (x.Op=29∨x.Op=30)∧(x.Imm<0∨locks≤x.Imm) then 13 else 0) h):zsh P x has n locks Q h:=by
 unfold zsh
 refine letW ?_
 by_cases h1:has=false∧x.Imm≠0
 ·rw [if_pos h1] at hq
  rw [if_pos (by simp [h1.1,h1.2])]
  exact hq
 ·rw [if_neg h1] at hq
  rw [if_neg (by cases has<;>simp at h1 ⊢;exact h1)]
  refine letW ?_
  by_cases h2:x.Op=22∨x.Op=23
  ·rw [if_pos (by simp;exact h2)]
   refine letW ?_
   by_cases h3:x.Imm<0∨n<x.Imm
   ·rw [if_pos ⟨h2,h3⟩] at hq
    rw [if_pos (by simp;omega)]
    exact hq
   ·rw [if_neg (fun e=>h3 e.2),if_neg (by omega)] at hq
    rw [if_neg (by simp;omega)]
    exact hq
  ·rw [if_neg (fun e=>h2 e.1)] at hq
   rw [if_neg (by simp;omega)]
   refine letW ?_
   by_cases h4:x.Op=29∨x.Op=30
   ·rw [if_pos (by simp;exact h4)]
    refine letW ?_
    by_cases h5:x.Imm<0∨locks≤x.Imm
    ·rw [if_pos ⟨h4,h5⟩] at hq
     rw [if_pos (by simp;omega)]
     exact hq
    ·rw [if_neg (fun e=>h5 e.2)] at hq
     rw [if_neg (by simp;omega)]
     exact hq
   ·rw [if_neg (fun e=>h4 e.1)] at hq
    rw [if_neg (by simp;omega)]
    exact hq
theorem zff2 {x:S_api_Ins} {n locks:Int} {Q:Int→Int→Hp→Prop} {h:Hp} (hq:∀h' at_,h≤h'→((zbo (insOf x) n locks).1≠0→at_=(zbo (insOf x) n locks).2)→Q (zbo (insOf x) n locks).1 at_ h'):zux Tryz.prog x n locks Q h:=by
 unfold zux
 refine letW ?_
 have le:=Hp.le_refl h
 rw [show zbo (insOf x) n locks=(if x.Op<0∨34≤x.Op then (9,0)
  else if regP (zay x.Op).1 x.A≠0 then (regP (zay x.Op).1 x.A,1)
  else if regP (zay x.Op).2.1 x.B≠0 then (regP (zay x.Op).2.1 x.B,2)
  else if regP (zay x.Op).2.2.1 x.C≠0 then (regP (zay x.Op).2.2.1 x.C,3)
  else if (zay x.Op).2.2.2=false∧x.Imm≠0 then (11,4)
  else if (x.Op=22∨x.Op=23)∧(x.Imm<0∨n<x.Imm) then (12,4)
  else if (x.Op=29∨x.Op=30)∧(x.Imm<0∨locks≤x.Imm) then (13,4)
  else (0,0)) from rfl] at hq
 by_cases h1:x.Op<0∨34≤x.Op
 ·rw [if_pos h1] at hq
  rw [if_pos (by simp;omega)]
  exact hq h 0 le fun _=>rfl
 ·rw [if_neg h1] at hq
  rw [if_neg (by simp;omega)]
  refine zam1 (zip1 fun h1 l1=> ?_)
  dsimp only
  refine zoc (zgo1 ?_)
  by_cases h2:regP (zay x.Op).1 x.A≠0
  ·rw [if_pos h2] at hq
   rw [if_pos (by simpa using h2)]
   exact hq h1 1 l1 fun _=>rfl
  ·rw [if_neg h2] at hq
   rw [if_neg (by simpa using h2)]
   refine zoc (zgo1 ?_)
   by_cases h3:regP (zay x.Op).2.1 x.B≠0
   ·rw [if_pos h3] at hq
    rw [if_pos (by simpa using h3)]
    exact hq h1 2 l1 fun _=>rfl
   ·rw [if_neg h3] at hq
    rw [if_neg (by simpa using h3)]
    refine zoc (zgo1 ?_)
    by_cases h4:regP (zay x.Op).2.2.1 x.C≠0
    ·rw [if_pos h4] at hq
     rw [if_pos (by simpa using h4)]
     exact hq h1 3 l1 fun _=>rfl
    ·rw [if_neg h4] at hq
     rw [if_neg (by simpa using h4)]
     refine zkv1 (zcj2 ?_)
     by_cases h5:(zay x.Op).2.2.2=false∧x.Imm≠0
     ·rw [if_pos h5] at hq ⊢
      exact hq h1 4 l1 fun _=>rfl
     ·rw [if_neg h5] at hq ⊢
      by_cases h6:(x.Op=22∨x.Op=23)∧(x.Imm<0∨n<x.Imm)
      ·rw [if_pos h6] at hq ⊢
       exact hq h1 4 l1 fun _=>rfl
      ·rw [if_neg h6] at hq ⊢
       by_cases h7:(x.Op=29∨x.Op=30)∧(x.Imm<0∨locks≤x.Imm)
       ·rw [if_pos h7] at hq ⊢
        exact hq h1 4 l1 fun _=>rfl
       ·rw [if_neg h7] at hq ⊢
        exact hq h1 4 l1 fun e=>absurd rfl e
theorem zxw1 {x:S_api_Ins} {n locks:Int} {Q:Int→Hp→Prop} {h:Hp} (hq:∀h',h≤h'→Q (zbo (insOf x) n locks).1 h'):zuw Tryz.prog x n locks Q h:=by
 unfold zuw
 exact zmh1 (zff2 fun h' _ l _=>hq h' l)
abbrev InsS (h:Hp) (l:Sl) (xs:List S_api_Ins):Prop:=Rs h sh_api_Ins 5 l xs
theorem zpe1 {l:Sl} {xs:List S_api_Ins} {locks:Int} {Q:Int→Int→Hp→Prop} {h:Hp} (r:InsS h l xs) (hq:∀h',h≤h'→Q (codeP (xs.map insOf) locks).1 (codeP (xs.map insOf) locks).2 h'):zdq1 Tryz.prog l locks Q h:=by
 unfold zdq1
 have hlen:=r.1
 refine letW ?_
 unfold codeP at hq
 by_cases h1:locks<0∨8<locks
 ·rw [if_pos h1] at hq
  rw [if_pos (by simp;omega)]
  exact hq h (Hp.le_refl h)
 ·rw [if_neg h1,List.length_map] at hq
  rw [if_neg (by simp;omega)]
  by_cases h2:256<xs.length
  ·rw [if_pos h2] at hq
   rw [if_pos (by simp;omega)]
   exact hq h (Hp.le_refl h)
  ·rw [if_neg h2] at hq
   rw [if_neg (by simp;omega)]
   refine LoopW1.intro (fun i k=>h≤k∧0≤i∧i≤(xs.length:Int)∧codeR xs.length locks ((xs.drop i.toNat).map insOf) i=codeR xs.length locks (xs.map insOf) 0) (fun i _=>(xs.length-i).toNat) ⟨Hp.le_refl h,by omega,by omega,rfl⟩ ?_
   rintro i k ⟨hle,h0,hi,he⟩
   by_cases h3:i<(xs.length:Int)
   ·rw [if_pos (decide_eq_true (by omega))]
    refine Rs.get (sh:=sh_api_Ins) (Rw.mono hle r) (fun _=>rfl) (by omega) h0 h3 fun x hx=> ?_
    refine zcu1 (zxw1 fun k' hle'=> ?_)
    have hd:xs.drop i.toNat=x::xs.drop (i.toNat+1):=by
     obtain ⟨hx1,hx2⟩:=List.getElem?_eq_some_iff.1 hx
     rw [←hx2];exact List.drop_eq_getElem_cons hx1
    rw [hd,List.map_cons,codeR] at he
    rw [hlen]
    by_cases h4:(zbo (insOf x) xs.length locks).1≠0
    ·rw [if_pos h4] at he
     rw [if_pos (by simpa using h4)]
     rw [←he] at hq
     exact hq k' (Hp.le_trans hle hle')
    ·rw [if_neg h4] at he
     rw [if_neg (by simpa using h4)]
     have hw:IntKind.wrap .i64 (i+1)=i+1:=zak (by omega) (by omega)
     rw [hw]
     refine ⟨⟨Hp.le_trans hle hle',by omega,by omega,?_⟩,by omega⟩
     have:(i+1).toNat=i.toNat+1:=by omega
     rw [this];exact he
   ·rw [if_neg (by simp;omega)]
    have hd:xs.drop i.toNat=[]:=List.drop_eq_nil_of_le (by omega)
    rw [hd] at he
    rw [←he] at hq
    exact hq k hle
end Lf

namespace Lf
open Go
def eB (b:UInt8):List Value:=[.int .u8 (b.toNat:Int)]
theorem zmf (b:UInt8):(eB b).length=1:=rfl
theorem eB_ok (b:UInt8):zdu (eB b)=true:=rfl
abbrev Bs (h:Hp) (l:Sl) (bs:List UInt8):Prop:=Rw h 1 eB l bs
abbrev OwnB (h0 h:Hp) (l:Sl) (bs:List UInt8):Prop:=Own h0 h 1 eB l bs
theorem zck2 {α:Type} {h0 h:Hp} {sz n bytes:Nat} {enc:α→List Value} {zero cs:List Value} {l:Sl} {xs ys:List α} {K:Sl→Hp→Prop} (hw:h0≤h) (o:Own h0 h sz enc l xs) (hc:cs=ys.flatMap enc) (hn:n=ys.length)
  (henc:∀x,(enc x).length=sz) (hok:∀x,zdu (enc x)=true) (hz:zero.length=sz) (hb:xs.length+ys.length≤140737488355328∧(xs.length+ys.length)*bytes≤140737488355328)
  (hk:∀l' h',h0≤h'→Own h0 h' sz enc l' (xs++ys)→(∀b ob,h b=some ob→(∀a,l.base=some a→a.block≠b)→h' b=some ob)→K l' h'):NewW cs (fun a h2=>zas sz bytes zero l ⟨some a,n,n⟩ K h2) h:=by
 subst hn
 refine zjn1 (h0:=h0) hw hc henc fun a h2 hle ho2=> ?_
 refine zqs1 (Hp.le_trans hw hle) (o.mono hle) (ho2.rw henc) henc hok hz hb fun l' h' hl' ho' hk'=>hk l' h' hl' ho' fun b ob e hne=>hk' b ob (hle b ob e) hne
theorem zsw1 (bs:List UInt8):bs.flatMap eB=bs.map fun b=>.int .u8 (b.toNat:Int):=by
 induction bs with
 | nil=>rfl
 | cons b bs ih=>rw [List.flatMap_cons,ih];rfl
theorem zjq1 (n:Int):((UInt8.ofNat (n%256).toNat).toNat:Int)=n%256:=by
 rw [UInt8.toNat_ofNat']
 have:(n%256).toNat<256:=by omega
 omega
theorem wrap8 (n:Int):IntKind.wrap .u8 n=((UInt8.ofNat (n%256).toNat).toNat:Int):=by
 rw [zjq1]
 rfl
theorem zvh1 (n:Int):∀(k i:Nat),i<k→(leB n k)[i]?=some (UInt8.ofNat ((n / ((256^i:Nat):Int))%256).toNat)
 | 0,_,h=>by omega
 | k+1,0,_=>by simp [leB]
 | k+1,i+1,h=>by
  simp only [leB,List.getElem?_cons_succ]
  have e:n / 256 / ((256^i:Nat):Int)=n / ((256^(i+1):Nat):Int):=by
   rw [Int.ediv_ediv_of_nonneg (by decide)]
   congr 1
   rw [Nat.pow_succ,Int.natCast_mul,Int.mul_comm];rfl
  rw [zvh1 (n / 256) k i (by omega),e]
theorem zsx1 {n m:Int} {k:Nat} (h:n%((256^k:Nat):Int)=m%((256^k:Nat):Int)):leB n k=leB m k:=by
 have h1:=zil1 n k
 have h2:=zil1 m k
 have e:valB (leB n k)=valB (leB m k):=by omega
 have h3:=zac1 (leB n k)
 have h4:=zac1 (leB m k)
 rw [zaq] at h3 h4
 rw [←h3,e,h4]
theorem ziq1 {n:Int} {k:Nat} (hk:k≤8):leB (IntKind.wrap .u64 n) k=leB n k:=by
 apply zsx1
 have e:IntKind.wrap .u64 n=n%((256^8:Nat):Int):=rfl
 rw [e]
 have hd:((256^k:Nat):Int) ∣ ((256^8:Nat):Int):=Int.natCast_dvd_natCast.2 (Nat.pow_dvd_pow 256 hk)
 exact Int.emod_emod_of_dvd n hd
theorem zfg2 (n:Int) {i:Nat} (hi:i<8):shrI .u64 n (8*(i:Int))=n / ((256^i:Nat):Int):=by
 have e:((256^i:Nat):Int)=2^(8*i):=by
  rw [show (256:Nat)=2^8 from rfl,←Nat.pow_mul]
  exact Int.natCast_pow 2 (8*i)
 rw [e]
 have e2:min (8*(i:Int)).toNat IntKind.u64.bits=8*i:=by
  have:IntKind.u64.bits=64:=rfl
  omega
 unfold shrI
 rw [e2,Int.fdiv_eq_ediv_of_nonneg _ (Int.le_of_lt (Int.pow_pos (by decide)))]
theorem zxx1 (n:Int) {i:Int} (h0:0≤i) (h1:i<8):IntKind.wrap .i64 (8*i)=8*i∧IntKind.wrap .u8 (shrI .u64 n (8*i))=((UInt8.ofNat ((n / ((256^i.toNat:Nat):Int))%256).toNat).toNat:Int):=by
 refine ⟨zak (by omega) (by omega),?_⟩
 have e:(8*i)=8*((i.toNat:Nat):Int):=by omega
 rw [e,zfg2 n (by omega),wrap8]
section
variable {h0 h:Hp} {l:Sl} {bs:List UInt8} {K:Sl→Hp→Prop}
theorem zud (hw:h0≤h) (o:OwnB h0 h l bs) {cs:List Value} (cs':List UInt8) {n:Nat} (hc:cs=cs'.map fun b=>.int .u8 (b.toNat:Int)) (hn:n=cs'.length) (hb:bs.length+cs'.length≤1099511627776)
  (hk:∀l' h',h0≤h'→OwnB h0 h' l' (bs++cs')→(∀b ob,h b=some ob→(∀a,l.base=some a→a.block≠b)→h' b=some ob)→K l' h'):NewW cs (fun a h2=>zas 1 1 [.int .u8 0] l ⟨some a,n,n⟩ K h2) h:=
 zck2 hw o (by rw [hc,zsw1]) hn zmf eB_ok rfl (by omega) hk
theorem zcl2 {n m:Int} {k:Nat} (hm:m=(k:Int)) (hk8:k≤8) (hw:h0≤h) (o:OwnB h0 h l bs) (hb:bs.length+8≤1099511627776) (hk:∀l' h',h0≤h'→OwnB h0 h' l' (bs++leB n k)→K l' h'):
  LoopW2 (α1:=Sl) (α2:=Int) (fun again b1 t9 h1=>
   (if (decide (t9<m))=true then
    ((0:Int)≤(IntKind.wrap .i64 ((8:Int)*t9))∧NewW [(.int .u8 (IntKind.wrap .u8 (shrI .u64 n (IntKind.wrap .i64 ((8:Int)*t9)))))] (fun a h2=>
     zas 1 1 [(.int .u8 (0:Int))] ⟨b1.base,b1.len,b1.cap⟩ ⟨(some a),1,1⟩ (fun r h3=>
      again r (IntKind.wrap .i64 (t9+(1:Int))) h3) h2) h1)
   else K b1 h1)) l (0:Int) h:=by
 subst hm
 refine LoopW2.intro (fun b1 i h1=>0≤i∧i≤(k:Int)∧h0≤h1∧OwnB h0 h1 b1 (bs++(leB n k).take i.toNat)) (fun _ i _=>(k-i).toNat) ⟨by omega,by omega,hw,by simpa using o⟩ ?_
 rintro b1 i h1 ⟨hi0,hi1,hle,ho⟩
 by_cases hi:i<(k:Int)
 ·rw [if_pos (decide_eq_true hi)]
  obtain ⟨e1,e2⟩:=zxx1 n hi0 (by omega)
  rw [e1,e2]
  refine ⟨by omega,?_⟩
  refine zud hle ho [UInt8.ofNat ((n / ((256^i.toNat:Nat):Int))%256).toNat] rfl rfl (by simp [zaq];omega) fun l' h' hle' ho' _=> ?_
  rw [zak (by omega) (by omega)]
  refine ⟨⟨by omega,by omega,hle',?_⟩,by omega⟩
  have e3:(i+1).toNat=i.toNat+1:=by omega
  rw [e3,List.take_add_one,zvh1 n k i.toNat (by omega),←List.append_assoc]
  exact ho'
 ·rw [if_neg (fun e=>hi (of_decide_eq_true e))]
  have:i.toNat=k:=by omega
  rw [this,List.take_of_length_le (by rw [zaq];omega)] at ho
  exact hk b1 h1 hle ho
theorem zdw1 {P:Program} {n m:Int} {k:Nat} (hm:m=(k:Int)) (hk8:k≤8) (hw:h0≤h) (o:OwnB h0 h l bs) (hb:bs.length+8≤1099511627776) (hk:∀l' h',h0≤h'→OwnB h0 h' l' (bs++leB n k)→K l' h'):zdp1 P l n m K h:=by
 unfold zdp1
 exact zcl2 hm hk8 hw o hb hk
theorem zxy1 {sh:Shape} {sz:Nat} {src:Sl} {xs:List sh.T} {es:List (List UInt8)} {body:sh.T→Sl→(Sl→Hp→Prop)→Hp→Prop} (M:Nat) (henc:∀x,(zae (sh.enc x)).length=sz) (hsz:0<sz) (r:Rs h0 sh sz src xs) (hw:h0≤h) (o:OwnB h0 h l bs)
  (hes:es.length=xs.length) (hlen:xs.length≤1000000) (hM:∀x∈es,x.length≤M)
  (hb:∀(i:Nat) x e b bs' h1 k,xs[i]?=some x→es[i]?=some e→h0≤h1→OwnB h0 h1 b bs'→bs'.length≤bs.length+i*M→(∀l' h',h0≤h'→OwnB h0 h' l' (bs'++e)→k l' h')→body x b k h1)
  (hk:∀l' h',h0≤h'→OwnB h0 h' l' (bs++es.flatten)→K l' h'):
  LoopW2 (α1:=Sl) (α2:=Int) (fun again b t h1=>
   (if (decide (t<((src.len:Nat):Int)))=true then
    ((InB src.base src.len t)∧LdW none sh h1 (sat src.base sz t) fun x=>body x b (fun r h'=>again r (IntKind.wrap .i64 (t+(1:Int))) h') h1)
   else K b h1)) l (0:Int) h:=by
 have hl:=r.1
 refine LoopW2.intro (fun b1 i h1=>0≤i∧i≤(xs.length:Int)∧h0≤h1∧OwnB h0 h1 b1 (bs++(es.take i.toNat).flatten)) (fun _ i _=>(xs.length-i).toNat) ⟨by omega,by omega,hw,by simpa using o⟩ ?_
 rintro b1 i h1 ⟨hi0,hi1,hle,ho⟩
 by_cases hi:i<(xs.length:Int)
 ·rw [if_pos (decide_eq_true (by omega))]
  refine Rs.get (sh:=sh) (Rw.mono hle r) henc hsz hi0 hi fun x hx=> ?_
  have he:es[i.toNat]?=some (es[i.toNat]'(by omega)):=List.getElem?_eq_getElem (by omega)
  refine hb i.toNat x _ b1 _ h1 _ hx he hle ho ?_ fun l' h' hle' ho'=> ?_
  ·rw [List.length_append]
   have:((es.take i.toNat).flatMap fun x=>x).length≤(es.take i.toNat).length*M:=zjp1 _ fun y hy=>hM y (List.mem_of_mem_take hy)
   have h2:(es.take i.toNat).length=i.toNat:=by rw [List.length_take];omega
   rw [h2] at this
   rw [List.flatMap_id'] at this
   omega
  ·rw [zak (by omega) (by omega)]
   refine ⟨⟨by omega,by omega,hle',?_⟩,by omega⟩
   have e3:(i+1).toNat=i.toNat+1:=by omega
   rw [e3,List.take_add_one,he,List.flatten_append,←List.append_assoc]
   simp only [Option.toList,List.flatten_cons,List.flatten_nil,List.append_nil]
   exact ho'
 ·rw [if_neg (fun e=>hi (by have:=of_decide_eq_true e;omega))]
  have:es.take i.toNat=es:=List.take_of_length_le (by omega)
  rw [this] at ho
  exact hk b1 h1 hle ho
theorem zvi1 {sh:Shape} {sz:Nat} {src:Sl} {xs:List sh.T} {e:sh.T→List UInt8} {body:sh.T→Sl→(Sl→Hp→Prop)→Hp→Prop} (M:Nat) (henc:∀x,(zae (sh.enc x)).length=sz) (hsz:0<sz) (r:Rs h0 sh sz src xs) (hw:h0≤h) (o:OwnB h0 h l bs)
  (hlen:xs.length≤1000000) (hM:∀x∈xs,(e x).length≤M)
  (hb:∀(i:Nat) x b bs' h1 k,xs[i]?=some x→h0≤h1→OwnB h0 h1 b bs'→bs'.length≤bs.length+i*M→(∀l' h',h0≤h'→OwnB h0 h' l' (bs'++e x)→k l' h')→body x b k h1)
  (hk:∀l' h',h0≤h'→OwnB h0 h' l' (bs++xs.flatMap e)→K l' h'):
  LoopW2 (α1:=Sl) (α2:=Int) (fun again b t h1=>
   (if (decide (t<((src.len:Nat):Int)))=true then
    ((InB src.base src.len t)∧LdW none sh h1 (sat src.base sz t) fun x=>body x b (fun r h'=>again r (IntKind.wrap .i64 (t+(1:Int))) h') h1)
   else K b h1)) l (0:Int) h:=by
 refine zxy1 (es:=xs.map e) M henc hsz r hw o (by simp) hlen (fun y hy=>by obtain ⟨x,hx,rfl⟩:=List.mem_map.1 hy;exact hM x hx) (fun i x y b bs' h1 k hx hy=> ?_) (by rw [←List.flatMap_def];exact hk)
 rw [List.getElem?_map,hx] at hy
 cases hy
 exact hb i x b bs' h1 k hx
end
end Lf

namespace Lf
open Go
abbrev InU (x:Int):Prop:=0≤x∧x<18446744073709551616
def bit (x:Int) (n:Nat):Bool:=x.toNat.testBit n
theorem wrapU {x:Int} (h:InU x):IntKind.wrap .u64 x=x:=by
  unfold IntKind.wrap
  simp only [IntKind.signed,IntKind.bits]
  have:=h.1
  have:=h.2
  simp
  omega
theorem zir1 {x:Int} (h:InU x):BitVec.ofInt 64 x=BitVec.ofNat 64 x.toNat:=by
  obtain ⟨n,rfl⟩:=Int.eq_ofNat_of_zero_le h.1
  rfl
theorem zhh2 {x n:Int} (h:InU x) (h0:0≤n) (h1:n≤63):(bitsI .and .u64 (shrI .u64 x n) 1==1)=bit x n.toNat:=by
  obtain ⟨X,rfl⟩:=Int.eq_ofNat_of_zero_le h.1
  obtain ⟨N,rfl⟩:=Int.eq_ofNat_of_zero_le h0
  have hX:X<18446744073709551616:=by have:=h.2;omega
  have hN:N≤63:=by omega
  have e1:shrI .u64 (X:Int) (N:Int)=((X / 2^N:Nat):Int):=by
    unfold shrI
    have:min (N:Int).toNat (IntKind.bits .u64)=N:=by simp [IntKind.bits];omega
    rw [this,Int.fdiv_eq_ediv_of_nonneg _ (by exact Int.pow_nonneg (by decide))]
    norm_cast
  rw [e1]
  have hlt:X / 2^N<18446744073709551616:=Nat.lt_of_le_of_lt (Nat.div_le_self _ _) hX
  have e2:((BitVec.ofInt (IntKind.bits .u64) ((X / 2^N:Nat):Int)&&&BitVec.ofInt (IntKind.bits .u64) 1).toNat)=(X / 2^N)%2:=by
    show ((BitVec.ofNat 64 (X / 2^N))&&&(BitVec.ofNat 64 1)).toNat=_
    rw [BitVec.toNat_and,BitVec.toNat_ofNat,BitVec.toNat_ofNat,Nat.mod_eq_of_lt hlt]
    exact Nat.and_one_is_mod _
  simp only [bitsI,e2]
  rw [wrapU ⟨by omega,by omega⟩]
  simp only [bit,Int.toNat_natCast,Nat.testBit_eq_decide_div_mod_eq]
  by_cases hb:(X / 2^N)%2=1
  · simp [hb]
  · have:(X / 2^N)%2=0:=by omega
    simp [this]
theorem zhi2 {a b:Int} (ha:InU a) (hb:InU b):(bitsI .andNot .u64 a b==0)=true↔∀n,n<64→bit a n=true→bit b n=true:=by
  have e:bitsI .andNot .u64 a b=(((BitVec.ofNat 64 a.toNat)&&& ~~~ (BitVec.ofNat 64 b.toNat)).toNat:Int):=by
    show IntKind.wrap .u64 ((BitVec.ofInt 64 a&&& ~~~ BitVec.ofInt 64 b).toNat:Int)=_
    rw [zir1 ha,zir1 hb,wrapU ⟨by omega,by have:=((BitVec.ofNat 64 a.toNat)&&& ~~~ (BitVec.ofNat 64 b.toNat)).isLt;omega⟩]
  rw [e]
  have e2:((((BitVec.ofNat 64 a.toNat)&&& ~~~ (BitVec.ofNat 64 b.toNat)).toNat:Int)==0)=true↔(BitVec.ofNat 64 a.toNat)&&& ~~~ (BitVec.ofNat 64 b.toNat)=0#64:=by
    rw [BitVec.toNat_eq]
    simp
  rw [e2]
  have ga:∀n,n<64→(BitVec.ofNat 64 a.toNat).getLsbD n=bit a n:=fun n hn=>by rw [BitVec.getLsbD_ofNat];simp [bit,hn]
  have gb:∀n,n<64→(BitVec.ofNat 64 b.toNat).getLsbD n=bit b n:=fun n hn=>by rw [BitVec.getLsbD_ofNat];simp [bit,hn]
  constructor
  · intro h n hn h1
    have:=congrArg (fun v=>v.getLsbD n) h
    simp only [BitVec.getLsbD_and,BitVec.getLsbD_not,ga n hn,gb n hn,h1,hn,decide_true,Bool.true_and,BitVec.getLsbD_zero] at this
    simpa using this
  · intro h
    apply BitVec.eq_of_getLsbD_eq
    intro n hn
    simp only [BitVec.getLsbD_and,BitVec.getLsbD_not,ga n hn,gb n hn,hn,decide_true,Bool.true_and,BitVec.getLsbD_zero]
    cases h1:bit a n with
    | false=>rfl
    | true=>simp [h n hn h1]
end Lf

