/-
  Part 4 of the texts that the claim leans on.
-/
import Derived.Test.YtloapcmhhcbonaaGreatRows
import Derived.Laws.Externs
import Derived.Test.YtloapcmhhcbonaaGreatMgSnKeeps2
set_option maxRecDepth 100000
namespace Lf
open Go Go.Proofs
theorem zwi1 {α:Type _} {l:List α} {i:Nat} (h:l.length≤i):nth l i=none:=by rw [zfl];exact List.getElem?_eq_none h
theorem tyS {a e:Ty} {p:Ty→Prop} (h:some a=some e) (x:p a):p e:=Option.some.inj h▸x
theorem tyN {e:Ty} {q:Prop} (h:(none:Option Ty)=some e):q:=by cases h
theorem tyAll {p:Nat→Ty→Prop} (h0:p 0 ty0) (h2:p 2 ty2) (h3:p 3 ty3) (h4:p 4 ty4) (h5:p 5 ty5) (h9:p 9 ty9) (h22:p 22 ty22) (h23:p 23 ty23) (h24:p 24 ty24) (h26:p 26 ty26) (h27:p 27 ty27) (h28:p 28 ty28) (h30:p 30 ty30) (h33:p 33 ty33) (h34:p 34 ty34) (h35:p 35 ty35) (h37:p 37 ty37) (h47:p 47 ty47) (h49:p 49 ty49) (h51:p 51 ty51) (h54:p 54 ty54) (h57:p 57 ty57) (h58:p 58 ty58) (h60:p 60 ty60) (h61:p 61 ty61) (h62:p 62 ty62) (h64:p 64 ty64) (h65:p 65 ty65) (h66:p 66 ty66) (h68:p 68 ty68) (h70:p 70 ty70) (h72:p 72 ty72) (h74:p 74 ty74) (h80:p 80 ty80) (h83:p 83 ty83) (h85:p 85 ty85) (h87:p 87 ty87) (h90:p 90 ty90) (h92:p 92 ty92) (h101:p 101 ty101) (h103:p 103 ty103) (h104:p 104 ty104) (h107:p 107 ty107) (h108:p 108 ty108) (h109:p 109 ty109) (h111:p 111 ty111) (h112:p 112 ty112) (h114:p 114 ty114) (h115:p 115 ty115) (h117:p 117 ty117) (h119:p 119 ty119) (h121:p 121 ty121) (h127:p 127 ty127) (h128:p 128 ty128) (h138:p 138 ty138) (h139:p 139 ty139) (h144:p 144 ty144) (h146:p 146 ty146) (h153:p 153 ty153) (h156:p 156 ty156) (h159:p 159 ty159) (h167:p 167 ty167) (h170:p 170 ty170) (h172:p 172 ty172) (h174:p 174 ty174) (h179:p 179 ty179) (h182:p 182 ty182) (h185:p 185 ty185) (h193:p 193 ty193) (h194:p 194 ty194) (h195:p 195 ty195) (h196:p 196 ty196) (h200:p 200 ty200) (h201:p 201 ty201):∀t e,tyAt t=some e→p t e:=by
 intro t e h
 by_cases hlt:t<208
 ·match t,hlt,h with
  | 0,_,h=>exact tyS h h0
  | 1,_,h=>exact tyN h
  | 2,_,h=>exact tyS h h2
  | 3,_,h=>exact tyS h h3
  | 4,_,h=>exact tyS h h4
  | 5,_,h=>exact tyS h h5
  | 6,_,h=>exact tyN h
  | 7,_,h=>exact tyN h
  | 8,_,h=>exact tyN h
  | 9,_,h=>exact tyS h h9
  | 10,_,h=>exact tyN h
  | 11,_,h=>exact tyN h
  | 12,_,h=>exact tyN h
  | 13,_,h=>exact tyN h
  | 14,_,h=>exact tyN h
  | 15,_,h=>exact tyN h
  | 16,_,h=>exact tyN h
  | 17,_,h=>exact tyN h
  | 18,_,h=>exact tyN h
  | 19,_,h=>exact tyN h
  | 20,_,h=>exact tyN h
  | 21,_,h=>exact tyN h
  | 22,_,h=>exact tyS h h22
  | 23,_,h=>exact tyS h h23
  | 24,_,h=>exact tyS h h24
  | 25,_,h=>exact tyN h
  | 26,_,h=>exact tyS h h26
  | 27,_,h=>exact tyS h h27
  | 28,_,h=>exact tyS h h28
  | 29,_,h=>exact tyN h
  | 30,_,h=>exact tyS h h30
  | 31,_,h=>exact tyN h
  | 32,_,h=>exact tyN h
  | 33,_,h=>exact tyS h h33
  | 34,_,h=>exact tyS h h34
  | 35,_,h=>exact tyS h h35
  | 36,_,h=>exact tyN h
  | 37,_,h=>exact tyS h h37
  | 38,_,h=>exact tyN h
  | 39,_,h=>exact tyN h
  | 40,_,h=>exact tyN h
  | 41,_,h=>exact tyN h
  | 42,_,h=>exact tyN h
  | 43,_,h=>exact tyN h
  | 44,_,h=>exact tyN h
  | 45,_,h=>exact tyN h
  | 46,_,h=>exact tyN h
  | 47,_,h=>exact tyS h h47
  | 48,_,h=>exact tyN h
  | 49,_,h=>exact tyS h h49
  | 50,_,h=>exact tyN h
  | 51,_,h=>exact tyS h h51
  | 52,_,h=>exact tyN h
  | 53,_,h=>exact tyN h
  | 54,_,h=>exact tyS h h54
  | 55,_,h=>exact tyN h
  | 56,_,h=>exact tyN h
  | 57,_,h=>exact tyS h h57
  | 58,_,h=>exact tyS h h58
  | 59,_,h=>exact tyN h
  | 60,_,h=>exact tyS h h60
  | 61,_,h=>exact tyS h h61
  | 62,_,h=>exact tyS h h62
  | 63,_,h=>exact tyN h
  | 64,_,h=>exact tyS h h64
  | 65,_,h=>exact tyS h h65
  | 66,_,h=>exact tyS h h66
  | 67,_,h=>exact tyN h
  | 68,_,h=>exact tyS h h68
  | 69,_,h=>exact tyN h
  | 70,_,h=>exact tyS h h70
  | 71,_,h=>exact tyN h
  | 72,_,h=>exact tyS h h72
  | 73,_,h=>exact tyN h
  | 74,_,h=>exact tyS h h74
  | 75,_,h=>exact tyN h
  | 76,_,h=>exact tyN h
  | 77,_,h=>exact tyN h
  | 78,_,h=>exact tyN h
  | 79,_,h=>exact tyN h
  | 80,_,h=>exact tyS h h80
  | 81,_,h=>exact tyN h
  | 82,_,h=>exact tyN h
  | 83,_,h=>exact tyS h h83
  | 84,_,h=>exact tyN h
  | 85,_,h=>exact tyS h h85
  | 86,_,h=>exact tyN h
  | 87,_,h=>exact tyS h h87
  | 88,_,h=>exact tyN h
  | 89,_,h=>exact tyN h
  | 90,_,h=>exact tyS h h90
  | 91,_,h=>exact tyN h
  | 92,_,h=>exact tyS h h92
  | 93,_,h=>exact tyN h
  | 94,_,h=>exact tyN h
  | 95,_,h=>exact tyN h
  | 96,_,h=>exact tyN h
  | 97,_,h=>exact tyN h
  | 98,_,h=>exact tyN h
  | 99,_,h=>exact tyN h
  | 100,_,h=>exact tyN h
  | 101,_,h=>exact tyS h h101
  | 102,_,h=>exact tyN h
  | 103,_,h=>exact tyS h h103
  | 104,_,h=>exact tyS h h104
  | 105,_,h=>exact tyN h
  | 106,_,h=>exact tyN h
  | 107,_,h=>exact tyS h h107
  | 108,_,h=>exact tyS h h108
  | 109,_,h=>exact tyS h h109
  | 110,_,h=>exact tyN h
  | 111,_,h=>exact tyS h h111
  | 112,_,h=>exact tyS h h112
  | 113,_,h=>exact tyN h
  | 114,_,h=>exact tyS h h114
  | 115,_,h=>exact tyS h h115
  | 116,_,h=>exact tyN h
  | 117,_,h=>exact tyS h h117
  | 118,_,h=>exact tyN h
  | 119,_,h=>exact tyS h h119
  | 120,_,h=>exact tyN h
  | 121,_,h=>exact tyS h h121
  | 122,_,h=>exact tyN h
  | 123,_,h=>exact tyN h
  | 124,_,h=>exact tyN h
  | 125,_,h=>exact tyN h
  | 126,_,h=>exact tyN h
  | 127,_,h=>exact tyS h h127
  | 128,_,h=>exact tyS h h128
  | 129,_,h=>exact tyN h
  | 130,_,h=>exact tyN h
  | 131,_,h=>exact tyN h
  | 132,_,h=>exact tyN h
  | 133,_,h=>exact tyN h
  | 134,_,h=>exact tyN h
  | 135,_,h=>exact tyN h
  | 136,_,h=>exact tyN h
  | 137,_,h=>exact tyN h
  | 138,_,h=>exact tyS h h138
  | 139,_,h=>exact tyS h h139
  | 140,_,h=>exact tyN h
  | 141,_,h=>exact tyN h
  | 142,_,h=>exact tyN h
  | 143,_,h=>exact tyN h
  | 144,_,h=>exact tyS h h144
  | 145,_,h=>exact tyN h
  | 146,_,h=>exact tyS h h146
  | 147,_,h=>exact tyN h
  | 148,_,h=>exact tyN h
  | 149,_,h=>exact tyN h
  | 150,_,h=>exact tyN h
  | 151,_,h=>exact tyN h
  | 152,_,h=>exact tyN h
  | 153,_,h=>exact tyS h h153
  | 154,_,h=>exact tyN h
  | 155,_,h=>exact tyN h
  | 156,_,h=>exact tyS h h156
  | 157,_,h=>exact tyN h
  | 158,_,h=>exact tyN h
  | 159,_,h=>exact tyS h h159
  | 160,_,h=>exact tyN h
  | 161,_,h=>exact tyN h
  | 162,_,h=>exact tyN h
  | 163,_,h=>exact tyN h
  | 164,_,h=>exact tyN h
  | 165,_,h=>exact tyN h
  | 166,_,h=>exact tyN h
  | 167,_,h=>exact tyS h h167
  | 168,_,h=>exact tyN h
  | 169,_,h=>exact tyN h
  | 170,_,h=>exact tyS h h170
  | 171,_,h=>exact tyN h
  | 172,_,h=>exact tyS h h172
  | 173,_,h=>exact tyN h
  | 174,_,h=>exact tyS h h174
  | 175,_,h=>exact tyN h
  | 176,_,h=>exact tyN h
  | 177,_,h=>exact tyN h
  | 178,_,h=>exact tyN h
  | 179,_,h=>exact tyS h h179
  | 180,_,h=>exact tyN h
  | 181,_,h=>exact tyN h
  | 182,_,h=>exact tyS h h182
  | 183,_,h=>exact tyN h
  | 184,_,h=>exact tyN h
  | 185,_,h=>exact tyS h h185
  | 186,_,h=>exact tyN h
  | 187,_,h=>exact tyN h
  | 188,_,h=>exact tyN h
  | 189,_,h=>exact tyN h
  | 190,_,h=>exact tyN h
  | 191,_,h=>exact tyN h
  | 192,_,h=>exact tyN h
  | 193,_,h=>exact tyS h h193
  | 194,_,h=>exact tyS h h194
  | 195,_,h=>exact tyS h h195
  | 196,_,h=>exact tyS h h196
  | 197,_,h=>exact tyN h
  | 198,_,h=>exact tyN h
  | 199,_,h=>exact tyN h
  | 200,_,h=>exact tyS h h200
  | 201,_,h=>exact tyS h h201
  | 202,_,h=>exact tyN h
  | 203,_,h=>exact tyN h
  | 204,_,h=>exact tyN h
  | 205,_,h=>exact tyN h
  | 206,_,h=>exact tyN h
  | 207,_,h=>exact tyN h
  | n+208,hlt,_=>omega
 ·have hl:tyRows.length=13:=rfl
  have:nth tyRows (t / 16)=none:=zwi1 (l:=tyRows) (i:=t / 16) (by rw [hl];omega)
  unfold tyAt at h
  rw [this] at h
  cases h
theorem tb_ok :tb.Ok Tryz.prog where
 und:=tyAll (p:=fun t e=>Tryz.prog.underlying t=some e.und) Tryz.underlying0 Tryz.underlying2 Tryz.underlying3 Tryz.underlying4 Tryz.underlying5 Tryz.underlying9 Tryz.underlying22 Tryz.underlying23 Tryz.underlying24 Tryz.underlying26 Tryz.underlying27 Tryz.underlying28 Tryz.underlying30 Tryz.underlying33 Tryz.underlying34 Tryz.underlying35 Tryz.underlying37 Tryz.underlying47 Tryz.underlying49 Tryz.underlying51 Tryz.underlying54 Tryz.underlying57 Tryz.underlying58 Tryz.underlying60 Tryz.underlying61 Tryz.underlying62 Tryz.underlying64 Tryz.underlying65 Tryz.underlying66 Tryz.underlying68 Tryz.underlying70 Tryz.underlying72 Tryz.underlying74 Tryz.underlying80 Tryz.underlying83 Tryz.underlying85 Tryz.underlying87 Tryz.underlying90 Tryz.underlying92 Tryz.underlying101 Tryz.underlying103 Tryz.underlying104 Tryz.underlying107 Tryz.underlying108 Tryz.underlying109 Tryz.underlying111 Tryz.underlying112 Tryz.underlying114 Tryz.underlying115 Tryz.underlying117 Tryz.underlying119 Tryz.underlying121 Tryz.underlying127 Tryz.underlying128 Tryz.underlying138 Tryz.underlying139 Tryz.underlying144 Tryz.underlying146 Tryz.underlying153 Tryz.underlying156 Tryz.underlying159 Tryz.underlying167 Tryz.underlying170 Tryz.underlying172 Tryz.underlying174 Tryz.underlying179 Tryz.underlying182 Tryz.underlying185 Tryz.underlying193 Tryz.underlying194 Tryz.underlying195 Tryz.underlying196 Tryz.underlying200 Tryz.underlying201
 info:=tyAll (p:=fun t e=>∃i,Tryz.prog.info? t=some i∧i.size=e.size∧i.bytes=e.bytes∧i.zero=some e.zero) ⟨Tryz.t0,Tryz.type0,rfl,rfl,rfl⟩ ⟨Tryz.t2,Tryz.type2,rfl,rfl,rfl⟩ ⟨Tryz.t3,Tryz.type3,rfl,rfl,rfl⟩ ⟨Tryz.t4,Tryz.type4,rfl,rfl,rfl⟩ ⟨Tryz.t5,Tryz.type5,rfl,rfl,rfl⟩ ⟨Tryz.t9,Tryz.type9,rfl,rfl,rfl⟩ ⟨Tryz.t22,Tryz.type22,rfl,rfl,rfl⟩ ⟨Tryz.t23,Tryz.type23,rfl,rfl,rfl⟩ ⟨Tryz.t24,Tryz.type24,rfl,rfl,rfl⟩ ⟨Tryz.t26,Tryz.type26,rfl,rfl,rfl⟩ ⟨Tryz.t27,Tryz.type27,rfl,rfl,rfl⟩ ⟨Tryz.t28,Tryz.type28,rfl,rfl,rfl⟩ ⟨Tryz.t30,Tryz.type30,rfl,rfl,rfl⟩ ⟨Tryz.t33,Tryz.type33,rfl,rfl,rfl⟩ ⟨Tryz.t34,Tryz.type34,rfl,rfl,rfl⟩ ⟨Tryz.t35,Tryz.type35,rfl,rfl,rfl⟩ ⟨Tryz.t37,Tryz.type37,rfl,rfl,rfl⟩ ⟨Tryz.t47,Tryz.type47,rfl,rfl,rfl⟩ ⟨Tryz.t49,Tryz.type49,rfl,rfl,rfl⟩ ⟨Tryz.t51,Tryz.type51,rfl,rfl,rfl⟩ ⟨Tryz.t54,Tryz.type54,rfl,rfl,rfl⟩ ⟨Tryz.t57,Tryz.type57,rfl,rfl,rfl⟩ ⟨Tryz.t58,Tryz.type58,rfl,rfl,rfl⟩ ⟨Tryz.t60,Tryz.type60,rfl,rfl,rfl⟩ ⟨Tryz.t61,Tryz.type61,rfl,rfl,rfl⟩ ⟨Tryz.t62,Tryz.type62,rfl,rfl,rfl⟩ ⟨Tryz.t64,Tryz.type64,rfl,rfl,rfl⟩ ⟨Tryz.t65,Tryz.type65,rfl,rfl,rfl⟩ ⟨Tryz.t66,Tryz.type66,rfl,rfl,rfl⟩ ⟨Tryz.t68,Tryz.type68,rfl,rfl,rfl⟩ ⟨Tryz.t70,Tryz.type70,rfl,rfl,rfl⟩ ⟨Tryz.t72,Tryz.type72,rfl,rfl,rfl⟩ ⟨Tryz.t74,Tryz.type74,rfl,rfl,rfl⟩ ⟨Tryz.t80,Tryz.type80,rfl,rfl,rfl⟩ ⟨Tryz.t83,Tryz.type83,rfl,rfl,rfl⟩ ⟨Tryz.t85,Tryz.type85,rfl,rfl,rfl⟩ ⟨Tryz.t87,Tryz.type87,rfl,rfl,rfl⟩ ⟨Tryz.t90,Tryz.type90,rfl,rfl,rfl⟩ ⟨Tryz.t92,Tryz.type92,rfl,rfl,rfl⟩ ⟨Tryz.t101,Tryz.type101,rfl,rfl,rfl⟩ ⟨Tryz.t103,Tryz.type103,rfl,rfl,rfl⟩ ⟨Tryz.t104,Tryz.type104,rfl,rfl,rfl⟩ ⟨Tryz.t107,Tryz.type107,rfl,rfl,rfl⟩ ⟨Tryz.t108,Tryz.type108,rfl,rfl,rfl⟩ ⟨Tryz.t109,Tryz.type109,rfl,rfl,rfl⟩ ⟨Tryz.t111,Tryz.type111,rfl,rfl,rfl⟩ ⟨Tryz.t112,Tryz.type112,rfl,rfl,rfl⟩ ⟨Tryz.t114,Tryz.type114,rfl,rfl,rfl⟩ ⟨Tryz.t115,Tryz.type115,rfl,rfl,rfl⟩ ⟨Tryz.t117,Tryz.type117,rfl,rfl,rfl⟩ ⟨Tryz.t119,Tryz.type119,rfl,rfl,rfl⟩ ⟨Tryz.t121,Tryz.type121,rfl,rfl,rfl⟩ ⟨Tryz.t127,Tryz.type127,rfl,rfl,rfl⟩ ⟨Tryz.t128,Tryz.type128,rfl,rfl,rfl⟩ ⟨Tryz.t138,Tryz.type138,rfl,rfl,rfl⟩ ⟨Tryz.t139,Tryz.type139,rfl,rfl,rfl⟩ ⟨Tryz.t144,Tryz.type144,rfl,rfl,rfl⟩ ⟨Tryz.t146,Tryz.type146,rfl,rfl,rfl⟩ ⟨Tryz.t153,Tryz.type153,rfl,rfl,rfl⟩ ⟨Tryz.t156,Tryz.type156,rfl,rfl,rfl⟩ ⟨Tryz.t159,Tryz.type159,rfl,rfl,rfl⟩ ⟨Tryz.t167,Tryz.type167,rfl,rfl,rfl⟩ ⟨Tryz.t170,Tryz.type170,rfl,rfl,rfl⟩ ⟨Tryz.t172,Tryz.type172,rfl,rfl,rfl⟩ ⟨Tryz.t174,Tryz.type174,rfl,rfl,rfl⟩ ⟨Tryz.t179,Tryz.type179,rfl,rfl,rfl⟩ ⟨Tryz.t182,Tryz.type182,rfl,rfl,rfl⟩ ⟨Tryz.t185,Tryz.type185,rfl,rfl,rfl⟩ ⟨Tryz.t193,Tryz.type193,rfl,rfl,rfl⟩ ⟨Tryz.t194,Tryz.type194,rfl,rfl,rfl⟩ ⟨Tryz.t195,Tryz.type195,rfl,rfl,rfl⟩ ⟨Tryz.t196,Tryz.type196,rfl,rfl,rfl⟩ ⟨Tryz.t200,Tryz.type200,rfl,rfl,rfl⟩ ⟨Tryz.t201,Tryz.type201,rfl,rfl,rfl⟩
 agg:=by
  apply tyAll (p:=fun t e=>zjf e.und=true→∀x,∃cs,e.sh.enc x=.agg cs∧cs.size=e.size)<;>first | (intro h;cases h;done) | exact (fun _ x=>⟨_,rfl,rfl⟩) | exact (fun _ x=>⟨_,rfl,x.size⟩)
 leaf:=by
  apply tyAll (p:=fun t e=>zjf e.und=false→e.size=1∧∀x,(zad (e.sh.enc x)).length=1∧∀cs,e.sh.enc x≠ .agg cs)<;>first | (intro h;cases h;done) | (refine fun _=>⟨rfl,fun x=>⟨rfl,fun cs h=> ?_⟩⟩;cases h;done)
 zlen:=by
  apply tyAll (p:=fun t e=>(zad e.zero).length=e.size)<;>first | exact rfl
 zero8:=by
  apply tyAll (p:=fun t e=>e.und=.int .u8→zad e.zero=[.int .u8 0])<;>first | (intro h;cases h;done) | exact (fun _=>rfl)
 zagg:=by
  apply tyAll (p:=fun t e=>zjf e.und=true→∃cs,e.zero=.agg cs)<;>first | (intro h;cases h;done) | exact (fun _=>⟨_,rfl⟩)
 call:=by
  intro g h
  by_cases hlt:g<160
  ·match g,hlt,h with
   | 0,_,h=>exact absurd (show false=true from h) (by simp)
   | 1,_,h=>exact absurd (show false=true from h) (by simp)
   | 2,_,_=>exact Tryz.call2
   | 3,_,_=>exact Tryz.call3
   | 4,_,_=>exact Tryz.call4
   | 5,_,_=>exact Tryz.call5
   | 6,_,_=>exact Tryz.call6
   | 7,_,_=>exact Tryz.call7
   | 8,_,_=>exact Tryz.call8
   | 9,_,_=>exact Tryz.call9
   | 10,_,_=>exact Tryz.call10
   | 11,_,_=>exact Tryz.call11
   | 12,_,_=>exact Tryz.call12
   | 13,_,_=>exact Tryz.call13
   | 14,_,_=>exact Tryz.call14
   | 15,_,_=>exact Tryz.call15
   | 16,_,_=>exact Tryz.call16
   | 17,_,_=>exact Tryz.call17
   | 18,_,_=>exact Tryz.call18
   | 19,_,_=>exact Tryz.call19
   | 20,_,_=>exact Tryz.call20
   | 21,_,_=>exact Tryz.call21
   | 22,_,_=>exact Tryz.call22
   | 23,_,_=>exact Tryz.call23
   | 24,_,_=>exact Tryz.call24
   | 25,_,_=>exact Tryz.call25
   | 26,_,_=>exact Tryz.call26
   | 27,_,_=>exact Tryz.call27
   | 28,_,_=>exact Tryz.call28
   | 29,_,_=>exact Tryz.call29
   | 30,_,_=>exact Tryz.call30
   | 31,_,_=>exact Tryz.call31
   | 32,_,_=>exact Tryz.call32
   | 33,_,_=>exact Tryz.call33
   | 34,_,_=>exact Tryz.call34
   | 35,_,_=>exact Tryz.call35
   | 36,_,_=>exact Tryz.call36
   | 37,_,_=>exact Tryz.call37
   | 38,_,_=>exact Tryz.call38
   | 39,_,_=>exact Tryz.call39
   | 40,_,_=>exact Tryz.call40
   | 41,_,_=>exact Tryz.call41
   | 42,_,_=>exact Tryz.call42
   | 43,_,_=>exact Tryz.call43
   | 44,_,_=>exact Tryz.call44
   | 45,_,_=>exact Tryz.call45
   | 46,_,_=>exact Tryz.call46
   | 47,_,_=>exact Tryz.call47
   | 48,_,_=>exact Tryz.call48
   | 49,_,_=>exact Tryz.call49
   | 50,_,_=>exact Tryz.call50
   | 51,_,_=>exact Tryz.call51
   | 52,_,_=>exact Tryz.call52
   | 53,_,_=>exact Tryz.call53
   | 54,_,_=>exact Tryz.call54
   | 55,_,_=>exact Tryz.call55
   | 56,_,_=>exact Tryz.call56
   | 57,_,_=>exact Tryz.call57
   | 58,_,_=>exact Tryz.call58
   | 59,_,_=>exact Tryz.call59
   | 60,_,_=>exact Tryz.call60
   | 61,_,_=>exact Tryz.call61
   | 62,_,_=>exact Tryz.call62
   | 63,_,_=>exact Tryz.call63
   | 64,_,_=>exact Tryz.call64
   | 65,_,_=>exact Tryz.call65
   | 66,_,_=>exact Tryz.call66
   | 67,_,_=>exact Tryz.call67
   | 68,_,_=>exact Tryz.call68
   | 69,_,_=>exact Tryz.call69
   | 70,_,_=>exact Tryz.call70
   | 71,_,_=>exact Tryz.call71
   | 72,_,_=>exact Tryz.call72
   | 73,_,_=>exact Tryz.call73
   | 74,_,_=>exact Tryz.call74
   | 75,_,_=>exact Tryz.call75
   | 76,_,_=>exact Tryz.call76
   | 77,_,_=>exact Tryz.call77
   | 78,_,_=>exact Tryz.call78
   | 79,_,_=>exact Tryz.call79
   | 80,_,_=>exact Tryz.call80
   | 81,_,_=>exact Tryz.call81
   | 82,_,_=>exact Tryz.call82
   | 83,_,_=>exact Tryz.call83
   | 84,_,_=>exact Tryz.call84
   | 85,_,_=>exact Tryz.call85
   | 86,_,_=>exact Tryz.call86
   | 87,_,_=>exact Tryz.call87
   | 88,_,_=>exact Tryz.call88
   | 89,_,_=>exact Tryz.call89
   | 90,_,_=>exact Tryz.call90
   | 91,_,_=>exact Tryz.call91
   | 92,_,_=>exact Tryz.call92
   | 93,_,_=>exact Tryz.call93
   | 94,_,_=>exact Tryz.call94
   | 95,_,_=>exact Tryz.call95
   | 96,_,_=>exact Tryz.call96
   | 97,_,_=>exact Tryz.call97
   | 98,_,_=>exact Tryz.call98
   | 99,_,_=>exact Tryz.call99
   | 100,_,_=>exact Tryz.call100
   | 101,_,_=>exact Tryz.call101
   | 102,_,_=>exact Tryz.call102
   | 103,_,_=>exact Tryz.call103
   | 104,_,_=>exact Tryz.call104
   | 105,_,_=>exact Tryz.call105
   | 106,_,_=>exact Tryz.call106
   | 107,_,_=>exact Tryz.call107
   | 108,_,_=>exact Tryz.call108
   | 109,_,_=>exact Tryz.call109
   | 110,_,_=>exact Tryz.call110
   | 111,_,_=>exact Tryz.call111
   | 112,_,_=>exact Tryz.call112
   | 113,_,_=>exact Tryz.call113
   | 114,_,_=>exact Tryz.call114
   | 115,_,_=>exact Tryz.call115
   | 116,_,_=>exact Tryz.call116
   | 117,_,_=>exact Tryz.call117
   | 118,_,_=>exact Tryz.call118
   | 119,_,_=>exact Tryz.call119
   | 120,_,_=>exact Tryz.call120
   | 121,_,_=>exact Tryz.call121
   | 122,_,_=>exact Tryz.call122
   | 123,_,_=>exact Tryz.call123
   | 124,_,_=>exact Tryz.call124
   | 125,_,_=>exact Tryz.call125
   | 126,_,_=>exact Tryz.call126
   | 127,_,_=>exact Tryz.call127
   | 128,_,_=>exact Tryz.call128
   | 129,_,_=>exact Tryz.call129
   | 130,_,_=>exact Tryz.call130
   | 131,_,_=>exact Tryz.call131
   | 132,_,_=>exact Tryz.call132
   | 133,_,_=>exact Tryz.call133
   | 134,_,_=>exact Tryz.call134
   | 135,_,_=>exact Tryz.call135
   | 136,_,_=>exact Tryz.call136
   | 137,_,_=>exact Tryz.call137
   | 138,_,_=>exact Tryz.call138
   | 139,_,_=>exact Tryz.call139
   | 140,_,_=>exact Tryz.call140
   | 141,_,_=>exact Tryz.call141
   | 142,_,_=>exact Tryz.call142
   | 143,_,_=>exact Tryz.call143
   | 144,_,_=>exact Tryz.call144
   | 145,_,_=>exact Tryz.call145
   | 146,_,_=>exact Tryz.call146
   | 147,_,_=>exact Tryz.call147
   | 148,_,_=>exact Tryz.call148
   | 149,_,_=>exact Tryz.call149
   | 150,_,_=>exact Tryz.call150
   | 151,_,_=>exact Tryz.call151
   | 152,_,h=>exact absurd (show false=true from h) (by simp)
   | 153,_,_=>exact Tryz.call153
   | 154,_,_=>exact Tryz.call154
   | 155,_,h=>exact absurd (show false=true from h) (by simp)
   | 156,_,_=>exact Tryz.call156
   | 157,_,h=>exact absurd (show false=true from h) (by simp)
   | 158,_,h=>exact absurd (show false=true from h) (by simp)
   | 159,_,h=>exact absurd (show false=true from h) (by simp)
   | n+160,hlt,_=>omega
  ·have hl:fnRows.length=10:=rfl
   have:nth fnRows (g / 16)=none:=zwi1 (l:=fnRows) (i:=g / 16) (by rw [hl];omega)
   have h:fnAt g=true:=h
   unfold fnAt at h
   rw [this] at h
   cases h
 ext:=by
  intro g f h args w
  have h:extAt g=some f:=h
  unfold extAt at h
  cases h
 mixed:=by kernel_rfl
end Lf

set_option maxRecDepth 100000
namespace Lf
open Go Go.Proofs
theorem firebreaklaw22_SnapKeeps_call {c s b Q h} (hv:zei Tryz.prog c s b Q h):CallT Tryz.prog zrr [(sh_api_Config).enc c,(sh_api_State).enc s,(shSl).enc b] (zag) Q h:=
 zaa (C:=⟨Tryz.prog,tb,zrs⟩) (A:=zrt) tb_ok Tryz.func6 rfl (Eq.mpr (by kernel_rfl) hv)
theorem ztj {Q h} (hv:zhg Tryz.prog  Q h):CallT Tryz.prog znj [] (zag) Q h:=
 zaa (C:=⟨Tryz.prog,tb,zxy⟩) (A:=zxz) tb_ok Tryz.func8 rfl (Eq.mpr (by kernel_rfl) hv)
theorem zuj {c s Q h} (hv:zil Tryz.prog c s Q h):CallT Tryz.prog zod [(sh_api_Config).enc c,(sh_api_State).enc s] (zag) Q h:=
 zaa (C:=⟨Tryz.prog,tb,zzk⟩) (A:=zzl) tb_ok Tryz.func9 rfl (Eq.mpr (by kernel_rfl) hv)
theorem zkw {c s Q h} (hv:zvb Tryz.prog c s Q h):Call2 Tryz.prog zlr [(sh_api_Config).enc c,(sh_api_State).enc s] (shSl) (shInt .i64) Q h:=
 show CallT Tryz.prog zlr [(sh_api_Config).enc c,(sh_api_State).enc s] (shRes tb [33,34]) (fun r=>Q r.1 r.2) h from zaa (C:=⟨Tryz.prog,tb,znm1⟩) (A:=znn1) tb_ok Tryz.func10 rfl (Eq.mpr (by kernel_rfl) hv)
theorem zjh {c s Q h} (hv:zgf Tryz.prog c s Q h):Call2 Tryz.prog zfx [(sh_api_Config).enc c,(sh_api_State).enc s] (shSl) (shInt .i64) Q h:=
 show CallT Tryz.prog zfx [(sh_api_Config).enc c,(sh_api_State).enc s] (shRes tb [33,34]) (fun r=>Q r.1 r.2) h from zaa (C:=⟨Tryz.prog,tb,zvn⟩) (A:=zvo) tb_ok Tryz.func11 rfl (Eq.mpr (by kernel_rfl) hv)
theorem zkx {b Q h} (hv:zpu Tryz.prog b Q h):Call4 Tryz.prog zeo [(shSl).enc b] (sh_api_Config) (sh_api_State) (shInt .i64) (shInt .i64) Q h:=
 show CallT Tryz.prog zeo [(shSl).enc b] (shRes tb [26,30,34,3]) (fun r=>Q r.1 r.2.1 r.2.2.1 r.2.2.2) h from zaa (C:=⟨Tryz.prog,tb,zno1⟩) (A:=znp1) tb_ok Tryz.func12 rfl (Eq.mpr (by kernel_rfl) hv)
theorem zry {b Q h} (hv:zdr Tryz.prog b Q h):Call4 Tryz.prog zdq [(shSl).enc b] (sh_api_Config) (sh_api_State) (shInt .i64) (shInt .i64) Q h:=
 show CallT Tryz.prog zdq [(shSl).enc b] (shRes tb [26,30,34,3]) (fun r=>Q r.1 r.2.1 r.2.2.1 r.2.2.2) h from zaa (C:=⟨Tryz.prog,tb,zvp⟩) (A:=zvq) tb_ok Tryz.func13 rfl (Eq.mpr (by kernel_rfl) hv)
theorem zdl {a b Q h} (hv:zim Tryz.prog a b Q h):CallT Tryz.prog zbp [(sh_api_Config).enc a,(sh_api_Config).enc b] (zag) Q h:=
 zaa (C:=⟨Tryz.prog,tb,zzm⟩) (A:=zzn) tb_ok Tryz.func14 rfl (Eq.mpr (by kernel_rfl) hv)
theorem zcj {a b Q h} (hv:zin Tryz.prog a b Q h):CallT Tryz.prog zbq [(sh_api_State).enc a,(sh_api_State).enc b] (zag) Q h:=
 zaa (C:=⟨Tryz.prog,tb,zzo⟩) (A:=zzp) tb_ok Tryz.func15 rfl (Eq.mpr (by kernel_rfl) hv)
theorem zxu {c s Q h} (hv:zvc Tryz.prog c s Q h):CallT Tryz.prog zuu [(sh_api_Config).enc c,(sh_api_State).enc s] (shInt .i64) Q h:=
 zaa (C:=⟨Tryz.prog,tb,znq1⟩) (A:=znr1) tb_ok Tryz.func16 rfl (Eq.mpr (by kernel_rfl) hv)
theorem zpf {s Q h} (hv:zej Tryz.prog s Q h):CallT Tryz.prog zjg [(sh_api_State).enc s] (sh_api_State) Q h:=
 zaa (C:=⟨Tryz.prog,tb,zru⟩) (A:=zrv) tb_ok Tryz.func17 rfl (Eq.mpr (by kernel_rfl) hv)
theorem zkr {s mark Q h} (hv:zhh Tryz.prog s mark Q h):Call0 Tryz.prog zce [(sh_api_State).enc s,(shInt .i64).enc mark] (Q) h:=
 show CallT Tryz.prog zce [(sh_api_State).enc s,(shInt .i64).enc mark] (shRes tb []) (fun _=>Q) h from zaa (C:=⟨Tryz.prog,tb,zya⟩) (A:=zyb) tb_ok Tryz.func18 rfl (Eq.mpr (by kernel_rfl) hv)
theorem zuk {a b want Q h} (hv:zio Tryz.prog a b want Q h):CallT Tryz.prog zig [(sh_api_State).enc a,(sh_api_State).enc b,(sh_api_State).enc want] (zag) Q h:=
 zaa (C:=⟨Tryz.prog,tb,zzq⟩) (A:=zzr) tb_ok Tryz.func19 rfl (Eq.mpr (by kernel_rfl) hv)
theorem ztk {Q h} (hv:zhi Tryz.prog  Q h):Call2 Tryz.prog zhb [] (sh_api_Config) (sh_api_State) Q h:=
 show CallT Tryz.prog zhb [] (shRes tb [26,30]) (fun r=>Q r.1 r.2) h from zaa (C:=⟨Tryz.prog,tb,zyc⟩) (A:=zyd) tb_ok Tryz.func21 rfl (Eq.mpr (by kernel_rfl) hv)
theorem zwt {c Q h} (hv:zjr Tryz.prog c Q h):CallT Tryz.prog zpj [(sh_api_Config).enc c] (zag) Q h:=
 zaa (C:=⟨Tryz.prog,tb,zbq1⟩) (A:=zbr1) tb_ok Tryz.func22 rfl (Eq.mpr (by kernel_rfl) hv)
theorem zir1 {c Q h} (hv:zvd Tryz.prog c Q h):Call2 Tryz.prog zuv [(sh_api_Config).enc c] (shSl) (shInt .i64) Q h:=
 show CallT Tryz.prog zuv [(sh_api_Config).enc c] (shRes tb [33,34]) (fun r=>Q r.1 r.2) h from zaa (C:=⟨Tryz.prog,tb,zns1⟩) (A:=znt1) tb_ok Tryz.func23 rfl (Eq.mpr (by kernel_rfl) hv)
theorem zao {w n many Q h} (hv:zjs Tryz.prog w n many Q h):Call0 Tryz.prog zai [(shPtr).enc w,(shInt .i64).enc n,(shInt .i64).enc many] (Q) h:=
 show CallT Tryz.prog zai [(shPtr).enc w,(shInt .i64).enc n,(shInt .i64).enc many] (shRes tb []) (fun _=>Q) h from zaa (C:=⟨Tryz.prog,tb,zbs1⟩) (A:=zbt1) tb_ok Tryz.func24 rfl (Eq.mpr (by kernel_rfl) hv)
end Lf

set_option maxRecDepth 100000
namespace Lf
open Go Go.Proofs
theorem zbi {w n many Q h} (hv:zlx Tryz.prog w n many Q h):Call0 Tryz.prog zax [(shPtr).enc w,(shInt .i64).enc n,(shInt .i64).enc many] (Q) h:=
 show CallT Tryz.prog zax [(shPtr).enc w,(shInt .i64).enc n,(shInt .i64).enc many] (shRes tb []) (fun _=>Q) h from zaa (C:=⟨Tryz.prog,tb,zfb1⟩) (A:=zfc1) tb_ok Tryz.func25 rfl (Eq.mpr (by kernel_rfl) hv)
theorem zai1 {w x Q h} (hv:zly Tryz.prog w x Q h):Call0 Tryz.prog zhu [(shPtr).enc w,(sh_api_Part).enc x] (Q) h:=
 show CallT Tryz.prog zhu [(shPtr).enc w,(sh_api_Part).enc x] (shRes tb []) (fun _=>Q) h from zaa (C:=⟨Tryz.prog,tb,zfd1⟩) (A:=zfe1) tb_ok Tryz.func26 rfl (Eq.mpr (by kernel_rfl) hv)
theorem zaj1 {w x Q h} (hv:zlz Tryz.prog w x Q h):Call0 Tryz.prog zhv [(shPtr).enc w,(sh_api_Process).enc x] (Q) h:=
 show CallT Tryz.prog zhv [(shPtr).enc w,(sh_api_Process).enc x] (shRes tb []) (fun _=>Q) h from zaa (C:=⟨Tryz.prog,tb,zff1⟩) (A:=zfg1) tb_ok Tryz.func27 rfl (Eq.mpr (by kernel_rfl) hv)
theorem zmm {c s Q h} (hv:zjt Tryz.prog c s Q h):CallT Tryz.prog zjj [(sh_api_Config).enc c,(sh_api_State).enc s] (shInt .i64) Q h:=
 zaa (C:=⟨Tryz.prog,tb,zbu1⟩) (A:=zbv1) tb_ok Tryz.func28 rfl (Eq.mpr (by kernel_rfl) hv)
theorem zrz {c Q h} (hv:zgg Tryz.prog c Q h):Call2 Tryz.prog zfy [(sh_api_Config).enc c] (shSl) (shInt .i64) Q h:=
 show CallT Tryz.prog zfy [(sh_api_Config).enc c] (shRes tb [33,34]) (fun r=>Q r.1 r.2) h from zaa (C:=⟨Tryz.prog,tb,zvr⟩) (A:=zvs) tb_ok Tryz.func29 rfl (Eq.mpr (by kernel_rfl) hv)
theorem zah {b n many Q h} (hv:zgh Tryz.prog b n many Q h):CallT Tryz.prog zam [(shSl).enc b,(shInt .u64).enc n,(shInt .i64).enc many] (shSl) Q h:=
 zaa (C:=⟨Tryz.prog,tb,zvt⟩) (A:=zvu) tb_ok Tryz.func30 rfl (Eq.mpr (by kernel_rfl) hv)
theorem zul {b p Q h} (hv:ziq Tryz.prog b p Q h):CallT Tryz.prog zoe [(shSl).enc b,(sh_api_Part).enc p] (shSl) Q h:=
 zaa (C:=⟨Tryz.prog,tb,zzs⟩) (A:=zzt) tb_ok Tryz.func31 rfl (Eq.mpr (by kernel_rfl) hv)
theorem zrp {b p Q h} (hv:zfj Tryz.prog b p Q h):CallT Tryz.prog zlk [(shSl).enc b,(sh_api_Process).enc p] (shSl) Q h:=
 zaa (C:=⟨Tryz.prog,tb,zua⟩) (A:=zub) tb_ok Tryz.func32 rfl (Eq.mpr (by kernel_rfl) hv)
theorem zyy {r Q h} (hv:zlc Tryz.prog r Q h):CallT Tryz.prog zqv [(shPtr).enc r] (sh_api_State) Q h:=
 zaa (C:=⟨Tryz.prog,tb,zdp1⟩) (A:=zdq1) tb_ok Tryz.func33 rfl (Eq.mpr (by kernel_rfl) hv)
theorem zbj {r e place Q h} (hv:zib Tryz.prog r e place Q h):Call0 Tryz.prog zbg [(shPtr).enc r,(shInt .i64).enc e,(shInt .i64).enc place] (Q) h:=
 show CallT Tryz.prog zbg [(shPtr).enc r,(shInt .i64).enc e,(shInt .i64).enc place] (shRes tb []) (fun _=>Q) h from zaa (C:=⟨Tryz.prog,tb,zfh1⟩) (A:=zfi1) tb_ok Tryz.func34 rfl (Eq.mpr (by kernel_rfl) hv)
theorem zfo {r s Q h} (hv:zds Tryz.prog r s Q h):Call0 Tryz.prog zck [(shPtr).enc r,(shStr).enc s] (Q) h:=
 show CallT Tryz.prog zck [(shPtr).enc r,(shStr).enc s] (shRes tb []) (fun _=>Q) h from zaa (C:=⟨Tryz.prog,tb,zpv⟩) (A:=zpw) tb_ok Tryz.func35 rfl (Eq.mpr (by kernel_rfl) hv)
theorem zsa {r Q h} (hv:zgi Tryz.prog r Q h):CallT Tryz.prog zls [(shPtr).enc r] (sh_api_Config) Q h:=
 zaa (C:=⟨Tryz.prog,tb,zvv⟩) (A:=zvw) tb_ok Tryz.func36 rfl (Eq.mpr (by kernel_rfl) hv)
theorem zac {r many Q h} (hv:zdd Tryz.prog r many Q h):CallT Tryz.prog zae [(shPtr).enc r,(shInt .i64).enc many] (shInt .u64) Q h:=
 zaa (C:=⟨Tryz.prog,tb,zoi⟩) (A:=zoj) tb_ok Tryz.func37 rfl (Eq.mpr (by kernel_rfl) hv)
theorem zqh {r c Q h} (hv:zey Tryz.prog r c Q h):CallT Tryz.prog zkj [(shPtr).enc r,(sh_api_Config).enc c] (sh_api_Part) Q h:=
 zaa (C:=⟨Tryz.prog,tb,zst⟩) (A:=zsu) tb_ok Tryz.func38 rfl (Eq.mpr (by kernel_rfl) hv)
theorem znu {r c Q h} (hv:zdt Tryz.prog r c Q h):CallT Tryz.prog zhw [(shPtr).enc r,(sh_api_Config).enc c] (sh_api_Process) Q h:=
 zaa (C:=⟨Tryz.prog,tb,zpx⟩) (A:=zpy) tb_ok Tryz.func39 rfl (Eq.mpr (by kernel_rfl) hv)
theorem zap {r e at_ Q h} (hv:zcl Tryz.prog r e at_ Q h):Call0 Tryz.prog zak [(shPtr).enc r,(shInt .i64).enc e,(shInt .i64).enc at_] (Q) h:=
 show CallT Tryz.prog zak [(shPtr).enc r,(shInt .i64).enc e,(shInt .i64).enc at_] (shRes tb []) (fun _=>Q) h from zaa (C:=⟨Tryz.prog,tb,zpz⟩) (A:=zqa) tb_ok Tryz.func40 rfl (Eq.mpr (by kernel_rfl) hv)
theorem zqi {a b Q h} (hv:zez Tryz.prog a b Q h):CallT Tryz.prog zkk [(sh_api_Config).enc a,(sh_api_Config).enc b] (zag) Q h:=
 zaa (C:=⟨Tryz.prog,tb,zsv⟩) (A:=zsw) tb_ok Tryz.func41 rfl (Eq.mpr (by kernel_rfl) hv)
theorem zum {a b Q h} (hv:zir Tryz.prog a b Q h):CallT Tryz.prog zof [(shSl).enc a,(shSl).enc b] (zag) Q h:=
 zaa (C:=⟨Tryz.prog,tb,zzu⟩) (A:=zzv) tb_ok Tryz.func42 rfl (Eq.mpr (by kernel_rfl) hv)
theorem zqj {a b Q h} (hv:zfa Tryz.prog a b Q h):CallT Tryz.prog zkl [(sh_api_Part).enc a,(sh_api_Part).enc b] (zag) Q h:=
 zaa (C:=⟨Tryz.prog,tb,zsx⟩) (A:=zsy) tb_ok Tryz.func43 rfl (Eq.mpr (by kernel_rfl) hv)
theorem znv {a b Q h} (hv:zdu Tryz.prog a b Q h):CallT Tryz.prog zhx [(sh_api_Process).enc a,(sh_api_Process).enc b] (zag) Q h:=
 zaa (C:=⟨Tryz.prog,tb,zqb⟩) (A:=zqc) tb_ok Tryz.func44 rfl (Eq.mpr (by kernel_rfl) hv)
theorem zgi1 {c Q h} (hv:zhg1 Tryz.prog c Q h):Call2 Tryz.prog zbb1 [(sh_api_Config).enc c] (shInt .i64) (shInt .i64) Q h:=
 show CallT Tryz.prog zbb1 [(sh_api_Config).enc c] (shRes tb [34,3]) (fun r=>Q r.1 r.2) h from zaa (C:=⟨Tryz.prog,tb,zxm1⟩) (A:=zxn1) tb_ok Tryz.func45 rfl (Eq.mpr (by kernel_rfl) hv)
theorem zma1 {l Q h} (hv:zqx Tryz.prog l Q h):Call3 Tryz.prog zdl1 [(shSl).enc l] (shPtr) (shInt .i64) (shInt .i64) Q h:=
 show CallT Tryz.prog zdl1 [(shSl).enc l] (shRes tb [103,34,3]) (fun r=>Q r.1 r.2.1 r.2.2) h from zaa (C:=⟨Tryz.prog,tb,zss1⟩) (A:=zst1) tb_ok Tryz.func46 rfl (Eq.mpr (by kernel_rfl) hv)
end Lf

set_option maxRecDepth 100000
namespace Lf
open Go Go.Proofs
theorem zwu {a i Q h} (hv:zju Tryz.prog a i Q h):CallT Tryz.prog zpk [(sh_machine_asked).enc a,(shInt .i64).enc i] (zag) Q h:=
 zaa (C:=⟨Tryz.prog,tb,zbw1⟩) (A:=zbx1) tb_ok Tryz.func47 rfl (Eq.mpr (by kernel_rfl) hv)
theorem zwv {a p Q h} (hv:zjv Tryz.prog a p Q h):CallT Tryz.prog zpl [(sh_machine_asked).enc a,(shInt .i64).enc p] (zag) Q h:=
 zaa (C:=⟨Tryz.prog,tb,zby1⟩) (A:=zbz1) tb_ok Tryz.func48 rfl (Eq.mpr (by kernel_rfl) hv)
theorem zun {a Q h} (hv:zis Tryz.prog a Q h):CallT Tryz.prog zog [(sh_machine_asked).enc a] (zag) Q h:=
 zaa (C:=⟨Tryz.prog,tb,zzw⟩) (A:=zzx) tb_ok Tryz.func49 rfl (Eq.mpr (by kernel_rfl) hv)
theorem zqk {b n many Q h} (hv:zhh1 Tryz.prog b n many Q h):CallT Tryz.prog znp [(shSl).enc b,(shInt .u64).enc n,(shInt .i64).enc many] (shSl) Q h:=
 zaa (C:=⟨Tryz.prog,tb,zxo1⟩) (A:=zxp1) tb_ok Tryz.func51 rfl (Eq.mpr (by kernel_rfl) hv)
theorem zis1 {l Q h} (hv:zve Tryz.prog l Q h):Call3 Tryz.prog zps [(shSl).enc l] (shSl) (shInt .i64) (shInt .i64) Q h:=
 show CallT Tryz.prog zps [(shSl).enc l] (shRes tb [33,34,3]) (fun r=>Q r.1 r.2.1 r.2.2) h from zaa (C:=⟨Tryz.prog,tb,znu1⟩) (A:=znv1) tb_ok Tryz.func52 rfl (Eq.mpr (by kernel_rfl) hv)
theorem zak1 {w x Q h} (hv:zma Tryz.prog w x Q h):Call0 Tryz.prog zhy [(shPtr).enc w,(sh_api_Lane).enc x] (Q) h:=
 show CallT Tryz.prog zhy [(shPtr).enc w,(sh_api_Lane).enc x] (shRes tb []) (fun _=>Q) h from zaa (C:=⟨Tryz.prog,tb,zfj1⟩) (A:=zfk1) tb_ok Tryz.func53 rfl (Eq.mpr (by kernel_rfl) hv)
theorem zmn {c Q h} (hv:zjw Tryz.prog c Q h):Call2 Tryz.prog zfg [(sh_api_Config).enc c] (shInt .i64) (shInt .i64) Q h:=
 show CallT Tryz.prog zfg [(sh_api_Config).enc c] (shRes tb [34,3]) (fun r=>Q r.1 r.2) h from zaa (C:=⟨Tryz.prog,tb,zca1⟩) (A:=zcb1) tb_ok Tryz.func54 rfl (Eq.mpr (by kernel_rfl) hv)
theorem ztl {c s Q h} (hv:zhj Tryz.prog c s Q h):CallT Tryz.prog znk [(sh_api_Config).enc c,(sh_api_State).enc s] (zag) Q h:=
 zaa (C:=⟨Tryz.prog,tb,zye⟩) (A:=zyf) tb_ok Tryz.func55 rfl (Eq.mpr (by kernel_rfl) hv)
theorem zne {m i Q h} (hv:zdo Tryz.prog m i Q h):CallT Tryz.prog zgr [(shPtr).enc m,(shInt .i64).enc i] (zag) Q h:=
 zaa (C:=⟨Tryz.prog,tb,zoz⟩) (A:=zpa) tb_ok Tryz.func56 rfl (Eq.mpr (by kernel_rfl) hv)
theorem zlj {m p Q h} (hv:zcu Tryz.prog m p Q h):CallT Tryz.prog zff [(shPtr).enc m,(shInt .i64).enc p] (zag) Q h:=
 zaa (C:=⟨Tryz.prog,tb,znc⟩) (A:=znd) tb_ok Tryz.func57 rfl (Eq.mpr (by kernel_rfl) hv)
theorem zmo {m p Q h} (hv:zde Tryz.prog m p Q h):CallT Tryz.prog zfs [(shPtr).enc m,(shInt .i64).enc p] (zag) Q h:=
 zaa (C:=⟨Tryz.prog,tb,zok⟩) (A:=zol) tb_ok Tryz.func58 rfl (Eq.mpr (by kernel_rfl) hv)
theorem zww {b x Q h} (hv:zjx Tryz.prog b x Q h):CallT Tryz.prog zpm [(shSl).enc b,(sh_api_Ins).enc x] (shSl) Q h:=
 zaa (C:=⟨Tryz.prog,tb,zcc1⟩) (A:=zcd1) tb_ok Tryz.func59 rfl (Eq.mpr (by kernel_rfl) hv)
theorem zwx {is Q h} (hv:zjy Tryz.prog is Q h):CallT Tryz.prog zpn [(zag).enc is] (shInt .u8) Q h:=
 zaa (C:=⟨Tryz.prog,tb,zce1⟩) (A:=zcf1) tb_ok Tryz.func60 rfl (Eq.mpr (by kernel_rfl) hv)
theorem zbe {r many Q h} (hv:znq Tryz.prog r many Q h):CallT Tryz.prog zbm [(shPtr).enc r,(shInt .i64).enc many] (shInt .i64) Q h:=
 zaa (C:=⟨Tryz.prog,tb,zhj1⟩) (A:=zhk1) tb_ok Tryz.func61 rfl (Eq.mpr (by kernel_rfl) hv)
theorem zwy {r Q h} (hv:zjz Tryz.prog r Q h):Call0 Tryz.prog zjk [(shPtr).enc r] (Q) h:=
 show CallT Tryz.prog zjk [(shPtr).enc r] (shRes tb []) (fun _=>Q) h from zaa (C:=⟨Tryz.prog,tb,zcg1⟩) (A:=zch1) tb_ok Tryz.func62 rfl (Eq.mpr (by kernel_rfl) hv)
theorem zal1 {r Q h} (hv:zmb Tryz.prog r Q h):CallT Tryz.prog zsf [(shPtr).enc r] (sh_api_Part) Q h:=
 zaa (C:=⟨Tryz.prog,tb,zfl1⟩) (A:=zfm1) tb_ok Tryz.func63 rfl (Eq.mpr (by kernel_rfl) hv)
theorem zam1 {r Q h} (hv:zmc Tryz.prog r Q h):CallT Tryz.prog zsg [(shPtr).enc r] (sh_api_Process) Q h:=
 zaa (C:=⟨Tryz.prog,tb,zfn1⟩) (A:=zfo1) tb_ok Tryz.func64 rfl (Eq.mpr (by kernel_rfl) hv)
theorem zsb {b Q h} (hv:zgj Tryz.prog b Q h):Call3 Tryz.prog zfz [(shSl).enc b] (sh_api_Config) (shInt .i64) (shInt .i64) Q h:=
 show CallT Tryz.prog zfz [(shSl).enc b] (shRes tb [26,34,3]) (fun r=>Q r.1 r.2.1 r.2.2) h from zaa (C:=⟨Tryz.prog,tb,zvx⟩) (A:=zvy) tb_ok Tryz.func65 rfl (Eq.mpr (by kernel_rfl) hv)
theorem zdc {r bytes most Q h} (hv:zhk Tryz.prog r bytes most Q h):CallT Tryz.prog zcx [(shPtr).enc r,(shInt .i64).enc bytes,(shInt .i64).enc most] (shInt .i64) Q h:=
 zaa (C:=⟨Tryz.prog,tb,zyg⟩) (A:=zyh) tb_ok Tryz.func66 rfl (Eq.mpr (by kernel_rfl) hv)
theorem zaq {r many least most low high Q h} (hv:zea Tryz.prog r many least most low high Q h):CallT Tryz.prog zar [(shPtr).enc r,(shInt .i64).enc many,(shInt .i64).enc least,(shInt .i64).enc most,(shInt .i64).enc low,(shInt .i64).enc high] (shInt .i64) Q h:=
 zaa (C:=⟨Tryz.prog,tb,zre⟩) (A:=zrf) tb_ok Tryz.func67 rfl (Eq.mpr (by kernel_rfl) hv)
theorem zql {r c Q h} (hv:zfb Tryz.prog r c Q h):CallT Tryz.prog zkm [(shPtr).enc r,(sh_api_Config).enc c] (sh_api_Lane) Q h:=
 zaa (C:=⟨Tryz.prog,tb,zsz⟩) (A:=zta) tb_ok Tryz.func68 rfl (Eq.mpr (by kernel_rfl) hv)
end Lf

set_option maxRecDepth 100000
namespace Lf
open Go Go.Proofs
theorem zot {a b Q h} (hv:zeb Tryz.prog a b Q h):CallT Tryz.prog zih [(shSl).enc a,(shSl).enc b] (zag) Q h:=
 zaa (C:=⟨Tryz.prog,tb,zrg⟩) (A:=zrh) tb_ok Tryz.func69 rfl (Eq.mpr (by kernel_rfl) hv)
theorem zqm {a b Q h} (hv:zfc Tryz.prog a b Q h):CallT Tryz.prog zkn [(shSl).enc a,(shSl).enc b] (zag) Q h:=
 zaa (C:=⟨Tryz.prog,tb,ztb⟩) (A:=ztc) tb_ok Tryz.func70 rfl (Eq.mpr (by kernel_rfl) hv)
theorem zll {a b Q h} (hv:zit Tryz.prog a b Q h):CallT Tryz.prog zii [(shSl).enc a,(shSl).enc b] (zag) Q h:=
 zaa (C:=⟨Tryz.prog,tb,zzy⟩) (A:=zzz) tb_ok Tryz.func71 rfl (Eq.mpr (by kernel_rfl) hv)
theorem zqn {a b Q h} (hv:zfd Tryz.prog a b Q h):CallT Tryz.prog zko [(sh_api_Lane).enc a,(sh_api_Lane).enc b] (zag) Q h:=
 zaa (C:=⟨Tryz.prog,tb,ztd⟩) (A:=zte) tb_ok Tryz.func72 rfl (Eq.mpr (by kernel_rfl) hv)
theorem ztm {l Q h} (hv:zqy Tryz.prog l Q h):Call2 Tryz.prog zuw [(shSl).enc l] (shInt .i64) (shInt .i64) Q h:=
 show CallT Tryz.prog zuw [(shSl).enc l] (shRes tb [34,3]) (fun r=>Q r.1 r.2) h from zaa (C:=⟨Tryz.prog,tb,zsu1⟩) (A:=zsv1) tb_ok Tryz.func73 rfl (Eq.mpr (by kernel_rfl) hv)
theorem ztn {n most Q h} (hv:zdn1 Tryz.prog n most Q h):CallT Tryz.prog zux [(shInt .i64).enc n,(shInt .i64).enc most] (shInt .i64) Q h:=
 zaa (C:=⟨Tryz.prog,tb,zsw1⟩) (A:=zsx1) tb_ok Tryz.func74 rfl (Eq.mpr (by kernel_rfl) hv)
theorem zmb1 {table parts Q h} (hv:zdo1 Tryz.prog table parts Q h):Call3 Tryz.prog zdm1 [(shSl).enc table,(shInt .i64).enc parts] (shPtr) (shInt .i64) (shInt .i64) Q h:=
 show CallT Tryz.prog zdm1 [(shSl).enc table,(shInt .i64).enc parts] (shRes tb [138,34,3]) (fun r=>Q r.1 r.2.1 r.2.2) h from zaa (C:=⟨Tryz.prog,tb,zsy1⟩) (A:=zsz1) tb_ok Tryz.func75 rfl (Eq.mpr (by kernel_rfl) hv)
theorem zxv {part n Q h} (hv:zvf Tryz.prog part n Q h):CallT Tryz.prog zuy [(shInt .i64).enc part,(shInt .i64).enc n] (shInt .i64) Q h:=
 zaa (C:=⟨Tryz.prog,tb,znw1⟩) (A:=znx1) tb_ok Tryz.func76 rfl (Eq.mpr (by kernel_rfl) hv)
theorem zgw {n from_ to Q h} (hv:zvg Tryz.prog n from_ to Q h):CallT Tryz.prog zjc [(shInt .i64).enc n,(shInt .i64).enc from_,(shInt .i64).enc to] (zag) Q h:=
 zaa (C:=⟨Tryz.prog,tb,zny1⟩) (A:=znz1) tb_ok Tryz.func77 rfl (Eq.mpr (by kernel_rfl) hv)
theorem zgj1 {l locks Q h} (hv:zhi1 Tryz.prog l locks Q h):Call2 Tryz.prog zbc1 [(shSl).enc l,(shInt .i64).enc locks] (shInt .i64) (shInt .i64) Q h:=
 show CallT Tryz.prog zbc1 [(shSl).enc l,(shInt .i64).enc locks] (shRes tb [34,3]) (fun r=>Q r.1 r.2) h from zaa (C:=⟨Tryz.prog,tb,zxq1⟩) (A:=zxr1) tb_ok Tryz.func78 rfl (Eq.mpr (by kernel_rfl) hv)
theorem znw {s Q h} (hv:zdv Tryz.prog s Q h):CallT Tryz.prog zhz [(shSl).enc s] (shSl) Q h:=
 zaa (C:=⟨Tryz.prog,tb,zqd⟩) (A:=zqe) tb_ok Tryz.func79 rfl (Eq.mpr (by kernel_rfl) hv)
theorem zwz {a i Q h} (hv:zka Tryz.prog a i Q h):CallT Tryz.prog zpo [(sh_machine_asked).enc a,(shInt .i64).enc i] (shInt .i64) Q h:=
 zaa (C:=⟨Tryz.prog,tb,zci1⟩) (A:=zcj1) tb_ok Tryz.func80 rfl (Eq.mpr (by kernel_rfl) hv)
theorem zes {a p i Q h} (hv:zmd Tryz.prog a p i Q h):CallT Tryz.prog zep [(sh_machine_asked).enc a,(shInt .i64).enc p,(shInt .i64).enc i] (zag) Q h:=
 zaa (C:=⟨Tryz.prog,tb,zfp1⟩) (A:=zfq1) tb_ok Tryz.func81 rfl (Eq.mpr (by kernel_rfl) hv)
theorem zic {n Q h} (hv:zqz Tryz.prog n Q h):CallT Tryz.prog zij [(shInt .i64).enc n] (zag) Q h:=
 zaa (C:=⟨Tryz.prog,tb,zjp1⟩) (A:=zjq1) tb_ok Tryz.func82 rfl (Eq.mpr (by kernel_rfl) hv)
theorem znf {s f Q h} (hv:zgu Tryz.prog s f Q h):CallT Tryz.prog zgs [(shSl).enc s,(shFn).enc f] (zag) Q h:=
 zaa (C:=⟨Tryz.prog,tb,zpb⟩) (A:=zpc) tb_ok Tryz.func83 rfl (Eq.mpr (by kernel_rfl) hv)
theorem zto {p a1 a2 Q h} (hv:zhl Tryz.prog p a1 a2 Q h):CallT Tryz.prog zed [(shInt .i64).enc p,.pointer (some a1),.pointer (some a2)] (zag) Q h:=
 zaa (C:=⟨Tryz.prog,tb,zyi⟩) (A:=zyj) tb_ok Tryz.func84 rfl (Eq.mpr (by kernel_rfl) hv)
theorem zmp {state Q h} (hv:zra Tryz.prog state Q h):CallT Tryz.prog zlt [(shInt .i64).enc state] (zag) Q h:=
 zaa (C:=⟨Tryz.prog,tb,zjr1⟩) (A:=zjs1) tb_ok Tryz.func85 rfl (Eq.mpr (by kernel_rfl) hv)
theorem zyz {t i j Q h} (hv:zld Tryz.prog t i j Q h):CallT Tryz.prog zqw [(shPtr).enc t,(shInt .i64).enc i,(shInt .i64).enc j] (zag) Q h:=
 zaa (C:=⟨Tryz.prog,tb,zdr1⟩) (A:=zds1) tb_ok Tryz.func86 rfl (Eq.mpr (by kernel_rfl) hv)
theorem zet {a p Q h} (hv:zme Tryz.prog a p Q h):CallT Tryz.prog zeq [(sh_machine_asked).enc a,(shInt .i64).enc p] (shInt .i64) Q h:=
 zaa (C:=⟨Tryz.prog,tb,zfr1⟩) (A:=zfs1) tb_ok Tryz.func87 rfl (Eq.mpr (by kernel_rfl) hv)
theorem zhs {a p Q h} (hv:zle Tryz.prog a p Q h):CallT Tryz.prog zga [(sh_machine_asked).enc a,(shInt .i64).enc p] (sh_api_Ins) Q h:=
 zaa (C:=⟨Tryz.prog,tb,zdt1⟩) (A:=zdu1) tb_ok Tryz.func88 rfl (Eq.mpr (by kernel_rfl) hv)
theorem zuo {a w r Q h} (hv:ziu Tryz.prog a w r Q h):CallT Tryz.prog zoh [(sh_machine_asked).enc a,(sh_api_Waiter).enc w,(shInt .i64).enc r] (zag) Q h:=
 zaa (C:=⟨Tryz.prog,tb,zaa1⟩) (A:=zab1) tb_ok Tryz.func89 rfl (Eq.mpr (by kernel_rfl) hv)
theorem zxa {l Q h} (hv:zpq Tryz.prog l Q h):Call2 Tryz.prog zjl [(shSl).enc l] (shInt .i64) (shInt .i64) Q h:=
 show CallT Tryz.prog zjl [(shSl).enc l] (shRes tb [34,3]) (fun r=>Q r.1 r.2) h from zaa (C:=⟨Tryz.prog,tb,zck1⟩) (A:=zcl1) tb_ok Tryz.func90 rfl (Eq.mpr (by kernel_rfl) hv)
end Lf

set_option maxRecDepth 100000
namespace Lf
open Go Go.Proofs
theorem zsc {l parts Q h} (hv:zgk Tryz.prog l parts Q h):CallT Tryz.prog zlu [(shSl).enc l,(shInt .i64).enc parts] (shInt .i64) Q h:=
 zaa (C:=⟨Tryz.prog,tb,zvz⟩) (A:=zwa) tb_ok Tryz.func91 rfl (Eq.mpr (by kernel_rfl) hv)
theorem zbs {n least most Q h} (hv:zgl Tryz.prog n least most Q h):CallT Tryz.prog zbt [(shInt .i64).enc n,(shInt .i64).enc least,(shInt .i64).enc most] (zag) Q h:=
 zaa (C:=⟨Tryz.prog,tb,zwb⟩) (A:=zwc) tb_ok Tryz.func92 rfl (Eq.mpr (by kernel_rfl) hv)
theorem zxb {l locks Q h} (hv:zkb Tryz.prog l locks Q h):Call2 Tryz.prog zjm [(shSl).enc l,(shInt .i64).enc locks] (shInt .i64) (shInt .i64) Q h:=
 show CallT Tryz.prog zjm [(shSl).enc l,(shInt .i64).enc locks] (shRes tb [34,3]) (fun r=>Q r.1 r.2) h from zaa (C:=⟨Tryz.prog,tb,zcm1⟩) (A:=zcn1) tb_ok Tryz.func93 rfl (Eq.mpr (by kernel_rfl) hv)
theorem zcv {n low high Q h} (hv:zgm Tryz.prog n low high Q h):CallT Tryz.prog zco [(shInt .i64).enc n,(shInt .i64).enc low,(shInt .i64).enc high] (zag) Q h:=
 zaa (C:=⟨Tryz.prog,tb,zwd⟩) (A:=zwe) tb_ok Tryz.func94 rfl (Eq.mpr (by kernel_rfl) hv)
theorem zou {m i Q h} (hv:zec Tryz.prog m i Q h):CallT Tryz.prog zik [(shPtr).enc m,(shInt .i64).enc i] (shSl) Q h:=
 zaa (C:=⟨Tryz.prog,tb,zri⟩) (A:=zrj) tb_ok Tryz.func95 rfl (Eq.mpr (by kernel_rfl) hv)
theorem zcr {n Q h} (hv:zfk Tryz.prog n Q h):CallT Tryz.prog zci [(shInt .i64).enc n] (zag) Q h:=
 zaa (C:=⟨Tryz.prog,tb,zuc⟩) (A:=zud) tb_ok Tryz.func96 rfl (Eq.mpr (by kernel_rfl) hv)
theorem zdi {m p i Q h} (hv:zcq Tryz.prog m p i Q h):CallT Tryz.prog zcp [(shPtr).enc m,(shInt .i64).enc p,(shInt .i64).enc i] (zag) Q h:=
 zaa (C:=⟨Tryz.prog,tb,zrk⟩) (A:=zrl) tb_ok Tryz.func97 rfl (Eq.mpr (by kernel_rfl) hv)
theorem zmq {m i j Q h} (hv:zcd Tryz.prog m i j Q h):CallT Tryz.prog zft [(shPtr).enc m,(shInt .i64).enc i,(shInt .i64).enc j] (zag) Q h:=
 zaa (C:=⟨Tryz.prog,tb,zom⟩) (A:=zon) tb_ok Tryz.func98 rfl (Eq.mpr (by kernel_rfl) hv)
theorem zza {c code Q h} (hv:zlf Tryz.prog c code Q h):Call2 Tryz.prog zkz [(zcw).enc c,(shSl).enc code] (sh_api_Ins) (zag) Q h:=
 show CallT Tryz.prog zkz [(zcw).enc c,(shSl).enc code] (shRes tb [51,4]) (fun r=>Q r.1 r.2) h from zaa (C:=⟨Tryz.prog,tb,zdv1⟩) (A:=zdw1) tb_ok Tryz.func99 rfl (Eq.mpr (by kernel_rfl) hv)
theorem zng {m p Q h} (hv:zgv Tryz.prog m p Q h):CallT Tryz.prog zgt [(shPtr).enc m,(shInt .i64).enc p] (zcw) Q h:=
 zaa (C:=⟨Tryz.prog,tb,zpd⟩) (A:=zpe) tb_ok Tryz.func100 rfl (Eq.mpr (by kernel_rfl) hv)
theorem zat {r many Q h} (hv:zlg Tryz.prog r many Q h):CallT Tryz.prog zas [(shPtr).enc r,(shInt .i64).enc many] (shInt .i64) Q h:=
 zaa (C:=⟨Tryz.prog,tb,zdx1⟩) (A:=zdy1) tb_ok Tryz.func101 rfl (Eq.mpr (by kernel_rfl) hv)
theorem zit1 {b Q h} (hv:zvh Tryz.prog b Q h):Call3 Tryz.prog zuz [(shSl).enc b] (sh_api_Config) (shInt .i64) (shInt .i64) Q h:=
 show CallT Tryz.prog zuz [(shSl).enc b] (shRes tb [26,34,3]) (fun r=>Q r.1 r.2.1 r.2.2) h from zaa (C:=⟨Tryz.prog,tb,zoa1⟩) (A:=zob1) tb_ok Tryz.func102 rfl (Eq.mpr (by kernel_rfl) hv)
theorem zeu {r bytes most Q h} (hv:zmf Tryz.prog r bytes most Q h):CallT Tryz.prog zdj [(shPtr).enc r,(shInt .i64).enc bytes,(shInt .i64).enc most] (shInt .i64) Q h:=
 zaa (C:=⟨Tryz.prog,tb,zft1⟩) (A:=zfu1) tb_ok Tryz.func103 rfl (Eq.mpr (by kernel_rfl) hv)
theorem zan1 {r Q h} (hv:zmg Tryz.prog r Q h):CallT Tryz.prog zsh [(shPtr).enc r] (sh_api_Lane) Q h:=
 zaa (C:=⟨Tryz.prog,tb,zfv1⟩) (A:=zfw1) tb_ok Tryz.func104 rfl (Eq.mpr (by kernel_rfl) hv)
theorem zmr {r Q h} (hv:zdf Tryz.prog r Q h):CallT Tryz.prog zfu [(shPtr).enc r] (sh_api_Config) Q h:=
 zaa (C:=⟨Tryz.prog,tb,zoo⟩) (A:=zop) tb_ok Tryz.func105 rfl (Eq.mpr (by kernel_rfl) hv)
theorem zgx {s f Q h} (hv:zek Tryz.prog s f Q h):CallT Tryz.prog zeh [(shSl).enc s,(shFn).enc f] (shInt .i64) Q h:=
 zaa (C:=⟨Tryz.prog,tb,zrw⟩) (A:=zrx) tb_ok Tryz.func106 rfl (Eq.mpr (by kernel_rfl) hv)
theorem ziu1 {p a1 Q h} (hv:zfa1 Tryz.prog p a1 Q h):CallT Tryz.prog zva [(shInt .i64).enc p,.pointer (some a1)] (zag) Q h:=
 zaa (C:=⟨Tryz.prog,tb,zoc1⟩) (A:=zod1) tb_ok Tryz.func107 rfl (Eq.mpr (by kernel_rfl) hv)
theorem ztp {s Q h} (hv:zhm Tryz.prog s Q h):CallT Tryz.prog znl [(shSl).enc s] (shSl) Q h:=
 zaa (C:=⟨Tryz.prog,tb,zyk⟩) (A:=zyl) tb_ok Tryz.func108 rfl (Eq.mpr (by kernel_rfl) hv)
theorem zao1 {x n locks Q h} (hv:zzh Tryz.prog x n locks Q h):CallT Tryz.prog zze [(sh_api_Ins).enc x,(shInt .i64).enc n,(shInt .i64).enc locks] (shInt .i64) Q h:=
 zaa (C:=⟨Tryz.prog,tb,zqg1⟩) (A:=zqh1) tb_ok Tryz.func109 rfl (Eq.mpr (by kernel_rfl) hv)
theorem zrq {t i Q h} (hv:zoy Tryz.prog t i Q h):CallT Tryz.prog zox [(shPtr).enc t,(shInt .i64).enc i] (zag) Q h:=
 zaa (C:=⟨Tryz.prog,tb,zip1⟩) (A:=ziq1) tb_ok Tryz.func110 rfl (Eq.mpr (by kernel_rfl) hv)
theorem ziv1 {a b Q h} (hv:zvi Tryz.prog a b Q h):CallT Tryz.prog zew1 [(shInt .u64).enc a,(shInt .u64).enc b] (zag) Q h:=
 zaa (C:=⟨Tryz.prog,tb,zoe1⟩) (A:=zof1) tb_ok Tryz.func111 rfl (Eq.mpr (by kernel_rfl) hv)
theorem zks {x n locks Q h} (hv:zhn Tryz.prog x n locks Q h):CallT Tryz.prog zhc [(sh_api_Ins).enc x,(shInt .i64).enc n,(shInt .i64).enc locks] (shInt .i64) Q h:=
 zaa (C:=⟨Tryz.prog,tb,zym⟩) (A:=zyn) tb_ok Tryz.func112 rfl (Eq.mpr (by kernel_rfl) hv)
end Lf

set_option maxRecDepth 100000
namespace Lf
open Go Go.Proofs
theorem zms {m p Q h} (hv:zdg Tryz.prog m p Q h):CallT Tryz.prog zfv [(shPtr).enc m,(shInt .i64).enc p] (zag) Q h:=
 zaa (C:=⟨Tryz.prog,tb,zoq⟩) (A:=zor) tb_ok Tryz.func113 rfl (Eq.mpr (by kernel_rfl) hv)
theorem ztq {a b Q h} (hv:zho Tryz.prog a b Q h):CallT Tryz.prog znm [(shInt .u64).enc a,(shInt .u64).enc b] (zag) Q h:=
 zaa (C:=⟨Tryz.prog,tb,zyo⟩) (A:=zyp) tb_ok Tryz.func114 rfl (Eq.mpr (by kernel_rfl) hv)
theorem zbz {r e place Q h} (hv:zmh Tryz.prog r e place Q h):Call0 Tryz.prog zby [(shPtr).enc r,(shInt .i64).enc e,(shInt .i64).enc place] (Q) h:=
 show CallT Tryz.prog zby [(shPtr).enc r,(shInt .i64).enc e,(shInt .i64).enc place] (shRes tb []) (fun _=>Q) h from zaa (C:=⟨Tryz.prog,tb,zfx1⟩) (A:=zfy1) tb_ok Tryz.func115 rfl (Eq.mpr (by kernel_rfl) hv)
theorem zxc {r Q h} (hv:zkc Tryz.prog r Q h):Call0 Tryz.prog zjn [(shPtr).enc r] (Q) h:=
 show CallT Tryz.prog zjn [(shPtr).enc r] (shRes tb []) (fun _=>Q) h from zaa (C:=⟨Tryz.prog,tb,zco1⟩) (A:=zcp1) tb_ok Tryz.func116 rfl (Eq.mpr (by kernel_rfl) hv)
theorem zaz {r Q h} (hv:zjd Tryz.prog r Q h):CallT Tryz.prog zbf [(shPtr).enc r] (zag) Q h:=
 zaa (C:=⟨Tryz.prog,tb,zhl1⟩) (A:=zhm1) tb_ok Tryz.func117 rfl (Eq.mpr (by kernel_rfl) hv)
theorem zxd {r c Q h} (hv:zkd Tryz.prog r c Q h):Call0 Tryz.prog zjo [(shPtr).enc r,(shPtr).enc c] (Q) h:=
 show CallT Tryz.prog zjo [(shPtr).enc r,(shPtr).enc c] (shRes tb []) (fun _=>Q) h from zaa (C:=⟨Tryz.prog,tb,zcq1⟩) (A:=zcr1) tb_ok Tryz.func118 rfl (Eq.mpr (by kernel_rfl) hv)
theorem zzb {r c Q h} (hv:zlh Tryz.prog r c Q h):Call0 Tryz.prog zla [(shPtr).enc r,(shPtr).enc c] (Q) h:=
 show CallT Tryz.prog zla [(shPtr).enc r,(shPtr).enc c] (shRes tb []) (fun _=>Q) h from zaa (C:=⟨Tryz.prog,tb,zdz1⟩) (A:=zea1) tb_ok Tryz.func119 rfl (Eq.mpr (by kernel_rfl) hv)
theorem zxe {r part bytes Q h} (hv:zke Tryz.prog r part bytes Q h):CallT Tryz.prog zcs [(shPtr).enc r,(shInt .i64).enc part,(shInt .i64).enc bytes] (shInt .i64) Q h:=
 zaa (C:=⟨Tryz.prog,tb,zcs1⟩) (A:=zct1) tb_ok Tryz.func120 rfl (Eq.mpr (by kernel_rfl) hv)
theorem zfp {r most Q h} (hv:ziv Tryz.prog r most Q h):CallT Tryz.prog zer [(shPtr).enc r,(shInt .i64).enc most] (shInt .i64) Q h:=
 zaa (C:=⟨Tryz.prog,tb,zac1⟩) (A:=zad1) tb_ok Tryz.func121 rfl (Eq.mpr (by kernel_rfl) hv)
theorem zap1 {r c Q h} (hv:zmi Tryz.prog r c Q h):Call0 Tryz.prog zlv [(shPtr).enc r,(shPtr).enc c] (Q) h:=
 show CallT Tryz.prog zlv [(shPtr).enc r,(shPtr).enc c] (shRes tb []) (fun _=>Q) h from zaa (C:=⟨Tryz.prog,tb,zfz1⟩) (A:=zga1) tb_ok Tryz.func122 rfl (Eq.mpr (by kernel_rfl) hv)
theorem znx {r many locks Q h} (hv:zdw Tryz.prog r many locks Q h):CallT Tryz.prog zia [(shPtr).enc r,(shInt .i64).enc many,(shInt .i64).enc locks] (shSl) Q h:=
 zaa (C:=⟨Tryz.prog,tb,zqf⟩) (A:=zqg) tb_ok Tryz.func123 rfl (Eq.mpr (by kernel_rfl) hv)
theorem zkn1 {x n locks Q h} (hv:zzi Tryz.prog x n locks Q h):Call2 Tryz.prog zzf [(sh_api_Ins).enc x,(shInt .i64).enc n,(shInt .i64).enc locks] (shInt .i64) (shInt .i64) Q h:=
 show CallT Tryz.prog zzf [(sh_api_Ins).enc x,(shInt .i64).enc n,(shInt .i64).enc locks] (shRes tb [34,3]) (fun r=>Q r.1 r.2) h from zaa (C:=⟨Tryz.prog,tb,zqi1⟩) (A:=zqj1) tb_ok Tryz.func124 rfl (Eq.mpr (by kernel_rfl) hv)
theorem zkt {x n locks Q h} (hv:zhp Tryz.prog x n locks Q h):Call2 Tryz.prog zee [(sh_api_Ins).enc x,(shInt .i64).enc n,(shInt .i64).enc locks] (shInt .i64) (shInt .i64) Q h:=
 show CallT Tryz.prog zee [(sh_api_Ins).enc x,(shInt .i64).enc n,(shInt .i64).enc locks] (shRes tb [34,3]) (fun r=>Q r.1 r.2) h from zaa (C:=⟨Tryz.prog,tb,zyq⟩) (A:=zyr) tb_ok Tryz.func125 rfl (Eq.mpr (by kernel_rfl) hv)
theorem zmt {a n Q h} (hv:zkf Tryz.prog a n Q h):CallT Tryz.prog zjp [(shInt .u64).enc a,(shInt .i64).enc n] (zag) Q h:=
 zaa (C:=⟨Tryz.prog,tb,zcu1⟩) (A:=zcv1) tb_ok Tryz.func126 rfl (Eq.mpr (by kernel_rfl) hv)
theorem zdx {r many wrong Q h} (hv:zkg Tryz.prog r many wrong Q h):CallT Tryz.prog zbd [(shPtr).enc r,(shInt .i64).enc many,(shFn).enc wrong] (shInt .u64) Q h:=
 zaa (C:=⟨Tryz.prog,tb,zcw1⟩) (A:=zcx1) tb_ok Tryz.func127 rfl (Eq.mpr (by kernel_rfl) hv)
theorem ztr {n a1 Q h} (hv:zhq Tryz.prog n a1 Q h):CallT Tryz.prog zhd [(shInt .u64).enc n,.pointer (some a1)] (shInt .i64) Q h:=
 zaa (C:=⟨Tryz.prog,tb,zys⟩) (A:=zyt) tb_ok Tryz.func128 rfl (Eq.mpr (by kernel_rfl) hv)
theorem zts {a a1 Q h} (hv:zhr Tryz.prog a a1 Q h):CallT Tryz.prog zhe [(shInt .u64).enc a,.pointer (some a1)] (shInt .i64) Q h:=
 zaa (C:=⟨Tryz.prog,tb,zyu⟩) (A:=zyv) tb_ok Tryz.func129 rfl (Eq.mpr (by kernel_rfl) hv)
theorem zji {r c Q h} (hv:zgn Tryz.prog r c Q h):CallT Tryz.prog zgb [(shPtr).enc r,(shPtr).enc c] (shInt .i64) Q h:=
 zaa (C:=⟨Tryz.prog,tb,zwf⟩) (A:=zwg) tb_ok Tryz.func130 rfl (Eq.mpr (by kernel_rfl) hv)
theorem zfh {r many wrong Q h} (hv:znr Tryz.prog r many wrong Q h):CallT Tryz.prog zfi [(shPtr).enc r,(shInt .i64).enc many,(shFn).enc wrong] (shInt .i64) Q h:=
 zaa (C:=⟨Tryz.prog,tb,zhn1⟩) (A:=zho1) tb_ok Tryz.func131 rfl (Eq.mpr (by kernel_rfl) hv)
theorem ztt {n a1 Q h} (hv:znn Tryz.prog n a1 Q h):CallT Tryz.prog zhf [(shInt .i64).enc n,.pointer (some a1)] (shInt .i64) Q h:=
 zaa (C:=⟨Tryz.prog,tb,zyw⟩) (A:=zyx) tb_ok Tryz.func132 rfl (Eq.mpr (by kernel_rfl) hv)
theorem zsd {n a1 Q h} (hv:zmj Tryz.prog n a1 Q h):CallT Tryz.prog zgc [(shInt .i64).enc n,.pointer (some a1)] (shInt .i64) Q h:=
 zaa (C:=⟨Tryz.prog,tb,zwh⟩) (A:=zwi) tb_ok Tryz.func133 rfl (Eq.mpr (by kernel_rfl) hv)
theorem zxf {n Q h} (hv:zkh Tryz.prog n Q h):CallT Tryz.prog zjq [(shInt .i64).enc n] (shInt .i64) Q h:=
 zaa (C:=⟨Tryz.prog,tb,zcy1⟩) (A:=zcz1) tb_ok Tryz.func134 rfl (Eq.mpr (by kernel_rfl) hv)
end Lf

set_option maxRecDepth 100000
namespace Lf
open Go Go.Proofs
theorem zdc1 {r n locks Q h} (hv:zns Tryz.prog r n locks Q h):CallT Tryz.prog ztz [(shPtr).enc r,(shInt .i64).enc n,(shInt .i64).enc locks] (sh_api_Ins) Q h:=
 zaa (C:=⟨Tryz.prog,tb,zhp1⟩) (A:=zhq1) tb_ok Tryz.func135 rfl (Eq.mpr (by kernel_rfl) hv)
theorem zxg {b Q h} (hv:zki Tryz.prog b Q h):CallT Tryz.prog zpp [(shSl).enc b] (sh_api_Ins) Q h:=
 zaa (C:=⟨Tryz.prog,tb,zda1⟩) (A:=zdb1) tb_ok Tryz.func136 rfl (Eq.mpr (by kernel_rfl) hv)
theorem zxw {op Q h} (hv:zvj Tryz.prog op Q h):Call4 Tryz.prog zpt [(shInt .i64).enc op] (zag) (zag) (zag) (zag) Q h:=
 show CallT Tryz.prog zpt [(shInt .i64).enc op] (shRes tb [4,4,4,4]) (fun r=>Q r.1 r.2.1 r.2.2.1 r.2.2.2) h from zaa (C:=⟨Tryz.prog,tb,zog1⟩) (A:=zoh1) tb_ok Tryz.func137 rfl (Eq.mpr (by kernel_rfl) hv)
theorem zmu {has n Q h} (hv:zrb Tryz.prog has n Q h):CallT Tryz.prog zlw [(zag).enc has,(shInt .i64).enc n] (shInt .i64) Q h:=
 zaa (C:=⟨Tryz.prog,tb,zjt1⟩) (A:=zju1) tb_ok Tryz.func138 rfl (Eq.mpr (by kernel_rfl) hv)
theorem ziw1 {x has n locks Q h} (hv:zvk Tryz.prog x has n locks Q h):CallT Tryz.prog zex1 [(sh_api_Ins).enc x,(zag).enc has,(shInt .i64).enc n,(shInt .i64).enc locks] (shInt .i64) Q h:=
 zaa (C:=⟨Tryz.prog,tb,zoi1⟩) (A:=zoj1) tb_ok Tryz.func139 rfl (Eq.mpr (by kernel_rfl) hv)
theorem zse {op Q h} (hv:zgo Tryz.prog op Q h):Call4 Tryz.prog zgd [(shInt .i64).enc op] (zag) (zag) (zag) (zag) Q h:=
 show CallT Tryz.prog zgd [(shInt .i64).enc op] (shRes tb [4,4,4,4]) (fun r=>Q r.1 r.2.1 r.2.2.1 r.2.2.2) h from zaa (C:=⟨Tryz.prog,tb,zwj⟩) (A:=zwk) tb_ok Tryz.func140 rfl (Eq.mpr (by kernel_rfl) hv)
theorem zdy {n has Q h} (hv:zfe Tryz.prog n has Q h):CallT Tryz.prog zdb [(shInt .i64).enc n,(zag).enc has] (shInt .i64) Q h:=
 zaa (C:=⟨Tryz.prog,tb,ztf⟩) (A:=ztg) tb_ok Tryz.func141 rfl (Eq.mpr (by kernel_rfl) hv)
theorem zqo {n a1 Q h} (hv:zkp Tryz.prog n a1 Q h):CallT Tryz.prog zex [(shInt .i64).enc n,.pointer (some a1)] (shInt .i64) Q h:=
 zaa (C:=⟨Tryz.prog,tb,zth⟩) (A:=zti) tb_ok Tryz.func142 rfl (Eq.mpr (by kernel_rfl) hv)
theorem zzc {n a1 Q h} (hv:zrc Tryz.prog n a1 Q h):CallT Tryz.prog zlb [(shInt .u64).enc n,.pointer (some a1)] (shInt .i64) Q h:=
 zaa (C:=⟨Tryz.prog,tb,zeb1⟩) (A:=zec1) tb_ok Tryz.func143 rfl (Eq.mpr (by kernel_rfl) hv)
theorem zzd {a0 Q h} (hv:zrd Tryz.prog a0 Q h):CallT Tryz.prog zge [(shInt .u64).enc a0] (shInt .i64) Q h:=
 zaa (C:=⟨Tryz.prog,tb,zed1⟩) (A:=zee1) tb_ok Tryz.func144 rfl (Eq.mpr (by kernel_rfl) hv)
theorem zix1 {x e Q h} (hv:zvl Tryz.prog x e Q h):CallT Tryz.prog zey1 [(sh_api_Ins).enc x,(shInt .i64).enc e] (shInt .i64) Q h:=
 zaa (C:=⟨Tryz.prog,tb,zok1⟩) (A:=zol1) tb_ok Tryz.func145 rfl (Eq.mpr (by kernel_rfl) hv)
theorem ziy1 {op Q h} (hv:zvm Tryz.prog op Q h):CallT Tryz.prog zez1 [(shInt .i64).enc op] (shStr) Q h:=
 zaa (C:=⟨Tryz.prog,tb,zom1⟩) (A:=zon1) tb_ok Tryz.func146 rfl (Eq.mpr (by kernel_rfl) hv)
theorem zgk1 {field a1 Q h} (hv:zzj Tryz.prog field a1 Q h):CallT Tryz.prog zzg [(shStr).enc field,.pointer (some a1)] (zag) Q h:=
 zaa (C:=⟨Tryz.prog,tb,zjv1⟩) (A:=zjw1) tb_ok Tryz.func147 rfl (Eq.mpr (by kernel_rfl) hv)
end Lf



namespace Lf
open Go
def Rw {α:Type} (h:Hp) (sz:Nat) (enc:α→List Value) (l:Sl) (xs:List α):Prop:=
  l.len=xs.length∧zhf1 h l.base (xs.length*sz) (xs.flatMap enc)
section
variable {α:Type} {h h':Hp} {sz:Nat} {enc:α→List Value} {l:Sl} {xs:List α}
theorem zhu1 (hl:h≤h') {a:Addr} {v:Value} (e:hcell h a=some v):hcell h' a=some v:=by
  unfold hcell at e ⊢
  split at e
  · rename_i c t f hb
    rw [hl _ _ hb]
    exact e
  · cases e
theorem zev (hl:h≤h') {a:Addr} {cs:List Value} (e:LdIs h a cs):LdIs h' a cs:=fun i v hv=>zhu1 hl (e i v hv)
theorem Rw.mono (hl:h≤h') (r:Rw h sz enc l xs):Rw h' sz enc l xs:=by
  obtain ⟨h1,h2,h3⟩:=r
  refine ⟨h1,h2,h3.imp id ?_⟩
  rintro ⟨a,ha,hc⟩
  exact ⟨a,ha,zev hl hc⟩
theorem zwj1 (henc:∀x,(enc x).length=sz):∀(xs:List α) (i:Nat) (x:α),xs[i]?=some x→∀j v,(enc x)[j]?=some v→(xs.flatMap enc)[i*sz+j]?=some v
  | [],i,x,hx,_,_,_=>by simp at hx
  | y::xs,0,x,hx,j,v,hv=>by
    simp at hx
    subst hx
    have hj:j<(enc y).length:=(List.getElem?_eq_some_iff.1 hv).1
    simp only [List.flatMap_cons,Nat.zero_mul,Nat.zero_add]
    rw [List.getElem?_append_left hj]
    exact hv
  | y::xs,i+1,x,hx,j,v,hv=>by
    have:=zwj1 henc xs i x (by simpa using hx) j v hv
    simp only [List.flatMap_cons]
    have e:(i+1)*sz+j=sz+(i*sz+j):=by rw [Nat.add_mul];omega
    rw [List.getElem?_append_right (by rw [henc,e];omega),henc,e,Nat.add_sub_cancel_left]
    exact this
theorem zav2 (henc:∀x,(enc x).length=sz):∀(xs:List α) (i:Nat) (v:Value),(xs.flatMap enc)[i]?=some v→∃q x j,xs[q]?=some x∧(enc x)[j]?=some v∧i=q*sz+j
  | [],i,v,hv=>by simp at hv
  | y::xs,i,v,hv=>by
    simp only [List.flatMap_cons] at hv
    by_cases hi:i<(enc y).length
    · rw [List.getElem?_append_left hi] at hv
      exact ⟨0,y,i,rfl,hv,by simp⟩
    · rw [List.getElem?_append_right (by omega)] at hv
      obtain ⟨q,x,j,h1,h2,h3⟩:=zav2 henc xs _ v hv
      rw [henc] at h3 hi
      exact ⟨q+1,x,j,by simpa using h1,h2,by rw [Nat.add_mul];omega⟩
theorem Rw.read (r:Rw h sz enc l xs) (henc:∀x,(enc x).length=sz) (hsz:0<sz) {i:Int} (h0:0≤i) (h1:i<(l.len:Int)):
    InB l.base l.len i∧∃x,xs[i.toNat]?=some x∧LdIs h (sat l.base sz i) (enc x):=by
  obtain ⟨h2,h3,h4⟩:=r
  have hi:i.toNat<xs.length:=by omega
  have hne:xs.length*sz≠0:=by
    have:0<xs.length:=by omega
    exact Nat.ne_of_gt (Nat.mul_pos this hsz)
  obtain ⟨a,ha,hc⟩:=h4.resolve_left hne
  refine ⟨⟨by simp [ha],h0,h1⟩,xs[i.toNat],by simp [hi],fun j v hv=> ?_⟩
  have:=hc (i.toNat*sz+j) v (zwj1 henc xs i.toNat _ (by simp [hi]) j v hv)
  unfold sat
  rw [ha,Option.getD_some,zae1]
  exact this
def Own (h0 h:Hp) (sz:Nat) (enc:α→List Value) (l:Sl) (xs:List α):Prop:=
  l.len=xs.length∧l.len≤l.cap∧((l.base=none∧l.cap=0)∨
    ∃(b:Nat) (cs:List Value) (t:Nat),l.base=some ⟨b,0,none⟩∧h b=some (.cells cs.toArray t (0,0))∧cs.length=l.cap*sz∧cs.take (l.len*sz)=xs.flatMap enc∧h0 b=none)
theorem zbw (henc:∀x,(enc x).length=sz):∀xs:List α,(xs.flatMap enc).length=xs.length*sz
  | []=>by simp
  | x::xs=>by
    simp only [List.flatMap_cons,List.length_append,henc,zbw henc xs,List.length_cons,Nat.add_mul,Nat.one_mul]
    omega
theorem zts1 (hok:∀x,zcz (enc x)=true):∀xs:List α,zcz (xs.flatMap enc)=true:=by
  have app:∀a b:List Value,zcz a=true→zcz b=true→zcz (a++b)=true:=by
    intro a b ha hb
    induction a with
    | nil=>exact hb
    | cons v a ih=>cases v<;>first | (exact ih ha) | (cases ha)
  intro xs
  induction xs with
  | nil=>rfl
  | cons x xs ih=>exact app _ _ (hok x) ih
theorem zov {b:Nat} {cs:List Value} {t:Nat} (e:h b=some (.cells cs.toArray t (0,0))) (i:Nat):hcell h ⟨b,i,none⟩=cs[i]?:=by
  unfold hcell
  simp [e]
theorem Own.rw {h0:Hp} (o:Own h0 h sz enc l xs) (henc:∀x,(enc x).length=sz):Rw h sz enc l xs:=by
  obtain ⟨h1,h2,h3⟩:=o
  refine ⟨h1,zbw henc xs,?_⟩
  rcases h3 with ⟨e,ec⟩ | ⟨b,cs,t,e,hb,hl,ht,_⟩
  · left
    have:xs.length=0:=by omega
    rw [this,Nat.zero_mul]
  · right
    refine ⟨_,e,fun j v hv=> ?_⟩
    rw [zdh,zov hb,Nat.zero_add]
    rw [←ht,List.getElem?_take] at hv
    split at hv
    · exact hv
    · cases hv
theorem Own.mono {h0:Hp} (hl:h≤h') (o:Own h0 h sz enc l xs):Own h0 h' sz enc l xs:=by
  obtain ⟨h1,h2,h3⟩:=o
  refine ⟨h1,h2,h3.imp id ?_⟩
  rintro ⟨b,cs,t,e1,e2,e3⟩
  exact ⟨b,cs,t,e1,hl _ _ e2,e3⟩
theorem zko1 {h0:Hp} {zero:List Value} {bytes:Nat} {x:Sl} {ys:List α} {K:Sl→Hp→Prop} (hw:h0≤h) (o:Own h0 h sz enc l xs) (r:Rw h sz enc x ys) (henc:∀x,(enc x).length=sz) (hok:∀x,zcz (enc x)=true)
    (hz:zero.length=sz) (hb:xs.length+ys.length≤140737488355328∧(xs.length+ys.length)*bytes≤140737488355328)
    (hk:∀l' h',h0≤h'→Own h0 h' sz enc l' (xs++ys)→(∀b ob,h b=some ob→(∀a,l.base=some a→a.block≠b)→h' b=some ob)→K l' h'):zaj sz bytes zero l x K h:=by
  have hrw:=o.rw henc
  obtain ⟨h1,h2,h3⟩:=o
  obtain ⟨hx1,hx2⟩:=r
  refine ⟨ys.flatMap enc,by rw [hx1];exact hx2,xs.flatMap enc,by rw [h1];exact hrw.2,by rw [h1,hx1];exact hb,zts1 hok ys,fun hcap=> ?_,fun hcap c b t hc hbn=> ?_⟩
  · rcases h3 with ⟨e,ec⟩ | ⟨b,cs,t,e,hbk,hl,ht,hn⟩
    · -- nothing is put
      have e1:ys.length=0:=by omega
      have e2:ys=[]:=List.length_eq_zero_iff.1 e1
      subst e2
      refine ⟨fun a ha=>(by rw [e] at ha;cases ha),?_⟩
      have e3:putO h l.base (l.len*sz) (([]:List α).flatMap enc)=h:=by rw [e];rfl
      rw [e3,hx1]
      refine hk _ h hw ⟨by simp [h1],by simpa using h2,.inl ⟨e,ec⟩⟩ fun _ _ e _=>e
    · have hle:l.len*sz+(ys.flatMap enc).length≤cs.length:=by
        rw [hl,zbw henc,←Nat.add_mul]
        exact Nat.mul_le_mul_right sz (by omega)
      obtain ⟨p1,p2⟩:=zge1 b t (ys.flatMap enc) h 0 (l.len*sz) cs (by simpa using hle) hbk
      have hst:∀(k:Nat),l.len*sz+k≤cs.length→StOk h (⟨b,l.len*sz,none⟩:Addr) k:=by
        intro k
        induction k with
        | zero=>intro _;trivial
        | succ k ih=>
          intro hk'
          refine ⟨ih (by omega),⟨cs[l.len*sz+k]'(by omega),?_⟩,?_⟩
          · rw [zdh,zov hbk]
            simp
          · rw [zdh]
            unfold hfroz
            simp [hbk]
      refine ⟨fun a ha=> ?_,?_⟩
      · rw [e] at ha;cases ha
        rw [zdh,Nat.zero_add]
        refine hst _ ?_
        rw [hx1,←zbw henc ys]
        exact hle
      · have e3:putO h l.base (l.len*sz) (ys.flatMap enc)=putL h ⟨b,l.len*sz,none⟩ (ys.flatMap enc) 0:=by
          rw [e]
          simp only [putO,zdh,Nat.zero_add]
        rw [e3]
        rw [Nat.add_zero] at p1
        refine hk _ _ (fun b' ob eb=> ?_) ⟨by simp [h1,hx1],hcap,.inr ⟨b,_,t,e,p1,?_,?_,hn⟩⟩ fun b' ob eb hne=> ?_
        · have hne:b'≠b:=fun e'=>by rw [e',hn] at eb;cases eb
          rw [p2 b' hne]
          exact hw _ _ eb
        · rw [zte1 _ _ _ hle,hl]
        · rw [zwo _ _ _ hle]
          have e4:(l.len+x.len)*sz=(cs.take (l.len*sz)++ys.flatMap enc).length:=by
            rw [List.length_append,ht,zbw henc,zbw henc,h1,hx1,Nat.add_mul]
          rw [e4,List.take_left,ht,List.flatMap_append]
        · rw [p2 b' fun e'=>hne _ e e'.symm]
          exact eb
  · have hh:∀b' ob,h b'=some ob→(h.set b (.cells (xs.flatMap enc++ys.flatMap enc++zbu zero (c-(l.len+x.len))).toArray t (0,0))) b'=some ob:=fun b' ob eb=>by
      have hne:b'≠b:=fun e'=>by rw [e',hbn] at eb;cases eb
      simp [Hp.set,hne,eb]
    refine hk _ _ (fun b' ob eb=>hh b' ob (hw _ _ eb)) ⟨by simp [h1,hx1],hc,.inr ⟨b,xs.flatMap enc++ys.flatMap enc++zbu zero (c-(l.len+x.len)),t,rfl,by simp [Hp.set],?_,?_,?_⟩⟩ fun b' ob eb _=>hh b' ob eb
    · have hzl:∀k,(zbu zero k).length=k*sz:=fun k=>by simp [zbu,hz]
      rw [List.length_append,List.length_append,zbw henc,zbw henc,hzl,←Nat.add_mul,←Nat.add_mul]
      show _=c*sz
      congr 1
      omega
    · have e4:(l.len+x.len)*sz=(xs.flatMap enc++ys.flatMap enc).length:=by
        rw [List.length_append,zbw henc,zbw henc,h1,hx1,Nat.add_mul]
      show List.take ((l.len+x.len)*sz) _=_
      rw [e4,List.take_left,List.flatMap_append]
    · cases e0:h0 b with
      | none=>rfl
      | some ob=>rw [hw _ _ e0] at hbn;cases hbn
end
abbrev Rs (h:Hp) (sh:Shape) (sz:Nat) (l:Sl) (xs:List sh.T):Prop:=Rw h sz (fun x=>zad (sh.enc x)) l xs
section
variable {h h':Hp} {sh:Shape} {sz:Nat} {l:Sl} {xs:List sh.T} {K:sh.T→Prop} {i:Int}
theorem Rs.get (r:Rs h sh sz l xs) (henc:∀x,(zad (sh.enc x)).length=sz) (hsz:0<sz) (h0:0≤i) (h1:i<(xs.length:Int)) (hk:∀x,xs[i.toNat]?=some x→K x):
    InB l.base l.len i∧LdW none sh h (sat l.base sz i) K:=by
  obtain ⟨e1,x,hx,hl⟩:=Rw.read r henc hsz h0 (by rw [r.1];exact h1)
  exact ⟨e1,x,hl,hk x hx⟩
theorem Rs.getC {c:Bool} (r:Rs h sh sz l xs) (x0:sh.T) (henc:∀x,(zad (sh.enc x)).length=sz) (hsz:0<sz) (h0:c=true→0≤i∧i<(xs.length:Int)) (hk:∀x,(c=true→xs[i.toNat]?=some x)→K x):
    (c=true→InB l.base l.len i)∧LdW (some c) sh h (sat l.base sz i) K:=by
  cases c with
  | false=>exact ⟨fun e=>(by cases e),x0,fun e=>(by cases e),hk x0 fun e=>(by cases e)⟩
  | true=>
    obtain ⟨e1,x,hx,hl⟩:=Rw.read r henc hsz (h0 rfl).1 (by rw [r.1];exact (h0 rfl).2)
    exact ⟨fun _=>e1,x,fun _=>hl,hk x fun _=>hx⟩
theorem ld_at {a:Addr} (x:sh.T) (hl:LdIs h a (zad (sh.enc x))) (hk:K x):LdW none sh h a K:=⟨x,hl,hk⟩
theorem letW {α:Type} {x:α} {K:α→Prop} (hk:K x):LetW x K:=fun _ e=>e▸hk
theorem zal {n:Int} (h0: -9223372036854775808≤n) (h1:n<9223372036854775808):IntKind.wrap .i64 n=n:=by
  unfold IntKind.wrap
  simp only [IntKind.signed,IntKind.bits]
  first | omega | (simp;omega)
end
theorem zaq1 {α:Type} {h0 h:Hp} {sz:Nat} {enc:α→List Value} {cs:List Value} {xs:List α} {K:Addr→Hp→Prop} (hw:h0≤h) (hc:cs=xs.flatMap enc) (henc:∀x,(enc x).length=sz)
    (hk:∀a h',h≤h'→Own h0 h' sz enc ⟨some a,xs.length,xs.length⟩ xs→K a h'):NewW cs K h:=by
  intro b t hb
  have hle:h≤h.set b (.cells cs.toArray t (0,0)):=fun b' o e=>by
    have hne:b'≠b:=fun e'=>by rw [e',hb] at e;cases e
    simp [Hp.set,hne,e]
  refine hk _ _ hle ⟨rfl,Nat.le_refl _,.inr ⟨b,cs,t,rfl,by simp [Hp.set],?_,?_,?_⟩⟩
  · rw [hc,zbw henc]
  · have:(xs.length*sz)=(xs.flatMap enc).length:=(zbw henc xs).symm
    show List.take (xs.length*sz) cs=_
    rw [this,hc,List.take_length]
  · cases e0:h0 b with
    | none=>rfl
    | some ob=>rw [hw _ _ e0] at hb;cases hb
end Lf

namespace Lf
open Go
def CKeep (h h':Hp):Prop:=∀a v,hcell h a=some v→hcell h' a=some v
theorem CKeep.of_le {h h':Hp} (hl:h≤h'):CKeep h h':=fun _ _ e=>zhu1 hl e
theorem zaw2 {h h':Hp} (hl:CKeep h h') {a:Addr} {cs:List Value} (e:LdIs h a cs):LdIs h' a cs:=fun i v hv=>hl _ _ (e i v hv)
theorem Rw.ck {α:Type} {h h':Hp} {sz:Nat} {enc:α→List Value} {l:Sl} {xs:List α} (hl:CKeep h h') (r:Rw h sz enc l xs):Rw h' sz enc l xs:=by
  obtain ⟨h1,h2,h3⟩:=r
  refine ⟨h1,h2,h3.imp id ?_⟩
  rintro ⟨a,ha,hc⟩
  exact ⟨a,ha,zaw2 hl hc⟩
theorem zif2 {h:Hp} {m:Nat} {o o':Obj} (e:h m=some o) (hc:zdi1 o=false):CKeep h (h.set m o'):=by
  intro a v hv
  obtain ⟨c,t,fr,hb,hsp,hg⟩:=zno hv
  have hne:a.block≠m:=fun e'=>by rw [e',e] at hb;cases hb;cases hc
  unfold hcell at hv ⊢
  have:(h.set m o') a.block=h a.block:=by simp [Hp.set,hne]
  rw [this]
  exact hv
theorem zny {h:Hp} {b:Nat} {o:Obj} (hn:h b=none):h≤h.set b o:=fun b' o' e=>by
  have hne:b'≠b:=fun e'=>by rw [e',hn] at e;cases e
  simp [Hp.set,hne,e]
theorem zid {h:Hp} {b:Nat} {o:Obj}:(h.set b o) b=some o:=by simp [Hp.set]
theorem zdy2 {h h0:Hp} {b:Nat} {o:Obj} (hl:h0≤h) (hn:h0 b=none):h0≤h.set b o:=fun b' o' e=>by
  have hne:b'≠b:=fun e'=>by rw [e',hn] at e;cases e
  simp only [Hp.set,hne,if_false]
  exact hl _ _ e
theorem zbc {h0 h:Hp} {b:Nat} (hl:h0≤h) (hn:h b=none):h0 b=none:=by
  cases e:h0 b with
  | none=>rfl
  | some o=>rw [hl _ _ e] at hn;cases hn
theorem zpb1 {h:Hp} {b t:Nat} {cs:List Value}:LdIs (h.set b (.cells cs.toArray t (0,0))) ⟨b,0,none⟩ cs:=fun i v hv=>by
  rw [zdh,zov zid,Nat.zero_add]
  exact hv
theorem zab {p:Addr} {c:Option Bool} {K:Addr→Prop} (hk:K p):NilW c (some p) K:=by
  refine ⟨p,?_,hk⟩
  cases c with
  | none=>rfl
  | some b=>exact fun _=>rfl
theorem zdz2 {P:Program} {t:Nat} {d:TypeDesc} (hu:P.underlying t=some d) {K:TypeDesc→Hp→Prop} {h:Hp} (hk:K d h):semW P (underlying t) K h:=by
  show semW P (match P.underlying t with
    | some d=>Sem.pure d
    | none=>_) K h
  rw [hu]
  exact hk
theorem zpc1 {P:Program} {s:Sem Value} {h:Hp} {v:Value} (hi:semW P s (fun u h'=>u=v∧h'=h) h):SemIs P s h v:=by
  intro w hs
  obtain ⟨a,w',h',hr,⟨ha,hh⟩,hst⟩:=ztw s hs hi
  subst ha;subst hh
  exact ⟨w',hr,hst⟩
theorem zie1 {P:Program} {s:Sem Value} {h:Hp} {v:Value} (hi:∀w,s.run P w=.ok v w):SemIs P s h v:=fun w hs=>⟨w,hi w,.refl hs⟩
theorem zkp1 {P:Program} {t e:Nat} {x y:Operand} {h:Hp} (hu:P.underlying t=some (.slice e)) (s:Sl):SemIs P (binS .eql t x y s.v (.slice none 0 0)) h (.bool s.base.isNone):=by
  have key:∀d,semW P (Op.equalIn (d+1) t s.v (.slice none 0 0)) (fun u h'=>u=s.base.isNone∧h'=h) h:=by
    intro d
    unfold Op.equalIn
    refine (zqd1 _ _).2 (zdz2 hu ?_)
    cases hb:s.base with
    | none=>simp only [Sl.v,hb];exact ⟨rfl,rfl⟩
    | some a=>simp only [Sl.v,hb];exact ⟨rfl,rfl⟩
  refine zpc1 ?_
  show semW P (Sem.bind (Op.equal t s.v (.slice none 0 0)) fun b=>Sem.pure (Value.bool b)) _ h
  refine (zqd1 _ _).2 (zzf1 _ (fun a k hk=> ?_) (key 9999))
  obtain ⟨rfl,rfl⟩:=hk
  exact ⟨rfl,rfl⟩
end Lf

namespace Lf
open Go
theorem zra1 {h:Hp} {a:Addr} {cs:List Value} (e:LdIs h a cs) (n:Nat):LdIs h (a.add n) (cs.drop n):=fun i v hv=>by
  rw [zae1]
  exact e (n+i) v (by simpa [List.getElem?_drop] using hv)
theorem zar1 {α:Type} {sz:Nat} {enc:α→List Value} (henc:∀x,(enc x).length=sz):∀(xs:List α) (n:Nat),(xs.drop n).flatMap enc=(xs.flatMap enc).drop (n*sz)
  | [],n=>by simp
  | x::xs,0=>by simp
  | x::xs,n+1=>by
    simp only [List.drop_succ_cons,List.flatMap_cons]
    have e:(enc x).drop (n*sz+sz)=[]:=List.drop_eq_nil_of_le (by rw [henc];omega)
    rw [zar1 henc xs n,Nat.add_mul,Nat.one_mul,List.drop_append,henc,e,List.nil_append,Nat.add_sub_cancel]
theorem zgl1 {α:Type} {sz:Nat} {enc:α→List Value} (henc:∀x,(enc x).length=sz):∀(xs:List α) (n:Nat),(xs.take n).flatMap enc=(xs.flatMap enc).take (n*sz)
  | [],n=>by simp
  | x::xs,0=>by simp
  | x::xs,n+1=>by
    simp only [List.take_succ_cons,List.flatMap_cons]
    have e:(enc x).take (n*sz+sz)=enc x:=List.take_of_length_le (by rw [henc];omega)
    rw [zgl1 henc xs n,Nat.add_mul,Nat.one_mul,List.take_append,henc,e,Nat.add_sub_cancel]
theorem Rw.cut {α:Type} {h:Hp} {sz:Nat} {enc:α→List Value} {l:Sl} {xs:List α} (r:Rw h sz enc l xs) (henc:∀x,(enc x).length=sz) {a b c n m:Nat} (hab:a≤b) (hb:b≤xs.length) (hc:b≤c) (hn:n=b-a):
    Rw h sz enc ⟨sbase l.base sz a c,n,m⟩ ((xs.drop a).take (b-a)):=by
  obtain ⟨h1,h2,h3⟩:=r
  have hlen:((xs.drop a).take (b-a)).length=b-a:=by rw [List.length_take,List.length_drop];omega
  refine ⟨hn.trans hlen.symm,zbw henc _,?_⟩
  rw [hlen]
  by_cases h0:(b-a)*sz=0
  · exact .inl h0
  · right
    have hba:b-a≠0:=fun e=>h0 (by rw [e,Nat.zero_mul])
    have hsz:sz≠0:=fun e=>h0 (by rw [e,Nat.mul_zero])
    have hx:xs.length*sz≠0:=Nat.mul_ne_zero (by omega) hsz
    obtain ⟨p,hp,hl⟩:=h3.resolve_left hx
    refine ⟨p.add (a*sz),?_,fun i v hv=> ?_⟩
    · unfold sbase
      rw [if_neg (show ¬c=a by omega),hp]
      rfl
    · rw [zgl1 henc,zar1 henc,List.getElem?_take] at hv
      split at hv
      · exact zra1 hl (a*sz) i v hv
      · cases hv
end Lf

namespace Lf
open Go
structure Mv (F:List Nat) (h:Hp) (F':List Nat) (h':Hp):Prop where
  keep:∀b o,h b=some o→b∉F→h' b=some o
  from_:∀b∈F',b∈F∨h b=none
theorem Mv.refl (F:List Nat) (h:Hp):Mv F h F h:=⟨fun _ _ e _=>e,fun _ e=>.inl e⟩
theorem Mv.trans {F F' F'':List Nat} {h h' h'':Hp} (a:Mv F h F' h') (b:Mv F' h' F'' h''):Mv F h F'' h'':=by
  refine ⟨fun i o e hn=>b.keep i o (a.keep i o e hn) fun hf=> ?_,fun i hi=> ?_⟩
  · rcases a.from_ i hf with h1 | h1
    · exact hn h1
    · rw [h1] at e;cases e
  · rcases b.from_ i hi with h1 | h1
    · exact a.from_ i h1
    · cases e:h i with
      | none=>exact .inr rfl
      | some o=>
        left
        refine Classical.byContradiction fun hn=> ?_
        rw [a.keep i o e hn] at h1;cases h1
theorem Mv.of_le {h h':Hp} (F:List Nat) (hl:h≤h'):Mv F h F h':=⟨fun b o e _=>hl b o e,fun _ e=>.inl e⟩
theorem Mv.le {F F':List Nat} {h0 h h':Hp} (a:Mv F h F' h') (hl:h0≤h) (hf:∀b∈F,h0 b=none):h0≤h'∧∀b∈F',h0 b=none:=by
  refine ⟨fun b o e=>a.keep b o (hl b o e) fun hb=>(by rw [hf b hb] at e;cases e),fun b hb=> ?_⟩
  rcases a.from_ b hb with h1 | h1
  · exact hf b h1
  · exact zbc hl h1
theorem Mv.wide {F F':List Nat} {h h':Hp} (a:Mv F h F' h') (G:List Nat):Mv (F++G) h (F'++G) h':=
  ⟨fun b o e hn=>a.keep b o e fun hb=>hn (List.mem_append_left _ hb),fun b hb=>by
    rcases List.mem_append.1 hb with hb | hb
    · rcases a.from_ b hb with h1 | h1
      · exact .inl (List.mem_append_left _ h1)
      · exact .inr h1
    · exact .inl (List.mem_append_right _ hb)⟩
theorem Mv.sub {F F' G G':List Nat} {h h':Hp} (a:Mv F h F' h') (h1:∀b∈F,b∈G) (h2:∀b∈G',b∈F'∨b∈G∨h b=none):Mv G h G' h':=
  ⟨fun b o e hn=>a.keep b o e fun hb=>hn (h1 b hb),fun b hb=>by
    rcases h2 b hb with h3 | h3
    · rcases a.from_ b h3 with h4 | h4
      · exact .inl (h1 b h4)
      · exact .inr h4
    · exact h3⟩
theorem Mv.set {h:Hp} {b:Nat} {o:Obj}:Mv [b] h [b] (h.set b o):=by
  refine ⟨fun i x e hn=> ?_,fun i hi=>.inl hi⟩
  have hne:i≠b:=fun e'=>hn (by rw [e'];exact List.mem_singleton.2 rfl)
  simp only [Hp.set,hne,if_false]
  exact e
theorem Mv.new {h:Hp} {b:Nat} {o:Obj} (hn:h b=none):Mv [] h [b] (h.set b o):=
  ⟨fun i x e _=>zny hn i x e,fun i hi=>.inr (by rw [List.mem_singleton.1 hi];exact hn)⟩
def Blk (h:Hp) (b:Nat) (cs:List Value):Prop:=∃t,h b=some (.cells cs.toArray t (0,0))
theorem Blk.mv {F F':List Nat} {h h':Hp} {b:Nat} {cs:List Value} (k:Blk h b cs) (a:Mv F h F' h') (hn:b∉F):Blk h' b cs:=by
  obtain ⟨t,e⟩:=k
  exact ⟨t,a.keep b _ e hn⟩
theorem Blk.le {h h':Hp} {b:Nat} {cs:List Value} (k:Blk h b cs) (hl:h≤h'):Blk h' b cs:=by
  obtain ⟨t,e⟩:=k
  exact ⟨t,hl _ _ e⟩
theorem Blk.known {h:Hp} {b:Nat} {cs:List Value} (k:Blk h b cs):h b≠none:=by
  obtain ⟨t,e⟩:=k
  rw [e];simp
def at_ (b off:Nat):Addr:=⟨b,off,none⟩
theorem Blk.ldIs {h:Hp} {b:Nat} {cs:List Value} (k:Blk h b cs) {off n:Nat} {vs:List Value} (e:(cs.drop off).take n=vs):LdIs h ⟨b,off,none⟩ vs:=by
  obtain ⟨t,hb⟩:=k
  intro i v hv
  rw [zdh,zov hb]
  rw [←e,List.getElem?_take] at hv
  split at hv
  · rw [List.getElem?_drop] at hv
    exact hv
  · cases hv
theorem Blk.stOk {h:Hp} {b:Nat} {cs:List Value} (k:Blk h b cs) {off:Nat}:∀n,off+n≤cs.length→StOk h ⟨b,off,none⟩ n
  | 0,_=>trivial
  | n+1,hn=>by
    obtain ⟨t,hb⟩:=k
    refine ⟨Blk.stOk ⟨t,hb⟩ n (by omega),⟨cs[off+n]'(by omega),?_⟩,?_⟩
    · rw [zdh,zov hb]
      simp
    · rw [zdh]
      unfold hfroz
      simp [hb]
theorem Blk.put {h:Hp} {b:Nat} {cs new:List Value} (k:Blk h b cs) {off:Nat} (hl:off+new.length≤cs.length):
    Blk (putL h ⟨b,off,none⟩ new 0) b (cs.take off++new++cs.drop (off+new.length))∧∀b',b'≠b→(putL h ⟨b,off,none⟩ new 0) b'=h b':=by
  obtain ⟨t,hb⟩:=k
  obtain ⟨p1,p2⟩:=zge1 b t new h 0 off cs (by simpa using hl) hb
  rw [Nat.add_zero,zwo _ _ _ hl] at p1
  exact ⟨⟨t,p1⟩,p2⟩
theorem Mv.of_other {h h':Hp} {b:Nat} (ho:∀b',b'≠b→h' b'=h b'):Mv [b] h [b] h':=
  ⟨fun i o e hn=>by rw [ho i fun e'=>hn (by rw [e'];exact List.mem_singleton.2 rfl)];exact e,fun i hi=>.inl hi⟩
theorem zdp {h:Hp} {b:Nat} {cs new:List Value} {off:Nat} {K:Hp→Prop} (k:Blk h b cs) (hl:off+new.length≤cs.length)
    (hk:∀h',Mv [b] h [b] h'→Blk h' b (cs.take off++new++cs.drop (off+new.length))→K h'):StW h ⟨b,off,none⟩ new K:=by
  obtain ⟨p1,p2⟩:=k.put hl
  exact ⟨k.stOk _ hl,hk _ (Mv.of_other p2) p1⟩
section
variable {α:Type} {h:Hp} {sz:Nat} {enc:α→List Value} {l:Sl} {xs:List α}
def OwnF (h:Hp) (sz:Nat) (enc:α→List Value) (l:Sl) (xs:List α) (F:List Nat):Prop:=
  l.len=xs.length∧l.len≤l.cap∧((l.base=none∧l.cap=0∧F=[])∨
    ∃(b:Nat) (cs:List Value),l.base=some ⟨b,0,none⟩∧F=[b]∧Blk h b cs∧cs.length=l.cap*sz∧cs.take (l.len*sz)=xs.flatMap enc)
theorem OwnF.own {F:List Nat} {h0:Hp} (o:OwnF h sz enc l xs F) (hf:∀b∈F,h0 b=none):Own h0 h sz enc l xs:=by
  obtain ⟨h1,h2,h3⟩:=o
  refine ⟨h1,h2,?_⟩
  rcases h3 with ⟨e1,e2,_⟩ | ⟨b,cs,e1,rfl,⟨t,e3⟩,e4,e5⟩
  · exact .inl ⟨e1,e2⟩
  · exact .inr ⟨b,cs,t,e1,e3,e4,e5,hf b (List.mem_singleton.2 rfl)⟩
theorem OwnF.rw {F:List Nat} (o:OwnF h sz enc l xs F) (henc:∀x,(enc x).length=sz):Rw h sz enc l xs:=(o.own (h0:=fun _=>none) fun _ _=>rfl).rw henc
theorem Own.ownF {h0:Hp} (o:Own h0 h sz enc l xs):∃F,OwnF h sz enc l xs F∧∀b∈F,h0 b=none:=by
  obtain ⟨h1,h2,h3⟩:=o
  rcases h3 with ⟨e1,e2⟩ | ⟨b,cs,t,e1,e3,e4,e5,e6⟩
  · exact ⟨[],⟨h1,h2,.inl ⟨e1,e2,rfl⟩⟩,fun b hb=>by cases hb⟩
  · exact ⟨[b],⟨h1,h2,.inr ⟨b,cs,e1,rfl,⟨t,e3⟩,e4,e5⟩⟩,fun b' hb=>by rw [List.mem_singleton.1 hb];exact e6⟩
theorem OwnF.known {F:List Nat} (o:OwnF h sz enc l xs F):∀b∈F,h b≠none:=by
  obtain ⟨_,_,h3⟩:=o
  rcases h3 with ⟨_,_,rfl⟩ | ⟨b,cs,_,rfl,e3,_,_⟩
  · intro b hb;cases hb
  · intro b' hb;rw [List.mem_singleton.1 hb];exact e3.known
theorem OwnF.same {F:List Nat} {h':Hp} (o:OwnF h sz enc l xs F) (hs:∀b∈F,h' b=h b):OwnF h' sz enc l xs F:=by
  obtain ⟨h1,h2,h3⟩:=o
  refine ⟨h1,h2,h3.imp id ?_⟩
  rintro ⟨b,cs,e1,rfl,⟨t,e3⟩,e4⟩
  exact ⟨b,cs,e1,rfl,⟨t,by rw [hs b (List.mem_singleton.2 rfl)];exact e3⟩,e4⟩
theorem OwnF.mv {F G G':List Nat} {h':Hp} (o:OwnF h sz enc l xs F) (a:Mv G h G' h') (hd:∀b∈F,b∉G):OwnF h' sz enc l xs F:=by
  obtain ⟨h1,h2,h3⟩:=o
  refine ⟨h1,h2,h3.imp id ?_⟩
  rintro ⟨b,cs,e1,rfl,e3,e4⟩
  exact ⟨b,cs,e1,rfl,e3.mv a (hd b (List.mem_singleton.2 rfl)),e4⟩
theorem newF {cs:List Value} {K:Addr→Hp→Prop} (hc:cs=xs.flatMap enc) (henc:∀x,(enc x).length=sz)
    (hk:∀b h',h b=none→h≤h'→Mv [] h [b] h'→OwnF h' sz enc ⟨some ⟨b,0,none⟩,xs.length,xs.length⟩ xs [b]→K ⟨b,0,none⟩ h'):NewW cs K h:=by
  intro b t hb
  refine hk b _ hb (zny hb) (Mv.new hb) ⟨rfl,Nat.le_refl _,.inr ⟨b,cs,rfl,rfl,⟨t,zid⟩,?_,?_⟩⟩
  · rw [hc,zbw henc]
  · have:(xs.length*sz)=(xs.flatMap enc).length:=(zbw henc xs).symm
    show List.take (xs.length*sz) cs=_
    rw [this,hc,List.take_length]
theorem appF {F:List Nat} {zero:List Value} {bytes:Nat} {x:Sl} {ys:List α} {K:Sl→Hp→Prop} (o:OwnF h sz enc l xs F) (r:Rw h sz enc x ys) (henc:∀x,(enc x).length=sz) (hok:∀x,zcz (enc x)=true)
    (hz:zero.length=sz) (hb:xs.length+ys.length≤140737488355328∧(xs.length+ys.length)*bytes≤140737488355328)
    (hk:∀l' h' F',OwnF h' sz enc l' (xs++ys) F'→Mv F h F' h'→K l' h'):zaj sz bytes zero l x K h:=by
  have hrw:=o.rw henc
  obtain ⟨h1,h2,h3⟩:=o
  obtain ⟨hx1,hx2⟩:=r
  refine ⟨ys.flatMap enc,by rw [hx1];exact hx2,xs.flatMap enc,by rw [h1];exact hrw.2,by rw [h1,hx1];exact hb,zts1 hok ys,fun hcap=> ?_,fun hcap c b t hc hbn=> ?_⟩
  · rcases h3 with ⟨e,ec,rfl⟩ | ⟨b,cs,e,rfl,hbk,hl,ht⟩
    · have e1:ys.length=0:=by omega
      have e2:ys=[]:=List.length_eq_zero_iff.1 e1
      subst e2
      refine ⟨fun a ha=>(by rw [e] at ha;cases ha),?_⟩
      have e3:putO h l.base (l.len*sz) (([]:List α).flatMap enc)=h:=by rw [e];rfl
      rw [e3,hx1]
      exact hk _ h [] ⟨by simp [h1],by simpa using h2,.inl ⟨e,ec,rfl⟩⟩ (Mv.refl _ _)
    · have hle:l.len*sz+(ys.flatMap enc).length≤cs.length:=by
        rw [hl,zbw henc,←Nat.add_mul]
        exact Nat.mul_le_mul_right sz (by omega)
      obtain ⟨p1,p2⟩:=hbk.put hle
      refine ⟨fun a ha=> ?_,?_⟩
      · rw [e] at ha;cases ha
        rw [zdh,Nat.zero_add]
        refine hbk.stOk _ ?_
        rw [hx1,←zbw henc ys]
        exact hle
      · have e3:putO h l.base (l.len*sz) (ys.flatMap enc)=putL h ⟨b,l.len*sz,none⟩ (ys.flatMap enc) 0:=by
          rw [e]
          simp only [putO,zdh,Nat.zero_add]
        rw [e3]
        refine hk _ _ [b] ⟨by simp [h1,hx1],hcap,.inr ⟨b,_,e,rfl,p1,?_,?_⟩⟩ (Mv.of_other p2)
        · rw [←hl]
          simp only [List.length_append,List.length_take,List.length_drop]
          omega
        · have e4:(l.len+x.len)*sz=(cs.take (l.len*sz)++ys.flatMap enc).length:=by
            rw [List.length_append,ht,zbw henc,zbw henc,h1,hx1,Nat.add_mul]
          show List.take ((l.len+x.len)*sz) _=_
          rw [e4,List.take_left,ht,List.flatMap_append]
  · have hn:Mv F h [b] (h.set b (.cells (xs.flatMap enc++ys.flatMap enc++zbu zero (c-(l.len+x.len))).toArray t (0,0))):=
      (Mv.new hbn).sub (fun b hb=>by cases hb) fun b hb=>.inl hb
    refine hk _ _ [b] ⟨by simp [h1,hx1],hc,.inr ⟨b,xs.flatMap enc++ys.flatMap enc++zbu zero (c-(l.len+x.len)),rfl,rfl,⟨t,zid⟩,?_,?_⟩⟩ hn
    · rw [List.length_append,List.length_append,zbw henc,zbw henc,zbf1,hz,←Nat.add_mul,←Nat.add_mul]
      show _=c*sz
      congr 1
      omega
    · have e4:(l.len+x.len)*sz=(xs.flatMap enc++ys.flatMap enc).length:=by
        rw [List.length_append,zbw henc,zbw henc,h1,hx1,Nat.add_mul]
      show List.take ((l.len+x.len)*sz) _=_
      rw [e4,List.take_left,List.flatMap_append]
end
end Lf

namespace Lf
open Go
theorem zmv {F F' E:List Nat} {k k':Hp} (m:Mv F k F' k') (hE:∀c∈E,k c≠none) (hd:∀c∈E,c∉F):∀c∈E,k' c=k c:=fun c hc=>by
  cases hk:k c with
  | none=>exact absurd hk (hE c hc)
  | some o=>exact m.keep c o hk (hd c hc)
theorem zgo2 {F F' E:List Nat} {k k':Hp} (m:Mv F k F' k') (hE:∀c∈E,k c≠none) (hd:∀c∈E,c∉F):∀c∈E,c∉F':=fun c hc hf=>by
  rcases m.from_ c hf with h | h
  · exact hd c hc h
  · exact hE c hc h
theorem Mv.less {F F' E:List Nat} {h h':Hp} (a:Mv F h F' h') (hs:∀c∈E,c∈F'):Mv F h E h':=⟨a.keep,fun b hb=>a.from_ b (hs b hb)⟩
structure Regs (h k:Hp) (Rg:List (List Nat)):Prop where
  sep:∀(a b:Nat) E G,Rg[a]?=some E→Rg[b]?=some G→a≠b→∀c∈E,c∉G
  known:∀(a:Nat) E,Rg[a]?=some E→∀c∈E,k c≠none
  fresh:∀(a:Nat) E,Rg[a]?=some E→∀c∈E,h c=none
  le:h≤k
theorem Regs.grow {h k k':Hp} {Rg:List (List Nat)} (r:Regs h k Rg) (hl:k≤k'):Regs h k' Rg:=
  ⟨r.sep,fun a E hE c hc e=>r.known a E hE c hc (zbc hl e),r.fresh,Hp.le_trans r.le hl⟩
theorem Regs.step {h k k':Hp} {Rg:List (List Nat)} {j:Nat} {F F':List Nat} (r:Regs h k Rg) (hj:Rg[j]?=some F) (m:Mv F k F' k') (kn:∀c∈F',k' c≠none):Regs h k' (Rg.set j F'):=by
  have hjl:j<Rg.length:=(List.getElem?_eq_some_iff.1 hj).1
  have hget:∀a E,(Rg.set j F')[a]?=some E→(a=j∧E=F')∨(a≠j∧Rg[a]?=some E):=by
    intro a E hE
    rw [List.getElem?_set,if_pos hjl] at hE
    split at hE
    · rename_i e
      exact .inl ⟨e.symm,(Option.some.inj hE).symm⟩
    · rename_i e
      exact .inr ⟨fun e'=>e e'.symm,hE⟩
  have hdis:∀a E,a≠j→Rg[a]?=some E→∀c∈E,c∉F':=fun a E hne hE=>zgo2 m (r.known a E hE) (r.sep a j E F hE hj hne)
  have hfr:∀c∈F',h c=none:=(m.le r.le (r.fresh j F hj)).2
  refine ⟨fun a b E G hE hG hab c hc hc'=> ?_,fun a E hE c hc=> ?_,fun a E hE c hc=> ?_,(m.le r.le (r.fresh j F hj)).1⟩
  · rcases hget a E hE with ⟨rfl,rfl⟩ | ⟨h1,h2⟩
    · rcases hget b G hG with ⟨rfl,rfl⟩ | ⟨h3,h4⟩
      · exact hab rfl
      · exact hdis b G h3 h4 c hc' hc
    · rcases hget b G hG with ⟨rfl,rfl⟩ | ⟨h3,h4⟩
      · exact hdis a E h1 h2 c hc hc'
      · exact r.sep a b E G h2 h4 hab c hc hc'
  · rcases hget a E hE with ⟨rfl,rfl⟩ | ⟨h1,h2⟩
    · exact kn c hc
    · have:=zmv m (r.known a E h2) (r.sep a j E F h2 hj h1) c hc
      rw [this]
      exact r.known a E h2 c hc
  · rcases hget a E hE with ⟨rfl,rfl⟩ | ⟨h1,h2⟩
    · exact hfr c hc
    · exact r.fresh a E h2 c hc
theorem Regs.other {h k k':Hp} {Rg:List (List Nat)} {j a:Nat} {F F' E:List Nat} (r:Regs h k Rg) (hj:Rg[j]?=some F) (m:Mv F k F' k') (ha:Rg[a]?=some E) (hne:a≠j):∀c∈E,k' c=k c:=
  zmv m (r.known a E ha) (r.sep a j E F ha hj hne)
theorem Regs.push {h k k':Hp} {Rg:List (List Nat)} {E:List Nat} (r:Regs h k Rg) (hl:k≤k') (hn:∀c∈E,k c=none) (kn:∀c∈E,k' c≠none):Regs h k' (Rg++ [E]):=by
  have hget:∀a G,(Rg++ [E])[a]?=some G→(a=Rg.length∧G=E)∨(a<Rg.length∧Rg[a]?=some G):=by
    intro a G hG
    by_cases h1:a<Rg.length
    · rw [List.getElem?_append_left h1] at hG
      exact .inr ⟨h1,hG⟩
    · rw [List.getElem?_append_right (by omega)] at hG
      have h2:a-Rg.length=0:=by
        have:=(List.getElem?_eq_some_iff.1 hG).1
        simp at this
        omega
      rw [h2] at hG
      exact .inl ⟨by omega,(Option.some.inj hG).symm⟩
  refine ⟨fun a b A B hA hB hab c hc hc'=> ?_,fun a A hA c hc=> ?_,fun a A hA c hc=> ?_,Hp.le_trans r.le hl⟩
  · rcases hget a A hA with ⟨rfl,rfl⟩ | ⟨h1,h2⟩
    · rcases hget b B hB with ⟨rfl,rfl⟩ | ⟨h3,h4⟩
      · exact hab rfl
      · exact r.known b B h4 c hc' (hn c hc)
    · rcases hget b B hB with ⟨rfl,rfl⟩ | ⟨h3,h4⟩
      · exact r.known a A h2 c hc (hn c hc')
      · exact r.sep a b A B h2 h4 hab c hc hc'
  · rcases hget a A hA with ⟨rfl,rfl⟩ | ⟨h1,h2⟩
    · exact kn c hc
    · exact fun e=>r.known a A h2 c hc (zbc hl e)
  · rcases hget a A hA with ⟨rfl,rfl⟩ | ⟨h1,h2⟩
    · exact zbc r.le (hn c hc)
    · exact r.fresh a A h2 c hc
end Lf

namespace Lf
open Go
section
variable {P:Program} {h:Hp}
end
end Lf

namespace Lf
open Go
section
variable {α:Type} {h:Hp} {sz:Nat} {enc:α→List Value} {l:Sl} {xs:List α}
theorem Rw.fld (r:Rw h sz enc l xs) (henc:∀x,(enc x).length=sz) (hsz:0<sz) {sh:Shape} (g:α→sh.T) {j:Nat} (hg:∀x,((enc x).drop j).take (zad (sh.enc (g x))).length=zad (sh.enc (g x))) {i:Int} (h0:0≤i) (h1:i<(xs.length:Int))
    {K:sh.T→Prop} (hk:∀x,xs[i.toNat]?=some x→K (g x)):InB l.base l.len i∧LdW none sh h ((sat l.base sz i).add j) K:=by
  obtain ⟨e1,x,hx,hl⟩:=r.read henc hsz h0 (by rw [r.1];exact h1)
  refine ⟨e1,g x,fun q v hv=> ?_,hk x hx⟩
  rw [zae1]
  refine hl (j+q) v ?_
  rw [←hg x,List.getElem?_take] at hv
  split at hv
  · rw [List.getElem?_drop] at hv;exact hv
  · cases hv
theorem Rw.fldC (r:Rw h sz enc l xs) (henc:∀x,(enc x).length=sz) (hsz:0<sz) {sh:Shape} (g:α→sh.T) {j:Nat} (hg:∀x,((enc x).drop j).take (zad (sh.enc (g x))).length=zad (sh.enc (g x))) (x0:sh.T) {c:Bool} {i:Int} (h0:c=true→0≤i∧i<(xs.length:Int))
    {K:sh.T→Prop} (hk:∀y,(c=true→∃x,xs[i.toNat]?=some x∧y=g x)→K y):(c=true→InB l.base l.len i)∧LdW (some c) sh h ((sat l.base sz i).add j) K:=by
  cases c with
  | false=>exact ⟨fun e=>(by cases e),x0,fun e=>(by cases e),hk x0 fun e=>(by cases e)⟩
  | true=>
    obtain ⟨h0,h1⟩:=h0 rfl
    obtain ⟨e1,y,hy,hk'⟩:=r.fld henc hsz g hg h0 h1 (K:=fun y=>∃x,xs[i.toNat]?=some x∧y=g x) fun x hx=>⟨x,hx,rfl⟩
    exact ⟨fun _=>e1,y,fun _=>hy,hk y fun _=>hk'⟩
theorem Blk.rd {b:Nat} {cs new:List Value} (k:Blk h b cs) {off n:Nat} (hn:new.length=n) (e:(cs.drop off).take n=new):zhf1 h (some ⟨b,off,none⟩) n new:=⟨hn,.inr ⟨_,rfl,k.ldIs e⟩⟩
theorem zrb1 {xs:List α} {i:Nat} (x:α) (hi:i<xs.length):xs.set i x=xs.take i++x::xs.drop (i+1):=by
  rw [List.set_eq_take_append_cons_drop,if_pos hi]
theorem OwnF.store {F:List Nat} (o:OwnF h sz enc l xs F) (henc:∀x,(enc x).length=sz) {i:Int} (h0:0≤i) (h1:i<(xs.length:Int)) (x:α) {K:Hp→Prop} (hk:∀h',OwnF h' sz enc l (xs.set i.toNat x) F→Mv F h F h'→K h'):
    InB l.base l.len i∧StW h (sat l.base sz i) (enc x) K:=by
  obtain ⟨o1,o2,o3⟩:=o
  rcases o3 with ⟨_,e2,_⟩ | ⟨b,cs,e1,rfl,kb,e4,e5⟩
  · omega
  · refine ⟨⟨by rw [e1];simp,h0,by omega⟩,?_⟩
    have hi:i.toNat<xs.length:=by omega
    have ha:sat l.base sz i=⟨b,i.toNat*sz,none⟩:=by unfold sat;rw [e1,Option.getD_some,zdh,Nat.zero_add]
    rw [ha]
    have hmul:i.toNat*sz+sz≤l.len*sz:=by
      have:=Nat.mul_le_mul_right sz (show i.toNat+1≤l.len by omega)
      rw [Nat.add_mul,Nat.one_mul] at this
      exact this
    have hmul2:l.len*sz≤l.cap*sz:=Nat.mul_le_mul_right sz o2
    refine zdp kb (by rw [henc,e4];omega) fun h' m' k'=> ?_
    rw [henc] at k'
    refine hk h' ⟨by simp [o1],o2,.inr ⟨b,_,e1,rfl,k',?_,?_⟩⟩ m'
    · simp only [List.length_append,List.length_take,List.length_drop,henc,e4]
      omega
    · rw [zrb1 x hi]
      have t1:cs.take (i.toNat*sz)=(xs.take i.toNat).flatMap enc:=by
        rw [zgl1 henc,←e5,List.take_take];congr 1;omega
      have t2:(cs.drop (i.toNat*sz+sz)).take (l.len*sz-(i.toNat*sz+sz))=(xs.drop (i.toNat+1)).flatMap enc:=by
        rw [zar1 henc,←e5,Nat.add_mul,Nat.one_mul,List.drop_take]
      have hl1:(cs.take (i.toNat*sz)++enc x).length=i.toNat*sz+sz:=by
        rw [List.length_append,List.length_take,henc,e4];omega
      rw [List.take_append,hl1,t2,List.take_of_length_le (by rw [hl1];exact hmul),t1]
      simp
end
end Lf

namespace Lf
open Go
def cutH (k:Hp) (R:List Nat):Hp:=fun b=>if b∈R then none else k b
theorem zfs2 {k:Hp} {R:List Nat}:cutH k R≤k:=fun b o e=>by
  unfold cutH at e
  split at e
  · cases e
  · exact e
theorem zwk1 {k:Hp} {R:List Nat} {b:Nat} (h:b∈R):cutH k R b=none:=by
  unfold cutH
  rw [if_pos h]
theorem zif1 {k:Hp} {R:List Nat} {b:Nat} (h:b∉R):cutH k R b=k b:=by
  unfold cutH
  rw [if_neg h]
theorem zft2 {d k:Hp} {R:List Nat} (hl:d≤k) (hn:∀b∈R,d b=none):d≤cutH k R:=fun b o e=>by
  rw [zif1 fun hb=>by rw [hn b hb] at e;cases e]
  exact hl b o e
theorem zyf1 {h h':Hp} {a:Addr} (e:h' a.block=h a.block):hcell h' a=hcell h a:=by
  unfold hcell
  rw [e]
theorem zmx1 (a:Addr) (n:Nat):(a.add n).block=a.block:=by
  unfold Addr.add
  split<;>rfl
theorem zax2 {h h':Hp} {a:Addr} {cs:List Value} (l:LdIs h a cs) (e:h' a.block=h a.block):LdIs h' a cs:=fun i v hv=>by
  have:hcell h' (a.add i)=hcell h (a.add i):=zyf1 (a:=a.add i) (by rw [zmx1];exact e)
  rw [this]
  exact l i v hv
section
variable {α:Type} {h h':Hp} {sz:Nat} {enc:α→List Value} {l:Sl} {xs:List α} {F:List Nat}
theorem Rw.same (r:Rw h sz enc l xs) (e:∀a,l.base=some a→h' a.block=h a.block):Rw h' sz enc l xs:=by
  obtain ⟨h1,h2,h3⟩:=r
  refine ⟨h1,h2,h3.imp id ?_⟩
  rintro ⟨a,ha,hl⟩
  exact ⟨a,ha,zax2 hl (e a ha)⟩
theorem Rw.nil {l:Sl} (hl:l.len=0):Rw h sz enc l ([]:List α):=⟨hl,(by simp),.inl (by simp)⟩
theorem OwnF.grow (o:OwnF h sz enc l xs F) (hl:h≤h'):OwnF h' sz enc l xs F:=by
  obtain ⟨h1,h2,h3⟩:=o
  refine ⟨h1,h2,h3.imp id ?_⟩
  rintro ⟨b,cs,e1,rfl,e3,e4⟩
  exact ⟨b,cs,e1,rfl,e3.le hl,e4⟩
theorem OwnF.cut {R:List Nat} (o:OwnF h sz enc l xs F) (hd:∀b∈F,b∉R):OwnF (cutH h R) sz enc l xs F:=o.same fun b hb=>zif1 (hd b hb)
theorem OwnF.base (o:OwnF h sz enc l xs F) {a:Addr} (ha:l.base=some a):F=[a.block]:=by
  obtain ⟨_,_,h3⟩:=o
  rcases h3 with ⟨e,_⟩ | ⟨b,cs,e1,rfl,_⟩
  · rw [e] at ha;cases ha
  · rw [e1] at ha;cases ha;rfl
end
end Lf

namespace Lf
open Go
theorem ztt1 {h:Hp} {a:Addr} {v:Value} (e:hcell h a=some v):∃o,h a.block=some o:=by
  unfold hcell at e
  split at e
  · rename_i c t f hb
    exact ⟨_,hb⟩
  · cases e
section
variable {α:Type} {h h':Hp} {sz:Nat} {enc:α→List Value} {l:Sl} {xs:List α} {F F':List Nat}
theorem Rw.known (r:Rw h sz enc l xs) {a:Addr} (ha:l.base=some a) (h0:xs.length*sz≠0):h a.block≠none:=by
  obtain ⟨h1,h2,h3⟩:=r
  obtain ⟨a',ha',hl⟩:=h3.resolve_left h0
  rw [ha] at ha'
  cases ha'
  have hne:(xs.flatMap enc).length≠0:=by rw [h2];exact h0
  obtain ⟨v,hv⟩:∃v,(xs.flatMap enc)[0]?=some v:=⟨(xs.flatMap enc)[0]'(by omega),List.getElem?_eq_getElem (by omega)⟩
  obtain ⟨o,ho⟩:=ztt1 (hl 0 v hv)
  rw [zmx1] at ho
  rw [ho]
  simp
end
end Lf

namespace Lf
structure PIns where
 op:Int
 a:Int
 b:Int
 c:Int
 imm:Int
def zba (op:Int):Bool×Bool×Bool×Bool:=
 if op=1 then (true,false,false,true)
 else if op=2∨op=20∨op=21∨op=25∨op=26 then (true,true,false,false)
 else if (3≤op∧op≤14)∨(15≤op∧op≤19)∨op=24 then (true,true,true,false)
 else if op=22∨op=29∨op=30 then (false,false,false,true)
 else if op=23 then (true,false,false,true)
 else if op=27∨op=28∨op=31∨op=32∨op=33 then (true,false,false,false)
 else (false,false,false,false)
def regP (has:Bool) (n:Int):Int:=if has=false∧n≠0 then 11 else if n<0∨8≤n then 10 else 0
def zbv (x:PIns) (n locks:Int):Int×Int:=
 if x.op<0∨34≤x.op then (9,0)
 else if regP (zba x.op).1 x.a≠0 then (regP (zba x.op).1 x.a,1)
 else if regP (zba x.op).2.1 x.b≠0 then (regP (zba x.op).2.1 x.b,2)
 else if regP (zba x.op).2.2.1 x.c≠0 then (regP (zba x.op).2.2.1 x.c,3)
 else if (zba x.op).2.2.2=false∧x.imm≠0 then (11,4)
 else if (x.op=22∨x.op=23)∧(x.imm<0∨n<x.imm) then (12,4)
 else if (x.op=29∨x.op=30)∧(x.imm<0∨locks≤x.imm) then (13,4)
 else (0,0)
def codeR (n locks:Int):List PIns→Int→Int×Int
 | [],_=>(0,0)
 | x::r,i=>if (zbv x n locks).1≠0 then ((zbv x n locks).1,i) else codeR n locks r (i+1)
def codeP (l:List PIns) (locks:Int):Int×Int:=
 if locks<0∨8<locks then (1,0) else if 256<l.length then (3,256) else codeR l.length locks l 0
structure PProc where
 part:Int
 code:List PIns
structure PCfg where
 labels:List Int
 table:List Int
 fuel:Int
 lane:Int
 locks:Int
 log:Int
 procs:List PProc
def within (n a b:Int):Bool:=decide (a≤n)&&decide (n≤b)
def zsn (parts locks:Int):List PProc→Int→Int×Int
 | [],_=>(0,0)
 | p::r,i=>if within p.part 0 (parts-1)=false then (2,7+i) else if (codeP p.code locks).1≠0 then ((codeP p.code locks).1,7+i) else zsn parts locks r (i+1)
def cfgP (m:Int) (c:PCfg):Int×Int:=
 if m≠0 then (m,0)
 else if c.table=[] then (1,1)
 else if 64<c.table.length then (3,1)
 else if c.table.all (fun p=>within p 0 (c.labels.length-1))=false then (2,1)
 else if within c.fuel 1 256=false then (2,2)
 else if within c.lane 1 64=false then (2,3)
 else if within c.locks 0 8=false then (2,4)
 else if within c.log 0 4096=false then (2,5)
 else if c.procs=[] then (1,6)
 else if 32<c.procs.length then (3,6)
 else zsn c.labels.length c.locks c.procs 0
def leB (n:Int):Nat→List UInt8
 | 0=> []
 | k+1=>UInt8.ofNat (n%256).toNat::leB (n / 256) k
def valB :List UInt8→Nat
 | []=>0
 | b::r=>b.toNat+256*valB r
theorem zaf (n:Int) (k:Nat):(leB n k).length=k:=by
 induction k generalizing n with
 | zero=>rfl
 | succ k ih=>simp [leB,ih]
theorem zgm1 (n:Int) (k:Nat):(valB (leB n k):Int)=n%((256^k:Nat):Int):=by
 induction k generalizing n with
 | zero=>
  show ((0:Nat):Int)=n%1
  omega
 | succ k ih=>
  have h1:(UInt8.ofNat (n%256).toNat).toNat=(n%256).toNat:=by
   rw [UInt8.toNat_ofNat']
   have:(n%256).toNat<256:=by omega
   omega
  have h2:=ih (n / 256)
  have e:((256^(k+1):Nat):Int)=256*((256^k:Nat):Int):=by
   rw [Nat.pow_succ,Int.natCast_mul,Int.mul_comm];rfl
  rw [e]
  show (((UInt8.ofNat (n%256).toNat).toNat+256*valB (leB (n / 256) k):Nat):Int)=_
  rw [h1]
  generalize ((256^k:Nat):Int)=q at*
  have h3:(0:Int)≤n%256:=by omega
  have h4:=Int.emod_add_mul_ediv n (256*q)
  have h5:=Int.emod_add_mul_ediv (n / 256) q
  have h6:=Int.emod_add_mul_ediv n 256
  have h7:n / (256*q)=n / 256 / q:=(Int.ediv_ediv_of_nonneg (by decide)).symm
  rw [h7,Int.mul_assoc] at h4
  rw [Int.natCast_add,Int.natCast_mul,h2,Int.toNat_of_nonneg h3]
  generalize q*(n / 256 / q)=z at*
  generalize n%(256*q)=y at*
  generalize (n / 256)%q=x at*
  show n%256+256*x=y
  omega
theorem zxh :∀l:List UInt8,valB l<256^l.length
 | []=>by simp [valB]
 | b::r=>by
  have h1:=zxh r
  have h2:=b.toNat_lt
  simp only [valB,List.length_cons,Nat.pow_succ]
  omega
theorem zxi :∀l:List UInt8,leB (valB l:Int) l.length=l
 | []=>rfl
 | b::r=>by
  have h2:=b.toNat_lt
  have e1:(((b.toNat+256*valB r:Nat):Int)%256).toNat=b.toNat:=by omega
  have e2:((b.toNat+256*valB r:Nat):Int) / 256=(valB r:Int):=by omega
  simp only [valB,List.length_cons,leB]
  rw [e1,e2,zxi r]
  simp
def insB (x:PIns):List UInt8:=leB x.op 1++(leB x.a 1++(leB x.b 1++(leB x.c 1++leB x.imm 8)))
def codeB (l:List PIns):List UInt8:=l.flatMap insB
def procB (p:PProc):List UInt8:=leB p.part 1++(leB p.code.length 2++codeB p.code)
def cfgB (c:PCfg):List UInt8:=
 [70,66,67,70,1]++(leB c.labels.length 1++(c.labels.flatMap (fun a=>leB a 8)++(leB c.table.length 1++(c.table.flatMap (fun a=>leB a 1)++
  (leB c.fuel 2++(leB c.lane 1++(leB c.locks 1++(leB c.log 2++(leB c.procs.length 1++c.procs.flatMap procB)))))))))
end Lf

namespace Lf
structure ziy where
 tick:Int
 proc:Int
 value:Int
structure PWaiter where
 proc:Int
 value:Int
structure PLane where
 values:List Int
 waiters:List PWaiter
 taken:Int
 dropped:Int
structure PProcess where
 state:Int
 pc:Int
 regs:List Int
 cursor:Int
 timer:Int
 fired:Bool
 wake:Int
 lanes:List PLane
structure PPart where
 cursor:Int
 log:List ziy
 lost:Int
 forbidden:Int
 owners:List Int
 queues:List (List Int)
structure PState where
 tick:Int
 parts:List PPart
 procs:List PProcess
section
variable (c:PCfg) (s:PState)
def ofP (p:Int) (i:Nat):Prop:=0≤p∧∃y,c.procs[p.toNat]?=some y∧y.part=(i:Int)
def stP (p:Int) (q:PProcess→Prop):Prop:=∃x,s.procs[p.toNat]?=some x∧q x
def manyP (i:Nat):Nat:=(c.procs.filter fun y=>decide (y.part=(i:Int))).length
def Cnt (n:Int):Prop:=0≤n∧n≤65535
def insP (y:PProc) (pc:Int):Option PIns:=if 0≤pc then y.code[pc.toNat]? else none
def LogG (i:Nat):Int→List ziy→Prop
 | _,[]=>True
 | last,e::r=>last≤e.tick∧e.tick<s.tick∧ofP c e.proc i∧LogG i e.tick r
def PartG (i:Nat) (x:PPart):Prop:=
 (0≤x.cursor∧(0<x.cursor→x.cursor<manyP c i)∧(x.log.length:Int)≤c.log)∧LogG c s i 0 x.log∧Cnt x.lost∧Cnt x.forbidden∧(0<x.lost→c.log≤x.log.length)∧
 (x.owners.length:Int)=c.locks∧(x.queues.length:Int)=c.locks∧∀p∈x.owners,p≠ -1→ofP c p i∧stP s p fun z=>z.state≠5∧z.state≠6
def Used (l:PLane):Prop:=l.values≠ []∨0<l.taken∨0<l.dropped
def ProcG (fl:Nat→Int→Prop) (x:PProcess) (y:PProc):Prop:=
 (0≤x.state∧x.state≤6)∧(0≤x.pc∧x.pc≤y.code.length)∧x.lanes.length=c.labels.length+1∧(0≤x.cursor∧x.cursor<x.lanes.length)∧
 (0≤x.timer∧x.timer≤s.tick+1099511627776)∧(0≤x.wake∧x.wake≤s.tick+1099511627776)∧(0<x.wake↔x.state=4)∧
 (x.state=5∨x.state=6→x.timer=0∧x.fired=false)∧
 (∀(i:Nat) l,x.lanes[i]?=some l→(l.values.length:Int)≤c.lane∧Cnt l.taken∧Cnt l.dropped∧(Used l→i<c.labels.length→fl i y.part))∧
 (x.state=1→(∃n,insP y x.pc=some n∧n.op=25)∧(∀l∈x.lanes,l.values=[])∧x.fired=false)∧
 (x.state=2→∃n,insP y x.pc=some n∧n.op=24)∧(x.state=3→∃n,insP y x.pc=some n∧n.op=29)∧(x.state=4→∃n,insP y x.pc=some n∧n.op=28)
def atP (p:Int) (q:PProcess→PIns→Prop):Prop:=∃x y n,s.procs[p.toNat]?=some x∧c.procs[p.toNat]?=some y∧insP y x.pc=some n∧q x n
def zkq1 (p v:Int) (r:Nat):Prop:=atP c s p fun x n=>x.state=2∧n.op=24∧x.regs[n.b.toNat]?=some (r:Int)∧x.regs[n.c.toNat]?=some v
def cntQ (p:Int) (x:PPart):Nat:=(x.queues.map fun q=>q.countP (fun z=>decide (z=p))).sum
def cntW (p:Int) (l:PLane):Nat:=l.waiters.countP fun w=>decide (w.proc=p)
def cntL (p:Int) (x:PProcess):Nat:=(x.lanes.map (cntW p)).sum
def zrc1 :Prop:=
 (∀(i:Nat) x,s.parts[i]?=some x→∀(k:Nat) q,x.queues[k]?=some q→∀p∈q,ofP c p i∧(atP c s p fun z n=>z.state=3∧n.imm=(k:Int))∧∃o,x.owners[k]?=some o∧0≤o∧o≠p)∧
 (∀(r:Nat) x y,s.procs[r]?=some x→c.procs[r]?=some y→∀(i:Nat) l,x.lanes[i]?=some l→∀w∈l.waiters,(i:Int)=y.part∧ofP c w.proc i∧(x.state≠5∧x.state≠6)∧(l.values.length:Int)=c.lane∧zkq1 c s w.proc w.value r)∧
 (∀(p:Nat) x,s.procs[p]?=some x→(s.parts.map (cntQ (p:Int))).sum+(s.procs.map (cntL (p:Int))).sum=if x.state=3∨x.state=2 then 1 else 0)
def zwl1 :Prop:=(0≤s.tick∧s.tick≤4611686018427387904)∧s.parts.length=c.labels.length∧s.procs.length=c.procs.length
def MayG (fl:Nat→Int→Prop):Prop:=
 zwl1 c s∧(∀(i:Nat) x,s.parts[i]?=some x→PartG c s i x)∧(∀(p:Nat) x y,s.procs[p]?=some x→c.procs[p]?=some y→ProcG c s fl x y)∧zrc1 c s
def ofR (p:Int) (i:Nat):Prop:=ofP c p i∧stP s p fun z=>z.state<5
def PartR (i:Nat) (x:PPart):Prop:=
 (0≤x.cursor∧(0<x.cursor→x.cursor<manyP c i))∧Cnt x.lost∧Cnt x.forbidden∧(0<x.lost→c.log≤x.log.length)∧
 (∀(k:Nat) e,x.log[k]?=some e→(0≤e.tick∧e.tick≤s.tick-1)∧(∀d,0<k→x.log[k-1]?=some d→d.tick≤e.tick)∧ofP c e.proc i)∧
 (∀(k:Nat) o,x.owners[k]?=some o→(o= -1∨ofR c s o i)∧∀q,x.queues[k]?=some q→(o= -1→q=[])∧∀p∈q,ofR c s p i∧(stP s p fun z=>z.state=3)∧o≠p)
def ProcR (fl:Nat→Int→Prop) (x:PProcess) (y:PProc):Prop:=
 (0≤x.state∧x.state≤6)∧(0≤x.pc∧x.pc≤y.code.length)∧(0≤x.cursor∧x.cursor<x.lanes.length)∧
 (0≤x.timer∧x.timer≤s.tick+1099511627776)∧(0≤x.wake∧x.wake≤s.tick+1099511627776)∧(0<x.wake↔x.state=4)∧(5≤x.state→x.timer=0∧x.fired=false)∧
 (∀(k:Nat) l,x.lanes[k]?=some l→Cnt l.taken∧Cnt l.dropped∧(k<c.labels.length→Used l→fl k y.part)∧(l.waiters≠ []→(k:Int)=y.part∧x.state<5∧c.lane≤l.values.length)∧
  ∀w∈l.waiters,(∀i:Nat,(i:Int)=y.part→ofR c s w.proc i)∧stP s w.proc fun z=>z.state=2)
def WaitR (p i:Nat) (x:PProcess) (y:PProc):Prop:=
 (∀z,s.parts[i]?=some z→∀(k:Nat) q,z.queues[k]?=some q→(p:Int)∈q→∃n,insP y x.pc=some n∧n.op=29∧n.imm=(k:Int))∧
 (∀(r:Nat) z,s.procs[r]?=some z→∀l,z.lanes[i]?=some l→∀w∈l.waiters,w.proc=(p:Int)→∃n,insP y x.pc=some n∧n.op=24∧x.regs[n.b.toNat]?=some (r:Int)∧x.regs[n.c.toNat]?=some w.value)∧
 (∀z,s.parts[i]?=some z→cntQ (p:Int) z=if x.state=3 then 1 else 0)∧((s.procs.map fun z=>((z.lanes[i]?).map (cntW (p:Int))).getD 0).sum=if x.state=2 then 1 else 0)∧
 (x.state=1→(∃n,insP y x.pc=some n∧n.op=25)∧(∀l∈x.lanes,l.values=[])∧x.fired=false)∧(x.state=4→∃n,insP y x.pc=some n∧n.op=28)
def zrd1 :Prop:=zwl1 c s∧(∀x∈s.parts,(x.owners.length:Int)=c.locks∧(x.queues.length:Int)=c.locks∧(x.log.length:Int)≤c.log)∧
 ∀x∈s.procs,x.lanes.length=c.labels.length+1∧∀l∈x.lanes,(l.values.length:Int)≤c.lane
def MayR (fl:Nat→Int→Prop):Prop:=
 zrd1 c s∧(∀(i:Nat) x,s.parts[i]?=some x→PartR c s i x)∧(∀(p:Nat) x y,s.procs[p]?=some x→c.procs[p]?=some y→ProcR c s fl x y)∧
 ∀(p i:Nat) x y,s.procs[p]?=some x→c.procs[p]?=some y→y.part=(i:Int)→WaitR s p i x y
end
theorem zpd1 {α:Type} (f:α→Nat):∀(l:List α) (i:Nat),(∀j x,l[j]?=some x→j≠i→f x=0)→(l.map f).sum=((l[i]?).map f).getD 0
 | [],i,_=>by simp
 | x::r,0,h=>by
  have:(r.map f).sum=0:=by
   rw [List.sum_eq_zero_iff_forall_eq_nat]
   intro y hy
   obtain ⟨z,hz,rfl⟩:=List.mem_map.1 hy
   obtain ⟨j,hj⟩:=List.getElem?_of_mem hz
   exact h (j+1) z (by simpa using hj) (by omega)
  simp [this]
 | x::r,i+1,h=>by
  have h0:=h 0 x rfl (by omega)
  have:=zpd1 f r i fun j y hj hne=>h (j+1) y (by simpa using hj) (by omega)
  simp [h0,this]
theorem zwm1 {α:Type} (f:α→Nat) (l:List α) (h:∀x∈l,f x=0):(l.map f).sum=0:=by
 rw [List.sum_eq_zero_iff_forall_eq_nat]
 intro y hy
 obtain ⟨z,hz,rfl⟩:=List.mem_map.1 hy
 exact h z hz
theorem ztu1 {α:Type} (f:α→Nat):∀(l:List α),0<(l.map f).sum→∃x∈l,0<f x
 | [],h=>by simp at h
 | x::r,h=>by
  by_cases hx:0<f x
  ·exact ⟨x,List.mem_cons_self ..,hx⟩
  ·have h2:0<(r.map f).sum:=by
    simp at h
    omega
   obtain ⟨y,hy,h3⟩:=ztu1 f r h2
   exact ⟨y,List.mem_cons_of_mem _ hy,h3⟩
end Lf

namespace Lf
section
variable {c:PCfg} {s:PState}
theorem ztv1 {i:Nat}:∀ {l:List ziy} {last:Int},LogG c s i last l→∀(k:Nat) e,l[k]?=some e→last≤e.tick∧e.tick<s.tick∧ofP c e.proc i∧∀d,0<k→l[k-1]?=some d→d.tick≤e.tick
 | [],_,_,k,e,he=>by simp at he
 | x::r,last,h,0,e,he=>by
  obtain ⟨h1,h2,h3,_⟩:=h
  cases he
  exact ⟨h1,h2,h3,fun d hd=>absurd hd (by omega)⟩
 | x::r,last,h,k+1,e,he=>by
  obtain ⟨h1,h2,h3,h4⟩:=h
  obtain ⟨g1,g2,g3,g4⟩:=ztv1 h4 k e (by simpa using he)
  refine ⟨by omega,g2,g3,fun d _ hd=> ?_⟩
  cases k with
  | zero=>
   cases hd
   exact g1
  | succ k=>exact g4 d (by omega) hd
theorem zay2 {i:Nat}:∀ {l:List ziy} {last:Int},(∀e,l[0]?=some e→last≤e.tick)→(∀(k:Nat) e,l[k]?=some e→e.tick<s.tick∧ofP c e.proc i∧∀d,0<k→l[k-1]?=some d→d.tick≤e.tick)→LogG c s i last l
 | [],_,_,_=>trivial
 | x::r,last,h0,h=>by
  obtain ⟨h1,h2,_⟩:=h 0 x rfl
  refine ⟨h0 x rfl,h1,h2,zay2 (fun e he=> ?_) fun k e he=> ?_⟩
  ·exact (h 1 e he).2.2 x (by omega) rfl
  ·obtain ⟨g1,g2,g3⟩:=h (k+1) e he
   refine ⟨g1,g2,fun d hk hd=>g3 d (by omega) ?_⟩
   obtain ⟨j,rfl⟩:∃j,k=j+1:=⟨k-1,by omega⟩
   exact hd
theorem zwn1 {p i:Nat} {y:PProc} (h:ofP c (p:Int) i) (hy:c.procs[p]?=some y):y.part=(i:Int):=by
 obtain ⟨_,z,hz,hp⟩:=h
 rw [Int.toNat_natCast,hy] at hz
 cases hz
 exact hp
theorem zre1 {p:Int} {x:PPart} (h:∀(k:Nat) q,x.queues[k]?=some q→p∉q):cntQ p x=0:=by
 refine zwm1 _ _ fun q hq=> ?_
 obtain ⟨k,hk⟩:=List.getElem?_of_mem hq
 rw [List.countP_eq_zero]
 intro z hz e
 have e:z=p:=by simpa using e
 exact h k q hk (e▸hz)
theorem zea2 {p:Int} {x:PPart} (h:0<cntQ p x):∃(k:Nat) (q:List Int),x.queues[k]?=some q∧p∈q:=by
 obtain ⟨q,hq,hp⟩:=ztu1 _ _ h
 obtain ⟨k,hk⟩:=List.getElem?_of_mem hq
 obtain ⟨z,hz,e⟩:=List.countP_pos_iff.1 hp
 have e:z=p:=by simpa using e
 exact ⟨k,q,hk,e▸hz⟩
theorem zrf1 {p:Int} {l:PLane} (h:∀w∈l.waiters,w.proc≠p):cntW p l=0:=by
 unfold cntW
 rw [List.countP_eq_zero]
 intro w hw e
 exact h w hw (by simpa using e)
theorem zeb2 {p:Int} {l:PLane} (h:0<cntW p l):∃w∈l.waiters,w.proc=p:=by
 obtain ⟨w,hw,e⟩:=List.countP_pos_iff.1 h
 exact ⟨w,hw,by simpa using e⟩
theorem sumQ {p i:Nat} {y:PProc} (hy:c.procs[p]?=some y) (hi:y.part=(i:Int))
  (hq:∀(j:Nat) x,s.parts[j]?=some x→∀(k:Nat) q,x.queues[k]?=some q→∀z∈q,ofP c z j):(s.parts.map (cntQ (p:Int))).sum=((s.parts[i]?).map (cntQ (p:Int))).getD 0:=by
 refine zpd1 _ _ _ fun j x hx hj=>zre1 fun k q hk hp=> ?_
 have:=zwn1 (hq j x hx k q hk _ hp) hy
 omega
theorem sumL {p i:Nat} {y:PProc} (hy:c.procs[p]?=some y) (hi:y.part=(i:Int))
  (hw:∀(r:Nat) x,s.procs[r]?=some x→∀(j:Nat) l,x.lanes[j]?=some l→∀w∈l.waiters,ofP c w.proc j):
  (s.procs.map (cntL (p:Int))).sum=(s.procs.map fun z=>((z.lanes[i]?).map (cntW (p:Int))).getD 0).sum:=by
 congr 1
 refine List.map_congr_left fun z hz=> ?_
 obtain ⟨r,hr⟩:=List.getElem?_of_mem hz
 refine zpd1 _ _ _ fun j l hl hj=>zrf1 fun w hw2 e=> ?_
 have h:=hw r z hr j l hl w hw2
 rw [e] at h
 have:=zwn1 h hy
 omega
end
section
variable {c:PCfg} {s:PState} {fl:Nat→Int→Prop}
theorem zel1 {α:Type} {l:List α} {i:Nat} {a b:α} (h1:l[i]?=some a) (h2:l[i]?=some b):a=b:=Option.some.inj (h1.symm.trans h2)
theorem zgn1 {α β:Type} {l:List α} {m:List β} {i:Nat} {a:α} (h:l[i]?=some a) (hl:l.length=m.length):∃b,m[i]?=some b:=by
 have:=(List.getElem?_eq_some_iff.1 h).1
 exact ⟨m[i]'(by omega),by rw [List.getElem?_eq_getElem]⟩
theorem zgp2 (hpart:∀y∈c.procs,0≤y.part∧y.part<c.labels.length) (h:MayG c s fl):MayR c s fl:=by
 obtain ⟨hS,hP,hQ,w1,w2,w3⟩:=h
 have hq:∀(j:Nat) x,s.parts[j]?=some x→∀(k:Nat) q,x.queues[k]?=some q→∀z∈q,ofP c z j:=fun j x hx k q hk z hz=>(w1 j x hx k q hk z hz).1
 have hw:∀(r:Nat) x,s.procs[r]?=some x→∀(j:Nat) l,x.lanes[j]?=some l→∀w∈l.waiters,ofP c w.proc j:=fun r x hx j l hl w hww=>by
  obtain ⟨y,hy⟩:=zgn1 hx hS.2.2
  exact (w2 r x y hx hy j l hl w hww).2.1
 have st3:∀(p:Int) (q:PProcess→PIns→Prop),(atP c s p fun z n=>z.state=3∧q z n)→stP s p fun z=>z.state=3:=fun p q ⟨x,y,n,h1,h2,h3,h4,h5⟩=>⟨x,h1,h4⟩
 have st2:∀(p v:Int) (r:Nat),zkq1 c s p v r→stP s p fun z=>z.state=2:=fun p v r ⟨x,y,n,h1,h2,h3,h4,h5⟩=>⟨x,h1,h4⟩
 refine ⟨⟨hS,fun x hx=> ?_,fun x hx=> ?_⟩,fun i x hx=> ?_,fun p x y hx hy=> ?_,fun p i x y hx hy hi=> ?_⟩
 ·obtain ⟨i,hi⟩:=List.getElem?_of_mem hx
  obtain ⟨⟨_,_,g1⟩,_,_,_,_,g2,g3,_⟩:=hP i x hi
  exact ⟨g2,g3,g1⟩
 ·obtain ⟨p,hp⟩:=List.getElem?_of_mem hx
  obtain ⟨y,hy⟩:=zgn1 hp hS.2.2
  obtain ⟨_,_,g1,_,_,_,_,_,g2,_⟩:=hQ p x y hp hy
  refine ⟨g1,fun l hl=> ?_⟩
  obtain ⟨i,hi⟩:=List.getElem?_of_mem hl
  exact (g2 i l hi).1
 ·obtain ⟨⟨g1,g2,g3⟩,g4,g5,g6,g7,g8,g9,g10⟩:=hP i x hx
  refine ⟨⟨g1,g2⟩,g5,g6,g7,fun k e he=> ?_,fun k o ho=>⟨?_,fun q hk=>⟨fun e=> ?_,fun p hp=> ?_⟩⟩⟩
  ·obtain ⟨a1,a2,a3,a4⟩:=ztv1 g4 k e he
   exact ⟨⟨a1,by omega⟩,a4,a3⟩
  ·by_cases e:o= -1
   ·exact .inl e
   ·obtain ⟨a1,z,a2,a3⟩:=g10 o (List.mem_of_getElem? ho) e
    refine .inr ⟨a1,z,a2,?_⟩
    obtain ⟨y,hy⟩:=zgn1 a2 hS.2.2
    have:=(hQ _ z y a2 hy).1
    omega
  ·cases q with
   | nil=>rfl
   | cons p q=>
    obtain ⟨_,_,o',b1,b2,_⟩:=w1 i x hx k _ hk p (List.mem_cons_self ..)
    have:=zel1 ho b1
    omega
  ·obtain ⟨b0,b1,o',b2,b3,b4⟩:=w1 i x hx k q hk p hp
   obtain ⟨z,c1,c2⟩:=st3 p _ b1
   have:=zel1 ho b2
   subst this
   exact ⟨⟨b0,z,c1,by omega⟩,⟨z,c1,c2⟩,b4⟩
 ·obtain ⟨g1,g2,g3,g4,g5,g6,g7,g8,g9,_⟩:=hQ p x y hx hy
  refine ⟨g1,g2,g4,g5,g6,g7,fun e=>g8 (by omega),fun k l hl=> ?_⟩
  obtain ⟨a1,a2,a3,a4⟩:=g9 k l hl
  refine ⟨a2,a3,fun hk hu=>a4 hu hk,fun hne=> ?_,fun w hww=> ?_⟩
  ·obtain ⟨w,hww⟩:=List.exists_mem_of_ne_nil _ hne
   obtain ⟨b1,b2,b3,b4,b5⟩:=w2 p x y hx hy k l hl w hww
   exact ⟨b1,by omega,by omega⟩
  ·obtain ⟨b1,b2,b3,b4,b5⟩:=w2 p x y hx hy k l hl w hww
   obtain ⟨z,c1,c2⟩:=st2 _ _ _ b5
   refine ⟨fun i hi=> ?_,z,c1,c2⟩
   have:k=i:=by omega
   subst this
   exact ⟨b2,z,c1,by omega⟩
 ·obtain ⟨g1,_,_,_,_,_,_,_,_,g10,g11,g12,g13⟩:=hQ p x y hx hy
  have e3:∀z,s.parts[i]?=some z→∀(k:Nat) q,z.queues[k]?=some q→(p:Int)∈q→x.state=3∧∃n,insP y x.pc=some n∧n.op=29∧n.imm=(k:Int):=fun z hz k q hk hpq=>by
   obtain ⟨_,⟨x',y',n,b1,b2,b3,b4,b5⟩,_⟩:=w1 i z hz k q hk p hpq
   rw [Int.toNat_natCast] at b1 b2
   obtain rfl:=zel1 hx b1
   obtain rfl:=zel1 hy b2
   obtain ⟨n',c1,c2⟩:=g12 b4
   rw [b3] at c1
   cases c1
   exact ⟨b4,n,b3,c2,b5⟩
  have e2:∀(r:Nat) z,s.procs[r]?=some z→∀l,z.lanes[i]?=some l→∀w∈l.waiters,w.proc=(p:Int)→x.state=2∧∃n,insP y x.pc=some n∧n.op=24∧x.regs[n.b.toNat]?=some (r:Int)∧x.regs[n.c.toNat]?=some w.value:=fun r z hz l hl w hww hwp=>by
   obtain ⟨y',hy'⟩:=zgn1 hz hS.2.2
   obtain ⟨_,_,_,_,x',y'',n,b1,b2,b3,b4,b5,b6,b7⟩:=w2 r z y' hz hy' i l hl w hww
   rw [hwp,Int.toNat_natCast] at b1 b2
   obtain rfl:=zel1 hx b1
   obtain rfl:=zel1 hy b2
   exact ⟨b4,n,b3,b5,b6,b7⟩
  have t:=w3 p x hx
  rw [sumQ hy hi hq,sumL hy hi hw] at t
  have z2:x.state≠2→(s.procs.map fun z=>((z.lanes[i]?).map (cntW (p:Int))).getD 0).sum=0:=fun hne=>by
   refine zwm1 _ _ fun z hz=> ?_
   obtain ⟨r,hr⟩:=List.getElem?_of_mem hz
   cases hl:z.lanes[i]? with
   | none=>rfl
   | some l=>exact zrf1 fun w hww hwp=>hne (e2 r z hr l hl w hww hwp).1
  have z3:x.state≠3→((s.parts[i]?).map (cntQ (p:Int))).getD 0=0:=fun hne=>by
   cases hz:s.parts[i]? with
   | none=>rfl
   | some z=>exact zre1 fun k q hk hpq=>hne (e3 z hz k q hk hpq).1
  refine ⟨fun z hz k q hk hpq=>(e3 z hz k q hk hpq).2,fun r z hz l hl w hww hwp=>(e2 r z hz l hl w hww hwp).2,fun z hz=> ?_,?_,g10,g13⟩
  ·rw [hz] at t z3
   have t:cntQ (p:Int) z+_=_:=t
   have z3:x.state≠3→cntQ (p:Int) z=0:=z3
   by_cases h3:x.state=3
   ·rw [z2 (by omega),if_pos (.inl h3)] at t
    rw [if_pos h3];omega
   ·rw [if_neg h3,z3 h3]
  ·by_cases h2:x.state=2
   ·rw [z3 (by omega),if_pos (.inr h2)] at t
    rw [if_pos h2];omega
   ·rw [if_neg h2,z2 h2]
theorem zgq2 (hpart:∀y∈c.procs,0≤y.part∧y.part<c.labels.length) (h:MayR c s fl):MayG c s fl:=by
 obtain ⟨⟨hS,s1,s2⟩,hP,hQ,hW⟩:=h
 have hpt:∀(p:Nat) y,c.procs[p]?=some y→∃i:Nat,y.part=(i:Int)∧∃z,s.parts[i]?=some z:=fun p y hy=>by
  obtain ⟨a1,a2⟩:=hpart y (List.mem_of_getElem? hy)
  refine ⟨y.part.toNat,by omega,s.parts[y.part.toNat]'(by have:=hS.2.1;omega),by rw [List.getElem?_eq_getElem]⟩
 have own:∀(i:Nat) x,s.parts[i]?=some x→∀(k:Nat) q,x.queues[k]?=some q→∃o,x.owners[k]?=some o:=fun i x hx k q hk=>by
  obtain ⟨a1,a2,_⟩:=s1 x (List.mem_of_getElem? hx)
  exact zgn1 hk (by omega)
 have hq:∀(j:Nat) x,s.parts[j]?=some x→∀(k:Nat) q,x.queues[k]?=some q→∀z∈q,ofP c z j:=fun j x hx k q hk z hz=>by
  obtain ⟨o,ho⟩:=own j x hx k q hk
  exact ((((hP j x hx).2.2.2.2.2 k o ho).2 q hk).2 z hz).1.1
 have hw:∀(r:Nat) x,s.procs[r]?=some x→∀(j:Nat) l,x.lanes[j]?=some l→∀w∈l.waiters,ofP c w.proc j:=fun r x hx j l hl w hww=>by
  obtain ⟨y,hy⟩:=zgn1 hx hS.2.2
  obtain ⟨_,_,_,b1,b2⟩:=(hQ r x y hx hy).2.2.2.2.2.2.2 j l hl
  exact ((b2 w hww).1 j (b1 (List.ne_nil_of_mem hww)).1).1
 refine ⟨hS,fun i x hx=> ?_,fun p x y hx hy=> ?_,fun i x hx k q hk p hp=> ?_,fun r x y hx hy i l hl w hww=> ?_,fun p x hx=> ?_⟩
 ·obtain ⟨a1,a2,a3⟩:=s1 x (List.mem_of_getElem? hx)
  obtain ⟨g1,g2,g3,g4,g5,g6⟩:=hP i x hx
  refine ⟨⟨g1.1,g1.2,a3⟩,zay2 (fun e he=>(g5 0 e he).1.1) (fun k e he=> ?_),g2,g3,g4,a1,a2,fun p hp hne=> ?_⟩
  ·obtain ⟨b1,b2,b3⟩:=g5 k e he
   exact ⟨by omega,b3,b2⟩
  ·obtain ⟨k,hk⟩:=List.getElem?_of_mem hp
   obtain ⟨b1,z,b2,b3⟩:=(g6 k p hk).1.resolve_left hne
   exact ⟨b1,z,b2,by omega,by omega⟩
 ·obtain ⟨a1,a2⟩:=s2 x (List.mem_of_getElem? hx)
  obtain ⟨g1,g2,g3,g4,g5,g6,g7,g8⟩:=hQ p x y hx hy
  obtain ⟨i,hi,z,hz⟩:=hpt p y hy
  obtain ⟨c1,c2,c3,c4,c5,c6⟩:=hW p i x y hx hy hi
  refine ⟨g1,g2,a1,g3,g4,g5,g6,fun e=>g7 (by omega),fun k l hl=> ?_,c5,fun h2=> ?_,fun h3=> ?_,c6⟩
  ·obtain ⟨b1,b2,b3,_⟩:=g8 k l hl
   exact ⟨a2 l (List.mem_of_getElem? hl),b1,b2,fun hu hk=>b3 hk hu⟩
  ·rw [if_pos h2] at c4
   obtain ⟨z',hz',hpos⟩:=ztu1 _ _ (show 0<_ by rw [c4];omega)
   obtain ⟨r,hr⟩:=List.getElem?_of_mem hz'
   cases hl:z'.lanes[i]? with
   | none=>rw [hl] at hpos;simp at hpos
   | some l=>
    rw [hl] at hpos
    obtain ⟨w,hww,hwp⟩:=zeb2 hpos
    obtain ⟨n,d1,d2,_⟩:=c2 r z' hr l hl w hww hwp
    exact ⟨n,d1,d2⟩
  ·have:=c3 z hz
   rw [if_pos h3] at this
   obtain ⟨k,q,hk,hpq⟩:=zea2 (show 0<cntQ (p:Int) z by omega)
   obtain ⟨n,d1,d2,_⟩:=c1 z hz k q hk hpq
   exact ⟨n,d1,d2⟩
 ·obtain ⟨o,ho⟩:=own i x hx k q hk
  obtain ⟨b1,b2⟩:=(hP i x hx).2.2.2.2.2 k o ho
  obtain ⟨b3,b4⟩:=b2 q hk
  obtain ⟨⟨d1,z,d2,d3⟩,⟨z',d4,d5⟩,d6⟩:=b4 p hp
  obtain ⟨d0,y,d7,d8⟩:=d1
  obtain rfl:=zel1 d2 d4
  have hpc:((p.toNat:Nat):Int)=p:=by omega
  obtain ⟨c1,_⟩:=hW p.toNat i z y d2 d7 d8
  obtain ⟨n,f1,f2,f3⟩:=c1 x hx k q hk (by rw [hpc];exact hp)
  refine ⟨⟨d0,y,d7,d8⟩,⟨z,y,n,d2,d7,f1,d5,f3⟩,o,ho,?_,d6⟩
  rcases b1 with e | e
  ·rw [b3 e] at hp;cases hp
  ·exact e.1.1
 ·obtain ⟨_,_,_,b1,b2⟩:=(hQ r x y hx hy).2.2.2.2.2.2.2 i l hl
  obtain ⟨e1,e2,e3⟩:=b1 (List.ne_nil_of_mem hww)
  obtain ⟨f1,z',f2,f3⟩:=b2 w hww
  obtain ⟨⟨d0,y',d7,d8⟩,_⟩:=f1 i e1
  have hv:=(s2 x (List.mem_of_getElem? hx)).2 l (List.mem_of_getElem? hl)
  have hpc:((w.proc.toNat:Nat):Int)=w.proc:=by omega
  obtain ⟨_,c2,_⟩:=hW w.proc.toNat i z' y' f2 d7 d8
  obtain ⟨n,g1,g2,g3,g4⟩:=c2 r x hx l hl w hww hpc.symm
  exact ⟨e1,⟨d0,y',d7,d8⟩,by omega,by omega,z',y',n,f2,d7,g1,f3,g2,g3,g4⟩
 ·obtain ⟨y,hy⟩:=zgn1 hx hS.2.2
  obtain ⟨i,hi,z,hz⟩:=hpt p y hy
  obtain ⟨_,_,c3,c4,_⟩:=hW p i x y hx hy hi
  rw [sumQ hy hi hq,sumL hy hi hw,hz,c4]
  show cntQ (p:Int) z+_=_
  rw [c3 z hz]
  by_cases h3:x.state=3
  ·rw [if_pos h3,if_neg (by omega),if_pos (.inl h3)]
  ·by_cases h2:x.state=2
   ·rw [if_neg h3,if_pos h2,if_pos (.inr h2)]
   ·rw [if_neg h3,if_neg h2,if_neg (by omega)]
theorem zgr2 (hpart:∀y∈c.procs,0≤y.part∧y.part<c.labels.length):MayG c s fl↔MayR c s fl:=⟨zgp2 hpart,zgq2 hpart⟩
end
end Lf

namespace Lf
abbrev D (α:Type):Type:=List UInt8→Nat→Except (Int×Nat) (α×Nat)
namespace D
variable {α β:Type}
def ret (x:α):D α:=fun _ at_=>.ok (x,at_)
def bind (d:D α) (f:α→D β):D β:=fun b at_=>match d b at_ with
 | .ok (x,at2)=>f x b at2
 | .error e=>.error e
def num (k:Nat):D Nat:=fun b at_=>if b.length<at_+k then .error (5,b.length) else .ok (valB ((b.drop at_).take k),at_+k)
def must (d:D α) (wrong:α→Int):D α:=fun b at_=>match d b at_ with
 | .ok (x,at2)=>if wrong x=0 then .ok (x,at2) else .error (wrong x,at_)
 | .error e=>.error e
def many (d:List α→D α):Nat→List α→D (List α)
 | 0,acc=>ret acc
 | n+1,acc=>bind (d acc) fun x=>many d n (acc++ [x])
def map (f:α→β) (d:D α):D β:=bind d fun x=>ret (f x)
structure Law (d:D α) (enc:α→List UInt8) (valid:α→Prop):Prop where
 back:∀x,valid x→∀u t,d (u++(enc x++t)) u.length=.ok (x,u.length+(enc x).length)
 sound:∀b at_ x at2,d b at_=.ok (x,at2)→at_≤b.length→valid x∧at2=at_+(enc x).length∧∃t,b.drop at_=enc x++t
 cut:∀x,valid x→∀u t r,enc x=t++r→r≠ []→d (u++t) u.length=.error (5,u.length+t.length)
theorem Law.within {d:D α} {enc:α→List UInt8} {valid:α→Prop} (L:Law d enc valid) {b:List UInt8} {at_ at2:Nat} {x:α} (h:d b at_=.ok (x,at2)) (ha:at_≤b.length):at2≤b.length:=by
 obtain ⟨_,h2,t,ht⟩:=L.sound b at_ x at2 h ha
 have:=congrArg List.length ht
 rw [List.length_drop,List.length_append] at this
 omega
theorem law_num (k:Nat):Law (num k) (fun n=>leB (n:Int) k) (fun n=>n<256^k) where
 back:=fun x hx u t=>by
  unfold num
  have hl:=zaf (x:Int) k
  rw [if_neg (by simp [hl])]
  have e:((u++(leB (x:Int) k++t)).drop u.length).take k=leB (x:Int) k:=by
   rw [List.drop_left,List.take_left' hl]
  rw [e]
  have h1:=zgm1 (x:Int) k
  have h2:(x:Int)%((256^k:Nat):Int)=(x:Int):=Int.emod_eq_of_lt (by omega) (by exact_mod_cast hx)
  rw [h2] at h1
  have h3:valB (leB (x:Int) k)=x:=by exact_mod_cast h1
  rw [h3,hl]
 sound:=fun b at_ x at2 h ha=>by
  unfold num at h
  by_cases hc:b.length<at_+k
  ·rw [if_pos hc] at h;cases h
  ·rw [if_neg hc] at h
   cases h
   have hl:((b.drop at_).take k).length=k:=by rw [List.length_take,List.length_drop];omega
   have h1:=zxh ((b.drop at_).take k)
   rw [hl] at h1
   have h2:=zxi ((b.drop at_).take k)
   rw [hl] at h2
   refine ⟨h1,by rw [zaf],(b.drop at_).drop k,?_⟩
   rw [h2,List.take_append_drop]
 cut:=fun x hx u t r he hr=>by
  unfold num
  have hl:=zaf (x:Int) k
  rw [he,List.length_append] at hl
  have:0<r.length:=List.length_pos_iff.2 hr
  rw [if_pos (by rw [List.length_append];omega),List.length_append]
theorem law_ret (x:α):Law (ret x) (fun _=> []) (fun y=>y=x) where
 back:=fun y hy u t=>by subst hy;rfl
 sound:=fun b at_ y at2 h _=>by
  cases h
  exact ⟨rfl,rfl,_,rfl⟩
 cut:=fun y _ u t r he hr=>by
  exact absurd (List.append_eq_nil_iff.1 he.symm).2 hr
theorem law_seq {γ:Type} {d1:D α} {d2:α→D β} {e1:α→List UInt8} {e2:α→β→List UInt8} {v1:α→Prop} {v2:α→β→Prop} (f:α→β→γ) (g:γ→α×β) (hfg:∀x y,v1 x→v2 x y→g (f x y)=(x,y)) (hgf:∀z,f (g z).1 (g z).2=z)
  (L1:Law d1 e1 v1) (L2:∀x,v1 x→Law (d2 x) (e2 x) (v2 x)):
  Law (bind d1 fun x=>bind (d2 x) fun y=>ret (f x y)) (fun z=>e1 (g z).1++e2 (g z).1 (g z).2) (fun z=>v1 (g z).1∧v2 (g z).1 (g z).2) where
 back:=fun z hz u t=>by
  obtain ⟨h1,h2⟩:=hz
  have a:=L1.back _ h1 u (e2 (g z).1 (g z).2++t)
  have b:=(L2 _ h1).back _ h2 (u++e1 (g z).1) t
  rw [List.append_assoc] at b
  simp only [bind]
  rw [List.append_assoc,a]
  dsimp only
  rw [List.length_append] at b
  rw [b]
  dsimp only [ret]
  rw [hgf,List.length_append,Nat.add_assoc]
 sound:=fun b at_ z at2 h ha=>by
  simp only [bind] at h
  cases h1:d1 b at_ with
  | error e=>rw [h1] at h;cases h
  | ok p=>
   obtain ⟨x,a1⟩:=p
   rw [h1] at h
   dsimp only at h
   obtain ⟨g1,g2,t1,g3⟩:=L1.sound b at_ x a1 h1 ha
   cases h2:d2 x b a1 with
   | error e=>rw [h2] at h;cases h
   | ok q=>
    obtain ⟨y,a2⟩:=q
    rw [h2] at h
    dsimp only [ret] at h
    cases h
    obtain ⟨k1,k2,t2,k3⟩:=(L2 x g1).sound b a1 y _ h2 (L1.within h1 ha)
    rw [hfg x y g1 k1]
    dsimp only
    refine ⟨⟨g1,k1⟩,by rw [List.length_append];omega,t2,?_⟩
    rw [g2] at k3
    rw [←List.drop_drop,g3,List.drop_left] at k3
    rw [g3,k3,List.append_assoc]
 cut:=fun z hz u t r he hr=>by
  obtain ⟨h1,h2⟩:=hz
  simp only [bind]
  by_cases hl:t.length<(e1 (g z).1).length
  · -- cut in the first
   obtain ⟨r1,hr1⟩:∃r1,e1 (g z).1=t++r1:=by
    have hp:t<+:e1 (g z).1:=List.prefix_of_prefix_length_le ⟨r,he.symm⟩ (List.prefix_append _ _) (Nat.le_of_lt hl)
    obtain ⟨r1,hr1⟩:=hp
    exact ⟨r1,hr1.symm⟩
   have hne:r1≠ []:=fun e=>by
    rw [e,List.append_nil] at hr1
    rw [hr1] at hl
    omega
   rw [L1.cut _ h1 u t r1 hr1 hne]
  ·obtain ⟨t2,ht2⟩:∃t2,t=e1 (g z).1++t2:=by
    have hp:e1 (g z).1<+:t:=List.prefix_of_prefix_length_le (List.prefix_append _ _) ⟨r,he.symm⟩ (by omega)
    obtain ⟨t2,ht2⟩:=hp
    exact ⟨t2,ht2.symm⟩
   subst ht2
   have he2:e2 (g z).1 (g z).2=t2++r:=by
    rw [List.append_assoc] at he
    exact List.append_cancel_left he
   have a:=L1.back _ h1 u t2
   rw [a]
   dsimp only
   have b:=(L2 _ h1).cut _ h2 (u++e1 (g z).1) t2 r he2 hr
   rw [List.append_assoc,List.length_append] at b
   rw [b]
   simp [Nat.add_assoc]
theorem law_must {d:D α} {enc:α→List UInt8} {valid:α→Prop} (L:Law d enc valid) (wrong:α→Int):Law (must d wrong) enc (fun x=>valid x∧wrong x=0) where
 back:=fun x hx u t=>by
  simp only [must,L.back x hx.1 u t,if_pos hx.2]
 sound:=fun b at_ x at2 h ha=>by
  simp only [must] at h
  cases h1:d b at_ with
  | error e=>rw [h1] at h;cases h
  | ok p=>
   obtain ⟨y,a1⟩:=p
   rw [h1] at h
   dsimp only at h
   by_cases hw:wrong y=0
   ·rw [if_pos hw] at h
    cases h
    obtain ⟨g1,g2,g3⟩:=L.sound b at_ x at2 h1 ha
    exact ⟨⟨g1,hw⟩,g2,g3⟩
   ·rw [if_neg hw] at h;cases h
 cut:=fun x hx u t r he hr=>by
  simp only [must,L.cut x hx.1 u t r he hr]
theorem Law.congr {d:D α} {enc enc':α→List UInt8} {valid valid':α→Prop} (L:Law d enc valid) (hv:∀x,valid x↔valid' x) (he:∀x,valid x→enc x=enc' x):Law d enc' valid' where
 back:=fun x hx u t=>by
  have hx:=(hv x).2 hx
  rw [←he x hx]
  exact L.back x hx u t
 sound:=fun b at_ x at2 h ha=>by
  obtain ⟨h1,h2,h3⟩:=L.sound b at_ x at2 h ha
  rw [←he x h1]
  exact ⟨(hv x).1 h1,h2,h3⟩
 cut:=fun x hx u t r hr hne=>by
  have hx:=(hv x).2 hx
  rw [←he x hx] at hr
  exact L.cut x hx u t r hr hne
theorem law_map {d:D α} {enc:α→List UInt8} {valid:α→Prop} (h:α→β) {enc':β→List UInt8} {valid':β→Prop} (L:Law d enc valid) (hv:∀y,valid' y↔∃x,valid x∧h x=y) (he:∀x,valid x→enc' (h x)=enc x):Law (map h d) enc' valid' where
 back:=fun y hy u t=>by
  obtain ⟨x,hx,rfl⟩:=(hv y).1 hy
  rw [he x hx]
  simp only [map,bind,L.back x hx u t]
  rfl
 sound:=fun b at_ y at2 hh ha=>by
  simp only [map,bind] at hh
  cases h1:d b at_ with
  | error e=>rw [h1] at hh;cases hh
  | ok p=>
   obtain ⟨x,a1⟩:=p
   rw [h1] at hh
   dsimp only [ret] at hh
   cases hh
   obtain ⟨g1,g2,g3⟩:=L.sound b at_ x _ h1 ha
   rw [he x g1]
   exact ⟨(hv _).2 ⟨x,g1,rfl⟩,g2,g3⟩
 cut:=fun y hy u t r hr hne=>by
  obtain ⟨x,hx,rfl⟩:=(hv y).1 hy
  rw [he x hx] at hr
  simp only [map,bind,L.cut x hx u t r hr hne]
def manyV (v:List α→α→Prop):List α→List α→Prop
 | _,[]=>True
 | acc,x::r=>v acc x∧manyV v (acc++ [x]) r
theorem zaz2 (d1:D α) (d2:α→D β):map (fun z:α×β=>z.2) (bind d1 fun x=>bind (d2 x) fun y=>ret (x,y))=bind d1 d2:=by
 funext b at_
 simp only [map,bind]
 cases d1 b at_ with
 | error e=>rfl
 | ok p=>
  obtain ⟨x,a1⟩:=p
  dsimp only
  cases d2 x b a1 with
  | error e=>rfl
  | ok q=>rfl
theorem law_many {d:List α→D α} {e:α→List UInt8} {v:List α→α→Prop} (L:∀acc,Law (d acc) e (v acc)):∀(n:Nat) (acc:List α),
  Law (many d n acc) (fun z=>(z.drop acc.length).flatMap e) (fun z=>∃xs,z=acc++xs∧xs.length=n∧manyV v acc xs)
 | 0,acc=>by
  refine (law_ret acc).congr (fun z=>⟨fun h=>⟨[],by rw [h,List.append_nil],rfl,trivial⟩,?_⟩) fun z h=> ?_
  ·rintro ⟨xs,rfl,hl,_⟩
   rw [List.length_eq_zero_iff.1 hl,List.append_nil]
  ·rw [h,List.drop_length];rfl
 | n+1,acc=>by
  have h:=law_seq (γ:=α×List α) (d1:=d acc) (d2:=fun x=>many d n (acc++ [x])) Prod.mk id (fun _ _ _ _=>rfl) (fun _=>rfl) (L acc) fun x _=>law_many L n (acc++ [x])
  have h2:=law_map (h:=fun z:α×List α=>z.2) (enc':=fun z=>(z.drop acc.length).flatMap e) (valid':=fun z=>∃xs,z=acc++xs∧xs.length=n+1∧manyV v acc xs) h (fun y=>⟨?_,?_⟩) ?_
  ·rw [zaz2] at h2
   exact h2
  ·rintro ⟨xs,rfl,hl,hm⟩
   cases xs with
   | nil=>simp at hl
   | cons x r=>exact ⟨(x,acc++x::r),⟨hm.1,r,by simp,by simpa using hl,hm.2⟩,rfl⟩
  ·rintro ⟨⟨x,z⟩,⟨h1,r,h3,h4,h5⟩,rfl⟩
   have h3:z=acc++ [x]++r:=h3
   refine ⟨x::r,by simp [h3],by simp [h4],h1,h5⟩
  ·rintro ⟨x,z⟩ ⟨h1,r,h3,h4,h5⟩
   have h3:z=acc++ [x]++r:=h3
   subst h3
   show ((acc++ [x]++r).drop acc.length).flatMap e=e x++((acc++ [x]++r).drop (acc++ [x]).length).flatMap e
   rw [List.drop_left,List.append_assoc,List.drop_left]
   rfl
end D
end Lf

namespace Lf
namespace D
variable {α γ:Type}
theorem law_bind {d1:D α} {d2:α→D γ} {e1:α→List UInt8} {e2:α→γ→List UInt8} {v1:α→Prop} {v2:α→γ→Prop} (g:γ→α) (hg:∀x z,v1 x→v2 x z→g z=x)
  (L1:Law d1 e1 v1) (L2:∀x,v1 x→Law (d2 x) (e2 x) (v2 x)):Law (bind d1 d2) (fun z=>e1 (g z)++e2 (g z) z) (fun z=>v1 (g z)∧v2 (g z) z):=by
 have h:=law_seq (γ:=α×γ) Prod.mk id (fun _ _ _ _=>rfl) (fun _=>rfl) L1 L2
 have h2:=law_map (h:=fun z:α×γ=>z.2) (enc':=fun z=>e1 (g z)++e2 (g z) z) (valid':=fun z=>v1 (g z)∧v2 (g z) z) h (fun y=>⟨?_,?_⟩) ?_
 ·rw [zaz2] at h2
  exact h2
 ·rintro ⟨h1,h3⟩
  exact ⟨(g y,y),⟨h1,h3⟩,rfl⟩
 ·rintro ⟨⟨x,z⟩,⟨h1,h3⟩,rfl⟩
  have h1:v1 x:=h1
  have h3:v2 x z:=h3
  show v1 (g z)∧v2 (g z) z
  rw [hg x z h1 h3]
  exact ⟨h1,h3⟩
 ·rintro ⟨x,z⟩ ⟨h1,h3⟩
  have h1:v1 x:=h1
  have h3:v2 x z:=h3
  show e1 (g z)++e2 (g z) z=e1 x++e2 x z
  rw [hg x z h1 h3]
theorem law_bindP {d1:D α} {d2:α→D γ} {e1:α→List UInt8} {v1:α→Prop} {E:γ→List UInt8} {P W:γ→Prop} (g:γ→α)
  (L1:Law d1 e1 v1) (L2:∀x,v1 x→Law (d2 x) E (fun z=>(g z=x∧P z)∧W z)):Law (bind d1 d2) (fun z=>e1 (g z)++E z) (fun z=>P z∧(v1 (g z)∧W z)):=by
 have h:=law_bind (e2:=fun _=>E) (v2:=fun x z=>(g z=x∧P z)∧W z) g (fun x z _ h=>h.1.1) L1 L2
 exact h.congr (fun z=>⟨fun h=>⟨h.2.1.2,h.1,h.2.2⟩,fun h=>⟨h.2.1,⟨rfl,h.1⟩,h.2.2⟩⟩) fun _ _=>rfl
theorem law_listP {d1:D Int} {d:Int→List α→D α} {d2:Int→List α→D γ} {e1:Int→List UInt8} {v1:Int→Prop} {e:α→List UInt8} {v:Int→List α→α→Prop} {E:γ→List UInt8} {P W:γ→Prop} (g:γ→List α)
  (h0:∀n,v1 n→0≤n) (L1:Law d1 e1 v1) (L:∀n acc,Law (d n acc) e (v n acc)) (L2:∀n l,(l.length:Int)=n→Law (d2 n l) E (fun z=>(g z=l∧P z)∧W z)):
  Law (bind d1 fun n=>bind (many (d n) n.toNat []) fun l=>d2 n l) (fun z=>e1 (g z).length++((g z).flatMap e++E z)) (fun z=>P z∧(v1 (g z).length∧(manyV (v (g z).length) [] (g z)∧W z))):=by
 refine law_bindP (fun z=>((g z).length:Int)) L1 fun n hn=> ?_
 have hl:∀l:List α,(∃xs,l=[]++xs∧xs.length=n.toNat∧manyV (v n) [] xs)→(l.length:Int)=n:=by
  rintro l ⟨xs,rfl,h1,_⟩
  have:=h0 n hn
  omega
 have h:=law_bind (e2:=fun _=>E) (v2:=fun l z=>(g z=l∧P z)∧W z) g (fun x z _ h=>h.1.1) (law_many (L n) n.toNat []) fun l hx=>L2 n l (hl l hx)
 refine h.congr (fun z=>⟨fun h=> ?_,fun h=> ?_⟩) fun z _=>by simp
 ·obtain ⟨⟨xs,h1,h2,h3⟩,⟨_,h4⟩,h5⟩:=h
  have hz:=hl (g z) ⟨xs,h1,h2,h3⟩
  have h1:g z=xs:=h1
  refine ⟨⟨hz,h4⟩,?_,h5⟩
  rw [hz,h1]
  exact h3
 ·obtain ⟨⟨hz,h4⟩,h3,h5⟩:=h
  have hz:((g z).length:Int)=n:=hz
  rw [hz] at h3
  exact ⟨⟨g z,rfl,by omega,h3⟩,⟨rfl,h4⟩,h5⟩
def mustAt (d:D α) (wrong:α→Int×Int):D α:=fun b at_=>match d b at_ with
 | .ok (x,at2)=>if (wrong x).1=0 then .ok (x,at2) else .error ((wrong x).1,at_+(wrong x).2.toNat)
 | .error e=>.error e
theorem law_mustAt {d:D α} {enc:α→List UInt8} {valid:α→Prop} (L:Law d enc valid) (wrong:α→Int×Int):Law (mustAt d wrong) enc (fun x=>valid x∧(wrong x).1=0) where
 back:=fun x hx u t=>by
  simp only [mustAt,L.back x hx.1 u t,if_pos hx.2]
 sound:=fun b at_ x at2 h ha=>by
  simp only [mustAt] at h
  cases h1:d b at_ with
  | error e=>rw [h1] at h;cases h
  | ok p=>
   obtain ⟨y,a1⟩:=p
   rw [h1] at h
   dsimp only at h
   by_cases hw:(wrong y).1=0
   ·rw [if_pos hw] at h
    cases h
    obtain ⟨g1,g2,g3⟩:=L.sound b at_ x at2 h1 ha
    exact ⟨⟨g1,hw⟩,g2,g3⟩
   ·rw [if_neg hw] at h;cases h
 cut:=fun x hx u t r he hr=>by
  simp only [mustAt,L.cut x hx.1 u t r he hr]
end D
open D
def i64 (n:Nat):Int:=if n<9223372036854775808 then n else (n:Int)-18446744073709551616
def I64 (x:Int):Prop:= -9223372036854775808≤x∧x<9223372036854775808
theorem zxj :Law (map i64 (num 8)) (fun x=>leB x 8) I64:=by
 refine law_map i64 (law_num 8) (fun y=>⟨fun h=> ?_,?_⟩) fun x hx=> ?_
 ·obtain ⟨h1,h2⟩:=h
  refine ⟨(y%18446744073709551616).toNat,?_,?_⟩
  ·show _<18446744073709551616
   omega
  ·unfold i64
   split<;>omega
 ·rintro ⟨x,hx,rfl⟩
  have hx:x<18446744073709551616:=hx
  unfold i64 I64
  split<;>omega
 ·have hx:x<18446744073709551616:=hx
  have key:∀(k:Nat) (a b:Int),a%((256^k:Nat):Int)=b%((256^k:Nat):Int)→leB a k=leB b k:=by
   intro k a b h
   have h1:=zgm1 a k
   have h2:=zgm1 b k
   rw [h,←h2] at h1
   have h3:valB (leB a k)=valB (leB b k):=by exact_mod_cast h1
   have h4:=zxi (leB a k)
   have h5:=zxi (leB b k)
   rw [zaf] at h4 h5
   rw [←h4,←h5,h3]
  refine key 8 _ _ ?_
  show i64 x%18446744073709551616=(x:Int)%18446744073709551616
  unfold i64
  split<;>omega
def toZ (n:Nat):Int:=n
theorem zcf (k:Nat):Law (map toZ (num k)) (fun x=>leB x k) (fun x=>0≤x∧x<((256^k:Nat):Int)):=
 law_map toZ (law_num k) (fun y=>⟨fun h=>⟨y.toNat,by omega,by unfold toZ;omega⟩,by rintro ⟨x,hx,rfl⟩;unfold toZ;omega⟩) fun x _=>rfl
def zD (k:Nat):D Int:=map toZ (num k)
def zpr :D PIns:=bind (zD 1) fun op=>bind (zD 1) fun a=>bind (zD 1) fun b=>bind (zD 1) fun c=>bind (map i64 (num 8)) fun imm=>ret ⟨op,a,b,c,imm⟩
def insD (n locks:Int):D PIns:=mustAt zpr fun x=>zbv x n locks
def rngE (a b:Int) (n:Int):Int:=if within n a b then 0 else 2
def cntE (most:Int) (n:Int):Int:=if n=0 then 1 else if most<n then 3 else 0
def labE (acc:List Int) (a:Int):Int:=match acc.getLast? with
 | none=>0
 | some l=>if a=l then 8 else if a<l then 7 else 0
def procD (parts locks:Int):D PProc:=bind (must (zD 1) (rngE 0 (parts-1))) fun part=>bind (must (zD 2) fun n=>if 256<n then 3 else 0) fun n=>
 bind (many (fun _=>insD n locks) n.toNat []) fun code=>ret ⟨part,code⟩
def markD :List UInt8→D Unit
 | []=>ret ()
 | c::r=>bind (must (num 1) fun n=>if n=c.toNat then 0 else 4) fun _=>markD r
def zpg :D PCfg:=bind (markD [70,66,67,70,1]) fun _=>bind (must (zD 1) (cntE 8)) fun nl=>bind (many (fun acc=>must (zD 8) (labE acc)) nl.toNat []) fun labels=>
 bind (must (zD 1) (cntE 64)) fun nt=>bind (many (fun _=>must (zD 1) (rngE 0 (nl-1))) nt.toNat []) fun table=>
 bind (must (zD 2) (rngE 1 256)) fun fuel=>bind (must (zD 1) (rngE 1 64)) fun lane=>bind (must (zD 1) (rngE 0 8)) fun locks=>bind (must (zD 2) (rngE 0 4096)) fun log=>
 bind (must (zD 1) (cntE 32)) fun np=>bind (many (fun _=>procD nl locks) np.toNat []) fun procs=>ret ⟨labels,table,fuel,lane,locks,log,procs⟩
def zdz {α:Type} (d:D α) (b:List UInt8):Except (Int×Nat) α:=
 if 1048576<b.length then .error (22,1048576) else match d b 0 with
  | .error e=>.error e
  | .ok (x,at_)=>if at_<b.length then .error (6,at_) else .ok x
def zdm (b:List UInt8):Except (Int×Nat) PCfg:=zdz zpg b
theorem zpe1 :∀m:List UInt8,Law (markD m) (fun _=>m) (fun _=>True)
 | []=>(law_ret ()).congr (fun _=>by simp) fun _ _=>rfl
 | c::r=>by
  have h1:∀(x:Nat) (z:Unit),(x<256^1∧(if x=c.toNat then (0:Int) else 4)=0)→True→c.toNat=x:=fun x z h1 _=>by
   obtain ⟨_,h2⟩:=h1
   by_cases hx:x=c.toNat
   ·exact hx.symm
   ·rw [if_neg hx] at h2;cases h2
  have h:=law_bind (g:=fun _:Unit=>c.toNat) (d2:=fun _=>markD r) (e2:=fun _ _=>r) (v2:=fun _ _=>True) h1 (law_must (law_num 1) fun n=>if n=c.toNat then (0:Int) else 4) fun _ _=>zpe1 r
  ·refine h.congr (fun _=> ?_) fun _ _=> ?_
   ·simp
    exact c.toNat_lt
   ·have:=zxi [c]
    simp only [valB,List.length_cons,List.length_nil] at this
    show leB (c.toNat:Int) 1++r=c::r
    have e:((c.toNat+256*0:Nat):Int)=(c.toNat:Int):=by omega
    rw [e] at this
    rw [this];rfl
theorem law_ins :D.Law zpr insB fun x=>(0≤x.op∧x.op<256)∧(0≤x.a∧x.a<256)∧(0≤x.b∧x.b<256)∧(0≤x.c∧x.c<256)∧I64 x.imm:=by
 have h:=D.law_bindP (P:=fun _=>True) (W:=fun z=>(0≤z.a∧z.a<((256^1:Nat):Int))∧((0≤z.b∧z.b<((256^1:Nat):Int))∧((0≤z.c∧z.c<((256^1:Nat):Int))∧(I64 z.imm∧True)))) (E:=fun z=>leB z.a 1++(leB z.b 1++(leB z.c 1++(leB z.imm 8++ [])))) (fun z:PIns=>z.op) (zcf 1) fun op _=>
  D.law_bindP (W:=fun z=>(0≤z.b∧z.b<((256^1:Nat):Int))∧((0≤z.c∧z.c<((256^1:Nat):Int))∧(I64 z.imm∧True))) (E:=fun z=>leB z.b 1++(leB z.c 1++(leB z.imm 8++ []))) (fun z:PIns=>z.a) (zcf 1) fun a _=>
  D.law_bindP (W:=fun z=>(0≤z.c∧z.c<((256^1:Nat):Int))∧(I64 z.imm∧True)) (E:=fun z=>leB z.c 1++(leB z.imm 8++ [])) (fun z:PIns=>z.b) (zcf 1) fun b _=>
  D.law_bindP (W:=fun z=>I64 z.imm∧True) (E:=fun z=>leB z.imm 8++ []) (fun z:PIns=>z.c) (zcf 1) fun c _=>
  D.law_bindP (W:=fun z=>True) (E:=fun z=> []) (fun z:PIns=>z.imm) zxj fun imm _=>
  (D.law_ret (⟨op,a,b,c,imm⟩:PIns)).congr (fun z=>⟨fun h=>by subst h;simp,fun h=>by cases z;simp at h;simp [h]⟩) fun _ _=>rfl
 refine h.congr (fun z=> ?_) fun z _=> ?_
 ·simp
 ·simp [insB]
theorem zfq {α:Type} {V:α→Prop}:∀(l acc:List α),manyV (fun _ x=>V x) acc l↔∀x∈l,V x
 | [],_=>by simp [manyV]
 | x::r,acc=>by simp [manyV,zfq r]
def InsB (x:PIns):Prop:=(0≤x.op∧x.op<256)∧(0≤x.a∧x.a<256)∧(0≤x.b∧x.b<256)∧(0≤x.c∧x.c<256)∧I64 x.imm
def ProcV (parts locks:Int) (z:PProc):Prop:=
 (0≤z.part∧z.part<256)∧rngE 0 (parts-1) z.part=0∧z.code.length≤256∧∀x∈z.code,InsB x∧(zbv x z.code.length locks).1=0
theorem zec2 (parts locks:Int):D.Law (procD parts locks) procB (ProcV parts locks):=by
 have h:=D.law_bindP (P:=fun _=>True) (W:=fun z:PProc=>((0≤(z.code.length:Int)∧(z.code.length:Int)<((256^2:Nat):Int))∧(if 256<(z.code.length:Int) then (3:Int) else 0)=0)∧(manyV (fun _ x=>InsB x∧(zbv x z.code.length locks).1=0) [] z.code∧True))
  (E:=fun z=>leB z.code.length 2++(z.code.flatMap insB++ [])) PProc.part (D.law_must (zcf 1) (rngE 0 (parts-1))) fun part _=>
  D.law_listP (d:=fun n _=>insD n locks) (v:=fun n _ x=>InsB x∧(zbv x n locks).1=0) (W:=fun _=>True) (E:=fun _=> []) PProc.code (fun n hn=>hn.1.1) (D.law_must (zcf 2) fun n=>if 256<n then (3:Int) else 0)
   (fun n _=>D.law_mustAt law_ins _) fun n l _=>(D.law_ret (⟨part,l⟩:PProc)).congr (fun z=>⟨fun h=>by subst h;simp,fun h=>by cases z;simp at h;simp [h]⟩) fun _ _=>rfl
 refine h.congr (fun z=> ?_) fun z _=> ?_
 ·rw [zfq]
  unfold ProcV
  have e:(if 256<(z.code.length:Int) then (3:Int) else 0)=0↔z.code.length≤256:=by
   by_cases h:256<(z.code.length:Int)
   ·rw [if_pos h];omega
   ·rw [if_neg h];omega
  rw [e]
  constructor
  ·rintro ⟨_,⟨h1,h2⟩,⟨h3,h4⟩,h5,_⟩
   exact ⟨h1,h2,h4,h5⟩
  ·rintro ⟨h1,h2,h4,h5⟩
   exact ⟨trivial,⟨h1,h2⟩,⟨⟨by omega,by show _<(65536:Int);omega⟩,h4⟩,h5,trivial⟩
 ·simp [procB,codeB]
end Lf

namespace Lf
open D (manyV)
abbrev By (k:Nat) (x:Int):Prop:=0≤x∧x<((256^k:Nat):Int)
abbrev CfgV2 (nl locks:Int) (z:PCfg):Prop:=(By 2 z.log∧rngE 0 4096 z.log=0)∧((By 1 z.procs.length∧cntE 32 z.procs.length=0)∧(manyV (fun _ p=>ProcV nl locks p) [] z.procs∧True))
abbrev CfgV1 (nl:Int) (z:PCfg):Prop:=
 (By 1 z.table.length∧cntE 64 z.table.length=0)∧(manyV (fun _ x=>By 1 x∧rngE 0 (nl-1) x=0) [] z.table∧((By 2 z.fuel∧rngE 1 256 z.fuel=0)∧((By 1 z.lane∧rngE 1 64 z.lane=0)∧((By 1 z.locks∧rngE 0 8 z.locks=0)∧CfgV2 nl z.locks z))))
abbrev CfgV (z:PCfg):Prop:=(By 1 z.labels.length∧cntE 8 z.labels.length=0)∧(manyV (fun acc a=>By 8 a∧labE acc a=0) [] z.labels∧CfgV1 z.labels.length z)
theorem zbh1 :D.Law zpg cfgB CfgV:=by
 have h2:∀(labels table:List Int) (fuel lane:Int) (nl locks:Int),D.Law (D.bind (D.must (zD 2) (rngE 0 4096)) fun log=>D.bind (D.must (zD 1) (cntE 32)) fun np=>D.bind (D.many (fun _=>procD nl locks) np.toNat []) fun procs=>D.ret (⟨labels,table,fuel,lane,locks,log,procs⟩:PCfg))
   (fun z=>leB z.log 2++(leB z.procs.length 1++(z.procs.flatMap procB++ []))) (fun z=>(z.locks=locks∧(z.lane=lane∧(z.fuel=fuel∧(z.table=table∧(z.labels=labels∧True)))))∧CfgV2 nl locks z):=fun labels table fuel lane nl locks=>
  D.law_bindP (γ:=PCfg) (P:=fun z=>z.locks=locks∧(z.lane=lane∧(z.fuel=fuel∧(z.table=table∧(z.labels=labels∧True))))) (W:=fun z=>(By 1 z.procs.length∧cntE 32 z.procs.length=0)∧(manyV (fun _ p=>ProcV nl locks p) [] z.procs∧True))
   (E:=fun z=>leB z.procs.length 1++(z.procs.flatMap procB++ [])) PCfg.log (D.law_must (zcf 2) (rngE 0 4096)) fun log _=>
   D.law_listP (γ:=PCfg) (d:=fun _ _=>procD nl locks) (v:=fun _ _ p=>ProcV nl locks p) (W:=fun _=>True) (E:=fun _=> []) PCfg.procs (fun n hn=>hn.1.1) (D.law_must (zcf 1) (cntE 32)) (fun _ _=>zec2 nl locks) fun n l _=>
   (D.law_ret (⟨labels,table,fuel,lane,locks,log,l⟩:PCfg)).congr (fun z=>⟨fun h=>by subst h;simp,fun h=>by cases z;simp at h;simp [h]⟩) fun _ _=>rfl
 have h1:∀(labels:List Int) (nl:Int),D.Law (D.bind (D.must (zD 1) (cntE 64)) fun nt=>D.bind (D.many (fun _=>D.must (zD 1) (rngE 0 (nl-1))) nt.toNat []) fun table=>
   D.bind (D.must (zD 2) (rngE 1 256)) fun fuel=>D.bind (D.must (zD 1) (rngE 1 64)) fun lane=>D.bind (D.must (zD 1) (rngE 0 8)) fun locks=>D.bind (D.must (zD 2) (rngE 0 4096)) fun log=>
   D.bind (D.must (zD 1) (cntE 32)) fun np=>D.bind (D.many (fun _=>procD nl locks) np.toNat []) fun procs=>D.ret (⟨labels,table,fuel,lane,locks,log,procs⟩:PCfg))
   (fun z=>leB z.table.length 1++(z.table.flatMap (fun a=>leB a 1)++(leB z.fuel 2++(leB z.lane 1++(leB z.locks 1++(leB z.log 2++(leB z.procs.length 1++(z.procs.flatMap procB++ []))))))))
   (fun z=>(z.labels=labels∧True)∧CfgV1 nl z):=fun labels nl=>
  D.law_listP (γ:=PCfg) (d:=fun _ _=>D.must (zD 1) (rngE 0 (nl-1))) (v:=fun _ _ x=>By 1 x∧rngE 0 (nl-1) x=0) (P:=fun z=>z.labels=labels∧True)
   (W:=fun z=>(By 2 z.fuel∧rngE 1 256 z.fuel=0)∧((By 1 z.lane∧rngE 1 64 z.lane=0)∧((By 1 z.locks∧rngE 0 8 z.locks=0)∧CfgV2 nl z.locks z)))
   (E:=fun z=>leB z.fuel 2++(leB z.lane 1++(leB z.locks 1++(leB z.log 2++(leB z.procs.length 1++(z.procs.flatMap procB++ [])))))) PCfg.table (fun n hn=>hn.1.1) (D.law_must (zcf 1) (cntE 64)) (fun _ _=>D.law_must (zcf 1) (rngE 0 (nl-1))) fun n table _=>
   D.law_bindP (γ:=PCfg) (W:=fun z=>(By 1 z.lane∧rngE 1 64 z.lane=0)∧((By 1 z.locks∧rngE 0 8 z.locks=0)∧CfgV2 nl z.locks z)) (E:=fun z=>leB z.lane 1++(leB z.locks 1++(leB z.log 2++(leB z.procs.length 1++(z.procs.flatMap procB++ []))))) PCfg.fuel (D.law_must (zcf 2) (rngE 1 256)) fun fuel _=>
   D.law_bindP (γ:=PCfg) (W:=fun z=>(By 1 z.locks∧rngE 0 8 z.locks=0)∧CfgV2 nl z.locks z) (E:=fun z=>leB z.locks 1++(leB z.log 2++(leB z.procs.length 1++(z.procs.flatMap procB++ [])))) PCfg.lane (D.law_must (zcf 1) (rngE 1 64)) fun lane _=>
   D.law_bindP (γ:=PCfg) (W:=fun z=>CfgV2 nl z.locks z) (E:=fun z=>leB z.log 2++(leB z.procs.length 1++(z.procs.flatMap procB++ []))) PCfg.locks (D.law_must (zcf 1) (rngE 0 8)) fun locks _=>
   (h2 labels table fuel lane nl locks).congr (fun z=>and_congr_right fun h=>by rw [h.1]) fun _ _=>rfl
 have h0:=D.law_bind (g:=fun _:PCfg=>()) (v2:=fun _ z=>True∧CfgV z) (e2:=fun _ z=>leB z.labels.length 1++(z.labels.flatMap (fun a=>leB a 8)++(leB z.table.length 1++(z.table.flatMap (fun a=>leB a 1)++(leB z.fuel 2++(leB z.lane 1++(leB z.locks 1++(leB z.log 2++(leB z.procs.length 1++(z.procs.flatMap procB++ []))))))))))
  (fun x z _ _=>rfl) (zpe1 [70,66,67,70,1]) fun _ _=>
  D.law_listP (γ:=PCfg) (d:=fun _ acc=>D.must (zD 8) (labE acc)) (v:=fun _ acc a=>By 8 a∧labE acc a=0) (P:=fun _=>True) (W:=fun z=>CfgV1 z.labels.length z)
   (E:=fun z=>leB z.table.length 1++(z.table.flatMap (fun a=>leB a 1)++(leB z.fuel 2++(leB z.lane 1++(leB z.locks 1++(leB z.log 2++(leB z.procs.length 1++(z.procs.flatMap procB++ [])))))))) PCfg.labels (fun n hn=>hn.1.1) (D.law_must (zcf 1) (cntE 8)) (fun _ acc=>D.law_must (zcf 8) (labE acc)) fun nl labels hl=>
   (h1 labels nl).congr (fun z=>and_congr_right fun h=>by rw [h.1,hl]) fun _ _=>rfl
 refine h0.congr (fun z=>by simp) fun z _=> ?_
 simp [cfgB]
end Lf

namespace Lf
open D (manyV)
def zow (e:ziy):List UInt8:=leB e.tick 8++(leB e.proc 1++leB e.value 8)
def ziz (w:PWaiter):List UInt8:=leB w.proc 1++leB w.value 8
def laneB (l:PLane):List UInt8:=leB l.values.length 1++(l.values.flatMap (fun v=>leB v 8)++(leB l.waiters.length 1++(l.waiters.flatMap ziz++(leB l.taken 2++leB l.dropped 2))))
def lockB (x:Int×List Int):List UInt8:=leB (x.1+1) 1++(leB x.2.length 1++x.2.flatMap fun p=>leB p 1)
def zup (b:Bool):Int:=if b=true then 1 else 0
def zie (x:PProcess):List UInt8:=
 leB x.state 1++(leB x.pc 2++(x.regs.flatMap (fun v=>leB v 8)++(leB x.cursor 1++(leB x.timer 8++(leB (zup x.fired) 1++(leB x.wake 8++x.lanes.flatMap laneB))))))
def partB (x:PPart):List UInt8:=
 leB x.cursor 1++(leB x.log.length 2++(x.log.flatMap zow++(leB x.lost 2++(leB x.forbidden 2++(x.owners.zip x.queues).flatMap lockB))))
def snapB (c:PCfg) (s:PState):List UInt8:=
 [70,66,83,78,1]++(leB (cfgB c).length 4++(cfgB c++(leB s.tick 8++(s.parts.flatMap partB++s.procs.flatMap zie))))
def iD :D Int:=D.map i64 (D.num 8)
def mostE (most:Int) (n:Int):Int:=if most<n then 3 else 0
def zig1 :D ziy:=D.bind iD fun tick=>D.bind (zD 1) fun proc=>D.bind iD fun value=>D.ret ⟨tick,proc,value⟩
def zxk :D PWaiter:=D.bind (zD 1) fun proc=>D.bind iD fun value=>D.ret ⟨proc,value⟩
def laneD (lane np:Int):D PLane:=D.bind (D.must (zD 1) (mostE lane)) fun n=>D.bind (D.many (fun _=>iD) n.toNat []) fun values=>
 D.bind (D.must (zD 1) (mostE np)) fun m=>D.bind (D.many (fun _=>zxk) m.toNat []) fun waiters=>D.bind (zD 2) fun taken=>D.bind (zD 2) fun dropped=>D.ret ⟨values,waiters,taken,dropped⟩
theorem zba2 :D.Law zig1 zow fun z=>I64 z.tick∧By 1 z.proc∧I64 z.value:=by
 have h:=D.law_bindP (P:=fun _=>True) (W:=fun z=>By 1 z.proc∧(I64 z.value∧True)) (E:=fun z=>leB z.proc 1++(leB z.value 8++ [])) (fun z:ziy=>z.tick) zxj fun tick _=>
  D.law_bindP (W:=fun z=>I64 z.value∧True) (E:=fun z=>leB z.value 8++ []) (fun z:ziy=>z.proc) (zcf 1) fun proc _=>
  D.law_bindP (W:=fun z=>True) (E:=fun z=> []) (fun z:ziy=>z.value) zxj fun value _=>
  (D.law_ret (⟨tick,proc,value⟩:ziy)).congr (fun z=>⟨fun h=>by subst h;simp,fun h=>by cases z;simp at h;simp [h]⟩) fun _ _=>rfl
 refine h.congr (fun z=> ?_) fun z _=> ?_
 ·simp
 ·simp [zow]
theorem zyg1 :D.Law zxk ziz fun z=>By 1 z.proc∧I64 z.value:=by
 have h:=D.law_bindP (P:=fun _=>True) (W:=fun z=>I64 z.value∧True) (E:=fun z=>leB z.value 8++ []) (fun z:PWaiter=>z.proc) (zcf 1) fun proc _=>
  D.law_bindP (W:=fun z=>True) (E:=fun z=> []) (fun z:PWaiter=>z.value) zxj fun value _=>
  (D.law_ret (⟨proc,value⟩:PWaiter)).congr (fun z=>⟨fun h=>by subst h;simp,fun h=>by cases z;simp at h;simp [h]⟩) fun _ _=>rfl
 refine h.congr (fun z=> ?_) fun z _=> ?_
 ·simp
 ·simp [ziz]
def LaneV (lane np:Int) (z:PLane):Prop:=
 (By 1 z.values.length∧mostE lane z.values.length=0)∧(manyV (fun _ v=>I64 v) [] z.values∧((By 1 z.waiters.length∧mostE np z.waiters.length=0)∧(manyV (fun _ w=>By 1 w.proc∧I64 w.value) [] z.waiters∧(By 2 z.taken∧(By 2 z.dropped∧True)))))
theorem zed2 (lane np:Int):D.Law (laneD lane np) laneB (LaneV lane np):=by
 have h:=D.law_listP (γ:=PLane) (d:=fun _ _=>iD) (v:=fun _ _ v=>I64 v) (P:=fun _=>True) (W:=fun z=>(By 1 z.waiters.length∧mostE np z.waiters.length=0)∧(manyV (fun _ w=>By 1 w.proc∧I64 w.value) [] z.waiters∧(By 2 z.taken∧(By 2 z.dropped∧True))))
  (E:=fun z=>leB z.waiters.length 1++(z.waiters.flatMap ziz++(leB z.taken 2++(leB z.dropped 2++ [])))) PLane.values (fun n hn=>hn.1.1) (D.law_must (zcf 1) (mostE lane)) (fun _ _=>zxj) fun n values _=>
  D.law_listP (γ:=PLane) (d:=fun _ _=>zxk) (v:=fun _ _ w=>By 1 w.proc∧I64 w.value) (P:=fun z=>z.values=values∧True) (W:=fun z=>By 2 z.taken∧(By 2 z.dropped∧True)) (E:=fun z=>leB z.taken 2++(leB z.dropped 2++ [])) PLane.waiters (fun n hn=>hn.1.1) (D.law_must (zcf 1) (mostE np)) (fun _ _=>zyg1) fun m waiters _=>
  D.law_bindP (γ:=PLane) (W:=fun z=>By 2 z.dropped∧True) (E:=fun z=>leB z.dropped 2++ []) PLane.taken (zcf 2) fun taken _=>
  D.law_bindP (γ:=PLane) (W:=fun z=>True) (E:=fun z=> []) PLane.dropped (zcf 2) fun dropped _=>
  (D.law_ret (⟨values,waiters,taken,dropped⟩:PLane)).congr (fun z=>⟨fun h=>by subst h;simp,fun h=>by cases z;simp at h;simp [h]⟩) fun _ _=>rfl
 refine h.congr (fun z=> ?_) fun z _=> ?_
 ·exact ⟨fun h=>h.2,fun h=>⟨trivial,h⟩⟩
 ·simp [laneB]
def less (n:Int):Int:=n-1
def lockD (np:Int):D (Int×List Int):=D.bind (D.map less (zD 1)) fun o=>D.bind (D.must (zD 1) (mostE np)) fun n=>D.bind (D.many (fun _=>zD 1) n.toNat []) fun q=>D.ret (o,q)
theorem zee2 :D.Law (D.map less (zD 1)) (fun o=>leB (o+1) 1) (fun o=>By 1 (o+1)):=
 D.law_map less (zcf 1) (fun y=>⟨fun h=>⟨y+1,h,by unfold less;omega⟩,by rintro ⟨x,hx,rfl⟩;unfold less;rw [Int.sub_add_cancel];exact hx⟩) fun x _=>by unfold less;rw [Int.sub_add_cancel]
def LockV (np:Int) (z:Int×List Int):Prop:=By 1 (z.1+1)∧((By 1 z.2.length∧mostE np z.2.length=0)∧(manyV (fun _ p=>By 1 p) [] z.2∧True))
theorem zef2 (np:Int):D.Law (lockD np) lockB (LockV np):=by
 have h:=D.law_bindP (γ:=Int×List Int) (P:=fun _=>True) (W:=fun z=>(By 1 z.2.length∧mostE np z.2.length=0)∧(manyV (fun _ p=>By 1 p) [] z.2∧True)) (E:=fun z=>leB z.2.length 1++(z.2.flatMap (fun p=>leB p 1)++ [])) Prod.fst zee2 fun o _=>
  D.law_listP (γ:=Int×List Int) (d:=fun _ _=>zD 1) (v:=fun _ _ p=>By 1 p) (P:=fun z=>z.1=o∧True) (W:=fun _=>True) (E:=fun _=> []) Prod.snd (fun n hn=>hn.1.1) (D.law_must (zcf 1) (mostE np)) (fun _ _=>zcf 1) fun n q _=>
  (D.law_ret ((o,q):Int×List Int)).congr (fun z=>⟨fun h=>by subst h;simp,fun h=>by cases z;simp at h;simp [h]⟩) fun _ _=>rfl
 refine h.congr (fun z=>⟨fun h=>h.2,fun h=>⟨trivial,h⟩⟩) fun z _=> ?_
 simp [lockB]
def zgo1 (cursor:Int) (log:List ziy) (lost forbidden:Int) (l:List (Int×List Int)):PPart:=⟨cursor,log,lost,forbidden,l.map Prod.fst,l.map Prod.snd⟩
def partD (most locks np:Int):D PPart:=D.bind (zD 1) fun cursor=>D.bind (D.must (zD 2) (mostE most)) fun n=>D.bind (D.many (fun _=>zig1) n.toNat []) fun log=>D.bind (zD 2) fun lost=>D.bind (zD 2) fun forbidden=>
 D.bind (D.many (fun _=>lockD np) locks.toNat []) fun l=>D.ret (zgo1 cursor log lost forbidden l)
def PartV (most locks np:Int) (z:PPart):Prop:=
 By 1 z.cursor∧((By 2 z.log.length∧mostE most z.log.length=0)∧(manyV (fun _ e=>I64 e.tick∧By 1 e.proc∧I64 e.value) [] z.log∧(By 2 z.lost∧(By 2 z.forbidden∧
  ((∃xs,z.owners.zip z.queues=[]++xs∧xs.length=locks.toNat∧manyV (fun _=>LockV np) [] xs)∧z.owners.length=z.queues.length)))))
theorem zgs2 (cursor:Int) (log:List ziy) (lost forbidden:Int) (l:List (Int×List Int)) (z:PPart):
  z=zgo1 cursor log lost forbidden l↔(z.owners.zip z.queues=l∧(z.forbidden=forbidden∧(z.lost=lost∧(z.log=log∧(z.cursor=cursor∧True)))))∧z.owners.length=z.queues.length:=by
 constructor
 ·rintro rfl
  refine ⟨⟨?_,rfl,rfl,rfl,rfl,trivial⟩,by simp [zgo1]⟩
  show (l.map Prod.fst).zip (l.map Prod.snd)=l
  induction l with
  | nil=>rfl
  | cons x r ih=>simp [ih]
 ·obtain ⟨z1,z2,z3,z4,z5,z6⟩:=z
  rintro ⟨⟨h1,h2,h3,h4,h5,_⟩,h6⟩
  have h1:z5.zip z6=l:=h1
  have h6:z5.length=z6.length:=h6
  simp only at h2 h3 h4 h5
  subst h1 h2 h3 h4 h5
  unfold zgo1
  rw [List.map_fst_zip (by omega),List.map_snd_zip (by omega)]
theorem zeg2 (most locks np:Int):D.Law (partD most locks np) partB (PartV most locks np):=by
 have h:=D.law_bindP (γ:=PPart) (P:=fun _=>True) (W:=fun z=>(By 2 z.log.length∧mostE most z.log.length=0)∧(manyV (fun _ e=>I64 e.tick∧By 1 e.proc∧I64 e.value) [] z.log∧(By 2 z.lost∧(By 2 z.forbidden∧
   ((∃xs,z.owners.zip z.queues=[]++xs∧xs.length=locks.toNat∧manyV (fun _=>LockV np) [] xs)∧z.owners.length=z.queues.length)))))
   (E:=fun z=>leB z.log.length 2++(z.log.flatMap zow++(leB z.lost 2++(leB z.forbidden 2++(((z.owners.zip z.queues).drop 0).flatMap lockB++ []))))) PPart.cursor (zcf 1) fun cursor _=>
  D.law_listP (γ:=PPart) (d:=fun _ _=>zig1) (v:=fun _ _ e=>I64 e.tick∧By 1 e.proc∧I64 e.value) (P:=fun z=>z.cursor=cursor∧True) (W:=fun z=>By 2 z.lost∧(By 2 z.forbidden∧
   ((∃xs,z.owners.zip z.queues=[]++xs∧xs.length=locks.toNat∧manyV (fun _=>LockV np) [] xs)∧z.owners.length=z.queues.length)))
   (E:=fun z=>leB z.lost 2++(leB z.forbidden 2++(((z.owners.zip z.queues).drop 0).flatMap lockB++ []))) PPart.log (fun n hn=>hn.1.1) (D.law_must (zcf 2) (mostE most)) (fun _ _=>zba2) fun n log _=>
  D.law_bindP (γ:=PPart) (W:=fun z=>By 2 z.forbidden∧((∃xs,z.owners.zip z.queues=[]++xs∧xs.length=locks.toNat∧manyV (fun _=>LockV np) [] xs)∧z.owners.length=z.queues.length))
   (E:=fun z=>leB z.forbidden 2++(((z.owners.zip z.queues).drop 0).flatMap lockB++ [])) PPart.lost (zcf 2) fun lost _=>
  D.law_bindP (γ:=PPart) (W:=fun z=>(∃xs,z.owners.zip z.queues=[]++xs∧xs.length=locks.toNat∧manyV (fun _=>LockV np) [] xs)∧z.owners.length=z.queues.length)
   (E:=fun z=>((z.owners.zip z.queues).drop 0).flatMap lockB++ []) PPart.forbidden (zcf 2) fun forbidden _=>
  D.law_bindP (γ:=PPart) (W:=fun z=>z.owners.length=z.queues.length) (E:=fun _=> []) (fun z=>z.owners.zip z.queues) (D.law_many (fun _=>zef2 np) locks.toNat []) fun l _=>
  (D.law_ret (zgo1 cursor log lost forbidden l)).congr (fun z=>zgs2 cursor log lost forbidden l z) fun _ _=>rfl
 refine h.congr (fun z=>⟨fun h=>h.2,fun h=>⟨trivial,h⟩⟩) fun z _=> ?_
 simp [partB]
def isOne (n:Int):Bool:=decide (n=1)
def yesE (n:Int):Int:=if 1<n then 4 else 0
theorem zbb2 :D.Law (D.map isOne (D.must (zD 1) yesE)) (fun b=>leB (zup b) 1) (fun _=>True):=by
 refine D.law_map isOne (D.law_must (zcf 1) yesE) (fun y=>⟨fun _=> ?_,fun _=>trivial⟩) fun x hx=> ?_
 ·cases y with
  | true=>exact ⟨1,⟨⟨by decide,by decide⟩,by decide⟩,by decide⟩
  | false=>exact ⟨0,⟨⟨by decide,by decide⟩,by decide⟩,by decide⟩
 ·obtain ⟨⟨h1,_⟩,h2⟩:=hx
  unfold yesE at h2
  have:x=0∨x=1:=by
   by_cases h:1<x
   ·rw [if_pos h] at h2;cases h2
   ·omega
  rcases this with rfl | rfl<;>rfl
def zas1 (nl:Nat) (lane np:Int):D PProcess:=D.bind (zD 1) fun state=>D.bind (zD 2) fun pc=>D.bind (D.many (fun _=>iD) 8 []) fun regs=>D.bind (zD 1) fun cursor=>D.bind iD fun timer=>
 D.bind (D.map isOne (D.must (zD 1) yesE)) fun fired=>D.bind iD fun wake=>D.bind (D.many (fun _=>laneD lane np) (nl+1) []) fun lanes=>D.ret ⟨state,pc,regs,cursor,timer,fired,wake,lanes⟩
abbrev ManyV {α:Type} (V:α→Prop) (n:Nat) (l:List α):Prop:=∃xs,l=[]++xs∧xs.length=n∧manyV (fun _=>V) [] xs
def zrg1 (nl:Nat) (lane np:Int) (z:PProcess):Prop:=
 By 1 z.state∧(By 2 z.pc∧(ManyV I64 8 z.regs∧(By 1 z.cursor∧(I64 z.timer∧(True∧(I64 z.wake∧(ManyV (LaneV lane np) (nl+1) z.lanes∧True)))))))
theorem zbc2 (nl:Nat) (lane np:Int):D.Law (zas1 nl lane np) zie (zrg1 nl lane np):=by
 have h:=D.law_bindP (γ:=PProcess) (P:=fun _=>True) (W:=fun z=>By 2 z.pc∧(ManyV I64 8 z.regs∧(By 1 z.cursor∧(I64 z.timer∧(True∧(I64 z.wake∧(ManyV (LaneV lane np) (nl+1) z.lanes∧True)))))))
   (E:=fun z=>leB z.pc 2++((z.regs.drop 0).flatMap (fun v=>leB v 8)++(leB z.cursor 1++(leB z.timer 8++(leB (zup z.fired) 1++(leB z.wake 8++((z.lanes.drop 0).flatMap laneB++ []))))))) PProcess.state (zcf 1) fun state _=>
  D.law_bindP (γ:=PProcess) (W:=fun z=>ManyV I64 8 z.regs∧(By 1 z.cursor∧(I64 z.timer∧(True∧(I64 z.wake∧(ManyV (LaneV lane np) (nl+1) z.lanes∧True))))))
   (E:=fun z=>(z.regs.drop 0).flatMap (fun v=>leB v 8)++(leB z.cursor 1++(leB z.timer 8++(leB (zup z.fired) 1++(leB z.wake 8++((z.lanes.drop 0).flatMap laneB++ [])))))) PProcess.pc (zcf 2) fun pc _=>
  D.law_bindP (γ:=PProcess) (W:=fun z=>By 1 z.cursor∧(I64 z.timer∧(True∧(I64 z.wake∧(ManyV (LaneV lane np) (nl+1) z.lanes∧True)))))
   (E:=fun z=>leB z.cursor 1++(leB z.timer 8++(leB (zup z.fired) 1++(leB z.wake 8++((z.lanes.drop 0).flatMap laneB++ []))))) PProcess.regs (D.law_many (fun _=>zxj) 8 []) fun regs _=>
  D.law_bindP (γ:=PProcess) (W:=fun z=>I64 z.timer∧(True∧(I64 z.wake∧(ManyV (LaneV lane np) (nl+1) z.lanes∧True))))
   (E:=fun z=>leB z.timer 8++(leB (zup z.fired) 1++(leB z.wake 8++((z.lanes.drop 0).flatMap laneB++ [])))) PProcess.cursor (zcf 1) fun cursor _=>
  D.law_bindP (γ:=PProcess) (W:=fun z=>True∧(I64 z.wake∧(ManyV (LaneV lane np) (nl+1) z.lanes∧True)))
   (E:=fun z=>leB (zup z.fired) 1++(leB z.wake 8++((z.lanes.drop 0).flatMap laneB++ []))) PProcess.timer zxj fun timer _=>
  D.law_bindP (γ:=PProcess) (W:=fun z=>I64 z.wake∧(ManyV (LaneV lane np) (nl+1) z.lanes∧True))
   (E:=fun z=>leB z.wake 8++((z.lanes.drop 0).flatMap laneB++ [])) PProcess.fired zbb2 fun fired _=>
  D.law_bindP (γ:=PProcess) (W:=fun z=>ManyV (LaneV lane np) (nl+1) z.lanes∧True) (E:=fun z=>(z.lanes.drop 0).flatMap laneB++ []) PProcess.wake zxj fun wake _=>
  D.law_bindP (γ:=PProcess) (W:=fun _=>True) (E:=fun _=> []) PProcess.lanes (D.law_many (fun _=>zed2 lane np) (nl+1) []) fun lanes _=>
  (D.law_ret (⟨state,pc,regs,cursor,timer,fired,wake,lanes⟩:PProcess)).congr (fun z=>⟨fun h=>by subst h;simp,fun h=>by cases z;simp at h;simp [h]⟩) fun _ _=>rfl
 refine h.congr (fun z=>⟨fun h=>h.2,fun h=>⟨trivial,h⟩⟩) fun z _=> ?_
 simp [zie]
end Lf

namespace Lf
open D (manyV)
def zrh1 (s:PState):List UInt8:=leB s.tick 8++(s.parts.flatMap partB++s.procs.flatMap zie)
def zkr1 (c:PCfg):D PState:=D.bind iD fun tick=>D.bind (D.many (fun _=>partD c.log c.locks c.procs.length) c.labels.length []) fun parts=>
 D.bind (D.many (fun _=>zas1 c.labels.length c.lane c.procs.length) c.procs.length []) fun procs=>D.ret ⟨tick,parts,procs⟩
def StateV (c:PCfg) (z:PState):Prop:=I64 z.tick∧(ManyV (PartV c.log c.locks c.procs.length) c.labels.length z.parts∧(ManyV (zrg1 c.labels.length c.lane c.procs.length) c.procs.length z.procs∧True))
theorem zbd2 (c:PCfg):D.Law (zkr1 c) zrh1 (StateV c):=by
 have h:=D.law_bindP (γ:=PState) (P:=fun _=>True) (W:=fun z=>ManyV (PartV c.log c.locks c.procs.length) c.labels.length z.parts∧(ManyV (zrg1 c.labels.length c.lane c.procs.length) c.procs.length z.procs∧True))
   (E:=fun z=>(z.parts.drop 0).flatMap partB++((z.procs.drop 0).flatMap zie++ [])) PState.tick zxj fun tick _=>
  D.law_bindP (γ:=PState) (W:=fun z=>ManyV (zrg1 c.labels.length c.lane c.procs.length) c.procs.length z.procs∧True) (E:=fun z=>(z.procs.drop 0).flatMap zie++ []) PState.parts (D.law_many (fun _=>zeg2 c.log c.locks c.procs.length) c.labels.length []) fun parts _=>
  D.law_bindP (γ:=PState) (W:=fun _=>True) (E:=fun _=> []) PState.procs (D.law_many (fun _=>zbc2 c.labels.length c.lane c.procs.length) c.procs.length []) fun procs _=>
  (D.law_ret (⟨tick,parts,procs⟩:PState)).congr (fun z=>⟨fun h=>by subst h;simp,fun h=>by cases z;simp at h;simp [h]⟩) fun _ _=>rfl
 refine h.congr (fun z=>⟨fun h=>h.2,fun h=>⟨trivial,h⟩⟩) fun z _=> ?_
 simp [zrh1]
theorem zbe2 {α:Type} {d:D α} {enc:α→List UInt8} {valid:α→Prop} (L:D.Law d enc valid) {x:α} (hx:valid x) (hl:(enc x).length≤1048576):zdz d (enc x)=.ok x:=by
 have h:=L.back x hx [] []
 rw [List.append_nil,List.nil_append] at h
 unfold zdz
 rw [if_neg (by omega)]
 have h:d (enc x) 0=.ok (x,0+(enc x).length):=h
 rw [h]
 dsimp only
 rw [if_neg (by omega)]
theorem znz {α:Type} {d:D α} {enc:α→List UInt8} {valid:α→Prop} (L:D.Law d enc valid) {b:List UInt8} {x:α} (h:zdz d b=.ok x):valid x∧enc x=b∧b.length≤1048576:=by
 unfold zdz at h
 by_cases hl:1048576<b.length
 ·rw [if_pos hl] at h;cases h
 ·rw [if_neg hl] at h
  cases hd:d b 0 with
  | error e=>rw [hd] at h;cases h
  | ok p=>
   obtain ⟨y,at2⟩:=p
   rw [hd] at h
   dsimp only at h
   by_cases hr:at2<b.length
   ·rw [if_pos hr] at h;cases h
   ·rw [if_neg hr] at h
    cases h
    obtain ⟨h1,h2,t,h3⟩:=L.sound b 0 _ at2 hd (Nat.zero_le _)
    rw [List.drop_zero] at h3
    have h4:=congrArg List.length h3
    rw [List.length_append] at h4
    have h5:t=[]:=List.length_eq_zero_iff.1 (by omega)
    rw [h5,List.append_nil] at h3
    exact ⟨h1,h3.symm,by omega⟩
def zcg :D PCfg:=fun b at_=>match D.num 4 b at_ with
 | .error e=>.error e
 | .ok (n,at2)=>if b.length<at2+n then .error (5,b.length) else match zdm ((b.drop at2).take n) with
  | .error (e,p)=>.error (e,at2+p)
  | .ok c=>.ok (c,at2+n)
theorem zgt2 :D.Law zcg (fun c=>leB (cfgB c).length 4++cfgB c) (fun c=>CfgV c∧(cfgB c).length≤1048576) where
 back:=fun c hc u t=>by
  obtain ⟨h1,h2⟩:=hc
  have ha:=(D.law_num 4).back (cfgB c).length (show (cfgB c).length<4294967296 by omega) u (cfgB c++t)
  unfold zcg
  rw [List.append_assoc,ha]
  dsimp only
  have hl:(leB ((cfgB c).length:Int) 4).length=4:=zaf _ _
  rw [if_neg (by simp [hl];omega)]
  have e:((u++(leB ((cfgB c).length:Int) 4++(cfgB c++t))).drop (u.length+(leB ((cfgB c).length:Int) 4).length)).take (cfgB c).length=cfgB c:=by
   rw [←List.append_assoc,←List.length_append,List.drop_left,List.take_left]
  rw [e]
  have hw:zdm (cfgB c)=.ok c:=zbe2 zbh1 h1 h2
  rw [hw]
  dsimp only
  rw [List.length_append,Nat.add_assoc]
 sound:=fun b at_ c at3 h ha=>by
  unfold zcg at h
  cases hn:D.num 4 b at_ with
  | error e=>rw [hn] at h;cases h
  | ok p=>
   obtain ⟨n,at2⟩:=p
   rw [hn] at h
   dsimp only at h
   obtain ⟨g1,g2,t,g3⟩:=(D.law_num 4).sound b at_ n at2 hn ha
   by_cases hc:b.length<at2+n
   ·rw [if_pos hc] at h;cases h
   ·rw [if_neg hc] at h
    cases hw:zdm ((b.drop at2).take n) with
    | error e=>rw [hw] at h;cases h
    | ok x=>
     rw [hw] at h
     dsimp only at h
     cases h
     obtain ⟨k1,k2,k3⟩:=znz zbh1 hw
     have hl:((b.drop at2).take n).length=n:=by rw [List.length_take,List.length_drop];omega
     rw [←k2] at hl k3
     refine ⟨⟨k1,k3⟩,?_,(b.drop at2).drop n,?_⟩
     ·rw [List.length_append,hl];omega
     ·have g4:b.drop at2=t:=by
       rw [g2,←List.drop_drop,g3,List.drop_left]
      rw [hl,g3,List.append_assoc]
      congr 1
      rw [k2,List.take_append_drop,g4]
 cut:=fun c hc u t r he hr=>by
  obtain ⟨h1,h2⟩:=hc
  have hl:(leB ((cfgB c).length:Int) 4).length=4:=zaf _ _
  unfold zcg
  by_cases ht:t.length<4
  ·obtain ⟨r1,hr1⟩:∃r1,leB ((cfgB c).length:Int) 4=t++r1:=by
    have hp:t<+:leB ((cfgB c).length:Int) 4:=List.prefix_of_prefix_length_le ⟨r,he.symm⟩ (List.prefix_append _ _) (by omega)
    obtain ⟨r1,hr1⟩:=hp
    exact ⟨r1,hr1.symm⟩
   have hne:r1≠ []:=fun e=>by
    rw [e,List.append_nil] at hr1
    rw [hr1] at hl
    omega
   rw [(D.law_num 4).cut (cfgB c).length (show (cfgB c).length<4294967296 by omega) u t r1 hr1 hne]
  ·obtain ⟨t2,rfl⟩:∃t2,t=leB ((cfgB c).length:Int) 4++t2:=by
    have hp:leB ((cfgB c).length:Int) 4<+:t:=List.prefix_of_prefix_length_le (List.prefix_append _ _) ⟨r,he.symm⟩ (by omega)
    obtain ⟨t2,ht2⟩:=hp
    exact ⟨t2,ht2.symm⟩
   have he2:cfgB c=t2++r:=by
    rw [List.append_assoc] at he
    exact List.append_cancel_left he
   have h3:=congrArg List.length he2
   rw [List.length_append] at h3
   have:0<r.length:=List.length_pos_iff.2 hr
   rw [(D.law_num 4).back (cfgB c).length (show (cfgB c).length<4294967296 by omega) u t2]
   dsimp only
   rw [if_pos (by simp [hl];omega)]
   simp
def snapD :D (PCfg×PState):=D.bind (markD [70,66,83,78,1]) fun _=>D.bind zcg fun c=>D.bind (zkr1 c) fun s=>D.ret (c,s)
theorem zeh2 (c:PCfg) (s:PState):snapB c s=[70,66,83,78,1]++((leB (cfgB c).length 4++cfgB c)++zrh1 s):=by
 simp [snapB,zrh1]
theorem law_snap :D.Law snapD (fun z=>snapB z.1 z.2) (fun z=>(CfgV z.1∧(cfgB z.1).length≤1048576)∧StateV z.1 z.2):=by
 have h1:=D.law_seq (γ:=PCfg×PState) (d2:=zkr1) (e2:=fun _=>zrh1) Prod.mk id (fun _ _ _ _=>rfl) (fun _=>rfl) zgt2 fun c _=>zbd2 c
 have h2:=D.law_bind (g:=fun _:PCfg×PState=>()) (fun _ _ _ _=>rfl) (zpe1 [70,66,83,78,1]) fun _ _=>h1
 refine h2.congr (fun z=>⟨fun h=>h.2,fun h=>⟨trivial,h⟩⟩) fun z _=> ?_
 rw [zeh2]
 rfl
end Lf

namespace Lf
open D (manyV)
theorem rngE_zero {a b n:Int}:rngE a b n=0↔a≤n∧n≤b:=by
 unfold rngE within
 by_cases h1:a≤n
 ·by_cases h2:n≤b
  ·simp [h1,h2]
  ·simp [h1,h2]
 ·simp [h1]
theorem within_true {a b n:Int}:within n a b=true↔a≤n∧n≤b:=by
 unfold within
 simp
theorem within_false {a b n:Int}:within n a b=false↔¬(a≤n∧n≤b):=by
 rw [←Bool.not_eq_true,within_true]
theorem cntE_zero {m n:Int}:cntE m n=0↔n≠0∧n≤m:=by
 unfold cntE
 by_cases h:n=0
 ·simp [h]
 ·rw [if_neg h]
  by_cases h2:m<n
  ·rw [if_pos h2];omega
  ·rw [if_neg h2];omega
theorem zbf2 {acc:List Int} {a:Int}:labE acc a=0↔∀x,acc.getLast?=some x→x<a:=by
 unfold labE
 cases h:acc.getLast? with
 | none=>simp
 | some l=>
  dsimp only
  by_cases h1:a=l
  ·rw [if_pos h1]
   exact ⟨fun e=>(by cases e),fun e=>by have:=e l rfl;omega⟩
  ·rw [if_neg h1]
   by_cases h2:a<l
   ·rw [if_pos h2]
    exact ⟨fun e=>(by cases e),fun e=>by have:=e l rfl;omega⟩
   ·rw [if_neg h2]
    refine ⟨fun _ x hx=> ?_,fun _=>rfl⟩
    cases hx;omega
theorem zhv1 :∀(l acc:List Int),manyV (fun acc a=>By 8 a∧labE acc a=0) acc l↔(∀a∈l,By 8 a)∧l.Pairwise (· < ·)∧∀x,acc.getLast?=some x→∀a∈l,x<a
 | [],acc=>by simp [manyV]
 | a::r,acc=>by
  have ih:=zhv1 r (acc++ [a])
  have hl:(acc++ [a]).getLast?=some a:=by simp
  simp only [manyV]
  rw [ih,zbf2,List.pairwise_cons]
  constructor
  ·rintro ⟨⟨h1,h2⟩,h3,h4,h5⟩
   have h6:=h5 a hl
   refine ⟨fun y hy=> ?_,⟨h6,h4⟩,fun x hx y hy=> ?_⟩
   ·rcases List.mem_cons.1 hy with rfl | hy
    ·exact h1
    ·exact h3 y hy
   ·have:=h2 x hx
    rcases List.mem_cons.1 hy with rfl | hy
    ·exact this
    ·have:=h6 y hy;omega
  ·rintro ⟨h1,⟨h2,h3⟩,h4⟩
   refine ⟨⟨h1 a (List.mem_cons_self ..),fun x hx=>h4 x hx a (List.mem_cons_self ..)⟩,fun y hy=>h1 y (List.mem_cons_of_mem _ hy),h3,fun x hx y hy=> ?_⟩
   rw [hl] at hx
   cases hx
   exact h2 y hy
theorem regP_zero {has:Bool} {n:Int}:regP has n=0↔(has=false→n=0)∧0≤n∧n<8:=by
 unfold regP
 cases has with
 | true=>
  rw [if_neg (by simp)]
  by_cases h:n<0∨8≤n
  ·rw [if_pos h];simp;omega
  ·rw [if_neg h];simp;omega
 | false=>
  by_cases h0:n=0
  ·subst h0;simp
  ·rw [if_pos ⟨rfl,h0⟩];simp [h0]
theorem zbg2 {x:PIns} {n locks:Int} (h:(zbv x n locks).1=0):(0≤x.op∧x.op<34)∧(0≤x.a∧x.a<8)∧(0≤x.b∧x.b<8)∧(0≤x.c∧x.c<8):=by
 unfold zbv at h
 by_cases h1:x.op<0∨34≤x.op
 ·rw [if_pos h1] at h;cases h
 rw [if_neg h1] at h
 by_cases h2:regP (zba x.op).1 x.a≠0
 ·rw [if_pos h2] at h;exact absurd h h2
 rw [if_neg h2] at h
 by_cases h3:regP (zba x.op).2.1 x.b≠0
 ·rw [if_pos h3] at h;exact absurd h h3
 rw [if_neg h3] at h
 by_cases h4:regP (zba x.op).2.2.1 x.c≠0
 ·rw [if_pos h4] at h;exact absurd h h4
 have g2:=(regP_zero.1 (Decidable.not_not.1 h2)).2
 have g3:=(regP_zero.1 (Decidable.not_not.1 h3)).2
 have g4:=(regP_zero.1 (Decidable.not_not.1 h4)).2
 exact ⟨by omega,g2,g3,g4⟩
theorem zmy1 {n locks:Int}:∀ {l:List PIns} {i:Int},(codeR n locks l i).1=0↔∀x∈l,(zbv x n locks).1=0
 | [],i=>by simp [codeR]
 | x::r,i=>by
  simp only [codeR]
  by_cases h:(zbv x n locks).1=0
  ·rw [if_neg (fun hh=>hh h),zmy1]
   simp [h]
  ·rw [if_pos h]
   simp [h]
theorem zfr {l:List PIns} {locks:Int} (hl:0≤locks∧locks≤8):(codeP l locks).1=0↔l.length≤256∧∀x∈l,(zbv x l.length locks).1=0:=by
 unfold codeP
 rw [if_neg (by omega)]
 by_cases h:256<l.length
 ·rw [if_pos h]
  exact ⟨fun e=>(by cases e),fun e=>by omega⟩
 ·rw [if_neg h,zmy1]
  exact ⟨fun e=>⟨by omega,e⟩,fun e=>e.2⟩
theorem zks1 {parts locks:Int}:∀ {l:List PProc} {i:Int},(zsn parts locks l i).1=0↔∀p∈l,(0≤p.part∧p.part≤parts-1)∧(codeP p.code locks).1=0
 | [],i=>by simp [zsn]
 | p::r,i=>by
  simp only [zsn]
  by_cases h1:within p.part 0 (parts-1)=false
  ·rw [if_pos h1]
   have:=within_false.1 h1
   exact ⟨fun e=>(by cases e),fun e=>absurd (e p (List.mem_cons_self ..)).1 this⟩
  ·rw [if_neg h1]
   have g1:=within_true.1 (Bool.not_eq_false _▸h1:within p.part 0 (parts-1)=true)
   by_cases h2:(codeP p.code locks).1=0
   ·rw [if_neg (fun hh=>hh h2),zks1]
    simp [h2,g1]
   ·rw [if_pos h2]
    exact ⟨fun e=>absurd e h2,fun e=>absurd (e p (List.mem_cons_self ..)).2 h2⟩
def LabOK (l:List Int):Prop:=l≠ []∧l.length≤8∧l.Pairwise (· < ·)
def Typed (c:PCfg):Prop:=(∀a∈c.labels,By 8 a)∧∀p∈c.procs,∀x∈p.code,I64 x.imm
theorem cfgP_zero {m:Int} {c:PCfg}:(cfgP m c).1=0↔m=0∧c.table≠ []∧c.table.length≤64∧(∀x∈c.table,0≤x∧x≤c.labels.length-1)∧(1≤c.fuel∧c.fuel≤256)∧(1≤c.lane∧c.lane≤64)∧(0≤c.locks∧c.locks≤8)∧
  (0≤c.log∧c.log≤4096)∧c.procs≠ []∧c.procs.length≤32∧∀p∈c.procs,(0≤p.part∧p.part≤c.labels.length-1)∧(codeP p.code c.locks).1=0:=by
 unfold cfgP
 by_cases h0:m=0
 case neg=>rw [if_pos h0];exact ⟨fun e=>absurd e h0,fun e=>absurd e.1 h0⟩
 rw [if_neg (fun hh=>hh h0)]
 by_cases h1:c.table=[]
 ·rw [if_pos h1];exact ⟨fun e=>(by cases e),fun e=>absurd h1 e.2.1⟩
 rw [if_neg h1]
 by_cases h2:64<c.table.length
 ·rw [if_pos h2];exact ⟨fun e=>(by cases e),fun e=>(by have:=e.2.2.1;omega)⟩
 rw [if_neg h2]
 by_cases h3:c.table.all (fun p=>within p 0 (c.labels.length-1))=false
 ·rw [if_pos h3]
  refine ⟨fun e=>(by cases e),fun e=> ?_⟩
  have:c.table.all (fun p=>within p 0 (c.labels.length-1))=true:=List.all_eq_true.2 fun x hx=>within_true.2 (e.2.2.2.1 x hx)
  rw [this] at h3;cases h3
 rw [if_neg h3]
 have g3:∀x∈c.table,0≤x∧x≤c.labels.length-1:=fun x hx=>within_true.1 (List.all_eq_true.1 (Bool.not_eq_false _▸h3:c.table.all (fun p=>within p 0 (c.labels.length-1))=true) x hx)
 by_cases h4:within c.fuel 1 256=false
 ·rw [if_pos h4];exact ⟨fun e=>(by cases e),fun e=>absurd e.2.2.2.2.1 (within_false.1 h4)⟩
 rw [if_neg h4]
 have g4:=within_true.1 (Bool.not_eq_false _▸h4:within c.fuel 1 256=true)
 by_cases h5:within c.lane 1 64=false
 ·rw [if_pos h5];exact ⟨fun e=>(by cases e),fun e=>absurd e.2.2.2.2.2.1 (within_false.1 h5)⟩
 rw [if_neg h5]
 have g5:=within_true.1 (Bool.not_eq_false _▸h5:within c.lane 1 64=true)
 by_cases h6:within c.locks 0 8=false
 ·rw [if_pos h6];exact ⟨fun e=>(by cases e),fun e=>absurd e.2.2.2.2.2.2.1 (within_false.1 h6)⟩
 rw [if_neg h6]
 have g6:=within_true.1 (Bool.not_eq_false _▸h6:within c.locks 0 8=true)
 by_cases h7:within c.log 0 4096=false
 ·rw [if_pos h7];exact ⟨fun e=>(by cases e),fun e=>absurd e.2.2.2.2.2.2.2.1 (within_false.1 h7)⟩
 rw [if_neg h7]
 have g7:=within_true.1 (Bool.not_eq_false _▸h7:within c.log 0 4096=true)
 by_cases h8:c.procs=[]
 ·rw [if_pos h8];exact ⟨fun e=>(by cases e),fun e=>absurd h8 e.2.2.2.2.2.2.2.2.1⟩
 rw [if_neg h8]
 by_cases h9:32<c.procs.length
 ·rw [if_pos h9];exact ⟨fun e=>(by cases e),fun e=>(by have:=e.2.2.2.2.2.2.2.2.2.1;omega)⟩
 rw [if_neg h9,zks1]
 exact ⟨fun e=>⟨h0,h1,by omega,g3,g4,g5,g6,g7,h8,by omega,e⟩,fun e=>e.2.2.2.2.2.2.2.2.2.2⟩
theorem zxl {m:Int} {c:PCfg} (hm:m=0↔LabOK c.labels):Typed c∧(cfgP m c).1=0↔CfgV c:=by
 rw [cfgP_zero,hm]
 have hall:∀ {α:Type} {V:α→Prop} {l:List α},manyV (fun _ x=>V x) [] l↔∀x∈l,V x:=zfq _ _
 constructor
 ·rintro ⟨⟨t1,t2⟩,⟨l1,l2,l3⟩,a1,a2,a3,a4,a5,a6,a7,a8,a9,a10⟩
  have n1:0<c.labels.length:=List.length_pos_iff.2 l1
  have n2:0<c.table.length:=List.length_pos_iff.2 a1
  have n3:0<c.procs.length:=List.length_pos_iff.2 a8
  refine ⟨⟨⟨by omega,by show _<(256:Int);omega⟩,cntE_zero.2 (by omega)⟩,(zhv1 _ _).2 ⟨t1,l3,fun x hx=>by cases hx⟩,⟨⟨by omega,by show _<(256:Int);omega⟩,cntE_zero.2 (by omega)⟩,
   hall.2 fun x hx=>⟨⟨(a3 x hx).1,by have:=(a3 x hx).2;show _<(256:Int);omega⟩,rngE_zero.2 (a3 x hx)⟩,⟨⟨by omega,by show _<(65536:Int);omega⟩,rngE_zero.2 a4⟩,⟨⟨by omega,by show _<(256:Int);omega⟩,rngE_zero.2 a5⟩,
   ⟨⟨by omega,by show _<(256:Int);omega⟩,rngE_zero.2 a6⟩,⟨⟨by omega,by show _<(65536:Int);omega⟩,rngE_zero.2 a7⟩,⟨⟨by omega,by show _<(256:Int);omega⟩,cntE_zero.2 (by omega)⟩,hall.2 fun p hp=> ?_,trivial⟩
  obtain ⟨b1,b2⟩:=a10 p hp
  obtain ⟨b3,b4⟩:=(zfr a6).1 b2
  refine ⟨⟨b1.1,by omega⟩,rngE_zero.2 b1,b3,fun x hx=>⟨?_,b4 x hx⟩⟩
  obtain ⟨c1,c2,c3,c4⟩:=zbg2 (b4 x hx)
  exact ⟨by omega,by omega,by omega,by omega,t2 p hp x hx⟩
 ·rintro ⟨⟨_,b1⟩,b2,⟨_,b3⟩,b4,⟨_,b5⟩,⟨_,b6⟩,⟨_,b7⟩,⟨_,b8⟩,⟨_,b9⟩,b10,_⟩
  obtain ⟨c1,c2,_⟩:=(zhv1 _ _).1 b2
  have b4:=hall.1 b4
  have b10:=hall.1 b10
  have b7:=rngE_zero.1 b7
  have d1:=cntE_zero.1 b1
  have d3:=cntE_zero.1 b3
  have d9:=cntE_zero.1 b9
  refine ⟨⟨c1,fun p hp x hx=>((b10 p hp).2.2.2 x hx).1.2.2.2.2⟩,⟨fun e=> ?_,by omega,c2⟩,fun e=> ?_,by omega,fun x hx=>rngE_zero.1 (b4 x hx).2,rngE_zero.1 b5,rngE_zero.1 b6,b7,rngE_zero.1 b8,fun e=> ?_,by omega,fun p hp=> ?_⟩
  ·rw [e] at d1;exact d1.1 rfl
  ·rw [e] at d3;exact d3.1 rfl
  ·rw [e] at d9;exact d9.1 rfl
  ·obtain ⟨_,e1,e2,e3⟩:=b10 p hp
   exact ⟨rngE_zero.1 e1,(zfr b7).2 ⟨e2,fun x hx=>(e3 x hx).2⟩⟩
end Lf

namespace Lf
open D (manyV)
theorem zjb1 :∀(n:Nat) (l:List Int),l.Nodup→(∀x∈l,0≤x∧x<n)→l.length≤n
 | 0,l,_,h=>by
  cases l with
  | nil=>simp
  | cons x r=>have:=h x (List.mem_cons_self ..);omega
 | n+1,l,hn,h=>by
  by_cases hm:(n:Int)∈l
  ·have:=zjb1 n (l.erase (n:Int)) (hn.erase _) fun x hx=>by
    have h1:=h x (List.mem_of_mem_erase hx)
    have h2:x≠(n:Int):=fun e=>by
     rw [e] at hx
     exact (hn.not_mem_erase) hx
    omega
   rw [List.length_erase_of_mem hm] at this
   omega
  ·have:=zjb1 n l hn fun x hx=>by
    have h1:=h x hx
    have h2:x≠(n:Int):=fun e=>hm (e▸hx)
    omega
   omega
theorem zri1 {α:Type} (f:α→Nat):∀(l:List α) (x:α),x∈l→f x≤(l.map f).sum
 | [],_,h=>by cases h
 | y::r,x,h=>by
  rcases List.mem_cons.1 h with rfl | h
  ·simp
  ·have:=zri1 f r x h
   simp;omega
theorem zbh2 {α β:Type}:∀ {l:List α} {m:List β} {x:α×β},x∈l.zip m→∃k:Nat,l[k]?=some x.1∧m[k]?=some x.2
 | [],_,_,h=>by simp at h
 | _::_,[],_,h=>by simp at h
 | a::l,b::m,x,h=>by
  rw [List.zip_cons_cons] at h
  rcases List.mem_cons.1 h with rfl | h
  ·exact ⟨0,rfl,rfl⟩
  ·obtain ⟨k,h1,h2⟩:=zbh2 h
   exact ⟨k+1,by simpa using h1,by simpa using h2⟩
def zwo1 (s:PState):Prop:=
 I64 s.tick∧(∀x∈s.parts,∀e∈x.log,I64 e.tick∧I64 e.value)∧
 ∀x∈s.procs,x.regs.length=8∧(∀v∈x.regs,I64 v)∧I64 x.timer∧I64 x.wake∧∀l∈x.lanes,(∀v∈l.values,I64 v)∧∀w∈l.waiters,I64 w.value
structure Small (c:PCfg):Prop where
 nl:c.labels.length≤8
 np:c.procs.length≤32
 lane:c.lane≤64
 locks:0≤c.locks∧c.locks≤8
 log:c.log≤4096
 code:∀p∈c.procs,p.code.length≤256
section
variable {c:PCfg} {s:PState} {fl:Nat→Int→Prop}
theorem zmz1 {p:Int} {i:Nat} (h:ofP c p i):0≤p∧p<c.procs.length:=by
 obtain ⟨h0,y,h1,_⟩:=h
 have:=(List.getElem?_eq_some_iff.1 h1).1
 omega
theorem zwp1 (h:zrc1 c s) {p:Int} (h0:0≤p) {x:PProcess} (hx:s.procs[p.toNat]?=some x):(s.parts.map (cntQ p)).sum+(s.procs.map (cntL p)).sum≤1:=by
 have:=h.2.2 p.toNat x hx
 rw [show ((p.toNat:Nat):Int)=p by omega] at this
 rw [this]
 split<;>omega
theorem ztw1 (hlen:s.procs.length=c.procs.length) (h:zrc1 c s) {i:Nat} {x:PPart} (hx:s.parts[i]?=some x) {k:Nat} {q:List Int} (hq:x.queues[k]?=some q):q.length≤c.procs.length:=by
 have hin:∀p∈q,0≤p∧p<c.procs.length:=fun p hp=>zmz1 (h.1 i x hx k q hq p hp).1
 refine zjb1 _ q (List.nodup_iff_count.2 fun p=> ?_) hin
 by_cases hp:p∈q
 ·obtain ⟨h0,h1⟩:=hin p hp
  have hz:p.toNat<s.procs.length:=by omega
  have h2:=zwp1 h h0 (List.getElem?_eq_getElem hz)
  have h3:cntQ p x≤(s.parts.map (cntQ p)).sum:=zri1 _ _ _ (List.mem_of_getElem? hx)
  have h4:q.countP (fun z=>decide (z=p))≤cntQ p x:=zri1 (fun q:List Int=>q.countP fun z=>decide (z=p)) _ _ (List.mem_of_getElem? hq)
  have h5:List.count p q=q.countP (fun z=>decide (z=p)):=by
   unfold List.count
   congr 1
  omega
 ·rw [List.count_eq_zero_of_not_mem hp];omega
theorem zyh1 (hlen:s.procs.length=c.procs.length) (h:zrc1 c s) {r:Nat} {x:PProcess} (hx:s.procs[r]?=some x) {i:Nat} {l:PLane} (hl:x.lanes[i]?=some l):l.waiters.length≤c.procs.length:=by
 obtain ⟨y,hy⟩:=zgn1 hx hlen
 have hin:∀p∈l.waiters.map PWaiter.proc,0≤p∧p<c.procs.length:=fun p hp=>by
  obtain ⟨w,hw,rfl⟩:=List.mem_map.1 hp
  exact zmz1 (h.2.1 r x y hx hy i l hl w hw).2.1
 have:=zjb1 _ (l.waiters.map PWaiter.proc) (List.nodup_iff_count.2 fun p=> ?_) hin
 ·simpa using this
 by_cases hp:p∈l.waiters.map PWaiter.proc
 ·obtain ⟨h0,h1⟩:=hin p hp
  have hz:p.toNat<s.procs.length:=by omega
  have h2:=zwp1 h h0 (List.getElem?_eq_getElem hz)
  have h3:cntL p x≤(s.procs.map (cntL p)).sum:=zri1 _ _ _ (List.mem_of_getElem? hx)
  have h4:cntW p l≤cntL p x:=zri1 (cntW p) _ _ (List.mem_of_getElem? hl)
  have h5:List.count p (l.waiters.map PWaiter.proc)=cntW p l:=by
   unfold List.count cntW
   rw [List.countP_map]
   congr 1
  omega
 ·rw [List.count_eq_zero_of_not_mem hp];omega
theorem zkt1 {α:Type} {V:α→Prop} {n:Nat} {l:List α} (hl:l.length=n) (h:∀x∈l,V x):ManyV V n l:=⟨l,rfl,hl,(zfq _ _).2 h⟩
theorem zbi1 {m n:Int} (h:n≤m):mostE m n=0:=by
 unfold mostE
 rw [if_neg (by omega)]
theorem zbi2 (hc:Small c) (ht:zwo1 s) (h:MayG c s fl):StateV c s:=by
 obtain ⟨hS,hP,hQ,hW⟩:=h
 obtain ⟨t1,t2,t3⟩:=ht
 have hnp:=hc.np
 have hnl:=hc.nl
 refine ⟨t1,zkt1 hS.2.1 fun x hx=> ?_,zkt1 hS.2.2 fun x hx=> ?_,trivial⟩
 ·obtain ⟨i,hi⟩:=List.getElem?_of_mem hx
  obtain ⟨⟨g1,g2,g3⟩,g4,g5,g6,_,g8,g9,g10⟩:=hP i x hi
  have hlog:=hc.log
  have hmany:manyP c i≤c.procs.length:=List.length_filter_le _ _
  refine ⟨⟨g1,?_⟩,⟨⟨by omega,by show _<(65536:Int);omega⟩,zbi1 g3⟩,(zfq _ _).2 fun e he=> ?_,⟨g5.1,by have:=g5.2;show _<(65536:Int);omega⟩,⟨g6.1,by have:=g6.2;show _<(65536:Int);omega⟩,?_,by omega⟩
  ·show _<(256:Int)
   by_cases hpos:0<x.cursor
   ·have:=g2 hpos;omega
   ·omega
  ·obtain ⟨k,hk⟩:=List.getElem?_of_mem he
   obtain ⟨_,_,b3,_⟩:=ztv1 g4 k e hk
   obtain ⟨c1,c2⟩:=zmz1 b3
   exact ⟨(t2 x hx e he).1,⟨c1,by show _<(256:Int);omega⟩,(t2 x hx e he).2⟩
  ·have hlk:=hc.locks
   refine zkt1 (by rw [List.length_zip];omega) fun z hz=> ?_
   obtain ⟨k,k1,k2⟩:=zbh2 hz
   have hq:=ztw1 hS.2.2 hW hi k2
   refine ⟨?_,⟨⟨by omega,by show _<(256:Int);omega⟩,zbi1 (by omega)⟩,(zfq _ _).2 fun p hp=> ?_,trivial⟩
   ·by_cases e:z.1= -1
    ·rw [e];exact ⟨by decide,by decide⟩
    ·obtain ⟨c1,c2⟩:=zmz1 (g10 z.1 (List.mem_of_getElem? k1) e).1
     exact ⟨by omega,by show _<(256:Int);omega⟩
   ·obtain ⟨c1,c2⟩:=zmz1 (hW.1 i x hi k _ k2 p hp).1
    exact ⟨c1,by show _<(256:Int);omega⟩
 ·obtain ⟨p,hp⟩:=List.getElem?_of_mem hx
  obtain ⟨y,hy⟩:=zgn1 hp hS.2.2
  obtain ⟨g1,g2,g3,g4,g5,g6,_,_,g9,_⟩:=hQ p x y hp hy
  obtain ⟨r1,r2,r3,r4,r5⟩:=t3 x hx
  have hcode:=hc.code y (List.mem_of_getElem? hy)
  refine ⟨⟨g1.1,by show _<(256:Int);omega⟩,⟨g2.1,by show _<(65536:Int);omega⟩,zkt1 r1 r2,⟨g4.1,by show _<(256:Int);omega⟩,r3,trivial,r4,zkt1 g3 fun l hl=> ?_,trivial⟩
  obtain ⟨k,hk⟩:=List.getElem?_of_mem hl
  obtain ⟨b1,b2,b3,_⟩:=g9 k l hk
  have hs:=zyh1 hS.2.2 hW hp hk
  have hlane:=hc.lane
  refine ⟨⟨⟨by omega,by show _<(256:Int);omega⟩,zbi1 b1⟩,(zfq _ _).2 (r5 l hl).1,⟨⟨by omega,by show _<(256:Int);omega⟩,zbi1 (by omega)⟩,(zfq _ _).2 fun w hw=> ?_,⟨b2.1,by have:=b2.2;show _<(65536:Int);omega⟩,⟨b3.1,by have:=b3.2;show _<(65536:Int);omega⟩,trivial⟩
  obtain ⟨c1,c2⟩:=zmz1 (hW.2.1 p x y hp hy k l hk w hw).2.1
  exact ⟨⟨c1,by show _<(256:Int);omega⟩,(r5 l hl).2 w hw⟩
end
end Lf

namespace Lf
open D (manyV)
theorem zgp {α:Type} {f:α→List UInt8} {B:Nat}:∀(l:List α),(∀x∈l,(f x).length≤B)→(l.flatMap f).length≤l.length*B
 | [],_=>by simp
 | x::r,h=>by
  have h1:=h x (List.mem_cons_self ..)
  have h2:=zgp r fun y hy=>h y (List.mem_cons_of_mem _ hy)
  rw [List.flatMap_cons,List.length_append,List.length_cons,Nat.succ_mul]
  omega
theorem zew {α:Type} {V:α→Prop} {n:Nat} {l:List α} (h:ManyV V n l):l.length=n∧∀x∈l,V x:=by
 obtain ⟨xs,h1,h2,h3⟩:=h
 have h1:l=xs:=h1
 subst h1
 exact ⟨h2,(zfq _ _).1 h3⟩
theorem zjc1 {m n:Int} (h:mostE m n=0):n≤m:=by
 unfold mostE at h
 by_cases hh:m<n
 ·rw [if_pos hh] at h;cases h
 ·omega
theorem zei2 {lane np:Int} {l:PLane} (h:LaneV lane np l) (h1:lane≤64) (h2:np≤32):(laneB l).length≤806:=by
 obtain ⟨⟨_,a1⟩,_,⟨_,a2⟩,_⟩:=h
 have b1:=zjc1 a1
 have b2:=zjc1 a2
 have f1:=zgp (f:=fun v=>leB v 8) (B:=8) l.values fun v _=>by rw [zaf];omega
 have f2:=zgp (f:=ziz) (B:=9) l.waiters fun w _=>by simp [ziz,zaf]
 simp only [laneB,List.length_append,zaf]
 omega
theorem zej2 {nl:Nat} {lane np:Int} {x:PProcess} (h:zrg1 nl lane np x) (h0:nl≤8) (h1:lane≤64) (h2:np≤32):(zie x).length≤7339:=by
 obtain ⟨_,_,a1,_,_,_,_,a2,_⟩:=h
 obtain ⟨b1,_⟩:=zew a1
 obtain ⟨b2,b3⟩:=zew a2
 have f1:=zgp (f:=fun v=>leB v 8) (B:=8) x.regs fun v _=>by rw [zaf];omega
 have f2:=zgp (f:=laneB) (B:=806) x.lanes fun l hl=>zei2 (b3 l hl) h1 h2
 simp only [zie,List.length_append,zaf]
 omega
theorem zek2 {most locks np:Int} {x:PPart} (h:PartV most locks np x) (h0:most≤4096) (h1:0≤locks∧locks≤8) (h2:np≤32):(partB x).length≤69911:=by
 obtain ⟨_,⟨_,a1⟩,_,_,_,a2,_⟩:=h
 have b1:=zjc1 a1
 obtain ⟨b2,b3⟩:=zew (n:=locks.toNat) a2
 have f1:=zgp (f:=zow) (B:=17) x.log fun v _=>by simp [zow,zaf]
 have f2:=zgp (f:=lockB) (B:=34) (x.owners.zip x.queues) fun z hz=>by
  obtain ⟨_,⟨_,c1⟩,_⟩:=b3 z hz
  have:=zjc1 c1
  have f3:=zgp (f:=fun p=>leB p 1) (B:=1) z.2 fun v _=>by rw [zaf];omega
  simp only [lockB,List.length_append,zaf]
  omega
 simp only [partB,List.length_append,zaf]
 omega
theorem zgu2 {c:PCfg} (hc:Small c) (h:CfgV c):(cfgB c).length≤98542:=by
 obtain ⟨_,_,⟨_,b3⟩,_⟩:=h
 have d3:=cntE_zero.1 b3
 have hnl:=hc.nl
 have hnp:=hc.np
 have f1:=zgp (f:=fun v=>leB v 8) (B:=8) c.labels fun v _=>by rw [zaf];omega
 have f2:=zgp (f:=fun v=>leB v 1) (B:=1) c.table fun v _=>by rw [zaf];omega
 have f3:=zgp (f:=procB) (B:=3075) c.procs fun p hp=>by
  have hcode:=hc.code p hp
  have f4:=zgp (f:=insB) (B:=12) p.code fun v _=>by simp [insB,zaf]
  simp only [procB,codeB,List.length_append,zaf]
  omega
 simp only [cfgB,List.length_append,zaf,List.length_cons,List.length_nil]
 omega
theorem zel2 {c:PCfg} {s:PState} (hc:Small c) (hv:CfgV c) (h:StateV c s):(snapB c s).length<1048576:=by
 obtain ⟨_,a1,a2,_⟩:=h
 obtain ⟨b1,b2⟩:=zew a1
 obtain ⟨b3,b4⟩:=zew a2
 have hnl:=hc.nl
 have hnp:=hc.np
 have f1:=zgp (f:=partB) (B:=69911) s.parts fun x hx=>zek2 (b2 x hx) hc.log hc.locks (by omega)
 have f2:=zgp (f:=zie) (B:=7339) s.procs fun x hx=>zej2 (b4 x hx) hnl hc.lane (by omega)
 have f3:=zgu2 hc hv
 simp only [snapB,List.length_append,zaf,List.length_cons,List.length_nil]
 omega
end Lf

namespace Lf
open Go Go.Proofs Go.RowKit
theorem zyi1 {P:Program} {g:FuncId} {args:List Value} {sh:Shape} {K:sh.T→Hp→Prop} {h:Hp} {x:sh.T} (hc:∀w,Sub h w→Calls P g args.toArray w fun e w'=>e=.returned (sh.enc x)∧w'=w) (hk:K x h):CallT P g args sh K h:=by
 intro w hs
 refine (hc w hs).mono ?_
 rintro e w' ⟨rfl,rfl⟩
 exact ⟨_,h,rfl,⟨x,rfl,hk⟩,⟨hs,Nat.le_refl _,fun i hi hn=>⟨rfl,hn⟩,rfl,rfl,rfl⟩⟩
def hasC (s:ByteArray) (c:UInt8):Bool:=decide (0≤Lib.indexByte s.data.toList c)
theorem ztx1 {s:ByteArray} {c:UInt8} {K:Bool→Hp→Prop} {h:Hp} (hk:K (hasC s c) h):CallT Tryz.prog zsi [.string s,.string ⟨#[c]⟩] zag K h:=by
 refine zyi1 (x:=hasC s c) (fun w _=> ?_) hk
 exact Tryz.strings_Contains_one s c w
def insOf (x:S_api_Ins):PIns:=⟨x.Op,x.A,x.B,x.C,x.Imm⟩
def fieldTab :List (List UInt8):=[[],[97,105],[97,98],[97,98,99],[97,98,99],[97,98,99],[97,98,99],[97,98,99],[97,98,99],[97,98,99],[97,98,99],[97,98,99],[97,98,99],[97,98,99],[97,98,99],[97,98,99],[97,98,99],[97,98,99],[97,98,99],[97,98,99],[97,98],[97,98],[105],[97,105],[97,98,99],[97,98],[97,98],[97],[97],[105],[105],[97],[97],[97]]
def zje (op:Int):ByteArray:=if 0≤op∧op<34 then ⟨(fieldTab.getD op.toNat []).toArray⟩ else ⟨#[]⟩
theorem zty1 :∀n,n<34→(decide (0≤Lib.indexByte (fieldTab.getD n []) 97),decide (0≤Lib.indexByte (fieldTab.getD n []) 98),decide (0≤Lib.indexByte (fieldTab.getD n []) 99),decide (0≤Lib.indexByte (fieldTab.getD n []) 105))=zba (n:Int):=by decide
theorem zyj1 (op:Int):(hasC (zje op) 97,hasC (zje op) 98,hasC (zje op) 99,hasC (zje op) 105)=zba op:=by
 by_cases h:0≤op∧op<34
 ·have e:=zty1 op.toNat (by omega)
  rw [Int.toNat_of_nonneg h.1] at e
  rw [←e]
  simp [hasC,zje,h]
 ·have e1:zje op=⟨#[]⟩:=if_neg h
  rw [e1]
  have e2:zba op=(false,false,false,false):=by
   unfold zba
   rw [if_neg (by omega),if_neg (by omega),if_neg (by omega),if_neg (by omega),if_neg (by omega),if_neg (by omega)]
  rw [e2]
  decide
theorem zgv2 :∀n,n<34→fieldTab[n]?=some (fieldTab.getD n []):=by decide
theorem zih1 {α:Type} (l:List α) (i:Nat):List.get?Internal l i=l[i]?:=by
 rw [←List.get?Internal_eq_getElem?]
theorem zpf1 {op:Int} {Q:ByteArray→Hp→Prop} {h:Hp} (hq:Q (zje op) h):zvm Tryz.prog op Q h:=by
 unfold zvm
 refine letW ?_
 by_cases h0:0≤op∧op<34
 ·rw [if_neg (by simp;omega)]
  refine ⟨h0,zje op,?_,hq⟩
  have e:zje op=⟨(fieldTab.getD op.toNat []).toArray⟩:=if_pos h0
  rw [zih1,e]
  have e2:=zgv2 op.toNat (by omega)
  rw [Nat.mul_one]
  have e3:(fieldTab.map fun l=>Value.string ⟨l.toArray⟩)[op.toNat]?=some (Value.string ⟨(fieldTab.getD op.toNat []).toArray⟩):=by rw [List.getElem?_map,e2];rfl
  exact e3
 ·rw [if_pos (by simp;omega)]
  have e:zje op=⟨#[]⟩:=if_neg h0
  rw [e] at hq
  exact hq
theorem zmw {P:Program} {g:FuncId} {first captured:Array Value} {args:List Value} {sh:Shape} {K:sh.T→Hp→Prop} {h:Hp} (hg:tb.call g=true) (hc:CallT P g (first.toList++args++captured.toList) sh K h):CallV P tb (.func (.func g) first captured) args sh K h:=
 ⟨g,first,captured,rfl,hg,hc⟩
theorem zgp1 {op:Int} {Q:Bool→Bool→Bool→Bool→Hp→Prop} {h:Hp} (hq:∀h',h≤h'→Q (zba op).1 (zba op).2.1 (zba op).2.2.1 (zba op).2.2.2 h'):zvj Tryz.prog op Q h:=by
 unfold zvj
 refine ziy1 (zpf1 ?_)
 intro b t hn
 refine zdp (b:=b) (off:=0) (cs:=[.string ⟨#[]⟩]) ⟨t,zid⟩ (by simp) fun h3 hm hb=> ?_
 have hle:h≤h3:=(((Mv.new hn).trans hm).le (Hp.le_refl h) (by simp)).1
 have hl:LdIs h3 ⟨b,0,none⟩ [.string (zje op)]:=hb.ldIs (n:=1) (by rfl)
 have one:∀(c:UInt8) (K:Bool→Hp→Prop),K (hasC (zje op) c) h3→CallV Tryz.prog tb (.func (.func zzg) #[] #[.pointer (some ⟨b,0,none⟩)]) [.string ⟨#[c]⟩] zag K h3:=fun c K hk=>by
  refine zmw rfl (zgk1 ?_)
  unfold zzj
  refine ld_at (sh:=shStr) (zje op) hl ?_
  exact ztx1 hk
 have e:=zyj1 op
 rw [←e] at hq
 exact one 97 _ (one 98 _ (one 99 _ (one 105 _ (hq h3 hle))))
theorem zem1 {P:Program} {has:Bool} {n:Int} {Q:Int→Hp→Prop} {h:Hp} (hq:Q (regP has n) h):zrb P has n Q h:=by
 unfold zrb
 refine letW ?_
 unfold regP at hq
 by_cases h1:has=false∧n≠0
 ·rw [if_pos h1] at hq
  rw [if_pos (by simp [h1.1,h1.2])]
  exact hq
 ·rw [if_neg h1] at hq
  rw [if_neg (by cases has<;>simp at h1 ⊢;exact h1)]
  refine letW ?_
  by_cases h2:n<0∨8≤n
  ·rw [if_pos h2] at hq
   rw [if_pos (by simp;omega)]
   exact hq
  ·rw [if_neg h2] at hq
   rw [if_neg (by simp;omega)]
   exact hq
theorem zbj2 {P:Program} {x:S_api_Ins} {has:Bool} {n locks:Int} {Q:Int→Hp→Prop} {h:Hp}
  (hq:Q (if has=false∧x.Imm≠0 then 11 else if (x.Op=22∨x.Op=23)∧(x.Imm<0∨n<x.Imm) then 12 else if (x.Op=29∨x.Op=30)∧(x.Imm<0∨locks≤x.Imm) then 13 else 0) h):zvk P x has n locks Q h:=by
 unfold zvk
 refine letW ?_
 by_cases h1:has=false∧x.Imm≠0
 ·rw [if_pos h1] at hq
  rw [if_pos (by simp [h1.1,h1.2])]
  exact hq
 ·rw [if_neg h1] at hq
  rw [if_neg (by cases has<;>simp at h1 ⊢;exact h1)]
  refine letW ?_
  by_cases h2:x.Op=22∨x.Op=23
  ·rw [if_pos (by simp;exact h2)]
   refine letW ?_
   by_cases h3:x.Imm<0∨n<x.Imm
   ·rw [if_pos ⟨h2,h3⟩] at hq
    rw [if_pos (by simp;omega)]
    exact hq
   ·rw [if_neg (fun e=>h3 e.2),if_neg (by omega)] at hq
    rw [if_neg (by simp;omega)]
    exact hq
  ·rw [if_neg (fun e=>h2 e.1)] at hq
   rw [if_neg (by simp;omega)]
   refine letW ?_
   by_cases h4:x.Op=29∨x.Op=30
   ·rw [if_pos (by simp;exact h4)]
    refine letW ?_
    by_cases h5:x.Imm<0∨locks≤x.Imm
    ·rw [if_pos ⟨h4,h5⟩] at hq
     rw [if_pos (by simp;omega)]
     exact hq
    ·rw [if_neg (fun e=>h5 e.2)] at hq
     rw [if_neg (by simp;omega)]
     exact hq
   ·rw [if_neg (fun e=>h4 e.1)] at hq
    rw [if_neg (by simp;omega)]
    exact hq
theorem zem2 {x:S_api_Ins} {n locks:Int} {Q:Int→Int→Hp→Prop} {h:Hp} (hq:∀h' at_,h≤h'→((zbv (insOf x) n locks).1≠0→at_=(zbv (insOf x) n locks).2)→Q (zbv (insOf x) n locks).1 at_ h'):zzi Tryz.prog x n locks Q h:=by
 unfold zzi
 refine letW ?_
 have le:=Hp.le_refl h
 rw [show zbv (insOf x) n locks=(if x.Op<0∨34≤x.Op then (9,0)
  else if regP (zba x.Op).1 x.A≠0 then (regP (zba x.Op).1 x.A,1)
  else if regP (zba x.Op).2.1 x.B≠0 then (regP (zba x.Op).2.1 x.B,2)
  else if regP (zba x.Op).2.2.1 x.C≠0 then (regP (zba x.Op).2.2.1 x.C,3)
  else if (zba x.Op).2.2.2=false∧x.Imm≠0 then (11,4)
  else if (x.Op=22∨x.Op=23)∧(x.Imm<0∨n<x.Imm) then (12,4)
  else if (x.Op=29∨x.Op=30)∧(x.Imm<0∨locks≤x.Imm) then (13,4)
  else (0,0)) from rfl] at hq
 by_cases h1:x.Op<0∨34≤x.Op
 ·rw [if_pos h1] at hq
  rw [if_pos (by simp;omega)]
  exact hq h 0 le fun _=>rfl
 ·rw [if_neg h1] at hq
  rw [if_neg (by simp;omega)]
  refine zxw (zgp1 fun h1 l1=> ?_)
  dsimp only
  refine zmu (zem1 ?_)
  by_cases h2:regP (zba x.Op).1 x.A≠0
  ·rw [if_pos h2] at hq
   rw [if_pos (by simpa using h2)]
   exact hq h1 1 l1 fun _=>rfl
  ·rw [if_neg h2] at hq
   rw [if_neg (by simpa using h2)]
   refine zmu (zem1 ?_)
   by_cases h3:regP (zba x.Op).2.1 x.B≠0
   ·rw [if_pos h3] at hq
    rw [if_pos (by simpa using h3)]
    exact hq h1 2 l1 fun _=>rfl
   ·rw [if_neg h3] at hq
    rw [if_neg (by simpa using h3)]
    refine zmu (zem1 ?_)
    by_cases h4:regP (zba x.Op).2.2.1 x.C≠0
    ·rw [if_pos h4] at hq
     rw [if_pos (by simpa using h4)]
     exact hq h1 3 l1 fun _=>rfl
    ·rw [if_neg h4] at hq
     rw [if_neg (by simpa using h4)]
     refine ziw1 (zbj2 ?_)
     by_cases h5:(zba x.Op).2.2.2=false∧x.Imm≠0
     ·rw [if_pos h5] at hq ⊢
      exact hq h1 4 l1 fun _=>rfl
     ·rw [if_neg h5] at hq ⊢
      by_cases h6:(x.Op=22∨x.Op=23)∧(x.Imm<0∨n<x.Imm)
      ·rw [if_pos h6] at hq ⊢
       exact hq h1 4 l1 fun _=>rfl
      ·rw [if_neg h6] at hq ⊢
       by_cases h7:(x.Op=29∨x.Op=30)∧(x.Imm<0∨locks≤x.Imm)
       ·rw [if_pos h7] at hq ⊢
        exact hq h1 4 l1 fun _=>rfl
       ·rw [if_neg h7] at hq ⊢
        exact hq h1 4 l1 fun e=>absurd rfl e
theorem zwq1 {x:S_api_Ins} {n locks:Int} {Q:Int→Hp→Prop} {h:Hp} (hq:∀h',h≤h'→Q (zbv (insOf x) n locks).1 h'):zzh Tryz.prog x n locks Q h:=by
 unfold zzh
 exact zkn1 (zem2 fun h' _ l _=>hq h' l)
abbrev InsS (h:Hp) (l:Sl) (xs:List S_api_Ins):Prop:=Rs h sh_api_Ins 5 l xs
theorem zna1 {l:Sl} {xs:List S_api_Ins} {locks:Int} {Q:Int→Int→Hp→Prop} {h:Hp} (r:InsS h l xs) (hq:∀h',h≤h'→Q (codeP (xs.map insOf) locks).1 (codeP (xs.map insOf) locks).2 h'):zhi1 Tryz.prog l locks Q h:=by
 unfold zhi1
 have hlen:=r.1
 refine letW ?_
 unfold codeP at hq
 by_cases h1:locks<0∨8<locks
 ·rw [if_pos h1] at hq
  rw [if_pos (by simp;omega)]
  exact hq h (Hp.le_refl h)
 ·rw [if_neg h1,List.length_map] at hq
  rw [if_neg (by simp;omega)]
  by_cases h2:256<xs.length
  ·rw [if_pos h2] at hq
   rw [if_pos (by simp;omega)]
   exact hq h (Hp.le_refl h)
  ·rw [if_neg h2] at hq
   rw [if_neg (by simp;omega)]
   refine LoopW1.intro (fun i k=>h≤k∧0≤i∧i≤(xs.length:Int)∧codeR xs.length locks ((xs.drop i.toNat).map insOf) i=codeR xs.length locks (xs.map insOf) 0) (fun i _=>(xs.length-i).toNat) ⟨Hp.le_refl h,by omega,by omega,rfl⟩ ?_
   rintro i k ⟨hle,h0,hi,he⟩
   by_cases h3:i<(xs.length:Int)
   ·rw [if_pos (decide_eq_true (by omega))]
    refine Rs.get (sh:=sh_api_Ins) (Rw.mono hle r) (fun _=>rfl) (by omega) h0 h3 fun x hx=> ?_
    refine zao1 (zwq1 fun k' hle'=> ?_)
    have hd:xs.drop i.toNat=x::xs.drop (i.toNat+1):=by
     obtain ⟨hx1,hx2⟩:=List.getElem?_eq_some_iff.1 hx
     rw [←hx2];exact List.drop_eq_getElem_cons hx1
    rw [hd,List.map_cons,codeR] at he
    rw [hlen]
    by_cases h4:(zbv (insOf x) xs.length locks).1≠0
    ·rw [if_pos h4] at he
     rw [if_pos (by simpa using h4)]
     rw [←he] at hq
     exact hq k' (Hp.le_trans hle hle')
    ·rw [if_neg h4] at he
     rw [if_neg (by simpa using h4)]
     have hw:IntKind.wrap .i64 (i+1)=i+1:=zal (by omega) (by omega)
     rw [hw]
     refine ⟨⟨Hp.le_trans hle hle',by omega,by omega,?_⟩,by omega⟩
     have:(i+1).toNat=i.toNat+1:=by omega
     rw [this];exact he
   ·rw [if_neg (by simp;omega)]
    have hd:xs.drop i.toNat=[]:=List.drop_eq_nil_of_le (by omega)
    rw [hd] at he
    rw [←he] at hq
    exact hq k hle
end Lf

namespace Lf
open Go
def eB (b:UInt8):List Value:=[.int .u8 (b.toNat:Int)]
theorem zcb (b:UInt8):(eB b).length=1:=rfl
theorem eB_ok (b:UInt8):zcz (eB b)=true:=rfl
abbrev Bs (h:Hp) (l:Sl) (bs:List UInt8):Prop:=Rw h 1 eB l bs
abbrev OwnB (h0 h:Hp) (l:Sl) (bs:List UInt8):Prop:=Own h0 h 1 eB l bs
theorem zbk2 {α:Type} {h0 h:Hp} {sz n bytes:Nat} {enc:α→List Value} {zero cs:List Value} {l:Sl} {xs ys:List α} {K:Sl→Hp→Prop} (hw:h0≤h) (o:Own h0 h sz enc l xs) (hc:cs=ys.flatMap enc) (hn:n=ys.length)
  (henc:∀x,(enc x).length=sz) (hok:∀x,zcz (enc x)=true) (hz:zero.length=sz) (hb:xs.length+ys.length≤140737488355328∧(xs.length+ys.length)*bytes≤140737488355328)
  (hk:∀l' h',h0≤h'→Own h0 h' sz enc l' (xs++ys)→(∀b ob,h b=some ob→(∀a,l.base=some a→a.block≠b)→h' b=some ob)→K l' h'):NewW cs (fun a h2=>zaj sz bytes zero l ⟨some a,n,n⟩ K h2) h:=by
 subst hn
 refine zaq1 (h0:=h0) hw hc henc fun a h2 hle ho2=> ?_
 refine zko1 (Hp.le_trans hw hle) (o.mono hle) (ho2.rw henc) henc hok hz hb fun l' h' hl' ho' hk'=>hk l' h' hl' ho' fun b ob e hne=>hk' b ob (hle b ob e) hne
theorem zku1 (bs:List UInt8):bs.flatMap eB=bs.map fun b=>.int .u8 (b.toNat:Int):=by
 induction bs with
 | nil=>rfl
 | cons b bs ih=>rw [List.flatMap_cons,ih];rfl
theorem zhw1 (n:Int):((UInt8.ofNat (n%256).toNat).toNat:Int)=n%256:=by
 rw [UInt8.toNat_ofNat']
 have:(n%256).toNat<256:=by omega
 omega
theorem wrap8 (n:Int):IntKind.wrap .u8 n=((UInt8.ofNat (n%256).toNat).toNat:Int):=by
 rw [zhw1]
 rfl
theorem ztz1 (n:Int):∀(k i:Nat),i<k→(leB n k)[i]?=some (UInt8.ofNat ((n / ((256^i:Nat):Int))%256).toNat)
 | 0,_,h=>by omega
 | k+1,0,_=>by simp [leB]
 | k+1,i+1,h=>by
  simp only [leB,List.getElem?_cons_succ]
  have e:n / 256 / ((256^i:Nat):Int)=n / ((256^(i+1):Nat):Int):=by
   rw [Int.ediv_ediv_of_nonneg (by decide)]
   congr 1
   rw [Nat.pow_succ,Int.natCast_mul,Int.mul_comm];rfl
  rw [ztz1 (n / 256) k i (by omega),e]
theorem zrj1 {n m:Int} {k:Nat} (h:n%((256^k:Nat):Int)=m%((256^k:Nat):Int)):leB n k=leB m k:=by
 have h1:=zgm1 n k
 have h2:=zgm1 m k
 have e:valB (leB n k)=valB (leB m k):=by omega
 have h3:=zxi (leB n k)
 have h4:=zxi (leB m k)
 rw [zaf] at h3 h4
 rw [←h3,e,h4]
theorem zcm {n:Int} {k:Nat} (hk:k≤8):leB (IntKind.wrap .u64 n) k=leB n k:=by
 apply zrj1
 have e:IntKind.wrap .u64 n=n%((256^8:Nat):Int):=rfl
 rw [e]
 have hd:((256^k:Nat):Int) ∣ ((256^8:Nat):Int):=Int.natCast_dvd_natCast.2 (Nat.pow_dvd_pow 256 hk)
 exact Int.emod_emod_of_dvd n hd
theorem zen2 (n:Int) {i:Nat} (hi:i<8):shrI .u64 n (8*(i:Int))=n / ((256^i:Nat):Int):=by
 have e:((256^i:Nat):Int)=2^(8*i):=by
  rw [show (256:Nat)=2^8 from rfl,←Nat.pow_mul]
  exact Int.natCast_pow 2 (8*i)
 rw [e]
 have e2:min (8*(i:Int)).toNat IntKind.u64.bits=8*i:=by
  have:IntKind.u64.bits=64:=rfl
  omega
 unfold shrI
 rw [e2,Int.fdiv_eq_ediv_of_nonneg _ (Int.le_of_lt (Int.pow_pos (by decide)))]
theorem zwr1 (n:Int) {i:Int} (h0:0≤i) (h1:i<8):IntKind.wrap .i64 (8*i)=8*i∧IntKind.wrap .u8 (shrI .u64 n (8*i))=((UInt8.ofNat ((n / ((256^i.toNat:Nat):Int))%256).toNat).toNat:Int):=by
 refine ⟨zal (by omega) (by omega),?_⟩
 have e:(8*i)=8*((i.toNat:Nat):Int):=by omega
 rw [e,zen2 n (by omega),wrap8]
section
variable {h0 h:Hp} {l:Sl} {bs:List UInt8} {K:Sl→Hp→Prop}
theorem zca (hw:h0≤h) (o:OwnB h0 h l bs) {cs:List Value} (cs':List UInt8) {n:Nat} (hc:cs=cs'.map fun b=>.int .u8 (b.toNat:Int)) (hn:n=cs'.length) (hb:bs.length+cs'.length≤1099511627776)
  (hk:∀l' h',h0≤h'→OwnB h0 h' l' (bs++cs')→(∀b ob,h b=some ob→(∀a,l.base=some a→a.block≠b)→h' b=some ob)→K l' h'):NewW cs (fun a h2=>zaj 1 1 [.int .u8 0] l ⟨some a,n,n⟩ K h2) h:=
 zbk2 hw o (by rw [hc,zku1]) hn zcb eB_ok rfl (by omega) hk
theorem zpg1 {n m:Int} {k:Nat} (hm:m=(k:Int)) (hk8:k≤8) (hw:h0≤h) (o:OwnB h0 h l bs) (hb:bs.length+8≤1099511627776) (hk:∀l' h',h0≤h'→OwnB h0 h' l' (bs++leB n k)→K l' h'):
  LoopW2 (α1:=Sl) (α2:=Int) (fun again b1 t9 h1=>
   (if (decide (t9<m))=true then
    ((0:Int)≤(IntKind.wrap .i64 ((8:Int)*t9))∧NewW [(.int .u8 (IntKind.wrap .u8 (shrI .u64 n (IntKind.wrap .i64 ((8:Int)*t9)))))] (fun a h2=>
     zaj 1 1 [(.int .u8 (0:Int))] ⟨b1.base,b1.len,b1.cap⟩ ⟨(some a),1,1⟩ (fun r h3=>
      again r (IntKind.wrap .i64 (t9+(1:Int))) h3) h2) h1)
   else K b1 h1)) l (0:Int) h:=by
 subst hm
 refine LoopW2.intro (fun b1 i h1=>0≤i∧i≤(k:Int)∧h0≤h1∧OwnB h0 h1 b1 (bs++(leB n k).take i.toNat)) (fun _ i _=>(k-i).toNat) ⟨by omega,by omega,hw,by simpa using o⟩ ?_
 rintro b1 i h1 ⟨hi0,hi1,hle,ho⟩
 by_cases hi:i<(k:Int)
 ·rw [if_pos (decide_eq_true hi)]
  obtain ⟨e1,e2⟩:=zwr1 n hi0 (by omega)
  rw [e1,e2]
  refine ⟨by omega,?_⟩
  refine zca hle ho [UInt8.ofNat ((n / ((256^i.toNat:Nat):Int))%256).toNat] rfl rfl (by simp [zaf];omega) fun l' h' hle' ho' _=> ?_
  rw [zal (by omega) (by omega)]
  refine ⟨⟨by omega,by omega,hle',?_⟩,by omega⟩
  have e3:(i+1).toNat=i.toNat+1:=by omega
  rw [e3,List.take_add_one,ztz1 n k i.toNat (by omega),←List.append_assoc]
  exact ho'
 ·rw [if_neg (fun e=>hi (of_decide_eq_true e))]
  have:i.toNat=k:=by omega
  rw [this,List.take_of_length_le (by rw [zaf];omega)] at ho
  exact hk b1 h1 hle ho
theorem zbj1 {P:Program} {n m:Int} {k:Nat} (hm:m=(k:Int)) (hk8:k≤8) (hw:h0≤h) (o:OwnB h0 h l bs) (hb:bs.length+8≤1099511627776) (hk:∀l' h',h0≤h'→OwnB h0 h' l' (bs++leB n k)→K l' h'):zhh1 P l n m K h:=by
 unfold zhh1
 exact zpg1 hm hk8 hw o hb hk
theorem zws1 {sh:Shape} {sz:Nat} {src:Sl} {xs:List sh.T} {es:List (List UInt8)} {body:sh.T→Sl→(Sl→Hp→Prop)→Hp→Prop} (M:Nat) (henc:∀x,(zad (sh.enc x)).length=sz) (hsz:0<sz) (r:Rs h0 sh sz src xs) (hw:h0≤h) (o:OwnB h0 h l bs)
  (hes:es.length=xs.length) (hlen:xs.length≤1000000) (hM:∀x∈es,x.length≤M)
  (hb:∀(i:Nat) x e b bs' h1 k,xs[i]?=some x→es[i]?=some e→h0≤h1→OwnB h0 h1 b bs'→bs'.length≤bs.length+i*M→(∀l' h',h0≤h'→OwnB h0 h' l' (bs'++e)→k l' h')→body x b k h1)
  (hk:∀l' h',h0≤h'→OwnB h0 h' l' (bs++es.flatten)→K l' h'):
  LoopW2 (α1:=Sl) (α2:=Int) (fun again b t h1=>
   (if (decide (t<((src.len:Nat):Int)))=true then
    ((InB src.base src.len t)∧LdW none sh h1 (sat src.base sz t) fun x=>body x b (fun r h'=>again r (IntKind.wrap .i64 (t+(1:Int))) h') h1)
   else K b h1)) l (0:Int) h:=by
 have hl:=r.1
 refine LoopW2.intro (fun b1 i h1=>0≤i∧i≤(xs.length:Int)∧h0≤h1∧OwnB h0 h1 b1 (bs++(es.take i.toNat).flatten)) (fun _ i _=>(xs.length-i).toNat) ⟨by omega,by omega,hw,by simpa using o⟩ ?_
 rintro b1 i h1 ⟨hi0,hi1,hle,ho⟩
 by_cases hi:i<(xs.length:Int)
 ·rw [if_pos (decide_eq_true (by omega))]
  refine Rs.get (sh:=sh) (Rw.mono hle r) henc hsz hi0 hi fun x hx=> ?_
  have he:es[i.toNat]?=some (es[i.toNat]'(by omega)):=List.getElem?_eq_getElem (by omega)
  refine hb i.toNat x _ b1 _ h1 _ hx he hle ho ?_ fun l' h' hle' ho'=> ?_
  ·rw [List.length_append]
   have:((es.take i.toNat).flatMap fun x=>x).length≤(es.take i.toNat).length*M:=zgp _ fun y hy=>hM y (List.mem_of_mem_take hy)
   have h2:(es.take i.toNat).length=i.toNat:=by rw [List.length_take];omega
   rw [h2] at this
   rw [List.flatMap_id'] at this
   omega
  ·rw [zal (by omega) (by omega)]
   refine ⟨⟨by omega,by omega,hle',?_⟩,by omega⟩
   have e3:(i+1).toNat=i.toNat+1:=by omega
   rw [e3,List.take_add_one,he,List.flatten_append,←List.append_assoc]
   simp only [Option.toList,List.flatten_cons,List.flatten_nil,List.append_nil]
   exact ho'
 ·rw [if_neg (fun e=>hi (by have:=of_decide_eq_true e;omega))]
  have:es.take i.toNat=es:=List.take_of_length_le (by omega)
  rw [this] at ho
  exact hk b1 h1 hle ho
theorem zua1 {sh:Shape} {sz:Nat} {src:Sl} {xs:List sh.T} {e:sh.T→List UInt8} {body:sh.T→Sl→(Sl→Hp→Prop)→Hp→Prop} (M:Nat) (henc:∀x,(zad (sh.enc x)).length=sz) (hsz:0<sz) (r:Rs h0 sh sz src xs) (hw:h0≤h) (o:OwnB h0 h l bs)
  (hlen:xs.length≤1000000) (hM:∀x∈xs,(e x).length≤M)
  (hb:∀(i:Nat) x b bs' h1 k,xs[i]?=some x→h0≤h1→OwnB h0 h1 b bs'→bs'.length≤bs.length+i*M→(∀l' h',h0≤h'→OwnB h0 h' l' (bs'++e x)→k l' h')→body x b k h1)
  (hk:∀l' h',h0≤h'→OwnB h0 h' l' (bs++xs.flatMap e)→K l' h'):
  LoopW2 (α1:=Sl) (α2:=Int) (fun again b t h1=>
   (if (decide (t<((src.len:Nat):Int)))=true then
    ((InB src.base src.len t)∧LdW none sh h1 (sat src.base sz t) fun x=>body x b (fun r h'=>again r (IntKind.wrap .i64 (t+(1:Int))) h') h1)
   else K b h1)) l (0:Int) h:=by
 refine zws1 (es:=xs.map e) M henc hsz r hw o (by simp) hlen (fun y hy=>by obtain ⟨x,hx,rfl⟩:=List.mem_map.1 hy;exact hM x hx) (fun i x y b bs' h1 k hx hy=> ?_) (by rw [←List.flatMap_def];exact hk)
 rw [List.getElem?_map,hx] at hy
 cases hy
 exact hb i x b bs' h1 k hx
end
end Lf

namespace Lf
open Go
abbrev InU (x:Int):Prop:=0≤x∧x<18446744073709551616
def bit (x:Int) (n:Nat):Bool:=x.toNat.testBit n
theorem wrapU {x:Int} (h:InU x):IntKind.wrap .u64 x=x:=by
  unfold IntKind.wrap
  simp only [IntKind.signed,IntKind.bits]
  have:=h.1
  have:=h.2
  simp
  omega
theorem zgq1 {x:Int} (h:InU x):BitVec.ofInt 64 x=BitVec.ofNat 64 x.toNat:=by
  obtain ⟨n,rfl⟩:=Int.eq_ofNat_of_zero_le h.1
  rfl
theorem zgw2 {x n:Int} (h:InU x) (h0:0≤n) (h1:n≤63):(bitsI .and .u64 (shrI .u64 x n) 1==1)=bit x n.toNat:=by
  obtain ⟨X,rfl⟩:=Int.eq_ofNat_of_zero_le h.1
  obtain ⟨N,rfl⟩:=Int.eq_ofNat_of_zero_le h0
  have hX:X<18446744073709551616:=by have:=h.2;omega
  have hN:N≤63:=by omega
  have e1:shrI .u64 (X:Int) (N:Int)=((X / 2^N:Nat):Int):=by
    unfold shrI
    have:min (N:Int).toNat (IntKind.bits .u64)=N:=by simp [IntKind.bits];omega
    rw [this,Int.fdiv_eq_ediv_of_nonneg _ (by exact Int.pow_nonneg (by decide))]
    norm_cast
  rw [e1]
  have hlt:X / 2^N<18446744073709551616:=Nat.lt_of_le_of_lt (Nat.div_le_self _ _) hX
  have e2:((BitVec.ofInt (IntKind.bits .u64) ((X / 2^N:Nat):Int)&&&BitVec.ofInt (IntKind.bits .u64) 1).toNat)=(X / 2^N)%2:=by
    show ((BitVec.ofNat 64 (X / 2^N))&&&(BitVec.ofNat 64 1)).toNat=_
    rw [BitVec.toNat_and,BitVec.toNat_ofNat,BitVec.toNat_ofNat,Nat.mod_eq_of_lt hlt]
    exact Nat.and_one_is_mod _
  simp only [bitsI,e2]
  rw [wrapU ⟨by omega,by omega⟩]
  simp only [bit,Int.toNat_natCast,Nat.testBit_eq_decide_div_mod_eq]
  by_cases hb:(X / 2^N)%2=1
  · simp [hb]
  · have:(X / 2^N)%2=0:=by omega
    simp [this]
theorem zgx2 {a b:Int} (ha:InU a) (hb:InU b):(bitsI .andNot .u64 a b==0)=true↔∀n,n<64→bit a n=true→bit b n=true:=by
  have e:bitsI .andNot .u64 a b=(((BitVec.ofNat 64 a.toNat)&&& ~~~ (BitVec.ofNat 64 b.toNat)).toNat:Int):=by
    show IntKind.wrap .u64 ((BitVec.ofInt 64 a&&& ~~~ BitVec.ofInt 64 b).toNat:Int)=_
    rw [zgq1 ha,zgq1 hb,wrapU ⟨by omega,by have:=((BitVec.ofNat 64 a.toNat)&&& ~~~ (BitVec.ofNat 64 b.toNat)).isLt;omega⟩]
  rw [e]
  have e2:((((BitVec.ofNat 64 a.toNat)&&& ~~~ (BitVec.ofNat 64 b.toNat)).toNat:Int)==0)=true↔(BitVec.ofNat 64 a.toNat)&&& ~~~ (BitVec.ofNat 64 b.toNat)=0#64:=by
    rw [BitVec.toNat_eq]
    simp
  rw [e2]
  have ga:∀n,n<64→(BitVec.ofNat 64 a.toNat).getLsbD n=bit a n:=fun n hn=>by rw [BitVec.getLsbD_ofNat];simp [bit,hn]
  have gb:∀n,n<64→(BitVec.ofNat 64 b.toNat).getLsbD n=bit b n:=fun n hn=>by rw [BitVec.getLsbD_ofNat];simp [bit,hn]
  constructor
  · intro h n hn h1
    have:=congrArg (fun v=>v.getLsbD n) h
    simp only [BitVec.getLsbD_and,BitVec.getLsbD_not,ga n hn,gb n hn,h1,hn,decide_true,Bool.true_and,BitVec.getLsbD_zero] at this
    simpa using this
  · intro h
    apply BitVec.eq_of_getLsbD_eq
    intro n hn
    simp only [BitVec.getLsbD_and,BitVec.getLsbD_not,ga n hn,gb n hn,hn,decide_true,Bool.true_and,BitVec.getLsbD_zero]
    cases h1:bit a n with
    | false=>rfl
    | true=>simp [h n hn h1]
end Lf

namespace Lf
open Go Go.Proofs
abbrev Us (h:Hp) (l:Sl) (xs:List Int):Prop:=Rs h (shInt .u64) 1 l xs
abbrev Is (h:Hp) (l:Sl) (xs:List Int):Prop:=Rs h (shInt .i64) 1 l xs
theorem zig2 {P:Program} {l:Sl} {xs:List Int} {Q:Int→Int→Hp→Prop} {h:Hp} (r:Us h l xs) (hl:xs.length≤8) (asc:xs.Pairwise (· < ·)) (h0:xs=[]→Q 1 0 h) (h1:xs≠ []→Q 0 0 h):zqy P l Q h:=by
 unfold zqy
 have hlen:=r.1
 split
 ·rename_i e
  have e:(l.len:Int)=0:=by simpa using e
  exact h0 (List.length_eq_zero_iff.1 (by omega))
 ·rename_i e
  have e:¬(l.len:Int)=0:=by simpa using e
  split
  ·rename_i e2
   have e2:(l.len:Int)>8:=by simpa using e2
   omega
  ·refine LoopW1.intro (fun i k=>k=h∧1≤i∧i≤(xs.length:Int)) (fun i _=>(xs.length-i).toNat) ⟨rfl,by omega,by omega⟩ ?_
   rintro i k ⟨rfl,hi1,hi2⟩
   split
   ·rename_i e3
    have e3:i<(l.len:Int):=by simpa using e3
    have hw:IntKind.wrap .i64 (i-1)=i-1:=zal (by omega) (by omega)
    rw [hw]
    refine r.get (fun _=>rfl) (by omega) (by omega) (by omega) fun (x:Int) hx=> ?_
    refine r.get (fun _=>rfl) (by omega) (by omega) (by omega) fun (y:Int) hy=> ?_
    have hxy:y<x:=by
     have e4:(i-1).toNat<i.toNat:=by omega
     have hxl:=(List.getElem?_eq_some_iff.1 hx)
     have hyl:=(List.getElem?_eq_some_iff.1 hy)
     obtain ⟨hx1,hx2⟩:=hxl
     obtain ⟨hy1,hy2⟩:=hyl
     rw [←hx2,←hy2]
     exact List.pairwise_iff_getElem.1 asc _ _ hy1 hx1 e4
    rw [if_neg (show ¬((x==y)=true) by simp;omega)]
    refine r.get (fun _=>rfl) (by omega) (by omega) (by omega) fun (x':Int) hx'=> ?_
    rw [hx] at hx';cases hx'
    refine r.get (fun _=>rfl) (by omega) (by omega) (by omega) fun (y':Int) hy'=> ?_
    rw [hy] at hy';cases hy'
    rw [if_neg (show ¬(decide (x<y)=true) by simp;omega)]
    have hw2:IntKind.wrap .i64 (i+1)=i+1:=zal (by omega) (by omega)
    rw [hw2]
    exact ⟨⟨rfl,by omega,by omega⟩,by omega⟩
   ·exact h1 fun e4=>by rw [e4] at hlen;simp at hlen;omega
abbrev OwnU (h0 h:Hp) (l:Sl) (xs:List Int):Prop:=Own h0 h 1 (fun x=>zad ((shInt .u64).enc x)) l xs
abbrev OwnI (h0 h:Hp) (l:Sl) (xs:List Int):Prop:=Own h0 h 1 (fun x=>zad ((shInt .i64).enc x)) l xs
def flows (a b:Int):Bool:=(List.range 64).all fun n=> !bit a n || bit b n
theorem flows_iff {a b:Int}:flows a b=true↔∀n,n<64→bit a n=true→bit b n=true:=by
 unfold flows
 rw [List.all_eq_true]
 constructor
 ·intro h n hn ha
  have:=h n (List.mem_range.2 hn)
  rw [ha] at this
  simpa using this
 ·intro h n hn
  have:=h n (List.mem_range.1 hn)
  cases ha:bit a n with
  | false=>rfl
  | true=>simp [this ha]
theorem zph1 {a b:Int} {Q:Bool→Hp→Prop} {h:Hp} (ha:InU a) (hb:InU b) (hq:Q (flows a b) h):zvi Tryz.prog a b Q h:=by
 unfold zvi
 have:(bitsI .andNot .u64 a b==0)=flows a b:=by
  rw [Bool.eq_iff_iff,zgx2 ha hb,flows_iff]
 rw [this]
 exact hq
def fl (xs:List Int) (i j:Int):Bool:=if 0≤i∧i<(xs.length:Int)∧0≤j∧j<(xs.length:Int) then flows (xs.getD i.toNat 0) (xs.getD j.toNat 0) else false
theorem fl_in {xs:List Int} {i j:Int} {x y:Int} (h:0≤i∧0≤j) (hx:xs[i.toNat]?=some x) (hy:xs[j.toNat]?=some y):fl xs i j=flows x y:=by
 have h1:=(List.getElem?_eq_some_iff.1 hx).1
 have h2:=(List.getElem?_eq_some_iff.1 hy).1
 unfold fl
 rw [if_pos (by omega),List.getD_eq_getElem?_getD,List.getD_eq_getElem?_getD,hx,hy]
 rfl
theorem zfu2 {xs:List Int} {i j:Int} (h:¬(0≤i∧i<(xs.length:Int)∧0≤j∧j<(xs.length:Int))):fl xs i j=false:=by
 unfold fl
 rw [if_neg h]
def ents :List Int→Nat→List MapEntry
 | [],_=> []
 | x::r,j=>{key:=.int .u64 x,val:=.int .i64 (j:Int),born:=j}::ents r (j+1)
def place (a:Int):List Int→Nat→Option Nat
 | [],_=>none
 | x::r,j=>if a=x then some j else place a r (j+1)
theorem zrk1 (a:Int):∀(ls:List Int) (j:Nat),Instr.findNow (.int .u64) (.int .u64 a) (ents ls j) j=some ((place a ls j).map fun (k:Nat)=>(k,Value.int .i64 (k:Int)))
 | [],j=>rfl
 | x::r,j=>by
  simp only [ents,Instr.findNow,Instr.sameNow,if_true,place]
  by_cases h:a=x
  ·simp [h]
  ·have:(a==x)=false:=by simpa using h
   rw [this]
   simp only [if_neg h]
   exact zrk1 a r (j+1)
theorem zrl1 :∀(ls:List Int) (x:Int) (j:Nat),ents (ls++ [x]) j=ents ls j++ [{key:=.int .u64 x,val:=.int .i64 ((j+ls.length:Nat):Int),born:=j+ls.length}]
 | [],x,j=>by simp [ents]
 | y::r,x,j=>by
  simp only [List.cons_append,ents,zrl1 r x (j+1),List.length_cons]
  have:j+1+r.length=j+(r.length+1):=by omega
  rw [this]
theorem znb1 {a:Int}:∀ {ls:List Int} {j:Nat},a∉ls→place a ls j=none
 | [],_,_=>rfl
 | x::r,j,h=>by
  simp only [place]
  rw [if_neg fun e=>h (by rw [e];exact List.mem_cons_self ..)]
  exact znb1 fun e=>h (List.mem_cons_of_mem _ e)
structure Tab (h:Hp) (p:Addr) (ls:List Int):Prop where
 ex:∃(sl:Sl) (m:Nat),LdIs h p [sl.v,.map (some m)]∧Us h sl ls∧h m=some (.map (ents ls 0).toArray ls.length)
theorem Tab.mono {h h':Hp} {p:Addr} {ls:List Int} (hl:h≤h') (t:Tab h p ls):Tab h' p ls:=by
 obtain ⟨sl,m,h1,h2,h3⟩:=t.ex
 exact ⟨sl,m,zev hl h1,h2.mono hl,hl _ _ h3⟩
theorem Tab.sl {h:Hp} {p:Addr} {ls:List Int} (t:Tab h p ls) {K:Sl→Prop} (hk:∀sl,Us h sl ls→K sl):LdW none shSl h (p.add 0) K:=by
 obtain ⟨sl,m,h1,h2,h3⟩:=t.ex
 refine ⟨sl,fun i v hv=> ?_,hk sl h2⟩
 cases i with
 | zero=>
  have:=h1 0 v (by simpa [zad,Sl.v] using hv)
  rw [zae1]
  exact this
 | succ i=>simp [zad] at hv
theorem Tab.slC {h:Hp} {p:Addr} {ls:List Int} (t:Tab h p ls) {c:Bool} {K:Sl→Prop} (hk:∀sl,Us h sl ls→K sl):LdW (some c) shSl h (p.add 0) K:=by
 obtain ⟨sl,h1,h2⟩:=t.sl hk
 exact ⟨sl,fun _=>h1,h2⟩
theorem Tab.map {h:Hp} {p:Addr} {ls:List Int} (t:Tab h p ls) {K:Option Nat→Prop} (hk:∀m,h m=some (.map (ents ls 0).toArray ls.length)→K (some m)):LdW none shMap h (p.add 1) K:=by
 obtain ⟨sl,m,h1,h2,h3⟩:=t.ex
 refine ⟨some m,fun i v hv=> ?_,hk m h3⟩
 cases i with
 | zero=>
  have:=h1 1 v (by simpa [zad] using hv)
  rw [zae1]
  exact this
 | succ i=>simp [zad] at hv
theorem zwt1 {p:Addr} {ls:List Int} {i:Int} {Q:Bool→Hp→Prop} {h:Hp} (t:Tab h p ls) (hq:Q (decide (0≤i)&&decide (i<(ls.length:Int))) h):zoy Tryz.prog (some p) i Q h:=by
 unfold zoy
 refine zab (t.slC fun sl hs=>letW ?_)
 rw [hs.1]
 exact hq
theorem zub1 {p:Addr} {ls:List Int} {i j:Int} {Q:Bool→Hp→Prop} {h:Hp} (t:Tab h p ls) (hu:∀x∈ls,InU x) (hq:Q (fl ls i j) h):zld Tryz.prog (some p) i j Q h:=by
 unfold zld
 refine zrq (zwt1 t ?_)
 generalize hc:(decide (0≤i)&&decide (i<(ls.length:Int)))=ci
 refine ⟨fun e=>zrq (zwt1 t ?_),fun e=>⟨false,?_⟩⟩
 ·generalize hd:(decide (0≤j)&&decide (j<(ls.length:Int)))=cj
  refine letW ?_
  subst e
  rw [Bool.true_and]
  simp at hc
  refine zab (t.slC fun sl hs=> ?_)
  refine Rs.getC hs (0:Int) (fun _=>rfl) (by omega) (fun _=>hc) fun (x:Int) hx=> ?_
  refine zab (t.slC fun sl2 hs2=> ?_)
  refine Rs.getC hs2 (0:Int) (fun _=>rfl) (by omega) (fun e=>by rw [e] at hd;simpa using hd) fun (y:Int) hy=> ?_
  refine ⟨fun e=> ?_,fun e=>⟨false,?_⟩⟩
  ·have ex:=hx e
   have ey:=hy e
   rw [e] at hd
   simp at hd
   refine ziv1 (zph1 (hu x (List.mem_of_getElem? ex)) (hu y (List.mem_of_getElem? ey)) (letW ?_))
   rw [e,Bool.true_and,←fl_in ⟨hc.1,hd.1⟩ ex ey]
   exact hq
  ·refine letW ?_
   rw [e] at hd ⊢
   rw [Bool.false_and,←zfu2 (xs:=ls) (i:=i) (j:=j) (by simp at hd;omega)]
   exact hq
 ·subst e
  simp at hc
  refine letW ?_
  rw [Bool.false_and]
  refine zab (t.slC fun sl hs=> ?_)
  refine Rs.getC hs (0:Int) (fun _=>rfl) (by omega) (fun e=>by cases e) fun (x:Int) hx=> ?_
  refine zab (t.slC fun sl2 hs2=> ?_)
  refine Rs.getC hs2 (0:Int) (fun _=>rfl) (by omega) (fun e=>by cases e) fun (y:Int) hy=> ?_
  refine ⟨fun e=>(by cases e),fun e=>⟨false,letW ?_⟩⟩
  rw [Bool.false_and,←zfu2 (xs:=ls) (i:=i) (j:=j) (by omega)]
  exact hq
theorem zeo2 {s:Sl} {xs:List Int} {Q:Sl→Hp→Prop} {h:Hp} (r:Us h s xs) (hl:xs.length≤1000000) (hq:∀out h',h≤h'→OwnU h h' out xs→Q out h'):zdv Tryz.prog s Q h:=by
 unfold zdv
 refine ⟨s.base.isNone,zkp1 (tb_ok.und 22 ty22 rfl) s,?_⟩
 cases hb:s.base with
 | none=>
  rw [if_pos (show (none:Option Addr).isNone=true from rfl)]
  have:xs=[]:=by
   rcases r.2.2 with e | ⟨a,ha,_⟩
   ·exact List.length_eq_zero_iff.1 (by omega)
   ·rw [hb] at ha;cases ha
  subst this
  exact hq _ h (Hp.le_refl h) ⟨rfl,Nat.le_refl _,.inl ⟨rfl,rfl⟩⟩
 | some a=>
  rw [if_neg (by simp)]
  refine zaq1 (xs:=([]:List Int)) (enc:=fun x=>zad ((shInt .u64).enc x)) (sz:=1) (Hp.le_refl h) rfl (fun _=>rfl) fun a h1 hle1 ho1=> ?_
  refine zko1 hle1 ho1 (Rw.mono hle1 r) (fun _=>rfl) (fun _=>rfl) rfl ?_ fun l' h' hle' hown _=> ?_
  ·simp;omega
  ·exact hq l' h' hle' hown
theorem zyk1 {ls:List Int} (hn:ls.Pairwise (· < ·)) {t:Nat} {x:Int} (hx:ls[t]?=some x):x∉ls.take t:=by
 intro hm
 obtain ⟨i,hi⟩:=List.mem_iff_getElem?.1 hm
 rw [List.getElem?_take] at hi
 split at hi
 ·rename_i hlt
  obtain ⟨h1,e1⟩:=List.getElem?_eq_some_iff.1 hi
  obtain ⟨h2,e2⟩:=List.getElem?_eq_some_iff.1 hx
  have:=List.pairwise_iff_getElem.1 hn i t h1 h2 hlt
  omega
 ·cases hi
theorem zih2 {l:Sl} {ls:List Int} {Q:Option Addr→Int→Int→Hp→Prop} {h:Hp} (r:Us h l ls) (hl:ls.length≤8) (asc:ls.Pairwise (· < ·)) (h0:ls=[]→Q none 1 0 h)
  (h1:ls≠ []→∀p h',h≤h'→Tab h' p ls→Q (some p) 0 0 h'):zqx Tryz.prog l Q h:=by
 unfold zqx
 refine ztm (zig2 r hl asc (fun e=> ?_) (fun e=> ?_))
 ·rw [if_pos (by simp)]
  exact h0 e
 rw [if_neg (by simp)]
 refine znw (zeo2 r (by omega) fun out k1 hle1 ho1=> ?_)
 intro m hm
 have hle2:k1≤k1.set m (.map #[] 0):=zny hm
 intro b t hb
 have hle3:=zny (o:=.cells (([out.v,.map (some m)]:List Value).toArray) t (0,0)) hb
 have hm0:h m=none:=zbc hle1 hm
 have hbm:b≠m:=fun e=>by rw [e,zid] at hb;cases hb
 have rout:Us k1 out ls:=ho1.rw fun _=>rfl
 refine ⟨_,rfl,out,?_,?_⟩
 ·intro i v hv
  cases i with
  | zero=>
   rw [zae1]
   exact zpb1 0 v (by simpa [zad,Sl.v] using hv)
  | succ i=>simp [zad] at hv
 refine LoopW1.intro (fun i k=>h≤k∧0≤i∧i≤(ls.length:Int)∧Us k out ls∧LdIs k ⟨b,0,none⟩ [out.v,.map (some m)]∧k m=some (.map (ents (ls.take i.toNat) 0).toArray i.toNat)) (fun i _=>(ls.length-i).toNat)
  ⟨Hp.le_trans hle1 (Hp.le_trans hle2 hle3),by omega,by omega,Rw.mono (Hp.le_trans hle2 hle3) rout,zpb1,hle3 _ _ zid⟩ ?_
 rintro i k ⟨hk,hi0,hi1,hr,hp,hmk⟩
 have hlen:=hr.1
 split
 ·rename_i e
  have e:i<(out.len:Int):=by simpa using e
  refine Rs.get hr (fun _=>rfl) (by omega) hi0 (by omega) fun (x:Int) hx=> ?_
  refine ⟨_,rfl,some m,?_,?_⟩
  ·intro j v hv
   cases j with
   | zero=>
    have:=hp 1 v (by simpa [zad] using hv)
    rw [zae1]
    exact this
   | succ j=>simp [zad] at hv
  have hlt:(ls.take i.toNat).length=i.toNat:=by rw [List.length_take];omega
  refine ⟨m,_,_,rfl,hmk,.inl ⟨?_,?_⟩⟩
  ·have:=zrk1 x (ls.take i.toNat) 0
   rw [znb1 (zyk1 asc hx)] at this
   exact this
  ·have hck:∀o,CKeep k (k.set m o):=fun o=>zif2 hmk rfl
   rw [zal (by omega) (by omega)]
   refine ⟨⟨zdy2 hk hm0,by omega,by omega,Rw.ck (hck _) hr,zaw2 (hck _) hp,?_⟩,by omega⟩
   rw [zid]
   have e1:(i+1).toNat=i.toNat+1:=by omega
   have e2:ls.take (i.toNat+1)=ls.take i.toNat++ [x]:=by rw [List.take_add_one,hx];rfl
   rw [e1,e2,zrl1,hlt]
   have e3:((0+i.toNat:Nat):Int)=i:=by omega
   rw [e3,Nat.zero_add,List.push_toArray]
 ·rename_i e2
  have e2:¬i<(out.len:Int):=by simpa using e2
  have e3:i.toNat=ls.length:=by omega
  rw [e3,List.take_length] at hmk
  exact h1 e _ _ hk ⟨out,m,hp,hr,hmk⟩
def mayR :Int→List Int→Int→Int×Int
 | _,[],_=>(0,0)
 | p,x::r,i=>if x=p then (8,i) else if x<p then (7,i) else mayR x r (i+1)
def mayP :List Int→Int×Int
 | []=>(1,0)
 | x::r=>if 8<r.length+1 then (3,8) else mayR x r 1
theorem zrm1 :∀ {r:List Int} {p i:Int},(mayR p r i).1=0↔(p::r).Pairwise (· < ·)
 | [],p,i=>by simp [mayR]
 | x::r,p,i=>by
  simp only [mayR]
  by_cases h1:x=p
  ·rw [if_pos h1,List.pairwise_cons]
   refine ⟨fun e=>(by cases e),fun h=> ?_⟩
   have:=h.1 x (List.mem_cons_self ..)
   omega
  ·rw [if_neg h1]
   by_cases h2:x<p
   ·rw [if_pos h2,List.pairwise_cons]
    refine ⟨fun e=>(by cases e),fun h=> ?_⟩
    have:=h.1 x (List.mem_cons_self ..)
    omega
   ·rw [if_neg h2,zrm1,List.pairwise_cons (a:=p)]
    refine ⟨fun h=>⟨fun y hy=> ?_,h⟩,fun h=>h.2⟩
    rcases List.mem_cons.1 hy with rfl | hy
    ·omega
    ·have:=(List.pairwise_cons.1 h).1 y hy
     omega
theorem mayP_zero {xs:List Int}:(mayP xs).1=0↔xs≠ []∧xs.length≤8∧xs.Pairwise (· < ·):=by
 cases xs with
 | nil=>simp [mayP]
 | cons x r=>
  simp only [mayP,List.length_cons]
  by_cases h:8<r.length+1
  ·rw [if_pos h]
   refine ⟨fun e=>(by cases e),fun e=> ?_⟩
   omega
  ·rw [if_neg h,zrm1]
   exact ⟨fun e=>⟨by simp,by omega,e⟩,fun e=>e.2.2⟩
theorem zuc1 {P:Program} {l:Sl} {xs:List Int} {Q:Int→Int→Hp→Prop} {h:Hp} (r:Us h l xs) (hq:Q (mayP xs).1 (mayP xs).2 h):zqy P l Q h:=by
 unfold zqy
 have hlen:=r.1
 cases hxs:xs with
 | nil=>
  subst hxs
  rw [if_pos (by simp [hlen])]
  exact hq
 | cons x0 r0=>
  subst hxs
  simp only [List.length_cons] at hlen
  rw [if_neg (show ¬(((l.len:Int)==0)=true) by simp;omega)]
  by_cases h8:(l.len:Int)>8
  ·rw [if_pos (decide_eq_true h8)]
   have:mayP (x0::r0)=(3,8):=by simp only [mayP];rw [if_pos (by omega)]
   rw [this] at hq
   exact hq
  rw [if_neg fun hh=>h8 (of_decide_eq_true hh)]
  have hm:mayP (x0::r0)=mayR x0 r0 1:=by simp only [mayP];rw [if_neg (by omega)]
  rw [hm] at hq
  refine LoopW1.intro (fun i k=>k=h∧1≤i∧i≤((r0.length:Int)+1)∧∃p,(x0::r0)[(i-1).toNat]?=some p∧mayR p ((x0::r0).drop i.toNat) i=mayR x0 r0 1) (fun i _=>(r0.length+1-i).toNat)
   ⟨rfl,by omega,by omega,x0,rfl,rfl⟩ ?_
  rintro i k ⟨rfl,hi1,hi2,p,hp,hmr⟩
  split
  ·rename_i e3
   have e3:i<(l.len:Int):=by simpa using e3
   have hll:((x0::r0).length:Int)=(r0.length:Int)+1:=by simp
   rw [zal (n:=i-1) (by omega) (by omega)]
   refine r.get (fun _=>rfl) (by omega) (by omega) (by omega) fun (x:Int) hx=> ?_
   refine r.get (fun _=>rfl) (by omega) (by omega) (by omega) fun (y:Int) hy=> ?_
   rw [hp] at hy;cases hy
   have hd:(x0::r0).drop i.toNat=x::(x0::r0).drop (i.toNat+1):=by
    obtain ⟨h3,h4⟩:=List.getElem?_eq_some_iff.1 hx
    rw [List.drop_eq_getElem_cons h3,h4]
   rw [hd] at hmr
   simp only [mayR] at hmr
   by_cases hxp:x=p
   ·rw [if_pos (by simpa using hxp)]
    rw [if_pos hxp] at hmr
    rw [←hmr] at hq
    exact hq
   rw [if_neg (by simpa using hxp)]
   rw [if_neg hxp] at hmr
   refine r.get (fun _=>rfl) (by omega) (by omega) (by omega) fun (x':Int) hx'=> ?_
   rw [hx] at hx';cases hx'
   refine r.get (fun _=>rfl) (by omega) (by omega) (by omega) fun (y':Int) hy'=> ?_
   rw [hp] at hy';cases hy'
   by_cases hlt:x<p
   ·rw [if_pos (decide_eq_true hlt)]
    rw [if_pos hlt] at hmr
    rw [←hmr] at hq
    exact hq
   rw [if_neg fun hh=>hlt (of_decide_eq_true hh)]
   rw [if_neg hlt] at hmr
   rw [zal (by omega) (by omega)]
   have e1:(i+1).toNat=i.toNat+1:=by omega
   have e2:(i+1-1).toNat=i.toNat:=by omega
   exact ⟨⟨rfl,by omega,by omega,x,by rw [e2];exact hx,by rw [e1];exact hmr⟩,by omega⟩
  ·rename_i e3
   have e3:¬i<(l.len:Int):=by simpa using e3
   rw [List.drop_eq_nil_of_le (by simp;omega)] at hmr
   rw [←hmr] at hq
   exact hq
theorem zgy2 {l:Sl} {ls:List Int} {Q:Option Addr→Int→Int→Hp→Prop} {h:Hp} (r:Us h l ls) (h0:(mayP ls).1≠0→Q none (mayP ls).1 (mayP ls).2 h)
  (h1:(mayP ls).1=0→∀p h',h≤h'→Tab h' p ls→Q (some p) 0 0 h'):zqx Tryz.prog l Q h:=by
 by_cases hm:(mayP ls).1=0
 ·obtain ⟨hne,hl,hasc⟩:=mayP_zero.1 hm
  exact zih2 r hl hasc (fun e=>absurd e hne) fun _=>h1 hm
 ·unfold zqx
  refine ztm (zuc1 r ?_)
  rw [if_pos (by simpa using hm)]
  exact h0 hm
end Lf

namespace Lf
open Go Go.Proofs
def All2 {α β:Type} (R:α→β→Prop):List α→List β→Prop
 | [],[]=>True
 | a::l,b::m=>R a b∧All2 R l m
 | _,_=>False
section
variable {α β:Type} {R S:α→β→Prop}
theorem All2.len :∀ {l:List α} {m:List β},All2 R l m→l.length=m.length
 | [],[],_=>rfl
 | _::l,_::m,h=>by simp [All2.len h.2]
 | [],_::_,h=>h.elim
 | _::_,[],h=>h.elim
theorem All2.imp (hi:∀a b,R a b→S a b):∀ {l:List α} {m:List β},All2 R l m→All2 S l m
 | [],[],_=>trivial
 | _::_,_::_,h=>⟨hi _ _ h.1,All2.imp hi h.2⟩
 | [],_::_,h=>h.elim
 | _::_,[],h=>h.elim
theorem All2.get :∀ {l:List α} {m:List β} {i:Nat} {a:α},All2 R l m→l[i]?=some a→∃b,m[i]?=some b∧R a b
 | [],_,_,_,_,e=>by simp at e
 | _::_,[],_,_,h,_=>h.elim
 | _::_,b::_,0,_,h,e=>by simp at e;subst e;exact ⟨b,rfl,h.1⟩
 | _::_,_::_,i+1,_,h,e=>by
  rw [List.getElem?_cons_succ] at e
  obtain ⟨b,h1,h2⟩:=All2.get h.2 e
  exact ⟨b,by simpa using h1,h2⟩
theorem All2.get' :∀ {l:List α} {m:List β} {i:Nat} {b:β},All2 R l m→m[i]?=some b→∃a,l[i]?=some a∧R a b
 | _,[],_,_,_,e=>by simp at e
 | [],_::_,_,_,h,_=>h.elim
 | a::_,_::_,0,_,h,e=>by simp at e;subst e;exact ⟨a,rfl,h.1⟩
 | _::_,_::_,i+1,_,h,e=>by
  rw [List.getElem?_cons_succ] at e
  obtain ⟨b,h1,h2⟩:=All2.get' h.2 e
  exact ⟨b,by simpa using h1,h2⟩
theorem All2.app :∀ {l l':List α} {m m':List β},All2 R l m→All2 R l' m'→All2 R (l++l') (m++m')
 | [],_,[],_,_,h=>h
 | _::_,_,_::_,_,h,h'=>⟨h.1,All2.app h.2 h'⟩
 | [],_,_::_,_,h,_=>h.elim
 | _::_,_,[],_,h,_=>h.elim
theorem All2.drop :∀ {l:List α} {m:List β} (n:Nat),All2 R l m→All2 R (l.drop n) (m.drop n)
 | _,_,0,h=>h
 | [],[],_+1,h=>h
 | _::_,_::_,n+1,h=>All2.drop n h.2
 | [],_::_,_+1,h=>h.elim
 | _::_,[],_+1,h=>h.elim
theorem All2.take :∀ {l:List α} {m:List β} (n:Nat),All2 R l m→All2 R (l.take n) (m.take n)
 | _,_,0,_=>trivial
 | [],[],_+1,h=>h
 | _::_,_::_,n+1,h=>⟨h.1,All2.take n h.2⟩
 | [],_::_,_+1,h=>h.elim
 | _::_,[],_+1,h=>h.elim
end
def ProcAt (h:Hp) (q:S_api_Proc) (p:PProc):Prop:=q.Part=p.part∧∃is,InsS h q.Code is∧is.map insOf=p.code
abbrev ProcS (h:Hp) (l:Sl) (ps:List S_api_Proc):Prop:=Rs h sh_api_Proc 2 l ps
structure CfgAt (h:Hp) (c:S_api_Config) (p:PCfg):Prop where
 labels:Us h c.Labels p.labels
 table:Is h c.Table p.table
 fuel:c.Fuel=p.fuel
 lane:c.Lane=p.lane
 locks:c.Locks=p.locks
 log:c.Log=p.log
 procs:∃ps,ProcS h c.Procs ps∧All2 (ProcAt h) ps p.procs
section
variable {h h':Hp}
theorem ProcAt.mono (hl:h≤h') {q:S_api_Proc} {p:PProc} (a:ProcAt h q p):ProcAt h' q p:=by
 obtain ⟨h1,is,h2,h3⟩:=a
 exact ⟨h1,is,Rw.mono hl h2,h3⟩
theorem CfgAt.mono (hl:h≤h') {c:S_api_Config} {p:PCfg} (a:CfgAt h c p):CfgAt h' c p:=by
 obtain ⟨ps,h1,h2⟩:=a.procs
 exact ⟨Rw.mono hl a.labels,Rw.mono hl a.table,a.fuel,a.lane,a.locks,a.log,ps,Rw.mono hl h1,h2.imp fun _ _ e=>e.mono hl⟩
end
section
variable {P:Program} {h:Hp}
theorem zat1 {n a b:Int} {Q:Bool→Hp→Prop} (hq:Q (within n a b) h):zvg P n a b Q h:=by
 unfold zvg
 exact letW hq
theorem zud1 {n most:Int} {Q:Int→Hp→Prop} (hq:Q (cntE most n) h):zdn1 P n most Q h:=by
 unfold zdn1
 unfold cntE at hq
 by_cases h1:n=0
 ·rw [if_pos h1] at hq;rw [if_pos (by simpa using h1)];exact hq
 ·rw [if_neg h1] at hq
  rw [if_neg (by simpa using h1)]
  by_cases h2:most<n
  ·rw [if_pos h2] at hq;rw [if_pos (decide_eq_true h2)];exact hq
  ·rw [if_neg h2] at hq;rw [if_neg (fun e=>h2 (of_decide_eq_true e))];exact hq
def zem (part n:Int):Int:=if part=2 then rngE 1 256 n else if part=3 then rngE 1 64 n else if part=4 then rngE 0 8 n else if part=5 then rngE 0 4096 n else 0
theorem zrn1 {part n:Int} {Q:Int→Hp→Prop} (hq:Q (zem part n) h):zvf Tryz.prog part n Q h:=by
 unfold zvf
 unfold zem at hq
 have one:∀a b,Q (rngE a b n) h→(if (!(within n a b))=true then Q 2 h else Q 0 h):=fun a b hq=>by
  unfold rngE at hq
  cases hw:within n a b with
  | true=>rw [hw] at hq;exact hq
  | false=>rw [hw] at hq;exact hq
 by_cases h2:part=2
 ·rw [if_pos h2] at hq;rw [if_pos (by simpa using h2)]
  exact zgw (zat1 (one 1 256 hq))
 ·rw [if_neg h2] at hq;rw [if_neg (by simpa using h2)]
  by_cases h3:part=3
  ·rw [if_pos h3] at hq;rw [if_pos (by simpa using h3)]
   exact zgw (zat1 (one 1 64 hq))
  ·rw [if_neg h3] at hq;rw [if_neg (by simpa using h3)]
   by_cases h4:part=4
   ·rw [if_pos h4] at hq;rw [if_pos (by simpa using h4)]
    exact zgw (zat1 (one 0 8 hq))
   ·rw [if_neg h4] at hq;rw [if_neg (by simpa using h4)]
    by_cases h5:part=5
    ·rw [if_pos h5] at hq;rw [if_pos (by simpa using h5)]
     exact zgw (zat1 (one 0 4096 hq))
    ·rw [if_neg h5] at hq;rw [if_neg (by simpa using h5)]
     exact hq
end
theorem zii1 {h:Hp} {s:Sl} {xs:List Int} {p:Int→Bool} {f:FnV} {Q:Int→Hp→Prop} (r:Is h s xs) (hl:xs.length≤1000000)
  (hc:∀x∈xs,∀(k:Hp) (K:Bool→Hp→Prop),h≤k→(∀k',h≤k'→K (p x) k')→CallV Tryz.prog tb (.func (.func f.g) f.first f.captured) [.int .i64 x] zag K k)
  (hq:∀i h',h≤h'→(0≤i↔xs.any p=true)→Q i h'):zek Tryz.prog s f Q h:=by
 unfold zek
 have hlen:=r.1
 refine LoopW1.intro (fun i k=>h≤k∧0≤i∧i≤(xs.length:Int)∧∀x∈xs.take i.toNat,p x=false) (fun i _=>(xs.length-i).toNat) ⟨Hp.le_refl h,by omega,by omega,fun x hx=>by simp at hx⟩ ?_
 rintro i k ⟨hle,h0,hi,hall⟩
 by_cases h3:i<(xs.length:Int)
 ·rw [if_pos (decide_eq_true (by omega))]
  refine Rs.get (sh:=shInt .i64) (Rw.mono hle r) (fun _=>rfl) (by omega) h0 h3 fun x hx=> ?_
  refine hc x (List.mem_of_getElem? hx) k _ hle fun k' hle'=> ?_
  cases hp:p x with
  | true=>
   rw [if_pos rfl]
   exact hq i k' hle' ⟨fun _=>List.any_eq_true.2 ⟨x,List.mem_of_getElem? hx,hp⟩,fun _=>h0⟩
  | false=>
   rw [if_neg (by simp),zal (by omega) (by omega)]
   refine ⟨⟨hle',by omega,by omega,fun y hy=> ?_⟩,by omega⟩
   have:(i+1).toNat=i.toNat+1:=by omega
   rw [this,List.take_add_one,hx] at hy
   rcases List.mem_append.1 hy with hy | hy
   ·exact hall y hy
   ·simp at hy;rw [hy];exact hp
 ·rw [if_neg (fun e=>h3 (by have:=of_decide_eq_true e;omega))]
  refine hq (-1) k hle ⟨fun e=>by omega,fun e=> ?_⟩
  obtain ⟨x,hx,hp⟩:=List.any_eq_true.1 e
  have:xs.take i.toNat=xs:=List.take_of_length_le (by omega)
  rw [hall x (by rw [this];exact hx)] at hp
  cases hp
theorem zbl2 {s:Sl} {xs:List Int} {Q:Sl→Hp→Prop} {h:Hp} (r:Is h s xs) (hl:xs.length≤1000000) (hq:∀out h',h≤h'→OwnI h h' out xs→Q out h'):zhm Tryz.prog s Q h:=by
 unfold zhm
 refine ⟨s.base.isNone,zkp1 (tb_ok.und 23 ty23 rfl) s,?_⟩
 cases hb:s.base with
 | none=>
  rw [if_pos (show (none:Option Addr).isNone=true from rfl)]
  have:xs=[]:=by
   rcases r.2.2 with e | ⟨a,ha,_⟩
   ·exact List.length_eq_zero_iff.1 (by omega)
   ·rw [hb] at ha;cases ha
  subst this
  exact hq _ h (Hp.le_refl h) ⟨rfl,Nat.le_refl _,.inl ⟨rfl,rfl⟩⟩
 | some a=>
  rw [if_neg (by simp)]
  refine zaq1 (xs:=([]:List Int)) (enc:=fun x=>zad ((shInt .i64).enc x)) (sz:=1) (Hp.le_refl h) rfl (fun _=>rfl) fun a h1 hle1 ho1=> ?_
  refine zko1 hle1 ho1 (Rw.mono hle1 r) (fun _=>rfl) (fun _=>rfl) rfl ?_ fun l' h' hle' hown _=> ?_
  ·simp;omega
  ·exact hq l' h' hle' hown
theorem zue1 {h:Hp} {t:Sl} {xs:List Int} {n:Int} {Q:Option Addr→Int→Int→Hp→Prop} (r:Is h t xs) (h1:1≤n) (h8:n≤8) (hne:xs≠ []) (hl:xs.length≤64)
  (hq:∀p i h',h≤h'→Q p (if (xs.all fun x=>within x 0 (n-1))=false then 2 else 0) i h'):zdo1 Tryz.prog t n Q h:=by
 unfold zdo1
 have hlen:=r.1
 have hpos:0<xs.length:=List.length_pos_iff.2 hne
 intro b ty hn
 have hle:=zny (o:=.cells (#[Value.int .i64 n]) ty (0,0)) hn
 have hld:LdIs (h.set b (.cells (#[Value.int .i64 n]) ty (0,0))) ⟨b,0,none⟩ [.int .i64 n]:=zpb1 (cs:=[Value.int .i64 n])
 refine ld_at (sh:=shInt .i64) n hld ?_
 refine ⟨n,fun _=>hld,?_⟩
 refine letW (letW ?_)
 rw [if_neg (by simp;omega),if_neg (by simp;omega)]
 have hany:(xs.any fun x=>decide (x<0) || decide (x≥n))= !(xs.all fun x=>within x 0 (n-1)):=by
  rw [Bool.eq_iff_iff]
  simp only [List.any_eq_true,Bool.not_eq_true',List.all_eq_false,Bool.or_eq_true,decide_eq_true_eq]
  constructor
  ·rintro ⟨x,hx,hb⟩
   exact ⟨x,hx,by rw [within_true];omega⟩
  ·rintro ⟨x,hx,hb⟩
   exact ⟨x,hx,by rw [within_true] at hb;omega⟩
 refine zgx (f:=⟨zva, #[], #[.pointer (some ⟨b,0,none⟩)]⟩) (zii1 (p:=fun x=>decide (x<0) || decide (x≥n)) (Rw.mono hle r) (by omega) (fun x _ k K hk hK=> ?_) fun i h' hle' hi=> ?_)
 ·refine zmw (g:=zva) rfl (ziu1 ?_)
  unfold zfa1
  refine ⟨n,fun _=>zev hk hld,letW (hK k hk)⟩
 ·dsimp only
  rw [hany] at hi
  cases ha:(xs.all fun x=>within x 0 (n-1)) with
  | false=>
   rw [ha] at hi hq
   rw [if_pos (decide_eq_true (hi.2 rfl))]
   exact hq none i h' (Hp.le_trans hle hle')
  | true=>
   rw [ha] at hi hq
   rw [if_neg (fun e=>by have:=hi.1 (of_decide_eq_true e);cases this)]
   refine ld_at (sh:=shInt .i64) n (zev hle' hld) ?_
   refine ztp (zbl2 (Rw.mono (Hp.le_trans hle hle') r) (by omega) fun out h2 hle2 ho=> ?_)
   refine ⟨⟨zev (Hp.le_trans hle' hle2) hld,trivial⟩,?_⟩
   intro b2 t2 hn2
   exact hq _ 0 _ (Hp.le_trans (Hp.le_trans hle hle') (Hp.le_trans hle2 (zny hn2)))
end Lf

namespace Lf
open Go Go.Proofs
def numsR :List Int→Int→Int×Int→Int×Int
 | [],_,z=>z
 | n::r,i,z=>if zem i n≠0 then (zem i n,i) else numsR r (i+1) z
def restP (c:PCfg):Int×Int:=if c.procs=[] then (1,6) else if 32<c.procs.length then (3,6) else zsn c.labels.length c.locks c.procs 0
theorem zbm2 (m:Int) (c:PCfg):cfgP m c=if m≠0 then (m,0) else if c.table=[] then (1,1) else if 64<c.table.length then (3,1)
  else if (c.table.all fun p=>within p 0 (c.labels.length-1))=false then (2,1) else numsR [0,0,c.fuel,c.lane,c.locks,c.log] 0 (restP c):=by
 unfold cfgP
 have h0:zem 0 0=0:=rfl
 have h1:zem (0+1) 0=0:=rfl
 have h2:zem (0+1+1) c.fuel=rngE 1 256 c.fuel:=rfl
 have h3:zem (0+1+1+1) c.lane=rngE 1 64 c.lane:=rfl
 have h4:zem (0+1+1+1+1) c.locks=rngE 0 8 c.locks:=rfl
 have h5:zem (0+1+1+1+1+1) c.log=rngE 0 4096 c.log:=rfl
 simp only [numsR,h0,h1,h2,h3,h4,h5,ne_eq,not_true_eq_false,if_false]
 unfold rngE restP
 cases within c.fuel 1 256<;>cases within c.lane 1 64<;>cases within c.locks 0 8<;>cases within c.log 0 4096<;>simp
def cfgE (c:PCfg):Int×Int:=cfgP (mayP c.labels).1 c
theorem znc1 {h:Hp} {c:S_api_Config} {p:PCfg} {Q:Int→Int→Hp→Prop} (a:CfgAt h c p) (hq:∀h',h≤h'→Q (cfgE p).1 (cfgE p).2 h'):zhg1 Tryz.prog c Q h:=by
 unfold zhg1
 have le:=Hp.le_refl h
 unfold cfgE at hq
 rw [zbm2] at hq
 refine ztm (zuc1 a.labels ?_)
 dsimp only
 by_cases h1:(mayP p.labels).1≠0
 ·rw [if_pos h1] at hq
  rw [if_pos (by simpa using h1)]
  exact hq h le
 rw [if_neg h1] at hq
 rw [if_neg (by simpa using h1)]
 obtain ⟨hl1,hl2,_⟩:=mayP_zero.1 (Classical.not_not.1 h1)
 have hll:=a.labels.1
 have hlt:=a.table.1
 have hpos:0<p.labels.length:=List.length_pos_iff.2 hl1
 refine ztn (zud1 ?_)
 by_cases h2:p.table=[]
 ·rw [if_pos h2] at hq
  have e:cntE 64 (c.Table.len:Int)=1:=by unfold cntE;rw [if_pos (by rw [hlt,h2];rfl)]
  rw [e,if_pos (by rfl)]
  exact hq h le
 rw [if_neg h2] at hq
 have hpt:0<p.table.length:=List.length_pos_iff.2 h2
 by_cases h3:64<p.table.length
 ·rw [if_pos h3] at hq
  have e:cntE 64 (c.Table.len:Int)=3:=by unfold cntE;rw [if_neg (by omega),if_pos (by omega)]
  rw [e,if_pos (by rfl)]
  exact hq h le
 rw [if_neg h3] at hq
 have e:cntE 64 (c.Table.len:Int)=0:=by unfold cntE;rw [if_neg (by omega),if_neg (by omega)]
 rw [e,if_neg (by simp)]
 rw [hll]
 refine zmb1 (zue1 a.table (by omega) (by omega) h2 (by omega) fun sp si h3' le3=> ?_)
 dsimp only
 by_cases h4:(p.table.all fun x=>within x 0 (p.labels.length-1))=false
 ·rw [if_pos h4] at hq
  rw [if_pos (by rw [if_pos h4];rfl),if_pos h4]
  exact hq h3' le3
 rw [if_neg h4] at hq
 rw [if_neg (by rw [if_neg h4];simp)]
 refine zaq1 (h0:=h3') (xs:=([0,0,p.fuel,p.lane,p.locks,p.log]:List Int)) (enc:=fun x=>zad ((shInt .i64).enc x)) (sz:=1) (Hp.le_refl h3') (by rw [a.fuel,a.lane,a.locks,a.log];rfl) (fun _=>rfl) fun ad h4' le4 o4=> ?_
 have r4:Is h4' ⟨some ad,6,6⟩ [0,0,p.fuel,p.lane,p.locks,p.log]:=o4.rw fun _=>rfl
 have le4':=Hp.le_trans le3 le4
 obtain ⟨ps,hps,hall⟩:=a.procs
 have hlp:=hps.1
 have hlp2:=hall.len
 refine LoopW1.intro (fun i k=>h4'≤k∧0≤i∧i≤6∧numsR (([0,0,p.fuel,p.lane,p.locks,p.log]:List Int).drop i.toNat) i (restP p)=numsR [0,0,p.fuel,p.lane,p.locks,p.log] 0 (restP p)) (fun i _=>(6-i).toNat) ⟨Hp.le_refl _,by omega,by omega,rfl⟩ ?_
 rintro i k ⟨hle,h0,hi,he⟩
 have hlek:=Hp.le_trans le4' hle
 by_cases h5:i<6
 ·rw [if_pos (decide_eq_true h5)]
  refine Rs.get (sh:=shInt .i64) (l:=⟨some ad,6,6⟩) (Rw.mono hle r4) (fun _=>rfl) (by omega) h0 (by simpa using h5) fun x hx=> ?_
  refine zxv (zrn1 ?_)
  have hd:([0,0,p.fuel,p.lane,p.locks,p.log]:List Int).drop i.toNat=x::([0,0,p.fuel,p.lane,p.locks,p.log]:List Int).drop (i.toNat+1):=by
   obtain ⟨hx1,hx2⟩:=List.getElem?_eq_some_iff.1 hx
   rw [←hx2];exact List.drop_eq_getElem_cons hx1
  rw [hd,numsR] at he
  by_cases h6:zem i x≠0
  ·rw [if_pos h6] at he
   rw [if_pos (by simpa using h6)]
   rw [←he] at hq
   exact hq k hlek
  ·rw [if_neg h6] at he
   rw [if_neg (by simpa using h6),zal (by omega) (by omega)]
   refine ⟨⟨hle,by omega,by omega,?_⟩,by omega⟩
   have:(i+1).toNat=i.toNat+1:=by omega
   rw [this];exact he
 ·rw [if_neg (fun e=>h5 (of_decide_eq_true e))]
  have:i=6:=by omega
  subst this
  rw [show ([0,0,p.fuel,p.lane,p.locks,p.log]:List Int).drop (6:Int).toNat=[] from rfl,numsR] at he
  rw [←he] at hq
  unfold restP at hq
  refine ztn (zud1 ?_)
  by_cases h6:p.procs=[]
  ·rw [if_pos h6] at hq
   have e:cntE 32 (c.Procs.len:Int)=1:=by unfold cntE;rw [if_pos (by rw [hlp,hlp2,h6];rfl)]
   rw [e,if_pos (by rfl)]
   exact hq k hlek
  rw [if_neg h6] at hq
  have hpp:0<p.procs.length:=List.length_pos_iff.2 h6
  by_cases h7:32<p.procs.length
  ·rw [if_pos h7] at hq
   have e:cntE 32 (c.Procs.len:Int)=3:=by unfold cntE;rw [if_neg (by omega),if_pos (by omega)]
   rw [e,if_pos (by rfl)]
   exact hq k hlek
  rw [if_neg h7] at hq
  have e:cntE 32 (c.Procs.len:Int)=0:=by unfold cntE;rw [if_neg (by omega),if_neg (by omega)]
  rw [e,if_neg (by simp)]
  refine LoopW1.intro (fun i k'=>k≤k'∧0≤i∧i≤(ps.length:Int)∧zsn p.labels.length p.locks (p.procs.drop i.toNat) i=zsn p.labels.length p.locks p.procs 0) (fun i _=>(ps.length-i).toNat) ⟨Hp.le_refl _,by omega,by omega,rfl⟩ ?_
  rintro i k' ⟨hle',h0,hi,he⟩
  have hlk:=Hp.le_trans hlek hle'
  by_cases h8:i<(ps.length:Int)
  ·rw [if_pos (decide_eq_true (by omega))]
   refine Rs.get (sh:=sh_api_Proc) (Rw.mono hlk hps) (fun _=>rfl) (by omega) h0 h8 fun q hx=> ?_
   obtain ⟨pp,hpp1,hq1,is,his,hmap⟩:=hall.get hx
   have hd:p.procs.drop i.toNat=pp::p.procs.drop (i.toNat+1):=by
    obtain ⟨hx1,hx2⟩:=List.getElem?_eq_some_iff.1 hpp1
    rw [←hx2];exact List.drop_eq_getElem_cons hx1
   rw [hd,zsn] at he
   rw [zal (n:=(p.labels.length:Int)-1) (by omega) (by omega)]
   refine zgw (zat1 ?_)
   rw [hq1]
   by_cases h9:within pp.part 0 ((p.labels.length:Int)-1)=false
   ·rw [if_pos h9] at he
    rw [if_pos (by rw [h9];rfl),zal (by omega) (by omega)]
    rw [←he] at hq
    exact hq k' hlk
   rw [if_neg h9] at he
   rw [if_neg (by cases hw:within pp.part 0 ((p.labels.length:Int)-1)<;>simp_all)]
   refine zgj1 (zna1 (Rw.mono hlk his) fun k2 le2=> ?_)
   dsimp only
   rw [hmap,a.locks]
   by_cases h10:(codeP pp.code p.locks).1≠0
   ·rw [if_pos h10] at he
    rw [if_pos (by simpa using h10),zal (by omega) (by omega)]
    rw [←he] at hq
    exact hq k2 (Hp.le_trans hlk le2)
   ·rw [if_neg h10] at he
    rw [if_neg (by simpa using h10),zal (by omega) (by omega)]
    refine ⟨⟨Hp.le_trans hle' le2,by omega,by omega,?_⟩,by omega⟩
    have:(i+1).toNat=i.toNat+1:=by omega
    rw [this];exact he
  ·rw [if_neg (fun e=>h8 (by have:=of_decide_eq_true e;omega))]
   rw [List.drop_eq_nil_of_le (by omega),zsn] at he
   rw [←he] at hq
   exact hq k' hlk
end Lf

namespace Lf
open Go Go.Proofs
theorem zwu1 {α:Type} {h0 h:Hp} {sz bytes:Nat} {enc:α→List Value} {zero:List Value} {l x:Sl} {xs ys:List α} {K:Sl→Hp→Prop} (hw:h0≤h) (o:Rw h sz enc l xs) (hf:l.len=l.cap) (r:Rw h sz enc x ys) (hne:ys≠ [])
  (henc:∀x,(enc x).length=sz) (hok:∀x,zcz (enc x)=true) (hz:zero.length=sz) (hb:xs.length+ys.length≤140737488355328∧(xs.length+ys.length)*bytes≤140737488355328)
  (hk:∀l' h',h0≤h'→Own h0 h' sz enc l' (xs++ys)→h≤h'→K l' h'):zaj sz bytes zero l x K h:=by
 obtain ⟨h1,h2⟩:=o
 obtain ⟨hx1,hx2⟩:=r
 have hpos:0<ys.length:=List.length_pos_iff.2 hne
 refine ⟨ys.flatMap enc,by rw [hx1];exact hx2,xs.flatMap enc,by rw [h1];exact h2,by rw [h1,hx1];exact hb,zts1 hok ys,fun hcap=>by omega,fun hcap c b t hc hbn=> ?_⟩
 have hh:h≤(h.set b (.cells (xs.flatMap enc++ys.flatMap enc++zbu zero (c-(l.len+x.len))).toArray t (0,0))):=zny hbn
 refine hk _ _ (Hp.le_trans hw hh) ⟨by simp [h1,hx1],hc,.inr ⟨b,xs.flatMap enc++ys.flatMap enc++zbu zero (c-(l.len+x.len)),t,rfl,by simp [Hp.set],?_,?_,?_⟩⟩ hh
 ·have hzl:∀k,(zbu zero k).length=k*sz:=fun k=>by simp [zbu,hz]
  rw [List.length_append,List.length_append,zbw henc,zbw henc,hzl,←Nat.add_mul,←Nat.add_mul]
  show _=c*sz
  congr 1
  omega
 ·have e4:(l.len+x.len)*sz=(xs.flatMap enc++ys.flatMap enc).length:=by
   rw [List.length_append,zbw henc,zbw henc,h1,hx1,Nat.add_mul]
  show List.take ((l.len+x.len)*sz) _=_
  rw [e4,List.take_left,List.flatMap_append]
 ·cases e0:h0 b with
  | none=>rfl
  | some ob=>rw [hw _ _ e0] at hbn;cases hbn
theorem zuf1 {h:Hp} {cs:List Value} (bs:List UInt8) {n:Nat} {K:Addr→Hp→Prop} (hc:cs=bs.map fun b=>.int .u8 (b.toNat:Int)) (hn:n=bs.length) (hk:∀a h',h≤h'→Bs h' ⟨some a,n,n⟩ bs→K a h'):
  NewW cs (fun a h2=>MarkW (some a) (fun _ h3=>K a h3) h2) h:=by
 subst hn
 intro b t hb
 refine ⟨b,0,cs.toArray,t,rfl,zid,?_⟩
 refine hk ⟨b,0,none⟩ _ (fun b' o e=> ?_) ⟨rfl,?_,.inr ⟨_,rfl,fun i v hv=> ?_⟩⟩
 ·have hne:b'≠b:=fun e'=>by rw [e',hb] at e;cases e
  simp [Hp.set,hne,e]
 ·rw [zbw zcb]
 ·rw [zku1,←hc] at hv
  rw [zdh]
  simp only [hcell,Hp.set,if_true,Nat.zero_add]
  simpa using hv
theorem zgz2 {h:Hp} {n:Int} {K:Sl→Hp→Prop} (h0:0≤n) (h1:n≤1000000) (hk:∀l h',h≤h'→OwnB h h' l []→K l h'):MakeW 1 [.int .u8 0] 0 n K h:=by
 refine ⟨⟨by omega,h0,by omega,by omega⟩,fun b t hb=> ?_⟩
 refine hk _ _ (zny hb) ⟨rfl,by simp,.inr ⟨b,zbu [.int .u8 0] n.toNat,t,rfl,zid,?_,rfl,hb⟩⟩
 simp [zbu]
theorem zkv1 {x:PIns} {n a b:Int} (hab:a≤b) (h:(zbv x n a).1=0):(zbv x n b).1=0:=by
 unfold zbv at h ⊢
 by_cases h1:x.op<0∨34≤x.op
 ·rw [if_pos h1] at h;cases h
 rw [if_neg h1] at h ⊢
 by_cases h2:regP (zba x.op).1 x.a≠0
 ·rw [if_pos h2] at h;exact absurd h h2
 rw [if_neg h2] at h ⊢
 by_cases h3:regP (zba x.op).2.1 x.b≠0
 ·rw [if_pos h3] at h;exact absurd h h3
 rw [if_neg h3] at h ⊢
 by_cases h4:regP (zba x.op).2.2.1 x.c≠0
 ·rw [if_pos h4] at h;exact absurd h h4
 rw [if_neg h4] at h ⊢
 by_cases h5:(zba x.op).2.2.2=false∧x.imm≠0
 ·rw [if_pos h5] at h;cases h
 rw [if_neg h5] at h ⊢
 by_cases h6:(x.op=22∨x.op=23)∧(x.imm<0∨n<x.imm)
 ·rw [if_pos h6] at h;cases h
 rw [if_neg h6] at h ⊢
 by_cases h7:(x.op=29∨x.op=30)∧(x.imm<0∨a≤x.imm)
 ·rw [if_pos h7] at h;cases h
 rw [if_neg (by omega)]
theorem zyl1 {l:List PIns} {a b:Int} (h0:0≤a) (hab:a≤b) (hb:b≤8) (h:(codeP l a).1=0):(codeP l b).1=0:=by
 obtain ⟨h1,h2⟩:=(zfr ⟨h0,by omega⟩).1 h
 exact (zfr ⟨by omega,hb⟩).2 ⟨h1,fun x hx=>zkv1 hab (h2 x hx)⟩
theorem zpi1 {h:Hp} {l:Sl} {xs:List S_api_Ins} {Q:Sl→Int→Int→Hp→Prop} (r:InsS h l xs) (hv:(codeP (xs.map insOf) 8).1=0) (hq:∀out h',h≤h'→OwnB h h' out (codeB (xs.map insOf))→Q out 0 0 h'):zve Tryz.prog l Q h:=by
 unfold zve
 have hlen:=r.1
 have hl:=((zfr ⟨by decide,by decide⟩).1 hv).1
 rw [List.length_map] at hl
 refine zgj1 (zna1 r fun h1 le1=> ?_)
 dsimp only
 rw [hv,if_neg (by simp),zal (by omega) (by omega)]
 refine zgz2 (by omega) (by omega) fun b0 h2 le2 o2=> ?_
 refine zua1 (h0:=h1) (sh:=sh_api_Ins) (xs:=xs) (e:=fun x=>insB (insOf x)) (K:=fun b h3=>Q ⟨b.base,b.len,b.cap⟩ 0 0 h3)
  (body:=fun x b k h3=>NewW [(.int .u8 (IntKind.wrap .u8 x.Op)),(.int .u8 (IntKind.wrap .u8 x.A)),(.int .u8 (IntKind.wrap .u8 x.B)),(.int .u8 (IntKind.wrap .u8 x.C))] (fun a h4=>
   zaj 1 1 [(.int .u8 (0:Int))] ⟨b.base,b.len,b.cap⟩ ⟨(some a),4,4⟩ (fun r3 h5=>
   LoopW2 (α1:=Sl) (α2:=Int) (fun again1 b1 t45 h6=>
   (if (decide (t45<(8:Int)))=true then
   ((0:Int)≤(IntKind.wrap .i64 ((8:Int)*t45))∧NewW [(.int .u8 (IntKind.wrap .u8 (shrI .u64 (IntKind.wrap .u64 x.Imm) (IntKind.wrap .i64 ((8:Int)*t45)))))] (fun a1 h7=>
   zaj 1 1 [(.int .u8 (0:Int))] ⟨b1.base,b1.len,b1.cap⟩ ⟨(some a1),1,1⟩ (fun r4 h8=>
   again1 r4 (IntKind.wrap .i64 (t45+(1:Int))) h8) h7) h6)
   else
   k ⟨b1.base,b1.len,b1.cap⟩ h6)) r3 (0:Int) h5) h4) h3) 12 (fun _=>rfl) (by omega) (Rw.mono le1 r) le2 o2 (by omega) (fun x _=>by simp [insB,zaf]) (fun i x b bs' h3 k hx hle ho hlb hk=> ?_) fun l' h' hle' ho'=> ?_
 ·have hi:=(List.getElem?_eq_some_iff.1 hx).1
  have hlb:bs'.length≤0+i*12:=hlb
  refine zca hle ho (leB x.Op 1++(leB x.A 1++(leB x.B 1++leB x.C 1))) (by simp [leB,wrap8]) rfl (by simp [zaf];omega) fun l4 h4 hle4 ho4 _=> ?_
  refine zpg1 (k:=8) rfl (by omega) hle4 ho4 (by simp [zaf];omega) fun l5 h5 hle5 ho5=> ?_
  refine hk _ _ hle5 ?_
  rw [zcm (by omega)] at ho5
  simpa [insB,insOf,List.append_assoc] using ho5
 ·have e:(xs.flatMap fun x=>insB (insOf x))=codeB (xs.map insOf):=by
   unfold codeB
   rw [List.flatMap_map]
  rw [List.nil_append,e] at ho'
  refine hq _ _ (Hp.le_trans le1 hle') ?_
  obtain ⟨q1,q2,q3⟩:=ho'
  refine ⟨q1,q2,q3.imp id ?_⟩
  rintro ⟨b,cs,t,e1,e2,e3,e4,e5⟩
  exact ⟨b,cs,t,e1,e2,e3,e4,zbc le1 e5⟩
end Lf

namespace Lf
open Go Go.Proofs
theorem zkw1 {α:Type} {h0 h1 h:Hp} {sz:Nat} {enc:α→List Value} {l:Sl} {xs:List α} (hle:h0≤h1) (o:Own h1 h sz enc l xs):Own h0 h sz enc l xs:=by
 obtain ⟨q1,q2,q3⟩:=o
 refine ⟨q1,q2,q3.imp id ?_⟩
 rintro ⟨b,cs,t,e1,e2,e3,e4,e5⟩
 exact ⟨b,cs,t,e1,e2,e3,e4,zbc hle e5⟩
theorem zha2 {α:Type} {h0 h:Hp} {sz:Nat} {enc:α→List Value} {l:Sl} {xs:List α} (o:Own h0 h sz enc l xs):∃R:List Nat,(∀c∈R,h c≠none)∧(∀c∈R,h0 c=none)∧∀h',h≤h'→Own (cutH h' R) h' sz enc l xs:=by
 obtain ⟨q1,q2,q3⟩:=o
 rcases q3 with q3 | ⟨b,cs,t,e1,e2,e3,e4,e5⟩
 ·exact ⟨[],fun c hc=>(nomatch hc),fun c hc=>(nomatch hc),fun h' hl=>⟨q1,q2,.inl q3⟩⟩
 ·refine ⟨[b],fun c hc=> ?_,fun c hc=> ?_,fun h' hl=>⟨q1,q2,.inr ⟨b,cs,t,e1,hl _ _ e2,e3,e4,zwk1 (List.mem_singleton.2 rfl)⟩⟩⟩
  ·rw [List.mem_singleton.1 hc,e2];simp
  ·rw [List.mem_singleton.1 hc];exact e5
theorem zbn2 {α:Type} {h0 h:Hp} {sz:Nat} {enc:α→List Value} {l:Sl} {xs:List α} (o:Own h0 h sz enc l xs) {a:Addr} (ha:l.base=some a):h0 a.block=none:=by
 obtain ⟨q1,q2,q3⟩:=o
 rcases q3 with q3 | ⟨b,cs,t,e1,e2,e3,e4,e5⟩
 ·rw [q3.1] at ha;cases ha
 ·rw [e1] at ha;cases ha;exact e5
theorem zpj1 {h:Hp} {c:S_api_Config} {p:PCfg} {Q:Sl→Int→Hp→Prop} (a:CfgAt h c p) (h0:(cfgE p).1≠0→∀h',h≤h'→Q ⟨none,0,0⟩ (cfgE p).1 h')
  (h1:(cfgE p).1=0→∀out h',h≤h'→OwnB h h' out (cfgB p)→Q out 0 h'):zvd Tryz.prog c Q h:=by
 unfold zvd
 refine zgi1 (znc1 a fun k1 le1=> ?_)
 dsimp only
 by_cases he:(cfgE p).1≠0
 ·rw [if_pos (by simpa using he)]
  exact h0 he k1 le1
 rw [if_neg (by simpa using he)]
 have he:=Classical.not_not.1 he
 have a1:=a.mono le1
 obtain ⟨e1,e2,e3,e4,e5,e6,e7,e8,e9,e10,e11⟩:=cfgP_zero.1 he
 obtain ⟨l1,l2,l3⟩:=mayP_zero.1 e1
 obtain ⟨ps,hps,hall⟩:=a1.procs
 have hll:=a1.labels.1
 have hlt:=a1.table.1
 have hlp:=hps.1
 have hlp2:=hall.len
 refine zuf1 [70,66,67,70,1] rfl rfl fun am k2 le2 bm=> ?_
 refine zaq1 (h0:=k1) (xs:=leB (c.Labels.len:Int) 1) (enc:=eB) (sz:=1) le2 (by simp [leB,wrap8,eB]) zcb fun a1' k3 le3 o3=> ?_
 refine zwu1 (h0:=k1) (Hp.le_trans le2 le3) (Rw.mono le3 bm) rfl (o3.rw zcb) (by simp [leB]) zcb eB_ok rfl (by simp [zaf]) fun b0 k4 le4 o4 _=> ?_
 refine zua1 (h0:=k1) (sh:=shInt .u64) (xs:=p.labels) (e:=fun x=>leB x 8) (body:=fun x b k h6=>CallT Tryz.prog znp [b.v,(.int .u64 x),(.int .i64 (8:Int))] shSl (fun r4 h7=>k r4 h7) h6)
  8 (fun _=>rfl) (by omega) a1.labels le4 o4 (by omega) (fun x _=>by simp [zaf]) (fun i x b bs' h3 k hx hle ho hlb hk=> ?_) fun b1 k5 le5 o5=> ?_
 ·have hi:=(List.getElem?_eq_some_iff.1 hx).1
  refine zqk (zbj1 (k:=8) rfl (by omega) hle ho ?_ hk)
  simp [zaf] at hlb
  omega
 have f8:(p.labels.flatMap fun x=>leB x 8).length≤p.labels.length*8:=zgp _ fun x _=>by simp [zaf]
 refine zca le5 o5 (leB (c.Table.len:Int) 1) (by simp [leB,wrap8]) rfl (by simp [zaf] at f8 ⊢;omega) fun b2 k6 le6 o6 _=> ?_
 refine zua1 (h0:=k1) (sh:=shInt .i64) (xs:=p.table) (e:=fun x=>leB x 1) (body:=fun x b k h9=>NewW [(.int .u8 (IntKind.wrap .u8 x))] (fun a3 h10=>zaj 1 1 [(.int .u8 (0:Int))] ⟨b.base,b.len,b.cap⟩ ⟨(some a3),1,1⟩ (fun r5 h11=>k r5 h11) h10) h9)
  1 (fun _=>rfl) (by omega) a1.table le6 o6 (by omega) (fun x _=>by simp [zaf]) (fun i x b bs' h3 k hx hle ho hlb hk=> ?_) fun b3 k7 le7 o7=> ?_
 ·have hi:=(List.getElem?_eq_some_iff.1 hx).1
  refine zca hle ho (leB x 1) (by simp [leB,wrap8]) rfl ?_ fun l' h' hle' ho' _=>hk l' h' hle' ho'
  simp [zaf] at hlb f8 ⊢
  omega
 have f1:(p.table.flatMap fun x=>leB x 1).length≤p.table.length*1:=zgp _ fun x _=>by simp [zaf]
 refine zqk (zbj1 (k:=2) rfl (by omega) le7 o7 (by simp [zaf] at f8 f1 ⊢;omega) fun b4 k8 le8 o8=> ?_)
 rw [zcm (by omega)] at o8
 refine zca le8 o8 (leB c.Lane 1++leB c.Locks 1) (by simp [leB,wrap8]) rfl (by simp [zaf] at f8 f1 ⊢;omega) fun b5 k9 le9 o9 _=> ?_
 refine zqk (zbj1 (k:=2) rfl (by omega) le9 o9 (by simp [zaf] at f8 f1 ⊢;omega) fun b6 k10 le10 o10=> ?_)
 rw [zcm (by omega)] at o10
 refine zca le10 o10 (leB (c.Procs.len:Int) 1) (by simp [leB,wrap8]) rfl (by simp [zaf] at f8 f1 ⊢;omega) fun b7 k11 le11 o11 _=> ?_
 have hproc:∀q∈p.procs,(procB q).length≤3075:=fun q hq=>by
  have:=((zfr ⟨e7.1,e7.2⟩).1 (e11 q hq).2).1
  have h12:(codeB q.code).length≤q.code.length*12:=zgp _ fun x _=>by simp [insB,zaf]
  simp [procB,zaf]
  omega
 refine zws1 (h0:=k1) (sh:=sh_api_Proc) (xs:=ps) (es:=p.procs.map procB) (K:=fun b2 h16=>Q ⟨b2.base,b2.len,b2.cap⟩ 0 h16)
  (body:=fun x b2 k h16=>Call3 Tryz.prog zps [x.Code.v] shSl (shInt .i64) (shInt .i64) (fun r9 r10 r11 h17=>
   NewW [(.int .u8 (IntKind.wrap .u8 x.Part))] (fun a5 h18=>
   zaj 1 1 [(.int .u8 (0:Int))] ⟨b2.base,b2.len,b2.cap⟩ ⟨(some a5),1,1⟩ (fun r12 h19=>
   CallT Tryz.prog znp [r12.v,(.int .u64 (IntKind.wrap .u64 ((x.Code.len:Nat):Int))),(.int .i64 (2:Int))] shSl (fun r13 h20=>
   zaj 1 1 [(.int .u8 (0:Int))] r13 ⟨r9.base,r9.len,r9.cap⟩ (fun r14 h21=>k r14 h21) h20) h19) h18) h17) h16)
  3075 (fun _=>rfl) (by omega) hps le11 o11 (by simpa using hlp2.symm) (by omega) (fun y hy=>by obtain ⟨q,hq,rfl⟩:=List.mem_map.1 hy;exact hproc q hq) (fun i x e b bs' h3 k hx hex hle ho hlb hk=> ?_) fun b8 k12 le12 o12=> ?_
 ·have hi:=(List.getElem?_eq_some_iff.1 hx).1
  obtain ⟨q,hq,hq1,is,his,hmap⟩:=hall.get hx
  rw [List.getElem?_map,hq] at hex
  cases hex
  have hqm:=List.mem_of_getElem? hq
  have hcode:=(e11 q hqm).2
  have h12:(codeB q.code).length≤q.code.length*12:=zgp _ fun x _=>by simp [insB,zaf]
  have hcl:=((zfr ⟨e7.1,e7.2⟩).1 hcode).1
  have hisl:=his.1
  have hml:is.length=q.code.length:=by rw [←hmap,List.length_map]
  have hbig:bs'.length≤200000:=by
   simp [zaf] at hlb f8 f1
   omega
  refine zis1 (zpi1 (Rw.mono hle his) (by rw [hmap];exact zyl1 e7.1 e7.2 (Int.le_refl 8) hcode) fun out h4 hle4 o4'=> ?_)
  dsimp only
  rw [hmap] at o4'
  obtain ⟨R,r1,r2,r3⟩:=zha2 ho
  have ho4:=r3 h4 hle4
  have w4:k1≤cutH h4 R:=zft2 (Hp.le_trans hle hle4) r2
  have out4:Bs (cutH h4 R) out (codeB q.code):=(o4'.rw zcb).same fun a ha=>zif1 fun hR=>r1 _ hR (zbn2 o4' ha)
  refine zca zfs2 ho4 (leB x.Part 1) (by simp [leB,wrap8]) rfl (by simp [zaf];omega) fun l6 h6 hle6 o6' _=> ?_
  refine zqk (zbj1 (k:=2) rfl (by omega) hle6 o6' (by simp [zaf];omega) fun l7 h7 hle7 o7'=> ?_)
  rw [zcm (by omega)] at o7'
  refine zko1 hle7 o7' (Rw.mono hle7 out4) zcb eB_ok rfl (by simp [zaf];omega) fun l8 h8 hle8 o8' _=> ?_
  refine hk _ _ (Hp.le_trans w4 hle8) ?_
  have e1:procB q=leB x.Part 1++(leB (x.Code.len:Int) 2++codeB q.code):=by rw [hq1,hisl,hml];rfl
  rw [e1]
  have:=zkw1 w4 o8'
  simpa [List.append_assoc] using this
 ·have e:cfgB p=[70,66,67,70,1]++leB (c.Labels.len:Int) 1++(p.labels.flatMap fun x=>leB x 8)++leB (c.Table.len:Int) 1++(p.table.flatMap fun x=>leB x 1)++leB c.Fuel 2++(leB c.Lane 1++leB c.Locks 1)++leB c.Log 2++leB (c.Procs.len:Int) 1++(p.procs.map procB).flatten:=by
   rw [a.fuel,a.lane,a.locks,a.log,hll,hlt,hlp,hlp2]
   simp [cfgB,List.append_assoc,List.flatMap_def]
  rw [←e] at o12
  exact h1 he _ _ (Hp.le_trans le1 le12) (zkw1 le1 o12)
end Lf

