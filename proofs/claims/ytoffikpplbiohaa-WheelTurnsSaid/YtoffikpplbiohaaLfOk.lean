/-
  By program: what is told of the types is so of the program.
-/
import Derived.Test.YtoffikpplbiohaaLfSndT
import Derived.Test.YtoffikpplbiohaaLfTab
import Derived.Test.YtoffikpplbiohaaRows
import Derived.Laws.Externs
set_option maxRecDepth 100000
namespace Lf
open Go Go.Proofs

theorem nth_none {α : Type _} {l : List α} {i : Nat} (h : l.length ≤ i) : nth l i = none := by rw [nth_get]; exact List.getElem?_eq_none h

theorem tyAll {p : Nat → Ty → Prop} (h0 : p 0 ty0) (h2 : p 2 ty2) (h3 : p 3 ty3) (h4 : p 4 ty4) (h23 : p 23 ty23) (h24 : p 24 ty24) (h26 : p 26 ty26) (h27 : p 27 ty27) (h28 : p 28 ty28) (h31 : p 31 ty31) (h32 : p 32 ty32) (h39 : p 39 ty39) (h45 : p 45 ty45) (h46 : p 46 ty46) (h48 : p 48 ty48) (h49 : p 49 ty49) (h50 : p 50 ty50) (h52 : p 52 ty52) (h53 : p 53 ty53) (h55 : p 55 ty55) (h59 : p 59 ty59) (h60 : p 60 ty60) (h61 : p 61 ty61) (h64 : p 64 ty64) (h65 : p 65 ty65) (h66 : p 66 ty66) (h70 : p 70 ty70) (h72 : p 72 ty72) (h74 : p 74 ty74) (h78 : p 78 ty78) (h79 : p 79 ty79) (h81 : p 81 ty81) (h84 : p 84 ty84) (h85 : p 85 ty85) (h87 : p 87 ty87) (h89 : p 89 ty89) (h93 : p 93 ty93) : ∀ t e, tyAt t = some e → p t e := by
  intro t e h
  by_cases hlt : t < 96
  · match t, hlt, h with
    | 0, _, h => exact Option.some.inj (show some ty0 = some e from h) ▸ h0
    | 1, _, h => exact absurd (show (none : Option Ty) = some e from h) (by simp)
    | 2, _, h => exact Option.some.inj (show some ty2 = some e from h) ▸ h2
    | 3, _, h => exact Option.some.inj (show some ty3 = some e from h) ▸ h3
    | 4, _, h => exact Option.some.inj (show some ty4 = some e from h) ▸ h4
    | 5, _, h => exact absurd (show (none : Option Ty) = some e from h) (by simp)
    | 6, _, h => exact absurd (show (none : Option Ty) = some e from h) (by simp)
    | 7, _, h => exact absurd (show (none : Option Ty) = some e from h) (by simp)
    | 8, _, h => exact absurd (show (none : Option Ty) = some e from h) (by simp)
    | 9, _, h => exact absurd (show (none : Option Ty) = some e from h) (by simp)
    | 10, _, h => exact absurd (show (none : Option Ty) = some e from h) (by simp)
    | 11, _, h => exact absurd (show (none : Option Ty) = some e from h) (by simp)
    | 12, _, h => exact absurd (show (none : Option Ty) = some e from h) (by simp)
    | 13, _, h => exact absurd (show (none : Option Ty) = some e from h) (by simp)
    | 14, _, h => exact absurd (show (none : Option Ty) = some e from h) (by simp)
    | 15, _, h => exact absurd (show (none : Option Ty) = some e from h) (by simp)
    | 16, _, h => exact absurd (show (none : Option Ty) = some e from h) (by simp)
    | 17, _, h => exact absurd (show (none : Option Ty) = some e from h) (by simp)
    | 18, _, h => exact absurd (show (none : Option Ty) = some e from h) (by simp)
    | 19, _, h => exact absurd (show (none : Option Ty) = some e from h) (by simp)
    | 20, _, h => exact absurd (show (none : Option Ty) = some e from h) (by simp)
    | 21, _, h => exact absurd (show (none : Option Ty) = some e from h) (by simp)
    | 22, _, h => exact absurd (show (none : Option Ty) = some e from h) (by simp)
    | 23, _, h => exact Option.some.inj (show some ty23 = some e from h) ▸ h23
    | 24, _, h => exact Option.some.inj (show some ty24 = some e from h) ▸ h24
    | 25, _, h => exact absurd (show (none : Option Ty) = some e from h) (by simp)
    | 26, _, h => exact Option.some.inj (show some ty26 = some e from h) ▸ h26
    | 27, _, h => exact Option.some.inj (show some ty27 = some e from h) ▸ h27
    | 28, _, h => exact Option.some.inj (show some ty28 = some e from h) ▸ h28
    | 29, _, h => exact absurd (show (none : Option Ty) = some e from h) (by simp)
    | 30, _, h => exact absurd (show (none : Option Ty) = some e from h) (by simp)
    | 31, _, h => exact Option.some.inj (show some ty31 = some e from h) ▸ h31
    | 32, _, h => exact Option.some.inj (show some ty32 = some e from h) ▸ h32
    | 33, _, h => exact absurd (show (none : Option Ty) = some e from h) (by simp)
    | 34, _, h => exact absurd (show (none : Option Ty) = some e from h) (by simp)
    | 35, _, h => exact absurd (show (none : Option Ty) = some e from h) (by simp)
    | 36, _, h => exact absurd (show (none : Option Ty) = some e from h) (by simp)
    | 37, _, h => exact absurd (show (none : Option Ty) = some e from h) (by simp)
    | 38, _, h => exact absurd (show (none : Option Ty) = some e from h) (by simp)
    | 39, _, h => exact Option.some.inj (show some ty39 = some e from h) ▸ h39
    | 40, _, h => exact absurd (show (none : Option Ty) = some e from h) (by simp)
    | 41, _, h => exact absurd (show (none : Option Ty) = some e from h) (by simp)
    | 42, _, h => exact absurd (show (none : Option Ty) = some e from h) (by simp)
    | 43, _, h => exact absurd (show (none : Option Ty) = some e from h) (by simp)
    | 44, _, h => exact absurd (show (none : Option Ty) = some e from h) (by simp)
    | 45, _, h => exact Option.some.inj (show some ty45 = some e from h) ▸ h45
    | 46, _, h => exact Option.some.inj (show some ty46 = some e from h) ▸ h46
    | 47, _, h => exact absurd (show (none : Option Ty) = some e from h) (by simp)
    | 48, _, h => exact Option.some.inj (show some ty48 = some e from h) ▸ h48
    | 49, _, h => exact Option.some.inj (show some ty49 = some e from h) ▸ h49
    | 50, _, h => exact Option.some.inj (show some ty50 = some e from h) ▸ h50
    | 51, _, h => exact absurd (show (none : Option Ty) = some e from h) (by simp)
    | 52, _, h => exact Option.some.inj (show some ty52 = some e from h) ▸ h52
    | 53, _, h => exact Option.some.inj (show some ty53 = some e from h) ▸ h53
    | 54, _, h => exact absurd (show (none : Option Ty) = some e from h) (by simp)
    | 55, _, h => exact Option.some.inj (show some ty55 = some e from h) ▸ h55
    | 56, _, h => exact absurd (show (none : Option Ty) = some e from h) (by simp)
    | 57, _, h => exact absurd (show (none : Option Ty) = some e from h) (by simp)
    | 58, _, h => exact absurd (show (none : Option Ty) = some e from h) (by simp)
    | 59, _, h => exact Option.some.inj (show some ty59 = some e from h) ▸ h59
    | 60, _, h => exact Option.some.inj (show some ty60 = some e from h) ▸ h60
    | 61, _, h => exact Option.some.inj (show some ty61 = some e from h) ▸ h61
    | 62, _, h => exact absurd (show (none : Option Ty) = some e from h) (by simp)
    | 63, _, h => exact absurd (show (none : Option Ty) = some e from h) (by simp)
    | 64, _, h => exact Option.some.inj (show some ty64 = some e from h) ▸ h64
    | 65, _, h => exact Option.some.inj (show some ty65 = some e from h) ▸ h65
    | 66, _, h => exact Option.some.inj (show some ty66 = some e from h) ▸ h66
    | 67, _, h => exact absurd (show (none : Option Ty) = some e from h) (by simp)
    | 68, _, h => exact absurd (show (none : Option Ty) = some e from h) (by simp)
    | 69, _, h => exact absurd (show (none : Option Ty) = some e from h) (by simp)
    | 70, _, h => exact Option.some.inj (show some ty70 = some e from h) ▸ h70
    | 71, _, h => exact absurd (show (none : Option Ty) = some e from h) (by simp)
    | 72, _, h => exact Option.some.inj (show some ty72 = some e from h) ▸ h72
    | 73, _, h => exact absurd (show (none : Option Ty) = some e from h) (by simp)
    | 74, _, h => exact Option.some.inj (show some ty74 = some e from h) ▸ h74
    | 75, _, h => exact absurd (show (none : Option Ty) = some e from h) (by simp)
    | 76, _, h => exact absurd (show (none : Option Ty) = some e from h) (by simp)
    | 77, _, h => exact absurd (show (none : Option Ty) = some e from h) (by simp)
    | 78, _, h => exact Option.some.inj (show some ty78 = some e from h) ▸ h78
    | 79, _, h => exact Option.some.inj (show some ty79 = some e from h) ▸ h79
    | 80, _, h => exact absurd (show (none : Option Ty) = some e from h) (by simp)
    | 81, _, h => exact Option.some.inj (show some ty81 = some e from h) ▸ h81
    | 82, _, h => exact absurd (show (none : Option Ty) = some e from h) (by simp)
    | 83, _, h => exact absurd (show (none : Option Ty) = some e from h) (by simp)
    | 84, _, h => exact Option.some.inj (show some ty84 = some e from h) ▸ h84
    | 85, _, h => exact Option.some.inj (show some ty85 = some e from h) ▸ h85
    | 86, _, h => exact absurd (show (none : Option Ty) = some e from h) (by simp)
    | 87, _, h => exact Option.some.inj (show some ty87 = some e from h) ▸ h87
    | 88, _, h => exact absurd (show (none : Option Ty) = some e from h) (by simp)
    | 89, _, h => exact Option.some.inj (show some ty89 = some e from h) ▸ h89
    | 90, _, h => exact absurd (show (none : Option Ty) = some e from h) (by simp)
    | 91, _, h => exact absurd (show (none : Option Ty) = some e from h) (by simp)
    | 92, _, h => exact absurd (show (none : Option Ty) = some e from h) (by simp)
    | 93, _, h => exact Option.some.inj (show some ty93 = some e from h) ▸ h93
    | 94, _, h => exact absurd (show (none : Option Ty) = some e from h) (by simp)
    | 95, _, h => exact absurd (show (none : Option Ty) = some e from h) (by simp)
    | n + 96, hlt, _ => omega
  · have hl : tyRows.length = 6 := rfl
    have : nth tyRows (t / 16) = none := nth_none (l := tyRows) (i := t / 16) (by rw [hl]; omega)
    unfold tyAt at h
    rw [this] at h
    cases h

theorem leaf_of (x : Leaf) : (cellsL x.v).length = 1 ∧ ∀ cs, x.v ≠ .agg cs := by
  obtain ⟨v, h⟩ := x
  cases v <;> first | exact ⟨rfl, fun cs h => by cases h⟩ | cases h

theorem tb_ok : tb.Ok Try.prog where
  und := tyAll (p := fun t e => Try.prog.underlying t = some e.und) Try.underlying0 Try.underlying2 Try.underlying3 Try.underlying4 Try.underlying23 Try.underlying24 Try.underlying26 Try.underlying27 Try.underlying28 Try.underlying31 Try.underlying32 Try.underlying39 Try.underlying45 Try.underlying46 Try.underlying48 Try.underlying49 Try.underlying50 Try.underlying52 Try.underlying53 Try.underlying55 Try.underlying59 Try.underlying60 Try.underlying61 Try.underlying64 Try.underlying65 Try.underlying66 Try.underlying70 Try.underlying72 Try.underlying74 Try.underlying78 Try.underlying79 Try.underlying81 Try.underlying84 Try.underlying85 Try.underlying87 Try.underlying89 Try.underlying93
  info := tyAll (p := fun t e => ∃ i, Try.prog.info? t = some i ∧ i.size = e.size ∧ i.bytes = e.bytes ∧ i.zero = some e.zero) ⟨Try.t0, Try.type0, rfl, rfl, rfl⟩ ⟨Try.t2, Try.type2, rfl, rfl, rfl⟩ ⟨Try.t3, Try.type3, rfl, rfl, rfl⟩ ⟨Try.t4, Try.type4, rfl, rfl, rfl⟩ ⟨Try.t23, Try.type23, rfl, rfl, rfl⟩ ⟨Try.t24, Try.type24, rfl, rfl, rfl⟩ ⟨Try.t26, Try.type26, rfl, rfl, rfl⟩ ⟨Try.t27, Try.type27, rfl, rfl, rfl⟩ ⟨Try.t28, Try.type28, rfl, rfl, rfl⟩ ⟨Try.t31, Try.type31, rfl, rfl, rfl⟩ ⟨Try.t32, Try.type32, rfl, rfl, rfl⟩ ⟨Try.t39, Try.type39, rfl, rfl, rfl⟩ ⟨Try.t45, Try.type45, rfl, rfl, rfl⟩ ⟨Try.t46, Try.type46, rfl, rfl, rfl⟩ ⟨Try.t48, Try.type48, rfl, rfl, rfl⟩ ⟨Try.t49, Try.type49, rfl, rfl, rfl⟩ ⟨Try.t50, Try.type50, rfl, rfl, rfl⟩ ⟨Try.t52, Try.type52, rfl, rfl, rfl⟩ ⟨Try.t53, Try.type53, rfl, rfl, rfl⟩ ⟨Try.t55, Try.type55, rfl, rfl, rfl⟩ ⟨Try.t59, Try.type59, rfl, rfl, rfl⟩ ⟨Try.t60, Try.type60, rfl, rfl, rfl⟩ ⟨Try.t61, Try.type61, rfl, rfl, rfl⟩ ⟨Try.t64, Try.type64, rfl, rfl, rfl⟩ ⟨Try.t65, Try.type65, rfl, rfl, rfl⟩ ⟨Try.t66, Try.type66, rfl, rfl, rfl⟩ ⟨Try.t70, Try.type70, rfl, rfl, rfl⟩ ⟨Try.t72, Try.type72, rfl, rfl, rfl⟩ ⟨Try.t74, Try.type74, rfl, rfl, rfl⟩ ⟨Try.t78, Try.type78, rfl, rfl, rfl⟩ ⟨Try.t79, Try.type79, rfl, rfl, rfl⟩ ⟨Try.t81, Try.type81, rfl, rfl, rfl⟩ ⟨Try.t84, Try.type84, rfl, rfl, rfl⟩ ⟨Try.t85, Try.type85, rfl, rfl, rfl⟩ ⟨Try.t87, Try.type87, rfl, rfl, rfl⟩ ⟨Try.t89, Try.type89, rfl, rfl, rfl⟩ ⟨Try.t93, Try.type93, rfl, rfl, rfl⟩
  agg := tyAll (p := fun t e => isAggD e.und = true → ∀ x, ∃ cs, e.sh.enc x = .agg cs ∧ cs.size = e.size) (fun h => by cases h) (fun h => by cases h) (fun h => by cases h) (fun h => by cases h) (fun h => by cases h) (fun h => by cases h) (fun h => by cases h) (fun h => by cases h) (fun h => by cases h) (fun h => by cases h) (fun h => by cases h) (fun h => by cases h) (fun h => by cases h) (fun h => by cases h) (fun h => by cases h) (fun h => by cases h) (fun h => by cases h) (fun _ x => ⟨_, rfl, rfl⟩) (fun h => by cases h) (fun _ x => ⟨_, rfl, rfl⟩) (fun h => by cases h) (fun h => by cases h) (fun h => by cases h) (fun _ x => ⟨_, rfl, rfl⟩) (fun h => by cases h) (fun h => by cases h) (fun h => by cases h) (fun h => by cases h) (fun _ x => ⟨_, rfl, rfl⟩) (fun h => by cases h) (fun h => by cases h) (fun _ x => ⟨_, rfl, rfl⟩) (fun _ x => ⟨_, rfl, rfl⟩) (fun _ x => ⟨_, rfl, rfl⟩) (fun h => by cases h) (fun h => by cases h) (fun h => by cases h)
  leaf := tyAll (p := fun t e => isAggD e.und = false → e.size = 1 ∧ ∀ x, (cellsL (e.sh.enc x)).length = 1 ∧ ∀ cs, e.sh.enc x ≠ .agg cs) (fun _ => ⟨rfl, fun x => ⟨rfl, fun cs h => by cases h⟩⟩) (fun _ => ⟨rfl, fun x => ⟨rfl, fun cs h => by cases h⟩⟩) (fun _ => ⟨rfl, fun x => ⟨rfl, fun cs h => by cases h⟩⟩) (fun _ => ⟨rfl, fun x => ⟨rfl, fun cs h => by cases h⟩⟩) (fun _ => ⟨rfl, fun x => ⟨rfl, fun cs h => by cases h⟩⟩) (fun _ => ⟨rfl, fun x => ⟨rfl, fun cs h => by cases h⟩⟩) (fun _ => ⟨rfl, fun x => ⟨rfl, fun cs h => by cases h⟩⟩) (fun _ => ⟨rfl, fun x => ⟨rfl, fun cs h => by cases h⟩⟩) (fun _ => ⟨rfl, fun x => ⟨rfl, fun cs h => by cases h⟩⟩) (fun _ => ⟨rfl, fun x => ⟨rfl, fun cs h => by cases h⟩⟩) (fun _ => ⟨rfl, fun x => ⟨rfl, fun cs h => by cases h⟩⟩) (fun _ => ⟨rfl, fun x => ⟨rfl, fun cs h => by cases h⟩⟩) (fun _ => ⟨rfl, fun x => ⟨rfl, fun cs h => by cases h⟩⟩) (fun _ => ⟨rfl, fun x => ⟨rfl, fun cs h => by cases h⟩⟩) (fun _ => ⟨rfl, fun x => ⟨rfl, fun cs h => by cases h⟩⟩) (fun _ => ⟨rfl, fun x => ⟨rfl, fun cs h => by cases h⟩⟩) (fun _ => ⟨rfl, fun x => ⟨rfl, fun cs h => by cases h⟩⟩) (fun h => by cases h) (fun _ => ⟨rfl, fun x => ⟨rfl, fun cs h => by cases h⟩⟩) (fun h => by cases h) (fun _ => ⟨rfl, fun x => ⟨rfl, fun cs h => by cases h⟩⟩) (fun _ => ⟨rfl, fun x => ⟨rfl, fun cs h => by cases h⟩⟩) (fun _ => ⟨rfl, fun x => ⟨rfl, fun cs h => by cases h⟩⟩) (fun h => by cases h) (fun _ => ⟨rfl, fun x => ⟨rfl, fun cs h => by cases h⟩⟩) (fun _ => ⟨rfl, leaf_of⟩) (fun _ => ⟨rfl, fun x => ⟨rfl, fun cs h => by cases h⟩⟩) (fun _ => ⟨rfl, fun x => ⟨rfl, fun cs h => by cases h⟩⟩) (fun h => by cases h) (fun _ => ⟨rfl, fun x => ⟨rfl, fun cs h => by cases h⟩⟩) (fun _ => ⟨rfl, fun x => ⟨rfl, fun cs h => by cases h⟩⟩) (fun h => by cases h) (fun h => by cases h) (fun h => by cases h) (fun _ => ⟨rfl, leaf_of⟩) (fun _ => ⟨rfl, fun x => ⟨rfl, fun cs h => by cases h⟩⟩) (fun _ => ⟨rfl, fun x => ⟨rfl, fun cs h => by cases h⟩⟩)
  zlen := tyAll (p := fun t e => (cellsL e.zero).length = e.size) rfl rfl rfl rfl rfl rfl rfl rfl rfl rfl rfl rfl rfl rfl rfl rfl rfl rfl rfl rfl rfl rfl rfl rfl rfl rfl rfl rfl rfl rfl rfl rfl rfl rfl rfl rfl rfl
  zero8 := tyAll (p := fun t e => e.und = .int .u8 → cellsL e.zero = [.int .u8 0]) (fun h => by cases h) (fun h => by cases h) (fun h => by cases h) (fun h => by cases h) (fun h => by cases h) (fun h => by cases h) (fun h => by cases h) (fun h => by cases h) (fun h => by cases h) (fun h => by cases h) (fun h => by cases h) (fun h => by cases h) (fun h => by cases h) (fun h => by cases h) (fun h => by cases h) (fun h => by cases h) (fun h => by cases h) (fun h => by cases h) (fun h => by cases h) (fun h => by cases h) (fun h => by cases h) (fun h => by cases h) (fun h => by cases h) (fun h => by cases h) (fun h => by cases h) (fun h => by cases h) (fun h => by cases h) (fun h => by cases h) (fun h => by cases h) (fun h => by cases h) (fun h => by cases h) (fun h => by cases h) (fun h => by cases h) (fun h => by cases h) (fun h => by cases h) (fun h => by cases h) (fun h => by cases h)
  zagg := tyAll (p := fun t e => isAggD e.und = true → ∃ cs, e.zero = .agg cs) (fun h => by cases h) (fun h => by cases h) (fun h => by cases h) (fun h => by cases h) (fun h => by cases h) (fun h => by cases h) (fun h => by cases h) (fun h => by cases h) (fun h => by cases h) (fun h => by cases h) (fun h => by cases h) (fun h => by cases h) (fun h => by cases h) (fun h => by cases h) (fun h => by cases h) (fun h => by cases h) (fun h => by cases h) (fun _ => ⟨_, rfl⟩) (fun h => by cases h) (fun _ => ⟨_, rfl⟩) (fun h => by cases h) (fun h => by cases h) (fun h => by cases h) (fun _ => ⟨_, rfl⟩) (fun h => by cases h) (fun h => by cases h) (fun h => by cases h) (fun h => by cases h) (fun _ => ⟨_, rfl⟩) (fun h => by cases h) (fun h => by cases h) (fun _ => ⟨_, rfl⟩) (fun _ => ⟨_, rfl⟩) (fun _ => ⟨_, rfl⟩) (fun h => by cases h) (fun h => by cases h) (fun h => by cases h)
  call := by
    intro g h
    by_cases hlt : g < 80
    · match g, hlt, h with
      | 0, _, h => exact absurd (show false = true from h) (by simp)
      | 1, _, h => exact absurd (show false = true from h) (by simp)
      | 2, _, _ => exact Try.call2
      | 3, _, _ => exact Try.call3
      | 4, _, _ => exact Try.call4
      | 5, _, _ => exact Try.call5
      | 6, _, _ => exact Try.call6
      | 7, _, _ => exact Try.call7
      | 8, _, _ => exact Try.call8
      | 9, _, _ => exact Try.call9
      | 10, _, _ => exact Try.call10
      | 11, _, _ => exact Try.call11
      | 12, _, _ => exact Try.call12
      | 13, _, _ => exact Try.call13
      | 14, _, _ => exact Try.call14
      | 15, _, _ => exact Try.call15
      | 16, _, _ => exact Try.call16
      | 17, _, _ => exact Try.call17
      | 18, _, _ => exact Try.call18
      | 19, _, _ => exact Try.call19
      | 20, _, _ => exact Try.call20
      | 21, _, _ => exact Try.call21
      | 22, _, _ => exact Try.call22
      | 23, _, _ => exact Try.call23
      | 24, _, _ => exact Try.call24
      | 25, _, _ => exact Try.call25
      | 26, _, _ => exact Try.call26
      | 27, _, _ => exact Try.call27
      | 28, _, _ => exact Try.call28
      | 29, _, _ => exact Try.call29
      | 30, _, _ => exact Try.call30
      | 31, _, _ => exact Try.call31
      | 32, _, _ => exact Try.call32
      | 33, _, _ => exact Try.call33
      | 34, _, _ => exact Try.call34
      | 35, _, _ => exact Try.call35
      | 36, _, _ => exact Try.call36
      | 37, _, _ => exact Try.call37
      | 38, _, _ => exact Try.call38
      | 39, _, _ => exact Try.call39
      | 40, _, _ => exact Try.call40
      | 41, _, _ => exact Try.call41
      | 42, _, _ => exact Try.call42
      | 43, _, _ => exact Try.call43
      | 44, _, _ => exact Try.call44
      | 45, _, _ => exact Try.call45
      | 46, _, _ => exact Try.call46
      | 47, _, _ => exact Try.call47
      | 48, _, _ => exact Try.call48
      | 49, _, _ => exact Try.call49
      | 50, _, _ => exact Try.call50
      | 51, _, _ => exact Try.call51
      | 52, _, _ => exact Try.call52
      | 53, _, _ => exact Try.call53
      | 54, _, _ => exact Try.call54
      | 55, _, _ => exact Try.call55
      | 56, _, _ => exact Try.call56
      | 57, _, _ => exact Try.call57
      | 58, _, _ => exact Try.call58
      | 59, _, h => exact absurd (show false = true from h) (by simp)
      | 60, _, _ => exact Try.call60
      | 61, _, _ => exact Try.call61
      | 62, _, _ => exact Try.call62
      | 63, _, _ => exact Try.call63
      | 64, _, _ => exact Try.call64
      | 65, _, h => exact absurd (show false = true from h) (by simp)
      | 66, _, h => exact absurd (show false = true from h) (by simp)
      | 67, _, h => exact absurd (show false = true from h) (by simp)
      | 68, _, h => exact absurd (show false = true from h) (by simp)
      | 69, _, h => exact absurd (show false = true from h) (by simp)
      | 70, _, h => exact absurd (show false = true from h) (by simp)
      | 71, _, h => exact absurd (show false = true from h) (by simp)
      | 72, _, h => exact absurd (show false = true from h) (by simp)
      | 73, _, h => exact absurd (show false = true from h) (by simp)
      | 74, _, h => exact absurd (show false = true from h) (by simp)
      | 75, _, h => exact absurd (show false = true from h) (by simp)
      | 76, _, h => exact absurd (show false = true from h) (by simp)
      | 77, _, h => exact absurd (show false = true from h) (by simp)
      | 78, _, h => exact absurd (show false = true from h) (by simp)
      | 79, _, h => exact absurd (show false = true from h) (by simp)
      | n + 80, hlt, _ => omega
    · have hl : fnRows.length = 5 := rfl
      have : nth fnRows (g / 16) = none := nth_none (l := fnRows) (i := g / 16) (by rw [hl]; omega)
      have h : fnAt g = true := h
      unfold fnAt at h
      rw [this] at h
      cases h
  ext := by
    intro g f h args w
    have h : extAt g = some f := h
    unfold extAt at h
    cases e59 : Nat.beq g 59 with
    | true =>
      have hg : g = 59 := Nat.eq_of_beq_eq_true e59
      subst hg
      exact run_callFunc_extern Try.func59 (by kernel_rfl) (by kernel_rfl) (by kernel_rfl) (show _ = _ from (show _ = some _ by kernel_rfl : _ = some _).trans h) args w
    | false =>
    simp only [e59, cond_false] at h
    cases h
  mixed := by kernel_rfl

end Lf
