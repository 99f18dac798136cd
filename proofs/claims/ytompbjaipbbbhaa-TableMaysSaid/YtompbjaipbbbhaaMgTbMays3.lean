/-
  Part 4 of the texts that the claim leans on.
-/
import Derived.Test.YtompbjaipbbbhaaRows
import Derived.Laws.Externs
import Derived.Sort.LotA
import Derived.Sort.LotB
import Derived.Sort.LotC
import Derived.Sort.LotD3
import Derived.Test.YtompbjaipbbbhaaMgTbMays2
/-
  By program: what is told of the types is so of the program.
-/
set_option maxRecDepth 100000
namespace Lf
open Go Go.Proofs

theorem nth_none {α : Type _} {l : List α} {i : Nat} (h : l.length ≤ i) : nth l i = none := by rw [nth_get]; exact List.getElem?_eq_none h

theorem tyAll {p : Nat → Ty → Prop} (h0 : p 0 ty0) (h3 : p 3 ty3) (h4 : p 4 ty4) (h5 : p 5 ty5) (h9 : p 9 ty9) (h20 : p 20 ty20) (h23 : p 23 ty23) (h24 : p 24 ty24) (h25 : p 25 ty25) (h29 : p 29 ty29) (h31 : p 31 ty31) (h33 : p 33 ty33) (h35 : p 35 ty35) (h36 : p 36 ty36) (h38 : p 38 ty38) (h39 : p 39 ty39) (h43 : p 43 ty43) (h48 : p 48 ty48) (h55 : p 55 ty55) (h56 : p 56 ty56) (h60 : p 60 ty60) (h63 : p 63 ty63) (h65 : p 65 ty65) (h68 : p 68 ty68) (h75 : p 75 ty75) (h80 : p 80 ty80) (h81 : p 81 ty81) (h86 : p 86 ty86) (h93 : p 93 ty93) (h97 : p 97 ty97) (h102 : p 102 ty102) (h103 : p 103 ty103) : ∀ t e, tyAt t = some e → p t e := by
  intro t e h
  by_cases hlt : t < 112
  · match t, hlt, h with
    | 0, _, h => exact Option.some.inj (show some ty0 = some e from h) ▸ h0
    | 1, _, h => exact absurd (show (none : Option Ty) = some e from h) (by simp)
    | 2, _, h => exact absurd (show (none : Option Ty) = some e from h) (by simp)
    | 3, _, h => exact Option.some.inj (show some ty3 = some e from h) ▸ h3
    | 4, _, h => exact Option.some.inj (show some ty4 = some e from h) ▸ h4
    | 5, _, h => exact Option.some.inj (show some ty5 = some e from h) ▸ h5
    | 6, _, h => exact absurd (show (none : Option Ty) = some e from h) (by simp)
    | 7, _, h => exact absurd (show (none : Option Ty) = some e from h) (by simp)
    | 8, _, h => exact absurd (show (none : Option Ty) = some e from h) (by simp)
    | 9, _, h => exact Option.some.inj (show some ty9 = some e from h) ▸ h9
    | 10, _, h => exact absurd (show (none : Option Ty) = some e from h) (by simp)
    | 11, _, h => exact absurd (show (none : Option Ty) = some e from h) (by simp)
    | 12, _, h => exact absurd (show (none : Option Ty) = some e from h) (by simp)
    | 13, _, h => exact absurd (show (none : Option Ty) = some e from h) (by simp)
    | 14, _, h => exact absurd (show (none : Option Ty) = some e from h) (by simp)
    | 15, _, h => exact absurd (show (none : Option Ty) = some e from h) (by simp)
    | 16, _, h => exact absurd (show (none : Option Ty) = some e from h) (by simp)
    | 17, _, h => exact absurd (show (none : Option Ty) = some e from h) (by simp)
    | 18, _, h => exact absurd (show (none : Option Ty) = some e from h) (by simp)
    | 19, _, h => exact absurd (show (none : Option Ty) = some e from h) (by simp)
    | 20, _, h => exact Option.some.inj (show some ty20 = some e from h) ▸ h20
    | 21, _, h => exact absurd (show (none : Option Ty) = some e from h) (by simp)
    | 22, _, h => exact absurd (show (none : Option Ty) = some e from h) (by simp)
    | 23, _, h => exact Option.some.inj (show some ty23 = some e from h) ▸ h23
    | 24, _, h => exact Option.some.inj (show some ty24 = some e from h) ▸ h24
    | 25, _, h => exact Option.some.inj (show some ty25 = some e from h) ▸ h25
    | 26, _, h => exact absurd (show (none : Option Ty) = some e from h) (by simp)
    | 27, _, h => exact absurd (show (none : Option Ty) = some e from h) (by simp)
    | 28, _, h => exact absurd (show (none : Option Ty) = some e from h) (by simp)
    | 29, _, h => exact Option.some.inj (show some ty29 = some e from h) ▸ h29
    | 30, _, h => exact absurd (show (none : Option Ty) = some e from h) (by simp)
    | 31, _, h => exact Option.some.inj (show some ty31 = some e from h) ▸ h31
    | 32, _, h => exact absurd (show (none : Option Ty) = some e from h) (by simp)
    | 33, _, h => exact Option.some.inj (show some ty33 = some e from h) ▸ h33
    | 34, _, h => exact absurd (show (none : Option Ty) = some e from h) (by simp)
    | 35, _, h => exact Option.some.inj (show some ty35 = some e from h) ▸ h35
    | 36, _, h => exact Option.some.inj (show some ty36 = some e from h) ▸ h36
    | 37, _, h => exact absurd (show (none : Option Ty) = some e from h) (by simp)
    | 38, _, h => exact Option.some.inj (show some ty38 = some e from h) ▸ h38
    | 39, _, h => exact Option.some.inj (show some ty39 = some e from h) ▸ h39
    | 40, _, h => exact absurd (show (none : Option Ty) = some e from h) (by simp)
    | 41, _, h => exact absurd (show (none : Option Ty) = some e from h) (by simp)
    | 42, _, h => exact absurd (show (none : Option Ty) = some e from h) (by simp)
    | 43, _, h => exact Option.some.inj (show some ty43 = some e from h) ▸ h43
    | 44, _, h => exact absurd (show (none : Option Ty) = some e from h) (by simp)
    | 45, _, h => exact absurd (show (none : Option Ty) = some e from h) (by simp)
    | 46, _, h => exact absurd (show (none : Option Ty) = some e from h) (by simp)
    | 47, _, h => exact absurd (show (none : Option Ty) = some e from h) (by simp)
    | 48, _, h => exact Option.some.inj (show some ty48 = some e from h) ▸ h48
    | 49, _, h => exact absurd (show (none : Option Ty) = some e from h) (by simp)
    | 50, _, h => exact absurd (show (none : Option Ty) = some e from h) (by simp)
    | 51, _, h => exact absurd (show (none : Option Ty) = some e from h) (by simp)
    | 52, _, h => exact absurd (show (none : Option Ty) = some e from h) (by simp)
    | 53, _, h => exact absurd (show (none : Option Ty) = some e from h) (by simp)
    | 54, _, h => exact absurd (show (none : Option Ty) = some e from h) (by simp)
    | 55, _, h => exact Option.some.inj (show some ty55 = some e from h) ▸ h55
    | 56, _, h => exact Option.some.inj (show some ty56 = some e from h) ▸ h56
    | 57, _, h => exact absurd (show (none : Option Ty) = some e from h) (by simp)
    | 58, _, h => exact absurd (show (none : Option Ty) = some e from h) (by simp)
    | 59, _, h => exact absurd (show (none : Option Ty) = some e from h) (by simp)
    | 60, _, h => exact Option.some.inj (show some ty60 = some e from h) ▸ h60
    | 61, _, h => exact absurd (show (none : Option Ty) = some e from h) (by simp)
    | 62, _, h => exact absurd (show (none : Option Ty) = some e from h) (by simp)
    | 63, _, h => exact Option.some.inj (show some ty63 = some e from h) ▸ h63
    | 64, _, h => exact absurd (show (none : Option Ty) = some e from h) (by simp)
    | 65, _, h => exact Option.some.inj (show some ty65 = some e from h) ▸ h65
    | 66, _, h => exact absurd (show (none : Option Ty) = some e from h) (by simp)
    | 67, _, h => exact absurd (show (none : Option Ty) = some e from h) (by simp)
    | 68, _, h => exact Option.some.inj (show some ty68 = some e from h) ▸ h68
    | 69, _, h => exact absurd (show (none : Option Ty) = some e from h) (by simp)
    | 70, _, h => exact absurd (show (none : Option Ty) = some e from h) (by simp)
    | 71, _, h => exact absurd (show (none : Option Ty) = some e from h) (by simp)
    | 72, _, h => exact absurd (show (none : Option Ty) = some e from h) (by simp)
    | 73, _, h => exact absurd (show (none : Option Ty) = some e from h) (by simp)
    | 74, _, h => exact absurd (show (none : Option Ty) = some e from h) (by simp)
    | 75, _, h => exact Option.some.inj (show some ty75 = some e from h) ▸ h75
    | 76, _, h => exact absurd (show (none : Option Ty) = some e from h) (by simp)
    | 77, _, h => exact absurd (show (none : Option Ty) = some e from h) (by simp)
    | 78, _, h => exact absurd (show (none : Option Ty) = some e from h) (by simp)
    | 79, _, h => exact absurd (show (none : Option Ty) = some e from h) (by simp)
    | 80, _, h => exact Option.some.inj (show some ty80 = some e from h) ▸ h80
    | 81, _, h => exact Option.some.inj (show some ty81 = some e from h) ▸ h81
    | 82, _, h => exact absurd (show (none : Option Ty) = some e from h) (by simp)
    | 83, _, h => exact absurd (show (none : Option Ty) = some e from h) (by simp)
    | 84, _, h => exact absurd (show (none : Option Ty) = some e from h) (by simp)
    | 85, _, h => exact absurd (show (none : Option Ty) = some e from h) (by simp)
    | 86, _, h => exact Option.some.inj (show some ty86 = some e from h) ▸ h86
    | 87, _, h => exact absurd (show (none : Option Ty) = some e from h) (by simp)
    | 88, _, h => exact absurd (show (none : Option Ty) = some e from h) (by simp)
    | 89, _, h => exact absurd (show (none : Option Ty) = some e from h) (by simp)
    | 90, _, h => exact absurd (show (none : Option Ty) = some e from h) (by simp)
    | 91, _, h => exact absurd (show (none : Option Ty) = some e from h) (by simp)
    | 92, _, h => exact absurd (show (none : Option Ty) = some e from h) (by simp)
    | 93, _, h => exact Option.some.inj (show some ty93 = some e from h) ▸ h93
    | 94, _, h => exact absurd (show (none : Option Ty) = some e from h) (by simp)
    | 95, _, h => exact absurd (show (none : Option Ty) = some e from h) (by simp)
    | 96, _, h => exact absurd (show (none : Option Ty) = some e from h) (by simp)
    | 97, _, h => exact Option.some.inj (show some ty97 = some e from h) ▸ h97
    | 98, _, h => exact absurd (show (none : Option Ty) = some e from h) (by simp)
    | 99, _, h => exact absurd (show (none : Option Ty) = some e from h) (by simp)
    | 100, _, h => exact absurd (show (none : Option Ty) = some e from h) (by simp)
    | 101, _, h => exact absurd (show (none : Option Ty) = some e from h) (by simp)
    | 102, _, h => exact Option.some.inj (show some ty102 = some e from h) ▸ h102
    | 103, _, h => exact Option.some.inj (show some ty103 = some e from h) ▸ h103
    | 104, _, h => exact absurd (show (none : Option Ty) = some e from h) (by simp)
    | 105, _, h => exact absurd (show (none : Option Ty) = some e from h) (by simp)
    | 106, _, h => exact absurd (show (none : Option Ty) = some e from h) (by simp)
    | 107, _, h => exact absurd (show (none : Option Ty) = some e from h) (by simp)
    | 108, _, h => exact absurd (show (none : Option Ty) = some e from h) (by simp)
    | 109, _, h => exact absurd (show (none : Option Ty) = some e from h) (by simp)
    | 110, _, h => exact absurd (show (none : Option Ty) = some e from h) (by simp)
    | 111, _, h => exact absurd (show (none : Option Ty) = some e from h) (by simp)
    | n + 112, hlt, _ => omega
  · have hl : tyRows.length = 7 := rfl
    have : nth tyRows (t / 16) = none := nth_none (l := tyRows) (i := t / 16) (by rw [hl]; omega)
    unfold tyAt at h
    rw [this] at h
    cases h

theorem leaf_of (x : Leaf) : (cellsL x.v).length = 1 ∧ ∀ cs, x.v ≠ .agg cs := by
  obtain ⟨v, h⟩ := x
  cases v <;> first | exact ⟨rfl, fun cs h => by cases h⟩ | cases h

theorem tb_ok : tb.Ok Try.prog where
  und := tyAll (p := fun t e => Try.prog.underlying t = some e.und) Try.underlying0 Try.underlying3 Try.underlying4 Try.underlying5 Try.underlying9 Try.underlying20 Try.underlying23 Try.underlying24 Try.underlying25 Try.underlying29 Try.underlying31 Try.underlying33 Try.underlying35 Try.underlying36 Try.underlying38 Try.underlying39 Try.underlying43 Try.underlying48 Try.underlying55 Try.underlying56 Try.underlying60 Try.underlying63 Try.underlying65 Try.underlying68 Try.underlying75 Try.underlying80 Try.underlying81 Try.underlying86 Try.underlying93 Try.underlying97 Try.underlying102 Try.underlying103
  info := tyAll (p := fun t e => ∃ i, Try.prog.info? t = some i ∧ i.size = e.size ∧ i.bytes = e.bytes ∧ i.zero = some e.zero) ⟨Try.t0, Try.type0, rfl, rfl, rfl⟩ ⟨Try.t3, Try.type3, rfl, rfl, rfl⟩ ⟨Try.t4, Try.type4, rfl, rfl, rfl⟩ ⟨Try.t5, Try.type5, rfl, rfl, rfl⟩ ⟨Try.t9, Try.type9, rfl, rfl, rfl⟩ ⟨Try.t20, Try.type20, rfl, rfl, rfl⟩ ⟨Try.t23, Try.type23, rfl, rfl, rfl⟩ ⟨Try.t24, Try.type24, rfl, rfl, rfl⟩ ⟨Try.t25, Try.type25, rfl, rfl, rfl⟩ ⟨Try.t29, Try.type29, rfl, rfl, rfl⟩ ⟨Try.t31, Try.type31, rfl, rfl, rfl⟩ ⟨Try.t33, Try.type33, rfl, rfl, rfl⟩ ⟨Try.t35, Try.type35, rfl, rfl, rfl⟩ ⟨Try.t36, Try.type36, rfl, rfl, rfl⟩ ⟨Try.t38, Try.type38, rfl, rfl, rfl⟩ ⟨Try.t39, Try.type39, rfl, rfl, rfl⟩ ⟨Try.t43, Try.type43, rfl, rfl, rfl⟩ ⟨Try.t48, Try.type48, rfl, rfl, rfl⟩ ⟨Try.t55, Try.type55, rfl, rfl, rfl⟩ ⟨Try.t56, Try.type56, rfl, rfl, rfl⟩ ⟨Try.t60, Try.type60, rfl, rfl, rfl⟩ ⟨Try.t63, Try.type63, rfl, rfl, rfl⟩ ⟨Try.t65, Try.type65, rfl, rfl, rfl⟩ ⟨Try.t68, Try.type68, rfl, rfl, rfl⟩ ⟨Try.t75, Try.type75, rfl, rfl, rfl⟩ ⟨Try.t80, Try.type80, rfl, rfl, rfl⟩ ⟨Try.t81, Try.type81, rfl, rfl, rfl⟩ ⟨Try.t86, Try.type86, rfl, rfl, rfl⟩ ⟨Try.t93, Try.type93, rfl, rfl, rfl⟩ ⟨Try.t97, Try.type97, rfl, rfl, rfl⟩ ⟨Try.t102, Try.type102, rfl, rfl, rfl⟩ ⟨Try.t103, Try.type103, rfl, rfl, rfl⟩
  agg := tyAll (p := fun t e => isAggD e.und = true → ∀ x, ∃ cs, e.sh.enc x = .agg cs ∧ cs.size = e.size) (fun h => by cases h) (fun h => by cases h) (fun h => by cases h) (fun h => by cases h) (fun h => by cases h) (fun h => by cases h) (fun h => by cases h) (fun _ x => ⟨_, rfl, rfl⟩) (fun h => by cases h) (fun h => by cases h) (fun h => by cases h) (fun h => by cases h) (fun h => by cases h) (fun h => by cases h) (fun h => by cases h) (fun h => by cases h) (fun h => by cases h) (fun h => by cases h) (fun h => by cases h) (fun h => by cases h) (fun h => by cases h) (fun h => by cases h) (fun _ x => ⟨_, rfl, rfl⟩) (fun h => by cases h) (fun h => by cases h) (fun h => by cases h) (fun h => by cases h) (fun h => by cases h) (fun h => by cases h) (fun h => by cases h) (fun h => by cases h) (fun h => by cases h)
  leaf := tyAll (p := fun t e => isAggD e.und = false → e.size = 1 ∧ ∀ x, (cellsL (e.sh.enc x)).length = 1 ∧ ∀ cs, e.sh.enc x ≠ .agg cs) (fun _ => ⟨rfl, fun x => ⟨rfl, fun cs h => by cases h⟩⟩) (fun _ => ⟨rfl, fun x => ⟨rfl, fun cs h => by cases h⟩⟩) (fun _ => ⟨rfl, fun x => ⟨rfl, fun cs h => by cases h⟩⟩) (fun _ => ⟨rfl, fun x => ⟨rfl, fun cs h => by cases h⟩⟩) (fun _ => ⟨rfl, fun x => ⟨rfl, fun cs h => by cases h⟩⟩) (fun _ => ⟨rfl, leaf_of⟩) (fun _ => ⟨rfl, fun x => ⟨rfl, fun cs h => by cases h⟩⟩) (fun h => by cases h) (fun _ => ⟨rfl, fun x => ⟨rfl, fun cs h => by cases h⟩⟩) (fun _ => ⟨rfl, fun x => ⟨rfl, fun cs h => by cases h⟩⟩) (fun _ => ⟨rfl, fun x => ⟨rfl, fun cs h => by cases h⟩⟩) (fun _ => ⟨rfl, fun x => ⟨rfl, fun cs h => by cases h⟩⟩) (fun _ => ⟨rfl, fun x => ⟨rfl, fun cs h => by cases h⟩⟩) (fun _ => ⟨rfl, fun x => ⟨rfl, fun cs h => by cases h⟩⟩) (fun _ => ⟨rfl, fun x => ⟨rfl, fun cs h => by cases h⟩⟩) (fun _ => ⟨rfl, fun x => ⟨rfl, fun cs h => by cases h⟩⟩) (fun _ => ⟨rfl, fun x => ⟨rfl, fun cs h => by cases h⟩⟩) (fun _ => ⟨rfl, fun x => ⟨rfl, fun cs h => by cases h⟩⟩) (fun _ => ⟨rfl, leaf_of⟩) (fun _ => ⟨rfl, leaf_of⟩) (fun _ => ⟨rfl, fun x => ⟨rfl, fun cs h => by cases h⟩⟩) (fun _ => ⟨rfl, fun x => ⟨rfl, fun cs h => by cases h⟩⟩) (fun h => by cases h) (fun _ => ⟨rfl, leaf_of⟩) (fun _ => ⟨rfl, fun x => ⟨rfl, fun cs h => by cases h⟩⟩) (fun _ => ⟨rfl, fun x => ⟨rfl, fun cs h => by cases h⟩⟩) (fun _ => ⟨rfl, fun x => ⟨rfl, fun cs h => by cases h⟩⟩) (fun _ => ⟨rfl, fun x => ⟨rfl, fun cs h => by cases h⟩⟩) (fun _ => ⟨rfl, fun x => ⟨rfl, fun cs h => by cases h⟩⟩) (fun _ => ⟨rfl, fun x => ⟨rfl, fun cs h => by cases h⟩⟩) (fun _ => ⟨rfl, fun x => ⟨rfl, fun cs h => by cases h⟩⟩) (fun _ => ⟨rfl, fun x => ⟨rfl, fun cs h => by cases h⟩⟩)
  zlen := tyAll (p := fun t e => (cellsL e.zero).length = e.size) rfl rfl rfl rfl rfl rfl rfl rfl rfl rfl rfl rfl rfl rfl rfl rfl rfl rfl rfl rfl rfl rfl rfl rfl rfl rfl rfl rfl rfl rfl rfl rfl
  zero8 := tyAll (p := fun t e => e.und = .int .u8 → cellsL e.zero = [.int .u8 0]) (fun h => by cases h) (fun h => by cases h) (fun h => by cases h) (fun _ => rfl) (fun h => by cases h) (fun h => by cases h) (fun h => by cases h) (fun h => by cases h) (fun h => by cases h) (fun h => by cases h) (fun h => by cases h) (fun h => by cases h) (fun h => by cases h) (fun h => by cases h) (fun h => by cases h) (fun h => by cases h) (fun h => by cases h) (fun h => by cases h) (fun h => by cases h) (fun h => by cases h) (fun h => by cases h) (fun h => by cases h) (fun h => by cases h) (fun h => by cases h) (fun h => by cases h) (fun h => by cases h) (fun h => by cases h) (fun h => by cases h) (fun h => by cases h) (fun h => by cases h) (fun h => by cases h) (fun h => by cases h)
  zagg := tyAll (p := fun t e => isAggD e.und = true → ∃ cs, e.zero = .agg cs) (fun h => by cases h) (fun h => by cases h) (fun h => by cases h) (fun h => by cases h) (fun h => by cases h) (fun h => by cases h) (fun h => by cases h) (fun _ => ⟨_, rfl⟩) (fun h => by cases h) (fun h => by cases h) (fun h => by cases h) (fun h => by cases h) (fun h => by cases h) (fun h => by cases h) (fun h => by cases h) (fun h => by cases h) (fun h => by cases h) (fun h => by cases h) (fun h => by cases h) (fun h => by cases h) (fun h => by cases h) (fun h => by cases h) (fun _ => ⟨_, rfl⟩) (fun h => by cases h) (fun h => by cases h) (fun h => by cases h) (fun h => by cases h) (fun h => by cases h) (fun h => by cases h) (fun h => by cases h) (fun h => by cases h) (fun h => by cases h)
  call := by
    intro g h
    by_cases hlt : g < 96
    · match g, hlt, h with
      | 0, _, h => exact absurd (show false = true from h) (by simp)
      | 1, _, h => exact absurd (show false = true from h) (by simp)
      | 2, _, _ => exact Try.call2
      | 3, _, _ => exact Try.call3
      | 4, _, _ => exact Try.call4
      | 5, _, _ => exact Try.call5
      | 6, _, _ => exact Try.call6
      | 7, _, _ => exact Try.call7
      | 8, _, _ => exact Try.call8
      | 9, _, _ => exact Try.call9
      | 10, _, _ => exact Try.call10
      | 11, _, _ => exact Try.call11
      | 12, _, _ => exact Try.call12
      | 13, _, _ => exact Try.call13
      | 14, _, _ => exact Try.call14
      | 15, _, _ => exact Try.call15
      | 16, _, _ => exact Try.call16
      | 17, _, _ => exact Try.call17
      | 18, _, _ => exact Try.call18
      | 19, _, _ => exact Try.call19
      | 20, _, _ => exact Try.call20
      | 21, _, _ => exact Try.call21
      | 22, _, _ => exact Try.call22
      | 23, _, _ => exact Try.call23
      | 24, _, _ => exact Try.call24
      | 25, _, _ => exact Try.call25
      | 26, _, _ => exact Try.call26
      | 27, _, _ => exact Try.call27
      | 28, _, _ => exact Try.call28
      | 29, _, _ => exact Try.call29
      | 30, _, _ => exact Try.call30
      | 31, _, _ => exact Try.call31
      | 32, _, _ => exact Try.call32
      | 33, _, _ => exact Try.call33
      | 34, _, _ => exact Try.call34
      | 35, _, _ => exact Try.call35
      | 36, _, _ => exact Try.call36
      | 37, _, _ => exact Try.call37
      | 38, _, _ => exact Try.call38
      | 39, _, _ => exact Try.call39
      | 40, _, _ => exact Try.call40
      | 41, _, _ => exact Try.call41
      | 42, _, _ => exact Try.call42
      | 43, _, _ => exact Try.call43
      | 44, _, _ => exact Try.call44
      | 45, _, _ => exact Try.call45
      | 46, _, _ => exact Try.call46
      | 47, _, _ => exact Try.call47
      | 48, _, _ => exact Try.call48
      | 49, _, _ => exact Try.call49
      | 50, _, _ => exact Try.call50
      | 51, _, _ => exact Try.call51
      | 52, _, _ => exact Try.call52
      | 53, _, _ => exact Try.call53
      | 54, _, _ => exact Try.call54
      | 55, _, _ => exact Try.call55
      | 56, _, _ => exact Try.call56
      | 57, _, _ => exact Try.call57
      | 58, _, _ => exact Try.call58
      | 59, _, _ => exact Try.call59
      | 60, _, _ => exact Try.call60
      | 61, _, _ => exact Try.call61
      | 62, _, _ => exact Try.call62
      | 63, _, _ => exact Try.call63
      | 64, _, _ => exact Try.call64
      | 65, _, _ => exact Try.call65
      | 66, _, _ => exact Try.call66
      | 67, _, _ => exact Try.call67
      | 68, _, _ => exact Try.call68
      | 69, _, _ => exact Try.call69
      | 70, _, _ => exact Try.call70
      | 71, _, _ => exact Try.call71
      | 72, _, _ => exact Try.call72
      | 73, _, _ => exact Try.call73
      | 74, _, _ => exact Try.call74
      | 75, _, _ => exact Try.call75
      | 76, _, _ => exact Try.call76
      | 77, _, _ => exact Try.call77
      | 78, _, _ => exact Try.call78
      | 79, _, _ => exact Try.call79
      | 80, _, _ => exact Try.call80
      | 81, _, _ => exact Try.call81
      | 82, _, _ => exact Try.call82
      | 83, _, _ => exact Try.call83
      | 84, _, _ => exact Try.call84
      | 85, _, _ => exact Try.call85
      | 86, _, _ => exact Try.call86
      | 87, _, _ => exact Try.call87
      | 88, _, _ => exact Try.call88
      | 89, _, _ => exact Try.call89
      | 90, _, _ => exact Try.call90
      | 91, _, _ => exact Try.call91
      | 92, _, h => exact absurd (show false = true from h) (by simp)
      | 93, _, h => exact absurd (show false = true from h) (by simp)
      | 94, _, h => exact absurd (show false = true from h) (by simp)
      | 95, _, h => exact absurd (show false = true from h) (by simp)
      | n + 96, hlt, _ => omega
    · have hl : fnRows.length = 6 := rfl
      have : nth fnRows (g / 16) = none := nth_none (l := fnRows) (i := g / 16) (by rw [hl]; omega)
      have h : fnAt g = true := h
      unfold fnAt at h
      rw [this] at h
      cases h
  ext := by
    intro g f h args w
    have h : extAt g = some f := h
    unfold extAt at h
    cases h
  mixed := by kernel_rfl

end Lf

/-
  By program: a call does what its text tells.
-/
set_option maxRecDepth 100000
namespace Lf
open Go Go.Proofs

theorem firebreaklaw20_GraphNames_eq  (Q : (Bool → (Hp → Prop))) (h : Hp) : funW ⟨Try.prog, tb, firebreaklaw20_GraphNames_p⟩ Try.f3 firebreaklaw20_GraphNames_a [] (Q) h = firebreaklaw20_GraphNames_w Try.prog  Q h := by kernel_rfl
theorem firebreaklaw20_GraphNames_call {Q : (Bool → (Hp → Prop))} {h : Hp} (hv : firebreaklaw20_GraphNames_w Try.prog  Q h) : CallT Try.prog n_firebreaklaw20_GraphNames [] (shBool) Q h :=
  show CallT Try.prog n_firebreaklaw20_GraphNames [] (shRes tb [4]) (Q) h from fun_sound (C := ⟨Try.prog, tb, firebreaklaw20_GraphNames_p⟩) tb_ok Try.func3 rfl (Eq.mpr (firebreaklaw20_GraphNames_eq  Q h) hv)

theorem firebreaklaw20_GraphRings_eq (e : Sl) (Q : (Bool → (Hp → Prop))) (h : Hp) : funW ⟨Try.prog, tb, firebreaklaw20_GraphRings_p⟩ Try.f4 firebreaklaw20_GraphRings_a [(shSl).enc e] (Q) h = firebreaklaw20_GraphRings_w Try.prog e Q h := by kernel_rfl
theorem firebreaklaw20_GraphRings_call {e : Sl} {Q : (Bool → (Hp → Prop))} {h : Hp} (hv : firebreaklaw20_GraphRings_w Try.prog e Q h) : CallT Try.prog n_firebreaklaw20_GraphRings [(shSl).enc e] (shBool) Q h :=
  show CallT Try.prog n_firebreaklaw20_GraphRings [(shSl).enc e] (shRes tb [4]) (Q) h from fun_sound (C := ⟨Try.prog, tb, firebreaklaw20_GraphRings_p⟩) tb_ok Try.func4 rfl (Eq.mpr (firebreaklaw20_GraphRings_eq e Q h) hv)

theorem firebreaklaw02_TableMays_eq (l : Sl) (Q : (Bool → (Hp → Prop))) (h : Hp) : funW ⟨Try.prog, tb, firebreaklaw02_TableMays_p⟩ Try.f5 firebreaklaw02_TableMays_a [(shSl).enc l] (Q) h = firebreaklaw02_TableMays_w Try.prog l Q h := by kernel_rfl
theorem firebreaklaw02_TableMays_call {l : Sl} {Q : (Bool → (Hp → Prop))} {h : Hp} (hv : firebreaklaw02_TableMays_w Try.prog l Q h) : CallT Try.prog n_firebreaklaw02_TableMays [(shSl).enc l] (shBool) Q h :=
  show CallT Try.prog n_firebreaklaw02_TableMays [(shSl).enc l] (shRes tb [4]) (Q) h from fun_sound (C := ⟨Try.prog, tb, firebreaklaw02_TableMays_p⟩) tb_ok Try.func5 rfl (Eq.mpr (firebreaklaw02_TableMays_eq l Q h) hv)

theorem firebreaklaw02_TableOrder_eq (l : Sl) (Q : (Bool → (Hp → Prop))) (h : Hp) : funW ⟨Try.prog, tb, firebreaklaw02_TableOrder_p⟩ Try.f6 firebreaklaw02_TableOrder_a [(shSl).enc l] (Q) h = firebreaklaw02_TableOrder_w Try.prog l Q h := by kernel_rfl
theorem firebreaklaw02_TableOrder_call {l : Sl} {Q : (Bool → (Hp → Prop))} {h : Hp} (hv : firebreaklaw02_TableOrder_w Try.prog l Q h) : CallT Try.prog n_firebreaklaw02_TableOrder [(shSl).enc l] (shBool) Q h :=
  show CallT Try.prog n_firebreaklaw02_TableOrder [(shSl).enc l] (shRes tb [4]) (Q) h from fun_sound (C := ⟨Try.prog, tb, firebreaklaw02_TableOrder_p⟩) tb_ok Try.func6 rfl (Eq.mpr (firebreaklaw02_TableOrder_eq l Q h) hv)

theorem firebreaklaw02_TableKeeps_eq (l : Sl) (a : Int) (Q : (Bool → (Hp → Prop))) (h : Hp) : funW ⟨Try.prog, tb, firebreaklaw02_TableKeeps_p⟩ Try.f7 firebreaklaw02_TableKeeps_a [(shSl).enc l, (shInt .u64).enc a] (Q) h = firebreaklaw02_TableKeeps_w Try.prog l a Q h := by kernel_rfl
theorem firebreaklaw02_TableKeeps_call {l : Sl} {a : Int} {Q : (Bool → (Hp → Prop))} {h : Hp} (hv : firebreaklaw02_TableKeeps_w Try.prog l a Q h) : CallT Try.prog n_firebreaklaw02_TableKeeps [(shSl).enc l, (shInt .u64).enc a] (shBool) Q h :=
  show CallT Try.prog n_firebreaklaw02_TableKeeps [(shSl).enc l, (shInt .u64).enc a] (shRes tb [4]) (Q) h from fun_sound (C := ⟨Try.prog, tb, firebreaklaw02_TableKeeps_p⟩) tb_ok Try.func7 rfl (Eq.mpr (firebreaklaw02_TableKeeps_eq l a Q h) hv)

theorem firebreaklaw20_fixed_eq  (Q : (Bool → (Hp → Prop))) (h : Hp) : funW ⟨Try.prog, tb, firebreaklaw20_fixed_p⟩ Try.f8 firebreaklaw20_fixed_a [] (Q) h = firebreaklaw20_fixed_w Try.prog  Q h := by kernel_rfl
theorem firebreaklaw20_fixed_call {Q : (Bool → (Hp → Prop))} {h : Hp} (hv : firebreaklaw20_fixed_w Try.prog  Q h) : CallT Try.prog n_firebreaklaw20_fixed [] (shBool) Q h :=
  show CallT Try.prog n_firebreaklaw20_fixed [] (shRes tb [4]) (Q) h from fun_sound (C := ⟨Try.prog, tb, firebreaklaw20_fixed_p⟩) tb_ok Try.func8 rfl (Eq.mpr (firebreaklaw20_fixed_eq  Q h) hv)

theorem firebreakref20_Ring_eq (e : Sl) (Q : (Sl → (Hp → Prop))) (h : Hp) : funW ⟨Try.prog, tb, firebreakref20_Ring_p⟩ Try.f9 firebreakref20_Ring_a [(shSl).enc e] (Q) h = firebreakref20_Ring_w Try.prog e Q h := by kernel_rfl
theorem firebreakref20_Ring_call {e : Sl} {Q : (Sl → (Hp → Prop))} {h : Hp} (hv : firebreakref20_Ring_w Try.prog e Q h) : CallT Try.prog n_firebreakref20_Ring [(shSl).enc e] (shSl) Q h :=
  show CallT Try.prog n_firebreakref20_Ring [(shSl).enc e] (shRes tb [25]) (Q) h from fun_sound (C := ⟨Try.prog, tb, firebreakref20_Ring_p⟩) tb_ok Try.func9 rfl (Eq.mpr (firebreakref20_Ring_eq e Q h) hv)

theorem firebreaklaw20_ints_eq (a : Sl) (b : Sl) (Q : (Bool → (Hp → Prop))) (h : Hp) : funW ⟨Try.prog, tb, firebreaklaw20_ints_p⟩ Try.f11 firebreaklaw20_ints_a [(shSl).enc a, (shSl).enc b] (Q) h = firebreaklaw20_ints_w Try.prog a b Q h := by kernel_rfl
theorem firebreaklaw20_ints_call {a : Sl} {b : Sl} {Q : (Bool → (Hp → Prop))} {h : Hp} (hv : firebreaklaw20_ints_w Try.prog a b Q h) : CallT Try.prog n_firebreaklaw20_ints [(shSl).enc a, (shSl).enc b] (shBool) Q h :=
  show CallT Try.prog n_firebreaklaw20_ints [(shSl).enc a, (shSl).enc b] (shRes tb [4]) (Q) h from fun_sound (C := ⟨Try.prog, tb, firebreaklaw20_ints_p⟩) tb_ok Try.func11 rfl (Eq.mpr (firebreaklaw20_ints_eq a b Q h) hv)

theorem firebreaklaw20_edges_eq (a : Sl) (b : Sl) (Q : (Bool → (Hp → Prop))) (h : Hp) : funW ⟨Try.prog, tb, firebreaklaw20_edges_p⟩ Try.f12 firebreaklaw20_edges_a [(shSl).enc a, (shSl).enc b] (Q) h = firebreaklaw20_edges_w Try.prog a b Q h := by kernel_rfl
theorem firebreaklaw20_edges_call {a : Sl} {b : Sl} {Q : (Bool → (Hp → Prop))} {h : Hp} (hv : firebreaklaw20_edges_w Try.prog a b Q h) : CallT Try.prog n_firebreaklaw20_edges [(shSl).enc a, (shSl).enc b] (shBool) Q h :=
  show CallT Try.prog n_firebreaklaw20_edges [(shSl).enc a, (shSl).enc b] (shRes tb [4]) (Q) h from fun_sound (C := ⟨Try.prog, tb, firebreaklaw20_edges_p⟩) tb_ok Try.func12 rfl (Eq.mpr (firebreaklaw20_edges_eq a b Q h) hv)

theorem firebreakref20_Next_eq (e : Sl) (Q : (Option Nat → (Hp → Prop))) (h : Hp) : funW ⟨Try.prog, tb, firebreakref20_Next_p⟩ Try.f13 firebreakref20_Next_a [(shSl).enc e] (Q) h = firebreakref20_Next_w Try.prog e Q h := by kernel_rfl
theorem firebreakref20_Next_call {e : Sl} {Q : (Option Nat → (Hp → Prop))} {h : Hp} (hv : firebreakref20_Next_w Try.prog e Q h) : CallT Try.prog n_firebreakref20_Next [(shSl).enc e] (shMap) Q h :=
  show CallT Try.prog n_firebreakref20_Next [(shSl).enc e] (shRes tb [29]) (Q) h from fun_sound (C := ⟨Try.prog, tb, firebreakref20_Next_p⟩) tb_ok Try.func13 rfl (Eq.mpr (firebreakref20_Next_eq e Q h) hv)

theorem firebreaklaw02_awake_eq  (Q : (Bool → (Hp → Prop))) (h : Hp) : funW ⟨Try.prog, tb, firebreaklaw02_awake_p⟩ Try.f14 firebreaklaw02_awake_a [] (Q) h = firebreaklaw02_awake_w Try.prog  Q h := by kernel_rfl
theorem firebreaklaw02_awake_call {Q : (Bool → (Hp → Prop))} {h : Hp} (hv : firebreaklaw02_awake_w Try.prog  Q h) : CallT Try.prog n_firebreaklaw02_awake [] (shBool) Q h :=
  show CallT Try.prog n_firebreaklaw02_awake [] (shRes tb [4]) (Q) h from fun_sound (C := ⟨Try.prog, tb, firebreaklaw02_awake_p⟩) tb_ok Try.func14 rfl (Eq.mpr (firebreaklaw02_awake_eq  Q h) hv)

theorem firebreaklaw02_short_eq (l : Sl) (Q : (Sl → (Hp → Prop))) (h : Hp) : funW ⟨Try.prog, tb, firebreaklaw02_short_p⟩ Try.f15 firebreaklaw02_short_a [(shSl).enc l] (Q) h = firebreaklaw02_short_w Try.prog l Q h := by kernel_rfl
theorem firebreaklaw02_short_call {l : Sl} {Q : (Sl → (Hp → Prop))} {h : Hp} (hv : firebreaklaw02_short_w Try.prog l Q h) : CallT Try.prog n_firebreaklaw02_short [(shSl).enc l] (shSl) Q h :=
  show CallT Try.prog n_firebreaklaw02_short [(shSl).enc l] (shRes tb [33]) (Q) h from fun_sound (C := ⟨Try.prog, tb, firebreaklaw02_short_p⟩) tb_ok Try.func15 rfl (Eq.mpr (firebreaklaw02_short_eq l Q h) hv)

theorem table_May_eq (l : Sl) (Q : (Int → (Int → (Hp → Prop)))) (h : Hp) : funW ⟨Try.prog, tb, table_May_p⟩ Try.f16 table_May_a [(shSl).enc l] (fun r => Q r.1 r.2) h = table_May_w Try.prog l Q h := by kernel_rfl
theorem table_May_call {l : Sl} {Q : (Int → (Int → (Hp → Prop)))} {h : Hp} (hv : table_May_w Try.prog l Q h) : Call2 Try.prog n_table_May [(shSl).enc l] (shInt .i64) (shInt .i64) Q h :=
  show CallT Try.prog n_table_May [(shSl).enc l] (shRes tb [35, 3]) (fun r => Q r.1 r.2) h from fun_sound (C := ⟨Try.prog, tb, table_May_p⟩) tb_ok Try.func16 rfl (Eq.mpr (table_May_eq l Q h) hv)

theorem firebreakref02_May_eq (l : Sl) (Q : (Int → (Int → (Hp → Prop)))) (h : Hp) : funW ⟨Try.prog, tb, firebreakref02_May_p⟩ Try.f17 firebreakref02_May_a [(shSl).enc l] (fun r => Q r.1 r.2) h = firebreakref02_May_w Try.prog l Q h := by kernel_rfl
theorem firebreakref02_May_call {l : Sl} {Q : (Int → (Int → (Hp → Prop)))} {h : Hp} (hv : firebreakref02_May_w Try.prog l Q h) : Call2 Try.prog n_firebreakref02_May [(shSl).enc l] (shInt .i64) (shInt .i64) Q h :=
  show CallT Try.prog n_firebreakref02_May [(shSl).enc l] (shRes tb [35, 3]) (fun r => Q r.1 r.2) h from fun_sound (C := ⟨Try.prog, tb, firebreakref02_May_p⟩) tb_ok Try.func17 rfl (Eq.mpr (firebreakref02_May_eq l Q h) hv)

theorem table_New_eq (l : Sl) (Q : (Option Addr → (Int → (Int → (Hp → Prop))))) (h : Hp) : funW ⟨Try.prog, tb, table_New_p⟩ Try.f18 table_New_a [(shSl).enc l] (fun r => Q r.1 r.2.1 r.2.2) h = table_New_w Try.prog l Q h := by kernel_rfl
theorem table_New_call {l : Sl} {Q : (Option Addr → (Int → (Int → (Hp → Prop))))} {h : Hp} (hv : table_New_w Try.prog l Q h) : Call3 Try.prog n_table_New [(shSl).enc l] (shPtr) (shInt .i64) (shInt .i64) Q h :=
  show CallT Try.prog n_table_New [(shSl).enc l] (shRes tb [38, 35, 3]) (fun r => Q r.1 r.2.1 r.2.2) h from fun_sound (C := ⟨Try.prog, tb, table_New_p⟩) tb_ok Try.func18 rfl (Eq.mpr (table_New_eq l Q h) hv)

theorem firebreakref02_SameLabels_eq (a : Sl) (b : Sl) (Q : (Bool → (Hp → Prop))) (h : Hp) : funW ⟨Try.prog, tb, firebreakref02_SameLabels_p⟩ Try.f19 firebreakref02_SameLabels_a [(shSl).enc a, (shSl).enc b] (Q) h = firebreakref02_SameLabels_w Try.prog a b Q h := by kernel_rfl
theorem firebreakref02_SameLabels_call {a : Sl} {b : Sl} {Q : (Bool → (Hp → Prop))} {h : Hp} (hv : firebreakref02_SameLabels_w Try.prog a b Q h) : CallT Try.prog n_firebreakref02_SameLabels [(shSl).enc a, (shSl).enc b] (shBool) Q h :=
  show CallT Try.prog n_firebreakref02_SameLabels [(shSl).enc a, (shSl).enc b] (shRes tb [4]) (Q) h from fun_sound (C := ⟨Try.prog, tb, firebreakref02_SameLabels_p⟩) tb_ok Try.func19 rfl (Eq.mpr (firebreakref02_SameLabels_eq a b Q h) hv)

theorem table_Canon_eq (l : Sl) (Q : (Sl → (Hp → Prop))) (h : Hp) : funW ⟨Try.prog, tb, table_Canon_p⟩ Try.f20 table_Canon_a [(shSl).enc l] (Q) h = table_Canon_w Try.prog l Q h := by kernel_rfl
theorem table_Canon_call {l : Sl} {Q : (Sl → (Hp → Prop))} {h : Hp} (hv : table_Canon_w Try.prog l Q h) : CallT Try.prog n_table_Canon [(shSl).enc l] (shSl) Q h :=
  show CallT Try.prog n_table_Canon [(shSl).enc l] (shRes tb [33]) (Q) h from fun_sound (C := ⟨Try.prog, tb, table_Canon_p⟩) tb_ok Try.func20 rfl (Eq.mpr (table_Canon_eq l Q h) hv)

theorem firebreakref02_Canon_eq (l : Sl) (Q : (Sl → (Hp → Prop))) (h : Hp) : funW ⟨Try.prog, tb, firebreakref02_Canon_p⟩ Try.f21 firebreakref02_Canon_a [(shSl).enc l] (Q) h = firebreakref02_Canon_w Try.prog l Q h := by kernel_rfl
theorem firebreakref02_Canon_call {l : Sl} {Q : (Sl → (Hp → Prop))} {h : Hp} (hv : firebreakref02_Canon_w Try.prog l Q h) : CallT Try.prog n_firebreakref02_Canon [(shSl).enc l] (shSl) Q h :=
  show CallT Try.prog n_firebreakref02_Canon [(shSl).enc l] (shRes tb [33]) (Q) h from fun_sound (C := ⟨Try.prog, tb, firebreakref02_Canon_p⟩) tb_ok Try.func21 rfl (Eq.mpr (firebreakref02_Canon_eq l Q h) hv)

theorem table_Table_Up_eq (t : Option Addr) (i : Int) (Q : (Sl → (Hp → Prop))) (h : Hp) : funW ⟨Try.prog, tb, table_Table_Up_p⟩ Try.f22 table_Table_Up_a [(shPtr).enc t, (shInt .i64).enc i] (Q) h = table_Table_Up_w Try.prog t i Q h := by kernel_rfl
theorem table_Table_Up_call {t : Option Addr} {i : Int} {Q : (Sl → (Hp → Prop))} {h : Hp} (hv : table_Table_Up_w Try.prog t i Q h) : CallT Try.prog n_table_Table_Up [(shPtr).enc t, (shInt .i64).enc i] (shSl) Q h :=
  show CallT Try.prog n_table_Table_Up [(shPtr).enc t, (shInt .i64).enc i] (shRes tb [25]) (Q) h from fun_sound (C := ⟨Try.prog, tb, table_Table_Up_p⟩) tb_ok Try.func22 rfl (Eq.mpr (table_Table_Up_eq t i Q h) hv)

theorem table_Table_Down_eq (t : Option Addr) (a : Int) (Q : (Sl → (Hp → Prop))) (h : Hp) : funW ⟨Try.prog, tb, table_Table_Down_p⟩ Try.f23 table_Table_Down_a [(shPtr).enc t, (shInt .u64).enc a] (Q) h = table_Table_Down_w Try.prog t a Q h := by kernel_rfl
theorem table_Table_Down_call {t : Option Addr} {a : Int} {Q : (Sl → (Hp → Prop))} {h : Hp} (hv : table_Table_Down_w Try.prog t a Q h) : CallT Try.prog n_table_Table_Down [(shPtr).enc t, (shInt .u64).enc a] (shSl) Q h :=
  show CallT Try.prog n_table_Table_Down [(shPtr).enc t, (shInt .u64).enc a] (shRes tb [25]) (Q) h from fun_sound (C := ⟨Try.prog, tb, table_Table_Down_p⟩) tb_ok Try.func23 rfl (Eq.mpr (table_Table_Down_eq t a Q h) hv)

theorem table_Table_Flows_eq (t : Option Addr) (i : Int) (j : Int) (Q : (Bool → (Hp → Prop))) (h : Hp) : funW ⟨Try.prog, tb, table_Table_Flows_p⟩ Try.f24 table_Table_Flows_a [(shPtr).enc t, (shInt .i64).enc i, (shInt .i64).enc j] (Q) h = table_Table_Flows_w Try.prog t i j Q h := by kernel_rfl
theorem table_Table_Flows_call {t : Option Addr} {i : Int} {j : Int} {Q : (Bool → (Hp → Prop))} {h : Hp} (hv : table_Table_Flows_w Try.prog t i j Q h) : CallT Try.prog n_table_Table_Flows [(shPtr).enc t, (shInt .i64).enc i, (shInt .i64).enc j] (shBool) Q h :=
  show CallT Try.prog n_table_Table_Flows [(shPtr).enc t, (shInt .i64).enc i, (shInt .i64).enc j] (shRes tb [4]) (Q) h from fun_sound (C := ⟨Try.prog, tb, table_Table_Flows_p⟩) tb_ok Try.func24 rfl (Eq.mpr (table_Table_Flows_eq t i j Q h) hv)

theorem firebreaklaw02_has_eq (l : Sl) (n : Int) (Q : (Bool → (Hp → Prop))) (h : Hp) : funW ⟨Try.prog, tb, firebreaklaw02_has_p⟩ Try.f25 firebreaklaw02_has_a [(shSl).enc l, (shInt .i64).enc n] (Q) h = firebreaklaw02_has_w Try.prog l n Q h := by kernel_rfl
theorem firebreaklaw02_has_call {l : Sl} {n : Int} {Q : (Bool → (Hp → Prop))} {h : Hp} (hv : firebreaklaw02_has_w Try.prog l n Q h) : CallT Try.prog n_firebreaklaw02_has [(shSl).enc l, (shInt .i64).enc n] (shBool) Q h :=
  show CallT Try.prog n_firebreaklaw02_has [(shSl).enc l, (shInt .i64).enc n] (shRes tb [4]) (Q) h from fun_sound (C := ⟨Try.prog, tb, firebreaklaw02_has_p⟩) tb_ok Try.func25 rfl (Eq.mpr (firebreaklaw02_has_eq l n Q h) hv)

end Lf

/-
  By program: a call does what its text tells.
-/
set_option maxRecDepth 100000
namespace Lf
open Go Go.Proofs

theorem firebreaklaw02_wide_eq (l : Sl) (Q : (Sl → (Hp → Prop))) (h : Hp) : funW ⟨Try.prog, tb, firebreaklaw02_wide_p⟩ Try.f26 firebreaklaw02_wide_a [(shSl).enc l] (Q) h = firebreaklaw02_wide_w Try.prog l Q h := by kernel_rfl
theorem firebreaklaw02_wide_call {l : Sl} {Q : (Sl → (Hp → Prop))} {h : Hp} (hv : firebreaklaw02_wide_w Try.prog l Q h) : CallT Try.prog n_firebreaklaw02_wide [(shSl).enc l] (shSl) Q h :=
  show CallT Try.prog n_firebreaklaw02_wide [(shSl).enc l] (shRes tb [33]) (Q) h from fun_sound (C := ⟨Try.prog, tb, firebreaklaw02_wide_p⟩) tb_ok Try.func26 rfl (Eq.mpr (firebreaklaw02_wide_eq l Q h) hv)

theorem firebreaklaw02_kept_eq (w : Sl) (l : Sl) (Q : (Bool → (Hp → Prop))) (h : Hp) : funW ⟨Try.prog, tb, firebreaklaw02_kept_p⟩ Try.f27 firebreaklaw02_kept_a [(shSl).enc w, (shSl).enc l] (Q) h = firebreaklaw02_kept_w Try.prog w l Q h := by kernel_rfl
theorem firebreaklaw02_kept_call {w : Sl} {l : Sl} {Q : (Bool → (Hp → Prop))} {h : Hp} (hv : firebreaklaw02_kept_w Try.prog w l Q h) : CallT Try.prog n_firebreaklaw02_kept [(shSl).enc w, (shSl).enc l] (shBool) Q h :=
  show CallT Try.prog n_firebreaklaw02_kept [(shSl).enc w, (shSl).enc l] (shRes tb [4]) (Q) h from fun_sound (C := ⟨Try.prog, tb, firebreaklaw02_kept_p⟩) tb_ok Try.func27 rfl (Eq.mpr (firebreaklaw02_kept_eq w l Q h) hv)

theorem firebreakref02_SameInts_eq (a : Sl) (b : Sl) (Q : (Bool → (Hp → Prop))) (h : Hp) : funW ⟨Try.prog, tb, firebreakref02_SameInts_p⟩ Try.f28 firebreakref02_SameInts_a [(shSl).enc a, (shSl).enc b] (Q) h = firebreakref02_SameInts_w Try.prog a b Q h := by kernel_rfl
theorem firebreakref02_SameInts_call {a : Sl} {b : Sl} {Q : (Bool → (Hp → Prop))} {h : Hp} (hv : firebreakref02_SameInts_w Try.prog a b Q h) : CallT Try.prog n_firebreakref02_SameInts [(shSl).enc a, (shSl).enc b] (shBool) Q h :=
  show CallT Try.prog n_firebreakref02_SameInts [(shSl).enc a, (shSl).enc b] (shRes tb [4]) (Q) h from fun_sound (C := ⟨Try.prog, tb, firebreakref02_SameInts_p⟩) tb_ok Try.func28 rfl (Eq.mpr (firebreakref02_SameInts_eq a b Q h) hv)

theorem firebreakref02_Down_eq (l : Sl) (a : Int) (Q : (Sl → (Hp → Prop))) (h : Hp) : funW ⟨Try.prog, tb, firebreakref02_Down_p⟩ Try.f29 firebreakref02_Down_a [(shSl).enc l, (shInt .u64).enc a] (Q) h = firebreakref02_Down_w Try.prog l a Q h := by kernel_rfl
theorem firebreakref02_Down_call {l : Sl} {a : Int} {Q : (Sl → (Hp → Prop))} {h : Hp} (hv : firebreakref02_Down_w Try.prog l a Q h) : CallT Try.prog n_firebreakref02_Down [(shSl).enc l, (shInt .u64).enc a] (shSl) Q h :=
  show CallT Try.prog n_firebreakref02_Down [(shSl).enc l, (shInt .u64).enc a] (shRes tb [25]) (Q) h from fun_sound (C := ⟨Try.prog, tb, firebreakref02_Down_p⟩) tb_ok Try.func29 rfl (Eq.mpr (firebreakref02_Down_eq l a Q h) hv)

theorem firebreakref02_Up_eq (l : Sl) (i : Int) (Q : (Sl → (Hp → Prop))) (h : Hp) : funW ⟨Try.prog, tb, firebreakref02_Up_p⟩ Try.f30 firebreakref02_Up_a [(shSl).enc l, (shInt .i64).enc i] (Q) h = firebreakref02_Up_w Try.prog l i Q h := by kernel_rfl
theorem firebreakref02_Up_call {l : Sl} {i : Int} {Q : (Sl → (Hp → Prop))} {h : Hp} (hv : firebreakref02_Up_w Try.prog l i Q h) : CallT Try.prog n_firebreakref02_Up [(shSl).enc l, (shInt .i64).enc i] (shSl) Q h :=
  show CallT Try.prog n_firebreakref02_Up [(shSl).enc l, (shInt .i64).enc i] (shRes tb [25]) (Q) h from fun_sound (C := ⟨Try.prog, tb, firebreakref02_Up_p⟩) tb_ok Try.func30 rfl (Eq.mpr (firebreakref02_Up_eq l i Q h) hv)

theorem firebreakref20_sorted_eq (l : Sl) (Q : (Sl → (Hp → Prop))) (h : Hp) : funW ⟨Try.prog, tb, firebreakref20_sorted_p⟩ Try.f31 firebreakref20_sorted_a [(shSl).enc l] (Q) h = firebreakref20_sorted_w Try.prog l Q h := by kernel_rfl
theorem firebreakref20_sorted_call {l : Sl} {Q : (Sl → (Hp → Prop))} {h : Hp} (hv : firebreakref20_sorted_w Try.prog l Q h) : CallT Try.prog n_firebreakref20_sorted [(shSl).enc l] (shSl) Q h :=
  show CallT Try.prog n_firebreakref20_sorted [(shSl).enc l] (shRes tb [25]) (Q) h from fun_sound (C := ⟨Try.prog, tb, firebreakref20_sorted_p⟩) tb_ok Try.func31 rfl (Eq.mpr (firebreakref20_sorted_eq l Q h) hv)

theorem firebreakref20_told_eq (next : Option Nat) (p : Int) (Q : (Sl → (Hp → Prop))) (h : Hp) : funW ⟨Try.prog, tb, firebreakref20_told_p⟩ Try.f32 firebreakref20_told_a [(shMap).enc next, (shInt .i64).enc p] (Q) h = firebreakref20_told_w Try.prog next p Q h := by kernel_rfl
theorem firebreakref20_told_call {next : Option Nat} {p : Int} {Q : (Sl → (Hp → Prop))} {h : Hp} (hv : firebreakref20_told_w Try.prog next p Q h) : CallT Try.prog n_firebreakref20_told [(shMap).enc next, (shInt .i64).enc p] (shSl) Q h :=
  show CallT Try.prog n_firebreakref20_told [(shMap).enc next, (shInt .i64).enc p] (shRes tb [25]) (Q) h from fun_sound (C := ⟨Try.prog, tb, firebreakref20_told_p⟩) tb_ok Try.func32 rfl (Eq.mpr (firebreakref20_told_eq next p Q h) hv)

theorem slices_Sorted_int_eq (seq : Leaf) (Q : (Sl → (Hp → Prop))) (h : Hp) : funW ⟨Try.prog, tb, slices_Sorted_int_p⟩ Try.f33 slices_Sorted_int_a [(shLeaf).enc seq] (Q) h = slices_Sorted_int_w Try.prog seq Q h := by kernel_rfl
theorem slices_Sorted_int_call {seq : Leaf} {Q : (Sl → (Hp → Prop))} {h : Hp} (hv : slices_Sorted_int_w Try.prog seq Q h) : CallT Try.prog n_slices_Sorted_int [(shLeaf).enc seq] (shSl) Q h :=
  show CallT Try.prog n_slices_Sorted_int [(shLeaf).enc seq] (shRes tb [25]) (Q) h from fun_sound (C := ⟨Try.prog, tb, slices_Sorted_int_p⟩) tb_ok Try.func33 rfl (Eq.mpr (slices_Sorted_int_eq seq Q h) hv)

theorem maps_Keys_map_int_int_int_int_eq (m : Option Nat) (Q : (Leaf → (Hp → Prop))) (h : Hp) : funW ⟨Try.prog, tb, maps_Keys_map_int_int_int_int_p⟩ Try.f34 maps_Keys_map_int_int_int_int_a [(shMap).enc m] (Q) h = maps_Keys_map_int_int_int_int_w Try.prog m Q h := by kernel_rfl
theorem maps_Keys_map_int_int_int_int_call {m : Option Nat} {Q : (Leaf → (Hp → Prop))} {h : Hp} (hv : maps_Keys_map_int_int_int_int_w Try.prog m Q h) : CallT Try.prog n_maps_Keys_map_int_int_int_int [(shMap).enc m] (shLeaf) Q h :=
  show CallT Try.prog n_maps_Keys_map_int_int_int_int [(shMap).enc m] (shRes tb [56]) (Q) h from fun_sound (C := ⟨Try.prog, tb, maps_Keys_map_int_int_int_int_p⟩) tb_ok Try.func34 rfl (Eq.mpr (maps_Keys_map_int_int_int_int_eq m Q h) hv)

theorem graph_turned_eq (ring : Sl) (Q : (Sl → (Hp → Prop))) (h : Hp) : funW ⟨Try.prog, tb, graph_turned_p⟩ Try.f35 graph_turned_a [(shSl).enc ring] (Q) h = graph_turned_w Try.prog ring Q h := by kernel_rfl
theorem graph_turned_call {ring : Sl} {Q : (Sl → (Hp → Prop))} {h : Hp} (hv : graph_turned_w Try.prog ring Q h) : CallT Try.prog n_graph_turned [(shSl).enc ring] (shSl) Q h :=
  show CallT Try.prog n_graph_turned [(shSl).enc ring] (shRes tb [25]) (Q) h from fun_sound (C := ⟨Try.prog, tb, graph_turned_p⟩) tb_ok Try.func35 rfl (Eq.mpr (graph_turned_eq ring Q h) hv)

theorem slices_Index_int_int_eq (s : Sl) (v : Int) (Q : (Int → (Hp → Prop))) (h : Hp) : funW ⟨Try.prog, tb, slices_Index_int_int_p⟩ Try.f36 slices_Index_int_int_a [(shSl).enc s, (shInt .i64).enc v] (Q) h = slices_Index_int_int_w Try.prog s v Q h := by kernel_rfl
theorem slices_Index_int_int_call {s : Sl} {v : Int} {Q : (Int → (Hp → Prop))} {h : Hp} (hv : slices_Index_int_int_w Try.prog s v Q h) : CallT Try.prog n_slices_Index_int_int [(shSl).enc s, (shInt .i64).enc v] (shInt .i64) Q h :=
  show CallT Try.prog n_slices_Index_int_int [(shSl).enc s, (shInt .i64).enc v] (shRes tb [3]) (Q) h from fun_sound (C := ⟨Try.prog, tb, slices_Index_int_int_p⟩) tb_ok Try.func36 rfl (Eq.mpr (slices_Index_int_int_eq s v Q h) hv)

theorem table_Table_Len_eq (t : Option Addr) (Q : (Int → (Hp → Prop))) (h : Hp) : funW ⟨Try.prog, tb, table_Table_Len_p⟩ Try.f37 table_Table_Len_a [(shPtr).enc t] (Q) h = table_Table_Len_w Try.prog t Q h := by kernel_rfl
theorem table_Table_Len_call {t : Option Addr} {Q : (Int → (Hp → Prop))} {h : Hp} (hv : table_Table_Len_w Try.prog t Q h) : CallT Try.prog n_table_Table_Len [(shPtr).enc t] (shInt .i64) Q h :=
  show CallT Try.prog n_table_Table_Len [(shPtr).enc t] (shRes tb [3]) (Q) h from fun_sound (C := ⟨Try.prog, tb, table_Table_Len_p⟩) tb_ok Try.func37 rfl (Eq.mpr (table_Table_Len_eq t Q h) hv)

theorem table_Table_Label_eq (t : Option Addr) (i : Int) (Q : (Int → (Int → (Hp → Prop)))) (h : Hp) : funW ⟨Try.prog, tb, table_Table_Label_p⟩ Try.f38 table_Table_Label_a [(shPtr).enc t, (shInt .i64).enc i] (fun r => Q r.1 r.2) h = table_Table_Label_w Try.prog t i Q h := by kernel_rfl
theorem table_Table_Label_call {t : Option Addr} {i : Int} {Q : (Int → (Int → (Hp → Prop)))} {h : Hp} (hv : table_Table_Label_w Try.prog t i Q h) : Call2 Try.prog n_table_Table_Label [(shPtr).enc t, (shInt .i64).enc i] (shInt .u64) (shInt .i64) Q h :=
  show CallT Try.prog n_table_Table_Label [(shPtr).enc t, (shInt .i64).enc i] (shRes tb [43, 35]) (fun r => Q r.1 r.2) h from fun_sound (C := ⟨Try.prog, tb, table_Table_Label_p⟩) tb_ok Try.func38 rfl (Eq.mpr (table_Table_Label_eq t i Q h) hv)

theorem table_Table_Index_eq (t : Option Addr) (a : Int) (Q : (Int → (Bool → (Hp → Prop)))) (h : Hp) : funW ⟨Try.prog, tb, table_Table_Index_p⟩ Try.f39 table_Table_Index_a [(shPtr).enc t, (shInt .u64).enc a] (fun r => Q r.1 r.2) h = table_Table_Index_w Try.prog t a Q h := by kernel_rfl
theorem table_Table_Index_call {t : Option Addr} {a : Int} {Q : (Int → (Bool → (Hp → Prop)))} {h : Hp} (hv : table_Table_Index_w Try.prog t a Q h) : Call2 Try.prog n_table_Table_Index [(shPtr).enc t, (shInt .u64).enc a] (shInt .i64) (shBool) Q h :=
  show CallT Try.prog n_table_Table_Index [(shPtr).enc t, (shInt .u64).enc a] (shRes tb [3, 4]) (fun r => Q r.1 r.2) h from fun_sound (C := ⟨Try.prog, tb, table_Table_Index_p⟩) tb_ok Try.func39 rfl (Eq.mpr (table_Table_Index_eq t a Q h) hv)

theorem slices_Clone_uint64_uint64_eq (s : Sl) (Q : (Sl → (Hp → Prop))) (h : Hp) : funW ⟨Try.prog, tb, slices_Clone_uint64_uint64_p⟩ Try.f40 slices_Clone_uint64_uint64_a [(shSl).enc s] (Q) h = slices_Clone_uint64_uint64_w Try.prog s Q h := by kernel_rfl
theorem slices_Clone_uint64_uint64_call {s : Sl} {Q : (Sl → (Hp → Prop))} {h : Hp} (hv : slices_Clone_uint64_uint64_w Try.prog s Q h) : CallT Try.prog n_slices_Clone_uint64_uint64 [(shSl).enc s] (shSl) Q h :=
  show CallT Try.prog n_slices_Clone_uint64_uint64 [(shSl).enc s] (shRes tb [33]) (Q) h from fun_sound (C := ⟨Try.prog, tb, slices_Clone_uint64_uint64_p⟩) tb_ok Try.func40 rfl (Eq.mpr (slices_Clone_uint64_uint64_eq s Q h) hv)

theorem slices_Sort_uint64_uint64_eq (x : Sl) (Q : (Hp → Prop)) (h : Hp) : funW ⟨Try.prog, tb, slices_Sort_uint64_uint64_p⟩ Try.f41 slices_Sort_uint64_uint64_a [(shSl).enc x] (fun _ => Q) h = slices_Sort_uint64_uint64_w Try.prog x Q h := by kernel_rfl
theorem slices_Sort_uint64_uint64_call {x : Sl} {Q : (Hp → Prop)} {h : Hp} (hv : slices_Sort_uint64_uint64_w Try.prog x Q h) : Call0 Try.prog n_slices_Sort_uint64_uint64 [(shSl).enc x] (Q) h :=
  show CallT Try.prog n_slices_Sort_uint64_uint64 [(shSl).enc x] (shRes tb []) (fun _ => Q) h from fun_sound (C := ⟨Try.prog, tb, slices_Sort_uint64_uint64_p⟩) tb_ok Try.func41 rfl (Eq.mpr (slices_Sort_uint64_uint64_eq x Q h) hv)

theorem slices_Compact_uint64_uint64_eq (s : Sl) (Q : (Sl → (Hp → Prop))) (h : Hp) : funW ⟨Try.prog, tb, slices_Compact_uint64_uint64_p⟩ Try.f42 slices_Compact_uint64_uint64_a [(shSl).enc s] (Q) h = slices_Compact_uint64_uint64_w Try.prog s Q h := by kernel_rfl
theorem slices_Compact_uint64_uint64_call {s : Sl} {Q : (Sl → (Hp → Prop))} {h : Hp} (hv : slices_Compact_uint64_uint64_w Try.prog s Q h) : CallT Try.prog n_slices_Compact_uint64_uint64 [(shSl).enc s] (shSl) Q h :=
  show CallT Try.prog n_slices_Compact_uint64_uint64 [(shSl).enc s] (shRes tb [33]) (Q) h from fun_sound (C := ⟨Try.prog, tb, slices_Compact_uint64_uint64_p⟩) tb_ok Try.func42 rfl (Eq.mpr (slices_Compact_uint64_uint64_eq s Q h) hv)

theorem table_Table_those_eq (t : Option Addr) (is : Leaf) (Q : (Sl → (Hp → Prop))) (h : Hp) : funW ⟨Try.prog, tb, table_Table_those_p⟩ Try.f43 table_Table_those_a [(shPtr).enc t, (shLeaf).enc is] (Q) h = table_Table_those_w Try.prog t is Q h := by kernel_rfl
theorem table_Table_those_call {t : Option Addr} {is : Leaf} {Q : (Sl → (Hp → Prop))} {h : Hp} (hv : table_Table_those_w Try.prog t is Q h) : CallT Try.prog n_table_Table_those [(shPtr).enc t, (shLeaf).enc is] (shSl) Q h :=
  show CallT Try.prog n_table_Table_those [(shPtr).enc t, (shLeaf).enc is] (shRes tb [25]) (Q) h from fun_sound (C := ⟨Try.prog, tb, table_Table_those_p⟩) tb_ok Try.func43 rfl (Eq.mpr (table_Table_those_eq t is Q h) hv)

theorem table_Table_Up_1_eq (j : Int) (a1 : Addr) (a2 : Addr) (Q : (Bool → (Hp → Prop))) (h : Hp) : funW ⟨Try.prog, tb, table_Table_Up_1_p⟩ Try.f44 table_Table_Up_1_a [(shInt .i64).enc j, .pointer (some a1), .pointer (some a2)] (Q) h = table_Table_Up_1_w Try.prog j a1 a2 Q h := by kernel_rfl
theorem table_Table_Up_1_call {j : Int} {a1 : Addr} {a2 : Addr} {Q : (Bool → (Hp → Prop))} {h : Hp} (hv : table_Table_Up_1_w Try.prog j a1 a2 Q h) : CallT Try.prog n_table_Table_Up_1 [(shInt .i64).enc j, .pointer (some a1), .pointer (some a2)] (shBool) Q h :=
  show CallT Try.prog n_table_Table_Up_1 [(shInt .i64).enc j, .pointer (some a1), .pointer (some a2)] (shRes tb [4]) (Q) h from fun_sound (C := ⟨Try.prog, tb, table_Table_Up_1_p⟩) tb_ok Try.func44 rfl (Eq.mpr (table_Table_Up_1_eq j a1 a2 Q h) hv)

theorem table_Table_Down_1_eq (i : Int) (a1 : Addr) (a2 : Addr) (Q : (Bool → (Hp → Prop))) (h : Hp) : funW ⟨Try.prog, tb, table_Table_Down_1_p⟩ Try.f45 table_Table_Down_1_a [(shInt .i64).enc i, .pointer (some a1), .pointer (some a2)] (Q) h = table_Table_Down_1_w Try.prog i a1 a2 Q h := by kernel_rfl
theorem table_Table_Down_1_call {i : Int} {a1 : Addr} {a2 : Addr} {Q : (Bool → (Hp → Prop))} {h : Hp} (hv : table_Table_Down_1_w Try.prog i a1 a2 Q h) : CallT Try.prog n_table_Table_Down_1 [(shInt .i64).enc i, .pointer (some a1), .pointer (some a2)] (shBool) Q h :=
  show CallT Try.prog n_table_Table_Down_1 [(shInt .i64).enc i, .pointer (some a1), .pointer (some a2)] (shRes tb [4]) (Q) h from fun_sound (C := ⟨Try.prog, tb, table_Table_Down_1_p⟩) tb_ok Try.func45 rfl (Eq.mpr (table_Table_Down_1_eq i a1 a2 Q h) hv)

theorem label_Flows_eq (a : Int) (b : Int) (Q : (Bool → (Hp → Prop))) (h : Hp) : funW ⟨Try.prog, tb, label_Flows_p⟩ Try.f46 label_Flows_a [(shInt .u64).enc a, (shInt .u64).enc b] (Q) h = label_Flows_w Try.prog a b Q h := by kernel_rfl
theorem label_Flows_call {a : Int} {b : Int} {Q : (Bool → (Hp → Prop))} {h : Hp} (hv : label_Flows_w Try.prog a b Q h) : CallT Try.prog n_label_Flows [(shInt .u64).enc a, (shInt .u64).enc b] (shBool) Q h :=
  show CallT Try.prog n_label_Flows [(shInt .u64).enc a, (shInt .u64).enc b] (shRes tb [4]) (Q) h from fun_sound (C := ⟨Try.prog, tb, label_Flows_p⟩) tb_ok Try.func46 rfl (Eq.mpr (label_Flows_eq a b Q h) hv)

theorem table_Table_is_eq (t : Option Addr) (i : Int) (Q : (Bool → (Hp → Prop))) (h : Hp) : funW ⟨Try.prog, tb, table_Table_is_p⟩ Try.f47 table_Table_is_a [(shPtr).enc t, (shInt .i64).enc i] (Q) h = table_Table_is_w Try.prog t i Q h := by kernel_rfl
theorem table_Table_is_call {t : Option Addr} {i : Int} {Q : (Bool → (Hp → Prop))} {h : Hp} (hv : table_Table_is_w Try.prog t i Q h) : CallT Try.prog n_table_Table_is [(shPtr).enc t, (shInt .i64).enc i] (shBool) Q h :=
  show CallT Try.prog n_table_Table_is [(shPtr).enc t, (shInt .i64).enc i] (shRes tb [4]) (Q) h from fun_sound (C := ⟨Try.prog, tb, table_Table_is_p⟩) tb_ok Try.func47 rfl (Eq.mpr (table_Table_is_eq t i Q h) hv)

end Lf

/-
  By program: a call does what its text tells.
-/
set_option maxRecDepth 100000
namespace Lf
open Go Go.Proofs

theorem firebreakref01_Flows_eq (a : Int) (b : Int) (Q : (Bool → (Hp → Prop))) (h : Hp) : funW ⟨Try.prog, tb, firebreakref01_Flows_p⟩ Try.f48 firebreakref01_Flows_a [(shInt .u64).enc a, (shInt .u64).enc b] (Q) h = firebreakref01_Flows_w Try.prog a b Q h := by kernel_rfl
theorem firebreakref01_Flows_call {a : Int} {b : Int} {Q : (Bool → (Hp → Prop))} {h : Hp} (hv : firebreakref01_Flows_w Try.prog a b Q h) : CallT Try.prog n_firebreakref01_Flows [(shInt .u64).enc a, (shInt .u64).enc b] (shBool) Q h :=
  show CallT Try.prog n_firebreakref01_Flows [(shInt .u64).enc a, (shInt .u64).enc b] (shRes tb [4]) (Q) h from fun_sound (C := ⟨Try.prog, tb, firebreakref01_Flows_p⟩) tb_ok Try.func48 rfl (Eq.mpr (firebreakref01_Flows_eq a b Q h) hv)

theorem firebreakref02_Flows_eq (l : Sl) (i : Int) (j : Int) (Q : (Bool → (Hp → Prop))) (h : Hp) : funW ⟨Try.prog, tb, firebreakref02_Flows_p⟩ Try.f49 firebreakref02_Flows_a [(shSl).enc l, (shInt .i64).enc i, (shInt .i64).enc j] (Q) h = firebreakref02_Flows_w Try.prog l i j Q h := by kernel_rfl
theorem firebreakref02_Flows_call {l : Sl} {i : Int} {j : Int} {Q : (Bool → (Hp → Prop))} {h : Hp} (hv : firebreakref02_Flows_w Try.prog l i j Q h) : CallT Try.prog n_firebreakref02_Flows [(shSl).enc l, (shInt .i64).enc i, (shInt .i64).enc j] (shBool) Q h :=
  show CallT Try.prog n_firebreakref02_Flows [(shSl).enc l, (shInt .i64).enc i, (shInt .i64).enc j] (shRes tb [4]) (Q) h from fun_sound (C := ⟨Try.prog, tb, firebreakref02_Flows_p⟩) tb_ok Try.func49 rfl (Eq.mpr (firebreakref02_Flows_eq l i j Q h) hv)

theorem slices_Collect_int_eq (seq : Leaf) (Q : (Sl → (Hp → Prop))) (h : Hp) : funW ⟨Try.prog, tb, slices_Collect_int_p⟩ Try.f50 slices_Collect_int_a [(shLeaf).enc seq] (Q) h = slices_Collect_int_w Try.prog seq Q h := by kernel_rfl
theorem slices_Collect_int_call {seq : Leaf} {Q : (Sl → (Hp → Prop))} {h : Hp} (hv : slices_Collect_int_w Try.prog seq Q h) : CallT Try.prog n_slices_Collect_int [(shLeaf).enc seq] (shSl) Q h :=
  show CallT Try.prog n_slices_Collect_int [(shLeaf).enc seq] (shRes tb [25]) (Q) h from fun_sound (C := ⟨Try.prog, tb, slices_Collect_int_p⟩) tb_ok Try.func50 rfl (Eq.mpr (slices_Collect_int_eq seq Q h) hv)

theorem slices_Sort_int_int_eq (x : Sl) (Q : (Hp → Prop)) (h : Hp) : funW ⟨Try.prog, tb, slices_Sort_int_int_p⟩ Try.f51 slices_Sort_int_int_a [(shSl).enc x] (fun _ => Q) h = slices_Sort_int_int_w Try.prog x Q h := by kernel_rfl
theorem slices_Sort_int_int_call {x : Sl} {Q : (Hp → Prop)} {h : Hp} (hv : slices_Sort_int_int_w Try.prog x Q h) : Call0 Try.prog n_slices_Sort_int_int [(shSl).enc x] (Q) h :=
  show CallT Try.prog n_slices_Sort_int_int [(shSl).enc x] (shRes tb []) (fun _ => Q) h from fun_sound (C := ⟨Try.prog, tb, slices_Sort_int_int_p⟩) tb_ok Try.func51 rfl (Eq.mpr (slices_Sort_int_int_eq x Q h) hv)

theorem maps_Keys_map_int_int_int_int_1_eq (yield : Leaf) (a1 : Addr) (Q : (Hp → Prop)) (h : Hp) : funW ⟨Try.prog, tb, maps_Keys_map_int_int_int_int_1_p⟩ Try.f52 maps_Keys_map_int_int_int_int_1_a [(shLeaf).enc yield, .pointer (some a1)] (fun _ => Q) h = maps_Keys_map_int_int_int_int_1_w Try.prog yield a1 Q h := by kernel_rfl
theorem maps_Keys_map_int_int_int_int_1_call {yield : Leaf} {a1 : Addr} {Q : (Hp → Prop)} {h : Hp} (hv : maps_Keys_map_int_int_int_int_1_w Try.prog yield a1 Q h) : Call0 Try.prog n_maps_Keys_map_int_int_int_int_1 [(shLeaf).enc yield, .pointer (some a1)] (Q) h :=
  show CallT Try.prog n_maps_Keys_map_int_int_int_int_1 [(shLeaf).enc yield, .pointer (some a1)] (shRes tb []) (fun _ => Q) h from fun_sound (C := ⟨Try.prog, tb, maps_Keys_map_int_int_int_int_1_p⟩) tb_ok Try.func52 rfl (Eq.mpr (maps_Keys_map_int_int_int_int_1_eq yield a1 Q h) hv)

theorem slices_Min_int_int_eq (x : Sl) (Q : (Int → (Hp → Prop))) (h : Hp) : funW ⟨Try.prog, tb, slices_Min_int_int_p⟩ Try.f53 slices_Min_int_int_a [(shSl).enc x] (Q) h = slices_Min_int_int_w Try.prog x Q h := by kernel_rfl
theorem slices_Min_int_int_call {x : Sl} {Q : (Int → (Hp → Prop))} {h : Hp} (hv : slices_Min_int_int_w Try.prog x Q h) : CallT Try.prog n_slices_Min_int_int [(shSl).enc x] (shInt .i64) Q h :=
  show CallT Try.prog n_slices_Min_int_int [(shSl).enc x] (shRes tb [3]) (Q) h from fun_sound (C := ⟨Try.prog, tb, slices_Min_int_int_p⟩) tb_ok Try.func53 rfl (Eq.mpr (slices_Min_int_int_eq x Q h) hv)

theorem slices_Clone_int_int_eq (s : Sl) (Q : (Sl → (Hp → Prop))) (h : Hp) : funW ⟨Try.prog, tb, slices_Clone_int_int_p⟩ Try.f54 slices_Clone_int_int_a [(shSl).enc s] (Q) h = slices_Clone_int_int_w Try.prog s Q h := by kernel_rfl
theorem slices_Clone_int_int_call {s : Sl} {Q : (Sl → (Hp → Prop))} {h : Hp} (hv : slices_Clone_int_int_w Try.prog s Q h) : CallT Try.prog n_slices_Clone_int_int [(shSl).enc s] (shSl) Q h :=
  show CallT Try.prog n_slices_Clone_int_int [(shSl).enc s] (shRes tb [25]) (Q) h from fun_sound (C := ⟨Try.prog, tb, slices_Clone_int_int_p⟩) tb_ok Try.func54 rfl (Eq.mpr (slices_Clone_int_int_eq s Q h) hv)

theorem slices_pdqsortOrdered_uint64_eq (data : Sl) (a : Int) (b : Int) (limit : Int) (Q : (Hp → Prop)) (h : Hp) : funW ⟨Try.prog, tb, slices_pdqsortOrdered_uint64_p⟩ Try.f55 slices_pdqsortOrdered_uint64_a [(shSl).enc data, (shInt .i64).enc a, (shInt .i64).enc b, (shInt .i64).enc limit] (fun _ => Q) h = slices_pdqsortOrdered_uint64_w Try.prog data a b limit Q h := by kernel_rfl
theorem slices_pdqsortOrdered_uint64_call {data : Sl} {a : Int} {b : Int} {limit : Int} {Q : (Hp → Prop)} {h : Hp} (hv : slices_pdqsortOrdered_uint64_w Try.prog data a b limit Q h) : Call0 Try.prog n_slices_pdqsortOrdered_uint64 [(shSl).enc data, (shInt .i64).enc a, (shInt .i64).enc b, (shInt .i64).enc limit] (Q) h :=
  show CallT Try.prog n_slices_pdqsortOrdered_uint64 [(shSl).enc data, (shInt .i64).enc a, (shInt .i64).enc b, (shInt .i64).enc limit] (shRes tb []) (fun _ => Q) h from fun_sound (C := ⟨Try.prog, tb, slices_pdqsortOrdered_uint64_p⟩) tb_ok Try.func55 rfl (Eq.mpr (slices_pdqsortOrdered_uint64_eq data a b limit Q h) hv)

theorem math_bits_Len_eq (x : Int) (Q : (Int → (Hp → Prop))) (h : Hp) : funW ⟨Try.prog, tb, math_bits_Len_p⟩ Try.f56 math_bits_Len_a [(shInt .u64).enc x] (Q) h = math_bits_Len_w Try.prog x Q h := by kernel_rfl
theorem math_bits_Len_call {x : Int} {Q : (Int → (Hp → Prop))} {h : Hp} (hv : math_bits_Len_w Try.prog x Q h) : CallT Try.prog n_math_bits_Len [(shInt .u64).enc x] (shInt .i64) Q h :=
  show CallT Try.prog n_math_bits_Len [(shInt .u64).enc x] (shRes tb [3]) (Q) h from fun_sound (C := ⟨Try.prog, tb, math_bits_Len_p⟩) tb_ok Try.func56 rfl (Eq.mpr (math_bits_Len_eq x Q h) hv)

theorem firebreakref01_Has_eq (a : Int) (n : Int) (Q : (Bool → (Hp → Prop))) (h : Hp) : funW ⟨Try.prog, tb, firebreakref01_Has_p⟩ Try.f57 firebreakref01_Has_a [(shInt .u64).enc a, (shInt .i64).enc n] (Q) h = firebreakref01_Has_w Try.prog a n Q h := by kernel_rfl
theorem firebreakref01_Has_call {a : Int} {n : Int} {Q : (Bool → (Hp → Prop))} {h : Hp} (hv : firebreakref01_Has_w Try.prog a n Q h) : CallT Try.prog n_firebreakref01_Has [(shInt .u64).enc a, (shInt .i64).enc n] (shBool) Q h :=
  show CallT Try.prog n_firebreakref01_Has [(shInt .u64).enc a, (shInt .i64).enc n] (shRes tb [4]) (Q) h from fun_sound (C := ⟨Try.prog, tb, firebreakref01_Has_p⟩) tb_ok Try.func57 rfl (Eq.mpr (firebreakref01_Has_eq a n Q h) hv)

theorem slices_pdqsortOrdered_int_eq (data : Sl) (a : Int) (b : Int) (limit : Int) (Q : (Hp → Prop)) (h : Hp) : funW ⟨Try.prog, tb, slices_pdqsortOrdered_int_p⟩ Try.f59 slices_pdqsortOrdered_int_a [(shSl).enc data, (shInt .i64).enc a, (shInt .i64).enc b, (shInt .i64).enc limit] (fun _ => Q) h = slices_pdqsortOrdered_int_w Try.prog data a b limit Q h := by kernel_rfl
theorem slices_pdqsortOrdered_int_call {data : Sl} {a : Int} {b : Int} {limit : Int} {Q : (Hp → Prop)} {h : Hp} (hv : slices_pdqsortOrdered_int_w Try.prog data a b limit Q h) : Call0 Try.prog n_slices_pdqsortOrdered_int [(shSl).enc data, (shInt .i64).enc a, (shInt .i64).enc b, (shInt .i64).enc limit] (Q) h :=
  show CallT Try.prog n_slices_pdqsortOrdered_int [(shSl).enc data, (shInt .i64).enc a, (shInt .i64).enc b, (shInt .i64).enc limit] (shRes tb []) (fun _ => Q) h from fun_sound (C := ⟨Try.prog, tb, slices_pdqsortOrdered_int_p⟩) tb_ok Try.func59 rfl (Eq.mpr (slices_pdqsortOrdered_int_eq data a b limit Q h) hv)

theorem slices_insertionSortOrdered_uint64_eq (data : Sl) (a : Int) (b : Int) (Q : (Hp → Prop)) (h : Hp) : funW ⟨Try.prog, tb, slices_insertionSortOrdered_uint64_p⟩ Try.f60 slices_insertionSortOrdered_uint64_a [(shSl).enc data, (shInt .i64).enc a, (shInt .i64).enc b] (fun _ => Q) h = slices_insertionSortOrdered_uint64_w Try.prog data a b Q h := by kernel_rfl
theorem slices_insertionSortOrdered_uint64_call {data : Sl} {a : Int} {b : Int} {Q : (Hp → Prop)} {h : Hp} (hv : slices_insertionSortOrdered_uint64_w Try.prog data a b Q h) : Call0 Try.prog n_slices_insertionSortOrdered_uint64 [(shSl).enc data, (shInt .i64).enc a, (shInt .i64).enc b] (Q) h :=
  show CallT Try.prog n_slices_insertionSortOrdered_uint64 [(shSl).enc data, (shInt .i64).enc a, (shInt .i64).enc b] (shRes tb []) (fun _ => Q) h from fun_sound (C := ⟨Try.prog, tb, slices_insertionSortOrdered_uint64_p⟩) tb_ok Try.func60 rfl (Eq.mpr (slices_insertionSortOrdered_uint64_eq data a b Q h) hv)

theorem slices_heapSortOrdered_uint64_eq (data : Sl) (a : Int) (b : Int) (Q : (Hp → Prop)) (h : Hp) : funW ⟨Try.prog, tb, slices_heapSortOrdered_uint64_p⟩ Try.f61 slices_heapSortOrdered_uint64_a [(shSl).enc data, (shInt .i64).enc a, (shInt .i64).enc b] (fun _ => Q) h = slices_heapSortOrdered_uint64_w Try.prog data a b Q h := by kernel_rfl
theorem slices_heapSortOrdered_uint64_call {data : Sl} {a : Int} {b : Int} {Q : (Hp → Prop)} {h : Hp} (hv : slices_heapSortOrdered_uint64_w Try.prog data a b Q h) : Call0 Try.prog n_slices_heapSortOrdered_uint64 [(shSl).enc data, (shInt .i64).enc a, (shInt .i64).enc b] (Q) h :=
  show CallT Try.prog n_slices_heapSortOrdered_uint64 [(shSl).enc data, (shInt .i64).enc a, (shInt .i64).enc b] (shRes tb []) (fun _ => Q) h from fun_sound (C := ⟨Try.prog, tb, slices_heapSortOrdered_uint64_p⟩) tb_ok Try.func61 rfl (Eq.mpr (slices_heapSortOrdered_uint64_eq data a b Q h) hv)

theorem slices_breakPatternsOrdered_uint64_eq (data : Sl) (a : Int) (b : Int) (Q : (Hp → Prop)) (h : Hp) : funW ⟨Try.prog, tb, slices_breakPatternsOrdered_uint64_p⟩ Try.f62 slices_breakPatternsOrdered_uint64_a [(shSl).enc data, (shInt .i64).enc a, (shInt .i64).enc b] (fun _ => Q) h = slices_breakPatternsOrdered_uint64_w Try.prog data a b Q h := by kernel_rfl
theorem slices_breakPatternsOrdered_uint64_call {data : Sl} {a : Int} {b : Int} {Q : (Hp → Prop)} {h : Hp} (hv : slices_breakPatternsOrdered_uint64_w Try.prog data a b Q h) : Call0 Try.prog n_slices_breakPatternsOrdered_uint64 [(shSl).enc data, (shInt .i64).enc a, (shInt .i64).enc b] (Q) h :=
  show CallT Try.prog n_slices_breakPatternsOrdered_uint64 [(shSl).enc data, (shInt .i64).enc a, (shInt .i64).enc b] (shRes tb []) (fun _ => Q) h from fun_sound (C := ⟨Try.prog, tb, slices_breakPatternsOrdered_uint64_p⟩) tb_ok Try.func62 rfl (Eq.mpr (slices_breakPatternsOrdered_uint64_eq data a b Q h) hv)

theorem slices_choosePivotOrdered_uint64_eq (data : Sl) (a : Int) (b : Int) (Q : (Int → (Int → (Hp → Prop)))) (h : Hp) : funW ⟨Try.prog, tb, slices_choosePivotOrdered_uint64_p⟩ Try.f63 slices_choosePivotOrdered_uint64_a [(shSl).enc data, (shInt .i64).enc a, (shInt .i64).enc b] (fun r => Q r.1 r.2) h = slices_choosePivotOrdered_uint64_w Try.prog data a b Q h := by kernel_rfl
theorem slices_choosePivotOrdered_uint64_call {data : Sl} {a : Int} {b : Int} {Q : (Int → (Int → (Hp → Prop)))} {h : Hp} (hv : slices_choosePivotOrdered_uint64_w Try.prog data a b Q h) : Call2 Try.prog n_slices_choosePivotOrdered_uint64 [(shSl).enc data, (shInt .i64).enc a, (shInt .i64).enc b] (shInt .i64) (shInt .i64) Q h :=
  show CallT Try.prog n_slices_choosePivotOrdered_uint64 [(shSl).enc data, (shInt .i64).enc a, (shInt .i64).enc b] (shRes tb [3, 80]) (fun r => Q r.1 r.2) h from fun_sound (C := ⟨Try.prog, tb, slices_choosePivotOrdered_uint64_p⟩) tb_ok Try.func63 rfl (Eq.mpr (slices_choosePivotOrdered_uint64_eq data a b Q h) hv)

theorem slices_reverseRangeOrdered_uint64_eq (data : Sl) (a : Int) (b : Int) (Q : (Hp → Prop)) (h : Hp) : funW ⟨Try.prog, tb, slices_reverseRangeOrdered_uint64_p⟩ Try.f64 slices_reverseRangeOrdered_uint64_a [(shSl).enc data, (shInt .i64).enc a, (shInt .i64).enc b] (fun _ => Q) h = slices_reverseRangeOrdered_uint64_w Try.prog data a b Q h := by kernel_rfl
theorem slices_reverseRangeOrdered_uint64_call {data : Sl} {a : Int} {b : Int} {Q : (Hp → Prop)} {h : Hp} (hv : slices_reverseRangeOrdered_uint64_w Try.prog data a b Q h) : Call0 Try.prog n_slices_reverseRangeOrdered_uint64 [(shSl).enc data, (shInt .i64).enc a, (shInt .i64).enc b] (Q) h :=
  show CallT Try.prog n_slices_reverseRangeOrdered_uint64 [(shSl).enc data, (shInt .i64).enc a, (shInt .i64).enc b] (shRes tb []) (fun _ => Q) h from fun_sound (C := ⟨Try.prog, tb, slices_reverseRangeOrdered_uint64_p⟩) tb_ok Try.func64 rfl (Eq.mpr (slices_reverseRangeOrdered_uint64_eq data a b Q h) hv)

theorem slices_partialInsertionSortOrdered_uint64_eq (data : Sl) (a : Int) (b : Int) (Q : (Bool → (Hp → Prop))) (h : Hp) : funW ⟨Try.prog, tb, slices_partialInsertionSortOrdered_uint64_p⟩ Try.f65 slices_partialInsertionSortOrdered_uint64_a [(shSl).enc data, (shInt .i64).enc a, (shInt .i64).enc b] (Q) h = slices_partialInsertionSortOrdered_uint64_w Try.prog data a b Q h := by kernel_rfl
theorem slices_partialInsertionSortOrdered_uint64_call {data : Sl} {a : Int} {b : Int} {Q : (Bool → (Hp → Prop))} {h : Hp} (hv : slices_partialInsertionSortOrdered_uint64_w Try.prog data a b Q h) : CallT Try.prog n_slices_partialInsertionSortOrdered_uint64 [(shSl).enc data, (shInt .i64).enc a, (shInt .i64).enc b] (shBool) Q h :=
  show CallT Try.prog n_slices_partialInsertionSortOrdered_uint64 [(shSl).enc data, (shInt .i64).enc a, (shInt .i64).enc b] (shRes tb [4]) (Q) h from fun_sound (C := ⟨Try.prog, tb, slices_partialInsertionSortOrdered_uint64_p⟩) tb_ok Try.func65 rfl (Eq.mpr (slices_partialInsertionSortOrdered_uint64_eq data a b Q h) hv)

theorem cmp_Less_uint64_eq (x : Int) (y : Int) (Q : (Bool → (Hp → Prop))) (h : Hp) : funW ⟨Try.prog, tb, cmp_Less_uint64_p⟩ Try.f66 cmp_Less_uint64_a [(shInt .u64).enc x, (shInt .u64).enc y] (Q) h = cmp_Less_uint64_w Try.prog x y Q h := by kernel_rfl
theorem cmp_Less_uint64_call {x : Int} {y : Int} {Q : (Bool → (Hp → Prop))} {h : Hp} (hv : cmp_Less_uint64_w Try.prog x y Q h) : CallT Try.prog n_cmp_Less_uint64 [(shInt .u64).enc x, (shInt .u64).enc y] (shBool) Q h :=
  show CallT Try.prog n_cmp_Less_uint64 [(shInt .u64).enc x, (shInt .u64).enc y] (shRes tb [4]) (Q) h from fun_sound (C := ⟨Try.prog, tb, cmp_Less_uint64_p⟩) tb_ok Try.func66 rfl (Eq.mpr (cmp_Less_uint64_eq x y Q h) hv)

theorem slices_partitionEqualOrdered_uint64_eq (data : Sl) (a : Int) (b : Int) (pivot : Int) (Q : (Int → (Hp → Prop))) (h : Hp) : funW ⟨Try.prog, tb, slices_partitionEqualOrdered_uint64_p⟩ Try.f67 slices_partitionEqualOrdered_uint64_a [(shSl).enc data, (shInt .i64).enc a, (shInt .i64).enc b, (shInt .i64).enc pivot] (Q) h = slices_partitionEqualOrdered_uint64_w Try.prog data a b pivot Q h := by kernel_rfl
theorem slices_partitionEqualOrdered_uint64_call {data : Sl} {a : Int} {b : Int} {pivot : Int} {Q : (Int → (Hp → Prop))} {h : Hp} (hv : slices_partitionEqualOrdered_uint64_w Try.prog data a b pivot Q h) : CallT Try.prog n_slices_partitionEqualOrdered_uint64 [(shSl).enc data, (shInt .i64).enc a, (shInt .i64).enc b, (shInt .i64).enc pivot] (shInt .i64) Q h :=
  show CallT Try.prog n_slices_partitionEqualOrdered_uint64 [(shSl).enc data, (shInt .i64).enc a, (shInt .i64).enc b, (shInt .i64).enc pivot] (shRes tb [3]) (Q) h from fun_sound (C := ⟨Try.prog, tb, slices_partitionEqualOrdered_uint64_p⟩) tb_ok Try.func67 rfl (Eq.mpr (slices_partitionEqualOrdered_uint64_eq data a b pivot Q h) hv)

theorem slices_partitionOrdered_uint64_eq (data : Sl) (a : Int) (b : Int) (pivot : Int) (Q : (Int → (Bool → (Hp → Prop)))) (h : Hp) : funW ⟨Try.prog, tb, slices_partitionOrdered_uint64_p⟩ Try.f68 slices_partitionOrdered_uint64_a [(shSl).enc data, (shInt .i64).enc a, (shInt .i64).enc b, (shInt .i64).enc pivot] (fun r => Q r.1 r.2) h = slices_partitionOrdered_uint64_w Try.prog data a b pivot Q h := by kernel_rfl
theorem slices_partitionOrdered_uint64_call {data : Sl} {a : Int} {b : Int} {pivot : Int} {Q : (Int → (Bool → (Hp → Prop)))} {h : Hp} (hv : slices_partitionOrdered_uint64_w Try.prog data a b pivot Q h) : Call2 Try.prog n_slices_partitionOrdered_uint64 [(shSl).enc data, (shInt .i64).enc a, (shInt .i64).enc b, (shInt .i64).enc pivot] (shInt .i64) (shBool) Q h :=
  show CallT Try.prog n_slices_partitionOrdered_uint64 [(shSl).enc data, (shInt .i64).enc a, (shInt .i64).enc b, (shInt .i64).enc pivot] (shRes tb [3, 4]) (fun r => Q r.1 r.2) h from fun_sound (C := ⟨Try.prog, tb, slices_partitionOrdered_uint64_p⟩) tb_ok Try.func68 rfl (Eq.mpr (slices_partitionOrdered_uint64_eq data a b pivot Q h) hv)

theorem math_bits_Len32_eq (x : Int) (Q : (Int → (Hp → Prop))) (h : Hp) : funW ⟨Try.prog, tb, math_bits_Len32_p⟩ Try.f69 math_bits_Len32_a [(shInt .u32).enc x] (Q) h = math_bits_Len32_w Try.prog x Q h := by kernel_rfl
theorem math_bits_Len32_call {x : Int} {Q : (Int → (Hp → Prop))} {h : Hp} (hv : math_bits_Len32_w Try.prog x Q h) : CallT Try.prog n_math_bits_Len32 [(shInt .u32).enc x] (shInt .i64) Q h :=
  show CallT Try.prog n_math_bits_Len32 [(shInt .u32).enc x] (shRes tb [3]) (Q) h from fun_sound (C := ⟨Try.prog, tb, math_bits_Len32_p⟩) tb_ok Try.func69 rfl (Eq.mpr (math_bits_Len32_eq x Q h) hv)

theorem math_bits_Len64_eq (x : Int) (Q : (Int → (Hp → Prop))) (h : Hp) : funW ⟨Try.prog, tb, math_bits_Len64_p⟩ Try.f70 math_bits_Len64_a [(shInt .u64).enc x] (Q) h = math_bits_Len64_w Try.prog x Q h := by kernel_rfl
theorem math_bits_Len64_call {x : Int} {Q : (Int → (Hp → Prop))} {h : Hp} (hv : math_bits_Len64_w Try.prog x Q h) : CallT Try.prog n_math_bits_Len64 [(shInt .u64).enc x] (shInt .i64) Q h :=
  show CallT Try.prog n_math_bits_Len64 [(shInt .u64).enc x] (shRes tb [3]) (Q) h from fun_sound (C := ⟨Try.prog, tb, math_bits_Len64_p⟩) tb_ok Try.func70 rfl (Eq.mpr (math_bits_Len64_eq x Q h) hv)

end Lf

/-
  By program: a call does what its text tells.
-/
set_option maxRecDepth 100000
namespace Lf
open Go Go.Proofs

theorem slices_insertionSortOrdered_int_eq (data : Sl) (a : Int) (b : Int) (Q : (Hp → Prop)) (h : Hp) : funW ⟨Try.prog, tb, slices_insertionSortOrdered_int_p⟩ Try.f71 slices_insertionSortOrdered_int_a [(shSl).enc data, (shInt .i64).enc a, (shInt .i64).enc b] (fun _ => Q) h = slices_insertionSortOrdered_int_w Try.prog data a b Q h := by kernel_rfl
theorem slices_insertionSortOrdered_int_call {data : Sl} {a : Int} {b : Int} {Q : (Hp → Prop)} {h : Hp} (hv : slices_insertionSortOrdered_int_w Try.prog data a b Q h) : Call0 Try.prog n_slices_insertionSortOrdered_int [(shSl).enc data, (shInt .i64).enc a, (shInt .i64).enc b] (Q) h :=
  show CallT Try.prog n_slices_insertionSortOrdered_int [(shSl).enc data, (shInt .i64).enc a, (shInt .i64).enc b] (shRes tb []) (fun _ => Q) h from fun_sound (C := ⟨Try.prog, tb, slices_insertionSortOrdered_int_p⟩) tb_ok Try.func71 rfl (Eq.mpr (slices_insertionSortOrdered_int_eq data a b Q h) hv)

theorem slices_heapSortOrdered_int_eq (data : Sl) (a : Int) (b : Int) (Q : (Hp → Prop)) (h : Hp) : funW ⟨Try.prog, tb, slices_heapSortOrdered_int_p⟩ Try.f72 slices_heapSortOrdered_int_a [(shSl).enc data, (shInt .i64).enc a, (shInt .i64).enc b] (fun _ => Q) h = slices_heapSortOrdered_int_w Try.prog data a b Q h := by kernel_rfl
theorem slices_heapSortOrdered_int_call {data : Sl} {a : Int} {b : Int} {Q : (Hp → Prop)} {h : Hp} (hv : slices_heapSortOrdered_int_w Try.prog data a b Q h) : Call0 Try.prog n_slices_heapSortOrdered_int [(shSl).enc data, (shInt .i64).enc a, (shInt .i64).enc b] (Q) h :=
  show CallT Try.prog n_slices_heapSortOrdered_int [(shSl).enc data, (shInt .i64).enc a, (shInt .i64).enc b] (shRes tb []) (fun _ => Q) h from fun_sound (C := ⟨Try.prog, tb, slices_heapSortOrdered_int_p⟩) tb_ok Try.func72 rfl (Eq.mpr (slices_heapSortOrdered_int_eq data a b Q h) hv)

theorem slices_breakPatternsOrdered_int_eq (data : Sl) (a : Int) (b : Int) (Q : (Hp → Prop)) (h : Hp) : funW ⟨Try.prog, tb, slices_breakPatternsOrdered_int_p⟩ Try.f73 slices_breakPatternsOrdered_int_a [(shSl).enc data, (shInt .i64).enc a, (shInt .i64).enc b] (fun _ => Q) h = slices_breakPatternsOrdered_int_w Try.prog data a b Q h := by kernel_rfl
theorem slices_breakPatternsOrdered_int_call {data : Sl} {a : Int} {b : Int} {Q : (Hp → Prop)} {h : Hp} (hv : slices_breakPatternsOrdered_int_w Try.prog data a b Q h) : Call0 Try.prog n_slices_breakPatternsOrdered_int [(shSl).enc data, (shInt .i64).enc a, (shInt .i64).enc b] (Q) h :=
  show CallT Try.prog n_slices_breakPatternsOrdered_int [(shSl).enc data, (shInt .i64).enc a, (shInt .i64).enc b] (shRes tb []) (fun _ => Q) h from fun_sound (C := ⟨Try.prog, tb, slices_breakPatternsOrdered_int_p⟩) tb_ok Try.func73 rfl (Eq.mpr (slices_breakPatternsOrdered_int_eq data a b Q h) hv)

theorem slices_choosePivotOrdered_int_eq (data : Sl) (a : Int) (b : Int) (Q : (Int → (Int → (Hp → Prop)))) (h : Hp) : funW ⟨Try.prog, tb, slices_choosePivotOrdered_int_p⟩ Try.f74 slices_choosePivotOrdered_int_a [(shSl).enc data, (shInt .i64).enc a, (shInt .i64).enc b] (fun r => Q r.1 r.2) h = slices_choosePivotOrdered_int_w Try.prog data a b Q h := by kernel_rfl
theorem slices_choosePivotOrdered_int_call {data : Sl} {a : Int} {b : Int} {Q : (Int → (Int → (Hp → Prop)))} {h : Hp} (hv : slices_choosePivotOrdered_int_w Try.prog data a b Q h) : Call2 Try.prog n_slices_choosePivotOrdered_int [(shSl).enc data, (shInt .i64).enc a, (shInt .i64).enc b] (shInt .i64) (shInt .i64) Q h :=
  show CallT Try.prog n_slices_choosePivotOrdered_int [(shSl).enc data, (shInt .i64).enc a, (shInt .i64).enc b] (shRes tb [3, 80]) (fun r => Q r.1 r.2) h from fun_sound (C := ⟨Try.prog, tb, slices_choosePivotOrdered_int_p⟩) tb_ok Try.func74 rfl (Eq.mpr (slices_choosePivotOrdered_int_eq data a b Q h) hv)

theorem slices_reverseRangeOrdered_int_eq (data : Sl) (a : Int) (b : Int) (Q : (Hp → Prop)) (h : Hp) : funW ⟨Try.prog, tb, slices_reverseRangeOrdered_int_p⟩ Try.f75 slices_reverseRangeOrdered_int_a [(shSl).enc data, (shInt .i64).enc a, (shInt .i64).enc b] (fun _ => Q) h = slices_reverseRangeOrdered_int_w Try.prog data a b Q h := by kernel_rfl
theorem slices_reverseRangeOrdered_int_call {data : Sl} {a : Int} {b : Int} {Q : (Hp → Prop)} {h : Hp} (hv : slices_reverseRangeOrdered_int_w Try.prog data a b Q h) : Call0 Try.prog n_slices_reverseRangeOrdered_int [(shSl).enc data, (shInt .i64).enc a, (shInt .i64).enc b] (Q) h :=
  show CallT Try.prog n_slices_reverseRangeOrdered_int [(shSl).enc data, (shInt .i64).enc a, (shInt .i64).enc b] (shRes tb []) (fun _ => Q) h from fun_sound (C := ⟨Try.prog, tb, slices_reverseRangeOrdered_int_p⟩) tb_ok Try.func75 rfl (Eq.mpr (slices_reverseRangeOrdered_int_eq data a b Q h) hv)

theorem slices_partialInsertionSortOrdered_int_eq (data : Sl) (a : Int) (b : Int) (Q : (Bool → (Hp → Prop))) (h : Hp) : funW ⟨Try.prog, tb, slices_partialInsertionSortOrdered_int_p⟩ Try.f76 slices_partialInsertionSortOrdered_int_a [(shSl).enc data, (shInt .i64).enc a, (shInt .i64).enc b] (Q) h = slices_partialInsertionSortOrdered_int_w Try.prog data a b Q h := by kernel_rfl
theorem slices_partialInsertionSortOrdered_int_call {data : Sl} {a : Int} {b : Int} {Q : (Bool → (Hp → Prop))} {h : Hp} (hv : slices_partialInsertionSortOrdered_int_w Try.prog data a b Q h) : CallT Try.prog n_slices_partialInsertionSortOrdered_int [(shSl).enc data, (shInt .i64).enc a, (shInt .i64).enc b] (shBool) Q h :=
  show CallT Try.prog n_slices_partialInsertionSortOrdered_int [(shSl).enc data, (shInt .i64).enc a, (shInt .i64).enc b] (shRes tb [4]) (Q) h from fun_sound (C := ⟨Try.prog, tb, slices_partialInsertionSortOrdered_int_p⟩) tb_ok Try.func76 rfl (Eq.mpr (slices_partialInsertionSortOrdered_int_eq data a b Q h) hv)

theorem cmp_Less_int_eq (x : Int) (y : Int) (Q : (Bool → (Hp → Prop))) (h : Hp) : funW ⟨Try.prog, tb, cmp_Less_int_p⟩ Try.f77 cmp_Less_int_a [(shInt .i64).enc x, (shInt .i64).enc y] (Q) h = cmp_Less_int_w Try.prog x y Q h := by kernel_rfl
theorem cmp_Less_int_call {x : Int} {y : Int} {Q : (Bool → (Hp → Prop))} {h : Hp} (hv : cmp_Less_int_w Try.prog x y Q h) : CallT Try.prog n_cmp_Less_int [(shInt .i64).enc x, (shInt .i64).enc y] (shBool) Q h :=
  show CallT Try.prog n_cmp_Less_int [(shInt .i64).enc x, (shInt .i64).enc y] (shRes tb [4]) (Q) h from fun_sound (C := ⟨Try.prog, tb, cmp_Less_int_p⟩) tb_ok Try.func77 rfl (Eq.mpr (cmp_Less_int_eq x y Q h) hv)

theorem slices_partitionEqualOrdered_int_eq (data : Sl) (a : Int) (b : Int) (pivot : Int) (Q : (Int → (Hp → Prop))) (h : Hp) : funW ⟨Try.prog, tb, slices_partitionEqualOrdered_int_p⟩ Try.f78 slices_partitionEqualOrdered_int_a [(shSl).enc data, (shInt .i64).enc a, (shInt .i64).enc b, (shInt .i64).enc pivot] (Q) h = slices_partitionEqualOrdered_int_w Try.prog data a b pivot Q h := by kernel_rfl
theorem slices_partitionEqualOrdered_int_call {data : Sl} {a : Int} {b : Int} {pivot : Int} {Q : (Int → (Hp → Prop))} {h : Hp} (hv : slices_partitionEqualOrdered_int_w Try.prog data a b pivot Q h) : CallT Try.prog n_slices_partitionEqualOrdered_int [(shSl).enc data, (shInt .i64).enc a, (shInt .i64).enc b, (shInt .i64).enc pivot] (shInt .i64) Q h :=
  show CallT Try.prog n_slices_partitionEqualOrdered_int [(shSl).enc data, (shInt .i64).enc a, (shInt .i64).enc b, (shInt .i64).enc pivot] (shRes tb [3]) (Q) h from fun_sound (C := ⟨Try.prog, tb, slices_partitionEqualOrdered_int_p⟩) tb_ok Try.func78 rfl (Eq.mpr (slices_partitionEqualOrdered_int_eq data a b pivot Q h) hv)

theorem slices_partitionOrdered_int_eq (data : Sl) (a : Int) (b : Int) (pivot : Int) (Q : (Int → (Bool → (Hp → Prop)))) (h : Hp) : funW ⟨Try.prog, tb, slices_partitionOrdered_int_p⟩ Try.f79 slices_partitionOrdered_int_a [(shSl).enc data, (shInt .i64).enc a, (shInt .i64).enc b, (shInt .i64).enc pivot] (fun r => Q r.1 r.2) h = slices_partitionOrdered_int_w Try.prog data a b pivot Q h := by kernel_rfl
theorem slices_partitionOrdered_int_call {data : Sl} {a : Int} {b : Int} {pivot : Int} {Q : (Int → (Bool → (Hp → Prop)))} {h : Hp} (hv : slices_partitionOrdered_int_w Try.prog data a b pivot Q h) : Call2 Try.prog n_slices_partitionOrdered_int [(shSl).enc data, (shInt .i64).enc a, (shInt .i64).enc b, (shInt .i64).enc pivot] (shInt .i64) (shBool) Q h :=
  show CallT Try.prog n_slices_partitionOrdered_int [(shSl).enc data, (shInt .i64).enc a, (shInt .i64).enc b, (shInt .i64).enc pivot] (shRes tb [3, 4]) (fun r => Q r.1 r.2) h from fun_sound (C := ⟨Try.prog, tb, slices_partitionOrdered_int_p⟩) tb_ok Try.func79 rfl (Eq.mpr (slices_partitionOrdered_int_eq data a b pivot Q h) hv)

theorem slices_siftDownOrdered_uint64_eq (data : Sl) (lo : Int) (hi : Int) (first : Int) (Q : (Hp → Prop)) (h : Hp) : funW ⟨Try.prog, tb, slices_siftDownOrdered_uint64_p⟩ Try.f80 slices_siftDownOrdered_uint64_a [(shSl).enc data, (shInt .i64).enc lo, (shInt .i64).enc hi, (shInt .i64).enc first] (fun _ => Q) h = slices_siftDownOrdered_uint64_w Try.prog data lo hi first Q h := by kernel_rfl
theorem slices_siftDownOrdered_uint64_call {data : Sl} {lo : Int} {hi : Int} {first : Int} {Q : (Hp → Prop)} {h : Hp} (hv : slices_siftDownOrdered_uint64_w Try.prog data lo hi first Q h) : Call0 Try.prog n_slices_siftDownOrdered_uint64 [(shSl).enc data, (shInt .i64).enc lo, (shInt .i64).enc hi, (shInt .i64).enc first] (Q) h :=
  show CallT Try.prog n_slices_siftDownOrdered_uint64 [(shSl).enc data, (shInt .i64).enc lo, (shInt .i64).enc hi, (shInt .i64).enc first] (shRes tb []) (fun _ => Q) h from fun_sound (C := ⟨Try.prog, tb, slices_siftDownOrdered_uint64_p⟩) tb_ok Try.func80 rfl (Eq.mpr (slices_siftDownOrdered_uint64_eq data lo hi first Q h) hv)

theorem slices_nextPowerOfTwo_eq (length : Int) (Q : (Int → (Hp → Prop))) (h : Hp) : funW ⟨Try.prog, tb, slices_nextPowerOfTwo_p⟩ Try.f81 slices_nextPowerOfTwo_a [(shInt .i64).enc length] (Q) h = slices_nextPowerOfTwo_w Try.prog length Q h := by kernel_rfl
theorem slices_nextPowerOfTwo_call {length : Int} {Q : (Int → (Hp → Prop))} {h : Hp} (hv : slices_nextPowerOfTwo_w Try.prog length Q h) : CallT Try.prog n_slices_nextPowerOfTwo [(shInt .i64).enc length] (shInt .u64) Q h :=
  show CallT Try.prog n_slices_nextPowerOfTwo [(shInt .i64).enc length] (shRes tb [75]) (Q) h from fun_sound (C := ⟨Try.prog, tb, slices_nextPowerOfTwo_p⟩) tb_ok Try.func81 rfl (Eq.mpr (slices_nextPowerOfTwo_eq length Q h) hv)

theorem slices_xorshift_Next_eq (r : Option Addr) (Q : (Int → (Hp → Prop))) (h : Hp) : funW ⟨Try.prog, tb, slices_xorshift_Next_p⟩ Try.f82 slices_xorshift_Next_a [(shPtr).enc r] (Q) h = slices_xorshift_Next_w Try.prog r Q h := by kernel_rfl
theorem slices_xorshift_Next_call {r : Option Addr} {Q : (Int → (Hp → Prop))} {h : Hp} (hv : slices_xorshift_Next_w Try.prog r Q h) : CallT Try.prog n_slices_xorshift_Next [(shPtr).enc r] (shInt .u64) Q h :=
  show CallT Try.prog n_slices_xorshift_Next [(shPtr).enc r] (shRes tb [43]) (Q) h from fun_sound (C := ⟨Try.prog, tb, slices_xorshift_Next_p⟩) tb_ok Try.func82 rfl (Eq.mpr (slices_xorshift_Next_eq r Q h) hv)

theorem slices_medianAdjacentOrdered_uint64_eq (data : Sl) (a : Int) (swaps : Option Addr) (Q : (Int → (Hp → Prop))) (h : Hp) : funW ⟨Try.prog, tb, slices_medianAdjacentOrdered_uint64_p⟩ Try.f83 slices_medianAdjacentOrdered_uint64_a [(shSl).enc data, (shInt .i64).enc a, (shPtr).enc swaps] (Q) h = slices_medianAdjacentOrdered_uint64_w Try.prog data a swaps Q h := by kernel_rfl
theorem slices_medianAdjacentOrdered_uint64_call {data : Sl} {a : Int} {swaps : Option Addr} {Q : (Int → (Hp → Prop))} {h : Hp} (hv : slices_medianAdjacentOrdered_uint64_w Try.prog data a swaps Q h) : CallT Try.prog n_slices_medianAdjacentOrdered_uint64 [(shSl).enc data, (shInt .i64).enc a, (shPtr).enc swaps] (shInt .i64) Q h :=
  show CallT Try.prog n_slices_medianAdjacentOrdered_uint64 [(shSl).enc data, (shInt .i64).enc a, (shPtr).enc swaps] (shRes tb [3]) (Q) h from fun_sound (C := ⟨Try.prog, tb, slices_medianAdjacentOrdered_uint64_p⟩) tb_ok Try.func83 rfl (Eq.mpr (slices_medianAdjacentOrdered_uint64_eq data a swaps Q h) hv)

theorem slices_medianOrdered_uint64_eq (data : Sl) (a : Int) (b : Int) (c : Int) (swaps : Option Addr) (Q : (Int → (Hp → Prop))) (h : Hp) : funW ⟨Try.prog, tb, slices_medianOrdered_uint64_p⟩ Try.f84 slices_medianOrdered_uint64_a [(shSl).enc data, (shInt .i64).enc a, (shInt .i64).enc b, (shInt .i64).enc c, (shPtr).enc swaps] (Q) h = slices_medianOrdered_uint64_w Try.prog data a b c swaps Q h := by kernel_rfl
theorem slices_medianOrdered_uint64_call {data : Sl} {a : Int} {b : Int} {c : Int} {swaps : Option Addr} {Q : (Int → (Hp → Prop))} {h : Hp} (hv : slices_medianOrdered_uint64_w Try.prog data a b c swaps Q h) : CallT Try.prog n_slices_medianOrdered_uint64 [(shSl).enc data, (shInt .i64).enc a, (shInt .i64).enc b, (shInt .i64).enc c, (shPtr).enc swaps] (shInt .i64) Q h :=
  show CallT Try.prog n_slices_medianOrdered_uint64 [(shSl).enc data, (shInt .i64).enc a, (shInt .i64).enc b, (shInt .i64).enc c, (shPtr).enc swaps] (shRes tb [3]) (Q) h from fun_sound (C := ⟨Try.prog, tb, slices_medianOrdered_uint64_p⟩) tb_ok Try.func84 rfl (Eq.mpr (slices_medianOrdered_uint64_eq data a b c swaps Q h) hv)

theorem cmp_isNaN_uint64_eq (x : Int) (Q : (Bool → (Hp → Prop))) (h : Hp) : funW ⟨Try.prog, tb, cmp_isNaN_uint64_p⟩ Try.f85 cmp_isNaN_uint64_a [(shInt .u64).enc x] (Q) h = cmp_isNaN_uint64_w Try.prog x Q h := by kernel_rfl
theorem cmp_isNaN_uint64_call {x : Int} {Q : (Bool → (Hp → Prop))} {h : Hp} (hv : cmp_isNaN_uint64_w Try.prog x Q h) : CallT Try.prog n_cmp_isNaN_uint64 [(shInt .u64).enc x] (shBool) Q h :=
  show CallT Try.prog n_cmp_isNaN_uint64 [(shInt .u64).enc x] (shRes tb [4]) (Q) h from fun_sound (C := ⟨Try.prog, tb, cmp_isNaN_uint64_p⟩) tb_ok Try.func85 rfl (Eq.mpr (cmp_isNaN_uint64_eq x Q h) hv)

theorem slices_siftDownOrdered_int_eq (data : Sl) (lo : Int) (hi : Int) (first : Int) (Q : (Hp → Prop)) (h : Hp) : funW ⟨Try.prog, tb, slices_siftDownOrdered_int_p⟩ Try.f86 slices_siftDownOrdered_int_a [(shSl).enc data, (shInt .i64).enc lo, (shInt .i64).enc hi, (shInt .i64).enc first] (fun _ => Q) h = slices_siftDownOrdered_int_w Try.prog data lo hi first Q h := by kernel_rfl
theorem slices_siftDownOrdered_int_call {data : Sl} {lo : Int} {hi : Int} {first : Int} {Q : (Hp → Prop)} {h : Hp} (hv : slices_siftDownOrdered_int_w Try.prog data lo hi first Q h) : Call0 Try.prog n_slices_siftDownOrdered_int [(shSl).enc data, (shInt .i64).enc lo, (shInt .i64).enc hi, (shInt .i64).enc first] (Q) h :=
  show CallT Try.prog n_slices_siftDownOrdered_int [(shSl).enc data, (shInt .i64).enc lo, (shInt .i64).enc hi, (shInt .i64).enc first] (shRes tb []) (fun _ => Q) h from fun_sound (C := ⟨Try.prog, tb, slices_siftDownOrdered_int_p⟩) tb_ok Try.func86 rfl (Eq.mpr (slices_siftDownOrdered_int_eq data lo hi first Q h) hv)

theorem slices_medianAdjacentOrdered_int_eq (data : Sl) (a : Int) (swaps : Option Addr) (Q : (Int → (Hp → Prop))) (h : Hp) : funW ⟨Try.prog, tb, slices_medianAdjacentOrdered_int_p⟩ Try.f87 slices_medianAdjacentOrdered_int_a [(shSl).enc data, (shInt .i64).enc a, (shPtr).enc swaps] (Q) h = slices_medianAdjacentOrdered_int_w Try.prog data a swaps Q h := by kernel_rfl
theorem slices_medianAdjacentOrdered_int_call {data : Sl} {a : Int} {swaps : Option Addr} {Q : (Int → (Hp → Prop))} {h : Hp} (hv : slices_medianAdjacentOrdered_int_w Try.prog data a swaps Q h) : CallT Try.prog n_slices_medianAdjacentOrdered_int [(shSl).enc data, (shInt .i64).enc a, (shPtr).enc swaps] (shInt .i64) Q h :=
  show CallT Try.prog n_slices_medianAdjacentOrdered_int [(shSl).enc data, (shInt .i64).enc a, (shPtr).enc swaps] (shRes tb [3]) (Q) h from fun_sound (C := ⟨Try.prog, tb, slices_medianAdjacentOrdered_int_p⟩) tb_ok Try.func87 rfl (Eq.mpr (slices_medianAdjacentOrdered_int_eq data a swaps Q h) hv)

theorem slices_medianOrdered_int_eq (data : Sl) (a : Int) (b : Int) (c : Int) (swaps : Option Addr) (Q : (Int → (Hp → Prop))) (h : Hp) : funW ⟨Try.prog, tb, slices_medianOrdered_int_p⟩ Try.f88 slices_medianOrdered_int_a [(shSl).enc data, (shInt .i64).enc a, (shInt .i64).enc b, (shInt .i64).enc c, (shPtr).enc swaps] (Q) h = slices_medianOrdered_int_w Try.prog data a b c swaps Q h := by kernel_rfl
theorem slices_medianOrdered_int_call {data : Sl} {a : Int} {b : Int} {c : Int} {swaps : Option Addr} {Q : (Int → (Hp → Prop))} {h : Hp} (hv : slices_medianOrdered_int_w Try.prog data a b c swaps Q h) : CallT Try.prog n_slices_medianOrdered_int [(shSl).enc data, (shInt .i64).enc a, (shInt .i64).enc b, (shInt .i64).enc c, (shPtr).enc swaps] (shInt .i64) Q h :=
  show CallT Try.prog n_slices_medianOrdered_int [(shSl).enc data, (shInt .i64).enc a, (shInt .i64).enc b, (shInt .i64).enc c, (shPtr).enc swaps] (shRes tb [3]) (Q) h from fun_sound (C := ⟨Try.prog, tb, slices_medianOrdered_int_p⟩) tb_ok Try.func88 rfl (Eq.mpr (slices_medianOrdered_int_eq data a b c swaps Q h) hv)

theorem cmp_isNaN_int_eq (x : Int) (Q : (Bool → (Hp → Prop))) (h : Hp) : funW ⟨Try.prog, tb, cmp_isNaN_int_p⟩ Try.f89 cmp_isNaN_int_a [(shInt .i64).enc x] (Q) h = cmp_isNaN_int_w Try.prog x Q h := by kernel_rfl
theorem cmp_isNaN_int_call {x : Int} {Q : (Bool → (Hp → Prop))} {h : Hp} (hv : cmp_isNaN_int_w Try.prog x Q h) : CallT Try.prog n_cmp_isNaN_int [(shInt .i64).enc x] (shBool) Q h :=
  show CallT Try.prog n_cmp_isNaN_int [(shInt .i64).enc x] (shRes tb [4]) (Q) h from fun_sound (C := ⟨Try.prog, tb, cmp_isNaN_int_p⟩) tb_ok Try.func89 rfl (Eq.mpr (cmp_isNaN_int_eq x Q h) hv)

theorem slices_order2Ordered_uint64_eq (data : Sl) (a : Int) (b : Int) (swaps : Option Addr) (Q : (Int → (Int → (Hp → Prop)))) (h : Hp) : funW ⟨Try.prog, tb, slices_order2Ordered_uint64_p⟩ Try.f90 slices_order2Ordered_uint64_a [(shSl).enc data, (shInt .i64).enc a, (shInt .i64).enc b, (shPtr).enc swaps] (fun r => Q r.1 r.2) h = slices_order2Ordered_uint64_w Try.prog data a b swaps Q h := by kernel_rfl
theorem slices_order2Ordered_uint64_call {data : Sl} {a : Int} {b : Int} {swaps : Option Addr} {Q : (Int → (Int → (Hp → Prop)))} {h : Hp} (hv : slices_order2Ordered_uint64_w Try.prog data a b swaps Q h) : Call2 Try.prog n_slices_order2Ordered_uint64 [(shSl).enc data, (shInt .i64).enc a, (shInt .i64).enc b, (shPtr).enc swaps] (shInt .i64) (shInt .i64) Q h :=
  show CallT Try.prog n_slices_order2Ordered_uint64 [(shSl).enc data, (shInt .i64).enc a, (shInt .i64).enc b, (shPtr).enc swaps] (shRes tb [3, 3]) (fun r => Q r.1 r.2) h from fun_sound (C := ⟨Try.prog, tb, slices_order2Ordered_uint64_p⟩) tb_ok Try.func90 rfl (Eq.mpr (slices_order2Ordered_uint64_eq data a b swaps Q h) hv)

theorem slices_order2Ordered_int_eq (data : Sl) (a : Int) (b : Int) (swaps : Option Addr) (Q : (Int → (Int → (Hp → Prop)))) (h : Hp) : funW ⟨Try.prog, tb, slices_order2Ordered_int_p⟩ Try.f91 slices_order2Ordered_int_a [(shSl).enc data, (shInt .i64).enc a, (shInt .i64).enc b, (shPtr).enc swaps] (fun r => Q r.1 r.2) h = slices_order2Ordered_int_w Try.prog data a b swaps Q h := by kernel_rfl
theorem slices_order2Ordered_int_call {data : Sl} {a : Int} {b : Int} {swaps : Option Addr} {Q : (Int → (Int → (Hp → Prop)))} {h : Hp} (hv : slices_order2Ordered_int_w Try.prog data a b swaps Q h) : Call2 Try.prog n_slices_order2Ordered_int [(shSl).enc data, (shInt .i64).enc a, (shInt .i64).enc b, (shPtr).enc swaps] (shInt .i64) (shInt .i64) Q h :=
  show CallT Try.prog n_slices_order2Ordered_int [(shSl).enc data, (shInt .i64).enc a, (shInt .i64).enc b, (shPtr).enc swaps] (shRes tb [3, 3]) (fun r => Q r.1 r.2) h from fun_sound (C := ⟨Try.prog, tb, slices_order2Ordered_int_p⟩) tb_ok Try.func91 rfl (Eq.mpr (slices_order2Ordered_int_eq data a b swaps Q h) hv)

end Lf

/-
  All calls.
-/

/-
  What flows to what.
-/
namespace Lf
open Go Go.Proofs

def flows (a b : Int) : Bool := (List.range 64).all fun n => !bit a n || bit b n

theorem flows_iff {a b : Int} : flows a b = true ↔ ∀ n, n < 64 → bit a n = true → bit b n = true := by
  unfold flows
  rw [List.all_eq_true]
  constructor
  · intro h n hn ha
    have := h n (List.mem_range.2 hn)
    rw [ha] at this
    simpa using this
  · intro h n hn
    have := h n (List.mem_range.1 hn)
    cases ha : bit a n with
    | false => rfl
    | true => simp [this ha]

theorem has_ok {a n : Int} {Q : Bool → Hp → Prop} {h : Hp} (ha : InU a) (h0 : 0 ≤ n) (h1 : n ≤ 63) (hq : Q (bit a n.toNat) h) : firebreakref01_Has_w Try.prog a n Q h := by
  unfold firebreakref01_Has_w
  refine letW ⟨fun _ => h0, letW ?_⟩
  have e : (decide (n ≥ 0) && decide (n ≤ 63)) = true := by simp; omega
  rw [e, bit_and ha h0 h1, Bool.true_and]
  exact hq

theorem refFlows1_ok {a b : Int} {Q : Bool → Hp → Prop} {h : Hp} (ha : InU a) (hb : InU b) (hq : Q (flows a b) h) : firebreakref01_Flows_w Try.prog a b Q h := by
  unfold firebreakref01_Flows_w
  refine LoopW1.intro (fun n k => k = h ∧ 0 ≤ n ∧ n ≤ 64 ∧ ∀ m : Nat, (m : Int) < n → bit a m = true → bit b m = true) (fun n _ => (64 - n).toNat) ⟨rfl, by omega, by omega, fun m hm => by omega⟩ ?_
  rintro n k ⟨rfl, h0, h1, hall⟩
  split
  · rename_i e
    have e : n < 64 := by simpa using e
    refine firebreakref01_Has_call (has_ok ha h0 (by omega) ?_)
    have goOn : (bit a n.toNat = true → bit b n.toNat = true) → (k = k ∧ 0 ≤ IntKind.wrap .i64 (n + 1) ∧ IntKind.wrap .i64 (n + 1) ≤ 64 ∧ ∀ m : Nat, (m : Int) < IntKind.wrap .i64 (n + 1) → bit a m = true → bit b m = true) ∧ (64 - IntKind.wrap .i64 (n + 1)).toNat < (64 - n).toNat := by
      intro hn
      rw [wrap64 (by omega) (by omega)]
      refine ⟨⟨rfl, by omega, by omega, fun m hm => ?_⟩, by omega⟩
      by_cases hmn : (m : Int) < n
      · exact hall m hmn
      · have : m = n.toNat := by omega
        rw [this]; exact hn
    cases hA : bit a n.toNat with
    | false =>
      refine ⟨fun e => (by cases e), fun _ => ⟨false, ?_⟩⟩
      refine letW ?_
      rw [if_neg (by simp)]
      exact goOn fun e => by rw [hA] at e; cases e
    | true =>
      refine ⟨fun _ => firebreakref01_Has_call (has_ok hb h0 (by omega) ?_), fun e => (by cases e)⟩
      refine letW ?_
      cases hB : bit b n.toNat with
      | false =>
        rw [if_pos (by simp)]
        have : flows a b = false := by
          refine Bool.eq_false_iff.2 fun hf => ?_
          have := flows_iff.1 hf n.toNat (by omega) hA
          rw [hB] at this; cases this
        rw [← this]; exact hq
      | true =>
        rw [if_neg (by simp)]
        exact goOn fun _ => hB
  · rename_i e
    have e : ¬ n < 64 := by simpa using e
    have : flows a b = true := flows_iff.2 fun m hm => hall m (by omega)
    rw [← this]; exact hq

theorem labelFlows_ok {a b : Int} {Q : Bool → Hp → Prop} {h : Hp} (ha : InU a) (hb : InU b) (hq : Q (flows a b) h) : label_Flows_w Try.prog a b Q h := by
  unfold label_Flows_w
  have : (bitsI .andNot .u64 a b == 0) = flows a b := by
    rw [Bool.eq_iff_iff, bit_sub ha hb, flows_iff]
  rw [this]
  exact hq

end Lf

/-
  The reference's lists.
-/
namespace Lf
open Go Go.Proofs

theorem sameInts_ok {a b : Sl} {xs : List Int} {Q : Bool → Hp → Prop} {h : Hp} (ra : Is h a xs) (rb : Is h b xs) (hl : xs.length ≤ 1000000) (hq : Q true h) : firebreakref02_SameInts_w Try.prog a b Q h := by
  unfold firebreakref02_SameInts_w
  have h1 := ra.1
  have h2 := rb.1
  rw [if_neg (show ¬ (((a.len : Int) != (b.len : Int)) = true) by simp; omega)]
  refine LoopW1.intro (fun i k => k = h ∧ 0 ≤ i ∧ i ≤ (xs.length : Int)) (fun i _ => (xs.length - i).toNat) ⟨rfl, by omega, by omega⟩ ?_
  rintro i k ⟨rfl, hi0, hi1⟩
  split
  · rename_i e
    have e : i < (a.len : Int) := by simpa using e
    refine Rs.get ra (fun _ => rfl) (by omega) hi0 (by omega) fun (x : Int) hx => ?_
    refine Rs.get rb (fun _ => rfl) (by omega) hi0 (by omega) fun (y : Int) hy => ?_
    rw [hx] at hy; cases hy
    rw [if_neg (show ¬ ((x != x) = true) by simp), wrap64 (by omega) (by omega)]
    exact ⟨⟨rfl, by omega, by omega⟩, by omega⟩
  · exact hq

/-- The numbers of those that something is so of. -/
def those (p : Nat → Bool) (n : Nat) : List Int := ((List.range n).filter p).map fun (k : Nat) => (k : Int)

theorem those_succ (p : Nat → Bool) (n : Nat) : those p (n + 1) = those p n ++ (if p n = true then [(n : Int)] else []) := by
  unfold those
  rw [List.range_succ, List.filter_append, List.map_append]
  congr 1
  by_cases h : p n = true
  · simp [h]
  · simp [h]

theorem those_len (p : Nat → Bool) (n : Nat) : (those p n).length ≤ n := by
  unfold those
  rw [List.length_map]
  exact Nat.le_trans (List.length_filter_le _ _) (by simp)

/-- Does one of the list flow to another of it? -/
def fl (xs : List Int) (i j : Int) : Bool := if 0 ≤ i ∧ i < (xs.length : Int) ∧ 0 ≤ j ∧ j < (xs.length : Int) then flows (xs.getD i.toNat 0) (xs.getD j.toNat 0) else false

theorem fl_in {xs : List Int} {i j : Int} {x y : Int} (h : 0 ≤ i ∧ 0 ≤ j) (hx : xs[i.toNat]? = some x) (hy : xs[j.toNat]? = some y) : fl xs i j = flows x y := by
  have h1 := (List.getElem?_eq_some_iff.1 hx).1
  have h2 := (List.getElem?_eq_some_iff.1 hy).1
  unfold fl
  rw [if_pos (by omega), List.getD_eq_getElem?_getD, List.getD_eq_getElem?_getD, hx, hy]
  rfl

theorem fl_out {xs : List Int} {i j : Int} (h : ¬ (0 ≤ i ∧ i < (xs.length : Int) ∧ 0 ≤ j ∧ j < (xs.length : Int))) : fl xs i j = false := by
  unfold fl
  rw [if_neg h]

theorem refFlows2_ok {l : Sl} {xs : List Int} {i j : Int} {Q : Bool → Hp → Prop} {h : Hp} (r : Us h l xs) (hu : ∀ x ∈ xs, InU x) (hq : Q (fl xs i j) h) : firebreakref02_Flows_w Try.prog l i j Q h := by
  unfold firebreakref02_Flows_w
  have hl := r.1
  refine letW (letW (letW ?_))
  have hcase : ∀ c, (decide (i ≥ 0) && decide (i < (l.len : Int)) && decide (j ≥ 0) && decide (j < (l.len : Int))) = c → (c = true → 0 ≤ i ∧ i < (xs.length : Int) ∧ 0 ≤ j ∧ j < (xs.length : Int)) ∧
      (c = false → ¬ (0 ≤ i ∧ i < (xs.length : Int) ∧ 0 ≤ j ∧ j < (xs.length : Int))) := by
    intro c e
    subst e
    simp [hl]
    omega
  generalize hc : (decide (i ≥ 0) && decide (i < (l.len : Int)) && decide (j ≥ 0) && decide (j < (l.len : Int))) = c
  have h1 := (hcase c hc).1
  have h2 := (hcase c hc).2
  refine Rs.getC r (0 : Int) (fun _ => rfl) (by omega) (fun e => ?_) fun (x : Int) hx => ?_
  · have := h1 e; omega
  refine Rs.getC r (0 : Int) (fun _ => rfl) (by omega) (fun e => ?_) fun (y : Int) hy => ?_
  · have := h1 e; omega
  refine ⟨fun e => ?_, fun e => ⟨false, ?_⟩⟩
  · have ex := hx e
    have ey := hy e
    have := h1 e
    refine firebreakref01_Flows_call (refFlows1_ok (hu x (List.mem_of_getElem? ex)) (hu y (List.mem_of_getElem? ey)) (letW ?_))
    rw [e, Bool.true_and, ← fl_in ⟨by omega, by omega⟩ ex ey]
    exact hq
  · refine letW ?_
    rw [e, Bool.false_and, ← fl_out (h2 e)]
    exact hq

end Lf

/-
  The reference's lists, both ways.
-/
namespace Lf
open Go Go.Proofs

theorem push_ok {h0 h : Hp} {out : Sl} {ys : List Int} {n : Int} {K : Sl → Hp → Prop} (hle : h0 ≤ h) (ho : OwnI h0 h out ys) (hl : ys.length ≤ 1000000)
    (hk : ∀ out' h', h0 ≤ h' → OwnI h0 h' out' (ys ++ [n]) → (∀ b ob, h b = some ob → (∀ a, out.base = some a → a.block ≠ b) → h' b = some ob) → K out' h') :
    NewW [.int .i64 n] (fun a h4 => AppendW 1 8 [.int .i64 0] out ⟨some a, 1, 1⟩ (fun r h5 => K r h5) h4) h := by
  refine new_row (xs := [n]) (enc := fun x => cellsL ((shInt .i64).enc x)) (sz := 1) (h0 := h0) hle rfl (fun _ => rfl) fun a1 h4 hle4 ho4 => ?_
  refine app_own (Hp.le_trans hle hle4) (ho.mono hle4) (ho4.rw fun _ => rfl) (fun _ => rfl) (fun _ => rfl) rfl ?_ fun l' h' hle' hown hoth => ?_
  · simp; omega
  · exact hk l' h' hle' hown fun b ob e hne => hoth b ob (hle4 b ob e) hne

theorem refUp_ok {l : Sl} {xs : List Int} {i : Int} {Q : Sl → Hp → Prop} {h : Hp} (r : Us h l xs) (hu : ∀ x ∈ xs, InU x) (hl : xs.length ≤ 100000)
    (hq : ∀ out h', h ≤ h' → OwnI h h' out (those (fun j => fl xs i j) xs.length) → Q out h') : firebreakref02_Up_w Try.prog l i Q h := by
  unfold firebreakref02_Up_w
  have hlen := r.1
  refine new_row (xs := ([] : List Int)) (enc := fun x => cellsL ((shInt .i64).enc x)) (sz := 1) (Hp.le_refl h) rfl (fun _ => rfl) fun a h1 hle1 ho1 => ?_
  refine LoopW2.intro (fun out j k => h ≤ k ∧ 0 ≤ j ∧ j ≤ (xs.length : Int) ∧ OwnI h k out (those (fun j => fl xs i j) j.toNat)) (fun _ j _ => (xs.length - j).toNat) ⟨hle1, by omega, by omega, ho1⟩ ?_
  rintro out j k ⟨hle, hj0, hj1, ho⟩
  split
  · rename_i e
    have e : j < (l.len : Int) := by simpa using e
    have hjn : (j.toNat : Int) = j := by omega
    have hw : IntKind.wrap .i64 (j + 1) = j + 1 := wrap64 (by omega) (by omega)
    have hs : (j + 1).toNat = j.toNat + 1 := by omega
    have hlt := those_len (fun j => fl xs i j) j.toNat
    refine JoinW1.intro (fun out k => h ≤ k ∧ OwnI h k out (those (fun j => fl xs i j) (j.toNat + 1))) ?_ ?_
    · refine firebreakref02_Flows_call (refFlows2_ok (r.mono hle) hu ?_)
      have hth := those_succ (fun j => fl xs i j) j.toNat
      rw [hjn] at hth
      cases hf : fl xs i j with
      | true =>
        rw [if_pos rfl]
        rw [hf, if_pos rfl] at hth
        refine push_ok hle ho (by omega) fun out' h' hle' ho' _ => ?_
        rw [hth]
        exact ⟨hle', ho'⟩
      | false =>
        rw [if_neg (by simp)]
        rw [hf, if_neg (by simp), List.append_nil] at hth
        rw [hth]
        exact ⟨hle, ho⟩
    · rintro out' k' ⟨hle', ho'⟩
      rw [hw]
      exact ⟨⟨hle', by omega, by omega, by rw [hs]; exact ho'⟩, by omega⟩
  · rename_i e
    have e : ¬ j < (l.len : Int) := by simpa using e
    refine hq _ _ hle ?_
    have : j.toNat = xs.length := by omega
    rw [← this]
    exact ho

theorem refDown_ok {l : Sl} {xs : List Int} {a : Int} {Q : Sl → Hp → Prop} {h : Hp} (r : Us h l xs) (hu : ∀ x ∈ xs, InU x) (ha : InU a) (hl : xs.length ≤ 100000)
    (hq : ∀ out h', h ≤ h' → OwnI h h' out (those (fun j => flows (xs.getD j 0) a) xs.length) → Q out h') : firebreakref02_Down_w Try.prog l a Q h := by
  unfold firebreakref02_Down_w
  have hlen := r.1
  refine new_row (xs := ([] : List Int)) (enc := fun x => cellsL ((shInt .i64).enc x)) (sz := 1) (Hp.le_refl h) rfl (fun _ => rfl) fun a1 h1 hle1 ho1 => ?_
  refine LoopW2.intro (fun out j k => h ≤ k ∧ 0 ≤ j ∧ j ≤ (xs.length : Int) ∧ OwnI h k out (those (fun j => flows (xs.getD j 0) a) j.toNat)) (fun _ j _ => (xs.length - j).toNat) ⟨hle1, by omega, by omega, ho1⟩ ?_
  rintro out j k ⟨hle, hj0, hj1, ho⟩
  split
  · rename_i e
    have e : j < (l.len : Int) := by simpa using e
    have hjn : (j.toNat : Int) = j := by omega
    have hw : IntKind.wrap .i64 (j + 1) = j + 1 := wrap64 (by omega) (by omega)
    have hs : (j + 1).toNat = j.toNat + 1 := by omega
    have hlt := those_len (fun j => flows (xs.getD j 0) a) j.toNat
    have rk : Us k l xs := r.mono hle
    refine JoinW1.intro (fun out k => h ≤ k ∧ OwnI h k out (those (fun j => flows (xs.getD j 0) a) (j.toNat + 1))) ?_ ?_
    · refine Rs.get rk (fun _ => rfl) (by omega) hj0 (by omega) fun (x : Int) hx => ?_
      refine firebreakref01_Flows_call (refFlows1_ok (hu x (List.mem_of_getElem? hx)) ha ?_)
      have hth := those_succ (fun j => flows (xs.getD j 0) a) j.toNat
      have hg : xs.getD j.toNat 0 = x := by rw [List.getD_eq_getElem?_getD, hx]; rfl
      rw [hjn] at hth
      simp only [hg] at hth
      cases hf : flows x a with
      | true =>
        rw [if_pos rfl]
        rw [hf, if_pos rfl] at hth
        refine push_ok hle ho (by omega) fun out' h' hle' ho' _ => ?_
        rw [hth]
        exact ⟨hle', ho'⟩
      | false =>
        rw [if_neg (by simp)]
        rw [hf, if_neg (by simp), List.append_nil] at hth
        rw [hth]
        exact ⟨hle, ho⟩
    · rintro out' k' ⟨hle', ho'⟩
      rw [hw]
      exact ⟨⟨hle', by omega, by omega, by rw [hs]; exact ho'⟩, by omega⟩
  · rename_i e
    have e : ¬ j < (l.len : Int) := by simpa using e
    refine hq _ _ hle ?_
    have : j.toNat = xs.length := by omega
    rw [← this]
    exact ho

end Lf

/-
  What a change to a block that holds no cells leaves.
-/
namespace Lf
open Go

/-- All cells are as they were. -/
def CKeep (h h' : Hp) : Prop := ∀ a v, hcell h a = some v → hcell h' a = some v

theorem CKeep.of_le {h h' : Hp} (hl : h ≤ h') : CKeep h h' := fun _ _ e => hcell_mono hl e

theorem ldIs_ck {h h' : Hp} (hl : CKeep h h') {a : Addr} {cs : List Value} (e : LdIs h a cs) : LdIs h' a cs := fun i v hv => hl _ _ (e i v hv)

theorem Rw.ck {α : Type} {h h' : Hp} {sz : Nat} {enc : α → List Value} {l : Sl} {xs : List α} (hl : CKeep h h') (r : Rw h sz enc l xs) : Rw h' sz enc l xs := by
  obtain ⟨h1, h2, h3⟩ := r
  refine ⟨h1, h2, h3.imp id ?_⟩
  rintro ⟨a, ha, hc⟩
  exact ⟨a, ha, ldIs_ck hl hc⟩

theorem ck_set {h : Hp} {m : Nat} {o o' : Obj} (e : h m = some o) (hc : isCells o = false) : CKeep h (h.set m o') := by
  intro a v hv
  obtain ⟨c, t, fr, hb, hsp, hg⟩ := hcell_block hv
  have hne : a.block ≠ m := fun e' => by rw [e', e] at hb; cases hb; cases hc
  unfold hcell at hv ⊢
  have : (h.set m o') a.block = h a.block := by simp [Hp.set, hne]
  rw [this]
  exact hv

theorem set_new {h : Hp} {b : Nat} {o : Obj} (hn : h b = none) : h ≤ h.set b o := fun b' o' e => by
  have hne : b' ≠ b := fun e' => by rw [e', hn] at e; cases e
  simp [Hp.set, hne, e]

theorem set_self {h : Hp} {b : Nat} {o : Obj} : (h.set b o) b = some o := by simp [Hp.set]

theorem set_over {h h0 : Hp} {b : Nat} {o : Obj} (hl : h0 ≤ h) (hn : h0 b = none) : h0 ≤ h.set b o := fun b' o' e => by
  have hne : b' ≠ b := fun e' => by rw [e', hn] at e; cases e
  simp only [Hp.set, hne, if_false]
  exact hl _ _ e

theorem none_of_le {h0 h : Hp} {b : Nat} (hl : h0 ≤ h) (hn : h b = none) : h0 b = none := by
  cases e : h0 b with
  | none => rfl
  | some o => rw [hl _ _ e] at hn; cases hn

theorem ldIs_new {h : Hp} {b t : Nat} {cs : List Value} : LdIs (h.set b (.cells cs.toArray t (0, 0))) ⟨b, 0, none⟩ cs := fun i v hv => by
  rw [box_add, hcell_block0 set_self, Nat.zero_add]
  exact hv

theorem effT {α : Type} {A : (α → Hp → Prop) → Hp → Prop} {K : α → Hp → Prop} {h : Hp} (hk : A K h) : EffC (some true) A K h := ⟨fun _ => hk, fun e => by cases e⟩

theorem effB {α : Type} {b : Bool} {A : (α → Hp → Prop) → Hp → Prop} {K : α → Hp → Prop} {h : Hp} (hb : b = true) (hk : A K h) : EffC (some b) A K h := ⟨fun _ => hk, fun e => by rw [hb] at e; cases e⟩

theorem notNil {p : Addr} {c : Option Bool} {K : Addr → Prop} (hk : K p) : NilW c (some p) K := by
  refine ⟨p, ?_, hk⟩
  cases c with
  | none => rfl
  | some b => exact fun _ => rfl

theorem semW_und {P : Program} {t : Nat} {d : TypeDesc} (hu : P.underlying t = some d) {K : TypeDesc → Hp → Prop} {h : Hp} (hk : K d h) : semW P (underlying t) K h := by
  show semW P (match P.underlying t with
    | some d => Sem.pure d
    | none => _) K h
  rw [hu]
  exact hk

theorem semW_zero {P : Program} {tb : Tb} (ok : tb.Ok P) {t : Nat} {e : Ty} (he : tb.ty t = some e) {K : Value → Hp → Prop} {h : Hp} (hk : K e.zero h) : semW P (zeroValue t) K h := by
  obtain ⟨i, e1, _, _, e4⟩ := ok.info t e he
  have key : semW P (match P.info? t with
    | some d => (match d.zero with
      | some v => Sem.pure v
      | none => unsupported (.resourceLimit "a value of more than 2^22 cells"))
    | none => stuck "no such type") K h := by
    rw [e1]
    dsimp only
    rw [e4]
    exact hk
  cases hi : P.info? t with
  | none => rw [e1] at hi; cases hi
  | some d =>
    rw [hi] at key
    show semW P (Sem.bind (match P.info? t with
      | some d => Sem.pure d
      | none => _) _) K h
    rw [hi]
    exact key

theorem semIs_of_semW {P : Program} {s : Sem Value} {h : Hp} {v : Value} (hi : semW P s (fun u h' => u = v ∧ h' = h) h) : SemIs P s h v := by
  intro w hs
  obtain ⟨a, w', h', hr, ⟨ha, hh⟩, hst⟩ := semW_sound s hs hi
  subst ha; subst hh
  exact ⟨w', hr, hst⟩

theorem semIs_of_run {P : Program} {s : Sem Value} {h : Hp} {v : Value} (hi : ∀ w, s.run P w = .ok v w) : SemIs P s h v := fun w hs => ⟨w, hi w, .refl hs⟩

theorem semIs_nilSl {P : Program} {t e : Nat} {x y : Operand} {h : Hp} (hu : P.underlying t = some (.slice e)) (s : Sl) : SemIs P (binS .eql t x y s.v (.slice none 0 0)) h (.bool s.base.isNone) := by
  have key : ∀ d, semW P (Op.equalIn (d + 1) t s.v (.slice none 0 0)) (fun u h' => u = s.base.isNone ∧ h' = h) h := by
    intro d
    unfold Op.equalIn
    refine (semW_bind _ _).2 (semW_und hu ?_)
    cases hb : s.base with
    | none => simp only [Sl.v, hb]; exact ⟨rfl, rfl⟩
    | some a => simp only [Sl.v, hb]; exact ⟨rfl, rfl⟩
  refine semIs_of_semW ?_
  show semW P (Sem.bind (Op.equal t s.v (.slice none 0 0)) fun b => Sem.pure (Value.bool b)) _ h
  refine (semW_bind _ _).2 (semW_mono _ (fun a k hk => ?_) (key 9999))
  obtain ⟨rfl, rfl⟩ := hk
  exact ⟨rfl, rfl⟩

end Lf

/-
  A table in memory.
-/
namespace Lf
open Go Go.Proofs

/-- The entries of a table's map. -/
def ents : List Int → Nat → List MapEntry
  | [], _ => []
  | x :: r, j => { key := .int .u64 x, val := .int .i64 (j : Int), born := j } :: ents r (j + 1)

/-- The place of a number in a list. -/
def place (a : Int) : List Int → Nat → Option Nat
  | [], _ => none
  | x :: r, j => if a = x then some j else place a r (j + 1)

theorem find_ents (a : Int) : ∀ (ls : List Int) (j : Nat), Instr.findNow (.int .u64) (.int .u64 a) (ents ls j) j = some ((place a ls j).map fun (k : Nat) => (k, Value.int .i64 (k : Int)))
  | [], j => rfl
  | x :: r, j => by
    simp only [ents, Instr.findNow, Instr.sameNow, if_true, place]
    by_cases h : a = x
    · simp [h]
    · have : (a == x) = false := by simpa using h
      rw [this]
      simp only [if_neg h]
      exact find_ents a r (j + 1)

theorem ents_snoc : ∀ (ls : List Int) (x : Int) (j : Nat), ents (ls ++ [x]) j = ents ls j ++ [{ key := .int .u64 x, val := .int .i64 ((j + ls.length : Nat) : Int), born := j + ls.length }]
  | [], x, j => by simp [ents]
  | y :: r, x, j => by
    simp only [List.cons_append, ents, ents_snoc r x (j + 1), List.length_cons]
    have : j + 1 + r.length = j + (r.length + 1) := by omega
    rw [this]

theorem place_none {a : Int} : ∀ {ls : List Int} {j : Nat}, a ∉ ls → place a ls j = none
  | [], _, _ => rfl
  | x :: r, j, h => by
    simp only [place]
    rw [if_neg fun e => h (by rw [e]; exact List.mem_cons_self ..)]
    exact place_none fun e => h (List.mem_cons_of_mem _ e)

theorem place_get {a : Int} : ∀ {ls : List Int} {j k : Nat}, place a ls j = some k → j ≤ k ∧ ls[k - j]? = some a
  | [], _, _, h => by cases h
  | x :: r, j, k, h => by
    simp only [place] at h
    split at h
    · rename_i e
      cases h
      simp [e]
    · obtain ⟨h1, h2⟩ := place_get h
      refine ⟨by omega, ?_⟩
      rw [show k - j = (k - (j + 1)) + 1 from by omega]
      simpa using h2

/-- A table. -/
structure Tab (h : Hp) (p : Addr) (ls : List Int) : Prop where
  ex : ∃ (sl : Sl) (m : Nat), LdIs h p [sl.v, .map (some m)] ∧ Us h sl ls ∧ h m = some (.map (ents ls 0).toArray ls.length)

theorem Tab.mono {h h' : Hp} {p : Addr} {ls : List Int} (hl : h ≤ h') (t : Tab h p ls) : Tab h' p ls := by
  obtain ⟨sl, m, h1, h2, h3⟩ := t.ex
  exact ⟨sl, m, ldIs_mono hl h1, h2.mono hl, hl _ _ h3⟩

theorem Tab.sl {h : Hp} {p : Addr} {ls : List Int} (t : Tab h p ls) {K : Sl → Prop} (hk : ∀ sl, Us h sl ls → K sl) : LdW none shSl h (p.add 0) K := by
  obtain ⟨sl, m, h1, h2, h3⟩ := t.ex
  refine ⟨sl, fun i v hv => ?_, hk sl h2⟩
  cases i with
  | zero =>
    have := h1 0 v (by simpa [cellsL, Sl.v] using hv)
    rw [add_add]
    exact this
  | succ i => simp [cellsL] at hv

theorem Tab.slC {h : Hp} {p : Addr} {ls : List Int} (t : Tab h p ls) {c : Bool} {K : Sl → Prop} (hk : ∀ sl, Us h sl ls → K sl) : LdW (some c) shSl h (p.add 0) K := by
  obtain ⟨sl, h1, h2⟩ := t.sl hk
  exact ⟨sl, fun _ => h1, h2⟩

theorem Tab.map {h : Hp} {p : Addr} {ls : List Int} (t : Tab h p ls) {K : Option Nat → Prop} (hk : ∀ m, h m = some (.map (ents ls 0).toArray ls.length) → K (some m)) : LdW none shMap h (p.add 1) K := by
  obtain ⟨sl, m, h1, h2, h3⟩ := t.ex
  refine ⟨some m, fun i v hv => ?_, hk m h3⟩
  cases i with
  | zero =>
    have := h1 1 v (by simpa [cellsL] using hv)
    rw [add_add]
    exact this
  | succ i => simp [cellsL] at hv

theorem tabLen_ok {p : Addr} {ls : List Int} {Q : Int → Hp → Prop} {h : Hp} (t : Tab h p ls) (hq : Q (ls.length : Int) h) : table_Table_Len_w Try.prog (some p) Q h := by
  unfold table_Table_Len_w
  refine notNil (t.sl fun sl hs => ?_)
  rw [hs.1]
  exact hq

theorem tabIs_ok {p : Addr} {ls : List Int} {i : Int} {Q : Bool → Hp → Prop} {h : Hp} (t : Tab h p ls) (hq : Q (decide (0 ≤ i) && decide (i < (ls.length : Int))) h) : table_Table_is_w Try.prog (some p) i Q h := by
  unfold table_Table_is_w
  refine notNil (t.slC fun sl hs => letW ?_)
  rw [hs.1]
  exact hq

theorem tabIndex_ok {p : Addr} {ls : List Int} {a : Int} {Q : Int → Bool → Hp → Prop} {h : Hp} (t : Tab h p ls) (h0 : place a ls 0 = none → Q 0 false h) (h1 : ∀ k, place a ls 0 = some k → Q (k : Int) true h) : table_Table_Index_w Try.prog (some p) a Q h := by
  unfold table_Table_Index_w
  refine notNil (t.map fun m hm => ?_)
  have hf := find_ents a ls 0
  cases hp : place a ls 0 with
  | none =>
    rw [hp] at hf
    exact ⟨0, false, ⟨_, .inr ⟨m, _, rfl, hm⟩, .inl ⟨hf, rfl, rfl⟩⟩, h0 hp⟩
  | some k =>
    rw [hp] at hf
    exact ⟨(k : Int), true, ⟨_, .inr ⟨m, _, rfl, hm⟩, .inr ⟨k, hf, rfl⟩⟩, h1 k hp⟩

end Lf

/-
  What a table tells.
-/
namespace Lf
open Go Go.Proofs

theorem tabLabel_ok {p : Addr} {ls : List Int} {i : Int} {Q : Int → Int → Hp → Prop} {h : Hp} (t : Tab h p ls) (h0 : ¬ (0 ≤ i ∧ i < (ls.length : Int)) → Q 0 2 h)
    (h1 : ∀ x, 0 ≤ i ∧ i < (ls.length : Int) → ls[i.toNat]? = some x → Q x 0 h) : table_Table_Label_w Try.prog (some p) i Q h := by
  unfold table_Table_Label_w
  refine table_Table_is_call (tabIs_ok t ?_)
  by_cases hi : 0 ≤ i ∧ i < (ls.length : Int)
  · have : (decide (0 ≤ i) && decide (i < (ls.length : Int))) = true := by simp; exact hi
    rw [this, if_neg (by simp)]
    refine notNil (t.sl fun sl hs => ?_)
    exact Rs.get hs (fun _ => rfl) (by omega) hi.1 hi.2 fun (x : Int) hx => h1 x hi hx
  · have : (decide (0 ≤ i) && decide (i < (ls.length : Int))) = false := by simp; omega
    rw [this, if_pos (by simp)]
    exact h0 hi

theorem tabFlows_ok {p : Addr} {ls : List Int} {i j : Int} {Q : Bool → Hp → Prop} {h : Hp} (t : Tab h p ls) (hu : ∀ x ∈ ls, InU x) (hq : Q (fl ls i j) h) : table_Table_Flows_w Try.prog (some p) i j Q h := by
  unfold table_Table_Flows_w
  refine table_Table_is_call (tabIs_ok t ?_)
  generalize hc : (decide (0 ≤ i) && decide (i < (ls.length : Int))) = ci
  refine ⟨fun e => table_Table_is_call (tabIs_ok t ?_), fun e => ⟨false, ?_⟩⟩
  · generalize hd : (decide (0 ≤ j) && decide (j < (ls.length : Int))) = cj
    refine letW ?_
    subst e
    rw [Bool.true_and]
    simp at hc
    refine notNil (t.slC fun sl hs => ?_)
    refine Rs.getC hs (0 : Int) (fun _ => rfl) (by omega) (fun _ => hc) fun (x : Int) hx => ?_
    refine notNil (t.slC fun sl2 hs2 => ?_)
    refine Rs.getC hs2 (0 : Int) (fun _ => rfl) (by omega) (fun e => by rw [e] at hd; simpa using hd) fun (y : Int) hy => ?_
    refine ⟨fun e => ?_, fun e => ⟨false, ?_⟩⟩
    · have ex := hx e
      have ey := hy e
      rw [e] at hd
      simp at hd
      refine label_Flows_call (labelFlows_ok (hu x (List.mem_of_getElem? ex)) (hu y (List.mem_of_getElem? ey)) (letW ?_))
      rw [e, Bool.true_and, ← fl_in ⟨hc.1, hd.1⟩ ex ey]
      exact hq
    · refine letW ?_
      rw [e] at hd ⊢
      rw [Bool.false_and, ← fl_out (xs := ls) (i := i) (j := j) (by simp at hd; omega)]
      exact hq
  · subst e
    simp at hc
    refine letW ?_
    rw [Bool.false_and]
    refine notNil (t.slC fun sl hs => ?_)
    refine Rs.getC hs (0 : Int) (fun _ => rfl) (by omega) (fun e => by cases e) fun (x : Int) hx => ?_
    refine notNil (t.slC fun sl2 hs2 => ?_)
    refine Rs.getC hs2 (0 : Int) (fun _ => rfl) (by omega) (fun e => by cases e) fun (y : Int) hy => ?_
    refine ⟨fun e => (by cases e), fun e => ⟨false, letW ?_⟩⟩
    rw [Bool.false_and, ← fl_out (xs := ls) (i := i) (j := j) (by omega)]
    exact hq

end Lf

/-
  A table is made.
-/
namespace Lf
open Go Go.Proofs

theorem clone_ok {s : Sl} {xs : List Int} {Q : Sl → Hp → Prop} {h : Hp} (r : Us h s xs) (hl : xs.length ≤ 1000000) (hq : ∀ out h', h ≤ h' → OwnU h h' out xs → Q out h') : slices_Clone_uint64_uint64_w Try.prog s Q h := by
  unfold slices_Clone_uint64_uint64_w
  refine ⟨s.base.isNone, semIs_nilSl (tb_ok.und 33 ty33 rfl) s, ?_⟩
  cases hb : s.base with
  | none =>
    rw [if_pos (show (none : Option Addr).isNone = true from rfl)]
    have : xs = [] := by
      rcases r.2.2 with e | ⟨a, ha, _⟩
      · exact List.length_eq_zero_iff.1 (by omega)
      · rw [hb] at ha; cases ha
    subst this
    exact hq _ h (Hp.le_refl h) ⟨rfl, Nat.le_refl _, .inl ⟨rfl, rfl⟩⟩
  | some a =>
    rw [if_neg (by simp)]
    refine new_row (xs := ([] : List Int)) (enc := fun x => cellsL ((shInt .u64).enc x)) (sz := 1) (Hp.le_refl h) rfl (fun _ => rfl) fun a h1 hle1 ho1 => ?_
    refine app_own hle1 ho1 (Rw.mono hle1 r) (fun _ => rfl) (fun _ => rfl) rfl ?_ fun l' h' hle' hown _ => ?_
    · simp; omega
    · exact hq l' h' hle' hown

theorem place_take {ls : List Int} (hn : ls.Pairwise (· < ·)) {t : Nat} {x : Int} (hx : ls[t]? = some x) : x ∉ ls.take t := by
  intro hm
  obtain ⟨i, hi⟩ := List.mem_iff_getElem?.1 hm
  rw [List.getElem?_take] at hi
  split at hi
  · rename_i hlt
    obtain ⟨h1, e1⟩ := List.getElem?_eq_some_iff.1 hi
    obtain ⟨h2, e2⟩ := List.getElem?_eq_some_iff.1 hx
    have := List.pairwise_iff_getElem.1 hn i t h1 h2 hlt
    omega
  · cases hi

theorem new_ok {l : Sl} {ls : List Int} {Q : Option Addr → Int → Int → Hp → Prop} {h : Hp} (r : Us h l ls) (hl : ls.length ≤ 8) (asc : ls.Pairwise (· < ·)) (h0 : ls = [] → Q none 1 0 h)
    (h1 : ls ≠ [] → ∀ p h', h ≤ h' → Tab h' p ls → Q (some p) 0 0 h') : table_New_w Try.prog l Q h := by
  unfold table_New_w
  refine table_May_call (may_ok r hl asc (fun e => ?_) (fun e => ?_))
  · rw [if_pos (by simp)]
    exact h0 e
  rw [if_neg (by simp)]
  refine slices_Clone_uint64_uint64_call (clone_ok r (by omega) fun out k1 hle1 ho1 => ?_)
  intro m hm
  have hle2 : k1 ≤ k1.set m (.map #[] 0) := set_new hm
  intro b t hb
  have hle3 := set_new (o := .cells (([out.v, .map (some m)] : List Value).toArray) t (0, 0)) hb
  have hm0 : h m = none := none_of_le hle1 hm
  have hbm : b ≠ m := fun e => by rw [e, set_self] at hb; cases hb
  have rout : Us k1 out ls := ho1.rw fun _ => rfl
  refine ⟨_, rfl, out, ?_, ?_⟩
  · intro i v hv
    cases i with
    | zero =>
      rw [add_add]
      exact ldIs_new 0 v (by simpa [cellsL, Sl.v] using hv)
    | succ i => simp [cellsL] at hv
  refine LoopW1.intro (fun i k => h ≤ k ∧ 0 ≤ i ∧ i ≤ (ls.length : Int) ∧ Us k out ls ∧ LdIs k ⟨b, 0, none⟩ [out.v, .map (some m)] ∧ k m = some (.map (ents (ls.take i.toNat) 0).toArray i.toNat)) (fun i _ => (ls.length - i).toNat)
    ⟨Hp.le_trans hle1 (Hp.le_trans hle2 hle3), by omega, by omega, Rw.mono (Hp.le_trans hle2 hle3) rout, ldIs_new, hle3 _ _ set_self⟩ ?_
  rintro i k ⟨hk, hi0, hi1, hr, hp, hmk⟩
  have hlen := hr.1
  split
  · rename_i e
    have e : i < (out.len : Int) := by simpa using e
    refine Rs.get hr (fun _ => rfl) (by omega) hi0 (by omega) fun (x : Int) hx => ?_
    refine ⟨_, rfl, some m, ?_, ?_⟩
    · intro j v hv
      cases j with
      | zero =>
        have := hp 1 v (by simpa [cellsL] using hv)
        rw [add_add]
        exact this
      | succ j => simp [cellsL] at hv
    have hlt : (ls.take i.toNat).length = i.toNat := by rw [List.length_take]; omega
    refine ⟨m, _, _, rfl, hmk, .inl ⟨?_, ?_⟩⟩
    · have := find_ents x (ls.take i.toNat) 0
      rw [place_none (place_take asc hx)] at this
      exact this
    · have hck : ∀ o, CKeep k (k.set m o) := fun o => ck_set hmk rfl
      rw [wrap64 (by omega) (by omega)]
      refine ⟨⟨set_over hk hm0, by omega, by omega, Rw.ck (hck _) hr, ldIs_ck (hck _) hp, ?_⟩, by omega⟩
      rw [set_self]
      have e1 : (i + 1).toNat = i.toNat + 1 := by omega
      have e2 : ls.take (i.toNat + 1) = ls.take i.toNat ++ [x] := by rw [List.take_add_one, hx]; rfl
      rw [e1, e2, ents_snoc, hlt]
      have e3 : ((0 + i.toNat : Nat) : Int) = i := by omega
      rw [e3, Nat.zero_add, List.push_toArray]
  · rename_i e2
    have e2 : ¬ i < (out.len : Int) := by simpa using e2
    have e3 : i.toNat = ls.length := by omega
    rw [e3, List.take_length] at hmk
    exact h1 e _ _ hk ⟨out, m, hp, hr, hmk⟩

end Lf

/-
  Lists that a table gives.
-/
namespace Lf
open Go Go.Proofs

theorem those_ok {p : Addr} {ls : List Int} {is : Leaf} {f : Nat → Bool} {Q : Sl → Hp → Prop} {h : Hp} (t : Tab h p ls) (hl : ls.length ≤ 100000)
    (hc : ∀ (j : Nat) (Q : Bool → Hp → Prop) (k : Hp), h ≤ k → j < ls.length → Q (f j) k → CallV Try.prog tb is.v [.int .i64 (j : Int)] shBool Q k)
    (hq : ∀ out h', h ≤ h' → OwnI h h' out (those f ls.length) → Q out h') : table_Table_those_w Try.prog (some p) is Q h := by
  unfold table_Table_those_w
  refine notNil (t.sl fun sl hs => ?_)
  have hlen := hs.1
  refine LoopW2.intro (fun out j k => h ≤ k ∧ 0 ≤ j ∧ j ≤ (ls.length : Int) ∧ OwnI h k out (those f j.toNat)) (fun _ j _ => (ls.length - j).toNat) ⟨Hp.le_refl h, by omega, by omega, rfl, Nat.le_refl _, .inl ⟨rfl, rfl⟩⟩ ?_
  rintro out j k ⟨hle, hj0, hj1, ho⟩
  split
  · rename_i e
    have e : j < (sl.len : Int) := by simpa using e
    have hjn : (j.toNat : Int) = j := by omega
    have hs' : (j + 1).toNat = j.toNat + 1 := by omega
    have hlt := those_len f j.toNat
    refine JoinW1.intro (fun out k => h ≤ k ∧ OwnI h k out (those f (j.toNat + 1))) ?_ ?_
    · have hcc := hc j.toNat
      rw [hjn] at hcc
      refine hcc _ k hle (by omega) ?_
      have hth := those_succ f j.toNat
      rw [hjn] at hth
      cases hf : f j.toNat with
      | true =>
        rw [if_pos rfl]
        rw [hf, if_pos rfl] at hth
        refine push_ok hle ho (by omega) fun out' h' hle' ho' _ => ?_
        rw [hth]
        exact ⟨hle', ho'⟩
      | false =>
        rw [if_neg (by simp)]
        rw [hf, if_neg (by simp), List.append_nil] at hth
        rw [hth]
        exact ⟨hle, ho⟩
    · rintro out' k' ⟨hle', ho'⟩
      rw [wrap64 (by omega) (by omega)]
      exact ⟨⟨hle', by omega, by omega, by rw [hs']; exact ho'⟩, by omega⟩
  · rename_i e
    have e : ¬ j < (sl.len : Int) := by simpa using e
    refine hq _ _ hle ?_
    have : j.toNat = ls.length := by omega
    rw [← this]
    exact ho

theorem ld_new {h : Hp} {b t : Nat} {sh : Shape} {x : sh.T} {K : sh.T → Prop} {h' : Hp} (hl : h.set b (.cells (cellsL (sh.enc x)).toArray t (0, 0)) ≤ h') (hk : K x) : LdW none sh h' ⟨b, 0, none⟩ K :=
  ⟨x, ldIs_mono hl ldIs_new, hk⟩

theorem own_start {α : Type} {h0 h1 h : Hp} {sz : Nat} {enc : α → List Value} {l : Sl} {xs : List α} (hle : h0 ≤ h1) (o : Own h1 h sz enc l xs) : Own h0 h sz enc l xs := by
  obtain ⟨h1, h2, h3⟩ := o
  refine ⟨h1, h2, h3.imp id ?_⟩
  rintro ⟨b, cs, t, e1, e2, e3, e4, e5⟩
  exact ⟨b, cs, t, e1, e2, e3, e4, none_of_le hle e5⟩

theorem tabUp_ok {p : Addr} {ls : List Int} {i : Int} {Q : Sl → Hp → Prop} {h : Hp} (t : Tab h p ls) (hu : ∀ x ∈ ls, InU x) (hl : ls.length ≤ 100000)
    (hq : ∀ out h', h ≤ h' → OwnI h h' out (those (fun j => fl ls i j) ls.length) → Q out h') : table_Table_Up_w Try.prog (some p) i Q h := by
  unfold table_Table_Up_w
  intro b1 t1 hb1
  have l1 := set_new (o := .cells (([.pointer (some p)] : List Value).toArray) t1 (0, 0)) hb1
  intro b2 t2 hb2
  have l2 := set_new (o := .cells (([.int .i64 i] : List Value).toArray) t2 (0, 0)) hb2
  refine ld_new (sh := shPtr) (x := some p) l2 ?_
  refine table_Table_those_call (is := ⟨.func (.func n_table_Table_Up_1) #[] #[.pointer (some ⟨b1, 0, none⟩), .pointer (some ⟨b2, 0, none⟩)], rfl⟩) (those_ok (f := fun j => fl ls i j) (t.mono (Hp.le_trans l1 l2)) hl (fun j Q k hk hj hQ => ?_) fun out h' hle ho => hq out h' (Hp.le_trans (Hp.le_trans l1 l2) hle) (own_start (Hp.le_trans l1 l2) ho))
  refine ⟨n_table_Table_Up_1, #[], _, rfl, rfl, table_Table_Up_1_call (j := (j : Int)) (a1 := ⟨b1, 0, none⟩) (a2 := ⟨b2, 0, none⟩) ?_⟩
  unfold table_Table_Up_1_w
  refine ld_new (sh := shPtr) (x := some p) (Hp.le_trans l2 hk) (ld_new (sh := shInt .i64) (x := i) hk ?_)
  exact table_Table_Flows_call (tabFlows_ok (t.mono (Hp.le_trans (Hp.le_trans l1 l2) hk)) hu hQ)

theorem tabDown_ok {p : Addr} {ls : List Int} {a : Int} {Q : Sl → Hp → Prop} {h : Hp} (t : Tab h p ls) (hu : ∀ x ∈ ls, InU x) (ha : InU a) (hl : ls.length ≤ 100000)
    (hq : ∀ out h', h ≤ h' → OwnI h h' out (those (fun j => flows (ls.getD j 0) a) ls.length) → Q out h') : table_Table_Down_w Try.prog (some p) a Q h := by
  unfold table_Table_Down_w
  intro b1 t1 hb1
  have l1 := set_new (o := .cells (([.pointer (some p)] : List Value).toArray) t1 (0, 0)) hb1
  intro b2 t2 hb2
  have l2 := set_new (o := .cells (([.int .u64 a] : List Value).toArray) t2 (0, 0)) hb2
  refine ld_new (sh := shPtr) (x := some p) l2 ?_
  refine table_Table_those_call (is := ⟨.func (.func n_table_Table_Down_1) #[] #[.pointer (some ⟨b1, 0, none⟩), .pointer (some ⟨b2, 0, none⟩)], rfl⟩) (those_ok (f := fun j => flows (ls.getD j 0) a) (t.mono (Hp.le_trans l1 l2)) hl (fun j Q k hk hj hQ => ?_) fun out h' hle ho => hq out h' (Hp.le_trans (Hp.le_trans l1 l2) hle) (own_start (Hp.le_trans l1 l2) ho))
  refine ⟨n_table_Table_Down_1, #[], _, rfl, rfl, table_Table_Down_1_call (i := (j : Int)) (a1 := ⟨b1, 0, none⟩) (a2 := ⟨b2, 0, none⟩) ?_⟩
  unfold table_Table_Down_1_w
  refine ld_new (sh := shPtr) (x := some p) (Hp.le_trans l2 hk) (notNil ((t.mono (Hp.le_trans (Hp.le_trans l1 l2) hk)).sl fun sl hs => ?_))
  refine Rs.get hs (fun _ => rfl) (by omega) (by omega) (by omega) fun (x : Int) hx => ?_
  refine ld_new (sh := shInt .u64) (x := a) hk ?_
  have hx' : ls[j]? = some x := hx
  have hg : ls.getD j 0 = x := by rw [List.getD_eq_getElem?_getD, hx']; rfl
  refine label_Flows_call (labelFlows_ok (hu x (List.mem_of_getElem? hx)) ha ?_)
  rw [← hg]
  exact hQ

theorem wide_ok {l : Sl} {xs : List Int} {Q : Sl → Hp → Prop} {h : Hp} (r : Us h l xs) (hl : xs.length ≤ 100000) (hq : ∀ out h', h ≤ h' → Us h' out xs → Q out h') : firebreaklaw02_wide_w Try.prog l Q h := by
  unfold firebreaklaw02_wide_w
  have hlen := r.1
  have hw : IntKind.wrap .i64 ((l.len : Int) + 3) = (l.len : Int) + 3 := wrap64 (by omega) (by omega)
  rw [hw]
  refine ⟨by omega, fun b t hb => ?_⟩
  have hle := set_new (o := .cells (zerosL [Value.int .u64 0] ((l.len : Int) + 3).toNat).toArray t (0, 0)) hb
  have ho : OwnU h (h.set b (.cells (zerosL [Value.int .u64 0] ((l.len : Int) + 3).toNat).toArray t (0, 0))) ⟨some ⟨b, 0, none⟩, (0 : Int).toNat, ((l.len : Int) + 3).toNat⟩ [] := by
    refine ⟨rfl, Nat.zero_le _, .inr ⟨b, _, t, rfl, set_self, ?_, by simp, hb⟩⟩
    simp [zerosL]
  refine app_own hle ho (Rw.mono hle r) (fun _ => rfl) (fun _ => rfl) rfl (by simp; omega) fun l1 h1 hle1 ho1 _ => ?_
  refine new_row (xs := ([161, 162, 163] : List Int)) (enc := fun x => cellsL ((shInt .u64).enc x)) (sz := 1) (h0 := h) hle1 rfl (fun _ => rfl) fun a2 h2 hle2 ho2 => ?_
  refine app_own (Hp.le_trans hle1 hle2) (ho1.mono hle2) (ho2.rw fun _ => rfl) (fun _ => rfl) (fun _ => rfl) rfl (by simp; omega) fun l3 h3 hle3 ho3 _ => ?_
  have h3l := ho3.1
  have h3c := ho3.2.1
  simp at h3l
  refine ⟨by omega, letW (hq _ _ hle3 ?_)⟩
  have r3 : Us h3 l3 (xs ++ [161, 162, 163]) := by simpa using ho3.rw fun _ => rfl
  refine ⟨by show (l.len : Int).toNat - 0 = _; omega, ?_⟩
  obtain ⟨_, r4, r5⟩ := r3
  refine ⟨flat_len (enc := fun x => cellsL ((shInt .u64).enc x)) (fun _ => rfl) xs, .inr ?_⟩
  rcases r5 with e | ⟨a, ha, hr⟩
  · simp at e
  · have hb : sbase l3.base 1 0 l3.cap = some a := by
      unfold sbase
      rw [if_neg (by omega), ha]
      rfl
    refine ⟨a, hb, fun i v hv => hr i v ?_⟩
    rw [List.flatMap_append, List.getElem?_append_left]
    · exact hv
    · exact (List.getElem?_eq_some_iff.1 hv).1

end Lf

/-
  The answers that the document fixes.
-/
namespace Lf
open Go Go.Proofs

theorem awake_ok {Q : Bool → Hp → Prop} {h : Hp} (hq : ∀ h', h ≤ h' → Q true h') : firebreaklaw02_awake_w Try.prog Q h := by
  unfold firebreaklaw02_awake_w
  refine new_row (xs := ([0, 1, 2, 3, 8] : List Int)) (enc := fun x => cellsL ((shInt .u64).enc x)) (sz := 1) (Hp.le_refl h) rfl (fun _ => rfl) fun a h1 l1 o1 => ?_
  have hu : ∀ x ∈ ([0, 1, 2, 3, 8] : List Int), InU x := by decide
  refine table_New_call (l := ⟨some a, 5, 5⟩) (new_ok (ls := [0, 1, 2, 3, 8]) (o1.rw fun _ => rfl) (by decide) (by decide) (fun e => (by cases e)) fun _ p h2 l2 t => ?_)
  refine letW (letW ?_)
  refine effT (table_Table_Len_call (tabLen_ok t ?_))
  refine letW ?_
  refine effT (table_Table_Flows_call (tabFlows_ok t hu ?_))
  refine letW ?_
  refine effB (by rw [show fl [0, 1, 2, 3, 8] 1 3 = true by decide +kernel]; rfl) ?_
  refine table_Table_Flows_call (tabFlows_ok t hu ?_)
  refine letW ?_
  rw [show fl [0, 1, 2, 3, 8] 1 3 = true by decide +kernel, show fl [0, 1, 2, 3, 8] 1 2 = false by decide +kernel]
  rw [if_neg (by simp)]
  refine table_Table_Label_call (tabLabel_ok t (fun e => absurd e (by decide)) fun x _ hx => ?_)
  cases hx
  refine table_Table_Index_call (tabIndex_ok t (fun e => absurd e (by decide)) fun k hk => ?_)
  cases hk
  refine table_Table_Index_call (tabIndex_ok t (fun _ => ?_) fun k hk => absurd hk (by simp [place]))
  refine letW (letW (letW (letW ?_)))
  refine effT (table_Table_Down_call (tabDown_ok t hu (by decide) (by decide) fun out h3 l3 o3 => ?_))
  have e3 : those (fun j => flows (([0, 1, 2, 3, 8] : List Int).getD j 0) 10) ([0, 1, 2, 3, 8] : List Int).length = [0, 2, 4] := by decide +kernel
  rw [e3] at o3
  refine effT (new_row (xs := ([0, 2, 4] : List Int)) (enc := fun x => cellsL ((shInt .i64).enc x)) (sz := 1) (Hp.le_refl h3) rfl (fun _ => rfl) fun a4 h4 l4 o4 => ?_)
  refine effT (firebreakref02_SameInts_call (b := ⟨some a4, 3, 3⟩) (sameInts_ok (Rw.mono l4 (o3.rw fun _ => rfl)) (o4.rw fun _ => rfl) (by decide) ?_))
  refine letW ?_
  refine effT (table_Table_Up_call (tabUp_ok (t.mono (Hp.le_trans l3 l4)) hu (by decide) fun out h5 l5 o5 => ?_))
  have e5 : those (fun j => fl [0, 1, 2, 3, 8] 1 j) ([0, 1, 2, 3, 8] : List Int).length = [1, 3] := by decide +kernel
  rw [e5] at o5
  refine effT (new_row (xs := ([1, 3] : List Int)) (enc := fun x => cellsL ((shInt .i64).enc x)) (sz := 1) (Hp.le_refl h5) rfl (fun _ => rfl) fun a6 h6 l6 o6 => ?_)
  refine effT (firebreakref02_SameInts_call (b := ⟨some a6, 2, 2⟩) (sameInts_ok (Rw.mono l6 (o5.rw fun _ => rfl)) (o6.rw fun _ => rfl) (by decide) ?_))
  refine letW ?_
  exact hq _ (Hp.le_trans l1 (Hp.le_trans l2 (Hp.le_trans l3 (Hp.le_trans l4 (Hp.le_trans l5 l6)))))

end Lf

/-
  Parts of slices.
-/
namespace Lf
open Go

theorem ldIs_drop {h : Hp} {a : Addr} {cs : List Value} (e : LdIs h a cs) (n : Nat) : LdIs h (a.add n) (cs.drop n) := fun i v hv => by
  rw [add_add]
  exact e (n + i) v (by simpa [List.getElem?_drop] using hv)

theorem flat_drop {α : Type} {sz : Nat} {enc : α → List Value} (henc : ∀ x, (enc x).length = sz) : ∀ (xs : List α) (n : Nat), (xs.drop n).flatMap enc = (xs.flatMap enc).drop (n * sz)
  | [], n => by simp
  | x :: xs, 0 => by simp
  | x :: xs, n + 1 => by
    simp only [List.drop_succ_cons, List.flatMap_cons]
    have e : (enc x).drop (n * sz + sz) = [] := List.drop_eq_nil_of_le (by rw [henc]; omega)
    rw [flat_drop henc xs n, Nat.add_mul, Nat.one_mul, List.drop_append, henc, e, List.nil_append, Nat.add_sub_cancel]

theorem flat_take {α : Type} {sz : Nat} {enc : α → List Value} (henc : ∀ x, (enc x).length = sz) : ∀ (xs : List α) (n : Nat), (xs.take n).flatMap enc = (xs.flatMap enc).take (n * sz)
  | [], n => by simp
  | x :: xs, 0 => by simp
  | x :: xs, n + 1 => by
    simp only [List.take_succ_cons, List.flatMap_cons]
    have e : (enc x).take (n * sz + sz) = enc x := List.take_of_length_le (by rw [henc]; omega)
    rw [flat_take henc xs n, Nat.add_mul, Nat.one_mul, List.take_append, henc, e, Nat.add_sub_cancel]

/-- A part of a slice holds a part of the list. -/
theorem Rw.cut {α : Type} {h : Hp} {sz : Nat} {enc : α → List Value} {l : Sl} {xs : List α} (r : Rw h sz enc l xs) (henc : ∀ x, (enc x).length = sz) {a b c n m : Nat} (hab : a ≤ b) (hb : b ≤ xs.length) (hc : b ≤ c) (hn : n = b - a) :
    Rw h sz enc ⟨sbase l.base sz a c, n, m⟩ ((xs.drop a).take (b - a)) := by
  obtain ⟨h1, h2, h3⟩ := r
  have hlen : ((xs.drop a).take (b - a)).length = b - a := by rw [List.length_take, List.length_drop]; omega
  refine ⟨hn.trans hlen.symm, flat_len henc _, ?_⟩
  rw [hlen]
  by_cases h0 : (b - a) * sz = 0
  · exact .inl h0
  · right
    have hba : b - a ≠ 0 := fun e => h0 (by rw [e, Nat.zero_mul])
    have hsz : sz ≠ 0 := fun e => h0 (by rw [e, Nat.mul_zero])
    have hx : xs.length * sz ≠ 0 := Nat.mul_ne_zero (by omega) hsz
    obtain ⟨p, hp, hl⟩ := h3.resolve_left hx
    refine ⟨p.add (a * sz), ?_, fun i v hv => ?_⟩
    · unfold sbase
      rw [if_neg (show ¬ c = a by omega), hp]
      rfl
    · rw [flat_take henc, flat_drop henc, List.getElem?_take] at hv
      split at hv
      · exact ldIs_drop hl (a * sz) i v hv
      · cases hv

theorem Rw.head {α : Type} {h : Hp} {sz : Nat} {enc : α → List Value} {l : Sl} {xs : List α} (r : Rw h sz enc l xs) (henc : ∀ x, (enc x).length = sz) {b c n m : Nat} (hb : b ≤ xs.length) (hc : b ≤ c) (hn : n = b) :
    Rw h sz enc ⟨sbase l.base sz 0 c, n, m⟩ (xs.take b) := by
  have := r.cut (m := m) henc (Nat.zero_le b) hb hc (n := n) (by omega)
  simpa using this

theorem min2_le {x y : Int} : min2I x y ≤ x ∧ min2I x y ≤ y ∧ (min2I x y = x ∨ min2I x y = y) := by
  unfold min2I
  split <;> omega

end Lf

/-
  Blocks that are written: what stays.
-/
namespace Lf
open Go

/-- From one partial memory to the next: of the known blocks, none but those of the first list has changed; the second list has old ones of the first list, and new ones. -/
structure Mv (F : List Nat) (h : Hp) (F' : List Nat) (h' : Hp) : Prop where
  keep : ∀ b o, h b = some o → b ∉ F → h' b = some o
  from_ : ∀ b ∈ F', b ∈ F ∨ h b = none

theorem Mv.refl (F : List Nat) (h : Hp) : Mv F h F h := ⟨fun _ _ e _ => e, fun _ e => .inl e⟩

theorem Mv.trans {F F' F'' : List Nat} {h h' h'' : Hp} (a : Mv F h F' h') (b : Mv F' h' F'' h'') : Mv F h F'' h'' := by
  refine ⟨fun i o e hn => b.keep i o (a.keep i o e hn) fun hf => ?_, fun i hi => ?_⟩
  · rcases a.from_ i hf with h1 | h1
    · exact hn h1
    · rw [h1] at e; cases e
  · rcases b.from_ i hi with h1 | h1
    · exact a.from_ i h1
    · cases e : h i with
      | none => exact .inr rfl
      | some o =>
        left
        refine Classical.byContradiction fun hn => ?_
        rw [a.keep i o e hn] at h1; cases h1

theorem Mv.of_le {h h' : Hp} (F : List Nat) (hl : h ≤ h') : Mv F h F h' := ⟨fun b o e _ => hl b o e, fun _ e => .inl e⟩

theorem Mv.le {F F' : List Nat} {h0 h h' : Hp} (a : Mv F h F' h') (hl : h0 ≤ h) (hf : ∀ b ∈ F, h0 b = none) : h0 ≤ h' ∧ ∀ b ∈ F', h0 b = none := by
  refine ⟨fun b o e => a.keep b o (hl b o e) fun hb => (by rw [hf b hb] at e; cases e), fun b hb => ?_⟩
  rcases a.from_ b hb with h1 | h1
  · exact hf b h1
  · exact none_of_le hl h1

/-- More may have changed. -/
theorem Mv.wide {F F' : List Nat} {h h' : Hp} (a : Mv F h F' h') (G : List Nat) : Mv (F ++ G) h (F' ++ G) h' :=
  ⟨fun b o e hn => a.keep b o e fun hb => hn (List.mem_append_left _ hb), fun b hb => by
    rcases List.mem_append.1 hb with hb | hb
    · rcases a.from_ b hb with h1 | h1
      · exact .inl (List.mem_append_left _ h1)
      · exact .inr h1
    · exact .inl (List.mem_append_right _ hb)⟩

theorem Mv.sub {F F' G G' : List Nat} {h h' : Hp} (a : Mv F h F' h') (h1 : ∀ b ∈ F, b ∈ G) (h2 : ∀ b ∈ G', b ∈ F' ∨ b ∈ G ∨ h b = none) : Mv G h G' h' :=
  ⟨fun b o e hn => a.keep b o e fun hb => hn (h1 b hb), fun b hb => by
    rcases h2 b hb with h3 | h3
    · rcases a.from_ b h3 with h4 | h4
      · exact .inl (h1 b h4)
      · exact .inr h4
    · exact h3⟩

theorem Mv.set {h : Hp} {b : Nat} {o : Obj} : Mv [b] h [b] (h.set b o) := by
  refine ⟨fun i x e hn => ?_, fun i hi => .inl hi⟩
  have hne : i ≠ b := fun e' => hn (by rw [e']; exact List.mem_singleton.2 rfl)
  simp only [Hp.set, hne, if_false]
  exact e

theorem Mv.new {h : Hp} {b : Nat} {o : Obj} (hn : h b = none) : Mv [] h [b] (h.set b o) :=
  ⟨fun i x e _ => set_new hn i x e, fun i hi => .inr (by rw [List.mem_singleton.1 hi]; exact hn)⟩

/-- A block of cells. -/
def Blk (h : Hp) (b : Nat) (cs : List Value) : Prop := ∃ t, h b = some (.cells cs.toArray t (0, 0))

theorem Blk.mv {F F' : List Nat} {h h' : Hp} {b : Nat} {cs : List Value} (k : Blk h b cs) (a : Mv F h F' h') (hn : b ∉ F) : Blk h' b cs := by
  obtain ⟨t, e⟩ := k
  exact ⟨t, a.keep b _ e hn⟩

theorem Blk.le {h h' : Hp} {b : Nat} {cs : List Value} (k : Blk h b cs) (hl : h ≤ h') : Blk h' b cs := by
  obtain ⟨t, e⟩ := k
  exact ⟨t, hl _ _ e⟩

theorem Blk.known {h : Hp} {b : Nat} {cs : List Value} (k : Blk h b cs) : h b ≠ none := by
  obtain ⟨t, e⟩ := k
  rw [e]; simp

/-- A place in a block. -/
def at_ (b off : Nat) : Addr := ⟨b, off, none⟩

theorem Blk.ldIs {h : Hp} {b : Nat} {cs : List Value} (k : Blk h b cs) {off n : Nat} {vs : List Value} (e : (cs.drop off).take n = vs) : LdIs h ⟨b, off, none⟩ vs := by
  obtain ⟨t, hb⟩ := k
  intro i v hv
  rw [box_add, hcell_block0 hb]
  rw [← e, List.getElem?_take] at hv
  split at hv
  · rw [List.getElem?_drop] at hv
    exact hv
  · cases hv

theorem Blk.stOk {h : Hp} {b : Nat} {cs : List Value} (k : Blk h b cs) {off : Nat} : ∀ n, off + n ≤ cs.length → StOk h ⟨b, off, none⟩ n
  | 0, _ => trivial
  | n + 1, hn => by
    obtain ⟨t, hb⟩ := k
    refine ⟨Blk.stOk ⟨t, hb⟩ n (by omega), ⟨cs[off + n]'(by omega), ?_⟩, ?_⟩
    · rw [box_add, hcell_block0 hb]
      simp
    · rw [box_add]
      unfold hfroz
      simp [hb]

/-- Cells are laid into a block. -/
theorem Blk.put {h : Hp} {b : Nat} {cs new : List Value} (k : Blk h b cs) {off : Nat} (hl : off + new.length ≤ cs.length) :
    Blk (putL h ⟨b, off, none⟩ new 0) b (cs.take off ++ new ++ cs.drop (off + new.length)) ∧ ∀ b', b' ≠ b → (putL h ⟨b, off, none⟩ new 0) b' = h b' := by
  obtain ⟨t, hb⟩ := k
  obtain ⟨p1, p2⟩ := put_cells b t new h 0 off cs (by simpa using hl) hb
  rw [Nat.add_zero, layL_eq _ _ _ hl] at p1
  exact ⟨⟨t, p1⟩, p2⟩

theorem Mv.of_other {h h' : Hp} {b : Nat} (ho : ∀ b', b' ≠ b → h' b' = h b') : Mv [b] h [b] h' :=
  ⟨fun i o e hn => by rw [ho i fun e' => hn (by rw [e']; exact List.mem_singleton.2 rfl)]; exact e, fun i hi => .inl hi⟩

theorem stW_blk {h : Hp} {b : Nat} {cs new : List Value} {off : Nat} {K : Hp → Prop} (k : Blk h b cs) (hl : off + new.length ≤ cs.length)
    (hk : ∀ h', Mv [b] h [b] h' → Blk h' b (cs.take off ++ new ++ cs.drop (off + new.length)) → K h') : StW h ⟨b, off, none⟩ new K := by
  obtain ⟨p1, p2⟩ := k.put hl
  exact ⟨k.stOk _ hl, hk _ (Mv.of_other p2) p1⟩

section
variable {α : Type} {h : Hp} {sz : Nat} {enc : α → List Value} {l : Sl} {xs : List α}

/-- A slice in a block of its own: 'F' has it, if there is one. -/
def OwnF (h : Hp) (sz : Nat) (enc : α → List Value) (l : Sl) (xs : List α) (F : List Nat) : Prop :=
  l.len = xs.length ∧ l.len ≤ l.cap ∧ ((l.base = none ∧ l.cap = 0 ∧ F = []) ∨
    ∃ (b : Nat) (cs : List Value), l.base = some ⟨b, 0, none⟩ ∧ F = [b] ∧ Blk h b cs ∧ cs.length = l.cap * sz ∧ cs.take (l.len * sz) = xs.flatMap enc)

theorem OwnF.own {F : List Nat} {h0 : Hp} (o : OwnF h sz enc l xs F) (hf : ∀ b ∈ F, h0 b = none) : Own h0 h sz enc l xs := by
  obtain ⟨h1, h2, h3⟩ := o
  refine ⟨h1, h2, ?_⟩
  rcases h3 with ⟨e1, e2, _⟩ | ⟨b, cs, e1, rfl, ⟨t, e3⟩, e4, e5⟩
  · exact .inl ⟨e1, e2⟩
  · exact .inr ⟨b, cs, t, e1, e3, e4, e5, hf b (List.mem_singleton.2 rfl)⟩

theorem OwnF.rw {F : List Nat} (o : OwnF h sz enc l xs F) (henc : ∀ x, (enc x).length = sz) : Rw h sz enc l xs := (o.own (h0 := fun _ => none) fun _ _ => rfl).rw henc

theorem Own.ownF {h0 : Hp} (o : Own h0 h sz enc l xs) : ∃ F, OwnF h sz enc l xs F ∧ ∀ b ∈ F, h0 b = none := by
  obtain ⟨h1, h2, h3⟩ := o
  rcases h3 with ⟨e1, e2⟩ | ⟨b, cs, t, e1, e3, e4, e5, e6⟩
  · exact ⟨[], ⟨h1, h2, .inl ⟨e1, e2, rfl⟩⟩, fun b hb => by cases hb⟩
  · exact ⟨[b], ⟨h1, h2, .inr ⟨b, cs, e1, rfl, ⟨t, e3⟩, e4, e5⟩⟩, fun b' hb => by rw [List.mem_singleton.1 hb]; exact e6⟩

theorem OwnF.known {F : List Nat} (o : OwnF h sz enc l xs F) : ∀ b ∈ F, h b ≠ none := by
  obtain ⟨_, _, h3⟩ := o
  rcases h3 with ⟨_, _, rfl⟩ | ⟨b, cs, _, rfl, e3, _, _⟩
  · intro b hb; cases hb
  · intro b' hb; rw [List.mem_singleton.1 hb]; exact e3.known

theorem OwnF.same {F : List Nat} {h' : Hp} (o : OwnF h sz enc l xs F) (hs : ∀ b ∈ F, h' b = h b) : OwnF h' sz enc l xs F := by
  obtain ⟨h1, h2, h3⟩ := o
  refine ⟨h1, h2, h3.imp id ?_⟩
  rintro ⟨b, cs, e1, rfl, ⟨t, e3⟩, e4⟩
  exact ⟨b, cs, e1, rfl, ⟨t, by rw [hs b (List.mem_singleton.2 rfl)]; exact e3⟩, e4⟩

theorem OwnF.mv {F G G' : List Nat} {h' : Hp} (o : OwnF h sz enc l xs F) (a : Mv G h G' h') (hd : ∀ b ∈ F, b ∉ G) : OwnF h' sz enc l xs F := by
  obtain ⟨h1, h2, h3⟩ := o
  refine ⟨h1, h2, h3.imp id ?_⟩
  rintro ⟨b, cs, e1, rfl, e3, e4⟩
  exact ⟨b, cs, e1, rfl, e3.mv a (hd b (List.mem_singleton.2 rfl)), e4⟩

theorem newF {cs : List Value} {K : Addr → Hp → Prop} (hc : cs = xs.flatMap enc) (henc : ∀ x, (enc x).length = sz)
    (hk : ∀ b h', h b = none → h ≤ h' → Mv [] h [b] h' → OwnF h' sz enc ⟨some ⟨b, 0, none⟩, xs.length, xs.length⟩ xs [b] → K ⟨b, 0, none⟩ h') : NewW cs K h := by
  intro b t hb
  refine hk b _ hb (set_new hb) (Mv.new hb) ⟨rfl, Nat.le_refl _, .inr ⟨b, cs, rfl, rfl, ⟨t, set_self⟩, ?_, ?_⟩⟩
  · rw [hc, flat_len henc]
  · have : (xs.length * sz) = (xs.flatMap enc).length := (flat_len henc xs).symm
    show List.take (xs.length * sz) cs = _
    rw [this, hc, List.take_length]

/-- Append. -/
theorem appF {F : List Nat} {zero : List Value} {bytes : Nat} {x : Sl} {ys : List α} {K : Sl → Hp → Prop} (o : OwnF h sz enc l xs F) (r : Rw h sz enc x ys) (henc : ∀ x, (enc x).length = sz) (hok : ∀ x, okCells (enc x) = true)
    (hz : zero.length = sz) (hb : xs.length + ys.length ≤ 140737488355328 ∧ (xs.length + ys.length) * bytes ≤ 140737488355328)
    (hk : ∀ l' h' F', OwnF h' sz enc l' (xs ++ ys) F' → Mv F h F' h' → K l' h') : AppendW sz bytes zero l x K h := by
  have hrw := o.rw henc
  obtain ⟨h1, h2, h3⟩ := o
  obtain ⟨hx1, hx2⟩ := r
  refine ⟨ys.flatMap enc, by rw [hx1]; exact hx2, xs.flatMap enc, by rw [h1]; exact hrw.2, by rw [h1, hx1]; exact hb, flat_ok hok ys, fun hcap => ?_, fun hcap c b t hc hbn => ?_⟩
  · rcases h3 with ⟨e, ec, rfl⟩ | ⟨b, cs, e, rfl, hbk, hl, ht⟩
    · have e1 : ys.length = 0 := by omega
      have e2 : ys = [] := List.length_eq_zero_iff.1 e1
      subst e2
      refine ⟨fun a ha => (by rw [e] at ha; cases ha), ?_⟩
      have e3 : putO h l.base (l.len * sz) (([] : List α).flatMap enc) = h := by rw [e]; rfl
      rw [e3, hx1]
      exact hk _ h [] ⟨by simp [h1], by simpa using h2, .inl ⟨e, ec, rfl⟩⟩ (Mv.refl _ _)
    · have hle : l.len * sz + (ys.flatMap enc).length ≤ cs.length := by
        rw [hl, flat_len henc, ← Nat.add_mul]
        exact Nat.mul_le_mul_right sz (by omega)
      obtain ⟨p1, p2⟩ := hbk.put hle
      refine ⟨fun a ha => ?_, ?_⟩
      · rw [e] at ha; cases ha
        rw [box_add, Nat.zero_add]
        refine hbk.stOk _ ?_
        rw [hx1, ← flat_len henc ys]
        exact hle
      · have e3 : putO h l.base (l.len * sz) (ys.flatMap enc) = putL h ⟨b, l.len * sz, none⟩ (ys.flatMap enc) 0 := by
          rw [e]
          simp only [putO, box_add, Nat.zero_add]
        rw [e3]
        refine hk _ _ [b] ⟨by simp [h1, hx1], hcap, .inr ⟨b, _, e, rfl, p1, ?_, ?_⟩⟩ (Mv.of_other p2)
        · rw [← hl]
          simp only [List.length_append, List.length_take, List.length_drop]
          omega
        · have e4 : (l.len + x.len) * sz = (cs.take (l.len * sz) ++ ys.flatMap enc).length := by
            rw [List.length_append, ht, flat_len henc, flat_len henc, h1, hx1, Nat.add_mul]
          show List.take ((l.len + x.len) * sz) _ = _
          rw [e4, List.take_left, ht, List.flatMap_append]
  · have hn : Mv F h [b] (h.set b (.cells (xs.flatMap enc ++ ys.flatMap enc ++ zerosL zero (c - (l.len + x.len))).toArray t (0, 0))) :=
      (Mv.new hbn).sub (fun b hb => by cases hb) fun b hb => .inl hb
    refine hk _ _ [b] ⟨by simp [h1, hx1], hc, .inr ⟨b, xs.flatMap enc ++ ys.flatMap enc ++ zerosL zero (c - (l.len + x.len)), rfl, rfl, ⟨t, set_self⟩, ?_, ?_⟩⟩ hn
    · rw [List.length_append, List.length_append, flat_len henc, flat_len henc, zerosL_len, hz, ← Nat.add_mul, ← Nat.add_mul]
      show _ = c * sz
      congr 1
      omega
    · have e4 : (l.len + x.len) * sz = (xs.flatMap enc ++ ys.flatMap enc).length := by
        rw [List.length_append, flat_len henc, flat_len henc, h1, hx1, Nat.add_mul]
      show List.take ((l.len + x.len) * sz) _ = _
      rw [e4, List.take_left, List.flatMap_append]

end
end Lf

/-
  A table of whatever labels there are.
-/
namespace Lf
open Go Go.Proofs

/-- What is wrong behind a label, and where. -/
def mayR : Int → List Int → Int → Int × Int
  | _, [], _ => (0, 0)
  | p, x :: r, i => if x = p then (8, i) else if x < p then (7, i) else mayR x r (i + 1)

/-- What is wrong with labels, and where. -/
def mayP : List Int → Int × Int
  | [] => (1, 0)
  | x :: r => if 8 < r.length + 1 then (3, 8) else mayR x r 1

theorem mayR_zero : ∀ {r : List Int} {p i : Int}, (mayR p r i).1 = 0 ↔ (p :: r).Pairwise (· < ·)
  | [], p, i => by simp [mayR]
  | x :: r, p, i => by
    simp only [mayR]
    by_cases h1 : x = p
    · rw [if_pos h1, List.pairwise_cons]
      refine ⟨fun e => (by cases e), fun h => ?_⟩
      have := h.1 x (List.mem_cons_self ..)
      omega
    · rw [if_neg h1]
      by_cases h2 : x < p
      · rw [if_pos h2, List.pairwise_cons]
        refine ⟨fun e => (by cases e), fun h => ?_⟩
        have := h.1 x (List.mem_cons_self ..)
        omega
      · rw [if_neg h2, mayR_zero, List.pairwise_cons (a := p)]
        refine ⟨fun h => ⟨fun y hy => ?_, h⟩, fun h => h.2⟩
        rcases List.mem_cons.1 hy with rfl | hy
        · omega
        · have := (List.pairwise_cons.1 h).1 y hy
          omega

theorem mayP_zero {xs : List Int} : (mayP xs).1 = 0 ↔ xs ≠ [] ∧ xs.length ≤ 8 ∧ xs.Pairwise (· < ·) := by
  cases xs with
  | nil => simp [mayP]
  | cons x r =>
    simp only [mayP, List.length_cons]
    by_cases h : 8 < r.length + 1
    · rw [if_pos h]
      refine ⟨fun e => (by cases e), fun e => ?_⟩
      omega
    · rw [if_neg h, mayR_zero]
      exact ⟨fun e => ⟨by simp, by omega, e⟩, fun e => e.2.2⟩

theorem mayR_place0 : ∀ {r : List Int} {p i : Int}, (mayR p r i).1 = 0 → (mayR p r i).2 = 0
  | [], p, i, _ => rfl
  | x :: r, p, i, h => by
    simp only [mayR] at h ⊢
    by_cases h1 : x = p
    · rw [if_pos h1] at h; cases h
    · rw [if_neg h1] at h ⊢
      by_cases h2 : x < p
      · rw [if_pos h2] at h; cases h
      · rw [if_neg h2] at h ⊢
        exact mayR_place0 h

theorem mayP_place0 {xs : List Int} (h : (mayP xs).1 = 0) : (mayP xs).2 = 0 := by
  cases xs with
  | nil => rfl
  | cons x r =>
    simp only [mayP] at h ⊢
    split at h
    · cases h
    · rename_i h1
      rw [if_neg h1]
      exact mayR_place0 h

theorem mayG_ok {P : Program} {l : Sl} {xs : List Int} {Q : Int → Int → Hp → Prop} {h : Hp} (r : Us h l xs) (hq : Q (mayP xs).1 (mayP xs).2 h) : table_May_w P l Q h := by
  unfold table_May_w
  have hlen := r.1
  cases hxs : xs with
  | nil =>
    subst hxs
    rw [if_pos (by simp [hlen])]
    exact hq
  | cons x0 r0 =>
    subst hxs
    simp only [List.length_cons] at hlen
    rw [if_neg (show ¬ (((l.len : Int) == 0) = true) by simp; omega)]
    by_cases h8 : (l.len : Int) > 8
    · rw [if_pos (decide_eq_true h8)]
      have : mayP (x0 :: r0) = (3, 8) := by simp only [mayP]; rw [if_pos (by omega)]
      rw [this] at hq
      exact hq
    rw [if_neg fun hh => h8 (of_decide_eq_true hh)]
    have hm : mayP (x0 :: r0) = mayR x0 r0 1 := by simp only [mayP]; rw [if_neg (by omega)]
    rw [hm] at hq
    refine LoopW1.intro (fun i k => k = h ∧ 1 ≤ i ∧ i ≤ ((r0.length : Int) + 1) ∧ ∃ p, (x0 :: r0)[(i - 1).toNat]? = some p ∧ mayR p ((x0 :: r0).drop i.toNat) i = mayR x0 r0 1) (fun i _ => (r0.length + 1 - i).toNat)
      ⟨rfl, by omega, by omega, x0, rfl, rfl⟩ ?_
    rintro i k ⟨rfl, hi1, hi2, p, hp, hmr⟩
    split
    · rename_i e3
      have e3 : i < (l.len : Int) := by simpa using e3
      have hll : ((x0 :: r0).length : Int) = (r0.length : Int) + 1 := by simp
      rw [wrap64 (n := i - 1) (by omega) (by omega)]
      refine r.get (fun _ => rfl) (by omega) (by omega) (by omega) fun (x : Int) hx => ?_
      refine r.get (fun _ => rfl) (by omega) (by omega) (by omega) fun (y : Int) hy => ?_
      rw [hp] at hy; cases hy
      have hd : (x0 :: r0).drop i.toNat = x :: (x0 :: r0).drop (i.toNat + 1) := by
        obtain ⟨h3, h4⟩ := List.getElem?_eq_some_iff.1 hx
        rw [List.drop_eq_getElem_cons h3, h4]
      rw [hd] at hmr
      simp only [mayR] at hmr
      by_cases hxp : x = p
      · rw [if_pos (by simpa using hxp)]
        rw [if_pos hxp] at hmr
        rw [← hmr] at hq
        exact hq
      rw [if_neg (by simpa using hxp)]
      rw [if_neg hxp] at hmr
      refine r.get (fun _ => rfl) (by omega) (by omega) (by omega) fun (x' : Int) hx' => ?_
      rw [hx] at hx'; cases hx'
      refine r.get (fun _ => rfl) (by omega) (by omega) (by omega) fun (y' : Int) hy' => ?_
      rw [hp] at hy'; cases hy'
      by_cases hlt : x < p
      · rw [if_pos (decide_eq_true hlt)]
        rw [if_pos hlt] at hmr
        rw [← hmr] at hq
        exact hq
      rw [if_neg fun hh => hlt (of_decide_eq_true hh)]
      rw [if_neg hlt] at hmr
      rw [wrap64 (by omega) (by omega)]
      have e1 : (i + 1).toNat = i.toNat + 1 := by omega
      have e2 : (i + 1 - 1).toNat = i.toNat := by omega
      exact ⟨⟨rfl, by omega, by omega, x, by rw [e2]; exact hx, by rw [e1]; exact hmr⟩, by omega⟩
    · rename_i e3
      have e3 : ¬ i < (l.len : Int) := by simpa using e3
      rw [List.drop_eq_nil_of_le (by simp; omega)] at hmr
      rw [← hmr] at hq
      exact hq

theorem refMay_ok {P : Program} {l : Sl} {xs : List Int} {Q : Int → Int → Hp → Prop} {h : Hp} (r : Us h l xs) (hq : Q (mayP xs).1 (mayP xs).2 h) : firebreakref02_May_w P l Q h := mayG_ok (P := P) r hq

theorem newG_ok {l : Sl} {ls : List Int} {Q : Option Addr → Int → Int → Hp → Prop} {h : Hp} (r : Us h l ls) (h0 : (mayP ls).1 ≠ 0 → Q none (mayP ls).1 (mayP ls).2 h)
    (h1 : (mayP ls).1 = 0 → ∀ p h', h ≤ h' → Tab h' p ls → Q (some p) 0 0 h') : table_New_w Try.prog l Q h := by
  by_cases hm : (mayP ls).1 = 0
  · obtain ⟨hne, hl, hasc⟩ := mayP_zero.1 hm
    exact new_ok r hl hasc (fun e => absurd e hne) fun _ => h1 hm
  · unfold table_New_w
    refine table_May_call (mayG_ok r ?_)
    rw [if_pos (by simpa using hm)]
    exact h0 hm

theorem sameLabels_ok {a b : Sl} {xs : List Int} {Q : Bool → Hp → Prop} {h : Hp} (ra : Us h a xs) (rb : Us h b xs) (hl : xs.length ≤ 140737488355328) (hq : Q true h) : firebreakref02_SameLabels_w Try.prog a b Q h := by
  unfold firebreakref02_SameLabels_w
  have h1 := ra.1
  have h2 := rb.1
  rw [if_neg (show ¬ (((a.len : Int) != (b.len : Int)) = true) by simp; omega)]
  refine LoopW1.intro (fun i k => k = h ∧ 0 ≤ i ∧ i ≤ (xs.length : Int)) (fun i _ => (xs.length - i).toNat) ⟨rfl, by omega, by omega⟩ ?_
  rintro i k ⟨rfl, hi0, hi1⟩
  split
  · rename_i e
    have e : i < (a.len : Int) := by simpa using e
    refine Rs.get ra (fun _ => rfl) (by omega) hi0 (by omega) fun (x : Int) hx => ?_
    refine Rs.get rb (fun _ => rfl) (by omega) hi0 (by omega) fun (y : Int) hy => ?_
    rw [hx] at hy; cases hy
    rw [if_neg (show ¬ ((x != x) = true) by simp), wrap64 (by omega) (by omega)]
    exact ⟨⟨rfl, by omega, by omega⟩, by omega⟩
  · exact hq

theorem short_ok {P : Program} {l : Sl} {xs : List Int} {Q : Sl → Hp → Prop} {h : Hp} (r : Us h l xs) (cl : l.len ≤ l.cap)
    (hq : ∀ o : Sl, Us h o (xs.take 1048576) → o.len ≤ o.cap → o.len ≤ 1048576 → Q o h) : firebreaklaw02_short_w P l Q h := by
  unfold firebreaklaw02_short_w
  have hll := r.1
  have m1 := @min2_le (l.len : Int) 1048576
  refine ⟨by omega, letW ?_⟩
  have e : xs.take 1048576 = xs.take (min2I (l.len : Int) 1048576).toNat := by
    rcases m1.2.2 with e | e
    · rw [List.take_of_length_le (by omega), List.take_of_length_le (by omega)]
    · rw [e]; rfl
  refine hq _ ?_ (Nat.le_refl _) (by show (_ : Nat) - 0 ≤ _; omega)
  rw [e]
  exact Rw.head r (fun _ => rfl) (by omega) (by omega) (by omega)

theorem has_ok2 {P : Program} {l : Sl} {xs : List Int} {n : Int} {Q : Bool → Hp → Prop} {h : Hp} (r : Is h l xs) (hl : xs.length ≤ 1000000) (hq : Q (xs.contains n) h) : firebreaklaw02_has_w P l n Q h := by
  unfold firebreaklaw02_has_w
  have h1 := r.1
  refine LoopW1.intro (fun i k => k = h ∧ 0 ≤ i ∧ i ≤ (xs.length : Int) ∧ (xs.drop i.toNat).contains n = xs.contains n) (fun i _ => (xs.length - i).toNat) ⟨rfl, by omega, by omega, rfl⟩ ?_
  rintro i k ⟨rfl, hi0, hi1, hc⟩
  split
  · rename_i e
    have e : i < (l.len : Int) := by simpa using e
    refine Rs.get r (fun _ => rfl) (by omega) hi0 (by omega) fun (x : Int) hx => ?_
    have hd : xs.drop i.toNat = x :: xs.drop (i.toNat + 1) := by
      obtain ⟨h3, h4⟩ := List.getElem?_eq_some_iff.1 hx
      rw [List.drop_eq_getElem_cons h3, h4]
    rw [hd, List.contains_cons] at hc
    by_cases hxn : x = n
    · rw [if_pos (by simpa using hxn)]
      have : xs.contains n = true := by rw [← hc]; simp [hxn]
      rw [this] at hq
      exact hq
    · rw [if_neg (by simpa using hxn), wrap64 (by omega) (by omega)]
      have e1 : (i + 1).toNat = i.toNat + 1 := by omega
      have e2 : (n == x) = false := by simpa using fun e => hxn e.symm
      rw [e2, Bool.false_or] at hc
      exact ⟨⟨rfl, by omega, by omega, by rw [e1]; exact hc⟩, by omega⟩
  · rename_i e
    have e : ¬ i < (l.len : Int) := by simpa using e
    rw [List.drop_eq_nil_of_le (by omega)] at hc
    have : xs.contains n = false := by rw [← hc]; rfl
    rw [this] at hq
    exact hq

end Lf

/-
  Operations of the library's own: cleared cells, slices that do not meet, fields of elements.
-/
namespace Lf
open Go

section
variable {P : Program} {h : Hp}

theorem semW_bind' {α β : Type} (s : Sem α) (f : α → Sem β) {K : β → Hp → Prop} : semW P (s >>= f) K h ↔ semW P s (fun a h => semW P (f a) K h) h := semW_bind s f

theorem semW_pure' {α : Type} (a : α) {K : α → Hp → Prop} : semW P (pure a) K h ↔ K a h := Iff.rfl

theorem semW_size {t : Nat} {i : TypeInfo} (hi : P.info? t = some i) {K : Nat → Hp → Prop} (hk : K i.size h) : semW P (sizeOf t) K h := by
  show semW P (Sem.bind (match P.info? t with
    | some d => Sem.pure d
    | none => _) _) K h
  rw [hi]
  exact hk

theorem semW_frozen {a : Addr} {o : Obj} (e : h a.block = some o) {K : Bool → Hp → Prop} (hk : K (hfroz h a) h) : semW P (frozen a) K h := ⟨⟨o, e⟩, hk⟩

theorem semW_shape {r : Nat} {o : Obj} (e : h r = some o) {K : Option (TypeId × Nat) → Hp → Prop} (hk : K (shapeOf o) h) : semW P (shape r) K h := ⟨o, e, hk⟩

theorem blk_froz {b : Nat} {cs : List Value} (k : Blk h b cs) (off : Nat) : hfroz h ⟨b, off, none⟩ = false := by
  obtain ⟨t, e⟩ := k
  unfold hfroz
  simp [e]

theorem semW_noView {b off : Nat} {cs : List Value} (k : Blk h b cs) {K : Unit → Hp → Prop} (hk : K () h) : semW P (noView ⟨b, off, none⟩) K h := by
  obtain ⟨t, e⟩ := k
  unfold noView viewAt
  refine (semW_bind' _ _).2 ((semW_bind' _ _).2 (semW_shape (r := b) e ?_))
  exact hk

theorem semW_stringish {b off : Nat} {cs : List Value} (k : Blk h b cs) {K : Bool → Hp → Prop} (hk : K false h) : semW P (stringish ⟨b, off, none⟩) K h := by
  have k0 := k
  obtain ⟨t, e⟩ := k
  unfold stringish
  refine (semW_bind' _ _).2 (semW_frozen (a := ⟨b, off, none⟩) e ?_)
  rw [blk_froz k0]
  refine (semW_bind' _ _).2 (semW_shape (r := b) e ?_)
  refine semW_frozen (a := ⟨b, _, none⟩) e ?_
  rw [blk_froz k0]
  exact hk

/-- Two slices in two blocks of plain memory. -/
theorem overlaps_apart {tS tR e : Nat} {i : TypeInfo} {a b ao bo la ca lb cb : Nat} {ca' cb' : List Value} {K : Bool → Hp → Prop} (ht : P.underlying tS = some (.slice e)) (hi : P.info? e = some i) (ka : Blk h a ca') (kb : Blk h b cb') (hne : a ≠ b)
    (hk : K false h) : SemE P (Extern.SlicesOverlaps.overlaps #[tS, tS] #[tR] #[.slice (some ⟨a, ao, none⟩) la ca, .slice (some ⟨b, bo, none⟩) lb cb]) shBool K h := by
  have hb1 : ((⟨a, ao, none⟩ : Addr).block != (⟨b, bo, none⟩ : Addr).block) = true := by simpa using hne
  have hb2 : ((⟨a, ao, none⟩ : Addr).block == (⟨b, bo, none⟩ : Addr).block) = false := by simpa using hne
  obtain ⟨ta, ea⟩ := id ka
  obtain ⟨tb, eb⟩ := id kb
  unfold SemE
  show semW P (α := Value) (underlying tS >>= fun d => _) _ h
  refine (semW_bind' _ _).2 (semW_und ht ?_)
  refine (semW_bind' _ _).2 (semW_size hi ?_)
  dsimp only
  by_cases h0 : la = 0 ∨ lb = 0 ∨ i.size = 0
  · rw [if_pos h0]
    exact ⟨false, rfl, hk⟩
  · rw [if_neg h0]
    refine (semW_bind' _ _).2 (semW_frozen (a := ⟨a, ao, none⟩) ea ?_)
    refine (semW_bind' _ _).2 (semW_frozen (a := ⟨b, bo, none⟩) eb ?_)
    rw [hb1, blk_froz ka]
    simp only [Bool.true_and, Bool.false_and, Bool.false_eq_true, if_false, if_true]
    refine (semW_bind' _ _).2 (semW_noView ka ?_)
    refine (semW_bind' _ _).2 (semW_noView kb ?_)
    refine (semW_bind' _ _).2 ?_
    unfold mayBeOne
    refine (semW_bind' _ _).2 (semW_stringish ka ?_)
    refine (semW_bind' _ _).2 (semW_stringish kb ?_)
    refine (semW_bind' _ _).2 ((semW_bind' _ _).2 (semW_shape (r := a) ea ?_))
    refine (semW_bind' _ _).2 ((semW_bind' _ _).2 (semW_shape (r := b) eb ?_))
    simp only [Bool.false_and, Bool.or_false]
    refine ⟨false, ?_, hk⟩
    rw [hb2]
    rfl

theorem semW_storeCells {a : Addr} : ∀ (vs : List Value) (i : Nat) {h : Hp} {K : Unit → Hp → Prop}, okCells vs = true → (∀ j, j < vs.length → (∃ v, hcell h (a.add (i + j)) = some v) ∧ hfroz h (a.add (i + j)) = false) →
    K () (putL h a vs i) → semW P (storeCells a vs i) K h
  | [], i, h, K, _, _, hk => hk
  | v :: vs, i, h, K, hok, hst, hk => by
    obtain ⟨h1, h2⟩ := hst 0 (by simp)
    rw [Nat.add_zero] at h1 h2
    have hok' : okCells vs = true := by cases v <;> first | (exact hok) | (cases hok)
    have step : semW P (storeCells a vs (i + 1)) K (h.put (a.add i) v) := by
      refine semW_storeCells vs (i + 1) hok' (fun j hj => ?_) hk
      obtain ⟨⟨u, h3⟩, h4⟩ := hst (j + 1) (by simpa using hj)
      have e : i + (j + 1) = i + 1 + j := by omega
      rw [e] at h3 h4
      exact ⟨hcell_put ⟨u, h3⟩, (by rw [hfroz_put]; exact h4)⟩
    show semW P (Sem.store Mode.plain (a.add i) v (storeCells a vs (i + 1))) K h
    cases v <;> first | (exact ⟨h1, h2, step⟩) | (cases hok)

/-- Some cells of a block are set to zero. -/
theorem clear_blk {t e b off n c : Nat} {z : Value} {cs : List Value} {K : Hp → Prop} (ht : P.underlying t = some (.slice e)) (hz : ∀ {K : Value → Hp → Prop} {h : Hp}, K z h → semW P (zeroValue e) K h) (hok : ∀ n, okCells (zerosL (cellsL z) n) = true) (kb : Blk h b cs)
    (hl : off + n * (cellsL z).length ≤ cs.length)
    (hk : ∀ h', Mv [b] h [b] h' → Blk h' b (cs.take off ++ zerosL (cellsL z) n ++ cs.drop (off + n * (cellsL z).length)) → K h') :
    SemE0 P (Builtin.clear_ #[t] 0 #[.slice (some ⟨b, off, none⟩) n c]) shUnit K h := by
  unfold SemE0 SemE
  show semW P (α := Value) (underlying t >>= fun d => _) _ h
  refine (semW_bind' _ _).2 (semW_und ht ?_)
  cases n with
  | zero =>
    refine ⟨(), rfl, hk h (Mv.refl _ _) ?_⟩
    simp [zerosL]
    exact kb
  | succ n =>
    refine (semW_bind' _ _).2 ?_
    refine hz ?_
    have hzc : (Builtin.zeroCells z.cells (n + 1)).toList = zerosL (cellsL z) (n + 1) := by rw [zeroCells_eq, cells_list]
    have hlen : (zerosL (cellsL z) (n + 1)).length = (n + 1) * (cellsL z).length := zerosL_len _ _
    obtain ⟨p1, p2⟩ := kb.put (off := off) (new := zerosL (cellsL z) (n + 1)) (by rw [hlen]; exact hl)
    have hst := kb.stOk (off := off) (zerosL (cellsL z) (n + 1)).length (by rw [hlen]; exact hl)
    refine (semW_bind' _ _).2 ?_
    rw [hzc]
    refine semW_storeCells _ 0 (hok _) (fun j hj => ?_) ⟨(), rfl, hk _ (Mv.of_other p2) (by rw [hlen] at p1; exact p1)⟩
    rw [Nat.zero_add]
    exact stOk_get hst j hj

end
end Lf

/-
  Fields of elements; parts of slices by their places; copies into a block.
-/
namespace Lf
open Go

section
variable {α : Type} {h : Hp} {sz : Nat} {enc : α → List Value} {l : Sl} {xs : List α}

theorem Rw.fld (r : Rw h sz enc l xs) (henc : ∀ x, (enc x).length = sz) (hsz : 0 < sz) {sh : Shape} (g : α → sh.T) {j : Nat} (hg : ∀ x, ((enc x).drop j).take (cellsL (sh.enc (g x))).length = cellsL (sh.enc (g x))) {i : Int} (h0 : 0 ≤ i) (h1 : i < (xs.length : Int))
    {K : sh.T → Prop} (hk : ∀ x, xs[i.toNat]? = some x → K (g x)) : InB l.base l.len i ∧ LdW none sh h ((sat l.base sz i).add j) K := by
  obtain ⟨e1, x, hx, hl⟩ := r.read henc hsz h0 (by rw [r.1]; exact h1)
  refine ⟨e1, g x, fun q v hv => ?_, hk x hx⟩
  rw [add_add]
  refine hl (j + q) v ?_
  rw [← hg x, List.getElem?_take] at hv
  split at hv
  · rw [List.getElem?_drop] at hv; exact hv
  · cases hv

theorem Rw.fldC (r : Rw h sz enc l xs) (henc : ∀ x, (enc x).length = sz) (hsz : 0 < sz) {sh : Shape} (g : α → sh.T) {j : Nat} (hg : ∀ x, ((enc x).drop j).take (cellsL (sh.enc (g x))).length = cellsL (sh.enc (g x))) (x0 : sh.T) {c : Bool} {i : Int} (h0 : c = true → 0 ≤ i ∧ i < (xs.length : Int))
    {K : sh.T → Prop} (hk : ∀ y, (c = true → ∃ x, xs[i.toNat]? = some x ∧ y = g x) → K y) : (c = true → InB l.base l.len i) ∧ LdW (some c) sh h ((sat l.base sz i).add j) K := by
  cases c with
  | false => exact ⟨fun e => (by cases e), x0, fun e => (by cases e), hk x0 fun e => (by cases e)⟩
  | true =>
    obtain ⟨h0, h1⟩ := h0 rfl
    obtain ⟨e1, y, hy, hk'⟩ := r.fld henc hsz g hg h0 h1 (K := fun y => ∃ x, xs[i.toNat]? = some x ∧ y = g x) fun x hx => ⟨x, hx, rfl⟩
    exact ⟨fun _ => e1, y, fun _ => hy, hk y fun _ => hk'⟩

theorem sbase_at {b o a c : Nat} (hne : c ≠ a) : sbase (some ⟨b, o, none⟩) sz a c = some ⟨b, o + a * sz, none⟩ := by
  unfold sbase
  rw [if_neg hne]
  show some ((⟨b, o, none⟩ : Addr).add (a * sz)) = _
  rw [box_add]

theorem Blk.rd {b : Nat} {cs new : List Value} (k : Blk h b cs) {off n : Nat} (hn : new.length = n) (e : (cs.drop off).take n = new) : RdCells h (some ⟨b, off, none⟩) n new := ⟨hn, .inr ⟨_, rfl, k.ldIs e⟩⟩

theorem copyW_blk {b off dl dc n : Nat} {cs new : List Value} {x : Sl} {K : Int → Hp → Prop} (kb : Blk h b cs) (hn : min x.len dl = n) (hr : RdCells h x.base (n * sz) new) (hok : okCells new = true) (hl : off + n * sz ≤ cs.length)
    (hk : ∀ h', Mv [b] h [b] h' → Blk h' b (cs.take off ++ new ++ cs.drop (off + n * sz)) → K (n : Nat) h') : CopyW sz ⟨some ⟨b, off, none⟩, dl, dc⟩ x K h := by
  subst hn
  have hlen : new.length = min x.len dl * sz := hr.1
  refine ⟨new, hr, hok, fun a ha => ?_, ?_⟩
  · cases ha
    exact kb.stOk _ hl
  · obtain ⟨p1, p2⟩ := kb.put (off := off) (new := new) (by rw [hlen]; exact hl)
    have e : putO h (some ⟨b, off, none⟩) 0 new = putL h ⟨b, off, none⟩ new 0 := by simp only [putO, box_add, Nat.add_zero]
    show K _ (putO h (some ⟨b, off, none⟩) 0 new)
    rw [e]
    rw [hlen] at p1
    exact hk _ (Mv.of_other p2) p1

/-- Zero values are appended where there is no room. -/
theorem appZ_new {bytes : Nat} {zero : List Value} {l : Sl} {m : Int} {old : List Value} {K : Sl → Hp → Prop} (hm : 0 ≤ m) (hr : RdCells h l.base (l.len * sz) old) (hb : l.len + m.toNat ≤ 140737488355328 ∧ (l.len + m.toNat) * bytes ≤ 140737488355328)
    (hz : okCells (zerosL zero m.toNat) = true) (hfull : l.cap < l.len + m.toNat) (hk : ∀ b c h', h b = none → l.len + m.toNat ≤ c → h ≤ h' → Mv [] h [b] h' → Blk h' b (old ++ zerosL zero m.toNat ++ zerosL zero (c - (l.len + m.toNat))) → K ⟨some ⟨b, 0, none⟩, l.len + m.toNat, c⟩ h') :
    AppendZW sz bytes zero l m K h :=
  ⟨hm, old, hr, hb, hz, fun h1 => absurd h1 (by omega), fun _ c b t hc hbn => hk b c _ hbn hc (set_new hbn) (Mv.new hbn) ⟨t, set_self⟩⟩

/-- Append in place, of cells that may lie in the same block. -/
theorem app_in {bytes b off ll lc n : Nat} {zero : List Value} {x : Sl} {cs new old : List Value} {K : Sl → Hp → Prop} (kb : Blk h b cs) (hro : RdCells h (some ⟨b, off, none⟩) (ll * sz) old) (hrn : RdCells h x.base (x.len * sz) new) (hn : x.len = n) (hok : okCells new = true)
    (hb : ll + n ≤ 140737488355328 ∧ (ll + n) * bytes ≤ 140737488355328) (hroom : ll + n ≤ lc) (hl : off + ll * sz + n * sz ≤ cs.length)
    (hk : ∀ h', Mv [b] h [b] h' → Blk h' b (cs.take (off + ll * sz) ++ new ++ cs.drop (off + ll * sz + n * sz)) → K ⟨some ⟨b, off, none⟩, ll + n, lc⟩ h') : AppendW sz bytes zero ⟨some ⟨b, off, none⟩, ll, lc⟩ x K h := by
  subst hn
  have hlen : new.length = x.len * sz := hrn.1
  refine ⟨new, hrn, old, hro, hb, hok, fun _ => ⟨fun a ha => ?_, ?_⟩, fun h1 => absurd h1 (by show ¬ lc < ll + x.len; omega)⟩
  · cases ha
    rw [box_add]
    exact kb.stOk _ hl
  · obtain ⟨p1, p2⟩ := kb.put (off := off + ll * sz) (new := new) (by rw [hlen]; exact hl)
    have e : putO h (some ⟨b, off, none⟩) (ll * sz) new = putL h ⟨b, off + ll * sz, none⟩ new 0 := by simp only [putO, box_add]
    show K _ (putO h (some ⟨b, off, none⟩) (ll * sz) new)
    rw [e]
    rw [hlen] at p1
    exact hk _ (Mv.of_other p2) p1

theorem set_split {xs : List α} {i : Nat} (x : α) (hi : i < xs.length) : xs.set i x = xs.take i ++ x :: xs.drop (i + 1) := by
  rw [List.set_eq_take_append_cons_drop, if_pos hi]

/-- An element is written over. -/
theorem OwnF.store {F : List Nat} (o : OwnF h sz enc l xs F) (henc : ∀ x, (enc x).length = sz) {i : Int} (h0 : 0 ≤ i) (h1 : i < (xs.length : Int)) (x : α) {K : Hp → Prop} (hk : ∀ h', OwnF h' sz enc l (xs.set i.toNat x) F → Mv F h F h' → K h') :
    InB l.base l.len i ∧ StW h (sat l.base sz i) (enc x) K := by
  obtain ⟨o1, o2, o3⟩ := o
  rcases o3 with ⟨_, e2, _⟩ | ⟨b, cs, e1, rfl, kb, e4, e5⟩
  · omega
  · refine ⟨⟨by rw [e1]; simp, h0, by omega⟩, ?_⟩
    have hi : i.toNat < xs.length := by omega
    have ha : sat l.base sz i = ⟨b, i.toNat * sz, none⟩ := by unfold sat; rw [e1, Option.getD_some, box_add, Nat.zero_add]
    rw [ha]
    have hmul : i.toNat * sz + sz ≤ l.len * sz := by
      have := Nat.mul_le_mul_right sz (show i.toNat + 1 ≤ l.len by omega)
      rw [Nat.add_mul, Nat.one_mul] at this
      exact this
    have hmul2 : l.len * sz ≤ l.cap * sz := Nat.mul_le_mul_right sz o2
    refine stW_blk kb (by rw [henc, e4]; omega) fun h' m' k' => ?_
    rw [henc] at k'
    refine hk h' ⟨by simp [o1], o2, .inr ⟨b, _, e1, rfl, k', ?_, ?_⟩⟩ m'
    · simp only [List.length_append, List.length_take, List.length_drop, henc, e4]
      omega
    · rw [set_split x hi]
      have t1 : cs.take (i.toNat * sz) = (xs.take i.toNat).flatMap enc := by
        rw [flat_take henc, ← e5, List.take_take]; congr 1; omega
      have t2 : (cs.drop (i.toNat * sz + sz)).take (l.len * sz - (i.toNat * sz + sz)) = (xs.drop (i.toNat + 1)).flatMap enc := by
        rw [flat_drop henc, ← e5, Nat.add_mul, Nat.one_mul, List.drop_take]
      have hl1 : (cs.take (i.toNat * sz) ++ enc x).length = i.toNat * sz + sz := by
        rw [List.length_append, List.length_take, henc, e4]; omega
      rw [List.take_append, hl1, t2, List.take_of_length_le (by rw [hl1]; exact hmul), t1]
      simp

end
end Lf

/-
  The library's Insert and Delete.
-/
namespace Lf
open Go

section
variable {P : Program} {α : Type} {h : Hp} {sz : Nat} {enc : α → List Value}

/-- The text of slices.Insert; 'R' stands for what is done where the values lie in the slice's own room. -/
def insT (P : Program) (sz bytes : Nat) (zero : List Value) (tS tR : Nat) (R : Sl → (Hp → Prop) → Hp → Prop) (s : Sl) (i : Int) (v : Sl) (Q : Sl → Hp → Prop) (h : Hp) : Prop :=
 (((0 : Int) ≤ i ∧ i ≤ ((s.len : Nat) : Int)) ∧ LetW (α := Sl) ⟨(sbase s.base sz (Int.toNat i) s.cap), (s.len - (Int.toNat i)), (s.cap - (Int.toNat i))⟩ fun _ =>
 (if (((v.len : Nat) : Int) == (0 : Int)) = true then
 Q s h
 else
 (if (i == ((s.len : Nat) : Int)) = true then
 AppendW sz bytes zero s v (fun r h1 =>
 Q r h1) h
 else
 (if (decide ((IntKind.wrap .i64 (((s.len : Nat) : Int) + ((v.len : Nat) : Int))) > ((s.cap : Nat) : Int))) = true then
 (((0 : Int) ≤ i ∧ i ≤ ((s.cap : Nat) : Int)) ∧ LetW (α := Sl) ⟨(sbase s.base sz 0 s.cap), ((Int.toNat i) - 0), (s.cap - 0)⟩ fun y1 =>
 AppendZW sz bytes zero y1 (IntKind.wrap .i64 ((IntKind.wrap .i64 (((s.len : Nat) : Int) + ((v.len : Nat) : Int))) - i)) (fun r h1 =>
 (((0 : Int) ≤ i ∧ i ≤ ((r.len : Nat) : Int)) ∧ LetW (α := Sl) ⟨(sbase r.base sz (Int.toNat i) r.cap), (r.len - (Int.toNat i)), (r.cap - (Int.toNat i))⟩ fun y2 =>
 CopyW sz y2 v (fun _ h2 =>
 (((0 : Int) ≤ (IntKind.wrap .i64 (i + ((v.len : Nat) : Int))) ∧ (IntKind.wrap .i64 (i + ((v.len : Nat) : Int))) ≤ ((r.len : Nat) : Int)) ∧ LetW (α := Sl) ⟨(sbase r.base sz (Int.toNat (IntKind.wrap .i64 (i + ((v.len : Nat) : Int)))) r.cap), (r.len - (Int.toNat (IntKind.wrap .i64 (i + ((v.len : Nat) : Int))))), (r.cap - (Int.toNat (IntKind.wrap .i64 (i + ((v.len : Nat) : Int)))))⟩ fun y3 =>
 (((0 : Int) ≤ i ∧ i ≤ ((s.len : Nat) : Int)) ∧ LetW (α := Sl) ⟨(sbase s.base sz (Int.toNat i) s.cap), (s.len - (Int.toNat i)), (s.cap - (Int.toNat i))⟩ fun y4 =>
 CopyW sz y3 y4 (fun _ h3 =>
 Q r h3) h2))) h1)) h)
 else
 (((0 : Int) ≤ (IntKind.wrap .i64 (((s.len : Nat) : Int) + ((v.len : Nat) : Int))) ∧ (IntKind.wrap .i64 (((s.len : Nat) : Int) + ((v.len : Nat) : Int))) ≤ ((s.cap : Nat) : Int)) ∧ LetW (α := Sl) ⟨(sbase s.base sz 0 s.cap), ((Int.toNat (IntKind.wrap .i64 (((s.len : Nat) : Int) + ((v.len : Nat) : Int)))) - 0), (s.cap - 0)⟩ fun y1 =>
 (((0 : Int) ≤ (IntKind.wrap .i64 (i + ((v.len : Nat) : Int))) ∧ (IntKind.wrap .i64 (i + ((v.len : Nat) : Int))) ≤ ((y1.len : Nat) : Int)) ∧ LetW (α := Sl) ⟨(sbase y1.base sz (Int.toNat (IntKind.wrap .i64 (i + ((v.len : Nat) : Int)))) y1.cap), (y1.len - (Int.toNat (IntKind.wrap .i64 (i + ((v.len : Nat) : Int))))), (y1.cap - (Int.toNat (IntKind.wrap .i64 (i + ((v.len : Nat) : Int)))))⟩ fun y2 =>
 SemE P (Extern.SlicesOverlaps.overlaps #[tS, tS] #[tR] #[v.v, y2.v]) shBool (fun r h1 =>
 (if (!r) = true then
 (((0 : Int) ≤ (IntKind.wrap .i64 (i + ((v.len : Nat) : Int))) ∧ (IntKind.wrap .i64 (i + ((v.len : Nat) : Int))) ≤ ((y1.len : Nat) : Int)) ∧ LetW (α := Sl) ⟨(sbase y1.base sz (Int.toNat (IntKind.wrap .i64 (i + ((v.len : Nat) : Int)))) y1.cap), (y1.len - (Int.toNat (IntKind.wrap .i64 (i + ((v.len : Nat) : Int))))), (y1.cap - (Int.toNat (IntKind.wrap .i64 (i + ((v.len : Nat) : Int)))))⟩ fun y3 =>
 (((0 : Int) ≤ i ∧ i ≤ ((y1.len : Nat) : Int)) ∧ LetW (α := Sl) ⟨(sbase y1.base sz (Int.toNat i) y1.cap), (y1.len - (Int.toNat i)), (y1.cap - (Int.toNat i))⟩ fun y4 =>
 CopyW sz y3 y4 (fun _ h2 =>
 (((0 : Int) ≤ i ∧ i ≤ ((y1.len : Nat) : Int)) ∧ LetW (α := Sl) ⟨(sbase y1.base sz (Int.toNat i) y1.cap), (y1.len - (Int.toNat i)), (y1.cap - (Int.toNat i))⟩ fun y5 =>
 CopyW sz y5 v (fun _ h3 =>
 Q y1 h3) h2)) h1))
 else
 (((0 : Int) ≤ ((s.len : Nat) : Int) ∧ ((s.len : Nat) : Int) ≤ ((y1.len : Nat) : Int)) ∧ LetW (α := Sl) ⟨(sbase y1.base sz (Int.toNat ((s.len : Nat) : Int)) y1.cap), (y1.len - (Int.toNat ((s.len : Nat) : Int))), (y1.cap - (Int.toNat ((s.len : Nat) : Int)))⟩ fun y3 =>
 CopyW sz y3 v (fun _ h2 =>
 (((0 : Int) ≤ i ∧ i ≤ ((y1.len : Nat) : Int)) ∧ LetW (α := Sl) ⟨(sbase y1.base sz (Int.toNat i) y1.cap), (y1.len - (Int.toNat i)), (y1.cap - (Int.toNat i))⟩ fun y4 =>
 R y4 (fun h3 => Q y1 h3) h2)) h1))) h))))))

theorem ins_ok {bytes tS tR tE bv : Nat} {i0 : TypeInfo} {zero csv : List Value} {R : Sl → (Hp → Prop) → Hp → Prop} {s v : Sl} {xs : List α} {e : α} {F : List Nat} {i : Nat} {Q : Sl → Hp → Prop}
    (ht : P.underlying tS = some (.slice tE)) (hinfo : P.info? tE = some i0) (henc : ∀ x, (enc x).length = sz) (hsz : 0 < sz) (hok : ∀ x, okCells (enc x) = true) (hz : zero.length = sz) (hzo : ∀ n, okCells (zerosL zero n) = true)
    (o : OwnF h sz enc s xs F) (rv : Rw h sz enc v [e]) (hv : v.base = some ⟨bv, 0, none⟩) (kv : Blk h bv csv) (hne : bv ∉ F) (hi : i ≤ xs.length) (hb : xs.length + 1 ≤ 140737488355328 ∧ (xs.length + 1) * bytes ≤ 140737488355328)
    (hq : ∀ l' h' F', OwnF h' sz enc l' (xs.take i ++ e :: xs.drop i) F' → Mv F h F' h' → Q l' h') : insT P sz bytes zero tS tR R s (i : Int) v Q h := by
  have hs := o.1
  have hsc := o.2.1
  have hvl : v.len = 1 := rv.1
  have w1 : IntKind.wrap .i64 ((s.len : Int) + (v.len : Int)) = (s.len : Int) + 1 := by rw [hvl, wrap64 (by omega) (by omega)]; rfl
  have w2 : IntKind.wrap .i64 ((i : Int) + (v.len : Int)) = ((i + 1 : Nat) : Int) := by rw [hvl, wrap64 (by omega) (by omega)]; omega
  have rvc : RdCells h v.base (1 * sz) (enc e) := by simpa using rv.2
  unfold insT
  rw [w1, w2]
  have it : (i : Int).toNat = i := by omega
  have it1 : ((i + 1 : Nat) : Int).toNat = i + 1 := by omega
  rw [it, it1]
  refine ⟨by omega, letW ?_⟩
  rw [if_neg (show ¬ (((v.len : Int) == 0) = true) by simp; omega)]
  by_cases hil : i = xs.length
  · rw [if_pos (show ((i : Int) == (s.len : Int)) = true by simp; omega)]
    refine appF o rv henc hok hz (by simpa using hb) fun l' h' F' o' m' => ?_
    refine hq l' h' F' ?_ m'
    rw [hil, List.take_length, List.drop_length]
    exact o'
  rw [if_neg (show ¬ (((i : Int) == (s.len : Int)) = true) by simp; omega)]
  have hlt : i < xs.length := by omega
  have hmul : ∀ a b : Nat, a ≤ b → a * sz ≤ b * sz := fun a b hab => Nat.mul_le_mul_right sz hab
  have htk : ((xs.take i).flatMap enc).length = i * sz := by rw [flat_len henc, List.length_take]; congr 1; omega
  have hdr : ((xs.drop i).flatMap enc).length = (xs.length - i) * sz := by rw [flat_len henc, List.length_drop]
  have hsplit : xs.flatMap enc = (xs.take i).flatMap enc ++ (xs.drop i).flatMap enc := by rw [← List.flatMap_append, List.take_append_drop]
  have hwhole : (xs.take i ++ e :: xs.drop i).flatMap enc = (xs.take i).flatMap enc ++ enc e ++ (xs.drop i).flatMap enc := by simp
  have hwl : (xs.take i ++ e :: xs.drop i).length = xs.length + 1 := by simp; omega
  have e1 : (i + 1) * sz = i * sz + sz := by rw [Nat.add_mul, Nat.one_mul]
  have e2 : (xs.length + 1) * sz = i * sz + sz + (xs.length - i) * sz := by
    rw [← e1, ← Nat.add_mul]; congr 1; omega
  have hds := flat_ok hok (xs.drop i)
  -- what the slice's own cells are
  rcases o.2.2 with ⟨ob, oc, _⟩ | ⟨b, cs, ob, rfl, kb, hcl, hct⟩
  · omega
  have hcs : s.cap ≠ 0 := by omega
  rw [ob]
  rw [hs] at hct
  have hcsl : xs.length * sz ≤ cs.length := by rw [hcl]; exact hmul _ _ (by omega)
  have hb0 : sbase (some (⟨b, 0, none⟩ : Addr)) sz 0 s.cap = some ⟨b, 0, none⟩ := by rw [sbase_at (by omega)]; simp
  have hbi : sbase (some (⟨b, 0, none⟩ : Addr)) sz i s.cap = some ⟨b, i * sz, none⟩ := by rw [sbase_at (by omega)]; simp
  have hxi : xs.length * sz = i * sz + (xs.length - i) * sz := by rw [← Nat.add_mul]; congr 1; omega
  have rtk : RdCells h (some ⟨b, 0, none⟩) (i * sz) ((xs.take i).flatMap enc) := kb.rd htk (by
    rw [List.drop_zero]
    have : cs.take (i * sz) = (cs.take (xs.length * sz)).take (i * sz) := by rw [List.take_take]; congr 1; omega
    rw [this, hct, hsplit, ← htk, List.take_left])
  have rdr : RdCells h (some ⟨b, i * sz, none⟩) ((xs.length - i) * sz) ((xs.drop i).flatMap enc) := kb.rd hdr (by
    have : (cs.drop (i * sz)).take ((xs.length - i) * sz) = (cs.take (xs.length * sz)).drop (i * sz) := by rw [List.drop_take]; congr 1; omega
    rw [this, hct, hsplit, ← htk, List.drop_left])
  by_cases hroom : s.cap < xs.length + 1
  · rw [if_pos (show (decide ((s.len : Int) + 1 > (s.cap : Int))) = true by simp; omega)]
    refine ⟨by omega, letW ?_⟩
    rw [hb0]
    have w3 : IntKind.wrap .i64 ((s.len : Int) + 1 - (i : Int)) = ((xs.length + 1 - i : Nat) : Int) := by rw [wrap64 (by omega) (by omega)]; omega
    rw [w3]
    have hm : (((xs.length + 1 - i : Nat) : Int)).toNat = xs.length + 1 - i := by omega
    refine appZ_new (l := ⟨some ⟨b, 0, none⟩, i - 0, s.cap - 0⟩) (by omega) rtk ?_ (hzo _) ?_ fun b2 c h1 hb2 hc l1 m1 k1 => ?_
    · rw [hm]
      show (i - 0) + _ ≤ _ ∧ ((i - 0) + _) * _ ≤ _
      have : (i - 0) + (xs.length + 1 - i) = xs.length + 1 := by omega
      rw [this]
      exact hb
    · rw [hm]
      show s.cap - 0 < (i - 0) + _
      omega
    rw [hm] at hc k1
    have ein : (i - 0) + (xs.length + 1 - i) = xs.length + 1 := by omega
    have hc' : xs.length + 1 ≤ c := by
      have : (i - 0) + (xs.length + 1 - i) ≤ c := hc
      omega
    have k1' : Blk h1 b2 ((xs.take i).flatMap enc ++ zerosL zero (xs.length + 1 - i) ++ zerosL zero (c - (xs.length + 1))) := by
      have : c - ((i - 0) + (xs.length + 1 - i)) = c - (xs.length + 1) := by omega
      rw [← this]
      exact k1
    have hlen : (⟨some ⟨b, 0, none⟩, i - 0, s.cap - 0⟩ : Sl).len + (((xs.length + 1 - i : Nat) : Int)).toNat = xs.length + 1 := by rw [hm]; exact ein
    rw [hlen]
    have hne2 : b2 ≠ b := fun e' => by rw [e'] at hb2; exact kb.known hb2
    have hne3 : b2 ≠ bv := fun e' => by rw [e'] at hb2; exact kv.known hb2
    refine ⟨by show (0 : Int) ≤ i ∧ (i : Int) ≤ ((xs.length + 1 : Nat) : Int); omega, letW ?_⟩
    rw [sbase_at (show c ≠ i by omega), Nat.zero_add]
    have hzl : ∀ n, (zerosL zero n).length = n * sz := fun n => by rw [zerosL_len, hz]
    have hbl : ((xs.take i).flatMap enc ++ zerosL zero (xs.length + 1 - i) ++ zerosL zero (c - (xs.length + 1))).length = c * sz := by
      rw [List.length_append, List.length_append, htk, hzl, hzl, ← Nat.add_mul, ← Nat.add_mul]; congr 1; omega
    have rv1 : RdCells h1 v.base (1 * sz) (enc e) := by simpa using (rv.mono l1).2
    refine copyW_blk (n := 1) k1' (by show min v.len (xs.length + 1 - i) = 1; omega) rv1 (hok e) (by rw [hbl, Nat.one_mul, ← e1]; exact hmul _ _ (by omega)) fun h2 m2 k2 => ?_
    refine ⟨by show (0 : Int) ≤ ((i + 1 : Nat) : Int) ∧ ((i + 1 : Nat) : Int) ≤ ((xs.length + 1 : Nat) : Int); omega, letW ⟨by omega, letW ?_⟩⟩
    rw [sbase_at (show c ≠ i + 1 by omega), Nat.zero_add, hbi]
    have kb2 : Blk h2 b cs := (kb.le l1).mv m2 (by simpa using hne2.symm)
    have rdr2 : RdCells h2 (some ⟨b, i * sz, none⟩) ((xs.length - i) * sz) ((xs.drop i).flatMap enc) := kb2.rd hdr (by
      have : (cs.drop (i * sz)).take ((xs.length - i) * sz) = (cs.take (xs.length * sz)).drop (i * sz) := by rw [List.drop_take]; congr 1; omega
      rw [this, hct, hsplit, ← htk, List.drop_left])
    have k2' := k2
    rw [Nat.one_mul] at k2'
    have cut1 : ((xs.take i).flatMap enc ++ zerosL zero (xs.length + 1 - i) ++ zerosL zero (c - (xs.length + 1))).take (i * sz) = (xs.take i).flatMap enc := by
      rw [List.append_assoc, ← htk, List.take_left]
    rw [cut1] at k2'
    have hrest : (((xs.take i).flatMap enc ++ zerosL zero (xs.length + 1 - i) ++ zerosL zero (c - (xs.length + 1))).drop (i * sz + sz)).length = c * sz - (i * sz + sz) := by rw [List.length_drop, hbl]
    generalize ((xs.take i).flatMap enc ++ zerosL zero (xs.length + 1 - i) ++ zerosL zero (c - (xs.length + 1))).drop (i * sz + sz) = rest at k2' hrest
    have hcc := hmul _ _ hc'
    refine copyW_blk (n := xs.length - i) k2' (by show min (s.len - i) (xs.length + 1 - (i + 1)) = xs.length - i; omega) rdr2 hds (by
      rw [List.length_append, List.length_append, htk, henc, hrest, e1]; omega) fun h3 m3 k3 => ?_
    refine hq _ _ [b2] ⟨hwl.symm, hc', .inr ⟨b2, _, rfl, rfl, k3, ?_, ?_⟩⟩ ?_
    · simp only [List.length_append, List.length_take, List.length_drop, htk, henc, hrest, hdr, e1]
      show _ = c * sz
      omega
    · have e3 : (xs.length + 1) * sz = (((xs.take i).flatMap enc ++ enc e) ++ (xs.drop i).flatMap enc).length := by
        rw [List.length_append, List.length_append, htk, henc, hdr, e2]
      have e4 : ((xs.take i).flatMap enc ++ enc e ++ rest).take ((i + 1) * sz) = (xs.take i).flatMap enc ++ enc e := by
        have : (i + 1) * sz = ((xs.take i).flatMap enc ++ enc e).length := by rw [List.length_append, htk, henc, e1]
        rw [this, List.take_left]
      rw [e4]
      show List.take ((xs.length + 1) * sz) _ = _
      rw [e3, List.take_left, hwhole]
    · have m1' : Mv [b] h [b2] h1 := m1.sub (fun b hb => by cases hb) fun b hb => .inl hb
      exact m1'.trans (m2.trans m3)
  · rw [if_neg (show ¬ (decide ((s.len : Int) + 1 > (s.cap : Int))) = true by simp; omega)]
    refine ⟨by omega, letW ⟨?_, letW ?_⟩⟩
    · show (0 : Int) ≤ ((i + 1 : Nat) : Int) ∧ ((i + 1 : Nat) : Int) ≤ (((((s.len : Int) + 1).toNat - 0 : Nat)) : Int)
      omega
    have hl1 : ((s.len : Int) + 1).toNat - 0 = xs.length + 1 := by omega
    have hcap0 : s.cap - 0 = s.cap := by omega
    rw [hb0, hl1, hcap0]
    have hbi1 : sbase (some (⟨b, 0, none⟩ : Addr)) sz (i + 1) s.cap = some ⟨b, (i + 1) * sz, none⟩ := by rw [sbase_at (by omega)]; simp
    show SemE P (Extern.SlicesOverlaps.overlaps #[tS, tS] #[tR] #[.slice v.base v.len v.cap, .slice (sbase (some (⟨b, 0, none⟩ : Addr)) sz (i + 1) s.cap) (xs.length + 1 - (i + 1)) (s.cap - (i + 1))]) shBool _ h
    rw [hbi1, hv]
    refine overlaps_apart ht hinfo kv kb (fun e' => hne (by rw [e']; exact List.mem_singleton.2 rfl)) ?_
    rw [if_pos (by rfl)]
    refine ⟨by show (0 : Int) ≤ ((i + 1 : Nat) : Int) ∧ ((i + 1 : Nat) : Int) ≤ ((xs.length + 1 : Nat) : Int); omega, letW ⟨by show (0 : Int) ≤ i ∧ (i : Int) ≤ ((xs.length + 1 : Nat) : Int); omega, letW ?_⟩⟩
    have hcap1 : (xs.length + 1) * sz ≤ s.cap * sz := hmul _ _ (by omega)
    have hbi' : sbase (some (⟨b, 0, none⟩ : Addr)) sz i s.cap = some ⟨b, i * sz, none⟩ := hbi
    show CopyW sz ⟨some ⟨b, (i + 1) * sz, none⟩, xs.length + 1 - (i + 1), s.cap - (i + 1)⟩ ⟨sbase (some (⟨b, 0, none⟩ : Addr)) sz i s.cap, xs.length + 1 - i, s.cap - i⟩ _ h
    rw [hbi']
    refine copyW_blk (n := xs.length - i) kb (by show min (xs.length + 1 - i) (xs.length + 1 - (i + 1)) = _; omega) rdr hds (by rw [hcl, e1]; omega) fun h2 m2 k2 => ?_
    refine ⟨by show (0 : Int) ≤ i ∧ (i : Int) ≤ ((xs.length + 1 : Nat) : Int); omega, letW ?_⟩
    have rv2 : RdCells h2 v.base (1 * sz) (enc e) := by
      refine ⟨by rw [henc, Nat.one_mul], ?_⟩
      rcases rvc.2 with e0 | ⟨a, ha, hl⟩
      · exact .inl e0
      · refine .inr ⟨a, ha, fun q u hu => ?_⟩
        have := hl q u hu
        rw [hv] at ha
        cases ha
        rw [box_add] at this ⊢
        obtain ⟨t, ek⟩ := id kv
        obtain ⟨t', ek'⟩ := kv.mv m2 (fun hm => hne hm)
        rw [hcell_block0 ek] at this
        rw [hcell_block0 ek']
        exact this
    have cut1 : (cs.take ((i + 1) * sz) ++ (xs.drop i).flatMap enc ++ cs.drop ((i + 1) * sz + (xs.length - i) * sz)).take (i * sz) = (xs.take i).flatMap enc := by
      rw [List.append_assoc, List.take_append_of_le_length (by rw [List.length_take, hcl]; rw [e1]; omega), List.take_take]
      have : cs.take (min (i * sz) ((i + 1) * sz)) = (cs.take (xs.length * sz)).take (i * sz) := by rw [List.take_take]; congr 1; rw [e1]; omega
      rw [this, hct, hsplit, ← htk, List.take_left]
    have cut2 : (cs.take ((i + 1) * sz) ++ (xs.drop i).flatMap enc ++ cs.drop ((i + 1) * sz + (xs.length - i) * sz)).drop (i * sz + 1 * sz) = (xs.drop i).flatMap enc ++ cs.drop ((i + 1) * sz + (xs.length - i) * sz) := by
      have : i * sz + 1 * sz = (cs.take ((i + 1) * sz)).length := by rw [List.length_take, hcl, e1, Nat.one_mul]; omega
      rw [List.append_assoc, this, List.drop_left]
    refine copyW_blk (n := 1) k2 (by show min v.len (xs.length + 1 - i) = 1; omega) rv2 (hok e) (by
      simp only [List.length_append, List.length_take, List.length_drop, hdr, hcl, e1, Nat.one_mul]
      omega) fun h3 m3 k3 => ?_
    rw [cut1, cut2] at k3
    refine hq _ _ [b] ⟨hwl.symm, by show xs.length + 1 ≤ s.cap; omega, .inr ⟨b, _, rfl, rfl, k3, ?_, ?_⟩⟩ (m2.trans m3)
    · simp only [List.length_append, List.length_drop, htk, henc, hdr, hcl, e1]
      show _ = s.cap * sz
      omega
    · have e3 : (xs.length + 1) * sz = (((xs.take i).flatMap enc ++ enc e) ++ (xs.drop i).flatMap enc).length := by
        rw [List.length_append, List.length_append, htk, henc, hdr, e2]
      show List.take ((xs.length + 1) * sz) _ = _
      rw [e3, ← List.append_assoc, List.take_left, hwhole]

/-- The text of slices.Delete. -/
def delT (P : Program) (sz bytes : Nat) (zero : List Value) (tS : Nat) (s : Sl) (i j : Int) (Q : Sl → Hp → Prop) (h : Hp) : Prop :=
 (((0 : Int) ≤ i ∧ (i ≤ j ∧ (j ≤ ((s.len : Nat) : Int) ∧ ((s.len : Nat) : Int) ≤ ((s.cap : Nat) : Int)))) ∧ LetW (α := Sl) ⟨(sbase s.base sz (Int.toNat i) (Int.toNat ((s.len : Nat) : Int))), ((Int.toNat j) - (Int.toNat i)), ((Int.toNat ((s.len : Nat) : Int)) - (Int.toNat i))⟩ fun _ =>
 (if (i == j) = true then
 Q s h
 else
 (((0 : Int) ≤ i ∧ i ≤ ((s.cap : Nat) : Int)) ∧ LetW (α := Sl) ⟨(sbase s.base sz 0 s.cap), ((Int.toNat i) - 0), (s.cap - 0)⟩ fun y1 =>
 (((0 : Int) ≤ j ∧ j ≤ ((s.len : Nat) : Int)) ∧ LetW (α := Sl) ⟨(sbase s.base sz (Int.toNat j) s.cap), (s.len - (Int.toNat j)), (s.cap - (Int.toNat j))⟩ fun y2 =>
 AppendW sz bytes zero y1 y2 (fun r h1 =>
 (((0 : Int) ≤ ((r.len : Nat) : Int) ∧ (((r.len : Nat) : Int) ≤ ((s.len : Nat) : Int) ∧ ((s.len : Nat) : Int) ≤ ((r.cap : Nat) : Int))) ∧ LetW (α := Sl) ⟨(sbase r.base sz (Int.toNat ((r.len : Nat) : Int)) r.cap), ((Int.toNat ((s.len : Nat) : Int)) - (Int.toNat ((r.len : Nat) : Int))), (r.cap - (Int.toNat ((r.len : Nat) : Int)))⟩ fun y3 =>
 SemE0 P (Builtin.clear_ #[tS] 0 #[y3.v]) shUnit (fun h2 =>
 Q r h2) h1)) h))))

theorem del_ok {bytes tS tE : Nat} {z : Value} {s : Sl} {xs : List α} {F : List Nat} {i j : Nat} {Q : Sl → Hp → Prop}
    (ht : P.underlying tS = some (.slice tE)) (hzv : ∀ {K : Value → Hp → Prop} {h : Hp}, K z h → semW P (zeroValue tE) K h) (henc : ∀ x, (enc x).length = sz) (hok : ∀ x, okCells (enc x) = true) (hz : (cellsL z).length = sz) (hzo : ∀ n, okCells (zerosL (cellsL z) n) = true)
    (o : OwnF h sz enc s xs F) (hij : i < j) (hj : j ≤ xs.length) (hb : xs.length ≤ 140737488355328 ∧ xs.length * bytes ≤ 140737488355328)
    (hq : ∀ l' h', OwnF h' sz enc l' (xs.take i ++ xs.drop j) F → Mv F h F h' → Q l' h') : delT P sz bytes (cellsL z) tS s (i : Int) (j : Int) Q h := by
  have hs := o.1
  have hsc := o.2.1
  unfold delT
  have it : (i : Int).toNat = i := by omega
  have jt : (j : Int).toNat = j := by omega
  have st : (s.len : Int).toNat = xs.length := by omega
  rw [it, jt, st]
  refine ⟨by omega, letW ?_⟩
  rw [if_neg (show ¬ (((i : Int) == (j : Int)) = true) by simp; omega)]
  have hmul : ∀ a b : Nat, a ≤ b → a * sz ≤ b * sz := fun a b hab => Nat.mul_le_mul_right sz hab
  have htk : ((xs.take i).flatMap enc).length = i * sz := by rw [flat_len henc, List.length_take]; congr 1; omega
  have hdr : ((xs.drop j).flatMap enc).length = (xs.length - j) * sz := by rw [flat_len henc, List.length_drop]
  rcases o.2.2 with ⟨ob, oc, _⟩ | ⟨b, cs, ob, rfl, kb, hcl, hct⟩
  · omega
  rw [ob]
  rw [hs] at hct
  have hcsl : xs.length * sz ≤ cs.length := by rw [hcl]; exact hmul _ _ (by omega)
  have hb0 : sbase (some (⟨b, 0, none⟩ : Addr)) sz 0 s.cap = some ⟨b, 0, none⟩ := by rw [sbase_at (by omega)]; simp
  have hij2 := hmul i xs.length (by omega)
  have hj2 := hmul j xs.length hj
  have hxj : xs.length * sz = j * sz + (xs.length - j) * sz := by rw [← Nat.add_mul]; congr 1; omega
  have hxij : i * sz ≤ j * sz := hmul _ _ (by omega)
  have hti : cs.take (i * sz) = (xs.take i).flatMap enc := by
    rw [flat_take henc, ← hct, List.take_take]; congr 1; omega
  have rtk : RdCells h (some ⟨b, 0, none⟩) ((i - 0) * sz) ((xs.take i).flatMap enc) := kb.rd htk (by rw [List.drop_zero]; exact hti)
  have rdr : RdCells h (sbase (some (⟨b, 0, none⟩ : Addr)) sz j s.cap) ((xs.length - j) * sz) ((xs.drop j).flatMap enc) := by
    by_cases hcj : s.cap = j
    · refine ⟨hdr, .inl ?_⟩
      have : xs.length - j = 0 := by omega
      rw [this, Nat.zero_mul]
    · rw [sbase_at hcj, Nat.zero_add]
      refine kb.rd hdr ?_
      rw [flat_drop henc, ← hct, List.drop_take]
      congr 1
      omega
  refine ⟨by omega, letW ⟨by omega, letW ?_⟩⟩
  rw [hb0]
  have hnb : i - 0 + (xs.length - j) ≤ xs.length := by omega
  have hbm : (i - 0 + (xs.length - j)) * bytes ≤ xs.length * bytes := Nat.mul_le_mul_right _ hnb
  have hx0 : (⟨sbase (some (⟨b, 0, none⟩ : Addr)) sz j s.cap, s.len - j, s.cap - j⟩ : Sl).len = xs.length - j := by show s.len - j = _; omega
  refine app_in (n := xs.length - j) kb rtk (by rw [hx0]; exact rdr) hx0 (flat_ok hok _) ⟨by omega, by omega⟩ (by omega) (by
    have : i - 0 = i := by omega
    rw [this, Nat.zero_add, hcl]
    have := hmul (i + (xs.length - j)) s.cap (by omega)
    rw [Nat.add_mul] at this
    exact this) fun h1 m1 k1 => ?_
  have hi0 : i - 0 = i := by omega
  rw [hi0, Nat.zero_add] at k1
  show ((0 : Int) ≤ ((i - 0 + (xs.length - j) : Nat) : Int) ∧ ((i - 0 + (xs.length - j) : Nat) : Int) ≤ (s.len : Int) ∧ (s.len : Int) ≤ ((s.cap - 0 : Nat) : Int)) ∧ LetW (α := Sl) ⟨sbase (some ⟨b, 0, none⟩) sz (((i - 0 + (xs.length - j) : Nat) : Int)).toNat (s.cap - 0), xs.length - (((i - 0 + (xs.length - j) : Nat) : Int)).toNat, s.cap - 0 - (((i - 0 + (xs.length - j) : Nat) : Int)).toNat⟩ _
  refine ⟨by omega, letW ?_⟩
  have hn : (((i - 0 + (xs.length - j) : Nat) : Int)).toNat = i + (xs.length - j) := by omega
  have hcap0 : s.cap - 0 = s.cap := by omega
  rw [hn, hcap0, sbase_at (show s.cap ≠ i + (xs.length - j) by omega), Nat.zero_add]
  have hcnt : xs.length - (i + (xs.length - j)) = j - i := by omega
  have hmulij : (i + (xs.length - j)) * sz = i * sz + (xs.length - j) * sz := Nat.add_mul _ _ _
  have hlen1 : (cs.take (i * sz) ++ (xs.drop j).flatMap enc ++ cs.drop (i * sz + (xs.length - j) * sz)).length = cs.length := by
    simp only [List.length_append, List.length_take, List.length_drop, hdr]
    omega
  show SemE0 P (Builtin.clear_ #[tS] 0 #[.slice (some ⟨b, (i + (xs.length - j)) * sz, none⟩) (xs.length - (i + (xs.length - j))) (s.cap - (i + (xs.length - j)))]) shUnit _ h1
  rw [hcnt]
  refine clear_blk ht hzv hzo k1 (by
    rw [hlen1, hz, hmulij]
    have : i * sz + (j - i) * sz = j * sz := by rw [← Nat.add_mul]; congr 1; omega
    omega) fun h2 m2 k2 => ?_
  have hres : (xs.take i ++ xs.drop j).length = i + (xs.length - j) := by simp; omega
  refine hq _ _ ⟨?_, ?_, .inr ⟨b, _, rfl, rfl, k2, ?_, ?_⟩⟩ (m1.trans m2)
  · rw [hres, hi0]
  · show i - 0 + (xs.length - j) ≤ s.cap
    omega
  · simp only [List.length_append, List.length_take, List.length_drop, hlen1, zerosL_len, hz]
    show _ = s.cap * sz
    have : i * sz + (j - i) * sz = j * sz := by rw [← Nat.add_mul]; congr 1; omega
    rw [hmulij]
    omega
  · show List.take ((i - 0 + (xs.length - j)) * sz) _ = _
    rw [hi0, List.append_assoc, List.take_append_of_le_length, List.take_take, Nat.min_self, hmulij, hti]
    · have e3 : i * sz + (xs.length - j) * sz = ((xs.take i).flatMap enc ++ (xs.drop j).flatMap enc).length := by rw [List.length_append, htk, hdr]
      rw [e3, List.take_left, List.flatMap_append]
    · rw [List.length_take, hlen1, hmulij]
      omega

end
end Lf

/-
  Rising lists, each number once.
-/
namespace Lf

/-- Numbers behind one, without those that are the one before. -/
def cmpR : Int → List Int → List Int
  | _, [] => []
  | p, x :: r => if x = p then cmpR p r else x :: cmpR x r

/-- A list without those that are the one before. -/
def cmpP : List Int → List Int
  | [] => []
  | x :: r => x :: cmpR x r

theorem cmpR_mem {y : Int} : ∀ {r : List Int} {p : Int}, y ∈ p :: cmpR p r ↔ y ∈ p :: r
  | [], p => by simp [cmpR]
  | x :: r, p => by
    simp only [cmpR]
    by_cases h : x = p
    · rw [if_pos h, cmpR_mem]
      subst h
      simp
    · rw [if_neg h]
      rw [List.mem_cons, cmpR_mem, List.mem_cons (b := p)]

theorem cmpP_mem {y : Int} {xs : List Int} : y ∈ cmpP xs ↔ y ∈ xs := by
  cases xs with
  | nil => simp [cmpP]
  | cons x r => exact cmpR_mem

theorem cmpR_asc : ∀ {r : List Int} {p : Int}, (p :: r).Pairwise (· ≤ ·) → (p :: cmpR p r).Pairwise (· < ·)
  | [], p, _ => by simp [cmpR]
  | x :: r, p, h => by
    simp only [cmpR]
    have h1 := List.pairwise_cons.1 h
    by_cases e : x = p
    · rw [if_pos e]
      subst e
      exact cmpR_asc h1.2
    · rw [if_neg e]
      have hx := cmpR_asc h1.2
      refine List.pairwise_cons.2 ⟨fun y hy => ?_, hx⟩
      have hp := h1.1 x (List.mem_cons_self ..)
      rcases List.mem_cons.1 hy with rfl | hy
      · omega
      · have := (List.pairwise_cons.1 hx).1 y hy
        omega

theorem cmpP_asc {xs : List Int} (h : xs.Pairwise (· ≤ ·)) : (cmpP xs).Pairwise (· < ·) := by
  cases xs with
  | nil => simp [cmpP]
  | cons x r => exact cmpR_asc h

/-- Rising lists of the same numbers are one. -/
theorem asc_eq : ∀ {xs ys : List Int}, xs.Pairwise (· < ·) → ys.Pairwise (· < ·) → (∀ z, z ∈ xs ↔ z ∈ ys) → xs = ys
  | [], [], _, _, _ => rfl
  | [], y :: ys, _, _, h => by have := (h y).2 (List.mem_cons_self ..); cases this
  | x :: xs, [], _, _, h => by have := (h x).1 (List.mem_cons_self ..); cases this
  | x :: xs, y :: ys, h1, h2, h => by
    obtain ⟨a1, a2⟩ := List.pairwise_cons.1 h1
    obtain ⟨b1, b2⟩ := List.pairwise_cons.1 h2
    have e : x = y := by
      rcases List.mem_cons.1 ((h x).1 (List.mem_cons_self ..)) with e | hx
      · exact e
      · rcases List.mem_cons.1 ((h y).2 (List.mem_cons_self ..)) with e | hy
        · exact e.symm
        · have := a1 y hy
          have := b1 x hx
          omega
    subst e
    have := asc_eq (xs := xs) (ys := ys) a2 b2 fun z => ⟨fun hz => by
      rcases List.mem_cons.1 ((h z).1 (List.mem_cons_of_mem _ hz)) with e | hz'
      · have := a1 z hz; omega
      · exact hz', fun hz => by
      rcases List.mem_cons.1 ((h z).2 (List.mem_cons_of_mem _ hz)) with e | hz'
      · have := b1 z hz; omega
      · exact hz'⟩
    rw [this]

theorem cmpP_short : ∀ {xs : List Int}, xs.length < 2 → cmpP xs = xs
  | [], _ => rfl
  | [x], _ => rfl
  | _ :: _ :: _, h => by simp at h; omega

end Lf

/-
  The library's sort, at one type of numbers: what its functions do, told by plain functions on arrays: insertion, heap.
-/
namespace Lf.Souint64
open Go Go.Proofs Go.Sort

abbrev eK : Int → List Value := fun x => cellsL ((shInt .u64).enc x)

/-- The slice holds the array, in a block of its own. -/
abbrev DA (k : Hp) (data : Sl) (d : Array Int) (F : List Nat) : Prop := OwnF k 1 eK data d.toList F

theorem getBang {d : Array Int} {i : Nat} {x : Int} (h : d.toList[i]? = some x) : d[i]! = x := by
  have h' : d[i]? = some x := by simpa using h
  rw [getElem!_def, h']

theorem da_get {k : Hp} {data : Sl} {d : Array Int} {F : List Nat} (o : DA k data d F) {i : Int} (h0 : 0 ≤ i) (h1 : i < (d.size : Int)) {K : Int → Prop} (hk : K d[i.toNat]!) : InB data.base data.len i ∧ LdW none (shInt .u64) k (sat data.base 1 i) K :=
  Rs.get (sh := shInt .u64) (o.rw fun _ => rfl) (fun _ => rfl) (by omega) h0 (by simpa using h1) fun x hx => by rw [← getBang hx]; exact hk

theorem da_getC {k : Hp} {data : Sl} {d : Array Int} {F : List Nat} (o : DA k data d F) {c : Bool} {i : Int} (h0 : c = true → 0 ≤ i ∧ i < (d.size : Int)) {K : Int → Prop} (hk : ∀ x, (c = true → x = d[i.toNat]!) → K x) :
    (c = true → InB data.base data.len i) ∧ LdW (some c) (shInt .u64) k (sat data.base 1 i) K :=
  Rs.getC (sh := shInt .u64) (o.rw fun _ => rfl) (0 : Int) (fun _ => rfl) (by omega) (fun hc => ⟨(h0 hc).1, by simpa using (h0 hc).2⟩) fun x hx => hk x fun hc => (getBang (hx hc)).symm

theorem swp_list (d : Array Int) {i j : Nat} (hi : i < d.size) (hj : j < d.size) : (swp d i j).toList = (d.toList.set i d[j]!).set j d[i]! := by
  simp [swp]

theorem da_swap {k : Hp} {data : Sl} {d : Array Int} {F : List Nat} (o : DA k data d F) {A B : Int} (hA0 : 0 ≤ A) (hA : A < (d.size : Int)) (hB0 : 0 ≤ B) (hB : B < (d.size : Int)) {K : Hp → Prop}
    (hk : ∀ k', DA k' data (swp d A.toNat B.toNat) F → Mv F k F k' → K k') :
    InB data.base data.len B ∧ LdW none (shInt .u64) k (sat data.base 1 B) fun x => (InB data.base data.len A ∧ LdW none (shInt .u64) k (sat data.base 1 A) fun x1 =>
      (InB data.base data.len A ∧ StW k (sat data.base 1 A) [(.int .u64 x)] fun h1 => (InB data.base data.len B ∧ StW h1 (sat data.base 1 B) [(.int .u64 x1)] fun h2 => K h2))) := by
  refine da_get o hB0 hB (da_get o hA0 hA ?_)
  refine o.store (fun _ => rfl) hA0 (by simpa using hA) (d[B.toNat]!) fun k1 o1 m1 => ?_
  refine o1.store (fun _ => rfl) hB0 (by simpa using hB) (d[A.toNat]!) fun k2 o2 m2 => ?_
  refine hk k2 ?_ (m1.trans m2)
  show OwnF k2 1 eK data (swp d A.toNat B.toNat).toList F
  rw [swp_list d (by omega) (by omega)]
  exact o2

theorem less_ok {x y : Int} {Q : Bool → Hp → Prop} {h : Hp} (hq : Q (ltInt x y) h) : cmp_Less_uint64_w Try.prog x y Q h := by
  unfold cmp_Less_uint64_w
  refine cmp_isNaN_uint64_call ?_
  unfold cmp_isNaN_uint64_w
  have e : (x != x) = false := by simp
  rw [e]
  refine ⟨fun e => (by cases e), fun _ => ⟨false, letW (letW ?_)⟩⟩
  exact hq

theorem insInner_ok {k : Hp} {data : Sl} {d : Array Int} {F : List Nat} {a i : Nat} {Q : Hp → Prop} (o : DA k data d F) (hai : a ≤ i) (hi : i < d.size) (hs : d.size ≤ 140737488355328)
    (hq : ∀ k' d', DA k' data d' F → Mv F k F k' → d' = insInner ltInt a i d → d'.size = d.size → Q k') :
    LoopW1 (α1 := Int) (fun again1 j h2 =>
 (((decide (j > (a : Int))) = true → (InB data.base data.len j)) ∧ LdW (some (decide (j > (a : Int)))) (shInt .u64) h2 (sat data.base 1 j) fun x =>
 (((decide (j > (a : Int))) = true → (InB data.base data.len (IntKind.wrap .i64 (j - (1 : Int))))) ∧ LdW (some (decide (j > (a : Int)))) (shInt .u64) h2 (sat data.base 1 (IntKind.wrap .i64 (j - (1 : Int)))) fun x1 =>
 EffC (some (decide (j > (a : Int)))) (CallT Try.prog n_cmp_Less_uint64 [(.int .u64 x), (.int .u64 x1)] shBool) (fun r h3 =>
 LetW ((decide (j > (a : Int))) && r) fun y =>
 (if y = true then
 ((InB data.base data.len (IntKind.wrap .i64 (j - (1 : Int)))) ∧ LdW none (shInt .u64) h3 (sat data.base 1 (IntKind.wrap .i64 (j - (1 : Int)))) fun x2 =>
 ((InB data.base data.len j) ∧ LdW none (shInt .u64) h3 (sat data.base 1 j) fun x3 =>
 ((InB data.base data.len j) ∧ StW h3 (sat data.base 1 j) [(.int .u64 x2)] (fun h4 =>
 ((InB data.base data.len (IntKind.wrap .i64 (j - (1 : Int)))) ∧ StW h4 (sat data.base 1 (IntKind.wrap .i64 (j - (1 : Int)))) [(.int .u64 x3)] (fun h5 =>
 again1 (IntKind.wrap .i64 (j - (1 : Int))) h5))))))
 else
 Q h3)) h2))) (i : Int) k := by
  refine LoopW1.intro (fun j k' => ∃ d', DA k' data d' F ∧ Mv F k F k' ∧ (a : Int) ≤ j ∧ j ≤ (i : Int) ∧ d'.size = d.size ∧ insInner ltInt a j.toNat d' = insInner ltInt a i d) (fun j _ => j.toNat) ⟨d, o, Mv.refl _ _, by omega, by omega, rfl, by simp⟩ ?_
  rintro j k' ⟨d', o', m', hj0, hj1, hsz, he⟩
  rw [wrap64 (by omega) (by omega)]
  refine da_getC o' (fun hc => ?_) fun x hx => ?_
  · have : j > (a : Int) := by simpa using hc
    omega
  refine da_getC o' (fun hc => ?_) fun x1 hx1 => ?_
  · have : j > (a : Int) := by simpa using hc
    omega
  by_cases hja : j > (a : Int)
  · have hc : decide (j > (a : Int)) = true := by simpa using hja
    have ex := hx hc
    have ex1 := hx1 hc
    obtain ⟨q, hq'⟩ : ∃ q : Nat, j.toNat = q + 1 := ⟨j.toNat - 1, by omega⟩
    have hq1 : (j - 1).toNat = q := by omega
    rw [hq1] at ex1
    rw [hq'] at ex he
    have hqa : (q + 1 > a) := by omega
    refine ⟨fun _ => cmp_Less_uint64_call (less_ok ?_), fun e => (by rw [hc] at e; cases e)⟩
    refine letW ?_
    rw [hc, Bool.true_and, ex, ex1]
    rw [insInner] at he
    cases hl : ltInt d'[q + 1]! d'[q]! with
    | true =>
      rw [if_pos rfl]
      rw [hl, if_pos (by simp; omega)] at he
      refine da_swap o' (A := j) (B := j - 1) (by omega) (by omega) (by omega) (by omega) fun k2 o2 m2 => ?_
      rw [hq', hq1] at o2
      exact ⟨⟨_, o2, m'.trans m2, by omega, by omega, by rw [size_swp]; exact hsz, by rw [hq1]; exact he⟩, by omega⟩
    | false =>
      rw [if_neg (by simp)]
      rw [hl, if_neg (by simp)] at he
      exact hq k' d' o' m' he hsz
  · have hc : decide (j > (a : Int)) = false := by simpa using hja
    refine ⟨fun e => (by rw [hc] at e; cases e), fun _ => ⟨false, letW ?_⟩⟩
    rw [hc, Bool.false_and, if_neg (by simp)]
    have : j.toNat = a := by omega
    rw [this] at he
    have he' : insInner ltInt a a d' = d' := by
      cases a with
      | zero => rfl
      | succ a => rw [insInner, if_neg (by simp)]
    rw [he'] at he
    exact hq k' d' o' m' he hsz

theorem insertionSort_ok {k : Hp} {data : Sl} {d : Array Int} {F : List Nat} {a b : Nat} {Q : Hp → Prop} (o : DA k data d F) (hab : a ≤ b) (hb : b ≤ d.size) (hs : d.size ≤ 140737488355328)
    (hq : ∀ k' d', DA k' data d' F → Mv F k F k' → PermIn a b d d' → SortedIn ltInt a b d' → Q k') : slices_insertionSortOrdered_uint64_w Try.prog data (a : Int) (b : Int) Q k := by
  unfold slices_insertionSortOrdered_uint64_w
  rw [wrap64 (by omega) (by omega)]
  refine LoopW1.intro (fun i k' => ∃ d', DA k' data d' F ∧ Mv F k F k' ∧ (a : Int) + 1 ≤ i ∧ (i ≤ (b : Int) ∨ i = (a : Int) + 1) ∧ d'.size = d.size ∧ insOuter ltInt a b i.toNat d' = insertionSort ltInt d a b) (fun i _ => (b - i).toNat)
    ⟨d, o, Mv.refl _ _, by omega, .inr rfl, rfl, by
      have : ((a : Int) + 1).toNat = a + 1 := by omega
      rw [this]; rfl⟩ ?_
  rintro i k' ⟨d', o', m', hi0, hi1, hsz, he⟩
  rw [insOuter] at he
  split
  · rename_i e
    have e : i < (b : Int) := by simpa using e
    rw [if_pos (by omega)] at he
    have hin : ((i.toNat : Nat) : Int) = i := by omega
    have key := insInner_ok (k := k') (data := data) (d := d') (F := F) (a := a) (i := i.toNat) (Q := fun h3 => (∃ d', DA h3 data d' F ∧ Mv F k F h3 ∧ (a : Int) + 1 ≤ IntKind.wrap .i64 (i + 1) ∧ (IntKind.wrap .i64 (i + 1) ≤ (b : Int) ∨ IntKind.wrap .i64 (i + 1) = (a : Int) + 1) ∧ d'.size = d.size ∧ insOuter ltInt a b (IntKind.wrap .i64 (i + 1)).toNat d' = insertionSort ltInt d a b) ∧ (b - IntKind.wrap .i64 (i + 1)).toNat < (b - i).toNat)
      o' (by omega) (by omega) (by omega) fun k2 d2 o2 m2 hd2 hs2 => by
        rw [wrap64 (by omega) (by omega)]
        have hi1 : (i + 1).toNat = i.toNat + 1 := by omega
        exact ⟨⟨d2, o2, m'.trans m2, by omega, by omega, by omega, by rw [hi1, hd2]; exact he⟩, by omega⟩
    rw [hin] at key
    exact key
  · rename_i e
    have e : ¬ i < (b : Int) := by simpa using e
    rw [if_neg (by omega)] at he
    obtain ⟨h1, h2⟩ := insertionSort_holds (lt := ltInt) swo_ltInt d a b hab hb
    rw [← he] at h1 h2
    exact hq k' d' o' m' h1 h2

end Lf.Souint64

/-
  The library's sort: the heap.
-/
namespace Lf.Souint64
open Go Go.Proofs Go.Sort

theorem siftDown_size (hi first : Nat) : ∀ (n root : Nat) (d : Array Int), hi - root ≤ n → (siftDown ltInt hi first root d).size = d.size := by
  intro n
  induction n with
  | zero =>
    intro root d hn
    rw [siftDown, dif_pos (by omega)]
  | succ n ih =>
    intro root d hn
    rw [siftDown]
    split
    · rfl
    · split
      · split
        · rfl
        · split
          · rw [ih _ _ (by omega), size_swp]
          · rfl
      · split
        · rfl
        · rw [ih _ _ (by omega), size_swp]

set_option maxHeartbeats 1000000 in
theorem siftDown_ok {k : Hp} {data : Sl} {d : Array Int} {F : List Nat} {lo hi first : Nat} {Q : Hp → Prop} (o : DA k data d F) (hlo : lo ≤ hi) (hb : first + hi ≤ d.size) (hs : d.size ≤ 140737488355328)
    (hq : ∀ k' d', DA k' data d' F → Mv F k F k' → d' = siftDown ltInt hi first lo d → d'.size = d.size → Q k') : slices_siftDownOrdered_uint64_w Try.prog data (lo : Int) (hi : Int) (first : Int) Q k := by
  unfold slices_siftDownOrdered_uint64_w
  refine LoopW1.intro (fun root k' => ∃ d', DA k' data d' F ∧ Mv F k F k' ∧ 0 ≤ root ∧ root ≤ (hi : Int) ∧ d'.size = d.size ∧ siftDown ltInt hi first root.toNat d' = siftDown ltInt hi first lo d) (fun root _ => (hi - root).toNat) ⟨d, o, Mv.refl _ _, by omega, by omega, rfl, rfl⟩ ?_
  rintro root k' ⟨d', o', m', h0, h1, hsz, he⟩
  rw [wrap64 (n := 2 * root) (by omega) (by omega), wrap64 (n := 2 * root + 1) (by omega) (by omega), wrap64 (n := 2 * root + 1 + 1) (by omega) (by omega)]
  rw [siftDown] at he
  have ht1 : (2 * root + 1).toNat = 2 * root.toNat + 1 := by omega
  by_cases hend : 2 * root + 1 ≥ (hi : Int)
  · rw [if_pos (by simpa using hend)]
    rw [dif_pos (by omega)] at he
    exact hq k' d' o' m' he hsz
  rw [if_neg (by simpa using hend)]
  rw [dif_neg (by omega)] at he
  refine JoinW1.intro (fun child k2 => k2 = k' ∧ ((2 * root + 1 + 1 < (hi : Int) ∧ ltInt d'[first + (2 * root.toNat + 1)]! d'[first + (2 * root.toNat + 1) + 1]! = true ∧ child = 2 * root + 1 + 1) ∨
      ((decide (2 * root.toNat + 1 + 1 < hi) && ltInt d'[first + (2 * root.toNat + 1)]! d'[first + (2 * root.toNat + 1) + 1]!) = false ∧ child = 2 * root + 1))) ?_ ?_
  · rw [wrap64 (n := (first : Int) + (2 * root + 1)) (by omega) (by omega), wrap64 (n := (first : Int) + (2 * root + 1) + 1) (by omega) (by omega)]
    have i1 : ((first : Int) + (2 * root + 1)).toNat = first + (2 * root.toNat + 1) := by omega
    have i2 : ((first : Int) + (2 * root + 1) + 1).toNat = first + (2 * root.toNat + 1) + 1 := by omega
    refine da_getC o' (fun hc => ?_) fun x hx => ?_
    · have : 2 * root + 1 + 1 < (hi : Int) := by simpa using hc
      omega
    refine da_getC o' (fun hc => ?_) fun x1 hx1 => ?_
    · have : 2 * root + 1 + 1 < (hi : Int) := by simpa using hc
      omega
    rw [i1] at hx
    rw [i2] at hx1
    by_cases hc : 2 * root + 1 + 1 < (hi : Int)
    · have hcd : decide (2 * root + 1 + 1 < (hi : Int)) = true := by simpa using hc
      have ex := hx hcd
      have ex1 := hx1 hcd
      refine ⟨fun _ => cmp_Less_uint64_call (less_ok ?_), fun e => (by rw [hcd] at e; cases e)⟩
      refine letW ?_
      rw [hcd, Bool.true_and, ex, ex1]
      cases hl : ltInt d'[first + (2 * root.toNat + 1)]! d'[first + (2 * root.toNat + 1) + 1]! with
      | true =>
        rw [if_pos rfl]
        exact ⟨rfl, .inl ⟨hc, rfl, rfl⟩⟩
      | false =>
        rw [if_neg (by simp)]
        exact ⟨rfl, .inr ⟨by simp, rfl⟩⟩
    · have hcd : decide (2 * root + 1 + 1 < (hi : Int)) = false := by simpa using hc
      refine ⟨fun e => (by rw [hcd] at e; cases e), fun _ => ⟨false, letW ?_⟩⟩
      rw [hcd, Bool.false_and, if_neg (by simp)]
      have : decide (2 * root.toNat + 1 + 1 < hi) = false := by simp; omega
      exact ⟨rfl, .inr ⟨by rw [this, Bool.false_and], rfl⟩⟩
  · rintro child k2 ⟨rfl, hch⟩
    have hcr : 2 * root + 1 ≤ child ∧ child < (hi : Int) := by
      rcases hch with ⟨h2, _, rfl⟩ | ⟨_, rfl⟩ <;> omega
    rw [wrap64 (n := (first : Int) + root) (by omega) (by omega), wrap64 (n := (first : Int) + child) (by omega) (by omega)]
    have j1 : ((first : Int) + root).toNat = first + root.toNat := by omega
    have j2 : ((first : Int) + child).toNat = first + child.toNat := by omega
    refine da_get o' (by omega) (by omega) (da_get o' (by omega) (by omega) ?_)
    rw [j1, j2]
    refine cmp_Less_uint64_call (less_ok ?_)
    have he2 : siftDown ltInt hi first lo d = if !ltInt d'[first + root.toNat]! d'[first + child.toNat]! then d' else siftDown ltInt hi first child.toNat (swp d' (first + root.toNat) (first + child.toNat)) := by
      rw [← he]
      rcases hch with ⟨h2, h3, rfl⟩ | ⟨h3, rfl⟩
      · have e1 : (2 * root + 1 + 1).toNat = 2 * root.toNat + 2 := by omega
        rw [h3, if_pos (by simp; omega), e1, dif_pos (show 2 * root.toNat + 2 < hi by omega)]
      · rw [h3, if_neg (by simp), ht1]
    cases hl : ltInt d'[first + root.toNat]! d'[first + child.toNat]! with
    | false =>
      rw [if_pos (by rfl)]
      rw [hl, if_pos (by rfl)] at he2
      exact hq k2 d' o' m' he2.symm hsz
    | true =>
      rw [if_neg (by simp)]
      rw [hl, if_neg (by simp)] at he2
      refine da_swap o' (A := (first : Int) + root) (B := (first : Int) + child) (by omega) (by omega) (by omega) (by omega) fun k3 o3 m3 => ?_
      rw [j1, j2] at o3
      exact ⟨⟨_, o3, m'.trans m3, by omega, by omega, by rw [size_swp]; exact hsz, he2.symm⟩, by omega⟩

set_option maxHeartbeats 1000000 in
theorem heapSort_ok {k : Hp} {data : Sl} {d : Array Int} {F : List Nat} {a b : Nat} {Q : Hp → Prop} (o : DA k data d F) (hab : a ≤ b) (hb : b ≤ d.size) (hs : d.size ≤ 140737488355328)
    (hq : ∀ k' d', DA k' data d' F → Mv F k F k' → PermIn a b d d' → SortedIn ltInt a b d' → Q k') : slices_heapSortOrdered_uint64_w Try.prog data (a : Int) (b : Int) Q k := by
  unfold slices_heapSortOrdered_uint64_w
  have hba : (b : Int) - (a : Int) = ((b - a : Nat) : Int) := by omega
  rw [wrap64 (n := (b : Int) - (a : Int)) (by omega) (by omega), wrap64 (n := (b : Int) - (a : Int) - 1) (by omega) (by omega)]
  have htd : ((b : Int) - (a : Int) - 1).tdiv 2 = (((b - a - 1) / 2 : Nat) : Int) := by
    by_cases h0 : a = b
    · subst h0
      have e1 : (a : Int) - (a : Int) - 1 = -1 := by omega
      have e2 : a - a - 1 = 0 := by omega
      rw [e1, e2]
      rfl
    · have e1 : (b : Int) - (a : Int) - 1 = ((b - a - 1 : Nat) : Int) := by omega
      rw [e1]
      rfl
  rw [htd, wrap64 (by omega) (by omega)]
  refine ⟨by decide, ?_⟩
  obtain ⟨hp, hsd⟩ := heapSort_holds (lt := ltInt) swo_ltInt d a b hab hb
  refine LoopW1.intro (fun i k' => ∃ d', DA k' data d' F ∧ Mv F k F k' ∧ -1 ≤ i ∧ i ≤ (((b - a - 1) / 2 : Nat) : Int) ∧ d'.size = d.size ∧ heapPop ltInt a (b - a) (heapBuild ltInt (b - a) a (i + 1).toNat d') = heapSort ltInt d a b) (fun i _ => (i + 1).toNat)
    ⟨d, o, Mv.refl _ _, by omega, by omega, rfl, by
      have : ((((b - a - 1) / 2 : Nat) : Int) + 1).toNat = (b - a - 1) / 2 + 1 := by omega
      rw [this]; rfl⟩ ?_
  rintro i k' ⟨d', o', m', h0, h1, hsz, he⟩
  by_cases hi : i ≥ 0
  · rw [if_pos (by simpa using hi)]
    have ei : ((i.toNat : Nat) : Int) = i := by omega
    have hi1 : (i + 1).toNat = i.toNat + 1 := by omega
    rw [hi1, heapBuild] at he
    have key := siftDown_ok (k := k') (data := data) (d := d') (F := F) (lo := i.toNat) (hi := b - a) (first := a) (Q := fun h2 => (∃ d', DA h2 data d' F ∧ Mv F k F h2 ∧ -1 ≤ IntKind.wrap .i64 (i - 1) ∧ IntKind.wrap .i64 (i - 1) ≤ (((b - a - 1) / 2 : Nat) : Int) ∧ d'.size = d.size ∧ heapPop ltInt a (b - a) (heapBuild ltInt (b - a) a (IntKind.wrap .i64 (i - 1) + 1).toNat d') = heapSort ltInt d a b) ∧ (IntKind.wrap .i64 (i - 1) + 1).toNat < (i + 1).toNat)
      o' (by omega) (by omega) (by omega) fun k2 d2 o2 m2 hd2 hs2 => by
        rw [wrap64 (by omega) (by omega)]
        have e3 : (i - 1 + 1).toNat = i.toNat := by omega
        exact ⟨⟨d2, o2, m'.trans m2, by omega, by omega, by omega, by rw [e3, hd2]; exact he⟩, by omega⟩
    rw [ei, ← hba] at key
    exact slices_siftDownOrdered_uint64_call key
  · rw [if_neg (by simpa using hi)]
    have hi1 : (i + 1).toNat = 0 := by omega
    rw [hi1, heapBuild] at he
    have hstart : (b : Int) - (a : Int) - 1 = ((b - a : Nat) : Int) - 1 := by omega
    rw [hstart]
    refine LoopW1.intro (fun i k2 => ∃ d2, DA k2 data d2 F ∧ Mv F k F k2 ∧ -1 ≤ i ∧ i ≤ ((b - a : Nat) : Int) - 1 ∧ d2.size = d.size ∧ heapPop ltInt a (i + 1).toNat d2 = heapSort ltInt d a b) (fun i _ => (i + 1).toNat)
      ⟨d', o', m', by omega, by omega, hsz, by
        have : (((b - a : Nat) : Int) - 1 + 1).toNat = b - a := by omega
        rw [this]; exact he⟩ ?_
    clear he o' m' hsz h0 h1 hi hi1
    rintro i1 k2 ⟨d2, o2, m2, h0, h1, hsz, he⟩
    by_cases hi : i1 ≥ 0
    · rw [if_pos (by simpa using hi), wrap64 (n := (a : Int) + i1) (by omega) (by omega)]
      have hi1 : (i1 + 1).toNat = i1.toNat + 1 := by omega
      rw [hi1, heapPop] at he
      refine da_swap o2 (A := (a : Int)) (B := (a : Int) + i1) (by omega) (by omega) (by omega) (by omega) fun k3 o3 m3 => ?_
      have j1 : ((a : Int) + i1).toNat = a + i1.toNat := by omega
      have j2 : ((a : Nat) : Int).toNat = a := by omega
      rw [j1, j2] at o3
      have ei : ((i1.toNat : Nat) : Int) = i1 := by omega
      have key := siftDown_ok (k := k3) (data := data) (d := swp d2 a (a + i1.toNat)) (F := F) (lo := 0) (hi := i1.toNat) (first := a) (Q := fun h2 => (∃ d2, DA h2 data d2 F ∧ Mv F k F h2 ∧ -1 ≤ IntKind.wrap .i64 (i1 - 1) ∧ IntKind.wrap .i64 (i1 - 1) ≤ ((b - a : Nat) : Int) - 1 ∧ d2.size = d.size ∧ heapPop ltInt a (IntKind.wrap .i64 (i1 - 1) + 1).toNat d2 = heapSort ltInt d a b) ∧ (IntKind.wrap .i64 (i1 - 1) + 1).toNat < (i1 + 1).toNat)
        o3 (by omega) (by rw [size_swp]; omega) (by rw [size_swp]; omega) fun k4 d4 o4 m4 hd4 hs4 => by
          rw [wrap64 (by omega) (by omega)]
          have e3 : (i1 - 1 + 1).toNat = i1.toNat := by omega
          rw [size_swp] at hs4
          exact ⟨⟨d4, o4, m2.trans (m3.trans m4), by omega, by omega, by omega, by rw [e3, hd4]; exact he⟩, by omega⟩
      rw [ei] at key
      exact slices_siftDownOrdered_uint64_call key
    · rw [if_neg (by simpa using hi)]
      have hi1 : (i1 + 1).toNat = 0 := by omega
      rw [hi1, heapPop] at he
      rw [← he] at hp hsd
      exact hq k2 d2 o2 m2 hp hsd

theorem reverse_ok {k : Hp} {data : Sl} {d : Array Int} {F : List Nat} {a b : Nat} {Q : Hp → Prop} (o : DA k data d F) (hab : a < b) (hb : b ≤ d.size) (hs : d.size ≤ 140737488355328)
    (hq : ∀ k' d', DA k' data d' F → Mv F k F k' → PermIn a b d d' → Q k') : slices_reverseRangeOrdered_uint64_w Try.prog data (a : Int) (b : Int) Q k := by
  unfold slices_reverseRangeOrdered_uint64_w
  rw [wrap64 (by omega) (by omega)]
  refine LoopW2.intro (fun i j k' => ∃ d', DA k' data d' F ∧ Mv F k F k' ∧ (a : Int) ≤ i ∧ j < (b : Int) ∧ i ≤ j + 1 ∧ PermIn a b d d') (fun i j _ => (j + 1 - i).toNat) ⟨d, o, Mv.refl _ _, by omega, by omega, by omega, permIn_refl d a b⟩ ?_
  rintro i j k' ⟨d', o', m', h0, h1, h2, hp⟩
  have hsz := hp.1
  split
  · rename_i e
    have e : i < j := by simpa using e
    refine da_swap o' (A := i) (B := j) (by omega) (by omega) (by omega) (by omega) fun k2 o2 m2 => ?_
    rw [wrap64 (by omega) (by omega), wrap64 (by omega) (by omega)]
    exact ⟨⟨_, o2, m'.trans m2, by omega, by omega, by omega, permIn_trans _ _ _ _ _ hp (swp_permIn d' a b i.toNat j.toNat (by omega) (by omega) (by omega) (by omega) (by omega))⟩, by omega⟩
  · exact hq k' d' o' m' hp

end Lf.Souint64

