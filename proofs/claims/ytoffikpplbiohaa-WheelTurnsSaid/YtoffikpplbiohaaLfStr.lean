/-
  By program: the structures of the module, as rows of cells.
-/
import Derived.Test.YtoffikpplbiohaaLfCode
set_option maxRecDepth 100000
namespace Lf
open Go

structure S_firebreakref11_Wheel where
  L : Sl
def S_firebreakref11_Wheel.v (x : S_firebreakref11_Wheel) : Value := .agg #[.slice x.L.base x.L.len x.L.cap]
@[reducible] def sh_firebreakref11_Wheel : Shape where
  T := S_firebreakref11_Wheel
  enc := fun x => .agg #[.slice x.L.base x.L.len x.L.cap]
  dec := fun v => match v with
    | .agg ⟨[.slice a0 b0 c0]⟩ => some ⟨⟨a0, b0, c0⟩⟩
    | _ => none
  ok := by intro v x h; split at h <;> cases h; rfl

structure S_firebreaklaw11_Op where
  Kind : Int
  On : Int
  ID : Int
  At : Int
def S_firebreaklaw11_Op.v (x : S_firebreaklaw11_Op) : Value := .agg #[.int .i64 x.Kind, .int .i64 x.On, .int .i64 x.ID, .int .i64 x.At]
@[reducible] def sh_firebreaklaw11_Op : Shape where
  T := S_firebreaklaw11_Op
  enc := fun x => .agg #[.int .i64 x.Kind, .int .i64 x.On, .int .i64 x.ID, .int .i64 x.At]
  dec := fun v => match v with
    | .agg ⟨[.int .i64 a0, .int .i64 a1, .int .i64 a2, .int .i64 a3]⟩ => some ⟨a0, a1, a2, a3⟩
    | _ => none
  ok := by intro v x h; split at h <;> cases h; rfl

structure S_firebreaklaw11_Set where
  ID : Int
  Due : Int
def S_firebreaklaw11_Set.v (x : S_firebreaklaw11_Set) : Value := .agg #[.int .i64 x.ID, .int .i64 x.Due]
@[reducible] def sh_firebreaklaw11_Set : Shape where
  T := S_firebreaklaw11_Set
  enc := fun x => .agg #[.int .i64 x.ID, .int .i64 x.Due]
  dec := fun v => match v with
    | .agg ⟨[.int .i64 a0, .int .i64 a1]⟩ => some ⟨a0, a1⟩
    | _ => none
  ok := by intro v x h; split at h <;> cases h; rfl

structure S_table_Table where
  labels : Sl
  by_ : Option Nat
def S_table_Table.v (x : S_table_Table) : Value := .agg #[.slice x.labels.base x.labels.len x.labels.cap, .map x.by_]
@[reducible] def sh_table_Table : Shape where
  T := S_table_Table
  enc := fun x => .agg #[.slice x.labels.base x.labels.len x.labels.cap, .map x.by_]
  dec := fun v => match v with
    | .agg ⟨[.slice a0 b0 c0, .map a1]⟩ => some ⟨⟨a0, b0, c0⟩, a1⟩
    | _ => none
  ok := by intro v x h; split at h <;> cases h; rfl

structure S_wheel_Wheel where
  l : Sl
  of_ : Option Nat
def S_wheel_Wheel.v (x : S_wheel_Wheel) : Value := .agg #[.slice x.l.base x.l.len x.l.cap, .map x.of_]
@[reducible] def sh_wheel_Wheel : Shape where
  T := S_wheel_Wheel
  enc := fun x => .agg #[.slice x.l.base x.l.len x.l.cap, .map x.of_]
  dec := fun v => match v with
    | .agg ⟨[.slice a0 b0 c0, .map a1]⟩ => some ⟨⟨a0, b0, c0⟩, a1⟩
    | _ => none
  ok := by intro v x h; split at h <;> cases h; rfl

structure S_wheel_entry where
  due : Int
  id_ : Int
def S_wheel_entry.v (x : S_wheel_entry) : Value := .agg #[.int .i64 x.due, .int .i64 x.id_]
@[reducible] def sh_wheel_entry : Shape where
  T := S_wheel_entry
  enc := fun x => .agg #[.int .i64 x.due, .int .i64 x.id_]
  dec := fun v => match v with
    | .agg ⟨[.int .i64 a0, .int .i64 a1]⟩ => some ⟨a0, a1⟩
    | _ => none
  ok := by intro v x h; split at h <;> cases h; rfl

structure S_firebreakref11_One where
  ID : Int
  Due : Int
def S_firebreakref11_One.v (x : S_firebreakref11_One) : Value := .agg #[.int .i64 x.ID, .int .i64 x.Due]
@[reducible] def sh_firebreakref11_One : Shape where
  T := S_firebreakref11_One
  enc := fun x => .agg #[.int .i64 x.ID, .int .i64 x.Due]
  dec := fun v => match v with
    | .agg ⟨[.int .i64 a0, .int .i64 a1]⟩ => some ⟨a0, a1⟩
    | _ => none
  ok := by intro v x h; split at h <;> cases h; rfl

end Lf
