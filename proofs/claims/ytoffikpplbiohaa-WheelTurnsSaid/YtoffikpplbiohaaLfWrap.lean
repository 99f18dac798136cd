/-
  The lifting layer, part 4: the same words for several variables, one behind the other.
-/
import Derived.Test.YtoffikpplbiohaaLfCode
namespace Lf
open Go

def JoinW0 (A : (Hp → Prop) → Prop) (B : Hp → Prop) : Prop :=
  JoinT (σ := Unit) (fun R => A (fun h => R () h)) (fun _ h => B  h)
theorem JoinW0.intro {A : (Hp → Prop) → Prop} {B : Hp → Prop} (R : Hp → Prop) (hA : A R) (hB : ∀ h, R h → B h) : JoinW0 A B :=
  ⟨fun _ h => R  h, hA, fun _ h hr => hB  h hr⟩
theorem JoinW0.direct {A : (Hp → Prop) → Prop} {B : Hp → Prop} (hA : A B) : JoinW0 A B := JoinW0.intro B hA (fun _ hr => hr)
def LoopW0 (body : (Hp → Prop) → Hp → Prop)  (h : Hp) : Prop :=
  LoopT (σ := Unit) (fun R _ h => body (fun h => R () h)  h) () h
theorem LoopW0.intro {body : (Hp → Prop) → Hp → Prop} {h : Hp} (I : Hp → Prop) (μ : Hp → Nat)
    (h0 : I  h) (hr : ∀  k, I  k → body (fun  k' => I  k' ∧ μ  k' < μ  k)  k) : LoopW0 body  h :=
  ⟨fun _ h => I  h, fun _ h => μ  h, h0, fun _ k hk => hr  k hk⟩

def JoinW1 {α1 : Type} (A : (α1 → Hp → Prop) → Prop) (B : α1 → Hp → Prop) : Prop :=
  JoinT (σ := α1) (fun R => A (fun x1 h => R x1 h)) (fun p h => B p h)
theorem JoinW1.intro {α1 : Type} {A : (α1 → Hp → Prop) → Prop} {B : α1 → Hp → Prop} (R : α1 → Hp → Prop) (hA : A R) (hB : ∀ x1 h, R x1 h → B x1 h) : JoinW1 A B :=
  ⟨fun p h => R p h, hA, fun p h hr => hB p h hr⟩
theorem JoinW1.direct {α1 : Type} {A : (α1 → Hp → Prop) → Prop} {B : α1 → Hp → Prop} (hA : A B) : JoinW1 A B := JoinW1.intro B hA (fun _ _ hr => hr)
def LoopW1 {α1 : Type} (body : (α1 → Hp → Prop) → α1 → Hp → Prop) (x1 : α1) (h : Hp) : Prop :=
  LoopT (σ := α1) (fun R p h => body (fun x1 h => R x1 h) p h) x1 h
theorem LoopW1.intro {α1 : Type} {body : (α1 → Hp → Prop) → α1 → Hp → Prop} {x1 : α1} {h : Hp} (I : α1 → Hp → Prop) (μ : α1 → Hp → Nat)
    (h0 : I x1 h) (hr : ∀ x1 k, I x1 k → body (fun y1 k' => I y1 k' ∧ μ y1 k' < μ x1 k) x1 k) : LoopW1 body x1 h :=
  ⟨fun p h => I p h, fun p h => μ p h, h0, fun p k hk => hr p k hk⟩

def JoinW2 {α1 α2 : Type} (A : (α1 → α2 → Hp → Prop) → Prop) (B : α1 → α2 → Hp → Prop) : Prop :=
  JoinT (σ := α1 × α2) (fun R => A (fun x1 x2 h => R (x1, x2) h)) (fun p h => B p.1 p.2 h)
theorem JoinW2.intro {α1 α2 : Type} {A : (α1 → α2 → Hp → Prop) → Prop} {B : α1 → α2 → Hp → Prop} (R : α1 → α2 → Hp → Prop) (hA : A R) (hB : ∀ x1 x2 h, R x1 x2 h → B x1 x2 h) : JoinW2 A B :=
  ⟨fun p h => R p.1 p.2 h, hA, fun p h hr => hB p.1 p.2 h hr⟩
theorem JoinW2.direct {α1 α2 : Type} {A : (α1 → α2 → Hp → Prop) → Prop} {B : α1 → α2 → Hp → Prop} (hA : A B) : JoinW2 A B := JoinW2.intro B hA (fun _ _ _ hr => hr)
def LoopW2 {α1 α2 : Type} (body : (α1 → α2 → Hp → Prop) → α1 → α2 → Hp → Prop) (x1 : α1) (x2 : α2) (h : Hp) : Prop :=
  LoopT (σ := α1 × α2) (fun R p h => body (fun x1 x2 h => R (x1, x2) h) p.1 p.2 h) (x1, x2) h
theorem LoopW2.intro {α1 α2 : Type} {body : (α1 → α2 → Hp → Prop) → α1 → α2 → Hp → Prop} {x1 : α1} {x2 : α2} {h : Hp} (I : α1 → α2 → Hp → Prop) (μ : α1 → α2 → Hp → Nat)
    (h0 : I x1 x2 h) (hr : ∀ x1 x2 k, I x1 x2 k → body (fun y1 y2 k' => I y1 y2 k' ∧ μ y1 y2 k' < μ x1 x2 k) x1 x2 k) : LoopW2 body x1 x2 h :=
  ⟨fun p h => I p.1 p.2 h, fun p h => μ p.1 p.2 h, h0, fun p k hk => hr p.1 p.2 k hk⟩

def JoinW3 {α1 α2 α3 : Type} (A : (α1 → α2 → α3 → Hp → Prop) → Prop) (B : α1 → α2 → α3 → Hp → Prop) : Prop :=
  JoinT (σ := α1 × α2 × α3) (fun R => A (fun x1 x2 x3 h => R (x1, x2, x3) h)) (fun p h => B p.1 p.2.1 p.2.2 h)
theorem JoinW3.intro {α1 α2 α3 : Type} {A : (α1 → α2 → α3 → Hp → Prop) → Prop} {B : α1 → α2 → α3 → Hp → Prop} (R : α1 → α2 → α3 → Hp → Prop) (hA : A R) (hB : ∀ x1 x2 x3 h, R x1 x2 x3 h → B x1 x2 x3 h) : JoinW3 A B :=
  ⟨fun p h => R p.1 p.2.1 p.2.2 h, hA, fun p h hr => hB p.1 p.2.1 p.2.2 h hr⟩
theorem JoinW3.direct {α1 α2 α3 : Type} {A : (α1 → α2 → α3 → Hp → Prop) → Prop} {B : α1 → α2 → α3 → Hp → Prop} (hA : A B) : JoinW3 A B := JoinW3.intro B hA (fun _ _ _ _ hr => hr)
def LoopW3 {α1 α2 α3 : Type} (body : (α1 → α2 → α3 → Hp → Prop) → α1 → α2 → α3 → Hp → Prop) (x1 : α1) (x2 : α2) (x3 : α3) (h : Hp) : Prop :=
  LoopT (σ := α1 × α2 × α3) (fun R p h => body (fun x1 x2 x3 h => R (x1, x2, x3) h) p.1 p.2.1 p.2.2 h) (x1, x2, x3) h
theorem LoopW3.intro {α1 α2 α3 : Type} {body : (α1 → α2 → α3 → Hp → Prop) → α1 → α2 → α3 → Hp → Prop} {x1 : α1} {x2 : α2} {x3 : α3} {h : Hp} (I : α1 → α2 → α3 → Hp → Prop) (μ : α1 → α2 → α3 → Hp → Nat)
    (h0 : I x1 x2 x3 h) (hr : ∀ x1 x2 x3 k, I x1 x2 x3 k → body (fun y1 y2 y3 k' => I y1 y2 y3 k' ∧ μ y1 y2 y3 k' < μ x1 x2 x3 k) x1 x2 x3 k) : LoopW3 body x1 x2 x3 h :=
  ⟨fun p h => I p.1 p.2.1 p.2.2 h, fun p h => μ p.1 p.2.1 p.2.2 h, h0, fun p k hk => hr p.1 p.2.1 p.2.2 k hk⟩

def JoinW4 {α1 α2 α3 α4 : Type} (A : (α1 → α2 → α3 → α4 → Hp → Prop) → Prop) (B : α1 → α2 → α3 → α4 → Hp → Prop) : Prop :=
  JoinT (σ := α1 × α2 × α3 × α4) (fun R => A (fun x1 x2 x3 x4 h => R (x1, x2, x3, x4) h)) (fun p h => B p.1 p.2.1 p.2.2.1 p.2.2.2 h)
theorem JoinW4.intro {α1 α2 α3 α4 : Type} {A : (α1 → α2 → α3 → α4 → Hp → Prop) → Prop} {B : α1 → α2 → α3 → α4 → Hp → Prop} (R : α1 → α2 → α3 → α4 → Hp → Prop) (hA : A R) (hB : ∀ x1 x2 x3 x4 h, R x1 x2 x3 x4 h → B x1 x2 x3 x4 h) : JoinW4 A B :=
  ⟨fun p h => R p.1 p.2.1 p.2.2.1 p.2.2.2 h, hA, fun p h hr => hB p.1 p.2.1 p.2.2.1 p.2.2.2 h hr⟩
theorem JoinW4.direct {α1 α2 α3 α4 : Type} {A : (α1 → α2 → α3 → α4 → Hp → Prop) → Prop} {B : α1 → α2 → α3 → α4 → Hp → Prop} (hA : A B) : JoinW4 A B := JoinW4.intro B hA (fun _ _ _ _ _ hr => hr)
def LoopW4 {α1 α2 α3 α4 : Type} (body : (α1 → α2 → α3 → α4 → Hp → Prop) → α1 → α2 → α3 → α4 → Hp → Prop) (x1 : α1) (x2 : α2) (x3 : α3) (x4 : α4) (h : Hp) : Prop :=
  LoopT (σ := α1 × α2 × α3 × α4) (fun R p h => body (fun x1 x2 x3 x4 h => R (x1, x2, x3, x4) h) p.1 p.2.1 p.2.2.1 p.2.2.2 h) (x1, x2, x3, x4) h
theorem LoopW4.intro {α1 α2 α3 α4 : Type} {body : (α1 → α2 → α3 → α4 → Hp → Prop) → α1 → α2 → α3 → α4 → Hp → Prop} {x1 : α1} {x2 : α2} {x3 : α3} {x4 : α4} {h : Hp} (I : α1 → α2 → α3 → α4 → Hp → Prop) (μ : α1 → α2 → α3 → α4 → Hp → Nat)
    (h0 : I x1 x2 x3 x4 h) (hr : ∀ x1 x2 x3 x4 k, I x1 x2 x3 x4 k → body (fun y1 y2 y3 y4 k' => I y1 y2 y3 y4 k' ∧ μ y1 y2 y3 y4 k' < μ x1 x2 x3 x4 k) x1 x2 x3 x4 k) : LoopW4 body x1 x2 x3 x4 h :=
  ⟨fun p h => I p.1 p.2.1 p.2.2.1 p.2.2.2 h, fun p h => μ p.1 p.2.1 p.2.2.1 p.2.2.2 h, h0, fun p k hk => hr p.1 p.2.1 p.2.2.1 p.2.2.2 k hk⟩

def JoinW5 {α1 α2 α3 α4 α5 : Type} (A : (α1 → α2 → α3 → α4 → α5 → Hp → Prop) → Prop) (B : α1 → α2 → α3 → α4 → α5 → Hp → Prop) : Prop :=
  JoinT (σ := α1 × α2 × α3 × α4 × α5) (fun R => A (fun x1 x2 x3 x4 x5 h => R (x1, x2, x3, x4, x5) h)) (fun p h => B p.1 p.2.1 p.2.2.1 p.2.2.2.1 p.2.2.2.2 h)
theorem JoinW5.intro {α1 α2 α3 α4 α5 : Type} {A : (α1 → α2 → α3 → α4 → α5 → Hp → Prop) → Prop} {B : α1 → α2 → α3 → α4 → α5 → Hp → Prop} (R : α1 → α2 → α3 → α4 → α5 → Hp → Prop) (hA : A R) (hB : ∀ x1 x2 x3 x4 x5 h, R x1 x2 x3 x4 x5 h → B x1 x2 x3 x4 x5 h) : JoinW5 A B :=
  ⟨fun p h => R p.1 p.2.1 p.2.2.1 p.2.2.2.1 p.2.2.2.2 h, hA, fun p h hr => hB p.1 p.2.1 p.2.2.1 p.2.2.2.1 p.2.2.2.2 h hr⟩
theorem JoinW5.direct {α1 α2 α3 α4 α5 : Type} {A : (α1 → α2 → α3 → α4 → α5 → Hp → Prop) → Prop} {B : α1 → α2 → α3 → α4 → α5 → Hp → Prop} (hA : A B) : JoinW5 A B := JoinW5.intro B hA (fun _ _ _ _ _ _ hr => hr)
def LoopW5 {α1 α2 α3 α4 α5 : Type} (body : (α1 → α2 → α3 → α4 → α5 → Hp → Prop) → α1 → α2 → α3 → α4 → α5 → Hp → Prop) (x1 : α1) (x2 : α2) (x3 : α3) (x4 : α4) (x5 : α5) (h : Hp) : Prop :=
  LoopT (σ := α1 × α2 × α3 × α4 × α5) (fun R p h => body (fun x1 x2 x3 x4 x5 h => R (x1, x2, x3, x4, x5) h) p.1 p.2.1 p.2.2.1 p.2.2.2.1 p.2.2.2.2 h) (x1, x2, x3, x4, x5) h
theorem LoopW5.intro {α1 α2 α3 α4 α5 : Type} {body : (α1 → α2 → α3 → α4 → α5 → Hp → Prop) → α1 → α2 → α3 → α4 → α5 → Hp → Prop} {x1 : α1} {x2 : α2} {x3 : α3} {x4 : α4} {x5 : α5} {h : Hp} (I : α1 → α2 → α3 → α4 → α5 → Hp → Prop) (μ : α1 → α2 → α3 → α4 → α5 → Hp → Nat)
    (h0 : I x1 x2 x3 x4 x5 h) (hr : ∀ x1 x2 x3 x4 x5 k, I x1 x2 x3 x4 x5 k → body (fun y1 y2 y3 y4 y5 k' => I y1 y2 y3 y4 y5 k' ∧ μ y1 y2 y3 y4 y5 k' < μ x1 x2 x3 x4 x5 k) x1 x2 x3 x4 x5 k) : LoopW5 body x1 x2 x3 x4 x5 h :=
  ⟨fun p h => I p.1 p.2.1 p.2.2.1 p.2.2.2.1 p.2.2.2.2 h, fun p h => μ p.1 p.2.1 p.2.2.1 p.2.2.2.1 p.2.2.2.2 h, h0, fun p k hk => hr p.1 p.2.1 p.2.2.1 p.2.2.2.1 p.2.2.2.2 k hk⟩

def JoinW6 {α1 α2 α3 α4 α5 α6 : Type} (A : (α1 → α2 → α3 → α4 → α5 → α6 → Hp → Prop) → Prop) (B : α1 → α2 → α3 → α4 → α5 → α6 → Hp → Prop) : Prop :=
  JoinT (σ := α1 × α2 × α3 × α4 × α5 × α6) (fun R => A (fun x1 x2 x3 x4 x5 x6 h => R (x1, x2, x3, x4, x5, x6) h)) (fun p h => B p.1 p.2.1 p.2.2.1 p.2.2.2.1 p.2.2.2.2.1 p.2.2.2.2.2 h)
theorem JoinW6.intro {α1 α2 α3 α4 α5 α6 : Type} {A : (α1 → α2 → α3 → α4 → α5 → α6 → Hp → Prop) → Prop} {B : α1 → α2 → α3 → α4 → α5 → α6 → Hp → Prop} (R : α1 → α2 → α3 → α4 → α5 → α6 → Hp → Prop) (hA : A R) (hB : ∀ x1 x2 x3 x4 x5 x6 h, R x1 x2 x3 x4 x5 x6 h → B x1 x2 x3 x4 x5 x6 h) : JoinW6 A B :=
  ⟨fun p h => R p.1 p.2.1 p.2.2.1 p.2.2.2.1 p.2.2.2.2.1 p.2.2.2.2.2 h, hA, fun p h hr => hB p.1 p.2.1 p.2.2.1 p.2.2.2.1 p.2.2.2.2.1 p.2.2.2.2.2 h hr⟩
theorem JoinW6.direct {α1 α2 α3 α4 α5 α6 : Type} {A : (α1 → α2 → α3 → α4 → α5 → α6 → Hp → Prop) → Prop} {B : α1 → α2 → α3 → α4 → α5 → α6 → Hp → Prop} (hA : A B) : JoinW6 A B := JoinW6.intro B hA (fun _ _ _ _ _ _ _ hr => hr)
def LoopW6 {α1 α2 α3 α4 α5 α6 : Type} (body : (α1 → α2 → α3 → α4 → α5 → α6 → Hp → Prop) → α1 → α2 → α3 → α4 → α5 → α6 → Hp → Prop) (x1 : α1) (x2 : α2) (x3 : α3) (x4 : α4) (x5 : α5) (x6 : α6) (h : Hp) : Prop :=
  LoopT (σ := α1 × α2 × α3 × α4 × α5 × α6) (fun R p h => body (fun x1 x2 x3 x4 x5 x6 h => R (x1, x2, x3, x4, x5, x6) h) p.1 p.2.1 p.2.2.1 p.2.2.2.1 p.2.2.2.2.1 p.2.2.2.2.2 h) (x1, x2, x3, x4, x5, x6) h
theorem LoopW6.intro {α1 α2 α3 α4 α5 α6 : Type} {body : (α1 → α2 → α3 → α4 → α5 → α6 → Hp → Prop) → α1 → α2 → α3 → α4 → α5 → α6 → Hp → Prop} {x1 : α1} {x2 : α2} {x3 : α3} {x4 : α4} {x5 : α5} {x6 : α6} {h : Hp} (I : α1 → α2 → α3 → α4 → α5 → α6 → Hp → Prop) (μ : α1 → α2 → α3 → α4 → α5 → α6 → Hp → Nat)
    (h0 : I x1 x2 x3 x4 x5 x6 h) (hr : ∀ x1 x2 x3 x4 x5 x6 k, I x1 x2 x3 x4 x5 x6 k → body (fun y1 y2 y3 y4 y5 y6 k' => I y1 y2 y3 y4 y5 y6 k' ∧ μ y1 y2 y3 y4 y5 y6 k' < μ x1 x2 x3 x4 x5 x6 k) x1 x2 x3 x4 x5 x6 k) : LoopW6 body x1 x2 x3 x4 x5 x6 h :=
  ⟨fun p h => I p.1 p.2.1 p.2.2.1 p.2.2.2.1 p.2.2.2.2.1 p.2.2.2.2.2 h, fun p h => μ p.1 p.2.1 p.2.2.1 p.2.2.2.1 p.2.2.2.2.1 p.2.2.2.2.2 h, h0, fun p k hk => hr p.1 p.2.1 p.2.2.1 p.2.2.2.1 p.2.2.2.2.1 p.2.2.2.2.2 k hk⟩

def JoinW7 {α1 α2 α3 α4 α5 α6 α7 : Type} (A : (α1 → α2 → α3 → α4 → α5 → α6 → α7 → Hp → Prop) → Prop) (B : α1 → α2 → α3 → α4 → α5 → α6 → α7 → Hp → Prop) : Prop :=
  JoinT (σ := α1 × α2 × α3 × α4 × α5 × α6 × α7) (fun R => A (fun x1 x2 x3 x4 x5 x6 x7 h => R (x1, x2, x3, x4, x5, x6, x7) h)) (fun p h => B p.1 p.2.1 p.2.2.1 p.2.2.2.1 p.2.2.2.2.1 p.2.2.2.2.2.1 p.2.2.2.2.2.2 h)
theorem JoinW7.intro {α1 α2 α3 α4 α5 α6 α7 : Type} {A : (α1 → α2 → α3 → α4 → α5 → α6 → α7 → Hp → Prop) → Prop} {B : α1 → α2 → α3 → α4 → α5 → α6 → α7 → Hp → Prop} (R : α1 → α2 → α3 → α4 → α5 → α6 → α7 → Hp → Prop) (hA : A R) (hB : ∀ x1 x2 x3 x4 x5 x6 x7 h, R x1 x2 x3 x4 x5 x6 x7 h → B x1 x2 x3 x4 x5 x6 x7 h) : JoinW7 A B :=
  ⟨fun p h => R p.1 p.2.1 p.2.2.1 p.2.2.2.1 p.2.2.2.2.1 p.2.2.2.2.2.1 p.2.2.2.2.2.2 h, hA, fun p h hr => hB p.1 p.2.1 p.2.2.1 p.2.2.2.1 p.2.2.2.2.1 p.2.2.2.2.2.1 p.2.2.2.2.2.2 h hr⟩
theorem JoinW7.direct {α1 α2 α3 α4 α5 α6 α7 : Type} {A : (α1 → α2 → α3 → α4 → α5 → α6 → α7 → Hp → Prop) → Prop} {B : α1 → α2 → α3 → α4 → α5 → α6 → α7 → Hp → Prop} (hA : A B) : JoinW7 A B := JoinW7.intro B hA (fun _ _ _ _ _ _ _ _ hr => hr)
def LoopW7 {α1 α2 α3 α4 α5 α6 α7 : Type} (body : (α1 → α2 → α3 → α4 → α5 → α6 → α7 → Hp → Prop) → α1 → α2 → α3 → α4 → α5 → α6 → α7 → Hp → Prop) (x1 : α1) (x2 : α2) (x3 : α3) (x4 : α4) (x5 : α5) (x6 : α6) (x7 : α7) (h : Hp) : Prop :=
  LoopT (σ := α1 × α2 × α3 × α4 × α5 × α6 × α7) (fun R p h => body (fun x1 x2 x3 x4 x5 x6 x7 h => R (x1, x2, x3, x4, x5, x6, x7) h) p.1 p.2.1 p.2.2.1 p.2.2.2.1 p.2.2.2.2.1 p.2.2.2.2.2.1 p.2.2.2.2.2.2 h) (x1, x2, x3, x4, x5, x6, x7) h
theorem LoopW7.intro {α1 α2 α3 α4 α5 α6 α7 : Type} {body : (α1 → α2 → α3 → α4 → α5 → α6 → α7 → Hp → Prop) → α1 → α2 → α3 → α4 → α5 → α6 → α7 → Hp → Prop} {x1 : α1} {x2 : α2} {x3 : α3} {x4 : α4} {x5 : α5} {x6 : α6} {x7 : α7} {h : Hp} (I : α1 → α2 → α3 → α4 → α5 → α6 → α7 → Hp → Prop) (μ : α1 → α2 → α3 → α4 → α5 → α6 → α7 → Hp → Nat)
    (h0 : I x1 x2 x3 x4 x5 x6 x7 h) (hr : ∀ x1 x2 x3 x4 x5 x6 x7 k, I x1 x2 x3 x4 x5 x6 x7 k → body (fun y1 y2 y3 y4 y5 y6 y7 k' => I y1 y2 y3 y4 y5 y6 y7 k' ∧ μ y1 y2 y3 y4 y5 y6 y7 k' < μ x1 x2 x3 x4 x5 x6 x7 k) x1 x2 x3 x4 x5 x6 x7 k) : LoopW7 body x1 x2 x3 x4 x5 x6 x7 h :=
  ⟨fun p h => I p.1 p.2.1 p.2.2.1 p.2.2.2.1 p.2.2.2.2.1 p.2.2.2.2.2.1 p.2.2.2.2.2.2 h, fun p h => μ p.1 p.2.1 p.2.2.1 p.2.2.2.1 p.2.2.2.2.1 p.2.2.2.2.2.1 p.2.2.2.2.2.2 h, h0, fun p k hk => hr p.1 p.2.1 p.2.2.1 p.2.2.2.1 p.2.2.2.2.1 p.2.2.2.2.2.1 p.2.2.2.2.2.2 k hk⟩

def JoinW8 {α1 α2 α3 α4 α5 α6 α7 α8 : Type} (A : (α1 → α2 → α3 → α4 → α5 → α6 → α7 → α8 → Hp → Prop) → Prop) (B : α1 → α2 → α3 → α4 → α5 → α6 → α7 → α8 → Hp → Prop) : Prop :=
  JoinT (σ := α1 × α2 × α3 × α4 × α5 × α6 × α7 × α8) (fun R => A (fun x1 x2 x3 x4 x5 x6 x7 x8 h => R (x1, x2, x3, x4, x5, x6, x7, x8) h)) (fun p h => B p.1 p.2.1 p.2.2.1 p.2.2.2.1 p.2.2.2.2.1 p.2.2.2.2.2.1 p.2.2.2.2.2.2.1 p.2.2.2.2.2.2.2 h)
theorem JoinW8.intro {α1 α2 α3 α4 α5 α6 α7 α8 : Type} {A : (α1 → α2 → α3 → α4 → α5 → α6 → α7 → α8 → Hp → Prop) → Prop} {B : α1 → α2 → α3 → α4 → α5 → α6 → α7 → α8 → Hp → Prop} (R : α1 → α2 → α3 → α4 → α5 → α6 → α7 → α8 → Hp → Prop) (hA : A R) (hB : ∀ x1 x2 x3 x4 x5 x6 x7 x8 h, R x1 x2 x3 x4 x5 x6 x7 x8 h → B x1 x2 x3 x4 x5 x6 x7 x8 h) : JoinW8 A B :=
  ⟨fun p h => R p.1 p.2.1 p.2.2.1 p.2.2.2.1 p.2.2.2.2.1 p.2.2.2.2.2.1 p.2.2.2.2.2.2.1 p.2.2.2.2.2.2.2 h, hA, fun p h hr => hB p.1 p.2.1 p.2.2.1 p.2.2.2.1 p.2.2.2.2.1 p.2.2.2.2.2.1 p.2.2.2.2.2.2.1 p.2.2.2.2.2.2.2 h hr⟩
theorem JoinW8.direct {α1 α2 α3 α4 α5 α6 α7 α8 : Type} {A : (α1 → α2 → α3 → α4 → α5 → α6 → α7 → α8 → Hp → Prop) → Prop} {B : α1 → α2 → α3 → α4 → α5 → α6 → α7 → α8 → Hp → Prop} (hA : A B) : JoinW8 A B := JoinW8.intro B hA (fun _ _ _ _ _ _ _ _ _ hr => hr)
def LoopW8 {α1 α2 α3 α4 α5 α6 α7 α8 : Type} (body : (α1 → α2 → α3 → α4 → α5 → α6 → α7 → α8 → Hp → Prop) → α1 → α2 → α3 → α4 → α5 → α6 → α7 → α8 → Hp → Prop) (x1 : α1) (x2 : α2) (x3 : α3) (x4 : α4) (x5 : α5) (x6 : α6) (x7 : α7) (x8 : α8) (h : Hp) : Prop :=
  LoopT (σ := α1 × α2 × α3 × α4 × α5 × α6 × α7 × α8) (fun R p h => body (fun x1 x2 x3 x4 x5 x6 x7 x8 h => R (x1, x2, x3, x4, x5, x6, x7, x8) h) p.1 p.2.1 p.2.2.1 p.2.2.2.1 p.2.2.2.2.1 p.2.2.2.2.2.1 p.2.2.2.2.2.2.1 p.2.2.2.2.2.2.2 h) (x1, x2, x3, x4, x5, x6, x7, x8) h
theorem LoopW8.intro {α1 α2 α3 α4 α5 α6 α7 α8 : Type} {body : (α1 → α2 → α3 → α4 → α5 → α6 → α7 → α8 → Hp → Prop) → α1 → α2 → α3 → α4 → α5 → α6 → α7 → α8 → Hp → Prop} {x1 : α1} {x2 : α2} {x3 : α3} {x4 : α4} {x5 : α5} {x6 : α6} {x7 : α7} {x8 : α8} {h : Hp} (I : α1 → α2 → α3 → α4 → α5 → α6 → α7 → α8 → Hp → Prop) (μ : α1 → α2 → α3 → α4 → α5 → α6 → α7 → α8 → Hp → Nat)
    (h0 : I x1 x2 x3 x4 x5 x6 x7 x8 h) (hr : ∀ x1 x2 x3 x4 x5 x6 x7 x8 k, I x1 x2 x3 x4 x5 x6 x7 x8 k → body (fun y1 y2 y3 y4 y5 y6 y7 y8 k' => I y1 y2 y3 y4 y5 y6 y7 y8 k' ∧ μ y1 y2 y3 y4 y5 y6 y7 y8 k' < μ x1 x2 x3 x4 x5 x6 x7 x8 k) x1 x2 x3 x4 x5 x6 x7 x8 k) : LoopW8 body x1 x2 x3 x4 x5 x6 x7 x8 h :=
  ⟨fun p h => I p.1 p.2.1 p.2.2.1 p.2.2.2.1 p.2.2.2.2.1 p.2.2.2.2.2.1 p.2.2.2.2.2.2.1 p.2.2.2.2.2.2.2 h, fun p h => μ p.1 p.2.1 p.2.2.1 p.2.2.2.1 p.2.2.2.2.1 p.2.2.2.2.2.1 p.2.2.2.2.2.2.1 p.2.2.2.2.2.2.2 h, h0, fun p k hk => hr p.1 p.2.1 p.2.2.1 p.2.2.2.1 p.2.2.2.2.1 p.2.2.2.2.2.1 p.2.2.2.2.2.2.1 p.2.2.2.2.2.2.2 k hk⟩

def JoinW9 {α1 α2 α3 α4 α5 α6 α7 α8 α9 : Type} (A : (α1 → α2 → α3 → α4 → α5 → α6 → α7 → α8 → α9 → Hp → Prop) → Prop) (B : α1 → α2 → α3 → α4 → α5 → α6 → α7 → α8 → α9 → Hp → Prop) : Prop :=
  JoinT (σ := α1 × α2 × α3 × α4 × α5 × α6 × α7 × α8 × α9) (fun R => A (fun x1 x2 x3 x4 x5 x6 x7 x8 x9 h => R (x1, x2, x3, x4, x5, x6, x7, x8, x9) h)) (fun p h => B p.1 p.2.1 p.2.2.1 p.2.2.2.1 p.2.2.2.2.1 p.2.2.2.2.2.1 p.2.2.2.2.2.2.1 p.2.2.2.2.2.2.2.1 p.2.2.2.2.2.2.2.2 h)
theorem JoinW9.intro {α1 α2 α3 α4 α5 α6 α7 α8 α9 : Type} {A : (α1 → α2 → α3 → α4 → α5 → α6 → α7 → α8 → α9 → Hp → Prop) → Prop} {B : α1 → α2 → α3 → α4 → α5 → α6 → α7 → α8 → α9 → Hp → Prop} (R : α1 → α2 → α3 → α4 → α5 → α6 → α7 → α8 → α9 → Hp → Prop) (hA : A R) (hB : ∀ x1 x2 x3 x4 x5 x6 x7 x8 x9 h, R x1 x2 x3 x4 x5 x6 x7 x8 x9 h → B x1 x2 x3 x4 x5 x6 x7 x8 x9 h) : JoinW9 A B :=
  ⟨fun p h => R p.1 p.2.1 p.2.2.1 p.2.2.2.1 p.2.2.2.2.1 p.2.2.2.2.2.1 p.2.2.2.2.2.2.1 p.2.2.2.2.2.2.2.1 p.2.2.2.2.2.2.2.2 h, hA, fun p h hr => hB p.1 p.2.1 p.2.2.1 p.2.2.2.1 p.2.2.2.2.1 p.2.2.2.2.2.1 p.2.2.2.2.2.2.1 p.2.2.2.2.2.2.2.1 p.2.2.2.2.2.2.2.2 h hr⟩
theorem JoinW9.direct {α1 α2 α3 α4 α5 α6 α7 α8 α9 : Type} {A : (α1 → α2 → α3 → α4 → α5 → α6 → α7 → α8 → α9 → Hp → Prop) → Prop} {B : α1 → α2 → α3 → α4 → α5 → α6 → α7 → α8 → α9 → Hp → Prop} (hA : A B) : JoinW9 A B := JoinW9.intro B hA (fun _ _ _ _ _ _ _ _ _ _ hr => hr)
def LoopW9 {α1 α2 α3 α4 α5 α6 α7 α8 α9 : Type} (body : (α1 → α2 → α3 → α4 → α5 → α6 → α7 → α8 → α9 → Hp → Prop) → α1 → α2 → α3 → α4 → α5 → α6 → α7 → α8 → α9 → Hp → Prop) (x1 : α1) (x2 : α2) (x3 : α3) (x4 : α4) (x5 : α5) (x6 : α6) (x7 : α7) (x8 : α8) (x9 : α9) (h : Hp) : Prop :=
  LoopT (σ := α1 × α2 × α3 × α4 × α5 × α6 × α7 × α8 × α9) (fun R p h => body (fun x1 x2 x3 x4 x5 x6 x7 x8 x9 h => R (x1, x2, x3, x4, x5, x6, x7, x8, x9) h) p.1 p.2.1 p.2.2.1 p.2.2.2.1 p.2.2.2.2.1 p.2.2.2.2.2.1 p.2.2.2.2.2.2.1 p.2.2.2.2.2.2.2.1 p.2.2.2.2.2.2.2.2 h) (x1, x2, x3, x4, x5, x6, x7, x8, x9) h
theorem LoopW9.intro {α1 α2 α3 α4 α5 α6 α7 α8 α9 : Type} {body : (α1 → α2 → α3 → α4 → α5 → α6 → α7 → α8 → α9 → Hp → Prop) → α1 → α2 → α3 → α4 → α5 → α6 → α7 → α8 → α9 → Hp → Prop} {x1 : α1} {x2 : α2} {x3 : α3} {x4 : α4} {x5 : α5} {x6 : α6} {x7 : α7} {x8 : α8} {x9 : α9} {h : Hp} (I : α1 → α2 → α3 → α4 → α5 → α6 → α7 → α8 → α9 → Hp → Prop) (μ : α1 → α2 → α3 → α4 → α5 → α6 → α7 → α8 → α9 → Hp → Nat)
    (h0 : I x1 x2 x3 x4 x5 x6 x7 x8 x9 h) (hr : ∀ x1 x2 x3 x4 x5 x6 x7 x8 x9 k, I x1 x2 x3 x4 x5 x6 x7 x8 x9 k → body (fun y1 y2 y3 y4 y5 y6 y7 y8 y9 k' => I y1 y2 y3 y4 y5 y6 y7 y8 y9 k' ∧ μ y1 y2 y3 y4 y5 y6 y7 y8 y9 k' < μ x1 x2 x3 x4 x5 x6 x7 x8 x9 k) x1 x2 x3 x4 x5 x6 x7 x8 x9 k) : LoopW9 body x1 x2 x3 x4 x5 x6 x7 x8 x9 h :=
  ⟨fun p h => I p.1 p.2.1 p.2.2.1 p.2.2.2.1 p.2.2.2.2.1 p.2.2.2.2.2.1 p.2.2.2.2.2.2.1 p.2.2.2.2.2.2.2.1 p.2.2.2.2.2.2.2.2 h, fun p h => μ p.1 p.2.1 p.2.2.1 p.2.2.2.1 p.2.2.2.2.1 p.2.2.2.2.2.1 p.2.2.2.2.2.2.1 p.2.2.2.2.2.2.2.1 p.2.2.2.2.2.2.2.2 h, h0, fun p k hk => hr p.1 p.2.1 p.2.2.1 p.2.2.2.1 p.2.2.2.2.1 p.2.2.2.2.2.1 p.2.2.2.2.2.2.1 p.2.2.2.2.2.2.2.1 p.2.2.2.2.2.2.2.2 k hk⟩

def JoinW10 {α1 α2 α3 α4 α5 α6 α7 α8 α9 α10 : Type} (A : (α1 → α2 → α3 → α4 → α5 → α6 → α7 → α8 → α9 → α10 → Hp → Prop) → Prop) (B : α1 → α2 → α3 → α4 → α5 → α6 → α7 → α8 → α9 → α10 → Hp → Prop) : Prop :=
  JoinT (σ := α1 × α2 × α3 × α4 × α5 × α6 × α7 × α8 × α9 × α10) (fun R => A (fun x1 x2 x3 x4 x5 x6 x7 x8 x9 x10 h => R (x1, x2, x3, x4, x5, x6, x7, x8, x9, x10) h)) (fun p h => B p.1 p.2.1 p.2.2.1 p.2.2.2.1 p.2.2.2.2.1 p.2.2.2.2.2.1 p.2.2.2.2.2.2.1 p.2.2.2.2.2.2.2.1 p.2.2.2.2.2.2.2.2.1 p.2.2.2.2.2.2.2.2.2 h)
theorem JoinW10.intro {α1 α2 α3 α4 α5 α6 α7 α8 α9 α10 : Type} {A : (α1 → α2 → α3 → α4 → α5 → α6 → α7 → α8 → α9 → α10 → Hp → Prop) → Prop} {B : α1 → α2 → α3 → α4 → α5 → α6 → α7 → α8 → α9 → α10 → Hp → Prop} (R : α1 → α2 → α3 → α4 → α5 → α6 → α7 → α8 → α9 → α10 → Hp → Prop) (hA : A R) (hB : ∀ x1 x2 x3 x4 x5 x6 x7 x8 x9 x10 h, R x1 x2 x3 x4 x5 x6 x7 x8 x9 x10 h → B x1 x2 x3 x4 x5 x6 x7 x8 x9 x10 h) : JoinW10 A B :=
  ⟨fun p h => R p.1 p.2.1 p.2.2.1 p.2.2.2.1 p.2.2.2.2.1 p.2.2.2.2.2.1 p.2.2.2.2.2.2.1 p.2.2.2.2.2.2.2.1 p.2.2.2.2.2.2.2.2.1 p.2.2.2.2.2.2.2.2.2 h, hA, fun p h hr => hB p.1 p.2.1 p.2.2.1 p.2.2.2.1 p.2.2.2.2.1 p.2.2.2.2.2.1 p.2.2.2.2.2.2.1 p.2.2.2.2.2.2.2.1 p.2.2.2.2.2.2.2.2.1 p.2.2.2.2.2.2.2.2.2 h hr⟩
theorem JoinW10.direct {α1 α2 α3 α4 α5 α6 α7 α8 α9 α10 : Type} {A : (α1 → α2 → α3 → α4 → α5 → α6 → α7 → α8 → α9 → α10 → Hp → Prop) → Prop} {B : α1 → α2 → α3 → α4 → α5 → α6 → α7 → α8 → α9 → α10 → Hp → Prop} (hA : A B) : JoinW10 A B := JoinW10.intro B hA (fun _ _ _ _ _ _ _ _ _ _ _ hr => hr)
def LoopW10 {α1 α2 α3 α4 α5 α6 α7 α8 α9 α10 : Type} (body : (α1 → α2 → α3 → α4 → α5 → α6 → α7 → α8 → α9 → α10 → Hp → Prop) → α1 → α2 → α3 → α4 → α5 → α6 → α7 → α8 → α9 → α10 → Hp → Prop) (x1 : α1) (x2 : α2) (x3 : α3) (x4 : α4) (x5 : α5) (x6 : α6) (x7 : α7) (x8 : α8) (x9 : α9) (x10 : α10) (h : Hp) : Prop :=
  LoopT (σ := α1 × α2 × α3 × α4 × α5 × α6 × α7 × α8 × α9 × α10) (fun R p h => body (fun x1 x2 x3 x4 x5 x6 x7 x8 x9 x10 h => R (x1, x2, x3, x4, x5, x6, x7, x8, x9, x10) h) p.1 p.2.1 p.2.2.1 p.2.2.2.1 p.2.2.2.2.1 p.2.2.2.2.2.1 p.2.2.2.2.2.2.1 p.2.2.2.2.2.2.2.1 p.2.2.2.2.2.2.2.2.1 p.2.2.2.2.2.2.2.2.2 h) (x1, x2, x3, x4, x5, x6, x7, x8, x9, x10) h
theorem LoopW10.intro {α1 α2 α3 α4 α5 α6 α7 α8 α9 α10 : Type} {body : (α1 → α2 → α3 → α4 → α5 → α6 → α7 → α8 → α9 → α10 → Hp → Prop) → α1 → α2 → α3 → α4 → α5 → α6 → α7 → α8 → α9 → α10 → Hp → Prop} {x1 : α1} {x2 : α2} {x3 : α3} {x4 : α4} {x5 : α5} {x6 : α6} {x7 : α7} {x8 : α8} {x9 : α9} {x10 : α10} {h : Hp} (I : α1 → α2 → α3 → α4 → α5 → α6 → α7 → α8 → α9 → α10 → Hp → Prop) (μ : α1 → α2 → α3 → α4 → α5 → α6 → α7 → α8 → α9 → α10 → Hp → Nat)
    (h0 : I x1 x2 x3 x4 x5 x6 x7 x8 x9 x10 h) (hr : ∀ x1 x2 x3 x4 x5 x6 x7 x8 x9 x10 k, I x1 x2 x3 x4 x5 x6 x7 x8 x9 x10 k → body (fun y1 y2 y3 y4 y5 y6 y7 y8 y9 y10 k' => I y1 y2 y3 y4 y5 y6 y7 y8 y9 y10 k' ∧ μ y1 y2 y3 y4 y5 y6 y7 y8 y9 y10 k' < μ x1 x2 x3 x4 x5 x6 x7 x8 x9 x10 k) x1 x2 x3 x4 x5 x6 x7 x8 x9 x10 k) : LoopW10 body x1 x2 x3 x4 x5 x6 x7 x8 x9 x10 h :=
  ⟨fun p h => I p.1 p.2.1 p.2.2.1 p.2.2.2.1 p.2.2.2.2.1 p.2.2.2.2.2.1 p.2.2.2.2.2.2.1 p.2.2.2.2.2.2.2.1 p.2.2.2.2.2.2.2.2.1 p.2.2.2.2.2.2.2.2.2 h, fun p h => μ p.1 p.2.1 p.2.2.1 p.2.2.2.1 p.2.2.2.2.1 p.2.2.2.2.2.1 p.2.2.2.2.2.2.1 p.2.2.2.2.2.2.2.1 p.2.2.2.2.2.2.2.2.1 p.2.2.2.2.2.2.2.2.2 h, h0, fun p k hk => hr p.1 p.2.1 p.2.2.1 p.2.2.2.1 p.2.2.2.2.1 p.2.2.2.2.2.1 p.2.2.2.2.2.2.1 p.2.2.2.2.2.2.2.1 p.2.2.2.2.2.2.2.2.1 p.2.2.2.2.2.2.2.2.2 k hk⟩

def JoinW11 {α1 α2 α3 α4 α5 α6 α7 α8 α9 α10 α11 : Type} (A : (α1 → α2 → α3 → α4 → α5 → α6 → α7 → α8 → α9 → α10 → α11 → Hp → Prop) → Prop) (B : α1 → α2 → α3 → α4 → α5 → α6 → α7 → α8 → α9 → α10 → α11 → Hp → Prop) : Prop :=
  JoinT (σ := α1 × α2 × α3 × α4 × α5 × α6 × α7 × α8 × α9 × α10 × α11) (fun R => A (fun x1 x2 x3 x4 x5 x6 x7 x8 x9 x10 x11 h => R (x1, x2, x3, x4, x5, x6, x7, x8, x9, x10, x11) h)) (fun p h => B p.1 p.2.1 p.2.2.1 p.2.2.2.1 p.2.2.2.2.1 p.2.2.2.2.2.1 p.2.2.2.2.2.2.1 p.2.2.2.2.2.2.2.1 p.2.2.2.2.2.2.2.2.1 p.2.2.2.2.2.2.2.2.2.1 p.2.2.2.2.2.2.2.2.2.2 h)
theorem JoinW11.intro {α1 α2 α3 α4 α5 α6 α7 α8 α9 α10 α11 : Type} {A : (α1 → α2 → α3 → α4 → α5 → α6 → α7 → α8 → α9 → α10 → α11 → Hp → Prop) → Prop} {B : α1 → α2 → α3 → α4 → α5 → α6 → α7 → α8 → α9 → α10 → α11 → Hp → Prop} (R : α1 → α2 → α3 → α4 → α5 → α6 → α7 → α8 → α9 → α10 → α11 → Hp → Prop) (hA : A R) (hB : ∀ x1 x2 x3 x4 x5 x6 x7 x8 x9 x10 x11 h, R x1 x2 x3 x4 x5 x6 x7 x8 x9 x10 x11 h → B x1 x2 x3 x4 x5 x6 x7 x8 x9 x10 x11 h) : JoinW11 A B :=
  ⟨fun p h => R p.1 p.2.1 p.2.2.1 p.2.2.2.1 p.2.2.2.2.1 p.2.2.2.2.2.1 p.2.2.2.2.2.2.1 p.2.2.2.2.2.2.2.1 p.2.2.2.2.2.2.2.2.1 p.2.2.2.2.2.2.2.2.2.1 p.2.2.2.2.2.2.2.2.2.2 h, hA, fun p h hr => hB p.1 p.2.1 p.2.2.1 p.2.2.2.1 p.2.2.2.2.1 p.2.2.2.2.2.1 p.2.2.2.2.2.2.1 p.2.2.2.2.2.2.2.1 p.2.2.2.2.2.2.2.2.1 p.2.2.2.2.2.2.2.2.2.1 p.2.2.2.2.2.2.2.2.2.2 h hr⟩
theorem JoinW11.direct {α1 α2 α3 α4 α5 α6 α7 α8 α9 α10 α11 : Type} {A : (α1 → α2 → α3 → α4 → α5 → α6 → α7 → α8 → α9 → α10 → α11 → Hp → Prop) → Prop} {B : α1 → α2 → α3 → α4 → α5 → α6 → α7 → α8 → α9 → α10 → α11 → Hp → Prop} (hA : A B) : JoinW11 A B := JoinW11.intro B hA (fun _ _ _ _ _ _ _ _ _ _ _ _ hr => hr)
def LoopW11 {α1 α2 α3 α4 α5 α6 α7 α8 α9 α10 α11 : Type} (body : (α1 → α2 → α3 → α4 → α5 → α6 → α7 → α8 → α9 → α10 → α11 → Hp → Prop) → α1 → α2 → α3 → α4 → α5 → α6 → α7 → α8 → α9 → α10 → α11 → Hp → Prop) (x1 : α1) (x2 : α2) (x3 : α3) (x4 : α4) (x5 : α5) (x6 : α6) (x7 : α7) (x8 : α8) (x9 : α9) (x10 : α10) (x11 : α11) (h : Hp) : Prop :=
  LoopT (σ := α1 × α2 × α3 × α4 × α5 × α6 × α7 × α8 × α9 × α10 × α11) (fun R p h => body (fun x1 x2 x3 x4 x5 x6 x7 x8 x9 x10 x11 h => R (x1, x2, x3, x4, x5, x6, x7, x8, x9, x10, x11) h) p.1 p.2.1 p.2.2.1 p.2.2.2.1 p.2.2.2.2.1 p.2.2.2.2.2.1 p.2.2.2.2.2.2.1 p.2.2.2.2.2.2.2.1 p.2.2.2.2.2.2.2.2.1 p.2.2.2.2.2.2.2.2.2.1 p.2.2.2.2.2.2.2.2.2.2 h) (x1, x2, x3, x4, x5, x6, x7, x8, x9, x10, x11) h
theorem LoopW11.intro {α1 α2 α3 α4 α5 α6 α7 α8 α9 α10 α11 : Type} {body : (α1 → α2 → α3 → α4 → α5 → α6 → α7 → α8 → α9 → α10 → α11 → Hp → Prop) → α1 → α2 → α3 → α4 → α5 → α6 → α7 → α8 → α9 → α10 → α11 → Hp → Prop} {x1 : α1} {x2 : α2} {x3 : α3} {x4 : α4} {x5 : α5} {x6 : α6} {x7 : α7} {x8 : α8} {x9 : α9} {x10 : α10} {x11 : α11} {h : Hp} (I : α1 → α2 → α3 → α4 → α5 → α6 → α7 → α8 → α9 → α10 → α11 → Hp → Prop) (μ : α1 → α2 → α3 → α4 → α5 → α6 → α7 → α8 → α9 → α10 → α11 → Hp → Nat)
    (h0 : I x1 x2 x3 x4 x5 x6 x7 x8 x9 x10 x11 h) (hr : ∀ x1 x2 x3 x4 x5 x6 x7 x8 x9 x10 x11 k, I x1 x2 x3 x4 x5 x6 x7 x8 x9 x10 x11 k → body (fun y1 y2 y3 y4 y5 y6 y7 y8 y9 y10 y11 k' => I y1 y2 y3 y4 y5 y6 y7 y8 y9 y10 y11 k' ∧ μ y1 y2 y3 y4 y5 y6 y7 y8 y9 y10 y11 k' < μ x1 x2 x3 x4 x5 x6 x7 x8 x9 x10 x11 k) x1 x2 x3 x4 x5 x6 x7 x8 x9 x10 x11 k) : LoopW11 body x1 x2 x3 x4 x5 x6 x7 x8 x9 x10 x11 h :=
  ⟨fun p h => I p.1 p.2.1 p.2.2.1 p.2.2.2.1 p.2.2.2.2.1 p.2.2.2.2.2.1 p.2.2.2.2.2.2.1 p.2.2.2.2.2.2.2.1 p.2.2.2.2.2.2.2.2.1 p.2.2.2.2.2.2.2.2.2.1 p.2.2.2.2.2.2.2.2.2.2 h, fun p h => μ p.1 p.2.1 p.2.2.1 p.2.2.2.1 p.2.2.2.2.1 p.2.2.2.2.2.1 p.2.2.2.2.2.2.1 p.2.2.2.2.2.2.2.1 p.2.2.2.2.2.2.2.2.1 p.2.2.2.2.2.2.2.2.2.1 p.2.2.2.2.2.2.2.2.2.2 h, h0, fun p k hk => hr p.1 p.2.1 p.2.2.1 p.2.2.2.1 p.2.2.2.2.1 p.2.2.2.2.2.1 p.2.2.2.2.2.2.1 p.2.2.2.2.2.2.2.1 p.2.2.2.2.2.2.2.2.1 p.2.2.2.2.2.2.2.2.2.1 p.2.2.2.2.2.2.2.2.2.2 k hk⟩

def JoinW12 {α1 α2 α3 α4 α5 α6 α7 α8 α9 α10 α11 α12 : Type} (A : (α1 → α2 → α3 → α4 → α5 → α6 → α7 → α8 → α9 → α10 → α11 → α12 → Hp → Prop) → Prop) (B : α1 → α2 → α3 → α4 → α5 → α6 → α7 → α8 → α9 → α10 → α11 → α12 → Hp → Prop) : Prop :=
  JoinT (σ := α1 × α2 × α3 × α4 × α5 × α6 × α7 × α8 × α9 × α10 × α11 × α12) (fun R => A (fun x1 x2 x3 x4 x5 x6 x7 x8 x9 x10 x11 x12 h => R (x1, x2, x3, x4, x5, x6, x7, x8, x9, x10, x11, x12) h)) (fun p h => B p.1 p.2.1 p.2.2.1 p.2.2.2.1 p.2.2.2.2.1 p.2.2.2.2.2.1 p.2.2.2.2.2.2.1 p.2.2.2.2.2.2.2.1 p.2.2.2.2.2.2.2.2.1 p.2.2.2.2.2.2.2.2.2.1 p.2.2.2.2.2.2.2.2.2.2.1 p.2.2.2.2.2.2.2.2.2.2.2 h)
theorem JoinW12.intro {α1 α2 α3 α4 α5 α6 α7 α8 α9 α10 α11 α12 : Type} {A : (α1 → α2 → α3 → α4 → α5 → α6 → α7 → α8 → α9 → α10 → α11 → α12 → Hp → Prop) → Prop} {B : α1 → α2 → α3 → α4 → α5 → α6 → α7 → α8 → α9 → α10 → α11 → α12 → Hp → Prop} (R : α1 → α2 → α3 → α4 → α5 → α6 → α7 → α8 → α9 → α10 → α11 → α12 → Hp → Prop) (hA : A R) (hB : ∀ x1 x2 x3 x4 x5 x6 x7 x8 x9 x10 x11 x12 h, R x1 x2 x3 x4 x5 x6 x7 x8 x9 x10 x11 x12 h → B x1 x2 x3 x4 x5 x6 x7 x8 x9 x10 x11 x12 h) : JoinW12 A B :=
  ⟨fun p h => R p.1 p.2.1 p.2.2.1 p.2.2.2.1 p.2.2.2.2.1 p.2.2.2.2.2.1 p.2.2.2.2.2.2.1 p.2.2.2.2.2.2.2.1 p.2.2.2.2.2.2.2.2.1 p.2.2.2.2.2.2.2.2.2.1 p.2.2.2.2.2.2.2.2.2.2.1 p.2.2.2.2.2.2.2.2.2.2.2 h, hA, fun p h hr => hB p.1 p.2.1 p.2.2.1 p.2.2.2.1 p.2.2.2.2.1 p.2.2.2.2.2.1 p.2.2.2.2.2.2.1 p.2.2.2.2.2.2.2.1 p.2.2.2.2.2.2.2.2.1 p.2.2.2.2.2.2.2.2.2.1 p.2.2.2.2.2.2.2.2.2.2.1 p.2.2.2.2.2.2.2.2.2.2.2 h hr⟩
theorem JoinW12.direct {α1 α2 α3 α4 α5 α6 α7 α8 α9 α10 α11 α12 : Type} {A : (α1 → α2 → α3 → α4 → α5 → α6 → α7 → α8 → α9 → α10 → α11 → α12 → Hp → Prop) → Prop} {B : α1 → α2 → α3 → α4 → α5 → α6 → α7 → α8 → α9 → α10 → α11 → α12 → Hp → Prop} (hA : A B) : JoinW12 A B := JoinW12.intro B hA (fun _ _ _ _ _ _ _ _ _ _ _ _ _ hr => hr)
def LoopW12 {α1 α2 α3 α4 α5 α6 α7 α8 α9 α10 α11 α12 : Type} (body : (α1 → α2 → α3 → α4 → α5 → α6 → α7 → α8 → α9 → α10 → α11 → α12 → Hp → Prop) → α1 → α2 → α3 → α4 → α5 → α6 → α7 → α8 → α9 → α10 → α11 → α12 → Hp → Prop) (x1 : α1) (x2 : α2) (x3 : α3) (x4 : α4) (x5 : α5) (x6 : α6) (x7 : α7) (x8 : α8) (x9 : α9) (x10 : α10) (x11 : α11) (x12 : α12) (h : Hp) : Prop :=
  LoopT (σ := α1 × α2 × α3 × α4 × α5 × α6 × α7 × α8 × α9 × α10 × α11 × α12) (fun R p h => body (fun x1 x2 x3 x4 x5 x6 x7 x8 x9 x10 x11 x12 h => R (x1, x2, x3, x4, x5, x6, x7, x8, x9, x10, x11, x12) h) p.1 p.2.1 p.2.2.1 p.2.2.2.1 p.2.2.2.2.1 p.2.2.2.2.2.1 p.2.2.2.2.2.2.1 p.2.2.2.2.2.2.2.1 p.2.2.2.2.2.2.2.2.1 p.2.2.2.2.2.2.2.2.2.1 p.2.2.2.2.2.2.2.2.2.2.1 p.2.2.2.2.2.2.2.2.2.2.2 h) (x1, x2, x3, x4, x5, x6, x7, x8, x9, x10, x11, x12) h
theorem LoopW12.intro {α1 α2 α3 α4 α5 α6 α7 α8 α9 α10 α11 α12 : Type} {body : (α1 → α2 → α3 → α4 → α5 → α6 → α7 → α8 → α9 → α10 → α11 → α12 → Hp → Prop) → α1 → α2 → α3 → α4 → α5 → α6 → α7 → α8 → α9 → α10 → α11 → α12 → Hp → Prop} {x1 : α1} {x2 : α2} {x3 : α3} {x4 : α4} {x5 : α5} {x6 : α6} {x7 : α7} {x8 : α8} {x9 : α9} {x10 : α10} {x11 : α11} {x12 : α12} {h : Hp} (I : α1 → α2 → α3 → α4 → α5 → α6 → α7 → α8 → α9 → α10 → α11 → α12 → Hp → Prop) (μ : α1 → α2 → α3 → α4 → α5 → α6 → α7 → α8 → α9 → α10 → α11 → α12 → Hp → Nat)
    (h0 : I x1 x2 x3 x4 x5 x6 x7 x8 x9 x10 x11 x12 h) (hr : ∀ x1 x2 x3 x4 x5 x6 x7 x8 x9 x10 x11 x12 k, I x1 x2 x3 x4 x5 x6 x7 x8 x9 x10 x11 x12 k → body (fun y1 y2 y3 y4 y5 y6 y7 y8 y9 y10 y11 y12 k' => I y1 y2 y3 y4 y5 y6 y7 y8 y9 y10 y11 y12 k' ∧ μ y1 y2 y3 y4 y5 y6 y7 y8 y9 y10 y11 y12 k' < μ x1 x2 x3 x4 x5 x6 x7 x8 x9 x10 x11 x12 k) x1 x2 x3 x4 x5 x6 x7 x8 x9 x10 x11 x12 k) : LoopW12 body x1 x2 x3 x4 x5 x6 x7 x8 x9 x10 x11 x12 h :=
  ⟨fun p h => I p.1 p.2.1 p.2.2.1 p.2.2.2.1 p.2.2.2.2.1 p.2.2.2.2.2.1 p.2.2.2.2.2.2.1 p.2.2.2.2.2.2.2.1 p.2.2.2.2.2.2.2.2.1 p.2.2.2.2.2.2.2.2.2.1 p.2.2.2.2.2.2.2.2.2.2.1 p.2.2.2.2.2.2.2.2.2.2.2 h, fun p h => μ p.1 p.2.1 p.2.2.1 p.2.2.2.1 p.2.2.2.2.1 p.2.2.2.2.2.1 p.2.2.2.2.2.2.1 p.2.2.2.2.2.2.2.1 p.2.2.2.2.2.2.2.2.1 p.2.2.2.2.2.2.2.2.2.1 p.2.2.2.2.2.2.2.2.2.2.1 p.2.2.2.2.2.2.2.2.2.2.2 h, h0, fun p k hk => hr p.1 p.2.1 p.2.2.1 p.2.2.2.1 p.2.2.2.2.1 p.2.2.2.2.2.1 p.2.2.2.2.2.2.1 p.2.2.2.2.2.2.2.1 p.2.2.2.2.2.2.2.2.1 p.2.2.2.2.2.2.2.2.2.1 p.2.2.2.2.2.2.2.2.2.2.1 p.2.2.2.2.2.2.2.2.2.2.2 k hk⟩

def Call2 (P : Program) (g : FuncId) (args : List Value) (s1 s2 : Shape) (K : s1.T → s2.T → Hp → Prop) (h : Hp) : Prop :=
  CallT P g args (shTup2 s1 s2) (fun p h' => K p.1 p.2 h') h
def SemV2 (c : Option Bool) (P : Program) (s : Sem Value) (s1 s2 : Shape) (h : Hp) (K : s1.T → s2.T → Prop) : Prop :=
  SemV c P s (shTup2 s1 s2) h (fun p => K p.1 p.2)
def SemE2 (P : Program) (s : Sem Value) (s1 s2 : Shape) (K : s1.T → s2.T → Hp → Prop) (h : Hp) : Prop :=
  SemE P s (shTup2 s1 s2) (fun p h' => K p.1 p.2 h') h
def CallV2 (P : Program) (tb : Tb) (f : Value) (args : List Value) (s1 s2 : Shape) (K : s1.T → s2.T → Hp → Prop) (h : Hp) : Prop :=
  CallV P tb f args (shTup2 s1 s2) (fun p h' => K p.1 p.2 h') h

def Call3 (P : Program) (g : FuncId) (args : List Value) (s1 s2 s3 : Shape) (K : s1.T → s2.T → s3.T → Hp → Prop) (h : Hp) : Prop :=
  CallT P g args (shTup3 s1 s2 s3) (fun p h' => K p.1 p.2.1 p.2.2 h') h
def SemV3 (c : Option Bool) (P : Program) (s : Sem Value) (s1 s2 s3 : Shape) (h : Hp) (K : s1.T → s2.T → s3.T → Prop) : Prop :=
  SemV c P s (shTup3 s1 s2 s3) h (fun p => K p.1 p.2.1 p.2.2)
def SemE3 (P : Program) (s : Sem Value) (s1 s2 s3 : Shape) (K : s1.T → s2.T → s3.T → Hp → Prop) (h : Hp) : Prop :=
  SemE P s (shTup3 s1 s2 s3) (fun p h' => K p.1 p.2.1 p.2.2 h') h
def CallV3 (P : Program) (tb : Tb) (f : Value) (args : List Value) (s1 s2 s3 : Shape) (K : s1.T → s2.T → s3.T → Hp → Prop) (h : Hp) : Prop :=
  CallV P tb f args (shTup3 s1 s2 s3) (fun p h' => K p.1 p.2.1 p.2.2 h') h

def Call4 (P : Program) (g : FuncId) (args : List Value) (s1 s2 s3 s4 : Shape) (K : s1.T → s2.T → s3.T → s4.T → Hp → Prop) (h : Hp) : Prop :=
  CallT P g args (shTup4 s1 s2 s3 s4) (fun p h' => K p.1 p.2.1 p.2.2.1 p.2.2.2 h') h
def SemV4 (c : Option Bool) (P : Program) (s : Sem Value) (s1 s2 s3 s4 : Shape) (h : Hp) (K : s1.T → s2.T → s3.T → s4.T → Prop) : Prop :=
  SemV c P s (shTup4 s1 s2 s3 s4) h (fun p => K p.1 p.2.1 p.2.2.1 p.2.2.2)
def SemE4 (P : Program) (s : Sem Value) (s1 s2 s3 s4 : Shape) (K : s1.T → s2.T → s3.T → s4.T → Hp → Prop) (h : Hp) : Prop :=
  SemE P s (shTup4 s1 s2 s3 s4) (fun p h' => K p.1 p.2.1 p.2.2.1 p.2.2.2 h') h
def CallV4 (P : Program) (tb : Tb) (f : Value) (args : List Value) (s1 s2 s3 s4 : Shape) (K : s1.T → s2.T → s3.T → s4.T → Hp → Prop) (h : Hp) : Prop :=
  CallV P tb f args (shTup4 s1 s2 s3 s4) (fun p h' => K p.1 p.2.1 p.2.2.1 p.2.2.2 h') h

def Call5 (P : Program) (g : FuncId) (args : List Value) (s1 s2 s3 s4 s5 : Shape) (K : s1.T → s2.T → s3.T → s4.T → s5.T → Hp → Prop) (h : Hp) : Prop :=
  CallT P g args (shTup5 s1 s2 s3 s4 s5) (fun p h' => K p.1 p.2.1 p.2.2.1 p.2.2.2.1 p.2.2.2.2 h') h
def SemV5 (c : Option Bool) (P : Program) (s : Sem Value) (s1 s2 s3 s4 s5 : Shape) (h : Hp) (K : s1.T → s2.T → s3.T → s4.T → s5.T → Prop) : Prop :=
  SemV c P s (shTup5 s1 s2 s3 s4 s5) h (fun p => K p.1 p.2.1 p.2.2.1 p.2.2.2.1 p.2.2.2.2)
def SemE5 (P : Program) (s : Sem Value) (s1 s2 s3 s4 s5 : Shape) (K : s1.T → s2.T → s3.T → s4.T → s5.T → Hp → Prop) (h : Hp) : Prop :=
  SemE P s (shTup5 s1 s2 s3 s4 s5) (fun p h' => K p.1 p.2.1 p.2.2.1 p.2.2.2.1 p.2.2.2.2 h') h
def CallV5 (P : Program) (tb : Tb) (f : Value) (args : List Value) (s1 s2 s3 s4 s5 : Shape) (K : s1.T → s2.T → s3.T → s4.T → s5.T → Hp → Prop) (h : Hp) : Prop :=
  CallV P tb f args (shTup5 s1 s2 s3 s4 s5) (fun p h' => K p.1 p.2.1 p.2.2.1 p.2.2.2.1 p.2.2.2.2 h') h

def Call0 (P : Program) (g : FuncId) (args : List Value) (K : Hp → Prop) (h : Hp) : Prop :=
  CallT P g args shUnit (fun _ h' => K h') h
def SemE0 (P : Program) (s : Sem Value) (_ : Shape) (K : Hp → Prop) (h : Hp) : Prop := SemE P s shUnit (fun _ h' => K h') h
def CallV0 (P : Program) (tb : Tb) (f : Value) (args : List Value) (K : Hp → Prop) (h : Hp) : Prop :=
  CallV P tb f args shUnit (fun _ h' => K h') h
end Lf
