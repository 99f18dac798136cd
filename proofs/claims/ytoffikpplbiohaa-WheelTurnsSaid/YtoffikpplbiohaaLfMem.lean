/-
  What a change to a block that holds no cells leaves.
-/
import Derived.Test.YtoffikpplbiohaaLfLib
namespace Lf
open Go

/-- All cells are as they were. -/
def CKeep (h h' : Hp) : Prop := ∀ a v, hcell h a = some v → hcell h' a = some v

theorem CKeep.of_le {h h' : Hp} (hl : h ≤ h') : CKeep h h' := fun _ _ e => hcell_mono hl e

theorem ldIs_ck {h h' : Hp} (hl : CKeep h h') {a : Addr} {cs : List Value} (e : LdIs h a cs) : LdIs h' a cs := fun i v hv => hl _ _ (e i v hv)

theorem Rw.ck {α : Type} {h h' : Hp} {sz : Nat} {enc : α → List Value} {l : Sl} {xs : List α} (hl : CKeep h h') (r : Rw h sz enc l xs) : Rw h' sz enc l xs := by
  obtain ⟨h1, h2, h3⟩ := r
  refine ⟨h1, h2, h3.imp id ?_⟩
  rintro ⟨a, ha, hc⟩
  exact ⟨a, ha, ldIs_ck hl hc⟩

theorem ck_set {h : Hp} {m : Nat} {o o' : Obj} (e : h m = some o) (hc : isCells o = false) : CKeep h (h.set m o') := by
  intro a v hv
  obtain ⟨c, t, fr, hb, hsp, hg⟩ := hcell_block hv
  have hne : a.block ≠ m := fun e' => by rw [e', e] at hb; cases hb; cases hc
  unfold hcell at hv ⊢
  have : (h.set m o') a.block = h a.block := by simp [Hp.set, hne]
  rw [this]
  exact hv

theorem set_new {h : Hp} {b : Nat} {o : Obj} (hn : h b = none) : h ≤ h.set b o := fun b' o' e => by
  have hne : b' ≠ b := fun e' => by rw [e', hn] at e; cases e
  simp [Hp.set, hne, e]

theorem set_self {h : Hp} {b : Nat} {o : Obj} : (h.set b o) b = some o := by simp [Hp.set]

theorem set_over {h h0 : Hp} {b : Nat} {o : Obj} (hl : h0 ≤ h) (hn : h0 b = none) : h0 ≤ h.set b o := fun b' o' e => by
  have hne : b' ≠ b := fun e' => by rw [e', hn] at e; cases e
  simp only [Hp.set, hne, if_false]
  exact hl _ _ e

theorem none_of_le {h0 h : Hp} {b : Nat} (hl : h0 ≤ h) (hn : h b = none) : h0 b = none := by
  cases e : h0 b with
  | none => rfl
  | some o => rw [hl _ _ e] at hn; cases hn

theorem ldIs_new {h : Hp} {b t : Nat} {cs : List Value} : LdIs (h.set b (.cells cs.toArray t (0, 0))) ⟨b, 0, none⟩ cs := fun i v hv => by
  rw [box_add, hcell_block0 set_self, Nat.zero_add]
  exact hv

theorem effT {α : Type} {A : (α → Hp → Prop) → Hp → Prop} {K : α → Hp → Prop} {h : Hp} (hk : A K h) : EffC (some true) A K h := ⟨fun _ => hk, fun e => by cases e⟩

theorem effB {α : Type} {b : Bool} {A : (α → Hp → Prop) → Hp → Prop} {K : α → Hp → Prop} {h : Hp} (hb : b = true) (hk : A K h) : EffC (some b) A K h := ⟨fun _ => hk, fun e => by rw [hb] at e; cases e⟩

theorem notNil {p : Addr} {c : Option Bool} {K : Addr → Prop} (hk : K p) : NilW c (some p) K := by
  refine ⟨p, ?_, hk⟩
  cases c with
  | none => rfl
  | some b => exact fun _ => rfl

theorem semW_und {P : Program} {t : Nat} {d : TypeDesc} (hu : P.underlying t = some d) {K : TypeDesc → Hp → Prop} {h : Hp} (hk : K d h) : semW P (underlying t) K h := by
  show semW P (match P.underlying t with
    | some d => Sem.pure d
    | none => _) K h
  rw [hu]
  exact hk

theorem semW_zero {P : Program} {tb : Tb} (ok : tb.Ok P) {t : Nat} {e : Ty} (he : tb.ty t = some e) {K : Value → Hp → Prop} {h : Hp} (hk : K e.zero h) : semW P (zeroValue t) K h := by
  obtain ⟨i, e1, _, _, e4⟩ := ok.info t e he
  have key : semW P (match P.info? t with
    | some d => (match d.zero with
      | some v => Sem.pure v
      | none => unsupported (.resourceLimit "a value of more than 2^22 cells"))
    | none => stuck "no such type") K h := by
    rw [e1]
    dsimp only
    rw [e4]
    exact hk
  cases hi : P.info? t with
  | none => rw [e1] at hi; cases hi
  | some d =>
    rw [hi] at key
    show semW P (Sem.bind (match P.info? t with
      | some d => Sem.pure d
      | none => _) _) K h
    rw [hi]
    exact key

theorem semIs_of_semW {P : Program} {s : Sem Value} {h : Hp} {v : Value} (hi : semW P s (fun u h' => u = v ∧ h' = h) h) : SemIs P s h v := by
  intro w hs
  obtain ⟨a, w', h', hr, ⟨ha, hh⟩, hst⟩ := semW_sound s hs hi
  subst ha; subst hh
  exact ⟨w', hr, hst⟩

theorem semIs_of_run {P : Program} {s : Sem Value} {h : Hp} {v : Value} (hi : ∀ w, s.run P w = .ok v w) : SemIs P s h v := fun w hs => ⟨w, hi w, .refl hs⟩

theorem semIs_nilSl {P : Program} {t e : Nat} {x y : Operand} {h : Hp} (hu : P.underlying t = some (.slice e)) (s : Sl) : SemIs P (binS .eql t x y s.v (.slice none 0 0)) h (.bool s.base.isNone) := by
  have key : ∀ d, semW P (Op.equalIn (d + 1) t s.v (.slice none 0 0)) (fun u h' => u = s.base.isNone ∧ h' = h) h := by
    intro d
    unfold Op.equalIn
    refine (semW_bind _ _).2 (semW_und hu ?_)
    cases hb : s.base with
    | none => simp only [Sl.v, hb]; exact ⟨rfl, rfl⟩
    | some a => simp only [Sl.v, hb]; exact ⟨rfl, rfl⟩
  refine semIs_of_semW ?_
  show semW P (Sem.bind (Op.equal t s.v (.slice none 0 0)) fun b => Sem.pure (Value.bool b)) _ h
  refine (semW_bind _ _).2 (semW_mono _ (fun a k hk => ?_) (key 9999))
  obtain ⟨rfl, rfl⟩ := hk
  exact ⟨rfl, rfl⟩

end Lf
