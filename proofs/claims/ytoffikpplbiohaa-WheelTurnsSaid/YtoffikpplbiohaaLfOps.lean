/-
  Operations of the library's own: cleared cells, slices that do not meet, fields of elements.
-/
import Derived.Test.YtoffikpplbiohaaLfBlk
namespace Lf
open Go

section
variable {P : Program} {h : Hp}

theorem semW_bind' {α β : Type} (s : Sem α) (f : α → Sem β) {K : β → Hp → Prop} : semW P (s >>= f) K h ↔ semW P s (fun a h => semW P (f a) K h) h := semW_bind s f

theorem semW_pure' {α : Type} (a : α) {K : α → Hp → Prop} : semW P (pure a) K h ↔ K a h := Iff.rfl

theorem semW_size {t : Nat} {i : TypeInfo} (hi : P.info? t = some i) {K : Nat → Hp → Prop} (hk : K i.size h) : semW P (sizeOf t) K h := by
  show semW P (Sem.bind (match P.info? t with
    | some d => Sem.pure d
    | none => _) _) K h
  rw [hi]
  exact hk

theorem semW_frozen {a : Addr} {o : Obj} (e : h a.block = some o) {K : Bool → Hp → Prop} (hk : K (hfroz h a) h) : semW P (frozen a) K h := ⟨⟨o, e⟩, hk⟩

theorem semW_shape {r : Nat} {o : Obj} (e : h r = some o) {K : Option (TypeId × Nat) → Hp → Prop} (hk : K (shapeOf o) h) : semW P (shape r) K h := ⟨o, e, hk⟩

theorem blk_froz {b : Nat} {cs : List Value} (k : Blk h b cs) (off : Nat) : hfroz h ⟨b, off, none⟩ = false := by
  obtain ⟨t, e⟩ := k
  unfold hfroz
  simp [e]

theorem semW_noView {b off : Nat} {cs : List Value} (k : Blk h b cs) {K : Unit → Hp → Prop} (hk : K () h) : semW P (noView ⟨b, off, none⟩) K h := by
  obtain ⟨t, e⟩ := k
  unfold noView viewAt
  refine (semW_bind' _ _).2 ((semW_bind' _ _).2 (semW_shape (r := b) e ?_))
  exact hk

theorem semW_stringish {b off : Nat} {cs : List Value} (k : Blk h b cs) {K : Bool → Hp → Prop} (hk : K false h) : semW P (stringish ⟨b, off, none⟩) K h := by
  have k0 := k
  obtain ⟨t, e⟩ := k
  unfold stringish
  refine (semW_bind' _ _).2 (semW_frozen (a := ⟨b, off, none⟩) e ?_)
  rw [blk_froz k0]
  refine (semW_bind' _ _).2 (semW_shape (r := b) e ?_)
  refine semW_frozen (a := ⟨b, _, none⟩) e ?_
  rw [blk_froz k0]
  exact hk

/-- Two slices in two blocks of plain memory. -/
theorem overlaps_apart {tS tR e : Nat} {i : TypeInfo} {a b ao bo la ca lb cb : Nat} {ca' cb' : List Value} {K : Bool → Hp → Prop} (ht : P.underlying tS = some (.slice e)) (hi : P.info? e = some i) (ka : Blk h a ca') (kb : Blk h b cb') (hne : a ≠ b)
    (hk : K false h) : SemE P (Extern.SlicesOverlaps.overlaps #[tS, tS] #[tR] #[.slice (some ⟨a, ao, none⟩) la ca, .slice (some ⟨b, bo, none⟩) lb cb]) shBool K h := by
  have hb1 : ((⟨a, ao, none⟩ : Addr).block != (⟨b, bo, none⟩ : Addr).block) = true := by simpa using hne
  have hb2 : ((⟨a, ao, none⟩ : Addr).block == (⟨b, bo, none⟩ : Addr).block) = false := by simpa using hne
  obtain ⟨ta, ea⟩ := id ka
  obtain ⟨tb, eb⟩ := id kb
  unfold SemE
  show semW P (α := Value) (underlying tS >>= fun d => _) _ h
  refine (semW_bind' _ _).2 (semW_und ht ?_)
  refine (semW_bind' _ _).2 (semW_size hi ?_)
  dsimp only
  by_cases h0 : la = 0 ∨ lb = 0 ∨ i.size = 0
  · rw [if_pos h0]
    exact ⟨false, rfl, hk⟩
  · rw [if_neg h0]
    refine (semW_bind' _ _).2 (semW_frozen (a := ⟨a, ao, none⟩) ea ?_)
    refine (semW_bind' _ _).2 (semW_frozen (a := ⟨b, bo, none⟩) eb ?_)
    rw [hb1, blk_froz ka]
    simp only [Bool.true_and, Bool.false_and, Bool.false_eq_true, if_false, if_true]
    refine (semW_bind' _ _).2 (semW_noView ka ?_)
    refine (semW_bind' _ _).2 (semW_noView kb ?_)
    refine (semW_bind' _ _).2 ?_
    unfold mayBeOne
    refine (semW_bind' _ _).2 (semW_stringish ka ?_)
    refine (semW_bind' _ _).2 (semW_stringish kb ?_)
    refine (semW_bind' _ _).2 ((semW_bind' _ _).2 (semW_shape (r := a) ea ?_))
    refine (semW_bind' _ _).2 ((semW_bind' _ _).2 (semW_shape (r := b) eb ?_))
    simp only [Bool.false_and, Bool.or_false]
    refine ⟨false, ?_, hk⟩
    rw [hb2]
    rfl

theorem semW_storeCells {a : Addr} : ∀ (vs : List Value) (i : Nat) {h : Hp} {K : Unit → Hp → Prop}, okCells vs = true → (∀ j, j < vs.length → (∃ v, hcell h (a.add (i + j)) = some v) ∧ hfroz h (a.add (i + j)) = false) →
    K () (putL h a vs i) → semW P (storeCells a vs i) K h
  | [], i, h, K, _, _, hk => hk
  | v :: vs, i, h, K, hok, hst, hk => by
    obtain ⟨h1, h2⟩ := hst 0 (by simp)
    rw [Nat.add_zero] at h1 h2
    have hok' : okCells vs = true := by cases v <;> first | (exact hok) | (cases hok)
    have step : semW P (storeCells a vs (i + 1)) K (h.put (a.add i) v) := by
      refine semW_storeCells vs (i + 1) hok' (fun j hj => ?_) hk
      obtain ⟨⟨u, h3⟩, h4⟩ := hst (j + 1) (by simpa using hj)
      have e : i + (j + 1) = i + 1 + j := by omega
      rw [e] at h3 h4
      exact ⟨hcell_put ⟨u, h3⟩, (by rw [hfroz_put]; exact h4)⟩
    show semW P (Sem.store Mode.plain (a.add i) v (storeCells a vs (i + 1))) K h
    cases v <;> first | (exact ⟨h1, h2, step⟩) | (cases hok)

/-- Some cells of a block are set to zero. -/
theorem clear_blk {t e b off n c : Nat} {z : Value} {cs : List Value} {K : Hp → Prop} (ht : P.underlying t = some (.slice e)) (hz : ∀ {K : Value → Hp → Prop} {h : Hp}, K z h → semW P (zeroValue e) K h) (hok : ∀ n, okCells (zerosL (cellsL z) n) = true) (kb : Blk h b cs)
    (hl : off + n * (cellsL z).length ≤ cs.length)
    (hk : ∀ h', Mv [b] h [b] h' → Blk h' b (cs.take off ++ zerosL (cellsL z) n ++ cs.drop (off + n * (cellsL z).length)) → K h') :
    SemE0 P (Builtin.clear_ #[t] 0 #[.slice (some ⟨b, off, none⟩) n c]) shUnit K h := by
  unfold SemE0 SemE
  show semW P (α := Value) (underlying t >>= fun d => _) _ h
  refine (semW_bind' _ _).2 (semW_und ht ?_)
  cases n with
  | zero =>
    refine ⟨(), rfl, hk h (Mv.refl _ _) ?_⟩
    simp [zerosL]
    exact kb
  | succ n =>
    refine (semW_bind' _ _).2 ?_
    refine hz ?_
    have hzc : (Builtin.zeroCells z.cells (n + 1)).toList = zerosL (cellsL z) (n + 1) := by rw [zeroCells_eq, cells_list]
    have hlen : (zerosL (cellsL z) (n + 1)).length = (n + 1) * (cellsL z).length := zerosL_len _ _
    obtain ⟨p1, p2⟩ := kb.put (off := off) (new := zerosL (cellsL z) (n + 1)) (by rw [hlen]; exact hl)
    have hst := kb.stOk (off := off) (zerosL (cellsL z) (n + 1)).length (by rw [hlen]; exact hl)
    refine (semW_bind' _ _).2 ?_
    rw [hzc]
    refine semW_storeCells _ 0 (hok _) (fun j hj => ?_) ⟨(), rfl, hk _ (Mv.of_other p2) (by rw [hlen] at p1; exact p1)⟩
    rw [Nat.zero_add]
    exact stOk_get hst j hj

end
end Lf
