/-
  Part 3 of the texts that the claim leans on.
-/
import Derived.Test.YtompbjaipbbbhaaMgGrRings1
/-
  Regions of memory that do not meet.
-/
namespace Lf
open Go

theorem mv_same {F F' E : List Nat} {k k' : Hp} (m : Mv F k F' k') (hE : ∀ c ∈ E, k c ≠ none) (hd : ∀ c ∈ E, c ∉ F) : ∀ c ∈ E, k' c = k c := fun c hc => by
  cases hk : k c with
  | none => exact absurd hk (hE c hc)
  | some o => exact m.keep c o hk (hd c hc)

theorem mv_disj {F F' E : List Nat} {k k' : Hp} (m : Mv F k F' k') (hE : ∀ c ∈ E, k c ≠ none) (hd : ∀ c ∈ E, c ∉ F) : ∀ c ∈ E, c ∉ F' := fun c hc hf => by
  rcases m.from_ c hf with h | h
  · exact hd c hc h
  · exact hE c hc h

/-- First the one region, then the other one. -/
theorem mv_two {F F' R R' : List Nat} {k k1 k2 : Hp} (m1 : Mv F k F' k1) (m2 : Mv R k1 R' k2) : Mv (F ++ R) k (F' ++ R') k2 := by
  have q1 := m1.wide R
  have q2 : Mv (F' ++ R) k1 (F' ++ R') k2 := m2.sub (fun c hc => List.mem_append_right _ hc) fun c hc => by
    rcases List.mem_append.1 hc with hc | hc
    · exact .inr (.inl (List.mem_append_left _ hc))
    · exact .inl hc
  exact q1.trans q2

/-- Of what is made, some is let go. -/
theorem Mv.less {F F' E : List Nat} {h h' : Hp} (a : Mv F h F' h') (hs : ∀ c ∈ E, c ∈ F') : Mv F h E h' := ⟨a.keep, fun b hb => a.from_ b (hs b hb)⟩

/-- Regions that do not meet, all known, none of them known at first. -/
structure Regs (h k : Hp) (Rg : List (List Nat)) : Prop where
  sep : ∀ (a b : Nat) E G, Rg[a]? = some E → Rg[b]? = some G → a ≠ b → ∀ c ∈ E, c ∉ G
  known : ∀ (a : Nat) E, Rg[a]? = some E → ∀ c ∈ E, k c ≠ none
  fresh : ∀ (a : Nat) E, Rg[a]? = some E → ∀ c ∈ E, h c = none
  le : h ≤ k

theorem Regs.grow {h k k' : Hp} {Rg : List (List Nat)} (r : Regs h k Rg) (hl : k ≤ k') : Regs h k' Rg :=
  ⟨r.sep, fun a E hE c hc e => r.known a E hE c hc (none_of_le hl e), r.fresh, Hp.le_trans r.le hl⟩

theorem Regs.step {h k k' : Hp} {Rg : List (List Nat)} {j : Nat} {F F' : List Nat} (r : Regs h k Rg) (hj : Rg[j]? = some F) (m : Mv F k F' k') (kn : ∀ c ∈ F', k' c ≠ none) : Regs h k' (Rg.set j F') := by
  have hjl : j < Rg.length := (List.getElem?_eq_some_iff.1 hj).1
  have hget : ∀ a E, (Rg.set j F')[a]? = some E → (a = j ∧ E = F') ∨ (a ≠ j ∧ Rg[a]? = some E) := by
    intro a E hE
    rw [List.getElem?_set, if_pos hjl] at hE
    split at hE
    · rename_i e
      exact .inl ⟨e.symm, (Option.some.inj hE).symm⟩
    · rename_i e
      exact .inr ⟨fun e' => e e'.symm, hE⟩
  have hdis : ∀ a E, a ≠ j → Rg[a]? = some E → ∀ c ∈ E, c ∉ F' := fun a E hne hE => mv_disj m (r.known a E hE) (r.sep a j E F hE hj hne)
  have hfr : ∀ c ∈ F', h c = none := (m.le r.le (r.fresh j F hj)).2
  refine ⟨fun a b E G hE hG hab c hc hc' => ?_, fun a E hE c hc => ?_, fun a E hE c hc => ?_, (m.le r.le (r.fresh j F hj)).1⟩
  · rcases hget a E hE with ⟨rfl, rfl⟩ | ⟨h1, h2⟩
    · rcases hget b G hG with ⟨rfl, rfl⟩ | ⟨h3, h4⟩
      · exact hab rfl
      · exact hdis b G h3 h4 c hc' hc
    · rcases hget b G hG with ⟨rfl, rfl⟩ | ⟨h3, h4⟩
      · exact hdis a E h1 h2 c hc hc'
      · exact r.sep a b E G h2 h4 hab c hc hc'
  · rcases hget a E hE with ⟨rfl, rfl⟩ | ⟨h1, h2⟩
    · exact kn c hc
    · have := mv_same m (r.known a E h2) (r.sep a j E F h2 hj h1) c hc
      rw [this]
      exact r.known a E h2 c hc
  · rcases hget a E hE with ⟨rfl, rfl⟩ | ⟨h1, h2⟩
    · exact hfr c hc
    · exact r.fresh a E h2 c hc

theorem Regs.other {h k k' : Hp} {Rg : List (List Nat)} {j a : Nat} {F F' E : List Nat} (r : Regs h k Rg) (hj : Rg[j]? = some F) (m : Mv F k F' k') (ha : Rg[a]? = some E) (hne : a ≠ j) : ∀ c ∈ E, k' c = k c :=
  mv_same m (r.known a E ha) (r.sep a j E F ha hj hne)

theorem Regs.push {h k k' : Hp} {Rg : List (List Nat)} {E : List Nat} (r : Regs h k Rg) (hl : k ≤ k') (hn : ∀ c ∈ E, k c = none) (kn : ∀ c ∈ E, k' c ≠ none) : Regs h k' (Rg ++ [E]) := by
  have hget : ∀ a G, (Rg ++ [E])[a]? = some G → (a = Rg.length ∧ G = E) ∨ (a < Rg.length ∧ Rg[a]? = some G) := by
    intro a G hG
    by_cases h1 : a < Rg.length
    · rw [List.getElem?_append_left h1] at hG
      exact .inr ⟨h1, hG⟩
    · rw [List.getElem?_append_right (by omega)] at hG
      have h2 : a - Rg.length = 0 := by
        have := (List.getElem?_eq_some_iff.1 hG).1
        simp at this
        omega
      rw [h2] at hG
      exact .inl ⟨by omega, (Option.some.inj hG).symm⟩
  refine ⟨fun a b A B hA hB hab c hc hc' => ?_, fun a A hA c hc => ?_, fun a A hA c hc => ?_, Hp.le_trans r.le hl⟩
  · rcases hget a A hA with ⟨rfl, rfl⟩ | ⟨h1, h2⟩
    · rcases hget b B hB with ⟨rfl, rfl⟩ | ⟨h3, h4⟩
      · exact hab rfl
      · exact r.known b B h4 c hc' (hn c hc)
    · rcases hget b B hB with ⟨rfl, rfl⟩ | ⟨h3, h4⟩
      · exact r.known a A h2 c hc (hn c hc')
      · exact r.sep a b A B h2 h4 hab c hc hc'
  · rcases hget a A hA with ⟨rfl, rfl⟩ | ⟨h1, h2⟩
    · exact kn c hc
    · exact fun e => r.known a A h2 c hc (none_of_le hl e)
  · rcases hget a A hA with ⟨rfl, rfl⟩ | ⟨h1, h2⟩
    · exact none_of_le r.le (hn c hc)
    · exact r.fresh a A h2 c hc

end Lf

/-
  Operations of the library's own: cleared cells, slices that do not meet, fields of elements.
-/
namespace Lf
open Go

section
variable {P : Program} {h : Hp}

theorem semW_bind' {α β : Type} (s : Sem α) (f : α → Sem β) {K : β → Hp → Prop} : semW P (s >>= f) K h ↔ semW P s (fun a h => semW P (f a) K h) h := semW_bind s f

theorem semW_pure' {α : Type} (a : α) {K : α → Hp → Prop} : semW P (pure a) K h ↔ K a h := Iff.rfl

theorem semW_size {t : Nat} {i : TypeInfo} (hi : P.info? t = some i) {K : Nat → Hp → Prop} (hk : K i.size h) : semW P (sizeOf t) K h := by
  show semW P (Sem.bind (match P.info? t with
    | some d => Sem.pure d
    | none => _) _) K h
  rw [hi]
  exact hk

theorem semW_frozen {a : Addr} {o : Obj} (e : h a.block = some o) {K : Bool → Hp → Prop} (hk : K (hfroz h a) h) : semW P (frozen a) K h := ⟨⟨o, e⟩, hk⟩

theorem semW_shape {r : Nat} {o : Obj} (e : h r = some o) {K : Option (TypeId × Nat) → Hp → Prop} (hk : K (shapeOf o) h) : semW P (shape r) K h := ⟨o, e, hk⟩

theorem blk_froz {b : Nat} {cs : List Value} (k : Blk h b cs) (off : Nat) : hfroz h ⟨b, off, none⟩ = false := by
  obtain ⟨t, e⟩ := k
  unfold hfroz
  simp [e]

theorem semW_noView {b off : Nat} {cs : List Value} (k : Blk h b cs) {K : Unit → Hp → Prop} (hk : K () h) : semW P (noView ⟨b, off, none⟩) K h := by
  obtain ⟨t, e⟩ := k
  unfold noView viewAt
  refine (semW_bind' _ _).2 ((semW_bind' _ _).2 (semW_shape (r := b) e ?_))
  exact hk

theorem semW_stringish {b off : Nat} {cs : List Value} (k : Blk h b cs) {K : Bool → Hp → Prop} (hk : K false h) : semW P (stringish ⟨b, off, none⟩) K h := by
  have k0 := k
  obtain ⟨t, e⟩ := k
  unfold stringish
  refine (semW_bind' _ _).2 (semW_frozen (a := ⟨b, off, none⟩) e ?_)
  rw [blk_froz k0]
  refine (semW_bind' _ _).2 (semW_shape (r := b) e ?_)
  refine semW_frozen (a := ⟨b, _, none⟩) e ?_
  rw [blk_froz k0]
  exact hk

/-- Two slices in two blocks of plain memory. -/
theorem overlaps_apart {tS tR e : Nat} {i : TypeInfo} {a b ao bo la ca lb cb : Nat} {ca' cb' : List Value} {K : Bool → Hp → Prop} (ht : P.underlying tS = some (.slice e)) (hi : P.info? e = some i) (ka : Blk h a ca') (kb : Blk h b cb') (hne : a ≠ b)
    (hk : K false h) : SemE P (Extern.SlicesOverlaps.overlaps #[tS, tS] #[tR] #[.slice (some ⟨a, ao, none⟩) la ca, .slice (some ⟨b, bo, none⟩) lb cb]) shBool K h := by
  have hb1 : ((⟨a, ao, none⟩ : Addr).block != (⟨b, bo, none⟩ : Addr).block) = true := by simpa using hne
  have hb2 : ((⟨a, ao, none⟩ : Addr).block == (⟨b, bo, none⟩ : Addr).block) = false := by simpa using hne
  obtain ⟨ta, ea⟩ := id ka
  obtain ⟨tb, eb⟩ := id kb
  unfold SemE
  show semW P (α := Value) (underlying tS >>= fun d => _) _ h
  refine (semW_bind' _ _).2 (semW_und ht ?_)
  refine (semW_bind' _ _).2 (semW_size hi ?_)
  dsimp only
  by_cases h0 : la = 0 ∨ lb = 0 ∨ i.size = 0
  · rw [if_pos h0]
    exact ⟨false, rfl, hk⟩
  · rw [if_neg h0]
    refine (semW_bind' _ _).2 (semW_frozen (a := ⟨a, ao, none⟩) ea ?_)
    refine (semW_bind' _ _).2 (semW_frozen (a := ⟨b, bo, none⟩) eb ?_)
    rw [hb1, blk_froz ka]
    simp only [Bool.true_and, Bool.false_and, Bool.false_eq_true, if_false, if_true]
    refine (semW_bind' _ _).2 (semW_noView ka ?_)
    refine (semW_bind' _ _).2 (semW_noView kb ?_)
    refine (semW_bind' _ _).2 ?_
    unfold mayBeOne
    refine (semW_bind' _ _).2 (semW_stringish ka ?_)
    refine (semW_bind' _ _).2 (semW_stringish kb ?_)
    refine (semW_bind' _ _).2 ((semW_bind' _ _).2 (semW_shape (r := a) ea ?_))
    refine (semW_bind' _ _).2 ((semW_bind' _ _).2 (semW_shape (r := b) eb ?_))
    simp only [Bool.false_and, Bool.or_false]
    refine ⟨false, ?_, hk⟩
    rw [hb2]
    rfl

theorem semW_storeCells {a : Addr} : ∀ (vs : List Value) (i : Nat) {h : Hp} {K : Unit → Hp → Prop}, okCells vs = true → (∀ j, j < vs.length → (∃ v, hcell h (a.add (i + j)) = some v) ∧ hfroz h (a.add (i + j)) = false) →
    K () (putL h a vs i) → semW P (storeCells a vs i) K h
  | [], i, h, K, _, _, hk => hk
  | v :: vs, i, h, K, hok, hst, hk => by
    obtain ⟨h1, h2⟩ := hst 0 (by simp)
    rw [Nat.add_zero] at h1 h2
    have hok' : okCells vs = true := by cases v <;> first | (exact hok) | (cases hok)
    have step : semW P (storeCells a vs (i + 1)) K (h.put (a.add i) v) := by
      refine semW_storeCells vs (i + 1) hok' (fun j hj => ?_) hk
      obtain ⟨⟨u, h3⟩, h4⟩ := hst (j + 1) (by simpa using hj)
      have e : i + (j + 1) = i + 1 + j := by omega
      rw [e] at h3 h4
      exact ⟨hcell_put ⟨u, h3⟩, (by rw [hfroz_put]; exact h4)⟩
    show semW P (Sem.store Mode.plain (a.add i) v (storeCells a vs (i + 1))) K h
    cases v <;> first | (exact ⟨h1, h2, step⟩) | (cases hok)

/-- Some cells of a block are set to zero. -/
theorem clear_blk {t e b off n c : Nat} {z : Value} {cs : List Value} {K : Hp → Prop} (ht : P.underlying t = some (.slice e)) (hz : ∀ {K : Value → Hp → Prop} {h : Hp}, K z h → semW P (zeroValue e) K h) (hok : ∀ n, okCells (zerosL (cellsL z) n) = true) (kb : Blk h b cs)
    (hl : off + n * (cellsL z).length ≤ cs.length)
    (hk : ∀ h', Mv [b] h [b] h' → Blk h' b (cs.take off ++ zerosL (cellsL z) n ++ cs.drop (off + n * (cellsL z).length)) → K h') :
    SemE0 P (Builtin.clear_ #[t] 0 #[.slice (some ⟨b, off, none⟩) n c]) shUnit K h := by
  unfold SemE0 SemE
  show semW P (α := Value) (underlying t >>= fun d => _) _ h
  refine (semW_bind' _ _).2 (semW_und ht ?_)
  cases n with
  | zero =>
    refine ⟨(), rfl, hk h (Mv.refl _ _) ?_⟩
    simp [zerosL]
    exact kb
  | succ n =>
    refine (semW_bind' _ _).2 ?_
    refine hz ?_
    have hzc : (Builtin.zeroCells z.cells (n + 1)).toList = zerosL (cellsL z) (n + 1) := by rw [zeroCells_eq, cells_list]
    have hlen : (zerosL (cellsL z) (n + 1)).length = (n + 1) * (cellsL z).length := zerosL_len _ _
    obtain ⟨p1, p2⟩ := kb.put (off := off) (new := zerosL (cellsL z) (n + 1)) (by rw [hlen]; exact hl)
    have hst := kb.stOk (off := off) (zerosL (cellsL z) (n + 1)).length (by rw [hlen]; exact hl)
    refine (semW_bind' _ _).2 ?_
    rw [hzc]
    refine semW_storeCells _ 0 (hok _) (fun j hj => ?_) ⟨(), rfl, hk _ (Mv.of_other p2) (by rw [hlen] at p1; exact p1)⟩
    rw [Nat.zero_add]
    exact stOk_get hst j hj

end
end Lf

/-
  Fields of elements; parts of slices by their places; copies into a block.
-/
namespace Lf
open Go

section
variable {α : Type} {h : Hp} {sz : Nat} {enc : α → List Value} {l : Sl} {xs : List α}

theorem Rw.fld (r : Rw h sz enc l xs) (henc : ∀ x, (enc x).length = sz) (hsz : 0 < sz) {sh : Shape} (g : α → sh.T) {j : Nat} (hg : ∀ x, ((enc x).drop j).take (cellsL (sh.enc (g x))).length = cellsL (sh.enc (g x))) {i : Int} (h0 : 0 ≤ i) (h1 : i < (xs.length : Int))
    {K : sh.T → Prop} (hk : ∀ x, xs[i.toNat]? = some x → K (g x)) : InB l.base l.len i ∧ LdW none sh h ((sat l.base sz i).add j) K := by
  obtain ⟨e1, x, hx, hl⟩ := r.read henc hsz h0 (by rw [r.1]; exact h1)
  refine ⟨e1, g x, fun q v hv => ?_, hk x hx⟩
  rw [add_add]
  refine hl (j + q) v ?_
  rw [← hg x, List.getElem?_take] at hv
  split at hv
  · rw [List.getElem?_drop] at hv; exact hv
  · cases hv

theorem Rw.fldC (r : Rw h sz enc l xs) (henc : ∀ x, (enc x).length = sz) (hsz : 0 < sz) {sh : Shape} (g : α → sh.T) {j : Nat} (hg : ∀ x, ((enc x).drop j).take (cellsL (sh.enc (g x))).length = cellsL (sh.enc (g x))) (x0 : sh.T) {c : Bool} {i : Int} (h0 : c = true → 0 ≤ i ∧ i < (xs.length : Int))
    {K : sh.T → Prop} (hk : ∀ y, (c = true → ∃ x, xs[i.toNat]? = some x ∧ y = g x) → K y) : (c = true → InB l.base l.len i) ∧ LdW (some c) sh h ((sat l.base sz i).add j) K := by
  cases c with
  | false => exact ⟨fun e => (by cases e), x0, fun e => (by cases e), hk x0 fun e => (by cases e)⟩
  | true =>
    obtain ⟨h0, h1⟩ := h0 rfl
    obtain ⟨e1, y, hy, hk'⟩ := r.fld henc hsz g hg h0 h1 (K := fun y => ∃ x, xs[i.toNat]? = some x ∧ y = g x) fun x hx => ⟨x, hx, rfl⟩
    exact ⟨fun _ => e1, y, fun _ => hy, hk y fun _ => hk'⟩

theorem sbase_at {b o a c : Nat} (hne : c ≠ a) : sbase (some ⟨b, o, none⟩) sz a c = some ⟨b, o + a * sz, none⟩ := by
  unfold sbase
  rw [if_neg hne]
  show some ((⟨b, o, none⟩ : Addr).add (a * sz)) = _
  rw [box_add]

theorem Blk.rd {b : Nat} {cs new : List Value} (k : Blk h b cs) {off n : Nat} (hn : new.length = n) (e : (cs.drop off).take n = new) : RdCells h (some ⟨b, off, none⟩) n new := ⟨hn, .inr ⟨_, rfl, k.ldIs e⟩⟩

theorem copyW_blk {b off dl dc n : Nat} {cs new : List Value} {x : Sl} {K : Int → Hp → Prop} (kb : Blk h b cs) (hn : min x.len dl = n) (hr : RdCells h x.base (n * sz) new) (hok : okCells new = true) (hl : off + n * sz ≤ cs.length)
    (hk : ∀ h', Mv [b] h [b] h' → Blk h' b (cs.take off ++ new ++ cs.drop (off + n * sz)) → K (n : Nat) h') : CopyW sz ⟨some ⟨b, off, none⟩, dl, dc⟩ x K h := by
  subst hn
  have hlen : new.length = min x.len dl * sz := hr.1
  refine ⟨new, hr, hok, fun a ha => ?_, ?_⟩
  · cases ha
    exact kb.stOk _ hl
  · obtain ⟨p1, p2⟩ := kb.put (off := off) (new := new) (by rw [hlen]; exact hl)
    have e : putO h (some ⟨b, off, none⟩) 0 new = putL h ⟨b, off, none⟩ new 0 := by simp only [putO, box_add, Nat.add_zero]
    show K _ (putO h (some ⟨b, off, none⟩) 0 new)
    rw [e]
    rw [hlen] at p1
    exact hk _ (Mv.of_other p2) p1

/-- Zero values are appended where there is no room. -/
theorem appZ_new {bytes : Nat} {zero : List Value} {l : Sl} {m : Int} {old : List Value} {K : Sl → Hp → Prop} (hm : 0 ≤ m) (hr : RdCells h l.base (l.len * sz) old) (hb : l.len + m.toNat ≤ 140737488355328 ∧ (l.len + m.toNat) * bytes ≤ 140737488355328)
    (hz : okCells (zerosL zero m.toNat) = true) (hfull : l.cap < l.len + m.toNat) (hk : ∀ b c h', h b = none → l.len + m.toNat ≤ c → h ≤ h' → Mv [] h [b] h' → Blk h' b (old ++ zerosL zero m.toNat ++ zerosL zero (c - (l.len + m.toNat))) → K ⟨some ⟨b, 0, none⟩, l.len + m.toNat, c⟩ h') :
    AppendZW sz bytes zero l m K h :=
  ⟨hm, old, hr, hb, hz, fun h1 => absurd h1 (by omega), fun _ c b t hc hbn => hk b c _ hbn hc (set_new hbn) (Mv.new hbn) ⟨t, set_self⟩⟩

/-- Append in place, of cells that may lie in the same block. -/
theorem app_in {bytes b off ll lc n : Nat} {zero : List Value} {x : Sl} {cs new old : List Value} {K : Sl → Hp → Prop} (kb : Blk h b cs) (hro : RdCells h (some ⟨b, off, none⟩) (ll * sz) old) (hrn : RdCells h x.base (x.len * sz) new) (hn : x.len = n) (hok : okCells new = true)
    (hb : ll + n ≤ 140737488355328 ∧ (ll + n) * bytes ≤ 140737488355328) (hroom : ll + n ≤ lc) (hl : off + ll * sz + n * sz ≤ cs.length)
    (hk : ∀ h', Mv [b] h [b] h' → Blk h' b (cs.take (off + ll * sz) ++ new ++ cs.drop (off + ll * sz + n * sz)) → K ⟨some ⟨b, off, none⟩, ll + n, lc⟩ h') : AppendW sz bytes zero ⟨some ⟨b, off, none⟩, ll, lc⟩ x K h := by
  subst hn
  have hlen : new.length = x.len * sz := hrn.1
  refine ⟨new, hrn, old, hro, hb, hok, fun _ => ⟨fun a ha => ?_, ?_⟩, fun h1 => absurd h1 (by show ¬ lc < ll + x.len; omega)⟩
  · cases ha
    rw [box_add]
    exact kb.stOk _ hl
  · obtain ⟨p1, p2⟩ := kb.put (off := off + ll * sz) (new := new) (by rw [hlen]; exact hl)
    have e : putO h (some ⟨b, off, none⟩) (ll * sz) new = putL h ⟨b, off + ll * sz, none⟩ new 0 := by simp only [putO, box_add]
    show K _ (putO h (some ⟨b, off, none⟩) (ll * sz) new)
    rw [e]
    rw [hlen] at p1
    exact hk _ (Mv.of_other p2) p1

theorem set_split {xs : List α} {i : Nat} (x : α) (hi : i < xs.length) : xs.set i x = xs.take i ++ x :: xs.drop (i + 1) := by
  rw [List.set_eq_take_append_cons_drop, if_pos hi]

/-- An element is written over. -/
theorem OwnF.store {F : List Nat} (o : OwnF h sz enc l xs F) (henc : ∀ x, (enc x).length = sz) {i : Int} (h0 : 0 ≤ i) (h1 : i < (xs.length : Int)) (x : α) {K : Hp → Prop} (hk : ∀ h', OwnF h' sz enc l (xs.set i.toNat x) F → Mv F h F h' → K h') :
    InB l.base l.len i ∧ StW h (sat l.base sz i) (enc x) K := by
  obtain ⟨o1, o2, o3⟩ := o
  rcases o3 with ⟨_, e2, _⟩ | ⟨b, cs, e1, rfl, kb, e4, e5⟩
  · omega
  · refine ⟨⟨by rw [e1]; simp, h0, by omega⟩, ?_⟩
    have hi : i.toNat < xs.length := by omega
    have ha : sat l.base sz i = ⟨b, i.toNat * sz, none⟩ := by unfold sat; rw [e1, Option.getD_some, box_add, Nat.zero_add]
    rw [ha]
    have hmul : i.toNat * sz + sz ≤ l.len * sz := by
      have := Nat.mul_le_mul_right sz (show i.toNat + 1 ≤ l.len by omega)
      rw [Nat.add_mul, Nat.one_mul] at this
      exact this
    have hmul2 : l.len * sz ≤ l.cap * sz := Nat.mul_le_mul_right sz o2
    refine stW_blk kb (by rw [henc, e4]; omega) fun h' m' k' => ?_
    rw [henc] at k'
    refine hk h' ⟨by simp [o1], o2, .inr ⟨b, _, e1, rfl, k', ?_, ?_⟩⟩ m'
    · simp only [List.length_append, List.length_take, List.length_drop, henc, e4]
      omega
    · rw [set_split x hi]
      have t1 : cs.take (i.toNat * sz) = (xs.take i.toNat).flatMap enc := by
        rw [flat_take henc, ← e5, List.take_take]; congr 1; omega
      have t2 : (cs.drop (i.toNat * sz + sz)).take (l.len * sz - (i.toNat * sz + sz)) = (xs.drop (i.toNat + 1)).flatMap enc := by
        rw [flat_drop henc, ← e5, Nat.add_mul, Nat.one_mul, List.drop_take]
      have hl1 : (cs.take (i.toNat * sz) ++ enc x).length = i.toNat * sz + sz := by
        rw [List.length_append, List.length_take, henc, e4]; omega
      rw [List.take_append, hl1, t2, List.take_of_length_le (by rw [hl1]; exact hmul), t1]
      simp

end
end Lf

/-
  What is done with is held in a part of memory.
-/
namespace Lf
open Go

/-- A memory without some blocks. -/
def cutH (k : Hp) (R : List Nat) : Hp := fun b => if b ∈ R then none else k b

theorem cut_le {k : Hp} {R : List Nat} : cutH k R ≤ k := fun b o e => by
  unfold cutH at e
  split at e
  · cases e
  · exact e

theorem cut_none {k : Hp} {R : List Nat} {b : Nat} (h : b ∈ R) : cutH k R b = none := by
  unfold cutH
  rw [if_pos h]

theorem cut_eq {k : Hp} {R : List Nat} {b : Nat} (h : b ∉ R) : cutH k R b = k b := by
  unfold cutH
  rw [if_neg h]

theorem le_cut {d k : Hp} {R : List Nat} (hl : d ≤ k) (hn : ∀ b ∈ R, d b = none) : d ≤ cutH k R := fun b o e => by
  rw [cut_eq fun hb => by rw [hn b hb] at e; cases e]
  exact hl b o e

theorem hcell_same {h h' : Hp} {a : Addr} (e : h' a.block = h a.block) : hcell h' a = hcell h a := by
  unfold hcell
  rw [e]

theorem addr_block (a : Addr) (n : Nat) : (a.add n).block = a.block := by
  unfold Addr.add
  split <;> rfl

theorem ldIs_same {h h' : Hp} {a : Addr} {cs : List Value} (l : LdIs h a cs) (e : h' a.block = h a.block) : LdIs h' a cs := fun i v hv => by
  have : hcell h' (a.add i) = hcell h (a.add i) := hcell_same (a := a.add i) (by rw [addr_block]; exact e)
  rw [this]
  exact l i v hv

section
variable {α : Type} {h h' : Hp} {sz : Nat} {enc : α → List Value} {l : Sl} {xs : List α} {F : List Nat}

theorem Rw.same (r : Rw h sz enc l xs) (e : ∀ a, l.base = some a → h' a.block = h a.block) : Rw h' sz enc l xs := by
  obtain ⟨h1, h2, h3⟩ := r
  refine ⟨h1, h2, h3.imp id ?_⟩
  rintro ⟨a, ha, hl⟩
  exact ⟨a, ha, ldIs_same hl (e a ha)⟩

theorem Rw.nil {l : Sl} (hl : l.len = 0) : Rw h sz enc l ([] : List α) := ⟨hl, (by simp), .inl (by simp)⟩

theorem OwnF.grow (o : OwnF h sz enc l xs F) (hl : h ≤ h') : OwnF h' sz enc l xs F := by
  obtain ⟨h1, h2, h3⟩ := o
  refine ⟨h1, h2, h3.imp id ?_⟩
  rintro ⟨b, cs, e1, rfl, e3, e4⟩
  exact ⟨b, cs, e1, rfl, e3.le hl, e4⟩

theorem OwnF.cut {R : List Nat} (o : OwnF h sz enc l xs F) (hd : ∀ b ∈ F, b ∉ R) : OwnF (cutH h R) sz enc l xs F := o.same fun b hb => cut_eq (hd b hb)

theorem OwnF.head (o : OwnF h sz enc l xs F) (henc : ∀ x, (enc x).length = sz) {n : Nat} (hn : n ≤ xs.length) : OwnF h sz enc ⟨l.base, n, l.cap⟩ (xs.take n) F := by
  obtain ⟨h1, h2, h3⟩ := o
  refine ⟨by simp; omega, by show n ≤ l.cap; omega, h3.imp id ?_⟩
  rintro ⟨b, cs, e1, e2, e3, e4, e5⟩
  refine ⟨b, cs, e1, e2, e3, e4, ?_⟩
  show cs.take (n * sz) = _
  rw [flat_take henc, ← e5, List.take_take, h1, Nat.min_eq_left (Nat.mul_le_mul_right sz hn)]

theorem OwnF.base (o : OwnF h sz enc l xs F) {a : Addr} (ha : l.base = some a) : F = [a.block] := by
  obtain ⟨_, _, h3⟩ := o
  rcases h3 with ⟨e, _⟩ | ⟨b, cs, e1, rfl, _⟩
  · rw [e] at ha; cases ha
  · rw [e1] at ha; cases ha; rfl

/-- Append, and whether it was in place. -/
theorem appS {zero : List Value} {bytes : Nat} {x : Sl} {ys : List α} {K : Sl → Hp → Prop} (o : OwnF h sz enc l xs F) (r : Rw h sz enc x ys) (henc : ∀ x, (enc x).length = sz) (hok : ∀ x, okCells (enc x) = true)
    (hz : zero.length = sz) (hb : xs.length + ys.length ≤ 140737488355328 ∧ (xs.length + ys.length) * bytes ≤ 140737488355328)
    (hk : ∀ l' h' F', OwnF h' sz enc l' (xs ++ ys) F' → Mv F h F' h' → (F' = F ∧ l'.base = l.base) ∨ (h ≤ h' ∧ ∀ b ∈ F', h b = none) → K l' h') : AppendW sz bytes zero l x K h := by
  have hrw := o.rw henc
  obtain ⟨h1, h2, h3⟩ := o
  obtain ⟨hx1, hx2⟩ := r
  refine ⟨ys.flatMap enc, by rw [hx1]; exact hx2, xs.flatMap enc, by rw [h1]; exact hrw.2, by rw [h1, hx1]; exact hb, flat_ok hok ys, fun hcap => ?_, fun hcap c b t hc hbn => ?_⟩
  · rcases h3 with ⟨e, ec, rfl⟩ | ⟨b, cs, e, rfl, hbk, hl, ht⟩
    · have e1 : ys.length = 0 := by omega
      have e2 : ys = [] := List.length_eq_zero_iff.1 e1
      subst e2
      refine ⟨fun a ha => (by rw [e] at ha; cases ha), ?_⟩
      have e3 : putO h l.base (l.len * sz) (([] : List α).flatMap enc) = h := by rw [e]; rfl
      rw [e3, hx1]
      exact hk _ h [] ⟨by simp [h1], by simpa using h2, .inl ⟨e, ec, rfl⟩⟩ (Mv.refl _ _) (.inl ⟨rfl, rfl⟩)
    · have hle : l.len * sz + (ys.flatMap enc).length ≤ cs.length := by
        rw [hl, flat_len henc, ← Nat.add_mul]
        exact Nat.mul_le_mul_right sz (by omega)
      obtain ⟨p1, p2⟩ := hbk.put hle
      refine ⟨fun a ha => ?_, ?_⟩
      · rw [e] at ha; cases ha
        rw [box_add, Nat.zero_add]
        refine hbk.stOk _ ?_
        rw [hx1, ← flat_len henc ys]
        exact hle
      · have e3 : putO h l.base (l.len * sz) (ys.flatMap enc) = putL h ⟨b, l.len * sz, none⟩ (ys.flatMap enc) 0 := by
          rw [e]
          simp only [putO, box_add, Nat.zero_add]
        rw [e3]
        refine hk _ _ [b] ⟨by simp [h1, hx1], hcap, .inr ⟨b, _, e, rfl, p1, ?_, ?_⟩⟩ (Mv.of_other p2) (.inl ⟨rfl, rfl⟩)
        · rw [← hl]
          simp only [List.length_append, List.length_take, List.length_drop]
          omega
        · have e4 : (l.len + x.len) * sz = (cs.take (l.len * sz) ++ ys.flatMap enc).length := by
            rw [List.length_append, ht, flat_len henc, flat_len henc, h1, hx1, Nat.add_mul]
          show List.take ((l.len + x.len) * sz) _ = _
          rw [e4, List.take_left, ht, List.flatMap_append]
  · have hn : Mv F h [b] (h.set b (.cells (xs.flatMap enc ++ ys.flatMap enc ++ zerosL zero (c - (l.len + x.len))).toArray t (0, 0))) :=
      (Mv.new hbn).sub (fun b hb => by cases hb) fun b hb => .inl hb
    refine hk _ _ [b] ⟨by simp [h1, hx1], hc, .inr ⟨b, xs.flatMap enc ++ ys.flatMap enc ++ zerosL zero (c - (l.len + x.len)), rfl, rfl, ⟨t, set_self⟩, ?_, ?_⟩⟩ hn (.inr ⟨set_new hbn, fun b' hb' => by rw [List.mem_singleton.1 hb']; exact hbn⟩)
    · rw [List.length_append, List.length_append, flat_len henc, flat_len henc, zerosL_len, hz, ← Nat.add_mul, ← Nat.add_mul]
      show _ = c * sz
      congr 1
      omega
    · have e4 : (l.len + x.len) * sz = (xs.flatMap enc ++ ys.flatMap enc).length := by
        rw [List.length_append, flat_len henc, flat_len henc, h1, hx1, Nat.add_mul]
      show List.take ((l.len + x.len) * sz) _ = _
      rw [e4, List.take_left, List.flatMap_append]

/-- All elements are written over by one. -/
theorem fill_ok {bound : Nat} {c : α} (o : OwnF h sz enc l xs F) (henc : ∀ x, (enc x).length = sz) (hl : xs.length ≤ 1000000000) {K : Hp → Prop} {cs : List Value} (hc : cs = enc c)
    (hk : ∀ h', OwnF h' sz enc l (List.replicate xs.length c) F → Mv F h F h' → K h') (hb : l.len = bound) :
    LoopW1 (α1 := Int) (fun again i h1 =>
 (if (decide (i < ((bound : Nat) : Int))) = true then
 ((InB l.base bound i) ∧ StW h1 (sat l.base sz i) cs (fun h2 =>
 again (IntKind.wrap .i64 (i + (1 : Int))) h2))
 else
 K h1)) (0 : Int) h := by
  subst hb
  have h1 := o.1
  refine LoopW1.intro (fun i k => ∃ zs, OwnF k sz enc l zs F ∧ Mv F h F k ∧ zs.length = xs.length ∧ 0 ≤ i ∧ i ≤ (xs.length : Int) ∧ zs.take i.toNat = List.replicate i.toNat c) (fun i _ => (xs.length - i).toNat) ⟨xs, o, Mv.refl _ _, rfl, by omega, by omega, rfl⟩ ?_
  rintro i k ⟨zs, oz, mz, hz, hi0, hi1, ht⟩
  split
  · rename_i e
    have e : i < (l.len : Int) := by simpa using e
    subst hc
    refine oz.store henc hi0 (by omega) c fun h' o' m' => ?_
    rw [wrap64 (by omega) (by omega)]
    refine ⟨⟨_, o', mz.trans m', by rw [List.length_set]; exact hz, by omega, by omega, ?_⟩, by omega⟩
    have e1 : (i + 1).toNat = i.toNat + 1 := by omega
    rw [e1, List.take_add_one, List.take_set_of_le (Nat.le_refl _), List.getElem?_set_self (by omega), ht, List.replicate_succ']
    rfl
  · rename_i e
    have e : ¬ i < (l.len : Int) := by simpa using e
    have e1 : i.toNat = xs.length := by omega
    rw [e1, ← hz, List.take_length, hz] at ht
    refine hk _ ?_ mz
    rw [← ht]
    exact oz

end
end Lf

/-
  What stays of a slice that is read while others are written.
-/
namespace Lf
open Go

theorem hcell_known {h : Hp} {a : Addr} {v : Value} (e : hcell h a = some v) : ∃ o, h a.block = some o := by
  unfold hcell at e
  split at e
  · rename_i c t f hb
    exact ⟨_, hb⟩
  · cases e

theorem ldIs_mv {F F' : List Nat} {h h' : Hp} {a : Addr} {cs : List Value} (l : LdIs h a cs) (m : Mv F h F' h') (hn : a.block ∉ F) : LdIs h' a cs := fun i v hv => by
  have h1 := l i v hv
  obtain ⟨o, ho⟩ := hcell_known h1
  have hb : (a.add i).block = a.block := addr_block a i
  rw [hcell_same (h := h) (h' := h') (a := a.add i) (by rw [ho]; exact m.keep _ _ ho (by rw [hb]; exact hn))]
  exact h1

section
variable {α : Type} {h h' : Hp} {sz : Nat} {enc : α → List Value} {l : Sl} {xs : List α} {F F' : List Nat}

theorem Rw.mvk (r : Rw h sz enc l xs) (m : Mv F h F' h') (hn : ∀ a, l.base = some a → xs.length * sz ≠ 0 → a.block ∉ F) : Rw h' sz enc l xs := by
  obtain ⟨h1, h2, h3⟩ := r
  by_cases h0 : xs.length * sz = 0
  · exact ⟨h1, h2, .inl h0⟩
  · obtain ⟨a, ha, hl⟩ := h3.resolve_left h0
    exact ⟨h1, h2, .inr ⟨a, ha, ldIs_mv hl m (hn a ha h0)⟩⟩

theorem Rw.known (r : Rw h sz enc l xs) {a : Addr} (ha : l.base = some a) (h0 : xs.length * sz ≠ 0) : h a.block ≠ none := by
  obtain ⟨h1, h2, h3⟩ := r
  obtain ⟨a', ha', hl⟩ := h3.resolve_left h0
  rw [ha] at ha'
  cases ha'
  have hne : (xs.flatMap enc).length ≠ 0 := by rw [h2]; exact h0
  obtain ⟨v, hv⟩ : ∃ v, (xs.flatMap enc)[0]? = some v := ⟨(xs.flatMap enc)[0]'(by omega), List.getElem?_eq_getElem (by omega)⟩
  obtain ⟨o, ho⟩ := hcell_known (hl 0 v hv)
  rw [addr_block] at ho
  rw [ho]
  simp

theorem Rw.cutR {R : List Nat} (r : Rw h sz enc l xs) (hn : ∀ a, l.base = some a → xs.length * sz ≠ 0 → a.block ∉ R) : Rw (cutH h R) sz enc l xs := by
  obtain ⟨h1, h2, h3⟩ := r
  by_cases h0 : xs.length * sz = 0
  · exact ⟨h1, h2, .inl h0⟩
  · obtain ⟨a, ha, hl⟩ := h3.resolve_left h0
    exact ⟨h1, h2, .inr ⟨a, ha, ldIs_same hl (cut_eq (hn a ha h0))⟩⟩

/-- Only the place and the length count. -/
theorem Rw.re {l' : Sl} (r : Rw h sz enc l xs) (hb : l'.base = l.base) (hl : l'.len = l.len) : Rw h sz enc l' xs := by
  obtain ⟨h1, h2⟩ := r
  exact ⟨hl.trans h1, by rw [hb]; exact h2⟩

/-- One is appended again and again, to a slice whose first elements are read elsewhere. -/
theorem appends_ok {c : α} {cs zero : List Value} {bytes N : Nat} {NI : Int} {x1 : Sl} {n : Nat} {K : Sl → Hp → Prop} (henc : ∀ x, (enc x).length = sz) (hok : ∀ x, okCells (enc x) = true) (hz : zero.length = sz) (hc : cs = enc c) (hsz : sz = 1) (hNI : NI = (N : Int)) (hN : n + N ≤ 1000000) (hb : bytes ≤ 1000)
    (o : OwnF h sz enc x1 (List.replicate n c) F)
    (hk : ∀ m h' F', OwnF h' sz enc m (List.replicate (n + N) c) F' → Mv F h F' h' → Rw h' sz enc x1 (List.replicate n c) → (∀ a, x1.base = some a → n ≠ 0 → a.block ∈ F) → K m h') :
    LoopW2 (α1 := Sl) (α2 := Int) (fun again6 m i h21 =>
 (if (decide (i < NI)) = true then
 NewW cs (fun a3 h22 =>
 AppendW sz bytes zero ⟨m.base, m.len, m.cap⟩ ⟨(some a3), 1, 1⟩ (fun r15 h23 =>
 again6 r15 (IntKind.wrap .i64 (i + (1 : Int))) h23) h22) h21
 else
 K m h21)) x1 (0 : Int) h := by
  subst hc
  subst hNI
  have hlen := o.1
  simp only [List.length_replicate] at hlen
  have hF : ∀ a, x1.base = some a → F = [a.block] := fun a ha => o.base ha
  refine LoopW2.intro (fun m i k => 0 ≤ i ∧ i ≤ (N : Int) ∧ ∃ F', OwnF k sz enc m (List.replicate (n + i.toNat) c) F' ∧ Mv F h F' k ∧ Rw k sz enc x1 (List.replicate n c) ∧ ((F' = F ∧ m.base = x1.base) ∨ ∀ a, x1.base = some a → n ≠ 0 → a.block ∉ F')) (fun _ i _ => (N - i).toNat)
    ⟨by omega, by omega, F, o, Mv.refl _ _, o.rw henc, .inl ⟨rfl, rfl⟩⟩ ?_
  rintro m i k ⟨hi0, hi1, F', o', m', r', hcase⟩
  split
  · rename_i e
    have e : i < (N : Int) := by simpa using e
    refine newF (xs := [c]) (enc := enc) (sz := sz) (by simp) henc fun b k2 hb2 hle2 _ o2 => ?_
    refine appS (o'.grow hle2) (o2.rw henc) henc hok hz (by
      simp only [List.length_replicate, List.length_cons, List.length_nil]
      refine ⟨by omega, ?_⟩
      exact Nat.le_trans (Nat.mul_le_mul (show n + i.toNat + (0 + 1) ≤ 1000000 by omega) hb) (by omega)) fun l' k3 F3 o3 m3 hw => ?_
    rw [wrap64 (by omega) (by omega)]
    have e1 : n + (i + 1).toNat = n + i.toNat + 1 := by omega
    have e2 : List.replicate (n + i.toNat) c ++ [c] = List.replicate (n + i.toNat + 1) c := by rw [List.replicate_succ']
    rw [e2] at o3
    have r2 := Rw.mono hle2 r'
    have mm := m'.trans ((Mv.of_le F' hle2).trans m3)
    have hnn : ∀ {a : Addr}, n ≠ 0 → (List.replicate n c).length * sz ≠ 0 := fun hn => by rw [hsz, List.length_replicate]; omega
    have hnn' : (List.replicate n c).length * sz ≠ 0 → n ≠ 0 := fun hn e => by rw [e] at hn; simp at hn
    rcases hw with ⟨rfl, hbase⟩ | ⟨hle3, hnew⟩
    · rcases hcase with ⟨rfl, hA⟩ | hB
      · refine ⟨⟨by omega, by omega, F3, by rw [e1]; exact o3, mm, ?_, .inl ⟨rfl, hbase.trans hA⟩⟩, by omega⟩
        have h5 := (o3.head henc (n := n) (by simp; omega)).rw henc
        have h6 : (List.replicate (n + i.toNat + 1) c).take n = List.replicate n c := by
          rw [List.take_replicate]; congr 1; omega
        rw [h6] at h5
        exact h5.re (hA.symm.trans hbase.symm) hlen
      · refine ⟨⟨by omega, by omega, F3, by rw [e1]; exact o3, mm, ?_, .inr hB⟩, by omega⟩
        exact r2.mvk m3 fun a ha hn => hB a ha (hnn' hn)
    · refine ⟨⟨by omega, by omega, F3, by rw [e1]; exact o3, mm, Rw.mono hle3 r2, .inr fun a ha hn hmem => ?_⟩, by omega⟩
      exact r2.known ha (hnn (a := a) hn) (hnew _ hmem)
  · rename_i e
    have e : ¬ i < (N : Int) := by simpa using e
    have e1 : i.toNat = N := by omega
    rw [e1] at o'
    exact hk m k F' o' m' r' fun a ha _ => by rw [hF a ha]; exact List.mem_singleton.2 rfl

end
end Lf

/-
  By program: the structures of the module, as rows of cells.
-/
set_option maxRecDepth 100000
namespace Lf
open Go

structure S_n2_int where
  a0 : Int
  a1 : Int
def S_n2_int.v (x : S_n2_int) : Value := .agg #[.int .i64 x.a0, .int .i64 x.a1]
@[reducible] def sh_n2_int : Shape where
  T := S_n2_int
  enc := fun x => .agg #[.int .i64 x.a0, .int .i64 x.a1]
  dec := fun v => match v with
    | .agg ⟨[.int .i64 a0, .int .i64 a1]⟩ => some ⟨a0, a1⟩
    | _ => none
  ok := by intro v x h; split at h <;> cases h; rfl

structure S_table_Table where
  labels : Sl
  by_ : Option Nat
def S_table_Table.v (x : S_table_Table) : Value := .agg #[.slice x.labels.base x.labels.len x.labels.cap, .map x.by_]
@[reducible] def sh_table_Table : Shape where
  T := S_table_Table
  enc := fun x => .agg #[.slice x.labels.base x.labels.len x.labels.cap, .map x.by_]
  dec := fun v => match v with
    | .agg ⟨[.slice a0 b0 c0, .map a1]⟩ => some ⟨⟨a0, b0, c0⟩, a1⟩
    | _ => none
  ok := by intro v x h; split at h <;> cases h; rfl

end Lf

/-
  By program: the types of the module by their numbers.
-/
set_option maxRecDepth 100000
namespace Lf
open Go

def ty0 : Ty := { und := (.tuple #[]), size := 1, bytes := 0, zero := (.tuple #[]), sh := shUnit }
def ty3 : Ty := { und := (.int .i64), size := 1, bytes := 8, zero := (.int .i64 0), sh := shInt .i64 }
def ty4 : Ty := { und := .bool, size := 1, bytes := 1, zero := (.bool false), sh := shBool }
def ty5 : Ty := { und := (.int .u8), size := 1, bytes := 1, zero := (.int .u8 0), sh := shInt .u8 }
def ty9 : Ty := { und := .string, size := 1, bytes := 16, zero := (.string ByteArray.empty), sh := shStr }
def ty20 : Ty := { und := (.interface #[]), size := 1, bytes := 16, zero := .nilIface, sh := shLeaf }
def ty23 : Ty := { und := (.slice 24), size := 1, bytes := 24, zero := (.slice none 0 0), sh := shSl }
def ty24 : Ty := { und := (.array 2 3), size := 2, bytes := 16, zero := (.agg #[(.int .i64 0), (.int .i64 0)]), sh := sh_n2_int }
def ty25 : Ty := { und := (.slice 3), size := 1, bytes := 24, zero := (.slice none 0 0), sh := shSl }
def ty29 : Ty := { und := (.map 3 3), size := 1, bytes := 8, zero := (.map none), sh := shMap }
def ty31 : Ty := { und := (.tuple #[3, 4]), size := 1, bytes := 0, zero := (.tuple #[(.int .i64 0), (.bool false)]), sh := shTup2 (shInt .i64) shBool }
def ty33 : Ty := { und := (.slice 43), size := 1, bytes := 24, zero := (.slice none 0 0), sh := shSl }
def ty35 : Ty := { und := (.int .i64), size := 1, bytes := 8, zero := (.int .i64 0), sh := shInt .i64 }
def ty36 : Ty := { und := (.tuple #[35, 3]), size := 1, bytes := 0, zero := (.tuple #[(.int .i64 0), (.int .i64 0)]), sh := shTup2 (shInt .i64) (shInt .i64) }
def ty38 : Ty := { und := (.pointer 65), size := 1, bytes := 8, zero := (.pointer none), sh := shPtr }
def ty39 : Ty := { und := (.tuple #[38, 35, 3]), size := 1, bytes := 0, zero := (.tuple #[(.pointer none), (.int .i64 0), (.int .i64 0)]), sh := shTup3 shPtr (shInt .i64) (shInt .i64) }
def ty43 : Ty := { und := (.int .u64), size := 1, bytes := 8, zero := (.int .u64 0), sh := shInt .u64 }
def ty48 : Ty := { und := (.slice 25), size := 1, bytes := 24, zero := (.slice none 0 0), sh := shSl }
def ty55 : Ty := { und := (.func #[68] #[] false), size := 1, bytes := 8, zero := .nilFunc, sh := shLeaf }
def ty56 : Ty := { und := (.func #[68] #[] false), size := 1, bytes := 8, zero := .nilFunc, sh := shLeaf }
def ty60 : Ty := { und := (.tuple #[43, 35]), size := 1, bytes := 0, zero := (.tuple #[(.int .u64 0), (.int .i64 0)]), sh := shTup2 (shInt .u64) (shInt .i64) }
def ty63 : Ty := { und := (.map 43 3), size := 1, bytes := 8, zero := (.map none), sh := shMap }
def ty65 : Ty := { und := (.struct #[{ name := "labels", type := 33, offset := 0, embedded := false, tag := "", pkgPath := "firebreak/table", byteOffset := 0 }, { name := "by", type := 63, offset := 1, embedded := false, tag := "", pkgPath := "firebreak/table", byteOffset := 24 }]), size := 2, bytes := 32, zero := (.agg #[(.slice none 0 0), (.map none)]), sh := sh_table_Table }
def ty68 : Ty := { und := (.func #[3] #[4] false), size := 1, bytes := 8, zero := .nilFunc, sh := shLeaf }
def ty75 : Ty := { und := (.int .u64), size := 1, bytes := 8, zero := (.int .u64 0), sh := shInt .u64 }
def ty80 : Ty := { und := (.int .i64), size := 1, bytes := 8, zero := (.int .i64 0), sh := shInt .i64 }
def ty81 : Ty := { und := (.tuple #[3, 80]), size := 1, bytes := 0, zero := (.tuple #[(.int .i64 0), (.int .i64 0)]), sh := shTup2 (shInt .i64) (shInt .i64) }
def ty86 : Ty := { und := (.int .u32), size := 1, bytes := 4, zero := (.int .u32 0), sh := shInt .u32 }
def ty93 : Ty := { und := (.int .u64), size := 1, bytes := 8, zero := (.int .u64 0), sh := shInt .u64 }
def ty97 : Ty := { und := (.pointer 3), size := 1, bytes := 8, zero := (.pointer none), sh := shPtr }
def ty102 : Ty := { und := (.pointer 93), size := 1, bytes := 8, zero := (.pointer none), sh := shPtr }
def ty103 : Ty := { und := (.tuple #[3, 3]), size := 1, bytes := 0, zero := (.tuple #[(.int .i64 0), (.int .i64 0)]), sh := shTup2 (shInt .i64) (shInt .i64) }
def tyRows : List (List (Option Ty)) := [[some ty0, none, none, some ty3, some ty4, some ty5, none, none, none, some ty9, none, none, none, none, none, none],
  [none, none, none, none, some ty20, none, none, some ty23, some ty24, some ty25, none, none, none, some ty29, none, some ty31],
  [none, some ty33, none, some ty35, some ty36, none, some ty38, some ty39, none, none, none, some ty43, none, none, none, none],
  [some ty48, none, none, none, none, none, none, some ty55, some ty56, none, none, none, some ty60, none, none, some ty63],
  [none, some ty65, none, none, some ty68, none, none, none, none, none, none, some ty75, none, none, none, none],
  [some ty80, some ty81, none, none, none, none, some ty86, none, none, none, none, none, none, some ty93, none, none],
  [none, some ty97, none, none, none, none, some ty102, some ty103]]
def tyAt (t : Nat) : Option Ty := match nth tyRows (t / 16) with
  | some r => match nth r (t % 16) with
    | some e => e
    | none => none
  | none => none
def fnRows : List (List Bool) := [[false, false, true, true, true, true, true, true, true, true, true, true, true, true, true, true],
  [true, true, true, true, true, true, true, true, true, true, true, true, true, true, true, true],
  [true, true, true, true, true, true, true, true, true, true, true, true, true, true, true, true],
  [true, true, true, true, true, true, true, true, true, true, true, true, true, true, true, true],
  [true, true, true, true, true, true, true, true, true, true, true, true, true, true, true, true],
  [true, true, true, true, true, true, true, true, true, true, true, true]]
def fnAt (g : Nat) : Bool := match nth fnRows (g / 16) with
  | some r => match nth r (g % 16) with
    | some e => e
    | none => false
  | none => false
def extAt (g : Nat) : Option (Array Value → Sem Value) := none
def tb : Tb := { ty := tyAt, call := fnAt, ext := extAt }

abbrev n_gosem_cut_init : Nat := 2
abbrev n_firebreaklaw20_GraphNames : Nat := 3
abbrev n_firebreaklaw20_GraphRings : Nat := 4
abbrev n_firebreaklaw02_TableMays : Nat := 5
abbrev n_firebreaklaw02_TableOrder : Nat := 6
abbrev n_firebreaklaw02_TableKeeps : Nat := 7
abbrev n_firebreaklaw20_fixed : Nat := 8
abbrev n_firebreakref20_Ring : Nat := 9
abbrev n_graph_Ring : Nat := 10
abbrev n_firebreaklaw20_ints : Nat := 11
abbrev n_firebreaklaw20_edges : Nat := 12
abbrev n_firebreakref20_Next : Nat := 13
abbrev n_firebreaklaw02_awake : Nat := 14
abbrev n_firebreaklaw02_short : Nat := 15
abbrev n_table_May : Nat := 16
abbrev n_firebreakref02_May : Nat := 17
abbrev n_table_New : Nat := 18
abbrev n_firebreakref02_SameLabels : Nat := 19
abbrev n_table_Canon : Nat := 20
abbrev n_firebreakref02_Canon : Nat := 21
abbrev n_table_Table_Up : Nat := 22
abbrev n_table_Table_Down : Nat := 23
abbrev n_table_Table_Flows : Nat := 24
abbrev n_firebreaklaw02_has : Nat := 25
abbrev n_firebreaklaw02_wide : Nat := 26
abbrev n_firebreaklaw02_kept : Nat := 27
abbrev n_firebreakref02_SameInts : Nat := 28
abbrev n_firebreakref02_Down : Nat := 29
abbrev n_firebreakref02_Up : Nat := 30
abbrev n_firebreakref20_sorted : Nat := 31
abbrev n_firebreakref20_told : Nat := 32
abbrev n_slices_Sorted_int : Nat := 33
abbrev n_maps_Keys_map_int_int_int_int : Nat := 34
abbrev n_graph_turned : Nat := 35
abbrev n_slices_Index_int_int : Nat := 36
abbrev n_table_Table_Len : Nat := 37
abbrev n_table_Table_Label : Nat := 38
abbrev n_table_Table_Index : Nat := 39
abbrev n_slices_Clone_uint64_uint64 : Nat := 40
abbrev n_slices_Sort_uint64_uint64 : Nat := 41
abbrev n_slices_Compact_uint64_uint64 : Nat := 42
abbrev n_table_Table_those : Nat := 43
abbrev n_table_Table_Up_1 : Nat := 44
abbrev n_table_Table_Down_1 : Nat := 45
abbrev n_label_Flows : Nat := 46
abbrev n_table_Table_is : Nat := 47
abbrev n_firebreakref01_Flows : Nat := 48
abbrev n_firebreakref02_Flows : Nat := 49
abbrev n_slices_Collect_int : Nat := 50
abbrev n_slices_Sort_int_int : Nat := 51
abbrev n_maps_Keys_map_int_int_int_int_1 : Nat := 52
abbrev n_slices_Min_int_int : Nat := 53
abbrev n_slices_Clone_int_int : Nat := 54
abbrev n_slices_pdqsortOrdered_uint64 : Nat := 55
abbrev n_math_bits_Len : Nat := 56
abbrev n_firebreakref01_Has : Nat := 57
abbrev n_slices_AppendSeq_int_int : Nat := 58
abbrev n_slices_pdqsortOrdered_int : Nat := 59
abbrev n_slices_insertionSortOrdered_uint64 : Nat := 60
abbrev n_slices_heapSortOrdered_uint64 : Nat := 61
abbrev n_slices_breakPatternsOrdered_uint64 : Nat := 62
abbrev n_slices_choosePivotOrdered_uint64 : Nat := 63
abbrev n_slices_reverseRangeOrdered_uint64 : Nat := 64
abbrev n_slices_partialInsertionSortOrdered_uint64 : Nat := 65
abbrev n_cmp_Less_uint64 : Nat := 66
abbrev n_slices_partitionEqualOrdered_uint64 : Nat := 67
abbrev n_slices_partitionOrdered_uint64 : Nat := 68
abbrev n_math_bits_Len32 : Nat := 69
abbrev n_math_bits_Len64 : Nat := 70
abbrev n_slices_insertionSortOrdered_int : Nat := 71
abbrev n_slices_heapSortOrdered_int : Nat := 72
abbrev n_slices_breakPatternsOrdered_int : Nat := 73
abbrev n_slices_choosePivotOrdered_int : Nat := 74
abbrev n_slices_reverseRangeOrdered_int : Nat := 75
abbrev n_slices_partialInsertionSortOrdered_int : Nat := 76
abbrev n_cmp_Less_int : Nat := 77
abbrev n_slices_partitionEqualOrdered_int : Nat := 78
abbrev n_slices_partitionOrdered_int : Nat := 79
abbrev n_slices_siftDownOrdered_uint64 : Nat := 80
abbrev n_slices_nextPowerOfTwo : Nat := 81
abbrev n_slices_xorshift_Next : Nat := 82
abbrev n_slices_medianAdjacentOrdered_uint64 : Nat := 83
abbrev n_slices_medianOrdered_uint64 : Nat := 84
abbrev n_cmp_isNaN_uint64 : Nat := 85
abbrev n_slices_siftDownOrdered_int : Nat := 86
abbrev n_slices_medianAdjacentOrdered_int : Nat := 87
abbrev n_slices_medianOrdered_int : Nat := 88
abbrev n_cmp_isNaN_int : Nat := 89
abbrev n_slices_order2Ordered_uint64 : Nat := 90
abbrev n_slices_order2Ordered_int : Nat := 91
end Lf

/-
  By program: what the functions do.
-/
set_option linter.unusedVariables false
namespace Lf
open Go

def firebreaklaw20_GraphNames_w (P : Program)  (Q : (Bool → (Hp → Prop))) (h : Hp) : Prop :=
 EffC (some true) (CallT P n_firebreaklaw20_fixed [] shBool) (fun r h1 =>
 LetW (true && r) fun y =>
 Q y h1) h

def firebreaklaw20_GraphRings_w (P : Program) (e : Sl) (Q : (Bool → (Hp → Prop))) (h : Hp) : Prop :=
 (if (decide (((e.len : Nat) : Int) > (1048576 : Int))) = true then
 CallT P n_firebreaklaw20_fixed [] shBool (fun r h1 =>
 Q r h1) h
 else
 MakeW 16 [(.int .i64 (0 : Int)), (.int .i64 (0 : Int))] (0 : Int) (IntKind.wrap .i64 (((e.len : Nat) : Int) + (2 : Int))) (fun r h1 =>
 AppendW 2 16 [(.int .i64 (0 : Int)), (.int .i64 (0 : Int))] r e (fun r1 h2 =>
 NewW [(.int .i64 (1 : Int)), (.int .i64 (2 : Int)), (.int .i64 (2 : Int)), (.int .i64 (1 : Int))] (fun a h3 =>
 AppendW 2 16 [(.int .i64 (0 : Int)), (.int .i64 (0 : Int))] r1 ⟨(some a), 2, 2⟩ (fun r2 h4 =>
 (((0 : Int) ≤ ((e.len : Nat) : Int) ∧ ((e.len : Nat) : Int) ≤ ((r2.cap : Nat) : Int)) ∧ LetW (α := Sl) ⟨(sbase r2.base 2 0 r2.cap), ((Int.toNat ((e.len : Nat) : Int)) - 0), (r2.cap - 0)⟩ fun y =>
 CallT P n_firebreakref20_Ring [e.v] shSl (fun r3 h5 =>
 CallT P n_graph_Ring [y.v] shSl (fun r4 h6 =>
 CallT P n_graph_Ring [y.v] shSl (fun r5 h7 =>
 CallT P n_firebreaklaw20_ints [r4.v, r3.v] shBool (fun r6 h8 =>
 EffC (some (!(!r6))) (CallT P n_firebreaklaw20_ints [r5.v, r3.v] shBool) (fun r7 h9 =>
 LetW ((!r6) || (!r7)) fun y1 =>
 EffC (some (!y1)) (CallT P n_firebreaklaw20_edges [y.v, e.v] shBool) (fun r8 h10 =>
 LetW (y1 || (!r8)) fun y2 =>
 (if y2 = true then
 Q false h10
 else
 NewW [] (fun a1 h11 =>
 LoopW2 (α1 := Sl) (α2 := Int) (fun again back i h12 =>
 (if (decide (i ≥ (0 : Int))) = true then
 ((InB e.base e.len i) ∧ LdW none sh_n2_int h12 (sat e.base 2 i) fun x =>
 NewW [(.int .i64 x.a0), (.int .i64 x.a1)] (fun a2 h13 =>
 AppendW 2 16 [(.int .i64 (0 : Int)), (.int .i64 (0 : Int))] ⟨back.base, back.len, back.cap⟩ ⟨(some a2), 1, 1⟩ (fun r9 h14 =>
 again r9 (IntKind.wrap .i64 (i - (1 : Int))) h14) h13) h12)
 else
 CallT P n_graph_Ring [back.v] shSl (fun r9 h13 =>
 CallT P n_firebreaklaw20_ints [r9.v, r3.v] shBool (fun r10 h14 =>
 (if (!r10) = true then
 Q false h14
 else
 CallT P n_firebreakref20_Next [e.v] shMap (fun r11 h15 =>
 MakeMapW  (fun r12 h16 =>
 LoopW1 (α1 := Int) (fun again1 i1 h17 =>
 (if (decide (i1 < ((r4.len : Nat) : Int))) = true then
 ((InB r4.base r4.len i1) ∧ LdW none (shInt .i64) h17 (sat r4.base 1 i1) fun x =>
 LookW none (.int .i64) (shInt .i64) (.int .i64 (0 : Int)) r11 (.int .i64 x) h17 fun x1 ok =>
 ((InB r4.base r4.len i1) ∧ LdW none (shInt .i64) h17 (sat r4.base 1 i1) fun x2 =>
 LookW none (.int .i64) (shInt .i64) (.int .i64 (0 : Int)) r12 (.int .i64 x2) h17 fun x3 ok1 =>
 MapSetW (.int .i64) r12 (.int .i64 x2) (.int .i64 (IntKind.wrap .i64 (x3 + (1 : Int)))) (fun h18 =>
 (((!(!ok)) = true → ((r4.len : Nat) : Int) ≠ (0 : Int)) ∧ (((!(!ok)) = true → (InB r4.base r4.len (Int.tmod (IntKind.wrap .i64 (i1 + (1 : Int))) ((r4.len : Nat) : Int)))) ∧ LdW (some (!(!ok))) (shInt .i64) h18 (sat r4.base 1 (Int.tmod (IntKind.wrap .i64 (i1 + (1 : Int))) ((r4.len : Nat) : Int))) fun x4 =>
 LetW ((!ok) || (x1 != x4)) fun y3 =>
 (((!y3) = true → (InB r4.base r4.len i1)) ∧ LdW (some (!y3)) (shInt .i64) h18 (sat r4.base 1 i1) fun x5 =>
 LookW (some (!y3)) (.int .i64) (shInt .i64) (.int .i64 (0 : Int)) r12 (.int .i64 x5) h18 fun x6 ok2 =>
 LetW (y3 || (decide (x6 > (1 : Int)))) fun y4 =>
 (((!y4) = true → (InB r4.base r4.len i1)) ∧ LdW (some (!y4)) (shInt .i64) h18 (sat r4.base 1 i1) fun x7 =>
 (((!y4) = true → (InB r4.base r4.len (0 : Int))) ∧ LdW (some (!y4)) (shInt .i64) h18 (sat r4.base 1 (0 : Int)) fun x8 =>
 LetW (y4 || (decide (x7 < x8))) fun y5 =>
 (if y5 = true then
 Q false h18
 else
 again1 (IntKind.wrap .i64 (i1 + (1 : Int))) h18))))))) h17))
 else
 LoopW1 (α1 := Int) (fun again2 i2 h18 =>
 (if (decide (i2 < ((r4.len : Nat) : Int))) = true then
 ((InB r4.base r4.len i2) ∧ StW h18 (sat r4.base 1 i2) [(.int .i64 (-9 : Int))] (fun h19 =>
 again2 (IntKind.wrap .i64 (i2 + (1 : Int))) h19))
 else
 LoopW2 (α1 := Sl) (α2 := Int) (fun again3 l i3 h19 =>
 (if (decide (i3 < (9 : Int))) = true then
 NewW [(.int .i64 (-9 : Int))] (fun a2 h20 =>
 AppendW 1 8 [(.int .i64 (0 : Int))] ⟨l.base, l.len, l.cap⟩ ⟨(some a2), 1, 1⟩ (fun r13 h21 =>
 again3 r13 (IntKind.wrap .i64 (i3 + (1 : Int))) h21) h20) h19
 else
 CallT P n_firebreaklaw20_ints [r5.v, r3.v] shBool (fun r13 h20 =>
 EffC (some r13) (CallT P n_firebreaklaw20_fixed [] shBool) (fun r14 h21 =>
 LetW (r13 && r14) fun y3 =>
 Q y3 h21) h20) h19)) r4 (0 : Int) h18)) (0 : Int) h17)) (0 : Int) h16) h15) h14)) h13) h12)) ⟨(some a1), 0, 0⟩ (IntKind.wrap .i64 (((e.len : Nat) : Int) - (1 : Int))) h11) h10)) h9) h8) h7) h6) h5) h4)) h3) h2) h1) h)

def firebreaklaw02_TableMays_w (P : Program) (l : Sl) (Q : (Bool → (Hp → Prop))) (h : Hp) : Prop :=
 CallT P n_firebreaklaw02_awake [] shBool (fun r h1 =>
 (if (!r) = true then
 Q false h1
 else
 CallT P n_firebreaklaw02_short [l.v] shSl (fun r1 h2 =>
 Call2 P n_table_May [r1.v] (shInt .i64) (shInt .i64) (fun r2 r3 h3 =>
 Call2 P n_firebreakref02_May [r1.v] (shInt .i64) (shInt .i64) (fun r4 r5 h4 =>
 Call3 P n_table_New [r1.v] shPtr (shInt .i64) (shInt .i64) (fun r6 r7 r8 h5 =>
 LetW ((r2 != r4) || (r3 != r5)) fun y =>
 LetW (y || (r7 != r4)) fun y1 =>
 LetW (y1 || (r8 != r5)) fun y2 =>
 LetW (y2 || (!((Option.isNone r6) == (r4 != (0 : Int))))) fun y3 =>
 (if y3 = true then
 Q false h5
 else
 (((0 : Int) ≤ (min2I ((r1.len : Nat) : Int) (300 : Int)) ∧ ((min2I ((r1.len : Nat) : Int) (300 : Int)) ≤ (min2I ((r1.len : Nat) : Int) (300 : Int)) ∧ (min2I ((r1.len : Nat) : Int) (300 : Int)) ≤ ((r1.cap : Nat) : Int))) ∧ LetW (α := Sl) ⟨(sbase r1.base 1 0 (Int.toNat (min2I ((r1.len : Nat) : Int) (300 : Int)))), ((Int.toNat (min2I ((r1.len : Nat) : Int) (300 : Int))) - 0), ((Int.toNat (min2I ((r1.len : Nat) : Int) (300 : Int))) - 0)⟩ fun y4 =>
 CallT P n_table_Canon [y4.v] shSl (fun r9 h6 =>
 CallT P n_firebreakref02_Canon [y4.v] shSl (fun r10 h7 =>
 CallT P n_firebreakref02_SameLabels [r9.v, r10.v] shBool (fun r11 h8 =>
 Q r11 h8) h7) h6) h5))) h4) h3) h2) h1)) h

def firebreaklaw02_TableOrder_w (P : Program) (l : Sl) (Q : (Bool → (Hp → Prop))) (h : Hp) : Prop :=
 CallT P n_firebreaklaw02_awake [] shBool (fun r h1 =>
 (if (!r) = true then
 Q false h1
 else
 (((0 : Int) ≤ (min2I ((l.len : Nat) : Int) (300 : Int)) ∧ ((min2I ((l.len : Nat) : Int) (300 : Int)) ≤ (min2I ((l.len : Nat) : Int) (300 : Int)) ∧ (min2I ((l.len : Nat) : Int) (300 : Int)) ≤ ((l.cap : Nat) : Int))) ∧ LetW (α := Sl) ⟨(sbase l.base 1 0 (Int.toNat (min2I ((l.len : Nat) : Int) (300 : Int)))), ((Int.toNat (min2I ((l.len : Nat) : Int) (300 : Int))) - 0), ((Int.toNat (min2I ((l.len : Nat) : Int) (300 : Int))) - 0)⟩ fun y =>
 CallT P n_table_Canon [y.v] shSl (fun r1 h2 =>
 LoopW1 (α1 := Int) (fun again t36 h3 =>
 (if (decide (t36 < ((r1.len : Nat) : Int))) = true then
 ((InB r1.base r1.len t36) ∧ LdW none (shInt .u64) h3 (sat r1.base 1 t36) fun x =>
 (((decide (t36 > (0 : Int))) = true → (InB r1.base r1.len (IntKind.wrap .i64 (t36 - (1 : Int))))) ∧ LdW (some (decide (t36 > (0 : Int)))) (shInt .u64) h3 (sat r1.base 1 (IntKind.wrap .i64 (t36 - (1 : Int)))) fun x1 =>
 LetW ((decide (t36 > (0 : Int))) && (decide (x1 ≥ x))) fun y1 =>
 (if y1 = true then
 Q false h3
 else
 LoopW2 (α1 := Bool) (α2 := Int) (fun again1 in_ t54 h4 =>
 (if (decide (t54 < ((y.len : Nat) : Int))) = true then
 ((InB y.base y.len t54) ∧ LdW none (shInt .u64) h4 (sat y.base 1 t54) fun x2 =>
 LetW (in_ || (x == x2)) fun y2 =>
 again1 y2 (IntKind.wrap .i64 (t54 + (1 : Int))) h4)
 else
 (if (!in_) = true then
 Q false h4
 else
 again (IntKind.wrap .i64 (t36 + (1 : Int))) h4))) false (0 : Int) h3)))
 else
 LoopW1 (α1 := Int) (fun again1 t70 h4 =>
 (if (decide (t70 < ((y.len : Nat) : Int))) = true then
 ((InB y.base y.len t70) ∧ LdW none (shInt .u64) h4 (sat y.base 1 t70) fun x =>
 LoopW2 (α1 := Bool) (α2 := Int) (fun again2 in_ t76 h5 =>
 (if (decide (t76 < ((r1.len : Nat) : Int))) = true then
 ((InB r1.base r1.len t76) ∧ LdW none (shInt .u64) h5 (sat r1.base 1 t76) fun x1 =>
 LetW (in_ || (x == x1)) fun y1 =>
 again2 y1 (IntKind.wrap .i64 (t76 + (1 : Int))) h5)
 else
 (if (!in_) = true then
 Q false h5
 else
 again1 (IntKind.wrap .i64 (t70 + (1 : Int))) h5))) false (0 : Int) h4)
 else
 (((0 : Int) ≤ (min2I ((r1.len : Nat) : Int) (8 : Int)) ∧ (min2I ((r1.len : Nat) : Int) (8 : Int)) ≤ ((r1.cap : Nat) : Int)) ∧ LetW (α := Sl) ⟨(sbase r1.base 1 0 r1.cap), ((Int.toNat (min2I ((r1.len : Nat) : Int) (8 : Int))) - 0), (r1.cap - 0)⟩ fun y1 =>
 Call3 P n_table_New [y1.v] shPtr (shInt .i64) (shInt .i64) (fun r2 r3 r4 h5 =>
 (if (((y1.len : Nat) : Int) == (0 : Int)) = true then
 Q (r3 == (1 : Int)) h5
 else
 LetW ((r3 != (0 : Int)) || (Option.isNone r2)) fun y2 =>
 (if y2 = true then
 Q false h5
 else
 LoopW1 (α1 := Int) (fun again2 t114 h6 =>
 (if (decide (t114 < ((y1.len : Nat) : Int))) = true then
 ((InB y1.base y1.len t114) ∧ LdW none (shInt .u64) h6 (sat y1.base 1 t114) fun x =>
 CallT P n_table_Table_Up [(.pointer r2), (.int .i64 t114)] shSl (fun r5 h7 =>
 (((LdIs h7 (sat y1.base 1 t114) [(.int .u64 x)]) ∧ True) ∧ CallT P n_table_Table_Down [(.pointer r2), (.int .u64 x)] shSl (fun r6 h8 =>
 LoopW1 (α1 := Int) (fun again3 t128 h9 =>
 (if (decide (t128 < ((y1.len : Nat) : Int))) = true then
 CallT P n_table_Table_Flows [(.pointer r2), (.int .i64 t114), (.int .i64 t128)] shBool (fun r7 h10 =>
 EffC (some ((r7 && (!(decide (t114 > t128)))) && (t114 != t128))) (CallT P n_table_Table_Flows [(.pointer r2), (.int .i64 t128), (.int .i64 t114)] shBool) (fun r8 h11 =>
 LetW ((t114 != t128) && r8) fun y3 =>
 LetW ((decide (t114 > t128)) || y3) fun y4 =>
 LetW (r7 && y4) fun y5 =>
 EffC (some ((!y5) && (t114 == t128))) (CallT P n_table_Table_Flows [(.pointer r2), (.int .i64 t114), (.int .i64 t128)] shBool) (fun r9 h12 =>
 LetW ((t114 == t128) && (!r9)) fun y6 =>
 LetW (y5 || y6) fun y7 =>
 EffC (some (!y7)) (CallT P n_table_Table_Flows [(.pointer r2), (.int .i64 t114), (.int .i64 t128)] shBool) (fun r10 h13 =>
 EffC (some (!y7)) (CallT P n_firebreaklaw02_has [r5.v, (.int .i64 t128)] shBool) (fun r11 h14 =>
 LetW (y7 || (!(r10 == r11))) fun y8 =>
 EffC (some (!y8)) (CallT P n_table_Table_Flows [(.pointer r2), (.int .i64 t128), (.int .i64 t114)] shBool) (fun r12 h15 =>
 EffC (some (!y8)) (CallT P n_firebreaklaw02_has [r6.v, (.int .i64 t128)] shBool) (fun r13 h16 =>
 LetW (y8 || (!(r12 == r13))) fun y9 =>
 (if y9 = true then
 Q false h16
 else
 LoopW1 (α1 := Int) (fun again4 t185 h17 =>
 (if (decide (t185 < ((y1.len : Nat) : Int))) = true then
 CallT P n_table_Table_Flows [(.pointer r2), (.int .i64 t114), (.int .i64 t128)] shBool (fun r14 h18 =>
 EffC (some r14) (CallT P n_table_Table_Flows [(.pointer r2), (.int .i64 t128), (.int .i64 t185)] shBool) (fun r15 h19 =>
 LetW (r14 && r15) fun y10 =>
 EffC (some y10) (CallT P n_table_Table_Flows [(.pointer r2), (.int .i64 t114), (.int .i64 t185)] shBool) (fun r16 h20 =>
 LetW (y10 && (!r16)) fun y11 =>
 (if y11 = true then
 Q false h20
 else
 again4 (IntKind.wrap .i64 (t185 + (1 : Int))) h20)) h19) h18) h17
 else
 again3 (IntKind.wrap .i64 (t128 + (1 : Int))) h17)) (0 : Int) h16)) h15) h14) h13) h12) h11) h10) h9
 else
 again2 (IntKind.wrap .i64 (t114 + (1 : Int))) h9)) (0 : Int) h8) h7)) h6)
 else
 Q true h6)) (0 : Int) h5))) h4))) (0 : Int) h3)) (0 : Int) h2) h1))) h

def firebreaklaw02_TableKeeps_w (P : Program) (l : Sl) (a : Int) (Q : (Bool → (Hp → Prop))) (h : Hp) : Prop :=
 CallT P n_firebreaklaw02_awake [] shBool (fun r h1 =>
 (if (!r) = true then
 Q false h1
 else
 CallT P n_firebreaklaw02_short [l.v] shSl (fun r1 h2 =>
 CallT P n_firebreaklaw02_wide [r1.v] shSl (fun r2 h3 =>
 Call2 P n_table_May [r2.v] (shInt .i64) (shInt .i64) (fun r3 r4 h4 =>
 (((0 : Int) ≤ (min2I ((r2.len : Nat) : Int) (300 : Int)) ∧ (min2I ((r2.len : Nat) : Int) (300 : Int)) ≤ ((r2.cap : Nat) : Int)) ∧ LetW (α := Sl) ⟨(sbase r2.base 1 0 r2.cap), ((Int.toNat (min2I ((r2.len : Nat) : Int) (300 : Int))) - 0), (r2.cap - 0)⟩ fun y =>
 CallT P n_table_Canon [y.v] shSl (fun r5 h5 =>
 (((0 : Int) ≤ (min2I ((r2.len : Nat) : Int) (300 : Int)) ∧ (min2I ((r2.len : Nat) : Int) (300 : Int)) ≤ ((r2.cap : Nat) : Int)) ∧ LetW (α := Sl) ⟨(sbase r2.base 1 0 r2.cap), ((Int.toNat (min2I ((r2.len : Nat) : Int) (300 : Int))) - 0), (r2.cap - 0)⟩ fun y1 =>
 CallT P n_table_Canon [y1.v] shSl (fun r6 h6 =>
 Call3 P n_table_New [r2.v] shPtr (shInt .i64) (shInt .i64) (fun r7 r8 r9 h7 =>
 CallT P n_firebreaklaw02_kept [r2.v, r1.v] shBool (fun r10 h8 =>
 (if (!r10) = true then
 Q false h8
 else
 LoopW1 (α1 := Int) (fun again t54 h9 =>
 (if (decide (t54 < ((r2.len : Nat) : Int))) = true then
 ((InB r2.base r2.len t54) ∧ LdW none (shInt .u64) h9 (sat r2.base 1 t54) fun x =>
 ((InB r2.base r2.len t54) ∧ StW h9 (sat r2.base 1 t54) [(.int .u64 (bitsI .xor .u64 x (23130 : Int)))] (fun h10 =>
 again (IntKind.wrap .i64 (t54 + (1 : Int))) h10)))
 else
 (((0 : Int) ≤ (min2I ((r1.len : Nat) : Int) (300 : Int)) ∧ (min2I ((r1.len : Nat) : Int) (300 : Int)) ≤ ((r1.cap : Nat) : Int)) ∧ LetW (α := Sl) ⟨(sbase r1.base 1 0 r1.cap), ((Int.toNat (min2I ((r1.len : Nat) : Int) (300 : Int))) - 0), (r1.cap - 0)⟩ fun y2 =>
 CallT P n_firebreakref02_Canon [y2.v] shSl (fun r11 h10 =>
 CallT P n_firebreakref02_SameLabels [r5.v, r11.v] shBool (fun r12 h11 =>
 EffC (some (!(!r12))) (CallT P n_firebreakref02_SameLabels [r6.v, r11.v] shBool) (fun r13 h12 =>
 LetW ((!r12) || (!r13)) fun y3 =>
 (if y3 = true then
 Q false h12
 else
 LoopW1 (α1 := Int) (fun again1 t82 h13 =>
 (if (decide (t82 < ((r5.len : Nat) : Int))) = true then
 ((InB r5.base r5.len t82) ∧ StW h13 (sat r5.base 1 t82) [(.int .u64 (7 : Int))] (fun h14 =>
 again1 (IntKind.wrap .i64 (t82 + (1 : Int))) h14))
 else
 LoopW2 (α1 := Sl) (α2 := Int) (fun again2 x t89 h14 =>
 (if (decide (t89 < (20 : Int))) = true then
 NewW [(.int .u64 (8 : Int))] (fun a1 h15 =>
 AppendW 1 8 [(.int .u64 (0 : Int))] ⟨x.base, x.len, x.cap⟩ ⟨(some a1), 1, 1⟩ (fun r14 h16 =>
 again2 r14 (IntKind.wrap .i64 (t89 + (1 : Int))) h16) h15) h14
 else
 CallT P n_firebreakref02_SameLabels [r6.v, r11.v] shBool (fun r14 h15 =>
 LetW ((!r14) || (!((r8 == (0 : Int)) == (!(Option.isNone r7))))) fun y4 =>
 (if y4 = true then
 Q false h15
 else
 (if (Option.isNone r7) = true then
 Q true h15
 else
 NewW [] (fun a1 h16 =>
 LoopW2 (α1 := Sl) (α2 := Int) (fun again3 all t109 h17 =>
 (if (decide (t109 < (2 : Int))) = true then
 CallT P n_table_Table_Down [(.pointer r7), (.int .u64 a)] shSl (fun r15 h18 =>
 CallT P n_table_Table_Up [(.pointer r7), (.int .i64 (0 : Int))] shSl (fun r16 h19 =>
 CallT P n_table_Table_Up [(.pointer r7), (.int .i64 (IntKind.wrap .i64 (((r1.len : Nat) : Int) - (1 : Int))))] shSl (fun r17 h20 =>
 NewW [r15.v, r16.v, r17.v] (fun a2 h21 =>
 AppendW 1 24 [(.slice none 0 0)] ⟨all.base, all.len, all.cap⟩ ⟨(some a2), 3, 3⟩ (fun r18 h22 =>
 again3 r18 (IntKind.wrap .i64 (t109 + (1 : Int))) h22) h21) h20) h19) h18) h17
 else
 NewW [] (fun a2 h18 =>
 LoopW2 (α1 := Sl) (α2 := Int) (fun again4 long t128 h19 =>
 (if (decide (t128 < ((all.len : Nat) : Int))) = true then
 ((InB all.base all.len t128) ∧ LdW none shSl h19 (sat all.base 1 t128) fun x1 =>
 LoopW1 (α1 := Int) (fun again5 t135 h20 =>
 (if (decide (t135 < ((x1.len : Nat) : Int))) = true then
 ((InB x1.base x1.len t135) ∧ StW h20 (sat x1.base 1 t135) [(.int .i64 (IntKind.wrap .i64 ((100 : Int) + t128)))] (fun h21 =>
 again5 (IntKind.wrap .i64 (t135 + (1 : Int))) h21))
 else
 LoopW2 (α1 := Sl) (α2 := Int) (fun again6 m t144 h21 =>
 (if (decide (t144 < (20 : Int))) = true then
 NewW [(.int .i64 (IntKind.wrap .i64 ((100 : Int) + t128)))] (fun a3 h22 =>
 AppendW 1 8 [(.int .i64 (0 : Int))] ⟨m.base, m.len, m.cap⟩ ⟨(some a3), 1, 1⟩ (fun r15 h23 =>
 again6 r15 (IntKind.wrap .i64 (t144 + (1 : Int))) h23) h22) h21
 else
 NewW [m.v] (fun a3 h22 =>
 AppendW 1 24 [(.slice none 0 0)] ⟨long.base, long.len, long.cap⟩ ⟨(some a3), 1, 1⟩ (fun r15 h23 =>
 again4 r15 (IntKind.wrap .i64 (t128 + (1 : Int))) h23) h22) h21)) x1 (0 : Int) h20)) (0 : Int) h19)
 else
 LoopW1 (α1 := Int) (fun again5 t159 h20 =>
 (if (decide (t159 < ((long.len : Nat) : Int))) = true then
 ((InB long.base long.len t159) ∧ LdW none shSl h20 (sat long.base 1 t159) fun x1 =>
 LoopW1 (α1 := Int) (fun again6 t166 h21 =>
 (if (decide (t166 < ((x1.len : Nat) : Int))) = true then
 ((InB x1.base x1.len t166) ∧ LdW none (shInt .i64) h21 (sat x1.base 1 t166) fun x2 =>
 (((!(x2 != (IntKind.wrap .i64 ((100 : Int) + t159)))) = true → (InB all.base all.len t159)) ∧ LdW (some (!(x2 != (IntKind.wrap .i64 ((100 : Int) + t159))))) shSl h21 (sat all.base 1 t159) fun x3 =>
 ((((!(x2 != (IntKind.wrap .i64 ((100 : Int) + t159)))) && (decide (t166 < ((x3.len : Nat) : Int)))) = true → (InB all.base all.len t159)) ∧ LdW (some ((!(x2 != (IntKind.wrap .i64 ((100 : Int) + t159)))) && (decide (t166 < ((x3.len : Nat) : Int))))) shSl h21 (sat all.base 1 t159) fun x4 =>
 ((((!(x2 != (IntKind.wrap .i64 ((100 : Int) + t159)))) && (decide (t166 < ((x3.len : Nat) : Int)))) = true → (InB x4.base x4.len t166)) ∧ LdW (some ((!(x2 != (IntKind.wrap .i64 ((100 : Int) + t159)))) && (decide (t166 < ((x3.len : Nat) : Int))))) (shInt .i64) h21 (sat x4.base 1 t166) fun x5 =>
 LetW ((decide (t166 < ((x3.len : Nat) : Int))) && (x5 != (IntKind.wrap .i64 ((100 : Int) + t159)))) fun y5 =>
 LetW ((x2 != (IntKind.wrap .i64 ((100 : Int) + t159))) || y5) fun y6 =>
 (if y6 = true then
 Q false h21
 else
 again6 (IntKind.wrap .i64 (t166 + (1 : Int))) h21)))))
 else
 again5 (IntKind.wrap .i64 (t159 + (1 : Int))) h21)) (0 : Int) h20)
 else
 CallT P n_table_Table_Down [(.pointer r7), (.int .u64 a)] shSl (fun r15 h21 =>
 CallT P n_firebreakref02_Down [r1.v, (.int .u64 a)] shSl (fun r16 h22 =>
 CallT P n_firebreakref02_SameInts [r15.v, r16.v] shBool (fun r17 h23 =>
 EffC (some r17) (CallT P n_table_Table_Up [(.pointer r7), (.int .i64 (0 : Int))] shSl) (fun r18 h24 =>
 EffC (some r17) (CallT P n_firebreakref02_Up [r1.v, (.int .i64 (0 : Int))] shSl) (fun r19 h25 =>
 EffC (some r17) (CallT P n_firebreakref02_SameInts [r18.v, r19.v] shBool) (fun r20 h26 =>
 LetW (r17 && r20) fun y5 =>
 Q y5 h26) h25) h24) h23) h22) h21) h20)) (0 : Int) h19)) ⟨(some a2), 0, 0⟩ (0 : Int) h18) h17)) ⟨(some a1), 0, 0⟩ (0 : Int) h16) h15))) h14)) r5 (0 : Int) h13)) (0 : Int) h12)) h11) h10) h9))) (0 : Int) h8)) h7) h6) h5)) h4)) h3) h2) h1)) h

def firebreaklaw20_fixed_w (P : Program)  (Q : (Bool → (Hp → Prop))) (h : Hp) : Prop :=
 NewW [(.int .i64 (3 : Int)), (.int .i64 (1 : Int)), (.int .i64 (1 : Int)), (.int .i64 (2 : Int)), (.int .i64 (2 : Int)), (.int .i64 (3 : Int))] (fun a h1 =>
 CallT P n_graph_Ring [(.slice (some a) 3 3)] shSl (fun r h2 =>
 (((((r.len : Nat) : Int) == (3 : Int)) = true → (InB r.base r.len (0 : Int))) ∧ LdW (some (((r.len : Nat) : Int) == (3 : Int))) (shInt .i64) h2 (sat r.base 1 (0 : Int)) fun x =>
 LetW ((((r.len : Nat) : Int) == (3 : Int)) && (x == (1 : Int))) fun y =>
 ((y = true → (InB r.base r.len (1 : Int))) ∧ LdW (some y) (shInt .i64) h2 (sat r.base 1 (1 : Int)) fun x1 =>
 LetW (y && (x1 == (2 : Int))) fun y1 =>
 ((y1 = true → (InB r.base r.len (2 : Int))) ∧ LdW (some y1) (shInt .i64) h2 (sat r.base 1 (2 : Int)) fun x2 =>
 LetW (y1 && (x2 == (3 : Int))) fun y2 =>
 EffC (some y2) (NewW [(.int .i64 (1 : Int)), (.int .i64 (2 : Int)), (.int .i64 (2 : Int)), (.int .i64 (3 : Int))]) (fun r1 h3 =>
 EffC (some y2) (CallT P n_graph_Ring [(.slice (some r1) 2 2)] shSl) (fun r2 h4 =>
 LetW (y2 && (((r2.len : Nat) : Int) == (0 : Int))) fun y3 =>
 Q y3 h4) h3) h2)))) h1) h

def firebreakref20_Ring_w (P : Program) (e : Sl) (Q : (Sl → (Hp → Prop))) (h : Hp) : Prop :=
 CallT P n_firebreakref20_Next [e.v] shMap (fun r h1 =>
 NewW [] (fun a h2 =>
 SemE P (Instr.range 29 (.map r)) shPtr (fun r1 h3 =>
 LoopW1 (α1 := Sl) (fun again begins h4 =>
 SemE P (Instr.next (.pointer r1) false 0) shNext (fun r2 h5 =>
 (if r2.more = true then
 SemE2 P (Instr.entry (.pointer r1)) (shInt .i64) shVal (fun r3 r4 h6 =>
 NewW [(.int .i64 r3)] (fun a1 h7 =>
 AppendW 1 8 [(.int .i64 (0 : Int))] begins ⟨(some a1), 1, 1⟩ (fun r5 h8 =>
 again r5 h8) h7) h6) h5
 else
 CallT P n_firebreakref20_sorted [begins.v] shSl (fun r3 h6 =>
 MakeMapW  (fun r4 h7 =>
 LoopW1 (α1 := Int) (fun again1 i h8 =>
 (if (decide (i < ((r3.len : Nat) : Int))) = true then
 ((InB r3.base r3.len i) ∧ LdW none (shInt .i64) h8 (sat r3.base 1 i) fun x =>
 LoopW2 (α1 := Int) (α2 := Bool) (fun again2 p is h9 =>
 LookW (some is) (.int .i64) (shInt .i64) (.int .i64 (0 : Int)) r4 (.int .i64 p) h9 fun x1 ok =>
 LetW (is && (x1 == (0 : Int))) fun y =>
 (if y = true then
 JoinW2 (α1 := Int) (α2 := Bool) (fun k =>
 MapSetW (.int .i64) r4 (.int .i64 p) (.int .i64 (IntKind.wrap .i64 (i + (1 : Int)))) (fun h10 =>
 LookW none (.int .i64) (shInt .i64) (.int .i64 (0 : Int)) r (.int .i64 p) h10 fun x2 ok1 =>
 (if ok1 = true then
 k x2 ok1 h10
 else
 k p ok1 h10)) h9)
 (fun p1 is1 h10 =>
 again2 p1 is1 h10)
 else
 LookW none (.int .i64) (shInt .i64) (.int .i64 (0 : Int)) r (.int .i64 p) h9 fun x2 ok1 =>
 LookW (some ok1) (.int .i64) (shInt .i64) (.int .i64 (0 : Int)) r4 (.int .i64 p) h9 fun x3 ok2 =>
 LetW (ok1 && (x3 == (IntKind.wrap .i64 (i + (1 : Int))))) fun y1 =>
 (if y1 = true then
 CallT P n_firebreakref20_told [(.map r), (.int .i64 p)] shSl (fun r5 h10 =>
 Q r5 h10) h9
 else
 again1 (IntKind.wrap .i64 (i + (1 : Int))) h9))) x true h8)
 else
 Q ⟨none, 0, 0⟩ h8)) (0 : Int) h7) h6) h5)) h4) ⟨(some a), 0, 0⟩ h3) h2) h1) h

def graph_Ring_w (P : Program) (e : Sl) (Q : (Sl → (Hp → Prop))) (h : Hp) : Prop :=
 MakeMapW  (fun r h1 =>
 LoopW1 (α1 := Int) (fun again t19 h2 =>
 (if (decide (t19 < ((e.len : Nat) : Int))) = true then
 JoinW0 (fun k =>
 ((InB e.base e.len t19) ∧ LdW none sh_n2_int h2 (sat e.base 2 t19) fun x =>
 (((0 : Int) ≤ (0 : Int) ∧ (0 : Int) < (2 : Int)) ∧ LookW none (.int .i64) (shInt .i64) (.int .i64 (0 : Int)) r (.int .i64 x.a0) h2 fun x1 ok =>
 (((!(!ok)) = true → ((0 : Int) ≤ (1 : Int) ∧ (1 : Int) < (2 : Int))) ∧ LetW ((!ok) || (decide (x.a1 < x1))) fun y =>
 (if y = true then
 (((0 : Int) ≤ (0 : Int) ∧ (0 : Int) < (2 : Int)) ∧ (((0 : Int) ≤ (1 : Int) ∧ (1 : Int) < (2 : Int)) ∧ MapSetW (.int .i64) r (.int .i64 x.a0) (.int .i64 x.a1) (fun h3 =>
 k h3) h2))
 else
 k h2)))))
 (fun h3 =>
 again (IntKind.wrap .i64 (t19 + (1 : Int))) h3)
 else
 MakeMapW  (fun r1 h3 =>
 CallT P n_maps_Keys_map_int_int_int_int [(.map r)] shLeaf (fun r2 h4 =>
 CallT P n_slices_Sorted_int [r2.v] shSl (fun r3 h5 =>
 LoopW1 (α1 := Int) (fun again1 t49 h6 =>
 (if (decide (t49 < ((r3.len : Nat) : Int))) = true then
 JoinW0 (fun k =>
 ((InB r3.base r3.len t49) ∧ LdW none (shInt .i64) h6 (sat r3.base 1 t49) fun x =>
 LoopW2 (α1 := Int) (α2 := Sl) (fun again2 p way h7 =>
 LookW none (.int .i64) (shInt .i64) (.int .i64 (0 : Int)) r1 (.int .i64 p) h7 fun x1 ok =>
 (if ok = true then
 (if (x1 != t49) = true then
 k h7
 else
 CallT P n_slices_Index_int_int [way.v, (.int .i64 p)] (shInt .i64) (fun r4 h8 =>
 (((0 : Int) ≤ r4 ∧ r4 ≤ ((way.len : Nat) : Int)) ∧ LetW (α := Sl) ⟨(sbase way.base 1 (Int.toNat r4) way.cap), (way.len - (Int.toNat r4)), (way.cap - (Int.toNat r4))⟩ fun y =>
 CallT P n_graph_turned [y.v] shSl (fun r5 h9 =>
 Q r5 h9) h8)) h7)
 else
 MapSetW (.int .i64) r1 (.int .i64 p) (.int .i64 t49) (fun h8 =>
 NewW [(.int .i64 p)] (fun a h9 =>
 AppendW 1 8 [(.int .i64 (0 : Int))] ⟨way.base, way.len, way.cap⟩ ⟨(some a), 1, 1⟩ (fun r4 h10 =>
 LookW none (.int .i64) (shInt .i64) (.int .i64 (0 : Int)) r (.int .i64 p) h10 fun x2 ok1 =>
 (if (!ok1) = true then
 k h10
 else
 again2 x2 r4 h10)) h9) h8) h7)) x ⟨none, 0, 0⟩ h6))
 (fun h7 =>
 again1 (IntKind.wrap .i64 (t49 + (1 : Int))) h7)
 else
 Q ⟨none, 0, 0⟩ h6)) (0 : Int) h5) h4) h3) h2)) (0 : Int) h1) h

def firebreaklaw20_ints_w (P : Program) (a : Sl) (b : Sl) (Q : (Bool → (Hp → Prop))) (h : Hp) : Prop :=
 (if (((a.len : Nat) : Int) != ((b.len : Nat) : Int)) = true then
 Q false h
 else
 LoopW1 (α1 := Int) (fun again i h1 =>
 (if (decide (i < ((a.len : Nat) : Int))) = true then
 ((InB a.base a.len i) ∧ LdW none (shInt .i64) h1 (sat a.base 1 i) fun x =>
 ((InB b.base b.len i) ∧ LdW none (shInt .i64) h1 (sat b.base 1 i) fun x1 =>
 (if (x != x1) = true then
 Q false h1
 else
 again (IntKind.wrap .i64 (i + (1 : Int))) h1)))
 else
 Q true h1)) (0 : Int) h)

def firebreaklaw20_edges_w (P : Program) (a : Sl) (b : Sl) (Q : (Bool → (Hp → Prop))) (h : Hp) : Prop :=
 (if (((a.len : Nat) : Int) != ((b.len : Nat) : Int)) = true then
 Q false h
 else
 LoopW1 (α1 := Int) (fun again i h1 =>
 (if (decide (i < ((a.len : Nat) : Int))) = true then
 ((InB a.base a.len i) ∧ LdW none sh_n2_int h1 (sat a.base 2 i) fun x =>
 ((InB b.base b.len i) ∧ LdW none sh_n2_int h1 (sat b.base 2 i) fun x1 =>
 SemV none P (binS .neq 24 (.tmp 20) (.tmp 24) x.v x1.v) shBool h1 fun x2 =>
 (if x2 = true then
 Q false h1
 else
 again (IntKind.wrap .i64 (i + (1 : Int))) h1)))
 else
 Q true h1)) (0 : Int) h)

def firebreakref20_Next_w (P : Program) (e : Sl) (Q : (Option Nat → (Hp → Prop))) (h : Hp) : Prop :=
 MakeMapW  (fun r h1 =>
 LoopW1 (α1 := Int) (fun again i h2 =>
 (if (decide (i < ((e.len : Nat) : Int))) = true then
 JoinW0 (fun k =>
 ((InB e.base e.len i) ∧ (((0 : Int) ≤ (0 : Int) ∧ (0 : Int) < (2 : Int)) ∧ LdW none (shInt .i64) h2 (Addr.add (sat e.base 2 i) 0) fun x =>
 LookW none (.int .i64) (shInt .i64) (.int .i64 (0 : Int)) r (.int .i64 x) h2 fun x1 ok =>
 (((!(!ok)) = true → (InB e.base e.len i)) ∧ (((!(!ok)) = true → ((0 : Int) ≤ (1 : Int) ∧ (1 : Int) < (2 : Int))) ∧ LdW (some (!(!ok))) (shInt .i64) h2 (Addr.add (sat e.base 2 i) 1) fun x2 =>
 LetW ((!ok) || (decide (x2 < x1))) fun y =>
 (if y = true then
 ((InB e.base e.len i) ∧ (((0 : Int) ≤ (0 : Int) ∧ (0 : Int) < (2 : Int)) ∧ LdW none (shInt .i64) h2 (Addr.add (sat e.base 2 i) 0) fun x3 =>
 ((InB e.base e.len i) ∧ (((0 : Int) ≤ (1 : Int) ∧ (1 : Int) < (2 : Int)) ∧ LdW none (shInt .i64) h2 (Addr.add (sat e.base 2 i) 1) fun x4 =>
 MapSetW (.int .i64) r (.int .i64 x3) (.int .i64 x4) (fun h3 =>
 k h3) h2))))
 else
 k h2))))))
 (fun h3 =>
 again (IntKind.wrap .i64 (i + (1 : Int))) h3)
 else
 Q r h2)) (0 : Int) h1) h

def firebreaklaw02_awake_w (P : Program)  (Q : (Bool → (Hp → Prop))) (h : Hp) : Prop :=
 NewW [(.int .u64 (0 : Int)), (.int .u64 (1 : Int)), (.int .u64 (2 : Int)), (.int .u64 (3 : Int)), (.int .u64 (8 : Int))] (fun a h1 =>
 Call3 P n_table_New [(.slice (some a) 5 5)] shPtr (shInt .i64) (shInt .i64) (fun r r1 r2 h2 =>
 LetW ((r1 != (0 : Int)) || (r2 != (0 : Int))) fun y =>
 LetW (y || (Option.isNone r)) fun y1 =>
 EffC (some (!y1)) (CallT P n_table_Table_Len [(.pointer r)] (shInt .i64)) (fun r3 h3 =>
 LetW (y1 || (r3 != (5 : Int))) fun y2 =>
 EffC (some (!y2)) (CallT P n_table_Table_Flows [(.pointer r), (.int .i64 (1 : Int)), (.int .i64 (3 : Int))] shBool) (fun r4 h4 =>
 LetW (y2 || (!r4)) fun y3 =>
 EffC (some (!y3)) (CallT P n_table_Table_Flows [(.pointer r), (.int .i64 (1 : Int)), (.int .i64 (2 : Int))] shBool) (fun r5 h5 =>
 LetW (y3 || r5) fun y4 =>
 (if y4 = true then
 Q false h5
 else
 Call2 P n_table_Table_Label [(.pointer r), (.int .i64 (3 : Int))] (shInt .u64) (shInt .i64) (fun r6 r7 h6 =>
 Call2 P n_table_Table_Index [(.pointer r), (.int .u64 (8 : Int))] (shInt .i64) shBool (fun r8 r9 h7 =>
 Call2 P n_table_Table_Index [(.pointer r), (.int .u64 (4 : Int))] (shInt .i64) shBool (fun r10 r11 h8 =>
 LetW ((r7 == (0 : Int)) && (r6 == (3 : Int))) fun y5 =>
 LetW (y5 && r9) fun y6 =>
 LetW (y6 && (r8 == (4 : Int))) fun y7 =>
 LetW (y7 && (!r11)) fun y8 =>
 EffC (some y8) (CallT P n_table_Table_Down [(.pointer r), (.int .u64 (10 : Int))] shSl) (fun r12 h9 =>
 EffC (some y8) (NewW [(.int .i64 (0 : Int)), (.int .i64 (2 : Int)), (.int .i64 (4 : Int))]) (fun r13 h10 =>
 EffC (some y8) (CallT P n_firebreakref02_SameInts [r12.v, (.slice (some r13) 3 3)] shBool) (fun r14 h11 =>
 LetW (y8 && r14) fun y9 =>
 EffC (some y9) (CallT P n_table_Table_Up [(.pointer r), (.int .i64 (1 : Int))] shSl) (fun r15 h12 =>
 EffC (some y9) (NewW [(.int .i64 (1 : Int)), (.int .i64 (3 : Int))]) (fun r16 h13 =>
 EffC (some y9) (CallT P n_firebreakref02_SameInts [r15.v, (.slice (some r16) 2 2)] shBool) (fun r17 h14 =>
 LetW (y9 && r17) fun y10 =>
 Q y10 h14) h13) h12) h11) h10) h9) h8) h7) h6) h5)) h4) h3) h2) h1) h

def firebreaklaw02_short_w (P : Program) (l : Sl) (Q : (Sl → (Hp → Prop))) (h : Hp) : Prop :=
 (((0 : Int) ≤ (min2I ((l.len : Nat) : Int) (1048576 : Int)) ∧ ((min2I ((l.len : Nat) : Int) (1048576 : Int)) ≤ (min2I ((l.len : Nat) : Int) (1048576 : Int)) ∧ (min2I ((l.len : Nat) : Int) (1048576 : Int)) ≤ ((l.cap : Nat) : Int))) ∧ LetW (α := Sl) ⟨(sbase l.base 1 0 (Int.toNat (min2I ((l.len : Nat) : Int) (1048576 : Int)))), ((Int.toNat (min2I ((l.len : Nat) : Int) (1048576 : Int))) - 0), ((Int.toNat (min2I ((l.len : Nat) : Int) (1048576 : Int))) - 0)⟩ fun y =>
 Q y h)

def table_May_w (P : Program) (l : Sl) (Q : (Int → (Int → (Hp → Prop)))) (h : Hp) : Prop :=
 (if (((l.len : Nat) : Int) == (0 : Int)) = true then
 Q (1 : Int) (0 : Int) h
 else
 (if (decide (((l.len : Nat) : Int) > (8 : Int))) = true then
 Q (3 : Int) (8 : Int) h
 else
 LoopW1 (α1 := Int) (fun again i h1 =>
 (if (decide (i < ((l.len : Nat) : Int))) = true then
 ((InB l.base l.len i) ∧ LdW none (shInt .u64) h1 (sat l.base 1 i) fun x =>
 ((InB l.base l.len (IntKind.wrap .i64 (i - (1 : Int)))) ∧ LdW none (shInt .u64) h1 (sat l.base 1 (IntKind.wrap .i64 (i - (1 : Int)))) fun x1 =>
 (if (x == x1) = true then
 Q (8 : Int) i h1
 else
 ((InB l.base l.len i) ∧ LdW none (shInt .u64) h1 (sat l.base 1 i) fun x2 =>
 ((InB l.base l.len (IntKind.wrap .i64 (i - (1 : Int)))) ∧ LdW none (shInt .u64) h1 (sat l.base 1 (IntKind.wrap .i64 (i - (1 : Int)))) fun x3 =>
 (if (decide (x2 < x3)) = true then
 Q (7 : Int) i h1
 else
 again (IntKind.wrap .i64 (i + (1 : Int))) h1))))))
 else
 Q (0 : Int) (0 : Int) h1)) (1 : Int) h))

def firebreakref02_May_w (P : Program) (l : Sl) (Q : (Int → (Int → (Hp → Prop)))) (h : Hp) : Prop :=
 (if (((l.len : Nat) : Int) == (0 : Int)) = true then
 Q (1 : Int) (0 : Int) h
 else
 (if (decide (((l.len : Nat) : Int) > (8 : Int))) = true then
 Q (3 : Int) (8 : Int) h
 else
 LoopW1 (α1 := Int) (fun again i h1 =>
 (if (decide (i < ((l.len : Nat) : Int))) = true then
 ((InB l.base l.len i) ∧ LdW none (shInt .u64) h1 (sat l.base 1 i) fun x =>
 ((InB l.base l.len (IntKind.wrap .i64 (i - (1 : Int)))) ∧ LdW none (shInt .u64) h1 (sat l.base 1 (IntKind.wrap .i64 (i - (1 : Int)))) fun x1 =>
 (if (x == x1) = true then
 Q (8 : Int) i h1
 else
 ((InB l.base l.len i) ∧ LdW none (shInt .u64) h1 (sat l.base 1 i) fun x2 =>
 ((InB l.base l.len (IntKind.wrap .i64 (i - (1 : Int)))) ∧ LdW none (shInt .u64) h1 (sat l.base 1 (IntKind.wrap .i64 (i - (1 : Int)))) fun x3 =>
 (if (decide (x2 < x3)) = true then
 Q (7 : Int) i h1
 else
 again (IntKind.wrap .i64 (i + (1 : Int))) h1))))))
 else
 Q (0 : Int) (0 : Int) h1)) (1 : Int) h))

def table_New_w (P : Program) (l : Sl) (Q : (Option Addr → (Int → (Int → (Hp → Prop))))) (h : Hp) : Prop :=
 Call2 P n_table_May [l.v] (shInt .i64) (shInt .i64) (fun r r1 h1 =>
 (if (r != (0 : Int)) = true then
 Q none r r1 h1
 else
 CallT P n_slices_Clone_uint64_uint64 [l.v] shSl (fun r2 h2 =>
 MakeMapW  (fun r3 h3 =>
 NewW [r2.v, (.map r3)] (fun a h4 =>
 NilW none (some a) fun p =>
 LdW none shSl h4 (Addr.add p 0) fun x =>
 LoopW1 (α1 := Int) (fun again t29 h5 =>
 (if (decide (t29 < ((x.len : Nat) : Int))) = true then
 ((InB x.base x.len t29) ∧ LdW none (shInt .u64) h5 (sat x.base 1 t29) fun x1 =>
 NilW none (some a) fun p1 =>
 LdW none shMap h5 (Addr.add p1 1) fun x2 =>
 MapSetW (.int .u64) x2 (.int .u64 x1) (.int .i64 t29) (fun h6 =>
 again (IntKind.wrap .i64 (t29 + (1 : Int))) h6) h5)
 else
 Q (some a) (0 : Int) (0 : Int) h5)) (0 : Int) h4) h3) h2) h1)) h

def firebreakref02_SameLabels_w (P : Program) (a : Sl) (b : Sl) (Q : (Bool → (Hp → Prop))) (h : Hp) : Prop :=
 (if (((a.len : Nat) : Int) != ((b.len : Nat) : Int)) = true then
 Q false h
 else
 LoopW1 (α1 := Int) (fun again i h1 =>
 (if (decide (i < ((a.len : Nat) : Int))) = true then
 ((InB a.base a.len i) ∧ LdW none (shInt .u64) h1 (sat a.base 1 i) fun x =>
 ((InB b.base b.len i) ∧ LdW none (shInt .u64) h1 (sat b.base 1 i) fun x1 =>
 (if (x != x1) = true then
 Q false h1
 else
 again (IntKind.wrap .i64 (i + (1 : Int))) h1)))
 else
 Q true h1)) (0 : Int) h)

def table_Canon_w (P : Program) (l : Sl) (Q : (Sl → (Hp → Prop))) (h : Hp) : Prop :=
 CallT P n_slices_Clone_uint64_uint64 [l.v] shSl (fun r h1 =>
 Call0 P n_slices_Sort_uint64_uint64 [r.v] (fun h2 =>
 CallT P n_slices_Compact_uint64_uint64 [r.v] shSl (fun r1 h3 =>
 Q r1 h3) h2) h1) h

def firebreakref02_Canon_w (P : Program) (l : Sl) (Q : (Sl → (Hp → Prop))) (h : Hp) : Prop :=
 NewW [] (fun a h1 =>
 LoopW1 (α1 := Sl) (fun again out h2 =>
 LoopW3 (α1 := Bool) (α2 := Int) (α3 := Int) (fun again1 found least i h3 =>
 (if (decide (i < ((l.len : Nat) : Int))) = true then
 JoinW2 (α1 := Bool) (α2 := Int) (fun k =>
 (((!(((out.len : Nat) : Int) == (0 : Int))) = true → (InB l.base l.len i)) ∧ LdW (some (!(((out.len : Nat) : Int) == (0 : Int)))) (shInt .u64) h3 (sat l.base 1 i) fun x =>
 (((!(((out.len : Nat) : Int) == (0 : Int))) = true → (InB out.base out.len (IntKind.wrap .i64 (((out.len : Nat) : Int) - (1 : Int))))) ∧ LdW (some (!(((out.len : Nat) : Int) == (0 : Int)))) (shInt .u64) h3 (sat out.base 1 (IntKind.wrap .i64 (((out.len : Nat) : Int) - (1 : Int)))) fun x1 =>
 LetW ((((out.len : Nat) : Int) == (0 : Int)) || (decide (x > x1))) fun y =>
 (((y && (!(!found))) = true → (InB l.base l.len i)) ∧ LdW (some (y && (!(!found)))) (shInt .u64) h3 (sat l.base 1 i) fun x2 =>
 LetW ((!found) || (decide (x2 < least))) fun y1 =>
 LetW (y && y1) fun y2 =>
 (if y2 = true then
 ((InB l.base l.len i) ∧ LdW none (shInt .u64) h3 (sat l.base 1 i) fun x3 =>
 k true x3 h3)
 else
 k found least h3)))))
 (fun found1 least1 h4 =>
 again1 found1 least1 (IntKind.wrap .i64 (i + (1 : Int))) h4)
 else
 (if (!found) = true then
 Q out h3
 else
 NewW [(.int .u64 least)] (fun a1 h4 =>
 AppendW 1 8 [(.int .u64 (0 : Int))] out ⟨(some a1), 1, 1⟩ (fun r h5 =>
 again r h5) h4) h3))) false (0 : Int) (0 : Int) h2) ⟨(some a), 0, 0⟩ h1) h

def table_Table_Up_w (P : Program) (t : Option Addr) (i : Int) (Q : (Sl → (Hp → Prop))) (h : Hp) : Prop :=
 NewW [(.pointer t)] (fun a h1 =>
 NewW [(.int .i64 i)] (fun a1 h2 =>
 LdW none shPtr h2 a fun x =>
 CallT P n_table_Table_those [(.pointer x), (.func (.func 44) #[] #[(.pointer (some a)), (.pointer (some a1))])] shSl (fun r h3 =>
 Q r h3) h2) h1) h

def table_Table_Down_w (P : Program) (t : Option Addr) (a : Int) (Q : (Sl → (Hp → Prop))) (h : Hp) : Prop :=
 NewW [(.pointer t)] (fun a1 h1 =>
 NewW [(.int .u64 a)] (fun a2 h2 =>
 LdW none shPtr h2 a1 fun x =>
 CallT P n_table_Table_those [(.pointer x), (.func (.func 45) #[] #[(.pointer (some a1)), (.pointer (some a2))])] shSl (fun r h3 =>
 Q r h3) h2) h1) h

def table_Table_Flows_w (P : Program) (t : Option Addr) (i : Int) (j : Int) (Q : (Bool → (Hp → Prop))) (h : Hp) : Prop :=
 CallT P n_table_Table_is [(.pointer t), (.int .i64 i)] shBool (fun r h1 =>
 EffC (some r) (CallT P n_table_Table_is [(.pointer t), (.int .i64 j)] shBool) (fun r1 h2 =>
 LetW (r && r1) fun y =>
 NilW (some y) t fun p =>
 LdW (some y) shSl h2 (Addr.add p 0) fun x =>
 ((y = true → (InB x.base x.len i)) ∧ LdW (some y) (shInt .u64) h2 (sat x.base 1 i) fun x1 =>
 NilW (some y) t fun p1 =>
 LdW (some y) shSl h2 (Addr.add p1 0) fun x2 =>
 ((y = true → (InB x2.base x2.len j)) ∧ LdW (some y) (shInt .u64) h2 (sat x2.base 1 j) fun x3 =>
 EffC (some y) (CallT P n_label_Flows [(.int .u64 x1), (.int .u64 x3)] shBool) (fun r2 h3 =>
 LetW (y && r2) fun y1 =>
 Q y1 h3) h2))) h1) h

def firebreaklaw02_has_w (P : Program) (l : Sl) (n : Int) (Q : (Bool → (Hp → Prop))) (h : Hp) : Prop :=
 LoopW1 (α1 := Int) (fun again t9 h1 =>
 (if (decide (t9 < ((l.len : Nat) : Int))) = true then
 ((InB l.base l.len t9) ∧ LdW none (shInt .i64) h1 (sat l.base 1 t9) fun x =>
 (if (x == n) = true then
 Q true h1
 else
 again (IntKind.wrap .i64 (t9 + (1 : Int))) h1))
 else
 Q false h1)) (0 : Int) h

def firebreaklaw02_wide_w (P : Program) (l : Sl) (Q : (Sl → (Hp → Prop))) (h : Hp) : Prop :=
 MakeW 8 [(.int .u64 (0 : Int))] (0 : Int) (IntKind.wrap .i64 (((l.len : Nat) : Int) + (3 : Int))) (fun r h1 =>
 AppendW 1 8 [(.int .u64 (0 : Int))] r l (fun r1 h2 =>
 NewW [(.int .u64 (161 : Int)), (.int .u64 (162 : Int)), (.int .u64 (163 : Int))] (fun a h3 =>
 AppendW 1 8 [(.int .u64 (0 : Int))] r1 ⟨(some a), 3, 3⟩ (fun r2 h4 =>
 (((0 : Int) ≤ ((l.len : Nat) : Int) ∧ ((l.len : Nat) : Int) ≤ ((r2.cap : Nat) : Int)) ∧ LetW (α := Sl) ⟨(sbase r2.base 1 0 r2.cap), ((Int.toNat ((l.len : Nat) : Int)) - 0), (r2.cap - 0)⟩ fun y =>
 Q y h4)) h3) h2) h1) h

def firebreaklaw02_kept_w (P : Program) (w : Sl) (l : Sl) (Q : (Bool → (Hp → Prop))) (h : Hp) : Prop :=
 CallT P n_firebreakref02_SameLabels [w.v, l.v] shBool (fun r h1 =>
 ((r = true → ((0 : Int) ≤ (IntKind.wrap .i64 (((l.len : Nat) : Int) + (3 : Int))) ∧ (IntKind.wrap .i64 (((l.len : Nat) : Int) + (3 : Int))) ≤ ((w.cap : Nat) : Int))) ∧ LetW (α := Sl) ⟨(sbase w.base 1 0 w.cap), ((Int.toNat (IntKind.wrap .i64 (((l.len : Nat) : Int) + (3 : Int)))) - 0), (w.cap - 0)⟩ fun y =>
 ((r = true → ((0 : Int) ≤ ((l.len : Nat) : Int) ∧ ((l.len : Nat) : Int) ≤ ((y.len : Nat) : Int))) ∧ LetW (α := Sl) ⟨(sbase y.base 1 (Int.toNat ((l.len : Nat) : Int)) y.cap), (y.len - (Int.toNat ((l.len : Nat) : Int))), (y.cap - (Int.toNat ((l.len : Nat) : Int)))⟩ fun y1 =>
 EffC (some r) (NewW [(.int .u64 (161 : Int)), (.int .u64 (162 : Int)), (.int .u64 (163 : Int))]) (fun r1 h2 =>
 EffC (some r) (CallT P n_firebreakref02_SameLabels [y1.v, (.slice (some r1) 3 3)] shBool) (fun r2 h3 =>
 LetW (r && r2) fun y2 =>
 Q y2 h3) h2) h1))) h

def firebreakref02_SameInts_w (P : Program) (a : Sl) (b : Sl) (Q : (Bool → (Hp → Prop))) (h : Hp) : Prop :=
 (if (((a.len : Nat) : Int) != ((b.len : Nat) : Int)) = true then
 Q false h
 else
 LoopW1 (α1 := Int) (fun again i h1 =>
 (if (decide (i < ((a.len : Nat) : Int))) = true then
 ((InB a.base a.len i) ∧ LdW none (shInt .i64) h1 (sat a.base 1 i) fun x =>
 ((InB b.base b.len i) ∧ LdW none (shInt .i64) h1 (sat b.base 1 i) fun x1 =>
 (if (x != x1) = true then
 Q false h1
 else
 again (IntKind.wrap .i64 (i + (1 : Int))) h1)))
 else
 Q true h1)) (0 : Int) h)

def firebreakref02_Down_w (P : Program) (l : Sl) (a : Int) (Q : (Sl → (Hp → Prop))) (h : Hp) : Prop :=
 NewW [] (fun a1 h1 =>
 LoopW2 (α1 := Sl) (α2 := Int) (fun again out i h2 =>
 (if (decide (i < ((l.len : Nat) : Int))) = true then
 JoinW1 (α1 := Sl) (fun k =>
 ((InB l.base l.len i) ∧ LdW none (shInt .u64) h2 (sat l.base 1 i) fun x =>
 CallT P n_firebreakref01_Flows [(.int .u64 x), (.int .u64 a)] shBool (fun r h3 =>
 (if r = true then
 NewW [(.int .i64 i)] (fun a2 h4 =>
 AppendW 1 8 [(.int .i64 (0 : Int))] ⟨out.base, out.len, out.cap⟩ ⟨(some a2), 1, 1⟩ (fun r1 h5 =>
 k r1 h5) h4) h3
 else
 k ⟨out.base, out.len, out.cap⟩ h3)) h2))
 (fun out1 h3 =>
 again out1 (IntKind.wrap .i64 (i + (1 : Int))) h3)
 else
 Q ⟨out.base, out.len, out.cap⟩ h2)) ⟨(some a1), 0, 0⟩ (0 : Int) h1) h

def firebreakref02_Up_w (P : Program) (l : Sl) (i : Int) (Q : (Sl → (Hp → Prop))) (h : Hp) : Prop :=
 NewW [] (fun a h1 =>
 LoopW2 (α1 := Sl) (α2 := Int) (fun again out j h2 =>
 (if (decide (j < ((l.len : Nat) : Int))) = true then
 JoinW1 (α1 := Sl) (fun k =>
 CallT P n_firebreakref02_Flows [l.v, (.int .i64 i), (.int .i64 j)] shBool (fun r h3 =>
 (if r = true then
 NewW [(.int .i64 j)] (fun a1 h4 =>
 AppendW 1 8 [(.int .i64 (0 : Int))] ⟨out.base, out.len, out.cap⟩ ⟨(some a1), 1, 1⟩ (fun r1 h5 =>
 k r1 h5) h4) h3
 else
 k ⟨out.base, out.len, out.cap⟩ h3)) h2)
 (fun out1 h3 =>
 again out1 (IntKind.wrap .i64 (j + (1 : Int))) h3)
 else
 Q ⟨out.base, out.len, out.cap⟩ h2)) ⟨(some a), 0, 0⟩ (0 : Int) h1) h

def firebreakref20_sorted_w (P : Program) (l : Sl) (Q : (Sl → (Hp → Prop))) (h : Hp) : Prop :=
 (if (decide (((l.len : Nat) : Int) < (2 : Int))) = true then
 Q l h
 else
 NewW [] (fun a h1 =>
 ((2 : Int) ≠ (0 : Int) ∧ (((0 : Int) ≤ (IntKind.wrap .i64 (Int.tdiv ((l.len : Nat) : Int) (2 : Int))) ∧ (IntKind.wrap .i64 (Int.tdiv ((l.len : Nat) : Int) (2 : Int))) ≤ ((l.cap : Nat) : Int)) ∧ LetW (α := Sl) ⟨(sbase l.base 1 0 l.cap), ((Int.toNat (IntKind.wrap .i64 (Int.tdiv ((l.len : Nat) : Int) (2 : Int)))) - 0), (l.cap - 0)⟩ fun y =>
 AppendW 1 8 [(.int .i64 (0 : Int))] ⟨(some a), 0, 0⟩ y (fun r h2 =>
 CallT P n_firebreakref20_sorted [r.v] shSl (fun r1 h3 =>
 NewW [] (fun a1 h4 =>
 ((2 : Int) ≠ (0 : Int) ∧ (((0 : Int) ≤ (IntKind.wrap .i64 (Int.tdiv ((l.len : Nat) : Int) (2 : Int))) ∧ (IntKind.wrap .i64 (Int.tdiv ((l.len : Nat) : Int) (2 : Int))) ≤ ((l.len : Nat) : Int)) ∧ LetW (α := Sl) ⟨(sbase l.base 1 (Int.toNat (IntKind.wrap .i64 (Int.tdiv ((l.len : Nat) : Int) (2 : Int)))) l.cap), (l.len - (Int.toNat (IntKind.wrap .i64 (Int.tdiv ((l.len : Nat) : Int) (2 : Int))))), (l.cap - (Int.toNat (IntKind.wrap .i64 (Int.tdiv ((l.len : Nat) : Int) (2 : Int)))))⟩ fun y1 =>
 AppendW 1 8 [(.int .i64 (0 : Int))] ⟨(some a1), 0, 0⟩ y1 (fun r2 h5 =>
 CallT P n_firebreakref20_sorted [r2.v] shSl (fun r3 h6 =>
 NewW [] (fun a2 h7 =>
 LoopW3 (α1 := Sl) (α2 := Sl) (α3 := Sl) (fun again a3 b out h8 =>
 LetW ((decide (((a3.len : Nat) : Int) > (0 : Int))) || (decide (((b.len : Nat) : Int) > (0 : Int)))) fun y2 =>
 (if y2 = true then
 JoinW3 (α1 := Sl) (α2 := Sl) (α3 := Sl) (fun k =>
 ((((!(((b.len : Nat) : Int) == (0 : Int))) && (decide (((a3.len : Nat) : Int) > (0 : Int)))) = true → (InB a3.base a3.len (0 : Int))) ∧ LdW (some ((!(((b.len : Nat) : Int) == (0 : Int))) && (decide (((a3.len : Nat) : Int) > (0 : Int))))) (shInt .i64) h8 (sat a3.base 1 (0 : Int)) fun x =>
 ((((!(((b.len : Nat) : Int) == (0 : Int))) && (decide (((a3.len : Nat) : Int) > (0 : Int)))) = true → (InB b.base b.len (0 : Int))) ∧ LdW (some ((!(((b.len : Nat) : Int) == (0 : Int))) && (decide (((a3.len : Nat) : Int) > (0 : Int))))) (shInt .i64) h8 (sat b.base 1 (0 : Int)) fun x1 =>
 LetW ((decide (((a3.len : Nat) : Int) > (0 : Int))) && (decide (x < x1))) fun y3 =>
 LetW ((((b.len : Nat) : Int) == (0 : Int)) || y3) fun y4 =>
 (if y4 = true then
 ((InB a3.base a3.len (0 : Int)) ∧ LdW none (shInt .i64) h8 (sat a3.base 1 (0 : Int)) fun x2 =>
 NewW [(.int .i64 x2)] (fun a4 h9 =>
 AppendW 1 8 [(.int .i64 (0 : Int))] ⟨out.base, out.len, out.cap⟩ ⟨(some a4), 1, 1⟩ (fun r4 h10 =>
 (((0 : Int) ≤ (1 : Int) ∧ (1 : Int) ≤ ((a3.len : Nat) : Int)) ∧ LetW (α := Sl) ⟨(sbase a3.base 1 1 a3.cap), (a3.len - 1), (a3.cap - 1)⟩ fun y5 =>
 k y5 ⟨b.base, b.len, b.cap⟩ r4 h10)) h9) h8)
 else
 ((InB b.base b.len (0 : Int)) ∧ LdW none (shInt .i64) h8 (sat b.base 1 (0 : Int)) fun x2 =>
 NewW [(.int .i64 x2)] (fun a4 h9 =>
 AppendW 1 8 [(.int .i64 (0 : Int))] ⟨out.base, out.len, out.cap⟩ ⟨(some a4), 1, 1⟩ (fun r4 h10 =>
 (((0 : Int) ≤ (1 : Int) ∧ (1 : Int) ≤ ((b.len : Nat) : Int)) ∧ LetW (α := Sl) ⟨(sbase b.base 1 1 b.cap), (b.len - 1), (b.cap - 1)⟩ fun y5 =>
 k ⟨a3.base, a3.len, a3.cap⟩ y5 r4 h10)) h9) h8)))))
 (fun a4 b1 out1 h9 =>
 again ⟨a4.base, a4.len, a4.cap⟩ ⟨b1.base, b1.len, b1.cap⟩ ⟨out1.base, out1.len, out1.cap⟩ h9)
 else
 Q ⟨out.base, out.len, out.cap⟩ h8)) r1 r3 ⟨(some a2), 0, 0⟩ h7) h6) h5) h4))) h3) h2) h1))) h)

def firebreakref20_told_w (P : Program) (next : Option Nat) (p : Int) (Q : (Sl → (Hp → Prop))) (h : Hp) : Prop :=
 LookW none (.int .i64) (shInt .i64) (.int .i64 (0 : Int)) next (.int .i64 p) h fun x ok =>
 LoopW2 (α1 := Int) (α2 := Int) (fun again least q h1 =>
 (if (q != p) = true then
 LookW none (.int .i64) (shInt .i64) (.int .i64 (0 : Int)) next (.int .i64 q) h1 fun x1 ok1 =>
 again (min2I least q) x1 h1
 else
 NewW [(.int .i64 least)] (fun a h2 =>
 LookW none (.int .i64) (shInt .i64) (.int .i64 (0 : Int)) next (.int .i64 least) h2 fun x1 ok1 =>
 LoopW2 (α1 := Sl) (α2 := Int) (fun again1 out q1 h3 =>
 (if (q1 != least) = true then
 NewW [(.int .i64 q1)] (fun a1 h4 =>
 AppendW 1 8 [(.int .i64 (0 : Int))] ⟨out.base, out.len, out.cap⟩ ⟨(some a1), 1, 1⟩ (fun r h5 =>
 LookW none (.int .i64) (shInt .i64) (.int .i64 (0 : Int)) next (.int .i64 q1) h5 fun x2 ok2 =>
 again1 r x2 h5) h4) h3
 else
 Q ⟨out.base, out.len, out.cap⟩ h3)) ⟨(some a), 1, 1⟩ x1 h2) h1)) p x h

def slices_Sorted_int_w (P : Program) (seq : Leaf) (Q : (Sl → (Hp → Prop))) (h : Hp) : Prop :=
 CallT P n_slices_Collect_int [seq.v] shSl (fun r h1 =>
 Call0 P n_slices_Sort_int_int [r.v] (fun h2 =>
 Q r h2) h1) h

def maps_Keys_map_int_int_int_int_w (P : Program) (m : Option Nat) (Q : (Leaf → (Hp → Prop))) (h : Hp) : Prop :=
 NewW [(.map m)] (fun a h1 =>
 Q ⟨(.func (.func 52) #[] #[(.pointer (some a))]), rfl⟩ h1) h

def graph_turned_w (P : Program) (ring : Sl) (Q : (Sl → (Hp → Prop))) (h : Hp) : Prop :=
 CallT P n_slices_Min_int_int [ring.v] (shInt .i64) (fun r h1 =>
 CallT P n_slices_Index_int_int [ring.v, (.int .i64 r)] (shInt .i64) (fun r1 h2 =>
 (((0 : Int) ≤ r1 ∧ r1 ≤ ((ring.len : Nat) : Int)) ∧ LetW (α := Sl) ⟨(sbase ring.base 1 (Int.toNat r1) ring.cap), (ring.len - (Int.toNat r1)), (ring.cap - (Int.toNat r1))⟩ fun y =>
 (((0 : Int) ≤ r1 ∧ r1 ≤ ((ring.cap : Nat) : Int)) ∧ LetW (α := Sl) ⟨(sbase ring.base 1 0 ring.cap), ((Int.toNat r1) - 0), (ring.cap - 0)⟩ fun y1 =>
 CallT P n_slices_Clone_int_int [y.v] shSl (fun r2 h3 =>
 AppendW 1 8 [(.int .i64 (0 : Int))] r2 y1 (fun r3 h4 =>
 Q r3 h4) h3) h2))) h1) h

def slices_Index_int_int_w (P : Program) (s : Sl) (v : Int) (Q : (Int → (Hp → Prop))) (h : Hp) : Prop :=
 LoopW1 (α1 := Int) (fun again t8 h1 =>
 (if (decide (t8 < ((s.len : Nat) : Int))) = true then
 ((InB s.base s.len t8) ∧ LdW none (shInt .i64) h1 (sat s.base 1 t8) fun x =>
 (if (v == x) = true then
 Q t8 h1
 else
 again (IntKind.wrap .i64 (t8 + (1 : Int))) h1))
 else
 Q (-1 : Int) h1)) (0 : Int) h

def table_Table_Len_w (P : Program) (t : Option Addr) (Q : (Int → (Hp → Prop))) (h : Hp) : Prop :=
 NilW none t fun p =>
 LdW none shSl h (Addr.add p 0) fun x =>
 Q ((x.len : Nat) : Int) h

def table_Table_Label_w (P : Program) (t : Option Addr) (i : Int) (Q : (Int → (Int → (Hp → Prop)))) (h : Hp) : Prop :=
 CallT P n_table_Table_is [(.pointer t), (.int .i64 i)] shBool (fun r h1 =>
 (if (!r) = true then
 Q (0 : Int) (2 : Int) h1
 else
 NilW none t fun p =>
 LdW none shSl h1 (Addr.add p 0) fun x =>
 ((InB x.base x.len i) ∧ LdW none (shInt .u64) h1 (sat x.base 1 i) fun x1 =>
 Q x1 (0 : Int) h1))) h

def table_Table_Index_w (P : Program) (t : Option Addr) (a : Int) (Q : (Int → (Bool → (Hp → Prop)))) (h : Hp) : Prop :=
 NilW none t fun p =>
 LdW none shMap h (Addr.add p 1) fun x =>
 LookW none (.int .u64) (shInt .i64) (.int .i64 (0 : Int)) x (.int .u64 a) h fun x1 ok =>
 Q x1 ok h

def slices_Clone_uint64_uint64_w (P : Program) (s : Sl) (Q : (Sl → (Hp → Prop))) (h : Hp) : Prop :=
 SemV none P (binS .eql 33 (.tmp 3) (.const (.slice none 0 0)) s.v (.slice none 0 0)) shBool h fun x =>
 (if x = true then
 Q ⟨none, 0, 0⟩ h
 else
 NewW [] (fun a h1 =>
 AppendW 1 8 [(.int .u64 (0 : Int))] ⟨(some a), 0, 0⟩ s (fun r h2 =>
 Q r h2) h1) h)

def slices_Sort_uint64_uint64_w (P : Program) (x : Sl) (Q : (Hp → Prop)) (h : Hp) : Prop :=
 CallT P n_math_bits_Len [(.int .u64 (IntKind.wrap .u64 ((x.len : Nat) : Int)))] (shInt .i64) (fun r h1 =>
 Call0 P n_slices_pdqsortOrdered_uint64 [x.v, (.int .i64 (0 : Int)), (.int .i64 ((x.len : Nat) : Int)), (.int .i64 r)] (fun h2 =>
 Q h2) h1) h

def slices_Compact_uint64_uint64_w (P : Program) (s : Sl) (Q : (Sl → (Hp → Prop))) (h : Hp) : Prop :=
 (if (decide (((s.len : Nat) : Int) < (2 : Int))) = true then
 Q s h
 else
 LoopW1 (α1 := Int) (fun again k h1 =>
 (if (decide (k < ((s.len : Nat) : Int))) = true then
 ((InB s.base s.len k) ∧ LdW none (shInt .u64) h1 (sat s.base 1 k) fun x =>
 ((InB s.base s.len (IntKind.wrap .i64 (k - (1 : Int)))) ∧ LdW none (shInt .u64) h1 (sat s.base 1 (IntKind.wrap .i64 (k - (1 : Int)))) fun x1 =>
 (if (x == x1) = true then
 (((0 : Int) ≤ k ∧ k ≤ ((s.len : Nat) : Int)) ∧ LetW (α := Sl) ⟨(sbase s.base 1 (Int.toNat k) s.cap), (s.len - (Int.toNat k)), (s.cap - (Int.toNat k))⟩ fun y =>
 LoopW2 (α1 := Int) (α2 := Int) (fun again1 k1 k2 h2 =>
 (if (decide (k2 < ((y.len : Nat) : Int))) = true then
 JoinW1 (α1 := Int) (fun k3 =>
 ((InB y.base y.len k2) ∧ LdW none (shInt .u64) h2 (sat y.base 1 k2) fun x2 =>
 ((InB y.base y.len (IntKind.wrap .i64 (k2 - (1 : Int)))) ∧ LdW none (shInt .u64) h2 (sat y.base 1 (IntKind.wrap .i64 (k2 - (1 : Int)))) fun x3 =>
 (if (x2 != x3) = true then
 ((InB y.base y.len k2) ∧ LdW none (shInt .u64) h2 (sat y.base 1 k2) fun x4 =>
 ((InB s.base s.len k1) ∧ StW h2 (sat s.base 1 k1) [(.int .u64 x4)] (fun h3 =>
 k3 (IntKind.wrap .i64 (k1 + (1 : Int))) h3)))
 else
 k3 k1 h2))))
 (fun k3 h3 =>
 again1 k3 (IntKind.wrap .i64 (k2 + (1 : Int))) h3)
 else
 (((0 : Int) ≤ k1 ∧ k1 ≤ ((s.len : Nat) : Int)) ∧ LetW (α := Sl) ⟨(sbase s.base 1 (Int.toNat k1) s.cap), (s.len - (Int.toNat k1)), (s.cap - (Int.toNat k1))⟩ fun y1 =>
 SemE0 P (Builtin.clear_ #[33] 0 #[y1.v]) shUnit (fun h3 =>
 (((0 : Int) ≤ k1 ∧ k1 ≤ ((s.cap : Nat) : Int)) ∧ LetW (α := Sl) ⟨(sbase s.base 1 0 s.cap), ((Int.toNat k1) - 0), (s.cap - 0)⟩ fun y2 =>
 Q y2 h3)) h2))) k (1 : Int) h1)
 else
 again (IntKind.wrap .i64 (k + (1 : Int))) h1)))
 else
 Q s h1)) (1 : Int) h)

def table_Table_those_w (P : Program) (t : Option Addr) (is : Leaf) (Q : (Sl → (Hp → Prop))) (h : Hp) : Prop :=
 NilW none t fun p =>
 LdW none shSl h (Addr.add p 0) fun x =>
 LoopW2 (α1 := Sl) (α2 := Int) (fun again l t12 h1 =>
 (if (decide (t12 < ((x.len : Nat) : Int))) = true then
 JoinW1 (α1 := Sl) (fun k =>
 CallV P tb is.v [(.int .i64 t12)] shBool (fun r h2 =>
 (if r = true then
 NewW [(.int .i64 t12)] (fun a h3 =>
 AppendW 1 8 [(.int .i64 (0 : Int))] ⟨l.base, l.len, l.cap⟩ ⟨(some a), 1, 1⟩ (fun r1 h4 =>
 k r1 h4) h3) h2
 else
 k ⟨l.base, l.len, l.cap⟩ h2)) h1)
 (fun l1 h2 =>
 again l1 (IntKind.wrap .i64 (t12 + (1 : Int))) h2)
 else
 Q ⟨l.base, l.len, l.cap⟩ h1)) ⟨none, 0, 0⟩ (0 : Int) h

def table_Table_Up_1_w (P : Program) (j : Int) (a1 : Addr) (a2 : Addr) (Q : (Bool → (Hp → Prop))) (h : Hp) : Prop :=
 LdW none shPtr h a1 fun x =>
 LdW none (shInt .i64) h a2 fun x1 =>
 CallT P n_table_Table_Flows [(.pointer x), (.int .i64 x1), (.int .i64 j)] shBool (fun r h1 =>
 Q r h1) h

def table_Table_Down_1_w (P : Program) (i : Int) (a1 : Addr) (a2 : Addr) (Q : (Bool → (Hp → Prop))) (h : Hp) : Prop :=
 LdW none shPtr h a1 fun x =>
 NilW none x fun p =>
 LdW none shSl h (Addr.add p 0) fun x1 =>
 ((InB x1.base x1.len i) ∧ LdW none (shInt .u64) h (sat x1.base 1 i) fun x2 =>
 LdW none (shInt .u64) h a2 fun x3 =>
 CallT P n_label_Flows [(.int .u64 x2), (.int .u64 x3)] shBool (fun r h1 =>
 Q r h1) h)

def label_Flows_w (P : Program) (a : Int) (b : Int) (Q : (Bool → (Hp → Prop))) (h : Hp) : Prop :=
 Q ((bitsI .andNot .u64 a b) == (0 : Int)) h

def table_Table_is_w (P : Program) (t : Option Addr) (i : Int) (Q : (Bool → (Hp → Prop))) (h : Hp) : Prop :=
 NilW (some (decide (i ≥ (0 : Int)))) t fun p =>
 LdW (some (decide (i ≥ (0 : Int)))) shSl h (Addr.add p 0) fun x =>
 LetW ((decide (i ≥ (0 : Int))) && (decide (i < ((x.len : Nat) : Int)))) fun y =>
 Q y h

def firebreakref01_Flows_w (P : Program) (a : Int) (b : Int) (Q : (Bool → (Hp → Prop))) (h : Hp) : Prop :=
 LoopW1 (α1 := Int) (fun again n h1 =>
 (if (decide (n < (64 : Int))) = true then
 CallT P n_firebreakref01_Has [(.int .u64 a), (.int .i64 n)] shBool (fun r h2 =>
 EffC (some r) (CallT P n_firebreakref01_Has [(.int .u64 b), (.int .i64 n)] shBool) (fun r1 h3 =>
 LetW (r && (!r1)) fun y =>
 (if y = true then
 Q false h3
 else
 again (IntKind.wrap .i64 (n + (1 : Int))) h3)) h2) h1
 else
 Q true h1)) (0 : Int) h

def firebreakref02_Flows_w (P : Program) (l : Sl) (i : Int) (j : Int) (Q : (Bool → (Hp → Prop))) (h : Hp) : Prop :=
 LetW ((decide (i ≥ (0 : Int))) && (decide (i < ((l.len : Nat) : Int)))) fun y =>
 LetW (y && (decide (j ≥ (0 : Int)))) fun y1 =>
 LetW (y1 && (decide (j < ((l.len : Nat) : Int)))) fun y2 =>
 ((y2 = true → (InB l.base l.len i)) ∧ LdW (some y2) (shInt .u64) h (sat l.base 1 i) fun x =>
 ((y2 = true → (InB l.base l.len j)) ∧ LdW (some y2) (shInt .u64) h (sat l.base 1 j) fun x1 =>
 EffC (some y2) (CallT P n_firebreakref01_Flows [(.int .u64 x), (.int .u64 x1)] shBool) (fun r h1 =>
 LetW (y2 && r) fun y3 =>
 Q y3 h1) h))

def slices_Collect_int_w (P : Program) (seq : Leaf) (Q : (Sl → (Hp → Prop))) (h : Hp) : Prop :=
 CallT P n_slices_AppendSeq_int_int [(.slice none 0 0), seq.v] shSl (fun r h1 =>
 Q r h1) h

def slices_Sort_int_int_w (P : Program) (x : Sl) (Q : (Hp → Prop)) (h : Hp) : Prop :=
 CallT P n_math_bits_Len [(.int .u64 (IntKind.wrap .u64 ((x.len : Nat) : Int)))] (shInt .i64) (fun r h1 =>
 Call0 P n_slices_pdqsortOrdered_int [x.v, (.int .i64 (0 : Int)), (.int .i64 ((x.len : Nat) : Int)), (.int .i64 r)] (fun h2 =>
 Q h2) h1) h

def maps_Keys_map_int_int_int_int_1_w (P : Program) (yield : Leaf) (a1 : Addr) (Q : (Hp → Prop)) (h : Hp) : Prop :=
 LdW none shMap h a1 fun x =>
 SemE P (Instr.range 29 (.map x)) shPtr (fun r h1 =>
 LoopW0 (fun again h2 =>
 SemE P (Instr.next (.pointer r) false 0) shNext (fun r1 h3 =>
 (if r1.more = true then
 SemE2 P (Instr.entry (.pointer r)) (shInt .i64) shVal (fun r2 r3 h4 =>
 CallV P tb yield.v [(.int .i64 r2)] shBool (fun r4 h5 =>
 (if (!r4) = true then
 Q h5
 else
 again h5)) h4) h3
 else
 Q h3)) h2)  h1) h

def slices_Min_int_int_w (P : Program) (x : Sl) (Q : (Int → (Hp → Prop))) (h : Hp) : Prop :=
 JoinW0 (fun k =>
 (if (decide (((x.len : Nat) : Int) < (1 : Int))) = true then
 False
 else
 k h))
 (fun h1 =>
 ((InB x.base x.len (0 : Int)) ∧ LdW none (shInt .i64) h1 (sat x.base 1 (0 : Int)) fun x1 =>
 LoopW2 (α1 := Int) (α2 := Int) (fun again m i h2 =>
 (if (decide (i < ((x.len : Nat) : Int))) = true then
 ((InB x.base x.len i) ∧ LdW none (shInt .i64) h2 (sat x.base 1 i) fun x2 =>
 again (min2I m x2) (IntKind.wrap .i64 (i + (1 : Int))) h2)
 else
 Q m h2)) x1 (1 : Int) h1))

def slices_Clone_int_int_w (P : Program) (s : Sl) (Q : (Sl → (Hp → Prop))) (h : Hp) : Prop :=
 SemV none P (binS .eql 25 (.tmp 3) (.const (.slice none 0 0)) s.v (.slice none 0 0)) shBool h fun x =>
 (if x = true then
 Q ⟨none, 0, 0⟩ h
 else
 NewW [] (fun a h1 =>
 AppendW 1 8 [(.int .i64 (0 : Int))] ⟨(some a), 0, 0⟩ s (fun r h2 =>
 Q r h2) h1) h)

def slices_pdqsortOrdered_uint64_w (P : Program) (data : Sl) (a : Int) (b : Int) (limit : Int) (Q : (Hp → Prop)) (h : Hp) : Prop :=
 LoopW5 (α1 := Int) (α2 := Int) (α3 := Int) (α4 := Bool) (α5 := Bool) (fun again a1 b1 limit1 wasBalanced wasPartitioned h1 =>
 JoinW5 (α1 := Int) (α2 := Int) (α3 := Int) (α4 := Bool) (α5 := Bool) (fun k =>
 (if (decide ((IntKind.wrap .i64 (b1 - a1)) ≤ (12 : Int))) = true then
 Call0 P n_slices_insertionSortOrdered_uint64 [data.v, (.int .i64 a1), (.int .i64 b1)] (fun h2 =>
 Q h2) h1
 else
 (if (limit1 == (0 : Int)) = true then
 Call0 P n_slices_heapSortOrdered_uint64 [data.v, (.int .i64 a1), (.int .i64 b1)] (fun h2 =>
 Q h2) h1
 else
 JoinW1 (α1 := Int) (fun k1 =>
 (if (!wasBalanced) = true then
 Call0 P n_slices_breakPatternsOrdered_uint64 [data.v, (.int .i64 a1), (.int .i64 b1)] (fun h2 =>
 k1 (IntKind.wrap .i64 (limit1 - (1 : Int))) h2) h1
 else
 k1 limit1 h1))
 (fun limit2 h2 =>
 Call2 P n_slices_choosePivotOrdered_uint64 [data.v, (.int .i64 a1), (.int .i64 b1)] (shInt .i64) (shInt .i64) (fun r r1 h3 =>
 JoinW2 (α1 := Int) (α2 := Int) (fun k1 =>
 (if (r1 == (2 : Int)) = true then
 Call0 P n_slices_reverseRangeOrdered_uint64 [data.v, (.int .i64 a1), (.int .i64 b1)] (fun h4 =>
 k1 (IntKind.wrap .i64 ((IntKind.wrap .i64 (b1 - (1 : Int))) - (IntKind.wrap .i64 (r - a1)))) (1 : Int) h4) h3
 else
 k1 r r1 h3))
 (fun pivot hint h4 =>
 JoinW0 (fun k1 =>
 LetW (wasBalanced && wasPartitioned) fun y =>
 LetW (y && (hint == (1 : Int))) fun y1 =>
 (if y1 = true then
 CallT P n_slices_partialInsertionSortOrdered_uint64 [data.v, (.int .i64 a1), (.int .i64 b1)] shBool (fun r2 h5 =>
 (if r2 = true then
 Q h5
 else
 k1 h5)) h4
 else
 k1 h4))
 (fun h5 =>
 (((decide (a1 > (0 : Int))) = true → (InB data.base data.len (IntKind.wrap .i64 (a1 - (1 : Int))))) ∧ LdW (some (decide (a1 > (0 : Int)))) (shInt .u64) h5 (sat data.base 1 (IntKind.wrap .i64 (a1 - (1 : Int)))) fun x =>
 (((decide (a1 > (0 : Int))) = true → (InB data.base data.len pivot)) ∧ LdW (some (decide (a1 > (0 : Int)))) (shInt .u64) h5 (sat data.base 1 pivot) fun x1 =>
 EffC (some (decide (a1 > (0 : Int)))) (CallT P n_cmp_Less_uint64 [(.int .u64 x), (.int .u64 x1)] shBool) (fun r2 h6 =>
 LetW ((decide (a1 > (0 : Int))) && (!r2)) fun y =>
 (if y = true then
 CallT P n_slices_partitionEqualOrdered_uint64 [data.v, (.int .i64 a1), (.int .i64 b1), (.int .i64 pivot)] (shInt .i64) (fun r3 h7 =>
 k r3 b1 limit2 wasBalanced wasPartitioned h7) h6
 else
 Call2 P n_slices_partitionOrdered_uint64 [data.v, (.int .i64 a1), (.int .i64 b1), (.int .i64 pivot)] (shInt .i64) shBool (fun r3 r4 h7 =>
 ((8 : Int) ≠ (0 : Int) ∧ (if (decide ((IntKind.wrap .i64 (r3 - a1)) < (IntKind.wrap .i64 (b1 - r3)))) = true then
 Call0 P n_slices_pdqsortOrdered_uint64 [data.v, (.int .i64 a1), (.int .i64 r3), (.int .i64 limit2)] (fun h8 =>
 k (IntKind.wrap .i64 (r3 + (1 : Int))) b1 limit2 (decide ((IntKind.wrap .i64 (r3 - a1)) ≥ (IntKind.wrap .i64 (Int.tdiv (IntKind.wrap .i64 (b1 - a1)) (8 : Int))))) r4 h8) h7
 else
 Call0 P n_slices_pdqsortOrdered_uint64 [data.v, (.int .i64 (IntKind.wrap .i64 (r3 + (1 : Int)))), (.int .i64 b1), (.int .i64 limit2)] (fun h8 =>
 k a1 r3 limit2 (decide ((IntKind.wrap .i64 (b1 - r3)) ≥ (IntKind.wrap .i64 (Int.tdiv (IntKind.wrap .i64 (b1 - a1)) (8 : Int))))) r4 h8) h7))) h6)) h5))))) h2))))
 (fun a2 b2 limit2 wasBalanced1 wasPartitioned1 h2 =>
 again a2 b2 limit2 wasBalanced1 wasPartitioned1 h2)) a b limit true true h

def math_bits_Len_w (P : Program) (x : Int) (Q : (Int → (Hp → Prop))) (h : Hp) : Prop :=
 CallT P n_math_bits_Len64 [(.int .u64 x)] (shInt .i64) (fun r h1 =>
 Q r h1) h

def firebreakref01_Has_w (P : Program) (a : Int) (n : Int) (Q : (Bool → (Hp → Prop))) (h : Hp) : Prop :=
 LetW ((decide (n ≥ (0 : Int))) && (decide (n ≤ (63 : Int)))) fun y =>
 ((y = true → (0 : Int) ≤ n) ∧ LetW (y && ((bitsI .and .u64 (shrI .u64 a n) (1 : Int)) == (1 : Int))) fun y1 =>
 Q y1 h)

def slices_pdqsortOrdered_int_w (P : Program) (data : Sl) (a : Int) (b : Int) (limit : Int) (Q : (Hp → Prop)) (h : Hp) : Prop :=
 LoopW5 (α1 := Int) (α2 := Int) (α3 := Int) (α4 := Bool) (α5 := Bool) (fun again a1 b1 limit1 wasBalanced wasPartitioned h1 =>
 JoinW5 (α1 := Int) (α2 := Int) (α3 := Int) (α4 := Bool) (α5 := Bool) (fun k =>
 (if (decide ((IntKind.wrap .i64 (b1 - a1)) ≤ (12 : Int))) = true then
 Call0 P n_slices_insertionSortOrdered_int [data.v, (.int .i64 a1), (.int .i64 b1)] (fun h2 =>
 Q h2) h1
 else
 (if (limit1 == (0 : Int)) = true then
 Call0 P n_slices_heapSortOrdered_int [data.v, (.int .i64 a1), (.int .i64 b1)] (fun h2 =>
 Q h2) h1
 else
 JoinW1 (α1 := Int) (fun k1 =>
 (if (!wasBalanced) = true then
 Call0 P n_slices_breakPatternsOrdered_int [data.v, (.int .i64 a1), (.int .i64 b1)] (fun h2 =>
 k1 (IntKind.wrap .i64 (limit1 - (1 : Int))) h2) h1
 else
 k1 limit1 h1))
 (fun limit2 h2 =>
 Call2 P n_slices_choosePivotOrdered_int [data.v, (.int .i64 a1), (.int .i64 b1)] (shInt .i64) (shInt .i64) (fun r r1 h3 =>
 JoinW2 (α1 := Int) (α2 := Int) (fun k1 =>
 (if (r1 == (2 : Int)) = true then
 Call0 P n_slices_reverseRangeOrdered_int [data.v, (.int .i64 a1), (.int .i64 b1)] (fun h4 =>
 k1 (IntKind.wrap .i64 ((IntKind.wrap .i64 (b1 - (1 : Int))) - (IntKind.wrap .i64 (r - a1)))) (1 : Int) h4) h3
 else
 k1 r r1 h3))
 (fun pivot hint h4 =>
 JoinW0 (fun k1 =>
 LetW (wasBalanced && wasPartitioned) fun y =>
 LetW (y && (hint == (1 : Int))) fun y1 =>
 (if y1 = true then
 CallT P n_slices_partialInsertionSortOrdered_int [data.v, (.int .i64 a1), (.int .i64 b1)] shBool (fun r2 h5 =>
 (if r2 = true then
 Q h5
 else
 k1 h5)) h4
 else
 k1 h4))
 (fun h5 =>
 (((decide (a1 > (0 : Int))) = true → (InB data.base data.len (IntKind.wrap .i64 (a1 - (1 : Int))))) ∧ LdW (some (decide (a1 > (0 : Int)))) (shInt .i64) h5 (sat data.base 1 (IntKind.wrap .i64 (a1 - (1 : Int)))) fun x =>
 (((decide (a1 > (0 : Int))) = true → (InB data.base data.len pivot)) ∧ LdW (some (decide (a1 > (0 : Int)))) (shInt .i64) h5 (sat data.base 1 pivot) fun x1 =>
 EffC (some (decide (a1 > (0 : Int)))) (CallT P n_cmp_Less_int [(.int .i64 x), (.int .i64 x1)] shBool) (fun r2 h6 =>
 LetW ((decide (a1 > (0 : Int))) && (!r2)) fun y =>
 (if y = true then
 CallT P n_slices_partitionEqualOrdered_int [data.v, (.int .i64 a1), (.int .i64 b1), (.int .i64 pivot)] (shInt .i64) (fun r3 h7 =>
 k r3 b1 limit2 wasBalanced wasPartitioned h7) h6
 else
 Call2 P n_slices_partitionOrdered_int [data.v, (.int .i64 a1), (.int .i64 b1), (.int .i64 pivot)] (shInt .i64) shBool (fun r3 r4 h7 =>
 ((8 : Int) ≠ (0 : Int) ∧ (if (decide ((IntKind.wrap .i64 (r3 - a1)) < (IntKind.wrap .i64 (b1 - r3)))) = true then
 Call0 P n_slices_pdqsortOrdered_int [data.v, (.int .i64 a1), (.int .i64 r3), (.int .i64 limit2)] (fun h8 =>
 k (IntKind.wrap .i64 (r3 + (1 : Int))) b1 limit2 (decide ((IntKind.wrap .i64 (r3 - a1)) ≥ (IntKind.wrap .i64 (Int.tdiv (IntKind.wrap .i64 (b1 - a1)) (8 : Int))))) r4 h8) h7
 else
 Call0 P n_slices_pdqsortOrdered_int [data.v, (.int .i64 (IntKind.wrap .i64 (r3 + (1 : Int)))), (.int .i64 b1), (.int .i64 limit2)] (fun h8 =>
 k a1 r3 limit2 (decide ((IntKind.wrap .i64 (b1 - r3)) ≥ (IntKind.wrap .i64 (Int.tdiv (IntKind.wrap .i64 (b1 - a1)) (8 : Int))))) r4 h8) h7))) h6)) h5))))) h2))))
 (fun a2 b2 limit2 wasBalanced1 wasPartitioned1 h2 =>
 again a2 b2 limit2 wasBalanced1 wasPartitioned1 h2)) a b limit true true h

def slices_insertionSortOrdered_uint64_w (P : Program) (data : Sl) (a : Int) (b : Int) (Q : (Hp → Prop)) (h : Hp) : Prop :=
 LoopW1 (α1 := Int) (fun again i h1 =>
 (if (decide (i < b)) = true then
 LoopW1 (α1 := Int) (fun again1 j h2 =>
 (((decide (j > a)) = true → (InB data.base data.len j)) ∧ LdW (some (decide (j > a))) (shInt .u64) h2 (sat data.base 1 j) fun x =>
 (((decide (j > a)) = true → (InB data.base data.len (IntKind.wrap .i64 (j - (1 : Int))))) ∧ LdW (some (decide (j > a))) (shInt .u64) h2 (sat data.base 1 (IntKind.wrap .i64 (j - (1 : Int)))) fun x1 =>
 EffC (some (decide (j > a))) (CallT P n_cmp_Less_uint64 [(.int .u64 x), (.int .u64 x1)] shBool) (fun r h3 =>
 LetW ((decide (j > a)) && r) fun y =>
 (if y = true then
 ((InB data.base data.len (IntKind.wrap .i64 (j - (1 : Int)))) ∧ LdW none (shInt .u64) h3 (sat data.base 1 (IntKind.wrap .i64 (j - (1 : Int)))) fun x2 =>
 ((InB data.base data.len j) ∧ LdW none (shInt .u64) h3 (sat data.base 1 j) fun x3 =>
 ((InB data.base data.len j) ∧ StW h3 (sat data.base 1 j) [(.int .u64 x2)] (fun h4 =>
 ((InB data.base data.len (IntKind.wrap .i64 (j - (1 : Int)))) ∧ StW h4 (sat data.base 1 (IntKind.wrap .i64 (j - (1 : Int)))) [(.int .u64 x3)] (fun h5 =>
 again1 (IntKind.wrap .i64 (j - (1 : Int))) h5))))))
 else
 again (IntKind.wrap .i64 (i + (1 : Int))) h3)) h2))) i h1
 else
 Q h1)) (IntKind.wrap .i64 (a + (1 : Int))) h

def slices_heapSortOrdered_uint64_w (P : Program) (data : Sl) (a : Int) (b : Int) (Q : (Hp → Prop)) (h : Hp) : Prop :=
 ((2 : Int) ≠ (0 : Int) ∧ LoopW1 (α1 := Int) (fun again i h1 =>
 (if (decide (i ≥ (0 : Int))) = true then
 Call0 P n_slices_siftDownOrdered_uint64 [data.v, (.int .i64 i), (.int .i64 (IntKind.wrap .i64 (b - a))), (.int .i64 a)] (fun h2 =>
 again (IntKind.wrap .i64 (i - (1 : Int))) h2) h1
 else
 LoopW1 (α1 := Int) (fun again1 i1 h2 =>
 (if (decide (i1 ≥ (0 : Int))) = true then
 ((InB data.base data.len (IntKind.wrap .i64 (a + i1))) ∧ LdW none (shInt .u64) h2 (sat data.base 1 (IntKind.wrap .i64 (a + i1))) fun x =>
 ((InB data.base data.len a) ∧ LdW none (shInt .u64) h2 (sat data.base 1 a) fun x1 =>
 ((InB data.base data.len a) ∧ StW h2 (sat data.base 1 a) [(.int .u64 x)] (fun h3 =>
 ((InB data.base data.len (IntKind.wrap .i64 (a + i1))) ∧ StW h3 (sat data.base 1 (IntKind.wrap .i64 (a + i1))) [(.int .u64 x1)] (fun h4 =>
 Call0 P n_slices_siftDownOrdered_uint64 [data.v, (.int .i64 (0 : Int)), (.int .i64 i1), (.int .i64 a)] (fun h5 =>
 again1 (IntKind.wrap .i64 (i1 - (1 : Int))) h5) h4))))))
 else
 Q h2)) (IntKind.wrap .i64 ((IntKind.wrap .i64 (b - a)) - (1 : Int))) h1)) (IntKind.wrap .i64 (Int.tdiv (IntKind.wrap .i64 ((IntKind.wrap .i64 (b - a)) - (1 : Int))) (2 : Int))) h)

def slices_breakPatternsOrdered_uint64_w (P : Program) (data : Sl) (a : Int) (b : Int) (Q : (Hp → Prop)) (h : Hp) : Prop :=
 (if (decide ((IntKind.wrap .i64 (b - a)) ≥ (8 : Int))) = true then
 NewW [(.int .u64 (0 : Int))] (fun a1 h1 =>
 StW h1 a1 [(.int .u64 (IntKind.wrap .u64 (IntKind.wrap .i64 (b - a))))] (fun h2 =>
 CallT P n_slices_nextPowerOfTwo [(.int .i64 (IntKind.wrap .i64 (b - a)))] (shInt .u64) (fun r h3 =>
 ((4 : Int) ≠ (0 : Int) ∧ LoopW1 (α1 := Int) (fun again idx h4 =>
 ((4 : Int) ≠ (0 : Int) ∧ (if (decide (idx ≤ (IntKind.wrap .i64 ((IntKind.wrap .i64 (a + (IntKind.wrap .i64 ((IntKind.wrap .i64 (Int.tdiv (IntKind.wrap .i64 (b - a)) (4 : Int))) * (2 : Int))))) + (1 : Int))))) = true then
 CallT P n_slices_xorshift_Next [(.pointer (some a1))] (shInt .u64) (fun r1 h5 =>
 JoinW1 (α1 := Int) (fun k =>
 (if (decide ((IntKind.wrap .i64 (bitsI .and .u64 r1 (IntKind.wrap .u64 (r - (1 : Int))))) ≥ (IntKind.wrap .i64 (b - a)))) = true then
 k (IntKind.wrap .i64 ((IntKind.wrap .i64 (bitsI .and .u64 r1 (IntKind.wrap .u64 (r - (1 : Int))))) - (IntKind.wrap .i64 (b - a)))) h5
 else
 k (IntKind.wrap .i64 (bitsI .and .u64 r1 (IntKind.wrap .u64 (r - (1 : Int))))) h5))
 (fun other h6 =>
 ((InB data.base data.len (IntKind.wrap .i64 (a + other))) ∧ LdW none (shInt .u64) h6 (sat data.base 1 (IntKind.wrap .i64 (a + other))) fun x =>
 ((InB data.base data.len idx) ∧ LdW none (shInt .u64) h6 (sat data.base 1 idx) fun x1 =>
 ((InB data.base data.len idx) ∧ StW h6 (sat data.base 1 idx) [(.int .u64 x)] (fun h7 =>
 ((InB data.base data.len (IntKind.wrap .i64 (a + other))) ∧ StW h7 (sat data.base 1 (IntKind.wrap .i64 (a + other))) [(.int .u64 x1)] (fun h8 =>
 again (IntKind.wrap .i64 (idx + (1 : Int))) h8)))))))) h4
 else
 Q h4))) (IntKind.wrap .i64 ((IntKind.wrap .i64 (a + (IntKind.wrap .i64 ((IntKind.wrap .i64 (Int.tdiv (IntKind.wrap .i64 (b - a)) (4 : Int))) * (2 : Int))))) - (1 : Int))) h3)) h2)) h
 else
 Q h)

def slices_choosePivotOrdered_uint64_w (P : Program) (data : Sl) (a : Int) (b : Int) (Q : (Int → (Int → (Hp → Prop)))) (h : Hp) : Prop :=
 NewW [(.int .i64 (0 : Int))] (fun a1 h1 =>
 ((4 : Int) ≠ (0 : Int) ∧ ((4 : Int) ≠ (0 : Int) ∧ ((4 : Int) ≠ (0 : Int) ∧ (if (decide ((IntKind.wrap .i64 (b - a)) ≥ (8 : Int))) = true then
 JoinW3 (α1 := Int) (α2 := Int) (α3 := Int) (fun k =>
 (if (decide ((IntKind.wrap .i64 (b - a)) ≥ (50 : Int))) = true then
 CallT P n_slices_medianAdjacentOrdered_uint64 [data.v, (.int .i64 (IntKind.wrap .i64 (a + (IntKind.wrap .i64 ((IntKind.wrap .i64 (Int.tdiv (IntKind.wrap .i64 (b - a)) (4 : Int))) * (1 : Int)))))), (.pointer (some a1))] (shInt .i64) (fun r h2 =>
 CallT P n_slices_medianAdjacentOrdered_uint64 [data.v, (.int .i64 (IntKind.wrap .i64 (a + (IntKind.wrap .i64 ((IntKind.wrap .i64 (Int.tdiv (IntKind.wrap .i64 (b - a)) (4 : Int))) * (2 : Int)))))), (.pointer (some a1))] (shInt .i64) (fun r1 h3 =>
 CallT P n_slices_medianAdjacentOrdered_uint64 [data.v, (.int .i64 (IntKind.wrap .i64 (a + (IntKind.wrap .i64 ((IntKind.wrap .i64 (Int.tdiv (IntKind.wrap .i64 (b - a)) (4 : Int))) * (3 : Int)))))), (.pointer (some a1))] (shInt .i64) (fun r2 h4 =>
 k r r1 r2 h4) h3) h2) h1
 else
 k (IntKind.wrap .i64 (a + (IntKind.wrap .i64 ((IntKind.wrap .i64 (Int.tdiv (IntKind.wrap .i64 (b - a)) (4 : Int))) * (1 : Int))))) (IntKind.wrap .i64 (a + (IntKind.wrap .i64 ((IntKind.wrap .i64 (Int.tdiv (IntKind.wrap .i64 (b - a)) (4 : Int))) * (2 : Int))))) (IntKind.wrap .i64 (a + (IntKind.wrap .i64 ((IntKind.wrap .i64 (Int.tdiv (IntKind.wrap .i64 (b - a)) (4 : Int))) * (3 : Int))))) h1))
 (fun i j k h2 =>
 CallT P n_slices_medianOrdered_uint64 [data.v, (.int .i64 i), (.int .i64 j), (.int .i64 k), (.pointer (some a1))] (shInt .i64) (fun r h3 =>
 LdW none (shInt .i64) h3 a1 fun x =>
 (if (x == (0 : Int)) = true then
 Q r (1 : Int) h3
 else
 (if (x == (12 : Int)) = true then
 Q r (2 : Int) h3
 else
 Q r (0 : Int) h3))) h2)
 else
 LdW none (shInt .i64) h1 a1 fun x =>
 (if (x == (0 : Int)) = true then
 Q (IntKind.wrap .i64 (a + (IntKind.wrap .i64 ((IntKind.wrap .i64 (Int.tdiv (IntKind.wrap .i64 (b - a)) (4 : Int))) * (2 : Int))))) (1 : Int) h1
 else
 (if (x == (12 : Int)) = true then
 Q (IntKind.wrap .i64 (a + (IntKind.wrap .i64 ((IntKind.wrap .i64 (Int.tdiv (IntKind.wrap .i64 (b - a)) (4 : Int))) * (2 : Int))))) (2 : Int) h1
 else
 Q (IntKind.wrap .i64 (a + (IntKind.wrap .i64 ((IntKind.wrap .i64 (Int.tdiv (IntKind.wrap .i64 (b - a)) (4 : Int))) * (2 : Int))))) (0 : Int) h1))))))) h

def slices_reverseRangeOrdered_uint64_w (P : Program) (data : Sl) (a : Int) (b : Int) (Q : (Hp → Prop)) (h : Hp) : Prop :=
 LoopW2 (α1 := Int) (α2 := Int) (fun again i j h1 =>
 (if (decide (i < j)) = true then
 ((InB data.base data.len j) ∧ LdW none (shInt .u64) h1 (sat data.base 1 j) fun x =>
 ((InB data.base data.len i) ∧ LdW none (shInt .u64) h1 (sat data.base 1 i) fun x1 =>
 ((InB data.base data.len i) ∧ StW h1 (sat data.base 1 i) [(.int .u64 x)] (fun h2 =>
 ((InB data.base data.len j) ∧ StW h2 (sat data.base 1 j) [(.int .u64 x1)] (fun h3 =>
 again (IntKind.wrap .i64 (i + (1 : Int))) (IntKind.wrap .i64 (j - (1 : Int))) h3))))))
 else
 Q h1)) a (IntKind.wrap .i64 (b - (1 : Int))) h

def slices_partialInsertionSortOrdered_uint64_w (P : Program) (data : Sl) (a : Int) (b : Int) (Q : (Bool → (Hp → Prop))) (h : Hp) : Prop :=
 LoopW2 (α1 := Int) (α2 := Int) (fun again i j h1 =>
 (if (decide (j < (5 : Int))) = true then
 JoinW1 (α1 := Int) (fun k =>
 LoopW1 (α1 := Int) (fun again1 i1 h2 =>
 (((decide (i1 < b)) = true → (InB data.base data.len i1)) ∧ LdW (some (decide (i1 < b))) (shInt .u64) h2 (sat data.base 1 i1) fun x =>
 (((decide (i1 < b)) = true → (InB data.base data.len (IntKind.wrap .i64 (i1 - (1 : Int))))) ∧ LdW (some (decide (i1 < b))) (shInt .u64) h2 (sat data.base 1 (IntKind.wrap .i64 (i1 - (1 : Int)))) fun x1 =>
 EffC (some (decide (i1 < b))) (CallT P n_cmp_Less_uint64 [(.int .u64 x), (.int .u64 x1)] shBool) (fun r h3 =>
 LetW ((decide (i1 < b)) && (!r)) fun y =>
 (if y = true then
 again1 (IntKind.wrap .i64 (i1 + (1 : Int))) h3
 else
 (if (i1 == b) = true then
 Q true h3
 else
 (if (decide ((IntKind.wrap .i64 (b - a)) < (50 : Int))) = true then
 Q false h3
 else
 ((InB data.base data.len (IntKind.wrap .i64 (i1 - (1 : Int)))) ∧ LdW none (shInt .u64) h3 (sat data.base 1 (IntKind.wrap .i64 (i1 - (1 : Int)))) fun x2 =>
 ((InB data.base data.len i1) ∧ LdW none (shInt .u64) h3 (sat data.base 1 i1) fun x3 =>
 ((InB data.base data.len i1) ∧ StW h3 (sat data.base 1 i1) [(.int .u64 x2)] (fun h4 =>
 ((InB data.base data.len (IntKind.wrap .i64 (i1 - (1 : Int)))) ∧ StW h4 (sat data.base 1 (IntKind.wrap .i64 (i1 - (1 : Int)))) [(.int .u64 x3)] (fun h5 =>
 JoinW0 (fun k1 =>
 (if (decide ((IntKind.wrap .i64 (i1 - a)) ≥ (2 : Int))) = true then
 JoinW0 (fun k2 =>
 LoopW1 (α1 := Int) (fun again2 j1 h6 =>
 (if (decide (j1 ≥ (1 : Int))) = true then
 ((InB data.base data.len j1) ∧ LdW none (shInt .u64) h6 (sat data.base 1 j1) fun x4 =>
 ((InB data.base data.len (IntKind.wrap .i64 (j1 - (1 : Int)))) ∧ LdW none (shInt .u64) h6 (sat data.base 1 (IntKind.wrap .i64 (j1 - (1 : Int)))) fun x5 =>
 CallT P n_cmp_Less_uint64 [(.int .u64 x4), (.int .u64 x5)] shBool (fun r1 h7 =>
 (if (!r1) = true then
 k2 h7
 else
 ((InB data.base data.len (IntKind.wrap .i64 (j1 - (1 : Int)))) ∧ LdW none (shInt .u64) h7 (sat data.base 1 (IntKind.wrap .i64 (j1 - (1 : Int)))) fun x6 =>
 ((InB data.base data.len j1) ∧ LdW none (shInt .u64) h7 (sat data.base 1 j1) fun x7 =>
 ((InB data.base data.len j1) ∧ StW h7 (sat data.base 1 j1) [(.int .u64 x6)] (fun h8 =>
 ((InB data.base data.len (IntKind.wrap .i64 (j1 - (1 : Int)))) ∧ StW h8 (sat data.base 1 (IntKind.wrap .i64 (j1 - (1 : Int)))) [(.int .u64 x7)] (fun h9 =>
 again2 (IntKind.wrap .i64 (j1 - (1 : Int))) h9)))))))) h6))
 else
 k2 h6)) (IntKind.wrap .i64 (i1 - (1 : Int))) h5)
 (fun h6 =>
 k1 h6)
 else
 k1 h5))
 (fun h6 =>
 (if (decide ((IntKind.wrap .i64 (b - i1)) ≥ (2 : Int))) = true then
 JoinW0 (fun k1 =>
 LoopW1 (α1 := Int) (fun again2 j1 h7 =>
 (if (decide (j1 < b)) = true then
 ((InB data.base data.len j1) ∧ LdW none (shInt .u64) h7 (sat data.base 1 j1) fun x4 =>
 ((InB data.base data.len (IntKind.wrap .i64 (j1 - (1 : Int)))) ∧ LdW none (shInt .u64) h7 (sat data.base 1 (IntKind.wrap .i64 (j1 - (1 : Int)))) fun x5 =>
 CallT P n_cmp_Less_uint64 [(.int .u64 x4), (.int .u64 x5)] shBool (fun r1 h8 =>
 (if (!r1) = true then
 k1 h8
 else
 ((InB data.base data.len (IntKind.wrap .i64 (j1 - (1 : Int)))) ∧ LdW none (shInt .u64) h8 (sat data.base 1 (IntKind.wrap .i64 (j1 - (1 : Int)))) fun x6 =>
 ((InB data.base data.len j1) ∧ LdW none (shInt .u64) h8 (sat data.base 1 j1) fun x7 =>
 ((InB data.base data.len j1) ∧ StW h8 (sat data.base 1 j1) [(.int .u64 x6)] (fun h9 =>
 ((InB data.base data.len (IntKind.wrap .i64 (j1 - (1 : Int)))) ∧ StW h9 (sat data.base 1 (IntKind.wrap .i64 (j1 - (1 : Int)))) [(.int .u64 x7)] (fun h10 =>
 again2 (IntKind.wrap .i64 (j1 + (1 : Int))) h10)))))))) h7))
 else
 k1 h7)) (IntKind.wrap .i64 (i1 + (1 : Int))) h6)
 (fun h7 =>
 k i1 h7)
 else
 k i1 h6)))))))))))) h2))) i h1)
 (fun i1 h2 =>
 again i1 (IntKind.wrap .i64 (j + (1 : Int))) h2)
 else
 Q false h1)) (IntKind.wrap .i64 (a + (1 : Int))) (0 : Int) h

def cmp_Less_uint64_w (P : Program) (x : Int) (y : Int) (Q : (Bool → (Hp → Prop))) (h : Hp) : Prop :=
 CallT P n_cmp_isNaN_uint64 [(.int .u64 x)] shBool (fun r h1 =>
 EffC (some r) (CallT P n_cmp_isNaN_uint64 [(.int .u64 y)] shBool) (fun r1 h2 =>
 LetW (r && (!r1)) fun y1 =>
 LetW (y1 || (decide (x < y))) fun y2 =>
 Q y2 h2) h1) h

def slices_partitionEqualOrdered_uint64_w (P : Program) (data : Sl) (a : Int) (b : Int) (pivot : Int) (Q : (Int → (Hp → Prop))) (h : Hp) : Prop :=
 ((InB data.base data.len pivot) ∧ LdW none (shInt .u64) h (sat data.base 1 pivot) fun x =>
 ((InB data.base data.len a) ∧ LdW none (shInt .u64) h (sat data.base 1 a) fun x1 =>
 ((InB data.base data.len a) ∧ StW h (sat data.base 1 a) [(.int .u64 x)] (fun h1 =>
 ((InB data.base data.len pivot) ∧ StW h1 (sat data.base 1 pivot) [(.int .u64 x1)] (fun h2 =>
 LoopW2 (α1 := Int) (α2 := Int) (fun again i j h3 =>
 LoopW1 (α1 := Int) (fun again1 i1 h4 =>
 (((decide (i1 ≤ j)) = true → (InB data.base data.len a)) ∧ LdW (some (decide (i1 ≤ j))) (shInt .u64) h4 (sat data.base 1 a) fun x2 =>
 (((decide (i1 ≤ j)) = true → (InB data.base data.len i1)) ∧ LdW (some (decide (i1 ≤ j))) (shInt .u64) h4 (sat data.base 1 i1) fun x3 =>
 EffC (some (decide (i1 ≤ j))) (CallT P n_cmp_Less_uint64 [(.int .u64 x2), (.int .u64 x3)] shBool) (fun r h5 =>
 LetW ((decide (i1 ≤ j)) && (!r)) fun y =>
 (if y = true then
 again1 (IntKind.wrap .i64 (i1 + (1 : Int))) h5
 else
 LoopW1 (α1 := Int) (fun again2 j1 h6 =>
 (((decide (i1 ≤ j1)) = true → (InB data.base data.len a)) ∧ LdW (some (decide (i1 ≤ j1))) (shInt .u64) h6 (sat data.base 1 a) fun x4 =>
 (((decide (i1 ≤ j1)) = true → (InB data.base data.len j1)) ∧ LdW (some (decide (i1 ≤ j1))) (shInt .u64) h6 (sat data.base 1 j1) fun x5 =>
 EffC (some (decide (i1 ≤ j1))) (CallT P n_cmp_Less_uint64 [(.int .u64 x4), (.int .u64 x5)] shBool) (fun r1 h7 =>
 LetW ((decide (i1 ≤ j1)) && r1) fun y1 =>
 (if y1 = true then
 again2 (IntKind.wrap .i64 (j1 - (1 : Int))) h7
 else
 (if (decide (i1 > j1)) = true then
 Q i1 h7
 else
 ((InB data.base data.len j1) ∧ LdW none (shInt .u64) h7 (sat data.base 1 j1) fun x6 =>
 ((InB data.base data.len i1) ∧ LdW none (shInt .u64) h7 (sat data.base 1 i1) fun x7 =>
 ((InB data.base data.len i1) ∧ StW h7 (sat data.base 1 i1) [(.int .u64 x6)] (fun h8 =>
 ((InB data.base data.len j1) ∧ StW h8 (sat data.base 1 j1) [(.int .u64 x7)] (fun h9 =>
 again (IntKind.wrap .i64 (i1 + (1 : Int))) (IntKind.wrap .i64 (j1 - (1 : Int))) h9))))))))) h6))) j h5)) h4))) i h3) (IntKind.wrap .i64 (a + (1 : Int))) (IntKind.wrap .i64 (b - (1 : Int))) h2))))))

def slices_partitionOrdered_uint64_w (P : Program) (data : Sl) (a : Int) (b : Int) (pivot : Int) (Q : (Int → (Bool → (Hp → Prop)))) (h : Hp) : Prop :=
 ((InB data.base data.len pivot) ∧ LdW none (shInt .u64) h (sat data.base 1 pivot) fun x =>
 ((InB data.base data.len a) ∧ LdW none (shInt .u64) h (sat data.base 1 a) fun x1 =>
 ((InB data.base data.len a) ∧ StW h (sat data.base 1 a) [(.int .u64 x)] (fun h1 =>
 ((InB data.base data.len pivot) ∧ StW h1 (sat data.base 1 pivot) [(.int .u64 x1)] (fun h2 =>
 LoopW1 (α1 := Int) (fun again i h3 =>
 (((decide (i ≤ (IntKind.wrap .i64 (b - (1 : Int))))) = true → (InB data.base data.len i)) ∧ LdW (some (decide (i ≤ (IntKind.wrap .i64 (b - (1 : Int)))))) (shInt .u64) h3 (sat data.base 1 i) fun x2 =>
 (((decide (i ≤ (IntKind.wrap .i64 (b - (1 : Int))))) = true → (InB data.base data.len a)) ∧ LdW (some (decide (i ≤ (IntKind.wrap .i64 (b - (1 : Int)))))) (shInt .u64) h3 (sat data.base 1 a) fun x3 =>
 EffC (some (decide (i ≤ (IntKind.wrap .i64 (b - (1 : Int)))))) (CallT P n_cmp_Less_uint64 [(.int .u64 x2), (.int .u64 x3)] shBool) (fun r h4 =>
 LetW ((decide (i ≤ (IntKind.wrap .i64 (b - (1 : Int))))) && r) fun y =>
 (if y = true then
 again (IntKind.wrap .i64 (i + (1 : Int))) h4
 else
 LoopW1 (α1 := Int) (fun again1 j h5 =>
 (((decide (i ≤ j)) = true → (InB data.base data.len j)) ∧ LdW (some (decide (i ≤ j))) (shInt .u64) h5 (sat data.base 1 j) fun x4 =>
 (((decide (i ≤ j)) = true → (InB data.base data.len a)) ∧ LdW (some (decide (i ≤ j))) (shInt .u64) h5 (sat data.base 1 a) fun x5 =>
 EffC (some (decide (i ≤ j))) (CallT P n_cmp_Less_uint64 [(.int .u64 x4), (.int .u64 x5)] shBool) (fun r1 h6 =>
 LetW ((decide (i ≤ j)) && (!r1)) fun y1 =>
 (if y1 = true then
 again1 (IntKind.wrap .i64 (j - (1 : Int))) h6
 else
 (if (decide (i > j)) = true then
 ((InB data.base data.len a) ∧ LdW none (shInt .u64) h6 (sat data.base 1 a) fun x6 =>
 ((InB data.base data.len j) ∧ LdW none (shInt .u64) h6 (sat data.base 1 j) fun x7 =>
 ((InB data.base data.len j) ∧ StW h6 (sat data.base 1 j) [(.int .u64 x6)] (fun h7 =>
 ((InB data.base data.len a) ∧ StW h7 (sat data.base 1 a) [(.int .u64 x7)] (fun h8 =>
 Q j true h8))))))
 else
 ((InB data.base data.len j) ∧ LdW none (shInt .u64) h6 (sat data.base 1 j) fun x6 =>
 ((InB data.base data.len i) ∧ LdW none (shInt .u64) h6 (sat data.base 1 i) fun x7 =>
 ((InB data.base data.len i) ∧ StW h6 (sat data.base 1 i) [(.int .u64 x6)] (fun h7 =>
 ((InB data.base data.len j) ∧ StW h7 (sat data.base 1 j) [(.int .u64 x7)] (fun h8 =>
 LoopW2 (α1 := Int) (α2 := Int) (fun again2 i1 j1 h9 =>
 LoopW1 (α1 := Int) (fun again3 i2 h10 =>
 (((decide (i2 ≤ j1)) = true → (InB data.base data.len i2)) ∧ LdW (some (decide (i2 ≤ j1))) (shInt .u64) h10 (sat data.base 1 i2) fun x8 =>
 (((decide (i2 ≤ j1)) = true → (InB data.base data.len a)) ∧ LdW (some (decide (i2 ≤ j1))) (shInt .u64) h10 (sat data.base 1 a) fun x9 =>
 EffC (some (decide (i2 ≤ j1))) (CallT P n_cmp_Less_uint64 [(.int .u64 x8), (.int .u64 x9)] shBool) (fun r2 h11 =>
 LetW ((decide (i2 ≤ j1)) && r2) fun y2 =>
 (if y2 = true then
 again3 (IntKind.wrap .i64 (i2 + (1 : Int))) h11
 else
 LoopW1 (α1 := Int) (fun again4 j2 h12 =>
 (((decide (i2 ≤ j2)) = true → (InB data.base data.len j2)) ∧ LdW (some (decide (i2 ≤ j2))) (shInt .u64) h12 (sat data.base 1 j2) fun x10 =>
 (((decide (i2 ≤ j2)) = true → (InB data.base data.len a)) ∧ LdW (some (decide (i2 ≤ j2))) (shInt .u64) h12 (sat data.base 1 a) fun x11 =>
 EffC (some (decide (i2 ≤ j2))) (CallT P n_cmp_Less_uint64 [(.int .u64 x10), (.int .u64 x11)] shBool) (fun r3 h13 =>
 LetW ((decide (i2 ≤ j2)) && (!r3)) fun y3 =>
 (if y3 = true then
 again4 (IntKind.wrap .i64 (j2 - (1 : Int))) h13
 else
 (if (decide (i2 > j2)) = true then
 ((InB data.base data.len a) ∧ LdW none (shInt .u64) h13 (sat data.base 1 a) fun x12 =>
 ((InB data.base data.len j2) ∧ LdW none (shInt .u64) h13 (sat data.base 1 j2) fun x13 =>
 ((InB data.base data.len j2) ∧ StW h13 (sat data.base 1 j2) [(.int .u64 x12)] (fun h14 =>
 ((InB data.base data.len a) ∧ StW h14 (sat data.base 1 a) [(.int .u64 x13)] (fun h15 =>
 Q j2 false h15))))))
 else
 ((InB data.base data.len j2) ∧ LdW none (shInt .u64) h13 (sat data.base 1 j2) fun x12 =>
 ((InB data.base data.len i2) ∧ LdW none (shInt .u64) h13 (sat data.base 1 i2) fun x13 =>
 ((InB data.base data.len i2) ∧ StW h13 (sat data.base 1 i2) [(.int .u64 x12)] (fun h14 =>
 ((InB data.base data.len j2) ∧ StW h14 (sat data.base 1 j2) [(.int .u64 x13)] (fun h15 =>
 again2 (IntKind.wrap .i64 (i2 + (1 : Int))) (IntKind.wrap .i64 (j2 - (1 : Int))) h15))))))))) h12))) j1 h11)) h10))) i1 h9) (IntKind.wrap .i64 (i + (1 : Int))) (IntKind.wrap .i64 (j - (1 : Int))) h8))))))))) h5))) (IntKind.wrap .i64 (b - (1 : Int))) h4)) h3))) (IntKind.wrap .i64 (a + (1 : Int))) h2))))))

def math_bits_Len32_w (P : Program) (x : Int) (Q : (Int → (Hp → Prop))) (h : Hp) : Prop :=
 JoinW2 (α1 := Int) (α2 := Int) (fun k =>
 (if (decide (x ≥ (65536 : Int))) = true then
 ((0 : Int) ≤ (16 : Int) ∧ k (shrI .u32 x (16 : Int)) (16 : Int) h)
 else
 k x (0 : Int) h))
 (fun x1 n h1 =>
 (if (decide (x1 ≥ (256 : Int))) = true then
 ((0 : Int) ≤ (8 : Int) ∧ (((0 : Int) ≤ (IntKind.wrap .u8 (shrI .u32 x1 (8 : Int))) ∧ (IntKind.wrap .u8 (shrI .u32 x1 (8 : Int))) < (256 : Int)) ∧ Q (IntKind.wrap .i64 ((IntKind.wrap .i64 (n + (8 : Int))) + (IntKind.wrap .i64 (((UInt8.toNat (List.getD [⟨⟨⟨0, (Nat.mod_lt 0 (BitVec.ofNat._proof_1 8))⟩⟩⟩, ⟨⟨⟨1, (Nat.mod_lt 1 (BitVec.ofNat._proof_1 8))⟩⟩⟩, ⟨⟨⟨2, (Nat.mod_lt 2 (BitVec.ofNat._proof_1 8))⟩⟩⟩, ⟨⟨⟨2, (Nat.mod_lt 2 (BitVec.ofNat._proof_1 8))⟩⟩⟩, ⟨⟨⟨3, (Nat.mod_lt 3 (BitVec.ofNat._proof_1 8))⟩⟩⟩, ⟨⟨⟨3, (Nat.mod_lt 3 (BitVec.ofNat._proof_1 8))⟩⟩⟩, ⟨⟨⟨3, (Nat.mod_lt 3 (BitVec.ofNat._proof_1 8))⟩⟩⟩, ⟨⟨⟨3, (Nat.mod_lt 3 (BitVec.ofNat._proof_1 8))⟩⟩⟩, ⟨⟨⟨4, (Nat.mod_lt 4 (BitVec.ofNat._proof_1 8))⟩⟩⟩, ⟨⟨⟨4, (Nat.mod_lt 4 (BitVec.ofNat._proof_1 8))⟩⟩⟩, ⟨⟨⟨4, (Nat.mod_lt 4 (BitVec.ofNat._proof_1 8))⟩⟩⟩, ⟨⟨⟨4, (Nat.mod_lt 4 (BitVec.ofNat._proof_1 8))⟩⟩⟩, ⟨⟨⟨4, (Nat.mod_lt 4 (BitVec.ofNat._proof_1 8))⟩⟩⟩, ⟨⟨⟨4, (Nat.mod_lt 4 (BitVec.ofNat._proof_1 8))⟩⟩⟩, ⟨⟨⟨4, (Nat.mod_lt 4 (BitVec.ofNat._proof_1 8))⟩⟩⟩, ⟨⟨⟨4, (Nat.mod_lt 4 (BitVec.ofNat._proof_1 8))⟩⟩⟩, ⟨⟨⟨5, (Nat.mod_lt 5 (BitVec.ofNat._proof_1 8))⟩⟩⟩, ⟨⟨⟨5, (Nat.mod_lt 5 (BitVec.ofNat._proof_1 8))⟩⟩⟩, ⟨⟨⟨5, (Nat.mod_lt 5 (BitVec.ofNat._proof_1 8))⟩⟩⟩, ⟨⟨⟨5, (Nat.mod_lt 5 (BitVec.ofNat._proof_1 8))⟩⟩⟩, ⟨⟨⟨5, (Nat.mod_lt 5 (BitVec.ofNat._proof_1 8))⟩⟩⟩, ⟨⟨⟨5, (Nat.mod_lt 5 (BitVec.ofNat._proof_1 8))⟩⟩⟩, ⟨⟨⟨5, (Nat.mod_lt 5 (BitVec.ofNat._proof_1 8))⟩⟩⟩, ⟨⟨⟨5, (Nat.mod_lt 5 (BitVec.ofNat._proof_1 8))⟩⟩⟩, ⟨⟨⟨5, (Nat.mod_lt 5 (BitVec.ofNat._proof_1 8))⟩⟩⟩, ⟨⟨⟨5, (Nat.mod_lt 5 (BitVec.ofNat._proof_1 8))⟩⟩⟩, ⟨⟨⟨5, (Nat.mod_lt 5 (BitVec.ofNat._proof_1 8))⟩⟩⟩, ⟨⟨⟨5, (Nat.mod_lt 5 (BitVec.ofNat._proof_1 8))⟩⟩⟩, ⟨⟨⟨5, (Nat.mod_lt 5 (BitVec.ofNat._proof_1 8))⟩⟩⟩, ⟨⟨⟨5, (Nat.mod_lt 5 (BitVec.ofNat._proof_1 8))⟩⟩⟩, ⟨⟨⟨5, (Nat.mod_lt 5 (BitVec.ofNat._proof_1 8))⟩⟩⟩, ⟨⟨⟨5, (Nat.mod_lt 5 (BitVec.ofNat._proof_1 8))⟩⟩⟩, ⟨⟨⟨6, (Nat.mod_lt 6 (BitVec.ofNat._proof_1 8))⟩⟩⟩, ⟨⟨⟨6, (Nat.mod_lt 6 (BitVec.ofNat._proof_1 8))⟩⟩⟩, ⟨⟨⟨6, (Nat.mod_lt 6 (BitVec.ofNat._proof_1 8))⟩⟩⟩, ⟨⟨⟨6, (Nat.mod_lt 6 (BitVec.ofNat._proof_1 8))⟩⟩⟩, ⟨⟨⟨6, (Nat.mod_lt 6 (BitVec.ofNat._proof_1 8))⟩⟩⟩, ⟨⟨⟨6, (Nat.mod_lt 6 (BitVec.ofNat._proof_1 8))⟩⟩⟩, ⟨⟨⟨6, (Nat.mod_lt 6 (BitVec.ofNat._proof_1 8))⟩⟩⟩, ⟨⟨⟨6, (Nat.mod_lt 6 (BitVec.ofNat._proof_1 8))⟩⟩⟩, ⟨⟨⟨6, (Nat.mod_lt 6 (BitVec.ofNat._proof_1 8))⟩⟩⟩, ⟨⟨⟨6, (Nat.mod_lt 6 (BitVec.ofNat._proof_1 8))⟩⟩⟩, ⟨⟨⟨6, (Nat.mod_lt 6 (BitVec.ofNat._proof_1 8))⟩⟩⟩, ⟨⟨⟨6, (Nat.mod_lt 6 (BitVec.ofNat._proof_1 8))⟩⟩⟩, ⟨⟨⟨6, (Nat.mod_lt 6 (BitVec.ofNat._proof_1 8))⟩⟩⟩, ⟨⟨⟨6, (Nat.mod_lt 6 (BitVec.ofNat._proof_1 8))⟩⟩⟩, ⟨⟨⟨6, (Nat.mod_lt 6 (BitVec.ofNat._proof_1 8))⟩⟩⟩, ⟨⟨⟨6, (Nat.mod_lt 6 (BitVec.ofNat._proof_1 8))⟩⟩⟩, ⟨⟨⟨6, (Nat.mod_lt 6 (BitVec.ofNat._proof_1 8))⟩⟩⟩, ⟨⟨⟨6, (Nat.mod_lt 6 (BitVec.ofNat._proof_1 8))⟩⟩⟩, ⟨⟨⟨6, (Nat.mod_lt 6 (BitVec.ofNat._proof_1 8))⟩⟩⟩, ⟨⟨⟨6, (Nat.mod_lt 6 (BitVec.ofNat._proof_1 8))⟩⟩⟩, ⟨⟨⟨6, (Nat.mod_lt 6 (BitVec.ofNat._proof_1 8))⟩⟩⟩, ⟨⟨⟨6, (Nat.mod_lt 6 (BitVec.ofNat._proof_1 8))⟩⟩⟩, ⟨⟨⟨6, (Nat.mod_lt 6 (BitVec.ofNat._proof_1 8))⟩⟩⟩, ⟨⟨⟨6, (Nat.mod_lt 6 (BitVec.ofNat._proof_1 8))⟩⟩⟩, ⟨⟨⟨6, (Nat.mod_lt 6 (BitVec.ofNat._proof_1 8))⟩⟩⟩, ⟨⟨⟨6, (Nat.mod_lt 6 (BitVec.ofNat._proof_1 8))⟩⟩⟩, ⟨⟨⟨6, (Nat.mod_lt 6 (BitVec.ofNat._proof_1 8))⟩⟩⟩, ⟨⟨⟨6, (Nat.mod_lt 6 (BitVec.ofNat._proof_1 8))⟩⟩⟩, ⟨⟨⟨6, (Nat.mod_lt 6 (BitVec.ofNat._proof_1 8))⟩⟩⟩, ⟨⟨⟨6, (Nat.mod_lt 6 (BitVec.ofNat._proof_1 8))⟩⟩⟩, ⟨⟨⟨6, (Nat.mod_lt 6 (BitVec.ofNat._proof_1 8))⟩⟩⟩, ⟨⟨⟨6, (Nat.mod_lt 6 (BitVec.ofNat._proof_1 8))⟩⟩⟩, ⟨⟨⟨7, (Nat.mod_lt 7 (BitVec.ofNat._proof_1 8))⟩⟩⟩, ⟨⟨⟨7, (Nat.mod_lt 7 (BitVec.ofNat._proof_1 8))⟩⟩⟩, ⟨⟨⟨7, (Nat.mod_lt 7 (BitVec.ofNat._proof_1 8))⟩⟩⟩, ⟨⟨⟨7, (Nat.mod_lt 7 (BitVec.ofNat._proof_1 8))⟩⟩⟩, ⟨⟨⟨7, (Nat.mod_lt 7 (BitVec.ofNat._proof_1 8))⟩⟩⟩, ⟨⟨⟨7, (Nat.mod_lt 7 (BitVec.ofNat._proof_1 8))⟩⟩⟩, ⟨⟨⟨7, (Nat.mod_lt 7 (BitVec.ofNat._proof_1 8))⟩⟩⟩, ⟨⟨⟨7, (Nat.mod_lt 7 (BitVec.ofNat._proof_1 8))⟩⟩⟩, ⟨⟨⟨7, (Nat.mod_lt 7 (BitVec.ofNat._proof_1 8))⟩⟩⟩, ⟨⟨⟨7, (Nat.mod_lt 7 (BitVec.ofNat._proof_1 8))⟩⟩⟩, ⟨⟨⟨7, (Nat.mod_lt 7 (BitVec.ofNat._proof_1 8))⟩⟩⟩, ⟨⟨⟨7, (Nat.mod_lt 7 (BitVec.ofNat._proof_1 8))⟩⟩⟩, ⟨⟨⟨7, (Nat.mod_lt 7 (BitVec.ofNat._proof_1 8))⟩⟩⟩, ⟨⟨⟨7, (Nat.mod_lt 7 (BitVec.ofNat._proof_1 8))⟩⟩⟩, ⟨⟨⟨7, (Nat.mod_lt 7 (BitVec.ofNat._proof_1 8))⟩⟩⟩, ⟨⟨⟨7, (Nat.mod_lt 7 (BitVec.ofNat._proof_1 8))⟩⟩⟩, ⟨⟨⟨7, (Nat.mod_lt 7 (BitVec.ofNat._proof_1 8))⟩⟩⟩, ⟨⟨⟨7, (Nat.mod_lt 7 (BitVec.ofNat._proof_1 8))⟩⟩⟩, ⟨⟨⟨7, (Nat.mod_lt 7 (BitVec.ofNat._proof_1 8))⟩⟩⟩, ⟨⟨⟨7, (Nat.mod_lt 7 (BitVec.ofNat._proof_1 8))⟩⟩⟩, ⟨⟨⟨7, (Nat.mod_lt 7 (BitVec.ofNat._proof_1 8))⟩⟩⟩, ⟨⟨⟨7, (Nat.mod_lt 7 (BitVec.ofNat._proof_1 8))⟩⟩⟩, ⟨⟨⟨7, (Nat.mod_lt 7 (BitVec.ofNat._proof_1 8))⟩⟩⟩, ⟨⟨⟨7, (Nat.mod_lt 7 (BitVec.ofNat._proof_1 8))⟩⟩⟩, ⟨⟨⟨7, (Nat.mod_lt 7 (BitVec.ofNat._proof_1 8))⟩⟩⟩, ⟨⟨⟨7, (Nat.mod_lt 7 (BitVec.ofNat._proof_1 8))⟩⟩⟩, ⟨⟨⟨7, (Nat.mod_lt 7 (BitVec.ofNat._proof_1 8))⟩⟩⟩, ⟨⟨⟨7, (Nat.mod_lt 7 (BitVec.ofNat._proof_1 8))⟩⟩⟩, ⟨⟨⟨7, (Nat.mod_lt 7 (BitVec.ofNat._proof_1 8))⟩⟩⟩, ⟨⟨⟨7, (Nat.mod_lt 7 (BitVec.ofNat._proof_1 8))⟩⟩⟩, ⟨⟨⟨7, (Nat.mod_lt 7 (BitVec.ofNat._proof_1 8))⟩⟩⟩, ⟨⟨⟨7, (Nat.mod_lt 7 (BitVec.ofNat._proof_1 8))⟩⟩⟩, ⟨⟨⟨7, (Nat.mod_lt 7 (BitVec.ofNat._proof_1 8))⟩⟩⟩, ⟨⟨⟨7, (Nat.mod_lt 7 (BitVec.ofNat._proof_1 8))⟩⟩⟩, ⟨⟨⟨7, (Nat.mod_lt 7 (BitVec.ofNat._proof_1 8))⟩⟩⟩, ⟨⟨⟨7, (Nat.mod_lt 7 (BitVec.ofNat._proof_1 8))⟩⟩⟩, ⟨⟨⟨7, (Nat.mod_lt 7 (BitVec.ofNat._proof_1 8))⟩⟩⟩, ⟨⟨⟨7, (Nat.mod_lt 7 (BitVec.ofNat._proof_1 8))⟩⟩⟩, ⟨⟨⟨7, (Nat.mod_lt 7 (BitVec.ofNat._proof_1 8))⟩⟩⟩, ⟨⟨⟨7, (Nat.mod_lt 7 (BitVec.ofNat._proof_1 8))⟩⟩⟩, ⟨⟨⟨7, (Nat.mod_lt 7 (BitVec.ofNat._proof_1 8))⟩⟩⟩, ⟨⟨⟨7, (Nat.mod_lt 7 (BitVec.ofNat._proof_1 8))⟩⟩⟩, ⟨⟨⟨7, (Nat.mod_lt 7 (BitVec.ofNat._proof_1 8))⟩⟩⟩, ⟨⟨⟨7, (Nat.mod_lt 7 (BitVec.ofNat._proof_1 8))⟩⟩⟩, ⟨⟨⟨7, (Nat.mod_lt 7 (BitVec.ofNat._proof_1 8))⟩⟩⟩, ⟨⟨⟨7, (Nat.mod_lt 7 (BitVec.ofNat._proof_1 8))⟩⟩⟩, ⟨⟨⟨7, (Nat.mod_lt 7 (BitVec.ofNat._proof_1 8))⟩⟩⟩, ⟨⟨⟨7, (Nat.mod_lt 7 (BitVec.ofNat._proof_1 8))⟩⟩⟩, ⟨⟨⟨7, (Nat.mod_lt 7 (BitVec.ofNat._proof_1 8))⟩⟩⟩, ⟨⟨⟨7, (Nat.mod_lt 7 (BitVec.ofNat._proof_1 8))⟩⟩⟩, ⟨⟨⟨7, (Nat.mod_lt 7 (BitVec.ofNat._proof_1 8))⟩⟩⟩, ⟨⟨⟨7, (Nat.mod_lt 7 (BitVec.ofNat._proof_1 8))⟩⟩⟩, ⟨⟨⟨7, (Nat.mod_lt 7 (BitVec.ofNat._proof_1 8))⟩⟩⟩, ⟨⟨⟨7, (Nat.mod_lt 7 (BitVec.ofNat._proof_1 8))⟩⟩⟩, ⟨⟨⟨7, (Nat.mod_lt 7 (BitVec.ofNat._proof_1 8))⟩⟩⟩, ⟨⟨⟨7, (Nat.mod_lt 7 (BitVec.ofNat._proof_1 8))⟩⟩⟩, ⟨⟨⟨7, (Nat.mod_lt 7 (BitVec.ofNat._proof_1 8))⟩⟩⟩, ⟨⟨⟨7, (Nat.mod_lt 7 (BitVec.ofNat._proof_1 8))⟩⟩⟩, ⟨⟨⟨7, (Nat.mod_lt 7 (BitVec.ofNat._proof_1 8))⟩⟩⟩, ⟨⟨⟨7, (Nat.mod_lt 7 (BitVec.ofNat._proof_1 8))⟩⟩⟩, ⟨⟨⟨7, (Nat.mod_lt 7 (BitVec.ofNat._proof_1 8))⟩⟩⟩, ⟨⟨⟨7, (Nat.mod_lt 7 (BitVec.ofNat._proof_1 8))⟩⟩⟩, ⟨⟨⟨7, (Nat.mod_lt 7 (BitVec.ofNat._proof_1 8))⟩⟩⟩, ⟨⟨⟨7, (Nat.mod_lt 7 (BitVec.ofNat._proof_1 8))⟩⟩⟩, ⟨⟨⟨8, (Nat.mod_lt 8 (BitVec.ofNat._proof_1 8))⟩⟩⟩, ⟨⟨⟨8, (Nat.mod_lt 8 (BitVec.ofNat._proof_1 8))⟩⟩⟩, ⟨⟨⟨8, (Nat.mod_lt 8 (BitVec.ofNat._proof_1 8))⟩⟩⟩, ⟨⟨⟨8, (Nat.mod_lt 8 (BitVec.ofNat._proof_1 8))⟩⟩⟩, ⟨⟨⟨8, (Nat.mod_lt 8 (BitVec.ofNat._proof_1 8))⟩⟩⟩, ⟨⟨⟨8, (Nat.mod_lt 8 (BitVec.ofNat._proof_1 8))⟩⟩⟩, ⟨⟨⟨8, (Nat.mod_lt 8 (BitVec.ofNat._proof_1 8))⟩⟩⟩, ⟨⟨⟨8, (Nat.mod_lt 8 (BitVec.ofNat._proof_1 8))⟩⟩⟩, ⟨⟨⟨8, (Nat.mod_lt 8 (BitVec.ofNat._proof_1 8))⟩⟩⟩, ⟨⟨⟨8, (Nat.mod_lt 8 (BitVec.ofNat._proof_1 8))⟩⟩⟩, ⟨⟨⟨8, (Nat.mod_lt 8 (BitVec.ofNat._proof_1 8))⟩⟩⟩, ⟨⟨⟨8, (Nat.mod_lt 8 (BitVec.ofNat._proof_1 8))⟩⟩⟩, ⟨⟨⟨8, (Nat.mod_lt 8 (BitVec.ofNat._proof_1 8))⟩⟩⟩, ⟨⟨⟨8, (Nat.mod_lt 8 (BitVec.ofNat._proof_1 8))⟩⟩⟩, ⟨⟨⟨8, (Nat.mod_lt 8 (BitVec.ofNat._proof_1 8))⟩⟩⟩, ⟨⟨⟨8, (Nat.mod_lt 8 (BitVec.ofNat._proof_1 8))⟩⟩⟩, ⟨⟨⟨8, (Nat.mod_lt 8 (BitVec.ofNat._proof_1 8))⟩⟩⟩, ⟨⟨⟨8, (Nat.mod_lt 8 (BitVec.ofNat._proof_1 8))⟩⟩⟩, ⟨⟨⟨8, (Nat.mod_lt 8 (BitVec.ofNat._proof_1 8))⟩⟩⟩, ⟨⟨⟨8, (Nat.mod_lt 8 (BitVec.ofNat._proof_1 8))⟩⟩⟩, ⟨⟨⟨8, (Nat.mod_lt 8 (BitVec.ofNat._proof_1 8))⟩⟩⟩, ⟨⟨⟨8, (Nat.mod_lt 8 (BitVec.ofNat._proof_1 8))⟩⟩⟩, ⟨⟨⟨8, (Nat.mod_lt 8 (BitVec.ofNat._proof_1 8))⟩⟩⟩, ⟨⟨⟨8, (Nat.mod_lt 8 (BitVec.ofNat._proof_1 8))⟩⟩⟩, ⟨⟨⟨8, (Nat.mod_lt 8 (BitVec.ofNat._proof_1 8))⟩⟩⟩, ⟨⟨⟨8, (Nat.mod_lt 8 (BitVec.ofNat._proof_1 8))⟩⟩⟩, ⟨⟨⟨8, (Nat.mod_lt 8 (BitVec.ofNat._proof_1 8))⟩⟩⟩, ⟨⟨⟨8, (Nat.mod_lt 8 (BitVec.ofNat._proof_1 8))⟩⟩⟩, ⟨⟨⟨8, (Nat.mod_lt 8 (BitVec.ofNat._proof_1 8))⟩⟩⟩, ⟨⟨⟨8, (Nat.mod_lt 8 (BitVec.ofNat._proof_1 8))⟩⟩⟩, ⟨⟨⟨8, (Nat.mod_lt 8 (BitVec.ofNat._proof_1 8))⟩⟩⟩, ⟨⟨⟨8, (Nat.mod_lt 8 (BitVec.ofNat._proof_1 8))⟩⟩⟩, ⟨⟨⟨8, (Nat.mod_lt 8 (BitVec.ofNat._proof_1 8))⟩⟩⟩, ⟨⟨⟨8, (Nat.mod_lt 8 (BitVec.ofNat._proof_1 8))⟩⟩⟩, ⟨⟨⟨8, (Nat.mod_lt 8 (BitVec.ofNat._proof_1 8))⟩⟩⟩, ⟨⟨⟨8, (Nat.mod_lt 8 (BitVec.ofNat._proof_1 8))⟩⟩⟩, ⟨⟨⟨8, (Nat.mod_lt 8 (BitVec.ofNat._proof_1 8))⟩⟩⟩, ⟨⟨⟨8, (Nat.mod_lt 8 (BitVec.ofNat._proof_1 8))⟩⟩⟩, ⟨⟨⟨8, (Nat.mod_lt 8 (BitVec.ofNat._proof_1 8))⟩⟩⟩, ⟨⟨⟨8, (Nat.mod_lt 8 (BitVec.ofNat._proof_1 8))⟩⟩⟩, ⟨⟨⟨8, (Nat.mod_lt 8 (BitVec.ofNat._proof_1 8))⟩⟩⟩, ⟨⟨⟨8, (Nat.mod_lt 8 (BitVec.ofNat._proof_1 8))⟩⟩⟩, ⟨⟨⟨8, (Nat.mod_lt 8 (BitVec.ofNat._proof_1 8))⟩⟩⟩, ⟨⟨⟨8, (Nat.mod_lt 8 (BitVec.ofNat._proof_1 8))⟩⟩⟩, ⟨⟨⟨8, (Nat.mod_lt 8 (BitVec.ofNat._proof_1 8))⟩⟩⟩, ⟨⟨⟨8, (Nat.mod_lt 8 (BitVec.ofNat._proof_1 8))⟩⟩⟩, ⟨⟨⟨8, (Nat.mod_lt 8 (BitVec.ofNat._proof_1 8))⟩⟩⟩, ⟨⟨⟨8, (Nat.mod_lt 8 (BitVec.ofNat._proof_1 8))⟩⟩⟩, ⟨⟨⟨8, (Nat.mod_lt 8 (BitVec.ofNat._proof_1 8))⟩⟩⟩, ⟨⟨⟨8, (Nat.mod_lt 8 (BitVec.ofNat._proof_1 8))⟩⟩⟩, ⟨⟨⟨8, (Nat.mod_lt 8 (BitVec.ofNat._proof_1 8))⟩⟩⟩, ⟨⟨⟨8, (Nat.mod_lt 8 (BitVec.ofNat._proof_1 8))⟩⟩⟩, ⟨⟨⟨8, (Nat.mod_lt 8 (BitVec.ofNat._proof_1 8))⟩⟩⟩, ⟨⟨⟨8, (Nat.mod_lt 8 (BitVec.ofNat._proof_1 8))⟩⟩⟩, ⟨⟨⟨8, (Nat.mod_lt 8 (BitVec.ofNat._proof_1 8))⟩⟩⟩, ⟨⟨⟨8, (Nat.mod_lt 8 (BitVec.ofNat._proof_1 8))⟩⟩⟩, ⟨⟨⟨8, (Nat.mod_lt 8 (BitVec.ofNat._proof_1 8))⟩⟩⟩, ⟨⟨⟨8, (Nat.mod_lt 8 (BitVec.ofNat._proof_1 8))⟩⟩⟩, ⟨⟨⟨8, (Nat.mod_lt 8 (BitVec.ofNat._proof_1 8))⟩⟩⟩, ⟨⟨⟨8, (Nat.mod_lt 8 (BitVec.ofNat._proof_1 8))⟩⟩⟩, ⟨⟨⟨8, (Nat.mod_lt 8 (BitVec.ofNat._proof_1 8))⟩⟩⟩, ⟨⟨⟨8, (Nat.mod_lt 8 (BitVec.ofNat._proof_1 8))⟩⟩⟩, ⟨⟨⟨8, (Nat.mod_lt 8 (BitVec.ofNat._proof_1 8))⟩⟩⟩, ⟨⟨⟨8, (Nat.mod_lt 8 (BitVec.ofNat._proof_1 8))⟩⟩⟩, ⟨⟨⟨8, (Nat.mod_lt 8 (BitVec.ofNat._proof_1 8))⟩⟩⟩, ⟨⟨⟨8, (Nat.mod_lt 8 (BitVec.ofNat._proof_1 8))⟩⟩⟩, ⟨⟨⟨8, (Nat.mod_lt 8 (BitVec.ofNat._proof_1 8))⟩⟩⟩, ⟨⟨⟨8, (Nat.mod_lt 8 (BitVec.ofNat._proof_1 8))⟩⟩⟩, ⟨⟨⟨8, (Nat.mod_lt 8 (BitVec.ofNat._proof_1 8))⟩⟩⟩, ⟨⟨⟨8, (Nat.mod_lt 8 (BitVec.ofNat._proof_1 8))⟩⟩⟩, ⟨⟨⟨8, (Nat.mod_lt 8 (BitVec.ofNat._proof_1 8))⟩⟩⟩, ⟨⟨⟨8, (Nat.mod_lt 8 (BitVec.ofNat._proof_1 8))⟩⟩⟩, ⟨⟨⟨8, (Nat.mod_lt 8 (BitVec.ofNat._proof_1 8))⟩⟩⟩, ⟨⟨⟨8, (Nat.mod_lt 8 (BitVec.ofNat._proof_1 8))⟩⟩⟩, ⟨⟨⟨8, (Nat.mod_lt 8 (BitVec.ofNat._proof_1 8))⟩⟩⟩, ⟨⟨⟨8, (Nat.mod_lt 8 (BitVec.ofNat._proof_1 8))⟩⟩⟩, ⟨⟨⟨8, (Nat.mod_lt 8 (BitVec.ofNat._proof_1 8))⟩⟩⟩, ⟨⟨⟨8, (Nat.mod_lt 8 (BitVec.ofNat._proof_1 8))⟩⟩⟩, ⟨⟨⟨8, (Nat.mod_lt 8 (BitVec.ofNat._proof_1 8))⟩⟩⟩, ⟨⟨⟨8, (Nat.mod_lt 8 (BitVec.ofNat._proof_1 8))⟩⟩⟩, ⟨⟨⟨8, (Nat.mod_lt 8 (BitVec.ofNat._proof_1 8))⟩⟩⟩, ⟨⟨⟨8, (Nat.mod_lt 8 (BitVec.ofNat._proof_1 8))⟩⟩⟩, ⟨⟨⟨8, (Nat.mod_lt 8 (BitVec.ofNat._proof_1 8))⟩⟩⟩, ⟨⟨⟨8, (Nat.mod_lt 8 (BitVec.ofNat._proof_1 8))⟩⟩⟩, ⟨⟨⟨8, (Nat.mod_lt 8 (BitVec.ofNat._proof_1 8))⟩⟩⟩, ⟨⟨⟨8, (Nat.mod_lt 8 (BitVec.ofNat._proof_1 8))⟩⟩⟩, ⟨⟨⟨8, (Nat.mod_lt 8 (BitVec.ofNat._proof_1 8))⟩⟩⟩, ⟨⟨⟨8, (Nat.mod_lt 8 (BitVec.ofNat._proof_1 8))⟩⟩⟩, ⟨⟨⟨8, (Nat.mod_lt 8 (BitVec.ofNat._proof_1 8))⟩⟩⟩, ⟨⟨⟨8, (Nat.mod_lt 8 (BitVec.ofNat._proof_1 8))⟩⟩⟩, ⟨⟨⟨8, (Nat.mod_lt 8 (BitVec.ofNat._proof_1 8))⟩⟩⟩, ⟨⟨⟨8, (Nat.mod_lt 8 (BitVec.ofNat._proof_1 8))⟩⟩⟩, ⟨⟨⟨8, (Nat.mod_lt 8 (BitVec.ofNat._proof_1 8))⟩⟩⟩, ⟨⟨⟨8, (Nat.mod_lt 8 (BitVec.ofNat._proof_1 8))⟩⟩⟩, ⟨⟨⟨8, (Nat.mod_lt 8 (BitVec.ofNat._proof_1 8))⟩⟩⟩, ⟨⟨⟨8, (Nat.mod_lt 8 (BitVec.ofNat._proof_1 8))⟩⟩⟩, ⟨⟨⟨8, (Nat.mod_lt 8 (BitVec.ofNat._proof_1 8))⟩⟩⟩, ⟨⟨⟨8, (Nat.mod_lt 8 (BitVec.ofNat._proof_1 8))⟩⟩⟩, ⟨⟨⟨8, (Nat.mod_lt 8 (BitVec.ofNat._proof_1 8))⟩⟩⟩, ⟨⟨⟨8, (Nat.mod_lt 8 (BitVec.ofNat._proof_1 8))⟩⟩⟩, ⟨⟨⟨8, (Nat.mod_lt 8 (BitVec.ofNat._proof_1 8))⟩⟩⟩, ⟨⟨⟨8, (Nat.mod_lt 8 (BitVec.ofNat._proof_1 8))⟩⟩⟩, ⟨⟨⟨8, (Nat.mod_lt 8 (BitVec.ofNat._proof_1 8))⟩⟩⟩, ⟨⟨⟨8, (Nat.mod_lt 8 (BitVec.ofNat._proof_1 8))⟩⟩⟩, ⟨⟨⟨8, (Nat.mod_lt 8 (BitVec.ofNat._proof_1 8))⟩⟩⟩, ⟨⟨⟨8, (Nat.mod_lt 8 (BitVec.ofNat._proof_1 8))⟩⟩⟩, ⟨⟨⟨8, (Nat.mod_lt 8 (BitVec.ofNat._proof_1 8))⟩⟩⟩, ⟨⟨⟨8, (Nat.mod_lt 8 (BitVec.ofNat._proof_1 8))⟩⟩⟩, ⟨⟨⟨8, (Nat.mod_lt 8 (BitVec.ofNat._proof_1 8))⟩⟩⟩, ⟨⟨⟨8, (Nat.mod_lt 8 (BitVec.ofNat._proof_1 8))⟩⟩⟩, ⟨⟨⟨8, (Nat.mod_lt 8 (BitVec.ofNat._proof_1 8))⟩⟩⟩, ⟨⟨⟨8, (Nat.mod_lt 8 (BitVec.ofNat._proof_1 8))⟩⟩⟩, ⟨⟨⟨8, (Nat.mod_lt 8 (BitVec.ofNat._proof_1 8))⟩⟩⟩, ⟨⟨⟨8, (Nat.mod_lt 8 (BitVec.ofNat._proof_1 8))⟩⟩⟩, ⟨⟨⟨8, (Nat.mod_lt 8 (BitVec.ofNat._proof_1 8))⟩⟩⟩, ⟨⟨⟨8, (Nat.mod_lt 8 (BitVec.ofNat._proof_1 8))⟩⟩⟩, ⟨⟨⟨8, (Nat.mod_lt 8 (BitVec.ofNat._proof_1 8))⟩⟩⟩, ⟨⟨⟨8, (Nat.mod_lt 8 (BitVec.ofNat._proof_1 8))⟩⟩⟩, ⟨⟨⟨8, (Nat.mod_lt 8 (BitVec.ofNat._proof_1 8))⟩⟩⟩, ⟨⟨⟨8, (Nat.mod_lt 8 (BitVec.ofNat._proof_1 8))⟩⟩⟩, ⟨⟨⟨8, (Nat.mod_lt 8 (BitVec.ofNat._proof_1 8))⟩⟩⟩, ⟨⟨⟨8, (Nat.mod_lt 8 (BitVec.ofNat._proof_1 8))⟩⟩⟩, ⟨⟨⟨8, (Nat.mod_lt 8 (BitVec.ofNat._proof_1 8))⟩⟩⟩, ⟨⟨⟨8, (Nat.mod_lt 8 (BitVec.ofNat._proof_1 8))⟩⟩⟩, ⟨⟨⟨8, (Nat.mod_lt 8 (BitVec.ofNat._proof_1 8))⟩⟩⟩, ⟨⟨⟨8, (Nat.mod_lt 8 (BitVec.ofNat._proof_1 8))⟩⟩⟩, ⟨⟨⟨8, (Nat.mod_lt 8 (BitVec.ofNat._proof_1 8))⟩⟩⟩, ⟨⟨⟨8, (Nat.mod_lt 8 (BitVec.ofNat._proof_1 8))⟩⟩⟩] (Int.toNat (IntKind.wrap .u8 (shrI .u32 x1 (8 : Int)))) ⟨⟨⟨0, (Nat.mod_lt 0 (BitVec.ofNat._proof_1 8))⟩⟩⟩)) : Nat) : Int)))) h1))
 else
 (((0 : Int) ≤ (IntKind.wrap .u8 x1) ∧ (IntKind.wrap .u8 x1) < (256 : Int)) ∧ Q (IntKind.wrap .i64 (n + (IntKind.wrap .i64 (((UInt8.toNat (List.getD [⟨⟨⟨0, (Nat.mod_lt 0 (BitVec.ofNat._proof_1 8))⟩⟩⟩, ⟨⟨⟨1, (Nat.mod_lt 1 (BitVec.ofNat._proof_1 8))⟩⟩⟩, ⟨⟨⟨2, (Nat.mod_lt 2 (BitVec.ofNat._proof_1 8))⟩⟩⟩, ⟨⟨⟨2, (Nat.mod_lt 2 (BitVec.ofNat._proof_1 8))⟩⟩⟩, ⟨⟨⟨3, (Nat.mod_lt 3 (BitVec.ofNat._proof_1 8))⟩⟩⟩, ⟨⟨⟨3, (Nat.mod_lt 3 (BitVec.ofNat._proof_1 8))⟩⟩⟩, ⟨⟨⟨3, (Nat.mod_lt 3 (BitVec.ofNat._proof_1 8))⟩⟩⟩, ⟨⟨⟨3, (Nat.mod_lt 3 (BitVec.ofNat._proof_1 8))⟩⟩⟩, ⟨⟨⟨4, (Nat.mod_lt 4 (BitVec.ofNat._proof_1 8))⟩⟩⟩, ⟨⟨⟨4, (Nat.mod_lt 4 (BitVec.ofNat._proof_1 8))⟩⟩⟩, ⟨⟨⟨4, (Nat.mod_lt 4 (BitVec.ofNat._proof_1 8))⟩⟩⟩, ⟨⟨⟨4, (Nat.mod_lt 4 (BitVec.ofNat._proof_1 8))⟩⟩⟩, ⟨⟨⟨4, (Nat.mod_lt 4 (BitVec.ofNat._proof_1 8))⟩⟩⟩, ⟨⟨⟨4, (Nat.mod_lt 4 (BitVec.ofNat._proof_1 8))⟩⟩⟩, ⟨⟨⟨4, (Nat.mod_lt 4 (BitVec.ofNat._proof_1 8))⟩⟩⟩, ⟨⟨⟨4, (Nat.mod_lt 4 (BitVec.ofNat._proof_1 8))⟩⟩⟩, ⟨⟨⟨5, (Nat.mod_lt 5 (BitVec.ofNat._proof_1 8))⟩⟩⟩, ⟨⟨⟨5, (Nat.mod_lt 5 (BitVec.ofNat._proof_1 8))⟩⟩⟩, ⟨⟨⟨5, (Nat.mod_lt 5 (BitVec.ofNat._proof_1 8))⟩⟩⟩, ⟨⟨⟨5, (Nat.mod_lt 5 (BitVec.ofNat._proof_1 8))⟩⟩⟩, ⟨⟨⟨5, (Nat.mod_lt 5 (BitVec.ofNat._proof_1 8))⟩⟩⟩, ⟨⟨⟨5, (Nat.mod_lt 5 (BitVec.ofNat._proof_1 8))⟩⟩⟩, ⟨⟨⟨5, (Nat.mod_lt 5 (BitVec.ofNat._proof_1 8))⟩⟩⟩, ⟨⟨⟨5, (Nat.mod_lt 5 (BitVec.ofNat._proof_1 8))⟩⟩⟩, ⟨⟨⟨5, (Nat.mod_lt 5 (BitVec.ofNat._proof_1 8))⟩⟩⟩, ⟨⟨⟨5, (Nat.mod_lt 5 (BitVec.ofNat._proof_1 8))⟩⟩⟩, ⟨⟨⟨5, (Nat.mod_lt 5 (BitVec.ofNat._proof_1 8))⟩⟩⟩, ⟨⟨⟨5, (Nat.mod_lt 5 (BitVec.ofNat._proof_1 8))⟩⟩⟩, ⟨⟨⟨5, (Nat.mod_lt 5 (BitVec.ofNat._proof_1 8))⟩⟩⟩, ⟨⟨⟨5, (Nat.mod_lt 5 (BitVec.ofNat._proof_1 8))⟩⟩⟩, ⟨⟨⟨5, (Nat.mod_lt 5 (BitVec.ofNat._proof_1 8))⟩⟩⟩, ⟨⟨⟨5, (Nat.mod_lt 5 (BitVec.ofNat._proof_1 8))⟩⟩⟩, ⟨⟨⟨6, (Nat.mod_lt 6 (BitVec.ofNat._proof_1 8))⟩⟩⟩, ⟨⟨⟨6, (Nat.mod_lt 6 (BitVec.ofNat._proof_1 8))⟩⟩⟩, ⟨⟨⟨6, (Nat.mod_lt 6 (BitVec.ofNat._proof_1 8))⟩⟩⟩, ⟨⟨⟨6, (Nat.mod_lt 6 (BitVec.ofNat._proof_1 8))⟩⟩⟩, ⟨⟨⟨6, (Nat.mod_lt 6 (BitVec.ofNat._proof_1 8))⟩⟩⟩, ⟨⟨⟨6, (Nat.mod_lt 6 (BitVec.ofNat._proof_1 8))⟩⟩⟩, ⟨⟨⟨6, (Nat.mod_lt 6 (BitVec.ofNat._proof_1 8))⟩⟩⟩, ⟨⟨⟨6, (Nat.mod_lt 6 (BitVec.ofNat._proof_1 8))⟩⟩⟩, ⟨⟨⟨6, (Nat.mod_lt 6 (BitVec.ofNat._proof_1 8))⟩⟩⟩, ⟨⟨⟨6, (Nat.mod_lt 6 (BitVec.ofNat._proof_1 8))⟩⟩⟩, ⟨⟨⟨6, (Nat.mod_lt 6 (BitVec.ofNat._proof_1 8))⟩⟩⟩, ⟨⟨⟨6, (Nat.mod_lt 6 (BitVec.ofNat._proof_1 8))⟩⟩⟩, ⟨⟨⟨6, (Nat.mod_lt 6 (BitVec.ofNat._proof_1 8))⟩⟩⟩, ⟨⟨⟨6, (Nat.mod_lt 6 (BitVec.ofNat._proof_1 8))⟩⟩⟩, ⟨⟨⟨6, (Nat.mod_lt 6 (BitVec.ofNat._proof_1 8))⟩⟩⟩, ⟨⟨⟨6, (Nat.mod_lt 6 (BitVec.ofNat._proof_1 8))⟩⟩⟩, ⟨⟨⟨6, (Nat.mod_lt 6 (BitVec.ofNat._proof_1 8))⟩⟩⟩, ⟨⟨⟨6, (Nat.mod_lt 6 (BitVec.ofNat._proof_1 8))⟩⟩⟩, ⟨⟨⟨6, (Nat.mod_lt 6 (BitVec.ofNat._proof_1 8))⟩⟩⟩, ⟨⟨⟨6, (Nat.mod_lt 6 (BitVec.ofNat._proof_1 8))⟩⟩⟩, ⟨⟨⟨6, (Nat.mod_lt 6 (BitVec.ofNat._proof_1 8))⟩⟩⟩, ⟨⟨⟨6, (Nat.mod_lt 6 (BitVec.ofNat._proof_1 8))⟩⟩⟩, ⟨⟨⟨6, (Nat.mod_lt 6 (BitVec.ofNat._proof_1 8))⟩⟩⟩, ⟨⟨⟨6, (Nat.mod_lt 6 (BitVec.ofNat._proof_1 8))⟩⟩⟩, ⟨⟨⟨6, (Nat.mod_lt 6 (BitVec.ofNat._proof_1 8))⟩⟩⟩, ⟨⟨⟨6, (Nat.mod_lt 6 (BitVec.ofNat._proof_1 8))⟩⟩⟩, ⟨⟨⟨6, (Nat.mod_lt 6 (BitVec.ofNat._proof_1 8))⟩⟩⟩, ⟨⟨⟨6, (Nat.mod_lt 6 (BitVec.ofNat._proof_1 8))⟩⟩⟩, ⟨⟨⟨6, (Nat.mod_lt 6 (BitVec.ofNat._proof_1 8))⟩⟩⟩, ⟨⟨⟨6, (Nat.mod_lt 6 (BitVec.ofNat._proof_1 8))⟩⟩⟩, ⟨⟨⟨6, (Nat.mod_lt 6 (BitVec.ofNat._proof_1 8))⟩⟩⟩, ⟨⟨⟨6, (Nat.mod_lt 6 (BitVec.ofNat._proof_1 8))⟩⟩⟩, ⟨⟨⟨7, (Nat.mod_lt 7 (BitVec.ofNat._proof_1 8))⟩⟩⟩, ⟨⟨⟨7, (Nat.mod_lt 7 (BitVec.ofNat._proof_1 8))⟩⟩⟩, ⟨⟨⟨7, (Nat.mod_lt 7 (BitVec.ofNat._proof_1 8))⟩⟩⟩, ⟨⟨⟨7, (Nat.mod_lt 7 (BitVec.ofNat._proof_1 8))⟩⟩⟩, ⟨⟨⟨7, (Nat.mod_lt 7 (BitVec.ofNat._proof_1 8))⟩⟩⟩, ⟨⟨⟨7, (Nat.mod_lt 7 (BitVec.ofNat._proof_1 8))⟩⟩⟩, ⟨⟨⟨7, (Nat.mod_lt 7 (BitVec.ofNat._proof_1 8))⟩⟩⟩, ⟨⟨⟨7, (Nat.mod_lt 7 (BitVec.ofNat._proof_1 8))⟩⟩⟩, ⟨⟨⟨7, (Nat.mod_lt 7 (BitVec.ofNat._proof_1 8))⟩⟩⟩, ⟨⟨⟨7, (Nat.mod_lt 7 (BitVec.ofNat._proof_1 8))⟩⟩⟩, ⟨⟨⟨7, (Nat.mod_lt 7 (BitVec.ofNat._proof_1 8))⟩⟩⟩, ⟨⟨⟨7, (Nat.mod_lt 7 (BitVec.ofNat._proof_1 8))⟩⟩⟩, ⟨⟨⟨7, (Nat.mod_lt 7 (BitVec.ofNat._proof_1 8))⟩⟩⟩, ⟨⟨⟨7, (Nat.mod_lt 7 (BitVec.ofNat._proof_1 8))⟩⟩⟩, ⟨⟨⟨7, (Nat.mod_lt 7 (BitVec.ofNat._proof_1 8))⟩⟩⟩, ⟨⟨⟨7, (Nat.mod_lt 7 (BitVec.ofNat._proof_1 8))⟩⟩⟩, ⟨⟨⟨7, (Nat.mod_lt 7 (BitVec.ofNat._proof_1 8))⟩⟩⟩, ⟨⟨⟨7, (Nat.mod_lt 7 (BitVec.ofNat._proof_1 8))⟩⟩⟩, ⟨⟨⟨7, (Nat.mod_lt 7 (BitVec.ofNat._proof_1 8))⟩⟩⟩, ⟨⟨⟨7, (Nat.mod_lt 7 (BitVec.ofNat._proof_1 8))⟩⟩⟩, ⟨⟨⟨7, (Nat.mod_lt 7 (BitVec.ofNat._proof_1 8))⟩⟩⟩, ⟨⟨⟨7, (Nat.mod_lt 7 (BitVec.ofNat._proof_1 8))⟩⟩⟩, ⟨⟨⟨7, (Nat.mod_lt 7 (BitVec.ofNat._proof_1 8))⟩⟩⟩, ⟨⟨⟨7, (Nat.mod_lt 7 (BitVec.ofNat._proof_1 8))⟩⟩⟩, ⟨⟨⟨7, (Nat.mod_lt 7 (BitVec.ofNat._proof_1 8))⟩⟩⟩, ⟨⟨⟨7, (Nat.mod_lt 7 (BitVec.ofNat._proof_1 8))⟩⟩⟩, ⟨⟨⟨7, (Nat.mod_lt 7 (BitVec.ofNat._proof_1 8))⟩⟩⟩, ⟨⟨⟨7, (Nat.mod_lt 7 (BitVec.ofNat._proof_1 8))⟩⟩⟩, ⟨⟨⟨7, (Nat.mod_lt 7 (BitVec.ofNat._proof_1 8))⟩⟩⟩, ⟨⟨⟨7, (Nat.mod_lt 7 (BitVec.ofNat._proof_1 8))⟩⟩⟩, ⟨⟨⟨7, (Nat.mod_lt 7 (BitVec.ofNat._proof_1 8))⟩⟩⟩, ⟨⟨⟨7, (Nat.mod_lt 7 (BitVec.ofNat._proof_1 8))⟩⟩⟩, ⟨⟨⟨7, (Nat.mod_lt 7 (BitVec.ofNat._proof_1 8))⟩⟩⟩, ⟨⟨⟨7, (Nat.mod_lt 7 (BitVec.ofNat._proof_1 8))⟩⟩⟩, ⟨⟨⟨7, (Nat.mod_lt 7 (BitVec.ofNat._proof_1 8))⟩⟩⟩, ⟨⟨⟨7, (Nat.mod_lt 7 (BitVec.ofNat._proof_1 8))⟩⟩⟩, ⟨⟨⟨7, (Nat.mod_lt 7 (BitVec.ofNat._proof_1 8))⟩⟩⟩, ⟨⟨⟨7, (Nat.mod_lt 7 (BitVec.ofNat._proof_1 8))⟩⟩⟩, ⟨⟨⟨7, (Nat.mod_lt 7 (BitVec.ofNat._proof_1 8))⟩⟩⟩, ⟨⟨⟨7, (Nat.mod_lt 7 (BitVec.ofNat._proof_1 8))⟩⟩⟩, ⟨⟨⟨7, (Nat.mod_lt 7 (BitVec.ofNat._proof_1 8))⟩⟩⟩, ⟨⟨⟨7, (Nat.mod_lt 7 (BitVec.ofNat._proof_1 8))⟩⟩⟩, ⟨⟨⟨7, (Nat.mod_lt 7 (BitVec.ofNat._proof_1 8))⟩⟩⟩, ⟨⟨⟨7, (Nat.mod_lt 7 (BitVec.ofNat._proof_1 8))⟩⟩⟩, ⟨⟨⟨7, (Nat.mod_lt 7 (BitVec.ofNat._proof_1 8))⟩⟩⟩, ⟨⟨⟨7, (Nat.mod_lt 7 (BitVec.ofNat._proof_1 8))⟩⟩⟩, ⟨⟨⟨7, (Nat.mod_lt 7 (BitVec.ofNat._proof_1 8))⟩⟩⟩, ⟨⟨⟨7, (Nat.mod_lt 7 (BitVec.ofNat._proof_1 8))⟩⟩⟩, ⟨⟨⟨7, (Nat.mod_lt 7 (BitVec.ofNat._proof_1 8))⟩⟩⟩, ⟨⟨⟨7, (Nat.mod_lt 7 (BitVec.ofNat._proof_1 8))⟩⟩⟩, ⟨⟨⟨7, (Nat.mod_lt 7 (BitVec.ofNat._proof_1 8))⟩⟩⟩, ⟨⟨⟨7, (Nat.mod_lt 7 (BitVec.ofNat._proof_1 8))⟩⟩⟩, ⟨⟨⟨7, (Nat.mod_lt 7 (BitVec.ofNat._proof_1 8))⟩⟩⟩, ⟨⟨⟨7, (Nat.mod_lt 7 (BitVec.ofNat._proof_1 8))⟩⟩⟩, ⟨⟨⟨7, (Nat.mod_lt 7 (BitVec.ofNat._proof_1 8))⟩⟩⟩, ⟨⟨⟨7, (Nat.mod_lt 7 (BitVec.ofNat._proof_1 8))⟩⟩⟩, ⟨⟨⟨7, (Nat.mod_lt 7 (BitVec.ofNat._proof_1 8))⟩⟩⟩, ⟨⟨⟨7, (Nat.mod_lt 7 (BitVec.ofNat._proof_1 8))⟩⟩⟩, ⟨⟨⟨7, (Nat.mod_lt 7 (BitVec.ofNat._proof_1 8))⟩⟩⟩, ⟨⟨⟨7, (Nat.mod_lt 7 (BitVec.ofNat._proof_1 8))⟩⟩⟩, ⟨⟨⟨7, (Nat.mod_lt 7 (BitVec.ofNat._proof_1 8))⟩⟩⟩, ⟨⟨⟨7, (Nat.mod_lt 7 (BitVec.ofNat._proof_1 8))⟩⟩⟩, ⟨⟨⟨7, (Nat.mod_lt 7 (BitVec.ofNat._proof_1 8))⟩⟩⟩, ⟨⟨⟨7, (Nat.mod_lt 7 (BitVec.ofNat._proof_1 8))⟩⟩⟩, ⟨⟨⟨8, (Nat.mod_lt 8 (BitVec.ofNat._proof_1 8))⟩⟩⟩, ⟨⟨⟨8, (Nat.mod_lt 8 (BitVec.ofNat._proof_1 8))⟩⟩⟩, ⟨⟨⟨8, (Nat.mod_lt 8 (BitVec.ofNat._proof_1 8))⟩⟩⟩, ⟨⟨⟨8, (Nat.mod_lt 8 (BitVec.ofNat._proof_1 8))⟩⟩⟩, ⟨⟨⟨8, (Nat.mod_lt 8 (BitVec.ofNat._proof_1 8))⟩⟩⟩, ⟨⟨⟨8, (Nat.mod_lt 8 (BitVec.ofNat._proof_1 8))⟩⟩⟩, ⟨⟨⟨8, (Nat.mod_lt 8 (BitVec.ofNat._proof_1 8))⟩⟩⟩, ⟨⟨⟨8, (Nat.mod_lt 8 (BitVec.ofNat._proof_1 8))⟩⟩⟩, ⟨⟨⟨8, (Nat.mod_lt 8 (BitVec.ofNat._proof_1 8))⟩⟩⟩, ⟨⟨⟨8, (Nat.mod_lt 8 (BitVec.ofNat._proof_1 8))⟩⟩⟩, ⟨⟨⟨8, (Nat.mod_lt 8 (BitVec.ofNat._proof_1 8))⟩⟩⟩, ⟨⟨⟨8, (Nat.mod_lt 8 (BitVec.ofNat._proof_1 8))⟩⟩⟩, ⟨⟨⟨8, (Nat.mod_lt 8 (BitVec.ofNat._proof_1 8))⟩⟩⟩, ⟨⟨⟨8, (Nat.mod_lt 8 (BitVec.ofNat._proof_1 8))⟩⟩⟩, ⟨⟨⟨8, (Nat.mod_lt 8 (BitVec.ofNat._proof_1 8))⟩⟩⟩, ⟨⟨⟨8, (Nat.mod_lt 8 (BitVec.ofNat._proof_1 8))⟩⟩⟩, ⟨⟨⟨8, (Nat.mod_lt 8 (BitVec.ofNat._proof_1 8))⟩⟩⟩, ⟨⟨⟨8, (Nat.mod_lt 8 (BitVec.ofNat._proof_1 8))⟩⟩⟩, ⟨⟨⟨8, (Nat.mod_lt 8 (BitVec.ofNat._proof_1 8))⟩⟩⟩, ⟨⟨⟨8, (Nat.mod_lt 8 (BitVec.ofNat._proof_1 8))⟩⟩⟩, ⟨⟨⟨8, (Nat.mod_lt 8 (BitVec.ofNat._proof_1 8))⟩⟩⟩, ⟨⟨⟨8, (Nat.mod_lt 8 (BitVec.ofNat._proof_1 8))⟩⟩⟩, ⟨⟨⟨8, (Nat.mod_lt 8 (BitVec.ofNat._proof_1 8))⟩⟩⟩, ⟨⟨⟨8, (Nat.mod_lt 8 (BitVec.ofNat._proof_1 8))⟩⟩⟩, ⟨⟨⟨8, (Nat.mod_lt 8 (BitVec.ofNat._proof_1 8))⟩⟩⟩, ⟨⟨⟨8, (Nat.mod_lt 8 (BitVec.ofNat._proof_1 8))⟩⟩⟩, ⟨⟨⟨8, (Nat.mod_lt 8 (BitVec.ofNat._proof_1 8))⟩⟩⟩, ⟨⟨⟨8, (Nat.mod_lt 8 (BitVec.ofNat._proof_1 8))⟩⟩⟩, ⟨⟨⟨8, (Nat.mod_lt 8 (BitVec.ofNat._proof_1 8))⟩⟩⟩, ⟨⟨⟨8, (Nat.mod_lt 8 (BitVec.ofNat._proof_1 8))⟩⟩⟩, ⟨⟨⟨8, (Nat.mod_lt 8 (BitVec.ofNat._proof_1 8))⟩⟩⟩, ⟨⟨⟨8, (Nat.mod_lt 8 (BitVec.ofNat._proof_1 8))⟩⟩⟩, ⟨⟨⟨8, (Nat.mod_lt 8 (BitVec.ofNat._proof_1 8))⟩⟩⟩, ⟨⟨⟨8, (Nat.mod_lt 8 (BitVec.ofNat._proof_1 8))⟩⟩⟩, ⟨⟨⟨8, (Nat.mod_lt 8 (BitVec.ofNat._proof_1 8))⟩⟩⟩, ⟨⟨⟨8, (Nat.mod_lt 8 (BitVec.ofNat._proof_1 8))⟩⟩⟩, ⟨⟨⟨8, (Nat.mod_lt 8 (BitVec.ofNat._proof_1 8))⟩⟩⟩, ⟨⟨⟨8, (Nat.mod_lt 8 (BitVec.ofNat._proof_1 8))⟩⟩⟩, ⟨⟨⟨8, (Nat.mod_lt 8 (BitVec.ofNat._proof_1 8))⟩⟩⟩, ⟨⟨⟨8, (Nat.mod_lt 8 (BitVec.ofNat._proof_1 8))⟩⟩⟩, ⟨⟨⟨8, (Nat.mod_lt 8 (BitVec.ofNat._proof_1 8))⟩⟩⟩, ⟨⟨⟨8, (Nat.mod_lt 8 (BitVec.ofNat._proof_1 8))⟩⟩⟩, ⟨⟨⟨8, (Nat.mod_lt 8 (BitVec.ofNat._proof_1 8))⟩⟩⟩, ⟨⟨⟨8, (Nat.mod_lt 8 (BitVec.ofNat._proof_1 8))⟩⟩⟩, ⟨⟨⟨8, (Nat.mod_lt 8 (BitVec.ofNat._proof_1 8))⟩⟩⟩, ⟨⟨⟨8, (Nat.mod_lt 8 (BitVec.ofNat._proof_1 8))⟩⟩⟩, ⟨⟨⟨8, (Nat.mod_lt 8 (BitVec.ofNat._proof_1 8))⟩⟩⟩, ⟨⟨⟨8, (Nat.mod_lt 8 (BitVec.ofNat._proof_1 8))⟩⟩⟩, ⟨⟨⟨8, (Nat.mod_lt 8 (BitVec.ofNat._proof_1 8))⟩⟩⟩, ⟨⟨⟨8, (Nat.mod_lt 8 (BitVec.ofNat._proof_1 8))⟩⟩⟩, ⟨⟨⟨8, (Nat.mod_lt 8 (BitVec.ofNat._proof_1 8))⟩⟩⟩, ⟨⟨⟨8, (Nat.mod_lt 8 (BitVec.ofNat._proof_1 8))⟩⟩⟩, ⟨⟨⟨8, (Nat.mod_lt 8 (BitVec.ofNat._proof_1 8))⟩⟩⟩, ⟨⟨⟨8, (Nat.mod_lt 8 (BitVec.ofNat._proof_1 8))⟩⟩⟩, ⟨⟨⟨8, (Nat.mod_lt 8 (BitVec.ofNat._proof_1 8))⟩⟩⟩, ⟨⟨⟨8, (Nat.mod_lt 8 (BitVec.ofNat._proof_1 8))⟩⟩⟩, ⟨⟨⟨8, (Nat.mod_lt 8 (BitVec.ofNat._proof_1 8))⟩⟩⟩, ⟨⟨⟨8, (Nat.mod_lt 8 (BitVec.ofNat._proof_1 8))⟩⟩⟩, ⟨⟨⟨8, (Nat.mod_lt 8 (BitVec.ofNat._proof_1 8))⟩⟩⟩, ⟨⟨⟨8, (Nat.mod_lt 8 (BitVec.ofNat._proof_1 8))⟩⟩⟩, ⟨⟨⟨8, (Nat.mod_lt 8 (BitVec.ofNat._proof_1 8))⟩⟩⟩, ⟨⟨⟨8, (Nat.mod_lt 8 (BitVec.ofNat._proof_1 8))⟩⟩⟩, ⟨⟨⟨8, (Nat.mod_lt 8 (BitVec.ofNat._proof_1 8))⟩⟩⟩, ⟨⟨⟨8, (Nat.mod_lt 8 (BitVec.ofNat._proof_1 8))⟩⟩⟩, ⟨⟨⟨8, (Nat.mod_lt 8 (BitVec.ofNat._proof_1 8))⟩⟩⟩, ⟨⟨⟨8, (Nat.mod_lt 8 (BitVec.ofNat._proof_1 8))⟩⟩⟩, ⟨⟨⟨8, (Nat.mod_lt 8 (BitVec.ofNat._proof_1 8))⟩⟩⟩, ⟨⟨⟨8, (Nat.mod_lt 8 (BitVec.ofNat._proof_1 8))⟩⟩⟩, ⟨⟨⟨8, (Nat.mod_lt 8 (BitVec.ofNat._proof_1 8))⟩⟩⟩, ⟨⟨⟨8, (Nat.mod_lt 8 (BitVec.ofNat._proof_1 8))⟩⟩⟩, ⟨⟨⟨8, (Nat.mod_lt 8 (BitVec.ofNat._proof_1 8))⟩⟩⟩, ⟨⟨⟨8, (Nat.mod_lt 8 (BitVec.ofNat._proof_1 8))⟩⟩⟩, ⟨⟨⟨8, (Nat.mod_lt 8 (BitVec.ofNat._proof_1 8))⟩⟩⟩, ⟨⟨⟨8, (Nat.mod_lt 8 (BitVec.ofNat._proof_1 8))⟩⟩⟩, ⟨⟨⟨8, (Nat.mod_lt 8 (BitVec.ofNat._proof_1 8))⟩⟩⟩, ⟨⟨⟨8, (Nat.mod_lt 8 (BitVec.ofNat._proof_1 8))⟩⟩⟩, ⟨⟨⟨8, (Nat.mod_lt 8 (BitVec.ofNat._proof_1 8))⟩⟩⟩, ⟨⟨⟨8, (Nat.mod_lt 8 (BitVec.ofNat._proof_1 8))⟩⟩⟩, ⟨⟨⟨8, (Nat.mod_lt 8 (BitVec.ofNat._proof_1 8))⟩⟩⟩, ⟨⟨⟨8, (Nat.mod_lt 8 (BitVec.ofNat._proof_1 8))⟩⟩⟩, ⟨⟨⟨8, (Nat.mod_lt 8 (BitVec.ofNat._proof_1 8))⟩⟩⟩, ⟨⟨⟨8, (Nat.mod_lt 8 (BitVec.ofNat._proof_1 8))⟩⟩⟩, ⟨⟨⟨8, (Nat.mod_lt 8 (BitVec.ofNat._proof_1 8))⟩⟩⟩, ⟨⟨⟨8, (Nat.mod_lt 8 (BitVec.ofNat._proof_1 8))⟩⟩⟩, ⟨⟨⟨8, (Nat.mod_lt 8 (BitVec.ofNat._proof_1 8))⟩⟩⟩, ⟨⟨⟨8, (Nat.mod_lt 8 (BitVec.ofNat._proof_1 8))⟩⟩⟩, ⟨⟨⟨8, (Nat.mod_lt 8 (BitVec.ofNat._proof_1 8))⟩⟩⟩, ⟨⟨⟨8, (Nat.mod_lt 8 (BitVec.ofNat._proof_1 8))⟩⟩⟩, ⟨⟨⟨8, (Nat.mod_lt 8 (BitVec.ofNat._proof_1 8))⟩⟩⟩, ⟨⟨⟨8, (Nat.mod_lt 8 (BitVec.ofNat._proof_1 8))⟩⟩⟩, ⟨⟨⟨8, (Nat.mod_lt 8 (BitVec.ofNat._proof_1 8))⟩⟩⟩, ⟨⟨⟨8, (Nat.mod_lt 8 (BitVec.ofNat._proof_1 8))⟩⟩⟩, ⟨⟨⟨8, (Nat.mod_lt 8 (BitVec.ofNat._proof_1 8))⟩⟩⟩, ⟨⟨⟨8, (Nat.mod_lt 8 (BitVec.ofNat._proof_1 8))⟩⟩⟩, ⟨⟨⟨8, (Nat.mod_lt 8 (BitVec.ofNat._proof_1 8))⟩⟩⟩, ⟨⟨⟨8, (Nat.mod_lt 8 (BitVec.ofNat._proof_1 8))⟩⟩⟩, ⟨⟨⟨8, (Nat.mod_lt 8 (BitVec.ofNat._proof_1 8))⟩⟩⟩, ⟨⟨⟨8, (Nat.mod_lt 8 (BitVec.ofNat._proof_1 8))⟩⟩⟩, ⟨⟨⟨8, (Nat.mod_lt 8 (BitVec.ofNat._proof_1 8))⟩⟩⟩, ⟨⟨⟨8, (Nat.mod_lt 8 (BitVec.ofNat._proof_1 8))⟩⟩⟩, ⟨⟨⟨8, (Nat.mod_lt 8 (BitVec.ofNat._proof_1 8))⟩⟩⟩, ⟨⟨⟨8, (Nat.mod_lt 8 (BitVec.ofNat._proof_1 8))⟩⟩⟩, ⟨⟨⟨8, (Nat.mod_lt 8 (BitVec.ofNat._proof_1 8))⟩⟩⟩, ⟨⟨⟨8, (Nat.mod_lt 8 (BitVec.ofNat._proof_1 8))⟩⟩⟩, ⟨⟨⟨8, (Nat.mod_lt 8 (BitVec.ofNat._proof_1 8))⟩⟩⟩, ⟨⟨⟨8, (Nat.mod_lt 8 (BitVec.ofNat._proof_1 8))⟩⟩⟩, ⟨⟨⟨8, (Nat.mod_lt 8 (BitVec.ofNat._proof_1 8))⟩⟩⟩, ⟨⟨⟨8, (Nat.mod_lt 8 (BitVec.ofNat._proof_1 8))⟩⟩⟩, ⟨⟨⟨8, (Nat.mod_lt 8 (BitVec.ofNat._proof_1 8))⟩⟩⟩, ⟨⟨⟨8, (Nat.mod_lt 8 (BitVec.ofNat._proof_1 8))⟩⟩⟩, ⟨⟨⟨8, (Nat.mod_lt 8 (BitVec.ofNat._proof_1 8))⟩⟩⟩, ⟨⟨⟨8, (Nat.mod_lt 8 (BitVec.ofNat._proof_1 8))⟩⟩⟩, ⟨⟨⟨8, (Nat.mod_lt 8 (BitVec.ofNat._proof_1 8))⟩⟩⟩, ⟨⟨⟨8, (Nat.mod_lt 8 (BitVec.ofNat._proof_1 8))⟩⟩⟩, ⟨⟨⟨8, (Nat.mod_lt 8 (BitVec.ofNat._proof_1 8))⟩⟩⟩, ⟨⟨⟨8, (Nat.mod_lt 8 (BitVec.ofNat._proof_1 8))⟩⟩⟩, ⟨⟨⟨8, (Nat.mod_lt 8 (BitVec.ofNat._proof_1 8))⟩⟩⟩, ⟨⟨⟨8, (Nat.mod_lt 8 (BitVec.ofNat._proof_1 8))⟩⟩⟩, ⟨⟨⟨8, (Nat.mod_lt 8 (BitVec.ofNat._proof_1 8))⟩⟩⟩, ⟨⟨⟨8, (Nat.mod_lt 8 (BitVec.ofNat._proof_1 8))⟩⟩⟩, ⟨⟨⟨8, (Nat.mod_lt 8 (BitVec.ofNat._proof_1 8))⟩⟩⟩, ⟨⟨⟨8, (Nat.mod_lt 8 (BitVec.ofNat._proof_1 8))⟩⟩⟩, ⟨⟨⟨8, (Nat.mod_lt 8 (BitVec.ofNat._proof_1 8))⟩⟩⟩, ⟨⟨⟨8, (Nat.mod_lt 8 (BitVec.ofNat._proof_1 8))⟩⟩⟩, ⟨⟨⟨8, (Nat.mod_lt 8 (BitVec.ofNat._proof_1 8))⟩⟩⟩, ⟨⟨⟨8, (Nat.mod_lt 8 (BitVec.ofNat._proof_1 8))⟩⟩⟩, ⟨⟨⟨8, (Nat.mod_lt 8 (BitVec.ofNat._proof_1 8))⟩⟩⟩, ⟨⟨⟨8, (Nat.mod_lt 8 (BitVec.ofNat._proof_1 8))⟩⟩⟩] (Int.toNat (IntKind.wrap .u8 x1)) ⟨⟨⟨0, (Nat.mod_lt 0 (BitVec.ofNat._proof_1 8))⟩⟩⟩)) : Nat) : Int)))) h1)))

def math_bits_Len64_w (P : Program) (x : Int) (Q : (Int → (Hp → Prop))) (h : Hp) : Prop :=
 JoinW2 (α1 := Int) (α2 := Int) (fun k =>
 (if (decide (x ≥ (4294967296 : Int))) = true then
 ((0 : Int) ≤ (32 : Int) ∧ k (shrI .u64 x (32 : Int)) (32 : Int) h)
 else
 k x (0 : Int) h))
 (fun x1 n h1 =>
 JoinW2 (α1 := Int) (α2 := Int) (fun k =>
 (if (decide (x1 ≥ (65536 : Int))) = true then
 ((0 : Int) ≤ (16 : Int) ∧ k (shrI .u64 x1 (16 : Int)) (IntKind.wrap .i64 (n + (16 : Int))) h1)
 else
 k x1 n h1))
 (fun x2 n1 h2 =>
 (if (decide (x2 ≥ (256 : Int))) = true then
 ((0 : Int) ≤ (8 : Int) ∧ (((0 : Int) ≤ (IntKind.wrap .u8 (shrI .u64 x2 (8 : Int))) ∧ (IntKind.wrap .u8 (shrI .u64 x2 (8 : Int))) < (256 : Int)) ∧ Q (IntKind.wrap .i64 ((IntKind.wrap .i64 (n1 + (8 : Int))) + (IntKind.wrap .i64 (((UInt8.toNat (List.getD [⟨⟨⟨0, (Nat.mod_lt 0 (BitVec.ofNat._proof_1 8))⟩⟩⟩, ⟨⟨⟨1, (Nat.mod_lt 1 (BitVec.ofNat._proof_1 8))⟩⟩⟩, ⟨⟨⟨2, (Nat.mod_lt 2 (BitVec.ofNat._proof_1 8))⟩⟩⟩, ⟨⟨⟨2, (Nat.mod_lt 2 (BitVec.ofNat._proof_1 8))⟩⟩⟩, ⟨⟨⟨3, (Nat.mod_lt 3 (BitVec.ofNat._proof_1 8))⟩⟩⟩, ⟨⟨⟨3, (Nat.mod_lt 3 (BitVec.ofNat._proof_1 8))⟩⟩⟩, ⟨⟨⟨3, (Nat.mod_lt 3 (BitVec.ofNat._proof_1 8))⟩⟩⟩, ⟨⟨⟨3, (Nat.mod_lt 3 (BitVec.ofNat._proof_1 8))⟩⟩⟩, ⟨⟨⟨4, (Nat.mod_lt 4 (BitVec.ofNat._proof_1 8))⟩⟩⟩, ⟨⟨⟨4, (Nat.mod_lt 4 (BitVec.ofNat._proof_1 8))⟩⟩⟩, ⟨⟨⟨4, (Nat.mod_lt 4 (BitVec.ofNat._proof_1 8))⟩⟩⟩, ⟨⟨⟨4, (Nat.mod_lt 4 (BitVec.ofNat._proof_1 8))⟩⟩⟩, ⟨⟨⟨4, (Nat.mod_lt 4 (BitVec.ofNat._proof_1 8))⟩⟩⟩, ⟨⟨⟨4, (Nat.mod_lt 4 (BitVec.ofNat._proof_1 8))⟩⟩⟩, ⟨⟨⟨4, (Nat.mod_lt 4 (BitVec.ofNat._proof_1 8))⟩⟩⟩, ⟨⟨⟨4, (Nat.mod_lt 4 (BitVec.ofNat._proof_1 8))⟩⟩⟩, ⟨⟨⟨5, (Nat.mod_lt 5 (BitVec.ofNat._proof_1 8))⟩⟩⟩, ⟨⟨⟨5, (Nat.mod_lt 5 (BitVec.ofNat._proof_1 8))⟩⟩⟩, ⟨⟨⟨5, (Nat.mod_lt 5 (BitVec.ofNat._proof_1 8))⟩⟩⟩, ⟨⟨⟨5, (Nat.mod_lt 5 (BitVec.ofNat._proof_1 8))⟩⟩⟩, ⟨⟨⟨5, (Nat.mod_lt 5 (BitVec.ofNat._proof_1 8))⟩⟩⟩, ⟨⟨⟨5, (Nat.mod_lt 5 (BitVec.ofNat._proof_1 8))⟩⟩⟩, ⟨⟨⟨5, (Nat.mod_lt 5 (BitVec.ofNat._proof_1 8))⟩⟩⟩, ⟨⟨⟨5, (Nat.mod_lt 5 (BitVec.ofNat._proof_1 8))⟩⟩⟩, ⟨⟨⟨5, (Nat.mod_lt 5 (BitVec.ofNat._proof_1 8))⟩⟩⟩, ⟨⟨⟨5, (Nat.mod_lt 5 (BitVec.ofNat._proof_1 8))⟩⟩⟩, ⟨⟨⟨5, (Nat.mod_lt 5 (BitVec.ofNat._proof_1 8))⟩⟩⟩, ⟨⟨⟨5, (Nat.mod_lt 5 (BitVec.ofNat._proof_1 8))⟩⟩⟩, ⟨⟨⟨5, (Nat.mod_lt 5 (BitVec.ofNat._proof_1 8))⟩⟩⟩, ⟨⟨⟨5, (Nat.mod_lt 5 (BitVec.ofNat._proof_1 8))⟩⟩⟩, ⟨⟨⟨5, (Nat.mod_lt 5 (BitVec.ofNat._proof_1 8))⟩⟩⟩, ⟨⟨⟨5, (Nat.mod_lt 5 (BitVec.ofNat._proof_1 8))⟩⟩⟩, ⟨⟨⟨6, (Nat.mod_lt 6 (BitVec.ofNat._proof_1 8))⟩⟩⟩, ⟨⟨⟨6, (Nat.mod_lt 6 (BitVec.ofNat._proof_1 8))⟩⟩⟩, ⟨⟨⟨6, (Nat.mod_lt 6 (BitVec.ofNat._proof_1 8))⟩⟩⟩, ⟨⟨⟨6, (Nat.mod_lt 6 (BitVec.ofNat._proof_1 8))⟩⟩⟩, ⟨⟨⟨6, (Nat.mod_lt 6 (BitVec.ofNat._proof_1 8))⟩⟩⟩, ⟨⟨⟨6, (Nat.mod_lt 6 (BitVec.ofNat._proof_1 8))⟩⟩⟩, ⟨⟨⟨6, (Nat.mod_lt 6 (BitVec.ofNat._proof_1 8))⟩⟩⟩, ⟨⟨⟨6, (Nat.mod_lt 6 (BitVec.ofNat._proof_1 8))⟩⟩⟩, ⟨⟨⟨6, (Nat.mod_lt 6 (BitVec.ofNat._proof_1 8))⟩⟩⟩, ⟨⟨⟨6, (Nat.mod_lt 6 (BitVec.ofNat._proof_1 8))⟩⟩⟩, ⟨⟨⟨6, (Nat.mod_lt 6 (BitVec.ofNat._proof_1 8))⟩⟩⟩, ⟨⟨⟨6, (Nat.mod_lt 6 (BitVec.ofNat._proof_1 8))⟩⟩⟩, ⟨⟨⟨6, (Nat.mod_lt 6 (BitVec.ofNat._proof_1 8))⟩⟩⟩, ⟨⟨⟨6, (Nat.mod_lt 6 (BitVec.ofNat._proof_1 8))⟩⟩⟩, ⟨⟨⟨6, (Nat.mod_lt 6 (BitVec.ofNat._proof_1 8))⟩⟩⟩, ⟨⟨⟨6, (Nat.mod_lt 6 (BitVec.ofNat._proof_1 8))⟩⟩⟩, ⟨⟨⟨6, (Nat.mod_lt 6 (BitVec.ofNat._proof_1 8))⟩⟩⟩, ⟨⟨⟨6, (Nat.mod_lt 6 (BitVec.ofNat._proof_1 8))⟩⟩⟩, ⟨⟨⟨6, (Nat.mod_lt 6 (BitVec.ofNat._proof_1 8))⟩⟩⟩, ⟨⟨⟨6, (Nat.mod_lt 6 (BitVec.ofNat._proof_1 8))⟩⟩⟩, ⟨⟨⟨6, (Nat.mod_lt 6 (BitVec.ofNat._proof_1 8))⟩⟩⟩, ⟨⟨⟨6, (Nat.mod_lt 6 (BitVec.ofNat._proof_1 8))⟩⟩⟩, ⟨⟨⟨6, (Nat.mod_lt 6 (BitVec.ofNat._proof_1 8))⟩⟩⟩, ⟨⟨⟨6, (Nat.mod_lt 6 (BitVec.ofNat._proof_1 8))⟩⟩⟩, ⟨⟨⟨6, (Nat.mod_lt 6 (BitVec.ofNat._proof_1 8))⟩⟩⟩, ⟨⟨⟨6, (Nat.mod_lt 6 (BitVec.ofNat._proof_1 8))⟩⟩⟩, ⟨⟨⟨6, (Nat.mod_lt 6 (BitVec.ofNat._proof_1 8))⟩⟩⟩, ⟨⟨⟨6, (Nat.mod_lt 6 (BitVec.ofNat._proof_1 8))⟩⟩⟩, ⟨⟨⟨6, (Nat.mod_lt 6 (BitVec.ofNat._proof_1 8))⟩⟩⟩, ⟨⟨⟨6, (Nat.mod_lt 6 (BitVec.ofNat._proof_1 8))⟩⟩⟩, ⟨⟨⟨6, (Nat.mod_lt 6 (BitVec.ofNat._proof_1 8))⟩⟩⟩, ⟨⟨⟨6, (Nat.mod_lt 6 (BitVec.ofNat._proof_1 8))⟩⟩⟩, ⟨⟨⟨7, (Nat.mod_lt 7 (BitVec.ofNat._proof_1 8))⟩⟩⟩, ⟨⟨⟨7, (Nat.mod_lt 7 (BitVec.ofNat._proof_1 8))⟩⟩⟩, ⟨⟨⟨7, (Nat.mod_lt 7 (BitVec.ofNat._proof_1 8))⟩⟩⟩, ⟨⟨⟨7, (Nat.mod_lt 7 (BitVec.ofNat._proof_1 8))⟩⟩⟩, ⟨⟨⟨7, (Nat.mod_lt 7 (BitVec.ofNat._proof_1 8))⟩⟩⟩, ⟨⟨⟨7, (Nat.mod_lt 7 (BitVec.ofNat._proof_1 8))⟩⟩⟩, ⟨⟨⟨7, (Nat.mod_lt 7 (BitVec.ofNat._proof_1 8))⟩⟩⟩, ⟨⟨⟨7, (Nat.mod_lt 7 (BitVec.ofNat._proof_1 8))⟩⟩⟩, ⟨⟨⟨7, (Nat.mod_lt 7 (BitVec.ofNat._proof_1 8))⟩⟩⟩, ⟨⟨⟨7, (Nat.mod_lt 7 (BitVec.ofNat._proof_1 8))⟩⟩⟩, ⟨⟨⟨7, (Nat.mod_lt 7 (BitVec.ofNat._proof_1 8))⟩⟩⟩, ⟨⟨⟨7, (Nat.mod_lt 7 (BitVec.ofNat._proof_1 8))⟩⟩⟩, ⟨⟨⟨7, (Nat.mod_lt 7 (BitVec.ofNat._proof_1 8))⟩⟩⟩, ⟨⟨⟨7, (Nat.mod_lt 7 (BitVec.ofNat._proof_1 8))⟩⟩⟩, ⟨⟨⟨7, (Nat.mod_lt 7 (BitVec.ofNat._proof_1 8))⟩⟩⟩, ⟨⟨⟨7, (Nat.mod_lt 7 (BitVec.ofNat._proof_1 8))⟩⟩⟩, ⟨⟨⟨7, (Nat.mod_lt 7 (BitVec.ofNat._proof_1 8))⟩⟩⟩, ⟨⟨⟨7, (Nat.mod_lt 7 (BitVec.ofNat._proof_1 8))⟩⟩⟩, ⟨⟨⟨7, (Nat.mod_lt 7 (BitVec.ofNat._proof_1 8))⟩⟩⟩, ⟨⟨⟨7, (Nat.mod_lt 7 (BitVec.ofNat._proof_1 8))⟩⟩⟩, ⟨⟨⟨7, (Nat.mod_lt 7 (BitVec.ofNat._proof_1 8))⟩⟩⟩, ⟨⟨⟨7, (Nat.mod_lt 7 (BitVec.ofNat._proof_1 8))⟩⟩⟩, ⟨⟨⟨7, (Nat.mod_lt 7 (BitVec.ofNat._proof_1 8))⟩⟩⟩, ⟨⟨⟨7, (Nat.mod_lt 7 (BitVec.ofNat._proof_1 8))⟩⟩⟩, ⟨⟨⟨7, (Nat.mod_lt 7 (BitVec.ofNat._proof_1 8))⟩⟩⟩, ⟨⟨⟨7, (Nat.mod_lt 7 (BitVec.ofNat._proof_1 8))⟩⟩⟩, ⟨⟨⟨7, (Nat.mod_lt 7 (BitVec.ofNat._proof_1 8))⟩⟩⟩, ⟨⟨⟨7, (Nat.mod_lt 7 (BitVec.ofNat._proof_1 8))⟩⟩⟩, ⟨⟨⟨7, (Nat.mod_lt 7 (BitVec.ofNat._proof_1 8))⟩⟩⟩, ⟨⟨⟨7, (Nat.mod_lt 7 (BitVec.ofNat._proof_1 8))⟩⟩⟩, ⟨⟨⟨7, (Nat.mod_lt 7 (BitVec.ofNat._proof_1 8))⟩⟩⟩, ⟨⟨⟨7, (Nat.mod_lt 7 (BitVec.ofNat._proof_1 8))⟩⟩⟩, ⟨⟨⟨7, (Nat.mod_lt 7 (BitVec.ofNat._proof_1 8))⟩⟩⟩, ⟨⟨⟨7, (Nat.mod_lt 7 (BitVec.ofNat._proof_1 8))⟩⟩⟩, ⟨⟨⟨7, (Nat.mod_lt 7 (BitVec.ofNat._proof_1 8))⟩⟩⟩, ⟨⟨⟨7, (Nat.mod_lt 7 (BitVec.ofNat._proof_1 8))⟩⟩⟩, ⟨⟨⟨7, (Nat.mod_lt 7 (BitVec.ofNat._proof_1 8))⟩⟩⟩, ⟨⟨⟨7, (Nat.mod_lt 7 (BitVec.ofNat._proof_1 8))⟩⟩⟩, ⟨⟨⟨7, (Nat.mod_lt 7 (BitVec.ofNat._proof_1 8))⟩⟩⟩, ⟨⟨⟨7, (Nat.mod_lt 7 (BitVec.ofNat._proof_1 8))⟩⟩⟩, ⟨⟨⟨7, (Nat.mod_lt 7 (BitVec.ofNat._proof_1 8))⟩⟩⟩, ⟨⟨⟨7, (Nat.mod_lt 7 (BitVec.ofNat._proof_1 8))⟩⟩⟩, ⟨⟨⟨7, (Nat.mod_lt 7 (BitVec.ofNat._proof_1 8))⟩⟩⟩, ⟨⟨⟨7, (Nat.mod_lt 7 (BitVec.ofNat._proof_1 8))⟩⟩⟩, ⟨⟨⟨7, (Nat.mod_lt 7 (BitVec.ofNat._proof_1 8))⟩⟩⟩, ⟨⟨⟨7, (Nat.mod_lt 7 (BitVec.ofNat._proof_1 8))⟩⟩⟩, ⟨⟨⟨7, (Nat.mod_lt 7 (BitVec.ofNat._proof_1 8))⟩⟩⟩, ⟨⟨⟨7, (Nat.mod_lt 7 (BitVec.ofNat._proof_1 8))⟩⟩⟩, ⟨⟨⟨7, (Nat.mod_lt 7 (BitVec.ofNat._proof_1 8))⟩⟩⟩, ⟨⟨⟨7, (Nat.mod_lt 7 (BitVec.ofNat._proof_1 8))⟩⟩⟩, ⟨⟨⟨7, (Nat.mod_lt 7 (BitVec.ofNat._proof_1 8))⟩⟩⟩, ⟨⟨⟨7, (Nat.mod_lt 7 (BitVec.ofNat._proof_1 8))⟩⟩⟩, ⟨⟨⟨7, (Nat.mod_lt 7 (BitVec.ofNat._proof_1 8))⟩⟩⟩, ⟨⟨⟨7, (Nat.mod_lt 7 (BitVec.ofNat._proof_1 8))⟩⟩⟩, ⟨⟨⟨7, (Nat.mod_lt 7 (BitVec.ofNat._proof_1 8))⟩⟩⟩, ⟨⟨⟨7, (Nat.mod_lt 7 (BitVec.ofNat._proof_1 8))⟩⟩⟩, ⟨⟨⟨7, (Nat.mod_lt 7 (BitVec.ofNat._proof_1 8))⟩⟩⟩, ⟨⟨⟨7, (Nat.mod_lt 7 (BitVec.ofNat._proof_1 8))⟩⟩⟩, ⟨⟨⟨7, (Nat.mod_lt 7 (BitVec.ofNat._proof_1 8))⟩⟩⟩, ⟨⟨⟨7, (Nat.mod_lt 7 (BitVec.ofNat._proof_1 8))⟩⟩⟩, ⟨⟨⟨7, (Nat.mod_lt 7 (BitVec.ofNat._proof_1 8))⟩⟩⟩, ⟨⟨⟨7, (Nat.mod_lt 7 (BitVec.ofNat._proof_1 8))⟩⟩⟩, ⟨⟨⟨7, (Nat.mod_lt 7 (BitVec.ofNat._proof_1 8))⟩⟩⟩, ⟨⟨⟨7, (Nat.mod_lt 7 (BitVec.ofNat._proof_1 8))⟩⟩⟩, ⟨⟨⟨8, (Nat.mod_lt 8 (BitVec.ofNat._proof_1 8))⟩⟩⟩, ⟨⟨⟨8, (Nat.mod_lt 8 (BitVec.ofNat._proof_1 8))⟩⟩⟩, ⟨⟨⟨8, (Nat.mod_lt 8 (BitVec.ofNat._proof_1 8))⟩⟩⟩, ⟨⟨⟨8, (Nat.mod_lt 8 (BitVec.ofNat._proof_1 8))⟩⟩⟩, ⟨⟨⟨8, (Nat.mod_lt 8 (BitVec.ofNat._proof_1 8))⟩⟩⟩, ⟨⟨⟨8, (Nat.mod_lt 8 (BitVec.ofNat._proof_1 8))⟩⟩⟩, ⟨⟨⟨8, (Nat.mod_lt 8 (BitVec.ofNat._proof_1 8))⟩⟩⟩, ⟨⟨⟨8, (Nat.mod_lt 8 (BitVec.ofNat._proof_1 8))⟩⟩⟩, ⟨⟨⟨8, (Nat.mod_lt 8 (BitVec.ofNat._proof_1 8))⟩⟩⟩, ⟨⟨⟨8, (Nat.mod_lt 8 (BitVec.ofNat._proof_1 8))⟩⟩⟩, ⟨⟨⟨8, (Nat.mod_lt 8 (BitVec.ofNat._proof_1 8))⟩⟩⟩, ⟨⟨⟨8, (Nat.mod_lt 8 (BitVec.ofNat._proof_1 8))⟩⟩⟩, ⟨⟨⟨8, (Nat.mod_lt 8 (BitVec.ofNat._proof_1 8))⟩⟩⟩, ⟨⟨⟨8, (Nat.mod_lt 8 (BitVec.ofNat._proof_1 8))⟩⟩⟩, ⟨⟨⟨8, (Nat.mod_lt 8 (BitVec.ofNat._proof_1 8))⟩⟩⟩, ⟨⟨⟨8, (Nat.mod_lt 8 (BitVec.ofNat._proof_1 8))⟩⟩⟩, ⟨⟨⟨8, (Nat.mod_lt 8 (BitVec.ofNat._proof_1 8))⟩⟩⟩, ⟨⟨⟨8, (Nat.mod_lt 8 (BitVec.ofNat._proof_1 8))⟩⟩⟩, ⟨⟨⟨8, (Nat.mod_lt 8 (BitVec.ofNat._proof_1 8))⟩⟩⟩, ⟨⟨⟨8, (Nat.mod_lt 8 (BitVec.ofNat._proof_1 8))⟩⟩⟩, ⟨⟨⟨8, (Nat.mod_lt 8 (BitVec.ofNat._proof_1 8))⟩⟩⟩, ⟨⟨⟨8, (Nat.mod_lt 8 (BitVec.ofNat._proof_1 8))⟩⟩⟩, ⟨⟨⟨8, (Nat.mod_lt 8 (BitVec.ofNat._proof_1 8))⟩⟩⟩, ⟨⟨⟨8, (Nat.mod_lt 8 (BitVec.ofNat._proof_1 8))⟩⟩⟩, ⟨⟨⟨8, (Nat.mod_lt 8 (BitVec.ofNat._proof_1 8))⟩⟩⟩, ⟨⟨⟨8, (Nat.mod_lt 8 (BitVec.ofNat._proof_1 8))⟩⟩⟩, ⟨⟨⟨8, (Nat.mod_lt 8 (BitVec.ofNat._proof_1 8))⟩⟩⟩, ⟨⟨⟨8, (Nat.mod_lt 8 (BitVec.ofNat._proof_1 8))⟩⟩⟩, ⟨⟨⟨8, (Nat.mod_lt 8 (BitVec.ofNat._proof_1 8))⟩⟩⟩, ⟨⟨⟨8, (Nat.mod_lt 8 (BitVec.ofNat._proof_1 8))⟩⟩⟩, ⟨⟨⟨8, (Nat.mod_lt 8 (BitVec.ofNat._proof_1 8))⟩⟩⟩, ⟨⟨⟨8, (Nat.mod_lt 8 (BitVec.ofNat._proof_1 8))⟩⟩⟩, ⟨⟨⟨8, (Nat.mod_lt 8 (BitVec.ofNat._proof_1 8))⟩⟩⟩, ⟨⟨⟨8, (Nat.mod_lt 8 (BitVec.ofNat._proof_1 8))⟩⟩⟩, ⟨⟨⟨8, (Nat.mod_lt 8 (BitVec.ofNat._proof_1 8))⟩⟩⟩, ⟨⟨⟨8, (Nat.mod_lt 8 (BitVec.ofNat._proof_1 8))⟩⟩⟩, ⟨⟨⟨8, (Nat.mod_lt 8 (BitVec.ofNat._proof_1 8))⟩⟩⟩, ⟨⟨⟨8, (Nat.mod_lt 8 (BitVec.ofNat._proof_1 8))⟩⟩⟩, ⟨⟨⟨8, (Nat.mod_lt 8 (BitVec.ofNat._proof_1 8))⟩⟩⟩, ⟨⟨⟨8, (Nat.mod_lt 8 (BitVec.ofNat._proof_1 8))⟩⟩⟩, ⟨⟨⟨8, (Nat.mod_lt 8 (BitVec.ofNat._proof_1 8))⟩⟩⟩, ⟨⟨⟨8, (Nat.mod_lt 8 (BitVec.ofNat._proof_1 8))⟩⟩⟩, ⟨⟨⟨8, (Nat.mod_lt 8 (BitVec.ofNat._proof_1 8))⟩⟩⟩, ⟨⟨⟨8, (Nat.mod_lt 8 (BitVec.ofNat._proof_1 8))⟩⟩⟩, ⟨⟨⟨8, (Nat.mod_lt 8 (BitVec.ofNat._proof_1 8))⟩⟩⟩, ⟨⟨⟨8, (Nat.mod_lt 8 (BitVec.ofNat._proof_1 8))⟩⟩⟩, ⟨⟨⟨8, (Nat.mod_lt 8 (BitVec.ofNat._proof_1 8))⟩⟩⟩, ⟨⟨⟨8, (Nat.mod_lt 8 (BitVec.ofNat._proof_1 8))⟩⟩⟩, ⟨⟨⟨8, (Nat.mod_lt 8 (BitVec.ofNat._proof_1 8))⟩⟩⟩, ⟨⟨⟨8, (Nat.mod_lt 8 (BitVec.ofNat._proof_1 8))⟩⟩⟩, ⟨⟨⟨8, (Nat.mod_lt 8 (BitVec.ofNat._proof_1 8))⟩⟩⟩, ⟨⟨⟨8, (Nat.mod_lt 8 (BitVec.ofNat._proof_1 8))⟩⟩⟩, ⟨⟨⟨8, (Nat.mod_lt 8 (BitVec.ofNat._proof_1 8))⟩⟩⟩, ⟨⟨⟨8, (Nat.mod_lt 8 (BitVec.ofNat._proof_1 8))⟩⟩⟩, ⟨⟨⟨8, (Nat.mod_lt 8 (BitVec.ofNat._proof_1 8))⟩⟩⟩, ⟨⟨⟨8, (Nat.mod_lt 8 (BitVec.ofNat._proof_1 8))⟩⟩⟩, ⟨⟨⟨8, (Nat.mod_lt 8 (BitVec.ofNat._proof_1 8))⟩⟩⟩, ⟨⟨⟨8, (Nat.mod_lt 8 (BitVec.ofNat._proof_1 8))⟩⟩⟩, ⟨⟨⟨8, (Nat.mod_lt 8 (BitVec.ofNat._proof_1 8))⟩⟩⟩, ⟨⟨⟨8, (Nat.mod_lt 8 (BitVec.ofNat._proof_1 8))⟩⟩⟩, ⟨⟨⟨8, (Nat.mod_lt 8 (BitVec.ofNat._proof_1 8))⟩⟩⟩, ⟨⟨⟨8, (Nat.mod_lt 8 (BitVec.ofNat._proof_1 8))⟩⟩⟩, ⟨⟨⟨8, (Nat.mod_lt 8 (BitVec.ofNat._proof_1 8))⟩⟩⟩, ⟨⟨⟨8, (Nat.mod_lt 8 (BitVec.ofNat._proof_1 8))⟩⟩⟩, ⟨⟨⟨8, (Nat.mod_lt 8 (BitVec.ofNat._proof_1 8))⟩⟩⟩, ⟨⟨⟨8, (Nat.mod_lt 8 (BitVec.ofNat._proof_1 8))⟩⟩⟩, ⟨⟨⟨8, (Nat.mod_lt 8 (BitVec.ofNat._proof_1 8))⟩⟩⟩, ⟨⟨⟨8, (Nat.mod_lt 8 (BitVec.ofNat._proof_1 8))⟩⟩⟩, ⟨⟨⟨8, (Nat.mod_lt 8 (BitVec.ofNat._proof_1 8))⟩⟩⟩, ⟨⟨⟨8, (Nat.mod_lt 8 (BitVec.ofNat._proof_1 8))⟩⟩⟩, ⟨⟨⟨8, (Nat.mod_lt 8 (BitVec.ofNat._proof_1 8))⟩⟩⟩, ⟨⟨⟨8, (Nat.mod_lt 8 (BitVec.ofNat._proof_1 8))⟩⟩⟩, ⟨⟨⟨8, (Nat.mod_lt 8 (BitVec.ofNat._proof_1 8))⟩⟩⟩, ⟨⟨⟨8, (Nat.mod_lt 8 (BitVec.ofNat._proof_1 8))⟩⟩⟩, ⟨⟨⟨8, (Nat.mod_lt 8 (BitVec.ofNat._proof_1 8))⟩⟩⟩, ⟨⟨⟨8, (Nat.mod_lt 8 (BitVec.ofNat._proof_1 8))⟩⟩⟩, ⟨⟨⟨8, (Nat.mod_lt 8 (BitVec.ofNat._proof_1 8))⟩⟩⟩, ⟨⟨⟨8, (Nat.mod_lt 8 (BitVec.ofNat._proof_1 8))⟩⟩⟩, ⟨⟨⟨8, (Nat.mod_lt 8 (BitVec.ofNat._proof_1 8))⟩⟩⟩, ⟨⟨⟨8, (Nat.mod_lt 8 (BitVec.ofNat._proof_1 8))⟩⟩⟩, ⟨⟨⟨8, (Nat.mod_lt 8 (BitVec.ofNat._proof_1 8))⟩⟩⟩, ⟨⟨⟨8, (Nat.mod_lt 8 (BitVec.ofNat._proof_1 8))⟩⟩⟩, ⟨⟨⟨8, (Nat.mod_lt 8 (BitVec.ofNat._proof_1 8))⟩⟩⟩, ⟨⟨⟨8, (Nat.mod_lt 8 (BitVec.ofNat._proof_1 8))⟩⟩⟩, ⟨⟨⟨8, (Nat.mod_lt 8 (BitVec.ofNat._proof_1 8))⟩⟩⟩, ⟨⟨⟨8, (Nat.mod_lt 8 (BitVec.ofNat._proof_1 8))⟩⟩⟩, ⟨⟨⟨8, (Nat.mod_lt 8 (BitVec.ofNat._proof_1 8))⟩⟩⟩, ⟨⟨⟨8, (Nat.mod_lt 8 (BitVec.ofNat._proof_1 8))⟩⟩⟩, ⟨⟨⟨8, (Nat.mod_lt 8 (BitVec.ofNat._proof_1 8))⟩⟩⟩, ⟨⟨⟨8, (Nat.mod_lt 8 (BitVec.ofNat._proof_1 8))⟩⟩⟩, ⟨⟨⟨8, (Nat.mod_lt 8 (BitVec.ofNat._proof_1 8))⟩⟩⟩, ⟨⟨⟨8, (Nat.mod_lt 8 (BitVec.ofNat._proof_1 8))⟩⟩⟩, ⟨⟨⟨8, (Nat.mod_lt 8 (BitVec.ofNat._proof_1 8))⟩⟩⟩, ⟨⟨⟨8, (Nat.mod_lt 8 (BitVec.ofNat._proof_1 8))⟩⟩⟩, ⟨⟨⟨8, (Nat.mod_lt 8 (BitVec.ofNat._proof_1 8))⟩⟩⟩, ⟨⟨⟨8, (Nat.mod_lt 8 (BitVec.ofNat._proof_1 8))⟩⟩⟩, ⟨⟨⟨8, (Nat.mod_lt 8 (BitVec.ofNat._proof_1 8))⟩⟩⟩, ⟨⟨⟨8, (Nat.mod_lt 8 (BitVec.ofNat._proof_1 8))⟩⟩⟩, ⟨⟨⟨8, (Nat.mod_lt 8 (BitVec.ofNat._proof_1 8))⟩⟩⟩, ⟨⟨⟨8, (Nat.mod_lt 8 (BitVec.ofNat._proof_1 8))⟩⟩⟩, ⟨⟨⟨8, (Nat.mod_lt 8 (BitVec.ofNat._proof_1 8))⟩⟩⟩, ⟨⟨⟨8, (Nat.mod_lt 8 (BitVec.ofNat._proof_1 8))⟩⟩⟩, ⟨⟨⟨8, (Nat.mod_lt 8 (BitVec.ofNat._proof_1 8))⟩⟩⟩, ⟨⟨⟨8, (Nat.mod_lt 8 (BitVec.ofNat._proof_1 8))⟩⟩⟩, ⟨⟨⟨8, (Nat.mod_lt 8 (BitVec.ofNat._proof_1 8))⟩⟩⟩, ⟨⟨⟨8, (Nat.mod_lt 8 (BitVec.ofNat._proof_1 8))⟩⟩⟩, ⟨⟨⟨8, (Nat.mod_lt 8 (BitVec.ofNat._proof_1 8))⟩⟩⟩, ⟨⟨⟨8, (Nat.mod_lt 8 (BitVec.ofNat._proof_1 8))⟩⟩⟩, ⟨⟨⟨8, (Nat.mod_lt 8 (BitVec.ofNat._proof_1 8))⟩⟩⟩, ⟨⟨⟨8, (Nat.mod_lt 8 (BitVec.ofNat._proof_1 8))⟩⟩⟩, ⟨⟨⟨8, (Nat.mod_lt 8 (BitVec.ofNat._proof_1 8))⟩⟩⟩, ⟨⟨⟨8, (Nat.mod_lt 8 (BitVec.ofNat._proof_1 8))⟩⟩⟩, ⟨⟨⟨8, (Nat.mod_lt 8 (BitVec.ofNat._proof_1 8))⟩⟩⟩, ⟨⟨⟨8, (Nat.mod_lt 8 (BitVec.ofNat._proof_1 8))⟩⟩⟩, ⟨⟨⟨8, (Nat.mod_lt 8 (BitVec.ofNat._proof_1 8))⟩⟩⟩, ⟨⟨⟨8, (Nat.mod_lt 8 (BitVec.ofNat._proof_1 8))⟩⟩⟩, ⟨⟨⟨8, (Nat.mod_lt 8 (BitVec.ofNat._proof_1 8))⟩⟩⟩, ⟨⟨⟨8, (Nat.mod_lt 8 (BitVec.ofNat._proof_1 8))⟩⟩⟩, ⟨⟨⟨8, (Nat.mod_lt 8 (BitVec.ofNat._proof_1 8))⟩⟩⟩, ⟨⟨⟨8, (Nat.mod_lt 8 (BitVec.ofNat._proof_1 8))⟩⟩⟩, ⟨⟨⟨8, (Nat.mod_lt 8 (BitVec.ofNat._proof_1 8))⟩⟩⟩, ⟨⟨⟨8, (Nat.mod_lt 8 (BitVec.ofNat._proof_1 8))⟩⟩⟩, ⟨⟨⟨8, (Nat.mod_lt 8 (BitVec.ofNat._proof_1 8))⟩⟩⟩, ⟨⟨⟨8, (Nat.mod_lt 8 (BitVec.ofNat._proof_1 8))⟩⟩⟩, ⟨⟨⟨8, (Nat.mod_lt 8 (BitVec.ofNat._proof_1 8))⟩⟩⟩, ⟨⟨⟨8, (Nat.mod_lt 8 (BitVec.ofNat._proof_1 8))⟩⟩⟩, ⟨⟨⟨8, (Nat.mod_lt 8 (BitVec.ofNat._proof_1 8))⟩⟩⟩, ⟨⟨⟨8, (Nat.mod_lt 8 (BitVec.ofNat._proof_1 8))⟩⟩⟩] (Int.toNat (IntKind.wrap .u8 (shrI .u64 x2 (8 : Int)))) ⟨⟨⟨0, (Nat.mod_lt 0 (BitVec.ofNat._proof_1 8))⟩⟩⟩)) : Nat) : Int)))) h2))
 else
 (((0 : Int) ≤ (IntKind.wrap .u8 x2) ∧ (IntKind.wrap .u8 x2) < (256 : Int)) ∧ Q (IntKind.wrap .i64 (n1 + (IntKind.wrap .i64 (((UInt8.toNat (List.getD [⟨⟨⟨0, (Nat.mod_lt 0 (BitVec.ofNat._proof_1 8))⟩⟩⟩, ⟨⟨⟨1, (Nat.mod_lt 1 (BitVec.ofNat._proof_1 8))⟩⟩⟩, ⟨⟨⟨2, (Nat.mod_lt 2 (BitVec.ofNat._proof_1 8))⟩⟩⟩, ⟨⟨⟨2, (Nat.mod_lt 2 (BitVec.ofNat._proof_1 8))⟩⟩⟩, ⟨⟨⟨3, (Nat.mod_lt 3 (BitVec.ofNat._proof_1 8))⟩⟩⟩, ⟨⟨⟨3, (Nat.mod_lt 3 (BitVec.ofNat._proof_1 8))⟩⟩⟩, ⟨⟨⟨3, (Nat.mod_lt 3 (BitVec.ofNat._proof_1 8))⟩⟩⟩, ⟨⟨⟨3, (Nat.mod_lt 3 (BitVec.ofNat._proof_1 8))⟩⟩⟩, ⟨⟨⟨4, (Nat.mod_lt 4 (BitVec.ofNat._proof_1 8))⟩⟩⟩, ⟨⟨⟨4, (Nat.mod_lt 4 (BitVec.ofNat._proof_1 8))⟩⟩⟩, ⟨⟨⟨4, (Nat.mod_lt 4 (BitVec.ofNat._proof_1 8))⟩⟩⟩, ⟨⟨⟨4, (Nat.mod_lt 4 (BitVec.ofNat._proof_1 8))⟩⟩⟩, ⟨⟨⟨4, (Nat.mod_lt 4 (BitVec.ofNat._proof_1 8))⟩⟩⟩, ⟨⟨⟨4, (Nat.mod_lt 4 (BitVec.ofNat._proof_1 8))⟩⟩⟩, ⟨⟨⟨4, (Nat.mod_lt 4 (BitVec.ofNat._proof_1 8))⟩⟩⟩, ⟨⟨⟨4, (Nat.mod_lt 4 (BitVec.ofNat._proof_1 8))⟩⟩⟩, ⟨⟨⟨5, (Nat.mod_lt 5 (BitVec.ofNat._proof_1 8))⟩⟩⟩, ⟨⟨⟨5, (Nat.mod_lt 5 (BitVec.ofNat._proof_1 8))⟩⟩⟩, ⟨⟨⟨5, (Nat.mod_lt 5 (BitVec.ofNat._proof_1 8))⟩⟩⟩, ⟨⟨⟨5, (Nat.mod_lt 5 (BitVec.ofNat._proof_1 8))⟩⟩⟩, ⟨⟨⟨5, (Nat.mod_lt 5 (BitVec.ofNat._proof_1 8))⟩⟩⟩, ⟨⟨⟨5, (Nat.mod_lt 5 (BitVec.ofNat._proof_1 8))⟩⟩⟩, ⟨⟨⟨5, (Nat.mod_lt 5 (BitVec.ofNat._proof_1 8))⟩⟩⟩, ⟨⟨⟨5, (Nat.mod_lt 5 (BitVec.ofNat._proof_1 8))⟩⟩⟩, ⟨⟨⟨5, (Nat.mod_lt 5 (BitVec.ofNat._proof_1 8))⟩⟩⟩, ⟨⟨⟨5, (Nat.mod_lt 5 (BitVec.ofNat._proof_1 8))⟩⟩⟩, ⟨⟨⟨5, (Nat.mod_lt 5 (BitVec.ofNat._proof_1 8))⟩⟩⟩, ⟨⟨⟨5, (Nat.mod_lt 5 (BitVec.ofNat._proof_1 8))⟩⟩⟩, ⟨⟨⟨5, (Nat.mod_lt 5 (BitVec.ofNat._proof_1 8))⟩⟩⟩, ⟨⟨⟨5, (Nat.mod_lt 5 (BitVec.ofNat._proof_1 8))⟩⟩⟩, ⟨⟨⟨5, (Nat.mod_lt 5 (BitVec.ofNat._proof_1 8))⟩⟩⟩, ⟨⟨⟨5, (Nat.mod_lt 5 (BitVec.ofNat._proof_1 8))⟩⟩⟩, ⟨⟨⟨6, (Nat.mod_lt 6 (BitVec.ofNat._proof_1 8))⟩⟩⟩, ⟨⟨⟨6, (Nat.mod_lt 6 (BitVec.ofNat._proof_1 8))⟩⟩⟩, ⟨⟨⟨6, (Nat.mod_lt 6 (BitVec.ofNat._proof_1 8))⟩⟩⟩, ⟨⟨⟨6, (Nat.mod_lt 6 (BitVec.ofNat._proof_1 8))⟩⟩⟩, ⟨⟨⟨6, (Nat.mod_lt 6 (BitVec.ofNat._proof_1 8))⟩⟩⟩, ⟨⟨⟨6, (Nat.mod_lt 6 (BitVec.ofNat._proof_1 8))⟩⟩⟩, ⟨⟨⟨6, (Nat.mod_lt 6 (BitVec.ofNat._proof_1 8))⟩⟩⟩, ⟨⟨⟨6, (Nat.mod_lt 6 (BitVec.ofNat._proof_1 8))⟩⟩⟩, ⟨⟨⟨6, (Nat.mod_lt 6 (BitVec.ofNat._proof_1 8))⟩⟩⟩, ⟨⟨⟨6, (Nat.mod_lt 6 (BitVec.ofNat._proof_1 8))⟩⟩⟩, ⟨⟨⟨6, (Nat.mod_lt 6 (BitVec.ofNat._proof_1 8))⟩⟩⟩, ⟨⟨⟨6, (Nat.mod_lt 6 (BitVec.ofNat._proof_1 8))⟩⟩⟩, ⟨⟨⟨6, (Nat.mod_lt 6 (BitVec.ofNat._proof_1 8))⟩⟩⟩, ⟨⟨⟨6, (Nat.mod_lt 6 (BitVec.ofNat._proof_1 8))⟩⟩⟩, ⟨⟨⟨6, (Nat.mod_lt 6 (BitVec.ofNat._proof_1 8))⟩⟩⟩, ⟨⟨⟨6, (Nat.mod_lt 6 (BitVec.ofNat._proof_1 8))⟩⟩⟩, ⟨⟨⟨6, (Nat.mod_lt 6 (BitVec.ofNat._proof_1 8))⟩⟩⟩, ⟨⟨⟨6, (Nat.mod_lt 6 (BitVec.ofNat._proof_1 8))⟩⟩⟩, ⟨⟨⟨6, (Nat.mod_lt 6 (BitVec.ofNat._proof_1 8))⟩⟩⟩, ⟨⟨⟨6, (Nat.mod_lt 6 (BitVec.ofNat._proof_1 8))⟩⟩⟩, ⟨⟨⟨6, (Nat.mod_lt 6 (BitVec.ofNat._proof_1 8))⟩⟩⟩, ⟨⟨⟨6, (Nat.mod_lt 6 (BitVec.ofNat._proof_1 8))⟩⟩⟩, ⟨⟨⟨6, (Nat.mod_lt 6 (BitVec.ofNat._proof_1 8))⟩⟩⟩, ⟨⟨⟨6, (Nat.mod_lt 6 (BitVec.ofNat._proof_1 8))⟩⟩⟩, ⟨⟨⟨6, (Nat.mod_lt 6 (BitVec.ofNat._proof_1 8))⟩⟩⟩, ⟨⟨⟨6, (Nat.mod_lt 6 (BitVec.ofNat._proof_1 8))⟩⟩⟩, ⟨⟨⟨6, (Nat.mod_lt 6 (BitVec.ofNat._proof_1 8))⟩⟩⟩, ⟨⟨⟨6, (Nat.mod_lt 6 (BitVec.ofNat._proof_1 8))⟩⟩⟩, ⟨⟨⟨6, (Nat.mod_lt 6 (BitVec.ofNat._proof_1 8))⟩⟩⟩, ⟨⟨⟨6, (Nat.mod_lt 6 (BitVec.ofNat._proof_1 8))⟩⟩⟩, ⟨⟨⟨6, (Nat.mod_lt 6 (BitVec.ofNat._proof_1 8))⟩⟩⟩, ⟨⟨⟨6, (Nat.mod_lt 6 (BitVec.ofNat._proof_1 8))⟩⟩⟩, ⟨⟨⟨7, (Nat.mod_lt 7 (BitVec.ofNat._proof_1 8))⟩⟩⟩, ⟨⟨⟨7, (Nat.mod_lt 7 (BitVec.ofNat._proof_1 8))⟩⟩⟩, ⟨⟨⟨7, (Nat.mod_lt 7 (BitVec.ofNat._proof_1 8))⟩⟩⟩, ⟨⟨⟨7, (Nat.mod_lt 7 (BitVec.ofNat._proof_1 8))⟩⟩⟩, ⟨⟨⟨7, (Nat.mod_lt 7 (BitVec.ofNat._proof_1 8))⟩⟩⟩, ⟨⟨⟨7, (Nat.mod_lt 7 (BitVec.ofNat._proof_1 8))⟩⟩⟩, ⟨⟨⟨7, (Nat.mod_lt 7 (BitVec.ofNat._proof_1 8))⟩⟩⟩, ⟨⟨⟨7, (Nat.mod_lt 7 (BitVec.ofNat._proof_1 8))⟩⟩⟩, ⟨⟨⟨7, (Nat.mod_lt 7 (BitVec.ofNat._proof_1 8))⟩⟩⟩, ⟨⟨⟨7, (Nat.mod_lt 7 (BitVec.ofNat._proof_1 8))⟩⟩⟩, ⟨⟨⟨7, (Nat.mod_lt 7 (BitVec.ofNat._proof_1 8))⟩⟩⟩, ⟨⟨⟨7, (Nat.mod_lt 7 (BitVec.ofNat._proof_1 8))⟩⟩⟩, ⟨⟨⟨7, (Nat.mod_lt 7 (BitVec.ofNat._proof_1 8))⟩⟩⟩, ⟨⟨⟨7, (Nat.mod_lt 7 (BitVec.ofNat._proof_1 8))⟩⟩⟩, ⟨⟨⟨7, (Nat.mod_lt 7 (BitVec.ofNat._proof_1 8))⟩⟩⟩, ⟨⟨⟨7, (Nat.mod_lt 7 (BitVec.ofNat._proof_1 8))⟩⟩⟩, ⟨⟨⟨7, (Nat.mod_lt 7 (BitVec.ofNat._proof_1 8))⟩⟩⟩, ⟨⟨⟨7, (Nat.mod_lt 7 (BitVec.ofNat._proof_1 8))⟩⟩⟩, ⟨⟨⟨7, (Nat.mod_lt 7 (BitVec.ofNat._proof_1 8))⟩⟩⟩, ⟨⟨⟨7, (Nat.mod_lt 7 (BitVec.ofNat._proof_1 8))⟩⟩⟩, ⟨⟨⟨7, (Nat.mod_lt 7 (BitVec.ofNat._proof_1 8))⟩⟩⟩, ⟨⟨⟨7, (Nat.mod_lt 7 (BitVec.ofNat._proof_1 8))⟩⟩⟩, ⟨⟨⟨7, (Nat.mod_lt 7 (BitVec.ofNat._proof_1 8))⟩⟩⟩, ⟨⟨⟨7, (Nat.mod_lt 7 (BitVec.ofNat._proof_1 8))⟩⟩⟩, ⟨⟨⟨7, (Nat.mod_lt 7 (BitVec.ofNat._proof_1 8))⟩⟩⟩, ⟨⟨⟨7, (Nat.mod_lt 7 (BitVec.ofNat._proof_1 8))⟩⟩⟩, ⟨⟨⟨7, (Nat.mod_lt 7 (BitVec.ofNat._proof_1 8))⟩⟩⟩, ⟨⟨⟨7, (Nat.mod_lt 7 (BitVec.ofNat._proof_1 8))⟩⟩⟩, ⟨⟨⟨7, (Nat.mod_lt 7 (BitVec.ofNat._proof_1 8))⟩⟩⟩, ⟨⟨⟨7, (Nat.mod_lt 7 (BitVec.ofNat._proof_1 8))⟩⟩⟩, ⟨⟨⟨7, (Nat.mod_lt 7 (BitVec.ofNat._proof_1 8))⟩⟩⟩, ⟨⟨⟨7, (Nat.mod_lt 7 (BitVec.ofNat._proof_1 8))⟩⟩⟩, ⟨⟨⟨7, (Nat.mod_lt 7 (BitVec.ofNat._proof_1 8))⟩⟩⟩, ⟨⟨⟨7, (Nat.mod_lt 7 (BitVec.ofNat._proof_1 8))⟩⟩⟩, ⟨⟨⟨7, (Nat.mod_lt 7 (BitVec.ofNat._proof_1 8))⟩⟩⟩, ⟨⟨⟨7, (Nat.mod_lt 7 (BitVec.ofNat._proof_1 8))⟩⟩⟩, ⟨⟨⟨7, (Nat.mod_lt 7 (BitVec.ofNat._proof_1 8))⟩⟩⟩, ⟨⟨⟨7, (Nat.mod_lt 7 (BitVec.ofNat._proof_1 8))⟩⟩⟩, ⟨⟨⟨7, (Nat.mod_lt 7 (BitVec.ofNat._proof_1 8))⟩⟩⟩, ⟨⟨⟨7, (Nat.mod_lt 7 (BitVec.ofNat._proof_1 8))⟩⟩⟩, ⟨⟨⟨7, (Nat.mod_lt 7 (BitVec.ofNat._proof_1 8))⟩⟩⟩, ⟨⟨⟨7, (Nat.mod_lt 7 (BitVec.ofNat._proof_1 8))⟩⟩⟩, ⟨⟨⟨7, (Nat.mod_lt 7 (BitVec.ofNat._proof_1 8))⟩⟩⟩, ⟨⟨⟨7, (Nat.mod_lt 7 (BitVec.ofNat._proof_1 8))⟩⟩⟩, ⟨⟨⟨7, (Nat.mod_lt 7 (BitVec.ofNat._proof_1 8))⟩⟩⟩, ⟨⟨⟨7, (Nat.mod_lt 7 (BitVec.ofNat._proof_1 8))⟩⟩⟩, ⟨⟨⟨7, (Nat.mod_lt 7 (BitVec.ofNat._proof_1 8))⟩⟩⟩, ⟨⟨⟨7, (Nat.mod_lt 7 (BitVec.ofNat._proof_1 8))⟩⟩⟩, ⟨⟨⟨7, (Nat.mod_lt 7 (BitVec.ofNat._proof_1 8))⟩⟩⟩, ⟨⟨⟨7, (Nat.mod_lt 7 (BitVec.ofNat._proof_1 8))⟩⟩⟩, ⟨⟨⟨7, (Nat.mod_lt 7 (BitVec.ofNat._proof_1 8))⟩⟩⟩, ⟨⟨⟨7, (Nat.mod_lt 7 (BitVec.ofNat._proof_1 8))⟩⟩⟩, ⟨⟨⟨7, (Nat.mod_lt 7 (BitVec.ofNat._proof_1 8))⟩⟩⟩, ⟨⟨⟨7, (Nat.mod_lt 7 (BitVec.ofNat._proof_1 8))⟩⟩⟩, ⟨⟨⟨7, (Nat.mod_lt 7 (BitVec.ofNat._proof_1 8))⟩⟩⟩, ⟨⟨⟨7, (Nat.mod_lt 7 (BitVec.ofNat._proof_1 8))⟩⟩⟩, ⟨⟨⟨7, (Nat.mod_lt 7 (BitVec.ofNat._proof_1 8))⟩⟩⟩, ⟨⟨⟨7, (Nat.mod_lt 7 (BitVec.ofNat._proof_1 8))⟩⟩⟩, ⟨⟨⟨7, (Nat.mod_lt 7 (BitVec.ofNat._proof_1 8))⟩⟩⟩, ⟨⟨⟨7, (Nat.mod_lt 7 (BitVec.ofNat._proof_1 8))⟩⟩⟩, ⟨⟨⟨7, (Nat.mod_lt 7 (BitVec.ofNat._proof_1 8))⟩⟩⟩, ⟨⟨⟨7, (Nat.mod_lt 7 (BitVec.ofNat._proof_1 8))⟩⟩⟩, ⟨⟨⟨7, (Nat.mod_lt 7 (BitVec.ofNat._proof_1 8))⟩⟩⟩, ⟨⟨⟨7, (Nat.mod_lt 7 (BitVec.ofNat._proof_1 8))⟩⟩⟩, ⟨⟨⟨8, (Nat.mod_lt 8 (BitVec.ofNat._proof_1 8))⟩⟩⟩, ⟨⟨⟨8, (Nat.mod_lt 8 (BitVec.ofNat._proof_1 8))⟩⟩⟩, ⟨⟨⟨8, (Nat.mod_lt 8 (BitVec.ofNat._proof_1 8))⟩⟩⟩, ⟨⟨⟨8, (Nat.mod_lt 8 (BitVec.ofNat._proof_1 8))⟩⟩⟩, ⟨⟨⟨8, (Nat.mod_lt 8 (BitVec.ofNat._proof_1 8))⟩⟩⟩, ⟨⟨⟨8, (Nat.mod_lt 8 (BitVec.ofNat._proof_1 8))⟩⟩⟩, ⟨⟨⟨8, (Nat.mod_lt 8 (BitVec.ofNat._proof_1 8))⟩⟩⟩, ⟨⟨⟨8, (Nat.mod_lt 8 (BitVec.ofNat._proof_1 8))⟩⟩⟩, ⟨⟨⟨8, (Nat.mod_lt 8 (BitVec.ofNat._proof_1 8))⟩⟩⟩, ⟨⟨⟨8, (Nat.mod_lt 8 (BitVec.ofNat._proof_1 8))⟩⟩⟩, ⟨⟨⟨8, (Nat.mod_lt 8 (BitVec.ofNat._proof_1 8))⟩⟩⟩, ⟨⟨⟨8, (Nat.mod_lt 8 (BitVec.ofNat._proof_1 8))⟩⟩⟩, ⟨⟨⟨8, (Nat.mod_lt 8 (BitVec.ofNat._proof_1 8))⟩⟩⟩, ⟨⟨⟨8, (Nat.mod_lt 8 (BitVec.ofNat._proof_1 8))⟩⟩⟩, ⟨⟨⟨8, (Nat.mod_lt 8 (BitVec.ofNat._proof_1 8))⟩⟩⟩, ⟨⟨⟨8, (Nat.mod_lt 8 (BitVec.ofNat._proof_1 8))⟩⟩⟩, ⟨⟨⟨8, (Nat.mod_lt 8 (BitVec.ofNat._proof_1 8))⟩⟩⟩, ⟨⟨⟨8, (Nat.mod_lt 8 (BitVec.ofNat._proof_1 8))⟩⟩⟩, ⟨⟨⟨8, (Nat.mod_lt 8 (BitVec.ofNat._proof_1 8))⟩⟩⟩, ⟨⟨⟨8, (Nat.mod_lt 8 (BitVec.ofNat._proof_1 8))⟩⟩⟩, ⟨⟨⟨8, (Nat.mod_lt 8 (BitVec.ofNat._proof_1 8))⟩⟩⟩, ⟨⟨⟨8, (Nat.mod_lt 8 (BitVec.ofNat._proof_1 8))⟩⟩⟩, ⟨⟨⟨8, (Nat.mod_lt 8 (BitVec.ofNat._proof_1 8))⟩⟩⟩, ⟨⟨⟨8, (Nat.mod_lt 8 (BitVec.ofNat._proof_1 8))⟩⟩⟩, ⟨⟨⟨8, (Nat.mod_lt 8 (BitVec.ofNat._proof_1 8))⟩⟩⟩, ⟨⟨⟨8, (Nat.mod_lt 8 (BitVec.ofNat._proof_1 8))⟩⟩⟩, ⟨⟨⟨8, (Nat.mod_lt 8 (BitVec.ofNat._proof_1 8))⟩⟩⟩, ⟨⟨⟨8, (Nat.mod_lt 8 (BitVec.ofNat._proof_1 8))⟩⟩⟩, ⟨⟨⟨8, (Nat.mod_lt 8 (BitVec.ofNat._proof_1 8))⟩⟩⟩, ⟨⟨⟨8, (Nat.mod_lt 8 (BitVec.ofNat._proof_1 8))⟩⟩⟩, ⟨⟨⟨8, (Nat.mod_lt 8 (BitVec.ofNat._proof_1 8))⟩⟩⟩, ⟨⟨⟨8, (Nat.mod_lt 8 (BitVec.ofNat._proof_1 8))⟩⟩⟩, ⟨⟨⟨8, (Nat.mod_lt 8 (BitVec.ofNat._proof_1 8))⟩⟩⟩, ⟨⟨⟨8, (Nat.mod_lt 8 (BitVec.ofNat._proof_1 8))⟩⟩⟩, ⟨⟨⟨8, (Nat.mod_lt 8 (BitVec.ofNat._proof_1 8))⟩⟩⟩, ⟨⟨⟨8, (Nat.mod_lt 8 (BitVec.ofNat._proof_1 8))⟩⟩⟩, ⟨⟨⟨8, (Nat.mod_lt 8 (BitVec.ofNat._proof_1 8))⟩⟩⟩, ⟨⟨⟨8, (Nat.mod_lt 8 (BitVec.ofNat._proof_1 8))⟩⟩⟩, ⟨⟨⟨8, (Nat.mod_lt 8 (BitVec.ofNat._proof_1 8))⟩⟩⟩, ⟨⟨⟨8, (Nat.mod_lt 8 (BitVec.ofNat._proof_1 8))⟩⟩⟩, ⟨⟨⟨8, (Nat.mod_lt 8 (BitVec.ofNat._proof_1 8))⟩⟩⟩, ⟨⟨⟨8, (Nat.mod_lt 8 (BitVec.ofNat._proof_1 8))⟩⟩⟩, ⟨⟨⟨8, (Nat.mod_lt 8 (BitVec.ofNat._proof_1 8))⟩⟩⟩, ⟨⟨⟨8, (Nat.mod_lt 8 (BitVec.ofNat._proof_1 8))⟩⟩⟩, ⟨⟨⟨8, (Nat.mod_lt 8 (BitVec.ofNat._proof_1 8))⟩⟩⟩, ⟨⟨⟨8, (Nat.mod_lt 8 (BitVec.ofNat._proof_1 8))⟩⟩⟩, ⟨⟨⟨8, (Nat.mod_lt 8 (BitVec.ofNat._proof_1 8))⟩⟩⟩, ⟨⟨⟨8, (Nat.mod_lt 8 (BitVec.ofNat._proof_1 8))⟩⟩⟩, ⟨⟨⟨8, (Nat.mod_lt 8 (BitVec.ofNat._proof_1 8))⟩⟩⟩, ⟨⟨⟨8, (Nat.mod_lt 8 (BitVec.ofNat._proof_1 8))⟩⟩⟩, ⟨⟨⟨8, (Nat.mod_lt 8 (BitVec.ofNat._proof_1 8))⟩⟩⟩, ⟨⟨⟨8, (Nat.mod_lt 8 (BitVec.ofNat._proof_1 8))⟩⟩⟩, ⟨⟨⟨8, (Nat.mod_lt 8 (BitVec.ofNat._proof_1 8))⟩⟩⟩, ⟨⟨⟨8, (Nat.mod_lt 8 (BitVec.ofNat._proof_1 8))⟩⟩⟩, ⟨⟨⟨8, (Nat.mod_lt 8 (BitVec.ofNat._proof_1 8))⟩⟩⟩, ⟨⟨⟨8, (Nat.mod_lt 8 (BitVec.ofNat._proof_1 8))⟩⟩⟩, ⟨⟨⟨8, (Nat.mod_lt 8 (BitVec.ofNat._proof_1 8))⟩⟩⟩, ⟨⟨⟨8, (Nat.mod_lt 8 (BitVec.ofNat._proof_1 8))⟩⟩⟩, ⟨⟨⟨8, (Nat.mod_lt 8 (BitVec.ofNat._proof_1 8))⟩⟩⟩, ⟨⟨⟨8, (Nat.mod_lt 8 (BitVec.ofNat._proof_1 8))⟩⟩⟩, ⟨⟨⟨8, (Nat.mod_lt 8 (BitVec.ofNat._proof_1 8))⟩⟩⟩, ⟨⟨⟨8, (Nat.mod_lt 8 (BitVec.ofNat._proof_1 8))⟩⟩⟩, ⟨⟨⟨8, (Nat.mod_lt 8 (BitVec.ofNat._proof_1 8))⟩⟩⟩, ⟨⟨⟨8, (Nat.mod_lt 8 (BitVec.ofNat._proof_1 8))⟩⟩⟩, ⟨⟨⟨8, (Nat.mod_lt 8 (BitVec.ofNat._proof_1 8))⟩⟩⟩, ⟨⟨⟨8, (Nat.mod_lt 8 (BitVec.ofNat._proof_1 8))⟩⟩⟩, ⟨⟨⟨8, (Nat.mod_lt 8 (BitVec.ofNat._proof_1 8))⟩⟩⟩, ⟨⟨⟨8, (Nat.mod_lt 8 (BitVec.ofNat._proof_1 8))⟩⟩⟩, ⟨⟨⟨8, (Nat.mod_lt 8 (BitVec.ofNat._proof_1 8))⟩⟩⟩, ⟨⟨⟨8, (Nat.mod_lt 8 (BitVec.ofNat._proof_1 8))⟩⟩⟩, ⟨⟨⟨8, (Nat.mod_lt 8 (BitVec.ofNat._proof_1 8))⟩⟩⟩, ⟨⟨⟨8, (Nat.mod_lt 8 (BitVec.ofNat._proof_1 8))⟩⟩⟩, ⟨⟨⟨8, (Nat.mod_lt 8 (BitVec.ofNat._proof_1 8))⟩⟩⟩, ⟨⟨⟨8, (Nat.mod_lt 8 (BitVec.ofNat._proof_1 8))⟩⟩⟩, ⟨⟨⟨8, (Nat.mod_lt 8 (BitVec.ofNat._proof_1 8))⟩⟩⟩, ⟨⟨⟨8, (Nat.mod_lt 8 (BitVec.ofNat._proof_1 8))⟩⟩⟩, ⟨⟨⟨8, (Nat.mod_lt 8 (BitVec.ofNat._proof_1 8))⟩⟩⟩, ⟨⟨⟨8, (Nat.mod_lt 8 (BitVec.ofNat._proof_1 8))⟩⟩⟩, ⟨⟨⟨8, (Nat.mod_lt 8 (BitVec.ofNat._proof_1 8))⟩⟩⟩, ⟨⟨⟨8, (Nat.mod_lt 8 (BitVec.ofNat._proof_1 8))⟩⟩⟩, ⟨⟨⟨8, (Nat.mod_lt 8 (BitVec.ofNat._proof_1 8))⟩⟩⟩, ⟨⟨⟨8, (Nat.mod_lt 8 (BitVec.ofNat._proof_1 8))⟩⟩⟩, ⟨⟨⟨8, (Nat.mod_lt 8 (BitVec.ofNat._proof_1 8))⟩⟩⟩, ⟨⟨⟨8, (Nat.mod_lt 8 (BitVec.ofNat._proof_1 8))⟩⟩⟩, ⟨⟨⟨8, (Nat.mod_lt 8 (BitVec.ofNat._proof_1 8))⟩⟩⟩, ⟨⟨⟨8, (Nat.mod_lt 8 (BitVec.ofNat._proof_1 8))⟩⟩⟩, ⟨⟨⟨8, (Nat.mod_lt 8 (BitVec.ofNat._proof_1 8))⟩⟩⟩, ⟨⟨⟨8, (Nat.mod_lt 8 (BitVec.ofNat._proof_1 8))⟩⟩⟩, ⟨⟨⟨8, (Nat.mod_lt 8 (BitVec.ofNat._proof_1 8))⟩⟩⟩, ⟨⟨⟨8, (Nat.mod_lt 8 (BitVec.ofNat._proof_1 8))⟩⟩⟩, ⟨⟨⟨8, (Nat.mod_lt 8 (BitVec.ofNat._proof_1 8))⟩⟩⟩, ⟨⟨⟨8, (Nat.mod_lt 8 (BitVec.ofNat._proof_1 8))⟩⟩⟩, ⟨⟨⟨8, (Nat.mod_lt 8 (BitVec.ofNat._proof_1 8))⟩⟩⟩, ⟨⟨⟨8, (Nat.mod_lt 8 (BitVec.ofNat._proof_1 8))⟩⟩⟩, ⟨⟨⟨8, (Nat.mod_lt 8 (BitVec.ofNat._proof_1 8))⟩⟩⟩, ⟨⟨⟨8, (Nat.mod_lt 8 (BitVec.ofNat._proof_1 8))⟩⟩⟩, ⟨⟨⟨8, (Nat.mod_lt 8 (BitVec.ofNat._proof_1 8))⟩⟩⟩, ⟨⟨⟨8, (Nat.mod_lt 8 (BitVec.ofNat._proof_1 8))⟩⟩⟩, ⟨⟨⟨8, (Nat.mod_lt 8 (BitVec.ofNat._proof_1 8))⟩⟩⟩, ⟨⟨⟨8, (Nat.mod_lt 8 (BitVec.ofNat._proof_1 8))⟩⟩⟩, ⟨⟨⟨8, (Nat.mod_lt 8 (BitVec.ofNat._proof_1 8))⟩⟩⟩, ⟨⟨⟨8, (Nat.mod_lt 8 (BitVec.ofNat._proof_1 8))⟩⟩⟩, ⟨⟨⟨8, (Nat.mod_lt 8 (BitVec.ofNat._proof_1 8))⟩⟩⟩, ⟨⟨⟨8, (Nat.mod_lt 8 (BitVec.ofNat._proof_1 8))⟩⟩⟩, ⟨⟨⟨8, (Nat.mod_lt 8 (BitVec.ofNat._proof_1 8))⟩⟩⟩, ⟨⟨⟨8, (Nat.mod_lt 8 (BitVec.ofNat._proof_1 8))⟩⟩⟩, ⟨⟨⟨8, (Nat.mod_lt 8 (BitVec.ofNat._proof_1 8))⟩⟩⟩, ⟨⟨⟨8, (Nat.mod_lt 8 (BitVec.ofNat._proof_1 8))⟩⟩⟩, ⟨⟨⟨8, (Nat.mod_lt 8 (BitVec.ofNat._proof_1 8))⟩⟩⟩, ⟨⟨⟨8, (Nat.mod_lt 8 (BitVec.ofNat._proof_1 8))⟩⟩⟩, ⟨⟨⟨8, (Nat.mod_lt 8 (BitVec.ofNat._proof_1 8))⟩⟩⟩, ⟨⟨⟨8, (Nat.mod_lt 8 (BitVec.ofNat._proof_1 8))⟩⟩⟩, ⟨⟨⟨8, (Nat.mod_lt 8 (BitVec.ofNat._proof_1 8))⟩⟩⟩, ⟨⟨⟨8, (Nat.mod_lt 8 (BitVec.ofNat._proof_1 8))⟩⟩⟩, ⟨⟨⟨8, (Nat.mod_lt 8 (BitVec.ofNat._proof_1 8))⟩⟩⟩, ⟨⟨⟨8, (Nat.mod_lt 8 (BitVec.ofNat._proof_1 8))⟩⟩⟩, ⟨⟨⟨8, (Nat.mod_lt 8 (BitVec.ofNat._proof_1 8))⟩⟩⟩, ⟨⟨⟨8, (Nat.mod_lt 8 (BitVec.ofNat._proof_1 8))⟩⟩⟩, ⟨⟨⟨8, (Nat.mod_lt 8 (BitVec.ofNat._proof_1 8))⟩⟩⟩, ⟨⟨⟨8, (Nat.mod_lt 8 (BitVec.ofNat._proof_1 8))⟩⟩⟩, ⟨⟨⟨8, (Nat.mod_lt 8 (BitVec.ofNat._proof_1 8))⟩⟩⟩, ⟨⟨⟨8, (Nat.mod_lt 8 (BitVec.ofNat._proof_1 8))⟩⟩⟩, ⟨⟨⟨8, (Nat.mod_lt 8 (BitVec.ofNat._proof_1 8))⟩⟩⟩, ⟨⟨⟨8, (Nat.mod_lt 8 (BitVec.ofNat._proof_1 8))⟩⟩⟩, ⟨⟨⟨8, (Nat.mod_lt 8 (BitVec.ofNat._proof_1 8))⟩⟩⟩, ⟨⟨⟨8, (Nat.mod_lt 8 (BitVec.ofNat._proof_1 8))⟩⟩⟩, ⟨⟨⟨8, (Nat.mod_lt 8 (BitVec.ofNat._proof_1 8))⟩⟩⟩, ⟨⟨⟨8, (Nat.mod_lt 8 (BitVec.ofNat._proof_1 8))⟩⟩⟩] (Int.toNat (IntKind.wrap .u8 x2)) ⟨⟨⟨0, (Nat.mod_lt 0 (BitVec.ofNat._proof_1 8))⟩⟩⟩)) : Nat) : Int)))) h2))))

def slices_insertionSortOrdered_int_w (P : Program) (data : Sl) (a : Int) (b : Int) (Q : (Hp → Prop)) (h : Hp) : Prop :=
 LoopW1 (α1 := Int) (fun again i h1 =>
 (if (decide (i < b)) = true then
 LoopW1 (α1 := Int) (fun again1 j h2 =>
 (((decide (j > a)) = true → (InB data.base data.len j)) ∧ LdW (some (decide (j > a))) (shInt .i64) h2 (sat data.base 1 j) fun x =>
 (((decide (j > a)) = true → (InB data.base data.len (IntKind.wrap .i64 (j - (1 : Int))))) ∧ LdW (some (decide (j > a))) (shInt .i64) h2 (sat data.base 1 (IntKind.wrap .i64 (j - (1 : Int)))) fun x1 =>
 EffC (some (decide (j > a))) (CallT P n_cmp_Less_int [(.int .i64 x), (.int .i64 x1)] shBool) (fun r h3 =>
 LetW ((decide (j > a)) && r) fun y =>
 (if y = true then
 ((InB data.base data.len (IntKind.wrap .i64 (j - (1 : Int)))) ∧ LdW none (shInt .i64) h3 (sat data.base 1 (IntKind.wrap .i64 (j - (1 : Int)))) fun x2 =>
 ((InB data.base data.len j) ∧ LdW none (shInt .i64) h3 (sat data.base 1 j) fun x3 =>
 ((InB data.base data.len j) ∧ StW h3 (sat data.base 1 j) [(.int .i64 x2)] (fun h4 =>
 ((InB data.base data.len (IntKind.wrap .i64 (j - (1 : Int)))) ∧ StW h4 (sat data.base 1 (IntKind.wrap .i64 (j - (1 : Int)))) [(.int .i64 x3)] (fun h5 =>
 again1 (IntKind.wrap .i64 (j - (1 : Int))) h5))))))
 else
 again (IntKind.wrap .i64 (i + (1 : Int))) h3)) h2))) i h1
 else
 Q h1)) (IntKind.wrap .i64 (a + (1 : Int))) h

def slices_heapSortOrdered_int_w (P : Program) (data : Sl) (a : Int) (b : Int) (Q : (Hp → Prop)) (h : Hp) : Prop :=
 ((2 : Int) ≠ (0 : Int) ∧ LoopW1 (α1 := Int) (fun again i h1 =>
 (if (decide (i ≥ (0 : Int))) = true then
 Call0 P n_slices_siftDownOrdered_int [data.v, (.int .i64 i), (.int .i64 (IntKind.wrap .i64 (b - a))), (.int .i64 a)] (fun h2 =>
 again (IntKind.wrap .i64 (i - (1 : Int))) h2) h1
 else
 LoopW1 (α1 := Int) (fun again1 i1 h2 =>
 (if (decide (i1 ≥ (0 : Int))) = true then
 ((InB data.base data.len (IntKind.wrap .i64 (a + i1))) ∧ LdW none (shInt .i64) h2 (sat data.base 1 (IntKind.wrap .i64 (a + i1))) fun x =>
 ((InB data.base data.len a) ∧ LdW none (shInt .i64) h2 (sat data.base 1 a) fun x1 =>
 ((InB data.base data.len a) ∧ StW h2 (sat data.base 1 a) [(.int .i64 x)] (fun h3 =>
 ((InB data.base data.len (IntKind.wrap .i64 (a + i1))) ∧ StW h3 (sat data.base 1 (IntKind.wrap .i64 (a + i1))) [(.int .i64 x1)] (fun h4 =>
 Call0 P n_slices_siftDownOrdered_int [data.v, (.int .i64 (0 : Int)), (.int .i64 i1), (.int .i64 a)] (fun h5 =>
 again1 (IntKind.wrap .i64 (i1 - (1 : Int))) h5) h4))))))
 else
 Q h2)) (IntKind.wrap .i64 ((IntKind.wrap .i64 (b - a)) - (1 : Int))) h1)) (IntKind.wrap .i64 (Int.tdiv (IntKind.wrap .i64 ((IntKind.wrap .i64 (b - a)) - (1 : Int))) (2 : Int))) h)

def slices_breakPatternsOrdered_int_w (P : Program) (data : Sl) (a : Int) (b : Int) (Q : (Hp → Prop)) (h : Hp) : Prop :=
 (if (decide ((IntKind.wrap .i64 (b - a)) ≥ (8 : Int))) = true then
 NewW [(.int .u64 (0 : Int))] (fun a1 h1 =>
 StW h1 a1 [(.int .u64 (IntKind.wrap .u64 (IntKind.wrap .i64 (b - a))))] (fun h2 =>
 CallT P n_slices_nextPowerOfTwo [(.int .i64 (IntKind.wrap .i64 (b - a)))] (shInt .u64) (fun r h3 =>
 ((4 : Int) ≠ (0 : Int) ∧ LoopW1 (α1 := Int) (fun again idx h4 =>
 ((4 : Int) ≠ (0 : Int) ∧ (if (decide (idx ≤ (IntKind.wrap .i64 ((IntKind.wrap .i64 (a + (IntKind.wrap .i64 ((IntKind.wrap .i64 (Int.tdiv (IntKind.wrap .i64 (b - a)) (4 : Int))) * (2 : Int))))) + (1 : Int))))) = true then
 CallT P n_slices_xorshift_Next [(.pointer (some a1))] (shInt .u64) (fun r1 h5 =>
 JoinW1 (α1 := Int) (fun k =>
 (if (decide ((IntKind.wrap .i64 (bitsI .and .u64 r1 (IntKind.wrap .u64 (r - (1 : Int))))) ≥ (IntKind.wrap .i64 (b - a)))) = true then
 k (IntKind.wrap .i64 ((IntKind.wrap .i64 (bitsI .and .u64 r1 (IntKind.wrap .u64 (r - (1 : Int))))) - (IntKind.wrap .i64 (b - a)))) h5
 else
 k (IntKind.wrap .i64 (bitsI .and .u64 r1 (IntKind.wrap .u64 (r - (1 : Int))))) h5))
 (fun other h6 =>
 ((InB data.base data.len (IntKind.wrap .i64 (a + other))) ∧ LdW none (shInt .i64) h6 (sat data.base 1 (IntKind.wrap .i64 (a + other))) fun x =>
 ((InB data.base data.len idx) ∧ LdW none (shInt .i64) h6 (sat data.base 1 idx) fun x1 =>
 ((InB data.base data.len idx) ∧ StW h6 (sat data.base 1 idx) [(.int .i64 x)] (fun h7 =>
 ((InB data.base data.len (IntKind.wrap .i64 (a + other))) ∧ StW h7 (sat data.base 1 (IntKind.wrap .i64 (a + other))) [(.int .i64 x1)] (fun h8 =>
 again (IntKind.wrap .i64 (idx + (1 : Int))) h8)))))))) h4
 else
 Q h4))) (IntKind.wrap .i64 ((IntKind.wrap .i64 (a + (IntKind.wrap .i64 ((IntKind.wrap .i64 (Int.tdiv (IntKind.wrap .i64 (b - a)) (4 : Int))) * (2 : Int))))) - (1 : Int))) h3)) h2)) h
 else
 Q h)

def slices_choosePivotOrdered_int_w (P : Program) (data : Sl) (a : Int) (b : Int) (Q : (Int → (Int → (Hp → Prop)))) (h : Hp) : Prop :=
 NewW [(.int .i64 (0 : Int))] (fun a1 h1 =>
 ((4 : Int) ≠ (0 : Int) ∧ ((4 : Int) ≠ (0 : Int) ∧ ((4 : Int) ≠ (0 : Int) ∧ (if (decide ((IntKind.wrap .i64 (b - a)) ≥ (8 : Int))) = true then
 JoinW3 (α1 := Int) (α2 := Int) (α3 := Int) (fun k =>
 (if (decide ((IntKind.wrap .i64 (b - a)) ≥ (50 : Int))) = true then
 CallT P n_slices_medianAdjacentOrdered_int [data.v, (.int .i64 (IntKind.wrap .i64 (a + (IntKind.wrap .i64 ((IntKind.wrap .i64 (Int.tdiv (IntKind.wrap .i64 (b - a)) (4 : Int))) * (1 : Int)))))), (.pointer (some a1))] (shInt .i64) (fun r h2 =>
 CallT P n_slices_medianAdjacentOrdered_int [data.v, (.int .i64 (IntKind.wrap .i64 (a + (IntKind.wrap .i64 ((IntKind.wrap .i64 (Int.tdiv (IntKind.wrap .i64 (b - a)) (4 : Int))) * (2 : Int)))))), (.pointer (some a1))] (shInt .i64) (fun r1 h3 =>
 CallT P n_slices_medianAdjacentOrdered_int [data.v, (.int .i64 (IntKind.wrap .i64 (a + (IntKind.wrap .i64 ((IntKind.wrap .i64 (Int.tdiv (IntKind.wrap .i64 (b - a)) (4 : Int))) * (3 : Int)))))), (.pointer (some a1))] (shInt .i64) (fun r2 h4 =>
 k r r1 r2 h4) h3) h2) h1
 else
 k (IntKind.wrap .i64 (a + (IntKind.wrap .i64 ((IntKind.wrap .i64 (Int.tdiv (IntKind.wrap .i64 (b - a)) (4 : Int))) * (1 : Int))))) (IntKind.wrap .i64 (a + (IntKind.wrap .i64 ((IntKind.wrap .i64 (Int.tdiv (IntKind.wrap .i64 (b - a)) (4 : Int))) * (2 : Int))))) (IntKind.wrap .i64 (a + (IntKind.wrap .i64 ((IntKind.wrap .i64 (Int.tdiv (IntKind.wrap .i64 (b - a)) (4 : Int))) * (3 : Int))))) h1))
 (fun i j k h2 =>
 CallT P n_slices_medianOrdered_int [data.v, (.int .i64 i), (.int .i64 j), (.int .i64 k), (.pointer (some a1))] (shInt .i64) (fun r h3 =>
 LdW none (shInt .i64) h3 a1 fun x =>
 (if (x == (0 : Int)) = true then
 Q r (1 : Int) h3
 else
 (if (x == (12 : Int)) = true then
 Q r (2 : Int) h3
 else
 Q r (0 : Int) h3))) h2)
 else
 LdW none (shInt .i64) h1 a1 fun x =>
 (if (x == (0 : Int)) = true then
 Q (IntKind.wrap .i64 (a + (IntKind.wrap .i64 ((IntKind.wrap .i64 (Int.tdiv (IntKind.wrap .i64 (b - a)) (4 : Int))) * (2 : Int))))) (1 : Int) h1
 else
 (if (x == (12 : Int)) = true then
 Q (IntKind.wrap .i64 (a + (IntKind.wrap .i64 ((IntKind.wrap .i64 (Int.tdiv (IntKind.wrap .i64 (b - a)) (4 : Int))) * (2 : Int))))) (2 : Int) h1
 else
 Q (IntKind.wrap .i64 (a + (IntKind.wrap .i64 ((IntKind.wrap .i64 (Int.tdiv (IntKind.wrap .i64 (b - a)) (4 : Int))) * (2 : Int))))) (0 : Int) h1))))))) h

def slices_reverseRangeOrdered_int_w (P : Program) (data : Sl) (a : Int) (b : Int) (Q : (Hp → Prop)) (h : Hp) : Prop :=
 LoopW2 (α1 := Int) (α2 := Int) (fun again i j h1 =>
 (if (decide (i < j)) = true then
 ((InB data.base data.len j) ∧ LdW none (shInt .i64) h1 (sat data.base 1 j) fun x =>
 ((InB data.base data.len i) ∧ LdW none (shInt .i64) h1 (sat data.base 1 i) fun x1 =>
 ((InB data.base data.len i) ∧ StW h1 (sat data.base 1 i) [(.int .i64 x)] (fun h2 =>
 ((InB data.base data.len j) ∧ StW h2 (sat data.base 1 j) [(.int .i64 x1)] (fun h3 =>
 again (IntKind.wrap .i64 (i + (1 : Int))) (IntKind.wrap .i64 (j - (1 : Int))) h3))))))
 else
 Q h1)) a (IntKind.wrap .i64 (b - (1 : Int))) h

def slices_partialInsertionSortOrdered_int_w (P : Program) (data : Sl) (a : Int) (b : Int) (Q : (Bool → (Hp → Prop))) (h : Hp) : Prop :=
 LoopW2 (α1 := Int) (α2 := Int) (fun again i j h1 =>
 (if (decide (j < (5 : Int))) = true then
 JoinW1 (α1 := Int) (fun k =>
 LoopW1 (α1 := Int) (fun again1 i1 h2 =>
 (((decide (i1 < b)) = true → (InB data.base data.len i1)) ∧ LdW (some (decide (i1 < b))) (shInt .i64) h2 (sat data.base 1 i1) fun x =>
 (((decide (i1 < b)) = true → (InB data.base data.len (IntKind.wrap .i64 (i1 - (1 : Int))))) ∧ LdW (some (decide (i1 < b))) (shInt .i64) h2 (sat data.base 1 (IntKind.wrap .i64 (i1 - (1 : Int)))) fun x1 =>
 EffC (some (decide (i1 < b))) (CallT P n_cmp_Less_int [(.int .i64 x), (.int .i64 x1)] shBool) (fun r h3 =>
 LetW ((decide (i1 < b)) && (!r)) fun y =>
 (if y = true then
 again1 (IntKind.wrap .i64 (i1 + (1 : Int))) h3
 else
 (if (i1 == b) = true then
 Q true h3
 else
 (if (decide ((IntKind.wrap .i64 (b - a)) < (50 : Int))) = true then
 Q false h3
 else
 ((InB data.base data.len (IntKind.wrap .i64 (i1 - (1 : Int)))) ∧ LdW none (shInt .i64) h3 (sat data.base 1 (IntKind.wrap .i64 (i1 - (1 : Int)))) fun x2 =>
 ((InB data.base data.len i1) ∧ LdW none (shInt .i64) h3 (sat data.base 1 i1) fun x3 =>
 ((InB data.base data.len i1) ∧ StW h3 (sat data.base 1 i1) [(.int .i64 x2)] (fun h4 =>
 ((InB data.base data.len (IntKind.wrap .i64 (i1 - (1 : Int)))) ∧ StW h4 (sat data.base 1 (IntKind.wrap .i64 (i1 - (1 : Int)))) [(.int .i64 x3)] (fun h5 =>
 JoinW0 (fun k1 =>
 (if (decide ((IntKind.wrap .i64 (i1 - a)) ≥ (2 : Int))) = true then
 JoinW0 (fun k2 =>
 LoopW1 (α1 := Int) (fun again2 j1 h6 =>
 (if (decide (j1 ≥ (1 : Int))) = true then
 ((InB data.base data.len j1) ∧ LdW none (shInt .i64) h6 (sat data.base 1 j1) fun x4 =>
 ((InB data.base data.len (IntKind.wrap .i64 (j1 - (1 : Int)))) ∧ LdW none (shInt .i64) h6 (sat data.base 1 (IntKind.wrap .i64 (j1 - (1 : Int)))) fun x5 =>
 CallT P n_cmp_Less_int [(.int .i64 x4), (.int .i64 x5)] shBool (fun r1 h7 =>
 (if (!r1) = true then
 k2 h7
 else
 ((InB data.base data.len (IntKind.wrap .i64 (j1 - (1 : Int)))) ∧ LdW none (shInt .i64) h7 (sat data.base 1 (IntKind.wrap .i64 (j1 - (1 : Int)))) fun x6 =>
 ((InB data.base data.len j1) ∧ LdW none (shInt .i64) h7 (sat data.base 1 j1) fun x7 =>
 ((InB data.base data.len j1) ∧ StW h7 (sat data.base 1 j1) [(.int .i64 x6)] (fun h8 =>
 ((InB data.base data.len (IntKind.wrap .i64 (j1 - (1 : Int)))) ∧ StW h8 (sat data.base 1 (IntKind.wrap .i64 (j1 - (1 : Int)))) [(.int .i64 x7)] (fun h9 =>
 again2 (IntKind.wrap .i64 (j1 - (1 : Int))) h9)))))))) h6))
 else
 k2 h6)) (IntKind.wrap .i64 (i1 - (1 : Int))) h5)
 (fun h6 =>
 k1 h6)
 else
 k1 h5))
 (fun h6 =>
 (if (decide ((IntKind.wrap .i64 (b - i1)) ≥ (2 : Int))) = true then
 JoinW0 (fun k1 =>
 LoopW1 (α1 := Int) (fun again2 j1 h7 =>
 (if (decide (j1 < b)) = true then
 ((InB data.base data.len j1) ∧ LdW none (shInt .i64) h7 (sat data.base 1 j1) fun x4 =>
 ((InB data.base data.len (IntKind.wrap .i64 (j1 - (1 : Int)))) ∧ LdW none (shInt .i64) h7 (sat data.base 1 (IntKind.wrap .i64 (j1 - (1 : Int)))) fun x5 =>
 CallT P n_cmp_Less_int [(.int .i64 x4), (.int .i64 x5)] shBool (fun r1 h8 =>
 (if (!r1) = true then
 k1 h8
 else
 ((InB data.base data.len (IntKind.wrap .i64 (j1 - (1 : Int)))) ∧ LdW none (shInt .i64) h8 (sat data.base 1 (IntKind.wrap .i64 (j1 - (1 : Int)))) fun x6 =>
 ((InB data.base data.len j1) ∧ LdW none (shInt .i64) h8 (sat data.base 1 j1) fun x7 =>
 ((InB data.base data.len j1) ∧ StW h8 (sat data.base 1 j1) [(.int .i64 x6)] (fun h9 =>
 ((InB data.base data.len (IntKind.wrap .i64 (j1 - (1 : Int)))) ∧ StW h9 (sat data.base 1 (IntKind.wrap .i64 (j1 - (1 : Int)))) [(.int .i64 x7)] (fun h10 =>
 again2 (IntKind.wrap .i64 (j1 + (1 : Int))) h10)))))))) h7))
 else
 k1 h7)) (IntKind.wrap .i64 (i1 + (1 : Int))) h6)
 (fun h7 =>
 k i1 h7)
 else
 k i1 h6)))))))))))) h2))) i h1)
 (fun i1 h2 =>
 again i1 (IntKind.wrap .i64 (j + (1 : Int))) h2)
 else
 Q false h1)) (IntKind.wrap .i64 (a + (1 : Int))) (0 : Int) h

def cmp_Less_int_w (P : Program) (x : Int) (y : Int) (Q : (Bool → (Hp → Prop))) (h : Hp) : Prop :=
 CallT P n_cmp_isNaN_int [(.int .i64 x)] shBool (fun r h1 =>
 EffC (some r) (CallT P n_cmp_isNaN_int [(.int .i64 y)] shBool) (fun r1 h2 =>
 LetW (r && (!r1)) fun y1 =>
 LetW (y1 || (decide (x < y))) fun y2 =>
 Q y2 h2) h1) h

def slices_partitionEqualOrdered_int_w (P : Program) (data : Sl) (a : Int) (b : Int) (pivot : Int) (Q : (Int → (Hp → Prop))) (h : Hp) : Prop :=
 ((InB data.base data.len pivot) ∧ LdW none (shInt .i64) h (sat data.base 1 pivot) fun x =>
 ((InB data.base data.len a) ∧ LdW none (shInt .i64) h (sat data.base 1 a) fun x1 =>
 ((InB data.base data.len a) ∧ StW h (sat data.base 1 a) [(.int .i64 x)] (fun h1 =>
 ((InB data.base data.len pivot) ∧ StW h1 (sat data.base 1 pivot) [(.int .i64 x1)] (fun h2 =>
 LoopW2 (α1 := Int) (α2 := Int) (fun again i j h3 =>
 LoopW1 (α1 := Int) (fun again1 i1 h4 =>
 (((decide (i1 ≤ j)) = true → (InB data.base data.len a)) ∧ LdW (some (decide (i1 ≤ j))) (shInt .i64) h4 (sat data.base 1 a) fun x2 =>
 (((decide (i1 ≤ j)) = true → (InB data.base data.len i1)) ∧ LdW (some (decide (i1 ≤ j))) (shInt .i64) h4 (sat data.base 1 i1) fun x3 =>
 EffC (some (decide (i1 ≤ j))) (CallT P n_cmp_Less_int [(.int .i64 x2), (.int .i64 x3)] shBool) (fun r h5 =>
 LetW ((decide (i1 ≤ j)) && (!r)) fun y =>
 (if y = true then
 again1 (IntKind.wrap .i64 (i1 + (1 : Int))) h5
 else
 LoopW1 (α1 := Int) (fun again2 j1 h6 =>
 (((decide (i1 ≤ j1)) = true → (InB data.base data.len a)) ∧ LdW (some (decide (i1 ≤ j1))) (shInt .i64) h6 (sat data.base 1 a) fun x4 =>
 (((decide (i1 ≤ j1)) = true → (InB data.base data.len j1)) ∧ LdW (some (decide (i1 ≤ j1))) (shInt .i64) h6 (sat data.base 1 j1) fun x5 =>
 EffC (some (decide (i1 ≤ j1))) (CallT P n_cmp_Less_int [(.int .i64 x4), (.int .i64 x5)] shBool) (fun r1 h7 =>
 LetW ((decide (i1 ≤ j1)) && r1) fun y1 =>
 (if y1 = true then
 again2 (IntKind.wrap .i64 (j1 - (1 : Int))) h7
 else
 (if (decide (i1 > j1)) = true then
 Q i1 h7
 else
 ((InB data.base data.len j1) ∧ LdW none (shInt .i64) h7 (sat data.base 1 j1) fun x6 =>
 ((InB data.base data.len i1) ∧ LdW none (shInt .i64) h7 (sat data.base 1 i1) fun x7 =>
 ((InB data.base data.len i1) ∧ StW h7 (sat data.base 1 i1) [(.int .i64 x6)] (fun h8 =>
 ((InB data.base data.len j1) ∧ StW h8 (sat data.base 1 j1) [(.int .i64 x7)] (fun h9 =>
 again (IntKind.wrap .i64 (i1 + (1 : Int))) (IntKind.wrap .i64 (j1 - (1 : Int))) h9))))))))) h6))) j h5)) h4))) i h3) (IntKind.wrap .i64 (a + (1 : Int))) (IntKind.wrap .i64 (b - (1 : Int))) h2))))))

def slices_partitionOrdered_int_w (P : Program) (data : Sl) (a : Int) (b : Int) (pivot : Int) (Q : (Int → (Bool → (Hp → Prop)))) (h : Hp) : Prop :=
 ((InB data.base data.len pivot) ∧ LdW none (shInt .i64) h (sat data.base 1 pivot) fun x =>
 ((InB data.base data.len a) ∧ LdW none (shInt .i64) h (sat data.base 1 a) fun x1 =>
 ((InB data.base data.len a) ∧ StW h (sat data.base 1 a) [(.int .i64 x)] (fun h1 =>
 ((InB data.base data.len pivot) ∧ StW h1 (sat data.base 1 pivot) [(.int .i64 x1)] (fun h2 =>
 LoopW1 (α1 := Int) (fun again i h3 =>
 (((decide (i ≤ (IntKind.wrap .i64 (b - (1 : Int))))) = true → (InB data.base data.len i)) ∧ LdW (some (decide (i ≤ (IntKind.wrap .i64 (b - (1 : Int)))))) (shInt .i64) h3 (sat data.base 1 i) fun x2 =>
 (((decide (i ≤ (IntKind.wrap .i64 (b - (1 : Int))))) = true → (InB data.base data.len a)) ∧ LdW (some (decide (i ≤ (IntKind.wrap .i64 (b - (1 : Int)))))) (shInt .i64) h3 (sat data.base 1 a) fun x3 =>
 EffC (some (decide (i ≤ (IntKind.wrap .i64 (b - (1 : Int)))))) (CallT P n_cmp_Less_int [(.int .i64 x2), (.int .i64 x3)] shBool) (fun r h4 =>
 LetW ((decide (i ≤ (IntKind.wrap .i64 (b - (1 : Int))))) && r) fun y =>
 (if y = true then
 again (IntKind.wrap .i64 (i + (1 : Int))) h4
 else
 LoopW1 (α1 := Int) (fun again1 j h5 =>
 (((decide (i ≤ j)) = true → (InB data.base data.len j)) ∧ LdW (some (decide (i ≤ j))) (shInt .i64) h5 (sat data.base 1 j) fun x4 =>
 (((decide (i ≤ j)) = true → (InB data.base data.len a)) ∧ LdW (some (decide (i ≤ j))) (shInt .i64) h5 (sat data.base 1 a) fun x5 =>
 EffC (some (decide (i ≤ j))) (CallT P n_cmp_Less_int [(.int .i64 x4), (.int .i64 x5)] shBool) (fun r1 h6 =>
 LetW ((decide (i ≤ j)) && (!r1)) fun y1 =>
 (if y1 = true then
 again1 (IntKind.wrap .i64 (j - (1 : Int))) h6
 else
 (if (decide (i > j)) = true then
 ((InB data.base data.len a) ∧ LdW none (shInt .i64) h6 (sat data.base 1 a) fun x6 =>
 ((InB data.base data.len j) ∧ LdW none (shInt .i64) h6 (sat data.base 1 j) fun x7 =>
 ((InB data.base data.len j) ∧ StW h6 (sat data.base 1 j) [(.int .i64 x6)] (fun h7 =>
 ((InB data.base data.len a) ∧ StW h7 (sat data.base 1 a) [(.int .i64 x7)] (fun h8 =>
 Q j true h8))))))
 else
 ((InB data.base data.len j) ∧ LdW none (shInt .i64) h6 (sat data.base 1 j) fun x6 =>
 ((InB data.base data.len i) ∧ LdW none (shInt .i64) h6 (sat data.base 1 i) fun x7 =>
 ((InB data.base data.len i) ∧ StW h6 (sat data.base 1 i) [(.int .i64 x6)] (fun h7 =>
 ((InB data.base data.len j) ∧ StW h7 (sat data.base 1 j) [(.int .i64 x7)] (fun h8 =>
 LoopW2 (α1 := Int) (α2 := Int) (fun again2 i1 j1 h9 =>
 LoopW1 (α1 := Int) (fun again3 i2 h10 =>
 (((decide (i2 ≤ j1)) = true → (InB data.base data.len i2)) ∧ LdW (some (decide (i2 ≤ j1))) (shInt .i64) h10 (sat data.base 1 i2) fun x8 =>
 (((decide (i2 ≤ j1)) = true → (InB data.base data.len a)) ∧ LdW (some (decide (i2 ≤ j1))) (shInt .i64) h10 (sat data.base 1 a) fun x9 =>
 EffC (some (decide (i2 ≤ j1))) (CallT P n_cmp_Less_int [(.int .i64 x8), (.int .i64 x9)] shBool) (fun r2 h11 =>
 LetW ((decide (i2 ≤ j1)) && r2) fun y2 =>
 (if y2 = true then
 again3 (IntKind.wrap .i64 (i2 + (1 : Int))) h11
 else
 LoopW1 (α1 := Int) (fun again4 j2 h12 =>
 (((decide (i2 ≤ j2)) = true → (InB data.base data.len j2)) ∧ LdW (some (decide (i2 ≤ j2))) (shInt .i64) h12 (sat data.base 1 j2) fun x10 =>
 (((decide (i2 ≤ j2)) = true → (InB data.base data.len a)) ∧ LdW (some (decide (i2 ≤ j2))) (shInt .i64) h12 (sat data.base 1 a) fun x11 =>
 EffC (some (decide (i2 ≤ j2))) (CallT P n_cmp_Less_int [(.int .i64 x10), (.int .i64 x11)] shBool) (fun r3 h13 =>
 LetW ((decide (i2 ≤ j2)) && (!r3)) fun y3 =>
 (if y3 = true then
 again4 (IntKind.wrap .i64 (j2 - (1 : Int))) h13
 else
 (if (decide (i2 > j2)) = true then
 ((InB data.base data.len a) ∧ LdW none (shInt .i64) h13 (sat data.base 1 a) fun x12 =>
 ((InB data.base data.len j2) ∧ LdW none (shInt .i64) h13 (sat data.base 1 j2) fun x13 =>
 ((InB data.base data.len j2) ∧ StW h13 (sat data.base 1 j2) [(.int .i64 x12)] (fun h14 =>
 ((InB data.base data.len a) ∧ StW h14 (sat data.base 1 a) [(.int .i64 x13)] (fun h15 =>
 Q j2 false h15))))))
 else
 ((InB data.base data.len j2) ∧ LdW none (shInt .i64) h13 (sat data.base 1 j2) fun x12 =>
 ((InB data.base data.len i2) ∧ LdW none (shInt .i64) h13 (sat data.base 1 i2) fun x13 =>
 ((InB data.base data.len i2) ∧ StW h13 (sat data.base 1 i2) [(.int .i64 x12)] (fun h14 =>
 ((InB data.base data.len j2) ∧ StW h14 (sat data.base 1 j2) [(.int .i64 x13)] (fun h15 =>
 again2 (IntKind.wrap .i64 (i2 + (1 : Int))) (IntKind.wrap .i64 (j2 - (1 : Int))) h15))))))))) h12))) j1 h11)) h10))) i1 h9) (IntKind.wrap .i64 (i + (1 : Int))) (IntKind.wrap .i64 (j - (1 : Int))) h8))))))))) h5))) (IntKind.wrap .i64 (b - (1 : Int))) h4)) h3))) (IntKind.wrap .i64 (a + (1 : Int))) h2))))))

def slices_siftDownOrdered_uint64_w (P : Program) (data : Sl) (lo : Int) (hi : Int) (first : Int) (Q : (Hp → Prop)) (h : Hp) : Prop :=
 LoopW1 (α1 := Int) (fun again root h1 =>
 (if (decide ((IntKind.wrap .i64 ((IntKind.wrap .i64 ((2 : Int) * root)) + (1 : Int))) ≥ hi)) = true then
 Q h1
 else
 JoinW1 (α1 := Int) (fun k =>
 (((decide ((IntKind.wrap .i64 ((IntKind.wrap .i64 ((IntKind.wrap .i64 ((2 : Int) * root)) + (1 : Int))) + (1 : Int))) < hi)) = true → (InB data.base data.len (IntKind.wrap .i64 (first + (IntKind.wrap .i64 ((IntKind.wrap .i64 ((2 : Int) * root)) + (1 : Int))))))) ∧ LdW (some (decide ((IntKind.wrap .i64 ((IntKind.wrap .i64 ((IntKind.wrap .i64 ((2 : Int) * root)) + (1 : Int))) + (1 : Int))) < hi))) (shInt .u64) h1 (sat data.base 1 (IntKind.wrap .i64 (first + (IntKind.wrap .i64 ((IntKind.wrap .i64 ((2 : Int) * root)) + (1 : Int)))))) fun x =>
 (((decide ((IntKind.wrap .i64 ((IntKind.wrap .i64 ((IntKind.wrap .i64 ((2 : Int) * root)) + (1 : Int))) + (1 : Int))) < hi)) = true → (InB data.base data.len (IntKind.wrap .i64 ((IntKind.wrap .i64 (first + (IntKind.wrap .i64 ((IntKind.wrap .i64 ((2 : Int) * root)) + (1 : Int))))) + (1 : Int))))) ∧ LdW (some (decide ((IntKind.wrap .i64 ((IntKind.wrap .i64 ((IntKind.wrap .i64 ((2 : Int) * root)) + (1 : Int))) + (1 : Int))) < hi))) (shInt .u64) h1 (sat data.base 1 (IntKind.wrap .i64 ((IntKind.wrap .i64 (first + (IntKind.wrap .i64 ((IntKind.wrap .i64 ((2 : Int) * root)) + (1 : Int))))) + (1 : Int)))) fun x1 =>
 EffC (some (decide ((IntKind.wrap .i64 ((IntKind.wrap .i64 ((IntKind.wrap .i64 ((2 : Int) * root)) + (1 : Int))) + (1 : Int))) < hi))) (CallT P n_cmp_Less_uint64 [(.int .u64 x), (.int .u64 x1)] shBool) (fun r h2 =>
 LetW ((decide ((IntKind.wrap .i64 ((IntKind.wrap .i64 ((IntKind.wrap .i64 ((2 : Int) * root)) + (1 : Int))) + (1 : Int))) < hi)) && r) fun y =>
 (if y = true then
 k (IntKind.wrap .i64 ((IntKind.wrap .i64 ((IntKind.wrap .i64 ((2 : Int) * root)) + (1 : Int))) + (1 : Int))) h2
 else
 k (IntKind.wrap .i64 ((IntKind.wrap .i64 ((2 : Int) * root)) + (1 : Int))) h2)) h1)))
 (fun child h2 =>
 ((InB data.base data.len (IntKind.wrap .i64 (first + root))) ∧ LdW none (shInt .u64) h2 (sat data.base 1 (IntKind.wrap .i64 (first + root))) fun x =>
 ((InB data.base data.len (IntKind.wrap .i64 (first + child))) ∧ LdW none (shInt .u64) h2 (sat data.base 1 (IntKind.wrap .i64 (first + child))) fun x1 =>
 CallT P n_cmp_Less_uint64 [(.int .u64 x), (.int .u64 x1)] shBool (fun r h3 =>
 (if (!r) = true then
 Q h3
 else
 ((InB data.base data.len (IntKind.wrap .i64 (first + child))) ∧ LdW none (shInt .u64) h3 (sat data.base 1 (IntKind.wrap .i64 (first + child))) fun x2 =>
 ((InB data.base data.len (IntKind.wrap .i64 (first + root))) ∧ LdW none (shInt .u64) h3 (sat data.base 1 (IntKind.wrap .i64 (first + root))) fun x3 =>
 ((InB data.base data.len (IntKind.wrap .i64 (first + root))) ∧ StW h3 (sat data.base 1 (IntKind.wrap .i64 (first + root))) [(.int .u64 x2)] (fun h4 =>
 ((InB data.base data.len (IntKind.wrap .i64 (first + child))) ∧ StW h4 (sat data.base 1 (IntKind.wrap .i64 (first + child))) [(.int .u64 x3)] (fun h5 =>
 again child h5)))))))) h2))))) lo h

def slices_nextPowerOfTwo_w (P : Program) (length : Int) (Q : (Int → (Hp → Prop))) (h : Hp) : Prop :=
 CallT P n_math_bits_Len [(.int .u64 (IntKind.wrap .u64 length))] (shInt .i64) (fun r h1 =>
 ((0 : Int) ≤ r ∧ Q (shlI .u64 (1 : Int) r) h1)) h

def slices_xorshift_Next_w (P : Program) (r : Option Addr) (Q : (Int → (Hp → Prop))) (h : Hp) : Prop :=
 NilW none r fun p =>
 LdW none (shInt .u64) h p fun x =>
 NilW none r fun p1 =>
 LdW none (shInt .u64) h p1 fun x1 =>
 ((0 : Int) ≤ (13 : Int) ∧ NilW none r fun p2 =>
 StW h p2 [(.int .u64 (bitsI .xor .u64 x (shlI .u64 x1 (13 : Int))))] (fun h1 =>
 NilW none r fun p3 =>
 LdW none (shInt .u64) h1 p3 fun x2 =>
 NilW none r fun p4 =>
 LdW none (shInt .u64) h1 p4 fun x3 =>
 ((0 : Int) ≤ (7 : Int) ∧ NilW none r fun p5 =>
 StW h1 p5 [(.int .u64 (bitsI .xor .u64 x2 (shrI .u64 x3 (7 : Int))))] (fun h2 =>
 NilW none r fun p6 =>
 LdW none (shInt .u64) h2 p6 fun x4 =>
 NilW none r fun p7 =>
 LdW none (shInt .u64) h2 p7 fun x5 =>
 ((0 : Int) ≤ (17 : Int) ∧ NilW none r fun p8 =>
 StW h2 p8 [(.int .u64 (bitsI .xor .u64 x4 (shlI .u64 x5 (17 : Int))))] (fun h3 =>
 NilW none r fun p9 =>
 LdW none (shInt .u64) h3 p9 fun x6 =>
 Q x6 h3))))))

def slices_medianAdjacentOrdered_uint64_w (P : Program) (data : Sl) (a : Int) (swaps : Option Addr) (Q : (Int → (Hp → Prop))) (h : Hp) : Prop :=
 CallT P n_slices_medianOrdered_uint64 [data.v, (.int .i64 (IntKind.wrap .i64 (a - (1 : Int)))), (.int .i64 a), (.int .i64 (IntKind.wrap .i64 (a + (1 : Int)))), (.pointer swaps)] (shInt .i64) (fun r h1 =>
 Q r h1) h

def slices_medianOrdered_uint64_w (P : Program) (data : Sl) (a : Int) (b : Int) (c : Int) (swaps : Option Addr) (Q : (Int → (Hp → Prop))) (h : Hp) : Prop :=
 Call2 P n_slices_order2Ordered_uint64 [data.v, (.int .i64 a), (.int .i64 b), (.pointer swaps)] (shInt .i64) (shInt .i64) (fun r r1 h1 =>
 Call2 P n_slices_order2Ordered_uint64 [data.v, (.int .i64 r1), (.int .i64 c), (.pointer swaps)] (shInt .i64) (shInt .i64) (fun r2 r3 h2 =>
 Call2 P n_slices_order2Ordered_uint64 [data.v, (.int .i64 r), (.int .i64 r2), (.pointer swaps)] (shInt .i64) (shInt .i64) (fun r4 r5 h3 =>
 Q r5 h3) h2) h1) h

def cmp_isNaN_uint64_w (P : Program) (x : Int) (Q : (Bool → (Hp → Prop))) (h : Hp) : Prop :=
 Q (x != x) h

def slices_siftDownOrdered_int_w (P : Program) (data : Sl) (lo : Int) (hi : Int) (first : Int) (Q : (Hp → Prop)) (h : Hp) : Prop :=
 LoopW1 (α1 := Int) (fun again root h1 =>
 (if (decide ((IntKind.wrap .i64 ((IntKind.wrap .i64 ((2 : Int) * root)) + (1 : Int))) ≥ hi)) = true then
 Q h1
 else
 JoinW1 (α1 := Int) (fun k =>
 (((decide ((IntKind.wrap .i64 ((IntKind.wrap .i64 ((IntKind.wrap .i64 ((2 : Int) * root)) + (1 : Int))) + (1 : Int))) < hi)) = true → (InB data.base data.len (IntKind.wrap .i64 (first + (IntKind.wrap .i64 ((IntKind.wrap .i64 ((2 : Int) * root)) + (1 : Int))))))) ∧ LdW (some (decide ((IntKind.wrap .i64 ((IntKind.wrap .i64 ((IntKind.wrap .i64 ((2 : Int) * root)) + (1 : Int))) + (1 : Int))) < hi))) (shInt .i64) h1 (sat data.base 1 (IntKind.wrap .i64 (first + (IntKind.wrap .i64 ((IntKind.wrap .i64 ((2 : Int) * root)) + (1 : Int)))))) fun x =>
 (((decide ((IntKind.wrap .i64 ((IntKind.wrap .i64 ((IntKind.wrap .i64 ((2 : Int) * root)) + (1 : Int))) + (1 : Int))) < hi)) = true → (InB data.base data.len (IntKind.wrap .i64 ((IntKind.wrap .i64 (first + (IntKind.wrap .i64 ((IntKind.wrap .i64 ((2 : Int) * root)) + (1 : Int))))) + (1 : Int))))) ∧ LdW (some (decide ((IntKind.wrap .i64 ((IntKind.wrap .i64 ((IntKind.wrap .i64 ((2 : Int) * root)) + (1 : Int))) + (1 : Int))) < hi))) (shInt .i64) h1 (sat data.base 1 (IntKind.wrap .i64 ((IntKind.wrap .i64 (first + (IntKind.wrap .i64 ((IntKind.wrap .i64 ((2 : Int) * root)) + (1 : Int))))) + (1 : Int)))) fun x1 =>
 EffC (some (decide ((IntKind.wrap .i64 ((IntKind.wrap .i64 ((IntKind.wrap .i64 ((2 : Int) * root)) + (1 : Int))) + (1 : Int))) < hi))) (CallT P n_cmp_Less_int [(.int .i64 x), (.int .i64 x1)] shBool) (fun r h2 =>
 LetW ((decide ((IntKind.wrap .i64 ((IntKind.wrap .i64 ((IntKind.wrap .i64 ((2 : Int) * root)) + (1 : Int))) + (1 : Int))) < hi)) && r) fun y =>
 (if y = true then
 k (IntKind.wrap .i64 ((IntKind.wrap .i64 ((IntKind.wrap .i64 ((2 : Int) * root)) + (1 : Int))) + (1 : Int))) h2
 else
 k (IntKind.wrap .i64 ((IntKind.wrap .i64 ((2 : Int) * root)) + (1 : Int))) h2)) h1)))
 (fun child h2 =>
 ((InB data.base data.len (IntKind.wrap .i64 (first + root))) ∧ LdW none (shInt .i64) h2 (sat data.base 1 (IntKind.wrap .i64 (first + root))) fun x =>
 ((InB data.base data.len (IntKind.wrap .i64 (first + child))) ∧ LdW none (shInt .i64) h2 (sat data.base 1 (IntKind.wrap .i64 (first + child))) fun x1 =>
 CallT P n_cmp_Less_int [(.int .i64 x), (.int .i64 x1)] shBool (fun r h3 =>
 (if (!r) = true then
 Q h3
 else
 ((InB data.base data.len (IntKind.wrap .i64 (first + child))) ∧ LdW none (shInt .i64) h3 (sat data.base 1 (IntKind.wrap .i64 (first + child))) fun x2 =>
 ((InB data.base data.len (IntKind.wrap .i64 (first + root))) ∧ LdW none (shInt .i64) h3 (sat data.base 1 (IntKind.wrap .i64 (first + root))) fun x3 =>
 ((InB data.base data.len (IntKind.wrap .i64 (first + root))) ∧ StW h3 (sat data.base 1 (IntKind.wrap .i64 (first + root))) [(.int .i64 x2)] (fun h4 =>
 ((InB data.base data.len (IntKind.wrap .i64 (first + child))) ∧ StW h4 (sat data.base 1 (IntKind.wrap .i64 (first + child))) [(.int .i64 x3)] (fun h5 =>
 again child h5)))))))) h2))))) lo h

def slices_medianAdjacentOrdered_int_w (P : Program) (data : Sl) (a : Int) (swaps : Option Addr) (Q : (Int → (Hp → Prop))) (h : Hp) : Prop :=
 CallT P n_slices_medianOrdered_int [data.v, (.int .i64 (IntKind.wrap .i64 (a - (1 : Int)))), (.int .i64 a), (.int .i64 (IntKind.wrap .i64 (a + (1 : Int)))), (.pointer swaps)] (shInt .i64) (fun r h1 =>
 Q r h1) h

def slices_medianOrdered_int_w (P : Program) (data : Sl) (a : Int) (b : Int) (c : Int) (swaps : Option Addr) (Q : (Int → (Hp → Prop))) (h : Hp) : Prop :=
 Call2 P n_slices_order2Ordered_int [data.v, (.int .i64 a), (.int .i64 b), (.pointer swaps)] (shInt .i64) (shInt .i64) (fun r r1 h1 =>
 Call2 P n_slices_order2Ordered_int [data.v, (.int .i64 r1), (.int .i64 c), (.pointer swaps)] (shInt .i64) (shInt .i64) (fun r2 r3 h2 =>
 Call2 P n_slices_order2Ordered_int [data.v, (.int .i64 r), (.int .i64 r2), (.pointer swaps)] (shInt .i64) (shInt .i64) (fun r4 r5 h3 =>
 Q r5 h3) h2) h1) h

def cmp_isNaN_int_w (P : Program) (x : Int) (Q : (Bool → (Hp → Prop))) (h : Hp) : Prop :=
 Q (x != x) h

def slices_order2Ordered_uint64_w (P : Program) (data : Sl) (a : Int) (b : Int) (swaps : Option Addr) (Q : (Int → (Int → (Hp → Prop)))) (h : Hp) : Prop :=
 ((InB data.base data.len b) ∧ LdW none (shInt .u64) h (sat data.base 1 b) fun x =>
 ((InB data.base data.len a) ∧ LdW none (shInt .u64) h (sat data.base 1 a) fun x1 =>
 CallT P n_cmp_Less_uint64 [(.int .u64 x), (.int .u64 x1)] shBool (fun r h1 =>
 (if r = true then
 NilW none swaps fun p =>
 LdW none (shInt .i64) h1 p fun x2 =>
 NilW none swaps fun p1 =>
 StW h1 p1 [(.int .i64 (IntKind.wrap .i64 (x2 + (1 : Int))))] (fun h2 =>
 Q b a h2)
 else
 Q a b h1)) h))

def slices_order2Ordered_int_w (P : Program) (data : Sl) (a : Int) (b : Int) (swaps : Option Addr) (Q : (Int → (Int → (Hp → Prop)))) (h : Hp) : Prop :=
 ((InB data.base data.len b) ∧ LdW none (shInt .i64) h (sat data.base 1 b) fun x =>
 ((InB data.base data.len a) ∧ LdW none (shInt .i64) h (sat data.base 1 a) fun x1 =>
 CallT P n_cmp_Less_int [(.int .i64 x), (.int .i64 x1)] shBool (fun r h1 =>
 (if r = true then
 NilW none swaps fun p =>
 LdW none (shInt .i64) h1 p fun x2 =>
 NilW none swaps fun p1 =>
 StW h1 p1 [(.int .i64 (IntKind.wrap .i64 (x2 + (1 : Int))))] (fun h2 =>
 Q b a h2)
 else
 Q a b h1)) h))

end Lf

