/-
  Fields of elements; parts of slices by their places; copies into a block.
-/
import Derived.Test.YtoffikpplbiohaaLfOps
namespace Lf
open Go

section
variable {α : Type} {h : Hp} {sz : Nat} {enc : α → List Value} {l : Sl} {xs : List α}

theorem Rw.fld (r : Rw h sz enc l xs) (henc : ∀ x, (enc x).length = sz) (hsz : 0 < sz) {sh : Shape} (g : α → sh.T) {j : Nat} (hg : ∀ x, ((enc x).drop j).take (cellsL (sh.enc (g x))).length = cellsL (sh.enc (g x))) {i : Int} (h0 : 0 ≤ i) (h1 : i < (xs.length : Int))
    {K : sh.T → Prop} (hk : ∀ x, xs[i.toNat]? = some x → K (g x)) : InB l.base l.len i ∧ LdW none sh h ((sat l.base sz i).add j) K := by
  obtain ⟨e1, x, hx, hl⟩ := r.read henc hsz h0 (by rw [r.1]; exact h1)
  refine ⟨e1, g x, fun q v hv => ?_, hk x hx⟩
  rw [add_add]
  refine hl (j + q) v ?_
  rw [← hg x, List.getElem?_take] at hv
  split at hv
  · rw [List.getElem?_drop] at hv; exact hv
  · cases hv

theorem Rw.fldC (r : Rw h sz enc l xs) (henc : ∀ x, (enc x).length = sz) (hsz : 0 < sz) {sh : Shape} (g : α → sh.T) {j : Nat} (hg : ∀ x, ((enc x).drop j).take (cellsL (sh.enc (g x))).length = cellsL (sh.enc (g x))) (x0 : sh.T) {c : Bool} {i : Int} (h0 : c = true → 0 ≤ i ∧ i < (xs.length : Int))
    {K : sh.T → Prop} (hk : ∀ y, (c = true → ∃ x, xs[i.toNat]? = some x ∧ y = g x) → K y) : (c = true → InB l.base l.len i) ∧ LdW (some c) sh h ((sat l.base sz i).add j) K := by
  cases c with
  | false => exact ⟨fun e => (by cases e), x0, fun e => (by cases e), hk x0 fun e => (by cases e)⟩
  | true =>
    obtain ⟨h0, h1⟩ := h0 rfl
    obtain ⟨e1, y, hy, hk'⟩ := r.fld henc hsz g hg h0 h1 (K := fun y => ∃ x, xs[i.toNat]? = some x ∧ y = g x) fun x hx => ⟨x, hx, rfl⟩
    exact ⟨fun _ => e1, y, fun _ => hy, hk y fun _ => hk'⟩

theorem sbase_at {b o a c : Nat} (hne : c ≠ a) : sbase (some ⟨b, o, none⟩) sz a c = some ⟨b, o + a * sz, none⟩ := by
  unfold sbase
  rw [if_neg hne]
  show some ((⟨b, o, none⟩ : Addr).add (a * sz)) = _
  rw [box_add]

theorem Blk.rd {b : Nat} {cs new : List Value} (k : Blk h b cs) {off n : Nat} (hn : new.length = n) (e : (cs.drop off).take n = new) : RdCells h (some ⟨b, off, none⟩) n new := ⟨hn, .inr ⟨_, rfl, k.ldIs e⟩⟩

theorem copyW_blk {b off dl dc n : Nat} {cs new : List Value} {x : Sl} {K : Int → Hp → Prop} (kb : Blk h b cs) (hn : min x.len dl = n) (hr : RdCells h x.base (n * sz) new) (hok : okCells new = true) (hl : off + n * sz ≤ cs.length)
    (hk : ∀ h', Mv [b] h [b] h' → Blk h' b (cs.take off ++ new ++ cs.drop (off + n * sz)) → K (n : Nat) h') : CopyW sz ⟨some ⟨b, off, none⟩, dl, dc⟩ x K h := by
  subst hn
  have hlen : new.length = min x.len dl * sz := hr.1
  refine ⟨new, hr, hok, fun a ha => ?_, ?_⟩
  · cases ha
    exact kb.stOk _ hl
  · obtain ⟨p1, p2⟩ := kb.put (off := off) (new := new) (by rw [hlen]; exact hl)
    have e : putO h (some ⟨b, off, none⟩) 0 new = putL h ⟨b, off, none⟩ new 0 := by simp only [putO, box_add, Nat.add_zero]
    show K _ (putO h (some ⟨b, off, none⟩) 0 new)
    rw [e]
    rw [hlen] at p1
    exact hk _ (Mv.of_other p2) p1

/-- Zero values are appended where there is no room. -/
theorem appZ_new {bytes : Nat} {zero : List Value} {l : Sl} {m : Int} {old : List Value} {K : Sl → Hp → Prop} (hm : 0 ≤ m) (hr : RdCells h l.base (l.len * sz) old) (hb : l.len + m.toNat ≤ 140737488355328 ∧ (l.len + m.toNat) * bytes ≤ 140737488355328)
    (hz : okCells (zerosL zero m.toNat) = true) (hfull : l.cap < l.len + m.toNat) (hk : ∀ b c h', h b = none → l.len + m.toNat ≤ c → h ≤ h' → Mv [] h [b] h' → Blk h' b (old ++ zerosL zero m.toNat ++ zerosL zero (c - (l.len + m.toNat))) → K ⟨some ⟨b, 0, none⟩, l.len + m.toNat, c⟩ h') :
    AppendZW sz bytes zero l m K h :=
  ⟨hm, old, hr, hb, hz, fun h1 => absurd h1 (by omega), fun _ c b t hc hbn => hk b c _ hbn hc (set_new hbn) (Mv.new hbn) ⟨t, set_self⟩⟩

/-- Append in place, of cells that may lie in the same block. -/
theorem app_in {bytes b off ll lc n : Nat} {zero : List Value} {x : Sl} {cs new old : List Value} {K : Sl → Hp → Prop} (kb : Blk h b cs) (hro : RdCells h (some ⟨b, off, none⟩) (ll * sz) old) (hrn : RdCells h x.base (x.len * sz) new) (hn : x.len = n) (hok : okCells new = true)
    (hb : ll + n ≤ 140737488355328 ∧ (ll + n) * bytes ≤ 140737488355328) (hroom : ll + n ≤ lc) (hl : off + ll * sz + n * sz ≤ cs.length)
    (hk : ∀ h', Mv [b] h [b] h' → Blk h' b (cs.take (off + ll * sz) ++ new ++ cs.drop (off + ll * sz + n * sz)) → K ⟨some ⟨b, off, none⟩, ll + n, lc⟩ h') : AppendW sz bytes zero ⟨some ⟨b, off, none⟩, ll, lc⟩ x K h := by
  subst hn
  have hlen : new.length = x.len * sz := hrn.1
  refine ⟨new, hrn, old, hro, hb, hok, fun _ => ⟨fun a ha => ?_, ?_⟩, fun h1 => absurd h1 (by show ¬ lc < ll + x.len; omega)⟩
  · cases ha
    rw [box_add]
    exact kb.stOk _ hl
  · obtain ⟨p1, p2⟩ := kb.put (off := off + ll * sz) (new := new) (by rw [hlen]; exact hl)
    have e : putO h (some ⟨b, off, none⟩) (ll * sz) new = putL h ⟨b, off + ll * sz, none⟩ new 0 := by simp only [putO, box_add]
    show K _ (putO h (some ⟨b, off, none⟩) (ll * sz) new)
    rw [e]
    rw [hlen] at p1
    exact hk _ (Mv.of_other p2) p1

theorem set_split {xs : List α} {i : Nat} (x : α) (hi : i < xs.length) : xs.set i x = xs.take i ++ x :: xs.drop (i + 1) := by
  rw [List.set_eq_take_append_cons_drop, if_pos hi]

/-- An element is written over. -/
theorem OwnF.store {F : List Nat} (o : OwnF h sz enc l xs F) (henc : ∀ x, (enc x).length = sz) {i : Int} (h0 : 0 ≤ i) (h1 : i < (xs.length : Int)) (x : α) {K : Hp → Prop} (hk : ∀ h', OwnF h' sz enc l (xs.set i.toNat x) F → Mv F h F h' → K h') :
    InB l.base l.len i ∧ StW h (sat l.base sz i) (enc x) K := by
  obtain ⟨o1, o2, o3⟩ := o
  rcases o3 with ⟨_, e2, _⟩ | ⟨b, cs, e1, rfl, kb, e4, e5⟩
  · omega
  · refine ⟨⟨by rw [e1]; simp, h0, by omega⟩, ?_⟩
    have hi : i.toNat < xs.length := by omega
    have ha : sat l.base sz i = ⟨b, i.toNat * sz, none⟩ := by unfold sat; rw [e1, Option.getD_some, box_add, Nat.zero_add]
    rw [ha]
    have hmul : i.toNat * sz + sz ≤ l.len * sz := by
      have := Nat.mul_le_mul_right sz (show i.toNat + 1 ≤ l.len by omega)
      rw [Nat.add_mul, Nat.one_mul] at this
      exact this
    have hmul2 : l.len * sz ≤ l.cap * sz := Nat.mul_le_mul_right sz o2
    refine stW_blk kb (by rw [henc, e4]; omega) fun h' m' k' => ?_
    rw [henc] at k'
    refine hk h' ⟨by simp [o1], o2, .inr ⟨b, _, e1, rfl, k', ?_, ?_⟩⟩ m'
    · simp only [List.length_append, List.length_take, List.length_drop, henc, e4]
      omega
    · rw [set_split x hi]
      have t1 : cs.take (i.toNat * sz) = (xs.take i.toNat).flatMap enc := by
        rw [flat_take henc, ← e5, List.take_take]; congr 1; omega
      have t2 : (cs.drop (i.toNat * sz + sz)).take (l.len * sz - (i.toNat * sz + sz)) = (xs.drop (i.toNat + 1)).flatMap enc := by
        rw [flat_drop henc, ← e5, Nat.add_mul, Nat.one_mul, List.drop_take]
      have hl1 : (cs.take (i.toNat * sz) ++ enc x).length = i.toNat * sz + sz := by
        rw [List.length_append, List.length_take, henc, e4]; omega
      rw [List.take_append, hl1, t2, List.take_of_length_le (by rw [hl1]; exact hmul), t1]
      simp

end
end Lf
