/-
  Slices that hold lists.
-/
import Derived.Test.YtoffikpplbiohaaLfSndT
import Derived.Test.YtoffikpplbiohaaLfWrap
namespace Lf
open Go

/-- The slice holds the list, each element as a row of 'sz' cells. -/
def Rw {α : Type} (h : Hp) (sz : Nat) (enc : α → List Value) (l : Sl) (xs : List α) : Prop :=
  l.len = xs.length ∧ RdCells h l.base (xs.length * sz) (xs.flatMap enc)

section
variable {α : Type} {h h' : Hp} {sz : Nat} {enc : α → List Value} {l : Sl} {xs : List α}

theorem hcell_mono (hl : h ≤ h') {a : Addr} {v : Value} (e : hcell h a = some v) : hcell h' a = some v := by
  unfold hcell at e ⊢
  split at e
  · rename_i c t f hb
    rw [hl _ _ hb]
    exact e
  · cases e

theorem ldIs_mono (hl : h ≤ h') {a : Addr} {cs : List Value} (e : LdIs h a cs) : LdIs h' a cs := fun i v hv => hcell_mono hl (e i v hv)

theorem Rw.mono (hl : h ≤ h') (r : Rw h sz enc l xs) : Rw h' sz enc l xs := by
  obtain ⟨h1, h2, h3⟩ := r
  refine ⟨h1, h2, h3.imp id ?_⟩
  rintro ⟨a, ha, hc⟩
  exact ⟨a, ha, ldIs_mono hl hc⟩

theorem flat_get (henc : ∀ x, (enc x).length = sz) : ∀ (xs : List α) (i : Nat) (x : α), xs[i]? = some x → ∀ j v, (enc x)[j]? = some v → (xs.flatMap enc)[i * sz + j]? = some v
  | [], i, x, hx, _, _, _ => by simp at hx
  | y :: xs, 0, x, hx, j, v, hv => by
    simp at hx
    subst hx
    have hj : j < (enc y).length := (List.getElem?_eq_some_iff.1 hv).1
    simp only [List.flatMap_cons, Nat.zero_mul, Nat.zero_add]
    rw [List.getElem?_append_left hj]
    exact hv
  | y :: xs, i + 1, x, hx, j, v, hv => by
    have := flat_get henc xs i x (by simpa using hx) j v hv
    simp only [List.flatMap_cons]
    have e : (i + 1) * sz + j = sz + (i * sz + j) := by rw [Nat.add_mul]; omega
    rw [List.getElem?_append_right (by rw [henc, e]; omega), henc, e, Nat.add_sub_cancel_left]
    exact this

theorem flat_at (henc : ∀ x, (enc x).length = sz) : ∀ (xs : List α) (i : Nat) (v : Value), (xs.flatMap enc)[i]? = some v → ∃ q x j, xs[q]? = some x ∧ (enc x)[j]? = some v ∧ i = q * sz + j
  | [], i, v, hv => by simp at hv
  | y :: xs, i, v, hv => by
    simp only [List.flatMap_cons] at hv
    by_cases hi : i < (enc y).length
    · rw [List.getElem?_append_left hi] at hv
      exact ⟨0, y, i, rfl, hv, by simp⟩
    · rw [List.getElem?_append_right (by omega)] at hv
      obtain ⟨q, x, j, h1, h2, h3⟩ := flat_at henc xs _ v hv
      rw [henc] at h3 hi
      exact ⟨q + 1, x, j, by simpa using h1, h2, by rw [Nat.add_mul]; omega⟩

theorem Rw.read (r : Rw h sz enc l xs) (henc : ∀ x, (enc x).length = sz) (hsz : 0 < sz) {i : Int} (h0 : 0 ≤ i) (h1 : i < (l.len : Int)) :
    InB l.base l.len i ∧ ∃ x, xs[i.toNat]? = some x ∧ LdIs h (sat l.base sz i) (enc x) := by
  obtain ⟨h2, h3, h4⟩ := r
  have hi : i.toNat < xs.length := by omega
  have hne : xs.length * sz ≠ 0 := by
    have : 0 < xs.length := by omega
    exact Nat.ne_of_gt (Nat.mul_pos this hsz)
  obtain ⟨a, ha, hc⟩ := h4.resolve_left hne
  refine ⟨⟨by simp [ha], h0, h1⟩, xs[i.toNat], by simp [hi], fun j v hv => ?_⟩
  have := hc (i.toNat * sz + j) v (flat_get henc xs i.toNat _ (by simp [hi]) j v hv)
  unfold sat
  rw [ha, Option.getD_some, add_add]
  exact this

/-- A slice in a block of its own, that was not known at the start. -/
def Own (h0 h : Hp) (sz : Nat) (enc : α → List Value) (l : Sl) (xs : List α) : Prop :=
  l.len = xs.length ∧ l.len ≤ l.cap ∧ ((l.base = none ∧ l.cap = 0) ∨
    ∃ (b : Nat) (cs : List Value) (t : Nat), l.base = some ⟨b, 0, none⟩ ∧ h b = some (.cells cs.toArray t (0, 0)) ∧ cs.length = l.cap * sz ∧ cs.take (l.len * sz) = xs.flatMap enc ∧ h0 b = none)

theorem flat_len (henc : ∀ x, (enc x).length = sz) : ∀ xs : List α, (xs.flatMap enc).length = xs.length * sz
  | [] => by simp
  | x :: xs => by
    simp only [List.flatMap_cons, List.length_append, henc, flat_len henc xs, List.length_cons, Nat.add_mul, Nat.one_mul]
    omega

theorem flat_ok (hok : ∀ x, okCells (enc x) = true) : ∀ xs : List α, okCells (xs.flatMap enc) = true := by
  have app : ∀ a b : List Value, okCells a = true → okCells b = true → okCells (a ++ b) = true := by
    intro a b ha hb
    induction a with
    | nil => exact hb
    | cons v a ih => cases v <;> first | (exact ih ha) | (cases ha)
  intro xs
  induction xs with
  | nil => rfl
  | cons x xs ih => exact app _ _ (hok x) ih

theorem hcell_block0 {b : Nat} {cs : List Value} {t : Nat} (e : h b = some (.cells cs.toArray t (0, 0))) (i : Nat) : hcell h ⟨b, i, none⟩ = cs[i]? := by
  unfold hcell
  simp [e]

theorem Own.rw {h0 : Hp} (o : Own h0 h sz enc l xs) (henc : ∀ x, (enc x).length = sz) : Rw h sz enc l xs := by
  obtain ⟨h1, h2, h3⟩ := o
  refine ⟨h1, flat_len henc xs, ?_⟩
  rcases h3 with ⟨e, ec⟩ | ⟨b, cs, t, e, hb, hl, ht, _⟩
  · left
    have : xs.length = 0 := by omega
    rw [this, Nat.zero_mul]
  · right
    refine ⟨_, e, fun j v hv => ?_⟩
    rw [box_add, hcell_block0 hb, Nat.zero_add]
    rw [← ht, List.getElem?_take] at hv
    split at hv
    · exact hv
    · cases hv

theorem Own.mono {h0 : Hp} (hl : h ≤ h') (o : Own h0 h sz enc l xs) : Own h0 h' sz enc l xs := by
  obtain ⟨h1, h2, h3⟩ := o
  refine ⟨h1, h2, h3.imp id ?_⟩
  rintro ⟨b, cs, t, e1, e2, e3⟩
  exact ⟨b, cs, t, e1, hl _ _ e2, e3⟩

theorem app_own {h0 : Hp} {zero : List Value} {bytes : Nat} {x : Sl} {ys : List α} {K : Sl → Hp → Prop} (hw : h0 ≤ h) (o : Own h0 h sz enc l xs) (r : Rw h sz enc x ys) (henc : ∀ x, (enc x).length = sz) (hok : ∀ x, okCells (enc x) = true)
    (hz : zero.length = sz) (hb : xs.length + ys.length ≤ 140737488355328 ∧ (xs.length + ys.length) * bytes ≤ 140737488355328)
    (hk : ∀ l' h', h0 ≤ h' → Own h0 h' sz enc l' (xs ++ ys) → (∀ b ob, h b = some ob → (∀ a, l.base = some a → a.block ≠ b) → h' b = some ob) → K l' h') : AppendW sz bytes zero l x K h := by
  have hrw := o.rw henc
  obtain ⟨h1, h2, h3⟩ := o
  obtain ⟨hx1, hx2⟩ := r
  refine ⟨ys.flatMap enc, by rw [hx1]; exact hx2, xs.flatMap enc, by rw [h1]; exact hrw.2, by rw [h1, hx1]; exact hb, flat_ok hok ys, fun hcap => ?_, fun hcap c b t hc hbn => ?_⟩
  · rcases h3 with ⟨e, ec⟩ | ⟨b, cs, t, e, hbk, hl, ht, hn⟩
    · -- nothing is put
      have e1 : ys.length = 0 := by omega
      have e2 : ys = [] := List.length_eq_zero_iff.1 e1
      subst e2
      refine ⟨fun a ha => (by rw [e] at ha; cases ha), ?_⟩
      have e3 : putO h l.base (l.len * sz) (([] : List α).flatMap enc) = h := by rw [e]; rfl
      rw [e3, hx1]
      refine hk _ h hw ⟨by simp [h1], by simpa using h2, .inl ⟨e, ec⟩⟩ fun _ _ e _ => e
    · have hle : l.len * sz + (ys.flatMap enc).length ≤ cs.length := by
        rw [hl, flat_len henc, ← Nat.add_mul]
        exact Nat.mul_le_mul_right sz (by omega)
      obtain ⟨p1, p2⟩ := put_cells b t (ys.flatMap enc) h 0 (l.len * sz) cs (by simpa using hle) hbk
      have hst : ∀ (k : Nat), l.len * sz + k ≤ cs.length → StOk h (⟨b, l.len * sz, none⟩ : Addr) k := by
        intro k
        induction k with
        | zero => intro _; trivial
        | succ k ih =>
          intro hk'
          refine ⟨ih (by omega), ⟨cs[l.len * sz + k]'(by omega), ?_⟩, ?_⟩
          · rw [box_add, hcell_block0 hbk]
            simp
          · rw [box_add]
            unfold hfroz
            simp [hbk]
      refine ⟨fun a ha => ?_, ?_⟩
      · rw [e] at ha; cases ha
        rw [box_add, Nat.zero_add]
        refine hst _ ?_
        rw [hx1, ← flat_len henc ys]
        exact hle
      · have e3 : putO h l.base (l.len * sz) (ys.flatMap enc) = putL h ⟨b, l.len * sz, none⟩ (ys.flatMap enc) 0 := by
          rw [e]
          simp only [putO, box_add, Nat.zero_add]
        rw [e3]
        rw [Nat.add_zero] at p1
        refine hk _ _ (fun b' ob eb => ?_) ⟨by simp [h1, hx1], hcap, .inr ⟨b, _, t, e, p1, ?_, ?_, hn⟩⟩ fun b' ob eb hne => ?_
        · have hne : b' ≠ b := fun e' => by rw [e', hn] at eb; cases eb
          rw [p2 b' hne]
          exact hw _ _ eb
        · rw [layL_length _ _ _ hle, hl]
        · rw [layL_eq _ _ _ hle]
          have e4 : (l.len + x.len) * sz = (cs.take (l.len * sz) ++ ys.flatMap enc).length := by
            rw [List.length_append, ht, flat_len henc, flat_len henc, h1, hx1, Nat.add_mul]
          rw [e4, List.take_left, ht, List.flatMap_append]
        · rw [p2 b' fun e' => hne _ e e'.symm]
          exact eb
  · have hh : ∀ b' ob, h b' = some ob → (h.set b (.cells (xs.flatMap enc ++ ys.flatMap enc ++ zerosL zero (c - (l.len + x.len))).toArray t (0, 0))) b' = some ob := fun b' ob eb => by
      have hne : b' ≠ b := fun e' => by rw [e', hbn] at eb; cases eb
      simp [Hp.set, hne, eb]
    refine hk _ _ (fun b' ob eb => hh b' ob (hw _ _ eb)) ⟨by simp [h1, hx1], hc, .inr ⟨b, xs.flatMap enc ++ ys.flatMap enc ++ zerosL zero (c - (l.len + x.len)), t, rfl, by simp [Hp.set], ?_, ?_, ?_⟩⟩ fun b' ob eb _ => hh b' ob eb
    · have hzl : ∀ k, (zerosL zero k).length = k * sz := fun k => by simp [zerosL, hz]
      rw [List.length_append, List.length_append, flat_len henc, flat_len henc, hzl, ← Nat.add_mul, ← Nat.add_mul]
      show _ = c * sz
      congr 1
      omega
    · have e4 : (l.len + x.len) * sz = (xs.flatMap enc ++ ys.flatMap enc).length := by
        rw [List.length_append, flat_len henc, flat_len henc, h1, hx1, Nat.add_mul]
      show List.take ((l.len + x.len) * sz) _ = _
      rw [e4, List.take_left, List.flatMap_append]
    · cases e0 : h0 b with
      | none => rfl
      | some ob => rw [hw _ _ e0] at hbn; cases hbn

end

/-- The slice holds a list of values of one type. -/
abbrev Rs (h : Hp) (sh : Shape) (sz : Nat) (l : Sl) (xs : List sh.T) : Prop := Rw h sz (fun x => cellsL (sh.enc x)) l xs

section
variable {h h' : Hp} {sh : Shape} {sz : Nat} {l : Sl} {xs : List sh.T} {K : sh.T → Prop} {i : Int}

theorem Rs.get (r : Rs h sh sz l xs) (henc : ∀ x, (cellsL (sh.enc x)).length = sz) (hsz : 0 < sz) (h0 : 0 ≤ i) (h1 : i < (xs.length : Int)) (hk : ∀ x, xs[i.toNat]? = some x → K x) :
    InB l.base l.len i ∧ LdW none sh h (sat l.base sz i) K := by
  obtain ⟨e1, x, hx, hl⟩ := Rw.read r henc hsz h0 (by rw [r.1]; exact h1)
  exact ⟨e1, x, hl, hk x hx⟩

theorem Rs.getC {c : Bool} (r : Rs h sh sz l xs) (x0 : sh.T) (henc : ∀ x, (cellsL (sh.enc x)).length = sz) (hsz : 0 < sz) (h0 : c = true → 0 ≤ i ∧ i < (xs.length : Int)) (hk : ∀ x, (c = true → xs[i.toNat]? = some x) → K x) :
    (c = true → InB l.base l.len i) ∧ LdW (some c) sh h (sat l.base sz i) K := by
  cases c with
  | false => exact ⟨fun e => (by cases e), x0, fun e => (by cases e), hk x0 fun e => (by cases e)⟩
  | true =>
    obtain ⟨e1, x, hx, hl⟩ := Rw.read r henc hsz (h0 rfl).1 (by rw [r.1]; exact (h0 rfl).2)
    exact ⟨fun _ => e1, x, fun _ => hl, hk x fun _ => hx⟩

theorem ld_at {a : Addr} (x : sh.T) (hl : LdIs h a (cellsL (sh.enc x))) (hk : K x) : LdW none sh h a K := ⟨x, hl, hk⟩

theorem letW {α : Type} {x : α} {K : α → Prop} (hk : K x) : LetW x K := fun _ e => e ▸ hk

theorem wrap64 {n : Int} (h0 : -9223372036854775808 ≤ n) (h1 : n < 9223372036854775808) : IntKind.wrap .i64 n = n := by
  unfold IntKind.wrap
  simp only [IntKind.signed, IntKind.bits]
  first | omega | (simp; omega)

end

theorem nodup_len : ∀ (ys xs : List Int), ys.Nodup → (∀ y ∈ ys, y ∈ xs) → ys.length ≤ xs.length
  | [], xs, _, _ => Nat.zero_le _
  | y :: ys, xs, hn, hs => by
    have hn' := List.nodup_cons.1 hn
    have hy := hs y (List.mem_cons_self ..)
    have := nodup_len ys (xs.erase y) hn'.2 fun z hz => by
      have hne : z ≠ y := fun e => hn'.1 (e ▸ hz)
      exact (List.mem_erase_of_ne hne).2 (hs z (List.mem_cons_of_mem _ hz))
    rw [List.length_erase_of_mem hy] at this
    have hpos : 0 < xs.length := List.length_pos_of_mem hy
    simp only [List.length_cons]
    omega

theorem asc_nodup {ys : List Int} (h : ys.Pairwise (· < ·)) : ys.Nodup := h.imp fun hab => Int.ne_of_lt hab

theorem asc_snoc {ys : List Int} {x : Int} (h : ys.Pairwise (· < ·)) (hx : ∀ z, ys.getLast? = some z → z < x) : (ys ++ [x]).Pairwise (· < ·) := by
  refine List.pairwise_append.2 ⟨h, List.pairwise_singleton _ _, fun a ha b hb => ?_⟩
  rw [List.mem_singleton.1 hb]
  cases hl : ys.getLast? with
  | none => rw [List.getLast?_eq_none_iff.1 hl] at ha; cases ha
  | some z =>
    have hz := hx z hl
    obtain ⟨ys', rfl⟩ := List.getLast?_eq_some_iff.1 hl
    rcases List.mem_append.1 ha with ha | ha
    · have := (List.pairwise_append.1 h).2.2 a ha z (List.mem_singleton.2 rfl)
      omega
    · rw [List.mem_singleton.1 ha]; exact hz

/-- One block that was made here. -/
theorem new_row {α : Type} {h0 h : Hp} {sz : Nat} {enc : α → List Value} {cs : List Value} {xs : List α} {K : Addr → Hp → Prop} (hw : h0 ≤ h) (hc : cs = xs.flatMap enc) (henc : ∀ x, (enc x).length = sz)
    (hk : ∀ a h', h ≤ h' → Own h0 h' sz enc ⟨some a, xs.length, xs.length⟩ xs → K a h') : NewW cs K h := by
  intro b t hb
  have hle : h ≤ h.set b (.cells cs.toArray t (0, 0)) := fun b' o e => by
    have hne : b' ≠ b := fun e' => by rw [e', hb] at e; cases e
    simp [Hp.set, hne, e]
  refine hk _ _ hle ⟨rfl, Nat.le_refl _, .inr ⟨b, cs, t, rfl, by simp [Hp.set], ?_, ?_, ?_⟩⟩
  · rw [hc, flat_len henc]
  · have : (xs.length * sz) = (xs.flatMap enc).length := (flat_len henc xs).symm
    show List.take (xs.length * sz) cs = _
    rw [this, hc, List.take_length]
  · cases e0 : h0 b with
    | none => rfl
    | some ob => rw [hw _ _ e0] at hb; cases hb

end Lf
