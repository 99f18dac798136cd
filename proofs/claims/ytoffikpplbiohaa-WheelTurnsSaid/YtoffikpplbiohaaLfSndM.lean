/-
  The lifting layer, part 17: regions as they stand.
-/
import Derived.Test.YtoffikpplbiohaaLfSndL
namespace Lf
open Go

abbrev Rel (n : Nat) (β : Nat → Nat) (s : St) (a : Act) (h : Hp) (w : World) : Prop :=
  RR n (fun _ => True) (fun _ => True) (fun _ => False) (fun _ => False) β s a h w

abbrev lives (s : St) : Nat → Prop := live s fun _ => True

section
variable {n : Nat} {Cur Liv D N : Nat → Prop} {β : Nat → Nat} {s : St} {a : Act} {h : Hp} {w : World}

theorem holds_any {s s' : St} : holds s [] ↔ holds s' [] := ⟨fun _ => holds_nil _, fun _ => holds_nil _⟩

theorem clean_f {s : St} {t : Nat} {l : LV} {c : Chain} (e : s.clean.f t = some (l, c)) : s.f t = some (l, []) ∧ c = [] := by
  simp only [St.clean] at e
  split at e
  · rename_i l' hf
    cases e
    exact ⟨hf, rfl⟩
  · cases e

theorem RR.clean (hr : RR n (fun _ => True) (fun _ => True) D N β s a h w) : Rel n β s.clean a h w := by
  refine ⟨hr.sz, hr.sub, fun t l c e => hr.lt t l _ (clean_f e).1, fun t l c e p hp => ?_, fun t l c e _ _ => hr.cur t l _ (clean_f e).1 trivial (holds_nil _), fun t l c e _ hh => ?_, hr.box, hr.inj, fun _ e => e.elim, fun _ e => e.elim⟩
  · rw [(clean_f e).2] at hp; cases hp
  · rw [(clean_f e).2] at hh; exact absurd (holds_nil _) hh

theorem dropL'_some {l : List Nat} {x : Option (LV × Chain)} {v : LV} {c : Chain} (e : dropL' l x = some (v, c)) : x = some (v, c) ∧ ∀ k o, (v = .box k o ∨ v = .boxd k o) → k ∉ l := by
  unfold dropL' at e
  split at e
  · rename_i k o c'
    cases hk : has l k with
    | true => simp [hk] at e
    | false =>
      simp only [hk, cond_false] at e
      cases e
      refine ⟨rfl, fun k' o' e' => ?_⟩
      rcases e' with e' | e' <;> cases e'
      exact has_false hk
  · rename_i k o c'
    cases hk : has l k with
    | true => simp [hk] at e
    | false =>
      simp only [hk, cond_false] at e
      cases e
      refine ⟨rfl, fun k' o' e' => ?_⟩
      rcases e' with e' | e' <;> cases e'
      exact has_false hk
  · cases e
    exact ⟨rfl, fun k' o' e' => by rcases e' with e' | e' <;> cases e'⟩
  · cases e

theorem drop_f {l : List Nat} {t : Nat} {v : LV} {c : Chain} (e : (s.dropB l).f t = some (v, c)) : s.f t = some (v, c) ∧ ∀ k o, (v = .box k o ∨ v = .boxd k o) → k ∉ l := by
  cases l with
  | nil => exact ⟨e, fun _ _ _ e => by cases e⟩
  | cons x l => exact dropL'_some e

theorem drop_m {l : List Nat} {k : Nat} {cs : List Value} (e : (s.dropB l).m k = some cs) : s.m k = some cs ∧ k ∉ l := by
  cases l with
  | nil => exact ⟨e, fun e => by cases e⟩
  | cons x l =>
    simp only [St.dropB] at e
    cases hk : has (x :: l) k with
    | true => simp [hk] at e
    | false =>
      simp only [hk, cond_false] at e
      exact ⟨e, has_false hk⟩

theorem RR.start (hr : Rel n β s a h w) (l : List Nat) : RR n (fun _ => True) (fun k => k ∉ l) (fun _ => False) (fun k => k ∈ l) β (s.dropB l) a h w := by
  refine ⟨hr.sz, hr.sub, fun t v c e => hr.lt t v c (drop_f e).1, fun t v c e => hr.chain t v c (drop_f e).1, fun t v c e _ hh => ?_, fun t v c e _ hh => ?_, fun k cs e _ => hr.box k cs (drop_m e).1 trivial, fun k k' e e' _ _ he => ?_, fun k hk => ?_, fun k hk t v c e _ o => ?_⟩
  · have hc : c = [] := by
      cases c with
      | nil => rfl
      | cons p c => exact (hr.chain t v _ (drop_f e).1 p (List.mem_cons_self ..)).elim
    subst hc
    exact ⟨(hr.cur t v [] (drop_f e).1 trivial (holds_nil _)).1, (drop_f e).2⟩
  · have hc : c = [] := by
      cases c with
      | nil => rfl
      | cons p c => exact (hr.chain t v _ (drop_f e).1 p (List.mem_cons_self ..)).elim
    subst hc
    exact absurd (holds_nil _) hh
  · obtain ⟨cs, e1⟩ := Option.ne_none_iff_exists'.1 e
    obtain ⟨cs', e1'⟩ := Option.ne_none_iff_exists'.1 e'
    exact hr.inj k k' (by simp [(drop_m e1).1]) (by simp [(drop_m e1').1]) trivial trivial he
  · cases e : (s.dropB l).m k with
    | none => rfl
    | some cs => exact absurd hk (drop_m e).2
  · exact ⟨fun e' => (drop_f e).2 k o (.inl e') hk, fun e' => (drop_f e).2 k o (.inr e') hk⟩

theorem live_drop {l : List Nat} {k : Nat} (e : live (s.dropB l) (fun k => k ∉ l) k) : lives s k := by
  obtain ⟨cs, e1⟩ := Option.ne_none_iff_exists'.1 e.1
  exact ⟨by simp [(drop_m e1).1], trivial⟩

theorem modsO_append : ∀ (x y : List Oper), modsO (x ++ y) = modsO x ++ modsO y
  | [], y => rfl
  | o :: x, y => by
    simp only [List.cons_append, modsO, modsO_append x y]
    cases o.dst <;> rfl

theorem modsO_mem {l : List Oper} {o : Oper} {d : Nat} (hm : o ∈ l) (hd : o.dst = some d) : d ∈ modsO l := by
  induction l with
  | nil => cases hm
  | cons p l ih =>
    rcases List.mem_cons.1 hm with rfl | hm
    · simp [modsO, hd]
    · have := ih hm
      simp only [modsO]
      cases p.dst <;> simp [this]

theorem nodup_iff : ∀ {l : List Nat}, nodup l = true → l.Nodup
  | [], _ => .nil
  | a :: l, h => by
    simp only [nodup] at h
    cases ha : has l a with
    | true => simp [ha] at h
    | false =>
      simp only [ha, cond_false] at h
      exact List.nodup_cons.2 ⟨has_false ha, nodup_iff h⟩

theorem noGuard_mem {l : List Oper} {o : Oper} (h : noGuard l = true) (hm : o ∈ l) : o.guard = none := by
  induction l with
  | nil => cases hm
  | cons p l ih =>
    simp only [noGuard] at h
    split at h
    · rename_i hp
      rcases List.mem_cons.1 hm with rfl | hm
      · exact hp
      · exact ih h hm
    · cases h

theorem guardsBack_get : ∀ {l : List Oper} {i j : Nat} {o : Oper} {g : Nat} {b : Bool}, guardsBack l i = true → l[j]? = some o → o.guard = some (g, b) → g < i + j
  | [], _, _, _, _, _, _, e, _ => by simp at e
  | p :: l, i, 0, o, g, b, h, e, hg => by
    simp at e
    subst e
    simp only [guardsBack, hg] at h
    cases hb : Nat.blt g i with
    | true => simp [Nat.blt] at hb; omega
    | false => simp [hb] at h
  | p :: l, i, j + 1, o, g, b, h, e, hg => by
    simp at e
    have h' : guardsBack l (i + 1) = true := by
      simp only [guardsBack] at h
      split at h
      · exact h
      · rename_i j' b' _
        cases hb : Nat.blt j' i with
        | true => simpa [hb] using h
        | false => simp [hb] at h
    have := guardsBack_get h' e hg
    omega

theorem privA_allocs {priv : List Nat} {o : Oper} {d : Nat} {r : List Oper} (h : privA priv o d) : allocsOf priv (o :: r) = d :: allocsOf priv r := by
  simp [allocsOf, h.1, h.2]

theorem notA_allocs {priv : List Nat} {o : Oper} {r : List Oper} (h : ∀ d, ¬ privA priv o d) : allocsOf priv (o :: r) = allocsOf priv r := by
  cases hp : isPrivAlloc priv o with
  | false => simp [allocsOf, hp]
  | true =>
    cases hd : o.dst with
    | none => simp [allocsOf, hp, hd]
    | some d => exact absurd ⟨hp, hd⟩ (h d)

theorem seq_sound {C : Ctx} (ok : C.tb.Ok C.P) {ops : Array Oper} {mok : List Nat} {K : St → Hp → Prop} {Q : Exit → Act → World → Prop} (g : Bool)
    (hlt : ∀ d ∈ modsO ops.toList, d < n) (hg : g = false → noGuard ops.toList = true) (hg' : g = true → (modsO ops.toList).Nodup ∧ guardsBack ops.toList 0 = true) :
    ∀ (r pre : List Oper) (β : Nat → Nat) (s : St) (a : Act) (h : Hp) (w : World), ops.toList = pre ++ r → (allocsOf C.priv r).Nodup → seqW C ops.toList mok r s h K →
      RR n (fun _ => True) (fun k => k ∉ allocsOf C.priv r) (fun t => g = true ∧ t ∈ modsO pre) (fun k => k ∈ allocsOf C.priv r) β s a h w →
      (∀ s' h' β' a' w', K s' h' → RR n (fun _ => True) (fun _ => True) (fun t => g = true ∧ t ∈ modsO ops.toList) (fun _ => False) β' s' a' h' w' →
        Seg (modsO ops.toList) mok (live s fun k => k ∉ allocsOf C.priv r) β a h w (lives s') β' a' h' w' → Q .normal a' w') →
      wpOps C.P ops Q (List.range' pre.length r.length) a w
  | [], pre, β, s, a, h, w, hops, _, hv, hr, hn => by
    simp only [List.length_nil, List.range'_zero]
    rw [List.append_nil] at hops
    exact hn s h β a w hv (hr.congr (fun _ => .rfl) (fun k => by simp [allocsOf]) (fun t e => by rw [hops]; exact e) (fun k e => e.elim)) ((Seg.refl _ _).mono (fun _ e => e) (fun _ e => e) (fun _ e => e) (fun k e => ⟨e.1, by simp [allocsOf]⟩))
  | o :: r, pre, β, s, a, h, w, hops, hnd, hv, hr, hn => by
    simp only [List.length_cons, List.range'_succ, wpOps_cons]
    have hi : ops[pre.length]? = some o := by
      have : ops.toList[pre.length]? = some o := by rw [hops]; simp
      simpa using this
    have hmem : o ∈ ops.toList := by rw [hops]; simp
    have hA : ∀ k, (privA C.priv o k ∨ k ∉ allocsOf C.priv (o :: r)) ↔ k ∉ allocsOf C.priv r := by
      intro k
      by_cases hp : ∃ d, privA C.priv o d
      · obtain ⟨d, hp⟩ := hp
        rw [privA_allocs hp] at hnd ⊢
        have hnd := List.nodup_cons.1 hnd
        constructor
        · rintro (e | e)
          · have : k = d := by have h1 := e.2; rw [hp.2] at h1; cases h1; rfl
            rw [this]; exact hnd.1
          · exact fun e' => e (List.mem_cons_of_mem _ e')
        · intro e
          by_cases ek : k = d
          · rw [ek]; exact .inl hp
          · exact .inr fun e' => by rcases List.mem_cons.1 e' with e' | e'
                                    · exact ek e'
                                    · exact e e'
      · have hp' : ∀ d, ¬ privA C.priv o d := fun d e => hp ⟨d, e⟩
        rw [notA_allocs hp']
        exact ⟨fun e => e.resolve_left (hp' k), .inr⟩
    have hA' : ∀ k, k ∈ allocsOf C.priv r → ¬ privA C.priv o k ∧ k ∈ allocsOf C.priv (o :: r) := fun k hk =>
      ⟨fun e => (hA k).1 (.inl e) hk, Classical.byContradiction fun e => (hA k).1 (.inr e) hk⟩
    have hnd' : (allocsOf C.priv r).Nodup := by
      by_cases hp : ∃ d, privA C.priv o d
      · obtain ⟨d, hp⟩ := hp
        rw [privA_allocs hp] at hnd
        exact (List.nodup_cons.1 hnd).2
      · rwa [notA_allocs fun d e => hp ⟨d, e⟩] at hnd
    refine op_exec (l := modsO ops.toList) ok hi hv hr (fun _ _ => trivial) (fun j b p d e1 e2 e3 => ⟨trivial, ?_⟩) (fun d e => ⟨hlt d (modsO_mem hmem e), fun e' => ?_, modsO_mem hmem e⟩) (fun d hp => ?_) _ Q fun s' h' β' a' w' hk out => ?_
    · cases g with
      | false => rw [noGuard_mem (hg rfl) hmem] at e1; cases e1
      | true =>
        refine ⟨rfl, ?_⟩
        have hj := guardsBack_get (j := pre.length) (hg' rfl).2 (by rw [hops]; simp) e1
        rw [nth_get, hops, List.getElem?_append_left (by omega)] at e2
        exact modsO_mem (List.mem_of_getElem? e2) e3
    · have hN := (hg' e'.1).1
      rw [hops, modsO_append] at hN
      have h1 : d ∈ modsO (o :: r) := modsO_mem (List.mem_cons_self ..) e
      exact (List.nodup_append.1 hN).2.2 d e'.2 d h1 rfl
    · have : d ∈ allocsOf C.priv (o :: r) := by rw [privA_allocs hp]; simp
      exact ⟨this, fun e => e this⟩
    · have hops' : ops.toList = (pre ++ [o]) ++ r := by rw [hops]; simp
      have := seq_sound ok g hlt hg hg' r (pre ++ [o]) β' s' a' h' w' hops' hnd' hk
        (out.rr.congr (fun t => by simp) (fun k => (hA k).symm) (fun t e => ⟨e.1, by rw [modsO_append]; exact List.mem_append_left _ e.2⟩) hA')
        (fun s2 h2 β2 a2 w2 hk2 hr2 hs2 => hn s2 h2 β2 a2 w2 hk2 hr2 (out.seg.trans (hs2.mono (fun _ e => e) (fun _ e => e) (fun k e => ⟨e.1, (hA k).2 e.2⟩) (fun _ e => e))))
      simpa using this

end
end Lf
