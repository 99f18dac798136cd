/-
  The library's Insert and Delete.
-/
import Derived.Test.YtoffikpplbiohaaLfFld
namespace Lf
open Go

section
variable {P : Program} {α : Type} {h : Hp} {sz : Nat} {enc : α → List Value}

/-- The text of slices.Insert; 'R' stands for what is done where the values lie in the slice's own room. -/
def insT (P : Program) (sz bytes : Nat) (zero : List Value) (tS tR : Nat) (R : Sl → (Hp → Prop) → Hp → Prop) (s : Sl) (i : Int) (v : Sl) (Q : Sl → Hp → Prop) (h : Hp) : Prop :=
 (((0 : Int) ≤ i ∧ i ≤ ((s.len : Nat) : Int)) ∧ LetW (α := Sl) ⟨(sbase s.base sz (Int.toNat i) s.cap), (s.len - (Int.toNat i)), (s.cap - (Int.toNat i))⟩ fun _ =>
 (if (((v.len : Nat) : Int) == (0 : Int)) = true then
 Q s h
 else
 (if (i == ((s.len : Nat) : Int)) = true then
 AppendW sz bytes zero s v (fun r h1 =>
 Q r h1) h
 else
 (if (decide ((IntKind.wrap .i64 (((s.len : Nat) : Int) + ((v.len : Nat) : Int))) > ((s.cap : Nat) : Int))) = true then
 (((0 : Int) ≤ i ∧ i ≤ ((s.cap : Nat) : Int)) ∧ LetW (α := Sl) ⟨(sbase s.base sz 0 s.cap), ((Int.toNat i) - 0), (s.cap - 0)⟩ fun y1 =>
 AppendZW sz bytes zero y1 (IntKind.wrap .i64 ((IntKind.wrap .i64 (((s.len : Nat) : Int) + ((v.len : Nat) : Int))) - i)) (fun r h1 =>
 (((0 : Int) ≤ i ∧ i ≤ ((r.len : Nat) : Int)) ∧ LetW (α := Sl) ⟨(sbase r.base sz (Int.toNat i) r.cap), (r.len - (Int.toNat i)), (r.cap - (Int.toNat i))⟩ fun y2 =>
 CopyW sz y2 v (fun _ h2 =>
 (((0 : Int) ≤ (IntKind.wrap .i64 (i + ((v.len : Nat) : Int))) ∧ (IntKind.wrap .i64 (i + ((v.len : Nat) : Int))) ≤ ((r.len : Nat) : Int)) ∧ LetW (α := Sl) ⟨(sbase r.base sz (Int.toNat (IntKind.wrap .i64 (i + ((v.len : Nat) : Int)))) r.cap), (r.len - (Int.toNat (IntKind.wrap .i64 (i + ((v.len : Nat) : Int))))), (r.cap - (Int.toNat (IntKind.wrap .i64 (i + ((v.len : Nat) : Int)))))⟩ fun y3 =>
 (((0 : Int) ≤ i ∧ i ≤ ((s.len : Nat) : Int)) ∧ LetW (α := Sl) ⟨(sbase s.base sz (Int.toNat i) s.cap), (s.len - (Int.toNat i)), (s.cap - (Int.toNat i))⟩ fun y4 =>
 CopyW sz y3 y4 (fun _ h3 =>
 Q r h3) h2))) h1)) h)
 else
 (((0 : Int) ≤ (IntKind.wrap .i64 (((s.len : Nat) : Int) + ((v.len : Nat) : Int))) ∧ (IntKind.wrap .i64 (((s.len : Nat) : Int) + ((v.len : Nat) : Int))) ≤ ((s.cap : Nat) : Int)) ∧ LetW (α := Sl) ⟨(sbase s.base sz 0 s.cap), ((Int.toNat (IntKind.wrap .i64 (((s.len : Nat) : Int) + ((v.len : Nat) : Int)))) - 0), (s.cap - 0)⟩ fun y1 =>
 (((0 : Int) ≤ (IntKind.wrap .i64 (i + ((v.len : Nat) : Int))) ∧ (IntKind.wrap .i64 (i + ((v.len : Nat) : Int))) ≤ ((y1.len : Nat) : Int)) ∧ LetW (α := Sl) ⟨(sbase y1.base sz (Int.toNat (IntKind.wrap .i64 (i + ((v.len : Nat) : Int)))) y1.cap), (y1.len - (Int.toNat (IntKind.wrap .i64 (i + ((v.len : Nat) : Int))))), (y1.cap - (Int.toNat (IntKind.wrap .i64 (i + ((v.len : Nat) : Int)))))⟩ fun y2 =>
 SemE P (Extern.SlicesOverlaps.overlaps #[tS, tS] #[tR] #[v.v, y2.v]) shBool (fun r h1 =>
 (if (!r) = true then
 (((0 : Int) ≤ (IntKind.wrap .i64 (i + ((v.len : Nat) : Int))) ∧ (IntKind.wrap .i64 (i + ((v.len : Nat) : Int))) ≤ ((y1.len : Nat) : Int)) ∧ LetW (α := Sl) ⟨(sbase y1.base sz (Int.toNat (IntKind.wrap .i64 (i + ((v.len : Nat) : Int)))) y1.cap), (y1.len - (Int.toNat (IntKind.wrap .i64 (i + ((v.len : Nat) : Int))))), (y1.cap - (Int.toNat (IntKind.wrap .i64 (i + ((v.len : Nat) : Int)))))⟩ fun y3 =>
 (((0 : Int) ≤ i ∧ i ≤ ((y1.len : Nat) : Int)) ∧ LetW (α := Sl) ⟨(sbase y1.base sz (Int.toNat i) y1.cap), (y1.len - (Int.toNat i)), (y1.cap - (Int.toNat i))⟩ fun y4 =>
 CopyW sz y3 y4 (fun _ h2 =>
 (((0 : Int) ≤ i ∧ i ≤ ((y1.len : Nat) : Int)) ∧ LetW (α := Sl) ⟨(sbase y1.base sz (Int.toNat i) y1.cap), (y1.len - (Int.toNat i)), (y1.cap - (Int.toNat i))⟩ fun y5 =>
 CopyW sz y5 v (fun _ h3 =>
 Q y1 h3) h2)) h1))
 else
 (((0 : Int) ≤ ((s.len : Nat) : Int) ∧ ((s.len : Nat) : Int) ≤ ((y1.len : Nat) : Int)) ∧ LetW (α := Sl) ⟨(sbase y1.base sz (Int.toNat ((s.len : Nat) : Int)) y1.cap), (y1.len - (Int.toNat ((s.len : Nat) : Int))), (y1.cap - (Int.toNat ((s.len : Nat) : Int)))⟩ fun y3 =>
 CopyW sz y3 v (fun _ h2 =>
 (((0 : Int) ≤ i ∧ i ≤ ((y1.len : Nat) : Int)) ∧ LetW (α := Sl) ⟨(sbase y1.base sz (Int.toNat i) y1.cap), (y1.len - (Int.toNat i)), (y1.cap - (Int.toNat i))⟩ fun y4 =>
 R y4 (fun h3 => Q y1 h3) h2)) h1))) h))))))

theorem ins_ok {bytes tS tR tE bv : Nat} {i0 : TypeInfo} {zero csv : List Value} {R : Sl → (Hp → Prop) → Hp → Prop} {s v : Sl} {xs : List α} {e : α} {F : List Nat} {i : Nat} {Q : Sl → Hp → Prop}
    (ht : P.underlying tS = some (.slice tE)) (hinfo : P.info? tE = some i0) (henc : ∀ x, (enc x).length = sz) (hsz : 0 < sz) (hok : ∀ x, okCells (enc x) = true) (hz : zero.length = sz) (hzo : ∀ n, okCells (zerosL zero n) = true)
    (o : OwnF h sz enc s xs F) (rv : Rw h sz enc v [e]) (hv : v.base = some ⟨bv, 0, none⟩) (kv : Blk h bv csv) (hne : bv ∉ F) (hi : i ≤ xs.length) (hb : xs.length + 1 ≤ 140737488355328 ∧ (xs.length + 1) * bytes ≤ 140737488355328)
    (hq : ∀ l' h' F', OwnF h' sz enc l' (xs.take i ++ e :: xs.drop i) F' → Mv F h F' h' → Q l' h') : insT P sz bytes zero tS tR R s (i : Int) v Q h := by
  have hs := o.1
  have hsc := o.2.1
  have hvl : v.len = 1 := rv.1
  have w1 : IntKind.wrap .i64 ((s.len : Int) + (v.len : Int)) = (s.len : Int) + 1 := by rw [hvl, wrap64 (by omega) (by omega)]; rfl
  have w2 : IntKind.wrap .i64 ((i : Int) + (v.len : Int)) = ((i + 1 : Nat) : Int) := by rw [hvl, wrap64 (by omega) (by omega)]; omega
  have rvc : RdCells h v.base (1 * sz) (enc e) := by simpa using rv.2
  unfold insT
  rw [w1, w2]
  have it : (i : Int).toNat = i := by omega
  have it1 : ((i + 1 : Nat) : Int).toNat = i + 1 := by omega
  rw [it, it1]
  refine ⟨by omega, letW ?_⟩
  rw [if_neg (show ¬ (((v.len : Int) == 0) = true) by simp; omega)]
  by_cases hil : i = xs.length
  · rw [if_pos (show ((i : Int) == (s.len : Int)) = true by simp; omega)]
    refine appF o rv henc hok hz (by simpa using hb) fun l' h' F' o' m' => ?_
    refine hq l' h' F' ?_ m'
    rw [hil, List.take_length, List.drop_length]
    exact o'
  rw [if_neg (show ¬ (((i : Int) == (s.len : Int)) = true) by simp; omega)]
  have hlt : i < xs.length := by omega
  have hmul : ∀ a b : Nat, a ≤ b → a * sz ≤ b * sz := fun a b hab => Nat.mul_le_mul_right sz hab
  have htk : ((xs.take i).flatMap enc).length = i * sz := by rw [flat_len henc, List.length_take]; congr 1; omega
  have hdr : ((xs.drop i).flatMap enc).length = (xs.length - i) * sz := by rw [flat_len henc, List.length_drop]
  have hsplit : xs.flatMap enc = (xs.take i).flatMap enc ++ (xs.drop i).flatMap enc := by rw [← List.flatMap_append, List.take_append_drop]
  have hwhole : (xs.take i ++ e :: xs.drop i).flatMap enc = (xs.take i).flatMap enc ++ enc e ++ (xs.drop i).flatMap enc := by simp
  have hwl : (xs.take i ++ e :: xs.drop i).length = xs.length + 1 := by simp; omega
  have e1 : (i + 1) * sz = i * sz + sz := by rw [Nat.add_mul, Nat.one_mul]
  have e2 : (xs.length + 1) * sz = i * sz + sz + (xs.length - i) * sz := by
    rw [← e1, ← Nat.add_mul]; congr 1; omega
  have hds := flat_ok hok (xs.drop i)
  -- what the slice's own cells are
  rcases o.2.2 with ⟨ob, oc, _⟩ | ⟨b, cs, ob, rfl, kb, hcl, hct⟩
  · omega
  have hcs : s.cap ≠ 0 := by omega
  rw [ob]
  rw [hs] at hct
  have hcsl : xs.length * sz ≤ cs.length := by rw [hcl]; exact hmul _ _ (by omega)
  have hb0 : sbase (some (⟨b, 0, none⟩ : Addr)) sz 0 s.cap = some ⟨b, 0, none⟩ := by rw [sbase_at (by omega)]; simp
  have hbi : sbase (some (⟨b, 0, none⟩ : Addr)) sz i s.cap = some ⟨b, i * sz, none⟩ := by rw [sbase_at (by omega)]; simp
  have hxi : xs.length * sz = i * sz + (xs.length - i) * sz := by rw [← Nat.add_mul]; congr 1; omega
  have rtk : RdCells h (some ⟨b, 0, none⟩) (i * sz) ((xs.take i).flatMap enc) := kb.rd htk (by
    rw [List.drop_zero]
    have : cs.take (i * sz) = (cs.take (xs.length * sz)).take (i * sz) := by rw [List.take_take]; congr 1; omega
    rw [this, hct, hsplit, ← htk, List.take_left])
  have rdr : RdCells h (some ⟨b, i * sz, none⟩) ((xs.length - i) * sz) ((xs.drop i).flatMap enc) := kb.rd hdr (by
    have : (cs.drop (i * sz)).take ((xs.length - i) * sz) = (cs.take (xs.length * sz)).drop (i * sz) := by rw [List.drop_take]; congr 1; omega
    rw [this, hct, hsplit, ← htk, List.drop_left])
  by_cases hroom : s.cap < xs.length + 1
  · rw [if_pos (show (decide ((s.len : Int) + 1 > (s.cap : Int))) = true by simp; omega)]
    refine ⟨by omega, letW ?_⟩
    rw [hb0]
    have w3 : IntKind.wrap .i64 ((s.len : Int) + 1 - (i : Int)) = ((xs.length + 1 - i : Nat) : Int) := by rw [wrap64 (by omega) (by omega)]; omega
    rw [w3]
    have hm : (((xs.length + 1 - i : Nat) : Int)).toNat = xs.length + 1 - i := by omega
    refine appZ_new (l := ⟨some ⟨b, 0, none⟩, i - 0, s.cap - 0⟩) (by omega) rtk ?_ (hzo _) ?_ fun b2 c h1 hb2 hc l1 m1 k1 => ?_
    · rw [hm]
      show (i - 0) + _ ≤ _ ∧ ((i - 0) + _) * _ ≤ _
      have : (i - 0) + (xs.length + 1 - i) = xs.length + 1 := by omega
      rw [this]
      exact hb
    · rw [hm]
      show s.cap - 0 < (i - 0) + _
      omega
    rw [hm] at hc k1
    have ein : (i - 0) + (xs.length + 1 - i) = xs.length + 1 := by omega
    have hc' : xs.length + 1 ≤ c := by
      have : (i - 0) + (xs.length + 1 - i) ≤ c := hc
      omega
    have k1' : Blk h1 b2 ((xs.take i).flatMap enc ++ zerosL zero (xs.length + 1 - i) ++ zerosL zero (c - (xs.length + 1))) := by
      have : c - ((i - 0) + (xs.length + 1 - i)) = c - (xs.length + 1) := by omega
      rw [← this]
      exact k1
    have hlen : (⟨some ⟨b, 0, none⟩, i - 0, s.cap - 0⟩ : Sl).len + (((xs.length + 1 - i : Nat) : Int)).toNat = xs.length + 1 := by rw [hm]; exact ein
    rw [hlen]
    have hne2 : b2 ≠ b := fun e' => by rw [e'] at hb2; exact kb.known hb2
    have hne3 : b2 ≠ bv := fun e' => by rw [e'] at hb2; exact kv.known hb2
    refine ⟨by show (0 : Int) ≤ i ∧ (i : Int) ≤ ((xs.length + 1 : Nat) : Int); omega, letW ?_⟩
    rw [sbase_at (show c ≠ i by omega), Nat.zero_add]
    have hzl : ∀ n, (zerosL zero n).length = n * sz := fun n => by rw [zerosL_len, hz]
    have hbl : ((xs.take i).flatMap enc ++ zerosL zero (xs.length + 1 - i) ++ zerosL zero (c - (xs.length + 1))).length = c * sz := by
      rw [List.length_append, List.length_append, htk, hzl, hzl, ← Nat.add_mul, ← Nat.add_mul]; congr 1; omega
    have rv1 : RdCells h1 v.base (1 * sz) (enc e) := by simpa using (rv.mono l1).2
    refine copyW_blk (n := 1) k1' (by show min v.len (xs.length + 1 - i) = 1; omega) rv1 (hok e) (by rw [hbl, Nat.one_mul, ← e1]; exact hmul _ _ (by omega)) fun h2 m2 k2 => ?_
    refine ⟨by show (0 : Int) ≤ ((i + 1 : Nat) : Int) ∧ ((i + 1 : Nat) : Int) ≤ ((xs.length + 1 : Nat) : Int); omega, letW ⟨by omega, letW ?_⟩⟩
    rw [sbase_at (show c ≠ i + 1 by omega), Nat.zero_add, hbi]
    have kb2 : Blk h2 b cs := (kb.le l1).mv m2 (by simpa using hne2.symm)
    have rdr2 : RdCells h2 (some ⟨b, i * sz, none⟩) ((xs.length - i) * sz) ((xs.drop i).flatMap enc) := kb2.rd hdr (by
      have : (cs.drop (i * sz)).take ((xs.length - i) * sz) = (cs.take (xs.length * sz)).drop (i * sz) := by rw [List.drop_take]; congr 1; omega
      rw [this, hct, hsplit, ← htk, List.drop_left])
    have k2' := k2
    rw [Nat.one_mul] at k2'
    have cut1 : ((xs.take i).flatMap enc ++ zerosL zero (xs.length + 1 - i) ++ zerosL zero (c - (xs.length + 1))).take (i * sz) = (xs.take i).flatMap enc := by
      rw [List.append_assoc, ← htk, List.take_left]
    rw [cut1] at k2'
    have hrest : (((xs.take i).flatMap enc ++ zerosL zero (xs.length + 1 - i) ++ zerosL zero (c - (xs.length + 1))).drop (i * sz + sz)).length = c * sz - (i * sz + sz) := by rw [List.length_drop, hbl]
    generalize ((xs.take i).flatMap enc ++ zerosL zero (xs.length + 1 - i) ++ zerosL zero (c - (xs.length + 1))).drop (i * sz + sz) = rest at k2' hrest
    have hcc := hmul _ _ hc'
    refine copyW_blk (n := xs.length - i) k2' (by show min (s.len - i) (xs.length + 1 - (i + 1)) = xs.length - i; omega) rdr2 hds (by
      rw [List.length_append, List.length_append, htk, henc, hrest, e1]; omega) fun h3 m3 k3 => ?_
    refine hq _ _ [b2] ⟨hwl.symm, hc', .inr ⟨b2, _, rfl, rfl, k3, ?_, ?_⟩⟩ ?_
    · simp only [List.length_append, List.length_take, List.length_drop, htk, henc, hrest, hdr, e1]
      show _ = c * sz
      omega
    · have e3 : (xs.length + 1) * sz = (((xs.take i).flatMap enc ++ enc e) ++ (xs.drop i).flatMap enc).length := by
        rw [List.length_append, List.length_append, htk, henc, hdr, e2]
      have e4 : ((xs.take i).flatMap enc ++ enc e ++ rest).take ((i + 1) * sz) = (xs.take i).flatMap enc ++ enc e := by
        have : (i + 1) * sz = ((xs.take i).flatMap enc ++ enc e).length := by rw [List.length_append, htk, henc, e1]
        rw [this, List.take_left]
      rw [e4]
      show List.take ((xs.length + 1) * sz) _ = _
      rw [e3, List.take_left, hwhole]
    · have m1' : Mv [b] h [b2] h1 := m1.sub (fun b hb => by cases hb) fun b hb => .inl hb
      exact m1'.trans (m2.trans m3)
  · rw [if_neg (show ¬ (decide ((s.len : Int) + 1 > (s.cap : Int))) = true by simp; omega)]
    refine ⟨by omega, letW ⟨?_, letW ?_⟩⟩
    · show (0 : Int) ≤ ((i + 1 : Nat) : Int) ∧ ((i + 1 : Nat) : Int) ≤ (((((s.len : Int) + 1).toNat - 0 : Nat)) : Int)
      omega
    have hl1 : ((s.len : Int) + 1).toNat - 0 = xs.length + 1 := by omega
    have hcap0 : s.cap - 0 = s.cap := by omega
    rw [hb0, hl1, hcap0]
    have hbi1 : sbase (some (⟨b, 0, none⟩ : Addr)) sz (i + 1) s.cap = some ⟨b, (i + 1) * sz, none⟩ := by rw [sbase_at (by omega)]; simp
    show SemE P (Extern.SlicesOverlaps.overlaps #[tS, tS] #[tR] #[.slice v.base v.len v.cap, .slice (sbase (some (⟨b, 0, none⟩ : Addr)) sz (i + 1) s.cap) (xs.length + 1 - (i + 1)) (s.cap - (i + 1))]) shBool _ h
    rw [hbi1, hv]
    refine overlaps_apart ht hinfo kv kb (fun e' => hne (by rw [e']; exact List.mem_singleton.2 rfl)) ?_
    rw [if_pos (by rfl)]
    refine ⟨by show (0 : Int) ≤ ((i + 1 : Nat) : Int) ∧ ((i + 1 : Nat) : Int) ≤ ((xs.length + 1 : Nat) : Int); omega, letW ⟨by show (0 : Int) ≤ i ∧ (i : Int) ≤ ((xs.length + 1 : Nat) : Int); omega, letW ?_⟩⟩
    have hcap1 : (xs.length + 1) * sz ≤ s.cap * sz := hmul _ _ (by omega)
    have hbi' : sbase (some (⟨b, 0, none⟩ : Addr)) sz i s.cap = some ⟨b, i * sz, none⟩ := hbi
    show CopyW sz ⟨some ⟨b, (i + 1) * sz, none⟩, xs.length + 1 - (i + 1), s.cap - (i + 1)⟩ ⟨sbase (some (⟨b, 0, none⟩ : Addr)) sz i s.cap, xs.length + 1 - i, s.cap - i⟩ _ h
    rw [hbi']
    refine copyW_blk (n := xs.length - i) kb (by show min (xs.length + 1 - i) (xs.length + 1 - (i + 1)) = _; omega) rdr hds (by rw [hcl, e1]; omega) fun h2 m2 k2 => ?_
    refine ⟨by show (0 : Int) ≤ i ∧ (i : Int) ≤ ((xs.length + 1 : Nat) : Int); omega, letW ?_⟩
    have rv2 : RdCells h2 v.base (1 * sz) (enc e) := by
      refine ⟨by rw [henc, Nat.one_mul], ?_⟩
      rcases rvc.2 with e0 | ⟨a, ha, hl⟩
      · exact .inl e0
      · refine .inr ⟨a, ha, fun q u hu => ?_⟩
        have := hl q u hu
        rw [hv] at ha
        cases ha
        rw [box_add] at this ⊢
        obtain ⟨t, ek⟩ := id kv
        obtain ⟨t', ek'⟩ := kv.mv m2 (fun hm => hne hm)
        rw [hcell_block0 ek] at this
        rw [hcell_block0 ek']
        exact this
    have cut1 : (cs.take ((i + 1) * sz) ++ (xs.drop i).flatMap enc ++ cs.drop ((i + 1) * sz + (xs.length - i) * sz)).take (i * sz) = (xs.take i).flatMap enc := by
      rw [List.append_assoc, List.take_append_of_le_length (by rw [List.length_take, hcl]; rw [e1]; omega), List.take_take]
      have : cs.take (min (i * sz) ((i + 1) * sz)) = (cs.take (xs.length * sz)).take (i * sz) := by rw [List.take_take]; congr 1; rw [e1]; omega
      rw [this, hct, hsplit, ← htk, List.take_left]
    have cut2 : (cs.take ((i + 1) * sz) ++ (xs.drop i).flatMap enc ++ cs.drop ((i + 1) * sz + (xs.length - i) * sz)).drop (i * sz + 1 * sz) = (xs.drop i).flatMap enc ++ cs.drop ((i + 1) * sz + (xs.length - i) * sz) := by
      have : i * sz + 1 * sz = (cs.take ((i + 1) * sz)).length := by rw [List.length_take, hcl, e1, Nat.one_mul]; omega
      rw [List.append_assoc, this, List.drop_left]
    refine copyW_blk (n := 1) k2 (by show min v.len (xs.length + 1 - i) = 1; omega) rv2 (hok e) (by
      simp only [List.length_append, List.length_take, List.length_drop, hdr, hcl, e1, Nat.one_mul]
      omega) fun h3 m3 k3 => ?_
    rw [cut1, cut2] at k3
    refine hq _ _ [b] ⟨hwl.symm, by show xs.length + 1 ≤ s.cap; omega, .inr ⟨b, _, rfl, rfl, k3, ?_, ?_⟩⟩ (m2.trans m3)
    · simp only [List.length_append, List.length_drop, htk, henc, hdr, hcl, e1]
      show _ = s.cap * sz
      omega
    · have e3 : (xs.length + 1) * sz = (((xs.take i).flatMap enc ++ enc e) ++ (xs.drop i).flatMap enc).length := by
        rw [List.length_append, List.length_append, htk, henc, hdr, e2]
      show List.take ((xs.length + 1) * sz) _ = _
      rw [e3, ← List.append_assoc, List.take_left, hwhole]

/-- The text of slices.Delete. -/
def delT (P : Program) (sz bytes : Nat) (zero : List Value) (tS : Nat) (s : Sl) (i j : Int) (Q : Sl → Hp → Prop) (h : Hp) : Prop :=
 (((0 : Int) ≤ i ∧ (i ≤ j ∧ (j ≤ ((s.len : Nat) : Int) ∧ ((s.len : Nat) : Int) ≤ ((s.cap : Nat) : Int)))) ∧ LetW (α := Sl) ⟨(sbase s.base sz (Int.toNat i) (Int.toNat ((s.len : Nat) : Int))), ((Int.toNat j) - (Int.toNat i)), ((Int.toNat ((s.len : Nat) : Int)) - (Int.toNat i))⟩ fun _ =>
 (if (i == j) = true then
 Q s h
 else
 (((0 : Int) ≤ i ∧ i ≤ ((s.cap : Nat) : Int)) ∧ LetW (α := Sl) ⟨(sbase s.base sz 0 s.cap), ((Int.toNat i) - 0), (s.cap - 0)⟩ fun y1 =>
 (((0 : Int) ≤ j ∧ j ≤ ((s.len : Nat) : Int)) ∧ LetW (α := Sl) ⟨(sbase s.base sz (Int.toNat j) s.cap), (s.len - (Int.toNat j)), (s.cap - (Int.toNat j))⟩ fun y2 =>
 AppendW sz bytes zero y1 y2 (fun r h1 =>
 (((0 : Int) ≤ ((r.len : Nat) : Int) ∧ (((r.len : Nat) : Int) ≤ ((s.len : Nat) : Int) ∧ ((s.len : Nat) : Int) ≤ ((r.cap : Nat) : Int))) ∧ LetW (α := Sl) ⟨(sbase r.base sz (Int.toNat ((r.len : Nat) : Int)) r.cap), ((Int.toNat ((s.len : Nat) : Int)) - (Int.toNat ((r.len : Nat) : Int))), (r.cap - (Int.toNat ((r.len : Nat) : Int)))⟩ fun y3 =>
 SemE0 P (Builtin.clear_ #[tS] 0 #[y3.v]) shUnit (fun h2 =>
 Q r h2) h1)) h))))

theorem del_ok {bytes tS tE : Nat} {z : Value} {s : Sl} {xs : List α} {F : List Nat} {i j : Nat} {Q : Sl → Hp → Prop}
    (ht : P.underlying tS = some (.slice tE)) (hzv : ∀ {K : Value → Hp → Prop} {h : Hp}, K z h → semW P (zeroValue tE) K h) (henc : ∀ x, (enc x).length = sz) (hok : ∀ x, okCells (enc x) = true) (hz : (cellsL z).length = sz) (hzo : ∀ n, okCells (zerosL (cellsL z) n) = true)
    (o : OwnF h sz enc s xs F) (hij : i < j) (hj : j ≤ xs.length) (hb : xs.length ≤ 140737488355328 ∧ xs.length * bytes ≤ 140737488355328)
    (hq : ∀ l' h', OwnF h' sz enc l' (xs.take i ++ xs.drop j) F → Mv F h F h' → Q l' h') : delT P sz bytes (cellsL z) tS s (i : Int) (j : Int) Q h := by
  have hs := o.1
  have hsc := o.2.1
  unfold delT
  have it : (i : Int).toNat = i := by omega
  have jt : (j : Int).toNat = j := by omega
  have st : (s.len : Int).toNat = xs.length := by omega
  rw [it, jt, st]
  refine ⟨by omega, letW ?_⟩
  rw [if_neg (show ¬ (((i : Int) == (j : Int)) = true) by simp; omega)]
  have hmul : ∀ a b : Nat, a ≤ b → a * sz ≤ b * sz := fun a b hab => Nat.mul_le_mul_right sz hab
  have htk : ((xs.take i).flatMap enc).length = i * sz := by rw [flat_len henc, List.length_take]; congr 1; omega
  have hdr : ((xs.drop j).flatMap enc).length = (xs.length - j) * sz := by rw [flat_len henc, List.length_drop]
  rcases o.2.2 with ⟨ob, oc, _⟩ | ⟨b, cs, ob, rfl, kb, hcl, hct⟩
  · omega
  rw [ob]
  rw [hs] at hct
  have hcsl : xs.length * sz ≤ cs.length := by rw [hcl]; exact hmul _ _ (by omega)
  have hb0 : sbase (some (⟨b, 0, none⟩ : Addr)) sz 0 s.cap = some ⟨b, 0, none⟩ := by rw [sbase_at (by omega)]; simp
  have hij2 := hmul i xs.length (by omega)
  have hj2 := hmul j xs.length hj
  have hxj : xs.length * sz = j * sz + (xs.length - j) * sz := by rw [← Nat.add_mul]; congr 1; omega
  have hxij : i * sz ≤ j * sz := hmul _ _ (by omega)
  have hti : cs.take (i * sz) = (xs.take i).flatMap enc := by
    rw [flat_take henc, ← hct, List.take_take]; congr 1; omega
  have rtk : RdCells h (some ⟨b, 0, none⟩) ((i - 0) * sz) ((xs.take i).flatMap enc) := kb.rd htk (by rw [List.drop_zero]; exact hti)
  have rdr : RdCells h (sbase (some (⟨b, 0, none⟩ : Addr)) sz j s.cap) ((xs.length - j) * sz) ((xs.drop j).flatMap enc) := by
    by_cases hcj : s.cap = j
    · refine ⟨hdr, .inl ?_⟩
      have : xs.length - j = 0 := by omega
      rw [this, Nat.zero_mul]
    · rw [sbase_at hcj, Nat.zero_add]
      refine kb.rd hdr ?_
      rw [flat_drop henc, ← hct, List.drop_take]
      congr 1
      omega
  refine ⟨by omega, letW ⟨by omega, letW ?_⟩⟩
  rw [hb0]
  have hnb : i - 0 + (xs.length - j) ≤ xs.length := by omega
  have hbm : (i - 0 + (xs.length - j)) * bytes ≤ xs.length * bytes := Nat.mul_le_mul_right _ hnb
  have hx0 : (⟨sbase (some (⟨b, 0, none⟩ : Addr)) sz j s.cap, s.len - j, s.cap - j⟩ : Sl).len = xs.length - j := by show s.len - j = _; omega
  refine app_in (n := xs.length - j) kb rtk (by rw [hx0]; exact rdr) hx0 (flat_ok hok _) ⟨by omega, by omega⟩ (by omega) (by
    have : i - 0 = i := by omega
    rw [this, Nat.zero_add, hcl]
    have := hmul (i + (xs.length - j)) s.cap (by omega)
    rw [Nat.add_mul] at this
    exact this) fun h1 m1 k1 => ?_
  have hi0 : i - 0 = i := by omega
  rw [hi0, Nat.zero_add] at k1
  show ((0 : Int) ≤ ((i - 0 + (xs.length - j) : Nat) : Int) ∧ ((i - 0 + (xs.length - j) : Nat) : Int) ≤ (s.len : Int) ∧ (s.len : Int) ≤ ((s.cap - 0 : Nat) : Int)) ∧ LetW (α := Sl) ⟨sbase (some ⟨b, 0, none⟩) sz (((i - 0 + (xs.length - j) : Nat) : Int)).toNat (s.cap - 0), xs.length - (((i - 0 + (xs.length - j) : Nat) : Int)).toNat, s.cap - 0 - (((i - 0 + (xs.length - j) : Nat) : Int)).toNat⟩ _
  refine ⟨by omega, letW ?_⟩
  have hn : (((i - 0 + (xs.length - j) : Nat) : Int)).toNat = i + (xs.length - j) := by omega
  have hcap0 : s.cap - 0 = s.cap := by omega
  rw [hn, hcap0, sbase_at (show s.cap ≠ i + (xs.length - j) by omega), Nat.zero_add]
  have hcnt : xs.length - (i + (xs.length - j)) = j - i := by omega
  have hmulij : (i + (xs.length - j)) * sz = i * sz + (xs.length - j) * sz := Nat.add_mul _ _ _
  have hlen1 : (cs.take (i * sz) ++ (xs.drop j).flatMap enc ++ cs.drop (i * sz + (xs.length - j) * sz)).length = cs.length := by
    simp only [List.length_append, List.length_take, List.length_drop, hdr]
    omega
  show SemE0 P (Builtin.clear_ #[tS] 0 #[.slice (some ⟨b, (i + (xs.length - j)) * sz, none⟩) (xs.length - (i + (xs.length - j))) (s.cap - (i + (xs.length - j)))]) shUnit _ h1
  rw [hcnt]
  refine clear_blk ht hzv hzo k1 (by
    rw [hlen1, hz, hmulij]
    have : i * sz + (j - i) * sz = j * sz := by rw [← Nat.add_mul]; congr 1; omega
    omega) fun h2 m2 k2 => ?_
  have hres : (xs.take i ++ xs.drop j).length = i + (xs.length - j) := by simp; omega
  refine hq _ _ ⟨?_, ?_, .inr ⟨b, _, rfl, rfl, k2, ?_, ?_⟩⟩ (m1.trans m2)
  · rw [hres, hi0]
  · show i - 0 + (xs.length - j) ≤ s.cap
    omega
  · simp only [List.length_append, List.length_take, List.length_drop, hlen1, zerosL_len, hz]
    show _ = s.cap * sz
    have : i * sz + (j - i) * sz = j * sz := by rw [← Nat.add_mul]; congr 1; omega
    rw [hmulij]
    omega
  · show List.take ((i - 0 + (xs.length - j)) * sz) _ = _
    rw [hi0, List.append_assoc, List.take_append_of_le_length, List.take_take, Nat.min_self, hmulij, hti]
    · have e3 : i * sz + (xs.length - j) * sz = ((xs.take i).flatMap enc ++ (xs.drop j).flatMap enc).length := by rw [List.length_append, htk, hdr]
      rw [e3, List.take_left, List.flatMap_append]
    · rw [List.length_take, hlen1, hmulij]
      omega

end
end Lf
