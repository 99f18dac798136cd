/-
  What is set is popped once, in order.
-/
import Derived.Test.YtoffikpplbiohaaWhL
namespace Lf
open Go Go.Proofs

/-- The wheel and the map, in the middle of the law. -/
structure Once (h k : Hp) (p : Addr) (m : Nat) (es : List S_wheel_entry) (F : List Nat) (kvs : List (Int × Int)) : Prop where
  r : Regs h k [F, [m]]
  w : Wh k p es F
  mp : MapKv k m .i64 (shInt .i64).enc kvs
  rel : RelK es kvs

theorem Once.stepW {h k k' : Hp} {p : Addr} {m : Nat} {es es' : List S_wheel_entry} {F F' : List Nat} {kvs : List (Int × Int)} (o : Once h k p m es F kvs) (mv : Mv F k F' k') (w' : Wh k' p es' F') : Regs h k' [F', [m]] ∧ MapKv k' m .i64 (shInt .i64).enc kvs :=
  ⟨o.r.step (j := 0) (F := F) rfl mv w'.known, o.mp.same (o.r.other (j := 0) (F := F) rfl mv (a := 1) (E := [m]) rfl (by omega) m (by simp))⟩

theorem once_set {h k : Hp} {p : Addr} {m : Nat} {es : List S_wheel_entry} {F : List Nat} {kvs : List (Int × Int)} {o : Obj} (r : Regs h k [F, [m]]) (w : Wh k p es F) (mp : MapKv (k.set m o) m .i64 (shInt .i64).enc kvs) (rel : RelK es kvs) : Once h (k.set m o) p m es F kvs := by
  have mv : Mv [m] k [m] (k.set m o) := Mv.set
  refine ⟨r.step (j := 1) (F := [m]) rfl mv (fun c hc => ?_), w.same (r.other (j := 1) (F := [m]) rfl mv (a := 0) (E := F) rfl (by omega)), mp, rel⟩
  rw [List.mem_singleton.1 hc]
  exact mp.known

theorem tail_mem {e : S_wheel_entry} {L : List S_wheel_entry} (hn : ((e :: L).map (·.id_)).Nodup) (x : S_wheel_entry) : x ∈ L ↔ (x ∈ e :: L ∧ x.id_ ≠ e.id_) := by
  simp only [List.map_cons, List.nodup_cons] at hn
  constructor
  · intro hx
    exact ⟨List.mem_cons_of_mem _ hx, fun h => hn.1 (h ▸ List.mem_map_of_mem (f := (·.id_)) hx)⟩
  · rintro ⟨hx, hne⟩
    rcases List.mem_cons.1 hx with rfl | hx
    · exact absurd rfl hne
    · exact hx

set_option maxHeartbeats 4000000 in
set_option maxRecDepth 20000 in
theorem wheelOnce_ok {l gone nows : Sl} {xs : List S_firebreaklaw11_Set} {gs ns : List Int} {Q : Bool → Hp → Prop} {h : Hp} (rl : Rw h 2 eS l xs) (rg : Rs h (shInt .i64) 1 gone gs) (rn : Rs h (shInt .i64) 1 nows ns)
    (hgl : gs.length ≤ 17592186044416) (hnl : ns.length ≤ 17592186044416) (hdue : ∀ x ∈ xs, x.Due ≤ 9223372036854775807) (hq : ∀ h', h ≤ h' → Q true h') :
    firebreaklaw11_WheelOnce_w Try.prog l gone nows Q h := by
  unfold firebreaklaw11_WheelOnce_w
  have hll := rl.1
  have hgg := rg.1
  have hnn := rn.1
  refine wheel_New_call (whNew_ok fun p F h1 l1 f1 w1 => ?_)
  refine effT (firebreaklaw11_cleared_call (cleared_ok fun h2 l2 => ?_))
  refine letW ?_
  rw [if_neg (by simp)]
  have l02 := Hp.le_trans l1 l2
  by_cases hbig : (l.len : Int) > 1048576
  · rw [if_pos (decide_eq_true hbig)]
    exact firebreaklaw11_fixed_call (fixed_ok fun h3 l3 => hq h3 (Hp.le_trans l02 l3))
  rw [if_neg fun hh => hbig (of_decide_eq_true hh)]
  have hxl : xs.length ≤ 1048576 := by omega
  intro m hm
  have l3 := set_new (o := .map #[] 0) hm
  have mp3 : MapKv (h2.set m (.map #[] 0)) m .i64 (shInt .i64).enc ([] : List (Int × Int)) := ⟨[], 0, set_self, rfl⟩
  generalize h2.set m (.map #[] 0) = h3 at l3 mp3
  have w3 : Wh h3 p [] F := w1.same fun c hc => by
    cases hk : h1 c with
    | none => exact absurd hk (w1.known c hc)
    | some o => exact l3 c o (l2 c o hk)
  have hmF : m ∉ F := fun hc => w1.known m hc (none_of_le l2 hm)
  have o3 : Once h h3 p m [] F [] := by
    refine ⟨⟨fun a b E G hE hG hab c hc hc' => ?_, fun a E hE c hc => ?_, fun a E hE c hc => ?_, Hp.le_trans l02 l3⟩, w3, mp3, by simp, fun id d => by simp [kget]⟩
    · match a, b, hE, hG with
      | 0, 0, _, _ => exact hab rfl
      | 1, 1, _, _ => exact hab rfl
      | 0, 1, hE, hG => cases hE; cases hG; simp at hc'; exact hmF (hc' ▸ hc)
      | 1, 0, hE, hG => cases hE; cases hG; simp at hc; exact hmF (hc ▸ hc')
      | a + 2, _, hE, _ => simp at hE
      | 0, b + 2, _, hG => simp at hG
      | 1, b + 2, _, hG => simp at hG
    · match a, hE with
      | 0, hE => cases hE; exact w3.known c hc
      | 1, hE => cases hE; simp at hc; rw [hc]; exact mp3.known
      | a + 2, hE => simp at hE
    · match a, hE with
      | 0, hE => cases hE; exact f1 c hc
      | 1, hE => cases hE; simp at hc; rw [hc]; exact none_of_le l02 hm
      | a + 2, hE => simp at hE
  -- what is set
  refine LoopW1.intro (fun i k => ∃ es F kvs, Once h k p m es F kvs ∧ 0 ≤ i ∧ i ≤ (xs.length : Int) ∧ (es.length : Int) ≤ i ∧ ∀ e ∈ es, 0 ≤ e.id_ ∧ 0 ≤ e.due ∧ e.due ≤ 9223372036854775807 ∧ pastF e.id_ (xs.take i.toNat) = e.due) (fun i _ => (xs.length - i).toNat)
    ⟨[], F, [], o3, by omega, by omega, by simp, fun e he => by cases he⟩ ?_
  rintro i k ⟨es, F1, kvs, o, hi0, hi1, hel, hes⟩
  have rlk := rl.mono o.r.le
  split
  · rename_i e
    have e : i < (l.len : Int) := by simpa using e
    refine JoinW0.intro (fun k' => ∃ es F kvs, Once h k' p m es F kvs ∧ (es.length : Int) ≤ i + 1 ∧ ∀ e ∈ es, 0 ≤ e.id_ ∧ 0 ≤ e.due ∧ e.due ≤ 9223372036854775807 ∧ pastF e.id_ (xs.take (i + 1).toNat) = e.due) ?_ ?_
    · refine rlk.fld (fun _ => rfl) (by omega) (sh := shInt .i64) (fun x => x.ID) (j := 0) (fun _ => rfl) hi0 (by omega) fun x hx => ?_
      refine rlk.fld (fun _ => rfl) (by omega) (sh := shInt .i64) (fun x => x.Due) (j := 1) (fun _ => rfl) hi0 (by omega) fun x' hx' => ?_
      rw [hx] at hx'
      cases hx'
      have hsn : xs.take (i + 1).toNat = xs.take i.toNat ++ [x] := by
        have : (i + 1).toNat = i.toNat + 1 := by omega
        rw [this, List.take_add_one, hx]
        rfl
      refine wheel_Wheel_Set_call (whSet_ok o.w (by omega) (fun hneg => ?_) fun p1 p2 es' F' k5 m5 w5 he5 hle5 => ?_)
      · rw [if_neg (by simp)]
        refine ⟨es, F1, kvs, o, by omega, fun e he => ?_⟩
        obtain ⟨a1, a2, a3, a4⟩ := hes e he
        refine ⟨a1, a2, a3, ?_⟩
        rw [hsn, pastF_snoc, if_neg fun hh => by omega]
        exact a4
      · rw [if_pos (by simp)]
        obtain ⟨r5, mp5⟩ := o.stepW m5 w5
        have rlk5 := rl.mono r5.le
        refine rlk5.fld (fun _ => rfl) (by omega) (sh := shInt .i64) (fun x => x.ID) (j := 0) (fun _ => rfl) hi0 (by omega) fun x' hx' => ?_
        rw [hx] at hx'
        cases hx'
        refine rlk5.fld (fun _ => rfl) (by omega) (sh := shInt .i64) (fun x => x.Due) (j := 1) (fun _ => rfl) hi0 (by omega) fun x' hx' => ?_
        rw [hx] at hx'
        cases hx'
        refine mapSet_kv (ev := (shInt .i64).enc) (v := x.Due) mp5 fun ob _ mp6 => ?_
        refine ⟨es', F', _, once_set r5 w5 mp6 (relK_set o.rel he5), by omega, fun e he => ?_⟩
        rw [hsn, pastF_snoc]
        rcases (he5 e).1 he with rfl | ⟨h7, h8⟩
        · exact ⟨p1, p2, hdue x (List.mem_of_getElem? hx), by rw [if_pos ⟨rfl, p2⟩]⟩
        · obtain ⟨a1, a2, a3, a4⟩ := hes e h7
          exact ⟨a1, a2, a3, by rw [if_neg fun hh => h8 hh.1.symm]; exact a4⟩
    · rintro k5 ⟨es', F', kvs', o', hel', hes'⟩
      rw [wrap64 (by omega) (by omega)]
      exact ⟨⟨es', F', kvs', o', by omega, by omega, hel', hes'⟩, by omega⟩
  rename_i e
  have e : ¬ i < (l.len : Int) := by simpa using e
  have hit : i.toNat = xs.length := by omega
  rw [hit, List.take_length] at hes
  clear rlk
  have hes1 : es.length ≤ 1048576 := by omega
  clear hi0 hi1 hel
  -- what is cleared
  refine LoopW1.intro (fun i k => ∃ es F kvs, Once h k p m es F kvs ∧ 0 ≤ i ∧ i ≤ (gs.length : Int) ∧ es.length ≤ 1048576 ∧ ∀ e ∈ es, 0 ≤ e.id_ ∧ 0 ≤ e.due ∧ e.due ≤ 9223372036854775807 ∧ pastF e.id_ xs = e.due) (fun i _ => (gs.length - i).toNat)
    ⟨es, F1, kvs, o, by omega, by omega, hes1, hes⟩ ?_
  clear hes hes1 o es F1 kvs
  rintro i1 k ⟨es, F1, kvs, o, hi0, hi1, hel, hes⟩
  have rgk := rg.mono o.r.le
  split
  · rename_i e
    have e : i1 < (gone.len : Int) := by simpa using e
    refine Rs.get rgk (fun _ => rfl) (by omega) hi0 (by omega) fun (x : Int) hx => ?_
    have same : ∀ {k' : Hp} {K : Int → Prop}, h ≤ k' → K x → InB gone.base gone.len i1 ∧ LdW none (shInt .i64) k' (sat gone.base 1 i1) K := fun hle hK => by
      refine Rs.get (sh := shInt .i64) (rg.mono hle) (fun _ => rfl) (by omega) hi0 (by omega) fun (y : Int) hy => ?_
      rw [hx] at hy
      cases hy
      exact hK
    have fin : ∀ es' k', Mv F1 k F1 k' → Wh k' p es' F1 → (∀ y, y ∈ es' ↔ (y ∈ es ∧ y.id_ ≠ x)) → es'.length ≤ es.length →
        InB gone.base gone.len i1 ∧ LdW none (shInt .i64) k' (sat gone.base 1 i1) fun x3 => MapDelW (.int .i64) (some m) (.int .i64 x3) (fun h7 =>
          (∃ es F kvs, Once h h7 p m es F kvs ∧ 0 ≤ IntKind.wrap .i64 (i1 + 1) ∧ IntKind.wrap .i64 (i1 + 1) ≤ (gs.length : Int) ∧ es.length ≤ 1048576 ∧ ∀ e ∈ es, 0 ≤ e.id_ ∧ 0 ≤ e.due ∧ e.due ≤ 9223372036854775807 ∧ pastF e.id_ xs = e.due) ∧ (gs.length - IntKind.wrap .i64 (i1 + 1)).toNat < (gs.length - i1).toNat) k' := by
      intro es' k' mv w' he' hl'
      obtain ⟨r5, mp5⟩ := o.stepW mv w'
      refine same r5.le ?_
      refine mapDel_kv mp5 fun ob _ mp6 => ?_
      rw [wrap64 (by omega) (by omega)]
      exact ⟨⟨es', F1, _, once_set r5 w' mp6 (relK_del o.rel he'), by omega, by omega, by omega, fun e he => hes e ((he' e).1 he).1⟩, by omega⟩
    refine lookW_kv (sh := shInt .i64) (z := (0 : Int)) o.mp rfl (fun hn => ?_) fun d hd => ?_
    · refine same o.r.le ?_
      refine wheel_Wheel_Clear_call (whClear_ok o.w (by omega) (fun hno => ?_) fun j e' k' hj hid mv w' => ?_)
      · rw [if_neg (by simp)]
        exact fin es k (Mv.refl _ _) o.w (fun y => ⟨fun hy => ⟨hy, hno y hy⟩, fun hy => hy.1⟩) (Nat.le_refl _)
      · have := (o.rel.2 x e'.due).2 (by rw [← hid]; exact List.mem_of_getElem? hj)
        rw [hn] at this
        cases this
    · refine same o.r.le ?_
      refine wheel_Wheel_Clear_call (whClear_ok o.w (by omega) (fun hno => ?_) fun j e' k' hj hid mv w' => ?_)
      · exact absurd rfl (hno _ ((o.rel.2 x d).1 hd))
      · rw [if_neg (by simp)]
        have hjl := (List.getElem?_eq_some_iff.1 hj).1
        exact fin _ k' mv w' (fun y => by rw [clear_mem o.w hj y, hid]) (by simp; omega)
  clear rgk hi0 hi1
  -- what is popped
  refine wheel_Wheel_Len_call (whLen_ok o.w ?_)
  have hkl := relK_len o.rel o.w.sorted
  refine ⟨(kvs.length : Int), semIs_lenMap (tb_ok.und 61 ty61 rfl) o.mp, ?_⟩
  dsimp only
  rw [if_neg (by simp [hkl])]
  refine LoopW1.intro (fun i k => ∃ es F kvs, Once h k p m es F kvs ∧ 0 ≤ i ∧ i ≤ (ns.length : Int) + 1 ∧ es.length ≤ 1048576 ∧ (∀ e ∈ es, 0 ≤ e.id_ ∧ 0 ≤ e.due ∧ e.due ≤ 9223372036854775807 ∧ pastF e.id_ xs = e.due) ∧ (i = (ns.length : Int) + 1 → es = [])) (fun i _ => (ns.length + 1 - i).toNat)
    ⟨es, F1, kvs, o, by omega, by omega, hel, hes, fun he => by omega⟩ ?_
  clear hkl hes hel o es F1 kvs
  rintro i2 k ⟨es, F1, kvs, o, hi0, hi1, hel, hes, hend⟩
  split
  · rename_i ei
    have ei : i2 ≤ (nows.len : Int) := by simpa using ei
    refine JoinW1.intro (fun now k' => k' = k ∧ (i2 = (ns.length : Int) → now = 9223372036854775807)) ?_ ?_
    · by_cases hin : i2 < (nows.len : Int)
      · rw [if_pos (by simpa using hin)]
        refine Rs.get (rn.mono o.r.le) (fun _ => rfl) (by omega) hi0 (by omega) fun (y : Int) _ => ?_
        exact ⟨rfl, fun hh => by omega⟩
      · rw [if_neg (by simpa using hin)]
        exact ⟨rfl, fun _ => rfl⟩
    · rintro now k' ⟨rfl, hnow⟩
      refine wheel_Wheel_Pop_call (whPop_ok o.w (by omega) fun out k1 done rest G F' hsp hdn hrest ho w1 hdis m1 => ?_)
      have hlen : done.length + rest.length = es.length := by rw [hsp]; simp
      have hol := ho.1
      simp at hol
      have hmF1 : ∀ c ∈ [m], c ∉ F1 := o.r.sep 1 0 [m] F1 rfl rfl (by omega)
      have hmn : ∀ c ∈ [m], k' c ≠ none := o.r.known 1 [m] rfl
      have hmG : m ∉ G := fun hc => mv_disj m1 hmn hmF1 m (by simp) (List.mem_append_right _ hc)
      obtain ⟨r1, mp1⟩ := o.stepW (m1.less fun c hc => List.mem_append_left _ hc) w1
      have rout : Rs k1 (shInt .i64) 1 out (done.map (·.id_)) := ho.rw fun _ => rfl
      have hsort : es.Pairwise ltE := o.w.sorted
      have hnod := o.w.nodup
      have getD : ∀ {q : Int} {x : Int}, (done.map (·.id_))[q.toNat]? = some x → ∃ e, done[q.toNat]? = some e ∧ e.id_ = x := by
        intro q x hx
        rw [List.getElem?_map] at hx
        cases hd : done[q.toNat]? with
        | none => rw [hd] at hx; cases hx
        | some e => rw [hd] at hx; cases hx; exact ⟨e, rfl, rfl⟩
      have inEs : ∀ {q : Nat} {e : S_wheel_entry}, done[q]? = some e → e ∈ es := fun hd => by rw [hsp]; exact List.mem_append_left _ (List.mem_of_getElem? hd)
      -- in order
      refine LoopW1.intro (fun q k' => k' = k1 ∧ 0 ≤ q ∧ q ≤ (done.length : Int)) (fun q _ => (done.length - q).toNat) ⟨rfl, by omega, by omega⟩ ?_
      rintro q k2 ⟨rfl, hq0, hq1⟩
      split
      · rename_i eq
        have eq : q < (out.len : Int) := by simpa using eq
        refine JoinW0.intro (fun k' => k' = k2) ?_ ?_
        · refine Rs.get rout (fun _ => rfl) (by omega) hq0 (by simp; omega) fun (x : Int) hx => ?_
          obtain ⟨e, hde, rfl⟩ := getD hx
          have heE := inEs hde
          obtain ⟨b1, b2, b3, b4⟩ := hes e heE
          have hdd := hdn e (List.mem_of_getElem? hde)
          refine lookW_kv (sh := shInt .i64) (z := (0 : Int)) mp1 rfl (fun hn => ?_) fun d hd => ?_
          · have := (o.rel.2 e.id_ e.due).2 heE
            rw [hn] at this
            cases this
          have hde2 : d = e.due := by
            have := (o.rel.2 e.id_ e.due).2 heE
            rw [hd] at this
            exact Option.some.inj this
          subst hde2
          refine letW (letW ?_)
          have c2 : ((!true || decide (e.due > now)) || decide (e.due < 0)) = false := by simp; omega
          rw [c2]
          refine Rs.getC rout (0 : Int) (fun _ => rfl) (by omega) (fun _ => ⟨hq0, by simp; omega⟩) fun (x3 : Int) hx3 => ?_
          obtain ⟨e', hde', rfl⟩ := getD (hx3 rfl)
          rw [hde] at hde'
          cases hde'
          refine letW ?_
          rw [if_neg (by simp; omega)]
          by_cases hqp : q > 0
          · rw [if_pos (by simpa using hqp), wrap64 (by omega) (by omega)]
            refine Rs.get rout (fun _ => rfl) (by omega) (by omega) (by simp; omega) fun (x4 : Int) hx4 => ?_
            obtain ⟨e0, hde0, rfl⟩ := getD hx4
            have he0E := inEs hde0
            obtain ⟨g1, g2, g3, g4⟩ := hes e0 he0E
            have hlt : ltE e0 e := by
              obtain ⟨y1, y2⟩ := List.getElem?_eq_some_iff.1 hde0
              obtain ⟨z1, z2⟩ := List.getElem?_eq_some_iff.1 hde
              have hsd : done.Pairwise ltE := by rw [hsp] at hsort; exact (List.pairwise_append.1 hsort).1
              have := List.pairwise_iff_getElem.1 hsd _ _ y1 z1 (by omega)
              rw [y2, z2] at this
              exact this
            refine firebreaklaw11_past_call (past_ok (rl.mono r1.le) (by omega) ?_)
            rw [g4]
            refine Rs.getC rout (0 : Int) (fun _ => rfl) (by omega) (fun _ => ⟨by omega, by simp; omega⟩) fun (x5 : Int) hx5 => ?_
            refine Rs.getC rout (0 : Int) (fun _ => rfl) (by omega) (fun _ => ⟨hq0, by simp; omega⟩) fun (x6 : Int) hx6 => ?_
            refine letW (letW ?_)
            unfold ltE at hlt
            have cc : (decide (e0.due > e.due) || ((e0.due == e.due) && decide (x5 ≥ x6))) = false := by
              rcases hlt with hlt | ⟨hlt, hid⟩
              · have n1 : ¬ e0.due > e.due := by omega
                have n2 : ¬ e0.due = e.due := by omega
                simp [n1, n2]
              · obtain ⟨f5, hf5, rfl⟩ := getD (hx5 (by simp [hlt]))
                obtain ⟨f6, hf6, rfl⟩ := getD (hx6 (by simp [hlt]))
                rw [hde0] at hf5
                rw [hde] at hf6
                cases hf5
                cases hf6
                have n1 : ¬ e0.id_ ≥ e.id_ := by omega
                simp [hlt, n1] <;> omega
            rw [cc, if_neg (by simp)]
          · rw [if_neg (by simpa using hqp)]
        · rintro k3 rfl
          rw [wrap64 (by omega) (by omega)]
          exact ⟨⟨rfl, by omega, by omega⟩, by omega⟩
      -- and once
      refine LoopW1.intro (fun q k' => ∃ kvs', Regs h k' [F', [m]] ∧ Wh k' p rest F' ∧ MapKv k' m .i64 (shInt .i64).enc kvs' ∧ OwnF k' 1 eI out (done.map (·.id_)) G ∧ 0 ≤ q ∧ q ≤ (done.length : Int) ∧ RelK (done.drop q.toNat ++ rest) kvs') (fun q _ => (done.length - q).toNat)
        ⟨kvs, r1, w1, mp1, ho, by omega, by omega, by
          have : done.drop (0 : Int).toNat ++ rest = es := by rw [hsp]; rfl
          rw [this]; exact o.rel⟩ ?_
      clear hq0 hq1
      rintro q k3 ⟨kvs', r3', w3', mp3', ho3, hq0, hq1, hrel⟩
      split
      · rename_i eq
        have eq : q < (out.len : Int) := by simpa using eq
        refine Rs.get (sh := shInt .i64) (ho3.rw fun _ => rfl) (fun _ => rfl) (by omega) hq0 (by simp; omega) fun (x : Int) hx => ?_
        obtain ⟨e, hde, rfl⟩ := getD hx
        refine mapDel_kv mp3' fun ob _ mp4 => ?_
        have mv : Mv [m] k3 [m] (k3.set m ob) := Mv.set
        rw [wrap64 (by omega) (by omega)]
        have hdr : done.drop q.toNat = e :: done.drop (q.toNat + 1) := by
          obtain ⟨z1, z2⟩ := List.getElem?_eq_some_iff.1 hde
          rw [List.drop_eq_getElem_cons z1, z2]
        have hn1 : ((e :: (done.drop (q.toNat + 1) ++ rest)).map (·.id_)).Nodup := by
          have hn2 := hnod
          rw [hsp] at hn2
          refine hn2.sublist (List.Sublist.map _ ?_)
          rw [← List.cons_append, ← hdr]
          exact List.Sublist.append (List.drop_sublist _ _) (List.Sublist.refl _)
        refine ⟨⟨kdel e.id_ kvs', r3'.step (j := 1) (F := [m]) rfl mv (fun c hc => by rw [List.mem_singleton.1 hc]; exact mp4.known), w3'.same (r3'.other (j := 1) (F := [m]) rfl mv (a := 0) (E := F') rfl (by omega)), mp4,
          ho3.mv mv (fun c hc => by simp; exact fun e' => hmG (e' ▸ hc)), by omega, by omega, ?_⟩, by omega⟩
        have hq2 : (q + 1).toNat = q.toNat + 1 := by omega
        rw [hq2]
        rw [hdr] at hrel
        exact relK_del hrel (tail_mem hn1)
      · rename_i eq
        have eq : ¬ q < (out.len : Int) := by simpa using eq
        have hqn : q.toNat = done.length := by omega
        rw [hqn, List.drop_length, List.nil_append] at hrel
        have hkl := relK_len hrel w3'.sorted
        have o' : Once h k3 p m rest F' kvs' := ⟨r3', w3', mp3', hrel⟩
        have hlast : i2 + 1 = (ns.length : Int) + 1 → rest = [] := fun he => by
          cases rest with
          | nil => rfl
          | cons e r =>
            have h1 := hrest e r rfl
            have h2 := (hes e (by rw [hsp]; simp)).2.2.1
            have h3 := hnow (by omega)
            omega
        have tailStep : ∀ (r5 : Int) (r6 : Bool), r6 = decide ((rest.length : Int) > 0) → (r6 = true → now < r5) →
            CallT Try.prog n_wheel_Wheel_Len [(.pointer (some p))] (shInt .i64) (fun r7 h13 =>
              SemV none Try.prog (Builtin.len_ #[61] 3 #[(.map (some m))]) (shInt .i64) h13 fun x1 =>
              SemV (some (!(r7 != x1))) Try.prog (Builtin.len_ #[61] 3 #[(.map (some m))]) (shInt .i64) h13 fun x2 =>
              LetW ((r7 != x1) || (!(r6 == (decide (x2 > (0 : Int)))))) fun y1 =>
              LetW (r6 && (decide (r5 ≤ now))) fun y2 =>
              LetW (y1 || y2) fun y3 =>
              (if y3 = true then Q false h13 else
                (∃ es F kvs, Once h h13 p m es F kvs ∧ 0 ≤ IntKind.wrap .i64 (i2 + 1) ∧ IntKind.wrap .i64 (i2 + 1) ≤ (ns.length : Int) + 1 ∧ es.length ≤ 1048576 ∧ (∀ e ∈ es, 0 ≤ e.id_ ∧ 0 ≤ e.due ∧ e.due ≤ 9223372036854775807 ∧ pastF e.id_ xs = e.due) ∧ (IntKind.wrap .i64 (i2 + 1) = (ns.length : Int) + 1 → es = [])) ∧ (ns.length + 1 - IntKind.wrap .i64 (i2 + 1)).toNat < (ns.length + 1 - i2).toNat)) k3 := by
          intro r5 r6 h6 h5
          refine wheel_Wheel_Len_call (whLen_ok w3' ?_)
          refine ⟨(kvs'.length : Int), semIs_lenMap (tb_ok.und 61 ty61 rfl) mp3', ?_⟩
          refine ⟨(kvs'.length : Int), fun _ => semIs_lenMap (tb_ok.und 61 ty61 rfl) mp3', ?_⟩
          refine letW (letW (letW ?_))
          have cc : ((((rest.length : Int) != (kvs'.length : Int)) || (!(r6 == (decide ((kvs'.length : Int) > 0))))) || (r6 && decide (r5 ≤ now))) = false := by
            rw [hkl, h6]
            cases hr : decide ((rest.length : Int) > 0) with
            | false => simp
            | true =>
              have := h5 (h6.trans hr)
              have n1 : ¬ r5 ≤ now := by omega
              simp [n1]
          rw [cc, if_neg (by simp), wrap64 (by omega) (by omega)]
          exact ⟨⟨rest, F', kvs', o', by omega, by omega, by omega, fun e he => hes e (by rw [hsp]; exact List.mem_append_right _ he), hlast⟩, by omega⟩
        refine wheel_Wheel_Next_call (whNext_ok w3' (fun he => ?_) fun e r he => ?_)
        · exact tailStep 0 false (by rw [he]; simp) fun h => by cases h
        · refine tailStep e.due true (by rw [he]; simp <;> omega) fun _ => ?_
          have := hrest e r he
          omega
  · rename_i ei
    have ei : ¬ i2 ≤ (nows.len : Int) := by simpa using ei
    have hee := hend (by omega)
    subst hee
    have hkl := relK_len o.rel o.w.sorted
    refine ⟨(kvs.length : Int), semIs_lenMap (tb_ok.und 61 ty61 rfl) o.mp, ?_⟩
    refine effB (by simp [hkl]) (firebreaklaw11_fixed_call (fixed_ok fun h8 l8 => ?_))
    refine letW ?_
    have : (((kvs.length : Int) == 0) && true) = true := by simp [hkl]
    rw [this]
    exact hq h8 (Hp.le_trans o.r.le l8)

end Lf
