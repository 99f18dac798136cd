/-
  Part 6 of the texts that the claim leans on.
-/
import Derived.Laws.StructEq
import Derived.ChangeKeysEq
import Derived.ProofKit
import Derived.SizedLaws
import Derived.Test.YtloapcmhhcbonaaMgSnNames4
/-
  The reader of a config: instructions, processes.
-/
namespace Lf
open Go Go.Proofs

theorem wrap_i64 {v : Nat} (h : v < 18446744073709551616) : IntKind.wrap .i64 (v : Int) = i64 v := by
  unfold IntKind.wrap i64
  simp only [IntKind.signed, IntKind.bits]
  simp
  split <;> split <;> omega

/-- Is the field of a register wrong? -/
theorem regP_bad {has : Bool} {n : Int} (h : 0 ≤ n) : regP has n ≠ 0 ↔ ((has && decide (n ≥ 8)) || ((!has) && (n != 0))) = true := by
  unfold regP
  cases has with
  | true =>
    rw [if_neg (by simp)]
    by_cases h1 : n < 0 ∨ 8 ≤ n
    · rw [if_pos h1]; simp; omega
    · rw [if_neg h1]; simp; omega
  | false =>
    by_cases h1 : n ≠ 0
    · rw [if_pos ⟨rfl, h1⟩]; simpa using h1
    · rw [if_neg (fun e => h1 e.2), if_neg (by omega)]
      simpa using h1

/-- At which of its bytes it is wrong. -/
def spoiltP (x : PIns) : Int := if regP (fieldsP x.op).1 x.a ≠ 0 then 1 else if regP (fieldsP x.op).2.1 x.b ≠ 0 then 2 else if regP (fieldsP x.op).2.2.1 x.c ≠ 0 then 3 else 4

theorem spoiltP_eq {x : PIns} {n locks : Int} (h : (wrongP x n locks).1 ≠ 0) : (wrongP x n locks).2 = if (wrongP x n locks).1 = 9 then 0 else spoiltP x := by
  have h9 : ∀ b m, regP b m ≠ 9 := fun b m => by
    unfold regP
    split
    · decide
    · split <;> decide
  unfold wrongP at h ⊢
  unfold spoiltP
  by_cases h1 : x.op < 0 ∨ 34 ≤ x.op
  · rw [if_pos h1] at h ⊢; rw [if_pos rfl]
  rw [if_neg h1] at h ⊢
  by_cases h2 : regP (fieldsP x.op).1 x.a ≠ 0
  · rw [if_pos h2] at h ⊢; rw [if_neg (h9 _ _), if_pos h2]
  rw [if_neg h2] at h ⊢
  rw [if_neg h2]
  by_cases h3 : regP (fieldsP x.op).2.1 x.b ≠ 0
  · rw [if_pos h3] at h ⊢; rw [if_neg (h9 _ _), if_pos h3]
  rw [if_neg h3] at h ⊢
  rw [if_neg h3]
  by_cases h4 : regP (fieldsP x.op).2.2.1 x.c ≠ 0
  · rw [if_pos h4] at h ⊢; rw [if_neg (h9 _ _), if_pos h4]
  rw [if_neg h4] at h ⊢
  rw [if_neg h4]
  by_cases h5 : (fieldsP x.op).2.2.2 = false ∧ x.imm ≠ 0
  · rw [if_pos h5] at h ⊢; rfl
  rw [if_neg h5] at h ⊢
  by_cases h6 : (x.op = 22 ∨ x.op = 23) ∧ (x.imm < 0 ∨ n < x.imm)
  · rw [if_pos h6] at h ⊢; rfl
  rw [if_neg h6] at h ⊢
  by_cases h7 : (x.op = 29 ∨ x.op = 30) ∧ (x.imm < 0 ∨ locks ≤ x.imm)
  · rw [if_pos h7] at h ⊢; rfl
  rw [if_neg h7] at h
  exact absurd rfl h

theorem spoilt_ok {h : Hp} {x : S_api_Ins} {e : Int} {Q : Int → Hp → Prop} (ha : 0 ≤ x.A) (hb : 0 ≤ x.B) (hc : 0 ≤ x.C) (hq : ∀ h', h ≤ h' → Q (if e = 9 then 0 else spoiltP (insOf x)) h') : conf_spoilt_w Try.prog x e Q h := by
  unfold conf_spoilt_w
  by_cases h9 : e = 9
  · rw [if_pos (by simpa using h9)]
    rw [if_pos h9] at hq
    exact hq h (Hp.le_refl _)
  rw [if_neg (by simpa using h9)]
  rw [if_neg h9] at hq
  refine code_Fields_call (codeFields_ok fun h1 hle1 => ?_)
  generalize hf : fieldsP x.Op = f at *
  obtain ⟨f1, f2, f3, f4⟩ := f
  dsimp only
  refine newB2 (cs := [.bool f1, .int .i64 x.A, .bool f2, .int .i64 x.B, .bool f3, .int .i64 x.C]) fun b h2 _ hle2 hB => ?_
  have hq := fun h' hl => hq h' (Hp.le_trans hle1 (Hp.le_trans hle2 hl))
  have p1 := regP_bad (has := f1) ha
  have p2 := regP_bad (has := f2) hb
  have p3 := regP_bad (has := f3) hc
  have hsp : spoiltP (insOf x) = if regP f1 x.A ≠ 0 then 1 else if regP f2 x.B ≠ 0 then 2 else if regP f3 x.C ≠ 0 then 3 else 4 := by
    unfold spoiltP
    have e : fieldsP (insOf x).op = (f1, f2, f3, f4) := hf
    rw [e]
    rfl
  rw [hsp] at hq
  refine forI (n := 3) rfl (by omega) (fun i h' => h' = h2 ∧ (1 ≤ i → ¬ regP f1 x.A ≠ 0) ∧ (2 ≤ i → ¬ regP f2 x.B ≠ 0) ∧ (3 ≤ i → ¬ regP f3 x.C ≠ 0)) ⟨rfl, fun h => by omega, fun h => by omega, fun h => by omega⟩ ?_ ?_
  · rintro i hi h3 ⟨rfl, q1, q2, q3⟩ K hK
    refine ⟨⟨by simp, by omega, by omega⟩, ?_⟩
    match i, hi with
    | 0, _ =>
      refine ld_at (sh := sh_struct_has_bool_n_int) ⟨f1, x.A⟩ (hB.ldIs (off := 0) (n := 2) rfl) (letW (letW (letW ?_)))
      dsimp only
      by_cases hbad : regP f1 x.A ≠ 0
      · rw [if_pos (p1.1 hbad), wrap64 (by omega) (by omega)]
        rw [if_pos hbad] at hq
        exact hq h3 (Hp.le_refl _)
      · rw [if_neg (fun e => hbad (p1.2 e))]
        exact hK h3 ⟨rfl, fun _ => hbad, fun h => by omega, fun h => by omega⟩
    | 1, _ =>
      refine ld_at (sh := sh_struct_has_bool_n_int) ⟨f2, x.B⟩ (hB.ldIs (off := 2) (n := 2) rfl) (letW (letW (letW ?_)))
      dsimp only
      by_cases hbad : regP f2 x.B ≠ 0
      · rw [if_pos (p2.1 hbad), wrap64 (by omega) (by omega)]
        rw [if_neg (q1 (by omega)), if_pos hbad] at hq
        exact hq h3 (Hp.le_refl _)
      · rw [if_neg (fun e => hbad (p2.2 e))]
        exact hK h3 ⟨rfl, fun _ => q1 (by omega), fun _ => hbad, fun h => by omega⟩
    | 2, _ =>
      refine ld_at (sh := sh_struct_has_bool_n_int) ⟨f3, x.C⟩ (hB.ldIs (off := 4) (n := 2) rfl) (letW (letW (letW ?_)))
      dsimp only
      by_cases hbad : regP f3 x.C ≠ 0
      · rw [if_pos (p3.1 hbad), wrap64 (by omega) (by omega)]
        rw [if_neg (q1 (by omega)), if_neg (q2 (by omega)), if_pos hbad] at hq
        exact hq h3 (Hp.le_refl _)
      · rw [if_neg (fun e => hbad (p3.2 e))]
        exact hK h3 ⟨rfl, fun _ => q1 (by omega), fun _ => q2 (by omega), fun _ => hbad⟩
  · rintro h3 ⟨rfl, q1, q2, q3⟩
    rw [if_neg (q1 (by omega)), if_neg (q2 (by omega)), if_neg (q3 (by omega))] at hq
    exact hq h3 (Hp.le_refl _)

/-- All that can be wrong is that it is too short. -/
def Only5 {α : Type} (d : D α) : Prop := ∀ bs at_ e, d bs at_ = .error e → e = (5, bs.length)

theorem only_num (k : Nat) : Only5 (D.num k) := fun bs at_ e h => by
  unfold D.num at h
  split at h <;> cases h
  rfl

theorem only_bind {α β : Type} {d : D α} {f : α → D β} (h1 : Only5 d) (h2 : ∀ x, Only5 (f x)) : Only5 (D.bind d f) := fun bs at_ e h => by
  unfold D.bind at h
  cases hd : d bs at_ with
  | error e1 => rw [hd] at h; cases h; exact h1 bs at_ _ hd
  | ok x => rw [hd] at h; exact h2 _ bs _ e h

theorem only_ret {α : Type} (x : α) : Only5 (D.ret x) := fun _ _ _ h => by cases h

theorem only_ins : Only5 insRaw :=
  only_bind (only_bind (only_num 1) fun _ => only_ret _) fun _ => only_bind (only_bind (only_num 1) fun _ => only_ret _) fun _ => only_bind (only_bind (only_num 1) fun _ => only_ret _) fun _ =>
    only_bind (only_bind (only_num 1) fun _ => only_ret _) fun _ => only_bind (only_bind (only_num 8) fun _ => only_ret _) fun _ => only_ret _

theorem must_0 {α : Type} (d : D α) : D.must d (fun _ => 0) = d := by
  funext b a
  unfold D.must
  cases d b a with
  | error e => rfl
  | ok x => rfl

end Lf

/-
  The reader of a config: an instruction, a process.
-/
namespace Lf
open Go Go.Proofs

section
variable {d h : Hp} {rb : Nat} {bl : Sl} {bs : List UInt8} {r : RS}

theorem fine_rd {k : Nat} {Q : Int → Hp → Prop} (a : RAt d h rb bl bs r) (hk1 : 1 ≤ k) (hk8 : k ≤ 8)
    (hq : ∀ (v : Nat) r1 h', v < 256 ^ k → Mv [rb] h [rb] h' → RAt d h' rb bl bs r1 → Cn bs r (D.num k) r1 v → Q (v : Int) h') :
    CallT Try.prog n_conf_reader_number [(.pointer (some ⟨rb, 0, none⟩)), (.int .i64 (k : Int)), (.func (.func n_conf_reader_ins_1) #[] #[])] (shInt .u64) Q h := by
  refine conf_reader_number_call (wrong := ⟨n_conf_reader_ins_1, #[], #[]⟩) (number_rd (k := k) a hk1 hk8 (fun _ => 0) (fun n hn2 K hK => ?_) fun v r1 h2 hv m a2 hc => ?_)
  · refine callV_ok (g := n_conf_reader_ins_1) rfl (conf_reader_ins_1_call ?_)
    unfold conf_reader_ins_1_w
    exact hK h (Hp.le_refl _)
  · rw [must_0] at hc
    exact hq v r1 h2 hv m a2 hc

theorem ins_rd {n locks : Int} {Q : S_api_Ins → Hp → Prop} (a : RAt d h rb bl bs r) (hq : ∀ (v : S_api_Ins) r1 h', Mv [rb] h [rb] h' → RAt d h' rb bl bs r1 → Cn bs r (insD n locks) r1 (insOf v) → Q v h') :
    conf_reader_ins_w Try.prog (some ⟨rb, 0, none⟩) n locks Q h := by
  unfold conf_reader_ins_w
  obtain ⟨p, e, pl, kb, hs⟩ := a.blk
  have hlen : bl.len = bs.length := a.src.1
  have hsm := a.small
  refine conf_reader_bad_call (bad_ok kb ?_)
  cases r with
  | error x =>
    obtain ⟨er, q⟩ := x
    rw [if_pos (by rw [hs.1]; simpa using hs.2.1)]
    exact hq _ _ h (Mv.refl _ _) a Cn.stay
  | ok at_ =>
    obtain ⟨rfl, rfl, hn⟩ := hs
    have hn : at_ ≤ bs.length := by omega
    rw [if_neg (by simp)]
    refine notNil (ld_at (sh := shInt .i64) (at_ : Int) (kb.ldIs (off := 1) (n := 1) rfl) (notNil (ld_at (sh := shSl) bl (kb.ldIs (off := 0) (n := 1) rfl) ?_)))
    rw [wrap64 (by omega) (by omega)]
    by_cases hsh : bs.length < at_ + 12
    · rw [if_pos (decide_eq_true (by omega))]
      refine notNil (ld_at (sh := shSl) bl (kb.ldIs (off := 0) (n := 1) rfl) (conf_reader_give_call (give_ok kb fun h' m k' => ?_)))
      rw [if_pos ⟨by decide, rfl⟩, if_pos ⟨by decide, rfl⟩] at k'
      refine hq _ (.error (5, bs.length)) h' m ⟨(m.le a.le fun c hc => by rw [List.mem_singleton.1 hc]; exact a.out).1, a.out, a.src, a.cap, a.small, _, _, _, k', rfl, by decide, by rw [hlen]⟩ (Cn.err ?_)
      unfold insD D.mustAt
      cases hi : insRaw bs at_ with
      | error e => rw [only_ins bs at_ e hi]
      | ok y =>
        obtain ⟨y, a2⟩ := y
        have h1 := (law_ins.sound bs at_ y a2 hi hn).2.1
        have h2 := law_ins.within hi hn
        simp [insB, leB_len] at h1
        omega
    · rw [if_neg (fun e => hsh (by have := of_decide_eq_true e; omega))]
      refine fine_rd (k := 1) a (by omega) (by omega) fun v1 r1 h1 hv1 m1 a1 c1 => ?_
      refine fine_rd (k := 1) a1 (by omega) (by omega) fun v2 r2 h2 hv2 m2 a2 c2 => ?_
      refine fine_rd (k := 1) a2 (by omega) (by omega) fun v3 r3 h3 hv3 m3 a3 c3 => ?_
      refine fine_rd (k := 1) a3 (by omega) (by omega) fun v4 r4 h4 hv4 m4 a4 c4 => ?_
      refine fine_rd (k := 8) a4 (by omega) (by omega) fun v5 r5 h5 hv5 m5 a5 c5 => ?_
      have m := m1.trans (m2.trans (m3.trans (m4.trans m5)))
      have hc : Cn bs (.ok at_) insRaw r5 (insOf ⟨(v1 : Int), (v2 : Int), (v3 : Int), (v4 : Int), i64 v5⟩) :=
        Cn.seq c1.map (Cn.seq c2.map (Cn.seq c3.map (Cn.seq c4.map (Cn.seq c5.map Cn.ret))))
      rw [wrap_i64 (v := v5) (by omega)]
      rw [wrap64 (n := (v1 : Int)) (by omega) (by omega), wrap64 (n := (v2 : Int)) (by omega) (by omega), wrap64 (n := (v3 : Int)) (by omega) (by omega), wrap64 (n := (v4 : Int)) (by omega) (by omega)]
      have hx : (⟨(v1 : Int), (v2 : Int), (v3 : Int), (v4 : Int), i64 v5⟩ : S_api_Ins).A = (v2 : Int) := rfl
      refine code_Check_call (x := ⟨(v1 : Int), (v2 : Int), (v3 : Int), (v4 : Int), i64 v5⟩) (check_ok fun h6 hle6 => ?_)
      have hA : 0 ≤ (⟨(v1 : Int), (v2 : Int), (v3 : Int), (v4 : Int), i64 v5⟩ : S_api_Ins).A := by show (0 : Int) ≤ (v2 : Int); omega
      have hB : 0 ≤ (⟨(v1 : Int), (v2 : Int), (v3 : Int), (v4 : Int), i64 v5⟩ : S_api_Ins).B := by show (0 : Int) ≤ (v3 : Int); omega
      have hC : 0 ≤ (⟨(v1 : Int), (v2 : Int), (v3 : Int), (v4 : Int), i64 v5⟩ : S_api_Ins).C := by show (0 : Int) ≤ (v4 : Int); omega
      have hdone := hc.done
      have m6 := m.trans (Mv.of_le [rb] hle6)
      have a6 := a5.grow hle6
      have hval : (sh_api_Ins.enc ⟨(v1 : Int), (v2 : Int), (v3 : Int), (v4 : Int), i64 v5⟩) = .agg #[.int .i64 (v1 : Int), .int .i64 (v2 : Int), .int .i64 (v3 : Int), .int .i64 (v4 : Int), .int .i64 (i64 v5)] := rfl
      rw [← hval]
      generalize (⟨(v1 : Int), (v2 : Int), (v3 : Int), (v4 : Int), i64 v5⟩ : S_api_Ins) = y at *
      by_cases hw : (wrongP (insOf y) n locks).1 = 0
      · rw [if_neg (by simpa using hw)]
        refine hq y r5 h6 m6 a6 ?_
        cases r5 with
        | ok a2 =>
          refine Cn.ok ?_
          have hdone : insRaw bs at_ = .ok (insOf y, a2) := hdone
          unfold insD D.mustAt
          rw [hdone]
          dsimp only
          rw [if_pos hw]
        | error e =>
          refine Cn.err ?_
          have hdone : insRaw bs at_ = .error e := hdone
          unfold insD D.mustAt
          rw [hdone]
      · rw [if_pos (by simpa using hw)]
        refine conf_spoilt_call (spoilt_ok hA hB hC fun h7 hle7 => ?_)
        rw [← spoiltP_eq (n := n) (locks := locks) hw]
        have hsp : 0 ≤ (wrongP (insOf y) n locks).2 ∧ (wrongP (insOf y) n locks).2 ≤ 4 := by
          rw [spoiltP_eq hw]
          split
          · omega
          · unfold spoiltP
            split
            · omega
            · split
              · omega
              · split <;> omega
        have a7 := a6.grow hle7
        obtain ⟨p7, e7, pl7, k7, hs7⟩ := a7.blk
        rw [wrap64 (by omega) (by omega)]
        refine conf_reader_give_call (give_ok k7 fun h8 m8 k8 => ?_)
        have m9 := (m6.trans (Mv.of_le [rb] hle7)).trans m8
        have hd8 := (m9.le a.le fun c hc => by rw [List.mem_singleton.1 hc]; exact a.out).1
        cases r5 with
        | ok a2 =>
          have hdone : insRaw bs at_ = .ok (insOf y, a2) := hdone
          obtain ⟨rfl, rfl, hs7⟩ := hs7
          simp only [ne_eq, hw, not_false_eq_true, and_self, if_true] at k8
          refine hq y (.error ((wrongP (insOf y) n locks).1, at_ + (wrongP (insOf y) n locks).2.toNat)) h8 m9 ⟨hd8, a.out, a.src, a.cap, a.small, _, _, _, k8, rfl, hw, by push_cast; omega⟩ (Cn.err ?_)
          unfold insD D.mustAt
          rw [hdone]
          dsimp only
          rw [if_neg hw]
        | error e =>
          have hdone : insRaw bs at_ = .error e := hdone
          obtain ⟨er, q⟩ := e
          obtain ⟨rfl, hne, rfl⟩ := hs7
          rw [if_neg (fun hh => hne hh.2), if_neg (fun hh => hne hh.2)] at k8
          refine hq y (.error (e7, q)) h8 m9 ⟨hd8, a.out, a.src, a.cap, a.small, _, _, _, k8, rfl, hne, rfl⟩ (Cn.err ?_)
          unfold insD D.mustAt
          rw [hdone]

end
end Lf

/-
  The reader of a config: a process.
-/
namespace Lf
open Go Go.Proofs

section
variable {d h0 k : Hp} {rb cb : Nat} {bl : Sl} {bs : List UInt8} {r : RS} {x : S_api_Config} {c : PCfg} {B : List Nat}

/-- Other blocks than those of the config have changed. -/
theorem CB.other (s : CB d h0 rb cb bl bs k r x c B) {k' : Hp} {B5 : List Nat} (keep : ∀ b o, k b = some o → b ∉ B5 → k' b = some o) (hB : ∀ b ∈ B5, h0 b = none ∧ b ∉ B) : CB d h0 rb cb bl bs k' r x c B := by
  have h5r : rb ∉ B5 := fun h => s.kr (hB rb h).1
  have h5c : cb ∉ B5 := fun h => s.kc (hB cb h).1
  have hk : ∀ b o, h0 b = some o → b ∉ B5 := fun b o e h => by rw [(hB b h).1] at e; cases e
  exact {
    base := s.base
    kr := s.kr
    kc := s.kc
    ne := s.ne
    dc := s.dc
    keep := fun b o e h1 h2 => keep b o (s.keep b o e h1 h2) (hk b o e)
    rd := by
      obtain ⟨p, q, t, ⟨ty, kb⟩, hs⟩ := s.rd.blk
      exact ⟨fun b o e => keep b o (s.rd.le b o e) (hk b o (s.base b o e)), s.rd.out, s.rd.src, s.rd.cap, s.rd.small, p, q, t, ⟨ty, keep rb _ kb h5r⟩, hs⟩
    blk := by
      obtain ⟨t, e⟩ := s.blk
      exact ⟨t, keep cb _ e h5c⟩
    own := okCfg.same s.own fun b hb => by
      cases e : k b with
      | none => exact absurd e (okCfg.known s.own b hb)
      | some o => exact keep b o e fun h => (hB b h).2 hb
    nd := s.nd
    fresh := s.fresh }

theorem proc1_ok {P : Program} {n : Int} {Q : Int → Hp → Prop} {h : Hp} (hq : Q (if 256 < n then 3 else 0) h) : conf_reader_proc_1_w P n Q h := by
  unfold conf_reader_proc_1_w
  by_cases hn : 256 < n
  · rw [if_pos hn] at hq; rw [if_pos (decide_eq_true hn)]; exact hq
  · rw [if_neg hn] at hq; rw [if_neg (fun e => hn (of_decide_eq_true e))]; exact hq

theorem cproc_rd (s : CB d h0 rb cb bl bs k r x c B) (hsm : c.labels.length ≤ 255) (hps : c.procs.length ≤ 255) {Q : Hp → Prop}
    (hq : ∀ p r1 k' x' B', CB d h0 rb cb bl bs k' r1 x' { c with procs := c.procs ++ [p] } B' → Cn bs r (procD (c.labels.length : Int) c.locks) r1 p → Q k') :
    conf_reader_proc_w Try.prog (some ⟨rb, 0, none⟩) (some ⟨cb, 0, none⟩) Q k := by
  unfold conf_reader_proc_w
  have hll : x.Labels.len = c.labels.length := by
    obtain ⟨B1, B2, B3, _, o1, _⟩ := s.own
    exact o1.len
  have hlk : x.Locks = c.locks := by
    obtain ⟨B1, B2, B3, _, _, _, _, _, _, e, _⟩ := s.own
    exact e
  refine conf_reader_partition_call (partition_rd s.rd s.blk (by omega) fun part r1 k1 hpart m1 a1 hc1 => ?_)
  rw [hll] at hc1
  have s1 := s.step m1 a1
  refine conf_reader_int_call (wrong := ⟨n_conf_reader_proc_1, #[], #[]⟩) (int_rd (k := 2) s1.rd (by omega) (by omega) (fun n => if 256 < n then 3 else 0) (fun n hn2 h1 hle1 K hK => callV_ok (g := n_conf_reader_proc_1) rfl (conf_reader_proc_1_call (proc1_ok (hK h1 (Hp.le_refl _))))) fun v r2 k2 hv m2 a2 hc2 => ?_)
  have s2 := s1.step m2 a2
  refine LoopW2.intro (fun i p k3 => ∃ (j : Nat) (ps : List PIns) (r' : RS) (B5 : List Nat), i = (j : Int) ∧ j = ps.length ∧ j ≤ v ∧ CB d h0 rb cb bl bs k3 r' x c B ∧ p.Part = (part : Int) ∧ InsO p.Code ps k3 B5 ∧ B5.Nodup ∧ (∀ b ∈ B5, h0 b = none ∧ b ∉ B) ∧
      ∀ (β : Type) (f : List PIns → D β), stepD r2 (D.bind (D.many (fun _ => insD (v : Int) c.locks) v []) f) bs = stepD r' (D.bind (D.many (fun _ => insD (v : Int) c.locks) (v - j) ps) f) bs) (fun i _ _ => (v - i).toNat)
    ⟨0, [], r2, [], rfl, rfl, by omega, s2, rfl, RowsO.nil, List.nodup_nil, fun b hb => by (cases hb), fun _ _ => rfl⟩ ?_
  rintro i p k3 ⟨j, ps, r', B5, rfl, hjl, hjv, s3, hpp, o5, nd5, hB5, hcn⟩
  refine effI (fun b => b = true ↔ ∃ e, r' = .error e) false (fun _ hk => conf_reader_bad_call (s3.rd.bad hk)) fun b hb => letW ?_
  have hend : (j = v ∨ ∃ e, r' = .error e) → NilW none (some ⟨cb, 0, none⟩) fun p1 => LdW none shSl k3 (Addr.add p1 6) fun x => NewW [(.int .i64 p.Part), p.Code.v] (fun a h5 => (((LdIs h5 (Addr.add p1 6) [x.v]) ∧ True) ∧ AppendW 2 32 [(.int .i64 (0 : Int)), (.slice none 0 0)] x ⟨(some a), 1, 1⟩ (fun r4 h6 =>
      NilW none (some ⟨cb, 0, none⟩) fun p2 => StW h6 (Addr.add p2 6) [r4.v] (fun h7 => Q h7)) h5)) k3 := fun hor => by
    refine notNil (ld_at (sh := shSl) x.Procs (s3.blk.ldIs (off := 6) (n := 1) rfl) ?_)
    refine newF (xs := [p]) (enc := fun x => cellsL (sh_api_Proc.enc x)) (sz := 2) rfl (fun _ => rfl) fun b6 k6 _ hle6 _ o6 => ?_
    have s6 := s3.grow hle6
    have o5' : InsO p.Code ps k6 B5 := okIns.same o5 fun b hb => by
      cases e : k3 b with
      | none => exact absurd e (okIns.known o5 b hb)
      | some o => exact hle6 b o e
    refine ⟨⟨s6.blk.ldIs (off := 6) (n := 1) rfl, trivial⟩, ?_⟩
    refine s6.procs (v := p) (p := ⟨(part : Int), ps⟩) ⟨hpp, o5'⟩ nd5 hB5 (o6.rw fun _ => rfl) (by omega) fun l' k7 hN => notNil (hN.2.2 _ fun k8 B8 s8 => ?_)
    refine hq ⟨(part : Int), ps⟩ r' k8 _ B8 s8 fun β f => ?_
    unfold procD
    rw [bind_assoc, hc1, bind_assoc, hc2, bind_assoc]
    have e := hcn β fun code => f ⟨(part : Int), code⟩
    rcases hor with rfl | ⟨e2, rfl⟩
    · rw [Nat.sub_self] at e
      exact e
    · exact e
  by_cases hjv' : j = v
  · rw [if_neg (by simp [hjv'])]
    exact hend (.inl hjv')
  have hb := hb (decide_eq_true (by omega))
  cases b with
  | true =>
    rw [if_neg (by simp)]
    exact hend (.inr (hb.1 rfl))
  | false =>
    rw [if_pos (by simp; omega)]
    refine notNil (ld_at (sh := shInt .i64) x.Locks (s3.blk.ldIs (off := 4) (n := 1) rfl) ?_)
    rw [hlk]
    refine conf_reader_ins_call (ins_rd s3.rd fun y r4 k4 m4 a4 hc4 => ?_)
    have s4 := s3.step m4 a4
    have o4 : InsO p.Code ps k4 B5 := okIns.same o5 (mv_same m4 (okIns.known o5) fun b hb e => s3.kr (by rw [← List.mem_singleton.1 e]; exact (hB5 b hb).1))
    refine ⟨⟨trivial, trivial⟩, ?_⟩
    refine newF (xs := [y]) (enc := fun x => cellsL (sh_api_Ins.enc x)) (sz := 5) rfl (fun _ => rfl) fun b5 k5 _ hle5 _ o5'' => ?_
    have s5 := s4.grow hle5
    have o5' : InsO p.Code ps k5 B5 := okIns.same o4 fun b hb => by
      cases e : k4 b with
      | none => exact absurd e (okIns.known o4 b hb)
      | some o => exact hle5 b o e
    refine ⟨⟨trivial, trivial⟩, ?_⟩
    refine rows_app (PureO.ok _) o5' (v := y) (p := insOf y) (B' := []) ⟨rfl, rfl⟩ (by simpa using nd5) (o5''.rw fun _ => rfl) (fun _ => rfl) (fun _ => rfl) rfl (by omega) fun l' k6 B6 o6 nd6 keep6 from6 => ?_
    have s6 := s5.other keep6 hB5
    rw [wrap64 (by omega) (by omega)]
    refine ⟨⟨j + 1, ps ++ [insOf y], r4, B6, by omega, by simp [hjl], by omega, s6, hpp, o6, nd6, fun b hb => ?_, fun β f => ?_⟩, by omega⟩
    · rcases from6 b hb with hb | hb
      · exact hB5 b (by simpa using hb)
      · exact ⟨s5.new_ hb, fun h => okCfg.known s5.own b h hb⟩
    · have e1 : v - j = (v - (j + 1)) + 1 := by omega
      rw [hcn, e1, many_succ, bind_assoc, hc4]

end
end Lf

/-
  conf.Decode.
-/
namespace Lf
open Go Go.Proofs

section
variable {d h : Hp} {rb : Nat} {bl : Sl} {bs : List UInt8} {r : RS}

theorem marked1_ok {P : Program} {ab : Nat} {i : Nat} {n : Nat} {h : Hp} (hi : i < 5) (hn : n < 256) (ha : LdIs h ⟨ab, 0, none⟩ [.int .i64 (i : Int)]) {c : UInt8} (hc : ([70, 66, 67, 70, 1] : List UInt8)[i]? = some c)
    {Q : Int → Hp → Prop} (hq : Q (if n = c.toNat then 0 else 4) h) : conf_reader_marked_1_w P (n : Int) ⟨ab, 0, none⟩ Q h := by
  unfold conf_reader_marked_1_w
  have h5 : (i : Int) < 5 := by omega
  refine ld_at (sh := shInt .i64) (i : Int) ha ⟨⟨Int.natCast_nonneg i, h5⟩, ?_⟩
  have e1 : IntKind.wrap .u8 (n : Int) = (n : Int) := by
    rw [wrap8, ofNat_byte]; omega
  have e2 : List.getD [70, 66, 67, 70, 1] (Int.toNat (i : Int)) (0 : UInt8) = c := by
    rw [List.getD_eq_getElem?_getD, show (Int.toNat (i : Int)) = i from rfl, hc]; rfl
  rw [e1, e2]
  by_cases h1 : n = c.toNat
  · rw [if_pos h1] at hq
    rw [if_neg (by simp [h1])]
    exact hq
  · rw [if_neg h1] at hq
    rw [if_pos (by rw [bne_iff_ne]; omega)]
    exact hq

theorem marked_rd {Q : Hp → Prop} (a : RAt d h rb bl bs r) (hq : ∀ r1 h', Mv [rb] h [rb] h' → RAt d h' rb bl bs r1 → Cn bs r (markD [70, 66, 67, 70, 1]) r1 () → Q h') : conf_reader_marked_w Try.prog (some ⟨rb, 0, none⟩) Q h := by
  unfold conf_reader_marked_w
  refine forI (n := 5) rfl (by omega) (fun i k => ∃ r', Mv [rb] h [rb] k ∧ RAt d k rb bl bs r' ∧ ∀ (β : Type) (f : Unit → D β), stepD r (D.bind (markD [70, 66, 67, 70, 1]) f) bs = stepD r' (D.bind (markD (([70, 66, 67, 70, 1] : List UInt8).drop i)) f) bs) ⟨r, Mv.refl _ _, a, fun _ _ => rfl⟩ ?_ ?_
  · rintro i hi k ⟨r', m, a', hcn⟩ K hK
    refine newB2 fun ab k1 hn1 hle1 hA1 => ?_
    have a1 := a'.grow hle1
    have har : rb ≠ ab := fun h => by
      obtain ⟨p, q, t, kb, _⟩ := a'.blk
      exact kb.known (h ▸ hn1)
    refine stW_blk (b := ab) (off := 0) hA1 (by simp) fun k2 m2 hA2 => ?_
    have a2 := a1.mv m2 (fun h => har (List.mem_singleton.1 h)) fun b hb => by
      rw [List.mem_singleton.1 hb]
      exact none_of_le a'.le hn1
    have lA : LdIs k2 ⟨ab, 0, none⟩ [.int .i64 (i : Int)] := by
      refine hA2.ldIs (off := 0) (n := 1) ?_
      simp
    have hc : ([70, 66, 67, 70, 1] : List UInt8)[i]? = some (([70, 66, 67, 70, 1] : List UInt8)[i]'(by simpa using hi)) := List.getElem?_eq_getElem (by simpa using hi)
    generalize ([70, 66, 67, 70, 1] : List UInt8)[i]'(by simpa using hi) = c at hc
    refine conf_reader_number_call (wrong := ⟨n_conf_reader_marked_1, #[], #[.pointer (some ⟨ab, 0, none⟩)]⟩) (number_rd (k := 1) a2 (by omega) (by omega) (fun n => if n = c.toNat then 0 else 4) (fun n hn2 K hK => ?_) fun v r2 k3 hv m3 a3 hc3 => ?_)
    · refine callV_ok (g := n_conf_reader_marked_1) rfl (conf_reader_marked_1_call ?_)
      exact marked1_ok hi (by simpa using hn2) lA hc (hK k2 (Hp.le_refl _))
    · refine hK k3 ⟨r2, ⟨fun b o e hb => m3.keep b o (m2.keep b o (hle1 b o (m.keep b o e hb)) fun h => ?_) hb, fun b hb => .inl hb⟩, a3, fun β f => ?_⟩
      · rw [List.mem_singleton.1 h] at e hb
        have := m.keep ab o e hb
        rw [hn1] at this
        cases this
      · rw [hcn, drop_cons hc]
        show stepD r' (D.bind (D.bind (D.must (D.num 1) fun n => if n = c.toNat then 0 else 4) fun _ => markD (([70, 66, 67, 70, 1] : List UInt8).drop (i + 1))) f) bs = _
        rw [bind_assoc, hc3]
  · rintro k ⟨r', m, a', hcn⟩
    exact hq r' k m a' fun β f => by rw [hcn]; rfl
end

theorem rp2 : rangedP 2 = rngE 1 256 := by funext n; simp [rangedP]
theorem rp3 : rangedP 3 = rngE 1 64 := by funext n; simp [rangedP]
theorem rp4 : rangedP 4 = rngE 0 8 := by funext n; simp [rangedP]
theorem rp5 : rangedP 5 = rngE 0 4096 := by funext n; simp [rangedP]

def cfg0 : S_api_Config := ⟨⟨none, 0, 0⟩, ⟨none, 0, 0⟩, 0, 0, 0, 0, ⟨none, 0, 0⟩⟩

/-- How a reading has ended: what is wrong, or the config, as the reader's cells say. -/
def EndC (h h2 : Hp) (rb cb : Nat) (b : Sl) (bs : List UInt8) (k : Hp) : Prop :=
  (Blk k rb (rcells b 0 22 1048576) ∧ h ≤ k ∧ configOf bs = .error (22, 1048576)) ∨
  ∃ (r : RS) (x : S_api_Config) (c : PCfg) (B : List Nat), CB h h2 rb cb b bs k r x c B ∧ match r with
    | .error e => configOf bs = .error e
    | .ok _ => configOf bs = .ok c

theorem configOf_err {bs : List UInt8} {e : Int × Nat} (hl : bs.length ≤ 1048576) (h : stepD (.ok 0) configD bs = .error e) : configOf bs = .error e := by
  unfold configOf whole1
  rw [if_neg (by omega)]
  have h : configD bs 0 = .error e := h
  rw [h]

theorem configOf_ok {bs : List UInt8} {c : PCfg} {a : Nat} (hl : bs.length ≤ 1048576) (h : stepD (.ok 0) configD bs = .ok (c, a)) : configOf bs = if a < bs.length then .error (6, a) else .ok c := by
  unfold configOf whole1
  rw [if_neg (by omega)]
  have h : configD bs 0 = .ok (c, a) := h
  rw [h]

set_option maxRecDepth 20000 in
theorem confDecode_ok {h : Hp} {b : Sl} {bs : List UInt8} {Q : S_api_Config → Int → Int → Hp → Prop} (hB : Bs h b bs) (hcap : b.len ≤ b.cap)
    (he : ∀ e p h', h ≤ h' → configOf bs = .error (e, p) → e ≠ 0 → Q cfg0 e (p : Int) h') (hok : ∀ x c B h', h ≤ h' → configOf bs = .ok c → CfgO x c h' B → B.Nodup → (∀ b ∈ B, h b = none) → Q x 0 0 h') :
    conf_Decode_w Try.prog b Q h := by
  unfold conf_Decode_w
  have hlen : b.len = bs.length := hB.1
  refine newB2 fun cb h1 hn1 hle1 hC1 => newB2 fun rb h2 hn2 hle2 hR2 => ?_
  have hle := Hp.le_trans hle1 hle2
  have hne : rb ≠ cb := fun e => hC1.known (e ▸ hn2)
  have hrn : h rb = none := none_of_le hle1 hn2
  have hC2 := hC1.le hle2
  refine JoinW1.intro (fun _ k => EndC h h2 rb cb b bs k) ?_ ?_
  · by_cases hbig : 1048576 < bs.length
    · rw [if_pos (decide_eq_true (by omega))]
      refine conf_reader_give_call (give_ok (at_ := 0) (e := 0) (pl := 0) hR2 fun h3 m3 k3 => ?_)
      rw [if_pos ⟨by decide, rfl⟩, if_pos ⟨by decide, rfl⟩] at k3
      refine .inl ⟨k3, (m3.le hle fun c hc => by rw [List.mem_singleton.1 hc]; exact hrn).1, ?_⟩
      unfold configOf whole1
      rw [if_pos hbig]
    · rw [if_neg (fun e => hbig (by have := of_decide_eq_true e; omega))]
      have hsm : bs.length ≤ 1048576 := by omega
      have s0 : CB h h2 rb cb b bs h2 (.ok 0) cfg0 ⟨[], [], 0, 0, 0, 0, []⟩ [] :=
        ⟨hle, hR2.known, hC2.known, hne, hn1, fun b o e _ _ => e, ⟨hle, hrn, hB, hcap, by omega, 0, 0, 0, hR2, rfl, rfl, by omega⟩, hC2, ⟨[], [], [], rfl, RowsO.nil, RowsO.nil, RowsO.nil, rfl, rfl, rfl, rfl⟩, List.nodup_nil, fun b hb => by (cases hb)⟩
      refine conf_reader_marked_call (marked_rd s0.rd fun r1 k1 m1 a1 hc1 => ?_)
      have s1 := s0.step m1 a1
      have hc1' : stepD (.ok 0) configD bs = _ := hc1 PCfg _
      refine conf_reader_bad_call (s1.rd.bad fun q hq => ?_)
      cases q with
      | true =>
        rw [if_pos rfl]
        obtain ⟨e, rfl⟩ := hq.1 rfl
        exact .inr ⟨_, _, _, _, s1, configOf_err hsm hc1'⟩
      | false =>
      rw [if_neg (by simp)]
      refine conf_reader_labels_call (labels_rd s1 rfl fun ls r2 k2 x2 B2 hls s2 hc2 => ?_)
      have hc2' := hc1'.trans (hc2 PCfg _)
      refine conf_reader_bad_call (s2.rd.bad fun q hq => ?_)
      cases q with
      | true =>
        rw [if_pos rfl]
        obtain ⟨e, rfl⟩ := hq.1 rfl
        exact .inr ⟨_, _, _, _, s2, configOf_err hsm hc2'⟩
      | false =>
      rw [if_neg (by simp)]
      refine conf_reader_table_call (table_rd s2 rfl hls fun ts r3 k3 x3 B3 hts s3 hc3 => ?_)
      have hc3' := hc2'.trans (hc3 PCfg _)
      refine conf_reader_bad_call (s3.rd.bad fun q hq => ?_)
      cases q with
      | true =>
        rw [if_pos rfl]
        obtain ⟨e, rfl⟩ := hq.1 rfl
        exact .inr ⟨_, _, _, _, s3, configOf_err hsm hc3'⟩
      | false =>
      rw [if_neg (by simp)]
      have num : ∀ {k : Nat} {part : Int} {hi lo : Int} {r : RS} {x : S_api_Config} {c : PCfg} {B : List Nat} {kk : Hp} {Q : Int → Hp → Prop}, CB h h2 rb cb b bs kk r x c B → 1 ≤ k → k ≤ 2 → rangedP part = rngE lo hi →
          (∀ (v : Nat) r1 k1, v < 65536 → CB h h2 rb cb b bs k1 r1 x c B → Cn bs r (D.must (zD k) (rngE lo hi)) r1 (v : Int) → Q (v : Int) k1) → CallT Try.prog n_conf_reader_ranged [(.pointer (some ⟨rb, 0, none⟩)), (.int .i64 part), (.int .i64 (k : Int))] (shInt .i64) Q kk :=
        fun {k part hi lo r x c B kk Q} s hk1 hk2 hp hq => conf_reader_ranged_call (ranged_rd (k := k) s.rd hk1 hk2 fun v r1 k1 hv m a hc => hq v r1 k1 (by
          have : 256 ^ k ≤ 65536 := Nat.pow_le_pow_right (by omega : 256 > 0) hk2
          omega) (s.step m a) (by rw [← hp]; exact hc))
      refine num (k := 2) s3 (by omega) (by omega) rp2 fun v4 r4 k4 hv4 s4 hc4 => ?_
      have hc4' := hc3'.trans (hc4 PCfg _)
      refine s4.num (x' := { x3 with Fuel := (v4 : Int) }) (c' := ⟨ls, ts, (v4 : Int), 0, 0, 0, []⟩) (off := 2) (fun o => by
        obtain ⟨B1, B2, B3, e, o1, o2, o3, f1, f2, f3, f4⟩ := o
        exact ⟨B1, B2, B3, e, o1, o2, o3, rfl, f2, f3, f4⟩) (by omega) rfl fun k5 s5 => ?_
      refine num (k := 1) s5 (by omega) (by omega) rp3 fun v6 r6 k6 hv6 s6 hc6 => ?_
      have hc6' := hc4'.trans (hc6 PCfg _)
      refine s6.num (x' := { x3 with Fuel := (v4 : Int), Lane := (v6 : Int) }) (c' := ⟨ls, ts, (v4 : Int), (v6 : Int), 0, 0, []⟩) (off := 3) (fun o => by
        obtain ⟨B1, B2, B3, e, o1, o2, o3, f1, f2, f3, f4⟩ := o
        exact ⟨B1, B2, B3, e, o1, o2, o3, f1, rfl, f3, f4⟩) (by omega) rfl fun k7 s7 => ?_
      refine num (k := 1) s7 (by omega) (by omega) rp4 fun v8 r8 k8 hv8 s8 hc8 => ?_
      have hc8' := hc6'.trans (hc8 PCfg _)
      refine s8.num (x' := { x3 with Fuel := (v4 : Int), Lane := (v6 : Int), Locks := (v8 : Int) }) (c' := ⟨ls, ts, (v4 : Int), (v6 : Int), (v8 : Int), 0, []⟩) (off := 4) (fun o => by
        obtain ⟨B1, B2, B3, e, o1, o2, o3, f1, f2, f3, f4⟩ := o
        exact ⟨B1, B2, B3, e, o1, o2, o3, f1, f2, rfl, f4⟩) (by omega) rfl fun k9 s9 => ?_
      refine num (k := 2) s9 (by omega) (by omega) rp5 fun v10 r10 k10 hv10 s10 hc10 => ?_
      have hc10' := hc8'.trans (hc10 PCfg _)
      refine s10.num (x' := { x3 with Fuel := (v4 : Int), Lane := (v6 : Int), Locks := (v8 : Int), Log := (v10 : Int) }) (c' := ⟨ls, ts, (v4 : Int), (v6 : Int), (v8 : Int), (v10 : Int), []⟩) (off := 5) (fun o => by
        obtain ⟨B1, B2, B3, e, o1, o2, o3, f1, f2, f3, f4⟩ := o
        exact ⟨B1, B2, B3, e, o1, o2, o3, f1, f2, f3, rfl⟩) (by omega) rfl fun k11 s11 => ?_
      refine conf_reader_counted_call (counted_rd s11.rd fun np r12 k12 hnp m12 a12 hc12 => ?_)
      have s12 := s11.step m12 a12
      have hc12' := hc10'.trans (hc12 PCfg _)
      refine LoopW1.intro (fun n kk => ∃ (i : Nat) (ps : List PProc) (r' : RS) (x' : S_api_Config) (B' : List Nat), n = (i : Int) ∧ i + ps.length = np ∧ CB h h2 rb cb b bs kk r' x' ⟨ls, ts, (v4 : Int), (v6 : Int), (v8 : Int), (v10 : Int), ps⟩ B' ∧
          stepD (.ok 0) configD bs = stepD r' (D.bind (D.many (fun _ => procD (ls.length : Int) (v8 : Int)) i ps) fun procs => D.ret (⟨ls, ts, (v4 : Int), (v6 : Int), (v8 : Int), (v10 : Int), procs⟩ : PCfg)) bs) (fun n _ => n.toNat)
        ⟨np, [], r12, _, _, rfl, by simp, s12, hc12'⟩ ?_
      rintro n kk ⟨i, ps, r', x', B', rfl, hil, s13, hcn⟩
      refine effI (fun b => b = true ↔ ∃ e, r' = .error e) false (fun _ hk => conf_reader_bad_call (s13.rd.bad hk)) fun q hqb => letW ?_
      have hend : (i = 0 ∨ ∃ e, r' = .error e) → NilW none (some ⟨rb, 0, none⟩) fun p => LdW none (shInt .i64) kk (Addr.add p 1) fun x =>
          (if (decide (x < ((b.len : Nat) : Int))) = true then
          NilW none (some ⟨rb, 0, none⟩) fun p1 =>
          LdW none (shInt .i64) kk (Addr.add p1 1) fun x1 =>
          Call0 Try.prog n_conf_reader_give [(.pointer (some ⟨rb, 0, none⟩)), (.int .i64 (6 : Int)), (.int .i64 x1)] (fun h20 => EndC h h2 rb cb b bs h20) kk
          else EndC h h2 rb cb b bs kk) := fun hor => by
        obtain ⟨p, e, pl, kb, hs⟩ := s13.rd.blk
        refine notNil (ld_at (sh := shInt .i64) p (kb.ldIs (off := 1) (n := 1) rfl) ?_)
        cases r' with
        | error e0 =>
          obtain ⟨er, q0⟩ := e0
          obtain ⟨rfl, hne0, rfl⟩ := hs
          have hfin : EndC h h2 rb cb b bs kk := .inr ⟨_, _, _, _, s13, configOf_err hsm hcn⟩
          by_cases hlt : p < ((b.len : Nat) : Int)
          · rw [if_pos (decide_eq_true hlt)]
            refine notNil (ld_at (sh := shInt .i64) p (kb.ldIs (off := 1) (n := 1) rfl) (conf_reader_give_call (give_ok kb fun h20 m20 k20 => ?_)))
            rw [if_neg (fun hh => hne0 hh.2), if_neg (fun hh => hne0 hh.2)] at k20
            refine .inr ⟨.error (e, q0), _, _, _, s13.step m20 ⟨(m20.le s13.rd.le fun c hc => by rw [List.mem_singleton.1 hc]; exact hrn).1, hrn, hB, hcap, by omega, _, _, _, k20, rfl, hne0, rfl⟩, configOf_err hsm hcn⟩
          · rw [if_neg (fun e => hlt (of_decide_eq_true e))]
            exact hfin
        | ok at_ =>
          obtain ⟨rfl, rfl, hat⟩ := hs
          have h0 : i = 0 := by
            rcases hor with h0 | ⟨e, h0⟩
            · exact h0
            · cases h0
          subst h0
          have hcfg := configOf_ok hsm (hcn : stepD (.ok 0) configD bs = .ok (_, at_))
          by_cases hlt : at_ < bs.length
          · have hlt' : (at_ : Int) < ((b.len : Nat) : Int) := by omega
            rw [if_pos (decide_eq_true hlt')]
            rw [if_pos hlt] at hcfg
            refine notNil (ld_at (sh := shInt .i64) (at_ : Int) (kb.ldIs (off := 1) (n := 1) rfl) (conf_reader_give_call (give_ok kb fun h20 m20 k20 => ?_)))
            rw [if_pos ⟨by decide, rfl⟩, if_pos ⟨by decide, rfl⟩] at k20
            exact .inr ⟨.error (6, at_), _, _, _, s13.step m20 ⟨(m20.le s13.rd.le fun c hc => by rw [List.mem_singleton.1 hc]; exact hrn).1, hrn, hB, hcap, by omega, _, _, _, k20, rfl, by decide, rfl⟩, hcfg⟩
          · rw [if_neg (fun e => hlt (by have e : (at_ : Int) < ((b.len : Nat) : Int) := of_decide_eq_true e; omega))]
            rw [if_neg hlt] at hcfg
            exact .inr ⟨_, _, _, _, s13, hcfg⟩
      by_cases hi : i = 0
      · rw [if_neg (by simp [hi])]
        exact hend (.inl hi)
      have hqb := hqb (decide_eq_true (by omega))
      cases q with
      | true =>
        rw [if_neg (by simp)]
        exact hend (.inr (hqb.1 rfl))
      | false =>
        rw [if_pos (by simp; omega)]
        obtain ⟨j, rfl⟩ : ∃ j, i = j + 1 := ⟨i - 1, by omega⟩
        refine conf_reader_proc_call (cproc_rd s13 hls (by show ps.length ≤ 255; omega) fun p r14 k14 x14 B14 s14 hc14 => ?_)
        rw [wrap64 (by omega) (by omega)]
        refine ⟨⟨j, ps ++ [p], r14, x14, B14, by omega, by simp; omega, s14, ?_⟩, by omega⟩
        rw [hcn, many_succ, bind_assoc, hc14]
  · intro t2 k hE
    rcases hE with ⟨kb, hl, hcfg⟩ | ⟨r, x, c, B, s, hcfg⟩
    · refine conf_reader_bad_call (bad_ok kb ?_)
      rw [if_pos (by simp)]
      refine notNil (ld_at (sh := shInt .i64) (22 : Int) (kb.ldIs (off := 2) (n := 1) rfl) (notNil (ld_at (sh := shInt .i64) (1048576 : Int) (kb.ldIs (off := 3) (n := 1) rfl) ?_)))
      exact ⟨⟨kb.ldIs (off := 2) (n := 1) rfl, kb.ldIs (off := 3) (n := 1) rfl, trivial⟩, he 22 1048576 k hl hcfg (by decide)⟩
    · obtain ⟨p, e, pl, kb, hs⟩ := s.rd.blk
      refine conf_reader_bad_call (bad_ok kb ?_)
      cases r with
      | error e0 =>
        obtain ⟨er, q0⟩ := e0
        obtain ⟨rfl, hne0, rfl⟩ := hs
        rw [if_pos (by simpa using hne0)]
        refine notNil (ld_at (sh := shInt .i64) e (kb.ldIs (off := 2) (n := 1) rfl) (notNil (ld_at (sh := shInt .i64) (q0 : Int) (kb.ldIs (off := 3) (n := 1) rfl) ?_)))
        exact ⟨⟨kb.ldIs (off := 2) (n := 1) rfl, kb.ldIs (off := 3) (n := 1) rfl, trivial⟩, he e q0 k s.rd.le hcfg hne0⟩
      | ok at_ =>
        obtain ⟨rfl, rfl, _⟩ := hs
        rw [if_neg (by simp)]
        refine ld_at (sh := sh_api_Config) x (s.blk.ldIs (off := 0) (n := 7) rfl) ?_
        exact hok x c B k s.rd.le hcfg s.own s.nd fun b' hb' => none_of_le hle (s.fresh b' hb')

end Lf

/-
  The reader of a machine: where it stands; its numbers.
-/
namespace Lf
open Go Go.Proofs

structure SAt (d h : Hp) (rb : Nat) (bl : Sl) (bs : List UInt8) (r : RS) (x : S_api_Config) : Prop where
  le : d ≤ h
  out : d rb = none
  src : Bs d bl bs
  cap : bl.len ≤ bl.cap
  small : bs.length ≤ 2097152
  blk : ∃ at_ e pl : Int, Blk h rb (rcells bl at_ e pl ++ cfgL x) ∧ RSat r bs.length at_ e pl

section
variable {d h : Hp} {rb : Nat} {bl : Sl} {bs : List UInt8} {r : RS} {x : S_api_Config}

theorem SAt.mv (a : SAt d h rb bl bs r x) {G G' : List Nat} {h' : Hp} (m : Mv G h G' h') (hr : rb ∉ G) (hd : ∀ c ∈ G, d c = none) : SAt d h' rb bl bs r x := by
  obtain ⟨p, e, pl, k, hs⟩ := a.blk
  exact ⟨(m.le a.le hd).1, a.out, a.src, a.cap, a.small, p, e, pl, k.mv m hr, hs⟩

theorem SAt.grow (a : SAt d h rb bl bs r x) {h' : Hp} (hl : h ≤ h') : SAt d h' rb bl bs r x := a.mv (Mv.of_le [] hl) (by simp) (by simp)

theorem SAt.known (a : SAt d h rb bl bs r x) : h rb ≠ none := by
  obtain ⟨p, e, pl, k, hs⟩ := a.blk
  exact k.known

/-- One of the cells of the config. -/
theorem SAt.cfg (a : SAt d h rb bl bs r x) {j n : Nat} {vs : List Value} (hv : ((cfgL x).drop j).take n = vs) : LdIs h ⟨rb, 4 + j, none⟩ vs := by
  obtain ⟨p, e, pl, k, hs⟩ := a.blk
  exact k.ldIs (off := 4 + j) (n := n) (by rw [← hv, Nat.add_comm]; rfl)

theorem sgive_ok {P : Program} {tl : List Value} {at_ e pl e1 p1 : Int} (k : Blk h rb (rcells bl at_ e pl ++ tl)) {Q : Hp → Prop}
    (hk : ∀ h', Mv [rb] h [rb] h' → Blk h' rb (rcells bl at_ (if e = 0 then e1 else e) (if e = 0 then p1 else pl) ++ tl) → Q h') : snap_source_give_w P (some ⟨rb, 0, none⟩) e1 p1 Q h := by
  unfold snap_source_give_w
  refine notNil (ld_at (sh := shInt .i64) e (k.ldIs (off := 2) (n := 1) rfl) ?_)
  by_cases h2 : e = 0
  · rw [if_pos (by simpa using h2)]
    rw [if_pos h2, if_pos h2] at hk
    refine notNil (stW_blk (b := rb) (off := 2) k (by simp [rcells]) fun h2' m2 k2 => notNil (stW_blk (b := rb) (off := 3) k2 (by simp [rcells]) fun h3 m3 k3 => hk h3 (m2.trans m3) (by simpa [rcells] using k3)))
  · rw [if_neg (by simpa using h2)]
    rw [if_neg h2, if_neg h2] at hk
    exact hk h (Mv.refl _ _) k

theorem get_rd {k : Nat} {Q : Int → Hp → Prop} (a : SAt d h rb bl bs r x) (hk1 : 1 ≤ k) (hk8 : k ≤ 8)
    (hq : ∀ (n : Nat) r1 h', n < 256 ^ k → Mv [rb] h [rb] h' → SAt d h' rb bl bs r1 x → Cn bs r (D.num k) r1 n → ((∃ e, r1 = .error e) → n = 0) → Q (i64 n) h') : snap_source_get_w Try.prog (some ⟨rb, 0, none⟩) (k : Int) Q h := by
  unfold snap_source_get_w
  obtain ⟨p, e, pl, kb, hs⟩ := a.blk
  have hlen : bl.len = bs.length := a.src.1
  have hsm := a.small
  have hpow : 0 < 256 ^ k := Nat.pow_pos (by omega)
  have hpow8 : 256 ^ k ≤ 18446744073709551616 := Nat.pow_le_pow_right (by omega : 256 > 0) hk8
  refine notNil (ld_at (sh := shInt .i64) e (kb.ldIs (off := 2) (n := 1) rfl) ?_)
  cases r with
  | error y =>
    obtain ⟨er, q⟩ := y
    rw [if_pos (by rw [bne_iff_ne, hs.1]; exact hs.2.1)]
    exact hq 0 _ h hpow (Mv.refl _ _) a Cn.stay fun _ => rfl
  | ok n =>
    obtain ⟨rfl, rfl, hn⟩ := hs
    have hn : n ≤ bs.length := by omega
    rw [if_neg (by simp)]
    refine notNil (ld_at (sh := shSl) bl (kb.ldIs (off := 0) (n := 1) rfl) (notNil (ld_at (sh := shInt .i64) (n : Int) (kb.ldIs (off := 1) (n := 1) rfl) ?_)))
    rw [wrap64 (by omega) (by omega)]
    by_cases hsh : bs.length < n + k
    · have hlt : ((bl.len : Nat) : Int) - (n : Int) < (k : Int) := by omega
      rw [if_pos (decide_eq_true hlt)]
      refine notNil (ld_at (sh := shSl) bl (kb.ldIs (off := 0) (n := 1) rfl) (snap_source_give_call (sgive_ok kb fun h' m k' => ?_)))
      rw [if_pos rfl, if_pos rfl] at k'
      refine hq 0 (.error (5, bs.length)) h' hpow m ⟨(m.le a.le fun c hc => by rw [List.mem_singleton.1 hc]; exact a.out).1, a.out, a.src, a.cap, a.small, _, _, _, k', rfl, by decide, by rw [hlen]⟩ (Cn.err ?_) fun _ => rfl
      unfold D.num
      rw [if_pos hsh]
    · have hlt : ¬ ((bl.len : Nat) : Int) - (n : Int) < (k : Int) := by omega
      rw [if_neg (fun e => hlt (of_decide_eq_true e))]
      refine notNil (ld_at (sh := shSl) bl (kb.ldIs (off := 0) (n := 1) rfl) (notNil (ld_at (sh := shInt .i64) (n : Int) (kb.ldIs (off := 1) (n := 1) rfl) (notNil (ld_at (sh := shInt .i64) (n : Int) (kb.ldIs (off := 1) (n := 1) rfl) ?_)))))
      have hcap := a.cap
      rw [wrap64 (by omega) (by omega)]
      have hnk : (n : Int) ≤ (n : Int) + (k : Int) := by omega
      refine ⟨⟨by omega, hnk, by omega⟩, letW ?_⟩
      have e1 : ((n : Int) + (k : Int)).toNat = n + k := by omega
      have e2 : ((n : Int)).toNat = n := rfl
      rw [e1, e2]
      have hcut := (Rw.mono a.le a.src).cut (a := n) (b := n + k) (c := bl.cap) (n := n + k - n) (m := bl.cap - n) eB_len (by omega) (by omega) (by omega) rfl
      have e3 : n + k - n = k := by omega
      rw [e3] at hcut ⊢
      have hdl : ((bs.drop n).take k).length = k := by rw [List.length_take, List.length_drop]; omega
      have hv := valB_lt ((bs.drop n).take k)
      rw [hdl] at hv
      refine readLoop hcut (by omega) ?_
      refine notNil (ld_at (sh := shInt .i64) (n : Int) (kb.ldIs (off := 1) (n := 1) rfl) (notNil (stW_blk (b := rb) (off := 1) kb (by simp [rcells]) fun h5 m5 kb5 => ?_)))
      have hd5 := (m5.le a.le fun c hc => by rw [List.mem_singleton.1 hc]; exact a.out).1
      rw [wrap64 (by omega) (by omega)] at kb5
      rw [wrap_i64 (by omega)]
      have kb5 : Blk h5 rb (rcells bl ((n : Int) + (k : Int)) 0 pl ++ cfgL x) := by simpa [rcells] using kb5
      refine hq _ (.ok (n + k)) h5 hv m5 ⟨hd5, a.out, a.src, a.cap, a.small, _, _, _, kb5, by push_cast; rfl, rfl, by omega⟩ (Cn.ok ?_) (by rintro ⟨e, he⟩; cases he)
      unfold D.num
      rw [if_neg hsh]

theorem i64_small {n : Nat} (h : n < 4294967296) : i64 n = (n : Int) := by
  unfold i64
  rw [if_pos (by omega)]

/-- A number of few bytes. -/
theorem small_rd {k : Nat} {Q : Int → Hp → Prop} (a : SAt d h rb bl bs r x) (hk1 : 1 ≤ k) (hk4 : k ≤ 4)
    (hq : ∀ (n : Nat) r1 h', n < 256 ^ k → Mv [rb] h [rb] h' → SAt d h' rb bl bs r1 x → Cn bs r (zD k) r1 (n : Int) → ((∃ e, r1 = .error e) → n = 0) → Q (n : Int) h') : snap_source_small_w Try.prog (some ⟨rb, 0, none⟩) (k : Int) Q h := by
  unfold snap_source_small_w
  have hpow : 256 ^ k ≤ 4294967296 := Nat.pow_le_pow_right (by omega : 256 > 0) hk4
  refine snap_source_get_call (get_rd a hk1 (by omega) fun n r1 h' hn m a' hc hz => ?_)
  rw [i64_small (by omega)]
  exact hq n r1 h' hn m a' hc.map hz

/-- How many things there are. -/
theorem many_rd {k : Nat} {most : Int} {Q : Int → Hp → Prop} (a : SAt d h rb bl bs r x) (hk1 : 1 ≤ k) (hk4 : k ≤ 4)
    (hq : ∀ (n : Nat) r1 h', n < 256 ^ k → Mv [rb] h [rb] h' → SAt d h' rb bl bs r1 x → Cn bs r (D.must (zD k) (mostE most)) r1 (n : Int) → Q (n : Int) h') : snap_source_many_w Try.prog (some ⟨rb, 0, none⟩) (k : Int) most Q h := by
  unfold snap_source_many_w
  obtain ⟨p, e, pl, kb, hs⟩ := a.blk
  have hpow : 0 < 256 ^ k := Nat.pow_pos (by omega)
  refine notNil (ld_at (sh := shInt .i64) p (kb.ldIs (off := 1) (n := 1) rfl) ?_)
  refine snap_source_small_call (small_rd a hk1 hk4 fun n r1 h1 hn m1 a1 hc hz => ?_)
  obtain ⟨p1, e1, pl1, kb1, hs1⟩ := a1.blk
  by_cases hmost : most < (n : Int)
  · rw [if_pos (decide_eq_true hmost)]
    refine snap_source_give_call (sgive_ok kb1 fun h2 m2 kb2 => ?_)
    have m := m1.trans m2
    have hd2 := (m.le a.le fun c hc => by rw [List.mem_singleton.1 hc]; exact a.out).1
    cases r with
    | error y =>
      have := hc.done
      cases r1 with
      | ok at1 => cases this
      | error y1 =>
        obtain ⟨er, q⟩ := y1
        obtain ⟨rfl, hne, rfl⟩ := hs1
        rw [if_neg hne, if_neg hne] at kb2
        refine notNil (ld_at (sh := shInt .i64) e1 (kb2.ldIs (off := 2) (n := 1) rfl) ?_)
        rw [if_pos (by simpa using hne)]
        refine hq 0 (.error (e1, q)) h2 hpow m ⟨hd2, a.out, a.src, a.cap, a.small, _, _, _, kb2, rfl, hne, rfl⟩ ?_
        have e2 : y = (e1, q) := by
          have : (Except.error y : Except (Int × Nat) (Int × Nat)) = .error (e1, q) := this
          exact Except.error.inj this
        rw [e2]
        exact Cn.stay
    | ok at_ =>
      obtain ⟨rfl, rfl, hat⟩ := hs
      have hdone := hc.done
      cases r1 with
      | ok at1 =>
        obtain ⟨rfl, rfl, hat1⟩ := hs1
        have hdone : zD k bs at_ = .ok ((n : Int), at1) := hdone
        rw [if_pos rfl, if_pos rfl] at kb2
        refine notNil (ld_at (sh := shInt .i64) (3 : Int) (kb2.ldIs (off := 2) (n := 1) rfl) ?_)
        rw [if_pos (by simp)]
        refine hq 0 (.error (3, at_)) h2 hpow m ⟨hd2, a.out, a.src, a.cap, a.small, _, _, _, kb2, rfl, by decide, rfl⟩ (Cn.err ?_)
        unfold D.must
        rw [hdone]
        dsimp only
        have e3 : mostE most (n : Int) = 3 := by unfold mostE; rw [if_pos hmost]
        rw [if_neg (by rw [e3]; decide), e3]
      | error y1 =>
        obtain ⟨er, q⟩ := y1
        have hdone : zD k bs at_ = .error (er, q) := hdone
        obtain ⟨rfl, hne, rfl⟩ := hs1
        rw [if_neg hne, if_neg hne] at kb2
        refine notNil (ld_at (sh := shInt .i64) e1 (kb2.ldIs (off := 2) (n := 1) rfl) ?_)
        rw [if_pos (by simpa using hne)]
        refine hq 0 (.error (e1, q)) h2 hpow m ⟨hd2, a.out, a.src, a.cap, a.small, _, _, _, kb2, rfl, hne, rfl⟩ (Cn.err ?_)
        unfold D.must
        rw [hdone]
  · rw [if_neg (fun e => hmost (of_decide_eq_true e))]
    refine notNil (ld_at (sh := shInt .i64) e1 (kb1.ldIs (off := 2) (n := 1) rfl) ?_)
    have hcm : Cn bs r (D.must (zD k) (mostE most)) r1 (n : Int) := by
      cases r with
      | error y =>
        have hdone := hc.done
        cases r1 with
        | ok at1 => cases hdone
        | error y1 =>
          have hdone : (Except.error y : Except (Int × Nat) (Int × Nat)) = .error y1 := hdone
          cases hdone
          exact Cn.stay
      | ok at_ =>
        have hdone := hc.done
        cases r1 with
        | ok at1 =>
          have hdone : zD k bs at_ = .ok ((n : Int), at1) := hdone
          refine Cn.ok ?_
          unfold D.must
          rw [hdone]
          dsimp only
          rw [if_pos (by unfold mostE; rw [if_neg hmost])]
        | error y1 =>
          have hdone : zD k bs at_ = .error y1 := hdone
          refine Cn.err ?_
          unfold D.must
          rw [hdone]
    cases r1 with
    | ok at1 =>
      obtain ⟨rfl, rfl, hat1⟩ := hs1
      rw [if_neg (by simp)]
      exact hq n _ h1 hn m1 a1 hcm
    | error y1 =>
      obtain ⟨er, q⟩ := y1
      have hne := hs1.2.1
      rw [← hs1.1] at hne
      rw [if_pos (by simpa using hne)]
      rw [hz ⟨_, rfl⟩] at hcm
      exact hq 0 _ h1 hpow m1 a1 hcm

end
end Lf

/-
  Things of one's own in the making, the reader beside them; a lane.
-/
namespace Lf
open Go Go.Proofs

theorem forT {α : Type} {len : Int} {n : Nat} (hn : len = (n : Int)) (hb : n ≤ 4611686018427387904) (I : Nat → α → Hp → Prop) {B : (Int → α → Hp → Prop) → Int → α → Hp → Prop} {X : Int → α → Hp → Prop} {x0 : α} {h0 : Hp} (h00 : I 0 x0 h0)
    (hs : ∀ i : Nat, i < n → ∀ x h, I i x h → ∀ K : Int → α → Hp → Prop, (∀ x' h', I (i + 1) x' h' → K (IntKind.wrap .i64 ((i : Int) + 1)) x' h') → B K (i : Int) x h) (hx : ∀ x h, I n x h → X (n : Int) x h) :
    LoopW2 (fun again t x h => if decide (t < len) = true then B again t x h else X t x h) (0 : Int) x0 h0 := by
  refine LoopW2.intro (fun t x h => ∃ i : Nat, t = (i : Int) ∧ i ≤ n ∧ I i x h) (fun t _ _ => (len - t).toNat) ⟨0, rfl, by omega, h00⟩ ?_
  rintro t x h ⟨i, rfl, hi, hI⟩
  by_cases hlt : i < n
  · rw [if_pos (decide_eq_true (by omega))]
    refine hs i hlt x h hI _ fun x' h' hI' => ?_
    rw [wrap64 (by omega) (by omega)]
    exact ⟨⟨i + 1, by omega, by omega, hI'⟩, by omega⟩
  · rw [if_neg (fun e => hlt (by have := of_decide_eq_true e; omega))]
    have : i = n := by omega
    subst this
    exact hx x h hI

theorem forA {α : Type} {len : Int} {n : Nat} (hn : len = (n : Int)) (hb : n ≤ 4611686018427387904) (I : Nat → α → Hp → Prop) {B : (α → Int → Hp → Prop) → α → Int → Hp → Prop} {X : α → Int → Hp → Prop} {x0 : α} {h0 : Hp} (h00 : I 0 x0 h0)
    (hs : ∀ i : Nat, i < n → ∀ x h, I i x h → ∀ K : α → Int → Hp → Prop, (∀ x' h', I (i + 1) x' h' → K x' (IntKind.wrap .i64 ((i : Int) + 1)) h') → B K x (i : Int) h) (hx : ∀ x h, I n x h → X x (n : Int) h) :
    LoopW2 (fun again x t h => if decide (t < len) = true then B again x t h else X x t h) x0 (0 : Int) h0 := by
  refine LoopW2.intro (fun x t h => ∃ i : Nat, t = (i : Int) ∧ i ≤ n ∧ I i x h) (fun _ t _ => (len - t).toNat) ⟨0, rfl, by omega, h00⟩ ?_
  rintro x t h ⟨i, rfl, hi, hI⟩
  by_cases hlt : i < n
  · rw [if_pos (decide_eq_true (by omega))]
    refine hs i hlt x h hI _ fun x' h' hI' => ?_
    rw [wrap64 (by omega) (by omega)]
    exact ⟨⟨i + 1, by omega, by omega, hI'⟩, by omega⟩
  · rw [if_neg (fun e => hlt (by have := of_decide_eq_true e; omega))]
    have : i = n := by omega
    subst this
    exact hx x h hI

/-- From h0 on: the reader's block has changed, and there are blocks of one's own. -/
structure SB (d h0 : Hp) (rb : Nat) (bl : Sl) (bs : List UInt8) (x : S_api_Config) (k : Hp) (r : RS) (B : List Nat) : Prop where
  kr : h0 rb ≠ none
  keep : ∀ b o, h0 b = some o → b ≠ rb → k b = some o
  rd : SAt d k rb bl bs r x
  nd : B.Nodup
  fresh : ∀ b ∈ B, h0 b = none

section
variable {d h0 k : Hp} {rb : Nat} {bl : Sl} {bs : List UInt8} {r : RS} {x : S_api_Config} {B : List Nat}

theorem SB.init (a : SAt d k rb bl bs r x) : SB d k rb bl bs x k r [] := ⟨a.known, fun _ _ e _ => e, a, List.nodup_nil, fun b hb => by cases hb⟩

theorem SB.nr (s : SB d h0 rb bl bs x k r B) : rb ∉ B := fun h => s.kr (s.fresh rb h)

theorem SB.new_ (s : SB d h0 rb bl bs x k r B) {b : Nat} (e : k b = none) : h0 b = none := by
  cases h : h0 b with
  | none => rfl
  | some o =>
    have h1 : b ≠ rb := fun h => s.rd.known (h ▸ e)
    rw [s.keep b o h h1] at e
    cases e

/-- Behind another piece of work. -/
theorem SB.andThen (s : SB d h0 rb bl bs x k r B) (hkn : ∀ b ∈ B, k b ≠ none) {k' : Hp} {r1 : RS} {x' : S_api_Config} {B' : List Nat} (t : SB d k rb bl bs x' k' r1 B') : SB d h0 rb bl bs x' k' r1 (B ++ B') where
  kr := s.kr
  keep := fun b o e h1 => t.keep b o (s.keep b o e h1) h1
  rd := t.rd
  nd := by
    rw [List.nodup_append]
    exact ⟨s.nd, t.nd, fun a ha b hb e => hkn a ha (by rw [e]; exact t.fresh b hb)⟩
  fresh := fun b hb => by
    rcases List.mem_append.1 hb with hb | hb
    · exact s.fresh b hb
    · exact s.new_ (t.fresh b hb)

/-- What was one's own is left as it was. -/
theorem SB.kept (s : SB d h0 rb bl bs x k r B) (hkn : ∀ b ∈ B, k b ≠ none) {k' : Hp} {r1 : RS} {x' : S_api_Config} {B' : List Nat} (t : SB d k rb bl bs x' k' r1 B') : ∀ b ∈ B, k' b = k b := fun b hb => by
  cases e : k b with
  | none => exact absurd e (hkn b hb)
  | some o => exact t.keep b o e fun h => s.nr (h ▸ hb)

theorem SB.step {r1 : RS} {k' : Hp} (hkr : k rb ≠ none) (m : Mv [rb] k [rb] k') (a : SAt d k' rb bl bs r1 x) : SB d k rb bl bs x k' r1 [] :=
  ⟨hkr, fun b o e h1 => m.keep b o e fun h => h1 (List.mem_singleton.1 h), a, List.nodup_nil, fun b hb => by cases hb⟩

theorem SB.grow (s : SB d h0 rb bl bs x k r B) {k' : Hp} (hl : k ≤ k') : SB d h0 rb bl bs x k' r B :=
  ⟨s.kr, fun b o e h1 => hl b o (s.keep b o e h1), s.rd.grow hl, s.nd, s.fresh⟩

theorem kept_le {k k' : Hp} (hl : k ≤ k') {B : List Nat} (hkn : ∀ b ∈ B, k b ≠ none) : ∀ b ∈ B, k' b = k b := fun b hb => by
  cases e : k b with
  | none => exact absurd e (hkn b hb)
  | some o => exact hl b o e

/-- One's own blocks have changed. -/
theorem SB.fin (s : SB d h0 rb bl bs x k r B) {k3 : Hp} {B3 : List Nat} (keep3 : ∀ b o, k b = some o → b ∉ B → k3 b = some o) (nd3 : B3.Nodup) (from3 : ∀ b ∈ B3, b ∈ B ∨ k b = none) (hd : ∀ b ∈ B, d b = none) : SB d h0 rb bl bs x k3 r B3 where
  kr := s.kr
  keep := fun b o e h1 => keep3 b o (s.keep b o e h1) fun hb => by rw [s.fresh b hb] at e; cases e
  rd := by
    obtain ⟨p, q, t, ⟨ty, kb⟩, hs⟩ := s.rd.blk
    exact ⟨fun b o e => keep3 b o (s.rd.le b o e) fun hb => (by rw [hd b hb] at e; cases e), s.rd.out, s.rd.src, s.rd.cap, s.rd.small, p, q, t, ⟨ty, keep3 rb _ kb s.nr⟩, hs⟩
  nd := nd3
  fresh := fun b hb => by
    rcases from3 b hb with hb | hb
    · exact s.fresh b hb
    · exact s.new_ hb

end

section
variable {d h : Hp} {rb : Nat} {bl : Sl} {bs : List UInt8} {r : RS} {x : S_api_Config}

/-- The number i64 of a source. -/
theorem iD_eq : iD = D.map i64 (D.num 8) := rfl

set_option maxRecDepth 20000 in
theorem slane_rd {Q : S_api_Lane → Hp → Prop} (a : SAt d h rb bl bs r x)
    (hq : ∀ (v : S_api_Lane) (p : PLane) r1 B' h', SB d h rb bl bs x h' r1 B' → LaneO v p h' B' → Cn bs r (laneD x.Lane (x.Procs.len : Int)) r1 p → Q v h') : snap_reader_lane_w Try.prog (some ⟨rb, 0, none⟩) Q h := by
  unfold snap_reader_lane_w
  have hd : ∀ {B : List Nat}, (∀ b ∈ B, h b = none) → ∀ b ∈ B, d b = none := fun hB b hb => none_of_le a.le (hB b hb)
  refine notNil (notNil (ld_at (sh := shInt .i64) x.Lane (a.cfg (j := 3) (n := 1) rfl) ?_))
  refine snap_source_many_call (many_rd (k := 1) a (by omega) (by omega) fun n r1 h1 hn m1 a1 hc1 => ?_)
  have s1 : SB d h rb bl bs x h1 r1 [] := SB.step a.known m1 a1
  refine forT (n := n) rfl (by omega) (fun i (y : S_api_Lane) k => ∃ (vs : List Int) (r' : RS) (B : List Nat), vs.length = i ∧ y.Waiters = ⟨none, 0, 0⟩ ∧ SB d h rb bl bs x k r' B ∧ IsO y.Values vs k B ∧
    ∀ (β : Type) (f : List Int → D β), stepD r1 (D.bind (D.many (fun _ => iD) n []) f) bs = stepD r' (D.bind (D.many (fun _ => iD) (n - i) vs) f) bs) ⟨[], r1, [], rfl, rfl, s1, RowsO.nil, fun _ _ => rfl⟩ ?_ ?_
  · rintro i hi y k ⟨vs, r', B, hvl, hy, s, o, hcn⟩ K hK
    have hkn := okIs.known o
    refine notNil (snap_source_get_call (get_rd (k := 8) s.rd (by omega) (by omega) fun w r2 k2 hw m2 a2 hc2 _ => ?_))
    have t2 : SB d k rb bl bs x k2 r2 [] := SB.step s.rd.known m2 a2
    have s2 := s.andThen hkn t2
    rw [List.append_nil] at s2
    have o2 := okIs.same o (s.kept hkn t2)
    refine ⟨⟨trivial, trivial⟩, ?_⟩
    refine newF (xs := [i64 w]) (enc := fun x => cellsL ((shInt .i64).enc x)) (sz := 1) rfl (fun _ => rfl) fun b3 k3 _ hle3 _ o3 => ⟨⟨trivial, trivial⟩, ?_⟩
    have s3 := s2.grow hle3
    have oo := okIs.same o2 (kept_le hle3 (okIs.known o2))
    refine rows_app (PureO.ok _) oo (v := i64 w) (p := i64 w) (B' := []) ⟨rfl, rfl⟩ (by simpa using s3.nd) (o3.rw fun _ => rfl) (fun _ => rfl) (fun _ => rfl) rfl (by omega) fun l' k4 B4 o4 nd4 keep4 from4 => ?_
    refine hK _ k4 ⟨vs ++ [i64 w], r2, B4, by simp [hvl], hy, s3.fin keep4 nd4 (fun b hb => by simpa using from4 b hb) (hd s3.fresh), o4, fun β f => ?_⟩
    have e1 : n - i = (n - (i + 1)) + 1 := by omega
    rw [hcn, e1, many_succ, bind_assoc, iD_eq, hc2.map]
  · rintro y k ⟨vs, r', B, hvl, hy, s, o, hcn⟩
    have hkn := okIs.known o
    refine notNil (notNil (ld_at (sh := shSl) x.Procs (s.rd.cfg (j := 6) (n := 1) rfl) ?_))
    refine snap_source_many_call (many_rd (k := 1) s.rd (by omega) (by omega) fun n2 r2 k2 hn2 m2 a2 hc2 => ?_)
    have t2 : SB d k rb bl bs x k2 r2 [] := SB.step s.rd.known m2 a2
    have s2 := s.andThen hkn t2
    rw [List.append_nil] at s2
    have o2 := okIs.same o (s.kept hkn t2)
    have okW : AsOk (RowsO sh_api_Waiter 2 (PureO fun x p => waiterOf x = p)) := RowsO.ok (PureO.ok _)
    refine forT (n := n2) rfl (by omega) (fun i (z : S_api_Lane) k => ∃ (ws : List PWaiter) (r' : RS) (B1 B2 : List Nat), ws.length = i ∧ SB d h rb bl bs x k r' (B1 ++ B2) ∧ IsO z.Values vs k B1 ∧ RowsO sh_api_Waiter 2 (PureO fun x p => waiterOf x = p) z.Waiters ws k B2 ∧
      ∀ (β : Type) (f : List PWaiter → D β), stepD r2 (D.bind (D.many (fun _ => waiterD) n2 []) f) bs = stepD r' (D.bind (D.many (fun _ => waiterD) (n2 - i) ws) f) bs) ⟨[], r2, B, [], rfl, by simpa using s2, o2, by rw [hy]; exact RowsO.nil, fun _ _ => rfl⟩ ?_ ?_
    · rintro i hi z k ⟨ws, r', B1, B2, hwl, s, o1, o2, hcn⟩ K hK
      have hkn : ∀ b ∈ B1 ++ B2, k b ≠ none := fun b hb => by
        rcases List.mem_append.1 hb with hb | hb
        · exact okIs.known o1 b hb
        · exact okW.known o2 b hb
      refine notNil (notNil (snap_source_small_call (small_rd (k := 1) s.rd (by omega) (by omega) fun u r3 k3 hu m3 a3 hc3 _ => ⟨⟨trivial, trivial⟩, ?_⟩)))
      refine snap_source_get_call (get_rd (k := 8) a3 (by omega) (by omega) fun w r4 k4 hw m4 a4 hc4 _ => ⟨⟨trivial, trivial⟩, ?_⟩)
      have t4 : SB d k rb bl bs x k4 r4 [] := SB.step s.rd.known (m3.trans m4) a4
      have s4 := s.andThen hkn t4
      rw [List.append_nil] at s4
      have hs4 := s.kept hkn t4
      refine newF (xs := [(⟨(u : Int), i64 w⟩ : S_api_Waiter)]) (enc := fun x => cellsL (sh_api_Waiter.enc x)) (sz := 2) rfl (fun _ => rfl) fun b5 k5 _ hle5 _ o5 => ⟨⟨trivial, trivial⟩, ?_⟩
      have s5 := s4.grow hle5
      have hs5 : ∀ b ∈ B1 ++ B2, k5 b = k b := fun b hb => by
        rw [← hs4 b hb]
        exact kept_le hle5 (fun b hb => by rw [hs4 b hb]; exact hkn b hb) b hb
      have o1' := okIs.same o1 fun b hb => hs5 b (mem_a hb)
      have o2' := okW.same o2 fun b hb => hs5 b (mem_b hb)
      have nd := List.nodup_append.1 s5.nd
      refine rows_app (PureO.ok _) o2' (v := ⟨(u : Int), i64 w⟩) (p := ⟨(u : Int), i64 w⟩) (B' := []) ⟨rfl, rfl⟩ (by simpa using nd.2.1) (o5.rw fun _ => rfl) (fun _ => rfl) (fun _ => rfl) rfl (by omega) fun l' k6 B6 o6 nd6 keep6 from6 => ?_
      have hB1 : ∀ b ∈ B1, k6 b = k5 b := fun b hb => by
        cases e : k5 b with
        | none => exact absurd e (okIs.known o1' b hb)
        | some o => exact keep6 b o e fun h => nd.2.2 b hb b h rfl
      refine hK _ k6 ⟨ws ++ [⟨(u : Int), i64 w⟩], r4, B1, B6, by simp [hwl], s5.fin (fun b o e hn => keep6 b o e fun h => hn (mem_b h)) ?_ (fun b hb => ?_) (hd s5.fresh), okIs.same o1' hB1, o6, fun β f => ?_⟩
      · have := mid (P := B1) (M := B2) (S := []) (by simpa using s5.nd) nd6 from6 (by simpa using okIs.known o1') (fun b hb => by cases hb)
        simpa using this
      · rcases List.mem_append.1 hb with hb | hb
        · exact .inl (mem_a hb)
        · rcases from6 b hb with hb | hb
          · exact .inl (mem_b (by simpa using hb))
          · exact .inr hb
      · have e1 : n2 - i = (n2 - (i + 1)) + 1 := by omega
        rw [hcn, e1, many_succ, bind_assoc]
        unfold waiterD
        rw [bind_assoc, hc3, bind_assoc, iD_eq, hc4.map]
        rfl
    · rintro z k ⟨ws, r', B1, B2, hwl, s, o1, o2, hcn2⟩
      have hkn : ∀ b ∈ B1 ++ B2, k b ≠ none := fun b hb => by
        rcases List.mem_append.1 hb with hb | hb
        · exact okIs.known o1 b hb
        · exact okW.known o2 b hb
      refine notNil (notNil (snap_source_small_call (small_rd (k := 2) s.rd (by omega) (by omega) fun u r3 k3 hu m3 a3 hc3 _ => ?_)))
      refine snap_source_small_call (small_rd (k := 2) a3 (by omega) (by omega) fun w r4 k4 hw m4 a4 hc4 _ => ?_)
      have t4 : SB d k rb bl bs x k4 r4 [] := SB.step s.rd.known (m3.trans m4) a4
      have s4 := s.andThen hkn t4
      rw [List.append_nil] at s4
      have hs4 := s.kept hkn t4
      refine hq _ ⟨vs, ws, (u : Int), (w : Int)⟩ r4 (B1 ++ B2) k4 s4 ⟨B1, B2, rfl, okIs.same o1 fun b hb => hs4 b (mem_a hb), okW.same o2 fun b hb => hs4 b (mem_b hb), rfl, rfl⟩ fun β f => ?_
      unfold laneD
      rw [bind_assoc, hc1, bind_assoc]
      have e1 := hcn β fun values => D.bind (D.bind (D.must (zD 1) (mostE (x.Procs.len : Int))) fun m => D.bind (D.many (fun _ => waiterD) m.toNat []) fun waiters => D.bind (zD 2) fun taken => D.bind (zD 2) fun dropped => D.ret (⟨values, waiters, taken, dropped⟩ : PLane)) f
      rw [Nat.sub_self] at e1
      refine e1.trans ?_
      show stepD _ (D.bind (D.bind (D.must (zD 1) (mostE (x.Procs.len : Int))) _) f) bs = _
      rw [bind_assoc, hc2, bind_assoc]
      have e2 := hcn2 β fun waiters => D.bind (D.bind (zD 2) fun taken => D.bind (zD 2) fun dropped => D.ret (⟨vs, waiters, taken, dropped⟩ : PLane)) f
      rw [Nat.sub_self] at e2
      refine e2.trans ?_
      show stepD _ (D.bind (D.bind (zD 2) _) f) bs = _
      rw [bind_assoc, hc3, bind_assoc, hc4]
      rfl

end
end Lf

/-
  A partition is read.
-/
namespace Lf
open Go Go.Proofs

section
variable {d h0 k : Hp} {rb : Nat} {bl : Sl} {bs : List UInt8} {r : RS} {x : S_api_Config}

/-- One more behind one of several lists. -/
theorem mid_app {β : Type} {sh : Shape} {sz : Nat} {R : sh.T → β → Hp → List Nat → Prop} {l : Sl} {ps : List β} {P M S B' : List Nat} (ok : AsOk R) (hd0 : d ≤ h0) (s : SB d h0 rb bl bs x k r ((P ++ (M ++ S)) ++ B')) (o : RowsO sh sz R l ps k M) {v : sh.T} {p : β} (e : R v p k B')
    (kp : ∀ b ∈ P ++ S, k b ≠ none) {y : Sl} (hx : Rs k sh sz y [v]) (henc : ∀ x, (cellsL (sh.enc x)).length = sz) (hok : ∀ x, okCells (cellsL (sh.enc x)) = true) {zero : List Value} {bytes : Nat} (hz : zero.length = sz)
    (hb : ps.length + 1 ≤ 140737488355328 ∧ (ps.length + 1) * bytes ≤ 140737488355328) {K : Sl → Hp → Prop}
    (hk : ∀ l' k' M2, SB d h0 rb bl bs x k' r (P ++ (M2 ++ S)) → RowsO sh sz R l' (ps ++ [p]) k' M2 → (∀ b ∈ P ++ S, k' b = k b) → K l' k') : AppendW sz bytes zero l y K k := by
  have nd := List.nodup_append.1 s.nd
  have ndP := List.nodup_append.1 nd.1
  have ndM := List.nodup_append.1 ndP.2.1
  have hM : ∀ b ∈ P ++ S, b ∉ M := fun b hb hm => by
    rcases List.mem_append.1 hb with hb | hb
    · exact ndP.2.2 b hb b (mem_a hm) rfl
    · exact ndM.2.2 b hm b hb rfl
  have hB : ∀ b ∈ B', b ∉ P ++ (M ++ S) := fun b hb h => nd.2.2 b h b hb rfl
  refine rows_app ok o e (by
    rw [List.nodup_append]
    exact ⟨ndM.1, nd.2.1, fun a ha b hb e => hB b hb (e ▸ mem_b (mem_a ha))⟩) hx henc hok hz hb fun l' k' M2 o2 nd2 keep2 from2 => ?_
  have hps : ∀ b ∈ P ++ S, k' b = k b := fun b hb => by
    cases e : k b with
    | none => exact absurd e (kp b hb)
    | some o => exact keep2 b o e (hM b hb)
  refine hk l' k' M2 (s.fin (fun b o e hn => keep2 b o e fun h => hn (mem_a (mem_b (mem_a h)))) (mid nd.1 nd2 from2 kp fun b hb h => hB b hb ?_) (fun b hb => ?_) (fun b hb => none_of_le hd0 (s.fresh b hb))) o2 hps
  · rcases List.mem_append.1 h with h | h
    · exact mem_a h
    · exact mem_b (mem_b h)
  · rcases List.mem_append.1 hb with hb | hb
    · exact .inl (mem_a (mem_a hb))
    · rcases List.mem_append.1 hb with hb | hb
      · rcases from2 b hb with hb | hb
        · rcases List.mem_append.1 hb with hb | hb
          · exact .inl (mem_a (mem_b (mem_a hb)))
          · exact .inl (mem_b hb)
        · exact .inr hb
      · exact .inl (mem_a (mem_b (mem_b hb)))
end

abbrev LogO (l : Sl) (es : List PEntry) (h : Hp) (B : List Nat) : Prop := RowsO sh_api_Entry 3 (PureO fun x p => entryOf x = p) l es h B
abbrev QsO (l : Sl) (qs : List (List Int)) (h : Hp) (B : List Nat) : Prop := RowsO shSl 1 IsO l qs h B
theorem okLog : AsOk LogO := RowsO.ok (PureO.ok _)
theorem okQs : AsOk QsO := RowsO.ok okIs

section
variable {d h : Hp} {rb : Nat} {bl : Sl} {bs : List UInt8} {r : RS} {x : S_api_Config}

/-- A step of the reader, all one's own left. -/
theorem SB.next {h0 k : Hp} {B : List Nat} (s : SB d h0 rb bl bs x k r B) (hkn : ∀ b ∈ B, k b ≠ none) {k' : Hp} {r1 : RS} (m : Mv [rb] k [rb] k') (a : SAt d k' rb bl bs r1 x) : SB d h0 rb bl bs x k' r1 B ∧ ∀ b ∈ B, k' b = k b := by
  have t : SB d k rb bl bs x k' r1 [] := SB.step s.rd.known m a
  have s2 := s.andThen hkn t
  rw [List.append_nil] at s2
  exact ⟨s2, s.kept hkn t⟩

set_option maxRecDepth 20000 in
theorem spart_rd {Q : S_api_Part → Hp → Prop} (a : SAt d h rb bl bs r x) (hlk : 0 ≤ x.Locks ∧ x.Locks ≤ 1000)
    (hq : ∀ (v : S_api_Part) (p : PPart) r1 B' h', SB d h rb bl bs x h' r1 B' → PartO v p h' B' → Cn bs r (partD x.Log x.Locks (x.Procs.len : Int)) r1 p → Q v h') : snap_reader_part_w Try.prog (some ⟨rb, 0, none⟩) Q h := by
  unfold snap_reader_part_w
  refine notNil (snap_source_small_call (small_rd (k := 1) a (by omega) (by omega) fun cur r1 h1 hcur m1 a1 hc1 _ => ?_))
  refine notNil (notNil (ld_at (sh := shInt .i64) x.Log (a1.cfg (j := 5) (n := 1) rfl) ?_))
  refine snap_source_many_call (many_rd (k := 2) a1 (by omega) (by omega) fun n r2 h2 hn m2 a2 hc2 => ?_)
  have s2 : SB d h rb bl bs x h2 r2 [] := SB.step a.known (m1.trans m2) a2
  refine forT (n := n) rfl (by omega) (fun i (y : S_api_Part) k => ∃ (es : List PEntry) (r' : RS) (B : List Nat), es.length = i ∧ (y.Cursor = (cur : Int) ∧ y.Owners = ⟨none, 0, 0⟩ ∧ y.Queues = ⟨none, 0, 0⟩) ∧ SB d h rb bl bs x k r' B ∧ LogO y.Log es k B ∧
    ∀ (β : Type) (f : List PEntry → D β), stepD r2 (D.bind (D.many (fun _ => entryD) n []) f) bs = stepD r' (D.bind (D.many (fun _ => entryD) (n - i) es) f) bs) ⟨[], r2, [], rfl, ⟨rfl, rfl, rfl⟩, s2, RowsO.nil, fun _ _ => rfl⟩ ?_ ?_
  · rintro i hi y k ⟨es, r', B, hel, hy, s, o, hcn⟩ K hK
    have hkn := okLog.known o
    refine notNil (notNil (notNil (snap_source_get_call (get_rd (k := 8) s.rd (by omega) (by omega) fun w1 r3 k3 hw1 m3 a3 hc3 _ => ⟨⟨trivial, trivial⟩, ?_⟩))))
    refine snap_source_small_call (small_rd (k := 1) a3 (by omega) (by omega) fun w2 r4 k4 hw2 m4 a4 hc4 _ => ⟨⟨trivial, trivial⟩, ?_⟩)
    refine snap_source_get_call (get_rd (k := 8) a4 (by omega) (by omega) fun w3 r5 k5 hw3 m5 a5 hc5 _ => ⟨⟨trivial, trivial⟩, ?_⟩)
    obtain ⟨s5, hs5⟩ := s.next hkn (m3.trans (m4.trans m5)) a5
    have o5 := okLog.same o hs5
    refine newF (xs := [(⟨i64 w1, (w2 : Int), i64 w3⟩ : S_api_Entry)]) (enc := fun x => cellsL (sh_api_Entry.enc x)) (sz := 3) rfl (fun _ => rfl) fun b6 k6 _ hle6 _ o6 => ⟨⟨trivial, trivial⟩, ?_⟩
    have s6 := s5.grow hle6
    have oo := okLog.same o5 (kept_le hle6 (okLog.known o5))
    refine mid_app (P := []) (S := []) (B' := []) (PureO.ok _) a.le (by simpa using s6) oo (v := ⟨i64 w1, (w2 : Int), i64 w3⟩) (p := ⟨i64 w1, (w2 : Int), i64 w3⟩) ⟨rfl, rfl⟩ (by simp) (o6.rw fun _ => rfl) (fun _ => rfl) (fun _ => rfl) rfl (by omega) fun l' k7 B7 s7 o7 _ => ?_
    refine hK _ k7 ⟨es ++ [⟨i64 w1, (w2 : Int), i64 w3⟩], r5, B7, by simp [hel], hy, by simpa using s7, o7, fun β f => ?_⟩
    have e1 : n - i = (n - (i + 1)) + 1 := by omega
    rw [hcn, e1, many_succ, bind_assoc]
    unfold entryD
    rw [bind_assoc, iD_eq, hc3.map, bind_assoc, hc4, bind_assoc, hc5.map]
    rfl
  · rintro y k ⟨es, r', B, hel, ⟨hy1, hy2, hy3⟩, s, o, hcn⟩
    have hkn := okLog.known o
    refine notNil (notNil (snap_source_small_call (small_rd (k := 2) s.rd (by omega) (by omega) fun lost r3 k3 hlost m3 a3 hc3 _ => ?_)))
    refine snap_source_small_call (small_rd (k := 2) a3 (by omega) (by omega) fun forb r4 k4 hforb m4 a4 hc4 _ => ?_)
    obtain ⟨s4, hs4⟩ := s.next hkn (m3.trans m4) a4
    have o4 := okLog.same o hs4
    refine notNil (ld_at (sh := shInt .i64) x.Locks (s4.rd.cfg (j := 4) (n := 1) rfl) ?_)
    have hI0 : SB d h rb bl bs x k4 r4 (B ++ ([] ++ [])) := by simpa using s4
    -- the locks
    have hloop : ∀ (N : Nat), (0 ≤ x.Locks → x.Locks = (N : Int)) → (x.Locks < 0 → N = 0) → N ≤ 1000 →
        LoopW2 (α1 := Int) (α2 := S_api_Part) (fun again1 t55 x3 h6 =>
          (if (decide (t55 < (N : Int))) = true then
          NilW none (some ⟨rb, 0, none⟩) fun p6 =>
          CallT Try.prog n_snap_source_small [(.pointer (some (Addr.add p6 0))), (.int .i64 (1 : Int))] (shInt .i64) (fun r5 h7 =>
          ((True ∧ True) ∧ NewW [(.int .i64 (IntKind.wrap .i64 (r5 - (1 : Int))))] (fun a h8 =>
          ((True ∧ True) ∧ AppendW 1 8 [(.int .i64 (0 : Int))] ⟨x3.Owners.base, x3.Owners.len, x3.Owners.cap⟩ ⟨(some a), 1, 1⟩ (fun r6 h9 =>
          NilW none (some ⟨rb, 0, none⟩) fun p7 =>
          NilW none (some ⟨rb, 0, none⟩) fun p8 =>
          LdW none shSl h9 (Addr.add (Addr.add p8 4) 6) fun x4 =>
          CallT Try.prog n_snap_source_many [(.pointer (some (Addr.add p7 0))), (.int .i64 (1 : Int)), (.int .i64 ((x4.len : Nat) : Int))] (shInt .i64) (fun r7 h10 =>
          LoopW2 (α1 := Sl) (α2 := Int) (fun again2 q t77 h11 =>
          (if (decide (t77 < r7)) = true then
          NilW none (some ⟨rb, 0, none⟩) fun p9 =>
          CallT Try.prog n_snap_source_small [(.pointer (some (Addr.add p9 0))), (.int .i64 (1 : Int))] (shInt .i64) (fun r8 h12 =>
          NewW [(.int .i64 r8)] (fun a1 h13 =>
          AppendW 1 8 [(.int .i64 (0 : Int))] ⟨q.base, q.len, q.cap⟩ ⟨(some a1), 1, 1⟩ (fun r9 h14 =>
          again2 r9 (IntKind.wrap .i64 (t77 + (1 : Int))) h14) h13) h12) h11
          else
          NewW [q.v] (fun a1 h12 =>
          AppendW 1 24 [(.slice none 0 0)] ⟨x3.Queues.base, x3.Queues.len, x3.Queues.cap⟩ ⟨(some a1), 1, 1⟩ (fun r8 h13 =>
          again1 (IntKind.wrap .i64 (t55 + (1 : Int))) ⟨x3.Cursor, x3.Log, x3.Lost, x3.Forbidden, r6, r8⟩ h13) h12) h11)) ⟨none, 0, 0⟩ (0 : Int) h10) h9) h8)) h7)) h6
          else
          Q x3 h6)) (0 : Int) ⟨y.Cursor, y.Log, (lost : Int), (forb : Int), y.Owners, y.Queues⟩ k4 := by
      intro N hN1 hN2 hN3
      have hNt : x.Locks.toNat = N := by
        by_cases h0 : 0 ≤ x.Locks
        · have := hN1 h0; omega
        · have := hN2 (by omega); omega
      refine forT (n := N) rfl (by omega) (fun i (z : S_api_Part) k => ∃ (zs : List (Int × List Int)) (r' : RS) (B1 B2 B3 : List Nat), zs.length = i ∧ (z.Cursor = (cur : Int) ∧ z.Lost = (lost : Int) ∧ z.Forbidden = (forb : Int)) ∧ SB d h rb bl bs x k r' (B1 ++ (B2 ++ B3)) ∧
          LogO z.Log es k B1 ∧ IsO z.Owners (zs.map Prod.fst) k B2 ∧ QsO z.Queues (zs.map Prod.snd) k B3 ∧
          ∀ (β : Type) (f : List (Int × List Int) → D β), stepD r4 (D.bind (D.many (fun _ => lockD (x.Procs.len : Int)) N []) f) bs = stepD r' (D.bind (D.many (fun _ => lockD (x.Procs.len : Int)) (N - i) zs) f) bs)
        ⟨[], r4, B, [], [], rfl, ⟨hy1, rfl, rfl⟩, hI0, o4, by rw [hy2]; exact RowsO.nil, by rw [hy3]; exact RowsO.nil, fun _ _ => rfl⟩ ?_ ?_
      · rintro i hi z k ⟨zs, r', B1, B2, B3, hzl, hz, s, o1, o2, o3, hcn⟩ K hK
        have hkn : ∀ b ∈ B1 ++ (B2 ++ B3), k b ≠ none := fun b hb => by
          rcases List.mem_append.1 hb with hb | hb
          · exact okLog.known o1 b hb
          · rcases List.mem_append.1 hb with hb | hb
            · exact okIs.known o2 b hb
            · exact okQs.known o3 b hb
        refine notNil (snap_source_small_call (small_rd (k := 1) s.rd (by omega) (by omega) fun u r5 k5 hu m5 a5 hc5 _ => ⟨⟨trivial, trivial⟩, ?_⟩))
        obtain ⟨s5, hs5⟩ := s.next hkn m5 a5
        rw [wrap64 (by omega) (by omega)]
        refine newF (xs := [(u : Int) - 1]) (enc := fun x => cellsL ((shInt .i64).enc x)) (sz := 1) rfl (fun _ => rfl) fun b6 k6 _ hle6 _ o6 => ⟨⟨trivial, trivial⟩, ?_⟩
        have s6 := s5.grow hle6
        have hs6 : ∀ b ∈ B1 ++ (B2 ++ B3), k6 b = k b := fun b hb => by
          rw [← hs5 b hb]
          exact kept_le hle6 (fun b hb => by rw [hs5 b hb]; exact hkn b hb) b hb
        have p1 := okLog.same o1 fun b hb => hs6 b (mem_a hb)
        have p2 := okIs.same o2 fun b hb => hs6 b (mem_b (mem_a hb))
        have p3 := okQs.same o3 fun b hb => hs6 b (mem_b (mem_b hb))
        have kn6 : ∀ b ∈ B1 ++ B3, k6 b ≠ none := fun b hb => by
          rcases List.mem_append.1 hb with hb | hb
          · exact okLog.known p1 b hb
          · exact okQs.known p3 b hb
        refine mid_app (P := B1) (M := B2) (S := B3) (B' := []) (PureO.ok _) a.le (by simpa using s6) p2 (v := (u : Int) - 1) (p := (u : Int) - 1) ⟨rfl, rfl⟩ kn6 (o6.rw fun _ => rfl) (fun _ => rfl) (fun _ => rfl) rfl (by simp; omega) fun l7 k7 M7 s7 o7 hs7 => ?_
        have q1 := okLog.same p1 fun b hb => hs7 b (mem_a hb)
        have q3 := okQs.same p3 fun b hb => hs7 b (mem_b hb)
        refine notNil (notNil (ld_at (sh := shSl) x.Procs (s7.rd.cfg (j := 6) (n := 1) rfl) ?_))
        have kn7 : ∀ b ∈ B1 ++ (M7 ++ B3), k7 b ≠ none := fun b hb => by
          rcases List.mem_append.1 hb with hb | hb
          · exact okLog.known q1 b hb
          · rcases List.mem_append.1 hb with hb | hb
            · exact okIs.known o7 b hb
            · exact okQs.known q3 b hb
        refine snap_source_many_call (many_rd (k := 1) s7.rd (by omega) (by omega) fun nq r8 k8 hnq m8 a8 hc8 => ?_)
        obtain ⟨s8, hs8⟩ := s7.next kn7 m8 a8
        refine forA (n := nq) rfl (by omega) (fun j (q : Sl) kk => ∃ (vs : List Int) (r9 : RS) (B4 : List Nat), vs.length = j ∧ SB d h rb bl bs x kk r9 ((B1 ++ (M7 ++ B3)) ++ B4) ∧ (∀ b ∈ B1 ++ (M7 ++ B3), kk b = k7 b) ∧ IsO q vs kk B4 ∧
            ∀ (β : Type) (f : List Int → D β), stepD r8 (D.bind (D.many (fun _ => zD 1) nq []) f) bs = stepD r9 (D.bind (D.many (fun _ => zD 1) (nq - j) vs) f) bs) ⟨[], r8, [], rfl, by simpa using s8, hs8, RowsO.nil, fun _ _ => rfl⟩ ?_ ?_
        · rintro j hj q kk ⟨vs, r9, B4, hvl, s9, hs9, o9, hcn9⟩ K9 hK9
          have kn9 : ∀ b ∈ (B1 ++ (M7 ++ B3)) ++ B4, kk b ≠ none := fun b hb => by
            rcases List.mem_append.1 hb with hb | hb
            · rw [hs9 b hb]; exact kn7 b hb
            · exact okIs.known o9 b hb
          refine notNil (snap_source_small_call (small_rd (k := 1) s9.rd (by omega) (by omega) fun w r10 k10 hw m10 a10 hc10 _ => ?_))
          obtain ⟨s10, hs10⟩ := s9.next kn9 m10 a10
          refine newF (xs := [(w : Int)]) (enc := fun x => cellsL ((shInt .i64).enc x)) (sz := 1) rfl (fun _ => rfl) fun b11 k11 _ hle11 _ o11 => ?_
          have s11 := s10.grow hle11
          have hs11 : ∀ b ∈ (B1 ++ (M7 ++ B3)) ++ B4, k11 b = kk b := fun b hb => by
            rw [← hs10 b hb]
            exact kept_le hle11 (fun b hb => by rw [hs10 b hb]; exact kn9 b hb) b hb
          have o11' := okIs.same o9 fun b hb => hs11 b (mem_b hb)
          refine mid_app (P := B1 ++ (M7 ++ B3)) (M := B4) (S := []) (B' := []) (PureO.ok _) a.le (by simpa using s11) o11' (v := (w : Int)) (p := (w : Int)) ⟨rfl, rfl⟩ (fun b hb => by
            rw [List.append_nil] at hb
            rw [hs11 b (mem_a hb)]
            exact kn9 b (mem_a hb)) (o11.rw fun _ => rfl) (fun _ => rfl) (fun _ => rfl) rfl (by omega) fun l12 k12 M12 s12 o12 hs12 => ?_
          refine hK9 l12 k12 ⟨vs ++ [(w : Int)], r10, M12, by simp [hvl], by simpa using s12, fun b hb => ?_, o12, fun β f => ?_⟩
          · rw [hs12 b (by rw [List.append_nil]; exact hb), hs11 b (mem_a hb), hs9 b hb]
          · have e1 : nq - j = (nq - (j + 1)) + 1 := by omega
            rw [hcn9, e1, many_succ, bind_assoc, hc10]
        · rintro q kk ⟨vs, r9, B4, hvl, s9, hs9, o9, hcn9⟩
          have kn9 : ∀ b ∈ (B1 ++ (M7 ++ B3)) ++ B4, kk b ≠ none := fun b hb => by
            rcases List.mem_append.1 hb with hb | hb
            · rw [hs9 b hb]; exact kn7 b hb
            · exact okIs.known o9 b hb
          refine newF (xs := [q]) (enc := fun x => cellsL (shSl.enc x)) (sz := 1) rfl (fun _ => rfl) fun b11 k11 _ hle11 _ o11 => ?_
          have s11 := s9.grow hle11
          have hs11 : ∀ b ∈ (B1 ++ (M7 ++ B3)) ++ B4, k11 b = kk b := kept_le hle11 kn9
          have f1 := okLog.same q1 fun b hb => (hs11 b (mem_a (mem_a hb))).trans (hs9 b (mem_a hb))
          have f2 := okIs.same o7 fun b hb => (hs11 b (mem_a (mem_b (mem_a hb)))).trans (hs9 b (mem_b (mem_a hb)))
          have f3 := okQs.same q3 fun b hb => (hs11 b (mem_a (mem_b (mem_b hb)))).trans (hs9 b (mem_b (mem_b hb)))
          have f4 := okIs.same o9 fun b hb => hs11 b (mem_b hb)
          refine mid_app (P := B1 ++ M7) (M := B3) (S := []) (B' := B4) okIs a.le (by simpa [List.append_assoc] using s11) f3 (v := q) (p := vs) f4 (fun b hb => by
            rw [List.append_nil] at hb
            rcases List.mem_append.1 hb with hb | hb
            · exact okLog.known f1 b hb
            · exact okIs.known f2 b hb) (o11.rw fun _ => rfl) (fun _ => rfl) (fun _ => rfl) rfl (by simp; omega) fun l12 k12 M12 s12 o12 hs12 => ?_
          refine hK _ k12 ⟨zs ++ [((u : Int) - 1, vs)], r9, B1, M7, M12, by simp [hzl], hz, by simpa [List.append_assoc] using s12, okLog.same f1 fun b hb => hs12 b (by rw [List.append_nil]; exact mem_a hb), ?_, ?_, fun β f => ?_⟩
          · rw [List.map_append]
            exact okIs.same f2 fun b hb => hs12 b (by rw [List.append_nil]; exact mem_b hb)
          · rw [List.map_append]
            exact o12
          · have e1 : N - i = (N - (i + 1)) + 1 := by omega
            rw [hcn, e1, many_succ, bind_assoc]
            unfold lockD
            rw [bind_assoc, hc5.map, bind_assoc, hc8, bind_assoc]
            have e2 := hcn9 β fun q => D.bind (D.ret ((less (u : Int), q) : Int × List Int)) fun x_1 => D.bind (D.many (fun _ => lockD (x.Procs.len : Int)) (N - (i + 1)) (zs ++ [x_1])) f
            rw [Nat.sub_self] at e2
            exact e2
      · rintro z k ⟨zs, r', B1, B2, B3, hzl, ⟨hz1, hz2, hz3⟩, s, o1, o2, o3, hcn5⟩
        refine hq z (mkPart (cur : Int) es (lost : Int) (forb : Int) zs) r' _ k s ⟨B1, B2, B3, rfl, o1, o2, o3, hz1, hz2, hz3⟩ fun β f => ?_
        unfold partD
        rw [bind_assoc, hc1, bind_assoc, hc2, bind_assoc]
        have e1 := hcn β fun log => D.bind (D.bind (zD 2) fun lost => D.bind (zD 2) fun forbidden => D.bind (D.many (fun _ => lockD (x.Procs.len : Int)) x.Locks.toNat []) fun l => D.ret (mkPart (cur : Int) log lost forbidden l)) f
        rw [Nat.sub_self] at e1
        refine e1.trans ?_
        show stepD _ (D.bind (D.bind (zD 2) _) f) bs = _
        rw [bind_assoc, hc3, bind_assoc, hc4, bind_assoc, hNt]
        have e2 := hcn5 β fun l => D.bind (D.ret (mkPart (cur : Int) es (lost : Int) (forb : Int) l)) f
        rw [Nat.sub_self] at e2
        exact e2
    have := hloop x.Locks.toNat (fun _ => by omega) (fun h => by omega) (by omega)
    rw [show ((x.Locks.toNat : Nat) : Int) = x.Locks by omega] at this
    exact this

end
end Lf

/-
  A process is read.
-/
namespace Lf
open Go Go.Proofs

section
variable {d h h1 : Hp} {rb : Nat} {bl : Sl} {bs : List UInt8} {r r1 : RS} {x : S_api_Config}

/-- What was read is wrong: it is noted, if nothing was wrong ahead. -/
theorem must_give {P : Program} {α : Type} {g : D α} {W : α → Int} {n : α} {e p : Int} (a1 : SAt d h1 rb bl bs r1 x) (hc : Cn bs r g r1 n) (hp : ∀ a, r = .ok a → p = (a : Int)) (hW : W n = e) (he : e ≠ 0) {Q : Hp → Prop}
    (hq : ∀ r2 h2, Mv [rb] h1 [rb] h2 → SAt d h2 rb bl bs r2 x → Cn bs r (D.must g W) r2 n → Q h2) : snap_source_give_w P (some ⟨rb, 0, none⟩) e p Q h1 := by
  subst hW
  obtain ⟨p1, e1, pl1, kb1, hs1⟩ := a1.blk
  refine sgive_ok kb1 fun h2 m2 kb2 => ?_
  have hd2 := (m2.le a1.le fun c hc => by rw [List.mem_singleton.1 hc]; exact a1.out).1
  have hdone := hc.done
  cases r with
  | error y =>
    cases r1 with
    | ok at1 => cases hdone
    | error y1 =>
      have hdone : (Except.error y : Except (Int × Nat) (α × Nat)) = .error y1 := hdone
      cases hdone
      obtain ⟨er, q⟩ := y
      obtain ⟨rfl, hne, rfl⟩ := hs1
      rw [if_neg hne, if_neg hne] at kb2
      exact hq (.error (e1, q)) h2 m2 ⟨hd2, a1.out, a1.src, a1.cap, a1.small, _, _, _, kb2, rfl, hne, rfl⟩ Cn.stay
  | ok at_ =>
    have hp := hp at_ rfl
    subst hp
    cases r1 with
    | ok at1 =>
      obtain ⟨rfl, rfl, hat1⟩ := hs1
      have hdone : g bs at_ = .ok (n, at1) := hdone
      rw [if_pos rfl, if_pos rfl] at kb2
      refine hq (.error (W n, at_)) h2 m2 ⟨hd2, a1.out, a1.src, a1.cap, a1.small, _, _, _, kb2, rfl, he, rfl⟩ (Cn.err ?_)
      unfold D.must
      rw [hdone]
      dsimp only
      rw [if_neg he]
    | error y1 =>
      obtain ⟨er, q⟩ := y1
      have hdone : g bs at_ = .error (er, q) := hdone
      obtain ⟨rfl, hne, rfl⟩ := hs1
      rw [if_neg hne, if_neg hne] at kb2
      refine hq (.error (e1, q)) h2 m2 ⟨hd2, a1.out, a1.src, a1.cap, a1.small, _, _, _, kb2, rfl, hne, rfl⟩ (Cn.err ?_)
      unfold D.must
      rw [hdone]

theorem must_pass {α : Type} {g : D α} {W : α → Int} {n : α} (hc : Cn bs r g r1 n) (hW : W n = 0) : Cn bs r (D.must g W) r1 n := by
  have hdone := hc.done
  cases r with
  | error y =>
    cases r1 with
    | ok at1 => cases hdone
    | error y1 =>
      have hdone : (Except.error y : Except (Int × Nat) (α × Nat)) = .error y1 := hdone
      cases hdone
      exact Cn.stay
  | ok at_ =>
    cases r1 with
    | ok at1 =>
      have hdone : g bs at_ = .ok (n, at1) := hdone
      refine Cn.ok ?_
      unfold D.must
      rw [hdone]
      dsimp only
      rw [if_pos hW]
    | error y1 =>
      have hdone : g bs at_ = .error y1 := hdone
      refine Cn.err ?_
      unfold D.must
      rw [hdone]
end

def procL (v : S_api_Process) : List Value := cellsL (sh_api_Process.enc v)
def regsOf (v : S_api_Process) : List Int := [v.Regs_0, v.Regs_1, v.Regs_2, v.Regs_3, v.Regs_4, v.Regs_5, v.Regs_6, v.Regs_7]
def setReg (v : S_api_Process) (n : Nat) (w : Int) : S_api_Process := match n with
  | 0 => { v with Regs_0 := w }
  | 1 => { v with Regs_1 := w }
  | 2 => { v with Regs_2 := w }
  | 3 => { v with Regs_3 := w }
  | 4 => { v with Regs_4 := w }
  | 5 => { v with Regs_5 := w }
  | 6 => { v with Regs_6 := w }
  | _ => { v with Regs_7 := w }

theorem setReg_regs (v : S_api_Process) {n : Nat} (hn : n < 8) (w : Int) : regsOf (setReg v n w) = (regsOf v).set n w := by
  match n, hn with
  | 0, _ => rfl
  | 1, _ => rfl
  | 2, _ => rfl
  | 3, _ => rfl
  | 4, _ => rfl
  | 5, _ => rfl
  | 6, _ => rfl
  | 7, _ => rfl

theorem setReg_cells (v : S_api_Process) {n : Nat} (hn : n < 8) (w : Int) : procL (setReg v n w) = (procL v).take (2 + n) ++ [.int .i64 w] ++ (procL v).drop (2 + n + 1) := by
  match n, hn with
  | 0, _ => rfl
  | 1, _ => rfl
  | 2, _ => rfl
  | 3, _ => rfl
  | 4, _ => rfl
  | 5, _ => rfl
  | 6, _ => rfl
  | 7, _ => rfl

theorem setReg_rest (v : S_api_Process) {n : Nat} (hn : n < 8) (w : Int) : (setReg v n w).State = v.State ∧ (setReg v n w).PC = v.PC ∧ (setReg v n w).Lanes = v.Lanes := by
  match n, hn with
  | 0, _ => exact ⟨rfl, rfl, rfl⟩
  | 1, _ => exact ⟨rfl, rfl, rfl⟩
  | 2, _ => exact ⟨rfl, rfl, rfl⟩
  | 3, _ => exact ⟨rfl, rfl, rfl⟩
  | 4, _ => exact ⟨rfl, rfl, rfl⟩
  | 5, _ => exact ⟨rfl, rfl, rfl⟩
  | 6, _ => exact ⟨rfl, rfl, rfl⟩
  | 7, _ => exact ⟨rfl, rfl, rfl⟩

theorem set_row (ws : List Int) {i : Nat} (hi : ws.length = i) (h8 : i < 8) (w : Int) : (ws ++ List.replicate (8 - i) 0).set i w = (ws ++ [w]) ++ List.replicate (8 - (i + 1)) 0 := by
  have e : 8 - i = (8 - (i + 1)) + 1 := by omega
  rw [e, List.replicate_succ, ← hi, List.set_append_right _ _ (Nat.le_refl _), Nat.sub_self, List.set_cons_zero]
  simp

abbrev LanesO (l : Sl) (ps : List PLane) (h : Hp) (B : List Nat) : Prop := RowsO sh_api_Lane 4 LaneO l ps h B
theorem okLanes : AsOk LanesO := RowsO.ok okLane

/-- A process in the making, in a block of its own. -/
structure PSt (d h0 : Hp) (rb : Nat) (bl : Sl) (bs : List UInt8) (x : S_api_Config) (pb : Nat) (k : Hp) (r : RS) (v : S_api_Process) (ls : List PLane) (B : List Nat) : Prop where
  sb : SB d h0 rb bl bs x k r ([pb] ++ B)
  blk : Blk k pb (procL v)
  own : LanesO v.Lanes ls k B

section
variable {d h0 k : Hp} {rb pb : Nat} {bl : Sl} {bs : List UInt8} {r : RS} {x : S_api_Config} {v : S_api_Process} {ls : List PLane} {B : List Nat}

theorem PSt.known (s : PSt d h0 rb bl bs x pb k r v ls B) : ∀ b ∈ [pb] ++ B, k b ≠ none := fun b hb => by
  rcases List.mem_append.1 hb with hb | hb
  · rw [List.mem_singleton.1 hb]; exact s.blk.known
  · exact okLanes.known s.own b hb

theorem PSt.pn (s : PSt d h0 rb bl bs x pb k r v ls B) : pb ∉ B := fun h => (List.nodup_append.1 s.sb.nd).2.2 pb (List.mem_singleton.2 rfl) pb h rfl

theorem PSt.next (s : PSt d h0 rb bl bs x pb k r v ls B) {k' : Hp} {r1 : RS} (m : Mv [rb] k [rb] k') (a : SAt d k' rb bl bs r1 x) : PSt d h0 rb bl bs x pb k' r1 v ls B := by
  obtain ⟨s2, hs⟩ := s.sb.next s.known m a
  exact ⟨s2, s.blk.mv m fun h => s.sb.nr (mem_a (by rw [List.mem_singleton.1 h]; exact List.mem_singleton.2 rfl)), okLanes.same s.own fun b hb => hs b (mem_b hb)⟩

theorem PSt.store (hd0 : d ≤ h0) (s : PSt d h0 rb bl bs x pb k r v ls B) {v' : S_api_Process} {off : Nat} {val : Value} (hoff : off < 15) (hl : v'.Lanes = v.Lanes) (hv : procL v' = (procL v).take off ++ [val] ++ (procL v).drop (off + 1)) {K : Hp → Prop}
    (hk : ∀ k', PSt d h0 rb bl bs x pb k' r v' ls B → K k') : StW k ⟨pb, off, none⟩ [val] K := by
  refine stW_blk s.blk (by show off + 1 ≤ 15; omega) fun k4 m4 hb4 => hk k4 ?_
  refine ⟨s.sb.fin (fun b o e hn => m4.keep b o e fun h => hn (mem_a h)) s.sb.nd (fun b hb => .inl hb) (fun b hb => none_of_le hd0 (s.sb.fresh b hb)), by rw [hv]; exact hb4, ?_⟩
  rw [hl]
  exact okLanes.same s.own (mv_same m4 (okLanes.known s.own) fun b hb e => s.pn (by rw [← List.mem_singleton.1 e]; exact hb))

theorem PSt.grow (s : PSt d h0 rb bl bs x pb k r v ls B) {k' : Hp} (hl : k ≤ k') : PSt d h0 rb bl bs x pb k' r v ls B :=
  ⟨s.sb.grow hl, s.blk.le hl, okLanes.same s.own (kept_le hl (okLanes.known s.own))⟩
end

section
variable {d h : Hp} {rb : Nat} {bl : Sl} {bs : List UInt8} {r : RS} {x : S_api_Config}

set_option maxRecDepth 20000 in
theorem sproc_rd {Q : S_api_Process → Hp → Prop} (a : SAt d h rb bl bs r x) (hll : x.Labels.len ≤ 1000)
    (hq : ∀ (v : S_api_Process) (p : PProcess) r1 B' h', SB d h rb bl bs x h' r1 B' → ProcessO v p h' B' → Cn bs r (procSD x.Labels.len x.Lane (x.Procs.len : Int)) r1 p → Q v h') : snap_reader_proc_w Try.prog (some ⟨rb, 0, none⟩) Q h := by
  unfold snap_reader_proc_w
  refine notNil (notNil (snap_source_small_call (small_rd (k := 1) a (by omega) (by omega) fun st r1 h1 hst m1 a1 hc1 _ => ?_)))
  refine snap_source_small_call (small_rd (k := 2) a1 (by omega) (by omega) fun pc r2 h2 hpc m2 a2 hc2 _ => ?_)
  have s2 : SB d h rb bl bs x h2 r2 [] := SB.step a.known (m1.trans m2) a2
  refine newB2 fun pb h3 hn3 hle3 hP3 => ?_
  have hP3 : Blk h3 pb (procL ⟨(st : Int), (pc : Int), 0, 0, 0, 0, 0, 0, 0, 0, 0, 0, false, 0, ⟨none, 0, 0⟩⟩) := hP3
  have p3 : PSt d h rb bl bs x pb h3 r2 ⟨(st : Int), (pc : Int), 0, 0, 0, 0, 0, 0, 0, 0, 0, 0, false, 0, ⟨none, 0, 0⟩⟩ [] [] := by
    have s3 := s2.grow hle3
    exact ⟨⟨s3.kr, s3.keep, s3.rd, by simp, fun b hb => by
      rw [List.append_nil] at hb
      rw [List.mem_singleton.1 hb]
      exact s2.new_ hn3⟩, hP3, RowsO.nil⟩
  refine forI (n := 8) rfl (by omega) (fun i k => ∃ (ws : List Int) (r' : RS) (v : S_api_Process), ws.length = i ∧ (v.State = (st : Int) ∧ v.PC = (pc : Int) ∧ v.Lanes = ⟨none, 0, 0⟩) ∧ regsOf v = ws ++ List.replicate (8 - i) 0 ∧ PSt d h rb bl bs x pb k r' v [] [] ∧
    ∀ (β : Type) (f : List Int → D β), stepD r2 (D.bind (D.many (fun _ => iD) 8 []) f) bs = stepD r' (D.bind (D.many (fun _ => iD) (8 - i) ws) f) bs) ⟨[], r2, _, rfl, ⟨rfl, rfl, rfl⟩, rfl, p3, fun _ _ => rfl⟩ ?_ ?_
  · rintro i hi k ⟨ws, r', v, hwl, hv, hreg, s, hcn⟩ K hK
    refine notNil (snap_source_get_call (get_rd (k := 8) s.sb.rd (by omega) (by omega) fun w r4 k4 hw m4 a4 hc4 _ => ⟨⟨by omega, by omega⟩, ?_⟩))
    have s4 := s.next m4 a4
    have haddr : (Addr.add (Addr.add ⟨pb, 0, none⟩ 2) ((Int.toNat (i : Int)) * 1)) = ⟨pb, 2 + i, none⟩ := by
      rw [Nat.mul_one, show Int.toNat (i : Int) = i from rfl, box_add, box_add, Nat.zero_add]
    rw [haddr]
    obtain ⟨e1, e2, e3⟩ := setReg_rest v hi (i64 w)
    refine s4.store a.le (v' := setReg v i (i64 w)) (off := 2 + i) (by omega) e3 (setReg_cells v hi _) fun k5 s5 => hK k5 ⟨ws ++ [i64 w], r4, setReg v i (i64 w), by simp [hwl], ⟨e1.trans hv.1, e2.trans hv.2.1, e3.trans hv.2.2⟩, ?_, s5, fun β f => ?_⟩
    · rw [setReg_regs v hi, hreg, set_row ws hwl hi]
    · have e1 : 8 - i = (8 - (i + 1)) + 1 := by omega
      rw [hcn, e1, many_succ, bind_assoc, iD_eq, hc4.map]
  · rintro k ⟨ws, r', v, hwl, ⟨hv1, hv2, hv3⟩, hreg, s, hcn⟩
    have hreg : regsOf v = ws := by rw [hreg]; simp
    refine notNil (snap_source_small_call (small_rd (k := 1) s.sb.rd (by omega) (by omega) fun cur r4 k4 hcur m4 a4 hc4 _ => ?_))
    refine (s.next m4 a4).store a.le (v' := { v with Cursor := (cur : Int) }) (off := 10) (by omega) rfl rfl fun k5 s5 => ?_
    refine notNil (snap_source_get_call (get_rd (k := 8) s5.sb.rd (by omega) (by omega) fun tim r6 k6 htim m6 a6 hc6 _ => ?_))
    refine (s5.next m6 a6).store a.le (v' := { v with Cursor := (cur : Int), Timer := i64 tim }) (off := 11) (by omega) rfl rfl fun k7 s7 => ?_
    obtain ⟨p7, e7, pl7, kb7, hs7⟩ := s7.sb.rd.blk
    refine notNil (ld_at (sh := shInt .i64) p7 (kb7.ldIs (off := 1) (n := 1) rfl) ?_)
    refine notNil (snap_source_small_call (small_rd (k := 1) s7.sb.rd (by omega) (by omega) fun fi r8 k8 hfi m8 a8 hc8 _ => ?_))
    have s8 := s7.next m8 a8
    refine JoinW0.intro (fun kk => ∃ r9, PSt d h rb bl bs x pb kk r9 { v with Cursor := (cur : Int), Timer := i64 tim } [] [] ∧ Cn bs r6 (D.must (zD 1) yesE) r9 (fi : Int)) ?_ ?_
    · have hp7 : ∀ aa, r6 = .ok aa → p7 = (aa : Int) := fun aa e => by rw [e] at hs7; exact hs7.1
      by_cases h1 : (1 : Int) < (fi : Int)
      · rw [if_pos (decide_eq_true h1)]
        refine notNil (snap_source_give_call (must_give (W := yesE) (n := (fi : Int)) s8.sb.rd hc8 hp7 (by unfold yesE; rw [if_pos h1]) (by decide) fun r9 k9 m9 a9 hc9 => ⟨r9, s8.next m9 a9, hc9⟩))
      · rw [if_neg (fun e => h1 (of_decide_eq_true e))]
        exact ⟨r8, s8, must_pass hc8 (by unfold yesE; rw [if_neg h1])⟩
    rintro k9 ⟨r9, s9, hc9⟩
    refine s9.store a.le (v' := { v with Cursor := (cur : Int), Timer := i64 tim, Fired := ((fi : Int) == (1 : Int)) }) (off := 12) (by omega) rfl rfl fun k10 s10 => ?_
    refine notNil (snap_source_get_call (get_rd (k := 8) s10.sb.rd (by omega) (by omega) fun wak r11 k11 hwak m11 a11 hc11 _ => ?_))
    refine (s10.next m11 a11).store a.le (v' := { v with Cursor := (cur : Int), Timer := i64 tim, Fired := ((fi : Int) == (1 : Int)), Wake := i64 wak }) (off := 13) (by omega) rfl rfl fun k12 s12 => ?_
    refine notNil (ld_at (sh := shSl) x.Labels (s12.sb.rd.cfg (j := 0) (n := 1) rfl) ?_)
    have hvL : v = { v with Lanes := ⟨none, 0, 0⟩ } := by cases v; simp only at hv3; rw [hv3]
    rw [wrap64 (by omega) (by omega)]
    refine forI (n := x.Labels.len + 1) (by push_cast; rfl) (by omega) (fun i kk => ∃ (ps : List PLane) (r' : RS) (l : Sl) (B : List Nat), ps.length = i ∧ PSt d h rb bl bs x pb kk r' { v with Cursor := (cur : Int), Timer := i64 tim, Fired := ((fi : Int) == (1 : Int)), Wake := i64 wak, Lanes := l } ps B ∧
        ∀ (β : Type) (f : List PLane → D β), stepD r11 (D.bind (D.many (fun _ => laneD x.Lane (x.Procs.len : Int)) (x.Labels.len + 1) []) f) bs = stepD r' (D.bind (D.many (fun _ => laneD x.Lane (x.Procs.len : Int)) (x.Labels.len + 1 - i) ps) f) bs)
      ⟨[], r11, ⟨none, 0, 0⟩, [], rfl, by
        have := s12
        rw [show ({ v with Cursor := (cur : Int), Timer := i64 tim, Fired := ((fi : Int) == (1 : Int)), Wake := i64 wak } : S_api_Process) = { v with Cursor := (cur : Int), Timer := i64 tim, Fired := ((fi : Int) == (1 : Int)), Wake := i64 wak, Lanes := ⟨none, 0, 0⟩ } by rw [← hv3]] at this
        exact this, fun _ _ => rfl⟩ ?_ ?_
    · rintro i hi kk ⟨ps, r', l, B, hpl, s13, hcn2⟩ K hK
      refine ld_at (sh := shSl) l (s13.blk.ldIs (off := 14) (n := 1) rfl) ?_
      refine snap_reader_lane_call (slane_rd s13.sb.rd fun y p r14 B' k14 t14 o14 hc14 => ?_)
      have s14 := s13.sb.andThen s13.known t14
      have hs14 := s13.sb.kept s13.known t14
      have hb14 : Blk k14 pb (procL { v with Cursor := (cur : Int), Timer := i64 tim, Fired := ((fi : Int) == (1 : Int)), Wake := i64 wak, Lanes := l }) := by
        obtain ⟨t, e⟩ := s13.blk
        exact ⟨t, by rw [hs14 pb (mem_a (List.mem_singleton.2 rfl))]; exact e⟩
      refine ⟨⟨hb14.ldIs (off := 14) (n := 1) rfl, trivial⟩, ?_⟩
      refine newF (xs := [y]) (enc := fun x => cellsL (sh_api_Lane.enc x)) (sz := 4) rfl (fun _ => rfl) fun b15 k15 _ hle15 _ o15 => ?_
      have hb15 := hb14.le hle15
      refine ⟨⟨hb15.ldIs (off := 14) (n := 1) rfl, trivial⟩, ?_⟩
      have s15 := s14.grow hle15
      have hs15 : ∀ b ∈ [pb] ++ B, k15 b = kk b := fun b hb => by
        rw [← hs14 b hb]
        exact kept_le hle15 (fun b hb => by rw [hs14 b hb]; exact s13.known b hb) b hb
      have ow := okLanes.same s13.own fun b hb => hs15 b (mem_b hb)
      have oe := okLane.same o14 (kept_le hle15 (okLane.known o14))
      refine mid_app (P := [pb]) (M := B) (S := []) (B' := B') okLane a.le (by simpa using s15) ow (v := y) (p := p) oe (fun b hb => by
        rw [List.append_nil] at hb
        rw [hs15 b (mem_a hb)]
        exact s13.known b (mem_a hb)) (o15.rw fun _ => rfl) (fun _ => rfl) (fun _ => rfl) rfl (by omega) fun l16 k16 M16 s16 o16 hs16 => ?_
      rw [List.append_nil] at s16
      have hb16 : Blk k16 pb (procL { v with Cursor := (cur : Int), Timer := i64 tim, Fired := ((fi : Int) == (1 : Int)), Wake := i64 wak, Lanes := l }) := by
        obtain ⟨t, e⟩ := hb15
        exact ⟨t, by rw [hs16 pb (by simp)]; exact e⟩
      have hpM : pb ∉ M16 := fun h => (List.nodup_append.1 s16.nd).2.2 pb (List.mem_singleton.2 rfl) pb h rfl
      refine stW_blk (off := 14) hb16 (by show 14 + 1 ≤ 15; omega) fun k17 m17 hb17 => hK k17 ⟨ps ++ [p], r14, l16, M16, by simp [hpl], ⟨?_, hb17, ?_⟩, fun β f => ?_⟩
      · exact s16.fin (fun b o e hn => m17.keep b o e fun h => hn (mem_a h)) s16.nd (fun b hb => .inl hb) (fun b hb => none_of_le a.le (s16.fresh b hb))
      · exact okLanes.same o16 (mv_same m17 (okLanes.known o16) fun b hb e => hpM (by have e : b = pb := List.mem_singleton.1 e; exact e ▸ hb))
      · have e1 : x.Labels.len + 1 - i = (x.Labels.len + 1 - (i + 1)) + 1 := by omega
        rw [hcn2, e1, many_succ, bind_assoc, hc14]
    · rintro kk ⟨ps, r', l, B, hpl, s13, hcn2⟩
      refine ld_at (sh := sh_api_Process) { v with Cursor := (cur : Int), Timer := i64 tim, Fired := ((fi : Int) == (1 : Int)), Wake := i64 wak, Lanes := l } (s13.blk.ldIs (off := 0) (n := 15) rfl) ?_
      refine hq _ ⟨(st : Int), (pc : Int), ws, (cur : Int), i64 tim, isOne (fi : Int), i64 wak, ps⟩ r' B kk ⟨s13.sb.kr, s13.sb.keep, s13.sb.rd, (List.nodup_append.1 s13.sb.nd).2.1, fun b hb => s13.sb.fresh b (mem_b hb)⟩
        ⟨s13.own, hv1, hv2, hreg, rfl, rfl, ?_, rfl⟩ fun β f => ?_
      · show ((fi : Int) == (1 : Int)) = isOne (fi : Int)
        unfold isOne
        rfl
      · unfold procSD
        rw [bind_assoc, hc1, bind_assoc, hc2, bind_assoc]
        have e1 := hcn β fun regs => D.bind (D.bind (zD 1) fun cursor => D.bind iD fun timer => D.bind (D.map isOne (D.must (zD 1) yesE)) fun fired => D.bind iD fun wake => D.bind (D.many (fun _ => laneD x.Lane (x.Procs.len : Int)) (x.Labels.len + 1) []) fun lanes =>
          D.ret (⟨(st : Int), (pc : Int), regs, cursor, timer, fired, wake, lanes⟩ : PProcess)) f
        rw [Nat.sub_self] at e1
        refine e1.trans ?_
        show stepD _ (D.bind (D.bind (zD 1) _) f) bs = _
        rw [bind_assoc, hc4, bind_assoc, iD_eq, hc6.map, bind_assoc, hc9.map, bind_assoc, hc11.map, bind_assoc]
        have e2 := hcn2 β fun lanes => D.bind (D.ret (⟨(st : Int), (pc : Int), ws, (cur : Int), i64 tim, isOne (fi : Int), i64 wak, lanes⟩ : PProcess)) f
        rw [Nat.sub_self] at e2
        exact e2

end
end Lf

/-
  Readers: the place of what is wrong is within the bytes.
-/
namespace Lf
open D (many must mustAt)

/-- From a place within the bytes on: what is wrong is within, or the reader stops within. -/
def Pl {α : Type} (d : D α) : Prop := ∀ bs at_, at_ ≤ bs.length → (∀ e, d bs at_ = .error e → e.2 ≤ bs.length) ∧ ∀ z, d bs at_ = .ok z → at_ ≤ z.2 ∧ z.2 ≤ bs.length

section
variable {α β : Type}

theorem pl_ret (x : α) : Pl (D.ret x) := fun bs at_ h => ⟨fun e he => (by cases he), fun z hz => by cases hz; exact ⟨Nat.le_refl _, h⟩⟩

theorem pl_num (k : Nat) : Pl (D.num k) := fun bs at_ h => by
  unfold D.num
  by_cases hs : bs.length < at_ + k
  · rw [if_pos hs]
    exact ⟨fun e he => by cases he; exact Nat.le_refl _, fun z hz => by cases hz⟩
  · rw [if_neg hs]
    exact ⟨fun e he => (by cases he), fun z hz => by cases hz; exact ⟨Nat.le_add_right _ _, by omega⟩⟩

theorem pl_bind {d : D α} {f : α → D β} (h1 : Pl d) (h2 : ∀ x, Pl (f x)) : Pl (D.bind d f) := fun bs at_ h => by
  obtain ⟨p1, p2⟩ := h1 bs at_ h
  unfold D.bind
  cases hd : d bs at_ with
  | error e => exact ⟨fun e' he => by cases he; exact p1 _ hd, fun z hz => by cases hz⟩
  | ok z =>
    obtain ⟨x, a2⟩ := z
    obtain ⟨q1, q2⟩ := p2 _ hd
    obtain ⟨r1, r2⟩ := h2 x bs a2 q2
    exact ⟨fun e he => r1 e he, fun z hz => ⟨Nat.le_trans q1 (r2 z hz).1, (r2 z hz).2⟩⟩

theorem pl_map {d : D α} (f : α → β) (h : Pl d) : Pl (D.map f d) := pl_bind h fun _ => pl_ret _

theorem pl_must {d : D α} (w : α → Int) (h : Pl d) : Pl (must d w) := fun bs at_ ha => by
  obtain ⟨p1, p2⟩ := h bs at_ ha
  unfold must
  cases hd : d bs at_ with
  | error e => exact ⟨fun e' he => by cases he; exact p1 _ hd, fun z hz => by cases hz⟩
  | ok z =>
    obtain ⟨x, a2⟩ := z
    dsimp only
    by_cases hw : w x = 0
    · rw [if_pos hw]
      exact ⟨fun e he => (by cases he), fun z hz => by cases hz; exact p2 _ hd⟩
    · rw [if_neg hw]
      exact ⟨fun e he => by cases he; exact ha, fun z hz => (by cases hz)⟩

theorem pl_mustAt {d : D α} {w : α → Int × Int} (h : Pl d) (hw : ∀ bs at_ x a2, at_ ≤ bs.length → d bs at_ = .ok (x, a2) → at_ + (w x).2.toNat ≤ a2) : Pl (mustAt d w) := fun bs at_ ha => by
  obtain ⟨p1, p2⟩ := h bs at_ ha
  unfold mustAt
  cases hd : d bs at_ with
  | error e => exact ⟨fun e' he => by cases he; exact p1 _ hd, fun z hz => by cases hz⟩
  | ok z =>
    obtain ⟨x, a2⟩ := z
    dsimp only
    by_cases hx : (w x).1 = 0
    · rw [if_pos hx]
      exact ⟨fun e he => (by cases he), fun z hz => by cases hz; exact p2 _ hd⟩
    · rw [if_neg hx]
      exact ⟨fun e he => by cases he; exact Nat.le_trans (hw bs at_ x a2 ha hd) (p2 _ hd).2, fun z hz => (by cases hz)⟩

theorem pl_many {g : List α → D α} (h : ∀ l, Pl (g l)) : ∀ (n : Nat) (l : List α), Pl (many g n l)
  | 0, l => pl_ret l
  | n + 1, l => pl_bind (h l) fun x => pl_many h n (l ++ [x])
end

theorem pl_z (k : Nat) : Pl (zD k) := pl_map _ (pl_num k)
theorem pl_i : Pl (D.map i64 (D.num 8)) := pl_map _ (pl_num 8)

theorem pl_mark : ∀ m : List UInt8, Pl (markD m)
  | [] => pl_ret ()
  | _ :: r => pl_bind (pl_must _ (pl_num 1)) fun _ => pl_mark r

theorem wrong_place (x : PIns) (n locks : Int) : (wrongP x n locks).2.toNat ≤ 4 := by
  unfold wrongP
  repeat' split
  all_goals first | exact Nat.le_of_ble_eq_true rfl | decide

theorem pl_ins (n locks : Int) : Pl (insD n locks) := by
  refine pl_mustAt (pl_bind (pl_z 1) fun _ => pl_bind (pl_z 1) fun _ => pl_bind (pl_z 1) fun _ => pl_bind (pl_z 1) fun _ => pl_bind pl_i fun _ => pl_ret _) fun bs at_ x a2 ha hd => ?_
  have h1 := (law_ins.sound bs at_ x a2 hd ha).2.1
  have h2 := wrong_place x n locks
  simp [insB, leB_len] at h1
  omega

theorem pl_proc (parts locks : Int) : Pl (procD parts locks) :=
  pl_bind (pl_must _ (pl_z 1)) fun _ => pl_bind (pl_must _ (pl_z 2)) fun n => pl_bind (pl_many (fun _ => pl_ins n locks) _ _) fun _ => pl_ret _

theorem pl_config : Pl configD :=
  pl_bind (pl_mark _) fun _ => pl_bind (pl_must _ (pl_z 1)) fun nl => pl_bind (pl_many (fun _ => pl_must _ (pl_z 8)) _ _) fun _ =>
  pl_bind (pl_must _ (pl_z 1)) fun nt => pl_bind (pl_many (fun _ => pl_must _ (pl_z 1)) _ _) fun _ =>
  pl_bind (pl_must _ (pl_z 2)) fun _ => pl_bind (pl_must _ (pl_z 1)) fun _ => pl_bind (pl_must _ (pl_z 1)) fun locks => pl_bind (pl_must _ (pl_z 2)) fun _ =>
  pl_bind (pl_must _ (pl_z 1)) fun np => pl_bind (pl_many (fun _ => pl_proc _ _) _ _) fun _ => pl_ret _

/-- What is wrong with all the bytes is within them. -/
theorem whole_place {α : Type} {d : D α} (h : Pl d) {bs : List UInt8} {e : Int} {p : Nat} (hw : whole1 d bs = .error (e, p)) : p ≤ bs.length := by
  unfold whole1 at hw
  by_cases hl : 1048576 < bs.length
  · rw [if_pos hl] at hw; cases hw; omega
  · rw [if_neg hl] at hw
    obtain ⟨p1, p2⟩ := h bs 0 (Nat.zero_le _)
    cases hd : d bs 0 with
    | error e' => rw [hd] at hw; cases hw; exact p1 _ hd
    | ok z =>
      obtain ⟨x, a⟩ := z
      rw [hd] at hw
      dsimp only at hw
      by_cases ha : a < bs.length
      · rw [if_pos ha] at hw; cases hw; omega
      · rw [if_neg ha] at hw; cases hw

theorem configOf_place {bs : List UInt8} {e : Int} {p : Nat} (h : configOf bs = .error (e, p)) : p ≤ bs.length := whole_place pl_config h

theorem pl_sub : Pl configSub := fun bs at_ ha => by
  obtain ⟨p1, p2⟩ := pl_num 4 bs at_ ha
  unfold configSub
  cases hd : D.num 4 bs at_ with
  | error e => exact ⟨fun e' he => by cases he; exact p1 _ hd, fun z hz => by cases hz⟩
  | ok z =>
    obtain ⟨n, a2⟩ := z
    obtain ⟨q1, q2⟩ := p2 _ hd
    dsimp only at q1 q2 ⊢
    by_cases hs : bs.length < a2 + n
    · rw [if_pos hs]
      exact ⟨fun e he => by cases he; exact Nat.le_refl _, fun z hz => (by cases hz)⟩
    · rw [if_neg hs]
      cases hc : configOf ((bs.drop a2).take n) with
      | error e =>
        obtain ⟨e, p⟩ := e
        have hp := configOf_place hc
        rw [List.length_take] at hp
        exact ⟨fun e' he => by cases he; show a2 + p ≤ bs.length; omega, fun z hz => (by cases hz)⟩
      | ok c => exact ⟨fun e he => (by cases he), fun z hz => by cases hz; exact ⟨by show at_ ≤ a2 + n; omega, by show a2 + n ≤ bs.length; omega⟩⟩

theorem pl_entry : Pl entryD := pl_bind pl_i fun _ => pl_bind (pl_z 1) fun _ => pl_bind pl_i fun _ => pl_ret _
theorem pl_waiter : Pl waiterD := pl_bind (pl_z 1) fun _ => pl_bind pl_i fun _ => pl_ret _
theorem pl_lane (lane np : Int) : Pl (laneD lane np) :=
  pl_bind (pl_must _ (pl_z 1)) fun _ => pl_bind (pl_many (fun _ => pl_i) _ _) fun _ => pl_bind (pl_must _ (pl_z 1)) fun _ => pl_bind (pl_many (fun _ => pl_waiter) _ _) fun _ => pl_bind (pl_z 2) fun _ => pl_bind (pl_z 2) fun _ => pl_ret _
theorem pl_lock (np : Int) : Pl (lockD np) := pl_bind (pl_map _ (pl_z 1)) fun _ => pl_bind (pl_must _ (pl_z 1)) fun _ => pl_bind (pl_many (fun _ => pl_z 1) _ _) fun _ => pl_ret _
theorem pl_part (most locks np : Int) : Pl (partD most locks np) :=
  pl_bind (pl_z 1) fun _ => pl_bind (pl_must _ (pl_z 2)) fun _ => pl_bind (pl_many (fun _ => pl_entry) _ _) fun _ => pl_bind (pl_z 2) fun _ => pl_bind (pl_z 2) fun _ => pl_bind (pl_many (fun _ => pl_lock np) _ _) fun _ => pl_ret _
theorem pl_procS (nl : Nat) (lane np : Int) : Pl (procSD nl lane np) :=
  pl_bind (pl_z 1) fun _ => pl_bind (pl_z 2) fun _ => pl_bind (pl_many (fun _ => pl_i) _ _) fun _ => pl_bind (pl_z 1) fun _ => pl_bind pl_i fun _ => pl_bind (pl_map _ (pl_must _ (pl_z 1))) fun _ => pl_bind pl_i fun _ =>
  pl_bind (pl_many (fun _ => pl_lane lane np) _ _) fun _ => pl_ret _
theorem pl_state (c : PCfg) : Pl (stateD c) := pl_bind pl_i fun _ => pl_bind (pl_many (fun _ => pl_part _ _ _) _ _) fun _ => pl_bind (pl_many (fun _ => pl_procS _ _ _) _ _) fun _ => pl_ret _
theorem pl_snap : Pl snapD := pl_bind (pl_mark _) fun _ => pl_bind pl_sub fun c => pl_bind (pl_state c) fun _ => pl_ret _

end Lf

/-
  The config of a machine is read.
-/
namespace Lf
open Go Go.Proofs

def cfgNil : PCfg := ⟨[], [], 0, 0, 0, 0, []⟩

theorem cfg0_own {h : Hp} : CfgO cfg0 cfgNil h [] := ⟨[], [], [], rfl, RowsO.nil, RowsO.nil, RowsO.nil, rfl, rfl, rfl, rfl⟩

/-- The bounds of a config that was read. -/
structure Few (c : PCfg) : Prop where
  nl : c.labels.length ≤ 8
  np : c.procs.length ≤ 32
  lane : c.lane ≤ 64
  locks : 0 ≤ c.locks ∧ c.locks ≤ 8
  log : c.log ≤ 4096

theorem few_of (m : Int) {c : PCfg} (hm : m = 0 ↔ LabOK c.labels) (h : CfgV c) : Few c := by
  obtain ⟨_, h2⟩ := (cfgV_iff hm).2 h
  obtain ⟨e1, _, _, _, _, e6, e7, e8, _, e10, _⟩ := cfgP_zero.1 h2
  exact ⟨(hm.1 e1).2.1, e10, e6.2, e7, e8.2⟩

theorem mayP_lab (c : PCfg) : (mayP c.labels).1 = 0 ↔ LabOK c.labels := mayP_zero

section
variable {d h : Hp} {rb : Nat} {bl : Sl} {bs : List UInt8} {r : RS}

set_option maxRecDepth 20000 in
theorem sconfig_rd {Q : Hp → Prop} (a : SAt d h rb bl bs r cfg0)
    (hq : ∀ r1 x c B h', SB d h rb bl bs x h' r1 B → CfgO x c h' B → Few c → ((∃ n, r1 = .ok n) → CfgV c) → Cn bs r configSub r1 c → Q h') : snap_reader_config_w Try.prog (some ⟨rb, 0, none⟩) Q h := by
  unfold snap_reader_config_w
  have few0 : Few cfgNil := ⟨by simp [cfgNil], by simp [cfgNil], by simp [cfgNil], by simp [cfgNil], by simp [cfgNil]⟩
  have hlen : bl.len = bs.length := a.src.1
  have hsm := a.small
  refine notNil (snap_source_small_call (small_rd (k := 4) a (by omega) (by omega) fun n r1 h1 hn m1 a1 hc1 _ => ?_))
  have s1 : SB d h rb bl bs cfg0 h1 r1 [] := SB.step a.known m1 a1
  obtain ⟨p, e, pl, kb, hs⟩ := a1.blk
  refine notNil (ld_at (sh := shInt .i64) e (kb.ldIs (off := 2) (n := 1) rfl) ?_)
  -- an error stays
  have herr : ∀ e, r1 = .error e → Cn bs r configSub r1 cfgNil := fun e he => by
    subst he
    have hdone := hc1.done
    cases r with
    | error y =>
      have hdone : (Except.error y : Except (Int × Nat) (Int × Nat)) = .error e := hdone
      cases hdone
      exact Cn.stay
    | ok at_ =>
      have hdone : zD 4 bs at_ = .error e := hdone
      refine Cn.err ?_
      unfold configSub
      unfold zD D.map D.bind at hdone
      cases hx : D.num 4 bs at_ with
      | error e2 => rw [hx] at hdone; cases hdone; rfl
      | ok y => rw [hx] at hdone; cases hdone
  cases r1 with
  | error y =>
    obtain ⟨er, q⟩ := y
    rw [if_pos (by rw [bne_iff_ne, hs.1]; exact hs.2.1)]
    exact hq _ cfg0 cfgNil [] h1 s1 cfg0_own few0 (by rintro ⟨n, hn⟩; cases hn) (herr _ rfl)
  | ok at2 =>
    obtain ⟨rfl, rfl, hat⟩ := hs
    have hat : at2 ≤ bs.length := by omega
    rw [if_neg (by simp)]
    -- what was read
    obtain ⟨at_, rfl⟩ : ∃ at_, r = .ok at_ := by
      cases r with
      | ok at_ => exact ⟨at_, rfl⟩
      | error y => exact absurd hc1.done (by intro h; cases h)
    have hnum : D.num 4 bs at_ = .ok (n, at2) := by
      have hdone : zD 4 bs at_ = .ok ((n : Int), at2) := hc1.done
      unfold zD D.map D.bind at hdone
      cases hx : D.num 4 bs at_ with
      | error e2 => rw [hx] at hdone; cases hdone
      | ok y =>
        obtain ⟨y, a2⟩ := y
        rw [hx] at hdone
        have hdone : (Except.ok (toZ y, a2) : Except (Int × Nat) (Int × Nat)) = .ok ((n : Int), at2) := hdone
        have h1 := Except.ok.inj hdone
        have h2 : toZ y = (n : Int) := congrArg Prod.fst h1
        have h3 : a2 = at2 := congrArg Prod.snd h1
        unfold toZ at h2
        have : y = n := by omega
        rw [this, h3]
    refine notNil (ld_at (sh := shSl) bl (kb.ldIs (off := 0) (n := 1) rfl) (notNil (ld_at (sh := shInt .i64) (at2 : Int) (kb.ldIs (off := 1) (n := 1) rfl) ?_)))
    rw [wrap64 (by omega) (by omega)]
    by_cases hsh : bs.length < at2 + n
    · have hlt : ((bl.len : Nat) : Int) - (at2 : Int) < (n : Int) := by omega
      rw [if_pos (decide_eq_true hlt)]
      refine notNil (notNil (ld_at (sh := shSl) bl (kb.ldIs (off := 0) (n := 1) rfl) (snap_source_give_call (sgive_ok kb fun h2 m2 k2 => ?_))))
      rw [if_pos rfl, if_pos rfl] at k2
      have a2 : SAt d h2 rb bl bs (.error (5, bs.length)) cfg0 := ⟨(m2.le a1.le fun c hc => by rw [List.mem_singleton.1 hc]; exact a.out).1, a.out, a.src, a.cap, a.small, _, _, _, k2, rfl, by decide, by rw [hlen]⟩
      refine hq _ cfg0 cfgNil [] h2 (SB.step a.known (m1.trans m2) a2) cfg0_own few0 (by rintro ⟨n, hn⟩; cases hn) (Cn.err ?_)
      unfold configSub
      rw [hnum]
      dsimp only
      rw [if_pos hsh]
    · have hlt : ¬ ((bl.len : Nat) : Int) - (at2 : Int) < (n : Int) := by omega
      rw [if_neg (fun e => hlt (of_decide_eq_true e))]
      refine notNil (ld_at (sh := shSl) bl (kb.ldIs (off := 0) (n := 1) rfl) (notNil (ld_at (sh := shInt .i64) (at2 : Int) (kb.ldIs (off := 1) (n := 1) rfl) (notNil (ld_at (sh := shInt .i64) (at2 : Int) (kb.ldIs (off := 1) (n := 1) rfl) ?_)))))
      have hcap := a.cap
      rw [wrap64 (by omega) (by omega)]
      have hnk : (at2 : Int) ≤ (at2 : Int) + (n : Int) := by omega
      refine ⟨⟨by omega, hnk, by omega⟩, letW ?_⟩
      have e1 : ((at2 : Int) + (n : Int)).toNat = at2 + n := by omega
      have e2 : ((at2 : Int)).toNat = at2 := rfl
      rw [e1, e2]
      have hcut := (Rw.mono a1.le a.src).cut (a := at2) (b := at2 + n) (c := bl.cap) (n := at2 + n - at2) (m := bl.cap - at2) eB_len (by omega) (by omega) (by omega) rfl
      have e3 : at2 + n - at2 = n := by omega
      rw [e3] at hcut ⊢
      refine conf_Decode_call (confDecode_ok hcut (by show n ≤ bl.cap - at2; omega) (fun e p h2 hle2 hcfg hne => ?_) fun y c B h2 hle2 hcfg own nd fresh => ?_)
      · have kb2 := kb.le hle2
        rw [if_pos (by simpa using hne)]
        refine notNil (notNil (ld_at (sh := shInt .i64) (at2 : Int) (kb2.ldIs (off := 1) (n := 1) rfl) ?_))
        refine snap_source_give_call (sgive_ok kb2 fun h3 m3 k3 => ?_)
        rw [if_pos rfl, if_pos rfl] at k3
        have hp := configOf_place hcfg
        rw [List.length_take, List.length_drop] at hp
        rw [wrap64 (by omega) (by omega)] at k3
        have m := (m1.trans (Mv.of_le [rb] hle2)).trans m3
        have a3 : SAt d h3 rb bl bs (.error (e, at2 + p)) cfg0 := ⟨(m.le a.le fun c hc => by rw [List.mem_singleton.1 hc]; exact a.out).1, a.out, a.src, a.cap, a.small, _, _, _, k3, rfl, hne, by push_cast; rfl⟩
        refine hq _ cfg0 cfgNil [] h3 (SB.step a.known m a3) cfg0_own few0 (by rintro ⟨n, hn⟩; cases hn) (Cn.err ?_)
        unfold configSub
        rw [hnum]
        dsimp only
        rw [if_neg hsh, hcfg]
      · have kb2 := kb.le hle2
        rw [if_neg (by simp)]
        refine notNil (stW_blk (b := rb) (off := 4) kb2 (by simp [rcells, cfgL, cellsL]) fun h3 m3 k3 => ?_)
        have k3 : Blk h3 rb (rcells bl (at2 : Int) 0 pl ++ cfgL y) := by simpa [rcells, cfgL, cellsL, Sl.v] using k3
        refine notNil (ld_at (sh := shInt .i64) (at2 : Int) (k3.ldIs (off := 1) (n := 1) rfl) (notNil (stW_blk (b := rb) (off := 1) k3 (by simp [rcells]) fun h4 m4 k4 => ?_)))
        rw [wrap64 (by omega) (by omega)] at k4
        have k4 : Blk h4 rb (rcells bl ((at2 : Int) + (n : Int)) 0 pl ++ cfgL y) := by simpa [rcells, cfgL, cellsL, Sl.v] using k4
        have m34 := m3.trans m4
        have m := (m1.trans (Mv.of_le [rb] hle2)).trans m34
        have hd4 := (m.le a.le fun c hc => by rw [List.mem_singleton.1 hc]; exact a.out).1
        have a4 : SAt d h4 rb bl bs (.ok (at2 + n)) y := ⟨hd4, a.out, a.src, a.cap, a.small, _, _, _, k4, by push_cast; rfl, rfl, by push_cast; omega⟩
        have hrB : rb ∉ B := fun hb => kb.known (fresh rb hb)
        have hv := (whole_sound law_config hcfg).1
        refine hq _ y c B h4 ⟨a.known, fun b o e1 h1 => m.keep b o e1 fun hb => h1 (List.mem_singleton.1 hb), a4, nd, fun b hb => s1.new_ (fresh b hb)⟩
          (okCfg.same own (mv_same m34 (okCfg.known own) fun b hb e => hrB (by have e : b = rb := List.mem_singleton.1 e; exact e ▸ hb))) (few_of _ (mayP_lab c) hv) (fun _ => hv) (Cn.ok ?_)
        unfold configSub
        rw [hnum]
        dsimp only
        rw [if_neg hsh, hcfg]

end
end Lf

/-
  A machine's state is read.
-/
namespace Lf
open Go Go.Proofs

abbrev PartsO (l : Sl) (ps : List PPart) (h : Hp) (B : List Nat) : Prop := RowsO sh_api_Part 6 PartO l ps h B
abbrev ProcssO (l : Sl) (ps : List PProcess) (h : Hp) (B : List Nat) : Prop := RowsO sh_api_Process 15 ProcessO l ps h B
theorem okParts : AsOk PartsO := RowsO.ok okPart
theorem okProcss : AsOk ProcssO := RowsO.ok okProcess

theorem whole_err {α : Type} {d : D α} {bs : List UInt8} {e : Int × Nat} (hl : bs.length ≤ 1048576) (h : stepD (.ok 0) d bs = .error e) : whole1 d bs = .error e := by
  unfold whole1
  rw [if_neg (by omega)]
  have h : d bs 0 = .error e := h
  rw [h]

theorem whole_ok {α : Type} {d : D α} {bs : List UInt8} {c : α} {a : Nat} (hl : bs.length ≤ 1048576) (h : stepD (.ok 0) d bs = .ok (c, a)) : whole1 d bs = if a < bs.length then .error (6, a) else .ok c := by
  unfold whole1
  rw [if_neg (by omega)]
  have h : d bs 0 = .ok (c, a) := h
  rw [h]

section
variable {d h : Hp} {rb : Nat} {bl : Sl} {bs : List UInt8}

/-- How the reading of a machine has ended. -/
def EndS (bs : List UInt8) (r : RS) (c : PCfg) (s : PState) : Prop := match r with
  | .error e => whole1 snapD bs = .error e
  | .ok _ => whole1 snapD bs = .ok (c, s) ∧ CfgV c

set_option maxRecDepth 20000 in
theorem sstate_rd {Q : S_api_State → Hp → Prop} (a : SAt d h rb bl bs (.ok 0) cfg0) (hsm : bs.length ≤ 1048576)
    (hq : ∀ (v : S_api_State) (s : PState) (x : S_api_Config) (c : PCfg) r1 B1 B2 h', SB d h rb bl bs x h' r1 (B1 ++ B2) → CfgO x c h' B1 → StateO v s h' B2 → EndS bs r1 c s → Q v h') : snap_reader_state_w Try.prog (some ⟨rb, 0, none⟩) Q h := by
  unfold snap_reader_state_w
  refine forI (n := 5) rfl (by omega) (fun i k => ∃ r', SB d h rb bl bs cfg0 k r' [] ∧ ∀ (β : Type) (f : Unit → D β), stepD (.ok 0) (D.bind (markD [70, 66, 83, 78, 1]) f) bs = stepD r' (D.bind (markD (([70, 66, 83, 78, 1] : List UInt8).drop i)) f) bs) ⟨_, SB.init a, fun _ _ => rfl⟩ ?_ ?_
  · rintro i hi k ⟨r', s, hcn⟩ K hK
    have hc : ([70, 66, 83, 78, 1] : List UInt8)[i]? = some (([70, 66, 83, 78, 1] : List UInt8)[i]'(by simpa using hi)) := List.getElem?_eq_getElem (by simpa using hi)
    generalize ([70, 66, 83, 78, 1] : List UInt8)[i]'(by simpa using hi) = c at hc
    have hgd : List.getD [70, 66, 83, 78, 1] (Int.toNat (i : Int)) (0 : UInt8) = c := by
      rw [List.getD_eq_getElem?_getD, show (Int.toNat (i : Int)) = i from rfl, hc]; rfl
    refine JoinW0.intro (fun k2 => ∃ r2 n, SB d h rb bl bs cfg0 k2 r2 [] ∧ Cn bs r' (D.must (D.num 1) fun n => if n = c.toNat then 0 else 4) r2 n) ?_ ?_
    · obtain ⟨p, e, pl, kb, hs⟩ := s.rd.blk
      refine notNil (ld_at (sh := shInt .i64) p (kb.ldIs (off := 1) (n := 1) rfl) (notNil (snap_source_get_call (get_rd (k := 1) s.rd (by omega) (by omega) fun n r2 k2 hn m2 a2 hc2 _ => ⟨⟨by omega, by omega⟩, ?_⟩))))
      have hp : ∀ aa, r' = .ok aa → p = (aa : Int) := fun aa e => by rw [e] at hs; exact hs.1
      have s2 := (s.next (fun b hb => by cases hb) m2 a2).1
      have hn : n < 256 := by simpa using hn
      rw [hgd, i64_small (by omega)]
      have e1 : IntKind.wrap .u8 (n : Int) = (n : Int) := by
        rw [wrap8, ofNat_byte]; omega
      rw [e1]
      by_cases h1 : n = c.toNat
      · rw [if_neg (by simp [h1])]
        exact ⟨r2, n, s2, must_pass hc2 (by rw [if_pos h1])⟩
      · rw [if_pos (by rw [bne_iff_ne]; omega)]
        exact notNil (snap_source_give_call (must_give (W := fun n => if n = c.toNat then 0 else 4) (n := n) a2 hc2 hp (by rw [if_neg h1]) (by decide) fun r3 k3 m3 a3 hc3 => ⟨r3, n, (s2.next (fun b hb => by cases hb) m3 a3).1, hc3⟩))
    · rintro k2 ⟨r2, n, s2, hc2⟩
      refine hK k2 ⟨r2, s2, fun β f => ?_⟩
      rw [hcn, drop_cons hc]
      show stepD r' (D.bind (D.bind (D.must (D.num 1) fun n => if n = c.toNat then 0 else 4) fun _ => markD (([70, 66, 83, 78, 1] : List UInt8).drop (i + 1))) f) bs = _
      rw [bind_assoc, hc2]
  · rintro k ⟨r1, s1, hcn1⟩
    refine snap_reader_config_call (sconfig_rd s1.rd fun r2 x c B1 k2 t2 own few hcv hc2 => ?_)
    have s2 := s1.andThen (fun b hb => by cases hb) t2
    rw [List.nil_append] at s2
    have hst : ∀ (β : Type) (f : PCfg → D β), stepD (.ok 0) (D.bind (markD [70, 66, 83, 78, 1]) fun _ => D.bind configSub f) bs = stepD r2 (f c) bs := fun β f => by
      rw [hcn1]
      show stepD r1 (D.bind configSub f) bs = _
      rw [hc2]
    have hlab : x.Labels.len = c.labels.length := by
      obtain ⟨C1, C2, C3, _, o1, _⟩ := own
      exact o1.len
    have hpl : x.Procs.len = c.procs.length := by
      obtain ⟨C1, C2, C3, _, _, _, o3, _⟩ := own
      exact o3.len
    obtain ⟨hLane, hLocks, hLog⟩ : x.Lane = c.lane ∧ x.Locks = c.locks ∧ x.Log = c.log := by
      obtain ⟨C1, C2, C3, _, _, _, _, f1, f2, f3, f4⟩ := own
      exact ⟨f2, f3, f4⟩
    have f1 := few.nl
    have f2 := few.np
    have f3 := few.locks
    have kn2 := okCfg.known own
    refine notNil (snap_source_get_call (get_rd (k := 8) s2.rd (by omega) (by omega) fun tick r3 k3 htick m3 a3 hc3 _ => ?_))
    obtain ⟨s3, hs3⟩ := s2.next kn2 m3 a3
    have own3 := okCfg.same own hs3
    refine notNil (ld_at (sh := shSl) x.Labels (s3.rd.cfg (j := 0) (n := 1) rfl) ?_)
    refine forT (n := c.labels.length) (by omega) (by omega) (fun i (v : S_api_State) kk => ∃ (ps : List PPart) (r' : RS) (B2 : List Nat), ps.length = i ∧ (v.Tick = i64 tick ∧ v.Procs = ⟨none, 0, 0⟩) ∧ SB d h rb bl bs x kk r' (B1 ++ B2) ∧ CfgO x c kk B1 ∧ PartsO v.Parts ps kk B2 ∧
        ∀ (β : Type) (f : List PPart → D β), stepD r3 (D.bind (D.many (fun _ => partD c.log c.locks (c.procs.length : Int)) c.labels.length []) f) bs = stepD r' (D.bind (D.many (fun _ => partD c.log c.locks (c.procs.length : Int)) (c.labels.length - i) ps) f) bs)
      ⟨[], r3, [], rfl, ⟨rfl, rfl⟩, by simpa using s3, own3, RowsO.nil, fun _ _ => rfl⟩ ?_ ?_
    · rintro i hi v kk ⟨ps, r', B2, hpl2, hv, s4, own4, o4, hcn⟩ K hK
      have kn4 : ∀ b ∈ B1 ++ B2, kk b ≠ none := fun b hb => by
        rcases List.mem_append.1 hb with hb | hb
        · exact okCfg.known own4 b hb
        · exact okParts.known o4 b hb
      refine snap_reader_part_call (spart_rd s4.rd (by rw [hLocks]; omega) fun y p r5 B' k5 t5 o5 hc5 => ⟨⟨trivial, trivial⟩, ?_⟩)
      have s5 := s4.andThen kn4 t5
      have hs5 := s4.kept kn4 t5
      refine newF (xs := [y]) (enc := fun x => cellsL (sh_api_Part.enc x)) (sz := 6) rfl (fun _ => rfl) fun b6 k6 _ hle6 _ o6 => ⟨⟨trivial, trivial⟩, ?_⟩
      have s6 := s5.grow hle6
      have hs6 : ∀ b ∈ B1 ++ B2, k6 b = kk b := fun b hb => by
        rw [← hs5 b hb]
        exact kept_le hle6 (fun b hb => by rw [hs5 b hb]; exact kn4 b hb) b hb
      have oe := okPart.same o5 (kept_le hle6 (okPart.known o5))
      refine mid_app (P := B1) (M := B2) (S := []) (B' := B') okPart a.le (by simpa using s6) (okParts.same o4 fun b hb => hs6 b (mem_b hb)) (v := y) (p := p) oe (fun b hb => by
        rw [List.append_nil] at hb
        rw [hs6 b (mem_a hb)]
        exact kn4 b (mem_a hb)) (o6.rw fun _ => rfl) (fun _ => rfl) (fun _ => rfl) rfl (by omega) fun l7 k7 M7 s7 o7 hs7 => ?_
      rw [List.append_nil] at s7
      refine hK _ k7 ⟨ps ++ [p], r5, M7, by simp [hpl2], hv, s7, okCfg.same own4 fun b hb => (hs7 b (by rw [List.append_nil]; exact hb)).trans (hs6 b (mem_a hb)), o7, fun β f => ?_⟩
      have e1 : c.labels.length - i = (c.labels.length - (i + 1)) + 1 := by omega
      rw [hLog, hLocks, hpl] at hc5
      rw [hcn, e1, many_succ, bind_assoc, hc5]
    · rintro v kk ⟨ps, r', B2, hpl2, ⟨hv1, hv2⟩, s4, own4, o4, hcn4⟩
      refine notNil (ld_at (sh := shSl) x.Procs (s4.rd.cfg (j := 6) (n := 1) rfl) ?_)
      refine forT (n := c.procs.length) (by omega) (by omega) (fun i (v : S_api_State) kk => ∃ (qs : List PProcess) (r5 : RS) (B2 B3 : List Nat), qs.length = i ∧ v.Tick = i64 tick ∧ SB d h rb bl bs x kk r5 (B1 ++ (B2 ++ B3)) ∧ CfgO x c kk B1 ∧ PartsO v.Parts ps kk B2 ∧ ProcssO v.Procs qs kk B3 ∧
          ∀ (β : Type) (f : List PProcess → D β), stepD r' (D.bind (D.many (fun _ => procSD c.labels.length c.lane (c.procs.length : Int)) c.procs.length []) f) bs = stepD r5 (D.bind (D.many (fun _ => procSD c.labels.length c.lane (c.procs.length : Int)) (c.procs.length - i) qs) f) bs)
        ⟨[], r', B2, [], rfl, hv1, by simpa using s4, own4, o4, by rw [hv2]; exact RowsO.nil, fun _ _ => rfl⟩ ?_ ?_
      · rintro i hi v kk ⟨qs, r5, B2, B3, hql, hv, s5, own5, o5, q5, hcn⟩ K hK
        have kn5 : ∀ b ∈ B1 ++ (B2 ++ B3), kk b ≠ none := fun b hb => by
          rcases List.mem_append.1 hb with hb | hb
          · exact okCfg.known own5 b hb
          · rcases List.mem_append.1 hb with hb | hb
            · exact okParts.known o5 b hb
            · exact okProcss.known q5 b hb
        refine snap_reader_proc_call (sproc_rd s5.rd (by omega) fun y p r6 B' k6 t6 o6 hc6 => ⟨⟨trivial, trivial⟩, ?_⟩)
        have s6 := s5.andThen kn5 t6
        have hs6 := s5.kept kn5 t6
        refine newF (xs := [y]) (enc := fun x => cellsL (sh_api_Process.enc x)) (sz := 15) rfl (fun _ => rfl) fun b7 k7 _ hle7 _ o7 => ⟨⟨trivial, trivial⟩, ?_⟩
        have s7 := s6.grow hle7
        have hs7 : ∀ b ∈ B1 ++ (B2 ++ B3), k7 b = kk b := fun b hb => by
          rw [← hs6 b hb]
          exact kept_le hle7 (fun b hb => by rw [hs6 b hb]; exact kn5 b hb) b hb
        have oe := okProcess.same o6 (kept_le hle7 (okProcess.known o6))
        have w1 := okCfg.same own5 fun b hb => hs7 b (mem_a hb)
        have w2 := okParts.same o5 fun b hb => hs7 b (mem_b (mem_a hb))
        have w3 := okProcss.same q5 fun b hb => hs7 b (mem_b (mem_b hb))
        refine mid_app (P := B1 ++ B2) (M := B3) (S := []) (B' := B') okProcess a.le (by simpa [List.append_assoc] using s7) w3 (v := y) (p := p) oe (fun b hb => by
          rw [List.append_nil] at hb
          rcases List.mem_append.1 hb with hb | hb
          · exact okCfg.known w1 b hb
          · exact okParts.known w2 b hb) (o7.rw fun _ => rfl) (fun _ => rfl) (fun _ => rfl) rfl (by omega) fun l8 k8 M8 s8 o8 hs8 => ?_
        refine hK _ k8 ⟨qs ++ [p], r6, B2, M8, by simp [hql], hv, by simpa [List.append_assoc] using s8, okCfg.same w1 fun b hb => hs8 b (by rw [List.append_nil]; exact mem_a hb), okParts.same w2 fun b hb => hs8 b (by rw [List.append_nil]; exact mem_b hb), o8, fun β f => ?_⟩
        have e1 : c.procs.length - i = (c.procs.length - (i + 1)) + 1 := by omega
        rw [hlab, hLane, hpl] at hc6
        rw [hcn, e1, many_succ, bind_assoc, hc6]
      · rintro v kk ⟨qs, r5, B2, B3, hql, hv, s5, own5, o5, q5, hcn5⟩
        have kn5 : ∀ b ∈ B1 ++ (B2 ++ B3), kk b ≠ none := fun b hb => by
          rcases List.mem_append.1 hb with hb | hb
          · exact okCfg.known own5 b hb
          · rcases List.mem_append.1 hb with hb | hb
            · exact okParts.known o5 b hb
            · exact okProcss.known q5 b hb
        have hall : stepD (.ok 0) snapD bs = stepD r5 (D.ret (c, (⟨i64 tick, ps, qs⟩ : PState))) bs := by
          unfold snapD
          rw [hst]
          unfold stateD
          rw [bind_assoc, iD_eq, hc3.map, bind_assoc]
          have e1 := hcn4 _ fun parts => D.bind (D.bind (D.many (fun _ => procSD c.labels.length c.lane (c.procs.length : Int)) c.procs.length []) fun procs => D.ret (⟨i64 tick, parts, procs⟩ : PState)) fun s => D.ret (c, s)
          rw [Nat.sub_self] at e1
          refine e1.trans ?_
          show stepD _ (D.bind (D.bind (D.many _ _ _) _) _) bs = _
          rw [bind_assoc]
          have e2 := hcn5 _ fun procs => D.bind (D.ret (⟨i64 tick, ps, procs⟩ : PState)) fun s => D.ret (c, s)
          rw [Nat.sub_self] at e2
          exact e2
        have hown : StateO v ⟨i64 tick, ps, qs⟩ kk (B2 ++ B3) := ⟨B2, B3, rfl, o5, q5, hv⟩
        obtain ⟨p, e, pl, kb, hs⟩ := s5.rd.blk
        have hlen : bl.len = bs.length := a.src.1
        refine notNil (ld_at (sh := shInt .i64) p (kb.ldIs (off := 1) (n := 1) rfl) (notNil (ld_at (sh := shSl) bl (kb.ldIs (off := 0) (n := 1) rfl) ?_)))
        cases r5 with
        | error y =>
          obtain ⟨er, q⟩ := y
          have hE : EndS bs (.error (er, q)) c ⟨i64 tick, ps, qs⟩ := whole_err hsm hall
          by_cases hlt : p < ((bl.len : Nat) : Int)
          · rw [if_pos (decide_eq_true hlt)]
            refine notNil (notNil (ld_at (sh := shInt .i64) p (kb.ldIs (off := 1) (n := 1) rfl) (snap_source_give_call (sgive_ok kb fun k6 m6 kb6 => ?_))))
            obtain ⟨rfl, hne, rfl⟩ := hs
            rw [if_neg hne, if_neg hne] at kb6
            have a6 : SAt d k6 rb bl bs (.error (e, q)) x := ⟨(m6.le s5.rd.le fun c hc => by rw [List.mem_singleton.1 hc]; exact a.out).1, a.out, a.src, a.cap, a.small, _, _, _, kb6, rfl, hne, rfl⟩
            obtain ⟨s6, hs6⟩ := s5.next kn5 m6 a6
            exact hq v ⟨i64 tick, ps, qs⟩ x c _ B1 (B2 ++ B3) k6 s6 (okCfg.same own5 fun b hb => hs6 b (mem_a hb)) (okState.same hown fun b hb => hs6 b (mem_b hb)) hE
          · rw [if_neg (fun e => hlt (of_decide_eq_true e))]
            exact hq v ⟨i64 tick, ps, qs⟩ x c _ B1 (B2 ++ B3) kk s5 own5 hown hE
        | ok at_ =>
          obtain ⟨rfl, rfl, hat⟩ := hs
          have hw := whole_ok hsm (hall : stepD (.ok 0) snapD bs = .ok ((c, ⟨i64 tick, ps, qs⟩), at_))
          by_cases hlt : at_ < bs.length
          · have hlt' : (at_ : Int) < ((bl.len : Nat) : Int) := by omega
            rw [if_pos (decide_eq_true hlt')]
            rw [if_pos hlt] at hw
            refine notNil (notNil (ld_at (sh := shInt .i64) (at_ : Int) (kb.ldIs (off := 1) (n := 1) rfl) (snap_source_give_call (sgive_ok kb fun k6 m6 kb6 => ?_))))
            rw [if_pos rfl, if_pos rfl] at kb6
            have a6 : SAt d k6 rb bl bs (.error (6, at_)) x := ⟨(m6.le s5.rd.le fun c hc => by rw [List.mem_singleton.1 hc]; exact a.out).1, a.out, a.src, a.cap, a.small, _, _, _, kb6, rfl, by decide, rfl⟩
            obtain ⟨s6, hs6⟩ := s5.next kn5 m6 a6
            exact hq v ⟨i64 tick, ps, qs⟩ x c _ B1 (B2 ++ B3) k6 s6 (okCfg.same own5 fun b hb => hs6 b (mem_a hb)) (okState.same hown fun b hb => hs6 b (mem_b hb)) hw
          · rw [if_neg (fun e => hlt (by have e : (at_ : Int) < ((bl.len : Nat) : Int) := of_decide_eq_true e; omega))]
            rw [if_neg hlt] at hw
            refine hq v ⟨i64 tick, ps, qs⟩ x c _ B1 (B2 ++ B3) kk s5 own5 hown ⟨hw, ?_⟩
            have hv2 := (law_snap.sound bs 0 _ _ (hall : snapD bs 0 = .ok ((c, ⟨i64 tick, ps, qs⟩), at_)) (Nat.zero_le _)).1
            exact hv2.1.1

end
end Lf

/-
  snap.Decode.
-/
namespace Lf
open Go Go.Proofs

theorem flat_leG {α β : Type} {f : α → List β} {B : Nat} : ∀ (l : List α), (∀ x ∈ l, (f x).length ≤ B) → (l.flatMap f).length ≤ l.length * B
  | [], _ => by simp
  | x :: l, hf => by
    have h1 := hf x (List.mem_cons_self ..)
    have h2 := flat_leG l fun y hy => hf y (List.mem_cons_of_mem _ hy)
    rw [List.flatMap_cons, List.length_append, List.length_cons, Nat.add_mul, Nat.one_mul]
    omega

theorem mem_zip {α β : Type} : ∀ {l : List α} {m : List β}, l.length = m.length → ∀ q ∈ m, ∃ z ∈ l.zip m, z.2 = q
  | [], [], _, q, h => by cases h
  | a :: l, b :: m, e, q, h => by
    rcases List.mem_cons.1 h with rfl | h
    · exact ⟨(a, q), List.mem_cons_self .., rfl⟩
    · obtain ⟨z, h1, h2⟩ := mem_zip (l := l) (m := m) (by simpa using e) q h
      exact ⟨z, List.mem_cons_of_mem _ h1, h2⟩
  | [], _ :: _, e, _, _ => by cases e
  | _ :: _, [], e, _, _ => by cases e

/-- How many wait at most. -/
theorem evs_few {c : PCfg} {s : PState} (few : Few c) (h : StateV c s) : (evs s).length ≤ 200000 := by
  obtain ⟨_, a1, a2, _⟩ := h
  obtain ⟨b1, b2⟩ := manyV_of a1
  obtain ⟨b3, b4⟩ := manyV_of a2
  have f1 := few.nl
  have f2 := few.np
  have f3 := few.locks
  have p1 : (s.parts.flatMap evQ).length ≤ s.parts.length * 2048 := flat_leG _ fun x hx => by
    obtain ⟨_, _, _, _, _, ⟨xs, g1, g2, g3⟩, g4⟩ := b2 x hx
    rw [List.nil_append] at g1
    have g3 := (manyV_all (V := LockV (c.procs.length : Int)) xs []).1 g3
    have hq : x.queues.length = xs.length := by rw [← g1, List.length_zip, g4]; simp
    have h1 : (evQ x).length ≤ x.queues.length * 256 := by
      unfold evQ
      rw [← List.flatMap_id]
      refine flat_leG _ fun q hq => ?_
      obtain ⟨z, hz1, hz2⟩ := mem_zip g4 q hq
      rw [g1] at hz1
      obtain ⟨_, ⟨⟨_, h2⟩, _⟩, _⟩ := g3 z hz1
      have h2 : ((z.2.length : Nat) : Int) < 256 := h2
      rw [← hz2]
      show z.2.length ≤ 256
      omega
    have : x.queues.length * 256 ≤ 8 * 256 := Nat.mul_le_mul_right _ (by omega)
    omega
  have p2 : (s.procs.flatMap evL).length ≤ s.procs.length * 2304 := flat_leG _ fun x hx => by
    obtain ⟨_, _, _, _, _, _, _, g1, _⟩ := b4 x hx
    obtain ⟨g2, g3⟩ := manyV_of g1
    have h1 : (evL x).length ≤ x.lanes.length * 256 := by
      refine flat_leG _ fun l hl => ?_
      obtain ⟨_, _, ⟨⟨_, h2⟩, _⟩, _⟩ := g3 l hl
      have h2 : ((l.waiters.length : Nat) : Int) < 256 := h2
      rw [List.length_map]
      omega
    have : x.lanes.length * 256 ≤ 9 * 256 := Nat.mul_le_mul_right _ (by omega)
    omega
  unfold evs
  rw [List.length_append]
  have q1 : s.parts.length * 2048 ≤ 8 * 2048 := Nat.mul_le_mul_right _ (by omega)
  have q2 : s.procs.length * 2304 ≤ 32 * 2304 := Nat.mul_le_mul_right _ (by omega)
  omega

def st0 : S_api_State := ⟨0, ⟨none, 0, 0⟩, ⟨none, 0, 0⟩⟩

/-- What is wrong with bytes, and where. -/
def SnapErr (bs : List UInt8) (e : Int) (p : Nat) : Prop := whole1 snapD bs = .error (e, p) ∨ ∃ c s, whole1 snapD bs = .ok (c, s) ∧ p = 0 ∧ MayIs c s e

set_option maxRecDepth 20000 in
theorem snapDecode_ok {h : Hp} {b : Sl} {bs : List UInt8} {Q : S_api_Config → S_api_State → Int → Int → Hp → Prop} (hB : Bs h b bs) (hcap : b.len ≤ b.cap)
    (hE : ∀ e p h', h ≤ h' → e ≠ 0 → SnapErr bs e p → Q cfg0 st0 e (p : Int) h')
    (hok : ∀ x v c s B1 B2 h', h ≤ h' → whole1 snapD bs = .ok (c, s) → (cfgE c).1 = 0 → MayP c s → CfgO x c h' B1 → StateO v s h' B2 → (B1 ++ B2).Nodup → (∀ b ∈ B1 ++ B2, h b = none) → Q x v 0 0 h') :
    snap_Decode_w Try.prog b Q h := by
  unfold snap_Decode_w
  have hlen : b.len = bs.length := hB.1
  by_cases hbig : 1048576 < bs.length
  · rw [if_pos (decide_eq_true (by omega))]
    exact hE 22 1048576 h (Hp.le_refl _) (by decide) (.inl (by unfold whole1; rw [if_pos hbig]))
  rw [if_neg (fun e => hbig (by have := of_decide_eq_true e; omega))]
  refine newB2 fun rb h1 hn1 hle1 hR1 => ?_
  have a1 : SAt h h1 rb b bs (.ok 0) cfg0 := ⟨hle1, hn1, hB, hcap, by omega, 0, 0, 0, hR1, rfl, rfl, by omega⟩
  refine snap_reader_state_call (sstate_rd a1 (by omega) fun v s x c r1 B1 B2 h2 s2 own1 own2 hEnd => ?_)
  have hfr : ∀ b ∈ B1 ++ B2, h b = none := fun b hb => none_of_le hle1 (s2.fresh b hb)
  obtain ⟨p, e, pl, kb, hs⟩ := s2.rd.blk
  -- how the cells stand in the end
  refine JoinW0.intro (fun k => h ≤ k ∧ ∃ at_ e pl : Int, Blk k rb (rcells b at_ e pl ++ cfgL x) ∧ ((e ≠ 0 ∧ ∃ q : Nat, pl = (q : Int) ∧ SnapErr bs e q) ∨ (e = 0 ∧ whole1 snapD bs = .ok (c, s) ∧ (cfgE c).1 = 0 ∧ MayP c s ∧ CfgO x c k B1 ∧ StateO v s k B2))) ?_ ?_
  · refine notNil (ld_at (sh := shInt .i64) e (kb.ldIs (off := 2) (n := 1) rfl) ?_)
    cases r1 with
    | error y =>
      obtain ⟨er, q⟩ := y
      obtain ⟨rfl, hne, rfl⟩ := hs
      rw [if_neg (by simpa using hne)]
      exact ⟨s2.rd.le, p, e, q, kb, .inl ⟨hne, q, rfl, .inl hEnd⟩⟩
    | ok at_ =>
      obtain ⟨rfl, rfl, hat⟩ := hs
      obtain ⟨hw, hcv⟩ := hEnd
      have hsound := (whole_sound law_snap hw).1
      have few := few_of _ (mayP_lab c) hcv
      have htc := ((cfgV_iff (mayP_lab c)).2 hcv).1
      rw [if_pos (by simp)]
      refine notNil (notNil (ld_at (sh := sh_api_Config) x (kb.ldIs (off := 4) (n := 7) rfl) ?_))
      have hfin : ∀ n k, h2 ≤ k → MayIs c s n → (n = 0 → (cfgE c).1 = 0 ∧ MayP c s) → Call0 Try.prog n_snap_source_give [(.pointer (some (Addr.add ⟨rb, 0, none⟩ 0))), (.int .i64 n), (.int .i64 (0 : Int))] (fun h4 => h ≤ h4 ∧ ∃ at_ e pl : Int, Blk h4 rb (rcells b at_ e pl ++ cfgL x) ∧
          ((e ≠ 0 ∧ ∃ q : Nat, pl = (q : Int) ∧ SnapErr bs e q) ∨ (e = 0 ∧ whole1 snapD bs = .ok (c, s) ∧ (cfgE c).1 = 0 ∧ MayP c s ∧ CfgO x c h4 B1 ∧ StateO v s h4 B2))) k := fun n k hle hM h0 => by
        refine snap_source_give_call (sgive_ok (kb.le hle) fun k4 m4 kb4 => ?_)
        rw [if_pos rfl, if_pos rfl] at kb4
        refine ⟨(m4.le (Hp.le_trans s2.rd.le hle) fun c hc => by rw [List.mem_singleton.1 hc]; exact hn1).1, _, _, _, kb4, ?_⟩
        by_cases hn0 : n = 0
        · obtain ⟨h01, h02⟩ := h0 hn0
          have hk : ∀ b ∈ B1 ++ B2, k4 b = h2 b := fun b hb => by
            have hkn : h2 b ≠ none := by
              rcases List.mem_append.1 hb with hb | hb
              · exact okCfg.known own1 b hb
              · exact okState.known own2 b hb
            cases e : h2 b with
            | none => exact absurd e hkn
            | some o => exact m4.keep b o (hle b o e) fun hr => s2.nr (by rw [← List.mem_singleton.1 hr]; exact hb)
          exact .inr ⟨hn0, hw, h01, h02, okCfg.same own1 fun b hb => hk b (mem_a hb), okState.same own2 fun b hb => hk b (mem_b hb)⟩
        · exact .inl ⟨hn0, 0, rfl, .inr ⟨c, s, hw, rfl, hM⟩⟩
      refine machine_May_call (machMay_ok own1.rd own2.rd (fun l hl => ?_) (Nat.le_trans (evs_few few hsound.2) (by decide)) (fun hc k hle => hfin _ k hle (.inl ⟨hc, rfl⟩) fun h0 => absurd h0 hc) fun hc n k hle hn => hfin n k hle (.inr ⟨hc, hn⟩) fun h0 => ?_)
      · have := htc.1 l hl
        exact ⟨this.1, this.2⟩
      · rcases hn with ⟨_, h1⟩ | ⟨h1, _⟩
        · exact ⟨hc, h1⟩
        · omega
  · rintro k ⟨hle, at_, e, pl, kb, hcase⟩
    refine notNil (ld_at (sh := shInt .i64) e (kb.ldIs (off := 2) (n := 1) rfl) ?_)
    rcases hcase with ⟨hne, q, rfl, hS⟩ | ⟨rfl, hw, h01, h02, o1, o2⟩
    · rw [if_pos (by simpa using hne)]
      have l2 : LdIs k ⟨rb, 2, none⟩ [.int .i64 e] := kb.ldIs (off := 2) (n := 1) rfl
      have l3 : LdIs k ⟨rb, 3, none⟩ [.int .i64 (q : Int)] := kb.ldIs (off := 3) (n := 1) rfl
      exact notNil (ld_at (sh := shInt .i64) e l2 (notNil (ld_at (sh := shInt .i64) (q : Int) l3 ⟨⟨l2, l3, trivial⟩, ⟨l2, l3, trivial⟩, hE e q k hle hne hS⟩)))
    · rw [if_neg (by simp)]
      exact notNil (ld_at (sh := sh_api_Config) x (kb.ldIs (off := 4) (n := 7) rfl) ⟨⟨trivial, trivial⟩, hok x v c s B1 B2 k hle hw h01 h02 o1 o2 s2.nd hfr⟩)

end Lf

/-
  Are two structures of whole numbers the same?
-/
namespace Lf
open Go

theorem eqF {P : Program} (d : Nat) (xs ys : Array Value) : ∀ (L : List (Field × IntKind × Int × Int)) (w : World),
    (∀ q ∈ L, q.1.name ≠ "_" ∧ P.underlying q.1.type = some (.int q.2.1) ∧ xs[q.1.offset]? = some (.int q.2.1 q.2.2.1) ∧ ys[q.1.offset]? = some (.int q.2.1 q.2.2.2)) →
    (Op.eqFields (d + 1) xs ys (L.map (·.1))).run P w = .ok (L.all fun q => q.2.2.1 == q.2.2.2) w
  | [], w, _ => by simp [Op.eqFields]
  | q :: L, w, h => by
    obtain ⟨h1, h2, h3, h4⟩ := h q (List.mem_cons_self ..)
    have ih := eqF d xs ys L w fun q' hq => h q' (List.mem_cons_of_mem _ hq)
    have hag : (isAgg q.1.type).run P w = .ok false w := by simp [isAgg, run_underlying h2]
    simp only [List.map_cons, Op.eqFields, Sem.run_bind, if_pos h1, part, hag, Result.andThen_ok, Bool.false_eq_true, if_false, h3, h4, Sem.run_pure, run_equalIn_int w d q.1.type q.2.1 q.2.1 q.2.2.1 q.2.2.2 h2]
    cases hb : (q.2.2.1 == q.2.2.2) with
    | false => simp [hb]
    | true => simp [hb, ih]

theorem semIs_eqS {P : Program} {t : Nat} {x y : Operand} {h : Hp} {xs ys : Array Value} (L : List (Field × IntKind × Int × Int)) (hu : P.underlying t = some (.struct (L.map (·.1)).toArray)) (hg : P.eqGuardType P.depth t = false) (hp : P.stoodInHeld t = false)
    (hL : ∀ q ∈ L, q.1.name ≠ "_" ∧ P.underlying q.1.type = some (.int q.2.1) ∧ xs[q.1.offset]? = some (.int q.2.1 q.2.2.1) ∧ ys[q.1.offset]? = some (.int q.2.1 q.2.2.2)) :
    SemIs P (binS .eql t x y (.agg xs) (.agg ys)) h (.bool (L.all fun q => q.2.2.1 == q.2.2.2)) := by
  refine semIs_of_run fun w => ?_
  have hf : P.fieldsOf t = (L.map (·.1)).toArray := by unfold Program.fieldsOf; rw [hu]
  have ht : P.underlying t = some (.struct (P.fieldsOf t)) := by rw [hf]; exact hu
  have h1 := run_equalIn_struct (P := P) w 9999 t xs ys ht hp
  rw [hf] at h1
  have h2 := eqF (P := P) 9998 xs ys L w hL
  unfold binS
  simp only [Sem.run_bind, run_eqGuard_agg w .eql t x y xs ys hg, Result.andThen_ok, run_eql_struct]
  rw [show (10000 : Nat) = 9999 + 1 from rfl, h1]
  simp only [h2, Result.andThen_ok]

end Lf

/-
  Are two configs, two states the same? They are told to be, where they are.
-/
namespace Lf
open Go Go.Proofs

theorem semIs_neqSame {P : Program} {t : Nat} {x y : Operand} {h : Hp} {xs : Array Value} (L : List (Field × IntKind × Int)) (hu : P.underlying t = some (.struct (L.map (·.1)).toArray)) (hg : P.eqGuardType P.depth t = false) (hp : P.stoodInHeld t = false)
    (hL : ∀ q ∈ L, q.1.name ≠ "_" ∧ P.underlying q.1.type = some (.int q.2.1) ∧ xs[q.1.offset]? = some (.int q.2.1 q.2.2)) :
    SemIs P (binS .neq t x y (.agg xs) (.agg xs)) h (.bool false) := by
  refine semIs_of_run fun w => ?_
  have hf : P.fieldsOf t = (L.map (·.1)).toArray := by unfold Program.fieldsOf; rw [hu]
  have ht : P.underlying t = some (.struct (P.fieldsOf t)) := by rw [hf]; exact hu
  have h1 := run_equalIn_struct (P := P) w 9999 t xs xs ht hp
  rw [hf] at h1
  have h2 := eqF (P := P) 9998 xs xs (L.map fun q => (q.1, q.2.1, q.2.2, q.2.2)) w fun q hq => by
    obtain ⟨q', hq', rfl⟩ := List.mem_map.1 hq
    obtain ⟨e1, e2, e3⟩ := hL q' hq'
    exact ⟨e1, e2, e3, e3⟩
  have e1 : (L.map fun q => (q.1, q.2.1, q.2.2, q.2.2)).map (·.1) = L.map (·.1) := by rw [List.map_map]; rfl
  have e2 : ((L.map fun q => (q.1, q.2.1, q.2.2, q.2.2)).all fun q => q.2.2.1 == q.2.2.2) = true := by simp
  rw [e1, e2] at h2
  unfold binS
  simp only [Sem.run_bind, run_eqGuard_agg w .neq t x y xs xs hg, Result.andThen_ok, run_neq_struct]
  rw [show (10000 : Nat) = 9999 + 1 from rfl, h1]
  simp only [h2, Result.andThen_ok, Bool.not_true]

theorem eqI {P : Program} (d : Nat) {e : TypeId} (he : P.underlying e = some (.int .i64)) (xs : Array Value) : ∀ (is : List Nat) (w : World), (∀ j ∈ is, ∃ n, xs[j]? = some (.int .i64 n)) → (Op.eqItems (d + 1) e 1 xs xs is).run P w = .ok true w
  | [], w, _ => by simp [Op.eqItems]
  | j :: is, w, h => by
    obtain ⟨n, hn⟩ := h j (List.mem_cons_self ..)
    have ih := eqI d he xs is w fun j' hj => h j' (List.mem_cons_of_mem _ hj)
    have hag : (isAgg e).run P w = .ok false w := by simp [isAgg, run_underlying he]
    simp only [Op.eqItems, Sem.run_bind, part, hag, Result.andThen_ok, Bool.false_eq_true, if_false, Nat.mul_one, hn, Sem.run_pure, run_equalIn_int w d e .i64 .i64 n n he]
    simp [ih]

theorem semIs_neqRow {P : Program} {t e n : Nat} {x y : Operand} {h : Hp} {xs : Array Value} (hu : P.underlying t = some (.array n e)) (hi : (P.info? e).isSome = true) (he : P.underlying e = some (.int .i64)) (hc : P.cellsOf e = 1) (hg : P.eqGuardType P.depth t = false)
    (hx : ∀ j, j < n → ∃ v, xs[j]? = some (.int .i64 v)) : SemIs P (binS .neq t x y (.agg xs) (.agg xs)) h (.bool false) := by
  obtain ⟨i, hi⟩ := Option.isSome_iff_exists.1 hi
  refine semIs_of_run fun w => ?_
  have h1 := run_equalIn_array (P := P) (w := w) 9999 xs xs hu hi
  rw [hc, eqI 9998 he xs _ w fun j hj => hx j (List.mem_range.1 hj)] at h1
  unfold binS
  simp only [Sem.run_bind, run_eqGuard_agg w .neq t x y xs xs hg, Result.andThen_ok, run_neq_struct]
  rw [show (10000 : Nat) = 9999 + 1 from rfl, h1]
  simp only [Result.andThen_ok, Bool.not_true]

section
variable {P : Program} {h : Hp} {Q : Bool → Hp → Prop}

theorem sameInts_ok {a b : Sl} {xs : List Int} (ra : Is h a xs) (rb : Is h b xs) (hn : xs.length ≤ 1099511627776) (hq : Q true h) : firebreakref02_SameInts_w P a b Q h := by
  unfold firebreakref02_SameInts_w
  have e1 : a.len = xs.length := ra.1
  have e2 : b.len = xs.length := rb.1
  rw [if_neg (by rw [e1, e2]; simp)]
  refine forI (n := xs.length) (by omega) (by omega) (fun _ h' => h' = h) rfl ?_ ?_
  · rintro i hi k rfl K hK
    refine Rs.get (sh := shInt .i64) ra (fun _ => rfl) (by omega) (by omega) (by omega) fun (x : Int) hx => ?_
    refine Rs.get (sh := shInt .i64) rb (fun _ => rfl) (by omega) (by omega) (by omega) fun (y : Int) hy => ?_
    rw [hx] at hy
    rw [if_neg (by simp [Option.some.inj hy])]
    exact hK k rfl
  · rintro k rfl; exact hq

theorem sameLabels_ok {a b : Sl} {xs : List Int} (ra : Us h a xs) (rb : Us h b xs) (hn : xs.length ≤ 1099511627776) (hq : Q true h) : firebreakref02_SameLabels_w P a b Q h := by
  unfold firebreakref02_SameLabels_w
  have e1 : a.len = xs.length := ra.1
  have e2 : b.len = xs.length := rb.1
  rw [if_neg (by rw [e1, e2]; simp)]
  refine forI (n := xs.length) (by omega) (by omega) (fun _ h' => h' = h) rfl ?_ ?_
  · rintro i hi k rfl K hK
    refine Rs.get (sh := shInt .u64) ra (fun _ => rfl) (by omega) (by omega) (by omega) fun (x : Int) hx => ?_
    refine Rs.get (sh := shInt .u64) rb (fun _ => rfl) (by omega) (by omega) (by omega) fun (y : Int) hy => ?_
    rw [hx] at hy
    rw [if_neg (by simp [Option.some.inj hy])]
    exact hK k rfl
  · rintro k rfl; exact hq

theorem ints18_ok {a b : Sl} {xs : List Int} (ra : Is h a xs) (rb : Is h b xs) (hn : xs.length ≤ 1099511627776) (hq : Q true h) : firebreakref18_ints_w P a b Q h := by
  unfold firebreakref18_ints_w
  have e1 : a.len = xs.length := ra.1
  have e2 : b.len = xs.length := rb.1
  rw [if_neg (by rw [e1, e2]; simp)]
  refine forI (n := xs.length) (by omega) (by omega) (fun _ h' => h' = h) rfl ?_ ?_
  · rintro i hi k rfl K hK
    refine Rs.get (sh := shInt .i64) ra (fun _ => rfl) (by omega) (by omega) (by omega) fun (x : Int) hx => ?_
    refine Rs.get (sh := shInt .i64) rb (fun _ => rfl) (by omega) (by omega) (by omega) fun (y : Int) hy => ?_
    rw [hx] at hy
    rw [if_neg (by simp [Option.some.inj hy])]
    exact hK k rfl
  · rintro k rfl; exact hq

theorem insOf_inj {x y : S_api_Ins} (h : insOf x = insOf y) : x = y := by
  cases x; cases y; simp [insOf] at h; simp [h]
theorem entryOf_inj {x y : S_api_Entry} (h : entryOf x = entryOf y) : x = y := by
  cases x; cases y; simp [entryOf] at h; simp [h]
theorem waiterOf_inj {x y : S_api_Waiter} (h : waiterOf x = waiterOf y) : x = y := by
  cases x; cases y; simp [waiterOf] at h; simp [h]

theorem map_same {α β : Type} {f : α → β} (hf : ∀ {x y}, f x = f y → x = y) {l m : List α} (h : l.map f = m.map f) : l = m := by
  induction l generalizing m with
  | nil => cases m with
    | nil => rfl
    | cons b m => cases h
  | cons a l ih => cases m with
    | nil => cases h
    | cons b m =>
      simp only [List.map_cons, List.cons.injEq] at h
      rw [hf h.1, ih h.2]

theorem same06_ok {a b : Sl} {is : List S_api_Ins} (ra : InsS h a is) (rb : InsS h b is) (hn : is.length ≤ 1099511627776) {Q : Bool → Hp → Prop} (hq : Q true h) : firebreakref06_Same_w Try.prog a b Q h := by
  unfold firebreakref06_Same_w
  have e1 : a.len = is.length := ra.1
  have e2 : b.len = is.length := rb.1
  rw [if_neg (by rw [e1, e2]; simp)]
  refine forI (n := is.length) (by omega) (by omega) (fun _ h' => h' = h) rfl ?_ ?_
  · rintro i hi k rfl K hK
    refine Rs.get (sh := sh_api_Ins) ra (fun _ => rfl) (by omega) (by omega) (by omega) fun x hx => ?_
    refine Rs.get (sh := sh_api_Ins) rb (fun _ => rfl) (by omega) (by omega) (by omega) fun y hy => ?_
    rw [hx] at hy
    cases hy
    refine ⟨false, semIs_neqSame [(⟨ "Op", 3, 0, false, "", "", 0⟩, .i64, x.Op), (⟨ "A", 3, 1, false, "", "", 8⟩, .i64, x.A), (⟨ "B", 3, 2, false, "", "", 16⟩, .i64, x.B), (⟨ "C", 3, 3, false, "", "", 24⟩, .i64, x.C), (⟨ "Imm", 2, 4, false, "", "", 32⟩, .i64, x.Imm)]
      (tb_ok.und 101 ty101 rfl) (by kernel_rfl) (by kernel_rfl) (fun q hq => ?_), ?_⟩
    · simp only [List.mem_cons, List.not_mem_nil, or_false] at hq
      rcases hq with rfl | rfl | rfl | rfl | rfl
      · exact ⟨by simp, tb_ok.und 3 ty3 rfl, rfl⟩
      · exact ⟨by simp, tb_ok.und 3 ty3 rfl, rfl⟩
      · exact ⟨by simp, tb_ok.und 3 ty3 rfl, rfl⟩
      · exact ⟨by simp, tb_ok.und 3 ty3 rfl, rfl⟩
      · exact ⟨by simp, tb_ok.und 2 ty2 rfl, rfl⟩
    · dsimp only
      rw [if_neg (by simp)]
      exact hK k rfl
  · rintro k rfl; exact hq
end
end Lf

/-
  Are two configs, two states the same? They are told to be, where they are.
-/
namespace Lf
open Go Go.Proofs

structure CfgLe (c : PCfg) : Prop where
  labels : c.labels.length ≤ 1099511627776
  table : c.table.length ≤ 1099511627776
  procs : c.procs.length ≤ 1099511627776
  code : ∀ p ∈ c.procs, p.code.length ≤ 1099511627776

structure LaneLe (l : PLane) : Prop where
  values : l.values.length ≤ 1099511627776
  waiters : l.waiters.length ≤ 1099511627776
structure StLe (s : PState) : Prop where
  parts : s.parts.length ≤ 1099511627776
  procs : s.procs.length ≤ 1099511627776
  log : ∀ x ∈ s.parts, x.log.length ≤ 1099511627776 ∧ x.owners.length ≤ 1099511627776 ∧ x.queues.length ≤ 1099511627776 ∧ ∀ q ∈ x.queues, q.length ≤ 1099511627776
  lanes : ∀ x ∈ s.procs, x.lanes.length ≤ 1099511627776 ∧ ∀ l ∈ x.lanes, LaneLe l

section
variable {h : Hp} {Q : Bool → Hp → Prop}

theorem skeleton_ok {a b : S_api_Config} {c : PCfg} (ra : CfgAt h a c) (rb : CfgAt h b c) (hn : CfgLe c) (hq : Q true h) : firebreakref14_Skeleton_w Try.prog a b Q h := by
  unfold firebreakref14_Skeleton_w
  obtain ⟨ps, hps, hallp⟩ := ra.procs
  obtain ⟨qs, hqs, hallq⟩ := rb.procs
  have e1 := hallp.len
  have e2 := hallq.len
  have e3 : a.Procs.len = ps.length := hps.1
  have e4 : b.Procs.len = qs.length := hqs.1
  have hpl := hn.procs
  refine firebreakref02_SameLabels_call (sameLabels_ok ra.labels rb.labels hn.labels ?_)
  refine ⟨fun _ => firebreakref02_SameInts_call (sameInts_ok ra.table rb.table hn.table ?_), fun e => (by cases e)⟩
  refine letW (letW (letW (letW (letW (letW ?_)))))
  rw [if_neg (by rw [ra.fuel, rb.fuel, ra.lane, rb.lane, ra.locks, rb.locks, ra.log, rb.log, e3, e4, e1, e2]; simp)]
  refine forI (n := c.procs.length) (by omega) (by omega) (fun _ h' => h' = h) rfl ?_ ?_
  · rintro i hi k rfl K hK
    refine Rw.fld hps (fun _ => rfl) (by omega) (sh := shInt .i64) (fun q => q.Part) (fun _ => rfl) (by omega) (by omega) fun x hx => ?_
    refine Rw.fld hqs (fun _ => rfl) (by omega) (sh := shInt .i64) (fun q => q.Part) (fun _ => rfl) (by omega) (by omega) fun y hy => ?_
    obtain ⟨p, hp1, hp2, _⟩ := hallp.get hx
    obtain ⟨q, hq1, hq2, _⟩ := hallq.get hy
    rw [hp1] at hq1; cases hq1
    rw [if_neg (by rw [hp2, hq2]; simp)]
    exact hK k rfl
  · rintro k rfl; exact hq

theorem same14_ok {a b : S_api_Config} {c : PCfg} (ra : CfgAt h a c) (rb : CfgAt h b c) (hn : CfgLe c) (hq : Q true h) : firebreakref14_Same_w Try.prog a b Q h := by
  unfold firebreakref14_Same_w
  obtain ⟨ps, hps, hallp⟩ := ra.procs
  obtain ⟨qs, hqs, hallq⟩ := rb.procs
  have e1 := hallp.len
  have e2 := hallq.len
  have e3 : a.Procs.len = ps.length := hps.1
  have hpl := hn.procs
  refine firebreakref14_Skeleton_call (skeleton_ok ra rb hn ?_)
  refine LoopW2.intro (fun ok t k => k = h ∧ ok = true ∧ ∃ i : Nat, t = (i : Int) ∧ i ≤ c.procs.length) (fun _ t _ => (c.procs.length - t).toNat) ⟨rfl, rfl, 0, rfl, by omega⟩ ?_
  rintro ok t k ⟨rfl, rfl, i, rfl, hi⟩
  refine letW ?_
  by_cases hlt : i < c.procs.length
  · rw [if_pos (by simp; omega)]
    refine Rw.fld hps (fun _ => rfl) (by omega) (sh := shSl) (fun q => q.Code) (fun _ => rfl) (by omega) (by omega) fun x hx => ?_
    refine Rw.fld hqs (fun _ => rfl) (by omega) (sh := shSl) (fun q => q.Code) (fun _ => rfl) (by omega) (by omega) fun y hy => ?_
    obtain ⟨p, hp1, hp2, is, his, him⟩ := hallp.get hx
    obtain ⟨q, hq1, hq2, js, hjs, hjm⟩ := hallq.get hy
    rw [hp1] at hq1; cases hq1
    have : is = js := map_same insOf_inj (him.trans hjm.symm)
    subst this
    refine firebreakref06_Same_call (same06_ok his hjs (by have := hn.code p (List.mem_of_getElem? hp1); rw [← him, List.length_map] at this; exact this) ?_)
    rw [wrap64 (by omega) (by omega)]
    exact ⟨⟨rfl, rfl, i + 1, by omega, by omega⟩, by omega⟩
  · rw [if_neg (by simp; omega)]
    exact hq

theorem sameLane_ok {a b : S_api_Lane} {l : PLane} (ra : LaneAt h a l) (rb : LaneAt h b l) (hn : LaneLe l) (hq : Q true h) : firebreakref18_sameLane_w Try.prog a b Q h := by
  unfold firebreakref18_sameLane_w
  obtain ⟨ws, hws, hwm⟩ := ra.waiters
  obtain ⟨us, hus, hum⟩ := rb.waiters
  have : ws = us := map_same waiterOf_inj (hwm.trans hum.symm)
  subst this
  have e1 : a.Values.len = l.values.length := ra.values.1
  have e2 : b.Values.len = l.values.length := rb.values.1
  have e3 : a.Waiters.len = ws.length := hws.1
  have e4 : b.Waiters.len = ws.length := hus.1
  have h1 := hn.values
  have h2 := hn.waiters
  rw [← hwm, List.length_map] at h2
  refine letW (letW (letW ?_))
  rw [if_neg (by rw [e1, e2, e3, e4, ra.taken, rb.taken, ra.dropped, rb.dropped]; simp)]
  refine forI (n := l.values.length) (by omega) (by omega) (fun _ h' => h' = h) rfl ?_ ?_
  · rintro i hi k rfl K hK
    refine Rs.get (sh := shInt .i64) ra.values (fun _ => rfl) (by omega) (i := (i : Int)) (by omega) (by omega) fun (x : Int) hx => ?_
    refine Rs.get (sh := shInt .i64) rb.values (fun _ => rfl) (by omega) (i := (i : Int)) (by omega) (by omega) fun (y : Int) hy => ?_
    rw [hx] at hy
    rw [if_neg (by simp [Option.some.inj hy])]
    exact hK k rfl
  · rintro k rfl
    refine forI (n := ws.length) (by omega) (by omega) (fun _ h' => h' = k) rfl ?_ ?_
    · rintro i hi k2 rfl K hK
      refine Rs.get (sh := sh_api_Waiter) hws (fun _ => rfl) (by omega) (by omega) (by omega) fun x hx => ?_
      refine Rs.get (sh := sh_api_Waiter) hus (fun _ => rfl) (by omega) (by omega) (by omega) fun y hy => ?_
      rw [hx] at hy; cases hy
      refine ⟨false, semIs_neqSame [(⟨ "Proc", 3, 0, false, "", "", 0⟩, .i64, x.Proc), (⟨ "Value", 2, 1, false, "", "", 8⟩, .i64, x.Value_)]
        (tb_ok.und 119 ty119 rfl) (by kernel_rfl) (by kernel_rfl) (fun q hq => ?_), ?_⟩
      · simp only [List.mem_cons, List.not_mem_nil, or_false] at hq
        rcases hq with rfl | rfl
        · exact ⟨by simp, tb_ok.und 3 ty3 rfl, rfl⟩
        · exact ⟨by simp, tb_ok.und 2 ty2 rfl, rfl⟩
      · dsimp only
        rw [if_neg (by simp)]
        exact hK k2 rfl
    · rintro k2 rfl; exact hq

theorem getFld {α β : Type} {R S : α → β → Prop} {xs ys : List α} {zs : List β} {i : Nat} {x y : α} (ha : All2 R xs zs) (hb : All2 S ys zs) (hx : xs[i]? = some x) (hy : ys[i]? = some y) : ∃ z, zs[i]? = some z ∧ R x z ∧ S y z := by
  obtain ⟨p, hp1, hp2⟩ := ha.get hx
  obtain ⟨q, hq1, hq2⟩ := hb.get hy
  rw [hp1] at hq1; cases hq1
  exact ⟨p, hp1, hp2, hq2⟩

set_option maxRecDepth 20000 in
theorem sameProcess_ok {a b : S_api_Process} {p : PProcess} (ra : ProcessAt h a p) (rb : ProcessAt h b p) (hn : p.lanes.length ≤ 1099511627776 ∧ ∀ l ∈ p.lanes, LaneLe l) (hq : Q true h) : firebreakref18_sameProcess_w Try.prog a b Q h := by
  unfold firebreakref18_sameProcess_w
  obtain ⟨ls, hls, halll⟩ := ra.lanes
  obtain ⟨ms, hms, hallm⟩ := rb.lanes
  have e1 := halll.len
  have e2 := hallm.len
  have e3 : a.Lanes.len = ls.length := hls.1
  have e4 : b.Lanes.len = ms.length := hms.1
  have hr : [a.Regs_0, a.Regs_1, a.Regs_2, a.Regs_3, a.Regs_4, a.Regs_5, a.Regs_6, a.Regs_7] = [b.Regs_0, b.Regs_1, b.Regs_2, b.Regs_3, b.Regs_4, b.Regs_5, b.Regs_6, b.Regs_7] := ra.regs.trans rb.regs.symm
  simp only [List.cons.injEq, and_true] at hr
  obtain ⟨r0, r1, r2, r3, r4, r5, r6, r7⟩ := hr
  refine letW ⟨false, fun _ => ?_, ?_⟩
  · rw [r0, r1, r2, r3, r4, r5, r6, r7]
    refine semIs_neqRow (n := 8) (e := 2) (tb_ok.und 55 ty55 rfl) (by kernel_rfl) (tb_ok.und 2 ty2 rfl) (by kernel_rfl) (by kernel_rfl) fun j hj => ?_
    match j, hj with
    | 0, _ => exact ⟨_, rfl⟩
    | 1, _ => exact ⟨_, rfl⟩
    | 2, _ => exact ⟨_, rfl⟩
    | 3, _ => exact ⟨_, rfl⟩
    | 4, _ => exact ⟨_, rfl⟩
    | 5, _ => exact ⟨_, rfl⟩
    | 6, _ => exact ⟨_, rfl⟩
    | 7, _ => exact ⟨_, rfl⟩
  refine letW (letW (letW (letW (letW (letW ?_)))))
  rw [if_neg (by rw [ra.state, rb.state, ra.pc, rb.pc, ra.cursor, rb.cursor, ra.timer, rb.timer, ra.fired, rb.fired, ra.wake, rb.wake, e3, e4, e1, e2]; simp)]
  refine forI (n := p.lanes.length) (by omega) (by omega) (fun _ h' => h' = h) rfl ?_ ?_
  · rintro i hi k rfl K hK
    refine Rs.get (sh := sh_api_Lane) hls (fun _ => rfl) (by omega) (i := (i : Int)) (by omega) (by omega) fun x hx => ?_
    refine Rs.get (sh := sh_api_Lane) hms (fun _ => rfl) (by omega) (i := (i : Int)) (by omega) (by omega) fun y hy => ?_
    obtain ⟨z, h1, h2, h3⟩ := getFld halll hallm hx hy
    refine firebreakref18_sameLane_call (sameLane_ok h2 h3 (hn.2 z (List.mem_of_getElem? h1)) ?_)
    rw [if_neg (by simp)]
    exact hK k rfl
  · rintro k rfl; exact hq

set_option maxRecDepth 20000 in
theorem samePart_ok {a b : S_api_Part} {p : PPart} (ra : PartAt h a p) (rb : PartAt h b p) (hn : p.log.length ≤ 1099511627776 ∧ p.owners.length ≤ 1099511627776 ∧ p.queues.length ≤ 1099511627776 ∧ ∀ q ∈ p.queues, q.length ≤ 1099511627776) (hq : Q true h) : firebreakref18_samePart_w Try.prog a b Q h := by
  unfold firebreakref18_samePart_w
  obtain ⟨es, hes, hem⟩ := ra.log
  obtain ⟨fs, hfs, hfm⟩ := rb.log
  have : es = fs := map_same entryOf_inj (hem.trans hfm.symm)
  subst this
  obtain ⟨qs, hqs, hallq⟩ := ra.queues
  obtain ⟨us, hus, hallu⟩ := rb.queues
  have e1 := hallq.len
  have e2 := hallu.len
  have e3 : a.Queues.len = qs.length := hqs.1
  have e4 : b.Queues.len = us.length := hus.1
  have e5 : a.Log.len = es.length := hes.1
  have e6 : b.Log.len = es.length := hfs.1
  obtain ⟨n1, n2, n3, n4⟩ := hn
  rw [← hem, List.length_map] at n1
  refine letW (letW (letW (letW ?_)))
  rw [if_neg (by rw [ra.cursor, rb.cursor, ra.lost, rb.lost, ra.forbidden, rb.forbidden, e3, e4, e5, e6, e1, e2]; simp)]
  refine forI (n := es.length) (by omega) (by omega) (fun _ h' => h' = h) rfl ?_ ?_
  · rintro i hi k rfl K hK
    refine Rs.get (sh := sh_api_Entry) hes (fun _ => rfl) (by omega) (by omega) (by omega) fun x hx => ?_
    refine Rs.get (sh := sh_api_Entry) hfs (fun _ => rfl) (by omega) (by omega) (by omega) fun y hy => ?_
    rw [hx] at hy; cases hy
    refine ⟨false, semIs_neqSame [(⟨ "Tick", 2, 0, false, "", "", 0⟩, .i64, x.Tick), (⟨ "Proc", 3, 1, false, "", "", 8⟩, .i64, x.Proc), (⟨ "Value", 2, 2, false, "", "", 16⟩, .i64, x.Value_)]
      (tb_ok.und 92 ty92 rfl) (by kernel_rfl) (by kernel_rfl) (fun q hq => ?_), ?_⟩
    · simp only [List.mem_cons, List.not_mem_nil, or_false] at hq
      rcases hq with rfl | rfl | rfl
      · exact ⟨by simp, tb_ok.und 2 ty2 rfl, rfl⟩
      · exact ⟨by simp, tb_ok.und 3 ty3 rfl, rfl⟩
      · exact ⟨by simp, tb_ok.und 2 ty2 rfl, rfl⟩
    · dsimp only
      rw [if_neg (by simp)]
      exact hK k rfl
  · rintro k rfl
    refine forI (n := p.queues.length) (by omega) (by omega) (fun _ h' => h' = k) rfl ?_ ?_
    · rintro i hi k2 rfl K hK
      refine Rs.get (sh := shSl) hqs (fun _ => rfl) (by omega) (i := (i : Int)) (by omega) (by omega) fun x hx => ?_
      refine Rs.get (sh := shSl) hus (fun _ => rfl) (by omega) (i := (i : Int)) (by omega) (by omega) fun y hy => ?_
      obtain ⟨z, h1, h2, h3⟩ := getFld hallq hallu hx hy
      refine firebreakref18_ints_call (ints18_ok h2 h3 (n4 z (List.mem_of_getElem? h1)) ?_)
      rw [if_neg (by simp)]
      exact hK k2 rfl
    · rintro k2 rfl
      exact firebreakref18_ints_call (ints18_ok ra.owners rb.owners n2 hq)

theorem same18_ok {a b : S_api_State} {s : PState} (ra : StateAt h a s) (rb : StateAt h b s) (hn : StLe s) (hq : Q true h) : firebreakref18_Same_w Try.prog a b Q h := by
  unfold firebreakref18_Same_w
  obtain ⟨ps, hps, hallp⟩ := ra.parts
  obtain ⟨us, hus, hallu⟩ := rb.parts
  obtain ⟨qs, hqs, hallq⟩ := ra.procs
  obtain ⟨vs, hvs, hallv⟩ := rb.procs
  have e1 := hallp.len
  have e2 := hallu.len
  have e3 := hallq.len
  have e4 := hallv.len
  have e5 : a.Parts.len = ps.length := hps.1
  have e6 : b.Parts.len = us.length := hus.1
  have e7 : a.Procs.len = qs.length := hqs.1
  have e8 : b.Procs.len = vs.length := hvs.1
  have n1 := hn.parts
  have n2 := hn.procs
  refine letW (letW ?_)
  rw [if_neg (by rw [ra.tick, rb.tick, e5, e6, e7, e8, e1, e2, e3, e4]; simp)]
  refine forI (n := s.parts.length) (by omega) (by omega) (fun _ h' => h' = h) rfl ?_ ?_
  · rintro i hi k rfl K hK
    refine Rs.get (sh := sh_api_Part) hps (fun _ => rfl) (by omega) (i := (i : Int)) (by omega) (by omega) fun x hx => ?_
    refine Rs.get (sh := sh_api_Part) hus (fun _ => rfl) (by omega) (i := (i : Int)) (by omega) (by omega) fun y hy => ?_
    obtain ⟨z, h1, h2, h3⟩ := getFld hallp hallu hx hy
    refine firebreakref18_samePart_call (samePart_ok h2 h3 (hn.log z (List.mem_of_getElem? h1)) ?_)
    rw [if_neg (by simp)]
    exact hK k rfl
  · rintro k rfl
    refine forI (n := s.procs.length) (by omega) (by omega) (fun _ h' => h' = k) rfl ?_ ?_
    · rintro i hi k2 rfl K hK
      refine Rs.get (sh := sh_api_Process) hqs (fun _ => rfl) (by omega) (i := (i : Int)) (by omega) (by omega) fun x hx => ?_
      refine Rs.get (sh := sh_api_Process) hvs (fun _ => rfl) (by omega) (i := (i : Int)) (by omega) (by omega) fun y hy => ?_
      obtain ⟨z, h1, h2, h3⟩ := getFld hallq hallv hx hy
      refine firebreakref18_sameProcess_call (sameProcess_ok h2 h3 (hn.lanes z (List.mem_of_getElem? h1)) ?_)
      rw [if_neg (by simp)]
      exact hK k2 rfl
    · rintro k2 rfl; exact hq

end
end Lf

/-
  The answers that the document fixes.
-/
namespace Lf
open Go Go.Proofs

theorem MayIs.uniq {c : PCfg} {s : PState} {e e' : Int} (h : MayIs c s e) (h' : MayIs c s e') : e = e' := by
  rcases h with ⟨h1, rfl⟩ | ⟨h1, h2⟩
  · rcases h' with ⟨_, rfl⟩ | ⟨h3, _⟩
    · rfl
    · exact absurd h3 h1
  · rcases h' with ⟨h3, _⟩ | ⟨_, h4⟩
    · exact absurd h1 h3
    · rcases h2 with ⟨rfl, a⟩ | ⟨rfl, a⟩ <;> rcases h4 with ⟨rfl, b⟩ | ⟨rfl, b⟩
      · rfl
      · exact absurd a b
      · exact absurd b a
      · rfl

theorem SnapErr.uniq {bs : List UInt8} {e e' : Int} {p p' : Nat} (h : SnapErr bs e p) (h' : SnapErr bs e' p') : e = e' ∧ p = p' := by
  rcases h with h | ⟨c, s, h, rfl, hm⟩ <;> rcases h' with h' | ⟨c', s', h', rfl, hm'⟩
  · rw [h] at h'; cases h'; exact ⟨rfl, rfl⟩
  · rw [h] at h'; cases h'
  · rw [h] at h'; cases h'
  · rw [h] at h'; cases h'
    exact ⟨hm.uniq hm', rfl⟩

/-- Bytes that are right are not wrong. -/
theorem SnapErr.not_ok {bs : List UInt8} {e : Int} {p : Nat} {c : PCfg} {s : PState} (h : SnapErr bs e p) (he : e ≠ 0) (hw : whole1 snapD bs = .ok (c, s)) (h0 : (cfgE c).1 = 0) (hM : MayP c s) : False := by
  rcases h with h | ⟨c', s', h, rfl, hm⟩
  · rw [h] at hw; cases hw
  · rw [h] at hw; cases hw
    exact he (hm.uniq (.inr ⟨h0, .inl ⟨rfl, hM⟩⟩))

theorem Few.le {c : PCfg} (h : CfgV c) : CfgLe c := by
  obtain ⟨_, h2⟩ := (cfgV_iff (mayP_lab c)).2 h
  obtain ⟨e1, _, e3, _, _, _, e7, _, _, e10, e11⟩ := cfgP_zero.1 h2
  have e1' := (mayP_zero.1 e1).2.1
  exact ⟨by omega, by omega, by omega, fun p hp => by have := ((codeP_zero ⟨e7.1, e7.2⟩).1 (e11 p hp).2).1; omega⟩

theorem StateV.le {c : PCfg} {s : PState} (few : Few c) (h : StateV c s) : StLe s := by
  obtain ⟨_, a1, a2, _⟩ := h
  obtain ⟨b1, b2⟩ := manyV_of a1
  obtain ⟨b3, b4⟩ := manyV_of a2
  have f1 := few.nl
  have f2 := few.np
  have f3 := few.locks
  refine ⟨by omega, by omega, fun x hx => ?_, fun x hx => ?_⟩
  · obtain ⟨_, ⟨⟨_, h2⟩, _⟩, _, _, _, ⟨xs, g1, g2, g3⟩, g4⟩ := b2 x hx
    rw [List.nil_append] at g1
    have g3 := (manyV_all (V := LockV (c.procs.length : Int)) xs []).1 g3
    have hq : x.queues.length = xs.length := by rw [← g1, List.length_zip, g4]; simp
    have h2 : ((x.log.length : Nat) : Int) < 65536 := h2
    refine ⟨by omega, by omega, by omega, fun q hq => ?_⟩
    obtain ⟨z, hz1, hz2⟩ := mem_zip g4 q hq
    rw [g1] at hz1
    obtain ⟨_, ⟨⟨_, h3⟩, _⟩, _⟩ := g3 z hz1
    have h3 : ((z.2.length : Nat) : Int) < 256 := h3
    rw [← hz2]
    omega
  · obtain ⟨_, _, _, _, _, _, _, g1, _⟩ := b4 x hx
    obtain ⟨g2, g3⟩ := manyV_of g1
    refine ⟨by omega, fun l hl => ?_⟩
    obtain ⟨⟨⟨_, h1⟩, _⟩, _, ⟨⟨_, h2⟩, _⟩, _⟩ := g3 l hl
    have h1 : ((l.values.length : Nat) : Int) < 256 := h1
    have h2 : ((l.waiters.length : Nat) : Int) < 256 := h2
    exact ⟨by omega, by omega⟩

def plainC : PCfg := ⟨[0], [0], 1, 1, 0, 0, [⟨0, []⟩]⟩
def plainLane : PLane := ⟨[], [], 0, 0⟩
def plainS : PState := ⟨0, [⟨0, [], 0, 0, [], []⟩], [⟨0, 0, [0, 0, 0, 0, 0, 0, 0, 0], 0, 0, false, 0, [plainLane, plainLane]⟩]⟩

theorem one_get {α : Type} {x y : α} {i : Nat} (h : [x][i]? = some y) : i = 0 ∧ y = x := by
  cases i with
  | zero => simp at h; exact ⟨rfl, h.symm⟩
  | succ i => simp at h

theorem plain_cfg : (cfgE plainC).1 = 0 := by decide

theorem plain_may : MayP plainC plainS := by
  refine ⟨⟨⟨by decide, by decide⟩, rfl, rfl⟩, fun i x hx => ?_, fun p x y hx hy => ?_, ?_, ?_, ?_⟩
  · obtain ⟨rfl, rfl⟩ := one_get hx
    exact ⟨⟨by decide, by decide, by decide⟩, trivial, ⟨by decide, by decide⟩, ⟨by decide, by decide⟩, by decide, by decide, by decide, fun p hp => by cases hp⟩
  · obtain ⟨rfl, rfl⟩ := one_get hx
    obtain ⟨_, rfl⟩ := one_get hy
    refine ⟨by decide, by decide, rfl, by decide, by decide, by decide, by decide, by decide, fun i l hl => ?_, fun e => absurd e (by decide), fun e => absurd e (by decide), fun e => absurd e (by decide), fun e => absurd e (by decide)⟩
    have : l = plainLane := by
      have := List.mem_of_getElem? hl
      simpa using this
    subst this
    refine ⟨by decide, ⟨by decide, by decide⟩, ⟨by decide, by decide⟩, fun hu => ?_⟩
    rcases hu with hu | hu | hu
    · exact absurd rfl hu
    · exact absurd hu (by decide)
    · exact absurd hu (by decide)
  · intro i x hx k q hq
    obtain ⟨rfl, rfl⟩ := one_get hx
    simp at hq
  · intro r x y hx hy i l hl w hw
    obtain ⟨rfl, rfl⟩ := one_get hx
    have : l = plainLane := by
      have := List.mem_of_getElem? hl
      simpa using this
    subst this
    cases hw
  · intro p x hx
    obtain ⟨rfl, rfl⟩ := one_get hx
    decide

theorem plain_len : (snapB plainC plainS).length = 147 := by decide +kernel
theorem plain_back : whole1 snapD (snapB plainC plainS) = .ok (plainC, plainS) := by kernel_rfl
theorem plain_bad : whole1 snapD [70, 66, 83, 78, 2] = .error (4, 4) := by kernel_rfl

end Lf

/-
  The answers that the document fixes: the program gives them.
-/
namespace Lf
open Go Go.Proofs

theorem newB3 {h : Hp} {cs : List Value} {K : Addr → Hp → Prop} (hk : ∀ b h', h ≤ h' → Blk h' b cs → K ⟨b, 0, none⟩ h') : NewW cs K h := fun b t hn => hk b _ (set_new hn) ⟨t, set_self⟩

/-- A row that lies in a block. -/
theorem Blk.rows {α : Type} {h : Hp} {b : Nat} {cs : List Value} {sz : Nat} {enc : α → List Value} (k : Blk h b cs) (xs : List α) {n m : Nat} (hc : cs = xs.flatMap enc) (hn : n = xs.length) (henc : ∀ x, (enc x).length = sz) : Rw h sz enc ⟨some ⟨b, 0, none⟩, n, m⟩ xs := by
  refine ⟨hn, by rw [flat_len henc], .inr ⟨_, rfl, ?_⟩⟩
  refine k.ldIs (off := 0) (n := cs.length) ?_
  rw [List.drop_zero, List.take_length, hc]

theorem nil_rows {α : Type} {h : Hp} {sz : Nat} {enc : α → List Value} : Rw h sz enc ⟨none, 0, 0⟩ ([] : List α) := ⟨rfl, by simp, .inl (by simp)⟩

def lane0 : S_api_Lane := ⟨⟨none, 0, 0⟩, ⟨none, 0, 0⟩, 0, 0⟩

theorem lane0_at {h : Hp} : LaneAt h lane0 plainLane := ⟨nil_rows, ⟨[], nil_rows, rfl⟩, rfl, rfl⟩

theorem plain_ok {P : Program} {h : Hp} {Q : S_api_Config → S_api_State → Hp → Prop} (hq : ∀ x y h', h ≤ h' → CfgAt h' x plainC → StateAt h' y plainS → Q x y h') : firebreaklaw22_plain_w P Q h := by
  unfold firebreaklaw22_plain_w
  refine newB3 fun a h1 l1 k1 => newB3 fun a1 h2 l2 k2 => newB3 fun a2 h3 l3 k3 => newB3 fun a3 h4 l4 k4 => newB3 fun a4 h5 l5 k5 => newB3 fun a5 h6 l6 k6 => ?_
  have q1 := (((((k1.le l2).le l3).le l4).le l5).le l6)
  have q2 := ((((k2.le l3).le l4).le l5).le l6)
  have q3 := (((k3.le l4).le l5).le l6)
  have q4 := ((k4.le l5).le l6)
  have q5 := (k5.le l6)
  have hle : h ≤ h6 := Hp.le_trans l1 (Hp.le_trans l2 (Hp.le_trans l3 (Hp.le_trans l4 (Hp.le_trans l5 l6))))
  refine hq _ _ h6 hle ⟨?_, ?_, rfl, rfl, rfl, rfl, [⟨0, ⟨none, 0, 0⟩⟩], ?_, ⟨rfl, [], nil_rows, rfl⟩, trivial⟩ ⟨rfl, ⟨[⟨0, ⟨none, 0, 0⟩, 0, 0, ⟨none, 0, 0⟩, ⟨none, 0, 0⟩⟩], ?_, ⟨rfl, ⟨[], nil_rows, rfl⟩, rfl, rfl, nil_rows, [], nil_rows, trivial⟩, trivial⟩,
    [⟨0, 0, 0, 0, 0, 0, 0, 0, 0, 0, 0, 0, false, 0, ⟨some ⟨a4, 0, none⟩, 2, 2⟩⟩], ?_, ⟨rfl, rfl, rfl, rfl, rfl, rfl, rfl, [lane0, lane0], ?_, lane0_at, lane0_at, trivial⟩, trivial⟩
  · exact q1.rows [(0 : Int)] rfl rfl fun _ => rfl
  · exact q2.rows [(0 : Int)] rfl rfl fun _ => rfl
  · exact q3.rows [(⟨0, ⟨none, 0, 0⟩⟩ : S_api_Proc)] rfl rfl fun _ => rfl
  · exact q4.rows [(⟨0, ⟨none, 0, 0⟩, 0, 0, ⟨none, 0, 0⟩, ⟨none, 0, 0⟩⟩ : S_api_Part)] rfl rfl fun _ => rfl
  · exact k6.rows [(⟨0, 0, 0, 0, 0, 0, 0, 0, 0, 0, 0, 0, false, 0, ⟨some ⟨a4, 0, none⟩, 2, 2⟩⟩ : S_api_Process)] rfl rfl fun _ => rfl
  · exact q5.rows [lane0, lane0] rfl rfl fun _ => rfl

theorem bytes_lit {bs : List UInt8} : bs.flatMap eB = bs.map fun b => .int .u8 (b.toNat : Int) := byte_flat bs

set_option maxRecDepth 20000 in
theorem awake22_ok {h : Hp} {Q : Bool → Hp → Prop} (hq : ∀ h', h ≤ h' → Q true h') : firebreaklaw22_awake_w Try.prog Q h := by
  unfold firebreaklaw22_awake_w
  refine firebreaklaw22_plain_call (plain_ok fun x y h1 l1 cx sy => ?_)
  have hev : (evs plainS).length ≤ 1152921504606846976 := by decide +kernel
  refine snap_Encode_call (snapEncode_ok cx sy (fun l hl => by simp [plainC] at hl; subst hl; exact ⟨by decide, by decide⟩) hev (fun _ _ => by rw [plain_len]; decide) (fun e h2 _ he hm => ?_) fun _ _ out h2 l2 o2 => ?_)
  · exact absurd (hm.uniq (.inr ⟨plain_cfg, .inl ⟨rfl, plain_may⟩⟩)) he
  have ob := o2.rw eB_len
  have hol : out.len = 147 := by rw [ob.1, plain_len]
  refine snap_Decode_call (snapDecode_ok ob o2.2.1 (fun e p h3 _ he hs => (hs.not_ok he plain_back plain_cfg plain_may).elim) fun u v c s B1 B2 h3 l3 hw _ _ oc os _ _ => ?_)
  rw [plain_back] at hw
  cases hw
  refine mark_ok [70, 66, 83, 78, 2] rfl rfl fun am h5 l5 bm => ?_
  refine snap_Decode_call (snapDecode_ok bm (by simp) (fun e p h6 l6 he hs => ?_) fun u' v' c s B1 B2 h6 _ hw _ _ _ _ _ _ => by rw [plain_bad] at hw; cases hw)
  obtain ⟨rfl, rfl⟩ := hs.uniq (.inl plain_bad)
  refine letW (letW (letW ?_))
  rw [hol]
  have l13 := Hp.le_trans l2 (Hp.le_trans l3 (Hp.le_trans l5 l6))
  have l36 := Hp.le_trans l5 l6
  have hcl : CfgLe plainC := ⟨by decide, by decide, by decide, fun p hp => by simp [plainC] at hp; subst hp; decide⟩
  have hsl : StLe plainS := by
    refine ⟨by decide, by decide, fun x hx => ?_, fun x hx => ?_⟩
    · simp [plainS] at hx; subst hx
      exact ⟨by decide, by decide, by decide, fun q hq => by cases hq⟩
    · simp [plainS] at hx; subst hx
      refine ⟨by decide, fun l hl => ?_⟩
      simp at hl; subst hl
      exact ⟨by decide, by decide⟩
  refine ⟨fun _ => firebreakref14_Same_call (same14_ok (cx.mono l13) (oc.rd.mono l36) hcl ?_), fun e => (by simp at e)⟩
  refine letW ⟨fun _ => firebreakref18_Same_call (same18_ok (sy.mono l13) (os.rd.mono l36) hsl ?_), fun e => (by simp at e)⟩
  refine letW (letW (letW ?_))
  exact hq h6 (Hp.le_trans l1 l13)

end Lf

/-
  From a call's text to a law's statement.
-/
namespace Lf
open Go Go.ChangeShapes Go.WideShapes Go.ChangeAt Go.RowKit

/-- All that is in memory. -/
def whole (W : World) : Hp := fun b => W.heap[b]?

theorem whole_sub (W : World) : Sub (whole W) W := fun _ _ e => e

theorem hcell_whole (W : World) (a : Addr) : hcell (whole W) a = W.cell? a := rfl

theorem below_of_step {W W' : World} {h' : Hp} (hle : whole W ≤ h') (st : Step (whole W) h' W W') : Below W.heap.size W W' :=
  ⟨st.os, st.tape, st.output, st.size, fun k hk => by
    cases e : W.heap[k]? with
    | some o => exact st.sub _ _ (hle _ _ e)
    | none => simp at e; omega⟩

theorem trodAll_stays {H : Type} {enc : TypeId × Value → H} {P : Program} (hl : laidOutB P = true) {W W' : World} {sp : Nat → Bool} (hb : Below W.heap.size W W') : ∀ {ts : List TypeId} {vs : List Value} {ds : List (DataW H)} {ps : List MemPlace},
    (∀ t ∈ ts, P.readableRec t = true ∧ t < P.types.size) → DataW.TrodAll enc P W 0 (fun _ => true) true ts vs ds ps → (∀ x ∈ ps, x.block < W.heap.size) → (∀ x ∈ ps, sp x.block = true) → DataW.TrodAll enc P W' 0 sp true ts vs ds ps
  | [], _, _, _, _, h, _, _ => by
    obtain ⟨rfl, rfl, rfl⟩ := trodAll_nil h
    exact trodAll_mk0
  | t :: ts, _, _, _, hr, h, hlt, hs => by
    obtain ⟨v, vs, d, ds, p, q, rfl, rfl, rfl, h1, h2⟩ := trodAll_cons h
    obtain ⟨hr1, hr2⟩ := hr t (List.mem_cons_self ..)
    exact ⟨p, q, WideElems.Trod_stays hl hr1 hr2 h1 (fun x hx => hb.same (hlt x (List.mem_append_left _ hx))) (fun x hx => hs x (List.mem_append_left _ hx)),
      trodAll_stays hl hb (fun t ht => hr t (List.mem_cons_of_mem _ ht)) h2 (fun x hx => hlt x (List.mem_append_right _ hx)) (fun x hx => hs x (List.mem_append_right _ hx)), rfl⟩

theorem law_post {H : Type} {enc : TypeId × Value → H} {P : Program} {f : Func} {s : ChangeSpec} {W W' : World} {h' : Hp} {args : Array Value} {ds gs : List (DataW H)} {before : List MemPlace} {t : TypeId} (hl : laidOutB P = true)
    (hrd : ∀ t ∈ f.params.toList, P.readableRec t = true ∧ t < P.types.size) (hvars : s.vars = []) (hres : f.resultTypes = #[t]) (ht : P.underlying t = some .bool)
    (hfn : gs = [] → s.fn H (ds ++ gs) = { results := [.lit (.bool true)], args := ds }) (hW : DataW.Whole enc P f.params.toList s.vars false W args.toList ds gs before) (hle : whole W ≤ h') (st : Step (whole W) h' W W') :
    s.post enc P f false true false false W args (.bool true) W' := by
  have hb := below_of_step hle st
  have hlt : ∀ p ∈ before, p.block < W.heap.size := fun p hp => hW.lt p hp
  have hW' := hW
  obtain ⟨p, q, hA, hV, rfl, hfz, hnd⟩ := hW'
  rw [hvars] at hV
  obtain ⟨rfl, rfl⟩ := trodVars_none hV
  rw [List.append_nil] at hlt
  have hsp := hfn rfl
  refine ⟨ds, [], p ++ [], [], p, [], hW, ?_, ?_, ?_, Below.frame hb _, fun e => (by cases e)⟩
  · rw [hsp, hres]
    exact trodAll_mk1 (shut_bool ht true)
  · rw [hsp]
    exact trodAll_stays hl hb hrd hA hlt (fun x hx => by simpa using hlt x hx)
  · rw [hsp, hvars]
    exact rfl

theorem law_lifted {H : Type} {enc : TypeId × Value → H} {C : Checked} {os : Os} {f : FuncId} {fn : Func} {s : ChangeSpec} {t : TypeId} (own : ownKnob C.prog.godebug = none) (started : os.Started) (noInit : C.prog.inits.idxOf? f = none) (hf : C.prog.funcs[f]? = some fn)
    (witness : ∃ (w : World) (tape : Tape) (i : Input), w.os = os ∧ (w.forCall tape i).Shaped C.prog ∧ i.vars = [] ∧ Input.okWide C.prog (w.forCall tape i) .any w.heap.size f i ∧
      s.pre6 enc C.prog fn [] false (w.forCall tape i).memory i.args ∧ ({} : Assume).holds C.prog (lone (Frame.enter C.prog f i.args .normal) [] (w.forCall tape i)))
    (hl : laidOutB C.prog = true) (hrd : ∀ t ∈ fn.params.toList, C.prog.readableRec t = true ∧ t < C.prog.types.size) (hvars : s.vars = []) (hres : fn.resultTypes = #[t]) (ht : C.prog.underlying t = some .bool)
    (walk : ∀ (W : World) (base : Nat) (args : Array Value) (ds : List (DataW H)) (p : List MemPlace), (∀ (j : Nat) t v, fn.params[j]? = some t → args[j]? = some v → Value.okWide C.prog W .any base t v) → DataW.TrodAll enc C.prog W 0 (fun _ => true) true fn.params.toList args.toList ds p →
      s.fn H ds = { results := [.lit (.bool true)], args := ds } ∧ CallT C.prog f args.toList shBool (fun r h' => r = true ∧ whole W ≤ h') (whole W)) :
    ReturnsInHanded {} C os f .any (s.pre6 enc C.prog fn [] false) (s.post enc C.prog fn false true false false) := by
  refine returnsInHanded_of_change own started noInit hf witness ?_
  intro W base args ds gs before hval hW hcnd _
  have hW' := hW
  obtain ⟨p, q, hA, hV, _, hfz, hnd⟩ := hW'
  obtain ⟨hsp, hc⟩ := walk W base args ds p hval hA
  have hc' := hc W (whole_sub W)
  simp only [Array.toArray_toList] at hc'
  refine hc'.mono fun e W' hh => ?_
  obtain ⟨v, h', rfl, ⟨x, rfl, rfl, hle⟩, hst⟩ := hh
  exact ⟨_, rfl, law_post hl hrd hvars hres ht (fun e => by rw [e, List.append_nil]; exact hsp) hW hle hst⟩

/-- The same, of arguments whose sizes are known. -/
theorem law_liftedS {H : Type} {enc : TypeId × Value → H} {C : Checked} {os : Os} {f : FuncId} {fn : Func} {s : ChangeSpec} {t : TypeId} (own : ownKnob C.prog.godebug = none) (started : os.Started) (noInit : C.prog.inits.idxOf? f = none) (hf : C.prog.funcs[f]? = some fn)
    (witness : ∃ (w : World) (tape : Tape) (i : Input), w.os = os ∧ (w.forCall tape i).Shaped C.prog ∧ i.vars = [] ∧ Input.okWide C.prog (w.forCall tape i) .any w.heap.size f i ∧
      s.pre6 enc C.prog fn [] false (w.forCall tape i).memory i.args ∧ ({} : Assume).holds C.prog (lone (Frame.enter C.prog f i.args .normal) [] (w.forCall tape i)))
    (hl : laidOutB C.prog = true) (hrd : ∀ t ∈ fn.params.toList, C.prog.readableRec t = true ∧ t < C.prog.types.size) (hvars : s.vars = []) (hres : fn.resultTypes = #[t]) (ht : C.prog.underlying t = some .bool)
    (walk : ∀ (W : World) (base : Nat) (args : Array Value) (ds : List (DataW H)) (p : List MemPlace), (∀ (j : Nat) t v, fn.params[j]? = some t → args[j]? = some v → Value.okWide C.prog W .any base t v) → DataW.TrodAll enc C.prog W 0 (fun _ => true) true fn.params.toList args.toList ds p →
      (DataW.weightsEach C.prog fn.params.toList ds).all (· ≤ reachBytes) = true →
      s.fn H ds = { results := [.lit (.bool true)], args := ds } ∧ CallT C.prog f args.toList shBool (fun r h' => r = true ∧ whole W ≤ h') (whole W)) :
    ReturnsInHanded {} C os f .any (s.pre6 enc C.prog fn [] false) (s.post enc C.prog fn false true false false) := by
  refine returnsInHanded_of_change_sized own started noInit hf witness ?_
  intro W base args ds gs before hval hW hcnd hsz _
  have hW' := hW
  obtain ⟨p, q, hA, hV, _, hfz, hnd⟩ := hW'
  have hgs : gs = [] := by
    rw [hvars] at hV
    exact (trodVars_none hV).1
  subst hgs
  have hvt : s.plain.varTypes C.prog = [] := by
    unfold ChangeSpec.plain DataSpec.varTypes
    rw [hvars]
    rfl
  rw [hvt, List.append_nil, List.append_nil] at hsz
  obtain ⟨hsp, hc⟩ := walk W base args ds p hval hA hsz
  have hc' := hc W (whole_sub W)
  simp only [Array.toArray_toList] at hc'
  refine hc'.mono fun e W' hh => ?_
  obtain ⟨v, h', rfl, ⟨x, rfl, rfl, hle⟩, hst⟩ := hh
  exact ⟨_, rfl, law_post hl hrd hvars hres ht (fun e => by rw [e, List.append_nil]; exact hsp) hW hle hst⟩


/-- A slice that is handed in. -/
theorem slice_in {H : Type} {enc : TypeId × Value → H} {P : Program} {W : World} {base : Nat} {t e : TypeId} {v : Value} {d : DataW H} {ps : List MemPlace} {α : Type} (ht : P.underlying t = some (.slice e)) (en : α → List Value) (good : α → Prop)
    (hel : ∀ fuel cs y, cs.length = P.cellsOf e → DataW.trod enc P W 0 (fun _ => true) true fuel e cs = some y → ∃ x, cs = en x ∧ good x) (henc : ∀ x, (en x).length = P.cellsOf e) (hv : Value.okWide P W .any base t v)
    (h : DataW.Trod enc P W 0 (fun _ => true) true t v d ps) : ∃ (l : Sl) (xs : List α), v = l.v ∧ Rw (whole W) (P.cellsOf e) en l xs ∧ l.len ≤ l.cap ∧ l.cap ≤ 9223372036854775807 ∧ (∀ x ∈ xs, good x) ∧ (l.len = 0 ∨ ∃ el sp, d = .slice el sp ∧ el.length = l.len) := by
  obtain ⟨a0, len0, cap0, rfl⟩ := okWide_slice ht hv
  obtain ⟨fuel, hf⟩ := h
  rcases DataW.trod_slice ht hf with ⟨h0, _⟩ | ⟨a, len, cap, elems, rest, n, _, h0, hd0, hb, hl, hm, hlen, hel', _, _⟩
  · simp [Value.cells] at h0
    obtain ⟨rfl, rfl, rfl⟩ := h0
    exact ⟨⟨none, 0, 0⟩, [], rfl, ⟨rfl, (by simp), .inl (by simp)⟩, Nat.le_refl _, (by simp), fun x hx => (by cases hx), .inl rfl⟩
  · simp [Value.cells] at h0
    obtain ⟨rfl, rfl, rfl⟩ := h0
    have each : ∀ i, i < len0 → ∃ x, good x ∧ LdIs (whole W) (a.add (i * P.cellsOf e)) (en x) := by
      intro i hi
      have h1 := hel' i hi
      have h2 : elems[i]? = some elems[i] := List.getElem?_eq_getElem (by omega)
      rw [h2] at h1
      cases hc : W.cells? 0 (a.add (i * P.cellsOf e)) (P.cellsOf e) with
      | none => rw [hc] at h1; cases h1
      | some cs =>
        rw [hc] at h1
        obtain ⟨_, hcl, hcc⟩ := World.cells?_some hc
        obtain ⟨x, hx, hg⟩ := hel n cs _ hcl h1
        refine ⟨x, hg, fun j v hj => ?_⟩
        have hjl : j < (en x).length := (List.getElem?_eq_some_iff.1 hj).1
        rw [hcell_whole, hcc j (by rw [← henc x]; exact hjl), hx]
        exact hj
    have build : ∀ m, m ≤ len0 → ∃ xs : List α, xs.length = m ∧ (∀ x ∈ xs, good x) ∧ ∀ i x, xs[i]? = some x → LdIs (whole W) (a.add (i * P.cellsOf e)) (en x) := by
      intro m
      induction m with
      | zero => intro _; exact ⟨[], rfl, fun x hx => (by cases hx), fun i x hx => (by simp at hx)⟩
      | succ m ih =>
        intro hm'
        obtain ⟨xs, h1, h2, h3⟩ := ih (by omega)
        obtain ⟨x, hg, hx⟩ := each m (by omega)
        refine ⟨xs ++ [x], by simp [h1], fun y hy => ?_, fun i y hy => ?_⟩
        · rcases List.mem_append.1 hy with hy | hy
          · exact h2 y hy
          · rw [List.mem_singleton.1 hy]; exact hg
        · by_cases hi : i < xs.length
          · rw [List.getElem?_append_left hi] at hy
            exact h3 i y hy
          · rw [List.getElem?_append_right (by omega)] at hy
            have : i - xs.length = 0 := by
              have := (List.getElem?_eq_some_iff.1 hy).1
              simp at this
              omega
            rw [this] at hy
            simp at hy
            subst hy
            have : i = m := by omega
            rw [this]
            exact hx
    obtain ⟨xs, h1, h2, h3⟩ := build len0 (Nat.le_refl _)
    refine ⟨⟨some a, len0, cap0⟩, xs, rfl, ⟨h1.symm, flat_len henc xs, .inr ⟨a, rfl, fun i v hv => ?_⟩⟩, hl, hm, h2, .inr ⟨_, _, (Prod.mk.inj hd0).1, by simp [hlen]⟩⟩
    obtain ⟨q, x, j, hq, hj, e1⟩ := flat_at henc xs i v hv
    rw [e1]
    rw [← add_add]
    exact h3 q x hq j v hj

theorem ints_in {H : Type} {enc : TypeId × Value → H} {P : Program} {W : World} {base : Nat} {t e : TypeId} {k : IntKind} {v : Value} {d : DataW H} {ps : List MemPlace} (ht : P.underlying t = some (.slice e)) (he : P.underlying e = some (.int k)) (hc : P.cellsOf e = 1) (hv : Value.okWide P W .any base t v)
    (h : DataW.Trod enc P W 0 (fun _ => true) true t v d ps) : ∃ (l : Sl) (xs : List Int), v = l.v ∧ Rs (whole W) (shInt k) 1 l xs ∧ l.len ≤ l.cap ∧ l.cap ≤ 9223372036854775807 ∧ ∀ x ∈ xs, (Lit.int k x).wf = true := by
  have key := slice_in (α := Int) ht (fun x => cellsL ((shInt k).enc x)) (fun x => (Lit.int k x).wf = true) (fun fuel cs y _ hy => ?_) (fun _ => by rw [hc]; rfl) hv h
  · rw [hc] at key
    obtain ⟨l, xs, h1, h2, h3, h4, h5, _⟩ := key
    exact ⟨l, xs, h1, h2, h3, h4, h5⟩
  · obtain ⟨n, hcs, _, hw⟩ := DataW.trod_int he hy
    exact ⟨n, hcs, hw⟩

theorem ints_inS {H : Type} {enc : TypeId × Value → H} {P : Program} {W : World} {base : Nat} {t e : TypeId} {k : IntKind} {v : Value} {d : DataW H} {ps : List MemPlace} (ht : P.underlying t = some (.slice e)) (he : P.underlying e = some (.int k)) (hc : P.cellsOf e = 1) (hv : Value.okWide P W .any base t v)
    (h : DataW.Trod enc P W 0 (fun _ => true) true t v d ps) : ∃ (l : Sl) (xs : List Int), v = l.v ∧ Rs (whole W) (shInt k) 1 l xs ∧ l.len ≤ l.cap ∧ l.cap ≤ 9223372036854775807 ∧ (∀ x ∈ xs, (Lit.int k x).wf = true) ∧ (l.len = 0 ∨ ∃ el sp, d = .slice el sp ∧ el.length = l.len) := by
  have key := slice_in (α := Int) ht (fun x => cellsL ((shInt k).enc x)) (fun x => (Lit.int k x).wf = true) (fun fuel cs y _ hy => ?_) (fun _ => by rw [hc]; rfl) hv h
  · rw [hc] at key
    exact key
  · obtain ⟨n, hcs, _, hw⟩ := DataW.trod_int he hy
    exact ⟨n, hcs, hw⟩

theorem inU_wf {x : Int} (h : (Lit.int .u64 x).wf = true) : 0 ≤ x ∧ x < 18446744073709551616 := by
  simp [Lit.wf, IntKind.min, IntKind.max, IntKind.signed, IntKind.bits] at h
  omega

theorem trod_fieldInt {H : Type} {enc : TypeId × Value → H} {P : Program} {W : World} {t : TypeId} {fs : Array Field} {fuel : Nat} {cs : List Value} {x : DataW H × List MemPlace} (ht : P.underlying t = some (.struct fs)) (h : DataW.trod enc P W 0 (fun _ => true) true fuel t cs = some x)
    {i : Nat} {f : Field} {k : IntKind} (hf : fs[i]? = some f) (hk : P.underlying f.type = some (.int k)) (hc : P.cellsOf f.type = 1) : ∃ n, cs[f.offset]? = some (.int k n) ∧ (Lit.int k n).wf = true := by
  obtain ⟨xs, n, _, _, hl, hlen, hfs⟩ := DataW.trod_struct ht h
  have h1 := hfs i f hf
  have hil : i < xs.length := by rw [hlen]; exact (Array.getElem?_eq_some_iff.1 hf).1
  rw [List.getElem?_eq_getElem hil, hc] at h1
  obtain ⟨m, hm, _, hw⟩ := DataW.trod_int hk h1
  refine ⟨m, ?_, hw⟩
  have : ((cs.drop f.offset).take 1)[0]? = some (.int k m) := by rw [hm]; rfl
  rw [List.getElem?_take] at this
  simpa using this

theorem inI_wf {x : Int} (h : (Lit.int .i64 x).wf = true) : -9223372036854775808 ≤ x ∧ x ≤ 9223372036854775807 := by
  simp [Lit.wf, IntKind.min, IntKind.max, IntKind.signed, IntKind.bits] at h
  omega

/-- How long a slice of that type may be. -/
theorem slice_size {H : Type} {P : Program} {ts : List TypeId} {ds : List (DataW H)} {j : Nat} {t e : TypeId} {d : DataW H} {l : Sl} {b : Nat} (h : (DataW.weightsEach P ts ds).all (· ≤ reachBytes) = true) (ht : ts[j]? = some t) (hd : ds[j]? = some d) (hu : P.underlying t = some (.slice e)) (hb : P.bytesOf e = b)
    (hs : l.len = 0 ∨ ∃ el sp, d = .slice el sp ∧ el.length = l.len) : l.len * b ≤ 140737488355328 := by
  rcases hs with h0 | ⟨el, sp, rfl, hl⟩
  · rw [h0]; omega
  · have h1 := sized_slice h ht hd hu
    rw [hb] at h1
    have h2 : el.length * b ≤ (el.length + sp.length) * b := Nat.mul_le_mul_right _ (by omega)
    rw [← hl]
    have h3 : reachBytes ≤ 140737488355328 := by decide
    omega

end Lf

