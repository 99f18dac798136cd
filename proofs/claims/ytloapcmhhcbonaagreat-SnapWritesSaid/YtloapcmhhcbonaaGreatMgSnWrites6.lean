/-
  Part 7 of the texts that the claim leans on.
-/
import Derived.ProofKit
import Derived.SizedLaws
import Derived.OpenShut
import Derived.Laws.IdiomStrings
import Derived.Test.YtloapcmhhcbonaaGreatMgSnWrites5
namespace Lf
open Go Go.Proofs
def LogR (c : PCfg) (s : PState) (i : Nat) (l : List PEntry) (k : Nat) (e : PEntry) : Prop :=
 (0 ≤ e.tick ∧ e.tick ≤ s.tick - 1) ∧ (∀ d, 0 < k → l[k - 1]? = some d → d.tick ≤ e.tick) ∧ ofP c e.proc i
def OwnR (c : PCfg) (s : PState) (i : Nat) (z : PPart) (k : Nat) (o : Int) : Prop :=
 (o = -1 ∨ ofR c s o i) ∧ ∀ q, z.queues[k]? = some q → (o = -1 → q = []) ∧ ∀ p ∈ q, ofR c s p i ∧ (stP s p fun z => z.state = 3) ∧ o ≠ p
section
variable {h : Hp} {b : Nat} {x : S_api_Config} {y : S_api_State} {c : PCfg} {s : PState}
theorem refEntry_ok (k : RM h b x y c s) {i : Nat} {l : List PEntry} {es : List S_api_Entry} {L : Sl} (hes : EntS h L es) (hmap : es.map entryOf = l) {j : Nat} {e : S_api_Entry} (he : es[j]? = some e) (hj : j < 4611686018427387904) {K : Bool → Prop} (hk : ∀ r, (r = true ↔ ¬ LogR c s i l j (entryOf e)) → K r) :
  ∀ r3 : Bool, (r3 = true ↔ 0 ≤ e.Tick ∧ e.Tick ≤ s.tick - 1) →
  ((((!(!r3)) && (decide ((j : Int) > (0 : Int)))) = true → (InB L.base L.len (IntKind.wrap .i64 ((j : Int) - (1 : Int))))) ∧ LdW (some ((!(!r3)) && (decide ((j : Int) > (0 : Int))))) (shInt .i64) h (Addr.add (sat L.base 3 (IntKind.wrap .i64 ((j : Int) - (1 : Int)))) 0) fun x5 =>
   LetW ((decide ((j : Int) > (0 : Int))) && (decide (e.Tick < x5))) fun y6 =>
   LetW ((!r3) || y6) fun y7 =>
   LetW (y7 || (decide (e.Proc < (0 : Int)))) fun y8 =>
   NilW (some (!y8)) (some ⟨b, 0, none⟩) fun p3 =>
   LdW (some (!y8)) shSl h (Addr.add (Addr.add p3 0) 6) fun x6 =>
   LetW (y8 || (decide (e.Proc ≥ ((x6.len : Nat) : Int)))) fun y9 =>
   NilW (some (!y9)) (some ⟨b, 0, none⟩) fun p4 =>
   LdW (some (!y9)) shSl h (Addr.add (Addr.add p4 0) 6) fun x7 =>
   (((!y9) = true → (InB x7.base x7.len e.Proc)) ∧ LdW (some (!y9)) (shInt .i64) h (Addr.add (sat x7.base 2 e.Proc) 0) fun x8 =>
   LetW (y9 || (x8 != (i : Int))) fun y10 => K y10)) := by
 intro r3 hr3
 have hB : LdIs h (Addr.add (Addr.add ⟨b, 0, none⟩ 0) 6) (cellsL (shSl.enc x.Procs)) := k.box.ldIs (off := 6) (n := 1) rfl
 obtain ⟨ps, hps, hall⟩ := k.cfg.procs
 have hlp : x.Procs.len = ps.length := hps.1
 have hjl := (List.getElem?_eq_some_iff.1 he).1
 rw [wrap64 (by omega) (by omega)]
 refine Rw.fldC hes (fun _ => rfl) (by omega) (sh := shInt .i64) (fun q => q.Tick) (fun _ => rfl) (0 : Int) (fun e => by simp at e; omega) fun (x5 : Int) hx5 => fun y6 hy6 => fun y7 hy7 => fun y8 hy8 => ?_
 have h7 : y7 = true ↔ ¬ ((0 ≤ e.Tick ∧ e.Tick ≤ s.tick - 1) ∧ ∀ d, 0 < j → l[j - 1]? = some d → d.tick ≤ e.Tick) := by
  subst hy7
  refine or_neg (y := !r3) (by rw [← hr3]; simp) fun hA => ?_
  have hr : r3 = true := hr3.2 hA
  subst hy6
  rw [hr] at hx5
  simp only [Bool.and_eq_true, decide_eq_true_eq]
  constructor
  ·rintro ⟨hj0, hlt⟩ hh
   obtain ⟨d, hd, hd2⟩ := hx5 (by simp; omega)
   have hd2 : x5 = d.Tick := hd2
   have hd' : es[j - 1]? = some d := by rw [← hd]; congr 1; omega
   have : d.Tick ≤ e.Tick := hh (entryOf d) (by omega) (by rw [← hmap, List.getElem?_map, hd']; rfl)
   omega
  ·intro hn
   refine Classical.byContradiction fun hcc => hn fun d hj0 hd => ?_
   obtain ⟨d', hd', hd2⟩ := hx5 (by simp; omega)
   have hd2 : x5 = d'.Tick := hd2
   have hd' : es[j - 1]? = some d' := by rw [← hd']; congr 1; omega
   rw [← hmap, List.getElem?_map, hd'] at hd
   cases hd
   show d'.Tick ≤ e.Tick
   omega
 refine notNil (ldC (sh := shSl) x.Procs hB fun y9 hy9 => notNil (ldC (sh := shSl) x.Procs hB ?_))
 refine Rw.fldC hps (fun _ => rfl) (by omega) (sh := shInt .i64) (fun q => q.Part) (fun _ => rfl) (0 : Int) (fun e => by subst hy9 hy8; simp at e; omega) fun (v : Int) hv => letW (hk _ ?_)
 unfold LogR
 rw [← and_assoc]
 subst hy9 hy8
 rw [Bool.or_assoc, Bool.or_assoc]
 refine or_neg h7 fun hA => ?_
 have e7 : y7 = false := by rw [← Bool.not_eq_true, h7]; exact fun hn => hn hA
 rw [e7] at hv
 unfold ofP
 simp only [entryOf, Bool.or_eq_true, decide_eq_true_eq, bne_iff_ne]
 constructor
 ·rintro hor ⟨h0, z, hz, hz2⟩
  obtain ⟨q, hq1, hq2, _⟩ := hall.get' hz
  have hlt := (List.getElem?_eq_some_iff.1 hq1).1
  obtain ⟨q', hq1', hq2'⟩ := hv (by simp; omega)
  rw [hq1] at hq1'; cases hq1'
  rcases hor with hor | hor | hor
  ·omega
  ·omega
  ·exact hor (by rw [hq2', hq2]; exact hz2)
 ·intro hn
  by_cases h0 : e.Proc < 0
  ·exact .inl h0
  by_cases h1 : e.Proc ≥ ((x.Procs.len : Nat) : Int)
  ·exact .inr (.inl h1)
  refine .inr (.inr fun hvi => hn ?_)
  obtain ⟨q, hq1, hq2⟩ := hv (by simp; omega)
  obtain ⟨z, hz1, hz2, _⟩ := hall.get hq1
  exact ⟨by omega, z, hz1, by rw [← hz2, ← hq2]; exact hvi⟩
set_option maxRecDepth 20000 in
theorem refPart_ok (k : RM h b x y c s) (hS : StLe s) {i : Nat} {z : PPart} (hi : s.parts[i]? = some z) {Q : Bool → Hp → Prop} (hq : ∀ r h', h ≤ h' → (r = true ↔ PartR c s i z) → Q r h') : firebreakref15_Machine_part_w Tryz.prog (some ⟨b, 0, none⟩) (i : Int) Q h := by
 unfold firebreakref15_Machine_part_w
 obtain ⟨ps0, hps0, hall0⟩ := k.st.parts
 obtain ⟨w, hw1, _⟩ := hall0.get' hi
 have hwl := (List.getElem?_eq_some_iff.1 hw1).1
 refine notNil (ld_at (sh := shSl) y.Parts (k.box.ldIs (off := 8) (n := 1) rfl) ?_)
 refine Rs.get (sh := sh_api_Part) hps0 (fun _ => rfl) (by omega) (by omega) (by omega) fun w' hw' => ?_
 have hw' : ps0[i]? = some w' := hw'
 rw [hw1] at hw'; cases hw'
 refine firebreakref15_Machine_Of_call (refOfs_ok k fun l h1 l1 hlen => ?_)
 have k1 := k.mono l1
 obtain ⟨z', hz', hw2⟩ := (hall0.imp fun _ _ e => PartAt.mono l1 e).get hw1
 rw [hi] at hz'; cases hz'
 obtain ⟨hzo, hzq, hzl⟩ := k.sizes.2.1 z (List.mem_of_getElem? hi)
 obtain ⟨-, ⟨hL0, hL8⟩, ⟨hG0, hG1⟩, -, ⟨hP1, hP32⟩, -⟩ := cfg_bounds k.ok
 obtain ⟨es, hes, hmap⟩ := hw2.log
 have hel : w.Log.len = es.length := hes.1
 have hxl : z.log.length = es.length := by rw [← hmap, List.length_map]
 have hol : w.Owners.len = z.owners.length := hw2.owners.1
 obtain ⟨qs, hqs, hallQ⟩ := hw2.queues
 have hql : w.Queues.len = qs.length := hqs.1
 have hql2 := hallQ.len
 have htk : y.Tick = s.tick := k.st.tick
 have hfl : x.Log = c.log := k.cfg.log
 rw [hw2.cursor, hw2.lost, hw2.forbidden, hlen]
 refine letW fun y1 hy1 => ?_
 have a1 : y1 = true ↔ ¬ (0 ≤ z.cursor ∧ (0 < z.cursor → z.cursor < manyP c i)) := by
  subst hy1
  simp only [Bool.or_eq_true, Bool.and_eq_true, decide_eq_true_eq]
  omega
 refine effI (fun r => r = true ↔ Cnt z.lost) false (fun _ hk => firebreakref15_counted_call (refCounted_ok hk)) fun r1 hr1 => fun y2 hy2 => ?_
 have a2 : y2 = true ↔ ¬ ((0 ≤ z.cursor ∧ (0 < z.cursor → z.cursor < manyP c i)) ∧ Cnt z.lost) := by subst hy2; exact or_not a1 hr1
 refine effI (fun r => r = true ↔ Cnt z.forbidden) false (fun _ hk => firebreakref15_counted_call (refCounted_ok hk)) fun r2 hr2 => fun y3 hy3 => ?_
 have a3 : y3 = true ↔ ¬ (((0 ≤ z.cursor ∧ (0 < z.cursor → z.cursor < manyP c i)) ∧ Cnt z.lost) ∧ Cnt z.forbidden) := by subst hy3; exact or_not a2 hr2
 refine notNil (ldC (sh := shInt .i64) x.Log (k1.box.ldIs (off := 5) (n := 1) rfl) fun y4 hy4 => fun y5 hy5 => ?_)
 have a5 : y5 = true ↔ ¬ ((((0 ≤ z.cursor ∧ (0 < z.cursor → z.cursor < manyP c i)) ∧ Cnt z.lost) ∧ Cnt z.forbidden) ∧ (0 < z.lost → c.log ≤ z.log.length)) := by
  subst hy5
  refine or_neg a3 fun _ => ?_
  subst hy4
  simp only [Bool.and_eq_true, decide_eq_true_eq]
  omega
 dsimp only
 by_cases hy5' : y5 = true
 ·rw [if_pos hy5']
  refine hq _ _ l1 ⟨fun e => (by cases e), fun hh => ?_⟩
  exact absurd ⟨⟨⟨hh.1, hh.2.1⟩, hh.2.2.1⟩, hh.2.2.2.1⟩ (a5.1 hy5')
 rw [if_neg hy5']
 obtain ⟨⟨⟨c1, c2⟩, c3⟩, c4⟩ := Classical.not_not.1 fun hn => hy5' (a5.2 hn)
 have hP : PartR c s i z ↔ (∀ (k : Nat) e, z.log[k]? = some e → LogR c s i z.log k e) ∧ ∀ (k : Nat) o, z.owners[k]? = some o → OwnR c s i z k o :=
  ⟨fun hh => hh.2.2.2.2, fun hh => ⟨c1, c2, c3, c4, hh⟩⟩
 refine forI (n := es.length) (by omega) (by omega) (fun j h' => h' = h1 ∧ ∀ (k : Nat) e, k < j → z.log[k]? = some e → LogR c s i z.log k e) ⟨rfl, fun _ _ hj => by omega⟩ ?_ ?_
 ·rintro j hj h2 ⟨rfl, hI⟩ K hK
  refine Rs.get (sh := sh_api_Entry) hes (fun _ => rfl) (by omega) (by omega) (by omega) fun e he => ?_
  have he : es[j]? = some e := he
  have hE : z.log[j]? = some (entryOf e) := by rw [← hmap, List.getElem?_map, he]; rfl
  refine notNil (ld_at (sh := shInt .i64) y.Tick (k1.box.ldIs (off := 7) (n := 1) rfl) ?_)
  have ht := k.sizes.1.1
  rw [htk, wrap64 (by omega) (by omega)]
  refine firebreakref15_within_call (refWithin15_ok fun r3 hr3 => ?_)
  refine refEntry_ok k1 hes hmap he (by omega) (fun y10 hy10 => ?_) r3 hr3
  by_cases hy : y10 = true
  ·rw [if_pos hy]
   exact hq _ _ l1 ⟨fun e => (by cases e), fun hh => absurd ((hP.1 hh).1 j _ hE) (hy10.1 hy)⟩
  ·rw [if_neg hy]
   refine hK _ ⟨rfl, fun m e' hm he' => ?_⟩
   by_cases hmj : m < j
   ·exact hI m e' hmj he'
   ·have : m = j := by omega
    subst this
    rw [hE] at he'; cases he'
    exact Classical.not_not.1 fun hn => hy (hy10.2 hn)
 ·rintro h2 ⟨rfl, hI⟩
  have hLog : ∀ (k : Nat) e, z.log[k]? = some e → LogR c s i z.log k e := fun k e he => hI k e (by have := (List.getElem?_eq_some_iff.1 he).1; omega) he
  refine forI (n := z.owners.length) (by omega) (by omega) (fun j h' => h' = h2 ∧ ∀ (k : Nat) o, k < j → z.owners[k]? = some o → OwnR c s i z k o) ⟨rfl, fun _ _ hj => by omega⟩ ?_ ?_
  ·rintro j hj h3 ⟨rfl, hI2⟩ K hK
   refine Rs.get (sh := shInt .i64) hw2.owners (fun _ => rfl) (by omega) (by omega) (by omega) fun (o : Int) ho => ?_
   have ho : z.owners[j]? = some o := ho
   have hgo : ∀ {cnd : Bool} {K' : Int → Prop}, K' o → ((cnd = true → (InB w.Owners.base w.Owners.len (j : Int))) ∧ LdW (some cnd) (shInt .i64) h3 (sat w.Owners.base 1 (j : Int)) K') := fun {cnd} {K'} hk => by
    obtain ⟨hin, v, hv, rfl⟩ := Rs.get (sh := shInt .i64) hw2.owners (fun _ => rfl) (by omega) (i := (j : Int)) (by omega) (by omega) (K := fun (v : Int) => v = o) fun (v : Int) hv => by
     have hv : z.owners[j]? = some v := hv
     rw [ho] at hv; exact (Option.some.inj hv).symm
    exact ⟨fun _ => hin, v, fun _ => hv, hk⟩
   have hjq : j < qs.length := by omega
   have hqj := List.getElem?_eq_getElem hjq
   generalize qs[j] = ql at hqj
   obtain ⟨q, hq1, hq2⟩ := hallQ.get hqj
   have hqlen : ql.len = q.length := hq2.1
   refine hgo ?_
   refine effI (fun r => r = true ↔ ofR c s o i) false (fun _ hk => firebreakref15_Machine_of_call (refOf_ok k1 hk)) fun r3 hr3 => fun y6 hy6 => ?_
   have a6 : y6 = true ↔ (o = -1 ∨ ofR c s o i) := by
    subst hy6
    by_cases ho1 : o = -1
    ·simp [ho1]
    ·have e : (o == (-1 : Int)) = false := by simpa using ho1
     rw [e] at hr3 ⊢
     rw [Bool.false_or, hr3 rfl]
     exact ⟨fun e => .inr e, fun e => e.resolve_left ho1⟩
   refine hgo ?_
   refine Rs.getC (sh := shSl) hqs ql (fun _ => rfl) (by omega) (fun _ => by omega) fun ql' hql' => fun y7 hy7 => fun y8 hy8 => ?_
   have a8 : y8 = true ↔ ¬ ((o = -1 ∨ ofR c s o i) ∧ (o = -1 → q = [])) := by
    subst hy8
    refine or_neg (y := !y6) (by rw [← a6]; simp) fun hA => ?_
    have e6 := a6.2 hA
    rw [e6] at hql'
    subst hy7
    by_cases ho1 : o = -1
    ·have hh := hql' (by simp [ho1])
     have hh : qs[j]? = some ql' := hh
     rw [hqj] at hh; cases hh
     simp only [ho1, beq_self_eq_true, Bool.true_and, decide_eq_true_eq, forall_const, ← List.length_eq_zero_iff]
     omega
    ·have e : (o == (-1 : Int)) = false := by simpa using ho1
     rw [e]
     exact ⟨fun e => (by cases e), fun hn => absurd (fun e => absurd e ho1) hn⟩
   dsimp only
   by_cases hy : y8 = true
   ·rw [if_pos hy]
    refine hq _ _ l1 ⟨fun e => (by cases e), fun hh => ?_⟩
    have := (hP.1 hh).2 j o ho
    exact absurd ⟨this.1, (this.2 q hq1).1⟩ (a8.1 hy)
   rw [if_neg hy]
   obtain ⟨d1, d2⟩ := Classical.not_not.1 fun hn => hy (a8.2 hn)
   have hfew := ((hS.log z (List.mem_of_getElem? hi)).2.2.2) q (List.mem_of_getElem? hq1)
   refine loopN (n := q.length) (by omega) (fun n h' => h' = h3 ∧ ∀ (m : Nat) p, m < n → q[m]? = some p → ofR c s p i ∧ (stP s p fun z => z.state = 3) ∧ o ≠ p) ⟨rfl, fun _ _ hm => by omega⟩ ?_
   rintro n hn h4 ⟨rfl, hI3⟩ K2 hK2
   have hgq : ∀ {K' : Sl → Prop}, K' ql → ((InB w.Queues.base w.Queues.len (j : Int)) ∧ LdW none shSl h4 (sat w.Queues.base 1 (j : Int)) K') := fun {K'} hk => by
    refine Rs.get (sh := shSl) hqs (fun _ => rfl) (by omega) (by omega) (by omega) fun v hv => ?_
    have hv : qs[j]? = some v := hv
    rw [hqj] at hv; cases hv
    exact hk
   refine hgq ?_
   by_cases hlt : n < q.length
   ·rw [if_pos (decide_eq_true (by omega))]
    refine hgq ?_
    refine Rs.get (sh := shInt .i64) hq2 (fun _ => rfl) (by omega) (by omega) (by omega) fun (p : Int) hp => ?_
    have hp : q[n]? = some p := hp
    refine firebreakref15_Machine_of_call (refOf_ok k1 fun r4 hr4 => ?_)
    refine notNil (ldC (sh := shSl) y.Procs (k1.box.ldIs (off := 9) (n := 1) rfl) ?_)
    obtain ⟨pp, hpp, hallp⟩ := k1.st.procs
    have hppl : y.Procs.len = pp.length := hpp.1
    have hpl2 := hallp.len
    have hpl3 := k.sizes.1.2.2
    refine Rw.fldC hpp (fun _ => rfl) (by omega) (sh := shInt .i64) (fun q => q.State) (fun _ => rfl) (0 : Int) (fun e => ?_) fun (v : Int) hv => fun y9 hy9 => ?_
    ·obtain ⟨⟨h0, u, hu, _⟩, _⟩ := hr4.1 (by simpa using e)
     have := (List.getElem?_eq_some_iff.1 hu).1
     omega
    have a9 : y9 = true ↔ ¬ (ofR c s p i ∧ stP s p fun z => z.state = 3) := by
     subst hy9
     refine or_neg (y := !r4) (by rw [← hr4]; simp) fun hA => ?_
     have := hr4.2 hA
     rw [this] at hv
     obtain ⟨u, hu, rfl⟩ := hv rfl
     obtain ⟨u', hu', hu2⟩ := hallp.get hu
     rw [bne_iff_ne, hu2.state]
     refine not_congr ⟨fun e => ⟨_, hu', e⟩, fun ⟨z1, hz1, hz2⟩ => ?_⟩
     rw [hu'] at hz1; cases hz1
     exact hz2
    refine hgo (letW ?_)
    have a10 : (y9 || (o == p)) = true ↔ ¬ ((ofR c s p i ∧ stP s p fun z => z.state = 3) ∧ o ≠ p) := or_neg a9 fun _ => by simp
    by_cases hy10 : (y9 || (o == p)) = true
    ·rw [if_pos hy10]
     refine hq _ _ l1 ⟨fun e => (by cases e), fun hh => ?_⟩
     obtain ⟨g1, g2, g3⟩ := (((hP.1 hh).2 j o ho).2 q hq1).2 p (List.mem_of_getElem? hp)
     exact absurd ⟨⟨g1, g2⟩, g3⟩ (a10.1 hy10)
    ·rw [if_neg hy10]
     obtain ⟨⟨g1, g2⟩, g3⟩ := Classical.not_not.1 fun hn => hy10 (a10.2 hn)
     refine hK2 hlt _ ⟨rfl, fun m p' hm hp' => ?_⟩
     by_cases hmn : m < n
     ·exact hI3 m p' hmn hp'
     ·have : m = n := by omega
      subst this
      rw [hp] at hp'; cases hp'
      exact ⟨g1, g2, g3⟩
   ·rw [if_neg (fun e => hlt (by have := of_decide_eq_true e; omega))]
    refine hK _ ⟨rfl, fun m o' hm ho' => ?_⟩
    by_cases hmj : m < j
    ·exact hI2 m o' hmj ho'
    ·have : m = j := by omega
     subst this
     rw [ho] at ho'; cases ho'
     refine ⟨d1, fun q' hq' => ?_⟩
     rw [hq1] at hq'; cases hq'
     refine ⟨d2, fun p hp => ?_⟩
     obtain ⟨m, hm⟩ := List.getElem?_of_mem hp
     exact hI3 m p (by have := (List.getElem?_eq_some_iff.1 hm).1; omega) hm
  ·rintro h3 ⟨rfl, hI2⟩
   refine hq _ _ l1 ⟨fun _ => hP.2 ⟨hLog, fun k o ho => hI2 k o (by have := (List.getElem?_eq_some_iff.1 ho).1; omega) ho⟩, fun _ => rfl⟩
end
end Lf

namespace Lf
open Go Go.Proofs
section
variable {h : Hp} {b : Nat} {x : S_api_Config} {y : S_api_State} {c : PCfg} {s : PState}
theorem refSizes_ok (cx : CfgAt h x c) (sy : StateAt h y s) (ok : (cfgE c).1 = 0) (hS : StLe s) {Q : Bool → Hp → Prop} (hq : ∀ r, (r = true ↔ SizesR c s) → Q r h) : firebreakref15_sizes_w Tryz.prog x y Q h := by
 unfold firebreakref15_sizes_w
 obtain ⟨ps, hps, hall⟩ := sy.parts
 obtain ⟨qs, hqs, hallq⟩ := sy.procs
 obtain ⟨cs, hcs, hallc⟩ := cx.procs
 have l1 := hall.len
 have l2 := hallq.len
 have l3 := hallc.len
 have e1 : y.Parts.len = ps.length := hps.1
 have e2 : y.Procs.len = qs.length := hqs.1
 have e3 : x.Procs.len = cs.length := hcs.1
 have e4 : x.Labels.len = c.labels.length := cx.labels.1
 obtain ⟨⟨hA1, hA8⟩, -, -, -, ⟨hP1, hP32⟩, -⟩ := cfg_bounds ok
 have s1 := hS.parts
 have s2 := hS.procs
 refine fun y1 hy1 => ?_
 have a1 : y1 = true ↔ ¬ (s.parts.length = c.labels.length ∧ s.procs.length = c.procs.length) := by
  subst hy1
  simp only [Bool.or_eq_true, bne_iff_ne]
  omega
 refine effI (fun r => r = true ↔ 0 ≤ s.tick ∧ s.tick ≤ 4611686018427387904) false (fun _ hk => firebreakref15_within_call (refWithin15_ok (sy.tick ▸ hk))) fun r hr => fun y2 hy2 => ?_
 have a2 : y2 = true ↔ ¬ ((s.parts.length = c.labels.length ∧ s.procs.length = c.procs.length) ∧ (0 ≤ s.tick ∧ s.tick ≤ 4611686018427387904)) := by subst hy2; exact or_not a1 hr
 dsimp only
 by_cases hy : y2 = true
 ·rw [if_pos hy]
  exact hq _ ⟨fun e => (by cases e), fun hh => absurd ⟨hh.1.2, hh.1.1⟩ (a2.1 hy)⟩
 rw [if_neg hy]
 obtain ⟨b1, b2⟩ := Classical.not_not.1 fun hn => hy (a2.2 hn)
 have hZ : SizesR c s ↔ (∀ x ∈ s.parts, (x.owners.length : Int) = c.locks ∧ (x.queues.length : Int) = c.locks ∧ (x.log.length : Int) ≤ c.log) ∧ ∀ x ∈ s.procs, x.lanes.length = c.labels.length + 1 ∧ ∀ l ∈ x.lanes, (l.values.length : Int) ≤ c.lane :=
  ⟨fun hh => hh.2, fun hh => ⟨⟨b2, b1⟩, hh⟩⟩
 rw [cx.locks, cx.log]
 refine forI (n := ps.length) (by omega) (by omega) (fun j h' => h' = h ∧ ∀ (k : Nat) z, k < j → s.parts[k]? = some z → (z.owners.length : Int) = c.locks ∧ (z.queues.length : Int) = c.locks ∧ (z.log.length : Int) ≤ c.log) ⟨rfl, fun _ _ hj => by omega⟩ ?_ ?_
 ·rintro j hj h2 ⟨rfl, hI⟩ K hK
  refine Rw.fld hps (fun _ => rfl) (by omega) (sh := shSl) (fun q => q.Owners) (fun _ => rfl) (by omega) (by omega) fun w hw => ?_
  have hw : ps[j]? = some w := hw
  obtain ⟨z, hz, hzw⟩ := hall.get hw
  have f1 : w.Owners.len = z.owners.length := hzw.owners.1
  obtain ⟨us, hus, hallu⟩ := hzw.queues
  have f2 : w.Queues.len = us.length := hus.1
  have f2' := hallu.len
  obtain ⟨es, hes, hmap⟩ := hzw.log
  have f3 : w.Log.len = es.length := hes.1
  have f3' : z.log.length = es.length := by rw [← hmap, List.length_map]
  have one : ∀ (g : S_api_Part → Sl) (off : Nat) (hg : ∀ x, ((cellsL (sh_api_Part.enc x)).drop off).take (cellsL (shSl.enc (g x))).length = cellsL (shSl.enc (g x))) {cnd : Bool} {K' : Sl → Prop}, K' (g w) →
    ((cnd = true → (InB y.Parts.base y.Parts.len (j : Int))) ∧ LdW (some cnd) shSl h2 (Addr.add (sat y.Parts.base 6 (j : Int)) off) K') := fun g off hg {cnd} {K'} hk => by
   obtain ⟨hin, v, hv, rfl⟩ := Rw.fld hps (fun _ => rfl) (by omega) (sh := shSl) g hg (i := (j : Int)) (by omega) (by omega) (K := fun v => v = g w) fun q hq => by
    have hq : ps[j]? = some q := hq
    rw [hw] at hq; cases hq; rfl
   exact ⟨fun _ => hin, _, fun _ => hv, hk⟩
  refine one (fun q => q.Queues) 5 (fun _ => rfl) (letW ?_)
  refine one (fun q => q.Log) 1 (fun _ => rfl) fun y3 hy3 => ?_
  have a3 : y3 = true ↔ ¬ ((z.owners.length : Int) = c.locks ∧ (z.queues.length : Int) = c.locks ∧ (z.log.length : Int) ≤ c.log) := by
   subst hy3
   simp only [Bool.or_eq_true, bne_iff_ne, decide_eq_true_eq]
   omega
  dsimp only
  by_cases hy3' : y3 = true
  ·rw [if_pos hy3']
   exact hq _ ⟨fun e => (by cases e), fun hh => absurd ((hZ.1 hh).1 z (List.mem_of_getElem? hz)) (a3.1 hy3')⟩
  ·rw [if_neg hy3']
   refine hK _ ⟨rfl, fun m z' hm hz' => ?_⟩
   by_cases hmj : m < j
   ·exact hI m z' hmj hz'
   ·have : m = j := by omega
    subst this
    rw [hz] at hz'; cases hz'
    exact Classical.not_not.1 fun hn => hy3' (a3.2 hn)
 ·rintro h2 ⟨rfl, hI⟩
  have hA : ∀ z ∈ s.parts, (z.owners.length : Int) = c.locks ∧ (z.queues.length : Int) = c.locks ∧ (z.log.length : Int) ≤ c.log := fun z hz => by
   obtain ⟨m, hm⟩ := List.getElem?_of_mem hz
   exact hI m z (by have := (List.getElem?_eq_some_iff.1 hm).1; omega) hm
  refine forI (n := qs.length) (by omega) (by omega) (fun j h' => h' = h2 ∧ ∀ (k : Nat) z, k < j → s.procs[k]? = some z → z.lanes.length = c.labels.length + 1 ∧ ∀ l ∈ z.lanes, (l.values.length : Int) ≤ c.lane) ⟨rfl, fun _ _ hj => by omega⟩ ?_ ?_
  ·rintro j hj h3 ⟨rfl, hI2⟩ K hK
   have hjl := List.getElem?_eq_getElem hj
   generalize qs[j] = w at hjl
   have one : ∀ {K' : Sl → Prop}, K' w.Lanes → (InB y.Procs.base y.Procs.len (j : Int)) ∧ LdW none shSl h3 (Addr.add (sat y.Procs.base 15 (j : Int)) 14) K' := fun {K'} hk =>
    Rw.fld hqs (fun _ => rfl) (by omega) (sh := shSl) (fun q => q.Lanes) (fun _ => rfl) (by omega) (by omega) fun q hq => by
     have hq : qs[j]? = some q := hq
     rw [hjl] at hq; cases hq; exact hk
   obtain ⟨z, hz, hzw⟩ := hallq.get hjl
   obtain ⟨ls, hls, hallL⟩ := hzw.lanes
   have f1 : w.Lanes.len = ls.length := hls.1
   have f2 := hallL.len
   have hzs := hS.lanes z (List.mem_of_getElem? hz)
   refine one ?_
   rw [f1, f2, e4, wrap64 (by omega) (by omega)]
   by_cases hn : z.lanes.length = c.labels.length + 1
   ·rw [if_neg (by rw [bne_iff_ne]; omega)]
    refine loopN (n := ls.length) (by omega) (fun m h' => h' = h3 ∧ ∀ (k : Nat) l, k < m → z.lanes[k]? = some l → (l.values.length : Int) ≤ c.lane) ⟨rfl, fun _ _ hm => by omega⟩ ?_
    rintro m hm h4 ⟨rfl, hI3⟩ K2 hK2
    refine one ?_
    by_cases hlt : m < ls.length
    ·rw [if_pos (decide_eq_true (by omega))]
     refine one ?_
     refine Rw.fld hls (fun _ => rfl) (by omega) (sh := shSl) (fun q => q.Values) (fun _ => rfl) (by omega) (by omega) fun u hu => ?_
     have hu : ls[m]? = some u := hu
     obtain ⟨l, hl, hlu⟩ := hallL.get hu
     have f3 : u.Values.len = l.values.length := hlu.values.1
     rw [cx.lane, f3]
     by_cases hv : (l.values.length : Int) ≤ c.lane
     ·rw [if_neg (fun e => by have := of_decide_eq_true e; omega)]
      refine hK2 hlt _ ⟨rfl, fun k l' hk hl' => ?_⟩
      by_cases hkm : k < m
      ·exact hI3 k l' hkm hl'
      ·have : k = m := by omega
       subst this
       rw [hl] at hl'; cases hl'
       exact hv
     ·rw [if_pos (decide_eq_true (by omega))]
      exact hq _ ⟨fun e => (by cases e), fun hh => absurd (((hZ.1 hh).2 z (List.mem_of_getElem? hz)).2 l (List.mem_of_getElem? hl)) hv⟩
    ·rw [if_neg (fun e => hlt (by have := of_decide_eq_true e; omega))]
     refine hK _ ⟨rfl, fun k z' hk hz' => ?_⟩
     by_cases hkj : k < j
     ·exact hI2 k z' hkj hz'
     ·have : k = j := by omega
      subst this
      rw [hz] at hz'; cases hz'
      refine ⟨hn, fun l hl => ?_⟩
      obtain ⟨k, hk⟩ := List.getElem?_of_mem hl
      exact hI3 k l (by have := (List.getElem?_eq_some_iff.1 hk).1; omega) hk
   ·rw [if_pos (by rw [bne_iff_ne]; omega)]
    exact hq _ ⟨fun e => (by cases e), fun hh => absurd ((hZ.1 hh).2 z (List.mem_of_getElem? hz)).1 hn⟩
  ·rintro h3 ⟨rfl, hI2⟩
   refine hq _ ⟨fun _ => hZ.2 ⟨hA, fun z hz => ?_⟩, fun _ => rfl⟩
   obtain ⟨m, hm⟩ := List.getElem?_of_mem hz
   exact hI2 m z (by have := (List.getElem?_eq_some_iff.1 hm).1; omega) hm
end
end Lf

namespace Lf
open Go Go.Proofs
def LaneR (c : PCfg) (s : PState) (x : PProcess) (y : PProc) (k : Nat) (l : PLane) : Prop :=
 Cnt l.taken ∧ Cnt l.dropped ∧ (k < c.labels.length → Used l → fl c.labels (k : Int) y.part = true) ∧ (l.waiters ≠ [] → (k : Int) = y.part ∧ x.state < 5 ∧ c.lane ≤ l.values.length) ∧
  ∀ w ∈ l.waiters, (∀ i : Nat, (i : Int) = y.part → ofR c s w.proc i) ∧ stP s w.proc fun z => z.state = 2
section
variable {h : Hp} {b : Nat} {x : S_api_Config} {y : S_api_State} {c : PCfg} {s : PState}
theorem RM.getProc (k : RM h b x y c s) {p : Nat} {z : PProcess} (hz : s.procs[p]? = some z) {Z : S_api_Process → Prop} : (∃ w, ProcessAt h w z ∧ ∀ {K : S_api_Process → Prop}, K w → (InB y.Procs.base y.Procs.len (p : Int) ∧ LdW none sh_api_Process h (sat y.Procs.base 15 (p : Int)) K)) := by
 obtain ⟨qs, hqs, hallq⟩ := k.st.procs
 obtain ⟨w, hw1, hw2⟩ := hallq.get' hz
 have hwl := (List.getElem?_eq_some_iff.1 hw1).1
 refine ⟨w, hw2, fun {K} hk => ?_⟩
 refine Rs.get (sh := sh_api_Process) hqs (fun _ => rfl) (by omega) (by omega) (by omega) fun w' hw' => ?_
 have hw' : qs[p]? = some w' := hw'
 rw [hw1] at hw'; cases hw'
 exact hk
theorem RM.getCfg (k : RM h b x y c s) {p : Nat} {u : PProc} (hu : c.procs[p]? = some u) : (∃ q, ProcAt h q u ∧ (∀ {K : Int → Prop}, K u.part → (InB x.Procs.base x.Procs.len (p : Int) ∧ LdW none (shInt .i64) h (Addr.add (sat x.Procs.base 2 (p : Int)) 0) K)) ∧
  ∀ {cnd : Option Bool} {K : Sl → Prop}, K q.Code → (InB x.Procs.base x.Procs.len (p : Int) ∧ LdW cnd shSl h (Addr.add (sat x.Procs.base 2 (p : Int)) 1) K)) := by
 obtain ⟨ps, hps, hall⟩ := k.cfg.procs
 obtain ⟨q, hq1, hq2⟩ := hall.get' hu
 have hql := (List.getElem?_eq_some_iff.1 hq1).1
 refine ⟨q, hq2, fun {K} hk => ?_, fun {cnd} {K} hk => ?_⟩
 ·refine Rw.fld hps (fun _ => rfl) (by omega) (sh := shInt .i64) (fun q => q.Part) (fun _ => rfl) (by omega) (by omega) fun q' hq' => ?_
  have hq' : ps[p]? = some q' := hq'
  rw [hq1] at hq'; cases hq'
  rw [hq2.1]; exact hk
 ·obtain ⟨hin, v, hv, rfl⟩ := Rw.fld hps (fun _ => rfl) (by omega) (sh := shSl) (fun q => q.Code) (j := 1) (fun _ => rfl) (i := (p : Int)) (by omega) (by omega) (K := fun v => v = q.Code) fun q' hq' => by
   have hq' : ps[p]? = some q' := hq'
   rw [hq1] at hq'; cases hq'; rfl
  refine ⟨hin, q.Code, ?_, hk⟩
  cases cnd with
  | none => exact hv
  | some _ => exact fun _ => hv
theorem refFlows15_ok' (k : RM h b x y c s) {i : Nat} {j : Int} (hi : i < c.labels.length) (hj : 0 ≤ j ∧ j < c.labels.length) {Q : Bool → Hp → Prop} (hq : Q (fl c.labels (i : Int) j) h) : firebreakref15_Machine_flows_w Tryz.prog (some ⟨b, 0, none⟩) (i : Int) j Q h := by
 have e : j = ((j.toNat : Nat) : Int) := by omega
 rw [e] at hq ⊢
 exact refFlows15_ok k hi (by omega) hq
theorem refOf_ok' (k : RM h b x y c s) {p i : Int} (hi : 0 ≤ i) {Q : Bool → Hp → Prop} (hq : ∀ r, (r = true ↔ ofR c s p i.toNat) → Q r h) : firebreakref15_Machine_of_w Tryz.prog (some ⟨b, 0, none⟩) p i Q h := by
 have e : i = ((i.toNat : Nat) : Int) := by omega
 have := refOf_ok k (p := p) (i := i.toNat) hq
 rw [← e] at this
 exact this
set_option maxRecDepth 20000 in
theorem refProc_ok (k : RM h b x y c s) (hS : StLe s) {p : Nat} {z : PProcess} {u : PProc} (hz : s.procs[p]? = some z) (hu : c.procs[p]? = some u) {Q : Bool → Hp → Prop}
  (hq : ∀ r, (r = true ↔ ProcR c s (fun (i : Nat) q => fl c.labels (i : Int) q = true) z u) → Q r h) : firebreakref15_Machine_process_w Tryz.prog (some ⟨b, 0, none⟩) (p : Int) Q h := by
 unfold firebreakref15_Machine_process_w
 obtain ⟨w, hw, hgetw⟩ := k.getProc hz (Z := fun _ => True)
 obtain ⟨q, hq2, hgpart, hgcode⟩ := k.getCfg hu
 obtain ⟨is, his, hmap⟩ := hq2.2
 have hcl : q.Code.len = u.code.length := by rw [← hmap, List.length_map]; exact his.1
 obtain ⟨ls, hls, hallL⟩ := hw.lanes
 have hll : w.Lanes.len = ls.length := hls.1
 have hll2 := hallL.len
 obtain ⟨⟨hA1, hA8⟩, -, -, -, ⟨hP1, hP32⟩, hcb⟩ := cfg_bounds k.ok
 obtain ⟨⟨hp0, hp1⟩, hc256, -⟩ := hcb u (List.mem_of_getElem? hu)
 have hLP : LdIs h (Addr.add (Addr.add ⟨b, 0, none⟩ 0) 6) (cellsL (shSl.enc x.Procs)) := k.box.ldIs (off := 6) (n := 1) rfl
 have hLS : LdIs h (Addr.add (Addr.add ⟨b, 0, none⟩ 7) 2) (cellsL (shSl.enc y.Procs)) := k.box.ldIs (off := 9) (n := 1) rfl
 have hzl := k.sizes.2.2 z (List.mem_of_getElem? hz)
 have hzs := hS.lanes z (List.mem_of_getElem? hz)
 have ht := k.sizes.1.1
 have htk : y.Tick = s.tick := k.st.tick
 refine notNil (ld_at (sh := shSl) y.Procs hLS (hgetw ?_))
 refine notNil (ld_at (sh := shSl) x.Procs hLP (hgpart ?_))
 rw [hw.state, hw.pc, hw.cursor, hw.timer, hw.wake, hw.fired, hll, hll2]
 refine letW (letW (notNil (ldC (sh := shSl) x.Procs hLP ?_)))
 refine ⟨fun _ => (hgcode (cnd := none) (K := fun _ => True) trivial).1, (hgcode (cnd := some _) ?_).2⟩
 rw [hcl]
 refine letW (letW fun y4 hy4 => ?_)
 have a4 : y4 = true ↔ ¬ ((0 ≤ z.state ∧ z.state ≤ 6) ∧ (0 ≤ z.pc ∧ z.pc ≤ u.code.length) ∧ (0 ≤ z.cursor ∧ z.cursor < z.lanes.length)) := by
  subst hy4
  simp only [Bool.or_eq_true, decide_eq_true_eq]
  omega
 dsimp only
 by_cases hy : y4 = true
 ·rw [if_pos hy]
  exact hq _ ⟨fun e => (by cases e), fun hh => absurd ⟨hh.1, hh.2.1, hh.2.2.1⟩ (a4.1 hy)⟩
 rw [if_neg hy]
 obtain ⟨c1, c2, c3⟩ := Classical.not_not.1 fun hn => hy (a4.2 hn)
 refine notNil (ld_at (sh := shInt .i64) y.Tick (k.box.ldIs (off := 7) (n := 1) rfl) ?_)
 rw [htk, wrap64 (by omega) (by omega)]
 refine firebreakref15_within_call (refWithin15_ok fun r0 hr0 => ?_)
 refine effI (fun r => r = true ↔ 0 ≤ z.wake ∧ z.wake ≤ s.tick + 1099511627776) false (fun _ hk => firebreakref15_within_call (refWithin15_ok hk)) fun r1 hr1 => fun y5 hy5 => fun y6 hy6 => ?_
 have a5 : y5 = true ↔ ¬ ((0 ≤ z.timer ∧ z.timer ≤ s.tick + 1099511627776) ∧ (0 ≤ z.wake ∧ z.wake ≤ s.tick + 1099511627776)) := by subst hy5; exact or_not (y := !r0) (by rw [← hr0]; simp) hr1
 have a6 : y6 = true ↔ ¬ (((0 ≤ z.timer ∧ z.timer ≤ s.tick + 1099511627776) ∧ (0 ≤ z.wake ∧ z.wake ≤ s.tick + 1099511627776)) ∧ (0 < z.wake ↔ z.state = 4)) := by
  subst hy6
  refine or_neg a5 fun _ => ?_
  by_cases g1 : 0 < z.wake <;> by_cases g2 : z.state = 4 <;> simp [g1, g2]
 dsimp only
 by_cases hy' : y6 = true
 ·rw [if_pos hy']
  exact hq _ ⟨fun e => (by cases e), fun hh => absurd ⟨⟨hh.2.2.2.1, hh.2.2.2.2.1⟩, hh.2.2.2.2.2.1⟩ (a6.1 hy')⟩
 rw [if_neg hy']
 obtain ⟨⟨c4, c5⟩, c6⟩ := Classical.not_not.1 fun hn => hy' (a6.2 hn)
 refine letW fun y8 hy8 => ?_
 have a8 : y8 = true ↔ ¬ (5 ≤ z.state → z.timer = 0 ∧ z.fired = false) := by
  subst hy8
  by_cases g : 5 ≤ z.state <;> by_cases g2 : z.timer = 0 <;> cases z.fired <;> simp [g, g2]
 dsimp only
 by_cases hy8' : y8 = true
 ·rw [if_pos hy8']
  exact hq _ ⟨fun e => (by cases e), fun hh => absurd hh.2.2.2.2.2.2.1 (a8.1 hy8')⟩
 rw [if_neg hy8']
 have c7 := Classical.not_not.1 fun hn => hy8' (a8.2 hn)
 have hP : ProcR c s (fun (i : Nat) q => fl c.labels (i : Int) q = true) z u ↔ ∀ (k : Nat) l, z.lanes[k]? = some l → LaneR c s z u k l :=
  ⟨fun hh => hh.2.2.2.2.2.2.2, fun hh => ⟨c1, c2, c3, c4, c5, c6, c7, hh⟩⟩
 have hpt : u.part = ((u.part.toNat : Nat) : Int) := by omega
 refine forI (n := ls.length) (by omega) (by omega) (fun j h' => h' = h ∧ ∀ (k : Nat) l, k < j → z.lanes[k]? = some l → LaneR c s z u k l) ⟨rfl, fun _ _ hj => by omega⟩ ?_ ?_
 ·rintro j hj h2 ⟨rfl, hI⟩ K hK
  rw [show z.lanes.length = w.Lanes.len by omega]
  refine Rs.get (sh := sh_api_Lane) hls (fun _ => rfl) (by omega) (by omega) (by omega) fun L hL => ?_
  have hL : ls[j]? = some L := hL
  obtain ⟨l, hl, hlL⟩ := hallL.get hL
  have hvl : L.Values.len = l.values.length := hlL.values.1
  obtain ⟨ws, hws, hwmap⟩ := hlL.waiters
  have hwl : L.Waiters.len = ws.length := hws.1
  have hwl2 : l.waiters.length = ws.length := by rw [← hwmap, List.length_map]
  have hwf := (hzs.2 l (List.mem_of_getElem? hl)).waiters
  have hno : ¬ LaneR c s z u j l → Q false h2 := fun hn => hq _ ⟨fun e => (by cases e), fun hh => absurd (hP.1 hh j l hl) hn⟩
  rw [hlL.taken, hlL.dropped, hvl, hwl]
  refine firebreakref15_counted_call (refCounted_ok fun r2 hr2 => ?_)
  refine effI (fun r => r = true ↔ Cnt l.dropped) false (fun _ hk => firebreakref15_counted_call (refCounted_ok hk)) fun r3 hr3 => fun y9 hy9 => ?_
  have a9 : y9 = true ↔ ¬ (Cnt l.taken ∧ Cnt l.dropped) := by subst hy9; exact or_not (y := !r2) (by rw [← hr2]; simp) hr3
  dsimp only
  by_cases g1 : y9 = true
  ·rw [if_pos g1]
   exact hno fun hh => a9.1 g1 ⟨hh.1, hh.2.1⟩
  rw [if_neg g1]
  obtain ⟨d1, d2⟩ := Classical.not_not.1 fun hn => g1 (a9.2 hn)
  refine notNil (ld_at (sh := shSl) x.Labels (k.box.ldIs (off := 0) (n := 1) rfl) ?_)
  have hlab : x.Labels.len = c.labels.length := k.cfg.labels.1
  rw [hlab]
  refine effI (fun r => r = fl c.labels (j : Int) u.part) false (fun e hk => ?_) fun r4 hr4 => fun y10 hy10 => letW (letW fun y13 hy13 => ?_)
  ·have := of_decide_eq_true e
   exact firebreakref15_Machine_flows_call (refFlows15_ok' k (by omega) (by omega) (hk _ rfl))
  have a13 : y13 = true ↔ ¬ (j < c.labels.length → Used l → fl c.labels (j : Int) u.part = true) := by
   subst hy13 hy10
   have hU : ((decide (((l.values.length : Nat) : Int) > 0) || decide (l.taken > 0)) || decide (l.dropped > 0)) = true ↔ Used l := by
    unfold Used
    simp only [Bool.or_eq_true, decide_eq_true_eq, ne_eq, ← List.length_eq_zero_iff]
    omega
   rw [Bool.and_eq_true, Bool.and_eq_true, hU, decide_eq_true_eq]
   constructor
   ·rintro ⟨⟨g1, g2⟩, g3⟩ hh
    have e := hr4 (decide_eq_true g1)
    rw [e, hh (by omega) g3] at g2
    cases g2
   ·intro hn
    by_cases g1 : j < c.labels.length
    ·by_cases g2 : Used l
     ·refine ⟨⟨by omega, ?_⟩, g2⟩
      rw [hr4 (decide_eq_true (by omega))]
      cases hf : fl c.labels (j : Int) u.part with
      | true => exact absurd (fun _ _ => hf) hn
      | false => rfl
     ·exact absurd (fun _ e => absurd e g2) hn
    ·exact absurd (fun e => absurd e g1) hn
  dsimp only
  by_cases g2 : y13 = true
  ·rw [if_pos g2]
   exact hno fun hh => a13.1 g2 hh.2.2.1
  rw [if_neg g2]
  have d3 := Classical.not_not.1 fun hn => g2 (a13.2 hn)
  refine fun y14 hy14 => notNil (ldC (sh := shInt .i64) x.Lane (k.box.ldIs (off := 3) (n := 1) rfl) (letW fun y16 hy16 => ?_))
  have a16 : y16 = true ↔ ¬ (l.waiters ≠ [] → (j : Int) = u.part ∧ z.state < 5 ∧ c.lane ≤ l.values.length) := by
   subst hy16 hy14
   rw [k.cfg.lane]
   simp only [Bool.or_eq_true, Bool.and_eq_true, decide_eq_true_eq, bne_iff_ne, ne_eq, ← List.length_eq_zero_iff]
   omega
  dsimp only
  by_cases g3 : y16 = true
  ·rw [if_pos g3]
   exact hno fun hh => a16.1 g3 hh.2.2.2.1
  rw [if_neg g3]
  have d4 := Classical.not_not.1 fun hn => g3 (a16.2 hn)
  refine forI (n := ws.length) (by omega) (by omega) (fun m h' => h' = h2 ∧ ∀ (k : Nat) w, k < m → l.waiters[k]? = some w → (∀ i : Nat, (i : Int) = u.part → ofR c s w.proc i) ∧ stP s w.proc fun z => z.state = 2) ⟨rfl, fun _ _ hj => by omega⟩ ?_ ?_
  ·rintro m hm h3 ⟨rfl, hI2⟩ K2 hK2
   rw [show ws.length = L.Waiters.len from hwl.symm]
   refine Rs.get (sh := sh_api_Waiter) hws (fun _ => rfl) (by omega) (by omega) (by omega) fun W hW => ?_
   have hW : ws[m]? = some W := hW
   have hWp : l.waiters[m]? = some (waiterOf W) := by rw [← hwmap, List.getElem?_map, hW]; rfl
   refine firebreakref15_Machine_of_call (refOf_ok' k hp0 fun r5 hr5 => ?_)
   refine notNil (ldC (sh := shSl) y.Procs hLS ?_)
   obtain ⟨pp, hpp, hallp⟩ := k.st.procs
   have hppl : y.Procs.len = pp.length := hpp.1
   have hpl2 := hallp.len
   have hpl3 := k.sizes.1.2.2
   refine Rw.fldC hpp (fun _ => rfl) (by omega) (sh := shInt .i64) (fun q => q.State) (fun _ => rfl) (0 : Int) (fun e => ?_) fun (v : Int) hv => fun y17 hy17 => ?_
   ·obtain ⟨⟨h0, u', hu', _⟩, _⟩ := hr5.1 (by simpa using e)
    have := (List.getElem?_eq_some_iff.1 hu').1
    omega
   have a17 : y17 = true ↔ ¬ (ofR c s W.Proc u.part.toNat ∧ stP s W.Proc fun z => z.state = 2) := by
    subst hy17
    refine or_neg (y := !r5) (by rw [← hr5]; simp) fun hA => ?_
    have := hr5.2 hA
    rw [this] at hv
    obtain ⟨u', hu', rfl⟩ := hv rfl
    obtain ⟨v', hv', hv2⟩ := hallp.get hu'
    rw [bne_iff_ne, hv2.state]
    refine not_congr ⟨fun e => ⟨_, hv', e⟩, fun ⟨z1, hz1, hz2⟩ => ?_⟩
    rw [hv'] at hz1; cases hz1
    exact hz2
   dsimp only
   by_cases g4 : y17 = true
   ·rw [if_pos g4]
    refine hno fun hh => a17.1 g4 ?_
    have := hh.2.2.2.2 _ (List.mem_of_getElem? hWp)
    exact ⟨this.1 _ (by omega), this.2⟩
   ·rw [if_neg g4]
    obtain ⟨f1, f2⟩ := Classical.not_not.1 fun hn => g4 (a17.2 hn)
    refine hK2 _ ⟨rfl, fun k' w' hk' hw' => ?_⟩
    by_cases hkm : k' < m
    ·exact hI2 k' w' hkm hw'
    ·have : k' = m := by omega
     subst this
     rw [hWp] at hw'; cases hw'
     refine ⟨fun i hi => ?_, f2⟩
     have : i = u.part.toNat := by omega
     rw [this]; exact f1
  ·rintro h3 ⟨rfl, hI2⟩
   refine hK _ ⟨rfl, fun m l' hm hl' => ?_⟩
   by_cases hmj : m < j
   ·exact hI m l' hmj hl'
   ·have : m = j := by omega
    subst this
    rw [hl] at hl'; cases hl'
    refine ⟨d1, d2, d3, d4, fun w hw => ?_⟩
    obtain ⟨k', hk'⟩ := List.getElem?_of_mem hw
    exact hI2 k' w (by have := (List.getElem?_eq_some_iff.1 hk').1; omega) hk'
 ·rintro h2 ⟨rfl, hI⟩
  exact hq _ ⟨fun _ => hP.2 fun k l hl => hI k l (by have := (List.getElem?_eq_some_iff.1 hl).1; omega) hl, fun _ => rfl⟩
end
end Lf

namespace Lf
open Go Go.Proofs
section
variable {h : Hp}
theorem regs_of {n : PIns} {len locks : Int} (hw : (wrongP n len locks).1 = 0) (ho : n.op = 24) : (0 ≤ n.b ∧ n.b < 8) ∧ (0 ≤ n.c ∧ n.c < 8) := by
 have hf : fieldsP n.op = (true, true, true, false) := by rw [ho]; decide
 unfold wrongP at hw
 rw [hf] at hw
 have hr : ∀ m, regP true m = 0 → 0 ≤ m ∧ m < 8 := fun m e => by
  unfold regP at e
  rw [if_neg (by simp)] at e
  by_cases h1 : m < 0 ∨ 8 ≤ m
  ·rw [if_pos h1] at e; cases e
  ·omega
 have h24 : ¬ (n.op < 0 ∨ 34 ≤ n.op) := by omega
 rw [if_neg h24] at hw
 by_cases e1 : regP true n.a = 0
 ·rw [if_neg (by simpa using e1)] at hw
  by_cases e2 : regP true n.b = 0
  ·rw [if_neg (by simpa using e2)] at hw
   by_cases e3 : regP true n.c = 0
   ·exact ⟨hr _ e2, hr _ e3⟩
   ·rw [if_pos (by simpa using e3)] at hw
    exact absurd hw e3
  ·rw [if_pos (by simpa using e2)] at hw
   exact absurd hw e2
 ·rw [if_pos (by simpa using e1)] at hw
  exact absurd hw e1
theorem refAt_ok {core : S_firebreakref13_Core} {code : Sl} {is : List S_api_Ins} {locks : Int} (his : InsS h code is) (hl : is.length ≤ 256) (hk : locks ≤ 8) (hv : ∀ n ∈ is.map insOf, (wrongP n is.length locks).1 = 0) {Q : S_api_Ins → Bool → Hp → Prop}
  (hq : ∀ r1 r2, (r2 = true ∧ (if 0 ≤ core.PC then (is.map insOf)[core.PC.toNat]? else none) = some (insOf r1)) ∨ (r2 = false ∧ (if 0 ≤ core.PC then (is.map insOf)[core.PC.toNat]? else none) = none) → Q r1 r2 h) :
  firebreakref13_At_w Tryz.prog core code Q h := by
 unfold firebreakref13_At_w
 have hlen : code.len = is.length := his.1
 refine letW ?_
 by_cases hp : 0 ≤ core.PC ∧ core.PC < (is.length : Int)
 ·rw [if_neg (by simp; omega)]
  refine Rs.get (sh := sh_api_Ins) his (fun _ => rfl) (by omega) hp.1 hp.2 fun i hi => ?_
  refine firebreakref06_Check_call (refCheck_ok ⟨⟨trivial, trivial⟩, ?_⟩)
  have hm : insOf i ∈ is.map insOf := List.mem_map.2 ⟨i, List.mem_of_getElem? hi, rfl⟩
  have := wrongP_mono hk (hv _ hm)
  rw [hlen, this]
  refine hq _ _ (.inl ⟨rfl, ?_⟩)
  rw [if_pos hp.1, List.getElem?_map, hi]; rfl
 ·rw [if_pos (by simp; omega)]
  refine hq _ _ (.inr ⟨rfl, ?_⟩)
  by_cases h0 : 0 ≤ core.PC
  ·rw [if_pos h0]
   exact List.getElem?_eq_none (by rw [List.length_map]; omega)
  ·rw [if_neg h0]
theorem sum_le {α : Type} (f : α → Nat) (M : Nat) : ∀ l : List α, (∀ x ∈ l, f x ≤ M) → (l.map f).sum ≤ l.length * M
 | [], _ => by simp
 | a :: l, hl => by
  have h1 := hl a (List.mem_cons_self ..)
  have h2 := sum_le f M l fun x hx => hl x (List.mem_cons_of_mem _ hx)
  rw [List.map_cons, List.sum_cons, List.length_cons, Nat.succ_mul]
  omega
variable {b : Nat} {x : S_api_Config} {y : S_api_State} {c : PCfg} {s : PState}
theorem RM.getQueues (k : RM h b x y c s) {i : Nat} {z : PPart} (hz : s.parts[i]? = some z) : ∃ w, PartAt h w z ∧ ∀ {K : Sl → Prop}, K w.Queues → (InB y.Parts.base y.Parts.len (i : Int) ∧ LdW none shSl h (Addr.add (sat y.Parts.base 6 (i : Int)) 5) K) := by
 obtain ⟨qs, hqs, hallq⟩ := k.st.parts
 obtain ⟨w, hw1, hw2⟩ := hallq.get' hz
 have hwl := (List.getElem?_eq_some_iff.1 hw1).1
 refine ⟨w, hw2, fun {K} hk => ?_⟩
 refine Rw.fld hqs (fun _ => rfl) (by omega) (sh := shSl) (fun q => q.Queues) (fun _ => rfl) (by omega) (by omega) fun q hq => ?_
 have hq : qs[i]? = some q := hq
 rw [hw1] at hq; cases hq
 exact hk
theorem RM.getLanes (k : RM h b x y c s) {p : Nat} {z : PProcess} (hz : s.procs[p]? = some z) : ∃ w, ProcessAt h w z ∧ ∀ {K : Sl → Prop}, K w.Lanes → (InB y.Procs.base y.Procs.len (p : Int) ∧ LdW none shSl h (Addr.add (sat y.Procs.base 15 (p : Int)) 14) K) := by
 obtain ⟨qs, hqs, hallq⟩ := k.st.procs
 obtain ⟨w, hw1, hw2⟩ := hallq.get' hz
 have hwl := (List.getElem?_eq_some_iff.1 hw1).1
 refine ⟨w, hw2, fun {K} hk => ?_⟩
 refine Rw.fld hqs (fun _ => rfl) (by omega) (sh := shSl) (fun q => q.Lanes) (fun _ => rfl) (by omega) (by omega) fun q hq => ?_
 have hq : qs[p]? = some q := hq
 rw [hw1] at hq; cases hq
 exact hk
def OkQ (u : PProc) (z : PProcess) (k : Nat) : Prop := ∃ n, insP u z.pc = some n ∧ n.op = 29 ∧ n.imm = (k : Int)
def OkS (u : PProc) (z : PProcess) (r : Nat) (v : Int) : Prop := ∃ n, insP u z.pc = some n ∧ n.op = 24 ∧ z.regs[n.b.toNat]? = some (r : Int) ∧ z.regs[n.c.toNat]? = some v
theorem count_snoc (p : Int) (q : List Int) {n : Nat} {v : Int} (hv : q[n]? = some v) : (q.take (n + 1)).countP (fun z => decide (z = p)) = (q.take n).countP (fun z => decide (z = p)) + if v = p then 1 else 0 := by
 rw [List.take_add_one, hv, List.countP_append]
 by_cases e : v = p <;> simp [e]
theorem countW_snoc (p : Int) (q : List PWaiter) {n : Nat} {v : PWaiter} (hv : q[n]? = some v) : (q.take (n + 1)).countP (fun z => decide (z.proc = p)) = (q.take n).countP (fun z => decide (z.proc = p)) + if v.proc = p then 1 else 0 := by
 rw [List.take_add_one, hv, List.countP_append]
 by_cases e : v.proc = p <;> simp [e]
theorem sum_snoc {α : Type} (f : α → Nat) (l : List α) {n : Nat} {v : α} (hv : l[n]? = some v) : ((l.take (n + 1)).map f).sum = ((l.take n).map f).sum + f v := by
 rw [List.take_add_one, hv]; simp
set_option maxRecDepth 20000 in
theorem refWaits_ok (k : RM h b x y c s) (hS : StLe s) {p i : Nat} {z : PProcess} {u : PProc} (hz : s.procs[p]? = some z) (hu : c.procs[p]? = some u) (hi : u.part = (i : Int)) {Q : Bool → Hp → Prop}
  (hq : ∀ r, (r = true ↔ WaitR s p i z u) → Q r h) : firebreakref15_Machine_waits_w Tryz.prog (some ⟨b, 0, none⟩) (p : Int) Q h := by
 unfold firebreakref15_Machine_waits_w
 obtain ⟨w, hw, hgetw⟩ := k.getProc hz (Z := fun _ => True)
 obtain ⟨q, hq2, hgpart, hgcode⟩ := k.getCfg hu
 obtain ⟨is, his, hmap⟩ := hq2.2
 obtain ⟨ls, hls, hallL⟩ := hw.lanes
 have hll : w.Lanes.len = ls.length := hls.1
 have hll2 := hallL.len
 obtain ⟨⟨hA1, hA8⟩, ⟨hK0, hK8⟩, -, -, ⟨hP1, hP32⟩, hcb⟩ := cfg_bounds k.ok
 obtain ⟨⟨hp0, hp1⟩, hc256, hcode⟩ := hcb u (List.mem_of_getElem? hu)
 have hLP : LdIs h (Addr.add (Addr.add ⟨b, 0, none⟩ 0) 6) (cellsL (shSl.enc x.Procs)) := k.box.ldIs (off := 6) (n := 1) rfl
 have hLS : LdIs h (Addr.add (Addr.add ⟨b, 0, none⟩ 7) 2) (cellsL (shSl.enc y.Procs)) := k.box.ldIs (off := 9) (n := 1) rfl
 have hLA : LdIs h (Addr.add (Addr.add ⟨b, 0, none⟩ 7) 1) (cellsL (shSl.enc y.Parts)) := k.box.ldIs (off := 8) (n := 1) rfl
 have hzl := k.sizes.2.2 z (List.mem_of_getElem? hz)
 have hzs := hS.lanes z (List.mem_of_getElem? hz)
 obtain ⟨-, sz1, sz2⟩ := k.sizes.1
 have hpl := (List.getElem?_eq_some_iff.1 hz).1
 obtain ⟨z0, hz0⟩ : ∃ z0, s.parts[i]? = some z0 := ⟨_, List.getElem?_eq_getElem (by omega)⟩
 obtain ⟨hzo, hzq, -⟩ := k.sizes.2.1 z0 (List.mem_of_getElem? hz0)
 obtain ⟨-, -, -, hqfew⟩ := hS.log z0 (List.mem_of_getElem? hz0)
 obtain ⟨wp, hwp, hgq⟩ := k.getQueues hz0
 obtain ⟨us, hus, hallu⟩ := hwp.queues
 have hul : wp.Queues.len = us.length := hus.1
 have hul2 := hallu.len
 rw [hi] at hgpart
 refine notNil (ld_at (sh := shSl) y.Procs hLS (hgetw ?_))
 refine notNil (ld_at (sh := shSl) x.Procs hLP (hgpart ?_))
 refine notNil (ld_at (sh := shSl) x.Procs hLP (hgcode ?_))
 refine firebreakref15_Machine_core_call ?_
 unfold firebreakref15_Machine_core_w
 refine notNil (ld_at (sh := shSl) y.Procs hLS (hgetw ?_))
 refine ⟨⟨hLP, ?_, trivial⟩, ?_⟩
 ·obtain ⟨_, v, hv, rfl⟩ := hgcode (cnd := none) (K := fun v => v = q.Code) rfl
  exact hv
 refine firebreakref13_At_call (c := ⟨w.PC, w.Regs_0, w.Regs_1, w.Regs_2, w.Regs_3, w.Regs_4, w.Regs_5, w.Regs_6, w.Regs_7⟩) (code := q.Code) (refAt_ok (locks := c.locks) his (by rw [← hmap, List.length_map] at hc256; exact hc256) hK8 ?_ fun r1 r2 hr => ?_)
 ·rw [hmap]
  have e : is.length = u.code.length := by rw [← hmap, List.length_map]
  rw [e]; exact hcode
 have hr : (r2 = true ∧ insP u z.pc = some (insOf r1)) ∨ (r2 = false ∧ insP u z.pc = none) := by
  unfold insP
  rw [← hmap, ← hw.pc]; exact hr
 clear hcode
 have hreg : r1.Op = 24 → r2 = true → (0 ≤ r1.B ∧ r1.B < 8) ∧ (0 ≤ r1.C ∧ r1.C < 8) := fun ho e => by
  rcases hr with ⟨_, hn⟩ | ⟨e2, _⟩
  ·have hm : insOf r1 ∈ u.code := by
    unfold insP at hn
    by_cases h1 : 0 ≤ z.pc
    ·rw [if_pos h1] at hn; exact List.mem_of_getElem? hn
    ·rw [if_neg h1] at hn; cases hn
   exact regs_of ((hcb u (List.mem_of_getElem? hu)).2.2 _ hm) ho
  ·rw [e] at e2; cases e2
 -- the queues of the partition
 refine loopA (n := us.length) (by omega) (fun j (v : Int) h' => h' = h ∧ v = (((z0.queues.take j).map fun q => q.countP (fun z => decide (z = (p : Int)))).sum : Nat) ∧ ∀ (j' : Nat) q, j' < j → z0.queues[j']? = some q → (p : Int) ∈ q → OkQ u z j') ⟨rfl, by simp, fun _ _ hj => by omega⟩ ?_
 rintro j hj v1 h1 ⟨rfl, rfl, hI⟩ K hK
 refine notNil (ld_at (sh := shSl) y.Parts hLA (hgq ?_))
 by_cases hlt : j < us.length
 ·rw [if_pos (decide_eq_true (by omega))]
  have huj := List.getElem?_eq_getElem hlt
  generalize us[j] = ql at huj
  obtain ⟨qq, hqq1, hqq2⟩ := hallu.get huj
  have hgu : ∀ {K' : Sl → Prop}, K' ql → (InB wp.Queues.base wp.Queues.len (j : Int) ∧ LdW none shSl h1 (sat wp.Queues.base 1 (j : Int)) K') := fun {K'} hk => by
   refine Rs.get (sh := shSl) hus (fun _ => rfl) (by omega) (by omega) (by omega) fun v hv => ?_
   have hv : us[j]? = some v := hv
   rw [huj] at hv; cases hv
   exact hk
  have hqlen : ql.len = qq.length := hqq2.1
  have hqf := hqfew qq (List.mem_of_getElem? hqq1)
  have hsum := sum_le (fun q : List Int => q.countP (fun z => decide (z = (p : Int)))) 140737488355328 (z0.queues.take j) fun q hq => Nat.le_trans List.countP_le_length (hqfew q (List.mem_of_mem_take hq))
  have hjl : (z0.queues.take j).length ≤ 8 := by rw [List.length_take]; omega
  have hjm := Nat.mul_le_mul_right 140737488355328 hjl
  have hsn := sum_snoc (fun q : List Int => q.countP (fun z => decide (z = (p : Int)))) z0.queues hqq1
  generalize ((z0.queues.take j).map fun q => q.countP (fun z => decide (z = (p : Int)))).sum = S at hsum hsn
  refine loopA (n := qq.length) (by omega) (fun n (v : Int) h' => h' = h1 ∧ v = ((S + (qq.take n).countP (fun z => decide (z = (p : Int))) : Nat) : Int) ∧ ((p : Int) ∈ qq.take n → OkQ u z j)) ⟨rfl, by simp, fun e => by simp at e⟩ ?_
  rintro n hn v2 h2 ⟨rfl, rfl, hI2⟩ K2 hK2
  refine notNil (ld_at (sh := shSl) y.Parts hLA (hgq (hgu ?_)))
  by_cases hlt2 : n < qq.length
  ·rw [if_pos (decide_eq_true (by omega))]
   have hqn := List.getElem?_eq_getElem hlt2
   generalize qq[n] = v at hqn
   have hcs := count_snoc (p : Int) qq hqn
   have hcle : (qq.take n).countP (fun z => decide (z = (p : Int))) ≤ n := Nat.le_trans List.countP_le_length (by rw [List.length_take]; omega)
   refine JoinW1.intro (fun (v2 : Int) h' => h' = h2 ∧ v2 = ((S + (qq.take (n + 1)).countP (fun z => decide (z = (p : Int))) : Nat) : Int) ∧ ((p : Int) ∈ qq.take (n + 1) → OkQ u z j)) ?_ ?_
   ·refine notNil (ld_at (sh := shSl) y.Parts hLA (hgq (hgu ?_)))
    refine Rs.get (sh := shInt .i64) hqq2 (fun _ => rfl) (by omega) (by omega) (by omega) fun (v' : Int) hv' => ?_
    have hv' : qq[n]? = some v' := hv'
    rw [hqn] at hv'; cases hv'
    by_cases hvp : v = (p : Int)
    ·rw [if_neg (by simp [hvp])]
     refine letW fun y1 hy1 => ?_
     have a1 : y1 = true ↔ ¬ OkQ u z j := by
      subst hy1
      unfold OkQ
      rcases hr with ⟨e2, hn⟩ | ⟨e2, hn⟩
      ·rw [e2, hn]
       simp only [Bool.not_true, Bool.false_or, Bool.or_eq_true, bne_iff_ne, ne_eq]
       constructor
       ·rintro g ⟨m, e, g1, g2⟩
        cases e
        rcases g with g | g
        ·exact g g1
        ·exact g g2
       ·intro hn
        refine Classical.byContradiction fun hcc => hn ⟨_, rfl, ?_, ?_⟩
        ·exact Classical.byContradiction fun hc => hcc (.inl hc)
        ·exact Classical.byContradiction fun hc => hcc (.inr hc)
      ·rw [e2, hn]
       simp
     dsimp only
     by_cases hy1' : y1 = true
     ·rw [if_pos hy1']
      refine hq _ ⟨fun e => (by cases e), fun hh => absurd (hh.1 z0 hz0 j qq hqq1 ?_) (a1.1 hy1')⟩
      rw [← hvp]; exact List.mem_of_getElem? hqn
     ·rw [if_neg hy1']
      rw [if_pos hvp] at hcs
      rw [wrap64 (by omega) (by omega)]
      exact ⟨rfl, by omega, fun _ => Classical.not_not.1 fun hn => hy1' (a1.2 hn)⟩
    ·rw [if_pos (by simpa using hvp)]
     rw [if_neg hvp] at hcs
     refine ⟨rfl, by omega, fun e => hI2 ?_⟩
     rw [List.take_add_one, hqn] at e
     rcases List.mem_append.1 e with e | e
     ·exact e
     ·have : (p : Int) = v := by simpa using e
      exact absurd this.symm hvp
   ·rintro v3 h3 ⟨rfl, rfl, hI3⟩
    exact hK2 hlt2 _ _ ⟨rfl, rfl, hI3⟩
  ·rw [if_neg (fun e => hlt2 (by have := of_decide_eq_true e; omega))]
   rw [List.take_of_length_le (by omega)] at hI2 ⊢
   refine hK hlt _ _ ⟨rfl, by rw [hsn], fun j' q' hj' hq' hm => ?_⟩
   by_cases hjj : j' < j
   ·exact hI j' q' hjj hq' hm
   ·have : j' = j := by omega
    subst this
    rw [hqq1] at hq'; cases hq'
    exact hI2 hm
 rw [if_neg (fun e => hlt (by have := of_decide_eq_true e; omega))]
 rw [List.take_of_length_le (by omega)]
 have hQ1 : ∀ (j' : Nat) q, z0.queues[j']? = some q → (p : Int) ∈ q → OkQ u z j' := fun j' q hq hm => hI j' q (by have := (List.getElem?_eq_some_iff.1 hq).1; omega) hq hm
 rw [show ((z0.queues.map fun q => q.countP (fun z => decide (z = (p : Int)))).sum) = cntQ (p : Int) z0 from rfl]
 generalize hcq : cntQ (p : Int) z0 = CQ
 -- the lanes of all processes
 have hfewL : ∀ z ∈ s.procs, ((z.lanes[i]?).map (cntW (p : Int))).getD 0 ≤ 140737488355328 := fun z hz => by
  cases e : z.lanes[i]? with
  | none => exact Nat.zero_le _
  | some l => exact Nat.le_trans List.countP_le_length (((hS.lanes z hz).2 l (List.mem_of_getElem? e)).waiters)
 have hylen : y.Procs.len = s.procs.length := by
  obtain ⟨qs, hqs, hallq⟩ := k.st.procs
  rw [← hallq.len]; exact hqs.1
 refine loopA (n := s.procs.length) (by omega) (fun j (v : Int) h' => h' = h1 ∧ v = (((s.procs.take j).map fun z => ((z.lanes[i]?).map (cntW (p : Int))).getD 0).sum : Nat) ∧
  ∀ (r : Nat) z', r < j → s.procs[r]? = some z' → ∀ l, z'.lanes[i]? = some l → ∀ w ∈ l.waiters, w.proc = (p : Int) → OkS u z r w.value) ⟨rfl, by simp, fun _ _ hj => by omega⟩ ?_
 rintro r hr1 v3 h3 ⟨rfl, rfl, hL⟩ K3 hK3
 refine notNil (ld_at (sh := shSl) y.Procs hLS ?_)
 by_cases hlt3 : r < s.procs.length
 ·rw [if_pos (decide_eq_true (by omega))]
  have hzr := List.getElem?_eq_getElem hlt3
  generalize s.procs[r] = zr at hzr
  obtain ⟨wr, hwr, hgl⟩ := k.getLanes hzr
  have hzrl := k.sizes.2.2 zr (List.mem_of_getElem? hzr)
  have hzrs := hS.lanes zr (List.mem_of_getElem? hzr)
  obtain ⟨lr, hlr, hallr⟩ := hwr.lanes
  have hlrl : wr.Lanes.len = lr.length := hlr.1
  have hlrl2 := hallr.len
  refine notNil (ld_at (sh := shSl) y.Procs hLS (hgl ?_))
  refine Rw.fld hlr (fun _ => rfl) (by omega) (sh := shSl) (fun q => q.Waiters) (fun _ => rfl) (by omega) (by omega) fun L hL0 => ?_
  have hL0 : lr[i]? = some L := hL0
  obtain ⟨l, hl, hlL⟩ := hallr.get hL0
  obtain ⟨ws, hws, hwmap⟩ := hlL.waiters
  have hwl : L.Waiters.len = ws.length := hws.1
  have hwl2 : l.waiters.length = ws.length := by rw [← hwmap, List.length_map]
  have hwf := (hzrs.2 l (List.mem_of_getElem? hl)).waiters
  have hsum := sum_le (fun z : PProcess => ((z.lanes[i]?).map (cntW (p : Int))).getD 0) 140737488355328 (s.procs.take r) fun z hz => hfewL z (List.mem_of_mem_take hz)
  have hjl : (s.procs.take r).length ≤ 32 := by rw [List.length_take]; omega
  have hjm := Nat.mul_le_mul_right 140737488355328 hjl
  have hsn := sum_snoc (fun z : PProcess => ((z.lanes[i]?).map (cntW (p : Int))).getD 0) s.procs hzr
  rw [hl] at hsn
  have hsn : ((s.procs.take (r + 1)).map fun z : PProcess => ((z.lanes[i]?).map (cntW (p : Int))).getD 0).sum = ((s.procs.take r).map fun z : PProcess => ((z.lanes[i]?).map (cntW (p : Int))).getD 0).sum + l.waiters.countP (fun z => decide (z.proc = (p : Int))) := hsn
  generalize ((s.procs.take r).map fun z : PProcess => ((z.lanes[i]?).map (cntW (p : Int))).getD 0).sum = S at hsum hsn
  refine loopA (n := ws.length) (by omega) (fun n (v : Int) h' => h' = h3 ∧ v = ((S + (l.waiters.take n).countP (fun z => decide (z.proc = (p : Int))) : Nat) : Int) ∧ ∀ w ∈ l.waiters.take n, w.proc = (p : Int) → OkS u z r w.value) ⟨rfl, by simp, fun w e => by simp at e⟩ ?_
  rintro n hn v2 h2 ⟨rfl, rfl, hI2⟩ K2 hK2
  by_cases hlt2 : n < ws.length
  ·rw [if_pos (decide_eq_true (by omega))]
   have hwn := List.getElem?_eq_getElem hlt2
   generalize ws[n] = W at hwn
   have hWp : l.waiters[n]? = some (waiterOf W) := by rw [← hwmap, List.getElem?_map, hwn]; rfl
   have hcs := countW_snoc (p : Int) l.waiters hWp
   have hcle : (l.waiters.take n).countP (fun z => decide (z.proc = (p : Int))) ≤ n := Nat.le_trans List.countP_le_length (by rw [List.length_take]; omega)
   refine JoinW1.intro (fun (v2 : Int) h' => h' = h2 ∧ v2 = ((S + (l.waiters.take (n + 1)).countP (fun z => decide (z.proc = (p : Int))) : Nat) : Int) ∧ ∀ w ∈ l.waiters.take (n + 1), w.proc = (p : Int) → OkS u z r w.value) ?_ ?_
   ·refine Rw.fld hws (fun _ => rfl) (by omega) (sh := shInt .i64) (fun q => q.Proc) (fun _ => rfl) (by omega) (by omega) fun W' hW' => ?_
    have hW' : ws[n]? = some W' := hW'
    rw [hwn] at hW'; cases hW'
    by_cases hvp : W.Proc = (p : Int)
    ·rw [if_neg (by simp [hvp])]
     have hcs : _ = _ + 1 := hcs.trans (by rw [if_pos (show (waiterOf W).proc = (p : Int) from hvp)])
     have hval : ∀ {cnd : Bool} {K' : Int → Prop}, K' W.Value_ → ((cnd = true → (InB L.Waiters.base L.Waiters.len (n : Int))) ∧ LdW (some cnd) (shInt .i64) h2 (Addr.add (sat L.Waiters.base 2 (n : Int)) 1) K') := fun {cnd} {K'} hk => by
      obtain ⟨hin, v, hv, rfl⟩ := Rw.fld hws (fun _ => rfl) (by omega) (sh := shInt .i64) (fun q => q.Value_) (j := 1) (fun _ => rfl) (i := (n : Int)) (by omega) (by omega) (K := fun (v : Int) => v = W.Value_) fun q hq => by
       have hq : ws[n]? = some q := hq
       rw [hwn] at hq; cases hq; rfl
      exact ⟨fun _ => hin, _, fun _ => hv, hk⟩
     have hend : ∀ y2 : Bool, (y2 = true ↔ ¬ OkS u z r W.Value_) → (if y2 = true then Q false h2 else (fun (v2 : Int) h' => h' = h2 ∧ v2 = ((S + (l.waiters.take (n + 1)).countP (fun z => decide (z.proc = (p : Int))) : Nat) : Int) ∧ ∀ w ∈ l.waiters.take (n + 1), w.proc = (p : Int) → OkS u z r w.value) (IntKind.wrap .i64 (((S + (l.waiters.take n).countP (fun z => decide (z.proc = (p : Int))) : Nat) : Int) + 1)) h2) := fun y2 a2 => by
      by_cases hy2' : y2 = true
      ·rw [if_pos hy2']
       exact hq _ ⟨fun e => (by cases e), fun hh => absurd (hh.2.1 r zr hzr l hl (waiterOf W) (List.mem_of_getElem? hWp) hvp) (a2.1 hy2')⟩
      ·rw [if_neg hy2', wrap64 (by omega) (by omega)]
       refine ⟨rfl, by omega, fun w hw1 hw2 => ?_⟩
       rw [List.take_add_one, hWp] at hw1
       rcases List.mem_append.1 hw1 with hw1 | hw1
       ·exact hI2 w hw1 hw2
       ·have : w = waiterOf W := by simpa using hw1
        rw [this]
        exact Classical.not_not.1 fun hn => hy2' (a2.2 hn)
     refine fun y0 hy0 => ?_
     by_cases h24 : r2 = true ∧ r1.Op = 24
     ·obtain ⟨⟨b0, b8⟩, c0, c8⟩ := hreg h24.2 h24.1
      have hn : insP u z.pc = some (insOf r1) := by
       rcases hr with ⟨_, hn⟩ | ⟨e2, _⟩
       ·exact hn
       ·rw [h24.1] at e2; cases e2
      have hregs := hw.regs
      have hgB : z.regs[r1.B.toNat]? = some (z.regs.getD r1.B.toNat 0) := by
       have : r1.B.toNat < z.regs.length := by rw [← hregs]; simp; omega
       rw [List.getElem?_eq_getElem this, List.getD_eq_getElem?_getD, List.getElem?_eq_getElem this]; rfl
      have hgC : z.regs[r1.C.toNat]? = some (z.regs.getD r1.C.toNat 0) := by
       have : r1.C.toNat < z.regs.length := by rw [← hregs]; simp; omega
       rw [List.getElem?_eq_getElem this, List.getD_eq_getElem?_getD, List.getElem?_eq_getElem this]; rfl
      refine ⟨fun _ => ⟨b0, b8⟩, z.regs.getD r1.B.toNat 0, fun _ => ?_, fun y1 hy1 => ⟨fun _ => ⟨c0, c8⟩, z.regs.getD r1.C.toNat 0, fun _ => ?_, hval fun y2 hy2 => hend y2 ?_⟩⟩
      ·rw [← hregs]; exact regs_get w (by omega)
      ·rw [← hregs]; exact regs_get w (by omega)
      ·subst hy2 hy1 hy0
       rw [h24.1, h24.2]
       unfold OkS
       rw [hn]
       simp only [Bool.not_true, Bool.false_or, bne_self_eq_false, Bool.or_eq_true, bne_iff_ne, ne_eq]
       constructor
       ·rintro g ⟨m, e, g1, g2, g3⟩
        cases e
        have g2 : z.regs[r1.B.toNat]? = some (r : Int) := g2
        have g3 : z.regs[r1.C.toNat]? = some W.Value_ := g3
        rw [hgB] at g2; rw [hgC] at g3
        rcases g with g | g
        ·exact g (Option.some.inj g2)
        ·exact g (Option.some.inj g3)
       ·intro hcn
        refine Classical.byContradiction fun hcc => hcn ⟨_, rfl, h24.2, ?_, ?_⟩
        ·show z.regs[r1.B.toNat]? = _
         rw [hgB]
         congr 1
         exact Classical.byContradiction fun hc => hcc (.inl hc)
        ·show z.regs[r1.C.toNat]? = _
         rw [hgC]
         congr 1
         exact Classical.byContradiction fun hc => hcc (.inr hc)
     ·have e0 : y0 = true := by
       subst hy0
       cases e : r2 with
       | false => rfl
       | true => simp only [Bool.not_true, Bool.false_or, bne_iff_ne]; exact fun hc => h24 ⟨e, hc⟩
      subst e0
      refine ⟨fun e => (by cases e), 0, fun e => (by cases e), letW ⟨fun e => (by cases e), 0, fun e => (by cases e), hval (letW (hend _ ?_))⟩⟩
      simp only [Bool.true_or, true_iff]
      rintro ⟨m, e, g1, -⟩
      rcases hr with ⟨e2, hn⟩ | ⟨e2, hn⟩
      ·rw [hn] at e; cases e
       exact h24 ⟨e2, g1⟩
      ·rw [hn] at e; cases e
    ·rw [if_pos (by simpa using hvp)]
     have hcs : _ = _ + 0 := hcs.trans (by rw [if_neg (show ¬ (waiterOf W).proc = (p : Int) from hvp)])
     refine ⟨rfl, by omega, fun w hw1 hw2 => ?_⟩
     rw [List.take_add_one, hWp] at hw1
     rcases List.mem_append.1 hw1 with hw1 | hw1
     ·exact hI2 w hw1 hw2
     ·have : w = waiterOf W := by simpa using hw1
      rw [this] at hw2
      exact absurd hw2 hvp
   ·rintro v3 h3 ⟨rfl, rfl, hI3⟩
    exact hK2 hlt2 _ _ ⟨rfl, rfl, hI3⟩
  ·rw [if_neg (fun e => hlt2 (by have := of_decide_eq_true e; omega))]
   rw [List.take_of_length_le (by omega)] at hI2 ⊢
   refine hK3 hlt3 _ _ ⟨rfl, by rw [hsn], fun r' z' hr' hz' l' hl' w hw1 hw2 => ?_⟩
   by_cases hrr : r' < r
   ·exact hL r' z' hrr hz' l' hl' w hw1 hw2
   ·have : r' = r := by omega
    subst this
    rw [hzr] at hz'; cases hz'
    rw [hl] at hl'; cases hl'
    exact hI2 w hw1 hw2
 rw [if_neg (fun e => hlt3 (by have := of_decide_eq_true e; omega))]
 rw [List.take_of_length_le (by omega)]
 have hQ2 : ∀ (r : Nat) z', s.procs[r]? = some z' → ∀ l, z'.lanes[i]? = some l → ∀ w ∈ l.waiters, w.proc = (p : Int) → OkS u z r w.value := fun r z' hz' => hL r z' (by have := (List.getElem?_eq_some_iff.1 hz').1; omega) hz'
 generalize hcl : (s.procs.map fun z => ((z.lanes[i]?).map (cntW (p : Int))).getD 0).sum = CL
 have hP : WaitR s p i z u ↔ (CQ = if z.state = 3 then 1 else 0) ∧ (CL = if z.state = 2 then 1 else 0) ∧ (z.state = 1 → (∃ n, insP u z.pc = some n ∧ n.op = 25) ∧ (∀ l ∈ z.lanes, l.values = []) ∧ z.fired = false) ∧ (z.state = 4 → ∃ n, insP u z.pc = some n ∧ n.op = 28) := by
  unfold WaitR
  rw [hcl]
  constructor
  ·rintro ⟨-, -, g3, g4⟩
   exact ⟨by rw [← hcq]; exact g3 z0 hz0, g4⟩
  ·rintro ⟨g3, g4⟩
   refine ⟨fun z' hz' => ?_, hQ2, fun z' hz' => ?_, g4⟩
   ·rw [hz0] at hz'; cases hz'; exact hQ1
   ·rw [hz0] at hz'; cases hz'; rw [hcq]; exact g3
 rw [hll, hw.state, hw.fired]
 refine LoopW2.intro (fun some_ j h' => h' = h3 ∧ 0 ≤ j ∧ j ≤ (ls.length : Int) ∧ (some_ = true ↔ ∃ (i : Nat) (l : PLane), (i : Int) < j ∧ z.lanes[i]? = some l ∧ l.values ≠ [])) (fun _ j _ => (ls.length - j).toNat)
  ⟨rfl, by omega, by omega, ⟨fun e => (by cases e), fun ⟨i, l, hi, _⟩ => by omega⟩⟩ ?_
 rintro some_ j h4 ⟨rfl, j0, jle, hS2⟩
 by_cases hlt4 : j < (ls.length : Int)
 ·rw [if_pos (decide_eq_true (by omega)), ← hll]
  refine Rw.fldC hls (fun _ => rfl) (by omega) (sh := shSl) (fun q => q.Values) (fun _ => rfl) (⟨none, 0, 0⟩ : Sl) (fun _ => ⟨j0, by omega⟩) fun V hV => letW ?_
  rw [wrap64 (by omega) (by omega)]
  refine ⟨⟨rfl, by omega, by omega, ?_⟩, by omega⟩
  have hjl : j.toNat < z.lanes.length := by omega
  have hlj := List.getElem?_eq_getElem hjl
  generalize z.lanes[j.toNat] = l at hlj
  constructor
  ·intro e
   cases hs : some_ with
   | true =>
    obtain ⟨i', l', g1, g2⟩ := hS2.1 hs
    exact ⟨i', l', by omega, g2⟩
   | false =>
    rw [hs] at e hV
    obtain ⟨L, hL1, rfl⟩ := hV rfl
    obtain ⟨l', hl', hlL⟩ := hallL.get hL1
    rw [hlj] at hl'; cases hl'
    have hvl : L.Values.len = l.values.length := hlL.values.1
    refine ⟨j.toNat, l, by omega, hlj, fun e2 => ?_⟩
    rw [e2] at hvl
    rw [Bool.false_or, hvl] at e
    simp at e
  ·rintro ⟨i', l', g1, g2, g3⟩
   by_cases hij : (i' : Int) < j
   ·rw [hS2.2 ⟨i', l', hij, g2, g3⟩]; rfl
   ·have : i' = j.toNat := by omega
    subst this
    rw [hlj] at g2; cases g2
    cases hs : some_ with
    | true => rfl
    | false =>
     rw [hs] at hV
     obtain ⟨L, hL1, rfl⟩ := hV rfl
     obtain ⟨l', hl', hlL⟩ := hallL.get hL1
     rw [hlj] at hl'; cases hl'
     have hvl : L.Values.len = l.values.length := hlL.values.1
     have := List.length_pos_iff.2 g3
     rw [Bool.false_or, decide_eq_true_eq, hvl]
     omega
 rw [if_neg (fun e => hlt4 (by have := of_decide_eq_true e; omega))]
 have hsome : some_ = false ↔ ∀ l ∈ z.lanes, l.values = [] := by
  rw [← Bool.not_eq_true, hS2]
  constructor
  ·intro hn l hl
   obtain ⟨i, hi⟩ := List.getElem?_of_mem hl
   exact Classical.byContradiction fun hne => hn ⟨i, l, by have := (List.getElem?_eq_some_iff.1 hi).1; omega, hi, hne⟩
  ·rintro hh ⟨i, l, _, hl, hne⟩
   exact hne (hh l (List.mem_of_getElem? hl))
 have hop : ∀ m : Int, (r2 && (r1.Op == m)) = true ↔ ∃ n, insP u z.pc = some n ∧ n.op = m := fun m => by
  rcases hr with ⟨e2, hn⟩ | ⟨e2, hn⟩
  ·rw [e2, hn, Bool.true_and, beq_iff_eq]
   exact ⟨fun e => ⟨_, rfl, e⟩, fun ⟨n, e, g⟩ => by cases e; exact g⟩
  ·rw [e2, hn, Bool.false_and]
   exact ⟨fun e => (by cases e), fun ⟨n, e, _⟩ => by cases e⟩
 have hcnt : ∀ (A B : Nat), (((CQ : Int) == (A : Int)) && ((CL : Int) == (B : Int))) = true ↔ CQ = A ∧ CL = B := fun A B => by
  rw [Bool.and_eq_true, beq_iff_eq, beq_iff_eq]; omega
 by_cases s3 : z.state = 3
 ·rw [if_pos (by simpa using s3)]
  refine letW (hq _ ?_)
  rw [hP, s3]
  refine (hcnt 1 0).trans ?_
  simp
 rw [if_neg (by simpa using s3)]
 by_cases s2 : z.state = 2
 ·rw [if_pos (by simpa using s2)]
  refine letW (hq _ ?_)
  rw [hP, s2]
  refine (hcnt 0 1).trans ?_
  simp
 rw [if_neg (by simpa using s2)]
 by_cases s1 : z.state = 1
 ·rw [if_pos (by simpa using s1)]
  refine letW (letW (letW (letW (letW (hq _ ?_)))))
  rw [hP, s1, Bool.and_assoc (_ && _) r2, Bool.and_eq_true, Bool.and_eq_true, Bool.and_eq_true, hop, Bool.not_eq_true', Bool.not_eq_true', hsome]
  rw [show ((CQ : Int) == (0 : Int) && (CL : Int) == (0 : Int)) = true ↔ CQ = 0 ∧ CL = 0 from hcnt 0 0]
  simp only [show ¬ (1 : Int) = 3 by decide, show ¬ (1 : Int) = 2 by decide, show ¬ (1 : Int) = 4 by decide, if_false, false_implies, and_true, true_implies]
  constructor
  ·rintro ⟨⟨⟨⟨g1, g2⟩, g3⟩, g4⟩, g5⟩; exact ⟨g1, g2, g3, g4, g5⟩
  ·rintro ⟨g1, g2, g3, g4, g5⟩; exact ⟨⟨⟨⟨g1, g2⟩, g3⟩, g4⟩, g5⟩
 rw [if_neg (by simpa using s1)]
 by_cases s4 : z.state = 4
 ·rw [if_pos (by simpa using s4)]
  refine letW (letW (letW (hq _ ?_)))
  rw [hP, s4, Bool.and_assoc (_ && _) r2, Bool.and_eq_true, hop]
  rw [show ((CQ : Int) == (0 : Int) && (CL : Int) == (0 : Int)) = true ↔ CQ = 0 ∧ CL = 0 from hcnt 0 0]
  simp only [show ¬ (4 : Int) = 3 by decide, show ¬ (4 : Int) = 2 by decide, show ¬ (4 : Int) = 1 by decide, if_false, false_implies, true_and, true_implies, and_assoc]
 rw [if_neg (by simpa using s4)]
 refine letW (hq _ ?_)
 rw [hP, if_neg s3, if_neg s2]
 refine (hcnt 0 0).trans ⟨fun g => ⟨g.1, g.2, fun e => absurd e s1, fun e => absurd e s4⟩, fun g => ⟨g.1, g.2.1⟩⟩
end
end Lf

namespace Lf
open Go Go.Proofs
theorem MayIs.uniq {c : PCfg} {s : PState} {e e' : Int} (h : MayIs c s e) (h' : MayIs c s e') : e = e' := by
 rcases h with ⟨h1, rfl⟩ | ⟨h1, h2⟩
 ·rcases h' with ⟨_, rfl⟩ | ⟨h3, _⟩
  ·rfl
  ·exact absurd h3 h1
 ·rcases h' with ⟨h3, _⟩ | ⟨_, h4⟩
  ·exact absurd h1 h3
  ·rcases h2 with ⟨rfl, a⟩ | ⟨rfl, a⟩ <;> rcases h4 with ⟨rfl, b⟩ | ⟨rfl, b⟩
   ·rfl
   ·exact absurd a b
   ·exact absurd b a
   ·rfl
theorem SnapErr.uniq {bs : List UInt8} {e e' : Int} {p p' : Nat} (h : SnapErr bs e p) (h' : SnapErr bs e' p') : e = e' ∧ p = p' := by
 rcases h with h | ⟨c, s, h, rfl, hm⟩ <;> rcases h' with h' | ⟨c', s', h', rfl, hm'⟩
 ·rw [h] at h'; cases h'; exact ⟨rfl, rfl⟩
 ·rw [h] at h'; cases h'
 ·rw [h] at h'; cases h'
 ·rw [h] at h'; cases h'
  exact ⟨hm.uniq hm', rfl⟩
theorem SnapErr.not_ok {bs : List UInt8} {e : Int} {p : Nat} {c : PCfg} {s : PState} (h : SnapErr bs e p) (he : e ≠ 0) (hw : whole1 snapD bs = .ok (c, s)) (h0 : (cfgE c).1 = 0) (hM : MayP c s) : False := by
 rcases h with h | ⟨c', s', h, rfl, hm⟩
 ·rw [h] at hw; cases hw
 ·rw [h] at hw; cases hw
  exact he (hm.uniq (.inr ⟨h0, .inl ⟨rfl, hM⟩⟩))
theorem Few.le {c : PCfg} (h : CfgV c) : CfgLe c := by
 obtain ⟨_, h2⟩ := (cfgV_iff (mayP_lab c)).2 h
 obtain ⟨e1, _, e3, _, _, _, e7, _, _, e10, e11⟩ := cfgP_zero.1 h2
 have e1' := (mayP_zero.1 e1).2.1
 exact ⟨by omega, by omega, by omega, fun p hp => by have := ((codeP_zero ⟨e7.1, e7.2⟩).1 (e11 p hp).2).1; omega⟩
theorem StateV.le {c : PCfg} {s : PState} (few : Few c) (h : StateV c s) : StLe s := by
 obtain ⟨_, a1, a2, _⟩ := h
 obtain ⟨b1, b2⟩ := manyV_of a1
 obtain ⟨b3, b4⟩ := manyV_of a2
 have f1 := few.nl
 have f2 := few.np
 have f3 := few.locks
 refine ⟨by omega, by omega, fun x hx => ?_, fun x hx => ?_⟩
 ·obtain ⟨_, ⟨⟨_, h2⟩, _⟩, _, _, _, ⟨xs, g1, g2, g3⟩, g4⟩ := b2 x hx
  rw [List.nil_append] at g1
  have g3 := (manyV_all (V := LockV (c.procs.length : Int)) xs []).1 g3
  have hq : x.queues.length = xs.length := by rw [← g1, List.length_zip, g4]; simp
  have h2 : ((x.log.length : Nat) : Int) < 65536 := h2
  refine ⟨by omega, by omega, by omega, fun q hq => ?_⟩
  obtain ⟨z, hz1, hz2⟩ := mem_zip g4 q hq
  rw [g1] at hz1
  obtain ⟨_, ⟨⟨_, h3⟩, _⟩, _⟩ := g3 z hz1
  have h3 : ((z.2.length : Nat) : Int) < 256 := h3
  rw [← hz2]
  omega
 ·obtain ⟨_, _, _, _, _, _, _, g1, _⟩ := b4 x hx
  obtain ⟨g2, g3⟩ := manyV_of g1
  refine ⟨by omega, fun l hl => ?_⟩
  obtain ⟨⟨⟨_, h1⟩, _⟩, _, ⟨⟨_, h2⟩, _⟩, _⟩ := g3 l hl
  have h1 : ((l.values.length : Nat) : Int) < 256 := h1
  have h2 : ((l.waiters.length : Nat) : Int) < 256 := h2
  exact ⟨by omega, by omega⟩
def plainC : PCfg := ⟨[0], [0], 1, 1, 0, 0, [⟨0, []⟩]⟩
def plainLane : PLane := ⟨[], [], 0, 0⟩
def plainS : PState := ⟨0, [⟨0, [], 0, 0, [], []⟩], [⟨0, 0, [0, 0, 0, 0, 0, 0, 0, 0], 0, 0, false, 0, [plainLane, plainLane]⟩]⟩
theorem one_get {α : Type} {x y : α} {i : Nat} (h : [x][i]? = some y) : i = 0 ∧ y = x := by
 cases i with
 | zero => simp at h; exact ⟨rfl, h.symm⟩
 | succ i => simp at h
theorem plain_cfg : (cfgE plainC).1 = 0 := by decide
theorem plain_may : MayP plainC plainS := by
 refine ⟨⟨⟨by decide, by decide⟩, rfl, rfl⟩, fun i x hx => ?_, fun p x y hx hy => ?_, ?_, ?_, ?_⟩
 ·obtain ⟨rfl, rfl⟩ := one_get hx
  exact ⟨⟨by decide, by decide, by decide⟩, trivial, ⟨by decide, by decide⟩, ⟨by decide, by decide⟩, by decide, by decide, by decide, fun p hp => by cases hp⟩
 ·obtain ⟨rfl, rfl⟩ := one_get hx
  obtain ⟨_, rfl⟩ := one_get hy
  refine ⟨by decide, by decide, rfl, by decide, by decide, by decide, by decide, by decide, fun i l hl => ?_, fun e => absurd e (by decide), fun e => absurd e (by decide), fun e => absurd e (by decide), fun e => absurd e (by decide)⟩
  have : l = plainLane := by
   have := List.mem_of_getElem? hl
   simpa using this
  subst this
  refine ⟨by decide, ⟨by decide, by decide⟩, ⟨by decide, by decide⟩, fun hu => ?_⟩
  rcases hu with hu | hu | hu
  ·exact absurd rfl hu
  ·exact absurd hu (by decide)
  ·exact absurd hu (by decide)
 ·intro i x hx k q hq
  obtain ⟨rfl, rfl⟩ := one_get hx
  simp at hq
 ·intro r x y hx hy i l hl w hw
  obtain ⟨rfl, rfl⟩ := one_get hx
  have : l = plainLane := by
   have := List.mem_of_getElem? hl
   simpa using this
  subst this
  cases hw
 ·intro p x hx
  obtain ⟨rfl, rfl⟩ := one_get hx
  decide
theorem plain_len : (snapB plainC plainS).length = 147 := by decide +kernel
theorem plain_back : whole1 snapD (snapB plainC plainS) = .ok (plainC, plainS) := by kernel_rfl
theorem plain_bad : whole1 snapD [70, 66, 83, 78, 2] = .error (4, 4) := by kernel_rfl
end Lf

namespace Lf
open Go Go.Proofs
theorem newB3 {h : Hp} {cs : List Value} {K : Addr → Hp → Prop} (hk : ∀ b h', h ≤ h' → Blk h' b cs → K ⟨b, 0, none⟩ h') : NewW cs K h := fun b t hn => hk b _ (set_new hn) ⟨t, set_self⟩
theorem Blk.rows {α : Type} {h : Hp} {b : Nat} {cs : List Value} {sz : Nat} {enc : α → List Value} (k : Blk h b cs) (xs : List α) {n m : Nat} (hc : cs = xs.flatMap enc) (hn : n = xs.length) (henc : ∀ x, (enc x).length = sz) : Rw h sz enc ⟨some ⟨b, 0, none⟩, n, m⟩ xs := by
 refine ⟨hn, by rw [flat_len henc], .inr ⟨_, rfl, ?_⟩⟩
 refine k.ldIs (off := 0) (n := cs.length) ?_
 rw [List.drop_zero, List.take_length, hc]
theorem nil_rows {α : Type} {h : Hp} {sz : Nat} {enc : α → List Value} : Rw h sz enc ⟨none, 0, 0⟩ ([] : List α) := ⟨rfl, by simp, .inl (by simp)⟩
def lane0 : S_api_Lane := ⟨⟨none, 0, 0⟩, ⟨none, 0, 0⟩, 0, 0⟩
theorem lane0_at {h : Hp} : LaneAt h lane0 plainLane := ⟨nil_rows, ⟨[], nil_rows, rfl⟩, rfl, rfl⟩
theorem plain_ok {P : Program} {h : Hp} {Q : S_api_Config → S_api_State → Hp → Prop} (hq : ∀ x y h', h ≤ h' → CfgAt h' x plainC → StateAt h' y plainS → Q x y h') : firebreaklaw22_plain_w P Q h := by
 unfold firebreaklaw22_plain_w
 refine newB3 fun a h1 l1 k1 => newB3 fun a1 h2 l2 k2 => newB3 fun a2 h3 l3 k3 => newB3 fun a3 h4 l4 k4 => newB3 fun a4 h5 l5 k5 => newB3 fun a5 h6 l6 k6 => ?_
 have q1 := (((((k1.le l2).le l3).le l4).le l5).le l6)
 have q2 := ((((k2.le l3).le l4).le l5).le l6)
 have q3 := (((k3.le l4).le l5).le l6)
 have q4 := ((k4.le l5).le l6)
 have q5 := (k5.le l6)
 have hle : h ≤ h6 := Hp.le_trans l1 (Hp.le_trans l2 (Hp.le_trans l3 (Hp.le_trans l4 (Hp.le_trans l5 l6))))
 refine hq _ _ h6 hle ⟨?_, ?_, rfl, rfl, rfl, rfl, [⟨0, ⟨none, 0, 0⟩⟩], ?_, ⟨rfl, [], nil_rows, rfl⟩, trivial⟩ ⟨rfl, ⟨[⟨0, ⟨none, 0, 0⟩, 0, 0, ⟨none, 0, 0⟩, ⟨none, 0, 0⟩⟩], ?_, ⟨rfl, ⟨[], nil_rows, rfl⟩, rfl, rfl, nil_rows, [], nil_rows, trivial⟩, trivial⟩,
  [⟨0, 0, 0, 0, 0, 0, 0, 0, 0, 0, 0, 0, false, 0, ⟨some ⟨a4, 0, none⟩, 2, 2⟩⟩], ?_, ⟨rfl, rfl, rfl, rfl, rfl, rfl, rfl, [lane0, lane0], ?_, lane0_at, lane0_at, trivial⟩, trivial⟩
 ·exact q1.rows [(0 : Int)] rfl rfl fun _ => rfl
 ·exact q2.rows [(0 : Int)] rfl rfl fun _ => rfl
 ·exact q3.rows [(⟨0, ⟨none, 0, 0⟩⟩ : S_api_Proc)] rfl rfl fun _ => rfl
 ·exact q4.rows [(⟨0, ⟨none, 0, 0⟩, 0, 0, ⟨none, 0, 0⟩, ⟨none, 0, 0⟩⟩ : S_api_Part)] rfl rfl fun _ => rfl
 ·exact k6.rows [(⟨0, 0, 0, 0, 0, 0, 0, 0, 0, 0, 0, 0, false, 0, ⟨some ⟨a4, 0, none⟩, 2, 2⟩⟩ : S_api_Process)] rfl rfl fun _ => rfl
 ·exact q5.rows [lane0, lane0] rfl rfl fun _ => rfl
set_option maxRecDepth 20000 in
theorem awake22_ok {h : Hp} {Q : Bool → Hp → Prop} (hq : ∀ h', h ≤ h' → Q true h') : firebreaklaw22_awake_w Tryz.prog Q h := by
 unfold firebreaklaw22_awake_w
 refine firebreaklaw22_plain_call (plain_ok fun x y h1 l1 cx sy => ?_)
 have hev : (evs plainS).length ≤ 1152921504606846976 := by decide +kernel
 refine snap_Encode_call (snapEncode_ok cx sy (fun l hl => by simp [plainC] at hl; subst hl; exact ⟨by decide, by decide⟩) (fun _ _ _ _ => hev) (fun _ _ => by rw [plain_len]; decide) (fun e h2 _ he hm => ?_) fun _ _ out h2 l2 o2 => ?_)
 ·exact absurd (hm.uniq (.inr ⟨plain_cfg, .inl ⟨rfl, plain_may⟩⟩)) he
 have ob := o2.rw eB_len
 have hol : out.len = 147 := by rw [ob.1, plain_len]
 refine snap_Decode_call (snapDecode_ok ob o2.2.1 (fun e p h3 _ he hs => (hs.not_ok he plain_back plain_cfg plain_may).elim) fun u v c s B1 B2 h3 l3 hw _ _ oc os _ _ => ?_)
 rw [plain_back] at hw
 cases hw
 refine mark_ok [70, 66, 83, 78, 2] rfl rfl fun am h5 l5 bm => ?_
 refine snap_Decode_call (snapDecode_ok bm (by simp) (fun e p h6 l6 he hs => ?_) fun u' v' c s B1 B2 h6 _ hw _ _ _ _ _ _ => by rw [plain_bad] at hw; cases hw)
 obtain ⟨rfl, rfl⟩ := hs.uniq (.inl plain_bad)
 refine letW (letW (letW ?_))
 rw [hol]
 have l13 := Hp.le_trans l2 (Hp.le_trans l3 (Hp.le_trans l5 l6))
 have l36 := Hp.le_trans l5 l6
 have hcl : CfgLe plainC := ⟨by decide, by decide, by decide, fun p hp => by simp [plainC] at hp; subst hp; decide⟩
 have hsl : StLe plainS := by
  refine ⟨by decide, by decide, fun x hx => ?_, fun x hx => ?_⟩
  ·simp [plainS] at hx; subst hx
   exact ⟨by decide, by decide, by decide, fun q hq => by cases hq⟩
  ·simp [plainS] at hx; subst hx
   refine ⟨by decide, fun l hl => ?_⟩
   simp at hl; subst hl
   exact ⟨by decide, by decide⟩
 refine ⟨fun _ => firebreakref14_Same_call (same14_ok (cx.mono l13) (oc.rd.mono l36) hcl ?_), fun e => (by simp at e)⟩
 refine letW ⟨fun _ => firebreakref18_Same_call (same18_ok (sy.mono l13) (os.rd.mono l36) hsl ?_), fun e => (by simp at e)⟩
 refine letW (letW (letW ?_))
 exact hq h6 (Hp.le_trans l1 l13)
end Lf

namespace Lf
open Go Go.ChangeShapes Go.WideShapes Go.ChangeAt Go.RowKit
def whole (W : World) : Hp := fun b => W.heap[b]?
theorem whole_sub (W : World) : Sub (whole W) W := fun _ _ e => e
theorem hcell_whole (W : World) (a : Addr) : hcell (whole W) a = W.cell? a := rfl
theorem below_of_step {W W' : World} {h' : Hp} (hle : whole W ≤ h') (st : Step (whole W) h' W W') : Below W.heap.size W W' :=
  ⟨st.os, st.tape, st.output, st.size, fun k hk => by
    cases e : W.heap[k]? with
    | some o => exact st.sub _ _ (hle _ _ e)
    | none => simp at e; omega⟩
theorem trodAll_stays {H : Type} {enc : TypeId × Value → H} {P : Program} (hl : laidOutB P = true) {W W' : World} {sp : Nat → Bool} (hb : Below W.heap.size W W') : ∀ {ts : List TypeId} {vs : List Value} {ds : List (DataW H)} {ps : List MemPlace},
    (∀ t ∈ ts, P.readableRec t = true ∧ t < P.types.size) → DataW.TrodAll enc P W 0 (fun _ => true) true ts vs ds ps → (∀ x ∈ ps, x.block < W.heap.size) → (∀ x ∈ ps, sp x.block = true) → DataW.TrodAll enc P W' 0 sp true ts vs ds ps
  | [], _, _, _, _, h, _, _ => by
    obtain ⟨rfl, rfl, rfl⟩ := trodAll_nil h
    exact trodAll_mk0
  | t :: ts, _, _, _, hr, h, hlt, hs => by
    obtain ⟨v, vs, d, ds, p, q, rfl, rfl, rfl, h1, h2⟩ := trodAll_cons h
    obtain ⟨hr1, hr2⟩ := hr t (List.mem_cons_self ..)
    exact ⟨p, q, WideElems.Trod_stays hl hr1 hr2 h1 (fun x hx => hb.same (hlt x (List.mem_append_left _ hx))) (fun x hx => hs x (List.mem_append_left _ hx)),
      trodAll_stays hl hb (fun t ht => hr t (List.mem_cons_of_mem _ ht)) h2 (fun x hx => hlt x (List.mem_append_right _ hx)) (fun x hx => hs x (List.mem_append_right _ hx)), rfl⟩
theorem law_post {H : Type} {enc : TypeId × Value → H} {P : Program} {f : Func} {s : ChangeSpec} {W W' : World} {h' : Hp} {args : Array Value} {ds gs : List (DataW H)} {before : List MemPlace} {t : TypeId} (hl : laidOutB P = true)
    (hrd : ∀ t ∈ f.params.toList, P.readableRec t = true ∧ t < P.types.size) (hvars : s.vars = []) (hres : f.resultTypes = #[t]) (ht : P.underlying t = some .bool)
    (hfn : gs = [] → s.fn H (ds ++ gs) = { results := [.lit (.bool true)], args := ds }) (hW : DataW.Whole enc P f.params.toList s.vars false W args.toList ds gs before) (hle : whole W ≤ h') (st : Step (whole W) h' W W') :
    s.post enc P f false true false false W args (.bool true) W' := by
  have hb := below_of_step hle st
  have hlt : ∀ p ∈ before, p.block < W.heap.size := fun p hp => hW.lt p hp
  have hW' := hW
  obtain ⟨p, q, hA, hV, rfl, hfz, hnd⟩ := hW'
  rw [hvars] at hV
  obtain ⟨rfl, rfl⟩ := trodVars_none hV
  rw [List.append_nil] at hlt
  have hsp := hfn rfl
  refine ⟨ds, [], p ++ [], [], p, [], hW, ?_, ?_, ?_, Below.frame hb _, fun e => (by cases e)⟩
  · rw [hsp, hres]
    exact trodAll_mk1 (shut_bool ht true)
  · rw [hsp]
    exact trodAll_stays hl hb hrd hA hlt (fun x hx => by simpa using hlt x hx)
  · rw [hsp, hvars]
    exact rfl
theorem law_liftedS {H : Type} {enc : TypeId × Value → H} {C : Checked} {os : Os} {f : FuncId} {fn : Func} {s : ChangeSpec} {t : TypeId} (own : ownKnob C.prog.godebug = none) (started : os.Started) (noInit : C.prog.inits.idxOf? f = none) (hf : C.prog.funcs[f]? = some fn)
    (witness : ∃ (w : World) (tape : Tape) (i : Input), w.os = os ∧ (w.forCall tape i).Shaped C.prog ∧ i.vars = [] ∧ Input.okWide C.prog (w.forCall tape i) .any w.heap.size f i ∧
      s.pre6 enc C.prog fn [] false (w.forCall tape i).memory i.args ∧ ({} : Assume).holds C.prog (lone (Frame.enter C.prog f i.args .normal) [] (w.forCall tape i)))
    (hl : laidOutB C.prog = true) (hrd : ∀ t ∈ fn.params.toList, C.prog.readableRec t = true ∧ t < C.prog.types.size) (hvars : s.vars = []) (hres : fn.resultTypes = #[t]) (ht : C.prog.underlying t = some .bool)
    (walk : ∀ (W : World) (base : Nat) (args : Array Value) (ds : List (DataW H)) (p : List MemPlace), (∀ (j : Nat) t v, fn.params[j]? = some t → args[j]? = some v → Value.okWide C.prog W .any base t v) → DataW.TrodAll enc C.prog W 0 (fun _ => true) true fn.params.toList args.toList ds p →
      (DataW.weightsEach C.prog fn.params.toList ds).all (· ≤ reachBytes) = true →
      s.fn H ds = { results := [.lit (.bool true)], args := ds } ∧ CallT C.prog f args.toList shBool (fun r h' => r = true ∧ whole W ≤ h') (whole W)) :
    ReturnsInHanded {} C os f .any (s.pre6 enc C.prog fn [] false) (s.post enc C.prog fn false true false false) := by
  refine returnsInHanded_of_change_sized own started noInit hf witness ?_
  intro W base args ds gs before hval hW hcnd hsz _
  have hW' := hW
  obtain ⟨p, q, hA, hV, _, hfz, hnd⟩ := hW'
  have hgs : gs = [] := by
    rw [hvars] at hV
    exact (trodVars_none hV).1
  subst hgs
  have hvt : s.plain.varTypes C.prog = [] := by
    unfold ChangeSpec.plain DataSpec.varTypes
    rw [hvars]
    rfl
  rw [hvt, List.append_nil, List.append_nil] at hsz
  obtain ⟨hsp, hc⟩ := walk W base args ds p hval hA hsz
  have hc' := hc W (whole_sub W)
  simp only [Array.toArray_toList] at hc'
  refine hc'.mono fun e W' hh => ?_
  obtain ⟨v, h', rfl, ⟨x, rfl, rfl, hle⟩, hst⟩ := hh
  exact ⟨_, rfl, law_post hl hrd hvars hres ht (fun e => by rw [e, List.append_nil]; exact hsp) hW hle hst⟩
theorem inU_wf {x : Int} (h : (Lit.int .u64 x).wf = true) : 0 ≤ x ∧ x < 18446744073709551616 := by
  simp [Lit.wf, IntKind.min, IntKind.max, IntKind.signed, IntKind.bits] at h
  omega
theorem inI_wf {x : Int} (h : (Lit.int .i64 x).wf = true) : -9223372036854775808 ≤ x ∧ x ≤ 9223372036854775807 := by
  simp [Lit.wf, IntKind.min, IntKind.max, IntKind.signed, IntKind.bits] at h
  omega
end Lf

namespace Lf
open Go Go.Proofs Go.ChangeShapes Go.WideShapes Go.ChangeAt Go.RowKit
section
variable {H : Type} {enc : TypeId × Value → H} {P : Program} {W : World}
def Lits (enc : TypeId × Value → H) (P : Program) (W : World) (t : TypeId) (R : List Value → Prop) : Prop :=
 ∀ fuel cs y, DataW.trod enc P W 0 (fun _ => true) true fuel t cs = some y → (DataW.weights P t y.1).all (· ≤ reachBytes) = true → R cs
theorem lits_int {t : TypeId} {k : IntKind} (ht : P.underlying t = some (.int k)) : Lits enc P W t fun cs => ∃ n, cs = [.int k n] ∧ (Lit.int k n).wf = true := fun fuel cs y h _ => by
 obtain ⟨n, h1, _, h2⟩ := DataW.trod_int ht h
 exact ⟨n, h1, h2⟩
theorem lits_bool {t : TypeId} (ht : P.underlying t = some .bool) : Lits enc P W t fun cs => ∃ b, cs = [.bool b] := fun fuel cs y h _ => by
 obtain ⟨b, h1, _⟩ := DataW.trod_bool ht h
 exact ⟨b, h1⟩
theorem all_app {l m : List Nat} {p : Nat → Bool} (h : (l ++ m).all p = true) : l.all p = true ∧ m.all p = true := by
 rw [List.all_append, Bool.and_eq_true] at h
 exact h
theorem wAll {e : TypeId} : ∀ {l : List (DataW H)} {d : DataW H}, d ∈ l → (DataW.weightsAll P e l).all (· ≤ reachBytes) = true → (DataW.weights P e d).all (· ≤ reachBytes) = true
 | d :: r, d', hm, h => by
  rw [DataW.weightsAll] at h
  obtain ⟨h1, h2⟩ := all_app h
  rcases List.mem_cons.1 hm with rfl | hm
  ·exact h1
  ·exact wAll hm h2
theorem wEach : ∀ {ts : List TypeId} {ds : List (DataW H)} {i : Nat} {t : TypeId} {d : DataW H}, ts[i]? = some t → ds[i]? = some d → (DataW.weightsEach P ts ds).all (· ≤ reachBytes) = true → (DataW.weights P t d).all (· ≤ reachBytes) = true
 | [], _, i, t, d, h, _, _ => by simp at h
 | _ :: _, [], i, t, d, _, h, _ => by simp at h
 | t :: ts, d :: ds, 0, t', d', h1, h2, h => by
  simp at h1 h2
  subst h1 h2
  rw [DataW.weightsEach] at h
  exact (all_app h).1
 | t :: ts, d :: ds, i + 1, t', d', h1, h2, h => by
  rw [DataW.weightsEach] at h
  exact wEach (by simpa using h1) (by simpa using h2) (all_app h).2
theorem str_fld {t : TypeId} {fs : Array Field} {fuel : Nat} {cs : List Value} {y : DataW H × List MemPlace} (ht : P.underlying t = some (.struct fs)) (h : DataW.trod enc P W 0 (fun _ => true) true fuel t cs = some y) (hw : (DataW.weights P t y.1).all (· ≤ reachBytes) = true)
  {i n off : Nat} {f : Field} {R : List Value → Prop} (hf : fs[i]? = some f) (ho : f.offset = off) (hc : P.cellsOf f.type = n) (hR : Lits enc P W f.type R) : R ((cs.drop off).take n) := by
 subst ho
 obtain ⟨xs, m, _, rfl, hl, hlen, hfs⟩ := DataW.trod_struct ht h
 have h1 := hfs i f hf
 have hil : i < xs.length := by rw [hlen]; exact (Array.getElem?_eq_some_iff.1 hf).1
 rw [List.getElem?_eq_getElem hil, hc] at h1
 refine hR m _ _ h1 ?_
 dsimp only at hw
 rw [DataW.weights, ht] at hw
 refine wEach (i := i) (ts := fs.toList.map (·.type)) ?_ ?_ hw
 ·rw [List.getElem?_map, Array.getElem?_toList, hf]; rfl
 ·rw [List.getElem?_map, List.getElem?_eq_getElem hil]; rfl
theorem str_len {t : TypeId} {fs : Array Field} {fuel : Nat} {cs : List Value} {y : DataW H × List MemPlace} (ht : P.underlying t = some (.struct fs)) (h : DataW.trod enc P W 0 (fun _ => true) true fuel t cs = some y) : cs.length = P.cellsOf t := by
 obtain ⟨xs, m, _, rfl, hl, hlen, hfs⟩ := DataW.trod_struct ht h
 exact hl
theorem cut_cons {cs a : List Value} {off n m : Nat} (h : (cs.drop off).take n = a) (hm : off + n = m) : cs.drop off = a ++ cs.drop m := by
 rw [← hm, ← h, ← List.drop_drop, List.take_append_drop]
structure SlIn {α : Type} (W : World) (sz : Nat) (en : α → List Value) (good : α → Prop) (l : Sl) (xs : List α) : Prop where
 rw_ : Rw (whole W) sz en l xs
 cap : l.len ≤ l.cap
 most : l.cap ≤ 9223372036854775807
 few : xs.length ≤ 140737488355328
 all : ∀ x ∈ xs, good x
theorem lits_slice {t e : TypeId} {α : Type} (ht : P.underlying t = some (.slice e)) (en : α → List Value) (good : α → Prop) {sz : Nat} (hsz : P.cellsOf e = sz) (hb : 0 < P.bytesOf e) (he : Lits enc P W e fun cs => ∃ x, cs = en x ∧ good x) (henc : ∀ x, (en x).length = sz) :
  Lits enc P W t fun cs => ∃ (l : Sl) (xs : List α), cs = [l.v] ∧ SlIn W sz en good l xs := by
 intro fuel cs y h hw
 subst hsz
 rcases DataW.trod_slice ht h with ⟨h0, _⟩ | ⟨a, len0, cap0, elems, rest, n, _, h0, hd0, hb0, hl, hm, hlen, hel', _, _⟩
 ·exact ⟨⟨none, 0, 0⟩, [], h0, ⟨⟨rfl, by simp, .inl (by simp)⟩, Nat.le_refl _, by simp, by simp, fun x hx => by cases hx⟩⟩
 ·subst hd0
  dsimp only at hw
  rw [DataW.weights, ht] at hw
  dsimp only at hw
  rw [List.all_cons, Bool.and_eq_true, decide_eq_true_eq] at hw
  obtain ⟨hw1, hw2⟩ := hw
  have hw2 := (all_app hw2).1
  have each : ∀ i, i < len0 → ∃ x, good x ∧ LdIs (whole W) (a.add (i * P.cellsOf e)) (en x) := by
   intro i hi
   have h1 := hel' i hi
   have h2 : elems[i]? = some elems[i] := List.getElem?_eq_getElem (by omega)
   rw [h2] at h1
   cases hc : W.cells? 0 (a.add (i * P.cellsOf e)) (P.cellsOf e) with
   | none => rw [hc] at h1; cases h1
   | some cs =>
    rw [hc] at h1
    obtain ⟨_, hcl, hcc⟩ := World.cells?_some hc
    obtain ⟨x, hx, hg⟩ := he n cs _ h1 (wAll (List.mem_map.2 ⟨elems[i], List.mem_of_getElem? h2, rfl⟩) hw2)
    refine ⟨x, hg, fun j v hj => ?_⟩
    have hjl : j < (en x).length := (List.getElem?_eq_some_iff.1 hj).1
    rw [hcell_whole, hcc j (by rw [← henc x]; exact hjl), hx]
    exact hj
  have build : ∀ m, m ≤ len0 → ∃ xs : List α, xs.length = m ∧ (∀ x ∈ xs, good x) ∧ ∀ i x, xs[i]? = some x → LdIs (whole W) (a.add (i * P.cellsOf e)) (en x) := by
   intro m
   induction m with
   | zero => intro _; exact ⟨[], rfl, fun x hx => (by cases hx), fun i x hx => (by simp at hx)⟩
   | succ m ih =>
    intro hm'
    obtain ⟨xs, h1, h2, h3⟩ := ih (by omega)
    obtain ⟨x, hg, hx⟩ := each m (by omega)
    refine ⟨xs ++ [x], by simp [h1], fun y hy => ?_, fun i y hy => ?_⟩
    ·rcases List.mem_append.1 hy with hy | hy
     ·exact h2 y hy
     ·rw [List.mem_singleton.1 hy]; exact hg
    ·by_cases hi : i < xs.length
     ·rw [List.getElem?_append_left hi] at hy
      exact h3 i y hy
     ·rw [List.getElem?_append_right (by omega)] at hy
      have : i - xs.length = 0 := by
       have := (List.getElem?_eq_some_iff.1 hy).1
       simp at this
       omega
      rw [this] at hy
      simp at hy
      subst hy
      have : i = m := by omega
      rw [this]
      exact hx
  obtain ⟨xs, h1, h2, h3⟩ := build len0 (Nat.le_refl _)
  refine ⟨⟨some a, len0, cap0⟩, xs, h0, ⟨⟨h1.symm, flat_len henc xs, .inr ⟨a, rfl, fun i v hv => ?_⟩⟩, hl, hm, ?_, h2⟩⟩
  ·obtain ⟨q, x, j, hq, hj, e1⟩ := flat_at henc xs i v hv
   rw [e1]
   rw [← add_add]
   exact h3 q x hq j v hj
  ·have h4 : reachBytes ≤ 140737488355328 := by decide
   rw [List.length_map, List.length_map] at hw1
   have h5 : elems.length + rest.length ≤ (elems.length + rest.length) * P.bytesOf e := Nat.le_mul_of_pos_right _ hb
   omega
theorem lits_row8 {t e : TypeId} (ht : P.underlying t = some (.array 8 e)) (he : P.underlying e = some (.int .i64)) (hc : P.cellsOf e = 1) (hct : P.cellsOf t = 8) :
  Lits enc P W t fun cs => ∃ a0 a1 a2 a3 a4 a5 a6 a7 : Int, cs = [.int .i64 a0, .int .i64 a1, .int .i64 a2, .int .i64 a3, .int .i64 a4, .int .i64 a5, .int .i64 a6, .int .i64 a7] ∧ ∀ v ∈ [a0, a1, a2, a3, a4, a5, a6, a7], I64 v := by
 intro fuel cs y h _
 obtain ⟨xs, m, _, rfl, hl, hlen, hfs⟩ := DataW.trod_array ht h
 rw [hct] at hl
 have hone : ∀ i, i < 8 → ∃ n, (cs.drop i).take 1 = [.int .i64 n] ∧ I64 n := fun i hi => by
  have h1 := hfs i hi
  rw [List.getElem?_eq_getElem (by omega), hc, Nat.mul_one] at h1
  obtain ⟨n, hn, _, hw⟩ := DataW.trod_int he h1
  have := inI_wf hw
  exact ⟨n, hn, by unfold I64; omega⟩
 obtain ⟨a0, h0, g0⟩ := hone 0 (by omega)
 obtain ⟨a1, h1, g1⟩ := hone 1 (by omega)
 obtain ⟨a2, h2, g2⟩ := hone 2 (by omega)
 obtain ⟨a3, h3, g3⟩ := hone 3 (by omega)
 obtain ⟨a4, h4, g4⟩ := hone 4 (by omega)
 obtain ⟨a5, h5, g5⟩ := hone 5 (by omega)
 obtain ⟨a6, h6, g6⟩ := hone 6 (by omega)
 obtain ⟨a7, h7, g7⟩ := hone 7 (by omega)
 refine ⟨a0, a1, a2, a3, a4, a5, a6, a7, ?_, by simp [g0, g1, g2, g3, g4, g5, g6, g7]⟩
 have e : cs = cs.drop 0 := rfl
 rw [e, cut_cons (m := 1) h0 rfl, cut_cons (m := 2) h1 rfl, cut_cons (m := 3) h2 rfl, cut_cons (m := 4) h3 rfl, cut_cons (m := 5) h4 rfl, cut_cons (m := 6) h5 rfl, cut_cons (m := 7) h6 rfl, cut_cons (m := 8) h7 rfl, List.drop_of_length_le (by omega)]
 rfl
end
end Lf

namespace Lf
open Go Go.Proofs Go.ChangeShapes Go.WideShapes Go.ChangeAt Go.RowKit
section
variable {H : Type} {enc : TypeId × Value → H} {W : World}
theorem li : Lits enc Tryz.prog W 3 fun cs => ∃ n, cs = [.int .i64 n] ∧ (Lit.int .i64 n).wf = true := lits_int (tb_ok.und 3 ty3 rfl)
theorem li64 : Lits enc Tryz.prog W 2 fun cs => ∃ n, cs = [.int .i64 n] ∧ (Lit.int .i64 n).wf = true := lits_int (tb_ok.und 2 ty2 rfl)
theorem lu64 : Lits enc Tryz.prog W 80 fun cs => ∃ n, cs = [.int .u64 n] ∧ (Lit.int .u64 n).wf = true := lits_int (tb_ok.und 80 ty80 rfl)
theorem i64_wf {x : Int} (h : (Lit.int .i64 x).wf = true) : I64 x := by
 have := inI_wf h
 unfold I64
 omega
abbrev eI (x : Int) : List Value := cellsL ((shInt .i64).enc x)
abbrev eU (x : Int) : List Value := cellsL ((shInt .u64).enc x)
abbrev eIns (x : S_api_Ins) : List Value := cellsL (sh_api_Ins.enc x)
abbrev eProc (x : S_api_Proc) : List Value := cellsL (sh_api_Proc.enc x)
abbrev eWait (x : S_api_Waiter) : List Value := cellsL (sh_api_Waiter.enc x)
abbrev eEnt (x : S_api_Entry) : List Value := cellsL (sh_api_Entry.enc x)
abbrev eLane (x : S_api_Lane) : List Value := cellsL (sh_api_Lane.enc x)
abbrev eProcess (x : S_api_Process) : List Value := cellsL (sh_api_Process.enc x)
abbrev ePart (x : S_api_Part) : List Value := cellsL (sh_api_Part.enc x)
abbrev eSl (x : Sl) : List Value := cellsL (shSl.enc x)
theorem c_int : Tryz.prog.cellsOf 3 = 1 := by kernel_rfl
theorem c_int64 : Tryz.prog.cellsOf 2 = 1 := by kernel_rfl
theorem c_uint64 : Tryz.prog.cellsOf 80 = 1 := by kernel_rfl
theorem c_bool : Tryz.prog.cellsOf 4 = 1 := by kernel_rfl
theorem c_ins : Tryz.prog.cellsOf 51 = 5 := by kernel_rfl
theorem c_inss : Tryz.prog.cellsOf 47 = 1 := by kernel_rfl
theorem c_proc : Tryz.prog.cellsOf 49 = 2 := by kernel_rfl
theorem c_procs : Tryz.prog.cellsOf 24 = 1 := by kernel_rfl
theorem c_us : Tryz.prog.cellsOf 22 = 1 := by kernel_rfl
theorem c_is : Tryz.prog.cellsOf 23 = 1 := by kernel_rfl
theorem c_i64s : Tryz.prog.cellsOf 65 = 1 := by kernel_rfl
theorem c_cfg : Tryz.prog.cellsOf 26 = 7 := by kernel_rfl
theorem c_ent : Tryz.prog.cellsOf 111 = 3 := by kernel_rfl
theorem c_ents : Tryz.prog.cellsOf 57 = 1 := by kernel_rfl
theorem c_wait : Tryz.prog.cellsOf 114 = 2 := by kernel_rfl
theorem c_waits : Tryz.prog.cellsOf 66 = 1 := by kernel_rfl
theorem c_lane : Tryz.prog.cellsOf 68 = 4 := by kernel_rfl
theorem c_lanes : Tryz.prog.cellsOf 62 = 1 := by kernel_rfl
theorem c_row : Tryz.prog.cellsOf 61 = 8 := by kernel_rfl
theorem c_process : Tryz.prog.cellsOf 64 = 15 := by kernel_rfl
theorem c_processes : Tryz.prog.cellsOf 28 = 1 := by kernel_rfl
theorem c_iss : Tryz.prog.cellsOf 58 = 1 := by kernel_rfl
theorem c_part : Tryz.prog.cellsOf 60 = 6 := by kernel_rfl
theorem c_parts : Tryz.prog.cellsOf 27 = 1 := by kernel_rfl
theorem c_state : Tryz.prog.cellsOf 30 = 3 := by kernel_rfl
theorem l_is : Lits enc Tryz.prog W 23 fun cs => ∃ (l : Sl) (xs : List Int), cs = [l.v] ∧ SlIn W 1 eI (fun _ => True) l xs :=
 lits_slice (tb_ok.und 23 ty23 rfl) eI _ c_int (by rw [show Tryz.prog.bytesOf 3 = 8 by kernel_rfl]; omega) (fun f cs y h hw => by obtain ⟨n, h1, _⟩ := li f cs y h hw; exact ⟨n, h1, trivial⟩) fun _ => rfl
theorem l_i64s : Lits enc Tryz.prog W 65 fun cs => ∃ (l : Sl) (xs : List Int), cs = [l.v] ∧ SlIn W 1 eI I64 l xs :=
 lits_slice (tb_ok.und 65 ty65 rfl) eI _ c_int64 (by rw [show Tryz.prog.bytesOf 2 = 8 by kernel_rfl]; omega) (fun f cs y h hw => by obtain ⟨n, h1, h2⟩ := li64 f cs y h hw; exact ⟨n, h1, i64_wf h2⟩) fun _ => rfl
theorem l_us : Lits enc Tryz.prog W 22 fun cs => ∃ (l : Sl) (xs : List Int), cs = [l.v] ∧ SlIn W 1 eU InU l xs :=
 lits_slice (tb_ok.und 22 ty22 rfl) eU _ c_uint64 (by rw [show Tryz.prog.bytesOf 80 = 8 by kernel_rfl]; omega) (fun f cs y h hw => by obtain ⟨n, h1, h2⟩ := lu64 f cs y h hw; exact ⟨n, h1, inU_wf h2⟩) fun _ => rfl
theorem l_ins : Lits enc Tryz.prog W 51 fun cs => ∃ x, cs = eIns x ∧ I64 x.Imm := fun f cs y h hw => by
 have hu := tb_ok.und 51 ty51 rfl
 have hl := str_len hu h
 rw [c_ins] at hl
 obtain ⟨a0, h0, _⟩ := str_fld hu h hw (i := 0) (off := 0) rfl rfl c_int li
 obtain ⟨a1, h1, _⟩ := str_fld hu h hw (i := 1) (off := 1) rfl rfl c_int li
 obtain ⟨a2, h2, _⟩ := str_fld hu h hw (i := 2) (off := 2) rfl rfl c_int li
 obtain ⟨a3, h3, _⟩ := str_fld hu h hw (i := 3) (off := 3) rfl rfl c_int li
 obtain ⟨a4, h4, w4⟩ := str_fld hu h hw (i := 4) (off := 4) rfl rfl c_int64 li64
 refine ⟨⟨a0, a1, a2, a3, a4⟩, ?_, i64_wf w4⟩
 have e : cs = cs.drop 0 := rfl
 rw [e, cut_cons (m := 1) h0 rfl, cut_cons (m := 2) h1 rfl, cut_cons (m := 3) h2 rfl, cut_cons (m := 4) h3 rfl, cut_cons (m := 5) h4 rfl, List.drop_of_length_le (Nat.le_of_eq hl)]
 rfl
theorem l_inss : Lits enc Tryz.prog W 47 fun cs => ∃ (l : Sl) (xs : List S_api_Ins), cs = [l.v] ∧ SlIn W 5 eIns (fun x => I64 x.Imm) l xs :=
 lits_slice (tb_ok.und 47 ty47 rfl) eIns _ c_ins (by rw [show Tryz.prog.bytesOf 51 = 40 by kernel_rfl]; omega) l_ins fun _ => rfl
def GoodProc (W : World) (q : S_api_Proc) : Prop := ∃ is, SlIn W 5 eIns (fun x => I64 x.Imm) q.Code is
theorem l_proc : Lits enc Tryz.prog W 49 fun cs => ∃ x, cs = eProc x ∧ GoodProc W x := fun f cs y h hw => by
 have hu := tb_ok.und 49 ty49 rfl
 have hl := str_len hu h
 rw [c_proc] at hl
 obtain ⟨a0, h0, _⟩ := str_fld hu h hw (i := 0) (off := 0) rfl rfl c_int li
 obtain ⟨l1, xs1, h1, g1⟩ := str_fld hu h hw (i := 1) (off := 1) rfl rfl c_inss l_inss
 refine ⟨⟨a0, l1⟩, ?_, xs1, g1⟩
 have e : cs = cs.drop 0 := rfl
 rw [e, cut_cons (m := 1) h0 rfl, cut_cons (m := 2) h1 rfl, List.drop_of_length_le (Nat.le_of_eq hl)]
 rfl
theorem l_procs : Lits enc Tryz.prog W 24 fun cs => ∃ (l : Sl) (xs : List S_api_Proc), cs = [l.v] ∧ SlIn W 2 eProc (GoodProc W) l xs :=
 lits_slice (tb_ok.und 24 ty24 rfl) eProc _ c_proc (by rw [show Tryz.prog.bytesOf 49 = 32 by kernel_rfl]; omega) l_proc fun _ => rfl
structure CfgIn (W : World) (x : S_api_Config) : Prop where
 labels : ∃ ls, SlIn W 1 eU InU x.Labels ls
 table : ∃ ts, SlIn W 1 eI (fun _ => True) x.Table ts
 procs : ∃ ps, SlIn W 2 eProc (GoodProc W) x.Procs ps
theorem l_cfg : Lits enc Tryz.prog W 26 fun cs => ∃ x, cs = cfgL x ∧ CfgIn W x := fun f cs y h hw => by
 have hu := tb_ok.und 26 ty26 rfl
 have hl := str_len hu h
 rw [c_cfg] at hl
 obtain ⟨l0, x0, h0, g0⟩ := str_fld hu h hw (i := 0) (off := 0) rfl rfl c_us l_us
 obtain ⟨l1, x1, h1, g1⟩ := str_fld hu h hw (i := 1) (off := 1) rfl rfl c_is l_is
 obtain ⟨a2, h2, _⟩ := str_fld hu h hw (i := 2) (off := 2) rfl rfl c_int li
 obtain ⟨a3, h3, _⟩ := str_fld hu h hw (i := 3) (off := 3) rfl rfl c_int li
 obtain ⟨a4, h4, _⟩ := str_fld hu h hw (i := 4) (off := 4) rfl rfl c_int li
 obtain ⟨a5, h5, _⟩ := str_fld hu h hw (i := 5) (off := 5) rfl rfl c_int li
 obtain ⟨l6, x6, h6, g6⟩ := str_fld hu h hw (i := 6) (off := 6) rfl rfl c_procs l_procs
 refine ⟨⟨l0, l1, a2, a3, a4, a5, l6⟩, ?_, ⟨x0, g0⟩, ⟨x1, g1⟩, x6, g6⟩
 have e : cs = cs.drop 0 := rfl
 rw [e, cut_cons (m := 1) h0 rfl, cut_cons (m := 2) h1 rfl, cut_cons (m := 3) h2 rfl, cut_cons (m := 4) h3 rfl, cut_cons (m := 5) h4 rfl, cut_cons (m := 6) h5 rfl, cut_cons (m := 7) h6 rfl, List.drop_of_length_le (Nat.le_of_eq hl)]
 rfl
theorem l_ent : Lits enc Tryz.prog W 111 fun cs => ∃ x, cs = eEnt x ∧ (I64 x.Tick ∧ I64 x.Value_) := fun f cs y h hw => by
 have hu := tb_ok.und 111 ty111 rfl
 have hl := str_len hu h
 rw [c_ent] at hl
 obtain ⟨a0, h0, w0⟩ := str_fld hu h hw (i := 0) (off := 0) rfl rfl c_int64 li64
 obtain ⟨a1, h1, _⟩ := str_fld hu h hw (i := 1) (off := 1) rfl rfl c_int li
 obtain ⟨a2, h2, w2⟩ := str_fld hu h hw (i := 2) (off := 2) rfl rfl c_int64 li64
 refine ⟨⟨a0, a1, a2⟩, ?_, i64_wf w0, i64_wf w2⟩
 have e : cs = cs.drop 0 := rfl
 rw [e, cut_cons (m := 1) h0 rfl, cut_cons (m := 2) h1 rfl, cut_cons (m := 3) h2 rfl, List.drop_of_length_le (Nat.le_of_eq hl)]
 rfl
theorem l_ents : Lits enc Tryz.prog W 57 fun cs => ∃ (l : Sl) (xs : List S_api_Entry), cs = [l.v] ∧ SlIn W 3 eEnt (fun x => I64 x.Tick ∧ I64 x.Value_) l xs :=
 lits_slice (tb_ok.und 57 ty57 rfl) eEnt _ c_ent (by rw [show Tryz.prog.bytesOf 111 = 24 by kernel_rfl]; omega) l_ent fun _ => rfl
theorem l_wait : Lits enc Tryz.prog W 114 fun cs => ∃ x, cs = eWait x ∧ I64 x.Value_ := fun f cs y h hw => by
 have hu := tb_ok.und 114 ty114 rfl
 have hl := str_len hu h
 rw [c_wait] at hl
 obtain ⟨a0, h0, _⟩ := str_fld hu h hw (i := 0) (off := 0) rfl rfl c_int li
 obtain ⟨a1, h1, w1⟩ := str_fld hu h hw (i := 1) (off := 1) rfl rfl c_int64 li64
 refine ⟨⟨a0, a1⟩, ?_, i64_wf w1⟩
 have e : cs = cs.drop 0 := rfl
 rw [e, cut_cons (m := 1) h0 rfl, cut_cons (m := 2) h1 rfl, List.drop_of_length_le (Nat.le_of_eq hl)]
 rfl
theorem l_waits : Lits enc Tryz.prog W 66 fun cs => ∃ (l : Sl) (xs : List S_api_Waiter), cs = [l.v] ∧ SlIn W 2 eWait (fun x => I64 x.Value_) l xs :=
 lits_slice (tb_ok.und 66 ty66 rfl) eWait _ c_wait (by rw [show Tryz.prog.bytesOf 114 = 16 by kernel_rfl]; omega) l_wait fun _ => rfl
def GoodLane (W : World) (x : S_api_Lane) : Prop := (∃ vs, SlIn W 1 eI I64 x.Values vs) ∧ ∃ ws, SlIn W 2 eWait (fun x => I64 x.Value_) x.Waiters ws
theorem l_lane : Lits enc Tryz.prog W 68 fun cs => ∃ x, cs = eLane x ∧ GoodLane W x := fun f cs y h hw => by
 have hu := tb_ok.und 68 ty68 rfl
 have hl := str_len hu h
 rw [c_lane] at hl
 obtain ⟨l0, x0, h0, g0⟩ := str_fld hu h hw (i := 0) (off := 0) rfl rfl c_i64s l_i64s
 obtain ⟨l1, x1, h1, g1⟩ := str_fld hu h hw (i := 1) (off := 1) rfl rfl c_waits l_waits
 obtain ⟨a2, h2, _⟩ := str_fld hu h hw (i := 2) (off := 2) rfl rfl c_int li
 obtain ⟨a3, h3, _⟩ := str_fld hu h hw (i := 3) (off := 3) rfl rfl c_int li
 refine ⟨⟨l0, l1, a2, a3⟩, ?_, ⟨x0, g0⟩, x1, g1⟩
 have e : cs = cs.drop 0 := rfl
 rw [e, cut_cons (m := 1) h0 rfl, cut_cons (m := 2) h1 rfl, cut_cons (m := 3) h2 rfl, cut_cons (m := 4) h3 rfl, List.drop_of_length_le (Nat.le_of_eq hl)]
 rfl
theorem l_lanes : Lits enc Tryz.prog W 62 fun cs => ∃ (l : Sl) (xs : List S_api_Lane), cs = [l.v] ∧ SlIn W 4 eLane (GoodLane W) l xs :=
 lits_slice (tb_ok.und 62 ty62 rfl) eLane _ c_lane (by rw [show Tryz.prog.bytesOf 68 = 64 by kernel_rfl]; omega) l_lane fun _ => rfl
structure GoodProcess (W : World) (x : S_api_Process) : Prop where
 regs : ∀ v ∈ [x.Regs_0, x.Regs_1, x.Regs_2, x.Regs_3, x.Regs_4, x.Regs_5, x.Regs_6, x.Regs_7], I64 v
 timer : I64 x.Timer
 wake : I64 x.Wake
 lanes : ∃ ls, SlIn W 4 eLane (GoodLane W) x.Lanes ls
theorem l_process : Lits enc Tryz.prog W 64 fun cs => ∃ x, cs = eProcess x ∧ GoodProcess W x := fun f cs y h hw => by
 have hu := tb_ok.und 64 ty64 rfl
 have hl := str_len hu h
 rw [c_process] at hl
 obtain ⟨a0, h0, _⟩ := str_fld hu h hw (i := 0) (off := 0) rfl rfl c_int li
 obtain ⟨a1, h1, _⟩ := str_fld hu h hw (i := 1) (off := 1) rfl rfl c_int li
 obtain ⟨b0, b1, b2, b3, b4, b5, b6, b7, h2, g2⟩ := str_fld hu h hw (i := 2) (off := 2) rfl rfl c_row (lits_row8 (tb_ok.und 61 ty61 rfl) (tb_ok.und 2 ty2 rfl) c_int64 c_row)
 obtain ⟨a3, h3, _⟩ := str_fld hu h hw (i := 3) (off := 10) rfl rfl c_int li
 obtain ⟨a4, h4, w4⟩ := str_fld hu h hw (i := 4) (off := 11) rfl rfl c_int64 li64
 obtain ⟨a5, h5⟩ := str_fld hu h hw (i := 5) (off := 12) rfl rfl c_bool (lits_bool (tb_ok.und 4 ty4 rfl))
 obtain ⟨a6, h6, w6⟩ := str_fld hu h hw (i := 6) (off := 13) rfl rfl c_int64 li64
 obtain ⟨l7, x7, h7, g7⟩ := str_fld hu h hw (i := 7) (off := 14) rfl rfl c_lanes l_lanes
 refine ⟨⟨a0, a1, b0, b1, b2, b3, b4, b5, b6, b7, a3, a4, a5, a6, l7⟩, ?_, g2, i64_wf w4, i64_wf w6, x7, g7⟩
 have e : cs = cs.drop 0 := rfl
 rw [e, cut_cons (m := 1) h0 rfl, cut_cons (m := 2) h1 rfl, cut_cons (m := 10) h2 rfl, cut_cons (m := 11) h3 rfl, cut_cons (m := 12) h4 rfl, cut_cons (m := 13) h5 rfl, cut_cons (m := 14) h6 rfl, cut_cons (m := 15) h7 rfl, List.drop_of_length_le (Nat.le_of_eq hl)]
 rfl
theorem l_processes : Lits enc Tryz.prog W 28 fun cs => ∃ (l : Sl) (xs : List S_api_Process), cs = [l.v] ∧ SlIn W 15 eProcess (GoodProcess W) l xs :=
 lits_slice (tb_ok.und 28 ty28 rfl) eProcess _ c_process (by rw [show Tryz.prog.bytesOf 64 = 136 by kernel_rfl]; omega) l_process fun _ => rfl
theorem l_iss : Lits enc Tryz.prog W 58 fun cs => ∃ (l : Sl) (xs : List Sl), cs = [l.v] ∧ SlIn W 1 eSl (fun q => ∃ xs, SlIn W 1 eI (fun _ => True) q xs) l xs :=
 lits_slice (tb_ok.und 58 ty58 rfl) eSl _ c_is (by rw [show Tryz.prog.bytesOf 23 = 24 by kernel_rfl]; omega) (fun f cs y h hw => by obtain ⟨l, xs, h1, h2⟩ := l_is f cs y h hw; exact ⟨l, h1, xs, h2⟩) fun _ => rfl
structure GoodPart (W : World) (x : S_api_Part) : Prop where
 log : ∃ es, SlIn W 3 eEnt (fun x => I64 x.Tick ∧ I64 x.Value_) x.Log es
 owners : ∃ os, SlIn W 1 eI (fun _ => True) x.Owners os
 queues : ∃ qs, SlIn W 1 eSl (fun q => ∃ xs, SlIn W 1 eI (fun _ => True) q xs) x.Queues qs
theorem l_part : Lits enc Tryz.prog W 60 fun cs => ∃ x, cs = ePart x ∧ GoodPart W x := fun f cs y h hw => by
 have hu := tb_ok.und 60 ty60 rfl
 have hl := str_len hu h
 rw [c_part] at hl
 obtain ⟨a0, h0, _⟩ := str_fld hu h hw (i := 0) (off := 0) rfl rfl c_int li
 obtain ⟨l1, x1, h1, g1⟩ := str_fld hu h hw (i := 1) (off := 1) rfl rfl c_ents l_ents
 obtain ⟨a2, h2, _⟩ := str_fld hu h hw (i := 2) (off := 2) rfl rfl c_int li
 obtain ⟨a3, h3, _⟩ := str_fld hu h hw (i := 3) (off := 3) rfl rfl c_int li
 obtain ⟨l4, x4, h4, g4⟩ := str_fld hu h hw (i := 4) (off := 4) rfl rfl c_is l_is
 obtain ⟨l5, x5, h5, g5⟩ := str_fld hu h hw (i := 5) (off := 5) rfl rfl c_iss l_iss
 refine ⟨⟨a0, l1, a2, a3, l4, l5⟩, ?_, ⟨x1, g1⟩, ⟨x4, g4⟩, x5, g5⟩
 have e : cs = cs.drop 0 := rfl
 rw [e, cut_cons (m := 1) h0 rfl, cut_cons (m := 2) h1 rfl, cut_cons (m := 3) h2 rfl, cut_cons (m := 4) h3 rfl, cut_cons (m := 5) h4 rfl, cut_cons (m := 6) h5 rfl, List.drop_of_length_le (Nat.le_of_eq hl)]
 rfl
theorem l_parts : Lits enc Tryz.prog W 27 fun cs => ∃ (l : Sl) (xs : List S_api_Part), cs = [l.v] ∧ SlIn W 6 ePart (GoodPart W) l xs :=
 lits_slice (tb_ok.und 27 ty27 rfl) ePart _ c_part (by rw [show Tryz.prog.bytesOf 60 = 96 by kernel_rfl]; omega) l_part fun _ => rfl
structure StIn (W : World) (x : S_api_State) : Prop where
 tick : I64 x.Tick
 parts : ∃ ps, SlIn W 6 ePart (GoodPart W) x.Parts ps
 procs : ∃ ps, SlIn W 15 eProcess (GoodProcess W) x.Procs ps
theorem l_state : Lits enc Tryz.prog W 30 fun cs => ∃ x, cs = cellsL (sh_api_State.enc x) ∧ StIn W x := fun f cs y h hw => by
 have hu := tb_ok.und 30 ty30 rfl
 have hl := str_len hu h
 rw [c_state] at hl
 obtain ⟨a0, h0, w0⟩ := str_fld hu h hw (i := 0) (off := 0) rfl rfl c_int64 li64
 obtain ⟨l1, x1, h1, g1⟩ := str_fld hu h hw (i := 1) (off := 1) rfl rfl c_parts l_parts
 obtain ⟨l2, x2, h2, g2⟩ := str_fld hu h hw (i := 2) (off := 2) rfl rfl c_processes l_processes
 refine ⟨⟨a0, l1, l2⟩, ?_, i64_wf w0, ⟨x1, g1⟩, x2, g2⟩
 have e : cs = cs.drop 0 := rfl
 rw [e, cut_cons (m := 1) h0 rfl, cut_cons (m := 2) h1 rfl, cut_cons (m := 3) h2 rfl, List.drop_of_length_le (Nat.le_of_eq hl)]
 rfl
end
end Lf

namespace Lf
open Go Go.Proofs Go.ChangeShapes Go.WideShapes Go.ChangeAt Go.RowKit
theorem all2_ex {α β : Type} {R : α → β → Prop} {G : β → Prop} : ∀ {l : List α}, (∀ x ∈ l, ∃ p, R x p ∧ G p) → ∃ m, All2 R l m ∧ ∀ p ∈ m, G p
 | [], _ => ⟨[], trivial, fun p hp => by cases hp⟩
 | a :: l, h => by
  obtain ⟨p, h1, h2⟩ := h a (List.mem_cons_self ..)
  obtain ⟨m, h3, h4⟩ := all2_ex (l := l) fun x hx => h x (List.mem_cons_of_mem _ hx)
  refine ⟨p :: m, ⟨h1, h3⟩, fun q hq => ?_⟩
  rcases List.mem_cons.1 hq with rfl | hq
  ·exact h2
  ·exact h4 q hq
section
variable {W : World}
theorem proc_of {q : S_api_Proc} (k : GoodProc W q) : ∃ p, ProcAt (whole W) q p ∧ ((∀ x ∈ p.code, I64 x.imm) ∧ p.code.length ≤ 140737488355328) := by
 obtain ⟨is, h⟩ := k
 refine ⟨⟨q.Part, is.map insOf⟩, ⟨rfl, is, h.rw_, rfl⟩, fun x hx => ?_, ?_⟩
 ·obtain ⟨y, hy, rfl⟩ := List.mem_map.1 hx
  exact h.all y hy
 ·show (is.map insOf).length ≤ _
  rw [List.length_map]; exact h.few
theorem cfg_of {x : S_api_Config} (k : CfgIn W x) : ∃ c, CfgAt (whole W) x c ∧ Typed c ∧ CfgLe c := by
 obtain ⟨ls, h1⟩ := k.labels
 obtain ⟨ts, h2⟩ := k.table
 obtain ⟨ps, h3⟩ := k.procs
 obtain ⟨m, h4, h5⟩ := all2_ex fun q hq => proc_of (h3.all q hq)
 have hl := h4.len
 have hf := h3.few
 refine ⟨⟨ls, ts, x.Fuel, x.Lane, x.Locks, x.Log, m⟩, ⟨h1.rw_, h2.rw_, rfl, rfl, rfl, rfl, ps, h3.rw_, h4⟩, ⟨fun a ha => ?_, fun p hp => (h5 p hp).1⟩, ⟨h1.few, h2.few, by show m.length ≤ _; omega, fun p hp => (h5 p hp).2⟩⟩
 have := h1.all a ha
 exact ⟨this.1, this.2⟩
theorem lane_of {x : S_api_Lane} (k : GoodLane W x) : ∃ p, LaneAt (whole W) x p ∧ ((∀ v ∈ p.values, I64 v) ∧ (∀ w ∈ p.waiters, I64 w.value) ∧ LaneLe p) := by
 obtain ⟨⟨vs, h1⟩, ws, h2⟩ := k
 refine ⟨⟨vs, ws.map waiterOf, x.Taken, x.Dropped⟩, ⟨h1.rw_, ⟨ws, h2.rw_, rfl⟩, rfl, rfl⟩, h1.all, fun w hw => ?_, h1.few, ?_⟩
 ·obtain ⟨y, hy, rfl⟩ := List.mem_map.1 hw
  exact h2.all y hy
 ·show (ws.map waiterOf).length ≤ _
  rw [List.length_map]; exact h2.few
theorem process_of {x : S_api_Process} (k : GoodProcess W x) : ∃ p, ProcessAt (whole W) x p ∧ ((p.regs.length = 8 ∧ (∀ v ∈ p.regs, I64 v) ∧ I64 p.timer ∧ I64 p.wake ∧ ∀ l ∈ p.lanes, (∀ v ∈ l.values, I64 v) ∧ ∀ w ∈ l.waiters, I64 w.value) ∧
  p.lanes.length ≤ 140737488355328 ∧ ∀ l ∈ p.lanes, LaneLe l) := by
 obtain ⟨ls, h1⟩ := k.lanes
 obtain ⟨m, h4, h5⟩ := all2_ex fun q hq => lane_of (h1.all q hq)
 have hl := h4.len
 have hf := h1.few
 exact ⟨⟨x.State, x.PC, _, x.Cursor, x.Timer, x.Fired, x.Wake, m⟩, ⟨rfl, rfl, rfl, rfl, rfl, rfl, rfl, ls, h1.rw_, h4⟩, ⟨rfl, k.regs, k.timer, k.wake, fun l hl => ⟨(h5 l hl).1, (h5 l hl).2.1⟩⟩, by show m.length ≤ _; omega, fun l hl => (h5 l hl).2.2⟩
theorem part_of {x : S_api_Part} (k : GoodPart W x) : ∃ p, PartAt (whole W) x p ∧ ((∀ e ∈ p.log, I64 e.tick ∧ I64 e.value) ∧ (p.log.length ≤ 140737488355328 ∧ p.owners.length ≤ 140737488355328 ∧ p.queues.length ≤ 140737488355328 ∧ ∀ q ∈ p.queues, q.length ≤ 140737488355328)) := by
 obtain ⟨es, h1⟩ := k.log
 obtain ⟨os, h2⟩ := k.owners
 obtain ⟨qs, h3⟩ := k.queues
 obtain ⟨m, h4, h5⟩ := all2_ex (R := Is (whole W)) (G := fun q => q.length ≤ 140737488355328) fun q hq => by
  obtain ⟨xs, hx⟩ := h3.all q hq
  exact ⟨xs, hx.rw_, hx.few⟩
 have hl := h4.len
 have hf := h3.few
 refine ⟨⟨x.Cursor, es.map entryOf, x.Lost, x.Forbidden, os, m⟩, ⟨rfl, ⟨es, h1.rw_, rfl⟩, rfl, rfl, h2.rw_, qs, h3.rw_, h4⟩, fun e he => ?_, ?_, h2.few, by show m.length ≤ _; omega, h5⟩
 ·obtain ⟨y, hy, rfl⟩ := List.mem_map.1 he
  exact h1.all y hy
 ·show (es.map entryOf).length ≤ _
  rw [List.length_map]; exact h1.few
theorem st_of {x : S_api_State} (k : StIn W x) : ∃ s, StateAt (whole W) x s ∧ TypedS s ∧ StLe s := by
 obtain ⟨ps, h1⟩ := k.parts
 obtain ⟨qs, h2⟩ := k.procs
 obtain ⟨m, h4, h5⟩ := all2_ex fun q hq => part_of (h1.all q hq)
 obtain ⟨n, h6, h7⟩ := all2_ex fun q hq => process_of (h2.all q hq)
 have l1 := h4.len
 have l2 := h6.len
 have f1 := h1.few
 have f2 := h2.few
 exact ⟨⟨x.Tick, m, n⟩, ⟨rfl, ⟨ps, h1.rw_, h4⟩, qs, h2.rw_, h6⟩, ⟨k.tick, fun p hp => (h5 p hp).1, fun p hp => (h7 p hp).1⟩, ⟨by show m.length ≤ _; omega, by show n.length ≤ _; omega, fun p hp => (h5 p hp).2, fun p hp => (h7 p hp).2⟩⟩
end
theorem evs_le {s : PState} (k : StLe s) (h1 : s.parts.length ≤ 8) (h2 : ∀ x ∈ s.parts, x.queues.length ≤ 8) (h3 : s.procs.length ≤ 32) (h4 : ∀ x ∈ s.procs, x.lanes.length ≤ 9) : (evs s).length ≤ 1152921504606846976 := by
 have p1 : (s.parts.flatMap evQ).length ≤ s.parts.length * 1125899906842624 := flat_leG _ fun x hx => by
  have e : (evQ x).length ≤ x.queues.length * 140737488355328 := by
   unfold evQ
   rw [← List.flatMap_id]
   exact flat_leG _ fun q hq => (k.log x hx).2.2.2 q hq
  have := Nat.mul_le_mul_right 140737488355328 (h2 x hx)
  omega
 have p2 : (s.procs.flatMap evL).length ≤ s.procs.length * 1266637395197952 := flat_leG _ fun x hx => by
  have e : (evL x).length ≤ x.lanes.length * 140737488355328 := flat_leG _ fun l hl => by
   rw [List.length_map]
   exact ((k.lanes x hx).2 l hl).waiters
  have := Nat.mul_le_mul_right 140737488355328 (h4 x hx)
  omega
 have q1 := Nat.mul_le_mul_right 1125899906842624 h1
 have q2 := Nat.mul_le_mul_right 1266637395197952 h3
 unfold evs
 rw [List.length_append]
 omega
section
variable {H : Type} {enc : TypeId × Value → H} {W : World}
theorem agg_of {v : Value} {cs : List Value} (h : v.cells.toList = cs) (hl : cs.length ≠ 1) : v = .agg cs.toArray := by
 cases v with
 | agg a => rw [← h]; rfl
 | _ => subst h; simp [Value.cells] at hl
theorem arg_cfg {v : Value} {d : DataW H} {ps : List MemPlace} (h : DataW.Trod enc Tryz.prog W 0 (fun _ => true) true 26 v d ps) (hw : (DataW.weights Tryz.prog 26 d).all (· ≤ reachBytes) = true) :
  ∃ x : S_api_Config, v = sh_api_Config.enc x ∧ CfgIn W x := by
 obtain ⟨fuel, hf⟩ := h
 obtain ⟨x, hx, hg⟩ := l_cfg fuel _ _ hf hw
 exact ⟨x, agg_of hx (by simp [cfgL, cellsL]), hg⟩
theorem arg_state {v : Value} {d : DataW H} {ps : List MemPlace} (h : DataW.Trod enc Tryz.prog W 0 (fun _ => true) true 30 v d ps) (hw : (DataW.weights Tryz.prog 30 d).all (· ≤ reachBytes) = true) :
  ∃ x : S_api_State, v = sh_api_State.enc x ∧ StIn W x := by
 obtain ⟨fuel, hf⟩ := h
 obtain ⟨x, hx, hg⟩ := l_state fuel _ _ hf hw
 exact ⟨x, agg_of hx (by simp [cellsL]), hg⟩
end
end Lf

namespace Lf
open Go Go.Proofs
theorem semIs_text {P : Program} {src dst e : TypeId} {h : Hp} {l : Sl} {bs : List UInt8} (hs : P.underlying src = some (.slice e)) (he : P.underlying e = some (.int .u8)) (hd : P.underlying dst = some .string) (r : Bs h l bs) : SemIs P (convert src dst l.v) h (.string ⟨bs.toArray⟩) := fun w hw => by
 refine ⟨w, ?_, .refl hw⟩
 obtain ⟨h1, h2, h3⟩ := r
 rw [Nat.mul_one] at h3
 have nilc : l.base = none → bs.length = 0 := fun hb => by
  rcases h3 with h3 | ⟨a, ha, _⟩
  ·exact h3
  ·rw [hb] at ha; cases ha
 unfold Sl.v
 cases hb : l.base with
 | none =>
  have : bs = [] := List.length_eq_zero_iff.1 (nilc hb)
  subst this
  rw [run_convert_bytes_string w src dst e none l.len l.cap hs he hd]
  rfl
 | some a =>
  rw [h1]
  refine run_convert_bytes_back w src dst e a l.cap bs hs he hd fun j hj => ?_
  rcases h3 with h3 | ⟨a', ha, hl⟩
  ·omega
  ·rw [hb] at ha; cases ha
   have : (bs.flatMap eB)[j]? = some (.int .u8 (bs[j].toNat : Int)) := by
    rw [byte_flat, List.getElem?_map, List.getElem?_eq_getElem hj]; rfl
   have hc := hl j _ this
   rw [← hcell_whole]
   exact hcell_mono (fun b o e => hw b o e) hc
section
variable {h : Hp} {Q : Bool → Hp → Prop}
theorem few14_ok {P : Program} {x : S_api_Config} {c : PCfg} (a : CfgAt h x c) (hc : CfgLe c) (hq : ∀ r, Q r h) : firebreakref14_Few_w P x Q h := by
 unfold firebreakref14_Few_w
 obtain ⟨ps, hps, hall⟩ := a.procs
 have e1 := hall.len
 have e2 : x.Procs.len = ps.length := hps.1
 have e3 := hc.procs
 refine letW (letW ?_)
 split
 ·exact hq _
 refine LoopW2.intro (fun _ i k => k = h ∧ ∃ n : Nat, i = (n : Int) ∧ n ≤ ps.length) (fun _ i _ => (ps.length - i).toNat) ⟨rfl, 0, rfl, by omega⟩ ?_
 rintro left i k ⟨rfl, n, rfl, hn⟩
 refine letW ?_
 by_cases hlt : ((decide ((n : Int) < ((x.Procs.len : Nat) : Int))) && (decide (left ≥ (0 : Int)))) = true
 ·rw [if_pos hlt]
  rw [Bool.and_eq_true, decide_eq_true_eq] at hlt
  refine Rw.fld hps (fun _ => rfl) (by omega) (sh := shSl) (fun q => q.Code) (fun _ => rfl) (by omega) (by omega) fun y hy => ?_
  rw [wrap64 (n := (n : Int) + 1) (by omega) (by omega)]
  exact ⟨⟨rfl, n + 1, by omega, by omega⟩, by omega⟩
 ·rw [if_neg hlt]
  exact hq _
theorem many22_ok {x : S_api_Config} {y : S_api_State} {c : PCfg} {s : PState} (a : CfgAt h x c) (hc : CfgLe c) (b : StateAt h y s) (hs : StLe s) (hq : ∀ r, Q r h) : firebreaklaw22_many_w Tryz.prog x y Q h := by
 unfold firebreaklaw22_many_w
 obtain ⟨ps, hps, hallp⟩ := b.parts
 obtain ⟨qs, hqs, hallq⟩ := b.procs
 have e1 := hallp.len
 have e2 := hallq.len
 have e3 : y.Parts.len = ps.length := hps.1
 have e4 : y.Procs.len = qs.length := hqs.1
 have n1 := hs.parts
 have n2 := hs.procs
 refine firebreakref14_Few_call (few14_ok a hc fun r => letW (letW ?_))
 split
 ·exact hq _
 refine LoopW2.intro (fun _ i k => k = h ∧ ∃ n : Nat, i = (n : Int) ∧ n ≤ ps.length) (fun _ i _ => (ps.length - i).toNat) ⟨rfl, 0, rfl, by omega⟩ ?_
 rintro left i k ⟨rfl, n, rfl, hn⟩
 refine letW ?_
 by_cases hlt : ((decide ((n : Int) < ((y.Parts.len : Nat) : Int))) && (decide (left ≥ (0 : Int)))) = true
 ·rw [if_pos hlt]
  rw [Bool.and_eq_true, decide_eq_true_eq] at hlt
  refine Rs.get (sh := sh_api_Part) hps (fun _ => rfl) (by omega) (by omega) (by omega) fun z hz => ?_
  have hz : ps[n]? = some z := hz
  obtain ⟨p, hp1, hp2⟩ := hallp.get hz
  obtain ⟨us, hus, hallu⟩ := hp2.queues
  have e5 := hallu.len
  have e6 : z.Queues.len = us.length := hus.1
  have n3 := (hs.log p (List.mem_of_getElem? hp1)).2.2.1
  refine LoopW2.intro (fun _ i k' => k' = k ∧ ∃ m : Nat, i = (m : Int) ∧ m ≤ us.length) (fun _ i _ => (us.length - i).toNat) ⟨rfl, 0, rfl, by omega⟩ ?_
  rintro left1 i k' ⟨rfl, m, rfl, hm⟩
  refine letW ?_
  by_cases hlt2 : ((decide ((m : Int) < ((z.Queues.len : Nat) : Int))) && (decide (left1 ≥ (0 : Int)))) = true
  ·rw [if_pos hlt2]
   rw [Bool.and_eq_true, decide_eq_true_eq] at hlt2
   refine Rs.get (sh := shSl) hus (fun _ => rfl) (by omega) (by omega) (by omega) fun u hu => ?_
   rw [wrap64 (n := (m : Int) + 1) (by omega) (by omega)]
   exact ⟨⟨rfl, m + 1, by omega, by omega⟩, by omega⟩
  ·rw [if_neg hlt2, wrap64 (n := (n : Int) + 1) (by omega) (by omega)]
   exact ⟨⟨rfl, n + 1, by omega, by omega⟩, by omega⟩
 ·rw [if_neg hlt]
  refine LoopW2.intro (fun _ i k' => k' = k ∧ ∃ n : Nat, i = (n : Int) ∧ n ≤ qs.length) (fun _ i _ => (qs.length - i).toNat) ⟨rfl, 0, rfl, by omega⟩ ?_
  rintro left i k' ⟨rfl, n, rfl, hn⟩
  refine letW ?_
  by_cases hlt : ((decide ((n : Int) < ((y.Procs.len : Nat) : Int))) && (decide (left ≥ (0 : Int)))) = true
  ·rw [if_pos hlt]
   rw [Bool.and_eq_true, decide_eq_true_eq] at hlt
   refine Rw.fld hqs (fun _ => rfl) (by omega) (sh := shSl) (fun q => q.Lanes) (fun _ => rfl) (by omega) (by omega) fun z hz => ?_
   have hz : qs[n]? = some z := hz
   obtain ⟨p, hp1, hp2⟩ := hallq.get hz
   obtain ⟨us, hus, hallu⟩ := hp2.lanes
   have e5 := hallu.len
   have e6 : z.Lanes.len = us.length := hus.1
   have n3 := (hs.lanes p (List.mem_of_getElem? hp1)).1
   refine LoopW2.intro (fun _ i k2 => k2 = k' ∧ ∃ m : Nat, i = (m : Int) ∧ m ≤ us.length) (fun _ i _ => (us.length - i).toNat) ⟨rfl, 0, rfl, by omega⟩ ?_
   rintro left1 i k2 ⟨rfl, m, rfl, hm⟩
   refine letW ?_
   by_cases hlt2 : ((decide ((m : Int) < ((z.Lanes.len : Nat) : Int))) && (decide (left1 ≥ (0 : Int)))) = true
   ·rw [if_pos hlt2]
    rw [Bool.and_eq_true, decide_eq_true_eq] at hlt2
    refine Rw.fld hus (fun _ => rfl) (by omega) (sh := shSl) (fun q => q.Values) (fun _ => rfl) (by omega) (by omega) fun u hu => ?_
    refine Rw.fld hus (fun _ => rfl) (by omega) (sh := shSl) (fun q => q.Waiters) (fun _ => rfl) (by omega) (by omega) fun u' hu' => ?_
    rw [wrap64 (n := (m : Int) + 1) (by omega) (by omega)]
    exact ⟨⟨rfl, m + 1, by omega, by omega⟩, by omega⟩
   ·rw [if_neg hlt2, wrap64 (n := (n : Int) + 1) (by omega) (by omega)]
    exact ⟨⟨rfl, n + 1, by omega, by omega⟩, by omega⟩
  ·rw [if_neg hlt]
   exact hq _
end
end Lf

namespace Lf
open Go Go.Proofs
theorem smallE {c : PCfg} (h : (cfgE c).1 = 0) : Small c := by
 obtain ⟨e1, _, _, _, _, e6, e7, e8, _, e10, e11⟩ := cfgP_zero.1 h
 exact ⟨(mayP_zero.1 e1).2.1, e10, e6.2, e7, e8.2, fun p hp => ((codeP_zero ⟨e7.1, e7.2⟩).1 (e11 p hp).2).1⟩
theorem cfgV_of {c : PCfg} (ht : Typed c) (h : (cfgE c).1 = 0) : CfgV c := (cfgV_iff (mayP_lab c)).1 ⟨ht, h⟩
theorem snap_short {c : PCfg} {s : PState} (ht : Typed c) (hs : TypedS s) (h : (cfgE c).1 = 0) (hM : MayP c s) : (snapB c s).length < 1048576 := snap_len (smallE h) (cfgV_of ht h) (stateV_of (smallE h) hs hM)
theorem typed_in {c : PCfg} (ht : Typed c) : ∀ l ∈ c.labels, InU l := fun l hl => ⟨(ht.1 l hl).1, (ht.1 l hl).2⟩
theorem SnapErr.place {bs : List UInt8} {e : Int} {p : Nat} (h : SnapErr bs e p) : p ≤ bs.length := by
 rcases h with h | ⟨_, _, _, rfl, _⟩
 ·exact whole_place pl_snap h
 ·omega
end Lf

namespace Lf
open Go Go.Proofs
section
variable {h : Hp} {x : S_api_Config} {y : S_api_State} {c : PCfg} {s : PState}
set_option maxRecDepth 20000 in
theorem refMay_ok (cx : CfgAt h x c) (sy : StateAt h y s) (hu : ∀ l ∈ c.labels, InU l) (hS : StLe s) {Q : Int → Hp → Prop} (hq : ∀ e h', h ≤ h' → MayIs c s e → Q e h') : firebreakref15_May_w Tryz.prog x y Q h := by
 unfold firebreakref15_May_w
 refine firebreakref14_May_call (refCfgMay_ok cx fun at_ => ?_)
 by_cases hc : (cfgE c).1 ≠ 0
 ·rw [if_pos (by simpa using hc)]
  exact hq _ h (Hp.le_refl h) (.inl ⟨hc, rfl⟩)
 rw [if_neg (by simpa using hc)]
 have ok : (cfgE c).1 = 0 := Classical.not_not.1 hc
 have hpart : ∀ y ∈ c.procs, 0 ≤ y.part ∧ y.part < c.labels.length := fun y hy => by
  obtain ⟨⟨g1, g2⟩, -⟩ := (cfg_bounds ok).2.2.2.2.2 y hy
  exact ⟨g1, by omega⟩
 have hM : MayP c s ↔ MayR c s (fun (i : Nat) q => fl c.labels (i : Int) q = true) := may_iff hpart
 have yes : ∀ h', h ≤ h' → MayR c s (fun (i : Nat) q => fl c.labels (i : Int) q = true) → Q 0 h' := fun h' hl hm => hq _ h' hl (.inr ⟨ok, .inl ⟨rfl, hM.2 hm⟩⟩)
 have no : ∀ h', h ≤ h' → ¬ MayR c s (fun (i : Nat) q => fl c.labels (i : Int) q = true) → Q 4 h' := fun h' hl hm => hq _ h' hl (.inr ⟨ok, .inr ⟨rfl, fun e => hm (hM.1 e)⟩⟩)
 refine firebreakref15_sizes_call (refSizes_ok cx sy ok hS fun r2 hr2 => ?_)
 by_cases hz : SizesR c s
 case neg =>
  rw [if_pos (by cases r2 with
   | false => rfl
   | true => exact absurd (hr2.1 rfl) hz)]
  exact no h (Hp.le_refl h) fun hm => hz hm.1
 have e2 := hr2.2 hz
 subst e2
 rw [if_neg (by simp)]
 refine newB (cs := boxL x y) fun b h1 l1 hB => ?_
 have k : RM h1 b x y c s := ⟨hB, cx.mono l1, sy.mono l1, ok, hu, hz⟩
 have hlp : y.Parts.len = s.parts.length := by
  obtain ⟨ps, hps, hall⟩ := sy.parts
  rw [← hall.len]; exact hps.1
 have hlq : y.Procs.len = s.procs.length := by
  obtain ⟨ps, hps, hall⟩ := sy.procs
  rw [← hall.len]; exact hps.1
 have b1 := hS.parts
 have b2 := hS.procs
 have hlen := hz.1.2.2
 refine forA (n := s.parts.length) (by omega) (by omega) (fun j (v : Bool) h' => h1 ≤ h' ∧ (v = true ↔ ∀ (i : Nat) z, i < j → s.parts[i]? = some z → PartR c s i z)) ⟨Hp.le_refl _, ⟨fun _ i z hi => by omega, fun _ => rfl⟩⟩ ?_ ?_
 ·rintro j hj v h2 ⟨l2, hv⟩ K hK
  have hzj := List.getElem?_eq_getElem hj
  generalize s.parts[j] = z at hzj
  refine ⟨fun e => ?_, fun e => ⟨false, letW (hK _ _ ⟨l2, ?_⟩)⟩⟩
  ·refine firebreakref15_Machine_part_call (refPart_ok (k.mono l2) hS hzj fun r h3 l3 hr => letW (hK _ _ ⟨Hp.le_trans l2 l3, ?_⟩))
   rw [e, Bool.true_and, hr]
   constructor
   ·intro hp i z' hi hz'
    by_cases hij : i < j
    ·exact hv.1 e i z' hij hz'
    ·have : i = j := by omega
     subst this
     rw [hzj] at hz'; cases hz'
     exact hp
   ·exact fun hh => hh j z (by omega) hzj
  ·rw [e, Bool.false_and]
   refine ⟨fun e => (by cases e), fun hh => ?_⟩
   have := hv.2 fun i z hi hz => hh i z (by omega) hz
   rw [e] at this; cases this
 rintro v1 h2 ⟨l2, hv1⟩
 have hA : v1 = true ↔ ∀ (i : Nat) z, s.parts[i]? = some z → PartR c s i z := hv1.trans ⟨fun hh i z hz => hh i z (List.getElem?_eq_some_iff.1 hz).1 hz, fun hh i z _ => hh i z⟩
 clear hv1
 refine forA (n := s.procs.length) (by omega) (by omega) (fun j (v : Bool) h' => h' = h2 ∧ (v = true ↔ v1 = true ∧ ∀ (p : Nat) z u, p < j → s.procs[p]? = some z → c.procs[p]? = some u → ProcR c s (fun (i : Nat) q => fl c.labels (i : Int) q = true) z u)) ⟨rfl, ⟨fun e => ⟨e, fun p z u hp => by omega⟩, fun e => e.1⟩⟩ ?_ ?_
 ·rintro j hj v h3 ⟨rfl, hv⟩ K hK
  have hzj := List.getElem?_eq_getElem hj
  generalize s.procs[j] = z at hzj
  have hjc : j < c.procs.length := by omega
  have huj := List.getElem?_eq_getElem hjc
  generalize c.procs[j] = u at huj
  refine ⟨fun e => ?_, fun e => ⟨false, letW (hK _ _ ⟨rfl, ?_⟩)⟩⟩
  ·refine firebreakref15_Machine_process_call (refProc_ok (k.mono l2) hS hzj huj fun r hr => letW (hK _ _ ⟨rfl, ?_⟩))
   obtain ⟨g1, g2⟩ := hv.1 e
   rw [e, Bool.true_and, hr]
   constructor
   ·intro hp
    refine ⟨g1, fun i z' u' hi hz' hu' => ?_⟩
    by_cases hij : i < j
    ·exact g2 i z' u' hij hz' hu'
    ·have : i = j := by omega
     subst this
     rw [hzj] at hz'; cases hz'
     rw [huj] at hu'; cases hu'
     exact hp
   ·exact fun hh => hh.2 j z u (by omega) hzj huj
  ·rw [e, Bool.false_and]
   refine ⟨fun e => (by cases e), fun hh => ?_⟩
   have := hv.2 ⟨hh.1, fun i z u hi hz hu => hh.2 i z u (by omega) hz hu⟩
   rw [e] at this; cases this
 rintro v2 h3 ⟨rfl, hv2⟩
 have hBq : v2 = true ↔ v1 = true ∧ ∀ (p : Nat) z u, s.procs[p]? = some z → c.procs[p]? = some u → ProcR c s (fun (i : Nat) q => fl c.labels (i : Int) q = true) z u :=
  hv2.trans ⟨fun hh => ⟨hh.1, fun i z u hz hu => hh.2 i z u (List.getElem?_eq_some_iff.1 hz).1 hz hu⟩, fun hh => ⟨hh.1, fun i z u _ hz hu => hh.2 i z u hz hu⟩⟩
 clear hv2
 have W : Nat → Prop := fun p => True
 refine LoopW2.intro (fun (v : Bool) t h' => h' = h3 ∧ ∃ j : Nat, t = (j : Int) ∧ j ≤ s.procs.length ∧ (v = true ↔ v2 = true ∧ ∀ (p i : Nat) z u, p < j → s.procs[p]? = some z → c.procs[p]? = some u → u.part = (i : Int) → WaitR s p i z u)) (fun _ t _ => ((s.procs.length : Int) - t).toNat)
  ⟨rfl, 0, rfl, by omega, ⟨fun e => ⟨e, fun p i z u hp => by omega⟩, fun e => e.1⟩⟩ ?_
 rintro v t h4 ⟨rfl, j, rfl, hj, hv⟩
 refine letW ?_
 by_cases hgo : j < s.procs.length ∧ v = true
 ·obtain ⟨hlt, hvt⟩ := hgo
  rw [if_pos (by rw [hvt, Bool.and_true]; exact decide_eq_true (by omega))]
  have hzj := List.getElem?_eq_getElem hlt
  generalize s.procs[j] = z at hzj
  have hjc : j < c.procs.length := by omega
  have huj := List.getElem?_eq_getElem hjc
  generalize c.procs[j] = u at huj
  obtain ⟨p0, p1⟩ := hpart u (List.mem_of_getElem? huj)
  refine ⟨fun _ => ?_, fun e => by rw [hvt] at e; cases e⟩
  refine firebreakref15_Machine_waits_call (refWaits_ok (k.mono l2) hS (i := u.part.toNat) hzj huj (by omega) fun r hr => letW ?_)
  rw [wrap64 (by omega) (by omega)]
  refine ⟨⟨rfl, j + 1, by omega, by omega, ?_⟩, by omega⟩
  obtain ⟨g1, g2⟩ := hv.1 hvt
  rw [hvt, Bool.true_and, hr]
  constructor
  ·intro hp
   refine ⟨g1, fun p i z' u' hi hz' hu' hpi => ?_⟩
   by_cases hij : p < j
   ·exact g2 p i z' u' hij hz' hu' hpi
   ·have : p = j := by omega
    subst this
    rw [hzj] at hz'; cases hz'
    rw [huj] at hu'; cases hu'
    have : i = u.part.toNat := by omega
    rw [this]; exact hp
  ·exact fun hh => hh.2 j _ z u (by omega) hzj huj (by omega)
 ·rw [if_neg (fun e => hgo (by
   rw [Bool.and_eq_true, decide_eq_true_eq] at e
   exact ⟨by omega, e.2⟩))]
  have hl := Hp.le_trans l1 l2
  by_cases hvt : v = true
  ·rw [if_neg (by rw [hvt]; simp)]
   have hjn : ¬ j < s.procs.length := fun e => hgo ⟨e, hvt⟩
   obtain ⟨g1, g2⟩ := hv.1 hvt
   obtain ⟨g3, g4⟩ := hBq.1 g1
   refine yes _ hl ⟨hz, hA.1 g3, g4, fun p i z u hz' => g2 p i z u (by have := (List.getElem?_eq_some_iff.1 hz').1; omega) hz'⟩
  ·have hvf : v = false := by simpa using hvt
   rw [if_pos (by rw [hvf]; rfl)]
   exact no _ hl fun hm => hvt (hv.2 ⟨hBq.2 ⟨hA.2 hm.2.1, hm.2.2.1⟩, fun p i z u _ => hm.2.2.2 p i z u⟩)
end
end Lf

namespace Lf
open Go Go.Proofs
theorem ownFor {h0 h : Hp} {l0 : Sl} {bs : List UInt8} {n : Nat} {len : Int} {es : List (List UInt8)} {B : (Sl → Int → Hp → Prop) → Sl → Int → Hp → Prop} {X : Sl → Int → Hp → Prop} (hn : len = (n : Int)) (hle : h0 ≤ h) (o : OwnB h0 h l0 bs) (hes : es.length = n) (hnb : n ≤ 4611686018427387904) (hb : bs.length + es.flatten.length ≤ 2000000)
  (hs : ∀ (i : Nat) e, es[i]? = some e → ∀ l bs' h', h0 ≤ h' → OwnB h0 h' l bs' → bs'.length + e.length ≤ 2000000 → ∀ K : Sl → Int → Hp → Prop, (∀ l2 h2, h0 ≤ h2 → OwnB h0 h2 l2 (bs' ++ e) → K l2 (IntKind.wrap .i64 ((i : Int) + 1)) h2) → B K l (i : Int) h')
  (hx : ∀ l h', h0 ≤ h' → OwnB h0 h' l (bs ++ es.flatten) → X l (n : Int) h') :
  LoopW2 (fun again x t h => if decide (t < len) = true then B again x t h else X x t h) l0 (0 : Int) h := by
 refine forA hn hnb (fun i l h' => h0 ≤ h' ∧ OwnB h0 h' l (bs ++ (es.take i).flatten)) ⟨hle, by simpa using o⟩ ?_ ?_
 ·rintro i hi l h' ⟨hle', o'⟩ K hK
  have he := List.getElem?_eq_getElem (show i < es.length by omega)
  obtain ⟨s1, s2⟩ := wr_step (bs := bs) he
  refine hs i _ he l _ h' hle' o' (by omega) K fun l2 h2 hle2 o2 => hK l2 h2 ⟨hle2, ?_⟩
  rw [← s1]; exact o2
 ·rintro l h' ⟨hle', o'⟩
  rw [List.take_of_length_le (by omega)] at o'
  exact hx l h' hle' o'
theorem leB_wrap8 {n : Int} : [Value.int .u8 (IntKind.wrap .u8 n)] = (leB n 1).map fun b => Value.int .u8 (b.toNat : Int) := by simp [leB, wrap8]
section
variable {h0 h : Hp} {l : Sl} {bs : List UInt8} {Q : Sl → Hp → Prop}
theorem refNumber_ok {P : Program} {n m : Int} {k : Nat} (hm : m = (k : Int)) (hk8 : k ≤ 8) (hle : h0 ≤ h) (o : OwnB h0 h l bs) (hb : bs.length ≤ 2000000) (hk : ∀ l' h', h0 ≤ h' → OwnB h0 h' l' (bs ++ leB n k) → Q l' h') : firebreakref14_Number_w P l n m Q h := by
 unfold firebreakref14_Number_w
 exact layLoop hm hk8 hle o (by omega) hk
theorem refPut_ok {P : Program} {x : S_api_Ins} (hle : h0 ≤ h) (o : OwnB h0 h l bs) (hb : bs.length ≤ 2000000) (hk : ∀ l' h', h0 ≤ h' → OwnB h0 h' l' (bs ++ insB (insOf x)) → Q l' h') : firebreakref06_Put_w P l x Q h := by
 unfold firebreakref06_Put_w
 refine app_bytes hle o (leB x.Op 1 ++ (leB x.A 1 ++ (leB x.B 1 ++ leB x.C 1))) (by simp [leB, wrap8]) rfl (by simp only [List.length_append, leB_len]; omega) fun l1 h1 le1 o1 _ => ?_
 refine layLoop (k := 8) rfl (by omega) le1 o1 (by simp only [List.length_append, leB_len]; omega) fun l2 h2 le2 o2 => hk l2 h2 le2 ?_
 rw [leB_wrap (by omega)] at o2
 simpa [insB, insOf, List.append_assoc] using o2
set_option maxRecDepth 20000 in
theorem refEncode_ok {c : S_api_Config} {p : PCfg} {Q : Sl → Int → Hp → Prop} (a : CfgAt h c p) (hlen : (cfgE p).1 = 0 → (cfgB p).length ≤ 1048576) (h0' : (cfgE p).1 ≠ 0 → Q ⟨none, 0, 0⟩ (cfgE p).1 h)
  (h1 : (cfgE p).1 = 0 → ∀ out h', h ≤ h' → OwnB h h' out (cfgB p) → Q out 0 h') : firebreakref14_Encode_w Tryz.prog c Q h := by
 unfold firebreakref14_Encode_w
 refine firebreakref14_May_call (refCfgMay_ok a fun _ => ?_)
 by_cases he : (cfgE p).1 ≠ 0
 ·rw [if_pos (by simpa using he)]
  exact h0' he
 rw [if_neg (by simpa using he)]
 have he := Classical.not_not.1 he
 have hlen := hlen he
 obtain ⟨ps, hps, hall⟩ := a.procs
 have hll : c.Labels.len = p.labels.length := a.labels.1
 have hlt : c.Table.len = p.table.length := a.table.1
 have hlp : c.Procs.len = ps.length := hps.1
 have hlp2 := hall.len
 have g1 : (p.labels.map fun v => leB v 8).flatten.length = 8 * p.labels.length := flat_eq _ fun _ => leB_len _ _
 have g2 : (p.table.map fun v => leB v 1).flatten.length = 1 * p.table.length := flat_eq _ fun _ => leB_len _ _
 have hL : (cfgB p).length = 14 + (p.labels.map fun v => leB v 8).flatten.length + (p.table.map fun v => leB v 1).flatten.length + (p.procs.map procB).flatten.length := by
  simp only [cfgB, List.length_append, leB_len, List.flatMap_def, List.length_cons, List.length_nil]
  omega
 obtain ⟨-, -, -, -, ⟨hP1, hP32⟩, -⟩ := cfg_bounds he
 refine new_row (h0 := h) (xs := [70, 66, 67, 70, 1] ++ leB (c.Labels.len : Int) 1) (enc := eB) (sz := 1) (Hp.le_refl h) (by simp [leB, wrap8, eB]) eB_len fun a1 k1 le1 o1 => ?_
 refine ownFor (n := p.labels.length) (es := p.labels.map fun v => leB v 8) (by omega) le1 o1 (by simp) (by omega) (by simp only [List.length_append, leB_len, List.length_cons, List.length_nil]; omega) ?_ fun b1 k2 le2 o2 => ?_
 ·intro i e hi l' bs' h' le' o' hb' K hK
  rw [List.getElem?_map] at hi
  cases hv : p.labels[i]? with
  | none => rw [hv] at hi; cases hi
  | some v =>
   rw [hv] at hi; cases hi
   have hil := (List.getElem?_eq_some_iff.1 hv).1
   refine Rs.get (sh := shInt .u64) (Rw.mono le' a.labels) (fun _ => rfl) (by omega) (by omega) (by omega) fun (x : Int) hx => ?_
   have hx : p.labels[i]? = some x := hx
   rw [hv] at hx; cases hx
   exact firebreakref14_Number_call (refNumber_ok (k := 8) rfl (by omega) le' o' (by omega) hK)
 refine app_bytes le2 o2 (leB (c.Table.len : Int) 1) leB_wrap8 rfl (by simp only [List.length_append, leB_len, List.length_cons, List.length_nil]; omega) fun b3 k3 le3 o3 _ => ?_
 refine ownFor (n := p.table.length) (es := p.table.map fun v => leB v 1) (by omega) le3 o3 (by simp) (by omega) (by simp only [List.length_append, leB_len, List.length_cons, List.length_nil]; omega) ?_ fun b4 k4 le4 o4 => ?_
 ·intro i e hi l' bs' h' le' o' hb' K hK
  rw [List.getElem?_map] at hi
  cases hv : p.table[i]? with
  | none => rw [hv] at hi; cases hi
  | some v =>
   rw [hv] at hi; cases hi
   have hil := (List.getElem?_eq_some_iff.1 hv).1
   refine Rs.get (sh := shInt .i64) (Rw.mono le' a.table) (fun _ => rfl) (by omega) (by omega) (by omega) fun (x : Int) hx => ?_
   have hx : p.table[i]? = some x := hx
   rw [hv] at hx; cases hx
   exact app_bytes le' o' (leB v 1) leB_wrap8 rfl (by simp only [leB_len] at hb' ⊢; omega) fun l2 h2 hle2 o2 _ => hK l2 h2 hle2 o2
 refine firebreakref14_Number_call (refNumber_ok (k := 2) rfl (by omega) le4 o4 (by simp only [List.length_append, leB_len, List.length_cons, List.length_nil]; omega) fun b5 k5 le5 o5 => ?_)
 rw [leB_wrap (by omega)] at o5
 refine app_bytes le5 o5 (leB c.Lane 1 ++ leB c.Locks 1) (by simp [leB, wrap8]) rfl (by simp only [List.length_append, leB_len, List.length_cons, List.length_nil]; omega) fun b6 k6 le6 o6 _ => ?_
 refine firebreakref14_Number_call (refNumber_ok (k := 2) rfl (by omega) le6 o6 (by simp only [List.length_append, leB_len, List.length_cons, List.length_nil]; omega) fun b7 k7 le7 o7 => ?_)
 rw [leB_wrap (by omega)] at o7
 refine app_bytes le7 o7 (leB (c.Procs.len : Int) 1) leB_wrap8 rfl (by simp only [List.length_append, leB_len, List.length_cons, List.length_nil]; omega) fun b8 k8 le8 o8 _ => ?_
 refine ownFor (n := ps.length) (es := p.procs.map procB) (by omega) le8 o8 (by rw [List.length_map, hlp2]) (by omega) (by simp only [List.length_append, leB_len, List.length_cons, List.length_nil]; omega) ?_ fun b9 k9 le9 o9 => ?_
 ·intro i e hi l' bs' h' le' o' hb' K hK
  rw [List.getElem?_map] at hi
  cases hv : p.procs[i]? with
  | none => rw [hv] at hi; cases hi
  | some v =>
   rw [hv] at hi; cases hi
   obtain ⟨q, hq, hq1, is, his, hmap⟩ := hall.get' hv
   have hil := (List.getElem?_eq_some_iff.1 hq).1
   have hcl : q.Code.len = is.length := his.1
   have hml : is.length = v.code.length := by rw [← hmap, List.length_map]
   have hcb : (v.code.map insB).flatten.length = 12 * v.code.length := flat_eq _ fun _ => by simp [insB, leB_len]
   have hpl : (procB v).length = 3 + (v.code.map insB).flatten.length := by
    simp only [procB, codeB, List.length_append, leB_len, List.flatMap_def]
    omega
   refine Rs.get (sh := sh_api_Proc) (Rw.mono le' hps) (fun _ => rfl) (by omega) (by omega) (by omega) fun x hx => ?_
   have hx : ps[i]? = some x := hx
   rw [hq] at hx; cases hx
   refine app_bytes le' o' (leB q.Part 1) leB_wrap8 rfl (by rw [leB_len]; omega) fun l2 h2 hle2 o2 _ => ?_
   refine firebreakref14_Number_call (refNumber_ok (k := 2) rfl (by omega) hle2 o2 (by simp only [List.length_append, leB_len]; omega) fun l3 h3 hle3 o3 => ?_)
   rw [leB_wrap (by omega)] at o3
   refine ownFor (n := is.length) (es := v.code.map insB) (by omega) hle3 o3 (by rw [List.length_map, hml]) (by omega) (by simp only [List.length_append, leB_len]; omega) ?_ fun l4 h4 hle4 o4 => ?_
   ·intro j e hj l' bs' h' le' o' hb' K hK
    rw [List.getElem?_map] at hj
    cases hv' : v.code[j]? with
    | none => rw [hv'] at hj; cases hj
    | some u =>
     rw [hv'] at hj; cases hj
     rw [← hmap, List.getElem?_map] at hv'
     cases hw : is[j]? with
     | none => rw [hw] at hv'; cases hv'
     | some w =>
      rw [hw] at hv'; cases hv'
      have hjl := (List.getElem?_eq_some_iff.1 hw).1
      refine Rs.get (sh := sh_api_Ins) (Rw.mono le' his) (fun _ => rfl) (by omega) (by omega) (by omega) fun x hx => ?_
      have hx : is[j]? = some x := hx
      rw [hw] at hx; cases hx
      exact firebreakref06_Put_call (refPut_ok le' o' (by omega) hK)
   ·refine hK l4 h4 hle4 ?_
    have e : procB v = leB q.Part 1 ++ (leB (q.Code.len : Int) 2 ++ (v.code.map insB).flatten) := by rw [hq1, hcl, hml]; simp [procB, codeB, List.flatMap_def]
    rw [e]
    simpa [List.append_assoc] using o4
 ·refine h1 he b9 k9 le9 ?_
  rw [hll, hlt, a.fuel, a.lane, a.locks, a.log, hlp, hlp2] at o9
  simpa [cfgB, List.append_assoc, List.flatMap_def] using o9
set_option maxRecDepth 20000 in
theorem refPutPart_ok {x : S_api_Part} {p : PPart} (hle : h0 ≤ h) (o : OwnB h0 h l bs) (a : PartAt h0 x p) (hoq : p.owners.length = p.queues.length) (hb : bs.length + (partB p).length ≤ 2000000) (hk : ∀ l' h', h0 ≤ h' → OwnB h0 h' l' (bs ++ partB p) → Q l' h') : firebreakref22_part_w Tryz.prog l x Q h := by
 unfold firebreakref22_part_w
 obtain ⟨es, hes, hmap⟩ := a.log
 obtain ⟨qs, hqs, hallq⟩ := a.queues
 have hel : x.Log.len = es.length := hes.1
 have hol : x.Owners.len = p.owners.length := a.owners.1
 have hql : x.Queues.len = qs.length := hqs.1
 have hql2 := hallq.len
 have hxl : p.log.length = es.length := by rw [← hmap, List.length_map]
 have hlog : (p.log.map entryB).flatten.length = 17 * p.log.length := flat_eq _ fun _ => by simp [entryB, leB_len]
 have hzl : (p.owners.zip p.queues).length = p.owners.length := by rw [List.length_zip]; omega
 have hL : (partB p).length = 7 + (p.log.map entryB).flatten.length + ((p.owners.zip p.queues).map lockB).flatten.length := by
  simp only [partB, List.length_append, leB_len, List.flatMap_def]
  omega
 have hbnd : p.owners.length ≤ ((p.owners.zip p.queues).map lockB).flatten.length := by
  rw [← hzl]
  generalize p.owners.zip p.queues = z
  induction z with
  | nil => simp
  | cons y z ih =>
   have : 0 < (lockB y).length := by simp [lockB, leB_len]; omega
   simp only [List.map_cons, List.flatten_cons, List.length_append, List.length_cons]
   omega
 refine app_bytes hle o (leB x.Cursor 1) leB_wrap8 rfl (by rw [leB_len]; omega) fun l1 h1 le1 o1 _ => ?_
 refine firebreakref14_Number_call (refNumber_ok (k := 2) rfl (by omega) le1 o1 (by simp only [List.length_append, leB_len]; omega) fun l2 h2 le2 o2 => ?_)
 rw [leB_wrap (by omega)] at o2
 refine ownFor (n := es.length) (es := p.log.map entryB) (by omega) le2 o2 (by rw [List.length_map, hxl]) (by omega) (by simp only [List.length_append, leB_len]; omega) ?_ fun l3 h3 le3 o3 => ?_
 ·intro i e hi l' bs' h' le' o' hb' K hK
  rw [← hmap, List.map_map, List.getElem?_map] at hi
  cases hv : es[i]? with
  | none => rw [hv] at hi; cases hi
  | some v =>
   rw [hv] at hi; cases hi
   have hil := (List.getElem?_eq_some_iff.1 hv).1
   have hb' : bs'.length + 17 ≤ 2000000 := by simpa [entryB, leB_len] using hb'
   have hm : ∀ h2, h0 ≤ h2 → EntS h2 x.Log es := fun h2 hl2 => Rw.mono hl2 hes
   refine Rw.fld (hm _ le') (fun _ => rfl) (by omega) (sh := shInt .i64) (fun q => q.Tick) (fun _ => rfl) (by omega) (by omega) fun w hw => ?_
   have hw : es[i]? = some w := hw
   rw [hv] at hw; cases hw
   refine firebreakref14_Number_call (refNumber_ok (k := 8) rfl (by omega) le' o' (by omega) fun l4 h4 le4 o4 => ?_)
   rw [leB_wrap (by omega)] at o4
   refine Rw.fld (hm _ le4) (fun _ => rfl) (by omega) (sh := shInt .i64) (fun q => q.Proc) (fun _ => rfl) (by omega) (by omega) fun w hw => ?_
   have hw : es[i]? = some w := hw
   rw [hv] at hw; cases hw
   refine app_bytes le4 o4 (leB v.Proc 1) leB_wrap8 rfl (by simp only [List.length_append, leB_len]; omega) fun l5 h5 le5 o5 _ => ?_
   refine Rw.fld (hm _ le5) (fun _ => rfl) (by omega) (sh := shInt .i64) (fun q => q.Value_) (fun _ => rfl) (by omega) (by omega) fun w hw => ?_
   have hw : es[i]? = some w := hw
   rw [hv] at hw; cases hw
   refine firebreakref14_Number_call (refNumber_ok (k := 8) rfl (by omega) le5 o5 (by simp only [List.length_append, leB_len]; omega) fun l6 h6 le6 o6 => hK l6 h6 le6 ?_)
   rw [leB_wrap (by omega)] at o6
   simpa [entryB, entryOf, List.append_assoc] using o6
 refine firebreakref14_Number_call (refNumber_ok (k := 2) rfl (by omega) le3 o3 (by simp only [List.length_append, leB_len]; omega) fun l4 h4 le4 o4 => ?_)
 rw [leB_wrap (by omega)] at o4
 refine firebreakref14_Number_call (refNumber_ok (k := 2) rfl (by omega) le4 o4 (by simp only [List.length_append, leB_len]; omega) fun l5 h5 le5 o5 => ?_)
 rw [leB_wrap (by omega)] at o5
 refine ownFor (n := p.owners.length) (es := (p.owners.zip p.queues).map lockB) (by omega) le5 o5 (by rw [List.length_map, hzl]) (by omega) (by simp only [List.length_append, leB_len]; omega) ?_ fun l6 h6 le6 o6 => ?_
 ·intro i e hi l' bs' h' le' o' hb' K hK
  rw [List.getElem?_map] at hi
  cases hz : (p.owners.zip p.queues)[i]? with
  | none => rw [hz] at hi; cases hi
  | some z =>
   rw [hz] at hi; cases hi
   obtain ⟨z1, z2⟩ := zip_get hz
   obtain ⟨q, hq1, hq2⟩ := hallq.get' z2
   have hi := (List.getElem?_eq_some_iff.1 hq1).1
   have hqlen : Sl.len q = z.2.length := hq2.1
   have hz8 : (z.2.map fun p => leB p 1).flatten.length = 1 * z.2.length := flat_eq _ fun _ => leB_len _ _
   have hlk : (lockB z).length = 2 + (z.2.map fun p => leB p 1).flatten.length := by
    simp only [lockB, List.length_append, leB_len, List.flatMap_def]
    omega
   have hgq : ∀ h2, h0 ≤ h2 → ∀ {K' : Sl → Prop}, K' q → ((InB x.Queues.base x.Queues.len (i : Int)) ∧ LdW none shSl h2 (sat x.Queues.base 1 (i : Int)) K') := fun h2 hl2 {K'} hk => by
    refine Rs.get (sh := shSl) (Rw.mono hl2 hqs) (fun _ => rfl) (by omega) (by omega) (by omega) fun v hv => ?_
    have hv : qs[i]? = some v := hv
    rw [hq1] at hv; cases hv
    exact hk
   refine Rs.get (sh := shInt .i64) (Rw.mono le' a.owners) (fun _ => rfl) (by omega) (by omega) (by omega) fun (w : Int) hw => ?_
   have hw : p.owners[i]? = some w := hw
   rw [z1] at hw; cases hw
   refine hgq h' le' ?_
   refine app_bytes le' o' (leB (IntKind.wrap .i64 (z.1 + 1)) 1 ++ leB (q.len : Int) 1) (by simp [leB, wrap8]) rfl (by simp only [List.length_append, leB_len]; omega) fun l7 h7 le7 o7 _ => ?_
   rw [leB_wrapI (by omega)] at o7
   refine loopA (n := z.2.length) (by omega) (fun n l h' => h0 ≤ h' ∧ OwnB h0 h' l ((bs' ++ (leB (z.1 + 1) 1 ++ leB (q.len : Int) 1)) ++ ((z.2.map fun p => leB p 1).take n).flatten)) ⟨le7, by simpa using o7⟩ ?_
   rintro n hn l8 h8 ⟨le8, o8⟩ K2 hK2
   refine hgq h8 le8 ?_
   by_cases hlt : n < z.2.length
   ·rw [if_pos (decide_eq_true (by omega))]
    refine hgq h8 le8 ?_
    refine Rs.get (sh := shInt .i64) (Rw.mono le8 hq2) (fun _ => rfl) (by omega) (by omega) (by omega) fun (v : Int) hv => ?_
    have hv : z.2[n]? = some v := hv
    have he : (z.2.map fun p => leB p 1)[n]? = some (leB v 1) := by rw [List.getElem?_map, hv]; rfl
    obtain ⟨s1, s2⟩ := wr_step (bs := bs' ++ (leB (z.1 + 1) 1 ++ leB (q.len : Int) 1)) he
    simp only [List.length_append, leB_len] at s2
    refine app_bytes le8 o8 (leB v 1) leB_wrap8 rfl (by simp only [List.length_append, leB_len]; omega) fun l9 h9 le9 o9 _ => hK2 hlt l9 h9 ⟨le9, ?_⟩
    rw [← s1]; exact o9
   ·rw [if_neg (fun e => hlt (by have := of_decide_eq_true e; omega))]
    rw [List.take_of_length_le (by rw [List.length_map]; omega), hqlen] at o8
    refine hK l8 h8 le8 ?_
    simpa [lockB, List.append_assoc, List.flatMap_def] using o8
 ·refine hk l6 h6 le6 ?_
  rw [a.cursor, hel, ← hxl, a.lost, a.forbidden] at o6
  simpa [partB, List.append_assoc, List.flatMap_def] using o6
end
end Lf

namespace Lf
open Go Go.Proofs
section
variable {h0 h : Hp} {l : Sl} {bs : List UInt8} {Q : Sl → Hp → Prop}
set_option maxRecDepth 20000 in
theorem refPutProc_ok {x : S_api_Process} {p : PProcess} (hle : h0 ≤ h) (o : OwnB h0 h l bs) (a : ProcessAt h0 x p) (hb : bs.length + (procSB p).length ≤ 2000000) (hk : ∀ l' h', h0 ≤ h' → OwnB h0 h' l' (bs ++ procSB p) → Q l' h') : firebreakref22_process_w Tryz.prog l x Q h := by
 unfold firebreakref22_process_w
 obtain ⟨ls, hls, hall⟩ := a.lanes
 have hll : x.Lanes.len = ls.length := hls.1
 have hll2 := hall.len
 have hr8 : (p.regs.map fun v => leB v 8).flatten.length = 8 * p.regs.length := flat_eq _ fun _ => leB_len _ _
 have hrl : p.regs.length = 8 := by rw [← a.regs]; rfl
 have hL : (procSB p).length = 21 + (p.regs.map fun v => leB v 8).flatten.length + (p.lanes.map laneB).flatten.length := by
  simp only [procSB, List.length_append, leB_len, List.flatMap_def]
  omega
 have hbnd : p.lanes.length ≤ (p.lanes.map laneB).flatten.length := by
  generalize p.lanes = z
  induction z with
  | nil => simp
  | cons y z ih =>
   have : 0 < (laneB y).length := by simp [laneB, leB_len]; omega
   simp only [List.map_cons, List.flatten_cons, List.length_append, List.length_cons]
   omega
 refine app_bytes hle o (leB x.State 1) leB_wrap8 rfl (by rw [leB_len]; omega) fun l1 h1 le1 o1 _ => ?_
 refine firebreakref14_Number_call (refNumber_ok (k := 2) rfl (by omega) le1 o1 (by simp only [List.length_append, leB_len]; omega) fun l2 h2 le2 o2 => ?_)
 rw [leB_wrap (by omega)] at o2
 refine ownFor (n := 8) (es := p.regs.map fun v => leB v 8) rfl le2 o2 (by rw [List.length_map, hrl]) (by omega) (by simp only [List.length_append, leB_len]; omega) ?_ fun l3 h3 le3 o3 => ?_
 ·intro i e hi l' bs' h' le' o' hb' K hK
  have hi8 := (List.getElem?_eq_some_iff.1 hi).1
  rw [List.length_map, hrl] at hi8
  rw [List.getElem?_map] at hi
  cases hv : p.regs[i]? with
  | none => rw [hv] at hi; cases hi
  | some v =>
   rw [hv] at hi; cases hi
   have hg : ([x.Regs_0, x.Regs_1, x.Regs_2, x.Regs_3, x.Regs_4, x.Regs_5, x.Regs_6, x.Regs_7] : List Int)[i]? = some v := by rw [a.regs]; exact hv
   have hb' : bs'.length + 8 ≤ 2000000 := by simpa [leB_len] using hb'
   refine ⟨⟨by omega, by omega⟩, v, ?_, firebreakref14_Number_call (refNumber_ok (k := 8) rfl (by omega) le' o' (by omega) fun l4 h4 le4 o4 => hK l4 h4 le4 ?_)⟩
   ·refine (regs_get x (n := i) (by omega)).trans ?_
    rw [List.getD_eq_getElem?_getD, hg]; rfl
   ·rw [leB_wrap (by omega)] at o4
    exact o4
 refine app_bytes le3 o3 (leB x.Cursor 1) leB_wrap8 rfl (by simp only [List.length_append, leB_len]; omega) fun l4 h4 le4 o4 _ => ?_
 refine firebreakref14_Number_call (refNumber_ok (k := 8) rfl (by omega) le4 o4 (by simp only [List.length_append, leB_len]; omega) fun l5 h5 le5 o5 => ?_)
 rw [leB_wrap (by omega)] at o5
 have hone : ∀ K : Int → Hp → Prop, K (firedB x.Fired) h5 → firebreakref22_one_w Tryz.prog x.Fired K h5 := fun K hK => by
  unfold firebreakref22_one_w
  unfold firedB at hK
  by_cases hf : x.Fired = true
  ·rw [if_pos hf] at hK ⊢; exact hK
  ·rw [if_neg hf] at hK ⊢; exact hK
 refine firebreakref22_one_call (hone _ ?_)
 have h8 : ([Value.int .u8 (firedB x.Fired)] : List Value) = (leB (firedB x.Fired) 1).map fun b => Value.int .u8 (b.toNat : Int) := by
  cases x.Fired <;> rfl
 refine app_bytes le5 o5 (leB (firedB x.Fired) 1) h8 rfl (by simp only [List.length_append, leB_len]; omega) fun l6 h6 le6 o6 _ => ?_
 refine firebreakref14_Number_call (refNumber_ok (k := 8) rfl (by omega) le6 o6 (by simp only [List.length_append, leB_len]; omega) fun l7 h7 le7 o7 => ?_)
 rw [leB_wrap (by omega)] at o7
 refine ownFor (n := ls.length) (es := p.lanes.map laneB) (by omega) le7 o7 (by rw [List.length_map, hll2]) (by omega) (by simp only [List.length_append, leB_len]; omega) ?_ fun l8 h8 le8 o8 => ?_
 ·intro i e hi l' bs' h' le' o' hb' K hK
  rw [List.getElem?_map] at hi
  cases hv : p.lanes[i]? with
  | none => rw [hv] at hi; cases hi
  | some v =>
   rw [hv] at hi; cases hi
   obtain ⟨L, hL1, hL2⟩ := hall.get' hv
   have hil := (List.getElem?_eq_some_iff.1 hL1).1
   obtain ⟨ws, hws, hmap⟩ := hL2.waiters
   have hvl : L.Values.len = v.values.length := hL2.values.1
   have hwl : L.Waiters.len = ws.length := hws.1
   have hwl2 : v.waiters.length = ws.length := by rw [← hmap, List.length_map]
   have hl' : (laneB v).length = 6 + (v.values.map fun v => leB v 8).flatten.length + (v.waiters.map waiterB).flatten.length := by
    simp only [laneB, List.length_append, leB_len, List.flatMap_def]
    omega
   have hv8 : (v.values.map fun v => leB v 8).flatten.length = 8 * v.values.length := flat_eq _ fun _ => leB_len _ _
   have hw9 : (v.waiters.map waiterB).flatten.length = 9 * v.waiters.length := flat_eq _ fun _ => by simp [waiterB, leB_len]
   refine Rs.get (sh := sh_api_Lane) (Rw.mono le' hls) (fun _ => rfl) (by omega) (by omega) (by omega) fun w hw => ?_
   have hw : ls[i]? = some w := hw
   rw [hL1] at hw; cases hw
   refine app_bytes le' o' (leB (L.Values.len : Int) 1) leB_wrap8 rfl (by rw [leB_len]; omega) fun m1 g1 q1 r1 _ => ?_
   refine ownFor (n := v.values.length) (es := v.values.map fun v => leB v 8) (by omega) q1 r1 (by simp) (by omega) (by simp only [List.length_append, leB_len]; omega) ?_ fun m2 g2 q2 r2 => ?_
   ·intro j e hj l' bs' h' le' o' hb' K hK
    rw [List.getElem?_map] at hj
    cases hv' : v.values[j]? with
    | none => rw [hv'] at hj; cases hj
    | some u =>
     rw [hv'] at hj; cases hj
     have hjl := (List.getElem?_eq_some_iff.1 hv').1
     have hb' : bs'.length + 8 ≤ 2000000 := by simpa [leB_len] using hb'
     refine Rs.get (sh := shInt .i64) (Rw.mono le' hL2.values) (fun _ => rfl) (by omega) (by omega) (by omega) fun (x : Int) hx => ?_
     have hx : v.values[j]? = some x := hx
     rw [hv'] at hx; cases hx
     refine firebreakref14_Number_call (refNumber_ok (k := 8) rfl (by omega) le' o' (by omega) fun l4 h4 le4 o4 => hK l4 h4 le4 ?_)
     rw [leB_wrap (by omega)] at o4
     exact o4
   refine app_bytes q2 r2 (leB (L.Waiters.len : Int) 1) leB_wrap8 rfl (by simp only [List.length_append, leB_len]; omega) fun m3 g3 q3 r3 _ => ?_
   refine ownFor (n := ws.length) (es := v.waiters.map waiterB) (by omega) q3 r3 (by rw [List.length_map, hwl2]) (by omega) (by simp only [List.length_append, leB_len]; omega) ?_ fun m4 g4 q4 r4 => ?_
   ·intro j e hj l' bs' h' le' o' hb' K hK
    rw [← hmap, List.map_map, List.getElem?_map] at hj
    cases hv' : ws[j]? with
    | none => rw [hv'] at hj; cases hj
    | some u =>
     rw [hv'] at hj; cases hj
     have hjl := (List.getElem?_eq_some_iff.1 hv').1
     have hb' : bs'.length + 9 ≤ 2000000 := by simpa [waiterB, leB_len] using hb'
     refine Rw.fld (Rw.mono le' hws) (fun _ => rfl) (by omega) (sh := shInt .i64) (fun q => q.Proc) (fun _ => rfl) (by omega) (by omega) fun w hw => ?_
     have hw : ws[j]? = some w := hw
     rw [hv'] at hw; cases hw
     refine app_bytes le' o' (leB u.Proc 1) leB_wrap8 rfl (by rw [leB_len]; omega) fun n1 e1 s1 t1 _ => ?_
     refine Rw.fld (Rw.mono s1 hws) (fun _ => rfl) (by omega) (sh := shInt .i64) (fun q => q.Value_) (fun _ => rfl) (by omega) (by omega) fun w hw => ?_
     have hw : ws[j]? = some w := hw
     rw [hv'] at hw; cases hw
     refine firebreakref14_Number_call (refNumber_ok (k := 8) rfl (by omega) s1 t1 (by simp only [List.length_append, leB_len]; omega) fun l4 h4 le4 o4 => hK l4 h4 le4 ?_)
     rw [leB_wrap (by omega)] at o4
     simpa [waiterB, waiterOf, List.append_assoc] using o4
   refine firebreakref14_Number_call (refNumber_ok (k := 2) rfl (by omega) q4 r4 (by simp only [List.length_append, leB_len]; omega) fun m5 g5 q5 r5 => ?_)
   rw [leB_wrap (by omega)] at r5
   refine firebreakref14_Number_call (refNumber_ok (k := 2) rfl (by omega) q5 r5 (by simp only [List.length_append, leB_len]; omega) fun m6 g6 q6 r6 => hK m6 g6 q6 ?_)
   rw [leB_wrap (by omega)] at r6
   rw [hvl, hwl, ← hwl2, hL2.taken, hL2.dropped] at r6
   simpa [laneB, List.append_assoc, List.flatMap_def] using r6
 ·refine hk l8 h8 le8 ?_
  rw [a.state, a.pc, a.cursor, a.timer, a.wake, a.fired] at o8
  simpa [procSB, List.append_assoc, List.flatMap_def] using o8
set_option maxRecDepth 20000 in
theorem refSnap_ok {x : S_api_Config} {y : S_api_State} {c : PCfg} {s : PState} {Q : Sl → Int → Hp → Prop} (cx : CfgAt h x c) (sy : StateAt h y s) (hu : ∀ l ∈ c.labels, InU l) (hS : StLe s)
  (hlen : (cfgE c).1 = 0 → MayP c s → (snapB c s).length ≤ 1048576) (he : ∀ e h', h ≤ h' → e ≠ 0 → MayIs c s e → Q ⟨none, 0, 0⟩ e h')
  (h1 : (cfgE c).1 = 0 → MayP c s → ∀ out h', h ≤ h' → OwnB h h' out (snapB c s) → Q out 0 h') : firebreakref22_Encode_w Tryz.prog x y Q h := by
 unfold firebreakref22_Encode_w
 refine firebreakref15_May_call (refMay_ok cx sy hu hS fun e k1 le1 hm => ?_)
 by_cases he0 : e ≠ 0
 ·rw [if_pos (by simpa using he0)]
  exact he e k1 le1 he0 hm
 rw [if_neg (by simpa using he0)]
 have he0 := Classical.not_not.1 he0
 subst he0
 obtain ⟨hc, hM⟩ : (cfgE c).1 = 0 ∧ MayP c s := by
  rcases hm with ⟨h1, h2⟩ | ⟨h1, ⟨_, h2⟩ | ⟨h2, _⟩⟩
  ·exact absurd h2.symm h1
  ·exact ⟨h1, h2⟩
  ·cases h2
 have hlen := hlen hc hM
 have a1 := cx.mono le1
 have b1 := sy.mono le1
 have hL : (snapB c s).length = 17 + (cfgB c).length + (s.parts.map partB).flatten.length + (s.procs.map procSB).flatten.length := by
  simp only [snapB, List.length_append, leB_len, List.flatMap_def, List.length_cons, List.length_nil]
  omega
 refine firebreakref14_Encode_call (refEncode_ok a1 (fun _ => by omega) (fun hn => absurd hc hn) fun _ out k2 le2 o2 => ?_)
 have b2 := b1.mono le2
 obtain ⟨qs, hqs, hallq⟩ := b2.procs
 obtain ⟨pa, has, halla⟩ := b2.parts
 have e2 := hallq.len
 have e3 := halla.len
 have e4 : y.Procs.len = qs.length := hqs.1
 have e5 : y.Parts.len = pa.length := has.1
 have hR := o2.rw eB_len
 have hol : out.len = (cfgB c).length := hR.1
 have f1 := hS.parts
 have f2 := hS.procs
 have hMM := hM
 obtain ⟨-, hPa, -⟩ := hM
 refine new_row (h0 := k2) (xs := ([70, 66, 83, 78, 1] : List UInt8)) (enc := eB) (sz := 1) (Hp.le_refl k2) (by simp [eB]) eB_len fun a3 k3 le3 o3 => ?_
 refine firebreakref14_Number_call (b := ⟨some a3, 5, 5⟩) (refNumber_ok (k := 4) rfl (by omega) le3 o3 (by simp) fun b4 k4 le4 o4 => ?_)
 rw [leB_wrap (by omega)] at o4
 refine app_own (x := ⟨out.base, out.len, out.cap⟩) le4 o4 (Rw.mono le4 hR) eB_len eB_ok rfl (by simp only [List.length_append, leB_len, List.length_cons, List.length_nil]; omega) fun b5 k5 le5 o5 _ => ?_
 refine firebreakref14_Number_call (refNumber_ok (k := 8) rfl (by omega) le5 o5 (by simp only [List.length_append, leB_len, List.length_cons, List.length_nil]; omega) fun b6 k6 le6 o6 => ?_)
 rw [leB_wrap (by omega)] at o6
 refine ownFor (n := pa.length) (es := s.parts.map partB) (by omega) le6 o6 (by rw [List.length_map, e3]) (by omega) (by simp only [List.length_append, leB_len, List.length_cons, List.length_nil]; omega) ?_ fun b7 k7 le7 o7 => ?_
 ·intro i e hi l' bs' h' le' o' hb' K hK
  rw [List.getElem?_map] at hi
  cases hv : s.parts[i]? with
  | none => rw [hv] at hi; cases hi
  | some v =>
   rw [hv] at hi; cases hi
   obtain ⟨q, hq1, hq2⟩ := halla.get' hv
   have hil := (List.getElem?_eq_some_iff.1 hq1).1
   refine Rs.get (sh := sh_api_Part) (Rw.mono le' has) (fun _ => rfl) (by omega) (by omega) (by omega) fun w hw => ?_
   have hw : pa[i]? = some w := hw
   rw [hq1] at hw; cases hw
   have hp := hPa i v hv
   exact firebreakref22_part_call (refPutPart_ok le' o' hq2 (by have := hp.2.2.2.2.2.1; have := hp.2.2.2.2.2.2.1; omega) hb' hK)
 refine ownFor (n := qs.length) (es := s.procs.map procSB) (by omega) le7 o7 (by rw [List.length_map, e2]) (by omega) (by simp only [List.length_append, leB_len, List.length_cons, List.length_nil]; omega) ?_ fun b8 k8 le8 o8 => ?_
 ·intro i e hi l' bs' h' le' o' hb' K hK
  rw [List.getElem?_map] at hi
  cases hv : s.procs[i]? with
  | none => rw [hv] at hi; cases hi
  | some v =>
   rw [hv] at hi; cases hi
   obtain ⟨q, hq1, hq2⟩ := hallq.get' hv
   have hil := (List.getElem?_eq_some_iff.1 hq1).1
   refine Rs.get (sh := sh_api_Process) (Rw.mono le' hqs) (fun _ => rfl) (by omega) (by omega) (by omega) fun w hw => ?_
   have hw : qs[i]? = some w := hw
   rw [hq1] at hw; cases hw
   exact firebreakref22_process_call (refPutProc_ok le' o' hq2 hb' hK)
 refine h1 hc hMM b8 k8 (Hp.le_trans le1 (Hp.le_trans le2 le8)) ?_
 rw [hol, b2.tick] at o8
 have := own_start (Hp.le_trans le1 le2) o8
 simpa [snapB, List.append_assoc, List.flatMap_def] using this
end
end Lf

namespace Lf
open Go Go.Proofs
theorem nilB {h : Hp} : Bs h ⟨none, 0, 0⟩ [] := ⟨rfl, rfl, .inl rfl⟩
set_option maxRecDepth 20000 in
theorem snapWrites_ok {h : Hp} {x : S_api_Config} {y : S_api_State} {c : PCfg} {s : PState} {Q : Bool → Hp → Prop} (cx : CfgAt h x c) (tc : Typed c) (lc : CfgLe c) (sy : StateAt h y s) (ts : TypedS s) (ls : StLe s) (hq : ∀ h', h ≤ h' → Q true h') : firebreaklaw22_SnapWrites_w Tryz.prog x y Q h := by
 unfold firebreaklaw22_SnapWrites_w
 refine firebreaklaw22_awake_call (awake22_ok fun h1 l1 => ?_)
 rw [if_neg (by simp)]
 refine firebreaklaw22_many_call (many22_ok (cx.mono l1) lc (sy.mono l1) ls fun r1 => ?_)
 cases r1 with
 | true =>
  rw [if_pos rfl]
  exact hq h1 l1
 | false =>
 rw [if_neg (by simp)]
 have hu33 := tb_ok.und 33 ty33 rfl
 have hu5 := tb_ok.und 5 ty5 rfl
 have hu9 := tb_ok.und 9 ty9 rfl
 have hshort : (cfgE c).1 = 0 → MayP c s → (snapB c s).length ≤ 1048576 := fun h0 hM => Nat.le_of_lt (snap_short tc ts h0 hM)
 have fin : ∀ (h3 h4 : Hp), h ≤ h4 → h3 ≤ h4 → ∀ (a b : Sl) (bs : List UInt8) (e : Int), Bs h3 a bs → Bs h4 b bs →
   SemV (some (e == e)) Tryz.prog (convert 33 9 a.v) shStr h4 fun x =>
   SemV (some (e == e)) Tryz.prog (convert 33 9 b.v) shStr h4 fun x1 =>
   LetW ((e == e) && ((ByteArray.toList x) == (ByteArray.toList x1))) fun y => Q y h4 := fun h3 h4 l04 l34 a b bs e ha hb => by
  refine ⟨_, fun _ => semIs_text hu33 hu5 hu9 (Rw.mono l34 ha), ⟨_, fun _ => semIs_text hu33 hu5 hu9 hb, letW ?_⟩⟩
  have he : ((e == e) && ((ByteArray.toList (⟨bs.toArray⟩ : ByteArray)) == (ByteArray.toList (⟨bs.toArray⟩ : ByteArray)))) = true := by simp
  rw [he]
  exact hq h4 l04
 refine snap_Encode_call (snapEncode_ok (cx.mono l1) (sy.mono l1) (typed_in tc) (evs_le ls) hshort (fun e h3 l3 he hm => ?_) fun h01 h02 out h3 l3 oo => ?_)
 ·have l13 := Hp.le_trans l1 l3
  refine firebreakref22_Encode_call (refSnap_ok (cx.mono l13) (sy.mono l13) (typed_in tc) ls hshort (fun e' h4 l4 he' hm' => ?_) fun h01 h02 => ?_)
  ·have := hm.uniq hm'
   subst this
   exact fin h3 h4 (Hp.le_trans l13 l4) l4 _ _ [] e nilB nilB
  ·exact absurd (hm.uniq (.inr ⟨h01, .inl ⟨rfl, h02⟩⟩)) he
 ·have l13 := Hp.le_trans l1 l3
  refine firebreakref22_Encode_call (refSnap_ok (cx.mono l13) (sy.mono l13) (typed_in tc) ls hshort (fun e' h4 l4 he' hm' => ?_) fun _ _ out2 h4 l4 oo2 => ?_)
  ·exact absurd (hm'.uniq (.inr ⟨h01, .inl ⟨rfl, h02⟩⟩)) he'
  ·exact fin h3 h4 (Hp.le_trans l13 l4) l4 _ _ (snapB c s) 0 (oo.rw eB_len) (oo2.rw eB_len)
end Lf

