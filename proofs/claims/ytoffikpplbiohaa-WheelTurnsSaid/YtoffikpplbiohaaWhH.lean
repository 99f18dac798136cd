/-
  The calls whose answers the document fixes.
-/
import Derived.Test.YtoffikpplbiohaaWhG
namespace Lf
open Go Go.Proofs

theorem sorted_ext : ∀ {l1 l2 : List S_wheel_entry}, l1.Pairwise ltE → l2.Pairwise ltE → (∀ x, x ∈ l1 ↔ x ∈ l2) → l1 = l2
  | [], [], _, _, _ => rfl
  | [], y :: l2, _, _, h => by have := (h y).2 (List.mem_cons_self ..); cases this
  | x :: l1, [], _, _, h => by have := (h x).1 (List.mem_cons_self ..); cases this
  | x :: l1, y :: l2, h1, h2, h => by
    obtain ⟨a1, a2⟩ := List.pairwise_cons.1 h1
    obtain ⟨b1, b2⟩ := List.pairwise_cons.1 h2
    have hxy : x = y := by
      rcases List.mem_cons.1 ((h x).1 (List.mem_cons_self ..)) with e | hx
      · exact e
      · rcases List.mem_cons.1 ((h y).2 (List.mem_cons_self ..)) with e | hy
        · exact e.symm
        · exact absurd (ltE_tr (a1 y hy) (b1 x hx)) (ltE_irr _)
    subst hxy
    rw [sorted_ext a2 b2 fun z => ?_]
    constructor
    · intro hz
      rcases List.mem_cons.1 ((h z).1 (List.mem_cons_of_mem _ hz)) with e | hz'
      · subst e; exact absurd (a1 z hz) (ltE_irr _)
      · exact hz'
    · intro hz
      rcases List.mem_cons.1 ((h z).2 (List.mem_cons_of_mem _ hz)) with e | hz'
      · subst e; exact absurd (b1 z hz) (ltE_irr _)
      · exact hz'

theorem cleared_ok {Q : Bool → Hp → Prop} {h : Hp} (hq : ∀ h', h ≤ h' → Q true h') : firebreaklaw11_cleared_w Try.prog Q h := by
  unfold firebreaklaw11_cleared_w
  refine wheel_New_call (whNew_ok fun p F h1 l1 f1 w1 => ?_)
  rw [if_neg (by simp)]
  refine wheel_Wheel_Set_call (whSet_ok w1 (by simp) (fun e => by omega) fun _ _ es2 F2 h2 m2 w2 he2 _ => ?_)
  have hes2 : es2 = [⟨10, 3⟩] := sorted_ext w2.sorted (List.pairwise_singleton _ _) fun x => by rw [he2 x]; simp
  subst hes2
  obtain ⟨l2, f2⟩ := m2.le l1 f1
  refine wheel_Wheel_Clear_call (whClear_ok w2 (by simp) (fun hn => absurd rfl (hn ⟨10, 3⟩ (by simp))) fun i e h3 hi _ m3 w3 => ?_)
  have hi0 : i = 0 := by
    have := (List.getElem?_eq_some_iff.1 hi).1
    simp at this
    omega
  subst hi0
  have w3' : Wh h3 p [] F2 := w3
  obtain ⟨l3, f3⟩ := m3.le l2 f2
  refine wheel_Wheel_Due_call (whDue_ok w3' (fun _ => ?_) fun e he => by cases he)
  refine letW (letW ?_)
  refine effT (wheel_Wheel_Len_call (whLen_ok w3' ?_))
  exact letW (hq h3 l3)

set_option maxHeartbeats 1000000 in
theorem fixed_ok {Q : Bool → Hp → Prop} {h : Hp} (hq : ∀ h', h ≤ h' → Q true h') : firebreaklaw11_fixed_w Try.prog Q h := by
  unfold firebreaklaw11_fixed_w
  refine wheel_New_call (whNew_ok fun p F h1 l1 f1 w1 => ?_)
  rw [if_neg (by simp)]
  refine wheel_Wheel_Set_call (whSet_ok w1 (by simp) (fun e => by omega) fun _ _ es2 F2 h2 m2 w2 he2 _ => ?_)
  have hes2 : es2 = [⟨10, 3⟩] := sorted_ext w2.sorted (List.pairwise_singleton _ _) fun x => by rw [he2 x]; simp
  subst hes2
  obtain ⟨l2, f2⟩ := m2.le l1 f1
  refine wheel_Wheel_Set_call (whSet_ok w2 (by simp) (fun e => by omega) fun _ _ es3 F3 h3 m3 w3 he3 _ => ?_)
  have hes3 : es3 = [⟨10, 1⟩, ⟨10, 3⟩] := sorted_ext w3.sorted (by simp [ltE]) fun x => by
    rw [he3 x]
    simp only [List.mem_cons, List.not_mem_nil, or_false]
    constructor
    · rintro (rfl | ⟨rfl, _⟩)
      · exact .inl rfl
      · exact .inr rfl
    · rintro (rfl | rfl)
      · exact .inl rfl
      · exact .inr ⟨rfl, by decide⟩
  subst hes3
  obtain ⟨l3, f3⟩ := m3.le l2 f2
  refine wheel_Wheel_Set_call (whSet_ok w3 (by simp) (fun e => by omega) fun _ _ es4 F4 h4 m4 w4 he4 _ => ?_)
  have hes4 : es4 = [⟨5, 2⟩, ⟨10, 1⟩, ⟨10, 3⟩] := sorted_ext w4.sorted (by simp [ltE]) fun x => by
    rw [he4 x]
    simp only [List.mem_cons, List.not_mem_nil, or_false]
    constructor
    · rintro (rfl | ⟨rfl | rfl, _⟩)
      · exact .inl rfl
      · exact .inr (.inl rfl)
      · exact .inr (.inr rfl)
    · rintro (rfl | rfl | rfl)
      · exact .inl rfl
      · exact .inr ⟨.inl rfl, by decide⟩
      · exact .inr ⟨.inr rfl, by decide⟩
  subst hes4
  obtain ⟨l4, f4⟩ := m4.le l3 f3
  refine wheel_Wheel_Set_call (whSet_ok w4 (by simp) (fun _ => ?_) fun e => by omega)
  refine wheel_Wheel_Next_call (whNext_ok w4 (fun e => by cases e) fun e r hr => ?_)
  cases hr
  refine wheel_Wheel_Pop_call (whPop_ok w4 (by simp) fun out h5 done rest G F5 hsp hdn hrest ho w5 hdis m5 => ?_)
  obtain ⟨l5, f5⟩ := m5.le l4 f4
  have hrn : rest = [] := by
    cases rest with
    | nil => rfl
    | cons x r =>
      have h1 := hrest x r rfl
      have hx : x ∈ ([⟨5, 2⟩, ⟨10, 1⟩, ⟨10, 3⟩] : List S_wheel_entry) := by rw [hsp]; simp
      simp only [List.mem_cons, List.not_mem_nil, or_false] at hx
      rcases hx with rfl | rfl | rfl <;> simp at h1
  subst hrn
  rw [List.append_nil] at hsp
  subst hsp
  have ho' : Rs h5 (shInt .i64) 1 out [2, 1, 3] := ho.rw fun _ => rfl
  have hlen := ho'.1
  simp at hlen
  refine letW (letW (letW (letW (letW (letW ?_)))))
  have e5 : ((((((((0 : Int) == 0) && ((0 : Int) == 0)) && ((0 : Int) == 0)) && ((1 : Int) == 1)) && ((5 : Int) == 5)) && true) && ((out.len : Int) == 3)) = true := by simp [hlen]
  rw [e5]
  refine Rs.getC ho' (0 : Int) (fun _ => rfl) (by omega) (fun _ => by simp) fun (x : Int) hx => ?_
  have hx' : 2 = x := by simpa using hx rfl
  subst hx'
  refine letW ?_
  refine Rs.getC ho' (0 : Int) (fun _ => rfl) (by omega) (fun _ => by simp) fun (x : Int) hx => ?_
  have hx' : 1 = x := by simpa using hx rfl
  subst hx'
  refine letW ?_
  refine Rs.getC ho' (0 : Int) (fun _ => rfl) (by omega) (fun _ => by simp) fun (x : Int) hx => ?_
  have hx' : 3 = x := by simpa using hx rfl
  subst hx'
  refine letW ?_
  refine effT (wheel_Wheel_Len_call (whLen_ok w5 ?_))
  exact letW (hq h5 l5)

theorem wheelNames_ok {Q : Bool → Hp → Prop} {h : Hp} (hq : ∀ h', h ≤ h' → Q true h') : firebreaklaw11_WheelNames_w Try.prog Q h := by
  unfold firebreaklaw11_WheelNames_w
  refine firebreaklaw11_cleared_call (cleared_ok fun h1 l1 => ?_)
  refine effT (firebreaklaw11_fixed_call (fixed_ok fun h2 l2 => ?_))
  exact letW (hq h2 (Hp.le_trans l1 l2))

end Lf
