/-
  Part 6 of the texts that the claim leans on.
-/
import Derived.Laws.StructEq
import Derived.ChangeKeysEq
import Derived.Test.YtloapcmhhcbonaaGreatMgSnReads4
namespace Lf
open Go Go.Proofs
def LsO {α β : Type} (R : α → β → Hp → List Nat → Prop) : List α → List β → Hp → List Nat → Prop
 | [], [], _, B => B = []
 | a :: l, b :: m, h, B => ∃ B1 B2, B = B1 ++ B2 ∧ R a b h B1 ∧ LsO R l m h B2
 | _, _, _, _ => False
structure AsOk {α β : Type} (R : α → β → Hp → List Nat → Prop) : Prop where
 same : ∀ {a b h h' B}, R a b h B → (∀ c ∈ B, h' c = h c) → R a b h' B
 known : ∀ {a b h B}, R a b h B → ∀ c ∈ B, h c ≠ none
section
variable {α β : Type} {R : α → β → Hp → List Nat → Prop} {h h' : Hp}
theorem LsO.same (ok : AsOk R) : ∀ {l : List α} {m : List β} {B : List Nat}, LsO R l m h B → (∀ c ∈ B, h' c = h c) → LsO R l m h' B
 | [], [], _, o, _ => o
 | _ :: _, _ :: _, _, ⟨B1, B2, e, o1, o2⟩, hs => ⟨B1, B2, e, ok.same o1 fun c hc => hs c (by rw [e]; exact List.mem_append_left _ hc), LsO.same ok o2 fun c hc => hs c (by rw [e]; exact List.mem_append_right _ hc)⟩
 | [], _ :: _, _, o, _ => o.elim
 | _ :: _, [], _, o, _ => o.elim
theorem LsO.known (ok : AsOk R) : ∀ {l : List α} {m : List β} {B : List Nat}, LsO R l m h B → ∀ c ∈ B, h c ≠ none
 | [], [], _, o, c, hc => by rw [show _ = [] from o] at hc; cases hc
 | _ :: _, _ :: _, _, ⟨B1, B2, e, o1, o2⟩, c, hc => by
  rw [e] at hc
  rcases List.mem_append.1 hc with hc | hc
  ·exact ok.known o1 c hc
  ·exact LsO.known ok o2 c hc
 | [], _ :: _, _, o, _, _ => o.elim
 | _ :: _, [], _, o, _, _ => o.elim
theorem LsO.snoc {a : α} {b : β} {B' : List Nat} (e : R a b h B') : ∀ {l : List α} {m : List β} {B : List Nat}, LsO R l m h B → LsO R (l ++ [a]) (m ++ [b]) h (B ++ B')
 | [], [], _, o => by
  rw [show _ = [] from o]
  exact ⟨B', [], by simp, e, rfl⟩
 | _ :: _, _ :: _, _, ⟨B1, B2, e1, o1, o2⟩ => ⟨B1, B2 ++ B', by rw [e1, List.append_assoc], o1, LsO.snoc e o2⟩
 | [], _ :: _, _, o => o.elim
 | _ :: _, [], _, o => o.elim
theorem LsO.all2 {S : α → β → Prop} (hi : ∀ a b B, R a b h B → S a b) : ∀ {l : List α} {m : List β} {B : List Nat}, LsO R l m h B → All2 S l m
 | [], [], _, _ => trivial
 | _ :: _, _ :: _, _, ⟨B1, _, _, o1, o2⟩ => ⟨hi _ _ B1 o1, LsO.all2 hi o2⟩
 | [], _ :: _, _, o => o.elim
 | _ :: _, [], _, o => o.elim
theorem OwnF.one {sz : Nat} {enc : α → List Value} {l : Sl} {xs : List α} {F : List Nat} (o : OwnF h sz enc l xs F) : F = [] ∨ ∃ b, F = [b] := by
 obtain ⟨_, _, o⟩ := o
 rcases o with ⟨_, _, e⟩ | ⟨b, _, _, e, _⟩
 ·exact .inl e
 ·exact .inr ⟨b, e⟩
theorem OwnF.nodup {sz : Nat} {enc : α → List Value} {l : Sl} {xs : List α} {F : List Nat} (o : OwnF h sz enc l xs F) : F.Nodup := by
 rcases o.one with e | ⟨b, e⟩ <;> rw [e] <;> simp
end
def PureO {α β : Type} (S : α → β → Prop) (a : α) (b : β) (_ : Hp) (B : List Nat) : Prop := B = [] ∧ S a b
theorem PureO.ok {α β : Type} (S : α → β → Prop) : AsOk (PureO S) := ⟨fun o _ => o, fun o c hc => by rw [o.1] at hc; cases hc⟩
def RowsO {β : Type} (sh : Shape) (sz : Nat) (R : sh.T → β → Hp → List Nat → Prop) (l : Sl) (ps : List β) (h : Hp) (B : List Nat) : Prop :=
 ∃ (xs : List sh.T) (B1 B2 : List Nat), B = B1 ++ B2 ∧ OwnF h sz (fun x => zae (sh.enc x)) l xs B1 ∧ LsO R xs ps h B2
section
variable {β : Type} {sh : Shape} {sz : Nat} {R : sh.T → β → Hp → List Nat → Prop} {l : Sl} {ps : List β} {h h' : Hp} {B : List Nat}
theorem RowsO.nil : RowsO sh sz R ⟨none, 0, 0⟩ [] h [] := ⟨[], [], [], rfl, ⟨rfl, Nat.le_refl _, .inl ⟨rfl, rfl, rfl⟩⟩, rfl⟩
theorem RowsO.ok (ok : AsOk R) : AsOk (RowsO sh sz R) where
 same := by
  rintro a b h h' B ⟨xs, B1, B2, e, o1, o2⟩ hs
  exact ⟨xs, B1, B2, e, o1.same fun c hc => hs c (by rw [e]; exact List.mem_append_left _ hc), o2.same ok fun c hc => hs c (by rw [e]; exact List.mem_append_right _ hc)⟩
 known := by
  rintro a b h B ⟨xs, B1, B2, e, o1, o2⟩ c hc
  rw [e] at hc
  rcases List.mem_append.1 hc with hc | hc
  ·exact o1.known c hc
  ·exact o2.known ok c hc
theorem RowsO.len (o : RowsO sh sz R l ps h B) : l.len = ps.length := by
 obtain ⟨xs, B1, B2, e, o1, o2⟩ := o
 have := (o2.all2 (S := fun _ _ => True) fun _ _ _ _ => trivial).len
 rw [← this]
 exact o1.1
theorem RowsO.rows {S : sh.T → β → Prop} (henc : ∀ x, (zae (sh.enc x)).length = sz) (hi : ∀ a b B, R a b h B → S a b) (o : RowsO sh sz R l ps h B) : ∃ xs, Rs h sh sz l xs ∧ All2 S xs ps := by
 obtain ⟨xs, B1, B2, e, o1, o2⟩ := o
 exact ⟨xs, o1.rw henc, o2.all2 hi⟩
theorem zvh (ok : AsOk R) (o : RowsO sh sz R l ps h B) {v : sh.T} {p : β} {B' : List Nat} (e : R v p h B') (nd : (B ++ B').Nodup) {x : Sl} (hx : Rs h sh sz x [v]) (henc : ∀ x, (zae (sh.enc x)).length = sz) (hok : ∀ x, zef (zae (sh.enc x)) = true)
  {zero : List Value} {bytes : Nat} (hz : zero.length = sz) (hb : ps.length + 1 ≤ 140737488355328 ∧ (ps.length + 1) * bytes ≤ 140737488355328) {K : Sl → Hp → Prop}
  (hk : ∀ l' h' B'', RowsO sh sz R l' (ps ++ [p]) h' B'' → B''.Nodup → (∀ b ob, h b = some ob → b ∉ B → h' b = some ob) → (∀ c ∈ B'', c ∈ B ++ B' ∨ h c = none) → K l' h') : zas sz bytes zero l x K h := by
 have hlen := o.len
 obtain ⟨xs, B1, B2, e1, o1, o2⟩ := o
 have hxl : xs.length = ps.length := by rw [← hlen]; exact o1.1.symm
 have k2 := o2.known ok
 have k3 := ok.known e
 refine appF o1 hx henc hok hz (by rw [hxl]; exact hb) fun l' h' F' o1' m => ?_
 rw [e1] at nd
 have nd2 := nd
 rw [List.append_assoc, List.nodup_append] at nd
 obtain ⟨nd1, nd3, nd4⟩ := nd
 have d2 : ∀ c ∈ B2 ++ B', c ∉ B1 := fun c hc hb => nd4 c hb c hc rfl
 have kk : ∀ c ∈ B2 ++ B', h c ≠ none := fun c hc => by
  rcases List.mem_append.1 hc with hc | hc
  ·exact k2 c hc
  ·exact k3 c hc
 have hs : ∀ c ∈ B2 ++ B', h' c = h c := zpj m kk d2
 have o2' := (o2.same ok fun c hc => hs c (List.mem_append_left _ hc)).snoc (ok.same e fun c hc => hs c (List.mem_append_right _ hc))
 have hf : ∀ c ∈ F' ++ (B2 ++ B'), c ∈ B ++ B' ∨ h c = none := fun c hc => by
  rcases List.mem_append.1 hc with hc | hc
  ·rcases m.from_ c hc with hc | hc
   ·exact .inl (by rw [e1]; simp [hc])
   ·exact .inr hc
  ·refine .inl ?_
   rw [e1, List.append_assoc]
   exact List.mem_append_right _ hc
 refine hk l' h' (F' ++ (B2 ++ B')) ⟨xs ++ [v], F', B2 ++ B', rfl, o1', o2'⟩ ?_ (fun b ob hb hn => m.keep b ob hb fun hb1 => hn (by rw [e1]; simp [hb1])) hf
 rw [List.nodup_append]
 refine ⟨o1'.nodup, nd3, fun a ha b hb hab => ?_⟩
 subst hab
 rcases m.from_ a ha with hc | hc
 ·exact d2 a hb hc
 ·exact kk a hb hc
end
abbrev IsO (l : Sl) (xs : List Int) (h : Hp) (B : List Nat) : Prop := RowsO (shInt .i64) 1 (PureO Eq) l xs h B
abbrev UsO (l : Sl) (xs : List Int) (h : Hp) (B : List Nat) : Prop := RowsO (shInt .u64) 1 (PureO Eq) l xs h B
abbrev InsO (l : Sl) (xs : List PIns) (h : Hp) (B : List Nat) : Prop := RowsO sh_api_Ins 5 (PureO fun x p => insOf x = p) l xs h B
def ProcO (q : S_api_Proc) (p : PProc) (h : Hp) (B : List Nat) : Prop := q.Part = p.part ∧ InsO q.Code p.code h B
abbrev zww1 (l : Sl) (ps : List PProc) (h : Hp) (B : List Nat) : Prop := RowsO sh_api_Proc 2 ProcO l ps h B
def LaneO (x : S_api_Lane) (p : PLane) (h : Hp) (B : List Nat) : Prop :=
 ∃ B1 B2, B = B1 ++ B2 ∧ IsO x.Values p.values h B1 ∧ RowsO sh_api_Waiter 2 (PureO fun x p => zee x = p) x.Waiters p.waiters h B2 ∧ x.Taken = p.taken ∧ x.Dropped = p.dropped
def ProcessO (x : S_api_Process) (p : PProcess) (h : Hp) (B : List Nat) : Prop :=
 RowsO sh_api_Lane 4 LaneO x.Lanes p.lanes h B ∧ x.State = p.state ∧ x.PC = p.pc ∧ [x.Regs_0, x.Regs_1, x.Regs_2, x.Regs_3, x.Regs_4, x.Regs_5, x.Regs_6, x.Regs_7] = p.regs ∧ x.Cursor = p.cursor ∧ x.Timer = p.timer ∧ x.Fired = p.fired ∧ x.Wake = p.wake
def PartO (x : S_api_Part) (p : PPart) (h : Hp) (B : List Nat) : Prop :=
 ∃ B1 B2 B3, B = B1 ++ (B2 ++ B3) ∧ RowsO sh_api_Entry 3 (PureO fun x p => znz x = p) x.Log p.log h B1 ∧ IsO x.Owners p.owners h B2 ∧ RowsO shSl 1 IsO x.Queues p.queues h B3 ∧ x.Cursor = p.cursor ∧ x.Lost = p.lost ∧ x.Forbidden = p.forbidden
def StateO (x : S_api_State) (p : PState) (h : Hp) (B : List Nat) : Prop :=
 ∃ B1 B2, B = B1 ++ B2 ∧ RowsO sh_api_Part 6 PartO x.Parts p.parts h B1 ∧ RowsO sh_api_Process 15 ProcessO x.Procs p.procs h B2 ∧ x.Tick = p.tick
def CfgO (x : S_api_Config) (c : PCfg) (h : Hp) (B : List Nat) : Prop :=
 ∃ B1 B2 B3, B = B1 ++ (B2 ++ B3) ∧ UsO x.Labels c.labels h B1 ∧ IsO x.Table c.table h B2 ∧ zww1 x.Procs c.procs h B3 ∧ x.Fuel = c.fuel ∧ x.Lane = c.lane ∧ x.Locks = c.locks ∧ x.Log = c.log
theorem okIs : AsOk IsO := RowsO.ok (PureO.ok _)
theorem okUs : AsOk UsO := RowsO.ok (PureO.ok _)
theorem okIns : AsOk InsO := RowsO.ok (PureO.ok _)
theorem zbo2 : AsOk ProcO := ⟨fun o hs => ⟨o.1, okIns.same o.2 hs⟩, fun o => okIns.known o.2⟩
theorem okProcs : AsOk zww1 := RowsO.ok zbo2
theorem mem_a {B1 B2 : List Nat} {c : Nat} (h : c ∈ B1) : c ∈ B1 ++ B2 := List.mem_append_left _ h
theorem mem_b {B1 B2 : List Nat} {c : Nat} (h : c ∈ B2) : c ∈ B1 ++ B2 := List.mem_append_right _ h
theorem okLane : AsOk LaneO where
 same := by
  rintro a b h h' B ⟨B1, B2, rfl, o1, o2, o3⟩ hs
  exact ⟨B1, B2, rfl, okIs.same o1 fun c hc => hs c (mem_a hc), (RowsO.ok (PureO.ok _)).same o2 fun c hc => hs c (mem_b hc), o3⟩
 known := by
  rintro a b h B ⟨B1, B2, rfl, o1, o2, o3⟩ c hc
  rcases List.mem_append.1 hc with hc | hc
  ·exact okIs.known o1 c hc
  ·exact (RowsO.ok (PureO.ok _)).known o2 c hc
theorem okProcess : AsOk ProcessO := ⟨fun o hs => ⟨(RowsO.ok okLane).same o.1 hs, o.2⟩, fun o => (RowsO.ok okLane).known o.1⟩
theorem okPart : AsOk PartO where
 same := by
  rintro a b h h' B ⟨B1, B2, B3, rfl, o1, o2, o3, o4⟩ hs
  exact ⟨B1, B2, B3, rfl, (RowsO.ok (PureO.ok _)).same o1 fun c hc => hs c (mem_a hc), okIs.same o2 fun c hc => hs c (mem_b (mem_a hc)), (RowsO.ok okIs).same o3 fun c hc => hs c (mem_b (mem_b hc)), o4⟩
 known := by
  rintro a b h B ⟨B1, B2, B3, rfl, o1, o2, o3, o4⟩ c hc
  rcases List.mem_append.1 hc with hc | hc
  ·exact (RowsO.ok (PureO.ok _)).known o1 c hc
  ·rcases List.mem_append.1 hc with hc | hc
   ·exact okIs.known o2 c hc
   ·exact (RowsO.ok okIs).known o3 c hc
theorem okState : AsOk StateO where
 same := by
  rintro a b h h' B ⟨B1, B2, rfl, o1, o2, o3⟩ hs
  exact ⟨B1, B2, rfl, (RowsO.ok okPart).same o1 fun c hc => hs c (mem_a hc), (RowsO.ok okProcess).same o2 fun c hc => hs c (mem_b hc), o3⟩
 known := by
  rintro a b h B ⟨B1, B2, rfl, o1, o2, o3⟩ c hc
  rcases List.mem_append.1 hc with hc | hc
  ·exact (RowsO.ok okPart).known o1 c hc
  ·exact (RowsO.ok okProcess).known o2 c hc
theorem okCfg : AsOk CfgO where
 same := by
  rintro a b h h' B ⟨B1, B2, B3, rfl, o1, o2, o3, o4⟩ hs
  exact ⟨B1, B2, B3, rfl, okUs.same o1 fun c hc => hs c (mem_a hc), okIs.same o2 fun c hc => hs c (mem_b (mem_a hc)), okProcs.same o3 fun c hc => hs c (mem_b (mem_b hc)), o4⟩
 known := by
  rintro a b h B ⟨B1, B2, B3, rfl, o1, o2, o3, o4⟩ c hc
  rcases List.mem_append.1 hc with hc | hc
  ·exact okUs.known o1 c hc
  ·rcases List.mem_append.1 hc with hc | hc
   ·exact okIs.known o2 c hc
   ·exact okProcs.known o3 c hc
theorem zum1 {α : Type} : ∀ {l m : List α}, All2 Eq l m → l = m
 | [], [], _ => rfl
 | _ :: _, _ :: _, h => by rw [h.1, zum1 h.2]
 | [], _ :: _, h => h.elim
 | _ :: _, [], h => h.elim
theorem zkg1 {α β : Type} {f : α → β} : ∀ {l : List α} {m : List β}, All2 (fun x p => f x = p) l m → l.map f = m
 | [], [], _ => rfl
 | _ :: _, _ :: _, h => by rw [List.map_cons, h.1, zkg1 h.2]
 | [], _ :: _, h => h.elim
 | _ :: _, [], h => h.elim
section
variable {h : Hp} {B : List Nat}
theorem IsO.rd {l : Sl} {xs : List Int} (o : IsO l xs h B) : Is h l xs := by
 obtain ⟨ys, h1, h2⟩ := RowsO.rows (S := Eq) (fun _ => rfl) (fun a b B o => o.2) o
 rw [← zum1 h2]; exact h1
theorem UsO.rd {l : Sl} {xs : List Int} (o : UsO l xs h B) : Us h l xs := by
 obtain ⟨ys, h1, h2⟩ := RowsO.rows (S := Eq) (fun _ => rfl) (fun a b B o => o.2) o
 rw [← zum1 h2]; exact h1
theorem ProcO.rd {q : S_api_Proc} {p : PProc} (o : ProcO q p h B) : ProcAt h q p := by
 obtain ⟨e, o⟩ := o
 obtain ⟨ys, h1, h2⟩ := RowsO.rows (S := fun x p => insOf x = p) (fun _ => rfl) (fun a b B o => o.2) o
 exact ⟨e, ys, h1, zkg1 h2⟩
theorem CfgO.rd {x : S_api_Config} {c : PCfg} (o : CfgO x c h B) : CfgAt h x c := by
 obtain ⟨B1, B2, B3, _, o1, o2, o3, f1, f2, f3, f4⟩ := o
 exact ⟨o1.rd, o2.rd, f1, f2, f3, f4, RowsO.rows (fun _ => rfl) (fun a b B o => o.rd) o3⟩
theorem LaneO.rd {x : S_api_Lane} {p : PLane} (o : LaneO x p h B) : LaneAt h x p := by
 obtain ⟨B1, B2, _, o1, o2, f1, f2⟩ := o
 obtain ⟨ys, h1, h2⟩ := RowsO.rows (S := fun x p => zee x = p) (fun _ => rfl) (fun a b B o => o.2) o2
 exact ⟨o1.rd, ⟨ys, h1, zkg1 h2⟩, f1, f2⟩
theorem ProcessO.rd {x : S_api_Process} {p : PProcess} (o : ProcessO x p h B) : ProcessAt h x p := by
 obtain ⟨o1, f1, f2, f3, f4, f5, f6, f7⟩ := o
 exact ⟨f1, f2, f3, f4, f5, f6, f7, RowsO.rows (fun _ => rfl) (fun a b B o => o.rd) o1⟩
theorem PartO.rd {x : S_api_Part} {p : PPart} (o : PartO x p h B) : PartAt h x p := by
 obtain ⟨B1, B2, B3, _, o1, o2, o3, f1, f2, f3⟩ := o
 obtain ⟨ys, h1, h2⟩ := RowsO.rows (S := fun x p => znz x = p) (fun _ => rfl) (fun a b B o => o.2) o1
 exact ⟨f1, ⟨ys, h1, zkg1 h2⟩, f2, f3, o2.rd, RowsO.rows (fun _ => rfl) (fun a b B o => IsO.rd o) o3⟩
theorem StateO.rd {x : S_api_State} {p : PState} (o : StateO x p h B) : StateAt h x p := by
 obtain ⟨B1, B2, _, o1, o2, f1⟩ := o
 exact ⟨f1, RowsO.rows (fun _ => rfl) (fun a b B o => o.rd) o1, RowsO.rows (fun _ => rfl) (fun a b B o => o.rd) o2⟩
end
end Lf

namespace Lf
open Go Go.Proofs
structure CB (d h0 : Hp) (rb cb : Nat) (bl : Sl) (bs : List UInt8) (k : Hp) (r : RS) (x : S_api_Config) (c : PCfg) (B : List Nat) : Prop where
 base : d ≤ h0
 kr : h0 rb ≠ none
 kc : h0 cb ≠ none
 ne : rb ≠ cb
 dc : d cb = none
 keep : ∀ b o, h0 b = some o → b ≠ rb → b ≠ cb → k b = some o
 rd : RAt d k rb bl bs r
 blk : Blk k cb (cfgL x)
 own : CfgO x c k B
 nd : B.Nodup
 fresh : ∀ b ∈ B, h0 b = none
section
variable {d h0 k : Hp} {rb cb : Nat} {bl : Sl} {bs : List UInt8} {r : RS} {x : S_api_Config} {c : PCfg} {B : List Nat}
theorem CB.nr (s : CB d h0 rb cb bl bs k r x c B) : rb ∉ B := fun h => s.kr (s.fresh rb h)
theorem CB.nc (s : CB d h0 rb cb bl bs k r x c B) : cb ∉ B := fun h => s.kc (s.fresh cb h)
theorem CB.step (s : CB d h0 rb cb bl bs k r x c B) {k' : Hp} {r1 : RS} (m : Mv [rb] k [rb] k') (a : RAt d k' rb bl bs r1) : CB d h0 rb cb bl bs k' r1 x c B where
 base := s.base
 kr := s.kr
 kc := s.kc
 ne := s.ne
 dc := s.dc
 keep := fun b o e h1 h2 => m.keep b o (s.keep b o e h1 h2) fun hb => h1 (List.mem_singleton.1 hb)
 rd := a
 blk := s.blk.mv m fun hb => s.ne (List.mem_singleton.1 hb).symm
 own := okCfg.same s.own (zpj m (okCfg.known s.own) fun b hb e => s.nr (by rw [← List.mem_singleton.1 e]; exact hb))
 nd := s.nd
 fresh := s.fresh
theorem CB.grow (s : CB d h0 rb cb bl bs k r x c B) {k' : Hp} (hl : k ≤ k') : CB d h0 rb cb bl bs k' r x c B := s.step (Mv.of_le [rb] hl) (s.rd.grow hl)
theorem CB.rebase (s : CB d h0 rb cb bl bs k r x c B) : CB d (cutH k B) rb cb bl bs k r x c B where
 base := zep2 s.rd.le fun b hb => by
  cases e : d b with
  | none => rfl
  | some o =>
   have := s.base b o e
   rw [s.fresh b hb] at this
   cases this
 kr := fun e => by
  rw [zje1 s.nr] at e
  obtain ⟨p, q, t, kb, _⟩ := s.rd.blk
  exact kb.known e
 kc := fun e => by
  rw [zje1 s.nc] at e
  exact s.blk.known e
 ne := s.ne
 dc := s.dc
 keep := fun b o e _ _ => zeo2 b o e
 rd := s.rd
 blk := s.blk
 own := s.own
 nd := s.nd
 fresh := fun b hb => zwj1 hb
theorem CB.back (s : CB d h0 rb cb bl bs k r x c B) {k' : Hp} {r' : RS} {x' : S_api_Config} {c' : PCfg} {B' : List Nat} (t : CB d (cutH k B) rb cb bl bs k' r' x' c' B') : CB d h0 rb cb bl bs k' r' x' c' B' where
 base := s.base
 kr := s.kr
 kc := s.kc
 ne := s.ne
 dc := s.dc
 keep := fun b o e h1 h2 => t.keep b o (by rw [zje1 fun hb => by rw [s.fresh b hb] at e; cases e]; exact s.keep b o e h1 h2) h1 h2
 rd := t.rd
 blk := t.blk
 own := t.own
 nd := t.nd
 fresh := fun b hb => by
  cases e : h0 b with
  | none => rfl
  | some o =>
   have h1 : b ≠ rb := fun h => t.nr (h ▸ hb)
   have h2 : b ≠ cb := fun h => t.nc (h ▸ hb)
   have h3 := t.fresh b hb
   have h4 : b ∉ B := fun hb => by
    rw [s.fresh b hb] at e
    cases e
   rw [zje1 h4, s.keep b o e h1 h2] at h3
   cases h3
theorem CB.fin (s : CB d h0 rb cb bl bs k r x c B) {k3 : Hp} {x' : S_api_Config} {c' : PCfg} {B3 : List Nat} {off : Nat} {v : Value} (keep3 : ∀ b ob, k b = some ob → b ∉ B → k3 b = some ob) (own3 : CfgO x' c' k3 B3) (nd3 : B3.Nodup) (fr3 : ∀ b ∈ B3, h0 b = none)
  (hoff : off < 7) (hx : cfgL x' = (cfgL x).take off ++ [v] ++ (cfgL x).drop (off + 1)) :
  (∀ b o, h0 b = some o → b ≠ rb → b ≠ cb → k3 b = some o) ∧ Blk k3 cb (cfgL x) ∧ ∀ Kf : Hp → Prop, (∀ k4, CB d h0 rb cb bl bs k4 r x' c' B3 → Kf k4) → StW k3 ⟨cb, off, none⟩ [v] Kf := by
 have hbk : Blk k3 cb (cfgL x) := by
  obtain ⟨t, e⟩ := s.blk
  exact ⟨t, keep3 cb _ e s.nc⟩
 have hkp : ∀ b o, h0 b = some o → b ≠ rb → b ≠ cb → k3 b = some o := fun b o e h1 h2 => keep3 b o (s.keep b o e h1 h2) fun hb => by rw [s.fresh b hb] at e; cases e
 refine ⟨hkp, hbk, fun Kf hK => ?_⟩
 refine zfc hbk (by show off + 1 ≤ 7; omega) fun k4 m4 hb4 => hK k4 ?_
 have hn3 : cb ∉ B3 := fun h => s.kc (fr3 cb h)
 have rd3 : RAt d k3 rb bl bs r := by
  obtain ⟨p, q, t, ⟨ty, kb⟩, hs⟩ := s.rd.blk
  refine ⟨fun b o e => keep3 b o (s.rd.le b o e) fun hb => ?_, s.rd.out, s.rd.src, s.rd.cap, s.rd.small, p, q, t, ⟨ty, keep3 rb _ kb s.nr⟩, hs⟩
  have := s.base b o e
  rw [s.fresh b hb] at this; cases this
 exact {
  base := s.base
  kr := s.kr
  kc := s.kc
  ne := s.ne
  dc := s.dc
  keep := fun b o e h1 h2 => m4.keep b o (hkp b o e h1 h2) fun hb => h2 (List.mem_singleton.1 hb)
  rd := rd3.mv m4 (fun hb => s.ne (List.mem_singleton.1 hb)) fun b hb => by rw [List.mem_singleton.1 hb]; exact s.dc
  blk := by rw [hx]; exact hb4
  own := okCfg.same own3 (zpj m4 (okCfg.known own3) fun b hb e => hn3 (by rw [← List.mem_singleton.1 e]; exact hb))
  nd := nd3
  fresh := fr3 }
theorem CB.num (s : CB d h0 rb cb bl bs k r x c B) {x' : S_api_Config} {c' : PCfg} {off : Nat} {v : Value} (own' : CfgO x c k B → CfgO x' c' k B) (hoff : off < 7) (hx : cfgL x' = (cfgL x).take off ++ [v] ++ (cfgL x).drop (off + 1)) {Kf : Hp → Prop}
  (hK : ∀ k4, CB d h0 rb cb bl bs k4 r x' c' B → Kf k4) : StW k ⟨cb, off, none⟩ [v] Kf :=
 (s.fin (fun _ _ e _ => e) (own' s.own) s.nd s.fresh hoff hx).2.2 Kf hK
end
end Lf

namespace Lf
open Go Go.Proofs
theorem mid {P M S M2 B' : List Nat} {k : Hp} (nd : (P ++ (M ++ S)).Nodup) (h2 : M2.Nodup) (hf : ∀ c ∈ M2, c ∈ M ++ B' ∨ k c = none) (kp : ∀ c ∈ P ++ S, k c ≠ none) (hb : ∀ c ∈ B', c ∉ P ++ S) : (P ++ (M2 ++ S)).Nodup := by
 rw [List.nodup_append] at nd ⊢
 obtain ⟨n1, n2, n3⟩ := nd
 rw [List.nodup_append] at n2 ⊢
 obtain ⟨n4, n5, n6⟩ := n2
 have key : ∀ c ∈ M2, c ∉ P ∧ c ∉ S := fun c hc => by
  rcases hf c hc with hc | hc
  ·rcases List.mem_append.1 hc with hc | hc
   ·exact ⟨fun hp => n3 c hp c (List.mem_append_left _ hc) rfl, fun hs => n6 c hc c hs rfl⟩
   ·have := hb c hc
    exact ⟨fun hp => this (List.mem_append_left _ hp), fun hp => this (List.mem_append_right _ hp)⟩
  ·exact ⟨fun hp => kp c (List.mem_append_left _ hp) hc, fun hp => kp c (List.mem_append_right _ hp) hc⟩
 refine ⟨n1, ⟨h2, n5, fun a ha b hb' e => (key a ha).2 (e ▸ hb')⟩, fun a ha b hb' e => ?_⟩
 rcases List.mem_append.1 hb' with hb' | hb'
 ·exact (key b hb').1 (e ▸ ha)
 ·exact n3 a ha b (List.mem_append_right _ hb') e
section
variable {d h0 k : Hp} {rb cb : Nat} {bl : Sl} {bs : List UInt8} {r : RS} {x : S_api_Config} {c : PCfg} {B : List Nat}
theorem CB.new_ (s : CB d h0 rb cb bl bs k r x c B) {b : Nat} (e : k b = none) : h0 b = none := by
 cases h : h0 b with
 | none => rfl
 | some o =>
  have h1 : b ≠ rb := fun h => by
   obtain ⟨p, q, t, kb, _⟩ := s.rd.blk
   exact kb.known (h ▸ e)
  have h2 : b ≠ cb := fun h => s.blk.known (h ▸ e)
  rw [s.keep b o h h1 h2] at e
  cases e
abbrev CB.Next (d h0 : Hp) (rb cb : Nat) (bl : Sl) (bs : List UInt8) (k3 : Hp) (r : RS) (x x' : S_api_Config) (c' : PCfg) (off : Nat) (v : Value) : Prop :=
 (∀ b o, h0 b = some o → b ≠ rb → b ≠ cb → k3 b = some o) ∧ Blk k3 cb (cfgL x) ∧ ∀ Kf : Hp → Prop, (∀ k4 B', CB d h0 rb cb bl bs k4 r x' c' B' → Kf k4) → StW k3 ⟨cb, off, none⟩ [v] Kf
theorem CB.labels (s : CB d h0 rb cb bl bs k r x c B) {v : Int} {y : Sl} (hy : Us k y [v]) (hb : c.labels.length ≤ 1000000) {K : Sl → Hp → Prop}
  (hk : ∀ l' k3, CB.Next d h0 rb cb bl bs k3 r x { x with Labels := l' } { c with labels := c.labels ++ [v] } 0 l'.v → K l' k3) : zas 1 8 [.int .u64 (0 : Int)] x.Labels y K k := by
 obtain ⟨B1, B2, B3, eB, o1, o2, o3, f⟩ := s.own
 have nd := s.nd
 rw [eB] at nd
 have k2 : ∀ b ∈ B2 ++ B3, k b ≠ none := fun b hb => okCfg.known s.own b (by rw [eB]; exact mem_b hb)
 refine zvh (PureO.ok Eq) o1 (B' := []) (v := v) (p := v) ⟨rfl, rfl⟩ (by rw [List.append_nil]; exact (List.nodup_append.1 nd).1) hy (fun _ => rfl) (fun _ => rfl) rfl (by omega) fun l' k3 B'' o1' nd' keep' from' => ?_
 have hd1 : ∀ b ∈ B2 ++ B3, b ∉ B1 := fun b hb hb1 => (List.nodup_append.1 nd).2.2 b hb1 b hb rfl
 have hs : ∀ b ∈ B2 ++ B3, k3 b = k b := fun b hb => by
  cases e : k b with
  | none => exact absurd e (k2 b hb)
  | some o => exact keep' b o e (hd1 b hb)
 have h := s.fin (k3 := k3) (x' := { x with Labels := l' }) (c' := { c with labels := c.labels ++ [v] }) (B3 := B'' ++ (B2 ++ B3)) (off := 0) (v := l'.v) (fun b ob e hn => keep' b ob e fun h => hn (by rw [eB]; exact mem_a h))
  ⟨B'', B2, B3, rfl, o1', okIs.same o2 fun b hb => hs b (mem_a hb), okProcs.same o3 fun b hb => hs b (mem_b hb), f⟩ (mid (P := []) (M := B1) (S := B2 ++ B3) nd nd' from' k2 (fun b hb => by cases hb))
  (fun b hb => by
   rcases List.mem_append.1 hb with hb | hb
   ·rcases from' b hb with hb | hb
    ·exact s.fresh b (by rw [eB]; exact mem_a (by simpa using hb))
    ·exact s.new_ hb
   ·exact s.fresh b (by rw [eB]; exact mem_b hb)) (by omega) rfl
 exact hk l' k3 ⟨h.1, h.2.1, fun Kf hK => h.2.2 Kf fun k4 c4 => hK k4 _ c4⟩
theorem CB.table (s : CB d h0 rb cb bl bs k r x c B) {v : Int} {y : Sl} (hy : Is k y [v]) (hb : c.table.length ≤ 1000000) {K : Sl → Hp → Prop}
  (hk : ∀ l' k3, CB.Next d h0 rb cb bl bs k3 r x { x with Table := l' } { c with table := c.table ++ [v] } 1 l'.v → K l' k3) : zas 1 8 [.int .i64 (0 : Int)] x.Table y K k := by
 obtain ⟨B1, B2, B3, eB, o1, o2, o3, f⟩ := s.own
 have nd := s.nd
 rw [eB] at nd
 have k2 : ∀ b ∈ B1 ++ B3, k b ≠ none := fun b hb => okCfg.known s.own b (by
  rw [eB]
  rcases List.mem_append.1 hb with hb | hb
  ·exact mem_a hb
  ·exact mem_b (mem_b hb))
 have nd2 := List.nodup_append.1 (List.nodup_append.1 nd).2.1
 refine zvh (PureO.ok Eq) o2 (B' := []) (v := v) (p := v) ⟨rfl, rfl⟩ (by rw [List.append_nil]; exact nd2.1) hy (fun _ => rfl) (fun _ => rfl) rfl (by omega) fun l' k3 B'' o1' nd' keep' from' => ?_
 have hs : ∀ b ∈ B1 ++ B3, k3 b = k b := fun b hb => by
  cases e : k b with
  | none => exact absurd e (k2 b hb)
  | some o =>
   refine keep' b o e fun h => ?_
   rcases List.mem_append.1 hb with hb | hb
   ·exact (List.nodup_append.1 nd).2.2 b hb b (mem_a h) rfl
   ·exact nd2.2.2 b h b hb rfl
 have h := s.fin (k3 := k3) (x' := { x with Table := l' }) (c' := { c with table := c.table ++ [v] }) (B3 := B1 ++ (B'' ++ B3)) (off := 1) (v := l'.v) (fun b ob e hn => keep' b ob e fun h => hn (by rw [eB]; exact mem_b (mem_a h)))
  ⟨B1, B'', B3, rfl, okUs.same o1 fun b hb => hs b (mem_a hb), o1', okProcs.same o3 fun b hb => hs b (mem_b hb), f⟩ (mid (M := B2) nd nd' from' k2 (fun b hb => by cases hb))
  (fun b hb => by
   rcases List.mem_append.1 hb with hb | hb
   ·exact s.fresh b (by rw [eB]; exact mem_a hb)
   rcases List.mem_append.1 hb with hb | hb
   ·rcases from' b hb with hb | hb
    ·exact s.fresh b (by rw [eB]; exact mem_b (mem_a (by simpa using hb)))
    ·exact s.new_ hb
   ·exact s.fresh b (by rw [eB]; exact mem_b (mem_b hb))) (by omega) rfl
 exact hk l' k3 ⟨h.1, h.2.1, fun Kf hK => h.2.2 Kf fun k4 c4 => hK k4 _ c4⟩
theorem CB.procs (s : CB d h0 rb cb bl bs k r x c B) {v : S_api_Proc} {p : PProc} {B' : List Nat} (e : ProcO v p k B') (ndB : B'.Nodup) (hB : ∀ b ∈ B', h0 b = none ∧ b ∉ B) {y : Sl} (hy : Rs k sh_api_Proc 2 y [v]) (hb : c.procs.length ≤ 1000000) {K : Sl → Hp → Prop}
  (hk : ∀ l' k3, CB.Next d h0 rb cb bl bs k3 r x { x with Procs := l' } { c with procs := c.procs ++ [p] } 6 l'.v → K l' k3) : zas 2 32 [.int .i64 (0 : Int), .slice none 0 0] x.Procs y K k := by
 obtain ⟨B1, B2, B3, eB, o1, o2, o3, f⟩ := s.own
 have nd := s.nd
 rw [eB] at nd
 have nd0 := List.nodup_append.1 nd
 have nd2 := List.nodup_append.1 nd0.2.1
 have k2 : ∀ b ∈ B1 ++ B2, k b ≠ none := fun b hb => okCfg.known s.own b (by
  rw [eB]
  rcases List.mem_append.1 hb with hb | hb
  ·exact mem_a hb
  ·exact mem_b (mem_a hb))
 refine zvh zbo2 o3 (v := v) (p := p) e (by
   rw [List.nodup_append]
   exact ⟨nd2.2.1, ndB, fun a ha b hb e => (hB b hb).2 (by rw [eB, ← e]; exact mem_b (mem_b ha))⟩) hy (fun _ => rfl) (fun _ => rfl) rfl (by omega) fun l' k3 B'' o1' nd' keep' from' => ?_
 have hs : ∀ b ∈ B1 ++ B2, k3 b = k b := fun b hb => by
  cases e : k b with
  | none => exact absurd e (k2 b hb)
  | some o =>
   refine keep' b o e fun h => ?_
   rcases List.mem_append.1 hb with hb | hb
   ·exact nd0.2.2 b hb b (mem_b h) rfl
   ·exact nd2.2.2 b hb b h rfl
 have hmid := mid (P := B1 ++ B2) (M := B3) (S := []) (by simpa using nd) nd' from' (by simpa using k2) (fun b hb h => (hB b hb).2 (by
  rw [eB]
  rw [List.append_nil] at h
  rcases List.mem_append.1 h with h | h
  ·exact mem_a h
  ·exact mem_b (mem_a h)))
 have h := s.fin (k3 := k3) (x' := { x with Procs := l' }) (c' := { c with procs := c.procs ++ [p] }) (B3 := B1 ++ (B2 ++ B'')) (off := 6) (v := l'.v) (fun b ob e hn => keep' b ob e fun h => hn (by rw [eB]; exact mem_b (mem_b h)))
  ⟨B1, B2, B'', rfl, okUs.same o1 fun b hb => hs b (mem_a hb), okIs.same o2 fun b hb => hs b (mem_b hb), o1', f⟩ (by simpa using hmid)
  (fun b hb => by
   rcases List.mem_append.1 hb with hb | hb
   ·exact s.fresh b (by rw [eB]; exact mem_a hb)
   rcases List.mem_append.1 hb with hb | hb
   ·exact s.fresh b (by rw [eB]; exact mem_b (mem_a hb))
   rcases from' b hb with hb | hb
   ·rcases List.mem_append.1 hb with hb | hb
    ·exact s.fresh b (by rw [eB]; exact mem_b (mem_b hb))
    ·exact (hB b hb).1
   ·exact s.new_ hb) (by omega) rfl
 exact hk l' k3 ⟨h.1, h.2.1, fun Kf hK => h.2.2 Kf fun k4 c4 => hK k4 _ c4⟩
end
end Lf

namespace Lf
open Go Go.Proofs
theorem zyh1 {P : Program} {ab cb : Nat} {x : S_api_Config} {xs : List Int} {h : Hp} {a : Int} (ha : LdIs h ⟨ab, 0, none⟩ [.pointer (some ⟨cb, 0, none⟩)]) (kc : Blk h cb (cfgL x)) (hu : Us h x.Labels xs) (hlen : xs.length ≤ 1000)
  {Q : Int → Hp → Prop} (hq : Q (labE xs a) h) : zfy P a ⟨ab, 0, none⟩ Q h := by
 unfold zfy
 have hl : x.Labels.len = xs.length := hu.1
 refine ld_at (sh := shPtr) (some ⟨cb, 0, none⟩) ha (zad (ld_at (sh := shSl) x.Labels (kc.ldIs (off := 0) (n := 1) rfl) ?_))
 rw [hl, zao (by omega) (by omega)]
 refine ldC (sh := shPtr) (some ⟨cb, 0, none⟩) ha (zad (ldC (sh := shSl) x.Labels (kc.ldIs (off := 0) (n := 1) rfl) ?_))
 refine Rs.getC (sh := shInt .u64) hu (0 : Int) (fun _ => rfl) (by omega) (fun e => by simp at e; omega) fun (x4 : Int) hx4 => letW ?_
 unfold labE at hq
 rw [List.getLast?_eq_getElem?] at hq
 by_cases hn : xs.length = 0
 ·have hd : decide (((xs.length : Nat) : Int) - 1 ≥ 0) = false := decide_eq_false (by omega)
  rw [List.getElem?_eq_none (by omega)] at hq
  rw [hd, if_neg (by simp)]
  refine ⟨none, fun e => (by cases e), ⟨cb, 0, none⟩, fun e => (by cases e), ⟨none, 0, 0⟩, fun e => (by cases e), fun e => (by cases e), (0 : Int), fun e => (by cases e), letW ?_⟩
  rw [if_neg (by simp)]
  exact hq
 ·have hd : decide (((xs.length : Nat) : Int) - 1 ≥ 0) = true := decide_eq_true (by omega)
  have hg : xs[xs.length - 1]? = some (xs[xs.length - 1]'(by omega)) := List.getElem?_eq_getElem (by omega)
  have hi : (((xs.length : Nat) : Int) - 1).toNat = xs.length - 1 := by omega
  have hx4 := hx4 hd
  rw [hi, hg] at hx4
  have hx4 : xs[xs.length - 1]'(by omega) = x4 := Option.some.inj hx4
  rw [hg, hx4] at hq
  have hq : Q (if a = x4 then 8 else if a < x4 then 7 else 0) h := hq
  rw [hd, Bool.true_and]
  by_cases h1 : a = x4
  ·rw [if_pos (by simpa using h1)]
   rw [if_pos h1] at hq
   exact hq
  ·rw [if_neg (by simpa using h1)]
   rw [if_neg h1] at hq
   refine ldC (sh := shPtr) (some ⟨cb, 0, none⟩) ha (zad (ldC (sh := shSl) x.Labels (kc.ldIs (off := 0) (n := 1) rfl) ?_))
   refine Rs.getC (sh := shInt .u64) hu (0 : Int) (fun _ => rfl) (by omega) (fun e => by omega) fun (x7 : Int) hx7 => letW ?_
   have hx7 := hx7 rfl
   rw [hi, hg] at hx7
   have hx7 : xs[xs.length - 1]'(by omega) = x7 := Option.some.inj hx7
   rw [← hx7, hx4, Bool.true_and]
   by_cases h2 : a < x4
   ·rw [if_pos (decide_eq_true h2)]
    rw [if_pos h2] at hq
    exact hq
   ·rw [if_neg (fun e => h2 (of_decide_eq_true e))]
    rw [if_neg h2] at hq
    exact hq
abbrev labD (acc : List Int) : D Int := D.must (zD 8) (labE acc)
section
variable {d h0 k : Hp} {rb cb : Nat} {bl : Sl} {bs : List UInt8} {r : RS} {x : S_api_Config} {c : PCfg} {B : List Nat}
theorem zdg {α : Type} (g : List α → D α) (n : Nat) (acc : List α) : D.many g (n + 1) acc = D.bind (g acc) fun x => D.many g n (acc ++ [x]) := rfl
theorem zbp2 (s : CB d h0 rb cb bl bs k r x c B) (hl : c.labels = []) {Q : Hp → Prop}
  (hq : ∀ (xs : List Int) r1 k' x' B', xs.length ≤ 255 → CB d h0 rb cb bl bs k' r1 x' { c with labels := xs } B' →
   (∀ (β : Type) (f : Int → List Int → D β), stepD r (D.bind (D.must (zD 1) (cntE 8)) fun nl => D.bind (D.many labD nl.toNat []) fun labels => f nl labels) bs = stepD r1 (f xs.length xs) bs) → Q k') :
  zhh Tryz.prog (some ⟨rb, 0, none⟩) (some ⟨cb, 0, none⟩) Q k := by
 unfold zhh
 refine newB2 fun ab k1 hn1 hle1 hA1 => ?_
 have s1 := s.grow hle1
 have hab : ab ∉ B := fun h => okCfg.known s.own ab h hn1
 have har : ab ≠ rb := fun h => by
  obtain ⟨p, q, t, kb, _⟩ := s.rd.blk
  exact kb.known (h ▸ hn1)
 have hac : ab ≠ cb := fun h => s.blk.known (h ▸ hn1)
 have hcutA : ∃ o, cutH k1 B ab = some o ∧ ∀ kk : Hp, kk ab = some o → LdIs kk ⟨ab, 0, none⟩ [.pointer (some ⟨cb, 0, none⟩)] := by
  obtain ⟨t, e⟩ := hA1
  refine ⟨_, by rw [zje1 hab]; exact e, fun kk e2 => Blk.ldIs ⟨t, e2⟩ (off := 0) (n := 1) rfl⟩
 obtain ⟨oA, hoA, hldA⟩ := hcutA
 refine zhu (ziv1 s1.rd fun v r1 k2 hv m2 a2 hc2 => ?_)
 have s2 := s1.rebase.step m2 a2
 refine LoopW1.intro (fun n k3 => ∃ (i : Nat) (xs : List Int) (r' : RS) (x' : S_api_Config) (B' : List Nat), n = (i : Int) ∧ (i + xs.length = v) ∧ CB d (cutH k1 B) rb cb bl bs k3 r' x' { c with labels := xs } B' ∧
   ∀ (β : Type) (f : List Int → D β), stepD r1 (D.bind (D.many labD v []) f) bs = stepD r' (D.bind (D.many labD i xs) f) bs) (fun n _ => n.toNat)
  ⟨v, [], r1, x, B, rfl, by simp, by have := s2; rw [show c = { c with labels := [] } by rw [← hl]] at this; exact this, fun _ _ => rfl⟩ ?_
 rintro n k3 ⟨i, xs, r', x', B', rfl, hix, s3, hcn⟩
 refine effI (fun b => b = true ↔ ∃ e, r' = .error e) false (fun _ hk => zax (s3.rd.bad hk)) fun b hb => letW ?_
 have hend : (i = 0 ∨ ∃ e, r' = .error e) → Q k3 := fun hor => by
  refine hq xs r' k3 x' B' (by omega) (s1.back s3) fun β f => ?_
  rw [hc2]
  have e := hcn β fun labels => f v labels
  rw [show ((v : Int)).toNat = v from rfl, e]
  rcases hor with rfl | ⟨e, rfl⟩
  ·have : v = xs.length := by omega
   rw [this]; rfl
  ·rfl
 by_cases hi : i = 0
 ·rw [if_neg (by simp [hi])]
  exact hend (.inl hi)
 have hb := hb (decide_eq_true (by omega))
 cases b with
 | true =>
  rw [if_neg (by simp)]
  exact hend (.inr (hb.1 rfl))
 | false =>
  rw [if_pos (by simp; omega)]
  obtain ⟨j, rfl⟩ : ∃ j, i = j + 1 := ⟨i - 1, by omega⟩
  have hUs : Us k3 x'.Labels xs := by
   obtain ⟨B1, B2, B3, _, o1, _⟩ := s3.own
   exact o1.rd
  refine zfa (wrong := ⟨zfm, #[], #[.pointer (some ⟨ab, 0, none⟩)]⟩) (zhy1 (k := 8) s3.rd (by omega) (by omega) (fun n => labE xs (toZ n)) (fun n hn2 K hK => ?_) fun w r2 k4 hw m4 a4 hc4 => ?_)
  ·refine zny (g := zfm) rfl (zwf ?_)
   exact zyh1 (hldA k3 (s3.keep ab oA hoA har hac)) s3.blk hUs (by omega) (hK k3 (Hp.le_refl _))
  ·have s4 := s3.step m4 a4
   have hc5 : Cn bs r' (labD xs) r2 (w : Int) := by
    show Cn bs r' (D.must (zD 8) (labE xs)) r2 (toZ w)
    rw [zet2]
    exact hc4.map
   have lA : ∀ kk : Hp, (∀ b o, cutH k1 B b = some o → b ≠ rb → b ≠ cb → kk b = some o) → LdIs kk ⟨ab, 0, none⟩ [.pointer (some ⟨cb, 0, none⟩)] := fun kk hkk => hldA kk (hkk ab oA hoA har hac)
   refine ld_at (sh := shPtr) (some ⟨cb, 0, none⟩) (lA k4 s4.keep) (ld_at (sh := shPtr) (some ⟨cb, 0, none⟩) (lA k4 s4.keep) (zad (ld_at (sh := shSl) x'.Labels (s4.blk.ldIs (off := 0) (n := 1) rfl) ?_)))
   refine newF (xs := [(w : Int)]) (enc := fun x => zae ((shInt .u64).enc x)) (sz := 1) rfl (fun _ => rfl) fun b5 k5 _ hle5 _ o5 => ?_
   have s5 := s4.grow hle5
   refine ⟨⟨lA k5 s5.keep, lA k5 s5.keep, s5.blk.ldIs (off := 0) (n := 1) rfl, trivial⟩, ?_⟩
   refine s5.labels (v := (w : Int)) (o5.rw fun _ => rfl) (by show xs.length ≤ _; omega) fun l' k6 hN => ?_
   refine ⟨⟨lA k6 hN.1, trivial⟩, zad (hN.2.2 _ fun k7 B7 s7 => ?_)⟩
   rw [zao (by omega) (by omega)]
   refine ⟨⟨j, xs ++ [(w : Int)], r2, _, B7, by omega, by simp; omega, s7, fun β f => ?_⟩, by omega⟩
   rw [hcn, zdg, zai, hc5]
theorem zds2 (s : CB d h0 rb cb bl bs k r x c B) (hl : c.table = []) (hsm : c.labels.length ≤ 255) {Q : Hp → Prop}
  (hq : ∀ (xs : List Int) r1 k' x' B', xs.length ≤ 255 → CB d h0 rb cb bl bs k' r1 x' { c with table := xs } B' →
   (∀ (β : Type) (f : List Int → D β), stepD r (D.bind (D.must (zD 1) (cntE 64)) fun nt => D.bind (D.many (fun _ => D.must (zD 1) (rngE 0 ((c.labels.length : Int) - 1))) nt.toNat []) fun table => f table) bs = stepD r1 (f xs) bs) → Q k') :
  zin Tryz.prog (some ⟨rb, 0, none⟩) (some ⟨cb, 0, none⟩) Q k := by
 unfold zin
 refine zhu (ziv1 s.rd fun v r1 k2 hv m2 a2 hc2 => ?_)
 have s2 := s.step m2 a2
 refine LoopW1.intro (fun n k3 => ∃ (i : Nat) (xs : List Int) (r' : RS) (x' : S_api_Config) (B' : List Nat), n = (i : Int) ∧ (i + xs.length = v) ∧ CB d h0 rb cb bl bs k3 r' x' { c with table := xs } B' ∧
   ∀ (β : Type) (f : List Int → D β), stepD r1 (D.bind (D.many (fun _ => D.must (zD 1) (rngE 0 ((c.labels.length : Int) - 1))) v []) f) bs = stepD r' (D.bind (D.many (fun _ => D.must (zD 1) (rngE 0 ((c.labels.length : Int) - 1))) i xs) f) bs) (fun n _ => n.toNat)
  ⟨v, [], r1, x, B, rfl, by simp, by have := s2; rw [show c = { c with table := [] } by rw [← hl]] at this; exact this, fun _ _ => rfl⟩ ?_
 rintro n k3 ⟨i, xs, r', x', B', rfl, hix, s3, hcn⟩
 refine effI (fun b => b = true ↔ ∃ e, r' = .error e) false (fun _ hk => zax (s3.rd.bad hk)) fun b hb => letW ?_
 have hend : (i = 0 ∨ ∃ e, r' = .error e) → Q k3 := fun hor => by
  refine hq xs r' k3 x' B' (by omega) s3 fun β f => ?_
  rw [hc2]
  have e := hcn β f
  rw [show ((v : Int)).toNat = v from rfl, e]
  rcases hor with rfl | ⟨e, rfl⟩
  ·rfl
  ·rfl
 by_cases hi : i = 0
 ·rw [if_neg (by simp [hi])]
  exact hend (.inl hi)
 have hb := hb (decide_eq_true (by omega))
 cases b with
 | true =>
  rw [if_neg (by simp)]
  exact hend (.inr (hb.1 rfl))
 | false =>
  rw [if_pos (by simp; omega)]
  obtain ⟨j, rfl⟩ : ∃ j, i = j + 1 := ⟨i - 1, by omega⟩
  have hll : x'.Labels.len = c.labels.length := by
   obtain ⟨B1, B2, B3, _, o1, _⟩ := s3.own
   exact o1.len
  refine zad (ld_at (sh := shSl) x'.Table (s3.blk.ldIs (off := 1) (n := 1) rfl) ?_)
  refine zla (zjk1 s3.rd s3.blk (by omega) fun w r2 k4 hw m4 a4 hc4 => ?_)
  have s4 := s3.step m4 a4
  rw [hll] at hc4
  refine ⟨⟨s4.blk.ldIs (off := 1) (n := 1) rfl, trivial⟩, ?_⟩
  refine newF (xs := [(w : Int)]) (enc := fun x => zae ((shInt .i64).enc x)) (sz := 1) rfl (fun _ => rfl) fun b5 k5 _ hle5 _ o5 => ?_
  have s5 := s4.grow hle5
  refine ⟨⟨s5.blk.ldIs (off := 1) (n := 1) rfl, trivial⟩, ?_⟩
  refine s5.table (v := (w : Int)) (o5.rw fun _ => rfl) (by show xs.length ≤ _; omega) fun l' k6 hN => ?_
  refine zad (hN.2.2 _ fun k7 B7 s7 => ?_)
  rw [zao (by omega) (by omega)]
  refine ⟨⟨j, xs ++ [(w : Int)], r2, _, B7, by omega, by simp; omega, s7, fun β f => ?_⟩, by omega⟩
  rw [hcn, zdg, zai, hc4]
end
end Lf

namespace Lf
open Go Go.Proofs
theorem zob {v : Nat} (h : v < 18446744073709551616) : IntKind.wrap .i64 (v : Int) = i64 v := by
 unfold IntKind.wrap i64
 simp only [IntKind.signed, IntKind.bits]
 simp
 split <;> split <;> omega
theorem zqe1 {has : Bool} {n : Int} (h : 0 ≤ n) : regP has n ≠ 0 ↔ ((has && decide (n ≥ 8)) || ((!has) && (n != 0))) = true := by
 unfold regP
 cases has with
 | true =>
  rw [if_neg (by simp)]
  by_cases h1 : n < 0 ∨ 8 ≤ n
  ·rw [if_pos h1]; simp; omega
  ·rw [if_neg h1]; simp; omega
 | false =>
  by_cases h1 : n ≠ 0
  ·rw [if_pos ⟨rfl, h1⟩]; simpa using h1
  ·rw [if_neg (fun e => h1 e.2), if_neg (by omega)]
   simpa using h1
def zfy1 (x : PIns) : Int := if regP (zay x.op).1 x.a ≠ 0 then 1 else if regP (zay x.op).2.1 x.b ≠ 0 then 2 else if regP (zay x.op).2.2.1 x.c ≠ 0 then 3 else 4
theorem ziw1 {x : PIns} {n locks : Int} (h : (zbo x n locks).1 ≠ 0) : (zbo x n locks).2 = if (zbo x n locks).1 = 9 then 0 else zfy1 x := by
 have h9 : ∀ b m, regP b m ≠ 9 := fun b m => by
  unfold regP
  split
  ·decide
  ·split <;> decide
 unfold zbo at h ⊢
 unfold zfy1
 by_cases h1 : x.op < 0 ∨ 34 ≤ x.op
 ·rw [if_pos h1] at h ⊢; rw [if_pos rfl]
 rw [if_neg h1] at h ⊢
 by_cases h2 : regP (zay x.op).1 x.a ≠ 0
 ·rw [if_pos h2] at h ⊢; rw [if_neg (h9 _ _), if_pos h2]
 rw [if_neg h2] at h ⊢
 rw [if_neg h2]
 by_cases h3 : regP (zay x.op).2.1 x.b ≠ 0
 ·rw [if_pos h3] at h ⊢; rw [if_neg (h9 _ _), if_pos h3]
 rw [if_neg h3] at h ⊢
 rw [if_neg h3]
 by_cases h4 : regP (zay x.op).2.2.1 x.c ≠ 0
 ·rw [if_pos h4] at h ⊢; rw [if_neg (h9 _ _), if_pos h4]
 rw [if_neg h4] at h ⊢
 rw [if_neg h4]
 by_cases h5 : (zay x.op).2.2.2 = false ∧ x.imm ≠ 0
 ·rw [if_pos h5] at h ⊢; rfl
 rw [if_neg h5] at h ⊢
 by_cases h6 : (x.op = 22 ∨ x.op = 23) ∧ (x.imm < 0 ∨ n < x.imm)
 ·rw [if_pos h6] at h ⊢; rfl
 rw [if_neg h6] at h ⊢
 by_cases h7 : (x.op = 29 ∨ x.op = 30) ∧ (x.imm < 0 ∨ locks ≤ x.imm)
 ·rw [if_pos h7] at h ⊢; rfl
 rw [if_neg h7] at h
 exact absurd rfl h
theorem zbq2 {h : Hp} {x : S_api_Ins} {e : Int} {Q : Int → Hp → Prop} (ha : 0 ≤ x.A) (hb : 0 ≤ x.B) (hc : 0 ≤ x.C) (hq : ∀ h', h ≤ h' → Q (if e = 9 then 0 else zfy1 (insOf x)) h') : zsb Tryz.prog x e Q h := by
 unfold zsb
 by_cases h9 : e = 9
 ·rw [if_pos (by simpa using h9)]
  rw [if_pos h9] at hq
  exact hq h (Hp.le_refl _)
 rw [if_neg (by simpa using h9)]
 rw [if_neg h9] at hq
 refine zaa1 (zhv1 fun h1 hle1 => ?_)
 generalize hf : zay x.Op = f at *
 obtain ⟨f1, f2, f3, f4⟩ := f
 dsimp only
 refine newB2 (cs := [.bool f1, .int .i64 x.A, .bool f2, .int .i64 x.B, .bool f3, .int .i64 x.C]) fun b h2 _ hle2 hB => ?_
 have hq := fun h' hl => hq h' (Hp.le_trans hle1 (Hp.le_trans hle2 hl))
 have p1 := zqe1 (has := f1) ha
 have p2 := zqe1 (has := f2) hb
 have p3 := zqe1 (has := f3) hc
 have hsp : zfy1 (insOf x) = if regP f1 x.A ≠ 0 then 1 else if regP f2 x.B ≠ 0 then 2 else if regP f3 x.C ≠ 0 then 3 else 4 := by
  unfold zfy1
  have e : zay (insOf x).op = (f1, f2, f3, f4) := hf
  rw [e]
  rfl
 rw [hsp] at hq
 refine forI (n := 3) rfl (by omega) (fun i h' => h' = h2 ∧ (1 ≤ i → ¬ regP f1 x.A ≠ 0) ∧ (2 ≤ i → ¬ regP f2 x.B ≠ 0) ∧ (3 ≤ i → ¬ regP f3 x.C ≠ 0)) ⟨rfl, fun h => by omega, fun h => by omega, fun h => by omega⟩ ?_ ?_
 ·rintro i hi h3 ⟨rfl, q1, q2, q3⟩ K hK
  refine ⟨⟨by simp, by omega, by omega⟩, ?_⟩
  match i, hi with
  | 0, _ =>
   refine ld_at (sh := zcn) ⟨f1, x.A⟩ (hB.ldIs (off := 0) (n := 2) rfl) (letW (letW (letW ?_)))
   dsimp only
   by_cases hbad : regP f1 x.A ≠ 0
   ·rw [if_pos (p1.1 hbad), zao (by omega) (by omega)]
    rw [if_pos hbad] at hq
    exact hq h3 (Hp.le_refl _)
   ·rw [if_neg (fun e => hbad (p1.2 e))]
    exact hK h3 ⟨rfl, fun _ => hbad, fun h => by omega, fun h => by omega⟩
  | 1, _ =>
   refine ld_at (sh := zcn) ⟨f2, x.B⟩ (hB.ldIs (off := 2) (n := 2) rfl) (letW (letW (letW ?_)))
   dsimp only
   by_cases hbad : regP f2 x.B ≠ 0
   ·rw [if_pos (p2.1 hbad), zao (by omega) (by omega)]
    rw [if_neg (q1 (by omega)), if_pos hbad] at hq
    exact hq h3 (Hp.le_refl _)
   ·rw [if_neg (fun e => hbad (p2.2 e))]
    exact hK h3 ⟨rfl, fun _ => q1 (by omega), fun _ => hbad, fun h => by omega⟩
  | 2, _ =>
   refine ld_at (sh := zcn) ⟨f3, x.C⟩ (hB.ldIs (off := 4) (n := 2) rfl) (letW (letW (letW ?_)))
   dsimp only
   by_cases hbad : regP f3 x.C ≠ 0
   ·rw [if_pos (p3.1 hbad), zao (by omega) (by omega)]
    rw [if_neg (q1 (by omega)), if_neg (q2 (by omega)), if_pos hbad] at hq
    exact hq h3 (Hp.le_refl _)
   ·rw [if_neg (fun e => hbad (p3.2 e))]
    exact hK h3 ⟨rfl, fun _ => q1 (by omega), fun _ => q2 (by omega), fun _ => hbad⟩
 ·rintro h3 ⟨rfl, q1, q2, q3⟩
  rw [if_neg (q1 (by omega)), if_neg (q2 (by omega)), if_neg (q3 (by omega))] at hq
  exact hq h3 (Hp.le_refl _)
def Only5 {α : Type} (d : D α) : Prop := ∀ bs at_ e, d bs at_ = .error e → e = (5, bs.length)
theorem zhz1 (k : Nat) : Only5 (D.num k) := fun bs at_ e h => by
 unfold D.num at h
 split at h <;> cases h
 rfl
theorem zma {α β : Type} {d : D α} {f : α → D β} (h1 : Only5 d) (h2 : ∀ x, Only5 (f x)) : Only5 (D.bind d f) := fun bs at_ e h => by
 unfold D.bind at h
 cases hd : d bs at_ with
 | error e1 => rw [hd] at h; cases h; exact h1 bs at_ _ hd
 | ok x => rw [hd] at h; exact h2 _ bs _ e h
theorem zdh1 {α : Type} (x : α) : Only5 (D.ret x) := fun _ _ _ h => by cases h
theorem zwx1 : Only5 zrk :=
 zma (zma (zhz1 1) fun _ => zdh1 _) fun _ => zma (zma (zhz1 1) fun _ => zdh1 _) fun _ => zma (zma (zhz1 1) fun _ => zdh1 _) fun _ =>
  zma (zma (zhz1 1) fun _ => zdh1 _) fun _ => zma (zma (zhz1 8) fun _ => zdh1 _) fun _ => zdh1 _
theorem zgh2 {α : Type} (d : D α) : D.must d (fun _ => 0) = d := by
 funext b a
 unfold D.must
 cases d b a with
 | error e => rfl
 | ok x => rfl
end Lf

namespace Lf
open Go Go.Proofs
section
variable {d h : Hp} {rb : Nat} {bl : Sl} {bs : List UInt8} {r : RS}
theorem zlw1 {k : Nat} {Q : Int → Hp → Prop} (a : RAt d h rb bl bs r) (hk1 : 1 ≤ k) (hk8 : k ≤ 8)
  (hq : ∀ (v : Nat) r1 h', v < 256 ^ k → Mv [rb] h [rb] h' → RAt d h' rb bl bs r1 → Cn bs r (D.num k) r1 v → Q (v : Int) h') :
  CallT Tryz.prog zaz [(.pointer (some ⟨rb, 0, none⟩)), (.int .i64 (k : Int)), (.func (.func zfh) #[] #[])] (shInt .u64) Q h := by
 refine zfa (wrong := ⟨zfh, #[], #[]⟩) (zhy1 (k := k) a hk1 hk8 (fun _ => 0) (fun n hn2 K hK => ?_) fun v r1 h2 hv m a2 hc => ?_)
 ·refine zny (g := zfh) rfl (zaz1 ?_)
  unfold zmk
  exact hK h (Hp.le_refl _)
 ·rw [zgh2] at hc
  exact hq v r1 h2 hv m a2 hc
theorem zgi2 {n locks : Int} {Q : S_api_Ins → Hp → Prop} (a : RAt d h rb bl bs r) (hq : ∀ (v : S_api_Ins) r1 h', Mv [rb] h [rb] h' → RAt d h' rb bl bs r1 → Cn bs r (insD n locks) r1 (insOf v) → Q v h') :
  zks Tryz.prog (some ⟨rb, 0, none⟩) n locks Q h := by
 unfold zks
 obtain ⟨p, e, pl, kb, hs⟩ := a.blk
 have hlen : bl.len = bs.length := a.src.1
 have hsm := a.small
 refine zax (zog1 kb ?_)
 cases r with
 | error x =>
  obtain ⟨er, q⟩ := x
  rw [if_pos (by rw [hs.1]; simpa using hs.2.1)]
  exact hq _ _ h (Mv.refl _ _) a Cn.stay
 | ok at_ =>
  obtain ⟨rfl, rfl, hn⟩ := hs
  have hn : at_ ≤ bs.length := by omega
  rw [if_neg (by simp)]
  refine zad (ld_at (sh := shInt .i64) (at_ : Int) (kb.ldIs (off := 1) (n := 1) rfl) (zad (ld_at (sh := shSl) bl (kb.ldIs (off := 0) (n := 1) rfl) ?_)))
  rw [zao (by omega) (by omega)]
  by_cases hsh : bs.length < at_ + 12
  ·rw [if_pos (decide_eq_true (by omega))]
   refine zad (ld_at (sh := shSl) bl (kb.ldIs (off := 0) (n := 1) rfl) (zby (zfx1 kb fun h' m k' => ?_)))
   rw [if_pos ⟨by decide, rfl⟩, if_pos ⟨by decide, rfl⟩] at k'
   refine hq _ (.error (5, bs.length)) h' m ⟨(m.le a.le fun c hc => by rw [List.mem_singleton.1 hc]; exact a.out).1, a.out, a.src, a.cap, a.small, _, _, _, k', rfl, by decide, by rw [hlen]⟩ (Cn.err ?_)
   unfold insD D.mustAt
   cases hi : zrk bs at_ with
   | error e => rw [zwx1 bs at_ e hi]
   | ok y =>
    obtain ⟨y, a2⟩ := y
    have h1 := (law_ins.sound bs at_ y a2 hi hn).2.1
    have h2 := law_ins.within hi hn
    simp [insB, zap] at h1
    omega
  ·rw [if_neg (fun e => hsh (by have := of_decide_eq_true e; omega))]
   refine zlw1 (k := 1) a (by omega) (by omega) fun v1 r1 h1 hv1 m1 a1 c1 => ?_
   refine zlw1 (k := 1) a1 (by omega) (by omega) fun v2 r2 h2 hv2 m2 a2 c2 => ?_
   refine zlw1 (k := 1) a2 (by omega) (by omega) fun v3 r3 h3 hv3 m3 a3 c3 => ?_
   refine zlw1 (k := 1) a3 (by omega) (by omega) fun v4 r4 h4 hv4 m4 a4 c4 => ?_
   refine zlw1 (k := 8) a4 (by omega) (by omega) fun v5 r5 h5 hv5 m5 a5 c5 => ?_
   have m := m1.trans (m2.trans (m3.trans (m4.trans m5)))
   have hc : Cn bs (.ok at_) zrk r5 (insOf ⟨(v1 : Int), (v2 : Int), (v3 : Int), (v4 : Int), i64 v5⟩) :=
    Cn.seq c1.map (Cn.seq c2.map (Cn.seq c3.map (Cn.seq c4.map (Cn.seq c5.map Cn.ret))))
   rw [zob (v := v5) (by omega)]
   rw [zao (n := (v1 : Int)) (by omega) (by omega), zao (n := (v2 : Int)) (by omega) (by omega), zao (n := (v3 : Int)) (by omega) (by omega), zao (n := (v4 : Int)) (by omega) (by omega)]
   have hx : (⟨(v1 : Int), (v2 : Int), (v3 : Int), (v4 : Int), i64 v5⟩ : S_api_Ins).A = (v2 : Int) := rfl
   refine zcf1 (x := ⟨(v1 : Int), (v2 : Int), (v3 : Int), (v4 : Int), i64 v5⟩) (zwo1 fun h6 hle6 => ?_)
   have hA : 0 ≤ (⟨(v1 : Int), (v2 : Int), (v3 : Int), (v4 : Int), i64 v5⟩ : S_api_Ins).A := by show (0 : Int) ≤ (v2 : Int); omega
   have hB : 0 ≤ (⟨(v1 : Int), (v2 : Int), (v3 : Int), (v4 : Int), i64 v5⟩ : S_api_Ins).B := by show (0 : Int) ≤ (v3 : Int); omega
   have hC : 0 ≤ (⟨(v1 : Int), (v2 : Int), (v3 : Int), (v4 : Int), i64 v5⟩ : S_api_Ins).C := by show (0 : Int) ≤ (v4 : Int); omega
   have hdone := hc.done
   have m6 := m.trans (Mv.of_le [rb] hle6)
   have a6 := a5.grow hle6
   have hval : (sh_api_Ins.enc ⟨(v1 : Int), (v2 : Int), (v3 : Int), (v4 : Int), i64 v5⟩) = .agg #[.int .i64 (v1 : Int), .int .i64 (v2 : Int), .int .i64 (v3 : Int), .int .i64 (v4 : Int), .int .i64 (i64 v5)] := rfl
   rw [← hval]
   generalize (⟨(v1 : Int), (v2 : Int), (v3 : Int), (v4 : Int), i64 v5⟩ : S_api_Ins) = y at *
   by_cases hw : (zbo (insOf y) n locks).1 = 0
   ·rw [if_neg (by simpa using hw)]
    refine hq y r5 h6 m6 a6 ?_
    cases r5 with
    | ok a2 =>
     refine Cn.ok ?_
     have hdone : zrk bs at_ = .ok (insOf y, a2) := hdone
     unfold insD D.mustAt
     rw [hdone]
     dsimp only
     rw [if_pos hw]
    | error e =>
     refine Cn.err ?_
     have hdone : zrk bs at_ = .error e := hdone
     unfold insD D.mustAt
     rw [hdone]
   ·rw [if_pos (by simpa using hw)]
    refine zjy1 (zbq2 hA hB hC fun h7 hle7 => ?_)
    rw [← ziw1 (n := n) (locks := locks) hw]
    have hsp : 0 ≤ (zbo (insOf y) n locks).2 ∧ (zbo (insOf y) n locks).2 ≤ 4 := by
     rw [ziw1 hw]
     split
     ·omega
     ·unfold zfy1
      split
      ·omega
      ·split
       ·omega
       ·split <;> omega
    have a7 := a6.grow hle7
    obtain ⟨p7, e7, pl7, k7, hs7⟩ := a7.blk
    rw [zao (by omega) (by omega)]
    refine zby (zfx1 k7 fun h8 m8 k8 => ?_)
    have m9 := (m6.trans (Mv.of_le [rb] hle7)).trans m8
    have hd8 := (m9.le a.le fun c hc => by rw [List.mem_singleton.1 hc]; exact a.out).1
    cases r5 with
    | ok a2 =>
     have hdone : zrk bs at_ = .ok (insOf y, a2) := hdone
     obtain ⟨rfl, rfl, hs7⟩ := hs7
     simp only [ne_eq, hw, not_false_eq_true, and_self, if_true] at k8
     refine hq y (.error ((zbo (insOf y) n locks).1, at_ + (zbo (insOf y) n locks).2.toNat)) h8 m9 ⟨hd8, a.out, a.src, a.cap, a.small, _, _, _, k8, rfl, hw, by push_cast; omega⟩ (Cn.err ?_)
     unfold insD D.mustAt
     rw [hdone]
     dsimp only
     rw [if_neg hw]
    | error e =>
     have hdone : zrk bs at_ = .error e := hdone
     obtain ⟨er, q⟩ := e
     obtain ⟨rfl, hne, rfl⟩ := hs7
     rw [if_neg (fun hh => hne hh.2), if_neg (fun hh => hne hh.2)] at k8
     refine hq y (.error (e7, q)) h8 m9 ⟨hd8, a.out, a.src, a.cap, a.small, _, _, _, k8, rfl, hne, rfl⟩ (Cn.err ?_)
     unfold insD D.mustAt
     rw [hdone]
end
end Lf

namespace Lf
open Go Go.Proofs
section
variable {d h0 k : Hp} {rb cb : Nat} {bl : Sl} {bs : List UInt8} {r : RS} {x : S_api_Config} {c : PCfg} {B : List Nat}
theorem CB.other (s : CB d h0 rb cb bl bs k r x c B) {k' : Hp} {B5 : List Nat} (keep : ∀ b o, k b = some o → b ∉ B5 → k' b = some o) (hB : ∀ b ∈ B5, h0 b = none ∧ b ∉ B) : CB d h0 rb cb bl bs k' r x c B := by
 have h5r : rb ∉ B5 := fun h => s.kr (hB rb h).1
 have h5c : cb ∉ B5 := fun h => s.kc (hB cb h).1
 have hk : ∀ b o, h0 b = some o → b ∉ B5 := fun b o e h => by rw [(hB b h).1] at e; cases e
 exact {
  base := s.base
  kr := s.kr
  kc := s.kc
  ne := s.ne
  dc := s.dc
  keep := fun b o e h1 h2 => keep b o (s.keep b o e h1 h2) (hk b o e)
  rd := by
   obtain ⟨p, q, t, ⟨ty, kb⟩, hs⟩ := s.rd.blk
   exact ⟨fun b o e => keep b o (s.rd.le b o e) (hk b o (s.base b o e)), s.rd.out, s.rd.src, s.rd.cap, s.rd.small, p, q, t, ⟨ty, keep rb _ kb h5r⟩, hs⟩
  blk := by
   obtain ⟨t, e⟩ := s.blk
   exact ⟨t, keep cb _ e h5c⟩
  own := okCfg.same s.own fun b hb => by
   cases e : k b with
   | none => exact absurd e (okCfg.known s.own b hb)
   | some o => exact keep b o e fun h => (hB b h).2 hb
  nd := s.nd
  fresh := s.fresh }
theorem zdt2 {P : Program} {n : Int} {Q : Int → Hp → Prop} {h : Hp} (hq : Q (if 256 < n then 3 else 0) h) : zhl P n Q h := by
 unfold zhl
 by_cases hn : 256 < n
 ·rw [if_pos hn] at hq; rw [if_pos (decide_eq_true hn)]; exact hq
 ·rw [if_neg hn] at hq; rw [if_neg (fun e => hn (of_decide_eq_true e))]; exact hq
theorem zdu2 (s : CB d h0 rb cb bl bs k r x c B) (hsm : c.labels.length ≤ 255) (hps : c.procs.length ≤ 255) {Q : Hp → Prop}
  (hq : ∀ p r1 k' x' B', CB d h0 rb cb bl bs k' r1 x' { c with procs := c.procs ++ [p] } B' → Cn bs r (procD (c.labels.length : Int) c.locks) r1 p → Q k') :
  zjt Tryz.prog (some ⟨rb, 0, none⟩) (some ⟨cb, 0, none⟩) Q k := by
 unfold zjt
 have hll : x.Labels.len = c.labels.length := by
  obtain ⟨B1, B2, B3, _, o1, _⟩ := s.own
  exact o1.len
 have hlk : x.Locks = c.locks := by
  obtain ⟨B1, B2, B3, _, _, _, _, _, _, e, _⟩ := s.own
  exact e
 refine zla (zjk1 s.rd s.blk (by omega) fun part r1 k1 hpart m1 a1 hc1 => ?_)
 rw [hll] at hc1
 have s1 := s.step m1 a1
 refine zhn (wrong := ⟨zgx, #[], #[]⟩) (zwv1 (k := 2) s1.rd (by omega) (by omega) (fun n => if 256 < n then 3 else 0) (fun n hn2 h1 hle1 K hK => zny (g := zgx) rfl (zzm (zdt2 (hK h1 (Hp.le_refl _))))) fun v r2 k2 hv m2 a2 hc2 => ?_)
 have s2 := s1.step m2 a2
 refine LoopW2.intro (fun i p k3 => ∃ (j : Nat) (ps : List PIns) (r' : RS) (B5 : List Nat), i = (j : Int) ∧ j = ps.length ∧ j ≤ v ∧ CB d h0 rb cb bl bs k3 r' x c B ∧ p.Part = (part : Int) ∧ InsO p.Code ps k3 B5 ∧ B5.Nodup ∧ (∀ b ∈ B5, h0 b = none ∧ b ∉ B) ∧
   ∀ (β : Type) (f : List PIns → D β), stepD r2 (D.bind (D.many (fun _ => insD (v : Int) c.locks) v []) f) bs = stepD r' (D.bind (D.many (fun _ => insD (v : Int) c.locks) (v - j) ps) f) bs) (fun i _ _ => (v - i).toNat)
  ⟨0, [], r2, [], rfl, rfl, by omega, s2, rfl, RowsO.nil, List.nodup_nil, fun b hb => by (cases hb), fun _ _ => rfl⟩ ?_
 rintro i p k3 ⟨j, ps, r', B5, rfl, hjl, hjv, s3, hpp, o5, nd5, hB5, hcn⟩
 refine effI (fun b => b = true ↔ ∃ e, r' = .error e) false (fun _ hk => zax (s3.rd.bad hk)) fun b hb => letW ?_
 have hend : (j = v ∨ ∃ e, r' = .error e) → NilW none (some ⟨cb, 0, none⟩) fun p1 => LdW none shSl k3 (Addr.add p1 6) fun x => NewW [(.int .i64 p.Part), p.Code.v] (fun a h5 => (((LdIs h5 (Addr.add p1 6) [x.v]) ∧ True) ∧ zas 2 32 [(.int .i64 (0 : Int)), (.slice none 0 0)] x ⟨(some a), 1, 1⟩ (fun r4 h6 =>
   NilW none (some ⟨cb, 0, none⟩) fun p2 => StW h6 (Addr.add p2 6) [r4.v] (fun h7 => Q h7)) h5)) k3 := fun hor => by
  refine zad (ld_at (sh := shSl) x.Procs (s3.blk.ldIs (off := 6) (n := 1) rfl) ?_)
  refine newF (xs := [p]) (enc := fun x => zae (sh_api_Proc.enc x)) (sz := 2) rfl (fun _ => rfl) fun b6 k6 _ hle6 _ o6 => ?_
  have s6 := s3.grow hle6
  have o5' : InsO p.Code ps k6 B5 := okIns.same o5 fun b hb => by
   cases e : k3 b with
   | none => exact absurd e (okIns.known o5 b hb)
   | some o => exact hle6 b o e
  refine ⟨⟨s6.blk.ldIs (off := 6) (n := 1) rfl, trivial⟩, ?_⟩
  refine s6.procs (v := p) (p := ⟨(part : Int), ps⟩) ⟨hpp, o5'⟩ nd5 hB5 (o6.rw fun _ => rfl) (by omega) fun l' k7 hN => zad (hN.2.2 _ fun k8 B8 s8 => ?_)
  refine hq ⟨(part : Int), ps⟩ r' k8 _ B8 s8 fun β f => ?_
  unfold procD
  rw [zai, hc1, zai, hc2, zai]
  have e := hcn β fun code => f ⟨(part : Int), code⟩
  rcases hor with rfl | ⟨e2, rfl⟩
  ·rw [Nat.sub_self] at e
   exact e
  ·exact e
 by_cases hjv' : j = v
 ·rw [if_neg (by simp [hjv'])]
  exact hend (.inl hjv')
 have hb := hb (decide_eq_true (by omega))
 cases b with
 | true =>
  rw [if_neg (by simp)]
  exact hend (.inr (hb.1 rfl))
 | false =>
  rw [if_pos (by simp; omega)]
  refine zad (ld_at (sh := shInt .i64) x.Locks (s3.blk.ldIs (off := 4) (n := 1) rfl) ?_)
  rw [hlk]
  refine zeh1 (zgi2 s3.rd fun y r4 k4 m4 a4 hc4 => ?_)
  have s4 := s3.step m4 a4
  have o4 : InsO p.Code ps k4 B5 := okIns.same o5 (zpj m4 (okIns.known o5) fun b hb e => s3.kr (by rw [← List.mem_singleton.1 e]; exact (hB5 b hb).1))
  refine ⟨⟨trivial, trivial⟩, ?_⟩
  refine newF (xs := [y]) (enc := fun x => zae (sh_api_Ins.enc x)) (sz := 5) rfl (fun _ => rfl) fun b5 k5 _ hle5 _ o5'' => ?_
  have s5 := s4.grow hle5
  have o5' : InsO p.Code ps k5 B5 := okIns.same o4 fun b hb => by
   cases e : k4 b with
   | none => exact absurd e (okIns.known o4 b hb)
   | some o => exact hle5 b o e
  refine ⟨⟨trivial, trivial⟩, ?_⟩
  refine zvh (PureO.ok _) o5' (v := y) (p := insOf y) (B' := []) ⟨rfl, rfl⟩ (by simpa using nd5) (o5''.rw fun _ => rfl) (fun _ => rfl) (fun _ => rfl) rfl (by omega) fun l' k6 B6 o6 nd6 keep6 from6 => ?_
  have s6 := s5.other keep6 hB5
  rw [zao (by omega) (by omega)]
  refine ⟨⟨j + 1, ps ++ [insOf y], r4, B6, by omega, by simp [hjl], by omega, s6, hpp, o6, nd6, fun b hb => ?_, fun β f => ?_⟩, by omega⟩
  ·rcases from6 b hb with hb | hb
   ·exact hB5 b (by simpa using hb)
   ·exact ⟨s5.new_ hb, fun h => okCfg.known s5.own b h hb⟩
  ·have e1 : v - j = (v - (j + 1)) + 1 := by omega
   rw [hcn, e1, zdg, zai, hc4]
end
end Lf

namespace Lf
open Go Go.Proofs
section
variable {d h : Hp} {rb : Nat} {bl : Sl} {bs : List UInt8} {r : RS}
theorem zyi1 {P : Program} {ab : Nat} {i : Nat} {n : Nat} {h : Hp} (hi : i < 5) (hn : n < 256) (ha : LdIs h ⟨ab, 0, none⟩ [.int .i64 (i : Int)]) {c : UInt8} (hc : ([70, 66, 67, 70, 1] : List UInt8)[i]? = some c)
  {Q : Int → Hp → Prop} (hq : Q (if n = c.toNat then 0 else 4) h) : zfx P (n : Int) ⟨ab, 0, none⟩ Q h := by
 unfold zfx
 have h5 : (i : Int) < 5 := by omega
 refine ld_at (sh := shInt .i64) (i : Int) ha ⟨⟨Int.natCast_nonneg i, h5⟩, ?_⟩
 have e1 : IntKind.wrap .u8 (n : Int) = (n : Int) := by
  rw [wrap8, zit1]; omega
 have e2 : List.getD [70, 66, 67, 70, 1] (Int.toNat (i : Int)) (0 : UInt8) = c := by
  rw [List.getD_eq_getElem?_getD, show (Int.toNat (i : Int)) = i from rfl, hc]; rfl
 rw [e1, e2]
 by_cases h1 : n = c.toNat
 ·rw [if_pos h1] at hq
  rw [if_neg (by simp [h1])]
  exact hq
 ·rw [if_neg h1] at hq
  rw [if_pos (by rw [bne_iff_ne]; omega)]
  exact hq
theorem zbr2 {Q : Hp → Prop} (a : RAt d h rb bl bs r) (hq : ∀ r1 h', Mv [rb] h [rb] h' → RAt d h' rb bl bs r1 → Cn bs r (markD [70, 66, 67, 70, 1]) r1 () → Q h') : zhg Tryz.prog (some ⟨rb, 0, none⟩) Q h := by
 unfold zhg
 refine forI (n := 5) rfl (by omega) (fun i k => ∃ r', Mv [rb] h [rb] k ∧ RAt d k rb bl bs r' ∧ ∀ (β : Type) (f : Unit → D β), stepD r (D.bind (markD [70, 66, 67, 70, 1]) f) bs = stepD r' (D.bind (markD (([70, 66, 67, 70, 1] : List UInt8).drop i)) f) bs) ⟨r, Mv.refl _ _, a, fun _ _ => rfl⟩ ?_ ?_
 ·rintro i hi k ⟨r', m, a', hcn⟩ K hK
  refine newB2 fun ab k1 hn1 hle1 hA1 => ?_
  have a1 := a'.grow hle1
  have har : rb ≠ ab := fun h => by
   obtain ⟨p, q, t, kb, _⟩ := a'.blk
   exact kb.known (h ▸ hn1)
  refine zfc (b := ab) (off := 0) hA1 (by simp) fun k2 m2 hA2 => ?_
  have a2 := a1.mv m2 (fun h => har (List.mem_singleton.1 h)) fun b hb => by
   rw [List.mem_singleton.1 hb]
   exact zbk a'.le hn1
  have lA : LdIs k2 ⟨ab, 0, none⟩ [.int .i64 (i : Int)] := by
   refine hA2.ldIs (off := 0) (n := 1) ?_
   simp
  have hc : ([70, 66, 67, 70, 1] : List UInt8)[i]? = some (([70, 66, 67, 70, 1] : List UInt8)[i]'(by simpa using hi)) := List.getElem?_eq_getElem (by simpa using hi)
  generalize ([70, 66, 67, 70, 1] : List UInt8)[i]'(by simpa using hi) = c at hc
  refine zfa (wrong := ⟨zfl, #[], #[.pointer (some ⟨ab, 0, none⟩)]⟩) (zhy1 (k := 1) a2 (by omega) (by omega) (fun n => if n = c.toNat then 0 else 4) (fun n hn2 K hK => ?_) fun v r2 k3 hv m3 a3 hc3 => ?_)
  ·refine zny (g := zfl) rfl (zwe ?_)
   exact zyi1 hi (by simpa using hn2) lA hc (hK k2 (Hp.le_refl _))
  ·refine hK k3 ⟨r2, ⟨fun b o e hb => m3.keep b o (m2.keep b o (hle1 b o (m.keep b o e hb)) fun h => ?_) hb, fun b hb => .inl hb⟩, a3, fun β f => ?_⟩
   ·rw [List.mem_singleton.1 h] at e hb
    have := m.keep ab o e hb
    rw [hn1] at this
    cases this
   ·rw [hcn, zlz hc]
    show stepD r' (D.bind (D.bind (D.must (D.num 1) fun n => if n = c.toNat then 0 else 4) fun _ => markD (([70, 66, 67, 70, 1] : List UInt8).drop (i + 1))) f) bs = _
    rw [zai, hc3]
 ·rintro k ⟨r', m, a', hcn⟩
  exact hq r' k m a' fun β f => by rw [hcn]; rfl
end
theorem rp2 : zgb 2 = rngE 1 256 := by funext n; simp [zgb]
theorem rp3 : zgb 3 = rngE 1 64 := by funext n; simp [zgb]
theorem rp4 : zgb 4 = rngE 0 8 := by funext n; simp [zgb]
theorem rp5 : zgb 5 = rngE 0 4096 := by funext n; simp [zgb]
def cfg0 : S_api_Config := ⟨⟨none, 0, 0⟩, ⟨none, 0, 0⟩, 0, 0, 0, 0, ⟨none, 0, 0⟩⟩
def EndC (h h2 : Hp) (rb cb : Nat) (b : Sl) (bs : List UInt8) (k : Hp) : Prop :=
 (Blk k rb (zbz b 0 22 1048576) ∧ h ≤ k ∧ zed bs = .error (22, 1048576)) ∨
 ∃ (r : RS) (x : S_api_Config) (c : PCfg) (B : List Nat), CB h h2 rb cb b bs k r x c B ∧ match r with
  | .error e => zed bs = .error e
  | .ok _ => zed bs = .ok c
theorem zmt {bs : List UInt8} {e : Int × Nat} (hl : bs.length ≤ 1048576) (h : stepD (.ok 0) zqr bs = .error e) : zed bs = .error e := by
 unfold zed zfi
 rw [if_neg (by omega)]
 have h : zqr bs 0 = .error e := h
 rw [h]
theorem zlx1 {bs : List UInt8} {c : PCfg} {a : Nat} (hl : bs.length ≤ 1048576) (h : stepD (.ok 0) zqr bs = .ok (c, a)) : zed bs = if a < bs.length then .error (6, a) else .ok c := by
 unfold zed zfi
 rw [if_neg (by omega)]
 have h : zqr bs 0 = .ok (c, a) := h
 rw [h]
set_option maxRecDepth 20000 in
theorem zqf1 {h : Hp} {b : Sl} {bs : List UInt8} {Q : S_api_Config → Int → Int → Hp → Prop} (hB : Bs h b bs) (hcap : b.len ≤ b.cap)
  (he : ∀ e p h', h ≤ h' → zed bs = .error (e, p) → e ≠ 0 → Q cfg0 e (p : Int) h') (hok : ∀ x c B h', h ≤ h' → zed bs = .ok c → CfgO x c h' B → B.Nodup → (∀ b ∈ B, h b = none) → Q x 0 0 h') :
  zrx Tryz.prog b Q h := by
 unfold zrx
 have hlen : b.len = bs.length := hB.1
 refine newB2 fun cb h1 hn1 hle1 hC1 => newB2 fun rb h2 hn2 hle2 hR2 => ?_
 have hle := Hp.le_trans hle1 hle2
 have hne : rb ≠ cb := fun e => hC1.known (e ▸ hn2)
 have hrn : h rb = none := zbk hle1 hn2
 have hC2 := hC1.le hle2
 refine JoinW1.intro (fun _ k => EndC h h2 rb cb b bs k) ?_ ?_
 ·by_cases hbig : 1048576 < bs.length
  ·rw [if_pos (decide_eq_true (by omega))]
   refine zby (zfx1 (at_ := 0) (e := 0) (pl := 0) hR2 fun h3 m3 k3 => ?_)
   rw [if_pos ⟨by decide, rfl⟩, if_pos ⟨by decide, rfl⟩] at k3
   refine .inl ⟨k3, (m3.le hle fun c hc => by rw [List.mem_singleton.1 hc]; exact hrn).1, ?_⟩
   unfold zed zfi
   rw [if_pos hbig]
  ·rw [if_neg (fun e => hbig (by have := of_decide_eq_true e; omega))]
   have hsm : bs.length ≤ 1048576 := by omega
   have s0 : CB h h2 rb cb b bs h2 (.ok 0) cfg0 ⟨[], [], 0, 0, 0, 0, []⟩ [] :=
    ⟨hle, hR2.known, hC2.known, hne, hn1, fun b o e _ _ => e, ⟨hle, hrn, hB, hcap, by omega, 0, 0, 0, hR2, rfl, rfl, by omega⟩, hC2, ⟨[], [], [], rfl, RowsO.nil, RowsO.nil, RowsO.nil, rfl, rfl, rfl, rfl⟩, List.nodup_nil, fun b hb => by (cases hb)⟩
   refine zzf (zbr2 s0.rd fun r1 k1 m1 a1 hc1 => ?_)
   have s1 := s0.step m1 a1
   have hc1' : stepD (.ok 0) zqr bs = _ := hc1 PCfg _
   refine zax (s1.rd.bad fun q hq => ?_)
   cases q with
   | true =>
    rw [if_pos rfl]
    obtain ⟨e, rfl⟩ := hq.1 rfl
    exact .inr ⟨_, _, _, _, s1, zmt hsm hc1'⟩
   | false =>
   rw [if_neg (by simp)]
   refine zzg (zbp2 s1 rfl fun ls r2 k2 x2 B2 hls s2 hc2 => ?_)
   have hc2' := hc1'.trans (hc2 PCfg _)
   refine zax (s2.rd.bad fun q hq => ?_)
   cases q with
   | true =>
    rw [if_pos rfl]
    obtain ⟨e, rfl⟩ := hq.1 rfl
    exact .inr ⟨_, _, _, _, s2, zmt hsm hc2'⟩
   | false =>
   rw [if_neg (by simp)]
   refine zaw1 (zds2 s2 rfl hls fun ts r3 k3 x3 B3 hts s3 hc3 => ?_)
   have hc3' := hc2'.trans (hc3 PCfg _)
   refine zax (s3.rd.bad fun q hq => ?_)
   cases q with
   | true =>
    rw [if_pos rfl]
    obtain ⟨e, rfl⟩ := hq.1 rfl
    exact .inr ⟨_, _, _, _, s3, zmt hsm hc3'⟩
   | false =>
   rw [if_neg (by simp)]
   have num : ∀ {k : Nat} {part : Int} {hi lo : Int} {r : RS} {x : S_api_Config} {c : PCfg} {B : List Nat} {kk : Hp} {Q : Int → Hp → Prop}, CB h h2 rb cb b bs kk r x c B → 1 ≤ k → k ≤ 2 → zgb part = rngE lo hi →
     (∀ (v : Nat) r1 k1, v < 65536 → CB h h2 rb cb b bs k1 r1 x c B → Cn bs r (D.must (zD k) (rngE lo hi)) r1 (v : Int) → Q (v : Int) k1) → CallT Tryz.prog zcc [(.pointer (some ⟨rb, 0, none⟩)), (.int .i64 part), (.int .i64 (k : Int))] (shInt .i64) Q kk :=
    fun {k part hi lo r x c B kk Q} s hk1 hk2 hp hq => zzh (zbn2 (k := k) s.rd hk1 hk2 fun v r1 k1 hv m a hc => hq v r1 k1 (by
     have : 256 ^ k ≤ 65536 := Nat.pow_le_pow_right (by omega : 256 > 0) hk2
     omega) (s.step m a) (by rw [← hp]; exact hc))
   refine num (k := 2) s3 (by omega) (by omega) rp2 fun v4 r4 k4 hv4 s4 hc4 => ?_
   have hc4' := hc3'.trans (hc4 PCfg _)
   refine s4.num (x' := { x3 with Fuel := (v4 : Int) }) (c' := ⟨ls, ts, (v4 : Int), 0, 0, 0, []⟩) (off := 2) (fun o => by
    obtain ⟨B1, B2, B3, e, o1, o2, o3, f1, f2, f3, f4⟩ := o
    exact ⟨B1, B2, B3, e, o1, o2, o3, rfl, f2, f3, f4⟩) (by omega) rfl fun k5 s5 => ?_
   refine num (k := 1) s5 (by omega) (by omega) rp3 fun v6 r6 k6 hv6 s6 hc6 => ?_
   have hc6' := hc4'.trans (hc6 PCfg _)
   refine s6.num (x' := { x3 with Fuel := (v4 : Int), Lane := (v6 : Int) }) (c' := ⟨ls, ts, (v4 : Int), (v6 : Int), 0, 0, []⟩) (off := 3) (fun o => by
    obtain ⟨B1, B2, B3, e, o1, o2, o3, f1, f2, f3, f4⟩ := o
    exact ⟨B1, B2, B3, e, o1, o2, o3, f1, rfl, f3, f4⟩) (by omega) rfl fun k7 s7 => ?_
   refine num (k := 1) s7 (by omega) (by omega) rp4 fun v8 r8 k8 hv8 s8 hc8 => ?_
   have hc8' := hc6'.trans (hc8 PCfg _)
   refine s8.num (x' := { x3 with Fuel := (v4 : Int), Lane := (v6 : Int), Locks := (v8 : Int) }) (c' := ⟨ls, ts, (v4 : Int), (v6 : Int), (v8 : Int), 0, []⟩) (off := 4) (fun o => by
    obtain ⟨B1, B2, B3, e, o1, o2, o3, f1, f2, f3, f4⟩ := o
    exact ⟨B1, B2, B3, e, o1, o2, o3, f1, f2, rfl, f4⟩) (by omega) rfl fun k9 s9 => ?_
   refine num (k := 2) s9 (by omega) (by omega) rp5 fun v10 r10 k10 hv10 s10 hc10 => ?_
   have hc10' := hc8'.trans (hc10 PCfg _)
   refine s10.num (x' := { x3 with Fuel := (v4 : Int), Lane := (v6 : Int), Locks := (v8 : Int), Log := (v10 : Int) }) (c' := ⟨ls, ts, (v4 : Int), (v6 : Int), (v8 : Int), (v10 : Int), []⟩) (off := 5) (fun o => by
    obtain ⟨B1, B2, B3, e, o1, o2, o3, f1, f2, f3, f4⟩ := o
    exact ⟨B1, B2, B3, e, o1, o2, o3, f1, f2, f3, rfl⟩) (by omega) rfl fun k11 s11 => ?_
   refine zhu (ziv1 s11.rd fun np r12 k12 hnp m12 a12 hc12 => ?_)
   have s12 := s11.step m12 a12
   have hc12' := hc10'.trans (hc12 PCfg _)
   refine LoopW1.intro (fun n kk => ∃ (i : Nat) (ps : List PProc) (r' : RS) (x' : S_api_Config) (B' : List Nat), n = (i : Int) ∧ i + ps.length = np ∧ CB h h2 rb cb b bs kk r' x' ⟨ls, ts, (v4 : Int), (v6 : Int), (v8 : Int), (v10 : Int), ps⟩ B' ∧
     stepD (.ok 0) zqr bs = stepD r' (D.bind (D.many (fun _ => procD (ls.length : Int) (v8 : Int)) i ps) fun procs => D.ret (⟨ls, ts, (v4 : Int), (v6 : Int), (v8 : Int), (v10 : Int), procs⟩ : PCfg)) bs) (fun n _ => n.toNat)
    ⟨np, [], r12, _, _, rfl, by simp, s12, hc12'⟩ ?_
   rintro n kk ⟨i, ps, r', x', B', rfl, hil, s13, hcn⟩
   refine effI (fun b => b = true ↔ ∃ e, r' = .error e) false (fun _ hk => zax (s13.rd.bad hk)) fun q hqb => letW ?_
   have hend : (i = 0 ∨ ∃ e, r' = .error e) → NilW none (some ⟨rb, 0, none⟩) fun p => LdW none (shInt .i64) kk (Addr.add p 1) fun x =>
     (if (decide (x < ((b.len : Nat) : Int))) = true then
     NilW none (some ⟨rb, 0, none⟩) fun p1 =>
     LdW none (shInt .i64) kk (Addr.add p1 1) fun x1 =>
     Call0 Tryz.prog zbs [(.pointer (some ⟨rb, 0, none⟩)), (.int .i64 (6 : Int)), (.int .i64 x1)] (fun h20 => EndC h h2 rb cb b bs h20) kk
     else EndC h h2 rb cb b bs kk) := fun hor => by
    obtain ⟨p, e, pl, kb, hs⟩ := s13.rd.blk
    refine zad (ld_at (sh := shInt .i64) p (kb.ldIs (off := 1) (n := 1) rfl) ?_)
    cases r' with
    | error e0 =>
     obtain ⟨er, q0⟩ := e0
     obtain ⟨rfl, hne0, rfl⟩ := hs
     have hfin : EndC h h2 rb cb b bs kk := .inr ⟨_, _, _, _, s13, zmt hsm hcn⟩
     by_cases hlt : p < ((b.len : Nat) : Int)
     ·rw [if_pos (decide_eq_true hlt)]
      refine zad (ld_at (sh := shInt .i64) p (kb.ldIs (off := 1) (n := 1) rfl) (zby (zfx1 kb fun h20 m20 k20 => ?_)))
      rw [if_neg (fun hh => hne0 hh.2), if_neg (fun hh => hne0 hh.2)] at k20
      refine .inr ⟨.error (e, q0), _, _, _, s13.step m20 ⟨(m20.le s13.rd.le fun c hc => by rw [List.mem_singleton.1 hc]; exact hrn).1, hrn, hB, hcap, by omega, _, _, _, k20, rfl, hne0, rfl⟩, zmt hsm hcn⟩
     ·rw [if_neg (fun e => hlt (of_decide_eq_true e))]
      exact hfin
    | ok at_ =>
     obtain ⟨rfl, rfl, hat⟩ := hs
     have h0 : i = 0 := by
      rcases hor with h0 | ⟨e, h0⟩
      ·exact h0
      ·cases h0
     subst h0
     have hcfg := zlx1 hsm (hcn : stepD (.ok 0) zqr bs = .ok (_, at_))
     by_cases hlt : at_ < bs.length
     ·have hlt' : (at_ : Int) < ((b.len : Nat) : Int) := by omega
      rw [if_pos (decide_eq_true hlt')]
      rw [if_pos hlt] at hcfg
      refine zad (ld_at (sh := shInt .i64) (at_ : Int) (kb.ldIs (off := 1) (n := 1) rfl) (zby (zfx1 kb fun h20 m20 k20 => ?_)))
      rw [if_pos ⟨by decide, rfl⟩, if_pos ⟨by decide, rfl⟩] at k20
      exact .inr ⟨.error (6, at_), _, _, _, s13.step m20 ⟨(m20.le s13.rd.le fun c hc => by rw [List.mem_singleton.1 hc]; exact hrn).1, hrn, hB, hcap, by omega, _, _, _, k20, rfl, by decide, rfl⟩, hcfg⟩
     ·rw [if_neg (fun e => hlt (by have e : (at_ : Int) < ((b.len : Nat) : Int) := of_decide_eq_true e; omega))]
      rw [if_neg hlt] at hcfg
      exact .inr ⟨_, _, _, _, s13, hcfg⟩
   by_cases hi : i = 0
   ·rw [if_neg (by simp [hi])]
    exact hend (.inl hi)
   have hqb := hqb (decide_eq_true (by omega))
   cases q with
   | true =>
    rw [if_neg (by simp)]
    exact hend (.inr (hqb.1 rfl))
   | false =>
    rw [if_pos (by simp; omega)]
    obtain ⟨j, rfl⟩ : ∃ j, i = j + 1 := ⟨i - 1, by omega⟩
    refine zcj1 (zdu2 s13 hls (by show ps.length ≤ 255; omega) fun p r14 k14 x14 B14 s14 hc14 => ?_)
    rw [zao (by omega) (by omega)]
    refine ⟨⟨j, ps ++ [p], r14, x14, B14, by omega, by simp; omega, s14, ?_⟩, by omega⟩
    rw [hcn, zdg, zai, hc14]
 ·intro t2 k hE
  rcases hE with ⟨kb, hl, hcfg⟩ | ⟨r, x, c, B, s, hcfg⟩
  ·refine zax (zog1 kb ?_)
   rw [if_pos (by simp)]
   refine zad (ld_at (sh := shInt .i64) (22 : Int) (kb.ldIs (off := 2) (n := 1) rfl) (zad (ld_at (sh := shInt .i64) (1048576 : Int) (kb.ldIs (off := 3) (n := 1) rfl) ?_)))
   exact ⟨⟨kb.ldIs (off := 2) (n := 1) rfl, kb.ldIs (off := 3) (n := 1) rfl, trivial⟩, he 22 1048576 k hl hcfg (by decide)⟩
  ·obtain ⟨p, e, pl, kb, hs⟩ := s.rd.blk
   refine zax (zog1 kb ?_)
   cases r with
   | error e0 =>
    obtain ⟨er, q0⟩ := e0
    obtain ⟨rfl, hne0, rfl⟩ := hs
    rw [if_pos (by simpa using hne0)]
    refine zad (ld_at (sh := shInt .i64) e (kb.ldIs (off := 2) (n := 1) rfl) (zad (ld_at (sh := shInt .i64) (q0 : Int) (kb.ldIs (off := 3) (n := 1) rfl) ?_)))
    exact ⟨⟨kb.ldIs (off := 2) (n := 1) rfl, kb.ldIs (off := 3) (n := 1) rfl, trivial⟩, he e q0 k s.rd.le hcfg hne0⟩
   | ok at_ =>
    obtain ⟨rfl, rfl, _⟩ := hs
    rw [if_neg (by simp)]
    refine ld_at (sh := sh_api_Config) x (s.blk.ldIs (off := 0) (n := 7) rfl) ?_
    exact hok x c B k s.rd.le hcfg s.own s.nd fun b' hb' => zbk hle (s.fresh b' hb')
end Lf

namespace Lf
open Go Go.Proofs
structure SAt (d h : Hp) (rb : Nat) (bl : Sl) (bs : List UInt8) (r : RS) (x : S_api_Config) : Prop where
 le : d ≤ h
 out : d rb = none
 src : Bs d bl bs
 cap : bl.len ≤ bl.cap
 small : bs.length ≤ 2097152
 blk : ∃ at_ e pl : Int, Blk h rb (zbz bl at_ e pl ++ cfgL x) ∧ RSat r bs.length at_ e pl
section
variable {d h : Hp} {rb : Nat} {bl : Sl} {bs : List UInt8} {r : RS} {x : S_api_Config}
theorem SAt.mv (a : SAt d h rb bl bs r x) {G G' : List Nat} {h' : Hp} (m : Mv G h G' h') (hr : rb ∉ G) (hd : ∀ c ∈ G, d c = none) : SAt d h' rb bl bs r x := by
 obtain ⟨p, e, pl, k, hs⟩ := a.blk
 exact ⟨(m.le a.le hd).1, a.out, a.src, a.cap, a.small, p, e, pl, k.mv m hr, hs⟩
theorem SAt.grow (a : SAt d h rb bl bs r x) {h' : Hp} (hl : h ≤ h') : SAt d h' rb bl bs r x := a.mv (Mv.of_le [] hl) (by simp) (by simp)
theorem SAt.known (a : SAt d h rb bl bs r x) : h rb ≠ none := by
 obtain ⟨p, e, pl, k, hs⟩ := a.blk
 exact k.known
theorem SAt.cfg (a : SAt d h rb bl bs r x) {j n : Nat} {vs : List Value} (hv : ((cfgL x).drop j).take n = vs) : LdIs h ⟨rb, 4 + j, none⟩ vs := by
 obtain ⟨p, e, pl, k, hs⟩ := a.blk
 exact k.ldIs (off := 4 + j) (n := n) (by rw [← hv, Nat.add_comm]; rfl)
theorem zvi {P : Program} {tl : List Value} {at_ e pl e1 p1 : Int} (k : Blk h rb (zbz bl at_ e pl ++ tl)) {Q : Hp → Prop}
  (hk : ∀ h', Mv [rb] h [rb] h' → Blk h' rb (zbz bl at_ (if e = 0 then e1 else e) (if e = 0 then p1 else pl) ++ tl) → Q h') : zgf P (some ⟨rb, 0, none⟩) e1 p1 Q h := by
 unfold zgf
 refine zad (ld_at (sh := shInt .i64) e (k.ldIs (off := 2) (n := 1) rfl) ?_)
 by_cases h2 : e = 0
 ·rw [if_pos (by simpa using h2)]
  rw [if_pos h2, if_pos h2] at hk
  refine zad (zfc (b := rb) (off := 2) k (by simp [zbz]) fun h2' m2 k2 => zad (zfc (b := rb) (off := 3) k2 (by simp [zbz]) fun h3 m3 k3 => hk h3 (m2.trans m3) (by simpa [zbz] using k3)))
 ·rw [if_neg (by simpa using h2)]
  rw [if_neg h2, if_neg h2] at hk
  exact hk h (Mv.refl _ _) k
theorem zeo1 {k : Nat} {Q : Int → Hp → Prop} (a : SAt d h rb bl bs r x) (hk1 : 1 ≤ k) (hk8 : k ≤ 8)
  (hq : ∀ (n : Nat) r1 h', n < 256 ^ k → Mv [rb] h [rb] h' → SAt d h' rb bl bs r1 x → Cn bs r (D.num k) r1 n → ((∃ e, r1 = .error e) → n = 0) → Q (i64 n) h') : zkq Tryz.prog (some ⟨rb, 0, none⟩) (k : Int) Q h := by
 unfold zkq
 obtain ⟨p, e, pl, kb, hs⟩ := a.blk
 have hlen : bl.len = bs.length := a.src.1
 have hsm := a.small
 have hpow : 0 < 256 ^ k := Nat.pow_pos (by omega)
 have hpow8 : 256 ^ k ≤ 18446744073709551616 := Nat.pow_le_pow_right (by omega : 256 > 0) hk8
 refine zad (ld_at (sh := shInt .i64) e (kb.ldIs (off := 2) (n := 1) rfl) ?_)
 cases r with
 | error y =>
  obtain ⟨er, q⟩ := y
  rw [if_pos (by rw [bne_iff_ne, hs.1]; exact hs.2.1)]
  exact hq 0 _ h hpow (Mv.refl _ _) a Cn.stay fun _ => rfl
 | ok n =>
  obtain ⟨rfl, rfl, hn⟩ := hs
  have hn : n ≤ bs.length := by omega
  rw [if_neg (by simp)]
  refine zad (ld_at (sh := shSl) bl (kb.ldIs (off := 0) (n := 1) rfl) (zad (ld_at (sh := shInt .i64) (n : Int) (kb.ldIs (off := 1) (n := 1) rfl) ?_)))
  rw [zao (by omega) (by omega)]
  by_cases hsh : bs.length < n + k
  ·have hlt : ((bl.len : Nat) : Int) - (n : Int) < (k : Int) := by omega
   rw [if_pos (decide_eq_true hlt)]
   refine zad (ld_at (sh := shSl) bl (kb.ldIs (off := 0) (n := 1) rfl) (zbh (zvi kb fun h' m k' => ?_)))
   rw [if_pos rfl, if_pos rfl] at k'
   refine hq 0 (.error (5, bs.length)) h' hpow m ⟨(m.le a.le fun c hc => by rw [List.mem_singleton.1 hc]; exact a.out).1, a.out, a.src, a.cap, a.small, _, _, _, k', rfl, by decide, by rw [hlen]⟩ (Cn.err ?_) fun _ => rfl
   unfold D.num
   rw [if_pos hsh]
  ·have hlt : ¬ ((bl.len : Nat) : Int) - (n : Int) < (k : Int) := by omega
   rw [if_neg (fun e => hlt (of_decide_eq_true e))]
   refine zad (ld_at (sh := shSl) bl (kb.ldIs (off := 0) (n := 1) rfl) (zad (ld_at (sh := shInt .i64) (n : Int) (kb.ldIs (off := 1) (n := 1) rfl) (zad (ld_at (sh := shInt .i64) (n : Int) (kb.ldIs (off := 1) (n := 1) rfl) ?_)))))
   have hcap := a.cap
   rw [zao (by omega) (by omega)]
   have hnk : (n : Int) ≤ (n : Int) + (k : Int) := by omega
   refine ⟨⟨by omega, hnk, by omega⟩, letW ?_⟩
   have e1 : ((n : Int) + (k : Int)).toNat = n + k := by omega
   have e2 : ((n : Int)).toNat = n := rfl
   rw [e1, e2]
   have hcut := (Rw.mono a.le a.src).cut (a := n) (b := n + k) (c := bl.cap) (n := n + k - n) (m := bl.cap - n) zly (by omega) (by omega) (by omega) rfl
   have e3 : n + k - n = k := by omega
   rw [e3] at hcut ⊢
   have hdl : ((bs.drop n).take k).length = k := by rw [List.length_take, List.length_drop]; omega
   have hv := zzo ((bs.drop n).take k)
   rw [hdl] at hv
   refine zwu1 hcut (by omega) ?_
   refine zad (ld_at (sh := shInt .i64) (n : Int) (kb.ldIs (off := 1) (n := 1) rfl) (zad (zfc (b := rb) (off := 1) kb (by simp [zbz]) fun h5 m5 kb5 => ?_)))
   have hd5 := (m5.le a.le fun c hc => by rw [List.mem_singleton.1 hc]; exact a.out).1
   rw [zao (by omega) (by omega)] at kb5
   rw [zob (by omega)]
   have kb5 : Blk h5 rb (zbz bl ((n : Int) + (k : Int)) 0 pl ++ cfgL x) := by simpa [zbz] using kb5
   refine hq _ (.ok (n + k)) h5 hv m5 ⟨hd5, a.out, a.src, a.cap, a.small, _, _, _, kb5, by push_cast; rfl, rfl, by omega⟩ (Cn.ok ?_) (by rintro ⟨e, he⟩; cases he)
   unfold D.num
   rw [if_neg hsh]
theorem zsb1 {n : Nat} (h : n < 4294967296) : i64 n = (n : Int) := by
 unfold i64
 rw [if_pos (by omega)]
theorem ziq {k : Nat} {Q : Int → Hp → Prop} (a : SAt d h rb bl bs r x) (hk1 : 1 ≤ k) (hk4 : k ≤ 4)
  (hq : ∀ (n : Nat) r1 h', n < 256 ^ k → Mv [rb] h [rb] h' → SAt d h' rb bl bs r1 x → Cn bs r (zD k) r1 (n : Int) → ((∃ e, r1 = .error e) → n = 0) → Q (n : Int) h') : zim Tryz.prog (some ⟨rb, 0, none⟩) (k : Int) Q h := by
 unfold zim
 have hpow : 256 ^ k ≤ 4294967296 := Nat.pow_le_pow_right (by omega : 256 > 0) hk4
 refine zbb (zeo1 a hk1 (by omega) fun n r1 h' hn m a' hc hz => ?_)
 rw [zsb1 (by omega)]
 exact hq n r1 h' hn m a' hc.map hz
theorem zqg1 {k : Nat} {most : Int} {Q : Int → Hp → Prop} (a : SAt d h rb bl bs r x) (hk1 : 1 ≤ k) (hk4 : k ≤ 4)
  (hq : ∀ (n : Nat) r1 h', n < 256 ^ k → Mv [rb] h [rb] h' → SAt d h' rb bl bs r1 x → Cn bs r (D.must (zD k) (mostE most)) r1 (n : Int) → Q (n : Int) h') : zjq Tryz.prog (some ⟨rb, 0, none⟩) (k : Int) most Q h := by
 unfold zjq
 obtain ⟨p, e, pl, kb, hs⟩ := a.blk
 have hpow : 0 < 256 ^ k := Nat.pow_pos (by omega)
 refine zad (ld_at (sh := shInt .i64) p (kb.ldIs (off := 1) (n := 1) rfl) ?_)
 refine zaq (ziq a hk1 hk4 fun n r1 h1 hn m1 a1 hc hz => ?_)
 obtain ⟨p1, e1, pl1, kb1, hs1⟩ := a1.blk
 by_cases hmost : most < (n : Int)
 ·rw [if_pos (decide_eq_true hmost)]
  refine zbh (zvi kb1 fun h2 m2 kb2 => ?_)
  have m := m1.trans m2
  have hd2 := (m.le a.le fun c hc => by rw [List.mem_singleton.1 hc]; exact a.out).1
  cases r with
  | error y =>
   have := hc.done
   cases r1 with
   | ok at1 => cases this
   | error y1 =>
    obtain ⟨er, q⟩ := y1
    obtain ⟨rfl, hne, rfl⟩ := hs1
    rw [if_neg hne, if_neg hne] at kb2
    refine zad (ld_at (sh := shInt .i64) e1 (kb2.ldIs (off := 2) (n := 1) rfl) ?_)
    rw [if_pos (by simpa using hne)]
    refine hq 0 (.error (e1, q)) h2 hpow m ⟨hd2, a.out, a.src, a.cap, a.small, _, _, _, kb2, rfl, hne, rfl⟩ ?_
    have e2 : y = (e1, q) := by
     have : (Except.error y : Except (Int × Nat) (Int × Nat)) = .error (e1, q) := this
     exact Except.error.inj this
    rw [e2]
    exact Cn.stay
  | ok at_ =>
   obtain ⟨rfl, rfl, hat⟩ := hs
   have hdone := hc.done
   cases r1 with
   | ok at1 =>
    obtain ⟨rfl, rfl, hat1⟩ := hs1
    have hdone : zD k bs at_ = .ok ((n : Int), at1) := hdone
    rw [if_pos rfl, if_pos rfl] at kb2
    refine zad (ld_at (sh := shInt .i64) (3 : Int) (kb2.ldIs (off := 2) (n := 1) rfl) ?_)
    rw [if_pos (by simp)]
    refine hq 0 (.error (3, at_)) h2 hpow m ⟨hd2, a.out, a.src, a.cap, a.small, _, _, _, kb2, rfl, by decide, rfl⟩ (Cn.err ?_)
    unfold D.must
    rw [hdone]
    dsimp only
    have e3 : mostE most (n : Int) = 3 := by unfold mostE; rw [if_pos hmost]
    rw [if_neg (by rw [e3]; decide), e3]
   | error y1 =>
    obtain ⟨er, q⟩ := y1
    have hdone : zD k bs at_ = .error (er, q) := hdone
    obtain ⟨rfl, hne, rfl⟩ := hs1
    rw [if_neg hne, if_neg hne] at kb2
    refine zad (ld_at (sh := shInt .i64) e1 (kb2.ldIs (off := 2) (n := 1) rfl) ?_)
    rw [if_pos (by simpa using hne)]
    refine hq 0 (.error (e1, q)) h2 hpow m ⟨hd2, a.out, a.src, a.cap, a.small, _, _, _, kb2, rfl, hne, rfl⟩ (Cn.err ?_)
    unfold D.must
    rw [hdone]
 ·rw [if_neg (fun e => hmost (of_decide_eq_true e))]
  refine zad (ld_at (sh := shInt .i64) e1 (kb1.ldIs (off := 2) (n := 1) rfl) ?_)
  have hcm : Cn bs r (D.must (zD k) (mostE most)) r1 (n : Int) := by
   cases r with
   | error y =>
    have hdone := hc.done
    cases r1 with
    | ok at1 => cases hdone
    | error y1 =>
     have hdone : (Except.error y : Except (Int × Nat) (Int × Nat)) = .error y1 := hdone
     cases hdone
     exact Cn.stay
   | ok at_ =>
    have hdone := hc.done
    cases r1 with
    | ok at1 =>
     have hdone : zD k bs at_ = .ok ((n : Int), at1) := hdone
     refine Cn.ok ?_
     unfold D.must
     rw [hdone]
     dsimp only
     rw [if_pos (by unfold mostE; rw [if_neg hmost])]
    | error y1 =>
     have hdone : zD k bs at_ = .error y1 := hdone
     refine Cn.err ?_
     unfold D.must
     rw [hdone]
  cases r1 with
  | ok at1 =>
   obtain ⟨rfl, rfl, hat1⟩ := hs1
   rw [if_neg (by simp)]
   exact hq n _ h1 hn m1 a1 hcm
  | error y1 =>
   obtain ⟨er, q⟩ := y1
   have hne := hs1.2.1
   rw [← hs1.1] at hne
   rw [if_pos (by simpa using hne)]
   rw [hz ⟨_, rfl⟩] at hcm
   exact hq 0 _ h1 hpow m1 a1 hcm
end
end Lf

namespace Lf
open Go Go.Proofs
theorem forT {α : Type} {len : Int} {n : Nat} (hn : len = (n : Int)) (hb : n ≤ 4611686018427387904) (I : Nat → α → Hp → Prop) {B : (Int → α → Hp → Prop) → Int → α → Hp → Prop} {X : Int → α → Hp → Prop} {x0 : α} {h0 : Hp} (h00 : I 0 x0 h0)
  (hs : ∀ i : Nat, i < n → ∀ x h, I i x h → ∀ K : Int → α → Hp → Prop, (∀ x' h', I (i + 1) x' h' → K (IntKind.wrap .i64 ((i : Int) + 1)) x' h') → B K (i : Int) x h) (hx : ∀ x h, I n x h → X (n : Int) x h) :
  LoopW2 (fun again t x h => if decide (t < len) = true then B again t x h else X t x h) (0 : Int) x0 h0 := by
 refine LoopW2.intro (fun t x h => ∃ i : Nat, t = (i : Int) ∧ i ≤ n ∧ I i x h) (fun t _ _ => (len - t).toNat) ⟨0, rfl, by omega, h00⟩ ?_
 rintro t x h ⟨i, rfl, hi, hI⟩
 by_cases hlt : i < n
 ·rw [if_pos (decide_eq_true (by omega))]
  refine hs i hlt x h hI _ fun x' h' hI' => ?_
  rw [zao (by omega) (by omega)]
  exact ⟨⟨i + 1, by omega, by omega, hI'⟩, by omega⟩
 ·rw [if_neg (fun e => hlt (by have := of_decide_eq_true e; omega))]
  have : i = n := by omega
  subst this
  exact hx x h hI
theorem forA {α : Type} {len : Int} {n : Nat} (hn : len = (n : Int)) (hb : n ≤ 4611686018427387904) (I : Nat → α → Hp → Prop) {B : (α → Int → Hp → Prop) → α → Int → Hp → Prop} {X : α → Int → Hp → Prop} {x0 : α} {h0 : Hp} (h00 : I 0 x0 h0)
  (hs : ∀ i : Nat, i < n → ∀ x h, I i x h → ∀ K : α → Int → Hp → Prop, (∀ x' h', I (i + 1) x' h' → K x' (IntKind.wrap .i64 ((i : Int) + 1)) h') → B K x (i : Int) h) (hx : ∀ x h, I n x h → X x (n : Int) h) :
  LoopW2 (fun again x t h => if decide (t < len) = true then B again x t h else X x t h) x0 (0 : Int) h0 := by
 refine LoopW2.intro (fun x t h => ∃ i : Nat, t = (i : Int) ∧ i ≤ n ∧ I i x h) (fun _ t _ => (len - t).toNat) ⟨0, rfl, by omega, h00⟩ ?_
 rintro x t h ⟨i, rfl, hi, hI⟩
 by_cases hlt : i < n
 ·rw [if_pos (decide_eq_true (by omega))]
  refine hs i hlt x h hI _ fun x' h' hI' => ?_
  rw [zao (by omega) (by omega)]
  exact ⟨⟨i + 1, by omega, by omega, hI'⟩, by omega⟩
 ·rw [if_neg (fun e => hlt (by have := of_decide_eq_true e; omega))]
  have : i = n := by omega
  subst this
  exact hx x h hI
structure SB (d h0 : Hp) (rb : Nat) (bl : Sl) (bs : List UInt8) (x : S_api_Config) (k : Hp) (r : RS) (B : List Nat) : Prop where
 kr : h0 rb ≠ none
 keep : ∀ b o, h0 b = some o → b ≠ rb → k b = some o
 rd : SAt d k rb bl bs r x
 nd : B.Nodup
 fresh : ∀ b ∈ B, h0 b = none
section
variable {d h0 k : Hp} {rb : Nat} {bl : Sl} {bs : List UInt8} {r : RS} {x : S_api_Config} {B : List Nat}
theorem SB.init (a : SAt d k rb bl bs r x) : SB d k rb bl bs x k r [] := ⟨a.known, fun _ _ e _ => e, a, List.nodup_nil, fun b hb => by cases hb⟩
theorem SB.nr (s : SB d h0 rb bl bs x k r B) : rb ∉ B := fun h => s.kr (s.fresh rb h)
theorem SB.new_ (s : SB d h0 rb bl bs x k r B) {b : Nat} (e : k b = none) : h0 b = none := by
 cases h : h0 b with
 | none => rfl
 | some o =>
  have h1 : b ≠ rb := fun h => s.rd.known (h ▸ e)
  rw [s.keep b o h h1] at e
  cases e
theorem SB.andThen (s : SB d h0 rb bl bs x k r B) (hkn : ∀ b ∈ B, k b ≠ none) {k' : Hp} {r1 : RS} {x' : S_api_Config} {B' : List Nat} (t : SB d k rb bl bs x' k' r1 B') : SB d h0 rb bl bs x' k' r1 (B ++ B') where
 kr := s.kr
 keep := fun b o e h1 => t.keep b o (s.keep b o e h1) h1
 rd := t.rd
 nd := by
  rw [List.nodup_append]
  exact ⟨s.nd, t.nd, fun a ha b hb e => hkn a ha (by rw [e]; exact t.fresh b hb)⟩
 fresh := fun b hb => by
  rcases List.mem_append.1 hb with hb | hb
  ·exact s.fresh b hb
  ·exact s.new_ (t.fresh b hb)
theorem SB.kept (s : SB d h0 rb bl bs x k r B) (hkn : ∀ b ∈ B, k b ≠ none) {k' : Hp} {r1 : RS} {x' : S_api_Config} {B' : List Nat} (t : SB d k rb bl bs x' k' r1 B') : ∀ b ∈ B, k' b = k b := fun b hb => by
 cases e : k b with
 | none => exact absurd e (hkn b hb)
 | some o => exact t.keep b o e fun h => s.nr (h ▸ hb)
theorem SB.step {r1 : RS} {k' : Hp} (hkr : k rb ≠ none) (m : Mv [rb] k [rb] k') (a : SAt d k' rb bl bs r1 x) : SB d k rb bl bs x k' r1 [] :=
 ⟨hkr, fun b o e h1 => m.keep b o e fun h => h1 (List.mem_singleton.1 h), a, List.nodup_nil, fun b hb => by cases hb⟩
theorem SB.grow (s : SB d h0 rb bl bs x k r B) {k' : Hp} (hl : k ≤ k') : SB d h0 rb bl bs x k' r B :=
 ⟨s.kr, fun b o e h1 => hl b o (s.keep b o e h1), s.rd.grow hl, s.nd, s.fresh⟩
theorem zcb {k k' : Hp} (hl : k ≤ k') {B : List Nat} (hkn : ∀ b ∈ B, k b ≠ none) : ∀ b ∈ B, k' b = k b := fun b hb => by
 cases e : k b with
 | none => exact absurd e (hkn b hb)
 | some o => exact hl b o e
theorem SB.fin (s : SB d h0 rb bl bs x k r B) {k3 : Hp} {B3 : List Nat} (keep3 : ∀ b o, k b = some o → b ∉ B → k3 b = some o) (nd3 : B3.Nodup) (from3 : ∀ b ∈ B3, b ∈ B ∨ k b = none) (hd : ∀ b ∈ B, d b = none) : SB d h0 rb bl bs x k3 r B3 where
 kr := s.kr
 keep := fun b o e h1 => keep3 b o (s.keep b o e h1) fun hb => by rw [s.fresh b hb] at e; cases e
 rd := by
  obtain ⟨p, q, t, ⟨ty, kb⟩, hs⟩ := s.rd.blk
  exact ⟨fun b o e => keep3 b o (s.rd.le b o e) fun hb => (by rw [hd b hb] at e; cases e), s.rd.out, s.rd.src, s.rd.cap, s.rd.small, p, q, t, ⟨ty, keep3 rb _ kb s.nr⟩, hs⟩
 nd := nd3
 fresh := fun b hb => by
  rcases from3 b hb with hb | hb
  ·exact s.fresh b hb
  ·exact s.new_ hb
end
section
variable {d h : Hp} {rb : Nat} {bl : Sl} {bs : List UInt8} {r : RS} {x : S_api_Config}
theorem iD_eq : iD = D.map i64 (D.num 8) := rfl
set_option maxRecDepth 20000 in
theorem zdv2 {Q : S_api_Lane → Hp → Prop} (a : SAt d h rb bl bs r x)
  (hq : ∀ (v : S_api_Lane) (p : PLane) r1 B' h', SB d h rb bl bs x h' r1 B' → LaneO v p h' B' → Cn bs r (laneD x.Lane (x.Procs.len : Int)) r1 p → Q v h') : zjr Tryz.prog (some ⟨rb, 0, none⟩) Q h := by
 unfold zjr
 have hd : ∀ {B : List Nat}, (∀ b ∈ B, h b = none) → ∀ b ∈ B, d b = none := fun hB b hb => zbk a.le (hB b hb)
 refine zad (zad (ld_at (sh := shInt .i64) x.Lane (a.cfg (j := 3) (n := 1) rfl) ?_))
 refine zgn (zqg1 (k := 1) a (by omega) (by omega) fun n r1 h1 hn m1 a1 hc1 => ?_)
 have s1 : SB d h rb bl bs x h1 r1 [] := SB.step a.known m1 a1
 refine forT (n := n) rfl (by omega) (fun i (y : S_api_Lane) k => ∃ (vs : List Int) (r' : RS) (B : List Nat), vs.length = i ∧ y.Waiters = ⟨none, 0, 0⟩ ∧ SB d h rb bl bs x k r' B ∧ IsO y.Values vs k B ∧
  ∀ (β : Type) (f : List Int → D β), stepD r1 (D.bind (D.many (fun _ => iD) n []) f) bs = stepD r' (D.bind (D.many (fun _ => iD) (n - i) vs) f) bs) ⟨[], r1, [], rfl, rfl, s1, RowsO.nil, fun _ _ => rfl⟩ ?_ ?_
 ·rintro i hi y k ⟨vs, r', B, hvl, hy, s, o, hcn⟩ K hK
  have hkn := okIs.known o
  refine zad (zbb (zeo1 (k := 8) s.rd (by omega) (by omega) fun w r2 k2 hw m2 a2 hc2 _ => ?_))
  have t2 : SB d k rb bl bs x k2 r2 [] := SB.step s.rd.known m2 a2
  have s2 := s.andThen hkn t2
  rw [List.append_nil] at s2
  have o2 := okIs.same o (s.kept hkn t2)
  refine ⟨⟨trivial, trivial⟩, ?_⟩
  refine newF (xs := [i64 w]) (enc := fun x => zae ((shInt .i64).enc x)) (sz := 1) rfl (fun _ => rfl) fun b3 k3 _ hle3 _ o3 => ⟨⟨trivial, trivial⟩, ?_⟩
  have s3 := s2.grow hle3
  have oo := okIs.same o2 (zcb hle3 (okIs.known o2))
  refine zvh (PureO.ok _) oo (v := i64 w) (p := i64 w) (B' := []) ⟨rfl, rfl⟩ (by simpa using s3.nd) (o3.rw fun _ => rfl) (fun _ => rfl) (fun _ => rfl) rfl (by omega) fun l' k4 B4 o4 nd4 keep4 from4 => ?_
  refine hK _ k4 ⟨vs ++ [i64 w], r2, B4, by simp [hvl], hy, s3.fin keep4 nd4 (fun b hb => by simpa using from4 b hb) (hd s3.fresh), o4, fun β f => ?_⟩
  have e1 : n - i = (n - (i + 1)) + 1 := by omega
  rw [hcn, e1, zdg, zai, iD_eq, hc2.map]
 ·rintro y k ⟨vs, r', B, hvl, hy, s, o, hcn⟩
  have hkn := okIs.known o
  refine zad (zad (ld_at (sh := shSl) x.Procs (s.rd.cfg (j := 6) (n := 1) rfl) ?_))
  refine zgn (zqg1 (k := 1) s.rd (by omega) (by omega) fun n2 r2 k2 hn2 m2 a2 hc2 => ?_)
  have t2 : SB d k rb bl bs x k2 r2 [] := SB.step s.rd.known m2 a2
  have s2 := s.andThen hkn t2
  rw [List.append_nil] at s2
  have o2 := okIs.same o (s.kept hkn t2)
  have okW : AsOk (RowsO sh_api_Waiter 2 (PureO fun x p => zee x = p)) := RowsO.ok (PureO.ok _)
  refine forT (n := n2) rfl (by omega) (fun i (z : S_api_Lane) k => ∃ (ws : List zpk) (r' : RS) (B1 B2 : List Nat), ws.length = i ∧ SB d h rb bl bs x k r' (B1 ++ B2) ∧ IsO z.Values vs k B1 ∧ RowsO sh_api_Waiter 2 (PureO fun x p => zee x = p) z.Waiters ws k B2 ∧
   ∀ (β : Type) (f : List zpk → D β), stepD r2 (D.bind (D.many (fun _ => zzs) n2 []) f) bs = stepD r' (D.bind (D.many (fun _ => zzs) (n2 - i) ws) f) bs) ⟨[], r2, B, [], rfl, by simpa using s2, o2, by rw [hy]; exact RowsO.nil, fun _ _ => rfl⟩ ?_ ?_
  ·rintro i hi z k ⟨ws, r', B1, B2, hwl, s, o1, o2, hcn⟩ K hK
   have hkn : ∀ b ∈ B1 ++ B2, k b ≠ none := fun b hb => by
    rcases List.mem_append.1 hb with hb | hb
    ·exact okIs.known o1 b hb
    ·exact okW.known o2 b hb
   refine zad (zad (zaq (ziq (k := 1) s.rd (by omega) (by omega) fun u r3 k3 hu m3 a3 hc3 _ => ⟨⟨trivial, trivial⟩, ?_⟩)))
   refine zbb (zeo1 (k := 8) a3 (by omega) (by omega) fun w r4 k4 hw m4 a4 hc4 _ => ⟨⟨trivial, trivial⟩, ?_⟩)
   have t4 : SB d k rb bl bs x k4 r4 [] := SB.step s.rd.known (m3.trans m4) a4
   have s4 := s.andThen hkn t4
   rw [List.append_nil] at s4
   have hs4 := s.kept hkn t4
   refine newF (xs := [(⟨(u : Int), i64 w⟩ : S_api_Waiter)]) (enc := fun x => zae (sh_api_Waiter.enc x)) (sz := 2) rfl (fun _ => rfl) fun b5 k5 _ hle5 _ o5 => ⟨⟨trivial, trivial⟩, ?_⟩
   have s5 := s4.grow hle5
   have hs5 : ∀ b ∈ B1 ++ B2, k5 b = k b := fun b hb => by
    rw [← hs4 b hb]
    exact zcb hle5 (fun b hb => by rw [hs4 b hb]; exact hkn b hb) b hb
   have o1' := okIs.same o1 fun b hb => hs5 b (mem_a hb)
   have o2' := okW.same o2 fun b hb => hs5 b (mem_b hb)
   have nd := List.nodup_append.1 s5.nd
   refine zvh (PureO.ok _) o2' (v := ⟨(u : Int), i64 w⟩) (p := ⟨(u : Int), i64 w⟩) (B' := []) ⟨rfl, rfl⟩ (by simpa using nd.2.1) (o5.rw fun _ => rfl) (fun _ => rfl) (fun _ => rfl) rfl (by omega) fun l' k6 B6 o6 nd6 keep6 from6 => ?_
   have hB1 : ∀ b ∈ B1, k6 b = k5 b := fun b hb => by
    cases e : k5 b with
    | none => exact absurd e (okIs.known o1' b hb)
    | some o => exact keep6 b o e fun h => nd.2.2 b hb b h rfl
   refine hK _ k6 ⟨ws ++ [⟨(u : Int), i64 w⟩], r4, B1, B6, by simp [hwl], s5.fin (fun b o e hn => keep6 b o e fun h => hn (mem_b h)) ?_ (fun b hb => ?_) (hd s5.fresh), okIs.same o1' hB1, o6, fun β f => ?_⟩
   ·have := mid (P := B1) (M := B2) (S := []) (by simpa using s5.nd) nd6 from6 (by simpa using okIs.known o1') (fun b hb => by cases hb)
    simpa using this
   ·rcases List.mem_append.1 hb with hb | hb
    ·exact .inl (mem_a hb)
    ·rcases from6 b hb with hb | hb
     ·exact .inl (mem_b (by simpa using hb))
     ·exact .inr hb
   ·have e1 : n2 - i = (n2 - (i + 1)) + 1 := by omega
    rw [hcn, e1, zdg, zai]
    unfold zzs
    rw [zai, hc3, zai, iD_eq, hc4.map]
    rfl
  ·rintro z k ⟨ws, r', B1, B2, hwl, s, o1, o2, hcn2⟩
   have hkn : ∀ b ∈ B1 ++ B2, k b ≠ none := fun b hb => by
    rcases List.mem_append.1 hb with hb | hb
    ·exact okIs.known o1 b hb
    ·exact okW.known o2 b hb
   refine zad (zad (zaq (ziq (k := 2) s.rd (by omega) (by omega) fun u r3 k3 hu m3 a3 hc3 _ => ?_)))
   refine zaq (ziq (k := 2) a3 (by omega) (by omega) fun w r4 k4 hw m4 a4 hc4 _ => ?_)
   have t4 : SB d k rb bl bs x k4 r4 [] := SB.step s.rd.known (m3.trans m4) a4
   have s4 := s.andThen hkn t4
   rw [List.append_nil] at s4
   have hs4 := s.kept hkn t4
   refine hq _ ⟨vs, ws, (u : Int), (w : Int)⟩ r4 (B1 ++ B2) k4 s4 ⟨B1, B2, rfl, okIs.same o1 fun b hb => hs4 b (mem_a hb), okW.same o2 fun b hb => hs4 b (mem_b hb), rfl, rfl⟩ fun β f => ?_
   unfold laneD
   rw [zai, hc1, zai]
   have e1 := hcn β fun values => D.bind (D.bind (D.must (zD 1) (mostE (x.Procs.len : Int))) fun m => D.bind (D.many (fun _ => zzs) m.toNat []) fun waiters => D.bind (zD 2) fun taken => D.bind (zD 2) fun dropped => D.ret (⟨values, waiters, taken, dropped⟩ : PLane)) f
   rw [Nat.sub_self] at e1
   refine e1.trans ?_
   show stepD _ (D.bind (D.bind (D.must (zD 1) (mostE (x.Procs.len : Int))) _) f) bs = _
   rw [zai, hc2, zai]
   have e2 := hcn2 β fun waiters => D.bind (D.bind (zD 2) fun taken => D.bind (zD 2) fun dropped => D.ret (⟨vs, waiters, taken, dropped⟩ : PLane)) f
   rw [Nat.sub_self] at e2
   refine e2.trans ?_
   show stepD _ (D.bind (D.bind (zD 2) _) f) bs = _
   rw [zai, hc3, zai, hc4]
   rfl
end
end Lf

namespace Lf
open Go Go.Proofs
section
variable {d h0 k : Hp} {rb : Nat} {bl : Sl} {bs : List UInt8} {r : RS} {x : S_api_Config}
theorem zfz1 {β : Type} {sh : Shape} {sz : Nat} {R : sh.T → β → Hp → List Nat → Prop} {l : Sl} {ps : List β} {P M S B' : List Nat} (ok : AsOk R) (hd0 : d ≤ h0) (s : SB d h0 rb bl bs x k r ((P ++ (M ++ S)) ++ B')) (o : RowsO sh sz R l ps k M) {v : sh.T} {p : β} (e : R v p k B')
  (kp : ∀ b ∈ P ++ S, k b ≠ none) {y : Sl} (hx : Rs k sh sz y [v]) (henc : ∀ x, (zae (sh.enc x)).length = sz) (hok : ∀ x, zef (zae (sh.enc x)) = true) {zero : List Value} {bytes : Nat} (hz : zero.length = sz)
  (hb : ps.length + 1 ≤ 140737488355328 ∧ (ps.length + 1) * bytes ≤ 140737488355328) {K : Sl → Hp → Prop}
  (hk : ∀ l' k' M2, SB d h0 rb bl bs x k' r (P ++ (M2 ++ S)) → RowsO sh sz R l' (ps ++ [p]) k' M2 → (∀ b ∈ P ++ S, k' b = k b) → K l' k') : zas sz bytes zero l y K k := by
 have nd := List.nodup_append.1 s.nd
 have ndP := List.nodup_append.1 nd.1
 have ndM := List.nodup_append.1 ndP.2.1
 have hM : ∀ b ∈ P ++ S, b ∉ M := fun b hb hm => by
  rcases List.mem_append.1 hb with hb | hb
  ·exact ndP.2.2 b hb b (mem_a hm) rfl
  ·exact ndM.2.2 b hm b hb rfl
 have hB : ∀ b ∈ B', b ∉ P ++ (M ++ S) := fun b hb h => nd.2.2 b h b hb rfl
 refine zvh ok o e (by
  rw [List.nodup_append]
  exact ⟨ndM.1, nd.2.1, fun a ha b hb e => hB b hb (e ▸ mem_b (mem_a ha))⟩) hx henc hok hz hb fun l' k' M2 o2 nd2 keep2 from2 => ?_
 have hps : ∀ b ∈ P ++ S, k' b = k b := fun b hb => by
  cases e : k b with
  | none => exact absurd e (kp b hb)
  | some o => exact keep2 b o e (hM b hb)
 refine hk l' k' M2 (s.fin (fun b o e hn => keep2 b o e fun h => hn (mem_a (mem_b (mem_a h)))) (mid nd.1 nd2 from2 kp fun b hb h => hB b hb ?_) (fun b hb => ?_) (fun b hb => zbk hd0 (s.fresh b hb))) o2 hps
 ·rcases List.mem_append.1 h with h | h
  ·exact mem_a h
  ·exact mem_b (mem_b h)
 ·rcases List.mem_append.1 hb with hb | hb
  ·exact .inl (mem_a (mem_a hb))
  ·rcases List.mem_append.1 hb with hb | hb
   ·rcases from2 b hb with hb | hb
    ·rcases List.mem_append.1 hb with hb | hb
     ·exact .inl (mem_a (mem_b (mem_a hb)))
     ·exact .inl (mem_b hb)
    ·exact .inr hb
   ·exact .inl (mem_a (mem_b (mem_b hb)))
end
abbrev LogO (l : Sl) (es : List znx) (h : Hp) (B : List Nat) : Prop := RowsO sh_api_Entry 3 (PureO fun x p => znz x = p) l es h B
abbrev QsO (l : Sl) (qs : List (List Int)) (h : Hp) (B : List Nat) : Prop := RowsO shSl 1 IsO l qs h B
theorem okLog : AsOk LogO := RowsO.ok (PureO.ok _)
theorem okQs : AsOk QsO := RowsO.ok okIs
section
variable {d h : Hp} {rb : Nat} {bl : Sl} {bs : List UInt8} {r : RS} {x : S_api_Config}
theorem SB.next {h0 k : Hp} {B : List Nat} (s : SB d h0 rb bl bs x k r B) (hkn : ∀ b ∈ B, k b ≠ none) {k' : Hp} {r1 : RS} (m : Mv [rb] k [rb] k') (a : SAt d k' rb bl bs r1 x) : SB d h0 rb bl bs x k' r1 B ∧ ∀ b ∈ B, k' b = k b := by
 have t : SB d k rb bl bs x k' r1 [] := SB.step s.rd.known m a
 have s2 := s.andThen hkn t
 rw [List.append_nil] at s2
 exact ⟨s2, s.kept hkn t⟩
set_option maxRecDepth 20000 in
theorem zdw2 {Q : S_api_Part → Hp → Prop} (a : SAt d h rb bl bs r x) (hlk : 0 ≤ x.Locks ∧ x.Locks ≤ 1000)
  (hq : ∀ (v : S_api_Part) (p : PPart) r1 B' h', SB d h rb bl bs x h' r1 B' → PartO v p h' B' → Cn bs r (partD x.Log x.Locks (x.Procs.len : Int)) r1 p → Q v h') : zjm Tryz.prog (some ⟨rb, 0, none⟩) Q h := by
 unfold zjm
 refine zad (zaq (ziq (k := 1) a (by omega) (by omega) fun cur r1 h1 hcur m1 a1 hc1 _ => ?_))
 refine zad (zad (ld_at (sh := shInt .i64) x.Log (a1.cfg (j := 5) (n := 1) rfl) ?_))
 refine zgn (zqg1 (k := 2) a1 (by omega) (by omega) fun n r2 h2 hn m2 a2 hc2 => ?_)
 have s2 : SB d h rb bl bs x h2 r2 [] := SB.step a.known (m1.trans m2) a2
 refine forT (n := n) rfl (by omega) (fun i (y : S_api_Part) k => ∃ (es : List znx) (r' : RS) (B : List Nat), es.length = i ∧ (y.Cursor = (cur : Int) ∧ y.Owners = ⟨none, 0, 0⟩ ∧ y.Queues = ⟨none, 0, 0⟩) ∧ SB d h rb bl bs x k r' B ∧ LogO y.Log es k B ∧
  ∀ (β : Type) (f : List znx → D β), stepD r2 (D.bind (D.many (fun _ => zjg1) n []) f) bs = stepD r' (D.bind (D.many (fun _ => zjg1) (n - i) es) f) bs) ⟨[], r2, [], rfl, ⟨rfl, rfl, rfl⟩, s2, RowsO.nil, fun _ _ => rfl⟩ ?_ ?_
 ·rintro i hi y k ⟨es, r', B, hel, hy, s, o, hcn⟩ K hK
  have hkn := okLog.known o
  refine zad (zad (zad (zbb (zeo1 (k := 8) s.rd (by omega) (by omega) fun w1 r3 k3 hw1 m3 a3 hc3 _ => ⟨⟨trivial, trivial⟩, ?_⟩))))
  refine zaq (ziq (k := 1) a3 (by omega) (by omega) fun w2 r4 k4 hw2 m4 a4 hc4 _ => ⟨⟨trivial, trivial⟩, ?_⟩)
  refine zbb (zeo1 (k := 8) a4 (by omega) (by omega) fun w3 r5 k5 hw3 m5 a5 hc5 _ => ⟨⟨trivial, trivial⟩, ?_⟩)
  obtain ⟨s5, hs5⟩ := s.next hkn (m3.trans (m4.trans m5)) a5
  have o5 := okLog.same o hs5
  refine newF (xs := [(⟨i64 w1, (w2 : Int), i64 w3⟩ : S_api_Entry)]) (enc := fun x => zae (sh_api_Entry.enc x)) (sz := 3) rfl (fun _ => rfl) fun b6 k6 _ hle6 _ o6 => ⟨⟨trivial, trivial⟩, ?_⟩
  have s6 := s5.grow hle6
  have oo := okLog.same o5 (zcb hle6 (okLog.known o5))
  refine zfz1 (P := []) (S := []) (B' := []) (PureO.ok _) a.le (by simpa using s6) oo (v := ⟨i64 w1, (w2 : Int), i64 w3⟩) (p := ⟨i64 w1, (w2 : Int), i64 w3⟩) ⟨rfl, rfl⟩ (by simp) (o6.rw fun _ => rfl) (fun _ => rfl) (fun _ => rfl) rfl (by omega) fun l' k7 B7 s7 o7 _ => ?_
  refine hK _ k7 ⟨es ++ [⟨i64 w1, (w2 : Int), i64 w3⟩], r5, B7, by simp [hel], hy, by simpa using s7, o7, fun β f => ?_⟩
  have e1 : n - i = (n - (i + 1)) + 1 := by omega
  rw [hcn, e1, zdg, zai]
  unfold zjg1
  rw [zai, iD_eq, hc3.map, zai, hc4, zai, hc5.map]
  rfl
 ·rintro y k ⟨es, r', B, hel, ⟨hy1, hy2, hy3⟩, s, o, hcn⟩
  have hkn := okLog.known o
  refine zad (zad (zaq (ziq (k := 2) s.rd (by omega) (by omega) fun lost r3 k3 hlost m3 a3 hc3 _ => ?_)))
  refine zaq (ziq (k := 2) a3 (by omega) (by omega) fun forb r4 k4 hforb m4 a4 hc4 _ => ?_)
  obtain ⟨s4, hs4⟩ := s.next hkn (m3.trans m4) a4
  have o4 := okLog.same o hs4
  refine zad (ld_at (sh := shInt .i64) x.Locks (s4.rd.cfg (j := 4) (n := 1) rfl) ?_)
  have hI0 : SB d h rb bl bs x k4 r4 (B ++ ([] ++ [])) := by simpa using s4
  -- the locks
  have hloop : ∀ (N : Nat), (0 ≤ x.Locks → x.Locks = (N : Int)) → (x.Locks < 0 → N = 0) → N ≤ 1000 →
    LoopW2 (α1 := Int) (α2 := S_api_Part) (fun again1 t55 x3 h6 =>
     (if (decide (t55 < (N : Int))) = true then
     NilW none (some ⟨rb, 0, none⟩) fun p6 =>
     CallT Tryz.prog zan [(.pointer (some (Addr.add p6 0))), (.int .i64 (1 : Int))] (shInt .i64) (fun r5 h7 =>
     ((True ∧ True) ∧ NewW [(.int .i64 (IntKind.wrap .i64 (r5 - (1 : Int))))] (fun a h8 =>
     ((True ∧ True) ∧ zas 1 8 [(.int .i64 (0 : Int))] ⟨x3.Owners.base, x3.Owners.len, x3.Owners.cap⟩ ⟨(some a), 1, 1⟩ (fun r6 h9 =>
     NilW none (some ⟨rb, 0, none⟩) fun p7 =>
     NilW none (some ⟨rb, 0, none⟩) fun p8 =>
     LdW none shSl h9 (Addr.add (Addr.add p8 4) 6) fun x4 =>
     CallT Tryz.prog zcu [(.pointer (some (Addr.add p7 0))), (.int .i64 (1 : Int)), (.int .i64 ((x4.len : Nat) : Int))] (shInt .i64) (fun r7 h10 =>
     LoopW2 (α1 := Sl) (α2 := Int) (fun again2 q t77 h11 =>
     (if (decide (t77 < r7)) = true then
     NilW none (some ⟨rb, 0, none⟩) fun p9 =>
     CallT Tryz.prog zan [(.pointer (some (Addr.add p9 0))), (.int .i64 (1 : Int))] (shInt .i64) (fun r8 h12 =>
     NewW [(.int .i64 r8)] (fun a1 h13 =>
     zas 1 8 [(.int .i64 (0 : Int))] ⟨q.base, q.len, q.cap⟩ ⟨(some a1), 1, 1⟩ (fun r9 h14 =>
     again2 r9 (IntKind.wrap .i64 (t77 + (1 : Int))) h14) h13) h12) h11
     else
     NewW [q.v] (fun a1 h12 =>
     zas 1 24 [(.slice none 0 0)] ⟨x3.Queues.base, x3.Queues.len, x3.Queues.cap⟩ ⟨(some a1), 1, 1⟩ (fun r8 h13 =>
     again1 (IntKind.wrap .i64 (t55 + (1 : Int))) ⟨x3.Cursor, x3.Log, x3.Lost, x3.Forbidden, r6, r8⟩ h13) h12) h11)) ⟨none, 0, 0⟩ (0 : Int) h10) h9) h8)) h7)) h6
     else
     Q x3 h6)) (0 : Int) ⟨y.Cursor, y.Log, (lost : Int), (forb : Int), y.Owners, y.Queues⟩ k4 := by
   intro N hN1 hN2 hN3
   have hNt : x.Locks.toNat = N := by
    by_cases h0 : 0 ≤ x.Locks
    ·have := hN1 h0; omega
    ·have := hN2 (by omega); omega
   refine forT (n := N) rfl (by omega) (fun i (z : S_api_Part) k => ∃ (zs : List (Int × List Int)) (r' : RS) (B1 B2 B3 : List Nat), zs.length = i ∧ (z.Cursor = (cur : Int) ∧ z.Lost = (lost : Int) ∧ z.Forbidden = (forb : Int)) ∧ SB d h rb bl bs x k r' (B1 ++ (B2 ++ B3)) ∧
     LogO z.Log es k B1 ∧ IsO z.Owners (zs.map Prod.fst) k B2 ∧ QsO z.Queues (zs.map Prod.snd) k B3 ∧
     ∀ (β : Type) (f : List (Int × List Int) → D β), stepD r4 (D.bind (D.many (fun _ => lockD (x.Procs.len : Int)) N []) f) bs = stepD r' (D.bind (D.many (fun _ => lockD (x.Procs.len : Int)) (N - i) zs) f) bs)
    ⟨[], r4, B, [], [], rfl, ⟨hy1, rfl, rfl⟩, hI0, o4, by rw [hy2]; exact RowsO.nil, by rw [hy3]; exact RowsO.nil, fun _ _ => rfl⟩ ?_ ?_
   ·rintro i hi z k ⟨zs, r', B1, B2, B3, hzl, hz, s, o1, o2, o3, hcn⟩ K hK
    have hkn : ∀ b ∈ B1 ++ (B2 ++ B3), k b ≠ none := fun b hb => by
     rcases List.mem_append.1 hb with hb | hb
     ·exact okLog.known o1 b hb
     ·rcases List.mem_append.1 hb with hb | hb
      ·exact okIs.known o2 b hb
      ·exact okQs.known o3 b hb
    refine zad (zaq (ziq (k := 1) s.rd (by omega) (by omega) fun u r5 k5 hu m5 a5 hc5 _ => ⟨⟨trivial, trivial⟩, ?_⟩))
    obtain ⟨s5, hs5⟩ := s.next hkn m5 a5
    rw [zao (by omega) (by omega)]
    refine newF (xs := [(u : Int) - 1]) (enc := fun x => zae ((shInt .i64).enc x)) (sz := 1) rfl (fun _ => rfl) fun b6 k6 _ hle6 _ o6 => ⟨⟨trivial, trivial⟩, ?_⟩
    have s6 := s5.grow hle6
    have hs6 : ∀ b ∈ B1 ++ (B2 ++ B3), k6 b = k b := fun b hb => by
     rw [← hs5 b hb]
     exact zcb hle6 (fun b hb => by rw [hs5 b hb]; exact hkn b hb) b hb
    have p1 := okLog.same o1 fun b hb => hs6 b (mem_a hb)
    have p2 := okIs.same o2 fun b hb => hs6 b (mem_b (mem_a hb))
    have p3 := okQs.same o3 fun b hb => hs6 b (mem_b (mem_b hb))
    have kn6 : ∀ b ∈ B1 ++ B3, k6 b ≠ none := fun b hb => by
     rcases List.mem_append.1 hb with hb | hb
     ·exact okLog.known p1 b hb
     ·exact okQs.known p3 b hb
    refine zfz1 (P := B1) (M := B2) (S := B3) (B' := []) (PureO.ok _) a.le (by simpa using s6) p2 (v := (u : Int) - 1) (p := (u : Int) - 1) ⟨rfl, rfl⟩ kn6 (o6.rw fun _ => rfl) (fun _ => rfl) (fun _ => rfl) rfl (by simp; omega) fun l7 k7 M7 s7 o7 hs7 => ?_
    have q1 := okLog.same p1 fun b hb => hs7 b (mem_a hb)
    have q3 := okQs.same p3 fun b hb => hs7 b (mem_b hb)
    refine zad (zad (ld_at (sh := shSl) x.Procs (s7.rd.cfg (j := 6) (n := 1) rfl) ?_))
    have kn7 : ∀ b ∈ B1 ++ (M7 ++ B3), k7 b ≠ none := fun b hb => by
     rcases List.mem_append.1 hb with hb | hb
     ·exact okLog.known q1 b hb
     ·rcases List.mem_append.1 hb with hb | hb
      ·exact okIs.known o7 b hb
      ·exact okQs.known q3 b hb
    refine zgn (zqg1 (k := 1) s7.rd (by omega) (by omega) fun nq r8 k8 hnq m8 a8 hc8 => ?_)
    obtain ⟨s8, hs8⟩ := s7.next kn7 m8 a8
    refine forA (n := nq) rfl (by omega) (fun j (q : Sl) kk => ∃ (vs : List Int) (r9 : RS) (B4 : List Nat), vs.length = j ∧ SB d h rb bl bs x kk r9 ((B1 ++ (M7 ++ B3)) ++ B4) ∧ (∀ b ∈ B1 ++ (M7 ++ B3), kk b = k7 b) ∧ IsO q vs kk B4 ∧
      ∀ (β : Type) (f : List Int → D β), stepD r8 (D.bind (D.many (fun _ => zD 1) nq []) f) bs = stepD r9 (D.bind (D.many (fun _ => zD 1) (nq - j) vs) f) bs) ⟨[], r8, [], rfl, by simpa using s8, hs8, RowsO.nil, fun _ _ => rfl⟩ ?_ ?_
    ·rintro j hj q kk ⟨vs, r9, B4, hvl, s9, hs9, o9, hcn9⟩ K9 hK9
     have kn9 : ∀ b ∈ (B1 ++ (M7 ++ B3)) ++ B4, kk b ≠ none := fun b hb => by
      rcases List.mem_append.1 hb with hb | hb
      ·rw [hs9 b hb]; exact kn7 b hb
      ·exact okIs.known o9 b hb
     refine zad (zaq (ziq (k := 1) s9.rd (by omega) (by omega) fun w r10 k10 hw m10 a10 hc10 _ => ?_))
     obtain ⟨s10, hs10⟩ := s9.next kn9 m10 a10
     refine newF (xs := [(w : Int)]) (enc := fun x => zae ((shInt .i64).enc x)) (sz := 1) rfl (fun _ => rfl) fun b11 k11 _ hle11 _ o11 => ?_
     have s11 := s10.grow hle11
     have hs11 : ∀ b ∈ (B1 ++ (M7 ++ B3)) ++ B4, k11 b = kk b := fun b hb => by
      rw [← hs10 b hb]
      exact zcb hle11 (fun b hb => by rw [hs10 b hb]; exact kn9 b hb) b hb
     have o11' := okIs.same o9 fun b hb => hs11 b (mem_b hb)
     refine zfz1 (P := B1 ++ (M7 ++ B3)) (M := B4) (S := []) (B' := []) (PureO.ok _) a.le (by simpa using s11) o11' (v := (w : Int)) (p := (w : Int)) ⟨rfl, rfl⟩ (fun b hb => by
      rw [List.append_nil] at hb
      rw [hs11 b (mem_a hb)]
      exact kn9 b (mem_a hb)) (o11.rw fun _ => rfl) (fun _ => rfl) (fun _ => rfl) rfl (by omega) fun l12 k12 M12 s12 o12 hs12 => ?_
     refine hK9 l12 k12 ⟨vs ++ [(w : Int)], r10, M12, by simp [hvl], by simpa using s12, fun b hb => ?_, o12, fun β f => ?_⟩
     ·rw [hs12 b (by rw [List.append_nil]; exact hb), hs11 b (mem_a hb), hs9 b hb]
     ·have e1 : nq - j = (nq - (j + 1)) + 1 := by omega
      rw [hcn9, e1, zdg, zai, hc10]
    ·rintro q kk ⟨vs, r9, B4, hvl, s9, hs9, o9, hcn9⟩
     have kn9 : ∀ b ∈ (B1 ++ (M7 ++ B3)) ++ B4, kk b ≠ none := fun b hb => by
      rcases List.mem_append.1 hb with hb | hb
      ·rw [hs9 b hb]; exact kn7 b hb
      ·exact okIs.known o9 b hb
     refine newF (xs := [q]) (enc := fun x => zae (shSl.enc x)) (sz := 1) rfl (fun _ => rfl) fun b11 k11 _ hle11 _ o11 => ?_
     have s11 := s9.grow hle11
     have hs11 : ∀ b ∈ (B1 ++ (M7 ++ B3)) ++ B4, k11 b = kk b := zcb hle11 kn9
     have f1 := okLog.same q1 fun b hb => (hs11 b (mem_a (mem_a hb))).trans (hs9 b (mem_a hb))
     have f2 := okIs.same o7 fun b hb => (hs11 b (mem_a (mem_b (mem_a hb)))).trans (hs9 b (mem_b (mem_a hb)))
     have f3 := okQs.same q3 fun b hb => (hs11 b (mem_a (mem_b (mem_b hb)))).trans (hs9 b (mem_b (mem_b hb)))
     have f4 := okIs.same o9 fun b hb => hs11 b (mem_b hb)
     refine zfz1 (P := B1 ++ M7) (M := B3) (S := []) (B' := B4) okIs a.le (by simpa [List.append_assoc] using s11) f3 (v := q) (p := vs) f4 (fun b hb => by
      rw [List.append_nil] at hb
      rcases List.mem_append.1 hb with hb | hb
      ·exact okLog.known f1 b hb
      ·exact okIs.known f2 b hb) (o11.rw fun _ => rfl) (fun _ => rfl) (fun _ => rfl) rfl (by simp; omega) fun l12 k12 M12 s12 o12 hs12 => ?_
     refine hK _ k12 ⟨zs ++ [((u : Int) - 1, vs)], r9, B1, M7, M12, by simp [hzl], hz, by simpa [List.append_assoc] using s12, okLog.same f1 fun b hb => hs12 b (by rw [List.append_nil]; exact mem_a hb), ?_, ?_, fun β f => ?_⟩
     ·rw [List.map_append]
      exact okIs.same f2 fun b hb => hs12 b (by rw [List.append_nil]; exact mem_b hb)
     ·rw [List.map_append]
      exact o12
     ·have e1 : N - i = (N - (i + 1)) + 1 := by omega
      rw [hcn, e1, zdg, zai]
      unfold lockD
      rw [zai, hc5.map, zai, hc8, zai]
      have e2 := hcn9 β fun q => D.bind (D.ret ((less (u : Int), q) : Int × List Int)) fun x_1 => D.bind (D.many (fun _ => lockD (x.Procs.len : Int)) (N - (i + 1)) (zs ++ [x_1])) f
      rw [Nat.sub_self] at e2
      exact e2
   ·rintro z k ⟨zs, r', B1, B2, B3, hzl, ⟨hz1, hz2, hz3⟩, s, o1, o2, o3, hcn5⟩
    refine hq z (zht1 (cur : Int) es (lost : Int) (forb : Int) zs) r' _ k s ⟨B1, B2, B3, rfl, o1, o2, o3, hz1, hz2, hz3⟩ fun β f => ?_
    unfold partD
    rw [zai, hc1, zai, hc2, zai]
    have e1 := hcn β fun log => D.bind (D.bind (zD 2) fun lost => D.bind (zD 2) fun forbidden => D.bind (D.many (fun _ => lockD (x.Procs.len : Int)) x.Locks.toNat []) fun l => D.ret (zht1 (cur : Int) log lost forbidden l)) f
    rw [Nat.sub_self] at e1
    refine e1.trans ?_
    show stepD _ (D.bind (D.bind (zD 2) _) f) bs = _
    rw [zai, hc3, zai, hc4, zai, hNt]
    have e2 := hcn5 β fun l => D.bind (D.ret (zht1 (cur : Int) es (lost : Int) (forb : Int) l)) f
    rw [Nat.sub_self] at e2
    exact e2
  have := hloop x.Locks.toNat (fun _ => by omega) (fun h => by omega) (by omega)
  rw [show ((x.Locks.toNat : Nat) : Int) = x.Locks by omega] at this
  exact this
end
end Lf

namespace Lf
open Go Go.Proofs
section
variable {d h h1 : Hp} {rb : Nat} {bl : Sl} {bs : List UInt8} {r r1 : RS} {x : S_api_Config}
theorem zsc1 {P : Program} {α : Type} {g : D α} {W : α → Int} {n : α} {e p : Int} (a1 : SAt d h1 rb bl bs r1 x) (hc : Cn bs r g r1 n) (hp : ∀ a, r = .ok a → p = (a : Int)) (hW : W n = e) (he : e ≠ 0) {Q : Hp → Prop}
  (hq : ∀ r2 h2, Mv [rb] h1 [rb] h2 → SAt d h2 rb bl bs r2 x → Cn bs r (D.must g W) r2 n → Q h2) : zgf P (some ⟨rb, 0, none⟩) e p Q h1 := by
 subst hW
 obtain ⟨p1, e1, pl1, kb1, hs1⟩ := a1.blk
 refine zvi kb1 fun h2 m2 kb2 => ?_
 have hd2 := (m2.le a1.le fun c hc => by rw [List.mem_singleton.1 hc]; exact a1.out).1
 have hdone := hc.done
 cases r with
 | error y =>
  cases r1 with
  | ok at1 => cases hdone
  | error y1 =>
   have hdone : (Except.error y : Except (Int × Nat) (α × Nat)) = .error y1 := hdone
   cases hdone
   obtain ⟨er, q⟩ := y
   obtain ⟨rfl, hne, rfl⟩ := hs1
   rw [if_neg hne, if_neg hne] at kb2
   exact hq (.error (e1, q)) h2 m2 ⟨hd2, a1.out, a1.src, a1.cap, a1.small, _, _, _, kb2, rfl, hne, rfl⟩ Cn.stay
 | ok at_ =>
  have hp := hp at_ rfl
  subst hp
  cases r1 with
  | ok at1 =>
   obtain ⟨rfl, rfl, hat1⟩ := hs1
   have hdone : g bs at_ = .ok (n, at1) := hdone
   rw [if_pos rfl, if_pos rfl] at kb2
   refine hq (.error (W n, at_)) h2 m2 ⟨hd2, a1.out, a1.src, a1.cap, a1.small, _, _, _, kb2, rfl, he, rfl⟩ (Cn.err ?_)
   unfold D.must
   rw [hdone]
   dsimp only
   rw [if_neg he]
  | error y1 =>
   obtain ⟨er, q⟩ := y1
   have hdone : g bs at_ = .error (er, q) := hdone
   obtain ⟨rfl, hne, rfl⟩ := hs1
   rw [if_neg hne, if_neg hne] at kb2
   refine hq (.error (e1, q)) h2 m2 ⟨hd2, a1.out, a1.src, a1.cap, a1.small, _, _, _, kb2, rfl, hne, rfl⟩ (Cn.err ?_)
   unfold D.must
   rw [hdone]
theorem zcq1 {α : Type} {g : D α} {W : α → Int} {n : α} (hc : Cn bs r g r1 n) (hW : W n = 0) : Cn bs r (D.must g W) r1 n := by
 have hdone := hc.done
 cases r with
 | error y =>
  cases r1 with
  | ok at1 => cases hdone
  | error y1 =>
   have hdone : (Except.error y : Except (Int × Nat) (α × Nat)) = .error y1 := hdone
   cases hdone
   exact Cn.stay
 | ok at_ =>
  cases r1 with
  | ok at1 =>
   have hdone : g bs at_ = .ok (n, at1) := hdone
   refine Cn.ok ?_
   unfold D.must
   rw [hdone]
   dsimp only
   rw [if_pos hW]
  | error y1 =>
   have hdone : g bs at_ = .error y1 := hdone
   refine Cn.err ?_
   unfold D.must
   rw [hdone]
end
def procL (v : S_api_Process) : List Value := zae (sh_api_Process.enc v)
def zoh1 (v : S_api_Process) : List Int := [v.Regs_0, v.Regs_1, v.Regs_2, v.Regs_3, v.Regs_4, v.Regs_5, v.Regs_6, v.Regs_7]
def zia1 (v : S_api_Process) (n : Nat) (w : Int) : S_api_Process := match n with
 | 0 => { v with Regs_0 := w }
 | 1 => { v with Regs_1 := w }
 | 2 => { v with Regs_2 := w }
 | 3 => { v with Regs_3 := w }
 | 4 => { v with Regs_4 := w }
 | 5 => { v with Regs_5 := w }
 | 6 => { v with Regs_6 := w }
 | _ => { v with Regs_7 := w }
theorem zly1 (v : S_api_Process) {n : Nat} (hn : n < 8) (w : Int) : zoh1 (zia1 v n w) = (zoh1 v).set n w := by
 match n, hn with
 | 0, _ => rfl
 | 1, _ => rfl
 | 2, _ => rfl
 | 3, _ => rfl
 | 4, _ => rfl
 | 5, _ => rfl
 | 6, _ => rfl
 | 7, _ => rfl
theorem zjl1 (v : S_api_Process) {n : Nat} (hn : n < 8) (w : Int) : procL (zia1 v n w) = (procL v).take (2 + n) ++ [.int .i64 w] ++ (procL v).drop (2 + n + 1) := by
 match n, hn with
 | 0, _ => rfl
 | 1, _ => rfl
 | 2, _ => rfl
 | 3, _ => rfl
 | 4, _ => rfl
 | 5, _ => rfl
 | 6, _ => rfl
 | 7, _ => rfl
theorem zlz1 (v : S_api_Process) {n : Nat} (hn : n < 8) (w : Int) : (zia1 v n w).State = v.State ∧ (zia1 v n w).PC = v.PC ∧ (zia1 v n w).Lanes = v.Lanes := by
 match n, hn with
 | 0, _ => exact ⟨rfl, rfl, rfl⟩
 | 1, _ => exact ⟨rfl, rfl, rfl⟩
 | 2, _ => exact ⟨rfl, rfl, rfl⟩
 | 3, _ => exact ⟨rfl, rfl, rfl⟩
 | 4, _ => exact ⟨rfl, rfl, rfl⟩
 | 5, _ => exact ⟨rfl, rfl, rfl⟩
 | 6, _ => exact ⟨rfl, rfl, rfl⟩
 | 7, _ => exact ⟨rfl, rfl, rfl⟩
theorem zbs2 (ws : List Int) {i : Nat} (hi : ws.length = i) (h8 : i < 8) (w : Int) : (ws ++ List.replicate (8 - i) 0).set i w = (ws ++ [w]) ++ List.replicate (8 - (i + 1)) 0 := by
 have e : 8 - i = (8 - (i + 1)) + 1 := by omega
 rw [e, List.replicate_succ, ← hi, List.set_append_right _ _ (Nat.le_refl _), Nat.sub_self, List.set_cons_zero]
 simp
abbrev zbt2 (l : Sl) (ps : List PLane) (h : Hp) (B : List Nat) : Prop := RowsO sh_api_Lane 4 LaneO l ps h B
theorem okLanes : AsOk zbt2 := RowsO.ok okLane
structure PSt (d h0 : Hp) (rb : Nat) (bl : Sl) (bs : List UInt8) (x : S_api_Config) (pb : Nat) (k : Hp) (r : RS) (v : S_api_Process) (ls : List PLane) (B : List Nat) : Prop where
 sb : SB d h0 rb bl bs x k r ([pb] ++ B)
 blk : Blk k pb (procL v)
 own : zbt2 v.Lanes ls k B
section
variable {d h0 k : Hp} {rb pb : Nat} {bl : Sl} {bs : List UInt8} {r : RS} {x : S_api_Config} {v : S_api_Process} {ls : List PLane} {B : List Nat}
theorem PSt.known (s : PSt d h0 rb bl bs x pb k r v ls B) : ∀ b ∈ [pb] ++ B, k b ≠ none := fun b hb => by
 rcases List.mem_append.1 hb with hb | hb
 ·rw [List.mem_singleton.1 hb]; exact s.blk.known
 ·exact okLanes.known s.own b hb
theorem PSt.pn (s : PSt d h0 rb bl bs x pb k r v ls B) : pb ∉ B := fun h => (List.nodup_append.1 s.sb.nd).2.2 pb (List.mem_singleton.2 rfl) pb h rfl
theorem PSt.next (s : PSt d h0 rb bl bs x pb k r v ls B) {k' : Hp} {r1 : RS} (m : Mv [rb] k [rb] k') (a : SAt d k' rb bl bs r1 x) : PSt d h0 rb bl bs x pb k' r1 v ls B := by
 obtain ⟨s2, hs⟩ := s.sb.next s.known m a
 exact ⟨s2, s.blk.mv m fun h => s.sb.nr (mem_a (by rw [List.mem_singleton.1 h]; exact List.mem_singleton.2 rfl)), okLanes.same s.own fun b hb => hs b (mem_b hb)⟩
theorem PSt.store (hd0 : d ≤ h0) (s : PSt d h0 rb bl bs x pb k r v ls B) {v' : S_api_Process} {off : Nat} {val : Value} (hoff : off < 15) (hl : v'.Lanes = v.Lanes) (hv : procL v' = (procL v).take off ++ [val] ++ (procL v).drop (off + 1)) {K : Hp → Prop}
  (hk : ∀ k', PSt d h0 rb bl bs x pb k' r v' ls B → K k') : StW k ⟨pb, off, none⟩ [val] K := by
 refine zfc s.blk (by show off + 1 ≤ 15; omega) fun k4 m4 hb4 => hk k4 ?_
 refine ⟨s.sb.fin (fun b o e hn => m4.keep b o e fun h => hn (mem_a h)) s.sb.nd (fun b hb => .inl hb) (fun b hb => zbk hd0 (s.sb.fresh b hb)), by rw [hv]; exact hb4, ?_⟩
 rw [hl]
 exact okLanes.same s.own (zpj m4 (okLanes.known s.own) fun b hb e => s.pn (by rw [← List.mem_singleton.1 e]; exact hb))
theorem PSt.grow (s : PSt d h0 rb bl bs x pb k r v ls B) {k' : Hp} (hl : k ≤ k') : PSt d h0 rb bl bs x pb k' r v ls B :=
 ⟨s.sb.grow hl, s.blk.le hl, okLanes.same s.own (zcb hl (okLanes.known s.own))⟩
end
section
variable {d h : Hp} {rb : Nat} {bl : Sl} {bs : List UInt8} {r : RS} {x : S_api_Config}
set_option maxRecDepth 20000 in
theorem zdx2 {Q : S_api_Process → Hp → Prop} (a : SAt d h rb bl bs r x) (hll : x.Labels.len ≤ 1000)
  (hq : ∀ (v : S_api_Process) (p : PProcess) r1 B' h', SB d h rb bl bs x h' r1 B' → ProcessO v p h' B' → Cn bs r (zco1 x.Labels.len x.Lane (x.Procs.len : Int)) r1 p → Q v h') : zjn Tryz.prog (some ⟨rb, 0, none⟩) Q h := by
 unfold zjn
 refine zad (zad (zaq (ziq (k := 1) a (by omega) (by omega) fun st r1 h1 hst m1 a1 hc1 _ => ?_)))
 refine zaq (ziq (k := 2) a1 (by omega) (by omega) fun pc r2 h2 hpc m2 a2 hc2 _ => ?_)
 have s2 : SB d h rb bl bs x h2 r2 [] := SB.step a.known (m1.trans m2) a2
 refine newB2 fun pb h3 hn3 hle3 hP3 => ?_
 have hP3 : Blk h3 pb (procL ⟨(st : Int), (pc : Int), 0, 0, 0, 0, 0, 0, 0, 0, 0, 0, false, 0, ⟨none, 0, 0⟩⟩) := hP3
 have p3 : PSt d h rb bl bs x pb h3 r2 ⟨(st : Int), (pc : Int), 0, 0, 0, 0, 0, 0, 0, 0, 0, 0, false, 0, ⟨none, 0, 0⟩⟩ [] [] := by
  have s3 := s2.grow hle3
  exact ⟨⟨s3.kr, s3.keep, s3.rd, by simp, fun b hb => by
   rw [List.append_nil] at hb
   rw [List.mem_singleton.1 hb]
   exact s2.new_ hn3⟩, hP3, RowsO.nil⟩
 refine forI (n := 8) rfl (by omega) (fun i k => ∃ (ws : List Int) (r' : RS) (v : S_api_Process), ws.length = i ∧ (v.State = (st : Int) ∧ v.PC = (pc : Int) ∧ v.Lanes = ⟨none, 0, 0⟩) ∧ zoh1 v = ws ++ List.replicate (8 - i) 0 ∧ PSt d h rb bl bs x pb k r' v [] [] ∧
  ∀ (β : Type) (f : List Int → D β), stepD r2 (D.bind (D.many (fun _ => iD) 8 []) f) bs = stepD r' (D.bind (D.many (fun _ => iD) (8 - i) ws) f) bs) ⟨[], r2, _, rfl, ⟨rfl, rfl, rfl⟩, rfl, p3, fun _ _ => rfl⟩ ?_ ?_
 ·rintro i hi k ⟨ws, r', v, hwl, hv, hreg, s, hcn⟩ K hK
  refine zad (zbb (zeo1 (k := 8) s.sb.rd (by omega) (by omega) fun w r4 k4 hw m4 a4 hc4 _ => ⟨⟨by omega, by omega⟩, ?_⟩))
  have s4 := s.next m4 a4
  have haddr : (Addr.add (Addr.add ⟨pb, 0, none⟩ 2) ((Int.toNat (i : Int)) * 1)) = ⟨pb, 2 + i, none⟩ := by
   rw [Nat.mul_one, show Int.toNat (i : Int) = i from rfl, zez, zez, Nat.zero_add]
  rw [haddr]
  obtain ⟨e1, e2, e3⟩ := zlz1 v hi (i64 w)
  refine s4.store a.le (v' := zia1 v i (i64 w)) (off := 2 + i) (by omega) e3 (zjl1 v hi _) fun k5 s5 => hK k5 ⟨ws ++ [i64 w], r4, zia1 v i (i64 w), by simp [hwl], ⟨e1.trans hv.1, e2.trans hv.2.1, e3.trans hv.2.2⟩, ?_, s5, fun β f => ?_⟩
  ·rw [zly1 v hi, hreg, zbs2 ws hwl hi]
  ·have e1 : 8 - i = (8 - (i + 1)) + 1 := by omega
   rw [hcn, e1, zdg, zai, iD_eq, hc4.map]
 ·rintro k ⟨ws, r', v, hwl, ⟨hv1, hv2, hv3⟩, hreg, s, hcn⟩
  have hreg : zoh1 v = ws := by rw [hreg]; simp
  refine zad (zaq (ziq (k := 1) s.sb.rd (by omega) (by omega) fun cur r4 k4 hcur m4 a4 hc4 _ => ?_))
  refine (s.next m4 a4).store a.le (v' := { v with Cursor := (cur : Int) }) (off := 10) (by omega) rfl rfl fun k5 s5 => ?_
  refine zad (zbb (zeo1 (k := 8) s5.sb.rd (by omega) (by omega) fun tim r6 k6 htim m6 a6 hc6 _ => ?_))
  refine (s5.next m6 a6).store a.le (v' := { v with Cursor := (cur : Int), Timer := i64 tim }) (off := 11) (by omega) rfl rfl fun k7 s7 => ?_
  obtain ⟨p7, e7, pl7, kb7, hs7⟩ := s7.sb.rd.blk
  refine zad (ld_at (sh := shInt .i64) p7 (kb7.ldIs (off := 1) (n := 1) rfl) ?_)
  refine zad (zaq (ziq (k := 1) s7.sb.rd (by omega) (by omega) fun fi r8 k8 hfi m8 a8 hc8 _ => ?_))
  have s8 := s7.next m8 a8
  refine JoinW0.intro (fun kk => ∃ r9, PSt d h rb bl bs x pb kk r9 { v with Cursor := (cur : Int), Timer := i64 tim } [] [] ∧ Cn bs r6 (D.must (zD 1) yesE) r9 (fi : Int)) ?_ ?_
  ·have hp7 : ∀ aa, r6 = .ok aa → p7 = (aa : Int) := fun aa e => by rw [e] at hs7; exact hs7.1
   by_cases h1 : (1 : Int) < (fi : Int)
   ·rw [if_pos (decide_eq_true h1)]
    refine zad (zbh (zsc1 (W := yesE) (n := (fi : Int)) s8.sb.rd hc8 hp7 (by unfold yesE; rw [if_pos h1]) (by decide) fun r9 k9 m9 a9 hc9 => ⟨r9, s8.next m9 a9, hc9⟩))
   ·rw [if_neg (fun e => h1 (of_decide_eq_true e))]
    exact ⟨r8, s8, zcq1 hc8 (by unfold yesE; rw [if_neg h1])⟩
  rintro k9 ⟨r9, s9, hc9⟩
  refine s9.store a.le (v' := { v with Cursor := (cur : Int), Timer := i64 tim, Fired := ((fi : Int) == (1 : Int)) }) (off := 12) (by omega) rfl rfl fun k10 s10 => ?_
  refine zad (zbb (zeo1 (k := 8) s10.sb.rd (by omega) (by omega) fun wak r11 k11 hwak m11 a11 hc11 _ => ?_))
  refine (s10.next m11 a11).store a.le (v' := { v with Cursor := (cur : Int), Timer := i64 tim, Fired := ((fi : Int) == (1 : Int)), Wake := i64 wak }) (off := 13) (by omega) rfl rfl fun k12 s12 => ?_
  refine zad (ld_at (sh := shSl) x.Labels (s12.sb.rd.cfg (j := 0) (n := 1) rfl) ?_)
  have hvL : v = { v with Lanes := ⟨none, 0, 0⟩ } := by cases v; simp only at hv3; rw [hv3]
  rw [zao (by omega) (by omega)]
  refine forI (n := x.Labels.len + 1) (by push_cast; rfl) (by omega) (fun i kk => ∃ (ps : List PLane) (r' : RS) (l : Sl) (B : List Nat), ps.length = i ∧ PSt d h rb bl bs x pb kk r' { v with Cursor := (cur : Int), Timer := i64 tim, Fired := ((fi : Int) == (1 : Int)), Wake := i64 wak, Lanes := l } ps B ∧
    ∀ (β : Type) (f : List PLane → D β), stepD r11 (D.bind (D.many (fun _ => laneD x.Lane (x.Procs.len : Int)) (x.Labels.len + 1) []) f) bs = stepD r' (D.bind (D.many (fun _ => laneD x.Lane (x.Procs.len : Int)) (x.Labels.len + 1 - i) ps) f) bs)
   ⟨[], r11, ⟨none, 0, 0⟩, [], rfl, by
    have := s12
    rw [show ({ v with Cursor := (cur : Int), Timer := i64 tim, Fired := ((fi : Int) == (1 : Int)), Wake := i64 wak } : S_api_Process) = { v with Cursor := (cur : Int), Timer := i64 tim, Fired := ((fi : Int) == (1 : Int)), Wake := i64 wak, Lanes := ⟨none, 0, 0⟩ } by rw [← hv3]] at this
    exact this, fun _ _ => rfl⟩ ?_ ?_
  ·rintro i hi kk ⟨ps, r', l, B, hpl, s13, hcn2⟩ K hK
   refine ld_at (sh := shSl) l (s13.blk.ldIs (off := 14) (n := 1) rfl) ?_
   refine zce1 (zdv2 s13.sb.rd fun y p r14 B' k14 t14 o14 hc14 => ?_)
   have s14 := s13.sb.andThen s13.known t14
   have hs14 := s13.sb.kept s13.known t14
   have hb14 : Blk k14 pb (procL { v with Cursor := (cur : Int), Timer := i64 tim, Fired := ((fi : Int) == (1 : Int)), Wake := i64 wak, Lanes := l }) := by
    obtain ⟨t, e⟩ := s13.blk
    exact ⟨t, by rw [hs14 pb (mem_a (List.mem_singleton.2 rfl))]; exact e⟩
   refine ⟨⟨hb14.ldIs (off := 14) (n := 1) rfl, trivial⟩, ?_⟩
   refine newF (xs := [y]) (enc := fun x => zae (sh_api_Lane.enc x)) (sz := 4) rfl (fun _ => rfl) fun b15 k15 _ hle15 _ o15 => ?_
   have hb15 := hb14.le hle15
   refine ⟨⟨hb15.ldIs (off := 14) (n := 1) rfl, trivial⟩, ?_⟩
   have s15 := s14.grow hle15
   have hs15 : ∀ b ∈ [pb] ++ B, k15 b = kk b := fun b hb => by
    rw [← hs14 b hb]
    exact zcb hle15 (fun b hb => by rw [hs14 b hb]; exact s13.known b hb) b hb
   have ow := okLanes.same s13.own fun b hb => hs15 b (mem_b hb)
   have oe := okLane.same o14 (zcb hle15 (okLane.known o14))
   refine zfz1 (P := [pb]) (M := B) (S := []) (B' := B') okLane a.le (by simpa using s15) ow (v := y) (p := p) oe (fun b hb => by
    rw [List.append_nil] at hb
    rw [hs15 b (mem_a hb)]
    exact s13.known b (mem_a hb)) (o15.rw fun _ => rfl) (fun _ => rfl) (fun _ => rfl) rfl (by omega) fun l16 k16 M16 s16 o16 hs16 => ?_
   rw [List.append_nil] at s16
   have hb16 : Blk k16 pb (procL { v with Cursor := (cur : Int), Timer := i64 tim, Fired := ((fi : Int) == (1 : Int)), Wake := i64 wak, Lanes := l }) := by
    obtain ⟨t, e⟩ := hb15
    exact ⟨t, by rw [hs16 pb (by simp)]; exact e⟩
   have hpM : pb ∉ M16 := fun h => (List.nodup_append.1 s16.nd).2.2 pb (List.mem_singleton.2 rfl) pb h rfl
   refine zfc (off := 14) hb16 (by show 14 + 1 ≤ 15; omega) fun k17 m17 hb17 => hK k17 ⟨ps ++ [p], r14, l16, M16, by simp [hpl], ⟨?_, hb17, ?_⟩, fun β f => ?_⟩
   ·exact s16.fin (fun b o e hn => m17.keep b o e fun h => hn (mem_a h)) s16.nd (fun b hb => .inl hb) (fun b hb => zbk a.le (s16.fresh b hb))
   ·exact okLanes.same o16 (zpj m17 (okLanes.known o16) fun b hb e => hpM (by have e : b = pb := List.mem_singleton.1 e; exact e ▸ hb))
   ·have e1 : x.Labels.len + 1 - i = (x.Labels.len + 1 - (i + 1)) + 1 := by omega
    rw [hcn2, e1, zdg, zai, hc14]
  ·rintro kk ⟨ps, r', l, B, hpl, s13, hcn2⟩
   refine ld_at (sh := sh_api_Process) { v with Cursor := (cur : Int), Timer := i64 tim, Fired := ((fi : Int) == (1 : Int)), Wake := i64 wak, Lanes := l } (s13.blk.ldIs (off := 0) (n := 15) rfl) ?_
   refine hq _ ⟨(st : Int), (pc : Int), ws, (cur : Int), i64 tim, isOne (fi : Int), i64 wak, ps⟩ r' B kk ⟨s13.sb.kr, s13.sb.keep, s13.sb.rd, (List.nodup_append.1 s13.sb.nd).2.1, fun b hb => s13.sb.fresh b (mem_b hb)⟩
    ⟨s13.own, hv1, hv2, hreg, rfl, rfl, ?_, rfl⟩ fun β f => ?_
   ·show ((fi : Int) == (1 : Int)) = isOne (fi : Int)
    unfold isOne
    rfl
   ·unfold zco1
    rw [zai, hc1, zai, hc2, zai]
    have e1 := hcn β fun regs => D.bind (D.bind (zD 1) fun cursor => D.bind iD fun timer => D.bind (D.map isOne (D.must (zD 1) yesE)) fun fired => D.bind iD fun wake => D.bind (D.many (fun _ => laneD x.Lane (x.Procs.len : Int)) (x.Labels.len + 1) []) fun lanes =>
     D.ret (⟨(st : Int), (pc : Int), regs, cursor, timer, fired, wake, lanes⟩ : PProcess)) f
    rw [Nat.sub_self] at e1
    refine e1.trans ?_
    show stepD _ (D.bind (D.bind (zD 1) _) f) bs = _
    rw [zai, hc4, zai, iD_eq, hc6.map, zai, hc9.map, zai, hc11.map, zai]
    have e2 := hcn2 β fun lanes => D.bind (D.ret (⟨(st : Int), (pc : Int), ws, (cur : Int), i64 tim, isOne (fi : Int), i64 wak, lanes⟩ : PProcess)) f
    rw [Nat.sub_self] at e2
    exact e2
end
end Lf

namespace Lf
open D (many must mustAt)
def Pl {α : Type} (d : D α) : Prop := ∀ bs at_, at_ ≤ bs.length → (∀ e, d bs at_ = .error e → e.2 ≤ bs.length) ∧ ∀ z, d bs at_ = .ok z → at_ ≤ z.2 ∧ z.2 ≤ bs.length
section
variable {α β : Type}
theorem zvj (x : α) : Pl (D.ret x) := fun bs at_ h => ⟨fun e he => (by cases he), fun z hz => by cases hz; exact ⟨Nat.le_refl _, h⟩⟩
theorem zwy1 (k : Nat) : Pl (D.num k) := fun bs at_ h => by
 unfold D.num
 by_cases hs : bs.length < at_ + k
 ·rw [if_pos hs]
  exact ⟨fun e he => by cases he; exact Nat.le_refl _, fun z hz => by cases hz⟩
 ·rw [if_neg hs]
  exact ⟨fun e he => (by cases he), fun z hz => by cases hz; exact ⟨Nat.le_add_right _ _, by omega⟩⟩
theorem zaw {d : D α} {f : α → D β} (h1 : Pl d) (h2 : ∀ x, Pl (f x)) : Pl (D.bind d f) := fun bs at_ h => by
 obtain ⟨p1, p2⟩ := h1 bs at_ h
 unfold D.bind
 cases hd : d bs at_ with
 | error e => exact ⟨fun e' he => by cases he; exact p1 _ hd, fun z hz => by cases hz⟩
 | ok z =>
  obtain ⟨x, a2⟩ := z
  obtain ⟨q1, q2⟩ := p2 _ hd
  obtain ⟨r1, r2⟩ := h2 x bs a2 q2
  exact ⟨fun e he => r1 e he, fun z hz => ⟨Nat.le_trans q1 (r2 z hz).1, (r2 z hz).2⟩⟩
theorem zwz1 {d : D α} (f : α → β) (h : Pl d) : Pl (D.map f d) := zaw h fun _ => zvj _
theorem zko {d : D α} (w : α → Int) (h : Pl d) : Pl (must d w) := fun bs at_ ha => by
 obtain ⟨p1, p2⟩ := h bs at_ ha
 unfold must
 cases hd : d bs at_ with
 | error e => exact ⟨fun e' he => by cases he; exact p1 _ hd, fun z hz => by cases hz⟩
 | ok z =>
  obtain ⟨x, a2⟩ := z
  dsimp only
  by_cases hw : w x = 0
  ·rw [if_pos hw]
   exact ⟨fun e he => (by cases he), fun z hz => by cases hz; exact p2 _ hd⟩
  ·rw [if_neg hw]
   exact ⟨fun e he => by cases he; exact ha, fun z hz => (by cases hz)⟩
theorem zbu2 {d : D α} {w : α → Int × Int} (h : Pl d) (hw : ∀ bs at_ x a2, at_ ≤ bs.length → d bs at_ = .ok (x, a2) → at_ + (w x).2.toNat ≤ a2) : Pl (mustAt d w) := fun bs at_ ha => by
 obtain ⟨p1, p2⟩ := h bs at_ ha
 unfold mustAt
 cases hd : d bs at_ with
 | error e => exact ⟨fun e' he => by cases he; exact p1 _ hd, fun z hz => by cases hz⟩
 | ok z =>
  obtain ⟨x, a2⟩ := z
  dsimp only
  by_cases hx : (w x).1 = 0
  ·rw [if_pos hx]
   exact ⟨fun e he => (by cases he), fun z hz => by cases hz; exact p2 _ hd⟩
  ·rw [if_neg hx]
   exact ⟨fun e he => by cases he; exact Nat.le_trans (hw bs at_ x a2 ha hd) (p2 _ hd).2, fun z hz => (by cases hz)⟩
theorem zoc {g : List α → D α} (h : ∀ l, Pl (g l)) : ∀ (n : Nat) (l : List α), Pl (many g n l)
 | 0, l => zvj l
 | n + 1, l => zaw (h l) fun x => zoc h n (l ++ [x])
end
theorem pl_z (k : Nat) : Pl (zD k) := zwz1 _ (zwy1 k)
theorem pl_i : Pl (D.map i64 (D.num 8)) := zwz1 _ (zwy1 8)
theorem zun1 : ∀ m : List UInt8, Pl (markD m)
 | [] => zvj ()
 | _ :: r => zaw (zko _ (zwy1 1)) fun _ => zun1 r
theorem zuo1 (x : PIns) (n locks : Int) : (zbo x n locks).2.toNat ≤ 4 := by
 unfold zbo
 repeat' split
 all_goals first | exact Nat.le_of_ble_eq_true rfl | decide
theorem zgj2 (n locks : Int) : Pl (insD n locks) := by
 refine zbu2 (zaw (pl_z 1) fun _ => zaw (pl_z 1) fun _ => zaw (pl_z 1) fun _ => zaw (pl_z 1) fun _ => zaw pl_i fun _ => zvj _) fun bs at_ x a2 ha hd => ?_
 have h1 := (law_ins.sound bs at_ x a2 hd ha).2.1
 have h2 := zuo1 x n locks
 simp [insB, zap] at h1
 omega
theorem zfr2 (parts locks : Int) : Pl (procD parts locks) :=
 zaw (zko _ (pl_z 1)) fun _ => zaw (zko _ (pl_z 2)) fun n => zaw (zoc (fun _ => zgj2 n locks) _ _) fun _ => zvj _
theorem zbv2 : Pl zqr :=
 zaw (zun1 _) fun _ => zaw (zko _ (pl_z 1)) fun nl => zaw (zoc (fun _ => zko _ (pl_z 8)) _ _) fun _ =>
 zaw (zko _ (pl_z 1)) fun nt => zaw (zoc (fun _ => zko _ (pl_z 1)) _ _) fun _ =>
 zaw (zko _ (pl_z 2)) fun _ => zaw (zko _ (pl_z 1)) fun _ => zaw (zko _ (pl_z 1)) fun locks => zaw (zko _ (pl_z 2)) fun _ =>
 zaw (zko _ (pl_z 1)) fun np => zaw (zoc (fun _ => zfr2 _ _) _ _) fun _ => zvj _
theorem zma1 {α : Type} {d : D α} (h : Pl d) {bs : List UInt8} {e : Int} {p : Nat} (hw : zfi d bs = .error (e, p)) : p ≤ bs.length := by
 unfold zfi at hw
 by_cases hl : 1048576 < bs.length
 ·rw [if_pos hl] at hw; cases hw; omega
 ·rw [if_neg hl] at hw
  obtain ⟨p1, p2⟩ := h bs 0 (Nat.zero_le _)
  cases hd : d bs 0 with
  | error e' => rw [hd] at hw; cases hw; exact p1 _ hd
  | ok z =>
   obtain ⟨x, a⟩ := z
   rw [hd] at hw
   dsimp only at hw
   by_cases ha : a < bs.length
   ·rw [if_pos ha] at hw; cases hw; omega
   ·rw [if_neg ha] at hw; cases hw
theorem zwi {bs : List UInt8} {e : Int} {p : Nat} (h : zed bs = .error (e, p)) : p ≤ bs.length := zma1 zbv2 h
theorem zgk2 : Pl zcl := fun bs at_ ha => by
 obtain ⟨p1, p2⟩ := zwy1 4 bs at_ ha
 unfold zcl
 cases hd : D.num 4 bs at_ with
 | error e => exact ⟨fun e' he => by cases he; exact p1 _ hd, fun z hz => by cases hz⟩
 | ok z =>
  obtain ⟨n, a2⟩ := z
  obtain ⟨q1, q2⟩ := p2 _ hd
  dsimp only at q1 q2 ⊢
  by_cases hs : bs.length < a2 + n
  ·rw [if_pos hs]
   exact ⟨fun e he => by cases he; exact Nat.le_refl _, fun z hz => (by cases hz)⟩
  ·rw [if_neg hs]
   cases hc : zed ((bs.drop a2).take n) with
   | error e =>
    obtain ⟨e, p⟩ := e
    have hp := zwi hc
    rw [List.length_take] at hp
    exact ⟨fun e' he => by cases he; show a2 + p ≤ bs.length; omega, fun z hz => (by cases hz)⟩
   | ok c => exact ⟨fun e he => (by cases he), fun z hz => by cases hz; exact ⟨by show at_ ≤ a2 + n; omega, by show a2 + n ≤ bs.length; omega⟩⟩
theorem zdy2 : Pl zjg1 := zaw pl_i fun _ => zaw (pl_z 1) fun _ => zaw pl_i fun _ => zvj _
theorem zbw2 : Pl zzs := zaw (pl_z 1) fun _ => zaw pl_i fun _ => zvj _
theorem zfs2 (lane np : Int) : Pl (laneD lane np) :=
 zaw (zko _ (pl_z 1)) fun _ => zaw (zoc (fun _ => pl_i) _ _) fun _ => zaw (zko _ (pl_z 1)) fun _ => zaw (zoc (fun _ => zbw2) _ _) fun _ => zaw (pl_z 2) fun _ => zaw (pl_z 2) fun _ => zvj _
theorem zft2 (np : Int) : Pl (lockD np) := zaw (zwz1 _ (pl_z 1)) fun _ => zaw (zko _ (pl_z 1)) fun _ => zaw (zoc (fun _ => pl_z 1) _ _) fun _ => zvj _
theorem zfu2 (most locks np : Int) : Pl (partD most locks np) :=
 zaw (pl_z 1) fun _ => zaw (zko _ (pl_z 2)) fun _ => zaw (zoc (fun _ => zdy2) _ _) fun _ => zaw (pl_z 2) fun _ => zaw (pl_z 2) fun _ => zaw (zoc (fun _ => zft2 np) _ _) fun _ => zvj _
theorem zdz2 (nl : Nat) (lane np : Int) : Pl (zco1 nl lane np) :=
 zaw (pl_z 1) fun _ => zaw (pl_z 2) fun _ => zaw (zoc (fun _ => pl_i) _ _) fun _ => zaw (pl_z 1) fun _ => zaw pl_i fun _ => zaw (zwz1 _ (zko _ (pl_z 1))) fun _ => zaw pl_i fun _ =>
 zaw (zoc (fun _ => zfs2 lane np) _ _) fun _ => zvj _
theorem zea2 (c : PCfg) : Pl (zlo1 c) := zaw pl_i fun _ => zaw (zoc (fun _ => zfu2 _ _ _) _ _) fun _ => zaw (zoc (fun _ => zdz2 _ _ _) _ _) fun _ => zvj _
theorem zfv2 : Pl snapD := zaw (zun1 _) fun _ => zaw zgk2 fun c => zaw (zea2 c) fun _ => zvj _
end Lf

namespace Lf
open Go Go.Proofs
def zkb : PCfg := ⟨[], [], 0, 0, 0, 0, []⟩
theorem cfg0_own {h : Hp} : CfgO cfg0 zkb h [] := ⟨[], [], [], rfl, RowsO.nil, RowsO.nil, RowsO.nil, rfl, rfl, rfl, rfl⟩
structure Few (c : PCfg) : Prop where
 nl : c.labels.length ≤ 8
 np : c.procs.length ≤ 32
 lane : c.lane ≤ 64
 locks : 0 ≤ c.locks ∧ c.locks ≤ 8
 log : c.log ≤ 4096
theorem zxa1 (m : Int) {c : PCfg} (hm : m = 0 ↔ LabOK c.labels) (h : CfgV c) : Few c := by
 obtain ⟨_, h2⟩ := (zhu1 hm).2 h
 obtain ⟨e1, _, _, _, _, e6, e7, e8, _, e10, _⟩ := cfgP_zero.1 h2
 exact ⟨(hm.1 e1).2.1, e10, e6.2, e7, e8.2⟩
theorem zvk (c : PCfg) : (mayP c.labels).1 = 0 ↔ LabOK c.labels := mayP_zero
section
variable {d h : Hp} {rb : Nat} {bl : Sl} {bs : List UInt8} {r : RS}
set_option maxRecDepth 20000 in
theorem zyj1 {Q : Hp → Prop} (a : SAt d h rb bl bs r cfg0)
  (hq : ∀ r1 x c B h', SB d h rb bl bs x h' r1 B → CfgO x c h' B → Few c → ((∃ n, r1 = .ok n) → CfgV c) → Cn bs r zcl r1 c → Q h') : zhd Tryz.prog (some ⟨rb, 0, none⟩) Q h := by
 unfold zhd
 have few0 : Few zkb := ⟨by simp [zkb], by simp [zkb], by simp [zkb], by simp [zkb], by simp [zkb]⟩
 have hlen : bl.len = bs.length := a.src.1
 have hsm := a.small
 refine zad (zaq (ziq (k := 4) a (by omega) (by omega) fun n r1 h1 hn m1 a1 hc1 _ => ?_))
 have s1 : SB d h rb bl bs cfg0 h1 r1 [] := SB.step a.known m1 a1
 obtain ⟨p, e, pl, kb, hs⟩ := a1.blk
 refine zad (ld_at (sh := shInt .i64) e (kb.ldIs (off := 2) (n := 1) rfl) ?_)
 -- an error stays
 have herr : ∀ e, r1 = .error e → Cn bs r zcl r1 zkb := fun e he => by
  subst he
  have hdone := hc1.done
  cases r with
  | error y =>
   have hdone : (Except.error y : Except (Int × Nat) (Int × Nat)) = .error e := hdone
   cases hdone
   exact Cn.stay
  | ok at_ =>
   have hdone : zD 4 bs at_ = .error e := hdone
   refine Cn.err ?_
   unfold zcl
   unfold zD D.map D.bind at hdone
   cases hx : D.num 4 bs at_ with
   | error e2 => rw [hx] at hdone; cases hdone; rfl
   | ok y => rw [hx] at hdone; cases hdone
 cases r1 with
 | error y =>
  obtain ⟨er, q⟩ := y
  rw [if_pos (by rw [bne_iff_ne, hs.1]; exact hs.2.1)]
  exact hq _ cfg0 zkb [] h1 s1 cfg0_own few0 (by rintro ⟨n, hn⟩; cases hn) (herr _ rfl)
 | ok at2 =>
  obtain ⟨rfl, rfl, hat⟩ := hs
  have hat : at2 ≤ bs.length := by omega
  rw [if_neg (by simp)]
  -- what was read
  obtain ⟨at_, rfl⟩ : ∃ at_, r = .ok at_ := by
   cases r with
   | ok at_ => exact ⟨at_, rfl⟩
   | error y => exact absurd hc1.done (by intro h; cases h)
  have hnum : D.num 4 bs at_ = .ok (n, at2) := by
   have hdone : zD 4 bs at_ = .ok ((n : Int), at2) := hc1.done
   unfold zD D.map D.bind at hdone
   cases hx : D.num 4 bs at_ with
   | error e2 => rw [hx] at hdone; cases hdone
   | ok y =>
    obtain ⟨y, a2⟩ := y
    rw [hx] at hdone
    have hdone : (Except.ok (toZ y, a2) : Except (Int × Nat) (Int × Nat)) = .ok ((n : Int), at2) := hdone
    have h1 := Except.ok.inj hdone
    have h2 : toZ y = (n : Int) := congrArg Prod.fst h1
    have h3 : a2 = at2 := congrArg Prod.snd h1
    unfold toZ at h2
    have : y = n := by omega
    rw [this, h3]
  refine zad (ld_at (sh := shSl) bl (kb.ldIs (off := 0) (n := 1) rfl) (zad (ld_at (sh := shInt .i64) (at2 : Int) (kb.ldIs (off := 1) (n := 1) rfl) ?_)))
  rw [zao (by omega) (by omega)]
  by_cases hsh : bs.length < at2 + n
  ·have hlt : ((bl.len : Nat) : Int) - (at2 : Int) < (n : Int) := by omega
   rw [if_pos (decide_eq_true hlt)]
   refine zad (zad (ld_at (sh := shSl) bl (kb.ldIs (off := 0) (n := 1) rfl) (zbh (zvi kb fun h2 m2 k2 => ?_))))
   rw [if_pos rfl, if_pos rfl] at k2
   have a2 : SAt d h2 rb bl bs (.error (5, bs.length)) cfg0 := ⟨(m2.le a1.le fun c hc => by rw [List.mem_singleton.1 hc]; exact a.out).1, a.out, a.src, a.cap, a.small, _, _, _, k2, rfl, by decide, by rw [hlen]⟩
   refine hq _ cfg0 zkb [] h2 (SB.step a.known (m1.trans m2) a2) cfg0_own few0 (by rintro ⟨n, hn⟩; cases hn) (Cn.err ?_)
   unfold zcl
   rw [hnum]
   dsimp only
   rw [if_pos hsh]
  ·have hlt : ¬ ((bl.len : Nat) : Int) - (at2 : Int) < (n : Int) := by omega
   rw [if_neg (fun e => hlt (of_decide_eq_true e))]
   refine zad (ld_at (sh := shSl) bl (kb.ldIs (off := 0) (n := 1) rfl) (zad (ld_at (sh := shInt .i64) (at2 : Int) (kb.ldIs (off := 1) (n := 1) rfl) (zad (ld_at (sh := shInt .i64) (at2 : Int) (kb.ldIs (off := 1) (n := 1) rfl) ?_)))))
   have hcap := a.cap
   rw [zao (by omega) (by omega)]
   have hnk : (at2 : Int) ≤ (at2 : Int) + (n : Int) := by omega
   refine ⟨⟨by omega, hnk, by omega⟩, letW ?_⟩
   have e1 : ((at2 : Int) + (n : Int)).toNat = at2 + n := by omega
   have e2 : ((at2 : Int)).toNat = at2 := rfl
   rw [e1, e2]
   have hcut := (Rw.mono a1.le a.src).cut (a := at2) (b := at2 + n) (c := bl.cap) (n := at2 + n - at2) (m := bl.cap - at2) zly (by omega) (by omega) (by omega) rfl
   have e3 : at2 + n - at2 = n := by omega
   rw [e3] at hcut ⊢
   refine zjt1 (zqf1 hcut (by show n ≤ bl.cap - at2; omega) (fun e p h2 hle2 hcfg hne => ?_) fun y c B h2 hle2 hcfg own nd fresh => ?_)
   ·have kb2 := kb.le hle2
    rw [if_pos (by simpa using hne)]
    refine zad (zad (ld_at (sh := shInt .i64) (at2 : Int) (kb2.ldIs (off := 1) (n := 1) rfl) ?_))
    refine zbh (zvi kb2 fun h3 m3 k3 => ?_)
    rw [if_pos rfl, if_pos rfl] at k3
    have hp := zwi hcfg
    rw [List.length_take, List.length_drop] at hp
    rw [zao (by omega) (by omega)] at k3
    have m := (m1.trans (Mv.of_le [rb] hle2)).trans m3
    have a3 : SAt d h3 rb bl bs (.error (e, at2 + p)) cfg0 := ⟨(m.le a.le fun c hc => by rw [List.mem_singleton.1 hc]; exact a.out).1, a.out, a.src, a.cap, a.small, _, _, _, k3, rfl, hne, by push_cast; rfl⟩
    refine hq _ cfg0 zkb [] h3 (SB.step a.known m a3) cfg0_own few0 (by rintro ⟨n, hn⟩; cases hn) (Cn.err ?_)
    unfold zcl
    rw [hnum]
    dsimp only
    rw [if_neg hsh, hcfg]
   ·have kb2 := kb.le hle2
    rw [if_neg (by simp)]
    refine zad (zfc (b := rb) (off := 4) kb2 (by simp [zbz, cfgL, zae]) fun h3 m3 k3 => ?_)
    have k3 : Blk h3 rb (zbz bl (at2 : Int) 0 pl ++ cfgL y) := by simpa [zbz, cfgL, zae, Sl.v] using k3
    refine zad (ld_at (sh := shInt .i64) (at2 : Int) (k3.ldIs (off := 1) (n := 1) rfl) (zad (zfc (b := rb) (off := 1) k3 (by simp [zbz]) fun h4 m4 k4 => ?_)))
    rw [zao (by omega) (by omega)] at k4
    have k4 : Blk h4 rb (zbz bl ((at2 : Int) + (n : Int)) 0 pl ++ cfgL y) := by simpa [zbz, cfgL, zae, Sl.v] using k4
    have m34 := m3.trans m4
    have m := (m1.trans (Mv.of_le [rb] hle2)).trans m34
    have hd4 := (m.le a.le fun c hc => by rw [List.mem_singleton.1 hc]; exact a.out).1
    have a4 : SAt d h4 rb bl bs (.ok (at2 + n)) y := ⟨hd4, a.out, a.src, a.cap, a.small, _, _, _, k4, by push_cast; rfl, rfl, by push_cast; omega⟩
    have hrB : rb ∉ B := fun hb => kb.known (fresh rb hb)
    have hv := (zpl zdd1 hcfg).1
    refine hq _ y c B h4 ⟨a.known, fun b o e1 h1 => m.keep b o e1 fun hb => h1 (List.mem_singleton.1 hb), a4, nd, fun b hb => s1.new_ (fresh b hb)⟩
     (okCfg.same own (zpj m34 (okCfg.known own) fun b hb e => hrB (by have e : b = rb := List.mem_singleton.1 e; exact e ▸ hb))) (zxa1 _ (zvk c) hv) (fun _ => hv) (Cn.ok ?_)
    unfold zcl
    rw [hnum]
    dsimp only
    rw [if_neg hsh, hcfg]
end
end Lf

namespace Lf
open Go Go.Proofs
abbrev zsd1 (l : Sl) (ps : List PPart) (h : Hp) (B : List Nat) : Prop := RowsO sh_api_Part 6 PartO l ps h B
abbrev zup1 (l : Sl) (ps : List PProcess) (h : Hp) (B : List Nat) : Prop := RowsO sh_api_Process 15 ProcessO l ps h B
theorem okParts : AsOk zsd1 := RowsO.ok okPart
theorem okProcss : AsOk zup1 := RowsO.ok okProcess
theorem zse1 {α : Type} {d : D α} {bs : List UInt8} {e : Int × Nat} (hl : bs.length ≤ 1048576) (h : stepD (.ok 0) d bs = .error e) : zfi d bs = .error e := by
 unfold zfi
 rw [if_neg (by omega)]
 have h : d bs 0 = .error e := h
 rw [h]
theorem zxb1 {α : Type} {d : D α} {bs : List UInt8} {c : α} {a : Nat} (hl : bs.length ≤ 1048576) (h : stepD (.ok 0) d bs = .ok (c, a)) : zfi d bs = if a < bs.length then .error (6, a) else .ok c := by
 unfold zfi
 rw [if_neg (by omega)]
 have h : d bs 0 = .ok (c, a) := h
 rw [h]
section
variable {d h : Hp} {rb : Nat} {bl : Sl} {bs : List UInt8}
def EndS (bs : List UInt8) (r : RS) (c : PCfg) (s : PState) : Prop := match r with
 | .error e => zfi snapD bs = .error e
 | .ok _ => zfi snapD bs = .ok (c, s) ∧ CfgV c
set_option maxRecDepth 20000 in
theorem zbx2 {Q : S_api_State → Hp → Prop} (a : SAt d h rb bl bs (.ok 0) cfg0) (hsm : bs.length ≤ 1048576)
  (hq : ∀ (v : S_api_State) (s : PState) (x : S_api_Config) (c : PCfg) r1 B1 B2 h', SB d h rb bl bs x h' r1 (B1 ++ B2) → CfgO x c h' B1 → StateO v s h' B2 → EndS bs r1 c s → Q v h') : zii Tryz.prog (some ⟨rb, 0, none⟩) Q h := by
 unfold zii
 refine forI (n := 5) rfl (by omega) (fun i k => ∃ r', SB d h rb bl bs cfg0 k r' [] ∧ ∀ (β : Type) (f : Unit → D β), stepD (.ok 0) (D.bind (markD [70, 66, 83, 78, 1]) f) bs = stepD r' (D.bind (markD (([70, 66, 83, 78, 1] : List UInt8).drop i)) f) bs) ⟨_, SB.init a, fun _ _ => rfl⟩ ?_ ?_
 ·rintro i hi k ⟨r', s, hcn⟩ K hK
  have hc : ([70, 66, 83, 78, 1] : List UInt8)[i]? = some (([70, 66, 83, 78, 1] : List UInt8)[i]'(by simpa using hi)) := List.getElem?_eq_getElem (by simpa using hi)
  generalize ([70, 66, 83, 78, 1] : List UInt8)[i]'(by simpa using hi) = c at hc
  have hgd : List.getD [70, 66, 83, 78, 1] (Int.toNat (i : Int)) (0 : UInt8) = c := by
   rw [List.getD_eq_getElem?_getD, show (Int.toNat (i : Int)) = i from rfl, hc]; rfl
  refine JoinW0.intro (fun k2 => ∃ r2 n, SB d h rb bl bs cfg0 k2 r2 [] ∧ Cn bs r' (D.must (D.num 1) fun n => if n = c.toNat then 0 else 4) r2 n) ?_ ?_
  ·obtain ⟨p, e, pl, kb, hs⟩ := s.rd.blk
   refine zad (ld_at (sh := shInt .i64) p (kb.ldIs (off := 1) (n := 1) rfl) (zad (zbb (zeo1 (k := 1) s.rd (by omega) (by omega) fun n r2 k2 hn m2 a2 hc2 _ => ⟨⟨by omega, by omega⟩, ?_⟩))))
   have hp : ∀ aa, r' = .ok aa → p = (aa : Int) := fun aa e => by rw [e] at hs; exact hs.1
   have s2 := (s.next (fun b hb => by cases hb) m2 a2).1
   have hn : n < 256 := by simpa using hn
   rw [hgd, zsb1 (by omega)]
   have e1 : IntKind.wrap .u8 (n : Int) = (n : Int) := by
    rw [wrap8, zit1]; omega
   rw [e1]
   by_cases h1 : n = c.toNat
   ·rw [if_neg (by simp [h1])]
    exact ⟨r2, n, s2, zcq1 hc2 (by rw [if_pos h1])⟩
   ·rw [if_pos (by rw [bne_iff_ne]; omega)]
    exact zad (zbh (zsc1 (W := fun n => if n = c.toNat then 0 else 4) (n := n) a2 hc2 hp (by rw [if_neg h1]) (by decide) fun r3 k3 m3 a3 hc3 => ⟨r3, n, (s2.next (fun b hb => by cases hb) m3 a3).1, hc3⟩))
  ·rintro k2 ⟨r2, n, s2, hc2⟩
   refine hK k2 ⟨r2, s2, fun β f => ?_⟩
   rw [hcn, zlz hc]
   show stepD r' (D.bind (D.bind (D.must (D.num 1) fun n => if n = c.toNat then 0 else 4) fun _ => markD (([70, 66, 83, 78, 1] : List UInt8).drop (i + 1))) f) bs = _
   rw [zai, hc2]
 ·rintro k ⟨r1, s1, hcn1⟩
  refine zyw (zyj1 s1.rd fun r2 x c B1 k2 t2 own few hcv hc2 => ?_)
  have s2 := s1.andThen (fun b hb => by cases hb) t2
  rw [List.nil_append] at s2
  have hst : ∀ (β : Type) (f : PCfg → D β), stepD (.ok 0) (D.bind (markD [70, 66, 83, 78, 1]) fun _ => D.bind zcl f) bs = stepD r2 (f c) bs := fun β f => by
   rw [hcn1]
   show stepD r1 (D.bind zcl f) bs = _
   rw [hc2]
  have hlab : x.Labels.len = c.labels.length := by
   obtain ⟨C1, C2, C3, _, o1, _⟩ := own
   exact o1.len
  have hpl : x.Procs.len = c.procs.length := by
   obtain ⟨C1, C2, C3, _, _, _, o3, _⟩ := own
   exact o3.len
  obtain ⟨hLane, hLocks, hLog⟩ : x.Lane = c.lane ∧ x.Locks = c.locks ∧ x.Log = c.log := by
   obtain ⟨C1, C2, C3, _, _, _, _, f1, f2, f3, f4⟩ := own
   exact ⟨f2, f3, f4⟩
  have f1 := few.nl
  have f2 := few.np
  have f3 := few.locks
  have kn2 := okCfg.known own
  refine zad (zbb (zeo1 (k := 8) s2.rd (by omega) (by omega) fun tick r3 k3 htick m3 a3 hc3 _ => ?_))
  obtain ⟨s3, hs3⟩ := s2.next kn2 m3 a3
  have own3 := okCfg.same own hs3
  refine zad (ld_at (sh := shSl) x.Labels (s3.rd.cfg (j := 0) (n := 1) rfl) ?_)
  refine forT (n := c.labels.length) (by omega) (by omega) (fun i (v : S_api_State) kk => ∃ (ps : List PPart) (r' : RS) (B2 : List Nat), ps.length = i ∧ (v.Tick = i64 tick ∧ v.Procs = ⟨none, 0, 0⟩) ∧ SB d h rb bl bs x kk r' (B1 ++ B2) ∧ CfgO x c kk B1 ∧ zsd1 v.Parts ps kk B2 ∧
    ∀ (β : Type) (f : List PPart → D β), stepD r3 (D.bind (D.many (fun _ => partD c.log c.locks (c.procs.length : Int)) c.labels.length []) f) bs = stepD r' (D.bind (D.many (fun _ => partD c.log c.locks (c.procs.length : Int)) (c.labels.length - i) ps) f) bs)
   ⟨[], r3, [], rfl, ⟨rfl, rfl⟩, by simpa using s3, own3, RowsO.nil, fun _ _ => rfl⟩ ?_ ?_
  ·rintro i hi v kk ⟨ps, r', B2, hpl2, hv, s4, own4, o4, hcn⟩ K hK
   have kn4 : ∀ b ∈ B1 ++ B2, kk b ≠ none := fun b hb => by
    rcases List.mem_append.1 hb with hb | hb
    ·exact okCfg.known own4 b hb
    ·exact okParts.known o4 b hb
   refine zbz1 (zdw2 s4.rd (by rw [hLocks]; omega) fun y p r5 B' k5 t5 o5 hc5 => ⟨⟨trivial, trivial⟩, ?_⟩)
   have s5 := s4.andThen kn4 t5
   have hs5 := s4.kept kn4 t5
   refine newF (xs := [y]) (enc := fun x => zae (sh_api_Part.enc x)) (sz := 6) rfl (fun _ => rfl) fun b6 k6 _ hle6 _ o6 => ⟨⟨trivial, trivial⟩, ?_⟩
   have s6 := s5.grow hle6
   have hs6 : ∀ b ∈ B1 ++ B2, k6 b = kk b := fun b hb => by
    rw [← hs5 b hb]
    exact zcb hle6 (fun b hb => by rw [hs5 b hb]; exact kn4 b hb) b hb
   have oe := okPart.same o5 (zcb hle6 (okPart.known o5))
   refine zfz1 (P := B1) (M := B2) (S := []) (B' := B') okPart a.le (by simpa using s6) (okParts.same o4 fun b hb => hs6 b (mem_b hb)) (v := y) (p := p) oe (fun b hb => by
    rw [List.append_nil] at hb
    rw [hs6 b (mem_a hb)]
    exact kn4 b (mem_a hb)) (o6.rw fun _ => rfl) (fun _ => rfl) (fun _ => rfl) rfl (by omega) fun l7 k7 M7 s7 o7 hs7 => ?_
   rw [List.append_nil] at s7
   refine hK _ k7 ⟨ps ++ [p], r5, M7, by simp [hpl2], hv, s7, okCfg.same own4 fun b hb => (hs7 b (by rw [List.append_nil]; exact hb)).trans (hs6 b (mem_a hb)), o7, fun β f => ?_⟩
   have e1 : c.labels.length - i = (c.labels.length - (i + 1)) + 1 := by omega
   rw [hLog, hLocks, hpl] at hc5
   rw [hcn, e1, zdg, zai, hc5]
  ·rintro v kk ⟨ps, r', B2, hpl2, ⟨hv1, hv2⟩, s4, own4, o4, hcn4⟩
   refine zad (ld_at (sh := shSl) x.Procs (s4.rd.cfg (j := 6) (n := 1) rfl) ?_)
   refine forT (n := c.procs.length) (by omega) (by omega) (fun i (v : S_api_State) kk => ∃ (qs : List PProcess) (r5 : RS) (B2 B3 : List Nat), qs.length = i ∧ v.Tick = i64 tick ∧ SB d h rb bl bs x kk r5 (B1 ++ (B2 ++ B3)) ∧ CfgO x c kk B1 ∧ zsd1 v.Parts ps kk B2 ∧ zup1 v.Procs qs kk B3 ∧
     ∀ (β : Type) (f : List PProcess → D β), stepD r' (D.bind (D.many (fun _ => zco1 c.labels.length c.lane (c.procs.length : Int)) c.procs.length []) f) bs = stepD r5 (D.bind (D.many (fun _ => zco1 c.labels.length c.lane (c.procs.length : Int)) (c.procs.length - i) qs) f) bs)
    ⟨[], r', B2, [], rfl, hv1, by simpa using s4, own4, o4, by rw [hv2]; exact RowsO.nil, fun _ _ => rfl⟩ ?_ ?_
   ·rintro i hi v kk ⟨qs, r5, B2, B3, hql, hv, s5, own5, o5, q5, hcn⟩ K hK
    have kn5 : ∀ b ∈ B1 ++ (B2 ++ B3), kk b ≠ none := fun b hb => by
     rcases List.mem_append.1 hb with hb | hb
     ·exact okCfg.known own5 b hb
     ·rcases List.mem_append.1 hb with hb | hb
      ·exact okParts.known o5 b hb
      ·exact okProcss.known q5 b hb
    refine zca1 (zdx2 s5.rd (by omega) fun y p r6 B' k6 t6 o6 hc6 => ⟨⟨trivial, trivial⟩, ?_⟩)
    have s6 := s5.andThen kn5 t6
    have hs6 := s5.kept kn5 t6
    refine newF (xs := [y]) (enc := fun x => zae (sh_api_Process.enc x)) (sz := 15) rfl (fun _ => rfl) fun b7 k7 _ hle7 _ o7 => ⟨⟨trivial, trivial⟩, ?_⟩
    have s7 := s6.grow hle7
    have hs7 : ∀ b ∈ B1 ++ (B2 ++ B3), k7 b = kk b := fun b hb => by
     rw [← hs6 b hb]
     exact zcb hle7 (fun b hb => by rw [hs6 b hb]; exact kn5 b hb) b hb
    have oe := okProcess.same o6 (zcb hle7 (okProcess.known o6))
    have w1 := okCfg.same own5 fun b hb => hs7 b (mem_a hb)
    have w2 := okParts.same o5 fun b hb => hs7 b (mem_b (mem_a hb))
    have w3 := okProcss.same q5 fun b hb => hs7 b (mem_b (mem_b hb))
    refine zfz1 (P := B1 ++ B2) (M := B3) (S := []) (B' := B') okProcess a.le (by simpa [List.append_assoc] using s7) w3 (v := y) (p := p) oe (fun b hb => by
     rw [List.append_nil] at hb
     rcases List.mem_append.1 hb with hb | hb
     ·exact okCfg.known w1 b hb
     ·exact okParts.known w2 b hb) (o7.rw fun _ => rfl) (fun _ => rfl) (fun _ => rfl) rfl (by omega) fun l8 k8 M8 s8 o8 hs8 => ?_
    refine hK _ k8 ⟨qs ++ [p], r6, B2, M8, by simp [hql], hv, by simpa [List.append_assoc] using s8, okCfg.same w1 fun b hb => hs8 b (by rw [List.append_nil]; exact mem_a hb), okParts.same w2 fun b hb => hs8 b (by rw [List.append_nil]; exact mem_b hb), o8, fun β f => ?_⟩
    have e1 : c.procs.length - i = (c.procs.length - (i + 1)) + 1 := by omega
    rw [hlab, hLane, hpl] at hc6
    rw [hcn, e1, zdg, zai, hc6]
   ·rintro v kk ⟨qs, r5, B2, B3, hql, hv, s5, own5, o5, q5, hcn5⟩
    have kn5 : ∀ b ∈ B1 ++ (B2 ++ B3), kk b ≠ none := fun b hb => by
     rcases List.mem_append.1 hb with hb | hb
     ·exact okCfg.known own5 b hb
     ·rcases List.mem_append.1 hb with hb | hb
      ·exact okParts.known o5 b hb
      ·exact okProcss.known q5 b hb
    have hall : stepD (.ok 0) snapD bs = stepD r5 (D.ret (c, (⟨i64 tick, ps, qs⟩ : PState))) bs := by
     unfold snapD
     rw [hst]
     unfold zlo1
     rw [zai, iD_eq, hc3.map, zai]
     have e1 := hcn4 _ fun parts => D.bind (D.bind (D.many (fun _ => zco1 c.labels.length c.lane (c.procs.length : Int)) c.procs.length []) fun procs => D.ret (⟨i64 tick, parts, procs⟩ : PState)) fun s => D.ret (c, s)
     rw [Nat.sub_self] at e1
     refine e1.trans ?_
     show stepD _ (D.bind (D.bind (D.many _ _ _) _) _) bs = _
     rw [zai]
     have e2 := hcn5 _ fun procs => D.bind (D.ret (⟨i64 tick, ps, procs⟩ : PState)) fun s => D.ret (c, s)
     rw [Nat.sub_self] at e2
     exact e2
    have hown : StateO v ⟨i64 tick, ps, qs⟩ kk (B2 ++ B3) := ⟨B2, B3, rfl, o5, q5, hv⟩
    obtain ⟨p, e, pl, kb, hs⟩ := s5.rd.blk
    have hlen : bl.len = bs.length := a.src.1
    refine zad (ld_at (sh := shInt .i64) p (kb.ldIs (off := 1) (n := 1) rfl) (zad (ld_at (sh := shSl) bl (kb.ldIs (off := 0) (n := 1) rfl) ?_)))
    cases r5 with
    | error y =>
     obtain ⟨er, q⟩ := y
     have hE : EndS bs (.error (er, q)) c ⟨i64 tick, ps, qs⟩ := zse1 hsm hall
     by_cases hlt : p < ((bl.len : Nat) : Int)
     ·rw [if_pos (decide_eq_true hlt)]
      refine zad (zad (ld_at (sh := shInt .i64) p (kb.ldIs (off := 1) (n := 1) rfl) (zbh (zvi kb fun k6 m6 kb6 => ?_))))
      obtain ⟨rfl, hne, rfl⟩ := hs
      rw [if_neg hne, if_neg hne] at kb6
      have a6 : SAt d k6 rb bl bs (.error (e, q)) x := ⟨(m6.le s5.rd.le fun c hc => by rw [List.mem_singleton.1 hc]; exact a.out).1, a.out, a.src, a.cap, a.small, _, _, _, kb6, rfl, hne, rfl⟩
      obtain ⟨s6, hs6⟩ := s5.next kn5 m6 a6
      exact hq v ⟨i64 tick, ps, qs⟩ x c _ B1 (B2 ++ B3) k6 s6 (okCfg.same own5 fun b hb => hs6 b (mem_a hb)) (okState.same hown fun b hb => hs6 b (mem_b hb)) hE
     ·rw [if_neg (fun e => hlt (of_decide_eq_true e))]
      exact hq v ⟨i64 tick, ps, qs⟩ x c _ B1 (B2 ++ B3) kk s5 own5 hown hE
    | ok at_ =>
     obtain ⟨rfl, rfl, hat⟩ := hs
     have hw := zxb1 hsm (hall : stepD (.ok 0) snapD bs = .ok ((c, ⟨i64 tick, ps, qs⟩), at_))
     by_cases hlt : at_ < bs.length
     ·have hlt' : (at_ : Int) < ((bl.len : Nat) : Int) := by omega
      rw [if_pos (decide_eq_true hlt')]
      rw [if_pos hlt] at hw
      refine zad (zad (ld_at (sh := shInt .i64) (at_ : Int) (kb.ldIs (off := 1) (n := 1) rfl) (zbh (zvi kb fun k6 m6 kb6 => ?_))))
      rw [if_pos rfl, if_pos rfl] at kb6
      have a6 : SAt d k6 rb bl bs (.error (6, at_)) x := ⟨(m6.le s5.rd.le fun c hc => by rw [List.mem_singleton.1 hc]; exact a.out).1, a.out, a.src, a.cap, a.small, _, _, _, kb6, rfl, by decide, rfl⟩
      obtain ⟨s6, hs6⟩ := s5.next kn5 m6 a6
      exact hq v ⟨i64 tick, ps, qs⟩ x c _ B1 (B2 ++ B3) k6 s6 (okCfg.same own5 fun b hb => hs6 b (mem_a hb)) (okState.same hown fun b hb => hs6 b (mem_b hb)) hw
     ·rw [if_neg (fun e => hlt (by have e : (at_ : Int) < ((bl.len : Nat) : Int) := of_decide_eq_true e; omega))]
      rw [if_neg hlt] at hw
      refine hq v ⟨i64 tick, ps, qs⟩ x c _ B1 (B2 ++ B3) kk s5 own5 hown ⟨hw, ?_⟩
      have hv2 := (law_snap.sound bs 0 _ _ (hall : snapD bs 0 = .ok ((c, ⟨i64 tick, ps, qs⟩), at_)) (Nat.zero_le _)).1
      exact hv2.1.1
end
end Lf

namespace Lf
open Go Go.Proofs
theorem zib1 {α β : Type} {f : α → List β} {B : Nat} : ∀ (l : List α), (∀ x ∈ l, (f x).length ≤ B) → (l.flatMap f).length ≤ l.length * B
 | [], _ => by simp
 | x :: l, hf => by
  have h1 := hf x (List.mem_cons_self ..)
  have h2 := zib1 l fun y hy => hf y (List.mem_cons_of_mem _ hy)
  rw [List.flatMap_cons, List.length_append, List.length_cons, Nat.add_mul, Nat.one_mul]
  omega
theorem zuq1 {α β : Type} : ∀ {l : List α} {m : List β}, l.length = m.length → ∀ q ∈ m, ∃ z ∈ l.zip m, z.2 = q
 | [], [], _, q, h => by cases h
 | a :: l, b :: m, e, q, h => by
  rcases List.mem_cons.1 h with rfl | h
  ·exact ⟨(a, q), List.mem_cons_self .., rfl⟩
  ·obtain ⟨z, h1, h2⟩ := zuq1 (l := l) (m := m) (by simpa using e) q h
   exact ⟨z, List.mem_cons_of_mem _ h1, h2⟩
 | [], _ :: _, e, _, _ => by cases e
 | _ :: _, [], e, _, _ => by cases e
theorem zfw2 {c : PCfg} {s : PState} (few : Few c) (h : StateV c s) : (evs s).length ≤ 200000 := by
 obtain ⟨_, a1, a2, _⟩ := h
 obtain ⟨b1, b2⟩ := zde1 a1
 obtain ⟨b3, b4⟩ := zde1 a2
 have f1 := few.nl
 have f2 := few.np
 have f3 := few.locks
 have p1 : (s.parts.flatMap evQ).length ≤ s.parts.length * 2048 := zib1 _ fun x hx => by
  obtain ⟨_, _, _, _, _, ⟨xs, g1, g2, g3⟩, g4⟩ := b2 x hx
  rw [List.nil_append] at g1
  have g3 := (zxi (V := LockV (c.procs.length : Int)) xs []).1 g3
  have hq : x.queues.length = xs.length := by rw [← g1, List.length_zip, g4]; simp
  have h1 : (evQ x).length ≤ x.queues.length * 256 := by
   unfold evQ
   rw [← List.flatMap_id]
   refine zib1 _ fun q hq => ?_
   obtain ⟨z, hz1, hz2⟩ := zuq1 g4 q hq
   rw [g1] at hz1
   obtain ⟨_, ⟨⟨_, h2⟩, _⟩, _⟩ := g3 z hz1
   have h2 : ((z.2.length : Nat) : Int) < 256 := h2
   rw [← hz2]
   show z.2.length ≤ 256
   omega
  have : x.queues.length * 256 ≤ 8 * 256 := Nat.mul_le_mul_right _ (by omega)
  omega
 have p2 : (s.procs.flatMap evL).length ≤ s.procs.length * 2304 := zib1 _ fun x hx => by
  obtain ⟨_, _, _, _, _, _, _, g1, _⟩ := b4 x hx
  obtain ⟨g2, g3⟩ := zde1 g1
  have h1 : (evL x).length ≤ x.lanes.length * 256 := by
   refine zib1 _ fun l hl => ?_
   obtain ⟨_, _, ⟨⟨_, h2⟩, _⟩, _⟩ := g3 l hl
   have h2 : ((l.waiters.length : Nat) : Int) < 256 := h2
   rw [List.length_map]
   omega
  have : x.lanes.length * 256 ≤ 9 * 256 := Nat.mul_le_mul_right _ (by omega)
  omega
 unfold evs
 rw [List.length_append]
 have q1 : s.parts.length * 2048 ≤ 8 * 2048 := Nat.mul_le_mul_right _ (by omega)
 have q2 : s.procs.length * 2304 ≤ 32 * 2304 := Nat.mul_le_mul_right _ (by omega)
 omega
def st0 : S_api_State := ⟨0, ⟨none, 0, 0⟩, ⟨none, 0, 0⟩⟩
def SnapErr (bs : List UInt8) (e : Int) (p : Nat) : Prop := zfi snapD bs = .error (e, p) ∨ ∃ c s, zfi snapD bs = .ok (c, s) ∧ p = 0 ∧ MayIs c s e
set_option maxRecDepth 20000 in
theorem zzv {h : Hp} {b : Sl} {bs : List UInt8} {Q : S_api_Config → S_api_State → Int → Int → Hp → Prop} (hB : Bs h b bs) (hcap : b.len ≤ b.cap)
  (hE : ∀ e p h', h ≤ h' → e ≠ 0 → SnapErr bs e p → Q cfg0 st0 e (p : Int) h')
  (hok : ∀ x v c s B1 B2 h', h ≤ h' → zfi snapD bs = .ok (c, s) → (cfgE c).1 = 0 → MayP c s → CfgO x c h' B1 → StateO v s h' B2 → (B1 ++ B2).Nodup → (∀ b ∈ B1 ++ B2, h b = none) → Q x v 0 0 h') :
  zrr Tryz.prog b Q h := by
 unfold zrr
 have hlen : b.len = bs.length := hB.1
 by_cases hbig : 1048576 < bs.length
 ·rw [if_pos (decide_eq_true (by omega))]
  exact hE 22 1048576 h (Hp.le_refl _) (by decide) (.inl (by unfold zfi; rw [if_pos hbig]))
 rw [if_neg (fun e => hbig (by have := of_decide_eq_true e; omega))]
 refine newB2 fun rb h1 hn1 hle1 hR1 => ?_
 have a1 : SAt h h1 rb b bs (.ok 0) cfg0 := ⟨hle1, hn1, hB, hcap, by omega, 0, 0, 0, hR1, rfl, rfl, by omega⟩
 refine zap1 (zbx2 a1 (by omega) fun v s x c r1 B1 B2 h2 s2 own1 own2 hEnd => ?_)
 have hfr : ∀ b ∈ B1 ++ B2, h b = none := fun b hb => zbk hle1 (s2.fresh b hb)
 obtain ⟨p, e, pl, kb, hs⟩ := s2.rd.blk
 -- how the cells stand in the end
 refine JoinW0.intro (fun k => h ≤ k ∧ ∃ at_ e pl : Int, Blk k rb (zbz b at_ e pl ++ cfgL x) ∧ ((e ≠ 0 ∧ ∃ q : Nat, pl = (q : Int) ∧ SnapErr bs e q) ∨ (e = 0 ∧ zfi snapD bs = .ok (c, s) ∧ (cfgE c).1 = 0 ∧ MayP c s ∧ CfgO x c k B1 ∧ StateO v s k B2))) ?_ ?_
 ·refine zad (ld_at (sh := shInt .i64) e (kb.ldIs (off := 2) (n := 1) rfl) ?_)
  cases r1 with
  | error y =>
   obtain ⟨er, q⟩ := y
   obtain ⟨rfl, hne, rfl⟩ := hs
   rw [if_neg (by simpa using hne)]
   exact ⟨s2.rd.le, p, e, q, kb, .inl ⟨hne, q, rfl, .inl hEnd⟩⟩
  | ok at_ =>
   obtain ⟨rfl, rfl, hat⟩ := hs
   obtain ⟨hw, hcv⟩ := hEnd
   have hsound := (zpl law_snap hw).1
   have few := zxa1 _ (zvk c) hcv
   have htc := ((zhu1 (zvk c)).2 hcv).1
   rw [if_pos (by simp)]
   refine zad (zad (ld_at (sh := sh_api_Config) x (kb.ldIs (off := 4) (n := 7) rfl) ?_))
   have hfin : ∀ n k, h2 ≤ k → MayIs c s n → (n = 0 → (cfgE c).1 = 0 ∧ MayP c s) → Call0 Tryz.prog zbd [(.pointer (some (Addr.add ⟨rb, 0, none⟩ 0))), (.int .i64 n), (.int .i64 (0 : Int))] (fun h4 => h ≤ h4 ∧ ∃ at_ e pl : Int, Blk h4 rb (zbz b at_ e pl ++ cfgL x) ∧
     ((e ≠ 0 ∧ ∃ q : Nat, pl = (q : Int) ∧ SnapErr bs e q) ∨ (e = 0 ∧ zfi snapD bs = .ok (c, s) ∧ (cfgE c).1 = 0 ∧ MayP c s ∧ CfgO x c h4 B1 ∧ StateO v s h4 B2))) k := fun n k hle hM h0 => by
    refine zbh (zvi (kb.le hle) fun k4 m4 kb4 => ?_)
    rw [if_pos rfl, if_pos rfl] at kb4
    refine ⟨(m4.le (Hp.le_trans s2.rd.le hle) fun c hc => by rw [List.mem_singleton.1 hc]; exact hn1).1, _, _, _, kb4, ?_⟩
    by_cases hn0 : n = 0
    ·obtain ⟨h01, h02⟩ := h0 hn0
     have hk : ∀ b ∈ B1 ++ B2, k4 b = h2 b := fun b hb => by
      have hkn : h2 b ≠ none := by
       rcases List.mem_append.1 hb with hb | hb
       ·exact okCfg.known own1 b hb
       ·exact okState.known own2 b hb
      cases e : h2 b with
      | none => exact absurd e hkn
      | some o => exact m4.keep b o (hle b o e) fun hr => s2.nr (by rw [← List.mem_singleton.1 hr]; exact hb)
     exact .inr ⟨hn0, hw, h01, h02, okCfg.same own1 fun b hb => hk b (mem_a hb), okState.same own2 fun b hb => hk b (mem_b hb)⟩
    ·exact .inl ⟨hn0, 0, rfl, .inr ⟨c, s, hw, rfl, hM⟩⟩
   refine zzy (zoe1 own1.rd own2.rd (fun l hl => ?_) (fun _ _ _ _ => Nat.le_trans (zfw2 few hsound.2) (by decide)) (fun hc k hle => hfin _ k hle (.inl ⟨hc, rfl⟩) fun h0 => absurd h0 hc) fun hc n k hle hn => hfin n k hle (.inr ⟨hc, hn⟩) fun h0 => ?_)
   ·have := htc.1 l hl
    exact ⟨this.1, this.2⟩
   ·rcases hn with ⟨_, h1⟩ | ⟨h1, _⟩
    ·exact ⟨hc, h1⟩
    ·omega
 ·rintro k ⟨hle, at_, e, pl, kb, hcase⟩
  refine zad (ld_at (sh := shInt .i64) e (kb.ldIs (off := 2) (n := 1) rfl) ?_)
  rcases hcase with ⟨hne, q, rfl, hS⟩ | ⟨rfl, hw, h01, h02, o1, o2⟩
  ·rw [if_pos (by simpa using hne)]
   have l2 : LdIs k ⟨rb, 2, none⟩ [.int .i64 e] := kb.ldIs (off := 2) (n := 1) rfl
   have l3 : LdIs k ⟨rb, 3, none⟩ [.int .i64 (q : Int)] := kb.ldIs (off := 3) (n := 1) rfl
   exact zad (ld_at (sh := shInt .i64) e l2 (zad (ld_at (sh := shInt .i64) (q : Int) l3 ⟨⟨l2, l3, trivial⟩, ⟨l2, l3, trivial⟩, hE e q k hle hne hS⟩)))
  ·rw [if_neg (by simp)]
   exact zad (ld_at (sh := sh_api_Config) x (kb.ldIs (off := 4) (n := 7) rfl) ⟨⟨trivial, trivial⟩, hok x v c s B1 B2 k hle hw h01 h02 o1 o2 s2.nd hfr⟩)
end Lf

namespace Lf
open Go
theorem eqF {P : Program} (d : Nat) (xs ys : Array Value) : ∀ (L : List (Field × IntKind × Int × Int)) (w : World),
    (∀ q ∈ L, q.1.name ≠ "_" ∧ P.underlying q.1.type = some (.int q.2.1) ∧ xs[q.1.offset]? = some (.int q.2.1 q.2.2.1) ∧ ys[q.1.offset]? = some (.int q.2.1 q.2.2.2)) →
    (Op.eqFields (d + 1) xs ys (L.map (·.1))).run P w = .ok (L.all fun q => q.2.2.1 == q.2.2.2) w
  | [], w, _ => by simp [Op.eqFields]
  | q :: L, w, h => by
    obtain ⟨h1, h2, h3, h4⟩ := h q (List.mem_cons_self ..)
    have ih := eqF d xs ys L w fun q' hq => h q' (List.mem_cons_of_mem _ hq)
    have hag : (isAgg q.1.type).run P w = .ok false w := by simp [isAgg, run_underlying h2]
    simp only [List.map_cons, Op.eqFields, Sem.run_bind, if_pos h1, part, hag, Result.andThen_ok, Bool.false_eq_true, if_false, h3, h4, Sem.run_pure, run_equalIn_int w d q.1.type q.2.1 q.2.1 q.2.2.1 q.2.2.2 h2]
    cases hb : (q.2.2.1 == q.2.2.2) with
    | false => simp [hb]
    | true => simp [hb, ih]
end Lf

namespace Lf
open Go Go.Proofs
theorem zzw {P : Program} {t : Nat} {x y : Operand} {h : Hp} {xs : Array Value} (L : List (Field × IntKind × Int)) (hu : P.underlying t = some (.struct (L.map (·.1)).toArray)) (hg : P.eqGuardType P.depth t = false) (hp : P.stoodInHeld t = false)
  (hL : ∀ q ∈ L, q.1.name ≠ "_" ∧ P.underlying q.1.type = some (.int q.2.1) ∧ xs[q.1.offset]? = some (.int q.2.1 q.2.2)) :
  SemIs P (binS .neq t x y (.agg xs) (.agg xs)) h (.bool false) := by
 refine zjd1 fun w => ?_
 have hf : P.fieldsOf t = (L.map (·.1)).toArray := by unfold Program.fieldsOf; rw [hu]
 have ht : P.underlying t = some (.struct (P.fieldsOf t)) := by rw [hf]; exact hu
 have h1 := run_equalIn_struct (P := P) w 9999 t xs xs ht hp
 rw [hf] at h1
 have h2 := eqF (P := P) 9998 xs xs (L.map fun q => (q.1, q.2.1, q.2.2, q.2.2)) w fun q hq => by
  obtain ⟨q', hq', rfl⟩ := List.mem_map.1 hq
  obtain ⟨e1, e2, e3⟩ := hL q' hq'
  exact ⟨e1, e2, e3, e3⟩
 have e1 : (L.map fun q => (q.1, q.2.1, q.2.2, q.2.2)).map (·.1) = L.map (·.1) := by rw [List.map_map]; rfl
 have e2 : ((L.map fun q => (q.1, q.2.1, q.2.2, q.2.2)).all fun q => q.2.2.1 == q.2.2.2) = true := by simp
 rw [e1, e2] at h2
 unfold binS
 simp only [Sem.run_bind, run_eqGuard_agg w .neq t x y xs xs hg, Result.andThen_ok, run_neq_struct]
 rw [show (10000 : Nat) = 9999 + 1 from rfl, h1]
 simp only [h2, Result.andThen_ok, Bool.not_true]
theorem eqI {P : Program} (d : Nat) {e : TypeId} (he : P.underlying e = some (.int .i64)) (xs : Array Value) : ∀ (is : List Nat) (w : World), (∀ j ∈ is, ∃ n, xs[j]? = some (.int .i64 n)) → (Op.eqItems (d + 1) e 1 xs xs is).run P w = .ok true w
 | [], w, _ => by simp [Op.eqItems]
 | j :: is, w, h => by
  obtain ⟨n, hn⟩ := h j (List.mem_cons_self ..)
  have ih := eqI d he xs is w fun j' hj => h j' (List.mem_cons_of_mem _ hj)
  have hag : (isAgg e).run P w = .ok false w := by simp [isAgg, run_underlying he]
  simp only [Op.eqItems, Sem.run_bind, part, hag, Result.andThen_ok, Bool.false_eq_true, if_false, Nat.mul_one, hn, Sem.run_pure, run_equalIn_int w d e .i64 .i64 n n he]
  simp [ih]
theorem zsf1 {P : Program} {t e n : Nat} {x y : Operand} {h : Hp} {xs : Array Value} (hu : P.underlying t = some (.array n e)) (hi : (P.info? e).isSome = true) (he : P.underlying e = some (.int .i64)) (hc : P.cellsOf e = 1) (hg : P.eqGuardType P.depth t = false)
  (hx : ∀ j, j < n → ∃ v, xs[j]? = some (.int .i64 v)) : SemIs P (binS .neq t x y (.agg xs) (.agg xs)) h (.bool false) := by
 obtain ⟨i, hi⟩ := Option.isSome_iff_exists.1 hi
 refine zjd1 fun w => ?_
 have h1 := run_equalIn_array (P := P) (w := w) 9999 xs xs hu hi
 rw [hc, eqI 9998 he xs _ w fun j hj => hx j (List.mem_range.1 hj)] at h1
 unfold binS
 simp only [Sem.run_bind, run_eqGuard_agg w .neq t x y xs xs hg, Result.andThen_ok, run_neq_struct]
 rw [show (10000 : Nat) = 9999 + 1 from rfl, h1]
 simp only [Result.andThen_ok, Bool.not_true]
section
variable {P : Program} {h : Hp} {Q : Bool → Hp → Prop}
theorem zur1 {a b : Sl} {xs : List Int} (ra : Is h a xs) (rb : Is h b xs) (hn : xs.length ≤ 140737488355328) (hq : Q true h) : zdn P a b Q h := by
 unfold zdn
 have e1 : a.len = xs.length := ra.1
 have e2 : b.len = xs.length := rb.1
 rw [if_neg (by rw [e1, e2]; simp)]
 refine forI (n := xs.length) (by omega) (by omega) (fun _ h' => h' = h) rfl ?_ ?_
 ·rintro i hi k rfl K hK
  refine Rs.get (sh := shInt .i64) ra (fun _ => rfl) (by omega) (by omega) (by omega) fun (x : Int) hx => ?_
  refine Rs.get (sh := shInt .i64) rb (fun _ => rfl) (by omega) (by omega) (by omega) fun (y : Int) hy => ?_
  rw [hx] at hy
  rw [if_neg (by simp [Option.some.inj hy])]
  exact hK k rfl
 ·rintro k rfl; exact hq
theorem zqh1 {a b : Sl} {xs : List Int} (ra : Us h a xs) (rb : Us h b xs) (hn : xs.length ≤ 140737488355328) (hq : Q true h) : zcw P a b Q h := by
 unfold zcw
 have e1 : a.len = xs.length := ra.1
 have e2 : b.len = xs.length := rb.1
 rw [if_neg (by rw [e1, e2]; simp)]
 refine forI (n := xs.length) (by omega) (by omega) (fun _ h' => h' = h) rfl ?_ ?_
 ·rintro i hi k rfl K hK
  refine Rs.get (sh := shInt .u64) ra (fun _ => rfl) (by omega) (by omega) (by omega) fun (x : Int) hx => ?_
  refine Rs.get (sh := shInt .u64) rb (fun _ => rfl) (by omega) (by omega) (by omega) fun (y : Int) hy => ?_
  rw [hx] at hy
  rw [if_neg (by simp [Option.some.inj hy])]
  exact hK k rfl
 ·rintro k rfl; exact hq
theorem zsg1 {a b : Sl} {xs : List Int} (ra : Is h a xs) (rb : Is h b xs) (hn : xs.length ≤ 140737488355328) (hq : Q true h) : zgi P a b Q h := by
 unfold zgi
 have e1 : a.len = xs.length := ra.1
 have e2 : b.len = xs.length := rb.1
 rw [if_neg (by rw [e1, e2]; simp)]
 refine forI (n := xs.length) (by omega) (by omega) (fun _ h' => h' = h) rfl ?_ ?_
 ·rintro i hi k rfl K hK
  refine Rs.get (sh := shInt .i64) ra (fun _ => rfl) (by omega) (by omega) (by omega) fun (x : Int) hx => ?_
  refine Rs.get (sh := shInt .i64) rb (fun _ => rfl) (by omega) (by omega) (by omega) fun (y : Int) hy => ?_
  rw [hx] at hy
  rw [if_neg (by simp [Option.some.inj hy])]
  exact hK k rfl
 ·rintro k rfl; exact hq
theorem zby2 {x y : S_api_Ins} (h : insOf x = insOf y) : x = y := by
 cases x; cases y; simp [insOf] at h; simp [h]
theorem zus1 {x y : S_api_Entry} (h : znz x = znz y) : x = y := by
 cases x; cases y; simp [znz] at h; simp [h]
theorem zsh1 {x y : S_api_Waiter} (h : zee x = zee y) : x = y := by
 cases x; cases y; simp [zee] at h; simp [h]
theorem zqi1 {α β : Type} {f : α → β} (hf : ∀ {x y}, f x = f y → x = y) {l m : List α} (h : l.map f = m.map f) : l = m := by
 induction l generalizing m with
 | nil => cases m with
  | nil => rfl
  | cons b m => cases h
 | cons a l ih => cases m with
  | nil => cases h
  | cons b m =>
   simp only [List.map_cons, List.cons.injEq] at h
   rw [hf h.1, ih h.2]
theorem zbz2 {a b : Sl} {is : List S_api_Ins} (ra : InsS h a is) (rb : InsS h b is) (hn : is.length ≤ 140737488355328) {Q : Bool → Hp → Prop} (hq : Q true h) : zgg Tryz.prog a b Q h := by
 unfold zgg
 have e1 : a.len = is.length := ra.1
 have e2 : b.len = is.length := rb.1
 rw [if_neg (by rw [e1, e2]; simp)]
 refine forI (n := is.length) (by omega) (by omega) (fun _ h' => h' = h) rfl ?_ ?_
 ·rintro i hi k rfl K hK
  refine Rs.get (sh := sh_api_Ins) ra (fun _ => rfl) (by omega) (by omega) (by omega) fun x hx => ?_
  refine Rs.get (sh := sh_api_Ins) rb (fun _ => rfl) (by omega) (by omega) (by omega) fun y hy => ?_
  rw [hx] at hy
  cases hy
  refine ⟨false, zzw [(⟨ "Op", 3, 0, false, "", "", 0⟩, .i64, x.Op), (⟨ "A", 3, 1, false, "", "", 8⟩, .i64, x.A), (⟨ "B", 3, 2, false, "", "", 16⟩, .i64, x.B), (⟨ "C", 3, 3, false, "", "", 24⟩, .i64, x.C), (⟨ "Imm", 2, 4, false, "", "", 32⟩, .i64, x.Imm)]
   (tb_ok.und 51 ty51 rfl) (by kernel_rfl) (by kernel_rfl) (fun q hq => ?_), ?_⟩
  ·simp only [List.mem_cons, List.not_mem_nil, or_false] at hq
   rcases hq with rfl | rfl | rfl | rfl | rfl
   ·exact ⟨by simp, tb_ok.und 3 ty3 rfl, rfl⟩
   ·exact ⟨by simp, tb_ok.und 3 ty3 rfl, rfl⟩
   ·exact ⟨by simp, tb_ok.und 3 ty3 rfl, rfl⟩
   ·exact ⟨by simp, tb_ok.und 3 ty3 rfl, rfl⟩
   ·exact ⟨by simp, tb_ok.und 2 ty2 rfl, rfl⟩
  ·dsimp only
   rw [if_neg (by simp)]
   exact hK k rfl
 ·rintro k rfl; exact hq
end
end Lf

namespace Lf
open Go Go.Proofs
structure CfgLe (c : PCfg) : Prop where
 labels : c.labels.length ≤ 140737488355328
 table : c.table.length ≤ 140737488355328
 procs : c.procs.length ≤ 140737488355328
 code : ∀ p ∈ c.procs, p.code.length ≤ 140737488355328
structure zca2 (l : PLane) : Prop where
 values : l.values.length ≤ 140737488355328
 waiters : l.waiters.length ≤ 140737488355328
structure StLe (s : PState) : Prop where
 parts : s.parts.length ≤ 140737488355328
 procs : s.procs.length ≤ 140737488355328
 log : ∀ x ∈ s.parts, x.log.length ≤ 140737488355328 ∧ x.owners.length ≤ 140737488355328 ∧ x.queues.length ≤ 140737488355328 ∧ ∀ q ∈ x.queues, q.length ≤ 140737488355328
 lanes : ∀ x ∈ s.procs, x.lanes.length ≤ 140737488355328 ∧ ∀ l ∈ x.lanes, zca2 l
section
variable {h : Hp} {Q : Bool → Hp → Prop}
theorem zut1 {a b : S_api_Config} {c : PCfg} (ra : CfgAt h a c) (rb : CfgAt h b c) (hn : CfgLe c) (hq : Q true h) : zdk Tryz.prog a b Q h := by
 unfold zdk
 obtain ⟨ps, hps, hallp⟩ := ra.procs
 obtain ⟨qs, hqs, hallq⟩ := rb.procs
 have e1 := hallp.len
 have e2 := hallq.len
 have e3 : a.Procs.len = ps.length := hps.1
 have e4 : b.Procs.len = qs.length := hqs.1
 have hpl := hn.procs
 refine zqb (zqh1 ra.labels rb.labels hn.labels ?_)
 refine ⟨fun _ => zsq (zur1 ra.table rb.table hn.table ?_), fun e => (by cases e)⟩
 refine letW (letW (letW (letW (letW (letW ?_)))))
 rw [if_neg (by rw [ra.fuel, rb.fuel, ra.lane, rb.lane, ra.locks, rb.locks, ra.log, rb.log, e3, e4, e1, e2]; simp)]
 refine forI (n := c.procs.length) (by omega) (by omega) (fun _ h' => h' = h) rfl ?_ ?_
 ·rintro i hi k rfl K hK
  refine Rw.fld hps (fun _ => rfl) (by omega) (sh := shInt .i64) (fun q => q.Part) (fun _ => rfl) (by omega) (by omega) fun x hx => ?_
  refine Rw.fld hqs (fun _ => rfl) (by omega) (sh := shInt .i64) (fun q => q.Part) (fun _ => rfl) (by omega) (by omega) fun y hy => ?_
  obtain ⟨p, hp1, hp2, _⟩ := hallp.get hx
  obtain ⟨q, hq1, hq2, _⟩ := hallq.get hy
  rw [hp1] at hq1; cases hq1
  rw [if_neg (by rw [hp2, hq2]; simp)]
  exact hK k rfl
 ·rintro k rfl; exact hq
theorem zsi1 {a b : S_api_Config} {c : PCfg} (ra : CfgAt h a c) (rb : CfgAt h b c) (hn : CfgLe c) (hq : Q true h) : zgd Tryz.prog a b Q h := by
 unfold zgd
 obtain ⟨ps, hps, hallp⟩ := ra.procs
 obtain ⟨qs, hqs, hallq⟩ := rb.procs
 have e1 := hallp.len
 have e2 := hallq.len
 have e3 : a.Procs.len = ps.length := hps.1
 have hpl := hn.procs
 refine zsk (zut1 ra rb hn ?_)
 refine LoopW2.intro (fun ok t k => k = h ∧ ok = true ∧ ∃ i : Nat, t = (i : Int) ∧ i ≤ c.procs.length) (fun _ t _ => (c.procs.length - t).toNat) ⟨rfl, rfl, 0, rfl, by omega⟩ ?_
 rintro ok t k ⟨rfl, rfl, i, rfl, hi⟩
 refine letW ?_
 by_cases hlt : i < c.procs.length
 ·rw [if_pos (by simp; omega)]
  refine Rw.fld hps (fun _ => rfl) (by omega) (sh := shSl) (fun q => q.Code) (fun _ => rfl) (by omega) (by omega) fun x hx => ?_
  refine Rw.fld hqs (fun _ => rfl) (by omega) (sh := shSl) (fun q => q.Code) (fun _ => rfl) (by omega) (by omega) fun y hy => ?_
  obtain ⟨p, hp1, hp2, is, his, him⟩ := hallp.get hx
  obtain ⟨q, hq1, hq2, js, hjs, hjm⟩ := hallq.get hy
  rw [hp1] at hq1; cases hq1
  have : is = js := zqi1 zby2 (him.trans hjm.symm)
  subst this
  refine zwy (zbz2 his hjs (by have := hn.code p (List.mem_of_getElem? hp1); rw [← him, List.length_map] at this; exact this) ?_)
  rw [zao (by omega) (by omega)]
  exact ⟨⟨rfl, rfl, i + 1, by omega, by omega⟩, by omega⟩
 ·rw [if_neg (by simp; omega)]
  exact hq
theorem zuu1 {a b : S_api_Lane} {l : PLane} (ra : LaneAt h a l) (rb : LaneAt h b l) (hn : zca2 l) (hq : Q true h) : zdo Tryz.prog a b Q h := by
 unfold zdo
 obtain ⟨ws, hws, hwm⟩ := ra.waiters
 obtain ⟨us, hus, hum⟩ := rb.waiters
 have : ws = us := zqi1 zsh1 (hwm.trans hum.symm)
 subst this
 have e1 : a.Values.len = l.values.length := ra.values.1
 have e2 : b.Values.len = l.values.length := rb.values.1
 have e3 : a.Waiters.len = ws.length := hws.1
 have e4 : b.Waiters.len = ws.length := hus.1
 have h1 := hn.values
 have h2 := hn.waiters
 rw [← hwm, List.length_map] at h2
 refine letW (letW (letW ?_))
 rw [if_neg (by rw [e1, e2, e3, e4, ra.taken, rb.taken, ra.dropped, rb.dropped]; simp)]
 refine forI (n := l.values.length) (by omega) (by omega) (fun _ h' => h' = h) rfl ?_ ?_
 ·rintro i hi k rfl K hK
  refine Rs.get (sh := shInt .i64) ra.values (fun _ => rfl) (by omega) (i := (i : Int)) (by omega) (by omega) fun (x : Int) hx => ?_
  refine Rs.get (sh := shInt .i64) rb.values (fun _ => rfl) (by omega) (i := (i : Int)) (by omega) (by omega) fun (y : Int) hy => ?_
  rw [hx] at hy
  rw [if_neg (by simp [Option.some.inj hy])]
  exact hK k rfl
 ·rintro k rfl
  refine forI (n := ws.length) (by omega) (by omega) (fun _ h' => h' = k) rfl ?_ ?_
  ·rintro i hi k2 rfl K hK
   refine Rs.get (sh := sh_api_Waiter) hws (fun _ => rfl) (by omega) (by omega) (by omega) fun x hx => ?_
   refine Rs.get (sh := sh_api_Waiter) hus (fun _ => rfl) (by omega) (by omega) (by omega) fun y hy => ?_
   rw [hx] at hy; cases hy
   refine ⟨false, zzw [(⟨ "Proc", 3, 0, false, "", "", 0⟩, .i64, x.Proc), (⟨ "Value", 2, 1, false, "", "", 8⟩, .i64, x.Value_)]
    (tb_ok.und 114 ty114 rfl) (by kernel_rfl) (by kernel_rfl) (fun q hq => ?_), ?_⟩
   ·simp only [List.mem_cons, List.not_mem_nil, or_false] at hq
    rcases hq with rfl | rfl
    ·exact ⟨by simp, tb_ok.und 3 ty3 rfl, rfl⟩
    ·exact ⟨by simp, tb_ok.und 2 ty2 rfl, rfl⟩
   ·dsimp only
    rw [if_neg (by simp)]
    exact hK k2 rfl
  ·rintro k2 rfl; exact hq
theorem zxc1 {α β : Type} {R S : α → β → Prop} {xs ys : List α} {zs : List β} {i : Nat} {x y : α} (ha : All2 R xs zs) (hb : All2 S ys zs) (hx : xs[i]? = some x) (hy : ys[i]? = some y) : ∃ z, zs[i]? = some z ∧ R x z ∧ S y z := by
 obtain ⟨p, hp1, hp2⟩ := ha.get hx
 obtain ⟨q, hq1, hq2⟩ := hb.get hy
 rw [hp1] at hq1; cases hq1
 exact ⟨p, hp1, hp2, hq2⟩
set_option maxRecDepth 20000 in
theorem zna1 {a b : S_api_Process} {p : PProcess} (ra : ProcessAt h a p) (rb : ProcessAt h b p) (hn : p.lanes.length ≤ 140737488355328 ∧ ∀ l ∈ p.lanes, zca2 l) (hq : Q true h) : zcr Tryz.prog a b Q h := by
 unfold zcr
 obtain ⟨ls, hls, halll⟩ := ra.lanes
 obtain ⟨ms, hms, hallm⟩ := rb.lanes
 have e1 := halll.len
 have e2 := hallm.len
 have e3 : a.Lanes.len = ls.length := hls.1
 have e4 : b.Lanes.len = ms.length := hms.1
 have hr : [a.Regs_0, a.Regs_1, a.Regs_2, a.Regs_3, a.Regs_4, a.Regs_5, a.Regs_6, a.Regs_7] = [b.Regs_0, b.Regs_1, b.Regs_2, b.Regs_3, b.Regs_4, b.Regs_5, b.Regs_6, b.Regs_7] := ra.regs.trans rb.regs.symm
 simp only [List.cons.injEq, and_true] at hr
 obtain ⟨r0, r1, r2, r3, r4, r5, r6, r7⟩ := hr
 refine letW ⟨false, fun _ => ?_, ?_⟩
 ·rw [r0, r1, r2, r3, r4, r5, r6, r7]
  refine zsf1 (n := 8) (e := 2) (tb_ok.und 61 ty61 rfl) (by kernel_rfl) (tb_ok.und 2 ty2 rfl) (by kernel_rfl) (by kernel_rfl) fun j hj => ?_
  match j, hj with
  | 0, _ => exact ⟨_, rfl⟩
  | 1, _ => exact ⟨_, rfl⟩
  | 2, _ => exact ⟨_, rfl⟩
  | 3, _ => exact ⟨_, rfl⟩
  | 4, _ => exact ⟨_, rfl⟩
  | 5, _ => exact ⟨_, rfl⟩
  | 6, _ => exact ⟨_, rfl⟩
  | 7, _ => exact ⟨_, rfl⟩
 refine letW (letW (letW (letW (letW (letW ?_)))))
 rw [if_neg (by rw [ra.state, rb.state, ra.pc, rb.pc, ra.cursor, rb.cursor, ra.timer, rb.timer, ra.fired, rb.fired, ra.wake, rb.wake, e3, e4, e1, e2]; simp)]
 refine forI (n := p.lanes.length) (by omega) (by omega) (fun _ h' => h' = h) rfl ?_ ?_
 ·rintro i hi k rfl K hK
  refine Rs.get (sh := sh_api_Lane) hls (fun _ => rfl) (by omega) (i := (i : Int)) (by omega) (by omega) fun x hx => ?_
  refine Rs.get (sh := sh_api_Lane) hms (fun _ => rfl) (by omega) (i := (i : Int)) (by omega) (by omega) fun y hy => ?_
  obtain ⟨z, h1, h2, h3⟩ := zxc1 halll hallm hx hy
  refine zsr (zuu1 h2 h3 (hn.2 z (List.mem_of_getElem? h1)) ?_)
  rw [if_neg (by simp)]
  exact hK k rfl
 ·rintro k rfl; exact hq
set_option maxRecDepth 20000 in
theorem zuv1 {a b : S_api_Part} {p : PPart} (ra : PartAt h a p) (rb : PartAt h b p) (hn : p.log.length ≤ 140737488355328 ∧ p.owners.length ≤ 140737488355328 ∧ p.queues.length ≤ 140737488355328 ∧ ∀ q ∈ p.queues, q.length ≤ 140737488355328) (hq : Q true h) : zdl Tryz.prog a b Q h := by
 unfold zdl
 obtain ⟨es, hes, hem⟩ := ra.log
 obtain ⟨fs, hfs, hfm⟩ := rb.log
 have : es = fs := zqi1 zus1 (hem.trans hfm.symm)
 subst this
 obtain ⟨qs, hqs, hallq⟩ := ra.queues
 obtain ⟨us, hus, hallu⟩ := rb.queues
 have e1 := hallq.len
 have e2 := hallu.len
 have e3 : a.Queues.len = qs.length := hqs.1
 have e4 : b.Queues.len = us.length := hus.1
 have e5 : a.Log.len = es.length := hes.1
 have e6 : b.Log.len = es.length := hfs.1
 obtain ⟨n1, n2, n3, n4⟩ := hn
 rw [← hem, List.length_map] at n1
 refine letW (letW (letW (letW ?_)))
 rw [if_neg (by rw [ra.cursor, rb.cursor, ra.lost, rb.lost, ra.forbidden, rb.forbidden, e3, e4, e5, e6, e1, e2]; simp)]
 refine forI (n := es.length) (by omega) (by omega) (fun _ h' => h' = h) rfl ?_ ?_
 ·rintro i hi k rfl K hK
  refine Rs.get (sh := sh_api_Entry) hes (fun _ => rfl) (by omega) (by omega) (by omega) fun x hx => ?_
  refine Rs.get (sh := sh_api_Entry) hfs (fun _ => rfl) (by omega) (by omega) (by omega) fun y hy => ?_
  rw [hx] at hy; cases hy
  refine ⟨false, zzw [(⟨ "Tick", 2, 0, false, "", "", 0⟩, .i64, x.Tick), (⟨ "Proc", 3, 1, false, "", "", 8⟩, .i64, x.Proc), (⟨ "Value", 2, 2, false, "", "", 16⟩, .i64, x.Value_)]
   (tb_ok.und 111 ty111 rfl) (by kernel_rfl) (by kernel_rfl) (fun q hq => ?_), ?_⟩
  ·simp only [List.mem_cons, List.not_mem_nil, or_false] at hq
   rcases hq with rfl | rfl | rfl
   ·exact ⟨by simp, tb_ok.und 2 ty2 rfl, rfl⟩
   ·exact ⟨by simp, tb_ok.und 3 ty3 rfl, rfl⟩
   ·exact ⟨by simp, tb_ok.und 2 ty2 rfl, rfl⟩
  ·dsimp only
   rw [if_neg (by simp)]
   exact hK k rfl
 ·rintro k rfl
  refine forI (n := p.queues.length) (by omega) (by omega) (fun _ h' => h' = k) rfl ?_ ?_
  ·rintro i hi k2 rfl K hK
   refine Rs.get (sh := shSl) hqs (fun _ => rfl) (by omega) (i := (i : Int)) (by omega) (by omega) fun x hx => ?_
   refine Rs.get (sh := shSl) hus (fun _ => rfl) (by omega) (i := (i : Int)) (by omega) (by omega) fun y hy => ?_
   obtain ⟨z, h1, h2, h3⟩ := zxc1 hallq hallu hx hy
   refine zmr (zsg1 h2 h3 (n4 z (List.mem_of_getElem? h1)) ?_)
   rw [if_neg (by simp)]
   exact hK k2 rfl
  ·rintro k2 rfl
   exact zmr (zsg1 ra.owners rb.owners n2 hq)
theorem zsj1 {a b : S_api_State} {s : PState} (ra : StateAt h a s) (rb : StateAt h b s) (hn : StLe s) (hq : Q true h) : zge Tryz.prog a b Q h := by
 unfold zge
 obtain ⟨ps, hps, hallp⟩ := ra.parts
 obtain ⟨us, hus, hallu⟩ := rb.parts
 obtain ⟨qs, hqs, hallq⟩ := ra.procs
 obtain ⟨vs, hvs, hallv⟩ := rb.procs
 have e1 := hallp.len
 have e2 := hallu.len
 have e3 := hallq.len
 have e4 := hallv.len
 have e5 : a.Parts.len = ps.length := hps.1
 have e6 : b.Parts.len = us.length := hus.1
 have e7 : a.Procs.len = qs.length := hqs.1
 have e8 : b.Procs.len = vs.length := hvs.1
 have n1 := hn.parts
 have n2 := hn.procs
 refine letW (letW ?_)
 rw [if_neg (by rw [ra.tick, rb.tick, e5, e6, e7, e8, e1, e2, e3, e4]; simp)]
 refine forI (n := s.parts.length) (by omega) (by omega) (fun _ h' => h' = h) rfl ?_ ?_
 ·rintro i hi k rfl K hK
  refine Rs.get (sh := sh_api_Part) hps (fun _ => rfl) (by omega) (i := (i : Int)) (by omega) (by omega) fun x hx => ?_
  refine Rs.get (sh := sh_api_Part) hus (fun _ => rfl) (by omega) (i := (i : Int)) (by omega) (by omega) fun y hy => ?_
  obtain ⟨z, h1, h2, h3⟩ := zxc1 hallp hallu hx hy
  refine zsl (zuv1 h2 h3 (hn.log z (List.mem_of_getElem? h1)) ?_)
  rw [if_neg (by simp)]
  exact hK k rfl
 ·rintro k rfl
  refine forI (n := s.procs.length) (by omega) (by omega) (fun _ h' => h' = k) rfl ?_ ?_
  ·rintro i hi k2 rfl K hK
   refine Rs.get (sh := sh_api_Process) hqs (fun _ => rfl) (by omega) (i := (i : Int)) (by omega) (by omega) fun x hx => ?_
   refine Rs.get (sh := sh_api_Process) hvs (fun _ => rfl) (by omega) (i := (i : Int)) (by omega) (by omega) fun y hy => ?_
   obtain ⟨z, h1, h2, h3⟩ := zxc1 hallq hallv hx hy
   refine zpc (zna1 h2 h3 (hn.lanes z (List.mem_of_getElem? h1)) ?_)
   rw [if_neg (by simp)]
   exact hK k2 rfl
  ·rintro k2 rfl; exact hq
end
end Lf

namespace Lf
open Go Go.Proofs
def LogR (c : PCfg) (s : PState) (i : Nat) (l : List znx) (k : Nat) (e : znx) : Prop :=
 (0 ≤ e.tick ∧ e.tick ≤ s.tick - 1) ∧ (∀ d, 0 < k → l[k - 1]? = some d → d.tick ≤ e.tick) ∧ ofP c e.proc i
def OwnR (c : PCfg) (s : PState) (i : Nat) (z : PPart) (k : Nat) (o : Int) : Prop :=
 (o = -1 ∨ ofR c s o i) ∧ ∀ q, z.queues[k]? = some q → (o = -1 → q = []) ∧ ∀ p ∈ q, ofR c s p i ∧ (stP s p fun z => z.state = 3) ∧ o ≠ p
section
variable {h : Hp} {b : Nat} {x : S_api_Config} {y : S_api_State} {c : PCfg} {s : PState}
theorem zuw1 (k : RM h b x y c s) {i : Nat} {l : List znx} {es : List S_api_Entry} {L : Sl} (hes : EntS h L es) (hmap : es.map znz = l) {j : Nat} {e : S_api_Entry} (he : es[j]? = some e) (hj : j < 4611686018427387904) {K : Bool → Prop} (hk : ∀ r, (r = true ↔ ¬ LogR c s i l j (znz e)) → K r) :
  ∀ r3 : Bool, (r3 = true ↔ 0 ≤ e.Tick ∧ e.Tick ≤ s.tick - 1) →
  ((((!(!r3)) && (decide ((j : Int) > (0 : Int)))) = true → (InB L.base L.len (IntKind.wrap .i64 ((j : Int) - (1 : Int))))) ∧ LdW (some ((!(!r3)) && (decide ((j : Int) > (0 : Int))))) (shInt .i64) h (Addr.add (sat L.base 3 (IntKind.wrap .i64 ((j : Int) - (1 : Int)))) 0) fun x5 =>
   LetW ((decide ((j : Int) > (0 : Int))) && (decide (e.Tick < x5))) fun y6 =>
   LetW ((!r3) || y6) fun y7 =>
   LetW (y7 || (decide (e.Proc < (0 : Int)))) fun y8 =>
   NilW (some (!y8)) (some ⟨b, 0, none⟩) fun p3 =>
   LdW (some (!y8)) shSl h (Addr.add (Addr.add p3 0) 6) fun x6 =>
   LetW (y8 || (decide (e.Proc ≥ ((x6.len : Nat) : Int)))) fun y9 =>
   NilW (some (!y9)) (some ⟨b, 0, none⟩) fun p4 =>
   LdW (some (!y9)) shSl h (Addr.add (Addr.add p4 0) 6) fun x7 =>
   (((!y9) = true → (InB x7.base x7.len e.Proc)) ∧ LdW (some (!y9)) (shInt .i64) h (Addr.add (sat x7.base 2 e.Proc) 0) fun x8 =>
   LetW (y9 || (x8 != (i : Int))) fun y10 => K y10)) := by
 intro r3 hr3
 have hB : LdIs h (Addr.add (Addr.add ⟨b, 0, none⟩ 0) 6) (zae (shSl.enc x.Procs)) := k.box.ldIs (off := 6) (n := 1) rfl
 obtain ⟨ps, hps, hall⟩ := k.cfg.procs
 have hlp : x.Procs.len = ps.length := hps.1
 have hjl := (List.getElem?_eq_some_iff.1 he).1
 rw [zao (by omega) (by omega)]
 refine Rw.fldC hes (fun _ => rfl) (by omega) (sh := shInt .i64) (fun q => q.Tick) (fun _ => rfl) (0 : Int) (fun e => by simp at e; omega) fun (x5 : Int) hx5 => fun y6 hy6 => fun y7 hy7 => fun y8 hy8 => ?_
 have h7 : y7 = true ↔ ¬ ((0 ≤ e.Tick ∧ e.Tick ≤ s.tick - 1) ∧ ∀ d, 0 < j → l[j - 1]? = some d → d.tick ≤ e.Tick) := by
  subst hy7
  refine zjj1 (y := !r3) (by rw [← hr3]; simp) fun hA => ?_
  have hr : r3 = true := hr3.2 hA
  subst hy6
  rw [hr] at hx5
  simp only [Bool.and_eq_true, decide_eq_true_eq]
  constructor
  ·rintro ⟨hj0, hlt⟩ hh
   obtain ⟨d, hd, hd2⟩ := hx5 (by simp; omega)
   have hd2 : x5 = d.Tick := hd2
   have hd' : es[j - 1]? = some d := by rw [← hd]; congr 1; omega
   have : d.Tick ≤ e.Tick := hh (znz d) (by omega) (by rw [← hmap, List.getElem?_map, hd']; rfl)
   omega
  ·intro hn
   refine Classical.byContradiction fun hcc => hn fun d hj0 hd => ?_
   obtain ⟨d', hd', hd2⟩ := hx5 (by simp; omega)
   have hd2 : x5 = d'.Tick := hd2
   have hd' : es[j - 1]? = some d' := by rw [← hd']; congr 1; omega
   rw [← hmap, List.getElem?_map, hd'] at hd
   cases hd
   show d'.Tick ≤ e.Tick
   omega
 refine zad (ldC (sh := shSl) x.Procs hB fun y9 hy9 => zad (ldC (sh := shSl) x.Procs hB ?_))
 refine Rw.fldC hps (fun _ => rfl) (by omega) (sh := shInt .i64) (fun q => q.Part) (fun _ => rfl) (0 : Int) (fun e => by subst hy9 hy8; simp at e; omega) fun (v : Int) hv => letW (hk _ ?_)
 unfold LogR
 rw [← and_assoc]
 subst hy9 hy8
 rw [Bool.or_assoc, Bool.or_assoc]
 refine zjj1 h7 fun hA => ?_
 have e7 : y7 = false := by rw [← Bool.not_eq_true, h7]; exact fun hn => hn hA
 rw [e7] at hv
 unfold ofP
 simp only [znz, Bool.or_eq_true, decide_eq_true_eq, bne_iff_ne]
 constructor
 ·rintro hor ⟨h0, z, hz, hz2⟩
  obtain ⟨q, hq1, hq2, _⟩ := hall.get' hz
  have hlt := (List.getElem?_eq_some_iff.1 hq1).1
  obtain ⟨q', hq1', hq2'⟩ := hv (by simp; omega)
  rw [hq1] at hq1'; cases hq1'
  rcases hor with hor | hor | hor
  ·omega
  ·omega
  ·exact hor (by rw [hq2', hq2]; exact hz2)
 ·intro hn
  by_cases h0 : e.Proc < 0
  ·exact .inl h0
  by_cases h1 : e.Proc ≥ ((x.Procs.len : Nat) : Int)
  ·exact .inr (.inl h1)
  refine .inr (.inr fun hvi => hn ?_)
  obtain ⟨q, hq1, hq2⟩ := hv (by simp; omega)
  obtain ⟨z, hz1, hz2, _⟩ := hall.get hq1
  exact ⟨by omega, z, hz1, by rw [← hz2, ← hq2]; exact hvi⟩
set_option maxRecDepth 20000 in
theorem zyk1 (k : RM h b x y c s) (hS : StLe s) {i : Nat} {z : PPart} (hi : s.parts[i]? = some z) {Q : Bool → Hp → Prop} (hq : ∀ r h', h ≤ h' → (r = true ↔ PartR c s i z) → Q r h') : zcm Tryz.prog (some ⟨b, 0, none⟩) (i : Int) Q h := by
 unfold zcm
 obtain ⟨ps0, hps0, hall0⟩ := k.st.parts
 obtain ⟨w, hw1, _⟩ := hall0.get' hi
 have hwl := (List.getElem?_eq_some_iff.1 hw1).1
 refine zad (ld_at (sh := shSl) y.Parts (k.box.ldIs (off := 8) (n := 1) rfl) ?_)
 refine Rs.get (sh := sh_api_Part) hps0 (fun _ => rfl) (by omega) (by omega) (by omega) fun w' hw' => ?_
 have hw' : ps0[i]? = some w' := hw'
 rw [hw1] at hw'; cases hw'
 refine zqd (zbh2 k fun l h1 l1 hlen => ?_)
 have k1 := k.mono l1
 obtain ⟨z', hz', hw2⟩ := (hall0.imp fun _ _ e => PartAt.mono l1 e).get hw1
 rw [hi] at hz'; cases hz'
 obtain ⟨hzo, hzq, hzl⟩ := k.sizes.2.1 z (List.mem_of_getElem? hi)
 obtain ⟨-, ⟨hL0, hL8⟩, ⟨hG0, hG1⟩, -, ⟨hP1, hP32⟩, -⟩ := zsx k.ok
 obtain ⟨es, hes, hmap⟩ := hw2.log
 have hel : w.Log.len = es.length := hes.1
 have hxl : z.log.length = es.length := by rw [← hmap, List.length_map]
 have hol : w.Owners.len = z.owners.length := hw2.owners.1
 obtain ⟨qs, hqs, hallQ⟩ := hw2.queues
 have hql : w.Queues.len = qs.length := hqs.1
 have hql2 := hallQ.len
 have htk : y.Tick = s.tick := k.st.tick
 have hfl : x.Log = c.log := k.cfg.log
 rw [hw2.cursor, hw2.lost, hw2.forbidden, hlen]
 refine letW fun y1 hy1 => ?_
 have a1 : y1 = true ↔ ¬ (0 ≤ z.cursor ∧ (0 < z.cursor → z.cursor < manyP c i)) := by
  subst hy1
  simp only [Bool.or_eq_true, Bool.and_eq_true, decide_eq_true_eq]
  omega
 refine effI (fun r => r = true ↔ Cnt z.lost) false (fun _ hk => zcy (zsv hk)) fun r1 hr1 => fun y2 hy2 => ?_
 have a2 : y2 = true ↔ ¬ ((0 ≤ z.cursor ∧ (0 < z.cursor → z.cursor < manyP c i)) ∧ Cnt z.lost) := by subst hy2; exact zof1 a1 hr1
 refine effI (fun r => r = true ↔ Cnt z.forbidden) false (fun _ hk => zcy (zsv hk)) fun r2 hr2 => fun y3 hy3 => ?_
 have a3 : y3 = true ↔ ¬ (((0 ≤ z.cursor ∧ (0 < z.cursor → z.cursor < manyP c i)) ∧ Cnt z.lost) ∧ Cnt z.forbidden) := by subst hy3; exact zof1 a2 hr2
 refine zad (ldC (sh := shInt .i64) x.Log (k1.box.ldIs (off := 5) (n := 1) rfl) fun y4 hy4 => fun y5 hy5 => ?_)
 have a5 : y5 = true ↔ ¬ ((((0 ≤ z.cursor ∧ (0 < z.cursor → z.cursor < manyP c i)) ∧ Cnt z.lost) ∧ Cnt z.forbidden) ∧ (0 < z.lost → c.log ≤ z.log.length)) := by
  subst hy5
  refine zjj1 a3 fun _ => ?_
  subst hy4
  simp only [Bool.and_eq_true, decide_eq_true_eq]
  omega
 dsimp only
 by_cases hy5' : y5 = true
 ·rw [if_pos hy5']
  refine hq _ _ l1 ⟨fun e => (by cases e), fun hh => ?_⟩
  exact absurd ⟨⟨⟨hh.1, hh.2.1⟩, hh.2.2.1⟩, hh.2.2.2.1⟩ (a5.1 hy5')
 rw [if_neg hy5']
 obtain ⟨⟨⟨c1, c2⟩, c3⟩, c4⟩ := Classical.not_not.1 fun hn => hy5' (a5.2 hn)
 have hP : PartR c s i z ↔ (∀ (k : Nat) e, z.log[k]? = some e → LogR c s i z.log k e) ∧ ∀ (k : Nat) o, z.owners[k]? = some o → OwnR c s i z k o :=
  ⟨fun hh => hh.2.2.2.2, fun hh => ⟨c1, c2, c3, c4, hh⟩⟩
 refine forI (n := es.length) (by omega) (by omega) (fun j h' => h' = h1 ∧ ∀ (k : Nat) e, k < j → z.log[k]? = some e → LogR c s i z.log k e) ⟨rfl, fun _ _ hj => by omega⟩ ?_ ?_
 ·rintro j hj h2 ⟨rfl, hI⟩ K hK
  refine Rs.get (sh := sh_api_Entry) hes (fun _ => rfl) (by omega) (by omega) (by omega) fun e he => ?_
  have he : es[j]? = some e := he
  have hE : z.log[j]? = some (znz e) := by rw [← hmap, List.getElem?_map, he]; rfl
  refine zad (ld_at (sh := shInt .i64) y.Tick (k1.box.ldIs (off := 7) (n := 1) rfl) ?_)
  have ht := k.sizes.1.1
  rw [htk, zao (by omega) (by omega)]
  refine zde (zpm fun r3 hr3 => ?_)
  refine zuw1 k1 hes hmap he (by omega) (fun y10 hy10 => ?_) r3 hr3
  by_cases hy : y10 = true
  ·rw [if_pos hy]
   exact hq _ _ l1 ⟨fun e => (by cases e), fun hh => absurd ((hP.1 hh).1 j _ hE) (hy10.1 hy)⟩
  ·rw [if_neg hy]
   refine hK _ ⟨rfl, fun m e' hm he' => ?_⟩
   by_cases hmj : m < j
   ·exact hI m e' hmj he'
   ·have : m = j := by omega
    subst this
    rw [hE] at he'; cases he'
    exact Classical.not_not.1 fun hn => hy (hy10.2 hn)
 ·rintro h2 ⟨rfl, hI⟩
  have hLog : ∀ (k : Nat) e, z.log[k]? = some e → LogR c s i z.log k e := fun k e he => hI k e (by have := (List.getElem?_eq_some_iff.1 he).1; omega) he
  refine forI (n := z.owners.length) (by omega) (by omega) (fun j h' => h' = h2 ∧ ∀ (k : Nat) o, k < j → z.owners[k]? = some o → OwnR c s i z k o) ⟨rfl, fun _ _ hj => by omega⟩ ?_ ?_
  ·rintro j hj h3 ⟨rfl, hI2⟩ K hK
   refine Rs.get (sh := shInt .i64) hw2.owners (fun _ => rfl) (by omega) (by omega) (by omega) fun (o : Int) ho => ?_
   have ho : z.owners[j]? = some o := ho
   have hgo : ∀ {cnd : Bool} {K' : Int → Prop}, K' o → ((cnd = true → (InB w.Owners.base w.Owners.len (j : Int))) ∧ LdW (some cnd) (shInt .i64) h3 (sat w.Owners.base 1 (j : Int)) K') := fun {cnd} {K'} hk => by
    obtain ⟨hin, v, hv, rfl⟩ := Rs.get (sh := shInt .i64) hw2.owners (fun _ => rfl) (by omega) (i := (j : Int)) (by omega) (by omega) (K := fun (v : Int) => v = o) fun (v : Int) hv => by
     have hv : z.owners[j]? = some v := hv
     rw [ho] at hv; exact (Option.some.inj hv).symm
    exact ⟨fun _ => hin, v, fun _ => hv, hk⟩
   have hjq : j < qs.length := by omega
   have hqj := List.getElem?_eq_getElem hjq
   generalize qs[j] = ql at hqj
   obtain ⟨q, hq1, hq2⟩ := hallQ.get hqj
   have hqlen : ql.len = q.length := hq2.1
   refine hgo ?_
   refine effI (fun r => r = true ↔ ofR c s o i) false (fun _ hk => zdy (zqb1 k1 hk)) fun r3 hr3 => fun y6 hy6 => ?_
   have a6 : y6 = true ↔ (o = -1 ∨ ofR c s o i) := by
    subst hy6
    by_cases ho1 : o = -1
    ·simp [ho1]
    ·have e : (o == (-1 : Int)) = false := by simpa using ho1
     rw [e] at hr3 ⊢
     rw [Bool.false_or, hr3 rfl]
     exact ⟨fun e => .inr e, fun e => e.resolve_left ho1⟩
   refine hgo ?_
   refine Rs.getC (sh := shSl) hqs ql (fun _ => rfl) (by omega) (fun _ => by omega) fun ql' hql' => fun y7 hy7 => fun y8 hy8 => ?_
   have a8 : y8 = true ↔ ¬ ((o = -1 ∨ ofR c s o i) ∧ (o = -1 → q = [])) := by
    subst hy8
    refine zjj1 (y := !y6) (by rw [← a6]; simp) fun hA => ?_
    have e6 := a6.2 hA
    rw [e6] at hql'
    subst hy7
    by_cases ho1 : o = -1
    ·have hh := hql' (by simp [ho1])
     have hh : qs[j]? = some ql' := hh
     rw [hqj] at hh; cases hh
     simp only [ho1, beq_self_eq_true, Bool.true_and, decide_eq_true_eq, forall_const, ← List.length_eq_zero_iff]
     omega
    ·have e : (o == (-1 : Int)) = false := by simpa using ho1
     rw [e]
     exact ⟨fun e => (by cases e), fun hn => absurd (fun e => absurd e ho1) hn⟩
   dsimp only
   by_cases hy : y8 = true
   ·rw [if_pos hy]
    refine hq _ _ l1 ⟨fun e => (by cases e), fun hh => ?_⟩
    have := (hP.1 hh).2 j o ho
    exact absurd ⟨this.1, (this.2 q hq1).1⟩ (a8.1 hy)
   rw [if_neg hy]
   obtain ⟨d1, d2⟩ := Classical.not_not.1 fun hn => hy (a8.2 hn)
   have hfew := ((hS.log z (List.mem_of_getElem? hi)).2.2.2) q (List.mem_of_getElem? hq1)
   refine loopN (n := q.length) (by omega) (fun n h' => h' = h3 ∧ ∀ (m : Nat) p, m < n → q[m]? = some p → ofR c s p i ∧ (stP s p fun z => z.state = 3) ∧ o ≠ p) ⟨rfl, fun _ _ hm => by omega⟩ ?_
   rintro n hn h4 ⟨rfl, hI3⟩ K2 hK2
   have hgq : ∀ {K' : Sl → Prop}, K' ql → ((InB w.Queues.base w.Queues.len (j : Int)) ∧ LdW none shSl h4 (sat w.Queues.base 1 (j : Int)) K') := fun {K'} hk => by
    refine Rs.get (sh := shSl) hqs (fun _ => rfl) (by omega) (by omega) (by omega) fun v hv => ?_
    have hv : qs[j]? = some v := hv
    rw [hqj] at hv; cases hv
    exact hk
   refine hgq ?_
   by_cases hlt : n < q.length
   ·rw [if_pos (decide_eq_true (by omega))]
    refine hgq ?_
    refine Rs.get (sh := shInt .i64) hq2 (fun _ => rfl) (by omega) (by omega) (by omega) fun (p : Int) hp => ?_
    have hp : q[n]? = some p := hp
    refine zdy (zqb1 k1 fun r4 hr4 => ?_)
    refine zad (ldC (sh := shSl) y.Procs (k1.box.ldIs (off := 9) (n := 1) rfl) ?_)
    obtain ⟨pp, hpp, hallp⟩ := k1.st.procs
    have hppl : y.Procs.len = pp.length := hpp.1
    have hpl2 := hallp.len
    have hpl3 := k.sizes.1.2.2
    refine Rw.fldC hpp (fun _ => rfl) (by omega) (sh := shInt .i64) (fun q => q.State) (fun _ => rfl) (0 : Int) (fun e => ?_) fun (v : Int) hv => fun y9 hy9 => ?_
    ·obtain ⟨⟨h0, u, hu, _⟩, _⟩ := hr4.1 (by simpa using e)
     have := (List.getElem?_eq_some_iff.1 hu).1
     omega
    have a9 : y9 = true ↔ ¬ (ofR c s p i ∧ stP s p fun z => z.state = 3) := by
     subst hy9
     refine zjj1 (y := !r4) (by rw [← hr4]; simp) fun hA => ?_
     have := hr4.2 hA
     rw [this] at hv
     obtain ⟨u, hu, rfl⟩ := hv rfl
     obtain ⟨u', hu', hu2⟩ := hallp.get hu
     rw [bne_iff_ne, hu2.state]
     refine not_congr ⟨fun e => ⟨_, hu', e⟩, fun ⟨z1, hz1, hz2⟩ => ?_⟩
     rw [hu'] at hz1; cases hz1
     exact hz2
    refine hgo (letW ?_)
    have a10 : (y9 || (o == p)) = true ↔ ¬ ((ofR c s p i ∧ stP s p fun z => z.state = 3) ∧ o ≠ p) := zjj1 a9 fun _ => by simp
    by_cases hy10 : (y9 || (o == p)) = true
    ·rw [if_pos hy10]
     refine hq _ _ l1 ⟨fun e => (by cases e), fun hh => ?_⟩
     obtain ⟨g1, g2, g3⟩ := (((hP.1 hh).2 j o ho).2 q hq1).2 p (List.mem_of_getElem? hp)
     exact absurd ⟨⟨g1, g2⟩, g3⟩ (a10.1 hy10)
    ·rw [if_neg hy10]
     obtain ⟨⟨g1, g2⟩, g3⟩ := Classical.not_not.1 fun hn => hy10 (a10.2 hn)
     refine hK2 hlt _ ⟨rfl, fun m p' hm hp' => ?_⟩
     by_cases hmn : m < n
     ·exact hI3 m p' hmn hp'
     ·have : m = n := by omega
      subst this
      rw [hp] at hp'; cases hp'
      exact ⟨g1, g2, g3⟩
   ·rw [if_neg (fun e => hlt (by have := of_decide_eq_true e; omega))]
    refine hK _ ⟨rfl, fun m o' hm ho' => ?_⟩
    by_cases hmj : m < j
    ·exact hI2 m o' hmj ho'
    ·have : m = j := by omega
     subst this
     rw [ho] at ho'; cases ho'
     refine ⟨d1, fun q' hq' => ?_⟩
     rw [hq1] at hq'; cases hq'
     refine ⟨d2, fun p hp => ?_⟩
     obtain ⟨m, hm⟩ := List.getElem?_of_mem hp
     exact hI3 m p (by have := (List.getElem?_eq_some_iff.1 hm).1; omega) hm
  ·rintro h3 ⟨rfl, hI2⟩
   refine hq _ _ l1 ⟨fun _ => hP.2 ⟨hLog, fun k o ho => hI2 k o (by have := (List.getElem?_eq_some_iff.1 ho).1; omega) ho⟩, fun _ => rfl⟩
end
end Lf

namespace Lf
open Go Go.Proofs
section
variable {h : Hp} {b : Nat} {x : S_api_Config} {y : S_api_State} {c : PCfg} {s : PState}
theorem zux1 (cx : CfgAt h x c) (sy : StateAt h y s) (ok : (cfgE c).1 = 0) (hS : StLe s) {Q : Bool → Hp → Prop} (hq : ∀ r, (r = true ↔ zrl1 c s) → Q r h) : zfq Tryz.prog x y Q h := by
 unfold zfq
 obtain ⟨ps, hps, hall⟩ := sy.parts
 obtain ⟨qs, hqs, hallq⟩ := sy.procs
 obtain ⟨cs, hcs, hallc⟩ := cx.procs
 have l1 := hall.len
 have l2 := hallq.len
 have l3 := hallc.len
 have e1 : y.Parts.len = ps.length := hps.1
 have e2 : y.Procs.len = qs.length := hqs.1
 have e3 : x.Procs.len = cs.length := hcs.1
 have e4 : x.Labels.len = c.labels.length := cx.labels.1
 obtain ⟨⟨hA1, hA8⟩, -, -, -, ⟨hP1, hP32⟩, -⟩ := zsx ok
 have s1 := hS.parts
 have s2 := hS.procs
 refine fun y1 hy1 => ?_
 have a1 : y1 = true ↔ ¬ (s.parts.length = c.labels.length ∧ s.procs.length = c.procs.length) := by
  subst hy1
  simp only [Bool.or_eq_true, bne_iff_ne]
  omega
 refine effI (fun r => r = true ↔ 0 ≤ s.tick ∧ s.tick ≤ 4611686018427387904) false (fun _ hk => zde (zpm (sy.tick ▸ hk))) fun r hr => fun y2 hy2 => ?_
 have a2 : y2 = true ↔ ¬ ((s.parts.length = c.labels.length ∧ s.procs.length = c.procs.length) ∧ (0 ≤ s.tick ∧ s.tick ≤ 4611686018427387904)) := by subst hy2; exact zof1 a1 hr
 dsimp only
 by_cases hy : y2 = true
 ·rw [if_pos hy]
  exact hq _ ⟨fun e => (by cases e), fun hh => absurd ⟨hh.1.2, hh.1.1⟩ (a2.1 hy)⟩
 rw [if_neg hy]
 obtain ⟨b1, b2⟩ := Classical.not_not.1 fun hn => hy (a2.2 hn)
 have hZ : zrl1 c s ↔ (∀ x ∈ s.parts, (x.owners.length : Int) = c.locks ∧ (x.queues.length : Int) = c.locks ∧ (x.log.length : Int) ≤ c.log) ∧ ∀ x ∈ s.procs, x.lanes.length = c.labels.length + 1 ∧ ∀ l ∈ x.lanes, (l.values.length : Int) ≤ c.lane :=
  ⟨fun hh => hh.2, fun hh => ⟨⟨b2, b1⟩, hh⟩⟩
 rw [cx.locks, cx.log]
 refine forI (n := ps.length) (by omega) (by omega) (fun j h' => h' = h ∧ ∀ (k : Nat) z, k < j → s.parts[k]? = some z → (z.owners.length : Int) = c.locks ∧ (z.queues.length : Int) = c.locks ∧ (z.log.length : Int) ≤ c.log) ⟨rfl, fun _ _ hj => by omega⟩ ?_ ?_
 ·rintro j hj h2 ⟨rfl, hI⟩ K hK
  refine Rw.fld hps (fun _ => rfl) (by omega) (sh := shSl) (fun q => q.Owners) (fun _ => rfl) (by omega) (by omega) fun w hw => ?_
  have hw : ps[j]? = some w := hw
  obtain ⟨z, hz, hzw⟩ := hall.get hw
  have f1 : w.Owners.len = z.owners.length := hzw.owners.1
  obtain ⟨us, hus, hallu⟩ := hzw.queues
  have f2 : w.Queues.len = us.length := hus.1
  have f2' := hallu.len
  obtain ⟨es, hes, hmap⟩ := hzw.log
  have f3 : w.Log.len = es.length := hes.1
  have f3' : z.log.length = es.length := by rw [← hmap, List.length_map]
  have one : ∀ (g : S_api_Part → Sl) (off : Nat) (hg : ∀ x, ((zae (sh_api_Part.enc x)).drop off).take (zae (shSl.enc (g x))).length = zae (shSl.enc (g x))) {cnd : Bool} {K' : Sl → Prop}, K' (g w) →
    ((cnd = true → (InB y.Parts.base y.Parts.len (j : Int))) ∧ LdW (some cnd) shSl h2 (Addr.add (sat y.Parts.base 6 (j : Int)) off) K') := fun g off hg {cnd} {K'} hk => by
   obtain ⟨hin, v, hv, rfl⟩ := Rw.fld hps (fun _ => rfl) (by omega) (sh := shSl) g hg (i := (j : Int)) (by omega) (by omega) (K := fun v => v = g w) fun q hq => by
    have hq : ps[j]? = some q := hq
    rw [hw] at hq; cases hq; rfl
   exact ⟨fun _ => hin, _, fun _ => hv, hk⟩
  refine one (fun q => q.Queues) 5 (fun _ => rfl) (letW ?_)
  refine one (fun q => q.Log) 1 (fun _ => rfl) fun y3 hy3 => ?_
  have a3 : y3 = true ↔ ¬ ((z.owners.length : Int) = c.locks ∧ (z.queues.length : Int) = c.locks ∧ (z.log.length : Int) ≤ c.log) := by
   subst hy3
   simp only [Bool.or_eq_true, bne_iff_ne, decide_eq_true_eq]
   omega
  dsimp only
  by_cases hy3' : y3 = true
  ·rw [if_pos hy3']
   exact hq _ ⟨fun e => (by cases e), fun hh => absurd ((hZ.1 hh).1 z (List.mem_of_getElem? hz)) (a3.1 hy3')⟩
  ·rw [if_neg hy3']
   refine hK _ ⟨rfl, fun m z' hm hz' => ?_⟩
   by_cases hmj : m < j
   ·exact hI m z' hmj hz'
   ·have : m = j := by omega
    subst this
    rw [hz] at hz'; cases hz'
    exact Classical.not_not.1 fun hn => hy3' (a3.2 hn)
 ·rintro h2 ⟨rfl, hI⟩
  have hA : ∀ z ∈ s.parts, (z.owners.length : Int) = c.locks ∧ (z.queues.length : Int) = c.locks ∧ (z.log.length : Int) ≤ c.log := fun z hz => by
   obtain ⟨m, hm⟩ := List.getElem?_of_mem hz
   exact hI m z (by have := (List.getElem?_eq_some_iff.1 hm).1; omega) hm
  refine forI (n := qs.length) (by omega) (by omega) (fun j h' => h' = h2 ∧ ∀ (k : Nat) z, k < j → s.procs[k]? = some z → z.lanes.length = c.labels.length + 1 ∧ ∀ l ∈ z.lanes, (l.values.length : Int) ≤ c.lane) ⟨rfl, fun _ _ hj => by omega⟩ ?_ ?_
  ·rintro j hj h3 ⟨rfl, hI2⟩ K hK
   have hjl := List.getElem?_eq_getElem hj
   generalize qs[j] = w at hjl
   have one : ∀ {K' : Sl → Prop}, K' w.Lanes → (InB y.Procs.base y.Procs.len (j : Int)) ∧ LdW none shSl h3 (Addr.add (sat y.Procs.base 15 (j : Int)) 14) K' := fun {K'} hk =>
    Rw.fld hqs (fun _ => rfl) (by omega) (sh := shSl) (fun q => q.Lanes) (fun _ => rfl) (by omega) (by omega) fun q hq => by
     have hq : qs[j]? = some q := hq
     rw [hjl] at hq; cases hq; exact hk
   obtain ⟨z, hz, hzw⟩ := hallq.get hjl
   obtain ⟨ls, hls, hallL⟩ := hzw.lanes
   have f1 : w.Lanes.len = ls.length := hls.1
   have f2 := hallL.len
   have hzs := hS.lanes z (List.mem_of_getElem? hz)
   refine one ?_
   rw [f1, f2, e4, zao (by omega) (by omega)]
   by_cases hn : z.lanes.length = c.labels.length + 1
   ·rw [if_neg (by rw [bne_iff_ne]; omega)]
    refine loopN (n := ls.length) (by omega) (fun m h' => h' = h3 ∧ ∀ (k : Nat) l, k < m → z.lanes[k]? = some l → (l.values.length : Int) ≤ c.lane) ⟨rfl, fun _ _ hm => by omega⟩ ?_
    rintro m hm h4 ⟨rfl, hI3⟩ K2 hK2
    refine one ?_
    by_cases hlt : m < ls.length
    ·rw [if_pos (decide_eq_true (by omega))]
     refine one ?_
     refine Rw.fld hls (fun _ => rfl) (by omega) (sh := shSl) (fun q => q.Values) (fun _ => rfl) (by omega) (by omega) fun u hu => ?_
     have hu : ls[m]? = some u := hu
     obtain ⟨l, hl, hlu⟩ := hallL.get hu
     have f3 : u.Values.len = l.values.length := hlu.values.1
     rw [cx.lane, f3]
     by_cases hv : (l.values.length : Int) ≤ c.lane
     ·rw [if_neg (fun e => by have := of_decide_eq_true e; omega)]
      refine hK2 hlt _ ⟨rfl, fun k l' hk hl' => ?_⟩
      by_cases hkm : k < m
      ·exact hI3 k l' hkm hl'
      ·have : k = m := by omega
       subst this
       rw [hl] at hl'; cases hl'
       exact hv
     ·rw [if_pos (decide_eq_true (by omega))]
      exact hq _ ⟨fun e => (by cases e), fun hh => absurd (((hZ.1 hh).2 z (List.mem_of_getElem? hz)).2 l (List.mem_of_getElem? hl)) hv⟩
    ·rw [if_neg (fun e => hlt (by have := of_decide_eq_true e; omega))]
     refine hK _ ⟨rfl, fun k z' hk hz' => ?_⟩
     by_cases hkj : k < j
     ·exact hI2 k z' hkj hz'
     ·have : k = j := by omega
      subst this
      rw [hz] at hz'; cases hz'
      refine ⟨hn, fun l hl => ?_⟩
      obtain ⟨k, hk⟩ := List.getElem?_of_mem hl
      exact hI3 k l (by have := (List.getElem?_eq_some_iff.1 hk).1; omega) hk
   ·rw [if_pos (by rw [bne_iff_ne]; omega)]
    exact hq _ ⟨fun e => (by cases e), fun hh => absurd ((hZ.1 hh).2 z (List.mem_of_getElem? hz)).1 hn⟩
  ·rintro h3 ⟨rfl, hI2⟩
   refine hq _ ⟨fun _ => hZ.2 ⟨hA, fun z hz => ?_⟩, fun _ => rfl⟩
   obtain ⟨m, hm⟩ := List.getElem?_of_mem hz
   exact hI2 m z (by have := (List.getElem?_eq_some_iff.1 hm).1; omega) hm
end
end Lf

namespace Lf
open Go Go.Proofs
def LaneR (c : PCfg) (s : PState) (x : PProcess) (y : PProc) (k : Nat) (l : PLane) : Prop :=
 Cnt l.taken ∧ Cnt l.dropped ∧ (k < c.labels.length → Used l → fl c.labels (k : Int) y.part = true) ∧ (l.waiters ≠ [] → (k : Int) = y.part ∧ x.state < 5 ∧ c.lane ≤ l.values.length) ∧
  ∀ w ∈ l.waiters, (∀ i : Nat, (i : Int) = y.part → ofR c s w.proc i) ∧ stP s w.proc fun z => z.state = 2
section
variable {h : Hp} {b : Nat} {x : S_api_Config} {y : S_api_State} {c : PCfg} {s : PState}
theorem RM.getProc (k : RM h b x y c s) {p : Nat} {z : PProcess} (hz : s.procs[p]? = some z) {Z : S_api_Process → Prop} : (∃ w, ProcessAt h w z ∧ ∀ {K : S_api_Process → Prop}, K w → (InB y.Procs.base y.Procs.len (p : Int) ∧ LdW none sh_api_Process h (sat y.Procs.base 15 (p : Int)) K)) := by
 obtain ⟨qs, hqs, hallq⟩ := k.st.procs
 obtain ⟨w, hw1, hw2⟩ := hallq.get' hz
 have hwl := (List.getElem?_eq_some_iff.1 hw1).1
 refine ⟨w, hw2, fun {K} hk => ?_⟩
 refine Rs.get (sh := sh_api_Process) hqs (fun _ => rfl) (by omega) (by omega) (by omega) fun w' hw' => ?_
 have hw' : qs[p]? = some w' := hw'
 rw [hw1] at hw'; cases hw'
 exact hk
theorem RM.getCfg (k : RM h b x y c s) {p : Nat} {u : PProc} (hu : c.procs[p]? = some u) : (∃ q, ProcAt h q u ∧ (∀ {K : Int → Prop}, K u.part → (InB x.Procs.base x.Procs.len (p : Int) ∧ LdW none (shInt .i64) h (Addr.add (sat x.Procs.base 2 (p : Int)) 0) K)) ∧
  ∀ {cnd : Option Bool} {K : Sl → Prop}, K q.Code → (InB x.Procs.base x.Procs.len (p : Int) ∧ LdW cnd shSl h (Addr.add (sat x.Procs.base 2 (p : Int)) 1) K)) := by
 obtain ⟨ps, hps, hall⟩ := k.cfg.procs
 obtain ⟨q, hq1, hq2⟩ := hall.get' hu
 have hql := (List.getElem?_eq_some_iff.1 hq1).1
 refine ⟨q, hq2, fun {K} hk => ?_, fun {cnd} {K} hk => ?_⟩
 ·refine Rw.fld hps (fun _ => rfl) (by omega) (sh := shInt .i64) (fun q => q.Part) (fun _ => rfl) (by omega) (by omega) fun q' hq' => ?_
  have hq' : ps[p]? = some q' := hq'
  rw [hq1] at hq'; cases hq'
  rw [hq2.1]; exact hk
 ·obtain ⟨hin, v, hv, rfl⟩ := Rw.fld hps (fun _ => rfl) (by omega) (sh := shSl) (fun q => q.Code) (j := 1) (fun _ => rfl) (i := (p : Int)) (by omega) (by omega) (K := fun v => v = q.Code) fun q' hq' => by
   have hq' : ps[p]? = some q' := hq'
   rw [hq1] at hq'; cases hq'; rfl
  refine ⟨hin, q.Code, ?_, hk⟩
  cases cnd with
  | none => exact hv
  | some _ => exact fun _ => hv
theorem refFlows15_ok' (k : RM h b x y c s) {i : Nat} {j : Int} (hi : i < c.labels.length) (hj : 0 ≤ j ∧ j < c.labels.length) {Q : Bool → Hp → Prop} (hq : Q (fl c.labels (i : Int) j) h) : zbl Tryz.prog (some ⟨b, 0, none⟩) (i : Int) j Q h := by
 have e : j = ((j.toNat : Nat) : Int) := by omega
 rw [e] at hq ⊢
 exact zqc1 k hi (by omega) hq
theorem refOf_ok' (k : RM h b x y c s) {p i : Int} (hi : 0 ≤ i) {Q : Bool → Hp → Prop} (hq : ∀ r, (r = true ↔ ofR c s p i.toNat) → Q r h) : zbx Tryz.prog (some ⟨b, 0, none⟩) p i Q h := by
 have e : i = ((i.toNat : Nat) : Int) := by omega
 have := zqb1 k (p := p) (i := i.toNat) hq
 rw [← e] at this
 exact this
set_option maxRecDepth 20000 in
theorem zyl1 (k : RM h b x y c s) (hS : StLe s) {p : Nat} {z : PProcess} {u : PProc} (hz : s.procs[p]? = some z) (hu : c.procs[p]? = some u) {Q : Bool → Hp → Prop}
  (hq : ∀ r, (r = true ↔ ProcR c s (fun (i : Nat) q => fl c.labels (i : Int) q = true) z u) → Q r h) : zbv Tryz.prog (some ⟨b, 0, none⟩) (p : Int) Q h := by
 unfold zbv
 obtain ⟨w, hw, hgetw⟩ := k.getProc hz (Z := fun _ => True)
 obtain ⟨q, hq2, hgpart, hgcode⟩ := k.getCfg hu
 obtain ⟨is, his, hmap⟩ := hq2.2
 have hcl : q.Code.len = u.code.length := by rw [← hmap, List.length_map]; exact his.1
 obtain ⟨ls, hls, hallL⟩ := hw.lanes
 have hll : w.Lanes.len = ls.length := hls.1
 have hll2 := hallL.len
 obtain ⟨⟨hA1, hA8⟩, -, -, -, ⟨hP1, hP32⟩, hcb⟩ := zsx k.ok
 obtain ⟨⟨hp0, hp1⟩, hc256, -⟩ := hcb u (List.mem_of_getElem? hu)
 have hLP : LdIs h (Addr.add (Addr.add ⟨b, 0, none⟩ 0) 6) (zae (shSl.enc x.Procs)) := k.box.ldIs (off := 6) (n := 1) rfl
 have hLS : LdIs h (Addr.add (Addr.add ⟨b, 0, none⟩ 7) 2) (zae (shSl.enc y.Procs)) := k.box.ldIs (off := 9) (n := 1) rfl
 have hzl := k.sizes.2.2 z (List.mem_of_getElem? hz)
 have hzs := hS.lanes z (List.mem_of_getElem? hz)
 have ht := k.sizes.1.1
 have htk : y.Tick = s.tick := k.st.tick
 refine zad (ld_at (sh := shSl) y.Procs hLS (hgetw ?_))
 refine zad (ld_at (sh := shSl) x.Procs hLP (hgpart ?_))
 rw [hw.state, hw.pc, hw.cursor, hw.timer, hw.wake, hw.fired, hll, hll2]
 refine letW (letW (zad (ldC (sh := shSl) x.Procs hLP ?_)))
 refine ⟨fun _ => (hgcode (cnd := none) (K := fun _ => True) trivial).1, (hgcode (cnd := some _) ?_).2⟩
 rw [hcl]
 refine letW (letW fun y4 hy4 => ?_)
 have a4 : y4 = true ↔ ¬ ((0 ≤ z.state ∧ z.state ≤ 6) ∧ (0 ≤ z.pc ∧ z.pc ≤ u.code.length) ∧ (0 ≤ z.cursor ∧ z.cursor < z.lanes.length)) := by
  subst hy4
  simp only [Bool.or_eq_true, decide_eq_true_eq]
  omega
 dsimp only
 by_cases hy : y4 = true
 ·rw [if_pos hy]
  exact hq _ ⟨fun e => (by cases e), fun hh => absurd ⟨hh.1, hh.2.1, hh.2.2.1⟩ (a4.1 hy)⟩
 rw [if_neg hy]
 obtain ⟨c1, c2, c3⟩ := Classical.not_not.1 fun hn => hy (a4.2 hn)
 refine zad (ld_at (sh := shInt .i64) y.Tick (k.box.ldIs (off := 7) (n := 1) rfl) ?_)
 rw [htk, zao (by omega) (by omega)]
 refine zde (zpm fun r0 hr0 => ?_)
 refine effI (fun r => r = true ↔ 0 ≤ z.wake ∧ z.wake ≤ s.tick + 1099511627776) false (fun _ hk => zde (zpm hk)) fun r1 hr1 => fun y5 hy5 => fun y6 hy6 => ?_
 have a5 : y5 = true ↔ ¬ ((0 ≤ z.timer ∧ z.timer ≤ s.tick + 1099511627776) ∧ (0 ≤ z.wake ∧ z.wake ≤ s.tick + 1099511627776)) := by subst hy5; exact zof1 (y := !r0) (by rw [← hr0]; simp) hr1
 have a6 : y6 = true ↔ ¬ (((0 ≤ z.timer ∧ z.timer ≤ s.tick + 1099511627776) ∧ (0 ≤ z.wake ∧ z.wake ≤ s.tick + 1099511627776)) ∧ (0 < z.wake ↔ z.state = 4)) := by
  subst hy6
  refine zjj1 a5 fun _ => ?_
  by_cases g1 : 0 < z.wake <;> by_cases g2 : z.state = 4 <;> simp [g1, g2]
 dsimp only
 by_cases hy' : y6 = true
 ·rw [if_pos hy']
  exact hq _ ⟨fun e => (by cases e), fun hh => absurd ⟨⟨hh.2.2.2.1, hh.2.2.2.2.1⟩, hh.2.2.2.2.2.1⟩ (a6.1 hy')⟩
 rw [if_neg hy']
 obtain ⟨⟨c4, c5⟩, c6⟩ := Classical.not_not.1 fun hn => hy' (a6.2 hn)
 refine letW fun y8 hy8 => ?_
 have a8 : y8 = true ↔ ¬ (5 ≤ z.state → z.timer = 0 ∧ z.fired = false) := by
  subst hy8
  by_cases g : 5 ≤ z.state <;> by_cases g2 : z.timer = 0 <;> cases z.fired <;> simp [g, g2]
 dsimp only
 by_cases hy8' : y8 = true
 ·rw [if_pos hy8']
  exact hq _ ⟨fun e => (by cases e), fun hh => absurd hh.2.2.2.2.2.2.1 (a8.1 hy8')⟩
 rw [if_neg hy8']
 have c7 := Classical.not_not.1 fun hn => hy8' (a8.2 hn)
 have hP : ProcR c s (fun (i : Nat) q => fl c.labels (i : Int) q = true) z u ↔ ∀ (k : Nat) l, z.lanes[k]? = some l → LaneR c s z u k l :=
  ⟨fun hh => hh.2.2.2.2.2.2.2, fun hh => ⟨c1, c2, c3, c4, c5, c6, c7, hh⟩⟩
 have hpt : u.part = ((u.part.toNat : Nat) : Int) := by omega
 refine forI (n := ls.length) (by omega) (by omega) (fun j h' => h' = h ∧ ∀ (k : Nat) l, k < j → z.lanes[k]? = some l → LaneR c s z u k l) ⟨rfl, fun _ _ hj => by omega⟩ ?_ ?_
 ·rintro j hj h2 ⟨rfl, hI⟩ K hK
  rw [show z.lanes.length = w.Lanes.len by omega]
  refine Rs.get (sh := sh_api_Lane) hls (fun _ => rfl) (by omega) (by omega) (by omega) fun L hL => ?_
  have hL : ls[j]? = some L := hL
  obtain ⟨l, hl, hlL⟩ := hallL.get hL
  have hvl : L.Values.len = l.values.length := hlL.values.1
  obtain ⟨ws, hws, hwmap⟩ := hlL.waiters
  have hwl : L.Waiters.len = ws.length := hws.1
  have hwl2 : l.waiters.length = ws.length := by rw [← hwmap, List.length_map]
  have hwf := (hzs.2 l (List.mem_of_getElem? hl)).waiters
  have hno : ¬ LaneR c s z u j l → Q false h2 := fun hn => hq _ ⟨fun e => (by cases e), fun hh => absurd (hP.1 hh j l hl) hn⟩
  rw [hlL.taken, hlL.dropped, hvl, hwl]
  refine zcy (zsv fun r2 hr2 => ?_)
  refine effI (fun r => r = true ↔ Cnt l.dropped) false (fun _ hk => zcy (zsv hk)) fun r3 hr3 => fun y9 hy9 => ?_
  have a9 : y9 = true ↔ ¬ (Cnt l.taken ∧ Cnt l.dropped) := by subst hy9; exact zof1 (y := !r2) (by rw [← hr2]; simp) hr3
  dsimp only
  by_cases g1 : y9 = true
  ·rw [if_pos g1]
   exact hno fun hh => a9.1 g1 ⟨hh.1, hh.2.1⟩
  rw [if_neg g1]
  obtain ⟨d1, d2⟩ := Classical.not_not.1 fun hn => g1 (a9.2 hn)
  refine zad (ld_at (sh := shSl) x.Labels (k.box.ldIs (off := 0) (n := 1) rfl) ?_)
  have hlab : x.Labels.len = c.labels.length := k.cfg.labels.1
  rw [hlab]
  refine effI (fun r => r = fl c.labels (j : Int) u.part) false (fun e hk => ?_) fun r4 hr4 => fun y10 hy10 => letW (letW fun y13 hy13 => ?_)
  ·have := of_decide_eq_true e
   exact zns (refFlows15_ok' k (by omega) (by omega) (hk _ rfl))
  have a13 : y13 = true ↔ ¬ (j < c.labels.length → Used l → fl c.labels (j : Int) u.part = true) := by
   subst hy13 hy10
   have hU : ((decide (((l.values.length : Nat) : Int) > 0) || decide (l.taken > 0)) || decide (l.dropped > 0)) = true ↔ Used l := by
    unfold Used
    simp only [Bool.or_eq_true, decide_eq_true_eq, ne_eq, ← List.length_eq_zero_iff]
    omega
   rw [Bool.and_eq_true, Bool.and_eq_true, hU, decide_eq_true_eq]
   constructor
   ·rintro ⟨⟨g1, g2⟩, g3⟩ hh
    have e := hr4 (decide_eq_true g1)
    rw [e, hh (by omega) g3] at g2
    cases g2
   ·intro hn
    by_cases g1 : j < c.labels.length
    ·by_cases g2 : Used l
     ·refine ⟨⟨by omega, ?_⟩, g2⟩
      rw [hr4 (decide_eq_true (by omega))]
      cases hf : fl c.labels (j : Int) u.part with
      | true => exact absurd (fun _ _ => hf) hn
      | false => rfl
     ·exact absurd (fun _ e => absurd e g2) hn
    ·exact absurd (fun e => absurd e g1) hn
  dsimp only
  by_cases g2 : y13 = true
  ·rw [if_pos g2]
   exact hno fun hh => a13.1 g2 hh.2.2.1
  rw [if_neg g2]
  have d3 := Classical.not_not.1 fun hn => g2 (a13.2 hn)
  refine fun y14 hy14 => zad (ldC (sh := shInt .i64) x.Lane (k.box.ldIs (off := 3) (n := 1) rfl) (letW fun y16 hy16 => ?_))
  have a16 : y16 = true ↔ ¬ (l.waiters ≠ [] → (j : Int) = u.part ∧ z.state < 5 ∧ c.lane ≤ l.values.length) := by
   subst hy16 hy14
   rw [k.cfg.lane]
   simp only [Bool.or_eq_true, Bool.and_eq_true, decide_eq_true_eq, bne_iff_ne, ne_eq, ← List.length_eq_zero_iff]
   omega
  dsimp only
  by_cases g3 : y16 = true
  ·rw [if_pos g3]
   exact hno fun hh => a16.1 g3 hh.2.2.2.1
  rw [if_neg g3]
  have d4 := Classical.not_not.1 fun hn => g3 (a16.2 hn)
  refine forI (n := ws.length) (by omega) (by omega) (fun m h' => h' = h2 ∧ ∀ (k : Nat) w, k < m → l.waiters[k]? = some w → (∀ i : Nat, (i : Int) = u.part → ofR c s w.proc i) ∧ stP s w.proc fun z => z.state = 2) ⟨rfl, fun _ _ hj => by omega⟩ ?_ ?_
  ·rintro m hm h3 ⟨rfl, hI2⟩ K2 hK2
   rw [show ws.length = L.Waiters.len from hwl.symm]
   refine Rs.get (sh := sh_api_Waiter) hws (fun _ => rfl) (by omega) (by omega) (by omega) fun W hW => ?_
   have hW : ws[m]? = some W := hW
   have hWp : l.waiters[m]? = some (zee W) := by rw [← hwmap, List.getElem?_map, hW]; rfl
   refine zdy (refOf_ok' k hp0 fun r5 hr5 => ?_)
   refine zad (ldC (sh := shSl) y.Procs hLS ?_)
   obtain ⟨pp, hpp, hallp⟩ := k.st.procs
   have hppl : y.Procs.len = pp.length := hpp.1
   have hpl2 := hallp.len
   have hpl3 := k.sizes.1.2.2
   refine Rw.fldC hpp (fun _ => rfl) (by omega) (sh := shInt .i64) (fun q => q.State) (fun _ => rfl) (0 : Int) (fun e => ?_) fun (v : Int) hv => fun y17 hy17 => ?_
   ·obtain ⟨⟨h0, u', hu', _⟩, _⟩ := hr5.1 (by simpa using e)
    have := (List.getElem?_eq_some_iff.1 hu').1
    omega
   have a17 : y17 = true ↔ ¬ (ofR c s W.Proc u.part.toNat ∧ stP s W.Proc fun z => z.state = 2) := by
    subst hy17
    refine zjj1 (y := !r5) (by rw [← hr5]; simp) fun hA => ?_
    have := hr5.2 hA
    rw [this] at hv
    obtain ⟨u', hu', rfl⟩ := hv rfl
    obtain ⟨v', hv', hv2⟩ := hallp.get hu'
    rw [bne_iff_ne, hv2.state]
    refine not_congr ⟨fun e => ⟨_, hv', e⟩, fun ⟨z1, hz1, hz2⟩ => ?_⟩
    rw [hv'] at hz1; cases hz1
    exact hz2
   dsimp only
   by_cases g4 : y17 = true
   ·rw [if_pos g4]
    refine hno fun hh => a17.1 g4 ?_
    have := hh.2.2.2.2 _ (List.mem_of_getElem? hWp)
    exact ⟨this.1 _ (by omega), this.2⟩
   ·rw [if_neg g4]
    obtain ⟨f1, f2⟩ := Classical.not_not.1 fun hn => g4 (a17.2 hn)
    refine hK2 _ ⟨rfl, fun k' w' hk' hw' => ?_⟩
    by_cases hkm : k' < m
    ·exact hI2 k' w' hkm hw'
    ·have : k' = m := by omega
     subst this
     rw [hWp] at hw'; cases hw'
     refine ⟨fun i hi => ?_, f2⟩
     have : i = u.part.toNat := by omega
     rw [this]; exact f1
  ·rintro h3 ⟨rfl, hI2⟩
   refine hK _ ⟨rfl, fun m l' hm hl' => ?_⟩
   by_cases hmj : m < j
   ·exact hI m l' hmj hl'
   ·have : m = j := by omega
    subst this
    rw [hl] at hl'; cases hl'
    refine ⟨d1, d2, d3, d4, fun w hw => ?_⟩
    obtain ⟨k', hk'⟩ := List.getElem?_of_mem hw
    exact hI2 k' w (by have := (List.getElem?_eq_some_iff.1 hk').1; omega) hk'
 ·rintro h2 ⟨rfl, hI⟩
  exact hq _ ⟨fun _ => hP.2 fun k l hl => hI k l (by have := (List.getElem?_eq_some_iff.1 hl).1; omega) hl, fun _ => rfl⟩
end
end Lf

namespace Lf
open Go Go.Proofs
section
variable {h : Hp}
theorem zfx2 {n : PIns} {len locks : Int} (hw : (zbo n len locks).1 = 0) (ho : n.op = 24) : (0 ≤ n.b ∧ n.b < 8) ∧ (0 ≤ n.c ∧ n.c < 8) := by
 have hf : zay n.op = (true, true, true, false) := by rw [ho]; decide
 unfold zbo at hw
 rw [hf] at hw
 have hr : ∀ m, regP true m = 0 → 0 ≤ m ∧ m < 8 := fun m e => by
  unfold regP at e
  rw [if_neg (by simp)] at e
  by_cases h1 : m < 0 ∨ 8 ≤ m
  ·rw [if_pos h1] at e; cases e
  ·omega
 have h24 : ¬ (n.op < 0 ∨ 34 ≤ n.op) := by omega
 rw [if_neg h24] at hw
 by_cases e1 : regP true n.a = 0
 ·rw [if_neg (by simpa using e1)] at hw
  by_cases e2 : regP true n.b = 0
  ·rw [if_neg (by simpa using e2)] at hw
   by_cases e3 : regP true n.c = 0
   ·exact ⟨hr _ e2, hr _ e3⟩
   ·rw [if_pos (by simpa using e3)] at hw
    exact absurd hw e3
  ·rw [if_pos (by simpa using e2)] at hw
   exact absurd hw e2
 ·rw [if_pos (by simpa using e1)] at hw
  exact absurd hw e1
theorem zeb2 {core : S_firebreakref13_Core} {code : Sl} {is : List S_api_Ins} {locks : Int} (his : InsS h code is) (hl : is.length ≤ 256) (hk : locks ≤ 8) (hv : ∀ n ∈ is.map insOf, (zbo n is.length locks).1 = 0) {Q : S_api_Ins → Bool → Hp → Prop}
  (hq : ∀ r1 r2, (r2 = true ∧ (if 0 ≤ core.PC then (is.map insOf)[core.PC.toNat]? else none) = some (insOf r1)) ∨ (r2 = false ∧ (if 0 ≤ core.PC then (is.map insOf)[core.PC.toNat]? else none) = none) → Q r1 r2 h) :
  zil Tryz.prog core code Q h := by
 unfold zil
 have hlen : code.len = is.length := his.1
 refine letW ?_
 by_cases hp : 0 ≤ core.PC ∧ core.PC < (is.length : Int)
 ·rw [if_neg (by simp; omega)]
  refine Rs.get (sh := sh_api_Ins) his (fun _ => rfl) (by omega) hp.1 hp.2 fun i hi => ?_
  refine zlw (zlu1 ⟨⟨trivial, trivial⟩, ?_⟩)
  have hm : insOf i ∈ is.map insOf := List.mem_map.2 ⟨i, List.mem_of_getElem? hi, rfl⟩
  have := zlq1 hk (hv _ hm)
  rw [hlen, this]
  refine hq _ _ (.inl ⟨rfl, ?_⟩)
  rw [if_pos hp.1, List.getElem?_map, hi]; rfl
 ·rw [if_pos (by simp; omega)]
  refine hq _ _ (.inr ⟨rfl, ?_⟩)
  by_cases h0 : 0 ≤ core.PC
  ·rw [if_pos h0]
   exact List.getElem?_eq_none (by rw [List.length_map]; omega)
  ·rw [if_neg h0]
theorem zcb2 {α : Type} (f : α → Nat) (M : Nat) : ∀ l : List α, (∀ x ∈ l, f x ≤ M) → (l.map f).sum ≤ l.length * M
 | [], _ => by simp
 | a :: l, hl => by
  have h1 := hl a (List.mem_cons_self ..)
  have h2 := zcb2 f M l fun x hx => hl x (List.mem_cons_of_mem _ hx)
  rw [List.map_cons, List.sum_cons, List.length_cons, Nat.succ_mul]
  omega
variable {b : Nat} {x : S_api_Config} {y : S_api_State} {c : PCfg} {s : PState}
theorem RM.getQueues (k : RM h b x y c s) {i : Nat} {z : PPart} (hz : s.parts[i]? = some z) : ∃ w, PartAt h w z ∧ ∀ {K : Sl → Prop}, K w.Queues → (InB y.Parts.base y.Parts.len (i : Int) ∧ LdW none shSl h (Addr.add (sat y.Parts.base 6 (i : Int)) 5) K) := by
 obtain ⟨qs, hqs, hallq⟩ := k.st.parts
 obtain ⟨w, hw1, hw2⟩ := hallq.get' hz
 have hwl := (List.getElem?_eq_some_iff.1 hw1).1
 refine ⟨w, hw2, fun {K} hk => ?_⟩
 refine Rw.fld hqs (fun _ => rfl) (by omega) (sh := shSl) (fun q => q.Queues) (fun _ => rfl) (by omega) (by omega) fun q hq => ?_
 have hq : qs[i]? = some q := hq
 rw [hw1] at hq; cases hq
 exact hk
theorem RM.getLanes (k : RM h b x y c s) {p : Nat} {z : PProcess} (hz : s.procs[p]? = some z) : ∃ w, ProcessAt h w z ∧ ∀ {K : Sl → Prop}, K w.Lanes → (InB y.Procs.base y.Procs.len (p : Int) ∧ LdW none shSl h (Addr.add (sat y.Procs.base 15 (p : Int)) 14) K) := by
 obtain ⟨qs, hqs, hallq⟩ := k.st.procs
 obtain ⟨w, hw1, hw2⟩ := hallq.get' hz
 have hwl := (List.getElem?_eq_some_iff.1 hw1).1
 refine ⟨w, hw2, fun {K} hk => ?_⟩
 refine Rw.fld hqs (fun _ => rfl) (by omega) (sh := shSl) (fun q => q.Lanes) (fun _ => rfl) (by omega) (by omega) fun q hq => ?_
 have hq : qs[p]? = some q := hq
 rw [hw1] at hq; cases hq
 exact hk
def OkQ (u : PProc) (z : PProcess) (k : Nat) : Prop := ∃ n, insP u z.pc = some n ∧ n.op = 29 ∧ n.imm = (k : Int)
def OkS (u : PProc) (z : PProcess) (r : Nat) (v : Int) : Prop := ∃ n, insP u z.pc = some n ∧ n.op = 24 ∧ z.regs[n.b.toNat]? = some (r : Int) ∧ z.regs[n.c.toNat]? = some v
theorem zym1 (p : Int) (q : List Int) {n : Nat} {v : Int} (hv : q[n]? = some v) : (q.take (n + 1)).countP (fun z => decide (z = p)) = (q.take n).countP (fun z => decide (z = p)) + if v = p then 1 else 0 := by
 rw [List.take_add_one, hv, List.countP_append]
 by_cases e : v = p <;> simp [e]
theorem zuy1 (p : Int) (q : List zpk) {n : Nat} {v : zpk} (hv : q[n]? = some v) : (q.take (n + 1)).countP (fun z => decide (z.proc = p)) = (q.take n).countP (fun z => decide (z.proc = p)) + if v.proc = p then 1 else 0 := by
 rw [List.take_add_one, hv, List.countP_append]
 by_cases e : v.proc = p <;> simp [e]
theorem zxd1 {α : Type} (f : α → Nat) (l : List α) {n : Nat} {v : α} (hv : l[n]? = some v) : ((l.take (n + 1)).map f).sum = ((l.take n).map f).sum + f v := by
 rw [List.take_add_one, hv]; simp
set_option maxRecDepth 20000 in
theorem zuz1 (k : RM h b x y c s) (hS : StLe s) {p i : Nat} {z : PProcess} {u : PProc} (hz : s.procs[p]? = some z) (hu : c.procs[p]? = some u) (hi : u.part = (i : Int)) {Q : Bool → Hp → Prop}
  (hq : ∀ r, (r = true ↔ WaitR s p i z u) → Q r h) : zce Tryz.prog (some ⟨b, 0, none⟩) (p : Int) Q h := by
 unfold zce
 obtain ⟨w, hw, hgetw⟩ := k.getProc hz (Z := fun _ => True)
 obtain ⟨q, hq2, hgpart, hgcode⟩ := k.getCfg hu
 obtain ⟨is, his, hmap⟩ := hq2.2
 obtain ⟨ls, hls, hallL⟩ := hw.lanes
 have hll : w.Lanes.len = ls.length := hls.1
 have hll2 := hallL.len
 obtain ⟨⟨hA1, hA8⟩, ⟨hK0, hK8⟩, -, -, ⟨hP1, hP32⟩, hcb⟩ := zsx k.ok
 obtain ⟨⟨hp0, hp1⟩, hc256, hcode⟩ := hcb u (List.mem_of_getElem? hu)
 have hLP : LdIs h (Addr.add (Addr.add ⟨b, 0, none⟩ 0) 6) (zae (shSl.enc x.Procs)) := k.box.ldIs (off := 6) (n := 1) rfl
 have hLS : LdIs h (Addr.add (Addr.add ⟨b, 0, none⟩ 7) 2) (zae (shSl.enc y.Procs)) := k.box.ldIs (off := 9) (n := 1) rfl
 have hLA : LdIs h (Addr.add (Addr.add ⟨b, 0, none⟩ 7) 1) (zae (shSl.enc y.Parts)) := k.box.ldIs (off := 8) (n := 1) rfl
 have hzl := k.sizes.2.2 z (List.mem_of_getElem? hz)
 have hzs := hS.lanes z (List.mem_of_getElem? hz)
 obtain ⟨-, sz1, sz2⟩ := k.sizes.1
 have hpl := (List.getElem?_eq_some_iff.1 hz).1
 obtain ⟨z0, hz0⟩ : ∃ z0, s.parts[i]? = some z0 := ⟨_, List.getElem?_eq_getElem (by omega)⟩
 obtain ⟨hzo, hzq, -⟩ := k.sizes.2.1 z0 (List.mem_of_getElem? hz0)
 obtain ⟨-, -, -, hqfew⟩ := hS.log z0 (List.mem_of_getElem? hz0)
 obtain ⟨wp, hwp, hgq⟩ := k.getQueues hz0
 obtain ⟨us, hus, hallu⟩ := hwp.queues
 have hul : wp.Queues.len = us.length := hus.1
 have hul2 := hallu.len
 rw [hi] at hgpart
 refine zad (ld_at (sh := shSl) y.Procs hLS (hgetw ?_))
 refine zad (ld_at (sh := shSl) x.Procs hLP (hgpart ?_))
 refine zad (ld_at (sh := shSl) x.Procs hLP (hgcode ?_))
 refine zog ?_
 unfold zek
 refine zad (ld_at (sh := shSl) y.Procs hLS (hgetw ?_))
 refine ⟨⟨hLP, ?_, trivial⟩, ?_⟩
 ·obtain ⟨_, v, hv, rfl⟩ := hgcode (cnd := none) (K := fun v => v = q.Code) rfl
  exact hv
 refine zav1 (c := ⟨w.PC, w.Regs_0, w.Regs_1, w.Regs_2, w.Regs_3, w.Regs_4, w.Regs_5, w.Regs_6, w.Regs_7⟩) (code := q.Code) (zeb2 (locks := c.locks) his (by rw [← hmap, List.length_map] at hc256; exact hc256) hK8 ?_ fun r1 r2 hr => ?_)
 ·rw [hmap]
  have e : is.length = u.code.length := by rw [← hmap, List.length_map]
  rw [e]; exact hcode
 have hr : (r2 = true ∧ insP u z.pc = some (insOf r1)) ∨ (r2 = false ∧ insP u z.pc = none) := by
  unfold insP
  rw [← hmap, ← hw.pc]; exact hr
 clear hcode
 have hreg : r1.Op = 24 → r2 = true → (0 ≤ r1.B ∧ r1.B < 8) ∧ (0 ≤ r1.C ∧ r1.C < 8) := fun ho e => by
  rcases hr with ⟨_, hn⟩ | ⟨e2, _⟩
  ·have hm : insOf r1 ∈ u.code := by
    unfold insP at hn
    by_cases h1 : 0 ≤ z.pc
    ·rw [if_pos h1] at hn; exact List.mem_of_getElem? hn
    ·rw [if_neg h1] at hn; cases hn
   exact zfx2 ((hcb u (List.mem_of_getElem? hu)).2.2 _ hm) ho
  ·rw [e] at e2; cases e2
 -- the queues of the partition
 refine loopA (n := us.length) (by omega) (fun j (v : Int) h' => h' = h ∧ v = (((z0.queues.take j).map fun q => q.countP (fun z => decide (z = (p : Int)))).sum : Nat) ∧ ∀ (j' : Nat) q, j' < j → z0.queues[j']? = some q → (p : Int) ∈ q → OkQ u z j') ⟨rfl, by simp, fun _ _ hj => by omega⟩ ?_
 rintro j hj v1 h1 ⟨rfl, rfl, hI⟩ K hK
 refine zad (ld_at (sh := shSl) y.Parts hLA (hgq ?_))
 by_cases hlt : j < us.length
 ·rw [if_pos (decide_eq_true (by omega))]
  have huj := List.getElem?_eq_getElem hlt
  generalize us[j] = ql at huj
  obtain ⟨qq, hqq1, hqq2⟩ := hallu.get huj
  have hgu : ∀ {K' : Sl → Prop}, K' ql → (InB wp.Queues.base wp.Queues.len (j : Int) ∧ LdW none shSl h1 (sat wp.Queues.base 1 (j : Int)) K') := fun {K'} hk => by
   refine Rs.get (sh := shSl) hus (fun _ => rfl) (by omega) (by omega) (by omega) fun v hv => ?_
   have hv : us[j]? = some v := hv
   rw [huj] at hv; cases hv
   exact hk
  have hqlen : ql.len = qq.length := hqq2.1
  have hqf := hqfew qq (List.mem_of_getElem? hqq1)
  have hsum := zcb2 (fun q : List Int => q.countP (fun z => decide (z = (p : Int)))) 140737488355328 (z0.queues.take j) fun q hq => Nat.le_trans List.countP_le_length (hqfew q (List.mem_of_mem_take hq))
  have hjl : (z0.queues.take j).length ≤ 8 := by rw [List.length_take]; omega
  have hjm := Nat.mul_le_mul_right 140737488355328 hjl
  have hsn := zxd1 (fun q : List Int => q.countP (fun z => decide (z = (p : Int)))) z0.queues hqq1
  generalize ((z0.queues.take j).map fun q => q.countP (fun z => decide (z = (p : Int)))).sum = S at hsum hsn
  refine loopA (n := qq.length) (by omega) (fun n (v : Int) h' => h' = h1 ∧ v = ((S + (qq.take n).countP (fun z => decide (z = (p : Int))) : Nat) : Int) ∧ ((p : Int) ∈ qq.take n → OkQ u z j)) ⟨rfl, by simp, fun e => by simp at e⟩ ?_
  rintro n hn v2 h2 ⟨rfl, rfl, hI2⟩ K2 hK2
  refine zad (ld_at (sh := shSl) y.Parts hLA (hgq (hgu ?_)))
  by_cases hlt2 : n < qq.length
  ·rw [if_pos (decide_eq_true (by omega))]
   have hqn := List.getElem?_eq_getElem hlt2
   generalize qq[n] = v at hqn
   have hcs := zym1 (p : Int) qq hqn
   have hcle : (qq.take n).countP (fun z => decide (z = (p : Int))) ≤ n := Nat.le_trans List.countP_le_length (by rw [List.length_take]; omega)
   refine JoinW1.intro (fun (v2 : Int) h' => h' = h2 ∧ v2 = ((S + (qq.take (n + 1)).countP (fun z => decide (z = (p : Int))) : Nat) : Int) ∧ ((p : Int) ∈ qq.take (n + 1) → OkQ u z j)) ?_ ?_
   ·refine zad (ld_at (sh := shSl) y.Parts hLA (hgq (hgu ?_)))
    refine Rs.get (sh := shInt .i64) hqq2 (fun _ => rfl) (by omega) (by omega) (by omega) fun (v' : Int) hv' => ?_
    have hv' : qq[n]? = some v' := hv'
    rw [hqn] at hv'; cases hv'
    by_cases hvp : v = (p : Int)
    ·rw [if_neg (by simp [hvp])]
     refine letW fun y1 hy1 => ?_
     have a1 : y1 = true ↔ ¬ OkQ u z j := by
      subst hy1
      unfold OkQ
      rcases hr with ⟨e2, hn⟩ | ⟨e2, hn⟩
      ·rw [e2, hn]
       simp only [Bool.not_true, Bool.false_or, Bool.or_eq_true, bne_iff_ne, ne_eq]
       constructor
       ·rintro g ⟨m, e, g1, g2⟩
        cases e
        rcases g with g | g
        ·exact g g1
        ·exact g g2
       ·intro hn
        refine Classical.byContradiction fun hcc => hn ⟨_, rfl, ?_, ?_⟩
        ·exact Classical.byContradiction fun hc => hcc (.inl hc)
        ·exact Classical.byContradiction fun hc => hcc (.inr hc)
      ·rw [e2, hn]
       simp
     dsimp only
     by_cases hy1' : y1 = true
     ·rw [if_pos hy1']
      refine hq _ ⟨fun e => (by cases e), fun hh => absurd (hh.1 z0 hz0 j qq hqq1 ?_) (a1.1 hy1')⟩
      rw [← hvp]; exact List.mem_of_getElem? hqn
     ·rw [if_neg hy1']
      rw [if_pos hvp] at hcs
      rw [zao (by omega) (by omega)]
      exact ⟨rfl, by omega, fun _ => Classical.not_not.1 fun hn => hy1' (a1.2 hn)⟩
    ·rw [if_pos (by simpa using hvp)]
     rw [if_neg hvp] at hcs
     refine ⟨rfl, by omega, fun e => hI2 ?_⟩
     rw [List.take_add_one, hqn] at e
     rcases List.mem_append.1 e with e | e
     ·exact e
     ·have : (p : Int) = v := by simpa using e
      exact absurd this.symm hvp
   ·rintro v3 h3 ⟨rfl, rfl, hI3⟩
    exact hK2 hlt2 _ _ ⟨rfl, rfl, hI3⟩
  ·rw [if_neg (fun e => hlt2 (by have := of_decide_eq_true e; omega))]
   rw [List.take_of_length_le (by omega)] at hI2 ⊢
   refine hK hlt _ _ ⟨rfl, by rw [hsn], fun j' q' hj' hq' hm => ?_⟩
   by_cases hjj : j' < j
   ·exact hI j' q' hjj hq' hm
   ·have : j' = j := by omega
    subst this
    rw [hqq1] at hq'; cases hq'
    exact hI2 hm
 rw [if_neg (fun e => hlt (by have := of_decide_eq_true e; omega))]
 rw [List.take_of_length_le (by omega)]
 have hQ1 : ∀ (j' : Nat) q, z0.queues[j']? = some q → (p : Int) ∈ q → OkQ u z j' := fun j' q hq hm => hI j' q (by have := (List.getElem?_eq_some_iff.1 hq).1; omega) hq hm
 rw [show ((z0.queues.map fun q => q.countP (fun z => decide (z = (p : Int)))).sum) = cntQ (p : Int) z0 from rfl]
 generalize hcq : cntQ (p : Int) z0 = CQ
 -- the lanes of all processes
 have hfewL : ∀ z ∈ s.procs, ((z.lanes[i]?).map (cntW (p : Int))).getD 0 ≤ 140737488355328 := fun z hz => by
  cases e : z.lanes[i]? with
  | none => exact Nat.zero_le _
  | some l => exact Nat.le_trans List.countP_le_length (((hS.lanes z hz).2 l (List.mem_of_getElem? e)).waiters)
 have hylen : y.Procs.len = s.procs.length := by
  obtain ⟨qs, hqs, hallq⟩ := k.st.procs
  rw [← hallq.len]; exact hqs.1
 refine loopA (n := s.procs.length) (by omega) (fun j (v : Int) h' => h' = h1 ∧ v = (((s.procs.take j).map fun z => ((z.lanes[i]?).map (cntW (p : Int))).getD 0).sum : Nat) ∧
  ∀ (r : Nat) z', r < j → s.procs[r]? = some z' → ∀ l, z'.lanes[i]? = some l → ∀ w ∈ l.waiters, w.proc = (p : Int) → OkS u z r w.value) ⟨rfl, by simp, fun _ _ hj => by omega⟩ ?_
 rintro r hr1 v3 h3 ⟨rfl, rfl, hL⟩ K3 hK3
 refine zad (ld_at (sh := shSl) y.Procs hLS ?_)
 by_cases hlt3 : r < s.procs.length
 ·rw [if_pos (decide_eq_true (by omega))]
  have hzr := List.getElem?_eq_getElem hlt3
  generalize s.procs[r] = zr at hzr
  obtain ⟨wr, hwr, hgl⟩ := k.getLanes hzr
  have hzrl := k.sizes.2.2 zr (List.mem_of_getElem? hzr)
  have hzrs := hS.lanes zr (List.mem_of_getElem? hzr)
  obtain ⟨lr, hlr, hallr⟩ := hwr.lanes
  have hlrl : wr.Lanes.len = lr.length := hlr.1
  have hlrl2 := hallr.len
  refine zad (ld_at (sh := shSl) y.Procs hLS (hgl ?_))
  refine Rw.fld hlr (fun _ => rfl) (by omega) (sh := shSl) (fun q => q.Waiters) (fun _ => rfl) (by omega) (by omega) fun L hL0 => ?_
  have hL0 : lr[i]? = some L := hL0
  obtain ⟨l, hl, hlL⟩ := hallr.get hL0
  obtain ⟨ws, hws, hwmap⟩ := hlL.waiters
  have hwl : L.Waiters.len = ws.length := hws.1
  have hwl2 : l.waiters.length = ws.length := by rw [← hwmap, List.length_map]
  have hwf := (hzrs.2 l (List.mem_of_getElem? hl)).waiters
  have hsum := zcb2 (fun z : PProcess => ((z.lanes[i]?).map (cntW (p : Int))).getD 0) 140737488355328 (s.procs.take r) fun z hz => hfewL z (List.mem_of_mem_take hz)
  have hjl : (s.procs.take r).length ≤ 32 := by rw [List.length_take]; omega
  have hjm := Nat.mul_le_mul_right 140737488355328 hjl
  have hsn := zxd1 (fun z : PProcess => ((z.lanes[i]?).map (cntW (p : Int))).getD 0) s.procs hzr
  rw [hl] at hsn
  have hsn : ((s.procs.take (r + 1)).map fun z : PProcess => ((z.lanes[i]?).map (cntW (p : Int))).getD 0).sum = ((s.procs.take r).map fun z : PProcess => ((z.lanes[i]?).map (cntW (p : Int))).getD 0).sum + l.waiters.countP (fun z => decide (z.proc = (p : Int))) := hsn
  generalize ((s.procs.take r).map fun z : PProcess => ((z.lanes[i]?).map (cntW (p : Int))).getD 0).sum = S at hsum hsn
  refine loopA (n := ws.length) (by omega) (fun n (v : Int) h' => h' = h3 ∧ v = ((S + (l.waiters.take n).countP (fun z => decide (z.proc = (p : Int))) : Nat) : Int) ∧ ∀ w ∈ l.waiters.take n, w.proc = (p : Int) → OkS u z r w.value) ⟨rfl, by simp, fun w e => by simp at e⟩ ?_
  rintro n hn v2 h2 ⟨rfl, rfl, hI2⟩ K2 hK2
  by_cases hlt2 : n < ws.length
  ·rw [if_pos (decide_eq_true (by omega))]
   have hwn := List.getElem?_eq_getElem hlt2
   generalize ws[n] = W at hwn
   have hWp : l.waiters[n]? = some (zee W) := by rw [← hwmap, List.getElem?_map, hwn]; rfl
   have hcs := zuy1 (p : Int) l.waiters hWp
   have hcle : (l.waiters.take n).countP (fun z => decide (z.proc = (p : Int))) ≤ n := Nat.le_trans List.countP_le_length (by rw [List.length_take]; omega)
   refine JoinW1.intro (fun (v2 : Int) h' => h' = h2 ∧ v2 = ((S + (l.waiters.take (n + 1)).countP (fun z => decide (z.proc = (p : Int))) : Nat) : Int) ∧ ∀ w ∈ l.waiters.take (n + 1), w.proc = (p : Int) → OkS u z r w.value) ?_ ?_
   ·refine Rw.fld hws (fun _ => rfl) (by omega) (sh := shInt .i64) (fun q => q.Proc) (fun _ => rfl) (by omega) (by omega) fun W' hW' => ?_
    have hW' : ws[n]? = some W' := hW'
    rw [hwn] at hW'; cases hW'
    by_cases hvp : W.Proc = (p : Int)
    ·rw [if_neg (by simp [hvp])]
     have hcs : _ = _ + 1 := hcs.trans (by rw [if_pos (show (zee W).proc = (p : Int) from hvp)])
     have hval : ∀ {cnd : Bool} {K' : Int → Prop}, K' W.Value_ → ((cnd = true → (InB L.Waiters.base L.Waiters.len (n : Int))) ∧ LdW (some cnd) (shInt .i64) h2 (Addr.add (sat L.Waiters.base 2 (n : Int)) 1) K') := fun {cnd} {K'} hk => by
      obtain ⟨hin, v, hv, rfl⟩ := Rw.fld hws (fun _ => rfl) (by omega) (sh := shInt .i64) (fun q => q.Value_) (j := 1) (fun _ => rfl) (i := (n : Int)) (by omega) (by omega) (K := fun (v : Int) => v = W.Value_) fun q hq => by
       have hq : ws[n]? = some q := hq
       rw [hwn] at hq; cases hq; rfl
      exact ⟨fun _ => hin, _, fun _ => hv, hk⟩
     have hend : ∀ y2 : Bool, (y2 = true ↔ ¬ OkS u z r W.Value_) → (if y2 = true then Q false h2 else (fun (v2 : Int) h' => h' = h2 ∧ v2 = ((S + (l.waiters.take (n + 1)).countP (fun z => decide (z.proc = (p : Int))) : Nat) : Int) ∧ ∀ w ∈ l.waiters.take (n + 1), w.proc = (p : Int) → OkS u z r w.value) (IntKind.wrap .i64 (((S + (l.waiters.take n).countP (fun z => decide (z.proc = (p : Int))) : Nat) : Int) + 1)) h2) := fun y2 a2 => by
      by_cases hy2' : y2 = true
      ·rw [if_pos hy2']
       exact hq _ ⟨fun e => (by cases e), fun hh => absurd (hh.2.1 r zr hzr l hl (zee W) (List.mem_of_getElem? hWp) hvp) (a2.1 hy2')⟩
      ·rw [if_neg hy2', zao (by omega) (by omega)]
       refine ⟨rfl, by omega, fun w hw1 hw2 => ?_⟩
       rw [List.take_add_one, hWp] at hw1
       rcases List.mem_append.1 hw1 with hw1 | hw1
       ·exact hI2 w hw1 hw2
       ·have : w = zee W := by simpa using hw1
        rw [this]
        exact Classical.not_not.1 fun hn => hy2' (a2.2 hn)
     refine fun y0 hy0 => ?_
     by_cases h24 : r2 = true ∧ r1.Op = 24
     ·obtain ⟨⟨b0, b8⟩, c0, c8⟩ := hreg h24.2 h24.1
      have hn : insP u z.pc = some (insOf r1) := by
       rcases hr with ⟨_, hn⟩ | ⟨e2, _⟩
       ·exact hn
       ·rw [h24.1] at e2; cases e2
      have hregs := hw.regs
      have hgB : z.regs[r1.B.toNat]? = some (z.regs.getD r1.B.toNat 0) := by
       have : r1.B.toNat < z.regs.length := by rw [← hregs]; simp; omega
       rw [List.getElem?_eq_getElem this, List.getD_eq_getElem?_getD, List.getElem?_eq_getElem this]; rfl
      have hgC : z.regs[r1.C.toNat]? = some (z.regs.getD r1.C.toNat 0) := by
       have : r1.C.toNat < z.regs.length := by rw [← hregs]; simp; omega
       rw [List.getElem?_eq_getElem this, List.getD_eq_getElem?_getD, List.getElem?_eq_getElem this]; rfl
      refine ⟨fun _ => ⟨b0, b8⟩, z.regs.getD r1.B.toNat 0, fun _ => ?_, fun y1 hy1 => ⟨fun _ => ⟨c0, c8⟩, z.regs.getD r1.C.toNat 0, fun _ => ?_, hval fun y2 hy2 => hend y2 ?_⟩⟩
      ·rw [← hregs]; exact zkf1 w (by omega)
      ·rw [← hregs]; exact zkf1 w (by omega)
      ·subst hy2 hy1 hy0
       rw [h24.1, h24.2]
       unfold OkS
       rw [hn]
       simp only [Bool.not_true, Bool.false_or, bne_self_eq_false, Bool.or_eq_true, bne_iff_ne, ne_eq]
       constructor
       ·rintro g ⟨m, e, g1, g2, g3⟩
        cases e
        have g2 : z.regs[r1.B.toNat]? = some (r : Int) := g2
        have g3 : z.regs[r1.C.toNat]? = some W.Value_ := g3
        rw [hgB] at g2; rw [hgC] at g3
        rcases g with g | g
        ·exact g (Option.some.inj g2)
        ·exact g (Option.some.inj g3)
       ·intro hcn
        refine Classical.byContradiction fun hcc => hcn ⟨_, rfl, h24.2, ?_, ?_⟩
        ·show z.regs[r1.B.toNat]? = _
         rw [hgB]
         congr 1
         exact Classical.byContradiction fun hc => hcc (.inl hc)
        ·show z.regs[r1.C.toNat]? = _
         rw [hgC]
         congr 1
         exact Classical.byContradiction fun hc => hcc (.inr hc)
     ·have e0 : y0 = true := by
       subst hy0
       cases e : r2 with
       | false => rfl
       | true => simp only [Bool.not_true, Bool.false_or, bne_iff_ne]; exact fun hc => h24 ⟨e, hc⟩
      subst e0
      refine ⟨fun e => (by cases e), 0, fun e => (by cases e), letW ⟨fun e => (by cases e), 0, fun e => (by cases e), hval (letW (hend _ ?_))⟩⟩
      simp only [Bool.true_or, true_iff]
      rintro ⟨m, e, g1, -⟩
      rcases hr with ⟨e2, hn⟩ | ⟨e2, hn⟩
      ·rw [hn] at e; cases e
       exact h24 ⟨e2, g1⟩
      ·rw [hn] at e; cases e
    ·rw [if_pos (by simpa using hvp)]
     have hcs : _ = _ + 0 := hcs.trans (by rw [if_neg (show ¬ (zee W).proc = (p : Int) from hvp)])
     refine ⟨rfl, by omega, fun w hw1 hw2 => ?_⟩
     rw [List.take_add_one, hWp] at hw1
     rcases List.mem_append.1 hw1 with hw1 | hw1
     ·exact hI2 w hw1 hw2
     ·have : w = zee W := by simpa using hw1
      rw [this] at hw2
      exact absurd hw2 hvp
   ·rintro v3 h3 ⟨rfl, rfl, hI3⟩
    exact hK2 hlt2 _ _ ⟨rfl, rfl, hI3⟩
  ·rw [if_neg (fun e => hlt2 (by have := of_decide_eq_true e; omega))]
   rw [List.take_of_length_le (by omega)] at hI2 ⊢
   refine hK3 hlt3 _ _ ⟨rfl, by rw [hsn], fun r' z' hr' hz' l' hl' w hw1 hw2 => ?_⟩
   by_cases hrr : r' < r
   ·exact hL r' z' hrr hz' l' hl' w hw1 hw2
   ·have : r' = r := by omega
    subst this
    rw [hzr] at hz'; cases hz'
    rw [hl] at hl'; cases hl'
    exact hI2 w hw1 hw2
 rw [if_neg (fun e => hlt3 (by have := of_decide_eq_true e; omega))]
 rw [List.take_of_length_le (by omega)]
 have hQ2 : ∀ (r : Nat) z', s.procs[r]? = some z' → ∀ l, z'.lanes[i]? = some l → ∀ w ∈ l.waiters, w.proc = (p : Int) → OkS u z r w.value := fun r z' hz' => hL r z' (by have := (List.getElem?_eq_some_iff.1 hz').1; omega) hz'
 generalize hcl : (s.procs.map fun z => ((z.lanes[i]?).map (cntW (p : Int))).getD 0).sum = CL
 have hP : WaitR s p i z u ↔ (CQ = if z.state = 3 then 1 else 0) ∧ (CL = if z.state = 2 then 1 else 0) ∧ (z.state = 1 → (∃ n, insP u z.pc = some n ∧ n.op = 25) ∧ (∀ l ∈ z.lanes, l.values = []) ∧ z.fired = false) ∧ (z.state = 4 → ∃ n, insP u z.pc = some n ∧ n.op = 28) := by
  unfold WaitR
  rw [hcl]
  constructor
  ·rintro ⟨-, -, g3, g4⟩
   exact ⟨by rw [← hcq]; exact g3 z0 hz0, g4⟩
  ·rintro ⟨g3, g4⟩
   refine ⟨fun z' hz' => ?_, hQ2, fun z' hz' => ?_, g4⟩
   ·rw [hz0] at hz'; cases hz'; exact hQ1
   ·rw [hz0] at hz'; cases hz'; rw [hcq]; exact g3
 rw [hll, hw.state, hw.fired]
 refine LoopW2.intro (fun some_ j h' => h' = h3 ∧ 0 ≤ j ∧ j ≤ (ls.length : Int) ∧ (some_ = true ↔ ∃ (i : Nat) (l : PLane), (i : Int) < j ∧ z.lanes[i]? = some l ∧ l.values ≠ [])) (fun _ j _ => (ls.length - j).toNat)
  ⟨rfl, by omega, by omega, ⟨fun e => (by cases e), fun ⟨i, l, hi, _⟩ => by omega⟩⟩ ?_
 rintro some_ j h4 ⟨rfl, j0, jle, hS2⟩
 by_cases hlt4 : j < (ls.length : Int)
 ·rw [if_pos (decide_eq_true (by omega)), ← hll]
  refine Rw.fldC hls (fun _ => rfl) (by omega) (sh := shSl) (fun q => q.Values) (fun _ => rfl) (⟨none, 0, 0⟩ : Sl) (fun _ => ⟨j0, by omega⟩) fun V hV => letW ?_
  rw [zao (by omega) (by omega)]
  refine ⟨⟨rfl, by omega, by omega, ?_⟩, by omega⟩
  have hjl : j.toNat < z.lanes.length := by omega
  have hlj := List.getElem?_eq_getElem hjl
  generalize z.lanes[j.toNat] = l at hlj
  constructor
  ·intro e
   cases hs : some_ with
   | true =>
    obtain ⟨i', l', g1, g2⟩ := hS2.1 hs
    exact ⟨i', l', by omega, g2⟩
   | false =>
    rw [hs] at e hV
    obtain ⟨L, hL1, rfl⟩ := hV rfl
    obtain ⟨l', hl', hlL⟩ := hallL.get hL1
    rw [hlj] at hl'; cases hl'
    have hvl : L.Values.len = l.values.length := hlL.values.1
    refine ⟨j.toNat, l, by omega, hlj, fun e2 => ?_⟩
    rw [e2] at hvl
    rw [Bool.false_or, hvl] at e
    simp at e
  ·rintro ⟨i', l', g1, g2, g3⟩
   by_cases hij : (i' : Int) < j
   ·rw [hS2.2 ⟨i', l', hij, g2, g3⟩]; rfl
   ·have : i' = j.toNat := by omega
    subst this
    rw [hlj] at g2; cases g2
    cases hs : some_ with
    | true => rfl
    | false =>
     rw [hs] at hV
     obtain ⟨L, hL1, rfl⟩ := hV rfl
     obtain ⟨l', hl', hlL⟩ := hallL.get hL1
     rw [hlj] at hl'; cases hl'
     have hvl : L.Values.len = l.values.length := hlL.values.1
     have := List.length_pos_iff.2 g3
     rw [Bool.false_or, decide_eq_true_eq, hvl]
     omega
 rw [if_neg (fun e => hlt4 (by have := of_decide_eq_true e; omega))]
 have hsome : some_ = false ↔ ∀ l ∈ z.lanes, l.values = [] := by
  rw [← Bool.not_eq_true, hS2]
  constructor
  ·intro hn l hl
   obtain ⟨i, hi⟩ := List.getElem?_of_mem hl
   exact Classical.byContradiction fun hne => hn ⟨i, l, by have := (List.getElem?_eq_some_iff.1 hi).1; omega, hi, hne⟩
  ·rintro hh ⟨i, l, _, hl, hne⟩
   exact hne (hh l (List.mem_of_getElem? hl))
 have hop : ∀ m : Int, (r2 && (r1.Op == m)) = true ↔ ∃ n, insP u z.pc = some n ∧ n.op = m := fun m => by
  rcases hr with ⟨e2, hn⟩ | ⟨e2, hn⟩
  ·rw [e2, hn, Bool.true_and, beq_iff_eq]
   exact ⟨fun e => ⟨_, rfl, e⟩, fun ⟨n, e, g⟩ => by cases e; exact g⟩
  ·rw [e2, hn, Bool.false_and]
   exact ⟨fun e => (by cases e), fun ⟨n, e, _⟩ => by cases e⟩
 have hcnt : ∀ (A B : Nat), (((CQ : Int) == (A : Int)) && ((CL : Int) == (B : Int))) = true ↔ CQ = A ∧ CL = B := fun A B => by
  rw [Bool.and_eq_true, beq_iff_eq, beq_iff_eq]; omega
 by_cases s3 : z.state = 3
 ·rw [if_pos (by simpa using s3)]
  refine letW (hq _ ?_)
  rw [hP, s3]
  refine (hcnt 1 0).trans ?_
  simp
 rw [if_neg (by simpa using s3)]
 by_cases s2 : z.state = 2
 ·rw [if_pos (by simpa using s2)]
  refine letW (hq _ ?_)
  rw [hP, s2]
  refine (hcnt 0 1).trans ?_
  simp
 rw [if_neg (by simpa using s2)]
 by_cases s1 : z.state = 1
 ·rw [if_pos (by simpa using s1)]
  refine letW (letW (letW (letW (letW (hq _ ?_)))))
  rw [hP, s1, Bool.and_assoc (_ && _) r2, Bool.and_eq_true, Bool.and_eq_true, Bool.and_eq_true, hop, Bool.not_eq_true', Bool.not_eq_true', hsome]
  rw [show ((CQ : Int) == (0 : Int) && (CL : Int) == (0 : Int)) = true ↔ CQ = 0 ∧ CL = 0 from hcnt 0 0]
  simp only [show ¬ (1 : Int) = 3 by decide, show ¬ (1 : Int) = 2 by decide, show ¬ (1 : Int) = 4 by decide, if_false, false_implies, and_true, true_implies]
  constructor
  ·rintro ⟨⟨⟨⟨g1, g2⟩, g3⟩, g4⟩, g5⟩; exact ⟨g1, g2, g3, g4, g5⟩
  ·rintro ⟨g1, g2, g3, g4, g5⟩; exact ⟨⟨⟨⟨g1, g2⟩, g3⟩, g4⟩, g5⟩
 rw [if_neg (by simpa using s1)]
 by_cases s4 : z.state = 4
 ·rw [if_pos (by simpa using s4)]
  refine letW (letW (letW (hq _ ?_)))
  rw [hP, s4, Bool.and_assoc (_ && _) r2, Bool.and_eq_true, hop]
  rw [show ((CQ : Int) == (0 : Int) && (CL : Int) == (0 : Int)) = true ↔ CQ = 0 ∧ CL = 0 from hcnt 0 0]
  simp only [show ¬ (4 : Int) = 3 by decide, show ¬ (4 : Int) = 2 by decide, show ¬ (4 : Int) = 1 by decide, if_false, false_implies, true_and, true_implies, and_assoc]
 rw [if_neg (by simpa using s4)]
 refine letW (hq _ ?_)
 rw [hP, if_neg s3, if_neg s2]
 refine (hcnt 0 0).trans ⟨fun g => ⟨g.1, g.2, fun e => absurd e s1, fun e => absurd e s4⟩, fun g => ⟨g.1, g.2.1⟩⟩
end
end Lf

