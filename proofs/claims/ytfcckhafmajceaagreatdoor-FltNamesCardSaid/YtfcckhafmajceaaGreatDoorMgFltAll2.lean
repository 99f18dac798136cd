/-
  Part 3 of the texts that the claim leans on.
-/
import Derived.Test.YtfcckhafmajceaaGreatDoorMgFltAll1
/-
  Parts of slices.
-/
namespace Lf
open Go

theorem ldIs_drop {h : Hp} {a : Addr} {cs : List Value} (e : LdIs h a cs) (n : Nat) : LdIs h (a.add n) (cs.drop n) := fun i v hv => by
  rw [add_add]
  exact e (n + i) v (by simpa [List.getElem?_drop] using hv)

theorem flat_drop {α : Type} {sz : Nat} {enc : α → List Value} (henc : ∀ x, (enc x).length = sz) : ∀ (xs : List α) (n : Nat), (xs.drop n).flatMap enc = (xs.flatMap enc).drop (n * sz)
  | [], n => by simp
  | x :: xs, 0 => by simp
  | x :: xs, n + 1 => by
    simp only [List.drop_succ_cons, List.flatMap_cons]
    have e : (enc x).drop (n * sz + sz) = [] := List.drop_eq_nil_of_le (by rw [henc]; omega)
    rw [flat_drop henc xs n, Nat.add_mul, Nat.one_mul, List.drop_append, henc, e, List.nil_append, Nat.add_sub_cancel]

theorem flat_take {α : Type} {sz : Nat} {enc : α → List Value} (henc : ∀ x, (enc x).length = sz) : ∀ (xs : List α) (n : Nat), (xs.take n).flatMap enc = (xs.flatMap enc).take (n * sz)
  | [], n => by simp
  | x :: xs, 0 => by simp
  | x :: xs, n + 1 => by
    simp only [List.take_succ_cons, List.flatMap_cons]
    have e : (enc x).take (n * sz + sz) = enc x := List.take_of_length_le (by rw [henc]; omega)
    rw [flat_take henc xs n, Nat.add_mul, Nat.one_mul, List.take_append, henc, e, Nat.add_sub_cancel]

/-- A part of a slice holds a part of the list. -/
theorem Rw.cut {α : Type} {h : Hp} {sz : Nat} {enc : α → List Value} {l : Sl} {xs : List α} (r : Rw h sz enc l xs) (henc : ∀ x, (enc x).length = sz) {a b c n m : Nat} (hab : a ≤ b) (hb : b ≤ xs.length) (hc : b ≤ c) (hn : n = b - a) :
    Rw h sz enc ⟨sbase l.base sz a c, n, m⟩ ((xs.drop a).take (b - a)) := by
  obtain ⟨h1, h2, h3⟩ := r
  have hlen : ((xs.drop a).take (b - a)).length = b - a := by rw [List.length_take, List.length_drop]; omega
  refine ⟨hn.trans hlen.symm, flat_len henc _, ?_⟩
  rw [hlen]
  by_cases h0 : (b - a) * sz = 0
  · exact .inl h0
  · right
    have hba : b - a ≠ 0 := fun e => h0 (by rw [e, Nat.zero_mul])
    have hsz : sz ≠ 0 := fun e => h0 (by rw [e, Nat.mul_zero])
    have hx : xs.length * sz ≠ 0 := Nat.mul_ne_zero (by omega) hsz
    obtain ⟨p, hp, hl⟩ := h3.resolve_left hx
    refine ⟨p.add (a * sz), ?_, fun i v hv => ?_⟩
    · unfold sbase
      rw [if_neg (show ¬ c = a by omega), hp]
      rfl
    · rw [flat_take henc, flat_drop henc, List.getElem?_take] at hv
      split at hv
      · exact ldIs_drop hl (a * sz) i v hv
      · cases hv

end Lf

/-
  Blocks that are written: what stays.
-/
namespace Lf
open Go

/-- From one partial memory to the next: of the known blocks, none but those of the first list has changed; the second list has old ones of the first list, and new ones. -/
structure Mv (F : List Nat) (h : Hp) (F' : List Nat) (h' : Hp) : Prop where
  keep : ∀ b o, h b = some o → b ∉ F → h' b = some o
  from_ : ∀ b ∈ F', b ∈ F ∨ h b = none

theorem Mv.refl (F : List Nat) (h : Hp) : Mv F h F h := ⟨fun _ _ e _ => e, fun _ e => .inl e⟩

theorem Mv.trans {F F' F'' : List Nat} {h h' h'' : Hp} (a : Mv F h F' h') (b : Mv F' h' F'' h'') : Mv F h F'' h'' := by
  refine ⟨fun i o e hn => b.keep i o (a.keep i o e hn) fun hf => ?_, fun i hi => ?_⟩
  · rcases a.from_ i hf with h1 | h1
    · exact hn h1
    grind
  · rcases b.from_ i hi with h1 | h1
    · exact a.from_ i h1
    · cases e : h i with
      | none => exact .inr rfl
      | some o =>
        left
        refine Classical.byContradiction fun hn => ?_
        rw [a.keep i o e hn] at h1; cases h1

theorem Mv.of_le {h h' : Hp} (F : List Nat) (hl : h ≤ h') : Mv F h F h' := ⟨fun b o e _ => hl b o e, fun _ e => .inl e⟩

theorem Mv.le {F F' : List Nat} {h0 h h' : Hp} (a : Mv F h F' h') (hl : h0 ≤ h) (hf : ∀ b ∈ F, h0 b = none) : h0 ≤ h' ∧ ∀ b ∈ F', h0 b = none := by
  refine ⟨fun b o e => a.keep b o (hl b o e) fun hb => (by grind), fun b hb => ?_⟩
  rcases a.from_ b hb with h1 | h1
  · exact hf b h1
  · exact none_of_le hl h1

theorem Mv.sub {F F' G G' : List Nat} {h h' : Hp} (a : Mv F h F' h') (h1 : ∀ b ∈ F, b ∈ G) (h2 : ∀ b ∈ G', b ∈ F' ∨ b ∈ G ∨ h b = none) : Mv G h G' h' :=
  ⟨fun b o e hn => a.keep b o e fun hb => hn (h1 b hb), fun b hb => by
    rcases h2 b hb with h3 | h3
    · rcases a.from_ b h3 with h4 | h4
      · grind
      · exact .inr h4
    · exact h3⟩

theorem Mv.set {h : Hp} {b : Nat} {o : Obj} : Mv [b] h [b] (h.set b o) := by
  refine ⟨fun i x e hn => ?_, fun i hi => .inl hi⟩
  have hne : i ≠ b := fun e' => hn (by grind)
  simp only [Hp.set, hne, if_false]
  exact e

theorem Mv.new {h : Hp} {b : Nat} {o : Obj} (hn : h b = none) : Mv [] h [b] (h.set b o) :=
  ⟨fun i x e _ => set_new hn i x e, fun i hi => .inr (by grind)⟩

/-- A block of cells. -/
def Blk (h : Hp) (b : Nat) (cs : List Value) : Prop := ∃ t, h b = some (.cells cs.toArray t (0, 0))

theorem Blk.mv {F F' : List Nat} {h h' : Hp} {b : Nat} {cs : List Value} (k : Blk h b cs) (a : Mv F h F' h') (hn : b ∉ F) : Blk h' b cs := by
  obtain ⟨t, e⟩ := k
  exact ⟨t, a.keep b _ e hn⟩

theorem Blk.le {h h' : Hp} {b : Nat} {cs : List Value} (k : Blk h b cs) (hl : h ≤ h') : Blk h' b cs := by
  obtain ⟨t, e⟩ := k
  exact ⟨t, hl _ _ e⟩

theorem Blk.known {h : Hp} {b : Nat} {cs : List Value} (k : Blk h b cs) : h b ≠ none := by
  obtain ⟨t, e⟩ := k
  rw [e]; simp

/-- A place in a block. -/
def at_ (b off : Nat) : Addr := ⟨b, off, none⟩

theorem Blk.ldIs {h : Hp} {b : Nat} {cs : List Value} (k : Blk h b cs) {off n : Nat} {vs : List Value} (e : (cs.drop off).take n = vs) : LdIs h ⟨b, off, none⟩ vs := by
  obtain ⟨t, hb⟩ := k
  intro i v hv
  rw [box_add, hcell_block0 hb]
  grind

theorem Blk.stOk {h : Hp} {b : Nat} {cs : List Value} (k : Blk h b cs) {off : Nat} : ∀ n, off + n ≤ cs.length → StOk h ⟨b, off, none⟩ n
  | 0, _ => trivial
  | n + 1, hn => by
    obtain ⟨t, hb⟩ := k
    refine ⟨Blk.stOk ⟨t, hb⟩ n (by omega), ⟨cs[off + n]'(by omega), ?_⟩, ?_⟩
    · rw [box_add, hcell_block0 hb]
      simp
    · rw [box_add]
      unfold hfroz
      simp [hb]

/-- Cells are laid into a block. -/
theorem Blk.put {h : Hp} {b : Nat} {cs new : List Value} (k : Blk h b cs) {off : Nat} (hl : off + new.length ≤ cs.length) :
    Blk (putL h ⟨b, off, none⟩ new 0) b (cs.take off ++ new ++ cs.drop (off + new.length)) ∧ ∀ b', b' ≠ b → (putL h ⟨b, off, none⟩ new 0) b' = h b' := by
  obtain ⟨t, hb⟩ := k
  obtain ⟨p1, p2⟩ := put_cells b t new h 0 off cs (by simpa using hl) hb
  rw [Nat.add_zero, layL_eq _ _ _ hl] at p1
  exact ⟨⟨t, p1⟩, p2⟩

theorem Mv.of_other {h h' : Hp} {b : Nat} (ho : ∀ b', b' ≠ b → h' b' = h b') : Mv [b] h [b] h' :=
  ⟨fun i o e hn => by grind, fun i hi => .inl hi⟩

theorem stW_blk {h : Hp} {b : Nat} {cs new : List Value} {off : Nat} {K : Hp → Prop} (k : Blk h b cs) (hl : off + new.length ≤ cs.length)
    (hk : ∀ h', Mv [b] h [b] h' → Blk h' b (cs.take off ++ new ++ cs.drop (off + new.length)) → K h') : StW h ⟨b, off, none⟩ new K := by
  obtain ⟨p1, p2⟩ := k.put hl
  exact ⟨k.stOk _ hl, hk _ (Mv.of_other p2) p1⟩

section
variable {α : Type} {h : Hp} {sz : Nat} {enc : α → List Value} {l : Sl} {xs : List α}

/-- A slice in a block of its own: 'F' has it, if there is one. -/
def OwnF (h : Hp) (sz : Nat) (enc : α → List Value) (l : Sl) (xs : List α) (F : List Nat) : Prop :=
  l.len = xs.length ∧ l.len ≤ l.cap ∧ ((l.base = none ∧ l.cap = 0 ∧ F = []) ∨
    ∃ (b : Nat) (cs : List Value), l.base = some ⟨b, 0, none⟩ ∧ F = [b] ∧ Blk h b cs ∧ cs.length = l.cap * sz ∧ cs.take (l.len * sz) = xs.flatMap enc)

theorem OwnF.own {F : List Nat} {h0 : Hp} (o : OwnF h sz enc l xs F) (hf : ∀ b ∈ F, h0 b = none) : Own h0 h sz enc l xs := by
  obtain ⟨h1, h2, h3⟩ := o
  refine ⟨h1, h2, ?_⟩
  rcases h3 with ⟨e1, e2, _⟩ | ⟨b, cs, e1, rfl, ⟨t, e3⟩, e4, e5⟩
  · exact .inl ⟨e1, e2⟩
  grind

theorem OwnF.rw {F : List Nat} (o : OwnF h sz enc l xs F) (henc : ∀ x, (enc x).length = sz) : Rw h sz enc l xs := (o.own (h0 := fun _ => none) fun _ _ => rfl).rw henc

theorem OwnF.known {F : List Nat} (o : OwnF h sz enc l xs F) : ∀ b ∈ F, h b ≠ none := by
  obtain ⟨_, _, h3⟩ := o
  rcases h3 with ⟨_, _, rfl⟩ | ⟨b, cs, _, rfl, e3, _, _⟩
  · simp
  · intro b' hb; rw [List.mem_singleton.1 hb]; exact e3.known

theorem OwnF.same {F : List Nat} {h' : Hp} (o : OwnF h sz enc l xs F) (hs : ∀ b ∈ F, h' b = h b) : OwnF h' sz enc l xs F := by
  obtain ⟨h1, h2, h3⟩ := o
  refine ⟨h1, h2, h3.imp id ?_⟩
  rintro ⟨b, cs, e1, rfl, ⟨t, e3⟩, e4⟩
  exact ⟨b, cs, e1, rfl, ⟨t, by grind⟩, e4⟩

theorem OwnF.mv {F G G' : List Nat} {h' : Hp} (o : OwnF h sz enc l xs F) (a : Mv G h G' h') (hd : ∀ b ∈ F, b ∉ G) : OwnF h' sz enc l xs F := by
  obtain ⟨h1, h2, h3⟩ := o
  refine ⟨h1, h2, h3.imp id ?_⟩
  rintro ⟨b, cs, e1, rfl, e3, e4⟩
  exact ⟨b, cs, e1, rfl, e3.mv a (hd b (List.mem_singleton.2 rfl)), e4⟩

theorem newF {cs : List Value} {K : Addr → Hp → Prop} (hc : cs = xs.flatMap enc) (henc : ∀ x, (enc x).length = sz)
    (hk : ∀ b h', h b = none → h ≤ h' → Mv [] h [b] h' → OwnF h' sz enc ⟨some ⟨b, 0, none⟩, xs.length, xs.length⟩ xs [b] → K ⟨b, 0, none⟩ h') : NewW cs K h := by
  intro b t hb
  refine hk b _ hb (set_new hb) (Mv.new hb) ⟨rfl, Nat.le_refl _, .inr ⟨b, cs, rfl, rfl, ⟨t, set_self⟩, ?_, ?_⟩⟩
  · rw [hc, flat_len henc]
  · have : (xs.length * sz) = (xs.flatMap enc).length := (flat_len henc xs).symm
    grind

/-- Append. -/
theorem appF {F : List Nat} {zero : List Value} {bytes : Nat} {x : Sl} {ys : List α} {K : Sl → Hp → Prop} (o : OwnF h sz enc l xs F) (r : Rw h sz enc x ys) (henc : ∀ x, (enc x).length = sz) (hok : ∀ x, okCells (enc x) = true)
    (hz : zero.length = sz) (hb : xs.length + ys.length ≤ 140737488355328 ∧ (xs.length + ys.length) * bytes ≤ 140737488355328)
    (hk : ∀ l' h' F', OwnF h' sz enc l' (xs ++ ys) F' → Mv F h F' h' → K l' h') : AppendW sz bytes zero l x K h := by
  have hrw := o.rw henc
  obtain ⟨h1, h2, h3⟩ := o
  obtain ⟨hx1, hx2⟩ := r
  refine ⟨ys.flatMap enc, by grind, xs.flatMap enc, by rw [h1]; exact hrw.2, by grind, flat_ok hok ys, fun hcap => ?_, fun hcap c b t hc hbn => ?_⟩
  · rcases h3 with ⟨e, ec, rfl⟩ | ⟨b, cs, e, rfl, hbk, hl, ht⟩
    · have e1 : ys.length = 0 := by omega
      have e2 : ys = [] := List.length_eq_zero_iff.1 e1
      subst e2
      refine ⟨fun a ha => (by grind), ?_⟩
      have e3 : putO h l.base (l.len * sz) (([] : List α).flatMap enc) = h := by rw [e]; rfl
      rw [e3, hx1]
      exact hk _ h [] ⟨by simp [h1], by simpa using h2, .inl ⟨e, ec, rfl⟩⟩ (Mv.refl _ _)
    · have hle : l.len * sz + (ys.flatMap enc).length ≤ cs.length := by
        rw [hl, flat_len henc, ← Nat.add_mul]
        exact Nat.mul_le_mul_right sz (by omega)
      obtain ⟨p1, p2⟩ := hbk.put hle
      refine ⟨fun a ha => ?_, ?_⟩
      · rw [e] at ha; cases ha
        rw [box_add, Nat.zero_add]
        refine hbk.stOk _ ?_
        rw [hx1, ← flat_len henc ys]
        exact hle
      · have e3 : putO h l.base (l.len * sz) (ys.flatMap enc) = putL h ⟨b, l.len * sz, none⟩ (ys.flatMap enc) 0 := by
          rw [e]
          simp only [putO, box_add, Nat.zero_add]
        rw [e3]
        refine hk _ _ [b] ⟨by simp [h1, hx1], hcap, .inr ⟨b, _, e, rfl, p1, ?_, ?_⟩⟩ (Mv.of_other p2)
        · grind
        · have e4 : (l.len + x.len) * sz = (cs.take (l.len * sz) ++ ys.flatMap enc).length := by
            rw [List.length_append, ht, flat_len henc, flat_len henc, h1, hx1, Nat.add_mul]
          grind
  · have hn : Mv F h [b] (h.set b (.cells (xs.flatMap enc ++ ys.flatMap enc ++ zerosL zero (c - (l.len + x.len))).toArray t (0, 0))) :=
      (Mv.new hbn).sub (fun b hb => by cases hb) fun b hb => .inl hb
    refine hk _ _ [b] ⟨by simp [h1, hx1], hc, .inr ⟨b, xs.flatMap enc ++ ys.flatMap enc ++ zerosL zero (c - (l.len + x.len)), rfl, rfl, ⟨t, set_self⟩, ?_, ?_⟩⟩ hn
    · rw [List.length_append, List.length_append, flat_len henc, flat_len henc, zerosL_len, hz, ← Nat.add_mul, ← Nat.add_mul]
      grind
    · have e4 : (l.len + x.len) * sz = (xs.flatMap enc ++ ys.flatMap enc).length := by
        rw [List.length_append, flat_len henc, flat_len henc, h1, hx1, Nat.add_mul]
      grind

end
end Lf



/-
  Numbers of 64 bits, bit by bit.
-/
namespace Lf
open Go

def bit (x : Int) (n : Nat) : Bool := x.toNat.testBit n

end Lf

/-
  By program: the structures of the module, as rows of cells.
-/
set_option maxRecDepth 100000
namespace Lf
open Go

def toLeaf (v : Value) : Option Leaf := match h : isLeafV v with
  | true => some ⟨v, h⟩
  | false => none
theorem toLeaf_v {v : Value} {l : Leaf} (h : toLeaf v = some l) : l.v = v := by
  unfold toLeaf at h
  split at h <;> cases h
  rfl

structure S_strings_Builder where
  addr : Option Addr
  buf : Sl
def S_strings_Builder.v (x : S_strings_Builder) : Value := .agg #[.pointer x.addr, .slice x.buf.base x.buf.len x.buf.cap]
@[reducible] def sh_strings_Builder : Shape where
  T := S_strings_Builder
  enc := fun x => .agg #[.pointer x.addr, .slice x.buf.base x.buf.len x.buf.cap]
  dec := fun v => match v with
    | .agg ⟨[.pointer a0, .slice a1 b1 c1]⟩ => some ⟨a0, ⟨a1, b1, c1⟩⟩
    | _ => none
  ok := by intro v x h; split at h <;> cases h; rfl

structure S_strconv_NumError where
  Func : ByteArray
  Num : ByteArray
  Err : Leaf
def S_strconv_NumError.v (x : S_strconv_NumError) : Value := .agg #[.string x.Func, .string x.Num, x.Err.v]
@[reducible] def sh_strconv_NumError : Shape where
  T := S_strconv_NumError
  enc := fun x => .agg #[.string x.Func, .string x.Num, x.Err.v]
  dec := fun v => match v with
    | .agg ⟨[.string a0, .string a1, a2]⟩ => (toLeaf a2).bind fun la2 => some ⟨a0, a1, la2⟩
    | _ => none
  ok := by
    intro v x h
    split at h
    · simp only [Option.bind_eq_some_iff] at h
      obtain ⟨la2, ea2, h⟩ := h
      cases h
      simp only [toLeaf_v ea2]
    · cases h

structure S_n24_uint8 where
  a0 : Int
  a1 : Int
  a2 : Int
  a3 : Int
  a4 : Int
  a5 : Int
  a6 : Int
  a7 : Int
  a8 : Int
  a9 : Int
  a10 : Int
  a11 : Int
  a12 : Int
  a13 : Int
  a14 : Int
  a15 : Int
  a16 : Int
  a17 : Int
  a18 : Int
  a19 : Int
  a20 : Int
  a21 : Int
  a22 : Int
  a23 : Int
def S_n24_uint8.v (x : S_n24_uint8) : Value := .agg #[.int .u8 x.a0, .int .u8 x.a1, .int .u8 x.a2, .int .u8 x.a3, .int .u8 x.a4, .int .u8 x.a5, .int .u8 x.a6, .int .u8 x.a7, .int .u8 x.a8, .int .u8 x.a9, .int .u8 x.a10, .int .u8 x.a11, .int .u8 x.a12, .int .u8 x.a13, .int .u8 x.a14, .int .u8 x.a15, .int .u8 x.a16, .int .u8 x.a17, .int .u8 x.a18, .int .u8 x.a19, .int .u8 x.a20, .int .u8 x.a21, .int .u8 x.a22, .int .u8 x.a23]
@[reducible] def sh_n24_uint8 : Shape where
  T := S_n24_uint8
  enc := fun x => .agg #[.int .u8 x.a0, .int .u8 x.a1, .int .u8 x.a2, .int .u8 x.a3, .int .u8 x.a4, .int .u8 x.a5, .int .u8 x.a6, .int .u8 x.a7, .int .u8 x.a8, .int .u8 x.a9, .int .u8 x.a10, .int .u8 x.a11, .int .u8 x.a12, .int .u8 x.a13, .int .u8 x.a14, .int .u8 x.a15, .int .u8 x.a16, .int .u8 x.a17, .int .u8 x.a18, .int .u8 x.a19, .int .u8 x.a20, .int .u8 x.a21, .int .u8 x.a22, .int .u8 x.a23]
  dec := fun v => match v with
    | .agg ⟨[.int .u8 a0, .int .u8 a1, .int .u8 a2, .int .u8 a3, .int .u8 a4, .int .u8 a5, .int .u8 a6, .int .u8 a7, .int .u8 a8, .int .u8 a9, .int .u8 a10, .int .u8 a11, .int .u8 a12, .int .u8 a13, .int .u8 a14, .int .u8 a15, .int .u8 a16, .int .u8 a17, .int .u8 a18, .int .u8 a19, .int .u8 a20, .int .u8 a21, .int .u8 a22, .int .u8 a23]⟩ => some ⟨a0, a1, a2, a3, a4, a5, a6, a7, a8, a9, a10, a11, a12, a13, a14, a15, a16, a17, a18, a19, a20, a21, a22, a23⟩
    | _ => none
  ok := by intro v x h; split at h <;> cases h; rfl

structure S_n32_uint8 where
  a0 : Int
  a1 : Int
  a2 : Int
  a3 : Int
  a4 : Int
  a5 : Int
  a6 : Int
  a7 : Int
  a8 : Int
  a9 : Int
  a10 : Int
  a11 : Int
  a12 : Int
  a13 : Int
  a14 : Int
  a15 : Int
  a16 : Int
  a17 : Int
  a18 : Int
  a19 : Int
  a20 : Int
  a21 : Int
  a22 : Int
  a23 : Int
  a24 : Int
  a25 : Int
  a26 : Int
  a27 : Int
  a28 : Int
  a29 : Int
  a30 : Int
  a31 : Int
def S_n32_uint8.v (x : S_n32_uint8) : Value := .agg #[.int .u8 x.a0, .int .u8 x.a1, .int .u8 x.a2, .int .u8 x.a3, .int .u8 x.a4, .int .u8 x.a5, .int .u8 x.a6, .int .u8 x.a7, .int .u8 x.a8, .int .u8 x.a9, .int .u8 x.a10, .int .u8 x.a11, .int .u8 x.a12, .int .u8 x.a13, .int .u8 x.a14, .int .u8 x.a15, .int .u8 x.a16, .int .u8 x.a17, .int .u8 x.a18, .int .u8 x.a19, .int .u8 x.a20, .int .u8 x.a21, .int .u8 x.a22, .int .u8 x.a23, .int .u8 x.a24, .int .u8 x.a25, .int .u8 x.a26, .int .u8 x.a27, .int .u8 x.a28, .int .u8 x.a29, .int .u8 x.a30, .int .u8 x.a31]
@[reducible] def sh_n32_uint8 : Shape where
  T := S_n32_uint8
  enc := fun x => .agg #[.int .u8 x.a0, .int .u8 x.a1, .int .u8 x.a2, .int .u8 x.a3, .int .u8 x.a4, .int .u8 x.a5, .int .u8 x.a6, .int .u8 x.a7, .int .u8 x.a8, .int .u8 x.a9, .int .u8 x.a10, .int .u8 x.a11, .int .u8 x.a12, .int .u8 x.a13, .int .u8 x.a14, .int .u8 x.a15, .int .u8 x.a16, .int .u8 x.a17, .int .u8 x.a18, .int .u8 x.a19, .int .u8 x.a20, .int .u8 x.a21, .int .u8 x.a22, .int .u8 x.a23, .int .u8 x.a24, .int .u8 x.a25, .int .u8 x.a26, .int .u8 x.a27, .int .u8 x.a28, .int .u8 x.a29, .int .u8 x.a30, .int .u8 x.a31]
  dec := fun v => match v with
    | .agg ⟨[.int .u8 a0, .int .u8 a1, .int .u8 a2, .int .u8 a3, .int .u8 a4, .int .u8 a5, .int .u8 a6, .int .u8 a7, .int .u8 a8, .int .u8 a9, .int .u8 a10, .int .u8 a11, .int .u8 a12, .int .u8 a13, .int .u8 a14, .int .u8 a15, .int .u8 a16, .int .u8 a17, .int .u8 a18, .int .u8 a19, .int .u8 a20, .int .u8 a21, .int .u8 a22, .int .u8 a23, .int .u8 a24, .int .u8 a25, .int .u8 a26, .int .u8 a27, .int .u8 a28, .int .u8 a29, .int .u8 a30, .int .u8 a31]⟩ => some ⟨a0, a1, a2, a3, a4, a5, a6, a7, a8, a9, a10, a11, a12, a13, a14, a15, a16, a17, a18, a19, a20, a21, a22, a23, a24, a25, a26, a27, a28, a29, a30, a31⟩
    | _ => none
  ok := by intro v x h; split at h <;> cases h; rfl

structure S_errors_errorString where
  s : ByteArray
def S_errors_errorString.v (x : S_errors_errorString) : Value := .agg #[.string x.s]
@[reducible] def sh_errors_errorString : Shape where
  T := S_errors_errorString
  enc := fun x => .agg #[.string x.s]
  dec := fun v => match v with
    | .agg ⟨[.string a0]⟩ => some ⟨a0⟩
    | _ => none
  ok := by intro v x h; split at h <;> cases h; rfl

structure S_internal_strconv_floatInfo where
  mantbits : Int
  expbits : Int
  bias : Int
def S_internal_strconv_floatInfo.v (x : S_internal_strconv_floatInfo) : Value := .agg #[.int .u64 x.mantbits, .int .u64 x.expbits, .int .i64 x.bias]
@[reducible] def sh_internal_strconv_floatInfo : Shape where
  T := S_internal_strconv_floatInfo
  enc := fun x => .agg #[.int .u64 x.mantbits, .int .u64 x.expbits, .int .i64 x.bias]
  dec := fun v => match v with
    | .agg ⟨[.int .u64 a0, .int .u64 a1, .int .i64 a2]⟩ => some ⟨a0, a1, a2⟩
    | _ => none
  ok := by intro v x h; split at h <;> cases h; rfl

structure S_n20_uint64 where
  a0 : Int
  a1 : Int
  a2 : Int
  a3 : Int
  a4 : Int
  a5 : Int
  a6 : Int
  a7 : Int
  a8 : Int
  a9 : Int
  a10 : Int
  a11 : Int
  a12 : Int
  a13 : Int
  a14 : Int
  a15 : Int
  a16 : Int
  a17 : Int
  a18 : Int
  a19 : Int
def S_n20_uint64.v (x : S_n20_uint64) : Value := .agg #[.int .u64 x.a0, .int .u64 x.a1, .int .u64 x.a2, .int .u64 x.a3, .int .u64 x.a4, .int .u64 x.a5, .int .u64 x.a6, .int .u64 x.a7, .int .u64 x.a8, .int .u64 x.a9, .int .u64 x.a10, .int .u64 x.a11, .int .u64 x.a12, .int .u64 x.a13, .int .u64 x.a14, .int .u64 x.a15, .int .u64 x.a16, .int .u64 x.a17, .int .u64 x.a18, .int .u64 x.a19]
@[reducible] def sh_n20_uint64 : Shape where
  T := S_n20_uint64
  enc := fun x => .agg #[.int .u64 x.a0, .int .u64 x.a1, .int .u64 x.a2, .int .u64 x.a3, .int .u64 x.a4, .int .u64 x.a5, .int .u64 x.a6, .int .u64 x.a7, .int .u64 x.a8, .int .u64 x.a9, .int .u64 x.a10, .int .u64 x.a11, .int .u64 x.a12, .int .u64 x.a13, .int .u64 x.a14, .int .u64 x.a15, .int .u64 x.a16, .int .u64 x.a17, .int .u64 x.a18, .int .u64 x.a19]
  dec := fun v => match v with
    | .agg ⟨[.int .u64 a0, .int .u64 a1, .int .u64 a2, .int .u64 a3, .int .u64 a4, .int .u64 a5, .int .u64 a6, .int .u64 a7, .int .u64 a8, .int .u64 a9, .int .u64 a10, .int .u64 a11, .int .u64 a12, .int .u64 a13, .int .u64 a14, .int .u64 a15, .int .u64 a16, .int .u64 a17, .int .u64 a18, .int .u64 a19]⟩ => some ⟨a0, a1, a2, a3, a4, a5, a6, a7, a8, a9, a10, a11, a12, a13, a14, a15, a16, a17, a18, a19⟩
    | _ => none
  ok := by intro v x h; split at h <;> cases h; rfl

structure S_internal_strconv_scaler where
  pmHi : Int
  pmLo : Int
  s : Int
def S_internal_strconv_scaler.v (x : S_internal_strconv_scaler) : Value := .agg #[.int .u64 x.pmHi, .int .u64 x.pmLo, .int .i64 x.s]
@[reducible] def sh_internal_strconv_scaler : Shape where
  T := S_internal_strconv_scaler
  enc := fun x => .agg #[.int .u64 x.pmHi, .int .u64 x.pmLo, .int .i64 x.s]
  dec := fun v => match v with
    | .agg ⟨[.int .u64 a0, .int .u64 a1, .int .i64 a2]⟩ => some ⟨a0, a1, a2⟩
    | _ => none
  ok := by intro v x h; split at h <;> cases h; rfl

structure S_internal_strconv_pmHiLo where
  hi : Int
  lo : Int
def S_internal_strconv_pmHiLo.v (x : S_internal_strconv_pmHiLo) : Value := .agg #[.int .u64 x.hi, .int .u64 x.lo]
@[reducible] def sh_internal_strconv_pmHiLo : Shape where
  T := S_internal_strconv_pmHiLo
  enc := fun x => .agg #[.int .u64 x.hi, .int .u64 x.lo]
  dec := fun v => match v with
    | .agg ⟨[.int .u64 a0, .int .u64 a1]⟩ => some ⟨a0, a1⟩
    | _ => none
  ok := by intro v x h; split at h <;> cases h; rfl

structure S_internal_strconv_leftCheat where
  delta : Int
  cutoff : ByteArray
def S_internal_strconv_leftCheat.v (x : S_internal_strconv_leftCheat) : Value := .agg #[.int .i64 x.delta, .string x.cutoff]
@[reducible] def sh_internal_strconv_leftCheat : Shape where
  T := S_internal_strconv_leftCheat
  enc := fun x => .agg #[.int .i64 x.delta, .string x.cutoff]
  dec := fun v => match v with
    | .agg ⟨[.int .i64 a0, .string a1]⟩ => some ⟨a0, a1⟩
    | _ => none
  ok := by intro v x h; split at h <;> cases h; rfl

end Lf

/-
  By program: the types of the module by their numbers.
-/
set_option maxRecDepth 100000
namespace Lf
open Go

def ty0 : Ty := { und := (.tuple #[]), size := 1, bytes := 0, zero := (.tuple #[]), sh := shUnit }
def ty2 : Ty := { und := (.int .i64), size := 1, bytes := 8, zero := (.int .i64 0), sh := shInt .i64 }
def ty3 : Ty := { und := (.int .i64), size := 1, bytes := 8, zero := (.int .i64 0), sh := shInt .i64 }
def ty4 : Ty := { und := .bool, size := 1, bytes := 1, zero := (.bool false), sh := shBool }
def ty5 : Ty := { und := (.int .u8), size := 1, bytes := 1, zero := (.int .u8 0), sh := shInt .u8 }
def ty9 : Ty := { und := .string, size := 1, bytes := 16, zero := (.string ByteArray.empty), sh := shStr }
def ty12 : Ty := { und := (.int .u64), size := 1, bytes := 8, zero := (.int .u64 0), sh := shInt .u64 }
def ty20 : Ty := { und := (.interface #[]), size := 1, bytes := 16, zero := .nilIface, sh := shLeaf }
def ty21 : Ty := { und := (.int .i32), size := 1, bytes := 4, zero := (.int .i32 0), sh := shInt .i32 }
def ty23 : Ty := { und := (.int .i64), size := 1, bytes := 8, zero := (.int .i64 0), sh := shInt .i64 }
def ty24 : Ty := { und := (.tuple #[2, 23]), size := 1, bytes := 0, zero := (.tuple #[(.int .i64 0), (.int .i64 0)]), sh := shTup2 (shInt .i64) (shInt .i64) }
def ty29 : Ty := { und := (.slice 2), size := 1, bytes := 24, zero := (.slice none 0 0), sh := shSl }
def ty31 : Ty := { und := (.int .u64), size := 1, bytes := 8, zero := (.int .u64 0), sh := shInt .u64 }
def ty34 : Ty := { und := (.float .f64), size := 1, bytes := 8, zero := (.float .f64 0), sh := shFlt .f64 }
def ty42 : Ty := { und := (.tuple #[9, 4]), size := 1, bytes := 0, zero := (.tuple #[(.string ByteArray.empty), (.bool false)]), sh := shTup2 shStr shBool }
def ty45 : Ty := { und := (.interface #[("Error", 97)]), size := 1, bytes := 16, zero := .nilIface, sh := shLeaf }
def ty46 : Ty := { und := (.tuple #[31, 45]), size := 1, bytes := 0, zero := (.tuple #[(.int .u64 0), .nilIface]), sh := shTup2 (shInt .u64) shLeaf }
def ty48 : Ty := { und := (.tuple #[34, 45]), size := 1, bytes := 0, zero := (.tuple #[(.float .f64 0), .nilIface]), sh := shTup2 (shFlt .f64) shLeaf }
def ty52 : Ty := { und := (.tuple #[9, 9, 4]), size := 1, bytes := 0, zero := (.tuple #[(.string ByteArray.empty), (.string ByteArray.empty), (.bool false)]), sh := shTup3 shStr shStr shBool }
def ty55 : Ty := { und := (.tuple #[3, 45]), size := 1, bytes := 0, zero := (.tuple #[(.int .i64 0), .nilIface]), sh := shTup2 (shInt .i64) shLeaf }
def ty59 : Ty := { und := (.tuple #[31, 3]), size := 1, bytes := 0, zero := (.tuple #[(.int .u64 0), (.int .i64 0)]), sh := shTup2 (shInt .u64) (shInt .i64) }
def ty62 : Ty := { und := (.slice 70), size := 1, bytes := 24, zero := (.slice none 0 0), sh := shSl }
def ty70 : Ty := { und := (.int .u32), size := 1, bytes := 4, zero := (.int .u32 0), sh := shInt .u32 }
def ty74 : Ty := { und := (.int .u64), size := 1, bytes := 8, zero := (.int .u64 0), sh := shInt .u64 }
def ty78 : Ty := { und := (.tuple #[62, 62]), size := 1, bytes := 0, zero := (.tuple #[(.slice none 0 0), (.slice none 0 0)]), sh := shTup2 shSl shSl }
def ty81 : Ty := { und := (.int .i64), size := 1, bytes := 8, zero := (.int .i64 0), sh := shInt .i64 }
def ty83 : Ty := { und := (.slice 5), size := 1, bytes := 24, zero := (.slice none 0 0), sh := shSl }
def ty85 : Ty := { und := (.pointer 108), size := 1, bytes := 8, zero := (.pointer none), sh := shPtr }
def ty88 : Ty := { und := (.tuple #[34, 3, 45]), size := 1, bytes := 0, zero := (.tuple #[(.float .f64 0), (.int .i64 0), .nilIface]), sh := shTup3 (shFlt .f64) (shInt .i64) shLeaf }
def ty90 : Ty := { und := (.tuple #[74, 74]), size := 1, bytes := 0, zero := (.tuple #[(.int .u64 0), (.int .u64 0)]), sh := shTup2 (shInt .u64) (shInt .u64) }
def ty92 : Ty := { und := (.pointer 94), size := 1, bytes := 8, zero := (.pointer none), sh := shPtr }
def ty94 : Ty := { und := (.struct #[{ name := "addr", type := 92, offset := 0, embedded := false, tag := "", pkgPath := "strings", byteOffset := 0 }, { name := "buf", type := 83, offset := 1, embedded := false, tag := "", pkgPath := "strings", byteOffset := 8 }]), size := 2, bytes := 32, zero := (.agg #[(.pointer none), (.slice none 0 0)]), sh := sh_strings_Builder }
def ty100 : Ty := { und := (.float .f32), size := 1, bytes := 4, zero := (.float .f32 0), sh := shFlt .f32 }
def ty102 : Ty := { und := (.tuple #[2, 45]), size := 1, bytes := 0, zero := (.tuple #[(.int .i64 0), .nilIface]), sh := shTup2 (shInt .i64) shLeaf }
def ty105 : Ty := { und := (.pointer 62), size := 1, bytes := 8, zero := (.pointer none), sh := shPtr }
def ty108 : Ty := { und := (.struct #[{ name := "Func", type := 9, offset := 0, embedded := false, tag := "", pkgPath := "", byteOffset := 0 }, { name := "Num", type := 9, offset := 1, embedded := false, tag := "", pkgPath := "", byteOffset := 16 }, { name := "Err", type := 45, offset := 2, embedded := false, tag := "", pkgPath := "", byteOffset := 32 }]), size := 3, bytes := 48, zero := (.agg #[(.string ByteArray.empty), (.string ByteArray.empty), .nilIface]), sh := sh_strconv_NumError }
def ty110 : Ty := { und := (.tuple #[100, 3, 45]), size := 1, bytes := 0, zero := (.tuple #[(.float .f32 0), (.int .i64 0), .nilIface]), sh := shTup3 (shFlt .f32) (shInt .i64) shLeaf }
def ty113 : Ty := { und := (.array 24 5), size := 24, bytes := 24, zero := (.agg #[(.int .u8 0), (.int .u8 0), (.int .u8 0), (.int .u8 0), (.int .u8 0), (.int .u8 0), (.int .u8 0), (.int .u8 0), (.int .u8 0), (.int .u8 0), (.int .u8 0), (.int .u8 0), (.int .u8 0), (.int .u8 0), (.int .u8 0), (.int .u8 0), (.int .u8 0), (.int .u8 0), (.int .u8 0), (.int .u8 0), (.int .u8 0), (.int .u8 0), (.int .u8 0), (.int .u8 0)]), sh := sh_n24_uint8 }
def ty116 : Ty := { und := (.tuple #[83, 9]), size := 1, bytes := 0, zero := (.tuple #[(.slice none 0 0), (.string ByteArray.empty)]), sh := shTup2 shSl shStr }
def ty118 : Ty := { und := (.tuple #[70, 70]), size := 1, bytes := 0, zero := (.tuple #[(.int .u32 0), (.int .u32 0)]), sh := shTup2 (shInt .u32) (shInt .u32) }
def ty120 : Ty := { und := (.tuple #[31, 31]), size := 1, bytes := 0, zero := (.tuple #[(.int .u64 0), (.int .u64 0)]), sh := shTup2 (shInt .u64) (shInt .u64) }
def ty122 : Ty := { und := (.pointer 5), size := 1, bytes := 8, zero := (.pointer none), sh := shPtr }
def ty129 : Ty := { und := (.array 32 5), size := 32, bytes := 32, zero := (.agg #[(.int .u8 0), (.int .u8 0), (.int .u8 0), (.int .u8 0), (.int .u8 0), (.int .u8 0), (.int .u8 0), (.int .u8 0), (.int .u8 0), (.int .u8 0), (.int .u8 0), (.int .u8 0), (.int .u8 0), (.int .u8 0), (.int .u8 0), (.int .u8 0), (.int .u8 0), (.int .u8 0), (.int .u8 0), (.int .u8 0), (.int .u8 0), (.int .u8 0), (.int .u8 0), (.int .u8 0), (.int .u8 0), (.int .u8 0), (.int .u8 0), (.int .u8 0), (.int .u8 0), (.int .u8 0), (.int .u8 0), (.int .u8 0)]), sh := sh_n32_uint8 }
def ty131 : Ty := { und := (.tuple #[3, 3]), size := 1, bytes := 0, zero := (.tuple #[(.int .i64 0), (.int .i64 0)]), sh := shTup2 (shInt .i64) (shInt .i64) }
def ty134 : Ty := { und := (.pointer 137), size := 1, bytes := 8, zero := (.pointer none), sh := shPtr }
def ty135 : Ty := { und := (.array 800 5), size := 800, bytes := 800, zero := (.agg #[(.int .u8 0), (.int .u8 0), (.int .u8 0), (.int .u8 0), (.int .u8 0), (.int .u8 0), (.int .u8 0), (.int .u8 0), (.int .u8 0), (.int .u8 0), (.int .u8 0), (.int .u8 0), (.int .u8 0), (.int .u8 0), (.int .u8 0), (.int .u8 0), (.int .u8 0), (.int .u8 0), (.int .u8 0), (.int .u8 0), (.int .u8 0), (.int .u8 0), (.int .u8 0), (.int .u8 0), (.int .u8 0), (.int .u8 0), (.int .u8 0), (.int .u8 0), (.int .u8 0), (.int .u8 0), (.int .u8 0), (.int .u8 0), (.int .u8 0), (.int .u8 0), (.int .u8 0), (.int .u8 0), (.int .u8 0), (.int .u8 0), (.int .u8 0), (.int .u8 0), (.int .u8 0), (.int .u8 0), (.int .u8 0), (.int .u8 0), (.int .u8 0), (.int .u8 0), (.int .u8 0), (.int .u8 0), (.int .u8 0), (.int .u8 0), (.int .u8 0), (.int .u8 0), (.int .u8 0), (.int .u8 0), (.int .u8 0), (.int .u8 0), (.int .u8 0), (.int .u8 0), (.int .u8 0), (.int .u8 0), (.int .u8 0), (.int .u8 0), (.int .u8 0), (.int .u8 0), (.int .u8 0), (.int .u8 0), (.int .u8 0), (.int .u8 0), (.int .u8 0), (.int .u8 0), (.int .u8 0), (.int .u8 0), (.int .u8 0), (.int .u8 0), (.int .u8 0), (.int .u8 0), (.int .u8 0), (.int .u8 0), (.int .u8 0), (.int .u8 0), (.int .u8 0), (.int .u8 0), (.int .u8 0), (.int .u8 0), (.int .u8 0), (.int .u8 0), (.int .u8 0), (.int .u8 0), (.int .u8 0), (.int .u8 0), (.int .u8 0), (.int .u8 0), (.int .u8 0), (.int .u8 0), (.int .u8 0), (.int .u8 0), (.int .u8 0), (.int .u8 0), (.int .u8 0), (.int .u8 0), (.int .u8 0), (.int .u8 0), (.int .u8 0), (.int .u8 0), (.int .u8 0), (.int .u8 0), (.int .u8 0), (.int .u8 0), (.int .u8 0), (.int .u8 0), (.int .u8 0), (.int .u8 0), (.int .u8 0), (.int .u8 0), (.int .u8 0), (.int .u8 0), (.int .u8 0), (.int .u8 0), (.int .u8 0), (.int .u8 0), (.int .u8 0), (.int .u8 0), (.int .u8 0), (.int .u8 0), (.int .u8 0), (.int .u8 0), (.int .u8 0), (.int .u8 0), (.int .u8 0), (.int .u8 0), (.int .u8 0), (.int .u8 0), (.int .u8 0), (.int .u8 0), (.int .u8 0), (.int .u8 0), (.int .u8 0), (.int .u8 0), (.int .u8 0), (.int .u8 0), (.int .u8 0), (.int .u8 0), (.int .u8 0), (.int .u8 0), (.int .u8 0), (.int .u8 0), (.int .u8 0), (.int .u8 0), (.int .u8 0), (.int .u8 0), (.int .u8 0), (.int .u8 0), (.int .u8 0), (.int .u8 0), (.int .u8 0), (.int .u8 0), (.int .u8 0), (.int .u8 0), (.int .u8 0), (.int .u8 0), (.int .u8 0), (.int .u8 0), (.int .u8 0), (.int .u8 0), (.int .u8 0), (.int .u8 0), (.int .u8 0), (.int .u8 0), (.int .u8 0), (.int .u8 0), (.int .u8 0), (.int .u8 0), (.int .u8 0), (.int .u8 0), (.int .u8 0), (.int .u8 0), (.int .u8 0), (.int .u8 0), (.int .u8 0), (.int .u8 0), (.int .u8 0), (.int .u8 0), (.int .u8 0), (.int .u8 0), (.int .u8 0), (.int .u8 0), (.int .u8 0), (.int .u8 0), (.int .u8 0), (.int .u8 0), (.int .u8 0), (.int .u8 0), (.int .u8 0), (.int .u8 0), (.int .u8 0), (.int .u8 0), (.int .u8 0), (.int .u8 0), (.int .u8 0), (.int .u8 0), (.int .u8 0), (.int .u8 0), (.int .u8 0), (.int .u8 0), (.int .u8 0), (.int .u8 0), (.int .u8 0), (.int .u8 0), (.int .u8 0), (.int .u8 0), (.int .u8 0), (.int .u8 0), (.int .u8 0), (.int .u8 0), (.int .u8 0), (.int .u8 0), (.int .u8 0), (.int .u8 0), (.int .u8 0), (.int .u8 0), (.int .u8 0), (.int .u8 0), (.int .u8 0), (.int .u8 0), (.int .u8 0), (.int .u8 0), (.int .u8 0), (.int .u8 0), (.int .u8 0), (.int .u8 0), (.int .u8 0), (.int .u8 0), (.int .u8 0), (.int .u8 0), (.int .u8 0), (.int .u8 0), (.int .u8 0), (.int .u8 0), (.int .u8 0), (.int .u8 0), (.int .u8 0), (.int .u8 0), (.int .u8 0), (.int .u8 0), (.int .u8 0), (.int .u8 0), (.int .u8 0), (.int .u8 0), (.int .u8 0), (.int .u8 0), (.int .u8 0), (.int .u8 0), (.int .u8 0), (.int .u8 0), (.int .u8 0), (.int .u8 0), (.int .u8 0), (.int .u8 0), (.int .u8 0), (.int .u8 0), (.int .u8 0), (.int .u8 0), (.int .u8 0), (.int .u8 0), (.int .u8 0), (.int .u8 0), (.int .u8 0), (.int .u8 0), (.int .u8 0), (.int .u8 0), (.int .u8 0), (.int .u8 0), (.int .u8 0), (.int .u8 0), (.int .u8 0), (.int .u8 0), (.int .u8 0), (.int .u8 0), (.int .u8 0), (.int .u8 0), (.int .u8 0), (.int .u8 0), (.int .u8 0), (.int .u8 0), (.int .u8 0), (.int .u8 0), (.int .u8 0), (.int .u8 0), (.int .u8 0), (.int .u8 0), (.int .u8 0), (.int .u8 0), (.int .u8 0), (.int .u8 0), (.int .u8 0), (.int .u8 0), (.int .u8 0), (.int .u8 0), (.int .u8 0), (.int .u8 0), (.int .u8 0), (.int .u8 0), (.int .u8 0), (.int .u8 0), (.int .u8 0), (.int .u8 0), (.int .u8 0), (.int .u8 0), (.int .u8 0), (.int .u8 0), (.int .u8 0), (.int .u8 0), (.int .u8 0), (.int .u8 0), (.int .u8 0), (.int .u8 0), (.int .u8 0), (.int .u8 0), (.int .u8 0), (.int .u8 0), (.int .u8 0), (.int .u8 0), (.int .u8 0), (.int .u8 0), (.int .u8 0), (.int .u8 0), (.int .u8 0), (.int .u8 0), (.int .u8 0), (.int .u8 0), (.int .u8 0), (.int .u8 0), (.int .u8 0), (.int .u8 0), (.int .u8 0), (.int .u8 0), (.int .u8 0), (.int .u8 0), (.int .u8 0), (.int .u8 0), (.int .u8 0), (.int .u8 0), (.int .u8 0), (.int .u8 0), (.int .u8 0), (.int .u8 0), (.int .u8 0), (.int .u8 0), (.int .u8 0), (.int .u8 0), (.int .u8 0), (.int .u8 0), (.int .u8 0), (.int .u8 0), (.int .u8 0), (.int .u8 0), (.int .u8 0), (.int .u8 0), (.int .u8 0), (.int .u8 0), (.int .u8 0), (.int .u8 0), (.int .u8 0), (.int .u8 0), (.int .u8 0), (.int .u8 0), (.int .u8 0), (.int .u8 0), (.int .u8 0), (.int .u8 0), (.int .u8 0), (.int .u8 0), (.int .u8 0), (.int .u8 0), (.int .u8 0), (.int .u8 0), (.int .u8 0), (.int .u8 0), (.int .u8 0), (.int .u8 0), (.int .u8 0), (.int .u8 0), (.int .u8 0), (.int .u8 0), (.int .u8 0), (.int .u8 0), (.int .u8 0), (.int .u8 0), (.int .u8 0), (.int .u8 0), (.int .u8 0), (.int .u8 0), (.int .u8 0), (.int .u8 0), (.int .u8 0), (.int .u8 0), (.int .u8 0), (.int .u8 0), (.int .u8 0), (.int .u8 0), (.int .u8 0), (.int .u8 0), (.int .u8 0), (.int .u8 0), (.int .u8 0), (.int .u8 0), (.int .u8 0), (.int .u8 0), (.int .u8 0), (.int .u8 0), (.int .u8 0), (.int .u8 0), (.int .u8 0), (.int .u8 0), (.int .u8 0), (.int .u8 0), (.int .u8 0), (.int .u8 0), (.int .u8 0), (.int .u8 0), (.int .u8 0), (.int .u8 0), (.int .u8 0), (.int .u8 0), (.int .u8 0), (.int .u8 0), (.int .u8 0), (.int .u8 0), (.int .u8 0), (.int .u8 0), (.int .u8 0), (.int .u8 0), (.int .u8 0), (.int .u8 0), (.int .u8 0), (.int .u8 0), (.int .u8 0), (.int .u8 0), (.int .u8 0), (.int .u8 0), (.int .u8 0), (.int .u8 0), (.int .u8 0), (.int .u8 0), (.int .u8 0), (.int .u8 0), (.int .u8 0), (.int .u8 0), (.int .u8 0), (.int .u8 0), (.int .u8 0), (.int .u8 0), (.int .u8 0), (.int .u8 0), (.int .u8 0), (.int .u8 0), (.int .u8 0), (.int .u8 0), (.int .u8 0), (.int .u8 0), (.int .u8 0), (.int .u8 0), (.int .u8 0), (.int .u8 0), (.int .u8 0), (.int .u8 0), (.int .u8 0), (.int .u8 0), (.int .u8 0), (.int .u8 0), (.int .u8 0), (.int .u8 0), (.int .u8 0), (.int .u8 0), (.int .u8 0), (.int .u8 0), (.int .u8 0), (.int .u8 0), (.int .u8 0), (.int .u8 0), (.int .u8 0), (.int .u8 0), (.int .u8 0), (.int .u8 0), (.int .u8 0), (.int .u8 0), (.int .u8 0), (.int .u8 0), (.int .u8 0), (.int .u8 0), (.int .u8 0), (.int .u8 0), (.int .u8 0), (.int .u8 0), (.int .u8 0), (.int .u8 0), (.int .u8 0), (.int .u8 0), (.int .u8 0), (.int .u8 0), (.int .u8 0), (.int .u8 0), (.int .u8 0), (.int .u8 0), (.int .u8 0), (.int .u8 0), (.int .u8 0), (.int .u8 0), (.int .u8 0), (.int .u8 0), (.int .u8 0), (.int .u8 0), (.int .u8 0), (.int .u8 0), (.int .u8 0), (.int .u8 0), (.int .u8 0), (.int .u8 0), (.int .u8 0), (.int .u8 0), (.int .u8 0), (.int .u8 0), (.int .u8 0), (.int .u8 0), (.int .u8 0), (.int .u8 0), (.int .u8 0), (.int .u8 0), (.int .u8 0), (.int .u8 0), (.int .u8 0), (.int .u8 0), (.int .u8 0), (.int .u8 0), (.int .u8 0), (.int .u8 0), (.int .u8 0), (.int .u8 0), (.int .u8 0), (.int .u8 0), (.int .u8 0), (.int .u8 0), (.int .u8 0), (.int .u8 0), (.int .u8 0), (.int .u8 0), (.int .u8 0), (.int .u8 0), (.int .u8 0), (.int .u8 0), (.int .u8 0), (.int .u8 0), (.int .u8 0), (.int .u8 0), (.int .u8 0), (.int .u8 0), (.int .u8 0), (.int .u8 0), (.int .u8 0), (.int .u8 0), (.int .u8 0), (.int .u8 0), (.int .u8 0), (.int .u8 0), (.int .u8 0), (.int .u8 0), (.int .u8 0), (.int .u8 0), (.int .u8 0), (.int .u8 0), (.int .u8 0), (.int .u8 0), (.int .u8 0), (.int .u8 0), (.int .u8 0), (.int .u8 0), (.int .u8 0), (.int .u8 0), (.int .u8 0), (.int .u8 0), (.int .u8 0), (.int .u8 0), (.int .u8 0), (.int .u8 0), (.int .u8 0), (.int .u8 0), (.int .u8 0), (.int .u8 0), (.int .u8 0), (.int .u8 0), (.int .u8 0), (.int .u8 0), (.int .u8 0), (.int .u8 0), (.int .u8 0), (.int .u8 0), (.int .u8 0), (.int .u8 0), (.int .u8 0), (.int .u8 0), (.int .u8 0), (.int .u8 0), (.int .u8 0), (.int .u8 0), (.int .u8 0), (.int .u8 0), (.int .u8 0), (.int .u8 0), (.int .u8 0), (.int .u8 0), (.int .u8 0), (.int .u8 0), (.int .u8 0), (.int .u8 0), (.int .u8 0), (.int .u8 0), (.int .u8 0), (.int .u8 0), (.int .u8 0), (.int .u8 0), (.int .u8 0), (.int .u8 0), (.int .u8 0), (.int .u8 0), (.int .u8 0), (.int .u8 0), (.int .u8 0), (.int .u8 0), (.int .u8 0), (.int .u8 0), (.int .u8 0), (.int .u8 0), (.int .u8 0), (.int .u8 0), (.int .u8 0), (.int .u8 0), (.int .u8 0), (.int .u8 0), (.int .u8 0), (.int .u8 0), (.int .u8 0), (.int .u8 0), (.int .u8 0), (.int .u8 0), (.int .u8 0), (.int .u8 0), (.int .u8 0), (.int .u8 0), (.int .u8 0), (.int .u8 0), (.int .u8 0), (.int .u8 0), (.int .u8 0), (.int .u8 0), (.int .u8 0), (.int .u8 0), (.int .u8 0), (.int .u8 0), (.int .u8 0), (.int .u8 0), (.int .u8 0), (.int .u8 0), (.int .u8 0), (.int .u8 0), (.int .u8 0), (.int .u8 0), (.int .u8 0), (.int .u8 0), (.int .u8 0), (.int .u8 0), (.int .u8 0), (.int .u8 0), (.int .u8 0), (.int .u8 0), (.int .u8 0), (.int .u8 0), (.int .u8 0), (.int .u8 0), (.int .u8 0), (.int .u8 0), (.int .u8 0), (.int .u8 0), (.int .u8 0), (.int .u8 0), (.int .u8 0), (.int .u8 0), (.int .u8 0), (.int .u8 0), (.int .u8 0), (.int .u8 0), (.int .u8 0), (.int .u8 0), (.int .u8 0), (.int .u8 0), (.int .u8 0), (.int .u8 0), (.int .u8 0), (.int .u8 0), (.int .u8 0), (.int .u8 0), (.int .u8 0), (.int .u8 0), (.int .u8 0), (.int .u8 0), (.int .u8 0), (.int .u8 0), (.int .u8 0), (.int .u8 0), (.int .u8 0), (.int .u8 0), (.int .u8 0), (.int .u8 0), (.int .u8 0), (.int .u8 0), (.int .u8 0), (.int .u8 0), (.int .u8 0), (.int .u8 0), (.int .u8 0), (.int .u8 0), (.int .u8 0), (.int .u8 0), (.int .u8 0), (.int .u8 0), (.int .u8 0), (.int .u8 0), (.int .u8 0), (.int .u8 0), (.int .u8 0), (.int .u8 0), (.int .u8 0), (.int .u8 0), (.int .u8 0), (.int .u8 0), (.int .u8 0), (.int .u8 0), (.int .u8 0), (.int .u8 0), (.int .u8 0), (.int .u8 0), (.int .u8 0), (.int .u8 0), (.int .u8 0), (.int .u8 0), (.int .u8 0), (.int .u8 0), (.int .u8 0), (.int .u8 0), (.int .u8 0), (.int .u8 0), (.int .u8 0), (.int .u8 0), (.int .u8 0), (.int .u8 0), (.int .u8 0), (.int .u8 0), (.int .u8 0), (.int .u8 0), (.int .u8 0), (.int .u8 0), (.int .u8 0), (.int .u8 0), (.int .u8 0), (.int .u8 0), (.int .u8 0), (.int .u8 0), (.int .u8 0), (.int .u8 0), (.int .u8 0), (.int .u8 0), (.int .u8 0), (.int .u8 0), (.int .u8 0), (.int .u8 0), (.int .u8 0), (.int .u8 0), (.int .u8 0), (.int .u8 0), (.int .u8 0), (.int .u8 0), (.int .u8 0), (.int .u8 0), (.int .u8 0), (.int .u8 0), (.int .u8 0), (.int .u8 0), (.int .u8 0), (.int .u8 0), (.int .u8 0), (.int .u8 0), (.int .u8 0), (.int .u8 0), (.int .u8 0), (.int .u8 0), (.int .u8 0), (.int .u8 0), (.int .u8 0), (.int .u8 0), (.int .u8 0), (.int .u8 0)]), sh := shCells 800 }
def ty137 : Ty := { und := (.struct #[{ name := "d", type := 135, offset := 0, embedded := false, tag := "", pkgPath := "internal/strconv", byteOffset := 0 }, { name := "nd", type := 3, offset := 800, embedded := false, tag := "", pkgPath := "internal/strconv", byteOffset := 800 }, { name := "dp", type := 3, offset := 801, embedded := false, tag := "", pkgPath := "internal/strconv", byteOffset := 808 }, { name := "neg", type := 4, offset := 802, embedded := false, tag := "", pkgPath := "internal/strconv", byteOffset := 816 }, { name := "trunc", type := 4, offset := 803, embedded := false, tag := "", pkgPath := "internal/strconv", byteOffset := 817 }]), size := 804, bytes := 824, zero := (.agg #[(.int .u8 0), (.int .u8 0), (.int .u8 0), (.int .u8 0), (.int .u8 0), (.int .u8 0), (.int .u8 0), (.int .u8 0), (.int .u8 0), (.int .u8 0), (.int .u8 0), (.int .u8 0), (.int .u8 0), (.int .u8 0), (.int .u8 0), (.int .u8 0), (.int .u8 0), (.int .u8 0), (.int .u8 0), (.int .u8 0), (.int .u8 0), (.int .u8 0), (.int .u8 0), (.int .u8 0), (.int .u8 0), (.int .u8 0), (.int .u8 0), (.int .u8 0), (.int .u8 0), (.int .u8 0), (.int .u8 0), (.int .u8 0), (.int .u8 0), (.int .u8 0), (.int .u8 0), (.int .u8 0), (.int .u8 0), (.int .u8 0), (.int .u8 0), (.int .u8 0), (.int .u8 0), (.int .u8 0), (.int .u8 0), (.int .u8 0), (.int .u8 0), (.int .u8 0), (.int .u8 0), (.int .u8 0), (.int .u8 0), (.int .u8 0), (.int .u8 0), (.int .u8 0), (.int .u8 0), (.int .u8 0), (.int .u8 0), (.int .u8 0), (.int .u8 0), (.int .u8 0), (.int .u8 0), (.int .u8 0), (.int .u8 0), (.int .u8 0), (.int .u8 0), (.int .u8 0), (.int .u8 0), (.int .u8 0), (.int .u8 0), (.int .u8 0), (.int .u8 0), (.int .u8 0), (.int .u8 0), (.int .u8 0), (.int .u8 0), (.int .u8 0), (.int .u8 0), (.int .u8 0), (.int .u8 0), (.int .u8 0), (.int .u8 0), (.int .u8 0), (.int .u8 0), (.int .u8 0), (.int .u8 0), (.int .u8 0), (.int .u8 0), (.int .u8 0), (.int .u8 0), (.int .u8 0), (.int .u8 0), (.int .u8 0), (.int .u8 0), (.int .u8 0), (.int .u8 0), (.int .u8 0), (.int .u8 0), (.int .u8 0), (.int .u8 0), (.int .u8 0), (.int .u8 0), (.int .u8 0), (.int .u8 0), (.int .u8 0), (.int .u8 0), (.int .u8 0), (.int .u8 0), (.int .u8 0), (.int .u8 0), (.int .u8 0), (.int .u8 0), (.int .u8 0), (.int .u8 0), (.int .u8 0), (.int .u8 0), (.int .u8 0), (.int .u8 0), (.int .u8 0), (.int .u8 0), (.int .u8 0), (.int .u8 0), (.int .u8 0), (.int .u8 0), (.int .u8 0), (.int .u8 0), (.int .u8 0), (.int .u8 0), (.int .u8 0), (.int .u8 0), (.int .u8 0), (.int .u8 0), (.int .u8 0), (.int .u8 0), (.int .u8 0), (.int .u8 0), (.int .u8 0), (.int .u8 0), (.int .u8 0), (.int .u8 0), (.int .u8 0), (.int .u8 0), (.int .u8 0), (.int .u8 0), (.int .u8 0), (.int .u8 0), (.int .u8 0), (.int .u8 0), (.int .u8 0), (.int .u8 0), (.int .u8 0), (.int .u8 0), (.int .u8 0), (.int .u8 0), (.int .u8 0), (.int .u8 0), (.int .u8 0), (.int .u8 0), (.int .u8 0), (.int .u8 0), (.int .u8 0), (.int .u8 0), (.int .u8 0), (.int .u8 0), (.int .u8 0), (.int .u8 0), (.int .u8 0), (.int .u8 0), (.int .u8 0), (.int .u8 0), (.int .u8 0), (.int .u8 0), (.int .u8 0), (.int .u8 0), (.int .u8 0), (.int .u8 0), (.int .u8 0), (.int .u8 0), (.int .u8 0), (.int .u8 0), (.int .u8 0), (.int .u8 0), (.int .u8 0), (.int .u8 0), (.int .u8 0), (.int .u8 0), (.int .u8 0), (.int .u8 0), (.int .u8 0), (.int .u8 0), (.int .u8 0), (.int .u8 0), (.int .u8 0), (.int .u8 0), (.int .u8 0), (.int .u8 0), (.int .u8 0), (.int .u8 0), (.int .u8 0), (.int .u8 0), (.int .u8 0), (.int .u8 0), (.int .u8 0), (.int .u8 0), (.int .u8 0), (.int .u8 0), (.int .u8 0), (.int .u8 0), (.int .u8 0), (.int .u8 0), (.int .u8 0), (.int .u8 0), (.int .u8 0), (.int .u8 0), (.int .u8 0), (.int .u8 0), (.int .u8 0), (.int .u8 0), (.int .u8 0), (.int .u8 0), (.int .u8 0), (.int .u8 0), (.int .u8 0), (.int .u8 0), (.int .u8 0), (.int .u8 0), (.int .u8 0), (.int .u8 0), (.int .u8 0), (.int .u8 0), (.int .u8 0), (.int .u8 0), (.int .u8 0), (.int .u8 0), (.int .u8 0), (.int .u8 0), (.int .u8 0), (.int .u8 0), (.int .u8 0), (.int .u8 0), (.int .u8 0), (.int .u8 0), (.int .u8 0), (.int .u8 0), (.int .u8 0), (.int .u8 0), (.int .u8 0), (.int .u8 0), (.int .u8 0), (.int .u8 0), (.int .u8 0), (.int .u8 0), (.int .u8 0), (.int .u8 0), (.int .u8 0), (.int .u8 0), (.int .u8 0), (.int .u8 0), (.int .u8 0), (.int .u8 0), (.int .u8 0), (.int .u8 0), (.int .u8 0), (.int .u8 0), (.int .u8 0), (.int .u8 0), (.int .u8 0), (.int .u8 0), (.int .u8 0), (.int .u8 0), (.int .u8 0), (.int .u8 0), (.int .u8 0), (.int .u8 0), (.int .u8 0), (.int .u8 0), (.int .u8 0), (.int .u8 0), (.int .u8 0), (.int .u8 0), (.int .u8 0), (.int .u8 0), (.int .u8 0), (.int .u8 0), (.int .u8 0), (.int .u8 0), (.int .u8 0), (.int .u8 0), (.int .u8 0), (.int .u8 0), (.int .u8 0), (.int .u8 0), (.int .u8 0), (.int .u8 0), (.int .u8 0), (.int .u8 0), (.int .u8 0), (.int .u8 0), (.int .u8 0), (.int .u8 0), (.int .u8 0), (.int .u8 0), (.int .u8 0), (.int .u8 0), (.int .u8 0), (.int .u8 0), (.int .u8 0), (.int .u8 0), (.int .u8 0), (.int .u8 0), (.int .u8 0), (.int .u8 0), (.int .u8 0), (.int .u8 0), (.int .u8 0), (.int .u8 0), (.int .u8 0), (.int .u8 0), (.int .u8 0), (.int .u8 0), (.int .u8 0), (.int .u8 0), (.int .u8 0), (.int .u8 0), (.int .u8 0), (.int .u8 0), (.int .u8 0), (.int .u8 0), (.int .u8 0), (.int .u8 0), (.int .u8 0), (.int .u8 0), (.int .u8 0), (.int .u8 0), (.int .u8 0), (.int .u8 0), (.int .u8 0), (.int .u8 0), (.int .u8 0), (.int .u8 0), (.int .u8 0), (.int .u8 0), (.int .u8 0), (.int .u8 0), (.int .u8 0), (.int .u8 0), (.int .u8 0), (.int .u8 0), (.int .u8 0), (.int .u8 0), (.int .u8 0), (.int .u8 0), (.int .u8 0), (.int .u8 0), (.int .u8 0), (.int .u8 0), (.int .u8 0), (.int .u8 0), (.int .u8 0), (.int .u8 0), (.int .u8 0), (.int .u8 0), (.int .u8 0), (.int .u8 0), (.int .u8 0), (.int .u8 0), (.int .u8 0), (.int .u8 0), (.int .u8 0), (.int .u8 0), (.int .u8 0), (.int .u8 0), (.int .u8 0), (.int .u8 0), (.int .u8 0), (.int .u8 0), (.int .u8 0), (.int .u8 0), (.int .u8 0), (.int .u8 0), (.int .u8 0), (.int .u8 0), (.int .u8 0), (.int .u8 0), (.int .u8 0), (.int .u8 0), (.int .u8 0), (.int .u8 0), (.int .u8 0), (.int .u8 0), (.int .u8 0), (.int .u8 0), (.int .u8 0), (.int .u8 0), (.int .u8 0), (.int .u8 0), (.int .u8 0), (.int .u8 0), (.int .u8 0), (.int .u8 0), (.int .u8 0), (.int .u8 0), (.int .u8 0), (.int .u8 0), (.int .u8 0), (.int .u8 0), (.int .u8 0), (.int .u8 0), (.int .u8 0), (.int .u8 0), (.int .u8 0), (.int .u8 0), (.int .u8 0), (.int .u8 0), (.int .u8 0), (.int .u8 0), (.int .u8 0), (.int .u8 0), (.int .u8 0), (.int .u8 0), (.int .u8 0), (.int .u8 0), (.int .u8 0), (.int .u8 0), (.int .u8 0), (.int .u8 0), (.int .u8 0), (.int .u8 0), (.int .u8 0), (.int .u8 0), (.int .u8 0), (.int .u8 0), (.int .u8 0), (.int .u8 0), (.int .u8 0), (.int .u8 0), (.int .u8 0), (.int .u8 0), (.int .u8 0), (.int .u8 0), (.int .u8 0), (.int .u8 0), (.int .u8 0), (.int .u8 0), (.int .u8 0), (.int .u8 0), (.int .u8 0), (.int .u8 0), (.int .u8 0), (.int .u8 0), (.int .u8 0), (.int .u8 0), (.int .u8 0), (.int .u8 0), (.int .u8 0), (.int .u8 0), (.int .u8 0), (.int .u8 0), (.int .u8 0), (.int .u8 0), (.int .u8 0), (.int .u8 0), (.int .u8 0), (.int .u8 0), (.int .u8 0), (.int .u8 0), (.int .u8 0), (.int .u8 0), (.int .u8 0), (.int .u8 0), (.int .u8 0), (.int .u8 0), (.int .u8 0), (.int .u8 0), (.int .u8 0), (.int .u8 0), (.int .u8 0), (.int .u8 0), (.int .u8 0), (.int .u8 0), (.int .u8 0), (.int .u8 0), (.int .u8 0), (.int .u8 0), (.int .u8 0), (.int .u8 0), (.int .u8 0), (.int .u8 0), (.int .u8 0), (.int .u8 0), (.int .u8 0), (.int .u8 0), (.int .u8 0), (.int .u8 0), (.int .u8 0), (.int .u8 0), (.int .u8 0), (.int .u8 0), (.int .u8 0), (.int .u8 0), (.int .u8 0), (.int .u8 0), (.int .u8 0), (.int .u8 0), (.int .u8 0), (.int .u8 0), (.int .u8 0), (.int .u8 0), (.int .u8 0), (.int .u8 0), (.int .u8 0), (.int .u8 0), (.int .u8 0), (.int .u8 0), (.int .u8 0), (.int .u8 0), (.int .u8 0), (.int .u8 0), (.int .u8 0), (.int .u8 0), (.int .u8 0), (.int .u8 0), (.int .u8 0), (.int .u8 0), (.int .u8 0), (.int .u8 0), (.int .u8 0), (.int .u8 0), (.int .u8 0), (.int .u8 0), (.int .u8 0), (.int .u8 0), (.int .u8 0), (.int .u8 0), (.int .u8 0), (.int .u8 0), (.int .u8 0), (.int .u8 0), (.int .u8 0), (.int .u8 0), (.int .u8 0), (.int .u8 0), (.int .u8 0), (.int .u8 0), (.int .u8 0), (.int .u8 0), (.int .u8 0), (.int .u8 0), (.int .u8 0), (.int .u8 0), (.int .u8 0), (.int .u8 0), (.int .u8 0), (.int .u8 0), (.int .u8 0), (.int .u8 0), (.int .u8 0), (.int .u8 0), (.int .u8 0), (.int .u8 0), (.int .u8 0), (.int .u8 0), (.int .u8 0), (.int .u8 0), (.int .u8 0), (.int .u8 0), (.int .u8 0), (.int .u8 0), (.int .u8 0), (.int .u8 0), (.int .u8 0), (.int .u8 0), (.int .u8 0), (.int .u8 0), (.int .u8 0), (.int .u8 0), (.int .u8 0), (.int .u8 0), (.int .u8 0), (.int .u8 0), (.int .u8 0), (.int .u8 0), (.int .u8 0), (.int .u8 0), (.int .u8 0), (.int .u8 0), (.int .u8 0), (.int .u8 0), (.int .u8 0), (.int .u8 0), (.int .u8 0), (.int .u8 0), (.int .u8 0), (.int .u8 0), (.int .u8 0), (.int .u8 0), (.int .u8 0), (.int .u8 0), (.int .u8 0), (.int .u8 0), (.int .u8 0), (.int .u8 0), (.int .u8 0), (.int .u8 0), (.int .u8 0), (.int .u8 0), (.int .u8 0), (.int .u8 0), (.int .u8 0), (.int .u8 0), (.int .u8 0), (.int .u8 0), (.int .u8 0), (.int .u8 0), (.int .u8 0), (.int .u8 0), (.int .u8 0), (.int .u8 0), (.int .u8 0), (.int .u8 0), (.int .u8 0), (.int .u8 0), (.int .u8 0), (.int .u8 0), (.int .u8 0), (.int .u8 0), (.int .u8 0), (.int .u8 0), (.int .u8 0), (.int .u8 0), (.int .u8 0), (.int .u8 0), (.int .u8 0), (.int .u8 0), (.int .u8 0), (.int .u8 0), (.int .u8 0), (.int .u8 0), (.int .u8 0), (.int .u8 0), (.int .u8 0), (.int .u8 0), (.int .u8 0), (.int .u8 0), (.int .u8 0), (.int .u8 0), (.int .u8 0), (.int .u8 0), (.int .u8 0), (.int .u8 0), (.int .u8 0), (.int .u8 0), (.int .u8 0), (.int .u8 0), (.int .u8 0), (.int .u8 0), (.int .u8 0), (.int .u8 0), (.int .u8 0), (.int .u8 0), (.int .u8 0), (.int .u8 0), (.int .u8 0), (.int .u8 0), (.int .u8 0), (.int .u8 0), (.int .u8 0), (.int .u8 0), (.int .u8 0), (.int .u8 0), (.int .u8 0), (.int .u8 0), (.int .u8 0), (.int .u8 0), (.int .u8 0), (.int .u8 0), (.int .u8 0), (.int .u8 0), (.int .u8 0), (.int .u8 0), (.int .u8 0), (.int .u8 0), (.int .u8 0), (.int .u8 0), (.int .u8 0), (.int .u8 0), (.int .u8 0), (.int .u8 0), (.int .u8 0), (.int .u8 0), (.int .u8 0), (.int .u8 0), (.int .u8 0), (.int .u8 0), (.int .u8 0), (.int .u8 0), (.int .u8 0), (.int .u8 0), (.int .u8 0), (.int .u8 0), (.int .u8 0), (.int .u8 0), (.int .u8 0), (.int .u8 0), (.int .u8 0), (.int .u8 0), (.int .u8 0), (.int .u8 0), (.int .u8 0), (.int .u8 0), (.int .u8 0), (.int .u8 0), (.int .u8 0), (.int .u8 0), (.int .u8 0), (.int .u8 0), (.int .u8 0), (.int .u8 0), (.int .u8 0), (.int .u8 0), (.int .u8 0), (.int .u8 0), (.int .u8 0), (.int .u8 0), (.int .u8 0), (.int .u8 0), (.int .u8 0), (.int .u8 0), (.int .u8 0), (.int .u8 0), (.int .u8 0), (.int .u8 0), (.int .u8 0), (.int .u8 0), (.int .u8 0), (.int .u8 0), (.int .u8 0), (.int .u8 0), (.int .u8 0), (.int .u8 0), (.int .u8 0), (.int .u8 0), (.int .u8 0), (.int .u8 0), (.int .u8 0), (.int .u8 0), (.int .u8 0), (.int .u8 0), (.int .u8 0), (.int .u8 0), (.int .u8 0), (.int .u8 0), (.int .u8 0), (.int .u8 0), (.int .u8 0), (.int .u8 0), (.int .u8 0), (.int .u8 0), (.int .u8 0), (.int .u8 0), (.int .u8 0), (.int .u8 0), (.int .u8 0), (.int .u8 0), (.int .u8 0), (.int .u8 0), (.int .u8 0), (.int .u8 0), (.int .u8 0), (.int .u8 0), (.int .u8 0), (.int .u8 0), (.int .u8 0), (.int .u8 0), (.int .u8 0), (.int .u8 0), (.int .u8 0), (.int .u8 0), (.int .u8 0), (.int .u8 0), (.int .u8 0), (.int .u8 0), (.int .u8 0), (.int .u8 0), (.int .u8 0), (.int .u8 0), (.int .u8 0), (.int .u8 0), (.int .u8 0), (.int .u8 0), (.int .u8 0), (.int .u8 0), (.int .u8 0), (.int .u8 0), (.int .u8 0), (.int .u8 0), (.int .u8 0), (.int .u8 0), (.int .u8 0), (.int .u8 0), (.int .u8 0), (.int .u8 0), (.int .u8 0), (.int .i64 0), (.int .i64 0), (.bool false), (.bool false)]), sh := shCells 804 }
def ty139 : Ty := { und := (.pointer 141), size := 1, bytes := 8, zero := (.pointer none), sh := shPtr }
def ty141 : Ty := { und := (.struct #[{ name := "s", type := 9, offset := 0, embedded := false, tag := "", pkgPath := "errors", byteOffset := 0 }]), size := 1, bytes := 16, zero := (.agg #[(.string ByteArray.empty)]), sh := sh_errors_errorString }
def ty142 : Ty := { und := (.tuple #[34, 3, 4]), size := 1, bytes := 0, zero := (.tuple #[(.float .f64 0), (.int .i64 0), (.bool false)]), sh := shTup3 (shFlt .f64) (shInt .i64) shBool }
def ty144 : Ty := { und := (.tuple #[31, 3, 4, 4, 4, 3, 4]), size := 1, bytes := 0, zero := (.tuple #[(.int .u64 0), (.int .i64 0), (.bool false), (.bool false), (.bool false), (.int .i64 0), (.bool false)]), sh := shTup7 (shInt .u64) (shInt .i64) shBool shBool shBool (shInt .i64) shBool }
def ty147 : Ty := { und := (.pointer 149), size := 1, bytes := 8, zero := (.pointer none), sh := shPtr }
def ty149 : Ty := { und := (.struct #[{ name := "mantbits", type := 74, offset := 0, embedded := false, tag := "", pkgPath := "internal/strconv", byteOffset := 0 }, { name := "expbits", type := 74, offset := 1, embedded := false, tag := "", pkgPath := "internal/strconv", byteOffset := 8 }, { name := "bias", type := 3, offset := 2, embedded := false, tag := "", pkgPath := "internal/strconv", byteOffset := 16 }]), size := 3, bytes := 24, zero := (.agg #[(.int .u64 0), (.int .u64 0), (.int .i64 0)]), sh := sh_internal_strconv_floatInfo }
def ty152 : Ty := { und := (.tuple #[100, 4]), size := 1, bytes := 0, zero := (.tuple #[(.float .f32 0), (.bool false)]), sh := shTup2 (shFlt .f32) shBool }
def ty154 : Ty := { und := (.tuple #[100, 45]), size := 1, bytes := 0, zero := (.tuple #[(.float .f32 0), .nilIface]), sh := shTup2 (shFlt .f32) shLeaf }
def ty156 : Ty := { und := (.tuple #[31, 4]), size := 1, bytes := 0, zero := (.tuple #[(.int .u64 0), (.bool false)]), sh := shTup2 (shInt .u64) shBool }
def ty159 : Ty := { und := (.tuple #[34, 4]), size := 1, bytes := 0, zero := (.tuple #[(.float .f64 0), (.bool false)]), sh := shTup2 (shFlt .f64) shBool }
def ty163 : Ty := { und := (.array 20 31), size := 20, bytes := 160, zero := (.agg #[(.int .u64 0), (.int .u64 0), (.int .u64 0), (.int .u64 0), (.int .u64 0), (.int .u64 0), (.int .u64 0), (.int .u64 0), (.int .u64 0), (.int .u64 0), (.int .u64 0), (.int .u64 0), (.int .u64 0), (.int .u64 0), (.int .u64 0), (.int .u64 0), (.int .u64 0), (.int .u64 0), (.int .u64 0), (.int .u64 0)]), sh := sh_n20_uint64 }
def ty164 : Ty := { und := (.array 65 5), size := 65, bytes := 65, zero := (.agg #[(.int .u8 0), (.int .u8 0), (.int .u8 0), (.int .u8 0), (.int .u8 0), (.int .u8 0), (.int .u8 0), (.int .u8 0), (.int .u8 0), (.int .u8 0), (.int .u8 0), (.int .u8 0), (.int .u8 0), (.int .u8 0), (.int .u8 0), (.int .u8 0), (.int .u8 0), (.int .u8 0), (.int .u8 0), (.int .u8 0), (.int .u8 0), (.int .u8 0), (.int .u8 0), (.int .u8 0), (.int .u8 0), (.int .u8 0), (.int .u8 0), (.int .u8 0), (.int .u8 0), (.int .u8 0), (.int .u8 0), (.int .u8 0), (.int .u8 0), (.int .u8 0), (.int .u8 0), (.int .u8 0), (.int .u8 0), (.int .u8 0), (.int .u8 0), (.int .u8 0), (.int .u8 0), (.int .u8 0), (.int .u8 0), (.int .u8 0), (.int .u8 0), (.int .u8 0), (.int .u8 0), (.int .u8 0), (.int .u8 0), (.int .u8 0), (.int .u8 0), (.int .u8 0), (.int .u8 0), (.int .u8 0), (.int .u8 0), (.int .u8 0), (.int .u8 0), (.int .u8 0), (.int .u8 0), (.int .u8 0), (.int .u8 0), (.int .u8 0), (.int .u8 0), (.int .u8 0), (.int .u8 0)]), sh := shCells 65 }
def ty167 : Ty := { und := .unsafePointer, size := 1, bytes := 8, zero := (.pointer none), sh := shLeaf }
def ty174 : Ty := { und := (.struct #[{ name := "pmHi", type := 31, offset := 0, embedded := false, tag := "", pkgPath := "internal/strconv", byteOffset := 0 }, { name := "pmLo", type := 31, offset := 1, embedded := false, tag := "", pkgPath := "internal/strconv", byteOffset := 8 }, { name := "s", type := 3, offset := 2, embedded := false, tag := "", pkgPath := "internal/strconv", byteOffset := 16 }]), size := 3, bytes := 24, zero := (.agg #[(.int .u64 0), (.int .u64 0), (.int .i64 0)]), sh := sh_internal_strconv_scaler }
def ty176 : Ty := { und := (.pointer 174), size := 1, bytes := 8, zero := (.pointer none), sh := shPtr }
def ty177 : Ty := { und := (.int .u64), size := 1, bytes := 8, zero := (.int .u64 0), sh := shInt .u64 }
def ty187 : Ty := { und := (.slice 100), size := 1, bytes := 24, zero := (.slice none 0 0), sh := shSl }
def ty189 : Ty := { und := (.slice 3), size := 1, bytes := 24, zero := (.slice none 0 0), sh := shSl }
def ty190 : Ty := { und := (.slice 34), size := 1, bytes := 24, zero := (.slice none 0 0), sh := shSl }
def ty194 : Ty := { und := (.struct #[{ name := "hi", type := 31, offset := 0, embedded := false, tag := "", pkgPath := "internal/strconv", byteOffset := 0 }, { name := "lo", type := 31, offset := 1, embedded := false, tag := "", pkgPath := "internal/strconv", byteOffset := 8 }]), size := 2, bytes := 16, zero := (.agg #[(.int .u64 0), (.int .u64 0)]), sh := sh_internal_strconv_pmHiLo }
def ty195 : Ty := { und := (.array 696 194), size := 1392, bytes := 11136, zero := (.agg #[(.int .u64 0), (.int .u64 0), (.int .u64 0), (.int .u64 0), (.int .u64 0), (.int .u64 0), (.int .u64 0), (.int .u64 0), (.int .u64 0), (.int .u64 0), (.int .u64 0), (.int .u64 0), (.int .u64 0), (.int .u64 0), (.int .u64 0), (.int .u64 0), (.int .u64 0), (.int .u64 0), (.int .u64 0), (.int .u64 0), (.int .u64 0), (.int .u64 0), (.int .u64 0), (.int .u64 0), (.int .u64 0), (.int .u64 0), (.int .u64 0), (.int .u64 0), (.int .u64 0), (.int .u64 0), (.int .u64 0), (.int .u64 0), (.int .u64 0), (.int .u64 0), (.int .u64 0), (.int .u64 0), (.int .u64 0), (.int .u64 0), (.int .u64 0), (.int .u64 0), (.int .u64 0), (.int .u64 0), (.int .u64 0), (.int .u64 0), (.int .u64 0), (.int .u64 0), (.int .u64 0), (.int .u64 0), (.int .u64 0), (.int .u64 0), (.int .u64 0), (.int .u64 0), (.int .u64 0), (.int .u64 0), (.int .u64 0), (.int .u64 0), (.int .u64 0), (.int .u64 0), (.int .u64 0), (.int .u64 0), (.int .u64 0), (.int .u64 0), (.int .u64 0), (.int .u64 0), (.int .u64 0), (.int .u64 0), (.int .u64 0), (.int .u64 0), (.int .u64 0), (.int .u64 0), (.int .u64 0), (.int .u64 0), (.int .u64 0), (.int .u64 0), (.int .u64 0), (.int .u64 0), (.int .u64 0), (.int .u64 0), (.int .u64 0), (.int .u64 0), (.int .u64 0), (.int .u64 0), (.int .u64 0), (.int .u64 0), (.int .u64 0), (.int .u64 0), (.int .u64 0), (.int .u64 0), (.int .u64 0), (.int .u64 0), (.int .u64 0), (.int .u64 0), (.int .u64 0), (.int .u64 0), (.int .u64 0), (.int .u64 0), (.int .u64 0), (.int .u64 0), (.int .u64 0), (.int .u64 0), (.int .u64 0), (.int .u64 0), (.int .u64 0), (.int .u64 0), (.int .u64 0), (.int .u64 0), (.int .u64 0), (.int .u64 0), (.int .u64 0), (.int .u64 0), (.int .u64 0), (.int .u64 0), (.int .u64 0), (.int .u64 0), (.int .u64 0), (.int .u64 0), (.int .u64 0), (.int .u64 0), (.int .u64 0), (.int .u64 0), (.int .u64 0), (.int .u64 0), (.int .u64 0), (.int .u64 0), (.int .u64 0), (.int .u64 0), (.int .u64 0), (.int .u64 0), (.int .u64 0), (.int .u64 0), (.int .u64 0), (.int .u64 0), (.int .u64 0), (.int .u64 0), (.int .u64 0), (.int .u64 0), (.int .u64 0), (.int .u64 0), (.int .u64 0), (.int .u64 0), (.int .u64 0), (.int .u64 0), (.int .u64 0), (.int .u64 0), (.int .u64 0), (.int .u64 0), (.int .u64 0), (.int .u64 0), (.int .u64 0), (.int .u64 0), (.int .u64 0), (.int .u64 0), (.int .u64 0), (.int .u64 0), (.int .u64 0), (.int .u64 0), (.int .u64 0), (.int .u64 0), (.int .u64 0), (.int .u64 0), (.int .u64 0), (.int .u64 0), (.int .u64 0), (.int .u64 0), (.int .u64 0), (.int .u64 0), (.int .u64 0), (.int .u64 0), (.int .u64 0), (.int .u64 0), (.int .u64 0), (.int .u64 0), (.int .u64 0), (.int .u64 0), (.int .u64 0), (.int .u64 0), (.int .u64 0), (.int .u64 0), (.int .u64 0), (.int .u64 0), (.int .u64 0), (.int .u64 0), (.int .u64 0), (.int .u64 0), (.int .u64 0), (.int .u64 0), (.int .u64 0), (.int .u64 0), (.int .u64 0), (.int .u64 0), (.int .u64 0), (.int .u64 0), (.int .u64 0), (.int .u64 0), (.int .u64 0), (.int .u64 0), (.int .u64 0), (.int .u64 0), (.int .u64 0), (.int .u64 0), (.int .u64 0), (.int .u64 0), (.int .u64 0), (.int .u64 0), (.int .u64 0), (.int .u64 0), (.int .u64 0), (.int .u64 0), (.int .u64 0), (.int .u64 0), (.int .u64 0), (.int .u64 0), (.int .u64 0), (.int .u64 0), (.int .u64 0), (.int .u64 0), (.int .u64 0), (.int .u64 0), (.int .u64 0), (.int .u64 0), (.int .u64 0), (.int .u64 0), (.int .u64 0), (.int .u64 0), (.int .u64 0), (.int .u64 0), (.int .u64 0), (.int .u64 0), (.int .u64 0), (.int .u64 0), (.int .u64 0), (.int .u64 0), (.int .u64 0), (.int .u64 0), (.int .u64 0), (.int .u64 0), (.int .u64 0), (.int .u64 0), (.int .u64 0), (.int .u64 0), (.int .u64 0), (.int .u64 0), (.int .u64 0), (.int .u64 0), (.int .u64 0), (.int .u64 0), (.int .u64 0), (.int .u64 0), (.int .u64 0), (.int .u64 0), (.int .u64 0), (.int .u64 0), (.int .u64 0), (.int .u64 0), (.int .u64 0), (.int .u64 0), (.int .u64 0), (.int .u64 0), (.int .u64 0), (.int .u64 0), (.int .u64 0), (.int .u64 0), (.int .u64 0), (.int .u64 0), (.int .u64 0), (.int .u64 0), (.int .u64 0), (.int .u64 0), (.int .u64 0), (.int .u64 0), (.int .u64 0), (.int .u64 0), (.int .u64 0), (.int .u64 0), (.int .u64 0), (.int .u64 0), (.int .u64 0), (.int .u64 0), (.int .u64 0), (.int .u64 0), (.int .u64 0), (.int .u64 0), (.int .u64 0), (.int .u64 0), (.int .u64 0), (.int .u64 0), (.int .u64 0), (.int .u64 0), (.int .u64 0), (.int .u64 0), (.int .u64 0), (.int .u64 0), (.int .u64 0), (.int .u64 0), (.int .u64 0), (.int .u64 0), (.int .u64 0), (.int .u64 0), (.int .u64 0), (.int .u64 0), (.int .u64 0), (.int .u64 0), (.int .u64 0), (.int .u64 0), (.int .u64 0), (.int .u64 0), (.int .u64 0), (.int .u64 0), (.int .u64 0), (.int .u64 0), (.int .u64 0), (.int .u64 0), (.int .u64 0), (.int .u64 0), (.int .u64 0), (.int .u64 0), (.int .u64 0), (.int .u64 0), (.int .u64 0), (.int .u64 0), (.int .u64 0), (.int .u64 0), (.int .u64 0), (.int .u64 0), (.int .u64 0), (.int .u64 0), (.int .u64 0), (.int .u64 0), (.int .u64 0), (.int .u64 0), (.int .u64 0), (.int .u64 0), (.int .u64 0), (.int .u64 0), (.int .u64 0), (.int .u64 0), (.int .u64 0), (.int .u64 0), (.int .u64 0), (.int .u64 0), (.int .u64 0), (.int .u64 0), (.int .u64 0), (.int .u64 0), (.int .u64 0), (.int .u64 0), (.int .u64 0), (.int .u64 0), (.int .u64 0), (.int .u64 0), (.int .u64 0), (.int .u64 0), (.int .u64 0), (.int .u64 0), (.int .u64 0), (.int .u64 0), (.int .u64 0), (.int .u64 0), (.int .u64 0), (.int .u64 0), (.int .u64 0), (.int .u64 0), (.int .u64 0), (.int .u64 0), (.int .u64 0), (.int .u64 0), (.int .u64 0), (.int .u64 0), (.int .u64 0), (.int .u64 0), (.int .u64 0), (.int .u64 0), (.int .u64 0), (.int .u64 0), (.int .u64 0), (.int .u64 0), (.int .u64 0), (.int .u64 0), (.int .u64 0), (.int .u64 0), (.int .u64 0), (.int .u64 0), (.int .u64 0), (.int .u64 0), (.int .u64 0), (.int .u64 0), (.int .u64 0), (.int .u64 0), (.int .u64 0), (.int .u64 0), (.int .u64 0), (.int .u64 0), (.int .u64 0), (.int .u64 0), (.int .u64 0), (.int .u64 0), (.int .u64 0), (.int .u64 0), (.int .u64 0), (.int .u64 0), (.int .u64 0), (.int .u64 0), (.int .u64 0), (.int .u64 0), (.int .u64 0), (.int .u64 0), (.int .u64 0), (.int .u64 0), (.int .u64 0), (.int .u64 0), (.int .u64 0), (.int .u64 0), (.int .u64 0), (.int .u64 0), (.int .u64 0), (.int .u64 0), (.int .u64 0), (.int .u64 0), (.int .u64 0), (.int .u64 0), (.int .u64 0), (.int .u64 0), (.int .u64 0), (.int .u64 0), (.int .u64 0), (.int .u64 0), (.int .u64 0), (.int .u64 0), (.int .u64 0), (.int .u64 0), (.int .u64 0), (.int .u64 0), (.int .u64 0), (.int .u64 0), (.int .u64 0), (.int .u64 0), (.int .u64 0), (.int .u64 0), (.int .u64 0), (.int .u64 0), (.int .u64 0), (.int .u64 0), (.int .u64 0), (.int .u64 0), (.int .u64 0), (.int .u64 0), (.int .u64 0), (.int .u64 0), (.int .u64 0), (.int .u64 0), (.int .u64 0), (.int .u64 0), (.int .u64 0), (.int .u64 0), (.int .u64 0), (.int .u64 0), (.int .u64 0), (.int .u64 0), (.int .u64 0), (.int .u64 0), (.int .u64 0), (.int .u64 0), (.int .u64 0), (.int .u64 0), (.int .u64 0), (.int .u64 0), (.int .u64 0), (.int .u64 0), (.int .u64 0), (.int .u64 0), (.int .u64 0), (.int .u64 0), (.int .u64 0), (.int .u64 0), (.int .u64 0), (.int .u64 0), (.int .u64 0), (.int .u64 0), (.int .u64 0), (.int .u64 0), (.int .u64 0), (.int .u64 0), (.int .u64 0), (.int .u64 0), (.int .u64 0), (.int .u64 0), (.int .u64 0), (.int .u64 0), (.int .u64 0), (.int .u64 0), (.int .u64 0), (.int .u64 0), (.int .u64 0), (.int .u64 0), (.int .u64 0), (.int .u64 0), (.int .u64 0), (.int .u64 0), (.int .u64 0), (.int .u64 0), (.int .u64 0), (.int .u64 0), (.int .u64 0), (.int .u64 0), (.int .u64 0), (.int .u64 0), (.int .u64 0), (.int .u64 0), (.int .u64 0), (.int .u64 0), (.int .u64 0), (.int .u64 0), (.int .u64 0), (.int .u64 0), (.int .u64 0), (.int .u64 0), (.int .u64 0), (.int .u64 0), (.int .u64 0), (.int .u64 0), (.int .u64 0), (.int .u64 0), (.int .u64 0), (.int .u64 0), (.int .u64 0), (.int .u64 0), (.int .u64 0), (.int .u64 0), (.int .u64 0), (.int .u64 0), (.int .u64 0), (.int .u64 0), (.int .u64 0), (.int .u64 0), (.int .u64 0), (.int .u64 0), (.int .u64 0), (.int .u64 0), (.int .u64 0), (.int .u64 0), (.int .u64 0), (.int .u64 0), (.int .u64 0), (.int .u64 0), (.int .u64 0), (.int .u64 0), (.int .u64 0), (.int .u64 0), (.int .u64 0), (.int .u64 0), (.int .u64 0), (.int .u64 0), (.int .u64 0), (.int .u64 0), (.int .u64 0), (.int .u64 0), (.int .u64 0), (.int .u64 0), (.int .u64 0), (.int .u64 0), (.int .u64 0), (.int .u64 0), (.int .u64 0), (.int .u64 0), (.int .u64 0), (.int .u64 0), (.int .u64 0), (.int .u64 0), (.int .u64 0), (.int .u64 0), (.int .u64 0), (.int .u64 0), (.int .u64 0), (.int .u64 0), (.int .u64 0), (.int .u64 0), (.int .u64 0), (.int .u64 0), (.int .u64 0), (.int .u64 0), (.int .u64 0), (.int .u64 0), (.int .u64 0), (.int .u64 0), (.int .u64 0), (.int .u64 0), (.int .u64 0), (.int .u64 0), (.int .u64 0), (.int .u64 0), (.int .u64 0), (.int .u64 0), (.int .u64 0), (.int .u64 0), (.int .u64 0), (.int .u64 0), (.int .u64 0), (.int .u64 0), (.int .u64 0), (.int .u64 0), (.int .u64 0), (.int .u64 0), (.int .u64 0), (.int .u64 0), (.int .u64 0), (.int .u64 0), (.int .u64 0), (.int .u64 0), (.int .u64 0), (.int .u64 0), (.int .u64 0), (.int .u64 0), (.int .u64 0), (.int .u64 0), (.int .u64 0), (.int .u64 0), (.int .u64 0), (.int .u64 0), (.int .u64 0), (.int .u64 0), (.int .u64 0), (.int .u64 0), (.int .u64 0), (.int .u64 0), (.int .u64 0), (.int .u64 0), (.int .u64 0), (.int .u64 0), (.int .u64 0), (.int .u64 0), (.int .u64 0), (.int .u64 0), (.int .u64 0), (.int .u64 0), (.int .u64 0), (.int .u64 0), (.int .u64 0), (.int .u64 0), (.int .u64 0), (.int .u64 0), (.int .u64 0), (.int .u64 0), (.int .u64 0), (.int .u64 0), (.int .u64 0), (.int .u64 0), (.int .u64 0), (.int .u64 0), (.int .u64 0), (.int .u64 0), (.int .u64 0), (.int .u64 0), (.int .u64 0), (.int .u64 0), (.int .u64 0), (.int .u64 0), (.int .u64 0), (.int .u64 0), (.int .u64 0), (.int .u64 0), (.int .u64 0), (.int .u64 0), (.int .u64 0), (.int .u64 0), (.int .u64 0), (.int .u64 0), (.int .u64 0), (.int .u64 0), (.int .u64 0), (.int .u64 0), (.int .u64 0), (.int .u64 0), (.int .u64 0), (.int .u64 0), (.int .u64 0), (.int .u64 0), (.int .u64 0), (.int .u64 0), (.int .u64 0), (.int .u64 0), (.int .u64 0), (.int .u64 0), (.int .u64 0), (.int .u64 0), (.int .u64 0), (.int .u64 0), (.int .u64 0), (.int .u64 0), (.int .u64 0), (.int .u64 0), (.int .u64 0), (.int .u64 0), (.int .u64 0), (.int .u64 0), (.int .u64 0), (.int .u64 0), (.int .u64 0), (.int .u64 0), (.int .u64 0), (.int .u64 0), (.int .u64 0), (.int .u64 0), (.int .u64 0), (.int .u64 0), (.int .u64 0), (.int .u64 0), (.int .u64 0), (.int .u64 0), (.int .u64 0), (.int .u64 0), (.int .u64 0), (.int .u64 0), (.int .u64 0), (.int .u64 0), (.int .u64 0), (.int .u64 0), (.int .u64 0), (.int .u64 0), (.int .u64 0), (.int .u64 0), (.int .u64 0), (.int .u64 0), (.int .u64 0), (.int .u64 0), (.int .u64 0), (.int .u64 0), (.int .u64 0), (.int .u64 0), (.int .u64 0), (.int .u64 0), (.int .u64 0), (.int .u64 0), (.int .u64 0), (.int .u64 0), (.int .u64 0), (.int .u64 0), (.int .u64 0), (.int .u64 0), (.int .u64 0), (.int .u64 0), (.int .u64 0), (.int .u64 0), (.int .u64 0), (.int .u64 0), (.int .u64 0), (.int .u64 0), (.int .u64 0), (.int .u64 0), (.int .u64 0), (.int .u64 0), (.int .u64 0), (.int .u64 0), (.int .u64 0), (.int .u64 0), (.int .u64 0), (.int .u64 0), (.int .u64 0), (.int .u64 0), (.int .u64 0), (.int .u64 0), (.int .u64 0), (.int .u64 0), (.int .u64 0), (.int .u64 0), (.int .u64 0), (.int .u64 0), (.int .u64 0), (.int .u64 0), (.int .u64 0), (.int .u64 0), (.int .u64 0), (.int .u64 0), (.int .u64 0), (.int .u64 0), (.int .u64 0), (.int .u64 0), (.int .u64 0), (.int .u64 0), (.int .u64 0), (.int .u64 0), (.int .u64 0), (.int .u64 0), (.int .u64 0), (.int .u64 0), (.int .u64 0), (.int .u64 0), (.int .u64 0), (.int .u64 0), (.int .u64 0), (.int .u64 0), (.int .u64 0), (.int .u64 0), (.int .u64 0), (.int .u64 0), (.int .u64 0), (.int .u64 0), (.int .u64 0), (.int .u64 0), (.int .u64 0), (.int .u64 0), (.int .u64 0), (.int .u64 0), (.int .u64 0), (.int .u64 0), (.int .u64 0), (.int .u64 0), (.int .u64 0), (.int .u64 0), (.int .u64 0), (.int .u64 0), (.int .u64 0), (.int .u64 0), (.int .u64 0), (.int .u64 0), (.int .u64 0), (.int .u64 0), (.int .u64 0), (.int .u64 0), (.int .u64 0), (.int .u64 0), (.int .u64 0), (.int .u64 0), (.int .u64 0), (.int .u64 0), (.int .u64 0), (.int .u64 0), (.int .u64 0), (.int .u64 0), (.int .u64 0), (.int .u64 0), (.int .u64 0), (.int .u64 0), (.int .u64 0), (.int .u64 0), (.int .u64 0), (.int .u64 0), (.int .u64 0), (.int .u64 0), (.int .u64 0), (.int .u64 0), (.int .u64 0), (.int .u64 0), (.int .u64 0), (.int .u64 0), (.int .u64 0), (.int .u64 0), (.int .u64 0), (.int .u64 0), (.int .u64 0), (.int .u64 0), (.int .u64 0), (.int .u64 0), (.int .u64 0), (.int .u64 0), (.int .u64 0), (.int .u64 0), (.int .u64 0), (.int .u64 0), (.int .u64 0), (.int .u64 0), (.int .u64 0), (.int .u64 0), (.int .u64 0), (.int .u64 0), (.int .u64 0), (.int .u64 0), (.int .u64 0), (.int .u64 0), (.int .u64 0), (.int .u64 0), (.int .u64 0), (.int .u64 0), (.int .u64 0), (.int .u64 0), (.int .u64 0), (.int .u64 0), (.int .u64 0), (.int .u64 0), (.int .u64 0), (.int .u64 0), (.int .u64 0), (.int .u64 0), (.int .u64 0), (.int .u64 0), (.int .u64 0), (.int .u64 0), (.int .u64 0), (.int .u64 0), (.int .u64 0), (.int .u64 0), (.int .u64 0), (.int .u64 0), (.int .u64 0), (.int .u64 0), (.int .u64 0), (.int .u64 0), (.int .u64 0), (.int .u64 0), (.int .u64 0), (.int .u64 0), (.int .u64 0), (.int .u64 0), (.int .u64 0), (.int .u64 0), (.int .u64 0), (.int .u64 0), (.int .u64 0), (.int .u64 0), (.int .u64 0), (.int .u64 0), (.int .u64 0), (.int .u64 0), (.int .u64 0), (.int .u64 0), (.int .u64 0), (.int .u64 0), (.int .u64 0), (.int .u64 0), (.int .u64 0), (.int .u64 0), (.int .u64 0), (.int .u64 0), (.int .u64 0), (.int .u64 0), (.int .u64 0), (.int .u64 0), (.int .u64 0), (.int .u64 0), (.int .u64 0), (.int .u64 0), (.int .u64 0), (.int .u64 0), (.int .u64 0), (.int .u64 0), (.int .u64 0), (.int .u64 0), (.int .u64 0), (.int .u64 0), (.int .u64 0), (.int .u64 0), (.int .u64 0), (.int .u64 0), (.int .u64 0), (.int .u64 0), (.int .u64 0), (.int .u64 0), (.int .u64 0), (.int .u64 0), (.int .u64 0), (.int .u64 0), (.int .u64 0), (.int .u64 0), (.int .u64 0), (.int .u64 0), (.int .u64 0), (.int .u64 0), (.int .u64 0), (.int .u64 0), (.int .u64 0), (.int .u64 0), (.int .u64 0), (.int .u64 0), (.int .u64 0), (.int .u64 0), (.int .u64 0), (.int .u64 0), (.int .u64 0), (.int .u64 0), (.int .u64 0), (.int .u64 0), (.int .u64 0), (.int .u64 0), (.int .u64 0), (.int .u64 0), (.int .u64 0), (.int .u64 0), (.int .u64 0), (.int .u64 0), (.int .u64 0), (.int .u64 0), (.int .u64 0), (.int .u64 0), (.int .u64 0), (.int .u64 0), (.int .u64 0), (.int .u64 0), (.int .u64 0), (.int .u64 0), (.int .u64 0), (.int .u64 0), (.int .u64 0), (.int .u64 0), (.int .u64 0), (.int .u64 0), (.int .u64 0), (.int .u64 0), (.int .u64 0), (.int .u64 0), (.int .u64 0), (.int .u64 0), (.int .u64 0), (.int .u64 0), (.int .u64 0), (.int .u64 0), (.int .u64 0), (.int .u64 0), (.int .u64 0), (.int .u64 0), (.int .u64 0), (.int .u64 0), (.int .u64 0), (.int .u64 0), (.int .u64 0), (.int .u64 0), (.int .u64 0), (.int .u64 0), (.int .u64 0), (.int .u64 0), (.int .u64 0), (.int .u64 0), (.int .u64 0), (.int .u64 0), (.int .u64 0), (.int .u64 0), (.int .u64 0), (.int .u64 0), (.int .u64 0), (.int .u64 0), (.int .u64 0), (.int .u64 0), (.int .u64 0), (.int .u64 0), (.int .u64 0), (.int .u64 0), (.int .u64 0), (.int .u64 0), (.int .u64 0), (.int .u64 0), (.int .u64 0), (.int .u64 0), (.int .u64 0), (.int .u64 0), (.int .u64 0), (.int .u64 0), (.int .u64 0), (.int .u64 0), (.int .u64 0), (.int .u64 0), (.int .u64 0), (.int .u64 0), (.int .u64 0), (.int .u64 0), (.int .u64 0), (.int .u64 0), (.int .u64 0), (.int .u64 0), (.int .u64 0), (.int .u64 0), (.int .u64 0), (.int .u64 0), (.int .u64 0), (.int .u64 0), (.int .u64 0), (.int .u64 0), (.int .u64 0), (.int .u64 0), (.int .u64 0), (.int .u64 0), (.int .u64 0), (.int .u64 0), (.int .u64 0), (.int .u64 0), (.int .u64 0), (.int .u64 0), (.int .u64 0), (.int .u64 0), (.int .u64 0), (.int .u64 0), (.int .u64 0), (.int .u64 0), (.int .u64 0), (.int .u64 0), (.int .u64 0), (.int .u64 0), (.int .u64 0), (.int .u64 0), (.int .u64 0), (.int .u64 0), (.int .u64 0), (.int .u64 0), (.int .u64 0), (.int .u64 0), (.int .u64 0), (.int .u64 0), (.int .u64 0), (.int .u64 0), (.int .u64 0), (.int .u64 0), (.int .u64 0), (.int .u64 0), (.int .u64 0), (.int .u64 0), (.int .u64 0), (.int .u64 0), (.int .u64 0), (.int .u64 0), (.int .u64 0), (.int .u64 0), (.int .u64 0), (.int .u64 0), (.int .u64 0), (.int .u64 0), (.int .u64 0), (.int .u64 0), (.int .u64 0), (.int .u64 0), (.int .u64 0), (.int .u64 0), (.int .u64 0), (.int .u64 0), (.int .u64 0), (.int .u64 0), (.int .u64 0), (.int .u64 0), (.int .u64 0), (.int .u64 0), (.int .u64 0), (.int .u64 0), (.int .u64 0), (.int .u64 0), (.int .u64 0), (.int .u64 0), (.int .u64 0), (.int .u64 0), (.int .u64 0), (.int .u64 0), (.int .u64 0), (.int .u64 0), (.int .u64 0), (.int .u64 0), (.int .u64 0), (.int .u64 0), (.int .u64 0), (.int .u64 0), (.int .u64 0), (.int .u64 0), (.int .u64 0), (.int .u64 0), (.int .u64 0), (.int .u64 0), (.int .u64 0), (.int .u64 0), (.int .u64 0), (.int .u64 0), (.int .u64 0), (.int .u64 0), (.int .u64 0), (.int .u64 0), (.int .u64 0), (.int .u64 0), (.int .u64 0), (.int .u64 0), (.int .u64 0), (.int .u64 0), (.int .u64 0), (.int .u64 0), (.int .u64 0), (.int .u64 0), (.int .u64 0), (.int .u64 0), (.int .u64 0), (.int .u64 0), (.int .u64 0), (.int .u64 0), (.int .u64 0), (.int .u64 0), (.int .u64 0), (.int .u64 0), (.int .u64 0), (.int .u64 0), (.int .u64 0), (.int .u64 0), (.int .u64 0), (.int .u64 0), (.int .u64 0), (.int .u64 0), (.int .u64 0), (.int .u64 0), (.int .u64 0), (.int .u64 0), (.int .u64 0), (.int .u64 0), (.int .u64 0), (.int .u64 0), (.int .u64 0), (.int .u64 0), (.int .u64 0), (.int .u64 0), (.int .u64 0), (.int .u64 0), (.int .u64 0), (.int .u64 0), (.int .u64 0), (.int .u64 0), (.int .u64 0), (.int .u64 0), (.int .u64 0), (.int .u64 0), (.int .u64 0), (.int .u64 0), (.int .u64 0), (.int .u64 0), (.int .u64 0), (.int .u64 0), (.int .u64 0), (.int .u64 0), (.int .u64 0), (.int .u64 0), (.int .u64 0), (.int .u64 0), (.int .u64 0), (.int .u64 0), (.int .u64 0), (.int .u64 0), (.int .u64 0), (.int .u64 0), (.int .u64 0), (.int .u64 0), (.int .u64 0), (.int .u64 0), (.int .u64 0), (.int .u64 0), (.int .u64 0), (.int .u64 0), (.int .u64 0), (.int .u64 0), (.int .u64 0), (.int .u64 0), (.int .u64 0), (.int .u64 0), (.int .u64 0), (.int .u64 0), (.int .u64 0), (.int .u64 0), (.int .u64 0), (.int .u64 0), (.int .u64 0), (.int .u64 0), (.int .u64 0), (.int .u64 0), (.int .u64 0), (.int .u64 0), (.int .u64 0), (.int .u64 0), (.int .u64 0), (.int .u64 0), (.int .u64 0), (.int .u64 0), (.int .u64 0), (.int .u64 0), (.int .u64 0), (.int .u64 0), (.int .u64 0), (.int .u64 0), (.int .u64 0), (.int .u64 0), (.int .u64 0), (.int .u64 0), (.int .u64 0), (.int .u64 0), (.int .u64 0), (.int .u64 0), (.int .u64 0), (.int .u64 0), (.int .u64 0), (.int .u64 0), (.int .u64 0), (.int .u64 0), (.int .u64 0), (.int .u64 0), (.int .u64 0), (.int .u64 0), (.int .u64 0), (.int .u64 0), (.int .u64 0), (.int .u64 0), (.int .u64 0), (.int .u64 0), (.int .u64 0), (.int .u64 0), (.int .u64 0), (.int .u64 0), (.int .u64 0), (.int .u64 0), (.int .u64 0), (.int .u64 0), (.int .u64 0), (.int .u64 0), (.int .u64 0), (.int .u64 0), (.int .u64 0), (.int .u64 0), (.int .u64 0), (.int .u64 0), (.int .u64 0), (.int .u64 0), (.int .u64 0), (.int .u64 0), (.int .u64 0), (.int .u64 0), (.int .u64 0), (.int .u64 0), (.int .u64 0), (.int .u64 0), (.int .u64 0), (.int .u64 0), (.int .u64 0), (.int .u64 0), (.int .u64 0), (.int .u64 0), (.int .u64 0), (.int .u64 0), (.int .u64 0), (.int .u64 0), (.int .u64 0), (.int .u64 0), (.int .u64 0), (.int .u64 0), (.int .u64 0), (.int .u64 0), (.int .u64 0), (.int .u64 0), (.int .u64 0), (.int .u64 0), (.int .u64 0), (.int .u64 0), (.int .u64 0), (.int .u64 0), (.int .u64 0), (.int .u64 0), (.int .u64 0), (.int .u64 0), (.int .u64 0), (.int .u64 0), (.int .u64 0), (.int .u64 0), (.int .u64 0), (.int .u64 0), (.int .u64 0), (.int .u64 0), (.int .u64 0), (.int .u64 0), (.int .u64 0), (.int .u64 0), (.int .u64 0), (.int .u64 0), (.int .u64 0), (.int .u64 0), (.int .u64 0), (.int .u64 0), (.int .u64 0), (.int .u64 0), (.int .u64 0), (.int .u64 0), (.int .u64 0), (.int .u64 0), (.int .u64 0), (.int .u64 0), (.int .u64 0), (.int .u64 0), (.int .u64 0), (.int .u64 0), (.int .u64 0), (.int .u64 0), (.int .u64 0), (.int .u64 0), (.int .u64 0), (.int .u64 0), (.int .u64 0), (.int .u64 0), (.int .u64 0), (.int .u64 0), (.int .u64 0), (.int .u64 0), (.int .u64 0), (.int .u64 0), (.int .u64 0), (.int .u64 0), (.int .u64 0), (.int .u64 0), (.int .u64 0), (.int .u64 0)]), sh := shCells 1392 }
def ty198 : Ty := { und := (.struct #[{ name := "delta", type := 3, offset := 0, embedded := false, tag := "", pkgPath := "internal/strconv", byteOffset := 0 }, { name := "cutoff", type := 9, offset := 1, embedded := false, tag := "", pkgPath := "internal/strconv", byteOffset := 8 }]), size := 2, bytes := 24, zero := (.agg #[(.int .i64 0), (.string ByteArray.empty)]), sh := sh_internal_strconv_leftCheat }
def ty199 : Ty := { und := (.slice 198), size := 1, bytes := 24, zero := (.slice none 0 0), sh := shSl }
def ty201 : Ty := { und := (.array 64 5), size := 64, bytes := 64, zero := (.agg #[(.int .u8 0), (.int .u8 0), (.int .u8 0), (.int .u8 0), (.int .u8 0), (.int .u8 0), (.int .u8 0), (.int .u8 0), (.int .u8 0), (.int .u8 0), (.int .u8 0), (.int .u8 0), (.int .u8 0), (.int .u8 0), (.int .u8 0), (.int .u8 0), (.int .u8 0), (.int .u8 0), (.int .u8 0), (.int .u8 0), (.int .u8 0), (.int .u8 0), (.int .u8 0), (.int .u8 0), (.int .u8 0), (.int .u8 0), (.int .u8 0), (.int .u8 0), (.int .u8 0), (.int .u8 0), (.int .u8 0), (.int .u8 0), (.int .u8 0), (.int .u8 0), (.int .u8 0), (.int .u8 0), (.int .u8 0), (.int .u8 0), (.int .u8 0), (.int .u8 0), (.int .u8 0), (.int .u8 0), (.int .u8 0), (.int .u8 0), (.int .u8 0), (.int .u8 0), (.int .u8 0), (.int .u8 0), (.int .u8 0), (.int .u8 0), (.int .u8 0), (.int .u8 0), (.int .u8 0), (.int .u8 0), (.int .u8 0), (.int .u8 0), (.int .u8 0), (.int .u8 0), (.int .u8 0), (.int .u8 0), (.int .u8 0), (.int .u8 0), (.int .u8 0), (.int .u8 0)]), sh := shCells 64 }
def tyRows : List (List (Option Ty)) := [[some ty0, none, some ty2, some ty3, some ty4, some ty5, none, none, none, some ty9, none, none, some ty12, none, none, none],
  [none, none, none, none, some ty20, some ty21, none, some ty23, some ty24, none, none, none, none, some ty29, none, some ty31],
  [none, none, some ty34, none, none, none, none, none, none, none, some ty42, none, none, some ty45, some ty46, none],
  [some ty48, none, none, none, some ty52, none, none, some ty55, none, none, none, some ty59, none, none, some ty62, none],
  [none, none, none, none, none, none, some ty70, none, none, none, some ty74, none, none, none, some ty78, none],
  [none, some ty81, none, some ty83, none, some ty85, none, none, some ty88, none, some ty90, none, some ty92, none, some ty94, none],
  [none, none, none, none, some ty100, none, some ty102, none, none, some ty105, none, none, some ty108, none, some ty110, none],
  [none, some ty113, none, none, some ty116, none, some ty118, none, some ty120, none, some ty122, none, none, none, none, none],
  [none, some ty129, none, some ty131, none, none, some ty134, some ty135, none, some ty137, none, some ty139, none, some ty141, some ty142, none],
  [some ty144, none, none, some ty147, none, some ty149, none, none, some ty152, none, some ty154, none, some ty156, none, none, some ty159],
  [none, none, none, some ty163, some ty164, none, none, some ty167, none, none, none, none, none, none, some ty174, none],
  [some ty176, some ty177, none, none, none, none, none, none, none, none, none, some ty187, none, some ty189, some ty190, none],
  [none, none, some ty194, some ty195, none, none, some ty198, some ty199, none, some ty201]]
def tyAt (t : Nat) : Option Ty := match nth tyRows (t / 16) with
  | some r => match nth r (t % 16) with
    | some e => e
    | none => none
  | none => none
def fnRows : List (List Bool) := [[false, false, true, true, true, true, true, true, true, true, true, true, true, true, true, true],
  [true, true, true, true, true, true, true, true, true, true, true, false, true, true, true, true],
  [true, false, true, true, true, true, true, true, true, true, true, true, true, true, true, true],
  [true, true, true, true, true, true, true, true, true, true, true, true, true, true, true, true],
  [true, true, true, true, true, true, true, true, true, true, true, true, true, true, true, true],
  [true, true, true, true, true, true, true, true, true, true, false, true, true, false, false, true],
  [true, true, true, true, true, true, true, true, true, true, true, true, true, true, true, false],
  [true, true, true, true, true, false, true, true, true, true, true, false, false, false, true, true],
  [true, true, true, true, true, true, true, true, true, true, true, true, true, true, true, true],
  [true, true, true, true, true, true, true, true, true, true, true, false, false, false, false, false],
  [false, false, false, false, false, false, false, false, false, false, false, false, false, false, false, false],
  [false, false, false, false, false, false, false, false, false, false, false, false, false, false, false, false],
  [false, false, true]]
def fnAt (g : Nat) : Bool := match nth fnRows (g / 16) with
  | some r => match nth r (g % 16) with
    | some e => e
    | none => false
  | none => false
def extAt (g : Nat) : Option (Array Value → Sem Value) := cond (Nat.beq g 27) (some Extern.MathFloatBits.float64bits) (cond (Nat.beq g 33) (some Extern.MathFloatBits.float64frombits) (cond (Nat.beq g 93) (some Extern.MathFloatBits.float32bits) (cond (Nat.beq g 94) (some Extern.MathFloatBits.float64bits) (cond (Nat.beq g 111) (some Extern.MathFloatBits.float32frombits) (cond (Nat.beq g 117) (some Extern.MathFloatBits.float64frombits) (cond (Nat.beq g 123) (some Extern.AbiNoEscape.same) (cond (Nat.beq g 125) (some Extern.BytealgIndexByte.indexByte) (none))))))))
def tb : Tb := { ty := tyAt, call := fnAt, ext := extAt }

abbrev n_firebreaklaw05_FltNames : Nat := 3
abbrev n_firebreaklaw05_FltDoes : Nat := 4
abbrev n_firebreaklaw05_FltFollows : Nat := 5
abbrev n_firebreaklaw05_FltWhole : Nat := 6
abbrev n_firebreaklaw05_fixed : Nat := 7
abbrev n_flt_Do : Nat := 8
abbrev n_firebreakref05_Do : Nat := 9
abbrev n_firebreaklaw05_do : Nat := 10
abbrev n_firebreaklaw05_isNaN : Nat := 11
abbrev n_flt_Parse : Nat := 12
abbrev n_flt_Print : Nat := 13
abbrev n_flt_float : Nat := 14
abbrev n_flt_bits : Nat := 15
abbrev n_flt_whole : Nat := 16
abbrev n_firebreakref05_add : Nat := 17
abbrev n_firebreakref05_isNaN : Nat := 18
abbrev n_firebreakref05_mul : Nat := 19
abbrev n_firebreakref05_div : Nat := 20
abbrev n_firebreakref05_below : Nat := 21
abbrev n_firebreakref05_float : Nat := 22
abbrev n_firebreakref05_whole : Nat := 23
abbrev n_strings_CutPrefix : Nat := 24
abbrev n_strconv_ParseUint : Nat := 25
abbrev n_strconv_ParseFloat : Nat := 26
abbrev n_flt_sixteen : Nat := 28
abbrev n_strings_Cut : Nat := 29
abbrev n_strconv_FormatFloat : Nat := 30
abbrev n_strconv_Atoi : Nat := 31
abbrev n_strconv_Itoa : Nat := 32
abbrev n_firebreakref05_parts : Nat := 34
abbrev n_firebreakref05_shift : Nat := 35
abbrev n_firebreakref05_of : Nat := 36
abbrev n_firebreakref05_rounded : Nat := 37
abbrev n_firebreakref05_sum : Nat := 38
abbrev n_firebreakref05_compare : Nat := 39
abbrev n_firebreakref05_less : Nat := 40
abbrev n_firebreakref05_product : Nat := 41
abbrev n_firebreakref05_times : Nat := 42
abbrev n_internal_stringslite_CutPrefix : Nat := 43
abbrev n_strconv_toError : Nat := 45
abbrev n_internal_strconv_ParseFloat : Nat := 46
abbrev n_internal_stringslite_Cut : Nat := 49
abbrev n_internal_strconv_FormatFloat : Nat := 50
abbrev n_internal_strconv_Atoi : Nat := 51
abbrev n_internal_strconv_Itoa : Nat := 52
abbrev n_firebreakref05_trim : Nat := 53
abbrev n_firebreakref05_bits : Nat := 54
abbrev n_firebreakref05_small : Nat := 55
abbrev n_firebreakref05_low : Nat := 56
abbrev n_internal_stringslite_HasPrefix : Nat := 57
abbrev n_internal_strconv_lower : Nat := 58
abbrev n_internal_strconv_underscoreOK : Nat := 59
abbrev n_internal_strconv_parseFloatPrefix : Nat := 64
abbrev n_internal_stringslite_Index : Nat := 72
abbrev n_internal_strconv_ftoa32 : Nat := 73
abbrev n_internal_strconv_ftoa64 : Nat := 74
abbrev n_internal_strconv_ParseInt : Nat := 75
abbrev n_internal_strconv_FormatInt : Nat := 76
abbrev n_internal_strconv_atof32 : Nat := 79
abbrev n_internal_strconv_atof64 : Nat := 80
abbrev n_internal_strconv_small : Nat := 81
abbrev n_internal_strconv_numDigits : Nat := 82
abbrev n_internal_strconv_formatBase10 : Nat := 83
abbrev n_internal_strconv_formatBits : Nat := 84
abbrev n_math_bits_Mul64 : Nat := 86
abbrev n_internal_stringslite_IndexByte : Nat := 89
abbrev n_internal_bytealg_Cutover : Nat := 91
abbrev n_internal_bytealg_IndexRabinKarp_string : Nat := 92
abbrev n_internal_strconv_fmtB : Nat := 95
abbrev n_internal_strconv_fmtX : Nat := 96
abbrev n_internal_strconv_fmtEFG : Nat := 97
abbrev n_math_bits_Len64 : Nat := 98
abbrev n_internal_strconv_setDigits : Nat := 100
abbrev n_internal_strconv_log10Pow2 : Nat := 101
abbrev n_internal_strconv_fixedWidthFloat : Nat := 102
abbrev n_internal_strconv_decimal_Assign : Nat := 103
abbrev n_internal_strconv_decimal_Shift : Nat := 104
abbrev n_internal_strconv_decimal_Round : Nat := 105
abbrev n_internal_strconv_shortFloat_float64 : Nat := 106
abbrev n_internal_strconv_special : Nat := 107
abbrev n_internal_strconv_readFloat : Nat := 108
abbrev n_internal_strconv_atofHex : Nat := 109
abbrev n_internal_strconv_decimal_set : Nat := 114
abbrev n_internal_strconv_decimal_floatBits : Nat := 115
abbrev n_internal_strconv_bool2_uint64 : Nat := 116
abbrev n_internal_strconv_atof64exact : Nat := 118
abbrev n_internal_strconv_parseFloat64 : Nat := 119
abbrev n_internal_strconv_bool2_int : Nat := 120
abbrev n_internal_strconv_skewed : Nat := 129
abbrev n_internal_strconv_prescale : Nat := 130
abbrev n_internal_strconv_log2Pow10 : Nat := 131
abbrev n_internal_strconv_uscale : Nat := 132
abbrev n_internal_strconv_unrounded_nudge : Nat := 133
abbrev n_internal_strconv_unrounded_ceil : Nat := 134
abbrev n_internal_strconv_unrounded_floor : Nat := 135
abbrev n_internal_strconv_unrounded_round : Nat := 136
abbrev n_internal_strconv_commonPrefixLenIgnoreCase : Nat := 145
abbrev n_internal_strconv_inf : Nat := 146
abbrev n_internal_strconv_nan : Nat := 147
end Lf

