/-
  Part 3 of the texts that the claim leans on.
-/
import Derived.Test.YtfcckhafmajceaaGreatDoorMgFltAll1
/-
  Parts of slices.
-/
set_option autoImplicit false
namespace Lf
open Go

theorem ldIs_drop {h : Hp} {a : Addr} {cs : List Value} (e : LdIs h a cs) (n : Nat) : LdIs h (a.add n) (cs.drop n) := fun i v hv => by
  rw [add_add]
  exact e (n + i) v (by simpa [List.getElem?_drop] using hv)

theorem flat_drop {α : Type} {sz : Nat} {enc : α → List Value} (henc : ∀ x, (enc x).length = sz) : ∀ (xs : List α) (n : Nat), (xs.drop n).flatMap enc = (xs.flatMap enc).drop (n * sz)
  | [], n => by simp
  | x :: xs, 0 => by simp
  | x :: xs, n + 1 => by
    simp only [List.drop_succ_cons, List.flatMap_cons]
    have e : (enc x).drop (n * sz + sz) = [] := List.drop_eq_nil_of_le (by rw [henc]; omega)
    rw [flat_drop henc xs n, Nat.add_mul, Nat.one_mul, List.drop_append, henc, e, List.nil_append, Nat.add_sub_cancel]

theorem flat_take {α : Type} {sz : Nat} {enc : α → List Value} (henc : ∀ x, (enc x).length = sz) : ∀ (xs : List α) (n : Nat), (xs.take n).flatMap enc = (xs.flatMap enc).take (n * sz)
  | [], n => by simp
  | x :: xs, 0 => by simp
  | x :: xs, n + 1 => by
    simp only [List.take_succ_cons, List.flatMap_cons]
    have e : (enc x).take (n * sz + sz) = enc x := List.take_of_length_le (by rw [henc]; omega)
    rw [flat_take henc xs n, Nat.add_mul, Nat.one_mul, List.take_append, henc, e, Nat.add_sub_cancel]

/-- A part of a slice holds a part of the list. -/
theorem Rw.cut {α : Type} {h : Hp} {sz : Nat} {enc : α → List Value} {l : Sl} {xs : List α} (r : Rw h sz enc l xs) (henc : ∀ x, (enc x).length = sz) {a b c n m : Nat} (hab : a ≤ b) (hb : b ≤ xs.length) (hc : b ≤ c) (hn : n = b - a) :
    Rw h sz enc ⟨sbase l.base sz a c, n, m⟩ ((xs.drop a).take (b - a)) := by
  obtain ⟨h1, h2, h3⟩ := r
  have hlen : ((xs.drop a).take (b - a)).length = b - a := by rw [List.length_take, List.length_drop]; omega
  refine ⟨hn.trans hlen.symm, flat_len henc _, ?_⟩
  rw [hlen]
  by_cases h0 : (b - a) * sz = 0
  · exact .inl h0
  · right
    have hba : b - a ≠ 0 := fun e => h0 (by rw [e, Nat.zero_mul])
    have hsz : sz ≠ 0 := fun e => h0 (by rw [e, Nat.mul_zero])
    have hx : xs.length * sz ≠ 0 := Nat.mul_ne_zero (by omega) hsz
    obtain ⟨p, hp, hl⟩ := h3.resolve_left hx
    refine ⟨p.add (a * sz), ?_, fun i v hv => ?_⟩
    · unfold sbase
      rw [if_neg (show ¬ c = a by omega), hp]
      rfl
    · rw [flat_take henc, flat_drop henc, List.getElem?_take] at hv
      split at hv
      · exact ldIs_drop hl (a * sz) i v hv
      · cases hv

end Lf

/-
  Blocks that are written: what stays.
-/
set_option autoImplicit false
namespace Lf
open Go

/-- From one partial memory to the next: of the known blocks, none but those of the first list has changed; the second list has old ones of the first list, and new ones. -/
structure Mv (F : List Nat) (h : Hp) (F' : List Nat) (h' : Hp) : Prop where
  keep : ∀ b o, h b = some o → b ∉ F → h' b = some o
  from_ : ∀ b ∈ F', b ∈ F ∨ h b = none

theorem Mv.refl (F : List Nat) (h : Hp) : Mv F h F h := ⟨fun _ _ e _ => e, fun _ e => .inl e⟩

theorem Mv.trans {F F' F'' : List Nat} {h h' h'' : Hp} (a : Mv F h F' h') (b : Mv F' h' F'' h'') : Mv F h F'' h'' := by
  refine ⟨fun i o e hn => b.keep i o (a.keep i o e hn) fun hf => ?_, fun i hi => ?_⟩
  · rcases a.from_ i hf with h1 | h1
    · exact hn h1
    grind
  · rcases b.from_ i hi with h1 | h1
    · exact a.from_ i h1
    · cases e : h i with
      | none => exact .inr rfl
      | some o =>
        left
        refine Classical.byContradiction fun hn => ?_
        rw [a.keep i o e hn] at h1; cases h1

theorem Mv.of_le {h h' : Hp} (F : List Nat) (hl : h ≤ h') : Mv F h F h' := ⟨fun b o e _ => hl b o e, fun _ e => .inl e⟩

theorem Mv.le {F F' : List Nat} {h0 h h' : Hp} (a : Mv F h F' h') (hl : h0 ≤ h) (hf : ∀ b ∈ F, h0 b = none) : h0 ≤ h' ∧ ∀ b ∈ F', h0 b = none := by
  refine ⟨fun b o e => a.keep b o (hl b o e) fun hb => (by grind), fun b hb => ?_⟩
  rcases a.from_ b hb with h1 | h1
  · exact hf b h1
  · exact none_of_le hl h1

theorem Mv.sub {F F' G G' : List Nat} {h h' : Hp} (a : Mv F h F' h') (h1 : ∀ b ∈ F, b ∈ G) (h2 : ∀ b ∈ G', b ∈ F' ∨ b ∈ G ∨ h b = none) : Mv G h G' h' :=
  ⟨fun b o e hn => a.keep b o e fun hb => hn (h1 b hb), fun b hb => by
    rcases h2 b hb with h3 | h3
    · rcases a.from_ b h3 with h4 | h4
      · grind
      · exact .inr h4
    · exact h3⟩

theorem Mv.set {h : Hp} {b : Nat} {o : Obj} : Mv [b] h [b] (h.set b o) := by
  refine ⟨fun i x e hn => ?_, fun i hi => .inl hi⟩
  have hne : i ≠ b := fun e' => hn (by grind)
  simp only [Hp.set, hne, if_false]
  exact e

theorem Mv.new {h : Hp} {b : Nat} {o : Obj} (hn : h b = none) : Mv [] h [b] (h.set b o) :=
  ⟨fun i x e _ => set_new hn i x e, fun i hi => .inr (by grind)⟩

/-- A block of cells. -/
def Blk (h : Hp) (b : Nat) (cs : List Value) : Prop := ∃ t, h b = some (.cells cs.toArray t (0, 0))

theorem Blk.mv {F F' : List Nat} {h h' : Hp} {b : Nat} {cs : List Value} (k : Blk h b cs) (a : Mv F h F' h') (hn : b ∉ F) : Blk h' b cs := by
  obtain ⟨t, e⟩ := k
  exact ⟨t, a.keep b _ e hn⟩

theorem Blk.le {h h' : Hp} {b : Nat} {cs : List Value} (k : Blk h b cs) (hl : h ≤ h') : Blk h' b cs := by
  obtain ⟨t, e⟩ := k
  exact ⟨t, hl _ _ e⟩

theorem Blk.known {h : Hp} {b : Nat} {cs : List Value} (k : Blk h b cs) : h b ≠ none := by
  obtain ⟨t, e⟩ := k
  rw [e]; simp

/-- A place in a block. -/
def at_ (b off : Nat) : Addr := ⟨b, off, none⟩

theorem Blk.ldIs {h : Hp} {b : Nat} {cs : List Value} (k : Blk h b cs) {off n : Nat} {vs : List Value} (e : (cs.drop off).take n = vs) : LdIs h ⟨b, off, none⟩ vs := by
  obtain ⟨t, hb⟩ := k
  intro i v hv
  rw [box_add, hcell_block0 hb]
  grind

theorem Blk.stOk {h : Hp} {b : Nat} {cs : List Value} (k : Blk h b cs) {off : Nat} : ∀ n, off + n ≤ cs.length → StOk h ⟨b, off, none⟩ n
  | 0, _ => trivial
  | n + 1, hn => by
    obtain ⟨t, hb⟩ := k
    refine ⟨Blk.stOk ⟨t, hb⟩ n (by omega), ⟨cs[off + n]'(by omega), ?_⟩, ?_⟩
    · rw [box_add, hcell_block0 hb]
      simp
    · rw [box_add]
      unfold hfroz
      simp [hb]

/-- Cells are laid into a block. -/
theorem Blk.put {h : Hp} {b : Nat} {cs new : List Value} (k : Blk h b cs) {off : Nat} (hl : off + new.length ≤ cs.length) :
    Blk (putL h ⟨b, off, none⟩ new 0) b (cs.take off ++ new ++ cs.drop (off + new.length)) ∧ ∀ b', b' ≠ b → (putL h ⟨b, off, none⟩ new 0) b' = h b' := by
  obtain ⟨t, hb⟩ := k
  obtain ⟨p1, p2⟩ := put_cells b t new h 0 off cs (by simpa using hl) hb
  rw [Nat.add_zero, layL_eq _ _ _ hl] at p1
  exact ⟨⟨t, p1⟩, p2⟩

theorem Mv.of_other {h h' : Hp} {b : Nat} (ho : ∀ b', b' ≠ b → h' b' = h b') : Mv [b] h [b] h' :=
  ⟨fun i o e hn => by grind, fun i hi => .inl hi⟩

theorem stW_blk {h : Hp} {b : Nat} {cs new : List Value} {off : Nat} {K : Hp → Prop} (k : Blk h b cs) (hl : off + new.length ≤ cs.length)
    (hk : ∀ h', Mv [b] h [b] h' → Blk h' b (cs.take off ++ new ++ cs.drop (off + new.length)) → K h') : StW h ⟨b, off, none⟩ new K := by
  obtain ⟨p1, p2⟩ := k.put hl
  exact ⟨k.stOk _ hl, hk _ (Mv.of_other p2) p1⟩

section
variable {α : Type} {h : Hp} {sz : Nat} {enc : α → List Value} {l : Sl} {xs : List α}

/-- A slice in a block of its own: 'F' has it, if there is one. -/
def OwnF (h : Hp) (sz : Nat) (enc : α → List Value) (l : Sl) (xs : List α) (F : List Nat) : Prop :=
  l.len = xs.length ∧ l.len ≤ l.cap ∧ ((l.base = none ∧ l.cap = 0 ∧ F = []) ∨
    ∃ (b : Nat) (cs : List Value), l.base = some ⟨b, 0, none⟩ ∧ F = [b] ∧ Blk h b cs ∧ cs.length = l.cap * sz ∧ cs.take (l.len * sz) = xs.flatMap enc)

theorem OwnF.own {F : List Nat} {h0 : Hp} (o : OwnF h sz enc l xs F) (hf : ∀ b ∈ F, h0 b = none) : Own h0 h sz enc l xs := by
  obtain ⟨h1, h2, h3⟩ := o
  refine ⟨h1, h2, ?_⟩
  rcases h3 with ⟨e1, e2, _⟩ | ⟨b, cs, e1, rfl, ⟨t, e3⟩, e4, e5⟩
  · exact .inl ⟨e1, e2⟩
  grind

theorem OwnF.rw {F : List Nat} (o : OwnF h sz enc l xs F) (henc : ∀ x, (enc x).length = sz) : Rw h sz enc l xs := (o.own (h0 := fun _ => none) fun _ _ => rfl).rw henc

theorem OwnF.known {F : List Nat} (o : OwnF h sz enc l xs F) : ∀ b ∈ F, h b ≠ none := by
  obtain ⟨_, _, h3⟩ := o
  rcases h3 with ⟨_, _, rfl⟩ | ⟨b, cs, _, rfl, e3, _, _⟩
  · simp
  · intro b' hb; rw [List.mem_singleton.1 hb]; exact e3.known

theorem OwnF.same {F : List Nat} {h' : Hp} (o : OwnF h sz enc l xs F) (hs : ∀ b ∈ F, h' b = h b) : OwnF h' sz enc l xs F := by
  obtain ⟨h1, h2, h3⟩ := o
  refine ⟨h1, h2, h3.imp id ?_⟩
  rintro ⟨b, cs, e1, rfl, ⟨t, e3⟩, e4⟩
  exact ⟨b, cs, e1, rfl, ⟨t, by grind⟩, e4⟩

theorem OwnF.mv {F G G' : List Nat} {h' : Hp} (o : OwnF h sz enc l xs F) (a : Mv G h G' h') (hd : ∀ b ∈ F, b ∉ G) : OwnF h' sz enc l xs F := by
  obtain ⟨h1, h2, h3⟩ := o
  refine ⟨h1, h2, h3.imp id ?_⟩
  rintro ⟨b, cs, e1, rfl, e3, e4⟩
  exact ⟨b, cs, e1, rfl, e3.mv a (hd b (List.mem_singleton.2 rfl)), e4⟩

theorem newF {cs : List Value} {K : Addr → Hp → Prop} (hc : cs = xs.flatMap enc) (henc : ∀ x, (enc x).length = sz)
    (hk : ∀ b h', h b = none → h ≤ h' → Mv [] h [b] h' → OwnF h' sz enc ⟨some ⟨b, 0, none⟩, xs.length, xs.length⟩ xs [b] → K ⟨b, 0, none⟩ h') : NewW cs K h := by
  intro b t hb
  refine hk b _ hb (set_new hb) (Mv.new hb) ⟨rfl, Nat.le_refl _, .inr ⟨b, cs, rfl, rfl, ⟨t, set_self⟩, ?_, ?_⟩⟩
  · rw [hc, flat_len henc]
  · have : (xs.length * sz) = (xs.flatMap enc).length := (flat_len henc xs).symm
    grind

/-- Append. -/
theorem appF {F : List Nat} {zero : List Value} {bytes : Nat} {x : Sl} {ys : List α} {K : Sl → Hp → Prop} (o : OwnF h sz enc l xs F) (r : Rw h sz enc x ys) (henc : ∀ x, (enc x).length = sz) (hok : ∀ x, okCells (enc x) = true)
    (hz : zero.length = sz) (hb : xs.length + ys.length ≤ 140737488355328 ∧ (xs.length + ys.length) * bytes ≤ 140737488355328)
    (hk : ∀ l' h' F', OwnF h' sz enc l' (xs ++ ys) F' → Mv F h F' h' → K l' h') : AppendW sz bytes zero l x K h := by
  have hrw := o.rw henc
  obtain ⟨h1, h2, h3⟩ := o
  obtain ⟨hx1, hx2⟩ := r
  refine ⟨ys.flatMap enc, by grind, xs.flatMap enc, by rw [h1]; exact hrw.2, by grind, flat_ok hok ys, fun hcap => ?_, fun hcap c b t hc hbn => ?_⟩
  · rcases h3 with ⟨e, ec, rfl⟩ | ⟨b, cs, e, rfl, hbk, hl, ht⟩
    · have e1 : ys.length = 0 := by omega
      have e2 : ys = [] := List.length_eq_zero_iff.1 e1
      subst e2
      refine ⟨fun a ha => (by grind), ?_⟩
      have e3 : putO h l.base (l.len * sz) (([] : List α).flatMap enc) = h := by rw [e]; rfl
      rw [e3, hx1]
      exact hk _ h [] ⟨by simp [h1], by simpa using h2, .inl ⟨e, ec, rfl⟩⟩ (Mv.refl _ _)
    · have hle : l.len * sz + (ys.flatMap enc).length ≤ cs.length := by
        rw [hl, flat_len henc, ← Nat.add_mul]
        exact Nat.mul_le_mul_right sz (by omega)
      obtain ⟨p1, p2⟩ := hbk.put hle
      refine ⟨fun a ha => ?_, ?_⟩
      · rw [e] at ha; cases ha
        rw [box_add, Nat.zero_add]
        refine hbk.stOk _ ?_
        rw [hx1, ← flat_len henc ys]
        exact hle
      · have e3 : putO h l.base (l.len * sz) (ys.flatMap enc) = putL h ⟨b, l.len * sz, none⟩ (ys.flatMap enc) 0 := by
          rw [e]
          simp only [putO, box_add, Nat.zero_add]
        rw [e3]
        refine hk _ _ [b] ⟨by simp [h1, hx1], hcap, .inr ⟨b, _, e, rfl, p1, ?_, ?_⟩⟩ (Mv.of_other p2)
        · grind
        · have e4 : (l.len + x.len) * sz = (cs.take (l.len * sz) ++ ys.flatMap enc).length := by
            rw [List.length_append, ht, flat_len henc, flat_len henc, h1, hx1, Nat.add_mul]
          grind
  · have hn : Mv F h [b] (h.set b (.cells (xs.flatMap enc ++ ys.flatMap enc ++ zerosL zero (c - (l.len + x.len))).toArray t (0, 0))) :=
      (Mv.new hbn).sub (fun b hb => by cases hb) fun b hb => .inl hb
    refine hk _ _ [b] ⟨by simp [h1, hx1], hc, .inr ⟨b, xs.flatMap enc ++ ys.flatMap enc ++ zerosL zero (c - (l.len + x.len)), rfl, rfl, ⟨t, set_self⟩, ?_, ?_⟩⟩ hn
    · rw [List.length_append, List.length_append, flat_len henc, flat_len henc, zerosL_len, hz, ← Nat.add_mul, ← Nat.add_mul]
      grind
    · have e4 : (l.len + x.len) * sz = (xs.flatMap enc ++ ys.flatMap enc).length := by
        rw [List.length_append, flat_len henc, flat_len henc, h1, hx1, Nat.add_mul]
      grind

end
end Lf



/-
  Numbers of 64 bits, bit by bit.
-/
set_option autoImplicit false
namespace Lf
open Go

def bit (x : Int) (n : Nat) : Bool := x.toNat.testBit n

end Lf

/-
  By program: the structures of the module, as rows of cells.
-/
set_option autoImplicit false
set_option maxRecDepth 100000
namespace Lf
open Go

def toLeaf (v : Value) : Option Leaf := match h : isLeafV v with
  | true => some ⟨v, h⟩
  | false => none
theorem toLeaf_v {v : Value} {l : Leaf} (h : toLeaf v = some l) : l.v = v := by
  unfold toLeaf at h
  split at h <;> cases h
  rfl

structure S_strings_Builder where
  addr : Option Addr
  buf : Sl
def S_strings_Builder.v (x : S_strings_Builder) : Value := .agg #[.pointer x.addr, .slice x.buf.base x.buf.len x.buf.cap]
@[reducible] def sh_strings_Builder : Shape where
  T := S_strings_Builder
  enc := fun x => .agg #[.pointer x.addr, .slice x.buf.base x.buf.len x.buf.cap]
  dec := fun v => match v with
    | .agg ⟨[.pointer a0, .slice a1 b1 c1]⟩ => some ⟨a0, ⟨a1, b1, c1⟩⟩
    | _ => none
  ok := by intro v x h; split at h <;> cases h; rfl

structure S_strconv_NumError where
  Func : ByteArray
  Num : ByteArray
  Err : Leaf
def S_strconv_NumError.v (x : S_strconv_NumError) : Value := .agg #[.string x.Func, .string x.Num, x.Err.v]
@[reducible] def sh_strconv_NumError : Shape where
  T := S_strconv_NumError
  enc := fun x => .agg #[.string x.Func, .string x.Num, x.Err.v]
  dec := fun v => match v with
    | .agg ⟨[.string a0, .string a1, a2]⟩ => (toLeaf a2).bind fun la2 => some ⟨a0, a1, la2⟩
    | _ => none
  ok := by
    intro v x h
    split at h
    · simp only [Option.bind_eq_some_iff] at h
      obtain ⟨la2, ea2, h⟩ := h
      cases h
      simp only [toLeaf_v ea2]
    · cases h

structure S_n24_uint8 where
  a0 : Int
  a1 : Int
  a2 : Int
  a3 : Int
  a4 : Int
  a5 : Int
  a6 : Int
  a7 : Int
  a8 : Int
  a9 : Int
  a10 : Int
  a11 : Int
  a12 : Int
  a13 : Int
  a14 : Int
  a15 : Int
  a16 : Int
  a17 : Int
  a18 : Int
  a19 : Int
  a20 : Int
  a21 : Int
  a22 : Int
  a23 : Int
def S_n24_uint8.v (x : S_n24_uint8) : Value := .agg #[.int .u8 x.a0, .int .u8 x.a1, .int .u8 x.a2, .int .u8 x.a3, .int .u8 x.a4, .int .u8 x.a5, .int .u8 x.a6, .int .u8 x.a7, .int .u8 x.a8, .int .u8 x.a9, .int .u8 x.a10, .int .u8 x.a11, .int .u8 x.a12, .int .u8 x.a13, .int .u8 x.a14, .int .u8 x.a15, .int .u8 x.a16, .int .u8 x.a17, .int .u8 x.a18, .int .u8 x.a19, .int .u8 x.a20, .int .u8 x.a21, .int .u8 x.a22, .int .u8 x.a23]
@[reducible] def sh_n24_uint8 : Shape where
  T := S_n24_uint8
  enc := fun x => .agg #[.int .u8 x.a0, .int .u8 x.a1, .int .u8 x.a2, .int .u8 x.a3, .int .u8 x.a4, .int .u8 x.a5, .int .u8 x.a6, .int .u8 x.a7, .int .u8 x.a8, .int .u8 x.a9, .int .u8 x.a10, .int .u8 x.a11, .int .u8 x.a12, .int .u8 x.a13, .int .u8 x.a14, .int .u8 x.a15, .int .u8 x.a16, .int .u8 x.a17, .int .u8 x.a18, .int .u8 x.a19, .int .u8 x.a20, .int .u8 x.a21, .int .u8 x.a22, .int .u8 x.a23]
  dec := fun v => match v with
    | .agg ⟨[.int .u8 a0, .int .u8 a1, .int .u8 a2, .int .u8 a3, .int .u8 a4, .int .u8 a5, .int .u8 a6, .int .u8 a7, .int .u8 a8, .int .u8 a9, .int .u8 a10, .int .u8 a11, .int .u8 a12, .int .u8 a13, .int .u8 a14, .int .u8 a15, .int .u8 a16, .int .u8 a17, .int .u8 a18, .int .u8 a19, .int .u8 a20, .int .u8 a21, .int .u8 a22, .int .u8 a23]⟩ => some ⟨a0, a1, a2, a3, a4, a5, a6, a7, a8, a9, a10, a11, a12, a13, a14, a15, a16, a17, a18, a19, a20, a21, a22, a23⟩
    | _ => none
  ok := by intro v x h; split at h <;> cases h; rfl

structure S_n32_uint8 where
  a0 : Int
  a1 : Int
  a2 : Int
  a3 : Int
  a4 : Int
  a5 : Int
  a6 : Int
  a7 : Int
  a8 : Int
  a9 : Int
  a10 : Int
  a11 : Int
  a12 : Int
  a13 : Int
  a14 : Int
  a15 : Int
  a16 : Int
  a17 : Int
  a18 : Int
  a19 : Int
  a20 : Int
  a21 : Int
  a22 : Int
  a23 : Int
  a24 : Int
  a25 : Int
  a26 : Int
  a27 : Int
  a28 : Int
  a29 : Int
  a30 : Int
  a31 : Int
def S_n32_uint8.v (x : S_n32_uint8) : Value := .agg #[.int .u8 x.a0, .int .u8 x.a1, .int .u8 x.a2, .int .u8 x.a3, .int .u8 x.a4, .int .u8 x.a5, .int .u8 x.a6, .int .u8 x.a7, .int .u8 x.a8, .int .u8 x.a9, .int .u8 x.a10, .int .u8 x.a11, .int .u8 x.a12, .int .u8 x.a13, .int .u8 x.a14, .int .u8 x.a15, .int .u8 x.a16, .int .u8 x.a17, .int .u8 x.a18, .int .u8 x.a19, .int .u8 x.a20, .int .u8 x.a21, .int .u8 x.a22, .int .u8 x.a23, .int .u8 x.a24, .int .u8 x.a25, .int .u8 x.a26, .int .u8 x.a27, .int .u8 x.a28, .int .u8 x.a29, .int .u8 x.a30, .int .u8 x.a31]
@[reducible] def sh_n32_uint8 : Shape where
  T := S_n32_uint8
  enc := fun x => .agg #[.int .u8 x.a0, .int .u8 x.a1, .int .u8 x.a2, .int .u8 x.a3, .int .u8 x.a4, .int .u8 x.a5, .int .u8 x.a6, .int .u8 x.a7, .int .u8 x.a8, .int .u8 x.a9, .int .u8 x.a10, .int .u8 x.a11, .int .u8 x.a12, .int .u8 x.a13, .int .u8 x.a14, .int .u8 x.a15, .int .u8 x.a16, .int .u8 x.a17, .int .u8 x.a18, .int .u8 x.a19, .int .u8 x.a20, .int .u8 x.a21, .int .u8 x.a22, .int .u8 x.a23, .int .u8 x.a24, .int .u8 x.a25, .int .u8 x.a26, .int .u8 x.a27, .int .u8 x.a28, .int .u8 x.a29, .int .u8 x.a30, .int .u8 x.a31]
  dec := fun v => match v with
    | .agg ⟨[.int .u8 a0, .int .u8 a1, .int .u8 a2, .int .u8 a3, .int .u8 a4, .int .u8 a5, .int .u8 a6, .int .u8 a7, .int .u8 a8, .int .u8 a9, .int .u8 a10, .int .u8 a11, .int .u8 a12, .int .u8 a13, .int .u8 a14, .int .u8 a15, .int .u8 a16, .int .u8 a17, .int .u8 a18, .int .u8 a19, .int .u8 a20, .int .u8 a21, .int .u8 a22, .int .u8 a23, .int .u8 a24, .int .u8 a25, .int .u8 a26, .int .u8 a27, .int .u8 a28, .int .u8 a29, .int .u8 a30, .int .u8 a31]⟩ => some ⟨a0, a1, a2, a3, a4, a5, a6, a7, a8, a9, a10, a11, a12, a13, a14, a15, a16, a17, a18, a19, a20, a21, a22, a23, a24, a25, a26, a27, a28, a29, a30, a31⟩
    | _ => none
  ok := by intro v x h; split at h <;> cases h; rfl

structure S_errors_errorString where
  s : ByteArray
def S_errors_errorString.v (x : S_errors_errorString) : Value := .agg #[.string x.s]
@[reducible] def sh_errors_errorString : Shape where
  T := S_errors_errorString
  enc := fun x => .agg #[.string x.s]
  dec := fun v => match v with
    | .agg ⟨[.string a0]⟩ => some ⟨a0⟩
    | _ => none
  ok := by intro v x h; split at h <;> cases h; rfl

structure S_internal_strconv_floatInfo where
  mantbits : Int
  expbits : Int
  bias : Int
def S_internal_strconv_floatInfo.v (x : S_internal_strconv_floatInfo) : Value := .agg #[.int .u64 x.mantbits, .int .u64 x.expbits, .int .i64 x.bias]
@[reducible] def sh_internal_strconv_floatInfo : Shape where
  T := S_internal_strconv_floatInfo
  enc := fun x => .agg #[.int .u64 x.mantbits, .int .u64 x.expbits, .int .i64 x.bias]
  dec := fun v => match v with
    | .agg ⟨[.int .u64 a0, .int .u64 a1, .int .i64 a2]⟩ => some ⟨a0, a1, a2⟩
    | _ => none
  ok := by intro v x h; split at h <;> cases h; rfl

structure S_n20_uint64 where
  a0 : Int
  a1 : Int
  a2 : Int
  a3 : Int
  a4 : Int
  a5 : Int
  a6 : Int
  a7 : Int
  a8 : Int
  a9 : Int
  a10 : Int
  a11 : Int
  a12 : Int
  a13 : Int
  a14 : Int
  a15 : Int
  a16 : Int
  a17 : Int
  a18 : Int
  a19 : Int
def S_n20_uint64.v (x : S_n20_uint64) : Value := .agg #[.int .u64 x.a0, .int .u64 x.a1, .int .u64 x.a2, .int .u64 x.a3, .int .u64 x.a4, .int .u64 x.a5, .int .u64 x.a6, .int .u64 x.a7, .int .u64 x.a8, .int .u64 x.a9, .int .u64 x.a10, .int .u64 x.a11, .int .u64 x.a12, .int .u64 x.a13, .int .u64 x.a14, .int .u64 x.a15, .int .u64 x.a16, .int .u64 x.a17, .int .u64 x.a18, .int .u64 x.a19]
@[reducible] def sh_n20_uint64 : Shape where
  T := S_n20_uint64
  enc := fun x => .agg #[.int .u64 x.a0, .int .u64 x.a1, .int .u64 x.a2, .int .u64 x.a3, .int .u64 x.a4, .int .u64 x.a5, .int .u64 x.a6, .int .u64 x.a7, .int .u64 x.a8, .int .u64 x.a9, .int .u64 x.a10, .int .u64 x.a11, .int .u64 x.a12, .int .u64 x.a13, .int .u64 x.a14, .int .u64 x.a15, .int .u64 x.a16, .int .u64 x.a17, .int .u64 x.a18, .int .u64 x.a19]
  dec := fun v => match v with
    | .agg ⟨[.int .u64 a0, .int .u64 a1, .int .u64 a2, .int .u64 a3, .int .u64 a4, .int .u64 a5, .int .u64 a6, .int .u64 a7, .int .u64 a8, .int .u64 a9, .int .u64 a10, .int .u64 a11, .int .u64 a12, .int .u64 a13, .int .u64 a14, .int .u64 a15, .int .u64 a16, .int .u64 a17, .int .u64 a18, .int .u64 a19]⟩ => some ⟨a0, a1, a2, a3, a4, a5, a6, a7, a8, a9, a10, a11, a12, a13, a14, a15, a16, a17, a18, a19⟩
    | _ => none
  ok := by intro v x h; split at h <;> cases h; rfl

structure S_internal_strconv_scaler where
  pmHi : Int
  pmLo : Int
  s : Int
def S_internal_strconv_scaler.v (x : S_internal_strconv_scaler) : Value := .agg #[.int .u64 x.pmHi, .int .u64 x.pmLo, .int .i64 x.s]
@[reducible] def sh_internal_strconv_scaler : Shape where
  T := S_internal_strconv_scaler
  enc := fun x => .agg #[.int .u64 x.pmHi, .int .u64 x.pmLo, .int .i64 x.s]
  dec := fun v => match v with
    | .agg ⟨[.int .u64 a0, .int .u64 a1, .int .i64 a2]⟩ => some ⟨a0, a1, a2⟩
    | _ => none
  ok := by intro v x h; split at h <;> cases h; rfl

structure S_internal_strconv_pmHiLo where
  hi : Int
  lo : Int
def S_internal_strconv_pmHiLo.v (x : S_internal_strconv_pmHiLo) : Value := .agg #[.int .u64 x.hi, .int .u64 x.lo]
@[reducible] def sh_internal_strconv_pmHiLo : Shape where
  T := S_internal_strconv_pmHiLo
  enc := fun x => .agg #[.int .u64 x.hi, .int .u64 x.lo]
  dec := fun v => match v with
    | .agg ⟨[.int .u64 a0, .int .u64 a1]⟩ => some ⟨a0, a1⟩
    | _ => none
  ok := by intro v x h; split at h <;> cases h; rfl

structure S_internal_strconv_leftCheat where
  delta : Int
  cutoff : ByteArray
def S_internal_strconv_leftCheat.v (x : S_internal_strconv_leftCheat) : Value := .agg #[.int .i64 x.delta, .string x.cutoff]
@[reducible] def sh_internal_strconv_leftCheat : Shape where
  T := S_internal_strconv_leftCheat
  enc := fun x => .agg #[.int .i64 x.delta, .string x.cutoff]
  dec := fun v => match v with
    | .agg ⟨[.int .i64 a0, .string a1]⟩ => some ⟨a0, a1⟩
    | _ => none
  ok := by intro v x h; split at h <;> cases h; rfl

end Lf

/-
  By program: the types of the module by their numbers.
-/
set_option autoImplicit false
set_option maxRecDepth 100000
namespace Lf
open Go

def ty0 : Ty := { und := (.tuple #[]), size := 1, bytes := 0, zero := (.tuple #[]), sh := shUnit }
def ty2 : Ty := { und := (.int .i64), size := 1, bytes := 8, zero := (.int .i64 0), sh := shInt .i64 }
def ty3 : Ty := { und := (.int .i64), size := 1, bytes := 8, zero := (.int .i64 0), sh := shInt .i64 }
def ty4 : Ty := { und := .bool, size := 1, bytes := 1, zero := (.bool false), sh := shBool }
def ty5 : Ty := { und := (.int .u8), size := 1, bytes := 1, zero := (.int .u8 0), sh := shInt .u8 }
def ty9 : Ty := { und := .string, size := 1, bytes := 16, zero := (.string ByteArray.empty), sh := shStr }
def ty12 : Ty := { und := (.int .u64), size := 1, bytes := 8, zero := (.int .u64 0), sh := shInt .u64 }
def ty20 : Ty := { und := (.interface #[]), size := 1, bytes := 16, zero := .nilIface, sh := shLeaf }
def ty21 : Ty := { und := (.int .i32), size := 1, bytes := 4, zero := (.int .i32 0), sh := shInt .i32 }
def ty23 : Ty := { und := (.int .i64), size := 1, bytes := 8, zero := (.int .i64 0), sh := shInt .i64 }
def ty24 : Ty := { und := (.tuple #[2, 23]), size := 1, bytes := 0, zero := (.tuple #[(.int .i64 0), (.int .i64 0)]), sh := shTup2 (shInt .i64) (shInt .i64) }
def ty29 : Ty := { und := (.slice 2), size := 1, bytes := 24, zero := (.slice none 0 0), sh := shSl }
def ty31 : Ty := { und := (.int .u64), size := 1, bytes := 8, zero := (.int .u64 0), sh := shInt .u64 }
def ty34 : Ty := { und := (.float .f64), size := 1, bytes := 8, zero := (.float .f64 0), sh := shFlt .f64 }
def ty42 : Ty := { und := (.tuple #[9, 4]), size := 1, bytes := 0, zero := (.tuple #[(.string ByteArray.empty), (.bool false)]), sh := shTup2 shStr shBool }
def ty45 : Ty := { und := (.interface #[("Error", 97)]), size := 1, bytes := 16, zero := .nilIface, sh := shLeaf }
def ty46 : Ty := { und := (.tuple #[31, 45]), size := 1, bytes := 0, zero := (.tuple #[(.int .u64 0), .nilIface]), sh := shTup2 (shInt .u64) shLeaf }
def ty48 : Ty := { und := (.tuple #[34, 45]), size := 1, bytes := 0, zero := (.tuple #[(.float .f64 0), .nilIface]), sh := shTup2 (shFlt .f64) shLeaf }
def ty52 : Ty := { und := (.tuple #[9, 9, 4]), size := 1, bytes := 0, zero := (.tuple #[(.string ByteArray.empty), (.string ByteArray.empty), (.bool false)]), sh := shTup3 shStr shStr shBool }
def ty55 : Ty := { und := (.tuple #[3, 45]), size := 1, bytes := 0, zero := (.tuple #[(.int .i64 0), .nilIface]), sh := shTup2 (shInt .i64) shLeaf }
def ty59 : Ty := { und := (.tuple #[31, 3]), size := 1, bytes := 0, zero := (.tuple #[(.int .u64 0), (.int .i64 0)]), sh := shTup2 (shInt .u64) (shInt .i64) }
def ty62 : Ty := { und := (.slice 70), size := 1, bytes := 24, zero := (.slice none 0 0), sh := shSl }
def ty70 : Ty := { und := (.int .u32), size := 1, bytes := 4, zero := (.int .u32 0), sh := shInt .u32 }
def ty74 : Ty := { und := (.int .u64), size := 1, bytes := 8, zero := (.int .u64 0), sh := shInt .u64 }
def ty78 : Ty := { und := (.tuple #[62, 62]), size := 1, bytes := 0, zero := (.tuple #[(.slice none 0 0), (.slice none 0 0)]), sh := shTup2 shSl shSl }
def ty81 : Ty := { und := (.int .i64), size := 1, bytes := 8, zero := (.int .i64 0), sh := shInt .i64 }
def ty83 : Ty := { und := (.slice 5), size := 1, bytes := 24, zero := (.slice none 0 0), sh := shSl }
def ty85 : Ty := { und := (.pointer 108), size := 1, bytes := 8, zero := (.pointer none), sh := shPtr }
def ty88 : Ty := { und := (.tuple #[34, 3, 45]), size := 1, bytes := 0, zero := (.tuple #[(.float .f64 0), (.int .i64 0), .nilIface]), sh := shTup3 (shFlt .f64) (shInt .i64) shLeaf }
def ty90 : Ty := { und := (.tuple #[74, 74]), size := 1, bytes := 0, zero := (.tuple #[(.int .u64 0), (.int .u64 0)]), sh := shTup2 (shInt .u64) (shInt .u64) }
def ty92 : Ty := { und := (.pointer 94), size := 1, bytes := 8, zero := (.pointer none), sh := shPtr }
def ty94 : Ty := { und := (.struct #[{ name := "addr", type := 92, offset := 0, embedded := false, tag := "", pkgPath := "strings", byteOffset := 0 }, { name := "buf", type := 83, offset := 1, embedded := false, tag := "", pkgPath := "strings", byteOffset := 8 }]), size := 2, bytes := 32, zero := (.agg #[(.pointer none), (.slice none 0 0)]), sh := sh_strings_Builder }
def ty100 : Ty := { und := (.float .f32), size := 1, bytes := 4, zero := (.float .f32 0), sh := shFlt .f32 }
def ty102 : Ty := { und := (.tuple #[2, 45]), size := 1, bytes := 0, zero := (.tuple #[(.int .i64 0), .nilIface]), sh := shTup2 (shInt .i64) shLeaf }
def ty105 : Ty := { und := (.pointer 62), size := 1, bytes := 8, zero := (.pointer none), sh := shPtr }
def ty108 : Ty := { und := (.struct #[{ name := "Func", type := 9, offset := 0, embedded := false, tag := "", pkgPath := "", byteOffset := 0 }, { name := "Num", type := 9, offset := 1, embedded := false, tag := "", pkgPath := "", byteOffset := 16 }, { name := "Err", type := 45, offset := 2, embedded := false, tag := "", pkgPath := "", byteOffset := 32 }]), size := 3, bytes := 48, zero := (.agg #[(.string ByteArray.empty), (.string ByteArray.empty), .nilIface]), sh := sh_strconv_NumError }
def ty110 : Ty := { und := (.tuple #[100, 3, 45]), size := 1, bytes := 0, zero := (.tuple #[(.float .f32 0), (.int .i64 0), .nilIface]), sh := shTup3 (shFlt .f32) (shInt .i64) shLeaf }
def ty113 : Ty := { und := (.array 24 5), size := 24, bytes := 24, zero := (.agg #[(.int .u8 0), (.int .u8 0), (.int .u8 0), (.int .u8 0), (.int .u8 0), (.int .u8 0), (.int .u8 0), (.int .u8 0), (.int .u8 0), (.int .u8 0), (.int .u8 0), (.int .u8 0), (.int .u8 0), (.int .u8 0), (.int .u8 0), (.int .u8 0), (.int .u8 0), (.int .u8 0), (.int .u8 0), (.int .u8 0), (.int .u8 0), (.int .u8 0), (.int .u8 0), (.int .u8 0)]), sh := sh_n24_uint8 }
def ty116 : Ty := { und := (.tuple #[83, 9]), size := 1, bytes := 0, zero := (.tuple #[(.slice none 0 0), (.string ByteArray.empty)]), sh := shTup2 shSl shStr }
def ty118 : Ty := { und := (.tuple #[70, 70]), size := 1, bytes := 0, zero := (.tuple #[(.int .u32 0), (.int .u32 0)]), sh := shTup2 (shInt .u32) (shInt .u32) }
def ty120 : Ty := { und := (.tuple #[31, 31]), size := 1, bytes := 0, zero := (.tuple #[(.int .u64 0), (.int .u64 0)]), sh := shTup2 (shInt .u64) (shInt .u64) }
def ty122 : Ty := { und := (.pointer 5), size := 1, bytes := 8, zero := (.pointer none), sh := shPtr }
def ty129 : Ty := { und := (.array 32 5), size := 32, bytes := 32, zero := (.agg #[(.int .u8 0), (.int .u8 0), (.int .u8 0), (.int .u8 0), (.int .u8 0), (.int .u8 0), (.int .u8 0), (.int .u8 0), (.int .u8 0), (.int .u8 0), (.int .u8 0), (.int .u8 0), (.int .u8 0), (.int .u8 0), (.int .u8 0), (.int .u8 0), (.int .u8 0), (.int .u8 0), (.int .u8 0), (.int .u8 0), (.int .u8 0), (.int .u8 0), (.int .u8 0), (.int .u8 0), (.int .u8 0), (.int .u8 0), (.int .u8 0), (.int .u8 0), (.int .u8 0), (.int .u8 0), (.int .u8 0), (.int .u8 0)]), sh := sh_n32_uint8 }
def ty131 : Ty := { und := (.tuple #[3, 3]), size := 1, bytes := 0, zero := (.tuple #[(.int .i64 0), (.int .i64 0)]), sh := shTup2 (shInt .i64) (shInt .i64) }
def ty134 : Ty := { und := (.pointer 137), size := 1, bytes := 8, zero := (.pointer none), sh := shPtr }
def ty135 : Ty := { und := (.array 800 5), size := 800, bytes := 800, zero := (.agg #[(.int .u8 0), (.int .u8 0), (.int .u8 0), (.int .u8 0), (.int .u8 0), (.int .u8 0), (.int .u8 0), (.int .u8 0), (.int .u8 0), (.int .u8 0), (.int .u8 0), (.int .u8 0), (.int .u8 0), (.int .u8 0), (.int .u8 0), (.int .u8 0), (.int .u8 0), (.int .u8 0), (.int .u8 0), (.int .u8 0), (.int .u8 0), (.int .u8 0), (.int .u8 0), (.int .u8 0), (.int .u8 0), (.int .u8 0), (.int .u8 0), (.int .u8 0), (.int .u8 0), (.int .u8 0), (.int .u8 0), (.int .u8 0), (.int .u8 0), (.int .u8 0), (.int .u8 0), (.int .u8 0), (.int .u8 0), (.int .u8 0), (.int .u8 0), (.int .u8 0), (.int .u8 0), (.int .u8 0), (.int .u8 0), (.int .u8 0), (.int .u8 0), (.int .u8 0), (.int .u8 0), (.int .u8 0), (.int .u8 0), (.int .u8 0), (.int .u8 0), (.int .u8 0), (.int .u8 0), (.int .u8 0), (.int .u8 0), (.int .u8 0), (.int .u8 0), (.int .u8 0), (.int .u8 0), (.int .u8 0), (.int .u8 0), (.int .u8 0), (.int .u8 0), (.int .u8 0), (.int .u8 0), (.int .u8 0), (.int .u8 0), (.int .u8 0), (.int .u8 0), (.int .u8 0), (.int .u8 0), (.int .u8 0), (.int .u8 0), (.int .u8 0), (.int .u8 0), (.int .u8 0), (.int .u8 0), (.int .u8 0), (.int .u8 0), (.int .u8 0), (.int .u8 0), (.int .u8 0), (.int .u8 0), (.int .u8 0), (.int .u8 0), (.int .u8 0), (.int .u8 0), (.int .u8 0), (.int .u8 0), (.int .u8 0), (.int .u8 0), (.int .u8 0), (.int .u8 0), (.int .u8 0), (.int .u8 0), (.int .u8 0), (.int .u8 0), (.int .u8 0), (.int .u8 0), (.int .u8 0), (.int .u8 0), (.int .u8 0), (.int .u8 0), (.int .u8 0), (.int .u8 0), (.int .u8 0), (.int .u8 0), (.int .u8 0), (.int .u8 0), (.int .u8 0), (.int .u8 0), (.int .u8 0), (.int .u8 0), (.int .u8 0), (.int .u8 0), (.int .u8 0), (.int .u8 0), (.int .u8 0), (.int .u8 0), (.int .u8 0), (.int .u8 0), (.int .u8 0), (.int .u8 0), (.int .u8 0), (.int .u8 0), (.int .u8 0), (.int .u8 0), (.int .u8 0), (.int .u8 0), (.int .u8 0), (.int .u8 0), (.int .u8 0), (.int .u8 0), (.int .u8 0), (.int .u8 0), (.int .u8 0), (.int .u8 0), (.int .u8 0), (.int .u8 0), (.int .u8 0), (.int .u8 0), (.int .u8 0), (.int .u8 0), (.int .u8 0), (.int .u8 0), (.int .u8 0), (.int .u8 0), (.int .u8 0), (.int .u8 0), (.int .u8 0), (.int .u8 0), (.int .u8 0), (.int .u8 0), (.int .u8 0), (.int .u8 0), (.int .u8 0), (.int .u8 0), (.int .u8 0), (.int .u8 0), (.int .u8 0), (.int .u8 0), (.int .u8 0), (.int .u8 0), (.int .u8 0), (.int .u8 0), (.int .u8 0), (.int .u8 0), (.int .u8 0), (.int .u8 0), (.int .u8 0), (.int .u8 0), (.int .u8 0), (.int .u8 0), (.int .u8 0), (.int .u8 0), (.int .u8 0), (.int .u8 0), (.int .u8 0), (.int .u8 0), (.int .u8 0), (.int .u8 0), (.int .u8 0), (.int .u8 0), (.int .u8 0), (.int .u8 0), (.int .u8 0), (.int .u8 0), (.int .u8 0), (.int .u8 0), (.int .u8 0), (.int .u8 0), (.int .u8 0), (.int .u8 0), (.int .u8 0), (.int .u8 0), (.int .u8 0), (.int .u8 0), (.int .u8 0), (.int .u8 0), (.int .u8 0), (.int .u8 0), (.int .u8 0), (.int .u8 0), (.int .u8 0), (.int .u8 0), (.int .u8 0), (.int .u8 0), (.int .u8 0), (.int .u8 0), (.int .u8 0), (.int .u8 0), (.int .u8 0), (.int .u8 0), (.int .u8 0), (.int .u8 0), (.int .u8 0), (.int .u8 0), (.int .u8 0), (.int .u8 0), (.int .u8 0), (.int .u8 0), (.int .u8 0), (.int .u8 0), (.int .u8 0), (.int .u8 0), (.int .u8 0), (.int .u8 0), (.int .u8 0), (.int .u8 0), (.int .u8 0), (.int .u8 0), (.int .u8 0), (.int .u8 0), (.int .u8 0), (.int .u8 0), (.int .u8 0), (.int .u8 0), (.int .u8 0), (.int .u8 0), (.int .u8 0), (.int .u8 0), (.int .u8 0), (.int .u8 0), (.int .u8 0), (.int .u8 0), (.int .u8 0), (.int .u8 0), (.int .u8 0), (.int .u8 0), (.int .u8 0), (.int .u8 0), (.int .u8 0), (.int .u8 0), (.int .u8 0), (.int .u8 0), (.int .u8 0), (.int .u8 0), (.int .u8 0), (.int .u8 0), (.int .u8 0), (.int .u8 0), (.int .u8 0), (.int .u8 0), (.int .u8 0), (.int .u8 0), (.int .u8 0), (.int .u8 0), (.int .u8 0), (.int .u8 0), (.int .u8 0), (.int .u8 0), (.int .u8 0), (.int .u8 0), (.int .u8 0), (.int .u8 0), (.int .u8 0), (.int .u8 0), (.int .u8 0), (.int .u8 0), (.int .u8 0), (.int .u8 0), (.int .u8 0), (.int .u8 0), (.int .u8 0), (.int .u8 0), (.int .u8 0), (.int .u8 0), (.int .u8 0), (.int .u8 0), (.int .u8 0), (.int .u8 0), (.int .u8 0), (.int .u8 0), (.int .u8 0), (.int .u8 0), (.int .u8 0), (.int .u8 0), (.int .u8 0), (.int .u8 0), (.int .u8 0), (.int .u8 0), (.int .u8 0), (.int .u8 0), (.int .u8 0), (.int .u8 0), (.int .u8 0), (.int .u8 0), (.int .u8 0), (.int .u8 0), (.int .u8 0), (.int .u8 0), (.int .u8 0), (.int .u8 0), (.int .u8 0), (.int .u8 0), (.int .u8 0), (.int .u8 0), (.int .u8 0), (.int .u8 0), (.int .u8 0), (.int .u8 0), (.int .u8 0), (.int .u8 0), (.int .u8 0), (.int .u8 0), (.int .u8 0), (.int .u8 0), (.int .u8 0), (.int .u8 0), (.int .u8 0), (.int .u8 0), (.int .u8 0), (.int .u8 0), (.int .u8 0), (.int .u8 0), (.int .u8 0), (.int .u8 0), (.int .u8 0), (.int .u8 0), (.int .u8 0), (.int .u8 0), (.int .u8 0), (.int .u8 0), (.int .u8 0), (.int .u8 0), (.int .u8 0), (.int .u8 0), (.int .u8 0), (.int .u8 0), (.int .u8 0), (.int .u8 0), (.int .u8 0), (.int .u8 0), (.int .u8 0), (.int .u8 0), (.int .u8 0), (.int .u8 0), (.int .u8 0), (.int .u8 0), (.int .u8 0), (.int .u8 0), (.int .u8 0), (.int .u8 0), (.int .u8 0), (.int .u8 0), (.int .u8 0), (.int .u8 0), (.int .u8 0), (.int .u8 0), (.int .u8 0), (.int .u8 0), (.int .u8 0), (.int .u8 0), (.int .u8 0), (.int .u8 0), (.int .u8 0), (.int .u8 0), (.int .u8 0), (.int .u8 0), (.int .u8 0), (.int .u8 0), (.int .u8 0), (.int .u8 0), (.int .u8 0), (.int .u8 0), (.int .u8 0), (.int .u8 0), (.int .u8 0), (.int .u8 0), (.int .u8 0), (.int .u8 0), (.int .u8 0), (.int .u8 0), (.int .u8 0), (.int .u8 0), (.int .u8 0), (.int .u8 0), (.int .u8 0), (.int .u8 0), (.int .u8 0), (.int .u8 0), (.int .u8 0), (.int .u8 0), (.int .u8 0), (.int .u8 0), (.int .u8 0), (.int .u8 0), (.int .u8 0), (.int .u8 0), (.int .u8 0), (.int .u8 0), (.int .u8 0), (.int .u8 0), (.int .u8 0), (.int .u8 0), (.int .u8 0), (.int .u8 0), (.int .u8 0), (.int .u8 0), (.int .u8 0), (.int .u8 0), (.int .u8 0), (.int .u8 0), (.int .u8 0), (.int .u8 0), (.int .u8 0), (.int .u8 0), (.int .u8 0), (.int .u8 0), (.int .u8 0), (.int .u8 0), (.int .u8 0), (.int .u8 0), (.int .u8 0), (.int .u8 0), (.int .u8 0), (.int .u8 0), (.int .u8 0), (.int .u8 0), (.int .u8 0), (.int .u8 0), (.int .u8 0), (.int .u8 0), (.int .u8 0), (.int .u8 0), (.int .u8 0), (.int .u8 0), (.int .u8 0), (.int .u8 0), (.int .u8 0), (.int .u8 0), (.int .u8 0), (.int .u8 0), (.int .u8 0), (.int .u8 0), (.int .u8 0), (.int .u8 0), (.int .u8 0), (.int .u8 0), (.int .u8 0), (.int .u8 0), (.int .u8 0), (.int .u8 0), (.int .u8 0), (.int .u8 0), (.int .u8 0), (.int .u8 0), (.int .u8 0), (.int .u8 0), (.int .u8 0), (.int .u8 0), (.int .u8 0), (.int .u8 0), (.int .u8 0), (.int .u8 0), (.int .u8 0), (.int .u8 0), (.int .u8 0), (.int .u8 0), (.int .u8 0), (.int .u8 0), (.int .u8 0), (.int .u8 0), (.int .u8 0), (.int .u8 0), (.int .u8 0), (.int .u8 0), (.int .u8 0), (.int .u8 0), (.int .u8 0), (.int .u8 0), (.int .u8 0), (.int .u8 0), (.int .u8 0), (.int .u8 0), (.int .u8 0), (.int .u8 0), (.int .u8 0), (.int .u8 0), (.int .u8 0), (.int .u8 0), (.int .u8 0), (.int .u8 0), (.int .u8 0), (.int .u8 0), (.int .u8 0), (.int .u8 0), (.int .u8 0), (.int .u8 0), (.int .u8 0), (.int .u8 0), (.int .u8 0), (.int .u8 0), (.int .u8 0), (.int .u8 0), (.int .u8 0), (.int .u8 0), (.int .u8 0), (.int .u8 0), (.int .u8 0), (.int .u8 0), (.int .u8 0), (.int .u8 0), (.int .u8 0), (.int .u8 0), (.int .u8 0), (.int .u8 0), (.int .u8 0), (.int .u8 0), (.int .u8 0), (.int .u8 0), (.int .u8 0), (.int .u8 0), (.int .u8 0), (.int .u8 0), (.int .u8 0), (.int .u8 0), (.int .u8 0), (.int .u8 0), (.int .u8 0), (.int .u8 0), (.int .u8 0), (.int .u8 0), (.int .u8 0), (.int .u8 0), (.int .u8 0), (.int .u8 0), (.int .u8 0), (.int .u8 0), (.int .u8 0), (.int .u8 0), (.int .u8 0), (.int .u8 0), (.int .u8 0), (.int .u8 0), (.int .u8 0), (.int .u8 0), (.int .u8 0), (.int .u8 0), (.int .u8 0), (.int .u8 0), (.int .u8 0), (.int .u8 0), (.int .u8 0), (.int .u8 0), (.int .u8 0), (.int .u8 0), (.int .u8 0), (.int .u8 0), (.int .u8 0), (.int .u8 0), (.int .u8 0), (.int .u8 0), (.int .u8 0), (.int .u8 0), (.int .u8 0), (.int .u8 0), (.int .u8 0), (.int .u8 0), (.int .u8 0), (.int .u8 0), (.int .u8 0), (.int .u8 0), (.int .u8 0), (.int .u8 0), (.int .u8 0), (.int .u8 0), (.int .u8 0), (.int .u8 0), (.int .u8 0), (.int .u8 0), (.int .u8 0), (.int .u8 0), (.int .u8 0), (.int .u8 0), (.int .u8 0), (.int .u8 0), (.int .u8 0), (.int .u8 0), (.int .u8 0), (.int .u8 0), (.int .u8 0), (.int .u8 0), (.int .u8 0), (.int .u8 0), (.int .u8 0), (.int .u8 0), (.int .u8 0), (.int .u8 0), (.int .u8 0), (.int .u8 0), (.int .u8 0), (.int .u8 0), (.int .u8 0), (.int .u8 0), (.int .u8 0), (.int .u8 0), (.int .u8 0), (.int .u8 0), (.int .u8 0), (.int .u8 0), (.int .u8 0), (.int .u8 0), (.int .u8 0), (.int .u8 0), (.int .u8 0), (.int .u8 0), (.int .u8 0), (.int .u8 0), (.int .u8 0), (.int .u8 0), (.int .u8 0), (.int .u8 0), (.int .u8 0), (.int .u8 0), (.int .u8 0), (.int .u8 0), (.int .u8 0), (.int .u8 0), (.int .u8 0), (.int .u8 0), (.int .u8 0), (.int .u8 0), (.int .u8 0), (.int .u8 0), (.int .u8 0), (.int .u8 0), (.int .u8 0), (.int .u8 0), (.int .u8 0), (.int .u8 0), (.int .u8 0), (.int .u8 0), (.int .u8 0), (.int .u8 0), (.int .u8 0), (.int .u8 0), (.int .u8 0), (.int .u8 0), (.int .u8 0), (.int .u8 0), (.int .u8 0), (.int .u8 0), (.int .u8 0), (.int .u8 0), (.int .u8 0), (.int .u8 0), (.int .u8 0), (.int .u8 0), (.int .u8 0), (.int .u8 0), (.int .u8 0), (.int .u8 0), (.int .u8 0), (.int .u8 0), (.int .u8 0), (.int .u8 0), (.int .u8 0), (.int .u8 0), (.int .u8 0), (.int .u8 0), (.int .u8 0), (.int .u8 0), (.int .u8 0), (.int .u8 0), (.int .u8 0), (.int .u8 0), (.int .u8 0), (.int .u8 0), (.int .u8 0), (.int .u8 0), (.int .u8 0), (.int .u8 0), (.int .u8 0), (.int .u8 0), (.int .u8 0), (.int .u8 0), (.int .u8 0), (.int .u8 0), (.int .u8 0), (.int .u8 0), (.int .u8 0), (.int .u8 0), (.int .u8 0), (.int .u8 0), (.int .u8 0), (.int .u8 0), (.int .u8 0), (.int .u8 0), (.int .u8 0), (.int .u8 0), (.int .u8 0), (.int .u8 0), (.int .u8 0), (.int .u8 0), (.int .u8 0), (.int .u8 0), (.int .u8 0), (.int .u8 0), (.int .u8 0), (.int .u8 0), (.int .u8 0), (.int .u8 0), (.int .u8 0), (.int .u8 0), (.int .u8 0), (.int .u8 0), (.int .u8 0), (.int .u8 0), (.int .u8 0), (.int .u8 0), (.int .u8 0), (.int .u8 0), (.int .u8 0), (.int .u8 0), (.int .u8 0), (.int .u8 0), (.int .u8 0), (.int .u8 0), (.int .u8 0), (.int .u8 0), (.int .u8 0), (.int .u8 0), (.int .u8 0), (.int .u8 0), (.int .u8 0), (.int .u8 0), (.int .u8 0), (.int .u8 0), (.int .u8 0), (.int .u8 0), (.int .u8 0), (.int .u8 0), (.int .u8 0), (.int .u8 0), (.int .u8 0), (.int .u8 0), (.int .u8 0), (.int .u8 0), (.int .u8 0), (.int .u8 0), (.int .u8 0), (.int .u8 0), (.int .u8 0), (.int .u8 0), (.int .u8 0), (.int .u8 0), (.int .u8 0), (.int .u8 0), (.int .u8 0), (.int .u8 0), (.int .u8 0), (.int .u8 0), (.int .u8 0), (.int .u8 0), (.int .u8 0), (.int .u8 0), (.int .u8 0), (.int .u8 0), (.int .u8 0), (.int .u8 0), (.int .u8 0), (.int .u8 0), (.int .u8 0), (.int .u8 0), (.int .u8 0), (.int .u8 0), (.int .u8 0), (.int .u8 0), (.int .u8 0), (.int .u8 0), (.int .u8 0), (.int .u8 0), (.int .u8 0), (.int .u8 0), (.int .u8 0), (.int .u8 0), (.int .u8 0), (.int .u8 0), (.int .u8 0)]), sh := shCells 800 }
def ty137 : Ty := { und := (.struct #[{ name := "d", type := 135, offset := 0, embedded := false, tag := "", pkgPath := "internal/strconv", byteOffset := 0 }, { name := "nd", type := 3, offset := 800, embedded := false, tag := "", pkgPath := "internal/strconv", byteOffset := 800 }, { name := "dp", type := 3, offset := 801, embedded := false, tag := "", pkgPath := "internal/strconv", byteOffset := 808 }, { name := "neg", type := 4, offset := 802, embedded := false, tag := "", pkgPath := "internal/strconv", byteOffset := 816 }, { name := "trunc", type := 4, offset := 803, embedded := false, tag := "", pkgPath := "internal/strconv", byteOffset := 817 }]), size := 804, bytes := 824, zero := (.agg #[(.int .u8 0), (.int .u8 0), (.int .u8 0), (.int .u8 0), (.int .u8 0), (.int .u8 0), (.int .u8 0), (.int .u8 0), (.int .u8 0), (.int .u8 0), (.int .u8 0), (.int .u8 0), (.int .u8 0), (.int .u8 0), (.int .u8 0), (.int .u8 0), (.int .u8 0), (.int .u8 0), (.int .u8 0), (.int .u8 0), (.int .u8 0), (.int .u8 0), (.int .u8 0), (.int .u8 0), (.int .u8 0), (.int .u8 0), (.int .u8 0), (.int .u8 0), (.int .u8 0), (.int .u8 0), (.int .u8 0), (.int .u8 0), (.int .u8 0), (.int .u8 0), (.int .u8 0), (.int .u8 0), (.int .u8 0), (.int .u8 0), (.int .u8 0), (.int .u8 0), (.int .u8 0), (.int .u8 0), (.int .u8 0), (.int .u8 0), (.int .u8 0), (.int .u8 0), (.int .u8 0), (.int .u8 0), (.int .u8 0), (.int .u8 0), (.int .u8 0), (.int .u8 0), (.int .u8 0), (.int .u8 0), (.int .u8 0), (.int .u8 0), (.int .u8 0), (.int .u8 0), (.int .u8 0), (.int .u8 0), (.int .u8 0), (.int .u8 0), (.int .u8 0), (.int .u8 0), (.int .u8 0), (.int .u8 0), (.int .u8 0), (.int .u8 0), (.int .u8 0), (.int .u8 0), (.int .u8 0), (.int .u8 0), (.int .u8 0), (.int .u8 0), (.int .u8 0), (.int .u8 0), (.int .u8 0), (.int .u8 0), (.int .u8 0), (.int .u8 0), (.int .u8 0), (.int .u8 0), (.int .u8 0), (.int .u8 0), (.int .u8 0), (.int .u8 0), (.int .u8 0), (.int .u8 0), (.int .u8 0), (.int .u8 0), (.int .u8 0), (.int .u8 0), (.int .u8 0), (.int .u8 0), (.int .u8 0), (.int .u8 0), (.int .u8 0), (.int .u8 0), (.int .u8 0), (.int .u8 0), (.int .u8 0), (.int .u8 0), (.int .u8 0), (.int .u8 0), (.int .u8 0), (.int .u8 0), (.int .u8 0), (.int .u8 0), (.int .u8 0), (.int .u8 0), (.int .u8 0), (.int .u8 0), (.int .u8 0), (.int .u8 0), (.int .u8 0), (.int .u8 0), (.int .u8 0), (.int .u8 0), (.int .u8 0), (.int .u8 0), (.int .u8 0), (.int .u8 0), (.int .u8 0), (.int .u8 0), (.int .u8 0), (.int .u8 0), (.int .u8 0), (.int .u8 0), (.int .u8 0), (.int .u8 0), (.int .u8 0), (.int .u8 0), (.int .u8 0), (.int .u8 0), (.int .u8 0), (.int .u8 0), (.int .u8 0), (.int .u8 0), (.int .u8 0), (.int .u8 0), (.int .u8 0), (.int .u8 0), (.int .u8 0), (.int .u8 0), (.int .u8 0), (.int .u8 0), (.int .u8 0), (.int .u8 0), (.int .u8 0), (.int .u8 0), (.int .u8 0), (.int .u8 0), (.int .u8 0), (.int .u8 0), (.int .u8 0), (.int .u8 0), (.int .u8 0), (.int .u8 0), (.int .u8 0), (.int .u8 0), (.int .u8 0), (.int .u8 0), (.int .u8 0), (.int .u8 0), (.int .u8 0), (.int .u8 0), (.int .u8 0), (.int .u8 0), (.int .u8 0), (.int .u8 0), (.int .u8 0), (.int .u8 0), (.int .u8 0), (.int .u8 0), (.int .u8 0), (.int .u8 0), (.int .u8 0), (.int .u8 0), (.int .u8 0), (.int .u8 0), (.int .u8 0), (.int .u8 0), (.int .u8 0), (.int .u8 0), (.int .u8 0), (.int .u8 0), (.int .u8 0), (.int .u8 0), (.int .u8 0), (.int .u8 0), (.int .u8 0), (.int .u8 0), (.int .u8 0), (.int .u8 0), (.int .u8 0), (.int .u8 0), (.int .u8 0), (.int .u8 0), (.int .u8 0), (.int .u8 0), (.int .u8 0), (.int .u8 0), (.int .u8 0), (.int .u8 0), (.int .u8 0), (.int .u8 0), (.int .u8 0), (.int .u8 0), (.int .u8 0), (.int .u8 0), (.int .u8 0), (.int .u8 0), (.int .u8 0), (.int .u8 0), (.int .u8 0), (.int .u8 0), (.int .u8 0), (.int .u8 0), (.int .u8 0), (.int .u8 0), (.int .u8 0), (.int .u8 0), (.int .u8 0), (.int .u8 0), (.int .u8 0), (.int .u8 0), (.int .u8 0), (.int .u8 0), (.int .u8 0), (.int .u8 0), (.int .u8 0), (.int .u8 0), (.int .u8 0), (.int .u8 0), (.int .u8 0), (.int .u8 0), (.int .u8 0), (.int .u8 0), (.int .u8 0), (.int .u8 0), (.int .u8 0), (.int .u8 0), (.int .u8 0), (.int .u8 0), (.int .u8 0), (.int .u8 0), (.int .u8 0), (.int .u8 0), (.int .u8 0), (.int .u8 0), (.int .u8 0), (.int .u8 0), (.int .u8 0), (.int .u8 0), (.int .u8 0), (.int .u8 0), (.int .u8 0), (.int .u8 0), (.int .u8 0), (.int .u8 0), (.int .u8 0), (.int .u8 0), (.int .u8 0), (.int .u8 0), (.int .u8 0), (.int .u8 0), (.int .u8 0), (.int .u8 0), (.int .u8 0), (.int .u8 0), (.int .u8 0), (.int .u8 0), (.int .u8 0), (.int .u8 0), (.int .u8 0), (.int .u8 0), (.int .u8 0), (.int .u8 0), (.int .u8 0), (.int .u8 0), (.int .u8 0), (.int .u8 0), (.int .u8 0), (.int .u8 0), (.int .u8 0), (.int .u8 0), (.int .u8 0), (.int .u8 0), (.int .u8 0), (.int .u8 0), (.int .u8 0), (.int .u8 0), (.int .u8 0), (.int .u8 0), (.int .u8 0), (.int .u8 0), (.int .u8 0), (.int .u8 0), (.int .u8 0), (.int .u8 0), (.int .u8 0), (.int .u8 0), (.int .u8 0), (.int .u8 0), (.int .u8 0), (.int .u8 0), (.int .u8 0), (.int .u8 0), (.int .u8 0), (.int .u8 0), (.int .u8 0), (.int .u8 0), (.int .u8 0), (.int .u8 0), (.int .u8 0), (.int .u8 0), (.int .u8 0), (.int .u8 0), (.int .u8 0), (.int .u8 0), (.int .u8 0), (.int .u8 0), (.int .u8 0), (.int .u8 0), (.int .u8 0), (.int .u8 0), (.int .u8 0), (.int .u8 0), (.int .u8 0), (.int .u8 0), (.int .u8 0), (.int .u8 0), (.int .u8 0), (.int .u8 0), (.int .u8 0), (.int .u8 0), (.int .u8 0), (.int .u8 0), (.int .u8 0), (.int .u8 0), (.int .u8 0), (.int .u8 0), (.int .u8 0), (.int .u8 0), (.int .u8 0), (.int .u8 0), (.int .u8 0), (.int .u8 0), (.int .u8 0), (.int .u8 0), (.int .u8 0), (.int .u8 0), (.int .u8 0), (.int .u8 0), (.int .u8 0), (.int .u8 0), (.int .u8 0), (.int .u8 0), (.int .u8 0), (.int .u8 0), (.int .u8 0), (.int .u8 0), (.int .u8 0), (.int .u8 0), (.int .u8 0), (.int .u8 0), (.int .u8 0), (.int .u8 0), (.int .u8 0), (.int .u8 0), (.int .u8 0), (.int .u8 0), (.int .u8 0), (.int .u8 0), (.int .u8 0), (.int .u8 0), (.int .u8 0), (.int .u8 0), (.int .u8 0), (.int .u8 0), (.int .u8 0), (.int .u8 0), (.int .u8 0), (.int .u8 0), (.int .u8 0), (.int .u8 0), (.int .u8 0), (.int .u8 0), (.int .u8 0), (.int .u8 0), (.int .u8 0), (.int .u8 0), (.int .u8 0), (.int .u8 0), (.int .u8 0), (.int .u8 0), (.int .u8 0), (.int .u8 0), (.int .u8 0), (.int .u8 0), (.int .u8 0), (.int .u8 0), (.int .u8 0), (.int .u8 0), (.int .u8 0), (.int .u8 0), (.int .u8 0), (.int .u8 0), (.int .u8 0), (.int .u8 0), (.int .u8 0), (.int .u8 0), (.int .u8 0), (.int .u8 0), (.int .u8 0), (.int .u8 0), (.int .u8 0), (.int .u8 0), (.int .u8 0), (.int .u8 0), (.int .u8 0), (.int .u8 0), (.int .u8 0), (.int .u8 0), (.int .u8 0), (.int .u8 0), (.int .u8 0), (.int .u8 0), (.int .u8 0), (.int .u8 0), (.int .u8 0), (.int .u8 0), (.int .u8 0), (.int .u8 0), (.int .u8 0), (.int .u8 0), (.int .u8 0), (.int .u8 0), (.int .u8 0), (.int .u8 0), (.int .u8 0), (.int .u8 0), (.int .u8 0), (.int .u8 0), (.int .u8 0), (.int .u8 0), (.int .u8 0), (.int .u8 0), (.int .u8 0), (.int .u8 0), (.int .u8 0), (.int .u8 0), (.int .u8 0), (.int .u8 0), (.int .u8 0), (.int .u8 0), (.int .u8 0), (.int .u8 0), (.int .u8 0), (.int .u8 0), (.int .u8 0), (.int .u8 0), (.int .u8 0), (.int .u8 0), (.int .u8 0), (.int .u8 0), (.int .u8 0), (.int .u8 0), (.int .u8 0), (.int .u8 0), (.int .u8 0), (.int .u8 0), (.int .u8 0), (.int .u8 0), (.int .u8 0), (.int .u8 0), (.int .u8 0), (.int .u8 0), (.int .u8 0), (.int .u8 0), (.int .u8 0), (.int .u8 0), (.int .u8 0), (.int .u8 0), (.int .u8 0), (.int .u8 0), (.int .u8 0), (.int .u8 0), (.int .u8 0), (.int .u8 0), (.int .u8 0), (.int .u8 0), (.int .u8 0), (.int .u8 0), (.int .u8 0), (.int .u8 0), (.int .u8 0), (.int .u8 0), (.int .u8 0), (.int .u8 0), (.int .u8 0), (.int .u8 0), (.int .u8 0), (.int .u8 0), (.int .u8 0), (.int .u8 0), (.int .u8 0), (.int .u8 0), (.int .u8 0), (.int .u8 0), (.int .u8 0), (.int .u8 0), (.int .u8 0), (.int .u8 0), (.int .u8 0), (.int .u8 0), (.int .u8 0), (.int .u8 0), (.int .u8 0), (.int .u8 0), (.int .u8 0), (.int .u8 0), (.int .u8 0), (.int .u8 0), (.int .u8 0), (.int .u8 0), (.int .u8 0), (.int .u8 0), (.int .u8 0), (.int .u8 0), (.int .u8 0), (.int .u8 0), (.int .u8 0), (.int .u8 0), (.int .u8 0), (.int .u8 0), (.int .u8 0), (.int .u8 0), (.int .u8 0), (.int .u8 0), (.int .u8 0), (.int .u8 0), (.int .u8 0), (.int .u8 0), (.int .u8 0), (.int .u8 0), (.int .u8 0), (.int .u8 0), (.int .u8 0), (.int .u8 0), (.int .u8 0), (.int .u8 0), (.int .u8 0), (.int .u8 0), (.int .u8 0), (.int .u8 0), (.int .u8 0), (.int .u8 0), (.int .u8 0), (.int .u8 0), (.int .u8 0), (.int .u8 0), (.int .u8 0), (.int .u8 0), (.int .u8 0), (.int .u8 0), (.int .u8 0), (.int .u8 0), (.int .u8 0), (.int .u8 0), (.int .u8 0), (.int .u8 0), (.int .u8 0), (.int .u8 0), (.int .u8 0), (.int .u8 0), (.int .u8 0), (.int .u8 0), (.int .u8 0), (.int .u8 0), (.int .u8 0), (.int .u8 0), (.int .u8 0), (.int .u8 0), (.int .u8 0), (.int .u8 0), (.int .u8 0), (.int .u8 0), (.int .u8 0), (.int .u8 0), (.int .u8 0), (.int .u8 0), (.int .u8 0), (.int .u8 0), (.int .u8 0), (.int .u8 0), (.int .u8 0), (.int .u8 0), (.int .u8 0), (.int .u8 0), (.int .u8 0), (.int .u8 0), (.int .u8 0), (.int .u8 0), (.int .u8 0), (.int .u8 0), (.int .u8 0), (.int .u8 0), (.int .u8 0), (.int .u8 0), (.int .u8 0), (.int .u8 0), (.int .u8 0), (.int .u8 0), (.int .u8 0), (.int .u8 0), (.int .u8 0), (.int .u8 0), (.int .u8 0), (.int .u8 0), (.int .u8 0), (.int .u8 0), (.int .u8 0), (.int .u8 0), (.int .u8 0), (.int .u8 0), (.int .u8 0), (.int .u8 0), (.int .u8 0), (.int .u8 0), (.int .u8 0), (.int .u8 0), (.int .u8 0), (.int .u8 0), (.int .u8 0), (.int .u8 0), (.int .u8 0), (.int .u8 0), (.int .u8 0), (.int .u8 0), (.int .u8 0), (.int .u8 0), (.int .u8 0), (.int .u8 0), (.int .u8 0), (.int .u8 0), (.int .u8 0), (.int .u8 0), (.int .u8 0), (.int .u8 0), (.int .u8 0), (.int .u8 0), (.int .u8 0), (.int .u8 0), (.int .u8 0), (.int .u8 0), (.int .u8 0), (.int .u8 0), (.int .u8 0), (.int .u8 0), (.int .u8 0), (.int .u8 0), (.int .u8 0), (.int .u8 0), (.int .u8 0), (.int .u8 0), (.int .u8 0), (.int .u8 0), (.int .u8 0), (.int .u8 0), (.int .u8 0), (.int .u8 0), (.int .u8 0), (.int .u8 0), (.int .u8 0), (.int .u8 0), (.int .u8 0), (.int .u8 0), (.int .u8 0), (.int .u8 0), (.int .u8 0), (.int .u8 0), (.int .u8 0), (.int .u8 0), (.int .u8 0), (.int .u8 0), (.int .u8 0), (.int .u8 0), (.int .u8 0), (.int .u8 0), (.int .u8 0), (.int .u8 0), (.int .u8 0), (.int .u8 0), (.int .u8 0), (.int .u8 0), (.int .u8 0), (.int .u8 0), (.int .u8 0), (.int .u8 0), (.int .u8 0), (.int .u8 0), (.int .u8 0), (.int .u8 0), (.int .u8 0), (.int .u8 0), (.int .u8 0), (.int .u8 0), (.int .u8 0), (.int .u8 0), (.int .u8 0), (.int .u8 0), (.int .u8 0), (.int .u8 0), (.int .u8 0), (.int .u8 0), (.int .u8 0), (.int .u8 0), (.int .u8 0), (.int .u8 0), (.int .u8 0), (.int .u8 0), (.int .u8 0), (.int .u8 0), (.int .u8 0), (.int .u8 0), (.int .u8 0), (.int .u8 0), (.int .u8 0), (.int .u8 0), (.int .u8 0), (.int .u8 0), (.int .u8 0), (.int .u8 0), (.int .u8 0), (.int .u8 0), (.int .u8 0), (.int .u8 0), (.int .u8 0), (.int .u8 0), (.int .u8 0), (.int .u8 0), (.int .u8 0), (.int .u8 0), (.int .u8 0), (.int .u8 0), (.int .u8 0), (.int .u8 0), (.int .u8 0), (.int .u8 0), (.int .u8 0), (.int .u8 0), (.int .u8 0), (.int .u8 0), (.int .u8 0), (.int .u8 0), (.int .u8 0), (.int .u8 0), (.int .u8 0), (.int .u8 0), (.int .u8 0), (.int .u8 0), (.int .u8 0), (.int .u8 0), (.int .u8 0), (.int .u8 0), (.int .u8 0), (.int .u8 0), (.int .u8 0), (.int .u8 0), (.int .u8 0), (.int .u8 0), (.int .u8 0), (.int .u8 0), (.int .u8 0), (.int .u8 0), (.int .u8 0), (.int .u8 0), (.int .u8 0), (.int .u8 0), (.int .u8 0), (.int .u8 0), (.int .u8 0), (.int .u8 0), (.int .u8 0), (.int .u8 0), (.int .u8 0), (.int .u8 0), (.int .u8 0), (.int .u8 0), (.int .u8 0), (.int .u8 0), (.int .u8 0), (.int .u8 0), (.int .u8 0), (.int .u8 0), (.int .u8 0), (.int .u8 0), (.int .u8 0), (.int .u8 0), (.int .i64 0), (.int .i64 0), (.bool false), (.bool false)]), sh := shCells 804 }
def ty139 : Ty := { und := (.pointer 141), size := 1, bytes := 8, zero := (.pointer none), sh := shPtr }
def ty141 : Ty := { und := (.struct #[{ name := "s", type := 9, offset := 0, embedded := false, tag := "", pkgPath := "errors", byteOffset := 0 }]), size := 1, bytes := 16, zero := (.agg #[(.string ByteArray.empty)]), sh := sh_errors_errorString }
def ty142 : Ty := { und := (.tuple #[34, 3, 4]), size := 1, bytes := 0, zero := (.tuple #[(.float .f64 0), (.int .i64 0), (.bool false)]), sh := shTup3 (shFlt .f64) (shInt .i64) shBool }
def ty144 : Ty := { und := (.tuple #[31, 3, 4, 4, 4, 3, 4]), size := 1, bytes := 0, zero := (.tuple #[(.int .u64 0), (.int .i64 0), (.bool false), (.bool false), (.bool false), (.int .i64 0), (.bool false)]), sh := shTup7 (shInt .u64) (shInt .i64) shBool shBool shBool (shInt .i64) shBool }
def ty147 : Ty := { und := (.pointer 149), size := 1, bytes := 8, zero := (.pointer none), sh := shPtr }
def ty149 : Ty := { und := (.struct #[{ name := "mantbits", type := 74, offset := 0, embedded := false, tag := "", pkgPath := "internal/strconv", byteOffset := 0 }, { name := "expbits", type := 74, offset := 1, embedded := false, tag := "", pkgPath := "internal/strconv", byteOffset := 8 }, { name := "bias", type := 3, offset := 2, embedded := false, tag := "", pkgPath := "internal/strconv", byteOffset := 16 }]), size := 3, bytes := 24, zero := (.agg #[(.int .u64 0), (.int .u64 0), (.int .i64 0)]), sh := sh_internal_strconv_floatInfo }
def ty152 : Ty := { und := (.tuple #[100, 4]), size := 1, bytes := 0, zero := (.tuple #[(.float .f32 0), (.bool false)]), sh := shTup2 (shFlt .f32) shBool }
def ty154 : Ty := { und := (.tuple #[100, 45]), size := 1, bytes := 0, zero := (.tuple #[(.float .f32 0), .nilIface]), sh := shTup2 (shFlt .f32) shLeaf }
def ty156 : Ty := { und := (.tuple #[31, 4]), size := 1, bytes := 0, zero := (.tuple #[(.int .u64 0), (.bool false)]), sh := shTup2 (shInt .u64) shBool }
def ty159 : Ty := { und := (.tuple #[34, 4]), size := 1, bytes := 0, zero := (.tuple #[(.float .f64 0), (.bool false)]), sh := shTup2 (shFlt .f64) shBool }
def ty163 : Ty := { und := (.array 20 31), size := 20, bytes := 160, zero := (.agg #[(.int .u64 0), (.int .u64 0), (.int .u64 0), (.int .u64 0), (.int .u64 0), (.int .u64 0), (.int .u64 0), (.int .u64 0), (.int .u64 0), (.int .u64 0), (.int .u64 0), (.int .u64 0), (.int .u64 0), (.int .u64 0), (.int .u64 0), (.int .u64 0), (.int .u64 0), (.int .u64 0), (.int .u64 0), (.int .u64 0)]), sh := sh_n20_uint64 }
def ty164 : Ty := { und := (.array 65 5), size := 65, bytes := 65, zero := (.agg #[(.int .u8 0), (.int .u8 0), (.int .u8 0), (.int .u8 0), (.int .u8 0), (.int .u8 0), (.int .u8 0), (.int .u8 0), (.int .u8 0), (.int .u8 0), (.int .u8 0), (.int .u8 0), (.int .u8 0), (.int .u8 0), (.int .u8 0), (.int .u8 0), (.int .u8 0), (.int .u8 0), (.int .u8 0), (.int .u8 0), (.int .u8 0), (.int .u8 0), (.int .u8 0), (.int .u8 0), (.int .u8 0), (.int .u8 0), (.int .u8 0), (.int .u8 0), (.int .u8 0), (.int .u8 0), (.int .u8 0), (.int .u8 0), (.int .u8 0), (.int .u8 0), (.int .u8 0), (.int .u8 0), (.int .u8 0), (.int .u8 0), (.int .u8 0), (.int .u8 0), (.int .u8 0), (.int .u8 0), (.int .u8 0), (.int .u8 0), (.int .u8 0), (.int .u8 0), (.int .u8 0), (.int .u8 0), (.int .u8 0), (.int .u8 0), (.int .u8 0), (.int .u8 0), (.int .u8 0), (.int .u8 0), (.int .u8 0), (.int .u8 0), (.int .u8 0), (.int .u8 0), (.int .u8 0), (.int .u8 0), (.int .u8 0), (.int .u8 0), (.int .u8 0), (.int .u8 0), (.int .u8 0)]), sh := shCells 65 }
def ty167 : Ty := { und := .unsafePointer, size := 1, bytes := 8, zero := (.pointer none), sh := shLeaf }
def ty174 : Ty := { und := (.struct #[{ name := "pmHi", type := 31, offset := 0, embedded := false, tag := "", pkgPath := "internal/strconv", byteOffset := 0 }, { name := "pmLo", type := 31, offset := 1, embedded := false, tag := "", pkgPath := "internal/strconv", byteOffset := 8 }, { name := "s", type := 3, offset := 2, embedded := false, tag := "", pkgPath := "internal/strconv", byteOffset := 16 }]), size := 3, bytes := 24, zero := (.agg #[(.int .u64 0), (.int .u64 0), (.int .i64 0)]), sh := sh_internal_strconv_scaler }
def ty176 : Ty := { und := (.pointer 174), size := 1, bytes := 8, zero := (.pointer none), sh := shPtr }
def ty177 : Ty := { und := (.int .u64), size := 1, bytes := 8, zero := (.int .u64 0), sh := shInt .u64 }
def ty187 : Ty := { und := (.slice 100), size := 1, bytes := 24, zero := (.slice none 0 0), sh := shSl }
def ty189 : Ty := { und := (.slice 3), size := 1, bytes := 24, zero := (.slice none 0 0), sh := shSl }
def ty190 : Ty := { und := (.slice 34), size := 1, bytes := 24, zero := (.slice none 0 0), sh := shSl }
def ty194 : Ty := { und := (.struct #[{ name := "hi", type := 31, offset := 0, embedded := false, tag := "", pkgPath := "internal/strconv", byteOffset := 0 }, { name := "lo", type := 31, offset := 1, embedded := false, tag := "", pkgPath := "internal/strconv", byteOffset := 8 }]), size := 2, bytes := 16, zero := (.agg #[(.int .u64 0), (.int .u64 0)]), sh := sh_internal_strconv_pmHiLo }
def ty195 : Ty := { und := (.array 696 194), size := 1392, bytes := 11136, zero := (.agg #[(.int .u64 0), (.int .u64 0), (.int .u64 0), (.int .u64 0), (.int .u64 0), (.int .u64 0), (.int .u64 0), (.int .u64 0), (.int .u64 0), (.int .u64 0), (.int .u64 0), (.int .u64 0), (.int .u64 0), (.int .u64 0), (.int .u64 0), (.int .u64 0), (.int .u64 0), (.int .u64 0), (.int .u64 0), (.int .u64 0), (.int .u64 0), (.int .u64 0), (.int .u64 0), (.int .u64 0), (.int .u64 0), (.int .u64 0), (.int .u64 0), (.int .u64 0), (.int .u64 0), (.int .u64 0), (.int .u64 0), (.int .u64 0), (.int .u64 0), (.int .u64 0), (.int .u64 0), (.int .u64 0), (.int .u64 0), (.int .u64 0), (.int .u64 0), (.int .u64 0), (.int .u64 0), (.int .u64 0), (.int .u64 0), (.int .u64 0), (.int .u64 0), (.int .u64 0), (.int .u64 0), (.int .u64 0), (.int .u64 0), (.int .u64 0), (.int .u64 0), (.int .u64 0), (.int .u64 0), (.int .u64 0), (.int .u64 0), (.int .u64 0), (.int .u64 0), (.int .u64 0), (.int .u64 0), (.int .u64 0), (.int .u64 0), (.int .u64 0), (.int .u64 0), (.int .u64 0), (.int .u64 0), (.int .u64 0), (.int .u64 0), (.int .u64 0), (.int .u64 0), (.int .u64 0), (.int .u64 0), (.int .u64 0), (.int .u64 0), (.int .u64 0), (.int .u64 0), (.int .u64 0), (.int .u64 0), (.int .u64 0), (.int .u64 0), (.int .u64 0), (.int .u64 0), (.int .u64 0), (.int .u64 0), (.int .u64 0), (.int .u64 0), (.int .u64 0), (.int .u64 0), (.int .u64 0), (.int .u64 0), (.int .u64 0), (.int .u64 0), (.int .u64 0), (.int .u64 0), (.int .u64 0), (.int .u64 0), (.int .u64 0), (.int .u64 0), (.int .u64 0), (.int .u64 0), (.int .u64 0), (.int .u64 0), (.int .u64 0), (.int .u64 0), (.int .u64 0), (.int .u64 0), (.int .u64 0), (.int .u64 0), (.int .u64 0), (.int .u64 0), (.int .u64 0), (.int .u64 0), (.int .u64 0), (.int .u64 0), (.int .u64 0), (.int .u64 0), (.int .u64 0), (.int .u64 0), (.int .u64 0), (.int .u64 0), (.int .u64 0), (.int .u64 0), (.int .u64 0), (.int .u64 0), (.int .u64 0), (.int .u64 0), (.int .u64 0), (.int .u64 0), (.int .u64 0), (.int .u64 0), (.int .u64 0), (.int .u64 0), (.int .u64 0), (.int .u64 0), (.int .u64 0), (.int .u64 0), (.int .u64 0), (.int .u64 0), (.int .u64 0), (.int .u64 0), (.int .u64 0), (.int .u64 0), (.int .u64 0), (.int .u64 0), (.int .u64 0), (.int .u64 0), (.int .u64 0), (.int .u64 0), (.int .u64 0), (.int .u64 0), (.int .u64 0), (.int .u64 0), (.int .u64 0), (.int .u64 0), (.int .u64 0), (.int .u64 0), (.int .u64 0), (.int .u64 0), (.int .u64 0), (.int .u64 0), (.int .u64 0), (.int .u64 0), (.int .u64 0), (.int .u64 0), (.int .u64 0), (.int .u64 0), (.int .u64 0), (.int .u64 0), (.int .u64 0), (.int .u64 0), (.int .u64 0), (.int .u64 0), (.int .u64 0), (.int .u64 0), (.int .u64 0), (.int .u64 0), (.int .u64 0), (.int .u64 0), (.int .u64 0), (.int .u64 0), (.int .u64 0), (.int .u64 0), (.int .u64 0), (.int .u64 0), (.int .u64 0), (.int .u64 0), (.int .u64 0), (.int .u64 0), (.int .u64 0), (.int .u64 0), (.int .u64 0), (.int .u64 0), (.int .u64 0), (.int .u64 0), (.int .u64 0), (.int .u64 0), (.int .u64 0), (.int .u64 0), (.int .u64 0), (.int .u64 0), (.int .u64 0), (.int .u64 0), (.int .u64 0), (.int .u64 0), (.int .u64 0), (.int .u64 0), (.int .u64 0), (.int .u64 0), (.int .u64 0), (.int .u64 0), (.int .u64 0), (.int .u64 0), (.int .u64 0), (.int .u64 0), (.int .u64 0), (.int .u64 0), (.int .u64 0), (.int .u64 0), (.int .u64 0), (.int .u64 0), (.int .u64 0), (.int .u64 0), (.int .u64 0), (.int .u64 0), (.int .u64 0), (.int .u64 0), (.int .u64 0), (.int .u64 0), (.int .u64 0), (.int .u64 0), (.int .u64 0), (.int .u64 0), (.int .u64 0), (.int .u64 0), (.int .u64 0), (.int .u64 0), (.int .u64 0), (.int .u64 0), (.int .u64 0), (.int .u64 0), (.int .u64 0), (.int .u64 0), (.int .u64 0), (.int .u64 0), (.int .u64 0), (.int .u64 0), (.int .u64 0), (.int .u64 0), (.int .u64 0), (.int .u64 0), (.int .u64 0), (.int .u64 0), (.int .u64 0), (.int .u64 0), (.int .u64 0), (.int .u64 0), (.int .u64 0), (.int .u64 0), (.int .u64 0), (.int .u64 0), (.int .u64 0), (.int .u64 0), (.int .u64 0), (.int .u64 0), (.int .u64 0), (.int .u64 0), (.int .u64 0), (.int .u64 0), (.int .u64 0), (.int .u64 0), (.int .u64 0), (.int .u64 0), (.int .u64 0), (.int .u64 0), (.int .u64 0), (.int .u64 0), (.int .u64 0), (.int .u64 0), (.int .u64 0), (.int .u64 0), (.int .u64 0), (.int .u64 0), (.int .u64 0), (.int .u64 0), (.int .u64 0), (.int .u64 0), (.int .u64 0), (.int .u64 0), (.int .u64 0), (.int .u64 0), (.int .u64 0), (.int .u64 0), (.int .u64 0), (.int .u64 0), (.int .u64 0), (.int .u64 0), (.int .u64 0), (.int .u64 0), (.int .u64 0), (.int .u64 0), (.int .u64 0), (.int .u64 0), (.int .u64 0), (.int .u64 0), (.int .u64 0), (.int .u64 0), (.int .u64 0), (.int .u64 0), (.int .u64 0), (.int .u64 0), (.int .u64 0), (.int .u64 0), (.int .u64 0), (.int .u64 0), (.int .u64 0), (.int .u64 0), (.int .u64 0), (.int .u64 0), (.int .u64 0), (.int .u64 0), (.int .u64 0), (.int .u64 0), (.int .u64 0), (.int .u64 0), (.int .u64 0), (.int .u64 0), (.int .u64 0), (.int .u64 0), (.int .u64 0), (.int .u64 0), (.int .u64 0), (.int .u64 0), (.int .u64 0), (.int .u64 0), (.int .u64 0), (.int .u64 0), (.int .u64 0), (.int .u64 0), (.int .u64 0), (.int .u64 0), (.int .u64 0), (.int .u64 0), (.int .u64 0), (.int .u64 0), (.int .u64 0), (.int .u64 0), (.int .u64 0), (.int .u64 0), (.int .u64 0), (.int .u64 0), (.int .u64 0), (.int .u64 0), (.int .u64 0), (.int .u64 0), (.int .u64 0), (.int .u64 0), (.int .u64 0), (.int .u64 0), (.int .u64 0), (.int .u64 0), (.int .u64 0), (.int .u64 0), (.int .u64 0), (.int .u64 0), (.int .u64 0), (.int .u64 0), (.int .u64 0), (.int .u64 0), (.int .u64 0), (.int .u64 0), (.int .u64 0), (.int .u64 0), (.int .u64 0), (.int .u64 0), (.int .u64 0), (.int .u64 0), (.int .u64 0), (.int .u64 0), (.int .u64 0), (.int .u64 0), (.int .u64 0), (.int .u64 0), (.int .u64 0), (.int .u64 0), (.int .u64 0), (.int .u64 0), (.int .u64 0), (.int .u64 0), (.int .u64 0), (.int .u64 0), (.int .u64 0), (.int .u64 0), (.int .u64 0), (.int .u64 0), (.int .u64 0), (.int .u64 0), (.int .u64 0), (.int .u64 0), (.int .u64 0), (.int .u64 0), (.int .u64 0), (.int .u64 0), (.int .u64 0), (.int .u64 0), (.int .u64 0), (.int .u64 0), (.int .u64 0), (.int .u64 0), (.int .u64 0), (.int .u64 0), (.int .u64 0), (.int .u64 0), (.int .u64 0), (.int .u64 0), (.int .u64 0), (.int .u64 0), (.int .u64 0), (.int .u64 0), (.int .u64 0), (.int .u64 0), (.int .u64 0), (.int .u64 0), (.int .u64 0), (.int .u64 0), (.int .u64 0), (.int .u64 0), (.int .u64 0), (.int .u64 0), (.int .u64 0), (.int .u64 0), (.int .u64 0), (.int .u64 0), (.int .u64 0), (.int .u64 0), (.int .u64 0), (.int .u64 0), (.int .u64 0), (.int .u64 0), (.int .u64 0), (.int .u64 0), (.int .u64 0), (.int .u64 0), (.int .u64 0), (.int .u64 0), (.int .u64 0), (.int .u64 0), (.int .u64 0), (.int .u64 0), (.int .u64 0), (.int .u64 0), (.int .u64 0), (.int .u64 0), (.int .u64 0), (.int .u64 0), (.int .u64 0), (.int .u64 0), (.int .u64 0), (.int .u64 0), (.int .u64 0), (.int .u64 0), (.int .u64 0), (.int .u64 0), (.int .u64 0), (.int .u64 0), (.int .u64 0), (.int .u64 0), (.int .u64 0), (.int .u64 0), (.int .u64 0), (.int .u64 0), (.int .u64 0), (.int .u64 0), (.int .u64 0), (.int .u64 0), (.int .u64 0), (.int .u64 0), (.int .u64 0), (.int .u64 0), (.int .u64 0), (.int .u64 0), (.int .u64 0), (.int .u64 0), (.int .u64 0), (.int .u64 0), (.int .u64 0), (.int .u64 0), (.int .u64 0), (.int .u64 0), (.int .u64 0), (.int .u64 0), (.int .u64 0), (.int .u64 0), (.int .u64 0), (.int .u64 0), (.int .u64 0), (.int .u64 0), (.int .u64 0), (.int .u64 0), (.int .u64 0), (.int .u64 0), (.int .u64 0), (.int .u64 0), (.int .u64 0), (.int .u64 0), (.int .u64 0), (.int .u64 0), (.int .u64 0), (.int .u64 0), (.int .u64 0), (.int .u64 0), (.int .u64 0), (.int .u64 0), (.int .u64 0), (.int .u64 0), (.int .u64 0), (.int .u64 0), (.int .u64 0), (.int .u64 0), (.int .u64 0), (.int .u64 0), (.int .u64 0), (.int .u64 0), (.int .u64 0), (.int .u64 0), (.int .u64 0), (.int .u64 0), (.int .u64 0), (.int .u64 0), (.int .u64 0), (.int .u64 0), (.int .u64 0), (.int .u64 0), (.int .u64 0), (.int .u64 0), (.int .u64 0), (.int .u64 0), (.int .u64 0), (.int .u64 0), (.int .u64 0), (.int .u64 0), (.int .u64 0), (.int .u64 0), (.int .u64 0), (.int .u64 0), (.int .u64 0), (.int .u64 0), (.int .u64 0), (.int .u64 0), (.int .u64 0), (.int .u64 0), (.int .u64 0), (.int .u64 0), (.int .u64 0), (.int .u64 0), (.int .u64 0), (.int .u64 0), (.int .u64 0), (.int .u64 0), (.int .u64 0), (.int .u64 0), (.int .u64 0), (.int .u64 0), (.int .u64 0), (.int .u64 0), (.int .u64 0), (.int .u64 0), (.int .u64 0), (.int .u64 0), (.int .u64 0), (.int .u64 0), (.int .u64 0), (.int .u64 0), (.int .u64 0), (.int .u64 0), (.int .u64 0), (.int .u64 0), (.int .u64 0), (.int .u64 0), (.int .u64 0), (.int .u64 0), (.int .u64 0), (.int .u64 0), (.int .u64 0), (.int .u64 0), (.int .u64 0), (.int .u64 0), (.int .u64 0), (.int .u64 0), (.int .u64 0), (.int .u64 0), (.int .u64 0), (.int .u64 0), (.int .u64 0), (.int .u64 0), (.int .u64 0), (.int .u64 0), (.int .u64 0), (.int .u64 0), (.int .u64 0), (.int .u64 0), (.int .u64 0), (.int .u64 0), (.int .u64 0), (.int .u64 0), (.int .u64 0), (.int .u64 0), (.int .u64 0), (.int .u64 0), (.int .u64 0), (.int .u64 0), (.int .u64 0), (.int .u64 0), (.int .u64 0), (.int .u64 0), (.int .u64 0), (.int .u64 0), (.int .u64 0), (.int .u64 0), (.int .u64 0), (.int .u64 0), (.int .u64 0), (.int .u64 0), (.int .u64 0), (.int .u64 0), (.int .u64 0), (.int .u64 0), (.int .u64 0), (.int .u64 0), (.int .u64 0), (.int .u64 0), (.int .u64 0), (.int .u64 0), (.int .u64 0), (.int .u64 0), (.int .u64 0), (.int .u64 0), (.int .u64 0), (.int .u64 0), (.int .u64 0), (.int .u64 0), (.int .u64 0), (.int .u64 0), (.int .u64 0), (.int .u64 0), (.int .u64 0), (.int .u64 0), (.int .u64 0), (.int .u64 0), (.int .u64 0), (.int .u64 0), (.int .u64 0), (.int .u64 0), (.int .u64 0), (.int .u64 0), (.int .u64 0), (.int .u64 0), (.int .u64 0), (.int .u64 0), (.int .u64 0), (.int .u64 0), (.int .u64 0), (.int .u64 0), (.int .u64 0), (.int .u64 0), (.int .u64 0), (.int .u64 0), (.int .u64 0), (.int .u64 0), (.int .u64 0), (.int .u64 0), (.int .u64 0), (.int .u64 0), (.int .u64 0), (.int .u64 0), (.int .u64 0), (.int .u64 0), (.int .u64 0), (.int .u64 0), (.int .u64 0), (.int .u64 0), (.int .u64 0), (.int .u64 0), (.int .u64 0), (.int .u64 0), (.int .u64 0), (.int .u64 0), (.int .u64 0), (.int .u64 0), (.int .u64 0), (.int .u64 0), (.int .u64 0), (.int .u64 0), (.int .u64 0), (.int .u64 0), (.int .u64 0), (.int .u64 0), (.int .u64 0), (.int .u64 0), (.int .u64 0), (.int .u64 0), (.int .u64 0), (.int .u64 0), (.int .u64 0), (.int .u64 0), (.int .u64 0), (.int .u64 0), (.int .u64 0), (.int .u64 0), (.int .u64 0), (.int .u64 0), (.int .u64 0), (.int .u64 0), (.int .u64 0), (.int .u64 0), (.int .u64 0), (.int .u64 0), (.int .u64 0), (.int .u64 0), (.int .u64 0), (.int .u64 0), (.int .u64 0), (.int .u64 0), (.int .u64 0), (.int .u64 0), (.int .u64 0), (.int .u64 0), (.int .u64 0), (.int .u64 0), (.int .u64 0), (.int .u64 0), (.int .u64 0), (.int .u64 0), (.int .u64 0), (.int .u64 0), (.int .u64 0), (.int .u64 0), (.int .u64 0), (.int .u64 0), (.int .u64 0), (.int .u64 0), (.int .u64 0), (.int .u64 0), (.int .u64 0), (.int .u64 0), (.int .u64 0), (.int .u64 0), (.int .u64 0), (.int .u64 0), (.int .u64 0), (.int .u64 0), (.int .u64 0), (.int .u64 0), (.int .u64 0), (.int .u64 0), (.int .u64 0), (.int .u64 0), (.int .u64 0), (.int .u64 0), (.int .u64 0), (.int .u64 0), (.int .u64 0), (.int .u64 0), (.int .u64 0), (.int .u64 0), (.int .u64 0), (.int .u64 0), (.int .u64 0), (.int .u64 0), (.int .u64 0), (.int .u64 0), (.int .u64 0), (.int .u64 0), (.int .u64 0), (.int .u64 0), (.int .u64 0), (.int .u64 0), (.int .u64 0), (.int .u64 0), (.int .u64 0), (.int .u64 0), (.int .u64 0), (.int .u64 0), (.int .u64 0), (.int .u64 0), (.int .u64 0), (.int .u64 0), (.int .u64 0), (.int .u64 0), (.int .u64 0), (.int .u64 0), (.int .u64 0), (.int .u64 0), (.int .u64 0), (.int .u64 0), (.int .u64 0), (.int .u64 0), (.int .u64 0), (.int .u64 0), (.int .u64 0), (.int .u64 0), (.int .u64 0), (.int .u64 0), (.int .u64 0), (.int .u64 0), (.int .u64 0), (.int .u64 0), (.int .u64 0), (.int .u64 0), (.int .u64 0), (.int .u64 0), (.int .u64 0), (.int .u64 0), (.int .u64 0), (.int .u64 0), (.int .u64 0), (.int .u64 0), (.int .u64 0), (.int .u64 0), (.int .u64 0), (.int .u64 0), (.int .u64 0), (.int .u64 0), (.int .u64 0), (.int .u64 0), (.int .u64 0), (.int .u64 0), (.int .u64 0), (.int .u64 0), (.int .u64 0), (.int .u64 0), (.int .u64 0), (.int .u64 0), (.int .u64 0), (.int .u64 0), (.int .u64 0), (.int .u64 0), (.int .u64 0), (.int .u64 0), (.int .u64 0), (.int .u64 0), (.int .u64 0), (.int .u64 0), (.int .u64 0), (.int .u64 0), (.int .u64 0), (.int .u64 0), (.int .u64 0), (.int .u64 0), (.int .u64 0), (.int .u64 0), (.int .u64 0), (.int .u64 0), (.int .u64 0), (.int .u64 0), (.int .u64 0), (.int .u64 0), (.int .u64 0), (.int .u64 0), (.int .u64 0), (.int .u64 0), (.int .u64 0), (.int .u64 0), (.int .u64 0), (.int .u64 0), (.int .u64 0), (.int .u64 0), (.int .u64 0), (.int .u64 0), (.int .u64 0), (.int .u64 0), (.int .u64 0), (.int .u64 0), (.int .u64 0), (.int .u64 0), (.int .u64 0), (.int .u64 0), (.int .u64 0), (.int .u64 0), (.int .u64 0), (.int .u64 0), (.int .u64 0), (.int .u64 0), (.int .u64 0), (.int .u64 0), (.int .u64 0), (.int .u64 0), (.int .u64 0), (.int .u64 0), (.int .u64 0), (.int .u64 0), (.int .u64 0), (.int .u64 0), (.int .u64 0), (.int .u64 0), (.int .u64 0), (.int .u64 0), (.int .u64 0), (.int .u64 0), (.int .u64 0), (.int .u64 0), (.int .u64 0), (.int .u64 0), (.int .u64 0), (.int .u64 0), (.int .u64 0), (.int .u64 0), (.int .u64 0), (.int .u64 0), (.int .u64 0), (.int .u64 0), (.int .u64 0), (.int .u64 0), (.int .u64 0), (.int .u64 0), (.int .u64 0), (.int .u64 0), (.int .u64 0), (.int .u64 0), (.int .u64 0), (.int .u64 0), (.int .u64 0), (.int .u64 0), (.int .u64 0), (.int .u64 0), (.int .u64 0), (.int .u64 0), (.int .u64 0), (.int .u64 0), (.int .u64 0), (.int .u64 0), (.int .u64 0), (.int .u64 0), (.int .u64 0), (.int .u64 0), (.int .u64 0), (.int .u64 0), (.int .u64 0), (.int .u64 0), (.int .u64 0), (.int .u64 0), (.int .u64 0), (.int .u64 0), (.int .u64 0), (.int .u64 0), (.int .u64 0), (.int .u64 0), (.int .u64 0), (.int .u64 0), (.int .u64 0), (.int .u64 0), (.int .u64 0), (.int .u64 0), (.int .u64 0), (.int .u64 0), (.int .u64 0), (.int .u64 0), (.int .u64 0), (.int .u64 0), (.int .u64 0), (.int .u64 0), (.int .u64 0), (.int .u64 0), (.int .u64 0), (.int .u64 0), (.int .u64 0), (.int .u64 0), (.int .u64 0), (.int .u64 0), (.int .u64 0), (.int .u64 0), (.int .u64 0), (.int .u64 0), (.int .u64 0), (.int .u64 0), (.int .u64 0), (.int .u64 0), (.int .u64 0), (.int .u64 0), (.int .u64 0), (.int .u64 0), (.int .u64 0), (.int .u64 0), (.int .u64 0), (.int .u64 0), (.int .u64 0), (.int .u64 0), (.int .u64 0), (.int .u64 0), (.int .u64 0), (.int .u64 0), (.int .u64 0), (.int .u64 0), (.int .u64 0), (.int .u64 0), (.int .u64 0), (.int .u64 0), (.int .u64 0), (.int .u64 0), (.int .u64 0), (.int .u64 0), (.int .u64 0), (.int .u64 0), (.int .u64 0), (.int .u64 0), (.int .u64 0), (.int .u64 0), (.int .u64 0), (.int .u64 0), (.int .u64 0), (.int .u64 0), (.int .u64 0), (.int .u64 0), (.int .u64 0), (.int .u64 0), (.int .u64 0), (.int .u64 0), (.int .u64 0), (.int .u64 0), (.int .u64 0), (.int .u64 0), (.int .u64 0), (.int .u64 0), (.int .u64 0), (.int .u64 0), (.int .u64 0), (.int .u64 0), (.int .u64 0), (.int .u64 0), (.int .u64 0), (.int .u64 0), (.int .u64 0), (.int .u64 0), (.int .u64 0), (.int .u64 0), (.int .u64 0), (.int .u64 0), (.int .u64 0), (.int .u64 0), (.int .u64 0), (.int .u64 0), (.int .u64 0), (.int .u64 0), (.int .u64 0), (.int .u64 0), (.int .u64 0), (.int .u64 0), (.int .u64 0), (.int .u64 0), (.int .u64 0), (.int .u64 0), (.int .u64 0), (.int .u64 0), (.int .u64 0), (.int .u64 0), (.int .u64 0), (.int .u64 0), (.int .u64 0), (.int .u64 0), (.int .u64 0), (.int .u64 0), (.int .u64 0), (.int .u64 0), (.int .u64 0), (.int .u64 0), (.int .u64 0), (.int .u64 0), (.int .u64 0), (.int .u64 0), (.int .u64 0), (.int .u64 0), (.int .u64 0), (.int .u64 0), (.int .u64 0), (.int .u64 0), (.int .u64 0), (.int .u64 0), (.int .u64 0), (.int .u64 0), (.int .u64 0), (.int .u64 0), (.int .u64 0), (.int .u64 0), (.int .u64 0), (.int .u64 0), (.int .u64 0), (.int .u64 0), (.int .u64 0), (.int .u64 0), (.int .u64 0), (.int .u64 0), (.int .u64 0), (.int .u64 0), (.int .u64 0), (.int .u64 0), (.int .u64 0), (.int .u64 0), (.int .u64 0), (.int .u64 0), (.int .u64 0), (.int .u64 0), (.int .u64 0), (.int .u64 0), (.int .u64 0), (.int .u64 0), (.int .u64 0), (.int .u64 0), (.int .u64 0), (.int .u64 0), (.int .u64 0), (.int .u64 0), (.int .u64 0), (.int .u64 0), (.int .u64 0), (.int .u64 0), (.int .u64 0), (.int .u64 0), (.int .u64 0), (.int .u64 0), (.int .u64 0), (.int .u64 0), (.int .u64 0), (.int .u64 0), (.int .u64 0), (.int .u64 0), (.int .u64 0), (.int .u64 0), (.int .u64 0), (.int .u64 0), (.int .u64 0), (.int .u64 0), (.int .u64 0), (.int .u64 0), (.int .u64 0), (.int .u64 0), (.int .u64 0), (.int .u64 0), (.int .u64 0), (.int .u64 0), (.int .u64 0), (.int .u64 0), (.int .u64 0), (.int .u64 0), (.int .u64 0), (.int .u64 0), (.int .u64 0), (.int .u64 0), (.int .u64 0), (.int .u64 0), (.int .u64 0), (.int .u64 0), (.int .u64 0), (.int .u64 0), (.int .u64 0), (.int .u64 0), (.int .u64 0), (.int .u64 0), (.int .u64 0), (.int .u64 0), (.int .u64 0), (.int .u64 0), (.int .u64 0), (.int .u64 0), (.int .u64 0), (.int .u64 0), (.int .u64 0), (.int .u64 0), (.int .u64 0), (.int .u64 0), (.int .u64 0), (.int .u64 0), (.int .u64 0), (.int .u64 0), (.int .u64 0), (.int .u64 0), (.int .u64 0), (.int .u64 0), (.int .u64 0), (.int .u64 0), (.int .u64 0), (.int .u64 0), (.int .u64 0), (.int .u64 0), (.int .u64 0), (.int .u64 0), (.int .u64 0), (.int .u64 0), (.int .u64 0), (.int .u64 0), (.int .u64 0), (.int .u64 0), (.int .u64 0), (.int .u64 0), (.int .u64 0), (.int .u64 0), (.int .u64 0), (.int .u64 0), (.int .u64 0), (.int .u64 0), (.int .u64 0), (.int .u64 0), (.int .u64 0), (.int .u64 0), (.int .u64 0), (.int .u64 0), (.int .u64 0), (.int .u64 0), (.int .u64 0), (.int .u64 0), (.int .u64 0), (.int .u64 0), (.int .u64 0), (.int .u64 0), (.int .u64 0), (.int .u64 0), (.int .u64 0), (.int .u64 0), (.int .u64 0), (.int .u64 0), (.int .u64 0), (.int .u64 0), (.int .u64 0), (.int .u64 0), (.int .u64 0), (.int .u64 0), (.int .u64 0), (.int .u64 0), (.int .u64 0), (.int .u64 0), (.int .u64 0), (.int .u64 0), (.int .u64 0), (.int .u64 0), (.int .u64 0), (.int .u64 0), (.int .u64 0), (.int .u64 0), (.int .u64 0), (.int .u64 0), (.int .u64 0), (.int .u64 0), (.int .u64 0), (.int .u64 0), (.int .u64 0), (.int .u64 0), (.int .u64 0), (.int .u64 0), (.int .u64 0), (.int .u64 0), (.int .u64 0), (.int .u64 0), (.int .u64 0), (.int .u64 0), (.int .u64 0), (.int .u64 0), (.int .u64 0), (.int .u64 0), (.int .u64 0), (.int .u64 0), (.int .u64 0), (.int .u64 0), (.int .u64 0), (.int .u64 0), (.int .u64 0), (.int .u64 0), (.int .u64 0), (.int .u64 0), (.int .u64 0), (.int .u64 0), (.int .u64 0), (.int .u64 0), (.int .u64 0), (.int .u64 0), (.int .u64 0), (.int .u64 0), (.int .u64 0), (.int .u64 0), (.int .u64 0), (.int .u64 0), (.int .u64 0), (.int .u64 0), (.int .u64 0), (.int .u64 0), (.int .u64 0), (.int .u64 0), (.int .u64 0), (.int .u64 0), (.int .u64 0), (.int .u64 0), (.int .u64 0), (.int .u64 0), (.int .u64 0), (.int .u64 0), (.int .u64 0), (.int .u64 0), (.int .u64 0), (.int .u64 0), (.int .u64 0), (.int .u64 0), (.int .u64 0), (.int .u64 0), (.int .u64 0), (.int .u64 0), (.int .u64 0), (.int .u64 0), (.int .u64 0), (.int .u64 0), (.int .u64 0), (.int .u64 0), (.int .u64 0), (.int .u64 0), (.int .u64 0), (.int .u64 0), (.int .u64 0), (.int .u64 0), (.int .u64 0), (.int .u64 0), (.int .u64 0), (.int .u64 0), (.int .u64 0), (.int .u64 0), (.int .u64 0), (.int .u64 0), (.int .u64 0), (.int .u64 0), (.int .u64 0), (.int .u64 0), (.int .u64 0), (.int .u64 0), (.int .u64 0), (.int .u64 0), (.int .u64 0), (.int .u64 0), (.int .u64 0), (.int .u64 0), (.int .u64 0), (.int .u64 0), (.int .u64 0), (.int .u64 0), (.int .u64 0), (.int .u64 0), (.int .u64 0), (.int .u64 0), (.int .u64 0), (.int .u64 0), (.int .u64 0), (.int .u64 0), (.int .u64 0), (.int .u64 0), (.int .u64 0), (.int .u64 0), (.int .u64 0), (.int .u64 0), (.int .u64 0), (.int .u64 0), (.int .u64 0), (.int .u64 0), (.int .u64 0), (.int .u64 0), (.int .u64 0), (.int .u64 0), (.int .u64 0), (.int .u64 0), (.int .u64 0), (.int .u64 0), (.int .u64 0), (.int .u64 0), (.int .u64 0), (.int .u64 0), (.int .u64 0), (.int .u64 0), (.int .u64 0), (.int .u64 0), (.int .u64 0), (.int .u64 0), (.int .u64 0), (.int .u64 0), (.int .u64 0), (.int .u64 0), (.int .u64 0), (.int .u64 0), (.int .u64 0), (.int .u64 0), (.int .u64 0), (.int .u64 0), (.int .u64 0), (.int .u64 0), (.int .u64 0), (.int .u64 0), (.int .u64 0), (.int .u64 0), (.int .u64 0), (.int .u64 0), (.int .u64 0)]), sh := shCells 1392 }
def ty198 : Ty := { und := (.struct #[{ name := "delta", type := 3, offset := 0, embedded := false, tag := "", pkgPath := "internal/strconv", byteOffset := 0 }, { name := "cutoff", type := 9, offset := 1, embedded := false, tag := "", pkgPath := "internal/strconv", byteOffset := 8 }]), size := 2, bytes := 24, zero := (.agg #[(.int .i64 0), (.string ByteArray.empty)]), sh := sh_internal_strconv_leftCheat }
def ty199 : Ty := { und := (.slice 198), size := 1, bytes := 24, zero := (.slice none 0 0), sh := shSl }
def ty201 : Ty := { und := (.array 64 5), size := 64, bytes := 64, zero := (.agg #[(.int .u8 0), (.int .u8 0), (.int .u8 0), (.int .u8 0), (.int .u8 0), (.int .u8 0), (.int .u8 0), (.int .u8 0), (.int .u8 0), (.int .u8 0), (.int .u8 0), (.int .u8 0), (.int .u8 0), (.int .u8 0), (.int .u8 0), (.int .u8 0), (.int .u8 0), (.int .u8 0), (.int .u8 0), (.int .u8 0), (.int .u8 0), (.int .u8 0), (.int .u8 0), (.int .u8 0), (.int .u8 0), (.int .u8 0), (.int .u8 0), (.int .u8 0), (.int .u8 0), (.int .u8 0), (.int .u8 0), (.int .u8 0), (.int .u8 0), (.int .u8 0), (.int .u8 0), (.int .u8 0), (.int .u8 0), (.int .u8 0), (.int .u8 0), (.int .u8 0), (.int .u8 0), (.int .u8 0), (.int .u8 0), (.int .u8 0), (.int .u8 0), (.int .u8 0), (.int .u8 0), (.int .u8 0), (.int .u8 0), (.int .u8 0), (.int .u8 0), (.int .u8 0), (.int .u8 0), (.int .u8 0), (.int .u8 0), (.int .u8 0), (.int .u8 0), (.int .u8 0), (.int .u8 0), (.int .u8 0), (.int .u8 0), (.int .u8 0), (.int .u8 0), (.int .u8 0)]), sh := shCells 64 }
def tyRows : List (List (Option Ty)) := [[some ty0, none, some ty2, some ty3, some ty4, some ty5, none, none, none, some ty9, none, none, some ty12, none, none, none],
  [none, none, none, none, some ty20, some ty21, none, some ty23, some ty24, none, none, none, none, some ty29, none, some ty31],
  [none, none, some ty34, none, none, none, none, none, none, none, some ty42, none, none, some ty45, some ty46, none],
  [some ty48, none, none, none, some ty52, none, none, some ty55, none, none, none, some ty59, none, none, some ty62, none],
  [none, none, none, none, none, none, some ty70, none, none, none, some ty74, none, none, none, some ty78, none],
  [none, some ty81, none, some ty83, none, some ty85, none, none, some ty88, none, some ty90, none, some ty92, none, some ty94, none],
  [none, none, none, none, some ty100, none, some ty102, none, none, some ty105, none, none, some ty108, none, some ty110, none],
  [none, some ty113, none, none, some ty116, none, some ty118, none, some ty120, none, some ty122, none, none, none, none, none],
  [none, some ty129, none, some ty131, none, none, some ty134, some ty135, none, some ty137, none, some ty139, none, some ty141, some ty142, none],
  [some ty144, none, none, some ty147, none, some ty149, none, none, some ty152, none, some ty154, none, some ty156, none, none, some ty159],
  [none, none, none, some ty163, some ty164, none, none, some ty167, none, none, none, none, none, none, some ty174, none],
  [some ty176, some ty177, none, none, none, none, none, none, none, none, none, some ty187, none, some ty189, some ty190, none],
  [none, none, some ty194, some ty195, none, none, some ty198, some ty199, none, some ty201]]
def tyAt (t : Nat) : Option Ty := match nth tyRows (t / 16) with
  | some r => match nth r (t % 16) with
    | some e => e
    | none => none
  | none => none
def fnRows : List (List Bool) := [[false, false, true, true, true, true, true, true, true, true, true, true, true, true, true, true],
  [true, true, true, true, true, true, true, true, true, true, true, false, true, true, true, true],
  [true, false, true, true, true, true, true, true, true, true, true, true, true, true, true, true],
  [true, true, true, true, true, true, true, true, true, true, true, true, true, true, true, true],
  [true, true, true, true, true, true, true, true, true, true, true, true, true, true, true, true],
  [true, true, true, true, true, true, true, true, true, true, false, true, true, false, false, true],
  [true, true, true, true, true, true, true, true, true, true, true, true, true, true, true, false],
  [true, true, true, true, true, false, true, true, true, true, true, false, false, false, true, true],
  [true, true, true, true, true, true, true, true, true, true, true, true, true, true, true, true],
  [true, true, true, true, true, true, true, true, true, true, true, false, false, false, false, false],
  [false, false, false, false, false, false, false, false, false, false, false, false, false, false, false, false],
  [false, false, false, false, false, false, false, false, false, false, false, false, false, false, false, false],
  [false, false, true]]
def fnAt (g : Nat) : Bool := match nth fnRows (g / 16) with
  | some r => match nth r (g % 16) with
    | some e => e
    | none => false
  | none => false
def extAt (g : Nat) : Option (Array Value → Sem Value) := cond (Nat.beq g 27) (some Extern.MathFloatBits.float64bits) (cond (Nat.beq g 33) (some Extern.MathFloatBits.float64frombits) (cond (Nat.beq g 93) (some Extern.MathFloatBits.float32bits) (cond (Nat.beq g 94) (some Extern.MathFloatBits.float64bits) (cond (Nat.beq g 111) (some Extern.MathFloatBits.float32frombits) (cond (Nat.beq g 117) (some Extern.MathFloatBits.float64frombits) (cond (Nat.beq g 123) (some Extern.AbiNoEscape.same) (cond (Nat.beq g 125) (some Extern.BytealgIndexByte.indexByte) (none))))))))
def tb : Tb := { ty := tyAt, call := fnAt, ext := extAt }

abbrev n_firebreaklaw05_FltDoes : Nat := 4
abbrev n_firebreaklaw05_FltFollows : Nat := 5
abbrev n_firebreaklaw05_FltWhole : Nat := 6
abbrev n_firebreaklaw05_fixed : Nat := 7
abbrev n_flt_Do : Nat := 8
abbrev n_firebreakref05_Do : Nat := 9
abbrev n_firebreaklaw05_do : Nat := 10
abbrev n_firebreaklaw05_isNaN : Nat := 11
abbrev n_flt_Parse : Nat := 12
abbrev n_flt_Print : Nat := 13
abbrev n_flt_float : Nat := 14
abbrev n_flt_bits : Nat := 15
abbrev n_flt_whole : Nat := 16
abbrev n_firebreakref05_add : Nat := 17
abbrev n_firebreakref05_isNaN : Nat := 18
abbrev n_firebreakref05_mul : Nat := 19
abbrev n_firebreakref05_div : Nat := 20
abbrev n_firebreakref05_below : Nat := 21
abbrev n_firebreakref05_float : Nat := 22
abbrev n_firebreakref05_whole : Nat := 23
abbrev n_strings_CutPrefix : Nat := 24
abbrev n_strconv_ParseUint : Nat := 25
abbrev n_strconv_ParseFloat : Nat := 26
abbrev n_flt_sixteen : Nat := 28
abbrev n_strings_Cut : Nat := 29
abbrev n_strconv_FormatFloat : Nat := 30
abbrev n_strconv_Atoi : Nat := 31
abbrev n_strconv_Itoa : Nat := 32
abbrev n_firebreakref05_parts : Nat := 34
abbrev n_firebreakref05_shift : Nat := 35
abbrev n_firebreakref05_of : Nat := 36
abbrev n_firebreakref05_rounded : Nat := 37
abbrev n_firebreakref05_sum : Nat := 38
abbrev n_firebreakref05_compare : Nat := 39
abbrev n_firebreakref05_less : Nat := 40
abbrev n_firebreakref05_product : Nat := 41
abbrev n_firebreakref05_times : Nat := 42
abbrev n_internal_stringslite_CutPrefix : Nat := 43
abbrev n_strconv_toError : Nat := 45
abbrev n_internal_strconv_ParseFloat : Nat := 46
abbrev n_internal_stringslite_Cut : Nat := 49
abbrev n_internal_strconv_FormatFloat : Nat := 50
abbrev n_internal_strconv_Atoi : Nat := 51
abbrev n_internal_strconv_Itoa : Nat := 52
abbrev n_firebreakref05_trim : Nat := 53
abbrev n_firebreakref05_bits : Nat := 54
abbrev n_firebreakref05_small : Nat := 55
abbrev n_firebreakref05_low : Nat := 56
abbrev n_internal_stringslite_HasPrefix : Nat := 57
abbrev n_internal_strconv_lower : Nat := 58
abbrev n_internal_strconv_underscoreOK : Nat := 59
abbrev n_internal_strconv_parseFloatPrefix : Nat := 64
abbrev n_internal_stringslite_Index : Nat := 72
abbrev n_internal_strconv_ftoa32 : Nat := 73
abbrev n_internal_strconv_ftoa64 : Nat := 74
abbrev n_internal_strconv_ParseInt : Nat := 75
abbrev n_internal_strconv_FormatInt : Nat := 76
abbrev n_internal_strconv_atof32 : Nat := 79
abbrev n_internal_strconv_atof64 : Nat := 80
abbrev n_internal_strconv_small : Nat := 81
abbrev n_internal_strconv_numDigits : Nat := 82
abbrev n_internal_strconv_formatBase10 : Nat := 83
abbrev n_internal_strconv_formatBits : Nat := 84
abbrev n_math_bits_Mul64 : Nat := 86
abbrev n_internal_stringslite_IndexByte : Nat := 89
abbrev n_internal_bytealg_Cutover : Nat := 91
abbrev n_internal_bytealg_IndexRabinKarp_string : Nat := 92
abbrev n_internal_strconv_fmtB : Nat := 95
abbrev n_internal_strconv_fmtX : Nat := 96
abbrev n_internal_strconv_fmtEFG : Nat := 97
abbrev n_math_bits_Len64 : Nat := 98
abbrev n_internal_strconv_setDigits : Nat := 100
abbrev n_internal_strconv_log10Pow2 : Nat := 101
abbrev n_internal_strconv_fixedWidthFloat : Nat := 102
abbrev n_internal_strconv_decimal_Assign : Nat := 103
abbrev n_internal_strconv_decimal_Shift : Nat := 104
abbrev n_internal_strconv_decimal_Round : Nat := 105
abbrev n_internal_strconv_shortFloat_float64 : Nat := 106
abbrev n_internal_strconv_special : Nat := 107
abbrev n_internal_strconv_readFloat : Nat := 108
abbrev n_internal_strconv_atofHex : Nat := 109
abbrev n_internal_strconv_decimal_set : Nat := 114
abbrev n_internal_strconv_decimal_floatBits : Nat := 115
abbrev n_internal_strconv_bool2_uint64 : Nat := 116
abbrev n_internal_strconv_atof64exact : Nat := 118
abbrev n_internal_strconv_parseFloat64 : Nat := 119
abbrev n_internal_strconv_bool2_int : Nat := 120
abbrev n_internal_strconv_skewed : Nat := 129
abbrev n_internal_strconv_prescale : Nat := 130
abbrev n_internal_strconv_log2Pow10 : Nat := 131
abbrev n_internal_strconv_uscale : Nat := 132
abbrev n_internal_strconv_unrounded_nudge : Nat := 133
abbrev n_internal_strconv_unrounded_ceil : Nat := 134
abbrev n_internal_strconv_unrounded_floor : Nat := 135
abbrev n_internal_strconv_unrounded_round : Nat := 136
abbrev n_internal_strconv_commonPrefixLenIgnoreCase : Nat := 145
abbrev n_internal_strconv_inf : Nat := 146
abbrev n_internal_strconv_nan : Nat := 147
end Lf

/-
  By program: what the functions do.
-/
set_option autoImplicit false
set_option linter.unusedVariables false
namespace Lf
open Go

def firebreaklaw05_FltDoes_w (P : Program) (op : Int) (b : Int) (c : Int) (Q : (Bool → (Hp → Prop))) (h : Hp) : Prop :=
 Call2 P n_flt_Do [(.int .i64 op), (.int .i64 b), (.int .i64 c)] (shInt .i64) (shInt .i64) (fun r r1 h1 =>
 Call2 P n_firebreakref05_Do [(.int .i64 op), (.int .i64 b), (.int .i64 c)] (shInt .i64) (shInt .i64) (fun r2 r3 h2 =>
 LetW ((r != r2) || (r1 != r3)) fun y =>
 (if y = true then
 Q false h2
 else
 LoopW1 (α1 := Int) (fun again k h3 =>
 (if (decide (k ≤ (22 : Int))) = true then
 Call2 P n_flt_Do [(.int .i64 k), (.int .i64 b), (.int .i64 c)] (shInt .i64) (shInt .i64) (fun r4 r5 h4 =>
 Call2 P n_firebreakref05_Do [(.int .i64 k), (.int .i64 b), (.int .i64 c)] (shInt .i64) (shInt .i64) (fun r6 r7 h5 =>
 LetW ((r4 != r6) || (r5 != r7)) fun y1 =>
 (if y1 = true then
 Q false h5
 else
 Call2 P n_flt_Do [(.int .i64 k), (.int .i64 c), (.int .i64 b)] (shInt .i64) (shInt .i64) (fun r8 r9 h6 =>
 Call2 P n_firebreakref05_Do [(.int .i64 k), (.int .i64 c), (.int .i64 b)] (shInt .i64) (shInt .i64) (fun r10 r11 h7 =>
 LetW ((r8 != r10) || (r9 != r11)) fun y2 =>
 (if y2 = true then
 Q false h7
 else
 again (IntKind.wrap .i64 (k + (1 : Int))) h7)) h6) h5)) h4) h3
 else
 CallT P n_firebreaklaw05_fixed [] shBool (fun r4 h4 =>
 Q r4 h4) h3)) (14 : Int) h2)) h1) h

def firebreaklaw05_FltFollows_w (P : Program) (a : Int) (b : Int) (Q : (Bool → (Hp → Prop))) (h : Hp) : Prop :=
 CallT P n_firebreaklaw05_do [(.int .i64 (15 : Int)), (.int .i64 a), (.int .i64 b)] (shInt .i64) (fun r h1 =>
 CallT P n_firebreaklaw05_do [(.int .i64 (16 : Int)), (.int .i64 a), (.int .i64 b)] (shInt .i64) (fun r1 h2 =>
 CallT P n_firebreaklaw05_do [(.int .i64 (17 : Int)), (.int .i64 a), (.int .i64 b)] (shInt .i64) (fun r2 h3 =>
 CallT P n_firebreaklaw05_do [(.int .i64 (18 : Int)), (.int .i64 a), (.int .i64 b)] (shInt .i64) (fun r3 h4 =>
 CallT P n_firebreaklaw05_do [(.int .i64 (15 : Int)), (.int .i64 b), (.int .i64 a)] (shInt .i64) (fun r4 h5 =>
 EffC (some (!(r != r4))) (CallT P n_firebreaklaw05_do [(.int .i64 (17 : Int)), (.int .i64 b), (.int .i64 a)] (shInt .i64)) (fun r5 h6 =>
 LetW ((r != r4) || (r2 != r5)) fun y =>
 EffC (some (!y)) (CallT P n_firebreaklaw05_isNaN [(.int .i64 b)] shBool) (fun r6 h7 =>
 EffC (some ((!y) && (!r6))) (CallT P n_firebreaklaw05_do [(.int .i64 (15 : Int)), (.int .i64 a), (.int .i64 (bitsI .xor .i64 b (-9223372036854775808 : Int)))] (shInt .i64)) (fun r7 h8 =>
 LetW ((!r6) && (r1 != r7)) fun y1 =>
 LetW (y || y1) fun y2 =>
 (if y2 = true then
 Q false h8
 else
 NewW [(.int .i64 r), (.int .i64 r1), (.int .i64 r2), (.int .i64 r3)] (fun a1 h9 =>
 LoopW1 (α1 := Int) (fun again t56 h10 =>
 (if (decide (t56 < (4 : Int))) = true then
 ((InB (some a1) 4 t56) ∧ LdW none (shInt .i64) h10 (sat (some a1) 1 t56) fun x =>
 CallT P n_firebreaklaw05_isNaN [(.int .i64 x)] shBool (fun r8 h11 =>
 LetW (r8 && (x != (9221120237041090560 : Int))) fun y3 =>
 EffC (some (!y3)) (CallT P n_firebreaklaw05_isNaN [(.int .i64 a)] shBool) (fun r9 h12 =>
 EffC (some ((!y3) && (!r9))) (CallT P n_firebreaklaw05_isNaN [(.int .i64 b)] shBool) (fun r10 h13 =>
 LetW (r9 || r10) fun y4 =>
 LetW (y4 && (x != (9221120237041090560 : Int))) fun y5 =>
 LetW (y3 || y5) fun y6 =>
 (if y6 = true then
 Q false h13
 else
 again (IntKind.wrap .i64 (t56 + (1 : Int))) h13)) h12) h11) h10)
 else
 CallT P n_firebreaklaw05_do [(.int .i64 (19 : Int)), (.int .i64 a), (.int .i64 b)] (shInt .i64) (fun r8 h11 =>
 CallT P n_firebreaklaw05_do [(.int .i64 (19 : Int)), (.int .i64 b), (.int .i64 a)] (shInt .i64) (fun r9 h12 =>
 LetW ((decide (r8 < (0 : Int))) || (decide (r9 < (0 : Int)))) fun y3 =>
 LetW (y3 || (decide ((IntKind.wrap .i64 (r8 + r9)) > (1 : Int)))) fun y4 =>
 EffC (some (!y4)) (CallT P n_firebreaklaw05_isNaN [(.int .i64 a)] shBool) (fun r10 h13 =>
 EffC (some ((!y4) && (!r10))) (CallT P n_firebreaklaw05_isNaN [(.int .i64 b)] shBool) (fun r11 h14 =>
 LetW (r10 || r11) fun y5 =>
 LetW (y5 && (decide ((IntKind.wrap .i64 (r8 + r9)) > (0 : Int)))) fun y6 =>
 LetW (y4 || y6) fun y7 =>
 (if y7 = true then
 Q false h14
 else
 CallT P n_firebreaklaw05_isNaN [(.int .i64 a)] shBool (fun r12 h15 =>
 (if r12 = true then
 CallT P n_firebreaklaw05_do [(.int .i64 (21 : Int)), (.int .i64 a), (.int .i64 b)] (shInt .i64) (fun r13 h16 =>
 EffC (some (r13 == (0 : Int))) (CallT P n_firebreaklaw05_fixed [] shBool) (fun r14 h17 =>
 LetW ((r13 == (0 : Int)) && r14) fun y8 =>
 Q y8 h17) h16) h15
 else
 CallT P n_firebreaklaw05_do [(.int .i64 (17 : Int)), (.int .i64 a), (.int .i64 (4607182418800017408 : Int))] (shInt .i64) (fun r13 h16 =>
 EffC (some (!(r13 != a))) (CallT P n_firebreaklaw05_do [(.int .i64 (18 : Int)), (.int .i64 a), (.int .i64 (4607182418800017408 : Int))] (shInt .i64)) (fun r14 h17 =>
 LetW ((r13 != a) || (r14 != a)) fun y8 =>
 EffC (some (!y8)) (CallT P n_firebreaklaw05_do [(.int .i64 (15 : Int)), (.int .i64 a), (.int .i64 (-9223372036854775808 : Int))] (shInt .i64)) (fun r15 h18 =>
 LetW (y8 || (r15 != a)) fun y9 =>
 (if y9 = true then
 Q false h18
 else
 CallT P n_firebreaklaw05_isNaN [(.int .i64 b)] shBool (fun r16 h19 =>
 LetW ((!r16) && ((bitsI .andNot .i64 a (-9223372036854775808 : Int)) != (9218868437227405312 : Int))) fun y10 =>
 LetW (y10 && ((bitsI .andNot .i64 b (-9223372036854775808 : Int)) != (9218868437227405312 : Int))) fun y11 =>
 EffC (some y11) (CallT P n_firebreaklaw05_do [(.int .i64 (19 : Int)), (.int .i64 r1), (.int .i64 (0 : Int))] (shInt .i64)) (fun r17 h20 =>
 LetW (y11 && (!((r8 == (1 : Int)) == (r17 == (1 : Int))))) fun y12 =>
 (if y12 = true then
 Q false h20
 else
 CallT P n_firebreaklaw05_fixed [] shBool (fun r18 h21 =>
 Q r18 h21) h20)) h19) h18)) h17) h16) h15)) h14)) h13) h12) h11) h10)) (0 : Int) h9) h8)) h7) h6) h5) h4) h3) h2) h1) h

def firebreaklaw05_FltWhole_w (P : Program) (n : Int) (m : Int) (Q : (Bool → (Hp → Prop))) (h : Hp) : Prop :=
 CallT P n_firebreaklaw05_do [(.int .i64 (20 : Int)), (.int .i64 n), (.int .i64 (0 : Int))] (shInt .i64) (fun r h1 =>
 CallT P n_firebreaklaw05_do [(.int .i64 (20 : Int)), (.int .i64 m), (.int .i64 (7 : Int))] (shInt .i64) (fun r1 h2 =>
 CallT P n_firebreaklaw05_do [(.int .i64 (21 : Int)), (.int .i64 r), (.int .i64 (0 : Int))] (shInt .i64) (fun r2 h3 =>
 LetW ((decide (n ≥ (-9007199254740992 : Int))) && (decide (n ≤ (9007199254740992 : Int)))) fun y =>
 LetW (y && (r2 != n)) fun y1 =>
 (if y1 = true then
 Q false h3
 else
 JoinW1 (α1 := Int) (fun k =>
 (if (decide (r2 < n)) = true then
 k (IntKind.wrap .u64 (IntKind.wrap .i64 (n - r2))) h3
 else
 k (IntKind.wrap .u64 (IntKind.wrap .i64 (r2 - n))) h3))
 (fun off h4 =>
 EffC (some ((!(decide (off > (512 : Int)))) && (decide (n ≤ m)))) (CallT P n_firebreaklaw05_do [(.int .i64 (19 : Int)), (.int .i64 r1), (.int .i64 r)] (shInt .i64)) (fun r3 h5 =>
 LetW ((decide (n ≤ m)) && (r3 == (1 : Int))) fun y2 =>
 LetW ((decide (off > (512 : Int))) || y2) fun y3 =>
 LetW ((decide (n < m)) && (decide (n ≥ (-9007199254740992 : Int)))) fun y4 =>
 LetW (y4 && (decide (m ≤ (9007199254740992 : Int)))) fun y5 =>
 EffC (some ((!y3) && y5)) (CallT P n_firebreaklaw05_do [(.int .i64 (19 : Int)), (.int .i64 r), (.int .i64 r1)] (shInt .i64)) (fun r4 h6 =>
 LetW (y5 && (r4 != (1 : Int))) fun y6 =>
 LetW (y3 || y6) fun y7 =>
 (if y7 = true then
 Q false h6
 else
 CallT P n_firebreaklaw05_do [(.int .i64 (20 : Int)), (.int .i64 n), (.int .i64 m)] (shInt .i64) (fun r5 h7 =>
 EffC (some (r5 == r)) (CallT P n_firebreaklaw05_do [(.int .i64 (21 : Int)), (.int .i64 r), (.int .i64 m)] (shInt .i64)) (fun r6 h8 =>
 LetW ((r5 == r) && (r6 == r2)) fun y8 =>
 EffC (some y8) (CallT P n_firebreaklaw05_fixed [] shBool) (fun r7 h9 =>
 LetW (y8 && r7) fun y9 =>
 Q y9 h9) h8) h7) h6)) h5) h4))) h2) h1) h

def firebreaklaw05_fixed_w (P : Program)  (Q : (Bool → (Hp → Prop))) (h : Hp) : Prop :=
 Call2 P n_flt_Do [(.int .i64 (15 : Int)), (.int .i64 (4607182418800017408 : Int)), (.int .i64 (4607182418800017408 : Int))] (shInt .i64) (shInt .i64) (fun r r1 h1 =>
 Call2 P n_flt_Do [(.int .i64 (18 : Int)), (.int .i64 (0 : Int)), (.int .i64 (0 : Int))] (shInt .i64) (shInt .i64) (fun r2 r3 h2 =>
 Call2 P n_flt_Do [(.int .i64 (3 : Int)), (.int .i64 (1 : Int)), (.int .i64 (1 : Int))] (shInt .i64) (shInt .i64) (fun r4 r5 h3 =>
 Call2 P n_flt_Parse [(.string ⟨#[49, 46, 53, 101, 48]⟩)] (shInt .i64) (shInt .i64) (fun r6 r7 h4 =>
 Call2 P n_flt_Parse [(.string ⟨#[49, 46, 53, 48, 101, 48]⟩)] (shInt .i64) (shInt .i64) (fun r8 r9 h5 =>
 LetW ((r == (4611686018427387904 : Int)) && (r1 == (0 : Int))) fun y =>
 LetW (y && (r2 == (9221120237041090560 : Int))) fun y1 =>
 LetW (y1 && (r3 == (0 : Int))) fun y2 =>
 LetW (y2 && (r5 == (9 : Int))) fun y3 =>
 LetW (y3 && (r6 == (4609434218613702656 : Int))) fun y4 =>
 LetW (y4 && (r7 == (0 : Int))) fun y5 =>
 LetW (y5 && (r9 == (4 : Int))) fun y6 =>
 EffC (some y6) (CallT P n_flt_Print [(.int .i64 r6)] shStr) (fun r10 h6 =>
 LetW (y6 && ((ByteArray.toList r10) == (ByteArray.toList ⟨#[49, 46, 53, 101, 48]⟩))) fun y7 =>
 Q y7 h6) h5) h4) h3) h2) h1) h

def flt_Do_w (P : Program) (op : Int) (b : Int) (c : Int) (Q : (Int → (Int → (Hp → Prop)))) (h : Hp) : Prop :=
 CallT P n_flt_float [(.int .i64 b)] (shFlt .f64) (fun r h1 =>
 CallT P n_flt_float [(.int .i64 c)] (shFlt .f64) (fun r1 h2 =>
 (if (op == (15 : Int)) = true then
 SemE P (binS .add 34 (.tmp 17) (.tmp 18) (.float .f64 r) (.float .f64 r1)) (shFlt .f64) (fun r2 h3 =>
 CallT P n_flt_bits [(.float .f64 r2)] (shInt .i64) (fun r3 h4 =>
 Q r3 (0 : Int) h4) h3) h2
 else
 (if (op == (16 : Int)) = true then
 SemE P (binS .sub 34 (.tmp 23) (.tmp 24) (.float .f64 r) (.float .f64 r1)) (shFlt .f64) (fun r2 h3 =>
 CallT P n_flt_bits [(.float .f64 r2)] (shInt .i64) (fun r3 h4 =>
 Q r3 (0 : Int) h4) h3) h2
 else
 (if (op == (17 : Int)) = true then
 SemE P (binS .mul 34 (.tmp 29) (.tmp 30) (.float .f64 r) (.float .f64 r1)) (shFlt .f64) (fun r2 h3 =>
 CallT P n_flt_bits [(.float .f64 r2)] (shInt .i64) (fun r3 h4 =>
 Q r3 (0 : Int) h4) h3) h2
 else
 (if (op == (18 : Int)) = true then
 SemE P (binS .quo 34 (.tmp 35) (.tmp 36) (.float .f64 r) (.float .f64 r1)) (shFlt .f64) (fun r2 h3 =>
 CallT P n_flt_bits [(.float .f64 r2)] (shInt .i64) (fun r3 h4 =>
 Q r3 (0 : Int) h4) h3) h2
 else
 (if (op == (19 : Int)) = true then
 SemV none P (binS .lss 34 (.tmp 41) (.tmp 42) (.float .f64 r) (.float .f64 r1)) shBool h2 fun x =>
 (if x = true then
 Q (1 : Int) (0 : Int) h2
 else
 Q (0 : Int) (0 : Int) h2)
 else
 (if (op == (20 : Int)) = true then
 SemV none P (convert 2 34 (.int .i64 b)) (shFlt .f64) h2 fun x =>
 CallT P n_flt_bits [(.float .f64 x)] (shInt .i64) (fun r2 h3 =>
 Q r2 (0 : Int) h3) h2
 else
 (if (op == (21 : Int)) = true then
 CallT P n_flt_whole [(.float .f64 r)] (shInt .i64) (fun r2 h3 =>
 Q r2 (0 : Int) h3) h2
 else
 Q (0 : Int) (9 : Int) h2)))))))) h1) h

def firebreakref05_Do_w (P : Program) (op : Int) (b : Int) (c : Int) (Q : (Int → (Int → (Hp → Prop)))) (h : Hp) : Prop :=
 (if (op == (15 : Int)) = true then
 CallT P n_firebreakref05_add [(.int .u64 (IntKind.wrap .u64 b)), (.int .u64 (IntKind.wrap .u64 c))] (shInt .u64) (fun r h1 =>
 Q (IntKind.wrap .i64 r) (0 : Int) h1) h
 else
 (if (op == (16 : Int)) = true then
 CallT P n_firebreakref05_isNaN [(.int .u64 (IntKind.wrap .u64 c))] shBool (fun r h1 =>
 (if r = true then
 Q (9221120237041090560 : Int) (0 : Int) h1
 else
 CallT P n_firebreakref05_add [(.int .u64 (IntKind.wrap .u64 b)), (.int .u64 (bitsI .xor .u64 (IntKind.wrap .u64 c) (9223372036854775808 : Int)))] (shInt .u64) (fun r1 h2 =>
 Q (IntKind.wrap .i64 r1) (0 : Int) h2) h1)) h
 else
 (if (op == (17 : Int)) = true then
 CallT P n_firebreakref05_mul [(.int .u64 (IntKind.wrap .u64 b)), (.int .u64 (IntKind.wrap .u64 c))] (shInt .u64) (fun r h1 =>
 Q (IntKind.wrap .i64 r) (0 : Int) h1) h
 else
 (if (op == (18 : Int)) = true then
 CallT P n_firebreakref05_div [(.int .u64 (IntKind.wrap .u64 b)), (.int .u64 (IntKind.wrap .u64 c))] (shInt .u64) (fun r h1 =>
 Q (IntKind.wrap .i64 r) (0 : Int) h1) h
 else
 (if (op == (19 : Int)) = true then
 CallT P n_firebreakref05_below [(.int .u64 (IntKind.wrap .u64 b)), (.int .u64 (IntKind.wrap .u64 c))] (shInt .i64) (fun r h1 =>
 Q r (0 : Int) h1) h
 else
 (if (op == (20 : Int)) = true then
 CallT P n_firebreakref05_float [(.int .i64 b)] (shInt .u64) (fun r h1 =>
 Q (IntKind.wrap .i64 r) (0 : Int) h1) h
 else
 (if (op == (21 : Int)) = true then
 CallT P n_firebreakref05_whole [(.int .u64 (IntKind.wrap .u64 b))] (shInt .i64) (fun r h1 =>
 Q r (0 : Int) h1) h
 else
 Q (0 : Int) (9 : Int) h)))))))

def firebreaklaw05_do_w (P : Program) (op : Int) (b : Int) (c : Int) (Q : (Int → (Hp → Prop))) (h : Hp) : Prop :=
 Call2 P n_flt_Do [(.int .i64 op), (.int .i64 b), (.int .i64 c)] (shInt .i64) (shInt .i64) (fun r r1 h1 =>
 Q r h1) h

def firebreaklaw05_isNaN_w (P : Program) (a : Int) (Q : (Bool → (Hp → Prop))) (h : Hp) : Prop :=
 Q (decide ((bitsI .andNot .u64 (IntKind.wrap .u64 a) (9223372036854775808 : Int)) > (9218868437227405312 : Int))) h

def flt_Parse_w (P : Program) (text : ByteArray) (Q : (Int → (Int → (Hp → Prop)))) (h : Hp) : Prop :=
 Call2 P n_strings_CutPrefix [(.string text), (.string ⟨#[110, 97, 110, 58]⟩)] shStr shBool (fun r r1 h1 =>
 JoinW1 (α1 := Int) (fun k =>
 (if r1 = true then
 Call2 P n_strconv_ParseUint [(.string r), (.int .i64 (16 : Int)), (.int .i64 (64 : Int))] (shInt .u64) shLeaf (fun r2 r3 h2 =>
 k r2 h2) h1
 else
 Call2 P n_strconv_ParseFloat [(.string text), (.int .i64 (64 : Int))] (shFlt .f64) shLeaf (fun r2 r3 h2 =>
 SemE P (Extern.MathFloatBits.float64bits #[(.float .f64 r2)]) (shInt .u64) (fun r4 h3 =>
 k r4 h3) h2) h1))
 (fun u h2 =>
 CallT P n_flt_Print [(.int .i64 (IntKind.wrap .i64 u))] shStr (fun r2 h3 =>
 (if (!((ByteArray.toList r2) == (ByteArray.toList text))) = true then
 Q (0 : Int) (4 : Int) h3
 else
 Q (IntKind.wrap .i64 u) (0 : Int) h3)) h2)) h

def flt_Print_w (P : Program) (bits : Int) (Q : (ByteArray → (Hp → Prop))) (h : Hp) : Prop :=
 CallT P n_flt_float [(.int .i64 bits)] (shFlt .f64) (fun r h1 =>
 SemV none P (binS .neq 34 (.tmp 12) (.tmp 13) (.float .f64 r) (.float .f64 r)) shBool h1 fun x =>
 (if x = true then
 CallT P n_flt_sixteen [(.int .u64 (IntKind.wrap .u64 bits))] shStr (fun r1 h2 =>
 ((4 + (ByteArray.size r1)) ≤ 9223372036854775807 ∧ Q ⟨⟨(110 :: (97 :: (110 :: (58 :: r1.data.toList))))⟩⟩ h2)) h1
 else
 SemV none P (binS .gtr 34 (.tmp 20) (.const (.float .f64 9218868437227405311)) (.float .f64 r) (.float .f64 9218868437227405311)) shBool h1 fun x1 =>
 (if x1 = true then
 Q ⟨#[105, 110, 102]⟩ h1
 else
 SemV none P (binS .lss 34 (.tmp 23) (.const (.float .f64 18442240474082181119)) (.float .f64 r) (.float .f64 18442240474082181119)) shBool h1 fun x2 =>
 (if x2 = true then
 Q ⟨#[45, 105, 110, 102]⟩ h1
 else
 CallT P n_strconv_FormatFloat [(.float .f64 r), (.int .u8 (101 : Int)), (.int .i64 (-1 : Int)), (.int .i64 (64 : Int))] shStr (fun r1 h2 =>
 Call3 P n_strings_Cut [(.string r1), (.string ⟨#[101]⟩)] shStr shStr shBool (fun r2 r3 r4 h3 =>
 Call2 P n_strconv_Atoi [(.string r3)] (shInt .i64) shLeaf (fun r5 r6 h4 =>
 (((ByteArray.size r2) + 1) ≤ 9223372036854775807 ∧ CallT P n_strconv_Itoa [(.int .i64 r5)] shStr (fun r7 h5 =>
 (((ByteArray.size ⟨⟨(List.append r2.data.toList [101])⟩⟩) + (ByteArray.size r7)) ≤ 9223372036854775807 ∧ Q ⟨⟨(List.append (List.append r2.data.toList [101]) r7.data.toList)⟩⟩ h5)) h4)) h3) h2) h1)))) h

def flt_float_w (P : Program) (bits : Int) (Q : (Nat → (Hp → Prop))) (h : Hp) : Prop :=
 SemE P (Extern.MathFloatBits.float64frombits #[(.int .u64 (IntKind.wrap .u64 bits))]) (shFlt .f64) (fun r h1 =>
 Q r h1) h

def flt_bits_w (P : Program) (f : Nat) (Q : (Int → (Hp → Prop))) (h : Hp) : Prop :=
 SemV none P (binS .neq 34 (.tmp 3) (.tmp 4) (.float .f64 f) (.float .f64 f)) shBool h fun x =>
 (if x = true then
 Q (9221120237041090560 : Int) h
 else
 SemE P (Extern.MathFloatBits.float64bits #[(.float .f64 f)]) (shInt .u64) (fun r h1 =>
 Q (IntKind.wrap .i64 r) h1) h)

def flt_whole_w (P : Program) (f : Nat) (Q : (Int → (Hp → Prop))) (h : Hp) : Prop :=
 SemV none P (binS .neq 34 (.tmp 4) (.tmp 5) (.float .f64 f) (.float .f64 f)) shBool h fun x =>
 (if x = true then
 Q (0 : Int) h
 else
 SemV none P (binS .geq 34 (.tmp 8) (.const (.float .f64 4890909195324358656)) (.float .f64 f) (.float .f64 4890909195324358656)) shBool h fun x1 =>
 (if x1 = true then
 Q (9223372036854775807 : Int) h
 else
 SemV none P (binS .lss 34 (.tmp 11) (.const (.float .f64 14114281232179134464)) (.float .f64 f) (.float .f64 14114281232179134464)) shBool h fun x2 =>
 (if x2 = true then
 Q (-9223372036854775808 : Int) h
 else
 SemV none P (convert 34 2 (.float .f64 f)) (shInt .i64) h fun x3 =>
 Q x3 h)))

def firebreakref05_add_w (P : Program) (a : Int) (b : Int) (Q : (Int → (Hp → Prop))) (h : Hp) : Prop :=
 CallT P n_firebreakref05_isNaN [(.int .u64 a)] shBool (fun r h1 =>
 EffC (some (!r)) (CallT P n_firebreakref05_isNaN [(.int .u64 b)] shBool) (fun r1 h2 =>
 LetW (r || r1) fun y =>
 LetW (((bitsI .andNot .u64 a (9223372036854775808 : Int)) == (9218868437227405312 : Int)) && ((bitsI .andNot .u64 b (9223372036854775808 : Int)) == (9218868437227405312 : Int))) fun y1 =>
 LetW (y1 && (a != b)) fun y2 =>
 LetW (y || y2) fun y3 =>
 (if y3 = true then
 Q (9221120237041090560 : Int) h2
 else
 (if ((bitsI .andNot .u64 a (9223372036854775808 : Int)) == (9218868437227405312 : Int)) = true then
 Q a h2
 else
 (if ((bitsI .andNot .u64 b (9223372036854775808 : Int)) == (9218868437227405312 : Int)) = true then
 Q b h2
 else
 LetW (((bitsI .andNot .u64 a (9223372036854775808 : Int)) == (0 : Int)) && ((bitsI .andNot .u64 b (9223372036854775808 : Int)) == (0 : Int))) fun y4 =>
 (if y4 = true then
 Q (bitsI .and .u64 a b) h2
 else
 Call2 P n_firebreakref05_parts [(.int .u64 (bitsI .andNot .u64 a (9223372036854775808 : Int)))] (shInt .u64) (shInt .i64) (fun r2 r3 h3 =>
 Call2 P n_firebreakref05_parts [(.int .u64 (bitsI .andNot .u64 b (9223372036854775808 : Int)))] (shInt .u64) (shInt .i64) (fun r4 r5 h4 =>
 CallT P n_firebreakref05_of [(.int .u64 r2)] shSl (fun r6 h5 =>
 CallT P n_firebreakref05_shift [r6.v, (.int .i64 (IntKind.wrap .i64 (r3 - (min2I r3 r5))))] shSl (fun r7 h6 =>
 CallT P n_firebreakref05_of [(.int .u64 r4)] shSl (fun r8 h7 =>
 CallT P n_firebreakref05_shift [r8.v, (.int .i64 (IntKind.wrap .i64 (r5 - (min2I r3 r5))))] shSl (fun r9 h8 =>
 (if ((bitsI .and .u64 a (9223372036854775808 : Int)) == (bitsI .and .u64 b (9223372036854775808 : Int))) = true then
 CallT P n_firebreakref05_sum [r7.v, r9.v] shSl (fun r10 h9 =>
 CallT P n_firebreakref05_rounded [(.int .u64 (bitsI .and .u64 a (9223372036854775808 : Int))), r10.v, (.int .i64 (min2I r3 r5)), (.bool false)] (shInt .u64) (fun r11 h10 =>
 Q r11 h10) h9) h8
 else
 CallT P n_firebreakref05_compare [r7.v, r9.v] (shInt .i64) (fun r10 h9 =>
 (if (r10 == (0 : Int)) = true then
 Q (0 : Int) h9
 else
 (if (r10 == (1 : Int)) = true then
 CallT P n_firebreakref05_less [r7.v, r9.v] shSl (fun r11 h10 =>
 CallT P n_firebreakref05_rounded [(.int .u64 (bitsI .and .u64 a (9223372036854775808 : Int))), r11.v, (.int .i64 (min2I r3 r5)), (.bool false)] (shInt .u64) (fun r12 h11 =>
 Q r12 h11) h10) h9
 else
 CallT P n_firebreakref05_less [r9.v, r7.v] shSl (fun r11 h10 =>
 CallT P n_firebreakref05_rounded [(.int .u64 (bitsI .and .u64 b (9223372036854775808 : Int))), r11.v, (.int .i64 (min2I r3 r5)), (.bool false)] (shInt .u64) (fun r12 h11 =>
 Q r12 h11) h10) h9))) h8)) h7) h6) h5) h4) h3) h2))))) h1) h

def firebreakref05_isNaN_w (P : Program) (a : Int) (Q : (Bool → (Hp → Prop))) (h : Hp) : Prop :=
 Q (decide ((bitsI .andNot .u64 a (9223372036854775808 : Int)) > (9218868437227405312 : Int))) h

def firebreakref05_mul_w (P : Program) (a : Int) (b : Int) (Q : (Int → (Hp → Prop))) (h : Hp) : Prop :=
 LetW ((decide ((bitsI .andNot .u64 a (9223372036854775808 : Int)) > (9218868437227405312 : Int))) || (decide ((bitsI .andNot .u64 b (9223372036854775808 : Int)) > (9218868437227405312 : Int)))) fun y =>
 LetW (((bitsI .andNot .u64 a (9223372036854775808 : Int)) == (9218868437227405312 : Int)) && ((bitsI .andNot .u64 b (9223372036854775808 : Int)) == (0 : Int))) fun y1 =>
 LetW (y || y1) fun y2 =>
 LetW (((bitsI .andNot .u64 a (9223372036854775808 : Int)) == (0 : Int)) && ((bitsI .andNot .u64 b (9223372036854775808 : Int)) == (9218868437227405312 : Int))) fun y3 =>
 LetW (y2 || y3) fun y4 =>
 (if y4 = true then
 Q (9221120237041090560 : Int) h
 else
 LetW (((bitsI .andNot .u64 a (9223372036854775808 : Int)) == (9218868437227405312 : Int)) || ((bitsI .andNot .u64 b (9223372036854775808 : Int)) == (9218868437227405312 : Int))) fun y5 =>
 (if y5 = true then
 Q (bitsI .or .u64 (bitsI .and .u64 (bitsI .xor .u64 a b) (9223372036854775808 : Int)) (9218868437227405312 : Int)) h
 else
 Call2 P n_firebreakref05_parts [(.int .u64 (bitsI .andNot .u64 a (9223372036854775808 : Int)))] (shInt .u64) (shInt .i64) (fun r r1 h1 =>
 Call2 P n_firebreakref05_parts [(.int .u64 (bitsI .andNot .u64 b (9223372036854775808 : Int)))] (shInt .u64) (shInt .i64) (fun r2 r3 h2 =>
 CallT P n_firebreakref05_product [(.int .u64 r), (.int .u64 r2)] shSl (fun r4 h3 =>
 CallT P n_firebreakref05_rounded [(.int .u64 (bitsI .and .u64 (bitsI .xor .u64 a b) (9223372036854775808 : Int))), r4.v, (.int .i64 (IntKind.wrap .i64 (r1 + r3))), (.bool false)] (shInt .u64) (fun r5 h4 =>
 Q r5 h4) h3) h2) h1) h))

def firebreakref05_div_w (P : Program) (a : Int) (b : Int) (Q : (Int → (Hp → Prop))) (h : Hp) : Prop :=
 LetW ((decide ((bitsI .andNot .u64 a (9223372036854775808 : Int)) > (9218868437227405312 : Int))) || (decide ((bitsI .andNot .u64 b (9223372036854775808 : Int)) > (9218868437227405312 : Int)))) fun y =>
 LetW (((bitsI .andNot .u64 a (9223372036854775808 : Int)) == (9218868437227405312 : Int)) && ((bitsI .andNot .u64 b (9223372036854775808 : Int)) == (9218868437227405312 : Int))) fun y1 =>
 LetW (y || y1) fun y2 =>
 LetW (((bitsI .andNot .u64 a (9223372036854775808 : Int)) == (0 : Int)) && ((bitsI .andNot .u64 b (9223372036854775808 : Int)) == (0 : Int))) fun y3 =>
 LetW (y2 || y3) fun y4 =>
 (if y4 = true then
 Q (9221120237041090560 : Int) h
 else
 LetW (((bitsI .andNot .u64 a (9223372036854775808 : Int)) == (9218868437227405312 : Int)) || ((bitsI .andNot .u64 b (9223372036854775808 : Int)) == (0 : Int))) fun y5 =>
 (if y5 = true then
 Q (bitsI .or .u64 (bitsI .and .u64 (bitsI .xor .u64 a b) (9223372036854775808 : Int)) (9218868437227405312 : Int)) h
 else
 LetW (((bitsI .andNot .u64 b (9223372036854775808 : Int)) == (9218868437227405312 : Int)) || ((bitsI .andNot .u64 a (9223372036854775808 : Int)) == (0 : Int))) fun y6 =>
 (if y6 = true then
 Q (bitsI .and .u64 (bitsI .xor .u64 a b) (9223372036854775808 : Int)) h
 else
 Call2 P n_firebreakref05_parts [(.int .u64 (bitsI .andNot .u64 a (9223372036854775808 : Int)))] (shInt .u64) (shInt .i64) (fun r r1 h1 =>
 Call2 P n_firebreakref05_parts [(.int .u64 (bitsI .andNot .u64 b (9223372036854775808 : Int)))] (shInt .u64) (shInt .i64) (fun r2 r3 h2 =>
 CallT P n_firebreakref05_of [(.int .u64 r)] shSl (fun r4 h3 =>
 CallT P n_firebreakref05_shift [r4.v, (.int .i64 (128 : Int))] shSl (fun r5 h4 =>
 NewW [] (fun a1 h5 =>
 LoopW3 (α1 := Sl) (α2 := Sl) (α3 := Int) (fun again rest q i h6 =>
 (if (decide (i ≥ (0 : Int))) = true then
 JoinW2 (α1 := Sl) (α2 := Sl) (fun k =>
 CallT P n_firebreakref05_of [(.int .u64 r2)] shSl (fun r6 h7 =>
 CallT P n_firebreakref05_shift [r6.v, (.int .i64 i)] shSl (fun r7 h8 =>
 CallT P n_firebreakref05_times [q.v, (.int .u32 (2 : Int))] shSl (fun r8 h9 =>
 CallT P n_firebreakref05_compare [rest.v, r7.v] (shInt .i64) (fun r9 h10 =>
 (if (decide (r9 ≥ (0 : Int))) = true then
 CallT P n_firebreakref05_less [rest.v, r7.v] shSl (fun r10 h11 =>
 CallT P n_firebreakref05_of [(.int .u64 (1 : Int))] shSl (fun r11 h12 =>
 CallT P n_firebreakref05_sum [r8.v, r11.v] shSl (fun r12 h13 =>
 k r10 r12 h13) h12) h11) h10
 else
 k ⟨rest.base, rest.len, rest.cap⟩ r8 h10)) h9) h8) h7) h6)
 (fun rest1 q1 h7 =>
 again ⟨rest1.base, rest1.len, rest1.cap⟩ ⟨q1.base, q1.len, q1.cap⟩ (IntKind.wrap .i64 (i - (1 : Int))) h7)
 else
 CallT P n_firebreakref05_rounded [(.int .u64 (bitsI .and .u64 (bitsI .xor .u64 a b) (9223372036854775808 : Int))), q.v, (.int .i64 (IntKind.wrap .i64 ((IntKind.wrap .i64 (r1 - r3)) - (128 : Int)))), (.bool (decide (((rest.len : Nat) : Int) > (0 : Int))))] (shInt .u64) (fun r6 h7 =>
 Q r6 h7) h6)) r5 ⟨(some a1), 0, 0⟩ (184 : Int) h5) h4) h3) h2) h1) h)))

def firebreakref05_below_w (P : Program) (a : Int) (b : Int) (Q : (Int → (Hp → Prop))) (h : Hp) : Prop :=
 CallT P n_firebreakref05_isNaN [(.int .u64 a)] shBool (fun r h1 =>
 EffC (some (!r)) (CallT P n_firebreakref05_isNaN [(.int .u64 b)] shBool) (fun r1 h2 =>
 LetW (r || r1) fun y =>
 LetW (((bitsI .andNot .u64 a (9223372036854775808 : Int)) == (0 : Int)) && ((bitsI .andNot .u64 b (9223372036854775808 : Int)) == (0 : Int))) fun y1 =>
 LetW (y || y1) fun y2 =>
 (if y2 = true then
 Q (0 : Int) h2
 else
 (if ((bitsI .and .u64 a (9223372036854775808 : Int)) != (0 : Int)) = true then
 (if ((bitsI .and .u64 b (9223372036854775808 : Int)) != (0 : Int)) = true then
 (if (decide ((bitsI .xor .u64 (18446744073709551615 : Int) a) < (bitsI .xor .u64 (18446744073709551615 : Int) b))) = true then
 Q (1 : Int) h2
 else
 Q (0 : Int) h2)
 else
 (if (decide ((bitsI .xor .u64 (18446744073709551615 : Int) a) < (bitsI .or .u64 b (9223372036854775808 : Int)))) = true then
 Q (1 : Int) h2
 else
 Q (0 : Int) h2))
 else
 (if ((bitsI .and .u64 b (9223372036854775808 : Int)) != (0 : Int)) = true then
 (if (decide ((bitsI .or .u64 a (9223372036854775808 : Int)) < (bitsI .xor .u64 (18446744073709551615 : Int) b))) = true then
 Q (1 : Int) h2
 else
 Q (0 : Int) h2)
 else
 (if (decide ((bitsI .or .u64 a (9223372036854775808 : Int)) < (bitsI .or .u64 b (9223372036854775808 : Int)))) = true then
 Q (1 : Int) h2
 else
 Q (0 : Int) h2))))) h1) h

def firebreakref05_float_w (P : Program) (n : Int) (Q : (Int → (Hp → Prop))) (h : Hp) : Prop :=
 (if (decide (n < (0 : Int))) = true then
 CallT P n_firebreakref05_of [(.int .u64 (IntKind.wrap .u64 ((IntKind.wrap .u64 (IntKind.wrap .i64 ((0 : Int) - (IntKind.wrap .i64 (n + (1 : Int)))))) + (1 : Int))))] shSl (fun r h1 =>
 CallT P n_firebreakref05_rounded [(.int .u64 (9223372036854775808 : Int)), r.v, (.int .i64 (0 : Int)), (.bool false)] (shInt .u64) (fun r1 h2 =>
 Q r1 h2) h1) h
 else
 CallT P n_firebreakref05_of [(.int .u64 (IntKind.wrap .u64 n))] shSl (fun r h1 =>
 CallT P n_firebreakref05_rounded [(.int .u64 (0 : Int)), r.v, (.int .i64 (0 : Int)), (.bool false)] (shInt .u64) (fun r1 h2 =>
 Q r1 h2) h1) h)

def firebreakref05_whole_w (P : Program) (a : Int) (Q : (Int → (Hp → Prop))) (h : Hp) : Prop :=
 CallT P n_firebreakref05_isNaN [(.int .u64 a)] shBool (fun r h1 =>
 (if r = true then
 Q (0 : Int) h1
 else
 (if (decide ((bitsI .andNot .u64 a (9223372036854775808 : Int)) ≥ (4890909195324358656 : Int))) = true then
 (if ((bitsI .and .u64 a (9223372036854775808 : Int)) != (0 : Int)) = true then
 Q (-9223372036854775808 : Int) h1
 else
 Q (9223372036854775807 : Int) h1)
 else
 Call2 P n_firebreakref05_parts [(.int .u64 (bitsI .andNot .u64 a (9223372036854775808 : Int)))] (shInt .u64) (shInt .i64) (fun r1 r2 h2 =>
 LoopW2 (α1 := Int) (α2 := Int) (fun again n i h3 =>
 (if (decide (i < r2)) = true then
 again (IntKind.wrap .u64 ((2 : Int) * n)) (IntKind.wrap .i64 (i + (1 : Int))) h3
 else
 LoopW2 (α1 := Int) (α2 := Int) (fun again1 n1 i1 h4 =>
 LetW ((decide (i1 > r2)) && (decide (n1 > (0 : Int)))) fun y =>
 (if y = true then
 ((2 : Int) ≠ (0 : Int) ∧ again1 (IntKind.wrap .u64 (Int.tdiv n1 (2 : Int))) (IntKind.wrap .i64 (i1 - (1 : Int))) h4)
 else
 (if ((bitsI .and .u64 a (9223372036854775808 : Int)) != (0 : Int)) = true then
 Q (IntKind.wrap .i64 ((0 : Int) - (IntKind.wrap .i64 n1))) h4
 else
 Q (IntKind.wrap .i64 n1) h4))) n (0 : Int) h3)) r1 (0 : Int) h2) h1))) h

def strings_CutPrefix_w (P : Program) (s : ByteArray) (prefix_ : ByteArray) (Q : (ByteArray → (Bool → (Hp → Prop)))) (h : Hp) : Prop :=
 Call2 P n_internal_stringslite_CutPrefix [(.string s), (.string prefix_)] shStr shBool (fun r r1 h1 =>
 Q r r1 h1) h

def strconv_ParseFloat_w (P : Program) (s : ByteArray) (bitSize : Int) (Q : (Nat → (Leaf → (Hp → Prop)))) (h : Hp) : Prop :=
 Call2 P n_internal_strconv_ParseFloat [(.string s), (.int .i64 bitSize)] (shFlt .f64) shLeaf (fun r r1 h1 =>
 ((isIfV r1.v) = true ∧ (if (!(isNilIface r1.v)) = true then
 CallT P n_strconv_toError [(.string ⟨#[80, 97, 114, 115, 101, 70, 108, 111, 97, 116]⟩), (.string s), (.int .i64 (0 : Int)), (.int .i64 bitSize), r1.v] shLeaf (fun r2 h2 =>
 EncW shLeaf r2.v fun e =>
 Q r e h2) h1
 else
 EncW shLeaf .nilIface fun e =>
 Q r e h1))) h

def strings_Cut_w (P : Program) (s : ByteArray) (sep : ByteArray) (Q : (ByteArray → (ByteArray → (Bool → (Hp → Prop))))) (h : Hp) : Prop :=
 Call3 P n_internal_stringslite_Cut [(.string s), (.string sep)] shStr shStr shBool (fun r r1 r2 h1 =>
 Q r r1 r2 h1) h

def strconv_FormatFloat_w (P : Program) (f : Nat) (fmt : Int) (prec : Int) (bitSize : Int) (Q : (ByteArray → (Hp → Prop))) (h : Hp) : Prop :=
 CallT P n_internal_strconv_FormatFloat [(.float .f64 f), (.int .u8 fmt), (.int .i64 prec), (.int .i64 bitSize)] shStr (fun r h1 =>
 Q r h1) h

def strconv_Atoi_w (P : Program) (s : ByteArray) (Q : (Int → (Leaf → (Hp → Prop)))) (h : Hp) : Prop :=
 Call2 P n_internal_strconv_Atoi [(.string s)] (shInt .i64) shLeaf (fun r r1 h1 =>
 ((isIfV r1.v) = true ∧ (if (!(isNilIface r1.v)) = true then
 CallT P n_strconv_toError [(.string ⟨#[65, 116, 111, 105]⟩), (.string s), (.int .i64 (0 : Int)), (.int .i64 (0 : Int)), r1.v] shLeaf (fun r2 h2 =>
 EncW shLeaf r2.v fun e =>
 Q r e h2) h1
 else
 EncW shLeaf .nilIface fun e =>
 Q r e h1))) h

def strconv_Itoa_w (P : Program) (i : Int) (Q : (ByteArray → (Hp → Prop))) (h : Hp) : Prop :=
 CallT P n_internal_strconv_Itoa [(.int .i64 i)] shStr (fun r h1 =>
 Q r h1) h

def firebreakref05_parts_w (P : Program) (b : Int) (Q : (Int → (Int → (Hp → Prop)))) (h : Hp) : Prop :=
 ((0 : Int) ≤ (52 : Int) ∧ (if ((IntKind.wrap .i64 (shrI .u64 b (52 : Int))) == (0 : Int)) = true then
 Q (bitsI .and .u64 b (4503599627370495 : Int)) (-1074 : Int) h
 else
 Q (bitsI .or .u64 (bitsI .and .u64 b (4503599627370495 : Int)) (4503599627370496 : Int)) (IntKind.wrap .i64 ((IntKind.wrap .i64 (shrI .u64 b (52 : Int))) - (1075 : Int))) h))

def firebreakref05_shift_w (P : Program) (a : Sl) (n : Int) (Q : (Sl → (Hp → Prop))) (h : Hp) : Prop :=
 (if (((a.len : Nat) : Int) == (0 : Int)) = true then
 Q a h
 else
 NewW [] (fun a1 h1 =>
 LoopW2 (α1 := Sl) (α2 := Int) (fun again out i h2 =>
 ((32 : Int) ≠ (0 : Int) ∧ (if (decide (i < (IntKind.wrap .i64 (Int.tdiv n (32 : Int))))) = true then
 NewW [(.int .u32 (0 : Int))] (fun a2 h3 =>
 AppendW 1 4 [(.int .u32 (0 : Int))] ⟨out.base, out.len, out.cap⟩ ⟨(some a2), 1, 1⟩ (fun r h4 =>
 again r (IntKind.wrap .i64 (i + (1 : Int))) h4) h3) h2
 else
 AppendW 1 4 [(.int .u32 (0 : Int))] ⟨out.base, out.len, out.cap⟩ a (fun r h3 =>
 ((32 : Int) ≠ (0 : Int) ∧ ((0 : Int) ≤ (Int.tmod n (32 : Int)) ∧ CallT P n_firebreakref05_times [r.v, (.int .u32 (shlI .u32 (1 : Int) (Int.tmod n (32 : Int))))] shSl (fun r1 h4 =>
 Q r1 h4) h3))) h2))) ⟨(some a1), 0, 0⟩ (0 : Int) h1) h)

def firebreakref05_of_w (P : Program) (x : Int) (Q : (Sl → (Hp → Prop))) (h : Hp) : Prop :=
 ((0 : Int) ≤ (32 : Int) ∧ NewW [(.int .u32 (IntKind.wrap .u32 x)), (.int .u32 (IntKind.wrap .u32 (shrI .u64 x (32 : Int))))] (fun a h1 =>
 CallT P n_firebreakref05_trim [(.slice (some a) 2 2)] shSl (fun r h2 =>
 Q r h2) h1) h)

def firebreakref05_rounded_w (P : Program) (neg : Int) (m : Sl) (e : Int) (more : Bool) (Q : (Int → (Hp → Prop))) (h : Hp) : Prop :=
 (if (((m.len : Nat) : Int) == (0 : Int)) = true then
 Q neg h
 else
 CallT P n_firebreakref05_bits [m.v] (shInt .i64) (fun r h1 =>
 JoinW1 (α1 := Int) (fun k =>
 (if (decide ((max2I (IntKind.wrap .i64 (r - (53 : Int))) (IntKind.wrap .i64 ((-1074 : Int) - e))) ≤ (0 : Int))) = true then
 CallT P n_firebreakref05_shift [m.v, (.int .i64 (IntKind.wrap .i64 ((0 : Int) - (max2I (IntKind.wrap .i64 (r - (53 : Int))) (IntKind.wrap .i64 ((-1074 : Int) - e))))))] shSl (fun r1 h2 =>
 CallT P n_firebreakref05_small [r1.v] (shInt .u64) (fun r2 h3 =>
 k r2 h3) h2) h1
 else
 Call2 P n_firebreakref05_low [m.v, (.int .i64 (max2I (IntKind.wrap .i64 (r - (53 : Int))) (IntKind.wrap .i64 ((-1074 : Int) - e))))] shSl shSl (fun r1 r2 h2 =>
 CallT P n_firebreakref05_small [r2.v] (shInt .u64) (fun r3 h3 =>
 CallT P n_firebreakref05_of [(.int .u64 (1 : Int))] shSl (fun r4 h4 =>
 CallT P n_firebreakref05_shift [r4.v, (.int .i64 (IntKind.wrap .i64 ((max2I (IntKind.wrap .i64 (r - (53 : Int))) (IntKind.wrap .i64 ((-1074 : Int) - e))) - (1 : Int))))] shSl (fun r5 h5 =>
 CallT P n_firebreakref05_compare [r1.v, r5.v] (shInt .i64) (fun r6 h6 =>
 (((((!(decide (r6 > (0 : Int)))) && (r6 == (0 : Int))) && (!more)) = true → (2 : Int) ≠ (0 : Int)) ∧ LetW (more || ((Int.tmod r3 (2 : Int)) == (1 : Int))) fun y =>
 LetW ((r6 == (0 : Int)) && y) fun y1 =>
 LetW ((decide (r6 > (0 : Int))) || y1) fun y2 =>
 (if y2 = true then
 k (IntKind.wrap .u64 (r3 + (1 : Int))) h6
 else
 k r3 h6))) h5) h4) h3) h2) h1))
 (fun q h2 =>
 (if (decide (q < (4503599627370496 : Int))) = true then
 Q (bitsI .or .u64 neg q) h2
 else
 (if (decide ((IntKind.wrap .i64 ((IntKind.wrap .i64 (e + (max2I (IntKind.wrap .i64 (r - (53 : Int))) (IntKind.wrap .i64 ((-1074 : Int) - e))))) + (1075 : Int))) ≥ (2047 : Int))) = true then
 Q (bitsI .or .u64 neg (9218868437227405312 : Int)) h2
 else
 ((0 : Int) ≤ (52 : Int) ∧ Q (bitsI .or .u64 neg (min2I (IntKind.wrap .u64 ((shlI .u64 (IntKind.wrap .u64 (IntKind.wrap .i64 ((IntKind.wrap .i64 (e + (max2I (IntKind.wrap .i64 (r - (53 : Int))) (IntKind.wrap .i64 ((-1074 : Int) - e))))) + (1075 : Int)))) (52 : Int)) + (IntKind.wrap .u64 (q - (4503599627370496 : Int))))) (9218868437227405312 : Int))) h2))))) h)

def firebreakref05_sum_w (P : Program) (a : Sl) (b : Sl) (Q : (Sl → (Hp → Prop))) (h : Hp) : Prop :=
 NewW [] (fun a1 h1 =>
 LoopW3 (α1 := Sl) (α2 := Int) (α3 := Int) (fun again out c i h2 =>
 LetW ((decide (i < ((a.len : Nat) : Int))) || (decide (i < ((b.len : Nat) : Int)))) fun y =>
 (if y = true then
 JoinW1 (α1 := Int) (fun k =>
 (if (decide (i < ((a.len : Nat) : Int))) = true then
 ((InB a.base a.len i) ∧ LdW none (shInt .u32) h2 (sat a.base 1 i) fun x =>
 k (IntKind.wrap .u64 (c + (IntKind.wrap .u64 x))) h2)
 else
 k c h2))
 (fun c1 h3 =>
 JoinW1 (α1 := Int) (fun k =>
 (if (decide (i < ((b.len : Nat) : Int))) = true then
 ((InB b.base b.len i) ∧ LdW none (shInt .u32) h3 (sat b.base 1 i) fun x =>
 k (IntKind.wrap .u64 (c1 + (IntKind.wrap .u64 x))) h3)
 else
 k c1 h3))
 (fun c2 h4 =>
 NewW [(.int .u32 (IntKind.wrap .u32 c2))] (fun a2 h5 =>
 AppendW 1 4 [(.int .u32 (0 : Int))] ⟨out.base, out.len, out.cap⟩ ⟨(some a2), 1, 1⟩ (fun r h6 =>
 ((0 : Int) ≤ (32 : Int) ∧ again r (shrI .u64 c2 (32 : Int)) (IntKind.wrap .i64 (i + (1 : Int))) h6)) h5) h4))
 else
 NewW [(.int .u32 (IntKind.wrap .u32 c))] (fun a2 h3 =>
 AppendW 1 4 [(.int .u32 (0 : Int))] ⟨out.base, out.len, out.cap⟩ ⟨(some a2), 1, 1⟩ (fun r h4 =>
 CallT P n_firebreakref05_trim [r.v] shSl (fun r1 h5 =>
 Q r1 h5) h4) h3) h2)) ⟨(some a1), 0, 0⟩ (0 : Int) (0 : Int) h1) h

def firebreakref05_compare_w (P : Program) (a : Sl) (b : Sl) (Q : (Int → (Hp → Prop))) (h : Hp) : Prop :=
 (if (((a.len : Nat) : Int) != ((b.len : Nat) : Int)) = true then
 (if (decide (((a.len : Nat) : Int) < ((b.len : Nat) : Int))) = true then
 Q (-1 : Int) h
 else
 Q (1 : Int) h)
 else
 LoopW1 (α1 := Int) (fun again i h1 =>
 (if (decide (i ≥ (0 : Int))) = true then
 ((InB a.base a.len i) ∧ LdW none (shInt .u32) h1 (sat a.base 1 i) fun x =>
 ((InB b.base b.len i) ∧ LdW none (shInt .u32) h1 (sat b.base 1 i) fun x1 =>
 (if (decide (x < x1)) = true then
 Q (-1 : Int) h1
 else
 ((InB a.base a.len i) ∧ LdW none (shInt .u32) h1 (sat a.base 1 i) fun x2 =>
 ((InB b.base b.len i) ∧ LdW none (shInt .u32) h1 (sat b.base 1 i) fun x3 =>
 (if (decide (x2 > x3)) = true then
 Q (1 : Int) h1
 else
 again (IntKind.wrap .i64 (i - (1 : Int))) h1))))))
 else
 Q (0 : Int) h1)) (IntKind.wrap .i64 (((a.len : Nat) : Int) - (1 : Int))) h)

def firebreakref05_less_w (P : Program) (a : Sl) (b : Sl) (Q : (Sl → (Hp → Prop))) (h : Hp) : Prop :=
 NewW [] (fun a1 h1 =>
 LoopW3 (α1 := Sl) (α2 := Int) (α3 := Int) (fun again out c i h2 =>
 (if (decide (i < ((a.len : Nat) : Int))) = true then
 ((InB a.base a.len i) ∧ LdW none (shInt .u32) h2 (sat a.base 1 i) fun x =>
 JoinW1 (α1 := Int) (fun k =>
 (if (decide (i < ((b.len : Nat) : Int))) = true then
 ((InB b.base b.len i) ∧ LdW none (shInt .u32) h2 (sat b.base 1 i) fun x1 =>
 k (IntKind.wrap .i64 ((IntKind.wrap .i64 (c + (IntKind.wrap .i64 x))) - (IntKind.wrap .i64 x1))) h2)
 else
 k (IntKind.wrap .i64 (c + (IntKind.wrap .i64 x))) h2))
 (fun c1 h3 =>
 NewW [(.int .u32 (IntKind.wrap .u32 c1))] (fun a2 h4 =>
 AppendW 1 4 [(.int .u32 (0 : Int))] ⟨out.base, out.len, out.cap⟩ ⟨(some a2), 1, 1⟩ (fun r h5 =>
 ((0 : Int) ≤ (32 : Int) ∧ again r (shrI .i64 c1 (32 : Int)) (IntKind.wrap .i64 (i + (1 : Int))) h5)) h4) h3))
 else
 CallT P n_firebreakref05_trim [out.v] shSl (fun r h3 =>
 Q r h3) h2)) ⟨(some a1), 0, 0⟩ (0 : Int) (0 : Int) h1) h

def firebreakref05_product_w (P : Program) (a : Int) (b : Int) (Q : (Sl → (Hp → Prop))) (h : Hp) : Prop :=
 CallT P n_firebreakref05_of [(.int .u64 a)] shSl (fun r h1 =>
 CallT P n_firebreakref05_times [r.v, (.int .u32 (IntKind.wrap .u32 b))] shSl (fun r1 h2 =>
 CallT P n_firebreakref05_of [(.int .u64 a)] shSl (fun r2 h3 =>
 ((0 : Int) ≤ (32 : Int) ∧ CallT P n_firebreakref05_times [r2.v, (.int .u32 (IntKind.wrap .u32 (shrI .u64 b (32 : Int))))] shSl (fun r3 h4 =>
 CallT P n_firebreakref05_shift [r3.v, (.int .i64 (32 : Int))] shSl (fun r4 h5 =>
 CallT P n_firebreakref05_sum [r1.v, r4.v] shSl (fun r5 h6 =>
 Q r5 h6) h5) h4) h3)) h2) h1) h

def firebreakref05_times_w (P : Program) (a : Sl) (m : Int) (Q : (Sl → (Hp → Prop))) (h : Hp) : Prop :=
 NewW [] (fun a1 h1 =>
 LoopW3 (α1 := Sl) (α2 := Int) (α3 := Int) (fun again out c i h2 =>
 (if (decide (i < ((a.len : Nat) : Int))) = true then
 ((InB a.base a.len i) ∧ LdW none (shInt .u32) h2 (sat a.base 1 i) fun x =>
 NewW [(.int .u32 (IntKind.wrap .u32 (IntKind.wrap .u64 (c + (IntKind.wrap .u64 ((IntKind.wrap .u64 x) * (IntKind.wrap .u64 m)))))))] (fun a2 h3 =>
 AppendW 1 4 [(.int .u32 (0 : Int))] ⟨out.base, out.len, out.cap⟩ ⟨(some a2), 1, 1⟩ (fun r h4 =>
 ((0 : Int) ≤ (32 : Int) ∧ again r (shrI .u64 (IntKind.wrap .u64 (c + (IntKind.wrap .u64 ((IntKind.wrap .u64 x) * (IntKind.wrap .u64 m))))) (32 : Int)) (IntKind.wrap .i64 (i + (1 : Int))) h4)) h3) h2)
 else
 NewW [(.int .u32 (IntKind.wrap .u32 c))] (fun a2 h3 =>
 AppendW 1 4 [(.int .u32 (0 : Int))] ⟨out.base, out.len, out.cap⟩ ⟨(some a2), 1, 1⟩ (fun r h4 =>
 CallT P n_firebreakref05_trim [r.v] shSl (fun r1 h5 =>
 Q r1 h5) h4) h3) h2)) ⟨(some a1), 0, 0⟩ (0 : Int) (0 : Int) h1) h

def internal_stringslite_CutPrefix_w (P : Program) (s : ByteArray) (prefix_ : ByteArray) (Q : (ByteArray → (Bool → (Hp → Prop)))) (h : Hp) : Prop :=
 CallT P n_internal_stringslite_HasPrefix [(.string s), (.string prefix_)] shBool (fun r h1 =>
 (if (!r) = true then
 Q s false h1
 else
 (((0 : Int) ≤ (((ByteArray.size prefix_) : Nat) : Int) ∧ (((ByteArray.size prefix_) : Nat) : Int) ≤ (((ByteArray.size s) : Nat) : Int)) ∧ Q (ByteArray.extract s (Int.toNat (((ByteArray.size prefix_) : Nat) : Int)) (ByteArray.size s)) true h1))) h

def internal_strconv_ParseFloat_w (P : Program) (s : ByteArray) (bitSize : Int) (Q : (Nat → (Leaf → (Hp → Prop)))) (h : Hp) : Prop :=
 Call3 P n_internal_strconv_parseFloatPrefix [(.string s), (.int .i64 bitSize)] (shFlt .f64) (shInt .i64) shLeaf (fun r r1 r2 h1 =>
 (if (r1 != (((ByteArray.size s) : Nat) : Int)) = true then
 EncW shLeaf (.iface 81 (.int .i64 (2 : Int))) fun e =>
 Q 0 e h1
 else
 EncW shLeaf r2.v fun e =>
 Q r e h1)) h

def internal_stringslite_Cut_w (P : Program) (s : ByteArray) (sep : ByteArray) (Q : (ByteArray → (ByteArray → (Bool → (Hp → Prop))))) (h : Hp) : Prop :=
 CallT P n_internal_stringslite_Index [(.string s), (.string sep)] (shInt .i64) (fun r h1 =>
 (if (decide (r ≥ (0 : Int))) = true then
 (((0 : Int) ≤ r ∧ r ≤ (((ByteArray.size s) : Nat) : Int)) ∧ (((0 : Int) ≤ (IntKind.wrap .i64 (r + (((ByteArray.size sep) : Nat) : Int))) ∧ (IntKind.wrap .i64 (r + (((ByteArray.size sep) : Nat) : Int))) ≤ (((ByteArray.size s) : Nat) : Int)) ∧ Q (ByteArray.extract s 0 (Int.toNat r)) (ByteArray.extract s (Int.toNat (IntKind.wrap .i64 (r + (((ByteArray.size sep) : Nat) : Int)))) (ByteArray.size s)) true h1))
 else
 Q s ⟨#[]⟩ false h1)) h

def internal_strconv_FormatFloat_w (P : Program) (f : Nat) (fmt : Int) (prec : Int) (bitSize : Int) (Q : (ByteArray → (Hp → Prop))) (h : Hp) : Prop :=
 (if (bitSize == (32 : Int)) = true then
 MakeW 1 [(.int .u8 (0 : Int))] (0 : Int) (max2I (IntKind.wrap .i64 (prec + (4 : Int))) (24 : Int)) (fun r h1 =>
 SemV none P (convert 34 100 (.float .f64 f)) (shFlt .f32) h1 fun x =>
 CallT P n_internal_strconv_ftoa32 [r.v, (.float .f32 x), (.int .u8 fmt), (.int .i64 prec)] shSl (fun r1 h2 =>
 SemV none P (convert 83 9 r1.v) shStr h2 fun x1 =>
 Q x1 h2) h1) h
 else
 (if (bitSize == (64 : Int)) = true then
 MakeW 1 [(.int .u8 (0 : Int))] (0 : Int) (max2I (IntKind.wrap .i64 (prec + (4 : Int))) (24 : Int)) (fun r h1 =>
 CallT P n_internal_strconv_ftoa64 [r.v, (.float .f64 f), (.int .u8 fmt), (.int .i64 prec)] shSl (fun r1 h2 =>
 SemV none P (convert 83 9 r1.v) shStr h2 fun x =>
 Q x h2) h1) h
 else
 False))

def internal_strconv_Atoi_w (P : Program) (s : ByteArray) (Q : (Int → (Leaf → (Hp → Prop)))) (h : Hp) : Prop :=
 LetW ((decide ((0 : Int) < (((ByteArray.size s) : Nat) : Int))) && (decide ((((ByteArray.size s) : Nat) : Int) < (10 : Int)))) fun y =>
 LetW (false && y) fun y1 =>
 LetW ((decide ((0 : Int) < (((ByteArray.size s) : Nat) : Int))) && (decide ((((ByteArray.size s) : Nat) : Int) < (19 : Int)))) fun y2 =>
 LetW (true && y2) fun y3 =>
 LetW (y1 || y3) fun y4 =>
 (if y4 = true then
 JoinW1 (α1 := ByteArray) (fun k =>
 (((0 : Int) ≤ (0 : Int) ∧ (0 : Int) < (((ByteArray.size s) : Nat) : Int)) ∧ (((!((((UInt8.toNat (List.getD s.data.toList 0 0)) : Nat) : Int) == (45 : Int))) = true → ((0 : Int) ≤ (0 : Int) ∧ (0 : Int) < (((ByteArray.size s) : Nat) : Int))) ∧ LetW (((((UInt8.toNat (List.getD s.data.toList 0 0)) : Nat) : Int) == (45 : Int)) || ((((UInt8.toNat (List.getD s.data.toList 0 0)) : Nat) : Int) == (43 : Int))) fun y5 =>
 (if y5 = true then
 (((0 : Int) ≤ (1 : Int) ∧ (1 : Int) ≤ (((ByteArray.size s) : Nat) : Int)) ∧ (if (decide ((((ByteArray.size (ByteArray.extract s 1 (ByteArray.size s))) : Nat) : Int) < (1 : Int))) = true then
 EncW shLeaf (.iface 81 (.int .i64 (2 : Int))) fun e =>
 Q (0 : Int) e h
 else
 k (ByteArray.extract s 1 (ByteArray.size s)) h))
 else
 k s h))))
 (fun s1 h1 =>
 BytesW s1 (fun r h2 =>
 LoopW2 (α1 := Int) (α2 := Int) (fun again n t49 h3 =>
 (if (decide (t49 < ((r.len : Nat) : Int))) = true then
 ((InB r.base r.len t49) ∧ LdW none (shInt .u8) h3 (sat r.base 1 t49) fun x =>
 (if (decide ((IntKind.wrap .u8 (x - (48 : Int))) > (9 : Int))) = true then
 EncW shLeaf (.iface 81 (.int .i64 (2 : Int))) fun e =>
 Q (0 : Int) e h3
 else
 again (IntKind.wrap .i64 ((IntKind.wrap .i64 (n * (10 : Int))) + (IntKind.wrap .i64 (IntKind.wrap .u8 (x - (48 : Int)))))) (IntKind.wrap .i64 (t49 + (1 : Int))) h3))
 else
 (((0 : Int) ≤ (0 : Int) ∧ (0 : Int) < (((ByteArray.size s) : Nat) : Int)) ∧ (if ((((UInt8.toNat (List.getD s.data.toList 0 0)) : Nat) : Int) == (45 : Int)) = true then
 EncW shLeaf .nilIface fun e =>
 Q (IntKind.wrap .i64 ((0 : Int) - n)) e h3
 else
 EncW shLeaf .nilIface fun e =>
 Q n e h3)))) (0 : Int) (0 : Int) h2) h1)
 else
 Call2 P n_internal_strconv_ParseInt [(.string s), (.int .i64 (10 : Int)), (.int .i64 (0 : Int))] (shInt .i64) shLeaf (fun r r1 h1 =>
 EncW shLeaf r1.v fun e =>
 Q r e h1) h)

def internal_strconv_Itoa_w (P : Program) (i : Int) (Q : (ByteArray → (Hp → Prop))) (h : Hp) : Prop :=
 CallT P n_internal_strconv_FormatInt [(.int .i64 i), (.int .i64 (10 : Int))] shStr (fun r h1 =>
 Q r h1) h

def firebreakref05_trim_w (P : Program) (a : Sl) (Q : (Sl → (Hp → Prop))) (h : Hp) : Prop :=
 LoopW1 (α1 := Sl) (fun again a1 h1 =>
 (((decide (((a1.len : Nat) : Int) > (0 : Int))) = true → (InB a1.base a1.len (IntKind.wrap .i64 (((a1.len : Nat) : Int) - (1 : Int))))) ∧ LdW (some (decide (((a1.len : Nat) : Int) > (0 : Int)))) (shInt .u32) h1 (sat a1.base 1 (IntKind.wrap .i64 (((a1.len : Nat) : Int) - (1 : Int)))) fun x =>
 LetW ((decide (((a1.len : Nat) : Int) > (0 : Int))) && (x == (0 : Int))) fun y =>
 (if y = true then
 (((0 : Int) ≤ (IntKind.wrap .i64 (((a1.len : Nat) : Int) - (1 : Int))) ∧ (IntKind.wrap .i64 (((a1.len : Nat) : Int) - (1 : Int))) ≤ ((a1.cap : Nat) : Int)) ∧ LetW (α := Sl) ⟨(sbase a1.base 1 0 a1.cap), ((Int.toNat (IntKind.wrap .i64 (((a1.len : Nat) : Int) - (1 : Int)))) - 0), (a1.cap - 0)⟩ fun y1 =>
 again y1 h1)
 else
 Q a1 h1))) a h

def firebreakref05_bits_w (P : Program) (m : Sl) (Q : (Int → (Hp → Prop))) (h : Hp) : Prop :=
 (if (((m.len : Nat) : Int) == (0 : Int)) = true then
 Q (0 : Int) h
 else
 ((InB m.base m.len (IntKind.wrap .i64 (((m.len : Nat) : Int) - (1 : Int)))) ∧ LdW none (shInt .u32) h (sat m.base 1 (IntKind.wrap .i64 (((m.len : Nat) : Int) - (1 : Int)))) fun x =>
 LoopW2 (α1 := Int) (α2 := Int) (fun again n top h1 =>
 (if (decide (top > (0 : Int))) = true then
 ((2 : Int) ≠ (0 : Int) ∧ again (IntKind.wrap .i64 (n + (1 : Int))) (IntKind.wrap .u32 (Int.tdiv top (2 : Int))) h1)
 else
 Q n h1)) (IntKind.wrap .i64 ((32 : Int) * (IntKind.wrap .i64 (((m.len : Nat) : Int) - (1 : Int))))) x h))

def firebreakref05_small_w (P : Program) (m : Sl) (Q : (Int → (Hp → Prop))) (h : Hp) : Prop :=
 LoopW2 (α1 := Int) (α2 := Int) (fun again n i h1 =>
 (if (decide (i ≥ (0 : Int))) = true then
 ((0 : Int) ≤ (32 : Int) ∧ ((InB m.base m.len i) ∧ LdW none (shInt .u32) h1 (sat m.base 1 i) fun x =>
 again (bitsI .or .u64 (shlI .u64 n (32 : Int)) (IntKind.wrap .u64 x)) (IntKind.wrap .i64 (i - (1 : Int))) h1))
 else
 Q n h1)) (0 : Int) (IntKind.wrap .i64 (((m.len : Nat) : Int) - (1 : Int))) h

def firebreakref05_low_w (P : Program) (m : Sl) (n : Int) (Q : (Sl → (Sl → (Hp → Prop)))) (h : Hp) : Prop :=
 NewW [] (fun a h1 =>
 NewW [(.slice none 0 0)] (fun a1 h2 =>
 StW h2 a1 [(.slice (some a) 0 0)] (fun h3 =>
 NewW [] (fun a2 h4 =>
 NewW [(.slice none 0 0)] (fun a3 h5 =>
 StW h5 a3 [(.slice (some a2) 0 0)] (fun h6 =>
 LoopW1 (α1 := Int) (fun again i h7 =>
 (if (decide (i < (IntKind.wrap .i64 ((32 : Int) * ((m.len : Nat) : Int))))) = true then
 ((32 : Int) ≠ (0 : Int) ∧ ((InB m.base m.len (IntKind.wrap .i64 (Int.tdiv i (32 : Int)))) ∧ LdW none (shInt .u32) h7 (sat m.base 1 (IntKind.wrap .i64 (Int.tdiv i (32 : Int)))) fun x =>
 ((32 : Int) ≠ (0 : Int) ∧ ((0 : Int) ≤ (Int.tmod i (32 : Int)) ∧ JoinW2 (α1 := Option Addr) (α2 := Int) (fun k =>
 (if (decide (i ≥ n)) = true then
 k (some a3) (IntKind.wrap .i64 (i - n)) h7
 else
 k (some a1) i h7))
 (fun at_ k h8 =>
 JoinW0 (fun k1 =>
 ((32 : Int) ≠ (0 : Int) ∧ (if ((Int.tmod k (32 : Int)) == (0 : Int)) = true then
 NilW none at_ fun p =>
 LdW none shSl h8 p fun x1 =>
 NewW [(.int .u32 (0 : Int))] (fun a4 h9 =>
 AppendW 1 4 [(.int .u32 (0 : Int))] x1 ⟨(some a4), 1, 1⟩ (fun r h10 =>
 NilW none at_ fun p1 =>
 StW h10 p1 [r.v] (fun h11 =>
 k1 h11)) h9) h8
 else
 k1 h8)))
 (fun h9 =>
 NilW none at_ fun p =>
 LdW none shSl h9 p fun x1 =>
 ((32 : Int) ≠ (0 : Int) ∧ ((InB x1.base x1.len (IntKind.wrap .i64 (Int.tdiv k (32 : Int)))) ∧ LdW none (shInt .u32) h9 (sat x1.base 1 (IntKind.wrap .i64 (Int.tdiv k (32 : Int)))) fun x2 =>
 ((32 : Int) ≠ (0 : Int) ∧ ((0 : Int) ≤ (Int.tmod k (32 : Int)) ∧ ((InB x1.base x1.len (IntKind.wrap .i64 (Int.tdiv k (32 : Int)))) ∧ StW h9 (sat x1.base 1 (IntKind.wrap .i64 (Int.tdiv k (32 : Int)))) [(.int .u32 (bitsI .or .u32 x2 (shlI .u32 (bitsI .and .u32 (shrI .u32 x (Int.tmod i (32 : Int))) (1 : Int)) (Int.tmod k (32 : Int)))))] (fun h10 =>
 again (IntKind.wrap .i64 (i + (1 : Int))) h10))))))))))))
 else
 LdW none shSl h7 a1 fun x =>
 LdW none shSl h7 a3 fun x1 =>
 CallT P n_firebreakref05_trim [x.v] shSl (fun r h8 =>
 (((LdIs h8 a3 [x1.v]) ∧ True) ∧ CallT P n_firebreakref05_trim [x1.v] shSl (fun r1 h9 =>
 Q r r1 h9) h8)) h7)) (0 : Int) h6)) h4) h3)) h1) h

def internal_stringslite_HasPrefix_w (P : Program) (s : ByteArray) (prefix_ : ByteArray) (Q : (Bool → (Hp → Prop))) (h : Hp) : Prop :=
 (((decide ((((ByteArray.size s) : Nat) : Int) ≥ (((ByteArray.size prefix_) : Nat) : Int))) = true → ((0 : Int) ≤ (((ByteArray.size prefix_) : Nat) : Int) ∧ (((ByteArray.size prefix_) : Nat) : Int) ≤ (((ByteArray.size s) : Nat) : Int))) ∧ LetW ((decide ((((ByteArray.size s) : Nat) : Int) ≥ (((ByteArray.size prefix_) : Nat) : Int))) && ((ByteArray.toList (ByteArray.extract s 0 (Int.toNat (((ByteArray.size prefix_) : Nat) : Int)))) == (ByteArray.toList prefix_))) fun y =>
 Q y h)

def internal_strconv_lower_w (P : Program) (c : Int) (Q : (Int → (Hp → Prop))) (h : Hp) : Prop :=
 Q (bitsI .or .u8 c (32 : Int)) h

def internal_strconv_parseFloatPrefix_w (P : Program) (s : ByteArray) (bitSize : Int) (Q : (Nat → (Int → (Leaf → (Hp → Prop))))) (h : Hp) : Prop :=
 (if (bitSize == (32 : Int)) = true then
 Call3 P n_internal_strconv_atof32 [(.string s)] (shFlt .f32) (shInt .i64) shLeaf (fun r r1 r2 h1 =>
 SemV none P (convert 100 34 (.float .f32 r)) (shFlt .f64) h1 fun x =>
 EncW shLeaf r2.v fun e =>
 Q x r1 e h1) h
 else
 Call3 P n_internal_strconv_atof64 [(.string s)] (shFlt .f64) (shInt .i64) shLeaf (fun r r1 r2 h1 =>
 EncW shLeaf r2.v fun e =>
 Q r r1 e h1) h)

def internal_stringslite_Index_w (P : Program) (s : ByteArray) (substr : ByteArray) (Q : (Int → (Hp → Prop))) (h : Hp) : Prop :=
 LetW (((((ByteArray.size substr) : Nat) : Int) == (0 : Int)) || ((ByteArray.toList substr) == (ByteArray.toList s))) fun y =>
 (if y = true then
 Q (0 : Int) h
 else
 (if ((((ByteArray.size substr) : Nat) : Int) == (1 : Int)) = true then
 (((0 : Int) ≤ (0 : Int) ∧ (0 : Int) < (((ByteArray.size substr) : Nat) : Int)) ∧ CallT P n_internal_stringslite_IndexByte [(.string s), (.int .u8 (((UInt8.toNat (List.getD substr.data.toList 0 0)) : Nat) : Int))] (shInt .i64) (fun r h1 =>
 Q r h1) h)
 else
 (if (decide ((((ByteArray.size substr) : Nat) : Int) ≥ (((ByteArray.size s) : Nat) : Int))) = true then
 Q (-1 : Int) h
 else
 LdW none (shInt .i64) h ⟨3, 0, none⟩ fun x =>
 LetW ((decide ((((ByteArray.size substr) : Nat) : Int) ≤ x)) && (decide ((((ByteArray.size s) : Nat) : Int) ≤ (64 : Int)))) fun y1 =>
 (if y1 = true then
 False
 else
 (((0 : Int) ≤ (0 : Int) ∧ (0 : Int) < (((ByteArray.size substr) : Nat) : Int)) ∧ (((0 : Int) ≤ (1 : Int) ∧ (1 : Int) < (((ByteArray.size substr) : Nat) : Int)) ∧ LoopW2 (α1 := Int) (α2 := Int) (fun again i fails h1 =>
 (if (decide (i < (IntKind.wrap .i64 ((IntKind.wrap .i64 ((((ByteArray.size s) : Nat) : Int) - (((ByteArray.size substr) : Nat) : Int))) + (1 : Int))))) = true then
 JoinW1 (α1 := Int) (fun k =>
 (((0 : Int) ≤ i ∧ i < (((ByteArray.size s) : Nat) : Int)) ∧ (if ((((UInt8.toNat (List.getD s.data.toList (Int.toNat i) 0)) : Nat) : Int) != (((UInt8.toNat (List.getD substr.data.toList 0 0)) : Nat) : Int)) = true then
 (((0 : Int) ≤ (IntKind.wrap .i64 (i + (1 : Int))) ∧ ((IntKind.wrap .i64 (i + (1 : Int))) ≤ (IntKind.wrap .i64 ((IntKind.wrap .i64 ((((ByteArray.size s) : Nat) : Int) - (((ByteArray.size substr) : Nat) : Int))) + (1 : Int))) ∧ (IntKind.wrap .i64 ((IntKind.wrap .i64 ((((ByteArray.size s) : Nat) : Int) - (((ByteArray.size substr) : Nat) : Int))) + (1 : Int))) ≤ (((ByteArray.size s) : Nat) : Int))) ∧ CallT P n_internal_stringslite_IndexByte [(.string (ByteArray.extract s (Int.toNat (IntKind.wrap .i64 (i + (1 : Int)))) (Int.toNat (IntKind.wrap .i64 ((IntKind.wrap .i64 ((((ByteArray.size s) : Nat) : Int) - (((ByteArray.size substr) : Nat) : Int))) + (1 : Int)))))), (.int .u8 (((UInt8.toNat (List.getD substr.data.toList 0 0)) : Nat) : Int))] (shInt .i64) (fun r h2 =>
 (if (decide (r < (0 : Int))) = true then
 Q (-1 : Int) h2
 else
 k (IntKind.wrap .i64 (i + (IntKind.wrap .i64 (r + (1 : Int))))) h2)) h1)
 else
 k i h1)))
 (fun i1 h2 =>
 (((0 : Int) ≤ (IntKind.wrap .i64 (i1 + (1 : Int))) ∧ (IntKind.wrap .i64 (i1 + (1 : Int))) < (((ByteArray.size s) : Nat) : Int)) ∧ ((((((UInt8.toNat (List.getD s.data.toList (Int.toNat (IntKind.wrap .i64 (i1 + (1 : Int)))) 0)) : Nat) : Int) == (((UInt8.toNat (List.getD substr.data.toList 1 0)) : Nat) : Int)) = true → ((0 : Int) ≤ i1 ∧ (i1 ≤ (IntKind.wrap .i64 (i1 + (((ByteArray.size substr) : Nat) : Int))) ∧ (IntKind.wrap .i64 (i1 + (((ByteArray.size substr) : Nat) : Int))) ≤ (((ByteArray.size s) : Nat) : Int)))) ∧ LetW (((((UInt8.toNat (List.getD s.data.toList (Int.toNat (IntKind.wrap .i64 (i1 + (1 : Int)))) 0)) : Nat) : Int) == (((UInt8.toNat (List.getD substr.data.toList 1 0)) : Nat) : Int)) && ((ByteArray.toList (ByteArray.extract s (Int.toNat i1) (Int.toNat (IntKind.wrap .i64 (i1 + (((ByteArray.size substr) : Nat) : Int)))))) == (ByteArray.toList substr))) fun y2 =>
 (if y2 = true then
 Q i1 h2
 else
 LdW none (shInt .i64) h2 ⟨3, 0, none⟩ fun x1 =>
 EffC (some (decide ((((ByteArray.size substr) : Nat) : Int) ≤ x1))) (CallT P n_internal_bytealg_Cutover [(.int .i64 (IntKind.wrap .i64 (i1 + (1 : Int))))] (shInt .i64)) (fun r h3 =>
 LetW ((decide ((((ByteArray.size substr) : Nat) : Int) ≤ x1)) && (decide ((IntKind.wrap .i64 (fails + (1 : Int))) > r))) fun y3 =>
 (if y3 = true then
 (((0 : Int) ≤ (IntKind.wrap .i64 (i1 + (1 : Int))) ∧ (IntKind.wrap .i64 (i1 + (1 : Int))) ≤ (((ByteArray.size s) : Nat) : Int)) ∧ False)
 else
 LdW none (shInt .i64) h3 ⟨3, 0, none⟩ fun x2 =>
 (((decide ((((ByteArray.size substr) : Nat) : Int) > x2)) = true → (0 : Int) ≤ (4 : Int)) ∧ LetW ((decide ((((ByteArray.size substr) : Nat) : Int) > x2)) && (decide ((IntKind.wrap .i64 (fails + (1 : Int))) ≥ (IntKind.wrap .i64 ((4 : Int) + (shrI .i64 (IntKind.wrap .i64 (i1 + (1 : Int))) (4 : Int))))))) fun y4 =>
 LetW (y4 && (decide ((IntKind.wrap .i64 (i1 + (1 : Int))) < (IntKind.wrap .i64 ((IntKind.wrap .i64 ((((ByteArray.size s) : Nat) : Int) - (((ByteArray.size substr) : Nat) : Int))) + (1 : Int)))))) fun y5 =>
 (if y5 = true then
 (((0 : Int) ≤ (IntKind.wrap .i64 (i1 + (1 : Int))) ∧ (IntKind.wrap .i64 (i1 + (1 : Int))) ≤ (((ByteArray.size s) : Nat) : Int)) ∧ CallT P n_internal_bytealg_IndexRabinKarp_string [(.string (ByteArray.extract s (Int.toNat (IntKind.wrap .i64 (i1 + (1 : Int)))) (ByteArray.size s))), (.string substr)] (shInt .i64) (fun r1 h4 =>
 (if (decide (r1 < (0 : Int))) = true then
 Q (-1 : Int) h4
 else
 Q (IntKind.wrap .i64 ((IntKind.wrap .i64 (i1 + (1 : Int))) + r1)) h4)) h3)
 else
 again (IntKind.wrap .i64 (i1 + (1 : Int))) (IntKind.wrap .i64 (fails + (1 : Int))) h3)))) h2))))
 else
 Q (-1 : Int) h1)) (0 : Int) (0 : Int) h))))))

def internal_strconv_ftoa64_w (P : Program) (dst : Sl) (val : Nat) (fmt : Int) (prec : Int) (Q : (Sl → (Hp → Prop))) (h : Hp) : Prop :=
 JoinW4 (α1 := Int) (α2 := Int) (α3 := Int) (α4 := Int) (fun k =>
 SemE P (Extern.MathFloatBits.float64bits #[(.float .f64 val)]) (shInt .u64) (fun r h1 =>
 k r (11 : Int) (52 : Int) (-1023 : Int) h1) h)
 (fun b expBits mantBits bias h1 =>
 ((0 : Int) ≤ (IntKind.wrap .i64 (expBits + mantBits)) ∧ ((0 : Int) ≤ mantBits ∧ ((0 : Int) ≤ expBits ∧ ((0 : Int) ≤ mantBits ∧ ((0 : Int) ≤ expBits ∧ (if ((bitsI .and .i64 (IntKind.wrap .i64 (shrI .u64 b mantBits)) (IntKind.wrap .i64 ((shlI .i64 (1 : Int) expBits) - (1 : Int)))) == (IntKind.wrap .i64 ((shlI .i64 (1 : Int) expBits) - (1 : Int)))) = true then
 (if ((bitsI .and .u64 b (IntKind.wrap .u64 ((shlI .u64 (1 : Int) mantBits) - (1 : Int)))) != (0 : Int)) = true then
 AppendStrW dst ⟨#[78, 97, 78]⟩ (fun r h2 =>
 Q r h2) h1
 else
 (if ((shrI .u64 b (IntKind.wrap .i64 (expBits + mantBits))) != (0 : Int)) = true then
 AppendStrW dst ⟨#[45, 73, 110, 102]⟩ (fun r h2 =>
 Q r h2) h1
 else
 AppendStrW dst ⟨#[43, 73, 110, 102]⟩ (fun r h2 =>
 Q r h2) h1))
 else
 JoinW2 (α1 := Int) (α2 := Int) (fun k =>
 (if ((bitsI .and .i64 (IntKind.wrap .i64 (shrI .u64 b mantBits)) (IntKind.wrap .i64 ((shlI .i64 (1 : Int) expBits) - (1 : Int)))) == (0 : Int)) = true then
 k (IntKind.wrap .i64 ((bitsI .and .i64 (IntKind.wrap .i64 (shrI .u64 b mantBits)) (IntKind.wrap .i64 ((shlI .i64 (1 : Int) expBits) - (1 : Int)))) + (1 : Int))) (bitsI .and .u64 b (IntKind.wrap .u64 ((shlI .u64 (1 : Int) mantBits) - (1 : Int)))) h1
 else
 ((0 : Int) ≤ mantBits ∧ k (bitsI .and .i64 (IntKind.wrap .i64 (shrI .u64 b mantBits)) (IntKind.wrap .i64 ((shlI .i64 (1 : Int) expBits) - (1 : Int)))) (bitsI .or .u64 (bitsI .and .u64 b (IntKind.wrap .u64 ((shlI .u64 (1 : Int) mantBits) - (1 : Int)))) (shlI .u64 (1 : Int) mantBits)) h1)))
 (fun exp mant h2 =>
 (if (fmt == (98 : Int)) = true then
 CallT P n_internal_strconv_fmtB [dst.v, (.bool ((shrI .u64 b (IntKind.wrap .i64 (expBits + mantBits))) != (0 : Int))), (.int .u64 mant), (.int .i64 (IntKind.wrap .i64 ((IntKind.wrap .i64 (exp + bias)) - mantBits)))] shSl (fun r h3 =>
 Q r h3) h2
 else
 LetW ((fmt == (120 : Int)) || (fmt == (88 : Int))) fun y =>
 (if y = true then
 CallT P n_internal_strconv_fmtX [dst.v, (.int .i64 prec), (.int .u8 fmt), (.bool ((shrI .u64 b (IntKind.wrap .i64 (expBits + mantBits))) != (0 : Int))), (.int .u64 mant), (.int .i64 (IntKind.wrap .i64 (exp + bias))), (.int .i64 mantBits)] shSl (fun r h3 =>
 Q r h3) h2
 else
 (if (mant == (0 : Int)) = true then
 CallT P n_internal_strconv_fmtEFG [dst.v, (.bool ((shrI .u64 b (IntKind.wrap .i64 (expBits + mantBits))) != (0 : Int))), (.slice none 0 0), (.int .i64 (0 : Int)), (.int .i64 (0 : Int)), (.int .i64 prec), (.int .u8 fmt), (.bool (decide (prec < (0 : Int))))] shSl (fun r h3 =>
 Q r h3) h2
 else
 (if (decide (prec < (0 : Int))) = true then
 NewW [(.int .u8 (0 : Int)), (.int .u8 (0 : Int)), (.int .u8 (0 : Int)), (.int .u8 (0 : Int)), (.int .u8 (0 : Int)), (.int .u8 (0 : Int)), (.int .u8 (0 : Int)), (.int .u8 (0 : Int)), (.int .u8 (0 : Int)), (.int .u8 (0 : Int)), (.int .u8 (0 : Int)), (.int .u8 (0 : Int)), (.int .u8 (0 : Int)), (.int .u8 (0 : Int)), (.int .u8 (0 : Int)), (.int .u8 (0 : Int)), (.int .u8 (0 : Int)), (.int .u8 (0 : Int)), (.int .u8 (0 : Int)), (.int .u8 (0 : Int)), (.int .u8 (0 : Int)), (.int .u8 (0 : Int)), (.int .u8 (0 : Int)), (.int .u8 (0 : Int)), (.int .u8 (0 : Int)), (.int .u8 (0 : Int)), (.int .u8 (0 : Int)), (.int .u8 (0 : Int)), (.int .u8 (0 : Int)), (.int .u8 (0 : Int)), (.int .u8 (0 : Int)), (.int .u8 (0 : Int))] (fun a h3 =>
 CallT P n_math_bits_Len64 [(.int .u64 mant)] (shInt .i64) (fun r h4 =>
 ((0 : Int) ≤ (IntKind.wrap .i64 ((64 : Int) - r)) ∧ Call2 P n_internal_strconv_shortFloat_float64 [(.int .u64 (shlI .u64 mant (IntKind.wrap .i64 ((64 : Int) - r)))), (.int .i64 (IntKind.wrap .i64 ((IntKind.wrap .i64 ((IntKind.wrap .i64 (exp + bias)) - (IntKind.wrap .i64 ((64 : Int) - r)))) - mantBits)))] (shInt .u64) (shInt .i64) (fun r1 r2 h5 =>
 LetW (α := Sl) ⟨(sbase (some a) 1 0 32), 32, 32⟩ fun y1 =>
 CallT P n_internal_strconv_numDigits [(.int .u64 r1)] (shInt .i64) (fun r3 h6 =>
 Call2 P n_internal_strconv_setDigits [y1.v, (.int .u64 r1), (.int .i64 r2), (.int .i64 r3)] (shInt .i64) (shInt .i64) (fun r4 r5 h7 =>
 JoinW1 (α1 := Int) (fun k =>
 JoinW1 (α1 := Bool) (fun k1 =>
 (if (fmt == (101 : Int)) = true then
 k1 (fmt == (101 : Int)) h7
 else
 k1 (fmt == (69 : Int)) h7))
 (fun t149 h8 =>
 (if t149 = true then
 k (max2I (IntKind.wrap .i64 (r5 - (1 : Int))) (0 : Int)) h8
 else
 (if (fmt == (102 : Int)) = true then
 k (max2I (IntKind.wrap .i64 (r5 - r4)) (0 : Int)) h8
 else
 JoinW1 (α1 := Bool) (fun k1 =>
 (if (fmt == (103 : Int)) = true then
 k1 (fmt == (103 : Int)) h8
 else
 k1 (fmt == (71 : Int)) h8))
 (fun t161 h9 =>
 (if t161 = true then
 k r5 h9
 else
 k prec h9))))))
 (fun prec1 h8 =>
 LetW (α := Sl) ⟨(sbase (some a) 1 0 32), 32, 32⟩ fun y2 =>
 CallT P n_internal_strconv_fmtEFG [dst.v, (.bool ((shrI .u64 b (IntKind.wrap .i64 (expBits + mantBits))) != (0 : Int))), y2.v, (.int .i64 r4), (.int .i64 r5), (.int .i64 prec1), (.int .u8 fmt), (.bool true)] shSl (fun r6 h9 =>
 Q r6 h9) h8)) h6) h5) h4)) h3) h2
 else
 JoinW1 (α1 := Int) (fun k =>
 LdW none shBool h2 ⟨4, 0, none⟩ fun x =>
 (if x = true then
 JoinW2 (α1 := Int) (α2 := Int) (fun k1 =>
 (if (fmt == (102 : Int)) = true then
 (if (decide ((IntKind.wrap .i64 (exp + bias)) ≥ (0 : Int))) = true then
 CallT P n_internal_strconv_log10Pow2 [(.int .i64 (IntKind.wrap .i64 ((1 : Int) + (IntKind.wrap .i64 (exp + bias)))))] (shInt .i64) (fun r h3 =>
 k1 prec (IntKind.wrap .i64 ((IntKind.wrap .i64 ((1 : Int) + r)) + prec)) h3) h2
 else
 CallT P n_internal_strconv_log10Pow2 [(.int .i64 (IntKind.wrap .i64 ((0 : Int) - (IntKind.wrap .i64 (exp + bias)))))] (shInt .i64) (fun r h3 =>
 k1 prec (IntKind.wrap .i64 ((IntKind.wrap .i64 ((1 : Int) + prec)) - r)) h3) h2)
 else
 JoinW1 (α1 := Bool) (fun k2 =>
 (if (fmt == (101 : Int)) = true then
 k2 (fmt == (101 : Int)) h2
 else
 k2 (fmt == (69 : Int)) h2))
 (fun t192 h3 =>
 (if t192 = true then
 k1 prec (IntKind.wrap .i64 (prec + (1 : Int))) h3
 else
 JoinW1 (α1 := Bool) (fun k2 =>
 (if (fmt == (103 : Int)) = true then
 k2 (fmt == (103 : Int)) h3
 else
 k2 (fmt == (71 : Int)) h3))
 (fun t197 h4 =>
 (if t197 = true then
 JoinW1 (α1 := Int) (fun k2 =>
 (if (prec == (0 : Int)) = true then
 k2 (1 : Int) h4
 else
 k2 prec h4))
 (fun prec1 h5 =>
 k1 prec1 prec1 h5)
 else
 k1 prec (1 : Int) h4))))))
 (fun prec1 digits h3 =>
 (if (decide (digits ≤ (18 : Int))) = true then
 NewW [(.int .u8 (0 : Int)), (.int .u8 (0 : Int)), (.int .u8 (0 : Int)), (.int .u8 (0 : Int)), (.int .u8 (0 : Int)), (.int .u8 (0 : Int)), (.int .u8 (0 : Int)), (.int .u8 (0 : Int)), (.int .u8 (0 : Int)), (.int .u8 (0 : Int)), (.int .u8 (0 : Int)), (.int .u8 (0 : Int)), (.int .u8 (0 : Int)), (.int .u8 (0 : Int)), (.int .u8 (0 : Int)), (.int .u8 (0 : Int)), (.int .u8 (0 : Int)), (.int .u8 (0 : Int)), (.int .u8 (0 : Int)), (.int .u8 (0 : Int)), (.int .u8 (0 : Int)), (.int .u8 (0 : Int)), (.int .u8 (0 : Int)), (.int .u8 (0 : Int))] (fun a h4 =>
 JoinW2 (α1 := Int) (α2 := Int) (fun k1 =>
 (if (decide (digits > (0 : Int))) = true then
 CallT P n_math_bits_Len64 [(.int .u64 mant)] (shInt .i64) (fun r h5 =>
 ((0 : Int) ≤ (IntKind.wrap .i64 ((64 : Int) - r)) ∧ Call2 P n_internal_strconv_fixedWidthFloat [(.int .u64 (shlI .u64 mant (IntKind.wrap .i64 ((64 : Int) - r)))), (.int .i64 (IntKind.wrap .i64 ((IntKind.wrap .i64 ((IntKind.wrap .i64 (exp + bias)) - (IntKind.wrap .i64 ((64 : Int) - r)))) - mantBits))), (.int .i64 digits), (.int .i64 prec1), (.int .u8 fmt)] (shInt .u64) (shInt .i64) (fun r1 r2 h6 =>
 (if (r1 != (0 : Int)) = true then
 LetW (α := Sl) ⟨(sbase (some a) 1 0 24), 24, 24⟩ fun y1 =>
 CallT P n_internal_strconv_numDigits [(.int .u64 r1)] (shInt .i64) (fun r3 h7 =>
 Call2 P n_internal_strconv_setDigits [y1.v, (.int .u64 r1), (.int .i64 r2), (.int .i64 r3)] (shInt .i64) (shInt .i64) (fun r4 r5 h8 =>
 k1 r4 r5 h8) h7) h6
 else
 k1 (0 : Int) (0 : Int) h6)) h5)) h4
 else
 k1 (0 : Int) (0 : Int) h4))
 (fun dp nd h5 =>
 LetW (α := Sl) ⟨(sbase (some a) 1 0 24), 24, 24⟩ fun y1 =>
 CallT P n_internal_strconv_fmtEFG [dst.v, (.bool ((shrI .u64 b (IntKind.wrap .i64 (expBits + mantBits))) != (0 : Int))), y1.v, (.int .i64 dp), (.int .i64 nd), (.int .i64 prec1), (.int .u8 fmt), (.bool false)] shSl (fun r h6 =>
 Q r h6) h5)) h3
 else
 k prec1 h3))
 else
 k prec h2))
 (fun prec1 h3 =>
 NewW [(.int .u8 (0 : Int)), (.int .u8 (0 : Int)), (.int .u8 (0 : Int)), (.int .u8 (0 : Int)), (.int .u8 (0 : Int)), (.int .u8 (0 : Int)), (.int .u8 (0 : Int)), (.int .u8 (0 : Int)), (.int .u8 (0 : Int)), (.int .u8 (0 : Int)), (.int .u8 (0 : Int)), (.int .u8 (0 : Int)), (.int .u8 (0 : Int)), (.int .u8 (0 : Int)), (.int .u8 (0 : Int)), (.int .u8 (0 : Int)), (.int .u8 (0 : Int)), (.int .u8 (0 : Int)), (.int .u8 (0 : Int)), (.int .u8 (0 : Int)), (.int .u8 (0 : Int)), (.int .u8 (0 : Int)), (.int .u8 (0 : Int)), (.int .u8 (0 : Int)), (.int .u8 (0 : Int)), (.int .u8 (0 : Int)), (.int .u8 (0 : Int)), (.int .u8 (0 : Int)), (.int .u8 (0 : Int)), (.int .u8 (0 : Int)), (.int .u8 (0 : Int)), (.int .u8 (0 : Int)), (.int .u8 (0 : Int)), (.int .u8 (0 : Int)), (.int .u8 (0 : Int)), (.int .u8 (0 : Int)), (.int .u8 (0 : Int)), (.int .u8 (0 : Int)), (.int .u8 (0 : Int)), (.int .u8 (0 : Int)), (.int .u8 (0 : Int)), (.int .u8 (0 : Int)), (.int .u8 (0 : Int)), (.int .u8 (0 : Int)), (.int .u8 (0 : Int)), (.int .u8 (0 : Int)), (.int .u8 (0 : Int)), (.int .u8 (0 : Int)), (.int .u8 (0 : Int)), (.int .u8 (0 : Int)), (.int .u8 (0 : Int)), (.int .u8 (0 : Int)), (.int .u8 (0 : Int)), (.int .u8 (0 : Int)), (.int .u8 (0 : Int)), (.int .u8 (0 : Int)), (.int .u8 (0 : Int)), (.int .u8 (0 : Int)), (.int .u8 (0 : Int)), (.int .u8 (0 : Int)), (.int .u8 (0 : Int)), (.int .u8 (0 : Int)), (.int .u8 (0 : Int)), (.int .u8 (0 : Int)), (.int .u8 (0 : Int)), (.int .u8 (0 : Int)), (.int .u8 (0 : Int)), (.int .u8 (0 : Int)), (.int .u8 (0 : Int)), (.int .u8 (0 : Int)), (.int .u8 (0 : Int)), (.int .u8 (0 : Int)), (.int .u8 (0 : Int)), (.int .u8 (0 : Int)), (.int .u8 (0 : Int)), (.int .u8 (0 : Int)), (.int .u8 (0 : Int)), (.int .u8 (0 : Int)), (.int .u8 (0 : Int)), (.int .u8 (0 : Int)), (.int .u8 (0 : Int)), (.int .u8 (0 : Int)), (.int .u8 (0 : Int)), (.int .u8 (0 : Int)), (.int .u8 (0 : Int)), (.int .u8 (0 : Int)), (.int .u8 (0 : Int)), (.int .u8 (0 : Int)), (.int .u8 (0 : Int)), (.int .u8 (0 : Int)), (.int .u8 (0 : Int)), (.int .u8 (0 : Int)), (.int .u8 (0 : Int)), (.int .u8 (0 : Int)), (.int .u8 (0 : Int)), (.int .u8 (0 : Int)), (.int .u8 (0 : Int)), (.int .u8 (0 : Int)), (.int .u8 (0 : Int)), (.int .u8 (0 : Int)), (.int .u8 (0 : Int)), (.int .u8 (0 : Int)), (.int .u8 (0 : Int)), (.int .u8 (0 : Int)), (.int .u8 (0 : Int)), (.int .u8 (0 : Int)), (.int .u8 (0 : Int)), (.int .u8 (0 : Int)), (.int .u8 (0 : Int)), (.int .u8 (0 : Int)), (.int .u8 (0 : Int)), (.int .u8 (0 : Int)), (.int .u8 (0 : Int)), (.int .u8 (0 : Int)), (.int .u8 (0 : Int)), (.int .u8 (0 : Int)), (.int .u8 (0 : Int)), (.int .u8 (0 : Int)), (.int .u8 (0 : Int)), (.int .u8 (0 : Int)), (.int .u8 (0 : Int)), (.int .u8 (0 : Int)), (.int .u8 (0 : Int)), (.int .u8 (0 : Int)), (.int .u8 (0 : Int)), (.int .u8 (0 : Int)), (.int .u8 (0 : Int)), (.int .u8 (0 : Int)), (.int .u8 (0 : Int)), (.int .u8 (0 : Int)), (.int .u8 (0 : Int)), (.int .u8 (0 : Int)), (.int .u8 (0 : Int)), (.int .u8 (0 : Int)), (.int .u8 (0 : Int)), (.int .u8 (0 : Int)), (.int .u8 (0 : Int)), (.int .u8 (0 : Int)), (.int .u8 (0 : Int)), (.int .u8 (0 : Int)), (.int .u8 (0 : Int)), (.int .u8 (0 : Int)), (.int .u8 (0 : Int)), (.int .u8 (0 : Int)), (.int .u8 (0 : Int)), (.int .u8 (0 : Int)), (.int .u8 (0 : Int)), (.int .u8 (0 : Int)), (.int .u8 (0 : Int)), (.int .u8 (0 : Int)), (.int .u8 (0 : Int)), (.int .u8 (0 : Int)), (.int .u8 (0 : Int)), (.int .u8 (0 : Int)), (.int .u8 (0 : Int)), (.int .u8 (0 : Int)), (.int .u8 (0 : Int)), (.int .u8 (0 : Int)), (.int .u8 (0 : Int)), (.int .u8 (0 : Int)), (.int .u8 (0 : Int)), (.int .u8 (0 : Int)), (.int .u8 (0 : Int)), (.int .u8 (0 : Int)), (.int .u8 (0 : Int)), (.int .u8 (0 : Int)), (.int .u8 (0 : Int)), (.int .u8 (0 : Int)), (.int .u8 (0 : Int)), (.int .u8 (0 : Int)), (.int .u8 (0 : Int)), (.int .u8 (0 : Int)), (.int .u8 (0 : Int)), (.int .u8 (0 : Int)), (.int .u8 (0 : Int)), (.int .u8 (0 : Int)), (.int .u8 (0 : Int)), (.int .u8 (0 : Int)), (.int .u8 (0 : Int)), (.int .u8 (0 : Int)), (.int .u8 (0 : Int)), (.int .u8 (0 : Int)), (.int .u8 (0 : Int)), (.int .u8 (0 : Int)), (.int .u8 (0 : Int)), (.int .u8 (0 : Int)), (.int .u8 (0 : Int)), (.int .u8 (0 : Int)), (.int .u8 (0 : Int)), (.int .u8 (0 : Int)), (.int .u8 (0 : Int)), (.int .u8 (0 : Int)), (.int .u8 (0 : Int)), (.int .u8 (0 : Int)), (.int .u8 (0 : Int)), (.int .u8 (0 : Int)), (.int .u8 (0 : Int)), (.int .u8 (0 : Int)), (.int .u8 (0 : Int)), (.int .u8 (0 : Int)), (.int .u8 (0 : Int)), (.int .u8 (0 : Int)), (.int .u8 (0 : Int)), (.int .u8 (0 : Int)), (.int .u8 (0 : Int)), (.int .u8 (0 : Int)), (.int .u8 (0 : Int)), (.int .u8 (0 : Int)), (.int .u8 (0 : Int)), (.int .u8 (0 : Int)), (.int .u8 (0 : Int)), (.int .u8 (0 : Int)), (.int .u8 (0 : Int)), (.int .u8 (0 : Int)), (.int .u8 (0 : Int)), (.int .u8 (0 : Int)), (.int .u8 (0 : Int)), (.int .u8 (0 : Int)), (.int .u8 (0 : Int)), (.int .u8 (0 : Int)), (.int .u8 (0 : Int)), (.int .u8 (0 : Int)), (.int .u8 (0 : Int)), (.int .u8 (0 : Int)), (.int .u8 (0 : Int)), (.int .u8 (0 : Int)), (.int .u8 (0 : Int)), (.int .u8 (0 : Int)), (.int .u8 (0 : Int)), (.int .u8 (0 : Int)), (.int .u8 (0 : Int)), (.int .u8 (0 : Int)), (.int .u8 (0 : Int)), (.int .u8 (0 : Int)), (.int .u8 (0 : Int)), (.int .u8 (0 : Int)), (.int .u8 (0 : Int)), (.int .u8 (0 : Int)), (.int .u8 (0 : Int)), (.int .u8 (0 : Int)), (.int .u8 (0 : Int)), (.int .u8 (0 : Int)), (.int .u8 (0 : Int)), (.int .u8 (0 : Int)), (.int .u8 (0 : Int)), (.int .u8 (0 : Int)), (.int .u8 (0 : Int)), (.int .u8 (0 : Int)), (.int .u8 (0 : Int)), (.int .u8 (0 : Int)), (.int .u8 (0 : Int)), (.int .u8 (0 : Int)), (.int .u8 (0 : Int)), (.int .u8 (0 : Int)), (.int .u8 (0 : Int)), (.int .u8 (0 : Int)), (.int .u8 (0 : Int)), (.int .u8 (0 : Int)), (.int .u8 (0 : Int)), (.int .u8 (0 : Int)), (.int .u8 (0 : Int)), (.int .u8 (0 : Int)), (.int .u8 (0 : Int)), (.int .u8 (0 : Int)), (.int .u8 (0 : Int)), (.int .u8 (0 : Int)), (.int .u8 (0 : Int)), (.int .u8 (0 : Int)), (.int .u8 (0 : Int)), (.int .u8 (0 : Int)), (.int .u8 (0 : Int)), (.int .u8 (0 : Int)), (.int .u8 (0 : Int)), (.int .u8 (0 : Int)), (.int .u8 (0 : Int)), (.int .u8 (0 : Int)), (.int .u8 (0 : Int)), (.int .u8 (0 : Int)), (.int .u8 (0 : Int)), (.int .u8 (0 : Int)), (.int .u8 (0 : Int)), (.int .u8 (0 : Int)), (.int .u8 (0 : Int)), (.int .u8 (0 : Int)), (.int .u8 (0 : Int)), (.int .u8 (0 : Int)), (.int .u8 (0 : Int)), (.int .u8 (0 : Int)), (.int .u8 (0 : Int)), (.int .u8 (0 : Int)), (.int .u8 (0 : Int)), (.int .u8 (0 : Int)), (.int .u8 (0 : Int)), (.int .u8 (0 : Int)), (.int .u8 (0 : Int)), (.int .u8 (0 : Int)), (.int .u8 (0 : Int)), (.int .u8 (0 : Int)), (.int .u8 (0 : Int)), (.int .u8 (0 : Int)), (.int .u8 (0 : Int)), (.int .u8 (0 : Int)), (.int .u8 (0 : Int)), (.int .u8 (0 : Int)), (.int .u8 (0 : Int)), (.int .u8 (0 : Int)), (.int .u8 (0 : Int)), (.int .u8 (0 : Int)), (.int .u8 (0 : Int)), (.int .u8 (0 : Int)), (.int .u8 (0 : Int)), (.int .u8 (0 : Int)), (.int .u8 (0 : Int)), (.int .u8 (0 : Int)), (.int .u8 (0 : Int)), (.int .u8 (0 : Int)), (.int .u8 (0 : Int)), (.int .u8 (0 : Int)), (.int .u8 (0 : Int)), (.int .u8 (0 : Int)), (.int .u8 (0 : Int)), (.int .u8 (0 : Int)), (.int .u8 (0 : Int)), (.int .u8 (0 : Int)), (.int .u8 (0 : Int)), (.int .u8 (0 : Int)), (.int .u8 (0 : Int)), (.int .u8 (0 : Int)), (.int .u8 (0 : Int)), (.int .u8 (0 : Int)), (.int .u8 (0 : Int)), (.int .u8 (0 : Int)), (.int .u8 (0 : Int)), (.int .u8 (0 : Int)), (.int .u8 (0 : Int)), (.int .u8 (0 : Int)), (.int .u8 (0 : Int)), (.int .u8 (0 : Int)), (.int .u8 (0 : Int)), (.int .u8 (0 : Int)), (.int .u8 (0 : Int)), (.int .u8 (0 : Int)), (.int .u8 (0 : Int)), (.int .u8 (0 : Int)), (.int .u8 (0 : Int)), (.int .u8 (0 : Int)), (.int .u8 (0 : Int)), (.int .u8 (0 : Int)), (.int .u8 (0 : Int)), (.int .u8 (0 : Int)), (.int .u8 (0 : Int)), (.int .u8 (0 : Int)), (.int .u8 (0 : Int)), (.int .u8 (0 : Int)), (.int .u8 (0 : Int)), (.int .u8 (0 : Int)), (.int .u8 (0 : Int)), (.int .u8 (0 : Int)), (.int .u8 (0 : Int)), (.int .u8 (0 : Int)), (.int .u8 (0 : Int)), (.int .u8 (0 : Int)), (.int .u8 (0 : Int)), (.int .u8 (0 : Int)), (.int .u8 (0 : Int)), (.int .u8 (0 : Int)), (.int .u8 (0 : Int)), (.int .u8 (0 : Int)), (.int .u8 (0 : Int)), (.int .u8 (0 : Int)), (.int .u8 (0 : Int)), (.int .u8 (0 : Int)), (.int .u8 (0 : Int)), (.int .u8 (0 : Int)), (.int .u8 (0 : Int)), (.int .u8 (0 : Int)), (.int .u8 (0 : Int)), (.int .u8 (0 : Int)), (.int .u8 (0 : Int)), (.int .u8 (0 : Int)), (.int .u8 (0 : Int)), (.int .u8 (0 : Int)), (.int .u8 (0 : Int)), (.int .u8 (0 : Int)), (.int .u8 (0 : Int)), (.int .u8 (0 : Int)), (.int .u8 (0 : Int)), (.int .u8 (0 : Int)), (.int .u8 (0 : Int)), (.int .u8 (0 : Int)), (.int .u8 (0 : Int)), (.int .u8 (0 : Int)), (.int .u8 (0 : Int)), (.int .u8 (0 : Int)), (.int .u8 (0 : Int)), (.int .u8 (0 : Int)), (.int .u8 (0 : Int)), (.int .u8 (0 : Int)), (.int .u8 (0 : Int)), (.int .u8 (0 : Int)), (.int .u8 (0 : Int)), (.int .u8 (0 : Int)), (.int .u8 (0 : Int)), (.int .u8 (0 : Int)), (.int .u8 (0 : Int)), (.int .u8 (0 : Int)), (.int .u8 (0 : Int)), (.int .u8 (0 : Int)), (.int .u8 (0 : Int)), (.int .u8 (0 : Int)), (.int .u8 (0 : Int)), (.int .u8 (0 : Int)), (.int .u8 (0 : Int)), (.int .u8 (0 : Int)), (.int .u8 (0 : Int)), (.int .u8 (0 : Int)), (.int .u8 (0 : Int)), (.int .u8 (0 : Int)), (.int .u8 (0 : Int)), (.int .u8 (0 : Int)), (.int .u8 (0 : Int)), (.int .u8 (0 : Int)), (.int .u8 (0 : Int)), (.int .u8 (0 : Int)), (.int .u8 (0 : Int)), (.int .u8 (0 : Int)), (.int .u8 (0 : Int)), (.int .u8 (0 : Int)), (.int .u8 (0 : Int)), (.int .u8 (0 : Int)), (.int .u8 (0 : Int)), (.int .u8 (0 : Int)), (.int .u8 (0 : Int)), (.int .u8 (0 : Int)), (.int .u8 (0 : Int)), (.int .u8 (0 : Int)), (.int .u8 (0 : Int)), (.int .u8 (0 : Int)), (.int .u8 (0 : Int)), (.int .u8 (0 : Int)), (.int .u8 (0 : Int)), (.int .u8 (0 : Int)), (.int .u8 (0 : Int)), (.int .u8 (0 : Int)), (.int .u8 (0 : Int)), (.int .u8 (0 : Int)), (.int .u8 (0 : Int)), (.int .u8 (0 : Int)), (.int .u8 (0 : Int)), (.int .u8 (0 : Int)), (.int .u8 (0 : Int)), (.int .u8 (0 : Int)), (.int .u8 (0 : Int)), (.int .u8 (0 : Int)), (.int .u8 (0 : Int)), (.int .u8 (0 : Int)), (.int .u8 (0 : Int)), (.int .u8 (0 : Int)), (.int .u8 (0 : Int)), (.int .u8 (0 : Int)), (.int .u8 (0 : Int)), (.int .u8 (0 : Int)), (.int .u8 (0 : Int)), (.int .u8 (0 : Int)), (.int .u8 (0 : Int)), (.int .u8 (0 : Int)), (.int .u8 (0 : Int)), (.int .u8 (0 : Int)), (.int .u8 (0 : Int)), (.int .u8 (0 : Int)), (.int .u8 (0 : Int)), (.int .u8 (0 : Int)), (.int .u8 (0 : Int)), (.int .u8 (0 : Int)), (.int .u8 (0 : Int)), (.int .u8 (0 : Int)), (.int .u8 (0 : Int)), (.int .u8 (0 : Int)), (.int .u8 (0 : Int)), (.int .u8 (0 : Int)), (.int .u8 (0 : Int)), (.int .u8 (0 : Int)), (.int .u8 (0 : Int)), (.int .u8 (0 : Int)), (.int .u8 (0 : Int)), (.int .u8 (0 : Int)), (.int .u8 (0 : Int)), (.int .u8 (0 : Int)), (.int .u8 (0 : Int)), (.int .u8 (0 : Int)), (.int .u8 (0 : Int)), (.int .u8 (0 : Int)), (.int .u8 (0 : Int)), (.int .u8 (0 : Int)), (.int .u8 (0 : Int)), (.int .u8 (0 : Int)), (.int .u8 (0 : Int)), (.int .u8 (0 : Int)), (.int .u8 (0 : Int)), (.int .u8 (0 : Int)), (.int .u8 (0 : Int)), (.int .u8 (0 : Int)), (.int .u8 (0 : Int)), (.int .u8 (0 : Int)), (.int .u8 (0 : Int)), (.int .u8 (0 : Int)), (.int .u8 (0 : Int)), (.int .u8 (0 : Int)), (.int .u8 (0 : Int)), (.int .u8 (0 : Int)), (.int .u8 (0 : Int)), (.int .u8 (0 : Int)), (.int .u8 (0 : Int)), (.int .u8 (0 : Int)), (.int .u8 (0 : Int)), (.int .u8 (0 : Int)), (.int .u8 (0 : Int)), (.int .u8 (0 : Int)), (.int .u8 (0 : Int)), (.int .u8 (0 : Int)), (.int .u8 (0 : Int)), (.int .u8 (0 : Int)), (.int .u8 (0 : Int)), (.int .u8 (0 : Int)), (.int .u8 (0 : Int)), (.int .u8 (0 : Int)), (.int .u8 (0 : Int)), (.int .u8 (0 : Int)), (.int .u8 (0 : Int)), (.int .u8 (0 : Int)), (.int .u8 (0 : Int)), (.int .u8 (0 : Int)), (.int .u8 (0 : Int)), (.int .u8 (0 : Int)), (.int .u8 (0 : Int)), (.int .u8 (0 : Int)), (.int .u8 (0 : Int)), (.int .u8 (0 : Int)), (.int .u8 (0 : Int)), (.int .u8 (0 : Int)), (.int .u8 (0 : Int)), (.int .u8 (0 : Int)), (.int .u8 (0 : Int)), (.int .u8 (0 : Int)), (.int .u8 (0 : Int)), (.int .u8 (0 : Int)), (.int .u8 (0 : Int)), (.int .u8 (0 : Int)), (.int .u8 (0 : Int)), (.int .u8 (0 : Int)), (.int .u8 (0 : Int)), (.int .u8 (0 : Int)), (.int .u8 (0 : Int)), (.int .u8 (0 : Int)), (.int .u8 (0 : Int)), (.int .u8 (0 : Int)), (.int .u8 (0 : Int)), (.int .u8 (0 : Int)), (.int .u8 (0 : Int)), (.int .u8 (0 : Int)), (.int .u8 (0 : Int)), (.int .u8 (0 : Int)), (.int .u8 (0 : Int)), (.int .u8 (0 : Int)), (.int .u8 (0 : Int)), (.int .u8 (0 : Int)), (.int .u8 (0 : Int)), (.int .u8 (0 : Int)), (.int .u8 (0 : Int)), (.int .u8 (0 : Int)), (.int .u8 (0 : Int)), (.int .u8 (0 : Int)), (.int .u8 (0 : Int)), (.int .u8 (0 : Int)), (.int .u8 (0 : Int)), (.int .u8 (0 : Int)), (.int .u8 (0 : Int)), (.int .u8 (0 : Int)), (.int .u8 (0 : Int)), (.int .u8 (0 : Int)), (.int .u8 (0 : Int)), (.int .u8 (0 : Int)), (.int .u8 (0 : Int)), (.int .u8 (0 : Int)), (.int .u8 (0 : Int)), (.int .u8 (0 : Int)), (.int .u8 (0 : Int)), (.int .u8 (0 : Int)), (.int .u8 (0 : Int)), (.int .u8 (0 : Int)), (.int .u8 (0 : Int)), (.int .u8 (0 : Int)), (.int .u8 (0 : Int)), (.int .u8 (0 : Int)), (.int .u8 (0 : Int)), (.int .u8 (0 : Int)), (.int .u8 (0 : Int)), (.int .u8 (0 : Int)), (.int .u8 (0 : Int)), (.int .u8 (0 : Int)), (.int .u8 (0 : Int)), (.int .u8 (0 : Int)), (.int .u8 (0 : Int)), (.int .u8 (0 : Int)), (.int .u8 (0 : Int)), (.int .u8 (0 : Int)), (.int .u8 (0 : Int)), (.int .u8 (0 : Int)), (.int .u8 (0 : Int)), (.int .u8 (0 : Int)), (.int .u8 (0 : Int)), (.int .u8 (0 : Int)), (.int .u8 (0 : Int)), (.int .u8 (0 : Int)), (.int .u8 (0 : Int)), (.int .u8 (0 : Int)), (.int .u8 (0 : Int)), (.int .u8 (0 : Int)), (.int .u8 (0 : Int)), (.int .u8 (0 : Int)), (.int .u8 (0 : Int)), (.int .u8 (0 : Int)), (.int .u8 (0 : Int)), (.int .u8 (0 : Int)), (.int .u8 (0 : Int)), (.int .u8 (0 : Int)), (.int .u8 (0 : Int)), (.int .u8 (0 : Int)), (.int .u8 (0 : Int)), (.int .u8 (0 : Int)), (.int .u8 (0 : Int)), (.int .u8 (0 : Int)), (.int .u8 (0 : Int)), (.int .u8 (0 : Int)), (.int .u8 (0 : Int)), (.int .u8 (0 : Int)), (.int .u8 (0 : Int)), (.int .u8 (0 : Int)), (.int .u8 (0 : Int)), (.int .u8 (0 : Int)), (.int .u8 (0 : Int)), (.int .u8 (0 : Int)), (.int .u8 (0 : Int)), (.int .u8 (0 : Int)), (.int .u8 (0 : Int)), (.int .u8 (0 : Int)), (.int .u8 (0 : Int)), (.int .u8 (0 : Int)), (.int .u8 (0 : Int)), (.int .u8 (0 : Int)), (.int .u8 (0 : Int)), (.int .u8 (0 : Int)), (.int .u8 (0 : Int)), (.int .u8 (0 : Int)), (.int .u8 (0 : Int)), (.int .u8 (0 : Int)), (.int .u8 (0 : Int)), (.int .u8 (0 : Int)), (.int .u8 (0 : Int)), (.int .u8 (0 : Int)), (.int .u8 (0 : Int)), (.int .u8 (0 : Int)), (.int .u8 (0 : Int)), (.int .u8 (0 : Int)), (.int .u8 (0 : Int)), (.int .u8 (0 : Int)), (.int .u8 (0 : Int)), (.int .u8 (0 : Int)), (.int .u8 (0 : Int)), (.int .u8 (0 : Int)), (.int .u8 (0 : Int)), (.int .u8 (0 : Int)), (.int .u8 (0 : Int)), (.int .u8 (0 : Int)), (.int .u8 (0 : Int)), (.int .u8 (0 : Int)), (.int .u8 (0 : Int)), (.int .u8 (0 : Int)), (.int .u8 (0 : Int)), (.int .u8 (0 : Int)), (.int .u8 (0 : Int)), (.int .u8 (0 : Int)), (.int .u8 (0 : Int)), (.int .u8 (0 : Int)), (.int .u8 (0 : Int)), (.int .u8 (0 : Int)), (.int .u8 (0 : Int)), (.int .u8 (0 : Int)), (.int .u8 (0 : Int)), (.int .u8 (0 : Int)), (.int .u8 (0 : Int)), (.int .u8 (0 : Int)), (.int .u8 (0 : Int)), (.int .u8 (0 : Int)), (.int .u8 (0 : Int)), (.int .u8 (0 : Int)), (.int .u8 (0 : Int)), (.int .u8 (0 : Int)), (.int .u8 (0 : Int)), (.int .u8 (0 : Int)), (.int .u8 (0 : Int)), (.int .u8 (0 : Int)), (.int .u8 (0 : Int)), (.int .u8 (0 : Int)), (.int .u8 (0 : Int)), (.int .u8 (0 : Int)), (.int .u8 (0 : Int)), (.int .u8 (0 : Int)), (.int .u8 (0 : Int)), (.int .u8 (0 : Int)), (.int .u8 (0 : Int)), (.int .u8 (0 : Int)), (.int .u8 (0 : Int)), (.int .u8 (0 : Int)), (.int .u8 (0 : Int)), (.int .u8 (0 : Int)), (.int .u8 (0 : Int)), (.int .u8 (0 : Int)), (.int .u8 (0 : Int)), (.int .u8 (0 : Int)), (.int .u8 (0 : Int)), (.int .u8 (0 : Int)), (.int .u8 (0 : Int)), (.int .u8 (0 : Int)), (.int .u8 (0 : Int)), (.int .u8 (0 : Int)), (.int .u8 (0 : Int)), (.int .u8 (0 : Int)), (.int .u8 (0 : Int)), (.int .u8 (0 : Int)), (.int .u8 (0 : Int)), (.int .u8 (0 : Int)), (.int .u8 (0 : Int)), (.int .u8 (0 : Int)), (.int .u8 (0 : Int)), (.int .u8 (0 : Int)), (.int .u8 (0 : Int)), (.int .u8 (0 : Int)), (.int .u8 (0 : Int)), (.int .u8 (0 : Int)), (.int .u8 (0 : Int)), (.int .u8 (0 : Int)), (.int .u8 (0 : Int)), (.int .u8 (0 : Int)), (.int .u8 (0 : Int)), (.int .u8 (0 : Int)), (.int .u8 (0 : Int)), (.int .u8 (0 : Int)), (.int .u8 (0 : Int)), (.int .u8 (0 : Int)), (.int .u8 (0 : Int)), (.int .u8 (0 : Int)), (.int .u8 (0 : Int)), (.int .u8 (0 : Int)), (.int .u8 (0 : Int)), (.int .u8 (0 : Int)), (.int .u8 (0 : Int)), (.int .u8 (0 : Int)), (.int .u8 (0 : Int)), (.int .u8 (0 : Int)), (.int .u8 (0 : Int)), (.int .u8 (0 : Int)), (.int .u8 (0 : Int)), (.int .u8 (0 : Int)), (.int .u8 (0 : Int)), (.int .u8 (0 : Int)), (.int .u8 (0 : Int)), (.int .u8 (0 : Int)), (.int .u8 (0 : Int)), (.int .u8 (0 : Int)), (.int .u8 (0 : Int)), (.int .u8 (0 : Int)), (.int .u8 (0 : Int)), (.int .u8 (0 : Int)), (.int .u8 (0 : Int)), (.int .u8 (0 : Int)), (.int .u8 (0 : Int)), (.int .u8 (0 : Int)), (.int .u8 (0 : Int)), (.int .u8 (0 : Int)), (.int .u8 (0 : Int)), (.int .u8 (0 : Int)), (.int .u8 (0 : Int)), (.int .u8 (0 : Int)), (.int .u8 (0 : Int)), (.int .u8 (0 : Int)), (.int .u8 (0 : Int)), (.int .u8 (0 : Int)), (.int .u8 (0 : Int)), (.int .u8 (0 : Int)), (.int .u8 (0 : Int)), (.int .u8 (0 : Int)), (.int .u8 (0 : Int)), (.int .u8 (0 : Int)), (.int .u8 (0 : Int)), (.int .u8 (0 : Int)), (.int .u8 (0 : Int)), (.int .u8 (0 : Int)), (.int .u8 (0 : Int)), (.int .u8 (0 : Int)), (.int .i64 (0 : Int)), (.int .i64 (0 : Int)), (.bool false), (.bool false)] (fun a h4 =>
 Call0 P n_internal_strconv_decimal_Assign [(.pointer (some a)), (.int .u64 mant)] (fun h5 =>
 Call0 P n_internal_strconv_decimal_Shift [(.pointer (some a)), (.int .i64 (IntKind.wrap .i64 ((IntKind.wrap .i64 (exp + bias)) - mantBits)))] (fun h6 =>
 JoinW1 (α1 := Int) (fun k =>
 JoinW1 (α1 := Bool) (fun k1 =>
 (if (fmt == (101 : Int)) = true then
 k1 (fmt == (101 : Int)) h6
 else
 k1 (fmt == (69 : Int)) h6))
 (fun t256 h7 =>
 (if t256 = true then
 Call0 P n_internal_strconv_decimal_Round [(.pointer (some a)), (.int .i64 (IntKind.wrap .i64 (prec1 + (1 : Int))))] (fun h8 =>
 k prec1 h8) h7
 else
 (if (fmt == (102 : Int)) = true then
 NilW none (some a) fun p =>
 LdW none (shInt .i64) h7 (Addr.add p 801) fun x =>
 Call0 P n_internal_strconv_decimal_Round [(.pointer (some a)), (.int .i64 (IntKind.wrap .i64 (x + prec1)))] (fun h8 =>
 k prec1 h8) h7
 else
 JoinW1 (α1 := Bool) (fun k1 =>
 (if (fmt == (103 : Int)) = true then
 k1 (fmt == (103 : Int)) h7
 else
 k1 (fmt == (71 : Int)) h7))
 (fun t273 h8 =>
 (if t273 = true then
 JoinW1 (α1 := Int) (fun k1 =>
 (if (prec1 == (0 : Int)) = true then
 k1 (1 : Int) h8
 else
 k1 prec1 h8))
 (fun prec2 h9 =>
 Call0 P n_internal_strconv_decimal_Round [(.pointer (some a)), (.int .i64 prec2)] (fun h10 =>
 k prec2 h10) h9)
 else
 k prec1 h8))))))
 (fun prec2 h7 =>
 NilW none (some a) fun p =>
 LetW (α := Sl) ⟨(sbase (some (Addr.add p 0)) 1 0 800), 800, 800⟩ fun y1 =>
 NilW none (some a) fun p1 =>
 LdW none (shInt .i64) h7 (Addr.add p1 801) fun x =>
 NilW none (some a) fun p2 =>
 LdW none (shInt .i64) h7 (Addr.add p2 800) fun x1 =>
 CallT P n_internal_strconv_fmtEFG [dst.v, (.bool ((shrI .u64 b (IntKind.wrap .i64 (expBits + mantBits))) != (0 : Int))), y1.v, (.int .i64 x), (.int .i64 x1), (.int .i64 prec2), (.int .u8 fmt), (.bool false)] shSl (fun r h8 =>
 Q r h8) h7)) h5) h4) h3)))))))))))))

def internal_strconv_FormatInt_w (P : Program) (i : Int) (base : Int) (Q : (ByteArray → (Hp → Prop))) (h : Hp) : Prop :=
 (if (base == (10 : Int)) = true then
 LetW ((decide ((0 : Int) ≤ i)) && (decide (i < (100 : Int)))) fun y =>
 (if y = true then
 CallT P n_internal_strconv_small [(.int .i64 i)] shStr (fun r h1 =>
 Q r h1) h
 else
 NewW [(.int .u8 (0 : Int)), (.int .u8 (0 : Int)), (.int .u8 (0 : Int)), (.int .u8 (0 : Int)), (.int .u8 (0 : Int)), (.int .u8 (0 : Int)), (.int .u8 (0 : Int)), (.int .u8 (0 : Int)), (.int .u8 (0 : Int)), (.int .u8 (0 : Int)), (.int .u8 (0 : Int)), (.int .u8 (0 : Int)), (.int .u8 (0 : Int)), (.int .u8 (0 : Int)), (.int .u8 (0 : Int)), (.int .u8 (0 : Int)), (.int .u8 (0 : Int)), (.int .u8 (0 : Int)), (.int .u8 (0 : Int)), (.int .u8 (0 : Int)), (.int .u8 (0 : Int)), (.int .u8 (0 : Int)), (.int .u8 (0 : Int)), (.int .u8 (0 : Int))] (fun a h1 =>
 JoinW1 (α1 := Int) (fun k =>
 (if (decide (i < (0 : Int))) = true then
 k (IntKind.wrap .u64 ((0 : Int) - (IntKind.wrap .u64 i))) h1
 else
 k (IntKind.wrap .u64 i) h1))
 (fun u h2 =>
 CallT P n_internal_strconv_numDigits [(.int .u64 u)] (shInt .i64) (fun r h3 =>
 (((0 : Int) ≤ (1 : Int) ∧ ((1 : Int) ≤ (IntKind.wrap .i64 ((1 : Int) + r)) ∧ (IntKind.wrap .i64 ((1 : Int) + r)) ≤ (24 : Int))) ∧ LetW (α := Sl) ⟨(sbase (some a) 1 1 24), ((Int.toNat (IntKind.wrap .i64 ((1 : Int) + r))) - 1), 23⟩ fun y1 =>
 Call0 P n_internal_strconv_formatBase10 [y1.v, (.int .u64 u)] (fun h4 =>
 (if (decide (i < (0 : Int))) = true then
 (((0 : Int) ≤ (0 : Int) ∧ (0 : Int) < (24 : Int)) ∧ StW h4 (Addr.add a 0) [(.int .u8 (45 : Int))] (fun h5 =>
 (((0 : Int) ≤ (IntKind.wrap .i64 ((1 : Int) + r)) ∧ (IntKind.wrap .i64 ((1 : Int) + r)) ≤ (24 : Int)) ∧ LetW (α := Sl) ⟨(sbase (some a) 1 0 24), ((Int.toNat (IntKind.wrap .i64 ((1 : Int) + r))) - 0), 24⟩ fun y2 =>
 SemV none P (convert 83 9 y2.v) shStr h5 fun x =>
 Q x h5)))
 else
 (((0 : Int) ≤ (1 : Int) ∧ ((1 : Int) ≤ (IntKind.wrap .i64 ((1 : Int) + r)) ∧ (IntKind.wrap .i64 ((1 : Int) + r)) ≤ (24 : Int))) ∧ LetW (α := Sl) ⟨(sbase (some a) 1 1 24), ((Int.toNat (IntKind.wrap .i64 ((1 : Int) + r))) - 1), 23⟩ fun y2 =>
 SemV none P (convert 83 9 y2.v) shStr h4 fun x =>
 Q x h4))) h3)) h2)) h)
 else
 Call2 P n_internal_strconv_formatBits [(.slice none 0 0), (.int .u64 (IntKind.wrap .u64 i)), (.int .i64 base), (.bool (decide (i < (0 : Int)))), (.bool false)] shSl shStr (fun r r1 h1 =>
 Q r1 h1) h)

def internal_strconv_atof64_w (P : Program) (s : ByteArray) (Q : (Nat → (Int → (Leaf → (Hp → Prop))))) (h : Hp) : Prop :=
 Call3 P n_internal_strconv_special [(.string s)] (shFlt .f64) (shInt .i64) shBool (fun r r1 r2 h1 =>
 (if r2 = true then
 EncW shLeaf .nilIface fun e =>
 Q r r1 e h1
 else
 Call7 P n_internal_strconv_readFloat [(.string s)] (shInt .u64) (shInt .i64) shBool shBool shBool (shInt .i64) shBool (fun r3 r4 r5 r6 r7 r8 r9 h2 =>
 (if (!r9) = true then
 EncW shLeaf (.iface 81 (.int .i64 (2 : Int))) fun e =>
 Q 0 r8 e h2
 else
 (if r7 = true then
 (((0 : Int) ≤ r8 ∧ r8 ≤ (((ByteArray.size s) : Nat) : Int)) ∧ Call2 P n_internal_strconv_atofHex [(.string (ByteArray.extract s 0 (Int.toNat r8))), (.pointer (some ⟨6, 0, none⟩)), (.int .u64 r3), (.int .i64 r4), (.bool r5), (.bool r6)] (shFlt .f64) shLeaf (fun r10 r11 h3 =>
 EncW shLeaf r11.v fun e =>
 Q r10 r8 e h3) h2)
 else
 JoinW2 (α1 := Int) (α2 := Leaf) (fun k =>
 LdW none shBool h2 ⟨4, 0, none⟩ fun x =>
 (if x = true then
 CallT P n_internal_strconv_bool2_uint64 [(.bool r5)] (shInt .u64) (fun r10 h3 =>
 ((0 : Int) ≤ (63 : Int) ∧ (if (r3 == (0 : Int)) = true then
 SemE P (Extern.MathFloatBits.float64frombits #[(.int .u64 (bitsI .or .u64 (shlI .u64 r10 (63 : Int)) (0 : Int)))]) (shFlt .f64) (fun r11 h4 =>
 EncW shLeaf .nilIface fun e =>
 Q r11 r8 e h4) h3
 else
 (if (decide (r4 > (310 : Int))) = true then
 SemE P (Extern.MathFloatBits.float64frombits #[(.int .u64 (bitsI .or .u64 (shlI .u64 r10 (63 : Int)) (9218868437227405312 : Int)))]) (shFlt .f64) (fun r11 h4 =>
 EncW shLeaf (.iface 81 (.int .i64 (1 : Int))) fun e =>
 Q r11 r8 e h4) h3
 else
 (if (decide (r4 < (-345 : Int))) = true then
 SemE P (Extern.MathFloatBits.float64frombits #[(.int .u64 (bitsI .or .u64 (shlI .u64 r10 (63 : Int)) (0 : Int)))]) (shFlt .f64) (fun r11 h4 =>
 EncW shLeaf .nilIface fun e =>
 Q r11 r8 e h4) h3
 else
 JoinW2 (α1 := Int) (α2 := Leaf) (fun k1 =>
 (if (!r6) = true then
 Call2 P n_internal_strconv_atof64exact [(.int .u64 r3), (.int .i64 r4), (.bool r5)] (shFlt .f64) shBool (fun r11 r12 h4 =>
 (if r12 = true then
 EncW shLeaf .nilIface fun e =>
 Q r11 r8 e h4
 else
 EncW shLeaf .nilIface fun e =>
 k1 r8 e h4)) h3
 else
 EncW shLeaf .nilIface fun e =>
 k1 r8 e h3))
 (fun n err h4 =>
 Call2 P n_internal_strconv_parseFloat64 [(.int .u64 r3), (.int .i64 r4), (.int .u64 (shlI .u64 r10 (63 : Int)))] (shFlt .f64) shLeaf (fun r11 r12 h5 =>
 (if (!r6) = true then
 EncW shLeaf r12.v fun e =>
 Q r11 n e h5
 else
 Call2 P n_internal_strconv_parseFloat64 [(.int .u64 (IntKind.wrap .u64 (r3 + (1 : Int)))), (.int .i64 r4), (.int .u64 (shlI .u64 r10 (63 : Int)))] (shFlt .f64) shLeaf (fun r13 r14 h6 =>
 SemV none P (binS .eql 34 (.tmp 119) (.tmp 120) (.float .f64 r11) (.float .f64 r13)) shBool h6 fun x1 =>
 (if x1 = true then
 EncW shLeaf r12.v fun e =>
 Q r11 n e h6
 else
 EncW shLeaf err.v fun e =>
 k n e h6)) h5)) h4)))))) h2
 else
 EncW shLeaf .nilIface fun e =>
 k r8 e h2))
 (fun n err h3 =>
 NewW [(.int .u8 (0 : Int)), (.int .u8 (0 : Int)), (.int .u8 (0 : Int)), (.int .u8 (0 : Int)), (.int .u8 (0 : Int)), (.int .u8 (0 : Int)), (.int .u8 (0 : Int)), (.int .u8 (0 : Int)), (.int .u8 (0 : Int)), (.int .u8 (0 : Int)), (.int .u8 (0 : Int)), (.int .u8 (0 : Int)), (.int .u8 (0 : Int)), (.int .u8 (0 : Int)), (.int .u8 (0 : Int)), (.int .u8 (0 : Int)), (.int .u8 (0 : Int)), (.int .u8 (0 : Int)), (.int .u8 (0 : Int)), (.int .u8 (0 : Int)), (.int .u8 (0 : Int)), (.int .u8 (0 : Int)), (.int .u8 (0 : Int)), (.int .u8 (0 : Int)), (.int .u8 (0 : Int)), (.int .u8 (0 : Int)), (.int .u8 (0 : Int)), (.int .u8 (0 : Int)), (.int .u8 (0 : Int)), (.int .u8 (0 : Int)), (.int .u8 (0 : Int)), (.int .u8 (0 : Int)), (.int .u8 (0 : Int)), (.int .u8 (0 : Int)), (.int .u8 (0 : Int)), (.int .u8 (0 : Int)), (.int .u8 (0 : Int)), (.int .u8 (0 : Int)), (.int .u8 (0 : Int)), (.int .u8 (0 : Int)), (.int .u8 (0 : Int)), (.int .u8 (0 : Int)), (.int .u8 (0 : Int)), (.int .u8 (0 : Int)), (.int .u8 (0 : Int)), (.int .u8 (0 : Int)), (.int .u8 (0 : Int)), (.int .u8 (0 : Int)), (.int .u8 (0 : Int)), (.int .u8 (0 : Int)), (.int .u8 (0 : Int)), (.int .u8 (0 : Int)), (.int .u8 (0 : Int)), (.int .u8 (0 : Int)), (.int .u8 (0 : Int)), (.int .u8 (0 : Int)), (.int .u8 (0 : Int)), (.int .u8 (0 : Int)), (.int .u8 (0 : Int)), (.int .u8 (0 : Int)), (.int .u8 (0 : Int)), (.int .u8 (0 : Int)), (.int .u8 (0 : Int)), (.int .u8 (0 : Int)), (.int .u8 (0 : Int)), (.int .u8 (0 : Int)), (.int .u8 (0 : Int)), (.int .u8 (0 : Int)), (.int .u8 (0 : Int)), (.int .u8 (0 : Int)), (.int .u8 (0 : Int)), (.int .u8 (0 : Int)), (.int .u8 (0 : Int)), (.int .u8 (0 : Int)), (.int .u8 (0 : Int)), (.int .u8 (0 : Int)), (.int .u8 (0 : Int)), (.int .u8 (0 : Int)), (.int .u8 (0 : Int)), (.int .u8 (0 : Int)), (.int .u8 (0 : Int)), (.int .u8 (0 : Int)), (.int .u8 (0 : Int)), (.int .u8 (0 : Int)), (.int .u8 (0 : Int)), (.int .u8 (0 : Int)), (.int .u8 (0 : Int)), (.int .u8 (0 : Int)), (.int .u8 (0 : Int)), (.int .u8 (0 : Int)), (.int .u8 (0 : Int)), (.int .u8 (0 : Int)), (.int .u8 (0 : Int)), (.int .u8 (0 : Int)), (.int .u8 (0 : Int)), (.int .u8 (0 : Int)), (.int .u8 (0 : Int)), (.int .u8 (0 : Int)), (.int .u8 (0 : Int)), (.int .u8 (0 : Int)), (.int .u8 (0 : Int)), (.int .u8 (0 : Int)), (.int .u8 (0 : Int)), (.int .u8 (0 : Int)), (.int .u8 (0 : Int)), (.int .u8 (0 : Int)), (.int .u8 (0 : Int)), (.int .u8 (0 : Int)), (.int .u8 (0 : Int)), (.int .u8 (0 : Int)), (.int .u8 (0 : Int)), (.int .u8 (0 : Int)), (.int .u8 (0 : Int)), (.int .u8 (0 : Int)), (.int .u8 (0 : Int)), (.int .u8 (0 : Int)), (.int .u8 (0 : Int)), (.int .u8 (0 : Int)), (.int .u8 (0 : Int)), (.int .u8 (0 : Int)), (.int .u8 (0 : Int)), (.int .u8 (0 : Int)), (.int .u8 (0 : Int)), (.int .u8 (0 : Int)), (.int .u8 (0 : Int)), (.int .u8 (0 : Int)), (.int .u8 (0 : Int)), (.int .u8 (0 : Int)), (.int .u8 (0 : Int)), (.int .u8 (0 : Int)), (.int .u8 (0 : Int)), (.int .u8 (0 : Int)), (.int .u8 (0 : Int)), (.int .u8 (0 : Int)), (.int .u8 (0 : Int)), (.int .u8 (0 : Int)), (.int .u8 (0 : Int)), (.int .u8 (0 : Int)), (.int .u8 (0 : Int)), (.int .u8 (0 : Int)), (.int .u8 (0 : Int)), (.int .u8 (0 : Int)), (.int .u8 (0 : Int)), (.int .u8 (0 : Int)), (.int .u8 (0 : Int)), (.int .u8 (0 : Int)), (.int .u8 (0 : Int)), (.int .u8 (0 : Int)), (.int .u8 (0 : Int)), (.int .u8 (0 : Int)), (.int .u8 (0 : Int)), (.int .u8 (0 : Int)), (.int .u8 (0 : Int)), (.int .u8 (0 : Int)), (.int .u8 (0 : Int)), (.int .u8 (0 : Int)), (.int .u8 (0 : Int)), (.int .u8 (0 : Int)), (.int .u8 (0 : Int)), (.int .u8 (0 : Int)), (.int .u8 (0 : Int)), (.int .u8 (0 : Int)), (.int .u8 (0 : Int)), (.int .u8 (0 : Int)), (.int .u8 (0 : Int)), (.int .u8 (0 : Int)), (.int .u8 (0 : Int)), (.int .u8 (0 : Int)), (.int .u8 (0 : Int)), (.int .u8 (0 : Int)), (.int .u8 (0 : Int)), (.int .u8 (0 : Int)), (.int .u8 (0 : Int)), (.int .u8 (0 : Int)), (.int .u8 (0 : Int)), (.int .u8 (0 : Int)), (.int .u8 (0 : Int)), (.int .u8 (0 : Int)), (.int .u8 (0 : Int)), (.int .u8 (0 : Int)), (.int .u8 (0 : Int)), (.int .u8 (0 : Int)), (.int .u8 (0 : Int)), (.int .u8 (0 : Int)), (.int .u8 (0 : Int)), (.int .u8 (0 : Int)), (.int .u8 (0 : Int)), (.int .u8 (0 : Int)), (.int .u8 (0 : Int)), (.int .u8 (0 : Int)), (.int .u8 (0 : Int)), (.int .u8 (0 : Int)), (.int .u8 (0 : Int)), (.int .u8 (0 : Int)), (.int .u8 (0 : Int)), (.int .u8 (0 : Int)), (.int .u8 (0 : Int)), (.int .u8 (0 : Int)), (.int .u8 (0 : Int)), (.int .u8 (0 : Int)), (.int .u8 (0 : Int)), (.int .u8 (0 : Int)), (.int .u8 (0 : Int)), (.int .u8 (0 : Int)), (.int .u8 (0 : Int)), (.int .u8 (0 : Int)), (.int .u8 (0 : Int)), (.int .u8 (0 : Int)), (.int .u8 (0 : Int)), (.int .u8 (0 : Int)), (.int .u8 (0 : Int)), (.int .u8 (0 : Int)), (.int .u8 (0 : Int)), (.int .u8 (0 : Int)), (.int .u8 (0 : Int)), (.int .u8 (0 : Int)), (.int .u8 (0 : Int)), (.int .u8 (0 : Int)), (.int .u8 (0 : Int)), (.int .u8 (0 : Int)), (.int .u8 (0 : Int)), (.int .u8 (0 : Int)), (.int .u8 (0 : Int)), (.int .u8 (0 : Int)), (.int .u8 (0 : Int)), (.int .u8 (0 : Int)), (.int .u8 (0 : Int)), (.int .u8 (0 : Int)), (.int .u8 (0 : Int)), (.int .u8 (0 : Int)), (.int .u8 (0 : Int)), (.int .u8 (0 : Int)), (.int .u8 (0 : Int)), (.int .u8 (0 : Int)), (.int .u8 (0 : Int)), (.int .u8 (0 : Int)), (.int .u8 (0 : Int)), (.int .u8 (0 : Int)), (.int .u8 (0 : Int)), (.int .u8 (0 : Int)), (.int .u8 (0 : Int)), (.int .u8 (0 : Int)), (.int .u8 (0 : Int)), (.int .u8 (0 : Int)), (.int .u8 (0 : Int)), (.int .u8 (0 : Int)), (.int .u8 (0 : Int)), (.int .u8 (0 : Int)), (.int .u8 (0 : Int)), (.int .u8 (0 : Int)), (.int .u8 (0 : Int)), (.int .u8 (0 : Int)), (.int .u8 (0 : Int)), (.int .u8 (0 : Int)), (.int .u8 (0 : Int)), (.int .u8 (0 : Int)), (.int .u8 (0 : Int)), (.int .u8 (0 : Int)), (.int .u8 (0 : Int)), (.int .u8 (0 : Int)), (.int .u8 (0 : Int)), (.int .u8 (0 : Int)), (.int .u8 (0 : Int)), (.int .u8 (0 : Int)), (.int .u8 (0 : Int)), (.int .u8 (0 : Int)), (.int .u8 (0 : Int)), (.int .u8 (0 : Int)), (.int .u8 (0 : Int)), (.int .u8 (0 : Int)), (.int .u8 (0 : Int)), (.int .u8 (0 : Int)), (.int .u8 (0 : Int)), (.int .u8 (0 : Int)), (.int .u8 (0 : Int)), (.int .u8 (0 : Int)), (.int .u8 (0 : Int)), (.int .u8 (0 : Int)), (.int .u8 (0 : Int)), (.int .u8 (0 : Int)), (.int .u8 (0 : Int)), (.int .u8 (0 : Int)), (.int .u8 (0 : Int)), (.int .u8 (0 : Int)), (.int .u8 (0 : Int)), (.int .u8 (0 : Int)), (.int .u8 (0 : Int)), (.int .u8 (0 : Int)), (.int .u8 (0 : Int)), (.int .u8 (0 : Int)), (.int .u8 (0 : Int)), (.int .u8 (0 : Int)), (.int .u8 (0 : Int)), (.int .u8 (0 : Int)), (.int .u8 (0 : Int)), (.int .u8 (0 : Int)), (.int .u8 (0 : Int)), (.int .u8 (0 : Int)), (.int .u8 (0 : Int)), (.int .u8 (0 : Int)), (.int .u8 (0 : Int)), (.int .u8 (0 : Int)), (.int .u8 (0 : Int)), (.int .u8 (0 : Int)), (.int .u8 (0 : Int)), (.int .u8 (0 : Int)), (.int .u8 (0 : Int)), (.int .u8 (0 : Int)), (.int .u8 (0 : Int)), (.int .u8 (0 : Int)), (.int .u8 (0 : Int)), (.int .u8 (0 : Int)), (.int .u8 (0 : Int)), (.int .u8 (0 : Int)), (.int .u8 (0 : Int)), (.int .u8 (0 : Int)), (.int .u8 (0 : Int)), (.int .u8 (0 : Int)), (.int .u8 (0 : Int)), (.int .u8 (0 : Int)), (.int .u8 (0 : Int)), (.int .u8 (0 : Int)), (.int .u8 (0 : Int)), (.int .u8 (0 : Int)), (.int .u8 (0 : Int)), (.int .u8 (0 : Int)), (.int .u8 (0 : Int)), (.int .u8 (0 : Int)), (.int .u8 (0 : Int)), (.int .u8 (0 : Int)), (.int .u8 (0 : Int)), (.int .u8 (0 : Int)), (.int .u8 (0 : Int)), (.int .u8 (0 : Int)), (.int .u8 (0 : Int)), (.int .u8 (0 : Int)), (.int .u8 (0 : Int)), (.int .u8 (0 : Int)), (.int .u8 (0 : Int)), (.int .u8 (0 : Int)), (.int .u8 (0 : Int)), (.int .u8 (0 : Int)), (.int .u8 (0 : Int)), (.int .u8 (0 : Int)), (.int .u8 (0 : Int)), (.int .u8 (0 : Int)), (.int .u8 (0 : Int)), (.int .u8 (0 : Int)), (.int .u8 (0 : Int)), (.int .u8 (0 : Int)), (.int .u8 (0 : Int)), (.int .u8 (0 : Int)), (.int .u8 (0 : Int)), (.int .u8 (0 : Int)), (.int .u8 (0 : Int)), (.int .u8 (0 : Int)), (.int .u8 (0 : Int)), (.int .u8 (0 : Int)), (.int .u8 (0 : Int)), (.int .u8 (0 : Int)), (.int .u8 (0 : Int)), (.int .u8 (0 : Int)), (.int .u8 (0 : Int)), (.int .u8 (0 : Int)), (.int .u8 (0 : Int)), (.int .u8 (0 : Int)), (.int .u8 (0 : Int)), (.int .u8 (0 : Int)), (.int .u8 (0 : Int)), (.int .u8 (0 : Int)), (.int .u8 (0 : Int)), (.int .u8 (0 : Int)), (.int .u8 (0 : Int)), (.int .u8 (0 : Int)), (.int .u8 (0 : Int)), (.int .u8 (0 : Int)), (.int .u8 (0 : Int)), (.int .u8 (0 : Int)), (.int .u8 (0 : Int)), (.int .u8 (0 : Int)), (.int .u8 (0 : Int)), (.int .u8 (0 : Int)), (.int .u8 (0 : Int)), (.int .u8 (0 : Int)), (.int .u8 (0 : Int)), (.int .u8 (0 : Int)), (.int .u8 (0 : Int)), (.int .u8 (0 : Int)), (.int .u8 (0 : Int)), (.int .u8 (0 : Int)), (.int .u8 (0 : Int)), (.int .u8 (0 : Int)), (.int .u8 (0 : Int)), (.int .u8 (0 : Int)), (.int .u8 (0 : Int)), (.int .u8 (0 : Int)), (.int .u8 (0 : Int)), (.int .u8 (0 : Int)), (.int .u8 (0 : Int)), (.int .u8 (0 : Int)), (.int .u8 (0 : Int)), (.int .u8 (0 : Int)), (.int .u8 (0 : Int)), (.int .u8 (0 : Int)), (.int .u8 (0 : Int)), (.int .u8 (0 : Int)), (.int .u8 (0 : Int)), (.int .u8 (0 : Int)), (.int .u8 (0 : Int)), (.int .u8 (0 : Int)), (.int .u8 (0 : Int)), (.int .u8 (0 : Int)), (.int .u8 (0 : Int)), (.int .u8 (0 : Int)), (.int .u8 (0 : Int)), (.int .u8 (0 : Int)), (.int .u8 (0 : Int)), (.int .u8 (0 : Int)), (.int .u8 (0 : Int)), (.int .u8 (0 : Int)), (.int .u8 (0 : Int)), (.int .u8 (0 : Int)), (.int .u8 (0 : Int)), (.int .u8 (0 : Int)), (.int .u8 (0 : Int)), (.int .u8 (0 : Int)), (.int .u8 (0 : Int)), (.int .u8 (0 : Int)), (.int .u8 (0 : Int)), (.int .u8 (0 : Int)), (.int .u8 (0 : Int)), (.int .u8 (0 : Int)), (.int .u8 (0 : Int)), (.int .u8 (0 : Int)), (.int .u8 (0 : Int)), (.int .u8 (0 : Int)), (.int .u8 (0 : Int)), (.int .u8 (0 : Int)), (.int .u8 (0 : Int)), (.int .u8 (0 : Int)), (.int .u8 (0 : Int)), (.int .u8 (0 : Int)), (.int .u8 (0 : Int)), (.int .u8 (0 : Int)), (.int .u8 (0 : Int)), (.int .u8 (0 : Int)), (.int .u8 (0 : Int)), (.int .u8 (0 : Int)), (.int .u8 (0 : Int)), (.int .u8 (0 : Int)), (.int .u8 (0 : Int)), (.int .u8 (0 : Int)), (.int .u8 (0 : Int)), (.int .u8 (0 : Int)), (.int .u8 (0 : Int)), (.int .u8 (0 : Int)), (.int .u8 (0 : Int)), (.int .u8 (0 : Int)), (.int .u8 (0 : Int)), (.int .u8 (0 : Int)), (.int .u8 (0 : Int)), (.int .u8 (0 : Int)), (.int .u8 (0 : Int)), (.int .u8 (0 : Int)), (.int .u8 (0 : Int)), (.int .u8 (0 : Int)), (.int .u8 (0 : Int)), (.int .u8 (0 : Int)), (.int .u8 (0 : Int)), (.int .u8 (0 : Int)), (.int .u8 (0 : Int)), (.int .u8 (0 : Int)), (.int .u8 (0 : Int)), (.int .u8 (0 : Int)), (.int .u8 (0 : Int)), (.int .u8 (0 : Int)), (.int .u8 (0 : Int)), (.int .u8 (0 : Int)), (.int .u8 (0 : Int)), (.int .u8 (0 : Int)), (.int .u8 (0 : Int)), (.int .u8 (0 : Int)), (.int .u8 (0 : Int)), (.int .u8 (0 : Int)), (.int .u8 (0 : Int)), (.int .u8 (0 : Int)), (.int .u8 (0 : Int)), (.int .u8 (0 : Int)), (.int .u8 (0 : Int)), (.int .u8 (0 : Int)), (.int .u8 (0 : Int)), (.int .u8 (0 : Int)), (.int .u8 (0 : Int)), (.int .u8 (0 : Int)), (.int .u8 (0 : Int)), (.int .u8 (0 : Int)), (.int .u8 (0 : Int)), (.int .u8 (0 : Int)), (.int .u8 (0 : Int)), (.int .u8 (0 : Int)), (.int .u8 (0 : Int)), (.int .u8 (0 : Int)), (.int .u8 (0 : Int)), (.int .u8 (0 : Int)), (.int .u8 (0 : Int)), (.int .u8 (0 : Int)), (.int .u8 (0 : Int)), (.int .u8 (0 : Int)), (.int .u8 (0 : Int)), (.int .u8 (0 : Int)), (.int .u8 (0 : Int)), (.int .u8 (0 : Int)), (.int .u8 (0 : Int)), (.int .u8 (0 : Int)), (.int .u8 (0 : Int)), (.int .u8 (0 : Int)), (.int .u8 (0 : Int)), (.int .u8 (0 : Int)), (.int .u8 (0 : Int)), (.int .u8 (0 : Int)), (.int .u8 (0 : Int)), (.int .u8 (0 : Int)), (.int .u8 (0 : Int)), (.int .u8 (0 : Int)), (.int .u8 (0 : Int)), (.int .u8 (0 : Int)), (.int .u8 (0 : Int)), (.int .u8 (0 : Int)), (.int .u8 (0 : Int)), (.int .u8 (0 : Int)), (.int .u8 (0 : Int)), (.int .u8 (0 : Int)), (.int .u8 (0 : Int)), (.int .u8 (0 : Int)), (.int .u8 (0 : Int)), (.int .u8 (0 : Int)), (.int .u8 (0 : Int)), (.int .u8 (0 : Int)), (.int .u8 (0 : Int)), (.int .u8 (0 : Int)), (.int .u8 (0 : Int)), (.int .u8 (0 : Int)), (.int .u8 (0 : Int)), (.int .u8 (0 : Int)), (.int .u8 (0 : Int)), (.int .u8 (0 : Int)), (.int .u8 (0 : Int)), (.int .u8 (0 : Int)), (.int .u8 (0 : Int)), (.int .u8 (0 : Int)), (.int .u8 (0 : Int)), (.int .u8 (0 : Int)), (.int .u8 (0 : Int)), (.int .u8 (0 : Int)), (.int .u8 (0 : Int)), (.int .u8 (0 : Int)), (.int .u8 (0 : Int)), (.int .u8 (0 : Int)), (.int .u8 (0 : Int)), (.int .u8 (0 : Int)), (.int .u8 (0 : Int)), (.int .u8 (0 : Int)), (.int .u8 (0 : Int)), (.int .u8 (0 : Int)), (.int .u8 (0 : Int)), (.int .u8 (0 : Int)), (.int .u8 (0 : Int)), (.int .u8 (0 : Int)), (.int .u8 (0 : Int)), (.int .u8 (0 : Int)), (.int .u8 (0 : Int)), (.int .u8 (0 : Int)), (.int .u8 (0 : Int)), (.int .u8 (0 : Int)), (.int .u8 (0 : Int)), (.int .u8 (0 : Int)), (.int .u8 (0 : Int)), (.int .u8 (0 : Int)), (.int .u8 (0 : Int)), (.int .u8 (0 : Int)), (.int .u8 (0 : Int)), (.int .u8 (0 : Int)), (.int .u8 (0 : Int)), (.int .u8 (0 : Int)), (.int .u8 (0 : Int)), (.int .u8 (0 : Int)), (.int .u8 (0 : Int)), (.int .u8 (0 : Int)), (.int .u8 (0 : Int)), (.int .u8 (0 : Int)), (.int .u8 (0 : Int)), (.int .u8 (0 : Int)), (.int .u8 (0 : Int)), (.int .u8 (0 : Int)), (.int .u8 (0 : Int)), (.int .u8 (0 : Int)), (.int .u8 (0 : Int)), (.int .u8 (0 : Int)), (.int .u8 (0 : Int)), (.int .u8 (0 : Int)), (.int .u8 (0 : Int)), (.int .u8 (0 : Int)), (.int .u8 (0 : Int)), (.int .u8 (0 : Int)), (.int .u8 (0 : Int)), (.int .u8 (0 : Int)), (.int .u8 (0 : Int)), (.int .u8 (0 : Int)), (.int .u8 (0 : Int)), (.int .u8 (0 : Int)), (.int .u8 (0 : Int)), (.int .u8 (0 : Int)), (.int .u8 (0 : Int)), (.int .u8 (0 : Int)), (.int .u8 (0 : Int)), (.int .u8 (0 : Int)), (.int .u8 (0 : Int)), (.int .u8 (0 : Int)), (.int .u8 (0 : Int)), (.int .u8 (0 : Int)), (.int .u8 (0 : Int)), (.int .u8 (0 : Int)), (.int .u8 (0 : Int)), (.int .u8 (0 : Int)), (.int .u8 (0 : Int)), (.int .u8 (0 : Int)), (.int .u8 (0 : Int)), (.int .u8 (0 : Int)), (.int .u8 (0 : Int)), (.int .u8 (0 : Int)), (.int .u8 (0 : Int)), (.int .u8 (0 : Int)), (.int .u8 (0 : Int)), (.int .u8 (0 : Int)), (.int .u8 (0 : Int)), (.int .u8 (0 : Int)), (.int .u8 (0 : Int)), (.int .u8 (0 : Int)), (.int .u8 (0 : Int)), (.int .u8 (0 : Int)), (.int .u8 (0 : Int)), (.int .u8 (0 : Int)), (.int .u8 (0 : Int)), (.int .u8 (0 : Int)), (.int .u8 (0 : Int)), (.int .u8 (0 : Int)), (.int .u8 (0 : Int)), (.int .u8 (0 : Int)), (.int .u8 (0 : Int)), (.int .u8 (0 : Int)), (.int .u8 (0 : Int)), (.int .u8 (0 : Int)), (.int .u8 (0 : Int)), (.int .u8 (0 : Int)), (.int .u8 (0 : Int)), (.int .u8 (0 : Int)), (.int .u8 (0 : Int)), (.int .u8 (0 : Int)), (.int .u8 (0 : Int)), (.int .u8 (0 : Int)), (.int .u8 (0 : Int)), (.int .u8 (0 : Int)), (.int .u8 (0 : Int)), (.int .u8 (0 : Int)), (.int .u8 (0 : Int)), (.int .u8 (0 : Int)), (.int .u8 (0 : Int)), (.int .u8 (0 : Int)), (.int .u8 (0 : Int)), (.int .u8 (0 : Int)), (.int .u8 (0 : Int)), (.int .u8 (0 : Int)), (.int .u8 (0 : Int)), (.int .u8 (0 : Int)), (.int .u8 (0 : Int)), (.int .u8 (0 : Int)), (.int .u8 (0 : Int)), (.int .u8 (0 : Int)), (.int .u8 (0 : Int)), (.int .u8 (0 : Int)), (.int .u8 (0 : Int)), (.int .u8 (0 : Int)), (.int .u8 (0 : Int)), (.int .u8 (0 : Int)), (.int .u8 (0 : Int)), (.int .u8 (0 : Int)), (.int .u8 (0 : Int)), (.int .u8 (0 : Int)), (.int .u8 (0 : Int)), (.int .u8 (0 : Int)), (.int .u8 (0 : Int)), (.int .u8 (0 : Int)), (.int .u8 (0 : Int)), (.int .u8 (0 : Int)), (.int .u8 (0 : Int)), (.int .u8 (0 : Int)), (.int .u8 (0 : Int)), (.int .u8 (0 : Int)), (.int .u8 (0 : Int)), (.int .u8 (0 : Int)), (.int .u8 (0 : Int)), (.int .u8 (0 : Int)), (.int .u8 (0 : Int)), (.int .u8 (0 : Int)), (.int .u8 (0 : Int)), (.int .u8 (0 : Int)), (.int .u8 (0 : Int)), (.int .u8 (0 : Int)), (.int .u8 (0 : Int)), (.int .u8 (0 : Int)), (.int .u8 (0 : Int)), (.int .u8 (0 : Int)), (.int .u8 (0 : Int)), (.int .u8 (0 : Int)), (.int .u8 (0 : Int)), (.int .u8 (0 : Int)), (.int .u8 (0 : Int)), (.int .u8 (0 : Int)), (.int .u8 (0 : Int)), (.int .u8 (0 : Int)), (.int .u8 (0 : Int)), (.int .u8 (0 : Int)), (.int .u8 (0 : Int)), (.int .u8 (0 : Int)), (.int .u8 (0 : Int)), (.int .u8 (0 : Int)), (.int .u8 (0 : Int)), (.int .u8 (0 : Int)), (.int .u8 (0 : Int)), (.int .u8 (0 : Int)), (.int .u8 (0 : Int)), (.int .u8 (0 : Int)), (.int .u8 (0 : Int)), (.int .u8 (0 : Int)), (.int .u8 (0 : Int)), (.int .u8 (0 : Int)), (.int .u8 (0 : Int)), (.int .u8 (0 : Int)), (.int .u8 (0 : Int)), (.int .u8 (0 : Int)), (.int .u8 (0 : Int)), (.int .u8 (0 : Int)), (.int .u8 (0 : Int)), (.int .u8 (0 : Int)), (.int .u8 (0 : Int)), (.int .u8 (0 : Int)), (.int .u8 (0 : Int)), (.int .u8 (0 : Int)), (.int .u8 (0 : Int)), (.int .u8 (0 : Int)), (.int .u8 (0 : Int)), (.int .u8 (0 : Int)), (.int .u8 (0 : Int)), (.int .u8 (0 : Int)), (.int .u8 (0 : Int)), (.int .u8 (0 : Int)), (.int .u8 (0 : Int)), (.int .u8 (0 : Int)), (.int .u8 (0 : Int)), (.int .u8 (0 : Int)), (.int .u8 (0 : Int)), (.int .u8 (0 : Int)), (.int .u8 (0 : Int)), (.int .u8 (0 : Int)), (.int .u8 (0 : Int)), (.int .u8 (0 : Int)), (.int .u8 (0 : Int)), (.int .u8 (0 : Int)), (.int .u8 (0 : Int)), (.int .u8 (0 : Int)), (.int .u8 (0 : Int)), (.int .u8 (0 : Int)), (.int .u8 (0 : Int)), (.int .u8 (0 : Int)), (.int .u8 (0 : Int)), (.int .u8 (0 : Int)), (.int .u8 (0 : Int)), (.int .u8 (0 : Int)), (.int .u8 (0 : Int)), (.int .u8 (0 : Int)), (.int .u8 (0 : Int)), (.int .u8 (0 : Int)), (.int .u8 (0 : Int)), (.int .u8 (0 : Int)), (.int .u8 (0 : Int)), (.int .u8 (0 : Int)), (.int .u8 (0 : Int)), (.int .u8 (0 : Int)), (.int .u8 (0 : Int)), (.int .u8 (0 : Int)), (.int .u8 (0 : Int)), (.int .u8 (0 : Int)), (.int .u8 (0 : Int)), (.int .u8 (0 : Int)), (.int .u8 (0 : Int)), (.int .u8 (0 : Int)), (.int .u8 (0 : Int)), (.int .u8 (0 : Int)), (.int .u8 (0 : Int)), (.int .u8 (0 : Int)), (.int .i64 (0 : Int)), (.int .i64 (0 : Int)), (.bool false), (.bool false)] (fun a h4 =>
 (((0 : Int) ≤ n ∧ n ≤ (((ByteArray.size s) : Nat) : Int)) ∧ CallT P n_internal_strconv_decimal_set [(.pointer (some a)), (.string (ByteArray.extract s 0 (Int.toNat n)))] shBool (fun r10 h5 =>
 (if (!r10) = true then
 EncW shLeaf (.iface 81 (.int .i64 (2 : Int))) fun e =>
 Q 0 n e h5
 else
 Call2 P n_internal_strconv_decimal_floatBits [(.pointer (some a)), (.pointer (some ⟨6, 0, none⟩))] (shInt .u64) shBool (fun r11 r12 h6 =>
 SemE P (Extern.MathFloatBits.float64frombits #[(.int .u64 r11)]) (shFlt .f64) (fun r13 h7 =>
 (if r12 = true then
 EncW shLeaf (.iface 81 (.int .i64 (1 : Int))) fun e =>
 Q r13 n e h7
 else
 EncW shLeaf err.v fun e =>
 Q r13 n e h7)) h6) h5)) h4)) h3)))) h1)) h

def internal_strconv_small_w (P : Program) (i : Int) (Q : (ByteArray → (Hp → Prop))) (h : Hp) : Prop :=
 (if (decide (i < (10 : Int))) = true then
 (((0 : Int) ≤ i ∧ (i ≤ (IntKind.wrap .i64 (i + (1 : Int))) ∧ (IntKind.wrap .i64 (i + (1 : Int))) ≤ (36 : Int))) ∧ Q (ByteArray.extract ⟨#[48, 49, 50, 51, 52, 53, 54, 55, 56, 57, 97, 98, 99, 100, 101, 102, 103, 104, 105, 106, 107, 108, 109, 110, 111, 112, 113, 114, 115, 116, 117, 118, 119, 120, 121, 122]⟩ (Int.toNat i) (Int.toNat (IntKind.wrap .i64 (i + (1 : Int))))) h)
 else
 (((0 : Int) ≤ (IntKind.wrap .i64 (i * (2 : Int))) ∧ ((IntKind.wrap .i64 (i * (2 : Int))) ≤ (IntKind.wrap .i64 ((IntKind.wrap .i64 (i * (2 : Int))) + (2 : Int))) ∧ (IntKind.wrap .i64 ((IntKind.wrap .i64 (i * (2 : Int))) + (2 : Int))) ≤ (200 : Int))) ∧ Q (ByteArray.extract ⟨#[48, 48, 48, 49, 48, 50, 48, 51, 48, 52, 48, 53, 48, 54, 48, 55, 48, 56, 48, 57, 49, 48, 49, 49, 49, 50, 49, 51, 49, 52, 49, 53, 49, 54, 49, 55, 49, 56, 49, 57, 50, 48, 50, 49, 50, 50, 50, 51, 50, 52, 50, 53, 50, 54, 50, 55, 50, 56, 50, 57, 51, 48, 51, 49, 51, 50, 51, 51, 51, 52, 51, 53, 51, 54, 51, 55, 51, 56, 51, 57, 52, 48, 52, 49, 52, 50, 52, 51, 52, 52, 52, 53, 52, 54, 52, 55, 52, 56, 52, 57, 53, 48, 53, 49, 53, 50, 53, 51, 53, 52, 53, 53, 53, 54, 53, 55, 53, 56, 53, 57, 54, 48, 54, 49, 54, 50, 54, 51, 54, 52, 54, 53, 54, 54, 54, 55, 54, 56, 54, 57, 55, 48, 55, 49, 55, 50, 55, 51, 55, 52, 55, 53, 55, 54, 55, 55, 55, 56, 55, 57, 56, 48, 56, 49, 56, 50, 56, 51, 56, 52, 56, 53, 56, 54, 56, 55, 56, 56, 56, 57, 57, 48, 57, 49, 57, 50, 57, 51, 57, 52, 57, 53, 57, 54, 57, 55, 57, 56, 57, 57]⟩ (Int.toNat (IntKind.wrap .i64 (i * (2 : Int)))) (Int.toNat (IntKind.wrap .i64 ((IntKind.wrap .i64 (i * (2 : Int))) + (2 : Int))))) h))

def internal_strconv_numDigits_w (P : Program) (d : Int) (Q : (Int → (Hp → Prop))) (h : Hp) : Prop :=
 CallT P n_math_bits_Len64 [(.int .u64 d)] (shInt .i64) (fun r h1 =>
 CallT P n_internal_strconv_log10Pow2 [(.int .i64 r)] (shInt .i64) (fun r1 h2 =>
 (((0 : Int) ≤ r1 ∧ r1 < (20 : Int)) ∧ LdW none (shInt .u64) h2 (Addr.add ⟨7, 0, none⟩ ((Int.toNat r1) * 1)) fun x =>
 CallT P n_internal_strconv_bool2_int [(.bool (decide (d ≥ x)))] (shInt .i64) (fun r2 h3 =>
 Q (IntKind.wrap .i64 (r1 + r2)) h3) h2)) h1) h

def bl200 : List UInt8 := [48, 48, 48, 49, 48, 50, 48, 51, 48, 52, 48, 53, 48, 54, 48, 55, 48, 56, 48, 57, 49, 48, 49, 49, 49, 50, 49, 51, 49, 52, 49, 53, 49, 54, 49, 55, 49, 56, 49, 57, 50, 48, 50, 49, 50, 50, 50, 51, 50, 52, 50, 53, 50, 54, 50, 55, 50, 56, 50, 57, 51, 48, 51, 49, 51, 50, 51, 51, 51, 52, 51, 53, 51, 54, 51, 55, 51, 56, 51, 57, 52, 48, 52, 49, 52, 50, 52, 51, 52, 52, 52, 53, 52, 54, 52, 55, 52, 56, 52, 57, 53, 48, 53, 49, 53, 50, 53, 51, 53, 52, 53, 53, 53, 54, 53, 55, 53, 56, 53, 57, 54, 48, 54, 49, 54, 50, 54, 51, 54, 52, 54, 53, 54, 54, 54, 55, 54, 56, 54, 57, 55, 48, 55, 49, 55, 50, 55, 51, 55, 52, 55, 53, 55, 54, 55, 55, 55, 56, 55, 57, 56, 48, 56, 49, 56, 50, 56, 51, 56, 52, 56, 53, 56, 54, 56, 55, 56, 56, 56, 57, 57, 48, 57, 49, 57, 50, 57, 51, 57, 52, 57, 53, 57, 54, 57, 55, 57, 56, 57, 57]

def internal_strconv_formatBase10_w (P : Program) (a : Sl) (u : Int) (Q : (Hp → Prop)) (h : Hp) : Prop :=
 LoopW2 (α1 := Int) (α2 := Int) (fun again u1 nd h1 =>
 (if (decide (nd ≥ (8 : Int))) = true then
 ((100000000 : Int) ≠ (0 : Int) ∧ ((100000000 : Int) ≠ (0 : Int) ∧ ((10000 : Int) ≠ (0 : Int) ∧ ((10000 : Int) ≠ (0 : Int) ∧ ((100 : Int) ≠ (0 : Int) ∧ ((100 : Int) ≠ (0 : Int) ∧ ((100 : Int) ≠ (0 : Int) ∧ ((100 : Int) ≠ (0 : Int) ∧ (((0 : Int) ≤ (IntKind.wrap .u32 ((IntKind.wrap .u32 ((Int.tmod (Int.tmod (IntKind.wrap .u32 (Int.tmod u1 (100000000 : Int))) (10000 : Int)) (100 : Int)) * (2 : Int))) + (1 : Int))) ∧ (IntKind.wrap .u32 ((IntKind.wrap .u32 ((Int.tmod (Int.tmod (IntKind.wrap .u32 (Int.tmod u1 (100000000 : Int))) (10000 : Int)) (100 : Int)) * (2 : Int))) + (1 : Int))) < (200 : Int)) ∧ (((0 : Int) ≤ (IntKind.wrap .u32 ((Int.tmod (Int.tmod (IntKind.wrap .u32 (Int.tmod u1 (100000000 : Int))) (10000 : Int)) (100 : Int)) * (2 : Int))) ∧ (IntKind.wrap .u32 ((Int.tmod (Int.tmod (IntKind.wrap .u32 (Int.tmod u1 (100000000 : Int))) (10000 : Int)) (100 : Int)) * (2 : Int))) < (200 : Int)) ∧ ((InB a.base a.len (IntKind.wrap .i64 (nd - (1 : Int)))) ∧ StW h1 (sat a.base 1 (IntKind.wrap .i64 (nd - (1 : Int)))) [(.int .u8 (((UInt8.toNat (List.getD bl200 (Int.toNat (IntKind.wrap .u32 ((IntKind.wrap .u32 ((Int.tmod (Int.tmod (IntKind.wrap .u32 (Int.tmod u1 (100000000 : Int))) (10000 : Int)) (100 : Int)) * (2 : Int))) + (1 : Int)))) 0)) : Nat) : Int))] (fun h2 =>
 ((InB a.base a.len (IntKind.wrap .i64 (nd - (2 : Int)))) ∧ StW h2 (sat a.base 1 (IntKind.wrap .i64 (nd - (2 : Int)))) [(.int .u8 (((UInt8.toNat (List.getD bl200 (Int.toNat (IntKind.wrap .u32 ((Int.tmod (Int.tmod (IntKind.wrap .u32 (Int.tmod u1 (100000000 : Int))) (10000 : Int)) (100 : Int)) * (2 : Int)))) 0)) : Nat) : Int))] (fun h3 =>
 (((0 : Int) ≤ (IntKind.wrap .u32 ((IntKind.wrap .u32 ((IntKind.wrap .u32 (Int.tdiv (Int.tmod (IntKind.wrap .u32 (Int.tmod u1 (100000000 : Int))) (10000 : Int)) (100 : Int))) * (2 : Int))) + (1 : Int))) ∧ (IntKind.wrap .u32 ((IntKind.wrap .u32 ((IntKind.wrap .u32 (Int.tdiv (Int.tmod (IntKind.wrap .u32 (Int.tmod u1 (100000000 : Int))) (10000 : Int)) (100 : Int))) * (2 : Int))) + (1 : Int))) < (200 : Int)) ∧ (((0 : Int) ≤ (IntKind.wrap .u32 ((IntKind.wrap .u32 (Int.tdiv (Int.tmod (IntKind.wrap .u32 (Int.tmod u1 (100000000 : Int))) (10000 : Int)) (100 : Int))) * (2 : Int))) ∧ (IntKind.wrap .u32 ((IntKind.wrap .u32 (Int.tdiv (Int.tmod (IntKind.wrap .u32 (Int.tmod u1 (100000000 : Int))) (10000 : Int)) (100 : Int))) * (2 : Int))) < (200 : Int)) ∧ ((InB a.base a.len (IntKind.wrap .i64 (nd - (3 : Int)))) ∧ StW h3 (sat a.base 1 (IntKind.wrap .i64 (nd - (3 : Int)))) [(.int .u8 (((UInt8.toNat (List.getD bl200 (Int.toNat (IntKind.wrap .u32 ((IntKind.wrap .u32 ((IntKind.wrap .u32 (Int.tdiv (Int.tmod (IntKind.wrap .u32 (Int.tmod u1 (100000000 : Int))) (10000 : Int)) (100 : Int))) * (2 : Int))) + (1 : Int)))) 0)) : Nat) : Int))] (fun h4 =>
 ((InB a.base a.len (IntKind.wrap .i64 (nd - (4 : Int)))) ∧ StW h4 (sat a.base 1 (IntKind.wrap .i64 (nd - (4 : Int)))) [(.int .u8 (((UInt8.toNat (List.getD bl200 (Int.toNat (IntKind.wrap .u32 ((IntKind.wrap .u32 (Int.tdiv (Int.tmod (IntKind.wrap .u32 (Int.tmod u1 (100000000 : Int))) (10000 : Int)) (100 : Int))) * (2 : Int)))) 0)) : Nat) : Int))] (fun h5 =>
 (((0 : Int) ≤ (IntKind.wrap .u32 ((IntKind.wrap .u32 ((Int.tmod (IntKind.wrap .u32 (Int.tdiv (IntKind.wrap .u32 (Int.tmod u1 (100000000 : Int))) (10000 : Int))) (100 : Int)) * (2 : Int))) + (1 : Int))) ∧ (IntKind.wrap .u32 ((IntKind.wrap .u32 ((Int.tmod (IntKind.wrap .u32 (Int.tdiv (IntKind.wrap .u32 (Int.tmod u1 (100000000 : Int))) (10000 : Int))) (100 : Int)) * (2 : Int))) + (1 : Int))) < (200 : Int)) ∧ (((0 : Int) ≤ (IntKind.wrap .u32 ((Int.tmod (IntKind.wrap .u32 (Int.tdiv (IntKind.wrap .u32 (Int.tmod u1 (100000000 : Int))) (10000 : Int))) (100 : Int)) * (2 : Int))) ∧ (IntKind.wrap .u32 ((Int.tmod (IntKind.wrap .u32 (Int.tdiv (IntKind.wrap .u32 (Int.tmod u1 (100000000 : Int))) (10000 : Int))) (100 : Int)) * (2 : Int))) < (200 : Int)) ∧ ((InB a.base a.len (IntKind.wrap .i64 (nd - (5 : Int)))) ∧ StW h5 (sat a.base 1 (IntKind.wrap .i64 (nd - (5 : Int)))) [(.int .u8 (((UInt8.toNat (List.getD bl200 (Int.toNat (IntKind.wrap .u32 ((IntKind.wrap .u32 ((Int.tmod (IntKind.wrap .u32 (Int.tdiv (IntKind.wrap .u32 (Int.tmod u1 (100000000 : Int))) (10000 : Int))) (100 : Int)) * (2 : Int))) + (1 : Int)))) 0)) : Nat) : Int))] (fun h6 =>
 ((InB a.base a.len (IntKind.wrap .i64 (nd - (6 : Int)))) ∧ StW h6 (sat a.base 1 (IntKind.wrap .i64 (nd - (6 : Int)))) [(.int .u8 (((UInt8.toNat (List.getD bl200 (Int.toNat (IntKind.wrap .u32 ((Int.tmod (IntKind.wrap .u32 (Int.tdiv (IntKind.wrap .u32 (Int.tmod u1 (100000000 : Int))) (10000 : Int))) (100 : Int)) * (2 : Int)))) 0)) : Nat) : Int))] (fun h7 =>
 (((0 : Int) ≤ (IntKind.wrap .u32 ((IntKind.wrap .u32 ((IntKind.wrap .u32 (Int.tdiv (IntKind.wrap .u32 (Int.tdiv (IntKind.wrap .u32 (Int.tmod u1 (100000000 : Int))) (10000 : Int))) (100 : Int))) * (2 : Int))) + (1 : Int))) ∧ (IntKind.wrap .u32 ((IntKind.wrap .u32 ((IntKind.wrap .u32 (Int.tdiv (IntKind.wrap .u32 (Int.tdiv (IntKind.wrap .u32 (Int.tmod u1 (100000000 : Int))) (10000 : Int))) (100 : Int))) * (2 : Int))) + (1 : Int))) < (200 : Int)) ∧ (((0 : Int) ≤ (IntKind.wrap .u32 ((IntKind.wrap .u32 (Int.tdiv (IntKind.wrap .u32 (Int.tdiv (IntKind.wrap .u32 (Int.tmod u1 (100000000 : Int))) (10000 : Int))) (100 : Int))) * (2 : Int))) ∧ (IntKind.wrap .u32 ((IntKind.wrap .u32 (Int.tdiv (IntKind.wrap .u32 (Int.tdiv (IntKind.wrap .u32 (Int.tmod u1 (100000000 : Int))) (10000 : Int))) (100 : Int))) * (2 : Int))) < (200 : Int)) ∧ ((InB a.base a.len (IntKind.wrap .i64 (nd - (7 : Int)))) ∧ StW h7 (sat a.base 1 (IntKind.wrap .i64 (nd - (7 : Int)))) [(.int .u8 (((UInt8.toNat (List.getD bl200 (Int.toNat (IntKind.wrap .u32 ((IntKind.wrap .u32 ((IntKind.wrap .u32 (Int.tdiv (IntKind.wrap .u32 (Int.tdiv (IntKind.wrap .u32 (Int.tmod u1 (100000000 : Int))) (10000 : Int))) (100 : Int))) * (2 : Int))) + (1 : Int)))) 0)) : Nat) : Int))] (fun h8 =>
 ((InB a.base a.len (IntKind.wrap .i64 (nd - (8 : Int)))) ∧ StW h8 (sat a.base 1 (IntKind.wrap .i64 (nd - (8 : Int)))) [(.int .u8 (((UInt8.toNat (List.getD bl200 (Int.toNat (IntKind.wrap .u32 ((IntKind.wrap .u32 (Int.tdiv (IntKind.wrap .u32 (Int.tdiv (IntKind.wrap .u32 (Int.tmod u1 (100000000 : Int))) (10000 : Int))) (100 : Int))) * (2 : Int)))) 0)) : Nat) : Int))] (fun h9 =>
 again (IntKind.wrap .u64 (Int.tdiv u1 (100000000 : Int))) (IntKind.wrap .i64 (nd - (8 : Int))) h9))))))))))))))))))))))))))))))))
 else
 JoinW2 (α1 := Int) (α2 := Int) (fun k =>
 (if (decide (nd ≥ (4 : Int))) = true then
 ((10000 : Int) ≠ (0 : Int) ∧ ((10000 : Int) ≠ (0 : Int) ∧ ((100 : Int) ≠ (0 : Int) ∧ ((100 : Int) ≠ (0 : Int) ∧ (((0 : Int) ≤ (IntKind.wrap .u32 ((IntKind.wrap .u32 ((Int.tmod (Int.tmod (IntKind.wrap .u32 u1) (10000 : Int)) (100 : Int)) * (2 : Int))) + (1 : Int))) ∧ (IntKind.wrap .u32 ((IntKind.wrap .u32 ((Int.tmod (Int.tmod (IntKind.wrap .u32 u1) (10000 : Int)) (100 : Int)) * (2 : Int))) + (1 : Int))) < (200 : Int)) ∧ (((0 : Int) ≤ (IntKind.wrap .u32 ((Int.tmod (Int.tmod (IntKind.wrap .u32 u1) (10000 : Int)) (100 : Int)) * (2 : Int))) ∧ (IntKind.wrap .u32 ((Int.tmod (Int.tmod (IntKind.wrap .u32 u1) (10000 : Int)) (100 : Int)) * (2 : Int))) < (200 : Int)) ∧ ((InB a.base a.len (IntKind.wrap .i64 (nd - (1 : Int)))) ∧ StW h1 (sat a.base 1 (IntKind.wrap .i64 (nd - (1 : Int)))) [(.int .u8 (((UInt8.toNat (List.getD bl200 (Int.toNat (IntKind.wrap .u32 ((IntKind.wrap .u32 ((Int.tmod (Int.tmod (IntKind.wrap .u32 u1) (10000 : Int)) (100 : Int)) * (2 : Int))) + (1 : Int)))) 0)) : Nat) : Int))] (fun h2 =>
 ((InB a.base a.len (IntKind.wrap .i64 (nd - (2 : Int)))) ∧ StW h2 (sat a.base 1 (IntKind.wrap .i64 (nd - (2 : Int)))) [(.int .u8 (((UInt8.toNat (List.getD bl200 (Int.toNat (IntKind.wrap .u32 ((Int.tmod (Int.tmod (IntKind.wrap .u32 u1) (10000 : Int)) (100 : Int)) * (2 : Int)))) 0)) : Nat) : Int))] (fun h3 =>
 (((0 : Int) ≤ (IntKind.wrap .u32 ((IntKind.wrap .u32 ((IntKind.wrap .u32 (Int.tdiv (Int.tmod (IntKind.wrap .u32 u1) (10000 : Int)) (100 : Int))) * (2 : Int))) + (1 : Int))) ∧ (IntKind.wrap .u32 ((IntKind.wrap .u32 ((IntKind.wrap .u32 (Int.tdiv (Int.tmod (IntKind.wrap .u32 u1) (10000 : Int)) (100 : Int))) * (2 : Int))) + (1 : Int))) < (200 : Int)) ∧ (((0 : Int) ≤ (IntKind.wrap .u32 ((IntKind.wrap .u32 (Int.tdiv (Int.tmod (IntKind.wrap .u32 u1) (10000 : Int)) (100 : Int))) * (2 : Int))) ∧ (IntKind.wrap .u32 ((IntKind.wrap .u32 (Int.tdiv (Int.tmod (IntKind.wrap .u32 u1) (10000 : Int)) (100 : Int))) * (2 : Int))) < (200 : Int)) ∧ ((InB a.base a.len (IntKind.wrap .i64 (nd - (3 : Int)))) ∧ StW h3 (sat a.base 1 (IntKind.wrap .i64 (nd - (3 : Int)))) [(.int .u8 (((UInt8.toNat (List.getD bl200 (Int.toNat (IntKind.wrap .u32 ((IntKind.wrap .u32 ((IntKind.wrap .u32 (Int.tdiv (Int.tmod (IntKind.wrap .u32 u1) (10000 : Int)) (100 : Int))) * (2 : Int))) + (1 : Int)))) 0)) : Nat) : Int))] (fun h4 =>
 ((InB a.base a.len (IntKind.wrap .i64 (nd - (4 : Int)))) ∧ StW h4 (sat a.base 1 (IntKind.wrap .i64 (nd - (4 : Int)))) [(.int .u8 (((UInt8.toNat (List.getD bl200 (Int.toNat (IntKind.wrap .u32 ((IntKind.wrap .u32 (Int.tdiv (Int.tmod (IntKind.wrap .u32 u1) (10000 : Int)) (100 : Int))) * (2 : Int)))) 0)) : Nat) : Int))] (fun h5 =>
 k (IntKind.wrap .i64 (nd - (4 : Int))) (IntKind.wrap .u32 (Int.tdiv (IntKind.wrap .u32 u1) (10000 : Int))) h5))))))))))))))))
 else
 k nd (IntKind.wrap .u32 u1) h1))
 (fun nd1 x h2 =>
 JoinW2 (α1 := Int) (α2 := Int) (fun k =>
 (if (decide (nd1 ≥ (2 : Int))) = true then
 ((100 : Int) ≠ (0 : Int) ∧ ((100 : Int) ≠ (0 : Int) ∧ (((0 : Int) ≤ (IntKind.wrap .u32 ((IntKind.wrap .u32 ((Int.tmod x (100 : Int)) * (2 : Int))) + (1 : Int))) ∧ (IntKind.wrap .u32 ((IntKind.wrap .u32 ((Int.tmod x (100 : Int)) * (2 : Int))) + (1 : Int))) < (200 : Int)) ∧ (((0 : Int) ≤ (IntKind.wrap .u32 ((Int.tmod x (100 : Int)) * (2 : Int))) ∧ (IntKind.wrap .u32 ((Int.tmod x (100 : Int)) * (2 : Int))) < (200 : Int)) ∧ ((InB a.base a.len (IntKind.wrap .i64 (nd1 - (1 : Int)))) ∧ StW h2 (sat a.base 1 (IntKind.wrap .i64 (nd1 - (1 : Int)))) [(.int .u8 (((UInt8.toNat (List.getD bl200 (Int.toNat (IntKind.wrap .u32 ((IntKind.wrap .u32 ((Int.tmod x (100 : Int)) * (2 : Int))) + (1 : Int)))) 0)) : Nat) : Int))] (fun h3 =>
 ((InB a.base a.len (IntKind.wrap .i64 (nd1 - (2 : Int)))) ∧ StW h3 (sat a.base 1 (IntKind.wrap .i64 (nd1 - (2 : Int)))) [(.int .u8 (((UInt8.toNat (List.getD bl200 (Int.toNat (IntKind.wrap .u32 ((Int.tmod x (100 : Int)) * (2 : Int)))) 0)) : Nat) : Int))] (fun h4 =>
 k (IntKind.wrap .i64 (nd1 - (2 : Int))) (IntKind.wrap .u32 (Int.tdiv x (100 : Int))) h4))))))))
 else
 k nd1 x h2))
 (fun nd2 x1 h3 =>
 (if (decide (nd2 > (0 : Int))) = true then
 ((InB a.base a.len (0 : Int)) ∧ StW h3 (sat a.base 1 (0 : Int)) [(.int .u8 (IntKind.wrap .u8 (IntKind.wrap .u32 ((48 : Int) + x1))))] (fun h4 =>
 Q h4))
 else
 Q h3))))) u ((a.len : Nat) : Int) h

def math_bits_Mul64_w (P : Program) (x : Int) (y : Int) (Q : (Int → (Int → (Hp → Prop)))) (h : Hp) : Prop :=
 ((0 : Int) ≤ (32 : Int) ∧ ((0 : Int) ≤ (32 : Int) ∧ ((0 : Int) ≤ (32 : Int) ∧ ((0 : Int) ≤ (32 : Int) ∧ ((0 : Int) ≤ (32 : Int) ∧ Q (IntKind.wrap .u64 ((IntKind.wrap .u64 ((IntKind.wrap .u64 ((shrI .u64 x (32 : Int)) * (shrI .u64 y (32 : Int)))) + (shrI .u64 (IntKind.wrap .u64 ((IntKind.wrap .u64 ((shrI .u64 x (32 : Int)) * (bitsI .and .u64 y (4294967295 : Int)))) + (shrI .u64 (IntKind.wrap .u64 ((bitsI .and .u64 x (4294967295 : Int)) * (bitsI .and .u64 y (4294967295 : Int)))) (32 : Int)))) (32 : Int)))) + (shrI .u64 (IntKind.wrap .u64 ((bitsI .and .u64 (IntKind.wrap .u64 ((IntKind.wrap .u64 ((shrI .u64 x (32 : Int)) * (bitsI .and .u64 y (4294967295 : Int)))) + (shrI .u64 (IntKind.wrap .u64 ((bitsI .and .u64 x (4294967295 : Int)) * (bitsI .and .u64 y (4294967295 : Int)))) (32 : Int)))) (4294967295 : Int)) + (IntKind.wrap .u64 ((bitsI .and .u64 x (4294967295 : Int)) * (shrI .u64 y (32 : Int)))))) (32 : Int)))) (IntKind.wrap .u64 (x * y)) h)))))

def internal_stringslite_IndexByte_w (P : Program) (s : ByteArray) (c : Int) (Q : (Int → (Hp → Prop))) (h : Hp) : Prop :=
 SemE P (Extern.BytealgIndexByte.indexByte #[(.string s), (.int .u8 c)]) (shInt .i64) (fun r h1 =>
 Q r h1) h

def internal_strconv_fmtEFG_w (P : Program) (dst : Sl) (neg : Bool) (s : Sl) (dp : Int) (nd : Int) (prec : Int) (fmt : Int) (shortest : Bool) (Q : (Sl → (Hp → Prop))) (h : Hp) : Prop :=
 JoinW2 (α1 := Int) (α2 := Int) (fun k =>
 LetW ((fmt == (103 : Int)) || (fmt == (71 : Int))) fun y =>
 (if y = true then
 JoinW1 (α1 := Int) (fun k1 =>
 LetW ((decide (prec > nd)) && (decide (nd ≥ dp))) fun y1 =>
 (if y1 = true then
 k1 nd h
 else
 k1 prec h))
 (fun eprec h1 =>
 JoinW1 (α1 := Int) (fun k1 =>
 (if shortest = true then
 k1 (6 : Int) h1
 else
 k1 eprec h1))
 (fun eprec1 h2 =>
 LetW ((decide ((IntKind.wrap .i64 (dp - (1 : Int))) < (-4 : Int))) || (decide ((IntKind.wrap .i64 (dp - (1 : Int))) ≥ eprec1))) fun y1 =>
 (if y1 = true then
 JoinW1 (α1 := Int) (fun k1 =>
 (if (decide (prec > nd)) = true then
 k1 nd h2
 else
 k1 prec h2))
 (fun prec1 h3 =>
 k (IntKind.wrap .i64 (prec1 - (1 : Int))) (IntKind.wrap .u8 ((IntKind.wrap .u8 (fmt + (101 : Int))) - (103 : Int))) h3)
 else
 JoinW1 (α1 := Int) (fun k1 =>
 (if (decide (prec > dp)) = true then
 k1 nd h2
 else
 k1 prec h2))
 (fun prec1 h3 =>
 k (max2I (IntKind.wrap .i64 (prec1 - dp)) (0 : Int)) (102 : Int) h3))))
 else
 k prec fmt h))
 (fun prec1 fmt1 h1 =>
 JoinW1 (α1 := Bool) (fun k =>
 (if (fmt1 == (101 : Int)) = true then
 k (fmt1 == (101 : Int)) h1
 else
 k (fmt1 == (69 : Int)) h1))
 (fun t75 h2 =>
 (if t75 = true then
 JoinW1 (α1 := Sl) (fun k =>
 (if neg = true then
 NewW [(.int .u8 (45 : Int))] (fun a h3 =>
 AppendW 1 1 [(.int .u8 (0 : Int))] dst ⟨(some a), 1, 1⟩ (fun r h4 =>
 k r h4) h3) h2
 else
 k dst h2))
 (fun dst1 h3 =>
 JoinW1 (α1 := Int) (fun k =>
 (if (nd != (0 : Int)) = true then
 ((InB s.base s.len (0 : Int)) ∧ LdW none (shInt .u8) h3 (sat s.base 1 (0 : Int)) fun x =>
 k x h3)
 else
 k (48 : Int) h3))
 (fun ch h4 =>
 NewW [(.int .u8 ch)] (fun a h5 =>
 AppendW 1 1 [(.int .u8 (0 : Int))] dst1 ⟨(some a), 1, 1⟩ (fun r h6 =>
 JoinW1 (α1 := Sl) (fun k =>
 (if (decide (prec1 > (0 : Int))) = true then
 NewW [(.int .u8 (46 : Int))] (fun a1 h7 =>
 AppendW 1 1 [(.int .u8 (0 : Int))] r ⟨(some a1), 1, 1⟩ (fun r1 h8 =>
 JoinW2 (α1 := Sl) (α2 := Int) (fun k1 =>
 (if (decide ((1 : Int) < (min2I nd (IntKind.wrap .i64 (prec1 + (1 : Int)))))) = true then
 (((0 : Int) ≤ (1 : Int) ∧ ((1 : Int) ≤ (min2I nd (IntKind.wrap .i64 (prec1 + (1 : Int)))) ∧ (min2I nd (IntKind.wrap .i64 (prec1 + (1 : Int)))) ≤ ((s.cap : Nat) : Int))) ∧ LetW (α := Sl) ⟨(sbase s.base 1 1 s.cap), ((Int.toNat (min2I nd (IntKind.wrap .i64 (prec1 + (1 : Int))))) - 1), (s.cap - 1)⟩ fun y =>
 AppendW 1 1 [(.int .u8 (0 : Int))] r1 y (fun r2 h9 =>
 k1 r2 (min2I nd (IntKind.wrap .i64 (prec1 + (1 : Int)))) h9) h8)
 else
 k1 r1 (1 : Int) h8))
 (fun dst2 i h9 =>
 LoopW2 (α1 := Sl) (α2 := Int) (fun again dst3 t114 h10 =>
 (if (decide (t114 < (IntKind.wrap .i64 ((IntKind.wrap .i64 (prec1 + (1 : Int))) - i)))) = true then
 NewW [(.int .u8 (48 : Int))] (fun a2 h11 =>
 AppendW 1 1 [(.int .u8 (0 : Int))] ⟨dst3.base, dst3.len, dst3.cap⟩ ⟨(some a2), 1, 1⟩ (fun r2 h12 =>
 again r2 (IntKind.wrap .i64 (t114 + (1 : Int))) h12) h11) h10
 else
 k ⟨dst3.base, dst3.len, dst3.cap⟩ h10)) ⟨dst2.base, dst2.len, dst2.cap⟩ (0 : Int) h9)) h7) h6
 else
 k r h6))
 (fun dst2 h7 =>
 NewW [(.int .u8 fmt1)] (fun a1 h8 =>
 AppendW 1 1 [(.int .u8 (0 : Int))] dst2 ⟨(some a1), 1, 1⟩ (fun r1 h9 =>
 JoinW1 (α1 := Int) (fun k =>
 (if (nd == (0 : Int)) = true then
 k (0 : Int) h9
 else
 k (IntKind.wrap .i64 (dp - (1 : Int))) h9))
 (fun exp h10 =>
 JoinW2 (α1 := Int) (α2 := Int) (fun k =>
 (if (decide (exp < (0 : Int))) = true then
 k (45 : Int) (IntKind.wrap .i64 ((0 : Int) - exp)) h10
 else
 k (43 : Int) exp h10))
 (fun ch1 exp1 h11 =>
 NewW [(.int .u8 ch1)] (fun a2 h12 =>
 AppendW 1 1 [(.int .u8 (0 : Int))] r1 ⟨(some a2), 1, 1⟩ (fun r2 h13 =>
 (if (decide (exp1 < (10 : Int))) = true then
 NewW [(.int .u8 (48 : Int)), (.int .u8 (IntKind.wrap .u8 ((IntKind.wrap .u8 exp1) + (48 : Int))))] (fun a3 h14 =>
 AppendW 1 1 [(.int .u8 (0 : Int))] r2 ⟨(some a3), 2, 2⟩ (fun r3 h15 =>
 Q r3 h15) h14) h13
 else
 (if (decide (exp1 < (100 : Int))) = true then
 ((10 : Int) ≠ (0 : Int) ∧ ((10 : Int) ≠ (0 : Int) ∧ NewW [(.int .u8 (IntKind.wrap .u8 ((IntKind.wrap .u8 (IntKind.wrap .i64 (Int.tdiv exp1 (10 : Int)))) + (48 : Int)))), (.int .u8 (IntKind.wrap .u8 ((IntKind.wrap .u8 (Int.tmod exp1 (10 : Int))) + (48 : Int))))] (fun a3 h14 =>
 AppendW 1 1 [(.int .u8 (0 : Int))] r2 ⟨(some a3), 2, 2⟩ (fun r3 h15 =>
 Q r3 h15) h14) h13))
 else
 ((100 : Int) ≠ (0 : Int) ∧ ((10 : Int) ≠ (0 : Int) ∧ ((10 : Int) ≠ (0 : Int) ∧ ((10 : Int) ≠ (0 : Int) ∧ NewW [(.int .u8 (IntKind.wrap .u8 ((IntKind.wrap .u8 (IntKind.wrap .i64 (Int.tdiv exp1 (100 : Int)))) + (48 : Int)))), (.int .u8 (IntKind.wrap .u8 ((Int.tmod (IntKind.wrap .u8 (IntKind.wrap .i64 (Int.tdiv exp1 (10 : Int)))) (10 : Int)) + (48 : Int)))), (.int .u8 (IntKind.wrap .u8 ((IntKind.wrap .u8 (Int.tmod exp1 (10 : Int))) + (48 : Int))))] (fun a3 h14 =>
 AppendW 1 1 [(.int .u8 (0 : Int))] r2 ⟨(some a3), 3, 3⟩ (fun r3 h15 =>
 Q r3 h15) h14) h13))))))) h12) h11))) h8) h7)) h5) h4))
 else
 (if (fmt1 == (102 : Int)) = true then
 JoinW1 (α1 := Sl) (fun k =>
 (if neg = true then
 NewW [(.int .u8 (45 : Int))] (fun a h3 =>
 AppendW 1 1 [(.int .u8 (0 : Int))] dst ⟨(some a), 1, 1⟩ (fun r h4 =>
 k r h4) h3) h2
 else
 k dst h2))
 (fun dst1 h3 =>
 JoinW1 (α1 := Sl) (fun k =>
 (if (decide (dp > (0 : Int))) = true then
 (((0 : Int) ≤ (min2I nd dp) ∧ (min2I nd dp) ≤ ((s.cap : Nat) : Int)) ∧ LetW (α := Sl) ⟨(sbase s.base 1 0 s.cap), ((Int.toNat (min2I nd dp)) - 0), (s.cap - 0)⟩ fun y =>
 LoopW2 (α1 := Sl) (α2 := Int) (fun again dst2 t191 h4 =>
 (if (decide (t191 < ((y.len : Nat) : Int))) = true then
 ((InB y.base y.len t191) ∧ LdW none (shInt .u8) h4 (sat y.base 1 t191) fun x =>
 NewW [(.int .u8 x)] (fun a h5 =>
 AppendW 1 1 [(.int .u8 (0 : Int))] ⟨dst2.base, dst2.len, dst2.cap⟩ ⟨(some a), 1, 1⟩ (fun r h6 =>
 again r (IntKind.wrap .i64 (t191 + (1 : Int))) h6) h5) h4)
 else
 LoopW2 (α1 := Sl) (α2 := Int) (fun again1 dst3 t203 h5 =>
 (if (decide (t203 < (IntKind.wrap .i64 (dp - (min2I nd dp))))) = true then
 NewW [(.int .u8 (48 : Int))] (fun a h6 =>
 AppendW 1 1 [(.int .u8 (0 : Int))] ⟨dst3.base, dst3.len, dst3.cap⟩ ⟨(some a), 1, 1⟩ (fun r h7 =>
 again1 r (IntKind.wrap .i64 (t203 + (1 : Int))) h7) h6) h5
 else
 k ⟨dst3.base, dst3.len, dst3.cap⟩ h5)) ⟨dst2.base, dst2.len, dst2.cap⟩ (0 : Int) h4)) dst1 (0 : Int) h3)
 else
 NewW [(.int .u8 (48 : Int))] (fun a h4 =>
 AppendW 1 1 [(.int .u8 (0 : Int))] dst1 ⟨(some a), 1, 1⟩ (fun r h5 =>
 k r h5) h4) h3))
 (fun dst2 h4 =>
 (if (decide (prec1 > (0 : Int))) = true then
 NewW [(.int .u8 (46 : Int))] (fun a h5 =>
 AppendW 1 1 [(.int .u8 (0 : Int))] dst2 ⟨(some a), 1, 1⟩ (fun r h6 =>
 LoopW2 (α1 := Sl) (α2 := Int) (fun again dst3 t240 h7 =>
 (if (decide (t240 < (min2I prec1 (max2I (0 : Int) (IntKind.wrap .i64 ((0 : Int) - dp)))))) = true then
 NewW [(.int .u8 (48 : Int))] (fun a1 h8 =>
 AppendW 1 1 [(.int .u8 (0 : Int))] ⟨dst3.base, dst3.len, dst3.cap⟩ ⟨(some a1), 1, 1⟩ (fun r1 h9 =>
 again r1 (IntKind.wrap .i64 (t240 + (1 : Int))) h9) h8) h7
 else
 LoopW2 (α1 := Sl) (α2 := Int) (fun again1 dst4 t247 h8 =>
 (if (decide (t247 < (min2I (IntKind.wrap .i64 (prec1 - (min2I prec1 (max2I (0 : Int) (IntKind.wrap .i64 ((0 : Int) - dp)))))) (max2I (0 : Int) (IntKind.wrap .i64 (nd - (IntKind.wrap .i64 (dp + (min2I prec1 (max2I (0 : Int) (IntKind.wrap .i64 ((0 : Int) - dp)))))))))))) = true then
 ((InB s.base s.len (IntKind.wrap .i64 ((IntKind.wrap .i64 (dp + (min2I prec1 (max2I (0 : Int) (IntKind.wrap .i64 ((0 : Int) - dp)))))) + t247))) ∧ LdW none (shInt .u8) h8 (sat s.base 1 (IntKind.wrap .i64 ((IntKind.wrap .i64 (dp + (min2I prec1 (max2I (0 : Int) (IntKind.wrap .i64 ((0 : Int) - dp)))))) + t247))) fun x =>
 NewW [(.int .u8 x)] (fun a1 h9 =>
 AppendW 1 1 [(.int .u8 (0 : Int))] ⟨dst4.base, dst4.len, dst4.cap⟩ ⟨(some a1), 1, 1⟩ (fun r1 h10 =>
 again1 r1 (IntKind.wrap .i64 (t247 + (1 : Int))) h10) h9) h8)
 else
 LoopW2 (α1 := Sl) (α2 := Int) (fun again2 dst5 t261 h9 =>
 (if (decide (t261 < (max2I (0 : Int) (IntKind.wrap .i64 ((IntKind.wrap .i64 (prec1 - (min2I prec1 (max2I (0 : Int) (IntKind.wrap .i64 ((0 : Int) - dp)))))) - (min2I (IntKind.wrap .i64 (prec1 - (min2I prec1 (max2I (0 : Int) (IntKind.wrap .i64 ((0 : Int) - dp)))))) (max2I (0 : Int) (IntKind.wrap .i64 (nd - (IntKind.wrap .i64 (dp + (min2I prec1 (max2I (0 : Int) (IntKind.wrap .i64 ((0 : Int) - dp))))))))))))))) = true then
 NewW [(.int .u8 (48 : Int))] (fun a1 h10 =>
 AppendW 1 1 [(.int .u8 (0 : Int))] ⟨dst5.base, dst5.len, dst5.cap⟩ ⟨(some a1), 1, 1⟩ (fun r1 h11 =>
 again2 r1 (IntKind.wrap .i64 (t261 + (1 : Int))) h11) h10) h9
 else
 Q ⟨dst5.base, dst5.len, dst5.cap⟩ h9)) ⟨dst4.base, dst4.len, dst4.cap⟩ (0 : Int) h8)) ⟨dst3.base, dst3.len, dst3.cap⟩ (0 : Int) h7)) r (0 : Int) h6) h5) h4
 else
 Q dst2 h4)))
 else
 NewW [(.int .u8 (37 : Int)), (.int .u8 fmt1)] (fun a h3 =>
 AppendW 1 1 [(.int .u8 (0 : Int))] dst ⟨(some a), 2, 2⟩ (fun r h4 =>
 Q r h4) h3) h2))))

def bl256 : List UInt8 := [0, 1, 2, 2, 3, 3, 3, 3, 4, 4, 4, 4, 4, 4, 4, 4, 5, 5, 5, 5, 5, 5, 5, 5, 5, 5, 5, 5, 5, 5, 5, 5, 6, 6, 6, 6, 6, 6, 6, 6, 6, 6, 6, 6, 6, 6, 6, 6, 6, 6, 6, 6, 6, 6, 6, 6, 6, 6, 6, 6, 6, 6, 6, 6, 7, 7, 7, 7, 7, 7, 7, 7, 7, 7, 7, 7, 7, 7, 7, 7, 7, 7, 7, 7, 7, 7, 7, 7, 7, 7, 7, 7, 7, 7, 7, 7, 7, 7, 7, 7, 7, 7, 7, 7, 7, 7, 7, 7, 7, 7, 7, 7, 7, 7, 7, 7, 7, 7, 7, 7, 7, 7, 7, 7, 7, 7, 7, 7, 8, 8, 8, 8, 8, 8, 8, 8, 8, 8, 8, 8, 8, 8, 8, 8, 8, 8, 8, 8, 8, 8, 8, 8, 8, 8, 8, 8, 8, 8, 8, 8, 8, 8, 8, 8, 8, 8, 8, 8, 8, 8, 8, 8, 8, 8, 8, 8, 8, 8, 8, 8, 8, 8, 8, 8, 8, 8, 8, 8, 8, 8, 8, 8, 8, 8, 8, 8, 8, 8, 8, 8, 8, 8, 8, 8, 8, 8, 8, 8, 8, 8, 8, 8, 8, 8, 8, 8, 8, 8, 8, 8, 8, 8, 8, 8, 8, 8, 8, 8, 8, 8, 8, 8, 8, 8, 8, 8, 8, 8, 8, 8, 8, 8, 8, 8, 8, 8, 8, 8, 8, 8, 8, 8, 8, 8, 8, 8]

def math_bits_Len64_w (P : Program) (x : Int) (Q : (Int → (Hp → Prop))) (h : Hp) : Prop :=
 JoinW2 (α1 := Int) (α2 := Int) (fun k =>
 (if (decide (x ≥ (4294967296 : Int))) = true then
 ((0 : Int) ≤ (32 : Int) ∧ k (shrI .u64 x (32 : Int)) (32 : Int) h)
 else
 k x (0 : Int) h))
 (fun x1 n h1 =>
 JoinW2 (α1 := Int) (α2 := Int) (fun k =>
 (if (decide (x1 ≥ (65536 : Int))) = true then
 ((0 : Int) ≤ (16 : Int) ∧ k (shrI .u64 x1 (16 : Int)) (IntKind.wrap .i64 (n + (16 : Int))) h1)
 else
 k x1 n h1))
 (fun x2 n1 h2 =>
 (if (decide (x2 ≥ (256 : Int))) = true then
 ((0 : Int) ≤ (8 : Int) ∧ (((0 : Int) ≤ (IntKind.wrap .u8 (shrI .u64 x2 (8 : Int))) ∧ (IntKind.wrap .u8 (shrI .u64 x2 (8 : Int))) < (256 : Int)) ∧ Q (IntKind.wrap .i64 ((IntKind.wrap .i64 (n1 + (8 : Int))) + (IntKind.wrap .i64 (((UInt8.toNat (List.getD bl256 (Int.toNat (IntKind.wrap .u8 (shrI .u64 x2 (8 : Int)))) 0)) : Nat) : Int)))) h2))
 else
 (((0 : Int) ≤ (IntKind.wrap .u8 x2) ∧ (IntKind.wrap .u8 x2) < (256 : Int)) ∧ Q (IntKind.wrap .i64 (n1 + (IntKind.wrap .i64 (((UInt8.toNat (List.getD bl256 (Int.toNat (IntKind.wrap .u8 x2)) 0)) : Nat) : Int)))) h2))))

def internal_strconv_setDigits_w (P : Program) (s : Sl) (d : Int) (p : Int) (nd : Int) (Q : (Int → (Int → (Hp → Prop)))) (h : Hp) : Prop :=
 (if (decide (nd ≤ ((s.len : Nat) : Int))) = true then
 (((0 : Int) ≤ nd ∧ nd ≤ ((s.cap : Nat) : Int)) ∧ LetW (α := Sl) ⟨(sbase s.base 1 0 s.cap), ((Int.toNat nd) - 0), (s.cap - 0)⟩ fun y =>
 Call0 P n_internal_strconv_formatBase10 [y.v, (.int .u64 d)] (fun h1 =>
 LoopW1 (α1 := Int) (fun again nd1 h2 =>
 (((decide (nd1 > (0 : Int))) = true → (InB s.base s.len (IntKind.wrap .i64 (nd1 - (1 : Int))))) ∧ LdW (some (decide (nd1 > (0 : Int)))) (shInt .u8) h2 (sat s.base 1 (IntKind.wrap .i64 (nd1 - (1 : Int)))) fun x =>
 LetW ((decide (nd1 > (0 : Int))) && (x == (48 : Int))) fun y1 =>
 (if y1 = true then
 again (IntKind.wrap .i64 (nd1 - (1 : Int))) h2
 else
 Q (IntKind.wrap .i64 (nd + p)) nd1 h2))) nd h1) h)
 else
 Q (0 : Int) nd h)

def internal_strconv_log10Pow2_w (P : Program) (x : Int) (Q : (Int → (Hp → Prop))) (h : Hp) : Prop :=
 ((0 : Int) ≤ (18 : Int) ∧ Q (shrI .i64 (IntKind.wrap .i64 (x * (78913 : Int))) (18 : Int)) h)

def internal_strconv_shortFloat_float64_w (P : Program) (m : Int) (e : Int) (Q : (Int → (Int → (Hp → Prop)))) (h : Hp) : Prop :=
 JoinW2 (α1 := Int) (α2 := Int) (fun k =>
 k (52 : Int) (-1085 : Int) h)
 (fun mantBits minExp h1 =>
 JoinW4 (α1 := Int) (α2 := Int) (α3 := Int) (α4 := Int) (fun k =>
 LetW ((m == (9223372036854775808 : Int)) && (decide (e > minExp))) fun y =>
 (if y = true then
 CallT P n_internal_strconv_skewed [(.int .i64 (IntKind.wrap .i64 (e + (IntKind.wrap .i64 ((63 : Int) - mantBits)))))] (shInt .i64) (fun r h2 =>
 ((0 : Int) ≤ (IntKind.wrap .i64 ((IntKind.wrap .i64 ((63 : Int) - mantBits)) - (2 : Int))) ∧ ((0 : Int) ≤ (IntKind.wrap .i64 ((IntKind.wrap .i64 ((63 : Int) - mantBits)) - (1 : Int))) ∧ ((0 : Int) ≤ (IntKind.wrap .i64 ((63 : Int) - mantBits)) ∧ k (IntKind.wrap .i64 ((0 : Int) - r)) (IntKind.wrap .u64 (m - (shlI .u64 (1 : Int) (IntKind.wrap .i64 ((IntKind.wrap .i64 ((63 : Int) - mantBits)) - (2 : Int)))))) (IntKind.wrap .u64 (m + (shlI .u64 (1 : Int) (IntKind.wrap .i64 ((IntKind.wrap .i64 ((63 : Int) - mantBits)) - (1 : Int)))))) (bitsI .and .i64 (IntKind.wrap .i64 (shrI .u64 m (IntKind.wrap .i64 ((63 : Int) - mantBits)))) (1 : Int)) h2)))) h1
 else
 (if (decide (e ≥ minExp)) = true then
 CallT P n_internal_strconv_log10Pow2 [(.int .i64 (IntKind.wrap .i64 (e + (IntKind.wrap .i64 ((63 : Int) - mantBits)))))] (shInt .i64) (fun r h2 =>
 ((0 : Int) ≤ (IntKind.wrap .i64 ((IntKind.wrap .i64 ((63 : Int) - mantBits)) - (1 : Int))) ∧ ((0 : Int) ≤ (IntKind.wrap .i64 ((IntKind.wrap .i64 ((63 : Int) - mantBits)) - (1 : Int))) ∧ ((0 : Int) ≤ (IntKind.wrap .i64 ((63 : Int) - mantBits)) ∧ k (IntKind.wrap .i64 ((0 : Int) - r)) (IntKind.wrap .u64 (m - (shlI .u64 (1 : Int) (IntKind.wrap .i64 ((IntKind.wrap .i64 ((63 : Int) - mantBits)) - (1 : Int)))))) (IntKind.wrap .u64 (m + (shlI .u64 (1 : Int) (IntKind.wrap .i64 ((IntKind.wrap .i64 ((63 : Int) - mantBits)) - (1 : Int)))))) (bitsI .and .i64 (IntKind.wrap .i64 (shrI .u64 m (IntKind.wrap .i64 ((63 : Int) - mantBits)))) (1 : Int)) h2)))) h1
 else
 CallT P n_internal_strconv_log10Pow2 [(.int .i64 (IntKind.wrap .i64 (e + (IntKind.wrap .i64 ((IntKind.wrap .i64 ((63 : Int) - mantBits)) + (IntKind.wrap .i64 (minExp - e)))))))] (shInt .i64) (fun r h2 =>
 ((0 : Int) ≤ (IntKind.wrap .i64 ((IntKind.wrap .i64 ((IntKind.wrap .i64 ((63 : Int) - mantBits)) + (IntKind.wrap .i64 (minExp - e)))) - (1 : Int))) ∧ ((0 : Int) ≤ (IntKind.wrap .i64 ((IntKind.wrap .i64 ((IntKind.wrap .i64 ((63 : Int) - mantBits)) + (IntKind.wrap .i64 (minExp - e)))) - (1 : Int))) ∧ ((0 : Int) ≤ (IntKind.wrap .i64 ((IntKind.wrap .i64 ((63 : Int) - mantBits)) + (IntKind.wrap .i64 (minExp - e)))) ∧ k (IntKind.wrap .i64 ((0 : Int) - r)) (IntKind.wrap .u64 (m - (shlI .u64 (1 : Int) (IntKind.wrap .i64 ((IntKind.wrap .i64 ((IntKind.wrap .i64 ((63 : Int) - mantBits)) + (IntKind.wrap .i64 (minExp - e)))) - (1 : Int)))))) (IntKind.wrap .u64 (m + (shlI .u64 (1 : Int) (IntKind.wrap .i64 ((IntKind.wrap .i64 ((IntKind.wrap .i64 ((63 : Int) - mantBits)) + (IntKind.wrap .i64 (minExp - e)))) - (1 : Int)))))) (bitsI .and .i64 (IntKind.wrap .i64 (shrI .u64 m (IntKind.wrap .i64 ((IntKind.wrap .i64 ((63 : Int) - mantBits)) + (IntKind.wrap .i64 (minExp - e)))))) (1 : Int)) h2)))) h1)))
 (fun p min max odd h2 =>
 NewW [(.int .u64 (0 : Int)), (.int .u64 (0 : Int)), (.int .i64 (0 : Int))] (fun a h3 =>
 CallT P n_internal_strconv_log2Pow10 [(.int .i64 p)] (shInt .i64) (fun r h4 =>
 Call0 P n_internal_strconv_prescale [(.pointer (some a)), (.int .i64 e), (.int .i64 p), (.int .i64 r)] (fun h5 =>
 CallT P n_internal_strconv_uscale [(.int .u64 min), (.pointer (some a))] (shInt .u64) (fun r1 h6 =>
 CallT P n_internal_strconv_unrounded_nudge [(.int .u64 r1), (.int .i64 odd)] (shInt .u64) (fun r2 h7 =>
 CallT P n_internal_strconv_unrounded_ceil [(.int .u64 r2)] (shInt .u64) (fun r3 h8 =>
 CallT P n_internal_strconv_uscale [(.int .u64 max), (.pointer (some a))] (shInt .u64) (fun r4 h9 =>
 CallT P n_internal_strconv_unrounded_nudge [(.int .u64 r4), (.int .i64 (IntKind.wrap .i64 ((0 : Int) - odd)))] (shInt .u64) (fun r5 h10 =>
 CallT P n_internal_strconv_unrounded_floor [(.int .u64 r5)] (shInt .u64) (fun r6 h11 =>
 ((10 : Int) ≠ (0 : Int) ∧ (if (decide ((IntKind.wrap .u64 ((IntKind.wrap .u64 (Int.tdiv r6 (10 : Int))) * (10 : Int))) ≥ r3)) = true then
 Q (IntKind.wrap .u64 (Int.tdiv r6 (10 : Int))) (IntKind.wrap .i64 ((0 : Int) - (IntKind.wrap .i64 (p - (1 : Int))))) h11
 else
 (if (decide (r3 < r6)) = true then
 CallT P n_internal_strconv_uscale [(.int .u64 m), (.pointer (some a))] (shInt .u64) (fun r7 h12 =>
 CallT P n_internal_strconv_unrounded_round [(.int .u64 r7)] (shInt .u64) (fun r8 h13 =>
 Q r8 (IntKind.wrap .i64 ((0 : Int) - p)) h13) h12) h11
 else
 Q r3 (IntKind.wrap .i64 ((0 : Int) - p)) h11)))) h10) h9) h8) h7) h6) h5) h4) h3) h2))

def internal_strconv_special_w (P : Program) (s : ByteArray) (Q : (Nat → (Int → (Bool → (Hp → Prop))))) (h : Hp) : Prop :=
 (if ((((ByteArray.size s) : Nat) : Int) == (0 : Int)) = true then
 Q 0 (0 : Int) false h
 else
 (((0 : Int) ≤ (0 : Int) ∧ (0 : Int) < (((ByteArray.size s) : Nat) : Int)) ∧ JoinW3 (α1 := ByteArray) (α2 := Int) (α3 := Int) (fun k =>
 JoinW1 (α1 := Bool) (fun k1 =>
 (if ((((UInt8.toNat (List.getD s.data.toList 0 0)) : Nat) : Int) == (43 : Int)) = true then
 k1 ((((UInt8.toNat (List.getD s.data.toList 0 0)) : Nat) : Int) == (43 : Int)) h
 else
 k1 ((((UInt8.toNat (List.getD s.data.toList 0 0)) : Nat) : Int) == (45 : Int)) h))
 (fun t13 h1 =>
 (if t13 = true then
 JoinW1 (α1 := Int) (fun k1 =>
 (((0 : Int) ≤ (0 : Int) ∧ (0 : Int) < (((ByteArray.size s) : Nat) : Int)) ∧ (if ((((UInt8.toNat (List.getD s.data.toList 0 0)) : Nat) : Int) == (45 : Int)) = true then
 k1 (-1 : Int) h1
 else
 k1 (1 : Int) h1)))
 (fun sign h2 =>
 (((0 : Int) ≤ (1 : Int) ∧ (1 : Int) ≤ (((ByteArray.size s) : Nat) : Int)) ∧ k (ByteArray.extract s 1 (ByteArray.size s)) sign (1 : Int) h2))
 else
 JoinW1 (α1 := Bool) (fun k1 =>
 (if ((((UInt8.toNat (List.getD s.data.toList 0 0)) : Nat) : Int) == (105 : Int)) = true then
 k1 ((((UInt8.toNat (List.getD s.data.toList 0 0)) : Nat) : Int) == (105 : Int)) h1
 else
 k1 ((((UInt8.toNat (List.getD s.data.toList 0 0)) : Nat) : Int) == (73 : Int)) h1))
 (fun t16 h2 =>
 (if t16 = true then
 k s (1 : Int) (0 : Int) h2
 else
 JoinW1 (α1 := Bool) (fun k1 =>
 (if ((((UInt8.toNat (List.getD s.data.toList 0 0)) : Nat) : Int) == (110 : Int)) = true then
 k1 ((((UInt8.toNat (List.getD s.data.toList 0 0)) : Nat) : Int) == (110 : Int)) h2
 else
 k1 ((((UInt8.toNat (List.getD s.data.toList 0 0)) : Nat) : Int) == (78 : Int)) h2))
 (fun t19 h3 =>
 (if t19 = true then
 CallT P n_internal_strconv_commonPrefixLenIgnoreCase [(.string s), (.string ⟨#[110, 97, 110]⟩)] (shInt .i64) (fun r h4 =>
 (if (r == (3 : Int)) = true then
 CallT P n_internal_strconv_nan [] (shFlt .f64) (fun r1 h5 =>
 Q r1 (3 : Int) true h5) h4
 else
 Q 0 (0 : Int) false h4)) h3
 else
 Q 0 (0 : Int) false h3)))))))
 (fun s1 sign nsign h1 =>
 CallT P n_internal_strconv_commonPrefixLenIgnoreCase [(.string s1), (.string ⟨#[105, 110, 102, 105, 110, 105, 116, 121]⟩)] (shInt .i64) (fun r h2 =>
 JoinW1 (α1 := Int) (fun k =>
 LetW ((decide ((3 : Int) < r)) && (decide (r < (8 : Int)))) fun y =>
 (if y = true then
 k (3 : Int) h2
 else
 k r h2))
 (fun n h3 =>
 LetW ((n == (3 : Int)) || (n == (8 : Int))) fun y =>
 (if y = true then
 CallT P n_internal_strconv_inf [(.int .i64 sign)] (shFlt .f64) (fun r1 h4 =>
 Q r1 (IntKind.wrap .i64 (nsign + n)) true h4) h3
 else
 Q 0 (0 : Int) false h3))) h1)))

def internal_strconv_readFloat_w (P : Program) (s : ByteArray) (Q : (Int → (Int → (Bool → (Bool → (Bool → (Int → (Bool → (Hp → Prop))))))))) (h : Hp) : Prop :=
 (if (decide ((0 : Int) ≥ (((ByteArray.size s) : Nat) : Int))) = true then
 Q (0 : Int) (0 : Int) false false false (0 : Int) false h
 else
 (((0 : Int) ≤ (0 : Int) ∧ (0 : Int) < (((ByteArray.size s) : Nat) : Int)) ∧ JoinW2 (α1 := Bool) (α2 := Int) (fun k =>
 (if ((((UInt8.toNat (List.getD s.data.toList 0 0)) : Nat) : Int) == (43 : Int)) = true then
 k false (1 : Int) h
 else
 (if ((((UInt8.toNat (List.getD s.data.toList 0 0)) : Nat) : Int) == (45 : Int)) = true then
 k true (1 : Int) h
 else
 k false (0 : Int) h)))
 (fun neg i h1 =>
 JoinW5 (α1 := Bool) (α2 := Int) (α3 := Int) (α4 := Int) (α5 := Int) (fun k =>
 (((decide ((IntKind.wrap .i64 (i + (2 : Int))) < (((ByteArray.size s) : Nat) : Int))) = true → ((0 : Int) ≤ i ∧ i < (((ByteArray.size s) : Nat) : Int))) ∧ LetW ((decide ((IntKind.wrap .i64 (i + (2 : Int))) < (((ByteArray.size s) : Nat) : Int))) && ((((UInt8.toNat (List.getD s.data.toList (Int.toNat i) 0)) : Nat) : Int) == (48 : Int))) fun y =>
 ((y = true → ((0 : Int) ≤ (IntKind.wrap .i64 (i + (1 : Int))) ∧ (IntKind.wrap .i64 (i + (1 : Int))) < (((ByteArray.size s) : Nat) : Int))) ∧ EffC (some y) (CallT P n_internal_strconv_lower [(.int .u8 (((UInt8.toNat (List.getD s.data.toList (Int.toNat (IntKind.wrap .i64 (i + (1 : Int)))) 0)) : Nat) : Int))] (shInt .u8)) (fun r h2 =>
 LetW (y && (r == (120 : Int))) fun y1 =>
 (if y1 = true then
 k true (IntKind.wrap .i64 (i + (2 : Int))) (16 : Int) (16 : Int) (112 : Int) h2
 else
 k false i (10 : Int) (19 : Int) (101 : Int) h2)) h1)))
 (fun hex i1 base maxMantDigits expChar h2 =>
 JoinW9 (α1 := Int) (α2 := Bool) (α3 := Int) (α4 := Bool) (α5 := Bool) (α6 := Bool) (α7 := Int) (α8 := Int) (α9 := Int) (fun k =>
 LoopW9 (α1 := Int) (α2 := Bool) (α3 := Int) (α4 := Bool) (α5 := Bool) (α6 := Bool) (α7 := Int) (α8 := Int) (α9 := Int) (fun again mantissa trunc i2 underscores sawdot sawdigits nd ndMant dp h3 =>
 (if (decide (i2 < (((ByteArray.size s) : Nat) : Int))) = true then
 JoinW8 (α1 := Int) (α2 := Bool) (α3 := Bool) (α4 := Bool) (α5 := Bool) (α6 := Int) (α7 := Int) (α8 := Int) (fun k1 =>
 (((0 : Int) ≤ i2 ∧ i2 < (((ByteArray.size s) : Nat) : Int)) ∧ (if (true == ((((UInt8.toNat (List.getD s.data.toList (Int.toNat i2) 0)) : Nat) : Int) == (95 : Int))) = true then
 k1 mantissa trunc true sawdot sawdigits nd ndMant dp h3
 else
 (if (true == ((((UInt8.toNat (List.getD s.data.toList (Int.toNat i2) 0)) : Nat) : Int) == (46 : Int))) = true then
 (if sawdot = true then
 k mantissa trunc i2 underscores sawdot sawdigits nd ndMant dp h3
 else
 k1 mantissa trunc underscores true sawdigits nd ndMant nd h3)
 else
 LetW ((decide ((48 : Int) ≤ (((UInt8.toNat (List.getD s.data.toList (Int.toNat i2) 0)) : Nat) : Int))) && (decide ((((UInt8.toNat (List.getD s.data.toList (Int.toNat i2) 0)) : Nat) : Int) ≤ (57 : Int)))) fun y =>
 (if (true == y) = true then
 LetW (((((UInt8.toNat (List.getD s.data.toList (Int.toNat i2) 0)) : Nat) : Int) == (48 : Int)) && (nd == (0 : Int))) fun y1 =>
 (if y1 = true then
 k1 mantissa trunc underscores sawdot true nd ndMant (IntKind.wrap .i64 (dp - (1 : Int))) h3
 else
 (if (decide (ndMant < maxMantDigits)) = true then
 k1 (IntKind.wrap .u64 ((IntKind.wrap .u64 (mantissa * base)) + (IntKind.wrap .u64 (IntKind.wrap .u8 ((((UInt8.toNat (List.getD s.data.toList (Int.toNat i2) 0)) : Nat) : Int) - (48 : Int)))))) trunc underscores sawdot true (IntKind.wrap .i64 (nd + (1 : Int))) (IntKind.wrap .i64 (ndMant + (1 : Int))) dp h3
 else
 (if ((((UInt8.toNat (List.getD s.data.toList (Int.toNat i2) 0)) : Nat) : Int) != (48 : Int)) = true then
 k1 mantissa true underscores sawdot true (IntKind.wrap .i64 (nd + (1 : Int))) ndMant dp h3
 else
 k1 mantissa trunc underscores sawdot true (IntKind.wrap .i64 (nd + (1 : Int))) ndMant dp h3)))
 else
 EffC (some (base == (16 : Int))) (CallT P n_internal_strconv_lower [(.int .u8 (((UInt8.toNat (List.getD s.data.toList (Int.toNat i2) 0)) : Nat) : Int))] (shInt .u8)) (fun r h4 =>
 LetW ((base == (16 : Int)) && (decide ((97 : Int) ≤ r))) fun y1 =>
 EffC (some y1) (CallT P n_internal_strconv_lower [(.int .u8 (((UInt8.toNat (List.getD s.data.toList (Int.toNat i2) 0)) : Nat) : Int))] (shInt .u8)) (fun r1 h5 =>
 LetW (y1 && (decide (r1 ≤ (102 : Int)))) fun y2 =>
 (if (true == y2) = true then
 (if (decide (ndMant < maxMantDigits)) = true then
 CallT P n_internal_strconv_lower [(.int .u8 (((UInt8.toNat (List.getD s.data.toList (Int.toNat i2) 0)) : Nat) : Int))] (shInt .u8) (fun r2 h6 =>
 k1 (IntKind.wrap .u64 ((IntKind.wrap .u64 (mantissa * (16 : Int))) + (IntKind.wrap .u64 (IntKind.wrap .u8 ((IntKind.wrap .u8 (r2 - (97 : Int))) + (10 : Int)))))) trunc underscores sawdot true (IntKind.wrap .i64 (nd + (1 : Int))) (IntKind.wrap .i64 (ndMant + (1 : Int))) dp h6) h5
 else
 k1 mantissa true underscores sawdot true (IntKind.wrap .i64 (nd + (1 : Int))) ndMant dp h5)
 else
 k mantissa trunc i2 underscores sawdot sawdigits nd ndMant dp h5)) h4) h3)))))
 (fun mantissa1 trunc1 underscores1 sawdot1 sawdigits1 nd1 ndMant1 dp1 h4 =>
 again mantissa1 trunc1 (IntKind.wrap .i64 (i2 + (1 : Int))) underscores1 sawdot1 sawdigits1 nd1 ndMant1 dp1 h4)
 else
 k mantissa trunc i2 underscores sawdot sawdigits nd ndMant dp h3)) (0 : Int) false i1 false false false (0 : Int) (0 : Int) (0 : Int) h2)
 (fun mantissa trunc i2 underscores sawdot sawdigits nd ndMant dp h3 =>
 (if (!sawdigits) = true then
 Q mantissa (0 : Int) neg trunc hex i2 false h3
 else
 JoinW1 (α1 := Int) (fun k =>
 (if (!sawdot) = true then
 k nd h3
 else
 k dp h3))
 (fun dp1 h4 =>
 JoinW2 (α1 := Int) (α2 := Int) (fun k =>
 (if (base == (16 : Int)) = true then
 k (IntKind.wrap .i64 (ndMant * (4 : Int))) (IntKind.wrap .i64 (dp1 * (4 : Int))) h4
 else
 k ndMant dp1 h4))
 (fun ndMant1 dp2 h5 =>
 JoinW3 (α1 := Int) (α2 := Bool) (α3 := Int) (fun k =>
 (((decide (i2 < (((ByteArray.size s) : Nat) : Int))) = true → ((0 : Int) ≤ i2 ∧ i2 < (((ByteArray.size s) : Nat) : Int))) ∧ EffC (some (decide (i2 < (((ByteArray.size s) : Nat) : Int)))) (CallT P n_internal_strconv_lower [(.int .u8 (((UInt8.toNat (List.getD s.data.toList (Int.toNat i2) 0)) : Nat) : Int))] (shInt .u8)) (fun r h6 =>
 LetW ((decide (i2 < (((ByteArray.size s) : Nat) : Int))) && (r == expChar)) fun y =>
 (if y = true then
 (if (decide ((IntKind.wrap .i64 (i2 + (1 : Int))) ≥ (((ByteArray.size s) : Nat) : Int))) = true then
 Q mantissa (0 : Int) neg trunc hex (IntKind.wrap .i64 (i2 + (1 : Int))) false h6
 else
 (((0 : Int) ≤ (IntKind.wrap .i64 (i2 + (1 : Int))) ∧ (IntKind.wrap .i64 (i2 + (1 : Int))) < (((ByteArray.size s) : Nat) : Int)) ∧ JoinW2 (α1 := Int) (α2 := Int) (fun k1 =>
 (if ((((UInt8.toNat (List.getD s.data.toList (Int.toNat (IntKind.wrap .i64 (i2 + (1 : Int)))) 0)) : Nat) : Int) == (43 : Int)) = true then
 k1 (IntKind.wrap .i64 ((IntKind.wrap .i64 (i2 + (1 : Int))) + (1 : Int))) (1 : Int) h6
 else
 (if ((((UInt8.toNat (List.getD s.data.toList (Int.toNat (IntKind.wrap .i64 (i2 + (1 : Int)))) 0)) : Nat) : Int) == (45 : Int)) = true then
 k1 (IntKind.wrap .i64 ((IntKind.wrap .i64 (i2 + (1 : Int))) + (1 : Int))) (-1 : Int) h6
 else
 k1 (IntKind.wrap .i64 (i2 + (1 : Int))) (1 : Int) h6)))
 (fun i3 esign h7 =>
 (((!(decide (i3 ≥ (((ByteArray.size s) : Nat) : Int)))) = true → ((0 : Int) ≤ i3 ∧ i3 < (((ByteArray.size s) : Nat) : Int))) ∧ LetW ((decide (i3 ≥ (((ByteArray.size s) : Nat) : Int))) || (decide ((((UInt8.toNat (List.getD s.data.toList (Int.toNat i3) 0)) : Nat) : Int) < (48 : Int)))) fun y1 =>
 (((!y1) = true → ((0 : Int) ≤ i3 ∧ i3 < (((ByteArray.size s) : Nat) : Int))) ∧ LetW (y1 || (decide ((((UInt8.toNat (List.getD s.data.toList (Int.toNat i3) 0)) : Nat) : Int) > (57 : Int)))) fun y2 =>
 (if y2 = true then
 Q mantissa (0 : Int) neg trunc hex i3 false h7
 else
 LoopW3 (α1 := Int) (α2 := Bool) (α3 := Int) (fun again i4 underscores1 e h8 =>
 (((decide (i4 < (((ByteArray.size s) : Nat) : Int))) = true → ((0 : Int) ≤ i4 ∧ i4 < (((ByteArray.size s) : Nat) : Int))) ∧ ((((decide (i4 < (((ByteArray.size s) : Nat) : Int))) && (decide ((48 : Int) ≤ (((UInt8.toNat (List.getD s.data.toList (Int.toNat i4) 0)) : Nat) : Int)))) = true → ((0 : Int) ≤ i4 ∧ i4 < (((ByteArray.size s) : Nat) : Int))) ∧ LetW ((decide ((48 : Int) ≤ (((UInt8.toNat (List.getD s.data.toList (Int.toNat i4) 0)) : Nat) : Int))) && (decide ((((UInt8.toNat (List.getD s.data.toList (Int.toNat i4) 0)) : Nat) : Int) ≤ (57 : Int)))) fun y3 =>
 ((((decide (i4 < (((ByteArray.size s) : Nat) : Int))) && (!y3)) = true → ((0 : Int) ≤ i4 ∧ i4 < (((ByteArray.size s) : Nat) : Int))) ∧ LetW (y3 || ((((UInt8.toNat (List.getD s.data.toList (Int.toNat i4) 0)) : Nat) : Int) == (95 : Int))) fun y4 =>
 LetW ((decide (i4 < (((ByteArray.size s) : Nat) : Int))) && y4) fun y5 =>
 (if y5 = true then
 JoinW2 (α1 := Bool) (α2 := Int) (fun k1 =>
 (((0 : Int) ≤ i4 ∧ i4 < (((ByteArray.size s) : Nat) : Int)) ∧ (if ((((UInt8.toNat (List.getD s.data.toList (Int.toNat i4) 0)) : Nat) : Int) == (95 : Int)) = true then
 k1 true e h8
 else
 (if (decide (e < (10000 : Int))) = true then
 (((0 : Int) ≤ i4 ∧ i4 < (((ByteArray.size s) : Nat) : Int)) ∧ k1 underscores1 (IntKind.wrap .i64 ((IntKind.wrap .i64 ((IntKind.wrap .i64 (e * (10 : Int))) + (IntKind.wrap .i64 (((UInt8.toNat (List.getD s.data.toList (Int.toNat i4) 0)) : Nat) : Int)))) - (48 : Int))) h8)
 else
 k1 underscores1 e h8))))
 (fun underscores2 e1 h9 =>
 again (IntKind.wrap .i64 (i4 + (1 : Int))) underscores2 e1 h9)
 else
 k i4 underscores1 (IntKind.wrap .i64 (dp2 + (IntKind.wrap .i64 (e * esign)))) h8))))) i3 underscores (0 : Int) h7))))))
 else
 (if (base == (16 : Int)) = true then
 Q mantissa (0 : Int) neg trunc hex i2 false h6
 else
 k i2 underscores dp2 h6))) h5))
 (fun i3 underscores1 dp3 h6 =>
 JoinW1 (α1 := Int) (fun k =>
 (if (mantissa != (0 : Int)) = true then
 k (IntKind.wrap .i64 (dp3 - ndMant1)) h6
 else
 k (0 : Int) h6))
 (fun exp h7 =>
 ((underscores1 = true → ((0 : Int) ≤ i3 ∧ i3 ≤ (((ByteArray.size s) : Nat) : Int))) ∧ EffC (some underscores1) (CallT P n_internal_strconv_underscoreOK [(.string (ByteArray.extract s 0 (Int.toNat i3)))] shBool) (fun r h8 =>
 LetW (underscores1 && (!r)) fun y =>
 (if y = true then
 Q mantissa exp neg trunc hex i3 false h8
 else
 Q mantissa exp neg trunc hex i3 true h8)) h7)))))))))))

def internal_strconv_bool2_uint64_w (P : Program) (b : Bool) (Q : (Int → (Hp → Prop))) (h : Hp) : Prop :=
 (if b = true then
 Q (1 : Int) h
 else
 Q (0 : Int) h)

def internal_strconv_atof64exact_w (P : Program) (mantissa : Int) (exp : Int) (neg : Bool) (Q : (Nat → (Bool → (Hp → Prop)))) (h : Hp) : Prop :=
 LdW none (shInt .u64) h (Addr.add ⟨6, 0, none⟩ 0) fun x =>
 ((0 : Int) ≤ x ∧ (if ((shrI .u64 mantissa x) != (0 : Int)) = true then
 Q 0 false h
 else
 SemV none P (convert 31 34 (.int .u64 mantissa)) (shFlt .f64) h fun x1 =>
 JoinW1 (α1 := Nat) (fun k =>
 (if neg = true then
 False
 else
 k x1 h))
 (fun f h1 =>
 (if (exp == (0 : Int)) = true then
 Q f true h1
 else
 LetW ((decide (exp > (0 : Int))) && (decide (exp ≤ (37 : Int)))) fun y =>
 (if y = true then
 JoinW2 (α1 := Int) (α2 := Nat) (fun k =>
 (if (decide (exp > (22 : Int))) = true then
 LdW none shSl h1 ⟨10, 0, none⟩ fun x2 =>
 ((InB x2.base x2.len (IntKind.wrap .i64 (exp - (22 : Int)))) ∧ LdW none (shFlt .f64) h1 (sat x2.base 1 (IntKind.wrap .i64 (exp - (22 : Int)))) fun x3 =>
 SemE P (binS .mul 34 (.tmp 31) (.tmp 36) (.float .f64 f) (.float .f64 x3)) (shFlt .f64) (fun r h2 =>
 k (22 : Int) r h2) h1)
 else
 k exp f h1))
 (fun exp1 f1 h2 =>
 SemV none P (binS .gtr 34 (.tmp 38) (.const (.float .f64 4831355200913801216)) (.float .f64 f1) (.float .f64 4831355200913801216)) shBool h2 fun x2 =>
 SemV (some (!x2)) P (binS .lss 34 (.tmp 41) (.const (.float .f64 14054727237768577024)) (.float .f64 f1) (.float .f64 14054727237768577024)) shBool h2 fun x3 =>
 LetW (x2 || x3) fun y1 =>
 (if y1 = true then
 Q f1 false h2
 else
 LdW none shSl h2 ⟨10, 0, none⟩ fun x4 =>
 ((InB x4.base x4.len exp1) ∧ LdW none (shFlt .f64) h2 (sat x4.base 1 exp1) fun x5 =>
 SemE P (binS .mul 34 (.tmp 44) (.tmp 48) (.float .f64 f1) (.float .f64 x5)) (shFlt .f64) (fun r h3 =>
 Q r true h3) h2)))
 else
 LetW ((decide (exp < (0 : Int))) && (decide (exp ≥ (-22 : Int)))) fun y1 =>
 (if y1 = true then
 LdW none shSl h1 ⟨10, 0, none⟩ fun x2 =>
 ((InB x2.base x2.len (IntKind.wrap .i64 ((0 : Int) - exp))) ∧ LdW none (shFlt .f64) h1 (sat x2.base 1 (IntKind.wrap .i64 ((0 : Int) - exp))) fun x3 =>
 SemE P (binS .quo 34 (.tmp 57) (.tmp 62) (.float .f64 f) (.float .f64 x3)) (shFlt .f64) (fun r h2 =>
 Q r true h2) h1)
 else
 Q f false h1))))))

def internal_strconv_bool2_int_w (P : Program) (b : Bool) (Q : (Int → (Hp → Prop))) (h : Hp) : Prop :=
 (if b = true then
 Q (1 : Int) h
 else
 Q (0 : Int) h)

def internal_strconv_skewed_w (P : Program) (e : Int) (Q : (Int → (Hp → Prop))) (h : Hp) : Prop :=
 ((0 : Int) ≤ (21 : Int) ∧ Q (shrI .i64 (IntKind.wrap .i64 ((IntKind.wrap .i64 (e * (631305 : Int))) - (261663 : Int))) (21 : Int)) h)

def internal_strconv_prescale_w (P : Program) (pre : Option Addr) (e : Int) (p : Int) (lp : Int) (Q : (Hp → Prop)) (h : Hp) : Prop :=
 (((0 : Int) ≤ (IntKind.wrap .i64 (p - (-348 : Int))) ∧ (IntKind.wrap .i64 (p - (-348 : Int))) < (696 : Int)) ∧ LdW none (shInt .u64) h (Addr.add (Addr.add ⟨11, 0, none⟩ ((Int.toNat (IntKind.wrap .i64 (p - (-348 : Int)))) * 2)) 0) fun x =>
 NilW none pre fun p1 =>
 StW h (Addr.add p1 0) [(.int .u64 x)] (fun h1 =>
 (((0 : Int) ≤ (IntKind.wrap .i64 (p - (-348 : Int))) ∧ (IntKind.wrap .i64 (p - (-348 : Int))) < (696 : Int)) ∧ LdW none (shInt .u64) h1 (Addr.add (Addr.add ⟨11, 0, none⟩ ((Int.toNat (IntKind.wrap .i64 (p - (-348 : Int)))) * 2)) 1) fun x1 =>
 NilW none pre fun p2 =>
 StW h1 (Addr.add p2 1) [(.int .u64 x1)] (fun h2 =>
 NilW none pre fun p3 =>
 StW h2 (Addr.add p3 2) [(.int .i64 (IntKind.wrap .i64 ((0 : Int) - (IntKind.wrap .i64 ((IntKind.wrap .i64 (e + lp)) + (3 : Int))))))] (fun h3 =>
 Q h3)))))

def internal_strconv_log2Pow10_w (P : Program) (x : Int) (Q : (Int → (Hp → Prop))) (h : Hp) : Prop :=
 ((0 : Int) ≤ (15 : Int) ∧ Q (shrI .i64 (IntKind.wrap .i64 (x * (108853 : Int))) (15 : Int)) h)

def internal_strconv_uscale_w (P : Program) (x : Int) (c : Option Addr) (Q : (Int → (Hp → Prop))) (h : Hp) : Prop :=
 NilW none c fun p =>
 LdW none (shInt .u64) h (Addr.add p 0) fun x1 =>
 Call2 P n_math_bits_Mul64 [(.int .u64 x), (.int .u64 x1)] (shInt .u64) (shInt .u64) (fun r r1 h1 =>
 NilW none c fun p1 =>
 LdW none (shInt .i64) h1 (Addr.add p1 2) fun x2 =>
 ((0 : Int) ≤ (bitsI .and .i64 x2 (63 : Int)) ∧ ((0 : Int) ≤ (bitsI .and .i64 x2 (63 : Int)) ∧ (if ((shlI .u64 (shrI .u64 r (bitsI .and .i64 x2 (63 : Int))) (bitsI .and .i64 x2 (63 : Int))) != r) = true then
 ((0 : Int) ≤ (bitsI .and .i64 x2 (63 : Int)) ∧ Q (bitsI .or .u64 (shrI .u64 r (bitsI .and .i64 x2 (63 : Int))) (1 : Int)) h1)
 else
 NilW none c fun p2 =>
 LdW none (shInt .u64) h1 (Addr.add p2 1) fun x3 =>
 Call2 P n_math_bits_Mul64 [(.int .u64 x), (.int .u64 x3)] (shInt .u64) (shInt .u64) (fun r2 r3 h2 =>
 CallT P n_internal_strconv_bool2_uint64 [(.bool (decide (r1 < r2)))] (shInt .u64) (fun r4 h3 =>
 ((0 : Int) ≤ (bitsI .and .i64 x2 (63 : Int)) ∧ CallT P n_internal_strconv_bool2_uint64 [(.bool (decide ((IntKind.wrap .u64 (r1 - r2)) > (1 : Int))))] (shInt .u64) (fun r5 h4 =>
 Q (bitsI .or .u64 (shrI .u64 (IntKind.wrap .u64 (r - r4)) (bitsI .and .i64 x2 (63 : Int))) r5) h4) h3)) h2) h1)))) h

def internal_strconv_unrounded_nudge_w (P : Program) (u : Int) (x : Int) (Q : (Int → (Hp → Prop))) (h : Hp) : Prop :=
 Q (IntKind.wrap .u64 (u + (IntKind.wrap .u64 x))) h

def internal_strconv_unrounded_ceil_w (P : Program) (u : Int) (Q : (Int → (Hp → Prop))) (h : Hp) : Prop :=
 ((0 : Int) ≤ (2 : Int) ∧ Q (shrI .u64 (IntKind.wrap .u64 (u + (3 : Int))) (2 : Int)) h)

def internal_strconv_unrounded_floor_w (P : Program) (u : Int) (Q : (Int → (Hp → Prop))) (h : Hp) : Prop :=
 ((0 : Int) ≤ (2 : Int) ∧ Q (shrI .u64 (IntKind.wrap .u64 (u + (0 : Int))) (2 : Int)) h)

def internal_strconv_unrounded_round_w (P : Program) (u : Int) (Q : (Int → (Hp → Prop))) (h : Hp) : Prop :=
 ((0 : Int) ≤ (2 : Int) ∧ ((0 : Int) ≤ (2 : Int) ∧ Q (shrI .u64 (IntKind.wrap .u64 ((IntKind.wrap .u64 (u + (1 : Int))) + (bitsI .and .u64 (shrI .u64 u (2 : Int)) (1 : Int)))) (2 : Int)) h))

def internal_strconv_commonPrefixLenIgnoreCase_w (P : Program) (s : ByteArray) (prefix_ : ByteArray) (Q : (Int → (Hp → Prop))) (h : Hp) : Prop :=
 LoopW1 (α1 := Int) (fun again i h1 =>
 (if (decide (i < (min2I (((ByteArray.size prefix_) : Nat) : Int) (((ByteArray.size s) : Nat) : Int)))) = true then
 (((0 : Int) ≤ i ∧ i < (((ByteArray.size s) : Nat) : Int)) ∧ JoinW1 (α1 := Int) (fun k =>
 LetW ((decide ((65 : Int) ≤ (((UInt8.toNat (List.getD s.data.toList (Int.toNat i) 0)) : Nat) : Int))) && (decide ((((UInt8.toNat (List.getD s.data.toList (Int.toNat i) 0)) : Nat) : Int) ≤ (90 : Int)))) fun y =>
 (if y = true then
 k (IntKind.wrap .u8 ((((UInt8.toNat (List.getD s.data.toList (Int.toNat i) 0)) : Nat) : Int) + (32 : Int))) h1
 else
 k (((UInt8.toNat (List.getD s.data.toList (Int.toNat i) 0)) : Nat) : Int) h1))
 (fun c h2 =>
 (((0 : Int) ≤ i ∧ i < (((ByteArray.size prefix_) : Nat) : Int)) ∧ (if (c != (((UInt8.toNat (List.getD prefix_.data.toList (Int.toNat i) 0)) : Nat) : Int)) = true then
 Q i h2
 else
 again (IntKind.wrap .i64 (i + (1 : Int))) h2))))
 else
 Q (min2I (((ByteArray.size prefix_) : Nat) : Int) (((ByteArray.size s) : Nat) : Int)) h1)) (0 : Int) h

end Lf

