/-
  The lifting layer, part 2: what a function's code does, told as a proposition over typed variables and a partial heap.
-/
import Derived.Test.YtoffikpplbiohaaLfCore
namespace Lf
open Go

/-- A type of plain values, and how they lie in a slot. -/
structure Shape where
  T : Type
  enc : T → Value
  dec : Value → Option T
  ok : ∀ v x, dec v = some x → enc x = v

structure Sl where
  base : Option Addr
  len : Nat
  cap : Nat

def Sl.v (s : Sl) : Value := .slice s.base s.len s.cap

def kEq : IntKind → IntKind → Bool
  | .i8, .i8 | .i16, .i16 | .i32, .i32 | .i64, .i64 | .u8, .u8 | .u16, .u16 | .u32, .u32 | .u64, .u64 => true
  | _, _ => false

theorem kEq_eq {a b : IntKind} (h : kEq a b = true) : a = b := by cases a <;> cases b <;> first | rfl | cases h

def fEq : FloatKind → FloatKind → Bool
  | .f32, .f32 | .f64, .f64 => true
  | _, _ => false

theorem fEq_eq {a b : FloatKind} (h : fEq a b = true) : a = b := by cases a <;> cases b <;> first | rfl | cases h

@[reducible] def shInt (k : IntKind) : Shape where
  T := Int
  enc := fun n => .int k n
  dec := fun v => match v with
    | .int k' n => cond (kEq k' k) (some n) none
    | _ => none
  ok := by
    intro v x h
    split at h
    · rename_i k' n
      cases hk : kEq k' k
      · simp [hk] at h
      · simp [hk] at h; rw [kEq_eq hk, h]
    · cases h

@[reducible] def shBool : Shape where
  T := Bool
  enc := fun n => .bool n
  dec := fun v => match v with
    | .bool n => some n
    | _ => none
  ok := by intro v x h; split at h <;> cases h; rfl

@[reducible] def shStr : Shape where
  T := ByteArray
  enc := fun n => .string n
  dec := fun v => match v with
    | .string n => some n
    | _ => none
  ok := by intro v x h; split at h <;> cases h; rfl

@[reducible] def shPtr : Shape where
  T := Option Addr
  enc := fun n => .pointer n
  dec := fun v => match v with
    | .pointer n => some n
    | _ => none
  ok := by intro v x h; split at h <;> cases h; rfl

@[reducible] def shSl : Shape where
  T := Sl
  enc := fun n => .slice n.base n.len n.cap
  dec := fun v => match v with
    | .slice a l c => some ⟨a, l, c⟩
    | _ => none
  ok := by intro v x h; split at h <;> cases h; rfl

@[reducible] def shMap : Shape where
  T := Option Nat
  enc := fun n => .map n
  dec := fun v => match v with
    | .map n => some n
    | _ => none
  ok := by intro v x h; split at h <;> cases h; rfl

@[reducible] def shFlt (k : FloatKind) : Shape where
  T := Nat
  enc := fun n => .float k n
  dec := fun v => match v with
    | .float k' n => cond (fEq k' k) (some n) none
    | _ => none
  ok := by
    intro v x h
    split at h
    · rename_i k' n
      cases hk : fEq k' k
      · simp [hk] at h
      · simp [hk] at h; rw [fEq_eq hk, h]
    · cases h

/-- Whatever value (functions, interface values). -/
@[reducible] def shVal : Shape where
  T := Value
  enc := fun v => v
  dec := fun v => some v
  ok := by intro v x h; cases h; rfl

def isLeafV : Value → Bool
  | .agg _ => false
  | _ => true

/-- A value of one cell. -/
structure Leaf where
  v : Value
  ok : isLeafV v = true

@[reducible] def shLeaf : Shape where
  T := Leaf
  enc := fun x => x.v
  dec := fun v => match h : isLeafV v with
    | true => some ⟨v, h⟩
    | false => none
  ok := by intro v x h; split at h <;> cases h; rfl

@[reducible] def shUnit : Shape where
  T := Unit
  enc := fun _ => .tuple #[]
  dec := fun v => match v with
    | .tuple ⟨[]⟩ => some ()
    | _ => none
  ok := by intro v x h; split at h <;> cases h; rfl

@[reducible] def shTup2 (a b : Shape) : Shape where
  T := a.T × b.T
  enc := fun p => .tuple #[a.enc p.1, b.enc p.2]
  dec := fun v => match v with
    | .tuple ⟨[x, y]⟩ => match a.dec x, b.dec y with
      | some x, some y => some (x, y)
      | _, _ => none
    | _ => none
  ok := by
    intro v x h
    split at h
    · split at h
      · rename_i h1 h2; cases h; rw [a.ok _ _ h1, b.ok _ _ h2]
      · cases h
    · cases h

@[reducible] def shTup3 (a b c : Shape) : Shape where
  T := a.T × b.T × c.T
  enc := fun p => .tuple #[a.enc p.1, b.enc p.2.1, c.enc p.2.2]
  dec := fun v => match v with
    | .tuple ⟨[x, y, z]⟩ => match a.dec x, b.dec y, c.dec z with
      | some x, some y, some z => some (x, y, z)
      | _, _, _ => none
    | _ => none
  ok := by
    intro v x h
    split at h
    · split at h
      · rename_i h1 h2 h3; cases h; rw [a.ok _ _ h1, b.ok _ _ h2, c.ok _ _ h3]
      · cases h
    · cases h

@[reducible] def shTup4 (a b c d : Shape) : Shape where
  T := a.T × b.T × c.T × d.T
  enc := fun p => .tuple #[a.enc p.1, b.enc p.2.1, c.enc p.2.2.1, d.enc p.2.2.2]
  dec := fun v => match v with
    | .tuple ⟨[x, y, z, u]⟩ => match a.dec x, b.dec y, c.dec z, d.dec u with
      | some x, some y, some z, some u => some (x, y, z, u)
      | _, _, _, _ => none
    | _ => none
  ok := by
    intro v x h
    split at h
    · split at h
      · rename_i h1 h2 h3 h4; cases h; rw [a.ok _ _ h1, b.ok _ _ h2, c.ok _ _ h3, d.ok _ _ h4]
      · cases h
    · cases h

@[reducible] def shTup5 (a b c d e : Shape) : Shape where
  T := a.T × b.T × c.T × d.T × e.T
  enc := fun p => .tuple #[a.enc p.1, b.enc p.2.1, c.enc p.2.2.1, d.enc p.2.2.2.1, e.enc p.2.2.2.2]
  dec := fun v => match v with
    | .tuple ⟨[x, y, z, u, w]⟩ => match a.dec x, b.dec y, c.dec z, d.dec u, e.dec w with
      | some x, some y, some z, some u, some w => some (x, y, z, u, w)
      | _, _, _, _, _ => none
    | _ => none
  ok := by
    intro v x h
    split at h
    · split at h
      · rename_i h1 h2 h3 h4 h5; cases h; rw [a.ok _ _ h1, b.ok _ _ h2, c.ok _ _ h3, d.ok _ _ h4, e.ok _ _ h5]
      · cases h
    · cases h

/-- What is told of a type. -/
structure Ty where
  und : TypeDesc
  size : Nat
  bytes : Nat
  zero : Value
  sh : Shape

structure Tb where
  ty : Nat → Option Ty
  call : Nat → Bool
  ext : Nat → Option (Array Value → Sem Value)

def isAggD : TypeDesc → Bool
  | .struct _ | .array _ _ => true
  | _ => false

def shOf (tb : Tb) (t : Nat) : Shape := match tb.ty t with
  | some e => e.sh
  | none => shUnit

/-! Lists -/
def nth {α : Type _} : List α → Nat → Option α
  | [], _ => none
  | a :: _, 0 => some a
  | _ :: l, n + 1 => nth l n

def dropL {α : Type _} : List α → Nat → List α
  | l, 0 => l
  | [], _ + 1 => []
  | _ :: l, n + 1 => dropL l n

def takeL {α : Type _} : List α → Nat → List α
  | _, 0 => []
  | [], _ + 1 => []
  | a :: l, n + 1 => a :: takeL l n

/-- 'l' with the list 'new' laid over it from place 'i' on. -/
def layL {α : Type _} : List α → Nat → List α → List α
  | l, 0, [] => l
  | [], 0, _ :: _ => []
  | _ :: l, 0, b :: new => b :: layL l 0 new
  | [], _ + 1, _ => []
  | a :: l, n + 1, new => a :: layL l n new

/-! Slots -/
inductive LV where
  | v (x : Value)
  | box (k off : Nat)
  | boxd (k off : Nat)

abbrev Chain := List (Nat × Bool)

structure St where
  f : Nat → Option (LV × Chain)
  m : Nat → Option (List Value)

def St.put (s : St) (d : Option Nat) (l : LV) (ch : Chain) : St :=
  match d with
  | none => s
  | some d => { f := fun i => cond (Nat.beq i d) (some (l, ch)) (s.f i), m := s.m }

def St.putM (s : St) (k : Nat) (cs : List Value) : St :=
  { f := s.f, m := fun i => cond (Nat.beq i k) (some cs) (s.m i) }

def boolEq : Bool → Bool → Bool
  | true, b => b
  | false, true => false
  | false, false => true

def chEq : Chain → Chain → Bool
  | [], [] => true
  | (t, w) :: c, (u, x) :: d => cond (Nat.beq t u) (cond (boolEq w x) (chEq c d) false) false
  | _, _ => false

/-- The first chain is an end of the second one. -/
def sufx (c : Chain) : Chain → Bool
  | [] => match c with
    | [] => true
    | _ => false
  | p :: d => match c with
    | [] => true
    | _ => cond (chEq c (p :: d)) true (sufx c d)

def ev (s : St) (ch : Chain) : Operand → Option LV
  | .tmp t => match s.f t with
    | some (l, c) => cond (sufx c ch) (some l) none
    | none => none
  | .const v => some (.v v)
  | .global g => some (.v (.pointer (some ⟨g, 0, none⟩)))
  | .func f => some (.v (.func (.func f) #[] #[]))

/-- The test under which a guarded operation is carried out. -/
def cnd (s : St) : Chain → Option Bool
  | [] => none
  | [(t, w)] => match s.f t with
    | some (.v (.bool b), _) => some (cond w b (!b))
    | _ => some false
  | (t, w) :: p :: r => match s.f t with
    | some (.v (.bool b), _) => match cnd s (p :: r) with
      | some x => some (cond w (x && b) (x && !b))
      | none => some (cond w b (!b))
    | _ => some false

def Req (c : Option Bool) (p : Prop) : Prop :=
  match c with
  | none => p
  | some b => b = true → p

/-! What is asked, and what becomes -/

def okCells : List Value → Bool
  | [] => true
  | .agg _ :: _ => false
  | .tuple _ :: _ => false
  | _ :: r => okCells r


def LdIs (h : Hp) (a : Addr) (cs : List Value) : Prop := ∀ i v, cs[i]? = some v → hcell h (a.add i) = some v

def cellsL (v : Value) : List Value := match v with
  | .agg cs => cs.toList
  | v => [v]

def LdW (c : Option Bool) (sh : Shape) (h : Hp) (a : Addr) (K : sh.T → Prop) : Prop :=
  ∃ x, Req c (LdIs h a (cellsL (sh.enc x))) ∧ K x

def NilW (c : Option Bool) (p : Option Addr) (K : Addr → Prop) : Prop := ∃ a, Req c (p = some a) ∧ K a

/-- A semantic term that only reads, and comes to 'v'. -/
def SemIs (P : Program) (s : Sem Value) (h : Hp) (v : Value) : Prop := ∀ w, Sub h w → ∃ w', s.run P w = .ok v w' ∧ Step h h w w'

def SemV (c : Option Bool) (P : Program) (s : Sem Value) (sh : Shape) (h : Hp) (K : sh.T → Prop) : Prop :=
  ∃ x, Req c (SemIs P s h (sh.enc x)) ∧ K x

/-- A semantic term that may change memory. -/
def SemE (P : Program) (s : Sem Value) (sh : Shape) (K : sh.T → Hp → Prop) (h : Hp) : Prop :=
  semW P s (fun v h' => ∃ x, v = sh.enc x ∧ K x h') h

/-- The like of one that has no result. -/
def SemU (P : Program) (s : Sem Unit) (K : Hp → Prop) (h : Hp) : Prop := semW P s (fun _ h' => K h') h

def EffC {α : Type} (c : Option Bool) (A : (α → Hp → Prop) → Hp → Prop) (K : α → Hp → Prop) (h : Hp) : Prop :=
  match c with
  | none => A K h
  | some b => (b = true → A K h) ∧ (b = false → ∃ x, K x h)

def NewW (cs : List Value) (K : Addr → Hp → Prop) (h : Hp) : Prop :=
  ∀ b t, h b = none → K ⟨b, 0, none⟩ (h.set b (.cells cs.toArray t (0, 0)))

def putL (h : Hp) (a : Addr) : List Value → Nat → Hp
  | [], _ => h
  | v :: l, i => putL (h.put (a.add i) v) a l (i + 1)

def StOk (h : Hp) (a : Addr) : Nat → Prop
  | 0 => True
  | n + 1 => StOk h a n ∧ (∃ v, hcell h (a.add n) = some v) ∧ hfroz h (a.add n) = false

def StW (h : Hp) (a : Addr) (cs : List Value) (K : Hp → Prop) : Prop := StOk h a cs.length ∧ K (putL h a cs 0)

def CallE (P : Program) (g : FuncId) (args : List Value) (K : Value → Hp → Prop) (h : Hp) : Prop :=
  ∀ w, Sub h w → Calls P g args.toArray w (fun e w' => ∃ v h', e = .returned v ∧ K v h' ∧ Step h h' w w')

def CallT (P : Program) (g : FuncId) (args : List Value) (sh : Shape) (K : sh.T → Hp → Prop) (h : Hp) : Prop :=
  CallE P g args (fun v h' => ∃ x, v = sh.enc x ∧ K x h') h

/-- A call of a function value. -/
def CallV (P : Program) (tb : Tb) (f : Value) (args : List Value) (sh : Shape) (K : sh.T → Hp → Prop) (h : Hp) : Prop :=
  ∃ g first captured, f = .func (.func g) first captured ∧ tb.call g = true ∧ CallT P g (first.toList ++ args ++ captured.toList) sh K h

def JoinT {σ : Type} (A : (σ → Hp → Prop) → Prop) (B : σ → Hp → Prop) : Prop := ∃ R : σ → Hp → Prop, A R ∧ ∀ x h, R x h → B x h

def LoopT {σ : Type} (body : (σ → Hp → Prop) → σ → Hp → Prop) (x : σ) (h : Hp) : Prop :=
  ∃ (I : σ → Hp → Prop) (μ : σ → Hp → Nat), I x h ∧ ∀ x h, I x h → body (fun x' h' => I x' h' ∧ μ x' h' < μ x h) x h

def LetW {α : Type} (x : α) (K : α → Prop) : Prop := ∀ y, y = x → K y

/-- The cells from an address on. -/
def RdCells (h : Hp) (base : Option Addr) (n : Nat) (cs : List Value) : Prop :=
  cs.length = n ∧ (n = 0 ∨ ∃ a, base = some a ∧ LdIs h a cs)

def zerosL (zero : List Value) (n : Nat) : List Value := (List.replicate n zero).flatten

def putO (h : Hp) (base : Option Addr) (off : Nat) (cs : List Value) : Hp := match base with
  | some a => putL h (a.add off) cs 0
  | none => h

/-- The built-in append of cells. -/
def AppCells (size bytes : Nat) (zero : List Value) (l : Sl) (n : Nat) (new : List Value) (K : Sl → Hp → Prop) (h : Hp) : Prop :=
  ∃ old, RdCells h l.base (l.len * size) old ∧ (l.len + n ≤ 140737488355328 ∧ (l.len + n) * bytes ≤ 140737488355328) ∧
    okCells new = true ∧ (l.len + n ≤ l.cap → (∀ a, l.base = some a → StOk h (a.add (l.len * size)) (n * size)) ∧ K ⟨l.base, l.len + n, l.cap⟩ (putO h l.base (l.len * size) new)) ∧
    (l.cap < l.len + n → ∀ c b t, l.len + n ≤ c → h b = none →
      K ⟨some ⟨b, 0, none⟩, l.len + n, c⟩ (h.set b (.cells (old ++ new ++ zerosL zero (c - (l.len + n))).toArray t (0, 0))))

def AppendW (size bytes : Nat) (zero : List Value) (l x : Sl) (K : Sl → Hp → Prop) (h : Hp) : Prop :=
  ∃ new, RdCells h x.base (x.len * size) new ∧ AppCells size bytes zero l x.len new K h

/-- The built-in append of a number of zero values. -/
def AppendZW (size bytes : Nat) (zero : List Value) (l : Sl) (m : Int) (K : Sl → Hp → Prop) (h : Hp) : Prop :=
  0 ≤ m ∧ AppCells size bytes zero l m.toNat (zerosL zero m.toNat) K h

def bytesL (s : ByteArray) : List Value := s.data.toList.map fun b => .int .u8 b.toNat

def AppendStrW (l : Sl) (s : ByteArray) (K : Sl → Hp → Prop) (h : Hp) : Prop :=
  AppCells 1 1 [.int .u8 0] l s.size (bytesL s) K h

def CopyW (size : Nat) (d x : Sl) (K : Int → Hp → Prop) (h : Hp) : Prop :=
  ∃ new, RdCells h x.base (min x.len d.len * size) new ∧ okCells new = true ∧ (∀ a, d.base = some a → StOk h a (min x.len d.len * size)) ∧ K (min x.len d.len : Nat) (putO h d.base 0 new)

def MakeW (bytes : Nat) (zero : List Value) (len cap : Int) (K : Sl → Hp → Prop) (h : Hp) : Prop :=
  (0 ≤ len ∧ len ≤ cap ∧ cap ≤ 281474976710656 ∧ cap.toNat * bytes ≤ 281474976710656) ∧
    ∀ b t, h b = none → K ⟨some ⟨b, 0, none⟩, len.toNat, cap.toNat⟩ (h.set b (.cells (zerosL zero cap.toNat).toArray t (0, 0)))

/-- The bytes of a text, in new memory. -/
def BytesW (s : ByteArray) (K : Sl → Hp → Prop) (h : Hp) : Prop :=
  ∀ c b t, s.size ≤ c → h b = none →
    K ⟨some ⟨b, 0, none⟩, s.size, c⟩ (h.set b (.cells (bytesL s ++ zerosL [.int .u8 0] (c - s.size)).toArray t (c, c + 1)))

def MakeMapW (K : Option Nat → Hp → Prop) (h : Hp) : Prop := ∀ b, h b = none → K (some b) (h.set b (.map #[] 0))

/-- The entries of a map. -/
def MapAt (h : Hp) (m : Option Nat) (es : List MapEntry) : Prop :=
  (m = none ∧ es = []) ∨ ∃ r ck, m = some r ∧ h r = some (.map es.toArray ck)

def LookIs (kd : TypeDesc) (zero : Value) (m : Option Nat) (k : Value) (h : Hp) (v : Value) (ok : Bool) : Prop :=
  ∃ es, MapAt h m es ∧ ((Instr.findNow kd k es 0 = some none ∧ v = zero ∧ ok = false) ∨ ∃ i, Instr.findNow kd k es 0 = some (some (i, v)) ∧ ok = true)

/-- A look into a map whose keys are numbers, texts or truths. -/
def LookW (c : Option Bool) (kd : TypeDesc) (sh : Shape) (zero : Value) (m : Option Nat) (k : Value) (h : Hp) (K : sh.T → Bool → Prop) : Prop :=
  ∃ x ok, Req c (LookIs kd zero m k h (sh.enc x) ok) ∧ K x ok

def MapSetW (kd : TypeDesc) (m : Option Nat) (k v : Value) (K : Hp → Prop) (h : Hp) : Prop :=
  ∃ r es ck, m = some r ∧ h r = some (.map es ck) ∧
    ((Instr.findNow kd k es.toList 0 = some none ∧ K (h.set r (.map (es.push { key := k, val := v, born := ck }) (ck + 1)))) ∨
     ∃ i u, Instr.findNow kd k es.toList 0 = some (some (i, u)) ∧ K (h.set r (.map (es.modify i fun e => { e with key := k, val := v }) ck)))

def MapDelW (kd : TypeDesc) (m : Option Nat) (k : Value) (K : Hp → Prop) (h : Hp) : Prop :=
  (m = none ∧ K h) ∨ ∃ r es ck, m = some r ∧ h r = some (.map es ck) ∧
    ((Instr.findNow kd k es.toList 0 = some none ∧ K (h.set r (.map es ck))) ∨
     ∃ i u, Instr.findNow kd k es.toList 0 = some (some (i, u)) ∧ K (h.set r (.map (es.eraseIdxIfInBounds i) ck)))

def isKeyD : TypeDesc → Bool
  | .int _ | .string | .bool => true
  | _ => false

/-! Numbers -/
def bitsI (op : BinOp) (k : IntKind) (x y : Int) : Int :=
  match op with
  | .and => k.wrap ((BitVec.ofInt k.bits x &&& BitVec.ofInt k.bits y).toNat)
  | .or => k.wrap ((BitVec.ofInt k.bits x ||| BitVec.ofInt k.bits y).toNat)
  | .xor => k.wrap ((BitVec.ofInt k.bits x ^^^ BitVec.ofInt k.bits y).toNat)
  | _ => k.wrap ((BitVec.ofInt k.bits x &&& ~~~ BitVec.ofInt k.bits y).toNat)

def shlI (k : IntKind) (x y : Int) : Int := k.wrap (x * 2 ^ (min y.toNat k.bits))
def shrI (k : IntKind) (x y : Int) : Int := x.fdiv (2 ^ (min y.toNat k.bits))

def sat (base : Option Addr) (size : Nat) (i : Int) : Addr := (base.getD ⟨0, 0, none⟩).add (i.toNat * size)

def InB (base : Option Addr) (len : Nat) (i : Int) : Prop := base ≠ none ∧ 0 ≤ i ∧ i < (len : Int)

def sbase (base : Option Addr) (size l m : Nat) : Option Addr := if m = l then base else base.map (·.add (l * size))

/-- Two numbers of one kind. -/
def intW (c : Option Bool) (op : BinOp) (k : IntKind) (x y : Int) (K : LV → Prop) : Prop :=
  match op with
  | .add => K (.v (.int k (k.wrap (x + y))))
  | .sub => K (.v (.int k (k.wrap (x - y))))
  | .mul => K (.v (.int k (k.wrap (x * y))))
  | .quo => Req c (y ≠ 0) ∧ K (.v (.int k (k.wrap (x.tdiv y))))
  | .rem => Req c (y ≠ 0) ∧ K (.v (.int k (x.tmod y)))
  | .and => K (.v (.int k (bitsI .and k x y)))
  | .or => K (.v (.int k (bitsI .or k x y)))
  | .xor => K (.v (.int k (bitsI .xor k x y)))
  | .andNot => K (.v (.int k (bitsI .andNot k x y)))
  | .eql => K (.v (.bool (x == y)))
  | .neq => K (.v (.bool (x != y)))
  | .lss => K (.v (.bool (decide (x < y))))
  | .leq => K (.v (.bool (decide (x ≤ y))))
  | .gtr => K (.v (.bool (decide (x > y))))
  | .geq => K (.v (.bool (decide (x ≥ y))))
  | _ => False

/-- A semantic term that only reads: its result by the operation's type. -/
def genV (c : Option Bool) (P : Program) (tb : Tb) (t : Nat) (s : Sem Value) (h : Hp) (K : LV → Prop) : Prop :=
  match tb.ty t with
  | some e => SemV c P s e.sh h (fun x => K (.v (e.sh.enc x)))
  | none => False

def binS (op : BinOp) (t : Nat) (x y : Operand) (a b : Value) : Sem Value := do eqGuard op t x y a b; binOp op t a b

def isNilOp : Operand → Bool
  | .const (.pointer none) | .const (.slice none _ _) | .const (.map none) | .const .nilFunc | .const .nilIface => true
  | _ => false

/-- Is it nil? -/
def nilW (op : BinOp) (b : Bool) (K : LV → Prop) : Prop :=
  match op with
  | .eql => K (.v (.bool b))
  | .neq => K (.v (.bool (!b)))
  | _ => False

def isNilIface : Value → Bool
  | .nilIface => true
  | _ => false

def binW (c : Option Bool) (P : Program) (tb : Tb) (op : BinOp) (t : Nat) (x y : Operand) (rt : Nat) (a b : Value) (h : Hp) (K : LV → Prop) : Prop :=
  match a, b with
  | .int k m, .int k' n =>
    match op with
    | .shl => Req c (0 ≤ n) ∧ K (.v (.int k (shlI k m n)))
    | .shr => Req c (0 ≤ n) ∧ K (.v (.int k (shrI k m n)))
    | op => cond (kEq k k') (intW c op k m n K) False
  | .bool m, .bool n => match tb.ty t with
    | some e => match e.und, op with
      | .bool, .eql => K (.v (.bool (m == n)))
      | .bool, .neq => K (.v (.bool (!(m == n))))
      | _, _ => False
    | none => False
  | .string m, .string n => match op with
    | .eql => K (.v (.bool (m.toList == n.toList)))
    | .neq => K (.v (.bool (!(m.toList == n.toList))))
    | .add => Req c (m.size + n.size ≤ 9223372036854775807) ∧ K (.v (.string (m ++ n)))
    | _ => genV c P tb rt (binS op t x y (.string m) (.string n)) h K
  | .pointer p, .pointer q => cond (isNilOp y) (match tb.ty t with
    | some e => match e.und with
      | .pointer _ => nilW op p.isNone K
      | _ => False
    | none => False) (genV c P tb rt (binS op t x y (.pointer p) (.pointer q)) h K)
  | a, b => genV c P tb rt (binS op t x y a b) h K

def onL (l : Option LV) (K : LV → Prop) : Prop := match l with
  | some l => K l
  | none => False

def onV (l : Option LV) (K : Value → Prop) : Prop := match l with
  | some (.v x) => K x
  | _ => False

def vals (s : St) (ch : Chain) : List Operand → Option (List Value)
  | [] => some []
  | x :: l => match ev s ch x, vals s ch l with
    | some (.v v), some r => some (v :: r)
    | _, _ => none

def onVs (l : Option (List Value)) (K : List Value → Prop) : Prop := match l with
  | some l => K l
  | none => False

def fieldOf (tb : Tb) (t i : Nat) (K : Nat → Nat → Prop) : Prop :=
  match tb.ty t with
  | some e => match e.und with
    | .struct fs => match nth fs.toList i with
      | some f => match tb.ty f.type with
        | some g => match g.size with
          | 0 => False
          | n + 1 => K f.offset (n + 1)
        | none => False
      | none => False
    | _ => False
  | none => False

/-- The elements of a slice's type. -/
def elemS (tb : Tb) (t : Nat) : Option Ty :=
  match tb.ty t with
  | some e => match e.und with
    | .slice u => tb.ty u
    | _ => none
  | none => none

/-- An array's type: how many, of which type. -/
def elemA (tb : Tb) (t : Nat) : Option (Nat × Ty) :=
  match tb.ty t with
  | some e => match e.und with
    | .array n u => match tb.ty u with
      | some g => some (n, g)
      | none => none
    | _ => none
  | none => none

/-- A part of a row of cells, of some type. -/
def partW (tb : Tb) (t : Nat) (cs : List Value) (off : Nat) (K : LV → Prop) : Prop :=
  match tb.ty t with
  | some e => cond (isAggD e.und) (cond (Nat.ble (off + e.size) cs.length) (K (.v (.agg (takeL (dropL cs off) e.size).toArray))) False)
    (match nth cs off with
      | some v => K (.v v)
      | none => False)
  | none => False

def isConstOp : Operand → Bool
  | .const _ => true
  | _ => false

def tysIn (tb : Tb) : List Field → Bool
  | [] => true
  | f :: r => match tb.ty f.type with
    | some _ => tysIn tb r
    | none => false

/-- The parts of a struct, laid over its zero value. -/
def fillW (tb : Tb) (fs : List Field) (cs : List Value) : List (Nat × Value) → Option (List Value)
  | [] => some cs
  | (i, v) :: r => match nth fs i with
    | some f => match tb.ty f.type with
      | some e => cond (Nat.beq (cellsL v).length e.size) (cond (Nat.ble (f.offset + e.size) cs.length) (fillW tb fs (layL cs f.offset (cellsL v)) r) none) none
      | none => none
    | none => none

def fillA (size : Nat) (cs : List Value) : List (Nat × Value) → Option (List Value)
  | [] => some cs
  | (i, v) :: r => cond (Nat.beq (cellsL v).length size) (cond (Nat.ble (i * size + size) cs.length) (fillA size (layL cs (i * size) (cellsL v)) r) none) none

def pairs (s : St) (ch : Chain) : List (Nat × Operand) → Option (List (Nat × Value))
  | [] => some []
  | (i, x) :: l => match ev s ch x, pairs s ch l with
    | some (.v v), some r => some ((i, v) :: r)
    | _, _ => none

def repL {α : Type _} (l : List α) : Nat → List α
  | 0 => []
  | n + 1 => l ++ repL l n

/-- Bounds of a slice expression. -/
def slB (c : Option Bool) (isSlice : Bool) (len cap : Nat) (lo hi mx : Option Int) (K : Nat → Nat → Nat → Prop) : Prop :=
  match lo, hi, mx with
  | none, none, none => K 0 len cap
  | some l, none, none => Req c (0 ≤ l ∧ l ≤ (len : Int)) ∧ K l.toNat len cap
  | none, some x, none => Req c (0 ≤ x ∧ x ≤ (cap : Int)) ∧ K 0 x.toNat cap
  | some l, some x, none => Req c (0 ≤ l ∧ l ≤ x ∧ x ≤ (cap : Int)) ∧ K l.toNat x.toNat cap
  | none, some x, some m => Req c (0 ≤ x ∧ x ≤ m ∧ m ≤ (cap : Int)) ∧ K 0 x.toNat m.toNat
  | some l, some x, some m => Req c (0 ≤ l ∧ l ≤ x ∧ x ≤ m ∧ m ≤ (cap : Int)) ∧ K l.toNat x.toNat m.toNat
  | _, none, some _ => isSlice = !isSlice

def optI (s : St) (ch : Chain) : Option Operand → Option (Option Int)
  | none => some none
  | some x => match ev s ch x with
    | some (.v (.int _ n)) => some (some n)
    | _ => none

def sliceW (c : Option Bool) (tb : Tb) (t : Nat) (x : Value) (lo hi mx : Option Int) (K : LV → Prop) : Prop :=
  match x with
  | .slice base len cap => match elemS tb t with
    | some e => slB c true len cap lo hi mx fun l n m => LetW (⟨sbase base e.size l m, n - l, m - l⟩ : Sl) fun y => K (.v (.slice y.base y.len y.cap))
    | none => False
  | .string b => match tb.ty t, mx with
    | some e, none => match e.und with
      | .string => slB c false b.size b.size lo hi none fun l n _ => K (.v (.string (b.extract l n)))
      | _ => False
    | _, _ => False
  | _ => False

def lenW (c : Option Bool) (P : Program) (tb : Tb) (ty rt : Nat) (x : Value) (h : Hp) (K : LV → Prop) : Prop :=
  match tb.ty ty with
  | some e => match e.und, x with
    | .string, .string b => K (.v (.int .i64 (b.size : Int)))
    | .slice _, .slice _ n _ => K (.v (.int .i64 (n : Int)))
    | .array n _, _ => K (.v (.int .i64 (n : Int)))
    | _, _ => genV c P tb rt (Builtin.len_ #[ty] rt #[x]) h K
  | none => False

def minI (lt : Int → Int → Int) (k : IntKind) (x : Int) : List Value → Option Value
  | [] => some (.int k x)
  | .int _ y :: r => minI lt k (lt x y) r
  | _ => none

def min2I (x y : Int) : Int := if y < x then y else x
def max2I (x y : Int) : Int := if y > x then y else x

def unW (op : UnOp) (x : Value) (K : LV → Prop) : Prop :=
  match op, x with
  | .not, .bool b => K (.v (.bool !b))
  | .neg, .int k n => K (.v (.int k (k.wrap (0 - n))))
  | .xor, .int k n => K (.v (.int k (bitsI .xor k (if k.signed then -1 else k.max) n)))
  | _, _ => False

/-- The operand of a pick, under the test. -/
def evPick (s : St) (ch : Chain) (t : Nat) (w : Bool) (x : Operand) : Option LV :=
  match x with
  | .tmp u => match s.f u with
    | some (l, c) => cond (sufx c ((t, w) :: ch)) (some l) none
    | none => none
  | .const v => some (.v v)
  | _ => none

def pickW (s : St) (ch : Chain) (x a b : Operand) (K : LV → Prop) : Prop :=
  match x with
  | .tmp t => match s.f t with
    | some (.v (.bool p), c0) => cond (sufx c0 ch)
      (match a, b with
        | .tmp _, .const (.bool false) => onV (evPick s ch t true a) fun v => match v with
          | .bool q => LetW (p && q) fun y => K (.v (.bool y))
          | _ => False
        | .const (.bool true), .tmp _ => onV (evPick s ch t false b) fun v => match v with
          | .bool q => LetW (p || q) fun y => K (.v (.bool y))
          | _ => False
        | .const (.bool true), .const (.bool false) => K (.v (.bool p))
        | .const (.bool x), .const (.bool y) => K (.v (.bool (cond p x y)))
        | _, _ => False) False
    | _ => False
  | _ => False

def biV (c : Option Bool) (P : Program) (tb : Tb) (b : Builtin) (vs : List Value) (ts : List TypeId) (rt : Nat) (h : Hp) (K : LV → Prop) : Prop :=
  match b, vs, ts with
  | .len, [x], [ty] => lenW c P tb ty rt x h K
  | .cap, [.slice _ _ c], [ty] => match tb.ty ty with
    | some e => match e.und with
      | .slice _ => K (.v (.int .i64 (c : Int)))
      | _ => False
    | none => False
  | .min, .int k x :: r, _ => match minI min2I k x r with
    | some v => K (.v v)
    | none => False
  | .max, .int k x :: r, _ => match minI max2I k x r with
    | some v => K (.v v)
    | none => False
  | _, _, _ => False

/-- Operations that change nothing. -/
def valW (P : Program) (tb : Tb) (o : Oper) (ch : Chain) (s : St) (h : Hp) (K : LV → Prop) : Prop :=
  match o.op with
  | .move x => onL (ev s ch x) K
  | .assign x => onL (ev s ch x) K
  | .pick x a b => pickW s ch x a b K
  | .extract x i => onV (ev s ch x) fun v => match v with
    | .tuple vs => match nth vs.toList i with
      | some y => K (.v y)
      | none => False
    | _ => False
  | .binOp op t x y _ => onV (ev s ch x) fun a => onV (ev s ch y) fun b => binW (cnd s ch) P tb op t x y o.type a b h K
  | .unOp op _ x => onV (ev s ch x) fun a => unW op a K
  | .nilCheck x => match ev s ch x with
    | some (.v (.pointer p)) => NilW (cnd s ch) p fun a => K (.v (.pointer (some a)))
    | some (.box k off) => K (.box k off)
    | some (.boxd k off) => K (.boxd k off)
    | _ => False
  | .load t x => match ev s ch x with
    | some (.v (.pointer (some a))) => match tb.ty t with
      | some e => LdW (cnd s ch) e.sh h a fun x => K (.v (e.sh.enc x))
      | none => False
    | some (.box k off) => match s.m k with
      | some cs => partW tb t cs off K
      | none => False
    | some (.boxd k off) => match s.m k, tb.ty t with
      | some cs, some e => cond (isAggD e.und) False (∃ x, Req (cnd s ch) (cs[off]? = some (e.sh.enc x)) ∧ K (.v (e.sh.enc x)))
      | _, _ => False
    | _ => False
  | .fieldAddr t x i => fieldOf tb t i fun off _ => match ev s ch x with
    | some (.v (.pointer (some a))) => K (.v (.pointer (some (a.add off))))
    | some (.box k o) => K (.box k (o + off))
    | some (.boxd k o) => K (.boxd k (o + off))
    | _ => False
  | .field t x i => match tb.ty t with
    | some e => match e.und with
      | .struct fs => match nth fs.toList i with
        | some f => onV (ev s ch x) fun v => match v with
          | .agg cs => partW tb f.type cs.toList f.offset K
          | _ => False
        | none => False
      | _ => False
    | none => False
  | .indexAddr t x i => match ev s ch x, ev s ch i with
    | some (.v (.slice base len _)), some (.v (.int _ n)) => match elemS tb t with
      | some e => Req (cnd s ch) (InB base len n) ∧ K (.v (.pointer (some (sat base e.size n))))
      | none => False
    | some (.v (.pointer (some a))), some (.v (.int _ n)) => match elemA tb t with
      | some (len, e) => Req (cnd s ch) (0 ≤ n ∧ n < (len : Int)) ∧ K (.v (.pointer (some (a.add (n.toNat * e.size)))))
      | none => False
    | some (.box k off), some (.v (.int _ n)) => match elemA tb t with
      | some (len, e) => Req (cnd s ch) (0 ≤ n ∧ n < (len : Int)) ∧ cond (isConstOp i) (K (.box k (off + n.toNat * e.size))) (K (.boxd k (off + n.toNat * e.size)))
      | none => False
    | _, _ => False
  | .index t x i => match ev s ch x, ev s ch i with
    | some (.v (.string b)), some (.v (.int _ n)) => match tb.ty t with
      | some y => match y.und with
        | .string => Req (cnd s ch) (0 ≤ n ∧ n < (b.size : Int)) ∧ K (.v (.int .u8 ((b.data.toList.getD n.toNat 0).toNat : Int)))
        | _ => False
      | none => False
    | _, _ => False
  | .slice t x lo hi mx => onV (ev s ch x) fun v => match optI s ch lo, optI s ch hi, optI s ch mx with
    | some lo, some hi, some mx => sliceW (cnd s ch) tb t v lo hi mx K
    | _, _, _ => False
  | .makeInterface t x => onV (ev s ch x) fun v => match tb.ty t with
    | some e => match e.und with
      | .interface _ => False
      | _ => K (.v (.iface t v))
    | none => False
  | .makeFunc fn first captured => onVs (vals s ch first.toList) fun a => onVs (vals s ch captured.toList) fun b => K (.v (.func fn a.toArray b.toArray))
  | .convert src dst x => onV (ev s ch x) fun v => match tb.ty src, tb.ty dst, v with
    | some _, some e, .int _ n => match e.und with
      | .int k => K (.v (.int k (k.wrap n)))
      | _ => genV (cnd s ch) P tb dst (convert src dst v) h K
    | some _, some _, v => genV (cnd s ch) P tb dst (convert src dst v) h K
    | _, _, _ => False
  | .build t parts => onVs ((pairs s ch parts.toList).map fun _ => []) fun _ => match pairs s ch parts.toList, tb.ty t with
    | some ps, some e => match e.und with
      | .struct fs => cond (tysIn tb fs.toList) (match fillW tb fs.toList (cellsL e.zero) ps with
        | some cs => K (.v (.agg cs.toArray))
        | none => False) False
      | .array _ u => match tb.ty u with
        | some g => match fillA g.size (cellsL e.zero) ps with
          | some cs => K (.v (.agg cs.toArray))
          | none => False
        | none => False
      | _ => False
    | _, _ => False
  | .lookup t x i ok => onV (ev s ch x) fun a => onV (ev s ch i) fun b => match a, tb.ty t with
    | .map m, some e => match e.und with
      | .map k u => match tb.ty k, tb.ty u with
        | some ke, some ue => cond (isKeyD ke.und) (LookW (cnd s ch) ke.und ue.sh ue.zero m b h fun x y => cond ok (K (.v (.tuple #[ue.sh.enc x, .bool y]))) (K (.v (ue.sh.enc x))))
            (genV (cnd s ch) P tb o.type (Instr.lookup t a b ok) h K)
        | _, _ => False
      | _ => False
    | _, _ => False
  | .call { callee := .builtin b, args := xs, argTypes := ts } => onVs (vals s ch xs.toList) fun vs => biV (cnd s ch) P tb b vs ts.toList o.type h K
  | _ => False

/-- What an operation that changes nothing looks at: nothing, the private variables, all memory. -/
inductive Kd where
  | pure
  | box
  | mem

def kindD (tb : Tb) (o : Oper) (ch : Chain) (s : St) : Kd :=
  match o.op with
  | .load _ x => match ev s ch x with
    | some (.box _ _) => .box
    | some (.boxd _ _) => .box
    | _ => .mem
  | .lookup .. => .mem
  | .binOp op _ x y _ => match ev s ch x, ev s ch y with
    | some (.v (.int _ _)), some (.v (.int _ _)) => .pure
    | some (.v (.bool _)), some (.v (.bool _)) => .pure
    | some (.v (.string _)), some (.v (.string _)) => match op with
      | .eql => .pure
      | .neq => .pure
      | .add => .pure
      | _ => .mem
    | some (.v (.pointer _)), some (.v (.pointer _)) => cond (isNilOp y) .pure .mem
    | _, _ => .mem
  | .convert _ d x => match ev s ch x, tb.ty d with
    | some (.v (.int _ _)), some e => match e.und with
      | .int _ => .pure
      | _ => .mem
    | _, _ => .mem
  | .call { callee := .builtin .len, args := xs, argTypes := ts } => match vals s ch xs.toList, ts.toList with
    | some [x], [t] => match tb.ty t with
      | some e => match e.und, x with
        | .string, .string _ => .pure
        | .slice _, .slice _ _ _ => .pure
        | .array _ _, _ => .pure
        | _, _ => .mem
      | none => .mem
    | _, _ => .mem
  | _ => .pure

/-- A semantic term that may change memory: its result by the operation's type. -/
def genE (c : Option Bool) (P : Program) (tb : Tb) (t : Nat) (s : Sem Value) (K : LV → Hp → Prop) (h : Hp) : Prop :=
  match tb.ty t with
  | some e => EffC c (fun (K : e.sh.T → Hp → Prop) h => SemE P s e.sh K h) (fun x h' => K (.v (e.sh.enc x)) h') h
  | none => False

def mapSetW (P : Program) (tb : Tb) (c : Option Bool) (t : Nat) (x y z : Option LV) (K : LV → Hp → Prop) (h : Hp) : Prop :=
  onV x fun a => onV y fun b => onV z fun v => match a, tb.ty t with
    | .map m, some e => match e.und with
      | .map k _ => match tb.ty k with
        | some ke => EffC c (fun (K : Unit → Hp → Prop) h => cond (isKeyD ke.und) (MapSetW ke.und m b v (K ()) h) (SemU P (Instr.mapUpdate t a b v) (K ()) h)) (fun _ h' => K (.v (.tuple #[])) h') h
        | none => False
      | _ => False
    | _, _ => False

/-- Operations that may change memory, other than a store into a variable that nobody else knows. -/
def appW (tb : Tb) (c : Option Bool) (ts : List TypeId) (vs : List Value) (h : Hp) (K : LV → Hp → Prop) : Prop :=
  match vs, ts with
  | [.slice p n c1, .slice p' n' c'], [t, t'] => match elemS tb t, elemS tb t' with
    | some e, some _ => EffC c (AppendW e.size e.bytes (cellsL e.zero) ⟨p, n, c1⟩ ⟨p', n', c'⟩) (fun l h' => K (.v (.slice l.base l.len l.cap)) h') h
    | _, _ => False
  | [.slice p n c1, .string x], [t, t'] => match elemS tb t, tb.ty t' with
    | some e, some e' => match e.und, e'.und with
      | .int .u8, .string => cond (Nat.beq e.bytes 1) (EffC c (AppendStrW ⟨p, n, c1⟩ x) (fun l h' => K (.v (.slice l.base l.len l.cap)) h') h) False
      | _, _ => False
    | _, _ => False
  | [.slice p n c1, .int .i64 m], [t, t'] => match elemS tb t, tb.ty t' with
    | some e, some e' => match e'.und with
      | .int .i64 => EffC c (AppendZW e.size e.bytes (cellsL e.zero) ⟨p, n, c1⟩ m) (fun l h' => K (.v (.slice l.base l.len l.cap)) h') h
      | _ => False
    | _, _ => False
  | _, _ => False

def copyW (P : Program) (tb : Tb) (ty : Nat) (c : Option Bool) (ts : Array TypeId) (vs : List Value) (h : Hp) (K : LV → Hp → Prop) : Prop :=
  match vs, ts.toList with
  | [.slice p n c1, .slice p' n' c'], [t, _] => match elemS tb t with
    | some e => EffC c (CopyW e.size ⟨p, n, c1⟩ ⟨p', n', c'⟩) (fun k h' => K (.v (.int .i64 k)) h') h
    | none => False
  | _, _ => genE c P tb ty (Builtin.copy_ ts ty vs.toArray) K h

def delW (P : Program) (tb : Tb) (ty : Nat) (c : Option Bool) (ts : Array TypeId) (vs : List Value) (h : Hp) (K : LV → Hp → Prop) : Prop :=
  match vs, ts.toList with
  | [.map m, k], [t, _] => match tb.ty t with
    | some e => match e.und with
      | .map kt _ => match tb.ty kt with
        | some ke => cond (isKeyD ke.und) (EffC c (fun (K : Unit → Hp → Prop) h => MapDelW ke.und m k (K ()) h) (fun _ h' => K (.v (.tuple #[])) h') h)
            (genE c P tb ty (Builtin.delete_ ts ty vs.toArray) K h)
        | none => False
      | _ => False
    | none => False
  | _, _ => False

def callFW (P : Program) (tb : Tb) (ty : Nat) (c : Option Bool) (g : FuncId) (vs : List Value) (h : Hp) (K : LV → Hp → Prop) : Prop :=
  match tb.ty ty with
  | some e => cond (tb.call g) (EffC c (CallT P g vs e.sh) (fun x h' => K (.v (e.sh.enc x)) h') h) (match tb.ext g with
    | some f => EffC c (fun (K : e.sh.T → Hp → Prop) h => SemE P (f vs.toArray) e.sh K h) (fun x h' => K (.v (e.sh.enc x)) h') h
    | none => False)
  | none => False

def callTW (P : Program) (tb : Tb) (ty : Nat) (c : Option Bool) (fv : Option LV) (vs : List Value) (h : Hp) (K : LV → Hp → Prop) : Prop :=
  match tb.ty ty with
  | some e => onV fv fun fv => EffC c (CallV P tb fv vs e.sh) (fun x h' => K (.v (e.sh.enc x)) h') h
  | none => False

def effW (P : Program) (tb : Tb) (o : Oper) (ch : Chain) (s : St) (h : Hp) (K : LV → Hp → Prop) : Prop :=
  match o.op with
  | .store t x y => match ev s ch x, ev s ch y with
    | some (.v (.pointer (some a))), some (.v v) => match ch, tb.ty t with
      | [], some e => cond (Nat.beq (cellsL v).length e.size) (cond (okCells (cellsL v)) (StW h a (cellsL v) fun h' => K (.v (.tuple #[])) h') False) False
      | _, _ => False
    | _, _ => False
  | .alloc t => match tb.ty t with
    | some e => EffC (cnd s ch) (NewW (cellsL e.zero)) (fun a h' => K (.v (.pointer (some a))) h') h
    | none => False
  | .box _ x => onV (ev s ch x) fun v => EffC (cnd s ch) (NewW (cellsL v)) (fun a h' => K (.v (.pointer (some a))) h') h
  | .buildSlice t len parts => match pairs s ch parts.toList, elemS tb t with
    | some ps, some e => cond (Nat.ble (len * e.size) 16777216) (match fillA e.size (repL (cellsL e.zero) len) ps with
      | some cs => EffC (cnd s ch) (NewW cs) (fun a h' => K (.v (.slice (some a) len len)) h') h
      | none => False) False
    | _, _ => False
  | .makeMap _ none => EffC (cnd s ch) MakeMapW (fun m h' => K (.v (.map m)) h') h
  | .makeSlice t x y => onV (ev s ch x) fun a => onV (ev s ch y) fun b => match a, b, elemS tb t with
    | .int .i64 m, .int .i64 n, some e => EffC (cnd s ch) (MakeW e.bytes (cellsL e.zero) m n) (fun l h' => K (.v (.slice l.base l.len l.cap)) h') h
    | _, _, _ => False
  | .mapUpdate t x y z => mapSetW P tb (cnd s ch) t (ev s ch x) (ev s ch y) (ev s ch z) K h
  | .insert t x y z => mapSetW P tb (cnd s ch) t (ev s ch x) (ev s ch y) (ev s ch z) K h
  | .mapEntry t x y => onV (ev s ch x) fun a => onV (ev s ch y) fun b => genE (cnd s ch) P tb o.type (Instr.mapEntry t a b) K h
  | .entryStore t x y z => onV (ev s ch x) fun a => onV (ev s ch y) fun b => onV (ev s ch z) fun c =>
    EffC (cnd s ch) (fun (K : Unit → Hp → Prop) h => SemU P (Instr.entryStore t a b c) (K ()) h) (fun _ h' => K (.v (.tuple #[])) h') h
  | .range t x => onV (ev s ch x) fun a => genE (cnd s ch) P tb o.type (Instr.range t a) K h
  | .next x b => onV (ev s ch x) fun a => genE (cnd s ch) P tb o.type (Instr.next a b o.type) K h
  | .convert src dst x => onV (ev s ch x) fun v => match v, tb.ty src, elemS tb dst with
    | .string b, some e, some g => match e.und, g.und with
      | .string, .int .u8 => EffC (cnd s ch) (BytesW b) (fun l h' => K (.v (.slice l.base l.len l.cap)) h') h
      | _, _ => False
    | _, _, _ => False
  | .call { callee := .builtin b, args := xs, argTypes := ts } => onVs (vals s ch xs.toList) fun vs => match b with
    | .append => appW tb (cnd s ch) ts.toList vs h K
    | .copy => copyW P tb o.type (cnd s ch) ts vs h K
    | .delete => delW P tb o.type (cnd s ch) ts vs h K
    | .clear => genE (cnd s ch) P tb o.type (Builtin.clear_ ts o.type vs.toArray) K h
    | _ => False
  | .call { callee := .value f, args := xs, argTypes := _ } => onVs (vals s ch xs.toList) fun vs => match f with
    | .func g => callFW P tb o.type (cnd s ch) g vs h K
    | .tmp t => callTW P tb o.type (cnd s ch) (ev s ch (.tmp t)) vs h K
    | _ => False
  | _ => False

end Lf
