/-
  The lifting layer, part 3: regions and code.
-/
import Derived.Test.YtoffikpplbiohaaLfLift
namespace Lf
open Go

/-- A conversion that makes no memory. -/
def numConv (tb : Tb) (o : Oper) : Bool :=
  match o.op with
  | .convert s d _ => match tb.ty s, tb.ty d with
    | some a, some b => match a.und, b.und with
      | .int _, .int _ | .int _, .float _ | .float _, .int _ | .float _, .float _ | .int _, .string | .slice _, .string | .string, .string => true
      | _, _ => false
    | _, _ => false
  | _ => false

/-- Does an operation leave memory alone? (Else it may change it.) -/
def isVal (tb : Tb) (o : Oper) : Bool :=
  match o.op with
  | .move _ | .assign _ | .pick .. | .extract .. | .binOp .. | .unOp .. | .nilCheck _ | .load .. | .fieldAddr .. | .field .. | .indexAddr .. | .index ..
  | .slice .. | .makeInterface .. | .makeFunc .. | .build .. | .lookup .. => true
  | .convert .. => numConv tb o
  | .call { callee := .builtin b, .. } => match b with
    | .len | .cap | .min | .max => true
    | _ => false
  | _ => false

def has (l : List Nat) (i : Nat) : Bool :=
  match l with
  | [] => false
  | a :: r => cond (Nat.beq i a) true (has r i)

/-- The slots that operations may write. -/
def modsO : List Oper → List Nat
  | [] => []
  | o :: r => match o.dst with
    | some d => d :: modsO r
    | none => modsO r

def app {α : Type _} : List α → List α → List α
  | [], l => l
  | a :: r, l => a :: app r l

def allIn : List Nat → List Nat → Bool
  | [], _ => true
  | a :: r, l => cond (has l a) (allIn r l) false

/-- What is told of a function's own variables: which slots hold the address of one that nobody else knows, which of those may change now. -/
structure Ctx where
  P : Program
  tb : Tb
  priv : List Nat

def dstIn (l : List Nat) (o : Oper) : Option Nat :=
  match o.dst with
  | some d => cond (has l d) (some d) none
  | none => none

/-- The chain of tests under which an operation is carried out. -/
def chainOf (ops : List Oper) : Nat → Oper → Option Chain
  | 0, _ => none
  | n + 1, o => match o.guard with
    | none => some []
    | some (j, w) => match nth ops j with
      | some p => match p.dst, chainOf ops n p with
        | some d, some c => some ((d, w) :: c)
        | _, _ => none
      | none => none

def AgainLook (C : Ctx) (t : Nat) (a b : Value) (ok : Bool) (h : Hp) (v : Value) : Prop :=
  match a, C.tb.ty t with
  | .map m, some e => match e.und with
    | .map k u => match C.tb.ty k, C.tb.ty u with
      | some ke, some ue => cond (isKeyD ke.und) (cond ok (match v with
          | .tuple ⟨[x, .bool y]⟩ => LookIs ke.und ue.zero m b h x y
          | _ => False) (∃ y, LookIs ke.und ue.zero m b h v y)) (SemIs C.P (Instr.lookup t a b ok) h v)
      | _, _ => False
    | _ => False
  | _, _ => False

/-- The operation reads the same again. -/
def Again (C : Ctx) (mch : Bool) (o : Oper) (ch : Chain) (s : St) (h : Hp) : Prop :=
  match o.op, o.dst with
  | .load _ x, some d => match s.f d with
    | some (.v v, _) => match ev s ch x with
      | some (.v (.pointer (some a))) => Req (cnd s ch) (LdIs h a (cellsL v))
      | some (.box _ _) => cond mch False True
      | some (.boxd _ _) => cond mch False True
      | _ => False
    | _ => False
  | .lookup t x i ok, some d => match s.f d with
    | some (.v v, _) => onV (ev s ch x) fun a => onV (ev s ch i) fun b => Req (cnd s ch) (AgainLook C t a b ok h v)
    | _ => False
  | .call { callee := .builtin .len, args := xs, argTypes := ts }, some d => match s.f d with
    | some (.v v, _) => match vals s ch xs.toList with
      | some [x] => Req (cnd s ch) (SemIs C.P (Builtin.len_ ts o.type #[x]) h v)
      | _ => False
    | _ => False
  | _, _ => False

def AgainAll (C : Ctx) (mch : Bool) (ops : List Oper) (s : St) (h : Hp) : List Nat → Prop
  | [] => True
  | r :: l => (match nth ops r with
      | some o => match chainOf ops ops.length o with
        | some ch => Again C mch o ch s h
        | none => False
      | none => False) ∧ AgainAll C mch ops s h l

/-- The slots of a chain hold tests, each under its own chain. -/
def guardOk (s : St) : Chain → Bool
  | [] => true
  | (d, _) :: c => match s.f d with
    | some (.v (.bool _), c') => cond (chEq c' c) (guardOk s c) false
    | _ => false

def notIn (l : List Nat) : List Nat → Bool
  | [] => true
  | a :: r => cond (has l a) false (notIn l r)

def nodup : List Nat → Bool
  | [] => true
  | a :: r => cond (has r a) false (nodup r)

def noGuard : List Oper → Bool
  | [] => true
  | o :: r => match o.guard with
    | none => noGuard r
    | some _ => false

/-- One operation. 'mok': the private variables that may be written here. -/
def opW (C : Ctx) (ops : List Oper) (mok : List Nat) (o : Oper) (s : St) (h : Hp) (K : St → Hp → Prop) : Prop :=
  match chainOf ops ops.length o with
  | none => False
  | some ch => cond (guardOk s ch)
    (cond (isVal C.tb o) (valW C.P C.tb o ch s h fun l => K (s.put o.dst l ch) h)
    (match dstIn C.priv o, ch with
      | some d, [] => cond (has mok d) (match o.op with
        | .alloc t => match C.tb.ty t with
          | some e => K ((s.put (some d) (.box d 0) []).putM d (cellsL e.zero)) h
          | none => False
        | .box _ x => onV (ev s ch x) fun v => K ((s.put (some d) (.box d 0) []).putM d (cellsL v)) h
        | _ => False) False
      | some _, _ => False
      | none, _ => match o.op with
        | .store t x y => match ev s ch x, ev s ch y with
          | some (.box k off), some (.v v) => match s.m k, C.tb.ty t, ch with
            | some cs, some e, [] => cond (has mok k) (cond (Nat.beq (cellsL v).length e.size) (cond (Nat.ble (off + e.size) cs.length) (cond (okCells (cellsL v))
                (K ((s.put o.dst (.v (.tuple #[])) ch).putM k (layL cs off (cellsL v))) h) False) False) False) False
            | _, _, _ => False
          | _, _ => effW C.P C.tb o ch s h fun l h' => K (s.put o.dst l ch) h'
        | _ => effW C.P C.tb o ch s h fun l h' => K (s.put o.dst l ch) h')) False

def isStore (o : Oper) : Bool := match o.op with
  | .store .. => true
  | _ => false

def isRead (tb : Tb) (o : Oper) : Bool := match o.op with
  | .move _ | .assign _ | .pick .. | .extract .. | .unOp .. | .nilCheck _ | .fieldAddr .. | .field .. | .indexAddr .. | .index .. | .slice .. | .makeInterface .. | .makeFunc .. | .build .. => false
  | .binOp _ t _ _ _ => match tb.ty t with
    | some e => match e.und with
      | .int _ | .bool | .string | .float _ => false
      | _ => true
    | none => true
  | .call { callee := .builtin b, argTypes := ts, .. } => match b with
    | .cap | .min | .max => false
    | .len => match ts.toList with
      | [t] => match tb.ty t with
        | some e => match e.und with
          | .slice _ | .string | .array _ _ => false
          | _ => true
        | none => true
      | _ => true
    | _ => true
  | .convert s _ _ => match tb.ty s with
    | some e => match e.und with
      | .int _ | .float _ | .string => false
      | _ => true
    | none => true
  | _ => true

def kindOk (C : Ctx) (ops : List Oper) (o : Oper) (s : St) : Bool :=
  cond (isVal C.tb o) (cond (isRead C.tb o) true (match chainOf ops ops.length o with
    | some ch => match kindD C.tb o ch s with
      | .pure => true
      | _ => false
    | none => false)) true

/-- A region's operations in some order; behind each what must still read the same. -/
def ordW (C : Ctx) (ops : List Oper) (mok : List Nat) : List (Nat × List Nat) → St → Hp → (St → Hp → Prop) → Prop
  | [], s, h, K => K s h
  | (i, ws) :: r, s, h, K => match nth ops i with
    | some o => cond (kindOk C ops o s) (opW C ops mok o s h fun s' h' => match ws with
      | [] => ordW C ops mok r s' h' K
      | ws => AgainAll C (isStore o) ops s' h' ws ∧ ordW C ops mok r s' h' K) False
    | none => False

/-- A region's operations as they stand. -/
def seqW (C : Ctx) (ops : List Oper) (mok : List Nat) : List Oper → St → Hp → (St → Hp → Prop) → Prop
  | [], s, h, K => K s h
  | o :: r, s, h, K => opW C ops mok o s h fun s' h' => seqW C ops mok r s' h' K

/-! The plan of a region that draws its order -/
def bindsAny (e : Edge) : Bool := match e.ground with
  | .textOnly _ => false
  | .gcOnly _ => false
  | _ => true

/-- The operations that an operation waits for. -/
def waits (o : Oper) : List Nat := go o.after.toList
  where
  go : List Edge → List Nat
    | [] => []
    | e :: r => cond (bindsAny e) (e.on :: go r) (go r)

/-- All that is ahead of each operation, by rows: 'acc' has those of the first ones. -/
def aheads : List Oper → List (List Nat) → List (List Nat)
  | [], acc => acc
  | o :: r, acc => aheads r (app acc [union (waits o) acc])
  where
  union : List Nat → List (List Nat) → List Nat
    | [], _ => []
    | j :: l, acc => j :: app (match nth acc j with
      | some x => x
      | none => []) (union l acc)

def aheadOf (rows : List (List Nat)) (i : Nat) : List Nat := match nth rows i with
  | some l => l
  | none => []

def isPrivAlloc (priv : List Nat) (o : Oper) : Bool := match o.op, o.dst with
  | .alloc _, some d => has priv d
  | .box _ _, some d => has priv d
  | _, _ => false

def sndL : List (Nat × Operand) → List Operand
  | [] => []
  | (_, x) :: r => x :: sndL r

def optL : Option Operand → List Operand
  | none => []
  | some x => [x]

/-- The operands of an operation that is read here. -/
def opndsL : Op → Option (List Operand)
  | .alloc _ => some []
  | .move x | .assign x | .box _ x | .load _ x | .nilCheck x | .unOp _ _ x | .convert _ _ x | .fieldAddr _ x _ | .field _ x _ | .range _ x | .next x _ | .extract x _ | .makeInterface _ x => some [x]
  | .pick c a b => some [c, a, b]
  | .build _ ps | .buildSlice _ _ ps => some (sndL ps.toList)
  | .store _ a v | .binOp _ _ a v _ | .makeSlice _ a v | .indexAddr _ a v | .index _ a v | .lookup _ a v _ | .mapEntry _ a v => some [a, v]
  | .makeFunc _ first captured => some (app first.toList captured.toList)
  | .makeMap _ r => some (optL r)
  | .slice _ x l h m => some (x :: app (optL l) (app (optL h) (optL m)))
  | .mapUpdate _ m k v | .entryStore _ m k v | .insert _ m k v => some [m, k, v]
  | .call { callee := .value f, args := xs, .. } => some (f :: xs.toList)
  | .call { callee := .builtin _, args := xs, .. } => some xs.toList
  | _ => none

def dstIs (o : Oper) (t : Nat) : Bool := match o.dst with
  | some d => Nat.beq d t
  | none => false

def looksAt (o : Oper) (t : Nat) : Bool := match opndsL o.op with
  | some l => go l
  | none => true
  where
  go : List Operand → Bool
    | [] => false
    | .tmp u :: r => cond (Nat.beq u t) true (go r)
    | _ :: r => go r

/-- Is it written in the region, by an operation that the first one does not wait for? Then that one waits for the first one. -/
def slotOk (rows : List (List Nat)) (i t : Nat) : List Oper → Nat → Bool
  | [], _ => true
  | p :: r, j => cond (cond (dstIs p t) (cond (has (aheadOf rows i) j) true (cond (Nat.beq i j) true (has (aheadOf rows j) i))) true) (slotOk rows i t r (j + 1)) false

/-- What an operation looks at. -/
def looksOk (ops : List Oper) (rows : List (List Nat)) (i : Nat) (o : Oper) : Bool :=
  match opndsL o.op with
  | some l => cond (go l) (match o.guard with
    | none => true
    | some (j, _) => has (aheadOf rows i) j) false
  | none => false
  where
  go : List Operand → Bool
    | [] => true
    | .tmp t :: r => cond (slotOk rows i t ops 0) (go r) false
    | _ :: r => go r

/-- Does one that does not wait for it read what it overwrites? -/
def isWar (rows : List (List Nat)) (j : Nat) (o : Oper) : List Oper → Nat → Bool
  | [], _ => false
  | p :: r, i => match o.dst with
    | none => false
    | some d => cond (cond (looksAt p d) (cond (has (aheadOf rows i) j) false true) false) true (isWar rows j o r (i + 1))

/-- 'ord' lists the operations in an order that they may have; 'done': those ahead; 'last': the changes of memory so far, the last one first. -/
def planGo (tb : Tb) (priv : List Nat) (ops : List Oper) (rows : List (List Nat)) : List (Nat × List Nat) → List Nat → Option Nat → Bool
  | [], _, _ => true
  | (i, ws) :: r, done, last => match nth ops i with
    | some o => cond (cond (allIn (waits o) done) (looksOk ops rows i o) false)
      (cond (has done i) false (cond (match last with
          | none => true
          | some e => has (aheadOf rows i) e)
        (match cond (isVal tb o) true (isPrivAlloc priv o), isWar rows i o ops 0 with
          | true, false => planGo tb priv ops rows r (i :: done) last
          | true, true => planGo tb priv ops rows r (i :: done) (some i)
          | false, _ => cond (watched tb ops rows ws i done) (planGo tb priv ops rows r (i :: done) (some i)) false) false)) false
    | none => false
  where
  watched (tb : Tb) (ops : List Oper) (rows : List (List Nat)) (ws : List Nat) (e : Nat) : List Nat → Bool
    | [] => true
    | r :: l => cond (match nth ops r with
        | some o => cond (cond (isRead tb o) (isVal tb o) false) (cond (has ws r) true (has (aheadOf rows e) r)) true
        | none => false) (watched tb ops rows ws e l) false

def planOk (tb : Tb) (priv : List Nat) (ops : List Oper) (ord : List (Nat × List Nat)) : Bool :=
  cond (nodup (modsO ops)) (cond (Nat.beq ord.length ops.length) (planGo tb priv ops (aheads ops []) ord [] none) false) false

/-- What was written under a test is forgotten. -/
def St.clean (s : St) : St := { f := fun i => match s.f i with | some (l, []) => some (l, []) | _ => none, m := s.m }

/-- The private variables that a region makes. -/
def allocsOf (priv : List Nat) : List Oper → List Nat
  | [] => []
  | o :: r => cond (isPrivAlloc priv o) (match o.dst with
    | some d => d :: allocsOf priv r
    | none => allocsOf priv r) (allocsOf priv r)

def dropL' (l : List Nat) (x : Option (LV × Chain)) : Option (LV × Chain) := match x with
  | some (.box k o, c) => cond (has l k) none (some (.box k o, c))
  | some (.boxd k o, c) => cond (has l k) none (some (.boxd k o, c))
  | some (.v v, c) => some (.v v, c)
  | none => none

/-- What leads to variables that are made anew is forgotten. -/
def St.dropB (s : St) (l : List Nat) : St := match l with
  | [] => s
  | l => { f := fun i => dropL' l (s.f i), m := fun k => cond (has l k) none (s.m k) }

/-- Each test stands ahead of what it guards. -/
def guardsBack : List Oper → Nat → Bool
  | [], _ => true
  | o :: r, i => match o.guard with
    | none => guardsBack r (i + 1)
    | some (j, _) => cond (Nat.blt j i) (guardsBack r (i + 1)) false

def seqOk (priv : List Nat) (ops : List Oper) : Bool :=
  cond (nodup (allocsOf priv ops)) (cond (noGuard ops) true (cond (nodup (modsO ops)) (guardsBack ops 0) false)) false

structure J where
  isM : Bool
  i : Nat
  t : Nat

inductive Ann where
  | tt
  | sq (x y : Ann)
  | jn (js : List J) (mm : List Nat) (x y : Ann)
  | lp (js : List J) (mm : List Nat) (x : Ann)
  | bk (x : Ann)
  | bj (js : List J) (mm : List Nat) (x : Ann)
  | rg (ord : List (Nat × List Nat))

def Ann.fst : Ann → Ann
  | .sq x _ | .jn _ _ x _ | .lp _ _ x | .bk x | .bj _ _ x => x
  | _ => .tt

def Ann.snd : Ann → Ann
  | .sq _ y | .jn _ _ _ y => y
  | _ => .tt

inductive Ex where
  | nrm
  | ret
  | ext (i : Nat)
  | gto (i : Nat)

abbrev Env := Ex → St → Hp → Prop

def Env.nrm (E : Env) (K : St → Hp → Prop) : Env
  | .nrm => K
  | .ret => E .ret
  | .ext i => E (.ext i)
  | .gto i => E (.gto i)

def Env.blk (E : Env) (id : Nat) (K : St → Hp → Prop) : Env
  | .nrm => K
  | .ret => E .ret
  | .ext i => cond (Nat.beq i id) K (E (.ext i))
  | .gto i => E (.gto i)

def JTup (tb : Tb) : List J → Type
  | [] => Unit
  | [j] => (shOf tb j.t).T
  | j :: j2 :: js => (shOf tb j.t).T × JTup tb (j2 :: js)

def isAggT (tb : Tb) (t : Nat) : Bool := match tb.ty t with
  | some e => isAggD e.und
  | none => false

def ofCells (tb : Tb) (t : Nat) (cs : List Value) : Option Value :=
  cond (isAggT tb t) (some (.agg cs.toArray)) (match cs with
    | [v] => some v
    | _ => none)

def getOne (tb : Tb) (s : St) (j : J) (K : (shOf tb j.t).T → Prop) : Prop :=
  cond j.isM
    (match s.m j.i with
      | some cs => match ofCells tb j.t cs with
        | some v => match (shOf tb j.t).dec v with
          | some x => K x
          | none => False
        | none => False
      | none => False)
    (match s.f j.i with
      | some (.v v, []) => match (shOf tb j.t).dec v with
        | some x => K x
        | none => False
      | _ => False)

def getJ (tb : Tb) : (js : List J) → St → (JTup tb js → Prop) → Prop
  | [], _, K => K ()
  | [j], s, K => getOne tb s j K
  | j :: j2 :: js, s, K => getOne tb s j fun x => getJ tb (j2 :: js) s fun y => K (x, y)

def setOne (tb : Tb) (j : J) (x : (shOf tb j.t).T) (s : St) : St :=
  cond j.isM (s.putM j.i (cellsL ((shOf tb j.t).enc x))) (s.put (some j.i) (.v ((shOf tb j.t).enc x)) [])

def setJ (tb : Tb) : (js : List J) → JTup tb js → St → St
  | [], _, s => s
  | [j], x, s => setOne tb j x s
  | j :: j2 :: js, p, s => setJ tb (j2 :: js) p.2 (setOne tb j p.1 s)



def mods : Code → List Nat
  | .region _ ops _ => modsO ops.toList
  | .seq a b => app (mods a) (mods b)
  | .cond _ a b => app (mods a) (mods b)
  | .block _ a => mods a
  | .loop a => mods a
  | .scope a => mods a
  | _ => []

def St.forget (s : St) (l mm : List Nat) : St :=
  { f := fun i => cond (has l i) none (dropL' l (s.f i)), m := fun i => cond (has mm i) none (s.m i) }


def lift (C : Ctx) : Code → Ann → List Nat → St → Env → Hp → Prop
  | .skip, _, _, s, E, h => E .nrm s h
  | .ret, _, _, s, E, h => E .ret s h
  | .exit id, _, _, s, E, h => E (.ext id) s h
  | .goto l, _, _, s, E, h => E (.gto l) s h
  | .label _, _, _, s, E, h => E .nrm s h
  | .region _ ops draw, A, mok, s, E, h =>
    match draw with
    | false => cond (seqOk C.priv ops.toList) (seqW C ops.toList mok ops.toList (s.dropB (allocsOf C.priv ops.toList)) h fun s' h' => E .nrm s'.clean h') False
    | true => match A with
      | .rg ord => cond (planOk C.tb C.priv ops.toList ord) (ordW C ops.toList mok ord (s.dropB (allocsOf C.priv ops.toList)) h fun s' h' => E .nrm s'.clean h') False
      | _ => False
  | .seq a b, A, mok, s, E, h =>
    match A with
    | .jn js mm _ _ => cond (allIn mm mok) (JoinT (fun (R : JTup C.tb js → Hp → Prop) => lift C a A.fst mm s (E.nrm fun s' h' => getJ C.tb js s' fun x => R x h') h)
        (fun x h' => lift C b A.snd mok (setJ C.tb js x (s.forget (mods a) mm)) E h')) False
    | _ => lift C a A.fst mok s (E.nrm fun s' h' => lift C b A.snd mok s' E h') h
  | .cond c a b, A, mok, s, E, h => onV (ev s [] c) fun v => match v with
    | .bool t => if t = true then lift C a A.fst mok s E h else lift C b A.snd mok s E h
    | _ => False
  | .block id a, A, mok, s, E, h =>
    match A with
    | .bj js mm _ => cond (allIn mm mok) (JoinT (fun (R : JTup C.tb js → Hp → Prop) => lift C a A.fst mm s (E.blk id fun s' h' => getJ C.tb js s' fun x => R x h') h)
        (fun x h' => E .nrm (setJ C.tb js x (s.forget (mods a) mm)) h')) False
    | _ => lift C a A.fst mok s (E.blk id (E .nrm)) h
  | .loop a, A, mok, s, E, h =>
    match A with
    | .lp js mm _ => cond (allIn mm mok) (getJ C.tb js s fun x0 => LoopT (fun (R : JTup C.tb js → Hp → Prop) x h => lift C a A.fst mm (setJ C.tb js x (s.forget (mods a) mm))
        (E.nrm fun s' h' => getJ C.tb js s' fun x => R x h') h) x0 h) False
    | _ => False
  | _, _, _, _, _, _ => False

/-- What a function hands back. -/
def retOne (C : Ctx) (s : St) (r : ResultVar) (t : Nat) (K : (shOf C.tb t).T → Prop) : Prop :=
  match r with
  | .tmp i => match s.f i with
    | some (.v v, []) => match (shOf C.tb t).dec v with
      | some x => K x
      | none => False
    | _ => False
  | .cell i ct => cond (Nat.beq ct t) (match s.f i, C.tb.ty t with
    | some (.box k 0, []), some _ => match s.m k with
      | some cs => match ofCells C.tb t cs with
        | some v => match (shOf C.tb t).dec v with
          | some x => K x
          | none => False
        | none => False
      | none => False
    | _, _ => False) False

def shRes (tb : Tb) : List Nat → Shape
  | [] => shUnit
  | [a] => shOf tb a
  | [a, b] => shTup2 (shOf tb a) (shOf tb b)
  | [a, b, c] => shTup3 (shOf tb a) (shOf tb b) (shOf tb c)
  | [a, b, c, d] => shTup4 (shOf tb a) (shOf tb b) (shOf tb c) (shOf tb d)
  | [a, b, c, d, e] => shTup5 (shOf tb a) (shOf tb b) (shOf tb c) (shOf tb d) (shOf tb e)
  | _ => shUnit

def retW (C : Ctx) (s : St) (h : Hp) : (rs : List ResultVar) → (ts : List Nat) → ((shRes C.tb ts).T → Hp → Prop) → Prop
  | [], [], K => K () h
  | [r], [t], K => retOne C s r t fun x => K x h
  | [r1, r2], [t1, t2], K => retOne C s r1 t1 fun x1 => retOne C s r2 t2 fun x2 => K (x1, x2) h
  | [r1, r2, r3], [t1, t2, t3], K => retOne C s r1 t1 fun x1 => retOne C s r2 t2 fun x2 => retOne C s r3 t3 fun x3 => K (x1, x2, x3) h
  | [r1, r2, r3, r4], [t1, t2, t3, t4], K => retOne C s r1 t1 fun x1 => retOne C s r2 t2 fun x2 => retOne C s r3 t3 fun x3 => retOne C s r4 t4 fun x4 => K (x1, x2, x3, x4) h
  | [r1, r2, r3, r4, r5], [t1, t2, t3, t4, t5], K => retOne C s r1 t1 fun x1 => retOne C s r2 t2 fun x2 => retOne C s r3 t3 fun x3 => retOne C s r4 t4 fun x4 =>
      retOne C s r5 t5 fun x5 => K (x1, x2, x3, x4, x5) h
  | _, _, _ => False

def argsF (args : List Value) (i : Nat) : Option (LV × Chain) := match nth args i with
  | some v => some (.v v, [])
  | none => none

def bodyOf (f : Func) : Code := match f.body with
  | some c => c
  | none => .refuse ""

def allLt (n : Nat) : List Nat → Bool
  | [] => true
  | i :: r => cond (Nat.blt i n) (allLt n r) false

/-- The whole function. -/
def funW (C : Ctx) (f : Func) (A : Ann) (args : List Value) (K : (shRes C.tb f.resultTypes.toList).T → Hp → Prop) (h : Hp) : Prop :=
  cond (cond (Nat.ble args.length f.ntmps) (allLt f.ntmps (mods (bodyOf f))) false)
    (lift C (bodyOf f) A C.priv { f := argsF args, m := fun _ => none } (fun e s h => match e with
      | .nrm | .ret => retW C s h f.results.toList f.resultTypes.toList K
      | _ => False) h) False

end Lf
