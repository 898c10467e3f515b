/- A walk of a function's code that computes, by definition, what is to be shown: the words. -/
import Derived.Test.YtmbiffmfcloepaaGreatDoorXRegion
namespace Go.X

/-! ### Values by their kind -/

/-- A slice's three parts. -/
structure Sl where
  a : Option Addr
  len : Nat
  cap : Nat

inductive Leaf where
  | int (k : IntKind) | bool | str | ptr | slice | map | any

abbrev Leaf.T : Leaf → Type
  | .int _ => Int
  | .bool => Bool
  | .str => ByteArray
  | .ptr => Option Addr
  | .slice => Sl
  | .map => Option Nat
  | .any => Value

def Leaf.mk : (l : Leaf) → l.T → Value
  | .int k, n => .int k n
  | .bool, b => .bool b
  | .str, s => .string s
  | .ptr, p => .pointer p
  | .slice, s => .slice s.a s.len s.cap
  | .map, p => .map p
  | .any, v => v

def Leaf.un : (l : Leaf) → Value → Option l.T
  | .int k, .int k' n => if k = k' then some n else none
  | .bool, .bool b => some b
  | .str, .string s => some s
  | .ptr, .pointer p => some p
  | .slice, .slice a n c => some ⟨a, n, c⟩
  | .map, .map p => some p
  | .any, v => some v
  | _, _ => none

theorem Leaf.mk_un : ∀ (l : Leaf) (v : Value) (x : l.T), l.un v = some x → l.mk x = v
  | .int k, v, x, h => by
    cases v <;> simp [Leaf.un] at h
    simp only [Leaf.mk]; rw [h.1, h.2]
  | .bool, v, x, h => by cases v <;> simp [Leaf.un] at h; simp [Leaf.mk, h]
  | .str, v, x, h => by cases v <;> simp [Leaf.un] at h; simp [Leaf.mk, h]
  | .ptr, v, x, h => by cases v <;> simp [Leaf.un] at h; simp [Leaf.mk, h]
  | .slice, v, x, h => by cases v <;> simp [Leaf.un] at h; simp [Leaf.mk, ← h]
  | .map, v, x, h => by cases v <;> simp [Leaf.un] at h; simp [Leaf.mk, h]
  | .any, v, x, h => by simp [Leaf.un] at h; simp [Leaf.mk, h]

def Leaf.of : Value → Leaf
  | .int k _ => .int k
  | .bool _ => .bool
  | .string _ => .str
  | .pointer _ => .ptr
  | .slice _ _ _ => .slice
  | .map _ => .map
  | _ => .any

def HL : List Leaf → Type
  | [] => Unit
  | l :: ls => l.T × HL ls

def HL.cells : (ls : List Leaf) → HL ls → List Value
  | [], _ => []
  | l :: ls, x => l.mk x.1 :: HL.cells ls x.2

def HL.un : (ls : List Leaf) → List Value → Option (HL ls)
  | [], [] => some ()
  | l :: ls, v :: vs => match l.un v with
    | some x => match HL.un ls vs with
      | some xs => some (x, xs)
      | none => none
    | none => none
  | _, _ => none

theorem HL.cells_un : ∀ (ls : List Leaf) (vs : List Value) (x : HL ls), HL.un ls vs = some x → HL.cells ls x = vs
  | [], [], _, _ => rfl
  | [], _ :: _, _, h => by simp [HL.un] at h
  | _ :: _, [], _, h => by simp [HL.un] at h
  | l :: ls, v :: vs, x, h => by
    simp only [HL.un] at h
    split at h
    · rename_i y hy
      split at h
      · rename_i ys hys
        cases h
        simp only [HL.cells]
        rw [Leaf.mk_un l v y hy, HL.cells_un ls vs ys hys]
      · cases h
    · cases h

inductive Ty where
  | leaf (l : Leaf)
  | agg (ls : List Leaf)

abbrev Ty.T : Ty → Type
  | .leaf l => l.T
  | .agg ls => HL ls

def Ty.mk : (t : Ty) → t.T → Value
  | .leaf l, x => l.mk x
  | .agg ls, x => .agg ⟨HL.cells ls x⟩

def Ty.un : (t : Ty) → Value → Option t.T
  | .leaf l, v => l.un v
  | .agg ls, .agg ⟨cs⟩ => HL.un ls cs
  | .agg _, _ => none

theorem Ty.mk_un : ∀ (t : Ty) (v : Value) (x : t.T), t.un v = some x → t.mk x = v
  | .leaf l, v, x, h => Leaf.mk_un l v x h
  | .agg ls, v, x, h => by
    cases v <;> simp [Ty.un] at h
    simp [Ty.mk, HL.cells_un ls _ x h]

def leavesOf : List Value → List Leaf
  | [] => []
  | v :: vs => Leaf.of v :: leavesOf vs

def Ty.of : Value → Ty
  | .agg ⟨cs⟩ => .agg (leavesOf cs)
  | v => .leaf (Leaf.of v)

def HT : List Ty → Type
  | [] => Unit
  | t :: ts => t.T × HT ts

def HT.vals : (ts : List Ty) → HT ts → List Value
  | [], _ => []
  | t :: ts, x => t.mk x.1 :: HT.vals ts x.2

def HT.un : (ts : List Ty) → List Value → Option (HT ts)
  | [], [] => some ()
  | t :: ts, v :: vs => match t.un v with
    | some x => match HT.un ts vs with
      | some xs => some (x, xs)
      | none => none
    | none => none
  | _, _ => none

theorem HT.vals_un : ∀ (ts : List Ty) (vs : List Value) (x : HT ts), HT.un ts vs = some x → HT.vals ts x = vs
  | [], [], _, _ => rfl
  | [], _ :: _, _, h => by simp [HT.un] at h
  | _ :: _, [], _, h => by simp [HT.un] at h
  | t :: ts, v :: vs, x, h => by
    simp only [HT.un] at h
    split at h
    · rename_i y hy
      split at h
      · rename_i ys hys
        cases h
        simp only [HT.vals]
        rw [Ty.mk_un t v y hy, HT.vals_un ts vs ys hys]
      · cases h
    · cases h

/-- A result: one value, or a tuple. -/
inductive RTy where
  | one (t : Ty)
  | tup (ts : List Ty)

def tysOf : List Value → List Ty
  | [] => []
  | v :: vs => Ty.of v :: tysOf vs

def RTy.of : Value → RTy
  | .tuple ⟨vs⟩ => .tup (tysOf vs)
  | v => .one (Ty.of v)

/-! ### What is to be shown, by its kind -/

def XIf (b : Bool) (A B : Prop) : Prop :=
  match b with
  | true => A
  | false => B

theorem XIf.of {b : Bool} {A B : Prop} (ht : b = true → A) (hf : b = false → B) : XIf b A B := by
  cases b
  · exact hf rfl
  · exact ht rfl

def XNil (p : Option Addr) (K : Addr → Prop) : Prop :=
  match p with
  | some a => K a
  | none => False

/-- A value under a name. -/
def XLet {α : Type} (v : α) (K : α → Prop) : Prop := K v

def XLoad (l : Leaf) (a : Addr) (w : World) (K : l.T → Prop) : Prop := ∃ x, w.cell? a = some (l.mk x) ∧ K x

def cellsAt (w : World) (a : Addr) (i : Nat) : List Value → Prop
  | [] => True
  | v :: vs => w.cell? (a.add i) = some v ∧ cellsAt w a (i + 1) vs

def XLoads (ls : List Leaf) (a : Addr) (w : World) (K : HL ls → Prop) : Prop := ∃ x, cellsAt w a 0 (HL.cells ls x) ∧ K x

def bytesAt (w : World) (a : Addr) (i : Nat) : List UInt8 → Prop
  | [] => True
  | b :: bs => w.cell? (a.add i) = some (.int .u8 b.toNat) ∧ bytesAt w a (i + 1) bs

/-- The bytes that a slice of bytes holds. -/
def sliceBytes (w : World) (a : Option Addr) (len : Nat) (s : ByteArray) : Prop :=
  match a with
  | none => s = .empty
  | some a => s.size = len ∧ bytesAt w a 0 s.data.toList

def XBytes (a : Option Addr) (len : Nat) (w : World) (K : ByteArray → Prop) : Prop := ∃ s, sliceBytes w a len s ∧ K s

def XStore (a : Addr) (v : Value) (w : World) (K : World → Prop) : Prop :=
  (w.cell? a).isSome = true ∧ w.frozen? a = false ∧ K (w.setCell a v)

def XStores (a : Addr) (i : Nat) : List Value → World → (World → Prop) → Prop
  | [], w, K => K w
  | v :: vs, w, K => XStore (a.add i) v w fun w' => XStores a (i + 1) vs w' K

def XNew (t : TypeId) (cs : List Value) (w : World) (K : Addr → World → Prop) : Prop :=
  K ⟨w.heap.size, 0, none⟩ (w.alloc (.cells ⟨cs⟩ t))

def XRun (P : Program) (s : Sem Value) (w : World) (K : Value → World → Prop) : Prop := ∃ v w', s.run P w = .ok v w' ∧ K v w'

def XTy (t : RTy) (v : Value) (K : Value → Prop) : Prop :=
  match t with
  | .one t => ∃ x : t.T, v = t.mk x ∧ K (t.mk x)
  | .tup ts => ∃ x : HT ts, v = .tuple ⟨HT.vals ts x⟩ ∧ K (.tuple ⟨HT.vals ts x⟩)

def XCall (P : Program) (f : FuncId) (args : List Value) (t : Ty) (w : World) (K : t.T → World → Prop) : Prop :=
  Calls P f ⟨args⟩ w fun e w' => ∃ x : t.T, e = .returned (t.mk x) ∧ K x w'

def XCalls (P : Program) (f : FuncId) (args : List Value) (ts : List Ty) (w : World) (K : HT ts → World → Prop) : Prop :=
  Calls P f ⟨args⟩ w fun e w' => ∃ x : HT ts, e = .returned (.tuple ⟨HT.vals ts x⟩) ∧ K x w'

def nth {α : Type} : List α → Nat → Option α
  | [], _ => none
  | x :: _, 0 => some x
  | _ :: xs, n + 1 => nth xs n

def hasBody (P : Program) (f : FuncId) : Bool :=
  match nth P.funcs.toList f with
  | some fn => match fn.body with
    | some _ => match decide (fn.name = "runtime.NumGoroutine") with
      | true => false
      | false => true
    | none => false
  | none => false

/-- A call of a function value. -/
def XCallV (P : Program) (f : Value) (args : List Value) (t : Ty) (w : World) (K : t.T → World → Prop) : Prop :=
  match f with
  | .func (.func f) ⟨first⟩ ⟨captured⟩ => match hasBody P f with
    | true => Calls P f ⟨first ++ args ++ captured⟩ w fun e w' => ∃ x : t.T, e = .returned (t.mk x) ∧ K x w'
    | false => False
  | _ => False

/-- A built-in function, a conversion, a make, a function of the model's own: its run, and the kind of what it yields. -/
def XDo (P : Program) (s : Sem Value) (t : Ty) (w : World) (K : t.T → World → Prop) : Prop := ∃ x w', s.run P w = .ok (t.mk x) w' ∧ K x w'
def XDoU (P : Program) (s : Sem Unit) (w : World) (K : World → Prop) : Prop := ∃ w', s.run P w = .ok () w' ∧ K w'
def XDos (P : Program) (s : Sem Value) (ts : List Ty) (w : World) (K : HT ts → World → Prop) : Prop := ∃ x w', s.run P w = .ok (.tuple ⟨HT.vals ts x⟩) w' ∧ K x w'

def XJoin {α : Type} (rest : α → World → Prop) (body : (α → World → Prop) → Prop) : Prop := body rest

def iterL {α : Type} (body : (α → World → Prop) → α → World → Prop) : Nat → α → World → Prop
  | 0, _, _ => False
  | n + 1, s, w => body (iterL body n) s w

def XLoop {α : Type} (body : (α → World → Prop) → α → World → Prop) (s : α) (w : World) : Prop := ∃ n, iterL body n s w

/-! ### Frames: what is known of the slots -/

abbrev Fr := List (Nat × Value)

def Fr.find (t : Nat) : Fr → Option Value
  | [] => none
  | p :: fr => match Nat.beq p.1 t with
    | true => some p.2
    | false => Fr.find t fr

def Fr.put (d : Option Nat) (v : Value) (fr : Fr) : Fr :=
  match d with
  | some d => (d, v) :: fr
  | none => fr

def Fr.keep (fr : Fr) : List Nat → Fr
  | [] => []
  | t :: ts => match fr.find t with
    | some v => (t, v) :: Fr.keep fr ts
    | none => Fr.keep fr ts

def memB (t : Nat) : List Nat → Bool
  | [] => false
  | u :: us => match Nat.beq u t with
    | true => true
    | false => memB t us

def evalF (fr : Fr) : Operand → Option Value
  | .tmp t => fr.find t
  | .const v => some v
  | .global g => some (.pointer (some ⟨g, 0, none⟩))
  | .func f => some (.func (.func f) #[] #[])

def evals (ρ : Operand → Option Value) : List Operand → Option (List Value)
  | [] => some []
  | x :: xs => match ρ x with
    | some v => match evals ρ xs with
      | some vs => some (v :: vs)
      | none => none
    | none => none

def evalParts (ρ : Operand → Option Value) : List (Nat × Operand) → Option (List (Nat × Value))
  | [] => some []
  | p :: xs => match ρ p.2 with
    | some v => match evalParts ρ xs with
      | some vs => some ((p.1, v) :: vs)
      | none => none
    | none => none

/-! ### Types -/

def ti (P : Program) (t : TypeId) : Option TypeInfo := nth P.types.toList t

def under (P : Program) (t : TypeId) : Option TypeDesc :=
  match ti P t with
  | some i => match i.desc with
    | .named _ u => match ti P u with
      | some j => some j.desc
      | none => none
    | d => some d
  | none => none

def zeroOf (P : Program) (t : TypeId) : Option Value :=
  match ti P t with
  | some i => i.zero
  | none => none

def rtyOf (P : Program) (t : TypeId) : Option RTy :=
  match zeroOf P t with
  | some v => some (RTy.of v)
  | none => none

def isAggT (P : Program) (t : TypeId) : Option Bool :=
  match under P t with
  | some (.struct _) => some true
  | some (.array _ _) => some true
  | some _ => some false
  | none => none

/-! ### Operations -/

/-- What an operation that does not look at memory comes to. -/
inductive PR where
  | no
  | val (v : Value)
  | cond (c : Prop) (v : Value)
  | ptr (p : Option Addr) (f : Addr → Value)
  | ptrc (p : Option Addr) (c : Prop) (f : Addr → Value)

def PR.go : PR → (Value → Prop) → Prop
  | .no, _ => False
  | .val v, K => K v
  | .cond c v, K => c ∧ K v
  | .ptr p f, K => XNil p fun a => K (f a)
  | .ptrc p c f, K => XNil p fun a => c ∧ K (f a)

def ibits (op : BinOp) (k : IntKind) (x y : Int) : Int :=
  match op with
  | .and => k.wrap (BitVec.ofInt k.bits x &&& BitVec.ofInt k.bits y).toNat
  | .or => k.wrap (BitVec.ofInt k.bits x ||| BitVec.ofInt k.bits y).toNat
  | .xor => k.wrap (BitVec.ofInt k.bits x ^^^ BitVec.ofInt k.bits y).toNat
  | _ => k.wrap (BitVec.ofInt k.bits x &&& ~~~ BitVec.ofInt k.bits y).toNat

def ishl (k : IntKind) (x y : Int) : Int := k.wrap (x * 2 ^ min y.toNat k.bits)
def ishr (k : IntKind) (x y : Int) : Int := x.fdiv (2 ^ min y.toNat k.bits)

def sEq (x y : ByteArray) : Bool := x.toList == y.toList
def sLt (x y : ByteArray) : Bool := Op.bytesLess x.toList y.toList

def xbin (P : Program) (op : BinOp) (t : TypeId) (x y : Value) : PR :=
  match x, y with
  | .int k a, .int k' b =>
    match op with
    | .shl => .cond (0 ≤ b) (.int k (ishl k a b))
    | .shr => .cond (0 ≤ b) (.int k (ishr k a b))
    | op =>
      if k = k' then
        match op with
        | .add => .val (.int k (k.wrap (a + b)))
        | .sub => .val (.int k (k.wrap (a - b)))
        | .mul => .val (.int k (k.wrap (a * b)))
        | .quo => .cond (b ≠ 0) (.int k (k.wrap (a.tdiv b)))
        | .rem => .cond (b ≠ 0) (.int k (a.tmod b))
        | .and => .val (.int k (ibits .and k a b))
        | .or => .val (.int k (ibits .or k a b))
        | .xor => .val (.int k (ibits .xor k a b))
        | .andNot => .val (.int k (ibits .andNot k a b))
        | .eql => .val (.bool (a == b))
        | .neq => .val (.bool (a != b))
        | .lss => .val (.bool (decide (a < b)))
        | .leq => .val (.bool (decide (a ≤ b)))
        | .gtr => .val (.bool (decide (a > b)))
        | .geq => .val (.bool (decide (a ≥ b)))
        | _ => .no
      else .no
  | .string a, .string b =>
    match op with
    | .add => .cond (((a.size + b.size : Nat) : Int) ≤ IntKind.i64.max) (.string (a ++ b))
    | .eql => .val (.bool (sEq a b))
    | .neq => .val (.bool (!sEq a b))
    | .lss => .val (.bool (sLt a b))
    | .leq => .val (.bool (sLt a b || sEq a b))
    | .gtr => .val (.bool (!(sLt a b || sEq a b)))
    | .geq => .val (.bool (!sLt a b))
    | _ => .no
  | .bool a, .bool b =>
    match under P t with
    | some .bool =>
      match op with
      | .eql => .val (.bool (a == b))
      | .neq => .val (.bool (!(a == b)))
      | _ => .no
    | _ => .no
  | .pointer p, .pointer none =>
    match under P t with
    | some (.pointer _) =>
      match op with
      | .eql => .val (.bool p.isNone)
      | .neq => .val (.bool (!p.isNone))
      | _ => .no
    | _ => .no
  | .slice p _ _, .slice none _ _ =>
    match under P t with
    | some (.slice _) =>
      match op with
      | .eql => .val (.bool p.isNone)
      | .neq => .val (.bool (!p.isNone))
      | _ => .no
    | _ => .no
  | _, _ => .no

def xun (op : UnOp) (x : Value) : PR :=
  match op, x with
  | .not, .bool b => .val (.bool !b)
  | .neg, .int k n => .val (.int k (k.wrap (0 - n)))
  | .xor, .int k n => .val (.int k (ibits .xor k (if k.signed then -1 else k.max) n))
  | _, _ => .no

/-- The bounds of a cut: from, to. -/
def lowOf : Option Value → Option Int
  | none => some 0
  | some (.int _ n) => some n
  | some _ => none

def highOf (len : Nat) : Option Value → Option Int
  | none => some len
  | some (.int _ n) => some n
  | some _ => none

/-- The places of a struct's fields: where, how many cells. -/
def placesOf (P : Program) : List Field → Option (List (Nat × Nat))
  | [] => some []
  | f :: fs => match ti P f.type with
    | some i => match placesOf P fs with
      | some ps => some ((f.offset, i.size) :: ps)
      | none => none
    | none => none

def xbuild (P : Program) (t : TypeId) (parts : List (Nat × Value)) : PR :=
  match zeroOf P t with
  | some z =>
    match under P t with
    | some (.struct ⟨fields⟩) =>
      match placesOf P fields with
      | some ps => match Instr.fill (fun i => nth ps i) z.cells parts with
        | some cells => .val (.agg cells)
        | none => .no
      | none => .no
    | some (.array _ elem) =>
      match ti P elem with
      | some i => match Instr.fill (fun j => some (j * i.size, i.size)) z.cells parts with
        | some cells => .val (.agg cells)
        | none => .no
      | none => .no
    | _ => .no
  | none => .no

def minmax (op : Builtin) (x y : Value) : PR :=
  match op, x, y with
  | .max, .int k a, .int _ b => .val (.int k (if b > a then b else a))
  | .min, .int k a, .int _ b => .val (.int k (if b < a then b else a))
  | _, _, _ => .no

/-- The part of a struct's value. -/
def xpart (P : Program) (t : TypeId) (cs : List Value) (off : Nat) : PR :=
  match isAggT P t with
  | some true => match ti P t with
    | some i => .val (.agg ⟨(cs.drop off).take i.size⟩)
    | none => .no
  | some false => match nth cs off with
    | some v => .val v
    | none => .no
  | none => .no

def optV (ρ : Operand → Option Value) : Option Operand → Option (Option Value)
  | none => some none
  | some x => match ρ x with
    | some v => some (some v)
    | none => none

def hiCap (hi : Option Value) (cap len : Nat) : Nat :=
  match hi with
  | some _ => cap
  | none => len

def xslice (P : Program) (t : TypeId) (x : Value) (lo hi : Option Value) : PR :=
  match under P t, x with
  | some .string, .string s =>
    match lowOf lo, highOf s.size hi with
    | some l, some h => .cond ((0 ≤ h ∧ h ≤ s.size) ∧ 0 ≤ l ∧ l ≤ h) (.string (s.extract l.toNat h.toNat))
    | _, _ => .no
  | some (.slice elem), .slice a len cap =>
    match ti P elem with
    | some i =>
      match lowOf lo, highOf len hi with
      | some l, some h => .cond ((0 ≤ h ∧ h ≤ hiCap hi cap len) ∧ 0 ≤ l ∧ l ≤ h)
          (.slice (if cap = l.toNat then a else a.map fun b => b.add (l.toNat * i.size)) (h.toNat - l.toNat) (cap - l.toNat))
      | _, _ => .no
    | none => .no
  | _, _ => .no

def xslice3 (P : Program) (t : TypeId) (x : Value) (lo : Option Value) (h m : Int) : PR :=
  match under P t, x with
  | some (.slice elem), .slice a _ cap =>
    match ti P elem with
    | some i =>
      match lowOf lo with
      | some l => .cond ((0 ≤ m ∧ m ≤ cap) ∧ (0 ≤ h ∧ h ≤ m) ∧ 0 ≤ l ∧ l ≤ h)
          (.slice (if m.toNat = l.toNat then a else a.map fun b => b.add (l.toNat * i.size)) (h.toNat - l.toNat) (m.toNat - l.toNat))
      | none => .no
    | none => .no
  | _, _ => .no

def xpure (P : Program) (op : Op) (ρ : Operand → Option Value) : PR :=
  match op with
  | .move x | .assign x => match ρ x with
    | some v => .val v
    | none => .no
  | .pick c a b => match ρ c with
    | some (.bool t) => match t with
      | true => match ρ a with
        | some v => .val v
        | none => .no
      | false => match ρ b with
        | some v => .val v
        | none => .no
    | _ => .no
  | .nilCheck x => match ρ x with
    | some (.pointer p) => .ptr p fun a => .pointer (some a)
    | some (.func (.func f) fs cs) => .val (.func (.func f) fs cs)
    | _ => .no
  | .binOp op t x y _ => match ρ x, ρ y with
    | some a, some b => xbin P op t a b
    | _, _ => .no
  | .unOp op _ x => match ρ x with
    | some a => xun op a
    | none => .no
  | .convert src dst x => match ρ x, under P src, under P dst with
    | some (.int _ n), some _, some (.int k) => .val (.int k (k.wrap n))
    | some (.string s), some .string, some .string => .val (.string s)
    | _, _, _ => .no
  | .makeInterface t x => match ρ x, under P t with
    | some _, some (.interface _) => .no
    | some v, some _ => .val (.iface t v)
    | _, _ => .no
  | .makeFunc fn ⟨first⟩ ⟨captured⟩ => match evals ρ first, evals ρ captured with
    | some fs, some cs => .val (.func fn ⟨fs⟩ ⟨cs⟩)
    | _, _ => .no
  | .build t ⟨parts⟩ => match evalParts ρ parts with
    | some ps => xbuild P t ps
    | none => .no
  | .fieldAddr s x f => match ρ x with
    | some (.pointer (some a)) => match under P s with
      | some (.struct ⟨fields⟩) => match nth fields f with
        | some f => match ti P f.type with
          | some i => match i.size with
            | 0 => .no
            | _ + 1 => .val (.pointer (some (a.add f.offset)))
          | none => .no
        | none => .no
      | _ => .no
    | _ => .no
  | .field t x f => match ρ x with
    | some (.agg ⟨cs⟩) => match under P t with
      | some (.struct ⟨fields⟩) => match nth fields f with
        | some f => xpart P f.type cs f.offset
        | none => .no
      | _ => .no
    | _ => .no
  | .indexAddr t x ix => match ρ x, ρ ix, under P t with
    | some (.slice a len _), some (.int _ i), some (.slice elem) => match ti P elem with
      | some e => .ptrc a (0 ≤ i ∧ i < len) fun b => .pointer (some (b.add (i.toNat * e.size)))
      | none => .no
    | some (.pointer (some b)), some (.int _ i), some (.array len elem) => match ti P elem with
      | some e => .cond (0 ≤ i ∧ i < len) (.pointer (some (b.add (i.toNat * e.size))))
      | none => .no
    | _, _, _ => .no
  | .index t x ix => match ρ x, ρ ix, under P t with
    | some (.string s), some (.int _ i), some .string => .cond (0 ≤ i ∧ i < s.size) (.int .u8 ((s.data.toList.getD i.toNat 0).toNat : Int))
    | _, _, _ => .no
  | .slice t x lo hi none => match ρ x, optV ρ lo, optV ρ hi with
    | some v, some l, some h => xslice P t v l h
    | _, _, _ => .no
  | .slice t x lo (some hi) (some mx) => match ρ x, optV ρ lo, ρ hi, ρ mx with
    | some v, some l, some (.int _ h), some (.int _ m) => xslice3 P t v l h m
    | _, _, _, _ => .no
  | .extract x i => match ρ x with
    | some (.tuple ⟨vs⟩) => match nth vs i with
      | some v => .val v
      | none => .no
    | _ => .no
  | .call c => match c.callee, c.args with
    | .builtin .len, ⟨[x]⟩ => match ρ x, c.argTypes with
      | some v, ⟨[t]⟩ => match under P t, v with
        | some .string, .string s => .val (.int .i64 s.size)
        | some (.slice _), .slice _ n _ => .val (.int .i64 n)
        | some (.array n _), _ => .val (.int .i64 n)
        | _, _ => .no
      | _, _ => .no
    | .builtin .cap, ⟨[x]⟩ => match ρ x, c.argTypes with
      | some v, ⟨[t]⟩ => match under P t, v with
        | some (.slice _), .slice _ _ n => .val (.int .i64 n)
        | _, _ => .no
      | _, _ => .no
    | .builtin .max, ⟨[x, y]⟩ => match ρ x, ρ y with
      | some v, some u => minmax .max v u
      | _, _ => .no
    | .builtin .min, ⟨[x, y]⟩ => match ρ x, ρ y with
      | some v, some u => minmax .min v u
      | _, _ => .no
    | .builtin .min, ⟨[x, y, z]⟩ => match ρ x, ρ y, ρ z with
      | some (.int k a), some (.int _ b), some (.int _ c) => .val (.int k (if c < (if b < a then b else a) then c else (if b < a then b else a)))
      | _, _, _ => .no
    | _, _ => .no
  | _ => .no

/-- What an operation that reads memory comes to, and in which worlds it does. -/
inductive RR where
  | no
  | leaf (l : Leaf) (a : Addr)
  | cells (ls : List Leaf) (a : Addr)
  | bytes (a : Option Addr) (len : Nat)

def RR.go (w : World) : RR → (Value → (World → Prop) → Prop) → Prop
  | .no, _ => False
  | .leaf l a, K => XLoad l a w fun x => K (l.mk x) fun w' => w'.cell? a = some (l.mk x)
  | .cells ls a, K => XLoads ls a w fun x => K (.agg ⟨HL.cells ls x⟩) fun w' => cellsAt w' a 0 (HL.cells ls x)
  | .bytes a len, K => XBytes a len w fun s => K (.string s) fun w' => sliceBytes w' a len s

def xread (P : Program) (op : Op) (ρ : Operand → Option Value) : RR :=
  match op with
  | .load t x => match ρ x with
    | some (.pointer (some a)) => match zeroOf P t, isAggT P t, ti P t with
      | some (.agg ⟨cs⟩), some true, some i => match Nat.beq cs.length i.size with
        | true => .cells (leavesOf cs) a
        | false => .no
      | some v, some false, _ => .leaf (Leaf.of v) a
      | _, _, _ => .no
    | _ => .no
  | .convert src dst x => match ρ x, under P src, under P dst with
    | some (.slice a len _), some (.slice e), some .string => match under P e with
      | some (.int .u8) => .bytes a len
      | _ => .no
    | _, _, _ => .no
  | _ => .no

/-- The cells of a slice that is made of its parts. -/
def sliceCells (P : Program) (elem : TypeId) (n : Nat) (parts : List (Nat × Value)) : Option (Array Value) :=
  match ti P elem with
  | some i =>
    match Nat.ble (n * i.size) 16777216 with
    | true => match Nat.beq (n * i.size) 0 with
      | true => Instr.fill (fun j => some (j * i.size, i.size)) #[] parts
      | false => match i.zero with
        | some z => Instr.fill (fun j => some (j * i.size, i.size)) ((Array.range (n * i.size)).map (z.cells[· % z.cells.size]!)) parts
        | none => none
    | false => none
  | none => none

/-- A cell's value is one of a cell: no struct, no tuple. -/
def oneCell : Value → Bool
  | .agg _ => false
  | .tuple _ => false
  | _ => true

def allOne : List Value → Bool
  | [] => true
  | v :: vs => match oneCell v with
    | true => allOne vs
    | false => false

/-- What an effect yields, by its kind. -/
def xret (P : Program) (t : TypeId) (s : Sem Value) (w : World) (K : Value → World → Prop) : Prop :=
  match rtyOf P t with
  | some (.one t) => XDo P s t w fun x w' => K (t.mk x) w'
  | some (.tup ts) => XDos P s ts w fun x w' => K (.tuple ⟨HT.vals ts x⟩) w'
  | none => False

/-- The run of a function that the model has itself. -/
def extRun (_P : Program) (f : FuncId) (args : Array Value) : Sem Value := do
  match ← callFunc f args with
  | .value v => pure v
  | _ => stuck "no value"

def xeff (P : Program) (o : Oper) (ρ : Operand → Option Value) (K : Value → World → Prop) (w : World) : Prop :=
  match o.op with
  | .alloc elem => match zeroOf P elem with
    | some z => XNew elem z.cells.toList w fun a w' => K (.pointer (some a)) w'
    | none => False
  | .box elem x => match ρ x with
    | some v => XNew elem v.cells.toList w fun a w' => K (.pointer (some a)) w'
    | none => False
  | .buildSlice t n ⟨parts⟩ => match evalParts ρ parts, under P t with
    | some ps, some (.slice elem) => match sliceCells P elem n ps with
      | some cells => XNew elem cells.toList w fun a w' => K (.slice (some a) n n) w'
      | none => False
    | _, _ => False
  | .store t x y => match ρ x, ρ y, ti P t with
    | some (.pointer (some a)), some v, some i =>
      match v with
      | .agg ⟨cs⟩ => match Nat.beq cs.length i.size, allOne cs with
        | true, true => XStores a 0 cs w fun w' => K undef w'
        | _, _ => False
      | v => match oneCell v, Nat.beq 1 i.size with
        | true, true => XStore a v w fun w' => K undef w'
        | _, _ => False
    | _, _, _ => False
  | .makeSlice t l c => match ρ l, ρ c with
    | some l, some c => xret P o.type (Instr.makeSlice t l c) w K
    | _, _ => False
  | .makeMap t none => xret P o.type (Instr.makeMap t none) w K
  | .lookup t x i ok => match ρ x, ρ i with
    | some x, some i => xret P o.type (Instr.lookup t x i ok) w K
    | _, _ => False
  | .mapUpdate t m k v => match ρ m, ρ k, ρ v with
    | some m, some k, some v => XDoU P (Instr.mapUpdate t m k v) w fun w' => K undef w'
    | _, _, _ => False
  | .convert src dst x => match ρ x with
    | some v => xret P o.type (convert src dst v) w K
    | none => False
  | .binOp op t x y _ => match ρ x, ρ y with
    | some (.pointer p), some (.pointer q) => match op with
      | .eql => xret P o.type (do pure (.bool (← Op.equal t (.pointer p) (.pointer q)))) w K
      | .neq => xret P o.type (do pure (.bool (!(← Op.equal t (.pointer p) (.pointer q))))) w K
      | _ => False
    | _, _ => False
  | .call c => match evals ρ c.args.toList with
    | some args => match c.callee with
      | .builtin b => match b with
        | .append => xret P o.type (Builtin.append_ c.argTypes o.type ⟨args⟩) w K
        | .copy => xret P o.type (Builtin.copy_ c.argTypes o.type ⟨args⟩) w K
        | .clear => xret P o.type (Builtin.clear_ c.argTypes o.type ⟨args⟩) w K
        | .delete => xret P o.type (Builtin.delete_ c.argTypes o.type ⟨args⟩) w K
        | .len => xret P o.type (Builtin.len_ c.argTypes o.type ⟨args⟩) w K
        | .unsafeSliceData => xret P o.type (Builtin.unsafeSliceData_ c.argTypes o.type ⟨args⟩) w K
        | .unsafeString => xret P o.type (Builtin.unsafeString_ c.argTypes o.type ⟨args⟩) w K
        | _ => False
      | .value (.func f) => match hasBody P f with
        | true => match rtyOf P o.type with
          | some (.one t) => XCall P f args t w fun x w' => K (t.mk x) w'
          | some (.tup ts) => XCalls P f args ts w fun x w' => K (.tuple ⟨HT.vals ts x⟩) w'
          | none => False
        | false => xret P o.type (extRun P f ⟨args⟩) w K
      | .value x => match ρ x, rtyOf P o.type with
        | some v, some (.one t) => XCallV P v args t w fun x w' => K (t.mk x) w'
        | _, _ => False
      | _ => False
    | none => False
  | _ => False

inductive OpKind where
  | pure | read | eff

def opKind (P : Program) (op : Op) : OpKind :=
  match op with
  | .load _ _ => .read
  | .convert src dst _ => match under P src, under P dst with
    | some (.slice _), some .string => .read
    | some (.slice _), _ => .eff
    | some .string, some (.slice _) => .eff
    | some (.pointer _), _ => .eff
    | some .unsafePointer, _ => .eff
    | _, _ => .pure
  | .makeMap _ _ | .lookup _ _ _ _ | .mapUpdate _ _ _ _ => .eff
  | .alloc _ | .box _ _ | .buildSlice _ _ _ | .store _ _ _ | .makeSlice _ _ _ => .eff
  | .binOp _ t _ y _ => match y with
    | .const _ => .pure
    | _ => match under P t with
      | some (.pointer _) => .eff
      | _ => .pure
  | .call c => match c.callee with
    | .builtin .len => match c.argTypes with
      | ⟨[t]⟩ => match under P t with
        | some (.map _ _) => .eff
        | _ => .pure
      | _ => .pure
    | .builtin .cap | .builtin .max | .builtin .min => .pure
    | _ => .eff
  | _ => .pure

def xop (P : Program) (o : Oper) (ρ : Operand → Option Value) (K : Value → World → Prop) (w : World) : Prop :=
  match opKind P o.op with
  | .pure => (xpure P o.op ρ).go fun v => K v w
  | .read => (xread P o.op ρ).go w fun v _ => K v w
  | .eff => xeff P o ρ K w

/-! ### Regions -/

def guardSlot (ops : List Oper) (j : Nat) : Option Nat :=
  match nth ops j with
  | some o => o.dst
  | none => none

/-- Whether an operation runs, by its guard: the guard's answer is split on, and put in its place. -/
def xguard (ops : List Oper) (o : Oper) (fr : Fr) (run skip : Fr → Prop) : Prop :=
  match o.guard with
  | none => run fr
  | some (j, want) => match guardSlot ops j with
    | some t => match fr.find t with
      | some (.bool b) => match want with
        | true => XIf b (run ((t, .bool true) :: fr)) (skip ((t, .bool false) :: fr))
        | false => XIf b (skip ((t, .bool true) :: fr)) (run ((t, .bool false) :: fr))
      | some (.tuple _) => skip fr
      | _ => False
    | none => False

def xops (P : Program) (ops : List Oper) : List Oper → (Fr → World → Prop) → Fr → World → Prop
  | [], K, fr, w => K fr w
  | o :: rest, K, fr, w => xguard ops o fr
      (fun fr => xop P o (evalF fr) (fun v w' => xops P ops rest K (fr.put o.dst v) w') w)
      (fun fr => xops P ops rest K (fr.put o.dst undef) w)

def bit (m i : Nat) : Bool := Nat.beq (Nat.land (Nat.shiftRight m i) 1) 1

def afterMask : List Edge → Nat
  | [] => 0
  | e :: es => match Region.binds .any e with
    | true => Nat.lor (Nat.shiftLeft 1 e.on) (afterMask es)
    | false => afterMask es

/-- May it come up now? -/
def readyB (o : Oper) (i m : Nat) : Bool :=
  match bit m i with
  | true => false
  | false => let k := afterMask o.after.toList; Nat.beq (Nat.land k m) k

def readyL (m : Nat) : List Oper → Nat → List Nat
  | [], _ => []
  | o :: os, i => match readyB o i m with
    | true => i :: readyL m os (i + 1)
    | false => readyL m os (i + 1)

/-- Is it apart from all that is not listed and does not wait for it? -/
def freeL (ops : Array Oper) (oi : Oper) (i m : Nat) : List Oper → Nat → Bool
  | [], _ => true
  | o :: os, j => match Nat.beq i j with
    | true => freeL ops oi i m os (j + 1)
    | false => match bit m j with
      | true => freeL ops oi i m os (j + 1)
      | false => match bit (afterMask o.after.toList) i with
        | true => freeL ops oi i m os (j + 1)
        | false => match oi.apart ops o with
          | true => freeL ops oi i m os (j + 1)
          | false => false

def isEff (P : Program) (op : Op) : Bool :=
  match opKind P op with
  | .eff => true
  | _ => false

/-- The first that may come up and does not change the world. -/
def firstQuiet (P : Program) (ops : Array Oper) (m : Nat) : List Nat → Option (Nat × Oper)
  | [] => none
  | i :: is => match nth ops.toList i with
    | some o => match isEff P o.op with
      | true => firstQuiet P ops m is
      | false => match freeL ops o i m ops.toList 0 with
        | true => some (i, o)
        | false => firstQuiet P ops m is
    | none => none

def xtake (P : Program) (o : Oper) (ρ : Operand → Option Value) (w : World) (K : Value → (World → Prop) → Prop) : Prop :=
  match opKind P o.op with
  | .pure => (xpure P o.op ρ).go fun v => K v fun _ => True
  | .read => (xread P o.op ρ).go w K
  | .eff => False

def pushW (P : Program) (o : Oper) (i : Nat) (S : World → Prop) (V : Watch) : Watch :=
  match opKind P o.op with
  | .read => (i, S) :: V
  | _ => V

/-- What is watched holds: nothing is asked where nothing is watched. -/
def xwatch (w : World) : Watch → Prop → Prop
  | [], A => A
  | p :: V, A => p.2 w ∧ xwatch w V A

/-- Whichever of these comes up next. -/
def xall : List Nat → (Nat → Prop) → Prop
  | [], _ => True
  | [i], A => A i
  | i :: is, A => A i ∧ xall is A

def xdraw (P : Program) (ops : Array Oper) (K : Fr → World → Prop) : Nat → Nat → Watch → Fr → World → Prop
  | 0, m, _, fr, w => match readyL m ops.toList 0 with
    | [] => K fr w
    | _ => False
  | n + 1, m, V, fr, w =>
    match readyL m ops.toList 0 with
    | [] => False
    | i :: is => match firstQuiet P ops m (i :: is) with
      | some (i, o) => xguard ops.toList o fr
          (fun fr => xtake P o (evalF fr) w fun v S => xdraw P ops K n (Nat.lor m (Nat.shiftLeft 1 i)) (pushW P o i S V) (fr.put o.dst v) w)
          (fun fr => xdraw P ops K n (Nat.lor m (Nat.shiftLeft 1 i)) V (fr.put o.dst undef) w)
      | none => xall (i :: is) fun i => match nth ops.toList i with
        | some o => xguard ops.toList o fr
            (fun fr => xop P o (evalF fr) (fun v w' => xwatch w' (V.drop ops i) (xdraw P ops K n (Nat.lor m (Nat.shiftLeft 1 i)) (V.drop ops i) (fr.put o.dst v) w')) w)
            (fun fr => xdraw P ops K n (Nat.lor m (Nat.shiftLeft 1 i)) (V.drop ops i) (fr.put o.dst undef) w)
        | none => False

def anyGuard : List Oper → Bool
  | [] => false
  | o :: os => match o.guard with
    | some _ => true
    | none => anyGuard os

/-- The slots that a region writes and that are read behind it, with the kinds of what they hold. -/
def outsOf (P : Program) (keep : List Nat) : List Oper → List (Nat × Ty)
  | [] => []
  | o :: os => match o.dst with
    | some d => match memB d keep with
      | true => match rtyOf P o.type with
        | some (.one t) => (d, t) :: outsOf P keep os
        | _ => outsOf P keep os
      | false => outsOf P keep os
    | none => outsOf P keep os

def fsts {α β : Type} : List (α × β) → List α
  | [] => []
  | p :: ps => p.1 :: fsts ps

def snds {α β : Type} : List (α × β) → List β
  | [] => []
  | p :: ps => p.2 :: snds ps

def Fr.get (fr : Fr) : List Nat → Option (List Value)
  | [] => some []
  | t :: ts => match fr.find t with
    | some v => match Fr.get fr ts with
      | some vs => some (v :: vs)
      | none => none
    | none => none

/-- What is known of other slots. -/
def Fr.without (fr : Fr) (ts : List Nat) : Fr :=
  match fr with
  | [] => []
  | p :: fr => match memB p.1 ts with
    | true => Fr.without fr ts
    | false => p :: Fr.without fr ts

def Fr.puts : List Nat → List Value → Fr → Fr
  | t :: ts, v :: vs, fr => (t, v) :: Fr.puts ts vs fr
  | _, _, fr => fr

def getH (ts : List Ty) (slots : List Nat) (fr : Fr) (K : HT ts → Prop) : Prop :=
  match fr.get slots with
  | some vs => match HT.un ts vs with
    | some s => K s
    | none => False
  | none => False

def dsts : List Oper → List Nat
  | [] => []
  | o :: os => match o.dst with
    | some d => d :: dsts os
    | none => dsts os

def xrun (P : Program) (ops : Array Oper) (draw : Bool) (K : Fr → World → Prop) (fr : Fr) (w : World) : Prop :=
  match draw with
  | false => xops P ops.toList ops.toList K fr w
  | true => xdraw P ops K ops.toList.length 0 [] fr w.drew

def xregion (P : Program) (keep : List Nat) (ops : Array Oper) (draw : Bool) (K : Fr → World → Prop) (fr : Fr) (w : World) : Prop :=
  match anyGuard ops.toList with
  | false => xrun P ops draw (fun fr' w' => K (fr'.keep keep) w') fr w
  | true =>
    let outs := outsOf P keep ops.toList
    XJoin (α := HT (snds outs)) (fun s w' => K (Fr.puts (fsts outs) (HT.vals (snds outs) s) ((fr.without (dsts ops.toList)).keep keep)) w')
      (fun J => xrun P ops draw (fun fr' w' => getH (snds outs) (fsts outs) fr' fun s => J s w') fr w)

/-! ### Code -/

/-- Does it write this slot? -/
def writes (t : Nat) : Code → Bool
  | .region _ ops _ => memB t (dsts ops.toList)
  | .seq a b => match writes t a with
    | true => true
    | false => writes t b
  | .cond _ a b => match writes t a with
    | true => true
    | false => writes t b
  | .block _ b => writes t b
  | .loop b => writes t b
  | .scope b => writes t b
  | .rangeFunc _ _ _ _ => true
  | _ => false

/-- The ways out of a code by its end (0, 1, 2: more). 'id': by the exit of the block 'id'. -/
def cap2 (n : Nat) : Nat :=
  match n with
  | 0 => 0
  | 1 => 1
  | _ => 2

def exitsTo (id : Nat) : Code → Nat
  | .seq a b => Nat.add (exitsTo id a) (exitsTo id b)
  | .cond _ a b => Nat.add (exitsTo id a) (exitsTo id b)
  | .block _ b => exitsTo id b
  | .loop b => exitsTo id b
  | .scope b => exitsTo id b
  | .exit i => match Nat.beq i id with
    | true => 1
    | false => 0
  | _ => 0

def ends : Code → Nat
  | .skip => 1
  | .region _ _ _ => 1
  | .seq a b => match ends a with
    | 0 => 0
    | _ => ends b
  | .cond _ a b => Nat.add (ends a) (ends b)
  | .block id b => Nat.add (ends b) (exitsTo id b)
  | .loop _ => 0
  | .scope b => ends b
  | .label _ => 1
  | _ => 0

def needsJoin (c : Code) : Bool := Nat.ble 2 (ends c)

def carried (c : Code) : Fr → Fr
  | [] => []
  | p :: fr => match writes p.1 c with
    | true => p :: carried c fr
    | false => carried c fr

def kept (c : Code) : Fr → Fr
  | [] => []
  | p :: fr => match writes p.1 c with
    | true => kept c fr
    | false => p :: kept c fr

/-- The slots that conditions of a code ask. -/
def condsOf : Code → List Nat
  | .seq a b => condsOf a ++ condsOf b
  | .cond (.tmp t) a b => t :: (condsOf a ++ condsOf b)
  | .cond _ a b => condsOf a ++ condsOf b
  | .block _ b => condsOf b
  | .loop b => condsOf b
  | .scope b => condsOf b
  | _ => []

/-- Those of them that a code writes, and of which nothing is known ahead of it. -/
def newSlots (a : Code) (fr : Fr) : List Nat → List Nat
  | [] => []
  | t :: ts => match writes t a with
    | false => newSlots a fr ts
    | true => match fr.find t with
      | some _ => newSlots a fr ts
      | none => match memB t ts with
        | true => newSlots a fr ts
        | false => t :: newSlots a fr ts

def boolsOf : List Nat → List Ty
  | [] => []
  | _ :: ts => .leaf .bool :: boolsOf ts

inductive XExit where
  | normal
  | exit (id : Nat)
  | ret

def thenQ (K : Fr → World → Prop) (Q : XExit → Fr → World → Prop) : XExit → Fr → World → Prop
  | .normal => K
  | e => Q e

def blockQ (id : Nat) (Q : XExit → Fr → World → Prop) : XExit → Fr → World → Prop
  | .exit i => match Nat.beq i id with
    | true => Q .normal
    | false => Q (.exit i)
  | e => Q e

def xcode (P : Program) (keep : List Nat) : Code → (XExit → Fr → World → Prop) → Fr → World → Prop
  | .skip, Q, fr, w => Q .normal fr w
  | .label _, Q, fr, w => Q .normal fr w
  | .ret, Q, fr, w => Q .ret fr w
  | .exit id, Q, fr, w => Q (.exit id) fr w
  | .region _ ops draw, Q, fr, w => xregion P keep ops draw (Q .normal) fr w
  | .cond c a b, Q, fr, w => match evalF fr c with
    | some (.bool t) => XIf t (xcode P keep a Q fr w) (xcode P keep b Q fr w)
    | _ => False
  | .block id b, Q, fr, w => xcode P keep b (blockQ id Q) fr w
  | .seq a b, Q, fr, w => match needsJoin a with
    | false => xcode P keep a (thenQ (fun fr' w' => xcode P keep b Q fr' w') Q) fr w
    | true =>
      let cs := carried a fr
      let nw := newSlots a fr (condsOf b)
      let ts := tysOf (snds cs) ++ boolsOf nw
      XJoin (α := HT ts) (fun s w' => xcode P keep b Q (Fr.puts (fsts cs ++ nw) (HT.vals ts s) (kept a fr)) w')
        (fun J => xcode P keep a (thenQ (fun fr' w' => getH ts (fsts cs ++ nw) fr' fun s => J s w') Q) fr w)
  | .loop b, Q, fr, w =>
      let cs := carried b fr
      let ts := tysOf (snds cs)
      match HT.un ts (snds cs) with
      | some s0 => XLoop (α := HT ts) (fun next s w' => xcode P keep b (thenQ (fun fr' w'' => getH ts (fsts cs) fr' fun s' => next s' w'') Q) (Fr.puts (fsts cs) (HT.vals ts s) (kept b fr)) w') s0 w
      | none => False
  | _, _, _, _ => False

/-- Every slot that is written is one of the frame's; no select. -/
def isSel : Op → Bool
  | .select _ _ => true
  | _ => false

def opsOk (n : Nat) : List Oper → Bool
  | [] => true
  | o :: os => match isSel o.op with
    | true => false
    | false => match o.dst with
      | some d => match Nat.ble n d with
        | true => false
        | false => opsOk n os
      | none => opsOk n os

def codeOk (n : Nat) : Code → Bool
  | .region _ ops _ => opsOk n ops.toList
  | .seq a b => match codeOk n a with
    | true => codeOk n b
    | false => false
  | .cond _ a b => match codeOk n a with
    | true => codeOk n b
    | false => false
  | .block _ b => codeOk n b
  | .loop b => codeOk n b
  | .scope b => codeOk n b
  | _ => true

/-! ### Functions -/

def xresults (P : Program) (fr : Fr) (w : World) : List ResultVar → (List Value → Prop) → Prop
  | [], K => K []
  | .tmp t :: rs, K => match fr.find t with
    | some v => xresults P fr w rs fun vs => K (v :: vs)
    | none => False
  | .cell t u :: rs, K => match fr.find t with
    | some (.pointer (some a)) => (xread P (.load u (.const (.pointer (some a)))) fun | .const v => some v | _ => none).go w fun v _ => xresults P fr w rs fun vs => K (v :: vs)
    | _ => False

def xend (P : Program) (rs : List ResultVar) (K : Value → World → Prop) (e : XExit) (fr : Fr) (w : World) : Prop :=
  match e with
  | .exit _ => False
  | _ => xresults P fr w rs fun vs => match vs with
    | [v] => K v w
    | vs => K (.tuple ⟨vs⟩) w

def zipFrom (i : Nat) : List Value → Fr
  | [] => []
  | v :: vs => (i, v) :: zipFrom (i + 1) vs

def xfunc (P : Program) (keep : List Nat) (c : Code) (rs : List ResultVar) (args : List Value) (K : Value → World → Prop) (w : World) : Prop :=
  xcode P keep c (xend P rs K) (zipFrom 0 args) w

end Go.X
