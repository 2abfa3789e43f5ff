/- A small machine beside the model: values and memory of one call, told by numbers of its own; its definitions. By an AI agent. -/
import Derived.Test.YtofcjkbgieenlaaDoorProg
import Derived.WalkKit
import Derived.StillTail
import Derived.KernelRfl
namespace Go.Proofs.YtofcjkbgieenlaaDoor.PM
open Go

/-- What is not known. -/
def junk : Value := .chan none

abbrev Fr := List (Nat × Value)

def lk : Fr → Nat → Value
  | [], _ => junk
  | (t, v) :: r, u => bif Nat.beq t u then v else lk r u

/-- How the elements of a row are told. -/
structure Codec where
  α : Type
  enc : α → List Value
  get : α → Nat → Value
  set : α → Nat → Value → α
  okv : Nat → Value → Bool
  dec : List Value → α
  okl : List Value → Bool
  flat : Bool
  map : (Value → Value) → α → α
  h_map : ∀ (f : Value → Value), (∀ b, f (.bool b) = .bool b) → (∀ k n, f (.int k n) = .int k n) → (∀ s, f (.string s) = .string s) → ∀ x, enc (map f x) = (enc x).map f
  h_get : ∀ x j v, (enc x)[j]? = some v → get x j = v
  h_set : ∀ x j v, okv j v = true → enc (set x j v) = (enc x).set j v
  h_dec : ∀ l, okl l = true → enc (dec l) = l
  h_flat : flat = true → ∀ x v, v ∈ enc x → ∃ u, v = u ∧ (match u with | .bool _ | .int _ _ | .string _ => true | _ => false) = true

abbrev raw : Codec where
  α := List Value
  enc := id
  get x j := x.getD j junk
  set x j v := x.set j v
  okv _ _ := true
  dec l := l
  okl _ := true
  flat := false
  map f x := x.map f
  h_map _ _ _ _ _ := rfl
  h_get x j v h := by simp only [id] at h; simp [List.getD, h]
  h_set _ _ _ _ := rfl
  h_dec _ _ := rfl
  h_flat h := by cases h

abbrev strC : Codec where
  α := ByteArray
  enc x := [.string x]
  get x _ := .string x
  set x _ v := match v with | .string s => s | _ => x
  okv j v := match j, v with | 0, .string _ => true | _, _ => false
  dec l := match l with | [.string s] => s | _ => ⟨#[]⟩
  okl l := match l with | [.string _] => true | _ => false
  flat := true
  map _ x := x
  h_map f _ _ h x := by simp [h]
  h_get x j v h := by
    cases j with
    | zero => simpa using h
    | succ j => simp at h
  h_set x j v h := by
    split at h
    · rfl
    · cases h
  h_dec l h := by
    split at h
    · rfl
    · cases h
  h_flat _ x v h := by
    simp only [List.mem_singleton] at h
    exact ⟨_, h, rfl⟩

abbrev intC (k : IntKind) : Codec where
  α := Int
  enc x := [.int k x]
  get x _ := .int k x
  set x _ v := match v with | .int _ s => s | _ => x
  okv j v := match j, v with | 0, .int k' _ => decide (k' = k) | _, _ => false
  dec l := match l with | [.int _ s] => s | _ => 0
  okl l := match l with | [.int k' _] => decide (k' = k) | _ => false
  flat := true
  map _ x := x
  h_map f _ h _ x := by simp [h]
  h_get x j v h := by
    cases j with
    | zero => simpa using h
    | succ j => simp at h
  h_set x j v h := by
    split at h
    · have := of_decide_eq_true h
      subst this
      rfl
    · cases h
  h_dec l h := by
    split at h
    · have := of_decide_eq_true h
      subst this
      rfl
    · cases h
  h_flat _ x v h := by
    simp only [List.mem_singleton] at h
    exact ⟨_, h, rfl⟩

def allI (k : IntKind) : List Value → Bool
  | [] => true
  | .int k' _ :: r => decide (k' = k) && allI k r
  | _ => false
def decI : List Value → List Int
  | .int _ n :: r => n :: decI r
  | _ => []
theorem enc_decI {k : IntKind} : ∀ {l : List Value}, allI k l = true → (decI l).map (Value.int k) = l
  | [], _ => rfl
  | v :: l, h => by
    cases v <;> simp only [allI, Bool.and_eq_true, decide_eq_true_eq] at h <;> first | (cases h; done) | skip
    obtain ⟨h1, h2⟩ := h
    subst h1
    simp only [decI, List.map_cons, enc_decI h2]

abbrev arrC (k : IntKind) : Codec where
  α := List Int
  enc x := x.map (Value.int k)
  get x j := .int k (x.getD j 0)
  set x j v := match v with | .int _ s => x.set j s | _ => x
  okv _ v := match v with | .int k' _ => decide (k' = k) | _ => false
  dec l := decI l
  okl l := allI k l
  flat := true
  map _ x := x
  h_map f _ h _ x := by simp [h]
  h_get x j v h := by
    rw [List.getElem?_map] at h
    cases hx : x[j]? with
    | none => rw [hx] at h; cases h
    | some n => rw [hx] at h; simp [List.getD, hx] at h ⊢; exact h
  h_set x j v h := by
    split at h
    · have := of_decide_eq_true h
      subst this
      simp [List.map_set]
    · cases h
  h_dec l h := enc_decI h
  h_flat _ x v h := by
    obtain ⟨n, _, rfl⟩ := List.mem_map.1 h
    exact ⟨_, rfl, rfl⟩

/-- May it be written, is it read alone, was it what another row came of. -/
inductive VMode where
  | own | ro | stale

inductive VB : Type 1 where
  | row (C : Codec) (esz : Nat) (l : List C.α) (m : VMode)
  | iter (s : ByteArray) (pos : Nat)
  | dead

abbrev VH := List VB

def hget : VH → Nat → VB
  | [], _ => .dead
  | b :: _, 0 => b
  | _ :: r, n + 1 => hget r n

def hset : VH → Nat → VB → VH
  | [], _, _ => []
  | _ :: r, 0, b => b :: r
  | a :: r, n + 1, b => a :: hset r n b

def VB.fade : VB → VB
  | .row _ _ _ .stale => .dead
  | b => b

/-- A test that is not known, or is. -/
def bcase (b : Bool) (X Y : Prop) : Prop := match b with | true => X | false => Y
def need (b : Bool) (X : Prop) : Prop := match b with | true => X | false => False

/-- No address in it. -/
def plainV : Value → Bool
  | .bool _ | .int _ _ | .string _ | .pointer none | .slice none 0 0 | .nilFunc | .nilIface | .map none => true
  | _ => false
def plainL : List Value → Bool
  | [] => true
  | v :: r => plainV v && plainL r
def constV (v : Value) : Value :=
  match v with
  | .agg cs => bif plainL cs.toList then v else junk
  | v => bif plainV v then v else junk

def ev (fr : Fr) : Operand → Value
  | .tmp t => lk fr t
  | .const v => constV v
  | .global _ => junk
  | .func f => .func (.func f) #[] #[]

/-- The byte of a string. -/
def bt (s : ByteArray) (i : Int) : Int := ((s.data.toList.getD i.toNat 0).toNat : Int)

def inb (i : Int) (n : Nat) : Bool := decide (0 ≤ i) && decide (i < (n : Int))

def binI (op : BinOp) (k : IntKind) (a b : Int) : Option (Bool × Value) :=
  match op with
  | .add => some (true, .int k (k.wrap (a + b)))
  | .sub => some (true, .int k (k.wrap (a - b)))
  | .mul => some (true, .int k (k.wrap (a * b)))
  | .quo => some (!(decide (b = 0)), .int k (k.wrap (a.tdiv b)))
  | .rem => some (!(decide (b = 0)), .int k (a.tmod b))
  | .and => some (true, .int k (k.wrap ((BitVec.ofInt k.bits a &&& BitVec.ofInt k.bits b).toNat : Int)))
  | .or => some (true, .int k (k.wrap ((BitVec.ofInt k.bits a ||| BitVec.ofInt k.bits b).toNat : Int)))
  | .xor => some (true, .int k (k.wrap ((BitVec.ofInt k.bits a ^^^ BitVec.ofInt k.bits b).toNat : Int)))
  | .andNot => some (true, .int k (k.wrap ((BitVec.ofInt k.bits a &&& ~~~ BitVec.ofInt k.bits b).toNat : Int)))
  | .eql => some (true, .bool (a == b))
  | .neq => some (true, .bool (a != b))
  | .lss => some (true, .bool (decide (a < b)))
  | .leq => some (true, .bool (decide (a ≤ b)))
  | .gtr => some (true, .bool (decide (a > b)))
  | .geq => some (true, .bool (decide (a ≥ b)))
  | _ => none

def shI (op : BinOp) (k : IntKind) (a b : Int) : Option (Bool × Value) :=
  match op with
  | .shl => some (decide (0 ≤ b), .int k (k.wrap (a * 2 ^ (min b.toNat k.bits))))
  | .shr => some (decide (0 ≤ b), .int k (a.fdiv (2 ^ (min b.toNat k.bits))))
  | _ => none

def binS (op : BinOp) (x y : ByteArray) : Option (Bool × Value) :=
  match op with
  | .add => some (decide (x.size + y.size < 9223372036854775808), .string (x ++ y))
  | .eql => some (true, .bool (x.toList == y.toList))
  | .neq => some (true, .bool (!(x.toList == y.toList)))
  | .lss => some (true, .bool (Op.bytesLess x.toList y.toList))
  | .leq => some (true, .bool (Op.bytesLess x.toList y.toList || x.toList == y.toList))
  | .gtr => some (true, .bool (!(Op.bytesLess x.toList y.toList || x.toList == y.toList)))
  | .geq => some (true, .bool (!(Op.bytesLess x.toList y.toList)))
  | _ => none

/-- A value's cells. -/
def cellsOf : Value → Option (List Value)
  | .agg cs => some cs.toList
  | .tuple _ | .chan _ => none
  | v => some [v]

/-- A value that one cell may hold. -/
def cellV : Value → Bool
  | .agg _ | .tuple _ | .chan _ => false
  | _ => true

def cellsV : List Value → Bool
  | [] => true
  | v :: r => cellV v && cellsV r

def splice (l : List Value) (off : Nat) (cs : List Value) : List Value := l.take off ++ (cs ++ l.drop (off + cs.length))

variable (P : Program)

def szOf (t : TypeId) : Option Nat := match P.info? t with | some i => some i.size | none => none

def aggT (t : TypeId) : Option Bool := match P.underlying t with
  | some (.struct _) | some (.array _ _) => some true
  | some _ => some false
  | none => none

def pickI : List Value → Nat → Int
  | .int _ x :: _, 0 => x
  | _ :: r, n + 1 => pickI r n
  | _, _ => 0
def allS : List Value → Bool
  | [] => true
  | .string _ :: r => allS r
  | _ => false
def pickS : List Value → Nat → ByteArray
  | .string x :: _, 0 => x
  | _ :: r, n + 1 => pickS r n
  | _, _ => ⟨#[]⟩

def cutL (l : List Value) (off n : Nat) : List Value := (l.drop off).take n

/-- A part of a struct's or an array's cells. -/
def partV (t : TypeId) (cs : List Value) (off : Nat) : Option Value :=
  match szOf P t, aggT P t with
  | some n, some true => some (.agg ⟨cutL cs off n⟩)
  | some _, some false => match cs.drop off with
      | v :: _ => some v
      | [] => none
  | _, _ => none

def eqFs (rec : TypeId → Value → Value → Option Bool) (xs ys : List Value) : List Field → Option Bool
  | [] => some true
  | f :: r => bif f.name == "_" then none else
    match partV P f.type xs f.offset, partV P f.type ys f.offset with
    | some a, some b => match rec f.type a b, eqFs rec xs ys r with
      | some c, some d => some (c && d)
      | _, _ => none
    | _, _ => none

def eqAs (rec : TypeId → Value → Value → Option Bool) (e n : Nat) (xs ys : List Value) : List Nat → Option Bool
  | [] => some true
  | i :: r => match partV P e xs (i * n), partV P e ys (i * n) with
    | some a, some b => match rec e a b, eqAs rec e n xs ys r with
      | some c, some d => some (c && d)
      | _, _ => none
    | _, _ => none

/-- Structs, arrays, and what they are made of, against each other. -/
def eqT : Nat → TypeId → Value → Value → Option Bool
  | 0, _, _, _ => none
  | d + 1, t, x, y => match P.underlying t, x, y with
    | some .bool, .bool a, .bool b => some (a == b)
    | some (.int _), .int k a, .int k' b => bif decide (k = k') then some (a == b) else none
    | some .string, .string a, .string b => some (a.toList == b.toList)
    | some (.struct fs), .agg xs, .agg ys => bif P.stoodInHeld t then none else eqFs P (eqT d) xs.toList ys.toList fs.toList
    | some (.array n e), .agg xs, .agg ys => match szOf P e with
      | some m => eqAs P (eqT d) e m xs.toList ys.toList (List.range n)
      | none => none
    | _, _, _ => none

def pickV (c : Bool) (a b : Value) : Value :=
  match a, b with
  | .bool x, .bool y => .bool (bif c then x else y)
  | .int k x, .int k' y => bif decide (k = k') then .int k (bif c then x else y) else junk
  | .string x, .string y => .string (bif c then x else y)
  | a, b => bif c then a else b

def gets (C : Codec) (x : C.α) : Nat → Nat → List Value
  | _, 0 => []
  | j, n + 1 => C.get x j :: gets C x (j + 1) n

def nth (C : Codec) (l : List C.α) (i : Nat) : C.α := l.getD i (C.dec [])

def zeroCells (t : TypeId) : Option (List Value) :=
  match P.info? t with
  | some i => match i.zero with
    | some z => bif plainL z.cells.toList then some z.cells.toList else none
    | none => none
  | none => none

def placesOf : List Field → Option (List (Nat × Nat))
  | [] => some []
  | f :: r => match szOf P f.type, placesOf r with
    | some n, some l => some ((f.offset, n) :: l)
    | _, _ => none

def fillV (place : Nat → Option (Nat × Nat)) (ρ : Operand → Value) : List Value → List (Nat × Operand) → Option (List Value)
  | l, [] => some l
  | l, (i, x) :: r => match place i, cellsOf (ρ x) with
    | some (off, n), some cs => bif Nat.beq cs.length n && Nat.ble (off + n) l.length then fillV place ρ (splice l off cs) r else none
    | _, _ => none

/-- The bytes of a row. -/
def gatherB (C : Codec) (l : List C.α) (i : Nat) : Nat → Option (List Int)
  | 0 => some []
  | n + 1 => match C.get (nth C l i) 0, gatherB C l (i + 1) n with
    | .int .u8 x, some r => some (x :: r)
    | _, _ => none

def addN (j x : Nat) : Nat := match j with | 0 => x | j => j + x
def mulN (x m : Nat) : Nat := match m with | 1 => x | m => x * m
/-- What an operation that leaves memory as it is yields: on which condition, and what. -/
def opV (ρ : Operand → Value) (H : VH) : Op → Option (Bool × Value)
  | .move x | .assign x => some (true, ρ x)
  | .pick c a b => match ρ c with
    | .bool t => some (true, pickV t (ρ a) (ρ b))
    | _ => none
  | .binOp op t x y _ => match op, ρ x, ρ y with
    | .shl, .int k a, .int _ b => shI .shl k a b
    | .shr, .int k a, .int _ b => shI .shr k a b
    | op, .int k a, .int k' b => bif decide (k = k') then binI op k a b else none
    | op, .string a, .string b => binS op a b
    | .eql, .bool a, .bool b => match P.underlying t with | some .bool => some (true, .bool (a == b)) | _ => none
    | .neq, .bool a, .bool b => match P.underlying t with | some .bool => some (true, .bool (!(a == b))) | _ => none
    | .eql, .agg a, .agg b => bif P.eqGuardType P.depth t then none else (match eqT P 6 t (.agg a) (.agg b) with | some r => some (true, .bool r) | none => none)
    | .neq, .agg a, .agg b => bif P.eqGuardType P.depth t then none else (match eqT P 6 t (.agg a) (.agg b) with | some r => some (true, .bool (!r)) | none => none)
    | _, _, _ => none
  | .unOp .not _ x => match ρ x with
    | .bool b => some (true, .bool (!b))
    | _ => none
  | .unOp .neg _ x => match ρ x with
    | .int k n => some (true, .int k (k.wrap (0 - n)))
    | _ => none
  | .convert src dst x => match P.underlying src, P.underlying dst, ρ x with
    | some (.int _), some (.int k), .int _ n => some (true, .int k (k.wrap n))
    | some .string, some .string, .string s => some (true, .string s)
    | some (.int _), some .string, .int _ n => some (true, .string (Utf8.encode n))
    | some (.slice e), some .string, .slice (some ⟨b, i0, none⟩) n _ => match P.underlying e, hget H b with
      | some (.int .u8), .row C 1 l _ => match gatherB C l i0 n with
        | some xs => some (Nat.ble (i0 + n) l.length, .string ⟨⟨xs.map fun x => UInt8.ofNat x.toNat⟩⟩)
        | none => none
      | _, _ => none
    | _, _, _ => none
  | .load t a => match ρ a with
    | .pointer (some ⟨b, i, some j⟩) => match hget H b, szOf P t, aggT P t with
      | .row C esz l _, some n, some true => some (decide (i < l.length) && Nat.ble (j + n) esz, .agg ⟨gets C (nth C l i) j n⟩)
      | .row C esz l _, some _, some false => some (decide (i < l.length) && Nat.ble (j + 1) esz, C.get (nth C l i) j)
      | _, _, _ => none
    | _ => none
  | .nilCheck x => match ρ x with
    | .pointer (some a) => some (true, .pointer (some a))
    | _ => none
  | .slice t x lo hi none => match P.underlying t, ρ x with
    | some .string, .string s =>
      match (match lo with | some o => ρ o | none => .int .i64 0), (match hi with | some o => ρ o | none => .int .i64 s.size) with
      | .int _ l, .int _ h => some (decide (0 ≤ l) && (decide (l ≤ h) && decide (h ≤ (s.size : Int))), .string (s.extract l.toNat h.toNat))
      | _, _ => none
    | some (.slice e), .slice (some ⟨b, i0, none⟩) n _ =>
      match hget H b, szOf P e, (match lo with | some o => ρ o | none => .int .i64 0), (match hi with | some o => ρ o | none => .int .i64 n) with
      | .row _ esz _ _, some m, .int _ l, .int _ h => bif Nat.beq esz m then
          some (decide (0 ≤ l) && (decide (l ≤ h) && decide (h ≤ (n : Int))), .slice (some ⟨b, i0 + l.toNat, none⟩) (h.toNat - l.toNat) (h.toNat - l.toNat)) else none
      | _, _, _, _ => none
    | _, _ => none
  | .fieldAddr s x f => match P.underlying s, ρ x with
    | some (.struct fs), .pointer (some ⟨b, i, some j⟩) => match fs[f]? with
      | some fd => match szOf P fd.type with
        | some (_ + 1) => some (true, .pointer (some ⟨b, i, some (j + fd.offset)⟩))
        | _ => none
      | none => none
    | _, _ => none
  | .field t x f => match P.underlying t, ρ x with
    | some (.struct fs), .agg cs => match fs[f]? with
      | some fd => match partV P fd.type cs.toList fd.offset with | some v => some (true, v) | none => none
      | none => none
    | _, _ => none
  | .indexAddr t x ix => match P.underlying t, ρ x, ρ ix with
    | some (.slice e), .slice (some ⟨b, i0, none⟩) n _, .int _ i => match hget H b, szOf P e with
      | .row _ esz _ _, some m => bif Nat.beq esz m then some (inb i n, .pointer (some ⟨b, i0 + i.toNat, some 0⟩)) else none
      | _, _ => none
    | some (.array len e), .pointer (some ⟨b, i0, some j⟩), .int _ i => match szOf P e with
      | some m => some (inb i len, .pointer (some ⟨b, i0, some (addN j (mulN i.toNat m))⟩))
      | none => none
    | _, _, _ => none
  | .index t x ix => match P.underlying t, ρ x, ρ ix with
    | some .string, .string s, .int _ i => some (inb i s.size, .int .u8 (bt s i))
    | some (.array len e), .agg cs, .int _ i => match szOf P e, P.underlying e with
      | some 1, some (.int k) => bif allI k cs.toList && Nat.beq cs.toList.length len then some (inb i len, .int k (pickI cs.toList i.toNat)) else none
      | some 1, some .string => bif allS cs.toList && Nat.beq cs.toList.length len then some (inb i len, .string (pickS cs.toList i.toNat)) else none
      | _, _ => none
    | _, _, _ => none
  | .build t parts => match zeroCells P t, P.underlying t with
    | some zs, some (.struct fs) => match placesOf P fs.toList with
      | some pl => match fillV (fun i => pl[i]?) ρ zs parts.toList with
        | some l => some (true, .agg ⟨l⟩)
        | none => none
      | none => none
    | some zs, some (.array _ e) => match szOf P e with
      | some n => match fillV (fun i => some (i * n, n)) ρ zs parts.toList with
        | some l => some (true, .agg ⟨l⟩)
        | none => none
      | none => none
    | _, _ => none
  | .extract x ix => match ρ x with
    | .tuple vs => match vs.toList.drop ix with
      | v :: _ => some (true, v)
      | [] => none
    | _ => none
  | .call { callee := .builtin .len, args, argTypes } => match args.toList, argTypes.toList with
    | [x], [t] => match P.underlying t, ρ x with
      | some .string, .string s => some (true, .int .i64 s.size)
      | some (.slice _), .slice _ n _ => some (true, .int .i64 n)
      | _, _ => none
    | _, _ => none
  | _ => none

inductive Ex where
  | normal
  | exit (id : Nat)
  | ret

abbrev Kont := Ex → Fr → VH → Prop
/-- What a function is known to do, for its callers. -/
abbrev Spec := List Value → VH → (Value → VH → Prop) → Prop

def put (d : Option Tmp) (v : Value) (fr : Fr) : Fr := match d with | some t => (t, v) :: fr | none => fr

def setFrom (C : Codec) (x : C.α) (j : Nat) : List Value → Option C.α
  | [] => some x
  | v :: r => bif C.okv j v && cellV v then setFrom C (C.set x j v) (j + 1) r else none

/-- An element, of which some cells are other ones. -/
def setAll (C : Codec) (esz : Nat) (x : C.α) (j : Nat) (cs : List Value) : Option C.α :=
  bif (Nat.beq cs.length esz && Nat.beq j 0) && (C.okl cs && cellsV cs) then some (C.dec cs)
  else bif Nat.ble 4 cs.length && (C.okl (splice (C.enc x) j cs) && cellsV cs) then some (C.dec (splice (C.enc x) j cs)) else setFrom C x j cs

def storeG (t : TypeId) (a v : Value) (H : VH) : Option (Bool × VH) :=
  match a with
  | .pointer (some ⟨b, i, some j⟩) => match hget H b, szOf P t with
    | .row C esz l .own, some n =>
      match cellsOf v with
      | some cs => bif Nat.beq cs.length n then
          match setAll C esz (nth C l i) j cs with
          | some x => some (decide (i < l.length) && Nat.ble (j + n) esz, (hset H b (.row C esz (l.set i x) .own)).map VB.fade)
          | none => none
        else none
      | none => none
    | _, _ => none
  | _ => none

/-- Is it an array of numbers? -/
def arrOf (t : TypeId) : Option IntKind := match P.underlying t with
  | some (.array _ e) => match P.underlying e with
    | some (.int k) => some k
    | _ => none
  | _ => none
/-- A variable of its own. -/
def newP (t : TypeId) (zs : List Value) (H : VH) (K : Value → VH → Prop) : Prop := match arrOf P t with
  | some k => need (allI k zs) (K (.pointer (some ⟨H.length, 0, some 0⟩)) (H ++ [.row (arrC k) zs.length [decI zs] .own]))
  | none => K (.pointer (some ⟨H.length, 0, some 0⟩)) (H ++ [.row raw zs.length [zs] .own])

/-- How rows of a type are told. -/
def codecOf (e : TypeId) : Codec := match P.underlying e with
  | some .string => strC
  | some (.int k) => intC k
  | _ => match arrOf P e with
    | some k => arrC k
    | none => raw

def okAll (C C2 : Codec) : List C2.α → Bool
  | [] => true
  | y :: r => (C.okl (C2.enc y) && cellsV (C2.enc y)) && okAll C C2 r

def asC (C C2 : Codec) : List C2.α → List C.α
  | [] => []
  | y :: r => C.dec (C2.enc y) :: asC C C2 r

def infoB (t : TypeId) : Option Nat := match P.info? t with | some i => some i.bytes | none => none

/-- 'append' of a slice that lies in a row to one. -/
def appendP (t : TypeId) (s : Value) (X : VB) (j0 m : Nat) (H : VH) (K : Value → VH → Prop) : Prop :=
  match P.underlying t with
  | some (.slice e) => match szOf P e, infoB P e, zeroCells P e, X with
    | some (n1 + 1), some (by1 + 1), some zs, .row C2 esz2 l2 _ =>
      need ((Nat.ble (j0 + m) l2.length && Nat.beq esz2 (n1 + 1)) && Nat.beq zs.length (n1 + 1)) (match s with
        | .slice none 0 0 => bcase (Nat.beq m 0) (K (.slice none 0 0) H)
          (need (Nat.ble (m * (by1 + 1)) 140737488355328 && okAll (codecOf P e) C2 ((l2.drop j0).take m))
            (K (.slice (some ⟨H.length, 0, none⟩) m m) (H ++ [.row (codecOf P e) (n1 + 1) (asC (codecOf P e) C2 ((l2.drop j0).take m)) .own])))
        | .slice (some ⟨b, i0, none⟩) n _ => match hget H b with
          | .row C esz l .own =>
            need ((Nat.beq esz (n1 + 1) && Nat.beq (i0 + n) l.length) && (Nat.ble ((n + m) * (by1 + 1)) 140737488355328 && okAll C C2 ((l2.drop j0).take m)))
              (K (.slice (some ⟨H.length, 0, none⟩) (n + m) (n + m)) (hset H b (.row C esz l .stale) ++ [.row C esz (l.drop i0 ++ asC C C2 ((l2.drop j0).take m)) .own]))
          | _ => False
        | _ => False)
    | _, _, _, _ => False
  | _ => False

/-- The cells of parts, one behind the other. -/
def partsV (ρ : Operand → Value) (n : Nat) : Nat → List (Nat × Operand) → Option (List (List Value))
  | _, [] => some []
  | k, (i, x) :: r => match cellsOf (ρ x), partsV ρ n (k + 1) r with
    | some cs, some l => bif Nat.beq i k && Nat.beq cs.length n then some (cs :: l) else none
    | _, _ => none

/-- Operations that may write memory, and calls. -/
def opE (call : FuncId → Spec) (ρ : Operand → Value) (H : VH) (K : Value → VH → Prop) : Op → Prop
  | .alloc t => match zeroCells P t with
    | some zs => newP P t zs H K
    | none => False
  | .box t x => match cellsOf (ρ x) with
    | some zs => newP P t zs H K
    | none => False
  | .store t a x => match storeG P t (ρ a) (ρ x) H with
    | some (c, H') => need c (K undef H')
    | none => False
  | .range t x => match P.underlying t, ρ x with
    | some .string, .string s => K (.pointer (some ⟨H.length, 0, some 0⟩)) (H ++ [.iter s 0])
    | _, _ => False
  | .next it true => match ρ it with
    | .pointer (some ⟨b, 0, some 0⟩) => match hget H b with
      | .iter s pos => bcase (decide (pos < s.size))
        (K (.tuple ⟨[.bool true, .int .i64 pos, .int .i32 (Utf8.decode s pos).1]⟩) (hset H b (.iter s (pos + (Utf8.decode s pos).2))))
        (K (.tuple ⟨[.bool false]⟩) H)
      | _ => False
    | _ => False
  | .buildSlice t len parts => match P.underlying t with
    | some (.slice e) => match szOf P e, zeroCells P e with
      | some (n1 + 1), some zs => match partsV ρ (n1 + 1) 0 parts.toList with
        | some cl => need ((Nat.beq cl.length len && Nat.ble (len * (n1 + 1)) 16777216) && (Nat.beq zs.length (n1 + 1) && okAll (codecOf P e) raw cl))
            (K (.slice (some ⟨H.length, 0, none⟩) len len) (H ++ [.row (codecOf P e) (n1 + 1) (asC (codecOf P e) raw cl) .own]))
        | none => False
      | _, _ => False
    | _ => False
  | .call { callee := .builtin .append, args, argTypes } => match args.toList, argTypes.toList with
    | [s, x], [t, t'] => bif Nat.beq t t' then (match ρ x with
        | .slice (some ⟨b2, j0, none⟩) m _ => appendP P t (ρ s) (hget H b2) j0 m H K
        | _ => False) else False
    | _, _ => False
  | .call { callee := .value f, args, argTypes := _ } => match ρ f with
    | .func (.func id) first captured => call id (first.toList ++ (args.toList.map ρ ++ captured.toList)) H K
    | _ => False
  | o => match opV P ρ H o with
    | some (c, v) => need c (K v H)
    | none => False

def dstOf (ops : List Oper) (j : Nat) : Option Tmp := match ops.drop j with | o :: _ => o.dst | [] => none

def opsP (call : FuncId → Spec) (ops : List Oper) (K : Fr → VH → Prop) : List Oper → Fr → VH → Prop
  | [], fr, H => K fr H
  | o :: rest, fr, H =>
    match o.guard with
    | none => opE P call (ev fr) H (fun v H => opsP call ops K rest (put o.dst v fr) H) o.op
    | some (j, want) => match dstOf ops j with
      | none => False
      | some t => match lk fr t with
        | .bool b => bcase b
            (bif want then opE P call (ev ((t, .bool true) :: fr)) H (fun v H => opsP call ops K rest (put o.dst v ((t, .bool true) :: fr)) H) o.op
              else opsP call ops K rest (put o.dst undef ((t, .bool true) :: fr)) H)
            (bif want then opsP call ops K rest (put o.dst undef ((t, .bool false) :: fr)) H
              else opE P call (ev ((t, .bool false) :: fr)) H (fun v H => opsP call ops K rest (put o.dst v ((t, .bool false) :: fr)) H) o.op)
        | .tuple ⟨[]⟩ => opsP call ops K rest (put o.dst undef fr) H
        | _ => False

/-- What is kept behind a region: the hints are no more than that. -/
def keepF : Option (List Nat) → Fr → Fr
  | none, fr => fr
  | some ts, fr => ts.map fun t => (t, lk fr t)

def hintOf : List (Nat × List Nat) → Nat → Option (List Nat)
  | [], _ => none
  | (i, l) :: r, j => bif Nat.beq i j then some l else hintOf r j

def silent : Op → Bool
  | .move _ | .assign _ | .pick .. | .binOp .. | .unOp .. | .convert .. | .load .. | .nilCheck _ | .slice .. | .fieldAddr .. | .field .. | .indexAddr .. | .index .. | .extract .. | .build .. => true
  | .call { callee := .builtin .len, .. } => true
  | _ => false

def headLen : List Oper → Nat
  | [] => 0
  | o :: r => bif silent o.op then headLen r + 1 else 0

def drawOk (ops : Array Oper) : Bool :=
  bif Nat.beq (headLen ops.toList) ops.toList.length then Region.lexB .any ops else Region.lexTailB .any ops (headLen ops.toList)

/-! ### An order for the operations of a region whose order is drawn -/
def known0 : Value → Bool
  | .bool _ | .int _ _ | .string _ | .pointer none | .pointer (some ⟨_, _, some _⟩) | .slice none 0 0 | .nilFunc | .nilIface | .map none => true
  | _ => false
def known0L : List Value → Bool
  | [] => true
  | v :: r => known0 v && known0L r
def known1 (v : Value) : Bool :=
  match v with
  | .agg ⟨l⟩ => known0L l
  | v => known0 v
def known1L : List Value → Bool
  | [] => true
  | v :: r => known1 v && known1L r
/-- A value that is told wholly. -/
def knownV (v : Value) : Bool :=
  match v with
  | .tuple ⟨l⟩ => known1L l
  | v => known1 v

def movesOp : Op → Bool
  | .move _ | .assign _ | .pick .. | .extract .. => true
  | _ => false
/-- An operation that leaves the rows that there are as they are. -/
def tameOp : Op → Bool
  | .alloc _ | .box .. | .buildSlice .. | .range .. => true
  | .call { callee := .value _, .. } => true
  | o => silent o
/-- The numbers of the operations that may write. -/
def writersL : Nat → List Oper → List Nat
  | _, [] => []
  | k, o :: r => bif tameOp o.op then writersL (k + 1) r else k :: writersL (k + 1) r

def stepD (call : FuncId → Spec) (kind : Nat) (o : Oper) (k : Fr → VH → Prop) (fr : Fr) (H : VH) : Prop :=
  match kind with
  | 1 => opE P call (ev fr) H (fun v H => k (put o.dst v fr) H) o.op
  | n => match opV P (ev fr) (match n with | 0 => [] | _ => H) o.op with
    | some (c, v) => need (c && (movesOp o.op || knownV v)) (k (put o.dst v fr) H)
    | none => False

/-- Operations in an order of ours: below 1000 what looks at no memory and may be taken first, 1000 and on the only one that may come up, 2000 and on what looks at memory and may be taken first. -/
def opsD (call : FuncId → Spec) (ops : List Oper) (K : Fr → VH → Prop) : List Nat → Fr → VH → Prop
  | [], fr, H => K fr H
  | i :: rest, fr, H => match ops.drop (i % 1000) with
    | [] => False
    | o :: _ => match o.guard with
      | none => stepD P call (i / 1000) o (opsD call ops K rest) fr H
      | some (j, want) => match dstOf ops j with
        | none => False
        | some t => match lk fr t with
          | .bool b => bcase b
              (bif want then stepD P call (i / 1000) o (opsD call ops K rest) ((t, .bool true) :: fr) H
                else opsD call ops K rest (put o.dst undef ((t, .bool true) :: fr)) H)
              (bif want then opsD call ops K rest (put o.dst undef ((t, .bool false) :: fr)) H
                else stepD P call (i / 1000) o (opsD call ops K rest) ((t, .bool false) :: fr) H)
          | .tuple ⟨[]⟩ => opsD call ops K rest (put o.dst undef fr) H
          | _ => False

/-- Does an operation wait for another one, be it through others? -/
def waitsB (ops : Array Oper) : Nat → Nat → Nat → Bool
  | 0, _, _ => false
  | n + 1, s, i => match ops[s]? with
    | some o => o.after.toList.any fun e => Region.binds .any e && (Nat.beq e.on i || waitsB ops n e.on i)
    | none => false

def schedFrom (ops : Array Oper) (wrs : List Nat) : List Nat → Array Bool → Bool
  | [], listed => (Region.ready .any ops listed).isEmpty
  | i :: r, listed => (match i / 1000 with
      | 1 => (match Region.ready .any ops listed with | [j] => Nat.beq j (i % 1000) | _ => false)
      | 0 => !(wrs.contains (i % 1000)) && ((Region.ready .any ops listed).contains (i % 1000) && Region.free .any ops listed (i % 1000))
      | _ => (!(wrs.contains (i % 1000)) && wrs.all fun s => waitsB ops 12 s (i % 1000)) && ((Region.ready .any ops listed).contains (i % 1000) && Region.free .any ops listed (i % 1000)))
      && schedFrom ops wrs r (listed.setIfInBounds (i % 1000) true)
def schedOk (ops : Array Oper) (l : List Nat) : Bool := Region.noSelect ops && (Nat.beq l.length ops.size && schedFrom ops (writersL 0 ops.toList) l (Array.replicate ops.size false))

def regionP (call : FuncId → Spec) (sched : Option (List Nat)) (ops : Array Oper) (draw : Bool) (K : Fr → VH → Prop) (fr : Fr) (H : VH) : Prop :=
  bif draw then match sched with
    | some l => need (schedOk ops l) (opsD P call ops.toList K l fr H)
    | none => need (drawOk ops) (opsP P call ops.toList K ops.toList fr H)
  else opsP P call ops.toList K ops.toList fr H

def litF (c : Operand) (b : Bool) (fr : Fr) : Fr := match c with | .tmp t => (t, .bool b) :: fr | _ => fr

/-! ### Other numbers for blocks -/
def ren0 (f : Nat → Option Nat) (v : Value) : Value :=
  match v with
  | .pointer (some ⟨b, i, some j⟩) => match f b with | some c => .pointer (some ⟨c, i, some j⟩) | none => junk
  | .slice (some ⟨b, i, none⟩) n c => match f b with | some d => .slice (some ⟨d, i, none⟩) n c | none => junk
  | .func fn ⟨[]⟩ ⟨[]⟩ => .func fn ⟨[]⟩ ⟨[]⟩
  | v => bif plainV v then v else junk
def ren1 (f : Nat → Option Nat) (v : Value) : Value :=
  match v with
  | .agg ⟨l⟩ => .agg ⟨l.map (ren0 f)⟩
  | .func fn ⟨l⟩ ⟨m⟩ => .func fn ⟨l.map (ren0 f)⟩ ⟨m.map (ren0 f)⟩
  | .iface t v => .iface t (ren0 f v)
  | .tuple ⟨[]⟩ => .tuple ⟨[]⟩
  | v => ren0 f v
def ren2 (f : Nat → Option Nat) (v : Value) : Value :=
  match v with
  | .tuple ⟨l⟩ => .tuple ⟨l.map (ren1 f)⟩
  | v => ren1 f v
def renB (f : Nat → Option Nat) : VB → VB
  | .row C e l m => .row C e (bif C.flat then l else l.map (C.map (ren1 f))) m
  | b => b

def ids0 : Value → List Nat
  | .pointer (some ⟨b, _, _⟩) => [b]
  | .slice (some ⟨b, _, _⟩) _ _ => [b]
  | _ => []
def idsL (f : Value → List Nat) : List Value → List Nat
  | [] => []
  | v :: r => f v ++ idsL f r
def ids1 : Value → List Nat
  | .agg ⟨l⟩ => idsL ids0 l
  | .func _ ⟨l⟩ ⟨m⟩ => idsL ids0 l ++ idsL ids0 m
  | .iface _ v => ids0 v
  | v => ids0 v
def ids2 : Value → List Nat
  | .tuple ⟨l⟩ => idsL ids1 l
  | v => ids1 v
def idsB : VB → List Nat
  | .row C _ l _ => bif C.flat then [] else idsL ids1 (encs C l)
  | _ => []
where encs (C : Codec) : List C.α → List Value
  | [] => []
  | x :: r => C.enc x ++ encs C r
def idsF : Fr → List Nat
  | [] => []
  | (_, v) :: r => ids2 v ++ idsF r

def hasN : List Nat → Nat → Bool
  | [], _ => false
  | a :: r, b => bif Nat.beq a b then true else hasN r b
def idxN : List Nat → Nat → Option Nat
  | [], _ => none
  | a :: r, b => bif Nat.beq a b then some 0 else match idxN r b with | some i => some (i + 1) | none => none

def reach (H : VH) : Nat → List Nat → List Nat → List Nat
  | 0, _, acc => acc
  | _ + 1, [], acc => acc
  | n + 1, b :: t, acc => bif hasN acc b || !(Nat.blt b H.length) then reach H n t acc else reach H n (t ++ idsB (hget H b)) (acc ++ [b])

/-- The blocks at the front that are read alone. -/
def leadRo : VH → Nat
  | .row _ _ _ .ro :: r => leadRo r + 1
  | .dead :: r => leadRo r + 1
  | _ => 0

/-- The blocks that may be come to, in an order that goes by the frame. -/
def kept (fr : Fr) (H : VH) : List Nat := reach H 100 (idsF fr) (List.range (leadRo H))

def canonV (fr : Fr) (H : VH) (v : Value) : Value := match H with
  | [] => v
  | H => ren2 (idxN (kept fr H)) v
def canonFr (fr : Fr) (H : VH) : Fr := match H with
  | [] => fr
  | H => fr.map fun (t, v) => (t, ren2 (idxN (kept fr H)) v)
def canonH (fr : Fr) (H : VH) : VH := match H with
  | [] => []
  | H => (kept fr H).map fun b => renB (idxN (kept fr H)) (hget H b)

/-- The first region of a text: its name among the contracts of parts. -/
def firstReg : Code → Nat
  | .region id _ _ => id
  | .seq a _ => firstReg a
  | .block _ c => firstReg c
  | .loop c => firstReg c
  | .scope c => firstReg c
  | .cond _ a _ => firstReg a
  | _ => 0

/-- What a part of a text is known to do. -/
abbrev LSpec := Fr → VH → Kont → Prop

/-- Contracts of loops, and of what stands behind a place. -/
structure Tab where
  loops : Nat → Option LSpec
  joins : Nat → Option LSpec

def noTab : Tab := ⟨fun _ => none, fun _ => none⟩
/-- No contracts: loops are gone through, round by round. -/
def unrollTab : Tab := ⟨fun _ => none, fun _ => none⟩

def runS (call : FuncId → Spec) (hint : List (Nat × List Nat)) (tb : Tab) (prev : Code → Fr → VH → Kont → Prop) : Code → Fr → VH → Kont → Prop
  | .skip, fr, H, K => K .normal fr H
  | .label _, fr, H, K => K .normal fr H
  | .region id ops draw, fr, H, K => regionP P call (hintOf hint (2000 + id)) ops draw (fun fr H => K .normal (keepF (hintOf hint id) fr) H) fr H
  | .seq a b, fr, H, K => runS call hint tb prev a fr H (fun e fr H => match e with
    | .normal => match tb.joins (firstReg b) with
      | some sp => sp (canonFr (keepF (hintOf hint (3000 + firstReg b)) fr) H) (canonH (keepF (hintOf hint (3000 + firstReg b)) fr) H) K
      | none => runS call hint tb prev b fr H K
    | e => K e fr H)
  | .cond c a b, fr, H, K => match ev fr c with
    | .bool t => bcase t (runS call hint tb prev a (litF c true fr) H K) (runS call hint tb prev b (litF c false fr) H K)
    | _ => False
  | .block id c, fr, H, K => runS call hint tb prev c fr H (fun e fr H => match e with
    | .exit id' => bif Nat.beq id' id then K .normal fr H else K (.exit id') fr H
    | e => K e fr H)
  | .loop c, fr, H, K => match tb.loops (firstReg c) with
    | some sp => sp (canonFr (keepF (hintOf hint (4000 + firstReg c)) fr) H) (canonH (keepF (hintOf hint (4000 + firstReg c)) fr) H) K
    | none => runS call hint tb prev c (canonFr (keepF (hintOf hint (4000 + firstReg c)) fr) H) (canonH (keepF (hintOf hint (4000 + firstReg c)) fr) H) (fun e fr H => match e with
      | .normal => prev (.loop c) fr H K
      | e => K e fr H)
  | .scope c, fr, H, K => runS call hint tb prev c fr H K
  | .exit id, fr, H, K => K (.exit id) (keepF (hintOf hint (1000 + id)) fr) H
  | .ret, fr, H, K => K .ret (keepF (hintOf hint 999) fr) H
  | _, _, _, _ => False

/-- One round of a loop, and on. -/
def run (call : FuncId → Spec) (hint : List (Nat × List Nat)) (tb : Tab) : Nat → Code → Fr → VH → Kont → Prop
  | 0 => fun _ _ _ _ => False
  | n + 1 => runS P call hint tb (run call hint tb n)

/-- A loop's rounds, whatever contract it may have. -/
def rnds (call : FuncId → Spec) (hint : List (Nat × List Nat)) (tb : Tab) : Nat → Code → Fr → VH → Kont → Prop
  | 0, _, _, _, _ => False
  | n + 1, c, fr, H, K => runS P call hint tb (run P call hint tb n) c fr H (fun e fr H => match e with
    | .normal => rnds call hint tb n c (canonFr (keepF (hintOf hint (4000 + firstReg c)) fr) H) (canonH (keepF (hintOf hint (4000 + firstReg c)) fr) H) K
    | e => K e fr H)

def argsF : Nat → List Value → Fr
  | _, [] => []
  | i, v :: r => (i, v) :: argsF (i + 1) r

def resF (fr : Fr) (H : VH) : List ResultVar → Option (Bool × List Value)
  | [] => some (true, [])
  | .tmp t :: r => match resF fr H r with | some (c, l) => some (c, lk fr t :: l) | none => none
  | .cell a t :: r => match lk fr a, opV P (ev fr) H (.load t (.tmp a)), resF fr H r with
    | .pointer (some _), some (c1, v), some (c, l) => some (c1 && c, v :: l)
    | _, _, _ => none

def oneOr : List Value → Value
  | [v] => v
  | l => .tuple l.toArray

/-- What a call of a function comes to. -/
def runF (call : FuncId → Spec) (hint : List (Nat × List Nat)) (tb : Tab) (n : Nat) (fn : Func) (args : List Value) (H : VH) (K : Value → VH → Prop) : Prop :=
  match fn.body with
  | some c => run P call hint tb n c (argsF 0 args) H (fun e fr H => match e with
    | .exit _ => False
    | _ => match resF P fr H fn.results.toList with
      | some (c, l) => need c (K (canonV [(0, oneOr l)] H (oneOr l)) (canonH [(0, oneOr l)] H))
      | none => False)
  | none => False

/-- The loop whose first region is this one. -/
def loopAt (k : Nat) : Code → Option Code
  | .seq a b => match loopAt k a with | some c => some c | none => loopAt k b
  | .cond _ a b => match loopAt k a with | some c => some c | none => loopAt k b
  | .block _ c => loopAt k c
  | .scope c => loopAt k c
  | .loop c => bif Nat.beq (firstReg c) k then some c else loopAt k c
  | _ => none
def joinAt (k : Nat) : Code → Option Code
  | .seq a b => match joinAt k a with
    | some c => some c
    | none => bif Nat.beq (firstReg b) k then some b else joinAt k b
  | .cond _ a b => match joinAt k a with | some c => some c | none => joinAt k b
  | .block _ c => joinAt k c
  | .scope c => joinAt k c
  | .loop c => joinAt k c
  | _ => none
def orSkip : Option Code → Code
  | some c => c
  | none => .skip
def bodyOf (f : Func) : Code := orSkip f.body
def lp (f : Func) (k : Nat) : Code := orSkip (loopAt k (bodyOf f))
def jn (f : Func) (k : Nat) : Code := orSkip (joinAt k (bodyOf f))

end Go.Proofs.YtofcjkbgieenlaaDoor.PM
