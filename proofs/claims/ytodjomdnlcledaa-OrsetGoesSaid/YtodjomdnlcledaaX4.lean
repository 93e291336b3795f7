/- The walk over code, as a function: what is to be shown of plain data. -/
import Derived.Test.YtodjomdnlcledaaX3
namespace Go.Proofs.Ytodjomdnlcledaa.X
open Go Go.RowKit
set_option linter.unusedVariables false
set_option linter.unusedSimpArgs false

def castD (t t' : Ty) (x : t.den) : Option t'.den := if h : t = t' then some (h ▸ x) else none
def castL (t t' : Ty) (x : List t.den) : Option (List t'.den) := if h : t = t' then some (h ▸ x) else none

def ofRaw : (t : Ty) → Value → Option t.den
  | .slice e, .slice none 0 0 => some ([] : List e.den)
  | .ref t, .pointer none => some (none : Option t.den)
  | _, _ => none

def constAV : Value → AV
  | .int k n => .d (.int k) n
  | .bool b => .d .bool b
  | .string s => .d .str s
  | v => .raw v

/-- The parts of a datum, each of one kind. -/
def leaves : (t : Ty) → t.den → List AV
  | .pair a b, x => leaves a x.1 ++ leaves b x.2
  | .unit, _ => []
  | t, x => [.d t x]

def zeroCh : Ty → List AV
  | .pair a b => zeroCh a ++ zeroCh b
  | .unit => []
  | .slice _ => [.raw (.slice none 0 0)]
  | .ref _ => [.raw (.pointer none)]
  | t => [.d t t.dflt]

def rowData (L : List AObj) (id ver : Nat) (e : Ty) : Option (List e.den) :=
  match L[id]? with
  | some (.row cv _ e' xs) => bif Nat.beq ver cv then castL e' e xs else none
  | _ => none

def headD (L : List AObj) (t : Ty) : AV → Option t.den
  | .d t' x => castD t' t x
  | .raw v => ofRaw t v
  | .own id ver _ => match t with
    | .slice e => rowData L id ver e
    | _ => none
  | .sub id ver e' lo hi => match t with
    | .slice e => bif decide (e' = e) then (rowData L id ver e).map fun xs => List.take (hi.toNat - lo.toNat) (List.drop lo.toNat xs) else none
    | _ => none
  | .imp t' x => match t with
    | .ref t'' => (castD t' t'' x).map some
    | _ => none
  | _ => none

/-- A datum out of its parts. -/
def unleaf (L : List AObj) (deep : Bool) : (t : Ty) → List AV → Option (t.den × List AV)
  | .pair a b, cs => match unleaf L deep a cs with
    | some (x, cs') => match unleaf L deep b cs' with
      | some (y, cs'') => some ((x, y), cs'')
      | none => none
    | none => none
  | .unit, cs => some ((), cs)
  | .ref t, cs => match cs with
    | .ptr id 0 :: r => bif deep then (match L[id]? with
        | some (.cells cs') => match unleaf L deep t cs' with
          | some (x, []) => some (some x, r)
          | _ => none
        | _ => none) else none
    | c :: r => (headD L (.ref t) c).map fun x => (x, r)
    | [] => none
  | .int k, cs => match cs with | c :: r => (headD L (.int k) c).map fun x => (x, r) | [] => none
  | .bool, cs => match cs with | c :: r => (headD L .bool c).map fun x => (x, r) | [] => none
  | .str, cs => match cs with | c :: r => (headD L .str c).map fun x => (x, r) | [] => none
  | .arr n k, cs => match cs with | c :: r => (headD L (.arr n k) c).map fun x => (x, r) | [] => none
  | .slice e, cs => match cs with | c :: r => (headD L (.slice e) c).map fun x => (x, r) | [] => none

def AV.parts : AV → List AV
  | .d t x => leaves t x
  | .agg cs => cs
  | a => [a]

/-- A datum out of an abstract value. -/
def toData (L : List AObj) (deep : Bool) (t : Ty) (a : AV) : Option t.den :=
  match a with
  | .d t' x => castD t' t x
  | .agg cs => bif t.isAgg then (match unleaf L deep t cs with
    | some (x, []) => some x
    | _ => none) else none
  | a => bif t.isAgg then none else (match unleaf L deep t [a] with
    | some (x, []) => some x
    | _ => none)

def dropCh : List AV → Nat → Option (List AV × List AV)
  | cs, 0 => some ([], cs)
  | [], _ + 1 => none
  | c :: cs, n + 1 => bif Nat.ble c.size (n + 1) then (match dropCh cs (n + 1 - c.size) with | some (p, r) => some (c :: p, r) | none => none) else none

/-- Parts of cells, at a place and of a size. -/
def midCh (cs : List AV) (off n : Nat) : Option (List AV × List AV × List AV) :=
  match dropCh cs off with
  | some (p, r) => match dropCh r n with
    | some (m, q) => some (p, m, q)
    | none => none
  | none => none

def allD : List AV → Bool
  | [] => true
  | .d _ _ :: r => allD r
  | _ => false

/-- The value of one cell. -/
def leafOut : AV → AV
  | .d t x => bif t.isAgg then .junk else .d t x
  | .agg _ => .junk
  | c => c

def gatherAgg (t : Ty) (cs : List AV) : AV :=
  bif allD cs then (match unleaf [] false t cs with
    | some (x, []) => .d t x
    | _ => .agg cs) else .agg cs

/-- One value out of parts. -/
def gather (t : Ty) (cs : List AV) : AV :=
  bif t.isAgg then (match cs with
    | [.d t' x] => (match castD t' t x with
      | some y => .d t y
      | none => gatherAgg t cs)
    | cs => gatherAgg t cs)
  else (match cs with
    | [c] => leafOut c
    | _ => .junk)

/-- The part of a datum at a place, of a type. -/
def subD : (t : Ty) → t.den → Nat → (u : Ty) → Option u.den
  | .pair a b, x, off, u => match (match off with | 0 => castD (.pair a b) u x | _ => none) with
    | some y => some y
    | none => bif Nat.ble a.size off then subD b x.2 (off - a.size) u else subD a x.1 off u
  | t, x, 0, u => castD t u x
  | _, _, _, _ => none

/-- A datum with another part. -/
def updD : (t : Ty) → t.den → Nat → (u : Ty) → u.den → Option t.den
  | .pair a b, x, off, u, y => match (match off with | 0 => castD u (.pair a b) y | _ => none) with
    | some z => some z
    | none => bif Nat.ble a.size off then (updD b x.2 (off - a.size) u y).map (fun z => (x.1, z)) else (updD a x.1 off u y).map (fun z => (z, x.2))
  | t, _, 0, u, y => castD u t y
  | _, _, _, _, _ => none

def szB (P : Program) (t : TypeId) (n : Nat) : Bool := match P.info? t with | some i => Nat.beq i.size n | none => false

def aggOf : TypeDesc → Bool
  | .struct _ => true
  | .array _ _ => true
  | _ => false

def tyB (P : Program) (t : TypeId) (u : Ty) : Bool :=
  szB P t u.size && (match P.underlying t with | some d => (aggOf d == u.isAgg) | none => false)

/-- A type whose values take one cell. -/
def oneB (P : Program) (t : TypeId) : Bool :=
  szB P t 1 && (match P.underlying t with | some d => !aggOf d | none => false)

def zeroOk : Ty → List Value → Option (List Value)
  | .pair a b, vs => match zeroOk a vs with | some r => zeroOk b r | none => none
  | .unit, vs => some vs
  | .int k, .int k' n :: r => bif decide (k = k') && decide (n = 0) then some r else none
  | .bool, .bool false :: r => some r
  | .str, .string s :: r => bif s.isEmpty then some r else none
  | .slice _, .slice none 0 0 :: r => some r
  | .ref _, .pointer none :: r => some r
  | .arr n k, vs => zeros n k vs
  | _, _ => none
where zeros : Nat → IntKind → List Value → Option (List Value)
  | 0, _, vs => some vs
  | n + 1, k, .int k' m :: r => bif decide (k = k') && decide (m = 0) then zeros n k r else none
  | _, _, _ => none

def sLess (x y : ByteArray) : Bool := Op.bytesLess x.toList y.toList

/-- A list of numbers with another one in a place (0 behind its end). -/
def setA (l : List Int) (i : Nat) (y : Int) : List Int := if i < l.length then l.set i y else l ++ List.replicate (i - l.length) 0 ++ [y]

/-- Whether two data are one. -/
def eqD : (t : Ty) → t.den → t.den → Bool
  | .int _, x, y => (x : Int) == y
  | .bool, x, y => (x : Bool) == y
  | .str, x, y => (x : ByteArray) == y
  | .pair a b, x, y => eqD a x.1 y.1 && eqD b x.2 y.2
  | .arr n _, x, y => (List.range n).all fun j => List.getD (x : List Int) j 0 == List.getD (y : List Int) j 0
  | _, _, _ => false

structure Env where
  P : Program
  N : Nat
  ty : TypeId → Option Ty
  /-- two structs of this type are held against each other as data of this type are -/
  eqv : TypeId → Ty → Bool
  /-- calls of this function leave all that was there as it was -/
  q : FuncId → Bool
  H : FuncId → List AV → St → (AV → St → Prop) → Prop

def evalO (s : St) : Operand → AV
  | .tmp t => lk s.sl t
  | .const v => constAV v
  | .func f => .fn f [] []
  | .global _ => .junk

def binX (E : Env) (op : BinOp) (t : TypeId) (a b : AV) (ret : AV → Prop) : Prop :=
  match a, b with
  | .d (.int k) x, .d (.int k') y => bif decide (k = k') then (match op with
      | .add => ret (.d (.int k) (k.wrap ((x : Int) + y)))
      | .sub => ret (.d (.int k) (k.wrap ((x : Int) - y)))
      | .mul => ret (.d (.int k) (k.wrap ((x : Int) * y)))
      | .quo => (y : Int) ≠ 0 ∧ ret (.d (.int k) (k.wrap (Int.tdiv x y)))
      | .rem => (y : Int) ≠ 0 ∧ ret (.d (.int k) (Int.tmod x y))
      | .eql => ret (.d .bool ((x : Int) == y))
      | .neq => ret (.d .bool ((x : Int) != y))
      | .lss => ret (.d .bool (decide ((x : Int) < y)))
      | .leq => ret (.d .bool (decide ((x : Int) ≤ y)))
      | .gtr => ret (.d .bool (decide ((x : Int) > y)))
      | .geq => ret (.d .bool (decide ((x : Int) ≥ y)))
      | _ => False) else False
  | .d .str x, .d .str y => (match op with
      | .eql => ret (.d .bool ((x : ByteArray) == y))
      | .neq => ret (.d .bool (!((x : ByteArray) == y)))
      | .lss => ret (.d .bool (sLess x y))
      | .leq => ret (.d .bool (sLess x y || (x : ByteArray) == y))
      | .gtr => ret (.d .bool (!(sLess x y || (x : ByteArray) == y)))
      | .geq => ret (.d .bool (!sLess x y))
      | _ => False)
  | .d .bool x, .d .bool y => (match op, E.P.underlying t with
    | .eql, some .bool => ret (.d .bool ((x : Bool) == y))
    | .neq, some .bool => ret (.d .bool (!((x : Bool) == y)))
    | _, _ => False)
  | .d (.ref _) o, .raw (.pointer none) => (match op, E.P.underlying t with
    | .eql, some (.pointer _) => ret (.d .bool (Option.isNone o))
    | .neq, some (.pointer _) => ret (.d .bool (!(Option.isNone o)))
    | _, _ => False)
  | .d (.slice _) xs, .raw (.slice none 0 0) => (match op, E.P.underlying t with
    | .eql, some (.slice _) => ∀ b : Bool, (b = true → xs = []) → ret (.d .bool b)
    | .neq, some (.slice _) => ∀ b : Bool, (b = true → xs = []) → ret (.d .bool (!b))
    | _, _ => False)
  | .raw (.slice none 0 0), .raw (.slice none 0 0) => (match op, E.P.underlying t with
    | .eql, some (.slice _) => ret (.d .bool true)
    | .neq, some (.slice _) => ret (.d .bool false)
    | _, _ => False)
  | .ptr _ _, .raw (.pointer none) => (match op, E.P.underlying t with
    | .eql, some (.pointer _) => ret (.d .bool false)
    | .neq, some (.pointer _) => ret (.d .bool true)
    | _, _ => False)
  | a, b => match E.ty t with
    | some u => bif u.isAgg && E.eqv t u then (match toData [] false u a, toData [] false u b with
      | some x, some y => (match op with
        | .eql => ret (.d .bool (eqD u x y))
        | .neq => ret (.d .bool (!(eqD u x y)))
        | _ => False)
      | _, _ => False) else False
    | none => False

def fieldOf (P : Program) (t : TypeId) (f : Nat) : Option Field :=
  match P.underlying t with
  | some (.struct fs) => fs[f]?
  | _ => none

def nzB (P : Program) (t : TypeId) : Bool := match P.info? t with | some i => Nat.blt 0 i.size | none => false

def elemOfSlice (P : Program) (t : TypeId) : Option TypeId :=
  match P.underlying t with
  | some (.slice e) => some e
  | _ => none

def St.setL (s : St) (id : Nat) (o : AObj) : St := ⟨s.sl, s.L.set id o, s.lock⟩
def St.addL (s : St) (o : AObj) : St := ⟨s.sl, s.L ++ [o], s.lock⟩

/-- Index i of a list of n. -/
abbrev In (i : Int) (n : Nat) : Prop := 0 ≤ i ∧ i < (n : Int)

def rd {e : Ty} (xs : List e.den) (i : Int) : e.den := xs.getD i.toNat e.dflt

/-- Loads. -/
def loadX (E : Env) (t : TypeId) (a : AV) (s : St) (ret : AV → Prop) : Prop :=
  match a with
  | .ptr id off => match s.L[id]? with
    | some (.cells cs) => match E.ty t with
      | some u => bif tyB E.P t u then (match midCh cs off u.size with
        | some (_, m, _) => ret (gather u m)
        | none => False) else False
      | none => bif oneB E.P t then (match midCh cs off 1 with
        | some (_, [c], _) => ret (leafOut c)
        | _ => False) else False
    | _ => False
  | .imp u x => bif tyB E.P t u then ret (.d u x) else False
  | .pix id off n k i => bif oneB E.P t then (match s.L[id]? with
    | some (.cells cs) => match midCh cs off n with
      | some (_, [.d (.arr n' k') l], _) => bif Nat.beq n n' && decide (k = k') then ret (.d (.int k) (List.getD (l : List Int) i.toNat 0)) else False
      | _ => False
    | _ => False) else False
  | .rowp id ver e i off => match E.ty t with
    | some u => bif tyB E.P t u then (match rowData s.L id ver e with
      | some xs => match subD e (rd xs i) off u with
        | some x => ret (.d u x)
        | none => False
      | none => False) else False
    | none => False
  | _ => False

def lockedB (s : St) (id : Nat) : Bool := s.lock.any (Nat.beq id)

/-- What takes one cell. -/
def oneAV (L : List AObj) : AV → Bool
  | .d _ _ => true
  | .raw v => v.oneCell'
  | .own id ver _ => match L[id]? with | some (.row cv _ _ _) => Nat.beq ver cv | _ => false
  | .ptr _ _ => true
  | .imp _ _ => true
  | .fn _ _ _ => true
  | .mp id => match L[id]? with | some (.map _ _ _) => true | _ => false
  | _ => false

def fitsB (u : Ty) : AV → Bool
  | .d u' _ => decide (u' = u)
  | .agg m => u.isAgg && Nat.beq (m.map AV.size).sum u.size
  | _ => !u.isAgg

def fits1 : AV → Bool
  | .d _ _ => false
  | .agg _ => false
  | _ => true

def storeX (E : Env) (t : TypeId) (a v : AV) (s : St) (K : St → Prop) : Prop :=
  match a with
  | .ptr id off => bif lockedB s id then False else match s.L[id]? with
    | some (.cells cs) => match E.ty t with
      | some u => bif tyB E.P t u && fitsB u v && v.parts.all (oneAV s.L) then (match midCh cs off u.size with
        | some (p, _, q) => K (s.setL id (.cells (p ++ (v.parts ++ q))))
        | none => False) else False
      | none => bif oneB E.P t && fits1 v && oneAV s.L v then (match midCh cs off 1 with
        | some (p, _, q) => K (s.setL id (.cells (p ++ ([v] ++ q))))
        | none => False) else False
    | _ => False
  | .pix id off n k i => bif lockedB s id then False else bif oneB E.P t then (match s.L[id]? with
    | some (.cells cs) => match midCh cs off n with
      | some (p, [.d (.arr n' k') l], q) => bif Nat.beq n n' && decide (k = k') then (match v with
        | .d (.int k'') y => bif decide (k = k'') then K (s.setL id (.cells (p ++ ([.d (.arr n' k') (setA (l : List Int) i.toNat y)] ++ q)))) else False
        | _ => False) else False
      | _ => False
    | _ => False) else False
  | .rowp id ver e i off => bif lockedB s id then False else match E.ty t with
    | some u => bif tyB E.P t u then (match s.L[id]? with
      | some (.row cv T e' xs) => bif Nat.beq ver cv && decide (e = e') then (match toData [] false u v with
        | some y => match updD e' (rd xs i) off u y with
          | some z => K (s.setL id (.row cv T e' (xs.set i.toNat z)))
          | none => False
        | none => False) else False
      | _ => False) else False
    | none => False
  | _ => False

def indexX (E : Env) (t : TypeId) (x ix : AV) (_s : St) (ret : AV → Prop) : Prop :=
  match ix with
  | .d (.int _) i => (match elemOfSlice E.P t with
    | some T => (match x with
      | .d (.slice e) xs => bif szB E.P T e.size then In i (List.length xs) ∧ ret (.imp e (rd xs i)) else False
      | .own id ver e => bif szB E.P T e.size then (match rowData _s.L id ver e with
        | some xs => In i (List.length xs) ∧ ret (.rowp id ver e i 0)
        | none => False) else False
      | .sub id ver e lo hi => bif szB E.P T e.size then (match rowData _s.L id ver e with
        | some _ => (0 ≤ (i : Int) ∧ (i : Int) < hi - lo) ∧ ret (.rowp id ver e (lo + (i : Int)) 0)
        | none => False) else False
      | _ => False)
    | none => match P_arr E.P t with
      | some (n, T) => bif szB E.P T 1 && Nat.blt 1 n then (match x with
        | .ptr id off => (match _s.L[id]? with
          | some (.cells cs) => match midCh cs off n with
            | some (_, [.d (.arr n' k) _], _) => bif Nat.beq n n' then In i n ∧ ret (.pix id off n k i) else False
            | _ => False
          | _ => False)
        | .imp (.arr n' k) l => bif Nat.beq n n' then In i n ∧ ret (.imp (.int k) (List.getD (l : List Int) i.toNat 0)) else False
        | _ => False) else False
      | none => False)
  | _ => False
where P_arr (P : Program) (t : TypeId) : Option (Nat × TypeId) :=
  match P.underlying t with
  | some (.array n e) => some (n, e)
  | _ => none

def sliceDOf (P : Program) (ty : TypeId → Option Ty) (t : TypeId) : Option (TypeId × Ty) :=
  match elemOfSlice P t with
  | some T => match ty T with
    | some e => bif szB P T e.size && Nat.blt 0 e.size then some (T, e) else none
    | none => none
  | none => none

def maxRow : Nat := 2147483648

def bytesB (P : Program) (t : TypeId) : Bool := match P.info? t with | some i => Nat.ble i.bytes 65536 | none => false

/-- Both of a row's zeros: of its type, and of the datum's. -/
def zeroB (P : Program) (t : TypeId) (u : Ty) : Bool :=
  match P.info? t with
  | some i => match i.zero with
    | some z => (match zeroOk u z.cells.toList with | some [] => true | _ => false)
    | none => false
  | none => false

/-- The elements of a slice that is read. -/
def srcX (L : List AObj) (e : Ty) : AV → Option (List e.den)
  | .d (.slice e') ys => castL e' e ys
  | .own id ver _ => rowData L id ver e
  | .sub id ver e' lo hi => bif decide (e' = e) then (rowData L id ver e).map fun xs => List.take (hi.toNat - lo.toNat) (List.drop lo.toNat xs) else none
  | .raw (.slice none 0 0) => some []
  | _ => none

def appendX (E : Env) (t : TypeId) (b x : AV) (s : St) (ret : AV → St → Prop) : Prop :=
  match sliceDOf E.P E.ty t with
  | some (T, e) => bif bytesB E.P T && zeroB E.P T e then (match srcX s.L e x with
    | some ys => (match b with
      | .own id ver _ => bif lockedB s id then False else (match s.L[id]? with
        | some (.row cv T' e' xs) => bif Nat.beq ver cv && Nat.beq T T' then (match castL e' e xs with
          | some xs => xs.length + List.length ys ≤ maxRow ∧ ret (.own id (cv + 1) e) (s.setL id (.row (cv + 1) T e (xs ++ ys)))
          | none => False) else False
        | _ => False)
      | .raw (.slice none 0 0) => List.length ys ≤ maxRow ∧ ret (.own s.L.length 0 e) (s.addL (.row 0 T e ys))
      | _ => False)
    | none => False) else False
  | none => False

def AV.lent : AV → List Nat
  | .agg cs => cs.filterMap AV.rowId
  | a => match a.rowId with | some id => [id] | none => []

def goneAll (L : List AObj) : List Nat → List AObj
  | [] => L
  | id :: r => goneAll (L.set id .gone) r

/-- Rows, none of them locked, that may be let go. -/
def freeB (s : St) (ids : List Nat) : Bool := ids.all fun i => !lockedB s i && (match s.L[i]? with | some (.row _ _ _ _) => true | _ => false)

/-- A datum out of an abstract value; the rows that it leans on are let go. -/
def takeD (s : St) (t : Ty) (a : AV) : Option (t.den × St) :=
  match toData s.L false t a with
  | some x => bif freeB s a.lent then some (x, ⟨s.sl, goneAll s.L a.lent, s.lock⟩) else none
  | none => none

/-! ### Maps -/
/-- What lies at a key. -/
def mget (k : Ty) {β : Type} : List (k.den × β) → k.den → Option β
  | [], _ => none
  | e :: r, x => bif eqD k x e.1 then some e.2 else mget k r x

/-- Another value at a key. -/
def mput (k : Ty) {β : Type} : List (k.den × β) → k.den → β → List (k.den × β)
  | [], x, y => [(x, y)]
  | e :: r, x, y => bif eqD k x e.1 then (x, y) :: r else e :: mput k r x y

/-- A key is taken away. -/
def mdel (k : Ty) {β : Type} : List (k.den × β) → k.den → List (k.den × β)
  | [], _ => []
  | e :: r, x => bif eqD k x e.1 then r else e :: mdel k r x

/-- A type of keys. -/
def keyB (E : Env) (t : TypeId) (k : Ty) : Bool :=
  match k, E.P.underlying t with
  | .int i, some (.int i') => decide (i = i')
  | .str, some .string => true
  | .bool, some .bool => true
  | .pair a b, some (.struct _) => (Ty.pair a b).flat && E.eqv t (.pair a b)
  | _, _ => false

/-- A type's zero is the datum's, and a value like it. -/
def zeroV (P : Program) (t : TypeId) (u : Ty) : Bool :=
  zeroB P t u && (match P.info? t with
  | some i => match i.zero with
    | some z => aggB z == u.isAgg
    | none => false
  | none => false)

/-- A map's type, of these. -/
def mapIs (E : Env) (t : TypeId) (k v : Ty) : Bool :=
  match E.P.underlying t with
  | some (.map kT vT) => (match E.ty kT, E.ty vT with
    | some k', some v' => decide (k' = k) && decide (v' = v) && keyB E kT k && zeroV E.P vT v
    | _, _ => false)
  | _ => false

def mapTy (E : Env) (t : TypeId) : Option (Ty × Ty) :=
  match E.P.underlying t with
  | some (.map kT vT) => (match E.ty kT, E.ty vT with
    | some k, some v => bif keyB E kT k then some (k, v) else none
    | _, _ => none)
  | _ => none

/-- Who goes over a map that turns is let go. -/
def dropIters (s : St) (mid : Nat) : Option St :=
  (fun ids : List Nat => bif ids.all (fun i => !lockedB s i) then some ⟨s.sl, goneAll s.L ids, s.lock⟩ else none)
    ((List.range s.L.length).filter fun i => match s.L[i]? with | some (.iter m _ _ _ _) => Nat.beq m mid | _ => false)

def lookupX (E : Env) (t : TypeId) (m key : AV) (ok : Bool) (s : St) (ret : AV → Prop) : Prop :=
  match m with
  | .mp id => (match s.L[id]? with
    | some (.map k v es) => bif mapIs E t k v then (match toData [] false k key with
      | some x => bif ok then ret (.tup [.d v ((mget k es x).getD v.dflt), .d .bool (mget k es x).isSome]) else ret (.d v ((mget k es x).getD v.dflt))
      | none => False) else False
    | _ => False)
  | _ => False

def mapUpdateX (E : Env) (t : TypeId) (m key val : AV) (s : St) (K : St → Prop) : Prop :=
  match m with
  | .mp id => bif lockedB s id then False else (match s.L[id]? with
    | some (.map k v es) => bif mapIs E t k v then (match toData [] false k key, takeD s v val with
      | some x, some (y, s') => (match dropIters s' id with
        | some s'' => K (s''.setL id (.map k v (mput k es x y)))
        | none => False)
      | _, _ => False) else False
    | _ => False)
  | _ => False

def deleteX (E : Env) (t : TypeId) (m key : AV) (s : St) (K : St → Prop) : Prop :=
  match m with
  | .mp id => bif lockedB s id then False else (match s.L[id]? with
    | some (.map k v es) => bif mapIs E t k v then (match toData [] false k key with
      | some x => (match dropIters s id with
        | some s'' => K (s''.setL id (.map k v (mdel k es x)))
        | none => False)
      | none => False) else False
    | _ => False)
  | _ => False

def nextX (it : AV) (s : St) (ret : AV → St → Prop) : Prop :=
  match it with
  | .iter id => bif lockedB s id then False else (match s.L[id]? with
    | some (.iter mid k v todo _) => cond (List.isEmpty todo) (ret (.tup [.d .bool false]) s)
        (∀ i : Nat, i < List.length todo → ret (.tup [.d .bool true, .d k (List.getD todo i (k.dflt, v.dflt)).1, .d v (List.getD todo i (k.dflt, v.dflt)).2]) (s.setL id (.iter mid k v (List.eraseIdx todo i) (some (List.getD todo i (k.dflt, v.dflt))))))
    | _ => False)
  | _ => False

def entryX (it : AV) (s : St) (ret : AV → Prop) : Prop :=
  match it with
  | .iter id => (match s.L[id]? with
    | some (.iter _ k v _ (some x)) => ret (.tup [.d k x.1, .d v x.2])
    | _ => False)
  | _ => False

/-- The elements of a slice that a literal lays. -/
def elemsX (e : Ty) : List (Nat × AV) → List e.den → St → Option (List e.den × St)
  | [], xs, s => some (xs, s)
  | (i, a) :: r, xs, s => match takeD s e a with
    | some (x, s') => bif Nat.blt i xs.length then elemsX e r (xs.set i x) s' else none
    | none => none

/-- Where the parts of a struct or array lie, and their sizes. -/
def placesX (P : Program) (t : TypeId) (n : Nat) : Option (List (Nat × Nat)) :=
  match P.underlying t with
  | some (.struct fs) => fs.toList.mapM fun f => (P.info? f.type).map fun i => (f.offset, i.size)
  | _ => none

def buildGo (L : List AObj) (pl : List (Nat × Nat)) : List (Nat × AV) → List AV → Option (List AV)
  | [], cs => some cs
  | (i, a) :: r, cs => match pl[i]? with
    | some (off, n) => bif Nat.beq (a.parts.map AV.size).sum n && a.parts.all (oneAV L) then (match a with
      | .junk => none
      | .tup _ => none
      | a => match midCh cs off n with
        | some (p, _, q) => buildGo L pl r (p ++ (a.parts ++ q))
        | none => none) else none
    | none => none

def buildX (E : Env) (t : TypeId) (ps : List (Nat × AV)) (L : List AObj) (ret : AV → Prop) : Prop :=
  match E.ty t with
  | some u => bif tyB E.P t u && zeroB E.P t u && u.isAgg then (match placesX E.P t u.size with
    | some pl => match buildGo L pl ps (zeroCh u) with
      | some cs => ret (gather u cs)
      | none => False
    | none => False) else False
  | none => False

end Go.Proofs.Ytodjomdnlcledaa.X
