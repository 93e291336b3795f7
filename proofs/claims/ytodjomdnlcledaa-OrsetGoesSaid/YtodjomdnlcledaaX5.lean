/- The walk over operations, regions and code. -/
import Derived.Test.YtodjomdnlcledaaX4
namespace Go.Proofs.Ytodjomdnlcledaa.X
open Go Go.RowKit
set_option linter.unusedVariables false
set_option linter.unusedSimpArgs false

def putX (E : Env) (dst : Option Tmp) (K : St → Prop) (a : AV) (s : St) : Prop :=
  match dst with
  | none => K s
  | some d => bif Nat.blt d E.N then K (s.put d a) else False

/-- How many operands are laid in a slice by a literal. -/
def partsX (s : St) (ps : Array (Nat × Operand)) : List (Nat × AV) := ps.toList.map fun p => (p.1, evalO s p.2)

def tupAt : List AV → Nat → Option AV
  | [], _ => none
  | a :: _, 0 => some a
  | _ :: r, n + 1 => tupAt r n

def intsMax (k : IntKind) : List AV → Option (List Int)
  | [] => some []
  | .d (.int k') x :: r => bif decide (k = k') then (intsMax k r).map (fun l => (x : Int) :: l) else none
  | _ => none

def callBuiltin (E : Env) (b : Builtin) (c : Call) (s : St) (ret : AV → St → Prop) : Prop :=
  match b, c.args.toList.map (evalO s), c.argTypes.toList with
  | .len, [x], [t] => (match x with
    | .d (.slice _) xs => (match elemOfSlice E.P t with | some _ => ret (.d (.int .i64) (List.length xs : Int)) s | none => False)
    | .own id ver e => (match elemOfSlice E.P t, rowData s.L id ver e with | some _, some xs => ret (.d (.int .i64) (List.length xs : Int)) s | _, _ => False)
    | .sub id ver e lo hi => (match elemOfSlice E.P t, rowData s.L id ver e with | some _, some _ => ret (.d (.int .i64) ((hi - lo : Int))) s | _, _ => False)
    | .raw (.slice none 0 0) => (match elemOfSlice E.P t with | some _ => ret (.d (.int .i64) (0 : Int)) s | none => False)
    | .d .str x => (match E.P.underlying t with | some .string => ret (.d (.int .i64) (ByteArray.size x : Int)) s | _ => False)
    | .d (.arr n _) _ => (match E.P.underlying t with | some (.array n' _) => bif Nat.beq n n' then ret (.d (.int .i64) (n : Int)) s else False | _ => False)
    | .mp id => (match E.P.underlying t, s.L[id]? with | some (.map _ _), some (.map _ _ es) => ret (.d (.int .i64) (List.length es : Int)) s | _, _ => False)
    | _ => False)
  | .clear, [x], [t] => (match x with
    | .sub id ver e lo hi => bif lockedB s id then False else (match sliceDOf E.P E.ty t, s.L[id]? with
      | some (T, e1), some (.row cv T' e' xs) => bif Nat.beq ver cv && decide (e = e') && decide (e1 = e') && zeroB E.P T e' then
          ret (.tup []) (s.setL id (.row cv T' e' (List.take lo.toNat xs ++ List.replicate (hi.toNat - lo.toNat) e'.dflt ++ List.drop hi.toNat xs))) else False
      | _, _ => False)
    | _ => False)
  | .delete, [m, k], t :: _ => deleteX E t m k s (ret (.tup []))
  | .append, [b, x], [t, t'] => bif Nat.beq t t' then appendX E t b x s ret else False
  | .max, a :: r, _ => (match a with
    | .d (.int k) x => (match intsMax k r with | some l => ret (.d (.int k) (l.foldl (fun x y => if y > x then y else x) (x : Int))) s | none => False)
    | _ => False)
  | .min, a :: r, _ => (match a with
    | .d (.int k) x => (match intsMax k r with | some l => ret (.d (.int k) (l.foldl (fun x y => if y < x then y else x) (x : Int))) s | none => False)
    | _ => False)
  | _, _, _ => False

/-- A bound of a cut; none: what is there by itself. -/
def boundX (a : Option AV) (dflt : Int) (ret : Int → Prop) : Prop :=
  match a with
  | none => ret dflt
  | some (.d (.int _) x) => ret x
  | _ => False

def sliceX (E : Env) (t : TypeId) (x : AV) (lo hi mx : Option AV) (s : St) (ret : AV → St → Prop) : Prop :=
  match x with
  | .d (.slice e) xs => (match elemOfSlice E.P t, mx with
    | some T, none => bif szB E.P T e.size then
        boundX lo 0 fun l => boundX hi (List.length xs : Int) fun h =>
          (0 ≤ l ∧ l ≤ h ∧ h ≤ (List.length xs : Int)) ∧ ret (.d (.slice e) (List.take (h - l).toNat (List.drop l.toNat xs))) s
        else False
    | _, _ => False)
  | .own id ver e => (match elemOfSlice E.P t, mx, rowData s.L id ver e with
    | some T, none, some xs => bif szB E.P T e.size then
        boundX lo 0 fun l => boundX hi (List.length xs : Int) fun h =>
          (0 ≤ l ∧ l ≤ h ∧ h ≤ (List.length xs : Int)) ∧ ret (.sub id ver e l h) s
        else False
    | _, _, _ => False)
  | .d .str x => (match E.P.underlying t, mx with
    | some .string, none => boundX lo 0 fun l => boundX hi (ByteArray.size x : Int) fun h =>
          (0 ≤ l ∧ l ≤ h ∧ h ≤ (ByteArray.size x : Int)) ∧ ret (.d .str (ByteArray.extract x l.toNat h.toNat)) s
    | _, _ => False)
  | _ => False

def opX (E : Env) (o : Oper) (s : St) (K : St → Prop) : Prop :=
  match o.op with
  | .move x | .assign x => (match x with
    | .const (.slice none 0 0) => (match sliceDOf E.P E.ty o.type with
      | some (T, e) => putX E o.dst K (.own s.L.length 0 e) (s.addL (.row 0 T e []))
      | none => False)
    | x => putX E o.dst K (evalO s x) s)
  | .pick c a b => (match evalO s c with
    | .d .bool x => cond x (putX E o.dst K (evalO s a) s) (putX E o.dst K (evalO s b) s)
    | _ => False)
  | .alloc T => (match E.ty T with
    | some u => bif tyB E.P T u && zeroB E.P T u then putX E o.dst K (.ptr s.L.length 0) (s.addL (.cells (zeroCh u))) else False
    | none => (match E.P.info? T with
      | some i => (match i.zero with
        | some z => bif Nat.beq z.cells.size 1 && z.oneCell' then putX E o.dst K (.ptr s.L.length 0) (s.addL (.cells [.raw z])) else False
        | none => False)
      | none => False))
  | .box _ x => (match evalO s x with
    | .junk => False
    | .tup _ => False
    | a => bif a.parts.all (oneAV s.L) then putX E o.dst K (.ptr s.L.length 0) (s.addL (.cells a.parts)) else False)
  | .build t ps => buildX E t (partsX s ps) s.L fun a => putX E o.dst K a s
  | .buildSlice t n ps => (match sliceDOf E.P E.ty t with
    | some (T, e) => bif zeroB E.P T e && Nat.ble (n * e.size) 65536 then (match elemsX e (partsX s ps) (List.replicate n e.dflt) s with
      | some (xs, s') => putX E o.dst K (.own s'.L.length 0 e) (s'.addL (.row 0 T e xs))
      | none => False) else False
    | none => False)
  | .load t a => loadX E t (evalO s a) s fun v => putX E o.dst K v s
  | .store t a v => storeX E t (evalO s a) (evalO s v) s fun s' => putX E o.dst K .junk s'
  | .nilCheck x => (match evalO s x with
    | .d (.ref t) o' => (match (o' : Option t.den) with | some y => putX E o.dst K (.imp t y) s | none => False)
    | .ptr id off => putX E o.dst K (.ptr id off) s
    | .imp t y => putX E o.dst K (.imp t y) s
    | .rowp id ver e i off => (match rowData s.L id ver e with | some _ => putX E o.dst K (.rowp id ver e i off) s | none => False)
    | _ => False)
  | .binOp op t x y _ => binX E op t (evalO s x) (evalO s y) fun v => putX E o.dst K v s
  | .unOp op _ x => (match op, evalO s x with
    | .not, .d .bool b => putX E o.dst K (.d .bool (!(b : Bool))) s
    | .neg, .d (.int k) n => putX E o.dst K (.d (.int k) (k.wrap (0 - (n : Int)))) s
    | _, _ => False)
  | .convert src dst x => (match E.P.underlying src, E.P.underlying dst, evalO s x with
    | some (.int _), some (.int k), .d (.int _) n => putX E o.dst K (.d (.int k) (k.wrap (n : Int))) s
    | some .string, some .string, .d .str x => putX E o.dst K (.d .str x) s
    | _, _, _ => False)
  | .makeFunc f fs cs => (match f with
    | .func f => putX E o.dst K (.fn f (fs.toList.map (evalO s)) (cs.toList.map (evalO s))) s
    | _ => False)
  | .makeSlice t ln cp => (match sliceDOf E.P E.ty t, evalO s ln, evalO s cp with
    | some (T, e), .d (.int _) n, .d (.int _) c => bif bytesB E.P T && zeroB E.P T e then
        (0 ≤ (n : Int) ∧ (n : Int) ≤ c ∧ (c : Int) ≤ 2147483648) ∧ putX E o.dst K (.own s.L.length 0 e) (s.addL (.row 0 T e (List.replicate (Int.toNat n) e.dflt))) else False
    | _, _, _ => False)
  | .slice t x lo hi mx => sliceX E t (evalO s x) (lo.map (evalO s)) (hi.map (evalO s)) (mx.map (evalO s)) s fun v s' => putX E o.dst K v s'
  | .fieldAddr t x f => (match fieldOf E.P t f with
    | some fl => (match evalO s x with
      | .ptr id off => bif nzB E.P fl.type then putX E o.dst K (.ptr id (off + fl.offset)) s else False
      | .rowp id ver e i off => bif nzB E.P fl.type then (match rowData s.L id ver e with | some _ => putX E o.dst K (.rowp id ver e i (off + fl.offset)) s | none => False) else False
      | .imp u x => (match E.ty fl.type with
        | some v => bif nzB E.P fl.type then (match subD u x fl.offset v with
          | some y => putX E o.dst K (.imp v y) s
          | none => False) else False
        | none => False)
      | _ => False)
    | none => False)
  | .field t x f => (match fieldOf E.P t f with
    | some fl => (match E.ty fl.type with
      | some v => bif tyB E.P fl.type v then (match evalO s x with
        | .d u x => bif u.isAgg then (match subD u x fl.offset v with
          | some y => putX E o.dst K (.d v y) s
          | none => False) else False
        | _ => False) else False
      | none => False)
    | none => False)
  | .indexAddr t x ix => indexX E t (evalO s x) (evalO s ix) s fun v => putX E o.dst K v s
  | .index t x ix => (match E.P.underlying t, evalO s x, evalO s ix with
    | some (.array n T), .d (.arr n' k) l, .d (.int _) i => bif Nat.beq n n' && oneB E.P T then In i n ∧ putX E o.dst K (.d (.int k) (List.getD (l : List Int) (Int.toNat i) 0)) s else False
    | _, _, _ => False)
  | .makeMap t r => (match mapTy E t, r.map (evalO s) with
    | some (k, v), none => putX E o.dst K (.mp s.L.length) (s.addL (.map k v []))
    | some (k, v), some (.d (.int _) _) => putX E o.dst K (.mp s.L.length) (s.addL (.map k v []))
    | _, _ => False)
  | .lookup t m k ok => lookupX E t (evalO s m) (evalO s k) ok s fun v => putX E o.dst K v s
  | .mapUpdate t m k v => mapUpdateX E t (evalO s m) (evalO s k) (evalO s v) s fun s' => putX E o.dst K .junk s'
  | .insert t m k v => mapUpdateX E t (evalO s m) (evalO s k) (evalO s v) s fun s' => putX E o.dst K .junk s'
  | .range t m => (match evalO s m, E.P.underlying t with
    | .mp id, some (.map _ _) => (match s.L[id]? with
      | some (.map k v es) => putX E o.dst K (.iter s.L.length) (s.addL (.iter id k v es none))
      | _ => False)
    | _, _ => False)
  | .next it isS => bif isS then False else nextX (evalO s it) s fun v s' => putX E o.dst K v s'
  | .entry it => entryX (evalO s it) s fun v => putX E o.dst K v s
  | .extract x i => (match evalO s x with
    | .tup as => (match tupAt as i with
      | some a => putX E o.dst K a s
      | none => False)
    | _ => False)
  | .call c => (match c.callee with
    | .builtin b => callBuiltin E b c s fun v s' => putX E o.dst K v s'
    | .value f => (match evalO s f with
      | .fn f fs cs => E.H f (fs ++ c.args.toList.map (evalO s) ++ cs) s fun r s' => putX E o.dst K r s'
      | _ => False)
    | .invoke _ _ => False)
  | _ => False

/-- The operation's guard: what it hangs on; then the operation, or none. -/
def guardX (ops : Array Oper) (o : Oper) (s : St) (yes no : St → Prop) : Prop :=
  match o.guard with
  | none => yes s
  | some (j, want) => match (ops[j]?).bind (·.dst) with
    | some d => match lk s.sl d with
      | .d .bool b => cond want (cond (b : Bool) (yes (s.put d (.d .bool true))) (no (s.put d (.d .bool false)))) (cond (b : Bool) (no (s.put d (.d .bool true))) (yes (s.put d (.d .bool false))))
      | .raw v => (match v with | .bool _ => False | _ => no s)
      | _ => False
    | none => False

def regX (E : Env) (ops : Array Oper) : List Nat → St → (St → Prop) → Prop
  | [], s, K => K s
  | i :: r, s, K => match ops[i]? with
    | some o => guardX ops o s (fun s => opX E o s (fun s' => regX E ops r s' K)) (fun s => putX E o.dst (fun s' => regX E ops r s' K) (.raw undef) s)
    | none => False

/-- The slots that code writes. -/
def writes : Code → List Nat
  | .region _ ops _ => ops.toList.filterMap (·.dst)
  | .seq a b => writes a ++ writes b
  | .cond _ a b => writes a ++ writes b
  | .block _ a => writes a
  | .loop a => writes a
  | .scope a => writes a
  | _ => []

/-! ### What a state looks like where ways meet -/
inductive SK where
  | dat (t : Ty)
  | own (id ver : Nat) (e : Ty)
  | mp (id : Nat)
  | iter (id : Nat)
  | ptr (id off : Nat)

inductive OK where
  | row (ver : Nat) (T : TypeId) (e : Ty)
  | cells (ks : List SK)
  | map (k v : Ty)
  | iter (mid : Nat) (k v : Ty)

/-- Slots and objects that may have turned; how many objects there are. -/
structure Shape where
  sl : List (Nat × SK)
  ob : List (Nat × OK)
  n : Nat

abbrev SK.den : SK → Type
  | .dat t => t.den
  | _ => Unit

abbrev SKs.den : List SK → Type
  | [] => Unit
  | k :: ks => k.den × SKs.den ks

abbrev OK.den : OK → Type
  | .row _ _ e => List e.den
  | .cells ks => SKs.den ks
  | .map k v => List (k.den × v.den)
  | .iter _ k v => List (k.den × v.den)

abbrev Sls.den : List (Nat × SK) → Type
  | [] => Unit
  | p :: r => p.2.den × Sls.den r

abbrev Obs.den : List (Nat × OK) → Type
  | [] => Unit
  | p :: r => p.2.den × Obs.den r

abbrev Shape.den (h : Shape) : Type := Sls.den h.sl × Obs.den h.ob

def SK.inj : (k : SK) → k.den → AV
  | .dat t, x => .d t x
  | .own id ver e, _ => .own id ver e
  | .mp id, _ => .mp id
  | .iter id, _ => .iter id
  | .ptr id off, _ => .ptr id off

def SK.proj (L : List AObj) : (k : SK) → AV → Option k.den
  | .dat t, a => toData [] false t a
  | .own id _ e, a => match a with
    | .own id' ver' e' => bif Nat.beq id id' && decide (e = e') then (match L[id]? with
      | some (.row cv _ _ _) => bif Nat.beq ver' cv then some () else none
      | _ => none) else none
    | _ => none
  | .mp id, a => match a with | .mp id' => bif Nat.beq id id' then some () else none | _ => none
  | .iter id, a => match a with | .iter id' => bif Nat.beq id id' then some () else none | _ => none
  | .ptr id off, a => match a with | .ptr id' off' => bif Nat.beq id id' && Nat.beq off off' then some () else none | _ => none

def SKs.inj : (ks : List SK) → SKs.den ks → List AV
  | [], _ => []
  | k :: ks, x => k.inj x.1 :: SKs.inj ks x.2

/-- Of a part of an object. -/
def SK.projC (L : List AObj) : (k : SK) → AV → Option k.den
  | .dat t, a => headD [] t a
  | .own id ver e, a => SK.proj L (.own id ver e) a
  | .mp id, a => SK.proj L (.mp id) a
  | .iter id, a => SK.proj L (.iter id) a
  | .ptr id off, a => SK.proj L (.ptr id off) a

def SKs.proj (L : List AObj) : (ks : List SK) → List AV → Option (SKs.den ks)
  | [], [] => some ()
  | k :: ks, a :: as => match k.projC L a, SKs.proj L ks as with
    | some x, some y => some (x, y)
    | _, _ => none
  | _, _ => none

def OK.inj : (k : OK) → k.den → AObj
  | .row ver T e, xs => .row ver T e xs
  | .cells ks, x => .cells (SKs.inj ks x)
  | .map k v, es => .map k v es
  | .iter mid k v, td => .iter mid k v td none

def castE (k v k' v' : Ty) (x : List (k.den × v.den)) : Option (List (k'.den × v'.den)) :=
  if h : k = k' ∧ v = v' then some (by obtain ⟨h1, h2⟩ := h; subst h1; subst h2; exact x) else none

def OK.proj (L : List AObj) : (k : OK) → AObj → Option k.den
  | .row _ T e, o => match o with
    | .row _ T' e' xs => bif Nat.beq T T' then castL e' e xs else none
    | _ => none
  | .cells ks, o => match o with
    | .cells cs => SKs.proj L ks cs
    | _ => none
  | .map k v, o => match o with
    | .map k' v' es => castE k' v' k v es
    | _ => none
  | .iter mid k v, o => match o with
    | .iter mid' k' v' td _ => bif Nat.beq mid mid' then castE k' v' k v td else none
    | _ => none

def Sls.proj (s : St) : (l : List (Nat × SK)) → Option (Sls.den l)
  | [] => some ()
  | p :: r => match p.2.proj s.L (lk s.sl p.1), Sls.proj s r with
    | some x, some y => some (x, y)
    | _, _ => none

def Obs.proj (s : St) : (l : List (Nat × OK)) → Option (Obs.den l)
  | [] => some ()
  | p :: r => match (s.L[p.1]?).bind (p.2.proj s.L), Obs.proj s r with
    | some x, some y => some (x, y)
    | _, _ => none

def Sls.inj : (l : List (Nat × SK)) → Sls.den l → List (Nat × AV)
  | [], _ => []
  | p :: r, x => (p.1, p.2.inj x.1) :: Sls.inj r x.2

def Obs.inj : (l : List (Nat × OK)) → Obs.den l → List AObj → List AObj
  | [], _, L => L
  | p :: r, x, L => Obs.inj r x.2 (L.set p.1 (p.2.inj x.1))

/-- The state where ways meet: that at the begin, with what may have turned. -/
def Shape.inj (h : Shape) (W : List Nat) (s : St) (x : h.den) : St :=
  ⟨Sls.inj h.sl x.1 ++ (W.map fun t => (t, .junk)) ++ s.sl, Obs.inj h.ob x.2 s.L, s.lock⟩

def Shape.proj (h : Shape) (s : St) : Option h.den :=
  match Sls.proj s h.sl, Obs.proj s h.ob with
  | some x, some y => some (x, y)
  | _, _ => none

/-- All objects but those of the shape are locked. -/
def Shape.lockd (h : Shape) (s : St) : St :=
  ⟨s.sl, s.L, (List.range h.n).filter (fun i => !(h.ob.any fun p => Nat.beq p.1 i)) ++ s.lock⟩

/-- An order that parts where more than one operation may come first. -/
inductive OTree where
  | done
  | step (i : Nat) (t : OTree)
  /-- number i first, then t; or another one first: r -/
  | fork (i : Nat) (t r : OTree)

def OTree.heads : OTree → List Nat
  | .done => []
  | .step i _ => [i]
  | .fork i _ r => i :: r.heads

def oneX (E : Env) (ops : Array Oper) (i : Nat) (s : St) (K : St → Prop) : Prop :=
  match ops[i]? with
  | some o => guardX ops o s (fun s => opX E o s K) (fun s => putX E o.dst K (.raw undef) s)
  | none => False

def regT (E : Env) (ops : Array Oper) : OTree → St → (St → Prop) → Prop
  | .done, s, K => K s
  | .step i t, s, K => oneX E ops i s fun s' => regT E ops t s' K
  | .fork i t r, s, K => oneX E ops i s (fun s' => regT E ops t s' K) ∧ regT E ops r s K

inductive Hint where
  | none
  | seq (a b : Hint)
  /-- between the two, nil slices in objects' cells become rows of the call's own -/
  | up (l : List (Nat × Nat × TypeId × Ty)) (a b : Hint)
  /-- where ways meet between the two -/
  | join (h : Shape) (a b : Hint)
  | cond (a b : Hint)
  | block (a : Hint)
  /-- the end of a block is a place where ways meet -/
  | blockJ (h : Shape) (a : Hint)
  | loop (h : Shape) (a : Hint)
  /-- ahead of it nil slices in objects' cells become rows of the call's own -/
  | loopU (l : List (Nat × Nat × TypeId × Ty)) (h : Shape) (a : Hint)
  /-- the order in which a region that draws its order is gone through -/
  | order (l : List Nat)
  | orders (t : OTree)

def LoopP {σ : Type} (body : (σ → Prop) → σ → Prop) (x : σ) : Prop := ∀ X : σ → Prop, (∀ x, body X x → X x) → X x

inductive Ex where
  | normal | ret | exit (id : Nat)

/-- How code ends, and what is asked of it. -/
structure Kont where
  normal : St → Prop
  ret : St → Prop
  exit : Nat → St → Prop

def seqK (K : Kont) (f : St → Prop) : Kont := ⟨f, K.ret, K.exit⟩
def blockK (id : Nat) (K : Kont) (f : St → Prop) : Kont := ⟨f, K.ret, fun i s => bif Nat.beq i id then f s else K.exit i s⟩
def unlockK (l : List Nat) (K : Kont) : Kont := ⟨fun s => K.normal ⟨s.sl, s.L, l⟩, fun s => K.ret ⟨s.sl, s.L, l⟩, fun i s => K.exit i ⟨s.sl, s.L, l⟩⟩

def jumpX (h : Shape) (s : St) (J : h.den → Prop) : Prop :=
  match h.proj s with
  | some x => J x
  | none => False

def obFind : List (Nat × OK) → Nat → Option OK
  | [], _ => none
  | p :: r, id => bif Nat.beq p.1 id then some p.2 else obFind r id

/-- What a slot may hold where ways meet. -/
def skOk (h : Shape) (s : St) : SK → Bool
  | .dat _ => true
  | .own id ver _ => match obFind h.ob id with
    | some (.row v _ _) => Nat.ble ver v
    | some _ => false
    | none => match s.L[id]? with | some (.row v _ _ _) => Nat.ble ver v | _ => false
  | .mp id => match s.L[id]? with | some (.map _ _ _) => true | _ => false
  | .iter id => match s.L[id]? with | some (.iter _ _ _ _ _) => true | _ => false
  | .ptr id _ => match s.L[id]? with | some (.cells _) => true | _ => false

/-- What an object may become. -/
def okOk (h : Shape) (s : St) (p : Nat × OK) : Bool :=
  !lockedB s p.1 && (match p.2, s.L[p.1]? with
    | .row ver T e, some (.row cv T' e' _) => Nat.blt cv ver && Nat.beq T T' && decide (e = e')
    | .cells ks, some (.cells _) => ks.all (skOk h s)
    | .map k v, some (.map k' v' _) => decide (k = k') && decide (v = v')
    | .iter mid k v, some (.iter mid' k' v' _ _) => Nat.beq mid mid' && decide (k = k') && decide (v = v') && (match s.L[mid]? with | some (.map k'' v'' _) => decide (k = k'') && decide (v = v'') | _ => false)
    | _, _ => false)

def nodupB : List Nat → Bool
  | [] => true
  | a :: r => !(r.any (Nat.beq a)) && nodupB r

/-- An iterator that stays goes over a map that stays. -/
def iterOk (h : Shape) (s : St) : Bool :=
  (List.range s.L.length).all fun i => match s.L[i]? with
    | some (.iter mid _ _ _ _) => (obFind h.ob i).isSome || (obFind h.ob mid).isNone
    | _ => true

def shapeOk (h : Shape) (s : St) : Bool :=
  Nat.beq h.n s.L.length && h.ob.all (okOk h s) && h.sl.all (fun p => skOk h s p.2) && nodupB (h.ob.map (·.1)) && iterOk h s

/-- An operation that turns nothing, and makes nothing. -/
def plainOp : Op → Bool
  | .move (.const (.slice none 0 0)) => false
  | .assign (.const (.slice none 0 0)) => false
  | .move _ => true
  | .assign _ => true
  | .pick _ _ _ => true
  | .load _ _ => true
  | .nilCheck _ => true
  | .binOp _ _ _ _ _ => true
  | .unOp _ _ _ => true
  | .convert _ _ _ => true
  | .fieldAddr _ _ _ => true
  | .field _ _ _ => true
  | .indexAddr _ _ _ => true
  | .index _ _ _ => true
  | .extract _ _ => true
  | .lookup _ _ _ _ => true
  | .slice _ _ _ _ _ => true
  | .makeFunc _ _ _ => true
  | .call c => (match c.callee with
    | .builtin .len => true
    | .builtin .max => true
    | .builtin .min => true
    | _ => false)
  | _ => false

/-- An operation that leaves all that was there as it was. -/
def quietOp (E : Env) : Op → Bool
  | .alloc _ => true
  | .box _ _ => true
  | .buildSlice _ _ _ => true
  | .makeSlice _ _ _ => true
  | .makeMap _ _ => true
  | .range _ _ => true
  | .move _ => true
  | .assign _ => true
  | .call c => plainOp (.call c) || (match c.callee with
    | .value (.func f) => E.q f
    | _ => false)
  | o => plainOp o

/-- Those that turn something. -/
def lateAt (E : Env) (ops : Array Oper) (j : Nat) : Bool :=
  match ops[j]? with
  | some o => !quietOp E o.op
  | none => false

def after1 (o : Oper) (i : Nat) : Bool := o.after.any fun e => Region.binds .any e && Nat.beq e.on i

/-- The order in which a region that draws its order is gone through: what is plain may be ahead of others that do not wait for it, but not of those that turn something. -/
def lagGo (E : Env) (ops : Array Oper) : Array Bool → List Nat → Bool
  | listed, [] => (Region.ready .any ops listed).isEmpty
  | listed, i :: r => (match ops[i]? with
    | some o => bif plainOp o.op then
        (Region.ready .any ops listed).any (Nat.beq i) && Region.free .any ops listed i &&
          ((List.range ops.size).all fun j => Nat.beq j i || listed.getD j true || !lateAt E ops j || (match ops[j]? with | some oj => after1 oj i | none => true))
        else (match Region.ready .any ops listed with | [j] => Nat.beq j i | _ => false)
    | none => false) && lagGo E ops (listed.setIfInBounds i true) r

/-- What is plain may be taken first. -/
def firstB (E : Env) (ops : Array Oper) (listed : Array Bool) (i : Nat) : Bool :=
  match ops[i]? with
  | some o => plainOp o.op && (Region.ready .any ops listed).any (Nat.beq i) && Region.free .any ops listed i &&
      ((List.range ops.size).all fun j => Nat.beq j i || listed.getD j true || !lateAt E ops j || (match ops[j]? with | some oj => after1 oj i | none => true))
  | none => false

def headsB (ops : Array Oper) (listed : Array Bool) (t : OTree) : Bool := (Region.ready .any ops listed).all fun j => t.heads.any (Nat.beq j)

/-- A tree of orders serves every order; sub: the rest of a parting. -/
def lagT (E : Env) (ops : Array Oper) : Bool → Nat → Array Bool → OTree → Bool
  | sub, _, listed, .done => !sub && (Region.ready .any ops listed).isEmpty
  | sub, n, listed, .step i t => Nat.blt 0 n && (sub || firstB E ops listed i || headsB ops listed (.step i t)) && (sub || !(Region.ready .any ops listed).isEmpty) && lagT E ops false (n - 1) (listed.setIfInBounds i true) t
  | sub, n, listed, .fork i t r => Nat.blt 0 n && (sub || headsB ops listed (.fork i t r)) && (sub || !(Region.ready .any ops listed).isEmpty) && lagT E ops false (n - 1) (listed.setIfInBounds i true) t && lagT E ops true n listed r

def lagTB (E : Env) (ops : Array Oper) (t : OTree) : Bool :=
  E.P.follows .mixedOrders && Region.noSelect ops && lagT E ops false ops.size (Array.replicate ops.size false) t

def lagB (E : Env) (ops : Array Oper) (l : List Nat) : Bool :=
  E.P.follows .mixedOrders && Region.noSelect ops && Nat.beq l.length ops.size && lagGo E ops (Array.replicate ops.size false) l

/-- Nil slices in objects' cells become rows of the call's own. -/
def upX (s : St) : List (Nat × Nat × TypeId × Ty) → Option St
  | [] => some s
  | (id, j, T, e) :: r => bif lockedB s id then none else match s.L[id]? with
    | some (.cells cs) => (match cs[j]? with
      | some (.raw (.slice none 0 0)) => upX ⟨s.sl, (s.L ++ [AObj.row 0 T e []]).set id (.cells (cs.set j (.own s.L.length 0 e))), s.lock⟩ r
      | _ => none)
    | _ => none

def codeX (E : Env) : Code → Hint → St → Kont → Prop
  | .skip, _, s, K => K.normal s
  | .label _, _, s, K => K.normal s
  | .region _ ops draw, h, s, K => bif draw then (match h with
    | .order l => bif lagB E ops l then regX E ops l s K.normal else False
    | .orders t => bif lagTB E ops t then regT E ops t s K.normal else False
    | _ => False) else regX E ops (List.range ops.size) s K.normal
  | .seq a b, h, s, K => (match h with
    | .seq ha hb => codeX E a ha s (seqK K fun s' => codeX E b hb s' K)
    | .up l ha hb => codeX E a ha s (seqK K fun s' => match upX s' l with
      | some s'' => codeX E b hb s'' K
      | none => False)
    | .join sh ha hb => bif shapeOk sh s then
        (fun J : sh.den → Prop => codeX E a ha (sh.lockd s) (seqK (unlockK s.lock K) fun s' => jumpX sh s' J)) (fun x => codeX E b hb (sh.inj (writes a) s x) K)
        else False
    | _ => codeX E a .none s (seqK K fun s' => codeX E b .none s' K))
  | .cond c a b, h, s, K => (match h, evalO s c with
    | .cond ha hb, .d .bool x => cond (x : Bool) (codeX E a ha s K) (codeX E b hb s K)
    | _, .d .bool x => cond (x : Bool) (codeX E a .none s K) (codeX E b .none s K)
    | _, _ => False)
  | .block id a, h, s, K => (match h with
    | .block ha => codeX E a ha s (blockK id K K.normal)
    | .blockJ sh ha => bif shapeOk sh s then
        (fun J : sh.den → Prop => codeX E a ha (sh.lockd s) (blockK id (unlockK s.lock K) fun s' => jumpX sh s' J)) (fun x => K.normal (sh.inj (writes a) s x))
        else False
    | _ => codeX E a .none s (blockK id K K.normal))
  | .loop a, h, s, K => (match h with
    | .loop sh ha => bif shapeOk sh s then
        jumpX sh s (LoopP fun X x => codeX E a ha (sh.lockd (sh.inj (writes a) s x)) (seqK (unlockK s.lock K) fun s' => jumpX sh s' X))
        else False
    | .loopU l sh ha => (match upX s l with
      | some s => bif shapeOk sh s then
        jumpX sh s (LoopP fun X x => codeX E a ha (sh.lockd (sh.inj (writes a) s x)) (seqK (unlockK s.lock K) fun s' => jumpX sh s' X))
        else False
      | none => False)
    | _ => False)
  | .scope a, h, s, K => codeX E a h s K
  | .exit id, _, s, K => K.exit id s
  | .ret, _, s, K => K.ret s
  | _, _, _, _ => False

/-- What a function hands back. -/
def resOneX (E : Env) (s : St) (r : ResultVar) (ret : AV → Prop) : Prop :=
  match r with
  | .tmp t => ret (lk s.sl t)
  | .cell a t => loadX E t (lk s.sl a) s ret

def resX (E : Env) (s : St) (rs : List ResultVar) (ret : AV → Prop) : Prop :=
  match rs with
  | [r] => resOneX E s r ret
  | rs => go rs (fun as => ret (.tup as))
where go : List ResultVar → (List AV → Prop) → Prop
  | [], k => k []
  | r :: rs, k => resOneX E s r fun a => go rs fun as => k (a :: as)

/-- What a call hands back: data of one or of several types. -/
abbrev Res.den : List Ty → Type
  | [] => Unit
  | [t] => t.den
  | t :: ts => t.den × Res.den ts

def toDatas (L : List AObj) : (ts : List Ty) → List AV → Option (Res.den ts)
  | [], [] => some ()
  | [t], [a] => toData L true t a
  | t :: u :: ts, a :: as => match toData L true t a, toDatas L (u :: ts) as with
    | some x, some y => some (x, y)
    | _, _ => none
  | _, _ => none

def resData (L : List AObj) (ts : List Ty) (a : AV) : Option (Res.den ts) :=
  match ts with
  | [t] => toData L true t a
  | ts => match a with
    | .tup as => toDatas L ts as
    | _ => none

/-- A whole function: with data as its arguments. -/
def bodyX (E : Env) (rs : List ResultVar) (ts : List Ty) (c : Code) (h : Hint) (args : List AV) (Q : Res.den ts → Prop) : Prop :=
  (fun fin : St → Prop => codeX E c h ⟨(args.zipIdx.map fun p => (p.2, p.1)), [], []⟩ ⟨fin, fin, fun _ _ => False⟩)
    (fun s => resX E s rs fun a => match resData s.L ts a with
        | some r => Q r
        | none => False)

end Go.Proofs.Ytodjomdnlcledaa.X
