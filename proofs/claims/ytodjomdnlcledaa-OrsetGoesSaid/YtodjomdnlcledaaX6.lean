/- Calls: of functions that are known by what they say of data, and of those that are gone through. -/
import Derived.Test.YtodjomdnlcledaaX5
namespace Go.Proofs.Ytodjomdnlcledaa.X
open Go Go.RowKit
set_option linter.unusedVariables false
set_option linter.unusedSimpArgs false

abbrev Args.den : List Ty → Type
  | [] => Unit
  | t :: ts => t.den × Args.den ts

/-- A function as it is known: the types of what it takes, and of what it hands back, and what is to be shown. -/
structure FnSpec where
  ps : List Ty
  rs : List Ty
  F : Args.den ps → (Res.den rs → Prop) → Prop

def argsData (L : List AObj) : (ts : List Ty) → List AV → Option (Args.den ts)
  | [], [] => some ()
  | t :: ts, a :: as => match toData L false t a, argsData L ts as with
    | some x, some y => some (x, y)
    | _, _ => none
  | _, _ => none

def resAVs : (ts : List Ty) → Res.den ts → List AV
  | [], _ => []
  | [t], x => [.d t x]
  | t :: u :: ts, x => .d t x.1 :: resAVs (u :: ts) x.2

def resAV (ts : List Ty) (r : Res.den ts) : AV :=
  match ts, r with
  | [t], r => .d t r
  | ts, r => .tup (resAVs ts r)

/-- What was lent to a call that hands back more than plain values is let go. -/
def lendX (rs : List Ty) (args : List AV) (s : St) (K : St → Prop) : Prop :=
  bif rs.all Ty.flat then K s
  else bif freeB s (args.flatMap AV.lent) then K ⟨s.sl, goneAll s.L (args.flatMap AV.lent), s.lock⟩ else False

/-- A function that hands back a new object. -/
structure FreshSpec where
  ps : List Ty
  k : OK
  F : Args.den ps → (k.den → Prop) → Prop

def freshAV (id : Nat) : OK → AV
  | .row _ _ e => .own id 0 e
  | .map _ _ => .mp id
  | _ => .junk

def OK.fresh : OK → Bool
  | .row 0 _ _ => true
  | .map k _ => k.flat
  | _ => false

def OK.elem : OK → Ty
  | .row _ _ e => e
  | .map _ v => v
  | _ => .unit

/-- What lies in the object that is handed back. -/
def freshData (L : List AObj) (k : OK) (a : AV) : Option k.den :=
  match k with
  | .row _ T e => (match a with
    | .own id ver _ => (match L[id]? with
      | some (.row cv T' e' xs) => bif Nat.beq ver cv && Nat.beq T T' then castL e' e xs else none
      | _ => none)
    | .raw (.slice none 0 0) => some ([] : List e.den)
    | _ => none)
  | .map kt vt => (match a with
    | .mp id => (match L[id]? with
      | some (.map k' v' es) => castE k' v' kt vt es
      | _ => none)
    | _ => none)
  | _ => none

def freshX (sp : FreshSpec) (args : List AV) (s : St) (K : AV → St → Prop) : Prop :=
  match argsData s.L sp.ps args with
  | some xs => bif sp.k.fresh then (sp.F xs fun r => lendX [sp.k.elem] args s fun s' => K (freshAV s'.L.length sp.k) (s'.addL (sp.k.inj r))) else False
  | none => False

/-- A whole function that hands back a new object. -/
def bodyF (E : Env) (rs : List ResultVar) (k : OK) (c : Code) (h : Hint) (args : List AV) (Q : k.den → Prop) : Prop :=
  (fun fin : St → Prop => codeX E c h ⟨(args.zipIdx.map fun p => (p.2, p.1)), [], []⟩ ⟨fin, fin, fun _ _ => False⟩)
    (fun s => resX E s rs fun a => match freshData s.L k a with
        | some r => Q r
        | none => False)

structure Inl where
  c : Code
  h : Hint
  rs : List ResultVar
  N : Nat
  /-- what it hands back is made data; rows that it leans on are let go -/
  fz : Option Ty := none

structure Book where
  P : Program
  ty : TypeId → Option Ty
  eqv : TypeId → Ty → Bool
  fn : FuncId → Option FnSpec
  /-- functions that are known by more than data -/
  sp : FuncId → Option (List AV → St → (AV → St → Prop) → Prop)
  inl : FuncId → List AV → St → Option Inl
  /-- functions that hand back a new object -/
  fr : FuncId → Option FreshSpec := fun _ => none

/-- Functions whose calls leave all that was there as it was. -/
def quietF (b : Book) (f : FuncId) : Bool := match b.fn f with
  | some _ => true
  | none => match b.fr f with | some _ => true | none => false

def envX (b : Book) : Nat → Nat → Env
  | 0, N => ⟨b.P, N, b.ty, b.eqv, quietF b, fun f args s K => match b.fn f with
    | some sp => match argsData s.L sp.ps args with
      | some xs => sp.F xs fun r => lendX sp.rs args s fun s' => K (resAV sp.rs r) s'
      | none => False
    | none => match b.fr f with
      | some sp => freshX sp args s K
      | none => match b.sp f with
      | some h => h args s K
      | none => False⟩
  | n + 1, N => ⟨b.P, N, b.ty, b.eqv, quietF b, fun f args s K => match b.fn f with
    | some sp => match argsData s.L sp.ps args with
      | some xs => sp.F xs fun r => lendX sp.rs args s fun s' => K (resAV sp.rs r) s'
      | none => False
    | none => match b.fr f with
      | some sp => freshX sp args s K
      | none => match b.sp f with
      | some h => h args s K
      | none => match b.inl f args s with
      | some i => bif Nat.ble args.length i.N then (fun fin : St → Prop => codeX (envX b n i.N) i.c i.h ⟨args.zipIdx.map fun p => (p.2, p.1), s.L, s.lock⟩ ⟨fin, fin, fun _ _ => False⟩)
          (fun s' => resX (envX b n i.N) s' i.rs fun a => match i.fz with
            | none => K a ⟨s.sl, s'.L, s.lock⟩
            | some t => (match takeD ⟨s.sl, s'.L, s.lock⟩ t a with
              | some (x, s'') => K (.d t x) s''
              | none => False)) else False
      | none => False⟩

end Go.Proofs.Ytodjomdnlcledaa.X
