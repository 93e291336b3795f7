/- Abstract values, the objects that a call owns, and how both stand to values and memory. -/
import Derived.Test.YtodjomdnlcledaaX1
namespace Go.Proofs.Ytodjomdnlcledaa.X
open Go Go.RowKit
set_option linter.unusedVariables false
set_option linter.unusedSimpArgs false

inductive AV where
  /-- data -/
  | d (t : Ty) (x : t.den)
  /-- this very value -/
  | raw (v : Value)
  /-- the header of a row that the call owns -/
  | own (id ver : Nat) (e : Ty)
  /-- a window of a row that the call owns -/
  | sub (id ver : Nat) (e : Ty) (lo hi : Int)
  /-- the address of a cell of an object -/
  | ptr (id off : Nat)
  /-- the address of number i of an array that begins at a cell of an object -/
  | pix (id off n : Nat) (k : IntKind) (i : Int)
  /-- the address of a cell of element i of a row -/
  | rowp (id ver : Nat) (e : Ty) (i : Int) (off : Nat)
  /-- the address of memory that holds this datum and is not changed -/
  | imp (t : Ty) (x : t.den)
  | mp (id : Nat)
  | iter (id : Nat)
  | fn (f : FuncId) (fs cs : List AV)
  | tup (vs : List AV)
  | agg (cs : List AV)
  | junk

inductive AObj where
  | cells (cs : List AV)
  | row (ver : Nat) (T : TypeId) (e : Ty) (xs : List e.den)
  | map (k v : Ty) (es : List (k.den × v.den))
  | iter (mid : Nat) (k v : Ty) (todo : List (k.den × v.den)) (cur : Option (k.den × v.den))
  | gone

structure St where
  sl : List (Nat × AV)
  L : List AObj
  /-- objects that must stay as they are -/
  lock : List Nat

def lk : List (Nat × AV) → Nat → AV
  | [], _ => .junk
  | (u, av) :: r, t => bif Nat.beq u t then av else lk r t

def St.put (s : St) (t : Nat) (av : AV) : St := ⟨(t, av) :: s.sl, s.L, s.lock⟩

/-- Where the objects lie, and which blocks stay as they are. -/
structure Ctx where
  m : Nat → Value
  S : BSet

def AV.size : AV → Nat
  | .d t _ => t.size
  | _ => 1

/-- The number of a row's header that is alive. -/
def RowAt (L : List AObj) (id ver : Nat) (P : Prop) : Prop :=
  match L[id]? with
  | some (.row cv _ _ _) => ver ≤ cv ∧ (ver = cv → P)
  | some .gone => True
  | _ => False

/-- A header that shows a window of another one. -/
def SubAt (loc : Value) (sz : Nat) (lo hi : Int) (v : Value) : Prop :=
  0 ≤ lo ∧ lo ≤ hi ∧ ((loc = .slice none 0 0 ∧ hi = 0 ∧ v = .slice none 0 0) ∨
    ∃ b n cap a, loc = .slice (some ⟨b, 0, none⟩) n cap ∧ hi ≤ (n : Int) ∧ n ≤ cap ∧ v = .slice (some a) (hi.toNat - lo.toNat) (cap - lo.toNat) ∧ (lo < hi → a = ⟨b, lo.toNat * sz, none⟩))

def AV.rowId : AV → Option Nat
  | .own id _ _ => some id
  | .sub id _ _ _ _ => some id
  | _ => none

def CellsAt (L : List AObj) (id : Nat) : Prop :=
  match L[id]? with
  | some (.cells _) => True
  | some .gone => True
  | _ => False

def MapAt (L : List AObj) (id : Nat) : Prop :=
  match L[id]? with
  | some (.map _ _ _) => True
  | some .gone => True
  | _ => False

def IterAt (L : List AObj) (id : Nat) : Prop :=
  match L[id]? with
  | some (.iter _ _ _ _ _) => True
  | some .gone => True
  | _ => False

mutual
def RelAV (L : List AObj) (c : Ctx) (w : World) : AV → Value → Prop
  | .d t x, v => t.val c.S w x v
  | .raw u, v => v = u
  | .own id ver _, v => RowAt L id ver (v = c.m id)
  | .sub id ver e lo hi, v => RowAt L id ver (SubAt (c.m id) e.size lo hi v)
  | .ptr id off, v => CellsAt L id ∧ ∃ b, c.m id = .pointer (some ⟨b, 0, none⟩) ∧ v = .pointer (some ⟨b, off, none⟩)
  | .pix id off n _ i, v => CellsAt L id ∧ 0 ≤ i ∧ i < n ∧ ∃ b, c.m id = .pointer (some ⟨b, 0, none⟩) ∧ v = .pointer (some ⟨b, off + i.toNat, none⟩)
  | .rowp id ver e i off, v => RowAt L id ver (∃ b n cap, c.m id = .slice (some ⟨b, 0, none⟩) n cap ∧ 0 ≤ i ∧ i < n ∧ v = .pointer (some ⟨b, i.toNat * e.size + off, none⟩))
  | .imp t x, v => ∃ b o, v = .pointer (some ⟨b, o, none⟩) ∧ c.S b ∧ ∀ j, j < t.size → ∃ cv, w.cell? ⟨b, o + j, none⟩ = some cv ∧ t.cell c.S w x j cv
  | .mp id, v => MapAt L id ∧ v = c.m id
  | .iter id, v => IterAt L id ∧ v = c.m id
  | .fn f fs cs, v => ∃ fa ca, v = .func (.func f) fa ca ∧ RelAVs L c w fs fa.toList ∧ RelAVs L c w cs ca.toList
  | .tup vs, v => ∃ us, v = .tuple us ∧ RelAVs L c w vs us.toList
  | .agg cs, v => ∃ us, v = .agg us ∧ us.size = (cs.map AV.size).sum ∧ RelCh L c w cs (fun j => us[j]?)
  | .junk, _ => True
def RelAVs (L : List AObj) (c : Ctx) (w : World) : List AV → List Value → Prop
  | [], vs => vs = []
  | a :: as, vs => ∃ u us, vs = u :: us ∧ RelAV L c w a u ∧ RelAVs L c w as us
/-- Cells, from a place on, hold these. -/
def RelCh (L : List AObj) (c : Ctx) (w : World) : List AV → (Nat → Option Value) → Prop
  | [], _ => True
  | .d t x :: as, f => (∀ j, j < t.size → ∃ cv, f j = some cv ∧ t.cell c.S w x j cv) ∧ RelCh L c w as (fun j => f (j + t.size))
  | a :: as, f => (∃ cv, f 0 = some cv ∧ RelAV L c w a cv) ∧ RelCh L c w as (fun j => f (j + 1))
end

/-- A block that an object owns. -/
def Owns (o : AObj) (v : Value) (b : Nat) : Prop :=
  match o with
  | .cells _ => v = .pointer (some ⟨b, 0, none⟩)
  | .row _ _ _ _ => ∃ n cap, v = .slice (some ⟨b, 0, none⟩) n cap
  | .map _ _ _ => v = .map (some b)
  | .iter _ _ _ _ _ => v = .pointer (some ⟨b, 0, none⟩)
  | .gone => False

def entryRel (S : BSet) (w : World) (k v : Ty) (x : k.den × v.den) (e : MapEntry) : Prop := k.val S w x.1 e.key ∧ v.val S w x.2 e.val

/-- Two lists go together, one by one. -/
def All2 {α β : Type} (R : α → β → Prop) : List α → List β → Prop
  | [], [] => True
  | a :: as, b :: bs => R a b ∧ All2 R as bs
  | _, _ => False

def RowRel (c : Ctx) (w : World) (loc : Value) (T : TypeId) (e : Ty) (xs : List e.den) : Prop :=
  (loc = .slice none 0 0 ∧ xs = []) ∨
  ∃ b cap cells, loc = .slice (some ⟨b, 0, none⟩) xs.length cap ∧ cap ≤ maxLen ∧ xs.length ≤ cap ∧ w.heap[b]? = some (.cells cells T (0, 0)) ∧ cells.size = cap * e.size ∧
    ∀ i x, xs[i]? = some x → ∀ j, j < e.size → ∃ cv, cells[i * e.size + j]? = some cv ∧ e.cell c.S w x j cv

def ObjRel (L : List AObj) (c : Ctx) (w : World) (loc : Value) : AObj → Prop
  | .cells cs => ∃ b T cells, loc = .pointer (some ⟨b, 0, none⟩) ∧ w.heap[b]? = some (.cells cells T (0, 0)) ∧ cells.size = (cs.map AV.size).sum ∧ RelCh L c w cs (fun j => cells[j]?)
  | .row _ T e xs => RowRel c w loc T e xs
  | .map k v es => ∃ b entries clock, loc = .map (some b) ∧ w.heap[b]? = some (.map entries clock) ∧ k.flat = true ∧
      All2 (entryRel c.S w k v) es entries.toList ∧ (∀ e ∈ entries.toList, e.born < clock) ∧ (entries.toList.map (·.born)).Nodup
  | .iter mid k v todo cur => ∃ es b bm entries clock seen, L[mid]? = some (.map k v es) ∧ loc = .pointer (some ⟨b, 0, none⟩) ∧ w.heap[b]? = some (.mapIter (some bm) clock seen clock) ∧
      c.m mid = .map (some bm) ∧ w.heap[bm]? = some (.map entries clock) ∧ k.flat = true ∧ (∀ e ∈ entries.toList, e.born < clock) ∧ (entries.toList.map (·.born)).Nodup ∧
      All2 (entryRel c.S w k v) todo (entries.toList.filter fun e => !seen.contains e.born) ∧
      (∀ x, cur = some x → ∃ e stamp, seen.back? = some stamp ∧ e.born = stamp ∧ e ∈ entries.toList ∧ entryRel c.S w k v x e)
  | .gone => True

/-- What an activation began with: its first own block, the world, the blocks that it may lean on. -/
structure Base where
  B : Nat
  w0 : World
  S0 : BSet

structure RW (Γ : Base) (L : List AObj) (c : Ctx) (w : World) : Prop where
  below : Below Γ.B Γ.w0 w
  base : Γ.B ≤ w.heap.size
  sub : ∀ b, c.S b → b < w.heap.size
  s0 : ∀ b, c.S b → Γ.S0 b ∨ Γ.B ≤ b
  objs : ∀ id o, L[id]? = some o → ObjRel L c w (c.m id) o
  owns : ∀ id o b, L[id]? = some o → Owns o (c.m id) b → Γ.B ≤ b ∧ b < w.heap.size ∧ ¬ c.S b
  apart : ∀ id id' o o' b, L[id]? = some o → L[id']? = some o' → Owns o (c.m id) b → Owns o' (c.m id') b → id = id'

/-- How an object may go on. -/
def Evol (o : AObj) (v : Value) (o' : AObj) (v' : Value) : Prop :=
  match o, o' with
  | .row cv T e _, .row cv' T' e' _ => T' = T ∧ e' = e ∧ cv ≤ cv' ∧ (cv = cv' → v' = v)
  | .row _ _ _ _, .gone => True
  | .cells _, .cells _ => v' = v
  | .cells _, .gone => v' = v
  | .map _ _ _, .map _ _ _ => v' = v
  | .map _ _ _, .gone => v' = v
  | .iter _ _ _ _ _, .iter _ _ _ _ _ => v' = v
  | .iter _ _ _ _ _, .gone => v' = v
  | .gone, .gone => v' = v
  | _, _ => False

structure Step (L : List AObj) (c : Ctx) (w : World) (L' : List AObj) (c' : Ctx) (w' : World) : Prop where
  obj : ∀ id o, L[id]? = some o → ∃ o', L'[id]? = some o' ∧ Evol o (c.m id) o' (c'.m id)
  more : ∀ b, c.S b → c'.S b
  heap : ∀ b, c.S b → w'.heap[b]? = w.heap[b]?

theorem Evol.refl (o : AObj) (v : Value) : Evol o v o v := by cases o <;> simp [Evol]

theorem Evol.trans {o o' o'' : AObj} {v v' v'' : Value} (h : Evol o v o' v') (k : Evol o' v' o'' v'') : Evol o v o'' v'' := by
  cases o <;> cases o' <;> cases o'' <;> simp only [Evol] at h k ⊢ <;> first
    | exact h.elim
    | exact k.elim
    | (obtain ⟨rfl, rfl, h1, h2⟩ := h; obtain ⟨rfl, rfl, k1, k2⟩ := k; exact ⟨rfl, rfl, Nat.le_trans h1 k1, fun e => by rw [k2 (by omega), h2 (by omega)]⟩)
    | (rw [k, h])
    | trivial

theorem Step.refl (L : List AObj) (c : Ctx) (w : World) : Step L c w L c w := ⟨fun _ o h => ⟨o, h, Evol.refl _ _⟩, fun _ h => h, fun _ _ => rfl⟩

theorem Step.trans {L L' L'' : List AObj} {c c' c'' : Ctx} {w w' w'' : World} (h : Step L c w L' c' w') (k : Step L' c' w' L'' c'' w'') : Step L c w L'' c'' w'' := by
  refine ⟨fun id o ho => ?_, fun b hb => k.more b (h.more b hb), fun b hb => (k.heap b (h.more b hb)).trans (h.heap b hb)⟩
  obtain ⟨o', ho', e⟩ := h.obj id o ho
  obtain ⟨o'', ho'', e'⟩ := k.obj id o' ho'
  exact ⟨o'', ho'', e.trans e'⟩

section
variable {L L' : List AObj} {c c' : Ctx} {w w' : World}

theorem RowAt.step (hs : Step L c w L' c' w') {id ver : Nat} {P P' : Prop} (hP : P → c'.m id = c.m id → P') (h : RowAt L id ver P) : RowAt L' id ver P' := by
  unfold RowAt at *
  cases ho : L[id]? with
  | none => rw [ho] at h; exact h.elim
  | some o =>
    obtain ⟨o', ho', e⟩ := hs.obj id o ho
    rw [ho']; rw [ho] at h
    cases o <;> simp only at h
    case row cv T0 e0 xs =>
      cases o' <;> simp only [Evol] at e ⊢
      obtain ⟨_, _, h1, h2⟩ := e
      exact ⟨Nat.le_trans h.1 h1, fun e => hP (h.2 (by omega)) (h2 (by omega))⟩
    case gone => cases o' <;> simp only [Evol] at e ⊢

theorem CellsAt.step (hs : Step L c w L' c' w') {id : Nat} (h : CellsAt L id) : CellsAt L' id ∧ c'.m id = c.m id := by
  unfold CellsAt at *
  cases ho : L[id]? with
  | none => rw [ho] at h; exact h.elim
  | some o =>
    obtain ⟨o', ho', e⟩ := hs.obj id o ho
    rw [ho']; rw [ho] at h
    cases o <;> simp only at h <;> cases o' <;> simp only [Evol] at e ⊢ <;> exact ⟨trivial, e⟩

theorem MapAt.step (hs : Step L c w L' c' w') {id : Nat} (h : MapAt L id) : MapAt L' id ∧ c'.m id = c.m id := by
  unfold MapAt at *
  cases ho : L[id]? with
  | none => rw [ho] at h; exact h.elim
  | some o =>
    obtain ⟨o', ho', e⟩ := hs.obj id o ho
    rw [ho']; rw [ho] at h
    cases o <;> simp only at h <;> cases o' <;> simp only [Evol] at e ⊢ <;> exact ⟨trivial, e⟩

theorem IterAt.step (hs : Step L c w L' c' w') {id : Nat} (h : IterAt L id) : IterAt L' id ∧ c'.m id = c.m id := by
  unfold IterAt at *
  cases ho : L[id]? with
  | none => rw [ho] at h; exact h.elim
  | some o =>
    obtain ⟨o', ho', e⟩ := hs.obj id o ho
    rw [ho']; rw [ho] at h
    cases o <;> simp only at h <;> cases o' <;> simp only [Evol] at e ⊢ <;> exact ⟨trivial, e⟩

mutual
theorem RelAV_step (hs : Step L c w L' c' w') : ∀ (av : AV) (v : Value), RelAV L c w av v → RelAV L' c' w' av v
  | .d t x, v, h => by
    simp only [RelAV] at h ⊢; exact Ty.val_mono hs.more hs.heap h
  | .raw u, v, h => by simp only [RelAV] at h ⊢; exact h
  | .own id ver e, v, h => by
    simp only [RelAV] at h ⊢; exact h.step hs (fun a b => b ▸ a)
  | .sub id ver e lo hi, v, h => by
    simp only [RelAV] at h ⊢; exact h.step hs (fun a b => by rw [b]; exact a)
  | .ptr id off, v, h => by
    simp only [RelAV] at h ⊢
    obtain ⟨h1, b, h2, h3⟩ := h
    obtain ⟨k1, k2⟩ := h1.step hs
    exact ⟨k1, b, k2.trans h2, h3⟩
  | .pix id off n k i, v, h => by
    simp only [RelAV] at h ⊢
    obtain ⟨h1, h0, h0', b, h2, h3⟩ := h
    obtain ⟨k1, k2⟩ := h1.step hs
    exact ⟨k1, h0, h0', b, k2.trans h2, h3⟩
  | .rowp id ver e i off, v, h => by
    simp only [RelAV] at h ⊢
    exact h.step hs (fun ⟨b, n, cap, k⟩ e => ⟨b, n, cap, by rw [e]; exact k⟩)
  | .imp t x, v, h => by
    simp only [RelAV] at h ⊢
    obtain ⟨b, o, hv, hb, h⟩ := h
    refine ⟨b, o, hv, hs.more b hb, fun j hj => ?_⟩
    obtain ⟨cv, h1, h2⟩ := h j hj
    exact ⟨cv, by rw [World.cell?_of_block (w := w) (hs.heap b hb)]; exact h1, Ty.cell_mono hs.more hs.heap t x j cv h2⟩
  | .mp id, v, h => by
    simp only [RelAV] at h ⊢
    obtain ⟨k1, k2⟩ := h.1.step hs
    exact ⟨k1, h.2.trans k2.symm⟩
  | .iter id, v, h => by
    simp only [RelAV] at h ⊢
    obtain ⟨k1, k2⟩ := h.1.step hs
    exact ⟨k1, h.2.trans k2.symm⟩
  | .fn f fs cs, v, h => by
    simp only [RelAV] at h ⊢
    obtain ⟨fa, ca, hv, h1, h2⟩ := h
    exact ⟨fa, ca, hv, RelAVs_step hs fs _ h1, RelAVs_step hs cs _ h2⟩
  | .tup vs, v, h => by
    simp only [RelAV] at h ⊢
    obtain ⟨us, hv, h1⟩ := h
    exact ⟨us, hv, RelAVs_step hs vs _ h1⟩
  | .agg cs, v, h => by
    simp only [RelAV] at h ⊢
    obtain ⟨us, hv, h0, h1⟩ := h
    exact ⟨us, hv, h0, RelCh_step hs cs _ h1⟩
  | .junk, v, h => by simp only [RelAV]
theorem RelAVs_step (hs : Step L c w L' c' w') : ∀ (as : List AV) (vs : List Value), RelAVs L c w as vs → RelAVs L' c' w' as vs
  | [], vs, h => by simp only [RelAVs] at h ⊢; exact h
  | a :: as, vs, h => by
    simp only [RelAVs] at h ⊢
    obtain ⟨u, us, hv, h1, h2⟩ := h
    exact ⟨u, us, hv, RelAV_step hs a u h1, RelAVs_step hs as us h2⟩
theorem RelCh_step (hs : Step L c w L' c' w') : ∀ (as : List AV) (f : Nat → Option Value), RelCh L c w as f → RelCh L' c' w' as f
  | [], f, h => by simp only [RelCh]
  | .d t x :: as, f, h => by
    simp only [RelCh] at h ⊢
    refine ⟨fun j hj => ?_, RelCh_step hs as _ h.2⟩
    obtain ⟨cv, h1, h2⟩ := h.1 j hj
    exact ⟨cv, h1, Ty.cell_mono hs.more hs.heap t x j cv h2⟩
  | .raw u :: as, f, h => by simp only [RelCh] at h ⊢; obtain ⟨⟨cv, h1, h2⟩, h3⟩ := h; exact ⟨⟨cv, h1, RelAV_step hs _ _ h2⟩, RelCh_step hs as _ h3⟩
  | .own id ver e :: as, f, h => by simp only [RelCh] at h ⊢; obtain ⟨⟨cv, h1, h2⟩, h3⟩ := h; exact ⟨⟨cv, h1, RelAV_step hs _ _ h2⟩, RelCh_step hs as _ h3⟩
  | .sub id ver e lo hi :: as, f, h => by simp only [RelCh] at h ⊢; obtain ⟨⟨cv, h1, h2⟩, h3⟩ := h; exact ⟨⟨cv, h1, RelAV_step hs _ _ h2⟩, RelCh_step hs as _ h3⟩
  | .ptr id off :: as, f, h => by simp only [RelCh] at h ⊢; obtain ⟨⟨cv, h1, h2⟩, h3⟩ := h; exact ⟨⟨cv, h1, RelAV_step hs _ _ h2⟩, RelCh_step hs as _ h3⟩
  | .pix id off n k i :: as, f, h => by simp only [RelCh] at h ⊢; obtain ⟨⟨cv, h1, h2⟩, h3⟩ := h; exact ⟨⟨cv, h1, RelAV_step hs _ _ h2⟩, RelCh_step hs as _ h3⟩
  | .rowp id ver e i off :: as, f, h => by simp only [RelCh] at h ⊢; obtain ⟨⟨cv, h1, h2⟩, h3⟩ := h; exact ⟨⟨cv, h1, RelAV_step hs _ _ h2⟩, RelCh_step hs as _ h3⟩
  | .imp t x :: as, f, h => by simp only [RelCh] at h ⊢; obtain ⟨⟨cv, h1, h2⟩, h3⟩ := h; exact ⟨⟨cv, h1, RelAV_step hs _ _ h2⟩, RelCh_step hs as _ h3⟩
  | .mp id :: as, f, h => by simp only [RelCh] at h ⊢; obtain ⟨⟨cv, h1, h2⟩, h3⟩ := h; exact ⟨⟨cv, h1, RelAV_step hs _ _ h2⟩, RelCh_step hs as _ h3⟩
  | .iter id :: as, f, h => by simp only [RelCh] at h ⊢; obtain ⟨⟨cv, h1, h2⟩, h3⟩ := h; exact ⟨⟨cv, h1, RelAV_step hs _ _ h2⟩, RelCh_step hs as _ h3⟩
  | .fn g fs cs :: as, f, h => by simp only [RelCh] at h ⊢; obtain ⟨⟨cv, h1, h2⟩, h3⟩ := h; exact ⟨⟨cv, h1, RelAV_step hs _ _ h2⟩, RelCh_step hs as _ h3⟩
  | .tup vs :: as, f, h => by simp only [RelCh] at h ⊢; obtain ⟨⟨cv, h1, h2⟩, h3⟩ := h; exact ⟨⟨cv, h1, RelAV_step hs _ _ h2⟩, RelCh_step hs as _ h3⟩
  | .agg cs :: as, f, h => by simp only [RelCh] at h ⊢; obtain ⟨⟨cv, h1, h2⟩, h3⟩ := h; exact ⟨⟨cv, h1, RelAV_step hs _ _ h2⟩, RelCh_step hs as _ h3⟩
  | .junk :: as, f, h => by simp only [RelCh] at h ⊢; obtain ⟨⟨cv, h1, h2⟩, h3⟩ := h; exact ⟨⟨cv, h1, RelAV_step hs _ _ h2⟩, RelCh_step hs as _ h3⟩
end
end

theorem RelCh_cons {L : List AObj} {c : Ctx} {w : World} {a : AV} {as : List AV} {f : Nat → Option Value} (ha : ∀ t x, a ≠ .d t x) :
    RelCh L c w (a :: as) f ↔ (∃ cv, f 0 = some cv ∧ RelAV L c w a cv) ∧ RelCh L c w as (fun j => f (j + 1)) := by
  cases a <;> first | (exact absurd rfl (ha _ _)) | simp only [RelCh]

end Go.Proofs.Ytodjomdnlcledaa.X
