/- One object changes, and all else stays. -/
import Derived.Test.YtodjomdnlcledaaX2
namespace Go.Proofs.Ytodjomdnlcledaa.X
open Go Go.RowKit
set_option linter.unusedVariables false
set_option linter.unusedSimpArgs false

theorem All2.imp {α β : Type} {R R' : α → β → Prop} (h : ∀ a b, R a b → R' a b) : ∀ (as : List α) (bs : List β), All2 R as bs → All2 R' as bs
  | [], [], _ => trivial
  | a :: as, b :: bs, hh => ⟨h a b hh.1, All2.imp h as bs hh.2⟩
  | [], _ :: _, hh => hh.elim
  | _ :: _, [], hh => hh.elim

theorem entryRel.mono {S S' : BSet} {w w' : World} (hS : ∀ b, S b → S' b) (hw : ∀ b, S b → w'.heap[b]? = w.heap[b]?) {k v : Ty} {x : k.den × v.den} {e : MapEntry}
    (h : entryRel S w k v x e) : entryRel S' w' k v x e := ⟨Ty.val_mono hS hw h.1, Ty.val_mono hS hw h.2⟩

theorem RowRel.mono {c c' : Ctx} {w w' : World} {loc : Value} {T : TypeId} {e : Ty} {xs : List e.den} {ver : Nat} (h : RowRel c w loc T e xs)
    (hS : ∀ b, c.S b → c'.S b) (hw : ∀ b, c.S b → w'.heap[b]? = w.heap[b]?) (hb : ∀ b, Owns (.row ver T e xs) loc b → w'.heap[b]? = w.heap[b]?) : RowRel c' w' loc T e xs := by
  rcases h with h | ⟨b, cap, cells, h1, h2, h3, h4, h5, h6⟩
  · exact .inl h
  · refine .inr ⟨b, cap, cells, h1, h2, h3, by rw [hb b ⟨_, _, h1⟩]; exact h4, h5, fun i x hx j hj => ?_⟩
    obtain ⟨cv, k1, k2⟩ := h6 i x hx j hj
    exact ⟨cv, k1, Ty.cell_mono hS hw e x j cv k2⟩

theorem ObjRel_step {L L' : List AObj} {c c' : Ctx} {w w' : World} (hs : Step L c w L' c' w') {loc : Value} {o : AObj}
    (hb : ∀ b, Owns o loc b → w'.heap[b]? = w.heap[b]?)
    (hit : ∀ mid k v td cur es, o = .iter mid k v td cur → L[mid]? = some (.map k v es) → (∃ es', L'[mid]? = some (.map k v es')) ∧ c'.m mid = c.m mid ∧ ∀ b, c.m mid = .map (some b) → w'.heap[b]? = w.heap[b]?)
    (h : ObjRel L c w loc o) : ObjRel L' c' w' loc o := by
  cases o with
  | cells cs =>
    obtain ⟨b, T, cells, h1, h2, h3, h4⟩ := h
    exact ⟨b, T, cells, h1, by rw [hb b h1]; exact h2, h3, RelCh_step hs cs _ h4⟩
  | row ver T e xs => exact RowRel.mono (ver := ver) h hs.more hs.heap hb
  | map k v es =>
    obtain ⟨b, en, clock, h1, h2, h3, h4, h5⟩ := h
    exact ⟨b, en, clock, h1, by rw [hb b h1]; exact h2, h3, All2.imp (fun _ _ h => h.mono hs.more hs.heap) _ _ h4, h5⟩
  | iter mid k v td cur =>
    obtain ⟨es, b, bm, en, clock, seen, h0, h1, h2, h3, h4, h5, h6, h7, h8, h9⟩ := h
    obtain ⟨⟨es', e1⟩, e2, e3⟩ := hit mid k v td cur es rfl h0
    refine ⟨es', b, bm, en, clock, seen, e1, h1, by rw [hb b h1]; exact h2, e2.trans h3, by rw [e3 bm h3]; exact h4, h5, h6, h7, All2.imp (fun _ _ h => h.mono hs.more hs.heap) _ _ h8, fun x hx => ?_⟩
    obtain ⟨e, stamp, k1, k2, k3, k4⟩ := h9 x hx
    exact ⟨e, stamp, k1, k2, k3, k4.mono hs.more hs.heap⟩
  | gone => trivial

def Ctx.set (c : Ctx) (id : Nat) (v : Value) : Ctx := ⟨fun i => if i = id then v else c.m i, c.S⟩
@[simp] theorem Ctx.set_same (c : Ctx) (id : Nat) (v : Value) : (c.set id v).m id = v := by simp [Ctx.set]
theorem Ctx.set_other (c : Ctx) {id i : Nat} (v : Value) (h : i ≠ id) : (c.set id v).m i = c.m i := by simp [Ctx.set, h]
@[simp] theorem Ctx.set_S (c : Ctx) (id : Nat) (v : Value) : (c.set id v).S = c.S := rfl

theorem below_on {B : Nat} {w w0 w' : World} (h : Below B w0 w) (ho : w'.os = w.os) (ht : w'.tape = w.tape) (hu : w'.output = w.output) (hz : w.heap.size ≤ w'.heap.size)
    (hh : ∀ b, b < B → w'.heap[b]? = w.heap[b]?) : Below B w0 w' := h.trans ⟨ho, ht, hu, hz, hh⟩

/-- The streams of two worlds are one. -/
structure Alike (w w' : World) : Prop where
  os : w'.os = w.os
  tape : w'.tape = w.tape
  output : w'.output = w.output
  size : w.heap.size ≤ w'.heap.size

theorem Alike.refl (w : World) : Alike w w := ⟨rfl, rfl, rfl, Nat.le_refl _⟩
theorem Alike.trans {a b c : World} (h : Alike a b) (k : Alike b c) : Alike a c := ⟨k.os.trans h.os, k.tape.trans h.tape, k.output.trans h.output, Nat.le_trans h.size k.size⟩

/-- The world went on, and nothing of what was there turned. -/
theorem RW.grow {Γ : Base} {L : List AObj} {c : Ctx} {w w' : World} (h : RW Γ L c w) (ha : Alike w w') (hh : ∀ b, b < w.heap.size → w'.heap[b]? = w.heap[b]?) :
    RW Γ L c w' ∧ Step L c w L c w' := by
  have hs : Step L c w L c w' := ⟨fun _ o h => ⟨o, h, Evol.refl _ _⟩, fun _ h => h, fun b hb => hh b (h.sub b hb)⟩
  refine ⟨⟨below_on h.below ha.os ha.tape ha.output ha.size (fun b hb => hh b (Nat.lt_of_lt_of_le hb h.base)), Nat.le_trans h.base ha.size, fun b hb => Nat.lt_of_lt_of_le (h.sub b hb) ha.size, h.s0, fun id o ho => ?_, fun id o b ho hb => ?_, h.apart⟩, hs⟩
  · refine ObjRel_step hs (fun b hb => hh b (h.owns id o b ho hb).2.1) (fun mid k v td cur es e hm => ⟨⟨es, hm⟩, rfl, fun b hb => ?_⟩) (h.objs id o ho)
    exact hh b (h.owns mid _ b hm hb).2.1
  · exact ⟨(h.owns id o b ho hb).1, Nat.lt_of_lt_of_le (h.owns id o b ho hb).2.1 ha.size, (h.owns id o b ho hb).2.2⟩

theorem RW.drew {Γ : Base} {L : List AObj} {c : Ctx} {w : World} (h : RW Γ L c w) : RW Γ L c w.drew ∧ Step L c w L c w.drew :=
  h.grow ⟨rfl, rfl, rfl, Nat.le_refl _⟩ (fun _ _ => rfl)

/-- A new object. -/
theorem RW.add {Γ : Base} {L : List AObj} {c : Ctx} {w w' : World} {o' : AObj} {v' : Value} (h : RW Γ L c w) (ha : Alike w w') (hh : ∀ b, b < w.heap.size → w'.heap[b]? = w.heap[b]?)
    (hown : ∀ b, Owns o' v' b → w.heap.size ≤ b ∧ b < w'.heap.size)
    (hobj : Step L c w (L ++ [o']) (c.set L.length v') w' → ObjRel (L ++ [o']) (c.set L.length v') w' v' o') :
    RW Γ (L ++ [o']) (c.set L.length v') w' ∧ Step L c w (L ++ [o']) (c.set L.length v') w' := by
  have old : ∀ id o, L[id]? = some o → id < L.length := fun id o ho => (List.getElem?_eq_some_iff.1 ho).1
  have keep : ∀ id o, L[id]? = some o → (L ++ [o'])[id]? = some o := fun id o ho => by rw [List.getElem?_append_left (old id o ho)]; exact ho
  have hm : ∀ id, id < L.length → (c.set L.length v').m id = c.m id := fun id hid => Ctx.set_other _ _ (by omega)
  have hs : Step L c w (L ++ [o']) (c.set L.length v') w' :=
    ⟨fun id o ho => ⟨o, keep id o ho, by rw [hm id (old id o ho)]; exact Evol.refl _ _⟩, fun _ h => h, fun b hb => hh b (h.sub b hb)⟩
  have split : ∀ id o, (L ++ [o'])[id]? = some o → (L[id]? = some o) ∨ (id = L.length ∧ o = o') := fun id o ho => by
    by_cases hid : id < L.length
    · rw [List.getElem?_append_left hid] at ho; exact .inl ho
    · rw [List.getElem?_append_right (by omega)] at ho
      have : id - L.length = 0 := by
        have := (List.getElem?_eq_some_iff.1 ho).1
        simp at this; omega
      rw [this] at ho
      exact .inr ⟨by omega, by simpa using ho.symm⟩
  refine ⟨⟨below_on h.below ha.os ha.tape ha.output ha.size (fun b hb => hh b (Nat.lt_of_lt_of_le hb h.base)), Nat.le_trans h.base ha.size, fun b hb => Nat.lt_of_lt_of_le (h.sub b hb) ha.size, h.s0, fun id o ho => ?_, fun id o b ho hb => ?_, fun i j o p b ho hp hb hq => ?_⟩, hs⟩
  · rcases split id o ho with ho | ⟨rfl, rfl⟩
    · rw [hm id (old id o ho)]
      refine ObjRel_step hs (fun b hb => hh b (h.owns id o b ho hb).2.1) (fun mid k v td cur es e hmid => ⟨⟨es, keep _ _ hmid⟩, hm _ (old _ _ hmid), fun b hb => ?_⟩) (h.objs id o ho)
      exact hh b (h.owns mid _ b hmid hb).2.1
    · rw [Ctx.set_same]; exact hobj hs
  · rcases split id o ho with ho | ⟨rfl, rfl⟩
    · rw [hm id (old id o ho)] at hb
      exact ⟨(h.owns id o b ho hb).1, Nat.lt_of_lt_of_le (h.owns id o b ho hb).2.1 ha.size, (h.owns id o b ho hb).2.2⟩
    · rw [Ctx.set_same] at hb
      have := hown b hb
      exact ⟨Nat.le_trans h.base this.1, this.2, fun hS => by have := h.sub b hS; omega⟩
  · rcases split i o ho with ho1 | ⟨h1, h2⟩ <;> rcases split j p hp with hp1 | ⟨k1, k2⟩
    · rw [hm i (old i o ho1)] at hb; rw [hm j (old j p hp1)] at hq
      exact h.apart i j o p b ho1 hp1 hb hq
    · subst k1; subst k2; rw [hm i (old i o ho1)] at hb; rw [Ctx.set_same] at hq
      have := (h.owns i o b ho1 hb).2.1; have := (hown b hq).1; omega
    · subst h1; subst h2; rw [hm j (old j p hp1)] at hq; rw [Ctx.set_same] at hb
      have := (h.owns j p b hp1 hq).2.1; have := (hown b hb).1; omega
    · rw [h1, k1]

/-- A new object that lies in memory already. -/
theorem RW.adopt {Γ : Base} {L : List AObj} {c : Ctx} {w : World} {o' : AObj} {v' : Value} (h : RW Γ L c w)
    (hown : ∀ b, Owns o' v' b → Γ.B ≤ b ∧ b < w.heap.size ∧ ¬ c.S b) (hfree : ∀ id o b, L[id]? = some o → Owns o (c.m id) b → ¬ Owns o' v' b)
    (hobj : Step L c w (L ++ [o']) (c.set L.length v') w → ObjRel (L ++ [o']) (c.set L.length v') w v' o') :
    RW Γ (L ++ [o']) (c.set L.length v') w ∧ Step L c w (L ++ [o']) (c.set L.length v') w := by
  have old : ∀ id o, L[id]? = some o → id < L.length := fun id o ho => (List.getElem?_eq_some_iff.1 ho).1
  have keep : ∀ id o, L[id]? = some o → (L ++ [o'])[id]? = some o := fun id o ho => by rw [List.getElem?_append_left (old id o ho)]; exact ho
  have hm : ∀ id, id < L.length → (c.set L.length v').m id = c.m id := fun id hid => Ctx.set_other _ _ (by omega)
  have hs : Step L c w (L ++ [o']) (c.set L.length v') w :=
    ⟨fun id o ho => ⟨o, keep id o ho, by rw [hm id (old id o ho)]; exact Evol.refl _ _⟩, fun _ h => h, fun b hb => rfl⟩
  have split : ∀ id o, (L ++ [o'])[id]? = some o → (L[id]? = some o) ∨ (id = L.length ∧ o = o') := fun id o ho => by
    by_cases hid : id < L.length
    · rw [List.getElem?_append_left hid] at ho; exact .inl ho
    · rw [List.getElem?_append_right (by omega)] at ho
      have : id - L.length = 0 := by
        have := (List.getElem?_eq_some_iff.1 ho).1
        simp at this; omega
      rw [this] at ho
      exact .inr ⟨by omega, by simpa using ho.symm⟩
  refine ⟨⟨h.below, h.base, h.sub, h.s0, fun id o ho => ?_, fun id o b ho hb => ?_, fun i j o p b ho hp hb hq => ?_⟩, hs⟩
  · rcases split id o ho with ho | ⟨rfl, rfl⟩
    · rw [hm id (old id o ho)]
      exact ObjRel_step hs (fun b hb => rfl) (fun mid k v td cur es e hmid => ⟨⟨es, keep _ _ hmid⟩, hm _ (old _ _ hmid), fun b hb => rfl⟩) (h.objs id o ho)
    · rw [Ctx.set_same]; exact hobj hs
  · rcases split id o ho with ho | ⟨rfl, rfl⟩
    · rw [hm id (old id o ho)] at hb
      exact h.owns id o b ho hb
    · rw [Ctx.set_same] at hb
      exact hown b hb
  · rcases split i o ho with ho1 | ⟨h1, h2⟩ <;> rcases split j p hp with hp1 | ⟨k1, k2⟩
    · rw [hm i (old i o ho1)] at hb; rw [hm j (old j p hp1)] at hq
      exact h.apart i j o p b ho1 hp1 hb hq
    · subst k1; subst k2; rw [hm i (old i o ho1)] at hb; rw [Ctx.set_same] at hq
      exact absurd hq (hfree i o b ho1 hb)
    · subst h1; subst h2; rw [hm j (old j p hp1)] at hq; rw [Ctx.set_same] at hb
      exact absurd hb (hfree j p b hp1 hq)
    · rw [h1, k1]

/-- An object changes. -/
theorem RW.chg {Γ : Base} {L : List AObj} {c : Ctx} {w w' : World} {id : Nat} {o o' : AObj} {v' : Value} (h : RW Γ L c w) (ho : L[id]? = some o) (ha : Alike w w')
    (hh : ∀ b, b < w.heap.size → ¬ Owns o (c.m id) b → w'.heap[b]? = w.heap[b]?)
    (hown : ∀ b, Owns o' v' b → (Owns o (c.m id) b ∨ w.heap.size ≤ b) ∧ b < w'.heap.size)
    (he : Evol o (c.m id) o' v')
    (hit : ∀ i mid k v td cur, i ≠ id → L[i]? = some (.iter mid k v td cur) → mid ≠ id)
    (hobj : Step L c w (L.set id o') (c.set id v') w' → ObjRel (L.set id o') (c.set id v') w' v' o') :
    RW Γ (L.set id o') (c.set id v') w' ∧ Step L c w (L.set id o') (c.set id v') w' := by
  have hid : id < L.length := (List.getElem?_eq_some_iff.1 ho).1
  have same : (L.set id o')[id]? = some o' := by simp [hid]
  have other : ∀ i, i ≠ id → (L.set id o')[i]? = L[i]? := fun i hi => by rw [List.getElem?_set_ne (Ne.symm hi)]
  have hS : ∀ b, c.S b → w'.heap[b]? = w.heap[b]? := fun b hb => hh b (h.sub b hb) (fun k => (h.owns id o b ho k).2.2 hb)
  have hs : Step L c w (L.set id o') (c.set id v') w' := by
    refine ⟨fun i p hp => ?_, fun _ h => h, hS⟩
    by_cases hi : i = id
    · subst hi; rw [ho] at hp; cases hp
      exact ⟨o', same, by rw [Ctx.set_same]; exact he⟩
    · exact ⟨p, by rw [other i hi]; exact hp, by rw [Ctx.set_other _ _ hi]; exact Evol.refl _ _⟩
  have hoth : ∀ i p b, L[i]? = some p → i ≠ id → Owns p (c.m i) b → w'.heap[b]? = w.heap[b]? := fun i p b hp hi hb =>
    hh b (h.owns i p b hp hb).2.1 (fun k => hi (h.apart i id p o b hp ho hb k))
  refine ⟨⟨below_on h.below ha.os ha.tape ha.output ha.size (fun b hb => hh b (Nat.lt_of_lt_of_le hb h.base) (fun k => by have := (h.owns id o b ho k).1; omega)), Nat.le_trans h.base ha.size, fun b hb => Nat.lt_of_lt_of_le (h.sub b hb) ha.size, h.s0, fun i p hp => ?_, fun i p b hp hb => ?_, fun i j p q b hp hq hb hc => ?_⟩, hs⟩
  · by_cases hi : i = id
    · subst hi; rw [same] at hp; cases hp; rw [Ctx.set_same]; exact hobj hs
    · rw [other i hi] at hp; rw [Ctx.set_other _ _ hi]
      refine ObjRel_step hs (fun b hb => hoth i p b hp hi hb) (fun mid k v td cur es e hm => ?_) (h.objs i p hp)
      have hne := hit i mid k v td cur hi (by rw [hp, e])
      exact ⟨⟨es, by rw [other mid hne]; exact hm⟩, Ctx.set_other _ _ hne, fun b hb => hoth mid _ b hm hne hb⟩
  · by_cases hi : i = id
    · subst hi; rw [same] at hp; cases hp; rw [Ctx.set_same] at hb
      obtain ⟨h1, h2⟩ := hown b hb
      rcases h1 with h1 | h1
      · exact ⟨(h.owns i o b ho h1).1, h2, (h.owns i o b ho h1).2.2⟩
      · exact ⟨Nat.le_trans h.base h1, h2, fun hS => by have := h.sub b hS; omega⟩
    · rw [other i hi] at hp; rw [Ctx.set_other _ _ hi] at hb
      exact ⟨(h.owns i p b hp hb).1, Nat.lt_of_lt_of_le (h.owns i p b hp hb).2.1 ha.size, (h.owns i p b hp hb).2.2⟩
  · by_cases hi : i = id <;> by_cases hj : j = id
    · rw [hi, hj]
    · subst hi; rw [same] at hp; cases hp; rw [Ctx.set_same] at hb
      rw [other j hj] at hq; rw [Ctx.set_other _ _ hj] at hc
      rcases (hown b hb).1 with h1 | h1
      · exact h.apart i j o q b ho hq h1 hc
      · have := (h.owns j q b hq hc).2.1; omega
    · subst hj; rw [same] at hq; cases hq; rw [Ctx.set_same] at hc
      rw [other i hi] at hp; rw [Ctx.set_other _ _ hi] at hb
      rcases (hown b hc).1 with h1 | h1
      · exact h.apart i j p o b hp ho hb h1
      · have := (h.owns i p b hp hb).2.1; omega
    · rw [other i hi] at hp; rw [Ctx.set_other _ _ hi] at hb
      rw [other j hj] at hq; rw [Ctx.set_other _ _ hj] at hc
      exact h.apart i j p q b hp hq hb hc

/-- An object is let go: what it held may be leaned on from here on. -/
theorem RW.freeze {Γ : Base} {L : List AObj} {c : Ctx} {w : World} {id : Nat} {o : AObj} (h : RW Γ L c w) (ho : L[id]? = some o)
    (hit : ∀ i mid k v td cur, i ≠ id → L[i]? = some (.iter mid k v td cur) → mid ≠ id) :
    RW Γ (L.set id .gone) ⟨c.m, fun b => c.S b ∨ Owns o (c.m id) b⟩ w ∧ Step L c w (L.set id .gone) ⟨c.m, fun b => c.S b ∨ Owns o (c.m id) b⟩ w := by
  have hid : id < L.length := (List.getElem?_eq_some_iff.1 ho).1
  have same : (L.set id .gone)[id]? = some .gone := by simp [hid]
  have other : ∀ i, i ≠ id → (L.set id .gone)[i]? = L[i]? := fun i hi => by rw [List.getElem?_set_ne (Ne.symm hi)]
  have hs : Step L c w (L.set id .gone) ⟨c.m, fun b => c.S b ∨ Owns o (c.m id) b⟩ w := by
    refine ⟨fun i p hp => ?_, fun _ h => .inl h, fun _ _ => rfl⟩
    by_cases hi : i = id
    · subst hi; rw [ho] at hp; cases hp
      exact ⟨.gone, same, by cases o <;> simp [Evol]⟩
    · exact ⟨p, by rw [other i hi]; exact hp, Evol.refl _ _⟩
  refine ⟨⟨h.below, h.base, fun b hb => ?_, fun b hb => ?_, fun i p hp => ?_, fun i p b hp hb => ?_, fun i j p q b hp hq hb hc => ?_⟩, hs⟩
  · rcases hb with hb | hb
    · exact h.sub b hb
    · exact (h.owns id o b ho hb).2.1
  · rcases hb with hb | hb
    · exact h.s0 b hb
    · exact .inr (h.owns id o b ho hb).1
  · by_cases hi : i = id
    · subst hi; rw [same] at hp; cases hp; trivial
    · rw [other i hi] at hp
      refine ObjRel_step hs (fun b hb => rfl) (fun mid k v td cur es e hm => ?_) (h.objs i p hp)
      have hne := hit i mid k v td cur hi (by rw [hp, e])
      exact ⟨⟨es, by rw [other mid hne]; exact hm⟩, rfl, fun b hb => rfl⟩
  · by_cases hi : i = id
    · subst hi; rw [same] at hp; cases hp; exact hb.elim
    · rw [other i hi] at hp
      obtain ⟨h1, h2, h3⟩ := h.owns i p b hp hb
      refine ⟨h1, h2, fun hS => ?_⟩
      rcases hS with hS | hS
      · exact h3 hS
      · exact hi (h.apart i id p o b hp ho hb hS)
  · by_cases hi : i = id
    · subst hi; rw [same] at hp; cases hp; exact hb.elim
    · by_cases hj : j = id
      · subst hj; rw [same] at hq; cases hq; exact hc.elim
      · rw [other i hi] at hp; rw [other j hj] at hq
        exact h.apart i j p q b hp hq hb hc

end Go.Proofs.Ytodjomdnlcledaa.X
