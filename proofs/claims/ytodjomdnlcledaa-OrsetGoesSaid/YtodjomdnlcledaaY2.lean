/- Parts of parts; data out of abstract values. -/
import Derived.Test.YtodjomdnlcledaaY1
namespace Go.Proofs.Ytodjomdnlcledaa.X
open Go Go.RowKit
set_option linter.unusedVariables false
set_option linter.unusedSimpArgs false

section
variable {L : List AObj} {c : Ctx} {w : World}

theorem dropCh_some : ∀ (cs : List AV) (n : Nat) (p r : List AV), dropCh cs n = some (p, r) → cs = p ++ r ∧ (p.map AV.size).sum = n
  | [], 0, p, r, h => by simp only [dropCh, Option.some.injEq, Prod.mk.injEq] at h; obtain ⟨rfl, rfl⟩ := h; simp
  | _ :: _, 0, p, r, h => by simp only [dropCh, Option.some.injEq, Prod.mk.injEq] at h; obtain ⟨rfl, rfl⟩ := h; simp
  | [], _ + 1, p, r, h => by simp [dropCh] at h
  | a :: cs, n + 1, p, r, h => by
    simp only [dropCh] at h
    cases hb : Nat.ble a.size (n + 1) with
    | false => rw [hb] at h; cases h
    | true =>
      rw [hb] at h
      have hle : a.size ≤ n + 1 := Nat.le_of_ble_eq_true hb
      simp only [cond_true] at h
      split at h
      · rename_i p' r' hd
        simp only [Option.some.injEq, Prod.mk.injEq] at h
        obtain ⟨rfl, rfl⟩ := h
        obtain ⟨h1, h2⟩ := dropCh_some cs _ _ _ hd
        exact ⟨by rw [h1]; rfl, by simp [h2]; omega⟩
      · cases h

theorem midCh_some {cs : List AV} {off n : Nat} {p m q : List AV} (h : midCh cs off n = some (p, m, q)) :
    cs = p ++ (m ++ q) ∧ (p.map AV.size).sum = off ∧ (m.map AV.size).sum = n := by
  unfold midCh at h
  split at h
  · rename_i p' r hd
    split at h
    · rename_i m' q' hd'
      simp only [Option.some.injEq, Prod.mk.injEq] at h
      obtain ⟨rfl, rfl, rfl⟩ := h
      obtain ⟨h1, h2⟩ := dropCh_some _ _ _ _ hd
      obtain ⟨k1, k2⟩ := dropCh_some _ _ _ _ hd'
      exact ⟨by rw [h1, k1], h2, k2⟩
    · cases h
  · cases h

theorem RelCh_split {as bs : List AV} {f : Nat → Option Value} (h : RelCh L c w (as ++ bs) f) : RelCh L c w as f ∧ RelCh L c w bs (fun j => f (j + (as.map AV.size).sum)) := by
  induction as generalizing f with
  | nil => exact ⟨trivial, by simpa using h⟩
  | cons a as ih =>
    have h' : RelCh L c w (a :: (as ++ bs)) f := h
    obtain ⟨h1, h2⟩ := RelCh_one h'
    obtain ⟨k1, k2⟩ := ih h2
    refine ⟨?_, ?_⟩
    · cases a <;> simp only [AV.size] at h1 k1 <;> exact ⟨h1, k1⟩
    · have e : (fun j => f (j + (as.map AV.size).sum + a.size)) = fun j => f (j + ((a :: as).map AV.size).sum) := by funext j; congr 1; simp; omega
      rw [← e]; exact k2

theorem RelCh_congr {as : List AV} {f g : Nat → Option Value} (h : RelCh L c w as f) (hf : ∀ j, j < (as.map AV.size).sum → f j = g j) : RelCh L c w as g := by
  induction as generalizing f g with
  | nil => trivial
  | cons a as ih =>
    obtain ⟨h1, h2⟩ := RelCh_one h
    have h3 := ih h2 (g := fun j => g (j + a.size)) (fun j hj => hf _ (by simp; omega))
    cases a <;> simp only [AV.size] at h1 h3 <;> first
      | exact ⟨fun j hj => by rw [← hf j (by simp [AV.size]; omega)]; exact h1 j hj, h3⟩
      | exact ⟨by rw [← hf 0 (by simp [AV.size]; omega)]; exact h1, h3⟩

theorem headD_size {t : Ty} {a : AV} {x : t.den} (h : headD L t a = some x) : a.size = t.size ∧ ((∀ t' y, a ≠ .d t' y) → t.isAgg = false) := by
  cases a <;> simp only [headD] at h <;> try (cases h; done)
  case d t' y => obtain ⟨e, _⟩ := castD_some h; subst e; exact ⟨rfl, fun hh => absurd rfl (hh _ _)⟩
  case raw v => have := (ofRaw_cell (S := fun _ => True) (w := default) h).1; cases t <;> simp [Ty.isAgg] at this <;> exact ⟨rfl, fun _ => rfl⟩
  all_goals (cases t <;> simp only at h <;> first | (cases h; done) | exact ⟨rfl, fun _ => rfl⟩)

theorem unleaf_size {deep : Bool} : ∀ (t : Ty) (as : List AV) (x : t.den) (r : List AV), unleaf L deep t as = some (x, r) → (as.map AV.size).sum = t.size + (r.map AV.size).sum
  | .pair a b, as, x, r, h => by
    simp only [unleaf] at h
    split at h
    · rename_i y cs h1
      split at h
      · rename_i z cs' h2
        simp only [Option.some.injEq, Prod.mk.injEq] at h
        obtain ⟨_, rfl⟩ := h
        rw [unleaf_size a _ _ _ h1, unleaf_size b _ _ _ h2]; simp only [Ty.size]; omega
      · cases h
    · cases h
  | .unit, as, x, r, h => by
    simp only [unleaf, Option.some.injEq, Prod.mk.injEq] at h
    obtain ⟨_, rfl⟩ := h; simp [Ty.size]
  | .int _, as, x, r, h | .bool, as, x, r, h | .str, as, x, r, h | .arr _ _, as, x, r, h | .slice _, as, x, r, h => by
    cases as with
    | nil => simp [unleaf] at h
    | cons a as =>
      simp only [unleaf, Option.map_eq_some_iff, Prod.mk.injEq] at h
      obtain ⟨y, h1, _, rfl⟩ := h
      simp [(headD_size h1).1]
  | .ref t, as, x, r, h => by
    unfold unleaf at h
    split at h
    · cases deep with
      | false => cases h
      | true =>
        simp only [cond_true] at h
        split at h
        · split at h
          · simp only [Option.some.injEq, Prod.mk.injEq] at h
            obtain ⟨_, rfl⟩ := h; simp [AV.size, Ty.size]
          · cases h
        · cases h
    · simp only [Option.map_eq_some_iff, Prod.mk.injEq] at h
      obtain ⟨y, h1, _, rfl⟩ := h
      simp [(headD_size h1).1]
    · cases h

theorem CellsOf.val_agg {S : BSet} {t : Ty} {x : t.den} {us : Array Value} (ht : t.isAgg = true) (hs : us.size = t.size) (h : CellsOf S w t x (fun j => us[j]?)) : t.val S w x (.agg us) :=
  ⟨by simp [aggB, ht], hs, h⟩

theorem toData_val {Γ : Base} (hw : RW Γ L c w) {S : BSet} {deep : Bool} {t : Ty} {a : AV} {x : t.den} {v : Value} (hl : Lend L c deep a.parts S) (hl' : Lend L c deep [a] S) (ha : RelAV L c w a v)
    (h : toData L deep t a = some x) : t.val S w x v := by
  have one : ∀ a, (∀ t' y, a ≠ .d t' y) → (bif t.isAgg then none else (match unleaf L deep t [a] with | some (x, []) => some x | _ => none)) = some x → Lend L c deep [a] S → RelAV L c w a v → t.val S w x v := by
    intro a hna h hl ha
    cases ht : t.isAgg with
    | true => rw [ht] at h; cases h
    | false =>
      rw [ht] at h
      simp only [cond_false] at h
      split at h
      · rename_i y hy
        simp only [Option.some.injEq] at h
        subst h
        obtain ⟨h1, _, _⟩ := unleaf_cells hw t [a] (fun j => if j = 0 then some v else none) y [] hl ((RelCh_cons hna).2 ⟨⟨v, rfl, ha⟩, trivial⟩) hy
        have hs : t.size = 1 := by cases t <;> simp [Ty.isAgg] at ht <;> rfl
        obtain ⟨cv, k1, k2⟩ := h1 0 (by omega)
        simp only [if_true, Option.some.injEq] at k1
        subst k1
        exact Ty.val_of_cell ht k2
      · cases h
  cases a with
  | d t' y => simp only [toData] at h; simp only [RelAV] at ha; exact castD_val h (Ty.val_mono hl.1 (fun _ _ => rfl) ha)
  | agg cs =>
    simp only [toData] at h
    cases ht : t.isAgg with
    | false => rw [ht] at h; cases h
    | true =>
      rw [ht] at h
      simp only [cond_true] at h
      split at h
      · rename_i y hy
        simp only [Option.some.injEq] at h
        subst h
        simp only [RelAV] at ha
        obtain ⟨us, rfl, hsz, hch⟩ := ha
        obtain ⟨h1, _, _⟩ := unleaf_cells hw t cs _ y [] hl hch hy
        have := unleaf_size t cs y [] hy
        exact CellsOf.val_agg ht (by rw [hsz, this]; simp) h1
      · cases h
  | raw u => exact one _ (by intro _ _ e; cases e) h hl' ha
  | own id ver e => exact one _ (by intro _ _ e; cases e) h hl' ha
  | sub id ver e lo hi => exact one _ (by intro _ _ e; cases e) h hl' ha
  | ptr id off => exact one _ (by intro _ _ e; cases e) h hl' ha
  | pix id off n k i => exact one _ (by intro _ _ e; cases e) h hl' ha
  | rowp id ver e i off => exact one _ (by intro _ _ e; cases e) h hl' ha
  | imp t' y => exact one _ (by intro _ _ e; cases e) h hl' ha
  | mp id => exact one _ (by intro _ _ e; cases e) h hl' ha
  | iter id => exact one _ (by intro _ _ e; cases e) h hl' ha
  | fn f fs cs => exact one _ (by intro _ _ e; cases e) h hl' ha
  | tup vs => exact one _ (by intro _ _ e; cases e) h hl' ha
  | junk => exact one _ (by intro _ _ e; cases e) h hl' ha

theorem Lend.none (as : List AV) : Lend [] c false as c.S := ⟨fun _ h => h, fun _ _ _ _ _ ho => by simp at ho, fun h => by cases h⟩

/-- The objects fewer: none. -/
theorem headD_nil {t : Ty} {a : AV} {x : t.den} (h : headD [] t a = some x) : headD L t a = some x ∧ a.rowId = none := by
  cases a <;> simp only [headD] at h ⊢ <;> try (cases h; done)
  case own id ver e => cases t <;> simp [rowData] at h
  case sub id ver e lo hi => cases t <;> simp [rowData] at h
  all_goals exact ⟨h, rfl⟩

theorem unleaf_nil : ∀ (t : Ty) (as : List AV) (x : t.den) (r : List AV), unleaf [] false t as = some (x, r) →
    unleaf L false t as = some (x, r) ∧ ∃ p, as = p ++ r ∧ ∀ av ∈ p, AV.rowId av = none
  | .pair a b, as, x, r, h => by
    simp only [unleaf] at h ⊢
    split at h
    · rename_i y cs h1
      split at h
      · rename_i z cs' h2
        simp only [Option.some.injEq, Prod.mk.injEq] at h
        obtain ⟨rfl, rfl⟩ := h
        obtain ⟨k1, p, k2, k3⟩ := unleaf_nil a _ _ _ h1
        obtain ⟨m1, q, m2, m3⟩ := unleaf_nil b _ _ _ h2
        simp only [k1, m1]
        refine ⟨trivial, p ++ q, by rw [k2, m2, List.append_assoc], fun av hm => ?_⟩
        rcases List.mem_append.1 hm with hm | hm
        · exact k3 _ hm
        · exact m3 _ hm
      · cases h
    · cases h
  | .unit, as, x, r, h => by
    simp only [unleaf, Option.some.injEq, Prod.mk.injEq] at h ⊢
    exact ⟨⟨trivial, h.2⟩, [], by simp [h.2], by simp⟩
  | .int _, as, x, r, h | .bool, as, x, r, h | .str, as, x, r, h | .arr _ _, as, x, r, h | .slice _, as, x, r, h => by
    cases as with
    | nil => simp [unleaf] at h
    | cons a as =>
      simp only [unleaf, Option.map_eq_some_iff, Prod.mk.injEq] at h ⊢
      obtain ⟨y, h1, h2, rfl⟩ := h
      obtain ⟨k1, k2⟩ := headD_nil (L := L) h1
      exact ⟨⟨y, k1, h2, rfl⟩, [a], rfl, fun av hm => by rw [List.mem_singleton.1 hm]; exact k2⟩
  | .ref t, as, x, r, h => by
    cases as with
    | nil => simp [unleaf] at h
    | cons a as =>
      have hh : ∃ y, headD [] (.ref t) a = some y ∧ y = x ∧ as = r := by
        cases a <;> first
          | (simp only [unleaf, Option.map_eq_some_iff, Prod.mk.injEq] at h; exact h)
          | (rename_i id off; cases off <;> simp [unleaf, headD] at h)
      obtain ⟨y, h1, h2, rfl⟩ := hh
      obtain ⟨k1, k2⟩ := headD_nil (L := L) h1
      refine ⟨?_, [a], rfl, fun av hm => by rw [List.mem_singleton.1 hm]; exact k2⟩
      cases a <;> first
        | (simp [headD] at h1; done)
        | (simp only [unleaf, k1, Option.map_some, h2]; done)

theorem gatherAgg_val {Γ : Base} (hw : RW Γ L c w) {u : Ty} {m : List AV} {us : Array Value} (ht : u.isAgg = true) (hs : (m.map AV.size).sum = u.size) (hz : us.size = u.size) (h : RelCh L c w m (fun j => us[j]?)) :
    RelAV L c w (gatherAgg u m) (.agg us) := by
  unfold gatherAgg
  have agg : RelAV L c w (.agg m) (.agg us) := by simp only [RelAV]; exact ⟨us, rfl, by rw [hz, hs], h⟩
  cases allD m with
  | false => exact agg
  | true =>
    simp only [cond_true]
    split
    · rename_i x hx
      obtain ⟨h1, p, h2, h3⟩ := unleaf_nil (L := L) u m x [] hx
      have hl : Lend L c false m c.S := ⟨fun _ h => h, fun id av hm he => by (rw [h3 av (by rw [h2, List.append_nil] at hm; exact hm)] at he; exact absurd he (by simp)), fun h => by cases h⟩
      obtain ⟨k1, _, _⟩ := unleaf_cells hw u m _ x [] hl h h1
      simp only [RelAV]
      exact CellsOf.val_agg ht hz k1
    · exact agg

theorem leafOut_rel {a : AV} {f : Nat → Option Value} {cv : Value} (hs : a.size = 1) (h : RelCh L c w [a] f) (hf : f 0 = some cv) : RelAV L c w (leafOut a) cv := by
  by_cases hd : ∃ t x, a = .d t x
  · obtain ⟨t, x, rfl⟩ := hd
    simp only [leafOut]
    cases ht : t.isAgg with
    | true => simp only [cond_true, RelAV]
    | false =>
      simp only [cond_false, RelAV]
      obtain ⟨cv', k1, k2⟩ := (RelCh_one h).1 0 (by simp only [AV.size] at hs; omega)
      rw [hf] at k1; cases k1
      exact Ty.val_of_cell ht k2
  · obtain ⟨⟨cv', k1, k2⟩, _⟩ := (RelCh_cons (fun t x e => hd ⟨t, x, e⟩)).1 h
    rw [hf] at k1; cases k1
    cases a <;> first
      | exact k2
      | (simp only [leafOut, RelAV]; done)
      | (exact absurd ⟨_, _, rfl⟩ hd)

theorem gather_agg {Γ : Base} (hw : RW Γ L c w) {u : Ty} {m : List AV} {us : Array Value} (ht : u.isAgg = true) (hs : (m.map AV.size).sum = u.size) (hz : us.size = u.size) (h : RelCh L c w m (fun j => us[j]?)) :
    RelAV L c w (gather u m) (.agg us) := by
  unfold gather
  rw [ht]
  simp only [cond_true]
  split
  · rename_i t' x
    split
    · rename_i y hy
      obtain ⟨e, hx⟩ := castD_some hy
      subst e
      simp only at hx
      subst hx
      simp only [RelAV]
      obtain ⟨h1, _⟩ := RelCh_one h
      exact CellsOf.val_agg ht hz h1
    · exact gatherAgg_val hw ht hs hz h
  · exact gatherAgg_val hw ht hs hz h

theorem gather_leaf {u : Ty} {m : List AV} {f : Nat → Option Value} {cv : Value} (ht : u.isAgg = false) (hs : (m.map AV.size).sum = u.size) (h : RelCh L c w m f) (hf : f 0 = some cv) :
    RelAV L c w (gather u m) cv := by
  have hu : u.size = 1 := by cases u <;> simp [Ty.isAgg] at ht <;> rfl
  unfold gather
  rw [ht]
  simp only [cond_false]
  split
  · rename_i a
    exact leafOut_rel (by simpa [hu] using hs) h hf
  · simp only [RelAV]

theorem subD_cells {S : BSet} : ∀ (t : Ty) (x : t.den) (off : Nat) (u : Ty) (y : u.den) (f : Nat → Option Value), CellsOf S w t x f → subD t x off u = some y →
    CellsOf S w u y (fun j => f (off + j)) ∧ off + u.size ≤ t.size
  | .pair a b, x, off, u, y, f, hx, h => by
    simp only [subD] at h
    split at h
    · rename_i z hz
      simp only [Option.some.injEq] at h
      subst h
      cases off with
      | zero =>
        simp only at hz
        obtain ⟨e, hx'⟩ := castD_some hz
        subst e
        simp only at hx'
        subst hx'
        exact ⟨CellsOf.mono hx (fun _ h => h) (fun j _ => by simp), by simp⟩
      | succ n => simp at hz
    · cases hb : Nat.ble a.size off with
      | true =>
        rw [hb] at h
        have hle := Nat.le_of_ble_eq_true hb
        obtain ⟨k1, k2⟩ := subD_cells b x.2 (off - a.size) u y _ hx.snd h
        refine ⟨CellsOf.mono k1 (fun _ h => h) (fun j _ => by show f _ = f _; congr 1; omega), by simp only [Ty.size]; omega⟩
      | false =>
        rw [hb] at h
        obtain ⟨k1, k2⟩ := subD_cells a x.1 off u y _ hx.fst h
        exact ⟨k1, by simp only [Ty.size]; omega⟩
  | .int _, x, 0, u, y, f, hx, h | .bool, x, 0, u, y, f, hx, h | .str, x, 0, u, y, f, hx, h | .arr _ _, x, 0, u, y, f, hx, h | .slice _, x, 0, u, y, f, hx, h | .ref _, x, 0, u, y, f, hx, h => by
    simp only [subD] at h
    obtain ⟨e, hx'⟩ := castD_some h
    subst e
    simp only at hx'
    subst hx'
    exact ⟨CellsOf.mono hx (fun _ h => h) (fun j _ => by simp), by simp⟩
  | .unit, x, 0, u, y, f, hx, h => by
    simp only [subD] at h
    obtain ⟨e, _⟩ := castD_some h
    subst e
    exact ⟨fun j hj => by simp [Ty.size] at hj, by simp⟩
  | .int _, x, _ + 1, u, y, f, hx, h | .bool, x, _ + 1, u, y, f, hx, h | .str, x, _ + 1, u, y, f, hx, h | .arr _ _, x, _ + 1, u, y, f, hx, h | .slice _, x, _ + 1, u, y, f, hx, h | .ref _, x, _ + 1, u, y, f, hx, h | .unit, x, _ + 1, u, y, f, hx, h => by
    simp [subD] at h

/-- A datum with another part: its cells are those, with others in one place. -/
theorem updD_cells {S : BSet} : ∀ (t : Ty) (x : t.den) (off : Nat) (u : Ty) (y : u.den) (z : t.den) (f g : Nat → Option Value), CellsOf S w t x f → updD t x off u y = some z →
    CellsOf S w u y (fun j => g (off + j)) → (∀ j, j < off ∨ off + u.size ≤ j → g j = f j) → CellsOf S w t z g ∧ off + u.size ≤ t.size
  | .pair a b, x, off, u, y, z, f, g, hx, h, hy, hg => by
    simp only [updD] at h
    split at h
    · rename_i z' hz
      simp only [Option.some.injEq] at h
      subst h
      cases off with
      | zero =>
        simp only at hz
        obtain ⟨e, hx'⟩ := castD_some hz
        subst e
        simp only at hx'
        subst hx'
        exact ⟨CellsOf.mono hy (fun _ h => h) (fun j _ => by simp), by simp⟩
      | succ n => simp at hz
    · cases hb : Nat.ble a.size off with
      | true =>
        rw [hb] at h
        have hle := Nat.le_of_ble_eq_true hb
        simp only [cond_true, Option.map_eq_some_iff] at h
        obtain ⟨z2, h2, rfl⟩ := h
        obtain ⟨k1, k2⟩ := updD_cells b x.2 (off - a.size) u y z2 _ (fun j => g (j + a.size)) hx.snd h2
          (CellsOf.mono hy (fun _ h => h) (fun j _ => by show g _ = g _; congr 1; omega)) (fun j hj => hg (j + a.size) (by omega))
        refine ⟨CellsOf.pair (CellsOf.mono hx.fst (fun _ h => h) (fun j hj => (hg j (by omega)).symm)) k1, by simp only [Ty.size]; omega⟩
      | false =>
        rw [hb] at h
        simp only [cond_false, Option.map_eq_some_iff] at h
        obtain ⟨z1, h1, rfl⟩ := h
        obtain ⟨k1, k2⟩ := updD_cells a x.1 off u y z1 f g hx.fst h1 hy hg
        refine ⟨CellsOf.pair k1 (CellsOf.mono hx.snd (fun _ h => h) (fun j hj => (hg (j + a.size) (by omega)).symm)), by simp only [Ty.size]; omega⟩
  | .int _, x, 0, u, y, z, f, g, hx, h, hy, hg | .bool, x, 0, u, y, z, f, g, hx, h, hy, hg | .str, x, 0, u, y, z, f, g, hx, h, hy, hg | .arr _ _, x, 0, u, y, z, f, g, hx, h, hy, hg
  | .slice _, x, 0, u, y, z, f, g, hx, h, hy, hg | .ref _, x, 0, u, y, z, f, g, hx, h, hy, hg => by
    simp only [updD] at h
    obtain ⟨e, hx'⟩ := castD_some h
    subst e
    simp only at hx'
    subst hx'
    exact ⟨CellsOf.mono hy (fun _ h => h) (fun j _ => by simp), by simp⟩
  | .unit, x, 0, u, y, z, f, g, hx, h, hy, hg => by
    simp only [updD] at h
    obtain ⟨e, _⟩ := castD_some h
    subst e
    exact ⟨fun j hj => by simp [Ty.size] at hj, by simp⟩
  | .int _, x, _ + 1, u, y, z, f, g, hx, h, hy, hg | .bool, x, _ + 1, u, y, z, f, g, hx, h, hy, hg | .str, x, _ + 1, u, y, z, f, g, hx, h, hy, hg | .arr _ _, x, _ + 1, u, y, z, f, g, hx, h, hy, hg
  | .slice _, x, _ + 1, u, y, z, f, g, hx, h, hy, hg | .ref _, x, _ + 1, u, y, z, f, g, hx, h, hy, hg | .unit, x, _ + 1, u, y, z, f, g, hx, h, hy, hg => by
    simp [updD] at h
end

end Go.Proofs.Ytodjomdnlcledaa.X
