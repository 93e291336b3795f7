/- The conversions between data and parts are sound. -/
import Derived.Test.YtodjomdnlcledaaX6
namespace Go.Proofs.Ytodjomdnlcledaa.X
open Go Go.RowKit
set_option linter.unusedVariables false
set_option linter.unusedSimpArgs false

section
variable {L : List AObj} {c : Ctx} {w : World}

theorem castD_some {t t' : Ty} {x : t.den} {y : t'.den} (h : castD t t' x = some y) : ∃ e : t = t', e ▸ x = y := by
  unfold castD at h
  split at h
  · rename_i e; exact ⟨e, by simpa using h⟩
  · cases h

theorem castL_some {t t' : Ty} {x : List t.den} {y : List t'.den} (h : castL t t' x = some y) : ∃ e : t = t', e ▸ x = y := by
  unfold castL at h
  split at h
  · rename_i e; exact ⟨e, by simpa using h⟩
  · cases h

theorem castD_cell {S : BSet} {t t' : Ty} {x : t.den} {y : t'.den} (h : castD t t' x = some y) {j : Nat} {v : Value} (hv : t.cell S w x j v) : t'.cell S w y j v := by
  obtain ⟨e, rfl⟩ := castD_some h
  subst e; exact hv

theorem castD_val {S : BSet} {t t' : Ty} {x : t.den} {y : t'.den} (h : castD t t' x = some y) {v : Value} (hv : t.val S w x v) : t'.val S w y v := by
  obtain ⟨e, rfl⟩ := castD_some h
  subst e; exact hv

theorem castD_size {t t' : Ty} {x : t.den} {y : t'.den} (h : castD t t' x = some y) : t = t' := (castD_some h).1

theorem ofRaw_cell {S : BSet} : ∀ {t : Ty} {v : Value} {x : t.den}, ofRaw t v = some x → t.isAgg = false ∧ t.cell S w x 0 v
  | .slice e, .slice none 0 0, x, h => by
    simp only [ofRaw, Option.some.injEq] at h
    subst h
    exact ⟨rfl, none, 0, rfl, Nat.le_refl _, fun _ => rfl, fun hne => absurd rfl hne⟩
  | .ref t, .pointer none, x, h => by
    simp only [ofRaw, Option.some.injEq] at h
    subst h
    exact ⟨rfl, rfl⟩
  | .int _, v, x, h => by simp [ofRaw] at h
  | .bool, v, x, h => by simp [ofRaw] at h
  | .str, v, x, h => by simp [ofRaw] at h
  | .arr _ _, v, x, h => by simp [ofRaw] at h
  | .pair _ _, v, x, h => by simp [ofRaw] at h
  | .unit, v, x, h => by simp [ofRaw] at h
  | .slice _, .bool _, _, h | .slice _, .int _ _, _, h | .slice _, .float _ _, _, h | .slice _, .complex _ _ _, _, h | .slice _, .string _, _, h | .slice _, .pointer _, _, h
  | .slice _, .slice (some _) _ _, _, h | .slice _, .slice none (_ + 1) _, _, h | .slice _, .slice none 0 (_ + 1), _, h
  | .slice _, .map _, _, h | .slice _, .chan _, _, h | .slice _, .func _ _ _, _, h | .slice _, .nilFunc, _, h | .slice _, .iface _ _, _, h | .slice _, .nilIface, _, h
  | .slice _, .agg _, _, h | .slice _, .tuple _, _, h => by simp [ofRaw] at h
  | .ref _, .bool _, _, h | .ref _, .int _ _, _, h | .ref _, .float _ _, _, h | .ref _, .complex _ _ _, _, h | .ref _, .string _, _, h | .ref _, .pointer (some _), _, h
  | .ref _, .slice _ _ _, _, h
  | .ref _, .map _, _, h | .ref _, .chan _, _, h | .ref _, .func _ _ _, _, h | .ref _, .nilFunc, _, h | .ref _, .iface _ _, _, h | .ref _, .nilIface, _, h
  | .ref _, .agg _, _, h | .ref _, .tuple _, _, h => by simp [ofRaw] at h

/-- Blocks that may be read where these abstract values are handed on. -/
def Lend (L : List AObj) (c : Ctx) (deep : Bool) (as : List AV) (S : BSet) : Prop :=
  (∀ b, c.S b → S b) ∧ (∀ id av, av ∈ as → av.rowId = some id → ∀ o, L[id]? = some o → ∀ b, Owns o (c.m id) b → S b) ∧
    (deep = true → ∀ id o, L[id]? = some o → ∀ b, Owns o (c.m id) b → S b)

theorem RowRel.slice {S : BSet} {e : Ty} {xs : List e.den} {T : TypeId} {loc : Value} (h : RowRel c w loc T e xs) (hS : ∀ b, c.S b → S b)
    (hb : ∀ b n cap, loc = .slice (some ⟨b, 0, none⟩) n cap → S b) : (Ty.slice e).cell S w xs 0 loc := by
  rcases h with ⟨rfl, rfl⟩ | ⟨b, cap, cells, rfl, hc, hl, hh, hs, hx⟩
  · exact ⟨none, 0, rfl, Nat.le_refl _, fun _ => rfl, fun hne => absurd rfl hne⟩
  · refine ⟨some ⟨b, 0, none⟩, cap, rfl, hl, (fun e => by cases e), fun hne => ⟨b, 0, rfl, hb b _ cap rfl, fun i x hi j hj => ?_⟩⟩
    obtain ⟨cv, h1, h2⟩ := hx i x hi j hj
    refine ⟨cv, ?_, Ty.cell_mono hS (fun _ _ => rfl) e x j cv h2⟩
    simp [World.cell?, hh, h1]

theorem RowRel.window {S : BSet} {e : Ty} {xs : List e.den} {T : TypeId} {loc v : Value} {lo hi : Int} (h : RowRel c w loc T e xs) (hS : ∀ b, c.S b → S b)
    (hb : ∀ b n cap, loc = .slice (some ⟨b, 0, none⟩) n cap → S b) (hs : SubAt loc e.size lo hi v) : (Ty.slice e).cell S w (List.take (hi.toNat - lo.toNat) (List.drop lo.toNat xs)) 0 v := by
  obtain ⟨h0, h1, hs⟩ := hs
  rcases h with ⟨rfl, rfl⟩ | ⟨b, cap, cells, rfl, hc, hl, hh, hsz, hx⟩
  · rcases hs with ⟨_, rfl, rfl⟩ | ⟨b, n, cap, a, e1, _⟩
    · exact ⟨none, 0, by simp, by simp, fun _ => rfl, fun hne => absurd (by simp) hne⟩
    · cases e1
  · rcases hs with ⟨e1, _⟩ | ⟨b', n, cap', a, e1, e2, e2', rfl, e3⟩
    · cases e1
    · simp only [Value.slice.injEq, Option.some.injEq, Addr.mk.injEq, and_true] at e1
      obtain ⟨rfl, rfl, rfl⟩ := e1
      have hlen : (List.take (hi.toNat - lo.toNat) (List.drop lo.toNat xs)).length = hi.toNat - lo.toNat := by
        rw [List.length_take, List.length_drop]; omega
      refine ⟨some a, cap - lo.toNat, by rw [hlen], by rw [hlen]; omega, (fun e => by cases e), fun hne => ?_⟩
      have hpos : 0 < hi.toNat - lo.toNat := by rw [← hlen]; exact List.length_pos_iff.2 hne
      refine ⟨b, lo.toNat * e.size, by rw [e3 (by omega)], hb b _ cap rfl, fun i x hi' j hj => ?_⟩
      have hlt : i < hi.toNat - lo.toNat := by rw [← hlen]; exact (List.getElem?_eq_some_iff.1 hi').1
      rw [List.getElem?_take_of_lt hlt, List.getElem?_drop] at hi'
      obtain ⟨cv, q1, q2⟩ := hx _ x hi' j hj
      refine ⟨cv, ?_, Ty.cell_mono hS (fun _ _ => rfl) e x j cv q2⟩
      rw [Nat.add_mul] at q1
      simp only [World.cell?, hh]
      rw [show lo.toNat * e.size + (i * e.size + j) = lo.toNat * e.size + i * e.size + j by omega]
      simp [q1]

theorem rowData_some {id ver : Nat} {e : Ty} {xs : List e.den} (h : rowData L id ver e = some xs) : ∃ T, L[id]? = some (.row ver T e xs) := by
  unfold rowData at h
  split at h
  · rename_i cv T e' ys ho
    cases hb : Nat.beq ver cv with
    | false => rw [hb] at h; cases h
    | true =>
      rw [hb] at h
      obtain ⟨rfl, hx⟩ := castL_some h
      have : ver = cv := Nat.eq_of_beq_eq_true hb
      subst this
      simp only at hx
      subst hx
      exact ⟨T, ho⟩
  · cases h

theorem headD_cell {Γ : Base} (hw : RW Γ L c w) {S : BSet} {deep : Bool} {t : Ty} {a : AV} {x : t.den} {v : Value} (hl : Lend L c deep [a] S) (ha : RelAV L c w a v) (h : headD L t a = some x) :
    t.val S w x v ∨ (t.isAgg = false ∧ t.cell S w x 0 v) := by
  cases a <;> simp only [headD] at h <;> try (cases h; done)
  case d t' y =>
    simp only [RelAV] at ha
    exact .inl (castD_val h (Ty.val_mono hl.1 (fun _ _ => rfl) ha))
  case raw u =>
    simp only [RelAV] at ha
    subst ha
    exact .inr (ofRaw_cell h)
  case own id ver e =>
    cases t <;> simp only at h <;> try (cases h; done)
    rename_i e'
    obtain ⟨T, ho⟩ := rowData_some h
    simp only [RelAV, RowAt, ho] at ha
    have hv := ha.2 trivial
    subst hv
    have hr : RowRel c w (c.m id) T e' x := hw.objs id _ ho
    refine .inr ⟨rfl, hr.slice hl.1 (fun b n cap hb => hl.2.1 id _ (List.mem_singleton.2 rfl) rfl _ ho b ⟨n, cap, hb⟩)⟩
  case sub id ver e lo hi =>
    cases t <;> simp only at h <;> try (cases h; done)
    rename_i e'
    cases hd : decide (e = e') with
    | false => rw [hd] at h; cases h
    | true =>
    rw [hd] at h
    simp only [cond_true] at h
    have hee : e = e' := of_decide_eq_true hd
    subst hee
    simp only [Option.map_eq_some_iff] at h
    obtain ⟨xs, hxs, rfl⟩ := h
    obtain ⟨T, ho⟩ := rowData_some hxs
    simp only [RelAV, RowAt, ho] at ha
    have hr : RowRel c w (c.m id) T e xs := hw.objs id _ ho
    exact .inr ⟨rfl, hr.window hl.1 (fun b n cap hb => hl.2.1 id _ (List.mem_singleton.2 rfl) rfl _ ho b ⟨n, cap, hb⟩) (ha.2 trivial)⟩
  case imp t' y =>
    cases t <;> simp only at h <;> try (cases h; done)
    rename_i t''
    simp only [Option.map_eq_some_iff] at h
    obtain ⟨z, hz, rfl⟩ := h
    obtain ⟨e, hz⟩ := castD_some hz
    subst e
    simp only at hz
    subst hz
    simp only [RelAV] at ha
    obtain ⟨b, o, hv, hb, hc⟩ := ha
    refine .inr ⟨rfl, b, o, hv, hl.1 b hb, fun j hj => ?_⟩
    obtain ⟨cv, h1, h2⟩ := hc j hj
    exact ⟨cv, h1, Ty.cell_mono hl.1 (fun _ _ => rfl) _ _ _ _ h2⟩

/-- All parts of a datum lie where they belong. -/
def CellsOf (S : BSet) (w : World) (t : Ty) (x : t.den) (f : Nat → Option Value) : Prop := ∀ j, j < t.size → ∃ cv, f j = some cv ∧ t.cell S w x j cv

theorem CellsOf.pair {S : BSet} {a b : Ty} {x : a.den × b.den} {f : Nat → Option Value} (h1 : CellsOf S w a x.1 f) (h2 : CellsOf S w b x.2 (fun j => f (j + a.size))) :
    CellsOf S w (.pair a b) x f := by
  intro j hj
  simp only [Ty.size] at hj
  by_cases hja : j < a.size
  · obtain ⟨cv, k1, k2⟩ := h1 j hja
    exact ⟨cv, k1, by simp only [Ty.cell]; rw [if_pos hja]; exact k2⟩
  · obtain ⟨cv, k1, k2⟩ := h2 (j - a.size) (by omega)
    exact ⟨cv, by rw [show j = j - a.size + a.size by omega]; exact k1, by simp only [Ty.cell]; rw [if_neg hja]; exact k2⟩

theorem CellsOf.fst {S : BSet} {a b : Ty} {x : a.den × b.den} {f : Nat → Option Value} (h : CellsOf S w (.pair a b) x f) : CellsOf S w a x.1 f := by
  intro j hj
  obtain ⟨cv, k1, k2⟩ := h j (by simp only [Ty.size]; omega)
  simp only [Ty.cell] at k2
  rw [if_pos hj] at k2
  exact ⟨cv, k1, k2⟩

theorem CellsOf.snd {S : BSet} {a b : Ty} {x : a.den × b.den} {f : Nat → Option Value} (h : CellsOf S w (.pair a b) x f) : CellsOf S w b x.2 (fun j => f (j + a.size)) := by
  intro j hj
  obtain ⟨cv, k1, k2⟩ := h (j + a.size) (by simp only [Ty.size]; omega)
  simp only [Ty.cell] at k2
  rw [if_neg (by omega), Nat.add_sub_cancel] at k2
  exact ⟨cv, k1, k2⟩

theorem CellsOf.mono {S S' : BSet} {t : Ty} {x : t.den} {f g : Nat → Option Value} (h : CellsOf S w t x f) (hS : ∀ b, S b → S' b) (hf : ∀ j, j < t.size → f j = g j) : CellsOf S' w t x g := by
  intro j hj
  obtain ⟨cv, k1, k2⟩ := h j hj
  exact ⟨cv, by rw [← hf j hj]; exact k1, Ty.cell_mono hS (fun _ _ => rfl) _ _ _ _ k2⟩

theorem Lend.cons {deep : Bool} {a : AV} {as : List AV} {S : BSet} (h : Lend L c deep (a :: as) S) : Lend L c deep [a] S ∧ Lend L c deep as S :=
  ⟨⟨h.1, fun id av hm => h.2.1 id av (by simp only [List.mem_singleton] at hm; simp [hm]), h.2.2⟩, ⟨h.1, fun id av hm => h.2.1 id av (by simp [hm]), h.2.2⟩⟩

theorem RelCh_one {a : AV} {as : List AV} {f : Nat → Option Value} (h : RelCh L c w (a :: as) f) :
    (match a with | .d t x => CellsOf c.S w t x f | a => ∃ cv, f 0 = some cv ∧ RelAV L c w a cv) ∧ RelCh L c w as (fun j => f (j + a.size)) := by
  cases a <;> simp only [RelCh, AV.size] at h ⊢ <;> exact h

/-- A head that is one cell. -/
theorem head_leaf {Γ : Base} (hw : RW Γ L c w) {S : BSet} {deep : Bool} {t : Ty} {a : AV} {as : List AV} {x : t.den} {f : Nat → Option Value} (hl : Lend L c deep [a] S)
    (hr : RelCh L c w (a :: as) f) (h : headD L t a = some x) : CellsOf S w t x f ∧ RelCh L c w as (fun j => f (j + t.size)) := by
  obtain ⟨h1, h2⟩ := RelCh_one hr
  cases a <;> simp only [AV.size] at h1 h2 <;> try (simp [headD] at h; done)
  case d t' y =>
    simp only [headD] at h
    obtain ⟨e, hx⟩ := castD_some h
    subst e
    simp only at hx
    subst hx
    exact ⟨CellsOf.mono h1 hl.1 (fun _ _ => rfl), h2⟩
  all_goals
    obtain ⟨cv, k1, k2⟩ := h1
    have k3 := headD_cell hw hl k2 h
    have k4 : t.isAgg = false ∧ t.cell S w x 0 cv := by
      rcases k3 with k3 | k3
      · have hag : t.isAgg = false := by
          cases t <;> simp [headD, ofRaw] at h <;> rfl
        exact ⟨hag, Ty.val_one hag k3⟩
      · exact k3
    have hs : t.size = 1 := by cases t <;> simp [Ty.isAgg] at k4 <;> rfl
    refine ⟨fun j hj => ⟨cv, ?_, ?_⟩, by rw [hs]; exact h2⟩
    · have : j = 0 := by omega
      subst this; exact k1
    · have : j = 0 := by omega
      subst this; exact k4.2

theorem unleaf_cells {Γ : Base} (hw : RW Γ L c w) {S : BSet} {deep : Bool} : ∀ (t : Ty) (as : List AV) (f : Nat → Option Value) (x : t.den) (r : List AV), Lend L c deep as S →
    RelCh L c w as f → unleaf L deep t as = some (x, r) → CellsOf S w t x f ∧ RelCh L c w r (fun j => f (j + t.size)) ∧ Lend L c deep r S
  | .pair a b, as, f, x, r, hl, hr, h => by
    simp only [unleaf] at h
    split at h
    · rename_i y cs h1
      split at h
      · rename_i z cs' h2
        simp only [Option.some.injEq, Prod.mk.injEq] at h
        obtain ⟨rfl, rfl⟩ := h
        obtain ⟨k1, k2, k3⟩ := unleaf_cells hw a as f y cs hl hr h1
        obtain ⟨m1, m2, m3⟩ := unleaf_cells hw b cs _ z cs' k3 k2 h2
        refine ⟨CellsOf.pair k1 m1, ?_, m3⟩
        simp only [Ty.size]
        have : (fun j => f (j + (a.size + b.size))) = fun j => f (j + b.size + a.size) := by funext j; congr 1; omega
        rw [this]; exact m2
      · cases h
    · cases h
  | .unit, as, f, x, r, hl, hr, h => by
    simp only [unleaf, Option.some.injEq, Prod.mk.injEq] at h
    obtain ⟨_, rfl⟩ := h
    exact ⟨fun j hj => by simp [Ty.size] at hj, by simpa [Ty.size] using hr, hl⟩
  | .int k, as, f, x, r, hl, hr, h => by
    cases as with
    | nil => simp [unleaf] at h
    | cons a as =>
      simp only [unleaf, Option.map_eq_some_iff, Prod.mk.injEq] at h
      obtain ⟨y, h1, rfl, rfl⟩ := h
      obtain ⟨k1, k2⟩ := head_leaf hw hl.cons.1 hr h1
      exact ⟨k1, k2, hl.cons.2⟩
  | .bool, as, f, x, r, hl, hr, h => by
    cases as with
    | nil => simp [unleaf] at h
    | cons a as =>
      simp only [unleaf, Option.map_eq_some_iff, Prod.mk.injEq] at h
      obtain ⟨y, h1, rfl, rfl⟩ := h
      obtain ⟨k1, k2⟩ := head_leaf hw hl.cons.1 hr h1
      exact ⟨k1, k2, hl.cons.2⟩
  | .str, as, f, x, r, hl, hr, h => by
    cases as with
    | nil => simp [unleaf] at h
    | cons a as =>
      simp only [unleaf, Option.map_eq_some_iff, Prod.mk.injEq] at h
      obtain ⟨y, h1, rfl, rfl⟩ := h
      obtain ⟨k1, k2⟩ := head_leaf hw hl.cons.1 hr h1
      exact ⟨k1, k2, hl.cons.2⟩
  | .arr n k, as, f, x, r, hl, hr, h => by
    cases as with
    | nil => simp [unleaf] at h
    | cons a as =>
      simp only [unleaf, Option.map_eq_some_iff, Prod.mk.injEq] at h
      obtain ⟨y, h1, rfl, rfl⟩ := h
      obtain ⟨k1, k2⟩ := head_leaf hw hl.cons.1 hr h1
      exact ⟨k1, k2, hl.cons.2⟩
  | .slice e, as, f, x, r, hl, hr, h => by
    cases as with
    | nil => simp [unleaf] at h
    | cons a as =>
      simp only [unleaf, Option.map_eq_some_iff, Prod.mk.injEq] at h
      obtain ⟨y, h1, rfl, rfl⟩ := h
      obtain ⟨k1, k2⟩ := head_leaf hw hl.cons.1 hr h1
      exact ⟨k1, k2, hl.cons.2⟩
  | .ref t, as, f, x, r, hl, hr, h => by
    unfold unleaf at h
    split at h
    · rename_i id rest
      cases deep with
      | false => cases h
      | true =>
        simp only [cond_true] at h
        split at h
        · rename_i cs' ho
          split at h
          · rename_i y hy
            simp only [Option.some.injEq, Prod.mk.injEq] at h
            obtain ⟨rfl, rfl⟩ := h
            obtain ⟨h1, h2⟩ := RelCh_one hr
            simp only [AV.size] at h1 h2
            obtain ⟨cv, k1, k2⟩ := h1
            simp only [RelAV] at k2
            obtain ⟨_, b, hm, rfl⟩ := k2
            obtain ⟨b', T, cells, hm', hh, hsz, hch⟩ : ∃ b T cells, c.m id = .pointer (some ⟨b, 0, none⟩) ∧ w.heap[b]? = some (.cells cells T (0, 0)) ∧ cells.size = (cs'.map AV.size).sum ∧ RelCh L c w cs' (fun j => cells[j]?) := hw.objs id _ ho
            have : b' = b := by rw [hm] at hm'; simpa using hm'.symm
            subst this
            obtain ⟨m1, _, _⟩ := unleaf_cells hw t cs' _ y [] ⟨hl.1, fun i v e hi => hl.2.2 rfl i, hl.2.2⟩ hch hy
            refine ⟨fun j hj => ⟨.pointer (some ⟨b', 0, none⟩), ?_, ?_⟩, h2, hl.cons.2⟩
            · simp only [Ty.size] at hj
              have : j = 0 := by omega
              subst this; exact k1
            · refine ⟨b', 0, rfl, hl.2.2 rfl id _ ho b' hm, fun j hj => ?_⟩
              obtain ⟨cv, n1, n2⟩ := m1 j hj
              exact ⟨cv, by simp [World.cell?, hh, n1], n2⟩
          · cases h
        · cases h
    · rename_i a rest _
      simp only [Option.map_eq_some_iff, Prod.mk.injEq] at h
      obtain ⟨y, h1, rfl, rfl⟩ := h
      obtain ⟨k1, k2⟩ := head_leaf hw hl.cons.1 hr h1
      exact ⟨k1, k2, hl.cons.2⟩
    · cases h

theorem RelCh_append {as bs : List AV} {f : Nat → Option Value} (h : RelCh L c w as f) (k : RelCh L c w bs (fun j => f (j + (as.map AV.size).sum))) : RelCh L c w (as ++ bs) f := by
  induction as generalizing f with
  | nil => simpa using k
  | cons a as ih =>
    obtain ⟨h1, h2⟩ := RelCh_one h
    have k' := ih h2 (by
      have e : (fun j => f (j + (as.map AV.size).sum + a.size)) = fun j => f (j + ((a :: as).map AV.size).sum) := by funext j; congr 1; simp; omega
      rw [e]; exact k)
    cases a <;> simp only [AV.size] at h1 k' <;> exact ⟨h1, k'⟩

theorem leaves_cells {S : BSet} : ∀ (t : Ty) (x : t.den) (f : Nat → Option Value), CellsOf S w t x f → c.S = S → RelCh L c w (leaves t x) f ∧ ((leaves t x).map AV.size).sum = t.size
  | .pair a b, x, f, h, hS => by
    obtain ⟨h1, h2⟩ := leaves_cells a x.1 f h.fst hS
    obtain ⟨k1, k2⟩ := leaves_cells b x.2 _ h.snd hS
    simp only [leaves]
    refine ⟨?_, by simp [h2, k2, Ty.size]⟩
    rw [← h2] at k1
    exact RelCh_append h1 k1
  | .unit, x, f, h, hS => by simp [leaves, RelCh, Ty.size]
  | .int _, x, f, h, hS => by subst hS; exact ⟨⟨h, trivial⟩, by simp [leaves, AV.size]⟩
  | .bool, x, f, h, hS => by subst hS; exact ⟨⟨h, trivial⟩, by simp [leaves, AV.size]⟩
  | .str, x, f, h, hS => by subst hS; exact ⟨⟨h, trivial⟩, by simp [leaves, AV.size]⟩
  | .arr _ _, x, f, h, hS => by subst hS; exact ⟨⟨h, trivial⟩, by simp [leaves, AV.size]⟩
  | .slice _, x, f, h, hS => by subst hS; exact ⟨⟨h, trivial⟩, by simp [leaves, AV.size]⟩
  | .ref _, x, f, h, hS => by subst hS; exact ⟨⟨h, trivial⟩, by simp [leaves, AV.size]⟩
end

end Go.Proofs.Ytodjomdnlcledaa.X
