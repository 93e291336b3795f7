/- The functions of the seat: what they compute, III: members by their texts. -/
import Derived.Test.YtodjomdnlcledaaPo2
namespace Go.Proofs.Ytodjomdnlcledaa.X
open Go Go.RowKit
set_option linter.unusedSimpArgs false
set_option linter.unusedVariables false

abbrev ES := List (ByteArray × Memb)
def dM : Memb := (ByteArray.empty, (false, []))
def keys (es : ES) : List ByteArray := es.map (·.1)
abbrev mg (es : ES) (s : ByteArray) : Option Memb := mget Ty.str es s
abbrev mp (es : ES) (s : ByteArray) (x : Memb) : ES := mput Ty.str es s x
abbrev md (es : ES) (s : ByteArray) : ES := mdel Ty.str es s

theorem eqD_str (a b : ByteArray) : eqD Ty.str a b = (a == b) := rfl

theorem mg_cons (k : ByteArray) (x : Memb) (r : ES) (s : ByteArray) : mg ((k, x) :: r) s = if s = k then some x else mg r s := by
  show (bif eqD Ty.str s k then some x else mget Ty.str r s) = _
  rw [eqD_str]
  by_cases h : s = k
  · simp [h]
  · rw [beq_false_of_ne h, if_neg h]; rfl
theorem mp_cons (k : ByteArray) (x : Memb) (r : ES) (s : ByteArray) (y : Memb) : mp ((k, x) :: r) s y = if s = k then (s, y) :: r else (k, x) :: mp r s y := by
  show (bif eqD Ty.str s k then (s, y) :: r else (k, x) :: mput Ty.str r s y) = _
  rw [eqD_str]
  by_cases h : s = k
  · simp [h]
  · rw [beq_false_of_ne h, if_neg h]; rfl
theorem md_cons (k : ByteArray) (x : Memb) (r : ES) (s : ByteArray) : md ((k, x) :: r) s = if s = k then r else (k, x) :: md r s := by
  show (bif eqD Ty.str s k then r else (k, x) :: mdel Ty.str r s) = _
  rw [eqD_str]
  by_cases h : s = k
  · simp [h]
  · rw [beq_false_of_ne h, if_neg h]; rfl

theorem mp_new {es : ES} {s : ByteArray} {x : Memb} (h : s ∉ keys es) : mp es s x = es ++ [(s, x)] := by
  induction es with
  | nil => rfl
  | cons e r ih =>
    obtain ⟨k, y⟩ := e
    simp only [keys, List.map_cons, List.mem_cons, not_or] at h
    rw [mp_cons, if_neg h.1, ih h.2]; rfl

theorem mg_mem {es : ES} {s : ByteArray} {x : Memb} (h : mg es s = some x) : (s, x) ∈ es := by
  induction es with
  | nil => cases h
  | cons e r ih =>
    obtain ⟨k, y⟩ := e
    rw [mg_cons] at h
    split at h
    · rename_i e; cases h; rw [e]; exact List.mem_cons_self
    · exact List.mem_cons_of_mem _ (ih h)

theorem mg_none {es : ES} {s : ByteArray} : mg es s = none ↔ s ∉ keys es := by
  induction es with
  | nil => simp [mg, mget, keys]
  | cons e r ih =>
    obtain ⟨k, y⟩ := e
    rw [mg_cons]
    simp only [keys, List.map_cons, List.mem_cons, not_or]
    split
    · rename_i e; simp [e]
    · rename_i e; rw [ih]; simp [e, keys]

theorem mg_of_mem {es : ES} (hn : (keys es).Nodup) {s : ByteArray} {x : Memb} (h : (s, x) ∈ es) : mg es s = some x := by
  induction es with
  | nil => cases h
  | cons e r ih =>
    obtain ⟨k, y⟩ := e
    simp only [keys, List.map_cons, List.nodup_cons] at hn
    rw [mg_cons]
    rcases List.mem_cons.1 h with h | h
    · cases h; rw [if_pos rfl]
    · rw [if_neg (fun e => hn.1 (by rw [← e]; exact List.mem_map.2 ⟨_, h, rfl⟩)), ih hn.2 h]

theorem keys_md (es : ES) (hn : (keys es).Nodup) (s : ByteArray) : keys (md es s) = (keys es).filter (fun k => k != s) := by
  induction es with
  | nil => rfl
  | cons e r ih =>
    obtain ⟨k, y⟩ := e
    simp only [keys, List.map_cons, List.nodup_cons] at hn
    rw [md_cons]
    by_cases h : s = k
    · subst h
      rw [if_pos rfl]
      simp only [keys, List.map_cons, List.filter_cons, bne_self_eq_false, Bool.false_eq_true, if_false]
      rw [List.filter_eq_self.2]
      intro a ha
      simp only [bne_iff_ne, ne_eq]
      intro e; subst e; exact hn.1 ha
    · rw [if_neg h]
      have : (k != s) = true := by simp only [bne_iff_ne, ne_eq]; exact fun e => h e.symm
      simp only [keys, List.map_cons, List.filter_cons, this, if_true]
      congr 1
      exact ih hn.2

theorem mg_md {es : ES} {s k : ByteArray} (h : k ≠ s) : mg (md es s) k = mg es k := by
  induction es with
  | nil => rfl
  | cons e r ih =>
    obtain ⟨j, y⟩ := e
    rw [md_cons]
    by_cases hs : s = j
    · subst hs
      rw [if_pos rfl, mg_cons, if_neg h]
    · rw [if_neg hs, mg_cons, mg_cons, ih]

theorem mg_mp {es : ES} {s k : ByteArray} {x : Memb} : mg (mp es s x) k = if k = s then some x else mg es k := by
  induction es with
  | nil => show mg [(s, x)] k = _; rw [mg_cons]
  | cons e r ih =>
    obtain ⟨j, y⟩ := e
    rw [mp_cons]
    by_cases hs : s = j
    · subst hs
      rw [if_pos rfl, mg_cons, mg_cons]
      split <;> rfl
    · rw [if_neg hs, mg_cons, mg_cons, ih]
      by_cases hk : k = j
      · subst hk
        rw [if_pos rfl, if_neg (fun e => hs e.symm), if_pos rfl]
      · rw [if_neg hk, if_neg hk]

theorem keys_mp {es : ES} {s : ByteArray} {x : Memb} (h : s ∈ keys es) : keys (mp es s x) = keys es := by
  induction es with
  | nil => cases h
  | cons e r ih =>
    obtain ⟨j, y⟩ := e
    rw [mp_cons]
    by_cases hs : s = j
    · subst hs; rw [if_pos rfl]; rfl
    · rw [if_neg hs]
      simp only [keys, List.map_cons]
      congr 1
      refine ih ?_
      simp only [keys, List.map_cons, List.mem_cons] at h
      exact h.resolve_left hs

/-- Members by their texts. -/
def openL (l : List Memb) : ES := l.map fun x => (x.1, x)

theorem keys_openL (l : List Memb) : keys (openL l) = l.map (·.1) := by simp [keys, openL, Function.comp]

theorem opened_ok {c : CellD} {Q : ES → Prop} (hc : Fits c) (hn : ((membs c).map (·.1)).Nodup) (h : Q (openL (membs c))) : orset_opened c Q := by
  have hb := hc.m
  unfold orset_opened
  refine LoopP.up (fun i (es : ES) => (((i : Int), ()), (es, ()))) (membs c).length (fun k es => es = openL ((membs c).take k)) ?_ ?_ (y := []) rfl
  · intro i es X hi hI hX
    subst hI
    simp only [wrap_succ (show i < 9223372036854775807 by omega), rd_get (e := t40) (xs := membs c) hi]
    refine lt_pos (by show (i : Int) < ((membs c).length : Int); omega) ⟨In_nat.2 hi, hX _ ?_⟩
    show mp (openL ((membs c).take i)) (membs c)[i].1 (membs c)[i] = _
    rw [mp_new]
    · rw [List.take_succ_eq_append_getElem hi]; simp only [openL, List.map_append, List.map_cons, List.map_nil]
    · rw [keys_openL]
      intro hm
      rw [List.map_take] at hm
      obtain ⟨j, hj, e⟩ := List.mem_iff_getElem.1 hm
      simp only [List.length_take, List.length_map] at hj
      simp only [List.getElem_take, List.getElem_map] at e
      exact (List.pairwise_iff_getElem.1 hn) j i (by simp; omega) (by simpa using hi) (by omega) (by simpa using e)
  · intro es X hI
    subst hI
    refine lt_neg (by show ((membs c).length : Int) ≤ ((membs c).length : Int); omega) ?_
    rw [List.take_length]
    exact h

/-! ### The cell that is closed -/
theorem sort_perm {l l' : List ByteArray} (h : l.Perm l') : sortS l = sortS l' := by
  unfold sortS
  congr 1
  have hp := h.map (fun s => s.data.toList)
  have tr : ∀ a b c : List UInt8, decide (a ≤ b) = true → decide (b ≤ c) = true → decide (a ≤ c) = true := fun a b c h1 h2 => by
    simp only [decide_eq_true_eq] at *; exact List.le_trans h1 h2
  have to : ∀ a b : List UInt8, (decide (a ≤ b) || decide (b ≤ a)) = true := fun a b => by
    simp only [Bool.or_eq_true, decide_eq_true_eq]; exact List.le_total a b
  refine List.Perm.eq_of_pairwise (le := fun a b => decide (a ≤ b) = true) (fun a b _ _ h1 h2 => ?_) (List.pairwise_mergeSort tr to _) (List.pairwise_mergeSort tr to _) (((List.mergeSort_perm _ _).trans hp).trans (List.mergeSort_perm _ _).symm)
  simp only [decide_eq_true_eq] at h1 h2
  exact List.le_antisymm h1 h2

theorem sort_self {l : List ByteArray} (h : l.Pairwise (fun a b => sLess a b = true)) : sortS l = l := by
  unfold sortS
  have : ((l.map fun s => s.data.toList).mergeSort fun x y => decide (x ≤ y)) = l.map fun s => s.data.toList := by
    refine List.mergeSort_of_pairwise ?_
    rw [List.pairwise_map]
    refine h.imp fun {a b} hab => ?_
    rw [sLess_eq] at hab
    simp only [decide_eq_true_eq] at hab ⊢
    exact List.le_of_lt hab
  rw [this, List.map_map]
  conv => rhs; rw [← List.map_id l]
  refine List.map_congr_left fun s _ => ?_
  cases s; simp

theorem sort_length (l : List ByteArray) : (sortS l).length = l.length := by
  unfold sortS; rw [List.length_map, List.length_mergeSort, List.length_map]

/-- Members out of a map, in order. -/
def closeL (es : ES) : List Memb := (sortS (keys es)).map fun s => (mg es s).getD dM

theorem erase_perm {α : Type} {l : List α} {i : Nat} (hi : i < l.length) : l.Perm (l[i] :: l.eraseIdx i) := by
  rw [List.eraseIdx_eq_take_drop_succ]
  conv => lhs; rw [← List.take_append_drop i l, List.drop_eq_getElem_cons hi]
  exact List.perm_middle

/-- The keys of a map, collected in whatever order. -/
theorem collect_ok {kt vt : Ty} {es : List (kt.den × vt.den)} {d : kt.den × vt.den} {body : ((Unit × Unit) × List kt.den × List (kt.den × vt.den) × Unit → Prop) → (Unit × Unit) × List kt.den × List (kt.den × vt.den) × Unit → Prop} (hmax : es.length ≤ maxRow)
    {K : List kt.den → Prop} (hK : ∀ ks, ks.Perm (es.map (·.1)) → K ks)
    (hb : ∀ X (ks : List kt.den) (td : List (kt.den × vt.den)), (td = [] → K ks) → (∀ i, i < td.length → ks.length + 1 ≤ maxRow ∧ X (((), ()), ks ++ [(td.getD i d).1], td.eraseIdx i, ())) → body X (((), ()), ks, td, ())) :
    LoopP body (((), ()), [], es, ()) := by
  refine LoopP.intro (fun x => (x.2.1 ++ x.2.2.1.map (·.1)).Perm (es.map (·.1))) (fun x => x.2.2.1.length) ?_ (by simp)
  rintro ⟨⟨⟨⟩, ⟨⟩⟩, ks, td, ⟨⟩⟩ X hI hX
  refine hb X ks td (fun h => hK ks (by subst h; simpa using hI)) fun i hi => ?_
  have hlen := hI.length_eq
  simp only [List.length_append, List.length_map] at hlen
  refine ⟨by omega, hX _ ?_ ?_⟩
  · simp only
    refine List.Perm.trans ?_ hI
    rw [List.append_assoc]
    refine List.Perm.append_left _ ?_
    have : td.Perm (td[i] :: td.eraseIdx i) := erase_perm hi
    have e : td.getD i d = td[i] := by simp [List.getD, List.getElem?_eq_getElem hi]
    rw [e]
    exact (this.map (·.1)).symm
  · simp only [List.length_eraseIdx, if_pos hi]; omega

end Go.Proofs.Ytodjomdnlcledaa.X
