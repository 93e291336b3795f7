/- The functions of the seat: what they compute, V. -/
import Derived.Test.YtodjomdnlcledaaPo4
namespace Go.Proofs.Ytodjomdnlcledaa.X
open Go Go.RowKit
set_option linter.unusedSimpArgs false
set_option linter.unusedVariables false

theorem clone_ok {l : List Mark} {Q : List Mark → Prop} (hl : l.length ≤ 1073741824) (h : Q l) : slices_Clone_api_Mark_api_Mark l Q := by
  have hmr : maxRow = 2147483648 := rfl
  intro b hb
  refine cb (fun h1 => ?_) fun h1 => ⟨by simp only [List.length_nil]; show 0 + l.length ≤ maxRow; omega, h⟩
  have := hb h1
  have : l = [] := this
  subst this; exact h
theorem cloneM_ok {l : List Memb} {Q : List Memb → Prop} (hl : l.length ≤ 1073741824) (h : Q l) : slices_Clone_api_Member_api_Member l Q := by
  have hmr : maxRow = 2147483648 := rfl
  intro b hb
  refine cb (fun h1 => ?_) fun h1 => ⟨by simp only [List.length_nil]; show 0 + l.length ≤ maxRow; omega, h⟩
  have := hb h1
  have : l = [] := this
  subst this; exact h

def May (c : CellD) (i : Int) (s : ByteArray) : Prop := 1 ≤ i ∧ s.size ≤ 64 ∧ CheckC c
instance (c : CellD) (i : Int) (s : ByteArray) : Decidable (May c i s) := by unfold May; infer_instance

theorem may_ok {c : CellD} {i : Int} {s : ByteArray} {Q : Bool → Prop} (hc : Fits c) (h : Q (decide (May c i s))) : orset_may c i s Q := by
  unfold orset_may
  refine c_ge (fun h1 => c_le (fun h2 => check_ok hc ?_) fun h2 => ?_) fun h1 => ?_
  · have e : decide (CheckC c) = decide (May c i s) := by
      simp only [decide_eq_decide]
      exact ⟨fun h => ⟨h1, by omega, h⟩, fun h => h.2.2⟩
    rw [e]; exact h
  · rw [decide_eq_false (fun hm => by have := hm.2.1; omega)] at h; exact h
  · rw [decide_eq_false (fun hm => h1 hm.1)] at h; exact h

/-- What an op takes from a member that it has seen. -/
def goneM (es : ES) (s : ByteArray) (t : t33.den) (i : Int) : ES :=
  match mg es s with
  | none => es
  | some x => if (x.2.2.filter fun k => !befM k t i).length = 0 then md es s else mp es s (x.1, false, x.2.2.filter fun k => !befM k t i)

theorem texts_lt {l : List Memb} (h : MembsOk l) : (l.map (·.1)).Pairwise (fun a b => sLess a b = true) := by
  rw [List.pairwise_map]
  have key : ∀ (n i j : Nat) (e : j = i + n + 1) (hj : j < l.length), sLess (l[i]'(by omega)).1 l[j].1 = true := by
    intro n
    induction n with
    | zero =>
      intro i j e hj
      subst e
      have := (h (i + 1) hj).2 (by omega)
      simpa using this
    | succ n ih =>
      intro i j e hj
      have h1 := ih i (j - 1) (by omega) (by omega)
      have h2 := (h j hj).2 (by omega)
      rw [sLess_eq, decide_eq_true_eq] at *
      exact List.lt_trans h1 h2
  rw [List.pairwise_iff_getElem]
  intro i j hi hj hij
  exact key (j - i - 1) i j (by omega) hj

theorem nodup_of_lt {l : List ByteArray} (h : l.Pairwise (fun a b => sLess a b = true)) : l.Nodup := by
  refine h.imp fun {a b} hab e => ?_
  subst e
  rw [sLess_eq, decide_eq_true_eq] at hab
  exact List.lt_irrefl _ hab

theorem Pairwise_keys {c : CellD} (h : CheckC c) : ((membs c).map (·.1)).Nodup := nodup_of_lt (texts_lt h.2.2.2.2.2)

theorem length_md_le (es : ES) (s : ByteArray) : (md es s).length ≤ es.length := by
  induction es with
  | nil => exact Nat.le_refl _
  | cons e r ih =>
    obtain ⟨k, y⟩ := e
    rw [md_cons]
    split
    · simp
    · simp only [List.length_cons]; omega

theorem length_mp_le (es : ES) (s : ByteArray) (x : Memb) : (mp es s x).length ≤ es.length + 1 := by
  induction es with
  | nil => exact Nat.le_refl _
  | cons e r ih =>
    obtain ⟨k, y⟩ := e
    rw [mp_cons]
    split
    · simp
    · simp only [List.length_cons]; omega

/-- A member's marks that an op has seen are taken away. -/
def goneP (es : ES) (s : ByteArray) (t : t33.den) (i : Int) (J : ES → Prop) : Prop :=
  bif !(Option.isSome (mget Ty.str es s)) then J es
  else
    slices_Clone_api_Mark_api_Mark (Option.getD (mget Ty.str es s) (ByteArray.empty, (false, ([] : List t43.den)))).2.2 fun r3 =>
    withoutP r3 (fun k Q => ops_Before k t i Q) fun r =>
      bif eqI (List.length r : Int) (0 : Int) then J (mdel Ty.str es s)
      else J (mput Ty.str es s ((Option.getD (mget Ty.str es s) (ByteArray.empty, (false, ([] : List t43.den)))).1, (false, r)))

theorem gone_ok {es : ES} {s : ByteArray} {t : t33.den} {i : Int} {J : ES → Prop} (hb : ∀ x, mg es s = some x → x.2.2.length ≤ 1073741824) (h : J (goneM es s t i)) : goneP es s t i J := by
  unfold goneP
  unfold goneM at h
  cases hg : mg es s with
  | none =>
    rw [hg] at h
    exact cnot (cfalse (by show (mg es s).isSome = false; rw [hg]; rfl) h)
  | some x =>
    rw [hg] at h
    have eg : Option.getD (mget Ty.str es s) (ByteArray.empty, (false, ([] : List t43.den))) = x := by
      show Option.getD (mg es s) _ = x
      rw [hg]; rfl
    refine cnot (ctrue (by show (mg es s).isSome = true; rw [hg]; rfl) ?_)
    rw [eg]
    refine clone_ok (hb x hg) (without_ok (p := fun k => befM k t i) (fun k Q h => before_ok h) (by have := hb x hg; omega) (c_eq (fun h0 => ?_) fun h0 => ?_))
    · dsimp only at h; rw [if_pos (by omega)] at h; exact h
    · dsimp only at h; rw [if_neg (by omega)] at h; exact h

theorem openL_mem {l : List Memb} {s : ByteArray} {x : Memb} (h : mg (openL l) s = some x) : x ∈ l ∧ x.1 = s := by
  obtain ⟨y, hy, e⟩ := List.mem_map.1 (mg_mem h)
  simp only [Prod.mk.injEq] at e
  obtain ⟨e1, e2⟩ := e
  subst e2
  exact ⟨hy, e1⟩

theorem goneM_length (es : ES) (s : ByteArray) (t : t33.den) (i : Int) : (goneM es s t i).length ≤ es.length + 1 := by
  unfold goneM
  split
  · omega
  · split
    · have := length_md_le es s; omega
    · exact length_mp_le es s _

theorem del_ok {c : CellD} {t : t33.den} {i : Int} {s : ByteArray} {Q : CellD → Prop} (hc : Fits c) (h1 : ¬ May c i s → Q c) (h2 : May c i s → Q (closeC c (goneM (openL (membs c)) s t i))) : orset_Del c t i s Q := by
  have hmr : maxRow = 2147483648 := rfl
  have hb := hc.m
  unfold orset_Del
  refine may_ok hc (cnot (cdec (fun hm => opened_ok hc (Pairwise_keys hm.2.2) ?_) h1))
  have hol : (openL (membs c)).length = (membs c).length := by simp [openL]
  show goneP (openL (membs c)) s t i (closedP c Q)
  refine gone_ok (fun x hx => hc.r x (openL_mem hx).1) (closed_ok ?_ (h2 hm))
  have := goneM_length (openL (membs c)) s t i
  omega

end Go.Proofs.Ytodjomdnlcledaa.X
