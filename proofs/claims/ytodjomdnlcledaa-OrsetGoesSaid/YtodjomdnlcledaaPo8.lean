/- The functions of the seat: what they compute, VIII. -/
import Derived.Test.YtodjomdnlcledaaPo7
namespace Go.Proofs.Ytodjomdnlcledaa.X
open Go Go.RowKit
set_option linter.unusedSimpArgs false
set_option linter.unusedVariables false

theorem goneM_marks {es : ES} {s : ByteArray} {t : t33.den} {i : Int} {n : Nat} (h : ∀ k x, mg es k = some x → x.2.2.length ≤ n) (hn : (keys es).Nodup) : ∀ k x, mg (goneM es s t i) k = some x → x.2.2.length ≤ n := by
  intro k x hk
  unfold goneM at hk
  split at hk
  · exact h k x hk
  · rename_i y hy
    split at hk
    · by_cases hks : k = s
      · subst hks
        exfalso
        have : k ∉ keys (md es k) := by rw [keys_md es hn]; simp
        rw [mg_none.2 this] at hk; cases hk
      · rw [mg_md hks] at hk; exact h k x hk
    · rw [mg_mp] at hk
      split at hk
      · simp only [Option.some.injEq] at hk
        subst hk
        exact Nat.le_trans (List.length_filter_le _ _) (h s y hy)
      · exact h k x hk

theorem keys_goneM {es : ES} {s : ByteArray} {t : t33.den} {i : Int} (hn : (keys es).Nodup) : (keys (goneM es s t i)).Nodup := by
  unfold goneM
  split
  · exact hn
  · rename_i y hy
    split
    · rw [keys_md es hn]; exact hn.filter _
    · rw [keys_mp (by
        refine Decidable.byContradiction fun h => ?_
        rw [mg_none.2 h] at hy; cases hy)]
      exact hn

theorem oclear_ok {c : CellD} {t : t33.den} {i : Int} {Q : CellD → Prop} (hc : Fits c) (h1 : ¬ May c i ByteArray.empty → Q c) (h2 : May c i ByteArray.empty → Q (closeC c ((membs c).foldl (fun es x => goneM es x.1 t i) (openL (membs c))))) : orset_Clear c t i Q := by
  have hmr : maxRow = 2147483648 := rfl
  have hb := hc.m
  unfold orset_Clear
  refine may_ok hc (cnot (cdec (fun hm => opened_ok hc (Pairwise_keys hm.2.2) ?_) h1))
  have hol : (openL (membs c)).length = (membs c).length := by simp [openL]
  refine LoopP.up (fun i (es : ES) => (((i : Int), ()), (es, ()))) (membs c).length (fun k es => es = ((membs c).take k).foldl (fun es x => goneM es x.1 t i) (openL (membs c)) ∧ (∀ s x, mg es s = some x → x.2.2.length ≤ 1073741824) ∧ (keys es).Nodup ∧ es.length ≤ (membs c).length + k) ?_ ?_ (y := openL (membs c))
    ⟨rfl, fun s x hx => hc.r x (openL_mem hx).1, by rw [keys_openL]; exact Pairwise_keys hm.2.2, by omega⟩
  · intro k es X hk ⟨g1, g2, g3, g4⟩ hX
    dsimp only
    rw [rd_get (e := t40) (xs := membs c) hk, wrap_succ (show k < 9223372036854775807 by omega)]
    refine lt_pos (by show (k : Int) < ((membs c).length : Int); omega) ⟨In_nat.2 hk, ?_⟩
    show goneP es (membs c)[k].1 t i (fun es' => X ((((k + 1 : Nat) : Int), ()), (es', ())))
    refine gone_ok (g2 _) (hX _ ⟨?_, goneM_marks g2 g3, keys_goneM g3, ?_⟩)
    · rw [List.take_succ_eq_append_getElem hk, List.foldl_append, ← g1]; rfl
    · have := goneM_length es (membs c)[k].1 t i; omega
  · intro es X ⟨g1, g2, g3, g4⟩
    subst g1
    refine lt_neg (Int.le_refl _) ?_
    show closedP c Q (((membs c).take (membs c).length).foldl (fun es x => goneM es x.1 t i) (openL (membs c)))
    refine closed_ok (by omega) ?_
    rw [List.take_length]
    exact h2 hm

/-! ### heads -/
theorem closeL0 : closeL [] = [] := by
  unfold closeL keys
  rw [List.map_nil, sort_self List.Pairwise.nil]; rfl
theorem closeL1 (s : ByteArray) (x : Memb) : closeL [(s, x)] = [x] := by
  unfold closeL keys
  rw [List.map_cons, List.map_nil, sort_self (List.pairwise_singleton _ _), List.map_cons, List.map_nil, mg_cons, if_pos rfl]; rfl
theorem closeL2 (s r : ByteArray) (x y : Memb) (h : sLess s r = true) : closeL [(s, x), (r, y)] = [x, y] := by
  have hne : r ≠ s := fun e => by subst e; rw [sLess_eq, decide_eq_true_eq] at h; exact List.lt_irrefl _ h
  unfold closeL keys
  rw [List.map_cons, List.map_cons, List.map_nil, sort_self (by simp [h])]
  simp only [List.map_cons, List.map_nil]
  rw [mg_cons, if_pos rfl, mg_cons, if_neg hne, mg_cons, if_pos rfl]; rfl

theorem str_lt : sLess str0 str1 = true := by rw [sLess_eq]; decide
theorem membs0 : MembsOk [] := fun i h => absurd h (by simp)
theorem membs1 {a : Memb} (h : MembOk a) : MembsOk [a] := fun i hi => by
  have : i = 0 := by simpa using hi
  subst this; exact ⟨h, by omega⟩
theorem membs2 {a b : Memb} (h1 : MembOk a) (h2 : MembOk b) (h : sLess a.1 b.1 = true) : MembsOk [a, b] := fun i hi => by
  simp only [List.length_cons, List.length_nil] at hi
  match i, hi with
  | 0, _ => exact ⟨h1, by omega⟩
  | 1, _ => exact ⟨h2, fun _ => h⟩

def cellOf (l : List Memb) : CellD := ((4 : Int), ((0 : Int), (([] : List t125.den), (([] : List t52.den), (l, ([] : List t54.den))))))
theorem check_cell {l : List Memb} (h : MembsOk l) : CheckC (cellOf l) := ⟨rfl, rfl, rfl, rfl, rfl, h⟩
theorem fits_cell {l : List Memb} (h : l.length ≤ 10) (hr : ∀ x ∈ l, x.2.2.length ≤ 10) : Fits (cellOf l) :=
  ⟨by simp [cellOf], by simp [cellOf], by show l.length ≤ _; omega, by simp [cellOf], fun x hx => by have := hr x hx; omega⟩

def mA : Memb := (str0, (false, [((1, 1), 1)]))
def mB : Memb := (str1, (false, [((1, 1), 2)]))
def fA : Memb := (str0, (true, []))
def fB : Memb := (str1, (true, []))
theorem mA_ok : MembOk mA := ⟨.inr (by simp [mA]), by decide, by decide⟩
theorem mB_ok : MembOk mB := ⟨.inr (by simp [mB]), by decide, by decide⟩
theorem fA_ok : MembOk fA := ⟨.inl rfl, by decide, by decide⟩
theorem fB_ok : MembOk fB := ⟨.inl rfl, by decide, by decide⟩
def tT : t33.den := (((1 : Int), (1 : Int)), ((List.replicate 13 (0 : Int)), ((0 : Int), ([] : List t57.den))))
def tU : t33.den := (((2 : Int), (1 : Int)), ((List.replicate 13 (0 : Int)), ((0 : Int), ([] : List t57.den))))
def tV : t33.den := (((3 : Int), (1 : Int)), (setA (List.replicate 13 (0 : Int)) (Int.toNat (1 : Int)) (1 : Int), ((0 : Int), ([] : List t57.den))))

theorem heads_ok {Q : Bool → Prop} (h : Q true) : law10_heads Q := by
  have a1 : MembsOk [mA] := membs1 mA_ok
  have a2 : MembsOk [mA, mB] := membs2 mA_ok mB_ok str_lt
  have a3 : MembsOk [fA, fB] := membs2 fA_ok fB_ok str_lt
  have f0 : Fits (cellOf []) := fits_cell (by simp) (by simp)
  have f1 : Fits (cellOf [mA]) := fits_cell (by simp) (by simp [mA])
  have f2 : Fits (cellOf [mA, mB]) := fits_cell (by simp) (by simp [mA, mB])
  have f3 : Fits (cellOf [fA, fB]) := fits_cell (by simp) (by simp [fA, fB])
  have hs0 : str0.size ≤ 64 := by decide
  have hs1 : str1.size ≤ 64 := by decide
  have ne10 : str1 ≠ str0 := by decide
  have c1 : ∀ es : ES, closeC (cellOf es.unzip.2) es = cellOf (closeL es) := fun es => rfl
  refine ⟨⟨by omega, by omega⟩, ?_⟩
  refine add_ok (c := cellOf []) (t := tT) (i := 1) (s := str0) f0 ⟨by omega, hs0, check_cell membs0⟩ rfl ?_
  rw [show closeC (cellOf []) (mp (openL (membs (cellOf []))) str0 (str0, ((mg (openL (membs (cellOf []))) str0).getD dM).2.1, [(tT.1, 1)])) = cellOf (closeL [(str0, mA)]) from rfl, closeL1]
  have g1 : mg (openL (membs (cellOf [mA]))) str1 = none := by
    show mg [(str0, mA)] str1 = none
    rw [mg_cons, if_neg ne10]; rfl
  refine add_ok (c := cellOf [mA]) (t := tT) (i := 2) (s := str1) f1 ⟨by omega, hs1, check_cell a1⟩ (by rw [g1]; rfl) ?_
  rw [g1, show openL (membs (cellOf [mA])) = [(str0, mA)] from rfl, mp_cons, if_neg ne10,
    show closeC (cellOf [mA]) ((str0, mA) :: mp [] str1 (str1, (Option.getD (none : Option Memb) dM).2.1, [(tT.1, 2)])) = cellOf (closeL [(str0, mA), (str1, mB)]) from rfl, closeL2 _ _ _ _ str_lt]
  refine fold_ok f2 (fun hn => absurd (check_cell a2) hn) fun _ => ?_
  have e3 : ((membs (cellOf [mA, mB])).map (foldM (setA (List.replicate 13 (0 : Int)) (Int.toNat (1 : Int)) (1 : Int)))) = [fA, fB] := by decide
  rw [e3]
  show orset_Del (cellOf [mA]) tU 1 str0 _
  have g2 : mg [(str0, mA)] str0 = some mA := by rw [mg_cons, if_pos rfl]
  have gu : goneM (openL (membs (cellOf [mA]))) str0 tU 1 = [(str0, mA)] := by
    show goneM [(str0, mA)] str0 tU 1 = _
    unfold goneM
    rw [g2]
    have : (mA.2.2.filter fun k => !befM k tU 1) = [((1, 1), 1)] := by decide
    dsimp only
    rw [this, if_neg (by simp), mp_cons, if_pos rfl]; rfl
  have gv : goneM (openL (membs (cellOf [mA]))) str0 tV 1 = [] := by
    show goneM [(str0, mA)] str0 tV 1 = _
    unfold goneM
    rw [g2]
    have : (mA.2.2.filter fun k => !befM k tV 1) = [] := by decide
    dsimp only
    rw [this, if_pos (show ([] : List Mark).length = 0 from rfl), md_cons, if_pos rfl]
  have may1 : May (cellOf [mA]) 1 str0 := ⟨by omega, hs0, check_cell a1⟩
  refine del_ok f1 (fun hn => absurd may1 hn) fun _ => ?_
  rw [gu, show closeC (cellOf [mA]) [(str0, mA)] = cellOf (closeL [(str0, mA)]) from rfl, closeL1]
  refine read_ok f1 (fun hn => absurd (check_cell a1) hn) fun _ => texts_ok (by simp [membs, cellOf]) (cdec (fun _ => ?_) fun hn => absurd rfl hn)
  show orset_Del (cellOf [mA]) tV 1 str0 _
  refine del_ok f1 (fun hn => absurd may1 hn) fun _ => ?_
  rw [gv, show closeC (cellOf [mA]) [] = cellOf (closeL []) from rfl, closeL0]
  refine read_ok f0 (fun hn => absurd (check_cell membs0) hn) fun _ => eq_pos rfl ?_
  refine read_ok f2 (fun hn => absurd (check_cell a2) hn) fun _ => texts_ok (by simp [membs, cellOf]) (cdec (fun _ => ?_) fun hn => absurd rfl hn)
  refine eq_pos rfl ⟨⟨by omega, by simp⟩, ctrue rfl ⟨⟨by omega, by simp⟩, eq_pos rfl ?_⟩⟩
  show orset_Clear (cellOf [fA, fB]) tV 1 _
  have may3 : May (cellOf [fA, fB]) 1 ByteArray.empty := ⟨by omega, by decide, check_cell a3⟩
  have gA : goneM [(str0, fA), (str1, fB)] str0 tV 1 = [(str1, fB)] := by
    unfold goneM
    rw [mg_cons, if_pos rfl]
    dsimp only
    rw [if_pos (by decide), md_cons, if_pos rfl]
  have gB : goneM [(str1, fB)] str1 tV 1 = [] := by
    unfold goneM
    rw [mg_cons, if_pos rfl]
    dsimp only
    rw [if_pos (by decide), md_cons, if_pos rfl]
  have gc : (membs (cellOf [fA, fB])).foldl (fun es x => goneM es x.1 tV 1) (openL (membs (cellOf [fA, fB]))) = [] := by
    show goneM (goneM [(str0, fA), (str1, fB)] str0 tV 1) str1 tV 1 = []
    rw [gA, gB]
  refine oclear_ok f3 (fun hn => absurd may3 hn) fun _ => ?_
  rw [gc, show closeC (cellOf [fA, fB]) [] = cellOf (closeL []) from rfl, closeL0]
  refine eq_pos rfl ?_
  show orset_Check (cellOf [fA, fB]) _
  refine check_ok f3 ?_
  rw [decide_eq_true (check_cell a3)]
  exact h

end Go.Proofs.Ytodjomdnlcledaa.X
