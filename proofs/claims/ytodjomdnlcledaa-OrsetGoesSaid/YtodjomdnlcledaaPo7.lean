/- The functions of the seat: what they compute, VII. -/
import Derived.Test.YtodjomdnlcledaaPo6
namespace Go.Proofs.Ytodjomdnlcledaa.X
open Go Go.RowKit
set_option linter.unusedSimpArgs false
set_option linter.unusedVariables false

theorem with_nil {m : Mark} {Q : List Mark → Prop} (h : Q [m]) : orset_with [] m Q := by
  have hmr : maxRow = 2147483648 := rfl
  unfold orset_with
  have fin : ∀ r : List Mark, r = [] → In2 (0 : Int) (List.length r : Int) (List.length r : Int) ∧
      bif eqI (List.length [m] : Int) (0 : Int) then Q r
      else bif eqI (0 : Int) (List.length r : Int) then List.length r + List.length [m] ≤ maxRow ∧ Q (r ++ [m]) else False := by
    intro r hr
    subst hr
    refine ⟨⟨by simp, by simp, by simp⟩, eq_neg (by simp) (eq_pos (by simp) ⟨by simp [hmr], h⟩)⟩
  have cl : ∀ (K : List Mark → Prop), K [] → slices_Clone_api_Mark_api_Mark ([] : List t43.den) K := fun K hK => clone_ok (by simp) hK
  refine LoopP.up (fun i (_ : Unit) => (((i : Int), ()), ())) 0 (fun _ _ => True) (by intro i _ _ hi; omega) ?_ (y := ()) trivial
  intro _ X _
  refine lt_neg (by simp) (lt_neg (by simp) ?_)
  dsimp only
  exact ⟨⟨cl _ (fin _ rfl), cl _ (fin _ rfl), cl _ (fin _ rfl)⟩, ⟨cl _ (fin _ rfl), cl _ (fin _ rfl)⟩, cl _ (fin _ rfl)⟩

theorem add_ok {c : CellD} {t : t33.den} {i : Int} {s : ByteArray} {Q : CellD → Prop} (hc : Fits c) (hm : May c i s) (he : ((mg (openL (membs c)) s).getD dM).2.2 = [])
    (h : Q (closeC c (mp (openL (membs c)) s (s, ((mg (openL (membs c)) s).getD dM).2.1, [(t.1, i)])))) : orset_Add c t i s Q := by
  have hmr : maxRow = 2147483648 := rfl
  have hb := hc.m
  unfold orset_Add
  refine may_ok hc (cnot (cdec (fun _ => opened_ok hc (Pairwise_keys hm.2.2) ?_) fun hn => absurd hm hn))
  have e : (Option.getD (mget Ty.str (openL (membs c)) s) (ByteArray.empty, (false, ([] : List t43.den)))).2.2 = [] := he
  rw [e]
  refine with_nil ?_
  have hol : (openL (membs c)).length = (membs c).length := by simp [openL]
  show closedP c Q (mp (openL (membs c)) s (s, ((mg (openL (membs c)) s).getD dM).2.1, [(t.1, i)]))
  refine closed_ok ?_ h
  have := length_mp_le (openL (membs c)) s (s, ((mg (openL (membs c)) s).getD dM).2.1, [(t.1, i)])
  omega

def foldM (cut : List Int) (m : Memb) : Memb := (m.1, (m.2.1 || decide ((m.2.2.filter fun k => !hasV cut k.1).length < m.2.2.length), m.2.2.filter fun k => !hasV cut k.1))

theorem fold_ok {c : CellD} {cut : List Int} {Q : CellD → Prop} (hc : Fits c) (h1 : ¬ CheckC c → Q c) (h2 : CheckC c → Q (c.1, c.2.1, c.2.2.1, c.2.2.2.1, (membs c).map (foldM cut), c.2.2.2.2.2)) : orset_Fold c cut Q := by
  have hmr : maxRow = 2147483648 := rfl
  have hb := hc.m
  unfold orset_Fold
  refine check_ok hc (cnot (cdec (fun hC => cloneM_ok hb ?_) h1))
  refine LoopP.up (fun i (row : List Memb) => (((), (), (i : Int), ()), ((c.1, c.2.1, c.2.2.1, c.2.2.2.1, (), c.2.2.2.2.2, ()), row, ()))) (membs c).length (fun k row => row = ((membs c).take k).map (foldM cut) ++ (membs c).drop k) ?_ ?_ (y := membs c) (by simp)
  · intro i row X hi hI hX
    have hlen : row.length = (membs c).length := by rw [hI]; simp; omega
    have hir : i < row.length := by omega
    have hri : row[i] = (membs c)[i] := by
      subst hI
      rw [List.getElem_append_right (by simp; omega)]
      simp [Nat.min_eq_left (Nat.le_of_lt hi)]
    dsimp only
    refine lt_pos (by show (i : Int) < ((membs c).length : Int); omega) ⟨In_nat.2 hir, ?_⟩
    rw [rd_get (e := t40) (xs := row) hir, hri, wrap_succ (show i < 9223372036854775807 by omega)]
    let m : Memb := (membs c)[i]
    let G : List Mark → Bool → Prop := fun l bb =>
        In (i : Int) (List.length (List.set row (Int.toNat (i : Int)) (m.1, (bb, m.2.2)))) ∧
        X (((), (), ((i + 1 : Nat) : Int), ()), ((c.1, c.2.1, c.2.2.1, c.2.2.2.1, (), c.2.2.2.2.2, ()), List.set (List.set row (Int.toNat (i : Int)) (m.1, (bb, m.2.2))) (Int.toNat (i : Int)) ((rd (e := t40) (List.set row (Int.toNat (i : Int)) (m.1, (bb, m.2.2))) (i : Int)).1, ((rd (e := t40) (List.set row (Int.toNat (i : Int)) (m.1, (bb, m.2.2))) (i : Int)).2.1, l)), ()))
    have fin : ∀ (l : List Mark) (bb : Bool), l = (m.2.2.filter fun k => !hasV cut k.1) → bb = (m.2.1 || decide (l.length < m.2.2.length)) → G l bb := by
      intro l bb hl hbb
      have hs : i < (List.set row (Int.toNat (i : Int)) (m.1, (bb, m.2.2))).length := by simpa using hir
      refine ⟨In_nat.2 hs, ?_⟩
      rw [rd_get (e := t40) (xs := List.set row (Int.toNat (i : Int)) (m.1, (bb, m.2.2))) hs]
      refine hX _ ?_
      simp only [Int.toNat_natCast, List.getElem_set_self, List.set_set]
      have hf : foldM cut (membs c)[i] = (m.1, (bb, l)) := by
        unfold foldM
        rw [hbb, hl]
      rw [List.take_succ_eq_append_getElem hi, List.map_append, List.map_cons, List.map_nil, hf, hI]
      rw [List.set_append_right _ _ (by simp; omega)]
      rw [List.drop_eq_getElem_cons hi]
      simp only [List.length_map, List.length_take, Nat.min_eq_left (Nat.le_of_lt hi), Nat.sub_self, List.set_cons_zero, List.append_assoc, List.singleton_append]
    have hml : m.2.2.length ≤ 1073741824 := hc.r m (List.getElem_mem hi)
    refine clone_ok hml ?_
    show withoutP m.2.2 (fun k Q => vec_Has cut k.1 Q) (fun l => bif m.2.1 then In (i : Int) (List.length row) ∧ G l true else In (i : Int) (List.length row) ∧ G l (ltI (List.length l : Int) (List.length m.2.2 : Int)))
    refine without_ok (p := fun k => hasV cut k.1) (fun k Q h => has_ok h) (by omega) ?_
    refine cb (fun hb1 => ⟨In_nat.2 hir, fin _ true rfl ?_⟩) fun hb1 => ⟨In_nat.2 hir, fin _ _ rfl ?_⟩
    · rw [hb1]; rfl
    · rw [hb1]; unfold ltI; simp only [Bool.false_or, decide_eq_decide]; omega
  · intro row X hI
    subst hI
    refine lt_neg (Int.le_refl _) ?_
    rw [List.take_length, List.drop_length, List.append_nil]
    exact h2 hC

end Go.Proofs.Ytodjomdnlcledaa.X
