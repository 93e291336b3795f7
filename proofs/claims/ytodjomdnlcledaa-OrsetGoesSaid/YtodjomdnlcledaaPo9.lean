/- The law OrsetGoes over what the functions compute. -/
import Derived.Test.YtodjomdnlcledaaPo8
import Derived.Test.YtodjomdnlcledaaY19
namespace Go.Proofs.Ytodjomdnlcledaa.X
open Go Go.RowKit
set_option linter.unusedSimpArgs false
set_option linter.unusedVariables false

theorem membs_of {l : List Memb} (h1 : ∀ x ∈ l, MembOk x) (h2 : (l.map (·.1)).Pairwise (fun a b => sLess a b = true)) : MembsOk l := fun i hi => by
  refine ⟨h1 _ (List.getElem_mem hi), fun h0 => ?_⟩
  have := (List.pairwise_iff_getElem.1 h2) (i - 1) i (by simp; omega) (by simpa using hi) (by omega)
  simpa using this

theorem membs_all {l : List Memb} (h : MembsOk l) : ∀ x ∈ l, MembOk x := fun x hx => by
  obtain ⟨i, hi, rfl⟩ := List.mem_iff_getElem.1 hx
  exact (h i hi).1

theorem close_open {l : List Memb} (h : (l.map (·.1)).Pairwise (fun a b => sLess a b = true)) : closeL (openL l) = l := by
  unfold closeL
  rw [keys_openL, sort_self h, List.map_map]
  conv => rhs; rw [← List.map_id l]
  refine List.map_congr_left fun x hx => ?_
  have hn : (keys (openL l)).Nodup := by rw [keys_openL]; exact nodup_of_lt h
  show (mg (openL l) x.1).getD dM = x
  rw [mg_of_mem hn (List.mem_map.2 ⟨x, hx, rfl⟩)]; rfl

theorem md_openL {l : List Memb} (hn : (l.map (·.1)).Nodup) (s : ByteArray) : md (openL l) s = openL (l.filter fun x => x.1 != s) := by
  induction l with
  | nil => rfl
  | cons x r ih =>
    simp only [List.map_cons, List.nodup_cons] at hn
    show md ((x.1, x) :: openL r) s = _
    rw [md_cons]
    by_cases h : s = x.1
    · subst h
      rw [if_pos rfl, List.filter_cons, if_neg (by simp), List.filter_eq_self.2]
      intro a ha
      simp only [bne_iff_ne, ne_eq]
      exact fun e => hn.1 (List.mem_map.2 ⟨a, ha, e⟩)
    · have : (x.1 != s) = true := by simp only [bne_iff_ne, ne_eq]; exact fun e => h e.symm
      rw [if_neg h, List.filter_cons, if_pos this, ih hn.2]; rfl

/-- All marks of the member with a text have been seen. -/
def Seen (l : List Memb) (s : ByteArray) (t : t33.den) : Prop := ∀ x ∈ l, x.1 = s → ∀ k ∈ x.2.2, befM k t 1 = true

theorem gone_seen {l : List Memb} {s : ByteArray} {t : t33.den} (hn : (l.map (·.1)).Nodup) (h : Seen l s t) : goneM (openL l) s t 1 = openL (l.filter fun x => x.1 != s) := by
  unfold goneM
  cases hg : mg (openL l) s with
  | none =>
    rw [mg_none, keys_openL] at hg
    dsimp only
    rw [List.filter_eq_self.2]
    intro a ha
    simp only [bne_iff_ne, ne_eq]
    exact fun e => hg (List.mem_map.2 ⟨a, ha, e⟩)
  | some x =>
    obtain ⟨h1, h2⟩ := openL_mem hg
    dsimp only
    have : (x.2.2.filter fun k => !befM k t 1) = [] := by
      rw [List.filter_eq_nil_iff]
      intro k hk
      rw [h x h1 h2 k hk]; simp
    rw [this, if_pos (show ([] : List Mark).length = 0 from rfl), md_openL hn]

theorem goes_ok {c : CellD} {t : t33.den} {s : ByteArray} (hc : t26.ok c) (ht : t33.ok t) (hs : Ty.str.ok s) : law10_OrsetGoes c t s (fun r => r = true) := by
  have hmr : maxRow = 2147483648 := rfl
  have heads : law10_heads (fun r => r = true) := heads_ok rfl
  unfold law10_OrsetGoes
  refine few_ok hc.2.2.1.1 hc.2.2.2.1.1 hc.2.2.2.2.1.1 hc.2.2.2.2.2.1 (fun hsum hmk => ?_) heads
  have hf : Fits c := ⟨by omega, by omega, by omega, by omega, fun x hx => by have := hmk x hx; omega⟩
  have hb := hf.m
  have hm60 : (membs c).length ≤ 60 := by omega
  refine cnot (ctrue rfl (check10_ok hf (cnot (cdec (fun hC => small_ok ht.2.2.2.1 fun b => ?_) fun _ => heads))))
  refine cnot (cb (fun _ => c_gt (fun _ => heads) fun hsz => ?_) fun _ => heads)
  refine LoopP.up (fun i (want : List ByteArray) => (((), (i : Int), ()), (want, ()))) (membs c).length (fun k want => want = (((membs c).take k).filter fun x => x.1 != s).map (·.1) ∧ Seen ((membs c).take k) s t) ?_ ?_ (y := []) ⟨rfl, fun x hx => by simp at hx⟩
  · intro i want X hi ⟨g1, g2⟩ hX
    dsimp only
    rw [rd_get (e := t40) (xs := membs c) hi, wrap_succ (show i < 9223372036854775807 by omega)]
    have hwl : want.length ≤ 60 := by
      rw [g1, List.length_map]
      have := List.length_filter_le (fun x : Memb => x.1 != s) ((membs c).take i)
      have := List.length_take_le i (membs c)
      omega
    refine lt_pos (by show (i : Int) < ((membs c).length : Int); omega) ⟨In_nat.2 hi, cnot (c_eqS (fun he => ?_) fun he => ⟨?_, hX _ ⟨?_, ?_⟩⟩)⟩
    · refine loop_each (n := (membs c)[i].2.2.length) (fun j => ∀ h : j < (membs c)[i].2.2.length, befM (membs c)[i].2.2[j] t 1 = true) (by have := hf.r _ (List.getElem_mem hi); omega) ?_ ?_
      · intro j Y hj hY
        simp only [wrap_succ (show j < 9223372036854775807 by have := hf.r _ (List.getElem_mem hi); omega), rd_get (e := t43) (xs := (membs c)[i].2.2) hj]
        refine lt_pos (by show (j : Int) < ((membs c)[i].2.2.length : Int); omega) ⟨In_nat.2 hj, before7_ok (cnot (cb (fun h => hY fun _ => h) fun _ => heads))⟩
      · intro Y hall
        refine lt_neg (Int.le_refl _) (hX _ ⟨?_, ?_⟩)
        · rw [List.take_succ_eq_append_getElem hi, List.filter_append, List.map_append, ← g1]
          simp [he]
        · intro x hx hxs k hk
          rw [List.take_succ_eq_append_getElem hi, List.mem_append, List.mem_singleton] at hx
          rcases hx with hx | rfl
          · exact g2 x hx hxs k hk
          · obtain ⟨j, hj, rfl⟩ := List.mem_iff_getElem.1 hk
            exact hall j hj hj
    · simp only [List.length_cons, List.length_nil]; omega
    · rw [List.take_succ_eq_append_getElem hi, List.filter_append, List.map_append, ← g1]
      simp [he]
    · intro x hx hxs k hk
      rw [List.take_succ_eq_append_getElem hi, List.mem_append, List.mem_singleton] at hx
      rcases hx with hx | rfl
      · exact g2 x hx hxs k hk
      · exact absurd hxs he
  · intro want X ⟨g1, g2⟩
    rw [List.take_length] at g1 g2
    refine lt_neg (Int.le_refl _) ?_
    have hlt := texts_lt hC.2.2.2.2.2
    have may : May c 1 s := ⟨by omega, by omega, hC⟩
    refine del_ok hf (fun hn => absurd may hn) fun _ => ?_
    have hsub := (hlt.sublist ((List.filter_sublist (l := membs c) (p := fun x => x.1 != s)).map (·.1)))
    rw [gone_seen (nodup_of_lt hlt) g2]
    have ec : closeC c (openL ((membs c).filter fun x => x.1 != s)) = (c.1, c.2.1, c.2.2.1, c.2.2.2.1, (membs c).filter (fun x => x.1 != s), c.2.2.2.2.2) := by
      unfold closeC
      rw [close_open hsub]
    rw [ec]
    have hfl := List.length_filter_le (fun x : Memb => x.1 != s) (membs c)
    have hf' : Fits (c.1, c.2.1, c.2.2.1, c.2.2.2.1, (membs c).filter (fun x => x.1 != s), c.2.2.2.2.2) :=
      ⟨hf.a, hf.w, by show ((membs c).filter (fun x => x.1 != s)).length ≤ _; omega, hf.e, fun x hx => hf.r x (List.mem_filter.1 hx).1⟩
    have hC' : CheckC (c.1, c.2.1, c.2.2.1, c.2.2.2.1, (membs c).filter (fun x => x.1 != s), c.2.2.2.2.2) :=
      ⟨hC.1, hC.2.1, hC.2.2.1, hC.2.2.2.1, hC.2.2.2.2.1, membs_of (fun x hx => membs_all hC.2.2.2.2.2 x (List.mem_filter.1 hx).1) hsub⟩
    refine read_ok hf' (fun hn => absurd hC' hn) fun _ => texts_ok ?_ ?_
    · show (((membs c).filter (fun x => x.1 != s)).map (·.1)).length ≤ _
      rw [List.length_map]; omega
    · subst g1
      show cond (decide (((membs c).filter (fun x => x.1 != s)).map (·.1) = ((membs c).filter (fun x => x.1 != s)).map (·.1))) _ _
      exact cpos rfl heads

end Go.Proofs.Ytodjomdnlcledaa.X
