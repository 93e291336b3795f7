/- slices.Sort on a row of the call's own. -/
import Derived.Test.YtodjomdnlcledaaY16
import Derived.Sort.Grow
namespace Go.Proofs.Ytodjomdnlcledaa.X
open Go Go.RowKit Go.Sort
set_option linter.unusedSimpArgs false
set_option linter.unusedVariables false

/-- The row is sorted in place. -/
def sortX (e : Ty) (srt : List e.den → List e.den) (args : List AV) (s : St) (K : AV → St → Prop) : Prop :=
  match args with
  | [.own id ver _] => bif lockedB s id then False else (match s.L[id]? with
    | some (.row cv T e' xs) => bif Nat.beq ver cv then (match castL e' e xs with
      | some ys => List.length ys ≤ maxRow ∧ K (.tup []) (s.setL id (.row cv T e (srt ys)))
      | none => False) else False
    | _ => False)
  | _ => False

/-- What the library says of the sort of a row whose elements take one cell. -/
structure SortsAt (P : Program) (f : FuncId) {α : Type} [Inhabited α] (enc : α → Value) (srt : List α → List α) : Prop where
  full : ∀ (blk cap : Nat) (zs : List α) (w : World), Holds enc w blk 0 zs.toArray → blk < w.heap.size → zs.length < 4611686018427387904 →
    Calls P f #[.slice (some ⟨blk, 0, none⟩) zs.length cap] w fun e w' => e = .returned (.tuple #[]) ∧ ∃ n os, w' = grow (putRow enc (Sort.ahead w n) blk 0 (srt zs).toArray) os
  none : ∀ w : World, Calls P f #[.slice none 0 0] w fun e w' => e = .returned (.tuple #[]) ∧ w' = w

theorem heap_sorted {α : Type} [Inhabited α] (enc : α → Value) (w : World) (n blk : Nat) (d : Array α) (os : Array Obj) (b : Nat) (hb : b < w.heap.size) :
    (grow (putRow enc (Sort.ahead w n) blk 0 d) os).heap[b]? = if blk = b then (w.heap[b]?).map (onCells (putCells enc 0 d)) else w.heap[b]? := by
  simp only [grow, putRow, mapBlock, Sort.ahead]
  rw [Array.getElem?_append_left (by simpa using hb), Array.getElem?_modify]

theorem sortX_ok {P : Program} {f : FuncId} {e : Ty} {α : Type} [Inhabited α] {enc : α → Value} {srt : List α → List α} (hC : SortsAt P f enc srt) (gi : e.den → α) (go : α → e.den) (hsz : e.size = 1)
    (hcell : ∀ (S : BSet) (w : World) (x : e.den) (c : Value), e.cell S w x 0 c ↔ c = enc (gi x)) (hgg : ∀ a, gi (go a) = a) (hlen : ∀ l, (srt l).length = l.length)
    (args : List AV) (s : St) (K : AV → St → Prop) (h : sortX e (fun l => (srt (l.map gi)).map go) args s K) (Γ : Base) (c : Ctx) (w : World) (vals : List Value) (hw : RW Γ s.L c w) (hr : RelAVs s.L c w args vals) :
    Calls P f vals.toArray w (fun e w' => ∃ v av s' c', e = .returned v ∧ K av s' ∧ s'.sl = s.sl ∧ Adv s c w s' c' w' ∧ RW Γ s'.L c' w' ∧ RelAV s'.L c' w' av v) := by
  unfold sortX at h
  split at h
  · rename_i id ver e0
    cases hlk : lockedB s id with
    | true => rw [hlk] at h; exact h.elim
    | false =>
      rw [hlk] at h
      simp only [cond_false] at h
      split at h
      · rename_i cv T e' xs hL
        cases hver : Nat.beq ver cv with
        | false => rw [hver] at h; exact h.elim
        | true =>
          rw [hver] at h
          simp only [cond_true] at h
          split at h
          · rename_i ys hys
            obtain ⟨rfl, rfl⟩ := castL_some hys
            have hv := Nat.eq_of_beq_eq_true hver
            subst hv
            obtain ⟨hmax, hK⟩ := h
            simp only at hmax hK
            simp only [RelAVs] at hr
            obtain ⟨u, us, rfl, h1, rfl⟩ := hr
            simp only [RelAV, RowAt, hL] at h1
            have hu : u = c.m id := h1.2 trivial
            subst hu
            have hobj := hw.objs id _ hL
            have noit : ∀ i mid k v td cur, i ≠ id → s.L[i]? = some (.iter mid k v td cur) → mid ≠ id := by
              intro i mid k v td cur _ hi e
              subst e
              obtain ⟨es, _, _, _, _, _, h0, _⟩ := hw.objs i _ hi
              rw [hL] at h0; cases h0
            rcases hobj with ⟨hloc, rfl⟩ | ⟨b, cap, cells, hloc, hcap, hle, hb, hsize, hcells⟩
            · rw [hloc]
              refine Calls.mono (hC.none w) ?_
              rintro e w' ⟨rfl, rfl⟩
              have hnil : ((srt (([] : List e'.den).map gi)).map go) = [] := by
                have := hlen []
                simp only [List.map_nil]
                rw [List.length_eq_zero_iff.1 this]; rfl
              have hset : (s.setL id (.row ver T e' ((srt (([] : List e'.den).map gi)).map go))) = s := by
                rw [hnil]
                unfold St.setL
                have : s.L.set id (.row ver T e' []) = s.L := by
                  apply List.ext_getElem?
                  intro j
                  by_cases hj : id = j
                  · subst hj
                    have := (List.getElem?_eq_some_iff.1 hL).1
                    rw [List.getElem?_set_self this, hL]
                  · rw [List.getElem?_set_ne hj]
                rw [this]
              rw [hset] at hK
              exact ⟨_, _, s, c, rfl, hK, rfl, Adv.refl _ _ _, hw, by simp only [RelAV]; exact ⟨#[], rfl, by simp only [RelAVs]⟩⟩
            · rw [hloc]
              have hbw : b < w.heap.size := (Array.getElem?_eq_some_iff.1 hb).1
              have hH : Holds enc w b 0 (xs.map gi).toArray := by
                intro j hj
                simp only [List.size_toArray, List.length_map] at hj
                obtain ⟨cv, k1, k2⟩ := hcells j _ (List.getElem?_eq_getElem hj) 0 (by omega)
                rw [hcell] at k2
                rw [hsz] at k1
                constructor
                · unfold World.cell?
                  simp only [hb]
                  rw [show 0 + j = j * 1 + 0 by omega, if_neg (by simp)]
                  rw [k1, k2]
                  simp [hj]
                · unfold World.frozen?
                  simp [hb]
              have hcon := hC.full b cap (xs.map gi) w hH hbw (by simp only [List.length_map]; have : maxRow = 2147483648 := rfl; omega)
              simp only [List.length_map] at hcon
              refine Calls.mono hcon ?_
              rintro e w' ⟨rfl, n, os, rfl⟩
              have hheap := fun (k : Nat) (hk : k < w.heap.size) => heap_sorted enc w n b (srt (xs.map gi)).toArray os k hk
              have hlen' : ((srt (xs.map gi)).map go).length = xs.length := by rw [List.length_map, hlen, List.length_map]
              have hown : ∀ k, Owns (.row ver T e' xs) (c.m id) k ↔ k = b := fun k => by
                constructor
                · rintro ⟨n, cp, e⟩
                  rw [hloc] at e
                  injection e with e
                  injection e with e
                  injection e with e
                  exact e.symm
                · rintro rfl; exact ⟨_, _, hloc⟩
              have hh : ∀ k, k < w.heap.size → ¬ Owns (.row ver T e' xs) (c.m id) k → (grow (putRow enc (Sort.ahead w n) b 0 (srt (xs.map gi)).toArray) os).heap[k]? = w.heap[k]? := fun k hk hn => by
                rw [hheap k hk, if_neg (fun e => hn ((hown k).2 e.symm))]
              have hal : Alike w (grow (putRow enc (Sort.ahead w n) b 0 (srt (xs.map gi)).toArray) os) := ⟨rfl, rfl, rfl, by simp [Sort.ahead]⟩
              obtain ⟨g1, g2⟩ := RW.chg (w' := grow (putRow enc (Sort.ahead w n) b 0 (srt (xs.map gi)).toArray) os) (o' := .row ver T e' ((srt (xs.map gi)).map go)) (v' := c.m id) hw hL hal hh
                (fun k hk => ⟨.inl hk, Nat.lt_of_lt_of_le (hw.owns id _ k hL hk).2.1 hal.size⟩) ⟨rfl, rfl, Nat.le_refl _, fun _ => rfl⟩ noit (fun hst => by
                  refine .inr ⟨b, cap, putCells enc 0 (srt (xs.map gi)).toArray cells, by rw [hlen']; exact hloc, hcap, by rw [hlen']; exact hle, ?_, by simp [putCells, hsize], fun i x hx j hj => ?_⟩
                  · rw [hheap b hbw, if_pos rfl, hb]; rfl
                  · have hj0 : j = 0 := by omega
                    subst hj0
                    have hi : i < ((srt (xs.map gi)).map go).length := (List.getElem?_eq_some_iff.1 hx).1
                    have hi2 : i < (srt (xs.map gi)).length := by simpa using hi
                    refine ⟨enc (gi x), ?_, (hcell _ _ _ _).2 rfl⟩
                    have hcs : i < cells.size := by rw [hsize, hsz]; omega
                    simp only [putCells, Array.getElem?_mapIdx, hsz, Nat.mul_one, Nat.add_zero, Array.getElem?_eq_getElem hcs, Option.map_some]
                    rw [if_pos ⟨by omega, by simpa using hi2⟩]
                    rw [List.getElem?_eq_getElem hi] at hx
                    simp only [Option.some.injEq] at hx
                    subst hx
                    simp [hi2, hgg])
              have hcm : c.set id (c.m id) = c := by
                cases c with
                | mk m S => simp only [Ctx.set]; congr; funext i; split <;> simp_all
              refine ⟨_, _, _, c.set id (c.m id), rfl, hK, rfl, Adv.chg g2 hw hL (lockedB_false hlk) hh, g1, by simp only [RelAV]; exact ⟨#[], rfl, by simp only [RelAVs]⟩⟩
          · exact h.elim
      · exact h.elim
  · exact h.elim
end Go.Proofs.Ytodjomdnlcledaa.X
