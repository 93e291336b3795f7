/- Regions; code. -/
import Derived.Test.YtodjomdnlcledaaY11
namespace Go.Proofs.Ytodjomdnlcledaa.X
open Go Go.RowKit
set_option linter.unusedSimpArgs false
set_option linter.unusedVariables false

section
variable {Γ : Base} {s : St} {c : Ctx} {N : Nat} {a : Act} {w : World}

theorem getD_bool {tmps : Array Value} {d : Nat} {b : Bool} (h : tmps.getD d undef = .bool b) : tmps[d]? = some (.bool b) := by
  cases hq : tmps[d]? with
  | none => rw [Array.getD_eq_getD_getElem?, hq] at h; cases h
  | some v => rw [Array.getD_eq_getD_getElem?, hq] at h; exact congrArg some h

theorem R.setBool (hR : R Γ s c N a w) {d : Nat} {b : Bool} (h : lk s.sl d = .d .bool b) : R Γ (s.put d (.d .bool b)) c N a w := by
  refine ⟨hR.rw_, fun t => ?_, hR.size, hR.defers⟩
  simp only [St.put, lk_cons]
  split
  · rename_i e; subst e; have := hR.slots d; rw [h] at this; exact this
  · exact hR.slots t

theorem guardX_ok {ops : Array Oper} {o : Oper} {yes no : St → Prop} (hR : R Γ s c N a w) (h : guardX ops o s yes no) :
    ∃ s1, R Γ s1 c N a w ∧ Adv s c w s1 c w ∧ ((Region.wanted o (yielded ops a.tmps) = true ∧ yes s1) ∨ (Region.wanted o (yielded ops a.tmps) = false ∧ no s1)) := by
  unfold guardX at h
  cases hg : o.guard with
  | none => rw [hg] at h; exact ⟨s, hR, Adv.refl _ _ _, .inl ⟨by simp [Region.wanted, hg], h⟩⟩
  | some p =>
    obtain ⟨j, want⟩ := p
    rw [hg] at h
    simp only at h
    split at h
    · rename_i d hd
      split at h
      · rename_i b hb
        have hv := hR.slots d
        rw [hb] at hv
        simp only [RelAV] at hv
        have hv := getD_bool (val_bool hv)
        have hy : yielded ops a.tmps j = some b := by simp [yielded, hd, hv]
        have hR1 := hR.setBool hb
        have hA : ∀ b', Adv s c w (s.put d (.d .bool b')) c w := fun b' => (Adv.refl s c w).put d _
        cases want <;> cases b <;> simp only [cond_true, cond_false] at h
        · exact ⟨_, hR1, hA _, .inl ⟨by simp [Region.wanted, hg, hy], h⟩⟩
        · exact ⟨_, hR1, hA _, .inr ⟨by simp [Region.wanted, hg, hy], h⟩⟩
        · exact ⟨_, hR1, hA _, .inr ⟨by simp [Region.wanted, hg, hy], h⟩⟩
        · exact ⟨_, hR1, hA _, .inl ⟨by simp [Region.wanted, hg, hy], h⟩⟩
      · rename_i v hv0
        have hv := hR.slots d
        rw [hv0] at hv
        simp only [RelAV] at hv
        split at h
        · exact h.elim
        · rename_i hnb
          have hy : yielded ops a.tmps j = none := by
            simp only [yielded, hd]
            cases hq : a.tmps[d]? with
            | none => simp [hq]
            | some u =>
              have hu : u = v := by rw [← hv]; simp [hq]
              subst hu
              cases u <;> simp [hq]
              rename_i b
              exact absurd rfl (hnb b)
          exact ⟨s, hR, Adv.refl _ _ _, .inr ⟨by simp [Region.wanted, hg, hy], h⟩⟩
      · exact h.elim
    · exact h.elim

theorem Same.trans {W : List Nat} {a b d : Act} (h : Same W a b) (k : Same W b d) : Same W a d := fun t ht => (k t ht).trans (h t ht)
theorem Same.mono {W W' : List Nat} {a b : Act} (h : Same W a b) (hs : ∀ t ∈ W, t ∈ W') : Same W' a b := fun t ht => h t (fun hm => ht (hs t hm))

/-- A region that is gone through in the order of a list. -/
theorem reg_ok {E : Env} {ops : Array Oper} {K : St → Prop} (hH : HOk Γ E) (he : EqvOk E) {W : List Nat} (hW : ∀ o ∈ ops.toList, ∀ d, o.dst = some d → d ∈ W) {Q : Exit → Act → World → Prop} :
    ∀ (l : List Nat) (s : St) (c : Ctx) (a : Act) (w : World), R Γ s c E.N a w → regX E ops l s K →
      (∀ s' c' a' w', K s' → Adv s c w s' c' w' → R Γ s' c' E.N a' w' → Same W a a' → Q .normal a' w') → wpOps E.P ops Q l a w
  | [], s, c, a, w, hR, h, hQ => hQ s c a w h (Adv.refl _ _ _) hR (Same.refl _ _)
  | i :: l, s, c, a, w, hR, h, hQ => by
    simp only [regX] at h
    split at h
    · rename_i o ho
      simp only [wpOps, ho]
      have hWo : ∀ d, o.dst = some d → d ∈ W := hW o (List.mem_of_getElem? (i := i) (by rw [Array.getElem?_toList]; exact ho))
      obtain ⟨s1, hR1, hA1, hcase⟩ := guardX_ok hR h
      rcases hcase with ⟨hw, h⟩ | ⟨hw, h⟩
      · rw [if_pos hw]
        refine .inl (op_ok hH he hR1 h W _ Q hWo fun s' c' a' w' hK hadv hR' hsame _ => ?_)
        exact reg_ok hH he hW l s' c' a' w' hR' hK fun s'' c'' a'' w'' k1 k2 k3 k4 => hQ s'' c'' a'' w'' k1 ((hA1.trans hadv).trans k2) k3 (hsame.trans k4)
      · rw [if_neg (by rw [hw]; exact Bool.false_ne_true)]
        refine put_done (o := o) hR1 h (Adv.refl _ _ _) rfl hR1.rw_ (by simp only [RelAV]) hWo (fun _ => Ext.refl _) fun s' c' a' w' hK hadv hR' hsame _ => ?_
        exact reg_ok hH he hW l s' c' a' w' hR' hK fun s'' c'' a'' w'' k1 k2 k3 k4 => hQ s'' c'' a'' w'' k1 ((hA1.trans hadv).trans k2) k3 (hsame.trans k4)
    · exact h.elim

theorem region_ok {E : Env} {ops : Array Oper} {K : St → Prop} (hH : HOk Γ E) (he : EqvOk E) {id : Nat} {Q : Exit → Act → World → Prop} (hR : R Γ s c E.N a w) (h : regX E ops (List.range ops.size) s K)
    (hQ : ∀ s' c' a' w', K s' → Adv s c w s' c' w' → R Γ s' c' E.N a' w' → Same (writes (.region id ops false)) a a' → Q .normal a' w') : (Code.region id ops false).wp E.P Q a w :=
  wp_region (reg_ok hH he (fun o ho d hd => by simp only [writes, List.mem_filterMap]; exact ⟨o, ho, hd⟩) _ s c a w hR h hQ)

/-! ### Loops: the least fixed point -/
theorem wp_loop_lfp {P : Program} {cd : Code} {Q : Exit → Act → World → Prop} {σ : Type} {body : (σ → Prop) → σ → Prop} {x : σ} (I : σ → Act → World → Prop) (h : LoopP body x)
    (step : ∀ (X : σ → Prop), (∀ x, X x → ∀ a w, I x a w → ∀ (b : Frame) (k : List Item) (cs : List Frame), ∃ e a' w', Q e a' w' ∧ Arrives P (lone (b.at a (.code cd :: .inLoop cd :: k)) cs w) b k cs e a' w') →
      ∀ x, body X x → ∀ a w, I x a w → cd.wp P (Exit.then (fun a' w' => ∃ y, X y ∧ I y a' w') Q) a w) :
    ∀ a w, I x a w → (Code.loop cd).wp P Q a w := by
  intro a w hI b k cs
  have key := h (fun x => ∀ a w, I x a w → ∀ (b : Frame) (k : List Item) (cs : List Frame), ∃ e a' w', Q e a' w' ∧ Arrives P (lone (b.at a (.code cd :: .inLoop cd :: k)) cs w) b k cs e a' w') (by
    intro x hb a w hI b k cs
    obtain ⟨e, a₁, w₁, hq, harr⟩ := step _ (fun _ h => h) x hb a w hI b (.inLoop cd :: k) cs
    cases e with
    | normal =>
      obtain ⟨y, hy, hIy⟩ := hq
      obtain ⟨e₂, a₂, w₂, hq₂, harr₂⟩ := hy a₁ w₁ hIy b k cs
      exact ⟨e₂, a₂, w₂, hq₂, .of_steps (Steps.trans harr (.one step_inLoop)) harr₂⟩
    | exit id => exact ⟨_, a₁, w₁, hq, .pass (x := .inLoop cd) rfl (fun _ _ => .inl (by simp)) harr⟩
    | goto l => exact ⟨_, a₁, w₁, hq, .pass (x := .inLoop cd) rfl (fun _ _ => .inl (by simp)) harr⟩
    | ret => exact ⟨_, a₁, w₁, hq, .pass (x := .inLoop cd) rfl (fun _ _ => .inl (by simp)) harr⟩
    | panic ch => exact ⟨_, a₁, w₁, hq, .pass (x := .inLoop cd) rfl (fun _ _ => .inl (by simp)) harr⟩
    | outgrown => exact ⟨_, a₁, w₁, hq, .pass (x := .inLoop cd) rfl (fun _ _ => .inl (by simp)) harr⟩) a w hI
  obtain ⟨e, a', w', hq, harr⟩ := key b k cs
  exact ⟨e, a', w', hq, .of_steps (.one step_loop) harr⟩
end

end Go.Proofs.Ytodjomdnlcledaa.X
