/- Regions that draw their order: the order of a list serves every order. -/
import Derived.Test.YtodjomdnlcledaaY13
import Derived.OrdersHeld
namespace Go.Proofs.Ytodjomdnlcledaa.X
open Go Go.RowKit
set_option linter.unusedSimpArgs false
set_option linter.unusedVariables false

section
variable {P : Program} {ops : Array Oper} {Q : Exit → Act → World → Prop} {md : Region.Mode} {late : Nat → Bool}

/-- Whatever order is picked from here on; S holds behind every operation, as long as none of the late ones has come up. -/
def wpAnyL (P : Program) (md : Region.Mode) (ops : Array Oper) (Q : Exit → Act → World → Prop) (late : Nat → Bool) (S : World → Prop) : Nat → Array Bool → Act → World → Prop
  | 0, listed, a, w => Region.ready md ops listed = [] ∧ Q .normal a w
  | fuel + 1, listed, a, w =>
    (Region.ready md ops listed = [] → Q .normal a w) ∧
    ∀ i ∈ Region.ready md ops listed, wpOp P ops Q i (fun a' w' => if late i = true then wpAny P md ops Q fuel (listed.setIfInBounds i true) a' w'
      else S w' ∧ wpAnyL P md ops Q late S fuel (listed.setIfInBounds i true) a' w') a w

theorem wpAny_of_late {S : World → Prop} : ∀ (fuel : Nat) (listed : Array Bool) (a : Act) (w : World), wpAnyL P md ops Q late S fuel listed a w → wpAny P md ops Q fuel listed a w
  | 0, _, _, _, h => h
  | fuel + 1, _, _, _, h => ⟨h.1, fun i hi => wpOp_mono (fun a' w' h' => by
      by_cases hl : late i = true
      · rw [if_pos hl] at h'; exact h'
      · rw [if_neg hl] at h'; exact wpAny_of_late fuel _ a' w' h'.2) (h.2 i hi)⟩

theorem wpAnyL_mono {S S' : World → Prop} (hS : ∀ w, S w → S' w) : ∀ (fuel : Nat) (listed : Array Bool) (a : Act) (w : World), wpAnyL P md ops Q late S fuel listed a w → wpAnyL P md ops Q late S' fuel listed a w
  | 0, _, _, _, h => h
  | fuel + 1, _, _, _, h => ⟨h.1, fun i hi => wpOp_mono (fun a' w' h' => by
      by_cases hl : late i = true
      · rw [if_pos hl] at h' ⊢; exact h'
      · rw [if_neg hl] at h' ⊢; exact ⟨hS _ h'.1, wpAnyL_mono hS fuel _ a' w' h'.2⟩) (h.2 i hi)⟩

/-- What may come up now, yields one value wherever S holds, and is waited for by all late ones, may be taken first. -/
theorem wpAnyL_first {S : World → Prop} {i : Nat} {oi : Oper} {v : Value} (hi : ops[i]? = some oi) (hil : late i = false) (hsel : ∀ (j : Nat) (o : Oper) cs b, ops[j]? = some o → o.op ≠ .select cs b)
    (hQ : ∀ c a w, Q (.panic c) (a.put oi.dst v) w → Q (.panic c) a w) :
    ∀ (fuel : Nat) (listed : Array Bool) (a : Act) (w : World),
      (∀ j oj, ops[j]? = some oj → j ≠ i → listed.getD j true = false → (∀ e ∈ oj.after, Region.binds md e = true → e.on ≠ i) → oi.apart ops oj = true) →
      (∀ j oj, ops[j]? = some oj → j ≠ i → listed.getD j true = false → late j = true → ∃ e ∈ oj.after, Region.binds md e = true ∧ e.on = i) →
      i ∈ Region.ready md ops listed → YieldsIf P ops S oi v a → S w →
      wpAnyL P md ops Q late S fuel (listed.setIfInBounds i true) (a.put oi.dst v) w → wpAnyL P md ops Q late S (fuel + 1) listed a w := by
  intro fuel
  have nl : ¬ late i = true := by rw [hil]; exact Bool.false_ne_true
  induction fuel with
  | zero =>
    intro listed a w _ _ hr hy hS H
    refine ⟨fun h => (by rw [h] at hr; cases hr), fun j hj => ?_⟩
    by_cases hji : j = i
    · subst hji; exact hy.wpOp hi hS (by rw [if_neg nl]; exact ⟨hS, H⟩)
    · have := ready_mono hj hji
      rw [H.1] at this
      cases this
  | succ fuel ih =>
    intro listed a w hfree hlate hr hy hS H
    refine ⟨fun h => (by rw [h] at hr; cases hr), fun j hj => ?_⟩
    by_cases hji : j = i
    · subst hji; exact hy.wpOp hi hS (by rw [if_neg nl]; exact ⟨hS, H⟩)
    · have h1 := H.2 j (ready_mono hj hji)
      obtain ⟨hjun, oj, hoj, hall⟩ := mem_ready.1 hj
      have hnot : ∀ e ∈ oj.after, Region.binds md e = true → e.on ≠ i := fun e he hb heq => by
        have h1 := hall e he hb
        have h0 := (mem_ready.1 hr).1
        rw [heq] at h1
        rcases Nat.lt_or_ge i listed.size with h' | h'
        · simp [h'] at h0 h1; rw [h0] at h1; cases h1
        · simp [Array.getElem?_eq_none h'] at h1
      have hjl : ¬ late j = true := fun hl => by
        obtain ⟨e, he, hb, heq⟩ := hlate j oj hoj hji hjun hl
        exact hnot e he hb heq
      have h2 := wpOp_putIf hoj (hfree j oj hoj hji hjun hnot) (fun cs b => hsel i oi cs b hi) (fun cs b => hsel j oj cs b hoj) hQ hy h1
      have un : ∀ k, (listed.setIfInBounds j true).getD k true = false → listed.getD k true = false := fun k hun => by
        by_cases hjk : j = k
        · subst hjk; exact hjun
        · rw [getD_set_ne true hjk] at hun; exact hun
      refine wpOp_mono (fun a' w' h3 => ?_) h2
      rw [if_neg hjl] at h3 ⊢
      refine ⟨h3.2.1, ih (listed.setIfInBounds j true) a' w' (fun k ok hk hki hun hno => hfree k ok hk hki (un k hun) hno) (fun k ok hk hki hun hl => hlate k ok hk hki (un k hun) hl) (ready_mono hr (Ne.symm hji)) h3.1 h3.2.1 ?_⟩
      rw [Array.setIfInBounds_comm _ _ hji]
      exact h3.2.2
end

section
variable {Γ : Base} {c : Ctx} {N : Nat} {a : Act} {w : World}

theorem Ext.trans {w w' w'' : World} (h : Ext w w') (k : Ext w' w'') : Ext w w'' := fun b hb => by
  have h1 := h b hb
  have : b < w'.heap.size := by
    have e : w.heap[b]? = some w.heap[b] := Array.getElem?_eq_getElem hb
    rw [e] at h1
    exact (Array.getElem?_eq_some_iff.1 h1).1
  exact (k b this).trans h1

theorem after1_some {o : Oper} {i : Nat} (h : after1 o i = true) : ∃ e ∈ o.after, Region.binds .any e = true ∧ e.on = i := by
  unfold after1 at h
  obtain ⟨e, he, hb⟩ := Array.any_eq_true'.1 h
  simp only [Bool.and_eq_true] at hb
  exact ⟨e, he, hb.1, Nat.eq_of_beq_eq_true hb.2⟩

theorem draw_ok {E : Env} {ops : Array Oper} {K : St → Prop} (hH : HOk Γ E) (he : EqvOk E) (hsel : Region.noSelect ops = true) {W : List Nat} (hW : ∀ o ∈ ops.toList, ∀ d, o.dst = some d → d ∈ W) {Q : Exit → Act → World → Prop}
    (hQp : ∀ c a w, ¬ Q (.panic c) a w) :
    ∀ (l : List Nat) (listed : Array Bool) (s : St) (c : Ctx) (a : Act) (w : World), lagGo E ops listed l = true → R Γ s c E.N a w → regX E ops l s K →
      (∀ s' c' a' w', K s' → Adv s c w s' c' w' → R Γ s' c' E.N a' w' → Same W a a' → Q .normal a' w') → wpAnyL E.P .any ops Q (lateAt E ops) (Ext w) l.length listed a w
  | [], listed, s, c, a, w, hl, hR, h, hQ => by
    simp only [lagGo, List.isEmpty_iff] at hl
    exact ⟨hl, hQ s c a w h (Adv.refl _ _ _) hR (Same.refl _ _)⟩
  | i :: l, listed, s, c, a, w, hl, hR, h, hQ => by
    simp only [regX] at h
    simp only [lagGo, Bool.and_eq_true] at hl
    obtain ⟨hl1, hl2⟩ := hl
    split at h
    · rename_i o ho
      rw [ho] at hl1
      simp only at hl1
      have hWo : ∀ d, o.dst = some d → d ∈ W := hW o (List.mem_of_getElem? (i := i) (by rw [Array.getElem?_toList]; exact ho))
      obtain ⟨s1, hR1, hA1, hcase⟩ := guardX_ok hR h
      have post : ∀ {s' : St} {c' : Ctx} {a' : Act} {w' : World}, Adv s1 c w s' c' w' → Same W a a' →
          (∀ s'' c'' a'' w'', K s'' → Adv s' c' w' s'' c'' w'' → R Γ s'' c'' E.N a'' w'' → Same W a' a'' → Q .normal a'' w'') := fun hadv hsame s'' c'' a'' w'' k1 k2 k3 k4 =>
        hQ s'' c'' a'' w'' k1 ((hA1.trans hadv).trans k2) k3 (hsame.trans k4)
      cases hp : plainOp o.op with
      | true =>
        rw [hp] at hl1
        simp only [cond_true, Bool.and_eq_true] at hl1
        obtain ⟨⟨hr, hf⟩, hlate⟩ := hl1
        have hready : i ∈ Region.ready .any ops listed := by
          obtain ⟨j, hj, hb⟩ := List.any_eq_true.1 hr
          have := Nat.eq_of_beq_eq_true hb
          subst this; exact hj
        have hnl : lateAt E ops i = false := by
          unfold lateAt
          rw [ho]
          have : quietOp E o.op = true := by
            unfold quietOp
            cases hop : o.op <;> rw [hop] at hp <;> simp only at hp ⊢ <;> first
              | rfl
              | exact hp
              | (rw [hp]; rfl)
          simp [this]
        have fin : ∀ v, YieldsIf E.P ops (Ext w) o v a → wpAnyL E.P .any ops Q (lateAt E ops) (Ext w) l.length (listed.setIfInBounds i true) (a.put o.dst v) w →
            wpAnyL E.P .any ops Q (lateAt E ops) (Ext w) (l.length + 1) listed a w := fun v hy hn =>
          wpAnyL_first ho hnl (Region.noSelect_spec hsel) (fun c' a' w' hq => absurd hq (hQp _ _ _)) l.length listed a w (Region.free_spec ho hf)
            (fun j oj hoj hji hun hlt => by
              have hjlt : j < ops.size := (Array.getElem?_eq_some_iff.1 hoj).1
              have := List.all_eq_true.1 hlate j (List.mem_range.2 hjlt)
              rw [hun, hlt, hoj] at this
              have hb : Nat.beq j i = false := by
                cases hb : Nat.beq j i with
                | true => exact absurd (Nat.eq_of_beq_eq_true hb) hji
                | false => rfl
              simp only [hb, Bool.false_or, Bool.not_true] at this
              exact after1_some this) hready hy (Ext.refl w) hn
        rcases hcase with ⟨hw, h⟩ | ⟨hw, h⟩
        · obtain ⟨av, v, hK, hv, hrun⟩ := plain_ok he hp hR1 h
          refine fin v (.inl ⟨hw, hrun⟩) ?_
          exact put_done (next := fun a' w' => wpAnyL E.P .any ops Q (lateAt E ops) (Ext w') l.length (listed.setIfInBounds i true) a' w') hR1 hK (Adv.refl _ _ _) rfl hR1.rw_ hv hWo (fun _ => Ext.refl w)
            (fun s' c' a' w' hK hadv hR' hsame _ => draw_ok hH he hsel hW hQp l _ s' c' a' w' hl2 hR' hK (post hadv hsame))
        · refine fin undef (.inr ⟨hw, rfl⟩) ?_
          exact put_done (next := fun a' w' => wpAnyL E.P .any ops Q (lateAt E ops) (Ext w') l.length (listed.setIfInBounds i true) a' w') hR1 h (Adv.refl _ _ _) rfl hR1.rw_ (by simp only [RelAV]) hWo (fun _ => Ext.refl w)
            (fun s' c' a' w' hK hadv hR' hsame _ => draw_ok hH he hsel hW hQp l _ s' c' a' w' hl2 hR' hK (post hadv hsame))
      | false =>
        rw [hp] at hl1
        simp only [cond_false] at hl1
        have hready : Region.ready .any ops listed = [i] := by
          split at hl1
          · rename_i j hj; rw [hj, Nat.eq_of_beq_eq_true hl1]
          · cases hl1
        refine ⟨fun h0 => (by rw [hready] at h0; cases h0), fun j hj => ?_⟩
        rw [hready, List.mem_singleton] at hj
        subst hj
        unfold wpOp
        simp only [ho]
        have next : ∀ s' c' a' w', regX E ops l s' K → Adv s1 c w s' c' w' → R Γ s' c' E.N a' w' → Same W a a' → (quietOp E o.op = true → Ext w w') →
            (if lateAt E ops j = true then wpAny E.P .any ops Q l.length (listed.setIfInBounds j true) a' w' else Ext w w' ∧ wpAnyL E.P .any ops Q (lateAt E ops) (Ext w) l.length (listed.setIfInBounds j true) a' w') := by
          intro s' c' a' w' hK hadv hR' hsame hq
          have ih := draw_ok hH he hsel hW hQp l _ s' c' a' w' hl2 hR' hK (post hadv hsame)
          split
          · exact wpAny_of_late _ _ _ _ ih
          · rename_i hnl
            have hqt : quietOp E o.op = true := by
              unfold lateAt at hnl
              rw [ho] at hnl
              simpa using hnl
            exact ⟨hq hqt, wpAnyL_mono (fun w'' h => (hq hqt).trans h) _ _ _ _ ih⟩
        rcases hcase with ⟨hw, h⟩ | ⟨hw, h⟩
        · rw [if_pos hw]
          exact .inl (op_ok hH he hR1 h W _ Q hWo next)
        · rw [if_neg (by rw [hw]; exact Bool.false_ne_true)]
          exact put_done (o := o) (next := fun a' w' => if lateAt E ops j = true then wpAny E.P .any ops Q l.length (listed.setIfInBounds j true) a' w' else Ext w w' ∧ wpAnyL E.P .any ops Q (lateAt E ops) (Ext w) l.length (listed.setIfInBounds j true) a' w')
            hR1 h (Adv.refl _ _ _) rfl hR1.rw_ (by simp only [RelAV]) hWo (fun _ => Ext.refl w) next
    · exact h.elim

theorem wp_noPanic {P : Program} {cd : Code} {Q : Exit → Act → World → Prop} {a : Act} {w : World} (h : cd.wp P (fun e a w => match e with | .panic _ => False | e => Q e a w) a w) : cd.wp P Q a w :=
  wp_mono h fun e a w hq => by cases e <;> first | exact hq | exact hq.elim

/-- **A region that draws its order.** -/
theorem region_draw_ok {E : Env} {ops : Array Oper} {K : St → Prop} {s : St} (hH : HOk Γ E) (he : EqvOk E) {id : Nat} {l : List Nat} (hl : lagB E ops l = true) {Q : Exit → Act → World → Prop} (hR : R Γ s c E.N a w) (h : regX E ops l s K)
    (hQ : ∀ s' c' a' w', K s' → Adv s c w s' c' w' → R Γ s' c' E.N a' w' → Same (writes (.region id ops true)) a a' → Q .normal a' w') : (Code.region id ops true).wp E.P Q a w := by
  unfold lagB at hl
  simp only [Bool.and_eq_true] at hl
  obtain ⟨⟨⟨h1, h2⟩, h3⟩, h4⟩ := hl
  refine wp_noPanic (wp_region_any h1 ?_)
  have hlen : l.length = ops.size := Nat.eq_of_beq_eq_true h3
  have hd := hR.rw_.drew
  have key := wpAny_of_late _ _ _ _ (draw_ok (Q := fun e a w => match e with | .panic _ => False | e => Q e a w) hH he h2 (W := writes (.region id ops true)) (fun o ho d hd => by simp only [writes, List.mem_filterMap]; exact ⟨o, ho, hd⟩) (fun c a w hq => hq) l _ s c a w.drew h4 hR.drew h (fun s' c' a' w' hK hadv hR' hsame => hQ s' c' a' w' hK ⟨hd.2.trans hadv.step, hadv.lock, fun id hid o ho => hadv.locked id hid o ho⟩ hR' hsame))
  rw [hlen] at key
  exact key

theorem regT_pick {E : Env} {ops : Array Oper} {K : St → Prop} {s : St} {listed : Array Bool} {n j : Nat} : ∀ (t : OTree) (sub : Bool), lagT E ops sub n listed t = true → regT E ops t s K → j ∈ t.heads →
    ∃ t', oneX E ops j s (fun s' => regT E ops t' s' K) ∧ lagT E ops false (n - 1) (listed.setIfInBounds j true) t' = true
  | .done, sub, hl, h, hj => by simp [OTree.heads] at hj
  | .step i t, sub, hl, h, hj => by
    simp only [OTree.heads, List.mem_singleton] at hj
    subst hj
    simp only [lagT, Bool.and_eq_true] at hl
    exact ⟨t, h, hl.2⟩
  | .fork i t r, sub, hl, h, hj => by
    simp only [lagT, Bool.and_eq_true] at hl
    simp only [regT] at h
    simp only [OTree.heads, List.mem_cons] at hj
    rcases hj with rfl | hj
    · exact ⟨t, h.1, hl.1.2⟩
    · exact regT_pick r true hl.2 h.2 hj

theorem drawT_ok {E : Env} {ops : Array Oper} {K : St → Prop} (hH : HOk Γ E) (he : EqvOk E) (hsel : Region.noSelect ops = true) {W : List Nat} (hW : ∀ o ∈ ops.toList, ∀ d, o.dst = some d → d ∈ W) {Q : Exit → Act → World → Prop}
    (hQp : ∀ c a w, ¬ Q (.panic c) a w) :
    ∀ (n : Nat) (t : OTree) (listed : Array Bool) (s : St) (c : Ctx) (a : Act) (w : World), lagT E ops false n listed t = true → R Γ s c E.N a w → regT E ops t s K →
      (∀ s' c' a' w', K s' → Adv s c w s' c' w' → R Γ s' c' E.N a' w' → Same W a a' → Q .normal a' w') → wpAnyL E.P .any ops Q (lateAt E ops) (Ext w) n listed a w := by
  intro n
  induction n with
  | zero =>
    intro t listed s c a w hl hR h hQ
    cases t with
    | done =>
      simp only [lagT, Bool.not_false, Bool.true_and, List.isEmpty_iff] at hl
      exact ⟨hl, hQ s c a w h (Adv.refl _ _ _) hR (Same.refl _ _)⟩
    | step i t => simp [lagT] at hl
    | fork i t r => simp [lagT] at hl
  | succ n ih =>
    intro t listed s c a w hl hR h hQ
    have byHeads : headsB ops listed t = true → wpAnyL E.P .any ops Q (lateAt E ops) (Ext w) (n + 1) listed a w ∨ Region.ready .any ops listed = [] := by
      intro hh
      by_cases hrd : Region.ready .any ops listed = []
      · exact .inr hrd
      refine .inl ⟨fun h0 => absurd h0 hrd, fun j hj => ?_⟩
      have hjh : j ∈ t.heads := by
        have := List.all_eq_true.1 hh j hj
        obtain ⟨k, hk, hb⟩ := List.any_eq_true.1 this
        rw [Nat.eq_of_beq_eq_true hb]; exact hk
      obtain ⟨t', h1, hl2⟩ := regT_pick t false hl h hjh
      simp only [Nat.add_sub_cancel] at hl2
      unfold oneX at h1
      split at h1
      · rename_i o ho
        have hWo : ∀ d, o.dst = some d → d ∈ W := hW o (List.mem_of_getElem? (i := j) (by rw [Array.getElem?_toList]; exact ho))
        obtain ⟨s1, hR1, hA1, hcase⟩ := guardX_ok hR h1
        unfold wpOp
        simp only [ho]
        have next : ∀ s' c' a' w', regT E ops t' s' K → Adv s1 c w s' c' w' → R Γ s' c' E.N a' w' → Same W a a' → (quietOp E o.op = true → Ext w w') →
            (if lateAt E ops j = true then wpAny E.P .any ops Q n (listed.setIfInBounds j true) a' w' else Ext w w' ∧ wpAnyL E.P .any ops Q (lateAt E ops) (Ext w) n (listed.setIfInBounds j true) a' w') := by
          intro s' c' a' w' hK hadv hR' hsame hq
          have ih := ih t' _ s' c' a' w' hl2 hR' hK (fun s'' c'' a'' w'' k1 k2 k3 k4 => hQ s'' c'' a'' w'' k1 ((hA1.trans hadv).trans k2) k3 (hsame.trans k4))
          split
          · exact wpAny_of_late _ _ _ _ ih
          · rename_i hnl
            have hqt : quietOp E o.op = true := by
              unfold lateAt at hnl
              rw [ho] at hnl
              simpa using hnl
            exact ⟨hq hqt, wpAnyL_mono (fun w'' h => (hq hqt).trans h) _ _ _ _ ih⟩
        rcases hcase with ⟨hw, h⟩ | ⟨hw, h⟩
        · rw [if_pos hw]
          exact .inl (op_ok hH he hR1 h W _ Q hWo next)
        · rw [if_neg (by rw [hw]; exact Bool.false_ne_true)]
          exact put_done (o := o) (next := fun a' w' => if lateAt E ops j = true then wpAny E.P .any ops Q n (listed.setIfInBounds j true) a' w' else Ext w w' ∧ wpAnyL E.P .any ops Q (lateAt E ops) (Ext w) n (listed.setIfInBounds j true) a' w')
            hR1 h (Adv.refl _ _ _) rfl hR1.rw_ (by simp only [RelAV]) hWo (fun _ => Ext.refl w) next
      · exact h1.elim
    cases t with
    | done =>
      simp only [lagT, Bool.not_false, Bool.true_and, List.isEmpty_iff] at hl
      exact ⟨fun _ => hQ s c a w h (Adv.refl _ _ _) hR (Same.refl _ _), fun i hi => by rw [hl] at hi; cases hi⟩
    | fork i t r =>
      have hl' := hl
      simp only [lagT, Bool.and_eq_true, Bool.false_or] at hl'
      rcases byHeads hl'.1.1.1.2 with h | h
      · exact h
      · have := hl'.1.1.2
        rw [h] at this; cases this
    | step i t =>
      have hl' := hl
      simp only [lagT, Bool.and_eq_true, Bool.false_or, Bool.or_eq_true, Nat.add_sub_cancel] at hl'
      obtain ⟨⟨⟨_, hl1⟩, hne⟩, hl2⟩ := hl'
      rcases hl1 with hl1 | hl1
      · simp only [regT] at h
        unfold oneX at h
        unfold firstB at hl1
        split at h
        · rename_i o ho
          rw [ho] at hl1
          simp only [Bool.and_eq_true] at hl1
          obtain ⟨⟨⟨hp, hr⟩, hf⟩, hlate⟩ := hl1
          have hWo : ∀ d, o.dst = some d → d ∈ W := hW o (List.mem_of_getElem? (i := i) (by rw [Array.getElem?_toList]; exact ho))
          obtain ⟨s1, hR1, hA1, hcase⟩ := guardX_ok hR h
          have post : ∀ {s' : St} {c' : Ctx} {a' : Act} {w' : World}, Adv s1 c w s' c' w' → Same W a a' →
              (∀ s'' c'' a'' w'', K s'' → Adv s' c' w' s'' c'' w'' → R Γ s'' c'' E.N a'' w'' → Same W a' a'' → Q .normal a'' w'') := fun hadv hsame s'' c'' a'' w'' k1 k2 k3 k4 =>
            hQ s'' c'' a'' w'' k1 ((hA1.trans hadv).trans k2) k3 (hsame.trans k4)
          have hready : i ∈ Region.ready .any ops listed := by
            obtain ⟨j, hj, hb⟩ := List.any_eq_true.1 hr
            have := Nat.eq_of_beq_eq_true hb
            subst this; exact hj
          have hnl : lateAt E ops i = false := by
            unfold lateAt
            rw [ho]
            have : quietOp E o.op = true := by
              unfold quietOp
              cases hop : o.op <;> rw [hop] at hp <;> simp only at hp ⊢ <;> first
                | rfl
                | exact hp
                | (rw [hp]; rfl)
            simp [this]
          have fin : ∀ v, YieldsIf E.P ops (Ext w) o v a → wpAnyL E.P .any ops Q (lateAt E ops) (Ext w) n (listed.setIfInBounds i true) (a.put o.dst v) w →
              wpAnyL E.P .any ops Q (lateAt E ops) (Ext w) (n + 1) listed a w := fun v hy hn =>
            wpAnyL_first ho hnl (Region.noSelect_spec hsel) (fun c' a' w' hq => absurd hq (hQp _ _ _)) n listed a w (Region.free_spec ho hf)
              (fun j oj hoj hji hun hlt => by
                have hjlt : j < ops.size := (Array.getElem?_eq_some_iff.1 hoj).1
                have := List.all_eq_true.1 hlate j (List.mem_range.2 hjlt)
                rw [hun, hlt, hoj] at this
                have hb : Nat.beq j i = false := by
                  cases hb : Nat.beq j i with
                  | true => exact absurd (Nat.eq_of_beq_eq_true hb) hji
                  | false => rfl
                simp only [hb, Bool.false_or, Bool.not_true] at this
                exact after1_some this) hready hy (Ext.refl w) hn
          rcases hcase with ⟨hw, h⟩ | ⟨hw, h⟩
          · obtain ⟨av, v, hK, hv, hrun⟩ := plain_ok he hp hR1 h
            refine fin v (.inl ⟨hw, hrun⟩) ?_
            exact put_done (next := fun a' w' => wpAnyL E.P .any ops Q (lateAt E ops) (Ext w') n (listed.setIfInBounds i true) a' w') hR1 hK (Adv.refl _ _ _) rfl hR1.rw_ hv hWo (fun _ => Ext.refl w)
              (fun s' c' a' w' hK hadv hR' hsame _ => ih t _ s' c' a' w' hl2 hR' hK (post hadv hsame))
          · refine fin undef (.inr ⟨hw, rfl⟩) ?_
            exact put_done (next := fun a' w' => wpAnyL E.P .any ops Q (lateAt E ops) (Ext w') n (listed.setIfInBounds i true) a' w') hR1 h (Adv.refl _ _ _) rfl hR1.rw_ (by simp only [RelAV]) hWo (fun _ => Ext.refl w)
              (fun s' c' a' w' hK hadv hR' hsame _ => ih t _ s' c' a' w' hl2 hR' hK (post hadv hsame))
        · exact h.elim
      · rcases byHeads hl1 with h | h
        · exact h
        · rw [h] at hne; cases hne

/-- **A region that draws its order**, by a tree of orders. -/
theorem region_drawT_ok {E : Env} {ops : Array Oper} {K : St → Prop} {s : St} (hH : HOk Γ E) (he : EqvOk E) {id : Nat} {t : OTree} (hl : lagTB E ops t = true) {Q : Exit → Act → World → Prop} (hR : R Γ s c E.N a w) (h : regT E ops t s K)
    (hQ : ∀ s' c' a' w', K s' → Adv s c w s' c' w' → R Γ s' c' E.N a' w' → Same (writes (.region id ops true)) a a' → Q .normal a' w') : (Code.region id ops true).wp E.P Q a w := by
  unfold lagTB at hl
  simp only [Bool.and_eq_true] at hl
  obtain ⟨⟨h1, h2⟩, h4⟩ := hl
  refine wp_noPanic (wp_region_any h1 ?_)
  have hd := hR.rw_.drew
  exact wpAny_of_late _ _ _ _ (drawT_ok (Q := fun e a w => match e with | .panic _ => False | e => Q e a w) hH he h2 (W := writes (.region id ops true)) (fun o ho d hd => by simp only [writes, List.mem_filterMap]; exact ⟨o, ho, hd⟩) (fun c a w hq => hq) _ t _ s c a w.drew h4 hR.drew h (fun s' c' a' w' hK hadv hR' hsame => hQ s' c' a' w' hK ⟨hd.2.trans hadv.step, hadv.lock, fun id hid o ho => hadv.locked id hid o ho⟩ hR' hsame))
end

end Go.Proofs.Ytodjomdnlcledaa.X
