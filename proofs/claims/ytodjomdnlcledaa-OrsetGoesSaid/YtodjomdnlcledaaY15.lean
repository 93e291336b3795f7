/- Code. -/
import Derived.Test.YtodjomdnlcledaaY14
import Derived.Scope
namespace Go.Proofs.Ytodjomdnlcledaa.X
open Go Go.RowKit
set_option linter.unusedSimpArgs false
set_option linter.unusedVariables false

section
variable {Γ : Base} {c : Ctx} {N : Nat} {a : Act} {w : World}

/-- What is shown of each end is what is asked of it. -/
structure KOk (Γ : Base) (N : Nat) (s : St) (c : Ctx) (a : Act) (w : World) (W : List Nat) (K : Kont) (Q : Exit → Act → World → Prop) : Prop where
  normal : ∀ s' c' a' w', K.normal s' → Adv s c w s' c' w' → R Γ s' c' N a' w' → Same W a a' → Q .normal a' w'
  ret : ∀ s' c' a' w', K.ret s' → Adv s c w s' c' w' → R Γ s' c' N a' w' → Same W a a' → Q .ret a' w'
  exit : ∀ id s' c' a' w', K.exit id s' → Adv s c w s' c' w' → R Γ s' c' N a' w' → Same W a a' → Q (.exit id) a' w'

theorem KOk.after {s s' : St} {c' : Ctx} {a' : Act} {w' : World} {W : List Nat} {K : Kont} {Q : Exit → Act → World → Prop} (h : KOk Γ N s c a w W K Q) (hadv : Adv s c w s' c' w') (hs : Same W a a') : KOk Γ N s' c' a' w' W K Q :=
  ⟨fun s'' c'' a'' w'' k1 k2 k3 k4 => h.normal s'' c'' a'' w'' k1 (hadv.trans k2) k3 (hs.trans k4),
   fun s'' c'' a'' w'' k1 k2 k3 k4 => h.ret s'' c'' a'' w'' k1 (hadv.trans k2) k3 (hs.trans k4),
   fun id s'' c'' a'' w'' k1 k2 k3 k4 => h.exit id s'' c'' a'' w'' k1 (hadv.trans k2) k3 (hs.trans k4)⟩

theorem R.relock {s : St} (h : R Γ s c N a w) (l : List Nat) : R Γ ⟨s.sl, s.L, l⟩ c N a w := ⟨h.rw_, h.slots, h.size, h.defers⟩

theorem Adv.unlock {sh : Shape} {s s' : St} {c' : Ctx} {w' : World} (h : Adv (sh.lockd s) c w s' c' w') : Adv s c w ⟨s'.sl, s'.L, s.lock⟩ c' w' :=
  ⟨h.step, rfl, fun id hid o ho => h.locked id (by simp only [Shape.lockd, List.mem_append]; exact .inr hid) o ho⟩

theorem evalO_bool {s : St} (hR : R Γ s c N a w) {x : Operand} {b : Bool} (h : evalO s x = .d .bool b) : a.eval x = .bool b := by
  have := evalO_rel hR x
  rw [h] at this
  simp only [RelAV] at this
  exact val_bool this

section
variable {h : Shape} {s s' : St} {c' : Ctx} {a' : Act} {w' : World} {x : h.den} {W : List Nat}

/-- The state where ways meet, locked as at the begin. -/
theorem HeadIn.relock (i : HeadIn Γ N h s c a w s' c' a' w' x W) : Adv (h.lockd s) c w (h.lockd (h.inj W s x)) c' w' := by
  obtain ⟨k1, k2, k3, k4, k5⟩ := shapeOk_some i.ok
  refine ⟨i.step, rfl, fun id hid o ho => ?_⟩
  obtain ⟨m1, m2, m3⟩ := i.adv.locked id hid o ho
  have hn : obFind h.ob id = none := by
    simp only [Shape.lockd, List.mem_append, List.mem_filter] at hid
    rcases hid with ⟨_, hid⟩ | hid
    · cases hf : obFind h.ob id with
      | none => rfl
      | some k =>
        rw [Bool.not_eq_true'] at hid
        have : h.ob.any (fun p => Nat.beq p.1 id) = true := List.any_eq_true.2 ⟨_, obFind_some hf, by simp⟩
        rw [hid] at this; cases this
    · cases hf : obFind h.ob id with
      | none => rfl
      | some k =>
        have := k2 _ (obFind_some hf)
        unfold okOk at this
        simp only [Bool.and_eq_true, Bool.not_eq_true'] at this
        exact absurd hid (lockedB_false this.1)
  exact ⟨(i.out hn ho).1, m2, m3⟩

theorem lockd_inj (h : Shape) (W : List Nat) (s : St) (x : h.den) : (h.lockd (h.inj W s x)).lock = (h.lockd s).lock := rfl
end

theorem Sls.proj_lock (sl : List (Nat × AV)) (L : List AObj) (l l' : List Nat) : ∀ (ks : List (Nat × SK)), Sls.proj ⟨sl, L, l⟩ ks = Sls.proj ⟨sl, L, l'⟩ ks
  | [] => rfl
  | p :: r => by simp only [Sls.proj, Sls.proj_lock sl L l l' r]

theorem Obs.proj_lock (sl : List (Nat × AV)) (L : List AObj) (l l' : List Nat) : ∀ (ks : List (Nat × OK)), Obs.proj ⟨sl, L, l⟩ ks = Obs.proj ⟨sl, L, l'⟩ ks
  | [] => rfl
  | p :: r => by simp only [Obs.proj, Obs.proj_lock sl L l l' r]

theorem Shape.proj_lockd (h : Shape) (s : St) : h.proj (h.lockd s) = h.proj s := by
  simp only [Shape.proj, Shape.lockd]
  rw [Sls.proj_lock s.sl s.L _ s.lock, Obs.proj_lock s.sl s.L _ s.lock]

theorem jumpX_some {h : Shape} {s : St} {J : h.den → Prop} (hj : jumpX h s J) : ∃ x, h.proj s = some x ∧ J x := by
  unfold jumpX at hj
  split at hj
  · rename_i x hx; exact ⟨x, hx, hj⟩
  · exact hj.elim

theorem RelCh_set {L : List AObj} {a' : AV} {v : Value} (hd : ∀ t x, a' ≠ .d t x) (ha : RelAV L c w a' v) (hs : a'.size = 1) : ∀ (cs : List AV) (f : Nat → Option Value) (j : Nat), RelCh L c w cs f → cs[j]? = some (.raw v) → RelCh L c w (cs.set j a') f
  | [], f, j, h, hj => by simp at hj
  | x :: cs, f, 0, h, hj => by
    simp only [List.getElem?_cons_zero, Option.some.injEq] at hj
    subst hj
    simp only [RelCh, RelAV] at h
    obtain ⟨⟨cv, h1, rfl⟩, h2⟩ := h
    simp only [List.set_cons_zero]
    exact (RelCh_cons hd).2 ⟨⟨cv, h1, ha⟩, h2⟩
  | x :: cs, f, j + 1, h, hj => by
    simp only [List.getElem?_cons_succ] at hj
    simp only [List.set_cons_succ]
    cases x <;> simp only [RelCh] at h ⊢ <;> exact ⟨h.1, RelCh_set hd ha hs cs _ j h.2 hj⟩

theorem size_set {a' : AV} {v : Value} (hs : a'.size = 1) : ∀ (cs : List AV) (j : Nat), cs[j]? = some (.raw v) → ((cs.set j a').map AV.size).sum = (cs.map AV.size).sum
  | [], j, hj => by simp at hj
  | x :: cs, 0, hj => by
    simp only [List.getElem?_cons_zero, Option.some.injEq] at hj
    subst hj
    simp only [List.set_cons_zero, List.map_cons, List.sum_cons, hs]; rfl
  | x :: cs, j + 1, hj => by
    simp only [List.getElem?_cons_succ] at hj
    simp only [List.set_cons_succ, List.map_cons, List.sum_cons, size_set hs cs j hj]

theorem up_ok {a : Act} : ∀ (l : List (Nat × Nat × TypeId × Ty)) (s s' : St) (c : Ctx), R Γ s c N a w → upX s l = some s' → ∃ c', R Γ s' c' N a w ∧ Adv s c w s' c' w
  | [], s, s', c, hR, h => by
    simp only [upX, Option.some.injEq] at h
    subst h
    exact ⟨c, hR, Adv.refl _ _ _⟩
  | (id, j, T, e) :: l, s, s', c, hR, h => by
    simp only [upX] at h
    cases hlk : lockedB s id with
    | true => rw [hlk] at h; cases h
    | false =>
      rw [hlk] at h
      simp only [cond_false] at h
      split at h
      · rename_i cs hL
        split at h
        · rename_i hj
          have hid : id < s.L.length := (List.getElem?_eq_some_iff.1 hL).1
          obtain ⟨m1, m2⟩ := hR.rw_.add (o' := .row 0 T e []) (v' := .slice none 0 0) (w' := w) (Alike.refl w) (fun _ _ => rfl) (fun b hb => by obtain ⟨n, cap, e1⟩ := hb; cases e1) (fun _ => .inl ⟨rfl, rfl⟩)
          have hL' : (s.L ++ [AObj.row 0 T e []])[id]? = some (.cells cs) := by rw [List.getElem?_append_left hid]; exact hL
          obtain ⟨k1, k2⟩ := m1.chg hL' (o' := .cells (cs.set j (.own s.L.length 0 e))) (v' := (c.set s.L.length (.slice none 0 0)).m id) (w' := w) (Alike.refl w) (fun _ _ _ => rfl)
            (fun b hb => ⟨.inl hb, (m1.owns id _ b hL' hb).2.1⟩) (by simp [Evol]) (iter_ne m1 hL' (by intro _ _ _ e; cases e))
            (fun hst => by
              obtain ⟨b, T0, cells, q1, q2, q3, q4⟩ : ObjRel _ _ w _ (.cells cs) := m1.objs id _ hL'
              refine ⟨b, T0, cells, q1, q2, by rw [q3, size_set (a' := .own s.L.length 0 e) rfl cs j hj], ?_⟩
              refine RelCh_set (by intro _ _ e; cases e) ?_ rfl cs _ j (RelCh_step hst cs _ q4) hj
              have hne : s.L.length ≠ id := by omega
              simp only [RelAV, RowAt]
              rw [List.getElem?_set_ne (Ne.symm hne)]
              simp only [List.getElem?_append_right (Nat.le_refl _), Nat.sub_self, List.getElem?_cons_zero]
              refine ⟨Nat.le_refl _, fun _ => ?_⟩
              rw [Ctx.set_other _ _ hne, Ctx.set_same])
          have a1 : Adv s c w (s.addL (.row 0 T e [])) (c.set s.L.length (.slice none 0 0)) w := Adv.add m2 hR.rw_ (fun _ _ => rfl)
          have a2 : Adv (s.addL (.row 0 T e [])) (c.set s.L.length (.slice none 0 0)) w ((s.addL (.row 0 T e [])).setL id (.cells (cs.set j (.own s.L.length 0 e)))) ((c.set s.L.length (.slice none 0 0)).set id ((c.set s.L.length (.slice none 0 0)).m id)) w :=
            Adv.chg k2 m1 hL' (lockedB_false hlk) (fun _ _ _ => rfl)
          have hR' : R Γ ((s.addL (.row 0 T e [])).setL id (.cells (cs.set j (.own s.L.length 0 e)))) ((c.set s.L.length (.slice none 0 0)).set id ((c.set s.L.length (.slice none 0 0)).m id)) N a w :=
            ⟨k1, fun t => RelAV_step (a1.trans a2).step _ _ (hR.slots t), hR.size, hR.defers⟩
          obtain ⟨c', n1, n2⟩ := up_ok l _ s' _ hR' h
          exact ⟨c', n1, (a1.trans a2).trans n2⟩
        · cases h
      · cases h

theorem code_ok {E : Env} (hH : HOk Γ E) (he : EqvOk E) : ∀ (cd : Code) (h : Hint) (s : St) (K : Kont), codeX E cd h s K → ∀ (c : Ctx) (a : Act) (w : World), R Γ s c E.N a w →
    ∀ (W : List Nat), (∀ t ∈ writes cd, t ∈ W) → ∀ (Q : Exit → Act → World → Prop), KOk Γ E.N s c a w W K Q → cd.wp E.P Q a w
  | .skip, h, s, K, hx, c, a, w, hR, W, hW, Q, hK => wp_skip (hK.normal s c a w hx (Adv.refl _ _ _) hR (Same.refl _ _))
  | .label l, h, s, K, hx, c, a, w, hR, W, hW, Q, hK => wp_label (hK.normal s c a w hx (Adv.refl _ _ _) hR (Same.refl _ _))
  | .exit id, h, s, K, hx, c, a, w, hR, W, hW, Q, hK => wp_exit (hK.exit id s c a w hx (Adv.refl _ _ _) hR (Same.refl _ _))
  | .ret, h, s, K, hx, c, a, w, hR, W, hW, Q, hK => wp_ret (hK.ret s c a w hx (Adv.refl _ _ _) hR (Same.refl _ _))
  | .region id ops draw, h, s, K, hx, c, a, w, hR, W, hW, Q, hK => by
    unfold codeX at hx
    cases draw with
    | true =>
      simp only [cond_true] at hx
      split at hx
      · rename_i l
        cases hl : lagB E ops l with
        | false => rw [hl] at hx; exact hx.elim
        | true =>
          rw [hl] at hx
          exact region_draw_ok hH he hl hR hx (fun s' c' a' w' k1 k2 k3 k4 => hK.normal s' c' a' w' k1 k2 k3 (k4.mono hW))
      · rename_i t
        cases hl : lagTB E ops t with
        | false => rw [hl] at hx; exact hx.elim
        | true =>
          rw [hl] at hx
          exact region_drawT_ok hH he hl hR hx (fun s' c' a' w' k1 k2 k3 k4 => hK.normal s' c' a' w' k1 k2 k3 (k4.mono hW))
      · exact hx.elim
    | false => exact region_ok hH he hR hx (fun s' c' a' w' k1 k2 k3 k4 => hK.normal s' c' a' w' k1 k2 k3 (k4.mono hW))
  | .seq p q, h, s, K, hx, c, a, w, hR, W, hW, Q, hK => by
    have hWp : ∀ t ∈ writes p, t ∈ W := fun t ht => hW t (by simp [writes, ht])
    have hWq : ∀ t ∈ writes q, t ∈ W := fun t ht => hW t (by simp [writes, ht])
    have plain : ∀ (ha hb : Hint), codeX E p ha s (seqK K fun s' => codeX E q hb s' K) → (Code.seq p q).wp E.P Q a w := fun ha hb hx =>
      wp_seq (code_ok hH he p ha s _ hx c a w hR W hWp _
        ⟨fun s' c' a' w' k1 k2 k3 k4 => code_ok hH he q hb s' K k1 c' a' w' k3 W hWq Q (hK.after k2 k4),
         fun s' c' a' w' k1 k2 k3 k4 => hK.ret s' c' a' w' k1 k2 k3 k4,
         fun id s' c' a' w' k1 k2 k3 k4 => hK.exit id s' c' a' w' k1 k2 k3 k4⟩)
    unfold codeX at hx
    split at hx
    · exact plain _ _ hx
    · rename_i l ha hb
      refine wp_seq (code_ok hH he p ha s _ hx c a w hR W hWp _
        ⟨fun s' c' a' w' k1 k2 k3 k4 => ?_,
         fun s' c' a' w' k1 k2 k3 k4 => hK.ret s' c' a' w' k1 k2 k3 k4,
         fun id s' c' a' w' k1 k2 k3 k4 => hK.exit id s' c' a' w' k1 k2 k3 k4⟩)
      simp only [seqK] at k1
      split at k1
      · rename_i s2 hup
        obtain ⟨c2, u1, u2⟩ := up_ok _ _ _ _ k3 hup
        exact code_ok hH he q hb s2 K k1 c2 a' w' u1 W hWq Q (hK.after (k2.trans u2) k4)
      · exact k1.elim
    · rename_i sh ha hb
      cases hok : shapeOk sh s with
      | false => rw [hok] at hx; exact hx.elim
      | true =>
        rw [hok] at hx
        simp only [cond_true] at hx
        refine wp_seq (code_ok hH he p ha (sh.lockd s) _ hx c a w (hR.relock _) (writes p) (fun _ h => h) _ ⟨?_, ?_, ?_⟩)
        · intro s' c' a' w' k1 k2 k3 k4
          obtain ⟨y, hp, hJ⟩ := jumpX_some k1
          have i : HeadIn Γ E.N sh s c a w s' c' a' w' y (writes p) := ⟨hR, hok, k3, k2, k4, hp⟩
          obtain ⟨r1, r2⟩ := i.head
          exact code_ok hH he q hb _ K hJ c' a' w' r1 W hWq Q (hK.after r2 (k4.mono hWp))
        · intro s' c' a' w' k1 k2 k3 k4
          exact hK.ret _ c' a' w' k1 k2.unlock (k3.relock _) (k4.mono hWp)
        · intro id s' c' a' w' k1 k2 k3 k4
          exact hK.exit id _ c' a' w' k1 k2.unlock (k3.relock _) (k4.mono hWp)
    · exact plain _ _ hx
  | .cond x p q, h, s, K, hx, c, a, w, hR, W, hW, Q, hK => by
    have hWp : ∀ t ∈ writes p, t ∈ W := fun t ht => hW t (by simp [writes, ht])
    have hWq : ∀ t ∈ writes q, t ∈ W := fun t ht => hW t (by simp [writes, ht])
    have key : ∀ (ha hb : Hint) (b : Bool), evalO s x = .d .bool b → cond b (codeX E p ha s K) (codeX E q hb s K) → (Code.cond x p q).wp E.P Q a w := by
      intro ha hb b hb' hx
      have hv := evalO_bool hR hb'
      cases b with
      | true => exact wp_cond_true hv (code_ok hH he p ha s K hx c a w hR W hWp Q hK)
      | false => exact wp_cond_false hv (code_ok hH he q hb s K hx c a w hR W hWq Q hK)
    unfold codeX at hx
    split at hx
    · rename_i e; exact key _ _ _ e hx
    · rename_i e; exact key _ _ _ e hx
    · exact hx.elim
  | .block id p, h, s, K, hx, c, a, w, hR, W, hW, Q, hK => by
    have hWp : ∀ t ∈ writes p, t ∈ W := fun t ht => hW t (by simpa [writes] using ht)
    have plain : ∀ (ha : Hint), codeX E p ha s (blockK id K K.normal) → (Code.block id p).wp E.P Q a w := fun ha hx =>
      wp_block (code_ok hH he p ha s _ hx c a w hR W hWp _
        ⟨fun s' c' a' w' k1 k2 k3 k4 => hK.normal s' c' a' w' k1 k2 k3 k4,
         fun s' c' a' w' k1 k2 k3 k4 => hK.ret s' c' a' w' k1 k2 k3 k4,
         fun id' s' c' a' w' k1 k2 k3 k4 => by
          simp only [blockK] at k1
          simp only [Exit.inBlock]
          cases hb : Nat.beq id' id with
          | true => rw [hb] at k1; rw [if_pos (Nat.eq_of_beq_eq_true hb)]; exact hK.normal s' c' a' w' k1 k2 k3 k4
          | false => rw [hb] at k1; rw [if_neg (Nat.ne_of_beq_eq_false hb)]; exact hK.exit id' s' c' a' w' k1 k2 k3 k4⟩)
    unfold codeX at hx
    split at hx
    · exact plain _ hx
    · rename_i sh ha
      cases hok : shapeOk sh s with
      | false => rw [hok] at hx; exact hx.elim
      | true =>
        rw [hok] at hx
        simp only [cond_true] at hx
        have meet : ∀ s' c' a' w', jumpX sh s' (fun x => K.normal (sh.inj (writes p) s x)) → Adv (sh.lockd s) c w s' c' w' → R Γ s' c' E.N a' w' → Same (writes p) a a' → Q .normal a' w' := by
          intro s' c' a' w' k1 k2 k3 k4
          obtain ⟨y, hp, hJ⟩ := jumpX_some k1
          have i : HeadIn Γ E.N sh s c a w s' c' a' w' y (writes p) := ⟨hR, hok, k3, k2, k4, hp⟩
          obtain ⟨r1, r2⟩ := i.head
          exact hK.normal _ c' a' w' hJ r2 r1 (k4.mono hWp)
        refine wp_block (code_ok hH he p ha (sh.lockd s) _ hx c a w (hR.relock _) (writes p) (fun _ h => h) _ ⟨?_, ?_, ?_⟩)
        · intro s' c' a' w' k1 k2 k3 k4
          exact meet s' c' a' w' k1 k2 k3 k4
        · intro s' c' a' w' k1 k2 k3 k4
          exact hK.ret _ c' a' w' k1 k2.unlock (k3.relock _) (k4.mono hWp)
        · intro id' s' c' a' w' k1 k2 k3 k4
          simp only [blockK] at k1
          simp only [Exit.inBlock]
          cases hb : Nat.beq id' id with
          | true => rw [hb] at k1; rw [if_pos (Nat.eq_of_beq_eq_true hb)]; exact meet s' c' a' w' k1 k2 k3 k4
          | false => rw [hb] at k1; rw [if_neg (Nat.ne_of_beq_eq_false hb)]; exact hK.exit id' _ c' a' w' k1 k2.unlock (k3.relock _) (k4.mono hWp)
    · exact plain _ hx
  | .loop p, h, s, K, hx, c, a, w, hR, W, hW, Q, hK => by
    have hWp : ∀ t ∈ writes p, t ∈ W := fun t ht => hW t (by simpa [writes] using ht)
    have key : ∀ (sh : Shape) (ha : Hint) (s : St) (c : Ctx), R Γ s c E.N a w → KOk Γ E.N s c a w W K Q → (bif shapeOk sh s then
        jumpX sh s (LoopP fun X x => codeX E p ha (sh.lockd (sh.inj (writes p) s x)) (seqK (unlockK s.lock K) fun s' => jumpX sh s' X))
        else False) → (Code.loop p).wp E.P Q a w := by
      intro sh ha s c hR hK hx
      cases hok : shapeOk sh s with
      | false => rw [hok] at hx; exact hx.elim
      | true =>
        rw [hok] at hx
        simp only [cond_true] at hx
        obtain ⟨x0, hp0, hloop⟩ := jumpX_some hx
        have i0 : HeadIn Γ E.N sh s c a w (sh.lockd s) c a w x0 (writes p) := ⟨hR, hok, hR.relock _, Adv.refl _ _ _, Same.refl _ _, by rw [Shape.proj_lockd]; exact hp0⟩
        refine wp_loop_lfp (I := fun x a' w' => ∃ c', R Γ (sh.inj (writes p) s x) c' E.N a' w' ∧ Adv s c w (sh.inj (writes p) s x) c' w' ∧ Adv (sh.lockd s) c w (sh.lockd (sh.inj (writes p) s x)) c' w' ∧ Same (writes p) a a') hloop ?_ a w
          ⟨c, i0.head.1, i0.head.2, i0.relock, Same.refl _ _⟩
        intro X hX x hb a1 w1 ⟨c1, r1, r2, r3, r4⟩
        refine code_ok hH he p ha _ _ hb c1 a1 w1 (r1.relock _) (writes p) (fun _ h => h) _ ⟨?_, ?_, ?_⟩
        · intro s' c' a' w' k1 k2 k3 k4
          obtain ⟨y, hp, hJ⟩ := jumpX_some k1
          have i : HeadIn Γ E.N sh s c a w s' c' a' w' y (writes p) := ⟨hR, hok, k3, r3.trans k2, r4.trans k4, hp⟩
          exact ⟨y, hJ, c', i.head.1, i.head.2, i.relock, r4.trans k4⟩
        · intro s' c' a' w' k1 k2 k3 k4
          exact hK.ret _ c' a' w' k1 (r3.trans k2).unlock (k3.relock _) ((r4.trans k4).mono hWp)
        · intro id s' c' a' w' k1 k2 k3 k4
          exact hK.exit id _ c' a' w' k1 (r3.trans k2).unlock (k3.relock _) ((r4.trans k4).mono hWp)
    unfold codeX at hx
    split at hx
    · exact key _ _ _ c hR hK hx
    · split at hx
      · rename_i s2 hup
        obtain ⟨c2, u1, u2⟩ := up_ok _ _ _ _ hR hup
        exact key _ _ _ c2 u1 (hK.after u2 (Same.refl _ _)) hx
      · exact hx.elim
    · exact hx.elim
  | .scope p, h, s, K, hx, c, a, w, hR, W, hW, Q, hK =>
    wp_scope_straight (code_ok hH he p h s K hx c a w hR W (fun t ht => hW t (by simpa [writes] using ht)) _
      ⟨fun s' c' a' w' k1 k2 k3 k4 => hK.normal s' c' a' w' k1 k2 k3 k4, fun s' c' a' w' k1 k2 k3 k4 => hK.ret s' c' a' w' k1 k2 k3 k4, fun id s' c' a' w' k1 k2 k3 k4 => hK.exit id s' c' a' w' k1 k2 k3 k4⟩)
  | .rangeFunc _ _ _ _, h, s, K, hx, c, a, w, hR, W, hW, Q, hK => hx.elim
  | .goto _, h, s, K, hx, c, a, w, hR, W, hW, Q, hK => hx.elim
  | .refuse _, h, s, K, hx, c, a, w, hR, W, hW, Q, hK => hx.elim
end

end Go.Proofs.Ytodjomdnlcledaa.X
