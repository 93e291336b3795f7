/- Where ways meet. -/
import Derived.Test.YtodjomdnlcledaaY12
namespace Go.Proofs.Ytodjomdnlcledaa.X
open Go Go.RowKit
set_option linter.unusedSimpArgs false
set_option linter.unusedVariables false

section
variable {Γ : Base} {s : St} {c : Ctx} {N : Nat} {a : Act} {w : World}

theorem obFind_some {id : Nat} {k : OK} : ∀ {l : List (Nat × OK)}, obFind l id = some k → (id, k) ∈ l
  | [], h => by simp [obFind] at h
  | p :: r, h => by
    simp only [obFind] at h
    cases hb : Nat.beq p.1 id with
    | true =>
      rw [hb] at h
      simp only [cond_true, Option.some.injEq] at h
      have := Nat.eq_of_beq_eq_true hb
      subst this; subst h
      simp
    | false =>
      rw [hb] at h
      exact List.mem_cons_of_mem _ (obFind_some h)

theorem obFind_none {id : Nat} : ∀ {l : List (Nat × OK)}, obFind l id = none → ∀ p ∈ l, p.1 ≠ id
  | [], h, p, hp => by simp at hp
  | q :: r, h, p, hp => by
    simp only [obFind] at h
    cases hb : Nat.beq q.1 id with
    | true => rw [hb] at h; cases h
    | false =>
      rw [hb] at h
      rcases List.mem_cons.1 hp with rfl | hp
      · exact Nat.ne_of_beq_eq_false hb
      · exact obFind_none h p hp

theorem nodupB_cons {a : Nat} {r : List Nat} (h : nodupB (a :: r) = true) : a ∉ r ∧ nodupB r = true := by
  simp only [nodupB, Bool.and_eq_true, Bool.not_eq_true'] at h
  refine ⟨fun hm => ?_, h.2⟩
  have : r.any (Nat.beq a) = true := List.any_eq_true.2 ⟨a, hm, by simp⟩
  rw [h.1] at this; cases this

/-- The objects of a shape, laid over others. -/
theorem Obs.inj_get : ∀ (l : List (Nat × OK)) (x : Obs.den l) (L : List AObj) (id : Nat), nodupB (l.map (·.1)) = true → (∀ p ∈ l, p.1 < L.length) →
    (obFind l id = none → (Obs.inj l x L)[id]? = L[id]?) ∧ (∀ k, obFind l id = some k → ∃ y : k.den, (Obs.inj l x L)[id]? = some (k.inj y) ∧
      ∀ (s' : St), Obs.proj s' l = some x → (s'.L[id]?).bind (k.proj s'.L) = some y) ∧ (Obs.inj l x L).length = L.length
  | [], x, L, id, _, _ => ⟨fun _ => rfl, fun k h => by simp [obFind] at h, rfl⟩
  | p :: r, x, L, id, hn, hl => by
    obtain ⟨hn1, hn2⟩ := nodupB_cons hn
    obtain ⟨h1, h2, h3⟩ := Obs.inj_get r x.2 (L.set p.1 (p.2.inj x.1)) id hn2 (fun q hq => by simp; exact hl q (by simp [hq]))
    have hlt := hl p (by simp)
    simp only [Obs.inj, obFind]
    cases hb : Nat.beq p.1 id with
    | true =>
      have e := Nat.eq_of_beq_eq_true hb
      have hnone : obFind r id = none := by
        cases hq : obFind r id with
        | none => rfl
        | some k => exact absurd (List.mem_map.2 ⟨_, obFind_some hq, rfl⟩) (by rw [← e]; exact hn1)
      refine ⟨(fun h => by cases h), fun k hk => ?_, by rw [h3]; simp⟩
      simp only [cond_true, Option.some.injEq] at hk
      subst hk
      refine ⟨x.1, ?_, fun s' hs => ?_⟩
      · rw [h1 hnone, ← e]; simp [hlt]
      · simp only [Obs.proj] at hs
        split at hs
        · rename_i y z hy hz
          simp only [Option.some.injEq] at hs
          subst hs
          rw [← e]; exact hy
        · cases hs
    | false =>
      have hne := Nat.ne_of_beq_eq_false hb
      simp only [cond_false]
      refine ⟨fun h => by rw [h1 h, List.getElem?_set_ne hne], fun k hk => ?_, by rw [h3]; simp⟩
      obtain ⟨y, k1, k2⟩ := h2 k hk
      refine ⟨y, k1, fun s' hs => ?_⟩
      simp only [Obs.proj] at hs
      split at hs
      · rename_i y' z hy hz
        simp only [Option.some.injEq] at hs
        subst hs
        exact k2 s' hz
      · cases hs

theorem shapeOk_some {h : Shape} (hk : shapeOk h s = true) : h.n = s.L.length ∧ (∀ p ∈ h.ob, okOk h s p = true) ∧ (∀ p ∈ h.sl, skOk h s p.2 = true) ∧ nodupB (h.ob.map (·.1)) = true ∧ iterOk h s = true := by
  unfold shapeOk at hk
  simp only [Bool.and_eq_true] at hk
  obtain ⟨⟨⟨⟨h1, h2⟩, h3⟩, h4⟩, h5⟩ := hk
  exact ⟨Nat.eq_of_beq_eq_true h1, fun p hp => List.all_eq_true.1 h2 p hp, fun p hp => List.all_eq_true.1 h3 p hp, h4, h5⟩

theorem okOk_lt {h : Shape} {p : Nat × OK} (hk : okOk h s p = true) : p.1 < s.L.length := by
  unfold okOk at hk
  simp only [Bool.and_eq_true] at hk
  have := hk.2
  cases hq : s.L[p.1]? with
  | none => rw [hq] at this; cases hp : p.2 <;> rw [hp] at this <;> cases this
  | some o => exact (List.getElem?_eq_some_iff.1 hq).1

/-- What lies at a number in the state where ways meet, against the state that comes there. -/
theorem castE_some {k v k' v' : Ty} {x : List (k.den × v.den)} {y : List (k'.den × v'.den)} (h : castE k v k' v' x = some y) : k = k' ∧ v = v' ∧ HEq x y := by
  unfold castE at h
  split at h
  · rename_i e
    obtain ⟨rfl, rfl⟩ := e
    simp only [Option.some.injEq] at h
    exact ⟨rfl, rfl, heq_of_eq h⟩
  · cases h

/-- The same kind of object: it owns the same blocks. -/
theorem proj_owns {L : List AObj} {k : OK} {o : AObj} {y : k.den} (h : k.proj L o = some y) (v : Value) (b : Nat) : Owns (k.inj y) v b → Owns o v b := by
  cases k <;> cases o <;> simp only [OK.proj] at h <;> try (cases h; done)
  all_goals exact fun h => h

theorem SK.own_proj {L : List AObj} {id ver : Nat} {e : Ty} {a : AV} {y : Unit} (h : SK.proj L (.own id ver e) a = some y) : ∃ ver' T e' xs, a = .own id ver' e ∧ L[id]? = some (.row ver' T e' xs) := by
  simp only [SK.proj] at h
  split at h
  · rename_i id' ver' e'
    cases hb : (Nat.beq id id' && decide (e = e')) with
    | false => rw [hb] at h; cases h
    | true =>
      rw [hb] at h
      simp only [Bool.and_eq_true] at hb
      have h1 := Nat.eq_of_beq_eq_true hb.1
      have h2 := of_decide_eq_true hb.2
      subst h1; subst h2
      simp only [cond_true] at h
      split at h
      · rename_i cv T e2 xs ho
        cases hc : Nat.beq ver' cv with
        | false => rw [hc] at h; cases h
        | true =>
          have := Nat.eq_of_beq_eq_true hc
          subst this
          exact ⟨_, T, _, xs, rfl, ho⟩
      · cases h
  · cases h

theorem SK.mp_proj {L : List AObj} {id : Nat} {a : AV} {y : Unit} (h : SK.proj L (.mp id) a = some y) : a = .mp id := by
  simp only [SK.proj] at h
  split at h
  · rename_i id'
    cases hb : Nat.beq id id' with
    | false => rw [hb] at h; cases h
    | true => rw [Nat.eq_of_beq_eq_true hb]
  · cases h

theorem SK.iter_proj {L : List AObj} {id : Nat} {a : AV} {y : Unit} (h : SK.proj L (.iter id) a = some y) : a = .iter id := by
  simp only [SK.proj] at h
  split at h
  · rename_i id'
    cases hb : Nat.beq id id' with
    | false => rw [hb] at h; cases h
    | true => rw [Nat.eq_of_beq_eq_true hb]
  · cases h

theorem SK.ptr_proj {L : List AObj} {id off : Nat} {a : AV} {y : Unit} (h : SK.proj L (.ptr id off) a = some y) : a = .ptr id off := by
  simp only [SK.proj] at h
  split at h
  · rename_i id' off'
    cases hb : (Nat.beq id id' && Nat.beq off off') with
    | false => rw [hb] at h; cases h
    | true =>
      simp only [Bool.and_eq_true] at hb
      rw [Nat.eq_of_beq_eq_true hb.1, Nat.eq_of_beq_eq_true hb.2]
  · cases h

section
variable {h : Shape} {s' : St} {c' : Ctx} {a' : Act} {w' : World} {x : h.den} {W : List Nat}

structure HeadIn (Γ : Base) (N : Nat) (h : Shape) (s : St) (c : Ctx) (a : Act) (w : World) (s' : St) (c' : Ctx) (a' : Act) (w' : World) (x : h.den) (W : List Nat) : Prop where
  hb : R Γ s c N a w
  ok : shapeOk h s = true
  hR : R Γ s' c' N a' w'
  adv : Adv (h.lockd s) c w s' c' w'
  same : Same W a a'
  pr : h.proj s' = some x

theorem HeadIn.projs (i : HeadIn Γ N h s c a w s' c' a' w' x W) : Sls.proj s' h.sl = some x.1 ∧ Obs.proj s' h.ob = some x.2 := by
  have := i.pr
  unfold Shape.proj at this
  split at this
  · rename_i y z h1 h2
    simp only [Option.some.injEq] at this
    subst this
    exact ⟨h1, h2⟩
  · cases this

/-- An object that isn't of the shape. -/
theorem HeadIn.out (i : HeadIn Γ N h s c a w s' c' a' w' x W) {id : Nat} {o : AObj} (hn : obFind h.ob id = none) (ho : s.L[id]? = some o) :
    (Obs.inj h.ob x.2 s.L)[id]? = some o ∧ s'.L[id]? = some o ∧ c'.m id = c.m id ∧ ∀ b, Owns o (c.m id) b → w'.heap[b]? = w.heap[b]? := by
  obtain ⟨k1, k2, k3, k4, k5⟩ := shapeOk_some i.ok
  have hlt : id < s.L.length := (List.getElem?_eq_some_iff.1 ho).1
  refine ⟨by rw [(Obs.inj_get h.ob x.2 s.L id k4 (fun p hp => okOk_lt (k2 p hp))).1 hn]; exact ho, ?_⟩
  refine i.adv.locked id ?_ o ho
  simp only [Shape.lockd, List.mem_append, List.mem_filter, List.mem_range]
  refine .inl ⟨by rw [k1]; exact hlt, ?_⟩
  rw [Bool.not_eq_true']
  cases hq : h.ob.any (fun p => Nat.beq p.1 id) with
  | false => rfl
  | true =>
    obtain ⟨p, hp, hpb⟩ := List.any_eq_true.1 hq
    exact absurd (Nat.eq_of_beq_eq_true hpb) (obFind_none hn p hp)

/-- An object of the shape. -/
theorem HeadIn.in_ (i : HeadIn Γ N h s c a w s' c' a' w' x W) {id : Nat} {k : OK} (hk : obFind h.ob id = some k) :
    okOk h s (id, k) = true ∧ ∃ y o', (Obs.inj h.ob x.2 s.L)[id]? = some (k.inj y) ∧ s'.L[id]? = some o' ∧ k.proj s'.L o' = some y := by
  obtain ⟨k1, k2, k3, k4, k5⟩ := shapeOk_some i.ok
  refine ⟨k2 _ (obFind_some hk), ?_⟩
  obtain ⟨y, m1, m2⟩ := (Obs.inj_get h.ob x.2 s.L id k4 (fun p hp => okOk_lt (k2 p hp))).2.1 k hk
  have := m2 s' i.projs.2
  cases ho : s'.L[id]? with
  | none => rw [ho] at this; cases this
  | some o' => rw [ho] at this; exact ⟨y, o', m1, rfl, this⟩

theorem HeadIn.length (i : HeadIn Γ N h s c a w s' c' a' w' x W) : (Obs.inj h.ob x.2 s.L).length = s.L.length := by
  obtain ⟨k1, k2, k3, k4, k5⟩ := shapeOk_some i.ok
  exact (Obs.inj_get h.ob x.2 s.L 0 k4 (fun p hp => okOk_lt (k2 p hp))).2.2

theorem HeadIn.step (i : HeadIn Γ N h s c a w s' c' a' w' x W) : Step s.L c w (Obs.inj h.ob x.2 s.L) c' w' := by
  refine ⟨fun id o ho => ?_, i.adv.step.more, i.adv.step.heap⟩
  cases hf : obFind h.ob id with
  | none =>
    obtain ⟨m1, m2, m3, _⟩ := i.out hf ho
    exact ⟨o, m1, by rw [m3]; exact Evol.refl _ _⟩
  | some k =>
    obtain ⟨m0, y, o', m1, m2, m3⟩ := i.in_ hf
    obtain ⟨o2, e1, e2⟩ := i.adv.step.obj id o ho
    rw [m2] at e1; cases e1
    refine ⟨k.inj y, m1, ?_⟩
    unfold okOk at m0
    simp only [Bool.and_eq_true] at m0
    have m4 := m0.2
    rw [ho] at m4
    cases k <;> cases o <;> simp only at m4 <;> try (cases m4; done)
    · rename_i ver T e cv T' e' xs
      simp only [Bool.and_eq_true] at m4
      have q1 : cv < ver := by simpa [Nat.blt_eq] using m4.1.1
      exact ⟨Nat.eq_of_beq_eq_true m4.1.2, of_decide_eq_true m4.2, by omega, fun e => by omega⟩
    · cases o' <;> simp only [OK.proj] at m3 <;> try (cases m3; done)
      exact e2
    · cases o' <;> simp only [OK.proj] at m3 <;> try (cases m3; done)
      exact e2
    · cases o' <;> simp only [OK.proj] at m3 <;> try (cases m3; done)
      exact e2

/-- What is told of an abstract value where ways meet. -/
theorem HeadIn.sk (i : HeadIn Γ N h s c a w s' c' a' w' x W) {k : SK} {av : AV} {v : Value} {y : k.den} (hk : skOk h s k = true) (hv : RelAV s'.L c' w' av v) (hp : k.proj s'.L av = some y) :
    RelAV (Obs.inj h.ob x.2 s.L) c' w' (k.inj y) v := by
  cases k with
  | dat t => simp only [SK.inj, RelAV]; exact toDataNil_val i.hR.rw_ hv hp
  | own id ver e =>
    obtain ⟨ver', T, e', xs, rfl, hL⟩ := SK.own_proj hp
    simp only [RelAV, RowAt, hL] at hv
    have hv := hv.2 trivial
    simp only [SK.inj, RelAV, RowAt]
    simp only [skOk] at hk
    cases hf : obFind h.ob id with
    | none =>
      rw [hf] at hk
      simp only at hk
      split at hk
      · rename_i cv T2 e2 xs2 ho
        obtain ⟨m1, _, _, _⟩ := i.out hf ho
        rw [m1]
        exact ⟨Nat.le_of_ble_eq_true hk, fun _ => hv⟩
      · cases hk
    | some k =>
      rw [hf] at hk
      cases k <;> simp only at hk <;> try (cases hk; done)
      obtain ⟨m0, z, o', m1, m2, m3⟩ := i.in_ hf
      rw [m1]
      exact ⟨Nat.le_of_ble_eq_true hk, fun _ => hv⟩
  | mp id =>
    have := SK.mp_proj hp
    subst this
    simp only [RelAV] at hv
    simp only [SK.inj, RelAV]
    refine ⟨?_, hv.2⟩
    simp only [skOk] at hk
    split at hk
    · rename_i k v' es ho
      obtain ⟨o', e1, e2⟩ := i.step.obj id _ ho
      unfold MapAt; rw [e1]
      cases o' <;> simp only [Evol] at e2 ⊢
    · cases hk
  | iter id =>
    have := SK.iter_proj hp
    subst this
    simp only [RelAV] at hv
    simp only [SK.inj, RelAV]
    refine ⟨?_, hv.2⟩
    simp only [skOk] at hk
    split at hk
    · rename_i ho
      obtain ⟨o', e1, e2⟩ := i.step.obj id _ ho
      unfold IterAt; rw [e1]
      cases o' <;> simp only [Evol] at e2 ⊢
    · cases hk
  | ptr id off =>
    have := SK.ptr_proj hp
    subst this
    simp only [RelAV] at hv
    simp only [SK.inj, RelAV]
    refine ⟨?_, hv.2⟩
    simp only [skOk] at hk
    split at hk
    · rename_i ho
      obtain ⟨o', e1, e2⟩ := i.step.obj id _ ho
      unfold CellsAt; rw [e1]
      cases o' <;> simp only [Evol] at e2 ⊢
    · cases hk

/-- The parts of an object. -/
theorem HeadIn.sks (i : HeadIn Γ N h s c a w s' c' a' w' x W) : ∀ (ks : List SK) (cs : List AV) (f : Nat → Option Value) (y : SKs.den ks), ks.all (skOk h s) = true → RelCh s'.L c' w' cs f → SKs.proj s'.L ks cs = some y →
    RelCh (Obs.inj h.ob x.2 s.L) c' w' (SKs.inj ks y) f ∧ ((SKs.inj ks y).map AV.size).sum = (cs.map AV.size).sum
  | [], [], f, y, _, hr, _ => by constructor <;> simp [SKs.inj, RelCh]
  | [], _ :: _, f, y, _, _, hp => by simp [SKs.proj] at hp
  | _ :: _, [], f, y, _, _, hp => by simp [SKs.proj] at hp
  | k :: ks, av :: cs, f, y, hk, hr, hp => by
    simp only [List.all_cons, Bool.and_eq_true] at hk
    simp only [SKs.proj] at hp
    split at hp
    · rename_i y1 y2 h1 h2
      simp only [Option.some.injEq] at hp
      subst hp
      obtain ⟨r1, r2⟩ := RelCh_one hr
      obtain ⟨q1, q2⟩ := HeadIn.sks i ks cs _ y2 hk.2 r2 h2
      simp only [SKs.inj]
      cases k with
      | dat t =>
        simp only [SK.projC] at h1
        obtain ⟨e1, e2⟩ := headD_nil (L := s'.L) h1
        have hl : Lend s'.L c' false [av] c'.S := ⟨fun _ h => h, fun id a2 hm he2 => by (rw [List.mem_singleton.1 hm, e2] at he2; exact absurd he2 (by simp)), fun h => by cases h⟩
        obtain ⟨d1, d2⟩ := head_leaf i.hR.rw_ hl hr e1
        have hs := (headD_size e1).1
        rw [hs] at q1
        exact ⟨⟨d1, q1⟩, by
          have e : (AV.d t y1).size = av.size := hs.symm
          simp only [List.map_cons, List.sum_cons, q2, SK.inj, e]⟩
      | own id ver e =>
        obtain ⟨ver', T, e', xs, rfl, hL⟩ := SK.own_proj h1
        obtain ⟨cv, c1, c2⟩ := r1
        exact ⟨⟨⟨cv, c1, i.sk (k := .own id ver e) hk.1 c2 h1⟩, q1⟩, by simp only [List.map_cons, List.sum_cons, q2, SK.inj, AV.size]⟩
      | mp id =>
        have := SK.mp_proj (L := s'.L) h1
        subst this
        obtain ⟨cv, c1, c2⟩ := r1
        exact ⟨⟨⟨cv, c1, i.sk (k := .mp id) hk.1 c2 h1⟩, q1⟩, by simp only [List.map_cons, List.sum_cons, q2, SK.inj, AV.size]⟩
      | iter id =>
        have := SK.iter_proj (L := s'.L) h1
        subst this
        obtain ⟨cv, c1, c2⟩ := r1
        exact ⟨⟨⟨cv, c1, i.sk (k := .iter id) hk.1 c2 h1⟩, q1⟩, by simp only [List.map_cons, List.sum_cons, q2, SK.inj, AV.size]⟩
      | ptr id off =>
        have := SK.ptr_proj (L := s'.L) h1
        subst this
        obtain ⟨cv, c1, c2⟩ := r1
        exact ⟨⟨⟨cv, c1, i.sk (k := .ptr id off) hk.1 c2 h1⟩, q1⟩, by simp only [List.map_cons, List.sum_cons, q2, SK.inj, AV.size]⟩
    · cases hp

theorem HeadIn.obj (i : HeadIn Γ N h s c a w s' c' a' w' x W) {id : Nat} {k : OK} {y : k.den} {o' : AObj} (m0 : okOk h s (id, k) = true) (m2 : s'.L[id]? = some o') (m3 : k.proj s'.L o' = some y) :
    ObjRel (Obs.inj h.ob x.2 s.L) c' w' (c'.m id) (k.inj y) := by
  have hr : ObjRel s'.L c' w' (c'.m id) o' := i.hR.rw_.objs id o' m2
  unfold okOk at m0
  simp only [Bool.and_eq_true] at m0
  have m4 := m0.2
  cases hbase : s.L[id]? with
  | none => rw [hbase] at m4; cases k <;> cases m4
  | some o =>
    rw [hbase] at m4
    cases k <;> cases o <;> simp only at m4 <;> (try (cases m4; done)) <;> cases o' <;> simp only [OK.proj] at m3 <;> (try (cases m3; done))
    · rename_i ver T e cv T0 e0 xs0 cv' T' e' xs'
      cases hb : Nat.beq T T' with
      | false => rw [hb] at m3; cases m3
      | true =>
        rw [hb] at m3
        have := Nat.eq_of_beq_eq_true hb
        subst this
        obtain ⟨rfl, hx⟩ := castL_some m3
        simp only at hx
        subst hx
        exact hr
    · rename_i ks cs0 cs'
      obtain ⟨b, T, cells, h1, h2, h3, h4⟩ := hr
      obtain ⟨q1, q2⟩ := i.sks ks cs' _ y m4 h4 m3
      exact ⟨b, T, cells, h1, h2, by rw [h3]; exact q2.symm, q1⟩
    · rename_i k v k0 v0 es0 k' v' es'
      obtain ⟨rfl, rfl, hx⟩ := castE_some m3
      have hx := eq_of_heq hx
      subst hx
      exact hr
    · rename_i mid k v mid0 k0 v0 td0 cur0 mid' k' v' td' cur'
      cases hb : Nat.beq mid mid' with
      | false => rw [hb] at m3; cases m3
      | true =>
        rw [hb] at m3
        have := Nat.eq_of_beq_eq_true hb
        subst this
        obtain ⟨rfl, rfl, hx⟩ := castE_some m3
        have hx := eq_of_heq hx
        subst hx
        simp only [Bool.and_eq_true] at m4
        obtain ⟨es, b, bm, en, clock, seen, h0, h1, h2, h3, h4, h5, h6, h7, h8, h9⟩ := hr
        have m5 := m4.2
        split at m5
        · rename_i k'' v'' es'' hmid
          simp only [Bool.and_eq_true] at m5
          have e1 := of_decide_eq_true m5.1
          have e2 := of_decide_eq_true m5.2
          subst e1; subst e2
          have : ∃ es2, (Obs.inj h.ob x.2 s.L)[mid]? = some (.map k' v' es2) := by
            cases hf : obFind h.ob mid with
            | none => exact ⟨es'', (i.out hf hmid).1⟩
            | some km =>
              obtain ⟨n0, ym, om, n1, n2, n3⟩ := i.in_ hf
              unfold okOk at n0
              simp only [Bool.and_eq_true] at n0
              have n4 := n0.2
              rw [hmid] at n4
              cases km <;> simp only at n4 <;> try (cases n4; done)
              simp only [Bool.and_eq_true] at n4
              have e1 := of_decide_eq_true n4.1
              have e2 := of_decide_eq_true n4.2
              subst e1; subst e2
              exact ⟨_, n1⟩
          obtain ⟨es2, hm2⟩ := this
          exact ⟨es2, b, bm, en, clock, seen, hm2, h1, h2, h3, h4, h5, h6, h7, h8, fun x hx => by cases hx⟩
        · cases m5

/-- Each object there stands for one that comes. -/
theorem HeadIn.back (i : HeadIn Γ N h s c a w s' c' a' w' x W) {id : Nat} {p : AObj} (hp : (Obs.inj h.ob x.2 s.L)[id]? = some p) : ∃ o', s'.L[id]? = some o' ∧ ∀ v b, Owns p v b → Owns o' v b := by
  cases hf : obFind h.ob id with
  | none =>
    obtain ⟨k1, k2, k3, k4, k5⟩ := shapeOk_some i.ok
    have hb := (Obs.inj_get h.ob x.2 s.L id k4 (fun p hp => okOk_lt (k2 p hp))).1 hf
    rw [hp] at hb
    obtain ⟨_, m2, _, _⟩ := i.out hf hb.symm
    exact ⟨p, m2, fun _ _ h => h⟩
  | some k =>
    obtain ⟨m0, y, o', m1, m2, m3⟩ := i.in_ hf
    rw [hp] at m1
    cases m1
    exact ⟨o', m2, fun v b => proj_owns m3 v b⟩

theorem HeadIn.rw_ (i : HeadIn Γ N h s c a w s' c' a' w' x W) : RW Γ (Obs.inj h.ob x.2 s.L) c' w' := by
  have hw := i.hR.rw_
  refine ⟨hw.below, hw.base, hw.sub, hw.s0, fun id p hp => ?_, fun id p b hp hb => ?_, fun id id' p p' b hp hp' hb hb' => ?_⟩
  · cases hf : obFind h.ob id with
    | none =>
      obtain ⟨k1, k2, k3, k4, k5⟩ := shapeOk_some i.ok
      have hq := (Obs.inj_get h.ob x.2 s.L id k4 (fun p hp => okOk_lt (k2 p hp))).1 hf
      rw [hp] at hq
      have ho := hq.symm
      obtain ⟨m1, m2, m3, m4⟩ := i.out hf ho
      rw [m3]
      refine ObjRel_step i.step m4 (fun mid k v td cur es e hm => ?_) (i.hb.rw_.objs id p ho)
      subst e
      have hlt : id < s.L.length := (List.getElem?_eq_some_iff.1 ho).1
      have := List.all_eq_true.1 k5 id (List.mem_range.2 hlt)
      rw [ho] at this
      simp only [hf, Option.isSome_none, Bool.false_or, Option.isNone_iff_eq_none] at this
      obtain ⟨n1, n2, n3, n4⟩ := i.out this hm
      exact ⟨⟨es, n1⟩, n3, fun b hb => n4 b hb⟩
    | some k =>
      obtain ⟨m0, y, o', m1, m2, m3⟩ := i.in_ hf
      rw [hp] at m1
      cases m1
      exact i.obj m0 m2 m3
  · obtain ⟨o', h1, h2⟩ := i.back hp
    exact hw.owns id o' b h1 (h2 _ _ hb)
  · obtain ⟨o1, h1, h2⟩ := i.back hp
    obtain ⟨o2, g1, g2⟩ := i.back hp'
    exact hw.apart id id' o1 o2 b h1 g1 (h2 _ _ hb) (g2 _ _ hb')

theorem lk_append (l r : List (Nat × AV)) (t : Nat) : lk (l ++ r) t = if t ∈ l.map (·.1) then lk l t else lk r t := by
  induction l with
  | nil => simp
  | cons p l ih =>
    obtain ⟨u, av⟩ := p
    simp only [List.cons_append, lk_cons, List.map_cons, List.mem_cons]
    by_cases e : u = t
    · subst e; simp
    · rw [if_neg e, ih]
      have e' : ¬ t = u := fun h => e h.symm
      simp only [e', false_or, if_neg e]

theorem lk_junk (W : List Nat) (r : List (Nat × AV)) (t : Nat) : lk ((W.map fun t => (t, AV.junk)) ++ r) t = if t ∈ W then .junk else lk r t := by
  induction W with
  | nil => simp
  | cons u W ih =>
    simp only [List.map_cons, List.cons_append, lk_cons, List.mem_cons, ih]
    by_cases e : u = t
    · subst e; simp
    · have e' : ¬ t = u := fun h => e h.symm
      simp [e, e']

theorem HeadIn.slots (i : HeadIn Γ N h s c a w s' c' a' w' x W) : ∀ (l : List (Nat × SK)) (y : Sls.den l), (∀ p ∈ l, skOk h s p.2 = true) → Sls.proj s' l = some y → ∀ t, t ∈ l.map (·.1) →
    RelAV (Obs.inj h.ob x.2 s.L) c' w' (lk (Sls.inj l y) t) (a'.tmps.getD t undef)
  | [], y, _, _, t, ht => by simp at ht
  | p :: r, y, hk, hp, t, ht => by
    simp only [Sls.proj] at hp
    split at hp
    · rename_i y1 y2 h1 h2
      simp only [Option.some.injEq] at hp
      subst hp
      simp only [Sls.inj, lk_cons]
      split
      · rename_i e
        subst e
        exact i.sk (hk p (by simp)) (i.hR.slots p.1) h1
      · rename_i e
        refine HeadIn.slots i r y2 (fun q hq => hk q (by simp [hq])) h2 t ?_
        simp only [List.map_cons, List.mem_cons] at ht
        rcases ht with ht | ht
        · exact absurd ht.symm e
        · exact ht
    · cases hp

theorem Sls.inj_keys : ∀ (l : List (Nat × SK)) (y : Sls.den l), (Sls.inj l y).map (·.1) = l.map (·.1)
  | [], _ => rfl
  | p :: r, y => by simp [Sls.inj, Sls.inj_keys r y.2]

/-- **Where ways meet: the state there stands for the frame and the world that come.** -/
theorem HeadIn.head (i : HeadIn Γ N h s c a w s' c' a' w' x W) : R Γ (h.inj W s x) c' N a' w' ∧ Adv s c w (h.inj W s x) c' w' := by
  obtain ⟨k1, k2, k3, k4, k5⟩ := shapeOk_some i.ok
  refine ⟨⟨i.rw_, fun t => ?_, i.hR.size, i.hR.defers⟩, ⟨i.step, rfl, fun id hid o ho => ?_⟩⟩
  · simp only [Shape.inj, List.append_assoc]
    rw [lk_append, Sls.inj_keys]
    split
    · rename_i ht
      exact i.slots h.sl x.1 k3 i.projs.1 t ht
    · rw [lk_junk]
      split
      · simp only [RelAV]
      · rename_i hW
        rw [i.same t hW]
        exact RelAV_step i.step _ _ (i.hb.slots t)
  · have hn : obFind h.ob id = none := by
      cases hf : obFind h.ob id with
      | none => rfl
      | some k =>
        have := k2 _ (obFind_some hf)
        unfold okOk at this
        simp only [Bool.and_eq_true, Bool.not_eq_true'] at this
        exact absurd hid (lockedB_false this.1)
    obtain ⟨m1, m2, m3, m4⟩ := i.out hn ho
    exact ⟨m1, m3, m4⟩
end
end

end Go.Proofs.Ytodjomdnlcledaa.X
