/- Calls: a function that is known by what it says of data; one that is gone through; whole functions. -/
import Derived.Test.YtodjomdnlcledaaX6
import Derived.Test.YtodjomdnlcledaaY15
namespace Go.Proofs.Ytodjomdnlcledaa.X
open Go Go.RowKit
set_option linter.unusedSimpArgs false
set_option linter.unusedVariables false

/-- Values hold data, one by one. -/
def ArgsRel (S : BSet) (w : World) : (ts : List Ty) → Args.den ts → List Value → Prop
  | [], _, vs => vs = []
  | t :: ts, x, vs => ∃ u us, vs = u :: us ∧ t.val S w x.1 u ∧ ArgsRel S w ts x.2 us

/-- What a call has handed back holds these data. -/
def ResRels (S : BSet) (w : World) : (ts : List Ty) → Res.den ts → List Value → Prop
  | [], _, vs => vs = []
  | [t], x, vs => ∃ u, vs = [u] ∧ t.val S w x u
  | t :: u :: ts, x, vs => ∃ v vs', vs = v :: vs' ∧ t.val S w x.1 v ∧ ResRels S w (u :: ts) x.2 vs'

def ResRel (S : BSet) (w : World) (ts : List Ty) (x : Res.den ts) (v : Value) : Prop :=
  ∃ vs, ResRels S w ts x vs ∧ v = (match vs with | [u] => u | vs => .tuple vs.toArray)

def Sound (P : Program) (f : FuncId) (ps rs : List Ty) (xs : Args.den ps) (Q : Res.den rs → Prop) : Prop :=
  ∀ (S : BSet) (w : World) (vals : List Value), (∀ b, S b → b < w.heap.size) → ArgsRel S w ps xs vals →
    Calls P f vals.toArray w (fun e w' => ∃ v r, e = .returned v ∧ Q r ∧ Below w.heap.size w w' ∧ ResRel (fun b => b < w'.heap.size ∧ (S b ∨ w.heap.size ≤ b)) w' rs r v)

/-- A function there is, with this code. -/
def Stands (P : Program) (f : FuncId) : Prop := ∃ fn cd, P.funcs[f]? = some fn ∧ fn.body = some cd ∧ (fn.name == "runtime.NumGoroutine") = false

def FnOk (P : Program) (f : FuncId) (sp : FnSpec) : Prop := ∀ xs Q, sp.F xs Q → Sound P f sp.ps sp.rs xs Q

def SoundF (P : Program) (f : FuncId) (ps : List Ty) (k : OK) (xs : Args.den ps) (Q : k.den → Prop) : Prop :=
  ∀ (S : BSet) (w : World) (vals : List Value), (∀ b, S b → b < w.heap.size) → ArgsRel S w ps xs vals →
    Calls P f vals.toArray w (fun e w' => ∃ v r c', e = .returned v ∧ Q r ∧ Below w.heap.size w w' ∧ ObjRel [] c' w' v (k.inj r) ∧
      (∀ b, Owns (k.inj r) v b → w.heap.size ≤ b ∧ b < w'.heap.size ∧ ¬ c'.S b) ∧ (∀ b, c'.S b → b < w'.heap.size ∧ (S b ∨ w.heap.size ≤ b)))

def FreshOk (P : Program) (f : FuncId) (sp : FreshSpec) : Prop := ∀ xs Q, sp.F xs Q → SoundF P f sp.ps sp.k xs Q

structure BookOk (b : Book) : Prop where
  fr : ∀ f sp, b.fr f = some sp → Stands b.P f ∧ FreshOk b.P f sp
  fn : ∀ f sp, b.fn f = some sp → Stands b.P f ∧ FnOk b.P f sp
  sp : ∀ f h, b.sp f = some h → Stands b.P f ∧ ∀ args s K, h args s K → ∀ (Γ : Base) (c : Ctx) (w : World) (vals : List Value), RW Γ s.L c w → RelAVs s.L c w args vals →
    Calls b.P f vals.toArray w (fun e w' => ∃ v av s' c', e = .returned v ∧ K av s' ∧ s'.sl = s.sl ∧ Adv s c w s' c' w' ∧ RW Γ s'.L c' w' ∧ RelAV s'.L c' w' av v)
  inl : ∀ f args s i, b.inl f args s = some i → ∃ fn, b.P.funcs[f]? = some fn ∧ fn.body = some i.c ∧ fn.results.toList = i.rs ∧ fn.ntmps = i.N ∧ (fn.name == "runtime.NumGoroutine") = false
  eqv : EqvOk (envX b 0 0)

section
variable {Γ : Base} {s : St} {c : Ctx} {N : Nat} {a : Act} {w : World} {b : Book}

theorem EqvOk.envX (h : EqvOk (envX b 0 0)) : ∀ n N, EqvOk (envX b n N)
  | 0, N => h
  | n + 1, N => h

theorem envX_P : ∀ n, (envX b n N).P = b.P | 0 => rfl | _ + 1 => rfl
theorem envX_N : ∀ n, (envX b n N).N = N | 0 => rfl | _ + 1 => rfl
theorem envX_q : ∀ n, (envX b n N).q = quietF b | 0 => rfl | _ + 1 => rfl

/-- The blocks of the rows that are lent. -/
def lentS (L : List AObj) (c : Ctx) (ids : List Nat) : BSet := fun b => c.S b ∨ ∃ id ∈ ids, ∃ o, L[id]? = some o ∧ Owns o (c.m id) b

theorem argsData_rel {ids : List Nat} (hw : RW Γ s.L c w) : ∀ (ts : List Ty) (as : List AV) (vs : List Value) (x : Args.den ts), (∀ id ∈ as.flatMap AV.lent, id ∈ ids) →
    RelAVs s.L c w as vs → argsData s.L ts as = some x → ArgsRel (lentS s.L c ids) w ts x vs
  | [], [], vs, x, hi, hr, h => by simp only [RelAVs] at hr; exact hr
  | [], _ :: _, vs, x, hi, hr, h => by simp [argsData] at h
  | _ :: _, [], vs, x, hi, hr, h => by simp [argsData] at h
  | t :: ts, a :: as, vs, x, hi, hr, h => by
    simp only [RelAVs] at hr
    obtain ⟨u, us, rfl, h1, h2⟩ := hr
    simp only [argsData] at h
    split at h
    · rename_i y z hy hz
      cases h
      refine ⟨u, us, rfl, ?_, argsData_rel hw ts as us z (fun id hid => hi id (by simp only [List.flatMap_cons, List.mem_append]; exact .inr hid)) h2 hz⟩
      have hin : ∀ id ∈ a.lent, id ∈ ids := fun id hid => hi id (by simp only [List.flatMap_cons, List.mem_append]; exact .inl hid)
      exact toData_val hw (S := lentS s.L c ids) (deep := false) ⟨fun b hb => .inl hb, fun id av hm he o ho b hb => .inr ⟨id, hin id (lent_parts hm he), o, ho, hb⟩, fun h => by cases h⟩
        ⟨fun b hb => .inl hb, fun id av hm he o ho b hb => .inr ⟨id, hin id (lent_self hm he), o, ho, hb⟩, fun h => by cases h⟩ h1 hy
    · cases h

theorem ResRels.length {S : BSet} : ∀ {ts : List Ty} {x : Res.den ts} {vs : List Value}, ResRels S w ts x vs → vs.length = ts.length
  | [], x, vs, h => by simp only [ResRels] at h; subst h; rfl
  | [t], x, vs, h => by obtain ⟨u, rfl, _⟩ := h; rfl
  | t :: u :: ts, x, vs, h => by
    obtain ⟨v, vs', rfl, _, h2⟩ := h
    simp [ResRels.length h2]

theorem resAVs_rel {L : List AObj} {S : BSet} (hS : ∀ b, S b → c.S b) : ∀ (ts : List Ty) (x : Res.den ts) (vs : List Value), ResRels S w ts x vs → RelAVs L c w (resAVs ts x) vs
  | [], x, vs, h => by simp only [ResRels] at h; simp only [resAVs, RelAVs]; exact h
  | [t], x, vs, h => by
    obtain ⟨u, rfl, h1⟩ := h
    simp only [resAVs, RelAVs, RelAV]
    exact ⟨u, [], rfl, Ty.val_mono hS (fun _ _ => rfl) h1, rfl⟩
  | t :: u :: ts, x, vs, h => by
    obtain ⟨v, vs', rfl, h1, h2⟩ := h
    simp only [resAVs, RelAVs, RelAV]
    exact ⟨v, vs', rfl, Ty.val_mono hS (fun _ _ => rfl) h1, resAVs_rel hS (u :: ts) x.2 vs' h2⟩

theorem resAV_rel {L : List AObj} {S : BSet} (hS : ∀ b, S b → c.S b) {ts : List Ty} {x : Res.den ts} {v : Value} (h : ResRel S w ts x v) : RelAV L c w (resAV ts x) v := by
  obtain ⟨vs, h1, rfl⟩ := h
  have hl := ResRels.length h1
  match ts, x, h1 with
  | [], x, h1 =>
    simp only [ResRels] at h1; subst h1
    simp only [resAV, RelAV, resAVs]
    exact ⟨#[], rfl, by simp only [RelAVs]⟩
  | [t], x, h1 =>
    obtain ⟨u, rfl, hu⟩ := h1
    simp only [resAV, RelAV]
    exact Ty.val_mono hS (fun _ _ => rfl) hu
  | t :: u :: ts, x, h1 =>
    have := resAVs_rel (L := L) (c := c) hS (t :: u :: ts) x vs h1
    simp only [resAV, RelAV]
    refine ⟨vs.toArray, ?_, by simpa using this⟩
    cases vs with
    | nil => simp at hl
    | cons v vs => cases vs with
      | nil => simp at hl
      | cons v' vs => rfl

theorem resRels_flat {S S' : BSet} {w' : World} : ∀ (ts : List Ty) (x : Res.den ts) (vs : List Value), ts.all Ty.flat = true → ResRels S w ts x vs → ResRels S' w' ts x vs
  | [], x, vs, _, h => h
  | [t], x, vs, hf, h => by
    obtain ⟨u, rfl, h1⟩ := h
    simp only [List.all_cons, Bool.and_eq_true] at hf
    exact ⟨u, rfl, Ty.val_flat hf.1 h1⟩
  | t :: u :: ts, x, vs, hf, h => by
    obtain ⟨v, vs', rfl, h1, h2⟩ := h
    rw [List.all_cons, Bool.and_eq_true] at hf
    exact ⟨v, vs', rfl, Ty.val_flat hf.1 h1, resRels_flat (u :: ts) x.2 vs' hf.2 h2⟩

/-- More blocks that stay as they are. -/
theorem RW.more (h : RW Γ s.L c w) {S : BSet} (hc : ∀ b, c.S b → S b) (hs : ∀ b, S b → b < w.heap.size ∧ (Γ.S0 b ∨ Γ.B ≤ b)) (ho : ∀ id o b, s.L[id]? = some o → Owns o (c.m id) b → ¬ S b) :
    RW Γ s.L ⟨c.m, S⟩ w ∧ Step s.L c w s.L ⟨c.m, S⟩ w := by
  have hst : Step s.L c w s.L ⟨c.m, S⟩ w := ⟨fun id o h => ⟨o, h, Evol.refl _ _⟩, hc, fun _ _ => rfl⟩
  refine ⟨⟨h.below, h.base, fun b hb => (hs b hb).1, fun b hb => (hs b hb).2, fun id o hid => ?_, fun id o b hid hb => ?_, fun id id' o o' b h1 h2 h3 h4 => h.apart id id' o o' b h1 h2 h3 h4⟩, hst⟩
  · exact ObjRel_step hst (fun _ _ => rfl) (fun mid k v td cur es e hm => ⟨⟨es, hm⟩, rfl, fun _ _ => rfl⟩) (h.objs id o hid)
  · exact ⟨(h.owns id o b hid hb).1, (h.owns id o b hid hb).2.1, ho id o b hid hb⟩

/-- A call of a function that is known. -/
theorem table_ok {f : FuncId} {sp : FnSpec} {args : List AV} {K : AV → St → Prop} {P : Program} (hst : Stands P f) (hf : FnOk P f sp) {xs : Args.den sp.ps} (ha : argsData s.L sp.ps args = some xs)
    (hx : sp.F xs fun r => lendX sp.rs args s fun s' => K (resAV sp.rs r) s') {vals : List Value} (hw : RW Γ s.L c w) (hr : RelAVs s.L c w args vals) :
    Calls P f vals.toArray w (fun e w' => ∃ v av s' c', e = .returned v ∧ K av s' ∧ s'.sl = s.sl ∧ Adv s c w s' c' w' ∧ RW Γ s'.L c' w' ∧ RelAV s'.L c' w' av v ∧ Ext w w') := by
  have hsub : ∀ b, lentS s.L c (args.flatMap AV.lent) b → b < w.heap.size := by
    rintro b (hb | ⟨id, _, o, ho, hb⟩)
    · exact hw.sub b hb
    · exact (hw.owns id o b ho hb).2.1
  refine Calls.mono (hf xs _ hx (lentS s.L c (args.flatMap AV.lent)) w vals hsub (argsData_rel hw sp.ps args vals xs (fun _ h => h) hr ha)) ?_
  rintro e w' ⟨v, r, rfl, hK, hbel, hres⟩
  have hext : Ext w w' := fun b hb => hbel.block b hb
  obtain ⟨g1, g2⟩ := hw.grow ⟨hbel.os, hbel.tape, hbel.output, hbel.size⟩ hext
  unfold lendX at hK
  cases hfl : sp.rs.all Ty.flat with
  | true =>
    rw [hfl] at hK
    simp only [cond_true] at hK
    obtain ⟨vs, hv, e⟩ := hres
    exact ⟨v, _, s, c, rfl, hK, rfl, ⟨g2, rfl, fun id _ o ho => ⟨ho, rfl, fun b hb => hext b (hw.owns id o b ho hb).2.1⟩⟩, g1, resAV_rel (S := fun _ => False) (fun _ h => h.elim) ⟨vs, resRels_flat _ _ _ hfl hv, e⟩, hext⟩
  | false =>
    rw [hfl] at hK
    simp only [cond_false] at hK
    cases hfr : freeB s (args.flatMap AV.lent) with
    | false => rw [hfr] at hK; exact hK.elim
    | true =>
      rw [hfr] at hK
      simp only [cond_true] at hK
      obtain ⟨c1, k1, k2, k3, k4⟩ := gone_state g1 hfr
      let S1 : BSet := fun b => c1.S b ∨ (w.heap.size ≤ b ∧ b < w'.heap.size)
      have hlive : ∀ id o b, (goneAll s.L (args.flatMap AV.lent))[id]? = some o → Owns o (c1.m id) b → b < w.heap.size := by
        intro id o b hid hb
        have hcm : c1.m id = c.m id := by rw [k3]
        rw [hcm] at hb
        have hlen : (goneAll s.L (args.flatMap AV.lent)).length = s.L.length := by
          have hg : ∀ (ids : List Nat) (L : List AObj), (goneAll L ids).length = L.length := by
            intro ids
            induction ids with
            | nil => intro L; rfl
            | cons i r ih => intro L; simp [goneAll, ih]
          exact hg _ _
        have hid' : id < s.L.length := by rw [← hlen]; exact (List.getElem?_eq_some_iff.1 hid).1
        obtain ⟨o', h1, h2⟩ := k2.step.obj id _ (List.getElem?_eq_getElem hid')
        rw [h1] at hid
        cases hid
        have hob := (hw.owns id _ b (List.getElem?_eq_getElem hid'))
        have hsame : Owns s.L[id] (c.m id) b := by
          generalize s.L[id] = oo at h2
          cases oo <;> cases o <;> simp only [Evol] at h2 <;> first | exact h2.elim | exact hb | exact hb.elim
        exact (hob hsame).2.1
      obtain ⟨m1, m2⟩ := RW.more (s := ⟨s.sl, goneAll s.L (args.flatMap AV.lent), s.lock⟩) k1 (S := S1) (fun b hb => .inl hb)
        (fun b hb => by
          rcases hb with hb | hb
          · exact ⟨k1.sub b hb, k1.s0 b hb⟩
          · exact ⟨hb.2, .inr (Nat.le_trans hw.base hb.1)⟩)
        (fun id o b hid hb hS => by
          rcases hS with hS | hS
          · exact (k1.owns id o b hid hb).2.2 hS
          · exact absurd (hlive id o b hid hb) (by omega))
      refine ⟨v, _, _, ⟨c1.m, S1⟩, rfl, hK, rfl, ?_, m1, resAV_rel (c := ⟨c1.m, S1⟩) (fun b hb => ?_) hres, hext⟩
      · refine Adv.trans (s' := s) (c' := c) (w' := w') ⟨g2, rfl, fun id _ o ho => ⟨ho, rfl, fun b hb => hext b (hw.owns id o b ho hb).2.1⟩⟩ (Adv.trans k2 ⟨m2, rfl, fun id _ o ho => ⟨ho, rfl, fun _ _ => rfl⟩⟩)
      · rcases hb.2 with (h1 | ⟨id, hid, o, ho, hb'⟩) | h1
        · exact .inl (k2.step.more b h1)
        · exact .inl (k4 id hid o ho b hb')
        · exact .inr ⟨h1, hb.1⟩

theorem ObjRel_obj {k : OK} (hk : k.fresh = true) {L L' : List AObj} {c c' : Ctx} {r : k.den} {v : Value} (h : ObjRel L c w v (k.inj r))
    (hS : ∀ b, c.S b → c'.S b ∨ k.elem.flat = true) : ObjRel L' c' w v (k.inj r) := by
  have hcell : ∀ (t : Ty) (x : t.den) (j : Nat) (cv : Value), (t = k.elem ∨ t.flat = true) → t.cell c.S w x j cv → t.cell c'.S w x j cv := fun t x j cv ht hc => by
    by_cases hfl : t.flat = true
    · exact Ty.cell_flat t hfl x j cv hc
    · have hnf : ¬ k.elem.flat = true := fun h => by rcases ht with rfl | ht; exact hfl h; exact hfl ht
      exact Ty.cell_mono (fun b hb => (hS b hb).resolve_right hnf) (fun _ _ => rfl) t x j cv hc
  cases k with
  | row ver T e =>
    simp only [OK.inj, ObjRel] at h ⊢
    rcases h with h | ⟨b, cap, cells, h1, h2, h3, h4, h5, h6⟩
    · exact .inl h
    · refine .inr ⟨b, cap, cells, h1, h2, h3, h4, h5, fun i x hx j hj => ?_⟩
      obtain ⟨cv, k1, k2⟩ := h6 i x hx j hj
      exact ⟨cv, k1, hcell e x j cv (.inl rfl) k2⟩
  | map kt vt =>
    simp only [OK.inj, ObjRel] at h ⊢
    obtain ⟨b, en, clock, h1, h2, h3, h4, h5⟩ := h
    refine ⟨b, en, clock, h1, h2, h3, All2.imp (fun x e he => ?_) _ _ h4, h5⟩
    exact ⟨⟨he.1.1, he.1.2.1, fun j hj => let ⟨cv, q1, q2⟩ := he.1.2.2 j hj; ⟨cv, q1, hcell kt x.1 j cv (.inr h3) q2⟩⟩, ⟨he.2.1, he.2.2.1, fun j hj => let ⟨cv, q1, q2⟩ := he.2.2.2 j hj; ⟨cv, q1, hcell vt x.2 j cv (.inl rfl) q2⟩⟩⟩
  | cells ks => simp [OK.fresh] at hk
  | iter mid kt vt => simp [OK.fresh] at hk

theorem freshAV_rel {k : OK} (hk : k.fresh = true) (r : k.den) {L : List AObj} {c : Ctx} {v : Value} : RelAV (L ++ [k.inj r]) (c.set L.length v) w (freshAV L.length k) v := by
  cases k with
  | row ver T e =>
    cases ver with
    | succ n => simp [OK.fresh] at hk
    | zero => simp [freshAV, RelAV, RowAt, OK.inj, Ctx.set]
  | map kt vt => simp [freshAV, RelAV, MapAt, OK.inj, Ctx.set]
  | cells ks => simp [OK.fresh] at hk
  | iter mid kt vt => simp [OK.fresh] at hk

/-- A call of a function that hands back a new object. -/
theorem fresh_ok {f : FuncId} {sp : FreshSpec} {args : List AV} {K : AV → St → Prop} {P : Program} (hf : FreshOk P f sp) (h : freshX sp args s K) {vals : List Value} (hw : RW Γ s.L c w) (hr : RelAVs s.L c w args vals) :
    Calls P f vals.toArray w (fun e w' => ∃ v av s' c', e = .returned v ∧ K av s' ∧ s'.sl = s.sl ∧ Adv s c w s' c' w' ∧ RW Γ s'.L c' w' ∧ RelAV s'.L c' w' av v ∧ Ext w w') := by
  unfold freshX at h
  split at h
  · rename_i xs ha
    cases hk : sp.k.fresh with
    | false => rw [hk] at h; exact h.elim
    | true =>
      rw [hk] at h
      simp only [cond_true] at h
      have hsub : ∀ b, lentS s.L c (args.flatMap AV.lent) b → b < w.heap.size := by
        rintro b (hb | ⟨id, _, o, ho, hb⟩)
        · exact hw.sub b hb
        · exact (hw.owns id o b ho hb).2.1
      refine Calls.mono (hf xs _ h (lentS s.L c (args.flatMap AV.lent)) w vals hsub (argsData_rel hw sp.ps args vals xs (fun _ h => h) hr ha)) ?_
      rintro e w' ⟨v, r, cf, rfl, hK, hbel, hobj, hown, hcf⟩
      have hext : Ext w w' := fun b hb => hbel.block b hb
      -- the state with what was lent let go, if it must
      have key : ∀ (s1 : St) (c1 : Ctx), RW Γ s1.L c1 w → Adv s c w s1 c1 w → s1.sl = s.sl → (∀ b, cf.S b → (c1.S b ∨ w.heap.size ≤ b) ∨ sp.k.elem.flat = true) →
          K (freshAV s1.L.length sp.k) (s1.addL (sp.k.inj r)) →
          ∃ v' av s' c', Ending.returned v = .returned v' ∧ K av s' ∧ s'.sl = s.sl ∧ Adv s c w s' c' w' ∧ RW Γ s'.L c' w' ∧ RelAV s'.L c' w' av v' ∧ Ext w w' := by
        intro s1 c1 k1 k2 k3 k4 hK
        obtain ⟨g1, g2⟩ := k1.grow ⟨hbel.os, hbel.tape, hbel.output, hbel.size⟩ hext
        let S1 : BSet := fun b => c1.S b ∨ (cf.S b ∧ w.heap.size ≤ b)
        obtain ⟨m1, m2⟩ := RW.more (s := s1) g1 (S := S1) (fun b hb => .inl hb)
          (fun b hb => by
            rcases hb with hb | hb
            · exact ⟨g1.sub b hb, g1.s0 b hb⟩
            · exact ⟨(hcf b hb.1).1, .inr (Nat.le_trans hw.base hb.2)⟩)
          (fun id o b hid hb hS => by
            rcases hS with hS | hS
            · exact (g1.owns id o b hid hb).2.2 hS
            · exact absurd (k1.owns id o b hid hb).2.1 (by omega))
        obtain ⟨a1, a2⟩ := RW.adopt (o' := sp.k.inj r) (v' := v) m1
          (fun b hb => by
            obtain ⟨q1, q2, q3⟩ := hown b hb
            exact ⟨Nat.le_trans hw.base q1, q2, fun hS => by
              rcases hS with hS | hS
              · exact absurd (k1.sub b hS) (by omega)
              · exact q3 hS.1⟩)
          (fun id o b hid hb hq => by
            have := (k1.owns id o b hid hb).2.1
            have := (hown b hq).1
            omega)
          (fun _ => ObjRel_obj hk hobj (fun b hb => by
            rcases k4 b hb with (h | h) | h
            · exact .inl (.inl h)
            · exact .inl (.inr ⟨hb, h⟩)
            · exact .inr h))
        refine ⟨v, _, _, _, rfl, hK, k3, k2.trans ?_, a1, ?_, hext⟩
        · refine ⟨g2.trans (m2.trans a2), rfl, fun id hid o ho => ?_⟩
          have hlt : id < s1.L.length := (List.getElem?_eq_some_iff.1 ho).1
          exact ⟨by show (s1.L ++ [_])[id]? = _; rw [List.getElem?_append_left hlt]; exact ho, Ctx.set_other _ _ (by omega), fun b hb => hext b (k1.owns id o b ho hb).2.1⟩
        · exact freshAV_rel hk r
      unfold lendX at hK
      cases hfl : [sp.k.elem].all Ty.flat with
      | true =>
        rw [hfl] at hK
        simp only [cond_true] at hK
        exact key s c hw (Adv.refl _ _ _) rfl (fun b hb => .inr (by simpa using hfl)) hK
      | false =>
        rw [hfl] at hK
        simp only [cond_false] at hK
        cases hfr : freeB s (args.flatMap AV.lent) with
        | false => rw [hfr] at hK; exact hK.elim
        | true =>
          rw [hfr] at hK
          simp only [cond_true] at hK
          obtain ⟨c1, k1, k2, k3, k4⟩ := gone_state hw hfr
          refine key ⟨s.sl, goneAll s.L (args.flatMap AV.lent), s.lock⟩ c1 k1 k2 rfl (fun b hb => .inl ?_) hK
          rcases (hcf b hb).2 with (h1 | ⟨id, hid, o, ho, hb'⟩) | h1
          · exact .inl (k2.step.more b h1)
          · exact .inl (k4 id hid o ho b hb')
          · exact .inr h1
  · exact h.elim

theorem lk_zip (as : List AV) (t : Nat) : lk (as.zipIdx.map fun p => (p.2, p.1)) t = as.getD t .junk := by
  have key : ∀ (as : List AV) (k t : Nat), lk ((as.zipIdx k).map fun p => (p.2, p.1)) (t + k) = as.getD t .junk := by
    intro as
    induction as with
    | nil => intro k t; simp [lk]
    | cons a as ih =>
      intro k t
      simp only [List.zipIdx_cons, List.map_cons]
      rw [lk_cons]
      cases t with
      | zero => simp
      | succ t =>
        rw [if_neg (by omega)]
        have := ih (k + 1) t
        rw [show t + 1 + k = t + (k + 1) by omega, this]
        simp
  have := key as 0 t
  simpa using this

theorem RelAVs_at {L : List AObj} : ∀ {as : List AV} {vs : List Value}, RelAVs L c w as vs → ∀ t, RelAV L c w (as.getD t .junk) (vs.getD t undef)
  | [], vs, h, t => by simp [RelAV]
  | a :: as, vs, h, t => by
    simp only [RelAVs] at h
    obtain ⟨u, us, rfl, h1, h2⟩ := h
    cases t with
    | zero => simpa using h1
    | succ t => simpa using RelAVs_at h2 t

/-- The begin of a call. -/
theorem R.enter (hw : RW Γ s.L c w) {args : List AV} {vals : List Value} (hr : RelAVs s.L c w args vals) (hn : args.length ≤ N) (l : List Nat) :
    R Γ ⟨args.zipIdx.map fun p => (p.2, p.1), s.L, l⟩ c N { tmps := vals.toArray ++ Array.replicate (N - vals.toArray.size) undef, defers := [] } w := by
  have hlen := RelAVs_get hr
  refine ⟨hw, fun t => ?_, ?_, rfl⟩
  · rw [lk_zip]
    by_cases ht : t < vals.length
    · have := RelAVs_at hr t
      simp [Array.getElem?_append, ht] at this ⊢
      exact this
    · have : args.getD t .junk = .junk := by simp [List.getElem?_eq_none (l := args) (i := t) (by omega)]
      rw [this]; simp only [RelAV]
  · simp; omega

def resOne (tmps : Array Value) : ResultVar → Sem Value
  | .tmp t => pure (tmps.getD t undef)
  | .cell x t => do loadVar t (← asAddr (tmps.getD x undef))

theorem results_eq (fn : Func) (tmps : Array Value) : results fn tmps = (do let vs ← fn.results.mapM (resOne tmps); pure (if h : vs.size = 1 then vs[0] else .tuple vs)) := by
  unfold results; congr 1

theorem resOneX_run {E : Env} {ret : AV → Prop} {r : ResultVar} {s' : St} {c' : Ctx} {a' : Act} {w' : World} (hR : R Γ s' c' N a' w') (h : resOneX E s' r ret) :
    ∃ av v, ret av ∧ (resOne a'.tmps r).run E.P w' = .ok v w' ∧ RelAV s'.L c' w' av v := by
  cases r with
  | tmp t => exact ⟨_, _, h, rfl, hR.slots t⟩
  | cell x t =>
    obtain ⟨av, v, h1, h2, h3⟩ := loadX_ok (x := .tmp x) hR h
    refine ⟨av, v, h1, ?_, h3⟩
    have := h2 w' (Ext.refl w')
    simp only [Instr.loadAt, Sem.run_bind] at this
    simp only [resOne, Sem.run_bind]
    have e : (asAddr (a'.tmps.getD x undef)).run E.P w' = (Instr.sureAddr (a'.eval (.tmp x))).run E.P w' := by
      simp only [Act.eval]
      cases hv : a'.tmps.getD x undef with
      | pointer p =>
        cases p with
        | some p => rfl
        | none => rw [show a'.eval (.tmp x) = .pointer none from hv] at this; simp [Instr.sureAddr, Result.andThen] at this
      | _ => rw [show a'.eval (.tmp x) = _ from hv] at this; simp [Instr.sureAddr, Result.andThen] at this
    rw [e]; exact this

/-- What a function hands back. -/
theorem resX_run {E : Env} {ret : AV → Prop} {fn : Func} {s' : St} {c' : Ctx} {a' : Act} {w' : World} (hR : R Γ s' c' N a' w') (h : resX E s' fn.results.toList ret) :
    ∃ av v, ret av ∧ (results fn a'.tmps).run E.P w' = .ok v w' ∧ RelAV s'.L c' w' av v := by
  have key : ∀ (rs : List ResultVar) (k : List AV → Prop), resX.go E s' rs k → ∃ as vs, k as ∧ as.length = rs.length ∧ (rs.mapM (resOne a'.tmps)).run E.P w' = .ok vs w' ∧ RelAVs s'.L c' w' as vs := by
    intro rs
    induction rs with
    | nil => intro k h; exact ⟨[], [], h, rfl, by simp, by simp only [RelAVs]⟩
    | cons r rs ih =>
      intro k h
      simp only [resX.go] at h
      obtain ⟨av, v, h1, h2, h3⟩ := resOneX_run hR h
      obtain ⟨as, vs, g1, g2, g3, g4⟩ := ih _ h1
      refine ⟨av :: as, v :: vs, g1, by simp [g2], ?_, ?_⟩
      · simp only [List.mapM_cons, Sem.run_bind, Sem.run_pure, Result.andThen, h2, g3]
      · simp only [RelAVs]; exact ⟨_, _, rfl, h3, g4⟩
  have arr : ∀ (vs : List Value), (fn.results.toList.mapM (resOne a'.tmps)).run E.P w' = .ok vs w' →
      (results fn a'.tmps).run E.P w' = .ok (if h : vs.toArray.size = 1 then vs.toArray[0] else .tuple vs.toArray) w' := by
    intro vs hv
    rw [results_eq, Array.mapM_eq_mapM_toList]
    simp [hv, Result.andThen]
  unfold resX at h
  split at h
  · rename_i r e
    obtain ⟨av, v, h1, h2, h3⟩ := resOneX_run hR h
    refine ⟨av, v, h1, ?_, h3⟩
    rw [arr [v] (by rw [e]; simp [h2, Result.andThen])]; simp
  · rename_i hne
    obtain ⟨as, vs, g1, g2, g3, g4⟩ := key _ _ h
    have hvl : vs.length ≠ 1 := by
      rw [← RelAVs_get g4, g2]
      intro h1
      cases hq : fn.results.toList with
      | nil => rw [hq] at h1; cases h1
      | cons x r => cases r with
        | nil => exact hne x hq
        | cons y r => rw [hq] at h1; simp at h1
    refine ⟨.tup as, .tuple vs.toArray, g1, ?_, by simp only [RelAV]; exact ⟨vs.toArray, rfl, by simpa using g4⟩⟩
    rw [arr vs g3, dif_neg (by simpa using hvl)]

end

/-- A sound book makes sound calls. -/
theorem envX_ok {b : Book} (hb : BookOk b) : ∀ (n N : Nat) (Γ : Base), HOk Γ (envX b n N)
  | 0, N, Γ => by
    intro f args s K h
    simp only [envX] at h
    split at h
    · rename_i sp hsp
      obtain ⟨h1, h2⟩ := hb.fn f sp hsp
      split at h
      · rename_i xs hxs
        refine ⟨h1, fun c w vals hw hr => Calls.mono (table_ok (Γ := Γ) h1 h2 hxs h hw hr) ?_⟩
        rintro e w' ⟨v, av, s', c', k1, k2, k3, k4, k5, k6, k7⟩
        exact ⟨v, av, s', c', k1, k2, k3, k4, k5, k6, fun _ => k7⟩
      · exact h.elim
    · rename_i hnone
      split at h
      · rename_i sp hsp
        obtain ⟨h1, h2⟩ := hb.fr f sp hsp
        refine ⟨h1, fun c w vals hw hr => Calls.mono (fresh_ok (Γ := Γ) h2 h hw hr) ?_⟩
        rintro e w' ⟨v, av, s', c', k1, k2, k3, k4, k5, k6, k7⟩
        exact ⟨v, av, s', c', k1, k2, k3, k4, k5, k6, fun _ => k7⟩
      rename_i hnone2
      split at h
      · rename_i g hg
        obtain ⟨h1, h2⟩ := hb.sp f g hg
        refine ⟨h1, fun c w vals hw hr => Calls.mono (h2 args s K h Γ c w vals hw hr) ?_⟩
        rintro e w' ⟨v, av, s', c', k1, k2, k3, k4, k5, k6⟩
        exact ⟨v, av, s', c', k1, k2, k3, k4, k5, k6, fun hq => by simp only [envX, quietF, hnone, hnone2] at hq; cases hq⟩
      · exact h.elim
  | n + 1, N, Γ => by
    intro f args s K h
    simp only [envX] at h
    split at h
    · rename_i sp hsp
      obtain ⟨h1, h2⟩ := hb.fn f sp hsp
      split at h
      · rename_i xs hxs
        refine ⟨h1, fun c w vals hw hr => Calls.mono (table_ok (Γ := Γ) h1 h2 hxs h hw hr) ?_⟩
        rintro e w' ⟨v, av, s', c', k1, k2, k3, k4, k5, k6, k7⟩
        exact ⟨v, av, s', c', k1, k2, k3, k4, k5, k6, fun _ => k7⟩
      · exact h.elim
    · rename_i hnone
      split at h
      · rename_i sp hsp
        obtain ⟨h1, h2⟩ := hb.fr f sp hsp
        refine ⟨h1, fun c w vals hw hr => Calls.mono (fresh_ok (Γ := Γ) h2 h hw hr) ?_⟩
        rintro e w' ⟨v, av, s', c', k1, k2, k3, k4, k5, k6, k7⟩
        exact ⟨v, av, s', c', k1, k2, k3, k4, k5, k6, fun _ => k7⟩
      rename_i hnone2
      split at h
      · rename_i g hg
        obtain ⟨h1, h2⟩ := hb.sp f g hg
        refine ⟨h1, fun c w vals hw hr => Calls.mono (h2 args s K h Γ c w vals hw hr) ?_⟩
        rintro e w' ⟨v, av, s', c', k1, k2, k3, k4, k5, k6⟩
        exact ⟨v, av, s', c', k1, k2, k3, k4, k5, k6, fun hq => by simp only [envX, quietF, hnone, hnone2] at hq; cases hq⟩
      split at h
      · rename_i i hi
        obtain ⟨fn, g1, g2, g3, g4, g5⟩ := hb.inl f args s i hi
        cases hlen : Nat.ble args.length i.N with
        | false => rw [hlen] at h; exact h.elim
        | true =>
          rw [hlen] at h
          simp only [cond_true] at h
          have hle : args.length ≤ i.N := Nat.le_of_ble_eq_true hlen
          refine ⟨⟨fn, i.c, g1, g2, g5⟩, fun c w vals hw hr => ?_⟩
          refine calls_of_wp (P := b.P) g1 g2 ?_
          rw [g4]
          have hR := R.enter (N := i.N) hw hr hle s.lock
          have hcode := code_ok (envX_ok hb n i.N Γ) (hb.eqv.envX n i.N) i.c i.h _ _ h c _ w (by rw [envX_N]; exact hR) (writes i.c) (fun _ h => h)
          rw [envX_P] at hcode
          have fin : ∀ s' c' a' w', (resX (envX b n i.N) s' i.rs fun a => match i.fz with
            | none => K a ⟨s.sl, s'.L, s.lock⟩
            | some t => (match takeD ⟨s.sl, s'.L, s.lock⟩ t a with
              | some (x, s'') => K (.d t x) s''
              | none => False)) → Adv ⟨args.zipIdx.map fun p => (p.2, p.1), s.L, s.lock⟩ c w s' c' w' → R Γ s' c' i.N a' w' →
              a'.defers = [] ∧ ∃ v, (results fn a'.tmps).run b.P w' = .ok v w' ∧ ∃ v' av s'' c'', Ending.returned v = .returned v' ∧ K av s'' ∧ s''.sl = s.sl ∧ Adv s c w s'' c'' w' ∧ RW Γ s''.L c'' w' ∧ RelAV s''.L c'' w' av v' ∧
                ((envX b (n + 1) N).q f = true → Ext w w') := by
            intro s' c' a' w' k1 k2 k3
            obtain ⟨av, v, k1, r1, r2⟩ := resX_run (fn := fn) k3 (by rw [g3]; exact k1)
            rw [envX_P] at r1
            have hq : (envX b (n + 1) N).q f = true → Ext w w' := fun hq => by simp only [envX, quietF, hnone, hnone2] at hq; cases hq
            split at k1
            · exact ⟨k3.defers, v, r1, v, av, _, c', rfl, k1, rfl, ⟨k2.step, rfl, k2.locked⟩, k3.rw_, r2, hq⟩
            · rename_i t ht
              split at k1
              · rename_i x s2 htk
                obtain ⟨c2, q1, q2, q3, q4⟩ := takeD_ok (P := b.P) (s := ⟨s.sl, s'.L, s.lock⟩) k3.rw_ r2 htk
                exact ⟨k3.defers, v, r1, v, .d t x, s2, c2, rfl, k1, q3, Adv.trans (s' := ⟨s.sl, s'.L, s.lock⟩) ⟨k2.step, rfl, k2.locked⟩ q2, q1, by simp only [RelAV]; exact q4, hq⟩
              · exact k1.elim
          refine hcode _ ⟨?_, ?_, ?_⟩
          · intro s' c' a' w' k1 k2 k3 _
            rw [envX_N] at k3
            exact fin s' c' a' w' k1 k2 k3
          · intro s' c' a' w' k1 k2 k3 _
            rw [envX_N] at k3
            exact fin s' c' a' w' k1 k2 k3
          · intro id s' c' a' w' k1 k2 k3 _
            exact k1.elim
      · exact h.elim

/-- Data as arguments. -/
def argsAV : (ts : List Ty) → Args.den ts → List AV
  | [], _ => []
  | t :: ts, x => .d t x.1 :: argsAV ts x.2

theorem argsAV_rel {L : List AObj} {c : Ctx} {w : World} : ∀ (ts : List Ty) (x : Args.den ts) (vs : List Value), ArgsRel c.S w ts x vs → RelAVs L c w (argsAV ts x) vs
  | [], x, vs, h => by simp only [ArgsRel] at h; simp only [argsAV, RelAVs]; exact h
  | t :: ts, x, vs, h => by
    obtain ⟨u, us, rfl, h1, h2⟩ := h
    simp only [argsAV, RelAVs, RelAV]
    exact ⟨u, us, rfl, h1, argsAV_rel ts x.2 us h2⟩

theorem argsAV_length : ∀ (ts : List Ty) (x : Args.den ts), (argsAV ts x).length = ts.length
  | [], _ => rfl
  | t :: ts, x => by simp [argsAV, argsAV_length ts x.2]

theorem toDatas_rel {Γ : Base} {L : List AObj} {c : Ctx} {w : World} (hw : RW Γ L c w) {S : BSet} (hS : ∀ b, b < w.heap.size ∧ (Γ.S0 b ∨ Γ.B ≤ b) → S b) : ∀ (ts : List Ty) (as : List AV) (vs : List Value) (x : Res.den ts),
    RelAVs L c w as vs → toDatas L ts as = some x → ResRels S w ts x vs
  | [], [], vs, x, hr, h => by simp only [RelAVs] at hr; exact hr
  | [], _ :: _, vs, x, hr, h => by simp [toDatas] at h
  | [_], [], vs, x, hr, h => by simp [toDatas] at h
  | [t], [a], vs, x, hr, h => by
    simp only [RelAVs] at hr
    obtain ⟨u, us, rfl, h1, rfl⟩ := hr
    simp only [toDatas] at h
    have hl : ∀ as, Lend L c true as S := fun as => ⟨fun b hb => hS b ⟨hw.sub b hb, hw.s0 b hb⟩, fun id av _ _ o ho b hb => hS b ⟨(hw.owns id o b ho hb).2.1, .inr (hw.owns id o b ho hb).1⟩, fun _ id o ho b hb => hS b ⟨(hw.owns id o b ho hb).2.1, .inr (hw.owns id o b ho hb).1⟩⟩
    exact ⟨u, rfl, toData_val hw (hl _) (hl _) h1 h⟩
  | [_], _ :: _ :: _, vs, x, hr, h => by simp [toDatas] at h
  | _ :: _ :: _, [], vs, x, hr, h => by simp [toDatas] at h
  | t :: u :: ts, a :: as, vs, x, hr, h => by
    simp only [RelAVs] at hr
    obtain ⟨v, us, rfl, h1, h2⟩ := hr
    simp only [toDatas] at h
    have hl : ∀ as, Lend L c true as S := fun as => ⟨fun b hb => hS b ⟨hw.sub b hb, hw.s0 b hb⟩, fun id av _ _ o ho b hb => hS b ⟨(hw.owns id o b ho hb).2.1, .inr (hw.owns id o b ho hb).1⟩, fun _ id o ho b hb => hS b ⟨(hw.owns id o b ho hb).2.1, .inr (hw.owns id o b ho hb).1⟩⟩
    split at h
    · rename_i y z hy hz
      cases h
      exact ⟨v, us, rfl, toData_val hw (hl _) (hl _) h1 hy, toDatas_rel hw hS (u :: ts) as us z h2 hz⟩
    · cases h

theorem resData_rel {Γ : Base} {L : List AObj} {c : Ctx} {w : World} (hw : RW Γ L c w) {S : BSet} (hS : ∀ b, b < w.heap.size ∧ (Γ.S0 b ∨ Γ.B ≤ b) → S b) {ts : List Ty} {av : AV} {v : Value} {x : Res.den ts}
    (hr : RelAV L c w av v) (h : resData L ts av = some x) : ResRel S w ts x v := by
  unfold resData at h
  split at h
  · rename_i t
    have hl : ∀ as, Lend L c true as S := fun as => ⟨fun b hb => hS b ⟨hw.sub b hb, hw.s0 b hb⟩, fun id av _ _ o ho b hb => hS b ⟨(hw.owns id o b ho hb).2.1, .inr (hw.owns id o b ho hb).1⟩, fun _ id o ho b hb => hS b ⟨(hw.owns id o b ho hb).2.1, .inr (hw.owns id o b ho hb).1⟩⟩
    exact ⟨[v], ⟨v, rfl, toData_val hw (hl _) (hl _) hr h⟩, rfl⟩
  · rename_i hne
    split at h
    · rename_i as
      simp only [RelAV] at hr
      obtain ⟨us, rfl, h1⟩ := hr
      have h2 := toDatas_rel hw hS ts as us.toList x h1 h
      refine ⟨us.toList, h2, ?_⟩
      have hl := ResRels.length h2
      split
      · rename_i u e
        rw [e] at hl
        match ts, hl with
        | [t], _ => exact absurd rfl (hne t)
      · simp
    · cases h

/-- A whole function. -/
theorem body_ok {b : Book} (hb : BookOk b) {n : Nat} {f : FuncId} {fn : Func} {cd : Code} {h : Hint} {ps rs : List Ty} {xs : Args.den ps} {Q : Res.den rs → Prop} (hf : b.P.funcs[f]? = some fn) (hc : fn.body = some cd) (hn : ps.length ≤ fn.ntmps)
    (hx : bodyX (envX b n fn.ntmps) fn.results.toList rs cd h (argsAV ps xs) Q) : Sound b.P f ps rs xs Q := by
  intro S w vals hS hr
  refine calls_of_wp hf hc ?_
  let Γ : Base := ⟨w.heap.size, w, S⟩
  let c : Ctx := ⟨fun _ => undef, S⟩
  have hw : RW Γ [] c w := ⟨Below.refl _ _, Nat.le_refl _, hS, fun b hb => .inl hb, fun id o h => by simp at h, fun id o b h => by simp at h, fun id id' o o' b h => by simp at h⟩
  have hR := R.enter (s := ⟨[], [], []⟩) (N := fn.ntmps) hw (argsAV_rel ps xs vals hr) (by rw [argsAV_length]; exact hn) []
  have hcode := code_ok (envX_ok hb n fn.ntmps Γ) (hb.eqv.envX n fn.ntmps) cd h _ _ hx c _ w (by rw [envX_N]; exact hR) (writes cd) (fun _ h => h)
  rw [envX_P] at hcode
  have fin : ∀ s' c' a' w', (resX (envX b n fn.ntmps) s' fn.results.toList fun a => (match resData s'.L rs a with | some r => Q r | none => False)) → R Γ s' c' fn.ntmps a' w' →
      a'.defers = [] ∧ ∃ v, (results fn a'.tmps).run b.P w' = .ok v w' ∧ ∃ v' r, Ending.returned v = .returned v' ∧ Q r ∧ Below w.heap.size w w' ∧ ResRel (fun b => b < w'.heap.size ∧ (S b ∨ w.heap.size ≤ b)) w' rs r v' := by
    intro s' c' a' w' k1 k3
    obtain ⟨av, v, k1, r1, r2⟩ := resX_run (fn := fn) k3 k1
    rw [envX_P] at r1
    split at k1
    · rename_i r hr'
      exact ⟨k3.defers, v, r1, v, r, rfl, k1, k3.rw_.below, resData_rel k3.rw_ (fun b hb => hb) r2 hr'⟩
    · exact k1.elim
  refine hcode _ ⟨?_, ?_, ?_⟩
  · intro s' c' a' w' k1 k2 k3 _
    rw [envX_N] at k3
    exact fin s' c' a' w' k1 k3
  · intro s' c' a' w' k1 k2 k3 _
    rw [envX_N] at k3
    exact fin s' c' a' w' k1 k3
  · intro id s' c' a' w' k1 k2 k3 _
    exact k1.elim

theorem freshData_rel {Γ : Base} {L : List AObj} {c : Ctx} {w : World} (hw : RW Γ L c w) {k : OK} (hk : k.fresh = true) {a : AV} {v : Value} {r : k.den} (hr : RelAV L c w a v) (h : freshData L k a = some r) :
    ObjRel [] c w v (k.inj r) ∧ ∀ b, Owns (k.inj r) v b → Γ.B ≤ b ∧ b < w.heap.size ∧ ¬ c.S b := by
  cases k with
  | row ver T e =>
    cases ver with
    | succ n => simp [OK.fresh] at hk
    | zero =>
      simp only [freshData] at h
      split at h
      · rename_i id ver e0
        split at h
        · rename_i cv T' e' xs hL
          cases hb : (Nat.beq ver cv && Nat.beq T T') with
          | false => rw [hb] at h; cases h
          | true =>
            rw [hb] at h
            simp only [Bool.and_eq_true] at hb
            have q1 := Nat.eq_of_beq_eq_true hb.1
            have q2 := Nat.eq_of_beq_eq_true hb.2
            subst q1; subst q2
            obtain ⟨rfl, rfl⟩ := castL_some h
            simp only [RelAV, RowAt, hL] at hr
            have hv := hr.2 trivial
            subst hv
            exact ⟨hw.objs id _ hL, fun b hb => hw.owns id _ b hL hb⟩
        · cases h
      · simp only [RelAV] at hr
        subst hr
        simp only [Option.some.injEq] at h
        subst h
        refine ⟨.inl ⟨rfl, rfl⟩, fun b hb => ?_⟩
        obtain ⟨n, cap, e⟩ := hb
        cases e
      · cases h
  | map kt vt =>
    simp only [freshData] at h
    split at h
    · rename_i id
      split at h
      · rename_i k' v' es hL
        unfold castE at h
        split at h
        · rename_i hkv
          obtain ⟨rfl, rfl⟩ := hkv
          simp only [Option.some.injEq] at h
          subst h
          simp only [RelAV] at hr
          have hv := hr.2
          subst hv
          exact ⟨hw.objs id _ hL, fun b hb => hw.owns id _ b hL hb⟩
        · cases h
      · cases h
    · cases h
  | cells ks => simp [OK.fresh] at hk
  | iter mid kt vt => simp [OK.fresh] at hk

/-- A whole function that hands back a new object. -/
theorem bodyF_ok {b : Book} (hb : BookOk b) {n : Nat} {f : FuncId} {fn : Func} {cd : Code} {h : Hint} {ps : List Ty} {k : OK} (hk : k.fresh = true) {xs : Args.den ps} {Q : k.den → Prop} (hf : b.P.funcs[f]? = some fn) (hc : fn.body = some cd) (hn : ps.length ≤ fn.ntmps)
    (hx : bodyF (envX b n fn.ntmps) fn.results.toList k cd h (argsAV ps xs) Q) : SoundF b.P f ps k xs Q := by
  intro S w vals hS hr
  refine calls_of_wp hf hc ?_
  let Γ : Base := ⟨w.heap.size, w, S⟩
  let c : Ctx := ⟨fun _ => undef, S⟩
  have hw : RW Γ [] c w := ⟨Below.refl _ _, Nat.le_refl _, hS, fun b hb => .inl hb, fun id o h => by simp at h, fun id o b h => by simp at h, fun id id' o o' b h => by simp at h⟩
  have hR := R.enter (s := ⟨[], [], []⟩) (N := fn.ntmps) hw (argsAV_rel ps xs vals hr) (by rw [argsAV_length]; exact hn) []
  have hcode := code_ok (envX_ok hb n fn.ntmps Γ) (hb.eqv.envX n fn.ntmps) cd h _ _ hx c _ w (by rw [envX_N]; exact hR) (writes cd) (fun _ h => h)
  rw [envX_P] at hcode
  have fin : ∀ s' c' a' w', (resX (envX b n fn.ntmps) s' fn.results.toList fun a => (match freshData s'.L k a with | some r => Q r | none => False)) → R Γ s' c' fn.ntmps a' w' →
      a'.defers = [] ∧ ∃ v, (results fn a'.tmps).run b.P w' = .ok v w' ∧ ∃ v' r cf, Ending.returned v = .returned v' ∧ Q r ∧ Below w.heap.size w w' ∧ ObjRel [] cf w' v' (k.inj r) ∧
        (∀ b, Owns (k.inj r) v' b → w.heap.size ≤ b ∧ b < w'.heap.size ∧ ¬ cf.S b) ∧ (∀ b, cf.S b → b < w'.heap.size ∧ (S b ∨ w.heap.size ≤ b)) := by
    intro s' c' a' w' k1 k3
    obtain ⟨av, v, k1, r1, r2⟩ := resX_run (fn := fn) k3 k1
    rw [envX_P] at r1
    split at k1
    · rename_i r hr'
      obtain ⟨g1, g2⟩ := freshData_rel k3.rw_ hk r2 hr'
      exact ⟨k3.defers, v, r1, v, r, c', rfl, k1, k3.rw_.below, g1, g2, fun b hb => ⟨k3.rw_.sub b hb, k3.rw_.s0 b hb⟩⟩
    · exact k1.elim
  refine hcode _ ⟨?_, ?_, ?_⟩
  · intro s' c' a' w' k1 k2 k3 _
    rw [envX_N] at k3
    exact fin s' c' a' w' k1 k3
  · intro s' c' a' w' k1 k2 k3 _
    rw [envX_N] at k3
    exact fin s' c' a' w' k1 k3
  · intro id s' c' a' w' k1 k2 k3 _
    exact k1.elim

theorem FreshOk.of {b : Book} (hb : BookOk b) {n : Nat} {f : FuncId} {fn : Func} {cd : Code} {h : Hint} {sp : FreshSpec} (hk : sp.k.fresh = true) (hf : b.P.funcs[f]? = some fn) (hc : fn.body = some cd) (hn : Nat.ble sp.ps.length fn.ntmps = true)
    (hx : ∀ xs Q, bodyF (envX b n fn.ntmps) fn.results.toList sp.k cd h (argsAV sp.ps xs) Q = sp.F xs Q) : FreshOk b.P f sp :=
  fun xs Q hF => bodyF_ok hb (n := n) (h := h) hk hf hc (Nat.le_of_ble_eq_true hn) (by rw [hx]; exact hF)

/-- A function whose code is this. -/
theorem FnOk.of {b : Book} (hb : BookOk b) {n : Nat} {f : FuncId} {fn : Func} {cd : Code} {h : Hint} {sp : FnSpec} (hf : b.P.funcs[f]? = some fn) (hc : fn.body = some cd) (hn : Nat.ble sp.ps.length fn.ntmps = true)
    (hx : ∀ xs Q, bodyX (envX b n fn.ntmps) fn.results.toList sp.rs cd h (argsAV sp.ps xs) Q = sp.F xs Q) : FnOk b.P f sp :=
  fun xs Q hF => body_ok hb (n := n) (h := h) hf hc (Nat.le_of_ble_eq_true hn) (by rw [hx]; exact hF)

/-- One that calls itself: what is shown of it is the least that its body asks. -/
theorem FnOk.lfp {P : Program} {f : FuncId} {ps rs : List Ty} {Body : (Args.den ps → (Res.den rs → Prop) → Prop) → Args.den ps → (Res.den rs → Prop) → Prop}
    (h : ∀ X, FnOk P f ⟨ps, rs, X⟩ → ∀ xs Q, Body X xs Q → Sound P f ps rs xs Q) : FnOk P f ⟨ps, rs, fun xs Q => ∀ X : Args.den ps → (Res.den rs → Prop) → Prop, (∀ xs Q, Body X xs Q → X xs Q) → X xs Q⟩ :=
  fun xs Q hF => hF (Sound P f ps rs) (fun xs Q hb => h _ (fun _ _ h => h) xs Q hb)

end Go.Proofs.Ytodjomdnlcledaa.X
