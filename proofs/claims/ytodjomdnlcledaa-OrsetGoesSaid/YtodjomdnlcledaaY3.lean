/- Operations, one by one: what the function of the walk says of them holds. -/
import Derived.Test.YtodjomdnlcledaaY2
import Derived.Laws.StructEq
import Derived.Laws.AppendOwn
import Derived.Laws.AppendOwnNone
import Derived.Laws.MakeOwn
import Derived.Laws.Small
import Derived.Laws.Slices
import Derived.Laws.Strings
import Derived.Deep.MidRow
namespace Go.Proofs.Ytodjomdnlcledaa.X
open Go Go.RowKit
set_option linter.unusedVariables false
set_option linter.unusedSimpArgs false

/-- A state stands for a frame and a world. -/
structure R (Γ : Base) (s : St) (c : Ctx) (N : Nat) (a : Act) (w : World) : Prop where
  rw_ : RW Γ s.L c w
  slots : ∀ t, RelAV s.L c w (lk s.sl t) (a.tmps.getD t undef)
  size : a.tmps.size = N
  defers : a.defers = []

structure Adv (s : St) (c : Ctx) (w : World) (s' : St) (c' : Ctx) (w' : World) : Prop where
  step : Step s.L c w s'.L c' w'
  lock : s'.lock = s.lock
  locked : ∀ id ∈ s.lock, ∀ o, s.L[id]? = some o → s'.L[id]? = some o ∧ c'.m id = c.m id ∧ ∀ b, Owns o (c.m id) b → w'.heap[b]? = w.heap[b]?

def Same (W : List Nat) (a a' : Act) : Prop := ∀ t, t ∉ W → a'.tmps.getD t undef = a.tmps.getD t undef

theorem Adv.refl (s : St) (c : Ctx) (w : World) : Adv s c w s c w := ⟨Step.refl _ _ _, rfl, fun _ _ o h => ⟨h, rfl, fun _ _ => rfl⟩⟩

theorem Adv.trans {s s' s'' : St} {c c' c'' : Ctx} {w w' w'' : World} (h : Adv s c w s' c' w') (k : Adv s' c' w' s'' c'' w'') : Adv s c w s'' c'' w'' := by
  refine ⟨h.step.trans k.step, k.lock.trans h.lock, fun id hid o ho => ?_⟩
  obtain ⟨h1, h2, h3⟩ := h.locked id hid o ho
  obtain ⟨k1, k2, k3⟩ := k.locked id (by rw [h.lock]; exact hid) o h1
  exact ⟨k1, k2.trans h2, fun b hb => (k3 b (by rw [h2]; exact hb)).trans (h3 b hb)⟩

theorem Adv.put {s s' : St} {c c' : Ctx} {w w' : World} (h : Adv s c w s' c' w') (t : Nat) (a : AV) : Adv s c w (s'.put t a) c' w' := ⟨h.step, h.lock, h.locked⟩

theorem Same.refl (W : List Nat) (a : Act) : Same W a a := fun _ _ => rfl

theorem lk_cons (sl : List (Nat × AV)) (u : Nat) (a : AV) (t : Nat) : lk ((u, a) :: sl) t = if u = t then a else lk sl t := by
  simp only [lk]
  cases h : Nat.beq u t with
  | true => rw [if_pos (Nat.eq_of_beq_eq_true h)]; rfl
  | false => rw [if_neg (Nat.ne_of_beq_eq_false h)]; rfl

section
variable {Γ : Base} {s : St} {c : Ctx} {N : Nat} {a : Act} {w : World}

theorem R.drew (h : R Γ s c N a w) : R Γ s c N a w.drew :=
  ⟨h.rw_.drew.1, fun t => RelAV_step h.rw_.drew.2 _ _ (h.slots t), h.size, h.defers⟩

theorem RelAVs_nil {L : List AObj} {c : Ctx} {w : World} : RelAVs L c w [] [] := by simp only [RelAVs]

theorem constAV_rel (L : List AObj) (c : Ctx) (w : World) (v : Value) : RelAV L c w (constAV v) v := by
  cases v <;> simp only [constAV, RelAV] <;> first
    | exact Ty.val_of_cell rfl rfl
    | rfl

theorem evalO_rel (h : R Γ s c N a w) (x : Operand) : RelAV s.L c w (evalO s x) (a.eval x) := by
  cases x with
  | tmp t => exact h.slots t
  | const v => exact constAV_rel _ _ _ v
  | global g => simp only [evalO, RelAV]
  | func f => simp only [evalO, RelAV, Act.eval]; exact ⟨#[], #[], rfl, RelAVs_nil, RelAVs_nil⟩

/-- All that was there is as it was. -/
def Ext (w w' : World) : Prop := ∀ b, b < w.heap.size → w'.heap[b]? = w.heap[b]?

theorem Ext.refl (w : World) : Ext w w := fun _ _ => rfl

/-- The end of an operation that hands back a value. -/
theorem put_done {E : Env} {o : Oper} {K : St → Prop} {s1 : St} {c1 : Ctx} {w1 : World} {av : AV} {v : Value} {next : Act → World → Prop} {W : List Nat}
    (hR : R Γ s c E.N a w) (hK : putX E o.dst K av s1) (hadv : Adv s c w s1 c1 w1) (hs : s1.sl = s.sl) (hw : RW Γ s1.L c1 w1) (hv : RelAV s1.L c1 w1 av v)
    (hW : ∀ d, o.dst = some d → d ∈ W) (hq : quietOp E o.op = true → Ext w w1)
    (hn : ∀ s' c' a' w', K s' → Adv s c w s' c' w' → R Γ s' c' E.N a' w' → Same W a a' → (quietOp E o.op = true → Ext w w') → next a' w') : next (a.put o.dst v) w1 := by
  unfold putX at hK
  cases hd : o.dst with
  | none =>
    rw [hd] at hK
    refine hn s1 c1 _ w1 hK hadv ⟨hw, fun t => ?_, hR.size, hR.defers⟩ (Same.refl _ _) hq
    rw [hs]; exact RelAV_step hadv.step _ _ (hR.slots t)
  | some d =>
    rw [hd] at hK
    simp only at hK
    cases hb : Nat.blt d E.N with
    | false => rw [hb] at hK; exact hK.elim
    | true =>
      rw [hb] at hK
      have hlt : d < a.tmps.size := by rw [hR.size]; simpa [Nat.blt_eq] using hb
      refine hn (s1.put d av) c1 _ w1 hK (hadv.put d av) ⟨hw, fun t => ?_, by simp [Act.put, hR.size], hR.defers⟩ (fun t ht => ?_) hq
      · simp only [St.put, lk_cons, Act.put]
        split
        · rename_i e; subst e
          simp [Array.getD, hlt]
          exact hv
        · rename_i hne
          have e : (a.tmps.setIfInBounds d v).getD t undef = a.tmps.getD t undef := by
            simp [Array.getElem?_setIfInBounds_ne hne]
          rw [e, hs]
          exact RelAV_step hadv.step _ _ (hR.slots t)
      · have hne : d ≠ t := fun e => ht (e ▸ hW d hd)
        simp [Act.put, Array.getElem?_setIfInBounds_ne hne]

/-- What an operation comes to. -/
def OpOk (E : Env) (Γ : Base) (o : Oper) (s : St) (c : Ctx) (a : Act) (w : World) (K : St → Prop) : Prop :=
  ∀ (W : List Nat) (next : Act → World → Prop) (Q : Exit → Act → World → Prop), (∀ d, o.dst = some d → d ∈ W) →
    (∀ s' c' a' w', K s' → Adv s c w s' c' w' → R Γ s' c' E.N a' w' → Same W a a' → (quietOp E o.op = true → Ext w w') → next a' w') → o.wp E.P a w next Q

/-- An operation that hands back one value in every world that has all that is here. -/
def PlainOk (E : Env) (o : Oper) (s : St) (c : Ctx) (a : Act) (w : World) (K : St → Prop) : Prop :=
  ∃ av v, putX E o.dst K av s ∧ RelAV s.L c w av v ∧ ∀ w', Ext w w' → (execOp a.eval o).run E.P w' = .ok (.value v) w'

theorem PlainOk.ok {E : Env} {o : Oper} {K : St → Prop} (h : PlainOk E o s c a w K) (hR : R Γ s c E.N a w) : OpOk E Γ o s c a w K := by
  obtain ⟨av, v, hK, hv, hr⟩ := h
  intro W next Q hW hn
  unfold Oper.wp
  rw [hr w (Ext.refl w)]
  exact put_done hR hK (Adv.refl s c w) rfl hR.rw_ hv hW (fun _ => Ext.refl w) hn

theorem OpOk.value {E : Env} {o : Oper} {K : St → Prop} {av : AV} {v : Value} (hR : R Γ s c E.N a w) (hK : putX E o.dst K av s)
    (hr : ∀ w', Ext w w' → (execOp a.eval o).run E.P w' = .ok (.value v) w') (hv : RelAV s.L c w av v) : PlainOk E o s c a w K := ⟨av, v, hK, hv, hr⟩

theorem OpOk.step {E : Env} {o : Oper} {K : St → Prop} {s1 : St} {c1 : Ctx} {w1 : World} {av : AV} {v : Value} (hR : R Γ s c E.N a w) (hK : putX E o.dst K av s1)
    (hadv : Adv s c w s1 c1 w1) (hs : s1.sl = s.sl) (hw : RW Γ s1.L c1 w1)
    (hr : (execOp a.eval o).run E.P w = .ok (.value v) w1) (hv : RelAV s1.L c1 w1 av v) (hq : quietOp E o.op = true → Ext w w1) : OpOk E Γ o s c a w K := by
  intro W next Q hW hn
  unfold Oper.wp
  rw [hr]
  exact put_done hR hK hadv hs hw hv hW hq hn

/-- A new object. -/
theorem Adv.add {o' : AObj} {v' : Value} {w' : World} (h : Step s.L c w (s.L ++ [o']) (c.set s.L.length v') w') (hR : RW Γ s.L c w) (hh : ∀ b, b < w.heap.size → w'.heap[b]? = w.heap[b]?) :
    Adv s c w (s.addL o') (c.set s.L.length v') w' := by
  refine ⟨h, rfl, fun id _ o ho => ?_⟩
  have hid : id < s.L.length := (List.getElem?_eq_some_iff.1 ho).1
  exact ⟨by show (s.L ++ [o'])[id]? = some o; rw [List.getElem?_append_left hid]; exact ho, Ctx.set_other _ _ (by omega), fun b hb => hh b (hR.owns id o b ho hb).2.1⟩

theorem lockedB_false {id : Nat} (h : lockedB s id = false) : id ∉ s.lock := by
  intro hm
  unfold lockedB at h
  have : s.lock.any (Nat.beq id) = true := List.any_eq_true.2 ⟨id, hm, by simp⟩
  rw [h] at this; cases this

/-- An object changes. -/
theorem Adv.chg {id : Nat} {o o' : AObj} {v' : Value} {w' : World} (h : Step s.L c w (s.L.set id o') (c.set id v') w') (hR : RW Γ s.L c w) (ho : s.L[id]? = some o) (hl : id ∉ s.lock)
    (hh : ∀ b, b < w.heap.size → ¬ Owns o (c.m id) b → w'.heap[b]? = w.heap[b]?) : Adv s c w (s.setL id o') (c.set id v') w' := by
  refine ⟨h, rfl, fun i hi p hp => ?_⟩
  have hne : i ≠ id := fun e => hl (e ▸ hi)
  exact ⟨by show (s.L.set id o')[i]? = some p; rw [List.getElem?_set_ne (Ne.symm hne)]; exact hp, Ctx.set_other _ _ hne, fun b hb => hh b (hR.owns i p b hp hb).2.1 (fun k => hne (hR.apart i id p o b hp ho hb k))⟩

/-! ### Numbers, texts, bools -/
theorem val_int {S : BSet} {w : World} {k : IntKind} {x : Int} {v : Value} (h : (Ty.int k).val S w x v) : v = .int k x := Ty.val_one (t := .int k) rfl h
theorem val_bool {S : BSet} {w : World} {x : Bool} {v : Value} (h : Ty.bool.val S w x v) : v = .bool x := Ty.val_one (t := .bool) rfl h
theorem val_str {S : BSet} {w : World} {x : ByteArray} {v : Value} (h : Ty.str.val S w x v) : v = .string x := Ty.val_one (t := .str) rfl h
theorem int_val (S : BSet) (w : World) (k : IntKind) (x : Int) : (Ty.int k).val S w x (.int k x) := Ty.val_of_cell (t := .int k) rfl rfl
theorem bool_val (S : BSet) (w : World) (x : Bool) : Ty.bool.val S w x (.bool x) := Ty.val_of_cell (t := .bool) rfl rfl
theorem str_val (S : BSet) (w : World) (x : ByteArray) : Ty.str.val S w x (.string x) := Ty.val_of_cell (t := .str) rfl rfl
theorem rel_int {L : List AObj} {c : Ctx} {w : World} (k : IntKind) (x : Int) : RelAV L c w (.d (.int k) x) (.int k x) := by simp only [RelAV]; exact int_val _ _ k x
theorem rel_bool {L : List AObj} {c : Ctx} {w : World} (x : Bool) : RelAV L c w (.d .bool x) (.bool x) := by simp only [RelAV]; exact bool_val _ _ x
theorem rel_str {L : List AObj} {c : Ctx} {w : World} (x : ByteArray) : RelAV L c w (.d .str x) (.string x) := by simp only [RelAV]; exact str_val _ _ x

theorem eqGuard_scalar {P : Program} (op : BinOp) (t : TypeId) (x y : Operand) (u v : Value) (w : World) (h : aggB u = false) (h' : u ≠ .nilIface) : (eqGuard op t x y u v).run P w = .ok () w := by
  unfold eqGuard
  cases op <;> simp <;> cases u <;> simp_all [aggB]

/-- A sound book of calls. -/
def HOk (Γ : Base) (E : Env) : Prop := ∀ (f : FuncId) (args : List AV) (s : St) (K : AV → St → Prop), E.H f args s K →
  ((∃ fn cd, E.P.funcs[f]? = some fn ∧ fn.body = some cd ∧ (fn.name == "runtime.NumGoroutine") = false)) ∧
  ∀ (c : Ctx) (w : World) (vals : List Value), RW Γ s.L c w → RelAVs s.L c w args vals →
    Calls E.P f vals.toArray w (fun e w' => ∃ v av s' c', e = .returned v ∧ K av s' ∧ s'.sl = s.sl ∧ Adv s c w s' c' w' ∧ RW Γ s'.L c' w' ∧ RelAV s'.L c' w' av v ∧ (E.q f = true → Ext w w'))

theorem op_nil {E : Env} {o : Oper} {K : St → Prop} (ho : o.op = .move (.const (.slice none 0 0)) ∨ o.op = .assign (.const (.slice none 0 0))) (hR : R Γ s c E.N a w) (h : opX E o s K) : OpOk E Γ o s c a w K := by
  have hr : (execOp a.eval o).run E.P w = .ok (.value (.slice none 0 0)) w := by
    unfold execOp; rcases ho with ho | ho <;> rw [ho] <;> rfl
  have key : (match sliceDOf E.P E.ty o.type with
      | some (T, e) => putX E o.dst K (.own s.L.length 0 e) (s.addL (.row 0 T e []))
      | none => False) := by
    unfold opX at h; rcases ho with ho | ho <;> rw [ho] at h <;> exact h
  split at key
  · rename_i T e hs
    obtain ⟨h1, h2⟩ := hR.rw_.add (o' := .row 0 T e []) (v' := .slice none 0 0) (Alike.refl w) (fun _ _ => rfl)
      (fun b hb => by obtain ⟨n, cap, hh⟩ := hb; cases hh) (fun _ => .inl ⟨rfl, rfl⟩)
    refine OpOk.step hR key (Adv.add h2 hR.rw_ (fun _ _ => rfl)) rfl h1 hr ?_ (fun _ => Ext.refl w)
    simp only [RelAV, RowAt, St.addL]
    simp [Ctx.set]
  · exact key.elim

theorem op_move {E : Env} {o : Oper} {K : St → Prop} {x : Operand} (hx : ∀ T, x ≠ .const T ∨ T ≠ .slice none 0 0) (ho : o.op = .move x ∨ o.op = .assign x) (hR : R Γ s c E.N a w) (h : opX E o s K) : PlainOk E o s c a w K := by
  have key : putX E o.dst K (evalO s x) s := by
    unfold opX at h
    rcases ho with ho | ho <;> rw [ho] at h <;> simp only at h <;> split at h <;> first
      | exact h
      | exact absurd rfl ((hx (.slice none 0 0)).resolve_right (fun e => e rfl))
  refine OpOk.value hR key (fun w' _ => ?_) (evalO_rel hR x)
  unfold execOp; rcases ho with ho | ho <;> rw [ho] <;> rfl

theorem op_pick {E : Env} {o : Oper} {K : St → Prop} {x y z : Operand} (ho : o.op = .pick x y z) (hR : R Γ s c E.N a w) (h : opX E o s K) : PlainOk E o s c a w K := by
  have hx := evalO_rel hR x
  unfold opX at h; rw [ho] at h; simp only at h
  split at h
  · rename_i b he
    rw [he] at hx
    simp only [RelAV] at hx
    have hv := val_bool hx
    cases b with
    | true =>
      refine OpOk.value hR h (fun w' _ => ?_) (evalO_rel hR y)
      unfold execOp; rw [ho]; simp [hv, asBool]
    | false =>
      refine OpOk.value hR h (fun w' _ => ?_) (evalO_rel hR z)
      unfold execOp; rw [ho]; simp [hv, asBool]
  · exact h.elim

theorem op_un {E : Env} {o : Oper} {K : St → Prop} {op : UnOp} {t : TypeId} {x : Operand} (ho : o.op = .unOp op t x) (hR : R Γ s c E.N a w) (h : opX E o s K) : PlainOk E o s c a w K := by
  have hx := evalO_rel hR x
  unfold opX at h; rw [ho] at h; simp only at h
  split at h
  · rename_i b he
    rw [he] at hx
    simp only [RelAV] at hx
    have hv := val_bool hx
    refine OpOk.value hR h (fun w' _ => ?_) (rel_bool _)
    unfold execOp; rw [ho]; simp [hv, Op.unary]
  · rename_i k n he
    rw [he] at hx
    simp only [RelAV] at hx
    have hv := val_int hx
    refine OpOk.value hR h (fun w' _ => ?_) (rel_int _ _)
    unfold execOp; rw [ho]; simp [hv, Op.unary, Op.intArith]
  · exact h.elim

theorem op_convert {E : Env} {o : Oper} {K : St → Prop} {src dst : TypeId} {x : Operand} (ho : o.op = .convert src dst x) (hR : R Γ s c E.N a w) (h : opX E o s K) : PlainOk E o s c a w K := by
  have hx := evalO_rel hR x
  unfold opX at h; rw [ho] at h; simp only at h
  split at h
  · rename_i k k' k'' n h1 h2 he
    rw [he] at hx
    simp only [RelAV] at hx
    have hv := val_int hx
    refine OpOk.value hR h (fun w' _ => ?_) (rel_int _ _)
    unfold execOp; rw [ho]; simp [hv, convert, run_underlying h1, run_underlying h2, Conv.intToInt]
  · rename_i y h1 h2 he
    rw [he] at hx
    simp only [RelAV] at hx
    have hv := val_str hx
    refine OpOk.value hR h (fun w' _ => ?_) (rel_str _)
    unfold execOp; rw [ho]; simp [hv, convert, run_underlying h1, run_underlying h2]
  · exact h.elim

theorem tupAt_rel {L : List AObj} {c : Ctx} {w : World} : ∀ {as : List AV} {vs : List Value} {i : Nat} {x : AV}, RelAVs L c w as vs → tupAt as i = some x → ∃ v, vs[i]? = some v ∧ RelAV L c w x v
  | [], vs, i, x, h, ht => by simp [tupAt] at ht
  | a :: as, vs, 0, x, h, ht => by
    simp only [RelAVs] at h
    obtain ⟨u, us, rfl, h1, _⟩ := h
    simp only [tupAt, Option.some.injEq] at ht
    subst ht
    exact ⟨u, rfl, h1⟩
  | a :: as, vs, i + 1, x, h, ht => by
    simp only [RelAVs] at h
    obtain ⟨u, us, rfl, _, h2⟩ := h
    simp only [tupAt] at ht
    obtain ⟨v, k1, k2⟩ := tupAt_rel h2 ht
    exact ⟨v, by simpa using k1, k2⟩

theorem op_extract {E : Env} {o : Oper} {K : St → Prop} {x : Operand} {i : Nat} (ho : o.op = .extract x i) (hR : R Γ s c E.N a w) (h : opX E o s K) : PlainOk E o s c a w K := by
  have hx := evalO_rel hR x
  unfold opX at h; rw [ho] at h; simp only at h
  split at h
  · rename_i as he
    rw [he] at hx
    simp only [RelAV] at hx
    obtain ⟨us, hv, hrel⟩ := hx
    split at h
    · rename_i y hy
      obtain ⟨v, k1, k2⟩ := tupAt_rel hrel hy
      refine OpOk.value hR h (fun w' _ => ?_) k2
      unfold execOp; rw [ho]; simp only [hv, Instr.extract]
      have : us[i]? = some v := by simpa using k1
      rw [this]; rfl
    · exact h.elim
  · exact h.elim

theorem op_makeFunc {E : Env} {o : Oper} {K : St → Prop} {f : Fn} {fs cs : Array Operand} (ho : o.op = .makeFunc f fs cs) (hR : R Γ s c E.N a w) (h : opX E o s K) : PlainOk E o s c a w K := by
  unfold opX at h; rw [ho] at h; simp only at h
  have rels : ∀ (l : List Operand), RelAVs s.L c w (l.map (evalO s)) (l.map a.eval) := by
    intro l
    induction l with
    | nil => simp only [List.map_nil, RelAVs]
    | cons x l ih => simp only [List.map_cons, RelAVs]; exact ⟨_, _, rfl, evalO_rel hR x, ih⟩
  split at h
  · rename_i g
    refine OpOk.value hR h (v := .func (.func g) (fs.map a.eval) (cs.map a.eval)) (fun w' _ => ?_) ?_
    · unfold execOp; rw [ho]; rfl
    · simp only [RelAV]
      exact ⟨_, _, rfl, by simpa using rels fs.toList, by simpa using rels cs.toList⟩
  · exact h.elim
end

end Go.Proofs.Ytodjomdnlcledaa.X
