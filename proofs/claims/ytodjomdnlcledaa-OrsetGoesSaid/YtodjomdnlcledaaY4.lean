/- Operations of two operands. -/
import Derived.Test.YtodjomdnlcledaaY3
namespace Go.Proofs.Ytodjomdnlcledaa.X
open Go Go.RowKit
set_option linter.unusedSimpArgs false
set_option linter.unusedVariables false

/-- Structs of a type are held against each other as data are. -/
def EqvOk (E : Env) : Prop := ∀ (t : TypeId) (u : Ty), E.eqv t u = true → ∀ (S : BSet) (w : World) (x y : u.den) (vx vy : Value), u.val S w x vx → u.val S w y vy →
  (∀ e, (Instr.checkKey e 10000 t vx).run E.P w = .ok () w) ∧ (Op.equal t vx vy).run E.P w = .ok (eqD u x y) w ∧ ∀ (ox oy : Operand),
  (eqGuard .eql t ox oy vx vy).run E.P w = .ok () w ∧ (eqGuard .neq t ox oy vx vy).run E.P w = .ok () w ∧
  (binOp .eql t vx vy).run E.P w = .ok (.bool (eqD u x y)) w ∧ (binOp .neq t vx vy).run E.P w = .ok (.bool (!(eqD u x y))) w

section
variable {Γ : Base} {s : St} {c : Ctx} {N : Nat} {a : Act} {w : World}

theorem beq_toList (x y : ByteArray) : (x.toList == y.toList) = (x == y) := (beq_toListBytes x y).symm

theorem toDataNil_val {L : List AObj} (hw : RW Γ L c w) {t : Ty} {a : AV} {x : t.den} {v : Value} (ha : RelAV L c w a v) (h : toData [] false t a = some x) : t.val c.S w x v := by
  have key : toData L false t a = some x ∧ Lend L c false a.parts c.S ∧ Lend L c false [a] c.S := by
    have l1 : ∀ as : List AV, (∀ av ∈ as, AV.rowId av = none) → Lend L c false as c.S := fun as hn => ⟨fun _ h => h, fun id av hm he => by (rw [hn av hm] at he; exact absurd he (by simp)), fun h => by cases h⟩
    have one : ∀ a : AV, (∀ t' y, a ≠ .d t' y) → (∀ cs, a ≠ .agg cs) → toData [] false t a = some x → toData L false t a = some x ∧ a.rowId = none := by
      intro a h1 h2 h
      have e : ∀ L, toData L false t a = (bif t.isAgg then none else (match unleaf L false t [a] with | some (x, []) => some x | _ => none)) := by
        intro L; cases a <;> first | exact absurd rfl (h1 _ _) | exact absurd rfl (h2 _) | rfl
      rw [e] at h; rw [e]
      cases ht : t.isAgg with
      | true => rw [ht] at h; cases h
      | false =>
        rw [ht] at h
        simp only [cond_false] at h ⊢
        split at h
        · rename_i y hy
          obtain ⟨k1, p, k2, k3⟩ := unleaf_nil (L := L) t [a] y [] hy
          rw [k1]
          simp only [Option.some.injEq] at h
          subst h
          exact ⟨rfl, k3 a (by rw [List.append_nil] at k2; rw [← k2]; simp)⟩
        · cases h
    by_cases hd : ∃ t' y, a = .d t' y
    · obtain ⟨t', y, rfl⟩ := hd
      refine ⟨h, ⟨fun _ h => h, fun id av hm he => ?_, fun h => by cases h⟩, ⟨fun _ h => h, fun id av hm he => by (rw [List.mem_singleton.1 hm] at he; exact absurd he (by simp [AV.rowId])), fun h => by cases h⟩⟩
      exfalso
      have : ∀ (t : Ty) (x : t.den), ∀ av ∈ leaves t x, AV.rowId av = none := by
        intro t
        induction t with
        | pair a b iha ihb => intro x av hm; simp only [leaves, List.mem_append] at hm; rcases hm with hm | hm; exact iha _ _ hm; exact ihb _ _ hm
        | unit => intro x av hm; simp [leaves] at hm
        | _ => intro x av hm; simp [leaves] at hm; rw [hm]; rfl
      rw [this _ _ _ hm] at he; cases he
    · by_cases hg : ∃ cs, a = .agg cs
      · obtain ⟨cs, rfl⟩ := hg
        simp only [toData] at h ⊢
        cases ht : t.isAgg with
        | false => rw [ht] at h; cases h
        | true =>
          rw [ht] at h
          simp only [cond_true] at h ⊢
          split at h
          · rename_i y hy
            obtain ⟨k1, p, k2, k3⟩ := unleaf_nil (L := L) t cs y [] hy
            rw [k1]
            refine ⟨h, l1 _ (by rw [List.append_nil] at k2; simp only [AV.parts]; rw [k2]; exact k3), l1 _ (by simp [AV.rowId])⟩
          · cases h
      · obtain ⟨k1, k2⟩ := one a (fun t' y e => hd ⟨t', y, e⟩) (fun cs e => hg ⟨cs, e⟩) h
        have k3 : Lend L c false [a] c.S := l1 _ (fun av hm => by rw [List.mem_singleton.1 hm]; exact k2)
        refine ⟨k1, ?_, k3⟩
        have : a.parts = [a] := by cases a <;> first | rfl | exact absurd ⟨_, _, rfl⟩ hd | exact absurd ⟨_, rfl⟩ hg
        rw [this]; exact k3
  exact toData_val hw key.2.1 key.2.2 ha key.1

theorem run_neq_boolX {P : Program} (w : World) {t : TypeId} {p q : Bool} (h : P.underlying t = some .bool) : (binOp .neq t (.bool p) (.bool q)).run P w = .ok (.bool (!(p == q))) w := by
  have e : ∀ d : Nat, (Op.equalIn (d + 1) t (.bool p) (.bool q)).run P w = .ok (p == q) w := fun d => run_equalIn_bool' w d t p q h
  simp only [binOp]
  simp [Op.equal, Op.maxDepth, e 9999]
theorem run_eql_ptrX {P : Program} (w : World) {t e : TypeId} {p : Option Addr} (h : P.underlying t = some (.pointer e)) : (binOp .eql t (.pointer p) (.pointer none)).run P w = .ok (.bool p.isNone) w := by
  have e : ∀ d : Nat, (Op.equalIn (d + 1) t (.pointer p) (.pointer none)).run P w = .ok p.isNone w := fun d => by cases p <;> simp [Op.equalIn, run_underlying h]
  simp only [binOp]
  simp [Op.equal, Op.maxDepth, e 9999]
theorem run_neq_ptrX {P : Program} (w : World) {t e : TypeId} {p : Option Addr} (h : P.underlying t = some (.pointer e)) : (binOp .neq t (.pointer p) (.pointer none)).run P w = .ok (.bool (!p.isNone)) w := by
  have e : ∀ d : Nat, (Op.equalIn (d + 1) t (.pointer p) (.pointer none)).run P w = .ok p.isNone w := fun d => by cases p <;> simp [Op.equalIn, run_underlying h]
  simp only [binOp]
  simp [Op.equal, Op.maxDepth, e 9999]
theorem run_eql_sliceX {P : Program} (w : World) {t e : TypeId} {p : Option Addr} {n c : Nat} (h : P.underlying t = some (.slice e)) : (binOp .eql t (.slice p n c) (.slice none 0 0)).run P w = .ok (.bool p.isNone) w := by
  have e : ∀ d : Nat, (Op.equalIn (d + 1) t (.slice p n c) (.slice none 0 0)).run P w = .ok p.isNone w := fun d => by cases p <;> simp [Op.equalIn, run_underlying h]
  simp only [binOp]
  simp [Op.equal, Op.maxDepth, e 9999]
theorem run_neq_sliceX {P : Program} (w : World) {t e : TypeId} {p : Option Addr} {n c : Nat} (h : P.underlying t = some (.slice e)) : (binOp .neq t (.slice p n c) (.slice none 0 0)).run P w = .ok (.bool (!p.isNone)) w := by
  have e : ∀ d : Nat, (Op.equalIn (d + 1) t (.slice p n c) (.slice none 0 0)).run P w = .ok p.isNone w := fun d => by cases p <;> simp [Op.equalIn, run_underlying h]
  simp only [binOp]
  simp [Op.equal, Op.maxDepth, e 9999]

theorem op_bin {E : Env} {o : Oper} {K : St → Prop} {op : BinOp} {t u : TypeId} {x y : Operand} (he : EqvOk E) (ho : o.op = .binOp op t x y u) (hR : R Γ s c E.N a w) (h : opX E o s K) : PlainOk E o s c a w K := by
  have hx := evalO_rel hR x
  have hy := evalO_rel hR y
  unfold opX at h; rw [ho] at h; simp only at h
  have hex : ∀ w, (execOp a.eval o).run E.P w = (((eqGuard op t x y (a.eval x) (a.eval y)).run E.P w).andThen fun _ w => (binOp op t (a.eval x) (a.eval y)).run E.P w).andThen fun v w => .ok (.value v) w := by
    intro w; unfold execOp; rw [ho]; simp only [Sem.run_bind]; rfl
  unfold binX at h
  split at h
  · -- numbers
    rename_i k n k' m e1 e2
    rw [e1] at hx; rw [e2] at hy
    simp only [RelAV] at hx hy
    have hv := val_int hx
    have hu := val_int hy
    cases hk : decide (k = k') with
    | false => rw [hk] at h; exact h.elim
    | true =>
      rw [hk] at h
      have : k = k' := of_decide_eq_true hk
      subst this
      simp only [cond_true] at h
      have hg := fun w => eqGuard_scalar (P := E.P) op t x y (.int k n) (.int k m) w rfl (by simp)
      rw [hv, hu] at hex; simp only [hg] at hex
      simp only [Result.andThen_ok] at hex
      cases op <;> simp only at h <;> first
        | exact h.elim
        | (refine OpOk.value hR h (fun w' _ => ?_) (rel_int _ _); rw [hex]; simp [binOp, Op.intArith]; done)
        | (refine OpOk.value hR h (fun w' _ => ?_) (rel_bool _); rw [hex]; simp [binOp, Op.intCmp]; done)
        | (obtain ⟨h0, h⟩ := h; refine OpOk.value hR h (fun w' _ => ?_) (rel_int _ _); rw [hex]; simp [binOp, Op.intDiv, h0]; done)
  · rename_i p q e1 e2
    rw [e1] at hx; rw [e2] at hy
    simp only [RelAV] at hx hy
    have hv := val_str hx
    have hu := val_str hy
    have hg := fun w => eqGuard_scalar (P := E.P) op t x y (.string p) (.string q) w rfl (by simp)
    rw [hv, hu] at hex; simp only [hg] at hex
    simp only [Result.andThen_ok] at hex
    cases op <;> simp only at h <;> first
      | exact h.elim
      | (refine OpOk.value hR h (fun w' _ => ?_) (rel_bool _); rw [hex]; simp [binOp, Op.stringOp, beq_toList, sLess]; done)
  · rename_i p q e1 e2
    rw [e1] at hx; rw [e2] at hy
    simp only [RelAV] at hx hy
    have hv := val_bool hx
    have hu := val_bool hy
    have hg := fun w => eqGuard_scalar (P := E.P) op t x y (.bool p) (.bool q) w rfl (by simp)
    rw [hv, hu] at hex; simp only [hg] at hex
    simp only [Result.andThen_ok] at hex
    split at h
    · rename_i hb; refine OpOk.value hR h (fun w' _ => ?_) (rel_bool _); rw [hex, run_eql_bool w' t p q hb]; rfl
    · rename_i hb; refine OpOk.value hR h (fun w' _ => ?_) (rel_bool _); rw [hex, run_neq_boolX w' hb]; rfl
    · exact h.elim
  · rename_i t0 o' e1 e2
    rw [e1] at hx; rw [e2] at hy
    simp only [RelAV] at hx hy
    have hv := Ty.val_one (t := .ref t0) rfl hx
    obtain ⟨p, hp, hpn⟩ : ∃ p : Option Addr, a.eval x = .pointer p ∧ p.isNone = Option.isNone o' := by
      cases o' with
      | none => exact ⟨none, hv, rfl⟩
      | some z => obtain ⟨b, o1, h1, _⟩ := hv; exact ⟨some ⟨b, o1, none⟩, h1, rfl⟩
    have hg := fun w => eqGuard_scalar (P := E.P) op t x y (.pointer p) (.pointer none) w rfl (by simp)
    rw [hp, hy] at hex; simp only [hg] at hex
    simp only [Result.andThen_ok] at hex
    split at h
    · rename_i hb; refine OpOk.value hR h (fun w' _ => ?_) (rel_bool _); rw [hex, run_eql_ptrX w' hb, hpn]; rfl
    · rename_i hb; refine OpOk.value hR h (fun w' _ => ?_) (rel_bool _); rw [hex, run_neq_ptrX w' hb, hpn]; rfl
    · exact h.elim
  · rename_i e0 xs e1 e2
    rw [e1] at hx; rw [e2] at hy
    simp only [RelAV] at hx hy
    obtain ⟨p, cap, hv, hcap, hnil, hc⟩ := Ty.val_one (t := .slice e0) rfl hx
    have hg := fun w => eqGuard_scalar (P := E.P) op t x y (.slice p xs.length cap) (.slice none 0 0) w rfl (by simp)
    rw [hv, hy] at hex; simp only [hg] at hex
    simp only [Result.andThen_ok] at hex
    have hpx : p.isNone = true → xs = [] := by
      intro hp
      cases p with
      | none => have h0 := hnil rfl; rw [h0] at hcap; exact List.eq_nil_of_length_eq_zero (by omega)
      | some _ => cases hp
    split at h
    · rename_i hb; refine OpOk.value hR (h p.isNone hpx) (fun w' _ => ?_) (rel_bool _); rw [hex, run_eql_sliceX w' hb]; rfl
    · rename_i hb; refine OpOk.value hR (h p.isNone hpx) (fun w' _ => ?_) (rel_bool _); rw [hex, run_neq_sliceX w' hb]; rfl
    · exact h.elim
  · rename_i e1 e2
    rw [e1] at hx; rw [e2] at hy
    simp only [RelAV] at hx hy
    have hg := fun w => eqGuard_scalar (P := E.P) op t x y (.slice none 0 0) (.slice none 0 0) w rfl (by simp)
    rw [hx, hy] at hex; simp only [hg] at hex
    simp only [Result.andThen_ok] at hex
    split at h
    · rename_i hb; refine OpOk.value hR h (fun w' _ => ?_) (rel_bool _); rw [hex, run_eql_sliceX w' hb]; rfl
    · rename_i hb; refine OpOk.value hR h (fun w' _ => ?_) (rel_bool _); rw [hex, run_neq_sliceX w' hb]; rfl
    · exact h.elim
  · rename_i id off e1 e2
    rw [e1] at hx; rw [e2] at hy
    simp only [RelAV] at hx hy
    obtain ⟨_, b, _, hv⟩ := hx
    have hg := fun w => eqGuard_scalar (P := E.P) op t x y (.pointer (some ⟨b, off, none⟩)) (.pointer none) w rfl (by simp)
    rw [hv, hy] at hex; simp only [hg] at hex
    simp only [Result.andThen_ok] at hex
    split at h
    · rename_i hb; refine OpOk.value hR h (fun w' _ => ?_) (rel_bool _); rw [hex, run_eql_ptrX w' hb]; rfl
    · rename_i hb; refine OpOk.value hR h (fun w' _ => ?_) (rel_bool _); rw [hex, run_neq_ptrX w' hb]; rfl
    · exact h.elim
  · rename_i e1 e2
    split at h
    · rename_i d hd
      cases hb : (d.isAgg && E.eqv t d) with
      | false => rw [hb] at h; exact h.elim
      | true =>
        rw [hb] at h
        simp only [Bool.and_eq_true] at hb
        simp only [cond_true] at h
        split at h
        · rename_i p q h1 h2
          have hg := fun (w' : World) (hw' : Ext w w') => (he t d hb.2 c.S w' p q _ _ (Ty.val_mono (fun _ h => h) (fun b hb => hw' b (hR.rw_.sub b hb)) (toDataNil_val hR.rw_ hx h1)) (Ty.val_mono (fun _ h => h) (fun b hb => hw' b (hR.rw_.sub b hb)) (toDataNil_val hR.rw_ hy h2))).2.2 x y
          cases op <;> simp only at h <;> first
            | exact h.elim
            | (refine OpOk.value hR h (fun w' hw' => ?_) (rel_bool _); obtain ⟨g1, g2, g3, g4⟩ := hg w' hw'; rw [hex, g1]; simp only [Result.andThen_ok]; rw [g3]; rfl)
            | (refine OpOk.value hR h (fun w' hw' => ?_) (rel_bool _); obtain ⟨g1, g2, g3, g4⟩ := hg w' hw'; rw [hex, g2]; simp only [Result.andThen_ok]; rw [g4]; rfl)
        · exact h.elim
    · exact h.elim
end

end Go.Proofs.Ytodjomdnlcledaa.X
