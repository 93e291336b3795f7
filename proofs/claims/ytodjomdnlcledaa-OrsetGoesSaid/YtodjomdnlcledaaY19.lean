/- A law: for every input its function returns true, and each argument reads as it did. -/
import Derived.Test.YtodjomdnlcledaaY17
import Derived.SizedLaws
namespace Go.Proofs.Ytodjomdnlcledaa.X
open Go Go.RowKit Go.ChangeShapes
set_option linter.unusedSimpArgs false
set_option linter.unusedVariables false

def Args.ok : (ts : List Ty) → Args.den ts → Prop
  | [], _ => True
  | t :: ts, x => t.ok x.1 ∧ Args.ok ts x.2

def readAll (P : Program) (n : Nat) : List TypeId → List Ty → Bool
  | [], [] => true
  | t :: ts, u :: us => readB P n t u && P.readableRec t && decide (t < P.types.size) && readAll P n ts us
  | _, _ => false

section
variable {H : Type} {enc : TypeId × Value → H} {P : Program} {w : World}

theorem args_read {n : Nat} : ∀ (ts : List TypeId) (us : List Ty) (vs : List Value) (ds : List (DataW H)) (ps : List MemPlace), readAll P n ts us = true → DataW.TrodAll enc P w 0 (fun _ => true) true ts vs ds ps →
    (∀ (j : Nat) t v, ts[j]? = some t → vs[j]? = some v → ∃ r b0, Value.okWide P w r b0 t v) → (∀ k ∈ DataW.weightsEach P ts ds, k ≤ reachBytes) →
    ds.length = ts.length ∧ ∃ xs : Args.den us, Args.ok us xs ∧ ArgsRel (fun b => b < w.heap.size) w us xs vs
  | [], us, vs, ds, ps, hb, h, hok, hl => by
    obtain ⟨rfl, rfl, rfl⟩ := trodAll_nil h
    cases us with
    | nil => exact ⟨rfl, (), trivial, rfl⟩
    | cons u us => simp [readAll] at hb
  | t :: ts, us, vs, ds, ps, hb, h, hok, hl => by
    obtain ⟨v, vs, d, ds, a, b, rfl, rfl, rfl, h1, h2⟩ := trodAll_cons h
    cases us with
    | nil => simp [readAll] at hb
    | cons u us =>
      simp only [readAll, Bool.and_eq_true] at hb
      simp only [DataW.weightsEach, List.mem_append] at hl
      obtain ⟨x, hx, hr⟩ := arg_read hb.1.1.1 h1 (hok 0 t v rfl rfl) (fun k hk => hl k (.inl hk))
      obtain ⟨hlen, xs, hxs, hrs⟩ := args_read ts us vs ds b hb.2 h2 (fun j t v hj hv => hok (j + 1) t v (by simpa using hj) (by simpa using hv)) (fun k hk => hl k (.inr hk))
      exact ⟨by simp [hlen], (x, xs), ⟨hx, hxs⟩, v, vs, rfl, hr, hrs⟩

theorem args_stay {n : Nat} (hlaid : laidOutB P = true) {W W' : World} (hb : Below W.heap.size W W') : ∀ (ts : List TypeId) (us : List Ty) (vs : List Value) (ds : List (DataW H)) (ps : List MemPlace), readAll P n ts us = true →
    DataW.TrodAll enc P W 0 (fun _ => true) true ts vs ds ps → (∀ x ∈ ps, x.block < W.heap.size) → DataW.TrodAll enc P W' 0 (fun b => decide (b < W.heap.size)) true ts vs ds ps
  | [], us, vs, ds, ps, hr, h, hlt => by
    obtain ⟨rfl, rfl, rfl⟩ := trodAll_nil h
    rfl
  | t :: ts, us, vs, ds, ps, hr, h, hlt => by
    obtain ⟨v, vs, d, ds, a, b, rfl, rfl, rfl, h1, h2⟩ := trodAll_cons h
    cases us with
    | nil => simp [readAll] at hr
    | cons u us =>
      simp only [readAll, Bool.and_eq_true] at hr
      exact ⟨a, b, Below.trod hlaid hr.1.1.2 (of_decide_eq_true hr.1.2) h1 hb (fun x hx => hlt x (by simp [hx])), args_stay hlaid hb ts us vs ds b hr.2 h2 (fun x hx => hlt x (by simp [hx])), rfl⟩
end

theorem law_lifted {H : Type} {enc : TypeId × Value → H} {C : Checked} {os : Os} {f : FuncId} {fn : Func} {s : ChangeSpec} {ps : List Ty} {F : Args.den ps → (Bool → Prop) → Prop} {n tb : Nat} {apart fresh handsOn : Bool}
    (own : ownKnob C.prog.godebug = none) (started : os.Started) (noInit : C.prog.inits.idxOf? f = none) (hfn : C.prog.funcs[f]? = some fn)
    (witness : ∃ (w : World) (tape : Tape) (i : Input), w.os = os ∧ (w.forCall tape i).Shaped C.prog ∧ i.vars = [] ∧ Input.okWide C.prog (w.forCall tape i) .any w.heap.size f i ∧
      s.pre6 enc C.prog fn [] apart (w.forCall tape i).memory i.args ∧ Assume.holds {} C.prog (lone (Frame.enter C.prog f i.args .normal) [] (w.forCall tape i)))
    (hvars : s.vars = []) (hspec : ∀ ds : List (DataW H), ds.length = fn.params.size → s.fn H ds = { results := [.lit (.bool true)], args := ds })
    (hlaid : laidOutB C.prog = true) (hread : readAll C.prog n fn.params.toList ps = true) (hrt : fn.resultTypes = #[tb]) (htb : C.prog.underlying tb = some .bool)
    (hFn : FnOk C.prog f ⟨ps, [.bool], F⟩) (hF : ∀ xs, Args.ok ps xs → F xs (fun r => r = true)) :
    ReturnsInHanded {} C os f .any (s.pre6 enc C.prog fn [] apart) (s.post enc C.prog fn apart fresh handsOn false) := by
  refine returnsInHanded_of_change_sized own started noInit hfn witness ?_
  intro W base args ds gs before hval hW _ hwt _
  have hW' := hW
  obtain ⟨p, q, hA, hV, rfl, hfz, hnd⟩ := hW
  rw [hvars] at hV
  obtain ⟨rfl, rfl⟩ := trodVars_none hV
  have hwt : ∀ k ∈ DataW.weightsEach C.prog fn.params.toList ds, k ≤ reachBytes := by
    intro k hk
    have hpv : s.plain.varTypes C.prog = [] := by
      have : s.plain.vars = [] := hvars
      unfold DataSpec.varTypes
      rw [this]; rfl
    rw [hpv, List.append_nil, List.append_nil] at hwt
    have := List.all_eq_true.1 hwt k hk
    simpa using this
  obtain ⟨hlen, xs, hxs, hrel⟩ := args_read fn.params.toList ps args.toList ds p hread hA (fun j t v hj hv => ⟨_, _, hval j t v (by simpa using hj) (by simpa using hv)⟩) hwt
  have hcall := hFn xs (fun r => r = true) (hF xs hxs) (fun b => b < W.heap.size) W args.toList (fun b hb => hb) hrel
  have e : args.toList.toArray = args := by simp
  rw [e] at hcall
  refine hcall.mono ?_
  rintro e W' ⟨v, r, rfl, hr, hbel, vs, hres, hv⟩
  simp only [ResRels] at hres
  obtain ⟨u, rfl, hu⟩ := hres
  simp only at hv
  subst hv
  have hvb : v = .bool r := by
    have := Ty.val_one (t := .bool) rfl hu
    exact this
  subst hvb
  simp only at hr
  subst hr
  refine ⟨_, rfl, ds, [], p ++ [], [], p, [], hW', ?_, ?_, ?_, hbel.frame _, fun h => by cases h⟩
  · rw [List.append_nil, hspec ds (by simpa using hlen), hrt]
    exact trodAll_mk1 (shut_bool htb true)
  · rw [List.append_nil, hspec ds (by simpa using hlen)]
    exact args_stay hlaid hbel fn.params.toList ps args.toList ds p hread hA (fun x hx => hW'.lt x (by simp [hx]))
  · rw [hvars, List.append_nil, hspec ds (by simpa using hlen)]
    rfl

end Go.Proofs.Ytodjomdnlcledaa.X
