/- What is known of the seat's types and library functions. -/
import Derived.Test.YtodjomdnlcledaaGo0
import Derived.Test.YtodjomdnlcledaaY20
import Derived.Test.YtodjomdnlcledaaSh
import Derived.KernelRfl
namespace Go.Proofs.Ytodjomdnlcledaa.X
open Go Go.RowKit Go.Sort
set_option linter.unusedSimpArgs false
set_option linter.unusedVariables false

theorem eqvs_ok : ∀ t u, eqvs t u = true → eqvB Try.prog 20 t u = true ∧ u.isAgg = true ∧ Try.prog.eqGuardType Try.prog.depth t = false := by
  intro t u h
  unfold eqvs at h
  split at h
  · have := of_decide_eq_true h
    subst this
    exact ⟨by kernel_rfl, rfl, by kernel_rfl⟩
  · have := of_decide_eq_true h
    subst this
    exact ⟨by kernel_rfl, rfl, by kernel_rfl⟩
  · cases h

theorem sortsStr : SortsAt Try.prog 32 encStr (fun l : List (List UInt8) => l.mergeSort fun x y => decide (x ≤ y)) :=
  ⟨fun blk cap zs w h1 h2 h3 => Any.slices_Sort_string Try.lays190 blk 0 cap zs w h1 h2 h3, fun w => Any.slices_Sort_string_none Try.lays190 none 0 w⟩

theorem special32 (args : List AV) (s : St) (K : AV → St → Prop) (h : sortX .str sortS args s K) (Γ : Base) (c : Ctx) (w : World) (vals : List Value) (hw : RW Γ s.L c w) (hr : RelAVs s.L c w args vals) :
    Calls Try.prog 32 vals.toArray w (fun e w' => ∃ v av s' c', e = .returned v ∧ K av s' ∧ s'.sl = s.sl ∧ Adv s c w s' c' w' ∧ RW Γ s'.L c' w' ∧ RelAV s'.L c' w' av v) :=
  sortX_ok (e := .str) sortsStr (fun s => s.data.toList) (fun l => ⟨l.toArray⟩) rfl (fun S w x c => by
    show c = .string x ↔ c = encStr x.data.toList
    have : encStr x.data.toList = .string x := by cases x; simp [encStr]
    rw [this]) (fun a => by simp) (fun l => List.length_mergeSort _) args s K h Γ c w vals hw hr

end Go.Proofs.Ytodjomdnlcledaa.X
