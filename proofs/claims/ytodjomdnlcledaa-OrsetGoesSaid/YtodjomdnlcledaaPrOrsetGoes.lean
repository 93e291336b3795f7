/- Proved: for every cell, transaction and text, plexuslaw10.OrsetGoes returns true and leaves its arguments as they read: no condition. -/
import Derived.Test.YtodjomdnlcledaaPo9
import Derived.Test.YtodjomdnlcledaaGoK
import Derived.Test.YtodjomdnlcledaaRows
import Derived.ProofKit
namespace Go.Proofs.Ytodjomdnlcledaa
open Go.ChangeShapes Go.WideShapes Go.ChangeAt Go.RowKit
set_option linter.unusedVariables false
set_option linter.unusedSimpArgs false

theorem Try.own : ownKnob Try.prog.godebug = none := by kernel_rfl
theorem Try.laidOut : laidOutB Try.prog = true := by kernel_rfl

set_option maxRecDepth 100000 in
theorem orsetGoes_lifted (os : Os) (started : os.Started) (H : Type) (enc : TypeId × Value → H) :
    ReturnsInHanded {} Try.checked os 3 .any (Rows.orsetGoesSpec.pre6 enc Try.prog Try.f3 [] false) (Rows.orsetGoesSpec.post enc Try.prog Try.f3 false true false false) :=
  X.law_lifted (C := Try.checked) (ps := X.law10_OrsetGoesS.ps) (F := X.law10_OrsetGoesS.F) (n := 20) (tb := 4) Try.own started (by kernel_rfl) Try.func3
    (ChangeSpec.witness6 (enc := enc) (C := Try.checked) false ⟨#[], #[.agg #[.int .i64 0, .int .i64 0, .slice none 0 0, .slice none 0 0, .slice none 0 0, .slice none 0 0],
      .agg #[.int .i64 0, .int .i64 0, .int .i64 0, .int .i64 0, .int .i64 0, .int .i64 0, .int .i64 0, .int .i64 0, .int .i64 0, .int .i64 0, .int .i64 0, .int .i64 0, .int .i64 0, .int .i64 0, .int .i64 0, .int .i64 0, .slice none 0 0],
      .string ByteArray.empty], []⟩ 8 (by kernel_rfl) (by kernel_rfl) (by kernel_rfl) (by kernel_rfl))
    rfl (fun ds hds => match ds, hds with | [_, _, _], _ => rfl) Try.laidOut (by kernel_rfl) rfl Try.underlying4 X.law10_OrsetGoes_ok
    (fun xs hxs => X.goes_ok hxs.1 hxs.2.1 hxs.2.2.1)

theorem orsetGoes_holds : Rows.OrsetGoesSaid :=
  OpenClaim.holds_of_wide 3 Try.f3 rfl rfl rfl rfl rfl rfl rfl ⟨rfl, rfl, rfl, rfl, rfl⟩ rfl rfl rfl rfl rfl (by kernel_rfl) Try.func3 (by kernel_rfl)
    (of_decide_eq_true (by kernel_rfl)) (by unfold Func.isWrapper; first | (rw [if_pos (by decide +kernel)]; kernel_rfl) | (rw [if_neg (by decide +kernel)]; exact ⟨rfl, rfl⟩))
    (fun os started H enc _ => orsetGoes_lifted os started H enc)

#print axioms orsetGoes_holds
end Go.Proofs.Ytodjomdnlcledaa
