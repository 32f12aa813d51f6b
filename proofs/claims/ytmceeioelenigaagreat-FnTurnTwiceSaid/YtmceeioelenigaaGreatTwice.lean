/- Whatever bytes the law FnTurnTwice is called with, it answers true, and the bytes read behind the call as they read before. No conditions. -/
import Derived.Test.YtmceeioelenigaaGreatRows
import Derived.WalkKit
import Derived.ProofKit
import Derived.OpenShut
import Derived.Test.YtmceeioelenigaaGreatGd
section
namespace Go.Proofs.YtmceeioelenigaaGreat.fnTurnTwice
open Go.ChangeShapes Go.WideShapes Go.ChangeAt Go.RowKit
theorem own : ownKnob Tryz.prog.godebug = none := by kernel_rfl
theorem Zl : E.Good Tryz.prog true E.Solo T.C T.pr := fun _ _ _ _ h => by cases h
theorem cells5 : Tryz.prog.cellsOf 5 = 1 := by kernel_rfl
theorem aax : Tryz.prog.underlying 22 = some (.slice 5) := by kernel_rfl
set_option maxRecDepth 100000 in
theorem lifted (os : Os) (started : os.Started) (H : Type) (enc : TypeId × Value -> H) :
  ReturnsInHanded {} Tryz.checked os 6 .any (Rows.fnTurnTwiceSpec.pre6 enc Tryz.prog Tryz.f6 Rows.fnTurnTwiceRow.domain false) (Rows.fnTurnTwiceSpec.post enc Tryz.prog Tryz.f6 false true false false) := by
 refine returnsInHanded_of_change (C := Tryz.checked) own started (by kernel_rfl) Tryz.func6
  (ChangeSpec.witness6 (enc := enc) (C := Tryz.checked) false ⟨#[],#[.slice none 0 0],[]⟩ 8 (by kernel_rfl) (by kernel_rfl) (by kernel_rfl) (by kernel_rfl)) ?_
 intro W base args ds gs before hval hW _ _
 exact E.Va T.Y8 T.Y4 T.Y5 Zl (fun a ha => T.D6 ha) aax Tryz.underlying5 cells5 Tryz.underlying4 Tryz.params6 rfl rfl (fun _ _ => rfl) enc W base args ds gs before hval hW
theorem over : Rows.fnTurnTwiceRow.holds Tryz.pinned (OpenSpec.ofChange Rows.fnTurnTwiceSpec) :=
 OpenClaim.holds_of_wide 6 Tryz.f6 rfl rfl rfl rfl rfl rfl rfl ⟨rfl,rfl,rfl,rfl,rfl⟩ rfl rfl rfl rfl rfl (by kernel_rfl) Tryz.func6 (by kernel_rfl)
  (of_decide_eq_true (by kernel_rfl)) (by unfold Func.isWrapper; first | (rw [if_pos (by decide +kernel)]; kernel_rfl) | (rw [if_neg (by decide +kernel)]; exact ⟨rfl,rfl⟩))
  (fun os started H enc _ => lifted os started H enc)
theorem fnTurnTwice_holds : Rows.FnTurnTwiceSaid := over
end Go.Proofs.YtmceeioelenigaaGreat.fnTurnTwice
end
