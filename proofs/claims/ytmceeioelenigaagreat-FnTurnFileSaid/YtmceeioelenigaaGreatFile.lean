/- Whatever bytes the law FnTurnFile is called with, it answers true, and the bytes read behind the call as they read before. No conditions. -/
import Derived.Test.YtmceeioelenigaaGreatRows
import Derived.WalkKit
import Derived.ProofKit
import Derived.OpenShut
import Derived.Test.YtmceeioelenigaaGreatGd
section
namespace Go.Proofs.YtmceeioelenigaaGreat.fnTurnFile
open Go.ChangeShapes Go.WideShapes Go.ChangeAt Go.RowKit
theorem own : ownKnob Tryz.prog.godebug = none := by kernel_rfl
theorem YQ : E.Good Tryz.prog true E.Solo T.C T.pr := fun _ _ _ _ h => by cases h
theorem cells5 : Tryz.prog.cellsOf 5 = 1 := by kernel_rfl
theorem aam : Tryz.prog.underlying 22 = some (.slice 5) := by kernel_rfl
set_option maxRecDepth 100000 in
theorem lifted (os : Os) (started : os.Started) (H : Type) (enc : TypeId × Value -> H) :
  ReturnsInHanded {} Tryz.checked os 5 .any (Rows.fnTurnFileSpec.pre6 enc Tryz.prog Tryz.f5 Rows.fnTurnFileRow.domain false) (Rows.fnTurnFileSpec.post enc Tryz.prog Tryz.f5 false true false false) := by
 refine returnsInHanded_of_change (C := Tryz.checked) own started (by kernel_rfl) Tryz.func5
  (ChangeSpec.witness6 (enc := enc) (C := Tryz.checked) false ⟨#[],#[.slice none 0 0],[]⟩ 8 (by kernel_rfl) (by kernel_rfl) (by kernel_rfl) (by kernel_rfl)) ?_
 intro W base args ds gs before hval hW _ _
 exact E.Va T.YR T.YS T.YT YQ (fun a ha => T.D5 ha) aam Tryz.underlying5 cells5 Tryz.underlying4 Tryz.params5 rfl rfl (fun _ _ => rfl) enc W base args ds gs before hval hW
theorem over : Rows.fnTurnFileRow.holds Tryz.pinned (OpenSpec.ofChange Rows.fnTurnFileSpec) :=
 OpenClaim.holds_of_wide 5 Tryz.f5 rfl rfl rfl rfl rfl rfl rfl ⟨rfl,rfl,rfl,rfl,rfl⟩ rfl rfl rfl rfl rfl (by kernel_rfl) Tryz.func5 (by kernel_rfl)
  (of_decide_eq_true (by kernel_rfl)) (by unfold Func.isWrapper; first | (rw [if_pos (by decide +kernel)]; kernel_rfl) | (rw [if_neg (by decide +kernel)]; exact ⟨rfl,rfl⟩))
  (fun os started H enc _ => lifted os started H enc)
theorem fnTurnFile_holds : Rows.FnTurnFileSaid := over
end Go.Proofs.YtmceeioelenigaaGreat.fnTurnFile
end
