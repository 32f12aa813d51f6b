/- Whatever bytes the law FnTurnCode is called with, it answers true, and the bytes read behind the call as they read before. No conditions. -/
import Derived.Test.YtmceeioelenigaaGreatRows
import Derived.WalkKit
import Derived.ProofKit
import Derived.OpenShut
import Derived.Test.YtmceeioelenigaaGreatGd
section
namespace Go.Proofs.YtmceeioelenigaaGreat.fnTurnCode
open Go.ChangeShapes Go.WideShapes Go.ChangeAt Go.RowKit
theorem own : ownKnob Tryz.prog.godebug = none := by kernel_rfl
theorem prims_ok : E.Good Tryz.prog true E.Solo T.C T.pr := fun _ _ _ _ h => by cases h
theorem cells5 : Tryz.prog.cellsOf 5 = 1 := by kernel_rfl
theorem under22 : Tryz.prog.underlying 22 = some (.slice 5) := by kernel_rfl
set_option maxRecDepth 100000 in
theorem lifted (os : Os) (started : os.Started) (H : Type) (enc : TypeId × Value -> H) :
  ReturnsInHanded {} Tryz.checked os 4 .any (Rows.fnTurnCodeSpec.pre6 enc Tryz.prog Tryz.f4 Rows.fnTurnCodeRow.domain false) (Rows.fnTurnCodeSpec.post enc Tryz.prog Tryz.f4 false true false false) := by
 refine returnsInHanded_of_change (C := Tryz.checked) own started (by kernel_rfl) Tryz.func4
  (ChangeSpec.witness6 (enc := enc) (C := Tryz.checked) false ⟨#[],#[.slice none 0 0],[]⟩ 8 (by kernel_rfl) (by kernel_rfl) (by kernel_rfl) (by kernel_rfl)) ?_
 intro W base args ds gs before hval hW _ _
 exact E.law_bytes T.types_ok T.codes_ok T.draws_ok prims_ok (fun a ha => T.D4 ha) under22 Tryz.underlying5 cells5 Tryz.underlying4 Tryz.params4 rfl rfl (fun _ _ => rfl) enc W base args ds gs before hval hW
theorem over : Rows.fnTurnCodeRow.holds Tryz.pinned (OpenSpec.ofChange Rows.fnTurnCodeSpec) :=
 OpenClaim.holds_of_wide 4 Tryz.f4 rfl rfl rfl rfl rfl rfl rfl ⟨rfl,rfl,rfl,rfl,rfl⟩ rfl rfl rfl rfl rfl (by kernel_rfl) Tryz.func4 (by kernel_rfl)
  (of_decide_eq_true (by kernel_rfl)) (by unfold Func.isWrapper; first | (rw [if_pos (by decide +kernel)]; kernel_rfl) | (rw [if_neg (by decide +kernel)]; exact ⟨rfl,rfl⟩))
  (fun os started H enc _ => lifted os started H enc)
theorem fnTurnCode_holds : Rows.FnTurnCodeSaid := over
end Go.Proofs.YtmceeioelenigaaGreat.fnTurnCode
end
