/- Whatever bytes and steps the law FnExactTurnFile is called with, it answers true, and both read behind the call as they read before. No conditions. -/
import Derived.Test.YtmceeioelenigaaGreatRows
import Derived.WalkKit
import Derived.ProofKit
import Derived.OpenShut
import Derived.Test.YtmceeioelenigaaGreatGd
section
namespace Go.Proofs.YtmceeioelenigaaGreat.fnExactTurnFile
open Go.ChangeShapes Go.WideShapes Go.ChangeAt Go.RowKit
theorem own : ownKnob Tryz.prog.godebug = none := by kernel_rfl
theorem prims_ok : E.Good Tryz.prog true E.Solo T.C T.pr := fun _ _ _ _ h => by cases h
theorem cells5 : Tryz.prog.cellsOf 5 = 1 := by kernel_rfl
theorem under22 : Tryz.prog.underlying 22 = some (.slice 5) := by kernel_rfl
theorem cells53 : Tryz.prog.cellsOf 53 = 5 := by kernel_rfl
theorem cells3 : Tryz.prog.cellsOf 3 = 1 := by kernel_rfl
theorem under3 : Tryz.prog.underlying 3 = some (.int .i64) := by kernel_rfl
def flds : Array Field := #[{ name := "Kind",type := 3,offset := 0,embedded := false,tag := "",pkgPath := "",byteOffset := 0 },{ name := "A",type := 3,offset := 1,embedded := false,tag := "",pkgPath := "",byteOffset := 8 },{ name := "B",type := 3,offset := 2,embedded := false,tag := "",pkgPath := "",byteOffset := 16 },{ name := "C",type := 3,offset := 3,embedded := false,tag := "",pkgPath := "",byteOffset := 24 },{ name := "D",type := 3,offset := 4,embedded := false,tag := "",pkgPath := "",byteOffset := 32 }]
theorem fields53 : ∀ j,j < 5 -> ∃ f,flds[j]? = some f ∧ f.offset = j ∧ Tryz.prog.cellsOf f.type = 1 ∧ Tryz.prog.underlying f.type = some (.int .i64)
 | 0,_ => ⟨_,rfl,rfl,cells3,under3⟩
 | 1,_ => ⟨_,rfl,rfl,cells3,under3⟩
 | 2,_ => ⟨_,rfl,rfl,cells3,under3⟩
 | 3,_ => ⟨_,rfl,rfl,cells3,under3⟩
 | 4,_ => ⟨_,rfl,rfl,cells3,under3⟩
 | j + 5,h => absurd h (by omega)
set_option maxRecDepth 100000 in
theorem lifted (os : Os) (started : os.Started) (H : Type) (enc : TypeId × Value -> H) :
  ReturnsInHanded {} Tryz.checked os 3 .any (Rows.fnExactTurnFileSpec.pre6 enc Tryz.prog Tryz.f3 Rows.fnExactTurnFileRow.domain false) (Rows.fnExactTurnFileSpec.post enc Tryz.prog Tryz.f3 false true false false) := by
 refine returnsInHanded_of_change (C := Tryz.checked) own started (by kernel_rfl) Tryz.func3
  (ChangeSpec.witness6 (enc := enc) (C := Tryz.checked) false ⟨#[],#[.slice none 0 0,.slice none 0 0],[]⟩ 8 (by kernel_rfl) (by kernel_rfl) (by kernel_rfl) (by kernel_rfl)) ?_
 intro W base args ds gs before hval hW _ _
 exact E.law_two T.types_ok T.codes_ok T.draws_ok prims_ok (fun a o ha ho => T.D3 ha ho) under22 Tryz.underlying5 cells5 Tryz.underlying23 (fs := flds) Tryz.underlying53 cells53 fields53 rfl Tryz.underlying4 Tryz.params3 rfl rfl (fun _ _ _ => rfl) enc W base args ds gs before hval hW
theorem over : Rows.fnExactTurnFileRow.holds Tryz.pinned (OpenSpec.ofChange Rows.fnExactTurnFileSpec) :=
 OpenClaim.holds_of_wide 3 Tryz.f3 rfl rfl rfl rfl rfl rfl rfl ⟨rfl,rfl,rfl,rfl,rfl⟩ rfl rfl rfl rfl rfl (by kernel_rfl) Tryz.func3 (by kernel_rfl)
  (of_decide_eq_true (by kernel_rfl)) (by unfold Func.isWrapper; first | (rw [if_pos (by decide +kernel)]; kernel_rfl) | (rw [if_neg (by decide +kernel)]; exact ⟨rfl,rfl⟩))
  (fun os started H enc _ => lifted os started H enc)
theorem fnExactTurnFile_holds : Rows.FnExactTurnFileSaid := over
end Go.Proofs.YtmceeioelenigaaGreat.fnExactTurnFile
end
