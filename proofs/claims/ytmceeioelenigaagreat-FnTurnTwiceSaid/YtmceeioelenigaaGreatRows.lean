/-
  No cell of these rows narrows 'for every input' (looked for: loops, veiled, ifaces, maps, wideKeys, modest, calm, conditions, laid).
  DERIVED. THE GIVEN ROWS OF THIS SEAT. 4 by the template 'for every input the law returns true; each argument reads behind the call as it read before'; 0 by the template 'total and deterministic' (their statements: YtmceeioelenigaaGreatTotals.lean).
  GIVEN WITH THE SEED: the statements are not yours to turn. If you find one false, say at which input.
  Laid BY PROGRAM, IN A SANDBOX (cutbox-rows.mjs): the forced cells as the released guide's own fill.sh prints them over the translation a3964266b605c66f… (all of the seat's roots in one cut). By AI agents, Wed Nov 11 2026. No macro, syntax, notation, axiom, sorry.
-/
import Derived.Test.YtmceeioelenigaaGreatChecked
import GoSem.Claim
import GoSem.ClaimJoined
import GoSem.ClaimMapViews
import Derived.JoinedTies
import Derived.KernelRfl
namespace Go.Proofs.YtmceeioelenigaaGreat
/- THE CELL 'sum', in the pinned program and in every row, IS THE sha256 OF THE DUMP (.gsa) THAT YtmceeioelenigaaGreatProg.lean LOADS. Nothing in Lean hashes anything: it is a label: what it is worth is what the hold of that sum in a sandbox is worth. -/
noncomputable def Tryz.pinned : Pinned := { name := "ytmceeioelenigaagreat", sum := "a3964266b605c66f78da2de632305373f856c035df62464aaa38ddaa354baa09", checked := Tryz.checked }
namespace Rows
def none {H : Type} : Left H := { results := [], args := [] }

/-- 'laws.FnExactTurnFile': WHATEVER THE INPUT: true; the input reads as it did. -/
def fnExactTurnFileSpec : ChangeSpec := { name := "fnExactTurnFile", fn := fun _ => fun
  | [d1, d2] => { results := [.lit (.bool true)], args := [d1, d2] }
  | _ => none }
def fnExactTurnFileRow : OpenClaim := { program := "ytmceeioelenigaagreat", sum := "a3964266b605c66f78da2de632305373f856c035df62464aaa38ddaa354baa09", func := "loop.example/easel/laws.FnExactTurnFile", spec := "fnExactTurnFile", unfollowed := true, recurses := true, apart := false }
def FnExactTurnFileSaid : Prop := fnExactTurnFileRow.holds Tryz.pinned (OpenSpec.ofChange fnExactTurnFileSpec)

/-- ITS FALSE NEIGHBOUR: 'it returns false'. Refute it at one input. -/
def fnExactTurnFileWrong : ChangeSpec := { name := "fnExactTurnFile", fn := fun _ => fun
  | [d1, d2] => { results := [.lit (.bool false)], args := [d1, d2] }
  | _ => none }
def FnExactTurnFileWrongFalsely : Prop := fnExactTurnFileRow.holds Tryz.pinned (OpenSpec.ofChange fnExactTurnFileWrong)

/-- 'laws.FnTurnCode': WHATEVER THE INPUT: true; the input reads as it did. -/
def fnTurnCodeSpec : ChangeSpec := { name := "fnTurnCode", fn := fun _ => fun
  | [d] => { results := [.lit (.bool true)], args := [d] }
  | _ => none }
def fnTurnCodeRow : OpenClaim := { program := "ytmceeioelenigaagreat", sum := "a3964266b605c66f78da2de632305373f856c035df62464aaa38ddaa354baa09", func := "loop.example/easel/laws.FnTurnCode", spec := "fnTurnCode", unfollowed := true, recurses := true, apart := false }
def FnTurnCodeSaid : Prop := fnTurnCodeRow.holds Tryz.pinned (OpenSpec.ofChange fnTurnCodeSpec)

/-- ITS FALSE NEIGHBOUR: 'it returns false'. Refute it at one input. -/
def fnTurnCodeWrong : ChangeSpec := { name := "fnTurnCode", fn := fun _ => fun
  | [d] => { results := [.lit (.bool false)], args := [d] }
  | _ => none }
def FnTurnCodeWrongFalsely : Prop := fnTurnCodeRow.holds Tryz.pinned (OpenSpec.ofChange fnTurnCodeWrong)

/-- 'laws.FnTurnFile': WHATEVER THE INPUT: true; the input reads as it did. -/
def fnTurnFileSpec : ChangeSpec := { name := "fnTurnFile", fn := fun _ => fun
  | [d] => { results := [.lit (.bool true)], args := [d] }
  | _ => none }
def fnTurnFileRow : OpenClaim := { program := "ytmceeioelenigaagreat", sum := "a3964266b605c66f78da2de632305373f856c035df62464aaa38ddaa354baa09", func := "loop.example/easel/laws.FnTurnFile", spec := "fnTurnFile", unfollowed := true, recurses := true, apart := false }
def FnTurnFileSaid : Prop := fnTurnFileRow.holds Tryz.pinned (OpenSpec.ofChange fnTurnFileSpec)

/-- ITS FALSE NEIGHBOUR: 'it returns false'. Refute it at one input. -/
def fnTurnFileWrong : ChangeSpec := { name := "fnTurnFile", fn := fun _ => fun
  | [d] => { results := [.lit (.bool false)], args := [d] }
  | _ => none }
def FnTurnFileWrongFalsely : Prop := fnTurnFileRow.holds Tryz.pinned (OpenSpec.ofChange fnTurnFileWrong)

/-- 'laws.FnTurnTwice': WHATEVER THE INPUT: true; the input reads as it did. -/
def fnTurnTwiceSpec : ChangeSpec := { name := "fnTurnTwice", fn := fun _ => fun
  | [d] => { results := [.lit (.bool true)], args := [d] }
  | _ => none }
def fnTurnTwiceRow : OpenClaim := { program := "ytmceeioelenigaagreat", sum := "a3964266b605c66f78da2de632305373f856c035df62464aaa38ddaa354baa09", func := "loop.example/easel/laws.FnTurnTwice", spec := "fnTurnTwice", unfollowed := true, recurses := true, apart := false }
def FnTurnTwiceSaid : Prop := fnTurnTwiceRow.holds Tryz.pinned (OpenSpec.ofChange fnTurnTwiceSpec)

/-- ITS FALSE NEIGHBOUR: 'it returns false'. Refute it at one input. -/
def fnTurnTwiceWrong : ChangeSpec := { name := "fnTurnTwice", fn := fun _ => fun
  | [d] => { results := [.lit (.bool false)], args := [d] }
  | _ => none }
def FnTurnTwiceWrongFalsely : Prop := fnTurnTwiceRow.holds Tryz.pinned (OpenSpec.ofChange fnTurnTwiceWrong)

/- THE SECOND FORM. 'bulk': how many values and letters a reading holds, each counted each time it is reached (what is shared counts as often as it is met; a slice's spare places count too). A statement '..UptoSaid' is the law's where the arguments, and the package variables that the reading takes, are together of bulk at most 1048576: NARROWER than '..Said'. Prove '..Said' where nothing that the law and all that it calls make is longer than what came in: it says more and counts as full. Else prove '..UptoSaid'. A law counts once. -/
mutual
def uptoBulk {H : Type} : DataW H → Nat
  | .lit (.string bytes) => bytes.length + 1
  | .lit _ => 1
  | .nil => 1
  | .ptr d => uptoBulk d + 1
  | .slice elems spare => uptoBulkAll elems + uptoBulkAll spare + 1
  | .agg parts => uptoBulkAll parts + 1
  | .iface _ d => uptoBulk d + 1
  | .map entries => uptoBulkEntries entries + 1
  | .held _ => 1
def uptoBulkAll {H : Type} : List (DataW H) → Nat
  | [] => 0
  | d :: r => uptoBulk d + uptoBulkAll r
def uptoBulkEntries {H : Type} : List (Lit × DataW H) → Nat
  | [] => 0
  | x :: r => uptoBulkEntry x + uptoBulkEntries r
def uptoBulkEntry {H : Type} : Lit × DataW H → Nat
  | (.string bytes, d) => bytes.length + uptoBulk d + 1
  | (_, d) => uptoBulk d + 1
 end
def uptoSmall : (H : Type) → List (DataW H) → Bool := fun _ ds => decide (uptoBulkAll ds ≤ 1048576)
def OpenSpec.upto (s : _root_.Go.ChangeSpec) : _root_.Go.OpenSpec := { _root_.Go.OpenSpec.ofChange s with cond := some uptoSmall }

/-- 'laws.FnExactTurnFile', WHERE WHAT IT READS IS OF BULK AT MOST 1048576: true; the input reads as it did. -/
def fnExactTurnFileUptoRow : OpenClaim := { program := "ytmceeioelenigaagreat", sum := "a3964266b605c66f78da2de632305373f856c035df62464aaa38ddaa354baa09", func := "loop.example/easel/laws.FnExactTurnFile", spec := "fnExactTurnFile", unfollowed := true, recurses := true, apart := false, narrowed := true }
def FnExactTurnFileUptoSaid : Prop := fnExactTurnFileUptoRow.holds Tryz.pinned (OpenSpec.upto fnExactTurnFileSpec)

/-- 'laws.FnTurnCode', WHERE WHAT IT READS IS OF BULK AT MOST 1048576: true; the input reads as it did. -/
def fnTurnCodeUptoRow : OpenClaim := { program := "ytmceeioelenigaagreat", sum := "a3964266b605c66f78da2de632305373f856c035df62464aaa38ddaa354baa09", func := "loop.example/easel/laws.FnTurnCode", spec := "fnTurnCode", unfollowed := true, recurses := true, apart := false, narrowed := true }
def FnTurnCodeUptoSaid : Prop := fnTurnCodeUptoRow.holds Tryz.pinned (OpenSpec.upto fnTurnCodeSpec)

/-- 'laws.FnTurnFile', WHERE WHAT IT READS IS OF BULK AT MOST 1048576: true; the input reads as it did. -/
def fnTurnFileUptoRow : OpenClaim := { program := "ytmceeioelenigaagreat", sum := "a3964266b605c66f78da2de632305373f856c035df62464aaa38ddaa354baa09", func := "loop.example/easel/laws.FnTurnFile", spec := "fnTurnFile", unfollowed := true, recurses := true, apart := false, narrowed := true }
def FnTurnFileUptoSaid : Prop := fnTurnFileUptoRow.holds Tryz.pinned (OpenSpec.upto fnTurnFileSpec)

/-- 'laws.FnTurnTwice', WHERE WHAT IT READS IS OF BULK AT MOST 1048576: true; the input reads as it did. -/
def fnTurnTwiceUptoRow : OpenClaim := { program := "ytmceeioelenigaagreat", sum := "a3964266b605c66f78da2de632305373f856c035df62464aaa38ddaa354baa09", func := "loop.example/easel/laws.FnTurnTwice", spec := "fnTurnTwice", unfollowed := true, recurses := true, apart := false, narrowed := true }
def FnTurnTwiceUptoSaid : Prop := fnTurnTwiceUptoRow.holds Tryz.pinned (OpenSpec.upto fnTurnTwiceSpec)

end Rows
end Go.Proofs.YtmceeioelenigaaGreat
