/-
  DERIVED. GIVEN WITH THE SEED: THE CARDS: each row of YtmceeioelenigaaGreatDoorRows.lean that lists a variable, with what it lists TIED to the program's text (the seventh form; the later family's looks); each row that meets fmt, with fmt's text TOLD by the authors' own Lean function (tested against real Go, not proved from fmt's source: count such statements apart). THE CARD IS WHAT COUNTS. Prove the row's statement (the work); the ties are given (YtmceeioelenigaaGreatDoorTie.lean); close each card by the builder's one call (the guide's Derived/Test/ToyasCard.lean, 'card_holds'). Laid BY PROGRAM, IN A SANDBOX (cutbox-door.mjs). By AI agents, Wed Nov 11 2026. No macro, syntax, notation, axiom, sorry.
-/
import Derived.Test.YtmceeioelenigaaGreatDoorRows
import GoSem.ClaimSeven
namespace Go.Proofs.YtmceeioelenigaaGreatDoor
namespace Rows

/-- THE TIED CARD OF 'laws.FnUrlText'. -/
def fnUrlTextCard : Claim7 := { stood := { row := fnUrlTextRow, standIns := [], harness := (true, "21ee4e5a09c4afecb29aec00e85b8262359806d6a4e10eb70b3eb8a735abf644"), looks := true }, kinds := [], alts := [], laidByText := true, laidKinds := [.data, .data, .data, .data, .handle, .data, .data, .data, .pinned], laidTests := true, laidLooks := .later }
def FnUrlTextCardSaid : Prop := Claim7.holds Tryz.pinned (.plain (OpenSpec.ofChange fnUrlTextSpec)) fnUrlTextCard

/-- THE TIED CARD OF 'laws.FnExactUrlRead'. -/
def fnExactUrlReadCard : Claim7 := { stood := { row := fnExactUrlReadRow, standIns := [], harness := (true, "21ee4e5a09c4afecb29aec00e85b8262359806d6a4e10eb70b3eb8a735abf644"), looks := true }, kinds := [], alts := [], laidByText := true, laidKinds := [.data, .data, .data, .data, .handle, .data, .data, .data, .pinned], laidTests := true, laidLooks := .later }
def FnExactUrlReadCardSaid : Prop := Claim7.holds Tryz.pinned (.plain (OpenSpec.ofChange fnExactUrlReadSpec)) fnExactUrlReadCard

/-- THE TIED CARD OF 'laws.FnExactDskBoard'. -/
def fnExactDskBoardCard : Claim7 := { stood := { row := fnExactDskBoardRow, standIns := [], harness := (true, "21ee4e5a09c4afecb29aec00e85b8262359806d6a4e10eb70b3eb8a735abf644"), looks := true }, kinds := [], alts := [], laidByText := true, laidKinds := [.data, .data, .data], laidTests := true, laidLooks := .later }
def FnExactDskBoardCardSaid : Prop := Claim7.holds Tryz.pinned (.plain (OpenSpec.ofChange fnExactDskBoardSpec)) fnExactDskBoardCard

/-- THE TIED CARD OF 'laws.FnUrlRead'. -/
def fnUrlReadCard : Claim7 := { stood := { row := fnUrlReadRow, standIns := [], harness := (true, "21ee4e5a09c4afecb29aec00e85b8262359806d6a4e10eb70b3eb8a735abf644"), looks := true }, kinds := [], alts := [], laidByText := true, laidKinds := [.data, .data, .data, .data, .handle, .data, .data, .data, .pinned], laidTests := true, laidLooks := .later }
def FnUrlReadCardSaid : Prop := Claim7.holds Tryz.pinned (.plain (OpenSpec.ofChange fnUrlReadSpec)) fnUrlReadCard

/-- THE TIED CARD OF 'laws.FnDskSame'. -/
def fnDskSameCard : Claim7 := { stood := { row := fnDskSameRow, standIns := [], harness := (true, "21ee4e5a09c4afecb29aec00e85b8262359806d6a4e10eb70b3eb8a735abf644"), looks := true }, kinds := [], alts := [], laidByText := true, laidKinds := [.data, .data, .data, .data, .data, .pinned], laidTests := true, laidLooks := .later }
def FnDskSameCardSaid : Prop := Claim7.holds Tryz.pinned (.plain (OpenSpec.ofChange fnDskSameSpec)) fnDskSameCard

/-- THE TIED CARD OF 'laws.FnDskText'. -/
def fnDskTextCard : Claim7 := { stood := { row := fnDskTextRow, standIns := [], harness := (true, "21ee4e5a09c4afecb29aec00e85b8262359806d6a4e10eb70b3eb8a735abf644"), looks := true }, kinds := [], alts := [], laidByText := true, laidKinds := [.data, .data, .data, .data, .data, .pinned], laidTests := true, laidLooks := .later }
def FnDskTextCardSaid : Prop := Claim7.holds Tryz.pinned (.plain (OpenSpec.ofChange fnDskTextSpec)) fnDskTextCard

/-- THE TIED CARD OF 'laws.FnDskBoard'. -/
def fnDskBoardCard : Claim7 := { stood := { row := fnDskBoardRow, standIns := [], harness := (true, "21ee4e5a09c4afecb29aec00e85b8262359806d6a4e10eb70b3eb8a735abf644"), looks := true }, kinds := [], alts := [], laidByText := true, laidKinds := [.data, .data, .data], laidTests := true, laidLooks := .later }
def FnDskBoardCardSaid : Prop := Claim7.holds Tryz.pinned (.plain (OpenSpec.ofChange fnDskBoardSpec)) fnDskBoardCard

/-- THE SECOND FORM's CARD OF 'laws.FnUrlText'. -/
def fnUrlTextUptoCard : Claim7 := { stood := { row := fnUrlTextUptoRow, standIns := [], harness := (true, "21ee4e5a09c4afecb29aec00e85b8262359806d6a4e10eb70b3eb8a735abf644"), looks := true }, kinds := [], alts := [], laidByText := true, laidKinds := [.data, .data, .data, .data, .handle, .data, .data, .data, .pinned], laidTests := true, laidLooks := .later }
def FnUrlTextUptoCardSaid : Prop := Claim7.holds Tryz.pinned (.plain (OpenSpec.upto fnUrlTextSpec)) fnUrlTextUptoCard

/-- THE SECOND FORM's CARD OF 'laws.FnExactUrlRead'. -/
def fnExactUrlReadUptoCard : Claim7 := { stood := { row := fnExactUrlReadUptoRow, standIns := [], harness := (true, "21ee4e5a09c4afecb29aec00e85b8262359806d6a4e10eb70b3eb8a735abf644"), looks := true }, kinds := [], alts := [], laidByText := true, laidKinds := [.data, .data, .data, .data, .handle, .data, .data, .data, .pinned], laidTests := true, laidLooks := .later }
def FnExactUrlReadUptoCardSaid : Prop := Claim7.holds Tryz.pinned (.plain (OpenSpec.upto fnExactUrlReadSpec)) fnExactUrlReadUptoCard

/-- THE SECOND FORM's CARD OF 'laws.FnExactDskBoard'. -/
def fnExactDskBoardUptoCard : Claim7 := { stood := { row := fnExactDskBoardUptoRow, standIns := [], harness := (true, "21ee4e5a09c4afecb29aec00e85b8262359806d6a4e10eb70b3eb8a735abf644"), looks := true }, kinds := [], alts := [], laidByText := true, laidKinds := [.data, .data, .data], laidTests := true, laidLooks := .later }
def FnExactDskBoardUptoCardSaid : Prop := Claim7.holds Tryz.pinned (.plain (OpenSpec.upto fnExactDskBoardSpec)) fnExactDskBoardUptoCard

/-- THE SECOND FORM's CARD OF 'laws.FnUrlRead'. -/
def fnUrlReadUptoCard : Claim7 := { stood := { row := fnUrlReadUptoRow, standIns := [], harness := (true, "21ee4e5a09c4afecb29aec00e85b8262359806d6a4e10eb70b3eb8a735abf644"), looks := true }, kinds := [], alts := [], laidByText := true, laidKinds := [.data, .data, .data, .data, .handle, .data, .data, .data, .pinned], laidTests := true, laidLooks := .later }
def FnUrlReadUptoCardSaid : Prop := Claim7.holds Tryz.pinned (.plain (OpenSpec.upto fnUrlReadSpec)) fnUrlReadUptoCard

/-- THE SECOND FORM's CARD OF 'laws.FnDskSame'. -/
def fnDskSameUptoCard : Claim7 := { stood := { row := fnDskSameUptoRow, standIns := [], harness := (true, "21ee4e5a09c4afecb29aec00e85b8262359806d6a4e10eb70b3eb8a735abf644"), looks := true }, kinds := [], alts := [], laidByText := true, laidKinds := [.data, .data, .data, .data, .data, .pinned], laidTests := true, laidLooks := .later }
def FnDskSameUptoCardSaid : Prop := Claim7.holds Tryz.pinned (.plain (OpenSpec.upto fnDskSameSpec)) fnDskSameUptoCard

/-- THE SECOND FORM's CARD OF 'laws.FnDskText'. -/
def fnDskTextUptoCard : Claim7 := { stood := { row := fnDskTextUptoRow, standIns := [], harness := (true, "21ee4e5a09c4afecb29aec00e85b8262359806d6a4e10eb70b3eb8a735abf644"), looks := true }, kinds := [], alts := [], laidByText := true, laidKinds := [.data, .data, .data, .data, .data, .pinned], laidTests := true, laidLooks := .later }
def FnDskTextUptoCardSaid : Prop := Claim7.holds Tryz.pinned (.plain (OpenSpec.upto fnDskTextSpec)) fnDskTextUptoCard

/-- THE SECOND FORM's CARD OF 'laws.FnDskBoard'. -/
def fnDskBoardUptoCard : Claim7 := { stood := { row := fnDskBoardUptoRow, standIns := [], harness := (true, "21ee4e5a09c4afecb29aec00e85b8262359806d6a4e10eb70b3eb8a735abf644"), looks := true }, kinds := [], alts := [], laidByText := true, laidKinds := [.data, .data, .data], laidTests := true, laidLooks := .later }
def FnDskBoardUptoCardSaid : Prop := Claim7.holds Tryz.pinned (.plain (OpenSpec.upto fnDskBoardSpec)) fnDskBoardUptoCard
end Rows
end Go.Proofs.YtmceeioelenigaaGreatDoor
