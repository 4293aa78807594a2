/-
  DERIVED. GIVEN WITH THE SEED: THE CARDS: each row of YtgaccogekmaijaaDoorRows.lean that lists a variable, with what it lists TIED to the program's text (the seventh form; the later family's looks); each row that meets fmt, with fmt's text TOLD by the authors' own Lean function (tested against real Go, not proved from fmt's source: count such statements apart). THE CARD IS WHAT COUNTS. Prove the row's statement (the work); the ties are given (YtgaccogekmaijaaDoorTie.lean); close each card by the builder's one call (the guide's Derived/Test/ToyasCard.lean, 'card_holds'). Laid BY PROGRAM, IN A SANDBOX (cutbox-door.mjs). By AI agents, Wed Nov 11 2026. No macro, syntax, notation, axiom, sorry.
-/
import Derived.Test.YtgaccogekmaijaaDoorRows
import GoSem.ClaimSeven
namespace Go.Proofs.YtgaccogekmaijaaDoor
namespace Rows

/-- THE TIED CARD OF 'frankinglaw13.CodeBack'. -/
def codeBackCard : Claim7 := { stood := { row := codeBackRow, standIns := [], harness := (true, "87d356945b9bc7aaa9beb5f13092485dfe8fdff911bb093b4fbf61a3bc60b6a3"), looks := false }, kinds := [], alts := [], laidByText := true, laidKinds := [.data, .pinned], laidTests := true, laidLooks := .later }
def CodeBackCardSaid : Prop := Claim7.holds Tryd.pinned (.plain (OpenSpec.ofChange codeBackSpec)) codeBackCard

/-- THE TIED CARD OF 'frankinglaw13.CodeKnown'. -/
def codeKnownCard : Claim7 := { stood := { row := codeKnownRow, standIns := [], harness := (true, "87d356945b9bc7aaa9beb5f13092485dfe8fdff911bb093b4fbf61a3bc60b6a3"), looks := false }, kinds := [], alts := [], laidByText := true, laidKinds := [.data, .pinned], laidTests := true, laidLooks := .later }
def CodeKnownCardSaid : Prop := Claim7.holds Tryd.pinned (.plain (OpenSpec.ofChange codeKnownSpec)) codeKnownCard

/-- THE TIED CARD OF 'frankinglaw13.CodeSays'. -/
def codeSaysCard : Claim7 := { stood := { row := codeSaysRow, standIns := [], harness := (true, "87d356945b9bc7aaa9beb5f13092485dfe8fdff911bb093b4fbf61a3bc60b6a3"), looks := false }, kinds := [], alts := [], laidByText := true, laidKinds := [.data, .pinned], laidTests := true, laidLooks := .later }
def CodeSaysCardSaid : Prop := Claim7.holds Tryd.pinned (.plain (OpenSpec.ofChange codeSaysSpec)) codeSaysCard

/-- THE TIED CARD OF 'frankinglaw13.CodeLines'. -/
def codeLinesCard : Claim7 := { stood := { row := codeLinesRow, standIns := [], harness := (true, "87d356945b9bc7aaa9beb5f13092485dfe8fdff911bb093b4fbf61a3bc60b6a3"), looks := false }, kinds := [], alts := [], laidByText := true, laidKinds := [.data, .pinned], laidTests := true, laidLooks := .later }
def CodeLinesCardSaid : Prop := Claim7.holds Tryd.pinned (.plain (OpenSpec.ofChange codeLinesSpec)) codeLinesCard

/-- THE SECOND FORM's CARD OF 'frankinglaw13.CodeBack'. -/
def codeBackUptoCard : Claim7 := { stood := { row := codeBackUptoRow, standIns := [], harness := (true, "87d356945b9bc7aaa9beb5f13092485dfe8fdff911bb093b4fbf61a3bc60b6a3"), looks := false }, kinds := [], alts := [], laidByText := true, laidKinds := [.data, .pinned], laidTests := true, laidLooks := .later }
def CodeBackUptoCardSaid : Prop := Claim7.holds Tryd.pinned (.plain (OpenSpec.upto codeBackSpec)) codeBackUptoCard

/-- THE SECOND FORM's CARD OF 'frankinglaw13.CodeKnown'. -/
def codeKnownUptoCard : Claim7 := { stood := { row := codeKnownUptoRow, standIns := [], harness := (true, "87d356945b9bc7aaa9beb5f13092485dfe8fdff911bb093b4fbf61a3bc60b6a3"), looks := false }, kinds := [], alts := [], laidByText := true, laidKinds := [.data, .pinned], laidTests := true, laidLooks := .later }
def CodeKnownUptoCardSaid : Prop := Claim7.holds Tryd.pinned (.plain (OpenSpec.upto codeKnownSpec)) codeKnownUptoCard

/-- THE SECOND FORM's CARD OF 'frankinglaw13.CodeSays'. -/
def codeSaysUptoCard : Claim7 := { stood := { row := codeSaysUptoRow, standIns := [], harness := (true, "87d356945b9bc7aaa9beb5f13092485dfe8fdff911bb093b4fbf61a3bc60b6a3"), looks := false }, kinds := [], alts := [], laidByText := true, laidKinds := [.data, .pinned], laidTests := true, laidLooks := .later }
def CodeSaysUptoCardSaid : Prop := Claim7.holds Tryd.pinned (.plain (OpenSpec.upto codeSaysSpec)) codeSaysUptoCard

/-- THE SECOND FORM's CARD OF 'frankinglaw13.CodeLines'. -/
def codeLinesUptoCard : Claim7 := { stood := { row := codeLinesUptoRow, standIns := [], harness := (true, "87d356945b9bc7aaa9beb5f13092485dfe8fdff911bb093b4fbf61a3bc60b6a3"), looks := false }, kinds := [], alts := [], laidByText := true, laidKinds := [.data, .pinned], laidTests := true, laidLooks := .later }
def CodeLinesUptoCardSaid : Prop := Claim7.holds Tryd.pinned (.plain (OpenSpec.upto codeLinesSpec)) codeLinesUptoCard
end Rows
end Go.Proofs.YtgaccogekmaijaaDoor
