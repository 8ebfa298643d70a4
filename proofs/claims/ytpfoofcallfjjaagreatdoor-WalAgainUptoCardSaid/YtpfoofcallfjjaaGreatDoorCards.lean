/-
  DERIVED. GIVEN WITH THE SEED: THE CARDS: each row of YtpfoofcallfjjaaGreatDoorRows.lean that lists a variable, with what it lists TIED to the program's text (the seventh form; the later family's looks); each row that meets fmt, with fmt's text TOLD by the authors' own Lean function (tested against real Go, not proved from fmt's source: count such statements apart). THE CARD IS WHAT COUNTS. Prove the row's statement (the work); the ties are given (YtpfoofcallfjjaaGreatDoorTie.lean); close each card by the builder's one call (the guide's Derived/Test/ToyasCard.lean, 'card_holds'). Laid BY PROGRAM, IN A SANDBOX (cutbox-door.mjs). By AI agents, Wed Nov 11 2026. No macro, syntax, notation, axiom, sorry.
-/
import Derived.Test.YtpfoofcallfjjaaGreatDoorRows
import GoSem.ClaimSeven
namespace Go.Proofs.YtpfoofcallfjjaaGreatDoor
namespace Rows

/-- THE TIED CARD OF 'orchardlaw05.WalCuts'. -/
def walCutsCard : Claim7 := { stood := { row := walCutsRow, standIns := [], harness := (true, "073c6cba1afcd7ca49110c9acdbc2832d10e0f5b930a9ea691b74348cfd860a9"), looks := true }, kinds := [], alts := [], laidByText := true, laidKinds := [.data, .data, .data, .sentinel, .sentinel], laidTests := true, laidLooks := .later }
def WalCutsCardSaid : Prop := Claim7.holds Tryz.pinned (.plain (OpenSpec.ofChange walCutsSpec)) walCutsCard

/-- THE TIED CARD OF 'orchardlaw05.WalOwn'. -/
def walOwnCard : Claim7 := { stood := { row := walOwnRow, standIns := [], harness := (true, "073c6cba1afcd7ca49110c9acdbc2832d10e0f5b930a9ea691b74348cfd860a9"), looks := true }, kinds := [], alts := [], laidByText := true, laidKinds := [.data, .data, .data, .sentinel, .sentinel], laidTests := true, laidLooks := .later }
def WalOwnCardSaid : Prop := Claim7.holds Tryz.pinned (.plain (OpenSpec.ofChange walOwnSpec)) walOwnCard

/-- THE TIED CARD OF 'orchardlaw05.WalAgain'. -/
def walAgainCard : Claim7 := { stood := { row := walAgainRow, standIns := [], harness := (true, "073c6cba1afcd7ca49110c9acdbc2832d10e0f5b930a9ea691b74348cfd860a9"), looks := true }, kinds := [], alts := [], laidByText := true, laidKinds := [.data, .data, .data, .sentinel, .sentinel], laidTests := true, laidLooks := .later }
def WalAgainCardSaid : Prop := Claim7.holds Tryz.pinned (.plain (OpenSpec.ofChange walAgainSpec)) walAgainCard

/-- THE SECOND FORM's CARD OF 'orchardlaw05.WalCuts'. -/
def walCutsUptoCard : Claim7 := { stood := { row := walCutsUptoRow, standIns := [], harness := (true, "073c6cba1afcd7ca49110c9acdbc2832d10e0f5b930a9ea691b74348cfd860a9"), looks := true }, kinds := [], alts := [], laidByText := true, laidKinds := [.data, .data, .data, .sentinel, .sentinel], laidTests := true, laidLooks := .later }
def WalCutsUptoCardSaid : Prop := Claim7.holds Tryz.pinned (.plain (OpenSpec.upto walCutsSpec)) walCutsUptoCard

/-- THE SECOND FORM's CARD OF 'orchardlaw05.WalOwn'. -/
def walOwnUptoCard : Claim7 := { stood := { row := walOwnUptoRow, standIns := [], harness := (true, "073c6cba1afcd7ca49110c9acdbc2832d10e0f5b930a9ea691b74348cfd860a9"), looks := true }, kinds := [], alts := [], laidByText := true, laidKinds := [.data, .data, .data, .sentinel, .sentinel], laidTests := true, laidLooks := .later }
def WalOwnUptoCardSaid : Prop := Claim7.holds Tryz.pinned (.plain (OpenSpec.upto walOwnSpec)) walOwnUptoCard

/-- THE SECOND FORM's CARD OF 'orchardlaw05.WalAgain'. -/
def walAgainUptoCard : Claim7 := { stood := { row := walAgainUptoRow, standIns := [], harness := (true, "073c6cba1afcd7ca49110c9acdbc2832d10e0f5b930a9ea691b74348cfd860a9"), looks := true }, kinds := [], alts := [], laidByText := true, laidKinds := [.data, .data, .data, .sentinel, .sentinel], laidTests := true, laidLooks := .later }
def WalAgainUptoCardSaid : Prop := Claim7.holds Tryz.pinned (.plain (OpenSpec.upto walAgainSpec)) walAgainUptoCard
end Rows
end Go.Proofs.YtpfoofcallfjjaaGreatDoor
