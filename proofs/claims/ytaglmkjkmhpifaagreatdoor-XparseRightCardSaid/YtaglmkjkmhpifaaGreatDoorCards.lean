/-
  DERIVED. GIVEN WITH THE SEED: THE CARDS: each row of YtaglmkjkmhpifaaGreatDoorRows.lean that lists a variable, with what it lists TIED to the program's text (the seventh form; the later family's looks); each row that meets fmt, with fmt's text TOLD by the authors' own Lean function (tested against real Go, not proved from fmt's source: count such statements apart). THE CARD IS WHAT COUNTS. Prove the row's statement (the work); the ties are given (YtaglmkjkmhpifaaGreatDoorTie.lean); close each card by the builder's one call (the guide's Derived/Test/ToyasCard.lean, 'card_holds'). Laid BY PROGRAM, IN A SANDBOX (cutbox-door.mjs). By AI agents, Wed Nov 11 2026. No macro, syntax, notation, axiom, sorry.
-/
import Derived.Test.YtaglmkjkmhpifaaGreatDoorRows
import GoSem.ClaimSeven
namespace Go.Proofs.YtaglmkjkmhpifaaGreatDoor
namespace Rows

/-- THE TIED CARD OF 'scantlinglaw43.XparseBack'. -/
def xparseBackCard : Claim7 := { stood := { row := xparseBackRow, standIns := [], harness := (true, "a3478f2f58841b1d320cf84f0e2e83e8beaa10c7a3e3458d011d832524f430c7"), looks := true }, kinds := [], alts := [], laidByText := true, laidKinds := [.data, .data, .data], laidTests := true, laidLooks := .later }
def XparseBackCardSaid : Prop := Claim7.holds Tryz.pinned (.plain (OpenSpec.ofChange xparseBackSpec)) xparseBackCard

/-- THE TIED CARD OF 'scantlinglaw43.XparseRight'. -/
def xparseRightCard : Claim7 := { stood := { row := xparseRightRow, standIns := [], harness := (true, "a3478f2f58841b1d320cf84f0e2e83e8beaa10c7a3e3458d011d832524f430c7"), looks := true }, kinds := [], alts := [], laidByText := true, laidKinds := [.data, .data, .data], laidTests := true, laidLooks := .later }
def XparseRightCardSaid : Prop := Claim7.holds Tryz.pinned (.plain (OpenSpec.ofChange xparseRightSpec)) xparseRightCard

/-- THE SECOND FORM's CARD OF 'scantlinglaw43.XparseBack'. -/
def xparseBackUptoCard : Claim7 := { stood := { row := xparseBackUptoRow, standIns := [], harness := (true, "a3478f2f58841b1d320cf84f0e2e83e8beaa10c7a3e3458d011d832524f430c7"), looks := true }, kinds := [], alts := [], laidByText := true, laidKinds := [.data, .data, .data], laidTests := true, laidLooks := .later }
def XparseBackUptoCardSaid : Prop := Claim7.holds Tryz.pinned (.plain (OpenSpec.upto xparseBackSpec)) xparseBackUptoCard

/-- THE SECOND FORM's CARD OF 'scantlinglaw43.XparseRight'. -/
def xparseRightUptoCard : Claim7 := { stood := { row := xparseRightUptoRow, standIns := [], harness := (true, "a3478f2f58841b1d320cf84f0e2e83e8beaa10c7a3e3458d011d832524f430c7"), looks := true }, kinds := [], alts := [], laidByText := true, laidKinds := [.data, .data, .data], laidTests := true, laidLooks := .later }
def XparseRightUptoCardSaid : Prop := Claim7.holds Tryz.pinned (.plain (OpenSpec.upto xparseRightSpec)) xparseRightUptoCard
end Rows
end Go.Proofs.YtaglmkjkmhpifaaGreatDoor
