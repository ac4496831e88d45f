/-
  DERIVED. GIVEN WITH THE SEED: THE CARDS: each row of YtaglmkjkmhpifaaDoorRows.lean that lists a variable, with what it lists TIED to the program's text (the seventh form; the later family's looks); each row that meets fmt, with fmt's text TOLD by the authors' own Lean function (tested against real Go, not proved from fmt's source: count such statements apart). THE CARD IS WHAT COUNTS. Prove the row's statement (the work); the ties are given (YtaglmkjkmhpifaaDoorTie.lean); close each card by the builder's one call (the guide's Derived/Test/ToyasCard.lean, 'card_holds'). Laid BY PROGRAM, IN A SANDBOX (cutbox-door.mjs). By AI agents, Wed Nov 11 2026. No macro, syntax, notation, axiom, sorry.
-/
import Derived.Test.YtaglmkjkmhpifaaDoorRows
import GoSem.ClaimSeven
namespace Go.Proofs.YtaglmkjkmhpifaaDoor
namespace Rows

/-- THE TIED CARD OF 'scantlinglaw31.EmitDevice'. -/
def emitDeviceCard : Claim7 := { stood := { row := emitDeviceRow, standIns := [], harness := (true, "e0c0e1da8884e8da5ea9ad341e964328035fa5afd877e9fd861d7544470112db"), looks := true }, kinds := [], alts := [], laidByText := true, laidKinds := [.data, .data, .data], laidTests := true, laidLooks := .later }
def EmitDeviceCardSaid : Prop := Claim7.holds Tryd.pinned (.plain (OpenSpec.ofChange emitDeviceSpec)) emitDeviceCard

/-- THE TIED CARD OF 'scantlinglaw31.EmitTells'. -/
def emitTellsCard : Claim7 := { stood := { row := emitTellsRow, standIns := [], harness := (true, "e0c0e1da8884e8da5ea9ad341e964328035fa5afd877e9fd861d7544470112db"), looks := true }, kinds := [], alts := [], laidByText := true, laidKinds := [.data, .data, .data], laidTests := true, laidLooks := .later }
def EmitTellsCardSaid : Prop := Claim7.holds Tryd.pinned (.plain (OpenSpec.ofChange emitTellsSpec)) emitTellsCard

/-- THE TIED CARD OF 'scantlinglaw31.EmitOne'. -/
def emitOneCard : Claim7 := { stood := { row := emitOneRow, standIns := [], harness := (true, "e0c0e1da8884e8da5ea9ad341e964328035fa5afd877e9fd861d7544470112db"), looks := true }, kinds := [], alts := [], laidByText := true, laidKinds := [.data, .data, .data], laidTests := true, laidLooks := .later }
def EmitOneCardSaid : Prop := Claim7.holds Tryd.pinned (.plain (OpenSpec.ofChange emitOneSpec)) emitOneCard

/-- THE TIED CARD OF 'scantlinglaw42.XmlTells'. -/
def xmlTellsCard : Claim7 := { stood := { row := xmlTellsRow, standIns := [], harness := (true, "e0c0e1da8884e8da5ea9ad341e964328035fa5afd877e9fd861d7544470112db"), looks := true }, kinds := [], alts := [], laidByText := true, laidKinds := [.data, .data, .data], laidTests := true, laidLooks := .later }
def XmlTellsCardSaid : Prop := Claim7.holds Tryd.pinned (.plain (OpenSpec.ofChange xmlTellsSpec)) xmlTellsCard

/-- THE TIED CARD OF 'scantlinglaw42.XmlOne'. -/
def xmlOneCard : Claim7 := { stood := { row := xmlOneRow, standIns := [], harness := (true, "e0c0e1da8884e8da5ea9ad341e964328035fa5afd877e9fd861d7544470112db"), looks := true }, kinds := [], alts := [], laidByText := true, laidKinds := [.data, .data, .data], laidTests := true, laidLooks := .later }
def XmlOneCardSaid : Prop := Claim7.holds Tryd.pinned (.plain (OpenSpec.ofChange xmlOneSpec)) xmlOneCard

/-- THE SECOND FORM's CARD OF 'scantlinglaw31.EmitDevice'. -/
def emitDeviceUptoCard : Claim7 := { stood := { row := emitDeviceUptoRow, standIns := [], harness := (true, "e0c0e1da8884e8da5ea9ad341e964328035fa5afd877e9fd861d7544470112db"), looks := true }, kinds := [], alts := [], laidByText := true, laidKinds := [.data, .data, .data], laidTests := true, laidLooks := .later }
def EmitDeviceUptoCardSaid : Prop := Claim7.holds Tryd.pinned (.plain (OpenSpec.upto emitDeviceSpec)) emitDeviceUptoCard

/-- THE SECOND FORM's CARD OF 'scantlinglaw31.EmitTells'. -/
def emitTellsUptoCard : Claim7 := { stood := { row := emitTellsUptoRow, standIns := [], harness := (true, "e0c0e1da8884e8da5ea9ad341e964328035fa5afd877e9fd861d7544470112db"), looks := true }, kinds := [], alts := [], laidByText := true, laidKinds := [.data, .data, .data], laidTests := true, laidLooks := .later }
def EmitTellsUptoCardSaid : Prop := Claim7.holds Tryd.pinned (.plain (OpenSpec.upto emitTellsSpec)) emitTellsUptoCard

/-- THE SECOND FORM's CARD OF 'scantlinglaw31.EmitOne'. -/
def emitOneUptoCard : Claim7 := { stood := { row := emitOneUptoRow, standIns := [], harness := (true, "e0c0e1da8884e8da5ea9ad341e964328035fa5afd877e9fd861d7544470112db"), looks := true }, kinds := [], alts := [], laidByText := true, laidKinds := [.data, .data, .data], laidTests := true, laidLooks := .later }
def EmitOneUptoCardSaid : Prop := Claim7.holds Tryd.pinned (.plain (OpenSpec.upto emitOneSpec)) emitOneUptoCard

/-- THE SECOND FORM's CARD OF 'scantlinglaw42.XmlTells'. -/
def xmlTellsUptoCard : Claim7 := { stood := { row := xmlTellsUptoRow, standIns := [], harness := (true, "e0c0e1da8884e8da5ea9ad341e964328035fa5afd877e9fd861d7544470112db"), looks := true }, kinds := [], alts := [], laidByText := true, laidKinds := [.data, .data, .data], laidTests := true, laidLooks := .later }
def XmlTellsUptoCardSaid : Prop := Claim7.holds Tryd.pinned (.plain (OpenSpec.upto xmlTellsSpec)) xmlTellsUptoCard

/-- THE SECOND FORM's CARD OF 'scantlinglaw42.XmlOne'. -/
def xmlOneUptoCard : Claim7 := { stood := { row := xmlOneUptoRow, standIns := [], harness := (true, "e0c0e1da8884e8da5ea9ad341e964328035fa5afd877e9fd861d7544470112db"), looks := true }, kinds := [], alts := [], laidByText := true, laidKinds := [.data, .data, .data], laidTests := true, laidLooks := .later }
def XmlOneUptoCardSaid : Prop := Claim7.holds Tryd.pinned (.plain (OpenSpec.upto xmlOneSpec)) xmlOneUptoCard
end Rows
end Go.Proofs.YtaglmkjkmhpifaaDoor
