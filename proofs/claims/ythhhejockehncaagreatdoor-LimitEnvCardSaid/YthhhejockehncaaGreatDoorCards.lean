/-
  DERIVED. GIVEN WITH THE SEED: THE CARDS: each row of YthhhejockehncaaGreatDoorRows.lean that lists a variable, with what it lists TIED to the program's text (the seventh form; the later family's looks); each row that meets fmt, with fmt's text TOLD by the authors' own Lean function (tested against real Go, not proved from fmt's source: count such statements apart). THE CARD IS WHAT COUNTS. Prove the row's statement (the work); the ties are given (YthhhejockehncaaGreatDoorTie.lean); close each card by the builder's one call (the guide's Derived/Test/ToyasCard.lean, 'card_holds'). Laid BY PROGRAM, IN A SANDBOX (cutbox-door.mjs). By AI agents, Wed Nov 11 2026. No macro, syntax, notation, axiom, sorry.
-/
import Derived.Test.YthhhejockehncaaGreatDoorRows
import GoSem.ClaimSeven
namespace Go.Proofs.YthhhejockehncaaGreatDoor
namespace Rows

/-- THE TIED CARD OF 'corebanklaw25.LimitEnv'. -/
def limitEnvCard : Claim7 := { stood := { row := limitEnvRow, standIns := [], harness := (true, "74f726849796a93a4dd8c08d0800dfcf3f05d2ea8397f184d478ab96215461f6"), looks := true }, kinds := [], alts := [], laidByText := true, laidKinds := [.data, .data, .data, .data, .sentinel, .sentinel, .listed, .data], laidTests := true, laidLooks := .later }
def LimitEnvCardSaid : Prop := Claim7.holds Tryz.pinned (.plain (OpenSpec.ofChange limitEnvSpec)) limitEnvCard

/-- THE TIED CARD OF 'corebanklaw25.LimitAvailable'. -/
def limitAvailableCard : Claim7 := { stood := { row := limitAvailableRow, standIns := [], harness := (true, "74f726849796a93a4dd8c08d0800dfcf3f05d2ea8397f184d478ab96215461f6"), looks := true }, kinds := [], alts := [], laidByText := true, laidKinds := [.data, .data, .data, .data, .sentinel, .sentinel, .listed, .data], laidTests := true, laidLooks := .later }
def LimitAvailableCardSaid : Prop := Claim7.holds Tryz.pinned (.plain (OpenSpec.ofChange limitAvailableSpec)) limitAvailableCard

/-- THE SECOND FORM's CARD OF 'corebanklaw25.LimitEnv'. -/
def limitEnvUptoCard : Claim7 := { stood := { row := limitEnvUptoRow, standIns := [], harness := (true, "74f726849796a93a4dd8c08d0800dfcf3f05d2ea8397f184d478ab96215461f6"), looks := true }, kinds := [], alts := [], laidByText := true, laidKinds := [.data, .data, .data, .data, .sentinel, .sentinel, .listed, .data], laidTests := true, laidLooks := .later }
def LimitEnvUptoCardSaid : Prop := Claim7.holds Tryz.pinned (.plain (OpenSpec.upto limitEnvSpec)) limitEnvUptoCard

/-- THE SECOND FORM's CARD OF 'corebanklaw25.LimitAvailable'. -/
def limitAvailableUptoCard : Claim7 := { stood := { row := limitAvailableUptoRow, standIns := [], harness := (true, "74f726849796a93a4dd8c08d0800dfcf3f05d2ea8397f184d478ab96215461f6"), looks := true }, kinds := [], alts := [], laidByText := true, laidKinds := [.data, .data, .data, .data, .sentinel, .sentinel, .listed, .data], laidTests := true, laidLooks := .later }
def LimitAvailableUptoCardSaid : Prop := Claim7.holds Tryz.pinned (.plain (OpenSpec.upto limitAvailableSpec)) limitAvailableUptoCard
end Rows
end Go.Proofs.YthhhejockehncaaGreatDoor
