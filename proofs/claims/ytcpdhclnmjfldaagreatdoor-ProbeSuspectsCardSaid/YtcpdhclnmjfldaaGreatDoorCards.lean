/-
  DERIVED. GIVEN WITH THE SEED: THE CARDS: each row of YtcpdhclnmjfldaaGreatDoorRows.lean that lists a variable, with what it lists TIED to the program's text (the seventh form; the later family's looks); each row that meets fmt, with fmt's text TOLD by the authors' own Lean function (tested against real Go, not proved from fmt's source: count such statements apart). THE CARD IS WHAT COUNTS. Prove the row's statement (the work); the ties are given (YtcpdhclnmjfldaaGreatDoorTie.lean); close each card by the builder's one call (the guide's Derived/Test/ToyasCard.lean, 'card_holds'). Laid BY PROGRAM, IN A SANDBOX (cutbox-door.mjs). By AI agents, Wed Nov 11 2026. No macro, syntax, notation, axiom, sorry.
-/
import Derived.Test.YtcpdhclnmjfldaaGreatDoorRows
import GoSem.ClaimSeven
namespace Go.Proofs.YtcpdhclnmjfldaaGreatDoor
namespace Rows

/-- THE TIED CARD OF 'acequialaw50.ProbeSuspects'. -/
def probeSuspectsCard : Claim7 := { stood := { row := probeSuspectsRow, standIns := [], harness := (true, "544b3e2067e8ced983accf15a33651179c2ae0b84350a0cb3663f04698b0d8dd"), looks := true }, kinds := [], alts := [], laidByText := true, laidKinds := [.data, .data], laidTests := true, laidLooks := .later }
def ProbeSuspectsCardSaid : Prop := Claim7.holds Tryz.pinned (.plain (OpenSpec.ofChange probeSuspectsSpec)) probeSuspectsCard

/-- THE SECOND FORM's CARD OF 'acequialaw50.ProbeSuspects'. -/
def probeSuspectsUptoCard : Claim7 := { stood := { row := probeSuspectsUptoRow, standIns := [], harness := (true, "544b3e2067e8ced983accf15a33651179c2ae0b84350a0cb3663f04698b0d8dd"), looks := true }, kinds := [], alts := [], laidByText := true, laidKinds := [.data, .data], laidTests := true, laidLooks := .later }
def ProbeSuspectsUptoCardSaid : Prop := Claim7.holds Tryz.pinned (.plain (OpenSpec.upto probeSuspectsSpec)) probeSuspectsUptoCard
end Rows
end Go.Proofs.YtcpdhclnmjfldaaGreatDoor
