/-
  DERIVED. GIVEN WITH THE SEED: THE CARDS: each row of YtpmmhcgghldaaaaDoorRows.lean that lists a variable, with what it lists TIED to the program's text (the seventh form; the later family's looks); each row that meets fmt, with fmt's text TOLD by the authors' own Lean function (tested against real Go, not proved from fmt's source: count such statements apart). THE CARD IS WHAT COUNTS. Prove the row's statement (the work); the ties are given (YtpmmhcgghldaaaaDoorTie.lean); close each card by the builder's one call (the guide's Derived/Test/ToyasCard.lean, 'card_holds'). Laid BY PROGRAM, IN A SANDBOX (cutbox-door.mjs). By AI agents, Wed Nov 11 2026. No macro, syntax, notation, axiom, sorry.
-/
import Derived.Test.YtpmmhcgghldaaaaDoorRows
import GoSem.ClaimSeven
namespace Go.Proofs.YtpmmhcgghldaaaaDoor
namespace Rows

/-- THE TIED CARD OF 'acequialaw50.ProbeSpec'. -/
def probeSpecCard : Claim7 := { stood := { row := probeSpecRow, standIns := [], harness := (true, "5aee6abaf595f02a8a3fec2abead80220d78ffe1cf17ab65efd38237db3c9c8d"), looks := false }, kinds := [], alts := [], laidByText := true, laidKinds := [.data, .data], laidTests := true, laidLooks := .later }
def ProbeSpecCardSaid : Prop := Claim7.holds Tryd.pinned (.plain (OpenSpec.ofChange probeSpecSpec)) probeSpecCard

/-- THE TIED CARD OF 'acequialaw50.ProbeFollowSpec'. -/
def probeFollowSpecCard : Claim7 := { stood := { row := probeFollowSpecRow, standIns := [], harness := (true, "5aee6abaf595f02a8a3fec2abead80220d78ffe1cf17ab65efd38237db3c9c8d"), looks := false }, kinds := [], alts := [], laidByText := true, laidKinds := [.data, .data], laidTests := true, laidLooks := .later }
def ProbeFollowSpecCardSaid : Prop := Claim7.holds Tryd.pinned (.plain (OpenSpec.ofChange probeFollowSpecSpec)) probeFollowSpecCard

/-- THE TIED CARD OF 'acequialaw50.ProbeCheapest'. -/
def probeCheapestCard : Claim7 := { stood := { row := probeCheapestRow, standIns := [], harness := (true, "5aee6abaf595f02a8a3fec2abead80220d78ffe1cf17ab65efd38237db3c9c8d"), looks := false }, kinds := [], alts := [], laidByText := true, laidKinds := [.data, .data], laidTests := true, laidLooks := .later }
def ProbeCheapestCardSaid : Prop := Claim7.holds Tryd.pinned (.plain (OpenSpec.ofChange probeCheapestSpec)) probeCheapestCard

/-- THE TIED CARD OF 'acequialaw50.ProbeTruth'. -/
def probeTruthCard : Claim7 := { stood := { row := probeTruthRow, standIns := [], harness := (true, "5aee6abaf595f02a8a3fec2abead80220d78ffe1cf17ab65efd38237db3c9c8d"), looks := false }, kinds := [], alts := [], laidByText := true, laidKinds := [.data, .data], laidTests := true, laidLooks := .later }
def ProbeTruthCardSaid : Prop := Claim7.holds Tryd.pinned (.plain (OpenSpec.ofChange probeTruthSpec)) probeTruthCard

/-- THE TIED CARD OF 'acequialaw50.ProbeFewer'. -/
def probeFewerCard : Claim7 := { stood := { row := probeFewerRow, standIns := [], harness := (true, "5aee6abaf595f02a8a3fec2abead80220d78ffe1cf17ab65efd38237db3c9c8d"), looks := false }, kinds := [], alts := [], laidByText := true, laidKinds := [.data, .data], laidTests := true, laidLooks := .later }
def ProbeFewerCardSaid : Prop := Claim7.holds Tryd.pinned (.plain (OpenSpec.ofChange probeFewerSpec)) probeFewerCard

/-- THE SECOND FORM's CARD OF 'acequialaw50.ProbeSpec'. -/
def probeSpecUptoCard : Claim7 := { stood := { row := probeSpecUptoRow, standIns := [], harness := (true, "5aee6abaf595f02a8a3fec2abead80220d78ffe1cf17ab65efd38237db3c9c8d"), looks := false }, kinds := [], alts := [], laidByText := true, laidKinds := [.data, .data], laidTests := true, laidLooks := .later }
def ProbeSpecUptoCardSaid : Prop := Claim7.holds Tryd.pinned (.plain (OpenSpec.upto probeSpecSpec)) probeSpecUptoCard

/-- THE SECOND FORM's CARD OF 'acequialaw50.ProbeFollowSpec'. -/
def probeFollowSpecUptoCard : Claim7 := { stood := { row := probeFollowSpecUptoRow, standIns := [], harness := (true, "5aee6abaf595f02a8a3fec2abead80220d78ffe1cf17ab65efd38237db3c9c8d"), looks := false }, kinds := [], alts := [], laidByText := true, laidKinds := [.data, .data], laidTests := true, laidLooks := .later }
def ProbeFollowSpecUptoCardSaid : Prop := Claim7.holds Tryd.pinned (.plain (OpenSpec.upto probeFollowSpecSpec)) probeFollowSpecUptoCard

/-- THE SECOND FORM's CARD OF 'acequialaw50.ProbeCheapest'. -/
def probeCheapestUptoCard : Claim7 := { stood := { row := probeCheapestUptoRow, standIns := [], harness := (true, "5aee6abaf595f02a8a3fec2abead80220d78ffe1cf17ab65efd38237db3c9c8d"), looks := false }, kinds := [], alts := [], laidByText := true, laidKinds := [.data, .data], laidTests := true, laidLooks := .later }
def ProbeCheapestUptoCardSaid : Prop := Claim7.holds Tryd.pinned (.plain (OpenSpec.upto probeCheapestSpec)) probeCheapestUptoCard

/-- THE SECOND FORM's CARD OF 'acequialaw50.ProbeTruth'. -/
def probeTruthUptoCard : Claim7 := { stood := { row := probeTruthUptoRow, standIns := [], harness := (true, "5aee6abaf595f02a8a3fec2abead80220d78ffe1cf17ab65efd38237db3c9c8d"), looks := false }, kinds := [], alts := [], laidByText := true, laidKinds := [.data, .data], laidTests := true, laidLooks := .later }
def ProbeTruthUptoCardSaid : Prop := Claim7.holds Tryd.pinned (.plain (OpenSpec.upto probeTruthSpec)) probeTruthUptoCard

/-- THE SECOND FORM's CARD OF 'acequialaw50.ProbeFewer'. -/
def probeFewerUptoCard : Claim7 := { stood := { row := probeFewerUptoRow, standIns := [], harness := (true, "5aee6abaf595f02a8a3fec2abead80220d78ffe1cf17ab65efd38237db3c9c8d"), looks := false }, kinds := [], alts := [], laidByText := true, laidKinds := [.data, .data], laidTests := true, laidLooks := .later }
def ProbeFewerUptoCardSaid : Prop := Claim7.holds Tryd.pinned (.plain (OpenSpec.upto probeFewerSpec)) probeFewerUptoCard
end Rows
end Go.Proofs.YtpmmhcgghldaaaaDoor
