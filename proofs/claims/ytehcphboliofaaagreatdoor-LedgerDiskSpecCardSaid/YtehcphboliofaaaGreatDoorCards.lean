/-
  DERIVED. GIVEN WITH THE SEED: THE CARDS: each row of YtehcphboliofaaaGreatDoorRows.lean that lists a variable, with what it lists TIED to the program's text (the seventh form; the later family's looks); each row that meets fmt, with fmt's text TOLD by the authors' own Lean function (tested against real Go, not proved from fmt's source: count such statements apart). THE CARD IS WHAT COUNTS. Prove the row's statement (the work); the ties are given (YtehcphboliofaaaGreatDoorTie.lean); close each card by the builder's one call (the guide's Derived/Test/ToyasCard.lean, 'card_holds'). Laid BY PROGRAM, IN A SANDBOX (cutbox-door.mjs). By AI agents, Wed Nov 11 2026. No macro, syntax, notation, axiom, sorry.
-/
import Derived.Test.YtehcphboliofaaaGreatDoorRows
import GoSem.ClaimSeven
namespace Go.Proofs.YtehcphboliofaaaGreatDoor
namespace Rows

/-- THE TIED CARD OF 'acequialaw56.LedgerSpec'. -/
def ledgerSpecCard : Claim7 := { stood := { row := ledgerSpecRow, standIns := [], harness := (true, "1e00cc163439e1cf622651e539ea458c1c11e373a95c8f8d3d9db06ca2391d9a"), looks := true }, kinds := [], alts := [], laidByText := true, laidKinds := [.data, .data], laidTests := true, laidLooks := .later }
def LedgerSpecCardSaid : Prop := Claim7.holds Tryz.pinned (.plain (OpenSpec.ofChange ledgerSpecSpec)) ledgerSpecCard

/-- THE TIED CARD OF 'acequialaw56.LedgerDiskSpec'. -/
def ledgerDiskSpecCard : Claim7 := { stood := { row := ledgerDiskSpecRow, standIns := [], harness := (true, "1e00cc163439e1cf622651e539ea458c1c11e373a95c8f8d3d9db06ca2391d9a"), looks := true }, kinds := [], alts := [], laidByText := true, laidKinds := [.data, .data], laidTests := true, laidLooks := .later }
def LedgerDiskSpecCardSaid : Prop := Claim7.holds Tryz.pinned (.plain (OpenSpec.ofChange ledgerDiskSpecSpec)) ledgerDiskSpecCard

/-- THE TIED CARD OF 'acequialaw56.LedgerOfSpec'. -/
def ledgerOfSpecCard : Claim7 := { stood := { row := ledgerOfSpecRow, standIns := [], harness := (true, "1e00cc163439e1cf622651e539ea458c1c11e373a95c8f8d3d9db06ca2391d9a"), looks := true }, kinds := [], alts := [], laidByText := true, laidKinds := [.data, .data], laidTests := true, laidLooks := .later }
def LedgerOfSpecCardSaid : Prop := Claim7.holds Tryz.pinned (.plain (OpenSpec.ofChange ledgerOfSpecSpec)) ledgerOfSpecCard

/-- THE TIED CARD OF 'acequialaw56.LedgerEntry'. -/
def ledgerEntryCard : Claim7 := { stood := { row := ledgerEntryRow, standIns := [], harness := (true, "1e00cc163439e1cf622651e539ea458c1c11e373a95c8f8d3d9db06ca2391d9a"), looks := true }, kinds := [], alts := [], laidByText := true, laidKinds := [.data, .data], laidTests := true, laidLooks := .later }
def LedgerEntryCardSaid : Prop := Claim7.holds Tryz.pinned (.plain (OpenSpec.ofChange ledgerEntrySpec)) ledgerEntryCard

/-- THE TIED CARD OF 'acequialaw56.LedgerPost'. -/
def ledgerPostCard : Claim7 := { stood := { row := ledgerPostRow, standIns := [], harness := (true, "1e00cc163439e1cf622651e539ea458c1c11e373a95c8f8d3d9db06ca2391d9a"), looks := true }, kinds := [], alts := [], laidByText := true, laidKinds := [.data, .data], laidTests := true, laidLooks := .later }
def LedgerPostCardSaid : Prop := Claim7.holds Tryz.pinned (.plain (OpenSpec.ofChange ledgerPostSpec)) ledgerPostCard

/-- THE TIED CARD OF 'acequialaw56.LedgerTorn'. -/
def ledgerTornCard : Claim7 := { stood := { row := ledgerTornRow, standIns := [], harness := (true, "1e00cc163439e1cf622651e539ea458c1c11e373a95c8f8d3d9db06ca2391d9a"), looks := true }, kinds := [], alts := [], laidByText := true, laidKinds := [.data, .data], laidTests := true, laidLooks := .later }
def LedgerTornCardSaid : Prop := Claim7.holds Tryz.pinned (.plain (OpenSpec.ofChange ledgerTornSpec)) ledgerTornCard

/-- THE TIED CARD OF 'acequialaw56.LedgerRun'. -/
def ledgerRunCard : Claim7 := { stood := { row := ledgerRunRow, standIns := [], harness := (true, "1e00cc163439e1cf622651e539ea458c1c11e373a95c8f8d3d9db06ca2391d9a"), looks := true }, kinds := [], alts := [], laidByText := true, laidKinds := [.data, .data], laidTests := true, laidLooks := .later }
def LedgerRunCardSaid : Prop := Claim7.holds Tryz.pinned (.plain (OpenSpec.ofChange ledgerRunSpec)) ledgerRunCard

/-- THE SECOND FORM's CARD OF 'acequialaw56.LedgerSpec'. -/
def ledgerSpecUptoCard : Claim7 := { stood := { row := ledgerSpecUptoRow, standIns := [], harness := (true, "1e00cc163439e1cf622651e539ea458c1c11e373a95c8f8d3d9db06ca2391d9a"), looks := true }, kinds := [], alts := [], laidByText := true, laidKinds := [.data, .data], laidTests := true, laidLooks := .later }
def LedgerSpecUptoCardSaid : Prop := Claim7.holds Tryz.pinned (.plain (OpenSpec.upto ledgerSpecSpec)) ledgerSpecUptoCard

/-- THE SECOND FORM's CARD OF 'acequialaw56.LedgerDiskSpec'. -/
def ledgerDiskSpecUptoCard : Claim7 := { stood := { row := ledgerDiskSpecUptoRow, standIns := [], harness := (true, "1e00cc163439e1cf622651e539ea458c1c11e373a95c8f8d3d9db06ca2391d9a"), looks := true }, kinds := [], alts := [], laidByText := true, laidKinds := [.data, .data], laidTests := true, laidLooks := .later }
def LedgerDiskSpecUptoCardSaid : Prop := Claim7.holds Tryz.pinned (.plain (OpenSpec.upto ledgerDiskSpecSpec)) ledgerDiskSpecUptoCard

/-- THE SECOND FORM's CARD OF 'acequialaw56.LedgerOfSpec'. -/
def ledgerOfSpecUptoCard : Claim7 := { stood := { row := ledgerOfSpecUptoRow, standIns := [], harness := (true, "1e00cc163439e1cf622651e539ea458c1c11e373a95c8f8d3d9db06ca2391d9a"), looks := true }, kinds := [], alts := [], laidByText := true, laidKinds := [.data, .data], laidTests := true, laidLooks := .later }
def LedgerOfSpecUptoCardSaid : Prop := Claim7.holds Tryz.pinned (.plain (OpenSpec.upto ledgerOfSpecSpec)) ledgerOfSpecUptoCard

/-- THE SECOND FORM's CARD OF 'acequialaw56.LedgerEntry'. -/
def ledgerEntryUptoCard : Claim7 := { stood := { row := ledgerEntryUptoRow, standIns := [], harness := (true, "1e00cc163439e1cf622651e539ea458c1c11e373a95c8f8d3d9db06ca2391d9a"), looks := true }, kinds := [], alts := [], laidByText := true, laidKinds := [.data, .data], laidTests := true, laidLooks := .later }
def LedgerEntryUptoCardSaid : Prop := Claim7.holds Tryz.pinned (.plain (OpenSpec.upto ledgerEntrySpec)) ledgerEntryUptoCard

/-- THE SECOND FORM's CARD OF 'acequialaw56.LedgerPost'. -/
def ledgerPostUptoCard : Claim7 := { stood := { row := ledgerPostUptoRow, standIns := [], harness := (true, "1e00cc163439e1cf622651e539ea458c1c11e373a95c8f8d3d9db06ca2391d9a"), looks := true }, kinds := [], alts := [], laidByText := true, laidKinds := [.data, .data], laidTests := true, laidLooks := .later }
def LedgerPostUptoCardSaid : Prop := Claim7.holds Tryz.pinned (.plain (OpenSpec.upto ledgerPostSpec)) ledgerPostUptoCard

/-- THE SECOND FORM's CARD OF 'acequialaw56.LedgerTorn'. -/
def ledgerTornUptoCard : Claim7 := { stood := { row := ledgerTornUptoRow, standIns := [], harness := (true, "1e00cc163439e1cf622651e539ea458c1c11e373a95c8f8d3d9db06ca2391d9a"), looks := true }, kinds := [], alts := [], laidByText := true, laidKinds := [.data, .data], laidTests := true, laidLooks := .later }
def LedgerTornUptoCardSaid : Prop := Claim7.holds Tryz.pinned (.plain (OpenSpec.upto ledgerTornSpec)) ledgerTornUptoCard

/-- THE SECOND FORM's CARD OF 'acequialaw56.LedgerRun'. -/
def ledgerRunUptoCard : Claim7 := { stood := { row := ledgerRunUptoRow, standIns := [], harness := (true, "1e00cc163439e1cf622651e539ea458c1c11e373a95c8f8d3d9db06ca2391d9a"), looks := true }, kinds := [], alts := [], laidByText := true, laidKinds := [.data, .data], laidTests := true, laidLooks := .later }
def LedgerRunUptoCardSaid : Prop := Claim7.holds Tryz.pinned (.plain (OpenSpec.upto ledgerRunSpec)) ledgerRunUptoCard
end Rows
end Go.Proofs.YtehcphboliofaaaGreatDoor
