/-
  No cell of these rows narrows 'for every input' (looked for: loops, veiled, ifaces, maps, wideKeys, modest, calm, conditions, laid).
  DERIVED. THE GIVEN ROWS OF THIS SEAT. 3 by the template 'for every input the law returns true; each argument reads behind the call as it read before'; 0 by the template 'total and deterministic' (their statements: YtffdjecdcbbfaaaGreatTotals.lean).
  GIVEN WITH THE SEED: the statements are not yours to turn. If you find one false, say at which input.
  Laid BY PROGRAM, IN A SANDBOX (cutbox-rows.mjs): the forced cells as the released guide's own fill.sh prints them over the translation e92b80b4274683c8… (all of the seat's roots in one cut). By AI agents, Wed Nov 11 2026. No macro, syntax, notation, axiom, sorry.
-/
import Derived.Test.YtffdjecdcbbfaaaGreatChecked
import GoSem.Claim
import GoSem.ClaimJoined
import GoSem.ClaimMapViews
import Derived.JoinedTies
import Derived.KernelRfl
namespace Go.Proofs.YtffdjecdcbbfaaaGreat
/- THE CELL 'sum', in the pinned program and in every row, IS THE sha256 OF THE DUMP (.gsa) THAT YtffdjecdcbbfaaaGreatProg.lean LOADS. Nothing in Lean hashes anything: it is a label: what it is worth is what the hold of that sum in a sandbox is worth. -/
noncomputable def Tryz.pinned : Pinned := { name := "ytffdjecdcbbfaaagreat", sum := "e92b80b4274683c8e5c88e1c1785c31c125ecf389a07c0f5b9efa125c77d0efe", checked := Tryz.checked }
namespace Rows
def none {H : Type} : Left H := { results := [], args := [] }

/-- 'acequialaw48.EvidenceSpec': WHATEVER THE INPUT: true; the input reads as it did. -/
def evidenceSpecSpec : ChangeSpec := { name := "evidenceSpec", fn := fun _ => fun
  | [d1, d2, d3] => { results := [.lit (.bool true)], args := [d1, d2, d3] }
  | _ => none }
def evidenceSpecRow : OpenClaim := { program := "ytffdjecdcbbfaaagreat", sum := "e92b80b4274683c8e5c88e1c1785c31c125ecf389a07c0f5b9efa125c77d0efe", func := "acequia/acequialaw48.EvidenceSpec", spec := "evidenceSpec", unfollowed := true, recurses := true, plainKeys := false, apart := false }
def EvidenceSpecSaid : Prop := evidenceSpecRow.holds Tryz.pinned (OpenSpec.ofChange evidenceSpecSpec)

/-- ITS FALSE NEIGHBOUR: 'it returns false'. Refute it at one input. -/
def evidenceSpecWrong : ChangeSpec := { name := "evidenceSpec", fn := fun _ => fun
  | [d1, d2, d3] => { results := [.lit (.bool false)], args := [d1, d2, d3] }
  | _ => none }
def EvidenceSpecWrongFalsely : Prop := evidenceSpecRow.holds Tryz.pinned (OpenSpec.ofChange evidenceSpecWrong)

/-- 'acequialaw48.EvidenceTableSpec': WHATEVER THE INPUT: true; the input reads as it did. -/
def evidenceTableSpecSpec : ChangeSpec := { name := "evidenceTableSpec", fn := fun _ => fun
  | [d1, d2, d3, d4] => { results := [.lit (.bool true)], args := [d1, d2, d3, d4] }
  | _ => none }
def evidenceTableSpecRow : OpenClaim := { program := "ytffdjecdcbbfaaagreat", sum := "e92b80b4274683c8e5c88e1c1785c31c125ecf389a07c0f5b9efa125c77d0efe", func := "acequia/acequialaw48.EvidenceTableSpec", spec := "evidenceTableSpec", unfollowed := true, recurses := true, plainKeys := false, apart := false }
def EvidenceTableSpecSaid : Prop := evidenceTableSpecRow.holds Tryz.pinned (OpenSpec.ofChange evidenceTableSpecSpec)

/-- ITS FALSE NEIGHBOUR: 'it returns false'. Refute it at one input. -/
def evidenceTableSpecWrong : ChangeSpec := { name := "evidenceTableSpec", fn := fun _ => fun
  | [d1, d2, d3, d4] => { results := [.lit (.bool false)], args := [d1, d2, d3, d4] }
  | _ => none }
def EvidenceTableSpecWrongFalsely : Prop := evidenceTableSpecRow.holds Tryz.pinned (OpenSpec.ofChange evidenceTableSpecWrong)

/-- 'acequialaw48.EvidenceOfSpec': WHATEVER THE INPUT: true; the input reads as it did. -/
def evidenceOfSpecSpec : ChangeSpec := { name := "evidenceOfSpec", fn := fun _ => fun
  | [d1, d2, d3, d4] => { results := [.lit (.bool true)], args := [d1, d2, d3, d4] }
  | _ => none }
def evidenceOfSpecRow : OpenClaim := { program := "ytffdjecdcbbfaaagreat", sum := "e92b80b4274683c8e5c88e1c1785c31c125ecf389a07c0f5b9efa125c77d0efe", func := "acequia/acequialaw48.EvidenceOfSpec", spec := "evidenceOfSpec", unfollowed := true, recurses := true, plainKeys := false, apart := false }
def EvidenceOfSpecSaid : Prop := evidenceOfSpecRow.holds Tryz.pinned (OpenSpec.ofChange evidenceOfSpecSpec)

/-- ITS FALSE NEIGHBOUR: 'it returns false'. Refute it at one input. -/
def evidenceOfSpecWrong : ChangeSpec := { name := "evidenceOfSpec", fn := fun _ => fun
  | [d1, d2, d3, d4] => { results := [.lit (.bool false)], args := [d1, d2, d3, d4] }
  | _ => none }
def EvidenceOfSpecWrongFalsely : Prop := evidenceOfSpecRow.holds Tryz.pinned (OpenSpec.ofChange evidenceOfSpecWrong)

/- THE SECOND FORM. 'bulk': how many values and letters a reading holds, each counted each time it is reached (what is shared counts as often as it is met; a slice's spare places count too). A statement '..UptoSaid' is the law's where the arguments, and the package variables that the reading takes, are together of bulk at most 1048576: NARROWER than '..Said'. Prove '..Said' where nothing that the law and all that it calls make is longer than what came in: it says more and counts as full. Else prove '..UptoSaid'. A law counts once. -/
mutual
def uptoBulk {H : Type} : DataW H → Nat
  | .lit (.string bytes) => bytes.length + 1
  | .lit _ => 1
  | .nil => 1
  | .ptr d => uptoBulk d + 1
  | .slice elems spare => uptoBulkAll elems + uptoBulkAll spare + 1
  | .agg parts => uptoBulkAll parts + 1
  | .iface _ d => uptoBulk d + 1
  | .map entries => uptoBulkEntries entries + 1
  | .held _ => 1
def uptoBulkAll {H : Type} : List (DataW H) → Nat
  | [] => 0
  | d :: r => uptoBulk d + uptoBulkAll r
def uptoBulkEntries {H : Type} : List (Lit × DataW H) → Nat
  | [] => 0
  | x :: r => uptoBulkEntry x + uptoBulkEntries r
def uptoBulkEntry {H : Type} : Lit × DataW H → Nat
  | (.string bytes, d) => bytes.length + uptoBulk d + 1
  | (_, d) => uptoBulk d + 1
 end
def uptoSmall : (H : Type) → List (DataW H) → Bool := fun _ ds => decide (uptoBulkAll ds ≤ 1048576)
def OpenSpec.upto (s : _root_.Go.ChangeSpec) : _root_.Go.OpenSpec := { _root_.Go.OpenSpec.ofChange s with cond := some uptoSmall }

/-- 'acequialaw48.EvidenceSpec', WHERE WHAT IT READS IS OF BULK AT MOST 1048576: true; the input reads as it did. -/
def evidenceSpecUptoRow : OpenClaim := { program := "ytffdjecdcbbfaaagreat", sum := "e92b80b4274683c8e5c88e1c1785c31c125ecf389a07c0f5b9efa125c77d0efe", func := "acequia/acequialaw48.EvidenceSpec", spec := "evidenceSpec", unfollowed := true, recurses := true, plainKeys := false, apart := false, narrowed := true }
def EvidenceSpecUptoSaid : Prop := evidenceSpecUptoRow.holds Tryz.pinned (OpenSpec.upto evidenceSpecSpec)

/-- 'acequialaw48.EvidenceTableSpec', WHERE WHAT IT READS IS OF BULK AT MOST 1048576: true; the input reads as it did. -/
def evidenceTableSpecUptoRow : OpenClaim := { program := "ytffdjecdcbbfaaagreat", sum := "e92b80b4274683c8e5c88e1c1785c31c125ecf389a07c0f5b9efa125c77d0efe", func := "acequia/acequialaw48.EvidenceTableSpec", spec := "evidenceTableSpec", unfollowed := true, recurses := true, plainKeys := false, apart := false, narrowed := true }
def EvidenceTableSpecUptoSaid : Prop := evidenceTableSpecUptoRow.holds Tryz.pinned (OpenSpec.upto evidenceTableSpecSpec)

/-- 'acequialaw48.EvidenceOfSpec', WHERE WHAT IT READS IS OF BULK AT MOST 1048576: true; the input reads as it did. -/
def evidenceOfSpecUptoRow : OpenClaim := { program := "ytffdjecdcbbfaaagreat", sum := "e92b80b4274683c8e5c88e1c1785c31c125ecf389a07c0f5b9efa125c77d0efe", func := "acequia/acequialaw48.EvidenceOfSpec", spec := "evidenceOfSpec", unfollowed := true, recurses := true, plainKeys := false, apart := false, narrowed := true }
def EvidenceOfSpecUptoSaid : Prop := evidenceOfSpecUptoRow.holds Tryz.pinned (OpenSpec.upto evidenceOfSpecSpec)

end Rows
end Go.Proofs.YtffdjecdcbbfaaaGreat
