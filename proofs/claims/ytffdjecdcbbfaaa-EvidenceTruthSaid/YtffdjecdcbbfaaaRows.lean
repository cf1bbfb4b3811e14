/-
  No cell of these rows narrows 'for every input' (looked for: loops, veiled, ifaces, maps, wideKeys, modest, calm, conditions, laid).
  DERIVED. THE GIVEN ROWS OF THIS SEAT. 3 by the template 'for every input the law returns true; each argument reads behind the call as it read before'; 0 by the template 'total and deterministic' (their statements: YtffdjecdcbbfaaaTotals.lean).
  GIVEN WITH THE SEED: the statements are not yours to turn. If you find one false, say at which input.
  Laid BY PROGRAM, IN A SANDBOX (cutbox-rows.mjs): the forced cells as the released guide's own fill.sh prints them over the translation 8378d8d2afb57a39… (all of the seat's roots in one cut). By AI agents, Wed Nov 11 2026. No macro, syntax, notation, axiom, sorry.
-/
import Derived.Test.YtffdjecdcbbfaaaChecked
import GoSem.Claim
import GoSem.ClaimJoined
import GoSem.ClaimMapViews
import Derived.JoinedTies
import Derived.KernelRfl
namespace Go.Proofs.Ytffdjecdcbbfaaa
/- THE CELL 'sum', in the pinned program and in every row, IS THE sha256 OF THE DUMP (.gsa) THAT YtffdjecdcbbfaaaProg.lean LOADS. Nothing in Lean hashes anything: it is a label: what it is worth is what the hold of that sum in a sandbox is worth. -/
noncomputable def Try.pinned : Pinned := { name := "ytffdjecdcbbfaaa", sum := "8378d8d2afb57a39d5916bc8bdc28deb993d5c5ca63b08f76ff36900cba62901", checked := Try.checked }
namespace Rows
def none {H : Type} : Left H := { results := [], args := [] }

/-- 'acequialaw48.EvidenceExact': WHATEVER THE INPUT: true; the input reads as it did. -/
def evidenceExactSpec : ChangeSpec := { name := "evidenceExact", fn := fun _ => fun
  | [d1, d2, d3, d4] => { results := [.lit (.bool true)], args := [d1, d2, d3, d4] }
  | _ => none }
def evidenceExactRow : OpenClaim := { program := "ytffdjecdcbbfaaa", sum := "8378d8d2afb57a39d5916bc8bdc28deb993d5c5ca63b08f76ff36900cba62901", func := "acequia/acequialaw48.EvidenceExact", spec := "evidenceExact", unfollowed := true, recurses := true, plainKeys := false, apart := false }
def EvidenceExactSaid : Prop := evidenceExactRow.holds Try.pinned (OpenSpec.ofChange evidenceExactSpec)

/-- ITS FALSE NEIGHBOUR: 'it returns false'. Refute it at one input. -/
def evidenceExactWrong : ChangeSpec := { name := "evidenceExact", fn := fun _ => fun
  | [d1, d2, d3, d4] => { results := [.lit (.bool false)], args := [d1, d2, d3, d4] }
  | _ => none }
def EvidenceExactWrongFalsely : Prop := evidenceExactRow.holds Try.pinned (OpenSpec.ofChange evidenceExactWrong)

/-- 'acequialaw48.EvidenceMore': WHATEVER THE INPUT: true; the input reads as it did. -/
def evidenceMoreSpec : ChangeSpec := { name := "evidenceMore", fn := fun _ => fun
  | [d1, d2, d3, d4] => { results := [.lit (.bool true)], args := [d1, d2, d3, d4] }
  | _ => none }
def evidenceMoreRow : OpenClaim := { program := "ytffdjecdcbbfaaa", sum := "8378d8d2afb57a39d5916bc8bdc28deb993d5c5ca63b08f76ff36900cba62901", func := "acequia/acequialaw48.EvidenceMore", spec := "evidenceMore", unfollowed := true, recurses := true, plainKeys := false, apart := false }
def EvidenceMoreSaid : Prop := evidenceMoreRow.holds Try.pinned (OpenSpec.ofChange evidenceMoreSpec)

/-- ITS FALSE NEIGHBOUR: 'it returns false'. Refute it at one input. -/
def evidenceMoreWrong : ChangeSpec := { name := "evidenceMore", fn := fun _ => fun
  | [d1, d2, d3, d4] => { results := [.lit (.bool false)], args := [d1, d2, d3, d4] }
  | _ => none }
def EvidenceMoreWrongFalsely : Prop := evidenceMoreRow.holds Try.pinned (OpenSpec.ofChange evidenceMoreWrong)

/-- 'acequialaw48.EvidenceTruth': WHATEVER THE INPUT: true; the input reads as it did. -/
def evidenceTruthSpec : ChangeSpec := { name := "evidenceTruth", fn := fun _ => fun
  | [d1, d2, d3, d4, d5] => { results := [.lit (.bool true)], args := [d1, d2, d3, d4, d5] }
  | _ => none }
def evidenceTruthRow : OpenClaim := { program := "ytffdjecdcbbfaaa", sum := "8378d8d2afb57a39d5916bc8bdc28deb993d5c5ca63b08f76ff36900cba62901", func := "acequia/acequialaw48.EvidenceTruth", spec := "evidenceTruth", unfollowed := true, recurses := true, plainKeys := false, apart := false }
def EvidenceTruthSaid : Prop := evidenceTruthRow.holds Try.pinned (OpenSpec.ofChange evidenceTruthSpec)

/-- ITS FALSE NEIGHBOUR: 'it returns false'. Refute it at one input. -/
def evidenceTruthWrong : ChangeSpec := { name := "evidenceTruth", fn := fun _ => fun
  | [d1, d2, d3, d4, d5] => { results := [.lit (.bool false)], args := [d1, d2, d3, d4, d5] }
  | _ => none }
def EvidenceTruthWrongFalsely : Prop := evidenceTruthRow.holds Try.pinned (OpenSpec.ofChange evidenceTruthWrong)

/- THE SECOND FORM. 'bulk': how many values and letters a reading holds, each counted each time it is reached (what is shared counts as often as it is met; a slice's spare places count too). A statement '..UptoSaid' is the law's where the arguments, and the package variables that the reading takes, are together of bulk at most 1048576: NARROWER than '..Said'. Prove '..Said' where nothing that the law and all that it calls make is longer than what came in: it says more and counts as full. Else prove '..UptoSaid'. A law counts once. -/
mutual
def uptoBulk {H : Type} : DataW H → Nat
  | .lit (.string bytes) => bytes.length + 1
  | .lit _ => 1
  | .nil => 1
  | .ptr d => uptoBulk d + 1
  | .slice elems spare => uptoBulkAll elems + uptoBulkAll spare + 1
  | .agg parts => uptoBulkAll parts + 1
  | .iface _ d => uptoBulk d + 1
  | .map entries => uptoBulkEntries entries + 1
  | .held _ => 1
def uptoBulkAll {H : Type} : List (DataW H) → Nat
  | [] => 0
  | d :: r => uptoBulk d + uptoBulkAll r
def uptoBulkEntries {H : Type} : List (Lit × DataW H) → Nat
  | [] => 0
  | x :: r => uptoBulkEntry x + uptoBulkEntries r
def uptoBulkEntry {H : Type} : Lit × DataW H → Nat
  | (.string bytes, d) => bytes.length + uptoBulk d + 1
  | (_, d) => uptoBulk d + 1
 end
def uptoSmall : (H : Type) → List (DataW H) → Bool := fun _ ds => decide (uptoBulkAll ds ≤ 1048576)
def OpenSpec.upto (s : _root_.Go.ChangeSpec) : _root_.Go.OpenSpec := { _root_.Go.OpenSpec.ofChange s with cond := some uptoSmall }

/-- 'acequialaw48.EvidenceExact', WHERE WHAT IT READS IS OF BULK AT MOST 1048576: true; the input reads as it did. -/
def evidenceExactUptoRow : OpenClaim := { program := "ytffdjecdcbbfaaa", sum := "8378d8d2afb57a39d5916bc8bdc28deb993d5c5ca63b08f76ff36900cba62901", func := "acequia/acequialaw48.EvidenceExact", spec := "evidenceExact", unfollowed := true, recurses := true, plainKeys := false, apart := false, narrowed := true }
def EvidenceExactUptoSaid : Prop := evidenceExactUptoRow.holds Try.pinned (OpenSpec.upto evidenceExactSpec)

/-- 'acequialaw48.EvidenceMore', WHERE WHAT IT READS IS OF BULK AT MOST 1048576: true; the input reads as it did. -/
def evidenceMoreUptoRow : OpenClaim := { program := "ytffdjecdcbbfaaa", sum := "8378d8d2afb57a39d5916bc8bdc28deb993d5c5ca63b08f76ff36900cba62901", func := "acequia/acequialaw48.EvidenceMore", spec := "evidenceMore", unfollowed := true, recurses := true, plainKeys := false, apart := false, narrowed := true }
def EvidenceMoreUptoSaid : Prop := evidenceMoreUptoRow.holds Try.pinned (OpenSpec.upto evidenceMoreSpec)

/-- 'acequialaw48.EvidenceTruth', WHERE WHAT IT READS IS OF BULK AT MOST 1048576: true; the input reads as it did. -/
def evidenceTruthUptoRow : OpenClaim := { program := "ytffdjecdcbbfaaa", sum := "8378d8d2afb57a39d5916bc8bdc28deb993d5c5ca63b08f76ff36900cba62901", func := "acequia/acequialaw48.EvidenceTruth", spec := "evidenceTruth", unfollowed := true, recurses := true, plainKeys := false, apart := false, narrowed := true }
def EvidenceTruthUptoSaid : Prop := evidenceTruthUptoRow.holds Try.pinned (OpenSpec.upto evidenceTruthSpec)

end Rows
end Go.Proofs.Ytffdjecdcbbfaaa
