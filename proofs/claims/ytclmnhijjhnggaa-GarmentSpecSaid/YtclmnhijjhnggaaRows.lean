/-
  No cell of these rows narrows 'for every input' (looked for: loops, veiled, ifaces, maps, wideKeys, modest, calm, conditions, laid).
  DERIVED. THE GIVEN ROWS OF THIS SEAT. 7 by the template 'for every input the law returns true; each argument reads behind the call as it read before'; 0 by the template 'total and deterministic' (their statements: YtclmnhijjhnggaaTotals.lean).
  GIVEN WITH THE SEED: the statements are not yours to turn. If you find one false, say at which input.
  Laid BY PROGRAM, IN A SANDBOX (cutbox-rows.mjs): the forced cells as the released guide's own fill.sh prints them over the translation 5dbb30259f165779… (all of the seat's roots in one cut). By AI agents, Wed Nov 11 2026. No macro, syntax, notation, axiom, sorry.
-/
import Derived.Test.YtclmnhijjhnggaaChecked
import GoSem.Claim
import GoSem.ClaimJoined
import GoSem.ClaimMapViews
import Derived.JoinedTies
import Derived.KernelRfl
namespace Go.Proofs.Ytclmnhijjhnggaa
/- THE CELL 'sum', in the pinned program and in every row, IS THE sha256 OF THE DUMP (.gsa) THAT YtclmnhijjhnggaaProg.lean LOADS. Nothing in Lean hashes anything: it is a label: what it is worth is what the hold of that sum in a sandbox is worth. -/
noncomputable def Try.pinned : Pinned := { name := "ytclmnhijjhnggaa", sum := "5dbb30259f1657795f8942651a4d2dea2e6e61ec96646b3cb780be1a08f430fb", checked := Try.checked }
namespace Rows
def none {H : Type} : Left H := { results := [], args := [] }

/-- 'acequialaw40.GarmentSpec': WHATEVER THE INPUT: true; the input reads as it did. -/
def garmentSpecSpec : ChangeSpec := { name := "garmentSpec", fn := fun _ => fun
  | [d1, d2] => { results := [.lit (.bool true)], args := [d1, d2] }
  | _ => none }
def garmentSpecRow : OpenClaim := { program := "ytclmnhijjhnggaa", sum := "5dbb30259f1657795f8942651a4d2dea2e6e61ec96646b3cb780be1a08f430fb", func := "acequia/acequialaw40.GarmentSpec", spec := "garmentSpec", unfollowed := true, recurses := true, apart := false }
def GarmentSpecSaid : Prop := garmentSpecRow.holds Try.pinned (OpenSpec.ofChange garmentSpecSpec)

/-- ITS FALSE NEIGHBOUR: 'it returns false'. Refute it at one input. -/
def garmentSpecWrong : ChangeSpec := { name := "garmentSpec", fn := fun _ => fun
  | [d1, d2] => { results := [.lit (.bool false)], args := [d1, d2] }
  | _ => none }
def GarmentSpecWrongFalsely : Prop := garmentSpecRow.holds Try.pinned (OpenSpec.ofChange garmentSpecWrong)

/-- 'acequialaw40.GarmentOwnSpec': WHATEVER THE INPUT: true; the input reads as it did. -/
def garmentOwnSpecSpec : ChangeSpec := { name := "garmentOwnSpec", fn := fun _ => fun
  | [d1, d2, d3, d4, d5] => { results := [.lit (.bool true)], args := [d1, d2, d3, d4, d5] }
  | _ => none }
def garmentOwnSpecRow : OpenClaim := { program := "ytclmnhijjhnggaa", sum := "5dbb30259f1657795f8942651a4d2dea2e6e61ec96646b3cb780be1a08f430fb", func := "acequia/acequialaw40.GarmentOwnSpec", spec := "garmentOwnSpec", unfollowed := true, recurses := true, apart := false }
def GarmentOwnSpecSaid : Prop := garmentOwnSpecRow.holds Try.pinned (OpenSpec.ofChange garmentOwnSpecSpec)

/-- ITS FALSE NEIGHBOUR: 'it returns false'. Refute it at one input. -/
def garmentOwnSpecWrong : ChangeSpec := { name := "garmentOwnSpec", fn := fun _ => fun
  | [d1, d2, d3, d4, d5] => { results := [.lit (.bool false)], args := [d1, d2, d3, d4, d5] }
  | _ => none }
def GarmentOwnSpecWrongFalsely : Prop := garmentOwnSpecRow.holds Try.pinned (OpenSpec.ofChange garmentOwnSpecWrong)

/-- 'acequialaw40.GarmentPublic': WHATEVER THE INPUT: true; the input reads as it did. -/
def garmentPublicSpec : ChangeSpec := { name := "garmentPublic", fn := fun _ => fun
  | [d1, d2, d3] => { results := [.lit (.bool true)], args := [d1, d2, d3] }
  | _ => none }
def garmentPublicRow : OpenClaim := { program := "ytclmnhijjhnggaa", sum := "5dbb30259f1657795f8942651a4d2dea2e6e61ec96646b3cb780be1a08f430fb", func := "acequia/acequialaw40.GarmentPublic", spec := "garmentPublic", unfollowed := true, recurses := true, apart := false }
def GarmentPublicSaid : Prop := garmentPublicRow.holds Try.pinned (OpenSpec.ofChange garmentPublicSpec)

/-- ITS FALSE NEIGHBOUR: 'it returns false'. Refute it at one input. -/
def garmentPublicWrong : ChangeSpec := { name := "garmentPublic", fn := fun _ => fun
  | [d1, d2, d3] => { results := [.lit (.bool false)], args := [d1, d2, d3] }
  | _ => none }
def GarmentPublicWrongFalsely : Prop := garmentPublicRow.holds Try.pinned (OpenSpec.ofChange garmentPublicWrong)

/-- 'acequialaw40.GarmentConsistent': WHATEVER THE INPUT: true; the input reads as it did. -/
def garmentConsistentSpec : ChangeSpec := { name := "garmentConsistent", fn := fun _ => fun
  | [d1, d2, d3, d4] => { results := [.lit (.bool true)], args := [d1, d2, d3, d4] }
  | _ => none }
def garmentConsistentRow : OpenClaim := { program := "ytclmnhijjhnggaa", sum := "5dbb30259f1657795f8942651a4d2dea2e6e61ec96646b3cb780be1a08f430fb", func := "acequia/acequialaw40.GarmentConsistent", spec := "garmentConsistent", unfollowed := true, recurses := true, apart := false }
def GarmentConsistentSaid : Prop := garmentConsistentRow.holds Try.pinned (OpenSpec.ofChange garmentConsistentSpec)

/-- ITS FALSE NEIGHBOUR: 'it returns false'. Refute it at one input. -/
def garmentConsistentWrong : ChangeSpec := { name := "garmentConsistent", fn := fun _ => fun
  | [d1, d2, d3, d4] => { results := [.lit (.bool false)], args := [d1, d2, d3, d4] }
  | _ => none }
def GarmentConsistentWrongFalsely : Prop := garmentConsistentRow.holds Try.pinned (OpenSpec.ofChange garmentConsistentWrong)

/-- 'acequialaw40.GarmentPair': WHATEVER THE INPUT: true; the input reads as it did. -/
def garmentPairSpec : ChangeSpec := { name := "garmentPair", fn := fun _ => fun
  | [d1, d2, d3, d4] => { results := [.lit (.bool true)], args := [d1, d2, d3, d4] }
  | _ => none }
def garmentPairRow : OpenClaim := { program := "ytclmnhijjhnggaa", sum := "5dbb30259f1657795f8942651a4d2dea2e6e61ec96646b3cb780be1a08f430fb", func := "acequia/acequialaw40.GarmentPair", spec := "garmentPair", unfollowed := true, recurses := true, apart := false }
def GarmentPairSaid : Prop := garmentPairRow.holds Try.pinned (OpenSpec.ofChange garmentPairSpec)

/-- ITS FALSE NEIGHBOUR: 'it returns false'. Refute it at one input. -/
def garmentPairWrong : ChangeSpec := { name := "garmentPair", fn := fun _ => fun
  | [d1, d2, d3, d4] => { results := [.lit (.bool false)], args := [d1, d2, d3, d4] }
  | _ => none }
def GarmentPairWrongFalsely : Prop := garmentPairRow.holds Try.pinned (OpenSpec.ofChange garmentPairWrong)

/-- 'acequialaw40.GarmentOrder': WHATEVER THE INPUT: true; the input reads as it did. -/
def garmentOrderSpec : ChangeSpec := { name := "garmentOrder", fn := fun _ => fun
  | [d1, d2, d3, d4] => { results := [.lit (.bool true)], args := [d1, d2, d3, d4] }
  | _ => none }
def garmentOrderRow : OpenClaim := { program := "ytclmnhijjhnggaa", sum := "5dbb30259f1657795f8942651a4d2dea2e6e61ec96646b3cb780be1a08f430fb", func := "acequia/acequialaw40.GarmentOrder", spec := "garmentOrder", unfollowed := true, recurses := true, apart := false }
def GarmentOrderSaid : Prop := garmentOrderRow.holds Try.pinned (OpenSpec.ofChange garmentOrderSpec)

/-- ITS FALSE NEIGHBOUR: 'it returns false'. Refute it at one input. -/
def garmentOrderWrong : ChangeSpec := { name := "garmentOrder", fn := fun _ => fun
  | [d1, d2, d3, d4] => { results := [.lit (.bool false)], args := [d1, d2, d3, d4] }
  | _ => none }
def GarmentOrderWrongFalsely : Prop := garmentOrderRow.holds Try.pinned (OpenSpec.ofChange garmentOrderWrong)

/-- 'acequialaw40.GarmentDual': WHATEVER THE INPUT: true; the input reads as it did. -/
def garmentDualSpec : ChangeSpec := { name := "garmentDual", fn := fun _ => fun
  | [d1, d2, d3] => { results := [.lit (.bool true)], args := [d1, d2, d3] }
  | _ => none }
def garmentDualRow : OpenClaim := { program := "ytclmnhijjhnggaa", sum := "5dbb30259f1657795f8942651a4d2dea2e6e61ec96646b3cb780be1a08f430fb", func := "acequia/acequialaw40.GarmentDual", spec := "garmentDual", unfollowed := true, recurses := true, apart := false }
def GarmentDualSaid : Prop := garmentDualRow.holds Try.pinned (OpenSpec.ofChange garmentDualSpec)

/-- ITS FALSE NEIGHBOUR: 'it returns false'. Refute it at one input. -/
def garmentDualWrong : ChangeSpec := { name := "garmentDual", fn := fun _ => fun
  | [d1, d2, d3] => { results := [.lit (.bool false)], args := [d1, d2, d3] }
  | _ => none }
def GarmentDualWrongFalsely : Prop := garmentDualRow.holds Try.pinned (OpenSpec.ofChange garmentDualWrong)

/- THE SECOND FORM. 'bulk': how many values and letters a reading holds, each counted each time it is reached (what is shared counts as often as it is met; a slice's spare places count too). A statement '..UptoSaid' is the law's where the arguments, and the package variables that the reading takes, are together of bulk at most 1048576: NARROWER than '..Said'. Prove '..Said' where nothing that the law and all that it calls make is longer than what came in: it says more and counts as full. Else prove '..UptoSaid'. A law counts once. -/
mutual
def uptoBulk {H : Type} : DataW H → Nat
  | .lit (.string bytes) => bytes.length + 1
  | .lit _ => 1
  | .nil => 1
  | .ptr d => uptoBulk d + 1
  | .slice elems spare => uptoBulkAll elems + uptoBulkAll spare + 1
  | .agg parts => uptoBulkAll parts + 1
  | .iface _ d => uptoBulk d + 1
  | .map entries => uptoBulkEntries entries + 1
  | .held _ => 1
def uptoBulkAll {H : Type} : List (DataW H) → Nat
  | [] => 0
  | d :: r => uptoBulk d + uptoBulkAll r
def uptoBulkEntries {H : Type} : List (Lit × DataW H) → Nat
  | [] => 0
  | x :: r => uptoBulkEntry x + uptoBulkEntries r
def uptoBulkEntry {H : Type} : Lit × DataW H → Nat
  | (.string bytes, d) => bytes.length + uptoBulk d + 1
  | (_, d) => uptoBulk d + 1
 end
def uptoSmall : (H : Type) → List (DataW H) → Bool := fun _ ds => decide (uptoBulkAll ds ≤ 1048576)
def OpenSpec.upto (s : _root_.Go.ChangeSpec) : _root_.Go.OpenSpec := { _root_.Go.OpenSpec.ofChange s with cond := some uptoSmall }

/-- 'acequialaw40.GarmentSpec', WHERE WHAT IT READS IS OF BULK AT MOST 1048576: true; the input reads as it did. -/
def garmentSpecUptoRow : OpenClaim := { program := "ytclmnhijjhnggaa", sum := "5dbb30259f1657795f8942651a4d2dea2e6e61ec96646b3cb780be1a08f430fb", func := "acequia/acequialaw40.GarmentSpec", spec := "garmentSpec", unfollowed := true, recurses := true, apart := false, narrowed := true }
def GarmentSpecUptoSaid : Prop := garmentSpecUptoRow.holds Try.pinned (OpenSpec.upto garmentSpecSpec)

/-- 'acequialaw40.GarmentOwnSpec', WHERE WHAT IT READS IS OF BULK AT MOST 1048576: true; the input reads as it did. -/
def garmentOwnSpecUptoRow : OpenClaim := { program := "ytclmnhijjhnggaa", sum := "5dbb30259f1657795f8942651a4d2dea2e6e61ec96646b3cb780be1a08f430fb", func := "acequia/acequialaw40.GarmentOwnSpec", spec := "garmentOwnSpec", unfollowed := true, recurses := true, apart := false, narrowed := true }
def GarmentOwnSpecUptoSaid : Prop := garmentOwnSpecUptoRow.holds Try.pinned (OpenSpec.upto garmentOwnSpecSpec)

/-- 'acequialaw40.GarmentPublic', WHERE WHAT IT READS IS OF BULK AT MOST 1048576: true; the input reads as it did. -/
def garmentPublicUptoRow : OpenClaim := { program := "ytclmnhijjhnggaa", sum := "5dbb30259f1657795f8942651a4d2dea2e6e61ec96646b3cb780be1a08f430fb", func := "acequia/acequialaw40.GarmentPublic", spec := "garmentPublic", unfollowed := true, recurses := true, apart := false, narrowed := true }
def GarmentPublicUptoSaid : Prop := garmentPublicUptoRow.holds Try.pinned (OpenSpec.upto garmentPublicSpec)

/-- 'acequialaw40.GarmentConsistent', WHERE WHAT IT READS IS OF BULK AT MOST 1048576: true; the input reads as it did. -/
def garmentConsistentUptoRow : OpenClaim := { program := "ytclmnhijjhnggaa", sum := "5dbb30259f1657795f8942651a4d2dea2e6e61ec96646b3cb780be1a08f430fb", func := "acequia/acequialaw40.GarmentConsistent", spec := "garmentConsistent", unfollowed := true, recurses := true, apart := false, narrowed := true }
def GarmentConsistentUptoSaid : Prop := garmentConsistentUptoRow.holds Try.pinned (OpenSpec.upto garmentConsistentSpec)

/-- 'acequialaw40.GarmentPair', WHERE WHAT IT READS IS OF BULK AT MOST 1048576: true; the input reads as it did. -/
def garmentPairUptoRow : OpenClaim := { program := "ytclmnhijjhnggaa", sum := "5dbb30259f1657795f8942651a4d2dea2e6e61ec96646b3cb780be1a08f430fb", func := "acequia/acequialaw40.GarmentPair", spec := "garmentPair", unfollowed := true, recurses := true, apart := false, narrowed := true }
def GarmentPairUptoSaid : Prop := garmentPairUptoRow.holds Try.pinned (OpenSpec.upto garmentPairSpec)

/-- 'acequialaw40.GarmentOrder', WHERE WHAT IT READS IS OF BULK AT MOST 1048576: true; the input reads as it did. -/
def garmentOrderUptoRow : OpenClaim := { program := "ytclmnhijjhnggaa", sum := "5dbb30259f1657795f8942651a4d2dea2e6e61ec96646b3cb780be1a08f430fb", func := "acequia/acequialaw40.GarmentOrder", spec := "garmentOrder", unfollowed := true, recurses := true, apart := false, narrowed := true }
def GarmentOrderUptoSaid : Prop := garmentOrderUptoRow.holds Try.pinned (OpenSpec.upto garmentOrderSpec)

/-- 'acequialaw40.GarmentDual', WHERE WHAT IT READS IS OF BULK AT MOST 1048576: true; the input reads as it did. -/
def garmentDualUptoRow : OpenClaim := { program := "ytclmnhijjhnggaa", sum := "5dbb30259f1657795f8942651a4d2dea2e6e61ec96646b3cb780be1a08f430fb", func := "acequia/acequialaw40.GarmentDual", spec := "garmentDual", unfollowed := true, recurses := true, apart := false, narrowed := true }
def GarmentDualUptoSaid : Prop := garmentDualUptoRow.holds Try.pinned (OpenSpec.upto garmentDualSpec)

end Rows
end Go.Proofs.Ytclmnhijjhnggaa
