/-
  No cell of these rows narrows 'for every input' (looked for: loops, veiled, ifaces, maps, wideKeys, modest, calm, conditions, laid).
  DERIVED. THE GIVEN ROWS OF THIS SEAT. 5 by the template 'for every input the law returns true; each argument reads behind the call as it read before'; 0 by the template 'total and deterministic' (their statements: YtmjcaclakggafaaTotals.lean).
  GIVEN WITH THE SEED: the statements are not yours to turn. If you find one false, say at which input.
  Laid BY PROGRAM, IN A SANDBOX (cutbox-rows.mjs): the forced cells as the released guide's own fill.sh prints them over the translation a7e416d7192ccff8… (all of the seat's roots in one cut). By AI agents, Wed Nov 11 2026. No macro, syntax, notation, axiom, sorry.
-/
import Derived.Test.YtmjcaclakggafaaChecked
import GoSem.Claim
import GoSem.ClaimJoined
import GoSem.ClaimMapViews
import Derived.JoinedTies
import Derived.KernelRfl
namespace Go.Proofs.Ytmjcaclakggafaa
/- THE CELL 'sum', in the pinned program and in every row, IS THE sha256 OF THE DUMP (.gsa) THAT YtmjcaclakggafaaProg.lean LOADS. Nothing in Lean hashes anything: it is a label: what it is worth is what the hold of that sum in a sandbox is worth. -/
noncomputable def Try.pinned : Pinned := { name := "ytmjcaclakggafaa", sum := "a7e416d7192ccff8c757c878d6f8a60e085fe939173ec0458f2e982a6d04e154", checked := Try.checked }
namespace Rows
def none {H : Type} : Left H := { results := [], args := [] }

/-- 'acequialaw41.DivisionMore': WHATEVER THE INPUT: true; the input reads as it did. -/
def divisionMoreSpec : ChangeSpec := { name := "divisionMore", fn := fun _ => fun
  | [d1, d2, d3, d4] => { results := [.lit (.bool true)], args := [d1, d2, d3, d4] }
  | _ => none }
def divisionMoreRow : OpenClaim := { program := "ytmjcaclakggafaa", sum := "a7e416d7192ccff8c757c878d6f8a60e085fe939173ec0458f2e982a6d04e154", func := "acequia/acequialaw41.DivisionMore", spec := "divisionMore", unfollowed := true, recurses := true, apart := false }
def DivisionMoreSaid : Prop := divisionMoreRow.holds Try.pinned (OpenSpec.ofChange divisionMoreSpec)

/-- ITS FALSE NEIGHBOUR: 'it returns false'. Refute it at one input. -/
def divisionMoreWrong : ChangeSpec := { name := "divisionMore", fn := fun _ => fun
  | [d1, d2, d3, d4] => { results := [.lit (.bool false)], args := [d1, d2, d3, d4] }
  | _ => none }
def DivisionMoreWrongFalsely : Prop := divisionMoreRow.holds Try.pinned (OpenSpec.ofChange divisionMoreWrong)

/-- 'acequialaw41.DivisionOthers': WHATEVER THE INPUT: true; the input reads as it did. -/
def divisionOthersSpec : ChangeSpec := { name := "divisionOthers", fn := fun _ => fun
  | [d1, d2, d3, d4] => { results := [.lit (.bool true)], args := [d1, d2, d3, d4] }
  | _ => none }
def divisionOthersRow : OpenClaim := { program := "ytmjcaclakggafaa", sum := "a7e416d7192ccff8c757c878d6f8a60e085fe939173ec0458f2e982a6d04e154", func := "acequia/acequialaw41.DivisionOthers", spec := "divisionOthers", unfollowed := true, recurses := true, apart := false }
def DivisionOthersSaid : Prop := divisionOthersRow.holds Try.pinned (OpenSpec.ofChange divisionOthersSpec)

/-- ITS FALSE NEIGHBOUR: 'it returns false'. Refute it at one input. -/
def divisionOthersWrong : ChangeSpec := { name := "divisionOthers", fn := fun _ => fun
  | [d1, d2, d3, d4] => { results := [.lit (.bool false)], args := [d1, d2, d3, d4] }
  | _ => none }
def DivisionOthersWrongFalsely : Prop := divisionOthersRow.holds Try.pinned (OpenSpec.ofChange divisionOthersWrong)

/-- 'acequialaw41.DivisionShown': WHATEVER THE INPUT: true; the input reads as it did. -/
def divisionShownSpec : ChangeSpec := { name := "divisionShown", fn := fun _ => fun
  | [d1, d2, d3, d4] => { results := [.lit (.bool true)], args := [d1, d2, d3, d4] }
  | _ => none }
def divisionShownRow : OpenClaim := { program := "ytmjcaclakggafaa", sum := "a7e416d7192ccff8c757c878d6f8a60e085fe939173ec0458f2e982a6d04e154", func := "acequia/acequialaw41.DivisionShown", spec := "divisionShown", unfollowed := true, recurses := true, apart := false }
def DivisionShownSaid : Prop := divisionShownRow.holds Try.pinned (OpenSpec.ofChange divisionShownSpec)

/-- ITS FALSE NEIGHBOUR: 'it returns false'. Refute it at one input. -/
def divisionShownWrong : ChangeSpec := { name := "divisionShown", fn := fun _ => fun
  | [d1, d2, d3, d4] => { results := [.lit (.bool false)], args := [d1, d2, d3, d4] }
  | _ => none }
def DivisionShownWrongFalsely : Prop := divisionShownRow.holds Try.pinned (OpenSpec.ofChange divisionShownWrong)

/-- 'acequialaw41.DivisionConsistent': WHATEVER THE INPUT: true; the input reads as it did. -/
def divisionConsistentSpec : ChangeSpec := { name := "divisionConsistent", fn := fun _ => fun
  | [d1, d2, d3, d4, d5] => { results := [.lit (.bool true)], args := [d1, d2, d3, d4, d5] }
  | _ => none }
def divisionConsistentRow : OpenClaim := { program := "ytmjcaclakggafaa", sum := "a7e416d7192ccff8c757c878d6f8a60e085fe939173ec0458f2e982a6d04e154", func := "acequia/acequialaw41.DivisionConsistent", spec := "divisionConsistent", unfollowed := true, recurses := true, apart := false }
def DivisionConsistentSaid : Prop := divisionConsistentRow.holds Try.pinned (OpenSpec.ofChange divisionConsistentSpec)

/-- ITS FALSE NEIGHBOUR: 'it returns false'. Refute it at one input. -/
def divisionConsistentWrong : ChangeSpec := { name := "divisionConsistent", fn := fun _ => fun
  | [d1, d2, d3, d4, d5] => { results := [.lit (.bool false)], args := [d1, d2, d3, d4, d5] }
  | _ => none }
def DivisionConsistentWrongFalsely : Prop := divisionConsistentRow.holds Try.pinned (OpenSpec.ofChange divisionConsistentWrong)

/-- 'acequialaw41.DivisionMet': WHATEVER THE INPUT: true; the input reads as it did. -/
def divisionMetSpec : ChangeSpec := { name := "divisionMet", fn := fun _ => fun
  | [d1, d2, d3] => { results := [.lit (.bool true)], args := [d1, d2, d3] }
  | _ => none }
def divisionMetRow : OpenClaim := { program := "ytmjcaclakggafaa", sum := "a7e416d7192ccff8c757c878d6f8a60e085fe939173ec0458f2e982a6d04e154", func := "acequia/acequialaw41.DivisionMet", spec := "divisionMet", unfollowed := true, recurses := true, apart := false }
def DivisionMetSaid : Prop := divisionMetRow.holds Try.pinned (OpenSpec.ofChange divisionMetSpec)

/-- ITS FALSE NEIGHBOUR: 'it returns false'. Refute it at one input. -/
def divisionMetWrong : ChangeSpec := { name := "divisionMet", fn := fun _ => fun
  | [d1, d2, d3] => { results := [.lit (.bool false)], args := [d1, d2, d3] }
  | _ => none }
def DivisionMetWrongFalsely : Prop := divisionMetRow.holds Try.pinned (OpenSpec.ofChange divisionMetWrong)

/- THE SECOND FORM. 'bulk': how many values and letters a reading holds, each counted each time it is reached (what is shared counts as often as it is met; a slice's spare places count too). A statement '..UptoSaid' is the law's where the arguments, and the package variables that the reading takes, are together of bulk at most 1048576: NARROWER than '..Said'. Prove '..Said' where nothing that the law and all that it calls make is longer than what came in: it says more and counts as full. Else prove '..UptoSaid'. A law counts once. -/
mutual
def uptoBulk {H : Type} : DataW H → Nat
  | .lit (.string bytes) => bytes.length + 1
  | .lit _ => 1
  | .nil => 1
  | .ptr d => uptoBulk d + 1
  | .slice elems spare => uptoBulkAll elems + uptoBulkAll spare + 1
  | .agg parts => uptoBulkAll parts + 1
  | .iface _ d => uptoBulk d + 1
  | .map entries => uptoBulkEntries entries + 1
  | .held _ => 1
def uptoBulkAll {H : Type} : List (DataW H) → Nat
  | [] => 0
  | d :: r => uptoBulk d + uptoBulkAll r
def uptoBulkEntries {H : Type} : List (Lit × DataW H) → Nat
  | [] => 0
  | x :: r => uptoBulkEntry x + uptoBulkEntries r
def uptoBulkEntry {H : Type} : Lit × DataW H → Nat
  | (.string bytes, d) => bytes.length + uptoBulk d + 1
  | (_, d) => uptoBulk d + 1
 end
def uptoSmall : (H : Type) → List (DataW H) → Bool := fun _ ds => decide (uptoBulkAll ds ≤ 1048576)
def OpenSpec.upto (s : _root_.Go.ChangeSpec) : _root_.Go.OpenSpec := { _root_.Go.OpenSpec.ofChange s with cond := some uptoSmall }

/-- 'acequialaw41.DivisionMore', WHERE WHAT IT READS IS OF BULK AT MOST 1048576: true; the input reads as it did. -/
def divisionMoreUptoRow : OpenClaim := { program := "ytmjcaclakggafaa", sum := "a7e416d7192ccff8c757c878d6f8a60e085fe939173ec0458f2e982a6d04e154", func := "acequia/acequialaw41.DivisionMore", spec := "divisionMore", unfollowed := true, recurses := true, apart := false, narrowed := true }
def DivisionMoreUptoSaid : Prop := divisionMoreUptoRow.holds Try.pinned (OpenSpec.upto divisionMoreSpec)

/-- 'acequialaw41.DivisionOthers', WHERE WHAT IT READS IS OF BULK AT MOST 1048576: true; the input reads as it did. -/
def divisionOthersUptoRow : OpenClaim := { program := "ytmjcaclakggafaa", sum := "a7e416d7192ccff8c757c878d6f8a60e085fe939173ec0458f2e982a6d04e154", func := "acequia/acequialaw41.DivisionOthers", spec := "divisionOthers", unfollowed := true, recurses := true, apart := false, narrowed := true }
def DivisionOthersUptoSaid : Prop := divisionOthersUptoRow.holds Try.pinned (OpenSpec.upto divisionOthersSpec)

/-- 'acequialaw41.DivisionShown', WHERE WHAT IT READS IS OF BULK AT MOST 1048576: true; the input reads as it did. -/
def divisionShownUptoRow : OpenClaim := { program := "ytmjcaclakggafaa", sum := "a7e416d7192ccff8c757c878d6f8a60e085fe939173ec0458f2e982a6d04e154", func := "acequia/acequialaw41.DivisionShown", spec := "divisionShown", unfollowed := true, recurses := true, apart := false, narrowed := true }
def DivisionShownUptoSaid : Prop := divisionShownUptoRow.holds Try.pinned (OpenSpec.upto divisionShownSpec)

/-- 'acequialaw41.DivisionConsistent', WHERE WHAT IT READS IS OF BULK AT MOST 1048576: true; the input reads as it did. -/
def divisionConsistentUptoRow : OpenClaim := { program := "ytmjcaclakggafaa", sum := "a7e416d7192ccff8c757c878d6f8a60e085fe939173ec0458f2e982a6d04e154", func := "acequia/acequialaw41.DivisionConsistent", spec := "divisionConsistent", unfollowed := true, recurses := true, apart := false, narrowed := true }
def DivisionConsistentUptoSaid : Prop := divisionConsistentUptoRow.holds Try.pinned (OpenSpec.upto divisionConsistentSpec)

/-- 'acequialaw41.DivisionMet', WHERE WHAT IT READS IS OF BULK AT MOST 1048576: true; the input reads as it did. -/
def divisionMetUptoRow : OpenClaim := { program := "ytmjcaclakggafaa", sum := "a7e416d7192ccff8c757c878d6f8a60e085fe939173ec0458f2e982a6d04e154", func := "acequia/acequialaw41.DivisionMet", spec := "divisionMet", unfollowed := true, recurses := true, apart := false, narrowed := true }
def DivisionMetUptoSaid : Prop := divisionMetUptoRow.holds Try.pinned (OpenSpec.upto divisionMetSpec)

end Rows
end Go.Proofs.Ytmjcaclakggafaa
