/-
  No cell of these rows narrows 'for every input' (looked for: loops, veiled, ifaces, maps, wideKeys, modest, calm, conditions, laid).
  DERIVED. THE GIVEN ROWS OF THIS SEAT. 5 by the template 'for every input the law returns true; each argument reads behind the call as it read before'; 0 by the template 'total and deterministic' (their statements: YtcpdhclnmjfldaaGreatTotals.lean).
  GIVEN WITH THE SEED: the statements are not yours to turn. If you find one false, say at which input.
  Laid BY PROGRAM, IN A SANDBOX (cutbox-rows.mjs): the forced cells as the released guide's own fill.sh prints them over the translation b9256362f5eced5e… (all of the seat's roots in one cut). By AI agents, Wed Nov 11 2026. No macro, syntax, notation, axiom, sorry.
-/
import Derived.Test.YtcpdhclnmjfldaaGreatChecked
import GoSem.Claim
import GoSem.ClaimJoined
import GoSem.ClaimMapViews
import Derived.JoinedTies
import Derived.KernelRfl
namespace Go.Proofs.YtcpdhclnmjfldaaGreat
/- THE CELL 'sum', in the pinned program and in every row, IS THE sha256 OF THE DUMP (.gsa) THAT YtcpdhclnmjfldaaGreatProg.lean LOADS. Nothing in Lean hashes anything: it is a label: what it is worth is what the hold of that sum in a sandbox is worth. -/
noncomputable def Tryz.pinned : Pinned := { name := "ytcpdhclnmjfldaagreat", sum := "b9256362f5eced5e82ef9edbb9feeb9cb2c4154535bedda27b914ffc586b14fd", checked := Tryz.checked }
namespace Rows
def none {H : Type} : Left H := { results := [], args := [] }

/-- 'acequialaw49.SuspectsSpec': WHATEVER THE INPUT: true; the input reads as it did. -/
def suspectsSpecSpec : ChangeSpec := { name := "suspectsSpec", fn := fun _ => fun
  | [d1, d2] => { results := [.lit (.bool true)], args := [d1, d2] }
  | _ => none }
def suspectsSpecRow : OpenClaim := { program := "ytcpdhclnmjfldaagreat", sum := "b9256362f5eced5e82ef9edbb9feeb9cb2c4154535bedda27b914ffc586b14fd", func := "acequia/acequialaw49.SuspectsSpec", spec := "suspectsSpec", unfollowed := true, recurses := true, plainKeys := false, apart := false }
def SuspectsSpecSaid : Prop := suspectsSpecRow.holds Tryz.pinned (OpenSpec.ofChange suspectsSpecSpec)

/-- ITS FALSE NEIGHBOUR: 'it returns false'. Refute it at one input. -/
def suspectsSpecWrong : ChangeSpec := { name := "suspectsSpec", fn := fun _ => fun
  | [d1, d2] => { results := [.lit (.bool false)], args := [d1, d2] }
  | _ => none }
def SuspectsSpecWrongFalsely : Prop := suspectsSpecRow.holds Tryz.pinned (OpenSpec.ofChange suspectsSpecWrong)

/-- 'acequialaw49.SuspectsNamedSpec': WHATEVER THE INPUT: true; the input reads as it did. -/
def suspectsNamedSpecSpec : ChangeSpec := { name := "suspectsNamedSpec", fn := fun _ => fun
  | [d1, d2, d3] => { results := [.lit (.bool true)], args := [d1, d2, d3] }
  | _ => none }
def suspectsNamedSpecRow : OpenClaim := { program := "ytcpdhclnmjfldaagreat", sum := "b9256362f5eced5e82ef9edbb9feeb9cb2c4154535bedda27b914ffc586b14fd", func := "acequia/acequialaw49.SuspectsNamedSpec", spec := "suspectsNamedSpec", unfollowed := true, recurses := true, plainKeys := false, apart := false }
def SuspectsNamedSpecSaid : Prop := suspectsNamedSpecRow.holds Tryz.pinned (OpenSpec.ofChange suspectsNamedSpecSpec)

/-- ITS FALSE NEIGHBOUR: 'it returns false'. Refute it at one input. -/
def suspectsNamedSpecWrong : ChangeSpec := { name := "suspectsNamedSpec", fn := fun _ => fun
  | [d1, d2, d3] => { results := [.lit (.bool false)], args := [d1, d2, d3] }
  | _ => none }
def SuspectsNamedSpecWrongFalsely : Prop := suspectsNamedSpecRow.holds Tryz.pinned (OpenSpec.ofChange suspectsNamedSpecWrong)

/-- 'acequialaw49.SuspectsBlame': WHATEVER THE INPUT: true; the input reads as it did. -/
def suspectsBlameSpec : ChangeSpec := { name := "suspectsBlame", fn := fun _ => fun
  | [d1, d2, d3] => { results := [.lit (.bool true)], args := [d1, d2, d3] }
  | _ => none }
def suspectsBlameRow : OpenClaim := { program := "ytcpdhclnmjfldaagreat", sum := "b9256362f5eced5e82ef9edbb9feeb9cb2c4154535bedda27b914ffc586b14fd", func := "acequia/acequialaw49.SuspectsBlame", spec := "suspectsBlame", unfollowed := true, recurses := true, plainKeys := false, apart := false }
def SuspectsBlameSaid : Prop := suspectsBlameRow.holds Tryz.pinned (OpenSpec.ofChange suspectsBlameSpec)

/-- ITS FALSE NEIGHBOUR: 'it returns false'. Refute it at one input. -/
def suspectsBlameWrong : ChangeSpec := { name := "suspectsBlame", fn := fun _ => fun
  | [d1, d2, d3] => { results := [.lit (.bool false)], args := [d1, d2, d3] }
  | _ => none }
def SuspectsBlameWrongFalsely : Prop := suspectsBlameRow.holds Tryz.pinned (OpenSpec.ofChange suspectsBlameWrong)

/-- 'acequialaw49.SuspectsCores': WHATEVER THE INPUT: true; the input reads as it did. -/
def suspectsCoresSpec : ChangeSpec := { name := "suspectsCores", fn := fun _ => fun
  | [d1, d2] => { results := [.lit (.bool true)], args := [d1, d2] }
  | _ => none }
def suspectsCoresRow : OpenClaim := { program := "ytcpdhclnmjfldaagreat", sum := "b9256362f5eced5e82ef9edbb9feeb9cb2c4154535bedda27b914ffc586b14fd", func := "acequia/acequialaw49.SuspectsCores", spec := "suspectsCores", unfollowed := true, recurses := true, plainKeys := false, apart := false }
def SuspectsCoresSaid : Prop := suspectsCoresRow.holds Tryz.pinned (OpenSpec.ofChange suspectsCoresSpec)

/-- ITS FALSE NEIGHBOUR: 'it returns false'. Refute it at one input. -/
def suspectsCoresWrong : ChangeSpec := { name := "suspectsCores", fn := fun _ => fun
  | [d1, d2] => { results := [.lit (.bool false)], args := [d1, d2] }
  | _ => none }
def SuspectsCoresWrongFalsely : Prop := suspectsCoresRow.holds Tryz.pinned (OpenSpec.ofChange suspectsCoresWrong)

/-- 'acequialaw49.SuspectsTrue': WHATEVER THE INPUT: true; the input reads as it did. -/
def suspectsTrueSpec : ChangeSpec := { name := "suspectsTrue", fn := fun _ => fun
  | [d1, d2, d3, d4] => { results := [.lit (.bool true)], args := [d1, d2, d3, d4] }
  | _ => none }
def suspectsTrueRow : OpenClaim := { program := "ytcpdhclnmjfldaagreat", sum := "b9256362f5eced5e82ef9edbb9feeb9cb2c4154535bedda27b914ffc586b14fd", func := "acequia/acequialaw49.SuspectsTrue", spec := "suspectsTrue", unfollowed := true, recurses := true, plainKeys := false, apart := false }
def SuspectsTrueSaid : Prop := suspectsTrueRow.holds Tryz.pinned (OpenSpec.ofChange suspectsTrueSpec)

/-- ITS FALSE NEIGHBOUR: 'it returns false'. Refute it at one input. -/
def suspectsTrueWrong : ChangeSpec := { name := "suspectsTrue", fn := fun _ => fun
  | [d1, d2, d3, d4] => { results := [.lit (.bool false)], args := [d1, d2, d3, d4] }
  | _ => none }
def SuspectsTrueWrongFalsely : Prop := suspectsTrueRow.holds Tryz.pinned (OpenSpec.ofChange suspectsTrueWrong)

/- THE SECOND FORM. 'bulk': how many values and letters a reading holds, each counted each time it is reached (what is shared counts as often as it is met; a slice's spare places count too). A statement '..UptoSaid' is the law's where the arguments, and the package variables that the reading takes, are together of bulk at most 1048576: NARROWER than '..Said'. Prove '..Said' where nothing that the law and all that it calls make is longer than what came in: it says more and counts as full. Else prove '..UptoSaid'. A law counts once. -/
mutual
def uptoBulk {H : Type} : DataW H → Nat
  | .lit (.string bytes) => bytes.length + 1
  | .lit _ => 1
  | .nil => 1
  | .ptr d => uptoBulk d + 1
  | .slice elems spare => uptoBulkAll elems + uptoBulkAll spare + 1
  | .agg parts => uptoBulkAll parts + 1
  | .iface _ d => uptoBulk d + 1
  | .map entries => uptoBulkEntries entries + 1
  | .held _ => 1
def uptoBulkAll {H : Type} : List (DataW H) → Nat
  | [] => 0
  | d :: r => uptoBulk d + uptoBulkAll r
def uptoBulkEntries {H : Type} : List (Lit × DataW H) → Nat
  | [] => 0
  | x :: r => uptoBulkEntry x + uptoBulkEntries r
def uptoBulkEntry {H : Type} : Lit × DataW H → Nat
  | (.string bytes, d) => bytes.length + uptoBulk d + 1
  | (_, d) => uptoBulk d + 1
 end
def uptoSmall : (H : Type) → List (DataW H) → Bool := fun _ ds => decide (uptoBulkAll ds ≤ 1048576)
def OpenSpec.upto (s : _root_.Go.ChangeSpec) : _root_.Go.OpenSpec := { _root_.Go.OpenSpec.ofChange s with cond := some uptoSmall }

/-- 'acequialaw49.SuspectsSpec', WHERE WHAT IT READS IS OF BULK AT MOST 1048576: true; the input reads as it did. -/
def suspectsSpecUptoRow : OpenClaim := { program := "ytcpdhclnmjfldaagreat", sum := "b9256362f5eced5e82ef9edbb9feeb9cb2c4154535bedda27b914ffc586b14fd", func := "acequia/acequialaw49.SuspectsSpec", spec := "suspectsSpec", unfollowed := true, recurses := true, plainKeys := false, apart := false, narrowed := true }
def SuspectsSpecUptoSaid : Prop := suspectsSpecUptoRow.holds Tryz.pinned (OpenSpec.upto suspectsSpecSpec)

/-- 'acequialaw49.SuspectsNamedSpec', WHERE WHAT IT READS IS OF BULK AT MOST 1048576: true; the input reads as it did. -/
def suspectsNamedSpecUptoRow : OpenClaim := { program := "ytcpdhclnmjfldaagreat", sum := "b9256362f5eced5e82ef9edbb9feeb9cb2c4154535bedda27b914ffc586b14fd", func := "acequia/acequialaw49.SuspectsNamedSpec", spec := "suspectsNamedSpec", unfollowed := true, recurses := true, plainKeys := false, apart := false, narrowed := true }
def SuspectsNamedSpecUptoSaid : Prop := suspectsNamedSpecUptoRow.holds Tryz.pinned (OpenSpec.upto suspectsNamedSpecSpec)

/-- 'acequialaw49.SuspectsBlame', WHERE WHAT IT READS IS OF BULK AT MOST 1048576: true; the input reads as it did. -/
def suspectsBlameUptoRow : OpenClaim := { program := "ytcpdhclnmjfldaagreat", sum := "b9256362f5eced5e82ef9edbb9feeb9cb2c4154535bedda27b914ffc586b14fd", func := "acequia/acequialaw49.SuspectsBlame", spec := "suspectsBlame", unfollowed := true, recurses := true, plainKeys := false, apart := false, narrowed := true }
def SuspectsBlameUptoSaid : Prop := suspectsBlameUptoRow.holds Tryz.pinned (OpenSpec.upto suspectsBlameSpec)

/-- 'acequialaw49.SuspectsCores', WHERE WHAT IT READS IS OF BULK AT MOST 1048576: true; the input reads as it did. -/
def suspectsCoresUptoRow : OpenClaim := { program := "ytcpdhclnmjfldaagreat", sum := "b9256362f5eced5e82ef9edbb9feeb9cb2c4154535bedda27b914ffc586b14fd", func := "acequia/acequialaw49.SuspectsCores", spec := "suspectsCores", unfollowed := true, recurses := true, plainKeys := false, apart := false, narrowed := true }
def SuspectsCoresUptoSaid : Prop := suspectsCoresUptoRow.holds Tryz.pinned (OpenSpec.upto suspectsCoresSpec)

/-- 'acequialaw49.SuspectsTrue', WHERE WHAT IT READS IS OF BULK AT MOST 1048576: true; the input reads as it did. -/
def suspectsTrueUptoRow : OpenClaim := { program := "ytcpdhclnmjfldaagreat", sum := "b9256362f5eced5e82ef9edbb9feeb9cb2c4154535bedda27b914ffc586b14fd", func := "acequia/acequialaw49.SuspectsTrue", spec := "suspectsTrue", unfollowed := true, recurses := true, plainKeys := false, apart := false, narrowed := true }
def SuspectsTrueUptoSaid : Prop := suspectsTrueUptoRow.holds Tryz.pinned (OpenSpec.upto suspectsTrueSpec)

end Rows
end Go.Proofs.YtcpdhclnmjfldaaGreat
