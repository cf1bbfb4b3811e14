/-
  NARROWER THAN 'FOR EVERY INPUT', by the rows' own cells (each row's printed sentence says how): ProbeSpec: laid · ProbeFollowSpec: loops, laid · ProbeCheapest: loops, laid · ProbeTruth: loops, laid · ProbeFewer: laid.
  DERIVED. THE GIVEN ROWS OF THIS SEAT. 5 by the template 'for every input the law returns true; each argument reads behind the call as it read before'; 0 by the template 'total and deterministic' (their statements: YtpmmhcgghldaaaaDoorTotals.lean).
  GIVEN WITH THE SEED: the statements are not yours to turn. If you find one false, say at which input.
  Laid BY PROGRAM, IN A SANDBOX (cutbox-rows.mjs): the forced cells as the released guide's own fill.sh prints them over the translation 9e8663c10f9cfcc9… (all of the seat's roots in one cut). By AI agents, Wed Nov 11 2026. No macro, syntax, notation, axiom, sorry.
-/
import Derived.Test.YtpmmhcgghldaaaaDoorChecked
import GoSem.Claim
import GoSem.ClaimJoined
import GoSem.ClaimMapViews
import Derived.JoinedTies
import Derived.KernelRfl
namespace Go.Proofs.YtpmmhcgghldaaaaDoor
/- THE CELL 'sum', in the pinned program and in every row, IS THE sha256 OF THE DUMP (.gsa) THAT YtpmmhcgghldaaaaDoorProg.lean LOADS. Nothing in Lean hashes anything: it is a label: what it is worth is what the hold of that sum in a sandbox is worth. -/
noncomputable def Tryd.pinned : Pinned := { name := "ytpmmhcgghldaaaadoor", sum := "9e8663c10f9cfcc991993f6925b5b89ca20fae96b4b85e7f4f5f77721b0e88eb", checked := Tryd.checked }
namespace Rows
def none {H : Type} : Left H := { results := [], args := [] }

/- WHAT THE LISTED PACKAGE-LEVEL VARIABLES READ AS WHEN THE CALL BEGINS. Each datum BY PROGRAM (the guide's laid-datum.mjs) off the statement by which the dump's own 'gosem.cut.vars' lays the variable. In a bare row this is a premise. The card (YtpmmhcgghldaaaaDoorCards.lean) ties it to the program's text. -/
def laid_math_bits_deBruijn32tab {H : Type} : DataW H := .agg [.lit (.int .u8 0), .lit (.int .u8 1), .lit (.int .u8 28), .lit (.int .u8 2), .lit (.int .u8 29), .lit (.int .u8 14), .lit (.int .u8 24), .lit (.int .u8 3), .lit (.int .u8 30), .lit (.int .u8 22), .lit (.int .u8 20), .lit (.int .u8 15), .lit (.int .u8 25), .lit (.int .u8 17), .lit (.int .u8 4), .lit (.int .u8 8), .lit (.int .u8 31), .lit (.int .u8 27), .lit (.int .u8 13), .lit (.int .u8 23), .lit (.int .u8 21), .lit (.int .u8 19), .lit (.int .u8 16), .lit (.int .u8 7), .lit (.int .u8 26), .lit (.int .u8 12), .lit (.int .u8 18), .lit (.int .u8 6), .lit (.int .u8 11), .lit (.int .u8 5), .lit (.int .u8 10), .lit (.int .u8 9)]
def laid_math_bits_deBruijn64tab {H : Type} : DataW H := .agg [.lit (.int .u8 0), .lit (.int .u8 1), .lit (.int .u8 56), .lit (.int .u8 2), .lit (.int .u8 57), .lit (.int .u8 49), .lit (.int .u8 28), .lit (.int .u8 3), .lit (.int .u8 61), .lit (.int .u8 58), .lit (.int .u8 42), .lit (.int .u8 50), .lit (.int .u8 38), .lit (.int .u8 29), .lit (.int .u8 17), .lit (.int .u8 4), .lit (.int .u8 62), .lit (.int .u8 47), .lit (.int .u8 59), .lit (.int .u8 36), .lit (.int .u8 45), .lit (.int .u8 43), .lit (.int .u8 51), .lit (.int .u8 22), .lit (.int .u8 53), .lit (.int .u8 39), .lit (.int .u8 33), .lit (.int .u8 30), .lit (.int .u8 24), .lit (.int .u8 18), .lit (.int .u8 12), .lit (.int .u8 5), .lit (.int .u8 63), .lit (.int .u8 55), .lit (.int .u8 48), .lit (.int .u8 27), .lit (.int .u8 60), .lit (.int .u8 41), .lit (.int .u8 37), .lit (.int .u8 16), .lit (.int .u8 46), .lit (.int .u8 35), .lit (.int .u8 44), .lit (.int .u8 21), .lit (.int .u8 52), .lit (.int .u8 32), .lit (.int .u8 23), .lit (.int .u8 11), .lit (.int .u8 54), .lit (.int .u8 26), .lit (.int .u8 40), .lit (.int .u8 15), .lit (.int .u8 34), .lit (.int .u8 20), .lit (.int .u8 31), .lit (.int .u8 10), .lit (.int .u8 25), .lit (.int .u8 14), .lit (.int .u8 19), .lit (.int .u8 9), .lit (.int .u8 13), .lit (.int .u8 8), .lit (.int .u8 7), .lit (.int .u8 6)]

/-- 'acequialaw50.ProbeSpec': WHATEVER THE INPUT: true; the input reads as it did. -/
def probeSpecSpec : ChangeSpec := { name := "probeSpec", fn := fun _ => fun
  | [d1, d2] => { results := [.lit (.bool true)], args := [d1, d2] }
  | _ => none }
def probeSpecRow : OpenClaim := { program := "ytpmmhcgghldaaaadoor", sum := "9e8663c10f9cfcc991993f6925b5b89ca20fae96b4b85e7f4f5f77721b0e88eb", func := "acequia/acequialaw50.ProbeSpec", spec := "probeSpec", unfollowed := true, recurses := true, named := ["math/bits.deBruijn32tab", "math/bits.deBruijn64tab"], apart := false, laid := [("math/bits.deBruijn32tab", laid_math_bits_deBruijn32tab), ("math/bits.deBruijn64tab", laid_math_bits_deBruijn64tab)] }
def ProbeSpecSaid : Prop := probeSpecRow.holds Tryd.pinned (OpenSpec.ofChange probeSpecSpec)

/-- ITS FALSE NEIGHBOUR: 'it returns false'. Refute it at one input. -/
def probeSpecWrong : ChangeSpec := { name := "probeSpec", fn := fun _ => fun
  | [d1, d2] => { results := [.lit (.bool false)], args := [d1, d2] }
  | _ => none }
def ProbeSpecWrongFalsely : Prop := probeSpecRow.holds Tryd.pinned (OpenSpec.ofChange probeSpecWrong)

/-- 'acequialaw50.ProbeFollowSpec': WHATEVER THE INPUT: true; the input reads as it did. -/
def probeFollowSpecSpec : ChangeSpec := { name := "probeFollowSpec", fn := fun _ => fun
  | [d1, d2, d3, d4] => { results := [.lit (.bool true)], args := [d1, d2, d3, d4] }
  | _ => none }
def probeFollowSpecRow : OpenClaim := { program := "ytpmmhcgghldaaaadoor", sum := "9e8663c10f9cfcc991993f6925b5b89ca20fae96b4b85e7f4f5f77721b0e88eb", func := "acequia/acequialaw50.ProbeFollowSpec", spec := "probeFollowSpec", unfollowed := true, recurses := true, named := ["math/bits.deBruijn32tab", "math/bits.deBruijn64tab"], loops := true, apart := false, laid := [("math/bits.deBruijn32tab", laid_math_bits_deBruijn32tab), ("math/bits.deBruijn64tab", laid_math_bits_deBruijn64tab)] }
def ProbeFollowSpecSaid : Prop := probeFollowSpecRow.holds Tryd.pinned (OpenSpec.ofChange probeFollowSpecSpec)

/-- ITS FALSE NEIGHBOUR: 'it returns false'. Refute it at one input. -/
def probeFollowSpecWrong : ChangeSpec := { name := "probeFollowSpec", fn := fun _ => fun
  | [d1, d2, d3, d4] => { results := [.lit (.bool false)], args := [d1, d2, d3, d4] }
  | _ => none }
def ProbeFollowSpecWrongFalsely : Prop := probeFollowSpecRow.holds Tryd.pinned (OpenSpec.ofChange probeFollowSpecWrong)

/-- 'acequialaw50.ProbeCheapest': WHATEVER THE INPUT: true; the input reads as it did. -/
def probeCheapestSpec : ChangeSpec := { name := "probeCheapest", fn := fun _ => fun
  | [d1, d2, d3] => { results := [.lit (.bool true)], args := [d1, d2, d3] }
  | _ => none }
def probeCheapestRow : OpenClaim := { program := "ytpmmhcgghldaaaadoor", sum := "9e8663c10f9cfcc991993f6925b5b89ca20fae96b4b85e7f4f5f77721b0e88eb", func := "acequia/acequialaw50.ProbeCheapest", spec := "probeCheapest", unfollowed := true, recurses := true, named := ["math/bits.deBruijn32tab", "math/bits.deBruijn64tab"], loops := true, apart := false, laid := [("math/bits.deBruijn32tab", laid_math_bits_deBruijn32tab), ("math/bits.deBruijn64tab", laid_math_bits_deBruijn64tab)] }
def ProbeCheapestSaid : Prop := probeCheapestRow.holds Tryd.pinned (OpenSpec.ofChange probeCheapestSpec)

/-- ITS FALSE NEIGHBOUR: 'it returns false'. Refute it at one input. -/
def probeCheapestWrong : ChangeSpec := { name := "probeCheapest", fn := fun _ => fun
  | [d1, d2, d3] => { results := [.lit (.bool false)], args := [d1, d2, d3] }
  | _ => none }
def ProbeCheapestWrongFalsely : Prop := probeCheapestRow.holds Tryd.pinned (OpenSpec.ofChange probeCheapestWrong)

/-- 'acequialaw50.ProbeTruth': WHATEVER THE INPUT: true; the input reads as it did. -/
def probeTruthSpec : ChangeSpec := { name := "probeTruth", fn := fun _ => fun
  | [d1, d2, d3, d4] => { results := [.lit (.bool true)], args := [d1, d2, d3, d4] }
  | _ => none }
def probeTruthRow : OpenClaim := { program := "ytpmmhcgghldaaaadoor", sum := "9e8663c10f9cfcc991993f6925b5b89ca20fae96b4b85e7f4f5f77721b0e88eb", func := "acequia/acequialaw50.ProbeTruth", spec := "probeTruth", unfollowed := true, recurses := true, named := ["math/bits.deBruijn32tab", "math/bits.deBruijn64tab"], loops := true, apart := false, laid := [("math/bits.deBruijn32tab", laid_math_bits_deBruijn32tab), ("math/bits.deBruijn64tab", laid_math_bits_deBruijn64tab)] }
def ProbeTruthSaid : Prop := probeTruthRow.holds Tryd.pinned (OpenSpec.ofChange probeTruthSpec)

/-- ITS FALSE NEIGHBOUR: 'it returns false'. Refute it at one input. -/
def probeTruthWrong : ChangeSpec := { name := "probeTruth", fn := fun _ => fun
  | [d1, d2, d3, d4] => { results := [.lit (.bool false)], args := [d1, d2, d3, d4] }
  | _ => none }
def ProbeTruthWrongFalsely : Prop := probeTruthRow.holds Tryd.pinned (OpenSpec.ofChange probeTruthWrong)

/-- 'acequialaw50.ProbeFewer': WHATEVER THE INPUT: true; the input reads as it did. -/
def probeFewerSpec : ChangeSpec := { name := "probeFewer", fn := fun _ => fun
  | [d1, d2, d3, d4, d5] => { results := [.lit (.bool true)], args := [d1, d2, d3, d4, d5] }
  | _ => none }
def probeFewerRow : OpenClaim := { program := "ytpmmhcgghldaaaadoor", sum := "9e8663c10f9cfcc991993f6925b5b89ca20fae96b4b85e7f4f5f77721b0e88eb", func := "acequia/acequialaw50.ProbeFewer", spec := "probeFewer", unfollowed := true, recurses := true, named := ["math/bits.deBruijn32tab", "math/bits.deBruijn64tab"], apart := false, laid := [("math/bits.deBruijn32tab", laid_math_bits_deBruijn32tab), ("math/bits.deBruijn64tab", laid_math_bits_deBruijn64tab)] }
def ProbeFewerSaid : Prop := probeFewerRow.holds Tryd.pinned (OpenSpec.ofChange probeFewerSpec)

/-- ITS FALSE NEIGHBOUR: 'it returns false'. Refute it at one input. -/
def probeFewerWrong : ChangeSpec := { name := "probeFewer", fn := fun _ => fun
  | [d1, d2, d3, d4, d5] => { results := [.lit (.bool false)], args := [d1, d2, d3, d4, d5] }
  | _ => none }
def ProbeFewerWrongFalsely : Prop := probeFewerRow.holds Tryd.pinned (OpenSpec.ofChange probeFewerWrong)

/- THE SECOND FORM. 'bulk': how many values and letters a reading holds, each counted each time it is reached (what is shared counts as often as it is met; a slice's spare places count too). A statement '..UptoSaid' is the law's where the arguments, and the package variables that the reading takes, are together of bulk at most 1048576: NARROWER than '..Said'. Prove '..Said' where nothing that the law and all that it calls make is longer than what came in: it says more and counts as full. Else prove '..UptoSaid'. A law counts once. -/
mutual
def uptoBulk {H : Type} : DataW H → Nat
  | .lit (.string bytes) => bytes.length + 1
  | .lit _ => 1
  | .nil => 1
  | .ptr d => uptoBulk d + 1
  | .slice elems spare => uptoBulkAll elems + uptoBulkAll spare + 1
  | .agg parts => uptoBulkAll parts + 1
  | .iface _ d => uptoBulk d + 1
  | .map entries => uptoBulkEntries entries + 1
  | .held _ => 1
def uptoBulkAll {H : Type} : List (DataW H) → Nat
  | [] => 0
  | d :: r => uptoBulk d + uptoBulkAll r
def uptoBulkEntries {H : Type} : List (Lit × DataW H) → Nat
  | [] => 0
  | x :: r => uptoBulkEntry x + uptoBulkEntries r
def uptoBulkEntry {H : Type} : Lit × DataW H → Nat
  | (.string bytes, d) => bytes.length + uptoBulk d + 1
  | (_, d) => uptoBulk d + 1
 end
def uptoSmall : (H : Type) → List (DataW H) → Bool := fun _ ds => decide (uptoBulkAll ds ≤ 1048576)
def OpenSpec.upto (s : _root_.Go.ChangeSpec) : _root_.Go.OpenSpec := { _root_.Go.OpenSpec.ofChange s with cond := some uptoSmall }

/-- 'acequialaw50.ProbeSpec', WHERE WHAT IT READS IS OF BULK AT MOST 1048576: true; the input reads as it did. -/
def probeSpecUptoRow : OpenClaim := { program := "ytpmmhcgghldaaaadoor", sum := "9e8663c10f9cfcc991993f6925b5b89ca20fae96b4b85e7f4f5f77721b0e88eb", func := "acequia/acequialaw50.ProbeSpec", spec := "probeSpec", unfollowed := true, recurses := true, named := ["math/bits.deBruijn32tab", "math/bits.deBruijn64tab"], apart := false, laid := [("math/bits.deBruijn32tab", laid_math_bits_deBruijn32tab), ("math/bits.deBruijn64tab", laid_math_bits_deBruijn64tab)], narrowed := true }
def ProbeSpecUptoSaid : Prop := probeSpecUptoRow.holds Tryd.pinned (OpenSpec.upto probeSpecSpec)

/-- 'acequialaw50.ProbeFollowSpec', WHERE WHAT IT READS IS OF BULK AT MOST 1048576: true; the input reads as it did. -/
def probeFollowSpecUptoRow : OpenClaim := { program := "ytpmmhcgghldaaaadoor", sum := "9e8663c10f9cfcc991993f6925b5b89ca20fae96b4b85e7f4f5f77721b0e88eb", func := "acequia/acequialaw50.ProbeFollowSpec", spec := "probeFollowSpec", unfollowed := true, recurses := true, named := ["math/bits.deBruijn32tab", "math/bits.deBruijn64tab"], loops := true, apart := false, laid := [("math/bits.deBruijn32tab", laid_math_bits_deBruijn32tab), ("math/bits.deBruijn64tab", laid_math_bits_deBruijn64tab)], narrowed := true }
def ProbeFollowSpecUptoSaid : Prop := probeFollowSpecUptoRow.holds Tryd.pinned (OpenSpec.upto probeFollowSpecSpec)

/-- 'acequialaw50.ProbeCheapest', WHERE WHAT IT READS IS OF BULK AT MOST 1048576: true; the input reads as it did. -/
def probeCheapestUptoRow : OpenClaim := { program := "ytpmmhcgghldaaaadoor", sum := "9e8663c10f9cfcc991993f6925b5b89ca20fae96b4b85e7f4f5f77721b0e88eb", func := "acequia/acequialaw50.ProbeCheapest", spec := "probeCheapest", unfollowed := true, recurses := true, named := ["math/bits.deBruijn32tab", "math/bits.deBruijn64tab"], loops := true, apart := false, laid := [("math/bits.deBruijn32tab", laid_math_bits_deBruijn32tab), ("math/bits.deBruijn64tab", laid_math_bits_deBruijn64tab)], narrowed := true }
def ProbeCheapestUptoSaid : Prop := probeCheapestUptoRow.holds Tryd.pinned (OpenSpec.upto probeCheapestSpec)

/-- 'acequialaw50.ProbeTruth', WHERE WHAT IT READS IS OF BULK AT MOST 1048576: true; the input reads as it did. -/
def probeTruthUptoRow : OpenClaim := { program := "ytpmmhcgghldaaaadoor", sum := "9e8663c10f9cfcc991993f6925b5b89ca20fae96b4b85e7f4f5f77721b0e88eb", func := "acequia/acequialaw50.ProbeTruth", spec := "probeTruth", unfollowed := true, recurses := true, named := ["math/bits.deBruijn32tab", "math/bits.deBruijn64tab"], loops := true, apart := false, laid := [("math/bits.deBruijn32tab", laid_math_bits_deBruijn32tab), ("math/bits.deBruijn64tab", laid_math_bits_deBruijn64tab)], narrowed := true }
def ProbeTruthUptoSaid : Prop := probeTruthUptoRow.holds Tryd.pinned (OpenSpec.upto probeTruthSpec)

/-- 'acequialaw50.ProbeFewer', WHERE WHAT IT READS IS OF BULK AT MOST 1048576: true; the input reads as it did. -/
def probeFewerUptoRow : OpenClaim := { program := "ytpmmhcgghldaaaadoor", sum := "9e8663c10f9cfcc991993f6925b5b89ca20fae96b4b85e7f4f5f77721b0e88eb", func := "acequia/acequialaw50.ProbeFewer", spec := "probeFewer", unfollowed := true, recurses := true, named := ["math/bits.deBruijn32tab", "math/bits.deBruijn64tab"], apart := false, laid := [("math/bits.deBruijn32tab", laid_math_bits_deBruijn32tab), ("math/bits.deBruijn64tab", laid_math_bits_deBruijn64tab)], narrowed := true }
def ProbeFewerUptoSaid : Prop := probeFewerUptoRow.holds Tryd.pinned (OpenSpec.upto probeFewerSpec)

end Rows
end Go.Proofs.YtpmmhcgghldaaaaDoor
