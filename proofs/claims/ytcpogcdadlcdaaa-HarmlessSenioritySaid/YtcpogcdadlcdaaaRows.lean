/-
  No cell of these rows narrows 'for every input' (looked for: loops, veiled, ifaces, maps, wideKeys, modest, calm, conditions, laid).
  DERIVED. THE GIVEN ROWS OF THIS SEAT. 4 by the template 'for every input the law returns true; each argument reads behind the call as it read before'; 0 by the template 'total and deterministic' (their statements: YtcpogcdadlcdaaaTotals.lean).
  GIVEN WITH THE SEED: the statements are not yours to turn. If you find one false, say at which input.
  Laid BY PROGRAM, IN A SANDBOX (cutbox-rows.mjs): the forced cells as the released guide's own fill.sh prints them over the translation 73748998ea53fe64… (all of the seat's roots in one cut). By AI agents, Wed Nov 11 2026. No macro, syntax, notation, axiom, sorry.
-/
import Derived.Test.YtcpogcdadlcdaaaChecked
import GoSem.Claim
import GoSem.ClaimJoined
import GoSem.ClaimMapViews
import Derived.JoinedTies
import Derived.KernelRfl
namespace Go.Proofs.Ytcpogcdadlcdaaa
/- THE CELL 'sum', in the pinned program and in every row, IS THE sha256 OF THE DUMP (.gsa) THAT YtcpogcdadlcdaaaProg.lean LOADS. Nothing in Lean hashes anything: it is a label: what it is worth is what the hold of that sum in a sandbox is worth. -/
noncomputable def Try.pinned : Pinned := { name := "ytcpogcdadlcdaaa", sum := "73748998ea53fe64c13a94c372c89fc6a3c1c85011b39107ed1e4979d0e581e3", checked := Try.checked }
namespace Rows
def none {H : Type} : Left H := { results := [], args := [] }

/-- 'acequialaw46.HarmlessRetitleSpec': WHATEVER THE INPUT: true; the input reads as it did. -/
def harmlessRetitleSpecSpec : ChangeSpec := { name := "harmlessRetitleSpec", fn := fun _ => fun
  | [d1, d2, d3, d4, d5, d6] => { results := [.lit (.bool true)], args := [d1, d2, d3, d4, d5, d6] }
  | _ => none }
def harmlessRetitleSpecRow : OpenClaim := { program := "ytcpogcdadlcdaaa", sum := "73748998ea53fe64c13a94c372c89fc6a3c1c85011b39107ed1e4979d0e581e3", func := "acequia/acequialaw46.HarmlessRetitleSpec", spec := "harmlessRetitleSpec", unfollowed := true, recurses := true, plainKeys := false, apart := false }
def HarmlessRetitleSpecSaid : Prop := harmlessRetitleSpecRow.holds Try.pinned (OpenSpec.ofChange harmlessRetitleSpecSpec)

/-- ITS FALSE NEIGHBOUR: 'it returns false'. Refute it at one input. -/
def harmlessRetitleSpecWrong : ChangeSpec := { name := "harmlessRetitleSpec", fn := fun _ => fun
  | [d1, d2, d3, d4, d5, d6] => { results := [.lit (.bool false)], args := [d1, d2, d3, d4, d5, d6] }
  | _ => none }
def HarmlessRetitleSpecWrongFalsely : Prop := harmlessRetitleSpecRow.holds Try.pinned (OpenSpec.ofChange harmlessRetitleSpecWrong)

/-- 'acequialaw46.HarmlessBack': WHATEVER THE INPUT: true; the input reads as it did. -/
def harmlessBackSpec : ChangeSpec := { name := "harmlessBack", fn := fun _ => fun
  | [d1, d2, d3, d4, d5] => { results := [.lit (.bool true)], args := [d1, d2, d3, d4, d5] }
  | _ => none }
def harmlessBackRow : OpenClaim := { program := "ytcpogcdadlcdaaa", sum := "73748998ea53fe64c13a94c372c89fc6a3c1c85011b39107ed1e4979d0e581e3", func := "acequia/acequialaw46.HarmlessBack", spec := "harmlessBack", unfollowed := true, recurses := true, plainKeys := false, apart := false }
def HarmlessBackSaid : Prop := harmlessBackRow.holds Try.pinned (OpenSpec.ofChange harmlessBackSpec)

/-- ITS FALSE NEIGHBOUR: 'it returns false'. Refute it at one input. -/
def harmlessBackWrong : ChangeSpec := { name := "harmlessBack", fn := fun _ => fun
  | [d1, d2, d3, d4, d5] => { results := [.lit (.bool false)], args := [d1, d2, d3, d4, d5] }
  | _ => none }
def HarmlessBackWrongFalsely : Prop := harmlessBackRow.holds Try.pinned (OpenSpec.ofChange harmlessBackWrong)

/-- 'acequialaw46.HarmlessRain': WHATEVER THE INPUT: true; the input reads as it did. -/
def harmlessRainSpec : ChangeSpec := { name := "harmlessRain", fn := fun _ => fun
  | [d1, d2, d3, d4] => { results := [.lit (.bool true)], args := [d1, d2, d3, d4] }
  | _ => none }
def harmlessRainRow : OpenClaim := { program := "ytcpogcdadlcdaaa", sum := "73748998ea53fe64c13a94c372c89fc6a3c1c85011b39107ed1e4979d0e581e3", func := "acequia/acequialaw46.HarmlessRain", spec := "harmlessRain", unfollowed := true, recurses := true, plainKeys := false, apart := false }
def HarmlessRainSaid : Prop := harmlessRainRow.holds Try.pinned (OpenSpec.ofChange harmlessRainSpec)

/-- ITS FALSE NEIGHBOUR: 'it returns false'. Refute it at one input. -/
def harmlessRainWrong : ChangeSpec := { name := "harmlessRain", fn := fun _ => fun
  | [d1, d2, d3, d4] => { results := [.lit (.bool false)], args := [d1, d2, d3, d4] }
  | _ => none }
def HarmlessRainWrongFalsely : Prop := harmlessRainRow.holds Try.pinned (OpenSpec.ofChange harmlessRainWrong)

/-- 'acequialaw46.HarmlessSeniority': WHATEVER THE INPUT: true; the input reads as it did. -/
def harmlessSenioritySpec : ChangeSpec := { name := "harmlessSeniority", fn := fun _ => fun
  | [d1, d2, d3, d4, d5, d6, d7] => { results := [.lit (.bool true)], args := [d1, d2, d3, d4, d5, d6, d7] }
  | _ => none }
def harmlessSeniorityRow : OpenClaim := { program := "ytcpogcdadlcdaaa", sum := "73748998ea53fe64c13a94c372c89fc6a3c1c85011b39107ed1e4979d0e581e3", func := "acequia/acequialaw46.HarmlessSeniority", spec := "harmlessSeniority", unfollowed := true, recurses := true, plainKeys := false, apart := false }
def HarmlessSenioritySaid : Prop := harmlessSeniorityRow.holds Try.pinned (OpenSpec.ofChange harmlessSenioritySpec)

/-- ITS FALSE NEIGHBOUR: 'it returns false'. Refute it at one input. -/
def harmlessSeniorityWrong : ChangeSpec := { name := "harmlessSeniority", fn := fun _ => fun
  | [d1, d2, d3, d4, d5, d6, d7] => { results := [.lit (.bool false)], args := [d1, d2, d3, d4, d5, d6, d7] }
  | _ => none }
def HarmlessSeniorityWrongFalsely : Prop := harmlessSeniorityRow.holds Try.pinned (OpenSpec.ofChange harmlessSeniorityWrong)

/- THE SECOND FORM. 'bulk': how many values and letters a reading holds, each counted each time it is reached (what is shared counts as often as it is met; a slice's spare places count too). A statement '..UptoSaid' is the law's where the arguments, and the package variables that the reading takes, are together of bulk at most 1048576: NARROWER than '..Said'. Prove '..Said' where nothing that the law and all that it calls make is longer than what came in: it says more and counts as full. Else prove '..UptoSaid'. A law counts once. -/
mutual
def uptoBulk {H : Type} : DataW H → Nat
  | .lit (.string bytes) => bytes.length + 1
  | .lit _ => 1
  | .nil => 1
  | .ptr d => uptoBulk d + 1
  | .slice elems spare => uptoBulkAll elems + uptoBulkAll spare + 1
  | .agg parts => uptoBulkAll parts + 1
  | .iface _ d => uptoBulk d + 1
  | .map entries => uptoBulkEntries entries + 1
  | .held _ => 1
def uptoBulkAll {H : Type} : List (DataW H) → Nat
  | [] => 0
  | d :: r => uptoBulk d + uptoBulkAll r
def uptoBulkEntries {H : Type} : List (Lit × DataW H) → Nat
  | [] => 0
  | x :: r => uptoBulkEntry x + uptoBulkEntries r
def uptoBulkEntry {H : Type} : Lit × DataW H → Nat
  | (.string bytes, d) => bytes.length + uptoBulk d + 1
  | (_, d) => uptoBulk d + 1
 end
def uptoSmall : (H : Type) → List (DataW H) → Bool := fun _ ds => decide (uptoBulkAll ds ≤ 1048576)
def OpenSpec.upto (s : _root_.Go.ChangeSpec) : _root_.Go.OpenSpec := { _root_.Go.OpenSpec.ofChange s with cond := some uptoSmall }

/-- 'acequialaw46.HarmlessRetitleSpec', WHERE WHAT IT READS IS OF BULK AT MOST 1048576: true; the input reads as it did. -/
def harmlessRetitleSpecUptoRow : OpenClaim := { program := "ytcpogcdadlcdaaa", sum := "73748998ea53fe64c13a94c372c89fc6a3c1c85011b39107ed1e4979d0e581e3", func := "acequia/acequialaw46.HarmlessRetitleSpec", spec := "harmlessRetitleSpec", unfollowed := true, recurses := true, plainKeys := false, apart := false, narrowed := true }
def HarmlessRetitleSpecUptoSaid : Prop := harmlessRetitleSpecUptoRow.holds Try.pinned (OpenSpec.upto harmlessRetitleSpecSpec)

/-- 'acequialaw46.HarmlessBack', WHERE WHAT IT READS IS OF BULK AT MOST 1048576: true; the input reads as it did. -/
def harmlessBackUptoRow : OpenClaim := { program := "ytcpogcdadlcdaaa", sum := "73748998ea53fe64c13a94c372c89fc6a3c1c85011b39107ed1e4979d0e581e3", func := "acequia/acequialaw46.HarmlessBack", spec := "harmlessBack", unfollowed := true, recurses := true, plainKeys := false, apart := false, narrowed := true }
def HarmlessBackUptoSaid : Prop := harmlessBackUptoRow.holds Try.pinned (OpenSpec.upto harmlessBackSpec)

/-- 'acequialaw46.HarmlessRain', WHERE WHAT IT READS IS OF BULK AT MOST 1048576: true; the input reads as it did. -/
def harmlessRainUptoRow : OpenClaim := { program := "ytcpogcdadlcdaaa", sum := "73748998ea53fe64c13a94c372c89fc6a3c1c85011b39107ed1e4979d0e581e3", func := "acequia/acequialaw46.HarmlessRain", spec := "harmlessRain", unfollowed := true, recurses := true, plainKeys := false, apart := false, narrowed := true }
def HarmlessRainUptoSaid : Prop := harmlessRainUptoRow.holds Try.pinned (OpenSpec.upto harmlessRainSpec)

/-- 'acequialaw46.HarmlessSeniority', WHERE WHAT IT READS IS OF BULK AT MOST 1048576: true; the input reads as it did. -/
def harmlessSeniorityUptoRow : OpenClaim := { program := "ytcpogcdadlcdaaa", sum := "73748998ea53fe64c13a94c372c89fc6a3c1c85011b39107ed1e4979d0e581e3", func := "acequia/acequialaw46.HarmlessSeniority", spec := "harmlessSeniority", unfollowed := true, recurses := true, plainKeys := false, apart := false, narrowed := true }
def HarmlessSeniorityUptoSaid : Prop := harmlessSeniorityUptoRow.holds Try.pinned (OpenSpec.upto harmlessSenioritySpec)

end Rows
end Go.Proofs.Ytcpogcdadlcdaaa
