/-
  No cell of these rows narrows 'for every input' (looked for: loops, veiled, ifaces, maps, wideKeys, modest, calm, conditions, laid).
  DERIVED. THE GIVEN ROWS OF THIS SEAT. 4 by the template 'for every input the law returns true; each argument reads behind the call as it read before'; 0 by the template 'total and deterministic' (their statements: YtcpogcdadlcdaaaGreatTotals.lean).
  GIVEN WITH THE SEED: the statements are not yours to turn. If you find one false, say at which input.
  Laid BY PROGRAM, IN A SANDBOX (cutbox-rows.mjs): the forced cells as the released guide's own fill.sh prints them over the translation 8b8eeaa6f9d268a0… (all of the seat's roots in one cut). By AI agents, Wed Nov 11 2026. No macro, syntax, notation, axiom, sorry.
-/
import Derived.Test.YtcpogcdadlcdaaaGreatChecked
import GoSem.Claim
import GoSem.ClaimJoined
import GoSem.ClaimMapViews
import Derived.JoinedTies
import Derived.KernelRfl
namespace Go.Proofs.YtcpogcdadlcdaaaGreat
/- THE CELL 'sum', in the pinned program and in every row, IS THE sha256 OF THE DUMP (.gsa) THAT YtcpogcdadlcdaaaGreatProg.lean LOADS. Nothing in Lean hashes anything: it is a label: what it is worth is what the hold of that sum in a sandbox is worth. -/
noncomputable def Tryz.pinned : Pinned := { name := "ytcpogcdadlcdaaagreat", sum := "8b8eeaa6f9d268a0b9b4660e7dcc359e64cacaec1762225d90b0b07411f7071a", checked := Tryz.checked }
namespace Rows
def none {H : Type} : Left H := { results := [], args := [] }

/-- 'acequialaw46.HarmlessSpec': WHATEVER THE INPUT: true; the input reads as it did. -/
def harmlessSpecSpec : ChangeSpec := { name := "harmlessSpec", fn := fun _ => fun
  | [d1, d2, d3, d4, d5] => { results := [.lit (.bool true)], args := [d1, d2, d3, d4, d5] }
  | _ => none }
def harmlessSpecRow : OpenClaim := { program := "ytcpogcdadlcdaaagreat", sum := "8b8eeaa6f9d268a0b9b4660e7dcc359e64cacaec1762225d90b0b07411f7071a", func := "acequia/acequialaw46.HarmlessSpec", spec := "harmlessSpec", unfollowed := true, recurses := true, plainKeys := false, apart := false }
def HarmlessSpecSaid : Prop := harmlessSpecRow.holds Tryz.pinned (OpenSpec.ofChange harmlessSpecSpec)

/-- ITS FALSE NEIGHBOUR: 'it returns false'. Refute it at one input. -/
def harmlessSpecWrong : ChangeSpec := { name := "harmlessSpec", fn := fun _ => fun
  | [d1, d2, d3, d4, d5] => { results := [.lit (.bool false)], args := [d1, d2, d3, d4, d5] }
  | _ => none }
def HarmlessSpecWrongFalsely : Prop := harmlessSpecRow.holds Tryz.pinned (OpenSpec.ofChange harmlessSpecWrong)

/-- 'acequialaw46.HarmlessExecuteSpec': WHATEVER THE INPUT: true; the input reads as it did. -/
def harmlessExecuteSpecSpec : ChangeSpec := { name := "harmlessExecuteSpec", fn := fun _ => fun
  | [d1, d2, d3, d4] => { results := [.lit (.bool true)], args := [d1, d2, d3, d4] }
  | _ => none }
def harmlessExecuteSpecRow : OpenClaim := { program := "ytcpogcdadlcdaaagreat", sum := "8b8eeaa6f9d268a0b9b4660e7dcc359e64cacaec1762225d90b0b07411f7071a", func := "acequia/acequialaw46.HarmlessExecuteSpec", spec := "harmlessExecuteSpec", unfollowed := true, recurses := true, plainKeys := false, apart := false }
def HarmlessExecuteSpecSaid : Prop := harmlessExecuteSpecRow.holds Tryz.pinned (OpenSpec.ofChange harmlessExecuteSpecSpec)

/-- ITS FALSE NEIGHBOUR: 'it returns false'. Refute it at one input. -/
def harmlessExecuteSpecWrong : ChangeSpec := { name := "harmlessExecuteSpec", fn := fun _ => fun
  | [d1, d2, d3, d4] => { results := [.lit (.bool false)], args := [d1, d2, d3, d4] }
  | _ => none }
def HarmlessExecuteSpecWrongFalsely : Prop := harmlessExecuteSpecRow.holds Tryz.pinned (OpenSpec.ofChange harmlessExecuteSpecWrong)

/-- 'acequialaw46.HarmlessOthers': WHATEVER THE INPUT: true; the input reads as it did. -/
def harmlessOthersSpec : ChangeSpec := { name := "harmlessOthers", fn := fun _ => fun
  | [d1, d2, d3, d4] => { results := [.lit (.bool true)], args := [d1, d2, d3, d4] }
  | _ => none }
def harmlessOthersRow : OpenClaim := { program := "ytcpogcdadlcdaaagreat", sum := "8b8eeaa6f9d268a0b9b4660e7dcc359e64cacaec1762225d90b0b07411f7071a", func := "acequia/acequialaw46.HarmlessOthers", spec := "harmlessOthers", unfollowed := true, recurses := true, plainKeys := false, apart := false }
def HarmlessOthersSaid : Prop := harmlessOthersRow.holds Tryz.pinned (OpenSpec.ofChange harmlessOthersSpec)

/-- ITS FALSE NEIGHBOUR: 'it returns false'. Refute it at one input. -/
def harmlessOthersWrong : ChangeSpec := { name := "harmlessOthers", fn := fun _ => fun
  | [d1, d2, d3, d4] => { results := [.lit (.bool false)], args := [d1, d2, d3, d4] }
  | _ => none }
def HarmlessOthersWrongFalsely : Prop := harmlessOthersRow.holds Tryz.pinned (OpenSpec.ofChange harmlessOthersWrong)

/-- 'acequialaw46.HarmlessMost': WHATEVER THE INPUT: true; the input reads as it did. -/
def harmlessMostSpec : ChangeSpec := { name := "harmlessMost", fn := fun _ => fun
  | [d1, d2, d3, d4, d5, d6] => { results := [.lit (.bool true)], args := [d1, d2, d3, d4, d5, d6] }
  | _ => none }
def harmlessMostRow : OpenClaim := { program := "ytcpogcdadlcdaaagreat", sum := "8b8eeaa6f9d268a0b9b4660e7dcc359e64cacaec1762225d90b0b07411f7071a", func := "acequia/acequialaw46.HarmlessMost", spec := "harmlessMost", unfollowed := true, recurses := true, plainKeys := false, apart := false }
def HarmlessMostSaid : Prop := harmlessMostRow.holds Tryz.pinned (OpenSpec.ofChange harmlessMostSpec)

/-- ITS FALSE NEIGHBOUR: 'it returns false'. Refute it at one input. -/
def harmlessMostWrong : ChangeSpec := { name := "harmlessMost", fn := fun _ => fun
  | [d1, d2, d3, d4, d5, d6] => { results := [.lit (.bool false)], args := [d1, d2, d3, d4, d5, d6] }
  | _ => none }
def HarmlessMostWrongFalsely : Prop := harmlessMostRow.holds Tryz.pinned (OpenSpec.ofChange harmlessMostWrong)

/- THE SECOND FORM. 'bulk': how many values and letters a reading holds, each counted each time it is reached (what is shared counts as often as it is met; a slice's spare places count too). A statement '..UptoSaid' is the law's where the arguments, and the package variables that the reading takes, are together of bulk at most 1048576: NARROWER than '..Said'. Prove '..Said' where nothing that the law and all that it calls make is longer than what came in: it says more and counts as full. Else prove '..UptoSaid'. A law counts once. -/
mutual
def uptoBulk {H : Type} : DataW H → Nat
  | .lit (.string bytes) => bytes.length + 1
  | .lit _ => 1
  | .nil => 1
  | .ptr d => uptoBulk d + 1
  | .slice elems spare => uptoBulkAll elems + uptoBulkAll spare + 1
  | .agg parts => uptoBulkAll parts + 1
  | .iface _ d => uptoBulk d + 1
  | .map entries => uptoBulkEntries entries + 1
  | .held _ => 1
def uptoBulkAll {H : Type} : List (DataW H) → Nat
  | [] => 0
  | d :: r => uptoBulk d + uptoBulkAll r
def uptoBulkEntries {H : Type} : List (Lit × DataW H) → Nat
  | [] => 0
  | x :: r => uptoBulkEntry x + uptoBulkEntries r
def uptoBulkEntry {H : Type} : Lit × DataW H → Nat
  | (.string bytes, d) => bytes.length + uptoBulk d + 1
  | (_, d) => uptoBulk d + 1
 end
def uptoSmall : (H : Type) → List (DataW H) → Bool := fun _ ds => decide (uptoBulkAll ds ≤ 1048576)
def OpenSpec.upto (s : _root_.Go.ChangeSpec) : _root_.Go.OpenSpec := { _root_.Go.OpenSpec.ofChange s with cond := some uptoSmall }

/-- 'acequialaw46.HarmlessSpec', WHERE WHAT IT READS IS OF BULK AT MOST 1048576: true; the input reads as it did. -/
def harmlessSpecUptoRow : OpenClaim := { program := "ytcpogcdadlcdaaagreat", sum := "8b8eeaa6f9d268a0b9b4660e7dcc359e64cacaec1762225d90b0b07411f7071a", func := "acequia/acequialaw46.HarmlessSpec", spec := "harmlessSpec", unfollowed := true, recurses := true, plainKeys := false, apart := false, narrowed := true }
def HarmlessSpecUptoSaid : Prop := harmlessSpecUptoRow.holds Tryz.pinned (OpenSpec.upto harmlessSpecSpec)

/-- 'acequialaw46.HarmlessExecuteSpec', WHERE WHAT IT READS IS OF BULK AT MOST 1048576: true; the input reads as it did. -/
def harmlessExecuteSpecUptoRow : OpenClaim := { program := "ytcpogcdadlcdaaagreat", sum := "8b8eeaa6f9d268a0b9b4660e7dcc359e64cacaec1762225d90b0b07411f7071a", func := "acequia/acequialaw46.HarmlessExecuteSpec", spec := "harmlessExecuteSpec", unfollowed := true, recurses := true, plainKeys := false, apart := false, narrowed := true }
def HarmlessExecuteSpecUptoSaid : Prop := harmlessExecuteSpecUptoRow.holds Tryz.pinned (OpenSpec.upto harmlessExecuteSpecSpec)

/-- 'acequialaw46.HarmlessOthers', WHERE WHAT IT READS IS OF BULK AT MOST 1048576: true; the input reads as it did. -/
def harmlessOthersUptoRow : OpenClaim := { program := "ytcpogcdadlcdaaagreat", sum := "8b8eeaa6f9d268a0b9b4660e7dcc359e64cacaec1762225d90b0b07411f7071a", func := "acequia/acequialaw46.HarmlessOthers", spec := "harmlessOthers", unfollowed := true, recurses := true, plainKeys := false, apart := false, narrowed := true }
def HarmlessOthersUptoSaid : Prop := harmlessOthersUptoRow.holds Tryz.pinned (OpenSpec.upto harmlessOthersSpec)

/-- 'acequialaw46.HarmlessMost', WHERE WHAT IT READS IS OF BULK AT MOST 1048576: true; the input reads as it did. -/
def harmlessMostUptoRow : OpenClaim := { program := "ytcpogcdadlcdaaagreat", sum := "8b8eeaa6f9d268a0b9b4660e7dcc359e64cacaec1762225d90b0b07411f7071a", func := "acequia/acequialaw46.HarmlessMost", spec := "harmlessMost", unfollowed := true, recurses := true, plainKeys := false, apart := false, narrowed := true }
def HarmlessMostUptoSaid : Prop := harmlessMostUptoRow.holds Tryz.pinned (OpenSpec.upto harmlessMostSpec)

end Rows
end Go.Proofs.YtcpogcdadlcdaaaGreat
