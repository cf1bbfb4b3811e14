/-
  No cell of these rows narrows 'for every input' (looked for: loops, veiled, ifaces, maps, wideKeys, modest, calm, conditions, laid).
  DERIVED. THE GIVEN ROWS OF THIS SEAT. 6 by the template 'for every input the law returns true; each argument reads behind the call as it read before'; 0 by the template 'total and deterministic' (their statements: YtpmfeplifgmdhaaTotals.lean).
  GIVEN WITH THE SEED: the statements are not yours to turn. If you find one false, say at which input.
  Laid BY PROGRAM, IN A SANDBOX (cutbox-rows.mjs): the forced cells as the released guide's own fill.sh prints them over the translation 6a71dbfa5535a547… (all of the seat's roots in one cut). By AI agents, Wed Nov 11 2026. No macro, syntax, notation, axiom, sorry.
-/
import Derived.Test.YtpmfeplifgmdhaaChecked
import GoSem.Claim
import GoSem.ClaimJoined
import GoSem.ClaimMapViews
import Derived.JoinedTies
import Derived.KernelRfl
namespace Go.Proofs.Ytpmfeplifgmdhaa
/- THE CELL 'sum', in the pinned program and in every row, IS THE sha256 OF THE DUMP (.gsa) THAT YtpmfeplifgmdhaaProg.lean LOADS. Nothing in Lean hashes anything: it is a label: what it is worth is what the hold of that sum in a sandbox is worth. -/
noncomputable def Try.pinned : Pinned := { name := "ytpmfeplifgmdhaa", sum := "6a71dbfa5535a547037fa0c9e4b8a8dfd6f3a9d35eca9b91a672279cc1adee76", checked := Try.checked }
namespace Rows
def none {H : Type} : Left H := { results := [], args := [] }

/-- 'acequialaw23.BalanceSpec': WHATEVER THE INPUT: true; the input reads as it did. -/
def balanceSpecSpec : ChangeSpec := { name := "balanceSpec", fn := fun _ => fun
  | [d1, d2, d3] => { results := [.lit (.bool true)], args := [d1, d2, d3] }
  | _ => none }
def balanceSpecRow : OpenClaim := { program := "ytpmfeplifgmdhaa", sum := "6a71dbfa5535a547037fa0c9e4b8a8dfd6f3a9d35eca9b91a672279cc1adee76", func := "acequia/acequialaw23.BalanceSpec", spec := "balanceSpec", unfollowed := true, recurses := true, plainKeys := false, apart := false }
def BalanceSpecSaid : Prop := balanceSpecRow.holds Try.pinned (OpenSpec.ofChange balanceSpecSpec)

/-- ITS FALSE NEIGHBOUR: 'it returns false'. Refute it at one input. -/
def balanceSpecWrong : ChangeSpec := { name := "balanceSpec", fn := fun _ => fun
  | [d1, d2, d3] => { results := [.lit (.bool false)], args := [d1, d2, d3] }
  | _ => none }
def BalanceSpecWrongFalsely : Prop := balanceSpecRow.holds Try.pinned (OpenSpec.ofChange balanceSpecWrong)

/-- 'acequialaw23.BalanceAccountsSpec': WHATEVER THE INPUT: true; the input reads as it did. -/
def balanceAccountsSpecSpec : ChangeSpec := { name := "balanceAccountsSpec", fn := fun _ => fun
  | [d1, d2, d3] => { results := [.lit (.bool true)], args := [d1, d2, d3] }
  | _ => none }
def balanceAccountsSpecRow : OpenClaim := { program := "ytpmfeplifgmdhaa", sum := "6a71dbfa5535a547037fa0c9e4b8a8dfd6f3a9d35eca9b91a672279cc1adee76", func := "acequia/acequialaw23.BalanceAccountsSpec", spec := "balanceAccountsSpec", unfollowed := true, recurses := true, plainKeys := false, apart := false }
def BalanceAccountsSpecSaid : Prop := balanceAccountsSpecRow.holds Try.pinned (OpenSpec.ofChange balanceAccountsSpecSpec)

/-- ITS FALSE NEIGHBOUR: 'it returns false'. Refute it at one input. -/
def balanceAccountsSpecWrong : ChangeSpec := { name := "balanceAccountsSpec", fn := fun _ => fun
  | [d1, d2, d3] => { results := [.lit (.bool false)], args := [d1, d2, d3] }
  | _ => none }
def BalanceAccountsSpecWrongFalsely : Prop := balanceAccountsSpecRow.holds Try.pinned (OpenSpec.ofChange balanceAccountsSpecWrong)

/-- 'acequialaw23.BalanceConserved': WHATEVER THE INPUT: true; the input reads as it did. -/
def balanceConservedSpec : ChangeSpec := { name := "balanceConserved", fn := fun _ => fun
  | [d1, d2] => { results := [.lit (.bool true)], args := [d1, d2] }
  | _ => none }
def balanceConservedRow : OpenClaim := { program := "ytpmfeplifgmdhaa", sum := "6a71dbfa5535a547037fa0c9e4b8a8dfd6f3a9d35eca9b91a672279cc1adee76", func := "acequia/acequialaw23.BalanceConserved", spec := "balanceConserved", unfollowed := true, recurses := true, plainKeys := false, apart := false }
def BalanceConservedSaid : Prop := balanceConservedRow.holds Try.pinned (OpenSpec.ofChange balanceConservedSpec)

/-- ITS FALSE NEIGHBOUR: 'it returns false'. Refute it at one input. -/
def balanceConservedWrong : ChangeSpec := { name := "balanceConserved", fn := fun _ => fun
  | [d1, d2] => { results := [.lit (.bool false)], args := [d1, d2] }
  | _ => none }
def BalanceConservedWrongFalsely : Prop := balanceConservedRow.holds Try.pinned (OpenSpec.ofChange balanceConservedWrong)

/-- 'acequialaw23.BalanceSinks': WHATEVER THE INPUT: true; the input reads as it did. -/
def balanceSinksSpec : ChangeSpec := { name := "balanceSinks", fn := fun _ => fun
  | [d1, d2] => { results := [.lit (.bool true)], args := [d1, d2] }
  | _ => none }
def balanceSinksRow : OpenClaim := { program := "ytpmfeplifgmdhaa", sum := "6a71dbfa5535a547037fa0c9e4b8a8dfd6f3a9d35eca9b91a672279cc1adee76", func := "acequia/acequialaw23.BalanceSinks", spec := "balanceSinks", unfollowed := true, recurses := true, plainKeys := false, apart := false }
def BalanceSinksSaid : Prop := balanceSinksRow.holds Try.pinned (OpenSpec.ofChange balanceSinksSpec)

/-- ITS FALSE NEIGHBOUR: 'it returns false'. Refute it at one input. -/
def balanceSinksWrong : ChangeSpec := { name := "balanceSinks", fn := fun _ => fun
  | [d1, d2] => { results := [.lit (.bool false)], args := [d1, d2] }
  | _ => none }
def BalanceSinksWrongFalsely : Prop := balanceSinksRow.holds Try.pinned (OpenSpec.ofChange balanceSinksWrong)

/-- 'acequialaw23.BalanceChanged': WHATEVER THE INPUT: true; the input reads as it did. -/
def balanceChangedSpec : ChangeSpec := { name := "balanceChanged", fn := fun _ => fun
  | [d1, d2, d3, d4, d5] => { results := [.lit (.bool true)], args := [d1, d2, d3, d4, d5] }
  | _ => none }
def balanceChangedRow : OpenClaim := { program := "ytpmfeplifgmdhaa", sum := "6a71dbfa5535a547037fa0c9e4b8a8dfd6f3a9d35eca9b91a672279cc1adee76", func := "acequia/acequialaw23.BalanceChanged", spec := "balanceChanged", unfollowed := true, recurses := true, plainKeys := false, apart := false }
def BalanceChangedSaid : Prop := balanceChangedRow.holds Try.pinned (OpenSpec.ofChange balanceChangedSpec)

/-- ITS FALSE NEIGHBOUR: 'it returns false'. Refute it at one input. -/
def balanceChangedWrong : ChangeSpec := { name := "balanceChanged", fn := fun _ => fun
  | [d1, d2, d3, d4, d5] => { results := [.lit (.bool false)], args := [d1, d2, d3, d4, d5] }
  | _ => none }
def BalanceChangedWrongFalsely : Prop := balanceChangedRow.holds Try.pinned (OpenSpec.ofChange balanceChangedWrong)

/-- 'acequialaw23.BalanceWorst': WHATEVER THE INPUT: true; the input reads as it did. -/
def balanceWorstSpec : ChangeSpec := { name := "balanceWorst", fn := fun _ => fun
  | [d1, d2] => { results := [.lit (.bool true)], args := [d1, d2] }
  | _ => none }
def balanceWorstRow : OpenClaim := { program := "ytpmfeplifgmdhaa", sum := "6a71dbfa5535a547037fa0c9e4b8a8dfd6f3a9d35eca9b91a672279cc1adee76", func := "acequia/acequialaw23.BalanceWorst", spec := "balanceWorst", unfollowed := true, recurses := true, plainKeys := false, apart := false }
def BalanceWorstSaid : Prop := balanceWorstRow.holds Try.pinned (OpenSpec.ofChange balanceWorstSpec)

/-- ITS FALSE NEIGHBOUR: 'it returns false'. Refute it at one input. -/
def balanceWorstWrong : ChangeSpec := { name := "balanceWorst", fn := fun _ => fun
  | [d1, d2] => { results := [.lit (.bool false)], args := [d1, d2] }
  | _ => none }
def BalanceWorstWrongFalsely : Prop := balanceWorstRow.holds Try.pinned (OpenSpec.ofChange balanceWorstWrong)

/- THE SECOND FORM. 'bulk': how many values and letters a reading holds, each counted each time it is reached (what is shared counts as often as it is met; a slice's spare places count too). A statement '..UptoSaid' is the law's where the arguments, and the package variables that the reading takes, are together of bulk at most 1048576: NARROWER than '..Said'. Prove '..Said' where nothing that the law and all that it calls make is longer than what came in: it says more and counts as full. Else prove '..UptoSaid'. A law counts once. -/
mutual
def uptoBulk {H : Type} : DataW H → Nat
  | .lit (.string bytes) => bytes.length + 1
  | .lit _ => 1
  | .nil => 1
  | .ptr d => uptoBulk d + 1
  | .slice elems spare => uptoBulkAll elems + uptoBulkAll spare + 1
  | .agg parts => uptoBulkAll parts + 1
  | .iface _ d => uptoBulk d + 1
  | .map entries => uptoBulkEntries entries + 1
  | .held _ => 1
def uptoBulkAll {H : Type} : List (DataW H) → Nat
  | [] => 0
  | d :: r => uptoBulk d + uptoBulkAll r
def uptoBulkEntries {H : Type} : List (Lit × DataW H) → Nat
  | [] => 0
  | x :: r => uptoBulkEntry x + uptoBulkEntries r
def uptoBulkEntry {H : Type} : Lit × DataW H → Nat
  | (.string bytes, d) => bytes.length + uptoBulk d + 1
  | (_, d) => uptoBulk d + 1
 end
def uptoSmall : (H : Type) → List (DataW H) → Bool := fun _ ds => decide (uptoBulkAll ds ≤ 1048576)
def OpenSpec.upto (s : _root_.Go.ChangeSpec) : _root_.Go.OpenSpec := { _root_.Go.OpenSpec.ofChange s with cond := some uptoSmall }

/-- 'acequialaw23.BalanceSpec', WHERE WHAT IT READS IS OF BULK AT MOST 1048576: true; the input reads as it did. -/
def balanceSpecUptoRow : OpenClaim := { program := "ytpmfeplifgmdhaa", sum := "6a71dbfa5535a547037fa0c9e4b8a8dfd6f3a9d35eca9b91a672279cc1adee76", func := "acequia/acequialaw23.BalanceSpec", spec := "balanceSpec", unfollowed := true, recurses := true, plainKeys := false, apart := false, narrowed := true }
def BalanceSpecUptoSaid : Prop := balanceSpecUptoRow.holds Try.pinned (OpenSpec.upto balanceSpecSpec)

/-- 'acequialaw23.BalanceAccountsSpec', WHERE WHAT IT READS IS OF BULK AT MOST 1048576: true; the input reads as it did. -/
def balanceAccountsSpecUptoRow : OpenClaim := { program := "ytpmfeplifgmdhaa", sum := "6a71dbfa5535a547037fa0c9e4b8a8dfd6f3a9d35eca9b91a672279cc1adee76", func := "acequia/acequialaw23.BalanceAccountsSpec", spec := "balanceAccountsSpec", unfollowed := true, recurses := true, plainKeys := false, apart := false, narrowed := true }
def BalanceAccountsSpecUptoSaid : Prop := balanceAccountsSpecUptoRow.holds Try.pinned (OpenSpec.upto balanceAccountsSpecSpec)

/-- 'acequialaw23.BalanceConserved', WHERE WHAT IT READS IS OF BULK AT MOST 1048576: true; the input reads as it did. -/
def balanceConservedUptoRow : OpenClaim := { program := "ytpmfeplifgmdhaa", sum := "6a71dbfa5535a547037fa0c9e4b8a8dfd6f3a9d35eca9b91a672279cc1adee76", func := "acequia/acequialaw23.BalanceConserved", spec := "balanceConserved", unfollowed := true, recurses := true, plainKeys := false, apart := false, narrowed := true }
def BalanceConservedUptoSaid : Prop := balanceConservedUptoRow.holds Try.pinned (OpenSpec.upto balanceConservedSpec)

/-- 'acequialaw23.BalanceSinks', WHERE WHAT IT READS IS OF BULK AT MOST 1048576: true; the input reads as it did. -/
def balanceSinksUptoRow : OpenClaim := { program := "ytpmfeplifgmdhaa", sum := "6a71dbfa5535a547037fa0c9e4b8a8dfd6f3a9d35eca9b91a672279cc1adee76", func := "acequia/acequialaw23.BalanceSinks", spec := "balanceSinks", unfollowed := true, recurses := true, plainKeys := false, apart := false, narrowed := true }
def BalanceSinksUptoSaid : Prop := balanceSinksUptoRow.holds Try.pinned (OpenSpec.upto balanceSinksSpec)

/-- 'acequialaw23.BalanceChanged', WHERE WHAT IT READS IS OF BULK AT MOST 1048576: true; the input reads as it did. -/
def balanceChangedUptoRow : OpenClaim := { program := "ytpmfeplifgmdhaa", sum := "6a71dbfa5535a547037fa0c9e4b8a8dfd6f3a9d35eca9b91a672279cc1adee76", func := "acequia/acequialaw23.BalanceChanged", spec := "balanceChanged", unfollowed := true, recurses := true, plainKeys := false, apart := false, narrowed := true }
def BalanceChangedUptoSaid : Prop := balanceChangedUptoRow.holds Try.pinned (OpenSpec.upto balanceChangedSpec)

/-- 'acequialaw23.BalanceWorst', WHERE WHAT IT READS IS OF BULK AT MOST 1048576: true; the input reads as it did. -/
def balanceWorstUptoRow : OpenClaim := { program := "ytpmfeplifgmdhaa", sum := "6a71dbfa5535a547037fa0c9e4b8a8dfd6f3a9d35eca9b91a672279cc1adee76", func := "acequia/acequialaw23.BalanceWorst", spec := "balanceWorst", unfollowed := true, recurses := true, plainKeys := false, apart := false, narrowed := true }
def BalanceWorstUptoSaid : Prop := balanceWorstUptoRow.holds Try.pinned (OpenSpec.upto balanceWorstSpec)

end Rows
end Go.Proofs.Ytpmfeplifgmdhaa
