/- Parts of the proof: Za. -/
import Derived.Test.YtclmnhijjhnggaaM4
import Derived.Test.YtclmnhijjhnggaaM3
import Derived.ProofKit
import Derived.OpenShut
import Derived.LaidMore
import Derived.Deep.DeepHandedRow
import Derived.Test.YtclmnhijjhnggaaRows
import Derived.Stop.LaidErr

/- Closing: what claims that are handed in read as. -/
namespace Go.Proofs.Ytclmnhijjhnggaa
open Go Go.RowKit Go.ChangeShapes Go.WideShapes Go.ChangeAt

theorem own : ownKnob Try.prog.godebug = none := by kernel_rfl
theorem laidOut : laidOutB Try.prog = true := by kernel_rfl
theorem rd_is : Rd Try.prog 22 (tSl tInt) := inferInstance
end Go.Proofs.Ytclmnhijjhnggaa
