/- Parts of the proof: Za. -/
import Derived.Test.YtcpogcdadlcdaaaM5
import Derived.Test.YtcpogcdadlcdaaaM8
import Derived.Test.YtcpogcdadlcdaaaRows
import Derived.Stop.LaidErr

/- Closing: what districts, awards and deals that are handed in read as. -/
namespace Go.Proofs.Ytcpogcdadlcdaaa
open Go Go.RowKit Go.ChangeShapes Go.WideShapes Go.ChangeAt

theorem rd_is : Rd Try.prog 39 (tSl tInt) := inferInstance
theorem rd_deal : Rd Try.prog 55 tDeal := by
  refine Rd.of (fun y : Int × Int × Int × Int × Int => (⟨y.1, y.2.1, y.2.2.1, y.2.2.2.1, y.2.2.2.2⟩ : DealR))
    (Rd.struct Try.underlying55 (by kernel_rfl) fun n => .cons (rdAt Try.prog 3 tInt n) rfl (.cons (rdAt Try.prog 3 tInt n) rfl (.cons (rdAt Try.prog 3 tInt n) rfl (.one (rd_range.h n) rfl)))) ?_
  rintro W cs ⟨a, b, c, d, e⟩ ⟨_, _, rfl, ⟨rfl, -⟩, _, _, rfl, ⟨rfl, -⟩, _, _, rfl, ⟨rfl, -⟩, _, _, rfl, ⟨rfl, -⟩, ⟨rfl, -⟩⟩
  rfl
instance : Rd Try.prog 55 tDeal := rd_deal
theorem rd_deals : Rd Try.prog 51 (tSl tDeal) := inferInstance
end Go.Proofs.Ytcpogcdadlcdaaa
