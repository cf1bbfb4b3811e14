/- Parts of the proof: Za. -/
import Derived.Test.YtcpdhclnmjfldaaGreatM7
import Derived.Test.YtcpdhclnmjfldaaGreatM9
import Derived.Test.YtcpdhclnmjfldaaGreatRows
import Derived.Stop.LaidErr

/- Closing: what evidence and Truths that are handed in read as. -/
namespace Go.Proofs.YtcpdhclnmjfldaaGreat
open Go Go.RowKit Go.ChangeShapes Go.WideShapes Go.ChangeAt

def tEvR : Ty Ev where
  sz := 2
  rep := EvR
  len h := by obtain ⟨_, _, _, _, _, _, rfl, -⟩ := h.ex; rfl
  keep hk h := h.keep hk
  more hk h := h.more hk
theorem rd_is : Rd Tryz.prog 43 (tSl tInt) := inferInstance
theorem rd_rg : Rd Tryz.prog 105 tRg := by
  refine Rd.of (fun y : Int × Int => (⟨y.1, y.2⟩ : Rg)) rd_range ?_
  rintro W cs ⟨s, u⟩ ⟨_, _, rfl, ⟨rfl, -⟩, ⟨rfl, -⟩⟩
  rfl
theorem rd_su : Rd Tryz.prog 112 tSu := by
  refine Rd.of (fun y : Int × Int × Int => (⟨y.1, y.2.1, y.2.2⟩ : Su))
    (Rd.struct Tryz.underlying112 (by kernel_rfl) fun n => .cons (rdAt Tryz.prog 3 tInt n) rfl (.cons (rdAt Tryz.prog 3 tInt n) rfl (.one (rdAt Tryz.prog 3 tInt n) rfl))) ?_
  rintro W cs ⟨s, u, d⟩ ⟨_, _, rfl, ⟨rfl, -⟩, _, _, rfl, ⟨rfl, -⟩, ⟨rfl, -⟩⟩
  rfl
instance : Rd Tryz.prog 105 tRg := rd_rg
instance : Rd Tryz.prog 112 tSu := rd_su
theorem rd_rgs : Rd Tryz.prog 90 (tSl tRg) := inferInstance
theorem rd_wave : Rd Tryz.prog 92 tWv := Rd.map (g := fun y : Int × List Rg × List Rg × List Rg => (⟨y.1, y.2.1, y.2.2.1, y.2.2.2⟩ : Wv))
    (Rd.struct Tryz.underlying92 (by kernel_rfl) fun n => .cons (rdAt Tryz.prog 3 tInt n) rfl (.cons (rd_rgs.h n) rfl (.cons (rd_rgs.h n) rfl (.one (rd_rgs.h n) rfl)))) fun _ => rfl
theorem rd_tru : Rd Tryz.prog 94 tTru := Rd.map (g := fun y : List Int × List Int × List Int × List Int × List Int => (⟨y.1, y.2.1, y.2.2.1, y.2.2.2.1, y.2.2.2.2⟩ : Tru))
    (Rd.struct Tryz.underlying94 (by kernel_rfl) fun n => .cons (rd_is.h n) rfl (.cons (rd_is.h n) rfl (.cons (rd_is.h n) rfl (.cons (rd_is.h n) rfl (.one (rd_is.h n) rfl))))) fun _ => rfl
instance : Rd Tryz.prog 92 tWv := rd_wave
instance : Rd Tryz.prog 94 tTru := rd_tru
theorem rd_waves : Rd Tryz.prog 32 (tSl tWv) := inferInstance
theorem rd_sus : Rd Tryz.prog 33 (tSl tSu) := inferInstance
theorem rd_trus : Rd Tryz.prog 60 (tSl tTru) := inferInstance
theorem rd_ev : Rd Tryz.prog 35 tEvR := by
  refine Rd.of (fun y : List Wv × List Su => (⟨y.1, y.2⟩ : Ev))
    (Rd.struct Tryz.underlying35 (by kernel_rfl) fun n => .cons (rd_waves.h n) rfl (.one (rd_sus.h n) rfl)) ?_
  rintro W cs ⟨l1, l2⟩ ⟨_, _, rfl, ⟨A1, n1, c1, rfl, h1, g1⟩, A2, n2, c2, rfl, h2, g2⟩
  exact EvR.of_ ⟨A1, n1, c1, A2, n2, c2, rfl, h1, h2, g1, g2⟩
end Go.Proofs.YtcpdhclnmjfldaaGreat
