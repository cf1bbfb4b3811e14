/- Closing: what the arguments read as; the table of trailing zeros. -/
import Derived.Test.YtpmmhcgghldaaaaDoorR4
import Derived.Test.YtpmmhcgghldaaaaDoorVp
import Derived.Test.YtpmmhcgghldaaaaDoorCards
import Derived.Test.YtpmmhcgghldaaaaDoorTie
import Derived.ProofKit
import Derived.OpenShut
import Derived.LaidMore
import Derived.Deep.DeepHandedRow
import Derived.Lib.LaidTab
import Derived.Stop.LaidErr
namespace Go.Proofs.YtpmmhcgghldaaaaDoor
open Go Go.RowKit Go.ChangeShapes Go.WideShapes Go.ChangeAt

theorem own : ownKnob Tryd.prog.godebug = none := by kernel_rfl
theorem laidOut : laidOutB Tryd.prog = true := by kernel_rfl
instance nz8 : NeZero 8 := ⟨by decide⟩
instance nz24 : NeZero 24 := ⟨by decide⟩
instance nz32 : NeZero 32 := ⟨by decide⟩
instance nz56 : NeZero 56 := ⟨by decide⟩

theorem rdAt {α : Type} (P : Program) (t : TypeId) (a : Ty α) [h : Rd P t a] (n : Nat) : RdN P n t a := h.h n
theorem rd_pr : Rd Tryd.prog 47 tPr := Rd.struct Tryd.underlying47 (by kernel_rfl) fun n => .cons (rdAt Tryd.prog 3 tInt n) rfl (.one (rdAt Tryd.prog 26 (tSl tInt) n) rfl)
instance : Rd Tryd.prog 47 tPr := rd_pr
theorem rd_ll : Rd Tryd.prog 22 (tSl tInts) := inferInstance
theorem rd_prs : Rd Tryd.prog 23 (tSl tPr) := inferInstance
theorem rd_ints : Rd Tryd.prog 26 (tSl tInt) := inferInstance
theorem rd_tr : ∀ n, RdN Tryd.prog n 29 (tTr n)
  | 0 => ⟨fun {H enc W cs x} hx _ => by simp [DataW.trod] at hx⟩
  | n + 1 => by
    have step : ∀ d, RdN Tryd.prog n 27 (tSl (tTr d) (by rw [tTr_sz]; decide)) → RdN Tryd.prog (n + 1) 29 (tTr (d + 1)) := fun d hk =>
      RdN.map (g := fun (x : Int × List Int × List Tr) => Tr.mk x.1 x.2.1 x.2.2)
        (rd_struct Tryd.underlying29 (by show _ = 1 + (1 + 1); kernel_rfl) (.cons (rdAt Tryd.prog 3 tInt n) rfl (.cons (rdAt Tryd.prog 26 (tSl tInt) n) rfl (.one hk rfl)))) (fun _ => rfl)
    match n, step with
    | 0, step => exact step 0 ⟨fun {H enc W cs x} hx _ => by simp [DataW.trod] at hx⟩
    | m + 1, step =>
      have h := step m (rd_slice _ (rd_tr m) (by decide))
      exact ⟨fun {H enc W cs x} hx hw => let ⟨y, hy⟩ := h.h hx hw; ⟨y, tr_up hy⟩⟩
theorem arg_tr {H : Type} {enc : TypeId × Value → H} {W : World} {base : Nat} {v : Value} {d : DataW H} {ps : List MemPlace} (hv : Value.okWide Tryd.prog W .any base 29 v) (h : DataW.Trod enc Tryd.prog W 0 (fun _ => true) true 29 v d ps) (hw : (d.weights Tryd.prog 29).all (· ≤ reachBytes) = true) :
    ∃ cs y f, v = .agg cs.toArray ∧ (tTr f).rep AnyB W cs y := by
  obtain ⟨n, hn⟩ := h
  obtain ⟨y, hy⟩ := (rd_tr n).h hn hw
  unfold Value.okWide at hv
  rw [Tryd.underlying29] at hv
  obtain ⟨cs, rfl, _⟩ := hv
  exact ⟨cs.toList, y, n, by simp, by simpa [Value.cells] using hy⟩

theorem gTab : Tryd.prog.globalNamed "math/bits.deBruijn64tab" = some 1 := by kernel_rfl
theorem gTabType : (Tryd.prog.globals[1]?).map (·.type) = some 92 := by kernel_rfl
theorem tabW {W : World} (h : laidMetH Tryd.prog [("math/bits.deBruijn32tab", Rows.laid_math_bits_deBruijn32tab), ("math/bits.deBruijn64tab", Rows.laid_math_bits_deBruijn64tab)] W) : TabW W := by
  have h : laidMet Tryd.prog [("math/bits.deBruijn32tab", Rows.laid_math_bits_deBruijn32tab), ("math/bits.deBruijn64tab", Rows.laid_math_bits_deBruijn64tab)] W := h
  have ht := Lib.tabIs_of_head (k := .u8) (zs := tab64.map fun n : Nat => (n : Int)) (rest := []) gTab gTabType Tryd.underlying92 Tryd.underlying5 (by kernel_rfl) (by kernel_rfl) h.tail
  intro j v hv
  rw [List.getElem?_map] at hv
  cases hj : tab64[j]? with
  | none => rw [hj] at hv; cases hv
  | some x =>
    rw [hj] at hv
    obtain rfl : Value.int .u8 (x : Int) = v := Option.some.inj hv
    have hlt := (List.getElem?_eq_some_iff.1 hj).1
    have := ht.cell gTab j (by rw [List.length_map]; exact hlt)
    rw [Nat.zero_add]
    rw [List.getD_eq_getElem?_getD, List.getElem?_map, hj] at this
    exact this
end Go.Proofs.YtpmmhcgghldaaaaDoor
