/- Contracts of the program: copies. -/
import Derived.Test.YtpmmhcgghldaaaaDoorQ7
import Derived.Laws.Cover3
namespace Go.Proofs.YtpmmhcgghldaaaaDoor
open Go Go.RowKit

theorem eqNil {P : Program} {t e : TypeId} {sz : Nat} [h : SliceTy P t e sz] {xo yo : Operand} {A : Option Addr} {n c : Nat} {K : Value → Prop} (k1 : A = none → K (.bool true)) (k2 : A ≠ none → K (.bool false)) : BinP P .eql t xo yo (.slice A n c) (.slice none 0 0) K := by
  rw [BinP_eq]
  obtain ⟨hu, _⟩ := sliceOf_spec h.h
  refine pure_vval (x := .bool A.isNone) (fun w => ?_) ?_
  · have h1 : (eqGuard .eql t xo yo (.slice A n c) (.slice none 0 0)).run P w = .ok () w := rfl
    have h2 : binOp .eql t (.slice A n c) (.slice none 0 0) = (do pure (.bool (← Op.equal t (.slice A n c) (.slice none 0 0)))) := rfl
    rw [Sem.run_bind, h1, h2]
    simp only [Result.andThen_ok, Sem.run_bind, run_equal_slice_nil w t e A n c hu, Sem.run_pure]
  · cases A with
    | none => exact k1 rfl
    | some a => exact k2 (by simp)

theorem flat_ints_eq {D : Nat → Prop} {w : World} : ∀ {xs : List Int} {cs : List Value}, FlatR tInt D w xs cs → cs = xs.map fun v => Value.int .i64 v
  | [], _, h => h
  | y :: r, _, ⟨c1, r1, h, ⟨h1, _⟩, h2⟩ => by rw [h, h1, flat_ints_eq h2]; rfl

section
variable {D : Nat → Prop} {w : World} {A A' : Option Addr} {n m c d : Nat}
theorem c_Clone {xs : List Int} (ha : SlR tInt D w A n xs) (hn : n ≤ 1000) : CallZ Tryd.prog 38 #[.slice A n c] w (fun v w' => Ext w w' ∧ ∃ A2 n2 c2, v = .slice A2 n2 c2 ∧ SlR tInt (fun b => w.heap.size ≤ b) w' A2 n2 xs) := by
  refine fn_rule (args := [.slice A n c]) Tryd.func38 (by kernel_rfl) ?_
  refine eqNil (fun hA => ?_) (fun hA => ?_)
  · have hx : xs = [] := by
      cases xs with
      | nil => rfl
      | cons x r => obtain ⟨b, o, cs, e, _⟩ := ha.2.2 0 x rfl; rw [hA] at e; cases e
    subst hx
    exact ret1 (.slice none 0 0) rfl ⟨.refl _ _, none, 0, 0, rfl, .nil⟩
  · refine lit [] (fun g w1 h1 => ?_)
    have ha1 := ha.ext h1.ext
    have o1 : OwnF w w1 (some (ad g 0)) 0 0 3 1 [] := OwnF.lit (cs := []) (.refl _ _) h1 rfl
    have hsrc : Src w1 A n 1 (xs.map fun v => Value.int .i64 v) := by
      refine ⟨by rw [List.length_map]; have := ha.1; omega, fun hn0 => ?_⟩
      obtain ⟨b, o, cs, x, rfl, _⟩ := ha1.at_ hn0
      obtain ⟨cs2, hf, hc⟩ := ha1.cells
      refine ⟨b, o, rfl, ?_⟩
      rw [← flat_ints_eq hf]; exact hc
    refine appF o1 hsrc (by omega) (fun A' c' w2 o2 _ _ => ?_) (h1 := by rw [List.all_map]; exact List.all_eq_true.2 fun _ _ => rfl)
    refine ret1 (.slice A' (0 + n) c') rfl ⟨o2.ext, A', 0 + n, c', rfl, ?_⟩
    refine o2.ints (xs := xs) (fun v hv => ?_) (by omega) (fun _ h => h)
    obtain ⟨k, hk⟩ := List.getElem?_of_mem hv
    obtain ⟨_, _, _, _, _, _, _, h⟩ := ha.2.2 k v hk
    exact h
end
end Go.Proofs.YtpmmhcgghldaaaaDoor
