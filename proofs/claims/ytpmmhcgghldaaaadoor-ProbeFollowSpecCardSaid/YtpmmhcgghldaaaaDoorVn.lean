/- Own layer, part n: slices of slices; lists written out. Nothing of the program stands here. -/
import Derived.Test.YtpmmhcgghldaaaaDoorVm
namespace Go.Proofs.YtpmmhcgghldaaaaDoor
open Go Go.RowKit

/-- A bound that is written, or is not. -/
def IsB (o : Option Value) (k d : Nat) : Prop := match o with | none => k = d | some (.int _ i) => i = (k : Int) | _ => False
section
variable {P : Program}
theorem run_sliceBound {kd : IntKind} {i : Int} {k y : Nat} (code : BoundsCode) (hi : i = (k : Int)) (hk : k ≤ y) (w : World) : (Instr.sliceBound (.int kd i) y code).run P w = .ok k w := by
  subst hi
  simp [Instr.sliceBound, asIntOf, hk]
theorem run_sliceBounds {isS : Bool} {n c : Nat} {lo hi : Option Value} {l h : Nat} (hl : IsB lo l 0) (hh : IsB hi h n) (h1 : l ≤ h) (h2 : h ≤ c) (w : World) : (Instr.sliceBounds isS n c lo hi none).run P w = .ok (l, h, c) w := by
  cases hi with
  | none =>
    obtain rfl : h = n := hh
    cases lo with
    | none => obtain rfl : l = 0 := hl; simp [Instr.sliceBounds]
    | some v => cases v <;> first | exact hl.elim | simp [Instr.sliceBounds, run_sliceBound _ hl h1]
  | some u =>
    cases u <;> first | exact hh.elim | skip
    cases lo with
    | none => obtain rfl : l = 0 := hl; simp [Instr.sliceBounds, run_sliceBound _ hh h2]
    | some v => cases v <;> first | exact hl.elim | simp [Instr.sliceBounds, run_sliceBound _ hh h2, run_sliceBound _ hl h1]
theorem SlR.sub {α : Type} {a : Ty α} {D : Nat → Prop} {w : World} {b o n : Nat} {xs : List α} {l h o' : Nat} (hs : SlR a D w (some (ad b o)) n xs) (h1 : l ≤ h) (h2 : h ≤ n) (ho : l < h → o' = o + l * a.sz) : SlR a D w (some (ad b o')) (h - l) ((xs.take h).drop l) := by
  obtain ⟨hn, hle, hx⟩ := hs
  refine ⟨by rw [List.length_drop, List.length_take]; omega, by omega, fun k x hk => ?_⟩
  rw [List.getElem?_drop, List.getElem?_take] at hk
  split at hk
  · rename_i hlt
    obtain ⟨b', o2, cs, e, hD, hc, hr⟩ := hx _ _ hk
    simp only [Option.some.injEq, Addr.mk.injEq] at e
    obtain ⟨rfl, rfl, _⟩ := e
    refine ⟨b, o', cs, rfl, hD, ?_, hr⟩
    rw [ho (by omega)]
    rwa [show o + l * a.sz + k * a.sz = o + (l + k) * a.sz from by rw [Nat.add_mul]; omega]
  · cases hk
/-- xs[l:h]. -/
theorem slcR {α : Type} {a : Ty α} {D : Nat → Prop} {w : World} {t e : TypeId} {sz : Nat} [hst : SliceTy P t e sz] {A : Option Addr} {n c : Nat} {lo hi : Option Value} {K : Value → Prop} {xs : List α} (l h : Nat) (hs : SlR a D w A n xs) (hc : n ≤ c) (hlo : IsB lo l 0) (hhi : IsB hi h n) (h1 : l ≤ h) (h2 : h ≤ n) (hsz : a.sz = sz)
    (kk : ∀ A' : Option Addr, (∀ (D' : Nat → Prop) (w' : World), SlR a D' w' A n xs → SlR a D' w' A' (h - l) ((xs.take h).drop l)) → K (.slice A' (h - l) (c - l))) : SlcP P t (.slice A n c) lo hi none K := by
  rw [SlcP_eq]
  obtain ⟨hu, inf, hinf, hs'⟩ := sliceOf_spec hst.h
  have hrun : ∀ w, (Instr.sliceAt t (.slice A n c) lo hi none).run P w = .ok (.slice (if c = l then A else A.map (·.add (l * sz))) (h - l) (c - l)) w := fun w => by
    unfold Instr.sliceAt
    rw [Sem.run_bind, run_underlying hu]
    simp only [Result.andThen_ok]
    unfold Instr.slice
    rw [Sem.run_bind, run_underlying hu]
    simp only [Result.andThen_ok]
    rw [Sem.run_bind, run_sliceBounds hlo hhi h1 (by omega)]
    simp only [Result.andThen_ok]
    rw [Sem.run_bind, run_sizeOf hinf, hs']
    rfl
  refine pure_vval hrun (kk _ fun D' w' hx => ?_)
  cases A with
  | none =>
    have hxs : xs = [] := by
      cases xs with
      | nil => rfl
      | cons x r => obtain ⟨_, _, _, e, _⟩ := hx.2.2 0 x rfl; cases e
    have hn : n = 0 := by have := hx.1; rw [hxs] at this; exact this
    subst hxs
    obtain rfl : l = 0 := by omega
    obtain rfl : h = 0 := by omega
    simp only [List.take_nil, List.drop_nil, Nat.sub_self]
    split <;> exact .nil
  | some q =>
    by_cases h0 : l < h
    · obtain ⟨b, o, _, _, e, _⟩ := hx.at_ (k := 0) (by omega)
      obtain rfl : q = ad b o := Option.some.inj e
      rw [if_neg (by omega)]
      show SlR a D' w' (some ((ad b o).add (l * sz))) (h - l) _
      rw [add_ad, ← hsz]
      exact hx.sub h1 h2 fun _ => rfl
    · have e : (xs.take h).drop l = [] := List.drop_eq_nil_of_le (by rw [List.length_take]; omega)
      rw [e, show h - l = 0 from by omega]
      exact .nil

/-- A list of numbers written out. -/
theorem NewB.sl {D : Nat → Prop} {w w' : World} {e : TypeId} {g : Nat} {xs : List Int} (hb : NewB w e (xs.map fun x => .int .i64 x) g w') (hD : D g) (hx : (xs.all fun x => decide (-9223372036854775808 ≤ x ∧ x ≤ 9223372036854775807)) = true := by decide) (hl : Nat.ble xs.length 1000 = true := by rfl) : SlR tInt D w' (some (ad g 0)) xs.length xs :=
  SlR.of_cells rfl (by have := Nat.le_of_ble_eq_true hl; omega) hD (.blk hb.blk) (flat_ints fun x hm => by have := List.all_eq_true.1 hx x hm; rw [decide_eq_true_iff] at this; exact this)
end
end Go.Proofs.YtpmmhcgghldaaaaDoor
