/- Parts of the proof: H2 Za. -/
import Derived.Test.YtclmnhijjhnggaaM5
import Derived.Test.YtclmnhijjhnggaaM4
import Derived.Test.YtclmnhijjhnggaaM3
import Derived.ProofKit
import Derived.OpenShut
import Derived.LaidMore
import Derived.Deep.DeepHandedRow
import Derived.Test.YtclmnhijjhnggaaRows
import Derived.Stop.LaidErr

/- The law GarmentPair. -/
namespace Go.Proofs.Ytclmnhijjhnggaa
open Go Go.RowKit

theorem pairV_ok {E c d : Int} (h : 0 ≤ c ∧ c ≤ 1073741824 ∧ 0 ≤ d ∧ d ≤ 1073741824 ∧ 0 ≤ E ∧ E ≤ c + d) : ∃ lo hi, pairV E c d = (lo, hi, 0) ∧ lo = max 0 (E - d) + (E - max 0 (E - d) - max 0 (E - c)) / 2 ∧ hi = max 0 (E - d) + (E - max 0 (E - d) - max 0 (E - c)) - (E - max 0 (E - d) - max 0 (E - c)) / 2 :=
  ⟨_, _, by unfold pairV; rw [if_pos h], rfl, rfl⟩
section
variable {w : World}
set_option maxRecDepth 4000 in
theorem c_GarmentPair {cc dd sh mo : Int} (hcc : 0 ≤ cc ∧ cc ≤ 4294967295) (hdd : 0 ≤ dd ∧ dd ≤ 4294967295) (hsh : 0 ≤ sh ∧ sh ≤ 65535) (hmo : -32768 ≤ mo ∧ mo ≤ 32767) : CallZ Try.prog 7 #[.int .u32 cc, .int .u32 dd, .int .u16 sh, .int .i16 mo] w (fun v w' => v = .bool true ∧ Ext w w') := by
  refine fn_rule (args := [.int .u32 cc, .int .u32 dd, .int .u16 sh, .int .i16 mo]) Try.func7 (by kernel_rfl) ?_
  refine call_of (c_gsane) ?_
  rintro _ w1 ⟨rfl, x1⟩
  have e4 : (2 : Int) ^ (min (2 : Int).toNat IntKind.u32.bits) = 4 := by decide
  have f1 := Int.fdiv_eq_ediv_of_nonneg cc (b := 4) (by omega)
  have f2 := Int.fdiv_eq_ediv_of_nonneg dd (b := 4) (by omega)
  refine shrR (by decide) ?_
  rw [e4]
  refine convI (by omega) ?_
  refine shrR (by decide) ?_
  rw [e4]
  refine convI (by omega) ?_
  obtain ⟨p, hp⟩ : ∃ p, p = cc.fdiv 4 := ⟨_, rfl⟩
  obtain ⟨q, hq⟩ : ∃ q, q = dd.fdiv 4 := ⟨_, rfl⟩
  rw [← hp, ← hq]
  rw [← hp] at f1
  rw [← hq] at f2
  refine lit [iv p, iv q] (fun g w2 h2 => ?_)
  have hpq : OkL [p, q] := fun x hx => by
    simp only [List.mem_cons, List.not_mem_nil, or_false] at hx
    rcases hx with rfl | rfl <;> omega
  have sl : SlR tInt (fun _ => True) w2 (some (ad g 0)) 2 [p, q] := SlR.of_cells rfl (by decide) trivial (.blk h2.blk) (flat_ints fun x hx => by have := hpq x hx; unfold I64; omega)
  have x2 := x1.trans h2.ext
  have B := h2.blk
  refine call_of (c_gnear sl hsh hmo) ?_
  rintro _ w3 ⟨rfl, E, ok, rfl, hok, hko⟩
  obtain rfl := hko (by simp) hpq
  have ho := hok rfl
  have he := tErr_ok ho
  obtain ⟨o1, o2, o3, o4⟩ := ho
  have hs : isum [p, q] = p + q := by unfold isum; simp
  rw [hs] at o4
  refine call_of (c_gAward' sl he) ?_
  rintro _ w4 ⟨m, A', n', c', hm, rfl, sa, -, x4, hn'⟩
  obtain rfl : n' = 2 := hn'
  have aw := hm.awd he
  have pr := Awd.pair aw (by omega) (by omega)
  have c0 : clA [p, q] 0 = p := rfl
  have c1 : clA [p, q] 1 = q := rfl
  simp only [c0, c1] at pr
  have pr : max 0 (E - q) + (E - max 0 (E - q) - max 0 (E - p)) / 2 ≤ ownV m p 0 ∧ ownV m p 0 ≤ max 0 (E - q) + (E - max 0 (E - q) - max 0 (E - p) + 1) / 2 ∧
    max 0 (E - p) + (E - max 0 (E - p) - max 0 (E - q)) / 2 ≤ ownV m q 1 ∧ ownV m q 1 ≤ max 0 (E - p) + (E - max 0 (E - p) - max 0 (E - q) + 1) / 2 := pr
  obtain ⟨lo1, hi1, hv1, l1, h1⟩ := pairV_ok (E := E) (c := p) (d := q) (by omega)
  obtain ⟨lo2, hi2, hv2, l2, h2'⟩ := pairV_ok (E := E) (c := q) (d := p) (by omega)
  have B4 : Blk w4 g 3 [iv p, iv q] := B.ext x4
  have cp := fun w => c_gPair (w := w) (E := E) (c := p) (d := q)
  rw [hv1] at cp
  have cq := fun w => c_gPair (w := w) (E := E) (c := q) (d := p)
  rw [hv2] at cq
  refine drawP (.take 0 (.take 1 (.take 2 (.take 3 (.take 4 (.take 5 (.take 6 (.alt 7 (.take 8 (.take 9 (.take 10 (.eff 11 (.eff 12 (.take 13 .done)))))) (.eff 11 (.eff 7 (.take 8 (.take 9 (.take 10 (.eff 12 (.take 13 .done))))))))))))))) [] (fun z => Ext w4 z) mx (by kernel_rfl) (.refl _ _) ?_
  refine idx 0 rfl (by omega) ?_
  refine ldX (iv p) (B4.cell rfl) (.refl _ _) ?_
  refine idx 1 rfl (by omega) ?_
  refine ldX (iv q) (B4.cell rfl) (.refl _ _) ?_
  refine ⟨?xl, ?xr⟩
  case' xl =>
    refine call_of (cp _) ?_
    rintro _ u1 ⟨rfl, y1⟩
    refine strS y1 ?_
    refine alloc (fun b u2 a2 => ?_)
    have xe := y1.trans a2.ext
    have bq : Blk u2 b 37 [iv 0, iv 0] := a2.blk
    have hb : w4.heap.size ≤ b := by have := a2.at_; have := y1.size; omega
    refine strS xe ?_
    clear a2 y1
  case' xr =>
    refine alloc (fun b u1 a1 => ?_)
    refine strS a1.ext ?_
    refine call_of (cp _) ?_
    rintro _ u2 ⟨rfl, y1⟩
    have xe := a1.ext.trans y1
    have bq : Blk u2 b 37 [iv 0, iv 0] := a1.blk.ext y1
    have hb : w4.heap.size ≤ b := by have := a1.at_; omega
    refine strS xe ?_
    clear a1 y1
  all_goals
    refine stA (vs := [iv lo1, iv hi1]) bq rfl (Nat.le_of_ble_eq_true rfl) (by simp [Value.oneCell']) (fun w5 b5 k5 z5 => ?_)
    have b5 : Blk w5 b 37 [iv lo1, iv hi1] := b5
    have x5 : Ext w4 w5 := xe.then k5 fun b hb _ e => by omega
    refine strS x5 ?_
    have B5 := B4.ext x5
    refine drawP (.take 0 (.take 1 (.take 2 (.take 3 (.take 4 (.take 5 (.take 6 (.alt 7 (.take 8 (.take 9 (.take 10 (.eff 11 (.eff 12 (.take 13 .done)))))) (.eff 11 (.eff 7 (.take 8 (.take 9 (.take 10 (.eff 12 (.take 13 .done))))))))))))))) [] (fun z => Ext w5 z) mx (by kernel_rfl) (.refl _ _) ?_
    refine idx 1 rfl (by omega) ?_
    refine ldX (iv q) (B5.cell rfl) (.refl _ _) ?_
    refine idx 0 rfl (by omega) ?_
    refine ldX (iv p) (B5.cell rfl) (.refl _ _) ?_
    refine ⟨?_, ?_⟩
    rotate_left
    · refine alloc (fun b' u1' a1 => ?_)
      refine strS a1.ext ?_
      refine call_of (cq _) ?_
      rintro _ u2' ⟨rfl, y1⟩
      have xe' := a1.ext.trans y1
      have bq' : Blk u2' b' 37 [iv 0, iv 0] := a1.blk.ext y1
      have hb' : w5.heap.size ≤ b' := by have := a1.at_; omega
      refine strS xe' ?_
      refine stA (vs := [iv lo2, iv hi2]) bq' rfl (Nat.le_of_ble_eq_true rfl) (by simp [Value.oneCell']) (fun w6 b6 k6 z6 => ?_)
      have b6 : Blk w6 b' 37 [iv lo2, iv hi2] := b6
      have x6 : Ext w5 w6 := xe'.then k6 fun b hb _ e => by omega
      refine strS x6 ?_
      have b5' := b5.ext x6
      have x46 := x5.trans x6
      have sa6 := sa.ext x46
      obtain ⟨ba, oa, ca, a0, rfl, ha0, -, -, hc0, rfl, -⟩ := sa6.at_ (k := 0) (by omega)
      obtain ⟨ba', oa', ca', a1, hA, ha1, -, -, hc1, rfl, -⟩ := sa6.at_ (k := 1) (by omega)
      injection hA with hA
      injection hA with hA hA'
      subst hA; subst hA'
      have ea0 : a0 = ownV m p 0 := awL_get ha0 (by simp)
      have ea1 : a1 = ownV m q 1 := awL_get ha1 (by simp)
      rw [← ea0, ← ea1] at pr
      refine cN (fun h => absurd rfl h) (fun _ => ?_)
      refine cN (fun h => absurd rfl h) (fun _ => ?_)
      refine cN (fun h => absurd rfl h) (fun _ => ?_)
      refine len ?_
      refine cN (fun h => absurd rfl h) (fun _ => ?_)
      refine drawX [0, 1, 2, 3, 4, 5, 6, 7, 8, 9, 10, 11, 12, 13, 14, 15, 16, 17, 18, 19, 20, 21, 22, 23, 24, 25, 26, 27, 28, 29, 30] [] mx (by kernel_rfl) ?_
      refine fldA ?_
      refine ldX (iv lo1) (b5'.cell rfl) (.refl _ _) ?_
      refine idx 0 rfl (by omega) ?_
      refine ldX (iv a0) (hc0 0 _ rfl) (.refl _ _) ?_
      refine cD (fun _ => ?_) (fun h => by omega)
      refine idx 0 rfl (by omega) ?_
      refine ldX (iv a0) (hc0 0 _ rfl) (.refl _ _) ?_
      refine fldA ?_
      refine ldX (iv hi1) (b5'.cell rfl) (.refl _ _) ?_
      refine cD (fun _ => ?_) (fun h => by omega)
      refine fldA ?_
      refine ldX (iv lo2) (b6.cell rfl) (.refl _ _) ?_
      refine idx 1 rfl (by omega) ?_
      refine ldX (iv a1) (hc1 0 _ rfl) (.refl _ _) ?_
      refine cD (fun _ => ?_) (fun h => by omega)
      refine idx 1 rfl (by omega) ?_
      refine ldX (iv a1) (hc1 0 _ rfl) (.refl _ _) ?_
      refine fldA ?_
      refine ldX (iv hi2) (b6.cell rfl) (.refl _ _) ?_
      refine cD (fun _ => ?_) (fun h => by omega)
      exact ret1 (.bool true) rfl ⟨rfl, (x2.trans x4).trans x46⟩
    · refine call_of (cq _) ?_
      rintro _ u1' ⟨rfl, y1⟩
      refine strS y1 ?_
      refine alloc (fun b' u2' a2 => ?_)
      have xe' := y1.trans a2.ext
      have bq' : Blk u2' b' 37 [iv 0, iv 0] := a2.blk
      have hb' : w5.heap.size ≤ b' := by have := a2.at_; have := y1.size; omega
      refine strS xe' ?_
      refine stA (vs := [iv lo2, iv hi2]) bq' rfl (Nat.le_of_ble_eq_true rfl) (by simp [Value.oneCell']) (fun w6 b6 k6 z6 => ?_)
      have b6 : Blk w6 b' 37 [iv lo2, iv hi2] := b6
      have x6 : Ext w5 w6 := xe'.then k6 fun b hb _ e => by omega
      refine strS x6 ?_
      have b5' := b5.ext x6
      have x46 := x5.trans x6
      have sa6 := sa.ext x46
      obtain ⟨ba, oa, ca, a0, rfl, ha0, -, -, hc0, rfl, -⟩ := sa6.at_ (k := 0) (by omega)
      obtain ⟨ba', oa', ca', a1, hA, ha1, -, -, hc1, rfl, -⟩ := sa6.at_ (k := 1) (by omega)
      injection hA with hA
      injection hA with hA hA'
      subst hA; subst hA'
      have ea0 : a0 = ownV m p 0 := awL_get ha0 (by simp)
      have ea1 : a1 = ownV m q 1 := awL_get ha1 (by simp)
      rw [← ea0, ← ea1] at pr
      refine cN (fun h => absurd rfl h) (fun _ => ?_)
      refine cN (fun h => absurd rfl h) (fun _ => ?_)
      refine cN (fun h => absurd rfl h) (fun _ => ?_)
      refine len ?_
      refine cN (fun h => absurd rfl h) (fun _ => ?_)
      refine drawX [0, 1, 2, 3, 4, 5, 6, 7, 8, 9, 10, 11, 12, 13, 14, 15, 16, 17, 18, 19, 20, 21, 22, 23, 24, 25, 26, 27, 28, 29, 30] [] mx (by kernel_rfl) ?_
      refine fldA ?_
      refine ldX (iv lo1) (b5'.cell rfl) (.refl _ _) ?_
      refine idx 0 rfl (by omega) ?_
      refine ldX (iv a0) (hc0 0 _ rfl) (.refl _ _) ?_
      refine cD (fun _ => ?_) (fun h => by omega)
      refine idx 0 rfl (by omega) ?_
      refine ldX (iv a0) (hc0 0 _ rfl) (.refl _ _) ?_
      refine fldA ?_
      refine ldX (iv hi1) (b5'.cell rfl) (.refl _ _) ?_
      refine cD (fun _ => ?_) (fun h => by omega)
      refine fldA ?_
      refine ldX (iv lo2) (b6.cell rfl) (.refl _ _) ?_
      refine idx 1 rfl (by omega) ?_
      refine ldX (iv a1) (hc1 0 _ rfl) (.refl _ _) ?_
      refine cD (fun _ => ?_) (fun h => by omega)
      refine idx 1 rfl (by omega) ?_
      refine ldX (iv a1) (hc1 0 _ rfl) (.refl _ _) ?_
      refine fldA ?_
      refine ldX (iv hi2) (b6.cell rfl) (.refl _ _) ?_
      refine cD (fun _ => ?_) (fun h => by omega)
      exact ret1 (.bool true) rfl ⟨rfl, (x2.trans x4).trans x46⟩
end
end Go.Proofs.Ytclmnhijjhnggaa

/- Closing: what claims that are handed in read as. -/
namespace Go.Proofs.Ytclmnhijjhnggaa
open Go Go.RowKit Go.ChangeShapes Go.WideShapes Go.ChangeAt

theorem own : ownKnob Try.prog.godebug = none := by kernel_rfl
theorem laidOut : laidOutB Try.prog = true := by kernel_rfl
theorem rd_is : Rd Try.prog 22 (tSl tInt) := inferInstance
end Go.Proofs.Ytclmnhijjhnggaa
