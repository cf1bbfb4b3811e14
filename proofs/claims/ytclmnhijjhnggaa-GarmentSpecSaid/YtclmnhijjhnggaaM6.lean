/- Parts of the proof: H3 H5 H6 H7 Za. -/
import Derived.Test.YtclmnhijjhnggaaM5
import Derived.Test.YtclmnhijjhnggaaM4
import Derived.Test.YtclmnhijjhnggaaM3
import Derived.ProofKit
import Derived.OpenShut
import Derived.LaidMore
import Derived.Deep.DeepHandedRow
import Derived.Test.YtclmnhijjhnggaaRows
import Derived.Stop.LaidErr

/- The reference's Own and Pair; the law GarmentOwnSpec. -/
namespace Go.Proofs.Ytclmnhijjhnggaa
open Go Go.RowKit

section
variable {w : World}
theorem c_r40within {n lo hi : Int} : CallZ Try.prog 42 #[iv n, iv lo, iv hi] w (fun v w' => v = .bool (decide (lo ≤ n ∧ n ≤ hi)) ∧ w' = w) := by
  refine fn_rule (args := [iv n, iv lo, iv hi]) Try.func42 (by kernel_rfl) ?_
  refine cD (fun g1 => ?_) (fun g1 => ?_)
  · refine cD (fun g2 => ?_) (fun g2 => ?_)
    · exact ret1 (.bool true) rfl ⟨by rw [decide_eq_true ⟨by omega, by omega⟩], rfl⟩
    · exact ret1 (.bool false) rfl ⟨by rw [decide_eq_false (by omega)], rfl⟩
  · exact ret1 (.bool false) rfl ⟨by rw [decide_eq_false (by omega)], rfl⟩
theorem c_r40has {c L : Int} {l : Bool} (hc : 0 ≤ c ∧ c ≤ 1073741824) : CallZ Try.prog 38 #[iv c, .bool l, iv L] w (fun v w' => v = .bool (decide (L ≤ if l then c - c / 2 else c / 2)) ∧ w' = w) := by
  refine fn_rule (args := [iv c, .bool l, iv L]) Try.func38 (by kernel_rfl) ?_
  cases l with
  | true =>
    refine quoI (by omega) (by omega) (by omega) ?_
    refine arI (by omega) ?_
    refine cD (fun g => ?_) (fun g => ?_)
    · exact ret1 (.bool true) rfl ⟨by rw [decide_eq_true (by rw [if_pos rfl]; exact g)], rfl⟩
    · exact ret1 (.bool false) rfl ⟨by rw [decide_eq_false (by rw [if_pos rfl]; exact g)], rfl⟩
  | false =>
    refine quoI (by omega) (by omega) (by omega) ?_
    refine cD (fun g => ?_) (fun g => ?_)
    · exact ret1 (.bool true) rfl ⟨by rw [decide_eq_true (by rw [if_neg (by simp)]; exact g)], rfl⟩
    · exact ret1 (.bool false) rfl ⟨by rw [decide_eq_false (by rw [if_neg (by simp)]; exact g)], rfl⟩
theorem c_r40ahead {m : Mk} {c i : Int} : CallZ Try.prog 46 #[.bool m.late, iv c, iv i, iv m.claim, iv m.index] w (fun v w' => v = .bool (decide (upTo m c i)) ∧ w' = w) := by
  obtain ⟨l, L, c0, i0⟩ := m
  refine fn_rule (args := [.bool l, iv c, iv i, iv c0, iv i0]) Try.func46 (by kernel_rfl) ?_
  cases l with
  | true =>
    refine cD (fun g => ?_) (fun g => ?_)
    · exact ret1 (.bool true) rfl ⟨(decide_eq_true (show upTo ⟨true, L, c0, i0⟩ c i from (show c < c0 ∨ (c = c0 ∧ i0 ≤ i) by omega))).symm ▸ rfl, rfl⟩
    refine cE (fun e => ?_) (fun e => ?_)
    · refine cD (fun g2 => ?_) (fun g2 => ?_)
      · exact ret1 (.bool true) rfl ⟨(decide_eq_true (show upTo ⟨true, L, c0, i0⟩ c i from (show c < c0 ∨ (c = c0 ∧ i0 ≤ i) by omega))).symm ▸ rfl, rfl⟩
      · exact ret1 (.bool false) rfl ⟨(decide_eq_false (show ¬ upTo ⟨true, L, c0, i0⟩ c i from (show ¬ (c < c0 ∨ (c = c0 ∧ i0 ≤ i)) by omega))).symm ▸ rfl, rfl⟩
    · exact ret1 (.bool false) rfl ⟨(decide_eq_false (show ¬ upTo ⟨true, L, c0, i0⟩ c i from (show ¬ (c < c0 ∨ (c = c0 ∧ i0 ≤ i)) by omega))).symm ▸ rfl, rfl⟩
  | false =>
    refine cD (fun g => ?_) (fun g => ?_)
    · exact ret1 (.bool true) rfl ⟨(decide_eq_true (show upTo ⟨false, L, c0, i0⟩ c i from (show c0 < c ∨ (c = c0 ∧ i ≤ i0) by omega))).symm ▸ rfl, rfl⟩
    refine cE (fun e => ?_) (fun e => ?_)
    · refine cD (fun g2 => ?_) (fun g2 => ?_)
      · exact ret1 (.bool true) rfl ⟨(decide_eq_true (show upTo ⟨false, L, c0, i0⟩ c i from (show c0 < c ∨ (c = c0 ∧ i ≤ i0) by omega))).symm ▸ rfl, rfl⟩
      · exact ret1 (.bool false) rfl ⟨(decide_eq_false (show ¬ upTo ⟨false, L, c0, i0⟩ c i from (show ¬ (c0 < c ∨ (c = c0 ∧ i ≤ i0)) by omega))).symm ▸ rfl, rfl⟩
    · exact ret1 (.bool false) rfl ⟨(decide_eq_false (show ¬ upTo ⟨false, L, c0, i0⟩ c i from (show ¬ (c0 < c ∨ (c = c0 ∧ i ≤ i0)) by omega))).symm ▸ rfl, rfl⟩
theorem c_r40early {c L : Int} (hc : 0 ≤ c ∧ c ≤ 1073741824) : CallZ Try.prog 44 #[iv c, iv L] w (fun v w' => v = iv (max 0 (min (c / 2) L)) ∧ w' = w) := by
  refine fn_rule (args := [iv c, iv L]) Try.func44 (by kernel_rfl) ?_
  refine quoI (by omega) (by omega) (by omega) ?_
  exact ret1 (iv (max 0 (min (c / 2) L))) rfl ⟨rfl, rfl⟩
theorem c_r40late {c L : Int} (hc : 0 ≤ c ∧ c ≤ 1073741824) (hL : -1 ≤ L ∧ L ≤ 2147483648) : CallZ Try.prog 45 #[iv c, iv L] w (fun v w' => v = iv (max 0 (c - c / 2 - L + 1)) ∧ w' = w) := by
  refine fn_rule (args := [iv c, iv L]) Try.func45 (by kernel_rfl) ?_
  refine quoI (by omega) (by omega) (by omega) ?_
  refine arI (by omega) ?_
  refine arI (by omega) ?_
  refine arI (by omega) ?_
  exact ret1 (iv (max 0 (c - c / 2 - L + 1))) rfl ⟨rfl, rfl⟩
theorem c_r40own {m : Mk} {c i : Int} (hm : VM m) (hc : 0 ≤ c ∧ c ≤ 1073741824) : CallZ Try.prog 23 #[.agg (encM m).toArray, iv i, iv c] w (fun v w' => v = iv (ownV m c i) ∧ Ext w w') := by
  obtain ⟨l, L, c0, i0⟩ := m
  have hb : 0 ≤ L ∧ L ≤ 1073741824 := hm.b
  refine fn_rule (args := [.agg #[.bool l, iv L, iv c0, iv i0], iv i, iv c]) Try.func23 (by kernel_rfl) ?_
  refine box (fun b w1 h1 => ?_)
  have B : Blk w1 b 29 [.bool l, iv L, iv c0, iv i0] := h1.blk
  refine ldA [.bool l, iv L, iv c0, iv i0] (.blk B) rfl ?_
  refine bld [.bool false, iv 0, iv 0, iv 0] (by kernel_rfl) ?_
  refine eqS ((l == false) && ((L == 0) && ((c0 == 0) && ((i0 == 0) && true)))) (by kernel_rfl) (fun q => ?_) (fun q => ?_)
  · rw [show ((l == false) && ((L == 0) && ((c0 == 0) && ((i0 == 0) && true)))) = decide ((⟨l, L, c0, i0⟩ : Mk) = Mk.none) from @ne_none ⟨l, L, c0, i0⟩, decide_eq_true_eq] at q
    exact ret1 (iv 0) rfl ⟨by unfold ownV; rw [if_pos q], h1.ext⟩
  rw [show ((l == false) && ((L == 0) && ((c0 == 0) && ((i0 == 0) && true)))) = decide ((⟨l, L, c0, i0⟩ : Mk) = Mk.none) from @ne_none ⟨l, L, c0, i0⟩, decide_eq_false_iff_not] at q
  have hlit : (⟨l, L, c0, i0⟩ : Mk).Lit := by
    rcases hm with h | h
    · exact absurd h q
    · exact h.1
  have hL1 : 1 ≤ L := hlit.lo
  refine fldA ?_
  refine ld (iv L) (B.cell rfl) ?_
  refine arI (by omega) ?_
  refine call_of (c_r40early (L := L - 1) hc) ?_
  rintro _ w2 ⟨rfl, rfl⟩
  have B : Blk w2 b 29 [.bool l, iv L, iv c0, iv i0] := B
  have x1 := h1.ext
  cases l with
  | false =>
    refine fldA ?_
    refine ld (.bool false) (B.cell rfl) ?_
    refine fldA ?_
    refine ld (.bool false) (B.cell rfl) ?_
    refine fldA ?_
    refine ld (iv L) (B.cell rfl) ?_
    refine callB (c_r40has (l := false) hc) (fun g => ?_) (fun g => ?_)
    · have g := of_decide_eq_true g
      rw [if_neg (by simp)] at g
      refine fldA ?_
      refine ld (.bool false) (B.cell rfl) ?_
      refine fldA ?_
      refine ld (iv c0) (B.cell rfl) ?_
      refine fldA ?_
      refine ld (iv i0) (B.cell rfl) ?_
      refine callB (c_r40ahead (m := ⟨false, L, c0, i0⟩)) (fun k => ?_) (fun k => ?_)
      · have k := of_decide_eq_true k
        refine arI (by omega) ?_
        refine ret1 (iv (max 0 (min (c / 2) (L - 1)) + 1)) rfl ⟨?_, x1⟩
        rw [own_ee hlit k, show max 0 (min (c / 2) (L - 1)) + 1 = min (c / 2) L by omega]
      · have k := of_decide_eq_false k
        refine ret1 (iv (max 0 (min (c / 2) (L - 1)))) rfl ⟨?_, x1⟩
        rw [own_en hlit k, show max 0 (min (c / 2) (L - 1)) = min (c / 2) (L - 1) by omega]
    · have g := of_decide_eq_false g
      rw [if_neg (by simp)] at g
      refine ret1 (iv (max 0 (min (c / 2) (L - 1)))) rfl ⟨?_, x1⟩
      by_cases k : c0 < c ∨ (c = c0 ∧ i ≤ i0)
      · rw [own_ee hlit k, show max 0 (min (c / 2) (L - 1)) = min (c / 2) L by omega]
      · rw [own_en hlit k, show max 0 (min (c / 2) (L - 1)) = min (c / 2) (L - 1) by omega]
  | true =>
    refine fldA ?_
    refine ld (.bool true) (B.cell rfl) ?_
    refine quoI (by omega) (by omega) (by omega) ?_
    refine fldA ?_
    refine ld (iv L) (B.cell rfl) ?_
    refine arI (by omega) ?_
    refine call_of (c_r40late (L := L + 1) hc (by omega)) ?_
    rintro _ w3 ⟨rfl, rfl⟩
    have B : Blk w3 b 29 [.bool true, iv L, iv c0, iv i0] := B
    refine arI (by omega) ?_
    refine fldA ?_
    refine ld (.bool true) (B.cell rfl) ?_
    refine fldA ?_
    refine ld (iv L) (B.cell rfl) ?_
    refine callB (c_r40has (l := true) hc) (fun g => ?_) (fun g => ?_)
    · have g := of_decide_eq_true g
      rw [if_pos rfl] at g
      refine fldA ?_
      refine ld (.bool true) (B.cell rfl) ?_
      refine fldA ?_
      refine ld (iv c0) (B.cell rfl) ?_
      refine fldA ?_
      refine ld (iv i0) (B.cell rfl) ?_
      refine callB (c_r40ahead (m := ⟨true, L, c0, i0⟩)) (fun k => ?_) (fun k => ?_)
      · have k := of_decide_eq_true k
        refine arI (by omega) ?_
        refine ret1 (iv (c / 2 + max 0 (c - c / 2 - (L + 1) + 1) + 1)) rfl ⟨?_, x1⟩
        rw [own_le hlit k, show c / 2 + max 0 (c - c / 2 - (L + 1) + 1) + 1 = c - min (c - c / 2) (L - 1) by omega]
      · have k := of_decide_eq_false k
        refine ret1 (iv (c / 2 + max 0 (c - c / 2 - (L + 1) + 1))) rfl ⟨?_, x1⟩
        rw [own_ln hlit k, show c / 2 + max 0 (c - c / 2 - (L + 1) + 1) = c - min (c - c / 2) L by omega]
    · have g := of_decide_eq_false g
      rw [if_pos rfl] at g
      refine ret1 (iv (c / 2 + max 0 (c - c / 2 - (L + 1) + 1))) rfl ⟨?_, x1⟩
      by_cases k : c < c0 ∨ (c = c0 ∧ i0 ≤ i)
      · rw [own_le hlit k, show c / 2 + max 0 (c - c / 2 - (L + 1) + 1) = c - min (c - c / 2) (L - 1) by omega]
      · rw [own_ln hlit k, show c / 2 + max 0 (c - c / 2 - (L + 1) + 1) = c - min (c - c / 2) L by omega]
theorem c_r40Valid {m : Mk} : CallZ Try.prog 41 #[.agg (encM m).toArray] w (fun v w' => v = .bool (validB m) ∧ Ext w w') := by
  have key : ∀ {b : Bool}, (b = true ↔ VM m) → b = validB m := fun {b} h => by
    unfold validB
    cases b with
    | true => exact (decide_eq_true (h.1 rfl)).symm
    | false => exact (decide_eq_false fun k => by cases h.2 k).symm
  obtain ⟨l, L, c0, i0⟩ := m
  refine fn_rule (args := [.agg #[.bool l, iv L, iv c0, iv i0]]) Try.func41 (by kernel_rfl) ?_
  refine box (fun b1 w1 h1 => ?_)
  have B : Blk w1 b1 29 [.bool l, iv L, iv c0, iv i0] := h1.blk
  refine ldA [.bool l, iv L, iv c0, iv i0] (.blk B) rfl ?_
  refine bld [.bool false, iv 0, iv 0, iv 0] (by kernel_rfl) ?_
  refine eqS ((l == false) && ((L == 0) && ((c0 == 0) && ((i0 == 0) && true)))) (by kernel_rfl) (fun q => ?_) (fun q => ?_)
  · rw [show ((l == false) && ((L == 0) && ((c0 == 0) && ((i0 == 0) && true)))) = decide ((⟨l, L, c0, i0⟩ : Mk) = Mk.none) from @ne_none ⟨l, L, c0, i0⟩, decide_eq_true_eq] at q
    exact ret1 (.bool true) rfl ⟨by rw [← key (b := true) ⟨fun _ => .inl q, fun _ => rfl⟩], h1.ext⟩
  rw [show ((l == false) && ((L == 0) && ((c0 == 0) && ((i0 == 0) && true)))) = decide ((⟨l, L, c0, i0⟩ : Mk) = Mk.none) from @ne_none ⟨l, L, c0, i0⟩, decide_eq_false_iff_not] at q
  have fal : ¬ ((⟨l, L, c0, i0⟩ : Mk).Lit ∧ c0 ≤ 1073741824 ∧ 0 ≤ i0 ∧ i0 < 664) → false = validB ⟨l, L, c0, i0⟩ := fun h => key ⟨fun h => (by cases h), fun k => (k.elim q h).elim⟩
  have tru : ((⟨l, L, c0, i0⟩ : Mk).Lit ∧ c0 ≤ 1073741824 ∧ 0 ≤ i0 ∧ i0 < 664) → true = validB ⟨l, L, c0, i0⟩ := fun h => key ⟨fun _ => .inr h, fun _ => rfl⟩
  have lhi : (⟨l, L, c0, i0⟩ : Mk).Lit → 1 ≤ L ∧ 0 ≤ c0 ∧ L ≤ c0 := fun h => by
    have h1 : 1 ≤ L := h.lo
    have h2 : L ≤ if l = true then c0 - c0 / 2 else c0 / 2 := h.hi
    have h3 : 0 ≤ c0 := h.c0
    split at h2 <;> omega
  refine fldA ?_
  refine ld (iv c0) (B.cell rfl) ?_
  refine callB c_r40within (fun g1 => ?_) (fun g1 => ?_)
  rotate_left
  · have g1 := of_decide_eq_false g1
    exact ret1 (.bool false) rfl ⟨by rw [← fal fun h => by have := lhi h.1; omega], h1.ext⟩
  have g1 := of_decide_eq_true g1
  refine fldA ?_
  refine ld (iv i0) (B.cell rfl) ?_
  refine callB c_r40within (fun g2 => ?_) (fun g2 => ?_)
  rotate_left
  · have g2 := of_decide_eq_false g2
    exact ret1 (.bool false) rfl ⟨by rw [← fal fun h => by omega], h1.ext⟩
  have g2 := of_decide_eq_true g2
  refine fldA ?_
  refine ld (iv L) (B.cell rfl) ?_
  refine fldA ?_
  refine ld (iv c0) (B.cell rfl) ?_
  refine callB c_r40within (fun g3 => ?_) (fun g3 => ?_)
  rotate_left
  · have g3 := of_decide_eq_false g3
    exact ret1 (.bool false) rfl ⟨by rw [← fal fun h => by have := lhi h.1; omega], h1.ext⟩
  have g3 := of_decide_eq_true g3
  refine fldA ?_
  refine ld (iv c0) (B.cell rfl) ?_
  refine fldA ?_
  refine ld (.bool l) (B.cell rfl) ?_
  refine fldA ?_
  refine ld (iv L) (B.cell rfl) ?_
  refine callB (c_r40has (l := l) (by omega)) (fun g4 => ?_) (fun g4 => ?_)
  · have g4 := of_decide_eq_true g4
    exact ret1 (.bool true) rfl ⟨by rw [← tru ⟨⟨by show 1 ≤ L; omega, g4, by show 0 ≤ c0; omega⟩, by omega, by omega, by omega⟩], h1.ext⟩
  · have g4 := of_decide_eq_false g4
    exact ret1 (.bool false) rfl ⟨by rw [← fal fun h => g4 h.1.hi], h1.ext⟩
theorem c_r40Own {m : Mk} {i c : Int} : CallZ Try.prog 18 #[.agg (encM m).toArray, iv i, iv c] w (fun v w' => v = .tuple #[iv (if ownE m i c = 0 then ownV m c i else 0), iv (ownE m i c)] ∧ Ext w w') := by
  have bad : VM m → ¬ (0 ≤ i ∧ i < 664 ∧ 0 ≤ c ∧ c ≤ 1073741824) → ownE m i c = 1 := fun h k => by unfold ownE; rw [if_pos h, if_neg k]
  refine fn_rule (args := [.agg (encM m).toArray, iv i, iv c]) Try.func18 (by kernel_rfl) ?_
  refine box (fun b w1 h1 => ?_)
  have B : Blk w1 b 29 (encM m) := h1.blk
  refine ldA (encM m) (.blk B) rfl ?_
  refine callE (c_r40Valid (m := m)) (fun w2 q x2 => ?_) (fun w2 q x2 => ?_)
  · have hv : VM m := of_decide_eq_true q
    have x12 := h1.ext.trans x2
    refine callB c_r40within (fun g1 => ?_) (fun g1 => ?_)
    rotate_left
    · have g1 := of_decide_eq_false g1
      exact ret2 (iv 0) (iv 1) rfl rfl ⟨by rw [bad hv (by omega)]; rfl, x12⟩
    refine callB c_r40within (fun g2 => ?_) (fun g2 => ?_)
    rotate_left
    · have g2 := of_decide_eq_false g2
      exact ret2 (iv 0) (iv 1) rfl rfl ⟨by rw [bad hv (by omega)]; rfl, x12⟩
    have g1 := of_decide_eq_true g1
    have g2 := of_decide_eq_true g2
    refine ldA (encM m) (.blk (B.ext x2)) rfl ?_
    refine call_of (c_r40own (m := m) (c := c) (i := i) hv g2) ?_
    rintro _ w3 ⟨rfl, x3⟩
    have e : ownE m i c = 0 := by unfold ownE; rw [if_pos hv, if_pos ⟨by omega, by omega, by omega, by omega⟩]
    exact ret2 (iv (ownV m c i)) (iv 0) rfl rfl ⟨by rw [e]; rfl, x12.trans x3⟩
  · have hv : ¬ VM m := of_decide_eq_false q
    have e : ownE m i c = 400 := by unfold ownE; rw [if_neg hv]
    exact ret2 (iv 0) (iv 400) rfl rfl ⟨by rw [e]; rfl, h1.ext.trans x2⟩
theorem c_r40Pair {E c d : Int} : CallZ Try.prog 20 #[iv E, iv c, iv d] w (fun v w' => v = .tuple #[.agg #[iv (pairV E c d).1, iv (pairV E c d).2.1], iv (pairV E c d).2.2] ∧ Ext w w') := by
  refine fn_rule (args := [iv E, iv c, iv d]) Try.func20 (by kernel_rfl) ?_
  refine alloc (fun b w1 h1 => ?_)
  have B : Blk w1 b 37 [iv 0, iv 0] := h1.blk
  have e1 := h1.at_
  have bad : ¬ (0 ≤ c ∧ c ≤ 1073741824 ∧ 0 ≤ d ∧ d ≤ 1073741824 ∧ 0 ≤ E ∧ E ≤ c + d) → pairV E c d = (0, 0, 400) := fun h => by unfold pairV; rw [if_neg h]
  refine callB c_r40within (fun g1 => ?_) (fun g => ?_)
  rotate_left
  · have g := of_decide_eq_false g
    have e := bad (by omega)
    rw [e]
    refine bld [iv 0, iv 0] (by kernel_rfl) ?_
    refine stA (vs := [iv 0, iv 0]) B rfl (Nat.le_of_ble_eq_true rfl) (by simp [Value.oneCell']) (fun w2 B2 k2 z2 => ?_)
    have B2 : Blk w2 b 37 [iv 0, iv 0] := B2
    refine ret ?_
    refine resL _ (holds_agg (CellsAt.blk B2) rfl) ?_
    exact ⟨rfl, h1.ext.then k2 fun b hb _ e => by omega⟩
  refine callB c_r40within (fun g2 => ?_) (fun g => ?_)
  rotate_left
  · have g := of_decide_eq_false g
    have e := bad (by omega)
    rw [e]
    refine bld [iv 0, iv 0] (by kernel_rfl) ?_
    refine stA (vs := [iv 0, iv 0]) B rfl (Nat.le_of_ble_eq_true rfl) (by simp [Value.oneCell']) (fun w2 B2 k2 z2 => ?_)
    have B2 : Blk w2 b 37 [iv 0, iv 0] := B2
    refine ret ?_
    refine resL _ (holds_agg (CellsAt.blk B2) rfl) ?_
    exact ⟨rfl, h1.ext.then k2 fun b hb _ e => by omega⟩
  have g1 := of_decide_eq_true g1
  have g2 := of_decide_eq_true g2
  refine arI (by omega) ?_
  refine callB c_r40within (fun g3 => ?_) (fun g => ?_)
  rotate_left
  · have g := of_decide_eq_false g
    have e := bad (by omega)
    rw [e]
    refine bld [iv 0, iv 0] (by kernel_rfl) ?_
    refine stA (vs := [iv 0, iv 0]) B rfl (Nat.le_of_ble_eq_true rfl) (by simp [Value.oneCell']) (fun w2 B2 k2 z2 => ?_)
    have B2 : Blk w2 b 37 [iv 0, iv 0] := B2
    refine ret ?_
    refine resL _ (holds_agg (CellsAt.blk B2) rfl) ?_
    exact ⟨rfl, h1.ext.then k2 fun b hb _ e => by omega⟩
  have g3 := of_decide_eq_true g3
  have e : pairV E c d = (max 0 (E - d) + (E - max 0 (E - d) - max 0 (E - c)) / 2, max 0 (E - d) + (E - max 0 (E - d) - max 0 (E - c)) - (E - max 0 (E - d) - max 0 (E - c)) / 2, 0) := by unfold pairV; rw [if_pos (by omega)]
  rw [e]
  have e2 : max 0 (E - d) + (E - max 0 (E - d) - max 0 (E - c)) - (E - max 0 (E - d) - max 0 (E - c)) / 2 = max 0 (E - d) + (E - max 0 (E - d) - max 0 (E - c) + 1) / 2 := by omega
  rw [e2]
  refine arI (by omega) ?_
  refine arI (by omega) ?_
  refine arI (by omega) ?_
  refine arI (by omega) ?_
  refine quoI (by omega) (by omega) (by omega) ?_
  refine arI (by omega) ?_
  refine arI (by omega) ?_
  refine quoI (by omega) (by omega) (by omega) ?_
  refine arI (by omega) ?_
  refine bld [iv (max 0 (E - d) + (E - max 0 (E - d) - max 0 (E - c)) / 2), iv (max 0 (E - d) + (E - max 0 (E - d) - max 0 (E - c) + 1) / 2)] (by kernel_rfl) ?_
  refine stA (vs := [iv (max 0 (E - d) + (E - max 0 (E - d) - max 0 (E - c)) / 2), iv (max 0 (E - d) + (E - max 0 (E - d) - max 0 (E - c) + 1) / 2)]) B rfl (Nat.le_of_ble_eq_true rfl) (by simp [Value.oneCell']) (fun w2 B2 k2 z2 => ?_)
  have B2 : Blk w2 b 37 [iv (max 0 (E - d) + (E - max 0 (E - d) - max 0 (E - c)) / 2), iv (max 0 (E - d) + (E - max 0 (E - d) - max 0 (E - c) + 1) / 2)] := B2
  refine ret ?_
  refine resL _ (holds_agg (CellsAt.blk B2) rfl) ?_
  exact ⟨rfl, h1.ext.then k2 fun b hb _ e => by omega⟩
theorem c_GarmentOwnSpec {m : Mk} {i c E o : Int} : CallZ Try.prog 4 #[.agg (encM m).toArray, iv i, iv c, iv E, iv o] w (fun v w' => v = .bool true ∧ Ext w w') := by
  refine fn_rule (args := [.agg (encM m).toArray, iv i, iv c, iv E, iv o]) Try.func4 (by kernel_rfl) ?_
  refine box (fun b w1 h1 => ?_)
  have B : Blk w1 b 29 (encM m) := h1.blk
  refine call_of (c_gsane) ?_
  rintro _ w2 ⟨rfl, x2⟩
  obtain ⟨n, hn⟩ : ∃ n, n = if ownE m i c = 0 then ownV m c i else 0 := ⟨_, rfl⟩
  obtain ⟨e, he⟩ : ∃ e, e = ownE m i c := ⟨_, rfl⟩
  obtain ⟨lo, hlo⟩ : ∃ lo, lo = (pairV E c o).1 := ⟨_, rfl⟩
  obtain ⟨hi, hhi⟩ : ∃ hi, hi = (pairV E c o).2.1 := ⟨_, rfl⟩
  obtain ⟨f, hf⟩ : ∃ f, f = (pairV E c o).2.2 := ⟨_, rfl⟩
  have k1 := fun w => c_gOwn (w := w) (m := m) (i := i) (c := c)
  have k2 := fun w => c_r40Own (w := w) (m := m) (i := i) (c := c)
  have k3 := fun w => c_gPair (w := w) (E := E) (c := c) (d := o)
  have k4 := fun w => c_r40Pair (w := w) (E := E) (c := c) (d := o)
  rw [← hn, ← he] at k1 k2
  rw [← hlo, ← hhi, ← hf] at k3 k4
  refine ldA (encM m) (.blk (B.ext x2)) rfl ?_
  refine call_of (k1 _) ?_
  rintro _ w3 ⟨rfl, x3⟩
  refine ldA (encM m) (.blk ((B.ext x2).ext x3)) rfl ?_
  refine call_of (k2 _) ?_
  rintro _ w4 ⟨rfl, x4⟩
  refine call_of (k3 _) ?_
  rintro _ w5 ⟨rfl, x5⟩
  refine alloc (fun b6 w6 h6 => ?_)
  refine stA (vs := [iv lo, iv hi]) h6.blk rfl (Nat.le_of_ble_eq_true rfl) (by simp [Value.oneCell']) (fun w7 B7 k7 z7 => ?_)
  have B7 : Blk w7 b6 37 [iv lo, iv hi] := B7
  have e6 := h6.at_
  have x57 : Ext w5 w7 := h6.ext.then k7 fun b hb _ e => by omega
  refine call_of (k4 _) ?_
  rintro _ w8 ⟨rfl, x8⟩
  refine alloc (fun b9 w9 h9 => ?_)
  refine stA (vs := [iv lo, iv hi]) h9.blk rfl (Nat.le_of_ble_eq_true rfl) (by simp [Value.oneCell']) (fun w10 B10 k10 z10 => ?_)
  have B10 : Blk w10 b9 37 [iv lo, iv hi] := B10
  have e9 := h9.at_
  have x810 : Ext w8 w10 := h9.ext.then k10 fun b hb _ e => by omega
  have x710 := x8.trans x810
  refine cE (fun _ => ?_) (fun h => absurd rfl h)
  refine cE (fun _ => ?_) (fun h => absurd rfl h)
  refine ldA [iv lo, iv hi] (.blk (B7.ext x710)) rfl ?_
  refine ldA [iv lo, iv hi] (.blk B10) rfl ?_
  refine eqS ((lo == lo) && ((hi == hi) && true)) (by kernel_rfl) (fun _ => ?_) (fun h => by simp at h)
  refine cE (fun _ => ?_) (fun h => absurd rfl h)
  exact ret1 (.bool true) rfl ⟨rfl, (h1.ext.trans (x2.trans (x3.trans (x4.trans x5)))).trans (x57.trans x710)⟩
end
end Go.Proofs.Ytclmnhijjhnggaa

/- The reference's Threshold. -/
namespace Go.Proofs.Ytclmnhijjhnggaa
open Go Go.RowKit

/-- How many litres of a claim are before a level or in it. -/
def toF (late : Bool) (L c : Int) : Int := if late then c / 2 + max 0 (c - c / 2 - L + 1) else max 0 (min (c / 2) L)
def toN (late : Bool) (L : Int) (l : List Int) (k : Nat) : Int := sumN (fun i => toF late L (clA l i)) k
def toV (late : Bool) (L : Int) (l : List Int) : Int := toN late L l l.length
/-- The level that is before a mark's. -/
def befL (m : Mk) : Int := if m.late then m.level + 1 else m.level - 1
instance (m : Mk) (c i : Int) : Decidable (m.level ≤ (if m.late then c - c / 2 else c / 2) ∧ upTo m c i) := inferInstance
def oneV (m : Mk) (c i : Int) : Int := if m.level ≤ (if m.late then c - c / 2 else c / 2) ∧ upTo m c i then 1 else 0
theorem own_pt {m : Mk} {c i : Int} (h : m.Lit) (hc : 0 ≤ c) : ownV m c i = toF m.late (befL m) c + oneV m c i := by
  obtain ⟨l, L, c0, i0⟩ := m
  have h1 : 1 ≤ L := h.lo
  cases l with
  | false =>
    have e1 : befL ⟨false, L, c0, i0⟩ = L - 1 := rfl
    have e2 : toF false (L - 1) c = max 0 (min (c / 2) (L - 1)) := rfl
    rw [e1]
    show _ = toF false (L - 1) c + oneV ⟨false, L, c0, i0⟩ c i
    rw [e2]
    by_cases hq : c0 < c ∨ (c = c0 ∧ i ≤ i0)
    · rw [own_ee h hq]
      by_cases g : L ≤ c / 2
      · rw [show oneV ⟨false, L, c0, i0⟩ c i = 1 from if_pos ⟨g, hq⟩]; omega
      · rw [show oneV ⟨false, L, c0, i0⟩ c i = 0 from if_neg fun k => g k.1]; omega
    · rw [own_en h hq, show oneV ⟨false, L, c0, i0⟩ c i = 0 from if_neg fun k => hq k.2]; omega
  | true =>
    have e1 : befL ⟨true, L, c0, i0⟩ = L + 1 := rfl
    have e2 : toF true (L + 1) c = c / 2 + max 0 (c - c / 2 - (L + 1) + 1) := rfl
    rw [e1]
    show _ = toF true (L + 1) c + oneV ⟨true, L, c0, i0⟩ c i
    rw [e2]
    by_cases hq : c < c0 ∨ (c = c0 ∧ i0 ≤ i)
    · rw [own_le h hq]
      by_cases g : L ≤ c - c / 2
      · rw [show oneV ⟨true, L, c0, i0⟩ c i = 1 from if_pos ⟨g, hq⟩]; omega
      · rw [show oneV ⟨true, L, c0, i0⟩ c i = 0 from if_neg fun k => g k.1]; omega
    · rw [own_ln h hq, show oneV ⟨true, L, c0, i0⟩ c i = 0 from if_neg fun k => hq k.2]; omega
section
variable {l : List Int} {m : Mk} {E : Int}
theorem place_eq (h : m.Lit) (hl : ∀ i, i < l.length → 0 ≤ clA l i) : ownS m l = toV m.late (befL m) l + sumN (fun i => oneV m (clA l i) i) l.length := by
  unfold ownS toV toN
  rw [← sumN_add]
  exact sumN_congr fun i hi => own_pt h (hl i hi)
theorem Mk.Of.nat (h : m.Of l) : m.index.toNat < l.length ∧ ((m.index.toNat : Nat) : Int) = m.index := by have := h.ix; omega
/-- .. and at the mark's own claimant. -/
theorem own_at (h : m.Of l) : ownV m (clA l m.index.toNat) (m.index.toNat : Nat) = m.j := by
  rw [h.nat.2, ← h.cl]; exact own_self h.lit
theorem lev_early (h : m.Of l) (hl : ∀ i, i < l.length → 0 ≤ clA l i) (hs : ownS m l = E) (he : m.late = false) {x : Int} (_hx : 0 ≤ x) : E ≤ toV false x l ↔ m.level ≤ x := by
  obtain ⟨b, L, c0, i0⟩ := m
  have he : b = false := he
  subst he
  have lit := h.lit
  have h1 : 1 ≤ L := lit.lo
  have h2 : L ≤ c0 / 2 := lit.hi
  constructor
  · intro hE
    by_cases q : L ≤ x
    · exact q
    exfalso
    have := sumN_lt (f := fun i => toF false x (clA l i)) (g := fun i => ownV ⟨false, L, c0, i0⟩ (clA l i) i) (n := l.length) (fun i hi => by
      have := hl i hi
      show max 0 (min (clA l i / 2) x) ≤ _
      by_cases hq : c0 < clA l i ∨ (clA l i = c0 ∧ (i : Int) ≤ i0)
      · rw [own_ee lit hq]; omega
      · rw [own_en lit hq]; omega) ⟨i0.toNat, h.nat.1, by
        have e : ownV ⟨false, L, c0, i0⟩ (clA l i0.toNat) (i0.toNat : Nat) = L := own_at h
        rw [e]
        show max 0 (min (clA l i0.toNat / 2) x) < L
        omega⟩
    have hs : sumN (fun i => ownV ⟨false, L, c0, i0⟩ (clA l i) i) l.length = E := hs
    rw [hs] at this
    have : toV false x l < E := this
    omega
  · intro hLx
    have hLx : L ≤ x := hLx
    rw [← hs]
    exact sumN_le fun i hi => by
      have := hl i hi
      show _ ≤ max 0 (min (clA l i / 2) x)
      by_cases hq : c0 < clA l i ∨ (clA l i = c0 ∧ (i : Int) ≤ i0)
      · rw [own_ee lit hq]; omega
      · rw [own_en lit hq]; omega
theorem lev_late (h : m.Of l) (hl : ∀ i, i < l.length → 0 ≤ clA l i) (hs : ownS m l = E) (he : m.late = true) {x : Int} (_hx : 1 ≤ x) : E ≤ toV true x l ↔ x ≤ m.level := by
  obtain ⟨b, L, c0, i0⟩ := m
  have he : b = true := he
  subst he
  have lit := h.lit
  have h1 : 1 ≤ L := lit.lo
  have h2 : L ≤ c0 - c0 / 2 := lit.hi
  have hcl : c0 = clA l i0.toNat := h.cl
  constructor
  · intro hE
    by_cases q : x ≤ L
    · exact q
    exfalso
    have := sumN_lt (f := fun i => toF true x (clA l i)) (g := fun i => ownV ⟨true, L, c0, i0⟩ (clA l i) i) (n := l.length) (fun i hi => by
      have := hl i hi
      show clA l i / 2 + max 0 (clA l i - clA l i / 2 - x + 1) ≤ _
      by_cases hq : clA l i < c0 ∨ (clA l i = c0 ∧ i0 ≤ (i : Int))
      · rw [own_le lit hq]; omega
      · rw [own_ln lit hq]; omega) ⟨i0.toNat, h.nat.1, by
        have e : ownV ⟨true, L, c0, i0⟩ (clA l i0.toNat) (i0.toNat : Nat) = c0 - L + 1 := own_at h
        rw [e]
        show clA l i0.toNat / 2 + max 0 (clA l i0.toNat - clA l i0.toNat / 2 - x + 1) < c0 - L + 1
        rw [← hcl]
        omega⟩
    have hs : sumN (fun i => ownV ⟨true, L, c0, i0⟩ (clA l i) i) l.length = E := hs
    rw [hs] at this
    have : toV true x l < E := this
    omega
  · intro hLx
    have hLx : x ≤ L := hLx
    rw [← hs]
    exact sumN_le fun i hi => by
      have := hl i hi
      show _ ≤ clA l i / 2 + max 0 (clA l i - clA l i / 2 - x + 1)
      by_cases hq : clA l i < c0 ∨ (clA l i = c0 ∧ i0 ≤ (i : Int))
      · rw [own_le lit hq]; omega
      · rw [own_ln lit hq]; omega
theorem late_big (h : m.Of l) (hl : ∀ i, i < l.length → 0 ≤ clA l i) (hs : ownS m l = E) (he : m.late = true) {x : Int} (_hx : 0 ≤ x) : toV false x l < E := by
  obtain ⟨b, L, c0, i0⟩ := m
  have he : b = true := he
  subst he
  have lit := h.lit
  have h1 : 1 ≤ L := lit.lo
  have h2 : L ≤ c0 - c0 / 2 := lit.hi
  have hcl : c0 = clA l i0.toNat := h.cl
  rw [← hs]
  refine sumN_lt (f := fun i => toF false x (clA l i)) (g := fun i => ownV ⟨true, L, c0, i0⟩ (clA l i) i) (n := l.length) (fun i hi => ?_) ⟨i0.toNat, h.nat.1, ?_⟩
  · have := hl i hi
    show max 0 (min (clA l i / 2) x) ≤ _
    by_cases hq : clA l i < c0 ∨ (clA l i = c0 ∧ i0 ≤ (i : Int))
    · rw [own_le lit hq]; omega
    · rw [own_ln lit hq]; omega
  · have e : ownV ⟨true, L, c0, i0⟩ (clA l i0.toNat) (i0.toNat : Nat) = c0 - L + 1 := own_at h
    rw [e]
    show max 0 (min (clA l i0.toNat / 2) x) < c0 - L + 1
    rw [← hcl]
    have := lit.c0
    omega
theorem toF_b {late : Bool} {L c : Int} (hL : 0 ≤ L) (hc : 0 ≤ c ∧ c ≤ 1073741824) : 0 ≤ toF late L c ∧ toF late L c ≤ 1073741825 := by
  unfold toF
  split <;> omega
theorem toN_b {late : Bool} {L : Int} (hL : 0 ≤ L) (hcl : OkL l) {k : Nat} (hk : k ≤ l.length) : 0 ≤ toN late L l k ∧ toN late L l k ≤ k * 1073741825 :=
  sumN_b fun i hi => toF_b hL (clA_b hcl (by omega))
end
section
variable {D : Nat → Prop} {w : World} {l : List Int} {A : Option Addr} {n c : Nat}
theorem c_r40check {E : Int} (hl : SlR tInt D w A n l) : CallZ Try.prog 35 #[iv E, .slice A n c] w (fun v w' => v = iv (tErr E l) ∧ w' = w) := by
  have l1 := hl.len
  have hle := hl.le
  refine fn_rule (args := [iv E, .slice A n c]) Try.func35 (by kernel_rfl) ?_
  refine len ?_
  refine cD (fun g0 => ?_) (fun g0 => ?_)
  · exact ret1 (iv 2) rfl ⟨by unfold tErr; rw [if_pos (by omega)], rfl⟩
  have bad : (l.all okC && decide (0 ≤ E ∧ E ≤ l.sum)) = false → tErr E l = 400 := fun h => by unfold tErr; rw [if_neg (by omega), h]; rfl
  refine loop_rule (fun k : Nat => [(6, iv (k : Int)), (5, iv (isum (l.take k)))]) (fun k u => k ≤ n ∧ w = u ∧ ∀ c ∈ l.take k, 0 ≤ c ∧ c ≤ 1073741824) (fun k _ => n - k) 0 ⟨rfl, rfl, trivial⟩ ⟨by omega, rfl, fun c hc => by simp at hc⟩ rfl ?_
  rintro G k u ⟨hk, rfl, hall⟩
  have hsb := isum_b hall
  rw [List.length_take] at hsb
  refine len ?_
  refine cD (fun hlt => ?_) (fun hge => ?_)
  · have hlt : k < n := by omega
    obtain ⟨b, o, cs, a, rfl, ha, -, -, hc, rfl, -⟩ := hl.at_ hlt
    have htk : l.take (k + 1) = l.take k ++ [a] := by rw [List.take_add_one, ha]; rfl
    refine idx k rfl hlt ?_
    refine ld (iv a) (hc 0 _ rfl) ?_
    refine callB c_r40within (fun g => ?_) (fun g => ?_)
    rotate_left
    · have g := of_decide_eq_false g
      refine ret1 (iv 400) rfl ⟨?_, rfl⟩
      rw [bad (by
        rw [Bool.and_eq_false_iff]; left
        rw [Bool.eq_false_iff]
        intro h2
        exact g (of_decide_eq_true (List.all_eq_true.1 h2 a (List.mem_of_getElem? ha))))]
    have g := of_decide_eq_true g
    refine idx k rfl hlt ?_
    refine ld (iv a) (hc 0 _ rfl) ?_
    refine arI (by omega) ?_
    refine arI (by omega) ?_
    refine next (k + 1) ⟨by rw [Int.natCast_add]; rfl, by rw [htk, isum_snoc]; rfl, trivial⟩ ⟨by omega, rfl, fun c hc => ?_⟩ (by omega)
    rw [htk, List.mem_append, List.mem_singleton] at hc
    rcases hc with hc | rfl
    · exact hall c hc
    · exact g
  · rw [List.take_of_length_le (by omega)] at hall ⊢
    have hall' : l.all okC = true := List.all_eq_true.2 fun c hc => decide_eq_true (hall c hc)
    refine callB c_r40within (fun g => ?_) (fun g => ?_)
    · have g := of_decide_eq_true g
      refine ret1 (iv 0) rfl ⟨?_, rfl⟩
      unfold tErr
      rw [if_neg (by omega), hall', Bool.true_and, if_pos (decide_eq_true (show 0 ≤ E ∧ E ≤ l.sum from g))]
    · have g := of_decide_eq_false g
      refine ret1 (iv 400) rfl ⟨?_, rfl⟩
      rw [bad (by rw [hall', Bool.true_and]; exact decide_eq_false g)]
theorem c_r40to {late : Bool} {L : Int} (hl : SlR tInt D w A n l) (hn : n ≤ 664) (hcl : OkL l) (hL : 0 ≤ L ∧ L ≤ 1073741825) : CallZ Try.prog 36 #[.slice A n c, .bool late, iv L] w (fun v w' => v = iv (toV late L l) ∧ w' = w) := by
  have l1 := hl.len
  refine fn_rule (args := [.slice A n c, .bool late, iv L]) Try.func36 (by kernel_rfl) ?_
  refine loop_rule (fun k : Nat => [(8, iv (k : Int)), (7, iv (toN late L l k))]) (fun k u => k ≤ n ∧ w = u) (fun k _ => n - k) 0 ⟨rfl, rfl, trivial⟩ ⟨by omega, rfl⟩ rfl ?_
  rintro G k u ⟨hk, rfl⟩
  have hsb := toN_b (late := late) hL.1 hcl (k := k) (by omega)
  refine len ?_
  refine cD (fun hlt => ?_) (fun hge => ?_)
  · have hlt : k < n := by omega
    obtain ⟨b, o, cs, a, rfl, ha, -, -, hc, rfl, -⟩ := hl.at_ hlt
    have hqb := hcl a (List.mem_of_getElem? ha)
    have hs : toN late L l (k + 1) = toN late L l k + toF late L a := by
      show toN late L l k + toF late L (clA l k) = _
      rw [clA_at ha]
    have fb := toF_b (late := late) hL.1 hqb
    cases late with
    | true =>
      have ef : toF true L a = a / 2 + max 0 (a - a / 2 - L + 1) := rfl
      rw [ef] at hs fb
      refine drawX [0, 1, 2, 3, 4, 5, 6, 7, 8, 9, 10, 11, 12, 13, 14] [] mx (by kernel_rfl) ?_
      refine idx k rfl hlt ?_
      refine ldX (iv a) (hc 0 _ rfl) (.refl _ _) ?_
      refine quoI (by omega) (by omega) (by omega) ?_
      refine arI (by omega) ?_
      refine idx k rfl hlt ?_
      refine ldX (iv a) (hc 0 _ rfl) (.refl _ _) ?_
      refine callQ (v := iv (max 0 (a - a / 2 - L + 1))) (fun u _ => c_r40late hqb (by omega)) ?_
      refine arI (by omega) ?_
      refine arI (by omega) ?_
      refine next (k + 1) ⟨by rw [Int.natCast_add]; rfl, ?_, trivial⟩ ⟨by omega, rfl⟩ (by omega)
      rw [hs, ← Int.add_assoc]; rfl
    | false =>
      have ef : toF false L a = max 0 (min (a / 2) L) := rfl
      rw [ef] at hs fb
      refine idx k rfl hlt ?_
      refine ld (iv a) (hc 0 _ rfl) ?_
      refine call_of (c_r40early hqb) ?_
      rintro _ u2 ⟨rfl, rfl⟩
      refine arI (by omega) ?_
      refine arI (by omega) ?_
      refine next (k + 1) ⟨by rw [Int.natCast_add]; rfl, ?_, trivial⟩ ⟨by omega, rfl⟩ (by omega)
      rw [hs]; rfl
  · refine ret1 (iv (toN late L l k)) rfl ⟨?_, rfl⟩
    unfold toV
    rw [show k = l.length by omega]
end
end Go.Proofs.Ytclmnhijjhnggaa

/- The reference's place, level, Threshold, Award; the law GarmentSpec. -/
namespace Go.Proofs.Ytclmnhijjhnggaa
open Go Go.RowKit

section
variable {D : Nat → Prop} {w : World} {l : List Int} {A : Option Addr} {n c : Nat}
theorem c_r40place {late : Bool} {L : Int} {i : Nat} (hl : SlR tInt D w A n l) (hn : n ≤ 664) (hcl : OkL l) (hi : i < n) (h : (⟨late, L, clA l i, (i : Int)⟩ : Mk).Lit) : CallZ Try.prog 39 #[.slice A n c, .bool late, iv L, iv (i : Int)] w (fun v w' => v = iv (ownS ⟨late, L, clA l i, (i : Int)⟩ l) ∧ w' = w) := by
  have l1 := hl.len
  have hci := clA_b hcl (i := i) (by omega)
  have L1 : 1 ≤ L := h.lo
  have L2 : L ≤ if late = true then clA l i - clA l i / 2 else clA l i / 2 := h.hi
  have L3 : L ≤ 1073741824 := by split at L2 <;> omega
  obtain ⟨bx, ox, csx, ci, rfl, hqi, -, -, hci', rfl, -⟩ := hl.at_ hi
  have eci := clA_at hqi
  rw [place_eq h fun k hk => (clA_b hcl hk).1]
  obtain ⟨m, hm⟩ : ∃ m, m = (⟨late, L, clA l i, (i : Int)⟩ : Mk) := ⟨_, rfl⟩
  rw [← hm]
  have oneB : ∀ k, k ≤ l.length → 0 ≤ sumN (fun i => oneV m (clA l i) i) k ∧ sumN (fun i => oneV m (clA l i) i) k ≤ k * 1 := fun k _ => sumN_b fun j _ => by unfold oneV; split <;> omega
  refine fn_rule (args := [.slice (some (ad bx ox)) n c, .bool late, iv L, iv (i : Int)]) Try.func39 (by kernel_rfl) ?_
  refine arI (by omega) ?_
  refine call_of (c_r40to (late := late) (L := L - 1) hl hn hcl (by omega)) ?_
  rintro _ w1 ⟨rfl, rfl⟩
  cases late with
  | true =>
    refine arI (by omega) ?_
    refine call_of (c_r40to (late := true) (L := L + 1) hl hn hcl (by omega)) ?_
    rintro _ w1 ⟨rfl, rfl⟩
    have lateE : m.late = true := by rw [hm]
    have base : ∃ S, S = toV m.late (befL m) l ∧ 0 ≤ S ∧ S ≤ 664 * 1073741825 := ⟨_, rfl, by
      have := toN_b (late := m.late) (L := befL m) (by rw [hm]; show 0 ≤ L + 1; omega) hcl (Nat.le_refl l.length)
      unfold toV
      omega⟩
    rw [show toV true (L + 1) l = toV m.late (befL m) l by rw [hm]; rfl]
    obtain ⟨S, hS, hS0, hS1⟩ := base
    rw [← hS]
    refine loop_rule (fun k : Nat => [(10, iv (k : Int)), (9, iv (S + sumN (fun i => oneV m (clA l i) i) k))]) (fun k u => k ≤ n ∧ w1 = u) (fun k _ => n - k) 0 ⟨rfl, congrArg (Value.int .i64) (by show S = S + 0; omega), trivial⟩ ⟨by omega, rfl⟩ rfl ?_
    rintro G k u ⟨hk, rfl⟩
    have ob := oneB k (by omega)
    refine len ?_
    refine cD (fun hlt => ?_) (fun hge => ?_)
    · have hlt : k < n := by omega
      obtain ⟨b, o, cs, a, hA, ha, -, -, hc, rfl, -⟩ := hl.at_ hlt
      injection hA with hA
      injection hA with hA hA'
      subst hA; subst hA'
      have hab := hcl a (List.mem_of_getElem? ha)
      have hs : sumN (fun i => oneV m (clA l i) i) (k + 1) = sumN (fun i => oneV m (clA l i) i) k + oneV m a k := by
        show _ + oneV m (clA l k) k = _
        rw [clA_at ha]
      have no : ¬ (L ≤ (if true = true then a - a / 2 else a / 2) ∧ upTo m a k) → oneV m a k = 0 := fun g => if_neg (by rw [lateE, show m.level = L by rw [hm]]; exact g)
      have yes : (L ≤ (if true = true then a - a / 2 else a / 2) ∧ upTo m a k) → oneV m a k = 1 := fun g => if_pos (by rw [lateE, show m.level = L by rw [hm]]; exact g)
      refine drawX [0, 1, 2, 3, 4, 5, 6, 7, 8, 9, 10, 11, 12, 13, 14, 15, 16, 17, 18, 19, 20] [] mx (by kernel_rfl) ?_
      refine idx k rfl hlt ?_
      refine ldX (iv a) (hc 0 _ rfl) (.refl _ _) ?_
      refine callQB (fun u _ => c_r40has (l := true) (L := L) hab) (fun g => ?_) (fun g => ?_)
      · have g := of_decide_eq_true g
        refine idx k rfl hlt ?_
        refine ldX (iv a) (hc 0 _ rfl) (.refl _ _) ?_
        refine idx i rfl hi ?_
        refine ldX (iv ci) (hci' 0 _ rfl) (.refl _ _) ?_
        have ca : ∀ u, CallZ Try.prog 46 #[.bool true, iv a, iv (k : Int), iv ci, iv (i : Int)] u (fun v w' => v = .bool (decide (upTo m a k)) ∧ w' = u) := fun u => by
          have := c_r40ahead (w := u) (m := m) (c := a) (i := (k : Int))
          rw [hm, eci] at this ⊢
          exact this
        refine callQB (fun u _ => ca u) (fun g2 => ?_) (fun g2 => ?_)
        · have g2 := of_decide_eq_true g2
          refine arI (by omega) ?_
          refine arI (by omega) ?_
          refine next (k + 1) ⟨by rw [Int.natCast_add]; rfl, ?_, trivial⟩ ⟨by omega, rfl⟩ (by omega)
          rw [hs, yes ⟨g, g2⟩, ← Int.add_assoc]; rfl
        · have g2 := of_decide_eq_false g2
          refine arI (by omega) ?_
          refine next (k + 1) ⟨by rw [Int.natCast_add]; rfl, ?_, trivial⟩ ⟨by omega, rfl⟩ (by omega)
          rw [hs, no fun h => g2 h.2, Int.add_zero]; rfl
      · have g := of_decide_eq_false g
        refine arI (by omega) ?_
        refine next (k + 1) ⟨by rw [Int.natCast_add]; rfl, ?_, trivial⟩ ⟨by omega, rfl⟩ (by omega)
        rw [hs, no fun h => g h.1, Int.add_zero]; rfl
    · refine ret1 (iv (S + sumN (fun i => oneV m (clA l i) i) k)) rfl ⟨?_, rfl⟩
      rw [show k = l.length by omega]
  | false =>
    have lateE : m.late = false := by rw [hm]
    have base : ∃ S, S = toV m.late (befL m) l ∧ 0 ≤ S ∧ S ≤ 664 * 1073741825 := ⟨_, rfl, by
      have := toN_b (late := m.late) (L := befL m) (by rw [hm]; show 0 ≤ L - 1; omega) hcl (Nat.le_refl l.length)
      unfold toV
      omega⟩
    rw [show toV false (L - 1) l = toV m.late (befL m) l by rw [hm]; rfl]
    obtain ⟨S, hS, hS0, hS1⟩ := base
    rw [← hS]
    refine loop_rule (fun k : Nat => [(10, iv (k : Int)), (9, iv (S + sumN (fun i => oneV m (clA l i) i) k))]) (fun k u => k ≤ n ∧ w1 = u) (fun k _ => n - k) 0 ⟨rfl, congrArg (Value.int .i64) (by show S = S + 0; omega), trivial⟩ ⟨by omega, rfl⟩ rfl ?_
    rintro G k u ⟨hk, rfl⟩
    have ob := oneB k (by omega)
    refine len ?_
    refine cD (fun hlt => ?_) (fun hge => ?_)
    · have hlt : k < n := by omega
      obtain ⟨b, o, cs, a, hA, ha, -, -, hc, rfl, -⟩ := hl.at_ hlt
      injection hA with hA
      injection hA with hA hA'
      subst hA; subst hA'
      have hab := hcl a (List.mem_of_getElem? ha)
      have hs : sumN (fun i => oneV m (clA l i) i) (k + 1) = sumN (fun i => oneV m (clA l i) i) k + oneV m a k := by
        show _ + oneV m (clA l k) k = _
        rw [clA_at ha]
      have no : ¬ (L ≤ (if false = true then a - a / 2 else a / 2) ∧ upTo m a k) → oneV m a k = 0 := fun g => if_neg (by rw [lateE, show m.level = L by rw [hm]]; exact g)
      have yes : (L ≤ (if false = true then a - a / 2 else a / 2) ∧ upTo m a k) → oneV m a k = 1 := fun g => if_pos (by rw [lateE, show m.level = L by rw [hm]]; exact g)
      refine drawX [0, 1, 2, 3, 4, 5, 6, 7, 8, 9, 10, 11, 12, 13, 14, 15, 16, 17, 18, 19, 20] [] mx (by kernel_rfl) ?_
      refine idx k rfl hlt ?_
      refine ldX (iv a) (hc 0 _ rfl) (.refl _ _) ?_
      refine callQB (fun u _ => c_r40has (l := false) (L := L) hab) (fun g => ?_) (fun g => ?_)
      · have g := of_decide_eq_true g
        refine idx k rfl hlt ?_
        refine ldX (iv a) (hc 0 _ rfl) (.refl _ _) ?_
        refine idx i rfl hi ?_
        refine ldX (iv ci) (hci' 0 _ rfl) (.refl _ _) ?_
        have ca : ∀ u, CallZ Try.prog 46 #[.bool false, iv a, iv (k : Int), iv ci, iv (i : Int)] u (fun v w' => v = .bool (decide (upTo m a k)) ∧ w' = u) := fun u => by
          have := c_r40ahead (w := u) (m := m) (c := a) (i := (k : Int))
          rw [hm, eci] at this ⊢
          exact this
        refine callQB (fun u _ => ca u) (fun g2 => ?_) (fun g2 => ?_)
        · have g2 := of_decide_eq_true g2
          refine arI (by omega) ?_
          refine arI (by omega) ?_
          refine next (k + 1) ⟨by rw [Int.natCast_add]; rfl, ?_, trivial⟩ ⟨by omega, rfl⟩ (by omega)
          rw [hs, yes ⟨g, g2⟩, ← Int.add_assoc]; rfl
        · have g2 := of_decide_eq_false g2
          refine arI (by omega) ?_
          refine next (k + 1) ⟨by rw [Int.natCast_add]; rfl, ?_, trivial⟩ ⟨by omega, rfl⟩ (by omega)
          rw [hs, no fun h => g2 h.2, Int.add_zero]; rfl
      · have g := of_decide_eq_false g
        refine arI (by omega) ?_
        refine next (k + 1) ⟨by rw [Int.natCast_add]; rfl, ?_, trivial⟩ ⟨by omega, rfl⟩ (by omega)
        rw [hs, no fun h => g h.1, Int.add_zero]; rfl
    · refine ret1 (iv (S + sumN (fun i => oneV m (clA l i) i) k)) rfl ⟨?_, rfl⟩
      rw [show k = l.length by omega]
theorem c_r40level {m : Mk} {E : Int} (hl : SlR tInt D w A n l) (hn : n ≤ 664) (hcl : OkL l) (h : m.Of l) (hs : ownS m l = E) : CallZ Try.prog 37 #[iv E, .slice A n c, .bool m.late] w (fun v w' => v = iv m.level ∧ w' = w) := by
  have l1 := hl.len
  have hl0 : ∀ k, k < l.length → 0 ≤ clA l k := fun k hk => (clA_b hcl hk).1
  have hci := clA_b hcl h.nat.1
  rw [← h.cl] at hci
  have L1 := h.lit.lo
  have L2 := h.lit.hi
  have L3 : m.level ≤ 1073741824 := by split at L2 <;> omega
  obtain ⟨late, hlate⟩ : ∃ b, b = m.late := ⟨_, rfl⟩
  rw [← hlate]
  refine fn_rule (args := [iv E, .slice A n c, .bool late]) Try.func37 (by kernel_rfl) ?_
  refine loop2 (fun (a b : Int) => [(7, iv a), (8, iv b)]) (fun a b u => w = u ∧ 1 ≤ a ∧ a ≤ m.level ∧ m.level ≤ b ∧ b ≤ 1073741824) (fun a b _ => (b - a).toNat) 1 1073741824 ⟨rfl, rfl, trivial⟩ ⟨rfl, by omega, L1, L3, by omega⟩ rfl ?_
  rintro G a b u ⟨rfl, h1, h2, h3, h4⟩
  refine cD (fun hlt => ?_) (fun hge => ?_)
  · refine arI (by omega) ?_
    refine quoI (by omega) (by omega) (by omega) ?_
    cases late with
    | false =>
      refine call_of (c_r40to (late := false) (L := (a + b) / 2) hl hn hcl (by omega)) ?_
      rintro _ u2 ⟨rfl, rfl⟩
      have le := lev_early h hl0 hs hlate.symm (x := (a + b) / 2) (by omega)
      refine cD (fun g => ?_) (fun g => ?_)
      · have := le.1 g
        exact next2 a ((a + b) / 2) ⟨rfl, rfl, trivial⟩ ⟨rfl, by omega, by omega, by omega, by omega⟩ (by omega)
      · have : ¬ m.level ≤ (a + b) / 2 := fun k => g (le.2 k)
        refine arI (by omega) ?_
        exact next2 ((a + b) / 2 + 1) b ⟨rfl, rfl, trivial⟩ ⟨rfl, by omega, by omega, by omega, by omega⟩ (by omega)
    | true =>
      refine arI (by omega) ?_
      refine arI (by omega) ?_
      refine quoI (by omega) (by omega) (by omega) ?_
      refine call_of (c_r40to (late := true) (L := (a + b + 1) / 2) hl hn hcl (by omega)) ?_
      rintro _ u2 ⟨rfl, rfl⟩
      have le := lev_late h hl0 hs hlate.symm (x := (a + b + 1) / 2) (by omega)
      refine cD (fun g => ?_) (fun g => ?_)
      · have := le.1 g
        exact next2 ((a + b + 1) / 2) b ⟨rfl, rfl, trivial⟩ ⟨rfl, by omega, by omega, by omega, by omega⟩ (by omega)
      · have : ¬ (a + b + 1) / 2 ≤ m.level := fun k => g (le.2 k)
        refine arI (by omega) ?_
        exact next2 a ((a + b + 1) / 2 - 1) ⟨rfl, rfl, trivial⟩ ⟨rfl, by omega, by omega, by omega, by omega⟩ (by omega)
  · exact ret1 (iv a) rfl ⟨by rw [show a = m.level by omega], rfl⟩
end
end Go.Proofs.Ytclmnhijjhnggaa

/- The reference's Threshold and Award; the law GarmentSpec. -/
namespace Go.Proofs.Ytclmnhijjhnggaa
open Go Go.RowKit

section
variable {D : Nat → Prop} {w : World} {l : List Int} {A : Option Addr} {n c : Nat}
set_option maxRecDepth 4000 in
theorem c_r40Thr {E : Int} {m : Mk} (hl : SlR tInt D w A n l) (hm : MarkOf E l m) : CallZ Try.prog 15 #[iv E, .slice A n c] w (fun v w' => v = .tuple #[.agg (encM m).toArray, iv (tErr E l)] ∧ Ext w w') := by
  have l1 := hl.len
  refine fn_rule (args := [iv E, .slice A n c]) Try.func15 (by kernel_rfl) ?_
  refine alloc (fun b w1 h1 => ?_)
  have B : Blk w1 b 29 (encM Mk.none) := h1.blk
  have e1 := h1.at_
  have x1 := h1.ext
  refine call_of (c_r40check (E := E) (hl.ext x1)) ?_
  rintro _ w2 ⟨rfl, rfl⟩
  obtain ⟨e, hee⟩ : ∃ e, e = tErr E l := ⟨_, rfl⟩
  rw [← hee]
  unfold MarkOf at hm
  refine cN (fun g => ?_) (fun gE => ?_)
  · rw [if_neg fun k => g (by rw [hee]; exact k.1)] at hm
    refine bld [.bool false, iv 0, iv 0, iv 0] (by kernel_rfl) ?_
    refine stA (vs := [.bool false, iv 0, iv 0, iv 0]) B rfl (Nat.le_of_ble_eq_true rfl) (by simp [Value.oneCell']) (fun w3 b3 k3 z3 => ?_)
    have B3 : Blk w3 b 29 (encM Mk.none) := b3
    refine ret ?_
    refine resL _ (holds_agg (CellsAt.blk B3) rfl) ?_
    exact ⟨by rw [hm]; rfl, x1.then k3 fun b hb _ e => by omega⟩
  refine cE (fun g2 => ?_) (fun g2 => ?_)
  · rw [if_neg fun k => k.2 g2] at hm
    subst gE
    refine bld [.bool false, iv 0, iv 0, iv 0] (by kernel_rfl) ?_
    refine stA (vs := [.bool false, iv 0, iv 0, iv 0]) B rfl (Nat.le_of_ble_eq_true rfl) (by simp [Value.oneCell']) (fun w3 b3 k3 z3 => ?_)
    have B3 : Blk w3 b 29 (encM Mk.none) := b3
    refine ret ?_
    refine resL _ (holds_agg (CellsAt.blk B3) rfl) ?_
    exact ⟨by rw [hm]; rfl, x1.then k3 fun b hb _ e => by omega⟩
  have he : tErr E l = 0 := by rw [← hee]; exact gE
  rw [if_pos ⟨he, g2⟩] at hm
  obtain ⟨hof, hs⟩ := hm
  obtain ⟨hlen, hcl, -⟩ := tErr_no he
  have hl0 : ∀ k, k < l.length → 0 ≤ clA l k := fun k hk => (clA_b hcl hk).1
  have sl := hl.ext x1
  refine call_of (c_r40to (late := false) (L := 1073741824) sl (by omega) hcl (by omega)) ?_
  rintro _ w3 ⟨rfl, rfl⟩
  have hci := clA_b hcl hof.nat.1
  rw [← hof.cl] at hci
  have L1 := hof.lit.lo
  have L2 := hof.lit.hi
  have L3 : m.level ≤ 1073741824 := by split at L2 <;> omega
  have big : m.late = true ↔ toV false 1073741824 l < E := by
    constructor
    · intro h; exact late_big hof hl0 hs h (by omega)
    · intro h
      cases hb : m.late with
      | true => rfl
      | false =>
        have := (lev_early hof hl0 hs hb (x := 1073741824) (by omega)).2 L3
        omega
  refine cD (fun g3 => ?_) (fun g3 => ?_)
  · have hlate : m.late = true := big.2 g3
    have hL : m.late = true := hlate
    have cl := c_r40level (E := E) (c := c) sl (by omega) hcl hof hs
    rw [hL] at cl
    refine call_of cl ?_
    clear cl
    rintro _ w4 ⟨rfl, rfl⟩
    have nat := hof.nat
    refine loop_rule (fun k : Nat => [(9, iv (k : Int))]) (fun k u => k ≤ m.index.toNat ∧ w4 = u) (fun k _ => n - k) 0 ⟨rfl, trivial⟩ ⟨by omega, rfl⟩ rfl ?_
    rintro G k u ⟨hk, rfl⟩
    refine len ?_
    refine cD (fun hlt => ?_) (fun hge => by omega)
    have hlt : k < n := by omega
    obtain ⟨bx, ox, cs, a, rfl, ha, -, -, hc, rfl, -⟩ := sl.at_ hlt
    have hab := hcl a (List.mem_of_getElem? ha)
    have ea := clA_at ha
    have ne : (k : Int) ≠ m.index → k + 1 ≤ m.index.toNat := fun h => by omega
    refine idx k rfl hlt ?_
    refine ld (iv a) (hc 0 _ rfl) ?_
    refine callB (c_r40has (l := true) (L := m.level) hab) (fun g => ?_) (fun g => ?_)
    · have g := of_decide_eq_true g
      have lit : (⟨true, m.level, clA l k, (k : Int)⟩ : Mk).Lit := ⟨L1, by rw [ea]; exact g, by rw [ea]; exact hab.1⟩
      have of' : (⟨true, m.level, clA l k, (k : Int)⟩ : Mk).Of l := ⟨lit, ⟨by show (0 : Int) ≤ k; omega, by show (k : Int) < _; omega⟩, rfl⟩
      refine call_of (c_r40place (c := c) sl (by omega) hcl hlt lit) ?_
      rintro _ w5 ⟨rfl, rfl⟩
      refine cE (fun g3 => ?_) (fun g3 => ?_)
      · have mm := of'.uniq hof hl0 (by rw [g3, hs])
        refine idx k rfl hlt ?_
        refine ld (iv a) (hc 0 _ rfl) ?_
        refine bld [.bool true, iv m.level, iv a, iv (k : Int)] (by kernel_rfl) ?_
        refine stA (vs := [.bool true, iv m.level, iv a, iv (k : Int)]) B rfl (Nat.le_of_ble_eq_true rfl) (by simp [Value.oneCell']) (fun w6 b6 k6 z6 => ?_)
        have B6 : Blk w6 b 29 [.bool true, iv m.level, iv a, iv (k : Int)] := b6
        refine ret ?_
        refine resL _ (holds_agg (CellsAt.blk B6) rfl) ?_
        refine ⟨?_, x1.then k6 fun b hb _ e => by omega⟩
        rw [← mm, ea, gE]; rfl
      · refine arI (by omega) ?_
        refine next (k + 1) ⟨by rw [Int.natCast_add]; rfl, trivial⟩ ⟨ne fun h => g3 ?_, rfl⟩ (by omega)
        rw [← hs]
        have : (⟨true, m.level, clA l k, (k : Int)⟩ : Mk) = m := by
          refine Mk.ext_j lit hof.lit ?_ h ?_
          · show clA l k = m.claim
            rw [hof.cl, ← h]; rfl
          · show (if true = true then clA l k - m.level + 1 else m.level) = m.j
            unfold Mk.j
            rw [hL, hof.cl, ← h]; rfl
        rw [this]
    · have g := of_decide_eq_false g
      refine arI (by omega) ?_
      refine next (k + 1) ⟨by rw [Int.natCast_add]; rfl, trivial⟩ ⟨ne fun h => g ?_, rfl⟩ (by omega)
      have : a = m.claim := by rw [hof.cl, ← h]; exact ea.symm
      rw [hL] at L2
      rw [this]; exact L2
  · have hlate : m.late = false := by
      cases hb : m.late with
      | true => exact absurd (big.1 hb) g3
      | false => rfl
    have hL : m.late = false := hlate
    have cl := c_r40level (E := E) (c := c) sl (by omega) hcl hof hs
    rw [hL] at cl
    refine call_of cl ?_
    clear cl
    rintro _ w4 ⟨rfl, rfl⟩
    have nat := hof.nat
    refine loop_rule (fun k : Nat => [(9, iv (k : Int))]) (fun k u => k ≤ m.index.toNat ∧ w4 = u) (fun k _ => n - k) 0 ⟨rfl, trivial⟩ ⟨by omega, rfl⟩ rfl ?_
    rintro G k u ⟨hk, rfl⟩
    refine len ?_
    refine cD (fun hlt => ?_) (fun hge => by omega)
    have hlt : k < n := by omega
    obtain ⟨bx, ox, cs, a, rfl, ha, -, -, hc, rfl, -⟩ := sl.at_ hlt
    have hab := hcl a (List.mem_of_getElem? ha)
    have ea := clA_at ha
    have ne : (k : Int) ≠ m.index → k + 1 ≤ m.index.toNat := fun h => by omega
    refine idx k rfl hlt ?_
    refine ld (iv a) (hc 0 _ rfl) ?_
    refine callB (c_r40has (l := false) (L := m.level) hab) (fun g => ?_) (fun g => ?_)
    · have g := of_decide_eq_true g
      have lit : (⟨false, m.level, clA l k, (k : Int)⟩ : Mk).Lit := ⟨L1, by rw [ea]; exact g, by rw [ea]; exact hab.1⟩
      have of' : (⟨false, m.level, clA l k, (k : Int)⟩ : Mk).Of l := ⟨lit, ⟨by show (0 : Int) ≤ k; omega, by show (k : Int) < _; omega⟩, rfl⟩
      refine call_of (c_r40place (c := c) sl (by omega) hcl hlt lit) ?_
      rintro _ w5 ⟨rfl, rfl⟩
      refine cE (fun g3 => ?_) (fun g3 => ?_)
      · have mm := of'.uniq hof hl0 (by rw [g3, hs])
        refine idx k rfl hlt ?_
        refine ld (iv a) (hc 0 _ rfl) ?_
        refine bld [.bool false, iv m.level, iv a, iv (k : Int)] (by kernel_rfl) ?_
        refine stA (vs := [.bool false, iv m.level, iv a, iv (k : Int)]) B rfl (Nat.le_of_ble_eq_true rfl) (by simp [Value.oneCell']) (fun w6 b6 k6 z6 => ?_)
        have B6 : Blk w6 b 29 [.bool false, iv m.level, iv a, iv (k : Int)] := b6
        refine ret ?_
        refine resL _ (holds_agg (CellsAt.blk B6) rfl) ?_
        refine ⟨?_, x1.then k6 fun b hb _ e => by omega⟩
        rw [← mm, ea, gE]; rfl
      · refine arI (by omega) ?_
        refine next (k + 1) ⟨by rw [Int.natCast_add]; rfl, trivial⟩ ⟨ne fun h => g3 ?_, rfl⟩ (by omega)
        rw [← hs]
        have : (⟨false, m.level, clA l k, (k : Int)⟩ : Mk) = m := by
          refine Mk.ext_j lit hof.lit ?_ h ?_
          · show clA l k = m.claim
            rw [hof.cl, ← h]; rfl
          · show (if false = true then clA l k - m.level + 1 else m.level) = m.j
            unfold Mk.j
            rw [hL, hof.cl, ← h]; rfl
        rw [this]
    · have g := of_decide_eq_false g
      refine arI (by omega) ?_
      refine next (k + 1) ⟨by rw [Int.natCast_add]; rfl, trivial⟩ ⟨ne fun h => g ?_, rfl⟩ (by omega)
      have : a = m.claim := by rw [hof.cl, ← h]; exact ea.symm
      rw [hL] at L2
      rw [this]; exact L2
/-- What Award answers. -/
noncomputable def awX (E : Int) (l : List Int) (m : Mk) : List Int := if tErr E l = 0 then awL m l else []
set_option maxRecDepth 4000 in
theorem c_r40Award {E : Int} {m : Mk} (hl : SlR tInt D w A n l) (hm : MarkOf E l m) : CallZ Try.prog 13 #[iv E, .slice A n c] w (fun v w' => ∃ A' n' c', v = .tuple #[.slice A' n' c', iv (tErr E l)] ∧ SlR tInt (fun _ => True) w' A' n' (awX E l m) ∧ Ext w w') := by
  have l1 := hl.len
  refine fn_rule (args := [iv E, .slice A n c]) Try.func13 (by kernel_rfl) ?_
  refine call_of (c_r40Thr hl hm) ?_
  rintro _ w1 ⟨rfl, x1⟩
  obtain ⟨e, hee⟩ : ∃ e, e = tErr E l := ⟨_, rfl⟩
  rw [← hee]
  refine alloc (fun b w2 h2 => ?_)
  refine stA (vs := encM m) h2.blk rfl (Nat.le_of_ble_eq_true rfl) (by simp [Value.oneCell']) (fun w3 B k3 z3 => ?_)
  have B : Blk w3 b 29 (encM m) := B
  have e2 := h2.at_
  have x3 : Ext w w3 := (x1.trans h2.ext).then k3 fun b hb _ e => by have := x1.size; omega
  refine cN (fun g => ?_) (fun g => ?_)
  · exact ret2 (.slice none 0 0) (iv e) rfl rfl ⟨none, 0, 0, rfl, by unfold awX; rw [if_neg (by rw [← hee]; exact g)]; exact .nil, x3⟩
  have he : tErr E l = 0 := by rw [← hee]; exact g
  obtain ⟨hlen, hcl, -⟩ := tErr_no he
  have hvm := hm.vm he
  have aw := hm.awd he
  refine lit (n := 0) [] (fun g0 w4 h4 => ?_)
  have own0 : OwnF w3 w4 (some (ad g0 0)) 0 0 3 1 [] := .lit (.refl _ _) h4 rfl
  refine loop_rule (fun s : Nat × Option Addr × Nat => [(9, iv (s.1 : Int)), (8, .slice s.2.1 s.1 s.2.2)]) (fun s u => s.1 ≤ n ∧ OwnF w3 u s.2.1 s.1 s.2.2 3 1 ((awL m (l.take s.1)).map fun k => .int .i64 k)) (fun s _ => n - s.1) (0, some (ad g0 0), 0) ⟨rfl, rfl, trivial⟩ ⟨by omega, own0⟩ rfl ?_
  rintro G ⟨k, C, cb⟩ u ⟨hk, own⟩
  refine len ?_
  refine cD (fun hlt => ?_) (fun hge => ?_)
  · have hlt : k < n := by omega
    obtain ⟨b', o, cs, a, rfl, ha, -, -, hc, rfl, hi⟩ := (hl.ext x3).at_ hlt
    have hac := hcl a (List.mem_of_getElem? ha)
    refine drawP (.take 0 (.take 1 (.take 2 (.take 3 (.take 4 (.take 5 (.take 6 (.eff 7 (.eff 8 (.eff 9 (.take 10 .done))))))))))) [] (fun z => Ext w3 z) mx (by kernel_rfl) own.ext ?_
    refine ldAX (encM m) (.blk B) rfl (.refl _ _) ?_
    refine idx k rfl hlt ?_
    refine ldX (iv a) (hc 0 _ rfl) (.refl _ _) ?_
    refine call_of (c_r40own (m := m) (c := a) (i := (k : Int)) hvm hac) ?_
    rintro _ u1 ⟨rfl, y1⟩
    refine strS (own.ext.trans y1) ?_
    refine lit [iv (ownV m a k)] (fun g u2 hq => ?_)
    refine strS ((own.ext.trans y1).trans hq.ext) ?_
    refine appF (own.then (y1.trans hq.ext)) (hq.src (sz := 1) rfl) (by omega) (fun A' c' u3 o3 _ _ => ?_)
    refine strS o3.ext ?_
    refine arI (by omega) ?_
    refine next (k + 1, A', c') ⟨by rw [Int.natCast_add]; rfl, rfl, trivial⟩ ⟨by omega, ?_⟩ (by simp only; omega)
    rw [awL_snoc ha, List.map_append]; exact o3
  · have hkn : k = n := by omega
    subst hkn
    rw [List.take_of_length_le (by omega)] at own
    refine ret2 (.slice C k cb) (iv 0) rfl rfl ⟨C, k, cb, by rw [g], ?_, x3.trans own.ext⟩
    unfold awX
    rw [if_pos he]
    exact (own.is (awL_small aw hcl) (by omega)).more (by decide) fun _ _ _ => trivial
theorem c_gAwardX {E : Int} (hl : SlR tInt D w A n l) (hE : I64 E) : CallZ Try.prog 12 #[iv E, .slice A n c] w (fun v w' => ∃ m A' n' c', MarkOf E l m ∧ v = .tuple #[.slice A' n' c', iv (tErr E l)] ∧ SlR tInt (fun _ => True) w' A' n' (awX E l m) ∧ Ext w w') := by
  intro w0 hw
  refine (c_gAward (c := c) hl hE w0 hw).mono ?_
  rintro e w' ⟨v, hv, hR⟩
  refine ⟨v, hv, ?_⟩
  rcases hR with ⟨h, hv2, x⟩ | ⟨he, m, A', n', c', hm, hv2, own, hn⟩
  · exact ⟨Mk.none, none, 0, 0, by unfold MarkOf; rw [if_neg fun k => h k.1], hv2, by unfold awX; rw [if_neg h]; exact .nil, x⟩
  · obtain ⟨hlen, hcl, -⟩ := tErr_no he
    refine ⟨m, A', n', c', hm, by rw [he]; exact hv2, ?_, own.ext⟩
    unfold awX
    rw [if_pos he]
    exact (own.is (awL_small (hm.awd he) hcl) (by omega)).more (by decide) fun _ _ _ => trivial
theorem c_r40Few (_hl : SlR tInt D w A n l) : CallZ Try.prog 11 #[.slice A n c] w (fun v w' => (v = .bool true ∨ v = .bool false) ∧ w' = w) := by
  refine fn_rule (args := [.slice A n c]) Try.func11 (by kernel_rfl) ?_
  refine len ?_
  refine cD (fun _ => ?_) (fun _ => ?_)
  · exact ret1 (.bool true) rfl ⟨.inl rfl, rfl⟩
  refine len ?_
  refine cD (fun _ => ?_) (fun _ => ?_)
  · refine len ?_
    refine cD (fun _ => ?_) (fun _ => ?_)
    · exact ret1 (.bool true) rfl ⟨.inl rfl, rfl⟩
    · exact ret1 (.bool false) rfl ⟨.inr rfl, rfl⟩
  · exact ret1 (.bool false) rfl ⟨.inr rfl, rfl⟩
set_option maxRecDepth 4000 in
theorem c_GarmentSpec {E : Int} (hl : SlR tInt D w A n l) (hE : I64 E) : CallZ Try.prog 3 #[iv E, .slice A n c] w (fun v w' => v = .bool true ∧ Ext w w') := by
  refine fn_rule (args := [iv E, .slice A n c]) Try.func3 (by kernel_rfl) ?_
  refine call_of (c_gsane) ?_
  rintro _ w1 ⟨rfl, x1⟩
  refine call_of (c_r40Few (c := c) (hl.ext x1)) ?_
  rintro _ w2 ⟨rfl | rfl, rfl⟩
  rotate_left
  · exact ret1 (.bool true) rfl ⟨rfl, x1⟩
  obtain ⟨e, hee⟩ : ∃ e, e = tErr E l := ⟨_, rfl⟩
  have k1 := c_gAwardX (c := c) (hl.ext x1) hE
  rw [← hee] at k1
  refine call_of k1 ?_
  rintro _ w3 ⟨m, A3, n3, c3, hm, rfl, s3, x3⟩
  have sl := (hl.ext x1).ext x3
  have k2 := c_r40Award (c := c) sl hm
  rw [← hee] at k2
  refine call_of k2 ?_
  rintro _ w4 ⟨A4, n4, c4, rfl, s4, x4⟩
  have sl := sl.ext x4
  have k3 := c_gThr (c := c) sl hE
  rw [← hee] at k3
  refine call_of k3 ?_
  rintro _ w5 ⟨x5, m', rfl, hm'⟩
  obtain rfl := hm.uniq hm'
  obtain ⟨b1, v1, v2, v3⟩ := m
  refine alloc (fun b6 w6 h6 => ?_)
  refine stA (vs := [.bool b1, iv v1, iv v2, iv v3]) h6.blk rfl (Nat.le_of_ble_eq_true rfl) (by simp [Value.oneCell']) (fun w7 B7 k7 z7 => ?_)
  have B7 : Blk w7 b6 29 [.bool b1, iv v1, iv v2, iv v3] := B7
  have e6 := h6.at_
  have x57 : Ext w5 w7 := h6.ext.then k7 fun b hb _ e => by omega
  have sl := sl.ext (x5.trans x57)
  have k4 := c_r40Thr (c := c) sl hm
  rw [← hee] at k4
  refine call_of k4 ?_
  rintro _ w8 ⟨rfl, x8⟩
  refine alloc (fun b9 w9 h9 => ?_)
  refine stA (vs := [.bool b1, iv v1, iv v2, iv v3]) h9.blk rfl (Nat.le_of_ble_eq_true rfl) (by simp [Value.oneCell']) (fun w10 B10 k10 z10 => ?_)
  have B10 : Blk w10 b9 29 [.bool b1, iv v1, iv v2, iv v3] := B10
  have e9 := h9.at_
  have x810 : Ext w8 w10 := h9.ext.then k10 fun b hb _ e => by omega
  have x710 := x8.trans x810
  have x410 := (x5.trans x57).trans x710
  refine callB (c_r40Same (s3.ext (x4.trans x410)) (s4.ext x410)) (fun _ => ?_) (fun h => ?_)
  rotate_left
  · exact absurd rfl (of_decide_eq_false h)
  refine cE (fun _ => ?_) (fun h => absurd rfl h)
  refine ldA [.bool b1, iv v1, iv v2, iv v3] (.blk (B7.ext x710)) rfl ?_
  refine ldA [.bool b1, iv v1, iv v2, iv v3] (.blk B10) rfl ?_
  refine eqS ((b1 == b1) && ((v1 == v1) && ((v2 == v2) && ((v3 == v3) && true)))) (by kernel_rfl) (fun _ => ?_) (fun h => by simp at h)
  refine cE (fun _ => ?_) (fun h => absurd rfl h)
  exact ret1 (.bool true) rfl ⟨rfl, ((x1.trans x3).trans x4).trans x410⟩
end
end Go.Proofs.Ytclmnhijjhnggaa

/- Closing: what claims that are handed in read as. -/
namespace Go.Proofs.Ytclmnhijjhnggaa
open Go Go.RowKit Go.ChangeShapes Go.WideShapes Go.ChangeAt

theorem own : ownKnob Try.prog.godebug = none := by kernel_rfl
theorem laidOut : laidOutB Try.prog = true := by kernel_rfl
theorem rd_is : Rd Try.prog 22 (tSl tInt) := inferInstance
end Go.Proofs.Ytclmnhijjhnggaa
