/- Parts of the proof: H3 Zm. -/
import Derived.Test.YtclmnhijjhnggaaM5
import Derived.Test.YtclmnhijjhnggaaM4

/- The reference's Own and Pair; the law GarmentOwnSpec. -/
namespace Go.Proofs.Ytclmnhijjhnggaa
open Go Go.RowKit

section
variable {w : World}
theorem c_r40within {n lo hi : Int} : CallZ Try.prog 42 #[iv n, iv lo, iv hi] w (fun v w' => v = .bool (decide (lo ≤ n ∧ n ≤ hi)) ∧ w' = w) := by
  refine fn_rule (args := [iv n, iv lo, iv hi]) Try.func42 (by kernel_rfl) ?_
  refine cD (fun g1 => ?_) (fun g1 => ?_)
  · refine cD (fun g2 => ?_) (fun g2 => ?_)
    · exact ret1 (.bool true) rfl ⟨by rw [decide_eq_true ⟨by omega, by omega⟩], rfl⟩
    · exact ret1 (.bool false) rfl ⟨by rw [decide_eq_false (by omega)], rfl⟩
  · exact ret1 (.bool false) rfl ⟨by rw [decide_eq_false (by omega)], rfl⟩
theorem c_r40has {c L : Int} {l : Bool} (hc : 0 ≤ c ∧ c ≤ 1073741824) : CallZ Try.prog 38 #[iv c, .bool l, iv L] w (fun v w' => v = .bool (decide (L ≤ if l then c - c / 2 else c / 2)) ∧ w' = w) := by
  refine fn_rule (args := [iv c, .bool l, iv L]) Try.func38 (by kernel_rfl) ?_
  cases l with
  | true =>
    refine quoI (by omega) (by omega) (by omega) ?_
    refine arI (by omega) ?_
    refine cD (fun g => ?_) (fun g => ?_)
    · exact ret1 (.bool true) rfl ⟨by rw [decide_eq_true (by rw [if_pos rfl]; exact g)], rfl⟩
    · exact ret1 (.bool false) rfl ⟨by rw [decide_eq_false (by rw [if_pos rfl]; exact g)], rfl⟩
  | false =>
    refine quoI (by omega) (by omega) (by omega) ?_
    refine cD (fun g => ?_) (fun g => ?_)
    · exact ret1 (.bool true) rfl ⟨by rw [decide_eq_true (by rw [if_neg (by simp)]; exact g)], rfl⟩
    · exact ret1 (.bool false) rfl ⟨by rw [decide_eq_false (by rw [if_neg (by simp)]; exact g)], rfl⟩
theorem c_r40ahead {m : Mk} {c i : Int} : CallZ Try.prog 46 #[.bool m.late, iv c, iv i, iv m.claim, iv m.index] w (fun v w' => v = .bool (decide (upTo m c i)) ∧ w' = w) := by
  obtain ⟨l, L, c0, i0⟩ := m
  refine fn_rule (args := [.bool l, iv c, iv i, iv c0, iv i0]) Try.func46 (by kernel_rfl) ?_
  cases l with
  | true =>
    refine cD (fun g => ?_) (fun g => ?_)
    · exact ret1 (.bool true) rfl ⟨(decide_eq_true (show upTo ⟨true, L, c0, i0⟩ c i from (show c < c0 ∨ (c = c0 ∧ i0 ≤ i) by omega))).symm ▸ rfl, rfl⟩
    refine cE (fun e => ?_) (fun e => ?_)
    · refine cD (fun g2 => ?_) (fun g2 => ?_)
      · exact ret1 (.bool true) rfl ⟨(decide_eq_true (show upTo ⟨true, L, c0, i0⟩ c i from (show c < c0 ∨ (c = c0 ∧ i0 ≤ i) by omega))).symm ▸ rfl, rfl⟩
      · exact ret1 (.bool false) rfl ⟨(decide_eq_false (show ¬ upTo ⟨true, L, c0, i0⟩ c i from (show ¬ (c < c0 ∨ (c = c0 ∧ i0 ≤ i)) by omega))).symm ▸ rfl, rfl⟩
    · exact ret1 (.bool false) rfl ⟨(decide_eq_false (show ¬ upTo ⟨true, L, c0, i0⟩ c i from (show ¬ (c < c0 ∨ (c = c0 ∧ i0 ≤ i)) by omega))).symm ▸ rfl, rfl⟩
  | false =>
    refine cD (fun g => ?_) (fun g => ?_)
    · exact ret1 (.bool true) rfl ⟨(decide_eq_true (show upTo ⟨false, L, c0, i0⟩ c i from (show c0 < c ∨ (c = c0 ∧ i ≤ i0) by omega))).symm ▸ rfl, rfl⟩
    refine cE (fun e => ?_) (fun e => ?_)
    · refine cD (fun g2 => ?_) (fun g2 => ?_)
      · exact ret1 (.bool true) rfl ⟨(decide_eq_true (show upTo ⟨false, L, c0, i0⟩ c i from (show c0 < c ∨ (c = c0 ∧ i ≤ i0) by omega))).symm ▸ rfl, rfl⟩
      · exact ret1 (.bool false) rfl ⟨(decide_eq_false (show ¬ upTo ⟨false, L, c0, i0⟩ c i from (show ¬ (c0 < c ∨ (c = c0 ∧ i ≤ i0)) by omega))).symm ▸ rfl, rfl⟩
    · exact ret1 (.bool false) rfl ⟨(decide_eq_false (show ¬ upTo ⟨false, L, c0, i0⟩ c i from (show ¬ (c0 < c ∨ (c = c0 ∧ i ≤ i0)) by omega))).symm ▸ rfl, rfl⟩
theorem c_r40early {c L : Int} (hc : 0 ≤ c ∧ c ≤ 1073741824) : CallZ Try.prog 44 #[iv c, iv L] w (fun v w' => v = iv (max 0 (min (c / 2) L)) ∧ w' = w) := by
  refine fn_rule (args := [iv c, iv L]) Try.func44 (by kernel_rfl) ?_
  refine quoI (by omega) (by omega) (by omega) ?_
  exact ret1 (iv (max 0 (min (c / 2) L))) rfl ⟨rfl, rfl⟩
theorem c_r40late {c L : Int} (hc : 0 ≤ c ∧ c ≤ 1073741824) (hL : -1 ≤ L ∧ L ≤ 2147483648) : CallZ Try.prog 45 #[iv c, iv L] w (fun v w' => v = iv (max 0 (c - c / 2 - L + 1)) ∧ w' = w) := by
  refine fn_rule (args := [iv c, iv L]) Try.func45 (by kernel_rfl) ?_
  refine quoI (by omega) (by omega) (by omega) ?_
  refine arI (by omega) ?_
  refine arI (by omega) ?_
  refine arI (by omega) ?_
  exact ret1 (iv (max 0 (c - c / 2 - L + 1))) rfl ⟨rfl, rfl⟩
theorem c_r40own {m : Mk} {c i : Int} (hm : VM m) (hc : 0 ≤ c ∧ c ≤ 1073741824) : CallZ Try.prog 23 #[.agg (encM m).toArray, iv i, iv c] w (fun v w' => v = iv (ownV m c i) ∧ Ext w w') := by
  obtain ⟨l, L, c0, i0⟩ := m
  have hb : 0 ≤ L ∧ L ≤ 1073741824 := hm.b
  refine fn_rule (args := [.agg #[.bool l, iv L, iv c0, iv i0], iv i, iv c]) Try.func23 (by kernel_rfl) ?_
  refine box (fun b w1 h1 => ?_)
  have B : Blk w1 b 29 [.bool l, iv L, iv c0, iv i0] := h1.blk
  refine ldA [.bool l, iv L, iv c0, iv i0] (.blk B) rfl ?_
  refine bld [.bool false, iv 0, iv 0, iv 0] (by kernel_rfl) ?_
  refine eqS ((l == false) && ((L == 0) && ((c0 == 0) && ((i0 == 0) && true)))) (by kernel_rfl) (fun q => ?_) (fun q => ?_)
  · rw [show ((l == false) && ((L == 0) && ((c0 == 0) && ((i0 == 0) && true)))) = decide ((⟨l, L, c0, i0⟩ : Mk) = Mk.none) from @ne_none ⟨l, L, c0, i0⟩, decide_eq_true_eq] at q
    exact ret1 (iv 0) rfl ⟨by unfold ownV; rw [if_pos q], h1.ext⟩
  rw [show ((l == false) && ((L == 0) && ((c0 == 0) && ((i0 == 0) && true)))) = decide ((⟨l, L, c0, i0⟩ : Mk) = Mk.none) from @ne_none ⟨l, L, c0, i0⟩, decide_eq_false_iff_not] at q
  have hlit : (⟨l, L, c0, i0⟩ : Mk).Lit := by
    rcases hm with h | h
    · exact absurd h q
    · exact h.1
  have hL1 : 1 ≤ L := hlit.lo
  refine fldA ?_
  refine ld (iv L) (B.cell rfl) ?_
  refine arI (by omega) ?_
  refine call_of (c_r40early (L := L - 1) hc) ?_
  rintro _ w2 ⟨rfl, rfl⟩
  have B : Blk w2 b 29 [.bool l, iv L, iv c0, iv i0] := B
  have x1 := h1.ext
  cases l with
  | false =>
    refine fldA ?_
    refine ld (.bool false) (B.cell rfl) ?_
    refine fldA ?_
    refine ld (.bool false) (B.cell rfl) ?_
    refine fldA ?_
    refine ld (iv L) (B.cell rfl) ?_
    refine callB (c_r40has (l := false) hc) (fun g => ?_) (fun g => ?_)
    · have g := of_decide_eq_true g
      rw [if_neg (by simp)] at g
      refine fldA ?_
      refine ld (.bool false) (B.cell rfl) ?_
      refine fldA ?_
      refine ld (iv c0) (B.cell rfl) ?_
      refine fldA ?_
      refine ld (iv i0) (B.cell rfl) ?_
      refine callB (c_r40ahead (m := ⟨false, L, c0, i0⟩)) (fun k => ?_) (fun k => ?_)
      · have k := of_decide_eq_true k
        refine arI (by omega) ?_
        refine ret1 (iv (max 0 (min (c / 2) (L - 1)) + 1)) rfl ⟨?_, x1⟩
        rw [own_ee hlit k, show max 0 (min (c / 2) (L - 1)) + 1 = min (c / 2) L by omega]
      · have k := of_decide_eq_false k
        refine ret1 (iv (max 0 (min (c / 2) (L - 1)))) rfl ⟨?_, x1⟩
        rw [own_en hlit k, show max 0 (min (c / 2) (L - 1)) = min (c / 2) (L - 1) by omega]
    · have g := of_decide_eq_false g
      rw [if_neg (by simp)] at g
      refine ret1 (iv (max 0 (min (c / 2) (L - 1)))) rfl ⟨?_, x1⟩
      by_cases k : c0 < c ∨ (c = c0 ∧ i ≤ i0)
      · rw [own_ee hlit k, show max 0 (min (c / 2) (L - 1)) = min (c / 2) L by omega]
      · rw [own_en hlit k, show max 0 (min (c / 2) (L - 1)) = min (c / 2) (L - 1) by omega]
  | true =>
    refine fldA ?_
    refine ld (.bool true) (B.cell rfl) ?_
    refine quoI (by omega) (by omega) (by omega) ?_
    refine fldA ?_
    refine ld (iv L) (B.cell rfl) ?_
    refine arI (by omega) ?_
    refine call_of (c_r40late (L := L + 1) hc (by omega)) ?_
    rintro _ w3 ⟨rfl, rfl⟩
    have B : Blk w3 b 29 [.bool true, iv L, iv c0, iv i0] := B
    refine arI (by omega) ?_
    refine fldA ?_
    refine ld (.bool true) (B.cell rfl) ?_
    refine fldA ?_
    refine ld (iv L) (B.cell rfl) ?_
    refine callB (c_r40has (l := true) hc) (fun g => ?_) (fun g => ?_)
    · have g := of_decide_eq_true g
      rw [if_pos rfl] at g
      refine fldA ?_
      refine ld (.bool true) (B.cell rfl) ?_
      refine fldA ?_
      refine ld (iv c0) (B.cell rfl) ?_
      refine fldA ?_
      refine ld (iv i0) (B.cell rfl) ?_
      refine callB (c_r40ahead (m := ⟨true, L, c0, i0⟩)) (fun k => ?_) (fun k => ?_)
      · have k := of_decide_eq_true k
        refine arI (by omega) ?_
        refine ret1 (iv (c / 2 + max 0 (c - c / 2 - (L + 1) + 1) + 1)) rfl ⟨?_, x1⟩
        rw [own_le hlit k, show c / 2 + max 0 (c - c / 2 - (L + 1) + 1) + 1 = c - min (c - c / 2) (L - 1) by omega]
      · have k := of_decide_eq_false k
        refine ret1 (iv (c / 2 + max 0 (c - c / 2 - (L + 1) + 1))) rfl ⟨?_, x1⟩
        rw [own_ln hlit k, show c / 2 + max 0 (c - c / 2 - (L + 1) + 1) = c - min (c - c / 2) L by omega]
    · have g := of_decide_eq_false g
      rw [if_pos rfl] at g
      refine ret1 (iv (c / 2 + max 0 (c - c / 2 - (L + 1) + 1))) rfl ⟨?_, x1⟩
      by_cases k : c < c0 ∨ (c = c0 ∧ i0 ≤ i)
      · rw [own_le hlit k, show c / 2 + max 0 (c - c / 2 - (L + 1) + 1) = c - min (c - c / 2) (L - 1) by omega]
      · rw [own_ln hlit k, show c / 2 + max 0 (c - c / 2 - (L + 1) + 1) = c - min (c - c / 2) L by omega]
theorem c_r40Valid {m : Mk} : CallZ Try.prog 41 #[.agg (encM m).toArray] w (fun v w' => v = .bool (validB m) ∧ Ext w w') := by
  have key : ∀ {b : Bool}, (b = true ↔ VM m) → b = validB m := fun {b} h => by
    unfold validB
    cases b with
    | true => exact (decide_eq_true (h.1 rfl)).symm
    | false => exact (decide_eq_false fun k => by cases h.2 k).symm
  obtain ⟨l, L, c0, i0⟩ := m
  refine fn_rule (args := [.agg #[.bool l, iv L, iv c0, iv i0]]) Try.func41 (by kernel_rfl) ?_
  refine box (fun b1 w1 h1 => ?_)
  have B : Blk w1 b1 29 [.bool l, iv L, iv c0, iv i0] := h1.blk
  refine ldA [.bool l, iv L, iv c0, iv i0] (.blk B) rfl ?_
  refine bld [.bool false, iv 0, iv 0, iv 0] (by kernel_rfl) ?_
  refine eqS ((l == false) && ((L == 0) && ((c0 == 0) && ((i0 == 0) && true)))) (by kernel_rfl) (fun q => ?_) (fun q => ?_)
  · rw [show ((l == false) && ((L == 0) && ((c0 == 0) && ((i0 == 0) && true)))) = decide ((⟨l, L, c0, i0⟩ : Mk) = Mk.none) from @ne_none ⟨l, L, c0, i0⟩, decide_eq_true_eq] at q
    exact ret1 (.bool true) rfl ⟨by rw [← key (b := true) ⟨fun _ => .inl q, fun _ => rfl⟩], h1.ext⟩
  rw [show ((l == false) && ((L == 0) && ((c0 == 0) && ((i0 == 0) && true)))) = decide ((⟨l, L, c0, i0⟩ : Mk) = Mk.none) from @ne_none ⟨l, L, c0, i0⟩, decide_eq_false_iff_not] at q
  have fal : ¬ ((⟨l, L, c0, i0⟩ : Mk).Lit ∧ c0 ≤ 1073741824 ∧ 0 ≤ i0 ∧ i0 < 664) → false = validB ⟨l, L, c0, i0⟩ := fun h => key ⟨fun h => (by cases h), fun k => (k.elim q h).elim⟩
  have tru : ((⟨l, L, c0, i0⟩ : Mk).Lit ∧ c0 ≤ 1073741824 ∧ 0 ≤ i0 ∧ i0 < 664) → true = validB ⟨l, L, c0, i0⟩ := fun h => key ⟨fun _ => .inr h, fun _ => rfl⟩
  have lhi : (⟨l, L, c0, i0⟩ : Mk).Lit → 1 ≤ L ∧ 0 ≤ c0 ∧ L ≤ c0 := fun h => by
    have h1 : 1 ≤ L := h.lo
    have h2 : L ≤ if l = true then c0 - c0 / 2 else c0 / 2 := h.hi
    have h3 : 0 ≤ c0 := h.c0
    split at h2 <;> omega
  refine fldA ?_
  refine ld (iv c0) (B.cell rfl) ?_
  refine callB c_r40within (fun g1 => ?_) (fun g1 => ?_)
  rotate_left
  · have g1 := of_decide_eq_false g1
    exact ret1 (.bool false) rfl ⟨by rw [← fal fun h => by have := lhi h.1; omega], h1.ext⟩
  have g1 := of_decide_eq_true g1
  refine fldA ?_
  refine ld (iv i0) (B.cell rfl) ?_
  refine callB c_r40within (fun g2 => ?_) (fun g2 => ?_)
  rotate_left
  · have g2 := of_decide_eq_false g2
    exact ret1 (.bool false) rfl ⟨by rw [← fal fun h => by omega], h1.ext⟩
  have g2 := of_decide_eq_true g2
  refine fldA ?_
  refine ld (iv L) (B.cell rfl) ?_
  refine fldA ?_
  refine ld (iv c0) (B.cell rfl) ?_
  refine callB c_r40within (fun g3 => ?_) (fun g3 => ?_)
  rotate_left
  · have g3 := of_decide_eq_false g3
    exact ret1 (.bool false) rfl ⟨by rw [← fal fun h => by have := lhi h.1; omega], h1.ext⟩
  have g3 := of_decide_eq_true g3
  refine fldA ?_
  refine ld (iv c0) (B.cell rfl) ?_
  refine fldA ?_
  refine ld (.bool l) (B.cell rfl) ?_
  refine fldA ?_
  refine ld (iv L) (B.cell rfl) ?_
  refine callB (c_r40has (l := l) (by omega)) (fun g4 => ?_) (fun g4 => ?_)
  · have g4 := of_decide_eq_true g4
    exact ret1 (.bool true) rfl ⟨by rw [← tru ⟨⟨by show 1 ≤ L; omega, g4, by show 0 ≤ c0; omega⟩, by omega, by omega, by omega⟩], h1.ext⟩
  · have g4 := of_decide_eq_false g4
    exact ret1 (.bool false) rfl ⟨by rw [← fal fun h => g4 h.1.hi], h1.ext⟩
theorem c_r40Own {m : Mk} {i c : Int} : CallZ Try.prog 18 #[.agg (encM m).toArray, iv i, iv c] w (fun v w' => v = .tuple #[iv (if ownE m i c = 0 then ownV m c i else 0), iv (ownE m i c)] ∧ Ext w w') := by
  have bad : VM m → ¬ (0 ≤ i ∧ i < 664 ∧ 0 ≤ c ∧ c ≤ 1073741824) → ownE m i c = 1 := fun h k => by unfold ownE; rw [if_pos h, if_neg k]
  refine fn_rule (args := [.agg (encM m).toArray, iv i, iv c]) Try.func18 (by kernel_rfl) ?_
  refine box (fun b w1 h1 => ?_)
  have B : Blk w1 b 29 (encM m) := h1.blk
  refine ldA (encM m) (.blk B) rfl ?_
  refine callE (c_r40Valid (m := m)) (fun w2 q x2 => ?_) (fun w2 q x2 => ?_)
  · have hv : VM m := of_decide_eq_true q
    have x12 := h1.ext.trans x2
    refine callB c_r40within (fun g1 => ?_) (fun g1 => ?_)
    rotate_left
    · have g1 := of_decide_eq_false g1
      exact ret2 (iv 0) (iv 1) rfl rfl ⟨by rw [bad hv (by omega)]; rfl, x12⟩
    refine callB c_r40within (fun g2 => ?_) (fun g2 => ?_)
    rotate_left
    · have g2 := of_decide_eq_false g2
      exact ret2 (iv 0) (iv 1) rfl rfl ⟨by rw [bad hv (by omega)]; rfl, x12⟩
    have g1 := of_decide_eq_true g1
    have g2 := of_decide_eq_true g2
    refine ldA (encM m) (.blk (B.ext x2)) rfl ?_
    refine call_of (c_r40own (m := m) (c := c) (i := i) hv g2) ?_
    rintro _ w3 ⟨rfl, x3⟩
    have e : ownE m i c = 0 := by unfold ownE; rw [if_pos hv, if_pos ⟨by omega, by omega, by omega, by omega⟩]
    exact ret2 (iv (ownV m c i)) (iv 0) rfl rfl ⟨by rw [e]; rfl, x12.trans x3⟩
  · have hv : ¬ VM m := of_decide_eq_false q
    have e : ownE m i c = 400 := by unfold ownE; rw [if_neg hv]
    exact ret2 (iv 0) (iv 400) rfl rfl ⟨by rw [e]; rfl, h1.ext.trans x2⟩
theorem c_r40Pair {E c d : Int} : CallZ Try.prog 20 #[iv E, iv c, iv d] w (fun v w' => v = .tuple #[.agg #[iv (pairV E c d).1, iv (pairV E c d).2.1], iv (pairV E c d).2.2] ∧ Ext w w') := by
  refine fn_rule (args := [iv E, iv c, iv d]) Try.func20 (by kernel_rfl) ?_
  refine alloc (fun b w1 h1 => ?_)
  have B : Blk w1 b 37 [iv 0, iv 0] := h1.blk
  have e1 := h1.at_
  have bad : ¬ (0 ≤ c ∧ c ≤ 1073741824 ∧ 0 ≤ d ∧ d ≤ 1073741824 ∧ 0 ≤ E ∧ E ≤ c + d) → pairV E c d = (0, 0, 400) := fun h => by unfold pairV; rw [if_neg h]
  refine callB c_r40within (fun g1 => ?_) (fun g => ?_)
  rotate_left
  · have g := of_decide_eq_false g
    have e := bad (by omega)
    rw [e]
    refine bld [iv 0, iv 0] (by kernel_rfl) ?_
    refine stA (vs := [iv 0, iv 0]) B rfl (Nat.le_of_ble_eq_true rfl) (by simp [Value.oneCell']) (fun w2 B2 k2 z2 => ?_)
    have B2 : Blk w2 b 37 [iv 0, iv 0] := B2
    refine ret ?_
    refine resL _ (holds_agg (CellsAt.blk B2) rfl) ?_
    exact ⟨rfl, h1.ext.then k2 fun b hb _ e => by omega⟩
  refine callB c_r40within (fun g2 => ?_) (fun g => ?_)
  rotate_left
  · have g := of_decide_eq_false g
    have e := bad (by omega)
    rw [e]
    refine bld [iv 0, iv 0] (by kernel_rfl) ?_
    refine stA (vs := [iv 0, iv 0]) B rfl (Nat.le_of_ble_eq_true rfl) (by simp [Value.oneCell']) (fun w2 B2 k2 z2 => ?_)
    have B2 : Blk w2 b 37 [iv 0, iv 0] := B2
    refine ret ?_
    refine resL _ (holds_agg (CellsAt.blk B2) rfl) ?_
    exact ⟨rfl, h1.ext.then k2 fun b hb _ e => by omega⟩
  have g1 := of_decide_eq_true g1
  have g2 := of_decide_eq_true g2
  refine arI (by omega) ?_
  refine callB c_r40within (fun g3 => ?_) (fun g => ?_)
  rotate_left
  · have g := of_decide_eq_false g
    have e := bad (by omega)
    rw [e]
    refine bld [iv 0, iv 0] (by kernel_rfl) ?_
    refine stA (vs := [iv 0, iv 0]) B rfl (Nat.le_of_ble_eq_true rfl) (by simp [Value.oneCell']) (fun w2 B2 k2 z2 => ?_)
    have B2 : Blk w2 b 37 [iv 0, iv 0] := B2
    refine ret ?_
    refine resL _ (holds_agg (CellsAt.blk B2) rfl) ?_
    exact ⟨rfl, h1.ext.then k2 fun b hb _ e => by omega⟩
  have g3 := of_decide_eq_true g3
  have e : pairV E c d = (max 0 (E - d) + (E - max 0 (E - d) - max 0 (E - c)) / 2, max 0 (E - d) + (E - max 0 (E - d) - max 0 (E - c)) - (E - max 0 (E - d) - max 0 (E - c)) / 2, 0) := by unfold pairV; rw [if_pos (by omega)]
  rw [e]
  have e2 : max 0 (E - d) + (E - max 0 (E - d) - max 0 (E - c)) - (E - max 0 (E - d) - max 0 (E - c)) / 2 = max 0 (E - d) + (E - max 0 (E - d) - max 0 (E - c) + 1) / 2 := by omega
  rw [e2]
  refine arI (by omega) ?_
  refine arI (by omega) ?_
  refine arI (by omega) ?_
  refine arI (by omega) ?_
  refine quoI (by omega) (by omega) (by omega) ?_
  refine arI (by omega) ?_
  refine arI (by omega) ?_
  refine quoI (by omega) (by omega) (by omega) ?_
  refine arI (by omega) ?_
  refine bld [iv (max 0 (E - d) + (E - max 0 (E - d) - max 0 (E - c)) / 2), iv (max 0 (E - d) + (E - max 0 (E - d) - max 0 (E - c) + 1) / 2)] (by kernel_rfl) ?_
  refine stA (vs := [iv (max 0 (E - d) + (E - max 0 (E - d) - max 0 (E - c)) / 2), iv (max 0 (E - d) + (E - max 0 (E - d) - max 0 (E - c) + 1) / 2)]) B rfl (Nat.le_of_ble_eq_true rfl) (by simp [Value.oneCell']) (fun w2 B2 k2 z2 => ?_)
  have B2 : Blk w2 b 37 [iv (max 0 (E - d) + (E - max 0 (E - d) - max 0 (E - c)) / 2), iv (max 0 (E - d) + (E - max 0 (E - d) - max 0 (E - c) + 1) / 2)] := B2
  refine ret ?_
  refine resL _ (holds_agg (CellsAt.blk B2) rfl) ?_
  exact ⟨rfl, h1.ext.then k2 fun b hb _ e => by omega⟩
theorem c_GarmentOwnSpec {m : Mk} {i c E o : Int} : CallZ Try.prog 4 #[.agg (encM m).toArray, iv i, iv c, iv E, iv o] w (fun v w' => v = .bool true ∧ Ext w w') := by
  refine fn_rule (args := [.agg (encM m).toArray, iv i, iv c, iv E, iv o]) Try.func4 (by kernel_rfl) ?_
  refine box (fun b w1 h1 => ?_)
  have B : Blk w1 b 29 (encM m) := h1.blk
  refine call_of (c_gsane) ?_
  rintro _ w2 ⟨rfl, x2⟩
  obtain ⟨n, hn⟩ : ∃ n, n = if ownE m i c = 0 then ownV m c i else 0 := ⟨_, rfl⟩
  obtain ⟨e, he⟩ : ∃ e, e = ownE m i c := ⟨_, rfl⟩
  obtain ⟨lo, hlo⟩ : ∃ lo, lo = (pairV E c o).1 := ⟨_, rfl⟩
  obtain ⟨hi, hhi⟩ : ∃ hi, hi = (pairV E c o).2.1 := ⟨_, rfl⟩
  obtain ⟨f, hf⟩ : ∃ f, f = (pairV E c o).2.2 := ⟨_, rfl⟩
  have k1 := fun w => c_gOwn (w := w) (m := m) (i := i) (c := c)
  have k2 := fun w => c_r40Own (w := w) (m := m) (i := i) (c := c)
  have k3 := fun w => c_gPair (w := w) (E := E) (c := c) (d := o)
  have k4 := fun w => c_r40Pair (w := w) (E := E) (c := c) (d := o)
  rw [← hn, ← he] at k1 k2
  rw [← hlo, ← hhi, ← hf] at k3 k4
  refine ldA (encM m) (.blk (B.ext x2)) rfl ?_
  refine call_of (k1 _) ?_
  rintro _ w3 ⟨rfl, x3⟩
  refine ldA (encM m) (.blk ((B.ext x2).ext x3)) rfl ?_
  refine call_of (k2 _) ?_
  rintro _ w4 ⟨rfl, x4⟩
  refine call_of (k3 _) ?_
  rintro _ w5 ⟨rfl, x5⟩
  refine alloc (fun b6 w6 h6 => ?_)
  refine stA (vs := [iv lo, iv hi]) h6.blk rfl (Nat.le_of_ble_eq_true rfl) (by simp [Value.oneCell']) (fun w7 B7 k7 z7 => ?_)
  have B7 : Blk w7 b6 37 [iv lo, iv hi] := B7
  have e6 := h6.at_
  have x57 : Ext w5 w7 := h6.ext.then k7 fun b hb _ e => by omega
  refine call_of (k4 _) ?_
  rintro _ w8 ⟨rfl, x8⟩
  refine alloc (fun b9 w9 h9 => ?_)
  refine stA (vs := [iv lo, iv hi]) h9.blk rfl (Nat.le_of_ble_eq_true rfl) (by simp [Value.oneCell']) (fun w10 B10 k10 z10 => ?_)
  have B10 : Blk w10 b9 37 [iv lo, iv hi] := B10
  have e9 := h9.at_
  have x810 : Ext w8 w10 := h9.ext.then k10 fun b hb _ e => by omega
  have x710 := x8.trans x810
  refine cE (fun _ => ?_) (fun h => absurd rfl h)
  refine cE (fun _ => ?_) (fun h => absurd rfl h)
  refine ldA [iv lo, iv hi] (.blk (B7.ext x710)) rfl ?_
  refine ldA [iv lo, iv hi] (.blk B10) rfl ?_
  refine eqS ((lo == lo) && ((hi == hi) && true)) (by kernel_rfl) (fun _ => ?_) (fun h => by simp at h)
  refine cE (fun _ => ?_) (fun h => absurd rfl h)
  exact ret1 (.bool true) rfl ⟨rfl, (h1.ext.trans (x2.trans (x3.trans (x4.trans x5)))).trans (x57.trans x710)⟩
end
end Go.Proofs.Ytclmnhijjhnggaa

/- Closing: what a mark that is handed in reads as. -/
namespace Go.Proofs.Ytclmnhijjhnggaa
open Go Go.RowKit Go.ChangeShapes Go.WideShapes Go.ChangeAt

def tMk : Ty Mk := tFl 4 encM fun _ => rfl
theorem rdAt' {α : Type} (P : Program) (t : TypeId) (a : Ty α) [h : Rd P t a] (n : Nat) : RdN P n t a := h.h n
theorem rdOf {P : Program} {α β : Type} {a : Ty α} {b : Ty β} {t : TypeId} (f : α → β) (h : Rd P t a) (hf : ∀ W cs y, a.rep AnyB W cs y → b.rep AnyB W cs (f y)) : Rd P t b := ⟨fun n => ⟨fun {H enc W cs x} hx hw => by
  obtain ⟨y, hy⟩ := (h.h n).h hx hw
  exact ⟨f y, hf W cs y hy⟩⟩⟩
theorem rd_mark : Rd Try.prog 29 tMk := by
  refine rdOf (fun y : Bool × Int × Int × Int => (⟨y.1, y.2.1, y.2.2.1, y.2.2.2⟩ : Mk))
    (Rd.struct Try.underlying29 (by kernel_rfl) fun n => .cons (rdAt' Try.prog 4 tBool n) rfl (.cons (rdAt' Try.prog 3 tInt n) rfl (.cons (rdAt' Try.prog 3 tInt n) rfl (.one (rdAt' Try.prog 3 tInt n) rfl)))) ?_
  rintro W cs ⟨a, b, c, d⟩ ⟨_, _, rfl, rfl, _, _, rfl, ⟨rfl, -⟩, _, _, rfl, ⟨rfl, -⟩, ⟨rfl, -⟩⟩
  rfl
end Go.Proofs.Ytclmnhijjhnggaa
