/- What the functions of probe compute, in plain Lean: part 4, masks. -/
import Derived.Test.YtpmmhcgghldaaaaDoorPo
namespace Go.Proofs.YtpmmhcgghldaaaaDoor

/-! ### sums of bits -/
theorem bits_lt : ∀ {L : List Nat} {n : Nat}, L.Pairwise (· < ·) → (∀ i ∈ L, i < n) → bitsL L < 2 ^ n := by
  intro L n
  induction n generalizing L with
  | zero => intro _ h; cases L with
    | nil => decide
    | cons i r => have := h i List.mem_cons_self; omega
  | succ n ih =>
    intro hp h
    rcases List.eq_nil_or_concat L with rfl | ⟨L', x, rfl⟩
    · rw [bitsL_nil]; exact Nat.two_pow_pos _
    · rw [List.concat_eq_append] at hp h ⊢
      obtain ⟨h1, _, h2⟩ := List.pairwise_append.1 hp
      have hx := h x (List.mem_append_right _ List.mem_cons_self)
      rw [bitsL_app, bitsL_cons, bitsL_nil]
      have := ih h1 (fun i hi => by have := h2 i hi x List.mem_cons_self; omega)
      have hxp : 2 ^ x ≤ 2 ^ n := Nat.pow_le_pow_right (by omega) (by omega)
      rw [Nat.pow_succ]; omega
theorem bits_testBit : ∀ {L : List Nat}, L.Pairwise (· < ·) → ∀ i, (bitsL L).testBit i = L.contains i := by
  intro L hp i
  rcases List.eq_nil_or_concat L with rfl | ⟨L', x, rfl⟩
  · simp [bitsL_nil]
  · rw [List.concat_eq_append] at hp ⊢
    obtain ⟨h1, _, h2⟩ := List.pairwise_append.1 hp
    have hlt : bitsL L' < 2 ^ x := bits_lt h1 fun j hj => h2 j hj x List.mem_cons_self
    have ih := bits_testBit h1 i
    rw [bitsL_app, bitsL_cons, bitsL_nil, Nat.add_zero, Nat.add_comm]
    by_cases hix : i < x
    · rw [Nat.testBit_two_pow_add_gt hix, ih]
      have : (i == x) = false := beq_eq_false_iff_ne.2 (by omega)
      simp; omega
    · by_cases he : i = x
      · subst he
        rw [Nat.testBit_two_pow_add_eq, Nat.testBit_lt_two_pow hlt]
        simp
      · have hbig : 2 ^ x + bitsL L' < 2 ^ i := by
          have : 2 ^ (x + 1) ≤ 2 ^ i := Nat.pow_le_pow_right (by omega) (by omega)
          rw [Nat.pow_succ] at this; omega
        rw [Nat.testBit_lt_two_pow hbig]
        have hn : i ∉ L' := fun hm => by have := h2 i hm x List.mem_cons_self; omega
        simp [hn, he]
  termination_by L => L.length
  decreasing_by simp_all
theorem range_sorted (n : Nat) : (List.range n).Pairwise (· < ·) := List.pairwise_lt_range
theorem filter_sorted (f : Nat → Bool) (n : Nat) : ((List.range n).filter f).Pairwise (· < ·) := (range_sorted n).filter f
theorem filter_testBit (f : Nat → Bool) (n i : Nat) : (bitsL ((List.range n).filter f)).testBit i = (decide (i < n) && f i) := by
  rw [bits_testBit (filter_sorted f n), Bool.eq_iff_iff]
  simp
end Go.Proofs.YtpmmhcgghldaaaaDoor
