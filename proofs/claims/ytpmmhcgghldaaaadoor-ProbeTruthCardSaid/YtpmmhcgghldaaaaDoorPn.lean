/- What the functions of probe compute, in plain Lean: part 2, bits and lists of indices. -/
import Derived.Test.YtpmmhcgghldaaaaDoorPm
namespace Go.Proofs.YtpmmhcgghldaaaaDoor

theorem bitsFrom_eq : ∀ (l : List Nat) (m : Nat), bitsFrom m l = m + bitsL l
  | [], m => rfl
  | i :: r, m => by
    unfold bitsL bitsFrom
    rw [bitsFrom_eq r (m + 2 ^ i), bitsFrom_eq r (0 + 2 ^ i)]; omega
theorem bitsL_nil : bitsL [] = 0 := rfl
theorem bitsL_cons (i : Nat) (r : List Nat) : bitsL (i :: r) = 2 ^ i + bitsL r := by
  show bitsFrom (0 + 2 ^ i) r = _
  rw [bitsFrom_eq]; omega
theorem bitsL_app (a b : List Nat) : bitsL (a ++ b) = bitsL a + bitsL b := by
  induction a with
  | nil => simp [bitsL_nil]
  | cons i r ih => rw [List.cons_append, bitsL_cons, bitsL_cons, ih]; omega
theorem bitsL_filter (f : Nat → Bool) (l : List Nat) : bitsL (l.filter f) + bitsL (l.filter fun i => !f i) = bitsL l := by
  induction l with
  | nil => rfl
  | cons i r ih =>
    rw [List.filter_cons, List.filter_cons, bitsL_cons]
    cases f i <;> simp [bitsL_cons] <;> omega
theorem bitsL_eq_zero {l : List Nat} : bitsL l = 0 ↔ l = [] := by
  cases l with
  | nil => simp [bitsL_nil]
  | cons i r =>
    rw [bitsL_cons]
    have : 0 < 2 ^ i := Nat.two_pow_pos i
    constructor
    · intro h; omega
    · intro h; cases h
theorem mem_succ (s n : Nat) : mem s (n + 1) = mem s n ++ if s.testBit n then [n] else [] := by
  unfold mem
  rw [List.range_succ, List.filter_append]
  congr 1
  simp only [List.filter_cons, List.filter_nil]
theorem bitsL_mem' (s n : Nat) : bitsL (mem s n) = s % 2 ^ n := by
  induction n with
  | zero => simp [mem, bitsL_nil, Nat.mod_one]
  | succ n ih =>
    rw [mem_succ, bitsL_app, ih]
    have h1 : s % 2 ^ (n + 1) = s % 2 ^ n + 2 ^ n * (s / 2 ^ n % 2) := by rw [Nat.pow_succ, Nat.mod_mul]
    rw [h1, Nat.testBit_eq_decide_div_mod_eq]
    rcases Nat.mod_two_eq_zero_or_one (s / 2 ^ n) with h | h <;> simp [h, bitsL_cons, bitsL_nil]
theorem bitsL_mem {s n : Nat} (h : s < 2 ^ n) : bitsL (mem s n) = s := by rw [bitsL_mem', Nat.mod_eq_of_lt h]
theorem mem_lt {s n i : Nat} (h : i ∈ mem s n) : i < n := by have := (List.mem_filter.1 h).1; simpa using this
theorem mem_len (s n : Nat) : (mem s n).length ≤ n := Nat.le_trans (List.length_filter_le _ _) (by simp)
theorem shr_and (s i : Nat) : (s >>> i) &&& 1 = 1 ↔ s.testBit i = true := by
  rw [Nat.testBit_eq_decide_div_mod_eq, decide_eq_true_iff, Nat.and_one_is_mod, Nat.shiftRight_eq_div_pow]
/-- Equal sets, equal lists. -/
theorem mem_bits {n : Nat} : ∀ {a b : Nat}, a < 2 ^ n → b < 2 ^ n → mem a n = mem b n → a = b := fun ha hb h => by rw [← bitsL_mem ha, ← bitsL_mem hb, h]
end Go.Proofs.YtpmmhcgghldaaaaDoor
