/- Own layer, part i: integers' bits. Nothing of the program stands here. -/
import Derived.Test.YtpmmhcgghldaaaaDoorVh
import Derived.Laws.BitsAllLaws
import Derived.Laws.BitsLemmas
namespace Go.Proofs.YtpmmhcgghldaaaaDoor
open Go Go.RowKit
theorem ofInt_i64 (a : Nat) (ha : a < 9223372036854775808) : (BitVec.ofInt 64 (a : Int)).toNat = a := by
  rw [BitVec.ofInt_natCast, BitVec.toNat_ofNat]; exact Nat.mod_eq_of_lt (by omega)
theorem i64_and_nat (a b : Nat) (ha : a < 9223372036854775808) (hb : b < 9223372036854775808) : bits .and .i64 (a : Int) (b : Int) = ((a &&& b : Nat) : Int) := by
  have hx : a &&& b < 2 ^ 63 := Nat.and_lt_two_pow _ (by omega)
  show IntKind.i64.wrap ((BitVec.ofInt 64 (a : Int) &&& BitVec.ofInt 64 (b : Int)).toNat : Int) = _
  rw [BitVec.toNat_and, ofInt_i64 a ha, ofInt_i64 b hb, IntKind.wrap_i64]
  omega
theorem i64_or_nat (a b : Nat) (ha : a < 9223372036854775808) (hb : b < 9223372036854775808) : bits .or .i64 (a : Int) (b : Int) = ((a ||| b : Nat) : Int) := by
  have hx : a ||| b < 2 ^ 63 := Nat.or_lt_two_pow (by omega) (by omega)
  show IntKind.i64.wrap ((BitVec.ofInt 64 (a : Int) ||| BitVec.ofInt 64 (b : Int)).toNat : Int) = _
  rw [BitVec.toNat_or, ofInt_i64 a ha, ofInt_i64 b hb, IntKind.wrap_i64]
  omega
theorem i64_xor_nat (a b : Nat) (ha : a < 9223372036854775808) (hb : b < 9223372036854775808) : bits .xor .i64 (a : Int) (b : Int) = ((a ^^^ b : Nat) : Int) := by
  have hx : a ^^^ b < 2 ^ 63 := Nat.xor_lt_two_pow (by omega) (by omega)
  show IntKind.i64.wrap ((BitVec.ofInt 64 (a : Int) ^^^ BitVec.ofInt 64 (b : Int)).toNat : Int) = _
  rw [BitVec.toNat_xor, ofInt_i64 a ha, ofInt_i64 b hb, IntKind.wrap_i64]
  omega
/-- a &^ b, of numbers that are not below 0: what of a does not lie in b. -/
theorem i64_andnot_nat (a b : Nat) (ha : a < 9223372036854775808) (hb : b < 9223372036854775808) : bits .andNot .i64 (a : Int) (b : Int) = ((a - (a &&& b) : Nat) : Int) := by
  have h1 : (BitVec.ofInt 64 (a : Int) &&& ~~~ BitVec.ofInt 64 (b : Int)).toNat = a - (a &&& b) := by
    have hx := ofInt_i64 a ha
    have hy := ofInt_i64 b hb
    generalize BitVec.ofInt 64 (a : Int) = x at *
    generalize BitVec.ofInt 64 (b : Int) = y at *
    have hd : (x &&& y) &&& (x &&& ~~~ y) = 0#64 := by
      ext i; simp only [BitVec.getElem_and, BitVec.getElem_not, BitVec.getElem_zero]; cases x[i] <;> cases y[i] <;> rfl
    have ho : (x &&& y) ||| (x &&& ~~~ y) = x := by
      ext i; simp only [BitVec.getElem_and, BitVec.getElem_or, BitVec.getElem_not]; cases x[i] <;> cases y[i] <;> rfl
    have hs := BitVec.add_eq_or_of_and_eq_zero _ _ hd
    rw [ho] at hs
    have e := congrArg BitVec.toNat hs
    have hp : (x &&& y).toNat = a &&& b := by rw [BitVec.toNat_and, hx, hy]
    have hle1 : (x &&& ~~~ y).toNat ≤ a := by rw [BitVec.toNat_and, hx]; exact Nat.and_le_left
    have hle2 : a &&& b ≤ a := Nat.and_le_left
    rw [BitVec.toNat_add, hx, hp] at e
    rw [Nat.mod_eq_of_lt (by omega)] at e
    omega
  have hle : a - (a &&& b) ≤ a := Nat.sub_le _ _
  show IntKind.i64.wrap ((BitVec.ofInt 64 (a : Int) &&& ~~~ BitVec.ofInt 64 (b : Int)).toNat : Int) = _
  rw [h1, IntKind.wrap_i64]
  omega
theorem u64_wrap (n : Int) : IntKind.u64.wrap n = n % 18446744073709551616 := by
  simp [IntKind.wrap, IntKind.bits, IntKind.signed]
theorem u64_and_nat (a b : Nat) (ha : a < 18446744073709551616) (hb : b < 18446744073709551616) : bits .and .u64 (a : Int) (b : Int) = ((a &&& b : Nat) : Int) := by
  have hx : a &&& b < 2 ^ 64 := Nat.and_lt_two_pow _ (by omega)
  show IntKind.u64.wrap ((BitVec.ofInt 64 (a : Int) &&& BitVec.ofInt 64 (b : Int)).toNat : Int) = _
  have e : ∀ n : Nat, n < 18446744073709551616 → (BitVec.ofInt 64 (n : Int)).toNat = n := fun n hn => by rw [BitVec.ofInt_natCast, BitVec.toNat_ofNat]; exact Nat.mod_eq_of_lt (by omega)
  rw [BitVec.toNat_and, e a ha, e b hb, u64_wrap]
  omega

/-! The rules: what comes is a number of its own, with its equation beside it (so that nobody looks into it). -/
section
variable {K : Value → Prop}
theorem orV {a b : Nat} (k : ∀ c : Nat, c = a ||| b → K (.int .i64 (c : Int))) (ha : a < 9223372036854775808 := by omega) (hb : b < 9223372036854775808 := by omega) : BitP .or .i64 (a : Int) (b : Int) K := bitR _ (i64_or_nat a b ha hb) (k _ rfl)
theorem andV {a b : Nat} (k : ∀ c : Nat, c = a &&& b → K (.int .i64 (c : Int))) (ha : a < 9223372036854775808 := by omega) (hb : b < 9223372036854775808 := by omega) : BitP .and .i64 (a : Int) (b : Int) K := bitR _ (i64_and_nat a b ha hb) (k _ rfl)
theorem andNotV {a b : Nat} (k : ∀ c : Nat, c = a - (a &&& b) → K (.int .i64 (c : Int))) (ha : a < 9223372036854775808 := by omega) (hb : b < 9223372036854775808 := by omega) : BitP .andNot .i64 (a : Int) (b : Int) K := bitR _ (i64_andnot_nat a b ha hb) (k _ rfl)
theorem shl1 {x : Int} (k : ∀ c : Nat, c = 2 ^ x.toNat → c < 4611686018427387905 → K (.int .i64 (c : Int))) (hx : 0 ≤ x ∧ x < 63 := by omega) : ShlP .i64 1 x K := by
  rw [ShlP_eq]
  refine ⟨hx.1, ?_⟩
  have hp : 2 ^ x.toNat ≤ 2 ^ 62 := Nat.pow_le_pow_right (by omega) (by omega)
  have e1 : IntKind.i64.wrap (1 * 2 ^ (min x.toNat IntKind.i64.bits)) = ((2 ^ x.toNat : Nat) : Int) := by
    rw [show min x.toNat IntKind.i64.bits = x.toNat from by simp [IntKind.bits]; omega]
    have : ((2 : Int) ^ x.toNat) = ((2 ^ x.toNat : Nat) : Int) := by simp
    rw [Int.one_mul, this]
    generalize 2 ^ x.toNat = y at hp ⊢
    exact IntWalk.i64_in _ (by omega)
  rw [e1]
  generalize hy : 2 ^ x.toNat = y at hp ⊢
  exact k _ hy.symm (by omega)
theorem shrV {a : Nat} {x : Int} (k : ∀ c : Nat, c = a >>> x.toNat → K (.int .i64 (c : Int))) (hx : 0 ≤ x ∧ x < 64 := by omega) : ShrP .i64 (a : Int) x K := by
  rw [ShrP_eq]
  refine ⟨hx.1, ?_⟩
  have e1 : (a : Int).fdiv (2 ^ (min x.toNat IntKind.i64.bits)) = ((a >>> x.toNat : Nat) : Int) := by
    rw [show min x.toNat IntKind.i64.bits = x.toNat from by simp [IntKind.bits]; omega]
    have : ((2 : Int) ^ x.toNat) = ((2 ^ x.toNat : Nat) : Int) := by simp
    rw [this, Nat.shiftRight_eq_div_pow, Int.fdiv_eq_ediv_of_nonneg _ (Int.natCast_nonneg _)]
    rfl
  rw [e1]
  exact k _ rfl
end
end Go.Proofs.YtpmmhcgghldaaaaDoor
