/- Contracts of the program: trailing zeros, lists, copies. -/
import Derived.Test.YtpmmhcgghldaaaaDoorP9
import Derived.Test.YtpmmhcgghldaaaaDoorPr
import Derived.Test.YtpmmhcgghldaaaaDoorVl
namespace Go.Proofs.YtpmmhcgghldaaaaDoor
open Go Go.RowKit

/-- The table of math/bits lies where it was laid. -/
def TabW (w : World) : Prop := CellsAt w 1 0 (tab64.map fun n : Nat => Value.int .u8 (n : Int))
theorem TabW.ext {w w' : World} (h : TabW w) (k : Ext w w') : TabW w' := CellsAt.kept h k trivial

theorem arC {kd : IntKind} {n : Int} {K : Value → Prop} (c : Int) (h : kd.wrap n = c) (k : K (.int kd c)) : ArP kd n K := by rw [ArP_eq, h]; exact k
theorem shrC {kd : IntKind} {a b : Int} {K : Value → Prop} (c : Int) (hb : 0 ≤ b) (h : a.fdiv (2 ^ (min b.toNat kd.bits)) = c) (k : K (.int kd c)) : ShrP kd a b K := by rw [ShrP_eq, h]; exact ⟨hb, k⟩
theorem convC {P : Program} {s t : TypeId} {k0 k : IntKind} {n : Int} {K : Value → Prop} [IntTy P s k0] [IntTy P t k] (c : Int) (h : k.wrap n = c) (kk : K (.int k c)) : ConvP P s t (.int k0 n) K := conv (by rw [h]; exact kk)

theorem tab_at (k : Nat) (h : k < 64) : (tab64.map fun n : Nat => Value.int .u8 (n : Int))[k]? = some (.int .u8 ((tab64.getD k 0 : Nat) : Int)) := by
  have hl : k < tab64.length := h
  rw [List.getElem?_map, List.getD_eq_getElem?_getD, List.getElem?_eq_getElem hl]; rfl

section
variable {D : Nat → Prop} {w : World} {A A' : Option Addr} {n m c d : Nat}
theorem c_TZ64 {x : Nat} (hx : x < 4096) (h0 : x ≠ 0) (hT : TabW w) : CallZ Tryd.prog 52 #[.int .u64 x] w (fun v w' => v = .int .i64 (tz x : Nat) ∧ w' = w) := by
  obtain ⟨h1, h2, -⟩ := tz_spec hx h0
  refine fn_rule (args := [.int .u64 x]) Tryd.func52 (by kernel_rfl) ?_
  refine cE (fun h => absurd (by omega) h0) (fun _ => ?_)
  obtain ⟨v1, hv1⟩ : ∃ v1 : Nat, v1 = 18446744073709551616 - x := ⟨_, rfl⟩
  obtain ⟨y, hy⟩ : ∃ y : Nat, y = x &&& v1 := ⟨_, rfl⟩
  obtain ⟨q, hq⟩ : ∃ q : Nat, q = y * 285870213051353865 % 18446744073709551616 := ⟨_, rfl⟩
  obtain ⟨k, hk⟩ : ∃ k : Nat, k = tzAt x := ⟨_, rfl⟩
  obtain ⟨r, hr⟩ : ∃ r : Nat, r = tz x := ⟨_, rfl⟩
  have hqk : q >>> 58 = k := by unfold tzAt at hk; rw [hk, hq, hy, hv1]
  have hrk : r = tab64.getD k 0 := by rw [hr, hk, tz]
  have hg := tab_at k (by rw [hk]; exact h1)
  rw [← hrk] at hg
  rw [← hk] at h1
  rw [← hr] at h2 ⊢
  refine arC (v1 : Int) (by rw [u64_wrap]; omega) ?_
  refine bitR (y : Int) (by rw [u64_and_nat x v1 (by omega) (by omega), hy]) ?_
  refine arC (q : Int) (by rw [u64_wrap]; omega) ?_
  refine shrC (k : Int) (by decide) (by
    rw [← hqk, Nat.shiftRight_eq_div_pow, show (min (Int.toNat 58) IntKind.u64.bits) = 58 from rfl, Int.fdiv_eq_ediv_of_nonneg _ (by decide)]
    rfl) ?_
  refine idxR k rfl h1 ?_
  refine ld _ (by have := hT _ _ hg; simpa using this) ?_
  refine convC (r : Int) (IntWalk.i64_in _ (by omega)) ?_
  exact ret1 (.int .i64 (r : Nat)) rfl ⟨rfl, rfl⟩
theorem c_TZ {x : Nat} (hx : x < 4096) (h0 : x ≠ 0) (hT : TabW w) : CallZ Tryd.prog 48 #[.int .u64 x] w (fun v w' => v = .int .i64 (tz x : Nat) ∧ w' = w) := by
  refine fn_rule (args := [.int .u64 x]) Tryd.func48 (by kernel_rfl) ?_
  refine call_of (c_TZ64 hx h0 hT) ?_
  rintro _ w1 ⟨rfl, rfl⟩
  exact ret1 (.int .i64 (tz x : Nat)) rfl ⟨rfl, rfl⟩
theorem c_list {s : Nat} (hs : s < 4096) (hT : TabW w) : CallZ Tryd.prog 41 #[.int .i64 s] w (fun v w' => NewL w w' v (mem s 12)) := by
  refine fn_rule (args := [.int .i64 s]) Tryd.func41 (by kernel_rfl) ?_
  refine loop4 (fun (x : Nat) (A : Option Addr) (n c : Nat) => [(0, .int .i64 x), (2, .slice A n c)])
    (fun x A n c w' => x < 4096 ∧ ∃ done : List Nat, OwnF w w' A n c 3 1 (done.map nv) ∧ mem s 12 = done ++ mem x 12) (fun x _ _ _ _ => x) s none 0 0 ⟨rfl, rfl, trivial⟩
    ⟨hs, [], OwnF.nil (.refl _ _), rfl⟩ rfl ?_
  rintro G x A2 n2 c2 w1 ⟨hx, done, hown, he⟩
  have hcnt := hown.cnt
  have hml := mem_len s 12
  have hdl : done.length ≤ 12 := by rw [he, List.length_append] at hml; omega
  refine cN (fun hne => ?_) (fun heq => ?_)
  · have h0 : x ≠ 0 := by omega
    obtain ⟨-, h2, h3⟩ := tz_spec hx h0
    rw [list_ok hx h0] at he
    refine convC (x : Int) (by rw [u64_wrap]; omega) ?_
    refine call_of (c_TZ hx h0 (hT.ext hown.ext)) ?_
    rintro _ w1 ⟨rfl, rfl⟩
    refine lit [.int .i64 (tz x : Nat)] (fun g w3 hb3 => ?_)
    refine appF (hown.then hb3.ext) (hb3.src (sz := 1) rfl) (by omega) (fun A' c' w4 ho4 _ _ => ?_)
    refine arN (x - 1) (by omega) (by omega) ?_
    refine andV (fun q hq => ?_)
    rw [← hq] at h3 he
    refine next4 q A' (n2 + 1) c' ⟨rfl, rfl, trivial⟩ ⟨by omega, done ++ [tz x], by rw [List.map_append]; exact ho4, by rw [he]; simp⟩ (by omega)
  · have h0 : x = 0 := by omega
    subst h0
    refine ret1 (.slice A2 n2 c2) rfl ?_
    have : mem s 12 = done := by rw [he]; simp [mem]
    rw [this]
    refine hown.newL (fun y hy => ?_) (by omega)
    rw [← this] at hy
    have := mem_lt hy; omega
end
end Go.Proofs.YtpmmhcgghldaaaaDoor
