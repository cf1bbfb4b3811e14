/- Contracts: small functions that only read. -/
import Derived.Test.YtpmmhcgghldaaaaDoorFacts
import Derived.Test.YtpmmhcgghldaaaaDoorVi
import Derived.Test.YtpmmhcgghldaaaaDoorPm
namespace Go.Proofs.YtpmmhcgghldaaaaDoor
open Go Go.RowKit

section
variable {D : Nat → Prop} {w : World} {A A' : Option Addr} {n m c d : Nat}

theorem c_SameInts {xs ys : List Int} (ha : SlR tInt D w A n xs) (hb : SlR tInt D w A' m ys) :
    CallZ Tryd.prog 21 #[.slice A n c, .slice A' m d] w (fun v w' => v = .bool (xs == ys) ∧ w' = w) := by
  have hn := ha.le
  have hm := hb.le
  refine fn_rule (args := [.slice A n c, .slice A' m d]) Tryd.func21 (by kernel_rfl) ?_
  refine len ?_
  refine len ?_
  refine cN (fun hne => ?_) (fun heq => ?_)
  · refine ret1 (.bool false) rfl ⟨?_, rfl⟩
    have : (xs == ys) = false := by rw [beq_eq_false_iff_ne]; rintro rfl; have := ha.1; have := hb.1; omega
    rw [this]
  · obtain rfl : n = m := by omega
    refine loop_rule (fun k : Nat => [(5, .int .i64 k)]) (fun k w' => k ≤ n ∧ (xs == ys) = (xs.drop k == ys.drop k) ∧ w' = w) (fun k _ => n - k) 0 ⟨rfl, trivial⟩ ⟨by omega, rfl, rfl⟩ rfl ?_
    rintro G k _ ⟨hk, he, rfl⟩
    refine len ?_
    refine cD (fun hlt => ?_) (fun hge => ?_)
    · have hlt : k < n := by omega
      obtain ⟨b, o, cs, x, rfl, hx, hdx, hbB, hc, rfl, hr⟩ := ha.at_ hlt
      obtain ⟨b', o', cs', y, rfl, hy, hdy, hbB', hc', rfl, hr'⟩ := hb.at_ hlt
      refine drawQ mx (by kernel_rfl) ?_
      refine idx k rfl hlt ?_
      refine ld _ (hc 0 _ rfl) ?_
      refine idx k rfl hlt ?_
      refine ld _ (hc' 0 _ rfl) ?_
      refine cN (fun hne => ?_) (fun heq => ?_)
      · refine ret1 (.bool false) rfl ⟨?_, rfl⟩
        rw [he, hdx, hdy]; simp [hne]
      · subst heq
        refine arI (by omega) ?_
        refine next (k + 1) ⟨rfl, trivial⟩ ⟨by omega, ?_, rfl⟩ (by omega)
        rw [he, hdx, hdy]; simp
    · refine ret1 (.bool true) rfl ⟨?_, rfl⟩
      rw [he, drop_end (by rw [ha.len]; omega), drop_end (by rw [hb.len]; omega)]; rfl

theorem c_Equal {xs ys : List Int} (ha : SlR tInt D w A n xs) (hb : SlR tInt D w A' m ys) :
    CallZ Tryd.prog 45 #[.slice A n c, .slice A' m d] w (fun v w' => v = .bool (xs == ys) ∧ w' = w) := by
  have hn := ha.le
  have hm := hb.le
  refine fn_rule (args := [.slice A n c, .slice A' m d]) Tryd.func45 (by kernel_rfl) ?_
  refine len ?_
  refine len ?_
  refine cN (fun hne => ?_) (fun heq => ?_)
  · refine ret1 (.bool false) rfl ⟨?_, rfl⟩
    have : (xs == ys) = false := by rw [beq_eq_false_iff_ne]; rintro rfl; have := ha.1; have := hb.1; omega
    rw [this]
  · obtain rfl : n = m := by omega
    refine len ?_
    refine loop_rule (fun k : Nat => [(13, .int .i64 k)]) (fun k w' => k ≤ n ∧ (xs == ys) = (xs.drop k == ys.drop k) ∧ w' = w) (fun k _ => n - k) 0 ⟨rfl, trivial⟩ ⟨by omega, rfl, rfl⟩ rfl ?_
    rintro G k _ ⟨hk, he, rfl⟩
    refine cD (fun hlt => ?_) (fun hge => ?_)
    · have hlt : k < n := by omega
      obtain ⟨b, o, cs, x, rfl, hx, hdx, hbB, hc, rfl, hr⟩ := ha.at_ hlt
      obtain ⟨b', o', cs', y, rfl, hy, hdy, hbB', hc', rfl, hr'⟩ := hb.at_ hlt
      refine drawQ mx (by kernel_rfl) ?_
      refine idx k rfl hlt ?_
      refine ld _ (hc 0 _ rfl) ?_
      refine idx k rfl hlt ?_
      refine ld _ (hc' 0 _ rfl) ?_
      refine cN (fun hne => ?_) (fun heq => ?_)
      · refine ret1 (.bool false) rfl ⟨?_, rfl⟩
        rw [he, hdx, hdy]; simp [hne]
      · subst heq
        refine arI (by omega) ?_
        refine next (k + 1) ⟨rfl, trivial⟩ ⟨by omega, ?_, rfl⟩ (by omega)
        rw [he, hdx, hdy]; simp
    · refine ret1 (.bool true) rfl ⟨?_, rfl⟩
      rw [he, drop_end (by rw [ha.len]; omega), drop_end (by rw [hb.len]; omega)]; rfl

def indexOf (v : Int) (k : Nat) : List Int → Int
  | [] => -1
  | x :: r => if v = x then k else indexOf v (k + 1) r
theorem c_Index {xs : List Int} {v : Int} (ha : SlR tInt D w A n xs) :
    CallZ Tryd.prog 47 #[.slice A n c, .int .i64 v] w (fun r w' => r = .int .i64 (indexOf v 0 xs) ∧ w' = w) := by
  have hn := ha.le
  refine fn_rule (args := [.slice A n c, .int .i64 v]) Tryd.func47 (by kernel_rfl) ?_
  refine len ?_
  refine loop_rule (fun k : Nat => [(8, .int .i64 k)]) (fun k w' => k ≤ n ∧ indexOf v 0 xs = indexOf v k (xs.drop k) ∧ w' = w) (fun k _ => n - k) 0 ⟨rfl, trivial⟩ ⟨by omega, rfl, rfl⟩ rfl ?_
  rintro G k _ ⟨hk, he, rfl⟩
  refine cD (fun hlt => ?_) (fun hge => ?_)
  · have hlt : k < n := by omega
    obtain ⟨b, o, cs, x, rfl, hx, hdx, hbB, hc, rfl, hr⟩ := ha.at_ hlt
    refine idx k rfl hlt ?_
    refine ld _ (hc 0 _ rfl) ?_
    refine cE (fun heq => ?_) (fun hne => ?_)
    · refine ret1 (.int .i64 k) rfl ⟨?_, rfl⟩
      rw [he, hdx]; simp [indexOf, heq]
    · refine arI (by omega) ?_
      refine next (k + 1) ⟨rfl, trivial⟩ ⟨by omega, ?_, rfl⟩ (by omega)
      rw [he, hdx]; simp [indexOf, hne]
  · refine ret1 (.int .i64 (-1)) rfl ⟨?_, rfl⟩
    rw [he, drop_end (by rw [ha.len]; omega)]; rfl
theorem indexOf_ge (v : Int) : ∀ (l : List Int) (k : Nat), decide (indexOf v k l ≥ 0) = l.contains v
  | [], k => by simp [indexOf]
  | x :: r, k => by
    unfold indexOf
    by_cases h : v = x
    · simp [h]
    · rw [if_neg h, indexOf_ge v r (k + 1)]; simp [h]
theorem c_Contains {xs : List Int} {v : Int} (ha : SlR tInt D w A n xs) :
    CallZ Tryd.prog 40 #[.slice A n c, .int .i64 v] w (fun r w' => r = .bool (xs.contains v) ∧ w' = w) := by
  refine fn_rule (args := [.slice A n c, .int .i64 v]) Tryd.func40 (by kernel_rfl) ?_
  refine call_of (c_Index ha) ?_
  rintro _ _ ⟨rfl, rfl⟩
  exact cB _ (indexOf_ge v xs 0).symm (ret1 _ rfl ⟨rfl, rfl⟩)

theorem setFrom_cons {last x : Int} {r : List Int} : setFrom last (x :: r) = (decide (last < x) && decide (x < 12) && setFrom x r) := rfl
set_option maxHeartbeats 4000000 in
theorem c_rSet {xs : List Int} (ha : SlR tInt D w A n xs) : CallZ Tryd.prog 34 #[.slice A n c] w (fun v w' => v = .bool (setOk xs) ∧ w' = w) := by
  have hn := ha.le
  refine fn_rule (args := [.slice A n c]) Tryd.func34 (by kernel_rfl) ?_
  refine loop_rule (fun k : Nat => [(3, .int .i64 k)]) (fun k w' => k ≤ n ∧ w' = w ∧ ∃ last : Int, setOk xs = setFrom last (xs.drop k) ∧ (k = 0 → last = -1) ∧ (0 < k → xs[k - 1]? = some last ∧ 0 ≤ last)) (fun k _ => n - k) 0 ⟨rfl, trivial⟩
    ⟨by omega, rfl, -1, rfl, fun _ => rfl, fun h => absurd h (by omega)⟩ rfl ?_
  rintro G k _ ⟨hk, rfl, last, he, h0, h1⟩
  refine len ?_
  refine cD (fun hlt => ?_) (fun hge => ?_)
  · have hlt : k < n := by omega
    obtain ⟨b, o, cs, x, rfl, hx, hdx, hbB, hc, rfl, hr⟩ := ha.at_ hlt
    rw [hdx, setFrom_cons] at he
    have hl0 : -1 ≤ last := by
      rcases Nat.eq_zero_or_pos k with h | h
      · have := h0 h; omega
      · have := (h1 h).2; omega
    have bad : ¬ (last < x ∧ x < 12) → setOk xs = false := fun h => by
      rw [he]
      by_cases ha : last < x <;> by_cases hb : x < 12 <;> simp [ha, hb]
      exact absurd ⟨ha, hb⟩ h
    have good : last < x → x < 12 → setOk xs = setFrom x (xs.drop (k + 1)) := fun ha hb => by rw [he]; simp [ha, hb]
    refine drawQ mx (by kernel_rfl) ?_
    refine idx k rfl hlt ?_
    refine ld _ (hc 0 _ rfl) ?_
    refine cD (fun hneg => ?_) (fun hpos => ?_)
    · exact ret1 (.bool false) rfl ⟨by rw [bad (by omega)], rfl⟩
    refine idx k rfl hlt ?_
    refine ld _ (hc 0 _ rfl) ?_
    refine cD (fun h12 => ?_) (fun h12 => ?_)
    · exact ret1 (.bool false) rfl ⟨by rw [bad (by omega)], rfl⟩
    refine cD (fun hk0 => ?_) (fun hk0 => ?_)
    · have hk1 : 0 < k := by omega
      obtain ⟨hp, hp0⟩ := h1 hk1
      refine idx k rfl hlt ?_
      refine ld _ (hc 0 _ rfl) ?_
      refine arI (by omega) ?_
      refine idx (k - 1) (by omega) (by omega) ?_
      obtain ⟨b', o', cs', x', e', hx', _, _, hc', rfl, _⟩ := ha.at_ (k := k - 1) (by omega)
      simp only [Option.some.injEq, Addr.mk.injEq] at e'
      obtain ⟨rfl, rfl, _⟩ := e'
      rw [hp] at hx'
      simp only [Option.some.injEq] at hx'
      subst hx'
      refine ld _ (hc' 0 _ rfl) ?_
      refine cD (fun hle => ?_) (fun hle => ?_)
      · exact ret1 (.bool false) rfl ⟨by rw [bad (by omega)], rfl⟩
      · refine arI (by omega) ?_
        exact next (k + 1) ⟨rfl, trivial⟩ ⟨by omega, rfl, x, good (by omega) (by omega), fun h => by omega, fun _ => ⟨hx, by omega⟩⟩ (by omega)
    · have hk1 : k = 0 := by omega
      have hl := h0 hk1
      refine arI (by omega) ?_
      exact next (k + 1) ⟨rfl, trivial⟩ ⟨by omega, rfl, x, good (by omega) (by omega), fun h => by omega, fun _ => ⟨hx, by omega⟩⟩ (by omega)
  · refine ret1 (.bool true) rfl ⟨?_, rfl⟩
    rw [he, drop_end (by rw [ha.len]; omega)]; rfl

theorem c_set {xs : List Int} (ha : SlR tInt D w A n xs) : CallZ Tryd.prog 37 #[.slice A n c] w (fun v w' => v = .tuple #[.int .i64 (if setOk xs then (mask xs : Int) else 0), .bool (setOk xs)] ∧ w' = w) := by
  have hn := ha.le
  refine fn_rule (args := [.slice A n c]) Tryd.func37 (by kernel_rfl) ?_
  refine len ?_
  refine loop3 (fun (k m : Nat) (last : Int) => [(9, .int .i64 k), (2, .int .i64 m), (4, .int .i64 last)])
    (fun k m last w' => k ≤ n ∧ w' = w ∧ m < 4096 ∧ -1 ≤ last ∧ setOk xs = setFrom last (xs.drop k) ∧ mask xs = maskFrom m (xs.drop k)) (fun k _ _ _ => n - k) 0 0 (-1) ⟨rfl, rfl, rfl, trivial⟩
    ⟨by simp, rfl, by simp, by simp, rfl, rfl⟩ rfl ?_
  rintro G k m last _ ⟨hk, rfl, hm, hl, he, hme⟩
  refine cD (fun hlt => ?_) (fun hge => ?_)
  · have hlt : k < n := by omega
    obtain ⟨b, o, cs, x, rfl, hx, hdx, hbB, hc, rfl, hr⟩ := ha.at_ hlt
    rw [hdx] at he hme
    have bad : ¬ (last < x ∧ x < 12) → setOk xs = false := fun h => by
      rw [he, setFrom_cons]
      by_cases ha : last < x <;> by_cases hb : x < 12 <;> simp [ha, hb]
      exact absurd ⟨ha, hb⟩ h
    refine idx k rfl hlt ?_
    refine ld _ (hc 0 _ rfl) ?_
    refine cD (fun h1 => ?_) (fun h1 => ?_)
    · exact ret2 (.int .i64 0) (.bool false) rfl rfl ⟨by rw [bad (by omega)]; rfl, rfl⟩
    refine cD (fun h2 => ?_) (fun h2 => ?_)
    · exact ret2 (.int .i64 0) (.bool false) rfl rfl ⟨by rw [bad (by omega)]; rfl, rfl⟩
    have hp := pow_lt (x := x) (by omega)
    refine shl1 (fun c hc _ => ?_)
    rw [← hc] at hp
    refine orV (fun c' hc' => ?_)
    refine arI (by omega) ?_
    exact next3 (k + 1) c' x ⟨rfl, rfl, rfl, trivial⟩ ⟨by omega, rfl, by rw [hc']; exact or_lt hm hp, by omega, by rw [he, setFrom_cons]; simp; omega, by rw [hme, hc', hc]; rfl⟩ (by omega)
  · have e : setOk xs = true := by rw [he, drop_end (by rw [ha.len]; omega)]; rfl
    refine ret2 (.int .i64 m) (.bool true) rfl rfl ⟨?_, rfl⟩
    rw [e, hme, drop_end (by rw [ha.len]; omega)]; rfl
end
end Go.Proofs.YtpmmhcgghldaaaaDoor
