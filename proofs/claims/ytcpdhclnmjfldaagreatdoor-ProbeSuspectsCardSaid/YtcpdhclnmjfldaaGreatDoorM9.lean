/- Parts of the proof: P1 P2 P3 Pn P4 P5 Pt P6 Po P7 P8 P9 Pq Pr Q1 Q2 Q3 Q4. -/
import Derived.Test.YtcpdhclnmjfldaaGreatDoorM3
import Derived.Test.YtcpdhclnmjfldaaGreatDoorM8
import Derived.Test.YtcpdhclnmjfldaaGreatDoorM4
import Derived.KernelRfl

/- Contracts: small functions that only read. -/
namespace Go.Proofs.YtcpdhclnmjfldaaGreatDoor
open Go Go.RowKit

section
variable {D : Nat → Prop} {w : World} {A A' : Option Addr} {n m c d : Nat}

theorem c_SameInts {xs ys : List Int} (ha : SlR tInt D w A n xs) (hb : SlR tInt D w A' m ys) :
    CallZ Tryz.prog 15 #[.slice A n c, .slice A' m d] w (fun v w' => v = .bool (xs == ys) ∧ w' = w) := by
  have hn := ha.le
  have hm := hb.le
  refine fn_rule (args := [.slice A n c, .slice A' m d]) Tryz.func15 (by kernel_rfl) ?_
  refine len ?_
  refine len ?_
  refine cN (fun hne => ?_) (fun heq => ?_)
  · refine ret1 (.bool false) rfl ⟨?_, rfl⟩
    have : (xs == ys) = false := by rw [beq_eq_false_iff_ne]; rintro rfl; have := ha.1; have := hb.1; omega
    rw [this]
  · obtain rfl : n = m := by omega
    refine loop_rule (fun k : Nat => [(5, .int .i64 k)]) (fun k w' => k ≤ n ∧ (xs == ys) = (xs.drop k == ys.drop k) ∧ w' = w) (fun k _ => n - k) 0 ⟨rfl, trivial⟩ ⟨by omega, rfl, rfl⟩ rfl ?_
    rintro G k _ ⟨hk, he, rfl⟩
    refine len ?_
    refine cD (fun hlt => ?_) (fun hge => ?_)
    · have hlt : k < n := by omega
      obtain ⟨b, o, cs, x, rfl, hx, hdx, hbB, hc, rfl, hr⟩ := ha.at_ hlt
      obtain ⟨b', o', cs', y, rfl, hy, hdy, hbB', hc', rfl, hr'⟩ := hb.at_ hlt
      refine drawQ mx (by kernel_rfl) ?_
      refine idx k rfl hlt ?_
      refine ld _ (hc 0 _ rfl) ?_
      refine idx k rfl hlt ?_
      refine ld _ (hc' 0 _ rfl) ?_
      refine cN (fun hne => ?_) (fun heq => ?_)
      · refine ret1 (.bool false) rfl ⟨?_, rfl⟩
        rw [he, hdx, hdy]; simp [hne]
      · subst heq
        refine arI (by omega) ?_
        refine next (k + 1) ⟨rfl, trivial⟩ ⟨by omega, ?_, rfl⟩ (by omega)
        rw [he, hdx, hdy]; simp
    · refine ret1 (.bool true) rfl ⟨?_, rfl⟩
      rw [he, drop_end (by rw [ha.len]; omega), drop_end (by rw [hb.len]; omega)]; rfl

theorem c_Equal {xs ys : List Int} (ha : SlR tInt D w A n xs) (hb : SlR tInt D w A' m ys) :
    CallZ Tryz.prog 39 #[.slice A n c, .slice A' m d] w (fun v w' => v = .bool (xs == ys) ∧ w' = w) := by
  have hn := ha.le
  have hm := hb.le
  refine fn_rule (args := [.slice A n c, .slice A' m d]) Tryz.func39 (by kernel_rfl) ?_
  refine len ?_
  refine len ?_
  refine cN (fun hne => ?_) (fun heq => ?_)
  · refine ret1 (.bool false) rfl ⟨?_, rfl⟩
    have : (xs == ys) = false := by rw [beq_eq_false_iff_ne]; rintro rfl; have := ha.1; have := hb.1; omega
    rw [this]
  · obtain rfl : n = m := by omega
    refine len ?_
    refine loop_rule (fun k : Nat => [(13, .int .i64 k)]) (fun k w' => k ≤ n ∧ (xs == ys) = (xs.drop k == ys.drop k) ∧ w' = w) (fun k _ => n - k) 0 ⟨rfl, trivial⟩ ⟨by omega, rfl, rfl⟩ rfl ?_
    rintro G k _ ⟨hk, he, rfl⟩
    refine cD (fun hlt => ?_) (fun hge => ?_)
    · have hlt : k < n := by omega
      obtain ⟨b, o, cs, x, rfl, hx, hdx, hbB, hc, rfl, hr⟩ := ha.at_ hlt
      obtain ⟨b', o', cs', y, rfl, hy, hdy, hbB', hc', rfl, hr'⟩ := hb.at_ hlt
      refine drawQ mx (by kernel_rfl) ?_
      refine idx k rfl hlt ?_
      refine ld _ (hc 0 _ rfl) ?_
      refine idx k rfl hlt ?_
      refine ld _ (hc' 0 _ rfl) ?_
      refine cN (fun hne => ?_) (fun heq => ?_)
      · refine ret1 (.bool false) rfl ⟨?_, rfl⟩
        rw [he, hdx, hdy]; simp [hne]
      · subst heq
        refine arI (by omega) ?_
        refine next (k + 1) ⟨rfl, trivial⟩ ⟨by omega, ?_, rfl⟩ (by omega)
        rw [he, hdx, hdy]; simp
    · refine ret1 (.bool true) rfl ⟨?_, rfl⟩
      rw [he, drop_end (by rw [ha.len]; omega), drop_end (by rw [hb.len]; omega)]; rfl

def indexOf (v : Int) (k : Nat) : List Int → Int
  | [] => -1
  | x :: r => if v = x then k else indexOf v (k + 1) r
theorem c_Index {xs : List Int} {v : Int} (ha : SlR tInt D w A n xs) :
    CallZ Tryz.prog 57 #[.slice A n c, .int .i64 v] w (fun r w' => r = .int .i64 (indexOf v 0 xs) ∧ w' = w) := by
  have hn := ha.le
  refine fn_rule (args := [.slice A n c, .int .i64 v]) Tryz.func57 (by kernel_rfl) ?_
  refine len ?_
  refine loop_rule (fun k : Nat => [(8, .int .i64 k)]) (fun k w' => k ≤ n ∧ indexOf v 0 xs = indexOf v k (xs.drop k) ∧ w' = w) (fun k _ => n - k) 0 ⟨rfl, trivial⟩ ⟨by omega, rfl, rfl⟩ rfl ?_
  rintro G k _ ⟨hk, he, rfl⟩
  refine cD (fun hlt => ?_) (fun hge => ?_)
  · have hlt : k < n := by omega
    obtain ⟨b, o, cs, x, rfl, hx, hdx, hbB, hc, rfl, hr⟩ := ha.at_ hlt
    refine idx k rfl hlt ?_
    refine ld _ (hc 0 _ rfl) ?_
    refine cE (fun heq => ?_) (fun hne => ?_)
    · refine ret1 (.int .i64 k) rfl ⟨?_, rfl⟩
      rw [he, hdx]; simp [indexOf, heq]
    · refine arI (by omega) ?_
      refine next (k + 1) ⟨rfl, trivial⟩ ⟨by omega, ?_, rfl⟩ (by omega)
      rw [he, hdx]; simp [indexOf, hne]
  · refine ret1 (.int .i64 (-1)) rfl ⟨?_, rfl⟩
    rw [he, drop_end (by rw [ha.len]; omega)]; rfl
theorem indexOf_ge (v : Int) : ∀ (l : List Int) (k : Nat), decide (indexOf v k l ≥ 0) = l.contains v
  | [], k => by simp [indexOf]
  | x :: r, k => by
    unfold indexOf
    by_cases h : v = x
    · simp [h]
    · rw [if_neg h, indexOf_ge v r (k + 1)]; simp [h]
theorem c_Contains {xs : List Int} {v : Int} (ha : SlR tInt D w A n xs) :
    CallZ Tryz.prog 35 #[.slice A n c, .int .i64 v] w (fun r w' => r = .bool (xs.contains v) ∧ w' = w) := by
  refine fn_rule (args := [.slice A n c, .int .i64 v]) Tryz.func35 (by kernel_rfl) ?_
  refine call_of (c_Index ha) ?_
  rintro _ _ ⟨rfl, rfl⟩
  exact cB _ (indexOf_ge v xs 0).symm (ret1 _ rfl ⟨rfl, rfl⟩)

theorem setFrom_cons {last x : Int} {r : List Int} : setFrom last (x :: r) = (decide (last < x) && decide (x < 12) && setFrom x r) := rfl
theorem c_set {xs : List Int} (ha : SlR tInt D w A n xs) : CallZ Tryz.prog 26 #[.slice A n c] w (fun v w' => v = .tuple #[.int .i64 (if setOk xs then (mask xs : Int) else 0), .bool (setOk xs)] ∧ w' = w) := by
  have hn := ha.le
  refine fn_rule (args := [.slice A n c]) Tryz.func26 (by kernel_rfl) ?_
  refine len ?_
  refine loop3 (fun (k m : Nat) (last : Int) => [(9, .int .i64 k), (2, .int .i64 m), (4, .int .i64 last)])
    (fun k m last w' => k ≤ n ∧ w' = w ∧ m < 4096 ∧ -1 ≤ last ∧ setOk xs = setFrom last (xs.drop k) ∧ mask xs = maskFrom m (xs.drop k)) (fun k _ _ _ => n - k) 0 0 (-1) ⟨rfl, rfl, rfl, trivial⟩
    ⟨by simp, rfl, by simp, by simp, rfl, rfl⟩ rfl ?_
  rintro G k m last _ ⟨hk, rfl, hm, hl, he, hme⟩
  refine cD (fun hlt => ?_) (fun hge => ?_)
  · have hlt : k < n := by omega
    obtain ⟨b, o, cs, x, rfl, hx, hdx, hbB, hc, rfl, hr⟩ := ha.at_ hlt
    rw [hdx] at he hme
    have bad : ¬ (last < x ∧ x < 12) → setOk xs = false := fun h => by
      rw [he, setFrom_cons]
      by_cases ha : last < x <;> by_cases hb : x < 12 <;> simp [ha, hb]
      exact absurd ⟨ha, hb⟩ h
    refine idx k rfl hlt ?_
    refine ld _ (hc 0 _ rfl) ?_
    refine cD (fun h1 => ?_) (fun h1 => ?_)
    · exact ret2 (.int .i64 0) (.bool false) rfl rfl ⟨by rw [bad (by omega)]; rfl, rfl⟩
    refine cD (fun h2 => ?_) (fun h2 => ?_)
    · exact ret2 (.int .i64 0) (.bool false) rfl rfl ⟨by rw [bad (by omega)]; rfl, rfl⟩
    have hp := pow_lt (x := x) (by omega)
    refine shl1 (fun c hc _ => ?_)
    rw [← hc] at hp
    refine orV (fun c' hc' => ?_)
    refine arI (by omega) ?_
    exact next3 (k + 1) c' x ⟨rfl, rfl, rfl, trivial⟩ ⟨by omega, rfl, by rw [hc']; exact or_lt hm hp, by omega, by rw [he, setFrom_cons]; simp; omega, by rw [hme, hc', hc]; rfl⟩ (by omega)
  · have e : setOk xs = true := by rw [he, drop_end (by rw [ha.len]; omega)]; rfl
    refine ret2 (.int .i64 m) (.bool true) rfl rfl ⟨?_, rfl⟩
    rw [e, hme, drop_end (by rw [ha.len]; omega)]; rfl
end
end Go.Proofs.YtcpdhclnmjfldaaGreatDoor

/- Contracts: validity, size, what a measurement shows. -/
namespace Go.Proofs.YtcpdhclnmjfldaaGreatDoor
open Go Go.RowKit

theorem take_drop_cons {α : Type} {xs : List α} {k j : Nat} {y : α} (hj : j < k) (hy : xs[j]? = some y) : (xs.take k).drop j = y :: (xs.take k).drop (j + 1) := by
  have h : (xs.take k)[j]? = some y := by rw [List.getElem?_take]; simp [hj, hy]
  obtain ⟨hlt, h⟩ := List.getElem?_eq_some_iff.1 h
  rw [List.drop_eq_getElem_cons hlt, h]
theorem take_succ' {α : Type} {xs : List α} {k : Nat} {x : α} (hx : xs[k]? = some x) : xs.take (k + 1) = xs.take k ++ [x] := by
  rw [List.take_add_one, hx]; rfl

def tPr : Ty (Int × List Int) := tPair tInt (tSl tInt)
abbrev tInts : Ty (List Int) := tSl tInt
theorem pr_open {D : Nat → Prop} {w : World} {cs : List Value} {x : Int × List Int} (h : tPr.rep D w cs x) : ∃ A n c, cs = [.int .i64 x.1, .slice A n c] ∧ I64 x.1 ∧ SlR tInt D w A n x.2 ∧ n ≤ c := by
  obtain ⟨c1, c2, rfl, ⟨rfl, h1⟩, A, n, c, rfl, h2, h3⟩ := h
  exact ⟨A, n, c, rfl, h1, h2, h3⟩

section
variable {D : Nat → Prop} {w : World} {A A' : Option Addr} {n m c d : Nat}

theorem c_Few {l : List (List Int)} {p : List (Int × List Int)} (hl : SlR tInts D w A n l) (hp : SlR tPr D w A' m p) : CallZ Tryz.prog 7 #[.slice A n c, .slice A' m d] w (fun v w' => v = .bool (fewL l p) ∧ w' = w) := by
  have hn := hl.le
  have hm := hp.le
  have hll := hl.1
  have hpl := hp.1
  refine fn_rule (args := [.slice A n c, .slice A' m d]) Tryz.func7 (by kernel_rfl) ?_
  have bad : (8 < l.length ∧ l.length ≤ 12) ∨ 100 < l.length ∨ 100 < p.length → fewL l p = false := fun h => by
    unfold fewL
    have : (decide (8 < l.length) && decide (l.length ≤ 12) || decide (100 < l.length) || decide (100 < p.length)) = true := by simp; omega
    rw [this]; rfl
  have good : ¬ ((8 < l.length ∧ l.length ≤ 12) ∨ 100 < l.length ∨ 100 < p.length) → fewL l p = (l.all (fun x => decide (x.length ≤ 100)) && p.all (fun x => decide (x.2.length ≤ 100))) := fun h => by
    unfold fewL
    have : (decide (8 < l.length) && decide (l.length ≤ 12) || decide (100 < l.length) || decide (100 < p.length)) = false := by simp; omega
    rw [this]; rfl
  refine len ?_
  refine cD (fun h1 => ?_) (fun h1 => ?_)
  · refine len ?_
    refine cD (fun h2 => ?_) (fun h2 => ?_)
    · exact ret1 (.bool false) rfl ⟨by rw [bad (by omega)], rfl⟩
    refine len ?_
    refine cD (fun h3 => ?_) (fun h3 => ?_)
    · exact ret1 (.bool false) rfl ⟨by rw [bad (by omega)], rfl⟩
    refine len ?_
    refine cD (fun h4 => ?_) (fun h4 => ?_)
    · exact ret1 (.bool false) rfl ⟨by rw [bad (by omega)], rfl⟩
    have hf := good (by omega)
    refine loop_rule (fun k : Nat => [(5, .int .i64 k)]) (fun k w' => k ≤ n ∧ w = w' ∧ l.all (fun x => decide (x.length ≤ 100)) = (l.drop k).all (fun x => decide (x.length ≤ 100))) (fun k _ => n - k) 0 ⟨rfl, trivial⟩ ⟨by omega, rfl, rfl⟩ rfl ?_
    rintro G k _ ⟨hk, rfl, he⟩
    refine len ?_
    refine cD (fun hlt => ?_) (fun hge => ?_)
    · have hlt : k < n := by omega
      obtain ⟨b, o, cs, x, rfl, hx, hdx, hbB, hc, Ax, nx, cx, rfl, hxs, -⟩ := hl.at_ hlt
      have hxl := hxs.1
      rw [hdx, List.all_cons] at he
      refine idx k rfl hlt ?_
      refine ld _ (hc 0 _ rfl) ?_
      refine len ?_
      refine cD (fun h5 => ?_) (fun h5 => ?_)
      · refine ret1 (.bool false) rfl ⟨?_, rfl⟩
        rw [hf, he, decide_eq_false (by omega)]; rfl
      · rw [decide_eq_true (by omega), Bool.true_and] at he
        refine arI (by omega) ?_
        exact next (k + 1) ⟨rfl, trivial⟩ ⟨by omega, rfl, he⟩ (by omega)
    · rw [drop_end (by rw [hl.len]; omega)] at he
      rw [he] at hf
      refine loop_rule (fun k : Nat => [(6, .int .i64 k)]) (fun k w' => k ≤ m ∧ w = w' ∧ p.all (fun x => decide (x.2.length ≤ 100)) = (p.drop k).all (fun x => decide (x.2.length ≤ 100))) (fun k _ => m - k) 0 ⟨rfl, trivial⟩ ⟨by omega, rfl, rfl⟩ rfl ?_
      rintro G k _ ⟨hk, rfl, he⟩
      refine len ?_
      refine cD (fun hlt => ?_) (fun hge => ?_)
      · have hlt : k < m := by omega
        obtain ⟨b, o, cs, x, rfl, hx, hdx, hbB, hc, hr⟩ := hp.at_ hlt
        obtain ⟨Ax, nx, cx, rfl, hxi, hxs, -⟩ := pr_open hr
        have hxl := hxs.1
        have hsz : tPr.sz = 2 := rfl
        rw [hsz] at hc
        rw [hdx, List.all_cons] at he
        refine idx k rfl hlt ?_
        refine fldA ?_
        refine ld _ (hc 1 _ rfl) ?_
        refine len ?_
        refine cD (fun h5 => ?_) (fun h5 => ?_)
        · refine ret1 (.bool false) rfl ⟨?_, rfl⟩
          rw [hf, he, decide_eq_false (by omega)]; rfl
        · rw [decide_eq_true (by omega), Bool.true_and] at he
          refine arI (by omega) ?_
          exact next (k + 1) ⟨rfl, trivial⟩ ⟨by omega, rfl, he⟩ (by omega)
      · refine ret1 (.bool true) rfl ⟨?_, rfl⟩
        rw [hf, he, drop_end (by rw [hp.len]; omega)]; rfl
  · refine len ?_
    refine cD (fun h3 => ?_) (fun h3 => ?_)
    · exact ret1 (.bool false) rfl ⟨by rw [bad (by omega)], rfl⟩
    refine len ?_
    refine cD (fun h4 => ?_) (fun h4 => ?_)
    · exact ret1 (.bool false) rfl ⟨by rw [bad (by omega)], rfl⟩
    have hf := good (by omega)
    refine loop_rule (fun k : Nat => [(5, .int .i64 k)]) (fun k w' => k ≤ n ∧ w = w' ∧ l.all (fun x => decide (x.length ≤ 100)) = (l.drop k).all (fun x => decide (x.length ≤ 100))) (fun k _ => n - k) 0 ⟨rfl, trivial⟩ ⟨by omega, rfl, rfl⟩ rfl ?_
    rintro G k _ ⟨hk, rfl, he⟩
    refine len ?_
    refine cD (fun hlt => ?_) (fun hge => ?_)
    · have hlt : k < n := by omega
      obtain ⟨b, o, cs, x, rfl, hx, hdx, hbB, hc, Ax, nx, cx, rfl, hxs, -⟩ := hl.at_ hlt
      have hxl := hxs.1
      rw [hdx, List.all_cons] at he
      refine idx k rfl hlt ?_
      refine ld _ (hc 0 _ rfl) ?_
      refine len ?_
      refine cD (fun h5 => ?_) (fun h5 => ?_)
      · refine ret1 (.bool false) rfl ⟨?_, rfl⟩
        rw [hf, he, decide_eq_false (by omega)]; rfl
      · rw [decide_eq_true (by omega), Bool.true_and] at he
        refine arI (by omega) ?_
        exact next (k + 1) ⟨rfl, trivial⟩ ⟨by omega, rfl, he⟩ (by omega)
    · rw [drop_end (by rw [hl.len]; omega)] at he
      rw [he] at hf
      refine loop_rule (fun k : Nat => [(6, .int .i64 k)]) (fun k w' => k ≤ m ∧ w = w' ∧ p.all (fun x => decide (x.2.length ≤ 100)) = (p.drop k).all (fun x => decide (x.2.length ≤ 100))) (fun k _ => m - k) 0 ⟨rfl, trivial⟩ ⟨by omega, rfl, rfl⟩ rfl ?_
      rintro G k _ ⟨hk, rfl, he⟩
      refine len ?_
      refine cD (fun hlt => ?_) (fun hge => ?_)
      · have hlt : k < m := by omega
        obtain ⟨b, o, cs, x, rfl, hx, hdx, hbB, hc, hr⟩ := hp.at_ hlt
        obtain ⟨Ax, nx, cx, rfl, hxi, hxs, -⟩ := pr_open hr
        have hxl := hxs.1
        have hsz : tPr.sz = 2 := rfl
        rw [hsz] at hc
        rw [hdx, List.all_cons] at he
        refine idx k rfl hlt ?_
        refine fldA ?_
        refine ld _ (hc 1 _ rfl) ?_
        refine len ?_
        refine cD (fun h5 => ?_) (fun h5 => ?_)
        · refine ret1 (.bool false) rfl ⟨?_, rfl⟩
          rw [hf, he, decide_eq_false (by omega)]; rfl
        · rw [decide_eq_true (by omega), Bool.true_and] at he
          refine arI (by omega) ?_
          exact next (k + 1) ⟨rfl, trivial⟩ ⟨by omega, rfl, he⟩ (by omega)
      · refine ret1 (.bool true) rfl ⟨?_, rfl⟩
        rw [hf, he, drop_end (by rw [hp.len]; omega)]; rfl

end
end Go.Proofs.YtcpdhclnmjfldaaGreatDoor

/- Contracts: parts of a list of hypotheses. -/
namespace Go.Proofs.YtcpdhclnmjfldaaGreatDoor
open Go Go.RowKit

def shw (l : List (List Int)) (x : Int × List Int) (i : Nat) : Bool := showsL x.2 (l.getD i [])
def partL (l : List (List Int)) (x : Int × List Int) (list : List Nat) (som : Bool) : List Nat := list.filter (fun i => shw l x i == som)
theorem partL_sub {l : List (List Int)} {x : Int × List Int} {list : List Nat} {som : Bool} : ∀ i ∈ partL l x list som, i ∈ list := fun _ hi => (List.mem_filter.1 hi).1
theorem partL_le {l : List (List Int)} {x : Int × List Int} {list : List Nat} {som : Bool} : (partL l x list som).length ≤ list.length := List.length_filter_le _ _

section
variable {D D' : Nat → Prop} {w : World} {A A' : Option Addr} {n m c d : Nat}

end
end Go.Proofs.YtcpdhclnmjfldaaGreatDoor

/- What the functions of probe compute, in plain Lean: part 2, bits and lists of indices. -/
namespace Go.Proofs.YtcpdhclnmjfldaaGreatDoor

theorem bitsFrom_eq : ∀ (l : List Nat) (m : Nat), bitsFrom m l = m + bitsL l
  | [], m => rfl
  | i :: r, m => by
    unfold bitsL bitsFrom
    rw [bitsFrom_eq r (m + 2 ^ i), bitsFrom_eq r (0 + 2 ^ i)]; omega
theorem bitsL_nil : bitsL [] = 0 := rfl
theorem bitsL_cons (i : Nat) (r : List Nat) : bitsL (i :: r) = 2 ^ i + bitsL r := by
  show bitsFrom (0 + 2 ^ i) r = _
  rw [bitsFrom_eq]; omega
theorem bitsL_app (a b : List Nat) : bitsL (a ++ b) = bitsL a + bitsL b := by
  induction a with
  | nil => simp [bitsL_nil]
  | cons i r ih => rw [List.cons_append, bitsL_cons, bitsL_cons, ih]; omega
theorem bitsL_filter (f : Nat → Bool) (l : List Nat) : bitsL (l.filter f) + bitsL (l.filter fun i => !f i) = bitsL l := by
  induction l with
  | nil => rfl
  | cons i r ih =>
    rw [List.filter_cons, List.filter_cons, bitsL_cons]
    cases f i <;> simp [bitsL_cons] <;> omega
theorem bitsL_eq_zero {l : List Nat} : bitsL l = 0 ↔ l = [] := by
  cases l with
  | nil => simp [bitsL_nil]
  | cons i r =>
    rw [bitsL_cons]
    have : 0 < 2 ^ i := Nat.two_pow_pos i
    constructor
    · intro h; omega
    · intro h; cases h
theorem mem_succ (s n : Nat) : mem s (n + 1) = mem s n ++ if s.testBit n then [n] else [] := by
  unfold mem
  rw [List.range_succ, List.filter_append]
  congr 1
  simp only [List.filter_cons, List.filter_nil]
theorem bitsL_mem' (s n : Nat) : bitsL (mem s n) = s % 2 ^ n := by
  induction n with
  | zero => simp [mem, bitsL_nil, Nat.mod_one]
  | succ n ih =>
    rw [mem_succ, bitsL_app, ih]
    have h1 : s % 2 ^ (n + 1) = s % 2 ^ n + 2 ^ n * (s / 2 ^ n % 2) := by rw [Nat.pow_succ, Nat.mod_mul]
    rw [h1, Nat.testBit_eq_decide_div_mod_eq]
    rcases Nat.mod_two_eq_zero_or_one (s / 2 ^ n) with h | h <;> simp [h, bitsL_cons, bitsL_nil]
theorem bitsL_mem {s n : Nat} (h : s < 2 ^ n) : bitsL (mem s n) = s := by rw [bitsL_mem', Nat.mod_eq_of_lt h]
theorem mem_lt {s n i : Nat} (h : i ∈ mem s n) : i < n := by have := (List.mem_filter.1 h).1; simpa using this
theorem mem_len (s n : Nat) : (mem s n).length ≤ n := Nat.le_trans (List.length_filter_le _ _) (by simp)
theorem shr_and (s i : Nat) : (s >>> i) &&& 1 = 1 ↔ s.testBit i = true := by
  rw [Nat.testBit_eq_decide_div_mod_eq, decide_eq_true_iff, Nat.and_one_is_mod, Nat.shiftRight_eq_div_pow]
/-- Equal sets, equal lists. -/
theorem mem_bits {n : Nat} : ∀ {a b : Nat}, a < 2 ^ n → b < 2 ^ n → mem a n = mem b n → a = b := fun ha hb h => by rw [← bitsL_mem ha, ← bitsL_mem hb, h]
end Go.Proofs.YtcpdhclnmjfldaaGreatDoor

/- Contracts: which measurements separate; bits; the costs of all sets. -/
namespace Go.Proofs.YtcpdhclnmjfldaaGreatDoor
open Go Go.RowKit

def sepL (l : List (List Int)) (x : Int × List Int) (list : List Nat) : Bool := decide (0 < (partL l x list true).length ∧ (partL l x list true).length < list.length)
def rstep (l : List (List Int)) (c : Nat → Int) (set : Nat) (acc : Int × Bool) (x : Int × List Int) : Int × Bool :=
  if bitsL (partL l x (mem set l.length) true) = 0 ∨ bitsL (partL l x (mem set l.length) true) = set then acc
  else if acc.2 = false ∨ x.1 + max (c (bitsL (partL l x (mem set l.length) true))) (c (set - bitsL (partL l x (mem set l.length) true))) < acc.1
    then (x.1 + max (c (bitsL (partL l x (mem set l.length) true))) (c (set - bitsL (partL l x (mem set l.length) true))), true) else acc
def rcost (l : List (List Int)) (p : List (Int × List Int)) (c : Nat → Int) (set : Nat) : Int × Bool := p.foldl (rstep l c set) (0, false)
def rtab (l : List (List Int)) (p : List (Int × List Int)) : Nat → List Int
  | 0 => []
  | s + 1 => rtab l p s ++ [(rcost l p (fun k => (rtab l p s).getD k 0) s).1]
theorem rtab_len (l : List (List Int)) (p : List (Int × List Int)) : ∀ s, (rtab l p s).length = s
  | 0 => rfl
  | s + 1 => by rw [rtab, List.length_append, rtab_len l p s]; rfl
theorem part_bits_le {l : List (List Int)} {x : Int × List Int} {set : Nat} (h : set < 2 ^ l.length) : bitsL (partL l x (mem set l.length) true) ≤ set := by
  have h1 := bitsL_filter (fun i => shw l x i == true) (mem set l.length)
  rw [bitsL_mem h] at h1
  show bitsL ((mem set l.length).filter fun i => shw l x i == true) ≤ set
  omega

section
variable {D D' : Nat → Prop} {w : World} {A A' A2 : Option Addr} {n m k c d e : Nat}

end
end Go.Proofs.YtcpdhclnmjfldaaGreatDoor

/- Contracts: the costs of all sets of hypotheses. -/
namespace Go.Proofs.YtcpdhclnmjfldaaGreatDoor
open Go Go.RowKit

theorem rstep_eq {l : List (List Int)} {c : Nat → Int} {set one : Nat} {acc : Int × Bool} {x : Int × List Int} (h : bitsL (partL l x (mem set l.length) true) = one) :
    rstep l c set acc x = if one = 0 ∨ one = set then acc else if acc.2 = false ∨ x.1 + max (c one) (c (set - one)) < acc.1 then (x.1 + max (c one) (c (set - one)), true) else acc := by
  unfold rstep; rw [h]
def tabOk (t : List Int) : Prop := ∀ (k : Nat) (v : Int), t[k]? = some v → 0 ≤ v ∧ v ≤ k * 1048576
def prOk (p : List (Int × List Int)) : Prop := ∀ x ∈ p, 1 ≤ x.1 ∧ x.1 ≤ 1048576

section
variable {D D' : Nat → Prop} {w : World} {A A' A2 : Option Addr} {n m k c d e : Nat}

end
end Go.Proofs.YtcpdhclnmjfldaaGreatDoor

/- Search trees as data. -/
namespace Go.Proofs.YtcpdhclnmjfldaaGreatDoor
open Go Go.RowKit

inductive Tr where
  | mk (probe : Int) (rest : List Int) (kids : List Tr)
def Tr.probe : Tr → Int | .mk p _ _ => p
def Tr.rest : Tr → List Int | .mk _ r _ => r
def Tr.kids : Tr → List Tr | .mk _ _ k => k
theorem Tr.eta (t : Tr) : Tr.mk t.probe t.rest t.kids = t := by cases t; rfl

/-- A tree nested less than d deep, as it lies in three cells. -/
def tTr' : Nat → {a : Ty Tr // a.sz = 3}
  | 0 => ⟨{ sz := 3, rep := fun _ _ _ _ => False, len := fun h => h.elim, keep := fun _ h => h, more := fun _ h => h }, rfl⟩
  | d + 1 => ⟨tMap (tPair tInt (tPair (tSl tInt) (tSl (tTr' d).1 (by rw [(tTr' d).2]; decide)))) (fun t => (t.probe, t.rest, t.kids)), rfl⟩
def tTr (d : Nat) : Ty Tr := (tTr' d).1
theorem tTr_sz (d : Nat) : (tTr d).sz = 3 := (tTr' d).2
theorem tr_open {d : Nat} {D : Nat → Prop} {w : World} {cs : List Value} {t : Tr} (h : (tTr (d + 1)).rep D w cs t) :
    ∃ A n c A' n' c', cs = [.int .i64 t.probe, .slice A n c, .slice A' n' c'] ∧ I64 t.probe ∧ SlR tInt D w A n t.rest ∧ n ≤ c ∧ SlR (tTr d) D w A' n' t.kids ∧ n' ≤ c' := by
  obtain ⟨c1, c2, rfl, ⟨rfl, h1⟩, c3, c4, rfl, ⟨A, n, c, rfl, h2, h3⟩, A', n', c', rfl, h4, h5⟩ := h
  exact ⟨A, n, c, A', n', c', rfl, h1, h2, h3, h4, h5⟩
theorem tr_mk {d : Nat} {D : Nat → Prop} {w : World} {t : Tr} {A A' : Option Addr} {n c n' c' : Nat} (h1 : I64 t.probe) (h2 : SlR tInt D w A n t.rest) (h3 : n ≤ c) (h4 : SlR (tTr d) D w A' n' t.kids) (h5 : n' ≤ c') :
    (tTr (d + 1)).rep D w [.int .i64 t.probe, .slice A n c, .slice A' n' c'] t :=
  ⟨[.int .i64 t.probe], [.slice A n c, .slice A' n' c'], rfl, ⟨rfl, h1⟩, [.slice A n c], [.slice A' n' c'], rfl, ⟨A, n, c, rfl, h2, h3⟩, A', n', c', rfl, h4, h5⟩
theorem tr_pos {d : Nat} {D : Nat → Prop} {w : World} {cs : List Value} {t : Tr} (h : (tTr d).rep D w cs t) : ∃ e, d = e + 1 := by
  cases d with
  | zero => exact h.elim
  | succ d => exact ⟨d, rfl⟩
theorem tr_leaf {d : Nat} {D : Nat → Prop} {w : World} : (tTr (d + 1)).rep D w [.int .i64 0, .slice none 0 0, .slice none 0 0] (.mk 0 [] []) :=
  tr_mk (t := .mk 0 [] []) ⟨by decide, by decide⟩ .nil (Nat.le_refl _) .nil (Nat.le_refl _)
/-- A deeper bound serves too. -/
theorem tr_up : ∀ {d : Nat} {D : Nat → Prop} {w : World} {cs : List Value} {t : Tr}, (tTr d).rep D w cs t → (tTr (d + 1)).rep D w cs t
  | 0, _, _, _, _, h => h.elim
  | d + 1, D, w, cs, t, h => by
    obtain ⟨A, n, c, A', n', c', rfl, h1, h2, h3, h4, h5⟩ := tr_open h
    refine tr_mk h1 h2 h3 ⟨h4.1, h4.2.1, fun k x hx => ?_⟩ h5
    obtain ⟨b, o, cs, e1, e2, e3, e4⟩ := h4.2.2 k x hx
    refine ⟨b, o, cs, e1, e2, ?_, tr_up e4⟩
    rw [tTr_sz] at e3 ⊢; exact e3
end Go.Proofs.YtcpdhclnmjfldaaGreatDoor

/- Contracts: the reference's best tree. -/
namespace Go.Proofs.YtcpdhclnmjfldaaGreatDoor
open Go Go.RowKit

def rgood (l : List (List Int)) (c : Nat → Int) (list : List Nat) (x : Int × List Int) : Bool :=
  decide (0 < (partL l x list false).length ∧ 0 < (partL l x list true).length ∧ x.1 + max (c (bitsL (partL l x list false))) (c (bitsL (partL l x list true))) = c (bitsL list))
def firstFrom {α : Type} (f : α → Bool) (k : Nat) : List α → Option (Nat × α)
  | [] => none
  | x :: r => if f x then some (k, x) else firstFrom f (k + 1) r
def rtreeF (l : List (List Int)) (p : List (Int × List Int)) (c : Nat → Int) : Nat → List Nat → Tr
  | 0, _ => .mk 0 [] []
  | f + 1, list => match firstFrom (rgood l c list) 0 p with
    | some (i, x) => .mk i [] [rtreeF l p c f (partL l x list false), rtreeF l p c f (partL l x list true)]
    | none => .mk 0 (list.map fun k : Nat => (k : Int)) []
theorem part_split {l : List (List Int)} {x : Int × List Int} {list : List Nat} : (partL l x list true).length + (partL l x list false).length = list.length := by
  unfold partL
  induction list with
  | nil => rfl
  | cons i r ih => rw [List.filter_cons, List.filter_cons]; cases shw l x i <;> simp at ih ⊢ <;> omega
theorem part_bits_split {l : List (List Int)} {x : Int × List Int} {list : List Nat} : bitsL (partL l x list true) + bitsL (partL l x list false) = bitsL list := by
  unfold partL
  induction list with
  | nil => rfl
  | cons i r ih => rw [List.filter_cons, List.filter_cons, bitsL_cons]; cases shw l x i <;> simp [bitsL_cons] at ih ⊢ <;> omega
theorem part_bits_le' {l : List (List Int)} {x : Int × List Int} {list : List Nat} {som : Bool} : bitsL (partL l x list som) ≤ bitsL list := by
  have := part_bits_split (l := l) (x := x) (list := list)
  cases som <;> omega
abbrev All : Nat → Prop := fun _ => True

end Go.Proofs.YtcpdhclnmjfldaaGreatDoor

/- What the functions of probe compute, in plain Lean: part 3, trees. -/
namespace Go.Proofs.YtcpdhclnmjfldaaGreatDoor

abbrev Pr := Int × List Int
def full (N : Nat) : List Nat := mem (2 ^ N - 1) N
def kid (t : Tr) (i : Nat) : Tr := t.kids.getD i (.mk 0 [] [])
def prAt (p : List Pr) (i : Int) : Pr := p.getD i.toNat (0, [])
def ofNats (l : List Nat) : List Int := l.map fun k : Nat => (k : Int)

def rbestL (l : List (List Int)) (p : List Pr) : Tr × Int × Int :=
  if checkL l p ≠ 0 then (.mk 0 [] [], 0, checkL l p)
  else (rtreeF l p (fun k => (rtab l p (2 ^ l.length)).getD k 0) (l.length + 1) (full l.length), (rtab l p (2 ^ l.length)).getD (2 ^ l.length - 1) 0, 0)
def rnextL (l : List (List Int)) (p : List Pr) : Int × Bool × Int :=
  if (rbestL l p).2.2 ≠ 0 ∨ (rbestL l p).1.kids = [] then (0, false, (rbestL l p).2.2) else ((rbestL l p).1.probe, true, 0)
def sameF : Nat → Tr → Tr → Bool
  | 0, _, _ => false
  | d + 1, a, b => a.probe == b.probe && a.rest == b.rest && (a.kids.length == b.kids.length) && (a.kids.zip b.kids).all fun x => sameF d x.1 x.2

/-- The worst cost of a tree; -1 if it is not right. -/
def rworthF (l : List (List Int)) (p : List Pr) : Nat → Tr → List Nat → Int
  | 0, _, _ => -1
  | d + 1, t, list =>
    if t.kids = [] then (if (p.any fun x => sepL l x list) = true ∨ t.probe ≠ 0 ∨ t.rest ≠ ofNats list then -1 else 0)
    else if t.rest ≠ [] ∨ t.kids.length ≠ 2 ∨ t.probe < 0 ∨ t.probe ≥ p.length then -1
    else if partL l (prAt p t.probe) list false = [] ∨ partL l (prAt p t.probe) list true = [] then -1
    else if rworthF l p d (kid t 0) (partL l (prAt p t.probe) list false) < 0 ∨ rworthF l p d (kid t 1) (partL l (prAt p t.probe) list true) < 0 then -1
    else (prAt p t.probe).1 + max (rworthF l p d (kid t 0) (partL l (prAt p t.probe) list false)) (rworthF l p d (kid t 1) (partL l (prAt p t.probe) list true))
theorem prAt_ok {p : List Pr} (hok : prOk p) {i : Int} (h0 : 0 ≤ i) (h1 : i < p.length) : 1 ≤ (prAt p i).1 ∧ (prAt p i).1 ≤ 1048576 := by
  unfold prAt
  have hi : i.toNat < p.length := by omega
  rw [List.getD_eq_getElem?_getD, List.getElem?_eq_getElem hi]
  exact hok _ (List.getElem_mem hi)
theorem rworthF_le {l : List (List Int)} {p : List Pr} (hok : prOk p) : ∀ (d : Nat) (t : Tr) (list : List Nat), -1 ≤ rworthF l p d t list ∧ rworthF l p d t list ≤ list.length * 1048576
  | 0, t, list => by unfold rworthF; omega
  | d + 1, t, list => by
    unfold rworthF
    split
    · split <;> omega
    split
    · omega
    rename_i h1 h2
    split
    · omega
    rename_i h3
    split
    · omega
    rename_i h4
    have e1 := rworthF_le (l := l) hok d (kid t 0) (partL l (prAt p t.probe) list false)
    have e2 := rworthF_le (l := l) hok d (kid t 1) (partL l (prAt p t.probe) list true)
    have hs := part_split (l := l) (x := prAt p t.probe) (list := list)
    have hx := prAt_ok hok (i := t.probe) (by omega) (by omega)
    have n1 : 0 < (partL l (prAt p t.probe) list false).length := List.length_pos_iff.2 fun e => h3 (.inl e)
    have n2 : 0 < (partL l (prAt p t.probe) list true).length := List.length_pos_iff.2 fun e => h3 (.inr e)
    omega
def rworthL (l : List (List Int)) (p : List Pr) (d : Nat) (t : Tr) : Int × Bool × Int :=
  if checkL l p ≠ 0 then (0, false, checkL l p)
  else if rworthF l p d t (full l.length) < 0 then (0, false, 0) else (rworthF l p d t (full l.length), true, 0)
/-- Where a truth leads to, and what it costs. -/
def followF (p : List Pr) (truth : List Int) : Nat → Tr → Int → List Int × Int
  | 0, t, c => (t.rest, c)
  | d + 1, t, c => if t.kids = [] then (t.rest, c) else followF p truth d (kid t (if showsL (prAt p t.probe).2 truth then 1 else 0)) (c + (prAt p t.probe).1)
def rfollowL (l : List (List Int)) (p : List Pr) (d : Nat) (t : Tr) (truth : List Int) : List Int × Int × Int :=
  if (rworthL l p d t).2.2 ≠ 0 then ([], 0, (rworthL l p d t).2.2)
  else if (rworthL l p d t).2.1 = false ∨ setOk truth = false then ([], 0, 500)
  else ((followF p truth d t 0).1, (followF p truth d t 0).2, 0)

theorem checkL_ok {l : List (List Int)} {p : List Pr} (h : checkL l p = 0) : l.length ≤ 12 ∧ p.length ≤ 12 ∧ hypsOk l = true ∧ p.all probeOk = true := by
  unfold checkL at h
  split at h
  · cases h
  · split at h
    · rename_i h1 h2
      obtain ⟨h3, h4⟩ : hypsOk l = true ∧ p.all probeOk = true := by simpa using h2
      exact ⟨by omega, by omega, h3, h4⟩
    · cases h
theorem prOk_of {p : List Pr} (h : p.all probeOk = true) : prOk p := fun x hx => by
  have := List.all_eq_true.1 h x hx
  unfold probeOk at this
  simp at this
  omega
theorem checkL_val (l : List (List Int)) (p : List Pr) : 0 ≤ checkL l p ∧ checkL l p ≤ 500 := by
  unfold checkL; split
  · decide
  · split <;> decide
theorem full_len (N : Nat) : (full N).length ≤ N := mem_len _ _
theorem full_lt {N i : Nat} (h : i ∈ full N) : i < N := mem_lt h
theorem full_bits (N : Nat) : bitsL (full N) = 2 ^ N - 1 := bitsL_mem (by have := Nat.two_pow_pos N; omega)
end Go.Proofs.YtcpdhclnmjfldaaGreatDoor

/- Contracts: the reference's Best, Next; trees compared. -/
namespace Go.Proofs.YtcpdhclnmjfldaaGreatDoor
open Go Go.RowKit

theorem SlR.toAll {D : Nat → Prop} {w : World} {A : Option Addr} {n : Nat} {xs : List Int} (h : SlR tInt D w A n xs) : SlR tInt All w A n xs := h.more (by decide) (fun _ _ _ => trivial)
theorem i64_0 : I64 0 := ⟨by decide, by decide⟩
theorem two_pow_le {n : Nat} (h : n ≤ 12) : 2 ^ n ≤ 4096 := show 2 ^ n ≤ 2 ^ 12 from Nat.pow_le_pow_right (by omega) h

section
variable {D D' : Nat → Prop} {w : World} {A A' A2 : Option Addr} {n m k c d e : Nat}

end

theorem same_no {k : Nat} {a b : Tr} (h : a.probe ≠ b.probe ∨ a.rest ≠ b.rest ∨ a.kids.length ≠ b.kids.length ∨ k = 0) : sameF k a b = false := by
  cases k with
  | zero => rfl
  | succ k =>
    unfold sameF
    by_cases h1 : a.probe = b.probe
    · by_cases h2 : a.rest = b.rest
      · by_cases h3 : a.kids.length = b.kids.length
        · simp [h1, h2, h3] at h
        · simp [h3]
      · simp [h2]
    · simp [h1]
theorem same_yes {k : Nat} {a b : Tr} (h1 : a.probe = b.probe) (h2 : a.rest = b.rest) (h3 : a.kids.length = b.kids.length) (h4 : k ≠ 0) : sameF k a b = (a.kids.zip b.kids).all fun x => sameF (k - 1) x.1 x.2 := by
  obtain ⟨k, rfl⟩ : ∃ m, k = m + 1 := ⟨k - 1, by omega⟩
  conv => lhs; unfold sameF
  simp [h1, h2, h3]
theorem zip_drop_cons {α β : Type} {xs : List α} {ys : List β} {i : Nat} {x : α} {y : β} (hx : xs[i]? = some x) (hy : ys[i]? = some y) : (xs.zip ys).drop i = (x, y) :: (xs.zip ys).drop (i + 1) := by
  have h : (xs.zip ys)[i]? = some (x, y) := List.getElem?_zip_eq_some.2 ⟨hx, hy⟩
  obtain ⟨hlt, h⟩ := List.getElem?_eq_some_iff.1 h
  rw [List.drop_eq_getElem_cons hlt, h]

theorem c_Same : ∀ (k : Nat) (a b : Tr) (Da Db : Nat → Prop) (da db : Nat) (ca cb : List Value) (w : World), k ≤ 1000000 → (tTr da).rep Da w ca a → (tTr db).rep Db w cb b →
    CallZ Tryz.prog 14 #[.agg ca.toArray, .agg cb.toArray, .int .i64 (k : Int)] w (fun v w' => v = .bool (sameF k a b) ∧ Ext w w') := by
  intro k
  induction k using Nat.strongRecOn with
  | _ k ih =>
    intro a b Da Db da db ca cb w hk ha hb
    obtain ⟨da, rfl⟩ := tr_pos ha
    obtain ⟨db, rfl⟩ := tr_pos hb
    obtain ⟨A1, n1, c1, A2, n2, c2, rfl, hi, hr1, -, hk1, -⟩ := tr_open ha
    obtain ⟨B1, m1, e1, B2, m2, e2, rfl, hj, hr2, -, hk2, -⟩ := tr_open hb
    have hl1 := hk1.1
    have hl2 := hk2.1
    have hle := hk1.le
    refine fn_rule (args := [.agg #[.int .i64 a.probe, .slice A1 n1 c1, .slice A2 n2 c2], .agg #[.int .i64 b.probe, .slice B1 m1 e1, .slice B2 m2 e2], .int .i64 (k : Int)]) Tryz.func14 (by kernel_rfl) ?_
    refine box (fun g w1 hb1 => ?_)
    refine box (fun g2 w2 hb2 => ?_)
    have hx2 := hb1.ext.trans hb2.ext
    have hcg : CellsAt w2 g 0 [.int .i64 a.probe, .slice A1 n1 c1, .slice A2 n2 c2] := .blk (hb1.blk.ext hb2.ext)
    have hcg2 : CellsAt w2 g2 0 [.int .i64 b.probe, .slice B1 m1 e1, .slice B2 m2 e2] := .blk hb2.blk
    refine fldA ?_
    refine ld _ (hcg 0 _ rfl) ?_
    refine fldA ?_
    refine ld _ (hcg2 0 _ rfl) ?_
    refine cN (fun h1 => ?_) (fun h1 => ?_)
    · exact ret1 (.bool false) rfl ⟨by rw [same_no (.inl h1)], hx2⟩
    refine fldA ?_
    refine ld _ (hcg 1 _ rfl) ?_
    refine fldA ?_
    refine ld _ (hcg2 1 _ rfl) ?_
    refine callB (c_SameInts (hr1.ext hx2).toAll (hr2.ext hx2).toAll) (fun h2 => ?_) (fun h2 => ?_)
    · have h2 : a.rest = b.rest := by simpa using h2
      refine fldA ?_
      refine ld _ (hcg 2 _ rfl) ?_
      refine len ?_
      refine fldA ?_
      refine ld _ (hcg2 2 _ rfl) ?_
      refine len ?_
      refine cN (fun h3 => ?_) (fun h3 => ?_)
      · exact ret1 (.bool false) rfl ⟨by rw [same_no (.inr (.inr (.inl (by omega))))], hx2⟩
      refine cE (fun h4 => ?_) (fun h4 => ?_)
      · exact ret1 (.bool false) rfl ⟨by rw [same_no (.inr (.inr (.inr (by omega))))], hx2⟩
      have hs := same_yes (k := k) h1 h2 (by omega) (by omega)
      refine loop_rule (fun i : Nat => [(7, .int .i64 i)]) (fun i w' => i ≤ n2 ∧ Ext w2 w' ∧ sameF k a b = ((a.kids.zip b.kids).drop i).all fun x => sameF (k - 1) x.1 x.2) (fun i _ => n2 - i) 0 ⟨rfl, trivial⟩ ⟨by omega, .refl _ _, hs⟩ rfl ?_
      rintro G i w3 ⟨hi', hx3, he⟩
      have hw3 := hx2.trans hx3
      have hc1 := hcg.kept hx3 trivial
      have hc2 := hcg2.kept hx3 trivial
      refine fldA ?_
      refine ld _ (hc1 2 _ rfl) ?_
      refine len ?_
      refine cD (fun hlt => ?_) (fun hge => ?_)
      · have hlt : i < n2 := by omega
        obtain ⟨b1, o1, cx, x, rfl, hx, -, -, hcx, hrx⟩ := (hk1.ext hw3).at_ hlt
        obtain ⟨b2, o2, cy, y, rfl, hy, -, -, hcy, hry⟩ := (hk2.ext hw3).at_ (k := i) (by omega)
        rw [zip_drop_cons hx hy, List.all_cons] at he
        rw [tTr_sz] at hcx hcy
        refine drawX [0, 1, 2, 3, 4, 5, 6, 7, 8, 9, 10, 11, 12, 13] [12] mx (by kernel_rfl) ?_
        refine fldA ?_
        refine ldX _ (hc1 2 _ rfl) (.refl _ _) ?_
        refine idx i rfl hlt ?_
        refine ldAX cx hcx ((tTr da).len hrx |>.trans (tTr_sz da)) (.refl _ _) ?_
        refine fldA ?_
        refine ldX _ (hc2 2 _ rfl) (.refl _ _) ?_
        refine idx i rfl (by omega) ?_
        refine ldAX cy hcy ((tTr db).len hry |>.trans (tTr_sz db)) (.refl _ _) ?_
        refine arN (k - 1) (by omega) (by omega) ?_
        refine callE (ih (k - 1) (by omega) x y Da Db da db cx cy w3 (by omega) hrx hry) (fun w4 h5 hx4 => ?_) (fun w4 h5 hx4 => ?_)
        · refine strS hx4 ?_
          refine arI (by omega) ?_
          exact next (i + 1) ⟨rfl, trivial⟩ ⟨by omega, hx3.trans hx4, by rw [he, h5, Bool.true_and]⟩ (by omega)
        · refine strS hx4 ?_
          exact ret1 (.bool false) rfl ⟨by rw [he, h5]; rfl, hw3.trans hx4⟩
      · refine ret1 (.bool true) rfl ⟨?_, hw3⟩
        rw [he, drop_end (by rw [List.length_zip]; omega)]; rfl
    · have h2 : a.rest ≠ b.rest := by simpa using h2
      exact ret1 (.bool false) rfl ⟨by rw [same_no (.inr (.inl h2))], hx2⟩
end Go.Proofs.YtcpdhclnmjfldaaGreatDoor

/- Contracts: the reference's Worth and Follow. -/
namespace Go.Proofs.YtcpdhclnmjfldaaGreatDoor
open Go Go.RowKit

theorem kid_of {t a : Tr} {i : Nat} (h : t.kids[i]? = some a) : kid t i = a := by unfold kid; rw [List.getD_eq_getElem?_getD, h]; rfl
theorem prAt_of {p : List Pr} {i : Int} {x : Pr} (h : p[i.toNat]? = some x) : prAt p i = x := by unfold prAt; rw [List.getD_eq_getElem?_getD, h]; rfl

theorem rworth_inv {l : List (List Int)} {p : List Pr} {d : Nat} {t : Tr} {list : List Nat} (h : 0 ≤ rworthF l p (d + 1) t list) (hk : t.kids ≠ []) :
    t.kids.length = 2 ∧ 0 ≤ t.probe ∧ t.probe < p.length ∧ partL l (prAt p t.probe) list false ≠ [] ∧ partL l (prAt p t.probe) list true ≠ [] ∧
      0 ≤ rworthF l p d (kid t 0) (partL l (prAt p t.probe) list false) ∧ 0 ≤ rworthF l p d (kid t 1) (partL l (prAt p t.probe) list true) ∧
      rworthF l p (d + 1) t list = (prAt p t.probe).1 + max (rworthF l p d (kid t 0) (partL l (prAt p t.probe) list false)) (rworthF l p d (kid t 1) (partL l (prAt p t.probe) list true)) := by
  rw [rworthF.eq_2, if_neg hk] at h ⊢
  split at h
  · omega
  rename_i h1
  rw [if_neg h1]
  split at h
  · omega
  rename_i h2
  rw [if_neg h2]
  split at h
  · omega
  rename_i h3
  rw [if_neg h3]
  have h2' := not_or.1 h2
  exact ⟨by omega, by omega, by omega, h2'.1, h2'.2, by omega, by omega, rfl⟩

section
variable {D Dt Du : Nat → Prop} {w : World} {A A' A2 : Option Addr} {n m k c d e g : Nat}

end
end Go.Proofs.YtcpdhclnmjfldaaGreatDoor

/- Contracts: the reference's Follow. -/
namespace Go.Proofs.YtcpdhclnmjfldaaGreatDoor
open Go Go.RowKit

theorem rworthL_ok {l : List (List Int)} {p : List Pr} {d : Nat} {t : Tr} (h1 : (rworthL l p d t).2.2 = 0) (h2 : (rworthL l p d t).2.1 = true) : checkL l p = 0 ∧ 0 ≤ rworthF l p d t (full l.length) := by
  unfold rworthL at h1 h2
  split at h1
  · rename_i h; exact absurd h1 h
  rename_i h
  rw [if_neg h] at h2
  split at h2
  · cases h2
  exact ⟨by omega, by omega⟩

theorem followF_s {p : List Pr} {u : List Int} {d : Nat} {t : Tr} {c : Int} : followF p u (d + 1) t c = if t.kids = [] then (t.rest, c) else followF p u d (kid t (if showsL (prAt p t.probe).2 u then 1 else 0)) (c + (prAt p t.probe).1) := rfl

section
variable {D Dt Du : Nat → Prop} {w : World} {A A' A2 A4 : Option Addr} {n m k c d e g : Nat}

end
end Go.Proofs.YtcpdhclnmjfldaaGreatDoor

/- What the functions of probe compute, in plain Lean: part 4, masks. -/
namespace Go.Proofs.YtcpdhclnmjfldaaGreatDoor

/-! ### sums of bits -/
theorem bits_lt : ∀ {L : List Nat} {n : Nat}, L.Pairwise (· < ·) → (∀ i ∈ L, i < n) → bitsL L < 2 ^ n := by
  intro L n
  induction n generalizing L with
  | zero => intro _ h; cases L with
    | nil => decide
    | cons i r => have := h i List.mem_cons_self; omega
  | succ n ih =>
    intro hp h
    rcases List.eq_nil_or_concat L with rfl | ⟨L', x, rfl⟩
    · rw [bitsL_nil]; exact Nat.two_pow_pos _
    · rw [List.concat_eq_append] at hp h ⊢
      obtain ⟨h1, _, h2⟩ := List.pairwise_append.1 hp
      have hx := h x (List.mem_append_right _ List.mem_cons_self)
      rw [bitsL_app, bitsL_cons, bitsL_nil]
      have := ih h1 (fun i hi => by have := h2 i hi x List.mem_cons_self; omega)
      have hxp : 2 ^ x ≤ 2 ^ n := Nat.pow_le_pow_right (by omega) (by omega)
      rw [Nat.pow_succ]; omega
theorem bits_testBit : ∀ {L : List Nat}, L.Pairwise (· < ·) → ∀ i, (bitsL L).testBit i = L.contains i := by
  intro L hp i
  rcases List.eq_nil_or_concat L with rfl | ⟨L', x, rfl⟩
  · simp [bitsL_nil]
  · rw [List.concat_eq_append] at hp ⊢
    obtain ⟨h1, _, h2⟩ := List.pairwise_append.1 hp
    have hlt : bitsL L' < 2 ^ x := bits_lt h1 fun j hj => h2 j hj x List.mem_cons_self
    have ih := bits_testBit h1 i
    rw [bitsL_app, bitsL_cons, bitsL_nil, Nat.add_zero, Nat.add_comm]
    by_cases hix : i < x
    · rw [Nat.testBit_two_pow_add_gt hix, ih]
      have : (i == x) = false := beq_eq_false_iff_ne.2 (by omega)
      simp; omega
    · by_cases he : i = x
      · subst he
        rw [Nat.testBit_two_pow_add_eq, Nat.testBit_lt_two_pow hlt]
        simp
      · have hbig : 2 ^ x + bitsL L' < 2 ^ i := by
          have : 2 ^ (x + 1) ≤ 2 ^ i := Nat.pow_le_pow_right (by omega) (by omega)
          rw [Nat.pow_succ] at this; omega
        rw [Nat.testBit_lt_two_pow hbig]
        have hn : i ∉ L' := fun hm => by have := h2 i hm x List.mem_cons_self; omega
        simp [hn, he]
  termination_by L => L.length
  decreasing_by simp_all
theorem range_sorted (n : Nat) : (List.range n).Pairwise (· < ·) := List.pairwise_lt_range
theorem filter_sorted (f : Nat → Bool) (n : Nat) : ((List.range n).filter f).Pairwise (· < ·) := (range_sorted n).filter f
theorem filter_testBit (f : Nat → Bool) (n i : Nat) : (bitsL ((List.range n).filter f)).testBit i = (decide (i < n) && f i) := by
  rw [bits_testBit (filter_sorted f n), Bool.eq_iff_iff]
  simp
end Go.Proofs.YtcpdhclnmjfldaaGreatDoor

/- What the functions of probe compute, in plain Lean: part 5, the program's own way: trailing zeros, lists of bits, the best choice. -/
namespace Go.Proofs.YtcpdhclnmjfldaaGreatDoor

def tab64 : List Nat := [0, 1, 56, 2, 57, 49, 28, 3, 61, 58, 42, 50, 38, 29, 17, 4, 62, 47, 59, 36, 45, 43, 51, 22, 53, 39, 33, 30, 24, 18, 12, 5, 63, 55, 48, 27, 60, 41, 37, 16, 46, 35, 44, 21, 52, 32, 23, 11, 54, 26, 40, 15, 34, 20, 31, 10, 25, 14, 19, 9, 13, 8, 7, 6]
/-- Where Go looks the number of trailing zeros up. -/
def tzAt (x : Nat) : Nat := ((x &&& (18446744073709551616 - x)) * 285870213051353865 % 18446744073709551616) >>> 58
def tz (x : Nat) : Nat := tab64.getD (tzAt x) 0
def tzOk (s : Nat) : Bool := s == 0 || decide (tzAt s < 64) && decide (tz s < 12) && decide (s &&& (s - 1) < s)
def listOk (s : Nat) : Bool := s == 0 || mem s 12 == tz s :: mem (s &&& (s - 1)) 12
theorem tz_all : ((List.range 4096).all fun s => tzOk s && listOk s) = true := by kernel_rfl
theorem tz_ok {s : Nat} (h : s < 4096) : tzOk s = true := by
  have := List.all_eq_true.1 tz_all s (List.mem_range.2 h)
  simp only [Bool.and_eq_true] at this
  exact this.1
theorem list_ok {s : Nat} (h : s < 4096) (h0 : s ≠ 0) : mem s 12 = tz s :: mem (s &&& (s - 1)) 12 := by
  have := List.all_eq_true.1 tz_all s (List.mem_range.2 h)
  simp only [Bool.and_eq_true] at this
  have h2 := this.2
  unfold listOk at h2
  rw [Bool.or_eq_true] at h2
  rcases h2 with h2 | h2
  · exact absurd (eq_of_beq h2) h0
  · exact eq_of_beq h2
theorem tz_spec {s : Nat} (h : s < 4096) (h0 : s ≠ 0) : tzAt s < 64 ∧ tz s < 12 ∧ s &&& (s - 1) < s := by
  have := tz_ok h
  unfold tzOk at this
  rw [Bool.or_eq_true] at this
  rcases this with h2 | h2
  · exact absurd (eq_of_beq h2) h0
  · simp only [Bool.and_eq_true, decide_eq_true_eq] at h2; exact ⟨h2.1.1, h2.1.2, h2.2⟩

/-! ### the best choice, by sets of bits -/
def psep (m S : Nat) : Bool := !(m &&& S == 0) && !(m &&& S == S)
def pstep (rec : Nat → Int × Int) (S i : Nat) (x : Int × Nat) (acc : Int × Int) : Int × Int :=
  if psep x.2 S = true then (if acc.2 < 0 ∨ x.1 + max (rec (x.2 &&& S)).1 (rec (S - (x.2 &&& S))).1 < acc.1 then (x.1 + max (rec (x.2 &&& S)).1 (rec (S - (x.2 &&& S))).1, (i : Int)) else acc) else acc
def pfold (rec : Nat → Int × Int) (S : Nat) : Nat → List (Int × Nat) → Int × Int → Int × Int
  | _, [], acc => acc
  | i, x :: r, acc => pfold rec S (i + 1) r (pstep rec S i x acc)
def pb (ps : List (Int × Nat)) : Nat → Nat → Int × Int
  | 0, _ => (0, -1)
  | f + 1, S => pfold (pb ps f) S 0 ps (0, -1)
def B (ps : List (Int × Nat)) (S : Nat) : Int × Int := pb ps (S + 1) S
theorem psep_lt {m S : Nat} (h : psep m S = true) : m &&& S < S ∧ S - (m &&& S) < S ∧ 0 < m &&& S := by
  unfold psep at h
  simp at h
  have : m &&& S ≤ S := Nat.and_le_right
  omega
theorem pfold_congr {r1 r2 : Nat → Int × Int} {S : Nat} (h : ∀ T, T < S → r1 T = r2 T) : ∀ (ps : List (Int × Nat)) (i : Nat) (acc : Int × Int), pfold r1 S i ps acc = pfold r2 S i ps acc
  | [], _, _ => rfl
  | x :: r, i, acc => by
    have e : pstep r1 S i x acc = pstep r2 S i x acc := by
      unfold pstep
      by_cases hs : psep x.2 S = true
      · obtain ⟨h1, h2, _⟩ := psep_lt hs
        rw [h _ h1, h _ h2]
      · rw [if_neg hs, if_neg hs]
    unfold pfold
    rw [e]
    exact pfold_congr h r (i + 1) _
theorem pb_fuel {ps : List (Int × Nat)} : ∀ (S f g : Nat), S < f → S < g → pb ps f S = pb ps g S := by
  intro S
  induction S using Nat.strongRecOn with
  | _ S ih =>
    intro f g hf hg
    obtain ⟨f, rfl⟩ : ∃ k, f = k + 1 := ⟨f - 1, by omega⟩
    obtain ⟨g, rfl⟩ : ∃ k, g = k + 1 := ⟨g - 1, by omega⟩
    exact pfold_congr (fun T hT => ih T hT f g (by omega) (by omega)) ps 0 _
theorem B_eq (ps : List (Int × Nat)) (S : Nat) : B ps S = pfold (B ps) S 0 ps (0, -1) := by
  show pfold (pb ps S) S 0 ps (0, -1) = _
  exact pfold_congr (fun T hT => pb_fuel T _ _ (by omega) (by omega)) ps 0 _
def psOk (ps : List (Int × Nat)) : Prop := ∀ x ∈ ps, 1 ≤ x.1 ∧ x.1 ≤ 1048576
def accOk (S : Nat) (i : Nat) (a : Int × Int) : Prop := 0 ≤ a.1 ∧ a.1 ≤ S * 1048576 ∧ -1 ≤ a.2 ∧ a.2 < i
theorem pstep_ok {rec : Nat → Int × Int} {S i : Nat} {x : Int × Nat} {acc : Int × Int} (hr : ∀ T, T < S → 0 ≤ (rec T).1 ∧ (rec T).1 ≤ T * 1048576) (hx : 1 ≤ x.1 ∧ x.1 ≤ 1048576) (ha : accOk S i acc) : accOk S (i + 1) (pstep rec S i x acc) := by
  unfold pstep
  obtain ⟨a1, a2, a3, a4⟩ := ha
  split
  · rename_i hs
    obtain ⟨h1, h2, h3⟩ := psep_lt hs
    have r1 := hr _ h1
    have r2 := hr _ h2
    split
    · exact ⟨by show (0 : Int) ≤ x.1 + max _ _; omega, by show x.1 + max _ _ ≤ (S : Int) * 1048576; omega, by show (-1 : Int) ≤ (i : Int); omega, by show (i : Int) < ((i + 1 : Nat) : Int); omega⟩
    · exact ⟨a1, a2, a3, by omega⟩
  · exact ⟨a1, a2, a3, by omega⟩
theorem pfold_ok {rec : Nat → Int × Int} {S : Nat} (hr : ∀ T, T < S → 0 ≤ (rec T).1 ∧ (rec T).1 ≤ T * 1048576) : ∀ (ps : List (Int × Nat)) (i : Nat) (acc : Int × Int), psOk ps → accOk S i acc → accOk S (i + ps.length) (pfold rec S i ps acc)
  | [], i, acc, _, h => h
  | x :: r, i, acc, hp, h => by
    have := pfold_ok hr r (i + 1) (pstep rec S i x acc) (fun y hy => hp y (List.mem_cons_of_mem _ hy)) (pstep_ok hr (hp x List.mem_cons_self) h)
    rw [List.length_cons, show i + (r.length + 1) = i + 1 + r.length from by omega]
    exact this
theorem B_ok {ps : List (Int × Nat)} (hp : psOk ps) (S : Nat) : accOk S ps.length (B ps S) := by
  induction S using Nat.strongRecOn with
  | _ S ih =>
    rw [B_eq]
    have := pfold_ok (rec := B ps) (S := S) (fun T hT => ⟨(ih T hT).1, (ih T hT).2.1⟩) ps 0 (0, -1) hp ⟨by decide, by show (0 : Int) ≤ (S : Int) * 1048576; omega, by decide, by decide⟩
    rwa [Nat.zero_add] at this
end Go.Proofs.YtcpdhclnmjfldaaGreatDoor

/- Contracts of the program: trailing zeros, lists, copies. -/
namespace Go.Proofs.YtcpdhclnmjfldaaGreatDoor
open Go Go.RowKit

/-- The table of math/bits lies where it was laid. -/
def TabW (w : World) : Prop := CellsAt w 1 0 (tab64.map fun n : Nat => Value.int .u8 (n : Int))
theorem TabW.ext {w w' : World} (h : TabW w) (k : Ext w w') : TabW w' := CellsAt.kept h k trivial

theorem arC {kd : IntKind} {n : Int} {K : Value → Prop} (c : Int) (h : kd.wrap n = c) (k : K (.int kd c)) : ArP kd n K := by rw [ArP_eq, h]; exact k
theorem shrC {kd : IntKind} {a b : Int} {K : Value → Prop} (c : Int) (hb : 0 ≤ b) (h : a.fdiv (2 ^ (min b.toNat kd.bits)) = c) (k : K (.int kd c)) : ShrP kd a b K := by rw [ShrP_eq, h]; exact ⟨hb, k⟩
theorem convC {P : Program} {s t : TypeId} {k0 k : IntKind} {n : Int} {K : Value → Prop} [IntTy P s k0] [IntTy P t k] (c : Int) (h : k.wrap n = c) (kk : K (.int k c)) : ConvP P s t (.int k0 n) K := conv (by rw [h]; exact kk)

theorem tab_at (k : Nat) (h : k < 64) : (tab64.map fun n : Nat => Value.int .u8 (n : Int))[k]? = some (.int .u8 ((tab64.getD k 0 : Nat) : Int)) := by
  have hl : k < tab64.length := h
  rw [List.getElem?_map, List.getD_eq_getElem?_getD, List.getElem?_eq_getElem hl]; rfl

section
variable {D : Nat → Prop} {w : World} {A A' : Option Addr} {n m c d : Nat}
theorem c_TZ64 {x : Nat} (hx : x < 4096) (h0 : x ≠ 0) (hT : TabW w) : CallZ Tryz.prog 78 #[.int .u64 x] w (fun v w' => v = .int .i64 (tz x : Nat) ∧ w' = w) := by
  obtain ⟨h1, h2, -⟩ := tz_spec hx h0
  refine fn_rule (args := [.int .u64 x]) Tryz.func78 (by kernel_rfl) ?_
  refine cE (fun h => absurd (by omega) h0) (fun _ => ?_)
  obtain ⟨v1, hv1⟩ : ∃ v1 : Nat, v1 = 18446744073709551616 - x := ⟨_, rfl⟩
  obtain ⟨y, hy⟩ : ∃ y : Nat, y = x &&& v1 := ⟨_, rfl⟩
  obtain ⟨q, hq⟩ : ∃ q : Nat, q = y * 285870213051353865 % 18446744073709551616 := ⟨_, rfl⟩
  obtain ⟨k, hk⟩ : ∃ k : Nat, k = tzAt x := ⟨_, rfl⟩
  obtain ⟨r, hr⟩ : ∃ r : Nat, r = tz x := ⟨_, rfl⟩
  have hqk : q >>> 58 = k := by unfold tzAt at hk; rw [hk, hq, hy, hv1]
  have hrk : r = tab64.getD k 0 := by rw [hr, hk, tz]
  have hg := tab_at k (by rw [hk]; exact h1)
  rw [← hrk] at hg
  rw [← hk] at h1
  rw [← hr] at h2 ⊢
  refine arC (v1 : Int) (by rw [u64_wrap]; omega) ?_
  refine bitR (y : Int) (by rw [u64_and_nat x v1 (by omega) (by omega), hy]) ?_
  refine arC (q : Int) (by rw [u64_wrap]; omega) ?_
  refine shrC (k : Int) (by decide) (by
    rw [← hqk, Nat.shiftRight_eq_div_pow, show (min (Int.toNat 58) IntKind.u64.bits) = 58 from rfl, Int.fdiv_eq_ediv_of_nonneg _ (by decide)]
    rfl) ?_
  refine idxR k rfl h1 ?_
  refine ld _ (by have := hT _ _ hg; simpa using this) ?_
  refine convC (r : Int) (IntWalk.i64_in _ (by omega)) ?_
  exact ret1 (.int .i64 (r : Nat)) rfl ⟨rfl, rfl⟩
theorem c_TZ {x : Nat} (hx : x < 4096) (h0 : x ≠ 0) (hT : TabW w) : CallZ Tryz.prog 58 #[.int .u64 x] w (fun v w' => v = .int .i64 (tz x : Nat) ∧ w' = w) := by
  refine fn_rule (args := [.int .u64 x]) Tryz.func58 (by kernel_rfl) ?_
  refine call_of (c_TZ64 hx h0 hT) ?_
  rintro _ w1 ⟨rfl, rfl⟩
  exact ret1 (.int .i64 (tz x : Nat)) rfl ⟨rfl, rfl⟩
theorem c_list {s : Nat} (hs : s < 4096) (hT : TabW w) : CallZ Tryz.prog 36 #[.int .i64 s] w (fun v w' => NewL w w' v (mem s 12)) := by
  refine fn_rule (args := [.int .i64 s]) Tryz.func36 (by kernel_rfl) ?_
  refine loop4 (fun (x : Nat) (A : Option Addr) (n c : Nat) => [(0, .int .i64 x), (2, .slice A n c)])
    (fun x A n c w' => x < 4096 ∧ ∃ done : List Nat, OwnF w w' A n c 3 1 (done.map nv) ∧ mem s 12 = done ++ mem x 12) (fun x _ _ _ _ => x) s none 0 0 ⟨rfl, rfl, trivial⟩
    ⟨hs, [], OwnF.nil (.refl _ _), rfl⟩ rfl ?_
  rintro G x A2 n2 c2 w1 ⟨hx, done, hown, he⟩
  have hcnt := hown.cnt
  have hml := mem_len s 12
  have hdl : done.length ≤ 12 := by rw [he, List.length_append] at hml; omega
  refine cN (fun hne => ?_) (fun heq => ?_)
  · have h0 : x ≠ 0 := by omega
    obtain ⟨-, h2, h3⟩ := tz_spec hx h0
    rw [list_ok hx h0] at he
    refine convC (x : Int) (by rw [u64_wrap]; omega) ?_
    refine call_of (c_TZ hx h0 (hT.ext hown.ext)) ?_
    rintro _ w1 ⟨rfl, rfl⟩
    refine lit [.int .i64 (tz x : Nat)] (fun g w3 hb3 => ?_)
    refine appF (hown.then hb3.ext) (hb3.src (sz := 1) rfl) (by omega) (fun A' c' w4 ho4 _ _ => ?_)
    refine arN (x - 1) (by omega) (by omega) ?_
    refine andV (fun q hq => ?_)
    rw [← hq] at h3 he
    refine next4 q A' (n2 + 1) c' ⟨rfl, rfl, trivial⟩ ⟨by omega, done ++ [tz x], by rw [List.map_append]; exact ho4, by rw [he]; simp⟩ (by omega)
  · have h0 : x = 0 := by omega
    subst h0
    refine ret1 (.slice A2 n2 c2) rfl ?_
    have : mem s 12 = done := by rw [he]; simp [mem]
    rw [this]
    refine hown.newL (fun y hy => ?_) (by omega)
    rw [← this] at hy
    have := mem_lt hy; omega
end
end Go.Proofs.YtcpdhclnmjfldaaGreatDoor

/- Contracts of the program: what separates, the best choice. -/
namespace Go.Proofs.YtcpdhclnmjfldaaGreatDoor
open Go Go.RowKit

structure PD where
  truths : List Nat
  shown : List Nat
  costs : List Int
  sets : List Nat
def PD.ps (pd : PD) : List (Int × Nat) := pd.costs.zip pd.shown
structure PH where
  A0 : Option Addr
  n0 : Nat
  c0 : Nat
  A1 : Option Addr
  n1 : Nat
  c1 : Nat
  A2 : Option Addr
  n2 : Nat
  c2 : Nat
  A3 : Option Addr
  n3 : Nat
  c3 : Nat
def PH.cells (h : PH) (g : Nat) : List Value := [.slice h.A0 h.n0 h.c0, .slice h.A1 h.n1 h.c1, .slice h.A2 h.n2 h.c2, .slice h.A3 h.n3 h.c3, .map (some g)]
/-- Block b is a plan: its lists; its map is block g. -/
structure PlanAt (w : World) (b g : Nat) (h : PH) (pd : PD) : Prop where
  blk : Blk w b 88 (h.cells g)
  ne : b ≠ g
  truths : SlR tNat (fun x => x ≠ g) w h.A0 h.n0 pd.truths
  shown : SlR tNat (fun x => x ≠ g) w h.A1 h.n1 pd.shown
  costs : SlR tInt (fun x => x ≠ g) w h.A2 h.n2 pd.costs
  sets : SlR tNat (fun x => x ≠ g) w h.A3 h.n3 pd.sets
theorem PlanAt.kept {w w' : World} {b g : Nat} {h : PH} {pd : PD} (p : PlanAt w b g h pd) (k : Kept (fun x => x ≠ g) w w') : PlanAt w' b g h pd :=
  ⟨p.blk.kept k p.ne, p.ne, p.truths.kept k (fun _ _ h => h), p.shown.kept k (fun _ _ h => h), p.costs.kept k (fun _ _ h => h), p.sets.kept k (fun _ _ h => h)⟩
structure PdOk (pd : PD) : Prop where
  len : pd.shown.length = pd.costs.length
  le : pd.shown.length ≤ 12
  lt : ∀ m ∈ pd.shown, m < 4096
  cost : ∀ c ∈ pd.costs, 1 ≤ c ∧ c ≤ 1048576
theorem PdOk.psOk {pd : PD} (h : PdOk pd) : psOk pd.ps := fun _ hx => h.cost _ (List.of_mem_zip hx).1
abbrev cval (c : Int × Int) : Value := .agg #[.int .i64 c.1, .int .i64 c.2]
/-- What the map remembers is right. -/
def MapOk (w : World) (g : Nat) (ps : List (Int × Nat)) : Prop := ∃ f, MapFn .i64 w g f ∧ ∀ k v, f k = some v → ∃ S : Nat, k = (S : Int) ∧ v = cval (B ps S)
theorem MapOk.kept {D : Nat → Prop} {w w' : World} {g : Nat} {ps : List (Int × Nat)} (h : MapOk w g ps) (k : Kept D w w') (hD : D g) : MapOk w' g ps := let ⟨f, h1, h2⟩ := h; ⟨f, h1.kept k hD, h2⟩
theorem MapOk.lt {w : World} {g : Nat} {ps : List (Int × Nat)} (h : MapOk w g ps) : g < w.heap.size := let ⟨_, h1, _⟩ := h; h1.lt
abbrev ptrQ (b : Nat) : Value := .pointer (some (ad b 0))

theorem yield_ofP {P : Program} {l : Nat} {args : Array Value} {w : World} {R K : VK} (h : YieldP P l args R w) (k : ∀ v w', R v w' → K v w') : YieldP P l args K w := by
  rw [YieldP_eq] at h ⊢; exact h.mono k

section
variable {D : Nat → Prop} {w : World} {A A' : Option Addr} {n m c d : Nat}

theorem c_separating1 {b g bx bs S l : Nat} {h : PH} {pd : PD} (hok : PdOk pd) (hS : S < 4096) (J : Nat → World → Prop) (Jx : World → Prop)
    (hJ : ∀ k w, J k w → PlanAt w b g h pd ∧ w.cell? (ad bx 0) = some (ptrQ b) ∧ w.cell? (ad bs 0) = some (.int .i64 (S : Int)))
    (hstep : ∀ k w m, J k w → pd.shown[k]? = some m → psep m S = true → ∀ T : Nat, T = m &&& S → YieldP Tryz.prog l [.int .i64 (k : Int), .int .i64 (T : Int)].toArray (fun v w' => (v = .bool true ∧ J (k + 1) w') ∨ (v = .bool false ∧ Jx w')) w)
    (hskip : ∀ k w m, J k w → pd.shown[k]? = some m → psep m S = false → J (k + 1) w) (h0 : J 0 w) :
    CallZ Tryz.prog 59 #[.func (.yield l) #[] #[], ptrQ bx, ptrQ bs] w (fun _ w' => J pd.shown.length w' ∨ Jx w') := by
  refine fn_rule (args := [.func (.yield l) #[] #[], ptrQ bx, ptrQ bs]) Tryz.func59 (by kernel_rfl) ?_
  obtain ⟨hp, hbx, hbs⟩ := hJ 0 w h0
  have hn1 := hp.shown.1
  have hle := hok.le
  refine ld _ hbx ?_
  refine fldA ?_
  refine ld (.slice h.A1 h.n1 h.c1) (hp.blk.cell rfl) ?_
  refine len ?_
  refine loop_rule (fun k : Nat => [(12, .int .i64 k)]) (fun k w' => k ≤ h.n1 ∧ J k w') (fun k _ => h.n1 - k) 0 ⟨rfl, trivial⟩ ⟨by omega, h0⟩ rfl ?_
  rintro G k w1 ⟨hk, hj⟩
  obtain ⟨hp1, hbx1, hbs1⟩ := hJ k w1 hj
  refine cD (fun hlt => ?_) (fun hge => ?_)
  · have hlt : k < h.n1 := by omega
    obtain ⟨b1, o1, cs, x, hA, hx, hdx, hbB, hc, hr⟩ := hp1.shown.at_ hlt
    obtain ⟨rfl, -⟩ := tNat_rep hr
    have hx12 := hok.lt x (List.mem_of_getElem? hx)
    rw [hA]
    refine idx k rfl hlt ?_
    refine ld _ (hc 0 _ rfl) ?_
    refine ld _ hbs1 ?_
    refine andV (fun T hT => ?_)
    have hTn : psep x S = true ↔ T ≠ 0 ∧ T ≠ S := by unfold psep; rw [← hT]; simp
    refine cN (fun h1 => ?_) (fun h1 => ?_)
    · refine ld _ hbs1 ?_
      refine cN (fun h2 => ?_) (fun h2 => ?_)
      · refine yield_ofP (hstep k w1 x hj hx (hTn.2 ⟨by omega, by omega⟩) T hT) ?_
        rintro v w2 (⟨rfl, hj2⟩ | ⟨rfl, hj2⟩)
        · refine arI (by omega) ?_
          exact next (k + 1) ⟨rfl, trivial⟩ ⟨by omega, hj2⟩ (by omega)
        · exact ret0 (.inr hj2)
      · have : psep x S = false := by
          cases he : psep x S with
          | false => rfl
          | true => exact absurd (by omega) (hTn.1 he).2
        refine arI (by omega) ?_
        exact next (k + 1) ⟨rfl, trivial⟩ ⟨by omega, hskip k w1 x hj hx this⟩ (by omega)
    · have : psep x S = false := by
        cases he : psep x S with
        | false => rfl
        | true => exact absurd (by omega) (hTn.1 he).1
      refine arI (by omega) ?_
      exact next (k + 1) ⟨rfl, trivial⟩ ⟨by omega, hskip k w1 x hj hx this⟩ (by omega)
  · obtain rfl : k = h.n1 := by omega
    rw [hn1] at hj
    exact ret0 (.inl hj)

theorem c_separating {b S : Nat} : CallZ Tryz.prog 38 #[ptrQ b, .int .i64 (S : Int)] w (fun v w' => ∃ b1 b2, v = .func (.func 59) #[] #[ptrQ b1, ptrQ b2] ∧ Ext w w' ∧ w'.cell? (ad b1 0) = some (ptrQ b) ∧ w'.cell? (ad b2 0) = some (.int .i64 (S : Int)) ∧ w.heap.size ≤ b1 ∧ w.heap.size ≤ b2) := by
  refine fn_rule (args := [ptrQ b, .int .i64 (S : Int)]) Tryz.func38 (by kernel_rfl) ?_
  refine box (fun b1 w1 h1 => ?_)
  refine box (fun b2 w2 h2 => ?_)
  have hs := h1.size
  refine ret1 (.func (.func 59) #[] #[ptrQ b1, ptrQ b2]) rfl ⟨b1, b2, rfl, h1.ext.trans h2.ext, (h1.blk.ext h2.ext).cell rfl, h2.blk.cell rfl, by rw [h1.at_]; omega, by rw [h2.at_]; omega⟩
end
end Go.Proofs.YtcpdhclnmjfldaaGreatDoor

/- Contracts of the program: the best choice. -/
namespace Go.Proofs.YtcpdhclnmjfldaaGreatDoor
open Go Go.RowKit

theorem Kept.any {D : Nat → Prop} {a b : World} (h : Kept (fun _ => True) a b) : Kept D a b := Ext.any h
/-- What choose's inner function stands on. -/
structure ChEnv (w : World) (b g bx bl : Nat) (h : PH) (pd : PD) : Prop where
  plan : PlanAt w b g h pd
  x : w.cell? (ad bx 0) = some (ptrQ b)
  least : w.cell? (ad bl 0) = some (.func (.func 37) #[] #[ptrQ bx, ptrQ bl])
  nx : bx ≠ g
  nl : bl ≠ g
  map : MapOk w g pd.ps
theorem ChEnv.kept {w w' : World} {b g bx bl : Nat} {h : PH} {pd : PD} (e : ChEnv w b g bx bl h pd) (k : Kept (fun x => x ≠ g) w w') (m : MapOk w' g pd.ps) : ChEnv w' b g bx bl h pd :=
  ⟨e.plan.kept k, k.cell e.x e.nx, k.cell e.least e.nl, e.nx, e.nl, m⟩
theorem ChEnv.ext {w w' : World} {b g bx bl : Nat} {h : PH} {pd : PD} (e : ChEnv w b g bx bl h pd) (k : Ext w w') : ChEnv w' b g bx bl h pd := e.kept k.any (e.map.kept k trivial)
theorem and_and_self' (m S : Nat) : S &&& (m &&& S) = m &&& S := by
  rw [Nat.and_comm m S, ← Nat.and_assoc, Nat.and_self]
theorem zip_at {α β : Type} {xs : List α} {ys : List β} {k : Nat} {x : α} {y : β} (hx : xs[k]? = some x) (hy : ys[k]? = some y) : (xs.zip ys).drop k = (x, y) :: (xs.zip ys).drop (k + 1) := zip_drop_cons hx hy

theorem c_choose1 {b g bx bl : Nat} {h : PH} {pd : PD} (hok : PdOk pd) : ∀ (S : Nat), S < 4096 → ∀ (w : World), ChEnv w b g bx bl h pd →
    CallZ Tryz.prog 37 #[.int .i64 (S : Int), ptrQ bx, ptrQ bl] w (fun v w' => v = cval (B pd.ps S) ∧ Kept (fun x => x ≠ g) w w' ∧ MapOk w' g pd.ps) := by
  intro S
  induction S using Nat.strongRecOn with
  | _ S ih =>
    intro hS w env
    refine fn_rule (args := [.int .i64 (S : Int), ptrQ bx, ptrQ bl]) Tryz.func37 (by kernel_rfl) ?_
    refine box (fun b3 w1 h3 => ?_)
    refine alloc (fun r4 w2 h4 => ?_)
    have env2 := (env.ext h3.ext).ext h4.ext
    have hgl := env.map.lt
    have hb3 := h3.at_
    have hr4 := h4.at_
    have hs3 := h3.size
    have hs4 := h4.size
    have c3 : w2.cell? (ad b3 0) = some (.int .i64 (S : Int)) := (h3.blk.ext h4.ext).cell rfl
    have k2 : Kept (fun x => x ≠ g) w w2 := (h3.ext.trans h4.ext).any
    obtain ⟨f, hf, hfok⟩ := env2.map
    cases hfS : f (S : Int) with
    | some v =>
      obtain ⟨S', hS', rfl⟩ := hfok _ _ hfS
      obtain rfl : S = S' := by omega
      refine drawX [0, 1, 2, 3, 4, 5, 6, 7, 8, 9, 10, 11] [9, 10] mx (by kernel_rfl) ?_
      refine ldX _ env2.x (.refl _ _) ?_
      refine fldA ?_
      refine ldX (.map (some g)) (env2.plan.blk.cell rfl) (.refl _ _) ?_
      refine ldX _ c3 (.refl _ _) ?_
      refine lookT _ (fun u hu => hf.kept hu trivial) hfS ?_
      refine alloc (fun r5 w3 h5 => ?_)
      refine strS h5.ext ?_
      refine stA (vs := [.int .i64 _, .int .i64 _]) h5.blk rfl (Nat.le_of_ble_eq_true rfl) (by simp [Value.oneCell']) (fun w4 hb4 hk4 hz4 => ?_)
      have hr5 := h5.at_
      have hx4 : Ext w2 w4 := h5.ext.then hk4 (fun b hb _ e => by omega)
      refine strS hx4 ?_
      have hb4 : Blk w4 r5 81 [.int .i64 _, .int .i64 _] := hb4
      refine ldA [.int .i64 _, .int .i64 _] (.blk hb4) rfl ?_
      have hb44 : Blk w4 r4 81 [.int .i64 0, .int .i64 0] := h4.blk.ext hx4
      refine stA (vs := [.int .i64 _, .int .i64 _]) hb44 rfl (Nat.le_of_ble_eq_true rfl) (by simp [Value.oneCell']) (fun w5 hb5 hk5 hz5 => ?_)
      have hb5 : Blk w5 r4 81 [.int .i64 _, .int .i64 _] := hb5
      refine ret ?_
      refine resL _ (holds_agg (.blk hb5) rfl) ?_
      have k5 : Kept (fun x => x ≠ g) w w5 := k2.then ((hx4.any (D := fun b => b ≠ r4)).trans hk5) (fun b hb _ e => by omega)
      exact ⟨rfl, k5, (MapOk.kept ⟨f, hf, hfok⟩ ((hx4.any (D := fun b => b ≠ r4)).trans hk5) (by omega))⟩
    | none =>
      refine drawX [0, 1, 2, 3, 4, 5, 6, 7, 8, 9, 10, 11] [9, 10] mx (by kernel_rfl) ?_
      refine ldX _ env2.x (.refl _ _) ?_
      refine fldA ?_
      refine ldX (.map (some g)) (env2.plan.blk.cell rfl) (.refl _ _) ?_
      refine ldX _ c3 (.refl _ _) ?_
      refine lookF (fun u hu => hf.kept hu trivial) hfS ?_
      refine alloc (fun r5 w3 h5 => ?_)
      refine strS h5.ext ?_
      refine stA (vs := [.int .i64 0, .int .i64 0]) h5.blk rfl (Nat.le_of_ble_eq_true rfl) (by simp [Value.oneCell']) (fun w4 hb4 hk4 hz4 => ?_)
      have hr5 := h5.at_
      have hs5 := h5.size
      have hx4 : Ext w2 w4 := h5.ext.then hk4 (fun b hb _ e => by omega)
      refine strS hx4 ?_
      refine bld [.int .i64 0, .int .i64 (-1)] (by kernel_rfl) ?_
      refine alloc (fun r7 w5 h7 => ?_)
      refine stA (vs := [.int .i64 0, .int .i64 (-1)]) h7.blk rfl (Nat.le_of_ble_eq_true rfl) (by simp [Value.oneCell']) (fun w6 hb6 hk6 hz6 => ?_)
      have hb6 : Blk w6 r7 81 [.int .i64 0, .int .i64 (-1)] := hb6
      have hr7 := h7.at_
      have hs7 := h7.size
      have hx6 : Ext w2 w6 := (hx4.trans h7.ext).then hk6 (fun b hb _ e => by omega)
      have env6 := env2.ext hx6
      have c36 := hx6.cell c3 trivial
      refine ld _ env6.x ?_
      refine ld _ c36 ?_
      refine call_of c_separating ?_
      rintro _ w7 ⟨b1, b2, rfl, hx7, hc1, hc2, hb1, hb2⟩
      have env7 := env6.ext hx7
      have hb7 := hb6.ext hx7
      have hz6' := hx6.size
      have hz7 := hx7.size
      have hr7l := hb6.lt
      have c37 := hx7.cell c36 trivial
      have hb47 := ((h4.blk.ext hx6).ext hx7)
      have hwx7 : Ext w w7 := ((h3.ext.trans h4.ext).trans hx6).trans hx7
      have hlen := hok.len
      refine range (gf := 59) (lb := #[ptrQ b1, ptrQ b2]) rfl (fun fn tmps w8 R hR hF hwf hx8 hsz8 hD8 hl8 => ?_)
      show CallZ _ _ #[.func (.yield (w7.heap.size + 1)) #[] #[], ptrQ b1, ptrQ b2] w8 _
      have hw8 := hwx7.trans hx8
      have hws := hwx7.size
      obtain ⟨l, hl⟩ : ∃ l, l = w7.heap.size + 1 := ⟨_, rfl⟩
      have env8 : ChEnv w8 b g bx bl h pd := env.ext hw8
      have hJ8 : ∀ w', Kept (fun x => x ≠ g ∧ x ≠ r7 ∧ x ≠ l) w8 w' → Kept (fun x => x ≠ g) w w' := fun w' k => hw8.any.then k (fun b hb hne => ⟨hne, by omega, by omega⟩)
      refine (c_separating1 (b := b) (g := g) (bx := b1) (bs := b2) (S := S) (h := h) hok hS
        (fun k w' => Kept (fun x => x ≠ g ∧ x ≠ r7 ∧ x ≠ l) w8 w' ∧ MapOk w' g pd.ps ∧ LoopAt w' (w7.heap.size + 1) R ∧ ∃ a : Int × Int, Blk w' r7 81 [.int .i64 a.1, .int .i64 a.2] ∧ accOk S k a ∧ B pd.ps S = pfold (B pd.ps) S k (pd.ps.drop k) a)
        (fun _ => False) ?_ ?_ ?_ ?_).mono ?_
      · rintro k w' ⟨hk, hm, -, -⟩
        exact ⟨env.plan.kept (hJ8 w' hk), hk.cell (hx8.cell hc1 trivial) ⟨by show b1 ≠ g; omega, by show b1 ≠ r7; omega, by show b1 ≠ l; have := lt_of_cell hc1; omega⟩, hk.cell (hx8.cell hc2 trivial) ⟨by show b2 ≠ g; omega, by show b2 ≠ r7; omega, by show b2 ≠ l; have := lt_of_cell hc2; omega⟩⟩
      · rintro k w' m ⟨hk, hm, hlp, a, hba, hao, hB⟩ hmk hsep T hT
        obtain ⟨p1, p2, p3⟩ := psep_lt hsep
        rw [← hT] at p1 p2 p3
        have hkl := (List.getElem?_eq_some_iff.1 hmk).1
        obtain ⟨cst, hck⟩ : ∃ c, pd.costs[k]? = some c := ⟨_, List.getElem?_eq_getElem (by omega)⟩
        have hcok := hok.cost cst (List.mem_of_getElem? hck)
        have hdrop : pd.ps.drop k = (cst, m) :: pd.ps.drop (k + 1) := zip_at hck hmk
        rw [hdrop, pfold] at hB
        subst hR
        refine yield_rule (args := [.int .i64 (k : Int), .int .i64 (T : Int)]) hlp rfl rfl hF hwf ?_
        refine mid' hlp (fun w9 kp hsz9 hl9 => ?_)
        have hsz' := hk.size
        have k9 : Kept (fun x => x ≠ g ∧ x ≠ r7 ∧ x ≠ l) w8 w9 := hk.then kp (fun b _ h e => h.2.2 (by omega))
        have env9 : ChEnv w9 b g bx bl h pd := env.kept (hJ8 w9 k9) (hm.kept kp (by omega))
        have hba9 : Blk w9 r7 81 _ := hba.kept kp (by omega)
        have c39 : w9.cell? (ad b3 0) = some (.int .i64 (S : Int)) := k9.cell (hx8.cell c37 trivial) ⟨by show b3 ≠ g; omega, by show b3 ≠ r7; omega, by show b3 ≠ l; omega⟩
        obtain ⟨bc, oc, cc, x, hA2, hx2, -, hbcD, hcc, rfl, -⟩ := env9.plan.costs.at_ (k := k) (by have := env9.plan.costs.1; omega)
        obtain rfl : x = cst := by rw [hck] at hx2; injection hx2 with e; exact e.symm
        have hn2 := env9.plan.costs.1
        refine drawK (fun x => x ≠ g) [0, 1, 2, 3, 4, 5, 6, 7, 8, 11, 12, 13, 14, 9, 10, 15, 16, 17, 18, 19] [9, 15] mx (by kernel_rfl) ?_
        refine ldK _ env9.x env9.nx (.refl _ _) ?_
        refine fldA ?_
        refine ldK (.slice (some (ad bc oc)) h.n2 h.c2) (by rw [← hA2]; exact env9.plan.blk.cell rfl) env9.plan.ne (.refl _ _) ?_
        refine idx k rfl (by omega) ?_
        refine ldK _ (hcc 0 _ rfl) hbcD (.refl _ _) ?_
        refine ldK _ env9.least env9.nl (.refl _ _) ?_
        refine ldK _ env9.least env9.nl (.refl _ _) ?_
        refine ldK _ c39 (show b3 ≠ g by omega) (.refl _ _) ?_
        refine andNotV (fun q hq => ?_)
        have hqT : q = S - T := by rw [hq, hT, and_and_self']
        refine call_of (ih T p1 (by omega) w9 env9) ?_
        rintro _ w10 ⟨rfl, k10, m10⟩
        refine strK k10 ?_
        have env10 := env9.kept k10 m10
        refine fldV (cs := [.int .i64 _, .int .i64 _]) _ rfl ?_
        refine call_of (ih q (by omega) (by omega) w10 env10) ?_
        rintro _ w11 ⟨rfl, k11, m11⟩
        refine strK k11 ?_
        refine fldV (cs := [.int .i64 _, .int .i64 _]) _ rfl ?_
        have o1 := B_ok hok.psOk T
        have o2 := B_ok hok.psOk q
        obtain ⟨o1a, o1b, -, -⟩ := o1
        obtain ⟨o2a, o2b, -, -⟩ := o2
        have hstep : pstep (B pd.ps) S k (x, m) a = if a.2 < 0 ∨ x + max (B pd.ps T).1 (B pd.ps q).1 < a.1 then (x + max (B pd.ps T).1 (B pd.ps q).1, (k : Int)) else a := by
          unfold pstep; rw [if_pos hsep, ← hT, hqT]
        have hok' := pstep_ok (rec := B pd.ps) (S := S) (i := k) (x := (x, m)) (acc := a) (fun T _ => ⟨(B_ok hok.psOk T).1, (B_ok hok.psOk T).2.1⟩) hcok hao
        rw [hstep] at hB hok'
        refine arI (by omega) ?_
        generalize hn : x + max (B pd.ps T).1 (B pd.ps q).1 = nn at hB hok' ⊢
        have k911 := k10.trans k11
        have hba11 : Blk w11 r7 81 _ := hba9.kept k911 (by omega)
        have hl11 := hl9.kept k911 (show w7.heap.size + 1 ≠ g by omega)
        have fin : ∀ (a' : Int × Int) (w12 w13 : World), Kept (fun b => b ≠ r7) w11 w12 → Kept (fun b => b ≠ w7.heap.size + 1) w12 w13 → Kept (fun x => x ≠ g ∧ x ≠ r7 ∧ x ≠ l) w8 w13 ∧ MapOk w13 g pd.ps := fun a' w12 w13 k12 k13 =>
          ⟨((k9.then k911 (fun b _ h => h.1)).then k12 (fun b _ h => h.2.1)).then k13 (fun b _ h e => h.2.2 (by omega)), (m11.kept k12 (by omega)).kept k13 (by omega)⟩
        have put : ∀ K, (∀ w', Blk w' r7 81 [.int .i64 nn, .int .i64 (k : Int)] → Kept (fun b => b ≠ r7) w11 w' → K undef w') → StoreP Tryz.prog 81 (.pointer (some (ad r7 0))) (.agg #[.int .i64 nn, .int .i64 (k : Int)]) K w11 := fun K hK =>
          stA (vs := [.int .i64 nn, .int .i64 (k : Int)]) hba11 rfl (Nat.le_of_ble_eq_true rfl) (by simp [Value.oneCell']) (fun w12 hb12 hk12 _ => hK w12 hb12 hk12)
        refine fldA ?_
        refine ld _ (hba11.cell rfl) ?_
        refine cD (fun h1 => ?_) (fun h1 => ?_)
        · rw [if_pos (.inl h1)] at hB hok'
          refine bld [.int .i64 nn, .int .i64 (k : Int)] (by kernel_rfl) ?_
          refine put _ (fun w12 hb12 k12 => ?_)
          have hl12 := hl11.kept k12 (show w7.heap.size + 1 ≠ r7 by omega)
          refine roundN' _ hl12 (fun w13 k13 hl13 => ?_)
          obtain ⟨f1, f2⟩ := fin a w12 w13 k12 k13
          exact .inl ⟨rfl, f1, f2, hl13, (nn, (k : Int)), hb12.kept k13 (by omega), hok', hB⟩
        · refine fldA ?_
          refine ld _ (hba11.cell rfl) ?_
          refine cD (fun h2 => ?_) (fun h2 => ?_)
          · rw [if_pos (.inr h2)] at hB hok'
            refine bld [.int .i64 nn, .int .i64 (k : Int)] (by kernel_rfl) ?_
            refine put _ (fun w12 hb12 k12 => ?_)
            have hl12 := hl11.kept k12 (show w7.heap.size + 1 ≠ r7 by omega)
            refine roundN' _ hl12 (fun w13 k13 hl13 => ?_)
            obtain ⟨f1, f2⟩ := fin a w12 w13 k12 k13
            exact .inl ⟨rfl, f1, f2, hl13, (nn, (k : Int)), hb12.kept k13 (by omega), hok', hB⟩
          · rw [if_neg (by rintro (h | h); exact h1 h; exact h2 h)] at hB hok'
            refine roundN' _ hl11 (fun w13 k13 hl13 => ?_)
            obtain ⟨f1, f2⟩ := fin a w11 w13 (.refl _ _) k13
            exact .inl ⟨rfl, f1, f2, hl13, a, hba11.kept k13 (by omega), hok', hB⟩
      · rintro k w' m ⟨hk, hm, hlp, a, hba, hao, hB⟩ hmk hsep
        have hkl := (List.getElem?_eq_some_iff.1 hmk).1
        obtain ⟨cst, hck⟩ : ∃ c, pd.costs[k]? = some c := ⟨_, List.getElem?_eq_getElem (by omega)⟩
        have hdrop : pd.ps.drop k = (cst, m) :: pd.ps.drop (k + 1) := zip_at hck hmk
        rw [hdrop, pfold] at hB
        have hst : pstep (B pd.ps) S k (cst, m) a = a := by unfold pstep; rw [hsep]; rfl
        rw [hst] at hB
        exact ⟨hk, hm, hlp, a, hba, ⟨hao.1, hao.2.1, hao.2.2.1, by have := hao.2.2.2; omega⟩, hB⟩
      · refine ⟨.refl _ _, env8.map, hl8, (0, -1), hb7.ext hx8, ⟨by decide, by show (0 : Int) ≤ (S : Int) * 1048576; omega, by decide, by decide⟩, B_eq _ _⟩
      · rintro v w9 (⟨hk, hm, hlp, a, hba, hao, hB⟩ | hfalse)
        · subst hR
          refine range_end _ hlp (by simp) (fun w10 k10 => ?_)
          have hBf : B pd.ps S = a := by
            rw [hB, List.drop_eq_nil_of_le (by unfold PD.ps; rw [List.length_zip]; omega)]; rfl
          have k810 : Kept (fun x => x ≠ g ∧ x ≠ r7 ∧ x ≠ l) w8 w10 := hk.then k10 (fun b _ h e => h.2.2 (by omega))
          have env10 : ChEnv w10 b g bx bl h pd := env.kept (hJ8 w10 k810) (hm.kept k10 (by omega))
          have hba10 : Blk w10 r7 81 [.int .i64 a.1, .int .i64 a.2] := hba.kept k10 (by omega)
          have c310 : w10.cell? (ad b3 0) = some (.int .i64 (S : Int)) := k810.cell (hx8.cell c37 trivial) ⟨by show b3 ≠ g; omega, by show b3 ≠ r7; omega, by show b3 ≠ l; omega⟩
          have hD10 : w10.heap[w7.heap.size]? = some (.deferred (some [])) := (k810.blk _ (by omega) ⟨by omega, by omega, by omega⟩).trans hD8
          have hb410 : Blk w10 r4 81 [.int .i64 0, .int .i64 0] := (hb47.ext hx8).kept k810 ⟨by omega, by omega, by omega⟩
          obtain ⟨f', hf', hfok'⟩ := env10.map
          refine drawK (fun x => x ≠ g) [0, 1, 2, 3, 4, 5, 6] [6] mx (by kernel_rfl) ?_
          refine ldK _ env10.x env10.nx (.refl _ _) ?_
          refine fldA ?_
          refine ldK (.map (some g)) (env10.plan.blk.cell rfl) env10.plan.ne (.refl _ _) ?_
          refine ldK _ c310 (show b3 ≠ g by omega) (.refl _ _) ?_
          refine ldAK [.int .i64 a.1, .int .i64 a.2] (.blk hba10) rfl (show r7 ≠ g by omega) (.refl _ _) ?_
          refine mupd hf' (fun w11 hf11 k11 hz11 => ?_)
          refine strK k11 ?_
          have hm11 : MapOk w11 g pd.ps := ⟨_, hf11, fun kk v hv => by
            unfold fset at hv
            split at hv
            · rename_i e; injection hv with hv; exact ⟨S, e, by rw [← hv, hBf]; rfl⟩
            · exact hfok' kk v hv⟩
          have hba11 := hba10.kept k11 (show r7 ≠ g by omega)
          refine ldA [.int .i64 a.1, .int .i64 a.2] (.blk hba11) rfl ?_
          refine stA (vs := [.int .i64 a.1, .int .i64 a.2]) (hb410.kept k11 (by omega)) rfl (Nat.le_of_ble_eq_true rfl) (by simp [Value.oneCell']) (fun w12 hb12 k12 _ => ?_)
          have hb12 : Blk w12 r4 81 [.int .i64 a.1, .int .i64 a.2] := hb12
          have hD12 : w12.heap[w7.heap.size]? = some (.deferred (some [])) := (k12.blk _ (by have := k11.size; have := (Array.getElem?_eq_some_iff.1 hD10).1; omega) (by omega)).trans ((k11.blk _ (Array.getElem?_eq_some_iff.1 hD10).1 (by omega)).trans hD10)
          refine retM hD12 ?_
          have kD := Kept.putObj w12 w7.heap.size (.deferred none)
          refine resL _ (holds_agg (.blk (hb12.kept kD (by omega))) rfl) ?_
          refine ⟨by rw [hBf]; rfl, ?_, (hm11.kept k12 (by omega)).kept kD (by omega)⟩
          exact (((hJ8 w10 k810).trans k11).then k12 (fun b hb _ e => by omega)).then kD (fun b hb _ e => by omega)
        · exact hfalse.elim

theorem c_choose {w : World} {b g S : Nat} {h : PH} {pd : PD} (hok : PdOk pd) (hS : S < 4096) (hp : PlanAt w b g h pd) (hm : MapOk w g pd.ps) :
    CallZ Tryz.prog 25 #[ptrQ b, .int .i64 (S : Int)] w (fun v w' => v = cval (B pd.ps S) ∧ Kept (fun x => x ≠ g) w w' ∧ MapOk w' g pd.ps) := by
  have hgl := hm.lt
  refine fn_rule (args := [ptrQ b, .int .i64 (S : Int)]) Tryz.func25 (by kernel_rfl) ?_
  refine box (fun bx w1 h1 => ?_)
  refine alloc (fun r4 w2 h2 => ?_)
  refine alloc (fun bl w3 h3 => ?_)
  have e1 := h1.at_
  have e2 := h2.at_
  have e3 := h3.at_
  have s1 := h1.size
  have s2 := h2.size
  have s3 := h3.size
  refine st h3.blk (by decide) rfl (fun w4 hb4 hk4 hz4 => ?_)
  have hb4 : Blk w4 bl _ [.func (.func 37) #[] #[ptrQ bx, ptrQ bl]] := hb4
  have hx4 : Ext w2 w4 := h3.ext.then hk4 (fun b hb _ e => by omega)
  have hw2 : Ext w w2 := h1.ext.trans h2.ext
  have hw4 := hw2.trans hx4
  have env : ChEnv w4 b g bx bl h pd := ⟨hp.kept hw4.any, ((h1.blk.ext h2.ext).ext hx4).cell rfl, hb4.cell rfl, by omega, by omega, hm.kept hw4 trivial⟩
  refine ld _ env.least ?_
  refine call_of (c_choose1 hok S hS w4 env) ?_
  rintro _ w5 ⟨rfl, hk5, hm5⟩
  have hb25 : Blk w5 r4 81 [.int .i64 0, .int .i64 0] := (h2.blk.ext hx4).kept hk5 (by omega)
  refine stA (vs := [.int .i64 _, .int .i64 _]) hb25 rfl (Nat.le_of_ble_eq_true rfl) (by simp [Value.oneCell']) (fun w6 hb6 hk6 hz6 => ?_)
  have hb6 : Blk w6 r4 81 [.int .i64 _, .int .i64 _] := hb6
  refine ret ?_
  refine resL _ (holds_agg (.blk hb6) rfl) ?_
  have hz4' := hw4.size
  exact ⟨rfl, ((hw4.any (D := fun x => x ≠ g)).trans hk5).then hk6 (fun b hb _ e => by omega), hm5.kept hk6 (by omega)⟩
end Go.Proofs.YtcpdhclnmjfldaaGreatDoor

/- Contracts of the program: the best tree. -/
namespace Go.Proofs.YtcpdhclnmjfldaaGreatDoor
open Go Go.RowKit

/-- The measurement that is chosen separates. -/
theorem pfold_sep {rec : Nat → Int × Int} {S : Nat} : ∀ (ps : List (Int × Nat)) (i : Nat) (acc : Int × Int), (pfold rec S i ps acc).2 = acc.2 ∨ ∃ j x, ps[j]? = some x ∧ (pfold rec S i ps acc).2 = ((i + j : Nat) : Int) ∧ psep x.2 S = true
  | [], i, acc => .inl rfl
  | x :: r, i, acc => by
    unfold pfold
    have h1 : (pstep rec S i x acc).2 = acc.2 ∨ ((pstep rec S i x acc).2 = (i : Int) ∧ psep x.2 S = true) := by
      unfold pstep
      split
      · rename_i hs
        split
        · exact .inr ⟨rfl, hs⟩
        · exact .inl rfl
      · exact .inl rfl
    rcases pfold_sep r (i + 1) (pstep rec S i x acc) with h | ⟨j, y, hj, h2, h3⟩
    · rw [h]
      rcases h1 with h1 | ⟨h1, h2⟩
      · exact .inl h1
      · exact .inr ⟨0, x, rfl, by rw [h1]; rfl, h2⟩
    · exact .inr ⟨j + 1, y, by simpa using hj, by rw [h2]; congr 1; omega, h3⟩
theorem B_sep {ps : List (Int × Nat)} {S : Nat} (h : 0 ≤ (B ps S).2) : ∃ x, ps[(B ps S).2.toNat]? = some x ∧ psep x.2 S = true := by
  rw [B_eq] at h ⊢
  rcases pfold_sep (rec := B ps) (S := S) ps 0 (0, -1) with h1 | ⟨j, x, hj, h2, h3⟩
  · rw [h1] at h; exact absurd h (by decide)
  · rw [h2]; exact ⟨x, by simpa using hj, h3⟩
def mAt (ps : List (Int × Nat)) (i : Int) : Nat := (ps.getD i.toNat (0, 0)).2
def ptree (ps : List (Int × Nat)) : Nat → Nat → Tr
  | 0, _ => .mk 0 [] []
  | f + 1, S => if (B ps S).2 < 0 then .mk 0 (ofNats (mem S 12)) [] else
    .mk (B ps S).2 [] [ptree ps f (S - (mAt ps (B ps S).2 &&& S)), ptree ps f (mAt ps (B ps S).2 &&& S)]

/-- What the program's functions stand on. -/
structure PEnv (w : World) (b g : Nat) (h : PH) (pd : PD) : Prop where
  plan : PlanAt w b g h pd
  map : MapOk w g pd.ps
  tab : TabW w
  ng : 1 ≠ g
theorem PEnv.kept {w w' : World} {b g : Nat} {h : PH} {pd : PD} (e : PEnv w b g h pd) (k : Kept (fun x => x ≠ g) w w') (m : MapOk w' g pd.ps) : PEnv w' b g h pd :=
  ⟨e.plan.kept k, m, CellsAt.kept e.tab k e.ng, e.ng⟩
theorem PEnv.ext {w w' : World} {b g : Nat} {h : PH} {pd : PD} (e : PEnv w b g h pd) (k : Ext w w') : PEnv w' b g h pd := e.kept k.any (e.map.kept k trivial)

theorem c_tree {b g : Nat} {h : PH} {pd : PD} (hok : PdOk pd) : ∀ (f S : Nat), S < 4096 → S < f → ∀ (w : World), PEnv w b g h pd →
    CallZ Tryz.prog 23 #[ptrQ b, .int .i64 (S : Int)] w (fun v w' => ∃ cs, v = .agg cs.toArray ∧ (tTr f).rep (fun x => w.heap.size ≤ x) w' cs (ptree pd.ps f S) ∧ Kept (fun x => x ≠ g) w w' ∧ MapOk w' g pd.ps) := by
  intro f
  induction f with
  | zero => exact fun S _ hf => absurd hf (Nat.not_lt_zero _)
  | succ f ih =>
    intro S hS hf w env
    have hgl := env.map.lt
    refine fn_rule (args := [ptrQ b, .int .i64 (S : Int)]) Tryz.func23 (by kernel_rfl) ?_
    refine alloc (fun r4 w1 h1 => ?_)
    have e1 := h1.at_
    have s1 := h1.size
    have env1 := env.ext h1.ext
    refine call_of (c_choose hok hS env1.plan env1.map) ?_
    rintro _ w2 ⟨rfl, k2, m2⟩
    have env2 := env1.kept k2 m2
    have s2 := k2.size
    refine alloc (fun r5 w3 h3 => ?_)
    have e3 := h3.at_
    have s3 := h3.size
    refine stA (vs := [.int .i64 _, .int .i64 _]) h3.blk rfl (Nat.le_of_ble_eq_true rfl) (by simp [Value.oneCell']) (fun w4 hb4 hk4 hz4 => ?_)
    have hb4 : Blk w4 r5 81 [.int .i64 (B pd.ps S).1, .int .i64 (B pd.ps S).2] := hb4
    have hx4 : Ext w2 w4 := h3.ext.then hk4 (fun b hb _ e => by omega)
    have env4 := env2.ext hx4
    have s4 := hx4.size
    have k4 : Kept (fun x => x ≠ g) w w4 := (h1.ext.any.trans k2).trans hx4.any
    have hr4 : Blk w4 r4 48 [.int .i64 0, .slice none 0 0, .slice none 0 0] := (h1.blk.kept k2 (by omega)).ext hx4
    refine fldA ?_
    refine ld _ (hb4.cell rfl) ?_
    refine cD (fun hneg => ?_) (fun hpos => ?_)
    · refine call_of (c_list hS env4.tab) ?_
      rintro _ w5 ⟨hx5, A5, n5, c5, rfl, hle5, hl5⟩
      have s5 := hx5.size
      refine bld [.int .i64 0, .slice A5 n5 c5, .slice none 0 0] (by kernel_rfl) ?_
      refine stA (vs := [.int .i64 0, .slice A5 n5 c5, .slice none 0 0]) (hr4.ext hx5) rfl (Nat.le_of_ble_eq_true rfl) (by simp [Value.oneCell']) (fun w6 hb6 k6 hz6 => ?_)
      have hb6 : Blk w6 r4 48 [.int .i64 0, .slice A5 n5 c5, .slice none 0 0] := hb6
      refine ret ?_
      refine resL _ (holds_agg (.blk hb6) rfl) ?_
      refine ⟨_, rfl, ?_, (k4.trans hx5.any).then k6 (fun b hb _ e => by omega), (env4.map.kept hx5 trivial).kept k6 (by omega)⟩
      rw [ptree, if_pos hneg]
      exact tr_mk (t := .mk 0 _ []) i64_0 (((hl5.kept k6 (fun b _ h e => by omega)).more (by decide) (fun b _ h => by omega)).nats) hle5 .nil (Nat.le_refl _)
    · obtain ⟨x, hx, hsep⟩ := B_sep (ps := pd.ps) (S := S) (by omega)
      obtain ⟨p1, p2, p3⟩ := psep_lt hsep
      have hBo := B_ok hok.psOk S
      have hm : mAt pd.ps (B pd.ps S).2 = x.2 := by unfold mAt; rw [List.getD_eq_getElem?_getD, hx]; rfl
      have hxs : pd.shown[(B pd.ps S).2.toNat]? = some x.2 := (List.getElem?_zip_eq_some.1 hx).2
      obtain ⟨bs, os, cs, y, hA1, hy, -, -, hc, hr⟩ := env4.plan.shown.at_ (k := (B pd.ps S).2.toNat) (by have := env4.plan.shown.1; have := (List.getElem?_eq_some_iff.1 hxs).1; omega)
      obtain ⟨rfl, -⟩ := tNat_rep hr
      obtain rfl : y = x.2 := by rw [hxs] at hy; injection hy with e; exact e.symm
      have hn1 := env4.plan.shown.1
      have hlt1 := (List.getElem?_eq_some_iff.1 hxs).1
      have hx12 := hok.lt x.2 (List.mem_of_getElem? hxs)
      refine drawQ mx (by kernel_rfl) ?_
      refine fldA ?_
      refine ld (.slice (some (ad bs os)) h.n1 h.c1) (by rw [← hA1]; exact env4.plan.blk.cell rfl) ?_
      refine fldA ?_
      refine ld _ (hb4.cell rfl) ?_
      refine idx (B pd.ps S).2.toNat (by omega) (by omega) ?_
      refine ld _ (hc 0 _ rfl) ?_
      refine andV (fun T hT => ?_)
      rw [← hT] at p1 p2 p3
      refine drawK (fun y => y ≠ g ∧ y ≠ r4) [0, 1, 2, 3, 4, 5, 7, 8, 6, 9, 10, 11, 12] [6, 9, 10, 12] mx (by kernel_rfl) ?_
      refine fldA ?_
      refine ldK _ (hb4.cell rfl) ⟨show r5 ≠ g by omega, show r5 ≠ r4 by omega⟩ (.refl _ _) ?_
      refine andNotV (fun q hq => ?_)
      have hqT : q = S - T := by rw [hq, hT, and_and_self']
      refine call_of (ih q (by omega) (by omega) w4 env4) ?_
      rintro _ w5 ⟨cs5, rfl, hr5, k5, m5⟩
      have env5 := env4.kept k5 m5
      have s5 := k5.size
      refine strK (k5.weak fun _ _ h => h.1) ?_
      refine call_of (ih T (by omega) (by omega) w5 env5) ?_
      rintro _ w6 ⟨cs6, rfl, hr6, k6, m6⟩
      have env6 := env5.kept k6 m6
      have s6 := k6.size
      refine strK (k6.weak fun _ _ h => h.1) ?_
      obtain ⟨f, rfl⟩ := tr_pos hr5
      have hr5' := (tTr (f + 1)).kept hr5 k6 (fun b _ h e => by omega)
      obtain ⟨_, _, _, _, _, _, rfl, -⟩ := tr_open hr5
      obtain ⟨_, _, _, _, _, _, rfl, -⟩ := tr_open hr6
      refine lit [.agg _, .agg _] (fun g7 w7 hb7 => ?_)
      have e7 := hb7.at_
      have s7 := hb7.size
      refine strK hb7.ext.any ?_
      refine bld [.int .i64 (B pd.ps S).2, .slice none 0 0, .slice (some (ad g7 0)) 2 2] (by kernel_rfl) ?_
      have hr47 := ((hr4.kept k5 (by omega)).kept k6 (by omega)).ext hb7.ext
      refine stA (vs := [.int .i64 (B pd.ps S).2, .slice none 0 0, .slice (some (ad g7 0)) 2 2]) hr47 rfl (Nat.le_of_ble_eq_true rfl) (by simp [Value.oneCell']) (fun w8 hb8 k8 hz8 => ?_)
      have hb8 : Blk w8 r4 48 [.int .i64 (B pd.ps S).2, .slice none 0 0, .slice (some (ad g7 0)) 2 2] := hb8
      refine strK (k8.weak fun _ _ h => h.2) ?_
      have hbl7 : Blk w7 g7 48 ([.int .i64 _, .slice _ _ _, .slice _ _ _] ++ [.int .i64 _, .slice _ _ _, .slice _ _ _]) := hb7.blk
      refine ret ?_
      refine resL _ (holds_agg (.blk hb8) rfl) ?_
      have k68 : Kept (fun b => b ≠ r4) w6 w8 := hb7.ext.any.trans k8
      refine ⟨_, rfl, ?_, (((k4.trans k5).trans k6).trans hb7.ext.any).then k8 (fun b hb _ e => by omega), (m6.kept hb7.ext trivial).kept k8 (by omega)⟩
      have r5 := (tTr (f + 1)).kept hr5' k68 (fun b _ h e => by omega)
      have r6 := (tTr (f + 1)).kept hr6 k68 (fun b _ h e => by omega)
      have r5 := (tTr (f + 1)).more (D' := fun x => w.heap.size ≤ x) (fun b _ h => by omega) r5
      have r6 := (tTr (f + 1)).more (D' := fun x => w.heap.size ≤ x) (fun b _ h => by omega) r6
      rw [hqT] at r5
      rw [ptree, if_neg hpos, hm, ← hT]
      have hpl : pd.ps.length ≤ 12 := by unfold PD.ps; rw [List.length_zip]; have := hok.le; omega
      have hi64 : I64 (B pd.ps S).2 := by have := hBo.2.2.2; constructor <;> omega
      refine tr_mk (t := .mk _ [] [_, _]) hi64 .nil (Nat.le_refl _) ?_ (Nat.le_refl _)
      exact SlR.of_cells rfl (by decide) (by show w.heap.size ≤ g7; omega) (.blk (hbl7.kept k8 (by omega))) ⟨_, _, (by rw [hqT]; rfl), r5, _, [], rfl, r6, rfl⟩
end Go.Proofs.YtcpdhclnmjfldaaGreatDoor
