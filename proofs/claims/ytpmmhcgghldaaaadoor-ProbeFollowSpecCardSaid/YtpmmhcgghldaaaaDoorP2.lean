/- Contracts: validity, size, what a measurement shows. -/
import Derived.Test.YtpmmhcgghldaaaaDoorP1
import Derived.Test.YtpmmhcgghldaaaaDoorVj
namespace Go.Proofs.YtpmmhcgghldaaaaDoor
open Go Go.RowKit

theorem take_drop_cons {α : Type} {xs : List α} {k j : Nat} {y : α} (hj : j < k) (hy : xs[j]? = some y) : (xs.take k).drop j = y :: (xs.take k).drop (j + 1) := by
  have h : (xs.take k)[j]? = some y := by rw [List.getElem?_take]; simp [hj, hy]
  obtain ⟨hlt, h⟩ := List.getElem?_eq_some_iff.1 h
  rw [List.drop_eq_getElem_cons hlt, h]
theorem take_succ' {α : Type} {xs : List α} {k : Nat} {x : α} (hx : xs[k]? = some x) : xs.take (k + 1) = xs.take k ++ [x] := by
  rw [List.take_add_one, hx]; rfl

def tPr : Ty (Int × List Int) := tPair tInt (tSl tInt)
abbrev tInts : Ty (List Int) := tSl tInt
theorem pr_open {D : Nat → Prop} {w : World} {cs : List Value} {x : Int × List Int} (h : tPr.rep D w cs x) : ∃ A n c, cs = [.int .i64 x.1, .slice A n c] ∧ I64 x.1 ∧ SlR tInt D w A n x.2 ∧ n ≤ c := by
  obtain ⟨c1, c2, rfl, ⟨rfl, h1⟩, A, n, c, rfl, h2, h3⟩ := h
  exact ⟨A, n, c, rfl, h1, h2, h3⟩

section
variable {D : Nat → Prop} {w : World} {A A' : Option Addr} {n m c d : Nat}

theorem c_hypotheses {l : List (List Int)} (hl : SlR tInts D w A n l) : CallZ Tryd.prog 33 #[.slice A n c] w (fun v w' => v = .bool (hypsOk l) ∧ w' = w) := by
  have hn := hl.le
  refine fn_rule (args := [.slice A n c]) Tryd.func33 (by kernel_rfl) ?_
  refine loop_rule (fun k : Nat => [(3, .int .i64 k)]) (fun k w' => k ≤ n ∧ w = w' ∧ hypsOk l = hypsFrom (l.take k) (l.drop k)) (fun k _ => n - k) 0 ⟨rfl, trivial⟩ ⟨by omega, rfl, rfl⟩ rfl ?_
  rintro G k _ ⟨hk, rfl, he⟩
  refine len ?_
  refine cD (fun hlt => ?_) (fun hge => ?_)
  · have hlt : k < n := by omega
    obtain ⟨b, o, cs, x, rfl, hx, hdx, hbB, hc, Ax, nx, cx, rfl, hxs, -⟩ := hl.at_ hlt
    rw [hdx] at he
    refine idx k rfl hlt ?_
    refine ld _ (hc 0 _ rfl) ?_
    refine callB (c_rSet hxs) (fun hs => ?_) (fun hs => ?_)
    · refine loop_rule (fun j : Nat => [(4, .int .i64 j)]) (fun j w' => j ≤ k ∧ w = w' ∧ (l.take k).any (fun y => x == y) = ((l.take k).drop j).any (fun y => x == y)) (fun j _ => k - j) 0 ⟨rfl, trivial⟩ ⟨by omega, rfl, rfl⟩ rfl ?_
      rintro G j _ ⟨hj, rfl, ha⟩
      refine cD (fun hjk => ?_) (fun hjk => ?_)
      · have hjk : j < k := by omega
        obtain ⟨b', o', cs', y, e', hy, _, _, hc', Ay, ny, cy, rfl, hys, -⟩ := hl.at_ (k := j) (by omega)
        simp only [Option.some.injEq, Addr.mk.injEq] at e'
        obtain ⟨rfl, rfl, _⟩ := e'
        rw [take_drop_cons hjk hy, List.any_cons] at ha
        refine drawQ mx (by kernel_rfl) ?_
        refine idx k rfl hlt ?_
        refine ld _ (hc 0 _ rfl) ?_
        refine idx j rfl (by omega) ?_
        refine ld _ (hc' 0 _ rfl) ?_
        refine callQB (fun u hu => by subst hu; exact c_SameInts hxs hys) (fun hsame => ?_) (fun hsame => ?_)
        · refine ret1 (.bool false) rfl ⟨?_, rfl⟩
          rw [he]; unfold hypsFrom; rw [ha, hsame]; simp
        · rw [hsame, Bool.false_or] at ha
          refine arI (by omega) ?_
          exact next (j + 1) ⟨rfl, trivial⟩ ⟨by omega, rfl, ha⟩ (by omega)
      · refine arI (by omega) ?_
        refine next (k + 1) ⟨rfl, trivial⟩ ⟨by omega, rfl, ?_⟩ (by omega)
        rw [he]
        rw [List.drop_eq_nil_of_le (by rw [List.length_take]; omega)] at ha
        conv => lhs; unfold hypsFrom
        rw [hs, ha, take_succ' hx]; simp
    · refine ret1 (.bool false) rfl ⟨?_, rfl⟩
      rw [he]; unfold hypsFrom; rw [hs]; simp
  · refine ret1 (.bool true) rfl ⟨?_, rfl⟩
    rw [he, drop_end (by rw [hl.len]; omega)]; rfl

theorem c_rCheck {l : List (List Int)} {p : List (Int × List Int)} (hl : SlR tInts D w A n l) (hp : SlR tPr D w A' m p) : CallZ Tryd.prog 15 #[.slice A n c, .slice A' m d] w (fun v w' => v = .int .i64 (checkL l p) ∧ w' = w) := by
  have hn := hl.le
  have hm := hp.le
  have hll := hl.1
  have hpl := hp.1
  refine fn_rule (args := [.slice A n c, .slice A' m d]) Tryd.func15 (by kernel_rfl) ?_
  refine len ?_
  refine cD (fun h1 => ?_) (fun h1 => ?_)
  · exact ret1 (.int .i64 2) rfl ⟨by unfold checkL; rw [if_pos (by omega)], rfl⟩
  refine len ?_
  refine cD (fun h2 => ?_) (fun h2 => ?_)
  · exact ret1 (.int .i64 2) rfl ⟨by unfold checkL; rw [if_pos (by omega)], rfl⟩
  have hck : checkL l p = if hypsOk l && p.all probeOk then 0 else 500 := by unfold checkL; rw [if_neg (by omega)]
  refine callB (c_hypotheses hl) (fun hh => ?_) (fun hh => ?_)
  · rw [hh, Bool.true_and] at hck
    refine loop_rule (fun k : Nat => [(5, .int .i64 k)]) (fun k w' => k ≤ m ∧ w = w' ∧ p.all probeOk = (p.drop k).all probeOk) (fun k _ => m - k) 0 ⟨rfl, trivial⟩ ⟨by omega, rfl, rfl⟩ rfl ?_
    rintro G k _ ⟨hk, rfl, he⟩
    refine len ?_
    refine cD (fun hlt => ?_) (fun hge => ?_)
    · have hlt : k < m := by omega
      obtain ⟨b, o, cs, x, rfl, hx, hdx, hbB, hc, hr⟩ := hp.at_ hlt
      obtain ⟨Ax, nx, cx, rfl, hxi, hxs, -⟩ := pr_open hr
      have hxl := hxs.1
      have hsz : tPr.sz = 2 := rfl
      rw [hsz] at hc
      rw [hdx, List.all_cons] at he
      have bad : probeOk x = false → checkL l p = 500 := fun h => by rw [hck, he, h]; rfl
      refine idx k rfl hlt ?_
      refine fldA ?_
      refine ld _ (hc 0 _ rfl) ?_
      refine cD (fun h1 => ?_) (fun h1 => ?_)
      · exact ret1 (.int .i64 500) rfl ⟨by rw [bad]; unfold probeOk; simp; omega, rfl⟩
      refine idx k rfl hlt ?_
      refine fldA ?_
      refine ld _ (hc 0 _ rfl) ?_
      refine cD (fun h2 => ?_) (fun h2 => ?_)
      · exact ret1 (.int .i64 500) rfl ⟨by rw [bad]; unfold probeOk; simp; omega, rfl⟩
      refine idx k rfl hlt ?_
      refine fldA ?_
      refine ld _ (hc 1 _ rfl) ?_
      refine len ?_
      refine cE (fun h3 => ?_) (fun h3 => ?_)
      · have : x.2 = [] := List.eq_nil_of_length_eq_zero (by omega)
        exact ret1 (.int .i64 500) rfl ⟨by rw [bad]; unfold probeOk; rw [this]; simp, rfl⟩
      have hne : x.2 ≠ [] := fun e => by rw [e] at hxl; simp at hxl; omega
      refine idx k rfl hlt ?_
      refine fldA ?_
      refine ld _ (hc 1 _ rfl) ?_
      refine callB (c_rSet hxs) (fun hs => ?_) (fun hs => ?_)
      · have ok : probeOk x = true := by unfold probeOk; simp [hs, hne]; omega
        rw [ok, Bool.true_and] at he
        refine arI (by omega) ?_
        exact next (k + 1) ⟨rfl, trivial⟩ ⟨by omega, rfl, he⟩ (by omega)
      · exact ret1 (.int .i64 500) rfl ⟨by rw [bad (by unfold probeOk; rw [hs, Bool.and_false])], rfl⟩
    · refine ret1 (.int .i64 0) rfl ⟨?_, rfl⟩
      rw [hck, he, drop_end (by rw [hp.len]; omega)]; rfl
  · exact ret1 (.int .i64 500) rfl ⟨by rw [hck, hh]; rfl, rfl⟩

theorem c_Few {l : List (List Int)} {p : List (Int × List Int)} (hl : SlR tInts D w A n l) (hp : SlR tPr D w A' m p) : CallZ Tryd.prog 9 #[.slice A n c, .slice A' m d] w (fun v w' => v = .bool (fewL l p) ∧ w' = w) := by
  have hn := hl.le
  have hm := hp.le
  have hll := hl.1
  have hpl := hp.1
  refine fn_rule (args := [.slice A n c, .slice A' m d]) Tryd.func9 (by kernel_rfl) ?_
  have bad : (8 < l.length ∧ l.length ≤ 12) ∨ 100 < l.length ∨ 100 < p.length → fewL l p = false := fun h => by
    unfold fewL
    have : (decide (8 < l.length) && decide (l.length ≤ 12) || decide (100 < l.length) || decide (100 < p.length)) = true := by simp; omega
    rw [this]; rfl
  have good : ¬ ((8 < l.length ∧ l.length ≤ 12) ∨ 100 < l.length ∨ 100 < p.length) → fewL l p = (l.all (fun x => decide (x.length ≤ 100)) && p.all (fun x => decide (x.2.length ≤ 100))) := fun h => by
    unfold fewL
    have : (decide (8 < l.length) && decide (l.length ≤ 12) || decide (100 < l.length) || decide (100 < p.length)) = false := by simp; omega
    rw [this]; rfl
  refine len ?_
  refine cD (fun h1 => ?_) (fun h1 => ?_)
  · refine len ?_
    refine cD (fun h2 => ?_) (fun h2 => ?_)
    · exact ret1 (.bool false) rfl ⟨by rw [bad (by omega)], rfl⟩
    refine len ?_
    refine cD (fun h3 => ?_) (fun h3 => ?_)
    · exact ret1 (.bool false) rfl ⟨by rw [bad (by omega)], rfl⟩
    refine len ?_
    refine cD (fun h4 => ?_) (fun h4 => ?_)
    · exact ret1 (.bool false) rfl ⟨by rw [bad (by omega)], rfl⟩
    have hf := good (by omega)
    refine loop_rule (fun k : Nat => [(5, .int .i64 k)]) (fun k w' => k ≤ n ∧ w = w' ∧ l.all (fun x => decide (x.length ≤ 100)) = (l.drop k).all (fun x => decide (x.length ≤ 100))) (fun k _ => n - k) 0 ⟨rfl, trivial⟩ ⟨by omega, rfl, rfl⟩ rfl ?_
    rintro G k _ ⟨hk, rfl, he⟩
    refine len ?_
    refine cD (fun hlt => ?_) (fun hge => ?_)
    · have hlt : k < n := by omega
      obtain ⟨b, o, cs, x, rfl, hx, hdx, hbB, hc, Ax, nx, cx, rfl, hxs, -⟩ := hl.at_ hlt
      have hxl := hxs.1
      rw [hdx, List.all_cons] at he
      refine idx k rfl hlt ?_
      refine ld _ (hc 0 _ rfl) ?_
      refine len ?_
      refine cD (fun h5 => ?_) (fun h5 => ?_)
      · refine ret1 (.bool false) rfl ⟨?_, rfl⟩
        rw [hf, he, decide_eq_false (by omega)]; rfl
      · rw [decide_eq_true (by omega), Bool.true_and] at he
        refine arI (by omega) ?_
        exact next (k + 1) ⟨rfl, trivial⟩ ⟨by omega, rfl, he⟩ (by omega)
    · rw [drop_end (by rw [hl.len]; omega)] at he
      rw [he] at hf
      refine loop_rule (fun k : Nat => [(6, .int .i64 k)]) (fun k w' => k ≤ m ∧ w = w' ∧ p.all (fun x => decide (x.2.length ≤ 100)) = (p.drop k).all (fun x => decide (x.2.length ≤ 100))) (fun k _ => m - k) 0 ⟨rfl, trivial⟩ ⟨by omega, rfl, rfl⟩ rfl ?_
      rintro G k _ ⟨hk, rfl, he⟩
      refine len ?_
      refine cD (fun hlt => ?_) (fun hge => ?_)
      · have hlt : k < m := by omega
        obtain ⟨b, o, cs, x, rfl, hx, hdx, hbB, hc, hr⟩ := hp.at_ hlt
        obtain ⟨Ax, nx, cx, rfl, hxi, hxs, -⟩ := pr_open hr
        have hxl := hxs.1
        have hsz : tPr.sz = 2 := rfl
        rw [hsz] at hc
        rw [hdx, List.all_cons] at he
        refine idx k rfl hlt ?_
        refine fldA ?_
        refine ld _ (hc 1 _ rfl) ?_
        refine len ?_
        refine cD (fun h5 => ?_) (fun h5 => ?_)
        · refine ret1 (.bool false) rfl ⟨?_, rfl⟩
          rw [hf, he, decide_eq_false (by omega)]; rfl
        · rw [decide_eq_true (by omega), Bool.true_and] at he
          refine arI (by omega) ?_
          exact next (k + 1) ⟨rfl, trivial⟩ ⟨by omega, rfl, he⟩ (by omega)
      · refine ret1 (.bool true) rfl ⟨?_, rfl⟩
        rw [hf, he, drop_end (by rw [hp.len]; omega)]; rfl
  · refine len ?_
    refine cD (fun h3 => ?_) (fun h3 => ?_)
    · exact ret1 (.bool false) rfl ⟨by rw [bad (by omega)], rfl⟩
    refine len ?_
    refine cD (fun h4 => ?_) (fun h4 => ?_)
    · exact ret1 (.bool false) rfl ⟨by rw [bad (by omega)], rfl⟩
    have hf := good (by omega)
    refine loop_rule (fun k : Nat => [(5, .int .i64 k)]) (fun k w' => k ≤ n ∧ w = w' ∧ l.all (fun x => decide (x.length ≤ 100)) = (l.drop k).all (fun x => decide (x.length ≤ 100))) (fun k _ => n - k) 0 ⟨rfl, trivial⟩ ⟨by omega, rfl, rfl⟩ rfl ?_
    rintro G k _ ⟨hk, rfl, he⟩
    refine len ?_
    refine cD (fun hlt => ?_) (fun hge => ?_)
    · have hlt : k < n := by omega
      obtain ⟨b, o, cs, x, rfl, hx, hdx, hbB, hc, Ax, nx, cx, rfl, hxs, -⟩ := hl.at_ hlt
      have hxl := hxs.1
      rw [hdx, List.all_cons] at he
      refine idx k rfl hlt ?_
      refine ld _ (hc 0 _ rfl) ?_
      refine len ?_
      refine cD (fun h5 => ?_) (fun h5 => ?_)
      · refine ret1 (.bool false) rfl ⟨?_, rfl⟩
        rw [hf, he, decide_eq_false (by omega)]; rfl
      · rw [decide_eq_true (by omega), Bool.true_and] at he
        refine arI (by omega) ?_
        exact next (k + 1) ⟨rfl, trivial⟩ ⟨by omega, rfl, he⟩ (by omega)
    · rw [drop_end (by rw [hl.len]; omega)] at he
      rw [he] at hf
      refine loop_rule (fun k : Nat => [(6, .int .i64 k)]) (fun k w' => k ≤ m ∧ w = w' ∧ p.all (fun x => decide (x.2.length ≤ 100)) = (p.drop k).all (fun x => decide (x.2.length ≤ 100))) (fun k _ => m - k) 0 ⟨rfl, trivial⟩ ⟨by omega, rfl, rfl⟩ rfl ?_
      rintro G k _ ⟨hk, rfl, he⟩
      refine len ?_
      refine cD (fun hlt => ?_) (fun hge => ?_)
      · have hlt : k < m := by omega
        obtain ⟨b, o, cs, x, rfl, hx, hdx, hbB, hc, hr⟩ := hp.at_ hlt
        obtain ⟨Ax, nx, cx, rfl, hxi, hxs, -⟩ := pr_open hr
        have hxl := hxs.1
        have hsz : tPr.sz = 2 := rfl
        rw [hsz] at hc
        rw [hdx, List.all_cons] at he
        refine idx k rfl hlt ?_
        refine fldA ?_
        refine ld _ (hc 1 _ rfl) ?_
        refine len ?_
        refine cD (fun h5 => ?_) (fun h5 => ?_)
        · refine ret1 (.bool false) rfl ⟨?_, rfl⟩
          rw [hf, he, decide_eq_false (by omega)]; rfl
        · rw [decide_eq_true (by omega), Bool.true_and] at he
          refine arI (by omega) ?_
          exact next (k + 1) ⟨rfl, trivial⟩ ⟨by omega, rfl, he⟩ (by omega)
      · refine ret1 (.bool true) rfl ⟨?_, rfl⟩
        rw [hf, he, drop_end (by rw [hp.len]; omega)]; rfl

theorem c_rShows {x : Int × List Int} {set : List Int} {cs : List Value} (hx : tPr.rep D w cs x) (hs : SlR tInt D w A n set) : CallZ Tryd.prog 39 #[.agg cs.toArray, .slice A n c] w (fun v w' => v = .bool (showsL x.2 set) ∧ Ext w w') := by
  obtain ⟨Ax, nx, cx, rfl, hxi, hxs, -⟩ := pr_open hx
  have hn := hs.le
  have hm := hxs.le
  refine fn_rule (args := [.agg #[.int .i64 x.1, .slice Ax nx cx], .slice A n c]) Tryd.func39 (by kernel_rfl) ?_
  refine box (fun g w1 hb => ?_)
  have hx1 := hb.ext
  have hs1 := hs.ext hx1
  have hxs1 := hxs.ext hx1
  have hc1 : w1.cell? (ad g 1) = some (.slice Ax nx cx) := hb.blk.cell rfl
  refine loop_rule (fun k : Nat => [(5, .int .i64 k)]) (fun k w' => k ≤ nx ∧ w1 = w' ∧ showsL x.2 set = showsL (x.2.drop k) set) (fun k _ => nx - k) 0 ⟨rfl, trivial⟩ ⟨by omega, rfl, rfl⟩ rfl ?_
  rintro G k _ ⟨hk, rfl, he⟩
  refine fldA ?_
  refine ld _ hc1 ?_
  refine len ?_
  refine cD (fun hlt => ?_) (fun hge => ?_)
  · have hlt : k < nx := by omega
    obtain ⟨b, o, cs, y, rfl, hy, hdy, hbB, hc, rfl, hr⟩ := hxs1.at_ hlt
    rw [hdy] at he
    unfold showsL at he
    rw [List.any_cons] at he
    refine loop_rule (fun j : Nat => [(6, .int .i64 j)]) (fun j w' => j ≤ n ∧ w1 = w' ∧ set.any (fun z => y == z) = (set.drop j).any (fun z => y == z)) (fun j _ => n - j) 0 ⟨rfl, trivial⟩ ⟨by omega, rfl, rfl⟩ rfl ?_
    rintro G j _ ⟨hj, rfl, ha⟩
    refine len ?_
    refine cD (fun hjk => ?_) (fun hjk => ?_)
    · have hjk : j < n := by omega
      obtain ⟨b', o', cs', z, rfl, hz, hdz, _, hc', rfl, _⟩ := hs1.at_ hjk
      rw [hdz, List.any_cons] at ha
      refine drawQ mx (by kernel_rfl) ?_
      refine fldA ?_
      refine ld _ hc1 ?_
      refine idx k rfl hlt ?_
      refine ld _ (hc 0 _ rfl) ?_
      refine idx j rfl hjk ?_
      refine ld _ (hc' 0 _ rfl) ?_
      refine cE (fun heq => ?_) (fun hne => ?_)
      · refine ret1 (.bool true) rfl ⟨?_, hx1⟩
        unfold showsL; rw [he, ha]; simp [heq]
      · refine arI (by omega) ?_
        refine next (j + 1) ⟨rfl, trivial⟩ ⟨by omega, rfl, ?_⟩ (by omega)
        rw [ha]; simp [hne]
    · refine arI (by omega) ?_
      refine next (k + 1) ⟨rfl, trivial⟩ ⟨by omega, rfl, ?_⟩ (by omega)
      unfold showsL
      rw [he, ha, drop_end (by rw [hs.len]; omega)]; rfl
  · refine ret1 (.bool false) rfl ⟨?_, hx1⟩
    rw [he, drop_end (by rw [hxs.len]; omega)]; rfl
end
end Go.Proofs.YtpmmhcgghldaaaaDoor
