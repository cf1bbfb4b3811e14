/- Contracts: which measurements separate; bits; the costs of all sets. -/
import Derived.Test.YtpmmhcgghldaaaaDoorP3
import Derived.Test.YtpmmhcgghldaaaaDoorPn
namespace Go.Proofs.YtpmmhcgghldaaaaDoor
open Go Go.RowKit

def sepL (l : List (List Int)) (x : Int × List Int) (list : List Nat) : Bool := decide (0 < (partL l x list true).length ∧ (partL l x list true).length < list.length)
def rstep (l : List (List Int)) (c : Nat → Int) (set : Nat) (acc : Int × Bool) (x : Int × List Int) : Int × Bool :=
  if bitsL (partL l x (mem set l.length) true) = 0 ∨ bitsL (partL l x (mem set l.length) true) = set then acc
  else if acc.2 = false ∨ x.1 + max (c (bitsL (partL l x (mem set l.length) true))) (c (set - bitsL (partL l x (mem set l.length) true))) < acc.1
    then (x.1 + max (c (bitsL (partL l x (mem set l.length) true))) (c (set - bitsL (partL l x (mem set l.length) true))), true) else acc
def rcost (l : List (List Int)) (p : List (Int × List Int)) (c : Nat → Int) (set : Nat) : Int × Bool := p.foldl (rstep l c set) (0, false)
def rtab (l : List (List Int)) (p : List (Int × List Int)) : Nat → List Int
  | 0 => []
  | s + 1 => rtab l p s ++ [(rcost l p (fun k => (rtab l p s).getD k 0) s).1]
theorem rtab_len (l : List (List Int)) (p : List (Int × List Int)) : ∀ s, (rtab l p s).length = s
  | 0 => rfl
  | s + 1 => by rw [rtab, List.length_append, rtab_len l p s]; rfl
theorem part_bits_le {l : List (List Int)} {x : Int × List Int} {set : Nat} (h : set < 2 ^ l.length) : bitsL (partL l x (mem set l.length) true) ≤ set := by
  have h1 := bitsL_filter (fun i => shw l x i == true) (mem set l.length)
  rw [bitsL_mem h] at h1
  show bitsL ((mem set l.length).filter fun i => shw l x i == true) ≤ set
  omega

section
variable {D D' : Nat → Prop} {w : World} {A A' A2 : Option Addr} {n m k c d e : Nat}

theorem c_rseparates {l : List (List Int)} {x : Int × List Int} {list : List Nat} {cs : List Value} (hl : SlR tInts D w A n l) (hx : tPr.rep D w cs x) (hs : SlR tNat D' w A' m list) (hin : ∀ i ∈ list, i < n) (hm : m ≤ 1000) :
    CallZ Tryd.prog 50 #[.slice A n c, .agg cs.toArray, .slice A' m d] w (fun v w' => v = .bool (sepL l x list) ∧ Ext w w') := by
  obtain ⟨Ax, nx, cx, rfl, hxi, hxs, -⟩ := pr_open hx
  have hml := hs.1
  refine fn_rule (args := [.slice A n c, .agg #[.int .i64 x.1, .slice Ax nx cx], .slice A' m d]) Tryd.func50 (by kernel_rfl) ?_
  refine box (fun g w1 hb => ?_)
  have hx1 := hb.ext
  refine ldA [.int .i64 x.1, .slice Ax nx cx] (.blk hb.blk) rfl ?_
  refine call_of (c_rPart (cs := [.int .i64 x.1, .slice Ax nx cx]) (som := true) (hl.ext hx1) (tPr.ext hx hx1) (hs.ext hx1) hin hm) ?_
  rintro _ w2 ⟨hx2, A2, k, c2, rfl, -, hp⟩
  have hkl := hp.1
  refine len ?_
  refine cD (fun h1 => ?_) (fun h1 => ?_)
  · refine len ?_
    refine cD (fun h2 => ?_) (fun h2 => ?_)
    · exact ret1 (.bool true) rfl ⟨by unfold sepL; rw [decide_eq_true (by omega)], hx1.trans hx2⟩
    · exact ret1 (.bool false) rfl ⟨by unfold sepL; rw [decide_eq_false (by omega)], hx1.trans hx2⟩
  · exact ret1 (.bool false) rfl ⟨by unfold sepL; rw [decide_eq_false (by omega)], hx1.trans hx2⟩

theorem c_rSeparable {l : List (List Int)} {p : List (Int × List Int)} {list : List Nat} (hl : SlR tInts D w A n l) (hp : SlR tPr D w A2 k p) (hs : SlR tNat D' w A' m list) (hin : ∀ i ∈ list, i < n) (hm : m ≤ 1000) :
    CallZ Tryd.prog 46 #[.slice A n c, .slice A2 k e, .slice A' m d] w (fun v w' => v = .bool (p.any fun x => sepL l x list) ∧ Ext w w') := by
  have hk := hp.le
  refine fn_rule (args := [.slice A n c, .slice A2 k e, .slice A' m d]) Tryd.func46 (by kernel_rfl) ?_
  refine loop_rule (fun j : Nat => [(7, .int .i64 j)]) (fun j w' => j ≤ k ∧ Ext w w' ∧ (p.any fun x => sepL l x list) = ((p.drop j).any fun x => sepL l x list)) (fun j _ => k - j) 0 ⟨rfl, trivial⟩ ⟨by omega, .refl _ _, rfl⟩ rfl ?_
  rintro G j w1 ⟨hj, hx1, he⟩
  refine len ?_
  refine cD (fun hlt => ?_) (fun hge => ?_)
  · have hlt : j < k := by omega
    obtain ⟨b, o, cs, x, rfl, hx, hdx, hbB, hc, hr⟩ := (hp.ext hx1).at_ hlt
    rw [hdx, List.any_cons] at he
    refine idx j rfl hlt ?_
    refine ldA cs hc (tPr.len hr) ?_
    refine callE (c_rseparates (hl.ext hx1) hr (hs.ext hx1) hin hm) (fun w2 hb2 hx2 => ?_) (fun w2 hb2 hx2 => ?_)
    · exact ret1 (.bool true) rfl ⟨by rw [he, hb2]; rfl, hx1.trans hx2⟩
    · refine arI (by omega) ?_
      exact next (j + 1) ⟨rfl, trivial⟩ ⟨by omega, hx1.trans hx2, by rw [he, hb2]; rfl⟩ (by omega)
  · exact ret1 (.bool false) rfl ⟨by rw [he, drop_end (by rw [hp.len]; omega)]; rfl, hx1⟩

theorem c_members {s N : Nat} (hN : N ≤ 60) (hs : s < 9223372036854775808) :
    CallZ Tryd.prog 30 #[.int .i64 s, .int .i64 N] w (fun v w' => NewL w w' v (mem s N)) := by
  refine fn_rule (args := [.int .i64 s, .int .i64 N]) Tryd.func30 (by kernel_rfl) ?_
  refine lit [] (fun g w1 hb => ?_)
  refine loop4 (fun (k : Nat) (A : Option Addr) (n c : Nat) => [(6, .int .i64 k), (5, .slice A n c)])
    (fun k A n c w' => k ≤ N ∧ OwnF w w' A n c 3 1 ((mem s k).map nv)) (fun k _ _ _ _ => N - k) 0 (some (ad g 0)) 0 0 ⟨rfl, rfl, trivial⟩ ⟨by omega, OwnF.lit (cs := []) (.refl _ _) hb rfl⟩ rfl ?_
  rintro G k A5 n5 c5 w2 ⟨hk, hown⟩
  have hcnt := hown.cnt
  have hml := mem_len s k
  refine cD (fun hlt => ?_) (fun hge => ?_)
  · refine shrV (fun q hq => ?_)
    refine andV (fun r hr => ?_) (by rw [hq]; have := Nat.shiftRight_le s (Int.toNat k); omega) (by decide)
    refine cE (fun h1 => ?_) (fun h1 => ?_)
    · have hb : s.testBit k = true := (shr_and s k).1 (by rw [← Int.toNat_natCast k, ← hq, ← hr]; omega)
      refine lit [.int .i64 (k : Int)] (fun g3 w3 hb3 => ?_)
      refine appF (hown.then hb3.ext) (hb3.src (sz := 1) rfl) (by omega) (fun A' c' w4 ho4 _ _ => ?_)
      refine arI (by omega) ?_
      refine next4 (k + 1) A' (n5 + 1) c' ⟨rfl, rfl, trivial⟩ ⟨by omega, ?_⟩ (by omega)
      rw [mem_succ, hb, List.map_append]; exact ho4
    · have hb : s.testBit k = false := by
        cases hb : s.testBit k with
        | false => rfl
        | true => exact absurd (by rw [hr, hq, Int.toNat_natCast, (shr_and s k).2 hb]; rfl) h1
      refine arI (by omega) ?_
      refine next4 (k + 1) A5 n5 c5 ⟨rfl, rfl, trivial⟩ ⟨by omega, ?_⟩ (by omega)
      rw [mem_succ, hb]; simpa using hown
  · refine ret1 (.slice A5 n5 c5) rfl ?_
    obtain rfl : k = N := by omega
    refine hown.newL (fun x hx => ?_) (by omega)
    have := mem_lt hx; omega

theorem c_bits {list : List Nat} (hs : SlR tNat D w A n list) (hin : ∀ i ∈ list, i < 12) (hn : n ≤ 1000) :
    CallZ Tryd.prog 32 #[.slice A n c] w (fun v w' => v = .int .i64 (bitsL list : Nat) ∧ w' = w) := by
  refine fn_rule (args := [.slice A n c]) Tryd.func32 (by kernel_rfl) ?_
  refine loop2 (fun (k m : Nat) => [(4, .int .i64 k), (3, .int .i64 m)]) (fun k m w' => k ≤ n ∧ w = w' ∧ m ≤ k * 4096 ∧ bitsL list = m + bitsL (list.drop k)) (fun k _ _ => n - k) 0 0 ⟨rfl, rfl, trivial⟩ ⟨by omega, rfl, by omega, by simp⟩ rfl ?_
  rintro G k m _ ⟨hk, rfl, hm, he⟩
  refine len ?_
  refine cD (fun hlt => ?_) (fun hge => ?_)
  · have hlt : k < n := by omega
    obtain ⟨b, o, cs, i, rfl, hi, hdi, hbB, hc, hr⟩ := hs.at_ hlt
    obtain ⟨rfl, -⟩ := tNat_rep hr
    have hi12 := hin i (List.mem_of_getElem? hi)
    rw [hdi, bitsL_cons] at he
    refine idx k rfl hlt ?_
    refine ld _ (hc 0 _ rfl) ?_
    refine shl1 (fun q hq _ => ?_)
    rw [Int.toNat_natCast] at hq
    have : 2 ^ i ≤ 2 ^ 11 := Nat.pow_le_pow_right (by omega) (by omega)
    rw [← hq] at he this
    refine arI (by omega) ?_
    refine arI (by omega) ?_
    exact next2 (k + 1) (m + q) ⟨rfl, rfl, trivial⟩ ⟨by omega, rfl, by omega, by omega⟩ (by omega)
  · refine ret1 (.int .i64 m) rfl ⟨?_, rfl⟩
    rw [he, drop_end (by rw [hs.len]; omega), bitsL_nil]; rfl
end
end Go.Proofs.YtpmmhcgghldaaaaDoor
