/- Contracts: the law's own helpers. -/
import Derived.Test.YtpmmhcgghldaaaaDoorQ9
namespace Go.Proofs.YtpmmhcgghldaaaaDoor
open Go Go.RowKit

section
variable {D D' : Nat → Prop} {w : World} {A A' : Option Addr} {n m c d : Nat}
theorem c_all {l : List (List Int)} (hl : SlR tInts D w A n l) (hn : n ≤ 1000) : CallZ Tryd.prog 23 #[.slice A n c] w (fun v w' => NewL w w' v (List.range n)) := by
  refine fn_rule (args := [.slice A n c]) Tryd.func23 (by kernel_rfl) ?_
  refine len ?_
  refine loop4 (fun (k : Nat) (A : Option Addr) (n c : Nat) => [(6, .int .i64 k), (2, .slice A n c)])
    (fun k A2 n2 c2 w' => k ≤ n ∧ OwnF w w' A2 n2 c2 3 1 ((List.range k).map nv)) (fun k _ _ _ _ => n - k) 0 none 0 0 ⟨rfl, rfl, trivial⟩ ⟨by omega, OwnF.nil (.refl _ _)⟩ rfl ?_
  rintro G k A2 n2 c2 w1 ⟨hk, hown⟩
  have hcnt := hown.cnt
  rw [List.length_range] at hcnt
  refine cD (fun hlt => ?_) (fun hge => ?_)
  · refine lit [.int .i64 (k : Int)] (fun g w3 hb3 => ?_)
    refine appF (hown.then hb3.ext) (hb3.src (sz := 1) rfl) (by omega) (fun A' c' w4 ho4 _ _ => ?_)
    refine arI (by omega) ?_
    exact next4 (k + 1) A' (n2 + 1) c' ⟨rfl, rfl, trivial⟩ ⟨by omega, by rw [List.range_succ, List.map_append]; exact ho4⟩ (by omega)
  · obtain rfl : k = n := by omega
    refine ret1 (.slice A2 n2 c2) rfl (hown.newL (fun x hx => ?_) (by omega))
    have := List.mem_range.1 hx; omega
theorem c_shows {x : Pr} {set : List Int} {cs : List Value} (hx : tPr.rep D w cs x) (hs : SlR tInt D' w A n set) : CallZ Tryd.prog 24 #[.agg cs.toArray, .slice A n c] w (fun v w' => v = .bool (showsL x.2 set) ∧ Ext w w') := by
  obtain ⟨Ax, nx, cx, rfl, hxi, hxs, -⟩ := pr_open hx
  have hn := hs.le
  have hm := hxs.le
  refine fn_rule (args := [.agg #[.int .i64 x.1, .slice Ax nx cx], .slice A n c]) Tryd.func24 (by kernel_rfl) ?_
  refine box (fun gb w1 hb => ?_)
  have x1 := hb.ext
  refine mmap (fun g w2 hg hw2 => ?_)
  have x2 : Ext w1 w2 := by rw [hw2]; exact Kept.alloc _ _ _
  have m2 : MapFn .i64 w2 g (fun _ => none) := by rw [hw2, hg]; exact MapFn.new _ _
  have hsz := hb.size
  have hgb := hb.at_
  have hw := x1.trans x2
  refine len ?_
  refine loop_rule (fun k : Nat => [(13, .int .i64 k)]) (fun k w' => k ≤ n ∧ Kept (fun b => b ≠ g) w2 w' ∧ ∃ f, MapFn .i64 w' g f ∧ ∀ y, f y = if (set.take k).contains y then some (.bool true) else none) (fun k _ => n - k) 0 ⟨rfl, trivial⟩ ⟨by omega, .refl _ _, _, m2, fun y => by simp⟩ rfl ?_
  rintro G k w3 ⟨hk, k3, f, hf, hfy⟩
  have hx3 : Ext w w3 := hw.then k3 (fun b hb _ e => by omega)
  refine cD (fun hlt => ?_) (fun hge => ?_)
  · have hlt : k < n := by omega
    obtain ⟨b, o, cs, y, rfl, hy, hdy, -, hc, rfl, -⟩ := (hs.ext hx3).at_ hlt
    refine idx k rfl hlt ?_
    refine ld _ (hc 0 _ rfl) ?_
    refine mupd hf (fun w4 hf4 k4 hz4 => ?_)
    refine arI (by omega) ?_
    refine next (k + 1) ⟨rfl, trivial⟩ ⟨by omega, k3.trans k4, _, hf4, fun z => ?_⟩ (by omega)
    unfold fset
    rw [hfy, take_succ' hy]
    by_cases h : z = y
    · subst h
      have hcn : (set.take k ++ [z]).contains z = true := by simp
      rw [hcn, if_pos rfl, if_pos rfl]; rfl
    · have hcn : (set.take k ++ [y]).contains z = (set.take k).contains z := by simp [h]
      rw [hcn]; simp [h]
  · rw [List.take_of_length_le (by have := hs.1; omega)] at hfy
    have hcb : CellsAt w3 gb 0 [.int .i64 x.1, .slice Ax nx cx] := CellsAt.kept (.blk (hb.blk.ext x2)) k3 (show gb ≠ g by omega)
    refine fldA ?_
    refine ld _ (hcb 1 _ rfl) ?_
    refine len ?_
    refine loop_rule (fun j : Nat => [(23, .int .i64 j)]) (fun j w' => j ≤ nx ∧ w3 = w' ∧ showsL x.2 set = showsL (x.2.drop j) set) (fun j _ => nx - j) 0 ⟨rfl, trivial⟩ ⟨by omega, rfl, rfl⟩ rfl ?_
    rintro G j _ ⟨hj, rfl, he⟩
    refine cD (fun hlt => ?_) (fun hge => ?_)
    · have hlt : j < nx := by omega
      obtain ⟨b, o, cs, y, rfl, hy, hdy, -, hc, rfl, -⟩ := (hxs.ext hx3).at_ hlt
      rw [hdy] at he
      have he : showsL x.2 set = ((set.any fun z => y == z) || showsL (x.2.drop (j + 1)) set) := he
      have hany : (set.any fun z => y == z) = set.contains y := by rw [List.contains_eq_any_beq]
      refine idx j rfl hlt ?_
      refine ld _ (hc 0 _ rfl) ?_
      cases hcy : set.contains y with
      | true =>
        refine look1 (.bool true) (fun u hu => by subst hu; exact hf) (by rw [hfy, if_pos hcy]; rfl) ?_
        exact ret1 (.bool true) rfl ⟨by rw [he, hany, hcy]; rfl, hx3⟩
      | false =>
        refine look1 (.bool false) (fun u hu => by subst hu; exact hf) (by rw [hfy, if_neg (by rw [hcy]; simp)]; rfl) ?_
        refine arI (by omega) ?_
        exact next (j + 1) ⟨rfl, trivial⟩ ⟨by omega, rfl, by rw [he, hany, hcy]; rfl⟩ (by omega)
    · exact ret1 (.bool false) rfl ⟨by rw [he, drop_end (by have := hxs.1; omega)]; rfl, hx3⟩
end
end Go.Proofs.YtpmmhcgghldaaaaDoor
