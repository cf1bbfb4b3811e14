/- Contracts: parts of a list of hypotheses. -/
import Derived.Test.YtpmmhcgghldaaaaDoorP2
namespace Go.Proofs.YtpmmhcgghldaaaaDoor
open Go Go.RowKit

def shw (l : List (List Int)) (x : Int × List Int) (i : Nat) : Bool := showsL x.2 (l.getD i [])
def partL (l : List (List Int)) (x : Int × List Int) (list : List Nat) (som : Bool) : List Nat := list.filter (fun i => shw l x i == som)
theorem partL_sub {l : List (List Int)} {x : Int × List Int} {list : List Nat} {som : Bool} : ∀ i ∈ partL l x list som, i ∈ list := fun _ hi => (List.mem_filter.1 hi).1
theorem partL_le {l : List (List Int)} {x : Int × List Int} {list : List Nat} {som : Bool} : (partL l x list som).length ≤ list.length := List.length_filter_le _ _

section
variable {D D' : Nat → Prop} {w : World} {A A' : Option Addr} {n m c d : Nat}

theorem c_rPart {l : List (List Int)} {x : Int × List Int} {list : List Nat} {som : Bool} {cs : List Value} (hl : SlR tInts D w A n l) (hx : tPr.rep D w cs x) (hs : SlR tNat D' w A' m list) (hin : ∀ i ∈ list, i < n) (hm : m ≤ 1000) :
    CallZ Tryd.prog 44 #[.slice A n c, .agg cs.toArray, .slice A' m d, .bool som] w (fun v w' => NewL w w' v (partL l x list som)) := by
  obtain ⟨Ax, nx, cx, rfl, hxi, hxs, -⟩ := pr_open hx
  have hn := hl.le
  have hml := hs.1
  refine fn_rule (args := [.slice A n c, .agg #[.int .i64 x.1, .slice Ax nx cx], .slice A' m d, .bool som]) Tryd.func44 (by kernel_rfl) ?_
  refine box (fun g w1 hb => ?_)
  have hx1 := hb.ext
  refine lit [] (fun g2 w2 hb2 => ?_)
  have hx2 := hx1.trans hb2.ext
  have hcb : CellsAt w1 g 0 [.int .i64 x.1, .slice Ax nx cx] := .blk hb.blk
  refine loop4 (fun (k : Nat) (A : Option Addr) (n c : Nat) => [(10, .int .i64 k), (9, .slice A n c)])
    (fun k A n c w' => k ≤ m ∧ OwnF w1 w' A n c 3 1 ((partL l x (list.take k) som).map nv)) (fun k _ _ _ _ => m - k) 0 (some (ad g2 0)) 0 0 ⟨rfl, rfl, trivial⟩
    ⟨by omega, OwnF.lit (cs := []) (.refl _ _) hb2 rfl⟩ rfl ?_
  rintro G k A9 n9 c9 w3 ⟨hk, hown⟩
  have hx3 := hx1.trans hown.ext
  have hcnt := hown.cnt
  have hcle : (partL l x (list.take k) som).length ≤ k := Nat.le_trans partL_le (by rw [List.length_take]; omega)
  refine len ?_
  refine cD (fun hlt => ?_) (fun hge => ?_)
  · have hlt : k < m := by omega
    obtain ⟨b, o, cs, i, rfl, hi, hdi, hbB, hc, hr⟩ := (hs.ext hx3).at_ hlt
    obtain ⟨rfl, -⟩ := tNat_rep hr
    have hin' : i < n := hin i (List.mem_of_getElem? hi)
    obtain ⟨b2, o2, cs2, y, rfl, hy, -, -, hc2, Ay, ny, cy, rfl, hys, -⟩ := (hl.ext hx3).at_ hin'
    have hgd : l.getD i [] = y := by rw [List.getD_eq_getElem?_getD, hy]; rfl
    have hcb3 : CellsAt w3 g 0 [.int .i64 x.1, .slice Ax nx cx] := hcb.kept hown.ext trivial
    refine drawX [0, 1, 2, 3, 4, 5, 6, 7, 8, 9] [8] mx (by kernel_rfl) ?_
    refine ldAX _ hcb3 rfl (.refl _ _) ?_
    refine idx k rfl hlt ?_
    refine ldX _ (hc 0 _ rfl) (.refl _ _) ?_
    refine idx i rfl hin' ?_
    refine ldX _ (hc2 0 _ rfl) (.refl _ _) ?_
    have hfil : ∀ bb, showsL x.2 y = bb → partL l x (list.take (k + 1)) som = if bb = som then partL l x (list.take k) som ++ [i] else partL l x (list.take k) som := fun bb hbb => by
      unfold partL
      rw [take_succ' hi, List.filter_append]
      have : shw l x i = bb := by unfold shw; rw [hgd]; exact hbb
      simp only [List.filter_cons, this, List.filter_nil]
      by_cases e : bb = som
      · simp [e]
      · simp [e]
    have hrep : tPr.rep D w3 [.int .i64 x.1, .slice Ax nx cx] x := tPr.ext hx hx3
    refine callE (c_rShows (cs := [.int .i64 x.1, .slice Ax nx cx]) hrep hys) (fun w4 hb4 hx4 => ?_) (fun w4 hb4 hx4 => ?_)
    all_goals (
      refine strS hx4 ?_
      refine eqB (fun he => ?_) (fun he => ?_)
      · refine idx k rfl hlt ?_
        refine ld _ ((hc.kept hx4 trivial) 0 _ rfl) ?_
        refine lit [.int .i64 (i : Int)] (fun g5 w5 hb5 => ?_)
        refine appF ((hown.then hx4).then hb5.ext) (hb5.src (sz := 1) rfl) (by omega) (fun A' c' w6 ho6 _ _ => ?_)
        refine arI (by omega) ?_
        refine next4 (k + 1) A' (n9 + 1) c' ⟨rfl, rfl, trivial⟩ ⟨by omega, ?_⟩ (by omega)
        rw [hfil _ hb4, if_pos he, List.map_append]; exact ho6
      · refine arI (by omega) ?_
        refine next4 (k + 1) A9 n9 c9 ⟨rfl, rfl, trivial⟩ ⟨by omega, ?_⟩ (by omega)
        rw [hfil _ hb4, if_neg he]; exact hown.then hx4)
  · refine ret1 (.slice A9 n9 c9) rfl ?_
    rw [List.take_of_length_le (by omega)] at hown
    refine (hown.base hx1).newL (fun x hx => ?_) (by omega)
    have := hin x (partL_sub x hx); omega
end
end Go.Proofs.YtpmmhcgghldaaaaDoor
