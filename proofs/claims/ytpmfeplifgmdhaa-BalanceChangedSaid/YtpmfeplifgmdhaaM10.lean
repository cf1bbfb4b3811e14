/- Parts of the proof: Bx Za. -/
import Derived.Test.YtpmfeplifgmdhaaM9
import Derived.Test.YtpmfeplifgmdhaaM6
import Derived.Test.YtpmfeplifgmdhaaRows
import Derived.Stop.LaidErr

/- Layer 23: contract of the law BalanceChanged. -/
namespace Go.Proofs.Ytpmfeplifgmdhaa
open Go Go.RowKit

section
variable {d : Dist} {x : Run} {H i k r : Nat} {t : List (List Int)} {v : Int}
theorem bErr_not (e0 : bErr d x = 0) {y : Run} (h : rightB d y ≠ true) : bErr d y = 230 := by
  obtain ⟨h1, h2, h3⟩ := bErr_ok.1 e0
  unfold bErr
  rw [dErr_ok.2 h1, if_neg (by decide), h2, if_neg (by decide), if_neg h]
theorem chg_tail (e0 : bErr d x = 0) (hi : i < d.reaches.length) (hk : k < d.hours.toNat) (hne : g2 t i k ≠ g2 x.tail i k) : bErr d { x with tail := t } = 230 := by
  refine bErr_not e0 fun h => hne ?_
  obtain ⟨-, hR⟩ := bErr_fm e0
  have b1 := hR.bal i k hi hk
  have b2 := (rightB_iff.1 h).2.bal i k hi hk
  unfold balI at b1 b2
  rw [decide_eq_true_eq] at b1 b2
  have e : leftN d { x with tail := t } i k = leftN d x i k - g2 x.tail i k + g2 t i k := by
    unfold leftN
    show sumL (childL d x k i d.reaches.length) + sumL (farmL d x k i d.farms.length) + g2 t i k = _
    omega
  have e2 : parc d { x with tail := t } k i = parc d x k i := rfl
  rw [e, e2] at b2
  omega
theorem farm_chg (hs : ∀ j, j ≠ i → g2 t j k = g2 x.taken j k) (hr : (frm d i).reach = (r : Int)) : ∀ n, sumL (farmL d { x with taken := t } k r n) = sumL (farmL d x k r n) + if i < n then g2 t i k - g2 x.taken i k else 0
  | 0 => by rw [if_neg (by omega)]; rfl
  | n + 1 => by
    rw [farmL_succ, farmL_succ, sumL_app, sumL_app, farm_chg hs hr n]
    by_cases h : (frm d n).reach = (r : Int)
    · rw [if_pos h, if_pos h]
      simp only [sumL, List.map_cons, List.map_nil, List.sum_cons, List.sum_nil]
      by_cases e : i = n
      · subst e; rw [if_neg (by omega), if_pos (by omega)]; omega
      · rw [hs n (fun e2 => e e2.symm)]
        by_cases h3 : i < n
        · rw [if_pos h3, if_pos (by omega)]; omega
        · rw [if_neg h3, if_neg (by omega)]; omega
    · rw [if_neg h, if_neg h]
      have e : i ≠ n := fun e => h (by rw [← e]; exact hr)
      by_cases h3 : i < n
      · rw [if_pos h3, if_pos (by omega)]; show _ + sumL [] = _; simp [sumL]
      · rw [if_neg h3, if_neg (by omega)]; show _ + sumL [] = _; simp [sumL]
theorem chg_taken (e0 : bErr d x = 0) (hi : i < d.farms.length) (hk : k < d.hours.toNat) (hs : ∀ j, j ≠ i → g2 t j k = g2 x.taken j k) (hne : g2 t i k ≠ g2 x.taken i k) : bErr d { x with taken := t } = 230 := by
  refine bErr_not e0 fun h => hne ?_
  obtain ⟨hf, hR⟩ := bErr_fm e0
  have hfo := List.all_eq_true.1 hf.farm (frm d i) (List.mem_of_getElem? (farm_at hi))
  unfold farmOk at hfo
  simp only [Bool.and_eq_true, inI_iff] at hfo
  obtain ⟨-, ⟨h1, h2⟩, -⟩ := hfo
  obtain ⟨r, hr⟩ : ∃ r : Nat, (frm d i).reach = (r : Int) := ⟨(frm d i).reach.toNat, by omega⟩
  have hrl : r < d.reaches.length := by omega
  have b1 := hR.bal r k hrl hk
  have b2 := (rightB_iff.1 h).2.bal r k hrl hk
  unfold balI at b1 b2
  rw [decide_eq_true_eq] at b1 b2
  have hc := farm_chg (t := t) hs hr d.farms.length
  rw [if_pos hi] at hc
  have e : leftN d { x with taken := t } r k = leftN d x r k + (g2 t i k - g2 x.taken i k) := by
    unfold leftN
    rw [hc]
    show sumL (childL d x k r d.reaches.length) + _ + g2 x.tail r k = _
    omega
  have e2 : parc d { x with taken := t } k r = parc d x k r := rfl
  rw [e, e2] at b2
  omega
theorem g2_set {ls : List (List Int)} {row : List Int} (h1 : i < ls.length) (h2 : k < row.length) : g2 (ls.set i (row.set k v)) i k = v := by
  unfold g2 g1
  rw [List.getD_eq_getElem?_getD, List.getD_eq_getElem?_getD, List.getElem?_set_self h1, Option.getD_some, List.getElem?_set_self h2]; rfl
theorem g2_set_ne {ls : List (List Int)} {row : List Int} {j : Nat} (h : j ≠ i) : g2 (ls.set i row) j k = g2 ls j k := by
  unfold g2 g1
  rw [List.getD_eq_getElem?_getD (l := ls.set i row), List.getElem?_set_ne (fun e => h e.symm), ← List.getD_eq_getElem?_getD]
end
section
variable {D : Nat → Prop} {w : World}
set_option maxRecDepth 20000 in
theorem c_BalanceChanged {csd csx : List Value} {d : Dist} {x : Run} {av hv bv : Int} (hd : DiR D w csd d) (hx : RuR D w csx x) (hav : 0 ≤ av ∧ av ≤ 255) (hhv : 0 ≤ hv ∧ hv ≤ 255) (hbv : -128 ≤ bv ∧ bv ≤ 127) : CallZ Try.prog 7 #[.agg csd.toArray, .agg csx.toArray, .int .u8 av, .int .u8 hv, .int .i8 bv] w
    (fun v w' => v = .bool true ∧ Ext w w') := by
  have hd := hd.more (D' := fun b => b < w.heap.size) fun b hb _ => hb
  have hx := hx.more (D' := fun b => b < w.heap.size) fun b hb _ => hb
  obtain ⟨A1, n1, c1, A2, n2, c2, A3, n3, c3, A4, n4, c4, A5, n5, c5, A6, n6, c6, rfl, hr, hfa, -⟩ := hd.ex
  obtain ⟨B1, m1, e1, B2, m2, e2, B3, m3, e3, B4, m4, e4, B5, m5, e5, B6, m6, e6, B7, m7, e7, rfl, i1, i2, i3, i4, i5, i6, i7, i8, i9⟩ := hx.ex
  refine fn_rule (args := [.agg #[.string d.name, iv d.hours, iv d.cap, iv d.start, .slice A1 n1 c1, .slice A2 n2 c2, .slice A3 n3 c3, .slice A4 n4 c4, .slice A5 n5 c5, .slice A6 n6 c6], .agg #[.slice B1 m1 e1, .slice B2 m2 e2, .slice B3 m3 e3, .slice B4 m4 e4, .slice B5 m5 e5, .slice B6 m6 e6, .slice B7 m7 e7], .int .u8 av, .int .u8 hv, .int .i8 bv]) Try.func7 (by kernel_rfl) ?_
  refine box (fun bd w1 h1 => ?_)
  refine box (fun bx w2 h2 => ?_)
  have x2 := h1.ext.trans h2.ext
  have Bd : Blk w2 bd 31 [.string d.name, iv d.hours, iv d.cap, iv d.start, .slice A1 n1 c1, .slice A2 n2 c2, .slice A3 n3 c3, .slice A4 n4 c4, .slice A5 n5 c5, .slice A6 n6 c6] := h1.blk.ext h2.ext
  have Bx : Blk w2 bx 35 [.slice B1 m1 e1, .slice B2 m2 e2, .slice B3 m3 e3, .slice B4 m4 e4, .slice B5 m5 e5, .slice B6 m6 e6, .slice B7 m7 e7] := h2.blk
  have bdl := Bd.lt
  have bxl := Bx.lt
  have bda := h1.at_
  have bxa := h2.at_
  have s1 := h1.size
  have s2 := h2.size
  refine call_of c_sane ?_
  rintro _ w3 ⟨rfl, x3⟩
  have hd3 := (hd.ext x2).ext x3
  have hx3 := (hx.ext x2).ext x3
  have Bd3 := Bd.ext x3
  have Bx3 := Bx.ext x3
  refine ldA _ (.blk Bd3) rfl ?_
  refine ldA _ (.blk Bx3) rfl ?_
  refine call_of (c_r23Few hd3 hx3) ?_
  rintro _ w4 ⟨b, rfl, x4⟩
  have x24 := x3.trans x4
  have x04 := x2.trans x24
  cases b with
  | false => exact ret1 (.bool true) rfl ⟨rfl, x04⟩
  | true =>
  have hd4 := hd3.ext x4
  have hx4 := hx3.ext x4
  have Bd4 := Bd3.ext x4
  have Bx4 := Bx3.ext x4
  refine ldA _ (.blk Bd4) rfl ?_
  refine ldA _ (.blk Bx4) rfl ?_
  refine call_of (c_bCheck hd4 hx4) ?_
  rintro _ w5 ⟨rfl, x5⟩
  have x25 := x24.trans x5
  have x05 := x04.trans x5
  refine cN (fun _ => ret1 (.bool true) rfl ⟨rfl, x05⟩) (fun e0 => ?_)
  have e0 : bErr d x = 0 := e0
  have hd5 := hd4.ext x5
  have hx5 := hx4.ext x5
  have Bd5 := Bd4.ext x5
  have Bx5 := Bx4.ext x5
  refine cD (fun _ => ret1 (.bool true) rfl ⟨rfl, x05⟩) (fun hb0 => ?_)
  have hb0 : bv ≠ 0 := hb0
  obtain ⟨hf, hR⟩ := bErr_fm e0
  generalize hH : d.hours.toNat = H at hf hR
  have hHi := hf.hours
  have hH1 := hf.h1
  have hH2 := hf.h2
  have hnr := hf.nr
  have hnr' := hf.nr'
  have hnf := hf.nf
  have ln := hr.len
  have lf := hfa.len
  have ltail := (tabB_iff.1 hf.tail).1
  have ltaken := (tabB_iff.1 hf.taken).1
  have l7 := i7.len
  have l6 := i6.len
  refine fldA ?_
  refine ld (.slice B7 m7 e7) (Bx5.cell rfl) ?_
  refine len ?_
  refine cD (fun q => absurd q (by omega)) (fun _ => ?_)
  refine fldA ?_
  refine ld (.slice B7 m7 e7) (Bx5.cell rfl) ?_
  refine len ?_
  refine fldA ?_
  refine ld (.slice A1 n1 c1) (Bd5.cell rfl) ?_
  refine len ?_
  refine cN (fun q => absurd (by omega) q) (fun _ => ?_)
  refine fldA ?_
  refine ld (.slice B6 m6 e6) (Bx5.cell rfl) ?_
  refine len ?_
  refine fldA ?_
  refine ld (.slice A2 n2 c2) (Bd5.cell rfl) ?_
  refine len ?_
  refine cN (fun q => absurd (by omega) q) (fun _ => ?_)
  refine convI (by omega) ?_
  refine fldA ?_
  refine ld (iv d.hours) (Bd5.cell rfl) ?_
  refine remI (by omega) (by omega) ?_
  obtain ⟨k, hk⟩ : ∃ k : Nat, hv % d.hours = (k : Int) := ⟨(hv % d.hours).toNat, by have := Int.emod_nonneg hv (b := d.hours) (by omega); omega⟩
  have hkH : k < H := by have := Int.emod_lt_of_pos hv (b := d.hours) (by omega); omega
  rw [hk]
  have s5 := x05.size
  have s25 := x25.size
  refine drawP (.take 0 (.take 1 (.alt 2 (.eff 3 (.eff 4 (.eff 5 .done))) (.eff 3 (.eff 2 (.eff 4 (.eff 5 .done))))))) [] (fun u => Ext w5 u) mx (by kernel_rfl) (.refl _ _) ?_
  refine ldAX _ (.blk Bx5) rfl (.refl _ _) ?_
  refine ldAX _ (.blk Bx5) rfl (.refl _ _) ?_
  refine ⟨?xl, ?xr⟩
  case' xl =>
    refine alloc (fun q12 u1 a1 => ?_)
    refine strS a1.ext ?_
    refine alloc (fun q13 u2 a2 => ?_)
    have xa := a1.ext.trans a2.ext
    refine strS xa ?_
    have at1 := a1.at_
    have at2 := a2.at_
    have as1 := a1.size
    have as2 := a2.size
    refine stA (vs := [.slice B1 m1 e1, .slice B2 m2 e2, .slice B3 m3 e3, .slice B4 m4 e4, .slice B5 m5 e5, .slice B6 m6 e6, .slice B7 m7 e7]) (cs := List.replicate 7 (.slice none 0 0)) (a1.blk.ext a2.ext) rfl (Nat.le_of_ble_eq_true rfl) (by simp [Value.oneCell']) (fun u3 c12 l3 t3 => ?_)
    have c12 : Blk u3 q12 35 [.slice B1 m1 e1, .slice B2 m2 e2, .slice B3 m3 e3, .slice B4 m4 e4, .slice B5 m5 e5, .slice B6 m6 e6, .slice B7 m7 e7] := c12
    have xu3 : Ext w5 u3 := xa.then l3 fun b hb _ => by omega
    refine strS xu3 ?_
    refine stA (vs := [.slice B1 m1 e1, .slice B2 m2 e2, .slice B3 m3 e3, .slice B4 m4 e4, .slice B5 m5 e5, .slice B6 m6 e6, .slice B7 m7 e7]) (cs := List.replicate 7 (.slice none 0 0)) (a2.blk.kept l3 (by omega)) rfl (Nat.le_of_ble_eq_true rfl) (by simp [Value.oneCell']) (fun u8 c13 l4 t4 => ?_)
    have c13 : Blk u8 q13 35 [.slice B1 m1 e1, .slice B2 m2 e2, .slice B3 m3 e3, .slice B4 m4 e4, .slice B5 m5 e5, .slice B6 m6 e6, .slice B7 m7 e7] := c13
    have xu8 : Ext w5 u8 := xu3.then l4 fun b hb _ => by omega
    refine strS xu8 ?_
    have c12 := c12.kept l4 (by omega)
    have Bd8 := Bd5.ext xu8
    have Bx8 := Bx5.ext xu8
    have x08 : Ext w u8 := x05.trans xu8
    have l12 := c12.lt
    have l13 := c13.lt
    have w58 := xu8.size
    obtain ⟨i0, hi0⟩ : ∃ i0 : Nat, av % (d.reaches.length : Int) = (i0 : Int) := ⟨(av % (d.reaches.length : Int)).toNat, by have := Int.emod_nonneg av (b := (d.reaches.length : Int)) (by omega); omega⟩
    have hi0l : i0 < d.reaches.length := by have := Int.emod_lt_of_pos av (b := (d.reaches.length : Int)) (by omega); omega
    have htab := tabB_iff.1 hf.tail
    have hrow := tab_row hf.tail hi0l
    obtain ⟨row, hrw⟩ : ∃ row, row = x.tail.getD i0 [] := ⟨_, rfl⟩
    rw [← hrw] at hrow
    have hrn := (numB_iff.1 hrow.2)
    have hval := num_val hrow.2 hkH
    obtain ⟨old, hold⟩ : ∃ old, old = g1 row k := ⟨_, rfl⟩
    rw [← hold] at hval
    have lq := (c12).lt
    have lo := (c13).lt
    refine fldA ?_
    refine ld (.slice B7 m7 e7) ((Bx8).cell rfl) ?_
    refine call_of (c_copied2 (i0 := i0) (row := row) (i7.ext x08) (by have := i7.len; omega) (fun r hr => by have := (numB_iff.1 (htab.2 r hr)).1; omega) hrow.1 (by omega)) ?_
    rintro _ z1 ⟨xz1, A2, n2, c2, g, q, cq, rest, rfl, -, cp⟩
    obtain ⟨hg1, hq1, hgq, hg2, hq2⟩ := cp.new
    have hA2 := cp.outer
    subst hA2
    have hn2 := cp.len
    have hz1 := xz1.size
    have bq1 := (c12).ext xz1
    refine fldA ?_
    refine st (v := .slice (some (ad g 0)) n2 c2) bq1 (Nat.le_of_ble_eq_true rfl) rfl (fun z2 bq2 k2 s2' => ?_)
    have bq2 : Blk z2 q12 35 [.slice B1 m1 e1, .slice B2 m2 e2, .slice B3 m3 e3, .slice B4 m4 e4, .slice B5 m5 e5, .slice B6 m6 e6, .slice (some (ad g 0)) n2 c2] := bq2
    have bx2 := ((Bx8).ext xz1).kept k2 (by omega)
    have bd2 := ((Bd8).ext xz1).kept k2 (by omega)
    have cell2 := k2.cell cp.cell (show g ≠ q12 by omega)
    have blk2 := cp.blk.kept k2 (show q ≠ q12 by omega)
    refine convI (by omega) ?_
    refine fldA ?_
    refine ld (.slice (some (ad g 0)) n2 c2) (bq2.cell rfl) ?_
    refine len ?_
    refine remI (by omega) (by omega) ?_
    rw [show av % (n2 : Int) = (i0 : Int) by rw [hn2, htab.1]; exact hi0]
    have cell2 : z2.cell? (ad g (0 + i0 * 1)) = some (.slice (some (ad q 0)) row.length cq) := by rw [show 0 + i0 * 1 = i0 by omega]; exact cell2
    refine drawQ mx (by kernel_rfl) ?_
    refine fldA ?_
    refine ld (.slice (some (ad g 0)) n2 c2) (bq2.cell rfl) ?_
    refine idx i0 rfl (by omega) ?_
    refine ld (.slice (some (ad q 0)) row.length cq) cell2 ?_
    refine len ?_
    refine fldA ?_
    refine ld (iv d.hours) (bd2.cell rfl) ?_
    refine cN (fun q => absurd (by omega) q) (fun _ => ?_)
    refine fldA ?_
    refine ld (.slice (some (ad g 0)) n2 c2) (bq2.cell rfl) ?_
    refine idx i0 rfl (by omega) ?_
    refine ld (.slice (some (ad q 0)) row.length cq) cell2 ?_
    refine idx k rfl (by omega) ?_
    have hcell : ((row.map fun v => iv v) ++ rest)[0 + k * 1]? = some (iv old) := by rw [show 0 + k * 1 = k by omega, List.getElem?_append_left (by rw [List.length_map]; omega), List.getElem?_map, hval.1]; rfl
    refine ld (iv old) (blk2.cell hcell) ?_
    refine convI (by omega) ?_
    refine arI (by omega) ?_
    refine idx k rfl (by omega) ?_
    refine st blk2 (by rw [List.length_append, List.length_map]; omega) rfl (fun z3 b3 k3 s3' => ?_)
    have b3 : Blk z3 q 3 (((row.map fun v => iv v) ++ rest).set (0 + k * 1) (iv (old + bv))) := b3
    have b3 : Blk z3 q 3 (((row.set k (old + bv)).map fun v => iv v) ++ rest) := by
      rw [show 0 + k * 1 = k by omega, List.set_append_left _ _ (by rw [List.length_map]; omega), ← List.map_set] at b3
      exact b3
    have bd3 := bd2.kept k3 (by omega)
    have bq3 := bq2.kept k3 (by omega)
    have bx3 := bx2.kept k3 (by omega)
    have ob3 := (((c13).ext xz1).kept k2 (by omega)).kept k3 (by omega)
    have k13 : Kept (fun b => u8.heap.size ≤ b ∧ b ≠ q) z1 z3 := (k2.weak fun b hb h => by omega : Kept (fun b => u8.heap.size ≤ b ∧ b ≠ q) z1 z2).then k3 fun b hb h => h.2
    have x0z : Ext w z3 := ((x08).trans xz1 |>.then k2 fun b hb _ => by omega).then k3 fun b hb _ => by omega
    have sl := cp.upd z3 (row.set k (old + bv)) (by simp) (fun v hv => by
      rcases List.mem_or_eq_of_mem_set hv with h | h
      · have := hrn.2 v h
        unfold I64; omega
      · subst h; unfold I64; omega) k13 b3
    have hxx : RuR (fun _ => True) z3 [.slice B1 m1 e1, .slice B2 m2 e2, .slice B3 m3 e3, .slice B4 m4 e4, .slice B5 m5 e5, .slice B6 m6 e6, .slice (some (ad g 0)) n2 c2] { x with tail := x.tail.set i0 (row.set k (old + bv)) } := RuR.of_ ⟨_, _, _, _, _, _, _, _, _, _, _, _, _, _, _, _, _, _, _, _, _, rfl, (i1.ext x0z).more (by decide) fun _ _ _ => trivial, (i2.ext x0z).more (by decide) fun _ _ _ => trivial, (i3.ext x0z).more (by decide) fun _ _ _ => trivial, (i4.ext x0z).more (by decide) fun _ _ _ => trivial, (i5.ext x0z).more (by decide) fun _ _ _ => trivial, (i6.ext x0z).more (by decide) fun _ _ _ => trivial, (sl.more (by decide) fun _ _ _ => trivial), i8, i9⟩
    have hgold : g2 x.tail i0 k = old := by rw [hold, hrw]; rfl
    have hchg := chg_tail (t := x.tail.set i0 (row.set k (old + bv))) e0 hi0l (by omega : k < d.hours.toNat) (by rw [g2_set (by omega) (by omega), hgold]; omega)
    have cc := c_bCheck ((hd.ext x0z).more (D' := fun _ => True) fun _ _ _ => trivial) hxx
    rw [hchg] at cc
    refine ldA _ (.blk bd3) rfl ?_
    refine ldA _ (.blk bq3) rfl ?_
    refine call_of cc ?_
    rintro _ z4 ⟨rfl, xz4⟩
    refine cN (fun q => absurd rfl q) (fun _ => ?_)
    have Bd9 := bd3.ext xz4
    have Bx9 := bx3.ext xz4
    have c13 := ob3.ext xz4
    have c12 := bq3.ext xz4
    have x09 := x0z.trans xz4
    have sz9 := x09.size
    have sz4 := xz4.size
    refine fldA ?_
    refine ld (.slice B6 m6 e6) (Bx9.cell rfl) ?_
    refine len ?_
    refine cD (fun _ => ret1 (.bool true) rfl ⟨rfl, x09⟩) (fun hF => ?_)
    clear hi0 hi0l htab hrow hrw hrn hval hold cp hg1 hq1 hgq hg2 hq2 hn2 cell2 blk2 hcell b3 sl hxx hgold hchg
    obtain ⟨i0, hi0⟩ : ∃ i0 : Nat, av % (d.farms.length : Int) = (i0 : Int) := ⟨(av % (d.farms.length : Int)).toNat, by have := Int.emod_nonneg av (b := (d.farms.length : Int)) (by omega); omega⟩
    have hi0l : i0 < d.farms.length := by have := Int.emod_lt_of_pos av (b := (d.farms.length : Int)) (by omega); omega
    have htab := tabB_iff.1 hf.taken
    have hrow := tab_row hf.taken hi0l
    obtain ⟨row, hrw⟩ : ∃ row, row = x.taken.getD i0 [] := ⟨_, rfl⟩
    rw [← hrw] at hrow
    have hrn := (numB_iff.1 hrow.2)
    have hval := num_val hrow.2 hkH
    obtain ⟨old, hold⟩ : ∃ old, old = g1 row k := ⟨_, rfl⟩
    rw [← hold] at hval
    have lq := (c13).lt
    have lo := (c12).lt
    refine fldA ?_
    refine ld (.slice B6 m6 e6) ((Bx9).cell rfl) ?_
    refine call_of (c_copied2 (i0 := i0) (row := row) (i6.ext x09) (by have := i6.len; omega) (fun r hr => by have := (numB_iff.1 (htab.2 r hr)).1; omega) hrow.1 (by omega)) ?_
    rintro _ z1 ⟨xz1, A2, n2, c2, g, q, cq, rest, rfl, -, cp⟩
    obtain ⟨hg1, hq1, hgq, hg2, hq2⟩ := cp.new
    have hA2 := cp.outer
    subst hA2
    have hn2 := cp.len
    have hz1 := xz1.size
    have bq1 := (c13).ext xz1
    refine fldA ?_
    refine st (v := .slice (some (ad g 0)) n2 c2) bq1 (Nat.le_of_ble_eq_true rfl) rfl (fun z2 bq2 k2 s2' => ?_)
    have bq2 : Blk z2 q13 35 [.slice B1 m1 e1, .slice B2 m2 e2, .slice B3 m3 e3, .slice B4 m4 e4, .slice B5 m5 e5, .slice (some (ad g 0)) n2 c2, .slice B7 m7 e7] := bq2
    have bx2 := ((Bx9).ext xz1).kept k2 (by omega)
    have bd2 := ((Bd9).ext xz1).kept k2 (by omega)
    have cell2 := k2.cell cp.cell (show g ≠ q13 by omega)
    have blk2 := cp.blk.kept k2 (show q ≠ q13 by omega)
    refine convI (by omega) ?_
    refine fldA ?_
    refine ld (.slice (some (ad g 0)) n2 c2) (bq2.cell rfl) ?_
    refine len ?_
    refine remI (by omega) (by omega) ?_
    rw [show av % (n2 : Int) = (i0 : Int) by rw [hn2, htab.1]; exact hi0]
    have cell2 : z2.cell? (ad g (0 + i0 * 1)) = some (.slice (some (ad q 0)) row.length cq) := by rw [show 0 + i0 * 1 = i0 by omega]; exact cell2
    refine drawQ mx (by kernel_rfl) ?_
    refine fldA ?_
    refine ld (.slice (some (ad g 0)) n2 c2) (bq2.cell rfl) ?_
    refine idx i0 rfl (by omega) ?_
    refine ld (.slice (some (ad q 0)) row.length cq) cell2 ?_
    refine len ?_
    refine fldA ?_
    refine ld (iv d.hours) (bd2.cell rfl) ?_
    refine cN (fun q => absurd (by omega) q) (fun _ => ?_)
    refine fldA ?_
    refine ld (.slice (some (ad g 0)) n2 c2) (bq2.cell rfl) ?_
    refine idx i0 rfl (by omega) ?_
    refine ld (.slice (some (ad q 0)) row.length cq) cell2 ?_
    refine idx k rfl (by omega) ?_
    have hcell : ((row.map fun v => iv v) ++ rest)[0 + k * 1]? = some (iv old) := by rw [show 0 + k * 1 = k by omega, List.getElem?_append_left (by rw [List.length_map]; omega), List.getElem?_map, hval.1]; rfl
    refine ld (iv old) (blk2.cell hcell) ?_
    refine convI (by omega) ?_
    refine arI (by omega) ?_
    refine idx k rfl (by omega) ?_
    refine st blk2 (by rw [List.length_append, List.length_map]; omega) rfl (fun z3 b3 k3 s3' => ?_)
    have b3 : Blk z3 q 3 (((row.map fun v => iv v) ++ rest).set (0 + k * 1) (iv (old + bv))) := b3
    have b3 : Blk z3 q 3 (((row.set k (old + bv)).map fun v => iv v) ++ rest) := by
      rw [show 0 + k * 1 = k by omega, List.set_append_left _ _ (by rw [List.length_map]; omega), ← List.map_set] at b3
      exact b3
    have bd3 := bd2.kept k3 (by omega)
    have bq3 := bq2.kept k3 (by omega)
    have bx3 := bx2.kept k3 (by omega)
    have ob3 := (((c12).ext xz1).kept k2 (by omega)).kept k3 (by omega)
    have k13 : Kept (fun b => z4.heap.size ≤ b ∧ b ≠ q) z1 z3 := (k2.weak fun b hb h => by omega : Kept (fun b => z4.heap.size ≤ b ∧ b ≠ q) z1 z2).then k3 fun b hb h => h.2
    have x0z : Ext w z3 := ((x09).trans xz1 |>.then k2 fun b hb _ => by omega).then k3 fun b hb _ => by omega
    have sl := cp.upd z3 (row.set k (old + bv)) (by simp) (fun v hv => by
      rcases List.mem_or_eq_of_mem_set hv with h | h
      · have := hrn.2 v h
        unfold I64; omega
      · subst h; unfold I64; omega) k13 b3
    have hxx : RuR (fun _ => True) z3 [.slice B1 m1 e1, .slice B2 m2 e2, .slice B3 m3 e3, .slice B4 m4 e4, .slice B5 m5 e5, .slice (some (ad g 0)) n2 c2, .slice B7 m7 e7] { x with taken := x.taken.set i0 (row.set k (old + bv)) } := RuR.of_ ⟨_, _, _, _, _, _, _, _, _, _, _, _, _, _, _, _, _, _, _, _, _, rfl, (i1.ext x0z).more (by decide) fun _ _ _ => trivial, (i2.ext x0z).more (by decide) fun _ _ _ => trivial, (i3.ext x0z).more (by decide) fun _ _ _ => trivial, (i4.ext x0z).more (by decide) fun _ _ _ => trivial, (i5.ext x0z).more (by decide) fun _ _ _ => trivial, (sl.more (by decide) fun _ _ _ => trivial), (i7.ext x0z).more (by decide) fun _ _ _ => trivial, i8, i9⟩
    have hgold : g2 x.taken i0 k = old := by rw [hold, hrw]; rfl
    have hchg := chg_taken (t := x.taken.set i0 (row.set k (old + bv))) e0 hi0l (by omega : k < d.hours.toNat) (fun j hj => g2_set_ne hj) (by rw [g2_set (by omega) (by omega), hgold]; omega)
    have cc := c_bCheck ((hd.ext x0z).more (D' := fun _ => True) fun _ _ _ => trivial) hxx
    rw [hchg] at cc
    refine ldA _ (.blk bd3) rfl ?_
    refine ldA _ (.blk bq3) rfl ?_
    refine call_of cc ?_
    rintro _ z4b ⟨rfl, xz4⟩
    refine cD (fun _ => ret1 (.bool true) rfl ⟨rfl, x0z.trans xz4⟩) (fun q => absurd rfl q)
  case' xr =>
    refine alloc (fun q13 u1 a1 => ?_)
    refine strS a1.ext ?_
    refine alloc (fun q12 u2 a2 => ?_)
    have xa := a1.ext.trans a2.ext
    refine strS xa ?_
    have at1 := a1.at_
    have at2 := a2.at_
    have as1 := a1.size
    have as2 := a2.size
    refine stA (vs := [.slice B1 m1 e1, .slice B2 m2 e2, .slice B3 m3 e3, .slice B4 m4 e4, .slice B5 m5 e5, .slice B6 m6 e6, .slice B7 m7 e7]) (cs := List.replicate 7 (.slice none 0 0)) a2.blk rfl (Nat.le_of_ble_eq_true rfl) (by simp [Value.oneCell']) (fun u3 c12 l3 t3 => ?_)
    have c12 : Blk u3 q12 35 [.slice B1 m1 e1, .slice B2 m2 e2, .slice B3 m3 e3, .slice B4 m4 e4, .slice B5 m5 e5, .slice B6 m6 e6, .slice B7 m7 e7] := c12
    have xu3 : Ext w5 u3 := xa.then l3 fun b hb _ => by omega
    refine strS xu3 ?_
    refine stA (vs := [.slice B1 m1 e1, .slice B2 m2 e2, .slice B3 m3 e3, .slice B4 m4 e4, .slice B5 m5 e5, .slice B6 m6 e6, .slice B7 m7 e7]) (cs := List.replicate 7 (.slice none 0 0)) ((a1.blk.ext a2.ext).kept l3 (by omega)) rfl (Nat.le_of_ble_eq_true rfl) (by simp [Value.oneCell']) (fun u8 c13 l4 t4 => ?_)
    have c13 : Blk u8 q13 35 [.slice B1 m1 e1, .slice B2 m2 e2, .slice B3 m3 e3, .slice B4 m4 e4, .slice B5 m5 e5, .slice B6 m6 e6, .slice B7 m7 e7] := c13
    have xu8 : Ext w5 u8 := xu3.then l4 fun b hb _ => by omega
    refine strS xu8 ?_
    have c12 := c12.kept l4 (by omega)
    have Bd8 := Bd5.ext xu8
    have Bx8 := Bx5.ext xu8
    have x08 : Ext w u8 := x05.trans xu8
    have l12 := c12.lt
    have l13 := c13.lt
    have w58 := xu8.size
    obtain ⟨i0, hi0⟩ : ∃ i0 : Nat, av % (d.reaches.length : Int) = (i0 : Int) := ⟨(av % (d.reaches.length : Int)).toNat, by have := Int.emod_nonneg av (b := (d.reaches.length : Int)) (by omega); omega⟩
    have hi0l : i0 < d.reaches.length := by have := Int.emod_lt_of_pos av (b := (d.reaches.length : Int)) (by omega); omega
    have htab := tabB_iff.1 hf.tail
    have hrow := tab_row hf.tail hi0l
    obtain ⟨row, hrw⟩ : ∃ row, row = x.tail.getD i0 [] := ⟨_, rfl⟩
    rw [← hrw] at hrow
    have hrn := (numB_iff.1 hrow.2)
    have hval := num_val hrow.2 hkH
    obtain ⟨old, hold⟩ : ∃ old, old = g1 row k := ⟨_, rfl⟩
    rw [← hold] at hval
    have lq := (c12).lt
    have lo := (c13).lt
    refine fldA ?_
    refine ld (.slice B7 m7 e7) ((Bx8).cell rfl) ?_
    refine call_of (c_copied2 (i0 := i0) (row := row) (i7.ext x08) (by have := i7.len; omega) (fun r hr => by have := (numB_iff.1 (htab.2 r hr)).1; omega) hrow.1 (by omega)) ?_
    rintro _ z1 ⟨xz1, A2, n2, c2, g, q, cq, rest, rfl, -, cp⟩
    obtain ⟨hg1, hq1, hgq, hg2, hq2⟩ := cp.new
    have hA2 := cp.outer
    subst hA2
    have hn2 := cp.len
    have hz1 := xz1.size
    have bq1 := (c12).ext xz1
    refine fldA ?_
    refine st (v := .slice (some (ad g 0)) n2 c2) bq1 (Nat.le_of_ble_eq_true rfl) rfl (fun z2 bq2 k2 s2' => ?_)
    have bq2 : Blk z2 q12 35 [.slice B1 m1 e1, .slice B2 m2 e2, .slice B3 m3 e3, .slice B4 m4 e4, .slice B5 m5 e5, .slice B6 m6 e6, .slice (some (ad g 0)) n2 c2] := bq2
    have bx2 := ((Bx8).ext xz1).kept k2 (by omega)
    have bd2 := ((Bd8).ext xz1).kept k2 (by omega)
    have cell2 := k2.cell cp.cell (show g ≠ q12 by omega)
    have blk2 := cp.blk.kept k2 (show q ≠ q12 by omega)
    refine convI (by omega) ?_
    refine fldA ?_
    refine ld (.slice (some (ad g 0)) n2 c2) (bq2.cell rfl) ?_
    refine len ?_
    refine remI (by omega) (by omega) ?_
    rw [show av % (n2 : Int) = (i0 : Int) by rw [hn2, htab.1]; exact hi0]
    have cell2 : z2.cell? (ad g (0 + i0 * 1)) = some (.slice (some (ad q 0)) row.length cq) := by rw [show 0 + i0 * 1 = i0 by omega]; exact cell2
    refine drawQ mx (by kernel_rfl) ?_
    refine fldA ?_
    refine ld (.slice (some (ad g 0)) n2 c2) (bq2.cell rfl) ?_
    refine idx i0 rfl (by omega) ?_
    refine ld (.slice (some (ad q 0)) row.length cq) cell2 ?_
    refine len ?_
    refine fldA ?_
    refine ld (iv d.hours) (bd2.cell rfl) ?_
    refine cN (fun q => absurd (by omega) q) (fun _ => ?_)
    refine fldA ?_
    refine ld (.slice (some (ad g 0)) n2 c2) (bq2.cell rfl) ?_
    refine idx i0 rfl (by omega) ?_
    refine ld (.slice (some (ad q 0)) row.length cq) cell2 ?_
    refine idx k rfl (by omega) ?_
    have hcell : ((row.map fun v => iv v) ++ rest)[0 + k * 1]? = some (iv old) := by rw [show 0 + k * 1 = k by omega, List.getElem?_append_left (by rw [List.length_map]; omega), List.getElem?_map, hval.1]; rfl
    refine ld (iv old) (blk2.cell hcell) ?_
    refine convI (by omega) ?_
    refine arI (by omega) ?_
    refine idx k rfl (by omega) ?_
    refine st blk2 (by rw [List.length_append, List.length_map]; omega) rfl (fun z3 b3 k3 s3' => ?_)
    have b3 : Blk z3 q 3 (((row.map fun v => iv v) ++ rest).set (0 + k * 1) (iv (old + bv))) := b3
    have b3 : Blk z3 q 3 (((row.set k (old + bv)).map fun v => iv v) ++ rest) := by
      rw [show 0 + k * 1 = k by omega, List.set_append_left _ _ (by rw [List.length_map]; omega), ← List.map_set] at b3
      exact b3
    have bd3 := bd2.kept k3 (by omega)
    have bq3 := bq2.kept k3 (by omega)
    have bx3 := bx2.kept k3 (by omega)
    have ob3 := (((c13).ext xz1).kept k2 (by omega)).kept k3 (by omega)
    have k13 : Kept (fun b => u8.heap.size ≤ b ∧ b ≠ q) z1 z3 := (k2.weak fun b hb h => by omega : Kept (fun b => u8.heap.size ≤ b ∧ b ≠ q) z1 z2).then k3 fun b hb h => h.2
    have x0z : Ext w z3 := ((x08).trans xz1 |>.then k2 fun b hb _ => by omega).then k3 fun b hb _ => by omega
    have sl := cp.upd z3 (row.set k (old + bv)) (by simp) (fun v hv => by
      rcases List.mem_or_eq_of_mem_set hv with h | h
      · have := hrn.2 v h
        unfold I64; omega
      · subst h; unfold I64; omega) k13 b3
    have hxx : RuR (fun _ => True) z3 [.slice B1 m1 e1, .slice B2 m2 e2, .slice B3 m3 e3, .slice B4 m4 e4, .slice B5 m5 e5, .slice B6 m6 e6, .slice (some (ad g 0)) n2 c2] { x with tail := x.tail.set i0 (row.set k (old + bv)) } := RuR.of_ ⟨_, _, _, _, _, _, _, _, _, _, _, _, _, _, _, _, _, _, _, _, _, rfl, (i1.ext x0z).more (by decide) fun _ _ _ => trivial, (i2.ext x0z).more (by decide) fun _ _ _ => trivial, (i3.ext x0z).more (by decide) fun _ _ _ => trivial, (i4.ext x0z).more (by decide) fun _ _ _ => trivial, (i5.ext x0z).more (by decide) fun _ _ _ => trivial, (i6.ext x0z).more (by decide) fun _ _ _ => trivial, (sl.more (by decide) fun _ _ _ => trivial), i8, i9⟩
    have hgold : g2 x.tail i0 k = old := by rw [hold, hrw]; rfl
    have hchg := chg_tail (t := x.tail.set i0 (row.set k (old + bv))) e0 hi0l (by omega : k < d.hours.toNat) (by rw [g2_set (by omega) (by omega), hgold]; omega)
    have cc := c_bCheck ((hd.ext x0z).more (D' := fun _ => True) fun _ _ _ => trivial) hxx
    rw [hchg] at cc
    refine ldA _ (.blk bd3) rfl ?_
    refine ldA _ (.blk bq3) rfl ?_
    refine call_of cc ?_
    rintro _ z4 ⟨rfl, xz4⟩
    refine cN (fun q => absurd rfl q) (fun _ => ?_)
    have Bd9 := bd3.ext xz4
    have Bx9 := bx3.ext xz4
    have c13 := ob3.ext xz4
    have c12 := bq3.ext xz4
    have x09 := x0z.trans xz4
    have sz9 := x09.size
    have sz4 := xz4.size
    refine fldA ?_
    refine ld (.slice B6 m6 e6) (Bx9.cell rfl) ?_
    refine len ?_
    refine cD (fun _ => ret1 (.bool true) rfl ⟨rfl, x09⟩) (fun hF => ?_)
    clear hi0 hi0l htab hrow hrw hrn hval hold cp hg1 hq1 hgq hg2 hq2 hn2 cell2 blk2 hcell b3 sl hxx hgold hchg
    obtain ⟨i0, hi0⟩ : ∃ i0 : Nat, av % (d.farms.length : Int) = (i0 : Int) := ⟨(av % (d.farms.length : Int)).toNat, by have := Int.emod_nonneg av (b := (d.farms.length : Int)) (by omega); omega⟩
    have hi0l : i0 < d.farms.length := by have := Int.emod_lt_of_pos av (b := (d.farms.length : Int)) (by omega); omega
    have htab := tabB_iff.1 hf.taken
    have hrow := tab_row hf.taken hi0l
    obtain ⟨row, hrw⟩ : ∃ row, row = x.taken.getD i0 [] := ⟨_, rfl⟩
    rw [← hrw] at hrow
    have hrn := (numB_iff.1 hrow.2)
    have hval := num_val hrow.2 hkH
    obtain ⟨old, hold⟩ : ∃ old, old = g1 row k := ⟨_, rfl⟩
    rw [← hold] at hval
    have lq := (c13).lt
    have lo := (c12).lt
    refine fldA ?_
    refine ld (.slice B6 m6 e6) ((Bx9).cell rfl) ?_
    refine call_of (c_copied2 (i0 := i0) (row := row) (i6.ext x09) (by have := i6.len; omega) (fun r hr => by have := (numB_iff.1 (htab.2 r hr)).1; omega) hrow.1 (by omega)) ?_
    rintro _ z1 ⟨xz1, A2, n2, c2, g, q, cq, rest, rfl, -, cp⟩
    obtain ⟨hg1, hq1, hgq, hg2, hq2⟩ := cp.new
    have hA2 := cp.outer
    subst hA2
    have hn2 := cp.len
    have hz1 := xz1.size
    have bq1 := (c13).ext xz1
    refine fldA ?_
    refine st (v := .slice (some (ad g 0)) n2 c2) bq1 (Nat.le_of_ble_eq_true rfl) rfl (fun z2 bq2 k2 s2' => ?_)
    have bq2 : Blk z2 q13 35 [.slice B1 m1 e1, .slice B2 m2 e2, .slice B3 m3 e3, .slice B4 m4 e4, .slice B5 m5 e5, .slice (some (ad g 0)) n2 c2, .slice B7 m7 e7] := bq2
    have bx2 := ((Bx9).ext xz1).kept k2 (by omega)
    have bd2 := ((Bd9).ext xz1).kept k2 (by omega)
    have cell2 := k2.cell cp.cell (show g ≠ q13 by omega)
    have blk2 := cp.blk.kept k2 (show q ≠ q13 by omega)
    refine convI (by omega) ?_
    refine fldA ?_
    refine ld (.slice (some (ad g 0)) n2 c2) (bq2.cell rfl) ?_
    refine len ?_
    refine remI (by omega) (by omega) ?_
    rw [show av % (n2 : Int) = (i0 : Int) by rw [hn2, htab.1]; exact hi0]
    have cell2 : z2.cell? (ad g (0 + i0 * 1)) = some (.slice (some (ad q 0)) row.length cq) := by rw [show 0 + i0 * 1 = i0 by omega]; exact cell2
    refine drawQ mx (by kernel_rfl) ?_
    refine fldA ?_
    refine ld (.slice (some (ad g 0)) n2 c2) (bq2.cell rfl) ?_
    refine idx i0 rfl (by omega) ?_
    refine ld (.slice (some (ad q 0)) row.length cq) cell2 ?_
    refine len ?_
    refine fldA ?_
    refine ld (iv d.hours) (bd2.cell rfl) ?_
    refine cN (fun q => absurd (by omega) q) (fun _ => ?_)
    refine fldA ?_
    refine ld (.slice (some (ad g 0)) n2 c2) (bq2.cell rfl) ?_
    refine idx i0 rfl (by omega) ?_
    refine ld (.slice (some (ad q 0)) row.length cq) cell2 ?_
    refine idx k rfl (by omega) ?_
    have hcell : ((row.map fun v => iv v) ++ rest)[0 + k * 1]? = some (iv old) := by rw [show 0 + k * 1 = k by omega, List.getElem?_append_left (by rw [List.length_map]; omega), List.getElem?_map, hval.1]; rfl
    refine ld (iv old) (blk2.cell hcell) ?_
    refine convI (by omega) ?_
    refine arI (by omega) ?_
    refine idx k rfl (by omega) ?_
    refine st blk2 (by rw [List.length_append, List.length_map]; omega) rfl (fun z3 b3 k3 s3' => ?_)
    have b3 : Blk z3 q 3 (((row.map fun v => iv v) ++ rest).set (0 + k * 1) (iv (old + bv))) := b3
    have b3 : Blk z3 q 3 (((row.set k (old + bv)).map fun v => iv v) ++ rest) := by
      rw [show 0 + k * 1 = k by omega, List.set_append_left _ _ (by rw [List.length_map]; omega), ← List.map_set] at b3
      exact b3
    have bd3 := bd2.kept k3 (by omega)
    have bq3 := bq2.kept k3 (by omega)
    have bx3 := bx2.kept k3 (by omega)
    have ob3 := (((c12).ext xz1).kept k2 (by omega)).kept k3 (by omega)
    have k13 : Kept (fun b => z4.heap.size ≤ b ∧ b ≠ q) z1 z3 := (k2.weak fun b hb h => by omega : Kept (fun b => z4.heap.size ≤ b ∧ b ≠ q) z1 z2).then k3 fun b hb h => h.2
    have x0z : Ext w z3 := ((x09).trans xz1 |>.then k2 fun b hb _ => by omega).then k3 fun b hb _ => by omega
    have sl := cp.upd z3 (row.set k (old + bv)) (by simp) (fun v hv => by
      rcases List.mem_or_eq_of_mem_set hv with h | h
      · have := hrn.2 v h
        unfold I64; omega
      · subst h; unfold I64; omega) k13 b3
    have hxx : RuR (fun _ => True) z3 [.slice B1 m1 e1, .slice B2 m2 e2, .slice B3 m3 e3, .slice B4 m4 e4, .slice B5 m5 e5, .slice (some (ad g 0)) n2 c2, .slice B7 m7 e7] { x with taken := x.taken.set i0 (row.set k (old + bv)) } := RuR.of_ ⟨_, _, _, _, _, _, _, _, _, _, _, _, _, _, _, _, _, _, _, _, _, rfl, (i1.ext x0z).more (by decide) fun _ _ _ => trivial, (i2.ext x0z).more (by decide) fun _ _ _ => trivial, (i3.ext x0z).more (by decide) fun _ _ _ => trivial, (i4.ext x0z).more (by decide) fun _ _ _ => trivial, (i5.ext x0z).more (by decide) fun _ _ _ => trivial, (sl.more (by decide) fun _ _ _ => trivial), (i7.ext x0z).more (by decide) fun _ _ _ => trivial, i8, i9⟩
    have hgold : g2 x.taken i0 k = old := by rw [hold, hrw]; rfl
    have hchg := chg_taken (t := x.taken.set i0 (row.set k (old + bv))) e0 hi0l (by omega : k < d.hours.toNat) (fun j hj => g2_set_ne hj) (by rw [g2_set (by omega) (by omega), hgold]; omega)
    have cc := c_bCheck ((hd.ext x0z).more (D' := fun _ => True) fun _ _ _ => trivial) hxx
    rw [hchg] at cc
    refine ldA _ (.blk bd3) rfl ?_
    refine ldA _ (.blk bq3) rfl ?_
    refine call_of cc ?_
    rintro _ z4b ⟨rfl, xz4⟩
    refine cD (fun _ => ret1 (.bool true) rfl ⟨rfl, x0z.trans xz4⟩) (fun q => absurd rfl q)
end
end Go.Proofs.Ytpmfeplifgmdhaa

/- Closing: what a run that is handed in reads as. -/
namespace Go.Proofs.Ytpmfeplifgmdhaa
open Go Go.RowKit Go.ChangeShapes Go.WideShapes Go.ChangeAt

theorem rd_ints : Rd Try.prog 32 (tSl tInt) := inferInstance
theorem rd_ll : Rd Try.prog 33 (tSl (tSl tInt)) := inferInstance
theorem rd_run : Rd Try.prog 35 tRun := by
  refine Rd.of (fun y : List Int × List Int × List (List Int) × List (List Int) × List (List Int) × List (List Int) × List (List Int) => (⟨y.1, y.2.1, y.2.2.1, y.2.2.2.1, y.2.2.2.2.1, y.2.2.2.2.2.1, y.2.2.2.2.2.2⟩ : Run))
    (Rd.struct Try.underlying35 (by kernel_rfl) fun n => .cons (rd_ints.h n) rfl (.cons (rd_ints.h n) rfl (.cons (rd_ll.h n) rfl (.cons (rd_ll.h n) rfl (.cons (rd_ll.h n) rfl (.cons (rd_ll.h n) rfl (.one (rd_ll.h n) rfl))))))) ?_
  rintro W cs ⟨l1, l2, l3, l4, l5, l6, l7⟩ ⟨_, _, rfl, ⟨A1, n1, c1, rfl, h1, g1⟩, _, _, rfl, ⟨A2, n2, c2, rfl, h2, g2⟩, _, _, rfl, ⟨A3, n3, c3, rfl, h3, -⟩, _, _, rfl, ⟨A4, n4, c4, rfl, h4, -⟩, _, _, rfl, ⟨A5, n5, c5, rfl, h5, -⟩, _, _, rfl, ⟨A6, n6, c6, rfl, h6, -⟩, A7, n7, c7, rfl, h7, -⟩
  exact RuR.of_ ⟨A1, n1, c1, A2, n2, c2, A3, n3, c3, A4, n4, c4, A5, n5, c5, A6, n6, c6, A7, n7, c7, rfl, h1, h2, h3, h4, h5, h6, h7, g1, g2⟩
end Go.Proofs.Ytpmfeplifgmdhaa
