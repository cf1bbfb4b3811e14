/- Parts of the proof: Bc Bd Be Bf Bg Bi Mh Mi Za. -/
import Derived.Test.YtehcphboliofaaaGreatDoorPT8
import Derived.Test.YtehcphboliofaaaGreatDoorPT15
import Derived.Test.YtehcphboliofaaaGreatDoorPT7
import Derived.Test.YtehcphboliofaaaGreatDoorRows
import Derived.Stop.LaidErr

/- Made by gen_XBc.py. Layer 23: the reference, second part. -/
namespace Go.Proofs.YtehcphboliofaaaGreatDoor
open Go Go.RowKit

section
variable {D : Nat → Prop} {w : World}
theorem c_r23formed {csd csx : List Value} {d : Dist} {x : Run} (hd : DiR D w csd d) (hx : RuR D w csx x) : CallZ Tryz.prog 181 #[.agg csd.toArray, .agg csx.toArray] w (fun v w' => v = .bool (formB d x) ∧ Ext w w') := by
  obtain ⟨A1, n1, c1, A2, n2, c2, A3, n3, c3, A4, n4, c4, A5, n5, c5, A6, n6, c6, rfl, hr, hfa, -⟩ := hd.ex
  obtain ⟨B1, m1, e1, B2, m2, e2, B3, m3, e3, B4, m4, e4, B5, m5, e5, B6, m6, e6, B7, m7, e7, rfl, i1, i2, i3, i4, i5, i6, i7, -⟩ := hx.ex
  have ln := hr.len
  have lf := hfa.len
  have k1 := i1.len
  have k2 := i2.len
  have k3 := i3.len
  have k4 := i4.len
  have k5 := i5.len
  have k6 := i6.len
  have k7 := i7.len
  refine fn_rule (args := [.agg #[.string d.name, iv d.hours, iv d.cap, iv d.start, .slice A1 n1 c1, .slice A2 n2 c2, .slice A3 n3 c3, .slice A4 n4 c4, .slice A5 n5 c5, .slice A6 n6 c6], .agg #[.slice B1 m1 e1, .slice B2 m2 e2, .slice B3 m3 e3, .slice B4 m4 e4, .slice B5 m5 e5, .slice B6 m6 e6, .slice B7 m7 e7]]) Tryz.func181 (by kernel_rfl) ?_
  refine box (fun bd w1 h1 => ?_)
  refine box (fun bx w2 h2 => ?_)
  have x2 := h1.ext.trans h2.ext
  have Bd := h1.blk.ext h2.ext
  have Bx := h2.blk
  have iff := formB_iff (d := d) (x := x)
  have bad : ¬ (formB d x = true) → Value.bool false = .bool (formB d x) ∧ Ext w w2 := fun h => ⟨by rw [Bool.eq_false_iff.2 h], x2⟩
  refine fldA ?_
  refine ld (.slice A1 n1 c1) (Bd.cell rfl) ?_
  refine len ?_
  refine fldA ?_
  refine ld (.slice B1 m1 e1) (Bx.cell rfl) ?_
  refine fldA ?_
  refine ld (iv d.hours) (Bd.cell rfl) ?_
  refine callB (c_r23numbers (i1.ext x2)) (fun q1 => ?_) (fun q1 => ?_)
  rotate_left
  · exact ret1 (.bool false) rfl (bad fun h => by have := (iff.1 h).1; rw [this] at q1; exact Bool.noConfusion q1)
  refine fldA ?_
  refine ld (.slice B2 m2 e2) (Bx.cell rfl) ?_
  refine fldA ?_
  refine ld (iv d.hours) (Bd.cell rfl) ?_
  refine callB (c_r23numbers (i2.ext x2)) (fun q2 => ?_) (fun q2 => ?_)
  rotate_left
  · exact ret1 (.bool false) rfl (bad fun h => by have := (iff.1 h).2.1; rw [this] at q2; exact Bool.noConfusion q2)
  refine fldA ?_
  refine ld (.slice B6 m6 e6) (Bx.cell rfl) ?_
  refine fldA ?_
  refine ld (.slice A2 n2 c2) (Bd.cell rfl) ?_
  refine len ?_
  refine fldA ?_
  refine ld (iv d.hours) (Bd.cell rfl) ?_
  refine callB (c_r23tables (i6.ext x2)) (fun q6 => ?_) (fun q6 => ?_)
  rotate_left
  · exact ret1 (.bool false) rfl (bad fun h => by have := (iff.1 h).2.2.1; rw [lf] at this; rw [this] at q6; exact Bool.noConfusion q6)
  refine fldA ?_
  refine ld (.slice B3 m3 e3) (Bx.cell rfl) ?_
  refine fldA ?_
  refine ld (iv d.hours) (Bd.cell rfl) ?_
  refine callB (c_r23tables (i3.ext x2)) (fun q3 => ?_) (fun q3 => ?_)
  rotate_left
  · exact ret1 (.bool false) rfl (bad fun h => by have := (iff.1 h).2.2.2.1; rw [ln] at this; rw [this] at q3; exact Bool.noConfusion q3)
  refine fldA ?_
  refine ld (.slice B4 m4 e4) (Bx.cell rfl) ?_
  refine fldA ?_
  refine ld (iv d.hours) (Bd.cell rfl) ?_
  refine callB (c_r23tables (i4.ext x2)) (fun q4 => ?_) (fun q4 => ?_)
  rotate_left
  · exact ret1 (.bool false) rfl (bad fun h => by have := (iff.1 h).2.2.2.2.1; rw [ln] at this; rw [this] at q4; exact Bool.noConfusion q4)
  refine fldA ?_
  refine ld (.slice B5 m5 e5) (Bx.cell rfl) ?_
  refine fldA ?_
  refine ld (iv d.hours) (Bd.cell rfl) ?_
  refine callB (c_r23tables (i5.ext x2)) (fun q5 => ?_) (fun q5 => ?_)
  rotate_left
  · exact ret1 (.bool false) rfl (bad fun h => by have := (iff.1 h).2.2.2.2.2.1; rw [ln] at this; rw [this] at q5; exact Bool.noConfusion q5)
  refine fldA ?_
  refine ld (.slice B7 m7 e7) (Bx.cell rfl) ?_
  refine fldA ?_
  refine ld (iv d.hours) (Bd.cell rfl) ?_
  refine callB (c_r23tables (i7.ext x2)) (fun q7 => ?_) (fun q7 => ?_)
  rotate_left
  · exact ret1 (.bool false) rfl (bad fun h => by have := (iff.1 h).2.2.2.2.2.2; rw [ln] at this; rw [this] at q7; exact Bool.noConfusion q7)
  exact ret1 (.bool true) rfl ⟨by rw [iff.2 ⟨q1, q2, by rw [lf]; exact q6, by rw [ln]; exact q3, by rw [ln]; exact q4, by rw [ln]; exact q5, by rw [ln]; exact q7⟩], x2⟩
theorem c_r23entered {csd : List Value} {d : Dist} {x : Run} {i hour H : Nat} (hd : DiR D w csd d) (hf : Fm d x H) (hi : i < d.reaches.length) (hh : hour ≤ 4096) : CallZ Tryz.prog 185 #[.agg csd.toArray, iv (i : Int), iv (hour : Int)] w (fun v w' => v = iv (ent d i hour) ∧ Ext w w') := by
  obtain ⟨A1, n1, c1, A2, n2, c2, A3, n3, c3, A4, n4, c4, A5, n5, c5, A6, n6, c6, rfl, hr, hfa, -⟩ := hd.ex
  have ln := hr.len
  refine fn_rule (args := [.agg #[.string d.name, iv d.hours, iv d.cap, iv d.start, .slice A1 n1 c1, .slice A2 n2 c2, .slice A3 n3 c3, .slice A4 n4 c4, .slice A5 n5 c5, .slice A6 n6 c6], iv (i : Int), iv (hour : Int)]) Tryz.func185 (by kernel_rfl) ?_
  refine box (fun bd w1 h1 => ?_)
  have Bd := h1.blk
  obtain ⟨b, o, cs, r, rfl, hrx, -, -, hc, rfl⟩ := (hr.ext h1.ext).at_ (show i < n1 by omega)
  obtain ⟨-, -, d1, d2⟩ := hf.at_ hrx
  refine fldA ?_
  refine ld _ (Bd.cell rfl) ?_
  refine idx i rfl (by omega) ?_
  refine fldA ?_
  refine ld (iv r.delay) (hc 2 _ rfl) ?_
  refine arI (by omega) ?_
  exact ret1 (iv ((hour : Int) - r.delay)) rfl ⟨by rw [ent_eq hrx], h1.ext⟩
def arrN (d : Dist) (x : Run) (i hour : Nat) : Int := (parc d x hour i).1 - (parc d x hour i).2.1 - (parc d x hour i).2.2
theorem c_r23Arrival {csd csx : List Value} {d : Dist} {x : Run} {i hour H : Nat} (hd : DiR D w csd d) (hx : RuR D w csx x) (hf : Fm d x H) (hi : i < d.reaches.length) (hh : hour < H) : CallZ Tryz.prog 183 #[.agg csd.toArray, .agg csx.toArray, iv (i : Int), iv (hour : Int)] w (fun v w' => v = iv (arrN d x i hour) ∧ Ext w w') := by
  obtain ⟨A1, n1, c1, A2, n2, c2, A3, n3, c3, A4, n4, c4, A5, n5, c5, A6, n6, c6, rfl, hr, hfa, -⟩ := hd.ex
  obtain ⟨B1, m1, e1, B2, m2, e2, B3, m3, e3, B4, m4, e4, B5, m5, e5, B6, m6, e6, B7, m7, e7, rfl, i1, i2, i3, i4, i5, i6, i7, -⟩ := hx.ex
  have ln := hr.len
  have lf := hfa.len
  have k1 := i1.len
  have k2 := i2.len
  have k3 := i3.len
  have k4 := i4.len
  have k5 := i5.len
  have k6 := i6.len
  have k7 := i7.len
  have hf1 := (numB_iff.1 hf.inflow).1
  have hf2 := (numB_iff.1 hf.spill).1
  have hf3 := (tabB_iff.1 hf.inn).1
  have hf4 := (tabB_iff.1 hf.evap).1
  have hf5 := (tabB_iff.1 hf.seep).1
  have hf6 := (tabB_iff.1 hf.taken).1
  have hf7 := (tabB_iff.1 hf.tail).1
  have hHi := hf.hours
  have hH1 := hf.h1
  have hH2 := hf.h2
  have hnr := hf.nr
  have hnr' := hf.nr'
  have hnf := hf.nf
  refine fn_rule (args := [.agg #[.string d.name, iv d.hours, iv d.cap, iv d.start, .slice A1 n1 c1, .slice A2 n2 c2, .slice A3 n3 c3, .slice A4 n4 c4, .slice A5 n5 c5, .slice A6 n6 c6], .agg #[.slice B1 m1 e1, .slice B2 m2 e2, .slice B3 m3 e3, .slice B4 m4 e4, .slice B5 m5 e5, .slice B6 m6 e6, .slice B7 m7 e7], iv (i : Int), iv (hour : Int)]) Tryz.func183 (by kernel_rfl) ?_
  refine box (fun bd w1 h1 => ?_)
  refine box (fun bx w2 h2 => ?_)
  have x2 := h1.ext.trans h2.ext
  have Bd := h1.blk.ext h2.ext
  have Bx := h2.blk
  refine ldA _ (.blk Bd) rfl ?_
  refine call_of (c_r23entered (hd.ext x2) hf hi (by omega)) ?_
  rintro _ w3 ⟨rfl, x3⟩
  have x23 := x2.trans x3
  obtain ⟨el, eh⟩ := hf.ent_lt hi hh
  refine cD (fun q1 => ?_) (fun q1 => ?_)
  · exact ret1 (iv 0) rfl ⟨by unfold arrN parc; rw [if_neg (by omega)]; rfl, x23⟩
  obtain ⟨t, ht⟩ : ∃ t : Nat, ent d i hour = (t : Int) := ⟨(ent d i hour).toNat, by omega⟩
  have hp : parc d x hour i = (g2 x.inn i t, g2 x.evap i t, g2 x.seep i t) := by unfold parc; rw [ht, if_pos (by omega), Int.toNat_natCast]
  have htH : t < H := by omega
  obtain ⟨f3, p3, R3, s3, u3, rfl, cc3, r3, -⟩ := row_at (i3.ext x23) (i := i) (by omega)
  obtain ⟨f4, p4, R4, s4, u4, rfl, cc4, r4, -⟩ := row_at (i4.ext x23) (i := i) (by omega)
  obtain ⟨f5, p5, R5, s5, u5, rfl, cc5, r5, -⟩ := row_at (i5.ext x23) (i := i) (by omega)
  have y3 := (numB_iff.1 (tab_row hf.inn hi).2).1
  have y4 := (numB_iff.1 (tab_row hf.evap hi).2).1
  have y5 := (numB_iff.1 (tab_row hf.seep hi).2).1
  have z3 := r3.len
  have z4 := r4.len
  have z5 := r5.len
  obtain ⟨a3, b3, rfl, v3⟩ := num_at r3 (k := t) (by omega)
  obtain ⟨a4, b4, rfl, v4⟩ := num_at r4 (k := t) (by omega)
  obtain ⟨a5, b5, rfl, v5⟩ := num_at r5 (k := t) (by omega)
  have l3 := tab_val hf.inn hi htH
  have l4 := tab_val hf.evap hi htH
  have l5 := tab_val hf.seep hi htH
  refine drawQ mx (by kernel_rfl) ?_
  refine fldA ?_
  refine ld _ ((Bx.ext x3).cell rfl) ?_
  refine idx i rfl (by omega) ?_
  refine ld _ cc3 ?_
  refine idx t ht (by omega) ?_
  refine ld _ v3 ?_
  refine fldA ?_
  refine ld _ ((Bx.ext x3).cell rfl) ?_
  refine idx i rfl (by omega) ?_
  refine ld _ cc4 ?_
  refine idx t ht (by omega) ?_
  refine ld _ v4 ?_
  refine arE (g2 x.inn i t - g2 x.evap i t) rfl (by omega) ?_
  refine fldA ?_
  refine ld _ ((Bx.ext x3).cell rfl) ?_
  refine idx i rfl (by omega) ?_
  refine ld _ cc5 ?_
  refine idx t ht (by omega) ?_
  refine ld _ v5 ?_
  refine arE (g2 x.inn i t - g2 x.evap i t - g2 x.seep i t) rfl (by omega) ?_
  exact ret1 (iv (g2 x.inn i t - g2 x.evap i t - g2 x.seep i t)) rfl ⟨by unfold arrN; rw [hp], x23⟩
theorem c_r23left {csd csx : List Value} {d : Dist} {x : Run} {i hour H : Nat} (hd : DiR D w csd d) (hx : RuR D w csx x) (hf : Fm d x H) (hi : i < d.reaches.length) (hh : hour < H) : CallZ Tryz.prog 184 #[.agg csd.toArray, .agg csx.toArray, iv (i : Int), iv (hour : Int)] w (fun v w' => v = iv (leftN d x i hour) ∧ Ext w w') := by
  obtain ⟨A1, n1, c1, A2, n2, c2, A3, n3, c3, A4, n4, c4, A5, n5, c5, A6, n6, c6, rfl, hr, hfa, -⟩ := hd.ex
  obtain ⟨B1, m1, e1, B2, m2, e2, B3, m3, e3, B4, m4, e4, B5, m5, e5, B6, m6, e6, B7, m7, e7, rfl, i1, i2, i3, i4, i5, i6, i7, -⟩ := hx.ex
  have ln := hr.len
  have lf := hfa.len
  have k1 := i1.len
  have k2 := i2.len
  have k3 := i3.len
  have k4 := i4.len
  have k5 := i5.len
  have k6 := i6.len
  have k7 := i7.len
  have hf1 := (numB_iff.1 hf.inflow).1
  have hf2 := (numB_iff.1 hf.spill).1
  have hf3 := (tabB_iff.1 hf.inn).1
  have hf4 := (tabB_iff.1 hf.evap).1
  have hf5 := (tabB_iff.1 hf.seep).1
  have hf6 := (tabB_iff.1 hf.taken).1
  have hf7 := (tabB_iff.1 hf.tail).1
  have hHi := hf.hours
  have hH1 := hf.h1
  have hH2 := hf.h2
  have hnr := hf.nr
  have hnr' := hf.nr'
  have hnf := hf.nf
  refine fn_rule (args := [.agg #[.string d.name, iv d.hours, iv d.cap, iv d.start, .slice A1 n1 c1, .slice A2 n2 c2, .slice A3 n3 c3, .slice A4 n4 c4, .slice A5 n5 c5, .slice A6 n6 c6], .agg #[.slice B1 m1 e1, .slice B2 m2 e2, .slice B3 m3 e3, .slice B4 m4 e4, .slice B5 m5 e5, .slice B6 m6 e6, .slice B7 m7 e7], iv (i : Int), iv (hour : Int)]) Tryz.func184 (by kernel_rfl) ?_
  refine box (fun bd w1 h1 => ?_)
  refine box (fun bx w2 h2 => ?_)
  have x2 := h1.ext.trans h2.ext
  have Bd := h1.blk.ext h2.ext
  have Bx := h2.blk
  obtain ⟨f3, p3, R3, s3, u3, rfl, cc3, r3, -⟩ := row_at (i7.ext x2) (i := i) (by omega)
  have y3 := (numB_iff.1 (tab_row hf.tail hi).2).1
  have z3 := r3.len
  obtain ⟨a3, b3, rfl, v3⟩ := num_at r3 (k := hour) (by omega)
  have l3 := tab_val hf.tail hi hh
  refine fldA ?_
  refine ld _ (Bx.cell rfl) ?_
  refine idx i rfl (by omega) ?_
  refine ld _ cc3 ?_
  refine idx hour rfl (by omega) ?_
  refine ld _ v3 ?_
  refine loop2 (fun (k : Nat) (s : Int) => [(10, iv (k : Int)), (9, iv s)]) (fun k s w' => k ≤ n1 ∧ w2 = w' ∧ s = g2 x.tail i hour + sumL (childL d x hour i k)) (fun k _ _ => n1 - k) 0 (g2 x.tail i hour) ⟨rfl, rfl, trivial⟩ ⟨by omega, rfl, by rw [show childL d x hour i 0 = [] from rfl]; simp [sumL]⟩ rfl ?_
  rintro G k s _ ⟨hk, rfl, hs⟩
  refine fldA ?_
  refine ld (.slice A1 n1 c1) (Bd.cell rfl) ?_
  refine len ?_
  have b1 := sumL_le (hf.okChild (i := i) hh (k := k) (by omega))
  have b2 := childL_len (d := d) (x := x) (hour := hour) (i := i) (k := k)
  refine cD (fun hlt => ?_) (fun hge => ?_)
  · have hlt : k < n1 := by omega
    obtain ⟨b, o, cs, r, rfl, hrx, -, -, hc, rfl⟩ := (hr.ext x2).at_ hlt
    have hrk := rch_eq hrx
    refine fldA ?_
    refine ld _ (Bd.cell rfl) ?_
    refine idx k rfl hlt ?_
    refine fldA ?_
    refine ld (iv r.up) (hc 1 _ rfl) ?_
    refine cE (fun hup => ?_) (fun hup => ?_)
    · obtain ⟨f4, p4, R4, s4, u4, rfl, cc4, r4, -⟩ := row_at (i3.ext x2) (i := k) (by omega)
      have y4 := (numB_iff.1 (tab_row hf.inn (i := k) (by omega)).2).1
      have z4 := r4.len
      obtain ⟨a4, b4, rfl, v4⟩ := num_at r4 (k := hour) (by omega)
      have l4 := tab_val hf.inn (i := k) (by omega) hh
      refine fldA ?_
      refine ld _ (Bx.cell rfl) ?_
      refine idx k rfl (by omega) ?_
      refine ld _ cc4 ?_
      refine idx hour rfl (by omega) ?_
      refine ld _ v4 ?_
      refine arE (s + g2 x.inn k hour) rfl (by omega) ?_
      refine arI (by omega) ?_
      refine next2 (k + 1) (s + g2 x.inn k hour) ⟨by rw [Int.natCast_add]; rfl, rfl, trivial⟩ ⟨by omega, rfl, ?_⟩ (by omega)
      rw [childL_succ, hrk, if_pos hup, sumL_app, hs]; simp [sumL]; omega
    · refine arI (by omega) ?_
      refine next2 (k + 1) s ⟨by rw [Int.natCast_add]; rfl, rfl, trivial⟩ ⟨by omega, rfl, ?_⟩ (by omega)
      rw [childL_succ, hrk, if_neg hup, List.append_nil]; exact hs
  have hs0 : s = g2 x.tail i hour + sumL (childL d x hour i d.reaches.length) := by rw [hs, show k = d.reaches.length by omega]
  have b3 := sumL_le (hf.okChild (i := i) hh (Nat.le_refl _))
  have b4 := childL_len (d := d) (x := x) (hour := hour) (i := i) (k := d.reaches.length)
  refine loop2 (fun (k : Nat) (s' : Int) => [(11, iv (k : Int)), (9, iv s')]) (fun k s' w' => k ≤ n2 ∧ w2 = w' ∧ s' = s + sumL (farmL d x hour i k)) (fun k _ _ => n2 - k) 0 s ⟨rfl, rfl, trivial⟩ ⟨by omega, rfl, by rw [show farmL d x hour i 0 = [] from rfl]; simp [sumL]⟩ rfl ?_
  rintro G2 k' s' _ ⟨hk', rfl, hs'⟩
  refine fldA ?_
  refine ld (.slice A2 n2 c2) (Bd.cell rfl) ?_
  refine len ?_
  have b5 := sumL_le (hf.okFarm (i := i) hh (k := k') (by omega))
  have b6 := farmL_len (d := d) (x := x) (hour := hour) (i := i) (k := k')
  refine cD (fun hlt => ?_) (fun hge2 => ?_)
  · have hlt : k' < n2 := by omega
    obtain ⟨b, o, cs, r, rfl, hrx, -, -, hc, rfl⟩ := (hfa.ext x2).at_ hlt
    have hrk := frm_eq hrx
    refine fldA ?_
    refine ld _ (Bd.cell rfl) ?_
    refine idx k' rfl hlt ?_
    refine fldA ?_
    refine ld (iv r.reach) (hc 1 _ rfl) ?_
    refine cE (fun hup => ?_) (fun hup => ?_)
    · obtain ⟨f4, p4, R4, s4, u4, rfl, cc4, r4, -⟩ := row_at (i6.ext x2) (i := k') (by omega)
      have y4 := (numB_iff.1 (tab_row hf.taken (i := k') (by omega)).2).1
      have z4 := r4.len
      obtain ⟨a4, b4', rfl, v4⟩ := num_at r4 (k := hour) (by omega)
      have l4 := tab_val hf.taken (i := k') (by omega) hh
      refine fldA ?_
      refine ld _ (Bx.cell rfl) ?_
      refine idx k' rfl (by omega) ?_
      refine ld _ cc4 ?_
      refine idx hour rfl (by omega) ?_
      refine ld _ v4 ?_
      refine arE (s' + g2 x.taken k' hour) rfl (by omega) ?_
      refine arI (by omega) ?_
      refine next2 (k' + 1) (s' + g2 x.taken k' hour) ⟨by rw [Int.natCast_add]; rfl, rfl, trivial⟩ ⟨by omega, rfl, ?_⟩ (by omega)
      rw [farmL_succ, hrk, if_pos hup, sumL_app, hs']; simp [sumL]; omega
    · refine arI (by omega) ?_
      refine next2 (k' + 1) s' ⟨by rw [Int.natCast_add]; rfl, rfl, trivial⟩ ⟨by omega, rfl, ?_⟩ (by omega)
      rw [farmL_succ, hrk, if_neg hup, List.append_nil]; exact hs'
  refine ret1 (iv s') rfl ⟨?_, x2⟩
  have : leftN d x i hour = s' := by unfold leftN; rw [hs', hs0, show k' = d.farms.length by omega]; omega
  rw [this]
end
end Go.Proofs.YtehcphboliofaaaGreatDoor

/- Made by gen_XBd.py. Layer 23: the reference, third part. -/
namespace Go.Proofs.YtehcphboliofaaaGreatDoor
open Go Go.RowKit

section
variable {D : Nat → Prop} {w : World}
set_option maxRecDepth 4000 in
theorem c_r23Right {csd csx : List Value} {d : Dist} {x : Run} (hd : DiR D w csd d) (hx : RuR D w csx x) (hv : validB d = true) (ht : tooMany d = false) : CallZ Tryz.prog 120 #[.agg csd.toArray, .agg csx.toArray] w (fun v w' => v = .bool (rightB d x) ∧ Ext w w') := by
  obtain ⟨A1, n1, c1, A2, n2, c2, A3, n3, c3, A4, n4, c4, A5, n5, c5, A6, n6, c6, rfl, hr, hfa, -⟩ := hd.ex
  obtain ⟨B1, m1, e1, B2, m2, e2, B3, m3, e3, B4, m4, e4, B5, m5, e5, B6, m6, e6, B7, m7, e7, rfl, i1, i2, i3, i4, i5, i6, i7, -⟩ := hx.ex
  have ln := hr.len
  have lf := hfa.len
  have k1 := i1.len
  have k2 := i2.len
  have k3 := i3.len
  have k4 := i4.len
  have k5 := i5.len
  have k6 := i6.len
  have k7 := i7.len
  refine fn_rule (args := [.agg #[.string d.name, iv d.hours, iv d.cap, iv d.start, .slice A1 n1 c1, .slice A2 n2 c2, .slice A3 n3 c3, .slice A4 n4 c4, .slice A5 n5 c5, .slice A6 n6 c6], .agg #[.slice B1 m1 e1, .slice B2 m2 e2, .slice B3 m3 e3, .slice B4 m4 e4, .slice B5 m5 e5, .slice B6 m6 e6, .slice B7 m7 e7]]) Tryz.func120 (by kernel_rfl) ?_
  refine box (fun bd w1 h1 => ?_)
  refine box (fun bx w2 h2 => ?_)
  have x2 := h1.ext.trans h2.ext
  have Bd := h1.blk.ext h2.ext
  have Bx := h2.blk
  refine ldA _ (.blk Bd) rfl ?_
  refine ldA _ (.blk Bx) rfl ?_
  refine callE (c_r23formed (hd.ext x2) (hx.ext x2)) (fun w3 hF x3 => ?_) (fun w3 hF x3 => ?_)
  rotate_left
  · exact ret1 (.bool false) rfl ⟨by unfold rightB; rw [hF]; rfl, x2.trans x3⟩
  have x23 := x2.trans x3
  have Bd3 := Bd.ext x3
  have Bx3 := Bx.ext x3
  have hf := Fm.of hv ht hF
  have hcap := headOk_iff.1 (validB_iff.1 hv).1
  generalize hH : d.hours.toNat = H at hf
  have hf1 := (numB_iff.1 hf.inflow).1
  have hf2 := (numB_iff.1 hf.spill).1
  have hf3 := (tabB_iff.1 hf.inn).1
  have hf4 := (tabB_iff.1 hf.evap).1
  have hf5 := (tabB_iff.1 hf.seep).1
  have hf6 := (tabB_iff.1 hf.taken).1
  have hf7 := (tabB_iff.1 hf.tail).1
  have hHi := hf.hours
  have hH1 := hf.h1
  have hH2 := hf.h2
  have hnr := hf.nr
  have hnr' := hf.nr'
  have hnf := hf.nf
  have riff : rightB d x = true ↔ RightP d x H := by rw [rightB_iff, hH]; exact ⟨fun h => h.2, fun h => ⟨hF, h⟩⟩
  have bad : ∀ {u}, Ext w3 u → ¬ RightP d x H → Value.bool false = .bool (rightB d x) ∧ Ext w u := fun xu h => ⟨by rw [Bool.eq_false_iff.2 fun e => h (riff.1 e)], x23.trans xu⟩
  -- the losses
  refine loop_rule (fun i : Nat => [(5, iv (i : Int))]) (fun i u => i ≤ n1 ∧ Ext w3 u ∧ ∀ i' k, i' < i → k < H → admB (rch d i') (g2 x.inn i' k) (g2 x.evap i' k) (g2 x.seep i' k) = true) (fun i _ => n1 - i) 0 ⟨rfl, trivial⟩ ⟨by omega, .refl _ _, fun i' k h => absurd h (Nat.not_lt_zero _)⟩ rfl ?_
  rintro G i u ⟨hi, xu, hadm⟩
  refine fldA ?_
  refine ld (.slice A1 n1 c1) ((Bd3.ext xu).cell rfl) ?_
  refine len ?_
  refine cD (fun hlt => ?_) (fun hge => ?_)
  · have hin : i < d.reaches.length := by omega
    refine loop_rule (fun k : Nat => [(6, iv (k : Int))]) (fun k u' => k ≤ H ∧ Ext w3 u' ∧ ∀ k', k' < k → admB (rch d i) (g2 x.inn i k') (g2 x.evap i k') (g2 x.seep i k') = true) (fun k _ => H - k) 0 ⟨rfl, trivial⟩ ⟨by omega, xu, fun k h => absurd h (Nat.not_lt_zero _)⟩ rfl ?_
    rintro G2 k u' ⟨hk, xu', hadm'⟩
    refine fldA ?_
    refine ld (iv d.hours) ((Bd3.ext xu').cell rfl) ?_
    rw [hHi]
    refine cD (fun hlt2 => ?_) (fun hge2 => ?_)
    · have hkH : k < H := by omega
      have xw := x23.trans xu'
      obtain ⟨b, o, cs, r, rfl, hrx, -, -, hc, rfl⟩ := (hr.ext xw).at_ (show i < n1 by omega)
      have hrr := rch_eq hrx
      obtain ⟨-, hlo, -, -⟩ := hf.at_ hrx
      obtain ⟨f3, p3, R3, s3, u3, rfl, cc3, r3, -⟩ := row_at (i3.ext xw) (i := i) (by omega)
      obtain ⟨f4, p4, R4, s4, u4, rfl, cc4, r4, -⟩ := row_at (i4.ext xw) (i := i) (by omega)
      obtain ⟨f5, p5, R5, s5, u5, rfl, cc5, r5, -⟩ := row_at (i5.ext xw) (i := i) (by omega)
      have y3 := (numB_iff.1 (tab_row hf.inn hin).2).1
      have y4 := (numB_iff.1 (tab_row hf.evap hin).2).1
      have y5 := (numB_iff.1 (tab_row hf.seep hin).2).1
      have z3 := r3.len
      have z4 := r4.len
      have z5 := r5.len
      obtain ⟨a3, b3, rfl, v3⟩ := num_at r3 (k := k) (by omega)
      obtain ⟨a4, b4, rfl, v4⟩ := num_at r4 (k := k) (by omega)
      obtain ⟨a5, b5, rfl, v5⟩ := num_at r5 (k := k) (by omega)
      refine drawX [0, 1, 2, 3, 4, 5, 6, 7, 8, 9, 10, 11, 12, 13, 14, 15, 16, 17, 18, 19, 20, 21, 22, 23, 24, 25, 26, 27, 28, 29, 30] [29] mx (by kernel_rfl) ?_
      refine fldA ?_
      refine ldX _ ((Bd3.ext xu').cell rfl) (.refl _ _) ?_
      refine idx i rfl (by omega) ?_
      refine ldAX r.c hc rfl (.refl _ _) ?_
      refine fldA ?_
      refine ldX _ ((Bx3.ext xu').cell rfl) (.refl _ _) ?_
      refine idx i rfl (by omega) ?_
      refine ldX _ cc3 (.refl _ _) ?_
      refine idx k rfl (by omega) ?_
      refine ldX _ v3 (.refl _ _) ?_
      refine fldA ?_
      refine ldX _ ((Bx3.ext xu').cell rfl) (.refl _ _) ?_
      refine idx i rfl (by omega) ?_
      refine ldX _ cc4 (.refl _ _) ?_
      refine idx k rfl (by omega) ?_
      refine ldX _ v4 (.refl _ _) ?_
      refine fldA ?_
      refine ldX _ ((Bx3.ext xu').cell rfl) (.refl _ _) ?_
      refine idx i rfl (by omega) ?_
      refine ldX _ cc5 (.refl _ _) ?_
      refine idx k rfl (by omega) ?_
      refine ldX _ v5 (.refl _ _) ?_
      refine callE (c_r23Adm (r := r) (v := g2 x.inn i k) (e := g2 x.evap i k) (s := g2 x.seep i k) hlo (tab_val hf.inn hin hkH) (tab_val hf.evap hin hkH) (tab_val hf.seep hin hkH)) (fun v9 ha x9 => ?_) (fun v9 ha x9 => ?_)
      · refine strS x9 ?_
        refine arI (by omega) ?_
        refine next (k + 1) ⟨by rw [Int.natCast_add]; rfl, trivial⟩ ⟨by omega, xu'.trans x9, fun k' hk' => ?_⟩ (by omega)
        by_cases e : k' = k
        · subst e; rw [hrr]; exact ha
        · exact hadm' k' (by omega)
      · refine strS x9 ?_
        exact ret1 (.bool false) rfl (bad (xu'.trans x9) fun h => by have := h.adm i k hin hkH; rw [hrr, ha] at this; exact Bool.noConfusion this)
    · refine arI (by omega) ?_
      refine next (i + 1) ⟨by rw [Int.natCast_add]; rfl, trivial⟩ ⟨by omega, xu', fun i' k' hi' hk' => ?_⟩ (by omega)
      by_cases e : i' = i
      · subst e; exact hadm' k' (by omega)
      · exact hadm i' k' (by omega) hk'
  have hadmA : ∀ i k, i < d.reaches.length → k < H → admB (rch d i) (g2 x.inn i k) (g2 x.evap i k) (g2 x.seep i k) = true := fun i' k h1 h2 => hadm i' k (by omega) h2
  clear hadm hge
  -- the balances
  refine loop_rule (fun i : Nat => [(7, iv (i : Int))]) (fun i u => i ≤ n1 ∧ Ext w3 u ∧ ∀ i' k, i' < i → k < H → balI d x i' k = true) (fun i _ => n1 - i) 0 ⟨rfl, trivial⟩ ⟨by omega, xu, fun i' k h => absurd h (Nat.not_lt_zero _)⟩ rfl ?_
  rintro G2 i2' u2 ⟨hi2, xu2, hbal⟩
  refine fldA ?_
  refine ld (.slice A1 n1 c1) ((Bd3.ext xu2).cell rfl) ?_
  refine len ?_
  refine cD (fun hlt => ?_) (fun hge => ?_)
  · have hin : i2' < d.reaches.length := by omega
    refine loop_rule (fun k : Nat => [(8, iv (k : Int))]) (fun k u' => k ≤ H ∧ Ext w3 u' ∧ ∀ k', k' < k → balI d x i2' k' = true) (fun k _ => H - k) 0 ⟨rfl, trivial⟩ ⟨by omega, xu2, fun k h => absurd h (Nat.not_lt_zero _)⟩ rfl ?_
    rintro G3 k u' ⟨hk, xu', hbal'⟩
    refine fldA ?_
    refine ld (iv d.hours) ((Bd3.ext xu').cell rfl) ?_
    rw [hHi]
    refine cD (fun hlt2 => ?_) (fun hge2 => ?_)
    · have hkH : k < H := by omega
      have xw := x23.trans xu'
      refine drawX [0, 1, 2, 3, 5, 6, 7, 8, 4, 9, 10] [4, 9] mx (by kernel_rfl) ?_
      refine ldAX _ (.blk (Bd3.ext xu')) rfl (.refl _ _) ?_
      refine ldAX _ (.blk (Bx3.ext xu')) rfl (.refl _ _) ?_
      refine ldAX _ (.blk (Bd3.ext xu')) rfl (.refl _ _) ?_
      refine ldAX _ (.blk (Bx3.ext xu')) rfl (.refl _ _) ?_
      refine call_of (c_r23Arrival (hd.ext xw) (hx.ext xw) hf hin hkH) ?_
      rintro _ v1 ⟨rfl, y1⟩
      refine strS y1 ?_
      refine call_of (c_r23left (hd.ext (xw.trans y1)) (hx.ext (xw.trans y1)) hf hin hkH) ?_
      rintro _ v2 ⟨rfl, y2⟩
      refine strS (y1.trans y2) ?_
      have xn := xu'.trans (y1.trans y2)
      refine cN (fun hne => ?_) (fun heq => ?_)
      · exact ret1 (.bool false) rfl (bad xn fun h => by
          have := h.bal i2' k hin hkH
          unfold balI at this
          rw [decide_eq_true_eq] at this
          exact hne this)
      · refine arI (by omega) ?_
        refine next (k + 1) ⟨by rw [Int.natCast_add]; rfl, trivial⟩ ⟨by omega, xn, fun k' hk' => ?_⟩ (by omega)
        by_cases e : k' = k
        · subst e; unfold balI; rw [decide_eq_true_eq]; exact heq
        · exact hbal' k' (by omega)
    · refine arI (by omega) ?_
      refine next (i2' + 1) ⟨by rw [Int.natCast_add]; rfl, trivial⟩ ⟨by omega, xu', fun i' k' hi' hk' => ?_⟩ (by omega)
      by_cases e : i' = i2'
      · subst e; exact hbal' k' (by omega)
      · exact hbal i' k' (by omega) hk'
  have hbalA : ∀ i k, i < d.reaches.length → k < H → balI d x i k = true := fun i' k h1 h2 => hbal i' k (by omega) h2
  clear hbal hge
  -- the stores
  refine fldA ?_
  refine fldA ?_
  refine ld (iv d.start) ((Bd3.ext xu2).cell rfl) ?_
  refine loop2 (fun (k : Nat) (s : Int) => [(10, iv (k : Int)), (9, iv s)]) (fun k s u => k ≤ H ∧ u2 = u ∧ s = storeN d x k ∧ (0 ≤ s ∧ s ≤ d.cap) ∧ ∀ k', k' < k → 0 ≤ storeN d x (k' + 1) ∧ storeN d x (k' + 1) ≤ d.cap) (fun k _ _ => H - k) 0 d.start ⟨rfl, rfl, trivial⟩ ⟨by omega, rfl, rfl, by omega, fun k h => absurd h (Nat.not_lt_zero _)⟩ rfl ?_
  rintro G3 k s _ ⟨hk, rfl, hs, hsb, hsto⟩
  refine fldA ?_
  refine ld (iv d.hours) ((Bd3.ext xu2).cell rfl) ?_
  rw [hHi]
  refine cD (fun hlt => ?_) (fun hge => ?_)
  · have hkH : k < H := by omega
    have xw := x23.trans xu2
    obtain ⟨fa, fb, rfl, v1⟩ := num_at (i1.ext xw) (k := k) (by omega)
    obtain ⟨ga, gb, rfl, v2⟩ := num_at (i2.ext xw) (k := k) (by omega)
    obtain ⟨f3, p3, R3, s3, u3, rfl, cc3, r3, -⟩ := row_at (i3.ext xw) (i := 0) (by omega)
    have y3 := (numB_iff.1 (tab_row hf.inn hnr).2).1
    have z3 := r3.len
    obtain ⟨ya, yb, rfl, v3⟩ := num_at r3 (k := k) (by omega)
    have b1 := (num_val hf.inflow hkH).2
    have b2 := (num_val hf.spill hkH).2
    have b3 := tab_val hf.inn hnr hkH
    refine drawQ mx (by kernel_rfl) ?_
    refine fldA ?_
    refine ld _ ((Bx3.ext xu2).cell rfl) ?_
    refine idx k rfl (by omega) ?_
    refine ld _ v1 ?_
    refine arE (s + g1 x.inflow k) rfl (by omega) ?_
    refine fldA ?_
    refine ld _ ((Bx3.ext xu2).cell rfl) ?_
    refine idx k rfl (by omega) ?_
    refine ld _ v2 ?_
    refine arE (s + g1 x.inflow k - g1 x.spill k) rfl (by omega) ?_
    refine fldA ?_
    refine ld _ ((Bx3.ext xu2).cell rfl) ?_
    refine idx 0 rfl (by omega) ?_
    refine ld _ cc3 ?_
    refine idx k rfl (by omega) ?_
    refine ld _ v3 ?_
    have hst : storeN d x (k + 1) = s + g1 x.inflow k - g1 x.spill k - g2 x.inn 0 k := by rw [hs]; rfl
    refine arE (storeN d x (k + 1)) hst.symm (by omega) ?_
    refine cD (fun q1 => ?_) (fun q1 => ?_)
    · exact ret1 (.bool false) rfl (bad xu2 fun h => by have := h.sto k hkH; omega)
    refine fldA ?_
    refine fldA ?_
    refine ld (iv d.cap) ((Bd3.ext xu2).cell rfl) ?_
    refine cD (fun q2 => ?_) (fun q2 => ?_)
    · exact ret1 (.bool false) rfl (bad xu2 fun h => by have := h.sto k hkH; omega)
    refine arI (by omega) ?_
    refine next2 (k + 1) (storeN d x (k + 1)) ⟨by rw [Int.natCast_add]; rfl, rfl, trivial⟩ ⟨by omega, rfl, rfl, by omega, fun k' hk' => ?_⟩ (by omega)
    by_cases e : k' = k
    · subst e; omega
    · exact hsto k' (by omega)
  · exact ret1 (.bool true) rfl ⟨by rw [riff.2 ⟨hadmA, hbalA, fun k' hk' => hsto k' (by omega)⟩], x23.trans xu2⟩
theorem c_r23Check {csd csx : List Value} {d : Dist} {x : Run} (hd : DiR D w csd d) (hx : RuR D w csx x) : CallZ Tryz.prog 72 #[.agg csd.toArray, .agg csx.toArray] w
    (fun v w' => v = iv (bErr d x) ∧ Ext w w') := by
  obtain ⟨A1, n1, c1, A2, n2, c2, A3, n3, c3, A4, n4, c4, A5, n5, c5, A6, n6, c6, rfl, hr, hfa, -⟩ := hd.ex
  obtain ⟨B1, m1, e1, B2, m2, e2, B3, m3, e3, B4, m4, e4, B5, m5, e5, B6, m6, e6, B7, m7, e7, rfl, i1, i2, i3, i4, i5, i6, i7, -⟩ := hx.ex
  have ln := hr.len
  have lf := hfa.len
  have k1 := i1.len
  have k2 := i2.len
  have k3 := i3.len
  have k4 := i4.len
  have k5 := i5.len
  have k6 := i6.len
  have k7 := i7.len
  refine fn_rule (args := [.agg #[.string d.name, iv d.hours, iv d.cap, iv d.start, .slice A1 n1 c1, .slice A2 n2 c2, .slice A3 n3 c3, .slice A4 n4 c4, .slice A5 n5 c5, .slice A6 n6 c6], .agg #[.slice B1 m1 e1, .slice B2 m2 e2, .slice B3 m3 e3, .slice B4 m4 e4, .slice B5 m5 e5, .slice B6 m6 e6, .slice B7 m7 e7]]) Tryz.func72 (by kernel_rfl) ?_
  refine box (fun bd w1 h1 => ?_)
  refine box (fun bx w2 h2 => ?_)
  have x2 := h1.ext.trans h2.ext
  have Bd := h1.blk.ext h2.ext
  have Bx := h2.blk
  refine ldA _ (.blk Bd) rfl ?_
  refine call_of (c_r19Check (hd.ext x2)) ?_
  rintro _ w3 ⟨rfl, x3⟩
  have x23 := x2.trans x3
  refine cN (fun q1 => ?_) (fun q1 => ?_)
  · exact ret1 (iv (dErr d)) rfl ⟨by unfold bErr; rw [if_pos q1], x23⟩
  obtain ⟨ht, hv⟩ := dErr_ok.1 q1
  obtain ⟨⟨b1, b2⟩, b3, b4⟩ := valid_bounds ht hv
  have p1 := prod_lt (x := (n1 : Int)) (y := d.hours) (by omega) (by omega)
  have p2 := prod_lt (x := (n2 : Int)) (y := d.hours) (by omega) (by omega)
  refine fldA ?_
  refine ld (.slice A1 n1 c1) ((Bd.ext x3).cell rfl) ?_
  refine len ?_
  refine fldA ?_
  refine ld (iv d.hours) ((Bd.ext x3).cell rfl) ?_
  refine arI (by omega) ?_
  have e0 : dErr d = 0 := q1
  refine cD (fun q2 => ?_) (fun q2 => ?_)
  · exact ret1 (iv 2) rfl ⟨by unfold bErr wide; rw [if_neg (by simpa using e0), ln, decide_eq_true q2]; rfl, x23⟩
  refine fldA ?_
  refine ld (.slice A2 n2 c2) ((Bd.ext x3).cell rfl) ?_
  refine len ?_
  refine fldA ?_
  refine ld (iv d.hours) ((Bd.ext x3).cell rfl) ?_
  refine arI (by omega) ?_
  refine cD (fun q3 => ?_) (fun q3 => ?_)
  · exact ret1 (iv 2) rfl ⟨by unfold bErr wide; rw [if_neg (by simpa using e0), lf, decide_eq_true q3, Bool.or_true]; rfl, x23⟩
  have hw : wide d = false := by unfold wide; rw [ln, lf, decide_eq_false q2, decide_eq_false q3]; rfl
  refine ldA _ (.blk (Bd.ext x3)) rfl ?_
  refine ldA _ (.blk (Bx.ext x3)) rfl ?_
  refine callE (c_r23Right (hd.ext x23) (hx.ext x23) hv ht) (fun w4 q4 x4 => ?_) (fun w4 q4 x4 => ?_)
  · exact ret1 (iv 0) rfl ⟨by unfold bErr; rw [if_neg (by simpa using e0), hw, q4]; rfl, x23.trans x4⟩
  · exact ret1 (iv 230) rfl ⟨by unfold bErr; rw [if_neg (by simpa using e0), hw, q4]; rfl, x23.trans x4⟩
theorem c_r23asked {csd csx : List Value} {d : Dist} {x : Run} {hour most : Int} (hd : DiR D w csd d) (hx : RuR D w csx x) : CallZ Tryz.prog 121 #[.agg csd.toArray, .agg csx.toArray, iv hour, iv most] w
    (fun v w' => v = iv (hErr d x hour most) ∧ Ext w w') := by
  obtain ⟨A1, n1, c1, A2, n2, c2, A3, n3, c3, A4, n4, c4, A5, n5, c5, A6, n6, c6, rfl, hr, hfa, -⟩ := hd.ex
  obtain ⟨B1, m1, e1, B2, m2, e2, B3, m3, e3, B4, m4, e4, B5, m5, e5, B6, m6, e6, B7, m7, e7, rfl, i1, i2, i3, i4, i5, i6, i7, -⟩ := hx.ex
  have ln := hr.len
  have lf := hfa.len
  have k1 := i1.len
  have k2 := i2.len
  have k3 := i3.len
  have k4 := i4.len
  have k5 := i5.len
  have k6 := i6.len
  have k7 := i7.len
  refine fn_rule (args := [.agg #[.string d.name, iv d.hours, iv d.cap, iv d.start, .slice A1 n1 c1, .slice A2 n2 c2, .slice A3 n3 c3, .slice A4 n4 c4, .slice A5 n5 c5, .slice A6 n6 c6], .agg #[.slice B1 m1 e1, .slice B2 m2 e2, .slice B3 m3 e3, .slice B4 m4 e4, .slice B5 m5 e5, .slice B6 m6 e6, .slice B7 m7 e7], iv hour, iv most]) Tryz.func121 (by kernel_rfl) ?_
  refine box (fun bd w1 h1 => ?_)
  refine box (fun bx w2 h2 => ?_)
  have x2 := h1.ext.trans h2.ext
  have Bd := h1.blk.ext h2.ext
  have Bx := h2.blk
  refine ldA _ (.blk Bd) rfl ?_
  refine ldA _ (.blk Bx) rfl ?_
  refine call_of (c_r23Check (hd.ext x2) (hx.ext x2)) ?_
  rintro _ w3 ⟨rfl, x3⟩
  have x23 := x2.trans x3
  refine cN (fun q1 => ?_) (fun q1 => ?_)
  · exact ret1 (iv (bErr d x)) rfl ⟨by unfold hErr; rw [if_pos q1], x23⟩
  have e0 : bErr d x = 0 := q1
  have sv : hErr d x hour most = if hour < 0 ∨ hour > most then 1 else 0 := by unfold hErr; rw [if_neg (by simpa using e0)]
  refine cD (fun q2 => ?_) (fun q2 => ?_)
  · exact ret1 (iv 1) rfl ⟨by rw [sv, if_pos (.inl q2)], x23⟩
  refine cD (fun q3 => ?_) (fun q3 => ?_)
  · exact ret1 (iv 1) rfl ⟨by rw [sv, if_pos (.inr q3)], x23⟩
  · exact ret1 (iv 0) rfl ⟨by rw [sv, if_neg (by omega)], x23⟩
theorem storeV_h {d : Dist} {x : Run} {hour : Int} : storeV d x hour = (if hErr d x hour d.hours = 0 then storeN d x hour.toNat else 0, hErr d x hour d.hours) := by
  unfold storeV hErr
  by_cases h : bErr d x = 0
  · have hn : ¬ (bErr d x ≠ 0) := fun e => e h
    simp only [if_neg hn]
    by_cases h2 : hour < 0 ∨ hour > d.hours
    · simp only [if_pos h2]; rfl
    · simp only [if_neg h2]; rfl
  · have hp : bErr d x ≠ 0 := h
    simp only [if_pos hp, if_neg h]
end
end Go.Proofs.YtehcphboliofaaaGreatDoor

/- Made by gen_XBe.py. Layer 23: the reference, moves; comparisons. -/
namespace Go.Proofs.YtehcphboliofaaaGreatDoor
open Go Go.RowKit

instance : EqTy Tryz.prog 86 := ⟨by kernel_rfl⟩
instance : EqTy Tryz.prog 138 := ⟨by kernel_rfl⟩
/-- A list of the function's own that lies outside of D. -/
structure OM (D : Nat → Prop) (w0 w : World) (A : Option Addr) (n c : Nat) (ms : List Mv) : Prop where
  o : OwnF w0 w A n c 138 5 (mvs ms)
  d : ∀ g, A = some (ad g 0) → ¬ D g
theorem OM.ext {D : Nat → Prop} {w0 w w' : World} {A : Option Addr} {n c : Nat} {ms : List Mv} (h : OM D w0 w A n c ms) (k : Ext w w') : OM D w0 w' A n c ms := ⟨h.o.then k, h.d⟩
theorem OM.sub {D D2 : Nat → Prop} {w0 w : World} {A : Option Addr} {n c : Nat} {ms : List Mv} (h : OM D w0 w A n c ms) (k : ∀ b, D2 b → D b) : OM D2 w0 w A n c ms := ⟨h.o, fun g hg hd => h.d g hg (k g hd)⟩
theorem OM.lt {D : Nat → Prop} {w0 w : World} {A : Option Addr} {n c : Nat} {ms : List Mv} (h : OM D w0 w A n c ms) {g : Nat} (hg : A = some (ad g 0)) : g < w.heap.size := by
  rcases h.o.form with ⟨hA, _⟩ | ⟨g', hA, _, hlt, _⟩
  · rw [hA] at hg; cases hg
  · rw [hA] at hg
    simp only [Option.some.injEq, Addr.mk.injEq, and_true] at hg
    omega
theorem OM.up {D : Nat → Prop} {w0 w w' : World} {A : Option Addr} {n c : Nat} {ms : List Mv} (h : OM D w0 w A n c ms) (x : Ext w w') : OM (fun b => D b ∨ (w.heap.size ≤ b ∧ b < w'.heap.size)) w0 w' A n c ms :=
  ⟨h.o.then x, fun g hg hd => by
    rcases hd with hd | hd
    · exact h.d g hg hd
    · have := h.lt hg; omega⟩
section
variable {D : Nat → Prop} {w0 w : World} {A A' : Option Addr} {n n' c c' : Nat}
theorem c_r23move {ms : List Mv} {a b a2 b2 L : Int} (h : OM D w0 w A n c ms) (hD : ∀ b, D b → b < w.heap.size) (hn : ms.length ≤ 100000) :
    CallZ Tryz.prog 122 #[.slice A n c, .agg #[iv a, iv b], .agg #[iv a2, iv b2], iv L] w (fun v w' => ∃ A' n' c', v = .slice A' n' c' ∧ OM D w0 w' A' n' c' (ms ++ [(⟨(a, b), (a2, b2), L⟩ : Mv)].filter nzM) ∧ Kept D w w') := by
  have hl := h.o.own.len
  rw [mvs_len] at hl
  refine fn_rule (args := [.slice A n c, .agg #[iv a, iv b], .agg #[iv a2, iv b2], iv L]) Tryz.func122 (by kernel_rfl) ?_
  refine box (fun p w1 h1 => ?_)
  refine box (fun q w2 h2 => ?_)
  have x2 := h1.ext.trans h2.ext
  refine cE (fun q0 => ?_) (fun q0 => ?_)
  · refine ret1 (.slice A n c) rfl ⟨A, n, c, rfl, ?_, Ext.any x2⟩
    rw [List.filter_cons_of_neg (by simp [nzM, q0]), List.filter_nil, List.append_nil]; exact h.ext x2
  refine ldA [iv a, iv b] (.blk (h1.blk.ext h2.ext)) rfl ?_
  refine ldA [iv a2, iv b2] (.blk h2.blk) rfl ?_
  refine bld [iv a, iv b, iv a2, iv b2, iv L] (by kernel_rfl) ?_
  refine lit [.agg #[iv a, iv b, iv a2, iv b2, iv L]] (fun g w3 hb => ?_)
  have x3 := x2.trans hb.ext
  refine appF (h.o.then x3) (hb.src (sz := 5) rfl) (by omega) (fun A' c' w4 o4 k4 hA' => ?_)
  refine ret1 (.slice A' (n + 1) c') rfl ⟨A', n + 1, c', rfl, ⟨?_, fun g' hg hd => ?_⟩, (Ext.any x3).trans (k4.weak fun i _ hi e => h.d i e hi)⟩
  · rw [List.filter_cons_of_pos (by simp [nzM, q0]), List.filter_nil, mvs_app]; exact o4
  · rcases hA' with e | e | e
    · rw [e] at hg; exact h.d g' hg hd
    · rw [e] at hg; cases hg
    · rw [e] at hg
      simp only [Option.some.injEq, Addr.mk.injEq, and_true] at hg
      have := hD g' hd
      have := x3.size
      omega

end
end Go.Proofs.YtehcphboliofaaaGreatDoor

/- Made by gen_XBf.py. Layer 23: the reference's Moves. -/
namespace Go.Proofs.YtehcphboliofaaaGreatDoor
open Go Go.RowKit

section
variable {D Dd : Nat → Prop} {w0 w : World} {A : Option Addr} {n c : Nat}
theorem c_r23out {ms : List Mv} {csd csx : List Value} {d : Dist} {x : Run} {i hour H : Nat} (h : OM D w0 w A n c ms) (hD : ∀ b, D b → b < w.heap.size) (hDd : ∀ b, b < w.heap.size → Dd b → D b) (hn : ms.length ≤ 50000) (hd : DiR Dd w csd d) (hx : RuR Dd w csx x) (hf : Fm d x H) (hi : i < d.reaches.length) (hh : hour < H) :
    CallZ Tryz.prog 123 #[.slice A n c, .agg csd.toArray, .agg csx.toArray, iv (i : Int), iv (hour : Int)] w (fun v w' => ∃ A' n' c', v = .slice A' n' c' ∧ OM D w0 w' A' n' c' (ms ++ (endL d x hour i).filter nzM) ∧ Kept D w w') := by
  have hd := hd.more (D' := fun b => b < w.heap.size ∧ D b) fun b hb h => ⟨hb, hDd b hb h⟩
  have hx := hx.more (D' := fun b => b < w.heap.size ∧ D b) fun b hb h => ⟨hb, hDd b hb h⟩
  obtain ⟨A1, n1, c1, A2, n2, c2, A3, n3, c3, A4, n4, c4, A5, n5, c5, A6, n6, c6, rfl, hr, hfa, -⟩ := hd.ex
  obtain ⟨B1, m1, e1, B2, m2, e2, B3, m3, e3, B4, m4, e4, B5, m5, e5, B6, m6, e6, B7, m7, e7, rfl, i1, i2, i3, i4, i5, i6, i7, -⟩ := hx.ex
  have ln := hr.len
  have lf := hfa.len
  have k1 := i1.len
  have k2 := i2.len
  have k3 := i3.len
  have k4 := i4.len
  have k5 := i5.len
  have k6 := i6.len
  have k7 := i7.len
  have hf1 := (numB_iff.1 hf.inflow).1
  have hf2 := (numB_iff.1 hf.spill).1
  have hf3 := (tabB_iff.1 hf.inn).1
  have hf4 := (tabB_iff.1 hf.evap).1
  have hf5 := (tabB_iff.1 hf.seep).1
  have hf6 := (tabB_iff.1 hf.taken).1
  have hf7 := (tabB_iff.1 hf.tail).1
  have hHi := hf.hours
  have hH1 := hf.h1
  have hH2 := hf.h2
  have hnr := hf.nr
  have hnr' := hf.nr'
  have hnf := hf.nf
  refine fn_rule (args := [.slice A n c, .agg #[.string d.name, iv d.hours, iv d.cap, iv d.start, .slice A1 n1 c1, .slice A2 n2 c2, .slice A3 n3 c3, .slice A4 n4 c4, .slice A5 n5 c5, .slice A6 n6 c6], .agg #[.slice B1 m1 e1, .slice B2 m2 e2, .slice B3 m3 e3, .slice B4 m4 e4, .slice B5 m5 e5, .slice B6 m6 e6, .slice B7 m7 e7], iv (i : Int), iv (hour : Int)]) Tryz.func123 (by kernel_rfl) ?_
  refine box (fun bd w1 h1 => ?_)
  refine box (fun bx w2 h2 => ?_)
  have x2 := h1.ext.trans h2.ext
  have Bd := h1.blk.ext h2.ext
  have Bx := h2.blk
  refine bld [iv 2, iv (i : Int)] (by kernel_rfl) ?_
  refine alloc (fun t w3 h3 => ?_)
  refine stA (vs := [iv 2, iv (i : Int)]) h3.blk rfl (Nat.le_of_ble_eq_true rfl) (by simp [Value.oneCell']) (fun w4 tb s4 z4 => ?_)
  have y1 := h1.at_
  have y2 := h2.at_
  have y3 := h3.at_
  have s1 := h1.size
  have s2 := h2.size
  have s3 := h3.size
  have x24 : Ext w2 w4 := h3.ext.then s4 fun b hb _ e => by omega
  have Bd4 := Bd.ext x24
  have Bx4 := Bx.ext x24
  have x04 := x2.trans x24
  refine ldA _ (.blk Bd4) rfl ?_
  refine call_of (c_r23entered (hd.ext x04) hf hi (by omega)) ?_
  rintro _ w5 ⟨rfl, x45⟩
  have x05 := x04.trans x45
  -- what is kept from here on
  obtain ⟨Dk, hDk⟩ : ∃ Dk : Nat → Prop, Dk = fun b => D b ∨ (w.heap.size ≤ b ∧ b < w5.heap.size) := ⟨_, rfl⟩
  have M5 : OM Dk w0 w5 A n c ms := by rw [hDk]; exact h.up x05
  have dkD : ∀ b, D b → Dk b := fun b h => by rw [hDk]; exact .inl h
  have dkN : ∀ b, w.heap.size ≤ b → b < w5.heap.size → Dk b := fun b h1 h2 => by rw [hDk]; exact .inr ⟨h1, h2⟩
  have dkL : ∀ b, Dk b → b < w5.heap.size := fun b h => by
    rw [hDk] at h
    rcases h with h | h
    · have := hD b h; have := x05.size; omega
    · exact h.2
  clear hDk
  have y5 := x45.size
  have keyK : ∀ u, Kept Dk w5 u → Kept (fun b => b < w.heap.size ∧ D b) w u := fun u k => (Ext.any x05).then k fun b _ hb => dkD b hb.2
  have keyD : ∀ u, Kept Dk w5 u → Blk u bd _ _ := fun u k => (Bd4.ext x45).kept k (dkN _ (by omega) (by have := Bd4.lt; omega))
  have keyX : ∀ u, Kept Dk w5 u → Blk u bx _ _ := fun u k => (Bx4.ext x45).kept k (dkN _ (by omega) (by have := Bx4.lt; omega))
  have keyT : ∀ u, Kept Dk w5 u → Blk u t _ [iv 2, iv (i : Int)] := fun u k => (tb.ext x45).kept k (dkN _ (by omega) (by have := tb.lt; omega))
  have keyL : ∀ u, Kept Dk w5 u → ∀ b, Dk b → b < u.heap.size := fun u k b hb => Nat.lt_of_lt_of_le (dkL b hb) k.size
  obtain ⟨el, eh⟩ := hf.ent_lt hi hh
  have pc0 : ∀ {k}, (childL d x hour i k).length ≤ k := childL_len
  have pf0 : ∀ {k}, (farmL d x hour i k).length ≤ k := farmL_len
  have fa : ∀ l : List Mv, l.length ≤ 2000 → (ms ++ l.filter nzM).length ≤ 100000 := fun l hl => by rw [List.length_append]; have := List.length_filter_le nzM l; omega
  have cat : ∀ L K : List Mv, ms ++ L.filter nzM ++ K.filter nzM = ms ++ (L ++ K).filter nzM := fun L K => by rw [List.filter_append, List.append_assoc]
  have lossD : (lossL d x hour i) = [⟨(2, i), (3, i), (parc d x hour i).2.1⟩] ++ [⟨(2, i), (4, i), (parc d x hour i).2.2⟩] := rfl
  refine cD (fun q1 => ?ya) (fun q1 => ?yb)
  case' ya =>
    obtain ⟨e, he⟩ : ∃ e : Nat, ent d i hour = (e : Int) := ⟨(ent d i hour).toNat, by omega⟩
    have hp : parc d x hour i = (g2 x.inn i e, g2 x.evap i e, g2 x.seep i e) := by unfold parc; rw [he, if_pos (by omega), Int.toNat_natCast]
    have heH : e < H := by omega
    obtain ⟨f4, p4, R4, s4', u4, hA4, cc4, r4, -⟩ := row_at (i4.kept (keyK w5 (.refl _ _)) fun b _ hb => hb) (i := i) (by omega)
    have v4a := (numB_iff.1 (tab_row hf.evap hi).2).1
    have v4b := r4.len
    obtain ⟨a4, b4, rfl, v4⟩ := num_at r4 (k := e) (by omega)
    subst hA4
    refine drawP (.take 0 (.take 1 (.take 2 (.take 3 (.take 4 (.take 5 (.take 6 (.take 7 (.take 8 (.take 9 (.take 10 (.take 11 (.bar (.eff 12 (.take 13 .done))))))))))))))) [12, 13] (fun u => u = w5) mx (by kernel_rfl) rfl ?_
    refine ldA [iv 2, iv (i : Int)] (.blk (keyT w5 (.refl _ _))) rfl ?_
    refine bld [iv 3, iv (i : Int)] (by kernel_rfl) ?_
    refine fldA ?_
    refine ld _ ((keyX w5 (.refl _ _)).cell rfl) ?_
    refine idx i rfl (by omega) ?_
    refine ld _ cc4 ?_
    refine idx e he (by omega) ?_
    refine ld _ v4 ?_
    refine barS (fun _ => True) trivial ?_
    refine call_of (c_r23move M5 (keyL w5 (.refl _ _)) (by omega)) ?_
    rintro _ w6 ⟨A6', n6', c6', rfl, M6, k6⟩
    refine strS trivial ?_
    obtain ⟨f5, p5, R5, s5', u5, hA5, cc5, r5, -⟩ := row_at (i5.kept (keyK w6 k6) fun b _ hb => hb) (i := i) (by omega)
    have v5a := (numB_iff.1 (tab_row hf.seep hi).2).1
    have v5b := r5.len
    obtain ⟨a5, b5, rfl, v5⟩ := num_at r5 (k := e) (by omega)
    subst hA5
    refine drawP (.take 0 (.take 1 (.take 2 (.take 3 (.take 4 (.take 5 (.take 6 (.take 7 (.take 8 (.take 9 (.take 10 (.take 11 (.bar (.eff 12 (.take 13 .done))))))))))))))) [12, 13] (fun u => u = w6) mx (by kernel_rfl) rfl ?_
    refine ldA [iv 2, iv (i : Int)] (.blk (keyT w6 k6)) rfl ?_
    refine bld [iv 4, iv (i : Int)] (by kernel_rfl) ?_
    refine fldA ?_
    refine ld _ ((keyX w6 k6).cell rfl) ?_
    refine idx i rfl (by omega) ?_
    refine ld _ cc5 ?_
    refine idx e he (by omega) ?_
    refine ld _ v5 ?_
    refine barS (fun _ => True) trivial ?_
    refine call_of (c_r23move M6 (keyL w6 k6) (fa _ (by simp))) ?_
    rintro _ w7 ⟨A, n, c, rfl, M7, k67⟩
    refine strS trivial ?_
    have k7 := k6.trans k67
    have M7' : OM Dk w0 w7 A n c (ms ++ (lossL d x hour i).filter nzM) := by
      rw [lossD, ← cat, hp]; exact M7
  case' yb =>
    have hp : parc d x hour i = (0, 0, 0) := by unfold parc; rw [if_neg (by omega)]
    obtain ⟨w7, hw7⟩ : ∃ u, u = w5 := ⟨w5, rfl⟩
    rw [← hw7]
    have k7 : Kept Dk w5 w7 := by rw [hw7]; exact .refl _ _
    have M7' : OM Dk w0 w7 A n c (ms ++ (lossL d x hour i).filter nzM) := by
      rw [lossD, hp, hw7]
      have : ([(⟨(2, (i : Int)), (3, (i : Int)), 0⟩ : Mv)] ++ [(⟨(2, (i : Int)), (4, (i : Int)), 0⟩ : Mv)]).filter nzM = [] := by simp [nzM]
      rw [this, List.append_nil]; exact M5
  all_goals
    have hll : (lossL d x hour i).length = 2 := rfl
    refine loop4 (fun (k : Nat) (A : Option Addr) (n c : Nat) => [(13, iv (k : Int)), (0, .slice A n c)]) (fun k A n c u => k ≤ n1 ∧ Kept Dk w5 u ∧ OM Dk w0 u A n c (ms ++ (lossL d x hour i ++ childL d x hour i k).filter nzM)) (fun k _ _ _ _ => n1 - k) 0 A n c ⟨rfl, rfl, trivial⟩ ⟨by omega, k7, by rw [show childL d x hour i 0 = [] from rfl, List.append_nil]; exact M7'⟩ rfl ?_
    rintro G k Ak nk ck u ⟨hk, ku, Mu⟩
    refine fldA ?_
    refine ld (.slice A1 n1 c1) ((keyD u ku).cell rfl) ?_
    refine len ?_
    refine cD (fun hlt => ?_) (fun hge => ?_)
    · have hlt : k < n1 := by omega
      have pk := pc0 (k := k)
      obtain ⟨b, o, cs, r, rfl, hrx, -, -, hc, rfl⟩ := (hr.kept (keyK u ku) fun b _ hb => hb).at_ hlt
      have hrk := rch_eq hrx
      refine fldA ?_
      refine ld _ ((keyD u ku).cell rfl) ?_
      refine idx k rfl hlt ?_
      refine fldA ?_
      refine ld (iv r.up) (hc 1 _ rfl) ?_
      refine cE (fun hup => ?_) (fun hup => ?_)
      · obtain ⟨f3, p3, R3, s3', u3, hA3, cc3, r3, -⟩ := row_at (i3.kept (keyK u ku) fun b _ hb => hb) (i := k) (by omega)
        have v3a := (numB_iff.1 (tab_row hf.inn (i := k) (by omega)).2).1
        have v3b := r3.len
        obtain ⟨a3, b3, rfl, v3⟩ := num_at r3 (k := hour) (by omega)
        subst hA3
        refine drawP (.take 0 (.take 1 (.take 2 (.take 3 (.take 4 (.take 5 (.take 6 (.take 7 (.take 8 (.take 9 (.take 10 (.take 11 (.bar (.eff 12 (.take 13 .done))))))))))))))) [12, 13] (fun y => y = u) mx (by kernel_rfl) rfl ?_
        refine ldA [iv 2, iv (i : Int)] (.blk (keyT u ku)) rfl ?_
        refine bld [iv 2, iv (k : Int)] (by kernel_rfl) ?_
        refine fldA ?_
        refine ld _ ((keyX u ku).cell rfl) ?_
        refine idx k rfl (by omega) ?_
        refine ld _ cc3 ?_
        refine idx hour rfl (by omega) ?_
        refine ld _ v3 ?_
        refine barS (fun _ => True) trivial ?_
        refine call_of (c_r23move Mu (keyL u ku) (fa _ (by rw [List.length_append]; omega))) ?_
        rintro _ u2 ⟨Ax, nx, cx, rfl, Mx, kx⟩
        refine strS trivial ?_
        refine arI (by have := hr.le; omega) ?_
        refine next4 (k + 1) Ax nx cx ⟨by rw [Int.natCast_add]; rfl, rfl, trivial⟩ ⟨by omega, ku.trans kx, ?_⟩ (by omega)
        rw [childL_succ, hrk, if_pos hup, ← List.append_assoc, ← cat]; exact Mx
      · refine arI (by have := hr.le; omega) ?_
        refine next4 (k + 1) Ak nk ck ⟨by rw [Int.natCast_add]; rfl, rfl, trivial⟩ ⟨by omega, ku, ?_⟩ (by omega)
        rw [childL_succ, hrk, if_neg hup, List.append_nil]; exact Mu
    rw [show k = d.reaches.length by omega] at Mu
    have pk := pc0 (k := d.reaches.length)
    refine loop4 (fun (k : Nat) (A : Option Addr) (n c : Nat) => [(14, iv (k : Int)), (0, .slice A n c)]) (fun k A n c u' => k ≤ n2 ∧ Kept Dk w5 u' ∧ OM Dk w0 u' A n c (ms ++ (lossL d x hour i ++ childL d x hour i d.reaches.length ++ farmL d x hour i k).filter nzM)) (fun k _ _ _ _ => n2 - k) 0 Ak nk ck ⟨rfl, rfl, trivial⟩ ⟨by omega, ku, by rw [show farmL d x hour i 0 = [] from rfl, List.append_nil]; exact Mu⟩ rfl ?_
    clear Mu ku hge
    rintro G2 k2 Ak2 nk2 ck2 u ⟨hk2, ku, Mu⟩
    refine fldA ?_
    refine ld (.slice A2 n2 c2) ((keyD u ku).cell rfl) ?_
    refine len ?_
    refine cD (fun hlt => ?_) (fun hge => ?_)
    · have hlt : k2 < n2 := by omega
      have pk2 := pf0 (k := k2)
      obtain ⟨b, o, cs, r, rfl, hrx, -, -, hc, rfl⟩ := (hfa.kept (keyK u ku) fun b _ hb => hb).at_ hlt
      have hrk := frm_eq hrx
      refine fldA ?_
      refine ld _ ((keyD u ku).cell rfl) ?_
      refine idx k2 rfl hlt ?_
      refine fldA ?_
      refine ld (iv r.reach) (hc 1 _ rfl) ?_
      refine cE (fun hup => ?_) (fun hup => ?_)
      · obtain ⟨f3, p3, R3, s3', u3, hA3, cc3, r3, -⟩ := row_at (i6.kept (keyK u ku) fun b _ hb => hb) (i := k2) (by omega)
        have v3a := (numB_iff.1 (tab_row hf.taken (i := k2) (by omega)).2).1
        have v3b := r3.len
        obtain ⟨a3, b3, rfl, v3⟩ := num_at r3 (k := hour) (by omega)
        subst hA3
        refine drawP (.take 0 (.take 1 (.take 2 (.take 3 (.take 4 (.take 5 (.take 6 (.take 7 (.take 8 (.take 9 (.take 10 (.take 11 (.bar (.eff 12 (.take 13 .done))))))))))))))) [12, 13] (fun y => y = u) mx (by kernel_rfl) rfl ?_
        refine ldA [iv 2, iv (i : Int)] (.blk (keyT u ku)) rfl ?_
        refine bld [iv 5, iv (k2 : Int)] (by kernel_rfl) ?_
        refine fldA ?_
        refine ld _ ((keyX u ku).cell rfl) ?_
        refine idx k2 rfl (by omega) ?_
        refine ld _ cc3 ?_
        refine idx hour rfl (by omega) ?_
        refine ld _ v3 ?_
        refine barS (fun _ => True) trivial ?_
        refine call_of (c_r23move Mu (keyL u ku) (fa _ (by rw [List.length_append, List.length_append]; omega))) ?_
        rintro _ u2 ⟨Ax, nx, cx, rfl, Mx, kx⟩
        refine strS trivial ?_
        refine arI (by have := hfa.le; omega) ?_
        refine next4 (k2 + 1) Ax nx cx ⟨by rw [Int.natCast_add]; rfl, rfl, trivial⟩ ⟨by omega, ku.trans kx, ?_⟩ (by omega)
        rw [farmL_succ, hrk, if_pos hup, ← List.append_assoc, ← cat]; exact Mx
      · refine arI (by have := hfa.le; omega) ?_
        refine next4 (k2 + 1) Ak2 nk2 ck2 ⟨by rw [Int.natCast_add]; rfl, rfl, trivial⟩ ⟨by omega, ku, ?_⟩ (by omega)
        rw [farmL_succ, hrk, if_neg hup, List.append_nil]; exact Mu
    rw [show k2 = d.farms.length by omega] at Mu
    have pk2 := pf0 (k := d.farms.length)
    obtain ⟨f7, p7, R7, s7', u7, hA7, cc7, r7, -⟩ := row_at (i7.kept (keyK u ku) fun b _ hb => hb) (i := i) (by omega)
    have v7a := (numB_iff.1 (tab_row hf.tail hi).2).1
    have v7b := r7.len
    obtain ⟨a7, b7, rfl, v7⟩ := num_at r7 (k := hour) (by omega)
    subst hA7
    refine drawP (.take 0 (.take 1 (.take 2 (.take 3 (.take 4 (.take 5 (.take 6 (.take 7 (.take 8 (.take 9 (.take 10 (.take 11 (.bar (.eff 12 (.take 13 .done))))))))))))))) [12, 13] (fun y => y = u) mx (by kernel_rfl) rfl ?_
    refine ldA [iv 2, iv (i : Int)] (.blk (keyT u ku)) rfl ?_
    refine bld [iv 6, iv (i : Int)] (by kernel_rfl) ?_
    refine fldA ?_
    refine ld _ ((keyX u ku).cell rfl) ?_
    refine idx i rfl (by omega) ?_
    refine ld _ cc7 ?_
    refine idx hour rfl (by omega) ?_
    refine ld _ v7 ?_
    refine barS (fun _ => True) trivial ?_
    refine call_of (c_r23move Mu (keyL u ku) (fa _ (by rw [List.length_append, List.length_append]; omega))) ?_
    rintro _ u2 ⟨Ax, nx, cx, rfl, Mx, kx⟩
    refine strS trivial ?_
    refine ret1 (.slice Ax nx cx) rfl ⟨Ax, nx, cx, rfl, ?_, ?_⟩
    · have := Mx.sub (D2 := D) dkD
      rw [cat] at this
      unfold endL
      exact this
    · exact (Ext.any x05).then (ku.trans kx) fun b _ hb => dkD b hb
end
end Go.Proofs.YtehcphboliofaaaGreatDoor

/- Made by gen_XBg.py. Layer 23: the reference's Moves; Few. -/
namespace Go.Proofs.YtehcphboliofaaaGreatDoor
open Go Go.RowKit

theorem hErr_most {d : Dist} {x : Run} {hour m : Int} (hm : bErr d x = 0 → m = d.hours - 1) : hErr d x hour m = hErr d x hour (d.hours - 1) := by
  by_cases h : bErr d x = 0
  · rw [hm h]
  · unfold hErr; rw [if_pos h, if_pos h]
section
variable {D : Nat → Prop} {w : World}
theorem c_r23Moves {csd csx : List Value} {d : Dist} {x : Run} {hour : Int} (hd : DiR D w csd d) (hx : RuR D w csx x) : CallZ Tryz.prog 73 #[.agg csd.toArray, .agg csx.toArray, iv hour] w
    (fun v w' => Ext w w' ∧ ∃ A n c, v = .tuple #[.slice A n c, iv (hErr d x hour (d.hours - 1))] ∧ SlR tMv (fun b => w.heap.size ≤ b) w' A n (movV d x hour) ∧ n ≤ c) := by
  have hd := hd.more (D' := fun b => b < w.heap.size) fun b hb _ => hb
  have hx := hx.more (D' := fun b => b < w.heap.size) fun b hb _ => hb
  obtain ⟨A1, n1, c1, A2, n2, c2, A3, n3, c3, A4, n4, c4, A5, n5, c5, A6, n6, c6, rfl, hr, hfa, -⟩ := hd.ex
  obtain ⟨B1, m1, e1, B2, m2, e2, B3, m3, e3, B4, m4, e4, B5, m5, e5, B6, m6, e6, B7, m7, e7, rfl, i1, i2, i3, i4, i5, i6, i7, -⟩ := hx.ex
  have ln := hr.len
  have lf := hfa.len
  have k1 := i1.len
  have k2 := i2.len
  have k3 := i3.len
  have k4 := i4.len
  have k5 := i5.len
  have k6 := i6.len
  have k7 := i7.len
  refine fn_rule (args := [.agg #[.string d.name, iv d.hours, iv d.cap, iv d.start, .slice A1 n1 c1, .slice A2 n2 c2, .slice A3 n3 c3, .slice A4 n4 c4, .slice A5 n5 c5, .slice A6 n6 c6], .agg #[.slice B1 m1 e1, .slice B2 m2 e2, .slice B3 m3 e3, .slice B4 m4 e4, .slice B5 m5 e5, .slice B6 m6 e6, .slice B7 m7 e7], iv hour]) Tryz.func73 (by kernel_rfl) ?_
  refine box (fun bd w1 h1 => ?_)
  refine box (fun bx w2 h2 => ?_)
  have x2 := h1.ext.trans h2.ext
  have Bd := h1.blk.ext h2.ext
  have Bx := h2.blk
  refine ldA _ (.blk Bd) rfl ?_
  refine ldA _ (.blk Bx) rfl ?_
  refine fldA ?_
  refine ld (iv d.hours) (Bd.cell rfl) ?_
  refine arW ?_
  obtain ⟨m, hmw⟩ : ∃ m, m = IntKind.i64.wrap (d.hours - 1) := ⟨_, rfl⟩
  rw [← hmw]
  have hmm : bErr d x = 0 → m = d.hours - 1 := fun h => by
    obtain ⟨h1, h2⟩ := (valid_bounds (bErr_ok.1 h).1.1 (bErr_ok.1 h).1.2).2
    rw [hmw, i64_wrap_id (by omega)]
  clear hmw
  refine call_of (c_r23asked (most := m) (hd.ext x2) (hx.ext x2)) ?_
  rintro _ w3 ⟨rfl, x3⟩
  rw [hErr_most hmm]
  have x23 := x2.trans x3
  refine cN (fun q1 => ?_) (fun q1 => ?_)
  · refine ret2 (.slice none 0 0) (iv (hErr d x hour (d.hours - 1))) rfl rfl ⟨x23, none, 0, 0, rfl, ?_, Nat.le_refl _⟩
    unfold movV; rw [if_neg q1]; exact .nil
  have q1' : hErr d x hour (d.hours - 1) = 0 := q1
  obtain ⟨e0, h0, hm⟩ := hErr_ok.1 q1'
  obtain ⟨hf, hR⟩ := bErr_fm e0
  obtain ⟨T, hk⟩ : ∃ k : Nat, hour = (k : Int) := ⟨hour.toNat, by omega⟩
  have hkn : hour.toNat = T := by omega
  have hmv : movV d x hour = (movesL d x T).filter nzM := by unfold movV; rw [if_pos q1', hkn]
  generalize hH : d.hours.toNat = H at hf
  have hf1 := (numB_iff.1 hf.inflow).1
  have hf2 := (numB_iff.1 hf.spill).1
  have hf3 := (tabB_iff.1 hf.inn).1
  have hf4 := (tabB_iff.1 hf.evap).1
  have hf5 := (tabB_iff.1 hf.seep).1
  have hf6 := (tabB_iff.1 hf.taken).1
  have hf7 := (tabB_iff.1 hf.tail).1
  have hHi := hf.hours
  have hH1 := hf.h1
  have hH2 := hf.h2
  have hnr := hf.nr
  have hnr' := hf.nr'
  have hnf := hf.nf
  rw [q1', hmv]
  have hTH : T < H := by omega
  refine bld [iv 1, iv 0] (by kernel_rfl) ?_
  refine alloc (fun t w4 h4 => ?_)
  refine stA (vs := [iv 1, iv 0]) h4.blk rfl (Nat.le_of_ble_eq_true rfl) (by simp [Value.oneCell']) (fun w5 tb s5 z5 => ?_)
  have y4 := h4.at_
  have s4 := h4.size
  have x35 : Ext w3 w5 := h4.ext.then s5 fun b hb _ e => by omega
  have x05 := x23.trans x35
  have Bd5 := (Bd.ext x3).ext x35
  have Bx5 := (Bx.ext x3).ext x35
  have cat : ∀ L K : List Mv, L.filter nzM ++ K.filter nzM = (L ++ K).filter nzM := fun L K => by rw [List.filter_append]
  have keyK : ∀ u, Kept (fun b => b < w5.heap.size) w5 u → Kept (fun b => b < w.heap.size) w u := fun u k => (Ext.any x05).then k fun b _ hb => by have := x05.size; omega
  have keyE : ∀ u, Kept (fun b => b < w5.heap.size) w5 u → Ext w u := fun u k => x05.then k fun b hb _ => by have := x05.size; omega
  have M5 : OM (fun b => b < w5.heap.size) w w5 none 0 0 (([] : List Mv).filter nzM) := ⟨OwnF.nil x05, fun g hg => by cases hg⟩
  have hL : ∀ u, Kept (fun b => b < w5.heap.size) w5 u → ∀ b, b < w5.heap.size → b < u.heap.size := fun u k b hb => Nat.lt_of_lt_of_le hb k.size
  have fl : ∀ l : List Mv, (l.filter nzM).length ≤ l.length := fun l => List.length_filter_le _ _
  obtain ⟨fa, fb, rfl, v1⟩ := num_at (i1.ext x05) (k := T) (by omega)
  refine drawP (.take 0 (.take 1 (.take 2 (.take 3 (.take 4 (.take 5 (.take 6 (.bar (.eff 7 (.take 8 .done)))))))))) [7, 8] (fun u => u = w5) mx (by kernel_rfl) rfl ?_
  refine bld [iv 0, iv 0] (by kernel_rfl) ?_
  refine ldA [iv 1, iv 0] (.blk tb) rfl ?_
  refine fldA ?_
  refine ld _ (Bx5.cell rfl) ?_
  refine idx T hk (by omega) ?_
  refine ld _ v1 ?_
  refine barS (fun _ => True) trivial ?_
  refine call_of (c_r23move M5 (fun b hb => hb) (by simp)) ?_
  rintro _ w6 ⟨A6', n6', c6', rfl, M6, k6⟩
  refine strS trivial ?_
  obtain ⟨ga, gb, rfl, v2⟩ := num_at (i2.kept (keyK w6 k6) fun b _ hb => hb) (k := T) (by omega)
  refine drawP (.take 0 (.take 1 (.take 2 (.take 3 (.take 4 (.take 5 (.take 6 (.take 7 (.bar (.eff 8 (.take 9 .done))))))))))) [8, 9] (fun u => u = w6) mx (by kernel_rfl) rfl ?_
  refine ldA [iv 1, iv 0] (.blk (tb.kept k6 tb.lt)) rfl ?_
  refine bld [iv 7, iv 0] (by kernel_rfl) ?_
  refine fldA ?_
  refine ld _ ((Bx5.kept k6 Bx5.lt).cell rfl) ?_
  refine idx T hk (by omega) ?_
  refine ld _ v2 ?_
  refine barS (fun _ => True) trivial ?_
  rw [cat] at M6
  refine call_of (c_r23move M6 (hL w6 k6) (Nat.le_trans (fl _) (by simp))) ?_
  rintro _ w7 ⟨A7, n7, c7, rfl, M7, k67⟩
  refine strS trivial ?_
  have k7 := k6.trans k67
  obtain ⟨f3, p3, R3, s3, u3, hA3, cc3, r3, -⟩ := row_at (i3.kept (keyK w7 k7) fun b _ hb => hb) (i := 0) (by omega)
  have v3a := (numB_iff.1 (tab_row hf.inn hnr).2).1
  have v3b := r3.len
  obtain ⟨a3, b3, rfl, v3⟩ := num_at r3 (k := T) (by omega)
  subst hA3
  refine drawP (.take 0 (.take 1 (.take 2 (.take 3 (.take 4 (.take 5 (.take 6 (.take 7 (.take 8 (.take 9 (.bar (.eff 10 (.take 11 .done))))))))))))) [10, 11] (fun u => u = w7) mx (by kernel_rfl) rfl ?_
  refine ldA [iv 1, iv 0] (.blk (tb.kept k7 tb.lt)) rfl ?_
  refine bld [iv 2, iv 0] (by kernel_rfl) ?_
  refine fldA ?_
  refine ld _ ((Bx5.kept k7 Bx5.lt).cell rfl) ?_
  refine idx 0 rfl (by omega) ?_
  refine ld _ cc3 ?_
  refine idx T hk (by omega) ?_
  refine ld _ v3 ?_
  refine barS (fun _ => True) trivial ?_
  rw [cat] at M7
  refine call_of (c_r23move M7 (hL w7 k7) (Nat.le_trans (fl _) (by simp))) ?_
  rintro _ w8 ⟨A8, n8, c8, rfl, M8, k78⟩
  refine strS trivial ?_
  have k8 := k7.trans k78
  rw [cat] at M8
  have p0 : prefL d x T 0 = headL x T := by simp [prefL]
  have M8' : OM (fun b => b < w5.heap.size) w w8 A8 n8 c8 ((prefL d x T 0).filter nzM) := by rw [p0]; exact M8
  refine loop4 (fun (k : Nat) (A : Option Addr) (n c : Nat) => [(11, iv (k : Int)), (10, .slice A n c)]) (fun k A n c u => k ≤ n1 ∧ Kept (fun b => b < w5.heap.size) w5 u ∧ OM (fun b => b < w5.heap.size) w u A n c ((prefL d x T k).filter nzM)) (fun k _ _ _ _ => n1 - k) 0 A8 n8 c8 ⟨rfl, rfl, trivial⟩ ⟨by omega, k8, M8'⟩ rfl ?_
  rintro G k Ak nk ck u ⟨hk1, ku, Mu⟩
  have Bdu := Bd5.kept ku Bd5.lt
  refine fldA ?_
  refine ld (.slice A1 n1 c1) (Bdu.cell rfl) ?_
  refine len ?_
  refine cD (fun hlt => ?_) (fun hge => ?_)
  · have hlt : k < n1 := by omega
    have hpl := prefL_len (d := d) (x := x) (hour := T) hnr' hnf k
    have xu := keyE u ku
    refine ldA _ (.blk Bdu) rfl ?_
    refine ldA _ (.blk (Bx5.kept ku Bx5.lt)) rfl ?_
    rw [hk]
    refine call_of (c_r23out (i := k) (hour := T) Mu (hL u ku) (fun b _ hb => by have := x05.size; omega) (Nat.le_trans (fl _) (by omega)) (hd.ext xu) (hx.ext xu) hf (by omega) hTH) ?_
    rintro _ u2 ⟨Ax, nx, cx, rfl, Mx, kx⟩
    refine arI (by have := hr.le; omega) ?_
    refine next4 (k + 1) Ax nx cx ⟨by rw [Int.natCast_add]; rfl, rfl, trivial⟩ ⟨by omega, ku.trans kx, ?_⟩ (by omega)
    rw [prefL_succ, ← cat]; exact Mx
  · have hkn : k = d.reaches.length := by omega
    have hml := Mu.o.own.len
    rw [mvs_len] at hml
    have hpl := prefL_len (d := d) (x := x) (hour := T) hnr' hnf k
    have hfl := fl (prefL d x T k)
    refine ret2 (.slice Ak nk ck) (iv 0) rfl rfl ⟨keyE u ku, Ak, nk, ck, rfl, ?_, Mu.o.le⟩
    have : (movesL d x T).filter nzM = (prefL d x T k).filter nzM := by unfold movesL; rw [← hkn]
    rw [this]
    exact Mu.o.own.rd flat_mvs (by omega) (by omega) Mu.o.new
end
end Go.Proofs.YtehcphboliofaaaGreatDoor

/- Layer 23: the reference's Few: it answers some truth. -/
namespace Go.Proofs.YtehcphboliofaaaGreatDoor
open Go Go.RowKit

section
variable {D : Nat → Prop} {w : World}
theorem c_r23short {l : List (List Int)} {A : Option Addr} {n c : Nat} (hs : SlR tInts D w A n l) : CallZ Tryz.prog 68 #[.slice A n c] w (fun v w' => ∃ b, v = .bool b ∧ w' = w) := by
  refine fn_rule (args := [.slice A n c]) Tryz.func68 (by kernel_rfl) ?_
  refine len ?_
  refine cD (fun g => ?_) (fun g => ?_)
  · exact ret1 (.bool false) rfl ⟨_, rfl, rfl⟩
  refine loop_rule (fun k : Nat => [(3, iv (k : Int))]) (fun k w' => k ≤ n ∧ w' = w) (fun k _ => n - k) 0 ⟨rfl, trivial⟩ ⟨by omega, rfl⟩ rfl ?_
  rintro G k w' ⟨hk, rfl⟩
  refine len ?_
  refine cD (fun hlt => ?_) (fun hge => ?_)
  · obtain ⟨b, o, cs, x, rfl, hx, hdx, -, hc, A2, n2, c2, rfl, hx2, -⟩ := hs.at_ (show k < n by omega)
    refine idx k rfl (by omega) ?_
    refine ld (.slice A2 n2 c2) (hc 0 _ rfl) ?_
    refine len ?_
    refine cD (fun g2 => ?_) (fun g2 => ?_)
    · exact ret1 (.bool false) rfl ⟨_, rfl, rfl⟩
    refine arI (by omega) ?_
    exact next (k + 1) ⟨by rw [Int.natCast_add]; rfl, trivial⟩ ⟨by omega, rfl⟩ (by omega)
  · exact ret1 (.bool true) rfl ⟨_, rfl, rfl⟩
theorem callS {f : FuncId} [h : Enters Tryz.prog f] {args : Array Value} {K : VK} {X : XK} (c : CallZ Tryz.prog f args w (fun v w' => ∃ b, v = .bool b ∧ w' = w)) (k1 : K (.bool true) w) (k2 : K (.bool false) w) : CallP Tryz.prog f args K X w := by
  refine call_of c ?_
  rintro _ _ ⟨b, rfl, rfl⟩
  cases b
  · exact k2
  · exact k1
theorem c_r23Few {csd csx : List Value} {d : Dist} {x : Run} (hd : DiR D w csd d) (hx : RuR D w csx x) : CallZ Tryz.prog 30 #[.agg csd.toArray, .agg csx.toArray] w (fun v w' => ∃ b, v = .bool b ∧ Ext w w') := by
  obtain ⟨A1, n1, c1, A2, n2, c2, A3, n3, c3, A4, n4, c4, A5, n5, c5, A6, n6, c6, rfl, hr, hfa, -⟩ := hd.ex
  obtain ⟨B1, m1, e1, B2, m2, e2, B3, m3, e3, B4, m4, e4, B5, m5, e5, B6, m6, e6, B7, m7, e7, rfl, i1, i2, i3, i4, i5, i6, i7, -⟩ := hx.ex
  refine fn_rule (args := [.agg #[.string d.name, iv d.hours, iv d.cap, iv d.start, .slice A1 n1 c1, .slice A2 n2 c2, .slice A3 n3 c3, .slice A4 n4 c4, .slice A5 n5 c5, .slice A6 n6 c6], .agg #[.slice B1 m1 e1, .slice B2 m2 e2, .slice B3 m3 e3, .slice B4 m4 e4, .slice B5 m5 e5, .slice B6 m6 e6, .slice B7 m7 e7]]) Tryz.func30 (by kernel_rfl) ?_
  refine box (fun bd w1 h1 => ?_)
  refine box (fun bx w2 h2 => ?_)
  have x2 := h1.ext.trans h2.ext
  have Bd := h1.blk.ext h2.ext
  have Bx := h2.blk
  refine ldA _ (.blk Bd) rfl ?_
  refine callE (c_r19Few (hd.ext x2)) (fun w3 _ x3 => ?_) (fun w3 _ x3 => ?_)
  rotate_left
  · exact ret1 (.bool false) rfl ⟨false, rfl, x2.trans x3⟩
  have x23 := x2.trans x3
  have Bd3 := Bd.ext x3
  have Bx3 := Bx.ext x3
  have no : ∃ b, Value.bool false = .bool b ∧ Ext w w3 := ⟨false, rfl, x23⟩
  have yes : ∃ b, Value.bool true = .bool b ∧ Ext w w3 := ⟨true, rfl, x23⟩
  all_goals
    refine fldA ?_
    refine ld (.slice A1 n1 c1) (Bd3.cell rfl) ?_
    refine len ?_
    refine cD (fun _ => ?_) (fun _ => ?_)
    refine fldA ?_
    refine ld (.slice A1 n1 c1) (Bd3.cell rfl) ?_
    refine len ?_
    refine cD (fun _ => ?_) (fun _ => ?_)
    exact ret1 (.bool false) rfl no
  all_goals
    refine fldA ?_
    refine ld (.slice A2 n2 c2) (Bd3.cell rfl) ?_
    refine len ?_
    refine cD (fun _ => ?_) (fun _ => ?_)
    refine fldA ?_
    refine ld (.slice A2 n2 c2) (Bd3.cell rfl) ?_
    refine len ?_
    refine cD (fun _ => ?_) (fun _ => ?_)
    exact ret1 (.bool false) rfl no
  all_goals
    refine fldA ?_
    refine ld (iv d.hours) (Bd3.cell rfl) ?_
    refine cD (fun _ => ?_) (fun _ => ?_)
    refine fldA ?_
    refine ld (iv d.hours) (Bd3.cell rfl) ?_
    refine cD (fun _ => ?_) (fun _ => ?_)
    exact ret1 (.bool false) rfl no
  all_goals
    refine fldA ?_
    refine ld (.slice B1 m1 e1) (Bx3.cell rfl) ?_
    refine len ?_
    refine cDr (fun _ => ?_) (fun _ => ?_)
    exact ret1 (.bool false) rfl no
    refine fldA ?_
    refine ld (.slice B2 m2 e2) (Bx3.cell rfl) ?_
    refine len ?_
    refine cDr (fun _ => ?_) (fun _ => ?_)
    exact ret1 (.bool false) rfl no
    refine fldA ?_
    refine ld (.slice B3 m3 e3) (Bx3.cell rfl) ?_
    refine callS (c_r23short (i3.ext x23)) ?_ ?_
    rotate_left
    exact ret1 (.bool false) rfl no
    refine fldA ?_
    refine ld (.slice B4 m4 e4) (Bx3.cell rfl) ?_
    refine callS (c_r23short (i4.ext x23)) ?_ ?_
    rotate_left
    exact ret1 (.bool false) rfl no
    refine fldA ?_
    refine ld (.slice B5 m5 e5) (Bx3.cell rfl) ?_
    refine callS (c_r23short (i5.ext x23)) ?_ ?_
    rotate_left
    exact ret1 (.bool false) rfl no
    refine fldA ?_
    refine ld (.slice B6 m6 e6) (Bx3.cell rfl) ?_
    refine callS (c_r23short (i6.ext x23)) ?_ ?_
    rotate_left
    exact ret1 (.bool false) rfl no
    refine fldA ?_
    refine ld (.slice B7 m7 e7) (Bx3.cell rfl) ?_
    refine callS (c_r23short (i7.ext x23)) ?_ ?_
    rotate_left
    exact ret1 (.bool false) rfl no
    exact ret1 (.bool true) rfl yes
end
end Go.Proofs.YtehcphboliofaaaGreatDoor

/- Layer 56: the reference's Of; LedgerOfSpec. -/
namespace Go.Proofs.YtehcphboliofaaaGreatDoor
open Go Go.RowKit

section
variable {D : Nat → Prop} {w : World}
theorem c_r56number {a : Int × Int} (hb : 0 ≤ a.2 ∧ a.2 ≤ 1000000) : CallZ Tryz.prog 74 #[.agg #[iv a.1, iv a.2]] w (fun v w' => v = iv (numA a) ∧ Ext w w') := by
  refine fn_rule (args := [.agg #[iv a.1, iv a.2]]) Tryz.func74 (by kernel_rfl) ?_
  refine box (fun b1 w1 h1 => ?_)
  have B1 : Blk w1 b1 74 [iv a.1, iv a.2] := h1.blk
  refine idxR 0 rfl (by omega) ?_
  refine ld (iv a.1) (B1.cell rfl) ?_
  refine cE (fun e1 => ?_) (fun e1 => ?_)
  · exact ret1 (iv 1) rfl ⟨by unfold numA firstN; simp [e1], h1.ext⟩
  refine cE (fun e7 => ?_) (fun e7 => ?_)
  · exact ret1 (iv 2) rfl ⟨by unfold numA firstN; simp [e7], h1.ext⟩
  refine cE (fun e2 => ?_) (fun e2 => ?_)
  · refine idxR 1 rfl (by omega) ?_
    refine ld (iv a.2) (B1.cell rfl) ?_
    refine arI (n := 5 * a.2) (by omega) ?_
    refine arI (n := 8 + 5 * a.2) (by omega) ?_
    exact ret1 (iv (8 + 5 * a.2)) rfl ⟨by unfold numA firstN; simp [e2], h1.ext⟩
  refine cE (fun e3 => ?_) (fun e3 => ?_)
  · refine idxR 1 rfl (by omega) ?_
    refine ld (iv a.2) (B1.cell rfl) ?_
    refine arI (n := 5 * a.2) (by omega) ?_
    refine arI (n := 9 + 5 * a.2) (by omega) ?_
    exact ret1 (iv (9 + 5 * a.2)) rfl ⟨by unfold numA firstN; simp [e3], h1.ext⟩
  refine cE (fun e4 => ?_) (fun e4 => ?_)
  · refine idxR 1 rfl (by omega) ?_
    refine ld (iv a.2) (B1.cell rfl) ?_
    refine arI (n := 5 * a.2) (by omega) ?_
    refine arI (n := 10 + 5 * a.2) (by omega) ?_
    exact ret1 (iv (10 + 5 * a.2)) rfl ⟨by unfold numA firstN; simp [e4], h1.ext⟩
  refine cE (fun e6 => ?_) (fun e6 => ?_)
  · refine idxR 1 rfl (by omega) ?_
    refine ld (iv a.2) (B1.cell rfl) ?_
    refine arI (n := 5 * a.2) (by omega) ?_
    refine arI (n := 11 + 5 * a.2) (by omega) ?_
    exact ret1 (iv (11 + 5 * a.2)) rfl ⟨by unfold numA firstN; simp [e6], h1.ext⟩
  refine cE (fun e5 => ?_) (fun e5 => ?_)
  · refine idxR 1 rfl (by omega) ?_
    refine ld (iv a.2) (B1.cell rfl) ?_
    refine arI (n := 1024 + a.2) (by omega) ?_
    exact ret1 (iv (1024 + a.2)) rfl ⟨by unfold numA firstN; simp [e5], h1.ext⟩
  · exact ret1 (iv 0) rfl ⟨by unfold numA firstN; simp [e1, e2, e3, e4, e5, e6, e7], h1.ext⟩
set_option maxRecDepth 8000 in
set_option maxHeartbeats 2000000 in
theorem c_r56Of {csd csx : List Value} {d : Dist} {x : Run} (hd : DiR D w csd d) (hx : RuR D w csx x) : CallZ Tryz.prog 32 #[.agg csd.toArray, .agg csx.toArray] w
    (fun v w' => Ext w w' ∧ ∃ A n c, v = .tuple #[.agg #[.slice A n c], iv (oflE d x)] ∧ SlR tPost (fun b => w.heap.size ≤ b) w' A n (oflV d x) ∧ n ≤ c) := by
  obtain ⟨A1, n1, c1, A2, n2, c2, A3, n3, c3, A4, n4, c4, A5, n5, c5, A6, n6, c6, rfl, hr, hfa, -⟩ := hd.ex
  obtain ⟨B1, m1, e1, B2, m2, e2, B3, m3, e3, B4, m4, e4, B5, m5, e5, B6, m6, e6, B7, m7, e7, rfl, -⟩ := hx.ex
  refine fn_rule (args := [.agg #[.string d.name, iv d.hours, iv d.cap, iv d.start, .slice A1 n1 c1, .slice A2 n2 c2, .slice A3 n3 c3, .slice A4 n4 c4, .slice A5 n5 c5, .slice A6 n6 c6], .agg #[.slice B1 m1 e1, .slice B2 m2 e2, .slice B3 m3 e3, .slice B4 m4 e4, .slice B5 m5 e5, .slice B6 m6 e6, .slice B7 m7 e7]]) Tryz.func32 (by kernel_rfl) ?_
  refine box (fun bd w1 h1 => ?_)
  refine box (fun bx w2 h2 => ?_)
  refine alloc (fun b4 w3 h3 => ?_)
  have R3 : Blk w3 b4 24 [.slice none 0 0] := h3.blk
  have Bd : Blk w3 bd 64 [.string d.name, iv d.hours, iv d.cap, iv d.start, .slice A1 n1 c1, .slice A2 n2 c2, .slice A3 n3 c3, .slice A4 n4 c4, .slice A5 n5 c5, .slice A6 n6 c6] := (h1.blk.ext h2.ext).ext h3.ext
  have Bx : Blk w3 bx 68 [.slice B1 m1 e1, .slice B2 m2 e2, .slice B3 m3 e3, .slice B4 m4 e4, .slice B5 m5 e5, .slice B6 m6 e6, .slice B7 m7 e7] := h2.blk.ext h3.ext
  have a1 := h1.at_
  have a2 := h2.at_
  have a3 := h3.at_
  have x03 := (h1.ext.trans h2.ext).trans h3.ext
  have s2 := (h1.ext.trans h2.ext).size
  refine ldA [.string d.name, iv d.hours, iv d.cap, iv d.start, .slice A1 n1 c1, .slice A2 n2 c2, .slice A3 n3 c3, .slice A4 n4 c4, .slice A5 n5 c5, .slice A6 n6 c6] (.blk Bd) rfl ?_
  refine ldA [.slice B1 m1 e1, .slice B2 m2 e2, .slice B3 m3 e3, .slice B4 m4 e4, .slice B5 m5 e5, .slice B6 m6 e6, .slice B7 m7 e7] (.blk Bx) rfl ?_
  refine call_of (c_r23Check (hd.ext x03) (hx.ext x03)) ?_
  rintro _ w4 ⟨rfl, x4⟩
  have x04 := x03.trans x4
  have R4 := R3.ext x4
  have Bd := Bd.ext x4
  have Bx := Bx.ext x4
  have s04 := x04.size
  have l4 := R4.lt
  refine cN (fun he => ?_) (fun he => ?_)
  · refine bld [.slice none 0 0] (by kernel_rfl) ?_
    refine stA (vs := [.slice none 0 0]) R4 rfl (Nat.le_of_ble_eq_true rfl) (by simp [Value.oneCell']) (fun we Be ke _ => ?_)
    have Be : Blk we b4 24 [.slice none 0 0] := Be
    refine ret ?_
    refine resL _ (holds_agg (.blk Be) rfl) ?_
    have hE : oflE d x = bErr d x := by unfold oflE; rw [if_pos he]
    exact ⟨x04.then ke fun i hi _ e => by omega, none, 0, 0, by rw [hE]; rfl, by unfold oflV; rw [hE, if_neg he]; exact .nil, Nat.le_refl _⟩
  have he : bErr d x = 0 := he
  obtain ⟨⟨ht, hv⟩, -, -⟩ := bErr_ok.1 he
  obtain ⟨⟨hR, hF⟩, hH1, hH2⟩ := valid_bounds ht hv
  have h0 : 0 < d.reaches.length := (bErr_fm he).1.nr
  obtain ⟨H, hHe⟩ : ∃ H : Nat, d.hours = (H : Int) := ⟨d.hours.toNat, by omega⟩
  have hHn : d.hours.toNat = H := by omega
  have hE : oflE d x = if 4096 < (oflL d x H).length then 2 else 0 := by unfold oflE; rw [if_neg (fun q => q he), hHn]
  have ldd := Bd.lt
  have ldx := Bx.lt
  refine fldA ?_
  refine fldA ?_
  refine ld (iv d.start) (Bd.cell rfl) ?_
  refine cD (fun hpos => ?_) (fun hneg => ?_)
  · refine fldA ?_
    refine fldA ?_
    refine ld (iv d.start) (Bd.cell rfl) ?_
    obtain ⟨q, hq⟩ : ∃ q : Post, q = ⟨0, 0, 1, 0, 1, d.start⟩ := ⟨_, rfl⟩
    refine bld [iv 0, iv 0, iv 1, iv 0, iv 1, iv d.start] (by kernel_rfl) ?_
    refine lit [.agg #[iv 0, iv 0, iv 1, iv 0, iv 1, iv d.start]] (fun g w5 h5 => ?_)
    have hB5 : Blk w5 g 26 q.c := by rw [hq]; exact h5.blk
    refine appF (OwnF.nil (w0 := w4) h5.ext) (srcP6 hB5) (by omega) (fun A0 c0 w6 own0 k6 hA => ?_)
    have own0 : OwnF w4 w6 A0 (0 + 1) c0 26 6 ((oflL d x 0).flatMap Post.c) := by
      have e : oflL d x 0 = [⟨0, 0, 1, 0, 1, d.start⟩] := by show oflS d = _; unfold oflS; rw [if_pos hpos]
      rw [e]
      rw [hq] at own0
      exact own0
    refine loop4 (fun (k : Nat) (A : Option Addr) (m c : Nat) => [(7, .slice A m c), (8, iv (k : Int))]) (fun k A m c u => k ≤ H ∧ OwnF w4 u A m c 26 6 ((oflL d x k).flatMap Post.c)) (fun k _ _ _ _ => H - k) 0 A0 (0 + 1) c0 ⟨rfl, rfl, trivial⟩ ⟨Nat.zero_le _, own0⟩ rfl ?_
    rintro G k Ak mk ck u ⟨hk, ownu⟩
    have ownu : OwnF w4 u Ak mk ck 26 6 ((oflL d x k).flatMap Post.c) := ownu
    have x4u := ownu.ext
    have s4u := x4u.size
    have hmk : mk = (oflL d x k).length := by have := ownu.own.len; rw [posts_len] at this; omega
    have hml := oflL_len (x := x) hR hF k
    refine fldA ?_
    refine ld (iv d.hours) ((Bd.ext x4u).cell rfl) ?_
    refine cD (fun hlt => ?_) (fun hge => ?_)
    · have hml' : mk ≤ 200000000 := by omega
      refine ldA [.string d.name, iv d.hours, iv d.cap, iv d.start, .slice A1 n1 c1, .slice A2 n2 c2, .slice A3 n3 c3, .slice A4 n4 c4, .slice A5 n5 c5, .slice A6 n6 c6] (.blk (Bd.ext x4u)) rfl ?_
      refine ldA [.slice B1 m1 e1, .slice B2 m2 e2, .slice B3 m3 e3, .slice B4 m4 e4, .slice B5 m5 e5, .slice B6 m6 e6, .slice B7 m7 e7] (.blk (Bx.ext x4u)) rfl ?_
      refine call_of (c_r23Moves (hour := (k : Int)) (hd.ext (x04.trans x4u)) (hx.ext (x04.trans x4u))) ?_
      rintro _ u1 ⟨x1, Am, nm, cm, rfl, sm, hcm⟩
      have hnm := sm.len
      have hmv := mov_len (x := x) (hour := (k : Int)) hR hF
      have su1 := x1.size
      have sl1 : ∀ g, Ak = some (ad g 0) → g < u.heap.size := fun g hg => by
        rcases ownu.form with ⟨e, -⟩ | ⟨j', e, -, hl', -⟩
        · rw [e] at hg; cases hg
        · rw [e] at hg; injection hg with hg; injection hg with hg; omega
      refine loop4 (fun (j : Nat) (A : Option Addr) (m c : Nat) => [(7, .slice A m c), (11, iv (j : Int))]) (fun j A m c v => j ≤ nm ∧ Kept (fun i => u.heap.size ≤ i ∧ i < u1.heap.size) u1 v ∧ OwnF w4 v A m c 26 6 ((((movV d x (k : Int)).take j).foldl (addM k) (oflL d x k)).flatMap Post.c) ∧ ∀ g, A = some (ad g 0) → g < u.heap.size ∨ u1.heap.size ≤ g) (fun j _ _ _ _ => nm - j) 0 Ak mk ck ⟨rfl, rfl, trivial⟩ ⟨by omega, .refl _ _, ownu.then x1, fun g hg => .inl (sl1 g hg)⟩ rfl ?_
      rintro G2 j Aj mj cj v ⟨hj, kv, ownv, hAj⟩
      have ownv : OwnF w4 v Aj mj cj 26 6 ((((movV d x (k : Int)).take j).foldl (addM k) (oflL d x k)).flatMap Post.c) := ownv
      have sv := kv.size
      have hfl := foldM_len k ((movV d x (k : Int)).take j) (oflL d x k)
      rw [List.length_take, show min j (movV d x (k : Int)).length = j by omega] at hfl
      have hmj : mj = (oflL d x k).length + j := by
        have := ownv.own.len
        rw [posts_len, hfl] at this
        omega
      rw [← hmj] at hfl
      refine len ?_
      refine cD (fun hlt2 => ?_) (fun hge2 => ?_)
      · obtain ⟨bx', o, cs, m, rfl, hm, hX7, hX8, hc, hcs⟩ := ((sm.more (D' := fun i => u.heap.size ≤ i ∧ i < u1.heap.size) (by decide) fun b hb h => ⟨h, hb⟩).kept kv fun i _ h => h).at_ (k := j) (by omega)
        have hcs : cs = m.c := hcs
        subst hcs
        obtain ⟨hK1, hK2⟩ := mov_inK h0 m (List.mem_of_getElem? hm)
        have hb1 := inK_b hK1 hR hF
        have hb2 := inK_b hK2 hR hF
        have nb : Aj ≠ some (ad bx' 0) := fun e => by have := hAj bx' e; omega
        refine drawP (.take 0 (.take 1 (.take 2 (.take 3 (.take 4 (.take 5 (.take 6 (.take 7 (.take 8 (.take 10 (.take 11 (.take 12 (.take 13 (.take 14 (.take 16 (.take 17 (.take 18 (.take 19 (.take 20 (.eff 9 (.eff 15 (.take 21 (.eff 22 (.eff 23 (.take 24 .done))))))))))))))))))))))))) [] (fun y => Kept (fun b => Aj ≠ some (ad b 0)) v y) mx (by kernel_rfl) (.refl _ _) ?_
        refine len ?_
        refine idx j rfl (by omega) ?_
        refine fldA ?_
        refine ldAK [iv m.frm.1, iv m.frm.2] (hc.mid 0 2) rfl nb (.refl _ _) ?_
        refine idx j rfl (by omega) ?_
        refine fldA ?_
        refine ldAK [iv m.to.1, iv m.to.2] (hc.mid 2 2) rfl nb (.refl _ _) ?_
        refine idx j rfl (by omega) ?_
        refine fldA ?_
        refine ldK (iv m.litres) (hc 4 _ rfl) nb (.refl _ _) ?_
        refine call_of (c_r56number (a := m.frm) (by omega)) ?_
        rintro _ v1 ⟨rfl, xv1⟩
        refine strS (Ext.any xv1) ?_
        refine call_of (c_r56number (a := m.to) (by omega)) ?_
        rintro _ v2 ⟨rfl, xv2⟩
        have xv02 := xv1.trans xv2
        refine strS (Ext.any xv02) ?_
        obtain ⟨q, hq⟩ : ∃ q : Post, q = ⟨(mj : Int), (k : Int), 1, numA m.frm, numA m.to, m.litres⟩ := ⟨_, rfl⟩
        refine bld [iv (mj : Int), iv (k : Int), iv 1, iv (numA m.frm), iv (numA m.to), iv m.litres] (by kernel_rfl) ?_
        refine lit [.agg #[iv (mj : Int), iv (k : Int), iv 1, iv (numA m.frm), iv (numA m.to), iv m.litres]] (fun g v3 h3' => ?_)
        have xv03 := xv02.trans h3'.ext
        refine strS (Ext.any xv03) ?_
        have hB3 : Blk v3 g 26 q.c := by rw [hq]; exact h3'.blk
        refine appF (ownv.then xv03) (srcP6 hB3) (by omega) (fun A' c' v4 own4 k4 hA => ?_)
        refine strS ((Ext.any xv03).trans k4) ?_
        refine arI (n := (j : Int) + 1) (by omega) ?_
        refine next4 (j + 1) A' (mj + 1) c' ⟨rfl, by rw [Int.natCast_add]; rfl, trivial⟩ ⟨by omega, (kv.ext xv03).trans (k4.weak fun i _ hi e => by have := hAj i e; omega), ?_, fun g hg => ?_⟩ (by omega)
        · have htk : (movV d x (k : Int)).take (j + 1) = (movV d x (k : Int)).take j ++ [m] := by rw [List.take_add_one, hm]; rfl
          rw [htk, foldM_snoc]
          obtain ⟨L, hL⟩ : ∃ L, L = ((movV d x (k : Int)).take j).foldl (addM k) (oflL d x k) := ⟨_, rfl⟩
          rw [← hL] at own4 hfl ⊢
          show OwnF _ _ _ _ _ _ _ ((L ++ [(⟨(L.length : Int), (k : Int), 1, numA m.frm, numA m.to, m.litres⟩ : Post)]).flatMap Post.c)
          rw [hfl, ← hq, List.flatMap_append]
          simpa using own4
        · rcases hA with e | e | e
          · exact hAj g (e ▸ hg)
          · rw [e] at hg; cases hg
          · rw [e] at hg; injection hg with hg; injection hg with hg; exact .inr (by have := xv03.size; omega)
      · refine arI (n := (k : Int) + 1) (by omega) ?_
        refine next4 (k + 1) Aj mj cj ⟨rfl, by rw [Int.natCast_add]; rfl, trivial⟩ ⟨by omega, ?_⟩ (by omega)
        rw [oflL_succ]
        rw [List.take_of_length_le (by omega)] at ownv
        exact ownv
    · obtain rfl : k = H := by omega
      have R4u := R4.ext x4u
      refine len ?_
      refine cD (fun hbig => ?_) (fun hbig => ?_)
      · refine bld [.slice none 0 0] (by kernel_rfl) ?_
        refine stA (vs := [.slice none 0 0]) R4u rfl (Nat.le_of_ble_eq_true rfl) (by simp [Value.oneCell']) (fun we Be ke _ => ?_)
        have Be : Blk we b4 24 [.slice none 0 0] := Be
        refine ret ?_
        refine resL _ (holds_agg (.blk Be) rfl) ?_
        rw [if_pos (by omega)] at hE
        exact ⟨(x04.trans x4u).then ke fun i hi _ e => by omega, none, 0, 0, by rw [hE]; rfl, by unfold oflV; rw [hE, if_neg (by decide)]; exact .nil, Nat.le_refl _⟩
      · refine bld [.slice Ak mk ck] (by kernel_rfl) ?_
        refine stA (vs := [.slice Ak mk ck]) R4u rfl (Nat.le_of_ble_eq_true rfl) (by simp [Value.oneCell']) (fun we Be ke _ => ?_)
        have Be : Blk we b4 24 [.slice Ak mk ck] := Be
        refine ret ?_
        refine resL _ (holds_agg (.blk Be) rfl) ?_
        rw [if_neg (by omega)] at hE
        have n4 : Ak ≠ some (ad b4 0) := own_tyL ownu R4u (by decide)
        have ownw := ownu.base x04
        have owne := ownw.thenK ke (fun g hg e => n4 (by rw [hg, e])) (ownw.ext.then ke fun i hi _ e => by omega)
        refine ⟨(x04.trans x4u).then ke fun i hi _ e => by omega, Ak, mk, ck, by rw [hE]; rfl, ?_, owne.le⟩
        unfold oflV
        rw [hE, if_pos rfl, hHn]
        exact own_posts owne (by omega) fun b hb => hb
  · have own0 : OwnF w4 w4 none 0 0 26 6 ((oflL d x 0).flatMap Post.c) := by
      have e : oflL d x 0 = [] := by show oflS d = _; unfold oflS; rw [if_neg (by omega)]
      rw [e]
      exact OwnF.nil (.refl _ _)
    refine loop4 (fun (k : Nat) (A : Option Addr) (m c : Nat) => [(7, .slice A m c), (8, iv (k : Int))]) (fun k A m c u => k ≤ H ∧ OwnF w4 u A m c 26 6 ((oflL d x k).flatMap Post.c)) (fun k _ _ _ _ => H - k) 0 none 0 0 ⟨rfl, rfl, trivial⟩ ⟨Nat.zero_le _, own0⟩ rfl ?_
    rintro G k Ak mk ck u ⟨hk, ownu⟩
    have ownu : OwnF w4 u Ak mk ck 26 6 ((oflL d x k).flatMap Post.c) := ownu
    have x4u := ownu.ext
    have s4u := x4u.size
    have hmk : mk = (oflL d x k).length := by have := ownu.own.len; rw [posts_len] at this; omega
    have hml := oflL_len (x := x) hR hF k
    refine fldA ?_
    refine ld (iv d.hours) ((Bd.ext x4u).cell rfl) ?_
    refine cD (fun hlt => ?_) (fun hge => ?_)
    · have hml' : mk ≤ 200000000 := by omega
      refine ldA [.string d.name, iv d.hours, iv d.cap, iv d.start, .slice A1 n1 c1, .slice A2 n2 c2, .slice A3 n3 c3, .slice A4 n4 c4, .slice A5 n5 c5, .slice A6 n6 c6] (.blk (Bd.ext x4u)) rfl ?_
      refine ldA [.slice B1 m1 e1, .slice B2 m2 e2, .slice B3 m3 e3, .slice B4 m4 e4, .slice B5 m5 e5, .slice B6 m6 e6, .slice B7 m7 e7] (.blk (Bx.ext x4u)) rfl ?_
      refine call_of (c_r23Moves (hour := (k : Int)) (hd.ext (x04.trans x4u)) (hx.ext (x04.trans x4u))) ?_
      rintro _ u1 ⟨x1, Am, nm, cm, rfl, sm, hcm⟩
      have hnm := sm.len
      have hmv := mov_len (x := x) (hour := (k : Int)) hR hF
      have su1 := x1.size
      have sl1 : ∀ g, Ak = some (ad g 0) → g < u.heap.size := fun g hg => by
        rcases ownu.form with ⟨e, -⟩ | ⟨j', e, -, hl', -⟩
        · rw [e] at hg; cases hg
        · rw [e] at hg; injection hg with hg; injection hg with hg; omega
      refine loop4 (fun (j : Nat) (A : Option Addr) (m c : Nat) => [(7, .slice A m c), (11, iv (j : Int))]) (fun j A m c v => j ≤ nm ∧ Kept (fun i => u.heap.size ≤ i ∧ i < u1.heap.size) u1 v ∧ OwnF w4 v A m c 26 6 ((((movV d x (k : Int)).take j).foldl (addM k) (oflL d x k)).flatMap Post.c) ∧ ∀ g, A = some (ad g 0) → g < u.heap.size ∨ u1.heap.size ≤ g) (fun j _ _ _ _ => nm - j) 0 Ak mk ck ⟨rfl, rfl, trivial⟩ ⟨by omega, .refl _ _, ownu.then x1, fun g hg => .inl (sl1 g hg)⟩ rfl ?_
      rintro G2 j Aj mj cj v ⟨hj, kv, ownv, hAj⟩
      have ownv : OwnF w4 v Aj mj cj 26 6 ((((movV d x (k : Int)).take j).foldl (addM k) (oflL d x k)).flatMap Post.c) := ownv
      have sv := kv.size
      have hfl := foldM_len k ((movV d x (k : Int)).take j) (oflL d x k)
      rw [List.length_take, show min j (movV d x (k : Int)).length = j by omega] at hfl
      have hmj : mj = (oflL d x k).length + j := by
        have := ownv.own.len
        rw [posts_len, hfl] at this
        omega
      rw [← hmj] at hfl
      refine len ?_
      refine cD (fun hlt2 => ?_) (fun hge2 => ?_)
      · obtain ⟨bx', o, cs, m, rfl, hm, hX7, hX8, hc, hcs⟩ := ((sm.more (D' := fun i => u.heap.size ≤ i ∧ i < u1.heap.size) (by decide) fun b hb h => ⟨h, hb⟩).kept kv fun i _ h => h).at_ (k := j) (by omega)
        have hcs : cs = m.c := hcs
        subst hcs
        obtain ⟨hK1, hK2⟩ := mov_inK h0 m (List.mem_of_getElem? hm)
        have hb1 := inK_b hK1 hR hF
        have hb2 := inK_b hK2 hR hF
        have nb : Aj ≠ some (ad bx' 0) := fun e => by have := hAj bx' e; omega
        refine drawP (.take 0 (.take 1 (.take 2 (.take 3 (.take 4 (.take 5 (.take 6 (.take 7 (.take 8 (.take 10 (.take 11 (.take 12 (.take 13 (.take 14 (.take 16 (.take 17 (.take 18 (.take 19 (.take 20 (.eff 9 (.eff 15 (.take 21 (.eff 22 (.eff 23 (.take 24 .done))))))))))))))))))))))))) [] (fun y => Kept (fun b => Aj ≠ some (ad b 0)) v y) mx (by kernel_rfl) (.refl _ _) ?_
        refine len ?_
        refine idx j rfl (by omega) ?_
        refine fldA ?_
        refine ldAK [iv m.frm.1, iv m.frm.2] (hc.mid 0 2) rfl nb (.refl _ _) ?_
        refine idx j rfl (by omega) ?_
        refine fldA ?_
        refine ldAK [iv m.to.1, iv m.to.2] (hc.mid 2 2) rfl nb (.refl _ _) ?_
        refine idx j rfl (by omega) ?_
        refine fldA ?_
        refine ldK (iv m.litres) (hc 4 _ rfl) nb (.refl _ _) ?_
        refine call_of (c_r56number (a := m.frm) (by omega)) ?_
        rintro _ v1 ⟨rfl, xv1⟩
        refine strS (Ext.any xv1) ?_
        refine call_of (c_r56number (a := m.to) (by omega)) ?_
        rintro _ v2 ⟨rfl, xv2⟩
        have xv02 := xv1.trans xv2
        refine strS (Ext.any xv02) ?_
        obtain ⟨q, hq⟩ : ∃ q : Post, q = ⟨(mj : Int), (k : Int), 1, numA m.frm, numA m.to, m.litres⟩ := ⟨_, rfl⟩
        refine bld [iv (mj : Int), iv (k : Int), iv 1, iv (numA m.frm), iv (numA m.to), iv m.litres] (by kernel_rfl) ?_
        refine lit [.agg #[iv (mj : Int), iv (k : Int), iv 1, iv (numA m.frm), iv (numA m.to), iv m.litres]] (fun g v3 h3' => ?_)
        have xv03 := xv02.trans h3'.ext
        refine strS (Ext.any xv03) ?_
        have hB3 : Blk v3 g 26 q.c := by rw [hq]; exact h3'.blk
        refine appF (ownv.then xv03) (srcP6 hB3) (by omega) (fun A' c' v4 own4 k4 hA => ?_)
        refine strS ((Ext.any xv03).trans k4) ?_
        refine arI (n := (j : Int) + 1) (by omega) ?_
        refine next4 (j + 1) A' (mj + 1) c' ⟨rfl, by rw [Int.natCast_add]; rfl, trivial⟩ ⟨by omega, (kv.ext xv03).trans (k4.weak fun i _ hi e => by have := hAj i e; omega), ?_, fun g hg => ?_⟩ (by omega)
        · have htk : (movV d x (k : Int)).take (j + 1) = (movV d x (k : Int)).take j ++ [m] := by rw [List.take_add_one, hm]; rfl
          rw [htk, foldM_snoc]
          obtain ⟨L, hL⟩ : ∃ L, L = ((movV d x (k : Int)).take j).foldl (addM k) (oflL d x k) := ⟨_, rfl⟩
          rw [← hL] at own4 hfl ⊢
          show OwnF _ _ _ _ _ _ _ ((L ++ [(⟨(L.length : Int), (k : Int), 1, numA m.frm, numA m.to, m.litres⟩ : Post)]).flatMap Post.c)
          rw [hfl, ← hq, List.flatMap_append]
          simpa using own4
        · rcases hA with e | e | e
          · exact hAj g (e ▸ hg)
          · rw [e] at hg; cases hg
          · rw [e] at hg; injection hg with hg; injection hg with hg; exact .inr (by have := xv03.size; omega)
      · refine arI (n := (k : Int) + 1) (by omega) ?_
        refine next4 (k + 1) Aj mj cj ⟨rfl, by rw [Int.natCast_add]; rfl, trivial⟩ ⟨by omega, ?_⟩ (by omega)
        rw [oflL_succ]
        rw [List.take_of_length_le (by omega)] at ownv
        exact ownv
    · obtain rfl : k = H := by omega
      have R4u := R4.ext x4u
      refine len ?_
      refine cD (fun hbig => ?_) (fun hbig => ?_)
      · refine bld [.slice none 0 0] (by kernel_rfl) ?_
        refine stA (vs := [.slice none 0 0]) R4u rfl (Nat.le_of_ble_eq_true rfl) (by simp [Value.oneCell']) (fun we Be ke _ => ?_)
        have Be : Blk we b4 24 [.slice none 0 0] := Be
        refine ret ?_
        refine resL _ (holds_agg (.blk Be) rfl) ?_
        rw [if_pos (by omega)] at hE
        exact ⟨(x04.trans x4u).then ke fun i hi _ e => by omega, none, 0, 0, by rw [hE]; rfl, by unfold oflV; rw [hE, if_neg (by decide)]; exact .nil, Nat.le_refl _⟩
      · refine bld [.slice Ak mk ck] (by kernel_rfl) ?_
        refine stA (vs := [.slice Ak mk ck]) R4u rfl (Nat.le_of_ble_eq_true rfl) (by simp [Value.oneCell']) (fun we Be ke _ => ?_)
        have Be : Blk we b4 24 [.slice Ak mk ck] := Be
        refine ret ?_
        refine resL _ (holds_agg (.blk Be) rfl) ?_
        rw [if_neg (by omega)] at hE
        have n4 : Ak ≠ some (ad b4 0) := own_tyL ownu R4u (by decide)
        have ownw := ownu.base x04
        have owne := ownw.thenK ke (fun g hg e => n4 (by rw [hg, e])) (ownw.ext.then ke fun i hi _ e => by omega)
        refine ⟨(x04.trans x4u).then ke fun i hi _ e => by omega, Ak, mk, ck, by rw [hE]; rfl, ?_, owne.le⟩
        unfold oflV
        rw [hE, if_pos rfl, hHn]
        exact own_posts owne (by omega) fun b hb => hb
end
end Go.Proofs.YtehcphboliofaaaGreatDoor

/- Law 56: LedgerOfSpec. -/
namespace Go.Proofs.YtehcphboliofaaaGreatDoor
open Go Go.RowKit Classical

section
variable {D : Nat → Prop} {w : World}
set_option maxRecDepth 8000 in
set_option maxHeartbeats 2000000 in
theorem c_LedgerOfSpec {csd csx : List Value} {d : Dist} {x : Run} (hN : NumW w) (hd : DiR D w csd d) (hx : RuR D w csx x) : CallZ Tryz.prog 5 #[.agg csd.toArray, .agg csx.toArray] w (fun v w' => v = .bool true ∧ Ext w w') := by
  obtain ⟨A1, n1, c1, A2, n2, c2, A3, n3, c3, A4, n4, c4, A5, n5, c5, A6, n6, c6, rfl, -⟩ := hd.ex
  obtain ⟨B1, m1, e1, B2, m2, e2, B3, m3, e3, B4, m4, e4, B5, m5, e5, B6, m6, e6, B7, m7, e7, rfl, -⟩ := hx.ex
  refine fn_rule (args := [.agg #[.string d.name, iv d.hours, iv d.cap, iv d.start, .slice A1 n1 c1, .slice A2 n2 c2, .slice A3 n3 c3, .slice A4 n4 c4, .slice A5 n5 c5, .slice A6 n6 c6], .agg #[.slice B1 m1 e1, .slice B2 m2 e2, .slice B3 m3 e3, .slice B4 m4 e4, .slice B5 m5 e5, .slice B6 m6 e6, .slice B7 m7 e7]]) Tryz.func5 (by kernel_rfl) ?_
  refine box (fun bd w1 h1 => ?_)
  refine box (fun bx w2 h2 => ?_)
  have Bd : Blk w2 bd 64 [.string d.name, iv d.hours, iv d.cap, iv d.start, .slice A1 n1 c1, .slice A2 n2 c2, .slice A3 n3 c3, .slice A4 n4 c4, .slice A5 n5 c5, .slice A6 n6 c6] := h1.blk.ext h2.ext
  have Bx : Blk w2 bx 68 [.slice B1 m1 e1, .slice B2 m2 e2, .slice B3 m3 e3, .slice B4 m4 e4, .slice B5 m5 e5, .slice B6 m6 e6, .slice B7 m7 e7] := h2.blk
  have x2 := h1.ext.trans h2.ext
  refine call_of (c_lsane (hN.ext x2)) ?_
  rintro _ w3 ⟨rfl, x3⟩
  have x0 := x2.trans x3
  have Bd := Bd.ext x3
  have Bx := Bx.ext x3
  refine ldA [.string d.name, iv d.hours, iv d.cap, iv d.start, .slice A1 n1 c1, .slice A2 n2 c2, .slice A3 n3 c3, .slice A4 n4 c4, .slice A5 n5 c5, .slice A6 n6 c6] (.blk Bd) rfl ?_
  refine ldA [.slice B1 m1 e1, .slice B2 m2 e2, .slice B3 m3 e3, .slice B4 m4 e4, .slice B5 m5 e5, .slice B6 m6 e6, .slice B7 m7 e7] (.blk Bx) rfl ?_
  refine call_of (c_r23Few (hd.ext x0) (hx.ext x0)) ?_
  rintro _ w4 ⟨b, rfl, x4⟩
  have x0 := x0.trans x4
  have Bd := Bd.ext x4
  have Bx := Bx.ext x4
  cases b with
  | false => exact ret1 (.bool true) rfl ⟨rfl, x0⟩
  | true =>
  refine ldA [.string d.name, iv d.hours, iv d.cap, iv d.start, .slice A1 n1 c1, .slice A2 n2 c2, .slice A3 n3 c3, .slice A4 n4 c4, .slice A5 n5 c5, .slice A6 n6 c6] (.blk Bd) rfl ?_
  refine ldA [.slice B1 m1 e1, .slice B2 m2 e2, .slice B3 m3 e3, .slice B4 m4 e4, .slice B5 m5 e5, .slice B6 m6 e6, .slice B7 m7 e7] (.blk Bx) rfl ?_
  refine call_of (c_lOf (hd.ext x0) (hx.ext x0)) ?_
  rintro _ w5 ⟨x5, E1, q1, f1, rfl, s1, -⟩
  refine alloc (fun b5 wa ha => ?_)
  refine stA (vs := [.slice E1 q1 f1]) ha.blk rfl (Nat.le_of_ble_eq_true rfl) (by simp [Value.oneCell']) (fun w6 L5 k5 _ => ?_)
  have L5 : Blk w6 b5 24 [.slice E1 q1 f1] := L5
  have at5 := ha.at_
  have x56 : Ext w5 w6 := ha.ext.then k5 fun i hi _ e => by omega
  have x46 := x5.trans x56
  have x0 := x0.trans x46
  have Bd := Bd.ext x46
  have Bx := Bx.ext x46
  have s1 := (s1.more (D' := fun _ => True) (by decide) fun _ _ _ => trivial).ext x56
  refine ldA [.string d.name, iv d.hours, iv d.cap, iv d.start, .slice A1 n1 c1, .slice A2 n2 c2, .slice A3 n3 c3, .slice A4 n4 c4, .slice A5 n5 c5, .slice A6 n6 c6] (.blk Bd) rfl ?_
  refine ldA [.slice B1 m1 e1, .slice B2 m2 e2, .slice B3 m3 e3, .slice B4 m4 e4, .slice B5 m5 e5, .slice B6 m6 e6, .slice B7 m7 e7] (.blk Bx) rfl ?_
  refine call_of (c_r56Of (hd.ext x0) (hx.ext x0)) ?_
  rintro _ w7 ⟨x7, E2, q2, f2, rfl, s2, -⟩
  refine alloc (fun b7 wb hb => ?_)
  refine stA (vs := [.slice E2 q2 f2]) hb.blk rfl (Nat.le_of_ble_eq_true rfl) (by simp [Value.oneCell']) (fun w8 L7 k7 _ => ?_)
  have L7 : Blk w8 b7 24 [.slice E2 q2 f2] := L7
  have at7 := hb.at_
  have x78 : Ext w7 w8 := hb.ext.then k7 fun i hi _ e => by omega
  have x68 := x7.trans x78
  have L5 := L5.ext x68
  have s1 := s1.ext x68
  have s2 := (s2.more (D' := fun _ => True) (by decide) fun _ _ _ => trivial).ext x78
  refine ldA [.slice E1 q1 f1] (.blk L5) rfl ?_
  refine ldA [.slice E2 q2 f2] (.blk L7) rfl ?_
  refine call_of (c_r56Same s1 s2) ?_
  rintro _ w9 ⟨rfl, x9⟩
  rw [decide_eq_true rfl]
  refine cE (fun _ => ?_) (fun h => absurd rfl h)
  exact ret1 (.bool true) rfl ⟨rfl, (x0.trans x68).trans x9⟩
end
end Go.Proofs.YtehcphboliofaaaGreatDoor

/- Closing: what a run that is handed in reads as. -/
namespace Go.Proofs.YtehcphboliofaaaGreatDoor
open Go Go.RowKit Go.ChangeShapes Go.WideShapes Go.ChangeAt

theorem rd_ints : Rd Tryz.prog 65 (tSl tInt) := inferInstance
theorem rd_ll : Rd Tryz.prog 66 (tSl (tSl tInt)) := inferInstance
theorem rd_run : Rd Tryz.prog 68 tRun := by
  refine Rd.of (fun y : List Int × List Int × List (List Int) × List (List Int) × List (List Int) × List (List Int) × List (List Int) => (⟨y.1, y.2.1, y.2.2.1, y.2.2.2.1, y.2.2.2.2.1, y.2.2.2.2.2.1, y.2.2.2.2.2.2⟩ : Run))
    (Rd.struct Tryz.underlying68 (by kernel_rfl) fun n => .cons (rd_ints.h n) rfl (.cons (rd_ints.h n) rfl (.cons (rd_ll.h n) rfl (.cons (rd_ll.h n) rfl (.cons (rd_ll.h n) rfl (.cons (rd_ll.h n) rfl (.one (rd_ll.h n) rfl))))))) ?_
  rintro W cs ⟨l1, l2, l3, l4, l5, l6, l7⟩ ⟨_, _, rfl, ⟨A1, n1, c1, rfl, h1, g1⟩, _, _, rfl, ⟨A2, n2, c2, rfl, h2, g2⟩, _, _, rfl, ⟨A3, n3, c3, rfl, h3, -⟩, _, _, rfl, ⟨A4, n4, c4, rfl, h4, -⟩, _, _, rfl, ⟨A5, n5, c5, rfl, h5, -⟩, _, _, rfl, ⟨A6, n6, c6, rfl, h6, -⟩, A7, n7, c7, rfl, h7, -⟩
  exact RuR.of_ ⟨A1, n1, c1, A2, n2, c2, A3, n3, c3, A4, n4, c4, A5, n5, c5, A6, n6, c6, A7, n7, c7, rfl, h1, h2, h3, h4, h5, h6, h7, g1, g2⟩
end Go.Proofs.YtehcphboliofaaaGreatDoor
