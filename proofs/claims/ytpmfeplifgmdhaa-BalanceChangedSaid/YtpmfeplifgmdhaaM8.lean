/- Parts of the proof: Bc Bd Be Bf Bg Bh Bi Bj. -/
import Derived.Test.YtpmfeplifgmdhaaM7

/- Made by gen_XBc.py. Layer 23: the reference, second part. -/
namespace Go.Proofs.Ytpmfeplifgmdhaa
open Go Go.RowKit

section
variable {D : Nat → Prop} {w : World}
theorem c_r23formed {csd csx : List Value} {d : Dist} {x : Run} (hd : DiR D w csd d) (hx : RuR D w csx x) : CallZ Try.prog 50 #[.agg csd.toArray, .agg csx.toArray] w (fun v w' => v = .bool (formB d x) ∧ Ext w w') := by
  obtain ⟨A1, n1, c1, A2, n2, c2, A3, n3, c3, A4, n4, c4, A5, n5, c5, A6, n6, c6, rfl, hr, hfa, -⟩ := hd.ex
  obtain ⟨B1, m1, e1, B2, m2, e2, B3, m3, e3, B4, m4, e4, B5, m5, e5, B6, m6, e6, B7, m7, e7, rfl, i1, i2, i3, i4, i5, i6, i7, -⟩ := hx.ex
  have ln := hr.len
  have lf := hfa.len
  have k1 := i1.len
  have k2 := i2.len
  have k3 := i3.len
  have k4 := i4.len
  have k5 := i5.len
  have k6 := i6.len
  have k7 := i7.len
  refine fn_rule (args := [.agg #[.string d.name, iv d.hours, iv d.cap, iv d.start, .slice A1 n1 c1, .slice A2 n2 c2, .slice A3 n3 c3, .slice A4 n4 c4, .slice A5 n5 c5, .slice A6 n6 c6], .agg #[.slice B1 m1 e1, .slice B2 m2 e2, .slice B3 m3 e3, .slice B4 m4 e4, .slice B5 m5 e5, .slice B6 m6 e6, .slice B7 m7 e7]]) Try.func50 (by kernel_rfl) ?_
  refine box (fun bd w1 h1 => ?_)
  refine box (fun bx w2 h2 => ?_)
  have x2 := h1.ext.trans h2.ext
  have Bd := h1.blk.ext h2.ext
  have Bx := h2.blk
  have iff := formB_iff (d := d) (x := x)
  have bad : ¬ (formB d x = true) → Value.bool false = .bool (formB d x) ∧ Ext w w2 := fun h => ⟨by rw [Bool.eq_false_iff.2 h], x2⟩
  refine fldA ?_
  refine ld (.slice A1 n1 c1) (Bd.cell rfl) ?_
  refine len ?_
  refine fldA ?_
  refine ld (.slice B1 m1 e1) (Bx.cell rfl) ?_
  refine fldA ?_
  refine ld (iv d.hours) (Bd.cell rfl) ?_
  refine callB (c_r23numbers (i1.ext x2)) (fun q1 => ?_) (fun q1 => ?_)
  rotate_left
  · exact ret1 (.bool false) rfl (bad fun h => by have := (iff.1 h).1; rw [this] at q1; exact Bool.noConfusion q1)
  refine fldA ?_
  refine ld (.slice B2 m2 e2) (Bx.cell rfl) ?_
  refine fldA ?_
  refine ld (iv d.hours) (Bd.cell rfl) ?_
  refine callB (c_r23numbers (i2.ext x2)) (fun q2 => ?_) (fun q2 => ?_)
  rotate_left
  · exact ret1 (.bool false) rfl (bad fun h => by have := (iff.1 h).2.1; rw [this] at q2; exact Bool.noConfusion q2)
  refine fldA ?_
  refine ld (.slice B6 m6 e6) (Bx.cell rfl) ?_
  refine fldA ?_
  refine ld (.slice A2 n2 c2) (Bd.cell rfl) ?_
  refine len ?_
  refine fldA ?_
  refine ld (iv d.hours) (Bd.cell rfl) ?_
  refine callB (c_r23tables (i6.ext x2)) (fun q6 => ?_) (fun q6 => ?_)
  rotate_left
  · exact ret1 (.bool false) rfl (bad fun h => by have := (iff.1 h).2.2.1; rw [lf] at this; rw [this] at q6; exact Bool.noConfusion q6)
  refine fldA ?_
  refine ld (.slice B3 m3 e3) (Bx.cell rfl) ?_
  refine fldA ?_
  refine ld (iv d.hours) (Bd.cell rfl) ?_
  refine callB (c_r23tables (i3.ext x2)) (fun q3 => ?_) (fun q3 => ?_)
  rotate_left
  · exact ret1 (.bool false) rfl (bad fun h => by have := (iff.1 h).2.2.2.1; rw [ln] at this; rw [this] at q3; exact Bool.noConfusion q3)
  refine fldA ?_
  refine ld (.slice B4 m4 e4) (Bx.cell rfl) ?_
  refine fldA ?_
  refine ld (iv d.hours) (Bd.cell rfl) ?_
  refine callB (c_r23tables (i4.ext x2)) (fun q4 => ?_) (fun q4 => ?_)
  rotate_left
  · exact ret1 (.bool false) rfl (bad fun h => by have := (iff.1 h).2.2.2.2.1; rw [ln] at this; rw [this] at q4; exact Bool.noConfusion q4)
  refine fldA ?_
  refine ld (.slice B5 m5 e5) (Bx.cell rfl) ?_
  refine fldA ?_
  refine ld (iv d.hours) (Bd.cell rfl) ?_
  refine callB (c_r23tables (i5.ext x2)) (fun q5 => ?_) (fun q5 => ?_)
  rotate_left
  · exact ret1 (.bool false) rfl (bad fun h => by have := (iff.1 h).2.2.2.2.2.1; rw [ln] at this; rw [this] at q5; exact Bool.noConfusion q5)
  refine fldA ?_
  refine ld (.slice B7 m7 e7) (Bx.cell rfl) ?_
  refine fldA ?_
  refine ld (iv d.hours) (Bd.cell rfl) ?_
  refine callB (c_r23tables (i7.ext x2)) (fun q7 => ?_) (fun q7 => ?_)
  rotate_left
  · exact ret1 (.bool false) rfl (bad fun h => by have := (iff.1 h).2.2.2.2.2.2; rw [ln] at this; rw [this] at q7; exact Bool.noConfusion q7)
  exact ret1 (.bool true) rfl ⟨by rw [iff.2 ⟨q1, q2, by rw [lf]; exact q6, by rw [ln]; exact q3, by rw [ln]; exact q4, by rw [ln]; exact q5, by rw [ln]; exact q7⟩], x2⟩
theorem c_r23entered {csd : List Value} {d : Dist} {x : Run} {i hour H : Nat} (hd : DiR D w csd d) (hf : Fm d x H) (hi : i < d.reaches.length) (hh : hour ≤ 4096) : CallZ Try.prog 56 #[.agg csd.toArray, iv (i : Int), iv (hour : Int)] w (fun v w' => v = iv (ent d i hour) ∧ Ext w w') := by
  obtain ⟨A1, n1, c1, A2, n2, c2, A3, n3, c3, A4, n4, c4, A5, n5, c5, A6, n6, c6, rfl, hr, hfa, -⟩ := hd.ex
  have ln := hr.len
  refine fn_rule (args := [.agg #[.string d.name, iv d.hours, iv d.cap, iv d.start, .slice A1 n1 c1, .slice A2 n2 c2, .slice A3 n3 c3, .slice A4 n4 c4, .slice A5 n5 c5, .slice A6 n6 c6], iv (i : Int), iv (hour : Int)]) Try.func56 (by kernel_rfl) ?_
  refine box (fun bd w1 h1 => ?_)
  have Bd := h1.blk
  obtain ⟨b, o, cs, r, rfl, hrx, -, -, hc, rfl⟩ := (hr.ext h1.ext).at_ (show i < n1 by omega)
  obtain ⟨-, -, d1, d2⟩ := hf.at_ hrx
  refine fldA ?_
  refine ld _ (Bd.cell rfl) ?_
  refine idx i rfl (by omega) ?_
  refine fldA ?_
  refine ld (iv r.delay) (hc 2 _ rfl) ?_
  refine arI (by omega) ?_
  exact ret1 (iv ((hour : Int) - r.delay)) rfl ⟨by rw [ent_eq hrx], h1.ext⟩
def arrN (d : Dist) (x : Run) (i hour : Nat) : Int := (parc d x hour i).1 - (parc d x hour i).2.1 - (parc d x hour i).2.2
theorem c_r23Arrival {csd csx : List Value} {d : Dist} {x : Run} {i hour H : Nat} (hd : DiR D w csd d) (hx : RuR D w csx x) (hf : Fm d x H) (hi : i < d.reaches.length) (hh : hour < H) : CallZ Try.prog 52 #[.agg csd.toArray, .agg csx.toArray, iv (i : Int), iv (hour : Int)] w (fun v w' => v = iv (arrN d x i hour) ∧ Ext w w') := by
  obtain ⟨A1, n1, c1, A2, n2, c2, A3, n3, c3, A4, n4, c4, A5, n5, c5, A6, n6, c6, rfl, hr, hfa, -⟩ := hd.ex
  obtain ⟨B1, m1, e1, B2, m2, e2, B3, m3, e3, B4, m4, e4, B5, m5, e5, B6, m6, e6, B7, m7, e7, rfl, i1, i2, i3, i4, i5, i6, i7, -⟩ := hx.ex
  have ln := hr.len
  have lf := hfa.len
  have k1 := i1.len
  have k2 := i2.len
  have k3 := i3.len
  have k4 := i4.len
  have k5 := i5.len
  have k6 := i6.len
  have k7 := i7.len
  have hf1 := (numB_iff.1 hf.inflow).1
  have hf2 := (numB_iff.1 hf.spill).1
  have hf3 := (tabB_iff.1 hf.inn).1
  have hf4 := (tabB_iff.1 hf.evap).1
  have hf5 := (tabB_iff.1 hf.seep).1
  have hf6 := (tabB_iff.1 hf.taken).1
  have hf7 := (tabB_iff.1 hf.tail).1
  have hHi := hf.hours
  have hH1 := hf.h1
  have hH2 := hf.h2
  have hnr := hf.nr
  have hnr' := hf.nr'
  have hnf := hf.nf
  refine fn_rule (args := [.agg #[.string d.name, iv d.hours, iv d.cap, iv d.start, .slice A1 n1 c1, .slice A2 n2 c2, .slice A3 n3 c3, .slice A4 n4 c4, .slice A5 n5 c5, .slice A6 n6 c6], .agg #[.slice B1 m1 e1, .slice B2 m2 e2, .slice B3 m3 e3, .slice B4 m4 e4, .slice B5 m5 e5, .slice B6 m6 e6, .slice B7 m7 e7], iv (i : Int), iv (hour : Int)]) Try.func52 (by kernel_rfl) ?_
  refine box (fun bd w1 h1 => ?_)
  refine box (fun bx w2 h2 => ?_)
  have x2 := h1.ext.trans h2.ext
  have Bd := h1.blk.ext h2.ext
  have Bx := h2.blk
  refine ldA _ (.blk Bd) rfl ?_
  refine call_of (c_r23entered (hd.ext x2) hf hi (by omega)) ?_
  rintro _ w3 ⟨rfl, x3⟩
  have x23 := x2.trans x3
  obtain ⟨el, eh⟩ := hf.ent_lt hi hh
  refine cD (fun q1 => ?_) (fun q1 => ?_)
  · exact ret1 (iv 0) rfl ⟨by unfold arrN parc; rw [if_neg (by omega)]; rfl, x23⟩
  obtain ⟨t, ht⟩ : ∃ t : Nat, ent d i hour = (t : Int) := ⟨(ent d i hour).toNat, by omega⟩
  have hp : parc d x hour i = (g2 x.inn i t, g2 x.evap i t, g2 x.seep i t) := by unfold parc; rw [ht, if_pos (by omega), Int.toNat_natCast]
  have htH : t < H := by omega
  obtain ⟨f3, p3, R3, s3, u3, rfl, cc3, r3, -⟩ := row_at (i3.ext x23) (i := i) (by omega)
  obtain ⟨f4, p4, R4, s4, u4, rfl, cc4, r4, -⟩ := row_at (i4.ext x23) (i := i) (by omega)
  obtain ⟨f5, p5, R5, s5, u5, rfl, cc5, r5, -⟩ := row_at (i5.ext x23) (i := i) (by omega)
  have y3 := (numB_iff.1 (tab_row hf.inn hi).2).1
  have y4 := (numB_iff.1 (tab_row hf.evap hi).2).1
  have y5 := (numB_iff.1 (tab_row hf.seep hi).2).1
  have z3 := r3.len
  have z4 := r4.len
  have z5 := r5.len
  obtain ⟨a3, b3, rfl, v3⟩ := num_at r3 (k := t) (by omega)
  obtain ⟨a4, b4, rfl, v4⟩ := num_at r4 (k := t) (by omega)
  obtain ⟨a5, b5, rfl, v5⟩ := num_at r5 (k := t) (by omega)
  have l3 := tab_val hf.inn hi htH
  have l4 := tab_val hf.evap hi htH
  have l5 := tab_val hf.seep hi htH
  refine drawQ mx (by kernel_rfl) ?_
  refine fldA ?_
  refine ld _ ((Bx.ext x3).cell rfl) ?_
  refine idx i rfl (by omega) ?_
  refine ld _ cc3 ?_
  refine idx t ht (by omega) ?_
  refine ld _ v3 ?_
  refine fldA ?_
  refine ld _ ((Bx.ext x3).cell rfl) ?_
  refine idx i rfl (by omega) ?_
  refine ld _ cc4 ?_
  refine idx t ht (by omega) ?_
  refine ld _ v4 ?_
  refine arE (g2 x.inn i t - g2 x.evap i t) rfl (by omega) ?_
  refine fldA ?_
  refine ld _ ((Bx.ext x3).cell rfl) ?_
  refine idx i rfl (by omega) ?_
  refine ld _ cc5 ?_
  refine idx t ht (by omega) ?_
  refine ld _ v5 ?_
  refine arE (g2 x.inn i t - g2 x.evap i t - g2 x.seep i t) rfl (by omega) ?_
  exact ret1 (iv (g2 x.inn i t - g2 x.evap i t - g2 x.seep i t)) rfl ⟨by unfold arrN; rw [hp], x23⟩
theorem c_r23left {csd csx : List Value} {d : Dist} {x : Run} {i hour H : Nat} (hd : DiR D w csd d) (hx : RuR D w csx x) (hf : Fm d x H) (hi : i < d.reaches.length) (hh : hour < H) : CallZ Try.prog 53 #[.agg csd.toArray, .agg csx.toArray, iv (i : Int), iv (hour : Int)] w (fun v w' => v = iv (leftN d x i hour) ∧ Ext w w') := by
  obtain ⟨A1, n1, c1, A2, n2, c2, A3, n3, c3, A4, n4, c4, A5, n5, c5, A6, n6, c6, rfl, hr, hfa, -⟩ := hd.ex
  obtain ⟨B1, m1, e1, B2, m2, e2, B3, m3, e3, B4, m4, e4, B5, m5, e5, B6, m6, e6, B7, m7, e7, rfl, i1, i2, i3, i4, i5, i6, i7, -⟩ := hx.ex
  have ln := hr.len
  have lf := hfa.len
  have k1 := i1.len
  have k2 := i2.len
  have k3 := i3.len
  have k4 := i4.len
  have k5 := i5.len
  have k6 := i6.len
  have k7 := i7.len
  have hf1 := (numB_iff.1 hf.inflow).1
  have hf2 := (numB_iff.1 hf.spill).1
  have hf3 := (tabB_iff.1 hf.inn).1
  have hf4 := (tabB_iff.1 hf.evap).1
  have hf5 := (tabB_iff.1 hf.seep).1
  have hf6 := (tabB_iff.1 hf.taken).1
  have hf7 := (tabB_iff.1 hf.tail).1
  have hHi := hf.hours
  have hH1 := hf.h1
  have hH2 := hf.h2
  have hnr := hf.nr
  have hnr' := hf.nr'
  have hnf := hf.nf
  refine fn_rule (args := [.agg #[.string d.name, iv d.hours, iv d.cap, iv d.start, .slice A1 n1 c1, .slice A2 n2 c2, .slice A3 n3 c3, .slice A4 n4 c4, .slice A5 n5 c5, .slice A6 n6 c6], .agg #[.slice B1 m1 e1, .slice B2 m2 e2, .slice B3 m3 e3, .slice B4 m4 e4, .slice B5 m5 e5, .slice B6 m6 e6, .slice B7 m7 e7], iv (i : Int), iv (hour : Int)]) Try.func53 (by kernel_rfl) ?_
  refine box (fun bd w1 h1 => ?_)
  refine box (fun bx w2 h2 => ?_)
  have x2 := h1.ext.trans h2.ext
  have Bd := h1.blk.ext h2.ext
  have Bx := h2.blk
  obtain ⟨f3, p3, R3, s3, u3, rfl, cc3, r3, -⟩ := row_at (i7.ext x2) (i := i) (by omega)
  have y3 := (numB_iff.1 (tab_row hf.tail hi).2).1
  have z3 := r3.len
  obtain ⟨a3, b3, rfl, v3⟩ := num_at r3 (k := hour) (by omega)
  have l3 := tab_val hf.tail hi hh
  refine fldA ?_
  refine ld _ (Bx.cell rfl) ?_
  refine idx i rfl (by omega) ?_
  refine ld _ cc3 ?_
  refine idx hour rfl (by omega) ?_
  refine ld _ v3 ?_
  refine loop2 (fun (k : Nat) (s : Int) => [(10, iv (k : Int)), (9, iv s)]) (fun k s w' => k ≤ n1 ∧ w2 = w' ∧ s = g2 x.tail i hour + sumL (childL d x hour i k)) (fun k _ _ => n1 - k) 0 (g2 x.tail i hour) ⟨rfl, rfl, trivial⟩ ⟨by omega, rfl, by rw [show childL d x hour i 0 = [] from rfl]; simp [sumL]⟩ rfl ?_
  rintro G k s _ ⟨hk, rfl, hs⟩
  refine fldA ?_
  refine ld (.slice A1 n1 c1) (Bd.cell rfl) ?_
  refine len ?_
  have b1 := sumL_le (hf.okChild (i := i) hh (k := k) (by omega))
  have b2 := childL_len (d := d) (x := x) (hour := hour) (i := i) (k := k)
  refine cD (fun hlt => ?_) (fun hge => ?_)
  · have hlt : k < n1 := by omega
    obtain ⟨b, o, cs, r, rfl, hrx, -, -, hc, rfl⟩ := (hr.ext x2).at_ hlt
    have hrk := rch_eq hrx
    refine fldA ?_
    refine ld _ (Bd.cell rfl) ?_
    refine idx k rfl hlt ?_
    refine fldA ?_
    refine ld (iv r.up) (hc 1 _ rfl) ?_
    refine cE (fun hup => ?_) (fun hup => ?_)
    · obtain ⟨f4, p4, R4, s4, u4, rfl, cc4, r4, -⟩ := row_at (i3.ext x2) (i := k) (by omega)
      have y4 := (numB_iff.1 (tab_row hf.inn (i := k) (by omega)).2).1
      have z4 := r4.len
      obtain ⟨a4, b4, rfl, v4⟩ := num_at r4 (k := hour) (by omega)
      have l4 := tab_val hf.inn (i := k) (by omega) hh
      refine fldA ?_
      refine ld _ (Bx.cell rfl) ?_
      refine idx k rfl (by omega) ?_
      refine ld _ cc4 ?_
      refine idx hour rfl (by omega) ?_
      refine ld _ v4 ?_
      refine arE (s + g2 x.inn k hour) rfl (by omega) ?_
      refine arI (by omega) ?_
      refine next2 (k + 1) (s + g2 x.inn k hour) ⟨by rw [Int.natCast_add]; rfl, rfl, trivial⟩ ⟨by omega, rfl, ?_⟩ (by omega)
      rw [childL_succ, hrk, if_pos hup, sumL_app, hs]; simp [sumL]; omega
    · refine arI (by omega) ?_
      refine next2 (k + 1) s ⟨by rw [Int.natCast_add]; rfl, rfl, trivial⟩ ⟨by omega, rfl, ?_⟩ (by omega)
      rw [childL_succ, hrk, if_neg hup, List.append_nil]; exact hs
  have hs0 : s = g2 x.tail i hour + sumL (childL d x hour i d.reaches.length) := by rw [hs, show k = d.reaches.length by omega]
  have b3 := sumL_le (hf.okChild (i := i) hh (Nat.le_refl _))
  have b4 := childL_len (d := d) (x := x) (hour := hour) (i := i) (k := d.reaches.length)
  refine loop2 (fun (k : Nat) (s' : Int) => [(11, iv (k : Int)), (9, iv s')]) (fun k s' w' => k ≤ n2 ∧ w2 = w' ∧ s' = s + sumL (farmL d x hour i k)) (fun k _ _ => n2 - k) 0 s ⟨rfl, rfl, trivial⟩ ⟨by omega, rfl, by rw [show farmL d x hour i 0 = [] from rfl]; simp [sumL]⟩ rfl ?_
  rintro G2 k' s' _ ⟨hk', rfl, hs'⟩
  refine fldA ?_
  refine ld (.slice A2 n2 c2) (Bd.cell rfl) ?_
  refine len ?_
  have b5 := sumL_le (hf.okFarm (i := i) hh (k := k') (by omega))
  have b6 := farmL_len (d := d) (x := x) (hour := hour) (i := i) (k := k')
  refine cD (fun hlt => ?_) (fun hge2 => ?_)
  · have hlt : k' < n2 := by omega
    obtain ⟨b, o, cs, r, rfl, hrx, -, -, hc, rfl⟩ := (hfa.ext x2).at_ hlt
    have hrk := frm_eq hrx
    refine fldA ?_
    refine ld _ (Bd.cell rfl) ?_
    refine idx k' rfl hlt ?_
    refine fldA ?_
    refine ld (iv r.reach) (hc 1 _ rfl) ?_
    refine cE (fun hup => ?_) (fun hup => ?_)
    · obtain ⟨f4, p4, R4, s4, u4, rfl, cc4, r4, -⟩ := row_at (i6.ext x2) (i := k') (by omega)
      have y4 := (numB_iff.1 (tab_row hf.taken (i := k') (by omega)).2).1
      have z4 := r4.len
      obtain ⟨a4, b4', rfl, v4⟩ := num_at r4 (k := hour) (by omega)
      have l4 := tab_val hf.taken (i := k') (by omega) hh
      refine fldA ?_
      refine ld _ (Bx.cell rfl) ?_
      refine idx k' rfl (by omega) ?_
      refine ld _ cc4 ?_
      refine idx hour rfl (by omega) ?_
      refine ld _ v4 ?_
      refine arE (s' + g2 x.taken k' hour) rfl (by omega) ?_
      refine arI (by omega) ?_
      refine next2 (k' + 1) (s' + g2 x.taken k' hour) ⟨by rw [Int.natCast_add]; rfl, rfl, trivial⟩ ⟨by omega, rfl, ?_⟩ (by omega)
      rw [farmL_succ, hrk, if_pos hup, sumL_app, hs']; simp [sumL]; omega
    · refine arI (by omega) ?_
      refine next2 (k' + 1) s' ⟨by rw [Int.natCast_add]; rfl, rfl, trivial⟩ ⟨by omega, rfl, ?_⟩ (by omega)
      rw [farmL_succ, hrk, if_neg hup, List.append_nil]; exact hs'
  refine ret1 (iv s') rfl ⟨?_, x2⟩
  have : leftN d x i hour = s' := by unfold leftN; rw [hs', hs0, show k' = d.farms.length by omega]; omega
  rw [this]
theorem c_r23stored {csd csx : List Value} {d : Dist} {x : Run} {hour H : Nat} (hd : DiR D w csd d) (hx : RuR D w csx x) (hf : Fm d x H) (hh : hour ≤ H) (hs0 : 0 ≤ d.start ∧ d.start ≤ 1099511627776) : CallZ Try.prog 29 #[.agg csd.toArray, .agg csx.toArray, iv (hour : Int)] w (fun v w' => v = iv (storeN d x hour) ∧ Ext w w') := by
  obtain ⟨A1, n1, c1, A2, n2, c2, A3, n3, c3, A4, n4, c4, A5, n5, c5, A6, n6, c6, rfl, hr, hfa, -⟩ := hd.ex
  obtain ⟨B1, m1, e1, B2, m2, e2, B3, m3, e3, B4, m4, e4, B5, m5, e5, B6, m6, e6, B7, m7, e7, rfl, i1, i2, i3, i4, i5, i6, i7, -⟩ := hx.ex
  have ln := hr.len
  have lf := hfa.len
  have k1 := i1.len
  have k2 := i2.len
  have k3 := i3.len
  have k4 := i4.len
  have k5 := i5.len
  have k6 := i6.len
  have k7 := i7.len
  have hf1 := (numB_iff.1 hf.inflow).1
  have hf2 := (numB_iff.1 hf.spill).1
  have hf3 := (tabB_iff.1 hf.inn).1
  have hf4 := (tabB_iff.1 hf.evap).1
  have hf5 := (tabB_iff.1 hf.seep).1
  have hf6 := (tabB_iff.1 hf.taken).1
  have hf7 := (tabB_iff.1 hf.tail).1
  have hHi := hf.hours
  have hH1 := hf.h1
  have hH2 := hf.h2
  have hnr := hf.nr
  have hnr' := hf.nr'
  have hnf := hf.nf
  refine fn_rule (args := [.agg #[.string d.name, iv d.hours, iv d.cap, iv d.start, .slice A1 n1 c1, .slice A2 n2 c2, .slice A3 n3 c3, .slice A4 n4 c4, .slice A5 n5 c5, .slice A6 n6 c6], .agg #[.slice B1 m1 e1, .slice B2 m2 e2, .slice B3 m3 e3, .slice B4 m4 e4, .slice B5 m5 e5, .slice B6 m6 e6, .slice B7 m7 e7], iv (hour : Int)]) Try.func29 (by kernel_rfl) ?_
  refine box (fun bd w1 h1 => ?_)
  refine box (fun bx w2 h2 => ?_)
  have x2 := h1.ext.trans h2.ext
  have Bd := h1.blk.ext h2.ext
  have Bx := h2.blk
  refine fldA ?_
  refine fldA ?_
  refine ld (iv d.start) (Bd.cell rfl) ?_
  refine loop2 (fun (k : Nat) (s : Int) => [(8, iv (k : Int)), (7, iv s)]) (fun k s w' => k ≤ hour ∧ w2 = w' ∧ s = storeN d x k ∧ -(k * 2147483648) ≤ s ∧ s ≤ 1099511627776 + k * 1073741824) (fun k _ _ => hour - k) 0 d.start ⟨rfl, rfl, trivial⟩ ⟨by omega, rfl, rfl, by omega, by omega⟩ rfl ?_
  rintro G k s _ ⟨hk, rfl, hs, hb1, hb2⟩
  refine cD (fun hlt => ?_) (fun hge => ?_)
  · have hkH : k < H := by omega
    obtain ⟨fa, fb, rfl, v1⟩ := num_at (i1.ext x2) (k := k) (by omega)
    obtain ⟨ga, gb, rfl, v2⟩ := num_at (i2.ext x2) (k := k) (by omega)
    obtain ⟨f3, p3, R3, s3, u3, rfl, cc3, r3, -⟩ := row_at (i3.ext x2) (i := 0) (by omega)
    have y3 := (numB_iff.1 (tab_row hf.inn hnr).2).1
    have z3 := r3.len
    obtain ⟨ya, yb, rfl, v3⟩ := num_at r3 (k := k) (by omega)
    have b1 := (num_val hf.inflow hkH).2
    have b2 := (num_val hf.spill hkH).2
    have b3 := tab_val hf.inn hnr hkH
    refine drawQ mx (by kernel_rfl) ?_
    refine fldA ?_
    refine ld _ (Bx.cell rfl) ?_
    refine idx k rfl (by omega) ?_
    refine ld _ v1 ?_
    refine arE (s + g1 x.inflow k) rfl (by omega) ?_
    refine fldA ?_
    refine ld _ (Bx.cell rfl) ?_
    refine idx k rfl (by omega) ?_
    refine ld _ v2 ?_
    refine arE (s + g1 x.inflow k - g1 x.spill k) rfl (by omega) ?_
    refine fldA ?_
    refine ld _ (Bx.cell rfl) ?_
    refine idx 0 rfl (by omega) ?_
    refine ld _ cc3 ?_
    refine idx k rfl (by omega) ?_
    refine ld _ v3 ?_
    refine arE (s + g1 x.inflow k - g1 x.spill k - g2 x.inn 0 k) rfl (by omega) ?_
    refine arI (by omega) ?_
    exact next2 (k + 1) (s + g1 x.inflow k - g1 x.spill k - g2 x.inn 0 k) ⟨by rw [Int.natCast_add]; rfl, rfl, trivial⟩ ⟨by omega, rfl, by rw [hs]; rfl, by omega, by omega⟩ (by omega)
  · exact ret1 (iv s) rfl ⟨by rw [hs, show k = hour by omega], x2⟩
end
end Go.Proofs.Ytpmfeplifgmdhaa

/- Made by gen_XBd.py. Layer 23: the reference, third part. -/
namespace Go.Proofs.Ytpmfeplifgmdhaa
open Go Go.RowKit

section
variable {D : Nat → Prop} {w : World}
set_option maxRecDepth 4000 in
theorem c_r23Right {csd csx : List Value} {d : Dist} {x : Run} (hd : DiR D w csd d) (hx : RuR D w csx x) (hv : validB d = true) (ht : tooMany d = false) : CallZ Try.prog 33 #[.agg csd.toArray, .agg csx.toArray] w (fun v w' => v = .bool (rightB d x) ∧ Ext w w') := by
  obtain ⟨A1, n1, c1, A2, n2, c2, A3, n3, c3, A4, n4, c4, A5, n5, c5, A6, n6, c6, rfl, hr, hfa, -⟩ := hd.ex
  obtain ⟨B1, m1, e1, B2, m2, e2, B3, m3, e3, B4, m4, e4, B5, m5, e5, B6, m6, e6, B7, m7, e7, rfl, i1, i2, i3, i4, i5, i6, i7, -⟩ := hx.ex
  have ln := hr.len
  have lf := hfa.len
  have k1 := i1.len
  have k2 := i2.len
  have k3 := i3.len
  have k4 := i4.len
  have k5 := i5.len
  have k6 := i6.len
  have k7 := i7.len
  refine fn_rule (args := [.agg #[.string d.name, iv d.hours, iv d.cap, iv d.start, .slice A1 n1 c1, .slice A2 n2 c2, .slice A3 n3 c3, .slice A4 n4 c4, .slice A5 n5 c5, .slice A6 n6 c6], .agg #[.slice B1 m1 e1, .slice B2 m2 e2, .slice B3 m3 e3, .slice B4 m4 e4, .slice B5 m5 e5, .slice B6 m6 e6, .slice B7 m7 e7]]) Try.func33 (by kernel_rfl) ?_
  refine box (fun bd w1 h1 => ?_)
  refine box (fun bx w2 h2 => ?_)
  have x2 := h1.ext.trans h2.ext
  have Bd := h1.blk.ext h2.ext
  have Bx := h2.blk
  refine ldA _ (.blk Bd) rfl ?_
  refine ldA _ (.blk Bx) rfl ?_
  refine callE (c_r23formed (hd.ext x2) (hx.ext x2)) (fun w3 hF x3 => ?_) (fun w3 hF x3 => ?_)
  rotate_left
  · exact ret1 (.bool false) rfl ⟨by unfold rightB; rw [hF]; rfl, x2.trans x3⟩
  have x23 := x2.trans x3
  have Bd3 := Bd.ext x3
  have Bx3 := Bx.ext x3
  have hf := Fm.of hv ht hF
  have hcap := headOk_iff.1 (validB_iff.1 hv).1
  generalize hH : d.hours.toNat = H at hf
  have hf1 := (numB_iff.1 hf.inflow).1
  have hf2 := (numB_iff.1 hf.spill).1
  have hf3 := (tabB_iff.1 hf.inn).1
  have hf4 := (tabB_iff.1 hf.evap).1
  have hf5 := (tabB_iff.1 hf.seep).1
  have hf6 := (tabB_iff.1 hf.taken).1
  have hf7 := (tabB_iff.1 hf.tail).1
  have hHi := hf.hours
  have hH1 := hf.h1
  have hH2 := hf.h2
  have hnr := hf.nr
  have hnr' := hf.nr'
  have hnf := hf.nf
  have riff : rightB d x = true ↔ RightP d x H := by rw [rightB_iff, hH]; exact ⟨fun h => h.2, fun h => ⟨hF, h⟩⟩
  have bad : ∀ {u}, Ext w3 u → ¬ RightP d x H → Value.bool false = .bool (rightB d x) ∧ Ext w u := fun xu h => ⟨by rw [Bool.eq_false_iff.2 fun e => h (riff.1 e)], x23.trans xu⟩
  -- the losses
  refine loop_rule (fun i : Nat => [(5, iv (i : Int))]) (fun i u => i ≤ n1 ∧ Ext w3 u ∧ ∀ i' k, i' < i → k < H → admB (rch d i') (g2 x.inn i' k) (g2 x.evap i' k) (g2 x.seep i' k) = true) (fun i _ => n1 - i) 0 ⟨rfl, trivial⟩ ⟨by omega, .refl _ _, fun i' k h => absurd h (Nat.not_lt_zero _)⟩ rfl ?_
  rintro G i u ⟨hi, xu, hadm⟩
  refine fldA ?_
  refine ld (.slice A1 n1 c1) ((Bd3.ext xu).cell rfl) ?_
  refine len ?_
  refine cD (fun hlt => ?_) (fun hge => ?_)
  · have hin : i < d.reaches.length := by omega
    refine loop_rule (fun k : Nat => [(6, iv (k : Int))]) (fun k u' => k ≤ H ∧ Ext w3 u' ∧ ∀ k', k' < k → admB (rch d i) (g2 x.inn i k') (g2 x.evap i k') (g2 x.seep i k') = true) (fun k _ => H - k) 0 ⟨rfl, trivial⟩ ⟨by omega, xu, fun k h => absurd h (Nat.not_lt_zero _)⟩ rfl ?_
    rintro G2 k u' ⟨hk, xu', hadm'⟩
    refine fldA ?_
    refine ld (iv d.hours) ((Bd3.ext xu').cell rfl) ?_
    rw [hHi]
    refine cD (fun hlt2 => ?_) (fun hge2 => ?_)
    · have hkH : k < H := by omega
      have xw := x23.trans xu'
      obtain ⟨b, o, cs, r, rfl, hrx, -, -, hc, rfl⟩ := (hr.ext xw).at_ (show i < n1 by omega)
      have hrr := rch_eq hrx
      obtain ⟨-, hlo, -, -⟩ := hf.at_ hrx
      obtain ⟨f3, p3, R3, s3, u3, rfl, cc3, r3, -⟩ := row_at (i3.ext xw) (i := i) (by omega)
      obtain ⟨f4, p4, R4, s4, u4, rfl, cc4, r4, -⟩ := row_at (i4.ext xw) (i := i) (by omega)
      obtain ⟨f5, p5, R5, s5, u5, rfl, cc5, r5, -⟩ := row_at (i5.ext xw) (i := i) (by omega)
      have y3 := (numB_iff.1 (tab_row hf.inn hin).2).1
      have y4 := (numB_iff.1 (tab_row hf.evap hin).2).1
      have y5 := (numB_iff.1 (tab_row hf.seep hin).2).1
      have z3 := r3.len
      have z4 := r4.len
      have z5 := r5.len
      obtain ⟨a3, b3, rfl, v3⟩ := num_at r3 (k := k) (by omega)
      obtain ⟨a4, b4, rfl, v4⟩ := num_at r4 (k := k) (by omega)
      obtain ⟨a5, b5, rfl, v5⟩ := num_at r5 (k := k) (by omega)
      refine drawX [0, 1, 2, 3, 4, 5, 6, 7, 8, 9, 10, 11, 12, 13, 14, 15, 16, 17, 18, 19, 20, 21, 22, 23, 24, 25, 26, 27, 28, 29, 30] [29] mx (by kernel_rfl) ?_
      refine fldA ?_
      refine ldX _ ((Bd3.ext xu').cell rfl) (.refl _ _) ?_
      refine idx i rfl (by omega) ?_
      refine ldAX r.c hc rfl (.refl _ _) ?_
      refine fldA ?_
      refine ldX _ ((Bx3.ext xu').cell rfl) (.refl _ _) ?_
      refine idx i rfl (by omega) ?_
      refine ldX _ cc3 (.refl _ _) ?_
      refine idx k rfl (by omega) ?_
      refine ldX _ v3 (.refl _ _) ?_
      refine fldA ?_
      refine ldX _ ((Bx3.ext xu').cell rfl) (.refl _ _) ?_
      refine idx i rfl (by omega) ?_
      refine ldX _ cc4 (.refl _ _) ?_
      refine idx k rfl (by omega) ?_
      refine ldX _ v4 (.refl _ _) ?_
      refine fldA ?_
      refine ldX _ ((Bx3.ext xu').cell rfl) (.refl _ _) ?_
      refine idx i rfl (by omega) ?_
      refine ldX _ cc5 (.refl _ _) ?_
      refine idx k rfl (by omega) ?_
      refine ldX _ v5 (.refl _ _) ?_
      refine callE (c_r23Adm (r := r) (v := g2 x.inn i k) (e := g2 x.evap i k) (s := g2 x.seep i k) hlo (tab_val hf.inn hin hkH) (tab_val hf.evap hin hkH) (tab_val hf.seep hin hkH)) (fun v9 ha x9 => ?_) (fun v9 ha x9 => ?_)
      · refine strS x9 ?_
        refine arI (by omega) ?_
        refine next (k + 1) ⟨by rw [Int.natCast_add]; rfl, trivial⟩ ⟨by omega, xu'.trans x9, fun k' hk' => ?_⟩ (by omega)
        by_cases e : k' = k
        · subst e; rw [hrr]; exact ha
        · exact hadm' k' (by omega)
      · refine strS x9 ?_
        exact ret1 (.bool false) rfl (bad (xu'.trans x9) fun h => by have := h.adm i k hin hkH; rw [hrr, ha] at this; exact Bool.noConfusion this)
    · refine arI (by omega) ?_
      refine next (i + 1) ⟨by rw [Int.natCast_add]; rfl, trivial⟩ ⟨by omega, xu', fun i' k' hi' hk' => ?_⟩ (by omega)
      by_cases e : i' = i
      · subst e; exact hadm' k' (by omega)
      · exact hadm i' k' (by omega) hk'
  have hadmA : ∀ i k, i < d.reaches.length → k < H → admB (rch d i) (g2 x.inn i k) (g2 x.evap i k) (g2 x.seep i k) = true := fun i' k h1 h2 => hadm i' k (by omega) h2
  clear hadm hge
  -- the balances
  refine loop_rule (fun i : Nat => [(7, iv (i : Int))]) (fun i u => i ≤ n1 ∧ Ext w3 u ∧ ∀ i' k, i' < i → k < H → balI d x i' k = true) (fun i _ => n1 - i) 0 ⟨rfl, trivial⟩ ⟨by omega, xu, fun i' k h => absurd h (Nat.not_lt_zero _)⟩ rfl ?_
  rintro G2 i2' u2 ⟨hi2, xu2, hbal⟩
  refine fldA ?_
  refine ld (.slice A1 n1 c1) ((Bd3.ext xu2).cell rfl) ?_
  refine len ?_
  refine cD (fun hlt => ?_) (fun hge => ?_)
  · have hin : i2' < d.reaches.length := by omega
    refine loop_rule (fun k : Nat => [(8, iv (k : Int))]) (fun k u' => k ≤ H ∧ Ext w3 u' ∧ ∀ k', k' < k → balI d x i2' k' = true) (fun k _ => H - k) 0 ⟨rfl, trivial⟩ ⟨by omega, xu2, fun k h => absurd h (Nat.not_lt_zero _)⟩ rfl ?_
    rintro G3 k u' ⟨hk, xu', hbal'⟩
    refine fldA ?_
    refine ld (iv d.hours) ((Bd3.ext xu').cell rfl) ?_
    rw [hHi]
    refine cD (fun hlt2 => ?_) (fun hge2 => ?_)
    · have hkH : k < H := by omega
      have xw := x23.trans xu'
      refine drawX [0, 1, 2, 3, 5, 6, 7, 8, 4, 9, 10] [4, 9] mx (by kernel_rfl) ?_
      refine ldAX _ (.blk (Bd3.ext xu')) rfl (.refl _ _) ?_
      refine ldAX _ (.blk (Bx3.ext xu')) rfl (.refl _ _) ?_
      refine ldAX _ (.blk (Bd3.ext xu')) rfl (.refl _ _) ?_
      refine ldAX _ (.blk (Bx3.ext xu')) rfl (.refl _ _) ?_
      refine call_of (c_r23Arrival (hd.ext xw) (hx.ext xw) hf hin hkH) ?_
      rintro _ v1 ⟨rfl, y1⟩
      refine strS y1 ?_
      refine call_of (c_r23left (hd.ext (xw.trans y1)) (hx.ext (xw.trans y1)) hf hin hkH) ?_
      rintro _ v2 ⟨rfl, y2⟩
      refine strS (y1.trans y2) ?_
      have xn := xu'.trans (y1.trans y2)
      refine cN (fun hne => ?_) (fun heq => ?_)
      · exact ret1 (.bool false) rfl (bad xn fun h => by
          have := h.bal i2' k hin hkH
          unfold balI at this
          rw [decide_eq_true_eq] at this
          exact hne this)
      · refine arI (by omega) ?_
        refine next (k + 1) ⟨by rw [Int.natCast_add]; rfl, trivial⟩ ⟨by omega, xn, fun k' hk' => ?_⟩ (by omega)
        by_cases e : k' = k
        · subst e; unfold balI; rw [decide_eq_true_eq]; exact heq
        · exact hbal' k' (by omega)
    · refine arI (by omega) ?_
      refine next (i2' + 1) ⟨by rw [Int.natCast_add]; rfl, trivial⟩ ⟨by omega, xu', fun i' k' hi' hk' => ?_⟩ (by omega)
      by_cases e : i' = i2'
      · subst e; exact hbal' k' (by omega)
      · exact hbal i' k' (by omega) hk'
  have hbalA : ∀ i k, i < d.reaches.length → k < H → balI d x i k = true := fun i' k h1 h2 => hbal i' k (by omega) h2
  clear hbal hge
  -- the stores
  refine fldA ?_
  refine fldA ?_
  refine ld (iv d.start) ((Bd3.ext xu2).cell rfl) ?_
  refine loop2 (fun (k : Nat) (s : Int) => [(10, iv (k : Int)), (9, iv s)]) (fun k s u => k ≤ H ∧ u2 = u ∧ s = storeN d x k ∧ (0 ≤ s ∧ s ≤ d.cap) ∧ ∀ k', k' < k → 0 ≤ storeN d x (k' + 1) ∧ storeN d x (k' + 1) ≤ d.cap) (fun k _ _ => H - k) 0 d.start ⟨rfl, rfl, trivial⟩ ⟨by omega, rfl, rfl, by omega, fun k h => absurd h (Nat.not_lt_zero _)⟩ rfl ?_
  rintro G3 k s _ ⟨hk, rfl, hs, hsb, hsto⟩
  refine fldA ?_
  refine ld (iv d.hours) ((Bd3.ext xu2).cell rfl) ?_
  rw [hHi]
  refine cD (fun hlt => ?_) (fun hge => ?_)
  · have hkH : k < H := by omega
    have xw := x23.trans xu2
    obtain ⟨fa, fb, rfl, v1⟩ := num_at (i1.ext xw) (k := k) (by omega)
    obtain ⟨ga, gb, rfl, v2⟩ := num_at (i2.ext xw) (k := k) (by omega)
    obtain ⟨f3, p3, R3, s3, u3, rfl, cc3, r3, -⟩ := row_at (i3.ext xw) (i := 0) (by omega)
    have y3 := (numB_iff.1 (tab_row hf.inn hnr).2).1
    have z3 := r3.len
    obtain ⟨ya, yb, rfl, v3⟩ := num_at r3 (k := k) (by omega)
    have b1 := (num_val hf.inflow hkH).2
    have b2 := (num_val hf.spill hkH).2
    have b3 := tab_val hf.inn hnr hkH
    refine drawQ mx (by kernel_rfl) ?_
    refine fldA ?_
    refine ld _ ((Bx3.ext xu2).cell rfl) ?_
    refine idx k rfl (by omega) ?_
    refine ld _ v1 ?_
    refine arE (s + g1 x.inflow k) rfl (by omega) ?_
    refine fldA ?_
    refine ld _ ((Bx3.ext xu2).cell rfl) ?_
    refine idx k rfl (by omega) ?_
    refine ld _ v2 ?_
    refine arE (s + g1 x.inflow k - g1 x.spill k) rfl (by omega) ?_
    refine fldA ?_
    refine ld _ ((Bx3.ext xu2).cell rfl) ?_
    refine idx 0 rfl (by omega) ?_
    refine ld _ cc3 ?_
    refine idx k rfl (by omega) ?_
    refine ld _ v3 ?_
    have hst : storeN d x (k + 1) = s + g1 x.inflow k - g1 x.spill k - g2 x.inn 0 k := by rw [hs]; rfl
    refine arE (storeN d x (k + 1)) hst.symm (by omega) ?_
    refine cD (fun q1 => ?_) (fun q1 => ?_)
    · exact ret1 (.bool false) rfl (bad xu2 fun h => by have := h.sto k hkH; omega)
    refine fldA ?_
    refine fldA ?_
    refine ld (iv d.cap) ((Bd3.ext xu2).cell rfl) ?_
    refine cD (fun q2 => ?_) (fun q2 => ?_)
    · exact ret1 (.bool false) rfl (bad xu2 fun h => by have := h.sto k hkH; omega)
    refine arI (by omega) ?_
    refine next2 (k + 1) (storeN d x (k + 1)) ⟨by rw [Int.natCast_add]; rfl, rfl, trivial⟩ ⟨by omega, rfl, rfl, by omega, fun k' hk' => ?_⟩ (by omega)
    by_cases e : k' = k
    · subst e; omega
    · exact hsto k' (by omega)
  · exact ret1 (.bool true) rfl ⟨by rw [riff.2 ⟨hadmA, hbalA, fun k' hk' => hsto k' (by omega)⟩], x23.trans xu2⟩
theorem c_r23Check {csd csx : List Value} {d : Dist} {x : Run} (hd : DiR D w csd d) (hx : RuR D w csx x) : CallZ Try.prog 14 #[.agg csd.toArray, .agg csx.toArray] w
    (fun v w' => v = iv (bErr d x) ∧ Ext w w') := by
  obtain ⟨A1, n1, c1, A2, n2, c2, A3, n3, c3, A4, n4, c4, A5, n5, c5, A6, n6, c6, rfl, hr, hfa, -⟩ := hd.ex
  obtain ⟨B1, m1, e1, B2, m2, e2, B3, m3, e3, B4, m4, e4, B5, m5, e5, B6, m6, e6, B7, m7, e7, rfl, i1, i2, i3, i4, i5, i6, i7, -⟩ := hx.ex
  have ln := hr.len
  have lf := hfa.len
  have k1 := i1.len
  have k2 := i2.len
  have k3 := i3.len
  have k4 := i4.len
  have k5 := i5.len
  have k6 := i6.len
  have k7 := i7.len
  refine fn_rule (args := [.agg #[.string d.name, iv d.hours, iv d.cap, iv d.start, .slice A1 n1 c1, .slice A2 n2 c2, .slice A3 n3 c3, .slice A4 n4 c4, .slice A5 n5 c5, .slice A6 n6 c6], .agg #[.slice B1 m1 e1, .slice B2 m2 e2, .slice B3 m3 e3, .slice B4 m4 e4, .slice B5 m5 e5, .slice B6 m6 e6, .slice B7 m7 e7]]) Try.func14 (by kernel_rfl) ?_
  refine box (fun bd w1 h1 => ?_)
  refine box (fun bx w2 h2 => ?_)
  have x2 := h1.ext.trans h2.ext
  have Bd := h1.blk.ext h2.ext
  have Bx := h2.blk
  refine ldA _ (.blk Bd) rfl ?_
  refine call_of (c_r19Check (hd.ext x2)) ?_
  rintro _ w3 ⟨rfl, x3⟩
  have x23 := x2.trans x3
  refine cN (fun q1 => ?_) (fun q1 => ?_)
  · exact ret1 (iv (dErr d)) rfl ⟨by unfold bErr; rw [if_pos q1], x23⟩
  obtain ⟨ht, hv⟩ := dErr_ok.1 q1
  obtain ⟨⟨b1, b2⟩, b3, b4⟩ := valid_bounds ht hv
  have p1 := prod_lt (x := (n1 : Int)) (y := d.hours) (by omega) (by omega)
  have p2 := prod_lt (x := (n2 : Int)) (y := d.hours) (by omega) (by omega)
  refine fldA ?_
  refine ld (.slice A1 n1 c1) ((Bd.ext x3).cell rfl) ?_
  refine len ?_
  refine fldA ?_
  refine ld (iv d.hours) ((Bd.ext x3).cell rfl) ?_
  refine arI (by omega) ?_
  have e0 : dErr d = 0 := q1
  refine cD (fun q2 => ?_) (fun q2 => ?_)
  · exact ret1 (iv 2) rfl ⟨by unfold bErr wide; rw [if_neg (by simpa using e0), ln, decide_eq_true q2]; rfl, x23⟩
  refine fldA ?_
  refine ld (.slice A2 n2 c2) ((Bd.ext x3).cell rfl) ?_
  refine len ?_
  refine fldA ?_
  refine ld (iv d.hours) ((Bd.ext x3).cell rfl) ?_
  refine arI (by omega) ?_
  refine cD (fun q3 => ?_) (fun q3 => ?_)
  · exact ret1 (iv 2) rfl ⟨by unfold bErr wide; rw [if_neg (by simpa using e0), lf, decide_eq_true q3, Bool.or_true]; rfl, x23⟩
  have hw : wide d = false := by unfold wide; rw [ln, lf, decide_eq_false q2, decide_eq_false q3]; rfl
  refine ldA _ (.blk (Bd.ext x3)) rfl ?_
  refine ldA _ (.blk (Bx.ext x3)) rfl ?_
  refine callE (c_r23Right (hd.ext x23) (hx.ext x23) hv ht) (fun w4 q4 x4 => ?_) (fun w4 q4 x4 => ?_)
  · exact ret1 (iv 0) rfl ⟨by unfold bErr; rw [if_neg (by simpa using e0), hw, q4]; rfl, x23.trans x4⟩
  · exact ret1 (iv 230) rfl ⟨by unfold bErr; rw [if_neg (by simpa using e0), hw, q4]; rfl, x23.trans x4⟩
theorem c_r23asked {csd csx : List Value} {d : Dist} {x : Run} {hour most : Int} (hd : DiR D w csd d) (hx : RuR D w csx x) : CallZ Try.prog 28 #[.agg csd.toArray, .agg csx.toArray, iv hour, iv most] w
    (fun v w' => v = iv (hErr d x hour most) ∧ Ext w w') := by
  obtain ⟨A1, n1, c1, A2, n2, c2, A3, n3, c3, A4, n4, c4, A5, n5, c5, A6, n6, c6, rfl, hr, hfa, -⟩ := hd.ex
  obtain ⟨B1, m1, e1, B2, m2, e2, B3, m3, e3, B4, m4, e4, B5, m5, e5, B6, m6, e6, B7, m7, e7, rfl, i1, i2, i3, i4, i5, i6, i7, -⟩ := hx.ex
  have ln := hr.len
  have lf := hfa.len
  have k1 := i1.len
  have k2 := i2.len
  have k3 := i3.len
  have k4 := i4.len
  have k5 := i5.len
  have k6 := i6.len
  have k7 := i7.len
  refine fn_rule (args := [.agg #[.string d.name, iv d.hours, iv d.cap, iv d.start, .slice A1 n1 c1, .slice A2 n2 c2, .slice A3 n3 c3, .slice A4 n4 c4, .slice A5 n5 c5, .slice A6 n6 c6], .agg #[.slice B1 m1 e1, .slice B2 m2 e2, .slice B3 m3 e3, .slice B4 m4 e4, .slice B5 m5 e5, .slice B6 m6 e6, .slice B7 m7 e7], iv hour, iv most]) Try.func28 (by kernel_rfl) ?_
  refine box (fun bd w1 h1 => ?_)
  refine box (fun bx w2 h2 => ?_)
  have x2 := h1.ext.trans h2.ext
  have Bd := h1.blk.ext h2.ext
  have Bx := h2.blk
  refine ldA _ (.blk Bd) rfl ?_
  refine ldA _ (.blk Bx) rfl ?_
  refine call_of (c_r23Check (hd.ext x2) (hx.ext x2)) ?_
  rintro _ w3 ⟨rfl, x3⟩
  have x23 := x2.trans x3
  refine cN (fun q1 => ?_) (fun q1 => ?_)
  · exact ret1 (iv (bErr d x)) rfl ⟨by unfold hErr; rw [if_pos q1], x23⟩
  have e0 : bErr d x = 0 := q1
  have sv : hErr d x hour most = if hour < 0 ∨ hour > most then 1 else 0 := by unfold hErr; rw [if_neg (by simpa using e0)]
  refine cD (fun q2 => ?_) (fun q2 => ?_)
  · exact ret1 (iv 1) rfl ⟨by rw [sv, if_pos (.inl q2)], x23⟩
  refine cD (fun q3 => ?_) (fun q3 => ?_)
  · exact ret1 (iv 1) rfl ⟨by rw [sv, if_pos (.inr q3)], x23⟩
  · exact ret1 (iv 0) rfl ⟨by rw [sv, if_neg (by omega)], x23⟩
theorem storeV_h {d : Dist} {x : Run} {hour : Int} : storeV d x hour = (if hErr d x hour d.hours = 0 then storeN d x hour.toNat else 0, hErr d x hour d.hours) := by
  unfold storeV hErr
  by_cases h : bErr d x = 0
  · have hn : ¬ (bErr d x ≠ 0) := fun e => e h
    simp only [if_neg hn]
    by_cases h2 : hour < 0 ∨ hour > d.hours
    · simp only [if_pos h2]; rfl
    · simp only [if_neg h2]; rfl
  · have hp : bErr d x ≠ 0 := h
    simp only [if_pos hp, if_neg h]
theorem c_r23Store {csd csx : List Value} {d : Dist} {x : Run} {hour : Int} (hd : DiR D w csd d) (hx : RuR D w csx x) : CallZ Try.prog 12 #[.agg csd.toArray, .agg csx.toArray, iv hour] w
    (fun v w' => v = .tuple #[iv (storeV d x hour).1, iv (storeV d x hour).2] ∧ Ext w w') := by
  obtain ⟨A1, n1, c1, A2, n2, c2, A3, n3, c3, A4, n4, c4, A5, n5, c5, A6, n6, c6, rfl, hr, hfa, -⟩ := hd.ex
  obtain ⟨B1, m1, e1, B2, m2, e2, B3, m3, e3, B4, m4, e4, B5, m5, e5, B6, m6, e6, B7, m7, e7, rfl, i1, i2, i3, i4, i5, i6, i7, -⟩ := hx.ex
  have ln := hr.len
  have lf := hfa.len
  have k1 := i1.len
  have k2 := i2.len
  have k3 := i3.len
  have k4 := i4.len
  have k5 := i5.len
  have k6 := i6.len
  have k7 := i7.len
  refine fn_rule (args := [.agg #[.string d.name, iv d.hours, iv d.cap, iv d.start, .slice A1 n1 c1, .slice A2 n2 c2, .slice A3 n3 c3, .slice A4 n4 c4, .slice A5 n5 c5, .slice A6 n6 c6], .agg #[.slice B1 m1 e1, .slice B2 m2 e2, .slice B3 m3 e3, .slice B4 m4 e4, .slice B5 m5 e5, .slice B6 m6 e6, .slice B7 m7 e7], iv hour]) Try.func12 (by kernel_rfl) ?_
  refine box (fun bd w1 h1 => ?_)
  refine box (fun bx w2 h2 => ?_)
  have x2 := h1.ext.trans h2.ext
  have Bd := h1.blk.ext h2.ext
  have Bx := h2.blk
  rw [storeV_h]
  refine ldA _ (.blk Bd) rfl ?_
  refine ldA _ (.blk Bx) rfl ?_
  refine fldA ?_
  refine ld (iv d.hours) (Bd.cell rfl) ?_
  refine call_of (c_r23asked (most := d.hours) (hd.ext x2) (hx.ext x2)) ?_
  rintro _ w3 ⟨rfl, x3⟩
  have x23 := x2.trans x3
  refine cN (fun q1 => ?_) (fun q1 => ?_)
  · exact ret2 (iv 0) (iv (hErr d x hour d.hours)) rfl rfl ⟨by rw [if_neg q1], x23⟩
  obtain ⟨e0, h0, hm⟩ := hErr_ok.1 q1
  obtain ⟨hf, hR⟩ := bErr_fm e0
  have hcap := headOk_iff.1 (validB_iff.1 (bErr_ok.1 e0).1.2).1
  obtain ⟨T, hk⟩ : ∃ k : Nat, hour = (k : Int) := ⟨hour.toNat, by omega⟩
  have hkn : hour.toNat = T := by omega
  have q1' : hErr d x hour d.hours = 0 := q1
  rw [q1', if_pos rfl, hkn]
  have hHi := hf.hours
  refine ldA _ (.blk (Bd.ext x3)) rfl ?_
  refine ldA _ (.blk (Bx.ext x3)) rfl ?_
  rw [hk]
  refine call_of (c_r23stored (hd.ext x23) (hx.ext x23) hf (by omega) (by omega)) ?_
  rintro _ w4 ⟨rfl, x4⟩
  exact ret2 (iv (storeN d x T)) (iv 0) rfl rfl ⟨rfl, x23.trans x4⟩
theorem c_r23short {l : List (List Int)} {A : Option Addr} {n c : Nat} (hs : SlR tInts D w A n l) : CallZ Try.prog 26 #[.slice A n c] w (fun v w' => ∃ b, v = .bool b ∧ w' = w) := by
  refine fn_rule (args := [.slice A n c]) Try.func26 (by kernel_rfl) ?_
  refine len ?_
  refine cD (fun g => ?_) (fun g => ?_)
  · exact ret1 (.bool false) rfl ⟨_, rfl, rfl⟩
  refine loop_rule (fun k : Nat => [(3, iv (k : Int))]) (fun k w' => k ≤ n ∧ w' = w) (fun k _ => n - k) 0 ⟨rfl, trivial⟩ ⟨by omega, rfl⟩ rfl ?_
  rintro G k w' ⟨hk, rfl⟩
  refine len ?_
  refine cD (fun hlt => ?_) (fun hge => ?_)
  · obtain ⟨b, o, cs, x, rfl, hx, hdx, -, hc, A2, n2, c2, rfl, hx2, -⟩ := hs.at_ (show k < n by omega)
    refine idx k rfl (by omega) ?_
    refine ld (.slice A2 n2 c2) (hc 0 _ rfl) ?_
    refine len ?_
    refine cD (fun g2 => ?_) (fun g2 => ?_)
    · exact ret1 (.bool false) rfl ⟨_, rfl, rfl⟩
    refine arI (by omega) ?_
    exact next (k + 1) ⟨by rw [Int.natCast_add]; rfl, trivial⟩ ⟨by omega, rfl⟩ (by omega)
  · exact ret1 (.bool true) rfl ⟨_, rfl, rfl⟩
theorem callS {f : FuncId} [h : Enters Try.prog f] {args : Array Value} {K : VK} {X : XK} (c : CallZ Try.prog f args w (fun v w' => ∃ b, v = .bool b ∧ w' = w)) (k1 : K (.bool true) w) (k2 : K (.bool false) w) : CallP Try.prog f args K X w := by
  refine call_of c ?_
  rintro _ _ ⟨b, rfl, rfl⟩
  cases b
  · exact k2
  · exact k1
theorem c_r23sum {l : List Int} {A : Option Addr} {n c : Nat} {many : Int} (hs : SlR tInt D w A n l) (hb : ∀ x ∈ l, 0 ≤ x ∧ x ≤ 1073741824) (hn : n ≤ 8192) : CallZ Try.prog 35 #[.slice A n c, iv many] w (fun v w' => v = iv (l.take many.toNat).sum ∧ w' = w) := by
  refine fn_rule (args := [.slice A n c, iv many]) Try.func35 (by kernel_rfl) ?_
  have hl := hs.len
  refine loop2 (fun (k : Nat) (s : Int) => [(6, iv (k : Int)), (5, iv s)]) (fun k s w' => k ≤ n ∧ w' = w ∧ (k ≤ many.toNat) ∧ s = (l.take k).sum) (fun k _ _ => n - k) 0 0 ⟨rfl, rfl, trivial⟩ ⟨by omega, rfl, by omega, by simp⟩ rfl ?_
  rintro G k s w' ⟨hk, rfl, hm, he⟩
  have hsb := sum_bound (l := l.take k) fun y hy => hb y (List.mem_of_mem_take hy)
  have hln := List.length_take_le k l
  refine len ?_
  refine cD (fun hlt => ?_) (fun hge => ?_)
  · refine cD (fun hlt2 => ?_) (fun hge2 => ?_)
    · obtain ⟨b, o, cs, x, rfl, hx, hdx, -, hc, rfl, -⟩ := hs.at_ (show k < n by omega)
      have hxb := hb x (List.mem_of_getElem? hx)
      refine idx k rfl (by omega) ?_
      refine ld (iv x) (hc 0 _ rfl) ?_
      refine arE (s + x) rfl (by omega) ?_
      refine arI (by omega) ?_
      refine next2 (k + 1) (s + x) ⟨by rw [Int.natCast_add]; rfl, rfl, trivial⟩ ⟨by omega, rfl, by omega, ?_⟩ (by omega)
      rw [List.take_add_one, hx, List.sum_append, he]; simp
    · exact ret1 (iv s) rfl ⟨by rw [he, show k = many.toNat by omega], rfl⟩
  · refine ret1 (iv s) rfl ⟨?_, rfl⟩
    rw [he, List.take_of_length_le (by omega), List.take_of_length_le (by omega)]
end
end Go.Proofs.Ytpmfeplifgmdhaa

/- Made by gen_XBe.py. Layer 23: the reference, moves; comparisons. -/
namespace Go.Proofs.Ytpmfeplifgmdhaa
open Go Go.RowKit

instance : EqTy Try.prog 53 := ⟨by kernel_rfl⟩
instance : EqTy Try.prog 56 := ⟨by kernel_rfl⟩
/-- A list of the function's own that lies outside of D. -/
structure OM (D : Nat → Prop) (w0 w : World) (A : Option Addr) (n c : Nat) (ms : List Mv) : Prop where
  o : OwnF w0 w A n c 56 5 (mvs ms)
  d : ∀ g, A = some (ad g 0) → ¬ D g
theorem OM.ext {D : Nat → Prop} {w0 w w' : World} {A : Option Addr} {n c : Nat} {ms : List Mv} (h : OM D w0 w A n c ms) (k : Ext w w') : OM D w0 w' A n c ms := ⟨h.o.then k, h.d⟩
theorem OM.sub {D D2 : Nat → Prop} {w0 w : World} {A : Option Addr} {n c : Nat} {ms : List Mv} (h : OM D w0 w A n c ms) (k : ∀ b, D2 b → D b) : OM D2 w0 w A n c ms := ⟨h.o, fun g hg hd => h.d g hg (k g hd)⟩
theorem OM.lt {D : Nat → Prop} {w0 w : World} {A : Option Addr} {n c : Nat} {ms : List Mv} (h : OM D w0 w A n c ms) {g : Nat} (hg : A = some (ad g 0)) : g < w.heap.size := by
  rcases h.o.form with ⟨hA, _⟩ | ⟨g', hA, _, hlt, _⟩
  · rw [hA] at hg; cases hg
  · rw [hA] at hg
    simp only [Option.some.injEq, Addr.mk.injEq, and_true] at hg
    omega
theorem OM.up {D : Nat → Prop} {w0 w w' : World} {A : Option Addr} {n c : Nat} {ms : List Mv} (h : OM D w0 w A n c ms) (x : Ext w w') : OM (fun b => D b ∨ (w.heap.size ≤ b ∧ b < w'.heap.size)) w0 w' A n c ms :=
  ⟨h.o.then x, fun g hg hd => by
    rcases hd with hd | hd
    · exact h.d g hg hd
    · have := h.lt hg; omega⟩
section
variable {D : Nat → Prop} {w0 w : World} {A A' : Option Addr} {n n' c c' : Nat}
theorem c_r23move {ms : List Mv} {a b a2 b2 L : Int} (h : OM D w0 w A n c ms) (hD : ∀ b, D b → b < w.heap.size) (hn : ms.length ≤ 100000) :
    CallZ Try.prog 38 #[.slice A n c, .agg #[iv a, iv b], .agg #[iv a2, iv b2], iv L] w (fun v w' => ∃ A' n' c', v = .slice A' n' c' ∧ OM D w0 w' A' n' c' (ms ++ [(⟨(a, b), (a2, b2), L⟩ : Mv)].filter nzM) ∧ Kept D w w') := by
  have hl := h.o.own.len
  rw [mvs_len] at hl
  refine fn_rule (args := [.slice A n c, .agg #[iv a, iv b], .agg #[iv a2, iv b2], iv L]) Try.func38 (by kernel_rfl) ?_
  refine box (fun p w1 h1 => ?_)
  refine box (fun q w2 h2 => ?_)
  have x2 := h1.ext.trans h2.ext
  refine cE (fun q0 => ?_) (fun q0 => ?_)
  · refine ret1 (.slice A n c) rfl ⟨A, n, c, rfl, ?_, Ext.any x2⟩
    rw [List.filter_cons_of_neg (by simp [nzM, q0]), List.filter_nil, List.append_nil]; exact h.ext x2
  refine ldA [iv a, iv b] (.blk (h1.blk.ext h2.ext)) rfl ?_
  refine ldA [iv a2, iv b2] (.blk h2.blk) rfl ?_
  refine bld [iv a, iv b, iv a2, iv b2, iv L] (by kernel_rfl) ?_
  refine lit [.agg #[iv a, iv b, iv a2, iv b2, iv L]] (fun g w3 hb => ?_)
  have x3 := x2.trans hb.ext
  refine appF (h.o.then x3) (hb.src (sz := 5) rfl) (by omega) (fun A' c' w4 o4 k4 hA' => ?_)
  refine ret1 (.slice A' (n + 1) c') rfl ⟨A', n + 1, c', rfl, ⟨?_, fun g' hg hd => ?_⟩, (Ext.any x3).trans (k4.weak fun i _ hi e => h.d i e hi)⟩
  · rw [List.filter_cons_of_pos (by simp [nzM, q0]), List.filter_nil, mvs_app]; exact o4
  · rcases hA' with e | e | e
    · rw [e] at hg; exact h.d g' hg hd
    · rw [e] at hg; cases hg
    · rw [e] at hg
      simp only [Option.some.injEq, Addr.mk.injEq, and_true] at hg
      have := hD g' hd
      have := x3.size
      omega

theorem c_sameA {a b : List Ac} {D2 : Nat → Prop} (ha : SlR tAc D w A n a) (hb : SlR tAc D2 w A' n' b) : CallZ Try.prog 19 #[.slice A n c, .slice A' n' c'] w (fun v w' => v = .bool (decide (a = b)) ∧ w' = w) := by
  refine fn_rule (args := [.slice A n c, .slice A' n' c']) Try.func19 (by kernel_rfl) ?_
  have hl := ha.len
  have hl2 := hb.len
  refine len ?_
  refine len ?_
  refine cN (fun g => ?_) (fun g => ?_)
  · exact ret1 (.bool false) rfl ⟨by rw [decide_eq_false fun e => g (by rw [← hl, ← hl2, e])], rfl⟩
  refine loop_rule (fun k : Nat => [(5, iv (k : Int))]) (fun k w' => k ≤ n ∧ w' = w ∧ (a = b ↔ a.drop k = b.drop k)) (fun k _ => n - k) 0 ⟨rfl, trivial⟩ ⟨by omega, rfl, Iff.rfl⟩ rfl ?_
  rintro G k w' ⟨hk, rfl, he⟩
  refine len ?_
  refine cD (fun hlt => ?_) (fun hge => ?_)
  · obtain ⟨b1, o1, cs, x, rfl, -, hx, -, hc, rfl⟩ := ha.at_ (show k < n by omega)
    obtain ⟨b2, o2, cs, y, rfl, -, hy, -, hc2, rfl⟩ := hb.at_ (show k < n' by omega)
    refine drawQ mx (by kernel_rfl) ?_
    refine idx k rfl (by omega) ?_
    refine ldA (Ac.c x) hc rfl ?_
    refine idx k rfl (by omega) ?_
    refine ldA (Ac.c y) hc2 rfl ?_
    rw [hx, hy, List.cons.injEq] at he
    have hxy : (((x.kind == y.kind) && ((x.index == y.index) && ((x.litres == y.litres) && true))) = true) ↔ x = y := by
      cases x; cases y
      simp
    refine neS ((x.kind == y.kind) && ((x.index == y.index) && ((x.litres == y.litres) && true))) (by kernel_rfl) (fun q => ?_) (fun q => ?_)
    · refine ret1 (.bool false) rfl ⟨?_, rfl⟩
      rw [decide_eq_false fun e => by rw [hxy.2 (he.1 e).1] at q; exact Bool.noConfusion q]
    · refine arI (by have := ha.le; omega) ?_
      exact next (k + 1) ⟨by rw [Int.natCast_add]; rfl, trivial⟩ ⟨by omega, rfl, he.trans ⟨fun h => h.2, fun h => ⟨hxy.1 q, h⟩⟩⟩ (by omega)
  · refine ret1 (.bool true) rfl ⟨?_, rfl⟩
    rw [decide_eq_true (he.2 (by rw [drop_end (by omega), drop_end (by omega)]))]
theorem c_sameM {a b : List Mv} {D2 : Nat → Prop} (ha : SlR tMv D w A n a) (hb : SlR tMv D2 w A' n' b) : CallZ Try.prog 20 #[.slice A n c, .slice A' n' c'] w (fun v w' => v = .bool (decide (a = b)) ∧ w' = w) := by
  refine fn_rule (args := [.slice A n c, .slice A' n' c']) Try.func20 (by kernel_rfl) ?_
  have hl := ha.len
  have hl2 := hb.len
  refine len ?_
  refine len ?_
  refine cN (fun g => ?_) (fun g => ?_)
  · exact ret1 (.bool false) rfl ⟨by rw [decide_eq_false fun e => g (by rw [← hl, ← hl2, e])], rfl⟩
  refine loop_rule (fun k : Nat => [(5, iv (k : Int))]) (fun k w' => k ≤ n ∧ w' = w ∧ (a = b ↔ a.drop k = b.drop k)) (fun k _ => n - k) 0 ⟨rfl, trivial⟩ ⟨by omega, rfl, Iff.rfl⟩ rfl ?_
  rintro G k w' ⟨hk, rfl, he⟩
  refine len ?_
  refine cD (fun hlt => ?_) (fun hge => ?_)
  · obtain ⟨b1, o1, cs, x, rfl, -, hx, -, hc, rfl⟩ := ha.at_ (show k < n by omega)
    obtain ⟨b2, o2, cs, y, rfl, -, hy, -, hc2, rfl⟩ := hb.at_ (show k < n' by omega)
    refine drawQ mx (by kernel_rfl) ?_
    refine idx k rfl (by omega) ?_
    refine ldA (Mv.c x) hc rfl ?_
    refine idx k rfl (by omega) ?_
    refine ldA (Mv.c y) hc2 rfl ?_
    rw [hx, hy, List.cons.injEq] at he
    have hxy : ((((x.frm.1 == y.frm.1) && ((x.frm.2 == y.frm.2) && true)) && (((x.to.1 == y.to.1) && ((x.to.2 == y.to.2) && true)) && ((x.litres == y.litres) && true))) = true) ↔ x = y := by
      cases x; cases y
      simp [Prod.ext_iff]; try omega
    refine neS (((x.frm.1 == y.frm.1) && ((x.frm.2 == y.frm.2) && true)) && (((x.to.1 == y.to.1) && ((x.to.2 == y.to.2) && true)) && ((x.litres == y.litres) && true))) (by kernel_rfl) (fun q => ?_) (fun q => ?_)
    · refine ret1 (.bool false) rfl ⟨?_, rfl⟩
      rw [decide_eq_false fun e => by rw [hxy.2 (he.1 e).1] at q; exact Bool.noConfusion q]
    · refine arI (by have := ha.le; omega) ?_
      exact next (k + 1) ⟨by rw [Int.natCast_add]; rfl, trivial⟩ ⟨by omega, rfl, he.trans ⟨fun h => h.2, fun h => ⟨hxy.1 q, h⟩⟩⟩ (by omega)
  · refine ret1 (.bool true) rfl ⟨?_, rfl⟩
    rw [decide_eq_true (he.2 (by rw [drop_end (by omega), drop_end (by omega)]))]
end
end Go.Proofs.Ytpmfeplifgmdhaa

/- Made by gen_XBf.py. Layer 23: the reference's Moves. -/
namespace Go.Proofs.Ytpmfeplifgmdhaa
open Go Go.RowKit

section
variable {D Dd : Nat → Prop} {w0 w : World} {A : Option Addr} {n c : Nat}
theorem c_r23out {ms : List Mv} {csd csx : List Value} {d : Dist} {x : Run} {i hour H : Nat} (h : OM D w0 w A n c ms) (hD : ∀ b, D b → b < w.heap.size) (hDd : ∀ b, b < w.heap.size → Dd b → D b) (hn : ms.length ≤ 50000) (hd : DiR Dd w csd d) (hx : RuR Dd w csx x) (hf : Fm d x H) (hi : i < d.reaches.length) (hh : hour < H) :
    CallZ Try.prog 39 #[.slice A n c, .agg csd.toArray, .agg csx.toArray, iv (i : Int), iv (hour : Int)] w (fun v w' => ∃ A' n' c', v = .slice A' n' c' ∧ OM D w0 w' A' n' c' (ms ++ (endL d x hour i).filter nzM) ∧ Kept D w w') := by
  have hd := hd.more (D' := fun b => b < w.heap.size ∧ D b) fun b hb h => ⟨hb, hDd b hb h⟩
  have hx := hx.more (D' := fun b => b < w.heap.size ∧ D b) fun b hb h => ⟨hb, hDd b hb h⟩
  obtain ⟨A1, n1, c1, A2, n2, c2, A3, n3, c3, A4, n4, c4, A5, n5, c5, A6, n6, c6, rfl, hr, hfa, -⟩ := hd.ex
  obtain ⟨B1, m1, e1, B2, m2, e2, B3, m3, e3, B4, m4, e4, B5, m5, e5, B6, m6, e6, B7, m7, e7, rfl, i1, i2, i3, i4, i5, i6, i7, -⟩ := hx.ex
  have ln := hr.len
  have lf := hfa.len
  have k1 := i1.len
  have k2 := i2.len
  have k3 := i3.len
  have k4 := i4.len
  have k5 := i5.len
  have k6 := i6.len
  have k7 := i7.len
  have hf1 := (numB_iff.1 hf.inflow).1
  have hf2 := (numB_iff.1 hf.spill).1
  have hf3 := (tabB_iff.1 hf.inn).1
  have hf4 := (tabB_iff.1 hf.evap).1
  have hf5 := (tabB_iff.1 hf.seep).1
  have hf6 := (tabB_iff.1 hf.taken).1
  have hf7 := (tabB_iff.1 hf.tail).1
  have hHi := hf.hours
  have hH1 := hf.h1
  have hH2 := hf.h2
  have hnr := hf.nr
  have hnr' := hf.nr'
  have hnf := hf.nf
  refine fn_rule (args := [.slice A n c, .agg #[.string d.name, iv d.hours, iv d.cap, iv d.start, .slice A1 n1 c1, .slice A2 n2 c2, .slice A3 n3 c3, .slice A4 n4 c4, .slice A5 n5 c5, .slice A6 n6 c6], .agg #[.slice B1 m1 e1, .slice B2 m2 e2, .slice B3 m3 e3, .slice B4 m4 e4, .slice B5 m5 e5, .slice B6 m6 e6, .slice B7 m7 e7], iv (i : Int), iv (hour : Int)]) Try.func39 (by kernel_rfl) ?_
  refine box (fun bd w1 h1 => ?_)
  refine box (fun bx w2 h2 => ?_)
  have x2 := h1.ext.trans h2.ext
  have Bd := h1.blk.ext h2.ext
  have Bx := h2.blk
  refine bld [iv 2, iv (i : Int)] (by kernel_rfl) ?_
  refine alloc (fun t w3 h3 => ?_)
  refine stA (vs := [iv 2, iv (i : Int)]) h3.blk rfl (Nat.le_of_ble_eq_true rfl) (by simp [Value.oneCell']) (fun w4 tb s4 z4 => ?_)
  have y1 := h1.at_
  have y2 := h2.at_
  have y3 := h3.at_
  have s1 := h1.size
  have s2 := h2.size
  have s3 := h3.size
  have x24 : Ext w2 w4 := h3.ext.then s4 fun b hb _ e => by omega
  have Bd4 := Bd.ext x24
  have Bx4 := Bx.ext x24
  have x04 := x2.trans x24
  refine ldA _ (.blk Bd4) rfl ?_
  refine call_of (c_r23entered (hd.ext x04) hf hi (by omega)) ?_
  rintro _ w5 ⟨rfl, x45⟩
  have x05 := x04.trans x45
  -- what is kept from here on
  obtain ⟨Dk, hDk⟩ : ∃ Dk : Nat → Prop, Dk = fun b => D b ∨ (w.heap.size ≤ b ∧ b < w5.heap.size) := ⟨_, rfl⟩
  have M5 : OM Dk w0 w5 A n c ms := by rw [hDk]; exact h.up x05
  have dkD : ∀ b, D b → Dk b := fun b h => by rw [hDk]; exact .inl h
  have dkN : ∀ b, w.heap.size ≤ b → b < w5.heap.size → Dk b := fun b h1 h2 => by rw [hDk]; exact .inr ⟨h1, h2⟩
  have dkL : ∀ b, Dk b → b < w5.heap.size := fun b h => by
    rw [hDk] at h
    rcases h with h | h
    · have := hD b h; have := x05.size; omega
    · exact h.2
  clear hDk
  have y5 := x45.size
  have keyK : ∀ u, Kept Dk w5 u → Kept (fun b => b < w.heap.size ∧ D b) w u := fun u k => (Ext.any x05).then k fun b _ hb => dkD b hb.2
  have keyD : ∀ u, Kept Dk w5 u → Blk u bd _ _ := fun u k => (Bd4.ext x45).kept k (dkN _ (by omega) (by have := Bd4.lt; omega))
  have keyX : ∀ u, Kept Dk w5 u → Blk u bx _ _ := fun u k => (Bx4.ext x45).kept k (dkN _ (by omega) (by have := Bx4.lt; omega))
  have keyT : ∀ u, Kept Dk w5 u → Blk u t _ [iv 2, iv (i : Int)] := fun u k => (tb.ext x45).kept k (dkN _ (by omega) (by have := tb.lt; omega))
  have keyL : ∀ u, Kept Dk w5 u → ∀ b, Dk b → b < u.heap.size := fun u k b hb => Nat.lt_of_lt_of_le (dkL b hb) k.size
  obtain ⟨el, eh⟩ := hf.ent_lt hi hh
  have pc0 : ∀ {k}, (childL d x hour i k).length ≤ k := childL_len
  have pf0 : ∀ {k}, (farmL d x hour i k).length ≤ k := farmL_len
  have fa : ∀ l : List Mv, l.length ≤ 2000 → (ms ++ l.filter nzM).length ≤ 100000 := fun l hl => by rw [List.length_append]; have := List.length_filter_le nzM l; omega
  have cat : ∀ L K : List Mv, ms ++ L.filter nzM ++ K.filter nzM = ms ++ (L ++ K).filter nzM := fun L K => by rw [List.filter_append, List.append_assoc]
  have lossD : (lossL d x hour i) = [⟨(2, i), (3, i), (parc d x hour i).2.1⟩] ++ [⟨(2, i), (4, i), (parc d x hour i).2.2⟩] := rfl
  refine cD (fun q1 => ?ya) (fun q1 => ?yb)
  case' ya =>
    obtain ⟨e, he⟩ : ∃ e : Nat, ent d i hour = (e : Int) := ⟨(ent d i hour).toNat, by omega⟩
    have hp : parc d x hour i = (g2 x.inn i e, g2 x.evap i e, g2 x.seep i e) := by unfold parc; rw [he, if_pos (by omega), Int.toNat_natCast]
    have heH : e < H := by omega
    obtain ⟨f4, p4, R4, s4', u4, hA4, cc4, r4, -⟩ := row_at (i4.kept (keyK w5 (.refl _ _)) fun b _ hb => hb) (i := i) (by omega)
    have v4a := (numB_iff.1 (tab_row hf.evap hi).2).1
    have v4b := r4.len
    obtain ⟨a4, b4, rfl, v4⟩ := num_at r4 (k := e) (by omega)
    subst hA4
    refine drawP (.take 0 (.take 1 (.take 2 (.take 3 (.take 4 (.take 5 (.take 6 (.take 7 (.take 8 (.take 9 (.take 10 (.take 11 (.bar (.eff 12 (.take 13 .done))))))))))))))) [12, 13] (fun u => u = w5) mx (by kernel_rfl) rfl ?_
    refine ldA [iv 2, iv (i : Int)] (.blk (keyT w5 (.refl _ _))) rfl ?_
    refine bld [iv 3, iv (i : Int)] (by kernel_rfl) ?_
    refine fldA ?_
    refine ld _ ((keyX w5 (.refl _ _)).cell rfl) ?_
    refine idx i rfl (by omega) ?_
    refine ld _ cc4 ?_
    refine idx e he (by omega) ?_
    refine ld _ v4 ?_
    refine barS (fun _ => True) trivial ?_
    refine call_of (c_r23move M5 (keyL w5 (.refl _ _)) (by omega)) ?_
    rintro _ w6 ⟨A6', n6', c6', rfl, M6, k6⟩
    refine strS trivial ?_
    obtain ⟨f5, p5, R5, s5', u5, hA5, cc5, r5, -⟩ := row_at (i5.kept (keyK w6 k6) fun b _ hb => hb) (i := i) (by omega)
    have v5a := (numB_iff.1 (tab_row hf.seep hi).2).1
    have v5b := r5.len
    obtain ⟨a5, b5, rfl, v5⟩ := num_at r5 (k := e) (by omega)
    subst hA5
    refine drawP (.take 0 (.take 1 (.take 2 (.take 3 (.take 4 (.take 5 (.take 6 (.take 7 (.take 8 (.take 9 (.take 10 (.take 11 (.bar (.eff 12 (.take 13 .done))))))))))))))) [12, 13] (fun u => u = w6) mx (by kernel_rfl) rfl ?_
    refine ldA [iv 2, iv (i : Int)] (.blk (keyT w6 k6)) rfl ?_
    refine bld [iv 4, iv (i : Int)] (by kernel_rfl) ?_
    refine fldA ?_
    refine ld _ ((keyX w6 k6).cell rfl) ?_
    refine idx i rfl (by omega) ?_
    refine ld _ cc5 ?_
    refine idx e he (by omega) ?_
    refine ld _ v5 ?_
    refine barS (fun _ => True) trivial ?_
    refine call_of (c_r23move M6 (keyL w6 k6) (fa _ (by simp))) ?_
    rintro _ w7 ⟨A, n, c, rfl, M7, k67⟩
    refine strS trivial ?_
    have k7 := k6.trans k67
    have M7' : OM Dk w0 w7 A n c (ms ++ (lossL d x hour i).filter nzM) := by
      rw [lossD, ← cat, hp]; exact M7
  case' yb =>
    have hp : parc d x hour i = (0, 0, 0) := by unfold parc; rw [if_neg (by omega)]
    obtain ⟨w7, hw7⟩ : ∃ u, u = w5 := ⟨w5, rfl⟩
    rw [← hw7]
    have k7 : Kept Dk w5 w7 := by rw [hw7]; exact .refl _ _
    have M7' : OM Dk w0 w7 A n c (ms ++ (lossL d x hour i).filter nzM) := by
      rw [lossD, hp, hw7]
      have : ([(⟨(2, (i : Int)), (3, (i : Int)), 0⟩ : Mv)] ++ [(⟨(2, (i : Int)), (4, (i : Int)), 0⟩ : Mv)]).filter nzM = [] := by simp [nzM]
      rw [this, List.append_nil]; exact M5
  all_goals
    have hll : (lossL d x hour i).length = 2 := rfl
    refine loop4 (fun (k : Nat) (A : Option Addr) (n c : Nat) => [(13, iv (k : Int)), (0, .slice A n c)]) (fun k A n c u => k ≤ n1 ∧ Kept Dk w5 u ∧ OM Dk w0 u A n c (ms ++ (lossL d x hour i ++ childL d x hour i k).filter nzM)) (fun k _ _ _ _ => n1 - k) 0 A n c ⟨rfl, rfl, trivial⟩ ⟨by omega, k7, by rw [show childL d x hour i 0 = [] from rfl, List.append_nil]; exact M7'⟩ rfl ?_
    rintro G k Ak nk ck u ⟨hk, ku, Mu⟩
    refine fldA ?_
    refine ld (.slice A1 n1 c1) ((keyD u ku).cell rfl) ?_
    refine len ?_
    refine cD (fun hlt => ?_) (fun hge => ?_)
    · have hlt : k < n1 := by omega
      have pk := pc0 (k := k)
      obtain ⟨b, o, cs, r, rfl, hrx, -, -, hc, rfl⟩ := (hr.kept (keyK u ku) fun b _ hb => hb).at_ hlt
      have hrk := rch_eq hrx
      refine fldA ?_
      refine ld _ ((keyD u ku).cell rfl) ?_
      refine idx k rfl hlt ?_
      refine fldA ?_
      refine ld (iv r.up) (hc 1 _ rfl) ?_
      refine cE (fun hup => ?_) (fun hup => ?_)
      · obtain ⟨f3, p3, R3, s3', u3, hA3, cc3, r3, -⟩ := row_at (i3.kept (keyK u ku) fun b _ hb => hb) (i := k) (by omega)
        have v3a := (numB_iff.1 (tab_row hf.inn (i := k) (by omega)).2).1
        have v3b := r3.len
        obtain ⟨a3, b3, rfl, v3⟩ := num_at r3 (k := hour) (by omega)
        subst hA3
        refine drawP (.take 0 (.take 1 (.take 2 (.take 3 (.take 4 (.take 5 (.take 6 (.take 7 (.take 8 (.take 9 (.take 10 (.take 11 (.bar (.eff 12 (.take 13 .done))))))))))))))) [12, 13] (fun y => y = u) mx (by kernel_rfl) rfl ?_
        refine ldA [iv 2, iv (i : Int)] (.blk (keyT u ku)) rfl ?_
        refine bld [iv 2, iv (k : Int)] (by kernel_rfl) ?_
        refine fldA ?_
        refine ld _ ((keyX u ku).cell rfl) ?_
        refine idx k rfl (by omega) ?_
        refine ld _ cc3 ?_
        refine idx hour rfl (by omega) ?_
        refine ld _ v3 ?_
        refine barS (fun _ => True) trivial ?_
        refine call_of (c_r23move Mu (keyL u ku) (fa _ (by rw [List.length_append]; omega))) ?_
        rintro _ u2 ⟨Ax, nx, cx, rfl, Mx, kx⟩
        refine strS trivial ?_
        refine arI (by have := hr.le; omega) ?_
        refine next4 (k + 1) Ax nx cx ⟨by rw [Int.natCast_add]; rfl, rfl, trivial⟩ ⟨by omega, ku.trans kx, ?_⟩ (by omega)
        rw [childL_succ, hrk, if_pos hup, ← List.append_assoc, ← cat]; exact Mx
      · refine arI (by have := hr.le; omega) ?_
        refine next4 (k + 1) Ak nk ck ⟨by rw [Int.natCast_add]; rfl, rfl, trivial⟩ ⟨by omega, ku, ?_⟩ (by omega)
        rw [childL_succ, hrk, if_neg hup, List.append_nil]; exact Mu
    rw [show k = d.reaches.length by omega] at Mu
    have pk := pc0 (k := d.reaches.length)
    refine loop4 (fun (k : Nat) (A : Option Addr) (n c : Nat) => [(14, iv (k : Int)), (0, .slice A n c)]) (fun k A n c u' => k ≤ n2 ∧ Kept Dk w5 u' ∧ OM Dk w0 u' A n c (ms ++ (lossL d x hour i ++ childL d x hour i d.reaches.length ++ farmL d x hour i k).filter nzM)) (fun k _ _ _ _ => n2 - k) 0 Ak nk ck ⟨rfl, rfl, trivial⟩ ⟨by omega, ku, by rw [show farmL d x hour i 0 = [] from rfl, List.append_nil]; exact Mu⟩ rfl ?_
    clear Mu ku hge
    rintro G2 k2 Ak2 nk2 ck2 u ⟨hk2, ku, Mu⟩
    refine fldA ?_
    refine ld (.slice A2 n2 c2) ((keyD u ku).cell rfl) ?_
    refine len ?_
    refine cD (fun hlt => ?_) (fun hge => ?_)
    · have hlt : k2 < n2 := by omega
      have pk2 := pf0 (k := k2)
      obtain ⟨b, o, cs, r, rfl, hrx, -, -, hc, rfl⟩ := (hfa.kept (keyK u ku) fun b _ hb => hb).at_ hlt
      have hrk := frm_eq hrx
      refine fldA ?_
      refine ld _ ((keyD u ku).cell rfl) ?_
      refine idx k2 rfl hlt ?_
      refine fldA ?_
      refine ld (iv r.reach) (hc 1 _ rfl) ?_
      refine cE (fun hup => ?_) (fun hup => ?_)
      · obtain ⟨f3, p3, R3, s3', u3, hA3, cc3, r3, -⟩ := row_at (i6.kept (keyK u ku) fun b _ hb => hb) (i := k2) (by omega)
        have v3a := (numB_iff.1 (tab_row hf.taken (i := k2) (by omega)).2).1
        have v3b := r3.len
        obtain ⟨a3, b3, rfl, v3⟩ := num_at r3 (k := hour) (by omega)
        subst hA3
        refine drawP (.take 0 (.take 1 (.take 2 (.take 3 (.take 4 (.take 5 (.take 6 (.take 7 (.take 8 (.take 9 (.take 10 (.take 11 (.bar (.eff 12 (.take 13 .done))))))))))))))) [12, 13] (fun y => y = u) mx (by kernel_rfl) rfl ?_
        refine ldA [iv 2, iv (i : Int)] (.blk (keyT u ku)) rfl ?_
        refine bld [iv 5, iv (k2 : Int)] (by kernel_rfl) ?_
        refine fldA ?_
        refine ld _ ((keyX u ku).cell rfl) ?_
        refine idx k2 rfl (by omega) ?_
        refine ld _ cc3 ?_
        refine idx hour rfl (by omega) ?_
        refine ld _ v3 ?_
        refine barS (fun _ => True) trivial ?_
        refine call_of (c_r23move Mu (keyL u ku) (fa _ (by rw [List.length_append, List.length_append]; omega))) ?_
        rintro _ u2 ⟨Ax, nx, cx, rfl, Mx, kx⟩
        refine strS trivial ?_
        refine arI (by have := hfa.le; omega) ?_
        refine next4 (k2 + 1) Ax nx cx ⟨by rw [Int.natCast_add]; rfl, rfl, trivial⟩ ⟨by omega, ku.trans kx, ?_⟩ (by omega)
        rw [farmL_succ, hrk, if_pos hup, ← List.append_assoc, ← cat]; exact Mx
      · refine arI (by have := hfa.le; omega) ?_
        refine next4 (k2 + 1) Ak2 nk2 ck2 ⟨by rw [Int.natCast_add]; rfl, rfl, trivial⟩ ⟨by omega, ku, ?_⟩ (by omega)
        rw [farmL_succ, hrk, if_neg hup, List.append_nil]; exact Mu
    rw [show k2 = d.farms.length by omega] at Mu
    have pk2 := pf0 (k := d.farms.length)
    obtain ⟨f7, p7, R7, s7', u7, hA7, cc7, r7, -⟩ := row_at (i7.kept (keyK u ku) fun b _ hb => hb) (i := i) (by omega)
    have v7a := (numB_iff.1 (tab_row hf.tail hi).2).1
    have v7b := r7.len
    obtain ⟨a7, b7, rfl, v7⟩ := num_at r7 (k := hour) (by omega)
    subst hA7
    refine drawP (.take 0 (.take 1 (.take 2 (.take 3 (.take 4 (.take 5 (.take 6 (.take 7 (.take 8 (.take 9 (.take 10 (.take 11 (.bar (.eff 12 (.take 13 .done))))))))))))))) [12, 13] (fun y => y = u) mx (by kernel_rfl) rfl ?_
    refine ldA [iv 2, iv (i : Int)] (.blk (keyT u ku)) rfl ?_
    refine bld [iv 6, iv (i : Int)] (by kernel_rfl) ?_
    refine fldA ?_
    refine ld _ ((keyX u ku).cell rfl) ?_
    refine idx i rfl (by omega) ?_
    refine ld _ cc7 ?_
    refine idx hour rfl (by omega) ?_
    refine ld _ v7 ?_
    refine barS (fun _ => True) trivial ?_
    refine call_of (c_r23move Mu (keyL u ku) (fa _ (by rw [List.length_append, List.length_append]; omega))) ?_
    rintro _ u2 ⟨Ax, nx, cx, rfl, Mx, kx⟩
    refine strS trivial ?_
    refine ret1 (.slice Ax nx cx) rfl ⟨Ax, nx, cx, rfl, ?_, ?_⟩
    · have := Mx.sub (D2 := D) dkD
      rw [cat] at this
      unfold endL
      exact this
    · exact (Ext.any x05).then (ku.trans kx) fun b _ hb => dkD b hb
end
end Go.Proofs.Ytpmfeplifgmdhaa

/- Made by gen_XBg.py. Layer 23: the reference's Moves; Few. -/
namespace Go.Proofs.Ytpmfeplifgmdhaa
open Go Go.RowKit

theorem hErr_most {d : Dist} {x : Run} {hour m : Int} (hm : bErr d x = 0 → m = d.hours - 1) : hErr d x hour m = hErr d x hour (d.hours - 1) := by
  by_cases h : bErr d x = 0
  · rw [hm h]
  · unfold hErr; rw [if_pos h, if_pos h]
section
variable {D : Nat → Prop} {w : World}
theorem c_r23Moves {csd csx : List Value} {d : Dist} {x : Run} {hour : Int} (hd : DiR D w csd d) (hx : RuR D w csx x) : CallZ Try.prog 18 #[.agg csd.toArray, .agg csx.toArray, iv hour] w
    (fun v w' => Ext w w' ∧ ∃ A n c, v = .tuple #[.slice A n c, iv (hErr d x hour (d.hours - 1))] ∧ SlR tMv (fun b => w.heap.size ≤ b) w' A n (movV d x hour) ∧ n ≤ c) := by
  have hd := hd.more (D' := fun b => b < w.heap.size) fun b hb _ => hb
  have hx := hx.more (D' := fun b => b < w.heap.size) fun b hb _ => hb
  obtain ⟨A1, n1, c1, A2, n2, c2, A3, n3, c3, A4, n4, c4, A5, n5, c5, A6, n6, c6, rfl, hr, hfa, -⟩ := hd.ex
  obtain ⟨B1, m1, e1, B2, m2, e2, B3, m3, e3, B4, m4, e4, B5, m5, e5, B6, m6, e6, B7, m7, e7, rfl, i1, i2, i3, i4, i5, i6, i7, -⟩ := hx.ex
  have ln := hr.len
  have lf := hfa.len
  have k1 := i1.len
  have k2 := i2.len
  have k3 := i3.len
  have k4 := i4.len
  have k5 := i5.len
  have k6 := i6.len
  have k7 := i7.len
  refine fn_rule (args := [.agg #[.string d.name, iv d.hours, iv d.cap, iv d.start, .slice A1 n1 c1, .slice A2 n2 c2, .slice A3 n3 c3, .slice A4 n4 c4, .slice A5 n5 c5, .slice A6 n6 c6], .agg #[.slice B1 m1 e1, .slice B2 m2 e2, .slice B3 m3 e3, .slice B4 m4 e4, .slice B5 m5 e5, .slice B6 m6 e6, .slice B7 m7 e7], iv hour]) Try.func18 (by kernel_rfl) ?_
  refine box (fun bd w1 h1 => ?_)
  refine box (fun bx w2 h2 => ?_)
  have x2 := h1.ext.trans h2.ext
  have Bd := h1.blk.ext h2.ext
  have Bx := h2.blk
  refine ldA _ (.blk Bd) rfl ?_
  refine ldA _ (.blk Bx) rfl ?_
  refine fldA ?_
  refine ld (iv d.hours) (Bd.cell rfl) ?_
  refine arW ?_
  obtain ⟨m, hmw⟩ : ∃ m, m = IntKind.i64.wrap (d.hours - 1) := ⟨_, rfl⟩
  rw [← hmw]
  have hmm : bErr d x = 0 → m = d.hours - 1 := fun h => by
    obtain ⟨h1, h2⟩ := (valid_bounds (bErr_ok.1 h).1.1 (bErr_ok.1 h).1.2).2
    rw [hmw, i64_wrap_id (by omega)]
  clear hmw
  refine call_of (c_r23asked (most := m) (hd.ext x2) (hx.ext x2)) ?_
  rintro _ w3 ⟨rfl, x3⟩
  rw [hErr_most hmm]
  have x23 := x2.trans x3
  refine cN (fun q1 => ?_) (fun q1 => ?_)
  · refine ret2 (.slice none 0 0) (iv (hErr d x hour (d.hours - 1))) rfl rfl ⟨x23, none, 0, 0, rfl, ?_, Nat.le_refl _⟩
    unfold movV; rw [if_neg q1]; exact .nil
  have q1' : hErr d x hour (d.hours - 1) = 0 := q1
  obtain ⟨e0, h0, hm⟩ := hErr_ok.1 q1'
  obtain ⟨hf, hR⟩ := bErr_fm e0
  obtain ⟨T, hk⟩ : ∃ k : Nat, hour = (k : Int) := ⟨hour.toNat, by omega⟩
  have hkn : hour.toNat = T := by omega
  have hmv : movV d x hour = (movesL d x T).filter nzM := by unfold movV; rw [if_pos q1', hkn]
  generalize hH : d.hours.toNat = H at hf
  have hf1 := (numB_iff.1 hf.inflow).1
  have hf2 := (numB_iff.1 hf.spill).1
  have hf3 := (tabB_iff.1 hf.inn).1
  have hf4 := (tabB_iff.1 hf.evap).1
  have hf5 := (tabB_iff.1 hf.seep).1
  have hf6 := (tabB_iff.1 hf.taken).1
  have hf7 := (tabB_iff.1 hf.tail).1
  have hHi := hf.hours
  have hH1 := hf.h1
  have hH2 := hf.h2
  have hnr := hf.nr
  have hnr' := hf.nr'
  have hnf := hf.nf
  rw [q1', hmv]
  have hTH : T < H := by omega
  refine bld [iv 1, iv 0] (by kernel_rfl) ?_
  refine alloc (fun t w4 h4 => ?_)
  refine stA (vs := [iv 1, iv 0]) h4.blk rfl (Nat.le_of_ble_eq_true rfl) (by simp [Value.oneCell']) (fun w5 tb s5 z5 => ?_)
  have y4 := h4.at_
  have s4 := h4.size
  have x35 : Ext w3 w5 := h4.ext.then s5 fun b hb _ e => by omega
  have x05 := x23.trans x35
  have Bd5 := (Bd.ext x3).ext x35
  have Bx5 := (Bx.ext x3).ext x35
  have cat : ∀ L K : List Mv, L.filter nzM ++ K.filter nzM = (L ++ K).filter nzM := fun L K => by rw [List.filter_append]
  have keyK : ∀ u, Kept (fun b => b < w5.heap.size) w5 u → Kept (fun b => b < w.heap.size) w u := fun u k => (Ext.any x05).then k fun b _ hb => by have := x05.size; omega
  have keyE : ∀ u, Kept (fun b => b < w5.heap.size) w5 u → Ext w u := fun u k => x05.then k fun b hb _ => by have := x05.size; omega
  have M5 : OM (fun b => b < w5.heap.size) w w5 none 0 0 (([] : List Mv).filter nzM) := ⟨OwnF.nil x05, fun g hg => by cases hg⟩
  have hL : ∀ u, Kept (fun b => b < w5.heap.size) w5 u → ∀ b, b < w5.heap.size → b < u.heap.size := fun u k b hb => Nat.lt_of_lt_of_le hb k.size
  have fl : ∀ l : List Mv, (l.filter nzM).length ≤ l.length := fun l => List.length_filter_le _ _
  obtain ⟨fa, fb, rfl, v1⟩ := num_at (i1.ext x05) (k := T) (by omega)
  refine drawP (.take 0 (.take 1 (.take 2 (.take 3 (.take 4 (.take 5 (.take 6 (.bar (.eff 7 (.take 8 .done)))))))))) [7, 8] (fun u => u = w5) mx (by kernel_rfl) rfl ?_
  refine bld [iv 0, iv 0] (by kernel_rfl) ?_
  refine ldA [iv 1, iv 0] (.blk tb) rfl ?_
  refine fldA ?_
  refine ld _ (Bx5.cell rfl) ?_
  refine idx T hk (by omega) ?_
  refine ld _ v1 ?_
  refine barS (fun _ => True) trivial ?_
  refine call_of (c_r23move M5 (fun b hb => hb) (by simp)) ?_
  rintro _ w6 ⟨A6', n6', c6', rfl, M6, k6⟩
  refine strS trivial ?_
  obtain ⟨ga, gb, rfl, v2⟩ := num_at (i2.kept (keyK w6 k6) fun b _ hb => hb) (k := T) (by omega)
  refine drawP (.take 0 (.take 1 (.take 2 (.take 3 (.take 4 (.take 5 (.take 6 (.take 7 (.bar (.eff 8 (.take 9 .done))))))))))) [8, 9] (fun u => u = w6) mx (by kernel_rfl) rfl ?_
  refine ldA [iv 1, iv 0] (.blk (tb.kept k6 tb.lt)) rfl ?_
  refine bld [iv 7, iv 0] (by kernel_rfl) ?_
  refine fldA ?_
  refine ld _ ((Bx5.kept k6 Bx5.lt).cell rfl) ?_
  refine idx T hk (by omega) ?_
  refine ld _ v2 ?_
  refine barS (fun _ => True) trivial ?_
  rw [cat] at M6
  refine call_of (c_r23move M6 (hL w6 k6) (Nat.le_trans (fl _) (by simp))) ?_
  rintro _ w7 ⟨A7, n7, c7, rfl, M7, k67⟩
  refine strS trivial ?_
  have k7 := k6.trans k67
  obtain ⟨f3, p3, R3, s3, u3, hA3, cc3, r3, -⟩ := row_at (i3.kept (keyK w7 k7) fun b _ hb => hb) (i := 0) (by omega)
  have v3a := (numB_iff.1 (tab_row hf.inn hnr).2).1
  have v3b := r3.len
  obtain ⟨a3, b3, rfl, v3⟩ := num_at r3 (k := T) (by omega)
  subst hA3
  refine drawP (.take 0 (.take 1 (.take 2 (.take 3 (.take 4 (.take 5 (.take 6 (.take 7 (.take 8 (.take 9 (.bar (.eff 10 (.take 11 .done))))))))))))) [10, 11] (fun u => u = w7) mx (by kernel_rfl) rfl ?_
  refine ldA [iv 1, iv 0] (.blk (tb.kept k7 tb.lt)) rfl ?_
  refine bld [iv 2, iv 0] (by kernel_rfl) ?_
  refine fldA ?_
  refine ld _ ((Bx5.kept k7 Bx5.lt).cell rfl) ?_
  refine idx 0 rfl (by omega) ?_
  refine ld _ cc3 ?_
  refine idx T hk (by omega) ?_
  refine ld _ v3 ?_
  refine barS (fun _ => True) trivial ?_
  rw [cat] at M7
  refine call_of (c_r23move M7 (hL w7 k7) (Nat.le_trans (fl _) (by simp))) ?_
  rintro _ w8 ⟨A8, n8, c8, rfl, M8, k78⟩
  refine strS trivial ?_
  have k8 := k7.trans k78
  rw [cat] at M8
  have p0 : prefL d x T 0 = headL x T := by simp [prefL]
  have M8' : OM (fun b => b < w5.heap.size) w w8 A8 n8 c8 ((prefL d x T 0).filter nzM) := by rw [p0]; exact M8
  refine loop4 (fun (k : Nat) (A : Option Addr) (n c : Nat) => [(11, iv (k : Int)), (10, .slice A n c)]) (fun k A n c u => k ≤ n1 ∧ Kept (fun b => b < w5.heap.size) w5 u ∧ OM (fun b => b < w5.heap.size) w u A n c ((prefL d x T k).filter nzM)) (fun k _ _ _ _ => n1 - k) 0 A8 n8 c8 ⟨rfl, rfl, trivial⟩ ⟨by omega, k8, M8'⟩ rfl ?_
  rintro G k Ak nk ck u ⟨hk1, ku, Mu⟩
  have Bdu := Bd5.kept ku Bd5.lt
  refine fldA ?_
  refine ld (.slice A1 n1 c1) (Bdu.cell rfl) ?_
  refine len ?_
  refine cD (fun hlt => ?_) (fun hge => ?_)
  · have hlt : k < n1 := by omega
    have hpl := prefL_len (d := d) (x := x) (hour := T) hnr' hnf k
    have xu := keyE u ku
    refine ldA _ (.blk Bdu) rfl ?_
    refine ldA _ (.blk (Bx5.kept ku Bx5.lt)) rfl ?_
    rw [hk]
    refine call_of (c_r23out (i := k) (hour := T) Mu (hL u ku) (fun b _ hb => by have := x05.size; omega) (Nat.le_trans (fl _) (by omega)) (hd.ext xu) (hx.ext xu) hf (by omega) hTH) ?_
    rintro _ u2 ⟨Ax, nx, cx, rfl, Mx, kx⟩
    refine arI (by have := hr.le; omega) ?_
    refine next4 (k + 1) Ax nx cx ⟨by rw [Int.natCast_add]; rfl, rfl, trivial⟩ ⟨by omega, ku.trans kx, ?_⟩ (by omega)
    rw [prefL_succ, ← cat]; exact Mx
  · have hkn : k = d.reaches.length := by omega
    have hml := Mu.o.own.len
    rw [mvs_len] at hml
    have hpl := prefL_len (d := d) (x := x) (hour := T) hnr' hnf k
    have hfl := fl (prefL d x T k)
    refine ret2 (.slice Ak nk ck) (iv 0) rfl rfl ⟨keyE u ku, Ak, nk, ck, rfl, ?_, Mu.o.le⟩
    have : (movesL d x T).filter nzM = (prefL d x T k).filter nzM := by unfold movesL; rw [← hkn]
    rw [this]
    exact Mu.o.own.rd flat_mvs (by omega) (by omega) Mu.o.new
end
end Go.Proofs.Ytpmfeplifgmdhaa

/- Made by gen_XBh.py. Layer 23: the reference's Accounts. -/
namespace Go.Proofs.Ytpmfeplifgmdhaa
open Go Go.RowKit

def rS (l : List Int) (m : Int) : Int := (l.take m.toNat).sum
theorem rS_b {H : Nat} {l : List Int} (h : numB H l = true) (m : Int) : 0 ≤ rS l m ∧ rS l m ≤ H * 1073741824 := by
  obtain ⟨h1, h2⟩ := numB_iff.1 h
  have h3 := sum_bound (l := l.take m.toNat) fun y hy => h2 y (List.mem_of_mem_take hy)
  have h4 := List.length_take_le' m.toNat l
  unfold rS
  have : ((l.take m.toNat).length : Int) ≤ H := by omega
  omega
def raW (d : Dist) (x : Run) (T k : Nat) : List Ac := (List.range k).map fun i : Nat => ⟨2, i, rS (x.inn.getD i []) T - rS (x.inn.getD i []) (T - (rch d i).delay)⟩
def raD (kd : Int) (ls : List (List Int)) (d : Dist) (T k : Nat) : List Ac := (List.range k).map fun i : Nat => ⟨kd, i, rS (ls.getD i []) (T - (rch d i).delay)⟩
def raT (kd : Int) (ls : List (List Int)) (T k : Nat) : List Ac := (List.range k).map fun i : Nat => ⟨kd, i, rS (ls.getD i []) T⟩
def raccL (d : Dist) (x : Run) (T : Nat) : List Ac := [⟨1, 0, storeN d x T⟩] ++ raW d x T d.reaches.length ++ raD 3 x.evap d T d.reaches.length ++ raD 4 x.seep d T d.reaches.length ++ raT 5 x.taken T d.farms.length ++ raT 6 x.tail T d.reaches.length ++ [⟨7, 0, rS x.spill T⟩]
theorem raW_succ {d : Dist} {x : Run} {T k : Nat} : raW d x T (k + 1) = raW d x T k ++ [⟨2, k, rS (x.inn.getD k []) T - rS (x.inn.getD k []) (T - (rch d k).delay)⟩] := by unfold raW; rw [List.range_succ, List.map_append]; rfl
theorem raD_succ {kd : Int} {ls : List (List Int)} {d : Dist} {T k : Nat} : raD kd ls d T (k + 1) = raD kd ls d T k ++ [⟨kd, k, rS (ls.getD k []) (T - (rch d k).delay)⟩] := by unfold raD; rw [List.range_succ, List.map_append]; rfl
theorem raT_succ {kd : Int} {ls : List (List Int)} {T k : Nat} : raT kd ls T (k + 1) = raT kd ls T k ++ [⟨kd, k, rS (ls.getD k []) T⟩] := by unfold raT; rw [List.range_succ, List.map_append]; rfl
section
variable {D : Nat → Prop} {w : World}
theorem c_sumS {l : List Int} {A : Option Addr} {n c H : Nat} {many : Int} (hs : SlR tInt D w A n l) (hb : numB H l = true) (hH : H ≤ 4096) : CallZ Try.prog 35 #[.slice A n c, iv many] w (fun v w' => v = iv (rS l many) ∧ w' = w) := by
  obtain ⟨h1, h2⟩ := numB_iff.1 hb
  exact c_r23sum hs h2 (by have := hs.len; omega)
set_option maxRecDepth 4000 in
set_option maxHeartbeats 1600000 in
theorem c_r23Accounts {csd csx : List Value} {d : Dist} {x : Run} {hour : Int} (hd : DiR D w csd d) (hx : RuR D w csx x) : CallZ Try.prog 16 #[.agg csd.toArray, .agg csx.toArray, iv hour] w
    (fun v w' => ∃ A n c, v = .tuple #[.slice A n c, iv (hErr d x hour d.hours)] ∧ OwnF w w' A n c 53 3 (acs (if hErr d x hour d.hours = 0 then raccL d x hour.toNat else []))) := by
  have hd := hd.more (D' := fun b => b < w.heap.size) fun b hb _ => hb
  have hx := hx.more (D' := fun b => b < w.heap.size) fun b hb _ => hb
  obtain ⟨A1, n1, c1, A2, n2, c2, A3, n3, c3, A4, n4, c4, A5, n5, c5, A6, n6, c6, rfl, hr, hfa, -⟩ := hd.ex
  obtain ⟨B1, m1, e1, B2, m2, e2, B3, m3, e3, B4, m4, e4, B5, m5, e5, B6, m6, e6, B7, m7, e7, rfl, i1, i2, i3, i4, i5, i6, i7, -⟩ := hx.ex
  have ln := hr.len
  have lf := hfa.len
  have k1 := i1.len
  have k2 := i2.len
  have k3 := i3.len
  have k4 := i4.len
  have k5 := i5.len
  have k6 := i6.len
  have k7 := i7.len
  refine fn_rule (args := [.agg #[.string d.name, iv d.hours, iv d.cap, iv d.start, .slice A1 n1 c1, .slice A2 n2 c2, .slice A3 n3 c3, .slice A4 n4 c4, .slice A5 n5 c5, .slice A6 n6 c6], .agg #[.slice B1 m1 e1, .slice B2 m2 e2, .slice B3 m3 e3, .slice B4 m4 e4, .slice B5 m5 e5, .slice B6 m6 e6, .slice B7 m7 e7], iv hour]) Try.func16 (by kernel_rfl) ?_
  refine box (fun bd w1 h1 => ?_)
  refine box (fun bx w2 h2 => ?_)
  have x2 := h1.ext.trans h2.ext
  have Bd := h1.blk.ext h2.ext
  have Bx := h2.blk
  refine ldA _ (.blk Bd) rfl ?_
  refine ldA _ (.blk Bx) rfl ?_
  refine fldA ?_
  refine ld (iv d.hours) (Bd.cell rfl) ?_
  refine call_of (c_r23asked (most := d.hours) (hd.ext x2) (hx.ext x2)) ?_
  rintro _ w3 ⟨rfl, x3⟩
  have x23 := x2.trans x3
  refine cN (fun q1 => ?_) (fun q1 => ?_)
  · refine ret2 (.slice none 0 0) (iv (hErr d x hour d.hours)) rfl rfl ⟨none, 0, 0, rfl, ?_⟩
    rw [if_neg q1]; exact OwnF.nil x23
  have q1' : hErr d x hour d.hours = 0 := q1
  obtain ⟨e0, h0, hm⟩ := hErr_ok.1 q1'
  obtain ⟨hf, hR⟩ := bErr_fm e0
  have hcap := headOk_iff.1 (validB_iff.1 (bErr_ok.1 e0).1.2).1
  obtain ⟨T, hk⟩ : ∃ k : Nat, hour = (k : Int) := ⟨hour.toNat, by omega⟩
  have hkn : hour.toNat = T := by omega
  generalize hH : d.hours.toNat = H at hf
  have hf1 := (numB_iff.1 hf.inflow).1
  have hf2 := (numB_iff.1 hf.spill).1
  have hf3 := (tabB_iff.1 hf.inn).1
  have hf4 := (tabB_iff.1 hf.evap).1
  have hf5 := (tabB_iff.1 hf.seep).1
  have hf6 := (tabB_iff.1 hf.taken).1
  have hf7 := (tabB_iff.1 hf.tail).1
  have hHi := hf.hours
  have hH1 := hf.h1
  have hH2 := hf.h2
  have hnr := hf.nr
  have hnr' := hf.nr'
  have hnf := hf.nf
  rw [q1', if_pos rfl, hkn]
  have Bd3 := Bd.ext x3
  have Bx3 := Bx.ext x3
  refine fldA ?_
  refine ld (.slice A1 n1 c1) (Bd3.cell rfl) ?_
  refine len ?_
  refine ldA _ (.blk Bd3) rfl ?_
  refine ldA _ (.blk Bx3) rfl ?_
  rw [hk]
  refine call_of (c_r23stored (hour := T) (hd.ext x23) (hx.ext x23) hf (by omega) (by omega)) ?_
  rintro _ w4 ⟨rfl, x4⟩
  refine bld [iv 1, iv 0, iv (storeN d x T)] (by kernel_rfl) ?_
  refine lit [.agg #[iv 1, iv 0, iv (storeN d x T)]] (fun g w5 hb5 => ?_)
  have x04 := x23.trans x4
  have O5 : OwnF w4 w5 (some (ad g 0)) 1 1 53 3 (acs [⟨1, 0, storeN d x T⟩]) := OwnF.lit (.refl _ _) hb5 rfl
  have Bd4 := Bd3.ext x4
  have Bx4 := Bx3.ext x4
  refine loop4 (fun (k : Nat) (A : Option Addr) (n c : Nat) => [(11, iv (k : Int)), (10, .slice A n c)]) (fun k A n c u => k ≤ n1 ∧ OwnF w4 u A n c 53 3 (acs (([⟨1, 0, storeN d x T⟩] : List Ac) ++ raW d x T k))) (fun k _ _ _ _ => n1 - k) 0 (some (ad g 0)) (1) (1) ⟨rfl, rfl, trivial⟩ ⟨by omega, by rw [show raW d x T 0 = [] from rfl, List.append_nil]; exact O5⟩ rfl ?_
  rintro G1 k1 A1' n1' c1' u1 ⟨hk1, O1'⟩
  have xu1 := O1'.ext
  have l1' := O1'.own.len
  rw [acs_len] at l1'
  simp only [List.length_append, List.length_cons, List.length_nil, raW, List.length_map, List.length_range] at l1'
  refine cD (fun hlt => ?_) (fun hge1 => ?_)
  · have hlt : k1 < n1 := by omega
    have hin : k1 < d.reaches.length := by omega
    have xw := x04.trans xu1
    obtain ⟨f3, p3, R3, s3, ug, hA3, cc3, r3, -⟩ := row_at (i3.ext xw) (i := k1) (by omega)
    have nr3 := (tab_row hf.inn hin).2
    subst hA3
    have sb := rS_b nr3 (T : Int)
    obtain ⟨b, o, cs, r, hAr, hrx, -, -, hcr, rfl⟩ := (hr.ext xw).at_ hlt
    subst hAr
    have hrr := rch_eq hrx
    obtain ⟨-, -, d1, d2⟩ := hf.at_ hrx
    have sb2 := rS_b nr3 ((T : Int) - (rch d k1).delay)
    refine drawP (.take 0 (.take 1 (.take 2 (.take 3 (.take 4 (.take 5 (.take 6 (.take 7 (.take 8 (.take 9 (.take 10 (.take 11 (.take 12 (.take 13 (.take 14 (.take 15 (.take 16 (.take 17 (.take 18 (.take 19 (.take 20 (.take 21 (.take 22 (.take 23 (.take 24 (.bar (.eff 25 (.eff 26 (.take 27 .done))))))))))))))))))))))))))))) [25, 26, 27] (fun y => y = u1) mx (by kernel_rfl) rfl ?_
    refine fldA ?_
    refine ld _ ((Bx4.ext xu1).cell rfl) ?_
    refine idx k1 rfl (by omega) ?_
    refine ld _ cc3 ?_
    refine callQ (fun y hy => by rw [hy]; exact c_sumS r3 nr3 hH2) ?_
    refine fldA ?_
    refine ld _ ((Bx4.ext xu1).cell rfl) ?_
    refine idx k1 rfl (by omega) ?_
    refine ld _ cc3 ?_
    refine fldA ?_
    refine ld _ ((Bd4.ext xu1).cell rfl) ?_
    refine idx k1 rfl (by omega) ?_
    refine fldA ?_
    refine ld (iv r.delay) (hcr 2 _ rfl) ?_
    refine arE ((T : Int) - (rch d k1).delay) (by rw [hrr]) (by rw [hrr]; omega) ?_
    refine callQ (fun y hy => by rw [hy]; exact c_sumS r3 nr3 hH2) ?_
    refine arE (rS (x.inn.getD k1 []) T - rS (x.inn.getD k1 []) (T - (rch d k1).delay)) rfl (by omega) ?_
    refine bld [iv 2, iv (k1 : Int), iv (rS (x.inn.getD k1 []) T - rS (x.inn.getD k1 []) (T - (rch d k1).delay))] (by kernel_rfl) ?_
    refine barS (fun _ => True) trivial ?_
    refine lit [.agg #[iv 2, iv (k1 : Int), iv (rS (x.inn.getD k1 []) T - rS (x.inn.getD k1 []) (T - (rch d k1).delay))]] (fun gq v4 hq => ?_)
    refine strS trivial ?_
    refine appF (O1'.then hq.ext) (hq.src (sz := 3) rfl) (by omega) (fun A' c' v5 o5 kap hA' => ?_)
    refine strS trivial ?_
    refine arI (by omega) ?_
    refine next4 (k1 + 1) A' (n1' + 1) c' ⟨by rw [Int.natCast_add]; rfl, rfl, trivial⟩ ⟨by omega, ?_⟩ (by omega)
    rw [raW_succ, ← List.append_assoc, acs_app]; exact o5
  rw [show k1 = d.reaches.length by omega] at O1'
  refine loop4 (fun (k : Nat) (A : Option Addr) (n c : Nat) => [(12, iv (k : Int)), (10, .slice A n c)]) (fun k A n c u => k ≤ n1 ∧ OwnF w4 u A n c 53 3 (acs ((([⟨1, 0, storeN d x T⟩] : List Ac) ++ raW d x T d.reaches.length) ++ raD 3 x.evap d T k))) (fun k _ _ _ _ => n1 - k) 0 (A1') (n1') (c1') ⟨rfl, rfl, trivial⟩ ⟨by omega, by rw [show raD 3 x.evap d T 0 = [] from rfl, List.append_nil]; exact O1'⟩ rfl ?_
  rintro G2 k2 A2' n2' c2' u2 ⟨hk2, O2'⟩
  have xu2 := O2'.ext
  have l2' := O2'.own.len
  rw [acs_len] at l2'
  simp only [List.length_append, List.length_cons, List.length_nil, raW, raD, List.length_map, List.length_range] at l2'
  refine cD (fun hlt => ?_) (fun hge2 => ?_)
  · have hlt : k2 < n1 := by omega
    have hin : k2 < d.reaches.length := by omega
    have xw := x04.trans xu2
    obtain ⟨f3, p3, R3, s3, ug, hA3, cc3, r3, -⟩ := row_at (i4.ext xw) (i := k2) (by omega)
    have nr3 := (tab_row hf.evap hin).2
    subst hA3
    have sb := rS_b nr3 (T : Int)
    obtain ⟨b, o, cs, r, hAr, hrx, -, -, hcr, rfl⟩ := (hr.ext xw).at_ hlt
    subst hAr
    have hrr := rch_eq hrx
    obtain ⟨-, -, d1, d2⟩ := hf.at_ hrx
    have sb2 := rS_b nr3 ((T : Int) - (rch d k2).delay)
    refine drawP (.take 0 (.take 1 (.take 2 (.take 3 (.take 4 (.take 5 (.take 6 (.take 7 (.take 8 (.take 9 (.take 10 (.take 11 (.take 12 (.take 13 (.take 14 (.take 15 (.take 16 (.bar (.eff 17 (.eff 18 (.take 19 .done))))))))))))))))))))) [17, 18, 19] (fun y => y = u2) mx (by kernel_rfl) rfl ?_
    refine fldA ?_
    refine ld _ ((Bx4.ext xu2).cell rfl) ?_
    refine idx k2 rfl (by omega) ?_
    refine ld _ cc3 ?_
    refine fldA ?_
    refine ld _ ((Bd4.ext xu2).cell rfl) ?_
    refine idx k2 rfl (by omega) ?_
    refine fldA ?_
    refine ld (iv r.delay) (hcr 2 _ rfl) ?_
    refine arE ((T : Int) - (rch d k2).delay) (by rw [hrr]) (by rw [hrr]; omega) ?_
    refine callQ (fun y hy => by rw [hy]; exact c_sumS r3 nr3 hH2) ?_
    refine bld [iv 3, iv (k2 : Int), iv (rS (x.evap.getD k2 []) (T - (rch d k2).delay))] (by kernel_rfl) ?_
    refine barS (fun _ => True) trivial ?_
    refine lit [.agg #[iv 3, iv (k2 : Int), iv (rS (x.evap.getD k2 []) (T - (rch d k2).delay))]] (fun gq v4 hq => ?_)
    refine strS trivial ?_
    refine appF (O2'.then hq.ext) (hq.src (sz := 3) rfl) (by omega) (fun A' c' v5 o5 kap hA' => ?_)
    refine strS trivial ?_
    refine arI (by omega) ?_
    refine next4 (k2 + 1) A' (n2' + 1) c' ⟨by rw [Int.natCast_add]; rfl, rfl, trivial⟩ ⟨by omega, ?_⟩ (by omega)
    rw [raD_succ, ← List.append_assoc, acs_app]; exact o5
  rw [show k2 = d.reaches.length by omega] at O2'
  refine loop4 (fun (k : Nat) (A : Option Addr) (n c : Nat) => [(13, iv (k : Int)), (10, .slice A n c)]) (fun k A n c u => k ≤ n1 ∧ OwnF w4 u A n c 53 3 (acs (((([⟨1, 0, storeN d x T⟩] : List Ac) ++ raW d x T d.reaches.length) ++ raD 3 x.evap d T d.reaches.length) ++ raD 4 x.seep d T k))) (fun k _ _ _ _ => n1 - k) 0 (A2') (n2') (c2') ⟨rfl, rfl, trivial⟩ ⟨by omega, by rw [show raD 4 x.seep d T 0 = [] from rfl, List.append_nil]; exact O2'⟩ rfl ?_
  rintro G3 k3 A3' n3' c3' u3 ⟨hk3, O3'⟩
  have xu3 := O3'.ext
  have l3' := O3'.own.len
  rw [acs_len] at l3'
  simp only [List.length_append, List.length_cons, List.length_nil, raW, raD, List.length_map, List.length_range] at l3'
  refine cD (fun hlt => ?_) (fun hge3 => ?_)
  · have hlt : k3 < n1 := by omega
    have hin : k3 < d.reaches.length := by omega
    have xw := x04.trans xu3
    obtain ⟨f3, p3, R3, s3, ug, hA3, cc3, r3, -⟩ := row_at (i5.ext xw) (i := k3) (by omega)
    have nr3 := (tab_row hf.seep hin).2
    subst hA3
    have sb := rS_b nr3 (T : Int)
    obtain ⟨b, o, cs, r, hAr, hrx, -, -, hcr, rfl⟩ := (hr.ext xw).at_ hlt
    subst hAr
    have hrr := rch_eq hrx
    obtain ⟨-, -, d1, d2⟩ := hf.at_ hrx
    have sb2 := rS_b nr3 ((T : Int) - (rch d k3).delay)
    refine drawP (.take 0 (.take 1 (.take 2 (.take 3 (.take 4 (.take 5 (.take 6 (.take 7 (.take 8 (.take 9 (.take 10 (.take 11 (.take 12 (.take 13 (.take 14 (.take 15 (.take 16 (.bar (.eff 17 (.eff 18 (.take 19 .done))))))))))))))))))))) [17, 18, 19] (fun y => y = u3) mx (by kernel_rfl) rfl ?_
    refine fldA ?_
    refine ld _ ((Bx4.ext xu3).cell rfl) ?_
    refine idx k3 rfl (by omega) ?_
    refine ld _ cc3 ?_
    refine fldA ?_
    refine ld _ ((Bd4.ext xu3).cell rfl) ?_
    refine idx k3 rfl (by omega) ?_
    refine fldA ?_
    refine ld (iv r.delay) (hcr 2 _ rfl) ?_
    refine arE ((T : Int) - (rch d k3).delay) (by rw [hrr]) (by rw [hrr]; omega) ?_
    refine callQ (fun y hy => by rw [hy]; exact c_sumS r3 nr3 hH2) ?_
    refine bld [iv 4, iv (k3 : Int), iv (rS (x.seep.getD k3 []) (T - (rch d k3).delay))] (by kernel_rfl) ?_
    refine barS (fun _ => True) trivial ?_
    refine lit [.agg #[iv 4, iv (k3 : Int), iv (rS (x.seep.getD k3 []) (T - (rch d k3).delay))]] (fun gq v4 hq => ?_)
    refine strS trivial ?_
    refine appF (O3'.then hq.ext) (hq.src (sz := 3) rfl) (by omega) (fun A' c' v5 o5 kap hA' => ?_)
    refine strS trivial ?_
    refine arI (by omega) ?_
    refine next4 (k3 + 1) A' (n3' + 1) c' ⟨by rw [Int.natCast_add]; rfl, rfl, trivial⟩ ⟨by omega, ?_⟩ (by omega)
    rw [raD_succ, ← List.append_assoc, acs_app]; exact o5
  rw [show k3 = d.reaches.length by omega] at O3'
  refine loop4 (fun (k : Nat) (A : Option Addr) (n c : Nat) => [(14, iv (k : Int)), (10, .slice A n c)]) (fun k A n c u => k ≤ n2 ∧ OwnF w4 u A n c 53 3 (acs ((((([⟨1, 0, storeN d x T⟩] : List Ac) ++ raW d x T d.reaches.length) ++ raD 3 x.evap d T d.reaches.length) ++ raD 4 x.seep d T d.reaches.length) ++ raT 5 x.taken T k))) (fun k _ _ _ _ => n2 - k) 0 (A3') (n3') (c3') ⟨rfl, rfl, trivial⟩ ⟨by omega, by rw [show raT 5 x.taken T 0 = [] from rfl, List.append_nil]; exact O3'⟩ rfl ?_
  rintro G4 k4 A4' n4' c4' u4 ⟨hk4, O4'⟩
  have xu4 := O4'.ext
  have l4' := O4'.own.len
  rw [acs_len] at l4'
  simp only [List.length_append, List.length_cons, List.length_nil, raW, raD, raT, List.length_map, List.length_range] at l4'
  refine fldA ?_
  refine ld (.slice A2 n2 c2) ((Bd4.ext xu4).cell rfl) ?_
  refine len ?_
  refine cD (fun hlt => ?_) (fun hge4 => ?_)
  · have hlt : k4 < n2 := by omega
    have hin : k4 < d.farms.length := by omega
    have xw := x04.trans xu4
    obtain ⟨f3, p3, R3, s3, ug, hA3, cc3, r3, -⟩ := row_at (i6.ext xw) (i := k4) (by omega)
    have nr3 := (tab_row hf.taken hin).2
    subst hA3
    have sb := rS_b nr3 (T : Int)
    refine fldA ?_
    refine ld _ ((Bx4.ext xu4).cell rfl) ?_
    refine idx k4 rfl (by omega) ?_
    refine ld _ cc3 ?_
    refine call_of (c_sumS (many := (T : Int)) r3 nr3 hH2) ?_
    rintro _ uq ⟨rfl, huq⟩
    rw [huq]
    clear huq uq
    refine bld [iv 5, iv (k4 : Int), iv (rS (x.taken.getD k4 []) T)] (by kernel_rfl) ?_
    refine lit [.agg #[iv 5, iv (k4 : Int), iv (rS (x.taken.getD k4 []) T)]] (fun gq v4 hq => ?_)
    refine appF (O4'.then hq.ext) (hq.src (sz := 3) rfl) (by omega) (fun A' c' v5 o5 kap hA' => ?_)
    refine arI (by omega) ?_
    refine next4 (k4 + 1) A' (n4' + 1) c' ⟨by rw [Int.natCast_add]; rfl, rfl, trivial⟩ ⟨by omega, ?_⟩ (by omega)
    rw [raT_succ, ← List.append_assoc, acs_app]; exact o5
  rw [show k4 = d.farms.length by omega] at O4'
  refine loop4 (fun (k : Nat) (A : Option Addr) (n c : Nat) => [(15, iv (k : Int)), (10, .slice A n c)]) (fun k A n c u => k ≤ n1 ∧ OwnF w4 u A n c 53 3 (acs (((((([⟨1, 0, storeN d x T⟩] : List Ac) ++ raW d x T d.reaches.length) ++ raD 3 x.evap d T d.reaches.length) ++ raD 4 x.seep d T d.reaches.length) ++ raT 5 x.taken T d.farms.length) ++ raT 6 x.tail T k))) (fun k _ _ _ _ => n1 - k) 0 (A4') (n4') (c4') ⟨rfl, rfl, trivial⟩ ⟨by omega, by rw [show raT 6 x.tail T 0 = [] from rfl, List.append_nil]; exact O4'⟩ rfl ?_
  rintro G5 k5 A5' n5' c5' u5 ⟨hk5, O5'⟩
  have xu5 := O5'.ext
  have l5' := O5'.own.len
  rw [acs_len] at l5'
  simp only [List.length_append, List.length_cons, List.length_nil, raW, raD, raT, List.length_map, List.length_range] at l5'
  refine cD (fun hlt => ?_) (fun hge5 => ?_)
  · have hlt : k5 < n1 := by omega
    have hin : k5 < d.reaches.length := by omega
    have xw := x04.trans xu5
    obtain ⟨f3, p3, R3, s3, ug, hA3, cc3, r3, -⟩ := row_at (i7.ext xw) (i := k5) (by omega)
    have nr3 := (tab_row hf.tail hin).2
    subst hA3
    have sb := rS_b nr3 (T : Int)
    refine fldA ?_
    refine ld _ ((Bx4.ext xu5).cell rfl) ?_
    refine idx k5 rfl (by omega) ?_
    refine ld _ cc3 ?_
    refine call_of (c_sumS (many := (T : Int)) r3 nr3 hH2) ?_
    rintro _ uq ⟨rfl, huq⟩
    rw [huq]
    clear huq uq
    refine bld [iv 6, iv (k5 : Int), iv (rS (x.tail.getD k5 []) T)] (by kernel_rfl) ?_
    refine lit [.agg #[iv 6, iv (k5 : Int), iv (rS (x.tail.getD k5 []) T)]] (fun gq v4 hq => ?_)
    refine appF (O5'.then hq.ext) (hq.src (sz := 3) rfl) (by omega) (fun A' c' v5 o5 kap hA' => ?_)
    refine arI (by omega) ?_
    refine next4 (k5 + 1) A' (n5' + 1) c' ⟨by rw [Int.natCast_add]; rfl, rfl, trivial⟩ ⟨by omega, ?_⟩ (by omega)
    rw [raT_succ, ← List.append_assoc, acs_app]; exact o5
  rw [show k5 = d.reaches.length by omega] at O5'
  have nr2 := hf.spill
  refine fldA ?_
  refine ld _ ((Bx4.ext xu5).cell rfl) ?_
  refine call_of (c_sumS (many := (T : Int)) (i2.ext (x04.trans xu5)) nr2 hH2) ?_
  rintro _ uq ⟨rfl, huq⟩
  rw [huq]
  clear huq uq
  refine bld [iv 7, iv 0, iv (rS x.spill T)] (by kernel_rfl) ?_
  refine lit [.agg #[iv 7, iv 0, iv (rS x.spill T)]] (fun gq v4 hq => ?_)
  refine appF (O5'.then hq.ext) (hq.src (sz := 3) rfl) (by omega) (fun A' c' v5 o5 kap hA' => ?_)
  refine ret2 (.slice A' (n5' + 1) c') (iv 0) rfl rfl ⟨A', n5' + 1, c', rfl, ?_⟩
  have := o5.base x04
  unfold raccL
  rw [acs_app]
  exact this
end
end Go.Proofs.Ytpmfeplifgmdhaa

/- Layer 23: the reference's Few: it answers some truth. -/
namespace Go.Proofs.Ytpmfeplifgmdhaa
open Go Go.RowKit

section
variable {D : Nat → Prop} {w : World}
theorem c_r23Few {csd csx : List Value} {d : Dist} {x : Run} (hd : DiR D w csd d) (hx : RuR D w csx x) : CallZ Try.prog 10 #[.agg csd.toArray, .agg csx.toArray] w (fun v w' => ∃ b, v = .bool b ∧ Ext w w') := by
  obtain ⟨A1, n1, c1, A2, n2, c2, A3, n3, c3, A4, n4, c4, A5, n5, c5, A6, n6, c6, rfl, hr, hfa, -⟩ := hd.ex
  obtain ⟨B1, m1, e1, B2, m2, e2, B3, m3, e3, B4, m4, e4, B5, m5, e5, B6, m6, e6, B7, m7, e7, rfl, i1, i2, i3, i4, i5, i6, i7, -⟩ := hx.ex
  refine fn_rule (args := [.agg #[.string d.name, iv d.hours, iv d.cap, iv d.start, .slice A1 n1 c1, .slice A2 n2 c2, .slice A3 n3 c3, .slice A4 n4 c4, .slice A5 n5 c5, .slice A6 n6 c6], .agg #[.slice B1 m1 e1, .slice B2 m2 e2, .slice B3 m3 e3, .slice B4 m4 e4, .slice B5 m5 e5, .slice B6 m6 e6, .slice B7 m7 e7]]) Try.func10 (by kernel_rfl) ?_
  refine box (fun bd w1 h1 => ?_)
  refine box (fun bx w2 h2 => ?_)
  have x2 := h1.ext.trans h2.ext
  have Bd := h1.blk.ext h2.ext
  have Bx := h2.blk
  refine ldA _ (.blk Bd) rfl ?_
  refine callE (c_r19Few (hd.ext x2)) (fun w3 _ x3 => ?_) (fun w3 _ x3 => ?_)
  rotate_left
  · exact ret1 (.bool false) rfl ⟨false, rfl, x2.trans x3⟩
  have x23 := x2.trans x3
  have Bd3 := Bd.ext x3
  have Bx3 := Bx.ext x3
  have no : ∃ b, Value.bool false = .bool b ∧ Ext w w3 := ⟨false, rfl, x23⟩
  have yes : ∃ b, Value.bool true = .bool b ∧ Ext w w3 := ⟨true, rfl, x23⟩
  all_goals
    refine fldA ?_
    refine ld (.slice A1 n1 c1) (Bd3.cell rfl) ?_
    refine len ?_
    refine cD (fun _ => ?_) (fun _ => ?_)
    refine fldA ?_
    refine ld (.slice A1 n1 c1) (Bd3.cell rfl) ?_
    refine len ?_
    refine cD (fun _ => ?_) (fun _ => ?_)
    exact ret1 (.bool false) rfl no
  all_goals
    refine fldA ?_
    refine ld (.slice A2 n2 c2) (Bd3.cell rfl) ?_
    refine len ?_
    refine cD (fun _ => ?_) (fun _ => ?_)
    refine fldA ?_
    refine ld (.slice A2 n2 c2) (Bd3.cell rfl) ?_
    refine len ?_
    refine cD (fun _ => ?_) (fun _ => ?_)
    exact ret1 (.bool false) rfl no
  all_goals
    refine fldA ?_
    refine ld (iv d.hours) (Bd3.cell rfl) ?_
    refine cD (fun _ => ?_) (fun _ => ?_)
    refine fldA ?_
    refine ld (iv d.hours) (Bd3.cell rfl) ?_
    refine cD (fun _ => ?_) (fun _ => ?_)
    exact ret1 (.bool false) rfl no
  all_goals
    refine fldA ?_
    refine ld (.slice B1 m1 e1) (Bx3.cell rfl) ?_
    refine len ?_
    refine cDr (fun _ => ?_) (fun _ => ?_)
    exact ret1 (.bool false) rfl no
    refine fldA ?_
    refine ld (.slice B2 m2 e2) (Bx3.cell rfl) ?_
    refine len ?_
    refine cDr (fun _ => ?_) (fun _ => ?_)
    exact ret1 (.bool false) rfl no
    refine fldA ?_
    refine ld (.slice B3 m3 e3) (Bx3.cell rfl) ?_
    refine callS (c_r23short (i3.ext x23)) ?_ ?_
    rotate_left
    exact ret1 (.bool false) rfl no
    refine fldA ?_
    refine ld (.slice B4 m4 e4) (Bx3.cell rfl) ?_
    refine callS (c_r23short (i4.ext x23)) ?_ ?_
    rotate_left
    exact ret1 (.bool false) rfl no
    refine fldA ?_
    refine ld (.slice B5 m5 e5) (Bx3.cell rfl) ?_
    refine callS (c_r23short (i5.ext x23)) ?_ ?_
    rotate_left
    exact ret1 (.bool false) rfl no
    refine fldA ?_
    refine ld (.slice B6 m6 e6) (Bx3.cell rfl) ?_
    refine callS (c_r23short (i6.ext x23)) ?_ ?_
    rotate_left
    exact ret1 (.bool false) rfl no
    refine fldA ?_
    refine ld (.slice B7 m7 e7) (Bx3.cell rfl) ?_
    refine callS (c_r23short (i7.ext x23)) ?_ ?_
    rotate_left
    exact ret1 (.bool false) rfl no
    exact ret1 (.bool true) rfl yes
end
end Go.Proofs.Ytpmfeplifgmdhaa

/- Layer 23, plainly: the accounts of the program and of the reference are alike. -/
namespace Go.Proofs.Ytpmfeplifgmdhaa
open Go Go.RowKit

theorem rS_step {H : Nat} {l : List Int} (h : numB H l = true) {m : Int} (hm : m < H) : rS l (m + 1) = rS l m + (if 0 ≤ m then g1 l m.toNat else 0) := by
  have h1 := (numB_iff.1 h).1
  unfold rS
  by_cases h0 : 0 ≤ m
  · rw [if_pos h0, show (m + 1).toNat = m.toNat + 1 by omega, sum_take (by omega)]
  · rw [if_neg h0, show (m + 1).toNat = 0 by omega, show m.toNat = 0 by omega]; simp
section
variable {d : Dist} {x : Run} {H hour i j k : Nat}
theorem in_child_no {key : Int × Int} (h : key.1 ≠ 2) : inN (childL d x hour j k) key = 0 := inN_no fun m hm e => by
  unfold childL at hm
  obtain ⟨t, _, rfl⟩ := List.mem_map.1 hm
  exact h (by rw [← e])
theorem in_farm_no {key : Int × Int} (h : key.1 ≠ 5) : inN (farmL d x hour j k) key = 0 := inN_no fun m hm e => by
  unfold farmL at hm
  obtain ⟨t, _, rfl⟩ := List.mem_map.1 hm
  exact h (by rw [← e])
theorem in_child : ∀ k, inN (childL d x hour j k) (2, (i : Int)) = if i < k ∧ (rch d i).up = (j : Int) then g2 x.inn i hour else 0
  | 0 => by rw [if_neg (by omega)]; rfl
  | k + 1 => by
    rw [childL_succ, inN_app, in_child k]
    by_cases h : (rch d k).up = (j : Int)
    · rw [if_pos h, inN_one]
      by_cases e : i = k
      · subst e; rw [if_neg (by omega), if_pos rfl, if_pos ⟨by omega, h⟩]; simp
      · rw [if_neg (c := (⟨(2, (j : Int)), (2, (k : Int)), g2 x.inn k hour⟩ : Mv).to = (2, (i : Int))) (by simp; omega), Int.add_zero]
        by_cases h2 : i < k ∧ (rch d i).up = (j : Int)
        · rw [if_pos h2, if_pos ⟨by omega, h2.2⟩]
        · rw [if_neg h2, if_neg (fun h3 => h2 ⟨by omega, h3.2⟩)]
    · rw [if_neg h, show inN [] (2, (i : Int)) = 0 from rfl, Int.add_zero]
      by_cases h2 : i < k ∧ (rch d i).up = (j : Int)
      · rw [if_pos h2, if_pos ⟨by omega, h2.2⟩]
      · rw [if_neg h2, if_neg (fun h3 => h2 ⟨by
          rcases Nat.lt_succ_iff_lt_or_eq.1 h3.1 with h4 | h4
          · exact h4
          · subst h4; exact absurd h3.2 h, h3.2⟩)]
theorem in_farm : ∀ k, inN (farmL d x hour j k) (5, (i : Int)) = if i < k ∧ (frm d i).reach = (j : Int) then g2 x.taken i hour else 0
  | 0 => by rw [if_neg (by omega)]; rfl
  | k + 1 => by
    rw [farmL_succ, inN_app, in_farm k]
    by_cases h : (frm d k).reach = (j : Int)
    · rw [if_pos h, inN_one]
      by_cases e : i = k
      · subst e; rw [if_neg (by omega), if_pos rfl, if_pos ⟨by omega, h⟩]; simp
      · rw [if_neg (c := (⟨(2, (j : Int)), (5, (k : Int)), g2 x.taken k hour⟩ : Mv).to = (5, (i : Int))) (by simp; omega), Int.add_zero]
        by_cases h2 : i < k ∧ (frm d i).reach = (j : Int)
        · rw [if_pos h2, if_pos ⟨by omega, h2.2⟩]
        · rw [if_neg h2, if_neg (fun h3 => h2 ⟨by omega, h3.2⟩)]
    · rw [if_neg h, show inN [] (5, (i : Int)) = 0 from rfl, Int.add_zero]
      by_cases h2 : i < k ∧ (frm d i).reach = (j : Int)
      · rw [if_pos h2, if_pos ⟨by omega, h2.2⟩]
      · rw [if_neg h2, if_neg (fun h3 => h2 ⟨by
          rcases Nat.lt_succ_iff_lt_or_eq.1 h3.1 with h4 | h4
          · exact h4
          · subst h4; exact absurd h3.2 h, h3.2⟩)]
theorem in_end (key : Int × Int) : inN (endL d x hour j) key = (if ((3 : Int), (j : Int)) = key then (parc d x hour j).2.1 else 0) + (if ((4 : Int), (j : Int)) = key then (parc d x hour j).2.2 else 0) + inN (childL d x hour j d.reaches.length) key + inN (farmL d x hour j d.farms.length) key + (if ((6 : Int), (j : Int)) = key then g2 x.tail j hour else 0) := by
  unfold endL
  rw [show lossL d x hour j = [⟨(2, j), (3, j), (parc d x hour j).2.1⟩] ++ [⟨(2, j), (4, j), (parc d x hour j).2.2⟩] from rfl, inN_app, inN_app, inN_app, inN_app, inN_one, inN_one, inN_one]
/-- What comes in from the ends of the reaches, where it comes from one at most. -/
theorem in_pref {key : Int × Int} {j0 : Nat} {v : Int} (h : ∀ j, inN (endL d x hour j) key = if j = j0 then v else 0) : ∀ k, inN (prefL d x hour k) key = inN (headL x hour) key + if j0 < k then v else 0
  | 0 => by
    have : prefL d x hour 0 = headL x hour := by simp [prefL]
    rw [this, if_neg (by omega), Int.add_zero]
  | k + 1 => by
    rw [prefL_succ, inN_app, in_pref h k, h]
    by_cases h1 : k = j0
    · subst h1; rw [if_neg (by omega), if_pos rfl, if_pos (by omega)]; omega
    · rw [if_neg h1]
      by_cases h2 : j0 < k
      · rw [if_pos h2, if_pos (by omega)]; omega
      · rw [if_neg h2, if_neg (by omega)]; omega
theorem in_head (key : Int × Int) : inN (headL x hour) key = (if ((1 : Int), (0 : Int)) = key then g1 x.inflow hour else 0) + (if ((7 : Int), (0 : Int)) = key then g1 x.spill hour else 0) + (if ((2 : Int), (0 : Int)) = key then g2 x.inn 0 hour else 0) := by
  rw [show headL x hour = [⟨(0, 0), (1, 0), g1 x.inflow hour⟩] ++ ([⟨(1, 0), (7, 0), g1 x.spill hour⟩] ++ [⟨(1, 0), (2, 0), g2 x.inn 0 hour⟩]) from rfl, inN_app, inN_app, inN_one, inN_one, inN_one]
  exact (Int.add_assoc _ _ _).symm
theorem in_evap (hi : i < d.reaches.length) : inN (movesL d x hour) (3, (i : Int)) = (parc d x hour i).2.1 := by
  unfold movesL
  rw [in_pref (j0 := i) (v := (parc d x hour i).2.1) (fun j => by
    rw [in_end, in_child_no (by simp), in_farm_no (by simp)]
    by_cases e : j = i
    · subst e; simp
    · have : ¬ (((3 : Int), (j : Int)) = (3, (i : Int))) := by simp; omega
      simp [e, this]) d.reaches.length, in_head, if_pos hi]
  simp
theorem in_seep (hi : i < d.reaches.length) : inN (movesL d x hour) (4, (i : Int)) = (parc d x hour i).2.2 := by
  unfold movesL
  rw [in_pref (j0 := i) (v := (parc d x hour i).2.2) (fun j => by
    rw [in_end, in_child_no (by simp), in_farm_no (by simp)]
    by_cases e : j = i
    · subst e; simp
    · have : ¬ (((4 : Int), (j : Int)) = (4, (i : Int))) := by simp; omega
      simp [e, this]) d.reaches.length, in_head, if_pos hi]
  simp
theorem in_tail (hi : i < d.reaches.length) : inN (movesL d x hour) (6, (i : Int)) = g2 x.tail i hour := by
  unfold movesL
  rw [in_pref (j0 := i) (v := g2 x.tail i hour) (fun j => by
    rw [in_end, in_child_no (by simp), in_farm_no (by simp)]
    by_cases e : j = i
    · subst e; simp
    · have : ¬ (((6 : Int), (j : Int)) = (6, (i : Int))) := by simp; omega
      simp [e, this]) d.reaches.length, in_head, if_pos hi]
  simp
theorem in_taken (hf : Fm d x H) (hi : i < d.farms.length) : inN (movesL d x hour) (5, (i : Int)) = g2 x.taken i hour := by
  have hfo := List.all_eq_true.1 hf.farm (frm d i) (List.mem_of_getElem? (farm_at hi))
  unfold farmOk at hfo
  simp only [Bool.and_eq_true, inI_iff] at hfo
  obtain ⟨-, ⟨h1, h2⟩, -⟩ := hfo
  unfold movesL
  rw [in_pref (j0 := (frm d i).reach.toNat) (v := g2 x.taken i hour) (fun j => by
    rw [in_end, in_child_no (by simp), in_farm]
    by_cases e : j = (frm d i).reach.toNat
    · rw [if_pos e, if_pos (show i < d.farms.length ∧ (frm d i).reach = (j : Int) from ⟨hi, by omega⟩)]; simp
    · rw [if_neg e, if_neg (show ¬ (i < d.farms.length ∧ (frm d i).reach = (j : Int)) from fun h => e (by omega))]; simp) d.reaches.length, in_head, if_pos (show (frm d i).reach.toNat < d.reaches.length by omega)]
  simp
theorem in_way (hf : Fm d x H) (hi : i < d.reaches.length) : inN (movesL d x hour) (2, (i : Int)) = g2 x.inn i hour := by
  obtain ⟨hu, -⟩ := hf.at_ (reach_at hi)
  unfold upOk at hu
  unfold movesL
  by_cases h0 : i = 0
  · subst h0
    rw [if_pos rfl, decide_eq_true_eq] at hu
    rw [in_pref (j0 := 0) (v := 0) (fun j => by
      rw [in_end, in_farm_no (by simp), in_child, if_neg (show ¬ (0 < d.reaches.length ∧ (rch d 0).up = (j : Int)) from fun h => by omega)]; simp) d.reaches.length, in_head]
    simp
  · rw [if_neg h0, inI_iff] at hu
    rw [in_pref (j0 := (rch d i).up.toNat) (v := g2 x.inn i hour) (fun j => by
      rw [in_end, in_farm_no (by simp), in_child]
      by_cases e : j = (rch d i).up.toNat
      · rw [if_pos e, if_pos (show i < d.reaches.length ∧ (rch d i).up = (j : Int) from ⟨hi, by omega⟩)]; simp
      · rw [if_neg e, if_neg (show ¬ (i < d.reaches.length ∧ (rch d i).up = (j : Int)) from fun h => e (by omega))]; simp) d.reaches.length, in_head, if_pos (show (rch d i).up.toNat < d.reaches.length by omega)]
    have : ¬ (((2 : Int), (0 : Int)) = (2, (i : Int))) := by simp; omega
    simp [this]
theorem in_none {key : Int × Int} (h : key = (7, 0) ∨ key = (1, 0)) : inN (movesL d x hour) key = (if ((1 : Int), (0 : Int)) = key then g1 x.inflow hour else 0) + (if ((7 : Int), (0 : Int)) = key then g1 x.spill hour else 0) := by
  unfold movesL
  rw [in_pref (j0 := 0) (v := 0) (fun j => by
    rw [in_end, in_child_no (by rcases h with rfl | rfl <;> simp), in_farm_no (by rcases h with rfl | rfl <;> simp)]
    rcases h with rfl | rfl <;> simp) d.reaches.length, in_head]
  rcases h with rfl | rfl <;> simp
/-- Nothing leaves a place but the tank and the ways. -/
theorem out_pref_no {key : Int × Int} (h : key.1 ≠ 2) : ∀ k, outN (prefL d x hour k) key = outN (headL x hour) key
  | 0 => by
    have : prefL d x hour 0 = headL x hour := by simp [prefL]
    rw [this]
  | k + 1 => by
    rw [prefL_succ, outN_app, out_pref_no h k, outN_no (l := endL d x hour k) (fun m hm e => h (by rw [← e, endL_frm m hm])), Int.add_zero]
theorem out_no {key : Int × Int} (h2 : key.1 ≠ 2) (h1 : key.1 ≠ 1) (h0 : key.1 ≠ 0) : outN (movesL d x hour) key = 0 := by
  unfold movesL
  rw [out_pref_no h2]
  exact outN_no (by
    intro m hm e
    unfold headL at hm
    simp only [List.mem_cons, List.not_mem_nil, or_false] at hm
    rcases hm with rfl | rfl | rfl
    · exact h0 (by rw [← e])
    · exact h1 (by rw [← e])
    · exact h1 (by rw [← e]))
theorem out_tank : outN (movesL d x hour) (1, 0) = g1 x.spill hour + g2 x.inn 0 hour := by
  unfold movesL
  rw [out_pref_no (by simp), show headL x hour = [⟨(0, 0), (1, 0), g1 x.inflow hour⟩] ++ ([⟨(1, 0), (7, 0), g1 x.spill hour⟩] ++ [⟨(1, 0), (2, 0), g2 x.inn 0 hour⟩]) from rfl, outN_app, outN_app, outN_one, outN_one, outN_one]
  simp
end
end Go.Proofs.Ytpmfeplifgmdhaa
