/- Parts of the proof: Fb Fc Za Zt. -/
import Derived.Test.YtffdjecdcbbfaaaGreatM13
import Derived.Test.YtffdjecdcbbfaaaGreatM9
import Derived.Test.YtffdjecdcbbfaaaGreatM12
import Derived.Test.YtffdjecdcbbfaaaGreatM7
import Derived.Test.YtffdjecdcbbfaaaGreatRows
import Derived.Stop.LaidErr

/- Made by gen_XFb.py. Layer 48's reference: Of. -/
namespace Go.Proofs.YtffdjecdcbbfaaaGreat
open Go Go.RowKit

/-- What the reference's function has so far: of k reaches and f farms. -/
structure OfJ (w0 u : World) (bW bT : Nat) (d : Dist) (x : Run) (hour wide : Int) (k f : Nat) : Prop where
  of_ ::
  ex : ∃ HT q1 OT q2 TT q3 AT q4 HW q5 OW q6 TW q7 cls,
    Blk u bT 61 [.slice HT k q1, .slice OT f q2, .slice TT k q3, .slice AT k q4, .slice none 0 0] ∧
    Blk u bW 59 [iv hour, .slice HW k q5, .slice OW f q6, .slice TW k q7] ∧
    (OwnF w0 u HT k q1 3 1 (icells k (hdV d x hour)) ∧ cof cls HT 1) ∧
    (OwnF w0 u OT f q2 3 1 (icells f (otV d x hour)) ∧ cof cls OT 2) ∧
    (OwnF w0 u TT k q3 3 1 (icells k (tlV d x hour)) ∧ cof cls TT 3) ∧
    (OwnF w0 u AT k q4 3 1 (icells k (arV d x hour)) ∧ cof cls AT 4) ∧
    (OwnF w0 u HW k q5 101 2 (rcells k (fun r => arR wide (hdV d x hour r))) ∧ cof cls HW 5) ∧
    (OwnF w0 u OW f q6 101 2 (rcells f (fun r => arR wide (otV d x hour r))) ∧ cof cls OW 6) ∧
    (OwnF w0 u TW k q7 101 2 (rcells k (fun r => arR wide (tlV d x hour r))) ∧ cof cls TW 7)
theorem OfJ.ext {w0 u u' : World} {bW bT k f : Nat} {d : Dist} {x : Run} {hour wide : Int} (h : OfJ w0 u bW bT d x hour wide k f) (y : Ext u u') : OfJ w0 u' bW bT d x hour wide k f := by
  obtain ⟨HT, q1, OT, q2, TT, q3, AT, q4, HW, q5, OW, q6, TW, q7, cls, T, W, ⟨o1, k1⟩, ⟨o2, k2⟩, ⟨o3, k3⟩, ⟨o4, k4⟩, ⟨o5, k5⟩, ⟨o6, k6⟩, ⟨o7, k7⟩⟩ := h.ex
  exact ⟨HT, q1, OT, q2, TT, q3, AT, q4, HW, q5, OW, q6, TW, q7, cls, T.ext y, W.ext y, ⟨o1.then y, k1⟩, ⟨o2.then y, k2⟩, ⟨o3.then y, k3⟩, ⟨o4.then y, k4⟩, ⟨o5.then y, k5⟩, ⟨o6.then y, k6⟩, ⟨o7.then y, k7⟩⟩
section
variable {D : Nat → Prop} {w : World}
set_option maxRecDepth 8000 in
set_option maxHeartbeats 4000000 in
theorem c_r48Of {csd csx : List Value} {d : Dist} {x : Run} {hour wide : Int} (hd : DiR D w csd d) (hx : RuR D w csx x) (h64 : I64 hour) : CallZ Tryz.prog 20 #[.agg csd.toArray, .agg csx.toArray, iv hour, iv wide] w (fun v w' => OfA w w' v d x hour wide) := by
  have hd := hd.more (D' := fun b => b < w.heap.size) fun b hb _ => hb
  have hx := hx.more (D' := fun b => b < w.heap.size) fun b hb _ => hb
  obtain ⟨A1, n1, c1, A2, n2, c2, A3, n3, c3, A4, n4, c4, A5, n5, c5, A6, n6, c6, rfl, hr, hfa, -⟩ := hd.ex
  obtain ⟨B1, m1, e1, B2, m2, e2, B3, m3, e3, B4, m4, e4, B5, m5, e5, B6, m6, e6, B7, m7, e7, rfl, i1, i2, i3, i4, i5, i6, i7, -⟩ := hx.ex
  have ln := hr.len
  have lf := hfa.len
  refine fn_rule (args := [.agg #[.string d.name, iv d.hours, iv d.cap, iv d.start, .slice A1 n1 c1, .slice A2 n2 c2, .slice A3 n3 c3, .slice A4 n4 c4, .slice A5 n5 c5, .slice A6 n6 c6], .agg #[.slice B1 m1 e1, .slice B2 m2 e2, .slice B3 m3 e3, .slice B4 m4 e4, .slice B5 m5 e5, .slice B6 m6 e6, .slice B7 m7 e7], iv hour, iv wide]) Tryz.func20 (by kernel_rfl) ?_
  refine box (fun bd w1 h1 => ?_)
  refine box (fun bx w2 h2 => ?_)
  refine alloc (fun bR w3 h3 => ?_)
  refine alloc (fun bS w4 h4 => ?_)
  have a1 := h1.at_
  have a2 := h2.at_
  have a3 := h3.at_
  have a4 := h4.at_
  have z1 := h1.size
  have z2 := h2.size
  have z3 := h3.size
  have z4 := h4.size
  have x4 : Ext w w4 := ((h1.ext.trans h2.ext).trans h3.ext).trans h4.ext
  have Bd : Blk w4 bd 31 [.string d.name, iv d.hours, iv d.cap, iv d.start, .slice A1 n1 c1, .slice A2 n2 c2, .slice A3 n3 c3, .slice A4 n4 c4, .slice A5 n5 c5, .slice A6 n6 c6] := h1.blk.ext ((h2.ext.trans h3.ext).trans h4.ext)
  have Bx : Blk w4 bx 55 [.slice B1 m1 e1, .slice B2 m2 e2, .slice B3 m3 e3, .slice B4 m4 e4, .slice B5 m5 e5, .slice B6 m6 e6, .slice B7 m7 e7] := h2.blk.ext (h3.ext.trans h4.ext)
  have BR : Blk w4 bR 59 [iv 0, .slice none 0 0, .slice none 0 0, .slice none 0 0] := h3.blk.ext h4.ext
  have BS : Blk w4 bS 61 [.slice none 0 0, .slice none 0 0, .slice none 0 0, .slice none 0 0, .slice none 0 0] := h4.blk
  refine ldA [.string d.name, iv d.hours, iv d.cap, iv d.start, .slice A1 n1 c1, .slice A2 n2 c2, .slice A3 n3 c3, .slice A4 n4 c4, .slice A5 n5 c5, .slice A6 n6 c6] (.blk Bd) rfl ?_
  refine ldA [.slice B1 m1 e1, .slice B2 m2 e2, .slice B3 m3 e3, .slice B4 m4 e4, .slice B5 m5 e5, .slice B6 m6 e6, .slice B7 m7 e7] (.blk Bx) rfl ?_
  refine call_of (c_r23Check (hd.ext x4) (hx.ext x4)) ?_
  rintro _ w5 ⟨rfl, x5⟩
  have x05 := x4.trans x5
  have Bd := Bd.ext x5
  have Bx := Bx.ext x5
  have BR := BR.ext x5
  have BS := BS.ext x5
  have z5 := x5.size
  obtain ⟨e, he⟩ : ∃ e, e = bErr d x := ⟨_, rfl⟩
  rw [← he]
  refine cN (fun q0 => ?_) (fun q0 => ?_)
  · skip
    refine bld [iv 0, .slice none 0 0, .slice none 0 0, .slice none 0 0] (by kernel_rfl) ?_
    refine bld [.slice none 0 0, .slice none 0 0, .slice none 0 0, .slice none 0 0, .slice none 0 0] (by kernel_rfl) ?_
    refine stA (vs := [iv 0, .slice none 0 0, .slice none 0 0, .slice none 0 0]) BR rfl (Nat.le_of_ble_eq_true rfl) (by simp [Value.oneCell']) (fun y1 BW8 kk8 z8 => ?_)
    refine stA (vs := [.slice none 0 0, .slice none 0 0, .slice none 0 0, .slice none 0 0, .slice none 0 0]) (Blk.kept BS kk8 (by omega)) rfl (Nat.le_of_ble_eq_true rfl) (by simp [Value.oneCell']) (fun y2 BT9 kk9 z9 => ?_)
    refine ret ?_
    refine resL _ (holds_agg (CellsAt.blk (show Blk y2 bR 59 [iv 0, .slice none 0 0, .slice none 0 0, .slice none 0 0] from Blk.kept BW8 kk9 (by omega))) rfl) ?_
    refine resL _ (holds_agg (CellsAt.blk (show Blk y2 bS 61 [.slice none 0 0, .slice none 0 0, .slice none 0 0, .slice none 0 0, .slice none 0 0] from BT9)) rfl) ?_
    exact ofA_err (by unfold ofErr; rw [if_pos (by rw [← he]; exact q0), ← he]) q0 ((x05.then kk8 fun b hb _ => by omega).then kk9 fun b hb _ => by omega)
  have q0 : bErr d x = 0 := by rw [← he]; exact q0
  have oe : ofErr d x hour wide = if hour < 0 ∨ hour ≥ d.hours ∨ wide < 0 ∨ wide > 1073741824 then 1 else if ofFit d hour then 0 else 1 := by unfold ofErr; rw [if_neg (by simp [q0])]
  refine cD (fun gg1 => ?_) (fun gg1 => ?_)
  · skip
    refine bld [iv 0, .slice none 0 0, .slice none 0 0, .slice none 0 0] (by kernel_rfl) ?_
    refine bld [.slice none 0 0, .slice none 0 0, .slice none 0 0, .slice none 0 0, .slice none 0 0] (by kernel_rfl) ?_
    refine stA (vs := [iv 0, .slice none 0 0, .slice none 0 0, .slice none 0 0]) BR rfl (Nat.le_of_ble_eq_true rfl) (by simp [Value.oneCell']) (fun y1 BW8 kk8 z8 => ?_)
    refine stA (vs := [.slice none 0 0, .slice none 0 0, .slice none 0 0, .slice none 0 0, .slice none 0 0]) (Blk.kept BS kk8 (by omega)) rfl (Nat.le_of_ble_eq_true rfl) (by simp [Value.oneCell']) (fun y2 BT9 kk9 z9 => ?_)
    refine ret ?_
    refine resL _ (holds_agg (CellsAt.blk (show Blk y2 bR 59 [iv 0, .slice none 0 0, .slice none 0 0, .slice none 0 0] from Blk.kept BW8 kk9 (by omega))) rfl) ?_
    refine resL _ (holds_agg (CellsAt.blk (show Blk y2 bS 61 [.slice none 0 0, .slice none 0 0, .slice none 0 0, .slice none 0 0, .slice none 0 0] from BT9)) rfl) ?_
    exact ofA_err (by rw [oe, if_pos (by omega)]) (by decide) ((x05.then kk8 fun b hb _ => by omega).then kk9 fun b hb _ => by omega)
  refine fldA ?_
  refine ld (iv d.hours) (Bd.cell rfl) ?_
  refine cD (fun gg2 => ?_) (fun gg2 => ?_)
  · skip
    refine bld [iv 0, .slice none 0 0, .slice none 0 0, .slice none 0 0] (by kernel_rfl) ?_
    refine bld [.slice none 0 0, .slice none 0 0, .slice none 0 0, .slice none 0 0, .slice none 0 0] (by kernel_rfl) ?_
    refine stA (vs := [iv 0, .slice none 0 0, .slice none 0 0, .slice none 0 0]) BR rfl (Nat.le_of_ble_eq_true rfl) (by simp [Value.oneCell']) (fun y1 BW8 kk8 z8 => ?_)
    refine stA (vs := [.slice none 0 0, .slice none 0 0, .slice none 0 0, .slice none 0 0, .slice none 0 0]) (Blk.kept BS kk8 (by omega)) rfl (Nat.le_of_ble_eq_true rfl) (by simp [Value.oneCell']) (fun y2 BT9 kk9 z9 => ?_)
    refine ret ?_
    refine resL _ (holds_agg (CellsAt.blk (show Blk y2 bR 59 [iv 0, .slice none 0 0, .slice none 0 0, .slice none 0 0] from Blk.kept BW8 kk9 (by omega))) rfl) ?_
    refine resL _ (holds_agg (CellsAt.blk (show Blk y2 bS 61 [.slice none 0 0, .slice none 0 0, .slice none 0 0, .slice none 0 0, .slice none 0 0] from BT9)) rfl) ?_
    exact ofA_err (by rw [oe, if_pos (by omega)]) (by decide) ((x05.then kk8 fun b hb _ => by omega).then kk9 fun b hb _ => by omega)
  refine cD (fun gg3 => ?_) (fun gg3 => ?_)
  · skip
    refine bld [iv 0, .slice none 0 0, .slice none 0 0, .slice none 0 0] (by kernel_rfl) ?_
    refine bld [.slice none 0 0, .slice none 0 0, .slice none 0 0, .slice none 0 0, .slice none 0 0] (by kernel_rfl) ?_
    refine stA (vs := [iv 0, .slice none 0 0, .slice none 0 0, .slice none 0 0]) BR rfl (Nat.le_of_ble_eq_true rfl) (by simp [Value.oneCell']) (fun y1 BW8 kk8 z8 => ?_)
    refine stA (vs := [.slice none 0 0, .slice none 0 0, .slice none 0 0, .slice none 0 0, .slice none 0 0]) (Blk.kept BS kk8 (by omega)) rfl (Nat.le_of_ble_eq_true rfl) (by simp [Value.oneCell']) (fun y2 BT9 kk9 z9 => ?_)
    refine ret ?_
    refine resL _ (holds_agg (CellsAt.blk (show Blk y2 bR 59 [iv 0, .slice none 0 0, .slice none 0 0, .slice none 0 0] from Blk.kept BW8 kk9 (by omega))) rfl) ?_
    refine resL _ (holds_agg (CellsAt.blk (show Blk y2 bS 61 [.slice none 0 0, .slice none 0 0, .slice none 0 0, .slice none 0 0, .slice none 0 0] from BT9)) rfl) ?_
    exact ofA_err (by rw [oe, if_pos (by omega)]) (by decide) ((x05.then kk8 fun b hb _ => by omega).then kk9 fun b hb _ => by omega)
  refine cD (fun gg4 => ?_) (fun gg4 => ?_)
  · skip
    refine bld [iv 0, .slice none 0 0, .slice none 0 0, .slice none 0 0] (by kernel_rfl) ?_
    refine bld [.slice none 0 0, .slice none 0 0, .slice none 0 0, .slice none 0 0, .slice none 0 0] (by kernel_rfl) ?_
    refine stA (vs := [iv 0, .slice none 0 0, .slice none 0 0, .slice none 0 0]) BR rfl (Nat.le_of_ble_eq_true rfl) (by simp [Value.oneCell']) (fun y1 BW8 kk8 z8 => ?_)
    refine stA (vs := [.slice none 0 0, .slice none 0 0, .slice none 0 0, .slice none 0 0, .slice none 0 0]) (Blk.kept BS kk8 (by omega)) rfl (Nat.le_of_ble_eq_true rfl) (by simp [Value.oneCell']) (fun y2 BT9 kk9 z9 => ?_)
    refine ret ?_
    refine resL _ (holds_agg (CellsAt.blk (show Blk y2 bR 59 [iv 0, .slice none 0 0, .slice none 0 0, .slice none 0 0] from Blk.kept BW8 kk9 (by omega))) rfl) ?_
    refine resL _ (holds_agg (CellsAt.blk (show Blk y2 bS 61 [.slice none 0 0, .slice none 0 0, .slice none 0 0, .slice none 0 0, .slice none 0 0] from BT9)) rfl) ?_
    exact ofA_err (by rw [oe, if_pos (by omega)]) (by decide) ((x05.then kk8 fun b hb _ => by omega).then kk9 fun b hb _ => by omega)
  rw [if_neg (by omega)] at oe
  have hdv := (bErr_ok.1 q0).1
  have hd0 : dErr d = 0 := dErr_ok.2 hdv
  have ht : Tre d := tre_of hd0
  obtain ⟨⟨hR64, hF600⟩, hH1, hH2⟩ := valid_bounds hdv.1 hdv.2
  obtain ⟨hf, hR⟩ := bErr_fm q0
  generalize hH : d.hours.toNat = H at hf hR
  have hHi := hf.hours
  refine bld [iv hour, .slice none 0 0, .slice none 0 0, .slice none 0 0] (by kernel_rfl) ?_
  refine alloc (fun bW w6 h6 => ?_)
  refine stA (vs := [iv hour, .slice none 0 0, .slice none 0 0, .slice none 0 0]) h6.blk rfl (Nat.le_of_ble_eq_true rfl) (by simp [Value.oneCell']) (fun w7 BW kk7 z7 => ?_)
  have BW : Blk w7 bW 59 [iv hour, .slice none 0 0, .slice none 0 0, .slice none 0 0] := BW
  have a6 := h6.at_
  have z6 := h6.size
  refine bld [.slice none 0 0, .slice none 0 0, .slice none 0 0, .slice none 0 0, .slice none 0 0] (by kernel_rfl) ?_
  refine alloc (fun bT w8 h8 => ?_)
  refine stA (vs := [.slice none 0 0, .slice none 0 0, .slice none 0 0, .slice none 0 0, .slice none 0 0]) h8.blk rfl (Nat.le_of_ble_eq_true rfl) (by simp [Value.oneCell']) (fun w9 BT kk9 z9 => ?_)
  have BT : Blk w9 bT 61 [.slice none 0 0, .slice none 0 0, .slice none 0 0, .slice none 0 0, .slice none 0 0] := BT
  have a8 := h8.at_
  have z8 := h8.size
  have x57 : Ext w5 w7 := h6.ext.then kk7 fun b hb _ => by omega
  have x79 : Ext w7 w9 := h8.ext.then kk9 fun b hb _ => by omega
  have x59 := x57.trans x79
  have x09 := x05.trans x59
  have Bd := Bd.ext x59
  have Bx := Bx.ext x59
  have BR := BR.ext x59
  have BS := BS.ext x59
  have BW := BW.ext x79
  have hI0 : OfJ w w9 bW bT d x hour wide 0 0 := ⟨none, 0, none, 0, none, 0, none, 0, none, 0, none, 0, none, 0, fun _ => 9, BT, BW, ⟨.nil x09, .none⟩, ⟨.nil x09, .none⟩, ⟨.nil x09, .none⟩, ⟨.nil x09, .none⟩, ⟨.nil x09, .none⟩, ⟨.nil x09, .none⟩, ⟨.nil x09, .none⟩⟩
  have lw : w.heap.size ≤ bd := by omega
  have ld1 : bd < bR := by omega
  have ld2 : bx < bR := by omega
  have ld3 : bR < bS := by omega
  have ld4 : bS < bW := by omega
  have ld5 : bW < bT := by omega
  have lwx : w.heap.size ≤ bx := by omega
  clear BW BT a1 a2 a3 a4 a6 a8 z1 z2 z3 z4 z5 z6 z7 z8 z9 h1 h2 h3 h4 h6 h8 x4 x5 x05 kk7 kk9 x57 x79 x59
  refine loop_rule (fun k : Nat => [(14, iv (k : Int))]) (fun k u => k ≤ n1 ∧ Ext w u ∧ Blk u bd 31 [.string d.name, iv d.hours, iv d.cap, iv d.start, .slice A1 n1 c1, .slice A2 n2 c2, .slice A3 n3 c3, .slice A4 n4 c4, .slice A5 n5 c5, .slice A6 n6 c6] ∧ Blk u bx 55 [.slice B1 m1 e1, .slice B2 m2 e2, .slice B3 m3 e3, .slice B4 m4 e4, .slice B5 m5 e5, .slice B6 m6 e6, .slice B7 m7 e7] ∧ Blk u bR 59 [iv 0, .slice none 0 0, .slice none 0 0, .slice none 0 0] ∧ Blk u bS 61 [.slice none 0 0, .slice none 0 0, .slice none 0 0, .slice none 0 0, .slice none 0 0] ∧ (∀ r : Nat, r < k → hour + delV d (r : Int) < d.hours) ∧ OfJ w u bW bT d x hour wide k 0) (fun k _ => n1 - k) 0 ⟨rfl, trivial⟩ ⟨by omega, x09, Bd, Bx, BR, BS, fun r h => absurd h (Nat.not_lt_zero _), hI0⟩ rfl ?_
  clear Bd Bx BR BS hI0 x09
  rintro G k u0 ⟨hk, x0, Bd, Bx, BR, BS, hfit, hI⟩
  refine fldA ?_
  refine ld (.slice A1 n1 c1) (Bd.cell rfl) ?_
  refine len ?_
  refine cD (fun hlt => ?_) (fun hge => ?_)
  · have hlt : k < n1 := by omega
    have hlt' : k < d.reaches.length := by omega
    refine ldA [.string d.name, iv d.hours, iv d.cap, iv d.start, .slice A1 n1 c1, .slice A2 n2 c2, .slice A3 n3 c3, .slice A4 n4 c4, .slice A5 n5 c5, .slice A6 n6 c6] (.blk Bd) rfl ?_
    have hcan : canE d [(k : Int)] = 0 := by
      unfold canE
      rw [if_pos hd0, if_pos (by simp; omega)]
    have cc := c_r20Delay (r := (k : Int)) (hd.ext x0)
    rw [hcan, if_pos rfl] at cc
    refine call_of cc ?_
    clear cc
    rintro _ u1 ⟨rfl, y1⟩
    have x0 := x0.trans y1
    have Bd := Bd.ext y1
    have Bx := Bx.ext y1
    have BR := BR.ext y1
    have BS := BS.ext y1
    have hI := hI.ext y1
    clear y1
    obtain ⟨p1, p2, p3, p4, p5, p6⟩ := at_of ht (show 0 ≤ hour by omega) hlt'
    refine arE ((endV d hour k : Nat) : Int) p2.symm (by omega) ?_
    refine fldA ?_
    refine ld (iv d.hours) (Bd.cell rfl) ?_
    refine cD (fun gg5 => ?_) (fun gg5 => ?_)
    · skip
      refine bld [iv 0, .slice none 0 0, .slice none 0 0, .slice none 0 0] (by kernel_rfl) ?_
      refine bld [.slice none 0 0, .slice none 0 0, .slice none 0 0, .slice none 0 0, .slice none 0 0] (by kernel_rfl) ?_
      refine stA (vs := [iv 0, .slice none 0 0, .slice none 0 0, .slice none 0 0]) BR rfl (Nat.le_of_ble_eq_true rfl) (by simp [Value.oneCell']) (fun y1 BW8 kk8 z8 => ?_)
      refine stA (vs := [.slice none 0 0, .slice none 0 0, .slice none 0 0, .slice none 0 0, .slice none 0 0]) (Blk.kept BS kk8 (by omega)) rfl (Nat.le_of_ble_eq_true rfl) (by simp [Value.oneCell']) (fun y2 BT9 kk9 z9 => ?_)
      refine ret ?_
      refine resL _ (holds_agg (CellsAt.blk (show Blk y2 bR 59 [iv 0, .slice none 0 0, .slice none 0 0, .slice none 0 0] from Blk.kept BW8 kk9 (by omega))) rfl) ?_
      refine resL _ (holds_agg (CellsAt.blk (show Blk y2 bS 61 [.slice none 0 0, .slice none 0 0, .slice none 0 0, .slice none 0 0, .slice none 0 0] from BT9)) rfl) ?_
      exact ofA_err (by rw [oe, if_neg]; intro h; have := of_decide_eq_true (List.all_eq_true.1 h k (List.mem_range.2 hlt')); omega) (by decide) ((x0.then kk8 fun b hb _ => by omega).then kk9 fun b hb _ => by omega)
    have hE : endV d hour k < H := by omega
    have hA : atV d hour k < H := by omega
    obtain ⟨b, o, cs, y, rfl, hy, -, -, hc, rfl⟩ := (hr.ext x0).at_ hlt
    have hrc : rch d k = y := rch_eq hy
    rw [hrc] at p1 p3 p4
    refine fldA ?_
    refine ld _ (Bd.cell rfl) ?_
    refine idx k rfl hlt ?_
    refine fldA ?_
    refine ld (iv y.delay) (hc 2 _ rfl) ?_
    refine arE ((atV d hour k : Nat) : Int) (by omega) (by omega) ?_
    have y3 := tabB_iff.1 hf.inn
    have y7 := tabB_iff.1 hf.tail
    have y4 := tabB_iff.1 hf.evap
    have y5 := tabB_iff.1 hf.seep
    have l3 := i3.len
    have l4 := i4.len
    have l5 := i5.len
    have l7 := i7.len
    have v3 := tab_val hf.inn hlt' hA
    have v4 := tab_val hf.evap hlt' hA
    have v5 := tab_val hf.seep hlt' hA
    have v7 := tab_val hf.tail hlt' hE
    have n3 := (numB_iff.1 (tab_row hf.inn hlt').2).1
    have n4 := (numB_iff.1 (tab_row hf.evap hlt').2).1
    have n5 := (numB_iff.1 (tab_row hf.seep hlt').2).1
    have n7 := (numB_iff.1 (tab_row hf.tail hlt').2).1
    obtain ⟨HT, q1, OT, q2, TT, q3, AT, q4, HW, q5, OW, q6, TW, q7, cls, T, W, ⟨o1, k1⟩, ⟨o2, k2⟩, ⟨o3, k3⟩, ⟨o4, k4⟩, ⟨o5, k5⟩, ⟨o6, k6⟩, ⟨o7, k7⟩⟩ := hI.ex
    clear hI
    obtain ⟨f3, f3', R3, s3, g3', rfl, cc3, r3, -⟩ := row_at i3 (i := k) (by omega)
    have z3 := r3.len
    obtain ⟨r3b, r3o, rfl, vv3⟩ := num_at r3 (k := atV d hour k) (by omega)
    obtain ⟨f4, f4', R4, s4, g4', rfl, cc4, r4, -⟩ := row_at i4 (i := k) (by omega)
    have z4' := r4.len
    obtain ⟨r4b, r4o, rfl, vv4⟩ := num_at r4 (k := atV d hour k) (by omega)
    obtain ⟨f5, f5', R5, s5, g5', rfl, cc5, r5, -⟩ := row_at i5 (i := k) (by omega)
    have z5' := r5.len
    obtain ⟨r5b, r5o, rfl, vv5⟩ := num_at r5 (k := atV d hour k) (by omega)
    obtain ⟨f7, f7', R7, s7', g7', rfl, cc7, r7, -⟩ := row_at i7 (i := k) (by omega)
    have z7' := r7.len
    obtain ⟨r7b, r7o, rfl, vv7⟩ := num_at r7 (k := endV d hour k) (by omega)
    have Bd := Bd
    have nX := own_ty o1 Bx (show 55 ≠ 3 by decide)
    have nB := own_ty o1 T (show 61 ≠ 3 by decide)
    have nO : ∀ b, b < w.heap.size → HT ≠ some (ad b 0) := fun b hb e => by have := o1.new b e; omega
    refine drawP (.take 0 (.take 1 (.take 2 (.take 3 (.take 4 (.take 5 (.take 6 (.take 7 (.take 8 (.take 9 (.eff 10 (.eff 11 (.take 12 (.bar (.eff 13 .done))))))))))))))) [13] (fun z => Kept (fun b => HT ≠ some (ad b 0)) u1 z) mx (by kernel_rfl) (.refl _ _) ?_
    refine fldA ?_
    refine ldK (.slice HT k q1) (T.cell rfl) nB (.refl _ _) ?_
    refine fldA ?_
    refine ldK _ (Bx.cell rfl) nX (.refl _ _) ?_
    refine idx k rfl (by omega) ?_
    refine ldK _ (x0.cell cc3 trivial) (nO _ (lt_of_cell cc3)) (.refl _ _) ?_
    refine idx (atV d hour k) rfl (by omega) ?_
    refine ldK (iv (hdV d x hour k)) (x0.cell vv3 trivial) (nO _ (lt_of_cell vv3)) (.refl _ _) ?_
    have y1 : Ext u1 u1 := .refl _ _
    refine lit [iv (hdV d x hour k)] (fun hg u3 hq => ?_)
    have x2 : Ext u1 u3 := y1.trans hq.ext
    refine strS (Ext.any x2) ?_
    refine appF (o1.then x2) (hq.src (sz := 1) rfl) (by omega) (fun A1' q1' u4 p1' kk hA => ?_)
    have xk : Kept (fun b => HT ≠ some (ad b 0)) u1 u4 := (Ext.any x2).trans kk
    refine strS xk ?_
    refine fldA ?_
    refine barS (fun _ => True) trivial ?_
    have na : nw u1 HT A1' := nw.of hA x2.size
    obtain ⟨cls', hcl, r1⟩ := cof_up1 k1 na
    have T' := T.kept xk nB
    have W' := W.kept xk (own_ty o1 W (by decide))
    refine st (v := .slice A1' (k + 1) q1') T' (Nat.le_of_ble_eq_true rfl) rfl (fun u5 Z kk' z' => ?_)
    refine strS trivial ?_
    have x58 : Kept (fun b => HT ≠ some (ad b 0) ∧ b ≠ bT) u1 u5 := (xk.weak fun _ _ h => h.1).trans (kk'.weak fun _ _ h => h.2)
    have x08 : Ext w u5 := x0.then x58 fun b hb _ => ⟨nO b hb, by omega⟩
    have k2' := k2.keep o2 hcl
    have o2' := o2.thenK x58 (fun g hg => ⟨k2.ne k1 (by decide) g hg, fun e => own_ty o2 T (by decide) (e ▸ hg)⟩) x08
    have k3' := k3.keep o3 hcl
    have o3' := o3.thenK x58 (fun g hg => ⟨k3.ne k1 (by decide) g hg, fun e => own_ty o3 T (by decide) (e ▸ hg)⟩) x08
    have k4' := k4.keep o4 hcl
    have o4' := o4.thenK x58 (fun g hg => ⟨k4.ne k1 (by decide) g hg, fun e => own_ty o4 T (by decide) (e ▸ hg)⟩) x08
    have k5' := k5.keep o5 hcl
    have o5' := o5.thenK x58 (fun g hg => ⟨k5.ne k1 (by decide) g hg, fun e => own_ty o5 T (by decide) (e ▸ hg)⟩) x08
    have k6' := k6.keep o6 hcl
    have o6' := o6.thenK x58 (fun g hg => ⟨k6.ne k1 (by decide) g hg, fun e => own_ty o6 T (by decide) (e ▸ hg)⟩) x08
    have k7' := k7.keep o7 hcl
    have o7' := o7.thenK x58 (fun g hg => ⟨k7.ne k1 (by decide) g hg, fun e => own_ty o7 T (by decide) (e ▸ hg)⟩) x08
    have Bd := Bd.kept x58 ⟨own_ty o1 Bd (by decide), by omega⟩
    have Bx := Bx.kept x58 ⟨own_ty o1 Bx (by decide), by omega⟩
    have BR := BR.kept x58 ⟨own_ty o1 BR (by decide), by omega⟩
    have BS := BS.kept x58 ⟨own_ty o1 BS (by decide), by omega⟩
    have o1' := p1'.thenK kk' (fun g hg e => own_ty p1' T' (by decide) (e ▸ hg)) x08
    have o1' : OwnF w u5 A1' (k + 1) q1' 3 1 (icells k (hdV d x hour) ++ [iv (hdV d x hour k)]) := o1'
    rw [show icells k (hdV d x hour) ++ [iv (hdV d x hour k)] = icells (k + 1) (hdV d x hour) from (icells_snoc _ _).symm] at o1'
    clear o1 o2 o3 o4 o5 o6 o7 k1 k2 k3 k4 k5 k6 k7
    have o1 := o1'
    have k1 := r1
    have o2 := o2'
    have k2 := k2'
    have o3 := o3'
    have k3 := k3'
    have o4 := o4'
    have k4 := k4'
    have o5 := o5'
    have k5 := k5'
    have o6 := o6'
    have k6 := k6'
    have o7 := o7'
    have k7 := k7'
    have x0 := x08
    have T : Blk u5 bT 61 [.slice A1' (k + 1) q1', .slice OT 0 q2, .slice TT k q3, .slice AT k q4, .slice none 0 0] := Z
    have W := W'.kept kk' (by omega)
    clear x08 T' W' Z x58 kk kk' xk na hcl hA p1' nX nB nO y1 x2
    clear o1' o2' o3' o4' o5' o6' o7' k2' k3' k4' k5' k6' k7' r1
    have nX := own_ty o4 Bx (show 55 ≠ 3 by decide)
    have nB := own_ty o4 T (show 61 ≠ 3 by decide)
    have nO : ∀ b, b < w.heap.size → AT ≠ some (ad b 0) := fun b hb e => by have := o4.new b e; omega
    refine drawP (.take 0 (.take 1 (.take 2 (.take 3 (.take 4 (.take 5 (.take 6 (.take 7 (.take 8 (.take 9 (.take 10 (.take 11 (.take 12 (.take 13 (.take 14 (.take 15 (.take 16 (.take 17 (.take 18 (.take 19 (.take 20 (.take 21 (.take 22 (.take 23 (.take 24 (.take 25 (.take 26 (.take 27 (.eff 28 (.eff 29 (.take 30 (.bar (.eff 31 .done))))))))))))))))))))))))))))))))) [31] (fun z => Kept (fun b => AT ≠ some (ad b 0)) u5 z) mx (by kernel_rfl) (.refl _ _) ?_
    refine fldA ?_
    refine ldK (.slice AT k q4) (T.cell rfl) nB (.refl _ _) ?_
    refine fldA ?_
    refine ldK _ (Bx.cell rfl) nX (.refl _ _) ?_
    refine idx k rfl (by omega) ?_
    refine ldK _ (x0.cell cc3 trivial) (nO _ (lt_of_cell cc3)) (.refl _ _) ?_
    refine idx (atV d hour k) rfl (by omega) ?_
    refine ldK _ (x0.cell vv3 trivial) (nO _ (lt_of_cell vv3)) (.refl _ _) ?_
    refine fldA ?_
    refine ldK _ (Bx.cell rfl) nX (.refl _ _) ?_
    refine idx k rfl (by omega) ?_
    refine ldK _ (x0.cell cc4 trivial) (nO _ (lt_of_cell cc4)) (.refl _ _) ?_
    refine idx (atV d hour k) rfl (by omega) ?_
    refine ldK _ (x0.cell vv4 trivial) (nO _ (lt_of_cell vv4)) (.refl _ _) ?_
    have v3 := tab_val hf.inn hlt' hA
    have v4 := tab_val hf.evap hlt' hA
    have v5 := tab_val hf.seep hlt' hA
    unfold g2 at v3 v4 v5
    refine arI (by omega) ?_
    refine fldA ?_
    refine ldK _ (Bx.cell rfl) nX (.refl _ _) ?_
    refine idx k rfl (by omega) ?_
    refine ldK _ (x0.cell cc5 trivial) (nO _ (lt_of_cell cc5)) (.refl _ _) ?_
    refine idx (atV d hour k) rfl (by omega) ?_
    refine ldK _ (x0.cell vv5 trivial) (nO _ (lt_of_cell vv5)) (.refl _ _) ?_
    refine arE (arV d x hour k) rfl (by unfold arV g2; omega) ?_
    have y1 : Ext u5 u5 := .refl _ _
    refine lit [iv (arV d x hour k)] (fun hg u7 hq => ?_)
    have x2 : Ext u5 u7 := y1.trans hq.ext
    refine strS (Ext.any x2) ?_
    refine appF (o4.then x2) (hq.src (sz := 1) rfl) (by omega) (fun A4' q4' u8 p4' kk hA => ?_)
    have xk : Kept (fun b => AT ≠ some (ad b 0)) u5 u8 := (Ext.any x2).trans kk
    refine strS xk ?_
    refine fldA ?_
    refine barS (fun _ => True) trivial ?_
    have na : nw u5 AT A4' := nw.of hA x2.size
    obtain ⟨cls', hcl, r4⟩ := cof_up1 k4 na
    have T' := T.kept xk nB
    have W' := W.kept xk (own_ty o4 W (by decide))
    refine st (v := .slice A4' (k + 1) q4') T' (Nat.le_of_ble_eq_true rfl) rfl (fun u9 Z kk' z' => ?_)
    refine strS trivial ?_
    have x58 : Kept (fun b => AT ≠ some (ad b 0) ∧ b ≠ bT) u5 u9 := (xk.weak fun _ _ h => h.1).trans (kk'.weak fun _ _ h => h.2)
    have x08 : Ext w u9 := x0.then x58 fun b hb _ => ⟨nO b hb, by omega⟩
    have k1' := k1.keep o1 hcl
    have o1' := o1.thenK x58 (fun g hg => ⟨k1.ne k4 (by decide) g hg, fun e => own_ty o1 T (by decide) (e ▸ hg)⟩) x08
    have k2' := k2.keep o2 hcl
    have o2' := o2.thenK x58 (fun g hg => ⟨k2.ne k4 (by decide) g hg, fun e => own_ty o2 T (by decide) (e ▸ hg)⟩) x08
    have k3' := k3.keep o3 hcl
    have o3' := o3.thenK x58 (fun g hg => ⟨k3.ne k4 (by decide) g hg, fun e => own_ty o3 T (by decide) (e ▸ hg)⟩) x08
    have k5' := k5.keep o5 hcl
    have o5' := o5.thenK x58 (fun g hg => ⟨k5.ne k4 (by decide) g hg, fun e => own_ty o5 T (by decide) (e ▸ hg)⟩) x08
    have k6' := k6.keep o6 hcl
    have o6' := o6.thenK x58 (fun g hg => ⟨k6.ne k4 (by decide) g hg, fun e => own_ty o6 T (by decide) (e ▸ hg)⟩) x08
    have k7' := k7.keep o7 hcl
    have o7' := o7.thenK x58 (fun g hg => ⟨k7.ne k4 (by decide) g hg, fun e => own_ty o7 T (by decide) (e ▸ hg)⟩) x08
    have Bd := Bd.kept x58 ⟨own_ty o4 Bd (by decide), by omega⟩
    have Bx := Bx.kept x58 ⟨own_ty o4 Bx (by decide), by omega⟩
    have BR := BR.kept x58 ⟨own_ty o4 BR (by decide), by omega⟩
    have BS := BS.kept x58 ⟨own_ty o4 BS (by decide), by omega⟩
    have o4' := p4'.thenK kk' (fun g hg e => own_ty p4' T' (by decide) (e ▸ hg)) x08
    have o4' : OwnF w u9 A4' (k + 1) q4' 3 1 (icells k (arV d x hour) ++ [iv (arV d x hour k)]) := o4'
    rw [show icells k (arV d x hour) ++ [iv (arV d x hour k)] = icells (k + 1) (arV d x hour) from (icells_snoc _ _).symm] at o4'
    clear o1 o2 o3 o4 o5 o6 o7 k1 k2 k3 k4 k5 k6 k7
    have o1 := o1'
    have k1 := k1'
    have o2 := o2'
    have k2 := k2'
    have o3 := o3'
    have k3 := k3'
    have o4 := o4'
    have k4 := r4
    have o5 := o5'
    have k5 := k5'
    have o6 := o6'
    have k6 := k6'
    have o7 := o7'
    have k7 := k7'
    have x0 := x08
    have T : Blk u9 bT 61 [.slice A1' (k + 1) q1', .slice OT 0 q2, .slice TT k q3, .slice A4' (k + 1) q4', .slice none 0 0] := Z
    have W := W'.kept kk' (by omega)
    clear x08 T' W' Z x58 kk kk' xk na hcl hA p4' nX nB nO y1 x2
    clear o1' o2' o3' o4' o5' o6' o7' k1' k2' k3' k5' k6' k7' r4
    have nX := own_ty o3 Bx (show 55 ≠ 3 by decide)
    have nB := own_ty o3 T (show 61 ≠ 3 by decide)
    have nO : ∀ b, b < w.heap.size → TT ≠ some (ad b 0) := fun b hb e => by have := o3.new b e; omega
    refine drawP (.take 0 (.take 1 (.take 2 (.take 3 (.take 4 (.take 5 (.take 6 (.take 7 (.take 8 (.take 9 (.eff 10 (.eff 11 (.take 12 (.bar (.eff 13 .done))))))))))))))) [13] (fun z => Kept (fun b => TT ≠ some (ad b 0)) u9 z) mx (by kernel_rfl) (.refl _ _) ?_
    refine fldA ?_
    refine ldK (.slice TT k q3) (T.cell rfl) nB (.refl _ _) ?_
    refine fldA ?_
    refine ldK _ (Bx.cell rfl) nX (.refl _ _) ?_
    refine idx k rfl (by omega) ?_
    refine ldK _ (x0.cell cc7 trivial) (nO _ (lt_of_cell cc7)) (.refl _ _) ?_
    refine idx (endV d hour k) rfl (by omega) ?_
    refine ldK (iv (tlV d x hour k)) (x0.cell vv7 trivial) (nO _ (lt_of_cell vv7)) (.refl _ _) ?_
    have y1 : Ext u9 u9 := .refl _ _
    refine lit [iv (tlV d x hour k)] (fun hg u11 hq => ?_)
    have x2 : Ext u9 u11 := y1.trans hq.ext
    refine strS (Ext.any x2) ?_
    refine appF (o3.then x2) (hq.src (sz := 1) rfl) (by omega) (fun A3' q3' u12 p3' kk hA => ?_)
    have xk : Kept (fun b => TT ≠ some (ad b 0)) u9 u12 := (Ext.any x2).trans kk
    refine strS xk ?_
    refine fldA ?_
    refine barS (fun _ => True) trivial ?_
    have na : nw u9 TT A3' := nw.of hA x2.size
    obtain ⟨cls', hcl, r3⟩ := cof_up1 k3 na
    have T' := T.kept xk nB
    have W' := W.kept xk (own_ty o3 W (by decide))
    refine st (v := .slice A3' (k + 1) q3') T' (Nat.le_of_ble_eq_true rfl) rfl (fun u13 Z kk' z' => ?_)
    refine strS trivial ?_
    have x58 : Kept (fun b => TT ≠ some (ad b 0) ∧ b ≠ bT) u9 u13 := (xk.weak fun _ _ h => h.1).trans (kk'.weak fun _ _ h => h.2)
    have x08 : Ext w u13 := x0.then x58 fun b hb _ => ⟨nO b hb, by omega⟩
    have k1' := k1.keep o1 hcl
    have o1' := o1.thenK x58 (fun g hg => ⟨k1.ne k3 (by decide) g hg, fun e => own_ty o1 T (by decide) (e ▸ hg)⟩) x08
    have k2' := k2.keep o2 hcl
    have o2' := o2.thenK x58 (fun g hg => ⟨k2.ne k3 (by decide) g hg, fun e => own_ty o2 T (by decide) (e ▸ hg)⟩) x08
    have k4' := k4.keep o4 hcl
    have o4' := o4.thenK x58 (fun g hg => ⟨k4.ne k3 (by decide) g hg, fun e => own_ty o4 T (by decide) (e ▸ hg)⟩) x08
    have k5' := k5.keep o5 hcl
    have o5' := o5.thenK x58 (fun g hg => ⟨k5.ne k3 (by decide) g hg, fun e => own_ty o5 T (by decide) (e ▸ hg)⟩) x08
    have k6' := k6.keep o6 hcl
    have o6' := o6.thenK x58 (fun g hg => ⟨k6.ne k3 (by decide) g hg, fun e => own_ty o6 T (by decide) (e ▸ hg)⟩) x08
    have k7' := k7.keep o7 hcl
    have o7' := o7.thenK x58 (fun g hg => ⟨k7.ne k3 (by decide) g hg, fun e => own_ty o7 T (by decide) (e ▸ hg)⟩) x08
    have Bd := Bd.kept x58 ⟨own_ty o3 Bd (by decide), by omega⟩
    have Bx := Bx.kept x58 ⟨own_ty o3 Bx (by decide), by omega⟩
    have BR := BR.kept x58 ⟨own_ty o3 BR (by decide), by omega⟩
    have BS := BS.kept x58 ⟨own_ty o3 BS (by decide), by omega⟩
    have o3' := p3'.thenK kk' (fun g hg e => own_ty p3' T' (by decide) (e ▸ hg)) x08
    have o3' : OwnF w u13 A3' (k + 1) q3' 3 1 (icells k (tlV d x hour) ++ [iv (tlV d x hour k)]) := o3'
    rw [show icells k (tlV d x hour) ++ [iv (tlV d x hour k)] = icells (k + 1) (tlV d x hour) from (icells_snoc _ _).symm] at o3'
    clear o1 o2 o3 o4 o5 o6 o7 k1 k2 k3 k4 k5 k6 k7
    have o1 := o1'
    have k1 := k1'
    have o2 := o2'
    have k2 := k2'
    have o3 := o3'
    have k3 := r3
    have o4 := o4'
    have k4 := k4'
    have o5 := o5'
    have k5 := k5'
    have o6 := o6'
    have k6 := k6'
    have o7 := o7'
    have k7 := k7'
    have x0 := x08
    have T : Blk u13 bT 61 [.slice A1' (k + 1) q1', .slice OT 0 q2, .slice A3' (k + 1) q3', .slice A4' (k + 1) q4', .slice none 0 0] := Z
    have W := W'.kept kk' (by omega)
    clear x08 T' W' Z x58 kk kk' xk na hcl hA p3' nX nB nO y1 x2
    clear o1' o2' o3' o4' o5' o6' o7' k1' k2' k4' k5' k6' k7' r3
    have nX := own_ty o5 Bx (show 55 ≠ 101 by decide)
    have nB := own_ty o5 W (show 59 ≠ 101 by decide)
    have nO : ∀ b, b < w.heap.size → HW ≠ some (ad b 0) := fun b hb e => by have := o5.new b e; omega
    refine drawP (.take 0 (.take 1 (.take 2 (.take 3 (.take 4 (.take 5 (.take 6 (.take 7 (.take 8 (.take 9 (.take 10 (.eff 11 (.eff 12 (.eff 13 (.take 14 (.bar (.eff 15 .done))))))))))))))))) [15] (fun z => Kept (fun b => HW ≠ some (ad b 0)) u13 z) mx (by kernel_rfl) (.refl _ _) ?_
    refine fldA ?_
    refine ldK (.slice HW k q5) (W.cell rfl) nB (.refl _ _) ?_
    refine fldA ?_
    refine ldK _ (Bx.cell rfl) nX (.refl _ _) ?_
    refine idx k rfl (by omega) ?_
    refine ldK _ (x0.cell cc3 trivial) (nO _ (lt_of_cell cc3)) (.refl _ _) ?_
    refine idx (atV d hour k) rfl (by omega) ?_
    refine ldK (iv (hdV d x hour k)) (x0.cell vv3 trivial) (nO _ (lt_of_cell vv3)) (.refl _ _) ?_
    refine call_of (c_r48around (v := hdV d x hour k) (wide := wide) (by unfold hdV; omega) (by omega)) ?_
    rintro _ u14 ⟨rfl, y1⟩
    refine strS (Ext.any y1) ?_
    refine lit [.agg #[iv (arR wide (hdV d x hour k)).lo, iv (arR wide (hdV d x hour k)).hi]] (fun hg u15 hq => ?_)
    have x2 : Ext u13 u15 := y1.trans hq.ext
    refine strS (Ext.any x2) ?_
    refine appF (o5.then x2) (hq.src (sz := 2) rfl) (by omega) (fun A5' q5' u16 p5' kk hA => ?_)
    have xk : Kept (fun b => HW ≠ some (ad b 0)) u13 u16 := (Ext.any x2).trans kk
    refine strS xk ?_
    refine fldA ?_
    refine barS (fun _ => True) trivial ?_
    have na : nw u13 HW A5' := nw.of hA x2.size
    obtain ⟨cls', hcl, r5⟩ := cof_up1 k5 na
    have T' := T.kept xk (own_ty o5 T (by decide))
    have W' := W.kept xk nB
    refine st (v := .slice A5' (k + 1) q5') W' (Nat.le_of_ble_eq_true rfl) rfl (fun u17 Z kk' z' => ?_)
    refine strS trivial ?_
    have x58 : Kept (fun b => HW ≠ some (ad b 0) ∧ b ≠ bW) u13 u17 := (xk.weak fun _ _ h => h.1).trans (kk'.weak fun _ _ h => h.2)
    have x08 : Ext w u17 := x0.then x58 fun b hb _ => ⟨nO b hb, by omega⟩
    have k1' := k1.keep o1 hcl
    have o1' := o1.thenK x58 (fun g hg => ⟨k1.ne k5 (by decide) g hg, fun e => own_ty o1 W (by decide) (e ▸ hg)⟩) x08
    have k2' := k2.keep o2 hcl
    have o2' := o2.thenK x58 (fun g hg => ⟨k2.ne k5 (by decide) g hg, fun e => own_ty o2 W (by decide) (e ▸ hg)⟩) x08
    have k3' := k3.keep o3 hcl
    have o3' := o3.thenK x58 (fun g hg => ⟨k3.ne k5 (by decide) g hg, fun e => own_ty o3 W (by decide) (e ▸ hg)⟩) x08
    have k4' := k4.keep o4 hcl
    have o4' := o4.thenK x58 (fun g hg => ⟨k4.ne k5 (by decide) g hg, fun e => own_ty o4 W (by decide) (e ▸ hg)⟩) x08
    have k6' := k6.keep o6 hcl
    have o6' := o6.thenK x58 (fun g hg => ⟨k6.ne k5 (by decide) g hg, fun e => own_ty o6 W (by decide) (e ▸ hg)⟩) x08
    have k7' := k7.keep o7 hcl
    have o7' := o7.thenK x58 (fun g hg => ⟨k7.ne k5 (by decide) g hg, fun e => own_ty o7 W (by decide) (e ▸ hg)⟩) x08
    have Bd := Bd.kept x58 ⟨own_ty o5 Bd (by decide), by omega⟩
    have Bx := Bx.kept x58 ⟨own_ty o5 Bx (by decide), by omega⟩
    have BR := BR.kept x58 ⟨own_ty o5 BR (by decide), by omega⟩
    have BS := BS.kept x58 ⟨own_ty o5 BS (by decide), by omega⟩
    have o5' := p5'.thenK kk' (fun g hg e => own_ty p5' W' (by decide) (e ▸ hg)) x08
    have o5' : OwnF w u17 A5' (k + 1) q5' 101 2 (rcells k (fun r => arR wide (hdV d x hour r)) ++ [iv (arR wide (hdV d x hour k)).lo, iv (arR wide (hdV d x hour k)).hi]) := o5'
    rw [show rcells k (fun r => arR wide (hdV d x hour r)) ++ [iv (arR wide (hdV d x hour k)).lo, iv (arR wide (hdV d x hour k)).hi] = rcells (k + 1) (fun r => arR wide (hdV d x hour r)) from (rcells_snoc _ _).symm] at o5'
    clear o1 o2 o3 o4 o5 o6 o7 k1 k2 k3 k4 k5 k6 k7
    have o1 := o1'
    have k1 := k1'
    have o2 := o2'
    have k2 := k2'
    have o3 := o3'
    have k3 := k3'
    have o4 := o4'
    have k4 := k4'
    have o5 := o5'
    have k5 := r5
    have o6 := o6'
    have k6 := k6'
    have o7 := o7'
    have k7 := k7'
    have x0 := x08
    have W : Blk u17 bW 59 [iv hour, .slice A5' (k + 1) q5', .slice OW 0 q6, .slice TW k q7] := Z
    have T := T'.kept kk' (by omega)
    clear x08 T' W' Z x58 kk kk' xk na hcl hA p5' nX nB nO y1 x2
    clear o1' o2' o3' o4' o5' o6' o7' k1' k2' k3' k4' k6' k7' r5
    have nX := own_ty o7 Bx (show 55 ≠ 101 by decide)
    have nB := own_ty o7 W (show 59 ≠ 101 by decide)
    have nO : ∀ b, b < w.heap.size → TW ≠ some (ad b 0) := fun b hb e => by have := o7.new b e; omega
    refine drawP (.take 0 (.take 1 (.take 2 (.take 3 (.take 4 (.take 5 (.take 6 (.take 7 (.take 8 (.take 9 (.take 10 (.eff 11 (.eff 12 (.eff 13 (.take 14 (.bar (.eff 15 .done))))))))))))))))) [15] (fun z => Kept (fun b => TW ≠ some (ad b 0)) u17 z) mx (by kernel_rfl) (.refl _ _) ?_
    refine fldA ?_
    refine ldK (.slice TW k q7) (W.cell rfl) nB (.refl _ _) ?_
    refine fldA ?_
    refine ldK _ (Bx.cell rfl) nX (.refl _ _) ?_
    refine idx k rfl (by omega) ?_
    refine ldK _ (x0.cell cc7 trivial) (nO _ (lt_of_cell cc7)) (.refl _ _) ?_
    refine idx (endV d hour k) rfl (by omega) ?_
    refine ldK (iv (tlV d x hour k)) (x0.cell vv7 trivial) (nO _ (lt_of_cell vv7)) (.refl _ _) ?_
    refine call_of (c_r48around (v := tlV d x hour k) (wide := wide) (by unfold tlV; omega) (by omega)) ?_
    rintro _ u18 ⟨rfl, y1⟩
    refine strS (Ext.any y1) ?_
    refine lit [.agg #[iv (arR wide (tlV d x hour k)).lo, iv (arR wide (tlV d x hour k)).hi]] (fun hg u19 hq => ?_)
    have x2 : Ext u17 u19 := y1.trans hq.ext
    refine strS (Ext.any x2) ?_
    refine appF (o7.then x2) (hq.src (sz := 2) rfl) (by omega) (fun A7' q7' u20 p7' kk hA => ?_)
    have xk : Kept (fun b => TW ≠ some (ad b 0)) u17 u20 := (Ext.any x2).trans kk
    refine strS xk ?_
    refine fldA ?_
    refine barS (fun _ => True) trivial ?_
    have na : nw u17 TW A7' := nw.of hA x2.size
    obtain ⟨cls', hcl, r7⟩ := cof_up1 k7 na
    have T' := T.kept xk (own_ty o7 T (by decide))
    have W' := W.kept xk nB
    refine st (v := .slice A7' (k + 1) q7') W' (Nat.le_of_ble_eq_true rfl) rfl (fun u21 Z kk' z' => ?_)
    refine strS trivial ?_
    have x58 : Kept (fun b => TW ≠ some (ad b 0) ∧ b ≠ bW) u17 u21 := (xk.weak fun _ _ h => h.1).trans (kk'.weak fun _ _ h => h.2)
    have x08 : Ext w u21 := x0.then x58 fun b hb _ => ⟨nO b hb, by omega⟩
    have k1' := k1.keep o1 hcl
    have o1' := o1.thenK x58 (fun g hg => ⟨k1.ne k7 (by decide) g hg, fun e => own_ty o1 W (by decide) (e ▸ hg)⟩) x08
    have k2' := k2.keep o2 hcl
    have o2' := o2.thenK x58 (fun g hg => ⟨k2.ne k7 (by decide) g hg, fun e => own_ty o2 W (by decide) (e ▸ hg)⟩) x08
    have k3' := k3.keep o3 hcl
    have o3' := o3.thenK x58 (fun g hg => ⟨k3.ne k7 (by decide) g hg, fun e => own_ty o3 W (by decide) (e ▸ hg)⟩) x08
    have k4' := k4.keep o4 hcl
    have o4' := o4.thenK x58 (fun g hg => ⟨k4.ne k7 (by decide) g hg, fun e => own_ty o4 W (by decide) (e ▸ hg)⟩) x08
    have k5' := k5.keep o5 hcl
    have o5' := o5.thenK x58 (fun g hg => ⟨k5.ne k7 (by decide) g hg, fun e => own_ty o5 W (by decide) (e ▸ hg)⟩) x08
    have k6' := k6.keep o6 hcl
    have o6' := o6.thenK x58 (fun g hg => ⟨k6.ne k7 (by decide) g hg, fun e => own_ty o6 W (by decide) (e ▸ hg)⟩) x08
    have Bd := Bd.kept x58 ⟨own_ty o7 Bd (by decide), by omega⟩
    have Bx := Bx.kept x58 ⟨own_ty o7 Bx (by decide), by omega⟩
    have BR := BR.kept x58 ⟨own_ty o7 BR (by decide), by omega⟩
    have BS := BS.kept x58 ⟨own_ty o7 BS (by decide), by omega⟩
    have o7' := p7'.thenK kk' (fun g hg e => own_ty p7' W' (by decide) (e ▸ hg)) x08
    have o7' : OwnF w u21 A7' (k + 1) q7' 101 2 (rcells k (fun r => arR wide (tlV d x hour r)) ++ [iv (arR wide (tlV d x hour k)).lo, iv (arR wide (tlV d x hour k)).hi]) := o7'
    rw [show rcells k (fun r => arR wide (tlV d x hour r)) ++ [iv (arR wide (tlV d x hour k)).lo, iv (arR wide (tlV d x hour k)).hi] = rcells (k + 1) (fun r => arR wide (tlV d x hour r)) from (rcells_snoc _ _).symm] at o7'
    clear o1 o2 o3 o4 o5 o6 o7 k1 k2 k3 k4 k5 k6 k7
    have o1 := o1'
    have k1 := k1'
    have o2 := o2'
    have k2 := k2'
    have o3 := o3'
    have k3 := k3'
    have o4 := o4'
    have k4 := k4'
    have o5 := o5'
    have k5 := k5'
    have o6 := o6'
    have k6 := k6'
    have o7 := o7'
    have k7 := r7
    have x0 := x08
    have W : Blk u21 bW 59 [iv hour, .slice A5' (k + 1) q5', .slice OW 0 q6, .slice A7' (k + 1) q7'] := Z
    have T := T'.kept kk' (by omega)
    clear x08 T' W' Z x58 kk kk' xk na hcl hA p7' nX nB nO y1 x2
    clear o1' o2' o3' o4' o5' o6' o7' k1' k2' k3' k4' k5' k6' r7
    refine arI (by omega) ?_
    refine next (k + 1) ⟨by rw [Int.natCast_add]; rfl, trivial⟩ ⟨by omega, x0, Bd, Bx, BR, BS, fun r hr => ?_, ⟨_, _, _, _, _, _, _, _, _, _, _, _, _, _, _, T, W, ⟨o1, k1⟩, ⟨o2, k2⟩, ⟨o3, k3⟩, ⟨o4, k4⟩, ⟨o5, k5⟩, ⟨o6, k6⟩, ⟨o7, k7⟩⟩⟩ (by omega)
    by_cases e : r = k
    · subst e; omega
    · exact hfit r (by omega)
  obtain rfl : n1 = k := by omega
  have ok : OfOk d x hour wide := ⟨q0, ⟨by omega, by omega⟩, ⟨by omega, by omega⟩, fun r hr => hfit r (by omega)⟩
  obtain ⟨b1, b2⟩ := ok.bounds
  have oe := ofErr_ok.2 ok
  refine loop_rule (fun f : Nat => [(19, iv (f : Int))]) (fun f u => f ≤ n2 ∧ Ext w u ∧ Blk u bd 31 [.string d.name, iv d.hours, iv d.cap, iv d.start, .slice A1 n1 c1, .slice A2 n2 c2, .slice A3 n3 c3, .slice A4 n4 c4, .slice A5 n5 c5, .slice A6 n6 c6] ∧ Blk u bx 55 [.slice B1 m1 e1, .slice B2 m2 e2, .slice B3 m3 e3, .slice B4 m4 e4, .slice B5 m5 e5, .slice B6 m6 e6, .slice B7 m7 e7] ∧ Blk u bR 59 [iv 0, .slice none 0 0, .slice none 0 0, .slice none 0 0] ∧ Blk u bS 61 [.slice none 0 0, .slice none 0 0, .slice none 0 0, .slice none 0 0, .slice none 0 0] ∧ OfJ w u bW bT d x hour wide n1 f) (fun f _ => n2 - f) 0 ⟨rfl, trivial⟩ ⟨by omega, x0, Bd, Bx, BR, BS, hI⟩ rfl ?_
  clear Bd Bx BR BS hI x0
  rintro G2 f u0 ⟨hf2, x0, Bd, Bx, BR, BS, hI⟩
  refine fldA ?_
  refine ld (.slice A2 n2 c2) (Bd.cell rfl) ?_
  refine len ?_
  refine cD (fun hlt => ?_) (fun hge => ?_)
  · have hlt : f < n2 := by omega
    have hlt' : f < d.farms.length := by omega
    obtain ⟨b, o, cs, y, rfl, hy, -, -, hc, rfl⟩ := (hfa.ext x0).at_ hlt
    have hrc : frm d f = y := frm_eq hy
    obtain ⟨⟨w1', w2'⟩, w3', w4'⟩ := b2 f hlt'
    rw [hrc] at w3' w4'
    obtain ⟨j, hj⟩ : ∃ j : Nat, y.reach = (j : Int) := ⟨y.reach.toNat, by omega⟩
    obtain ⟨p1, p2, p3, p4, p5, p6⟩ := ok.at_ (r := j) (by omega)
    have hE : endV d hour j < H := by omega
    have hot : otV d x hour f = g2 x.taken f (endV d hour j) := by unfold otV; rw [hrc, hj, Int.toNat_natCast]
    refine drawX [0, 1, 2, 3, 4, 5, 6, 7, 8, 9, 10, 11, 12] [7] mx (by kernel_rfl) ?_
    refine ldAX _ (.blk Bd) rfl (.refl _ _) ?_
    refine fldA ?_
    refine ldX _ (Bd.cell rfl) (.refl _ _) ?_
    refine idx f rfl hlt ?_
    refine fldA ?_
    refine ldX (iv y.reach) (hc 1 _ rfl) (.refl _ _) ?_
    have hcan : canE d [y.reach] = 0 := by
      unfold canE
      rw [if_pos hd0, if_pos (by simp; omega)]
    have cc := c_r20Delay (r := y.reach) (hd.ext x0)
    rw [hcan, if_pos rfl] at cc
    refine call_of cc ?_
    clear cc
    rintro _ u1 ⟨rfl, y1⟩
    refine strS y1 ?_
    have x0 := x0.trans y1
    have Bd := Bd.ext y1
    have Bx := Bx.ext y1
    have BR := BR.ext y1
    have BS := BS.ext y1
    have hI := hI.ext y1
    clear y1 hc
    rw [hj]
    obtain ⟨HT, q1, OT, q2, TT, q3, AT, q4, HW, q5, OW, q6, TW, q7, cls, T, W, ⟨o1, k1⟩, ⟨o2, k2⟩, ⟨o3, k3⟩, ⟨o4, k4⟩, ⟨o5, k5⟩, ⟨o6, k6⟩, ⟨o7, k7⟩⟩ := hI.ex
    clear hI
    have y6 := tabB_iff.1 hf.taken
    have l6 := i6.len
    have n6' := (numB_iff.1 (tab_row hf.taken hlt').2).1
    obtain ⟨f6, f6', R6, s6, g6', rfl, cc6, r6, -⟩ := row_at i6 (i := f) (by omega)
    have z6' := r6.len
    obtain ⟨r6b, r6o, rfl, vv6⟩ := num_at r6 (k := endV d hour j) (by omega)
    have vv6 : w.cell? (ad r6b (r6o + endV d hour j * 1)) = some (iv (otV d x hour f)) := by rw [hot]; exact vv6
    have nX := own_ty o2 Bx (show 55 ≠ 3 by decide)
    have nB := own_ty o2 T (show 61 ≠ 3 by decide)
    have nO : ∀ b, b < w.heap.size → OT ≠ some (ad b 0) := fun b hb e => by have := o2.new b e; omega
    refine drawP (.take 0 (.take 1 (.take 2 (.take 3 (.take 4 (.take 5 (.take 6 (.take 7 (.take 8 (.take 9 (.take 10 (.take 11 (.eff 12 (.eff 13 (.take 14 (.bar (.eff 15 .done))))))))))))))))) [15] (fun z => Kept (fun b => OT ≠ some (ad b 0)) u1 z) mx (by kernel_rfl) (.refl _ _) ?_
    refine fldA ?_
    refine ldK (.slice OT f q2) (T.cell rfl) nB (.refl _ _) ?_
    refine fldA ?_
    refine ldK _ (Bx.cell rfl) nX (.refl _ _) ?_
    refine idx f rfl (by omega) ?_
    refine ldK _ (x0.cell cc6 trivial) (nO _ (lt_of_cell cc6)) (.refl _ _) ?_
    refine arE ((endV d hour j : Nat) : Int) (by omega) (by omega) ?_
    refine idx (endV d hour j) rfl (by omega) ?_
    refine ldK (iv (otV d x hour f)) (x0.cell vv6 trivial) (nO _ (lt_of_cell vv6)) (.refl _ _) ?_
    have y1 : Ext u1 u1 := .refl _ _
    refine lit [iv (otV d x hour f)] (fun hg u3 hq => ?_)
    have x2 : Ext u1 u3 := y1.trans hq.ext
    refine strS (Ext.any x2) ?_
    refine appF (o2.then x2) (hq.src (sz := 1) rfl) (by omega) (fun A2' q2' u4 p2' kk hA => ?_)
    have xk : Kept (fun b => OT ≠ some (ad b 0)) u1 u4 := (Ext.any x2).trans kk
    refine strS xk ?_
    refine fldA ?_
    refine barS (fun _ => True) trivial ?_
    have na : nw u1 OT A2' := nw.of hA x2.size
    obtain ⟨cls', hcl, r2⟩ := cof_up1 k2 na
    have T' := T.kept xk nB
    have W' := W.kept xk (own_ty o2 W (by decide))
    refine st (v := .slice A2' (f + 1) q2') T' (Nat.le_of_ble_eq_true rfl) rfl (fun u5 Z kk' z' => ?_)
    refine strS trivial ?_
    have x58 : Kept (fun b => OT ≠ some (ad b 0) ∧ b ≠ bT) u1 u5 := (xk.weak fun _ _ h => h.1).trans (kk'.weak fun _ _ h => h.2)
    have x08 : Ext w u5 := x0.then x58 fun b hb _ => ⟨nO b hb, by omega⟩
    have k1' := k1.keep o1 hcl
    have o1' := o1.thenK x58 (fun g hg => ⟨k1.ne k2 (by decide) g hg, fun e => own_ty o1 T (by decide) (e ▸ hg)⟩) x08
    have k3' := k3.keep o3 hcl
    have o3' := o3.thenK x58 (fun g hg => ⟨k3.ne k2 (by decide) g hg, fun e => own_ty o3 T (by decide) (e ▸ hg)⟩) x08
    have k4' := k4.keep o4 hcl
    have o4' := o4.thenK x58 (fun g hg => ⟨k4.ne k2 (by decide) g hg, fun e => own_ty o4 T (by decide) (e ▸ hg)⟩) x08
    have k5' := k5.keep o5 hcl
    have o5' := o5.thenK x58 (fun g hg => ⟨k5.ne k2 (by decide) g hg, fun e => own_ty o5 T (by decide) (e ▸ hg)⟩) x08
    have k6' := k6.keep o6 hcl
    have o6' := o6.thenK x58 (fun g hg => ⟨k6.ne k2 (by decide) g hg, fun e => own_ty o6 T (by decide) (e ▸ hg)⟩) x08
    have k7' := k7.keep o7 hcl
    have o7' := o7.thenK x58 (fun g hg => ⟨k7.ne k2 (by decide) g hg, fun e => own_ty o7 T (by decide) (e ▸ hg)⟩) x08
    have Bd := Bd.kept x58 ⟨own_ty o2 Bd (by decide), by omega⟩
    have Bx := Bx.kept x58 ⟨own_ty o2 Bx (by decide), by omega⟩
    have BR := BR.kept x58 ⟨own_ty o2 BR (by decide), by omega⟩
    have BS := BS.kept x58 ⟨own_ty o2 BS (by decide), by omega⟩
    have o2' := p2'.thenK kk' (fun g hg e => own_ty p2' T' (by decide) (e ▸ hg)) x08
    have o2' : OwnF w u5 A2' (f + 1) q2' 3 1 (icells f (otV d x hour) ++ [iv (otV d x hour f)]) := o2'
    rw [show icells f (otV d x hour) ++ [iv (otV d x hour f)] = icells (f + 1) (otV d x hour) from (icells_snoc _ _).symm] at o2'
    clear o1 o2 o3 o4 o5 o6 o7 k1 k2 k3 k4 k5 k6 k7
    have o1 := o1'
    have k1 := k1'
    have o2 := o2'
    have k2 := r2
    have o3 := o3'
    have k3 := k3'
    have o4 := o4'
    have k4 := k4'
    have o5 := o5'
    have k5 := k5'
    have o6 := o6'
    have k6 := k6'
    have o7 := o7'
    have k7 := k7'
    have x0 := x08
    have T : Blk u5 bT 61 [.slice HT n1 q1, .slice A2' (f + 1) q2', .slice TT n1 q3, .slice AT n1 q4, .slice none 0 0] := Z
    have W := W'.kept kk' (by omega)
    clear x08 T' W' Z x58 kk kk' xk na hcl hA p2' nX nB nO y1 x2
    clear o1' o2' o3' o4' o5' o6' o7' k1' k3' k4' k5' k6' k7' r2
    have nX := own_ty o6 Bx (show 55 ≠ 101 by decide)
    have nB := own_ty o6 W (show 59 ≠ 101 by decide)
    have nO : ∀ b, b < w.heap.size → OW ≠ some (ad b 0) := fun b hb e => by have := o6.new b e; omega
    refine drawP (.take 0 (.take 1 (.take 2 (.take 3 (.take 4 (.take 5 (.take 6 (.take 7 (.take 8 (.take 9 (.take 10 (.take 11 (.take 12 (.eff 13 (.eff 14 (.eff 15 (.take 16 (.bar (.eff 17 .done))))))))))))))))))) [17] (fun z => Kept (fun b => OW ≠ some (ad b 0)) u5 z) mx (by kernel_rfl) (.refl _ _) ?_
    refine fldA ?_
    refine ldK (.slice OW f q6) (W.cell rfl) nB (.refl _ _) ?_
    refine fldA ?_
    refine ldK _ (Bx.cell rfl) nX (.refl _ _) ?_
    refine idx f rfl (by omega) ?_
    refine ldK _ (x0.cell cc6 trivial) (nO _ (lt_of_cell cc6)) (.refl _ _) ?_
    refine arE ((endV d hour j : Nat) : Int) (by omega) (by omega) ?_
    refine idx (endV d hour j) rfl (by omega) ?_
    refine ldK (iv (otV d x hour f)) (x0.cell vv6 trivial) (nO _ (lt_of_cell vv6)) (.refl _ _) ?_
    refine call_of (c_r48around (v := otV d x hour f) (wide := wide) (by omega) (by omega)) ?_
    rintro _ u6 ⟨rfl, y1⟩
    refine strS (Ext.any y1) ?_
    refine lit [.agg #[iv (arR wide (otV d x hour f)).lo, iv (arR wide (otV d x hour f)).hi]] (fun hg u7 hq => ?_)
    have x2 : Ext u5 u7 := y1.trans hq.ext
    refine strS (Ext.any x2) ?_
    refine appF (o6.then x2) (hq.src (sz := 2) rfl) (by omega) (fun A6' q6' u8 p6' kk hA => ?_)
    have xk : Kept (fun b => OW ≠ some (ad b 0)) u5 u8 := (Ext.any x2).trans kk
    refine strS xk ?_
    refine fldA ?_
    refine barS (fun _ => True) trivial ?_
    have na : nw u5 OW A6' := nw.of hA x2.size
    obtain ⟨cls', hcl, r6⟩ := cof_up1 k6 na
    have T' := T.kept xk (own_ty o6 T (by decide))
    have W' := W.kept xk nB
    refine st (v := .slice A6' (f + 1) q6') W' (Nat.le_of_ble_eq_true rfl) rfl (fun u9 Z kk' z' => ?_)
    refine strS trivial ?_
    have x58 : Kept (fun b => OW ≠ some (ad b 0) ∧ b ≠ bW) u5 u9 := (xk.weak fun _ _ h => h.1).trans (kk'.weak fun _ _ h => h.2)
    have x08 : Ext w u9 := x0.then x58 fun b hb _ => ⟨nO b hb, by omega⟩
    have k1' := k1.keep o1 hcl
    have o1' := o1.thenK x58 (fun g hg => ⟨k1.ne k6 (by decide) g hg, fun e => own_ty o1 W (by decide) (e ▸ hg)⟩) x08
    have k2' := k2.keep o2 hcl
    have o2' := o2.thenK x58 (fun g hg => ⟨k2.ne k6 (by decide) g hg, fun e => own_ty o2 W (by decide) (e ▸ hg)⟩) x08
    have k3' := k3.keep o3 hcl
    have o3' := o3.thenK x58 (fun g hg => ⟨k3.ne k6 (by decide) g hg, fun e => own_ty o3 W (by decide) (e ▸ hg)⟩) x08
    have k4' := k4.keep o4 hcl
    have o4' := o4.thenK x58 (fun g hg => ⟨k4.ne k6 (by decide) g hg, fun e => own_ty o4 W (by decide) (e ▸ hg)⟩) x08
    have k5' := k5.keep o5 hcl
    have o5' := o5.thenK x58 (fun g hg => ⟨k5.ne k6 (by decide) g hg, fun e => own_ty o5 W (by decide) (e ▸ hg)⟩) x08
    have k7' := k7.keep o7 hcl
    have o7' := o7.thenK x58 (fun g hg => ⟨k7.ne k6 (by decide) g hg, fun e => own_ty o7 W (by decide) (e ▸ hg)⟩) x08
    have Bd := Bd.kept x58 ⟨own_ty o6 Bd (by decide), by omega⟩
    have Bx := Bx.kept x58 ⟨own_ty o6 Bx (by decide), by omega⟩
    have BR := BR.kept x58 ⟨own_ty o6 BR (by decide), by omega⟩
    have BS := BS.kept x58 ⟨own_ty o6 BS (by decide), by omega⟩
    have o6' := p6'.thenK kk' (fun g hg e => own_ty p6' W' (by decide) (e ▸ hg)) x08
    have o6' : OwnF w u9 A6' (f + 1) q6' 101 2 (rcells f (fun r => arR wide (otV d x hour r)) ++ [iv (arR wide (otV d x hour f)).lo, iv (arR wide (otV d x hour f)).hi]) := o6'
    rw [show rcells f (fun r => arR wide (otV d x hour r)) ++ [iv (arR wide (otV d x hour f)).lo, iv (arR wide (otV d x hour f)).hi] = rcells (f + 1) (fun r => arR wide (otV d x hour r)) from (rcells_snoc _ _).symm] at o6'
    clear o1 o2 o3 o4 o5 o6 o7 k1 k2 k3 k4 k5 k6 k7
    have o1 := o1'
    have k1 := k1'
    have o2 := o2'
    have k2 := k2'
    have o3 := o3'
    have k3 := k3'
    have o4 := o4'
    have k4 := k4'
    have o5 := o5'
    have k5 := k5'
    have o6 := o6'
    have k6 := r6
    have o7 := o7'
    have k7 := k7'
    have x0 := x08
    have W : Blk u9 bW 59 [iv hour, .slice HW n1 q5, .slice A6' (f + 1) q6', .slice TW n1 q7] := Z
    have T := T'.kept kk' (by omega)
    clear x08 T' W' Z x58 kk kk' xk na hcl hA p6' nX nB nO y1 x2
    clear o1' o2' o3' o4' o5' o6' o7' k1' k2' k3' k4' k5' k7' r6
    refine arI (by omega) ?_
    exact next (f + 1) ⟨by rw [Int.natCast_add]; rfl, trivial⟩ ⟨by omega, x0, Bd, Bx, BR, BS, ⟨_, _, _, _, _, _, _, _, _, _, _, _, _, _, _, T, W, ⟨o1, k1⟩, ⟨o2, k2⟩, ⟨o3, k3⟩, ⟨o4, k4⟩, ⟨o5, k5⟩, ⟨o6, k6⟩, ⟨o7, k7⟩⟩⟩ (by omega)
  obtain rfl : f = n2 := by omega
  obtain ⟨HT, q1, OT, q2, TT, q3, AT, q4, HW, q5, OW, q6, TW, q7, cls, T, W, ⟨o1, k1⟩, ⟨o2, k2⟩, ⟨o3, k3⟩, ⟨o4, k4⟩, ⟨o5, k5⟩, ⟨o6, k6⟩, ⟨o7, k7⟩⟩ := hI.ex
  refine drawP (.take 0 (.take 1 (.eff 2 (.eff 3 (.take 4 .done))))) [] (fun z => Blk z bW 59 [iv hour, .slice HW n1 q5, .slice OW f q6, .slice TW n1 q7] ∧ Blk z bT 61 [.slice HT n1 q1, .slice OT f q2, .slice TT n1 q3, .slice AT n1 q4, .slice none 0 0]) mx (by kernel_rfl) ⟨W, T⟩ ?_
  refine ldAS [iv hour, .slice HW n1 q5, .slice OW f q6, .slice TW n1 q7] (fun u hu => CellsAt.blk hu.1) rfl ?_
  refine ldAS [.slice HT n1 q1, .slice OT f q2, .slice TT n1 q3, .slice AT n1 q4, .slice none 0 0] (fun u hu => CellsAt.blk hu.2) rfl ?_
  refine stA (vs := [iv hour, .slice HW n1 q5, .slice OW f q6, .slice TW n1 q7]) BR rfl (Nat.le_of_ble_eq_true rfl) (by simp [Value.oneCell']) (fun y1 BW8 kk8 z8 => ?_)
  refine strS ⟨W.kept kk8 (by omega), T.kept kk8 (by omega)⟩ ?_
  refine stA (vs := [.slice HT n1 q1, .slice OT f q2, .slice TT n1 q3, .slice AT n1 q4, .slice none 0 0]) (BS.kept kk8 (by omega)) rfl (Nat.le_of_ble_eq_true rfl) (by simp [Value.oneCell']) (fun y2 BT9 kk9 z9 => ?_)
  refine strS ⟨(W.kept kk8 (by omega)).kept kk9 (by omega), (T.kept kk8 (by omega)).kept kk9 (by omega)⟩ ?_
  refine ret ?_
  refine resL _ (holds_agg (CellsAt.blk (show Blk y2 bR 59 [iv hour, .slice HW n1 q5, .slice OW f q6, .slice TW n1 q7] from Blk.kept BW8 kk9 (by omega))) rfl) ?_
  refine resL _ (holds_agg (CellsAt.blk (show Blk y2 bS 61 [.slice HT n1 q1, .slice OT f q2, .slice TT n1 q3, .slice AT n1 q4, .slice none 0 0] from BT9)) rfl) ?_
  have kk : Kept (fun b => b ≠ bR ∧ b ≠ bS) u0 y2 := (kk8.weak fun _ _ h => h.1).trans (kk9.weak fun _ _ h => h.2)
  have x0e : Ext w y2 := x0.then kk fun b hb _ => ⟨by omega, by omega⟩
  have nn : ∀ {A : Option Addr} {n c sz : Nat} {e : TypeId} {cs : List Value}, OwnF w u0 A n c e sz cs → 59 ≠ e → 61 ≠ e → OwnF w y2 A n c e sz cs := fun h h1 h2 => h.thenK kk (fun g hg => ⟨fun e => own_ty h BR h1 (e ▸ hg), fun e => own_ty h BS h2 (e ▸ hg)⟩) x0e
  have bar : ∀ r, r < n1 → I64 (arV d x hour r) := fun r hr => by
    have h1 := ok.at_ (r := r) (by omega)
    have v3 := tab_val hf.inn (i := r) (by omega) (show atV d hour r < H by omega)
    have v4 := tab_val hf.evap (i := r) (by omega) (show atV d hour r < H by omega)
    have v5 := tab_val hf.seep (i := r) (by omega) (show atV d hour r < H by omega)
    unfold arV I64; omega
  have j1 := (nn o1 (by decide) (by decide)).icl (D := fun b => w.heap.size ≤ b) (fun r hr => by have := (b1 r (by omega)).1; unfold I64; omega) (by omega) fun _ h => h
  have j2 := (nn o2 (by decide) (by decide)).icl (D := fun b => w.heap.size ≤ b) (fun r hr => by have := (b2 r (by omega)).1; unfold I64; omega) (by omega) fun _ h => h
  have j3 := (nn o3 (by decide) (by decide)).icl (D := fun b => w.heap.size ≤ b) (fun r hr => by have := (b1 r (by omega)).2; unfold I64; omega) (by omega) fun _ h => h
  have j4 := (nn o4 (by decide) (by decide)).icl (D := fun b => w.heap.size ≤ b) bar (by omega) fun _ h => h
  have j5 := (nn o5 (by decide) (by decide)).rgs (D := fun b => w.heap.size ≤ b) rfl (by omega) fun _ h => h
  have j6 := (nn o6 (by decide) (by decide)).rgs (D := fun b => w.heap.size ≤ b) rfl (by omega) fun _ h => h
  have j7 := (nn o7 (by decide) (by decide)).rgs (D := fun b => w.heap.size ≤ b) rfl (by omega) fun _ h => h
  refine ⟨[iv hour, .slice HW n1 q5, .slice OW f q6, .slice TW n1 q7], [.slice HT n1 q1, .slice OT f q2, .slice TT n1 q3, .slice AT n1 q4, .slice none 0 0], by rw [oe]; rfl, x0e, ?_, ?_⟩
  · unfold ofWv ofW
    rw [if_pos oe, ln, lf]
    exact ⟨[iv hour], _, rfl, ⟨rfl, h64⟩, [.slice HW n1 q5], _, rfl, ⟨HW, n1, q5, rfl, j5, o5.le⟩, [.slice OW f q6], _, rfl, ⟨OW, f, q6, rfl, j6, o6.le⟩, TW, n1, q7, rfl, j7, o7.le⟩
  · unfold ofTv ofT
    rw [if_pos oe, ln, lf]
    exact ⟨[.slice HT n1 q1], _, rfl, ⟨HT, n1, q1, rfl, j1, o1.le⟩, [.slice OT f q2], _, rfl, ⟨OT, f, q2, rfl, j2, o2.le⟩, [.slice TT n1 q3], _, rfl, ⟨TT, n1, q3, rfl, j3, o3.le⟩, [.slice AT n1 q4], _, rfl, ⟨AT, n1, q4, rfl, j4, o4.le⟩, none, 0, 0, rfl, .nil, Nat.le_refl _⟩
end
end Go.Proofs.YtffdjecdcbbfaaaGreat

/- Layer 48: the law EvidenceOfSpec. -/
namespace Go.Proofs.YtffdjecdcbbfaaaGreat
open Go Go.RowKit

section
variable {D : Nat → Prop} {w : World}
set_option maxRecDepth 8000 in
theorem c_EvidenceOfSpec {csd csx : List Value} {d : Dist} {x : Run} {hour wide : Int} (hd : DiR D w csd d) (hx : RuR D w csx x) (h64 : I64 hour) : CallZ Tryz.prog 5 #[.agg csd.toArray, .agg csx.toArray, iv hour, iv wide] w
    (fun v w' => v = .bool true ∧ Ext w w') := by
  have hd := hd.more (D' := fun _ => True) fun _ _ _ => trivial
  have hx := hx.more (D' := fun _ => True) fun _ _ _ => trivial
  obtain ⟨A1, n1, c1, A2, n2, c2, A3, n3, c3, A4, n4, c4, A5, n5, c5, A6, n6, c6, rfl, -⟩ := hd.ex
  obtain ⟨B1, m1, e1, B2, m2, e2, B3, m3, e3, B4, m4, e4, B5, m5, e5, B6, m6, e6, B7, m7, e7, rfl, -⟩ := hx.ex
  refine fn_rule (args := [.agg #[.string d.name, iv d.hours, iv d.cap, iv d.start, .slice A1 n1 c1, .slice A2 n2 c2, .slice A3 n3 c3, .slice A4 n4 c4, .slice A5 n5 c5, .slice A6 n6 c6], .agg #[.slice B1 m1 e1, .slice B2 m2 e2, .slice B3 m3 e3, .slice B4 m4 e4, .slice B5 m5 e5, .slice B6 m6 e6, .slice B7 m7 e7], iv hour, iv wide]) Tryz.func5 (by kernel_rfl) ?_
  refine box (fun bd w1 i1 => ?_)
  refine box (fun bx w2 i2 => ?_)
  have x2 := i1.ext.trans i2.ext
  have Bd : Blk w2 bd 31 [.string d.name, iv d.hours, iv d.cap, iv d.start, .slice A1 n1 c1, .slice A2 n2 c2, .slice A3 n3 c3, .slice A4 n4 c4, .slice A5 n5 c5, .slice A6 n6 c6] := i1.blk.ext i2.ext
  have Bx : Blk w2 bx 55 [.slice B1 m1 e1, .slice B2 m2 e2, .slice B3 m3 e3, .slice B4 m4 e4, .slice B5 m5 e5, .slice B6 m6 e6, .slice B7 m7 e7] := i2.blk
  refine call_of (c_esane) ?_
  rintro _ w3 ⟨rfl, x3⟩
  have z3 := x2.trans x3
  refine ldA [.string d.name, iv d.hours, iv d.cap, iv d.start, .slice A1 n1 c1, .slice A2 n2 c2, .slice A3 n3 c3, .slice A4 n4 c4, .slice A5 n5 c5, .slice A6 n6 c6] (.blk (Bd.ext x3)) rfl ?_
  refine ldA [.slice B1 m1 e1, .slice B2 m2 e2, .slice B3 m3 e3, .slice B4 m4 e4, .slice B5 m5 e5, .slice B6 m6 e6, .slice B7 m7 e7] (.blk (Bx.ext x3)) rfl ?_
  refine callSE (c_r23Few (hd.ext z3) (hx.ext z3)) (fun w4 x4 => ?_) (fun w4 x4 => ?_)
  rotate_left
  · exact ret1 (.bool true) rfl ⟨rfl, z3.trans x4⟩
  have z4 := z3.trans x4
  have Bd := (Bd.ext x3).ext x4
  have Bx := (Bx.ext x3).ext x4
  obtain ⟨ee, hee⟩ : ∃ ee, ee = ofErr d x hour wide := ⟨_, rfl⟩
  refine ldA [.string d.name, iv d.hours, iv d.cap, iv d.start, .slice A1 n1 c1, .slice A2 n2 c2, .slice A3 n3 c3, .slice A4 n4 c4, .slice A5 n5 c5, .slice A6 n6 c6] (.blk Bd) rfl ?_
  refine ldA [.slice B1 m1 e1, .slice B2 m2 e2, .slice B3 m3 e3, .slice B4 m4 e4, .slice B5 m5 e5, .slice B6 m6 e6, .slice B7 m7 e7] (.blk Bx) rfl ?_
  refine call_of (c_Of (wide := wide) (hd.ext z4) (hx.ext z4) h64) ?_
  rintro _ w5 ⟨cw, ct, rfl, x5, rw_, rt_⟩
  rw [← hee]
  have z5 := z4.trans x5
  have rw1 : tWv.rep (fun _ => True) w5 cw _ := tWv.more (fun _ _ _ => trivial) rw_
  have rt1 : tTru.rep (fun _ => True) w5 ct _ := tTru.more (fun _ _ _ => trivial) rt_
  obtain ⟨H1, h1, k1, O1, o1, k2, T1, t1, k3, rfl, -⟩ := wv_open rw1
  obtain ⟨P1, p1, r1, P2, p2, r2, P3, p3, r3, P4, p4, r4, P5, p5, r5, rfl, -⟩ := tru_open rt1
  refine alloc (fun bW w6 i6 => ?_)
  refine alloc (fun bT w7 i7 => ?_)
  refine stA (vs := [iv (ofWv d x hour wide).hour, .slice H1 h1 k1, .slice O1 o1 k2, .slice T1 t1 k3]) (i6.blk.ext i7.ext) rfl (Nat.le_of_ble_eq_true rfl) (by simp [Value.oneCell']) (fun w8 BW kk8 z8 => ?_)
  have a6 := i6.at_
  have a7 := i7.at_
  have sz6 := i6.size
  have sz7 := i7.size
  refine stA (vs := [.slice P1 p1 r1, .slice P2 p2 r2, .slice P3 p3 r3, .slice P4 p4 r4, .slice P5 p5 r5]) (i7.blk.kept kk8 (by omega)) rfl (Nat.le_of_ble_eq_true rfl) (by simp [Value.oneCell']) (fun w9 BT kk9 z9 => ?_)
  have BW : Blk w9 bW 59 [iv (ofWv d x hour wide).hour, .slice H1 h1 k1, .slice O1 o1 k2, .slice T1 t1 k3] := Blk.kept BW kk9 (by omega)
  have BT : Blk w9 bT 61 [.slice P1 p1 r1, .slice P2 p2 r2, .slice P3 p3 r3, .slice P4 p4 r4, .slice P5 p5 r5] := BT
  have x59 : Ext w5 w9 := ((i6.ext.trans i7.ext).then kk8 fun b hb _ => by omega).then kk9 fun b hb _ => by omega
  have z9' := z5.trans x59
  have Bd := (Bd.ext x5).ext x59
  have Bx := (Bx.ext x5).ext x59
  have rw1 := tWv.ext rw1 x59
  have rt1 := tTru.ext rt1 x59
  clear i6 i7 a6 a7 sz6 sz7 kk8 kk9 z8 z9 x59 rw_ rt_
  refine ldA [.string d.name, iv d.hours, iv d.cap, iv d.start, .slice A1 n1 c1, .slice A2 n2 c2, .slice A3 n3 c3, .slice A4 n4 c4, .slice A5 n5 c5, .slice A6 n6 c6] (.blk Bd) rfl ?_
  refine ldA [.slice B1 m1 e1, .slice B2 m2 e2, .slice B3 m3 e3, .slice B4 m4 e4, .slice B5 m5 e5, .slice B6 m6 e6, .slice B7 m7 e7] (.blk Bx) rfl ?_
  refine call_of (c_r48Of (wide := wide) (hd.ext z9') (hx.ext z9') h64) ?_
  rintro _ w10 ⟨cv, cu, rfl, x10, rw_, rt_⟩
  rw [← hee]
  have rw2 : tWv.rep (fun _ => True) w10 cv _ := tWv.more (fun _ _ _ => trivial) rw_
  have rt2 : tTru.rep (fun _ => True) w10 cu _ := tTru.more (fun _ _ _ => trivial) rt_
  obtain ⟨H2, h2, k4, O2, o2, k5, T2, t2, k6, rfl, -⟩ := wv_open rw2
  obtain ⟨Q1, q1, s1, Q2, q2, s2, Q3, q3, s3, Q4, q4, s4, Q5, q5, s5, rfl, -⟩ := tru_open rt2
  refine alloc (fun bV w11 i6 => ?_)
  refine alloc (fun bU w12 i7 => ?_)
  refine stA (vs := [iv (ofWv d x hour wide).hour, .slice H2 h2 k4, .slice O2 o2 k5, .slice T2 t2 k6]) (i6.blk.ext i7.ext) rfl (Nat.le_of_ble_eq_true rfl) (by simp [Value.oneCell']) (fun w13 BV kk8 z8 => ?_)
  have a6 := i6.at_
  have a7 := i7.at_
  have sz6 := i6.size
  have sz7 := i7.size
  refine stA (vs := [.slice Q1 q1 s1, .slice Q2 q2 s2, .slice Q3 q3 s3, .slice Q4 q4 s4, .slice Q5 q5 s5]) (i7.blk.kept kk8 (by omega)) rfl (Nat.le_of_ble_eq_true rfl) (by simp [Value.oneCell']) (fun w14 BU kk9 z9 => ?_)
  have BV : Blk w14 bV 59 [iv (ofWv d x hour wide).hour, .slice H2 h2 k4, .slice O2 o2 k5, .slice T2 t2 k6] := Blk.kept BV kk9 (by omega)
  have BU : Blk w14 bU 61 [.slice Q1 q1 s1, .slice Q2 q2 s2, .slice Q3 q3 s3, .slice Q4 q4 s4, .slice Q5 q5 s5] := BU
  have x59 : Ext w10 w14 := ((i6.ext.trans i7.ext).then kk8 fun b hb _ => by omega).then kk9 fun b hb _ => by omega
  have z14 := (z9'.trans x10).trans x59
  have BW := (BW.ext x10).ext x59
  have BT := (BT.ext x10).ext x59
  have rw1 := tWv.ext (tWv.ext rw1 x10) x59
  have rt1 := tTru.ext (tTru.ext rt1 x10) x59
  have rw2 := tWv.ext rw2 x59
  have rt2 := tTru.ext rt2 x59
  refine ldA [iv (ofWv d x hour wide).hour, .slice H1 h1 k1, .slice O1 o1 k2, .slice T1 t1 k3] (.blk BW) rfl ?_
  refine ldA [iv (ofWv d x hour wide).hour, .slice H2 h2 k4, .slice O2 o2 k5, .slice T2 t2 k6] (.blk BV) rfl ?_
  refine call_of (c_r48sameW rw1 rw2) ?_
  rintro _ w15 ⟨rfl, x15⟩
  refine ldA [.slice P1 p1 r1, .slice P2 p2 r2, .slice P3 p3 r3, .slice P4 p4 r4, .slice P5 p5 r5] (.blk (BT.ext x15)) rfl ?_
  refine ldA [.slice Q1 q1 s1, .slice Q2 q2 s2, .slice Q3 q3 s3, .slice Q4 q4 s4, .slice Q5 q5 s5] (.blk (BU.ext x15)) rfl ?_
  refine call_of (c_r48sameT (tTru.ext rt1 x15) (tTru.ext rt2 x15)) ?_
  rintro _ w16 ⟨rfl, x16⟩
  refine cE (fun _ => ?_) (fun h => absurd rfl h)
  exact ret1 (.bool true) rfl ⟨rfl, z14.trans (x15.trans x16)⟩
end
end Go.Proofs.YtffdjecdcbbfaaaGreat

/- Closing: what evidence and Truths that are handed in read as. -/
namespace Go.Proofs.YtffdjecdcbbfaaaGreat
open Go Go.RowKit Go.ChangeShapes Go.WideShapes Go.ChangeAt

def tEvR : Ty Ev where
  sz := 2
  rep := EvR
  len h := by obtain ⟨_, _, _, _, _, _, rfl, -⟩ := h.ex; rfl
  keep hk h := h.keep hk
  more hk h := h.more hk
theorem rd_is : Rd Tryz.prog 36 (tSl tInt) := inferInstance
theorem rd_rg : Rd Tryz.prog 101 tRg := by
  refine Rd.of (fun y : Int × Int => (⟨y.1, y.2⟩ : Rg)) rd_range ?_
  rintro W cs ⟨s, u⟩ ⟨_, _, rfl, ⟨rfl, -⟩, ⟨rfl, -⟩⟩
  rfl
theorem rd_su : Rd Tryz.prog 70 tSu := by
  refine Rd.of (fun y : Int × Int × Int => (⟨y.1, y.2.1, y.2.2⟩ : Su))
    (Rd.struct Tryz.underlying70 (by kernel_rfl) fun n => .cons (rdAt Tryz.prog 3 tInt n) rfl (.cons (rdAt Tryz.prog 3 tInt n) rfl (.one (rdAt Tryz.prog 3 tInt n) rfl))) ?_
  rintro W cs ⟨s, u, d⟩ ⟨_, _, rfl, ⟨rfl, -⟩, _, _, rfl, ⟨rfl, -⟩, ⟨rfl, -⟩⟩
  rfl
instance : Rd Tryz.prog 101 tRg := rd_rg
instance : Rd Tryz.prog 70 tSu := rd_su
theorem rd_rgs : Rd Tryz.prog 57 (tSl tRg) := inferInstance
theorem rd_wave : Rd Tryz.prog 59 tWv := Rd.map (g := fun y : Int × List Rg × List Rg × List Rg => (⟨y.1, y.2.1, y.2.2.1, y.2.2.2⟩ : Wv))
    (Rd.struct Tryz.underlying59 (by kernel_rfl) fun n => .cons (rdAt Tryz.prog 3 tInt n) rfl (.cons (rd_rgs.h n) rfl (.cons (rd_rgs.h n) rfl (.one (rd_rgs.h n) rfl)))) fun _ => rfl
theorem rd_tru : Rd Tryz.prog 61 tTru := Rd.map (g := fun y : List Int × List Int × List Int × List Int × List Int => (⟨y.1, y.2.1, y.2.2.1, y.2.2.2.1, y.2.2.2.2⟩ : Tru))
    (Rd.struct Tryz.underlying61 (by kernel_rfl) fun n => .cons (rd_is.h n) rfl (.cons (rd_is.h n) rfl (.cons (rd_is.h n) rfl (.cons (rd_is.h n) rfl (.one (rd_is.h n) rfl))))) fun _ => rfl
instance : Rd Tryz.prog 59 tWv := rd_wave
instance : Rd Tryz.prog 61 tTru := rd_tru
theorem rd_waves : Rd Tryz.prog 32 (tSl tWv) := inferInstance
theorem rd_sus : Rd Tryz.prog 33 (tSl tSu) := inferInstance
theorem rd_trus : Rd Tryz.prog 42 (tSl tTru) := inferInstance
theorem rd_ev : Rd Tryz.prog 35 tEvR := by
  refine Rd.of (fun y : List Wv × List Su => (⟨y.1, y.2⟩ : Ev))
    (Rd.struct Tryz.underlying35 (by kernel_rfl) fun n => .cons (rd_waves.h n) rfl (.one (rd_sus.h n) rfl)) ?_
  rintro W cs ⟨l1, l2⟩ ⟨_, _, rfl, ⟨A1, n1, c1, rfl, h1, g1⟩, A2, n2, c2, rfl, h2, g2⟩
  exact EvR.of_ ⟨A1, n1, c1, A2, n2, c2, rfl, h1, h2, g1, g2⟩
end Go.Proofs.YtffdjecdcbbfaaaGreat

/- Closing: what a run that is handed in reads as. -/
namespace Go.Proofs.YtffdjecdcbbfaaaGreat
open Go Go.RowKit Go.ChangeShapes Go.WideShapes Go.ChangeAt

theorem rd_ll : Rd Tryz.prog 53 (tSl (tSl tInt)) := inferInstance
theorem rd_run : Rd Tryz.prog 55 tRun := by
  refine Rd.of (fun y : List Int × List Int × List (List Int) × List (List Int) × List (List Int) × List (List Int) × List (List Int) => (⟨y.1, y.2.1, y.2.2.1, y.2.2.2.1, y.2.2.2.2.1, y.2.2.2.2.2.1, y.2.2.2.2.2.2⟩ : Run))
    (Rd.struct Tryz.underlying55 (by kernel_rfl) fun n => .cons (rd_is.h n) rfl (.cons (rd_is.h n) rfl (.cons (rd_ll.h n) rfl (.cons (rd_ll.h n) rfl (.cons (rd_ll.h n) rfl (.cons (rd_ll.h n) rfl (.one (rd_ll.h n) rfl))))))) ?_
  rintro W cs ⟨l1, l2, l3, l4, l5, l6, l7⟩ ⟨_, _, rfl, ⟨A1, n1, c1, rfl, h1, g1⟩, _, _, rfl, ⟨A2, n2, c2, rfl, h2, g2⟩, _, _, rfl, ⟨A3, n3, c3, rfl, h3, -⟩, _, _, rfl, ⟨A4, n4, c4, rfl, h4, -⟩, _, _, rfl, ⟨A5, n5, c5, rfl, h5, -⟩, _, _, rfl, ⟨A6, n6, c6, rfl, h6, -⟩, A7, n7, c7, rfl, h7, -⟩
  exact RuR.of_ ⟨A1, n1, c1, A2, n2, c2, A3, n3, c3, A4, n4, c4, A5, n5, c5, A6, n6, c6, A7, n7, c7, rfl, h1, h2, h3, h4, h5, h6, h7, g1, g2⟩
end Go.Proofs.YtffdjecdcbbfaaaGreat
