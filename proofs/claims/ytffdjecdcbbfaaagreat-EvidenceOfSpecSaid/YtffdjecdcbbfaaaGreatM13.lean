/- Parts of the proof: Ev Fa. -/
import Derived.Test.YtffdjecdcbbfaaaGreatM12

/- Layer 48: contract of Of. -/
namespace Go.Proofs.YtffdjecdcbbfaaaGreat
open Go Go.RowKit

section
variable {D : Nat → Prop} {w : World}
set_option maxRecDepth 8000 in
set_option maxHeartbeats 2000000 in
theorem c_Of {csd csx : List Value} {d : Dist} {x : Run} {hour wide : Int} (hd : DiR D w csd d) (hx : RuR D w csx x) (h64 : I64 hour) : CallZ Tryz.prog 19 #[.agg csd.toArray, .agg csx.toArray, iv hour, iv wide] w (fun v w' => OfA w w' v d x hour wide) := by
  have hd := hd.more (D' := fun b => b < w.heap.size) fun b hb _ => hb
  have hx := hx.more (D' := fun b => b < w.heap.size) fun b hb _ => hb
  obtain ⟨A1, n1, c1, A2, n2, c2, A3, n3, c3, A4, n4, c4, A5, n5, c5, A6, n6, c6, rfl, hr, hfa, -⟩ := hd.ex
  obtain ⟨B1, m1, e1, B2, m2, e2, B3, m3, e3, B4, m4, e4, B5, m5, e5, B6, m6, e6, B7, m7, e7, rfl, i1, i2, i3, i4, i5, i6, i7, -⟩ := hx.ex
  have ln := hr.len
  have lf := hfa.len
  refine fn_rule (args := [.agg #[.string d.name, iv d.hours, iv d.cap, iv d.start, .slice A1 n1 c1, .slice A2 n2 c2, .slice A3 n3 c3, .slice A4 n4 c4, .slice A5 n5 c5, .slice A6 n6 c6], .agg #[.slice B1 m1 e1, .slice B2 m2 e2, .slice B3 m3 e3, .slice B4 m4 e4, .slice B5 m5 e5, .slice B6 m6 e6, .slice B7 m7 e7], iv hour, iv wide]) Tryz.func19 (by kernel_rfl) ?_
  refine box (fun bd w1 h1 => ?_)
  refine box (fun bx w2 h2 => ?_)
  refine box (fun bw w3 h3 => ?_)
  refine alloc (fun bW w4 h4 => ?_)
  refine alloc (fun bT w5 h5 => ?_)
  have a1 := h1.at_
  have a2 := h2.at_
  have a3 := h3.at_
  have a4 := h4.at_
  have a5 := h5.at_
  have z1 := h1.size
  have z2 := h2.size
  have z3 := h3.size
  have z4 := h4.size
  have z5 := h5.size
  have x45 : Ext w3 w5 := h4.ext.trans h5.ext
  have x5 : Ext w w5 := ((h1.ext.trans h2.ext).trans h3.ext).trans x45
  have Bd : Blk w5 bd 31 [.string d.name, iv d.hours, iv d.cap, iv d.start, .slice A1 n1 c1, .slice A2 n2 c2, .slice A3 n3 c3, .slice A4 n4 c4, .slice A5 n5 c5, .slice A6 n6 c6] := h1.blk.ext ((h2.ext.trans h3.ext).trans x45)
  have Bx : Blk w5 bx 55 [.slice B1 m1 e1, .slice B2 m2 e2, .slice B3 m3 e3, .slice B4 m4 e4, .slice B5 m5 e5, .slice B6 m6 e6, .slice B7 m7 e7] := h2.blk.ext (h3.ext.trans x45)
  have Bw : Blk w5 bw 3 [iv wide] := h3.blk.ext x45
  have BW : Blk w5 bW 59 [iv 0, .slice none 0 0, .slice none 0 0, .slice none 0 0] := h4.blk.ext h5.ext
  have BT : Blk w5 bT 61 [.slice none 0 0, .slice none 0 0, .slice none 0 0, .slice none 0 0, .slice none 0 0] := h5.blk
  refine ldA [.string d.name, iv d.hours, iv d.cap, iv d.start, .slice A1 n1 c1, .slice A2 n2 c2, .slice A3 n3 c3, .slice A4 n4 c4, .slice A5 n5 c5, .slice A6 n6 c6] (.blk Bd) rfl ?_
  refine ldA [.slice B1 m1 e1, .slice B2 m2 e2, .slice B3 m3 e3, .slice B4 m4 e4, .slice B5 m5 e5, .slice B6 m6 e6, .slice B7 m7 e7] (.blk Bx) rfl ?_
  refine call_of (c_bCheck (hd.ext x5) (hx.ext x5)) ?_
  rintro _ w6 ⟨rfl, x6⟩
  have x06 := x5.trans x6
  have Bd := Bd.ext x6
  have Bx := Bx.ext x6
  have Bw := Bw.ext x6
  have BW := BW.ext x6
  have BT := BT.ext x6
  have z6 := x6.size
  obtain ⟨e, he⟩ : ∃ e, e = bErr d x := ⟨_, rfl⟩
  rw [← he]
  refine cN (fun q0 => ?_) (fun q0 => ?_)
  · refine ldA [iv 0, .slice none 0 0, .slice none 0 0, .slice none 0 0] (.blk BW) rfl ?_
    refine ldA [.slice none 0 0, .slice none 0 0, .slice none 0 0, .slice none 0 0, .slice none 0 0] (.blk BT) rfl ?_
    refine stA (vs := [iv 0, .slice none 0 0, .slice none 0 0, .slice none 0 0]) BW rfl (Nat.le_of_ble_eq_true rfl) (by simp [Value.oneCell']) (fun y1 BW8 kk8 z8 => ?_)
    refine stA (vs := [.slice none 0 0, .slice none 0 0, .slice none 0 0, .slice none 0 0, .slice none 0 0]) (BT.kept kk8 (by omega)) rfl (Nat.le_of_ble_eq_true rfl) (by simp [Value.oneCell']) (fun y2 BT9 kk9 z9 => ?_)
    refine ret ?_
    refine resL _ (holds_agg (CellsAt.blk (show Blk y2 bW 59 [iv 0, .slice none 0 0, .slice none 0 0, .slice none 0 0] from Blk.kept BW8 kk9 (by omega))) rfl) ?_
    refine resL _ (holds_agg (CellsAt.blk (show Blk y2 bT 61 [.slice none 0 0, .slice none 0 0, .slice none 0 0, .slice none 0 0, .slice none 0 0] from BT9)) rfl) ?_
    exact ofA_err (by unfold ofErr; rw [if_pos (by rw [← he]; exact q0), ← he]) q0 ((x06.then kk8 fun b hb _ => by omega).then kk9 fun b hb _ => by omega)
  have q0 : bErr d x = 0 := by rw [← he]; exact q0
  have oe : ofErr d x hour wide = if hour < 0 ∨ hour ≥ d.hours ∨ wide < 0 ∨ wide > 1073741824 then 1 else if ofFit d hour then 0 else 1 := by unfold ofErr; rw [if_neg (by simp [q0])]
  refine cD (fun gg1 => ?_) (fun gg1 => ?_)
  · refine ldA [iv 0, .slice none 0 0, .slice none 0 0, .slice none 0 0] (.blk BW) rfl ?_
    refine ldA [.slice none 0 0, .slice none 0 0, .slice none 0 0, .slice none 0 0, .slice none 0 0] (.blk BT) rfl ?_
    refine stA (vs := [iv 0, .slice none 0 0, .slice none 0 0, .slice none 0 0]) BW rfl (Nat.le_of_ble_eq_true rfl) (by simp [Value.oneCell']) (fun y1 BW8 kk8 z8 => ?_)
    refine stA (vs := [.slice none 0 0, .slice none 0 0, .slice none 0 0, .slice none 0 0, .slice none 0 0]) (BT.kept kk8 (by omega)) rfl (Nat.le_of_ble_eq_true rfl) (by simp [Value.oneCell']) (fun y2 BT9 kk9 z9 => ?_)
    refine ret ?_
    refine resL _ (holds_agg (CellsAt.blk (show Blk y2 bW 59 [iv 0, .slice none 0 0, .slice none 0 0, .slice none 0 0] from Blk.kept BW8 kk9 (by omega))) rfl) ?_
    refine resL _ (holds_agg (CellsAt.blk (show Blk y2 bT 61 [.slice none 0 0, .slice none 0 0, .slice none 0 0, .slice none 0 0, .slice none 0 0] from BT9)) rfl) ?_
    exact ofA_err (by rw [oe, if_pos (by omega)]) (by decide) ((x06.then kk8 fun b hb _ => by omega).then kk9 fun b hb _ => by omega)
  refine fldA ?_
  refine ld (iv d.hours) (Bd.cell rfl) ?_
  refine cD (fun gg2 => ?_) (fun gg2 => ?_)
  · refine ldA [iv 0, .slice none 0 0, .slice none 0 0, .slice none 0 0] (.blk BW) rfl ?_
    refine ldA [.slice none 0 0, .slice none 0 0, .slice none 0 0, .slice none 0 0, .slice none 0 0] (.blk BT) rfl ?_
    refine stA (vs := [iv 0, .slice none 0 0, .slice none 0 0, .slice none 0 0]) BW rfl (Nat.le_of_ble_eq_true rfl) (by simp [Value.oneCell']) (fun y1 BW8 kk8 z8 => ?_)
    refine stA (vs := [.slice none 0 0, .slice none 0 0, .slice none 0 0, .slice none 0 0, .slice none 0 0]) (BT.kept kk8 (by omega)) rfl (Nat.le_of_ble_eq_true rfl) (by simp [Value.oneCell']) (fun y2 BT9 kk9 z9 => ?_)
    refine ret ?_
    refine resL _ (holds_agg (CellsAt.blk (show Blk y2 bW 59 [iv 0, .slice none 0 0, .slice none 0 0, .slice none 0 0] from Blk.kept BW8 kk9 (by omega))) rfl) ?_
    refine resL _ (holds_agg (CellsAt.blk (show Blk y2 bT 61 [.slice none 0 0, .slice none 0 0, .slice none 0 0, .slice none 0 0, .slice none 0 0] from BT9)) rfl) ?_
    exact ofA_err (by rw [oe, if_pos (by omega)]) (by decide) ((x06.then kk8 fun b hb _ => by omega).then kk9 fun b hb _ => by omega)
  refine ld (iv wide) (Bw.cell rfl) ?_
  refine cD (fun gg3 => ?_) (fun gg3 => ?_)
  · refine ldA [iv 0, .slice none 0 0, .slice none 0 0, .slice none 0 0] (.blk BW) rfl ?_
    refine ldA [.slice none 0 0, .slice none 0 0, .slice none 0 0, .slice none 0 0, .slice none 0 0] (.blk BT) rfl ?_
    refine stA (vs := [iv 0, .slice none 0 0, .slice none 0 0, .slice none 0 0]) BW rfl (Nat.le_of_ble_eq_true rfl) (by simp [Value.oneCell']) (fun y1 BW8 kk8 z8 => ?_)
    refine stA (vs := [.slice none 0 0, .slice none 0 0, .slice none 0 0, .slice none 0 0, .slice none 0 0]) (BT.kept kk8 (by omega)) rfl (Nat.le_of_ble_eq_true rfl) (by simp [Value.oneCell']) (fun y2 BT9 kk9 z9 => ?_)
    refine ret ?_
    refine resL _ (holds_agg (CellsAt.blk (show Blk y2 bW 59 [iv 0, .slice none 0 0, .slice none 0 0, .slice none 0 0] from Blk.kept BW8 kk9 (by omega))) rfl) ?_
    refine resL _ (holds_agg (CellsAt.blk (show Blk y2 bT 61 [.slice none 0 0, .slice none 0 0, .slice none 0 0, .slice none 0 0, .slice none 0 0] from BT9)) rfl) ?_
    exact ofA_err (by rw [oe, if_pos (by omega)]) (by decide) ((x06.then kk8 fun b hb _ => by omega).then kk9 fun b hb _ => by omega)
  refine ld (iv wide) (Bw.cell rfl) ?_
  refine cD (fun gg4 => ?_) (fun gg4 => ?_)
  · refine ldA [iv 0, .slice none 0 0, .slice none 0 0, .slice none 0 0] (.blk BW) rfl ?_
    refine ldA [.slice none 0 0, .slice none 0 0, .slice none 0 0, .slice none 0 0, .slice none 0 0] (.blk BT) rfl ?_
    refine stA (vs := [iv 0, .slice none 0 0, .slice none 0 0, .slice none 0 0]) BW rfl (Nat.le_of_ble_eq_true rfl) (by simp [Value.oneCell']) (fun y1 BW8 kk8 z8 => ?_)
    refine stA (vs := [.slice none 0 0, .slice none 0 0, .slice none 0 0, .slice none 0 0, .slice none 0 0]) (BT.kept kk8 (by omega)) rfl (Nat.le_of_ble_eq_true rfl) (by simp [Value.oneCell']) (fun y2 BT9 kk9 z9 => ?_)
    refine ret ?_
    refine resL _ (holds_agg (CellsAt.blk (show Blk y2 bW 59 [iv 0, .slice none 0 0, .slice none 0 0, .slice none 0 0] from Blk.kept BW8 kk9 (by omega))) rfl) ?_
    refine resL _ (holds_agg (CellsAt.blk (show Blk y2 bT 61 [.slice none 0 0, .slice none 0 0, .slice none 0 0, .slice none 0 0, .slice none 0 0] from BT9)) rfl) ?_
    exact ofA_err (by rw [oe, if_pos (by omega)]) (by decide) ((x06.then kk8 fun b hb _ => by omega).then kk9 fun b hb _ => by omega)
  rw [if_neg (by omega)] at oe
  have hdv := (bErr_ok.1 q0).1
  have hd0 : dErr d = 0 := dErr_ok.2 hdv
  have ht : Tre d := tre_of hd0
  obtain ⟨⟨hR64, hF600⟩, hH1, hH2⟩ := valid_bounds hdv.1 hdv.2
  obtain ⟨hf, hR⟩ := bErr_fm q0
  generalize hH : d.hours.toNat = H at hf hR
  have hHi := hf.hours
  refine fldA ?_
  refine st (v := iv hour) BW (Nat.le_of_ble_eq_true rfl) rfl (fun w7 BW kk7 z7 => ?_)
  have BW : Blk w7 bW 59 [iv hour, .slice none 0 0, .slice none 0 0, .slice none 0 0] := BW
  have x07 : Ext w w7 := x06.then kk7 fun b hb _ => by omega
  have Bd := Bd.kept kk7 (by omega)
  have Bx := Bx.kept kk7 (by omega)
  have Bw := Bw.kept kk7 (by omega)
  have BT := BT.kept kk7 (by omega)
  have hI0 : OfI w w7 bW bT bw d x hour wide 0 0 none 0 := ⟨none, 0, none, 0, none, 0, none, 0, none, 0, none, 0, none, 0, fun _ => 9, BT, BW, ⟨.nil x07, .none⟩, ⟨.nil x07, .none⟩, ⟨.nil x07, .none⟩, ⟨.nil x07, .none⟩, ⟨.nil x07, .none⟩, ⟨.nil x07, .none⟩, ⟨.nil x07, .none⟩, ⟨.nil x07, .none⟩, rfl⟩
  clear BW BT
  refine fldA ?_
  refine ld (.slice A1 n1 c1) (Bd.cell rfl) ?_
  refine len ?_
  refine loop3 (fun (k : Nat) (En : Option Addr) (ec : Nat) => [(53, iv (k : Int)), (12, .slice En k ec)]) (fun k En ec u => k ≤ n1 ∧ Ext w u ∧ Blk u bd 31 [.string d.name, iv d.hours, iv d.cap, iv d.start, .slice A1 n1 c1, .slice A2 n2 c2, .slice A3 n3 c3, .slice A4 n4 c4, .slice A5 n5 c5, .slice A6 n6 c6] ∧ Blk u bx 55 [.slice B1 m1 e1, .slice B2 m2 e2, .slice B3 m3 e3, .slice B4 m4 e4, .slice B5 m5 e5, .slice B6 m6 e6, .slice B7 m7 e7] ∧ Blk u bw 3 [iv wide] ∧ (∀ r : Nat, r < k → hour + delV d (r : Int) < d.hours) ∧ OfI w u bW bT bw d x hour wide k 0 En ec) (fun k _ _ _ => n1 - k) 0 none 0 ⟨rfl, rfl, trivial⟩ ⟨by omega, x07, Bd, Bx, Bw, fun r h => absurd h (Nat.not_lt_zero _), hI0⟩ rfl ?_
  clear Bd Bx Bw hI0
  rintro G k En ec u ⟨hk, xu, Bd, Bx, Bw, hfit, hI⟩
  refine cD (fun hlt => ?_) (fun hge => ?_)
  · have hlt : k < n1 := by omega
    have hlt' : k < d.reaches.length := by omega
    obtain ⟨b, o, cs, y, rfl, hy, -, -, hc, rfl⟩ := (hr.ext xu).at_ hlt
    have hrc : rch d k = y := rch_eq hy
    refine idx k rfl hlt ?_
    refine ldA y.c hc rfl ?_
    refine alloc (fun t u1 i1' => ?_)
    refine stA (vs := y.c) i1'.blk rfl (Nat.le_of_ble_eq_true rfl) (by simp [Value.oneCell']) (fun u2 tb s2 zs => ?_)
    have t1 := i1'.at_
    have xu2 : Ext u u2 := i1'.ext.then s2 fun b hb _ => by omega
    have tb : Blk u2 t 107 y.c := tb
    refine ldA _ (.blk (Bd.ext xu2)) rfl ?_
    have hcan : canE d [(k : Int)] = 0 := by
      unfold canE
      rw [if_pos hd0, if_pos (by simp; omega)]
    have cc := c_canDelay (r := (k : Int)) ((hd.ext xu).ext xu2) ⟨by omega, by omega⟩
    rw [hcan, if_pos rfl] at cc
    refine call_of cc ?_
    clear cc
    rintro _ u3 ⟨rfl, x3⟩
    have xu3 := xu2.trans x3
    have x03 := xu.trans xu3
    obtain ⟨p1, p2, p3, p4, p5, p6⟩ := at_of ht (show 0 ≤ hour by omega) hlt'
    rw [hrc] at p1 p3 p4
    have Bd := Bd.ext xu3
    have Bx := Bx.ext xu3
    have Bw := Bw.ext xu3
    have tb := tb.ext x3
    have hI := hI.ext xu3
    refine arE ((endV d hour k : Nat) : Int) p2.symm (by omega) ?_
    refine fldA ?_
    refine ld (iv d.hours) (Bd.cell rfl) ?_
    refine cD (fun gg5 => ?_) (fun gg5 => ?_)
    · obtain ⟨HT, q1, OT, q2, TT, q3, AT, q4, HW, q5, OW, q6, TW, q7, cls, T, W, ⟨o1, k1⟩, ⟨o2, k2⟩, ⟨o3, k3⟩, ⟨o4, k4⟩, ⟨o5, k5⟩, ⟨o6, k6⟩, ⟨o7, k7⟩, ⟨o8, k8⟩, k9⟩ := hI.ex
      refine bld [iv 0, .slice none 0 0, .slice none 0 0, .slice none 0 0] (by kernel_rfl) ?_
      refine bld [.slice none 0 0, .slice none 0 0, .slice none 0 0, .slice none 0 0, .slice none 0 0] (by kernel_rfl) ?_
      have tT := T.lt
      have tW := W.lt
      refine stA (vs := [iv 0, .slice none 0 0, .slice none 0 0, .slice none 0 0]) W rfl (Nat.le_of_ble_eq_true rfl) (by simp [Value.oneCell']) (fun y1 BW8 kk8 z8 => ?_)
      refine stA (vs := [.slice none 0 0, .slice none 0 0, .slice none 0 0, .slice none 0 0, .slice none 0 0]) (T.kept kk8 (by omega)) rfl (Nat.le_of_ble_eq_true rfl) (by simp [Value.oneCell']) (fun y2 BT9 kk9 z9 => ?_)
      refine ret ?_
      refine resL _ (holds_agg (CellsAt.blk (show Blk y2 bW 59 [iv 0, .slice none 0 0, .slice none 0 0, .slice none 0 0] from Blk.kept BW8 kk9 (by omega))) rfl) ?_
      refine resL _ (holds_agg (CellsAt.blk (show Blk y2 bT 61 [.slice none 0 0, .slice none 0 0, .slice none 0 0, .slice none 0 0, .slice none 0 0] from BT9)) rfl) ?_
      exact ofA_err (by rw [oe, if_neg]; intro h; have := of_decide_eq_true (List.all_eq_true.1 h k (List.mem_range.2 hlt')); omega) (by decide) ((x03.then kk8 fun b hb _ => by omega).then kk9 fun b hb _ => by omega)
    have hE : endV d hour k < H := by omega
    have hA : atV d hour k < H := by omega
    refine fldA ?_
    refine ld (iv y.delay) (tb.cell rfl) ?_
    refine arE ((atV d hour k : Nat) : Int) (by omega) (by omega) ?_
    have y3 := tabB_iff.1 hf.inn
    have y7 := tabB_iff.1 hf.tail
    have y4 := tabB_iff.1 hf.evap
    have y5 := tabB_iff.1 hf.seep
    have l3 := i3.len
    have l4 := i4.len
    have l5 := i5.len
    have l7 := i7.len
    have v3 := tab_val hf.inn hlt' hA
    have v4 := tab_val hf.evap hlt' hA
    have v5 := tab_val hf.seep hlt' hA
    have v7 := tab_val hf.tail hlt' hE
    have n3 := (numB_iff.1 (tab_row hf.inn hlt').2).1
    have n4 := (numB_iff.1 (tab_row hf.evap hlt').2).1
    have n5 := (numB_iff.1 (tab_row hf.seep hlt').2).1
    have n7 := (numB_iff.1 (tab_row hf.tail hlt').2).1
    -- the head
    obtain ⟨HT, q1, OT, q2, TT, q3, AT, q4, HW, q5, OW, q6, TW, q7, cls, T, W, ⟨o1, k1⟩, ⟨o2, k2⟩, ⟨o3, k3⟩, ⟨o4, k4⟩, ⟨o5, k5⟩, ⟨o6, k6⟩, ⟨o7, k7⟩, ⟨o8, k8⟩, k9⟩ := hI.ex
    obtain ⟨f3, f3', R3, s3, g3', rfl, cc3, r3, -⟩ := row_at i3 (i := k) (by omega)
    have z3 := r3.len
    obtain ⟨r3b, r3o, rfl, vv3⟩ := num_at r3 (k := atV d hour k) (by omega)
    obtain ⟨f4, f4', R4, s4, g4', rfl, cc4, r4, -⟩ := row_at i4 (i := k) (by omega)
    have z4' := r4.len
    obtain ⟨r4b, r4o, rfl, vv4⟩ := num_at r4 (k := atV d hour k) (by omega)
    obtain ⟨f5, f5', R5, s5, g5', rfl, cc5, r5, -⟩ := row_at i5 (i := k) (by omega)
    have z5' := r5.len
    obtain ⟨r5b, r5o, rfl, vv5⟩ := num_at r5 (k := atV d hour k) (by omega)
    obtain ⟨f7, f7', R7, s7', g7', rfl, cc7, r7, -⟩ := row_at i7 (i := k) (by omega)
    have z7' := r7.len
    obtain ⟨r7b, r7o, rfl, vv7⟩ := num_at r7 (k := endV d hour k) (by omega)
    refine fldA ?_
    refine fldA ?_
    refine fldA ?_
    refine ld _ (Bx.cell rfl) ?_
    refine idx k rfl (by omega) ?_
    refine ld _ (x03.cell cc3 trivial) ?_
    refine idx (atV d hour k) rfl (by omega) ?_
    refine ld (iv (hdV d x hour k)) (x03.cell vv3 trivial) ?_
    have cof9 : ∀ {cl : Nat → Nat} {A : Option Addr} {i : Nat}, cof cl A i → cl bw = 9 → i ≠ 9 → A ≠ some (ad bw 0) := fun h1 h2 h3 e => h3 (by rw [← h1 bw e, h2])
    refine call_of (c_eput (i := 0) (j := 1) T W rfl rfl o1 o5 (k1.ne k5 (by decide)) Bw (cof9 k1 k9 (by decide)) (show _ ∧ _ from ⟨by unfold hdV; omega, by unfold hdV; omega⟩) ⟨by omega, by omega⟩ (by omega) (by omega) (by omega) (by omega)) ?_
    rintro _ u4 ⟨rfl, H1, d1, H5, d5, T4, W4, p1', p5', hdj, na, nb, kk4⟩
    have x04 : Ext w u4 := x03.then kk4 fun b hb _ => ⟨by omega, by omega, fun e => by have := o1.new b e; omega, fun e => by have := o5.new b e; omega⟩
    obtain ⟨cls2, hcl, r1, r5⟩ := cof_up k1 k5 o1 o5 na nb hdj
    have Bd4 := Bd.kept kk4 ⟨by omega, by omega, own_ty o1 Bd (by decide), own_ty o5 Bd (by decide)⟩
    have Bx4 := Bx.kept kk4 ⟨by omega, by omega, own_ty o1 Bx (by decide), own_ty o5 Bx (by decide)⟩
    have Bw4 := Bw.kept kk4 ⟨by omega, by omega, cof9 k1 k9 (by decide), own_ty o5 Bw (by decide)⟩
    have k9' : cls2 bw = 9 := by rw [hcl bw Bw.lt]; exact k9
    have s2 := k2.keep o2 hcl
    have s3 := k3.keep o3 hcl
    have s4 := k4.keep o4 hcl
    have s6 := k6.keep o6 hcl
    have s7 := k7.keep o7 hcl
    have s8 := k8.keep o8 hcl
    have o2 := o2.past k2 k1 k5 T W kk4 x04 (by decide) (by decide) (by decide) (by decide)
    have o3 := o3.past k3 k1 k5 T W kk4 x04 (by decide) (by decide) (by decide) (by decide)
    have o4 := o4.past k4 k1 k5 T W kk4 x04 (by decide) (by decide) (by decide) (by decide)
    have o6 := o6.past k6 k1 k5 T W kk4 x04 (by decide) (by decide) (by decide) (by decide)
    have o7 := o7.past k7 k1 k5 T W kk4 x04 (by decide) (by decide) (by decide) (by decide)
    have o8 := o8.past k8 k1 k5 T W kk4 x04 (by decide) (by decide) (by decide) (by decide)
    have T4 : Blk u4 bT 61 [.slice H1 (k + 1) d1, .slice OT 0 q2, .slice TT k q3, .slice AT k q4, .slice none 0 0] := T4
    have W4 : Blk u4 bW 59 [iv hour, .slice H5 (k + 1) d5, .slice OW 0 q6, .slice TW k q7] := W4
    clear T W o1 o5 k1 k5 k2 k3 k4 k6 k7 k8 k9 Bd Bx Bw na nb hdj hcl kk4
    -- the tail
    refine fldA ?_
    refine fldA ?_
    refine fldA ?_
    refine ld _ (Bx4.cell rfl) ?_
    refine idx k rfl (by omega) ?_
    refine ld _ (x04.cell cc7 trivial) ?_
    refine idx (endV d hour k) rfl (by omega) ?_
    refine ld (iv (tlV d x hour k)) (x04.cell vv7 trivial) ?_
    refine call_of (c_eput (i := 2) (j := 3) T4 W4 rfl rfl o3 o7 (s3.ne s7 (by decide)) Bw4 (cof9 s3 k9' (by decide)) (show _ ∧ _ from ⟨by unfold tlV; omega, by unfold tlV; omega⟩) ⟨by omega, by omega⟩ (by omega) (by omega) (by omega) (by omega)) ?_
    rintro _ u5 ⟨rfl, H3, d3, H7, d7, T5, W5, p3', p7', hdj, na, nb, kk5⟩
    have x05 : Ext w u5 := x04.then kk5 fun b hb _ => ⟨by omega, by omega, fun e => by have := o3.new b e; omega, fun e => by have := o7.new b e; omega⟩
    obtain ⟨cls3, hcl, r3', r7'⟩ := cof_up s3 s7 o3 o7 na nb hdj
    have Bd5 := Bd4.kept kk5 ⟨by omega, by omega, own_ty o3 Bd4 (by decide), own_ty o7 Bd4 (by decide)⟩
    have Bx5 := Bx4.kept kk5 ⟨by omega, by omega, own_ty o3 Bx4 (by decide), own_ty o7 Bx4 (by decide)⟩
    have Bw5 := Bw4.kept kk5 ⟨by omega, by omega, cof9 s3 k9' (by decide), own_ty o7 Bw4 (by decide)⟩
    have k9 : cls3 bw = 9 := by rw [hcl bw Bw4.lt]; exact k9'
    have t1 := r1.keep p1' hcl
    have t2 := s2.keep o2 hcl
    have t4 := s4.keep o4 hcl
    have t5 := r5.keep p5' hcl
    have t6 := s6.keep o6 hcl
    have t8 := s8.keep o8 hcl
    have o1 := p1'.past r1 s3 s7 T4 W4 kk5 x05 (by decide) (by decide) (by decide) (by decide)
    have o2 := o2.past s2 s3 s7 T4 W4 kk5 x05 (by decide) (by decide) (by decide) (by decide)
    have o4 := o4.past s4 s3 s7 T4 W4 kk5 x05 (by decide) (by decide) (by decide) (by decide)
    have o5 := p5'.past r5 s3 s7 T4 W4 kk5 x05 (by decide) (by decide) (by decide) (by decide)
    have o6 := o6.past s6 s3 s7 T4 W4 kk5 x05 (by decide) (by decide) (by decide) (by decide)
    have o8 := o8.past s8 s3 s7 T4 W4 kk5 x05 (by decide) (by decide) (by decide) (by decide)
    have T5 : Blk u5 bT 61 [.slice H1 (k + 1) d1, .slice OT 0 q2, .slice H3 (k + 1) d3, .slice AT k q4, .slice none 0 0] := T5
    have W5 : Blk u5 bW 59 [iv hour, .slice H5 (k + 1) d5, .slice OW 0 q6, .slice H7 (k + 1) d7] := W5
    clear T4 W4 o3 o7 s2 s3 s4 s6 s7 s8 r1 r5 p1' p5' k9' Bd4 Bx4 Bw4 na nb hdj hcl kk5
    -- what arrived
    have nX := own_ty o4 Bx5 (show 55 ≠ 3 by decide)
    have nT := own_ty o4 T5 (show 61 ≠ 3 by decide)
    have nO : ∀ b, b < w.heap.size → AT ≠ some (ad b 0) := fun b hb e => by have := o4.new b e; omega
    refine drawP (.take 0 (.take 1 (.take 2 (.take 3 (.take 4 (.take 5 (.take 6 (.take 7 (.take 8 (.take 9 (.take 10 (.take 11 (.take 12 (.take 13 (.take 14 (.take 15 (.take 16 (.take 17 (.take 18 (.take 19 (.take 20 (.take 21 (.take 22 (.take 23 (.take 24 (.take 25 (.take 26 (.take 27 (.eff 28 (.eff 29 (.take 30 (.bar (.eff 31 .done))))))))))))))))))))))))))))))))) [31] (fun z => Kept (fun b => AT ≠ some (ad b 0)) u5 z) mx (by kernel_rfl) (.refl _ _) ?_
    refine fldA ?_
    refine ldK (.slice AT k q4) (T5.cell rfl) nT (.refl _ _) ?_
    refine fldA ?_
    refine ldK _ (Bx5.cell rfl) nX (.refl _ _) ?_
    refine idx k rfl (by omega) ?_
    refine ldK _ (x05.cell cc3 trivial) (nO _ (lt_of_cell cc3)) (.refl _ _) ?_
    refine idx (atV d hour k) rfl (by omega) ?_
    refine ldK _ (x05.cell vv3 trivial) (nO _ (lt_of_cell vv3)) (.refl _ _) ?_
    refine fldA ?_
    refine ldK _ (Bx5.cell rfl) nX (.refl _ _) ?_
    refine idx k rfl (by omega) ?_
    refine ldK _ (x05.cell cc4 trivial) (nO _ (lt_of_cell cc4)) (.refl _ _) ?_
    refine idx (atV d hour k) rfl (by omega) ?_
    refine ldK _ (x05.cell vv4 trivial) (nO _ (lt_of_cell vv4)) (.refl _ _) ?_
    have v3 := tab_val hf.inn hlt' hA
    have v4 := tab_val hf.evap hlt' hA
    have v5 := tab_val hf.seep hlt' hA
    unfold g2 at v3 v4 v5
    refine arI (by omega) ?_
    refine fldA ?_
    refine ldK _ (Bx5.cell rfl) nX (.refl _ _) ?_
    refine idx k rfl (by omega) ?_
    refine ldK _ (x05.cell cc5 trivial) (nO _ (lt_of_cell cc5)) (.refl _ _) ?_
    refine idx (atV d hour k) rfl (by omega) ?_
    refine ldK _ (x05.cell vv5 trivial) (nO _ (lt_of_cell vv5)) (.refl _ _) ?_
    refine arE (arV d x hour k) rfl (by unfold arV g2; omega) ?_
    refine lit [iv (arV d x hour k)] (fun hg1 u6 hq1 => ?_)
    have o4 := o4.then hq1.ext
    refine strS hq1.ext.any ?_
    refine appF o4 (hq1.src (sz := 1) rfl) (by omega) (fun A' c' u7 p4' kk7 hA' => ?_)
    have x57 : Kept (fun b => AT ≠ some (ad b 0)) u5 u7 := (hq1.ext.any).trans kk7
    refine strS x57 ?_
    refine fldA ?_
    refine barS (fun _ => True) trivial ?_
    have na : nw u5 AT A' := nw.of hA' hq1.ext.size
    have x07 : Ext w u7 := x05.then x57 fun b hb _ => nO b hb
    obtain ⟨cls4, hcl, r4'⟩ := cof_up1 t4 na
    have T7 := T5.kept x57 nT
    have W7 := W5.kept x57 (own_ty (t := 59) ‹OwnF w u5 AT k q4 3 1 _› W5 (by decide))
    refine st (v := .slice A' (k + 1) c') T7 (Nat.le_of_ble_eq_true rfl) rfl (fun u8 T8 kk8 z8 => ?_)
    refine strS trivial ?_
    have T8 : Blk u8 bT 61 [.slice H1 (k + 1) d1, .slice OT 0 q2, .slice H3 (k + 1) d3, .slice A' (k + 1) c', .slice none 0 0] := T8
    have tT := T5.lt
    have tW := W5.lt
    have hTW : bW ≠ bT := by omega
    have W8 := W7.kept kk8 hTW
    have x08 : Ext w u8 := x07.then kk8 fun b hb _ => by omega
    have x58 : Kept (fun b => AT ≠ some (ad b 0) ∧ b ≠ bT) u5 u8 := (x57.weak fun _ _ h => h.1).trans (kk8.weak fun _ _ h => h.2)
    have tx := Bx5.lt
    have td := Bd5.lt
    have tw := Bw5.lt
    have o4 := ‹OwnF w u5 AT k q4 3 1 (icells k (arV d x hour))›
    have Bd8 := Bd5.kept x58 ⟨own_ty o4 Bd5 (by decide), by omega⟩
    have Bx8 := Bx5.kept x58 ⟨own_ty o4 Bx5 (by decide), by omega⟩
    have Bw8 := Bw5.kept x58 ⟨cof9 t4 k9 (by decide), by omega⟩
    have k9' : cls4 bw = 9 := by rw [hcl bw tw]; exact k9
    have s1 := t1.keep o1 hcl
    have s2 := t2.keep o2 hcl
    have s3 := r3'.keep p3' hcl
    have s5 := t5.keep o5 hcl
    have s6 := t6.keep o6 hcl
    have s7 := r7'.keep p7' hcl
    have s8 := t8.keep o8 hcl
    have o1 := o1.thenK x58 (fun g hg => ⟨t1.ne t4 (by decide) g hg, fun e => own_ty o1 T5 (by decide) (e ▸ hg)⟩) x08
    have o2 := o2.thenK x58 (fun g hg => ⟨t2.ne t4 (by decide) g hg, fun e => own_ty o2 T5 (by decide) (e ▸ hg)⟩) x08
    have o3 := p3'.thenK x58 (fun g hg => ⟨r3'.ne t4 (by decide) g hg, fun e => own_ty p3' T5 (by decide) (e ▸ hg)⟩) x08
    have o5 := o5.thenK x58 (fun g hg => ⟨t5.ne t4 (by decide) g hg, fun e => own_ty o5 T5 (by decide) (e ▸ hg)⟩) x08
    have o6 := o6.thenK x58 (fun g hg => ⟨t6.ne t4 (by decide) g hg, fun e => own_ty o6 T5 (by decide) (e ▸ hg)⟩) x08
    have o7 := p7'.thenK x58 (fun g hg => ⟨r7'.ne t4 (by decide) g hg, fun e => own_ty p7' T5 (by decide) (e ▸ hg)⟩) x08
    have o8 := o8.thenK x58 (fun g hg => ⟨t8.ne t4 (by decide) g hg, fun e => own_ty o8 T5 (by decide) (e ▸ hg)⟩) x08
    have o4 := p4'.thenK kk8 (fun g hg e => own_ty p4' T7 (by decide) (e ▸ hg)) x08
    clear T5 W5 T7 W7 p3' p7' t1 t2 r3' t4 t5 t6 r7' t8 k9 Bd5 Bx5 Bw5 hcl p4'
    -- the ends
    refine lit [iv ((endV d hour k : Nat) : Int)] (fun hg2 u9 hq2 => ?_)
    refine appF (o8.then hq2.ext) (hq2.src (sz := 1) rfl) (by omega) (fun E' ee' u10 p8 kk10 hE' => ?_)
    have x80 : Kept (fun b => En ≠ some (ad b 0)) u8 u10 := (hq2.ext.any).trans kk10
    have nb : nw u8 En E' := nw.of hE' hq2.ext.size
    have x00 : Ext w u10 := x08.then x80 fun b hb _ e => by have := o8.new b e; omega
    obtain ⟨cls5, hcl, v8⟩ := cof_up1 s8 nb
    refine arI (by omega) ?_
    refine next3 (k + 1) E' ee' ⟨by rw [Int.natCast_add]; rfl, rfl, trivial⟩ ⟨by omega, x00, Bd8.kept x80 (own_ty o8 Bd8 (by decide)), Bx8.kept x80 (own_ty o8 Bx8 (by decide)), Bw8.kept x80 (cof9 s8 k9' (by decide)), fun r hr => ?_, ?_⟩ (by omega)
    · by_cases e : r = k
      · subst e; omega
      · exact hfit r (by omega)
    · have hcl9 : cls5 bw = 9 := by rw [hcl bw Bw8.lt]; exact k9'
      have u1' := o1.thenK x80 (fun g hg => s1.ne s8 (by decide) g hg) x00
      have u3' := o3.thenK x80 (fun g hg => s3.ne s8 (by decide) g hg) x00
      have u4' := o4.thenK x80 (fun g hg => r4'.ne s8 (by decide) g hg) x00
      have u5' := o5.thenK x80 (fun g hg => s5.ne s8 (by decide) g hg) x00
      have u7' := o7.thenK x80 (fun g hg => s7.ne s8 (by decide) g hg) x00
      have u4' : OwnF w u10 A' (k + 1) c' 3 1 (icells k (arV d x hour) ++ [iv (arV d x hour k)]) := u4'
      have p8 : OwnF w u10 E' (k + 1) ee' 3 1 (icells k (fun r => ((endV d hour r : Nat) : Int)) ++ [iv ((endV d hour k : Nat) : Int)]) := p8
      rw [← icells_snoc] at u1' u3' u4'
      rw [show icells k (fun r => ((endV d hour r : Nat) : Int)) ++ [iv ((endV d hour k : Nat) : Int)] = icells (k + 1) (fun r => ((endV d hour r : Nat) : Int)) from (icells_snoc _ _).symm] at p8
      rw [show rcells k (fun r => arR wide (hdV d x hour r)) ++ [iv (max 0 (hdV d x hour k - wide)), iv (min 1073741824 (hdV d x hour k + wide))] = rcells (k + 1) (fun r => arR wide (hdV d x hour r)) from (rcells_snoc _ _).symm] at u5'
      rw [show rcells k (fun r => arR wide (tlV d x hour r)) ++ [iv (max 0 (tlV d x hour k - wide)), iv (min 1073741824 (tlV d x hour k + wide))] = rcells (k + 1) (fun r => arR wide (tlV d x hour r)) from (rcells_snoc _ _).symm] at u7'
      exact ⟨_, _, _, _, _, _, _, _, _, _, _, _, _, _, cls5, T8.kept x80 (own_ty o8 T8 (by decide)), W8.kept x80 (own_ty o8 W8 (by decide)), ⟨u1', s1.keep o1 hcl⟩, ⟨o2.thenK x80 (fun g hg => s2.ne s8 (by decide) g hg) x00, s2.keep o2 hcl⟩, ⟨u3', s3.keep o3 hcl⟩, ⟨u4', r4'.keep o4 hcl⟩, ⟨u5', s5.keep o5 hcl⟩, ⟨o6.thenK x80 (fun g hg => s6.ne s8 (by decide) g hg) x00, s6.keep o6 hcl⟩, ⟨u7', s7.keep o7 hcl⟩, ⟨p8, v8⟩, hcl9⟩
  obtain rfl : n1 = k := by omega
  have ok : OfOk d x hour wide := ⟨q0, ⟨by omega, by omega⟩, ⟨by omega, by omega⟩, fun r hr => hfit r (by omega)⟩
  obtain ⟨b1, b2⟩ := ok.bounds
  have oe := ofErr_ok.2 ok
  refine fldA ?_
  refine ld (.slice A2 n2 c2) (Bd.cell rfl) ?_
  refine len ?_
  refine loop_rule (fun f : Nat => [(140, iv (f : Int))]) (fun f u => f ≤ n2 ∧ Ext w u ∧ Blk u bd 31 [.string d.name, iv d.hours, iv d.cap, iv d.start, .slice A1 n1 c1, .slice A2 n2 c2, .slice A3 n3 c3, .slice A4 n4 c4, .slice A5 n5 c5, .slice A6 n6 c6] ∧ Blk u bx 55 [.slice B1 m1 e1, .slice B2 m2 e2, .slice B3 m3 e3, .slice B4 m4 e4, .slice B5 m5 e5, .slice B6 m6 e6, .slice B7 m7 e7] ∧ Blk u bw 3 [iv wide] ∧ OfI w u bW bT bw d x hour wide n1 f En ec) (fun f _ => n2 - f) 0 ⟨rfl, trivial⟩ ⟨by omega, xu, Bd, Bx, Bw, hI⟩ rfl ?_
  clear Bd Bx Bw hI xu
  rintro G2 f u ⟨hf2, xu, Bd, Bx, Bw, hI⟩
  refine cD (fun hlt => ?_) (fun hge => ?_)
  · have hlt : f < n2 := by omega
    have hlt' : f < d.farms.length := by omega
    obtain ⟨b, o, cs, y, rfl, hy, -, -, hc, rfl⟩ := (hfa.ext xu).at_ hlt
    have hrc : frm d f = y := frm_eq hy
    refine idx f rfl hlt ?_
    refine ldA y.c hc rfl ?_
    refine alloc (fun t u1 i1' => ?_)
    refine stA (vs := y.c) i1'.blk rfl (Nat.le_of_ble_eq_true rfl) (by simp [Value.oneCell']) (fun u2 tb s2 zs => ?_)
    have t1 := i1'.at_
    have xu2 : Ext u u2 := i1'.ext.then s2 fun b hb _ => by omega
    have tb : Blk u2 t 111 y.c := tb
    have Bd := Bd.ext xu2
    have Bx := Bx.ext xu2
    have Bw := Bw.ext xu2
    have hI := hI.ext xu2
    have x02 := xu.trans xu2
    obtain ⟨⟨w1', w2'⟩, w3', w4'⟩ := b2 f hlt'
    rw [hrc] at w3' w4'
    obtain ⟨j, hj⟩ : ∃ j : Nat, y.reach = (j : Int) := ⟨y.reach.toNat, by omega⟩
    obtain ⟨p1, p2, p3, p4, p5, p6⟩ := ok.at_ (r := j) (by omega)
    have hE : endV d hour j < H := by omega
    have hot : otV d x hour f = g2 x.taken f (endV d hour j) := by unfold otV; rw [hrc, hj, Int.toNat_natCast]
    obtain ⟨HT, q1, OT, q2, TT, q3, AT, q4, HW, q5, OW, q6, TW, q7, cls, T, W, ⟨o1, k1⟩, ⟨o2, k2⟩, ⟨o3, k3⟩, ⟨o4, k4⟩, ⟨o5, k5⟩, ⟨o6, k6⟩, ⟨o7, k7⟩, ⟨o8, k8⟩, k9⟩ := hI.ex
    have y6 := tabB_iff.1 hf.taken
    have l6 := i6.len
    have n6' := (numB_iff.1 (tab_row hf.taken hlt').2).1
    obtain ⟨f6, f6', R6, s6, g6', rfl, cc6, r6, -⟩ := row_at i6 (i := f) (by omega)
    have z6' := r6.len
    obtain ⟨r6b, r6o, rfl, vv6⟩ := num_at r6 (k := endV d hour j) (by omega)
    have oE := o8.icl (D := fun _ => True) (fun r hr => by have := ok.at_ (r := r) (by omega); unfold I64; omega) (by omega) fun _ _ => trivial
    obtain ⟨ge, goe, cse, ve, rfl, hve, -, -, hce, rfl, -⟩ := oE.at_ (k := j) (by omega)
    have hve : ve = ((endV d hour j : Nat) : Int) := by
      rw [List.getElem?_map, List.getElem?_range (by omega)] at hve
      injection hve with hve; exact hve.symm
    subst hve
    refine drawP (.take 0 (.take 1 (.take 2 (.take 3 (.take 4 (.take 5 (.take 6 (.take 7 (.take 8 (.take 9 (.take 10 (.take 11 (.take 12 (.take 13 (.take 14 (.bar (.eff 15 .done))))))))))))))))) [15] (fun z => z = u2) mx (by kernel_rfl) rfl ?_
    refine fldA ?_
    refine fldA ?_
    refine fldA ?_
    refine ld _ (Bx.cell rfl) ?_
    refine idx f rfl (by omega) ?_
    refine ld _ (x02.cell cc6 trivial) ?_
    refine fldA ?_
    refine ld (iv y.reach) (tb.cell rfl) ?_
    refine idx j hj (by omega) ?_
    refine ld _ (hce 0 _ rfl) ?_
    refine idx (endV d hour j) rfl (by omega) ?_
    refine ld (iv (otV d x hour f)) (by rw [hot]; exact x02.cell vv6 trivial) ?_
    refine barS (fun _ => True) trivial ?_
    have cof9 : ∀ {cl : Nat → Nat} {A : Option Addr} {i : Nat}, cof cl A i → cl bw = 9 → i ≠ 9 → A ≠ some (ad bw 0) := fun h1 h2 h3 e => h3 (by rw [← h1 bw e, h2])
    refine call_of (c_eput (i := 1) (j := 2) T W rfl rfl o2 o6 (k2.ne k6 (by decide)) Bw (cof9 k2 k9 (by decide)) (show _ ∧ _ from ⟨by omega, by omega⟩) ⟨by omega, by omega⟩ (by omega) (by omega) (by omega) (by omega)) ?_
    rintro _ u4 ⟨rfl, H2, d2, H6, d6, T4, W4, p2', p6', hdj, na, nb, kk4⟩
    have x04 : Ext w u4 := x02.then kk4 fun b hb _ => ⟨by omega, by omega, fun e => by have := o2.new b e; omega, fun e => by have := o6.new b e; omega⟩
    obtain ⟨cls2, hcl, r2, r6⟩ := cof_up k2 k6 o2 o6 na nb hdj
    have k9' : cls2 bw = 9 := by rw [hcl bw Bw.lt]; exact k9
    refine strS trivial ?_
    refine arI (by omega) ?_
    refine next (f + 1) ⟨by rw [Int.natCast_add]; rfl, trivial⟩ ⟨by omega, x04, Bd.kept kk4 ⟨by omega, by omega, own_ty o2 Bd (by decide), own_ty o6 Bd (by decide)⟩, Bx.kept kk4 ⟨by omega, by omega, own_ty o2 Bx (by decide), own_ty o6 Bx (by decide)⟩, Bw.kept kk4 ⟨by omega, by omega, cof9 k2 k9 (by decide), own_ty o6 Bw (by decide)⟩, ?_⟩ (by omega)
    rw [← icells_snoc] at p2'
    rw [show rcells f (fun r => arR wide (otV d x hour r)) ++ [iv (max 0 (otV d x hour f - wide)), iv (min 1073741824 (otV d x hour f + wide))] = rcells (f + 1) (fun r => arR wide (otV d x hour r)) from (rcells_snoc _ _).symm] at p6'
    exact ⟨_, _, _, _, _, _, _, _, _, _, _, _, _, _, cls2, T4, W4, ⟨o1.past k1 k2 k6 T W kk4 x04 (by decide) (by decide) (by decide) (by decide), k1.keep o1 hcl⟩, ⟨p2', r2⟩, ⟨o3.past k3 k2 k6 T W kk4 x04 (by decide) (by decide) (by decide) (by decide), k3.keep o3 hcl⟩, ⟨o4.past k4 k2 k6 T W kk4 x04 (by decide) (by decide) (by decide) (by decide), k4.keep o4 hcl⟩, ⟨o5.past k5 k2 k6 T W kk4 x04 (by decide) (by decide) (by decide) (by decide), k5.keep o5 hcl⟩, ⟨p6', r6⟩, ⟨o7.past k7 k2 k6 T W kk4 x04 (by decide) (by decide) (by decide) (by decide), k7.keep o7 hcl⟩, ⟨o8.past k8 k2 k6 T W kk4 x04 (by decide) (by decide) (by decide) (by decide), k8.keep o8 hcl⟩, k9'⟩
  obtain rfl : f = n2 := by omega
  obtain ⟨HT, q1, OT, q2, TT, q3, AT, q4, HW, q5, OW, q6, TW, q7, cls, T, W, ⟨o1, k1⟩, ⟨o2, k2⟩, ⟨o3, k3⟩, ⟨o4, k4⟩, ⟨o5, k5⟩, ⟨o6, k6⟩, ⟨o7, k7⟩, ⟨o8, k8⟩, k9⟩ := hI.ex
  have tT := T.lt
  have tW := W.lt
  refine ldA [iv hour, .slice HW n1 q5, .slice OW f q6, .slice TW n1 q7] (.blk W) rfl ?_
  refine ldA [.slice HT n1 q1, .slice OT f q2, .slice TT n1 q3, .slice AT n1 q4, .slice none 0 0] (.blk T) rfl ?_
  refine stA (vs := [iv hour, .slice HW n1 q5, .slice OW f q6, .slice TW n1 q7]) W rfl (Nat.le_of_ble_eq_true rfl) (by simp [Value.oneCell']) (fun y1 BW8 kk8 z8 => ?_)
  refine stA (vs := [.slice HT n1 q1, .slice OT f q2, .slice TT n1 q3, .slice AT n1 q4, .slice none 0 0]) (T.kept kk8 (by omega)) rfl (Nat.le_of_ble_eq_true rfl) (by simp [Value.oneCell']) (fun y2 BT9 kk9 z9 => ?_)
  refine ret ?_
  refine resL _ (holds_agg (CellsAt.blk (show Blk y2 bW 59 [iv hour, .slice HW n1 q5, .slice OW f q6, .slice TW n1 q7] from Blk.kept BW8 kk9 (by omega))) rfl) ?_
  refine resL _ (holds_agg (CellsAt.blk (show Blk y2 bT 61 [.slice HT n1 q1, .slice OT f q2, .slice TT n1 q3, .slice AT n1 q4, .slice none 0 0] from BT9)) rfl) ?_
  have kk : Kept (fun b => b ≠ bW ∧ b ≠ bT) u y2 := (kk8.weak fun _ _ h => h.1).trans (kk9.weak fun _ _ h => h.2)
  have x0e : Ext w y2 := xu.then kk fun b hb _ => ⟨by omega, by omega⟩
  have nn : ∀ {A : Option Addr} {n c sz : Nat} {e : TypeId} {cs : List Value}, OwnF w u A n c e sz cs → 59 ≠ e → 61 ≠ e → OwnF w y2 A n c e sz cs := fun h h1 h2 => h.thenK kk (fun g hg => ⟨fun e => own_ty h W h1 (e ▸ hg), fun e => own_ty h T h2 (e ▸ hg)⟩) x0e
  have bar : ∀ r, r < n1 → I64 (arV d x hour r) := fun r hr => by
    have h1 := ok.at_ (r := r) (by omega)
    have v3 := tab_val hf.inn (i := r) (by omega) (show atV d hour r < H by omega)
    have v4 := tab_val hf.evap (i := r) (by omega) (show atV d hour r < H by omega)
    have v5 := tab_val hf.seep (i := r) (by omega) (show atV d hour r < H by omega)
    unfold arV I64; omega
  have j1 := (nn o1 (by decide) (by decide)).icl (D := fun b => w.heap.size ≤ b) (fun r hr => by have := (b1 r (by omega)).1; unfold I64; omega) (by omega) fun _ h => h
  have j2 := (nn o2 (by decide) (by decide)).icl (D := fun b => w.heap.size ≤ b) (fun r hr => by have := (b2 r (by omega)).1; unfold I64; omega) (by omega) fun _ h => h
  have j3 := (nn o3 (by decide) (by decide)).icl (D := fun b => w.heap.size ≤ b) (fun r hr => by have := (b1 r (by omega)).2; unfold I64; omega) (by omega) fun _ h => h
  have j4 := (nn o4 (by decide) (by decide)).icl (D := fun b => w.heap.size ≤ b) bar (by omega) fun _ h => h
  have j5 := (nn o5 (by decide) (by decide)).rgs (D := fun b => w.heap.size ≤ b) rfl (by omega) fun _ h => h
  have j6 := (nn o6 (by decide) (by decide)).rgs (D := fun b => w.heap.size ≤ b) rfl (by omega) fun _ h => h
  have j7 := (nn o7 (by decide) (by decide)).rgs (D := fun b => w.heap.size ≤ b) rfl (by omega) fun _ h => h
  refine ⟨[iv hour, .slice HW n1 q5, .slice OW f q6, .slice TW n1 q7], [.slice HT n1 q1, .slice OT f q2, .slice TT n1 q3, .slice AT n1 q4, .slice none 0 0], by rw [oe]; rfl, x0e, ?_, ?_⟩
  · unfold ofWv ofW
    rw [if_pos oe, ln, lf]
    exact ⟨[iv hour], [.slice HW n1 q5, .slice OW f q6, .slice TW n1 q7], rfl, ⟨rfl, h64⟩, [.slice HW n1 q5], [.slice OW f q6, .slice TW n1 q7], rfl, ⟨HW, n1, q5, rfl, j5, o5.le⟩, [.slice OW f q6], [.slice TW n1 q7], rfl, ⟨OW, f, q6, rfl, j6, o6.le⟩, TW, n1, q7, rfl, j7, o7.le⟩
  · unfold ofTv ofT
    rw [if_pos oe, ln, lf]
    exact ⟨[.slice HT n1 q1], [.slice OT f q2, .slice TT n1 q3, .slice AT n1 q4, .slice none 0 0], rfl, ⟨HT, n1, q1, rfl, j1, o1.le⟩, [.slice OT f q2], [.slice TT n1 q3, .slice AT n1 q4, .slice none 0 0], rfl, ⟨OT, f, q2, rfl, j2, o2.le⟩, [.slice TT n1 q3], [.slice AT n1 q4, .slice none 0 0], rfl, ⟨TT, n1, q3, rfl, j3, o3.le⟩, [.slice AT n1 q4], [.slice none 0 0], rfl, ⟨AT, n1, q4, rfl, j4, o4.le⟩, none, 0, 0, rfl, .nil, Nat.le_refl _⟩
end
end Go.Proofs.YtffdjecdcbbfaaaGreat

/- The reference of layer 20's Delay; what compares waves and Truths in layer 48's. -/
namespace Go.Proofs.YtffdjecdcbbfaaaGreat
open Go Go.RowKit

instance eqRange : EqTy Tryz.prog 101 := ⟨by kernel_rfl⟩
def delS (d : Dist) (l : List Int) : Int := (l.map fun i => (rch d i.toNat).delay).sum
section
variable {D : Nat → Prop} {w : World}
theorem c_r20ask {csd : List Value} {d : Dist} {r : Int} (hd : DiR D w csd d) : CallZ Tryz.prog 113 #[.agg csd.toArray, iv r] w (fun v w' => v = iv (canE d [r]) ∧ Ext w w') := by
  obtain ⟨A1, n1, c1, A2, n2, c2, A3, n3, c3, A4, n4, c4, A5, n5, c5, A6, n6, c6, rfl, hr, -⟩ := hd.ex
  have ln := hr.len
  refine fn_rule (args := [.agg #[.string d.name, iv d.hours, iv d.cap, iv d.start, .slice A1 n1 c1, .slice A2 n2 c2, .slice A3 n3 c3, .slice A4 n4 c4, .slice A5 n5 c5, .slice A6 n6 c6], iv r]) Tryz.func113 (by kernel_rfl) ?_
  refine box (fun bd w1 h1 => ?_)
  have Bd : Blk w1 bd 31 [.string d.name, iv d.hours, iv d.cap, iv d.start, .slice A1 n1 c1, .slice A2 n2 c2, .slice A3 n3 c3, .slice A4 n4 c4, .slice A5 n5 c5, .slice A6 n6 c6] := h1.blk
  refine ldA [.string d.name, iv d.hours, iv d.cap, iv d.start, .slice A1 n1 c1, .slice A2 n2 c2, .slice A3 n3 c3, .slice A4 n4 c4, .slice A5 n5 c5, .slice A6 n6 c6] (.blk Bd) rfl ?_
  refine call_of (c_r19Check (hd.ext h1.ext)) ?_
  rintro _ w2 ⟨rfl, x2⟩
  have x02 := h1.ext.trans x2
  obtain ⟨e, he⟩ : ∃ e, e = dErr d := ⟨_, rfl⟩
  rw [← he]
  refine cN (fun g => ?_) (fun g => ?_)
  · exact ret1 (iv e) rfl ⟨by unfold canE; rw [← he, if_neg g], x02⟩
  have ce : canE d [r] = if ([r].all fun r => decide (0 ≤ r ∧ r < d.reaches.length)) then 0 else 1 := by unfold canE; rw [← he, if_pos g]
  refine cD (fun g1 => ?_) (fun g1 => ?_)
  · exact ret1 (iv 1) rfl ⟨by rw [ce, if_neg (by simp; omega)], x02⟩
  refine fldA ?_
  refine ld (.slice A1 n1 c1) ((Bd.ext x2).cell rfl) ?_
  refine len ?_
  refine cD (fun g2 => ?_) (fun g2 => ?_)
  · exact ret1 (iv 1) rfl ⟨by rw [ce, if_neg (by simp; omega)], x02⟩
  · exact ret1 (iv 0) rfl ⟨by rw [ce, if_pos (by simp; omega)], x02⟩
set_option maxRecDepth 4000 in
theorem c_r20Way {csd : List Value} {d : Dist} {r : Int} (hd : DiR D w csd d) (ht : Tre d) (hR : d.reaches.length ≤ 64) (hr : -1 ≤ r ∧ r < d.reaches.length) : CallZ Tryz.prog 114 #[.agg csd.toArray, iv r] w
    (fun v w' => ∃ A n c, ∃ l : List Int, v = .slice A n c ∧ OwnF w w' A n c 3 1 (l.map fun k => .int .i64 k) ∧ (∀ i ∈ l, (0 ≤ i ∧ i < d.reaches.length) ∧ 0 ≤ (rch d i.toNat).delay ∧ (rch d i.toNat).delay ≤ 16) ∧ delS d l = delV d r ∧ l.length ≤ 64) := by
  have hd := hd.more (D' := fun _ => True) fun _ _ _ => trivial
  obtain ⟨A1, n1, c1, A2, n2, c2, A3, n3, c3, A4, n4, c4, A5, n5, c5, A6, n6, c6, rfl, hre, -⟩ := hd.ex
  have ln := hre.len
  refine fn_rule (args := [.agg #[.string d.name, iv d.hours, iv d.cap, iv d.start, .slice A1 n1 c1, .slice A2 n2 c2, .slice A3 n3 c3, .slice A4 n4 c4, .slice A5 n5 c5, .slice A6 n6 c6], iv r]) Tryz.func114 (by kernel_rfl) ?_
  refine box (fun bd w1 h1 => ?_)
  have Bd : Blk w1 bd 31 [.string d.name, iv d.hours, iv d.cap, iv d.start, .slice A1 n1 c1, .slice A2 n2 c2, .slice A3 n3 c3, .slice A4 n4 c4, .slice A5 n5 c5, .slice A6 n6 c6] := h1.blk
  refine loop4 (fun (q : Int) (A : Option Addr) (n c : Nat) => [(1, iv q), (5, .slice A n c)]) (fun q A n c u => (-1 ≤ q ∧ q ≤ r) ∧ Blk u bd 31 [.string d.name, iv d.hours, iv d.cap, iv d.start, .slice A1 n1 c1, .slice A2 n2 c2, .slice A3 n3 c3, .slice A4 n4 c4, .slice A5 n5 c5, .slice A6 n6 c6] ∧ ∃ l : List Int, OwnF w u A n c 3 1 (l.map fun k => .int .i64 k) ∧ (∀ i ∈ l, (0 ≤ i ∧ i < d.reaches.length) ∧ 0 ≤ (rch d i.toNat).delay ∧ (rch d i.toNat).delay ≤ 16) ∧ delS d l + delV d q = delV d r ∧ (n : Int) ≤ r - q) (fun q _ _ _ _ => (q + 1).toNat) r none 0 0 ⟨rfl, rfl, trivial⟩
    ⟨⟨by omega, by omega⟩, Bd, [], OwnF.nil h1.ext, fun i hi => by simp at hi, by simp [delS], by omega⟩ rfl ?_
  clear Bd
  rintro G q A n c u ⟨hq, Bd, l, o, hl, hs, hn⟩
  have oc : n = l.length := by have := o.own.len; simpa using this.symm
  refine cD (fun g => ?_) (fun g => ?_)
  · obtain ⟨k, rfl⟩ : ∃ k : Nat, q = k := ⟨q.toNat, by omega⟩
    have hk : k < d.reaches.length := by omega
    have hx := reach_at hk
    have hu := ht.up _ _ hx
    have st := delV_step ht hx
    have hdl := ht.dl _ _ hx
    refine lit [iv (k : Int)] (fun g1 u1 hq1 => ?_)
    have o1 := OwnF.lit (n := 1) (sz := 1) o.ext hq1 rfl
    refine appF o1 ((o.then hq1.ext).own.src) (by omega) (fun A' c' u2 p kk hA => ?_) (h1 := List.all_eq_true.2 fun v hv => by obtain ⟨z, -, rfl⟩ := List.mem_map.1 hv; rfl)
    have x2 := p.ext
    have bl := Bd.lt
    have a1 := hq1.at_
    have Bd2 := (Bd.ext hq1.ext).kept kk (fun e => by injection e with e; injection e with e; omega)
    obtain ⟨b, ofs, cs, y, rfl, hy, -, -, hc, rfl⟩ := (hre.ext p.ext).at_ (show k < n1 by omega)
    obtain rfl : rch d k = y := rch_eq hy
    refine fldA ?_
    refine ld (.slice (some (ad b ofs)) n1 c1) (Bd2.cell rfl) ?_
    refine idx k rfl (by omega) ?_
    refine fldA ?_
    refine ld (iv (rch d k).up) (hc 1 _ rfl) ?_
    refine next4 (rch d k).up A' (1 + n) c' ⟨rfl, rfl, trivial⟩ ⟨⟨by omega, by omega⟩, Bd2, (k : Int) :: l, p, fun i hi => ?_, ?_, by omega⟩ (by omega)
    · rcases List.mem_cons.1 hi with rfl | hi
      · rw [Int.toNat_natCast]; omega
      · exact hl i hi
    · have : delS d ((k : Int) :: l) = (rch d k).delay + delS d l := by unfold delS; rw [List.map_cons, List.sum_cons, Int.toNat_natCast]
      omega
  · obtain rfl : q = -1 := by omega
    exact ret1 (.slice A n c) rfl ⟨A, n, c, l, rfl, o, hl, by rw [show delV d (-1) = 0 from rfl] at hs; omega, by omega⟩
set_option maxRecDepth 4000 in
theorem c_r20Path {csd : List Value} {d : Dist} {r : Int} (hd : DiR D w csd d) : CallZ Tryz.prog 81 #[.agg csd.toArray, iv r] w
    (fun v w' => ∃ A n c, ∃ l : List Int, v = .tuple #[.slice A n c, iv (canE d [r])] ∧ OwnF w w' A n c 3 1 (l.map fun k => .int .i64 k) ∧ (∀ i ∈ l, (0 ≤ i ∧ i < d.reaches.length) ∧ 0 ≤ (rch d i.toNat).delay ∧ (rch d i.toNat).delay ≤ 16) ∧ l.length ≤ 64 ∧ delS d l = if canE d [r] = 0 then delV d r else 0) := by
  obtain ⟨A1, n1, c1, A2, n2, c2, A3, n3, c3, A4, n4, c4, A5, n5, c5, A6, n6, c6, rfl, hre, -⟩ := hd.ex
  refine fn_rule (args := [.agg #[.string d.name, iv d.hours, iv d.cap, iv d.start, .slice A1 n1 c1, .slice A2 n2 c2, .slice A3 n3 c3, .slice A4 n4 c4, .slice A5 n5 c5, .slice A6 n6 c6], iv r]) Tryz.func81 (by kernel_rfl) ?_
  refine box (fun bd w1 h1 => ?_)
  have Bd : Blk w1 bd 31 [.string d.name, iv d.hours, iv d.cap, iv d.start, .slice A1 n1 c1, .slice A2 n2 c2, .slice A3 n3 c3, .slice A4 n4 c4, .slice A5 n5 c5, .slice A6 n6 c6] := h1.blk
  refine ldA [.string d.name, iv d.hours, iv d.cap, iv d.start, .slice A1 n1 c1, .slice A2 n2 c2, .slice A3 n3 c3, .slice A4 n4 c4, .slice A5 n5 c5, .slice A6 n6 c6] (.blk Bd) rfl ?_
  refine call_of (c_r20ask (r := r) (hd.ext h1.ext)) ?_
  rintro _ w2 ⟨rfl, x2⟩
  have x02 := h1.ext.trans x2
  obtain ⟨e, he⟩ : ∃ e, e = canE d [r] := ⟨_, rfl⟩
  rw [← he]
  refine cN (fun g => ?_) (fun g => ?_)
  · exact ret2 (.slice none 0 0) (iv e) rfl rfl ⟨none, 0, 0, [], rfl, OwnF.nil x02, fun i hi => by simp at hi, by simp, by rw [if_neg g]; rfl⟩
  obtain ⟨hde, hr0, hr1⟩ := canE_ok (d := d) (r := r) (by rw [← he]; exact g)
  obtain ⟨⟨hR, -⟩, -⟩ := valid_bounds (dErr_ok.1 hde).1 (dErr_ok.1 hde).2
  refine ldA [.string d.name, iv d.hours, iv d.cap, iv d.start, .slice A1 n1 c1, .slice A2 n2 c2, .slice A3 n3 c3, .slice A4 n4 c4, .slice A5 n5 c5, .slice A6 n6 c6] (.blk (Bd.ext x2)) rfl ?_
  refine call_of (c_r20Way (hd.ext x02) (tre_of hde) hR ⟨by omega, hr1⟩) ?_
  rintro _ w3 ⟨A, n, c, l, rfl, o, hl, hs, hn⟩
  exact ret2 (.slice A n c) (iv 0) rfl rfl ⟨A, n, c, l, by rw [g], o.base x02, hl, hn, by rw [if_pos g]; exact hs⟩
set_option maxRecDepth 4000 in
theorem c_r20Delay {csd : List Value} {d : Dist} {r : Int} (hd : DiR D w csd d) : CallZ Tryz.prog 47 #[.agg csd.toArray, iv r] w (fun v w' => v = .tuple #[iv (if canE d [r] = 0 then delV d r else 0), iv (canE d [r])] ∧ Ext w w') := by
  have hd := hd.more (D' := fun _ => True) fun _ _ _ => trivial
  obtain ⟨A1, n1, c1, A2, n2, c2, A3, n3, c3, A4, n4, c4, A5, n5, c5, A6, n6, c6, rfl, hre, -⟩ := hd.ex
  have ln := hre.len
  refine fn_rule (args := [.agg #[.string d.name, iv d.hours, iv d.cap, iv d.start, .slice A1 n1 c1, .slice A2 n2 c2, .slice A3 n3 c3, .slice A4 n4 c4, .slice A5 n5 c5, .slice A6 n6 c6], iv r]) Tryz.func47 (by kernel_rfl) ?_
  refine box (fun bd w1 h1 => ?_)
  have Bd : Blk w1 bd 31 [.string d.name, iv d.hours, iv d.cap, iv d.start, .slice A1 n1 c1, .slice A2 n2 c2, .slice A3 n3 c3, .slice A4 n4 c4, .slice A5 n5 c5, .slice A6 n6 c6] := h1.blk
  refine ldA [.string d.name, iv d.hours, iv d.cap, iv d.start, .slice A1 n1 c1, .slice A2 n2 c2, .slice A3 n3 c3, .slice A4 n4 c4, .slice A5 n5 c5, .slice A6 n6 c6] (.blk Bd) rfl ?_
  refine call_of (c_r20Path (r := r) (hd.ext h1.ext)) ?_
  rintro _ w2 ⟨A, n, c, l, rfl, o, hl, hn, hs⟩
  have x02 := h1.ext.trans o.ext
  have Bd := Bd.ext o.ext
  obtain ⟨V, hV⟩ : ∃ V, V = (if canE d [r] = 0 then delV d r else 0) := ⟨_, rfl⟩
  rw [← hV] at hs ⊢
  obtain ⟨e, he⟩ : ∃ e, e = canE d [r] := ⟨_, rfl⟩
  rw [← he]
  have oc : n = l.length := by have := o.own.len; simpa using this.symm
  have s := o.ints (D := fun _ => True) (fun x hx => by have := hl x hx; have := hre.le; unfold I64; omega) (by omega) fun _ _ => trivial
  refine loop2 (fun (k : Nat) (t : Int) => [(9, iv (k : Int)), (8, iv t)]) (fun k t u => k ≤ n ∧ w2 = u ∧ t + delS d (l.drop k) = V ∧ 0 ≤ t ∧ t ≤ 16 * (k : Int)) (fun k _ _ => n - k) 0 0 ⟨rfl, rfl, trivial⟩ ⟨by omega, rfl, by rw [List.drop_zero]; omega, by omega, by omega⟩ rfl ?_
  rintro G k t u ⟨hk, rfl, ht, ht0, ht1⟩
  refine len ?_
  refine cD (fun hlt => ?_) (fun hge => ?_)
  · have hlt : k < n := by omega
    obtain ⟨b, ofs, cs, i, rfl, hi, hdi, -, hc, rfl, -⟩ := s.at_ hlt
    obtain ⟨⟨i0, i1⟩, d0, d1⟩ := hl i (List.mem_of_getElem? hi)
    obtain ⟨j, rfl⟩ : ∃ j : Nat, i = j := ⟨i.toNat, by omega⟩
    obtain ⟨b', ofs', cs', y, rfl, hy, -, -, hc', rfl⟩ := (hre.ext x02).at_ (show j < n1 by omega)
    obtain rfl : rch d j = y := rch_eq hy
    rw [Int.toNat_natCast] at d0 d1
    rw [hdi] at ht
    have e1 : delS d ((j : Int) :: l.drop (k + 1)) = (rch d j).delay + delS d (l.drop (k + 1)) := by unfold delS; rw [List.map_cons, List.sum_cons, Int.toNat_natCast]
    refine drawQ mx (by kernel_rfl) ?_
    refine fldA ?_
    refine ld _ (Bd.cell rfl) ?_
    refine idx k rfl hlt ?_
    refine ld (iv (j : Int)) (hc 0 _ rfl) ?_
    refine idx j rfl (by omega) ?_
    refine fldA ?_
    refine ld (iv (rch d j).delay) (hc' 2 _ rfl) ?_
    refine arI (by omega) ?_
    refine arI (by omega) ?_
    exact next2 (k + 1) (t + (rch d j).delay) ⟨by rw [Int.natCast_add]; rfl, rfl, trivial⟩ ⟨by omega, rfl, by omega, by omega, by omega⟩ (by omega)
  · rw [List.drop_eq_nil_of_le (by omega)] at ht
    have e0 : delS d [] = 0 := rfl
    obtain rfl : t = V := by omega
    exact ret2 (iv t) (iv e) rfl rfl ⟨rfl, x02⟩
theorem c_r48around {v wide : Int} (hv : -4611686018427387904 ≤ v ∧ v ≤ 4611686018427387904) (hw : 0 ≤ wide ∧ wide ≤ 1073741824) : CallZ Tryz.prog 48 #[iv v, iv wide] w (fun u w' => u = .agg #[iv (arR wide v).lo, iv (arR wide v).hi] ∧ Ext w w') := by
  refine fn_rule (args := [iv v, iv wide]) Tryz.func48 (by kernel_rfl) ?_
  refine alloc (fun b w1 h1 => ?_)
  refine arI (by omega) ?_
  refine arI (by omega) ?_
  refine bld [iv (max 0 (v - wide)), iv (min 1073741824 (v + wide))] (by kernel_rfl) ?_
  refine stA (vs := [iv (max 0 (v - wide)), iv (min 1073741824 (v + wide))]) h1.blk rfl (Nat.le_of_ble_eq_true rfl) (by simp [Value.oneCell']) (fun w2 b2 k2 z2 => ?_)
  have a1 := h1.at_
  refine ret ?_
  refine resL _ (holds_agg (CellsAt.blk (show Blk w2 b _ [iv (max 0 (v - wide)), iv (min 1073741824 (v + wide))] from b2)) rfl) ?_
  exact ⟨rfl, h1.ext.then k2 fun i hi _ => by omega⟩
variable {A B : Option Addr} {n m c c' : Nat}
theorem c_r48sameN {xs : List Int} (h1 : SlR tInt D w A n xs) (h2 : SlR tInt D w B m xs) : CallZ Tryz.prog 50 #[.slice A n c, .slice B m c'] w (fun v w' => v = .bool true ∧ w' = w) := by
  have l1 := h1.len
  have l2 := h2.len
  have le := h1.le
  refine fn_rule (args := [.slice A n c, .slice B m c']) Tryz.func50 (by kernel_rfl) ?_
  refine len ?_
  refine len ?_
  refine cN (fun h => absurd (by omega) h) (fun _ => ?_)
  refine loop_rule (fun k : Nat => [(5, iv (k : Int))]) (fun k u => k ≤ n ∧ w = u) (fun k _ => n - k) 0 ⟨rfl, trivial⟩ ⟨by omega, rfl⟩ rfl ?_
  rintro G k u ⟨hk, rfl⟩
  refine len ?_
  refine cD (fun hlt => ?_) (fun hge => ?_)
  · have hlt : k < n := by omega
    obtain ⟨b, o, cs, y, rfl, hy, -, -, hc, rfl, -⟩ := h1.at_ hlt
    obtain ⟨b', o', cs', y', rfl, hy', -, -, hc', rfl, -⟩ := h2.at_ (show k < m by omega)
    obtain rfl : y = y' := by rw [hy] at hy'; injection hy'
    refine drawQ mx (by kernel_rfl) ?_
    refine idx k rfl hlt ?_
    refine ld (iv y) (hc 0 _ rfl) ?_
    refine idx k rfl (by omega) ?_
    refine ld (iv y) (hc' 0 _ rfl) ?_
    refine cN (fun h => absurd rfl h) (fun _ => ?_)
    refine arI (by omega) ?_
    exact next (k + 1) ⟨by rw [Int.natCast_add]; rfl, trivial⟩ ⟨by omega, rfl⟩ (by omega)
  · exact ret1 (.bool true) rfl ⟨rfl, rfl⟩
theorem c_r48sameR {xs : List Rg} (h1 : SlR tRg D w A n xs) (h2 : SlR tRg D w B m xs) : CallZ Tryz.prog 49 #[.slice A n c, .slice B m c'] w (fun v w' => v = .bool true ∧ w' = w) := by
  have l1 := h1.len
  have l2 := h2.len
  have le := h1.le
  refine fn_rule (args := [.slice A n c, .slice B m c']) Tryz.func49 (by kernel_rfl) ?_
  refine len ?_
  refine len ?_
  refine cN (fun h => absurd (by omega) h) (fun _ => ?_)
  refine loop_rule (fun k : Nat => [(5, iv (k : Int))]) (fun k u => k ≤ n ∧ w = u) (fun k _ => n - k) 0 ⟨rfl, trivial⟩ ⟨by omega, rfl⟩ rfl ?_
  rintro G k u ⟨hk, rfl⟩
  refine len ?_
  refine cD (fun hlt => ?_) (fun hge => ?_)
  · have hlt : k < n := by omega
    obtain ⟨b, o, cs, y, rfl, hy, -, -, hc, rfl⟩ := h1.at_ hlt
    obtain ⟨b', o', cs', y', rfl, hy', -, -, hc', rfl⟩ := h2.at_ (show k < m by omega)
    obtain rfl : y = y' := by rw [hy] at hy'; injection hy'
    refine drawQ mx (by kernel_rfl) ?_
    refine idx k rfl hlt ?_
    refine ldA y.c hc rfl ?_
    refine idx k rfl (by omega) ?_
    refine ldA y.c hc' rfl ?_
    refine neS ((y.lo == y.lo) && ((y.hi == y.hi) && true)) (by kernel_rfl) (fun h => by simp at h) (fun _ => ?_)
    refine arI (by omega) ?_
    exact next (k + 1) ⟨by rw [Int.natCast_add]; rfl, trivial⟩ ⟨by omega, rfl⟩ (by omega)
  · exact ret1 (.bool true) rfl ⟨rfl, rfl⟩
theorem c_r48sameW {cw cv : List Value} {x : Wv} (h1 : tWv.rep D w cw x) (h2 : tWv.rep D w cv x) : CallZ Tryz.prog 21 #[.agg cw.toArray, .agg cv.toArray] w (fun v w' => v = .bool true ∧ Ext w w') := by
  obtain ⟨H1, h1', k1, O1, o1, k2, T1, t1, k3, rfl, hi64, sh, so, st⟩ := wv_open h1
  obtain ⟨J1, j1, q1, P1, p1, q2, U1, u1, q3, rfl, -, rh, ro, rt⟩ := wv_open h2
  refine fn_rule (args := [.agg #[iv x.hour, .slice H1 h1' k1, .slice O1 o1 k2, .slice T1 t1 k3], .agg #[iv x.hour, .slice J1 j1 q1, .slice P1 p1 q2, .slice U1 u1 q3]]) Tryz.func21 (by kernel_rfl) ?_
  refine box (fun b1 w1 g1 => ?_)
  refine box (fun b2 w2 g2 => ?_)
  have x2 := g1.ext.trans g2.ext
  have B1 : Blk w2 b1 59 [iv x.hour, .slice H1 h1' k1, .slice O1 o1 k2, .slice T1 t1 k3] := g1.blk.ext g2.ext
  have B2 : Blk w2 b2 59 [iv x.hour, .slice J1 j1 q1, .slice P1 p1 q2, .slice U1 u1 q3] := g2.blk
  refine fldA ?_
  refine ld (iv x.hour) (B1.cell rfl) ?_
  refine fldA ?_
  refine ld (iv x.hour) (B2.cell rfl) ?_
  refine cE (fun _ => ?_) (fun h => absurd rfl h)
  refine fldA ?_
  refine ld _ (B1.cell rfl) ?_
  refine fldA ?_
  refine ld _ (B2.cell rfl) ?_
  refine callB (c_r48sameR (sh.ext x2) (rh.ext x2)) (fun _ => ?_) (fun h => by cases h)
  refine fldA ?_
  refine ld _ (B1.cell rfl) ?_
  refine fldA ?_
  refine ld _ (B2.cell rfl) ?_
  refine callB (c_r48sameR (so.ext x2) (ro.ext x2)) (fun _ => ?_) (fun h => by cases h)
  refine fldA ?_
  refine ld _ (B1.cell rfl) ?_
  refine fldA ?_
  refine ld _ (B2.cell rfl) ?_
  refine callB (c_r48sameR (st.ext x2) (rt.ext x2)) (fun _ => ?_) (fun h => by cases h)
  exact ret1 (.bool true) rfl ⟨rfl, x2⟩
theorem c_r48sameT {cw cv : List Value} {x : Tru} (h1 : tTru.rep D w cw x) (h2 : tTru.rep D w cv x) : CallZ Tryz.prog 22 #[.agg cw.toArray, .agg cv.toArray] w (fun v w' => v = .bool true ∧ Ext w w') := by
  obtain ⟨P1, p1, r1, P2, p2, r2, P3, p3, r3, P4, p4, r4, P5, p5, r5, rfl, a1, a2, a3, a4, a5⟩ := tru_open h1
  obtain ⟨Q1, q1, s1, Q2, q2, s2, Q3, q3, s3, Q4, q4, s4, Q5, q5, s5, rfl, b1, b2, b3, b4, b5⟩ := tru_open h2
  refine fn_rule (args := [.agg #[.slice P1 p1 r1, .slice P2 p2 r2, .slice P3 p3 r3, .slice P4 p4 r4, .slice P5 p5 r5], .agg #[.slice Q1 q1 s1, .slice Q2 q2 s2, .slice Q3 q3 s3, .slice Q4 q4 s4, .slice Q5 q5 s5]]) Tryz.func22 (by kernel_rfl) ?_
  refine box (fun e1 w1 g1 => ?_)
  refine box (fun e2 w2 g2 => ?_)
  have x2 := g1.ext.trans g2.ext
  have B1 : Blk w2 e1 61 [.slice P1 p1 r1, .slice P2 p2 r2, .slice P3 p3 r3, .slice P4 p4 r4, .slice P5 p5 r5] := g1.blk.ext g2.ext
  have B2 : Blk w2 e2 61 [.slice Q1 q1 s1, .slice Q2 q2 s2, .slice Q3 q3 s3, .slice Q4 q4 s4, .slice Q5 q5 s5] := g2.blk
  refine fldA ?_
  refine ld _ (B1.cell rfl) ?_
  refine fldA ?_
  refine ld _ (B2.cell rfl) ?_
  refine callB (c_r48sameN (a1.ext x2) (b1.ext x2)) (fun _ => ?_) (fun h => by cases h)
  refine fldA ?_
  refine ld _ (B1.cell rfl) ?_
  refine fldA ?_
  refine ld _ (B2.cell rfl) ?_
  refine callB (c_r48sameN (a2.ext x2) (b2.ext x2)) (fun _ => ?_) (fun h => by cases h)
  refine fldA ?_
  refine ld _ (B1.cell rfl) ?_
  refine fldA ?_
  refine ld _ (B2.cell rfl) ?_
  refine callB (c_r48sameN (a3.ext x2) (b3.ext x2)) (fun _ => ?_) (fun h => by cases h)
  refine fldA ?_
  refine ld _ (B1.cell rfl) ?_
  refine fldA ?_
  refine ld _ (B2.cell rfl) ?_
  refine callB (c_r48sameN (a4.ext x2) (b4.ext x2)) (fun _ => ?_) (fun h => by cases h)
  refine fldA ?_
  refine ld _ (B1.cell rfl) ?_
  refine fldA ?_
  refine ld _ (B2.cell rfl) ?_
  refine callB (c_r48sameN (a5.ext x2) (b5.ext x2)) (fun _ => ?_) (fun h => by cases h)
  exact ret1 (.bool true) rfl ⟨rfl, x2⟩
end
end Go.Proofs.YtffdjecdcbbfaaaGreat
