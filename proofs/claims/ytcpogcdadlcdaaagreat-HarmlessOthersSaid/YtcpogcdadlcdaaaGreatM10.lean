/- Parts of the proof: Dc Dd De Df Dh Dl Dm J1 J2. -/
import Derived.Test.YtcpogcdadlcdaaaGreatM9
import Derived.Test.YtcpogcdadlcdaaaGreatM8
import Derived.Test.YtcpogcdadlcdaaaGreatM4
import Derived.Test.YtcpogcdadlcdaaaGreatM7
import Derived.Laws.Cover3

/- Layer 41: contract of Divide. (Printed by gen_XDc.py.) -/
namespace Go.Proofs.YtcpogcdadlcdaaaGreat
open Go Go.RowKit

abbrev mks (l : List Mk) : List Value := l.flatMap encM
theorem mks_app {a b : List Mk} : mks (a ++ b) = mks a ++ mks b := List.flatMap_append
theorem mks_len : ∀ {a : List Mk}, (mks a).length = a.length * 4
  | [] => rfl
  | x :: a => by show (encM x ++ mks a).length = (a.length + 1) * 4; rw [List.length_append, mks_len]; show 4 + _ = _; omega
theorem mks_take : ∀ (l : List Mk) (i : Nat), (mks l).take (i * 4) = mks (l.take i)
  | [], i => by simp [mks]
  | x :: l, 0 => by simp [mks]
  | x :: l, i + 1 => by
    show (encM x ++ mks l).take ((i + 1) * 4) = encM x ++ mks (l.take i)
    rw [show (i + 1) * 4 = (encM x).length + i * 4 by show _ = 4 + _; omega, List.take_length_add_append, mks_take l i]
theorem mks_drop : ∀ (l : List Mk) (i : Nat), (mks l).drop (i * 4) = mks (l.drop i)
  | [], i => by simp [mks]
  | x :: l, 0 => by simp [mks]
  | x :: l, i + 1 => by
    show (encM x ++ mks l).drop ((i + 1) * 4) = mks (l.drop i)
    rw [show (i + 1) * 4 = (encM x).length + i * 4 by show _ = 4 + _; omega, List.drop_length_add_append, mks_drop l i]
theorem mks_set {l : List Mk} {i : Nat} {m : Mk} (h : i < l.length) : (mks l).take (i * 4) ++ encM m ++ (mks l).drop (i * 4 + 4) = mks (l.set i m) := by
  rw [mks_take, show i * 4 + 4 = (i + 1) * 4 by omega, mks_drop, List.set_eq_take_append_cons_drop, if_pos h, mks_app, List.append_assoc]; rfl
theorem zI {n : Nat} : ivs (List.replicate n 0) = (List.replicate n (cellsL (iv 0))).flatten := by
  unfold ivs
  rw [List.map_replicate]
  show List.replicate n (iv 0) = (List.replicate n [iv 0]).flatten
  rw [List.flatten_replicate_singleton]
theorem zM : ∀ {n : Nat}, mks (List.replicate n Mk.none) = (List.replicate n (cellsL (.agg #[.bool false, iv 0, iv 0, iv 0]))).flatten
  | 0 => rfl
  | n + 1 => by
    rw [List.replicate_succ, List.replicate_succ, List.flatten_cons, ← zM]; rfl
def dvErr (d : Dist) (cl : List Int) (E : Int) : Int := if openErr d cl ≠ 0 then openErr d cl else if 0 ≤ E ∧ E ≤ 1099511627776 then 0 else 1
section
variable {D : Nat → Prop} {w : World}
theorem c_denter {d : Dist} {A1 A2 A3 A4 A5 A6 G M : Option Addr} {n1 c1 n2 c2 n3 c3 n4 c4 n5 c5 n6 c6 b3 b6 bh r nh ch ng cg nm cm : Nat} {n : Int} {hd : List Int} (hr : SlR tReach D w A1 n1 d.reaches) (h3 : Blk w b3 31 [.string d.name, iv d.hours, iv d.cap, iv d.start, .slice A1 n1 c1, .slice A2 n2 c2, .slice A3 n3 c3, .slice A4 n4 c4, .slice A5 n5 c5, .slice A6 n6 c6]) (h6 : Blk w b6 79 [.slice (some (ad bh 0)) nh ch, .slice G ng cg, .slice M nm cm]) (hb : Blk w bh 3 (ivs hd)) (hl : hd.length = nh) (hrn : r < n1) (hrh : r < nh) :
    CallZ Tryz.prog 53 #[iv (r : Int), iv n, ptr b3, ptr b6] w (fun v w' => v = .tuple #[] ∧ Blk w' bh 3 (ivs (hd.set r (cut d r n))) ∧ Kept (fun b => b ≠ bh) w w') := by
  refine fn_rule (args := [iv (r : Int), iv n, ptr b3, ptr b6]) Tryz.func53 (by kernel_rfl) ?_
  obtain ⟨bb, o, cs, x, rfl, hx, -, -, hc, rfl⟩ := hr.at_ hrn
  have hrc := rcC_at hx
  refine fldA ?_
  refine ld (.slice (some (ad bb o)) n1 c1) (h3.cell rfl) ?_
  refine idx r rfl hrn ?_
  refine fldA ?_
  refine ld (iv x.siphon) (hc 5 _ rfl) ?_
  refine cD (fun g => ?_) (fun g => ?_)
  · have e : cut d r n = 0 := by unfold cut; rw [hrc, if_pos g]
    refine fldA ?_
    refine ld (.slice (some (ad bh 0)) nh ch) (h6.cell rfl) ?_
    refine idx r rfl hrh ?_
    refine st (v := iv 0) hb (by simp; omega) rfl (fun u2 B2 k2 z2 => ?_)
    refine ret0 ⟨rfl, ?_, k2⟩
    rw [e, ← ivs_set]
    simpa using B2
  · have e : cut d r n = n := by unfold cut; rw [hrc, if_neg g]
    refine fldA ?_
    refine ld (.slice (some (ad bh 0)) nh ch) (h6.cell rfl) ?_
    refine idx r rfl hrh ?_
    refine st (v := iv n) hb (by simp; omega) rfl (fun u2 B2 k2 z2 => ?_)
    refine ret0 ⟨rfl, ?_, k2⟩
    rw [e, ← ivs_set]
    simpa using B2
set_option maxRecDepth 8000 in
set_option maxHeartbeats 1000000 in
theorem c_dDivide {csd : List Value} {d : Dist} {cl : List Int} {A : Option Addr} {n c : Nat} {E : Int} (hd : DiR D w csd d) (hl : SlR tInt D w A n cl) : CallZ Tryz.prog 31 #[.agg csd.toArray, .slice A n c, iv E] w (fun v w' => Ext w w' ∧ ((dvErr d cl E ≠ 0 ∧ v = .tuple #[.agg #[.slice none 0 0, .slice none 0 0, .slice none 0 0], iv (dvErr d cl E)]) ∨
    (dvErr d cl E = 0 ∧ ∃ hs H G M bh ba bm, needsV d cl = some hs ∧ Rdy d cl hs ∧ DivV d cl hs E H G M ∧ OkL H ∧ OkL G ∧ v = .tuple #[.agg #[.slice (some (ad bh 0)) d.reaches.length d.reaches.length, .slice (some (ad ba 0)) d.farms.length d.farms.length, .slice (some (ad bm 0)) d.reaches.length d.reaches.length], iv 0] ∧
      Blk w' bh 3 (ivs H) ∧ Blk w' ba 3 (ivs G) ∧ Blk w' bm 122 (mks M) ∧ w.heap.size ≤ bh ∧ w.heap.size ≤ ba ∧ w.heap.size ≤ bm))) := by
  have hd0 := hd
  obtain ⟨A1, n1, c1, A2, n2, c2, A3, n3, c3, A4, n4, c4, A5, n5, c5, A6, n6, c6, rfl, hr, hf, -⟩ := hd.ex
  have lr := hr.len
  have lf := hf.len
  have ll := hl.len
  refine fn_rule (args := [.agg #[.string d.name, iv d.hours, iv d.cap, iv d.start, .slice A1 n1 c1, .slice A2 n2 c2, .slice A3 n3 c3, .slice A4 n4 c4, .slice A5 n5 c5, .slice A6 n6 c6], .slice A n c, iv E]) Tryz.func31 (by kernel_rfl) ?_
  refine box (fun b3 w1 h1 => ?_)
  refine box (fun b4 w2 h2 => ?_)
  refine alloc (fun b6 w3 h3 => ?_)
  have e1 := h1.at_
  have e2 := h2.at_
  have e3 := h3.at_
  have s1 := h1.size
  have s2 := h2.size
  have s3 := h3.size
  have x3 := (h1.ext.trans h2.ext).trans h3.ext
  have B3 : Blk w3 b3 31 [.string d.name, iv d.hours, iv d.cap, iv d.start, .slice A1 n1 c1, .slice A2 n2 c2, .slice A3 n3 c3, .slice A4 n4 c4, .slice A5 n5 c5, .slice A6 n6 c6] := h1.blk.ext (h2.ext.trans h3.ext)
  have B4 : Blk w3 b4 32 [.slice A n c] := h2.blk.ext h3.ext
  have B6 : Blk w3 b6 79 [.slice none 0 0, .slice none 0 0, .slice none 0 0] := h3.blk
  refine ldA [.string d.name, iv d.hours, iv d.cap, iv d.start, .slice A1 n1 c1, .slice A2 n2 c2, .slice A3 n3 c3, .slice A4 n4 c4, .slice A5 n5 c5, .slice A6 n6 c6] (.blk B3) rfl ?_
  refine ld (.slice A n c) (B4.cell rfl) ?_
  refine call_of (c_dopen (hd0.ext x3) (hr.ext x3) (hf.ext x3) (hl.ext x3)) ?_
  rintro _ w4 ⟨x4, ⟨g, ts, ht1, ht2, rfl⟩ | ⟨g, hs, bs, gm, hne, rfl, hbs, Bs, T⟩⟩
  · refine alloc (fun b8 v1 h4 => ?_)
    refine alloc (fun b9 v2 h5 => ?_)
    refine stA (vs := ts) (h4.blk.ext h5.ext) ht1 (by rw [ht1]; exact Nat.le_of_ble_eq_true rfl) (fun u hu => List.all_eq_true.1 ht2 u hu) (fun v3 C3 k3 z3 => ?_)
    have f4 := h4.at_
    have f5 := h5.at_
    have g4 := h4.size
    have g5 := h5.size
    have z4 := x4.size
    have z03 := x3.size
    refine st1 (h5.blk.kept k3 (by omega)) rfl (fun v4 C4 k4 => ?_)
    have xv : Ext w3 v4 := (((x4.trans h4.ext).trans h5.ext).then k3 fun b hb _ e => by omega).then k4 fun b hb _ e => by omega
    have eo : dvErr d cl E = openErr d cl := by unfold dvErr; rw [if_pos g]
    refine cN (fun g' => ?_) (fun g' => absurd g' g)
    have B6 := B6.ext xv
    refine ldA [.slice none 0 0, .slice none 0 0, .slice none 0 0] (.blk B6) rfl ?_
    refine stA (vs := [.slice none 0 0, .slice none 0 0, .slice none 0 0]) B6 rfl (Nat.le_of_ble_eq_true rfl) (by simp [Value.oneCell']) (fun v5 C5 k5 z5 => ?_)
    have C5 : Blk v5 b6 79 [.slice none 0 0, .slice none 0 0, .slice none 0 0] := C5
    refine ret ?_
    refine resL _ (holds_agg (CellsAt.blk C5) rfl) ?_
    have z34 := xv.size
    exact ⟨(x3.trans xv).then k5 fun b hb _ e => by omega, .inl ⟨by rw [eo]; exact g, by rw [eo]; rfl⟩⟩
  have eo : dvErr d cl E = if 0 ≤ E ∧ E ≤ 1099511627776 then 0 else 1 := by unfold dvErr; rw [if_neg (fun h => h g)]
  obtain ⟨g0, -⟩ := openErr_ok.1 g
  have R := rdy_of g0 hne
  have hvn := R.v.n
  have hvf := R.v.f
  have z4 := x4.size
  have z03 := x3.size
  have lbs := Bs.lt
  have x04 := x3.trans x4
  have z04 := x04.size
  have hr4 : SlR tReach (fun b => b < w4.heap.size ∧ b ≠ b6) w4 A1 n1 d.reaches := ((hr.more (D' := fun b => b < w.heap.size) (by decide) fun b hb _ => hb).ext x04).more (by decide) fun b hb h => ⟨hb, by omega⟩
  have hl4 : SlR tInt (fun b => b < w4.heap.size ∧ b ≠ b6) w4 A n cl := ((hl.more (D' := fun b => b < w.heap.size) (by decide) fun b hb _ => hb).ext x04).more (by decide) fun b hb h => ⟨hb, by omega⟩
  have T4 : TreR (fun b => b < w4.heap.size ∧ b ≠ b6) w4 gm d := ⟨⟨T.ex.elim fun m hm => hm.1.lt, by have := T.own; omega⟩, T.ex.imp fun m hm => ⟨hm.1, fun r => by obtain ⟨A, n, c, e, hs, hc⟩ := hm.2 r; exact ⟨A, n, c, e, hs.more (by decide) fun b hb h => ⟨hb, by omega⟩, hc⟩⟩⟩
  refine alloc (fun b8 v1 h4 => ?_)
  refine alloc (fun b9 v2 h5 => ?_)
  refine stA (vs := [.string d.name, iv d.hours, iv d.cap, iv d.start, .slice A1 n1 c1, .slice A2 n2 c2, .slice A3 n3 c3, .slice A4 n4 c4, .slice A5 n5 c5, .slice A6 n6 c6, .map (some gm)]) (h4.blk.ext h5.ext) rfl (Nat.le_of_ble_eq_true rfl) (by simp [Value.oneCell']) (fun v3 B8 k3 z3 => ?_)
  have B8 : Blk v3 b8 104 [.string d.name, iv d.hours, iv d.cap, iv d.start, .slice A1 n1 c1, .slice A2 n2 c2, .slice A3 n3 c3, .slice A4 n4 c4, .slice A5 n5 c5, .slice A6 n6 c6, .map (some gm)] := B8
  have f4 := h4.at_
  have f5 := h5.at_
  have g4 := h4.size
  have g5 := h5.size
  refine st1 (h5.blk.kept k3 (by omega)) rfl (fun w5 B9 k4 => ?_)
  have g6 := k4.size
  have B8 := B8.kept k4 (by omega)
  have x45 : Ext w4 w5 := ((h4.ext.trans h5.ext).then k3 fun b hb _ e => by omega).then k4 fun b hb _ e => by omega
  have B3 := (B3.ext x4).ext x45
  have B4 := (B4.ext x4).ext x45
  have B6 := (B6.ext x4).ext x45
  have hr5 := hr4.ext x45
  have hl5 := hl4.ext x45
  have T5 := T4.ext x45
  have Bs := Bs.ext x45
  have x05 := x04.trans x45
  refine cN (fun g' => absurd rfl g') (fun _ => ?_)
  have bad : ¬ (0 ≤ E ∧ E ≤ 1099511627776) → dvErr d cl E = 1 := fun h => by rw [eo, if_neg h]
  refine cD (fun gE => ?_) (fun gE => ?_)
  · refine ldA [.slice none 0 0, .slice none 0 0, .slice none 0 0] (.blk B6) rfl ?_
    refine stA (vs := [.slice none 0 0, .slice none 0 0, .slice none 0 0]) B6 rfl (Nat.le_of_ble_eq_true rfl) (by simp [Value.oneCell']) (fun v5 C5 k5 z5 => ?_)
    have C5 : Blk v5 b6 79 [.slice none 0 0, .slice none 0 0, .slice none 0 0] := C5
    refine ret ?_
    refine resL _ (holds_agg (CellsAt.blk C5) rfl) ?_
    exact ⟨x05.then k5 fun b hb _ e => by omega, .inl ⟨by rw [bad (by omega)]; decide, by rw [bad (by omega)]; rfl⟩⟩
  refine cD (fun gF => ?_) (fun gF => ?_)
  · refine ldA [.slice none 0 0, .slice none 0 0, .slice none 0 0] (.blk B6) rfl ?_
    refine stA (vs := [.slice none 0 0, .slice none 0 0, .slice none 0 0]) B6 rfl (Nat.le_of_ble_eq_true rfl) (by simp [Value.oneCell']) (fun v5 C5 k5 z5 => ?_)
    have C5 : Blk v5 b6 79 [.slice none 0 0, .slice none 0 0, .slice none 0 0] := C5
    refine ret ?_
    refine resL _ (holds_agg (CellsAt.blk C5) rfl) ?_
    exact ⟨x05.then k5 fun b hb _ e => by omega, .inl ⟨by rw [bad (by omega)]; decide, by rw [bad (by omega)]; rfl⟩⟩
  have hE : 0 ≤ E ∧ E ≤ 1099511627776 := by omega
  have eo : dvErr d cl E = 0 := by rw [eo, if_pos hE]
  have lb6 := B6.lt
  -- the three lists
  refine draw_w (fun u => Kept (fun b => b ≠ b6) w5 u ∧ ∃ bh ba bm, Blk u b6 79 [.slice (some (ad bh 0)) n1 n1, .slice (some (ad ba 0)) n2 n2, .slice (some (ad bm 0)) n1 n1] ∧ Blk u bh 3 (ivs (List.replicate n1 0)) ∧ Blk u ba 3 (ivs (List.replicate n2 0)) ∧ Blk u bm 122 (mks (List.replicate n1 Mk.none)) ∧ (w5.heap.size ≤ bh ∧ w5.heap.size ≤ ba ∧ w5.heap.size ≤ bm) ∧ bh ≠ ba ∧ bh ≠ bm ∧ ba ≠ bm) ?_ ?_
  · refine drawP (.take 0 (.take 1 (.take 2 (.take 4 (.take 5 (.take 6 (.take 8 (.take 9 (.take 10 (.alt 3 (.alt 7 (.eff 11 (.take 12 (.eff 13 .done))) (.eff 11 (.eff 7 (.take 12 (.eff 13 .done))))) (.alt 7 (.alt 3 (.eff 11 (.take 12 (.eff 13 .done))) (.eff 11 (.eff 3 (.take 12 (.eff 13 .done))))) (.eff 11 (.alt 3 (.eff 7 (.take 12 (.eff 13 .done))) (.eff 7 (.eff 3 (.take 12 (.eff 13 .done))))))))))))))))) [] (fun u => Kept (fun b => b ≠ b6) w5 u) mx (by kernel_rfl) (.refl _ _) ?_
    refine fldA ?_
    refine ldS (.slice A1 n1 c1) (fun u hu => hu.cell (B3.cell rfl) (show b3 ≠ b6 by omega)) ?_
    refine len ?_
    refine fldA ?_
    refine ldS (.slice A2 n2 c2) (fun u hu => hu.cell (B3.cell rfl) (show b3 ≠ b6 by omega)) ?_
    refine len ?_
    refine fldA ?_
    refine ldS (.slice A1 n1 c1) (fun u hu => hu.cell (B3.cell rfl) (show b3 ≠ b6 by omega)) ?_
    refine len ?_
    refine ⟨?_, ?_⟩
    · refine mslc (sz := 1) (zv := iv 0) n1 rfl rfl (by omega) (by omega) rfl (by decide) (fun bh u1 i1 => ?_)
      refine strS (Ext.any i1.ext) ?_
      refine ⟨?_, ?_⟩
      · refine mslc (sz := 1) (zv := iv 0) n2 rfl rfl (by omega) (by omega) rfl (by decide) (fun ba u2 i2 => ?_)
        refine strS (Ext.any (i1.ext.trans i2.ext)) ?_
        refine mslc (sz := 4) (zv := .agg #[.bool false, iv 0, iv 0, iv 0]) n1 rfl rfl (by omega) (by omega) rfl (by decide) (fun bm u3 i3 => ?_)
        refine strS (Ext.any ((i1.ext.trans i2.ext).trans i3.ext)) ?_
        have xx := ((i1.ext.trans i2.ext).trans i3.ext)
        have z0 := xx.size
        have y1 := i1.at_
        have q1 := i1.size
        have y2 := i2.at_
        have q2 := i2.size
        have y3 := i3.at_
        have q3 := i3.size
        refine bld [.slice (some (ad bh 0)) n1 n1, .slice (some (ad ba 0)) n2 n2, .slice (some (ad bm 0)) n1 n1] (by kernel_rfl) ?_
        refine stA (vs := [.slice (some (ad bh 0)) n1 n1, .slice (some (ad ba 0)) n2 n2, .slice (some (ad bm 0)) n1 n1]) (B6.ext xx) rfl (Nat.le_of_ble_eq_true rfl) (by simp [Value.oneCell']) (fun u4 b4 k4 z4 => ?_)
        have kk : Kept (fun b => b ≠ b6) w5 u4 := (Ext.any xx).trans k4
        refine strS kk ?_
        exact ⟨kk, bh, ba, bm, b4, by rw [zI]; exact (((i1.blk.ext i2.ext).ext i3.ext).kept k4 (by omega)), by rw [zI]; exact ((i2.blk.ext i3.ext).kept k4 (by omega)), by rw [zM]; exact (i3.blk.kept k4 (by omega)), ⟨by omega, by omega, by omega⟩, by omega, by omega, by omega⟩
      · refine mslc (sz := 4) (zv := .agg #[.bool false, iv 0, iv 0, iv 0]) n1 rfl rfl (by omega) (by omega) rfl (by decide) (fun bm u2 i2 => ?_)
        refine strS (Ext.any (i1.ext.trans i2.ext)) ?_
        refine mslc (sz := 1) (zv := iv 0) n2 rfl rfl (by omega) (by omega) rfl (by decide) (fun ba u3 i3 => ?_)
        refine strS (Ext.any ((i1.ext.trans i2.ext).trans i3.ext)) ?_
        have xx := ((i1.ext.trans i2.ext).trans i3.ext)
        have z0 := xx.size
        have y1 := i1.at_
        have q1 := i1.size
        have y2 := i2.at_
        have q2 := i2.size
        have y3 := i3.at_
        have q3 := i3.size
        refine bld [.slice (some (ad bh 0)) n1 n1, .slice (some (ad ba 0)) n2 n2, .slice (some (ad bm 0)) n1 n1] (by kernel_rfl) ?_
        refine stA (vs := [.slice (some (ad bh 0)) n1 n1, .slice (some (ad ba 0)) n2 n2, .slice (some (ad bm 0)) n1 n1]) (B6.ext xx) rfl (Nat.le_of_ble_eq_true rfl) (by simp [Value.oneCell']) (fun u4 b4 k4 z4 => ?_)
        have kk : Kept (fun b => b ≠ b6) w5 u4 := (Ext.any xx).trans k4
        refine strS kk ?_
        exact ⟨kk, bh, ba, bm, b4, by rw [zI]; exact (((i1.blk.ext i2.ext).ext i3.ext).kept k4 (by omega)), by rw [zI]; exact (i3.blk.kept k4 (by omega)), by rw [zM]; exact ((i2.blk.ext i3.ext).kept k4 (by omega)), ⟨by omega, by omega, by omega⟩, by omega, by omega, by omega⟩
    · refine ⟨?_, ?_⟩
      · refine mslc (sz := 1) (zv := iv 0) n2 rfl rfl (by omega) (by omega) rfl (by decide) (fun ba u1 i1 => ?_)
        refine strS (Ext.any i1.ext) ?_
        refine ⟨?_, ?_⟩
        · refine mslc (sz := 1) (zv := iv 0) n1 rfl rfl (by omega) (by omega) rfl (by decide) (fun bh u2 i2 => ?_)
          refine strS (Ext.any (i1.ext.trans i2.ext)) ?_
          refine mslc (sz := 4) (zv := .agg #[.bool false, iv 0, iv 0, iv 0]) n1 rfl rfl (by omega) (by omega) rfl (by decide) (fun bm u3 i3 => ?_)
          refine strS (Ext.any ((i1.ext.trans i2.ext).trans i3.ext)) ?_
          have xx := ((i1.ext.trans i2.ext).trans i3.ext)
          have z0 := xx.size
          have y1 := i1.at_
          have q1 := i1.size
          have y2 := i2.at_
          have q2 := i2.size
          have y3 := i3.at_
          have q3 := i3.size
          refine bld [.slice (some (ad bh 0)) n1 n1, .slice (some (ad ba 0)) n2 n2, .slice (some (ad bm 0)) n1 n1] (by kernel_rfl) ?_
          refine stA (vs := [.slice (some (ad bh 0)) n1 n1, .slice (some (ad ba 0)) n2 n2, .slice (some (ad bm 0)) n1 n1]) (B6.ext xx) rfl (Nat.le_of_ble_eq_true rfl) (by simp [Value.oneCell']) (fun u4 b4 k4 z4 => ?_)
          have kk : Kept (fun b => b ≠ b6) w5 u4 := (Ext.any xx).trans k4
          refine strS kk ?_
          exact ⟨kk, bh, ba, bm, b4, by rw [zI]; exact ((i2.blk.ext i3.ext).kept k4 (by omega)), by rw [zI]; exact (((i1.blk.ext i2.ext).ext i3.ext).kept k4 (by omega)), by rw [zM]; exact (i3.blk.kept k4 (by omega)), ⟨by omega, by omega, by omega⟩, by omega, by omega, by omega⟩
        · refine mslc (sz := 4) (zv := .agg #[.bool false, iv 0, iv 0, iv 0]) n1 rfl rfl (by omega) (by omega) rfl (by decide) (fun bm u2 i2 => ?_)
          refine strS (Ext.any (i1.ext.trans i2.ext)) ?_
          refine mslc (sz := 1) (zv := iv 0) n1 rfl rfl (by omega) (by omega) rfl (by decide) (fun bh u3 i3 => ?_)
          refine strS (Ext.any ((i1.ext.trans i2.ext).trans i3.ext)) ?_
          have xx := ((i1.ext.trans i2.ext).trans i3.ext)
          have z0 := xx.size
          have y1 := i1.at_
          have q1 := i1.size
          have y2 := i2.at_
          have q2 := i2.size
          have y3 := i3.at_
          have q3 := i3.size
          refine bld [.slice (some (ad bh 0)) n1 n1, .slice (some (ad ba 0)) n2 n2, .slice (some (ad bm 0)) n1 n1] (by kernel_rfl) ?_
          refine stA (vs := [.slice (some (ad bh 0)) n1 n1, .slice (some (ad ba 0)) n2 n2, .slice (some (ad bm 0)) n1 n1]) (B6.ext xx) rfl (Nat.le_of_ble_eq_true rfl) (by simp [Value.oneCell']) (fun u4 b4 k4 z4 => ?_)
          have kk : Kept (fun b => b ≠ b6) w5 u4 := (Ext.any xx).trans k4
          refine strS kk ?_
          exact ⟨kk, bh, ba, bm, b4, by rw [zI]; exact (i3.blk.kept k4 (by omega)), by rw [zI]; exact (((i1.blk.ext i2.ext).ext i3.ext).kept k4 (by omega)), by rw [zM]; exact ((i2.blk.ext i3.ext).kept k4 (by omega)), ⟨by omega, by omega, by omega⟩, by omega, by omega, by omega⟩
      · refine mslc (sz := 4) (zv := .agg #[.bool false, iv 0, iv 0, iv 0]) n1 rfl rfl (by omega) (by omega) rfl (by decide) (fun bm u1 i1 => ?_)
        refine strS (Ext.any i1.ext) ?_
        refine ⟨?_, ?_⟩
        · refine mslc (sz := 1) (zv := iv 0) n1 rfl rfl (by omega) (by omega) rfl (by decide) (fun bh u2 i2 => ?_)
          refine strS (Ext.any (i1.ext.trans i2.ext)) ?_
          refine mslc (sz := 1) (zv := iv 0) n2 rfl rfl (by omega) (by omega) rfl (by decide) (fun ba u3 i3 => ?_)
          refine strS (Ext.any ((i1.ext.trans i2.ext).trans i3.ext)) ?_
          have xx := ((i1.ext.trans i2.ext).trans i3.ext)
          have z0 := xx.size
          have y1 := i1.at_
          have q1 := i1.size
          have y2 := i2.at_
          have q2 := i2.size
          have y3 := i3.at_
          have q3 := i3.size
          refine bld [.slice (some (ad bh 0)) n1 n1, .slice (some (ad ba 0)) n2 n2, .slice (some (ad bm 0)) n1 n1] (by kernel_rfl) ?_
          refine stA (vs := [.slice (some (ad bh 0)) n1 n1, .slice (some (ad ba 0)) n2 n2, .slice (some (ad bm 0)) n1 n1]) (B6.ext xx) rfl (Nat.le_of_ble_eq_true rfl) (by simp [Value.oneCell']) (fun u4 b4 k4 z4 => ?_)
          have kk : Kept (fun b => b ≠ b6) w5 u4 := (Ext.any xx).trans k4
          refine strS kk ?_
          exact ⟨kk, bh, ba, bm, b4, by rw [zI]; exact ((i2.blk.ext i3.ext).kept k4 (by omega)), by rw [zI]; exact (i3.blk.kept k4 (by omega)), by rw [zM]; exact (((i1.blk.ext i2.ext).ext i3.ext).kept k4 (by omega)), ⟨by omega, by omega, by omega⟩, by omega, by omega, by omega⟩
        · refine mslc (sz := 1) (zv := iv 0) n2 rfl rfl (by omega) (by omega) rfl (by decide) (fun ba u2 i2 => ?_)
          refine strS (Ext.any (i1.ext.trans i2.ext)) ?_
          refine mslc (sz := 1) (zv := iv 0) n1 rfl rfl (by omega) (by omega) rfl (by decide) (fun bh u3 i3 => ?_)
          refine strS (Ext.any ((i1.ext.trans i2.ext).trans i3.ext)) ?_
          have xx := ((i1.ext.trans i2.ext).trans i3.ext)
          have z0 := xx.size
          have y1 := i1.at_
          have q1 := i1.size
          have y2 := i2.at_
          have q2 := i2.size
          have y3 := i3.at_
          have q3 := i3.size
          refine bld [.slice (some (ad bh 0)) n1 n1, .slice (some (ad ba 0)) n2 n2, .slice (some (ad bm 0)) n1 n1] (by kernel_rfl) ?_
          refine stA (vs := [.slice (some (ad bh 0)) n1 n1, .slice (some (ad ba 0)) n2 n2, .slice (some (ad bm 0)) n1 n1]) (B6.ext xx) rfl (Nat.le_of_ble_eq_true rfl) (by simp [Value.oneCell']) (fun u4 b4 k4 z4 => ?_)
          have kk : Kept (fun b => b ≠ b6) w5 u4 := (Ext.any xx).trans k4
          refine strS kk ?_
          exact ⟨kk, bh, ba, bm, b4, by rw [zI]; exact (i3.blk.kept k4 (by omega)), by rw [zI]; exact ((i2.blk.ext i3.ext).kept k4 (by omega)), by rw [zM]; exact (((i1.blk.ext i2.ext).ext i3.ext).kept k4 (by omega)), ⟨by omega, by omega, by omega⟩, by omega, by omega, by omega⟩
  rintro G6 w6 ⟨k56, bh, ba, bm, B6, Bh, Ba, Bm, ⟨hbh, hba, hbm⟩, nha, nhm, nam⟩
  have z56 := k56.size
  have B3 := B3.kept k56 (by omega)
  have B4 := B4.kept k56 (by omega)
  have B8 := B8.kept k56 (by omega)
  have B9 := B9.kept k56 (by omega)
  have Bs := Bs.kept k56 (by omega)
  have hr6 := hr5.kept k56 fun b _ h => by omega
  have hl6 := hl5.kept k56 fun b _ h => by omega
  have T6 := T5.kept k56 fun b _ h => by omega
  have x06 : Ext w w6 := x05.then k56 fun b hb _ e => by omega
  have lb3 := B3.lt
  have lb4 := B4.lt
  have lb8 := B8.lt
  have lb9 := B9.lt
  have lbh := Bh.lt
  have lba := Ba.lt
  have lbm := Bm.lt
  -- enter
  refine alloc (fun b10 w7 h7 => ?_)
  refine st1 h7.blk rfl (fun w8 B10 k8 => ?_)
  have f7 := h7.at_
  have g7 := h7.size
  have z8 := k8.size
  have x68 : Ext w6 w8 := h7.ext.then k8 fun b hb _ e => by omega
  have B3 := B3.ext x68
  have B4 := B4.ext x68
  have B6 := B6.ext x68
  have B8 := B8.ext x68
  have B9 := B9.ext x68
  have Bs := Bs.ext x68
  have Bh := Bh.ext x68
  have Ba := Ba.ext x68
  have Bm := Bm.ext x68
  have hr8 := hr6.ext x68
  have hl8 := hl6.ext x68
  have T8 := T6.ext x68
  have x08 := x06.trans x68
  have h0s := clA_ok R.okh 0
  refine drawP (.take 0 (.take 1 (.take 2 (.take 3 (.take 4 (.eff 5 (.eff 6 (.bar (.eff 7 .done))))))))) [7] (fun z => Ext w8 z) mx (by kernel_rfl) (.refl _ _) ?_
  have hsl : SlR tInt (fun b => b = bs) w8 (some (ad bs 0)) n1 hs := blk_ints Bs (by rw [R.lh]; omega) R.okh (by omega) rfl
  obtain ⟨bq, oq, csq, x0, hbq, hx0, -, -, hcq, rfl, -⟩ := hsl.at_ (k := 0) (by omega)
  injection hbq with hbq
  injection hbq with hq1 hq2
  subst hq1; subst hq2
  have ex0 : x0 = clA hs 0 := by rw [clA_at hx0]
  refine ldK (.func (.func 53) #[] #[ptr b3, ptr b6]) (B10.cell rfl) trivial (.refl _ _) ?_
  refine ldK (.slice (some (ad bs 0)) n1 n1) (B9.cell rfl) trivial (.refl _ _) ?_
  refine idx 0 rfl (by omega) ?_
  refine ldK (iv x0) (hcq 0 _ rfl) trivial (.refl _ _) ?_
  refine lit [iv x0] (fun gg v4 hq => ?_)
  refine strS hq.ext ?_
  refine call_of (c_dleast (n := E) (l := [x0]) (m := 1) (D := fun _ => True) (SlR.of_cells rfl (by decide) trivial (.blk hq.blk) (flat_ints fun x hx => by rw [List.mem_singleton] at hx; rw [hx]; unfold I64; omega))) ?_
  rintro _ v5 ⟨rfl, rfl⟩
  refine strS hq.ext ?_
  refine barS (fun _ => True) trivial ?_
  have em : List.foldl min E [x0] = min E (clA hs 0) := by rw [← ex0]; rfl
  rw [em]
  have xq := hq.ext
  have zq := xq.size
  refine call_of (c_denter (r := 0) (hr8.ext xq) (B3.ext xq) (B6.ext xq) (Bh.ext xq) (List.length_replicate ..) (by omega : 0 < n1) (by omega)) ?_
  rintro _ w9 ⟨rfl, Bh, k9⟩
  refine strS trivial ?_
  have z9 := k9.size
  have k89 : Kept (fun b => b ≠ bh) w8 w9 := (Ext.any xq).trans k9
  have Ba := Ba.kept k89 (by omega)
  have Bm := Bm.kept k89 (by omega)
  have B3 := B3.kept k89 (by omega)
  have B4 := B4.kept k89 (by omega)
  have B6 := B6.kept k89 (by omega)
  have B8 := B8.kept k89 (by omega)
  have B9 := B9.kept k89 (by omega)
  have B10 := (show Blk w8 b10 _ _ from B10).kept k89 (by omega)
  have Bs := Bs.kept k89 (by omega)
  have hr9 := hr8.kept k89 fun b _ h => by omega
  have hl9 := hl8.kept k89 fun b _ h => by omega
  have T9 := T8.kept k89 fun b _ h => by omega
  have x09 : Ext w w9 := x08.then k89 fun b hb _ => by omega
  have D0 := Div0.start (E := E) R hE.1
  rw [lr, lf] at D0
  -- the reaches
  refine ldA [.string d.name, iv d.hours, iv d.cap, iv d.start, .slice A1 n1 c1, .slice A2 n2 c2, .slice A3 n3 c3, .slice A4 n4 c4, .slice A5 n5 c5, .slice A6 n6 c6, .map (some gm)] (.blk B8) rfl ?_
  refine call_of (c_dreaches (d := d) (lv := false)) ?_
  rintro _ w10 ⟨bt, bl, rfl, x10, Ct, Cl, hbt, hbl⟩
  have z10 := x10.size
  have lcl := Cl.lt
  have B3 := B3.ext x10
  have B4 := B4.ext x10
  have B6 := B6.ext x10
  have B9 := B9.ext x10
  have B10 := B10.ext x10
  have Bs := Bs.ext x10
  have Bh := Bh.ext x10
  have Ba := Ba.ext x10
  have Bm := Bm.ext x10
  refine range (gf := 78) (lb := #[ptr bt, ptr bl]) rfl (fun fn tmps w11 RR hRR hF' hwf x11 z11 hD11 hl11 => ?_)
  show CallZ _ _ #[.func (.yield (w10.heap.size + 1)) #[] #[], ptr bt, ptr bl] w11 _
  have x0B : Ext w w11 := (x09.trans x10).trans x11
  have x9B := x10.trans x11
  have hrB := hr9.ext x9B
  have hlB := hl9.ext x9B
  have TB := T9.ext x9B
  have B3 := B3.ext x11
  have B4 := B4.ext x11
  have B6 := B6.ext x11
  have B9 := B9.ext x11
  have B10 := B10.ext x11
  have Bs := Bs.ext x11
  have Bh := Bh.ext x11
  have Ba := Ba.ext x11
  have Bm := Bm.ext x11
  have Ct := Ct.ext x11
  have Cl := Cl.ext x11
  refine (c_dreaches1 (Q := fun _ => False) (D := fun b => b ≠ bh ∧ b ≠ ba ∧ b ≠ bm ∧ b ≠ w10.heap.size + 1) (D' := fun b => b < w4.heap.size ∧ b ≠ b6) (fun k u => ∃ hd aw mk, Div0 d cl hs E hd aw mk k ∧ Blk u bh 3 (ivs hd) ∧ Blk u ba 3 (ivs aw) ∧ Blk u bm 122 (mks mk) ∧ LoopAt u (w10.heap.size + 1) RR)
    ⟨by omega, by omega, by omega, by omega⟩ ⟨by omega, by omega, by omega, by omega⟩ (fun b hb => ⟨by omega, by omega, by omega, by omega⟩) Ct Cl TB ⟨by omega, by omega⟩ rfl ?_ ⟨_, _, _, D0, Bh, Ba, Bm, hl11⟩).mono ?_
  · rintro i P np cp u hin ⟨hd', aw, mk, Dv, bhu, bau, bmu, lu⟩ ku sp hcp
    have hi : ixR n1 false i = i := by unfold ixR; rw [if_neg (by simp)]
    rw [hi] at sp
    rw [hi]
    have hir : i < d.reaches.length := by omega
    obtain ⟨r, hri⟩ : ∃ r, d.reaches[i]? = some r := ⟨_, List.getElem?_eq_getElem hir⟩
    have hrc := rcC_at hri
    obtain ⟨rl1, rl2, rl3⟩ := R.v.loss hir
    obtain ⟨tE, wk0, wk1, wk2⟩ := R.work (hd := hd') hir (Dv.ok i)
    have sumB := R.sum i
    have okh := Dv.ok i
    have arb := arr_le rl1 okh
    have lenB := R.v.len (cl := cl) (hs := hs) (r := i)
    have okc := clmV_ok (d := d) R.okc R.okh i
    obtain ⟨tot, htot⟩ : ∃ t, t = isum (clmV d cl hs i) := ⟨_, rfl⟩
    obtain ⟨own, hown⟩ : ∃ t, t = clmV d cl hs i := ⟨_, rfl⟩
    subst hRR
    have ll' := lu.lt
    have lp := sp.len
    refine yield_rule (args := [iv (i : Int), .slice P np cp]) lu rfl rfl hF' hwf ?_
    refine mid' lu (fun u1 k1 z1 l1 => ?_)
    have ku1 : Kept (fun b => b ≠ bh ∧ b ≠ ba ∧ b ≠ bm ∧ b ≠ w10.heap.size + 1) w11 u1 := ku.then k1 fun b _ h => h.2.2.2
    have zu1 := ku1.size
    have q3 := B3.kept ku1 ⟨by omega, by omega, by omega, by omega⟩
    have q4 := B4.kept ku1 ⟨by omega, by omega, by omega, by omega⟩
    have q6 := B6.kept ku1 ⟨by omega, by omega, by omega, by omega⟩
    have q9 := B9.kept ku1 ⟨by omega, by omega, by omega, by omega⟩
    have q10 := B10.kept ku1 ⟨by omega, by omega, by omega, by omega⟩
    have qs := Bs.kept ku1 ⟨by omega, by omega, by omega, by omega⟩
    have qr := hrB.kept ku1 fun b _ h => ⟨by omega, by omega, by omega, by omega⟩
    have ql := hlB.kept ku1 fun b _ h => ⟨by omega, by omega, by omega, by omega⟩
    have sp1 := sp.kept k1 fun b hb h => by omega
    have bh1 := bhu.kept k1 (by omega)
    have ba1 := bau.kept k1 (by omega)
    have bm1 := bmu.kept k1 (by omega)
    refine ld (.slice A n c) (q4.cell rfl) ?_
    refine ld (.slice (some (ad bs 0)) n1 n1) (q9.cell rfl) ?_
    refine call_of (c_dclaims (D := fun _ => True) (sp1.more (by decide) fun _ _ _ => trivial) (ql.more (by decide) fun _ _ _ => trivial) (blk_ints (D := fun _ => True) qs (by rw [R.lh]; omega) R.okh (by omega) trivial) (by rw [← lp, ← clmV_len (cl := cl) (hs := hs)]; exact lenB) (fun p hp => ?_) R.okc R.okh) ?_
    · rcases mem_ptsV.1 hp with h | h
      · exact ⟨fun _ => by have := R.lc; omega, fun e => (by rw [h.1] at e; cases e)⟩
      · exact ⟨fun e => (by rw [h.1] at e; cases e), fun _ => by omega⟩
    rintro _ u2 ⟨A', c', rfl, o2⟩
    have x12 := o2.ext
    have eT : isum ((ptsV d (i : Int)).map (clP cl hs)) = tot := htot.symm
    rw [eT]
    rw [show (ptsV d (i : Int)).map (clP cl hs) = own from hown.symm] at o2
    rw [← hown] at tE wk2 lenB okc
    rw [← htot] at sumB
    have htot' : tot = isum own := by rw [hown]; exact htot
    have own64 := okL_i64 okc
    have lown : own.length = np := by rw [hown, clmV_len]; exact lp
    have so2 : SlR tInt (fun b => u1.heap.size ≤ b) u2 A' np own := o2.ints own64 (by omega) fun _ h => h
    have q3 := q3.ext x12
    have q6 := q6.ext x12
    have q10 := q10.ext x12
    have qr := qr.ext x12
    have sp2 := sp1.ext x12
    have bh2 := bh1.ext x12
    have ba2 := ba1.ext x12
    have bm2 := bm1.ext x12
    have l2 := l1.kept x12 trivial
    have ku2 : Kept (fun b => b ≠ bh ∧ b ≠ ba ∧ b ≠ bm ∧ b ≠ w10.heap.size + 1) w11 u2 := ku1.then x12 fun _ _ _ => trivial
    have zu2 := x12.size
    -- what arrives
    have hidx : clA hd' i = clA hd' i := rfl
    obtain ⟨hv, hhv⟩ : ∃ hv, hv = clA hd' i := ⟨_, rfl⟩
    have hgi : hd'[i]? = some hv := by
      have hl := Dv.lh
      have : i < hd'.length := by omega
      rw [List.getElem?_eq_getElem this, hhv, clA_at (List.getElem?_eq_getElem this)]
    have shd : SlR tInt (fun b => b = bh) u2 (some (ad bh 0)) n1 hd' := blk_ints bh2 (by have := Dv.lh; omega) Dv.oh (by omega) rfl
    obtain ⟨bx, ox, csx, hv', hbx, hgx, -, -, hcx, rfl, -⟩ := shd.at_ (k := i) (by omega)
    injection hbx with hbx
    injection hbx with hx1 hx2
    subst hx1; subst hx2
    obtain rfl : hv = hv' := by rw [hgi] at hgx; injection hgx
    obtain ⟨br, or_, csr, r', rfl, hr', -, -, hcr, rfl⟩ := qr.at_ (k := i) (by omega)
    obtain rfl : r = r' := by rw [hri] at hr'; injection hr'
    rw [hrc] at rl1 rl2 rl3 arb
    refine drawP (.take 0 (.take 1 (.take 2 (.take 3 (.take 4 (.take 5 (.take 6 (.take 7 (.take 8 (.take 9 (.eff 10 (.take 11 (.take 12 (.take 13 (.take 14 (.take 15 .done)))))))))))))))) [] (fun z => Ext u2 z) mx (by kernel_rfl) (.refl _ _) ?_
    refine fldA ?_
    refine ldK (.slice (some (ad br or_)) n1 c1) (q3.cell rfl) trivial (.refl _ _) ?_
    refine idx i rfl (by omega) ?_
    refine ldAK r.c hcr rfl trivial (.refl _ _) ?_
    refine fldA ?_
    refine ldK (.slice (some (ad bh 0)) n1 n1) (q6.cell rfl) trivial (.refl _ _) ?_
    refine idx i rfl (by omega) ?_
    refine ldK (iv hv) (hcx 0 _ rfl) trivial (.refl _ _) ?_
    refine call_of (c_lWorst (r := r) (v := hv)) ?_
    rintro _ u3 ⟨rfl, x3'⟩
    have eL : lErr r hv = 0 := lErr_ok.2 ⟨rl1, by omega, by omega⟩
    rw [eL, if_pos rfl]
    refine strS x3' ?_
    refine lit [iv tot] (fun gg u4 hq4 => ?_)
    have x24 : Ext u2 u4 := x3'.trans hq4.ext
    refine call_of (c_dleast (n := hv - (lostR r hv).hi) (l := [tot]) (m := 1) (D := fun _ => True) (SlR.of_cells rfl (by decide) trivial (.blk hq4.blk) (flat_ints fun x hx => by rw [List.mem_singleton] at hx; rw [hx]; unfold I64; omega))) ?_
    rintro _ u5 ⟨rfl, rfl⟩
    obtain ⟨wk, hwk⟩ : ∃ wk, wk = workV d cl hs hd' i := ⟨_, rfl⟩
    have ewk : List.foldl min (hv - (lostR r hv).hi) [tot] = wk := by
      rw [hwk]; unfold workV; rw [← htot, hrc, ← hhv]; rfl
    rw [ewk]
    rw [← hwk] at tE wk0 wk1 wk2
    rw [hrc, ← hhv] at wk1
    have so4 := so2.ext x24
    have z24 := x24.size
    -- the awards
    refine call_of (c_gAward' (E := wk) (l := own) so4 tE) ?_
    rintro _ u6 ⟨m, A3', n3', c3', hmk, rfl, sa6, hca, x46, ln3⟩
    have x26 := x24.trans x46
    have z46 := x46.size
    have q3 := q3.ext x26
    have q6 := q6.ext x26
    have q10 := q10.ext x26
    have qr := qr.ext x26
    have sp6 := sp2.ext x26
    have bh6 := bh2.ext x26
    have ba6 := ba2.ext x26
    have bm6 := bm2.ext x26
    have l6 := l2.kept x26 trivial
    have ku6 := ku2.then x26 fun _ _ _ => trivial
    have so6 := so4.ext x46
    have hlm := Dv.lm
    have Dk := Dv.mark hir (m := m) (by rw [← hwk, ← hown]; exact hmk)
    -- the mark
    refine drawP (.take 0 (.take 1 (.take 2 (.take 3 (.take 4 (.eff 5 (.take 6 (.take 7 (.take 8 (.take 9 (.bar (.eff 10 .done)))))))))))) [10] (fun z => Ext u6 z) mx (by kernel_rfl) (.refl _ _) ?_
    refine fldA ?_
    refine ldK (.slice (some (ad bm 0)) n1 n1) (q6.cell rfl) trivial (.refl _ _) ?_
    refine call_of (c_gThr (E := wk) (l := own) so6 (by unfold I64; omega)) ?_
    rintro _ u7 ⟨x67, m', rfl, hmk'⟩
    obtain rfl : m = m' := hmk.uniq hmk'
    refine strS x67 ?_
    refine idx i rfl (by omega) ?_
    refine barS (fun _ => True) trivial ?_
    refine stA (vs := encM m) (bm6.ext x67) rfl (by rw [mks_len]; show _ + 4 ≤ _; omega) (by simp [Value.oneCell']) (fun u8 bm8 k8' z8' => ?_)
    refine strS trivial ?_
    have bm8 : Blk u8 bm 122 (mks (mk.set i m)) := by
      rw [← mks_set (by omega : i < mk.length)]
      have := bm8
      simpa using this
    have z67 := x67.size
    have q3 := (q3.ext x67).kept k8' (by omega)
    have q6 := (q6.ext x67).kept k8' (by omega)
    have q10 := (q10.ext x67).kept k8' (by omega)
    have qr := (qr.ext x67).kept k8' fun b _ h => by omega
    have sp8 := (sp6.ext x67).kept k8' fun b _ h => by omega
    have bh8 := (bh6.ext x67).kept k8' (by omega)
    have ba8 := (ba6.ext x67).kept k8' (by omega)
    have l8 := (l6.kept x67 trivial).kept k8' (by omega)
    have sa8 := (sa6.ext x67).kept k8' fun b _ h => by omega
    have ku8 : Kept (fun b => b ≠ bh ∧ b ≠ ba ∧ b ≠ bm ∧ b ≠ w10.heap.size + 1) w11 u8 := (ku6.then x67 fun _ _ _ => trivial).then k8' fun b _ h => h.2.2.1
    have zk8 := ku8.size
    have zu8 : u6.heap.size ≤ u8.heap.size := by omega
    -- the parts
    refine len ?_
    refine loop_rule (fun j : Nat => [(108, iv (j : Int))]) (fun j z => j ≤ np ∧ ∃ hd2 aw2, DivK d cl hs E hd2 aw2 (mk.set i m) i j m ∧ Blk z bh 3 (ivs hd2) ∧ Blk z ba 3 (ivs aw2) ∧ Kept (fun b => b ≠ bh ∧ b ≠ ba) u8 z) (fun j _ => np - j) 0 ⟨rfl, trivial⟩ ⟨by omega, hd', aw, Dk, bh8, ba8, .refl _ _⟩ rfl ?_
    rintro G9 j z ⟨hj, hd2, aw2, DK, bhz, baz, kz⟩
    have q3 := q3.kept kz (by omega)
    have q6 := q6.kept kz (by omega)
    have q10 := q10.kept kz (by omega)
    have qr := qr.kept kz fun b _ h => by omega
    have spz := sp8.kept kz fun b _ h => by omega
    have saz := sa8.kept kz fun b _ h => by omega
    have lz := l8.kept kz (by omega)
    have bmz := bm8.kept kz (by omega)
    have zz := kz.size
    refine cD (fun hlt => ?_) (fun hge => ?_)
    · have hlt : j < np := by omega
      obtain ⟨bp, op, csp, p, rfl, hp, -, -, hcp', rfl⟩ := spz.at_ hlt
      obtain ⟨av, hav⟩ : ∃ av, av = ownV m (clA own j) j := ⟨_, rfl⟩
      refine idx j rfl hlt ?_
      refine ldA (encP p) hcp' rfl ?_
      refine alloc (fun b20 z1 i1 => ?_)
      have y1 := i1.at_
      have r1 := i1.size
      refine stA (vs := encP p) i1.blk rfl (Nat.le_of_ble_eq_true rfl) (by simp [Value.oneCell']) (fun z2 B20 k2 s2' => ?_)
      have B20 : Blk z2 b20 126 (encP p) := B20
      have xz2 : Ext z z2 := i1.ext.then k2 fun b hb _ e => by omega
      have zz2 := xz2.size
      have q3 := q3.ext xz2
      have q6 := q6.ext xz2
      have q10 := q10.ext xz2
      have qr := qr.ext xz2
      have bhz := bhz.ext xz2
      have baz := baz.ext xz2
      obtain ⟨by_, oy, csy, av', rfl, hgy, -, -, hcy2, rfl, -⟩ := (saz.ext xz2).at_ (k := j) (by omega)
      obtain rfl : av = av' := by
        have := awL_at (m := m) (l := own) (i := j) (by omega)
        rw [hgy] at this; injection this with this; rw [hav, this]
      have hll := DK.b.la
      have hlh := DK.b.lh
      have lbz1 := bhz.lt
      have lbz2 := baz.lt
      obtain ⟨pf, f⟩ := p
      have eav : av = ownV m (clA (clmV d cl hs i) j) j := by rw [hav, hown]
      cases pf with
      | true =>
        have hfl : f < d.farms.length := by
          rcases mem_ptsV.1 (List.mem_of_getElem? hp) with h | h
          · exact h.2.1
          · cases h.1
        have DK2 := DK.farm R hir hp
        rw [← eav] at DK2
        refine fldA ?_
        refine ld (.bool true) (B20.cell rfl) ?_
        refine drawP (.take 0 (.take 1 (.take 2 (.take 3 (.take 4 (.take 5 (.take 6 (.take 7 (.take 8 (.bar (.eff 9 .done))))))))))) [9] (fun y => y = z2) mx (by kernel_rfl) rfl ?_
        refine fldA ?_
        refine ld (.slice (some (ad ba 0)) n2 n2) (q6.cell rfl) ?_
        refine fldA ?_
        refine ld (iv (f : Int)) (B20.cell rfl) ?_
        refine idx j rfl (by omega) ?_
        refine ld (iv av) (hcy2 0 _ rfl) ?_
        refine idx f rfl (by omega) ?_
        refine barS (fun _ => True) trivial ?_
        refine st (v := iv av) baz (by simp; omega) rfl (fun z3 ba3 k3 s3' => ?_)
        refine strS trivial ?_
        refine arI (by omega) ?_
        refine next (j + 1) ⟨by rw [Int.natCast_add]; rfl, trivial⟩ ⟨by omega, hd2, _, DK2, bhz.kept k3 (by omega), ?_, (kz.then xz2 fun _ _ _ => trivial).then k3 fun b _ h => h.2⟩ (by omega)
        rw [← ivs_set]
        simpa using ba3
      | false =>
        have hfl := R.v.child (List.mem_of_getElem? hp)
        have DK2 := DK.child R hir hp
        rw [← eav] at DK2
        refine fldA ?_
        refine ld (.bool false) (B20.cell rfl) ?_
        refine drawP (.take 0 (.take 1 (.take 2 (.take 3 (.take 4 (.take 5 (.take 6 (.bar (.eff 7 .done))))))))) [7] (fun y => y = z2) mx (by kernel_rfl) rfl ?_
        refine ld (.func (.func 53) #[] #[ptr b3, ptr b6]) (q10.cell rfl) ?_
        refine fldA ?_
        refine ld (iv (f : Int)) (B20.cell rfl) ?_
        refine idx j rfl (by omega) ?_
        refine ld (iv av) (hcy2 0 _ rfl) ?_
        refine barS (fun _ => True) trivial ?_
        refine call_of (c_denter (r := f) qr q3 q6 bhz (by omega) (by omega : f < n1) (by omega)) ?_
        rintro _ z3 ⟨rfl, bh3, k3⟩
        refine strS trivial ?_
        refine arI (by omega) ?_
        exact next (j + 1) ⟨by rw [Int.natCast_add]; rfl, trivial⟩ ⟨by omega, _, aw2, DK2, bh3, baz.kept k3 (by omega), (kz.then xz2 fun _ _ _ => trivial).then k3 fun b _ h => h.1⟩ (by omega)
    · have DD := DK.done (by omega)
      refine roundN' _ lz (fun z1 k1' l1' => ?_)
      have lbz1 := bhz.lt
      have lbz2 := baz.lt
      have lbz3 := bmz.lt
      refine .inl ⟨rfl, ⟨hd2, aw2, _, DD, bhz.kept k1' (by omega), baz.kept k1' (by omega), bmz.kept k1' (by omega), l1'⟩, (ku8.then kz fun b _ h => ⟨h.1, h.2.1⟩).then k1' fun b _ h => h.2.2.2⟩
  · rintro _ u (⟨⟨hd', aw, mk, Dv, bhu, bau, bmu, lu⟩, ku⟩ | h)
    · subst hRR
      rw [← lr] at Dv
      have DV := Dv.all
      refine range_end _ lu (by simp) (fun u1 k1 => ?_)
      have ll' := lu.lt
      have ku1 : Kept (fun b => b ≠ bh ∧ b ≠ ba ∧ b ≠ bm ∧ b ≠ w10.heap.size + 1) w11 u1 := ku.then k1 fun b _ h => h.2.2.2
      have q6 := B6.kept ku1 ⟨by omega, by omega, by omega, by omega⟩
      have bh1 := bhu.kept k1 (by omega)
      have ba1 := bau.kept k1 (by omega)
      have bm1 := bmu.kept k1 (by omega)
      have lb61 := q6.lt
      refine ldA [.slice (some (ad bh 0)) n1 n1, .slice (some (ad ba 0)) n2 n2, .slice (some (ad bm 0)) n1 n1] (.blk q6) rfl ?_
      refine stA (vs := [.slice (some (ad bh 0)) n1 n1, .slice (some (ad ba 0)) n2 n2, .slice (some (ad bm 0)) n1 n1]) q6 rfl (Nat.le_of_ble_eq_true rfl) (by simp [Value.oneCell']) (fun u2 q62 k2 z2 => ?_)
      have q62 : Blk u2 b6 79 [.slice (some (ad bh 0)) n1 n1, .slice (some (ad ba 0)) n2 n2, .slice (some (ad bm 0)) n1 n1] := q62
      have z05 := x05.size
      have z09 := x09.size
      have zku1 := ku1.size
      have hD2 : u2.heap[w10.heap.size]? = some (.deferred (some [])) := ((k2.blk _ (by omega) (by omega)).trans (ku1.blk _ (by omega) ⟨by omega, by omega, by omega, by omega⟩)).trans hD11
      refine retM hD2 ?_
      have k3 := Kept.putObj u2 w10.heap.size (.deferred none)
      refine resL _ (holds_agg (CellsAt.blk (q62.kept k3 (by omega))) rfl) ?_
      have xF : Ext w (u2.putObj w10.heap.size (.deferred none)) := ((x0B.then ku1 fun b hb _ => ⟨by omega, by omega, by omega, by omega⟩).then k2 fun b hb _ => by omega).then k3 fun b hb _ => by omega
      refine ⟨xF, .inr ⟨eo, hs, hd', aw, mk, bh, ba, bm, hne, R, DV, Dv.oh, Dv.oa, by rw [lr, lf]; rfl, (bh1.kept k2 (by omega)).kept k3 (by omega), (ba1.kept k2 (by omega)).kept k3 (by omega), (bm1.kept k2 (by omega)).kept k3 (by omega), by omega, by omega, by omega⟩⟩
    · exact h.elim
end
end Go.Proofs.YtcpogcdadlcdaaaGreat

/- Layer 41: contracts in one form; the laws' small district; sane. -/
namespace Go.Proofs.YtcpogcdadlcdaaaGreat
open Go Go.RowKit

/-- A slice of a division's. -/
structure CutR (w w' : World) (d : Dist) (cl : List Int) (E : Int) (H G M : Option Addr) (nh ng nm : Nat) : Prop where
  er : dvErr d cl E ≠ 0 → (H = none ∧ nh = 0) ∧ (G = none ∧ ng = 0) ∧ (M = none ∧ nm = 0)
  ok : dvErr d cl E = 0 → nh = d.reaches.length ∧ ng = d.farms.length ∧ nm = d.reaches.length ∧ ∃ hs hd aw mk bh ba bm, needsV d cl = some hs ∧ Rdy d cl hs ∧ DivV d cl hs E hd aw mk ∧ OkL hd ∧ OkL aw ∧ H = some (ad bh 0) ∧ G = some (ad ba 0) ∧ M = some (ad bm 0) ∧
    Blk w' bh 3 (ivs hd) ∧ Blk w' ba 3 (ivs aw) ∧ Blk w' bm 122 (mks mk) ∧ w.heap.size ≤ bh ∧ w.heap.size ≤ ba ∧ w.heap.size ≤ bm
theorem dvErr_ok {d : Dist} {cl : List Int} {E : Int} : dvErr d cl E = 0 ↔ openErr d cl = 0 ∧ 0 ≤ E ∧ E ≤ 1099511627776 := by
  unfold dvErr
  by_cases h : openErr d cl = 0
  · rw [if_neg (fun q => q h)]
    by_cases h2 : 0 ≤ E ∧ E ≤ 1099511627776
    · rw [if_pos h2]; simp [h, h2]
    · rw [if_neg h2]; simp only [h, true_and]; exact ⟨fun e => (by cases e), fun e => absurd e h2⟩
  · rw [if_pos h]; simp [h]
section
variable {D : Nat → Prop} {w : World}
theorem c_dDiv {csd : List Value} {d : Dist} {cl : List Int} {A : Option Addr} {n c : Nat} {E : Int} (hd : DiR D w csd d) (hl : SlR tInt D w A n cl) : CallZ Tryz.prog 31 #[.agg csd.toArray, .slice A n c, iv E] w (fun v w' => ∃ H nh ch G ng cg M nm cm, v = .tuple #[.agg #[.slice H nh ch, .slice G ng cg, .slice M nm cm], iv (dvErr d cl E)] ∧ Ext w w' ∧ CutR w w' d cl E H G M nh ng nm) :=
  (c_dDivide hd hl).mono (by
    rintro v w' ⟨x, ⟨h, rfl⟩ | ⟨h, hs, hd', aw, mk, bh, ba, bm, h1, h2, h3, h4, h5, rfl, h6, h7, h8, h9, h10, h11⟩⟩
    · exact ⟨_, _, _, _, _, _, _, _, _, rfl, x, ⟨fun _ => ⟨⟨rfl, rfl⟩, ⟨rfl, rfl⟩, rfl, rfl⟩, fun q => absurd q h⟩⟩
    · exact ⟨_, _, _, _, _, _, _, _, _, by rw [h], x, ⟨fun q => absurd h q, fun _ => ⟨rfl, rfl, rfl, hs, hd', aw, mk, bh, ba, bm, h1, h2, h3, h4, h5, rfl, rfl, rfl, h6, h7, h8, h9, h10, h11⟩⟩⟩)
/-- With enough each reach has its need. -/
theorem DivV.full {d : Dist} {cl hs hd aw : List Int} {mk : List Mk} {E : Int} (D : DivV d cl hs E hd aw mk) (R : Rdy d cl hs) (hE : 0 ≤ E) (hq : clA hs 0 ≤ E) : ∀ (r : Nat), r < d.reaches.length → clA hd r = clA hs r := by
  have nb : ∀ j, j < d.reaches.length → 0 ≤ clA hs j ∧ (clA hs j = 0 ∨ (rcC d j).siphon ≤ clA hs j) ∧ isum (clmV d cl hs j) ≤ arrW (rcC d j) (clA hs j) := fun j hj => by
    obtain ⟨l1, l2, l3⟩ := R.v.loss hj
    obtain ⟨b1, -, b3, b4⟩ := needV_b _ _ ⟨l2, l3⟩ l1 (R.nd j hj)
    exact ⟨b1, b3, b4 (R.sum j).1⟩
  intro r
  induction r using Nat.strongRecOn with
  | ind r ih =>
    intro hr
    by_cases h0 : r = 0
    · subst h0
      rw [D.top]
      have := nb 0 hr
      unfold cut; split <;> omega
    · obtain ⟨p, k, hp, hk⟩ := R.v.par (by omega) hr
      have hp' : p < d.reaches.length := by omega
      obtain ⟨e1, e2⟩ := pt_at (cl := cl) (hs := hs) hk
      have hw : workV d cl hs hd p = isum (clmV d cl hs p) := by
        have := nb p hp'
        unfold workV
        rw [ih p hp hp']; omega
      rw [(D.at_ p hp').child k r hk, (D.awd R hE hp').all hw k e2, e1]
      show cut d r (clA hs r) = clA hs r
      have := nb r hr
      unfold cut; split <;> omega
/-! ### the small district -/
def rc41 (up : Int) : Reach := ⟨ByteArray.empty, up, 1, 50, 50, 0, ⟨0, 0⟩, ⟨0, 1⟩, ⟨0, 1⟩⟩
def sd41 : Dist := ⟨ByteArray.empty, 4, 0, 0, [rc41 (-1), rc41 0], [⟨ByteArray.empty, 0, 0, -1⟩, ⟨ByteArray.empty, 1, 0, -1⟩, ⟨ByteArray.empty, 0, 0, -1⟩], [], [], [], []⟩
/-! ### what it answers -/
theorem sd1 : divErr sd41 [6, 0, 4] = 0 := by kernel_rfl
theorem sd2 : needsV sd41 [6, 0, 4] = some [10, 0] := by kernel_rfl
theorem sd3 : shErr sd41 [6, 2, 4] 0 = 0 := by kernel_rfl
theorem sd4 : needsV sd41 [6, 2, 4] = some [12, 2] := by kernel_rfl
theorem sd5 : clmV sd41 [6, 2, 4] [12, 2] 0 = [6, 4, 2] := by kernel_rfl
theorem sd6 : dvErr sd41 [6, 0, 4] 5 = 0 := by kernel_rfl
theorem sd7 : dvErr sd41 [0, 7, 0] 9 = 0 := by kernel_rfl
theorem sd8 : needsV sd41 [0, 7, 0] = some [7, 7] := by kernel_rfl
theorem sd9 : ptErr sd41 2 = 0 := by kernel_rfl
theorem sda : ptErr sd41 3 = 1 := by kernel_rfl
theorem sdb : divErr sd41 [-1, 0, 0] = 410 := by kernel_rfl
theorem sdc : dvErr sd41 [6, 0, 4] (-1) = 1 := by kernel_rfl
theorem sdd : ptsV sd41 0 = [(true, 0), (true, 2), (false, 1)] := by kernel_rfl
theorem sde {hd aw : List Int} {mk : List Mk} (R : Rdy sd41 [6, 0, 4] [10, 0]) (V : DivV sd41 [6, 0, 4] [10, 0] 5 hd aw mk) : aw = [3, 0, 2] := by
  have A := (V.at_ 0 (by decide))
  have m1 := A.mark
  have t : clA hd 0 = 5 := V.top
  have hw : workV sd41 [6, 0, 4] [10, 0] hd 0 = 5 := by unfold workV; rw [t]; kernel_rfl
  have hc : clmV sd41 [6, 0, 4] [10, 0] 0 = [6, 4, 0] := by kernel_rfl
  rw [hw, hc] at m1
  have m2 : MarkOf 5 [6, 4, 0] ⟨false, 3, 6, 0⟩ := by
    unfold MarkOf
    rw [if_pos ⟨by decide, by decide⟩]
    exact ⟨⟨⟨by decide, by decide, by decide⟩, by decide, by decide⟩, by decide⟩
  have em := m1.uniq m2
  have f0 := A.farm 0 0 (by rw [show ((0 : Nat) : Int) = 0 from rfl, sdd]; rfl)
  have f1 := A.farm 1 2 (by rw [show ((0 : Nat) : Int) = 0 from rfl, sdd]; rfl)
  rw [em, hc] at f0 f1
  have g := V.met R (by decide) 1 (by decide)
  have la := V.la
  have h1 : clA [6, 0, 4] 1 = 0 := rfl
  have f0 : clA aw 0 = 3 := f0
  have f1 : clA aw 2 = 2 := f1
  have g : clA aw 1 = 0 := by omega
  match aw, la, f0, f1, g with
  | [a, b, c], _, f0, f1, g =>
    have f0 : a = 3 := f0
    have f1 : c = 2 := f1
    have g : b = 0 := g
    rw [f0, f1, g]
theorem sdf {hd aw : List Int} {mk : List Mk} (R : Rdy sd41 [0, 7, 0] [7, 7]) (V : DivV sd41 [0, 7, 0] [7, 7] 9 hd aw mk) : aw = [0, 7, 0] ∧ hd = [7, 7] := by
  have f := V.full R (by decide) (by decide)
  have g := V.met R (by decide)
  have la := V.la
  have lh := V.lh
  have f0 : clA hd 0 = 7 := f 0 (by decide)
  have f1 : clA hd 1 = 7 := f 1 (by decide)
  have g0 : clA aw 0 = 0 := (g 0 (by decide)).2.2 (by decide)
  have g1 : clA aw 1 = 7 := (g 1 (by decide)).2.2 (by decide)
  have g2 : clA aw 2 = 0 := (g 2 (by decide)).2.2 (by decide)
  constructor
  · match aw, la, g0, g1, g2 with
    | [a, b, c], _, g0, g1, g2 =>
      have g0 : a = 0 := g0
      have g1 : b = 7 := g1
      have g2 : c = 0 := g2
      rw [g0, g1, g2]
  · match hd, lh, f0, f1 with
    | [a, b], _, f0, f1 =>
      have f0 : a = 7 := f0
      have f1 : b = 7 := f1
      rw [f0, f1]
end
end Go.Proofs.YtcpogcdadlcdaaaGreat

/- Layer 41: contract of the laws' sane; Few, shaped. -/
namespace Go.Proofs.YtcpogcdadlcdaaaGreat
open Go Go.RowKit

section
variable {w : World} {csd : List Value}
theorem lit3 {w w' : World} {a b c : Int} {g : Nat} {t : TypeId} (h : NewB w t [iv a, iv b, iv c] g w') (ha : -1000 ≤ a ∧ a ≤ 1000) (hb : -1000 ≤ b ∧ b ≤ 1000) (hc : -1000 ≤ c ∧ c ≤ 1000) : SlR tInt (fun _ => True) w' (some (ad g 0)) 3 [a, b, c] :=
  SlR.of_cells rfl (by decide) trivial (.blk h.blk) (flat_ints fun x hx => by
    simp only [List.mem_cons, List.not_mem_nil, or_false] at hx
    rcases hx with rfl | rfl | rfl
    all_goals (unfold I64; omega))
theorem sm_needs {A : Option Addr} {c : Nat} (hd : DiR (fun _ => True) w csd sd41) (hl : SlR tInt (fun _ => True) w A 3 [6, 0, 4]) : CallZ Tryz.prog 30 #[.agg csd.toArray, .slice A 3 c] w (fun v w' => Ext w w' ∧ ∃ bh, v = .tuple #[.slice (some (ad bh 0)) 2 2, .bool true, iv 0] ∧ Blk w' bh 3 [iv 10, iv 0]) :=
  (c_dNeeds hd hl).mono (by
    rintro v w' ⟨x, ⟨h, -⟩ | ⟨-, h, -⟩ | ⟨-, hs, bh, h, rfl, -, hb⟩⟩
    · exact absurd sd1 h
    · rw [sd2] at h; cases h
    · rw [sd2] at h; injection h with h; subst h; exact ⟨x, bh, rfl, hb⟩)
theorem sm_needs2 {A : Option Addr} {c : Nat} (hd : DiR (fun _ => True) w csd sd41) (hl : SlR tInt (fun _ => True) w A 3 [-1, 0, 0]) : CallZ Tryz.prog 30 #[.agg csd.toArray, .slice A 3 c] w (fun v w' => Ext w w' ∧ v = .tuple #[.slice none 0 0, .bool false, iv 410]) :=
  (c_dNeeds hd hl).mono (by
    rintro v w' ⟨x, ⟨h, rfl⟩ | ⟨h, -⟩ | ⟨h, -⟩⟩
    · exact ⟨x, by rw [sdb]⟩
    · rw [sdb] at h; cases h
    · rw [sdb] at h; cases h)
theorem sm_div {A : Option Addr} {c : Nat} (hd : DiR (fun _ => True) w csd sd41) (hl : SlR tInt (fun _ => True) w A 3 [6, 0, 4]) : CallZ Tryz.prog 31 #[.agg csd.toArray, .slice A 3 c, iv 5] w (fun v w' => Ext w w' ∧ ∃ bh ba bm ch ca cm, v = .tuple #[.agg #[.slice (some (ad bh 0)) 2 ch, .slice (some (ad ba 0)) 3 ca, .slice (some (ad bm 0)) 2 cm], iv 0] ∧ Blk w' ba 3 [iv 3, iv 0, iv 2]) :=
  (c_dDiv hd hl).mono (by
    rintro v w' ⟨H, nh, ch, G, ng, cg, M, nm, cm, rfl, x, hc⟩
    obtain ⟨rfl, rfl, rfl, hs, hd', aw, mk, bh, ba, bm, h1, h2, h3, h4, h5, rfl, rfl, rfl, h6, h7, h8, -⟩ := hc.ok sd6
    rw [sd2] at h1; injection h1 with h1; subst h1
    have := sde h2 h3
    subst this
    rw [sd6]
    exact ⟨x, bh, ba, bm, ch, cg, cm, rfl, h7⟩)
theorem sm_div2 {A : Option Addr} {c : Nat} (hd : DiR (fun _ => True) w csd sd41) (hl : SlR tInt (fun _ => True) w A 3 [0, 7, 0]) : CallZ Tryz.prog 31 #[.agg csd.toArray, .slice A 3 c, iv 9] w (fun v w' => Ext w w' ∧ ∃ bh ba bm ch ca cm, v = .tuple #[.agg #[.slice (some (ad bh 0)) 2 ch, .slice (some (ad ba 0)) 3 ca, .slice (some (ad bm 0)) 2 cm], iv 0] ∧ Blk w' ba 3 [iv 0, iv 7, iv 0] ∧ Blk w' bh 3 [iv 7, iv 7]) :=
  (c_dDiv hd hl).mono (by
    rintro v w' ⟨H, nh, ch, G, ng, cg, M, nm, cm, rfl, x, hc⟩
    obtain ⟨rfl, rfl, rfl, hs, hd', aw, mk, bh, ba, bm, h1, h2, h3, h4, h5, rfl, rfl, rfl, h6, h7, h8, -⟩ := hc.ok sd7
    rw [sd8] at h1; injection h1 with h1; subst h1
    obtain ⟨e1, e2⟩ := sdf h2 h3
    subst e1; subst e2
    rw [sd7]
    exact ⟨x, bh, ba, bm, ch, cg, cm, rfl, h7, h6⟩)
theorem sm_div3 {A : Option Addr} {c : Nat} (hd : DiR (fun _ => True) w csd sd41) (hl : SlR tInt (fun _ => True) w A 3 [6, 0, 4]) : CallZ Tryz.prog 31 #[.agg csd.toArray, .slice A 3 c, iv (-1)] w (fun v w' => Ext w w' ∧ ∃ H nh ch G ng cg M nm cm, v = .tuple #[.agg #[.slice H nh ch, .slice G ng cg, .slice M nm cm], iv 1]) :=
  (c_dDiv hd hl).mono (by
    rintro v w' ⟨H, nh, ch, G, ng, cg, M, nm, cm, rfl, x, hc⟩
    rw [sdc]
    exact ⟨x, H, nh, ch, G, ng, cg, M, nm, cm, rfl⟩)
end
end Go.Proofs.YtcpogcdadlcdaaaGreat

/- Layers 41, 20: contracts of Few, shaped, canals.Farms, canals.Children, got. -/
namespace Go.Proofs.YtcpogcdadlcdaaaGreat
open Go Go.RowKit

section
variable {D : Nat → Prop} {w : World}
abbrev pix (l : List Pt) : List Int := l.map fun p => (p.2 : Int)
end
end Go.Proofs.YtcpogcdadlcdaaaGreat

/- Layer 41: DivisionMore, DivisionShown. -/
namespace Go.Proofs.YtcpogcdadlcdaaaGreat
open Go Go.RowKit

theorem blkI {w : World} {b n i : Nat} {t : TypeId} {l : List Int} (h : Blk w b t (ivs l)) (ok : OkL l) (hn : n = l.length) (hi : i < n) (hb : n ≤ 1000) : CellsAt w b (0 + i * tInt.sz) [iv (clA l i)] := by
  obtain ⟨b', o, cs, x, e, hx, -, -, hc, rfl, -⟩ := (blk_ints (D := fun _ => True) h hn ok (by omega) trivial).at_ hi
  injection e with e
  injection e with e1 e2
  subst e1; subst e2
  rw [clA_at hx]
  exact hc
theorem blkM {w : World} {b i : Nat} {t : TypeId} {l : List Mk} (h : Blk w b t (mks l)) (hi : i < l.length) : CellsAt w b (0 + i * 4) (encM (mkA l i)) := fun k v hv => by
  have e : mkA l i = l[i] := by unfold mkA; rw [List.getD_eq_getElem?_getD, List.getElem?_eq_getElem hi]; rfl
  rw [e] at hv
  have hk : k < 4 := (List.getElem?_eq_some_iff.1 hv).1
  refine h.cell ?_
  rw [Nat.zero_add]
  have hd : (mks l).drop (i * 4) = encM l[i] ++ mks (l.drop (i + 1)) := by
    rw [mks_drop, List.drop_eq_getElem_cons hi]; rfl
  have : (mks l)[i * 4 + k]? = ((mks l).drop (i * 4))[k]? := by rw [List.getElem?_drop]
  rw [this, hd, List.getElem?_append_left hk]
  exact hv
section
variable {D : Nat → Prop} {w : World}
end
end Go.Proofs.YtcpogcdadlcdaaaGreat

/- Layer 41's reference: Parts, right, check, Claims, sum, Enough. -/
namespace Go.Proofs.YtcpogcdadlcdaaaGreat
open Go Go.RowKit

section
variable {D : Nat → Prop} {w : World}
set_option maxRecDepth 4000 in
theorem c_r41Parts {d : Dist} {A1 A2 A3 A4 A5 A6 : Option Addr} {n1 c1 n2 c2 n3 c3 n4 c4 n5 c5 n6 c6 : Nat} {r : Int} (hr : SlR tReach D w A1 n1 d.reaches) (hf : SlR tFarm D w A2 n2 d.farms) (hn : d.reaches.length ≤ 64 ∧ d.farms.length ≤ 600) :
    CallZ Tryz.prog 110 #[.agg #[.string d.name, iv d.hours, iv d.cap, iv d.start, .slice A1 n1 c1, .slice A2 n2 c2, .slice A3 n3 c3, .slice A4 n4 c4, .slice A5 n5 c5, .slice A6 n6 c6], iv r] w (fun v w' => ∃ A n c, v = .slice A n c ∧ OwnF w w' A n c 201 2 (cps (ptsV d r))) := by
  have lr := hr.len
  have lf := hf.len
  refine fn_rule (args := [.agg #[.string d.name, iv d.hours, iv d.cap, iv d.start, .slice A1 n1 c1, .slice A2 n2 c2, .slice A3 n3 c3, .slice A4 n4 c4, .slice A5 n5 c5, .slice A6 n6 c6], iv r]) Tryz.func110 (by kernel_rfl) ?_
  refine box (fun b1 w1 h1 => ?_)
  have B1 : Blk w1 b1 31 [.string d.name, iv d.hours, iv d.cap, iv d.start, .slice A1 n1 c1, .slice A2 n2 c2, .slice A3 n3 c3, .slice A4 n4 c4, .slice A5 n5 c5, .slice A6 n6 c6] := h1.blk
  refine loop_rule (fun s : Nat × Option Addr × Nat × Nat => [(6, iv (s.1 : Int)), (5, .slice s.2.1 s.2.2.1 s.2.2.2)]) (fun s u => s.1 ≤ n2 ∧ OwnF w1 u s.2.1 s.2.2.1 s.2.2.2 201 2 (cps (ptsF d r s.1))) (fun s _ => n2 - s.1) (0, none, 0, 0) ⟨rfl, rfl, trivial⟩ ⟨by omega, .nil (.refl _ _)⟩ rfl ?_
  rintro G1 ⟨k, E, ne, ce⟩ u ⟨hk, own⟩
  have hk : k ≤ n2 := hk
  have own : OwnF w1 u E ne ce 201 2 (cps (ptsF d r k)) := own
  have lo := own.own.len
  rw [cps_len] at lo
  have lk := ptsF_len (d := d) (r := r) (k := k)
  have B1u := B1.ext own.ext
  refine fldA ?_
  refine ld (.slice A2 n2 c2) (B1u.cell rfl) ?_
  refine len ?_
  refine cD (fun hlt => ?_) (fun hge => ?_)
  · have hlt : k < n2 := by omega
    obtain ⟨bb, o, cs, x, rfl, hx, -, -, hc, rfl⟩ := ((hf.ext h1.ext).ext own.ext).at_ hlt
    have hfm := fmC_at hx
    refine fldA ?_
    refine ld (.slice (some (ad bb o)) n2 c2) (B1u.cell rfl) ?_
    refine idx k rfl hlt ?_
    refine fldA ?_
    refine ld (iv x.reach) (hc 1 _ rfl) ?_
    refine cE (fun g => ?_) (fun g => ?_)
    · refine bld [.bool true, iv (k : Int)] (by kernel_rfl) ?_
      refine lit [.agg #[.bool true, iv (k : Int)]] (fun g4 u4 h4 => ?_)
      refine appF (n := ne) (A := E) (c := ce) (own.then h4.ext) (h4.src (sz := 2) rfl) (by omega) (fun A' c' u5 o5 _ _ => ?_)
      refine arI (by omega) ?_
      refine next (k + 1, A', ne + 1, c') ⟨by rw [Int.natCast_add]; rfl, rfl, trivial⟩ ⟨by show k + 1 ≤ n2; omega, ?_⟩ (by show n2 - (k + 1) < n2 - k; omega)
      show OwnF w1 u5 A' (ne + 1) c' 201 2 (cps (ptsF d r (k + 1)))
      rw [ptsF_yes (by rw [hfm]; exact g), cps_app]
      exact o5
    · refine arI (by omega) ?_
      refine next (k + 1, E, ne, ce) ⟨by rw [Int.natCast_add]; rfl, rfl, trivial⟩ ⟨by show k + 1 ≤ n2; omega, ?_⟩ (by show n2 - (k + 1) < n2 - k; omega)
      show OwnF w1 u E ne ce 201 2 (cps (ptsF d r (k + 1)))
      rw [ptsF_no (by rw [hfm]; exact g)]
      exact own
  · have hkn : k = d.farms.length := by omega
    rw [hkn] at own lo
    refine loop_rule (fun s : Nat × Option Addr × Nat × Nat => [(7, iv (s.1 : Int)), (5, .slice s.2.1 s.2.2.1 s.2.2.2)]) (fun s u => s.1 ≤ n1 ∧ OwnF w1 u s.2.1 s.2.2.1 s.2.2.2 201 2 (cps (ptsF d r d.farms.length ++ ptsC d r s.1))) (fun s _ => n1 - s.1) (0, E, ne, ce) ⟨rfl, rfl, trivial⟩ ⟨by omega, by simpa [ptsC] using own⟩ rfl ?_
    rintro G2 ⟨j, E2, ne2, ce2⟩ z ⟨hj, own2⟩
    have hj : j ≤ n1 := hj
    have own2 : OwnF w1 z E2 ne2 ce2 201 2 (cps (ptsF d r d.farms.length ++ ptsC d r j)) := own2
    have lo2 := own2.own.len
    rw [cps_len, List.length_append] at lo2
    have lF := ptsF_len (d := d) (r := r) (k := d.farms.length)
    have lj := ptsC_len (d := d) (r := r) (k := j)
    have B1u := B1.ext own2.ext
    refine fldA ?_
    refine ld (.slice A1 n1 c1) (B1u.cell rfl) ?_
    refine len ?_
    refine cD (fun hlt => ?_) (fun hge => ?_)
    · have hlt : j < n1 := by omega
      obtain ⟨bb, o, cs, x, rfl, hx, -, -, hc, rfl⟩ := ((hr.ext h1.ext).ext own2.ext).at_ hlt
      have hfm := rcC_at hx
      refine fldA ?_
      refine ld (.slice (some (ad bb o)) n1 c1) (B1u.cell rfl) ?_
      refine idx j rfl hlt ?_
      refine fldA ?_
      refine ld (iv x.up) (hc 1 _ rfl) ?_
      refine cE (fun g => ?_) (fun g => ?_)
      · refine bld [.bool false, iv (j : Int)] (by kernel_rfl) ?_
        refine lit [.agg #[.bool false, iv (j : Int)]] (fun g4 u4 h4 => ?_)
        refine appF (n := ne2) (A := E2) (c := ce2) (own2.then h4.ext) (h4.src (sz := 2) rfl) (by omega) (fun A' c' u5 o5 _ _ => ?_)
        refine arI (by omega) ?_
        refine next (j + 1, A', ne2 + 1, c') ⟨by rw [Int.natCast_add]; rfl, rfl, trivial⟩ ⟨by show j + 1 ≤ n1; omega, ?_⟩ (by show n1 - (j + 1) < n1 - j; omega)
        show OwnF w1 u5 A' (ne2 + 1) c' 201 2 (cps (ptsF d r d.farms.length ++ ptsC d r (j + 1)))
        rw [ptsC_yes (by rw [hfm]; exact g), ← List.append_assoc, cps_app]
        exact o5
      · refine arI (by omega) ?_
        refine next (j + 1, E2, ne2, ce2) ⟨by rw [Int.natCast_add]; rfl, rfl, trivial⟩ ⟨by show j + 1 ≤ n1; omega, ?_⟩ (by show n1 - (j + 1) < n1 - j; omega)
        show OwnF w1 z E2 ne2 ce2 201 2 (cps (ptsF d r d.farms.length ++ ptsC d r (j + 1)))
        rw [ptsC_no (by rw [hfm]; exact g)]
        exact own2
    · have hjn : j = d.reaches.length := by omega
      rw [hjn] at own2
      exact ret1 (.slice E2 ne2 ce2) rfl ⟨E2, ne2, ce2, rfl, own2.base h1.ext⟩
theorem OwnF.pts {w0 w : World} {A : Option Addr} {n c : Nat} {e : TypeId} {ps : List Pt} (h : OwnF w0 w A n c e 2 (cps ps)) (hl : ps.length ≤ 1000) : SlR tPt (fun b => w0.heap.size ≤ b) w A n ps := by
  have lo := h.own.len
  rw [cps_len] at lo
  exact Own.rd (a := tPt) h.own flat_cps (by omega) (by omega) (fun b hb => h.new b hb)
theorem c_r41right {csd : List Value} {d : Dist} {cl : List Int} {A : Option Addr} {n c : Nat} (hd : DiR D w csd d) (hl : SlR tInt D w A n cl) : CallZ Tryz.prog 106 #[.agg csd.toArray, .slice A n c] w (fun v w' => v = .bool (claimOk d cl) ∧ Ext w w') := by
  obtain ⟨A1, n1, c1, A2, n2, c2, A3, n3, c3, A4, n4, c4, A5, n5, c5, A6, n6, c6, rfl, hr, hf, -⟩ := hd.ex
  have lf := hf.len
  have ll := hl.len
  have hle := hl.le
  refine fn_rule (args := [.agg #[.string d.name, iv d.hours, iv d.cap, iv d.start, .slice A1 n1 c1, .slice A2 n2 c2, .slice A3 n3 c3, .slice A4 n4 c4, .slice A5 n5 c5, .slice A6 n6 c6], .slice A n c]) Tryz.func106 (by kernel_rfl) ?_
  refine box (fun b1 w1 h1 => ?_)
  have B1 : Blk w1 b1 31 [.string d.name, iv d.hours, iv d.cap, iv d.start, .slice A1 n1 c1, .slice A2 n2 c2, .slice A3 n3 c3, .slice A4 n4 c4, .slice A5 n5 c5, .slice A6 n6 c6] := h1.blk
  have hl := hl.ext h1.ext
  refine len ?_
  refine fldA ?_
  refine ld (.slice A2 n2 c2) (B1.cell rfl) ?_
  refine len ?_
  refine cN (fun g => ?_) (fun g => ?_)
  · exact ret1 (.bool false) rfl ⟨by unfold claimOk; rw [decide_eq_false (by omega)]; rfl, h1.ext⟩
  have e0 : claimOk d cl = cl.all okC := by unfold claimOk; rw [decide_eq_true (by omega), Bool.true_and]
  rw [e0]
  refine loop_rule (fun k : Nat => [(5, iv (k : Int))]) (fun k u => k ≤ n ∧ w1 = u ∧ cl.all okC = (cl.drop k).all okC) (fun k _ => n - k) 0 ⟨rfl, trivial⟩ ⟨by omega, rfl, rfl⟩ rfl ?_
  rintro G k u ⟨hk, rfl, he⟩
  refine len ?_
  refine cD (fun hlt => ?_) (fun hge => ?_)
  · have hlt : k < n := by omega
    obtain ⟨b, o, cs, x, rfl, hx, hdx, -, hc, rfl, -⟩ := hl.at_ hlt
    rw [hdx, List.all_cons] at he
    have ek : okC x = decide (0 ≤ x ∧ x ≤ 1073741824) := rfl
    refine idx k rfl hlt ?_
    refine ld (iv x) (hc 0 _ rfl) ?_
    refine cD (fun g1 => ?_) (fun g1 => ?_)
    · exact ret1 (.bool false) rfl ⟨by rw [he, ek, decide_eq_false (by omega)]; rfl, h1.ext⟩
    refine idx k rfl hlt ?_
    refine ld (iv x) (hc 0 _ rfl) ?_
    refine cD (fun g2 => ?_) (fun g2 => ?_)
    · exact ret1 (.bool false) rfl ⟨by rw [he, ek, decide_eq_false (by omega)]; rfl, h1.ext⟩
    refine arI (by omega) ?_
    refine next (k + 1) ⟨by rw [Int.natCast_add]; rfl, trivial⟩ ⟨by omega, rfl, ?_⟩ (by omega)
    rw [he, ek, decide_eq_true (by omega), Bool.true_and]
  · exact ret1 (.bool true) rfl ⟨by rw [he, List.drop_eq_nil_of_le (by omega)]; rfl, h1.ext⟩
theorem c_r41check {csd : List Value} {d : Dist} {cl : List Int} {A : Option Addr} {n c : Nat} (hd : DiR D w csd d) (hl : SlR tInt D w A n cl) : CallZ Tryz.prog 73 #[.agg csd.toArray, .slice A n c] w (fun v w' => v = iv (divErr d cl) ∧ Ext w w') := by
  have hd0 := hd
  obtain ⟨A1, n1, c1, A2, n2, c2, A3, n3, c3, A4, n4, c4, A5, n5, c5, A6, n6, c6, rfl, hr, hf, -⟩ := hd.ex
  refine fn_rule (args := [.agg #[.string d.name, iv d.hours, iv d.cap, iv d.start, .slice A1 n1 c1, .slice A2 n2 c2, .slice A3 n3 c3, .slice A4 n4 c4, .slice A5 n5 c5, .slice A6 n6 c6], .slice A n c]) Tryz.func73 (by kernel_rfl) ?_
  refine box (fun b1 w1 h1 => ?_)
  have B1 : Blk w1 b1 31 [.string d.name, iv d.hours, iv d.cap, iv d.start, .slice A1 n1 c1, .slice A2 n2 c2, .slice A3 n3 c3, .slice A4 n4 c4, .slice A5 n5 c5, .slice A6 n6 c6] := h1.blk
  refine ldA [.string d.name, iv d.hours, iv d.cap, iv d.start, .slice A1 n1 c1, .slice A2 n2 c2, .slice A3 n3 c3, .slice A4 n4 c4, .slice A5 n5 c5, .slice A6 n6 c6] (.blk B1) rfl ?_
  refine call_of (c_r19Check (hd0.ext h1.ext)) ?_
  rintro _ w2 ⟨rfl, x2⟩
  have xx := h1.ext.trans x2
  refine cN (fun g => ?_) (fun g => ?_)
  · exact ret1 (iv (dErr d)) rfl ⟨by unfold divErr; rw [if_pos g], xx⟩
  have e0 : divErr d cl = if claimOk d cl then 0 else 410 := by unfold divErr; rw [if_neg (fun h => h g)]
  refine ldA [.string d.name, iv d.hours, iv d.cap, iv d.start, .slice A1 n1 c1, .slice A2 n2 c2, .slice A3 n3 c3, .slice A4 n4 c4, .slice A5 n5 c5, .slice A6 n6 c6] (.blk (B1.ext x2)) rfl ?_
  refine callE (c_r41right (hd0.ext xx) (hl.ext xx)) (fun w3 g2 x3 => ?_) (fun w3 g2 x3 => ?_)
  · exact ret1 (iv 0) rfl ⟨by rw [e0, g2]; rfl, xx.trans x3⟩
  · exact ret1 (iv 410) rfl ⟨by rw [e0, g2]; rfl, xx.trans x3⟩
theorem c_r41Claims {ps : List Pt} {cl hs : List Int} {A B C : Option Addr} {n c m cb k cc : Nat} (hp : SlR tPt D w A n ps) (hb : SlR tInt D w B m cl) (hh : SlR tInt D w C k hs) (hn : n ≤ 664) (hi : ∀ p ∈ ps, (p.1 = true → p.2 < m) ∧ (p.1 = false → p.2 < k)) :
    CallZ Tryz.prog 109 #[.slice A n c, .slice B m cb, .slice C k cc] w (fun v w' => ∃ A' c', v = .slice A' n c' ∧ OwnF w w' A' n c' 3 1 ((ps.map (clP cl hs)).map fun x => .int .i64 x)) := by
  have lp := hp.len
  refine fn_rule (args := [.slice A n c, .slice B m cb, .slice C k cc]) Tryz.func109 (by kernel_rfl) ?_
  refine loop_rule (fun s : Nat × Option Addr × Nat => [(8, iv (s.1 : Int)), (7, .slice s.2.1 s.1 s.2.2)]) (fun s u => s.1 ≤ n ∧ OwnF w u s.2.1 s.1 s.2.2 3 1 (((ps.take s.1).map (clP cl hs)).map fun x => .int .i64 x)) (fun s _ => n - s.1) (0, none, 0) ⟨rfl, rfl, trivial⟩ ⟨by omega, .nil (.refl _ _)⟩ rfl ?_
  rintro G ⟨j, E, ce⟩ u ⟨hj, own⟩
  have hj : j ≤ n := hj
  have own : OwnF w u E j ce 3 1 (((ps.take j).map (clP cl hs)).map fun x => .int .i64 x) := own
  refine len ?_
  refine cD (fun hlt => ?_) (fun hge => ?_)
  · have hlt : j < n := by omega
    obtain ⟨b, o, cs, p, rfl, hpj, -, -, hc, rfl⟩ := (hp.ext own.ext).at_ hlt
    have htk : ps.take (j + 1) = ps.take j ++ [p] := by rw [List.take_add_one, hpj]; rfl
    obtain ⟨i1, i2⟩ := hi p (List.mem_of_getElem? hpj)
    obtain ⟨pf, pi⟩ := p
    cases pf with
    | true =>
      have i1 : pi < m := i1 rfl
      obtain ⟨b', o', cs', x, rfl, hx, -, -, hc', rfl, -⟩ := (hb.ext own.ext).at_ i1
      have ex : clP cl hs (true, pi) = x := clA_at hx
      refine idx j rfl hlt ?_
      refine fldA ?_
      refine ld (.bool true) (hc 0 _ rfl) ?_
      refine idx j rfl hlt ?_
      refine fldA ?_
      refine ld (iv (pi : Int)) (hc 1 _ rfl) ?_
      refine idx pi rfl i1 ?_
      refine ld (iv x) (hc' 0 _ rfl) ?_
      refine lit [iv x] (fun g u3 hq => ?_)
      refine appF (n := j) (A := E) (c := ce) (own.then hq.ext) (hq.src (sz := 1) rfl) (by omega) (fun A' c' u4 o4 _ _ => ?_)
      refine arI (by omega) ?_
      refine next (j + 1, A', c') ⟨by rw [Int.natCast_add]; rfl, rfl, trivial⟩ ⟨by show j + 1 ≤ n; omega, ?_⟩ (by show n - (j + 1) < n - j; omega)
      show OwnF w u4 A' (j + 1) c' 3 1 (((ps.take (j + 1)).map (clP cl hs)).map fun x => .int .i64 x)
      rw [htk, List.map_append, List.map_append]
      have e : ([(true, pi)] : List Pt).map (clP cl hs) = [x] := by rw [← ex]; rfl
      rw [e]; exact o4
    | false =>
      have i2 : pi < k := i2 rfl
      obtain ⟨b', o', cs', x, rfl, hx, -, -, hc', rfl, -⟩ := (hh.ext own.ext).at_ i2
      have ex : clP cl hs (false, pi) = x := clA_at hx
      refine idx j rfl hlt ?_
      refine fldA ?_
      refine ld (.bool false) (hc 0 _ rfl) ?_
      refine idx j rfl hlt ?_
      refine fldA ?_
      refine ld (iv (pi : Int)) (hc 1 _ rfl) ?_
      refine idx pi rfl i2 ?_
      refine ld (iv x) (hc' 0 _ rfl) ?_
      refine lit [iv x] (fun g u3 hq => ?_)
      refine appF (n := j) (A := E) (c := ce) (own.then hq.ext) (hq.src (sz := 1) rfl) (by omega) (fun A' c' u4 o4 _ _ => ?_)
      refine arI (by omega) ?_
      refine next (j + 1, A', c') ⟨by rw [Int.natCast_add]; rfl, rfl, trivial⟩ ⟨by show j + 1 ≤ n; omega, ?_⟩ (by show n - (j + 1) < n - j; omega)
      show OwnF w u4 A' (j + 1) c' 3 1 (((ps.take (j + 1)).map (clP cl hs)).map fun x => .int .i64 x)
      rw [htk, List.map_append, List.map_append]
      have e : ([(false, pi)] : List Pt).map (clP cl hs) = [x] := by rw [← ex]; rfl
      rw [e]; exact o4
  · obtain rfl : j = n := by omega
    rw [List.take_of_length_le (by omega)] at own
    exact ret1 (.slice E j ce) rfl ⟨E, ce, rfl, own⟩
theorem c_r41sum {l : List Int} {A : Option Addr} {n c : Nat} (hl : SlR tInt D w A n l) (hn : n ≤ 664) (ok : OkL l) : CallZ Tryz.prog 108 #[.slice A n c] w (fun v w' => v = iv (isum l) ∧ w' = w) := by
  have ll := hl.len
  refine fn_rule (args := [.slice A n c]) Tryz.func108 (by kernel_rfl) ?_
  refine loop_rule (fun k : Nat => [(3, iv (isum (l.take k))), (4, iv (k : Int))]) (fun k u => k ≤ n ∧ w = u) (fun k _ => n - k) 0 ⟨rfl, rfl, trivial⟩ ⟨by omega, rfl⟩ rfl ?_
  rintro G k u ⟨hk, rfl⟩
  have okt : OkL (l.take k) := fun x hx => ok x (List.mem_of_mem_take hx)
  have sb := isum_b okt
  rw [List.length_take] at sb
  refine len ?_
  refine cD (fun hlt => ?_) (fun hge => ?_)
  · have hlt : k < n := by omega
    obtain ⟨b, o, cs, y, rfl, hy, -, -, hc, rfl, -⟩ := hl.at_ hlt
    have yb := ok y (List.mem_of_getElem? hy)
    have htk : l.take (k + 1) = l.take k ++ [y] := by rw [List.take_add_one, hy]; rfl
    refine idx k rfl hlt ?_
    refine ld (iv y) (hc 0 _ rfl) ?_
    refine arI (by omega) ?_
    refine arI (by omega) ?_
    exact next (k + 1) ⟨by rw [htk, isum_snoc]; rfl, by rw [Int.natCast_add]; rfl, trivial⟩ ⟨by omega, rfl⟩ (by omega)
  · exact ret1 (iv (isum (l.take k))) rfl ⟨by rw [List.take_of_length_le (by omega)], rfl⟩
theorem c_r41Enough {r : Reach} {t : Int} (hok : lossOk r = true) (_hs : 0 ≤ r.siphon ∧ r.siphon ≤ 1073741824) : CallZ Tryz.prog 107 #[r.v, iv t] w (fun v w' => v = iv ((needV r t).getD (-1)) ∧ Ext w w') := by
  refine fn_rule (args := [.agg #[.string r.name, iv r.up, iv r.delay, iv r.cap, iv r.bank, iv r.siphon, iv r.evap.lo, iv r.evap.hi, iv r.s0.n, iv r.s0.d, iv r.s1.n, iv r.s1.d], iv t]) Tryz.func107 (by kernel_rfl) ?_
  refine box (fun b1 w1 h1 => ?_)
  have B1 : Blk w1 b1 76 r.c := h1.blk
  refine cE (fun g => ?_) (fun g => ?_)
  · exact ret1 (iv 0) rfl ⟨by unfold needV; rw [if_pos g]; rfl, h1.ext⟩
  refine cD (fun g2 => ?_) (fun g2 => ?_)
  · exact ret1 (iv (-1)) rfl ⟨by unfold needV; rw [if_neg g, if_pos g2]; rfl, h1.ext⟩
  refine ldA r.c (.blk B1) rfl ?_
  refine call_of (c_r21Least (r := r) (x := t) (b := false) hok) ?_
  rintro _ w2 ⟨rfl, x2⟩
  have B1 := B1.ext x2
  have hl := lv_least (x := t) (b := false) hok
  have xx := h1.ext.trans x2
  refine cD (fun g3 => ?_) (fun g3 => ?_)
  · have : lvW r t > 1073741824 := hl.1.1 g3
    exact ret1 (iv (-1)) rfl ⟨by unfold needV; rw [if_neg g, if_neg g2, if_pos this]; rfl, xx⟩
  · have h2 := hl.2 g3
    have h3 : ¬ lvW r t > 1073741824 := fun h => g3 (hl.1.2 h)
    have e : leastV r t false = lvW r t := h2
    rw [e]
    refine fldA ?_
    refine ld (iv r.siphon) (B1.cell rfl) ?_
    exact ret1 (iv (max (lvW r t) r.siphon)) rfl ⟨by unfold needV; rw [if_neg g, if_neg g2, if_neg h3]; rfl, xx⟩
end
end Go.Proofs.YtcpogcdadlcdaaaGreat

/- Layer 41's reference: needs, Needs, Shares, PartOf. -/
namespace Go.Proofs.YtcpogcdadlcdaaaGreat
open Go Go.RowKit

theorem zI' {n : Nat} : ivs (List.replicate n 0) = (List.replicate n (cellsL (iv 0))).flatten := by
  unfold ivs
  rw [List.map_replicate]
  show List.replicate n (iv 0) = (List.replicate n [iv 0]).flatten
  rw [List.flatten_replicate_singleton]
section
variable {D : Nat → Prop} {w : World}
set_option maxRecDepth 4000 in
theorem c_r41needs {csd : List Value} {d : Dist} {cl : List Int} {A : Option Addr} {n c : Nat} (hv : Val d) (hd : DiR D w csd d) (hl : SlR tInt D w A n cl) (hk : OkL cl) (hn : n = d.farms.length) :
    CallZ Tryz.prog 74 #[.agg csd.toArray, .slice A n c] w (fun v w' => Ext w w' ∧ ((needsV d cl = none ∧ v = .tuple #[.slice none 0 0, .bool false]) ∨
      ∃ hs bh, needsV d cl = some hs ∧ v = .tuple #[.slice (some (ad bh 0)) d.reaches.length d.reaches.length, .bool true] ∧ w.heap.size ≤ bh ∧ Blk w' bh 3 (ivs hs))) := by
  obtain ⟨A1, n1, c1, A2, n2, c2, A3, n3, c3, A4, n4, c4, A5, n5, c5, A6, n6, c6, rfl, hr, hf, -⟩ := hd.ex
  have lr := hr.len
  have lf := hf.len
  have hvn := hv.n
  have hvf := hv.f
  refine fn_rule (args := [.agg #[.string d.name, iv d.hours, iv d.cap, iv d.start, .slice A1 n1 c1, .slice A2 n2 c2, .slice A3 n3 c3, .slice A4 n4 c4, .slice A5 n5 c5, .slice A6 n6 c6], .slice A n c]) Tryz.func74 (by kernel_rfl) ?_
  refine box (fun b2 w1 h1 => ?_)
  have e1 := h1.at_
  have s1 := h1.size
  have B2 : Blk w1 b2 31 [.string d.name, iv d.hours, iv d.cap, iv d.start, .slice A1 n1 c1, .slice A2 n2 c2, .slice A3 n3 c3, .slice A4 n4 c4, .slice A5 n5 c5, .slice A6 n6 c6] := h1.blk
  refine fldA ?_
  refine ld (.slice A1 n1 c1) (B2.cell rfl) ?_
  refine len ?_
  refine mslc (sz := 1) (zv := iv 0) n1 rfl rfl (by omega) (by omega) rfl (by decide) (fun bh w2 h2 => ?_)
  have e2 := h2.at_
  have s2 := h2.size
  have x2 := h1.ext.trans h2.ext
  have B2 := B2.ext h2.ext
  have Bh : Blk w2 bh 3 (ivs (List.replicate n1 0)) := by rw [zI']; exact h2.blk
  have hrw : SlR tReach (fun b => b < w.heap.size) w2 A1 n1 d.reaches := (hr.more (D' := fun b => b < w.heap.size) (by decide) fun b hb _ => hb).ext x2
  have hfw : SlR tFarm (fun b => b < w.heap.size) w2 A2 n2 d.farms := (hf.more (D' := fun b => b < w.heap.size) (by decide) fun b hb _ => hb).ext x2
  have hlw : SlR tInt (fun b => b < w.heap.size) w2 A n cl := (hl.more (D' := fun b => b < w.heap.size) (by decide) fun b hb _ => hb).ext x2
  refine fldA ?_
  refine ld (.slice A1 n1 c1) (B2.cell rfl) ?_
  refine len ?_
  refine arI (by omega) ?_
  refine loop_rule (fun k : Nat => [(7, iv ((n1 : Int) - 1 - (k : Int)))]) (fun k u => k ≤ n1 ∧ Kept (fun b => b ≠ bh) w2 u ∧ ∃ hs, needsN d cl k = some hs ∧ Blk u bh 3 (ivs hs)) (fun k _ => n1 - k) 0 ⟨by rw [show ((0 : Nat) : Int) = 0 from rfl, Int.sub_zero]; rfl, trivial⟩ ⟨by omega, .refl _ _, _, rfl, by rw [lr]; exact Bh⟩ rfl ?_
  rintro G k u ⟨hk1, ku, hs, hns, bhu⟩
  have B2u := B2.kept ku (by omega)
  refine cD (fun hlt => ?_) (fun hge => ?_)
  · have hkn : k < n1 := by omega
    obtain ⟨lhs, ohs, -⟩ := needsN_ok hv k (by omega) hns
    obtain ⟨i, hi⟩ : ∃ i : Nat, i = d.reaches.length - 1 - k := ⟨_, rfl⟩
    have hin : i < d.reaches.length := by omega
    have ei : (n1 : Int) - 1 - (k : Int) = (i : Int) := by omega
    rw [ei]
    obtain ⟨r, hri⟩ : ∃ r, d.reaches[i]? = some r := ⟨_, List.getElem?_eq_getElem hin⟩
    have hrc := rcC_at hri
    obtain ⟨rl1, rl2, rl3⟩ := hv.loss hin
    rw [hrc] at rl1 rl2 rl3
    have step := needsN_step hns hi hrc
    have hru := hrw.kept ku fun b _ h => by omega
    have hfu := hfw.kept ku fun b _ h => by omega
    have hlu := hlw.kept ku fun b _ h => by omega
    obtain ⟨bb, oo, cs, y, hA, hy, -, -, hc, rfl⟩ := hru.at_ (k := i) (by omega)
    obtain rfl : r = y := by rw [hri] at hy; injection hy
    subst hA
    refine drawP (.take 0 (.take 1 (.take 2 (.take 3 (.take 4 (.take 5 (.take 6 (.take 8 (.take 9 (.eff 7 (.eff 10 (.eff 11 (.eff 12 (.take 13 .done)))))))))))))) [] (fun z => Ext u z) mx (by kernel_rfl) (.refl _ _) ?_
    refine fldA ?_
    refine ldK (.slice (some (ad bb oo)) n1 c1) (B2u.cell rfl) trivial (.refl _ _) ?_
    refine idx i rfl (by omega) ?_
    refine ldAK r.c hc rfl trivial (.refl _ _) ?_
    refine ldAK _ (.blk B2u) rfl trivial (.refl _ _) ?_
    refine call_of (c_r41Parts (r := (i : Int)) hru hfu ⟨hvn.2, hvf⟩) ?_
    rintro _ u1 ⟨P, np, cp, rfl, oP⟩
    refine strS oP.ext ?_
    have lP := oP.own.len
    rw [cps_len] at lP
    have lV := ptsV_len (d := d) (r := (i : Int))
    have sp := oP.pts (by omega)
    have okc := clmV_ok (d := d) hk ohs i
    refine call_of (c_r41Claims (D := fun _ => True) (sp.more (by decide) fun _ _ _ => trivial) ((hlu.ext oP.ext).more (by decide) fun _ _ _ => trivial) (blk_ints (D := fun _ => True) (bhu.ext oP.ext) (by omega) ohs (by omega) trivial) (by omega) (fun p hp => ?_)) ?_
    · rcases mem_ptsV.1 hp with h | h
      · exact ⟨fun _ => by omega, fun e => (by rw [h.1] at e; cases e)⟩
      · exact ⟨fun e => (by rw [h.1] at e; cases e), fun _ => by omega⟩
    rintro _ u2 ⟨C, cc, rfl, oC⟩
    have x02 := oP.ext.trans oC.ext
    refine strS x02 ?_
    have sC : SlR tInt (fun _ => True) u2 C np (clmV d cl hs i) := oC.ints (okL_i64 okc) (by omega) fun _ _ => trivial
    refine call_of (c_r41sum sC (by omega) okc) ?_
    rintro _ u3 ⟨rfl, rfl⟩
    refine strS x02 ?_
    obtain ⟨nv, hnv⟩ : ∃ nv, nv = needV r (isum (clmV d cl hs i)) := ⟨_, rfl⟩
    have cEn := c_r41Enough (w := u3) (r := r) (t := isum (clmV d cl hs i)) rl1 ⟨rl2, rl3⟩
    rw [← hnv] at cEn step
    refine call_of cEn ?_
    rintro _ u4 ⟨rfl, x4⟩
    have x04 := x02.trans x4
    refine strS x04 ?_
    have ku4 : Kept (fun b => b ≠ bh) w2 u4 := ku.then x04 fun _ _ _ => trivial
    cases nv with
    | none =>
      refine cD (fun _ => ?_) (fun h => absurd (show ((none : Option Int).getD (-1)) < 0 by decide) h)
      have hno : needsV d cl = none := needsN_none (k := k + 1) (by rw [step]; rfl) _ (by omega)
      exact ret2 (.slice none 0 0) (.bool false) rfl rfl ⟨x2.then ku4 fun b hb _ => by omega, .inl ⟨hno, rfl⟩⟩
    | some v =>
      obtain ⟨v1, v2, -⟩ := needV_b r _ ⟨rl2, rl3⟩ rl1 hnv.symm
      refine cD (fun h => absurd (show v < 0 from h) (by omega)) (fun _ => ?_)
      refine idx i rfl (by omega) ?_
      refine st (v := iv v) (bhu.ext x04) (by simp; omega) rfl (fun u5 bh5 k5 z5 => ?_)
      refine arI (by omega) ?_
      refine next (k + 1) ⟨by rw [show (i : Int) - 1 = (n1 : Int) - 1 - ((k + 1 : Nat) : Int) by omega]; rfl, trivial⟩ ⟨by omega, ku4.then k5 fun b _ h => h, hs.set i v, by rw [step]; rfl, ?_⟩ (by omega)
      rw [← ivs_set]
      simpa using bh5
  · have hkn : k = d.reaches.length := by omega
    rw [hkn] at hns
    exact ret2 (.slice (some (ad bh 0)) n1 n1) (.bool true) rfl rfl ⟨x2.then ku fun b hb _ => by omega, .inr ⟨hs, bh, hns, by rw [lr], by omega, bhu⟩⟩
theorem c_rNd {csd : List Value} {d : Dist} {cl : List Int} {A : Option Addr} {n c : Nat} (hd : DiR D w csd d) (hl : SlR tInt D w A n cl) : CallZ Tryz.prog 45 #[.agg csd.toArray, .slice A n c] w (fun v w' => ∃ B nb cb ok, v = .tuple #[.slice B nb cb, .bool ok, iv (divErr d cl)] ∧ Ext w w' ∧ (ok = false → B = none ∧ nb = 0) ∧ (divErr d cl = 0 → (ok = false ∧ needsV d cl = none) ∨ (ok = true ∧ ∃ hs bh, needsV d cl = some hs ∧ B = some (ad bh 0) ∧ nb = d.reaches.length ∧ w.heap.size ≤ bh ∧ Blk w' bh 3 (ivs hs))) ∧ (divErr d cl ≠ 0 → ok = false)) := by
  have hd0 := hd
  obtain ⟨A1, n1, c1, A2, n2, c2, A3, n3, c3, A4, n4, c4, A5, n5, c5, A6, n6, c6, rfl, hr, hf, -⟩ := hd.ex
  have lf := hf.len
  have ll := hl.len
  refine fn_rule (args := [.agg #[.string d.name, iv d.hours, iv d.cap, iv d.start, .slice A1 n1 c1, .slice A2 n2 c2, .slice A3 n3 c3, .slice A4 n4 c4, .slice A5 n5 c5, .slice A6 n6 c6], .slice A n c]) Tryz.func45 (by kernel_rfl) ?_
  refine box (fun b1 w1 h1 => ?_)
  have B1 : Blk w1 b1 31 [.string d.name, iv d.hours, iv d.cap, iv d.start, .slice A1 n1 c1, .slice A2 n2 c2, .slice A3 n3 c3, .slice A4 n4 c4, .slice A5 n5 c5, .slice A6 n6 c6] := h1.blk
  refine ldA [.string d.name, iv d.hours, iv d.cap, iv d.start, .slice A1 n1 c1, .slice A2 n2 c2, .slice A3 n3 c3, .slice A4 n4 c4, .slice A5 n5 c5, .slice A6 n6 c6] (.blk B1) rfl ?_
  refine call_of (c_r41check (hd0.ext h1.ext) (hl.ext h1.ext)) ?_
  rintro _ w2 ⟨rfl, x2⟩
  have B1 := B1.ext x2
  have xx := h1.ext.trans x2
  refine cN (fun g => ?_) (fun g => ?_)
  · exact ret3 (.slice none 0 0) (.bool false) (iv (divErr d cl)) rfl rfl rfl ⟨_, _, _, _, rfl, xx, fun _ => ⟨rfl, rfl⟩, fun q => absurd q g, fun _ => rfl⟩
  have g : divErr d cl = 0 := g
  obtain ⟨g1, g2⟩ := divErr_ok.1 g
  have V := val_of g1
  obtain ⟨k1, k2⟩ := claimOk_iff.1 g2
  refine ldA [.string d.name, iv d.hours, iv d.cap, iv d.start, .slice A1 n1 c1, .slice A2 n2 c2, .slice A3 n3 c3, .slice A4 n4 c4, .slice A5 n5 c5, .slice A6 n6 c6] (.blk B1) rfl ?_
  refine call_of (c_r41needs V (hd0.ext xx) (hl.ext xx) k2 (by omega)) ?_
  rintro _ w4 ⟨x4, ⟨hno, rfl⟩ | ⟨hs, bh, hne, rfl, hb, Bh⟩⟩
  · exact ret3 (.slice none 0 0) (.bool false) (iv 0) rfl rfl rfl ⟨_, _, _, _, by rw [g], xx.trans x4, fun _ => ⟨rfl, rfl⟩, fun _ => .inl ⟨rfl, hno⟩, fun q => absurd g q⟩
  · exact ret3 (.slice (some (ad bh 0)) d.reaches.length d.reaches.length) (.bool true) (iv 0) rfl rfl rfl ⟨_, _, _, _, by rw [g], xx.trans x4, fun q => (by cases q), fun _ => .inr ⟨rfl, hs, bh, hne, rfl, rfl, by have := xx.size; omega, Bh⟩, fun q => absurd g q⟩
end
end Go.Proofs.YtcpogcdadlcdaaaGreat

/- Layer 46, plainly: the heads of awards, what is harmless, the greatest number. -/
namespace Go.Proofs.YtcpogcdadlcdaaaGreat
open Go Go.RowKit

/-- The needs of awards. -/
def headsV (d : Dist) (aw : List Int) : Option (List Int) := if divErr d aw = 0 then needsV d aw else none
theorem headsV_some {d : Dist} {aw hs : List Int} (h : headsV d aw = some hs) : divErr d aw = 0 ∧ needsV d aw = some hs ∧ Rdy d aw hs := by
  unfold headsV at h
  by_cases g : divErr d aw = 0
  · rw [if_pos g] at h; exact ⟨g, h, rdy_of g h⟩
  · rw [if_neg g] at h; cases h
/-- One list is at most another one. -/
def LeL (a b : List Int) : Prop := a.length = b.length ∧ ∀ i, i < a.length → clA a i ≤ clA b i
theorem LeL.refl (a : List Int) : LeL a a := ⟨rfl, fun _ _ => Int.le_refl _⟩
theorem LeL.trans {a b c : List Int} (h : LeL a b) (k : LeL b c) : LeL a c := ⟨h.1.trans k.1, fun i hi => Int.le_trans (h.2 i hi) (k.2 i (by rw [← h.1]; exact hi))⟩
theorem LeL.at_ {a b : List Int} (h : LeL a b) (i : Nat) : clA a i ≤ clA b i := by
  by_cases hi : i < a.length
  · exact h.2 i hi
  · unfold clA
    rw [List.getD_eq_getElem?_getD, List.getD_eq_getElem?_getD, List.getElem?_eq_none (by omega), List.getElem?_eq_none (by have := h.1; omega)]
    exact Int.le_refl _
theorem isum_mono {α : Type} {f g : α → Int} : ∀ {l : List α}, (∀ x ∈ l, f x ≤ g x) → isum (l.map f) ≤ isum (l.map g)
  | [], _ => Int.le_refl _
  | x :: l, h => by
    have := isum_mono (l := l) fun y hy => h y (List.mem_cons_of_mem _ hy)
    have h0 := h x List.mem_cons_self
    unfold isum at *
    simp only [List.map_cons, List.sum_cons]
    omega
theorem lvW_mono {r : Reach} {t t' : Int} (hl : lossOk r = true) (h : t ≤ t') : lvW r t ≤ lvW r t' := by
  have a := lvW_first (w := t) hl
  have b := lvW_first (w := t') hl
  by_cases q : lvW r t ≤ lvW r t'
  · exact q
  exfalso
  have h1 := a.no (lvW r t') b.le (by omega)
  have h2 := b.yes (by have := a.ge; omega)
  rw [decide_eq_true_eq] at h2
  rw [decide_eq_false_iff_not] at h1
  omega
theorem needV_mono {r : Reach} {t t' v' : Int} (hl : lossOk r = true) (h0 : 0 ≤ t) (h : t ≤ t') (hs : 0 ≤ r.siphon ∧ r.siphon ≤ 1073741824) (hv : needV r t' = some v') : ∃ v, needV r t = some v ∧ v ≤ v' := by
  have hb := needV_b r _ hs hl hv
  unfold needV at hv ⊢
  by_cases e : t = 0
  · rw [if_pos e]; exact ⟨0, rfl, hb.1⟩
  · rw [if_neg e]
    rw [if_neg (by omega)] at hv
    have hm := lvW_mono hl h
    split at hv
    · cases hv
    · rw [if_neg (by omega)]
      split at hv
      · cases hv
      · rw [if_neg (by omega)]
        injection hv with hv
        exact ⟨_, rfl, by omega⟩
section
variable {d : Dist} {aw aw' hs hs' : List Int}
theorem clmV_mono (h : LeL aw aw') (k : LeL hs hs') (r : Nat) : isum (clmV d aw hs r) ≤ isum (clmV d aw' hs' r) := by
  unfold clmV
  refine isum_mono fun p _ => ?_
  unfold clP
  split
  · exact h.at_ _
  · exact k.at_ _
theorem needsN_mono (v : Val d) (h : LeL aw aw') (o : OkL aw) (o' : OkL aw') : ∀ (k : Nat) {hs' : List Int}, k ≤ d.reaches.length → needsN d aw' k = some hs' → ∃ hs, needsN d aw k = some hs ∧ LeL hs hs'
  | 0, hs', _, hk => by
    injection hk with hk
    exact ⟨_, rfl, by rw [← hk]; exact LeL.refl _⟩
  | k + 1, hs', hkn, hk => by
    rw [needsN] at hk
    cases h1 : needsN d aw' k with
    | none => rw [h1] at hk; cases hk
    | some hs0' =>
      rw [h1] at hk
      dsimp only at hk
      obtain ⟨hs0, e0, le0⟩ := needsN_mono v h o o' k (by omega) h1
      obtain ⟨l0, ok0, -⟩ := needsN_ok v k (by omega) e0
      obtain ⟨j, hj⟩ : ∃ j, j = d.reaches.length - 1 - k := ⟨_, rfl⟩
      rw [← hj] at hk
      cases h2 : needV (rcC d j) (isum (clmV d aw' hs0' j)) with
      | none => rw [h2] at hk; cases hk
      | some u' =>
        rw [h2] at hk
        injection hk with hk
        obtain ⟨a1, a2, a3⟩ := v.loss (r := j) (by omega)
        obtain ⟨u, hu, huu⟩ := needV_mono a1 (isum_b (clmV_ok o ok0 j)).1 (clmV_mono h le0 j) ⟨a2, a3⟩ h2
        refine ⟨hs0.set j u, ?_, ?_⟩
        · rw [needsN, e0]
          dsimp only
          rw [← hj, hu]
        · rw [← hk]
          refine ⟨by rw [List.length_set, List.length_set]; exact le0.1, fun i hi => ?_⟩
          rw [List.length_set] at hi
          have := le0.1
          rw [clA_set (by omega), clA_set (by omega)]
          split
          · exact huu
          · exact le0.2 i hi
theorem divErr_le (h : LeL aw aw') (o : OkL aw) (h0 : divErr d aw' = 0) : divErr d aw = 0 := by
  obtain ⟨h1, h2⟩ := divErr_ok.1 h0
  obtain ⟨h3, -⟩ := claimOk_iff.1 h2
  exact divErr_ok.2 ⟨h1, claimOk_iff.2 ⟨h.1.trans h3, o⟩⟩
theorem headsV_mono (h : LeL aw aw') (o : OkL aw) (hk : headsV d aw' = some hs') : ∃ hs, headsV d aw = some hs ∧ LeL hs hs' := by
  obtain ⟨g, hn, R⟩ := headsV_some hk
  obtain ⟨hs, e, le⟩ := needsN_mono R.v h o R.okc _ (Nat.le_refl _) hn
  exact ⟨hs, by unfold headsV; rw [if_pos (divErr_le h o g)]; exact e, le⟩
/-- Harmless awards, if the heads were these before. -/
def harmB (d : Dist) (bf aw : List Int) : Bool := match headsV d aw with
  | none => false
  | some l => decide (clA l 0 ≤ clA bf 0) && (List.range d.reaches.length).all fun r => decide (clA l r ≤ max (clA bf r) (rcC d r).cap)
theorem harmB_iff {bf : List Int} : harmB d bf aw = true ↔ ∃ l, headsV d aw = some l ∧ clA l 0 ≤ clA bf 0 ∧ ∀ r, r < d.reaches.length → clA l r ≤ max (clA bf r) (rcC d r).cap := by
  unfold harmB
  cases headsV d aw with
  | none => simp
  | some l => simp [List.all_eq_true]
theorem harmB_mono {bf : List Int} (h : LeL aw aw') (o : OkL aw) (hk : harmB d bf aw' = true) : harmB d bf aw = true := by
  obtain ⟨l', e', h1, h2⟩ := harmB_iff.1 hk
  obtain ⟨l, e, le⟩ := headsV_mono h o e'
  exact harmB_iff.2 ⟨l, e, Int.le_trans (le.at_ 0) h1, fun r hr => Int.le_trans (le.at_ r) (h2 r hr)⟩
/-- Awards in which from has less, and to has more. -/
def chgV (aw : List Int) (f t : Nat) (x n : Int) : List Int := (aw.set f (clA aw f - x)).set t (clA (aw.set f (clA aw f - x)) t + n)
variable {f t : Nat} {x n m : Int}
theorem chgV_len : (chgV aw f t x n).length = aw.length := by unfold chgV; rw [List.length_set, List.length_set]
theorem chgV_at (hf : f < aw.length) (ht : t < aw.length) (hne : f ≠ t) (i : Nat) : clA (chgV aw f t x n) i = if i = t then clA aw t + n else if i = f then clA aw f - x else clA aw i := by
  unfold chgV
  rw [clA_set (by rw [List.length_set]; exact ht), clA_set hf, clA_set hf, if_neg hne]
  by_cases e : t = i
  · rw [if_pos e, if_pos (show i = t from e.symm)]
  · rw [if_neg e, if_neg (show ¬ i = t from fun h => e h.symm)]
    by_cases e2 : f = i
    · rw [if_pos e2, if_pos (show i = f from e2.symm)]
    · rw [if_neg e2, if_neg (show ¬ i = f from fun h => e2 h.symm)]
theorem okL_of {l : List Int} (h : ∀ i, i < l.length → 0 ≤ clA l i ∧ clA l i ≤ 1073741824) : OkL l := fun c hc => by
  obtain ⟨i, hi, rfl⟩ := List.mem_iff_getElem.1 hc
  have := h i hi
  rwa [clA_at (List.getElem?_eq_getElem hi)] at this
theorem chgV_ok (o : OkL aw) (hf : f < aw.length) (ht : t < aw.length) (hne : f ≠ t) (hx : 0 ≤ x ∧ x ≤ clA aw f) (hn : 0 ≤ n ∧ n ≤ 1073741824 - clA aw t) : OkL (chgV aw f t x n) := okL_of fun i hi => by
  rw [chgV_at hf ht hne]
  have := clA_ok o f
  have := clA_ok o t
  have := clA_ok o i
  split
  · omega
  · split <;> omega
theorem chgV_le (hf : f < aw.length) (ht : t < aw.length) (hne : f ≠ t) (h : n ≤ m) : LeL (chgV aw f t x n) (chgV aw f t x m) := ⟨by rw [chgV_len, chgV_len], fun i _ => by
  rw [chgV_at hf ht hne, chgV_at hf ht hne]
  split
  · omega
  · exact Int.le_refl _⟩
theorem chgV_zero (hf : f < aw.length) (ht : t < aw.length) (hne : f ≠ t) (hx : 0 ≤ x) : LeL (chgV aw f t x 0) aw := ⟨chgV_len, fun i _ => by
  rw [chgV_at hf ht hne]
  split
  · rename_i e; rw [e]; omega
  · split
    · rename_i e; rw [e]; omega
    · exact Int.le_refl _⟩
/-- The greatest number up to hi for which something holds. -/
structure Great (p : Int → Bool) (hi res : Int) : Prop where
  lo : 0 ≤ res
  le : res ≤ hi
  yes : p res = true
  no : ∀ v, res < v → v ≤ hi → p v = false
theorem Great.uniq {p : Int → Bool} {hi a b : Int} (h : Great p hi a) (k : Great p hi b) : a = b := by
  rcases Int.lt_trichotomy a b with q | q | q
  · have := h.no b q k.le; rw [k.yes] at this; cases this
  · exact q
  · have := k.no a q h.le; rw [h.yes] at this; cases this
/-- What to gets for litres of from. -/
def gotP (d : Dist) (bf aw : List Int) (f t : Nat) (x : Int) (n : Int) : Bool := harmB d bf (chgV aw f t x n)
def GotV (d : Dist) (bf aw : List Int) (f t : Nat) (x g : Int) : Prop := Great (gotP d bf aw f t x) (1073741824 - clA aw t) g
/-- What a move needs. -/
structure MvOk (d : Dist) (bf aw : List Int) (f t : Nat) (x : Int) : Prop where
  hd : headsV d aw = some bf
  hf : f < d.farms.length
  ht : t < d.farms.length
  ne : f ≠ t
  hx : 0 ≤ x ∧ x ≤ clA aw f
variable {bf : List Int}
theorem MvOk.rdy (M : MvOk d bf aw f t x) : Rdy d aw bf := (headsV_some M.hd).2.2
theorem MvOk.fl (M : MvOk d bf aw f t x) : f < aw.length ∧ t < aw.length := by rw [M.rdy.lc]; exact ⟨M.hf, M.ht⟩
theorem MvOk.hi (M : MvOk d bf aw f t x) : 0 ≤ 1073741824 - clA aw t := by have := clA_ok M.rdy.okc t; omega
theorem MvOk.mono (M : MvOk d bf aw f t x) {n m : Int} (hn : 0 ≤ n) (h : n ≤ m) (hm : m ≤ 1073741824 - clA aw t) (hp : gotP d bf aw f t x m = true) : gotP d bf aw f t x n = true :=
  harmB_mono (chgV_le M.fl.1 M.fl.2 M.ne h) (chgV_ok M.rdy.okc M.fl.1 M.fl.2 M.ne M.hx ⟨hn, by omega⟩) hp
theorem MvOk.zero (M : MvOk d bf aw f t x) : gotP d bf aw f t x 0 = true := by
  refine harmB_mono (aw' := aw) (chgV_zero M.fl.1 M.fl.2 M.ne M.hx.1) (chgV_ok M.rdy.okc M.fl.1 M.fl.2 M.ne M.hx ⟨Int.le_refl _, M.hi⟩) (harmB_iff.2 ⟨bf, M.hd, Int.le_refl _, fun r _ => by omega⟩)
/-- After a move the awards are right again. -/
theorem MvOk.next (_M : MvOk d bf aw f t x) {g : Int} (G : GotV d bf aw f t x g) : ∃ l, headsV d (chgV aw f t x g) = some l ∧ clA l 0 ≤ clA bf 0 ∧ ∀ r, r < d.reaches.length → clA l r ≤ max (clA bf r) (rcC d r).cap := harmB_iff.1 G.yes
end
end Go.Proofs.YtcpogcdadlcdaaaGreat

/- Layer 46: contracts of in, heads, Clone, changed, greatest. -/
namespace Go.Proofs.YtcpogcdadlcdaaaGreat
open Go Go.RowKit

/-- A slice asked for nil. -/
theorem eqNilJ {P : Program} {t e : TypeId} {sz : Nat} [h : SliceTy P t e sz] {xo yo : Operand} {A : Option Addr} {n c : Nat} {K : Value → Prop} (k1 : A = none → K (.bool true)) (k2 : A ≠ none → K (.bool false)) : BinP P .eql t xo yo (.slice A n c) (.slice none 0 0) K := by
  rw [BinP_eq]
  obtain ⟨hu, _⟩ := sliceOf_spec h.h
  refine pure_vval (x := .bool A.isNone) (fun w => ?_) ?_
  · have h1 : (eqGuard .eql t xo yo (.slice A n c) (.slice none 0 0)).run P w = .ok () w := rfl
    have h2 : binOp .eql t (.slice A n c) (.slice none 0 0) = (do pure (.bool (← Op.equal t (.slice A n c) (.slice none 0 0)))) := rfl
    rw [Sem.run_bind, h1, h2]
    simp only [Result.andThen_ok, Sem.run_bind, run_equal_slice_nil w t e A n c hu, Sem.run_pure]
  · cases A with
    | none => exact k1 rfl
    | some a => exact k2 (by simp)
theorem flatJ_eq {D : Nat → Prop} {w : World} : ∀ {xs : List Int} {cs : List Value}, FlatR tInt D w xs cs → cs = xs.map fun v => Value.int .i64 v
  | [], _, h => h
  | y :: r, _, ⟨c1, r1, h, ⟨h1, _⟩, h2⟩ => by rw [h, h1, flatJ_eq h2]; rfl
/-- A block that begins with numbers. -/
theorem blkPre {w : World} {b n : Nat} {t : TypeId} {l : List Int} {rest : List Value} {D : Nat → Prop} (h : Blk w b t (ivs l ++ rest)) (hn : n = l.length) (hl : ∀ x ∈ l, I64 x) (hle : n ≤ 140737488355328) (hD : D b) : SlR tInt D w (some (ad b 0)) n l :=
  SlR.of_cells hn hle hD (fun k v hv => by
    rw [Nat.zero_add]
    exact h.cell (by rw [List.getElem?_append_left (List.getElem?_eq_some_iff.1 hv).1]; exact hv)) (flat_ints hl)
theorem ivs_pre {l : List Int} {rest : List Value} {i : Nat} {x : Int} (h : i < l.length) : (ivs l ++ rest).set i (iv x) = ivs (l.set i x) ++ rest := by
  rw [← ivs_set, List.set_append_left _ _ (by simpa [ivs] using h)]
section
variable {D : Nat → Prop} {w : World}
theorem c_hin {n lo hi : Int} : CallZ Tryz.prog 21 #[iv n, iv lo, iv hi] w (fun v w' => v = .bool (inI n lo hi) ∧ w' = w) := by
  refine fn_rule (args := [iv n, iv lo, iv hi]) Tryz.func21 (by kernel_rfl) ?_
  refine cD (fun g1 => ?_) (fun g1 => ?_)
  · refine cD (fun g2 => ?_) (fun g2 => ?_)
    · exact ret1 (.bool true) rfl ⟨by rw [inI_iff.2 ⟨g1, g2⟩], rfl⟩
    · exact ret1 (.bool false) rfl ⟨by rw [inI_not.2 (fun h => g2 h.2)], rfl⟩
  · exact ret1 (.bool false) rfl ⟨by rw [inI_not.2 (fun h => g1 h.1)], rfl⟩
theorem c_hheads {csd : List Value} {d : Dist} {cl : List Int} {A : Option Addr} {n c : Nat} (hd : DiR D w csd d) (hl : SlR tInt D w A n cl) : CallZ Tryz.prog 20 #[.agg csd.toArray, .slice A n c] w (fun v w' => Ext w w' ∧ ((headsV d cl = none ∧ ∃ B nb cb, v = .tuple #[.slice B nb cb, .bool false]) ∨
    ∃ hs bh, headsV d cl = some hs ∧ v = .tuple #[.slice (some (ad bh 0)) d.reaches.length d.reaches.length, .bool true] ∧ w.heap.size ≤ bh ∧ Blk w' bh 3 (ivs hs))) := by
  have hd0 := hd
  obtain ⟨A1, n1, c1, A2, n2, c2, A3, n3, c3, A4, n4, c4, A5, n5, c5, A6, n6, c6, rfl, hr, hf, -⟩ := hd.ex
  refine fn_rule (args := [.agg #[.string d.name, iv d.hours, iv d.cap, iv d.start, .slice A1 n1 c1, .slice A2 n2 c2, .slice A3 n3 c3, .slice A4 n4 c4, .slice A5 n5 c5, .slice A6 n6 c6], .slice A n c]) Tryz.func20 (by kernel_rfl) ?_
  refine box (fun b1 w1 h1 => ?_)
  have B1 : Blk w1 b1 31 [.string d.name, iv d.hours, iv d.cap, iv d.start, .slice A1 n1 c1, .slice A2 n2 c2, .slice A3 n3 c3, .slice A4 n4 c4, .slice A5 n5 c5, .slice A6 n6 c6] := h1.blk
  have s1 := h1.ext.size
  refine ldA [.string d.name, iv d.hours, iv d.cap, iv d.start, .slice A1 n1 c1, .slice A2 n2 c2, .slice A3 n3 c3, .slice A4 n4 c4, .slice A5 n5 c5, .slice A6 n6 c6] (.blk B1) rfl ?_
  refine call_of (c_dNeeds (hd0.ext h1.ext) (hl.ext h1.ext)) ?_
  rintro _ w2 ⟨x2, ⟨h, rfl⟩ | ⟨h, hn, rfl⟩ | ⟨h, hs, bh, hn, rfl, hb, Bh⟩⟩
  · exact ret2 (.slice none 0 0) (.bool false) rfl rfl ⟨h1.ext.trans x2, .inl ⟨by unfold headsV; rw [if_neg h], _, _, _, rfl⟩⟩
  · exact ret2 (.slice none 0 0) (.bool false) rfl rfl ⟨h1.ext.trans x2, .inl ⟨by unfold headsV; rw [if_pos h]; exact hn, _, _, _, rfl⟩⟩
  · refine cE (fun _ => ?_) (fun h => absurd rfl h)
    exact ret2 (.slice (some (ad bh 0)) d.reaches.length d.reaches.length) (.bool true) rfl rfl ⟨h1.ext.trans x2, .inr ⟨hs, bh, by unfold headsV; rw [if_pos h]; exact hn, rfl, by omega, Bh⟩⟩
theorem c_cloneJ {A : Option Addr} {n c : Nat} {xs : List Int} (ha : SlR tInt D w A n xs) (hn : n ≤ 1000000) (hi : ∀ x ∈ xs, I64 x) : CallZ Tryz.prog 27 #[.slice A n c] w
    (fun v w' => Ext w w' ∧ ∃ A' c', v = .slice A' n c' ∧ SlR tInt (fun b => w.heap.size ≤ b) w' A' n xs ∧ (0 < n → ∃ q rest, A' = some (ad q 0) ∧ Blk w' q 3 (ivs xs ++ rest) ∧ w.heap.size ≤ q)) := by
  have hl := ha.len
  refine fn_rule (args := [.slice A n c]) Tryz.func27 (by kernel_rfl) ?_
  refine eqNilJ (fun hA => ?_) (fun hA => ?_)
  · have h0 : n = 0 := by
      by_cases h : 0 < n
      · obtain ⟨b, o, cs, x, e, _⟩ := ha.at_ (k := 0) h
        rw [hA] at e; cases e
      · omega
    subst h0
    have hx : xs = [] := List.eq_nil_of_length_eq_zero (by omega)
    subst hx
    exact ret1 (.slice none 0 0) rfl ⟨.refl _ _, none, 0, rfl, .nil, fun h => by omega⟩
  · refine lit [] (fun g w1 h1 => ?_)
    have ha1 := ha.ext h1.ext
    have o1 : OwnF w w1 (some (ad g 0)) 0 0 3 1 [] := OwnF.lit (cs := []) (.refl _ _) h1 rfl
    have hsrc : Src w1 A n 1 (xs.map fun v => Value.int .i64 v) := by
      refine ⟨by rw [List.length_map]; omega, fun hn0 => ?_⟩
      obtain ⟨b, o, cs, x, rfl, _⟩ := ha1.at_ hn0
      obtain ⟨cs2, hf, hc⟩ := ha1.cells
      refine ⟨b, o, rfl, ?_⟩
      rw [← flatJ_eq hf]; exact hc
    refine appF o1 hsrc (by omega) (fun A' c' w3 o3 _ _ => ?_) (h1 := by rw [List.all_map]; exact List.all_eq_true.2 fun _ _ => rfl)
    rw [List.nil_append] at o3
    refine ret1 (.slice A' (0 + n) c') rfl ⟨o3.ext, A', c', by rw [Nat.zero_add], ?_, fun hp => ?_⟩
    · have := o3.ints (D := fun b => w.heap.size ≤ b) hi (by omega) fun _ h => h
      rwa [Nat.zero_add] at this
    · rcases o3.form with ⟨_, e1, -⟩ | ⟨q, e0, hg1, hg2, -⟩
      · omega
      · subst e0
        obtain ⟨rest, hb, -, -⟩ := o3.own.blk
        exact ⟨q, rest, rfl, hb, hg1⟩
theorem c_hchanged {A : Option Addr} {n c f t : Nat} {aw : List Int} {x g : Int} (ha : SlR tInt D w A n aw) (hn : n ≤ 1000) (o : OkL aw) (hf : f < n) (ht : t < n) (hne : f ≠ t) (hx : 0 ≤ x ∧ x ≤ clA aw f) (hg : 0 ≤ g ∧ g ≤ 1073741824 - clA aw t) :
    CallZ Tryz.prog 43 #[.slice A n c, iv (f : Int), iv (t : Int), iv x, iv g] w (fun v w' => Ext w w' ∧ ∃ A' c', v = .slice A' n c' ∧ SlR tInt (fun b => w.heap.size ≤ b) w' A' n (chgV aw f t x g)) := by
  have hl := ha.len
  have of_ := clA_ok o f
  have ot := clA_ok o t
  refine fn_rule (args := [.slice A n c, iv (f : Int), iv (t : Int), iv x, iv g]) Tryz.func43 (by kernel_rfl) ?_
  refine call_of (c_cloneJ ha (by omega) (okL_i64 o)) ?_
  rintro _ w1 ⟨x1, A', c', rfl, s1, hp⟩
  obtain ⟨q, rest, rfl, B, hq⟩ := hp (by omega)
  have z1 := x1.size
  have at_ : ∀ {w : World} {l : List Int} {i : Nat}, Blk w q 3 (ivs l ++ rest) → i < l.length → w.cell? (ad q (0 + i * tInt.sz)) = some (iv (clA l i)) := fun {w l i} hb hi => by
    have e : (0 + i * tInt.sz) = i := by rw [Nat.zero_add]; exact Nat.mul_one i
    rw [e]
    refine hb.cell ?_
    rw [List.getElem?_append_left (by simpa [ivs] using hi)]
    unfold ivs
    rw [List.getElem?_map, List.getElem?_eq_getElem hi, clA_at (List.getElem?_eq_getElem hi)]; rfl
  refine idx f rfl hf ?_
  refine ld (iv (clA aw f)) (at_ B (by omega)) ?_
  refine arI (by omega) ?_
  refine idx f rfl hf ?_
  refine st (v := iv (clA aw f - x)) B (by simp [ivs]; omega) rfl (fun w2 B2 k2 z2 => ?_)
  have B2 : Blk w2 q 3 (ivs (aw.set f (clA aw f - x)) ++ rest) := by rw [← ivs_pre (by omega)]; simpa using B2
  have e2 : clA (aw.set f (clA aw f - x)) t = clA aw t := by rw [clA_set (by omega), if_neg hne]
  refine idx t rfl ht ?_
  refine ld (iv (clA (aw.set f (clA aw f - x)) t)) (at_ B2 (by rw [List.length_set]; omega)) ?_
  refine arI (by rw [e2]; omega) ?_
  refine idx t rfl ht ?_
  refine st (v := iv (clA (aw.set f (clA aw f - x)) t + g)) B2 (by simp [ivs]; omega) rfl (fun w3 B3 k3 z3 => ?_)
  have B3 : Blk w3 q 3 (ivs (chgV aw f t x g) ++ rest) := by
    unfold chgV
    rw [← ivs_pre (by rw [List.length_set]; omega)]; simpa using B3
  have oc := chgV_ok o (by omega : f < aw.length) (by omega) hne hx hg
  refine ret1 (.slice (some (ad q 0)) n c') rfl ⟨(x1.then k2 fun b hb _ e => by omega).then k3 fun b hb _ e => by omega, _, _, rfl, blkPre B3 (by rw [chgV_len]; omega) (okL_i64 oc) (by omega) hq⟩
/-- The greatest number, by halving. -/
theorem c_hgreat {hi : Int} {p : Int → Bool} {fn : FuncId} {cap : Array Value} [he : Enters Tryz.prog fn] (h0 : 0 ≤ hi ∧ hi ≤ 1073741824) (hz : p 0 = true) (hm : ∀ v v' : Int, 0 ≤ v → v ≤ v' → v' ≤ hi → p v' = true → p v = true)
    (hc : ∀ (v : Int) (w' : World), 0 ≤ v → v ≤ hi → Ext w w' → CallZ Tryz.prog fn ([iv v] ++ cap.toList).toArray w' (fun u w'' => u = .bool (p v) ∧ Ext w' w'')) :
    CallZ Tryz.prog 41 #[iv 0, iv hi, .func (.func fn) #[] cap] w (fun v w' => ∃ k : Int, v = iv k ∧ Great p hi k ∧ Ext w w') := by
  refine fn_rule (args := [iv 0, iv hi, .func (.func fn) #[] cap]) Tryz.func41 (by kernel_rfl) ?_
  refine loop2 (fun (a b : Int) => [(0, iv a), (1, iv b)]) (fun a b w' => (0 ≤ a ∧ a ≤ b ∧ b ≤ hi ∧ p a = true ∧ ∀ v, b < v → v ≤ hi → p v = false) ∧ Ext w w') (fun a b _ => (b - a).toNat) 0 hi ⟨rfl, rfl, trivial⟩ ⟨⟨by omega, by omega, by omega, hz, fun v h1 h2 => by omega⟩, .refl _ _⟩ rfl ?_
  rintro G a b w' ⟨⟨h1, h2, h3, h4, h5⟩, xw⟩
  refine cD (fun hlt => ?_) (fun hge => ?_)
  · refine arI (by omega) ?_
    refine quoI (by omega) (by omega) (by omega) ?_
    refine arI (by omega) ?_
    obtain ⟨m, hmm⟩ : ∃ m, m = b - (b - a) / 2 := ⟨_, rfl⟩
    rw [← hmm]
    refine callE (hc m w' (by omega) (by omega) xw) (fun w2 hp x2 => ?_) (fun w2 hp x2 => ?_)
    · exact next2 m b ⟨rfl, rfl, trivial⟩ ⟨⟨by omega, by omega, by omega, hp, h5⟩, xw.trans x2⟩ (by omega)
    · refine arI (by omega) ?_
      refine next2 a (m - 1) ⟨rfl, rfl, trivial⟩ ⟨⟨by omega, by omega, by omega, h4, fun v hv1 hv2 => ?_⟩, xw.trans x2⟩ (by omega)
      cases hv : p v with
      | false => rfl
      | true => rw [hm m v (by omega) (by omega) hv2 hv] at hp; cases hp
  · have : a = b := by omega
    subst this
    exact ret1 (iv a) rfl ⟨a, rfl, ⟨h1, h3, h4, h5⟩, xw⟩
end
end Go.Proofs.YtcpogcdadlcdaaaGreat
