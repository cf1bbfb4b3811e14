/- Parts of the proof: Da Db Dc Dd De Df Dh Di. -/
import Derived.Test.YtmjcaclakggafaaGreatM9
import Derived.Test.YtmjcaclakggafaaGreatM3
import Derived.Test.YtmjcaclakggafaaGreatM8
import Derived.Test.YtmjcaclakggafaaGreatM4
import Derived.Test.YtmjcaclakggafaaGreatM7

/- Layer 41: contracts of Needs, open, Shares, Part. -/
namespace Go.Proofs.YtmjcaclakggafaaGreat
open Go Go.RowKit

instance eqPart : EqTy Tryz.prog 73 := ⟨by kernel_rfl⟩
/-- What Needs answers. -/
def NeedsR (w w' : World) (d : Dist) (cl : List Int) (v : Value) : Prop :=
  (divErr d cl ≠ 0 ∧ v = .tuple #[.slice none 0 0, .bool false, iv (divErr d cl)]) ∨
  (divErr d cl = 0 ∧ needsV d cl = none ∧ v = .tuple #[.slice none 0 0, .bool false, iv 0]) ∨
  (divErr d cl = 0 ∧ ∃ hs bh, needsV d cl = some hs ∧ v = .tuple #[.slice (some (ad bh 0)) d.reaches.length d.reaches.length, .bool true, iv 0] ∧ w.heap.size ≤ bh ∧ Blk w' bh 3 (ivs hs))
def openErr (d : Dist) (cl : List Int) : Int := if divErr d cl ≠ 0 then divErr d cl else if needsV d cl = none then 410 else 0
theorem openErr_ok {d : Dist} {cl : List Int} : openErr d cl = 0 ↔ divErr d cl = 0 ∧ ∃ hs, needsV d cl = some hs := by
  unfold openErr
  by_cases h : divErr d cl = 0
  · rw [if_neg (fun q => q h)]
    cases hn : needsV d cl with
    | none => simp [h]
    | some hs => simp [h]
  · rw [if_pos h]; simp [h]
def shErr (d : Dist) (cl : List Int) (r : Int) : Int := if openErr d cl ≠ 0 then openErr d cl else if 0 ≤ r ∧ r < d.reaches.length then 0 else 1
def ptErr (d : Dist) (i : Int) : Int := if dErr d ≠ 0 then dErr d else if 0 ≤ i ∧ i < d.farms.length then 0 else 1
section
variable {D : Nat → Prop} {w : World}
theorem c_dNeeds {csd : List Value} {d : Dist} {cl : List Int} {A : Option Addr} {n c : Nat} (hd : DiR D w csd d) (hl : SlR tInt D w A n cl) : CallZ Tryz.prog 7 #[.agg csd.toArray, .slice A n c] w (fun v w' => Ext w w' ∧ NeedsR w w' d cl v) := by
  have hd0 := hd
  obtain ⟨A1, n1, c1, A2, n2, c2, A3, n3, c3, A4, n4, c4, A5, n5, c5, A6, n6, c6, rfl, hr, hf, -⟩ := hd.ex
  have lr := hr.len
  have ll := hl.len
  refine fn_rule (args := [.agg #[.string d.name, iv d.hours, iv d.cap, iv d.start, .slice A1 n1 c1, .slice A2 n2 c2, .slice A3 n3 c3, .slice A4 n4 c4, .slice A5 n5 c5, .slice A6 n6 c6], .slice A n c]) Tryz.func7 (by kernel_rfl) ?_
  refine box (fun b1 w1 h1 => ?_)
  have B1 : Blk w1 b1 31 [.string d.name, iv d.hours, iv d.cap, iv d.start, .slice A1 n1 c1, .slice A2 n2 c2, .slice A3 n3 c3, .slice A4 n4 c4, .slice A5 n5 c5, .slice A6 n6 c6] := h1.blk
  refine ldA [.string d.name, iv d.hours, iv d.cap, iv d.start, .slice A1 n1 c1, .slice A2 n2 c2, .slice A3 n3 c3, .slice A4 n4 c4, .slice A5 n5 c5, .slice A6 n6 c6] (.blk B1) rfl ?_
  refine call_of (c_dcheck (hd0.ext h1.ext) (hl.ext h1.ext)) ?_
  rintro _ w2 ⟨rfl, x2⟩
  have B1 := B1.ext x2
  have xx := h1.ext.trans x2
  refine cN (fun g => ?_) (fun g => ?_)
  · exact ret3 (.slice none 0 0) (.bool false) (iv (divErr d cl)) rfl rfl rfl ⟨xx, .inl ⟨g, rfl⟩⟩
  have g : divErr d cl = 0 := g
  obtain ⟨g1, g2⟩ := divErr_ok.1 g
  have V := val_of g1
  obtain ⟨k1, k2⟩ := claimOk_iff.1 g2
  refine ldA [.string d.name, iv d.hours, iv d.cap, iv d.start, .slice A1 n1 c1, .slice A2 n2 c2, .slice A3 n3 c3, .slice A4 n4 c4, .slice A5 n5 c5, .slice A6 n6 c6] (.blk B1) rfl ?_
  refine call_of (c_dgrow (hr.ext xx) (hf.ext xx) ⟨V.n.2, V.f⟩) ?_
  rintro _ w3 ⟨gm, rfl, x3, T⟩
  have x03 := xx.trans x3
  refine call_of (c_dneeds (D := fun _ => True) V ((hr.ext x03).more (by decide) fun _ _ _ => trivial) ⟨trivial, T.ex.imp fun m hm => ⟨hm.1, fun r => by obtain ⟨A, n, c, e, hs, hc⟩ := hm.2 r; exact ⟨A, n, c, e, hs.more (by decide) fun _ _ _ => trivial, hc⟩⟩⟩ ((hl.ext x03).more (by decide) fun _ _ _ => trivial) k2 (by omega)) ?_
  rintro _ w4 ⟨x4, ⟨hno, rfl⟩ | ⟨hs, bh, hne, rfl, hb, Bh⟩⟩
  · exact ret3 (.slice none 0 0) (.bool false) (iv 0) rfl rfl rfl ⟨x03.trans x4, .inr (.inl ⟨g, hno, rfl⟩)⟩
  · exact ret3 (.slice (some (ad bh 0)) n1 n1) (.bool true) (iv 0) rfl rfl rfl ⟨x03.trans x4, .inr (.inr ⟨g, hs, bh, hne, by rw [lr], by have := x03.size; omega, Bh⟩)⟩
set_option maxRecDepth 4000 in
theorem c_dopen {d : Dist} {cl : List Int} {A1 A2 A3 A4 A5 A6 A : Option Addr} {n1 c1 n2 c2 n3 c3 n4 c4 n5 c5 n6 c6 n c : Nat} (hd : DiR D w [.string d.name, iv d.hours, iv d.cap, iv d.start, .slice A1 n1 c1, .slice A2 n2 c2, .slice A3 n3 c3, .slice A4 n4 c4, .slice A5 n5 c5, .slice A6 n6 c6] d) (hr : SlR tReach D w A1 n1 d.reaches) (hf : SlR tFarm D w A2 n2 d.farms) (hl : SlR tInt D w A n cl) :
    CallZ Tryz.prog 24 #[.agg #[.string d.name, iv d.hours, iv d.cap, iv d.start, .slice A1 n1 c1, .slice A2 n2 c2, .slice A3 n3 c3, .slice A4 n4 c4, .slice A5 n5 c5, .slice A6 n6 c6], .slice A n c] w (fun v w' => Ext w w' ∧ ((openErr d cl ≠ 0 ∧ ∃ ts : List Value, ts.length = 11 ∧ ts.all (fun u => u.oneCell') = true ∧ v = .tuple #[.agg ts.toArray, .slice none 0 0, iv (openErr d cl)]) ∨
      (openErr d cl = 0 ∧ ∃ hs bh g, needsV d cl = some hs ∧ v = .tuple #[.agg #[.string d.name, iv d.hours, iv d.cap, iv d.start, .slice A1 n1 c1, .slice A2 n2 c2, .slice A3 n3 c3, .slice A4 n4 c4, .slice A5 n5 c5, .slice A6 n6 c6, .map (some g)], .slice (some (ad bh 0)) n1 n1, iv 0] ∧ w.heap.size ≤ bh ∧ Blk w' bh 3 (ivs hs) ∧ TreR (fun b => w.heap.size ≤ b) w' g d))) := by
  have lr := hr.len
  have ll := hl.len
  refine fn_rule (args := [.agg #[.string d.name, iv d.hours, iv d.cap, iv d.start, .slice A1 n1 c1, .slice A2 n2 c2, .slice A3 n3 c3, .slice A4 n4 c4, .slice A5 n5 c5, .slice A6 n6 c6], .slice A n c]) Tryz.func24 (by kernel_rfl) ?_
  refine box (fun b1 w1 h1 => ?_)
  refine alloc (fun b2 w2 h2 => ?_)
  have e1 := h1.at_
  have e2 := h2.at_
  have s1 := h1.size
  have s2 := h2.size
  have x2 := h1.ext.trans h2.ext
  have B1 : Blk w2 b1 31 [.string d.name, iv d.hours, iv d.cap, iv d.start, .slice A1 n1 c1, .slice A2 n2 c2, .slice A3 n3 c3, .slice A4 n4 c4, .slice A5 n5 c5, .slice A6 n6 c6] := h1.blk.ext h2.ext
  have B2 : Blk w2 b2 56 [.string ByteArray.empty, iv 0, iv 0, iv 0, .slice none 0 0, .slice none 0 0, .slice none 0 0, .slice none 0 0, .slice none 0 0, .slice none 0 0, .map none] := h2.blk
  refine ldA [.string d.name, iv d.hours, iv d.cap, iv d.start, .slice A1 n1 c1, .slice A2 n2 c2, .slice A3 n3 c3, .slice A4 n4 c4, .slice A5 n5 c5, .slice A6 n6 c6] (.blk B1) rfl ?_
  refine call_of (c_dcheck (hd.ext x2) (hl.ext x2)) ?_
  rintro _ w3 ⟨rfl, x3⟩
  have x03 := x2.trans x3
  have B1 := B1.ext x3
  have B2 := B2.ext x3
  have z3 := x3.size
  refine cN (fun g => ?_) (fun g => ?_)
  · refine ldA [.string ByteArray.empty, iv 0, iv 0, iv 0, .slice none 0 0, .slice none 0 0, .slice none 0 0, .slice none 0 0, .slice none 0 0, .slice none 0 0, .map none] (.blk B2) rfl ?_
    refine stA (vs := [.string ByteArray.empty, iv 0, iv 0, iv 0, .slice none 0 0, .slice none 0 0, .slice none 0 0, .slice none 0 0, .slice none 0 0, .slice none 0 0, .map none]) B2 rfl (Nat.le_of_ble_eq_true rfl) (by simp [Value.oneCell']) (fun w4 B4 k4 z4 => ?_)
    have B4 : Blk w4 b2 56 [.string ByteArray.empty, iv 0, iv 0, iv 0, .slice none 0 0, .slice none 0 0, .slice none 0 0, .slice none 0 0, .slice none 0 0, .slice none 0 0, .map none] := B4
    refine ret ?_
    refine resL _ (holds_agg (CellsAt.blk B4) rfl) ?_
    have eo : openErr d cl = divErr d cl := by unfold openErr; rw [if_pos g]
    exact ⟨x03.then k4 fun b hb _ e => by omega, .inl ⟨by rw [eo]; exact g, [.string ByteArray.empty, iv 0, iv 0, iv 0, .slice none 0 0, .slice none 0 0, .slice none 0 0, .slice none 0 0, .slice none 0 0, .slice none 0 0, .map none], rfl, rfl, by rw [eo]; rfl⟩⟩
  have g : divErr d cl = 0 := g
  obtain ⟨g1, g2⟩ := divErr_ok.1 g
  have V := val_of g1
  obtain ⟨k1, k2⟩ := claimOk_iff.1 g2
  refine ldA [.string d.name, iv d.hours, iv d.cap, iv d.start, .slice A1 n1 c1, .slice A2 n2 c2, .slice A3 n3 c3, .slice A4 n4 c4, .slice A5 n5 c5, .slice A6 n6 c6] (.blk B1) rfl ?_
  refine call_of (c_dgrow (hr.ext x03) (hf.ext x03) ⟨V.n.2, V.f⟩) ?_
  rintro _ w4 ⟨gm, rfl, x4, T⟩
  have x04 := x03.trans x4
  refine stA (vs := [.string d.name, iv d.hours, iv d.cap, iv d.start, .slice A1 n1 c1, .slice A2 n2 c2, .slice A3 n3 c3, .slice A4 n4 c4, .slice A5 n5 c5, .slice A6 n6 c6, .map (some gm)]) (B2.ext x4) rfl (Nat.le_of_ble_eq_true rfl) (by simp [Value.oneCell']) (fun w5 B5 k5 z5 => ?_)
  have B5 : Blk w5 b2 56 [.string d.name, iv d.hours, iv d.cap, iv d.start, .slice A1 n1 c1, .slice A2 n2 c2, .slice A3 n3 c3, .slice A4 n4 c4, .slice A5 n5 c5, .slice A6 n6 c6, .map (some gm)] := B5
  have z4 := x4.size
  have x05 : Ext w w5 := x04.then k5 fun b hb _ e => by omega
  have T0 : TreR (fun b => w3.heap.size ≤ b) w5 gm d := T.kept k5 fun b hb h => by omega
  have T5 : TreR (fun b => w.heap.size ≤ b) w5 gm d := ⟨by have := T0.own; have := x03.size; omega, T0.ex.imp fun m hm => ⟨hm.1, fun r => by obtain ⟨A, n, c, e, hs, hc⟩ := hm.2 r; exact ⟨A, n, c, e, hs.more (by decide) fun b _ h => by have := x03.size; omega, hc⟩⟩⟩
  refine ldA [.string d.name, iv d.hours, iv d.cap, iv d.start, .slice A1 n1 c1, .slice A2 n2 c2, .slice A3 n3 c3, .slice A4 n4 c4, .slice A5 n5 c5, .slice A6 n6 c6, .map (some gm)] (.blk B5) rfl ?_
  refine call_of (c_dneeds (D := fun _ => True) V ((hr.ext x05).more (by decide) fun _ _ _ => trivial) ⟨trivial, T5.ex.imp fun m hm => ⟨hm.1, fun r => by obtain ⟨A, n, c, e, hs, hc⟩ := hm.2 r; exact ⟨A, n, c, e, hs.more (by decide) fun _ _ _ => trivial, hc⟩⟩⟩ ((hl.ext x05).more (by decide) fun _ _ _ => trivial) k2 (by omega)) ?_
  rintro _ w6 ⟨x6, ⟨hno, rfl⟩ | ⟨hs, bh, hne, rfl, hb, Bh⟩⟩
  · have B6 := B5.ext x6
    refine ldA [.string d.name, iv d.hours, iv d.cap, iv d.start, .slice A1 n1 c1, .slice A2 n2 c2, .slice A3 n3 c3, .slice A4 n4 c4, .slice A5 n5 c5, .slice A6 n6 c6, .map (some gm)] (.blk B6) rfl ?_
    refine stA (vs := [.string d.name, iv d.hours, iv d.cap, iv d.start, .slice A1 n1 c1, .slice A2 n2 c2, .slice A3 n3 c3, .slice A4 n4 c4, .slice A5 n5 c5, .slice A6 n6 c6, .map (some gm)]) B6 rfl (Nat.le_of_ble_eq_true rfl) (by simp [Value.oneCell']) (fun w7 B7 k7 z7 => ?_)
    have B7 : Blk w7 b2 56 [.string d.name, iv d.hours, iv d.cap, iv d.start, .slice A1 n1 c1, .slice A2 n2 c2, .slice A3 n3 c3, .slice A4 n4 c4, .slice A5 n5 c5, .slice A6 n6 c6, .map (some gm)] := B7
    refine ret ?_
    refine resL _ (holds_agg (CellsAt.blk B7) rfl) ?_
    have eo : openErr d cl = 410 := by unfold openErr; rw [if_neg (fun h => h g), if_pos hno]
    exact ⟨(x05.trans x6).then k7 fun b hb _ e => by omega, .inl ⟨by rw [eo]; decide, [.string d.name, iv d.hours, iv d.cap, iv d.start, .slice A1 n1 c1, .slice A2 n2 c2, .slice A3 n3 c3, .slice A4 n4 c4, .slice A5 n5 c5, .slice A6 n6 c6, .map (some gm)], rfl, rfl, by rw [eo]; rfl⟩⟩
  · have B6 := B5.ext x6
    refine ldA [.string d.name, iv d.hours, iv d.cap, iv d.start, .slice A1 n1 c1, .slice A2 n2 c2, .slice A3 n3 c3, .slice A4 n4 c4, .slice A5 n5 c5, .slice A6 n6 c6, .map (some gm)] (.blk B6) rfl ?_
    refine stA (vs := [.string d.name, iv d.hours, iv d.cap, iv d.start, .slice A1 n1 c1, .slice A2 n2 c2, .slice A3 n3 c3, .slice A4 n4 c4, .slice A5 n5 c5, .slice A6 n6 c6, .map (some gm)]) B6 rfl (Nat.le_of_ble_eq_true rfl) (by simp [Value.oneCell']) (fun w7 B7 k7 z7 => ?_)
    have B7 : Blk w7 b2 56 [.string d.name, iv d.hours, iv d.cap, iv d.start, .slice A1 n1 c1, .slice A2 n2 c2, .slice A3 n3 c3, .slice A4 n4 c4, .slice A5 n5 c5, .slice A6 n6 c6, .map (some gm)] := B7
    refine ret ?_
    refine resL _ (holds_agg (CellsAt.blk B7) rfl) ?_
    have eo : openErr d cl = 0 := openErr_ok.2 ⟨g, hs, hne⟩
    have z05 := x05.size
    have l5 := B5.lt
    exact ⟨(x05.trans x6).then k7 fun b hb _ e => by omega, .inr ⟨eo, hs, bh, gm, hne, by rfl, by omega, Bh.kept k7 (by omega), ⟨T5.own, ((T0.ext x6).kept k7 fun b hb h => by omega).ex.imp fun m hm => ⟨hm.1, fun r => by obtain ⟨A, n, c, e, hs, hc⟩ := hm.2 r; exact ⟨A, n, c, e, hs.more (by decide) fun b _ h => by have := x03.size; omega, hc⟩⟩⟩⟩⟩
theorem c_dShares {csd : List Value} {d : Dist} {cl : List Int} {A : Option Addr} {n c : Nat} {r : Int} (hd : DiR D w csd d) (hl : SlR tInt D w A n cl) : CallZ Tryz.prog 10 #[.agg csd.toArray, .slice A n c, iv r] w (fun v w' => Ext w w' ∧ ((shErr d cl r ≠ 0 ∧ v = .tuple #[.slice none 0 0, iv (shErr d cl r)]) ∨
    (shErr d cl r = 0 ∧ ∃ hs A' n' c', needsV d cl = some hs ∧ v = .tuple #[.slice A' n' c', iv 0] ∧ OwnF w w' A' n' c' 3 1 (ivs (clmV d cl hs r.toNat))))) := by
  have hd0 := hd
  obtain ⟨A1, n1, c1, A2, n2, c2, A3, n3, c3, A4, n4, c4, A5, n5, c5, A6, n6, c6, rfl, hr, hf, -⟩ := hd.ex
  have lr := hr.len
  have lf := hf.len
  have ll := hl.len
  refine fn_rule (args := [.agg #[.string d.name, iv d.hours, iv d.cap, iv d.start, .slice A1 n1 c1, .slice A2 n2 c2, .slice A3 n3 c3, .slice A4 n4 c4, .slice A5 n5 c5, .slice A6 n6 c6], .slice A n c, iv r]) Tryz.func10 (by kernel_rfl) ?_
  refine box (fun b1 w1 h1 => ?_)
  have e1 := h1.at_
  have s1 := h1.size
  have B1 : Blk w1 b1 31 [.string d.name, iv d.hours, iv d.cap, iv d.start, .slice A1 n1 c1, .slice A2 n2 c2, .slice A3 n3 c3, .slice A4 n4 c4, .slice A5 n5 c5, .slice A6 n6 c6] := h1.blk
  refine ldA [.string d.name, iv d.hours, iv d.cap, iv d.start, .slice A1 n1 c1, .slice A2 n2 c2, .slice A3 n3 c3, .slice A4 n4 c4, .slice A5 n5 c5, .slice A6 n6 c6] (.blk B1) rfl ?_
  refine call_of (c_dopen (hd0.ext h1.ext) (hr.ext h1.ext) (hf.ext h1.ext) (hl.ext h1.ext)) ?_
  rintro _ w2 ⟨x2, ⟨g, ts, ht1, ht2, rfl⟩ | ⟨g, hs, bh, gm, hne, rfl, hbh, Bh, T⟩⟩
  · refine alloc (fun b2 w3 h3 => ?_)
    refine stA (vs := ts) h3.blk ht1 (by rw [ht1]; exact Nat.le_of_ble_eq_true rfl) (fun u hu => List.all_eq_true.1 ht2 u hu) (fun w4 B4 k4 z4 => ?_)
    have e3 := h3.at_
    have z2 := x2.size
    have x4 : Ext w w4 := ((h1.ext.trans x2).trans h3.ext).then k4 fun b hb _ e => by omega
    have eo : shErr d cl r = openErr d cl := by unfold shErr; rw [if_pos g]
    refine cN (fun g' => ?_) (fun g' => absurd g' g)
    exact ret2 (.slice none 0 0) (iv (openErr d cl)) rfl rfl ⟨x4, .inl ⟨by rw [eo]; exact g, by rw [eo]⟩⟩
  · have eo : shErr d cl r = if 0 ≤ r ∧ r < d.reaches.length then 0 else 1 := by unfold shErr; rw [if_neg (fun h => h g)]
    obtain ⟨g0, -⟩ := openErr_ok.1 g
    have R := rdy_of g0 hne
    refine alloc (fun b2 w3 h3 => ?_)
    refine stA (vs := [.string d.name, iv d.hours, iv d.cap, iv d.start, .slice A1 n1 c1, .slice A2 n2 c2, .slice A3 n3 c3, .slice A4 n4 c4, .slice A5 n5 c5, .slice A6 n6 c6, .map (some gm)]) h3.blk rfl (Nat.le_of_ble_eq_true rfl) (by simp [Value.oneCell']) (fun w4 B4 k4 z4 => ?_)
    have B4 : Blk w4 b2 56 [.string d.name, iv d.hours, iv d.cap, iv d.start, .slice A1 n1 c1, .slice A2 n2 c2, .slice A3 n3 c3, .slice A4 n4 c4, .slice A5 n5 c5, .slice A6 n6 c6, .map (some gm)] := B4
    have e3 := h3.at_
    have z2 := x2.size
    have z3 := h3.size
    have x24 : Ext w2 w4 := h3.ext.then k4 fun b hb _ e => by omega
    have x4 : Ext w w4 := (h1.ext.trans x2).trans x24
    have B1 := (B1.ext x2).ext x24
    have Bh := Bh.ext x24
    have T := T.ext x24
    refine cN (fun g' => absurd rfl g') (fun _ => ?_)
    refine cD (fun g1 => ?_) (fun g1 => ?_)
    · have e1 : shErr d cl r = 1 := by rw [eo, if_neg (by omega)]
      exact ret2 (.slice none 0 0) (iv 1) rfl rfl ⟨x4, .inl ⟨by rw [e1]; decide, by rw [e1]⟩⟩
    refine fldA ?_
    refine ld (.slice A1 n1 c1) (B1.cell rfl) ?_
    refine len ?_
    refine cD (fun g2 => ?_) (fun g2 => ?_)
    · have e1 : shErr d cl r = 1 := by rw [eo, if_neg (by omega)]
      exact ret2 (.slice none 0 0) (iv 1) rfl rfl ⟨x4, .inl ⟨by rw [e1]; decide, by rw [e1]⟩⟩
    have e1 : shErr d cl r = 0 := by rw [eo, if_pos (by omega)]
    obtain ⟨-, m, Mm, hm⟩ := T
    obtain ⟨P, np, cp, e, hs1, hc⟩ := hm r
    refine fldA ?_
    refine ld (.map (some gm)) (B4.cell rfl) ?_
    refine lookG1 (kv := kvI) r (.slice P np cp) (fun z hz => ⟨m, by rw [hz]; exact Mm, e⟩) ?_
    have lp := hs1.len
    have er : ((r.toNat : Nat) : Int) = r := by omega
    have lc := R.v.len (cl := cl) (hs := hs) (r := r.toNat)
    rw [clmV_len, er] at lc
    refine call_of (c_dclaims (D := fun _ => True) (hs1.more (by decide) fun _ _ _ => trivial) ((hl.ext x4).more (by decide) fun _ _ _ => trivial) (blk_ints (D := fun _ => True) Bh (by rw [R.lh]; omega) R.okh (by have := R.v.n; omega) trivial) (by omega) (fun p hp => ?_) R.okc R.okh) ?_
    · rcases mem_ptsV.1 hp with h | h
      · exact ⟨fun _ => by have := R.lc; omega, fun e => (by rw [h.1] at e; cases e)⟩
      · exact ⟨fun e => (by rw [h.1] at e; cases e), fun _ => by omega⟩
    rintro _ w5 ⟨A', c', rfl, o⟩
    refine ret2 (.slice A' np c') (iv 0) rfl rfl ⟨x4.trans o.ext, .inr ⟨e1, hs, A', np, c', hne, rfl, ?_⟩⟩
    have := o.base x4
    unfold clmV
    rw [er]
    exact this
theorem c_dIndex {ps : List Pt} {p : Pt} {A : Option Addr} {n c : Nat} (h : SlR tPt D w A n ps) (hp : p ∈ ps) : CallZ Tryz.prog 29 #[.slice A n c, .agg (encP p).toArray] w (fun v w' => Ext w w' ∧ ∃ k : Nat, v = iv (k : Int) ∧ ps[k]? = some p) := by
  have ll := h.len
  have hle := h.le
  refine fn_rule (args := [.slice A n c, .agg #[.bool p.1, iv (p.2 : Int)]]) Tryz.func29 (by kernel_rfl) ?_
  refine box (fun b1 w1 h1 => ?_)
  have B1 : Blk w1 b1 73 [.bool p.1, iv (p.2 : Int)] := h1.blk
  refine len ?_
  refine loop_rule (fun k : Nat => [(8, iv (k : Int))]) (fun k u => k ≤ n ∧ w1 = u ∧ p ∉ ps.take k) (fun k _ => n - k) 0 ⟨rfl, trivial⟩ ⟨by omega, rfl, by simp⟩ rfl ?_
  rintro G k u ⟨hk, rfl, hno⟩
  refine cD (fun hlt => ?_) (fun hge => ?_)
  · have hlt : k < n := by omega
    obtain ⟨b, o, cs, x, rfl, hx, -, -, hc, rfl⟩ := (h.ext h1.ext).at_ hlt
    refine drawQ mx (by kernel_rfl) ?_
    refine ldA [.bool p.1, iv (p.2 : Int)] (.blk B1) rfl ?_
    refine idx k rfl hlt ?_
    refine ldA (encP x) hc rfl ?_
    refine eqS ((p.1 == x.1) && (((p.2 : Int) == (x.2 : Int)) && true)) (by kernel_rfl) (fun q => ?_) (fun q => ?_)
    · simp only [Bool.and_true, Bool.and_eq_true, beq_iff_eq] at q
      obtain rfl : p = x := by obtain ⟨p1, p2⟩ := p; obtain ⟨x1, x2⟩ := x; simp only at q; rw [q.1]; congr 1; omega
      exact ret1 (iv (k : Int)) rfl ⟨h1.ext, k, rfl, hx⟩
    · refine arI (by omega) ?_
      refine next (k + 1) ⟨by rw [Int.natCast_add]; rfl, trivial⟩ ⟨by omega, rfl, fun hm => ?_⟩ (by omega)
      rw [List.take_add_one, hx, List.mem_append] at hm
      rcases hm with hm | hm
      · exact hno hm
      · simp at hm
        subst hm
        simp at q
  · rw [List.take_of_length_le (by omega)] at hno
    exact absurd hp hno
theorem c_dPart {csd : List Value} {d : Dist} {i : Int} (hd : DiR D w csd d) : CallZ Tryz.prog 12 #[.agg csd.toArray, iv i] w (fun v w' => Ext w w' ∧ ((ptErr d i ≠ 0 ∧ v = .tuple #[iv 0, iv 0, iv (ptErr d i)]) ∨
    (ptErr d i = 0 ∧ ∃ k : Nat, v = .tuple #[iv (fmC d i.toNat).reach, iv (k : Int), iv 0] ∧ (ptsV d (fmC d i.toNat).reach)[k]? = some (true, i.toNat)))) := by
  have hd0 := hd
  obtain ⟨A1, n1, c1, A2, n2, c2, A3, n3, c3, A4, n4, c4, A5, n5, c5, A6, n6, c6, rfl, hr, hf, -⟩ := hd.ex
  have lr := hr.len
  have lf := hf.len
  refine fn_rule (args := [.agg #[.string d.name, iv d.hours, iv d.cap, iv d.start, .slice A1 n1 c1, .slice A2 n2 c2, .slice A3 n3 c3, .slice A4 n4 c4, .slice A5 n5 c5, .slice A6 n6 c6], iv i]) Tryz.func12 (by kernel_rfl) ?_
  refine box (fun b1 w1 h1 => ?_)
  have B1 : Blk w1 b1 31 [.string d.name, iv d.hours, iv d.cap, iv d.start, .slice A1 n1 c1, .slice A2 n2 c2, .slice A3 n3 c3, .slice A4 n4 c4, .slice A5 n5 c5, .slice A6 n6 c6] := h1.blk
  refine ldA [.string d.name, iv d.hours, iv d.cap, iv d.start, .slice A1 n1 c1, .slice A2 n2 c2, .slice A3 n3 c3, .slice A4 n4 c4, .slice A5 n5 c5, .slice A6 n6 c6] (.blk B1) rfl ?_
  refine call_of (c_eCheck (hd0.ext h1.ext)) ?_
  rintro _ w2 ⟨rfl, x2⟩
  have xx := h1.ext.trans x2
  have B1 := B1.ext x2
  refine cN (fun g => ?_) (fun g => ?_)
  · have e : ptErr d i = dErr d := by unfold ptErr; rw [if_pos g]
    exact ret3 (iv 0) (iv 0) (iv (dErr d)) rfl rfl rfl ⟨xx, .inl ⟨by rw [e]; exact g, by rw [e]⟩⟩
  have g : dErr d = 0 := g
  have V := val_of g
  have e0 : ptErr d i = if 0 ≤ i ∧ i < d.farms.length then 0 else 1 := by unfold ptErr; rw [if_neg (fun h => h g)]
  refine cD (fun g1 => ?_) (fun g1 => ?_)
  · have e : ptErr d i = 1 := by rw [e0, if_neg (by omega)]
    exact ret3 (iv 0) (iv 0) (iv 1) rfl rfl rfl ⟨xx, .inl ⟨by rw [e]; decide, by rw [e]⟩⟩
  refine fldA ?_
  refine ld (.slice A2 n2 c2) (B1.cell rfl) ?_
  refine len ?_
  refine cD (fun g2 => ?_) (fun g2 => ?_)
  · have e : ptErr d i = 1 := by rw [e0, if_neg (by omega)]
    exact ret3 (iv 0) (iv 0) (iv 1) rfl rfl rfl ⟨xx, .inl ⟨by rw [e]; decide, by rw [e]⟩⟩
  have e : ptErr d i = 0 := by rw [e0, if_pos (by omega)]
  obtain ⟨j, rfl⟩ : ∃ j : Nat, i = j := ⟨i.toNat, by omega⟩
  obtain ⟨bb, o, cs, x, rfl, hx, -, -, hc, rfl⟩ := (hf.ext xx).at_ (k := j) (by omega)
  have hfm := fmC_at hx
  refine fldA ?_
  refine ld (.slice (some (ad bb o)) n2 c2) (B1.cell rfl) ?_
  refine idx j rfl (by omega) ?_
  refine fldA ?_
  refine ld (iv x.reach) (hc 1 _ rfl) ?_
  refine ldA _ (.blk B1) rfl ?_
  refine call_of (c_dgrow (hr.ext xx) (hf.ext xx) ⟨V.n.2, V.f⟩) ?_
  rintro _ w3 ⟨gm, rfl, x3, -, m, Mm, hm⟩
  obtain ⟨P, np, cp, ee, hs1, hcp⟩ := hm x.reach
  refine fldV (cs := [.string d.name, iv d.hours, iv d.cap, iv d.start, .slice A1 n1 c1, .slice (some (ad bb o)) n2 c2, .slice A3 n3 c3, .slice A4 n4 c4, .slice A5 n5 c5, .slice A6 n6 c6, .map (some gm)]) (.map (some gm)) rfl ?_
  refine lookG1 (kv := kvI) x.reach (.slice P np cp) (fun z hz => ⟨m, by rw [hz]; exact Mm, ee⟩) ?_
  refine bld [.bool true, iv (j : Int)] (by kernel_rfl) ?_
  refine call_of (c_dIndex (p := (true, j)) hs1 (mem_ptsV.2 (.inl ⟨rfl, by simp only; omega, by rw [hfm]⟩))) ?_
  rintro _ w4 ⟨x4, k, rfl, hk⟩
  exact ret3 (iv x.reach) (iv (k : Int)) (iv 0) rfl rfl rfl ⟨(xx.trans x3).trans x4, .inr ⟨e, k, by rw [show (j : Int).toNat = j from rfl, hfm], by rw [show (j : Int).toNat = j from rfl, hfm]; exact hk⟩⟩
end
end Go.Proofs.YtmjcaclakggafaaGreat

/- Layer 41, plainly: a division on the way. -/
namespace Go.Proofs.YtmjcaclakggafaaGreat
open Go Go.RowKit

/-- A division, after i reaches. -/
structure Div0 (d : Dist) (cl hs : List Int) (E : Int) (hd aw : List Int) (mk : List Mk) (i : Nat) : Prop where
  lh : hd.length = d.reaches.length
  la : aw.length = d.farms.length
  lm : mk.length = d.reaches.length
  oh : OkL hd
  oa : OkL aw
  top : clA hd 0 = cut d 0 (min E (clA hs 0))
  at_ : ∀ r, r < i → DivAt d cl hs hd aw mk r
/-- .. and after k parts of the next one. -/
structure DivK (d : Dist) (cl hs : List Int) (E : Int) (hd aw : List Int) (mk : List Mk) (i k : Nat) (m : Mk) : Prop where
  b : Div0 d cl hs E hd aw mk i
  mi : mkA mk i = m
  mm : MarkOf (workV d cl hs hd i) (clmV d cl hs i) m
  f : ∀ j f, j < k → (ptsV d i)[j]? = some (true, f) → clA aw f = ownV m (clA (clmV d cl hs i) j) j
  c : ∀ j f, j < k → (ptsV d i)[j]? = some (false, f) → clA hd f = cut d f (ownV m (clA (clmV d cl hs i) j) j)
section
variable {d : Dist} {cl hs hd aw : List Int} {mk : List Mk} {E : Int} {i k : Nat} {m : Mk}
theorem mkA_set {l : List Mk} {i j : Nat} {x : Mk} (hi : i < l.length) : mkA (l.set i x) j = if i = j then x else mkA l j := by
  unfold mkA
  rw [List.getD_eq_getElem?_getD, List.getElem?_set]
  by_cases h : i = j
  · rw [if_pos h, if_pos h, if_pos hi]; rfl
  · rw [if_neg h, if_neg h, ← List.getD_eq_getElem?_getD]
theorem okL_set {l : List Int} {i : Nat} {x : Int} (h : OkL l) (hx : 0 ≤ x ∧ x ≤ 1073741824) : OkL (l.set i x) := fun c hc => by
  rcases List.mem_or_eq_of_mem_set hc with hc | rfl
  · exact h c hc
  · exact hx
theorem Div0.ok (D : Div0 d cl hs E hd aw mk i) (r : Nat) : 0 ≤ clA hd r ∧ clA hd r ≤ 1073741824 := clA_ok D.oh r
/-- The mark of the next reach is written. -/
theorem Div0.mark (D : Div0 d cl hs E hd aw mk i) (hi : i < d.reaches.length) (hm : MarkOf (workV d cl hs hd i) (clmV d cl hs i) m) : DivK d cl hs E hd aw (mk.set i m) i 0 m := by
  have hl := D.lm
  have hii : i < mk.length := by omega
  refine ⟨⟨D.lh, D.la, by rw [List.length_set]; exact hl, D.oh, D.oa, D.top, fun r hr => ?_⟩, by rw [mkA_set hii, if_pos rfl], hm, fun j f hj => by omega, fun j f hj => by omega⟩
  obtain ⟨a, b, c⟩ := D.at_ r hr
  have e : mkA (mk.set i m) r = mkA mk r := by rw [mkA_set hii, if_neg (by omega)]
  exact ⟨by rw [e]; exact a, fun k i h => by rw [e]; exact b k i h, fun k i h => by rw [e]; exact c k i h⟩
theorem nodup_ix {α : Type} {l : List α} (h : l.Nodup) {i j : Nat} {x : α} (hi : l[i]? = some x) (hj : l[j]? = some x) : i = j := by
  have h1 := (List.getElem?_eq_some_iff.1 hi)
  have h2 := (List.getElem?_eq_some_iff.1 hj)
  obtain ⟨a, ha⟩ := h1
  obtain ⟨b, hb⟩ := h2
  rcases Nat.lt_trichotomy i j with q | q | q
  · exact absurd (ha.trans hb.symm) (List.pairwise_iff_getElem.1 h i j a b q)
  · exact q
  · exact absurd (hb.trans ha.symm) (List.pairwise_iff_getElem.1 h j i b a q)
theorem DivK.val (D : DivK d cl hs E hd aw mk i k m) (R : Rdy d cl hs) (hi : i < d.reaches.length) (hk : k < (ptsV d i).length) : 0 ≤ ownV m (clA (clmV d cl hs i) k) k ∧ ownV m (clA (clmV d cl hs i) k) k ≤ 1073741824 := by
  have h1 := (R.work (hd := hd) hi (D.b.ok i)).1
  exact own_small (D.mm.awd h1) (clmV_ok R.okc R.okh i) (by rw [clmV_len]; exact hk)
theorem DivK.farm (D : DivK d cl hs E hd aw mk i k m) (R : Rdy d cl hs) (hi : i < d.reaches.length) {f : Nat} (hk : (ptsV d i)[k]? = some (true, f)) : DivK d cl hs E hd (aw.set f (ownV m (clA (clmV d cl hs i) k) k)) mk i (k + 1) m := by
  have hm := mem_ptsV.1 (List.mem_of_getElem? hk)
  have hm : f < d.farms.length ∧ (fmC d f).reach = i := by
    rcases hm with h | h
    · exact h.2
    · cases h.1
  have hla := D.b.la
  have hf : f < aw.length := by omega
  have hv := D.val R hi (List.getElem?_eq_some_iff.1 hk).1
  refine ⟨⟨D.b.lh, by rw [List.length_set]; exact hla, D.b.lm, D.b.oh, okL_set D.b.oa hv, D.b.top, fun r hr => ?_⟩, D.mi, D.mm, fun j g hj h => ?_, fun j g hj h => ?_⟩
  · obtain ⟨a, b, c⟩ := D.b.at_ r hr
    refine ⟨a, fun j g h => ?_, c⟩
    rw [clA_set hf, if_neg (fun e => ?_)]
    · exact b j g h
    · subst e
      rcases mem_ptsV.1 (List.mem_of_getElem? h) with q | q
      · have := q.2.2; simp only at this; omega
      · cases q.1
  · rw [clA_set hf]
    by_cases e : f = g
    · subst e
      rw [if_pos rfl, nodup_ix ptsV_nodup h hk]
    · rw [if_neg e]
      by_cases q : j = k
      · subst q
        rw [hk] at h
        injection h with h; injection h with _ h; exact absurd h e
      · exact D.f j g (by omega) h
  · by_cases q : j = k
    · subst q; rw [hk] at h; injection h with h; injection h with h; cases h
    · exact D.c j g (by omega) h
theorem DivK.child (D : DivK d cl hs E hd aw mk i k m) (R : Rdy d cl hs) (hi : i < d.reaches.length) {f : Nat} (hk : (ptsV d i)[k]? = some (false, f)) : DivK d cl hs E (hd.set f (cut d f (ownV m (clA (clmV d cl hs i) k) k))) aw mk i (k + 1) m := by
  have hc := R.v.child (List.mem_of_getElem? hk)
  have hup : (rcC d f).up = i := by
    rcases mem_ptsV.1 (List.mem_of_getElem? hk) with h | h
    · cases h.1
    · exact h.2.2
  have hlh := D.b.lh
  have hf : f < hd.length := by omega
  have hv := D.val R hi (List.getElem?_eq_some_iff.1 hk).1
  have hcb := cut_b (d := d) (r := f) hv.1
  have ew : ∀ r, r ≤ i → workV d cl hs (hd.set f (cut d f (ownV m (clA (clmV d cl hs i) k) k))) r = workV d cl hs hd r := fun r hr => by
    unfold workV
    rw [clA_set hf, if_neg (by omega)]
  refine ⟨⟨by rw [List.length_set]; exact hlh, D.b.la, D.b.lm, okL_set D.b.oh (by omega), D.b.oa, by rw [clA_set hf, if_neg (by omega)]; exact D.b.top, fun r hr => ?_⟩, D.mi, by rw [ew i (Nat.le_refl _)]; exact D.mm, fun j g hj h => ?_, fun j g hj h => ?_⟩
  · obtain ⟨a, b, c⟩ := D.b.at_ r hr
    refine ⟨by rw [ew r (by omega)]; exact a, b, fun j g h => ?_⟩
    rw [clA_set hf, if_neg (fun e => ?_)]
    · exact c j g h
    · subst e
      rcases mem_ptsV.1 (List.mem_of_getElem? h) with q | q
      · cases q.1
      · have := q.2.2; simp only at this; omega
  · by_cases q : j = k
    · subst q; rw [hk] at h; injection h with h; injection h with h; cases h
    · exact D.f j g (by omega) h
  · rw [clA_set hf]
    by_cases e : f = g
    · subst e
      rw [if_pos rfl, nodup_ix ptsV_nodup h hk]
    · rw [if_neg e]
      by_cases q : j = k
      · subst q
        rw [hk] at h
        injection h with h; injection h with _ h; exact absurd h e
      · exact D.c j g (by omega) h
theorem DivK.done (D : DivK d cl hs E hd aw mk i k m) (hk : (ptsV d i).length ≤ k) : Div0 d cl hs E hd aw mk (i + 1) := by
  refine ⟨D.b.lh, D.b.la, D.b.lm, D.b.oh, D.b.oa, D.b.top, fun r hr => ?_⟩
  by_cases e : r = i
  · subst e
    exact ⟨by rw [D.mi]; exact D.mm, fun j g h => by rw [D.mi]; exact D.f j g (by have := (List.getElem?_eq_some_iff.1 h).1; omega) h, fun j g h => by rw [D.mi]; exact D.c j g (by have := (List.getElem?_eq_some_iff.1 h).1; omega) h⟩
  · exact D.b.at_ r (by omega)
theorem Div0.all (D : Div0 d cl hs E hd aw mk d.reaches.length) : DivV d cl hs E hd aw mk := ⟨D.lh, D.la, D.lm, D.top, D.at_⟩
/-- The beginning. -/
theorem Div0.start (R : Rdy d cl hs) (hE : 0 ≤ E) : Div0 d cl hs E ((List.replicate d.reaches.length 0).set 0 (cut d 0 (min E (clA hs 0)))) (List.replicate d.farms.length 0) (List.replicate d.reaches.length Mk.none) 0 := by
  have h0 := clA_ok R.okh 0
  have hb := cut_b (d := d) (r := 0) (n := min E (clA hs 0)) (by omega)
  refine ⟨by rw [List.length_set, List.length_replicate], List.length_replicate .., List.length_replicate .., okL_set okL_zero (by omega), okL_zero, ?_, fun r hr => by omega⟩
  rw [clA_set (by rw [List.length_replicate]; exact R.v.n.1), if_pos rfl]
end
end Go.Proofs.YtmjcaclakggafaaGreat

/- Layer 41: contract of Divide. (Printed by gen_XDc.py.) -/
namespace Go.Proofs.YtmjcaclakggafaaGreat
open Go Go.RowKit

abbrev mks (l : List Mk) : List Value := l.flatMap encM
theorem mks_app {a b : List Mk} : mks (a ++ b) = mks a ++ mks b := List.flatMap_append
theorem mks_len : ∀ {a : List Mk}, (mks a).length = a.length * 4
  | [] => rfl
  | x :: a => by show (encM x ++ mks a).length = (a.length + 1) * 4; rw [List.length_append, mks_len]; show 4 + _ = _; omega
theorem mks_take : ∀ (l : List Mk) (i : Nat), (mks l).take (i * 4) = mks (l.take i)
  | [], i => by simp [mks]
  | x :: l, 0 => by simp [mks]
  | x :: l, i + 1 => by
    show (encM x ++ mks l).take ((i + 1) * 4) = encM x ++ mks (l.take i)
    rw [show (i + 1) * 4 = (encM x).length + i * 4 by show _ = 4 + _; omega, List.take_length_add_append, mks_take l i]
theorem mks_drop : ∀ (l : List Mk) (i : Nat), (mks l).drop (i * 4) = mks (l.drop i)
  | [], i => by simp [mks]
  | x :: l, 0 => by simp [mks]
  | x :: l, i + 1 => by
    show (encM x ++ mks l).drop ((i + 1) * 4) = mks (l.drop i)
    rw [show (i + 1) * 4 = (encM x).length + i * 4 by show _ = 4 + _; omega, List.drop_length_add_append, mks_drop l i]
theorem mks_set {l : List Mk} {i : Nat} {m : Mk} (h : i < l.length) : (mks l).take (i * 4) ++ encM m ++ (mks l).drop (i * 4 + 4) = mks (l.set i m) := by
  rw [mks_take, show i * 4 + 4 = (i + 1) * 4 by omega, mks_drop, List.set_eq_take_append_cons_drop, if_pos h, mks_app, List.append_assoc]; rfl
theorem zI {n : Nat} : ivs (List.replicate n 0) = (List.replicate n (cellsL (iv 0))).flatten := by
  unfold ivs
  rw [List.map_replicate]
  show List.replicate n (iv 0) = (List.replicate n [iv 0]).flatten
  rw [List.flatten_replicate_singleton]
theorem zM : ∀ {n : Nat}, mks (List.replicate n Mk.none) = (List.replicate n (cellsL (.agg #[.bool false, iv 0, iv 0, iv 0]))).flatten
  | 0 => rfl
  | n + 1 => by
    rw [List.replicate_succ, List.replicate_succ, List.flatten_cons, ← zM]; rfl
def dvErr (d : Dist) (cl : List Int) (E : Int) : Int := if openErr d cl ≠ 0 then openErr d cl else if 0 ≤ E ∧ E ≤ 1099511627776 then 0 else 1
section
variable {D : Nat → Prop} {w : World}
theorem c_denter {d : Dist} {A1 A2 A3 A4 A5 A6 G M : Option Addr} {n1 c1 n2 c2 n3 c3 n4 c4 n5 c5 n6 c6 b3 b6 bh r nh ch ng cg nm cm : Nat} {n : Int} {hd : List Int} (hr : SlR tReach D w A1 n1 d.reaches) (h3 : Blk w b3 31 [.string d.name, iv d.hours, iv d.cap, iv d.start, .slice A1 n1 c1, .slice A2 n2 c2, .slice A3 n3 c3, .slice A4 n4 c4, .slice A5 n5 c5, .slice A6 n6 c6]) (h6 : Blk w b6 46 [.slice (some (ad bh 0)) nh ch, .slice G ng cg, .slice M nm cm]) (hb : Blk w bh 3 (ivs hd)) (hl : hd.length = nh) (hrn : r < n1) (hrh : r < nh) :
    CallZ Tryz.prog 31 #[iv (r : Int), iv n, ptr b3, ptr b6] w (fun v w' => v = .tuple #[] ∧ Blk w' bh 3 (ivs (hd.set r (cut d r n))) ∧ Kept (fun b => b ≠ bh) w w') := by
  refine fn_rule (args := [iv (r : Int), iv n, ptr b3, ptr b6]) Tryz.func31 (by kernel_rfl) ?_
  obtain ⟨bb, o, cs, x, rfl, hx, -, -, hc, rfl⟩ := hr.at_ hrn
  have hrc := rcC_at hx
  refine fldA ?_
  refine ld (.slice (some (ad bb o)) n1 c1) (h3.cell rfl) ?_
  refine idx r rfl hrn ?_
  refine fldA ?_
  refine ld (iv x.siphon) (hc 5 _ rfl) ?_
  refine cD (fun g => ?_) (fun g => ?_)
  · have e : cut d r n = 0 := by unfold cut; rw [hrc, if_pos g]
    refine fldA ?_
    refine ld (.slice (some (ad bh 0)) nh ch) (h6.cell rfl) ?_
    refine idx r rfl hrh ?_
    refine st (v := iv 0) hb (by simp; omega) rfl (fun u2 B2 k2 z2 => ?_)
    refine ret0 ⟨rfl, ?_, k2⟩
    rw [e, ← ivs_set]
    simpa using B2
  · have e : cut d r n = n := by unfold cut; rw [hrc, if_neg g]
    refine fldA ?_
    refine ld (.slice (some (ad bh 0)) nh ch) (h6.cell rfl) ?_
    refine idx r rfl hrh ?_
    refine st (v := iv n) hb (by simp; omega) rfl (fun u2 B2 k2 z2 => ?_)
    refine ret0 ⟨rfl, ?_, k2⟩
    rw [e, ← ivs_set]
    simpa using B2
set_option maxRecDepth 8000 in
set_option maxHeartbeats 1000000 in
theorem c_dDivide {csd : List Value} {d : Dist} {cl : List Int} {A : Option Addr} {n c : Nat} {E : Int} (hd : DiR D w csd d) (hl : SlR tInt D w A n cl) : CallZ Tryz.prog 14 #[.agg csd.toArray, .slice A n c, iv E] w (fun v w' => Ext w w' ∧ ((dvErr d cl E ≠ 0 ∧ v = .tuple #[.agg #[.slice none 0 0, .slice none 0 0, .slice none 0 0], iv (dvErr d cl E)]) ∨
    (dvErr d cl E = 0 ∧ ∃ hs H G M bh ba bm, needsV d cl = some hs ∧ Rdy d cl hs ∧ DivV d cl hs E H G M ∧ OkL H ∧ OkL G ∧ v = .tuple #[.agg #[.slice (some (ad bh 0)) d.reaches.length d.reaches.length, .slice (some (ad ba 0)) d.farms.length d.farms.length, .slice (some (ad bm 0)) d.reaches.length d.reaches.length], iv 0] ∧
      Blk w' bh 3 (ivs H) ∧ Blk w' ba 3 (ivs G) ∧ Blk w' bm 92 (mks M) ∧ w.heap.size ≤ bh ∧ w.heap.size ≤ ba ∧ w.heap.size ≤ bm))) := by
  have hd0 := hd
  obtain ⟨A1, n1, c1, A2, n2, c2, A3, n3, c3, A4, n4, c4, A5, n5, c5, A6, n6, c6, rfl, hr, hf, -⟩ := hd.ex
  have lr := hr.len
  have lf := hf.len
  have ll := hl.len
  refine fn_rule (args := [.agg #[.string d.name, iv d.hours, iv d.cap, iv d.start, .slice A1 n1 c1, .slice A2 n2 c2, .slice A3 n3 c3, .slice A4 n4 c4, .slice A5 n5 c5, .slice A6 n6 c6], .slice A n c, iv E]) Tryz.func14 (by kernel_rfl) ?_
  refine box (fun b3 w1 h1 => ?_)
  refine box (fun b4 w2 h2 => ?_)
  refine alloc (fun b6 w3 h3 => ?_)
  have e1 := h1.at_
  have e2 := h2.at_
  have e3 := h3.at_
  have s1 := h1.size
  have s2 := h2.size
  have s3 := h3.size
  have x3 := (h1.ext.trans h2.ext).trans h3.ext
  have B3 : Blk w3 b3 31 [.string d.name, iv d.hours, iv d.cap, iv d.start, .slice A1 n1 c1, .slice A2 n2 c2, .slice A3 n3 c3, .slice A4 n4 c4, .slice A5 n5 c5, .slice A6 n6 c6] := h1.blk.ext (h2.ext.trans h3.ext)
  have B4 : Blk w3 b4 32 [.slice A n c] := h2.blk.ext h3.ext
  have B6 : Blk w3 b6 46 [.slice none 0 0, .slice none 0 0, .slice none 0 0] := h3.blk
  refine ldA [.string d.name, iv d.hours, iv d.cap, iv d.start, .slice A1 n1 c1, .slice A2 n2 c2, .slice A3 n3 c3, .slice A4 n4 c4, .slice A5 n5 c5, .slice A6 n6 c6] (.blk B3) rfl ?_
  refine ld (.slice A n c) (B4.cell rfl) ?_
  refine call_of (c_dopen (hd0.ext x3) (hr.ext x3) (hf.ext x3) (hl.ext x3)) ?_
  rintro _ w4 ⟨x4, ⟨g, ts, ht1, ht2, rfl⟩ | ⟨g, hs, bs, gm, hne, rfl, hbs, Bs, T⟩⟩
  · refine alloc (fun b8 v1 h4 => ?_)
    refine alloc (fun b9 v2 h5 => ?_)
    refine stA (vs := ts) (h4.blk.ext h5.ext) ht1 (by rw [ht1]; exact Nat.le_of_ble_eq_true rfl) (fun u hu => List.all_eq_true.1 ht2 u hu) (fun v3 C3 k3 z3 => ?_)
    have f4 := h4.at_
    have f5 := h5.at_
    have g4 := h4.size
    have g5 := h5.size
    have z4 := x4.size
    have z03 := x3.size
    refine st1 (h5.blk.kept k3 (by omega)) rfl (fun v4 C4 k4 => ?_)
    have xv : Ext w3 v4 := (((x4.trans h4.ext).trans h5.ext).then k3 fun b hb _ e => by omega).then k4 fun b hb _ e => by omega
    have eo : dvErr d cl E = openErr d cl := by unfold dvErr; rw [if_pos g]
    refine cN (fun g' => ?_) (fun g' => absurd g' g)
    have B6 := B6.ext xv
    refine ldA [.slice none 0 0, .slice none 0 0, .slice none 0 0] (.blk B6) rfl ?_
    refine stA (vs := [.slice none 0 0, .slice none 0 0, .slice none 0 0]) B6 rfl (Nat.le_of_ble_eq_true rfl) (by simp [Value.oneCell']) (fun v5 C5 k5 z5 => ?_)
    have C5 : Blk v5 b6 46 [.slice none 0 0, .slice none 0 0, .slice none 0 0] := C5
    refine ret ?_
    refine resL _ (holds_agg (CellsAt.blk C5) rfl) ?_
    have z34 := xv.size
    exact ⟨(x3.trans xv).then k5 fun b hb _ e => by omega, .inl ⟨by rw [eo]; exact g, by rw [eo]; rfl⟩⟩
  have eo : dvErr d cl E = if 0 ≤ E ∧ E ≤ 1099511627776 then 0 else 1 := by unfold dvErr; rw [if_neg (fun h => h g)]
  obtain ⟨g0, -⟩ := openErr_ok.1 g
  have R := rdy_of g0 hne
  have hvn := R.v.n
  have hvf := R.v.f
  have z4 := x4.size
  have z03 := x3.size
  have lbs := Bs.lt
  have x04 := x3.trans x4
  have z04 := x04.size
  have hr4 : SlR tReach (fun b => b < w4.heap.size ∧ b ≠ b6) w4 A1 n1 d.reaches := ((hr.more (D' := fun b => b < w.heap.size) (by decide) fun b hb _ => hb).ext x04).more (by decide) fun b hb h => ⟨hb, by omega⟩
  have hl4 : SlR tInt (fun b => b < w4.heap.size ∧ b ≠ b6) w4 A n cl := ((hl.more (D' := fun b => b < w.heap.size) (by decide) fun b hb _ => hb).ext x04).more (by decide) fun b hb h => ⟨hb, by omega⟩
  have T4 : TreR (fun b => b < w4.heap.size ∧ b ≠ b6) w4 gm d := ⟨⟨T.ex.elim fun m hm => hm.1.lt, by have := T.own; omega⟩, T.ex.imp fun m hm => ⟨hm.1, fun r => by obtain ⟨A, n, c, e, hs, hc⟩ := hm.2 r; exact ⟨A, n, c, e, hs.more (by decide) fun b hb h => ⟨hb, by omega⟩, hc⟩⟩⟩
  refine alloc (fun b8 v1 h4 => ?_)
  refine alloc (fun b9 v2 h5 => ?_)
  refine stA (vs := [.string d.name, iv d.hours, iv d.cap, iv d.start, .slice A1 n1 c1, .slice A2 n2 c2, .slice A3 n3 c3, .slice A4 n4 c4, .slice A5 n5 c5, .slice A6 n6 c6, .map (some gm)]) (h4.blk.ext h5.ext) rfl (Nat.le_of_ble_eq_true rfl) (by simp [Value.oneCell']) (fun v3 B8 k3 z3 => ?_)
  have B8 : Blk v3 b8 56 [.string d.name, iv d.hours, iv d.cap, iv d.start, .slice A1 n1 c1, .slice A2 n2 c2, .slice A3 n3 c3, .slice A4 n4 c4, .slice A5 n5 c5, .slice A6 n6 c6, .map (some gm)] := B8
  have f4 := h4.at_
  have f5 := h5.at_
  have g4 := h4.size
  have g5 := h5.size
  refine st1 (h5.blk.kept k3 (by omega)) rfl (fun w5 B9 k4 => ?_)
  have g6 := k4.size
  have B8 := B8.kept k4 (by omega)
  have x45 : Ext w4 w5 := ((h4.ext.trans h5.ext).then k3 fun b hb _ e => by omega).then k4 fun b hb _ e => by omega
  have B3 := (B3.ext x4).ext x45
  have B4 := (B4.ext x4).ext x45
  have B6 := (B6.ext x4).ext x45
  have hr5 := hr4.ext x45
  have hl5 := hl4.ext x45
  have T5 := T4.ext x45
  have Bs := Bs.ext x45
  have x05 := x04.trans x45
  refine cN (fun g' => absurd rfl g') (fun _ => ?_)
  have bad : ¬ (0 ≤ E ∧ E ≤ 1099511627776) → dvErr d cl E = 1 := fun h => by rw [eo, if_neg h]
  refine cD (fun gE => ?_) (fun gE => ?_)
  · refine ldA [.slice none 0 0, .slice none 0 0, .slice none 0 0] (.blk B6) rfl ?_
    refine stA (vs := [.slice none 0 0, .slice none 0 0, .slice none 0 0]) B6 rfl (Nat.le_of_ble_eq_true rfl) (by simp [Value.oneCell']) (fun v5 C5 k5 z5 => ?_)
    have C5 : Blk v5 b6 46 [.slice none 0 0, .slice none 0 0, .slice none 0 0] := C5
    refine ret ?_
    refine resL _ (holds_agg (CellsAt.blk C5) rfl) ?_
    exact ⟨x05.then k5 fun b hb _ e => by omega, .inl ⟨by rw [bad (by omega)]; decide, by rw [bad (by omega)]; rfl⟩⟩
  refine cD (fun gF => ?_) (fun gF => ?_)
  · refine ldA [.slice none 0 0, .slice none 0 0, .slice none 0 0] (.blk B6) rfl ?_
    refine stA (vs := [.slice none 0 0, .slice none 0 0, .slice none 0 0]) B6 rfl (Nat.le_of_ble_eq_true rfl) (by simp [Value.oneCell']) (fun v5 C5 k5 z5 => ?_)
    have C5 : Blk v5 b6 46 [.slice none 0 0, .slice none 0 0, .slice none 0 0] := C5
    refine ret ?_
    refine resL _ (holds_agg (CellsAt.blk C5) rfl) ?_
    exact ⟨x05.then k5 fun b hb _ e => by omega, .inl ⟨by rw [bad (by omega)]; decide, by rw [bad (by omega)]; rfl⟩⟩
  have hE : 0 ≤ E ∧ E ≤ 1099511627776 := by omega
  have eo : dvErr d cl E = 0 := by rw [eo, if_pos hE]
  have lb6 := B6.lt
  -- the three lists
  refine draw_w (fun u => Kept (fun b => b ≠ b6) w5 u ∧ ∃ bh ba bm, Blk u b6 46 [.slice (some (ad bh 0)) n1 n1, .slice (some (ad ba 0)) n2 n2, .slice (some (ad bm 0)) n1 n1] ∧ Blk u bh 3 (ivs (List.replicate n1 0)) ∧ Blk u ba 3 (ivs (List.replicate n2 0)) ∧ Blk u bm 92 (mks (List.replicate n1 Mk.none)) ∧ (w5.heap.size ≤ bh ∧ w5.heap.size ≤ ba ∧ w5.heap.size ≤ bm) ∧ bh ≠ ba ∧ bh ≠ bm ∧ ba ≠ bm) ?_ ?_
  · refine drawP (.take 0 (.take 1 (.take 2 (.take 4 (.take 5 (.take 6 (.take 8 (.take 9 (.take 10 (.alt 3 (.alt 7 (.eff 11 (.take 12 (.eff 13 .done))) (.eff 11 (.eff 7 (.take 12 (.eff 13 .done))))) (.alt 7 (.alt 3 (.eff 11 (.take 12 (.eff 13 .done))) (.eff 11 (.eff 3 (.take 12 (.eff 13 .done))))) (.eff 11 (.alt 3 (.eff 7 (.take 12 (.eff 13 .done))) (.eff 7 (.eff 3 (.take 12 (.eff 13 .done))))))))))))))))) [] (fun u => Kept (fun b => b ≠ b6) w5 u) mx (by kernel_rfl) (.refl _ _) ?_
    refine fldA ?_
    refine ldS (.slice A1 n1 c1) (fun u hu => hu.cell (B3.cell rfl) (show b3 ≠ b6 by omega)) ?_
    refine len ?_
    refine fldA ?_
    refine ldS (.slice A2 n2 c2) (fun u hu => hu.cell (B3.cell rfl) (show b3 ≠ b6 by omega)) ?_
    refine len ?_
    refine fldA ?_
    refine ldS (.slice A1 n1 c1) (fun u hu => hu.cell (B3.cell rfl) (show b3 ≠ b6 by omega)) ?_
    refine len ?_
    refine ⟨?_, ?_⟩
    · refine mslc (sz := 1) (zv := iv 0) n1 rfl rfl (by omega) (by omega) rfl (by decide) (fun bh u1 i1 => ?_)
      refine strS (Ext.any i1.ext) ?_
      refine ⟨?_, ?_⟩
      · refine mslc (sz := 1) (zv := iv 0) n2 rfl rfl (by omega) (by omega) rfl (by decide) (fun ba u2 i2 => ?_)
        refine strS (Ext.any (i1.ext.trans i2.ext)) ?_
        refine mslc (sz := 4) (zv := .agg #[.bool false, iv 0, iv 0, iv 0]) n1 rfl rfl (by omega) (by omega) rfl (by decide) (fun bm u3 i3 => ?_)
        refine strS (Ext.any ((i1.ext.trans i2.ext).trans i3.ext)) ?_
        have xx := ((i1.ext.trans i2.ext).trans i3.ext)
        have z0 := xx.size
        have y1 := i1.at_
        have q1 := i1.size
        have y2 := i2.at_
        have q2 := i2.size
        have y3 := i3.at_
        have q3 := i3.size
        refine bld [.slice (some (ad bh 0)) n1 n1, .slice (some (ad ba 0)) n2 n2, .slice (some (ad bm 0)) n1 n1] (by kernel_rfl) ?_
        refine stA (vs := [.slice (some (ad bh 0)) n1 n1, .slice (some (ad ba 0)) n2 n2, .slice (some (ad bm 0)) n1 n1]) (B6.ext xx) rfl (Nat.le_of_ble_eq_true rfl) (by simp [Value.oneCell']) (fun u4 b4 k4 z4 => ?_)
        have kk : Kept (fun b => b ≠ b6) w5 u4 := (Ext.any xx).trans k4
        refine strS kk ?_
        exact ⟨kk, bh, ba, bm, b4, by rw [zI]; exact (((i1.blk.ext i2.ext).ext i3.ext).kept k4 (by omega)), by rw [zI]; exact ((i2.blk.ext i3.ext).kept k4 (by omega)), by rw [zM]; exact (i3.blk.kept k4 (by omega)), ⟨by omega, by omega, by omega⟩, by omega, by omega, by omega⟩
      · refine mslc (sz := 4) (zv := .agg #[.bool false, iv 0, iv 0, iv 0]) n1 rfl rfl (by omega) (by omega) rfl (by decide) (fun bm u2 i2 => ?_)
        refine strS (Ext.any (i1.ext.trans i2.ext)) ?_
        refine mslc (sz := 1) (zv := iv 0) n2 rfl rfl (by omega) (by omega) rfl (by decide) (fun ba u3 i3 => ?_)
        refine strS (Ext.any ((i1.ext.trans i2.ext).trans i3.ext)) ?_
        have xx := ((i1.ext.trans i2.ext).trans i3.ext)
        have z0 := xx.size
        have y1 := i1.at_
        have q1 := i1.size
        have y2 := i2.at_
        have q2 := i2.size
        have y3 := i3.at_
        have q3 := i3.size
        refine bld [.slice (some (ad bh 0)) n1 n1, .slice (some (ad ba 0)) n2 n2, .slice (some (ad bm 0)) n1 n1] (by kernel_rfl) ?_
        refine stA (vs := [.slice (some (ad bh 0)) n1 n1, .slice (some (ad ba 0)) n2 n2, .slice (some (ad bm 0)) n1 n1]) (B6.ext xx) rfl (Nat.le_of_ble_eq_true rfl) (by simp [Value.oneCell']) (fun u4 b4 k4 z4 => ?_)
        have kk : Kept (fun b => b ≠ b6) w5 u4 := (Ext.any xx).trans k4
        refine strS kk ?_
        exact ⟨kk, bh, ba, bm, b4, by rw [zI]; exact (((i1.blk.ext i2.ext).ext i3.ext).kept k4 (by omega)), by rw [zI]; exact (i3.blk.kept k4 (by omega)), by rw [zM]; exact ((i2.blk.ext i3.ext).kept k4 (by omega)), ⟨by omega, by omega, by omega⟩, by omega, by omega, by omega⟩
    · refine ⟨?_, ?_⟩
      · refine mslc (sz := 1) (zv := iv 0) n2 rfl rfl (by omega) (by omega) rfl (by decide) (fun ba u1 i1 => ?_)
        refine strS (Ext.any i1.ext) ?_
        refine ⟨?_, ?_⟩
        · refine mslc (sz := 1) (zv := iv 0) n1 rfl rfl (by omega) (by omega) rfl (by decide) (fun bh u2 i2 => ?_)
          refine strS (Ext.any (i1.ext.trans i2.ext)) ?_
          refine mslc (sz := 4) (zv := .agg #[.bool false, iv 0, iv 0, iv 0]) n1 rfl rfl (by omega) (by omega) rfl (by decide) (fun bm u3 i3 => ?_)
          refine strS (Ext.any ((i1.ext.trans i2.ext).trans i3.ext)) ?_
          have xx := ((i1.ext.trans i2.ext).trans i3.ext)
          have z0 := xx.size
          have y1 := i1.at_
          have q1 := i1.size
          have y2 := i2.at_
          have q2 := i2.size
          have y3 := i3.at_
          have q3 := i3.size
          refine bld [.slice (some (ad bh 0)) n1 n1, .slice (some (ad ba 0)) n2 n2, .slice (some (ad bm 0)) n1 n1] (by kernel_rfl) ?_
          refine stA (vs := [.slice (some (ad bh 0)) n1 n1, .slice (some (ad ba 0)) n2 n2, .slice (some (ad bm 0)) n1 n1]) (B6.ext xx) rfl (Nat.le_of_ble_eq_true rfl) (by simp [Value.oneCell']) (fun u4 b4 k4 z4 => ?_)
          have kk : Kept (fun b => b ≠ b6) w5 u4 := (Ext.any xx).trans k4
          refine strS kk ?_
          exact ⟨kk, bh, ba, bm, b4, by rw [zI]; exact ((i2.blk.ext i3.ext).kept k4 (by omega)), by rw [zI]; exact (((i1.blk.ext i2.ext).ext i3.ext).kept k4 (by omega)), by rw [zM]; exact (i3.blk.kept k4 (by omega)), ⟨by omega, by omega, by omega⟩, by omega, by omega, by omega⟩
        · refine mslc (sz := 4) (zv := .agg #[.bool false, iv 0, iv 0, iv 0]) n1 rfl rfl (by omega) (by omega) rfl (by decide) (fun bm u2 i2 => ?_)
          refine strS (Ext.any (i1.ext.trans i2.ext)) ?_
          refine mslc (sz := 1) (zv := iv 0) n1 rfl rfl (by omega) (by omega) rfl (by decide) (fun bh u3 i3 => ?_)
          refine strS (Ext.any ((i1.ext.trans i2.ext).trans i3.ext)) ?_
          have xx := ((i1.ext.trans i2.ext).trans i3.ext)
          have z0 := xx.size
          have y1 := i1.at_
          have q1 := i1.size
          have y2 := i2.at_
          have q2 := i2.size
          have y3 := i3.at_
          have q3 := i3.size
          refine bld [.slice (some (ad bh 0)) n1 n1, .slice (some (ad ba 0)) n2 n2, .slice (some (ad bm 0)) n1 n1] (by kernel_rfl) ?_
          refine stA (vs := [.slice (some (ad bh 0)) n1 n1, .slice (some (ad ba 0)) n2 n2, .slice (some (ad bm 0)) n1 n1]) (B6.ext xx) rfl (Nat.le_of_ble_eq_true rfl) (by simp [Value.oneCell']) (fun u4 b4 k4 z4 => ?_)
          have kk : Kept (fun b => b ≠ b6) w5 u4 := (Ext.any xx).trans k4
          refine strS kk ?_
          exact ⟨kk, bh, ba, bm, b4, by rw [zI]; exact (i3.blk.kept k4 (by omega)), by rw [zI]; exact (((i1.blk.ext i2.ext).ext i3.ext).kept k4 (by omega)), by rw [zM]; exact ((i2.blk.ext i3.ext).kept k4 (by omega)), ⟨by omega, by omega, by omega⟩, by omega, by omega, by omega⟩
      · refine mslc (sz := 4) (zv := .agg #[.bool false, iv 0, iv 0, iv 0]) n1 rfl rfl (by omega) (by omega) rfl (by decide) (fun bm u1 i1 => ?_)
        refine strS (Ext.any i1.ext) ?_
        refine ⟨?_, ?_⟩
        · refine mslc (sz := 1) (zv := iv 0) n1 rfl rfl (by omega) (by omega) rfl (by decide) (fun bh u2 i2 => ?_)
          refine strS (Ext.any (i1.ext.trans i2.ext)) ?_
          refine mslc (sz := 1) (zv := iv 0) n2 rfl rfl (by omega) (by omega) rfl (by decide) (fun ba u3 i3 => ?_)
          refine strS (Ext.any ((i1.ext.trans i2.ext).trans i3.ext)) ?_
          have xx := ((i1.ext.trans i2.ext).trans i3.ext)
          have z0 := xx.size
          have y1 := i1.at_
          have q1 := i1.size
          have y2 := i2.at_
          have q2 := i2.size
          have y3 := i3.at_
          have q3 := i3.size
          refine bld [.slice (some (ad bh 0)) n1 n1, .slice (some (ad ba 0)) n2 n2, .slice (some (ad bm 0)) n1 n1] (by kernel_rfl) ?_
          refine stA (vs := [.slice (some (ad bh 0)) n1 n1, .slice (some (ad ba 0)) n2 n2, .slice (some (ad bm 0)) n1 n1]) (B6.ext xx) rfl (Nat.le_of_ble_eq_true rfl) (by simp [Value.oneCell']) (fun u4 b4 k4 z4 => ?_)
          have kk : Kept (fun b => b ≠ b6) w5 u4 := (Ext.any xx).trans k4
          refine strS kk ?_
          exact ⟨kk, bh, ba, bm, b4, by rw [zI]; exact ((i2.blk.ext i3.ext).kept k4 (by omega)), by rw [zI]; exact (i3.blk.kept k4 (by omega)), by rw [zM]; exact (((i1.blk.ext i2.ext).ext i3.ext).kept k4 (by omega)), ⟨by omega, by omega, by omega⟩, by omega, by omega, by omega⟩
        · refine mslc (sz := 1) (zv := iv 0) n2 rfl rfl (by omega) (by omega) rfl (by decide) (fun ba u2 i2 => ?_)
          refine strS (Ext.any (i1.ext.trans i2.ext)) ?_
          refine mslc (sz := 1) (zv := iv 0) n1 rfl rfl (by omega) (by omega) rfl (by decide) (fun bh u3 i3 => ?_)
          refine strS (Ext.any ((i1.ext.trans i2.ext).trans i3.ext)) ?_
          have xx := ((i1.ext.trans i2.ext).trans i3.ext)
          have z0 := xx.size
          have y1 := i1.at_
          have q1 := i1.size
          have y2 := i2.at_
          have q2 := i2.size
          have y3 := i3.at_
          have q3 := i3.size
          refine bld [.slice (some (ad bh 0)) n1 n1, .slice (some (ad ba 0)) n2 n2, .slice (some (ad bm 0)) n1 n1] (by kernel_rfl) ?_
          refine stA (vs := [.slice (some (ad bh 0)) n1 n1, .slice (some (ad ba 0)) n2 n2, .slice (some (ad bm 0)) n1 n1]) (B6.ext xx) rfl (Nat.le_of_ble_eq_true rfl) (by simp [Value.oneCell']) (fun u4 b4 k4 z4 => ?_)
          have kk : Kept (fun b => b ≠ b6) w5 u4 := (Ext.any xx).trans k4
          refine strS kk ?_
          exact ⟨kk, bh, ba, bm, b4, by rw [zI]; exact (i3.blk.kept k4 (by omega)), by rw [zI]; exact ((i2.blk.ext i3.ext).kept k4 (by omega)), by rw [zM]; exact (((i1.blk.ext i2.ext).ext i3.ext).kept k4 (by omega)), ⟨by omega, by omega, by omega⟩, by omega, by omega, by omega⟩
  rintro G6 w6 ⟨k56, bh, ba, bm, B6, Bh, Ba, Bm, ⟨hbh, hba, hbm⟩, nha, nhm, nam⟩
  have z56 := k56.size
  have B3 := B3.kept k56 (by omega)
  have B4 := B4.kept k56 (by omega)
  have B8 := B8.kept k56 (by omega)
  have B9 := B9.kept k56 (by omega)
  have Bs := Bs.kept k56 (by omega)
  have hr6 := hr5.kept k56 fun b _ h => by omega
  have hl6 := hl5.kept k56 fun b _ h => by omega
  have T6 := T5.kept k56 fun b _ h => by omega
  have x06 : Ext w w6 := x05.then k56 fun b hb _ e => by omega
  have lb3 := B3.lt
  have lb4 := B4.lt
  have lb8 := B8.lt
  have lb9 := B9.lt
  have lbh := Bh.lt
  have lba := Ba.lt
  have lbm := Bm.lt
  -- enter
  refine alloc (fun b10 w7 h7 => ?_)
  refine st1 h7.blk rfl (fun w8 B10 k8 => ?_)
  have f7 := h7.at_
  have g7 := h7.size
  have z8 := k8.size
  have x68 : Ext w6 w8 := h7.ext.then k8 fun b hb _ e => by omega
  have B3 := B3.ext x68
  have B4 := B4.ext x68
  have B6 := B6.ext x68
  have B8 := B8.ext x68
  have B9 := B9.ext x68
  have Bs := Bs.ext x68
  have Bh := Bh.ext x68
  have Ba := Ba.ext x68
  have Bm := Bm.ext x68
  have hr8 := hr6.ext x68
  have hl8 := hl6.ext x68
  have T8 := T6.ext x68
  have x08 := x06.trans x68
  have h0s := clA_ok R.okh 0
  refine drawP (.take 0 (.take 1 (.take 2 (.take 3 (.take 4 (.eff 5 (.eff 6 (.bar (.eff 7 .done))))))))) [7] (fun z => Ext w8 z) mx (by kernel_rfl) (.refl _ _) ?_
  have hsl : SlR tInt (fun b => b = bs) w8 (some (ad bs 0)) n1 hs := blk_ints Bs (by rw [R.lh]; omega) R.okh (by omega) rfl
  obtain ⟨bq, oq, csq, x0, hbq, hx0, -, -, hcq, rfl, -⟩ := hsl.at_ (k := 0) (by omega)
  injection hbq with hbq
  injection hbq with hq1 hq2
  subst hq1; subst hq2
  have ex0 : x0 = clA hs 0 := by rw [clA_at hx0]
  refine ldK (.func (.func 31) #[] #[ptr b3, ptr b6]) (B10.cell rfl) trivial (.refl _ _) ?_
  refine ldK (.slice (some (ad bs 0)) n1 n1) (B9.cell rfl) trivial (.refl _ _) ?_
  refine idx 0 rfl (by omega) ?_
  refine ldK (iv x0) (hcq 0 _ rfl) trivial (.refl _ _) ?_
  refine lit [iv x0] (fun gg v4 hq => ?_)
  refine strS hq.ext ?_
  refine call_of (c_dleast (n := E) (l := [x0]) (m := 1) (D := fun _ => True) (SlR.of_cells rfl (by decide) trivial (.blk hq.blk) (flat_ints fun x hx => by rw [List.mem_singleton] at hx; rw [hx]; unfold I64; omega))) ?_
  rintro _ v5 ⟨rfl, rfl⟩
  refine strS hq.ext ?_
  refine barS (fun _ => True) trivial ?_
  have em : List.foldl min E [x0] = min E (clA hs 0) := by rw [← ex0]; rfl
  rw [em]
  have xq := hq.ext
  have zq := xq.size
  refine call_of (c_denter (r := 0) (hr8.ext xq) (B3.ext xq) (B6.ext xq) (Bh.ext xq) (List.length_replicate ..) (by omega : 0 < n1) (by omega)) ?_
  rintro _ w9 ⟨rfl, Bh, k9⟩
  refine strS trivial ?_
  have z9 := k9.size
  have k89 : Kept (fun b => b ≠ bh) w8 w9 := (Ext.any xq).trans k9
  have Ba := Ba.kept k89 (by omega)
  have Bm := Bm.kept k89 (by omega)
  have B3 := B3.kept k89 (by omega)
  have B4 := B4.kept k89 (by omega)
  have B6 := B6.kept k89 (by omega)
  have B8 := B8.kept k89 (by omega)
  have B9 := B9.kept k89 (by omega)
  have B10 := (show Blk w8 b10 _ _ from B10).kept k89 (by omega)
  have Bs := Bs.kept k89 (by omega)
  have hr9 := hr8.kept k89 fun b _ h => by omega
  have hl9 := hl8.kept k89 fun b _ h => by omega
  have T9 := T8.kept k89 fun b _ h => by omega
  have x09 : Ext w w9 := x08.then k89 fun b hb _ => by omega
  have D0 := Div0.start (E := E) R hE.1
  rw [lr, lf] at D0
  -- the reaches
  refine ldA [.string d.name, iv d.hours, iv d.cap, iv d.start, .slice A1 n1 c1, .slice A2 n2 c2, .slice A3 n3 c3, .slice A4 n4 c4, .slice A5 n5 c5, .slice A6 n6 c6, .map (some gm)] (.blk B8) rfl ?_
  refine call_of (c_dreaches (d := d) (lv := false)) ?_
  rintro _ w10 ⟨bt, bl, rfl, x10, Ct, Cl, hbt, hbl⟩
  have z10 := x10.size
  have lcl := Cl.lt
  have B3 := B3.ext x10
  have B4 := B4.ext x10
  have B6 := B6.ext x10
  have B9 := B9.ext x10
  have B10 := B10.ext x10
  have Bs := Bs.ext x10
  have Bh := Bh.ext x10
  have Ba := Ba.ext x10
  have Bm := Bm.ext x10
  refine range (gf := 52) (lb := #[ptr bt, ptr bl]) rfl (fun fn tmps w11 RR hRR hF' hwf x11 z11 hD11 hl11 => ?_)
  show CallZ _ _ #[.func (.yield (w10.heap.size + 1)) #[] #[], ptr bt, ptr bl] w11 _
  have x0B : Ext w w11 := (x09.trans x10).trans x11
  have x9B := x10.trans x11
  have hrB := hr9.ext x9B
  have hlB := hl9.ext x9B
  have TB := T9.ext x9B
  have B3 := B3.ext x11
  have B4 := B4.ext x11
  have B6 := B6.ext x11
  have B9 := B9.ext x11
  have B10 := B10.ext x11
  have Bs := Bs.ext x11
  have Bh := Bh.ext x11
  have Ba := Ba.ext x11
  have Bm := Bm.ext x11
  have Ct := Ct.ext x11
  have Cl := Cl.ext x11
  refine (c_dreaches1 (Q := fun _ => False) (D := fun b => b ≠ bh ∧ b ≠ ba ∧ b ≠ bm ∧ b ≠ w10.heap.size + 1) (D' := fun b => b < w4.heap.size ∧ b ≠ b6) (fun k u => ∃ hd aw mk, Div0 d cl hs E hd aw mk k ∧ Blk u bh 3 (ivs hd) ∧ Blk u ba 3 (ivs aw) ∧ Blk u bm 92 (mks mk) ∧ LoopAt u (w10.heap.size + 1) RR)
    ⟨by omega, by omega, by omega, by omega⟩ ⟨by omega, by omega, by omega, by omega⟩ (fun b hb => ⟨by omega, by omega, by omega, by omega⟩) Ct Cl TB ⟨by omega, by omega⟩ rfl ?_ ⟨_, _, _, D0, Bh, Ba, Bm, hl11⟩).mono ?_
  · rintro i P np cp u hin ⟨hd', aw, mk, Dv, bhu, bau, bmu, lu⟩ ku sp hcp
    have hi : ixR n1 false i = i := by unfold ixR; rw [if_neg (by simp)]
    rw [hi] at sp
    rw [hi]
    have hir : i < d.reaches.length := by omega
    obtain ⟨r, hri⟩ : ∃ r, d.reaches[i]? = some r := ⟨_, List.getElem?_eq_getElem hir⟩
    have hrc := rcC_at hri
    obtain ⟨rl1, rl2, rl3⟩ := R.v.loss hir
    obtain ⟨tE, wk0, wk1, wk2⟩ := R.work (hd := hd') hir (Dv.ok i)
    have sumB := R.sum i
    have okh := Dv.ok i
    have arb := arr_le rl1 okh
    have lenB := R.v.len (cl := cl) (hs := hs) (r := i)
    have okc := clmV_ok (d := d) R.okc R.okh i
    obtain ⟨tot, htot⟩ : ∃ t, t = isum (clmV d cl hs i) := ⟨_, rfl⟩
    obtain ⟨own, hown⟩ : ∃ t, t = clmV d cl hs i := ⟨_, rfl⟩
    subst hRR
    have ll' := lu.lt
    have lp := sp.len
    refine yield_rule (args := [iv (i : Int), .slice P np cp]) lu rfl rfl hF' hwf ?_
    refine mid' lu (fun u1 k1 z1 l1 => ?_)
    have ku1 : Kept (fun b => b ≠ bh ∧ b ≠ ba ∧ b ≠ bm ∧ b ≠ w10.heap.size + 1) w11 u1 := ku.then k1 fun b _ h => h.2.2.2
    have zu1 := ku1.size
    have q3 := B3.kept ku1 ⟨by omega, by omega, by omega, by omega⟩
    have q4 := B4.kept ku1 ⟨by omega, by omega, by omega, by omega⟩
    have q6 := B6.kept ku1 ⟨by omega, by omega, by omega, by omega⟩
    have q9 := B9.kept ku1 ⟨by omega, by omega, by omega, by omega⟩
    have q10 := B10.kept ku1 ⟨by omega, by omega, by omega, by omega⟩
    have qs := Bs.kept ku1 ⟨by omega, by omega, by omega, by omega⟩
    have qr := hrB.kept ku1 fun b _ h => ⟨by omega, by omega, by omega, by omega⟩
    have ql := hlB.kept ku1 fun b _ h => ⟨by omega, by omega, by omega, by omega⟩
    have sp1 := sp.kept k1 fun b hb h => by omega
    have bh1 := bhu.kept k1 (by omega)
    have ba1 := bau.kept k1 (by omega)
    have bm1 := bmu.kept k1 (by omega)
    refine ld (.slice A n c) (q4.cell rfl) ?_
    refine ld (.slice (some (ad bs 0)) n1 n1) (q9.cell rfl) ?_
    refine call_of (c_dclaims (D := fun _ => True) (sp1.more (by decide) fun _ _ _ => trivial) (ql.more (by decide) fun _ _ _ => trivial) (blk_ints (D := fun _ => True) qs (by rw [R.lh]; omega) R.okh (by omega) trivial) (by rw [← lp, ← clmV_len (cl := cl) (hs := hs)]; exact lenB) (fun p hp => ?_) R.okc R.okh) ?_
    · rcases mem_ptsV.1 hp with h | h
      · exact ⟨fun _ => by have := R.lc; omega, fun e => (by rw [h.1] at e; cases e)⟩
      · exact ⟨fun e => (by rw [h.1] at e; cases e), fun _ => by omega⟩
    rintro _ u2 ⟨A', c', rfl, o2⟩
    have x12 := o2.ext
    have eT : isum ((ptsV d (i : Int)).map (clP cl hs)) = tot := htot.symm
    rw [eT]
    rw [show (ptsV d (i : Int)).map (clP cl hs) = own from hown.symm] at o2
    rw [← hown] at tE wk2 lenB okc
    rw [← htot] at sumB
    have htot' : tot = isum own := by rw [hown]; exact htot
    have own64 := okL_i64 okc
    have lown : own.length = np := by rw [hown, clmV_len]; exact lp
    have so2 : SlR tInt (fun b => u1.heap.size ≤ b) u2 A' np own := o2.ints own64 (by omega) fun _ h => h
    have q3 := q3.ext x12
    have q6 := q6.ext x12
    have q10 := q10.ext x12
    have qr := qr.ext x12
    have sp2 := sp1.ext x12
    have bh2 := bh1.ext x12
    have ba2 := ba1.ext x12
    have bm2 := bm1.ext x12
    have l2 := l1.kept x12 trivial
    have ku2 : Kept (fun b => b ≠ bh ∧ b ≠ ba ∧ b ≠ bm ∧ b ≠ w10.heap.size + 1) w11 u2 := ku1.then x12 fun _ _ _ => trivial
    have zu2 := x12.size
    -- what arrives
    have hidx : clA hd' i = clA hd' i := rfl
    obtain ⟨hv, hhv⟩ : ∃ hv, hv = clA hd' i := ⟨_, rfl⟩
    have hgi : hd'[i]? = some hv := by
      have hl := Dv.lh
      have : i < hd'.length := by omega
      rw [List.getElem?_eq_getElem this, hhv, clA_at (List.getElem?_eq_getElem this)]
    have shd : SlR tInt (fun b => b = bh) u2 (some (ad bh 0)) n1 hd' := blk_ints bh2 (by have := Dv.lh; omega) Dv.oh (by omega) rfl
    obtain ⟨bx, ox, csx, hv', hbx, hgx, -, -, hcx, rfl, -⟩ := shd.at_ (k := i) (by omega)
    injection hbx with hbx
    injection hbx with hx1 hx2
    subst hx1; subst hx2
    obtain rfl : hv = hv' := by rw [hgi] at hgx; injection hgx
    obtain ⟨br, or_, csr, r', rfl, hr', -, -, hcr, rfl⟩ := qr.at_ (k := i) (by omega)
    obtain rfl : r = r' := by rw [hri] at hr'; injection hr'
    rw [hrc] at rl1 rl2 rl3 arb
    refine drawP (.take 0 (.take 1 (.take 2 (.take 3 (.take 4 (.take 5 (.take 6 (.take 7 (.take 8 (.take 9 (.eff 10 (.take 11 (.take 12 (.take 13 (.take 14 (.take 15 .done)))))))))))))))) [] (fun z => Ext u2 z) mx (by kernel_rfl) (.refl _ _) ?_
    refine fldA ?_
    refine ldK (.slice (some (ad br or_)) n1 c1) (q3.cell rfl) trivial (.refl _ _) ?_
    refine idx i rfl (by omega) ?_
    refine ldAK r.c hcr rfl trivial (.refl _ _) ?_
    refine fldA ?_
    refine ldK (.slice (some (ad bh 0)) n1 n1) (q6.cell rfl) trivial (.refl _ _) ?_
    refine idx i rfl (by omega) ?_
    refine ldK (iv hv) (hcx 0 _ rfl) trivial (.refl _ _) ?_
    refine call_of (c_lWorst (r := r) (v := hv)) ?_
    rintro _ u3 ⟨rfl, x3'⟩
    have eL : lErr r hv = 0 := lErr_ok.2 ⟨rl1, by omega, by omega⟩
    rw [eL, if_pos rfl]
    refine strS x3' ?_
    refine lit [iv tot] (fun gg u4 hq4 => ?_)
    have x24 : Ext u2 u4 := x3'.trans hq4.ext
    refine call_of (c_dleast (n := hv - (lostR r hv).hi) (l := [tot]) (m := 1) (D := fun _ => True) (SlR.of_cells rfl (by decide) trivial (.blk hq4.blk) (flat_ints fun x hx => by rw [List.mem_singleton] at hx; rw [hx]; unfold I64; omega))) ?_
    rintro _ u5 ⟨rfl, rfl⟩
    obtain ⟨wk, hwk⟩ : ∃ wk, wk = workV d cl hs hd' i := ⟨_, rfl⟩
    have ewk : List.foldl min (hv - (lostR r hv).hi) [tot] = wk := by
      rw [hwk]; unfold workV; rw [← htot, hrc, ← hhv]; rfl
    rw [ewk]
    rw [← hwk] at tE wk0 wk1 wk2
    rw [hrc, ← hhv] at wk1
    have so4 := so2.ext x24
    have z24 := x24.size
    -- the awards
    refine call_of (c_gAward' (E := wk) (l := own) so4 tE) ?_
    rintro _ u6 ⟨m, A3', n3', c3', hmk, rfl, sa6, hca, x46, ln3⟩
    have x26 := x24.trans x46
    have z46 := x46.size
    have q3 := q3.ext x26
    have q6 := q6.ext x26
    have q10 := q10.ext x26
    have qr := qr.ext x26
    have sp6 := sp2.ext x26
    have bh6 := bh2.ext x26
    have ba6 := ba2.ext x26
    have bm6 := bm2.ext x26
    have l6 := l2.kept x26 trivial
    have ku6 := ku2.then x26 fun _ _ _ => trivial
    have so6 := so4.ext x46
    have hlm := Dv.lm
    have Dk := Dv.mark hir (m := m) (by rw [← hwk, ← hown]; exact hmk)
    -- the mark
    refine drawP (.take 0 (.take 1 (.take 2 (.take 3 (.take 4 (.eff 5 (.take 6 (.take 7 (.take 8 (.take 9 (.bar (.eff 10 .done)))))))))))) [10] (fun z => Ext u6 z) mx (by kernel_rfl) (.refl _ _) ?_
    refine fldA ?_
    refine ldK (.slice (some (ad bm 0)) n1 n1) (q6.cell rfl) trivial (.refl _ _) ?_
    refine call_of (c_gThr (E := wk) (l := own) so6 (by unfold I64; omega)) ?_
    rintro _ u7 ⟨x67, m', rfl, hmk'⟩
    obtain rfl : m = m' := hmk.uniq hmk'
    refine strS x67 ?_
    refine idx i rfl (by omega) ?_
    refine barS (fun _ => True) trivial ?_
    refine stA (vs := encM m) (bm6.ext x67) rfl (by rw [mks_len]; show _ + 4 ≤ _; omega) (by simp [Value.oneCell']) (fun u8 bm8 k8' z8' => ?_)
    refine strS trivial ?_
    have bm8 : Blk u8 bm 92 (mks (mk.set i m)) := by
      rw [← mks_set (by omega : i < mk.length)]
      have := bm8
      simpa using this
    have z67 := x67.size
    have q3 := (q3.ext x67).kept k8' (by omega)
    have q6 := (q6.ext x67).kept k8' (by omega)
    have q10 := (q10.ext x67).kept k8' (by omega)
    have qr := (qr.ext x67).kept k8' fun b _ h => by omega
    have sp8 := (sp6.ext x67).kept k8' fun b _ h => by omega
    have bh8 := (bh6.ext x67).kept k8' (by omega)
    have ba8 := (ba6.ext x67).kept k8' (by omega)
    have l8 := (l6.kept x67 trivial).kept k8' (by omega)
    have sa8 := (sa6.ext x67).kept k8' fun b _ h => by omega
    have ku8 : Kept (fun b => b ≠ bh ∧ b ≠ ba ∧ b ≠ bm ∧ b ≠ w10.heap.size + 1) w11 u8 := (ku6.then x67 fun _ _ _ => trivial).then k8' fun b _ h => h.2.2.1
    have zk8 := ku8.size
    have zu8 : u6.heap.size ≤ u8.heap.size := by omega
    -- the parts
    refine len ?_
    refine loop_rule (fun j : Nat => [(108, iv (j : Int))]) (fun j z => j ≤ np ∧ ∃ hd2 aw2, DivK d cl hs E hd2 aw2 (mk.set i m) i j m ∧ Blk z bh 3 (ivs hd2) ∧ Blk z ba 3 (ivs aw2) ∧ Kept (fun b => b ≠ bh ∧ b ≠ ba) u8 z) (fun j _ => np - j) 0 ⟨rfl, trivial⟩ ⟨by omega, hd', aw, Dk, bh8, ba8, .refl _ _⟩ rfl ?_
    rintro G9 j z ⟨hj, hd2, aw2, DK, bhz, baz, kz⟩
    have q3 := q3.kept kz (by omega)
    have q6 := q6.kept kz (by omega)
    have q10 := q10.kept kz (by omega)
    have qr := qr.kept kz fun b _ h => by omega
    have spz := sp8.kept kz fun b _ h => by omega
    have saz := sa8.kept kz fun b _ h => by omega
    have lz := l8.kept kz (by omega)
    have bmz := bm8.kept kz (by omega)
    have zz := kz.size
    refine cD (fun hlt => ?_) (fun hge => ?_)
    · have hlt : j < np := by omega
      obtain ⟨bp, op, csp, p, rfl, hp, -, -, hcp', rfl⟩ := spz.at_ hlt
      obtain ⟨av, hav⟩ : ∃ av, av = ownV m (clA own j) j := ⟨_, rfl⟩
      refine idx j rfl hlt ?_
      refine ldA (encP p) hcp' rfl ?_
      refine alloc (fun b20 z1 i1 => ?_)
      have y1 := i1.at_
      have r1 := i1.size
      refine stA (vs := encP p) i1.blk rfl (Nat.le_of_ble_eq_true rfl) (by simp [Value.oneCell']) (fun z2 B20 k2 s2' => ?_)
      have B20 : Blk z2 b20 73 (encP p) := B20
      have xz2 : Ext z z2 := i1.ext.then k2 fun b hb _ e => by omega
      have zz2 := xz2.size
      have q3 := q3.ext xz2
      have q6 := q6.ext xz2
      have q10 := q10.ext xz2
      have qr := qr.ext xz2
      have bhz := bhz.ext xz2
      have baz := baz.ext xz2
      obtain ⟨by_, oy, csy, av', rfl, hgy, -, -, hcy2, rfl, -⟩ := (saz.ext xz2).at_ (k := j) (by omega)
      obtain rfl : av = av' := by
        have := awL_at (m := m) (l := own) (i := j) (by omega)
        rw [hgy] at this; injection this with this; rw [hav, this]
      have hll := DK.b.la
      have hlh := DK.b.lh
      have lbz1 := bhz.lt
      have lbz2 := baz.lt
      obtain ⟨pf, f⟩ := p
      have eav : av = ownV m (clA (clmV d cl hs i) j) j := by rw [hav, hown]
      cases pf with
      | true =>
        have hfl : f < d.farms.length := by
          rcases mem_ptsV.1 (List.mem_of_getElem? hp) with h | h
          · exact h.2.1
          · cases h.1
        have DK2 := DK.farm R hir hp
        rw [← eav] at DK2
        refine fldA ?_
        refine ld (.bool true) (B20.cell rfl) ?_
        refine drawP (.take 0 (.take 1 (.take 2 (.take 3 (.take 4 (.take 5 (.take 6 (.take 7 (.take 8 (.bar (.eff 9 .done))))))))))) [9] (fun y => y = z2) mx (by kernel_rfl) rfl ?_
        refine fldA ?_
        refine ld (.slice (some (ad ba 0)) n2 n2) (q6.cell rfl) ?_
        refine fldA ?_
        refine ld (iv (f : Int)) (B20.cell rfl) ?_
        refine idx j rfl (by omega) ?_
        refine ld (iv av) (hcy2 0 _ rfl) ?_
        refine idx f rfl (by omega) ?_
        refine barS (fun _ => True) trivial ?_
        refine st (v := iv av) baz (by simp; omega) rfl (fun z3 ba3 k3 s3' => ?_)
        refine strS trivial ?_
        refine arI (by omega) ?_
        refine next (j + 1) ⟨by rw [Int.natCast_add]; rfl, trivial⟩ ⟨by omega, hd2, _, DK2, bhz.kept k3 (by omega), ?_, (kz.then xz2 fun _ _ _ => trivial).then k3 fun b _ h => h.2⟩ (by omega)
        rw [← ivs_set]
        simpa using ba3
      | false =>
        have hfl := R.v.child (List.mem_of_getElem? hp)
        have DK2 := DK.child R hir hp
        rw [← eav] at DK2
        refine fldA ?_
        refine ld (.bool false) (B20.cell rfl) ?_
        refine drawP (.take 0 (.take 1 (.take 2 (.take 3 (.take 4 (.take 5 (.take 6 (.bar (.eff 7 .done))))))))) [7] (fun y => y = z2) mx (by kernel_rfl) rfl ?_
        refine ld (.func (.func 31) #[] #[ptr b3, ptr b6]) (q10.cell rfl) ?_
        refine fldA ?_
        refine ld (iv (f : Int)) (B20.cell rfl) ?_
        refine idx j rfl (by omega) ?_
        refine ld (iv av) (hcy2 0 _ rfl) ?_
        refine barS (fun _ => True) trivial ?_
        refine call_of (c_denter (r := f) qr q3 q6 bhz (by omega) (by omega : f < n1) (by omega)) ?_
        rintro _ z3 ⟨rfl, bh3, k3⟩
        refine strS trivial ?_
        refine arI (by omega) ?_
        exact next (j + 1) ⟨by rw [Int.natCast_add]; rfl, trivial⟩ ⟨by omega, _, aw2, DK2, bh3, baz.kept k3 (by omega), (kz.then xz2 fun _ _ _ => trivial).then k3 fun b _ h => h.1⟩ (by omega)
    · have DD := DK.done (by omega)
      refine roundN' _ lz (fun z1 k1' l1' => ?_)
      have lbz1 := bhz.lt
      have lbz2 := baz.lt
      have lbz3 := bmz.lt
      refine .inl ⟨rfl, ⟨hd2, aw2, _, DD, bhz.kept k1' (by omega), baz.kept k1' (by omega), bmz.kept k1' (by omega), l1'⟩, (ku8.then kz fun b _ h => ⟨h.1, h.2.1⟩).then k1' fun b _ h => h.2.2.2⟩
  · rintro _ u (⟨⟨hd', aw, mk, Dv, bhu, bau, bmu, lu⟩, ku⟩ | h)
    · subst hRR
      rw [← lr] at Dv
      have DV := Dv.all
      refine range_end _ lu (by simp) (fun u1 k1 => ?_)
      have ll' := lu.lt
      have ku1 : Kept (fun b => b ≠ bh ∧ b ≠ ba ∧ b ≠ bm ∧ b ≠ w10.heap.size + 1) w11 u1 := ku.then k1 fun b _ h => h.2.2.2
      have q6 := B6.kept ku1 ⟨by omega, by omega, by omega, by omega⟩
      have bh1 := bhu.kept k1 (by omega)
      have ba1 := bau.kept k1 (by omega)
      have bm1 := bmu.kept k1 (by omega)
      have lb61 := q6.lt
      refine ldA [.slice (some (ad bh 0)) n1 n1, .slice (some (ad ba 0)) n2 n2, .slice (some (ad bm 0)) n1 n1] (.blk q6) rfl ?_
      refine stA (vs := [.slice (some (ad bh 0)) n1 n1, .slice (some (ad ba 0)) n2 n2, .slice (some (ad bm 0)) n1 n1]) q6 rfl (Nat.le_of_ble_eq_true rfl) (by simp [Value.oneCell']) (fun u2 q62 k2 z2 => ?_)
      have q62 : Blk u2 b6 46 [.slice (some (ad bh 0)) n1 n1, .slice (some (ad ba 0)) n2 n2, .slice (some (ad bm 0)) n1 n1] := q62
      have z05 := x05.size
      have z09 := x09.size
      have zku1 := ku1.size
      have hD2 : u2.heap[w10.heap.size]? = some (.deferred (some [])) := ((k2.blk _ (by omega) (by omega)).trans (ku1.blk _ (by omega) ⟨by omega, by omega, by omega, by omega⟩)).trans hD11
      refine retM hD2 ?_
      have k3 := Kept.putObj u2 w10.heap.size (.deferred none)
      refine resL _ (holds_agg (CellsAt.blk (q62.kept k3 (by omega))) rfl) ?_
      have xF : Ext w (u2.putObj w10.heap.size (.deferred none)) := ((x0B.then ku1 fun b hb _ => ⟨by omega, by omega, by omega, by omega⟩).then k2 fun b hb _ => by omega).then k3 fun b hb _ => by omega
      refine ⟨xF, .inr ⟨eo, hs, hd', aw, mk, bh, ba, bm, hne, R, DV, Dv.oh, Dv.oa, by rw [lr, lf]; rfl, (bh1.kept k2 (by omega)).kept k3 (by omega), (ba1.kept k2 (by omega)).kept k3 (by omega), (bm1.kept k2 (by omega)).kept k3 (by omega), by omega, by omega, by omega⟩⟩
    · exact h.elim
end
end Go.Proofs.YtmjcaclakggafaaGreat

/- Layer 41: contracts in one form; the laws' small district; sane. -/
namespace Go.Proofs.YtmjcaclakggafaaGreat
open Go Go.RowKit

/-- A slice of a division's. -/
structure CutR (w w' : World) (d : Dist) (cl : List Int) (E : Int) (H G M : Option Addr) (nh ng nm : Nat) : Prop where
  er : dvErr d cl E ≠ 0 → (H = none ∧ nh = 0) ∧ (G = none ∧ ng = 0) ∧ (M = none ∧ nm = 0)
  ok : dvErr d cl E = 0 → nh = d.reaches.length ∧ ng = d.farms.length ∧ nm = d.reaches.length ∧ ∃ hs hd aw mk bh ba bm, needsV d cl = some hs ∧ Rdy d cl hs ∧ DivV d cl hs E hd aw mk ∧ OkL hd ∧ OkL aw ∧ H = some (ad bh 0) ∧ G = some (ad ba 0) ∧ M = some (ad bm 0) ∧
    Blk w' bh 3 (ivs hd) ∧ Blk w' ba 3 (ivs aw) ∧ Blk w' bm 92 (mks mk) ∧ w.heap.size ≤ bh ∧ w.heap.size ≤ ba ∧ w.heap.size ≤ bm
theorem dvErr_ok {d : Dist} {cl : List Int} {E : Int} : dvErr d cl E = 0 ↔ openErr d cl = 0 ∧ 0 ≤ E ∧ E ≤ 1099511627776 := by
  unfold dvErr
  by_cases h : openErr d cl = 0
  · rw [if_neg (fun q => q h)]
    by_cases h2 : 0 ≤ E ∧ E ≤ 1099511627776
    · rw [if_pos h2]; simp [h, h2]
    · rw [if_neg h2]; simp only [h, true_and]; exact ⟨fun e => (by cases e), fun e => absurd e h2⟩
  · rw [if_pos h]; simp [h]
section
variable {D : Nat → Prop} {w : World}
theorem c_dDiv {csd : List Value} {d : Dist} {cl : List Int} {A : Option Addr} {n c : Nat} {E : Int} (hd : DiR D w csd d) (hl : SlR tInt D w A n cl) : CallZ Tryz.prog 14 #[.agg csd.toArray, .slice A n c, iv E] w (fun v w' => ∃ H nh ch G ng cg M nm cm, v = .tuple #[.agg #[.slice H nh ch, .slice G ng cg, .slice M nm cm], iv (dvErr d cl E)] ∧ Ext w w' ∧ CutR w w' d cl E H G M nh ng nm) :=
  (c_dDivide hd hl).mono (by
    rintro v w' ⟨x, ⟨h, rfl⟩ | ⟨h, hs, hd', aw, mk, bh, ba, bm, h1, h2, h3, h4, h5, rfl, h6, h7, h8, h9, h10, h11⟩⟩
    · exact ⟨_, _, _, _, _, _, _, _, _, rfl, x, ⟨fun _ => ⟨⟨rfl, rfl⟩, ⟨rfl, rfl⟩, rfl, rfl⟩, fun q => absurd q h⟩⟩
    · exact ⟨_, _, _, _, _, _, _, _, _, by rw [h], x, ⟨fun q => absurd h q, fun _ => ⟨rfl, rfl, rfl, hs, hd', aw, mk, bh, ba, bm, h1, h2, h3, h4, h5, rfl, rfl, rfl, h6, h7, h8, h9, h10, h11⟩⟩⟩)
/-- With enough each reach has its need. -/
theorem DivV.full {d : Dist} {cl hs hd aw : List Int} {mk : List Mk} {E : Int} (D : DivV d cl hs E hd aw mk) (R : Rdy d cl hs) (hE : 0 ≤ E) (hq : clA hs 0 ≤ E) : ∀ (r : Nat), r < d.reaches.length → clA hd r = clA hs r := by
  have nb : ∀ j, j < d.reaches.length → 0 ≤ clA hs j ∧ (clA hs j = 0 ∨ (rcC d j).siphon ≤ clA hs j) ∧ isum (clmV d cl hs j) ≤ arrW (rcC d j) (clA hs j) := fun j hj => by
    obtain ⟨l1, l2, l3⟩ := R.v.loss hj
    obtain ⟨b1, -, b3, b4⟩ := needV_b _ _ ⟨l2, l3⟩ l1 (R.nd j hj)
    exact ⟨b1, b3, b4 (R.sum j).1⟩
  intro r
  induction r using Nat.strongRecOn with
  | ind r ih =>
    intro hr
    by_cases h0 : r = 0
    · subst h0
      rw [D.top]
      have := nb 0 hr
      unfold cut; split <;> omega
    · obtain ⟨p, k, hp, hk⟩ := R.v.par (by omega) hr
      have hp' : p < d.reaches.length := by omega
      obtain ⟨e1, e2⟩ := pt_at (cl := cl) (hs := hs) hk
      have hw : workV d cl hs hd p = isum (clmV d cl hs p) := by
        have := nb p hp'
        unfold workV
        rw [ih p hp hp']; omega
      rw [(D.at_ p hp').child k r hk, (D.awd R hE hp').all hw k e2, e1]
      show cut d r (clA hs r) = clA hs r
      have := nb r hr
      unfold cut; split <;> omega
/-! ### the small district -/
def rc41 (up : Int) : Reach := ⟨ByteArray.empty, up, 1, 50, 50, 0, ⟨0, 0⟩, ⟨0, 1⟩, ⟨0, 1⟩⟩
def sd41 : Dist := ⟨ByteArray.empty, 4, 0, 0, [rc41 (-1), rc41 0], [⟨ByteArray.empty, 0, 0, -1⟩, ⟨ByteArray.empty, 1, 0, -1⟩, ⟨ByteArray.empty, 0, 0, -1⟩], [], [], [], []⟩
theorem c_sreach {up : Int} : CallZ Tryz.prog 41 #[iv up] w (fun v w' => v = (rc41 up).v ∧ Ext w w') := by
  refine fn_rule (args := [iv up]) Tryz.func41 (by kernel_rfl) ?_
  refine alloc (fun b w1 h1 => ?_)
  refine bld [iv 0, iv 1] (by kernel_rfl) ?_
  refine bld [iv 0, iv 1] (by kernel_rfl) ?_
  refine bld [iv 0, iv 1, iv 0, iv 1] (by kernel_rfl) ?_
  refine bld (rc41 up).c (by kernel_rfl) ?_
  refine stA (vs := (rc41 up).c) h1.blk rfl (Nat.le_of_ble_eq_true rfl) (by simp [Value.oneCell']) (fun w2 B2 k2 z2 => ?_)
  have B2 : Blk w2 b 82 (rc41 up).c := B2
  have e1 := h1.at_
  refine ret ?_
  refine resL _ (holds_agg (CellsAt.blk B2) rfl) ?_
  exact ⟨rfl, h1.ext.then k2 fun b hb _ e => by omega⟩
theorem c_ssmall : CallZ Tryz.prog 17 #[] w (fun v w' => ∃ csd, v = .agg csd.toArray ∧ Ext w w' ∧ DiR (fun _ => True) w' csd sd41) := by
  refine fn_rule (args := []) Tryz.func17 (by kernel_rfl) ?_
  refine alloc (fun b w1 h1 => ?_)
  refine call_of (c_sreach (up := -1)) ?_
  rintro _ w2 ⟨rfl, x2⟩
  refine call_of (c_sreach (up := 0)) ?_
  rintro _ w3 ⟨rfl, x3⟩
  refine lit [(rc41 (-1)).v, (rc41 0).v] (fun q7 w4 h7 => ?_)
  refine bld [.string ByteArray.empty, iv 0, iv 0, iv (-1)] (by kernel_rfl) ?_
  refine bld [.string ByteArray.empty, iv 1, iv 0, iv (-1)] (by kernel_rfl) ?_
  refine bld [.string ByteArray.empty, iv 0, iv 0, iv (-1)] (by kernel_rfl) ?_
  refine lit [.agg #[.string ByteArray.empty, iv 0, iv 0, iv (-1)], .agg #[.string ByteArray.empty, iv 1, iv 0, iv (-1)], .agg #[.string ByteArray.empty, iv 0, iv 0, iv (-1)]] (fun q8 w5 h8 => ?_)
  refine bld [.string ByteArray.empty, iv 4, iv 0, iv 0, .slice (some (ad q7 0)) 2 2, .slice (some (ad q8 0)) 3 3, .slice none 0 0, .slice none 0 0, .slice none 0 0, .slice none 0 0] (by kernel_rfl) ?_
  have xx := ((x2.trans x3).trans h7.ext).trans h8.ext
  refine stA (vs := [.string ByteArray.empty, iv 4, iv 0, iv 0, .slice (some (ad q7 0)) 2 2, .slice (some (ad q8 0)) 3 3, .slice none 0 0, .slice none 0 0, .slice none 0 0, .slice none 0 0]) (h1.blk.ext xx) rfl (Nat.le_of_ble_eq_true rfl) (by simp [Value.oneCell']) (fun w6 B6 k6 z6 => ?_)
  have B6 : Blk w6 b 31 [.string ByteArray.empty, iv 4, iv 0, iv 0, .slice (some (ad q7 0)) 2 2, .slice (some (ad q8 0)) 3 3, .slice none 0 0, .slice none 0 0, .slice none 0 0, .slice none 0 0] := B6
  have e1 := h1.at_
  have s1 := h1.size
  have z2 := x2.size
  have z3 := x3.size
  have e7 := h7.at_
  have e8 := h8.at_
  have s7 := h7.size
  have g7 := CellsAt.blk ((h7.blk.ext h8.ext).kept k6 (by omega))
  have g8 := CellsAt.blk (h8.blk.kept k6 (by omega))
  refine ret ?_
  refine resL _ (holds_agg (CellsAt.blk B6) rfl) ?_
  refine ⟨_, rfl, (h1.ext.trans xx).then k6 fun b hb _ e => by omega, DiR.of_ ⟨_, _, _, _, _, _, _, _, _, _, _, _, _, _, _, _, _, _, rfl, ?_, ?_, SlR.nil, SlR.nil, SlR.nil, SlR.nil⟩⟩
  · exact SlR.of_cells rfl (by decide) trivial g7 ⟨_, _, rfl, rfl, _, _, rfl, rfl, rfl⟩
  · exact SlR.of_cells rfl (by decide) trivial g8 ⟨_, _, rfl, rfl, _, _, rfl, rfl, _, _, rfl, rfl, rfl⟩
/-! ### what it answers -/
theorem sd1 : divErr sd41 [6, 0, 4] = 0 := by kernel_rfl
theorem sd2 : needsV sd41 [6, 0, 4] = some [10, 0] := by kernel_rfl
theorem sd3 : shErr sd41 [6, 2, 4] 0 = 0 := by kernel_rfl
theorem sd4 : needsV sd41 [6, 2, 4] = some [12, 2] := by kernel_rfl
theorem sd5 : clmV sd41 [6, 2, 4] [12, 2] 0 = [6, 4, 2] := by kernel_rfl
theorem sd6 : dvErr sd41 [6, 0, 4] 5 = 0 := by kernel_rfl
theorem sd7 : dvErr sd41 [0, 7, 0] 9 = 0 := by kernel_rfl
theorem sd8 : needsV sd41 [0, 7, 0] = some [7, 7] := by kernel_rfl
theorem sd9 : ptErr sd41 2 = 0 := by kernel_rfl
theorem sda : ptErr sd41 3 = 1 := by kernel_rfl
theorem sdb : divErr sd41 [-1, 0, 0] = 410 := by kernel_rfl
theorem sdc : dvErr sd41 [6, 0, 4] (-1) = 1 := by kernel_rfl
theorem sdd : ptsV sd41 0 = [(true, 0), (true, 2), (false, 1)] := by kernel_rfl
theorem sde {hd aw : List Int} {mk : List Mk} (R : Rdy sd41 [6, 0, 4] [10, 0]) (V : DivV sd41 [6, 0, 4] [10, 0] 5 hd aw mk) : aw = [3, 0, 2] := by
  have A := (V.at_ 0 (by decide))
  have m1 := A.mark
  have t : clA hd 0 = 5 := V.top
  have hw : workV sd41 [6, 0, 4] [10, 0] hd 0 = 5 := by unfold workV; rw [t]; kernel_rfl
  have hc : clmV sd41 [6, 0, 4] [10, 0] 0 = [6, 4, 0] := by kernel_rfl
  rw [hw, hc] at m1
  have m2 : MarkOf 5 [6, 4, 0] ⟨false, 3, 6, 0⟩ := by
    unfold MarkOf
    rw [if_pos ⟨by decide, by decide⟩]
    exact ⟨⟨⟨by decide, by decide, by decide⟩, by decide, by decide⟩, by decide⟩
  have em := m1.uniq m2
  have f0 := A.farm 0 0 (by rw [show ((0 : Nat) : Int) = 0 from rfl, sdd]; rfl)
  have f1 := A.farm 1 2 (by rw [show ((0 : Nat) : Int) = 0 from rfl, sdd]; rfl)
  rw [em, hc] at f0 f1
  have g := V.met R (by decide) 1 (by decide)
  have la := V.la
  have h1 : clA [6, 0, 4] 1 = 0 := rfl
  have f0 : clA aw 0 = 3 := f0
  have f1 : clA aw 2 = 2 := f1
  have g : clA aw 1 = 0 := by omega
  match aw, la, f0, f1, g with
  | [a, b, c], _, f0, f1, g =>
    have f0 : a = 3 := f0
    have f1 : c = 2 := f1
    have g : b = 0 := g
    rw [f0, f1, g]
theorem sdf {hd aw : List Int} {mk : List Mk} (R : Rdy sd41 [0, 7, 0] [7, 7]) (V : DivV sd41 [0, 7, 0] [7, 7] 9 hd aw mk) : aw = [0, 7, 0] ∧ hd = [7, 7] := by
  have f := V.full R (by decide) (by decide)
  have g := V.met R (by decide)
  have la := V.la
  have lh := V.lh
  have f0 : clA hd 0 = 7 := f 0 (by decide)
  have f1 : clA hd 1 = 7 := f 1 (by decide)
  have g0 : clA aw 0 = 0 := (g 0 (by decide)).2.2 (by decide)
  have g1 : clA aw 1 = 7 := (g 1 (by decide)).2.2 (by decide)
  have g2 : clA aw 2 = 0 := (g 2 (by decide)).2.2 (by decide)
  constructor
  · match aw, la, g0, g1, g2 with
    | [a, b, c], _, g0, g1, g2 =>
      have g0 : a = 0 := g0
      have g1 : b = 7 := g1
      have g2 : c = 0 := g2
      rw [g0, g1, g2]
  · match hd, lh, f0, f1 with
    | [a, b], _, f0, f1 =>
      have f0 : a = 7 := f0
      have f1 : b = 7 := f1
      rw [f0, f1]
end
end Go.Proofs.YtmjcaclakggafaaGreat

/- Layer 41: contract of the laws' sane; Few, shaped. -/
namespace Go.Proofs.YtmjcaclakggafaaGreat
open Go Go.RowKit

section
variable {w : World} {csd : List Value}
theorem lit3 {w w' : World} {a b c : Int} {g : Nat} {t : TypeId} (h : NewB w t [iv a, iv b, iv c] g w') (ha : -1000 ≤ a ∧ a ≤ 1000) (hb : -1000 ≤ b ∧ b ≤ 1000) (hc : -1000 ≤ c ∧ c ≤ 1000) : SlR tInt (fun _ => True) w' (some (ad g 0)) 3 [a, b, c] :=
  SlR.of_cells rfl (by decide) trivial (.blk h.blk) (flat_ints fun x hx => by
    simp only [List.mem_cons, List.not_mem_nil, or_false] at hx
    rcases hx with rfl | rfl | rfl
    all_goals (unfold I64; omega))
theorem sm_needs {A : Option Addr} {c : Nat} (hd : DiR (fun _ => True) w csd sd41) (hl : SlR tInt (fun _ => True) w A 3 [6, 0, 4]) : CallZ Tryz.prog 7 #[.agg csd.toArray, .slice A 3 c] w (fun v w' => Ext w w' ∧ ∃ bh, v = .tuple #[.slice (some (ad bh 0)) 2 2, .bool true, iv 0] ∧ Blk w' bh 3 [iv 10, iv 0]) :=
  (c_dNeeds hd hl).mono (by
    rintro v w' ⟨x, ⟨h, -⟩ | ⟨-, h, -⟩ | ⟨-, hs, bh, h, rfl, -, hb⟩⟩
    · exact absurd sd1 h
    · rw [sd2] at h; cases h
    · rw [sd2] at h; injection h with h; subst h; exact ⟨x, bh, rfl, hb⟩)
theorem sm_needs2 {A : Option Addr} {c : Nat} (hd : DiR (fun _ => True) w csd sd41) (hl : SlR tInt (fun _ => True) w A 3 [-1, 0, 0]) : CallZ Tryz.prog 7 #[.agg csd.toArray, .slice A 3 c] w (fun v w' => Ext w w' ∧ v = .tuple #[.slice none 0 0, .bool false, iv 410]) :=
  (c_dNeeds hd hl).mono (by
    rintro v w' ⟨x, ⟨h, rfl⟩ | ⟨h, -⟩ | ⟨h, -⟩⟩
    · exact ⟨x, by rw [sdb]⟩
    · rw [sdb] at h; cases h
    · rw [sdb] at h; cases h)
theorem sm_shares {A : Option Addr} {c : Nat} (hd : DiR (fun _ => True) w csd sd41) (hl : SlR tInt (fun _ => True) w A 3 [6, 2, 4]) : CallZ Tryz.prog 10 #[.agg csd.toArray, .slice A 3 c, iv 0] w (fun v w' => Ext w w' ∧ ∃ B k, v = .tuple #[.slice B 3 k, iv 0] ∧ SlR tInt (fun _ => True) w' B 3 [6, 4, 2]) :=
  (c_dShares hd hl).mono (by
    rintro v w' ⟨x, ⟨h, -⟩ | ⟨-, hs, B, n', c', h, rfl, o⟩⟩
    · exact absurd sd3 h
    · rw [sd4] at h; injection h with h; subst h
      rw [show (0 : Int).toNat = 0 from rfl, sd5] at o
      have hn := o.own.len
      have hn : n' = 3 := by have : 3 = n' * 1 := hn; omega
      subst hn
      exact ⟨x, B, c', rfl, o.ints (by intro x hx; simp only [List.mem_cons, List.not_mem_nil, or_false] at hx; rcases hx with rfl | rfl | rfl <;> (unfold I64; omega)) (by decide) fun _ _ => trivial⟩)
theorem sm_div {A : Option Addr} {c : Nat} (hd : DiR (fun _ => True) w csd sd41) (hl : SlR tInt (fun _ => True) w A 3 [6, 0, 4]) : CallZ Tryz.prog 14 #[.agg csd.toArray, .slice A 3 c, iv 5] w (fun v w' => Ext w w' ∧ ∃ bh ba bm ch ca cm, v = .tuple #[.agg #[.slice (some (ad bh 0)) 2 ch, .slice (some (ad ba 0)) 3 ca, .slice (some (ad bm 0)) 2 cm], iv 0] ∧ Blk w' ba 3 [iv 3, iv 0, iv 2]) :=
  (c_dDiv hd hl).mono (by
    rintro v w' ⟨H, nh, ch, G, ng, cg, M, nm, cm, rfl, x, hc⟩
    obtain ⟨rfl, rfl, rfl, hs, hd', aw, mk, bh, ba, bm, h1, h2, h3, h4, h5, rfl, rfl, rfl, h6, h7, h8, -⟩ := hc.ok sd6
    rw [sd2] at h1; injection h1 with h1; subst h1
    have := sde h2 h3
    subst this
    rw [sd6]
    exact ⟨x, bh, ba, bm, ch, cg, cm, rfl, h7⟩)
theorem sm_div2 {A : Option Addr} {c : Nat} (hd : DiR (fun _ => True) w csd sd41) (hl : SlR tInt (fun _ => True) w A 3 [0, 7, 0]) : CallZ Tryz.prog 14 #[.agg csd.toArray, .slice A 3 c, iv 9] w (fun v w' => Ext w w' ∧ ∃ bh ba bm ch ca cm, v = .tuple #[.agg #[.slice (some (ad bh 0)) 2 ch, .slice (some (ad ba 0)) 3 ca, .slice (some (ad bm 0)) 2 cm], iv 0] ∧ Blk w' ba 3 [iv 0, iv 7, iv 0] ∧ Blk w' bh 3 [iv 7, iv 7]) :=
  (c_dDiv hd hl).mono (by
    rintro v w' ⟨H, nh, ch, G, ng, cg, M, nm, cm, rfl, x, hc⟩
    obtain ⟨rfl, rfl, rfl, hs, hd', aw, mk, bh, ba, bm, h1, h2, h3, h4, h5, rfl, rfl, rfl, h6, h7, h8, -⟩ := hc.ok sd7
    rw [sd8] at h1; injection h1 with h1; subst h1
    obtain ⟨e1, e2⟩ := sdf h2 h3
    subst e1; subst e2
    rw [sd7]
    exact ⟨x, bh, ba, bm, ch, cg, cm, rfl, h7, h6⟩)
theorem sm_div3 {A : Option Addr} {c : Nat} (hd : DiR (fun _ => True) w csd sd41) (hl : SlR tInt (fun _ => True) w A 3 [6, 0, 4]) : CallZ Tryz.prog 14 #[.agg csd.toArray, .slice A 3 c, iv (-1)] w (fun v w' => Ext w w' ∧ ∃ H nh ch G ng cg M nm cm, v = .tuple #[.agg #[.slice H nh ch, .slice G ng cg, .slice M nm cm], iv 1]) :=
  (c_dDiv hd hl).mono (by
    rintro v w' ⟨H, nh, ch, G, ng, cg, M, nm, cm, rfl, x, hc⟩
    rw [sdc]
    exact ⟨x, H, nh, ch, G, ng, cg, M, nm, cm, rfl⟩)
theorem sm_part (hd : DiR (fun _ => True) w csd sd41) : CallZ Tryz.prog 12 #[.agg csd.toArray, iv 2] w (fun v w' => Ext w w' ∧ v = .tuple #[iv 0, iv 1, iv 0]) :=
  (c_dPart hd).mono (by
    rintro v w' ⟨x, ⟨h, -⟩ | ⟨-, k, rfl, hk⟩⟩
    · exact absurd sd9 h
    · refine ⟨x, ?_⟩
      have e : (fmC sd41 (2 : Int).toNat).reach = 0 := by kernel_rfl
      rw [e, sdd] at hk
      rw [e]
      match k, hk with
      | 0, hk => simp at hk
      | 1, _ => rfl
      | 2, hk => simp at hk
      | k + 3, hk => simp at hk)
theorem sm_part2 (hd : DiR (fun _ => True) w csd sd41) : CallZ Tryz.prog 12 #[.agg csd.toArray, iv 3] w (fun v w' => Ext w w' ∧ v = .tuple #[iv 0, iv 0, iv 1]) :=
  (c_dPart hd).mono (by
    rintro v w' ⟨x, ⟨h, rfl⟩ | ⟨h, -⟩⟩
    · exact ⟨x, by rw [sda]⟩
    · rw [sda] at h; cases h)
set_option maxRecDepth 8000 in
theorem c_ssane : CallZ Tryz.prog 5 #[] w (fun v w' => v = .bool true ∧ Ext w w') := by
  refine fn_rule (args := []) Tryz.func5 (by kernel_rfl) ?_
  refine call_of c_ssmall ?_
  rintro _ w1 ⟨csd, rfl, x1, hd⟩
  have hd0 := hd.ex
  obtain ⟨A1, n1, c1, A2, n2, c2, A3, n3, c3, A4, n4, c4, A5, n5, c5, A6, n6, c6, rfl, -⟩ := hd0
  refine alloc (fun q1 w2 h2 => ?_)
  refine stA (vs := [.string sd41.name, iv sd41.hours, iv sd41.cap, iv sd41.start, .slice A1 n1 c1, .slice A2 n2 c2, .slice A3 n3 c3, .slice A4 n4 c4, .slice A5 n5 c5, .slice A6 n6 c6]) h2.blk rfl (Nat.le_of_ble_eq_true rfl) (by simp [Value.oneCell']) (fun w3 B k3 z3 => ?_)
  have B : Blk w3 q1 31 [.string sd41.name, iv sd41.hours, iv sd41.cap, iv sd41.start, .slice A1 n1 c1, .slice A2 n2 c2, .slice A3 n3 c3, .slice A4 n4 c4, .slice A5 n5 c5, .slice A6 n6 c6] := B
  have e2 := h2.at_
  have x3 : Ext w1 w3 := h2.ext.then k3 fun b hb _ e => by omega
  have hd := hd.ext x3
  have x0 := x1.trans x3
  refine ldA _ (.blk B) rfl ?_
  refine lit [iv 6, iv 0, iv 4] (fun g4 w4 h4 => ?_)
  refine call_of (sm_needs (hd.ext h4.ext) (lit3 h4 (by decide) (by decide) (by decide))) ?_
  rintro _ w5 ⟨x5, bN, rfl, BN⟩
  have x35 := h4.ext.trans x5
  refine ldA _ (.blk (B.ext x35)) rfl ?_
  refine lit [iv 6, iv 2, iv 4] (fun g6 w6 h6 => ?_)
  refine call_of (sm_shares (hd.ext (x35.trans h6.ext)) (lit3 h6 (by decide) (by decide) (by decide))) ?_
  rintro _ w7 ⟨x7, BS, kS, rfl, sS⟩
  have x57 := h6.ext.trans x7
  have x37 := x35.trans x57
  refine ldA _ (.blk (B.ext x37)) rfl ?_
  refine lit [iv 6, iv 0, iv 4] (fun g8 w8 h8 => ?_)
  refine call_of (sm_div (hd.ext (x37.trans h8.ext)) (lit3 h8 (by decide) (by decide) (by decide))) ?_
  rintro _ w9 ⟨x9, bh, ba, bm, ch, ca, cm, rfl, Ba⟩
  refine alloc (fun q7 w10 h10 => ?_)
  refine stA (vs := [.slice (some (ad bh 0)) 2 ch, .slice (some (ad ba 0)) 3 ca, .slice (some (ad bm 0)) 2 cm]) h10.blk rfl (Nat.le_of_ble_eq_true rfl) (by simp [Value.oneCell']) (fun w11 C7 k11 z11 => ?_)
  have C7 : Blk w11 q7 46 [.slice (some (ad bh 0)) 2 ch, .slice (some (ad ba 0)) 3 ca, .slice (some (ad bm 0)) 2 cm] := C7
  have e10 := h10.at_
  have x911 : Ext w9 w11 := h10.ext.then k11 fun b hb _ e => by omega
  have x711 := (h8.ext.trans x9).trans x911
  have x3b := x37.trans x711
  refine ldA _ (.blk (B.ext x3b)) rfl ?_
  refine lit [iv 0, iv 7, iv 0] (fun g12 w12 h12 => ?_)
  refine call_of (sm_div2 (hd.ext (x3b.trans h12.ext)) (lit3 h12 (by decide) (by decide) (by decide))) ?_
  rintro _ w13 ⟨x13, dh, da, dm, eh, ea, em, rfl, Da, Dh⟩
  refine alloc (fun q9 w14 h14 => ?_)
  refine stA (vs := [.slice (some (ad dh 0)) 2 eh, .slice (some (ad da 0)) 3 ea, .slice (some (ad dm 0)) 2 em]) h14.blk rfl (Nat.le_of_ble_eq_true rfl) (by simp [Value.oneCell']) (fun w15 C9 k15 z15 => ?_)
  have C9 : Blk w15 q9 46 [.slice (some (ad dh 0)) 2 eh, .slice (some (ad da 0)) 3 ea, .slice (some (ad dm 0)) 2 em] := C9
  have e14 := h14.at_
  have x1315 : Ext w13 w15 := h14.ext.then k15 fun b hb _ e => by omega
  have xb15 := (h12.ext.trans x13).trans x1315
  have x3f := x3b.trans xb15
  refine ldA _ (.blk (B.ext x3f)) rfl ?_
  refine call_of (sm_part (hd.ext x3f)) ?_
  rintro _ w16 ⟨x16, rfl⟩
  refine ldA _ (.blk ((B.ext x3f).ext x16)) rfl ?_
  refine call_of (sm_part2 ((hd.ext x3f).ext x16)) ?_
  rintro _ w17 ⟨x17, rfl⟩
  have xf17 := x16.trans x17
  have x3h := x3f.trans xf17
  refine ldA _ (.blk (B.ext x3h)) rfl ?_
  refine lit [iv (-1), iv 0, iv 0] (fun g18 w18 h18 => ?_)
  refine call_of (sm_needs2 (hd.ext (x3h.trans h18.ext)) (lit3 h18 (by decide) (by decide) (by decide))) ?_
  rintro _ w19 ⟨x19, rfl⟩
  have xh19 := h18.ext.trans x19
  have x3j := x3h.trans xh19
  refine ldA _ (.blk (B.ext x3j)) rfl ?_
  refine lit [iv 6, iv 0, iv 4] (fun g20 w20 h20 => ?_)
  refine call_of (sm_div3 (hd.ext (x3j.trans h20.ext)) (lit3 h20 (by decide) (by decide) (by decide))) ?_
  rintro _ w21 ⟨x21, H, nh, fh, G, ng, cg, M, nm, fm, rfl⟩
  refine alloc (fun q20 w22 h22 => ?_)
  refine stA (vs := [.slice H nh fh, .slice G ng cg, .slice M nm fm]) h22.blk rfl (Nat.le_of_ble_eq_true rfl) (by simp [Value.oneCell']) (fun w23 C20 k23 z23 => ?_)
  have e22 := h22.at_
  have x2123 : Ext w21 w23 := h22.ext.then k23 fun b hb _ e => by omega
  have xj23 := (h20.ext.trans x21).trans x2123
  have xf23 := (xf17.trans xh19).trans xj23
  have xb23 := xb15.trans xf23
  have x723 := x711.trans xb23
  have x523 := x57.trans x723
  have BN := BN.ext x523
  have sS := sS.ext x723
  have Ba := Ba.ext (x911.trans xb23)
  have C7 := C7.ext xb23
  have Da := Da.ext (x1315.trans xf23)
  have Dh := Dh.ext (x1315.trans xf23)
  have C9 := C9.ext xf23
  have xall := (x0.trans x3j).trans xj23
  have at3 : ∀ (k : Nat) (hk : k < 3), ∃ b o x, BS = some (ad b o) ∧ ([6, 4, 2] : List Int)[k]? = some x ∧ CellsAt w23 b (o + k * tInt.sz) [iv x] := fun k hk => by
    obtain ⟨b, o, cs, x, e, hx, -, -, hc, rfl, -⟩ := sS.at_ (k := k) hk
    exact ⟨b, o, x, e, hx, hc⟩
  obtain ⟨sb, so, x0', hBS, hx0, hc0⟩ := at3 0 (by decide)
  obtain ⟨sb1, so1, x1', hBS1, hx1, hc1⟩ := at3 1 (by decide)
  obtain ⟨sb2, so2, x2', hBS2, hx2, hc2⟩ := at3 2 (by decide)
  rw [hBS] at hBS1 hBS2
  injection hBS1 with hBS1
  injection hBS1 with p1 p2
  injection hBS2 with hBS2
  injection hBS2 with p3 p4
  subst p1; subst p2; subst p3; subst p4
  have q0 : x0' = 6 := by injection hx0 with h; exact h.symm
  have q1' : x1' = 4 := by injection hx1 with h; exact h.symm
  have q2 : x2' = 2 := by injection hx2 with h; exact h.symm
  subst q0; subst q1'; subst q2
  subst hBS
  refine cN (fun h => absurd rfl h) (fun _ => ?_)
  refine cN (fun h => absurd rfl h) (fun _ => ?_)
  refine cN (fun h => absurd rfl h) (fun _ => ?_)
  refine cN (fun h => absurd rfl h) (fun _ => ?_)
  refine cN (fun h => absurd rfl h) (fun _ => ?_)
  refine cN (fun h => absurd rfl h) (fun _ => ?_)
  refine cN (fun h => absurd rfl h) (fun _ => ?_)
  refine cN (fun h => absurd rfl h) (fun _ => ?_)
  refine len ?_
  refine cN (fun h => absurd rfl h) (fun _ => ?_)
  refine len ?_
  refine cN (fun h => absurd rfl h) (fun _ => ?_)
  refine fldA ?_
  refine ld (.slice (some (ad ba 0)) 3 ca) (C7.cell rfl) ?_
  refine len ?_
  refine cN (fun h => absurd rfl h) (fun _ => ?_)
  refine fldA ?_
  refine ld (.slice (some (ad da 0)) 3 ea) (C9.cell rfl) ?_
  refine len ?_
  refine cN (fun h => absurd rfl h) (fun _ => ?_)
  refine fldA ?_
  refine ld (.slice (some (ad dh 0)) 2 eh) (C9.cell rfl) ?_
  refine len ?_
  refine cN (fun h => absurd rfl h) (fun _ => ?_)
  refine idx 0 rfl (by decide) ?_
  refine ld (iv 10) (BN.cell rfl) ?_
  refine cE (fun _ => ?_) (fun h => absurd rfl h)
  refine idx 1 rfl (by decide) ?_
  refine ld (iv 0) (BN.cell rfl) ?_
  refine cE (fun _ => ?_) (fun h => absurd rfl h)
  refine idx 0 rfl (by decide) ?_
  refine ld (iv 6) (hc0 0 _ rfl) ?_
  refine cE (fun _ => ?_) (fun h => absurd rfl h)
  refine idx 1 rfl (by decide) ?_
  refine ld (iv 4) (hc1 0 _ rfl) ?_
  refine cE (fun _ => ?_) (fun h => absurd rfl h)
  refine idx 2 rfl (by decide) ?_
  refine ld (iv 2) (hc2 0 _ rfl) ?_
  refine cE (fun _ => ?_) (fun h => absurd rfl h)
  refine fldA ?_
  refine ld (.slice (some (ad ba 0)) 3 ca) (C7.cell rfl) ?_
  refine idx 0 rfl (by decide) ?_
  refine ld (iv 3) (Ba.cell rfl) ?_
  refine cE (fun _ => ?_) (fun h => absurd rfl h)
  refine fldA ?_
  refine ld (.slice (some (ad ba 0)) 3 ca) (C7.cell rfl) ?_
  refine idx 1 rfl (by decide) ?_
  refine ld (iv 0) (Ba.cell rfl) ?_
  refine cE (fun _ => ?_) (fun h => absurd rfl h)
  refine fldA ?_
  refine ld (.slice (some (ad ba 0)) 3 ca) (C7.cell rfl) ?_
  refine idx 2 rfl (by decide) ?_
  refine ld (iv 2) (Ba.cell rfl) ?_
  refine cE (fun _ => ?_) (fun h => absurd rfl h)
  refine fldA ?_
  refine ld (.slice (some (ad da 0)) 3 ea) (C9.cell rfl) ?_
  refine idx 1 rfl (by decide) ?_
  refine ld (iv 7) (Da.cell rfl) ?_
  refine cE (fun _ => ?_) (fun h => absurd rfl h)
  refine fldA ?_
  refine ld (.slice (some (ad dh 0)) 2 eh) (C9.cell rfl) ?_
  refine idx 0 rfl (by decide) ?_
  refine ld (iv 7) (Dh.cell rfl) ?_
  refine cE (fun _ => ?_) (fun h => absurd rfl h)
  refine fldA ?_
  refine ld (.slice (some (ad dh 0)) 2 eh) (C9.cell rfl) ?_
  refine idx 1 rfl (by decide) ?_
  refine ld (iv 7) (Dh.cell rfl) ?_
  refine cE (fun _ => ?_) (fun h => absurd rfl h)
  refine cE (fun _ => ?_) (fun h => absurd rfl h)
  refine cE (fun _ => ?_) (fun h => absurd rfl h)
  exact ret1 (.bool true) rfl ⟨rfl, xall⟩
end
end Go.Proofs.YtmjcaclakggafaaGreat

/- Layers 41, 20: contracts of Few, shaped, canals.Farms, canals.Children, got. -/
namespace Go.Proofs.YtmjcaclakggafaaGreat
open Go Go.RowKit

section
variable {D : Nat → Prop} {w : World}
theorem c_r41Few {csd : List Value} {d : Dist} {A : Option Addr} {n c : Nat} (hd : DiR D w csd d) : CallZ Tryz.prog 6 #[.agg csd.toArray, .slice A n c] w (fun v w' => (∃ q, v = .bool q) ∧ Ext w w') := by
  have hd0 := hd
  obtain ⟨A1, n1, c1, A2, n2, c2, A3, n3, c3, A4, n4, c4, A5, n5, c5, A6, n6, c6, rfl, hr, hf, -⟩ := hd.ex
  refine fn_rule (args := [.agg #[.string d.name, iv d.hours, iv d.cap, iv d.start, .slice A1 n1 c1, .slice A2 n2 c2, .slice A3 n3 c3, .slice A4 n4 c4, .slice A5 n5 c5, .slice A6 n6 c6], .slice A n c]) Tryz.func6 (by kernel_rfl) ?_
  refine box (fun b1 w1 h1 => ?_)
  have B1 : Blk w1 b1 31 [.string d.name, iv d.hours, iv d.cap, iv d.start, .slice A1 n1 c1, .slice A2 n2 c2, .slice A3 n3 c3, .slice A4 n4 c4, .slice A5 n5 c5, .slice A6 n6 c6] := h1.blk
  refine ldA [.string d.name, iv d.hours, iv d.cap, iv d.start, .slice A1 n1 c1, .slice A2 n2 c2, .slice A3 n3 c3, .slice A4 n4 c4, .slice A5 n5 c5, .slice A6 n6 c6] (.blk B1) rfl ?_
  refine callE (c_r19Few (hd0.ext h1.ext)) (fun w2 g x2 => ?_) (fun w2 g x2 => ?_)
  · have xx := h1.ext.trans x2
    have B1 := B1.ext x2
    refine len ?_
    refine cD (fun g1 => ?_) (fun g1 => ?_)
    · exact ret1 (.bool false) rfl ⟨⟨_, rfl⟩, xx⟩
    refine fldA ?_
    refine ld (.slice A1 n1 c1) (B1.cell rfl) ?_
    refine len ?_
    refine cD (fun g2 => ?_) (fun g2 => ?_)
    · refine fldA ?_
      refine ld (.slice A2 n2 c2) (B1.cell rfl) ?_
      refine len ?_
      refine cD (fun g3 => ?_) (fun g3 => ?_)
      · exact ret1 (.bool true) rfl ⟨⟨_, rfl⟩, xx⟩
      refine fldA ?_
      refine ld (.slice A2 n2 c2) (B1.cell rfl) ?_
      refine len ?_
      refine cD (fun g4 => ?_) (fun g4 => ?_)
      · exact ret1 (.bool true) rfl ⟨⟨_, rfl⟩, xx⟩
      · exact ret1 (.bool false) rfl ⟨⟨_, rfl⟩, xx⟩
    · refine fldA ?_
      refine ld (.slice A1 n1 c1) (B1.cell rfl) ?_
      refine len ?_
      refine cD (fun g3 => ?_) (fun g3 => ?_)
      · refine fldA ?_
        refine ld (.slice A2 n2 c2) (B1.cell rfl) ?_
        refine len ?_
        refine cD (fun g4 => ?_) (fun g4 => ?_)
        · exact ret1 (.bool true) rfl ⟨⟨_, rfl⟩, xx⟩
        refine fldA ?_
        refine ld (.slice A2 n2 c2) (B1.cell rfl) ?_
        refine len ?_
        refine cD (fun g5 => ?_) (fun g5 => ?_)
        · exact ret1 (.bool true) rfl ⟨⟨_, rfl⟩, xx⟩
        · exact ret1 (.bool false) rfl ⟨⟨_, rfl⟩, xx⟩
      · exact ret1 (.bool false) rfl ⟨⟨_, rfl⟩, xx⟩
  · exact ret1 (.bool false) rfl ⟨⟨_, rfl⟩, h1.ext.trans x2⟩
abbrev pix (l : List Pt) : List Int := l.map fun p => (p.2 : Int)
end
end Go.Proofs.YtmjcaclakggafaaGreat

/- Layer 41: DivisionMore, DivisionShown. -/
namespace Go.Proofs.YtmjcaclakggafaaGreat
open Go Go.RowKit

theorem blkI {w : World} {b n i : Nat} {t : TypeId} {l : List Int} (h : Blk w b t (ivs l)) (ok : OkL l) (hn : n = l.length) (hi : i < n) (hb : n ≤ 1000) : CellsAt w b (0 + i * tInt.sz) [iv (clA l i)] := by
  obtain ⟨b', o, cs, x, e, hx, -, -, hc, rfl, -⟩ := (blk_ints (D := fun _ => True) h hn ok (by omega) trivial).at_ hi
  injection e with e
  injection e with e1 e2
  subst e1; subst e2
  rw [clA_at hx]
  exact hc
theorem blkM {w : World} {b i : Nat} {t : TypeId} {l : List Mk} (h : Blk w b t (mks l)) (hi : i < l.length) : CellsAt w b (0 + i * 4) (encM (mkA l i)) := fun k v hv => by
  have e : mkA l i = l[i] := by unfold mkA; rw [List.getD_eq_getElem?_getD, List.getElem?_eq_getElem hi]; rfl
  rw [e] at hv
  have hk : k < 4 := (List.getElem?_eq_some_iff.1 hv).1
  refine h.cell ?_
  rw [Nat.zero_add]
  have hd : (mks l).drop (i * 4) = encM l[i] ++ mks (l.drop (i + 1)) := by
    rw [mks_drop, List.drop_eq_getElem_cons hi]; rfl
  have : (mks l)[i * 4 + k]? = ((mks l).drop (i * 4))[k]? := by rw [List.getElem?_drop]
  rw [this, hd, List.getElem?_append_left hk]
  exact hv
section
variable {D : Nat → Prop} {w : World}
end
end Go.Proofs.YtmjcaclakggafaaGreat

/- Layer 41: DivisionOthers. -/
namespace Go.Proofs.YtmjcaclakggafaaGreat
open Go Go.RowKit

section
variable {D : Nat → Prop} {w : World}
theorem shErr_open {d : Dist} {cl : List Int} {r : Int} (h : shErr d cl r = 0) : openErr d cl = 0 ∧ 0 ≤ r ∧ r < d.reaches.length := by
  unfold shErr at h
  by_cases h1 : openErr d cl = 0
  · rw [if_neg (fun q => q h1)] at h
    by_cases h2 : 0 ≤ r ∧ r < d.reaches.length
    · exact ⟨h1, h2⟩
    · rw [if_neg h2] at h; cases h
  · rw [if_pos h1] at h; exact absurd h h1
theorem c_dSh {csd : List Value} {d : Dist} {cl : List Int} {A : Option Addr} {n c : Nat} {r : Int} (hd : DiR D w csd d) (hl : SlR tInt D w A n cl) : CallZ Tryz.prog 10 #[.agg csd.toArray, .slice A n c, iv r] w (fun v w' => ∃ P np cp, v = .tuple #[.slice P np cp, iv (shErr d cl r)] ∧ Ext w w' ∧ (shErr d cl r ≠ 0 → P = none ∧ np = 0) ∧ (shErr d cl r = 0 → ∃ hs, needsV d cl = some hs ∧ np ≤ 664 ∧ SlR tInt (fun _ => True) w' P np (clmV d cl hs r.toNat))) :=
  (c_dShares hd hl).mono (by
    rintro v w' ⟨x, ⟨h, rfl⟩ | ⟨h, hs, P, np, cp, hne, rfl, o⟩⟩
    · exact ⟨_, _, _, rfl, x, fun _ => ⟨rfl, rfl⟩, fun q => absurd q h⟩
    · have gd := (openErr_ok.1 (shErr_open h).1).1
      have R := rdy_of gd hne
      have lo := o.own.len
      rw [List.length_map] at lo
      have lB := R.v.len (cl := cl) (hs := hs) (r := r.toNat)
      exact ⟨P, np, cp, by rw [h], x, fun q => absurd h q, fun _ => ⟨hs, hne, by omega, o.ints (okL_i64 (clmV_ok R.okc R.okh _)) (by omega) fun _ _ => trivial⟩⟩)
end
end Go.Proofs.YtmjcaclakggafaaGreat
