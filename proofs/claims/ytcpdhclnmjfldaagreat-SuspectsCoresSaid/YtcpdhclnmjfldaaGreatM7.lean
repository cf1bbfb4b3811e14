/- Parts of the proof: Aa Ab E1 E2 E3 E4 E5 E6. -/
import Derived.Test.YtcpdhclnmjfldaaGreatM6
import Derived.Test.YtcpdhclnmjfldaaGreatM3
import Derived.ProofKit
import Derived.OpenShut
import Derived.LaidMore
import Derived.Deep.DeepHandedRow
import Derived.Test.YtcpdhclnmjfldaaGreatM4

/- Made by gen_XA10.py. Contracts: layer 19's reference. -/
namespace Go.Proofs.YtcpdhclnmjfldaaGreat
open Go Go.RowKit

section
variable {D : Nat → Prop} {w : World}
theorem c_within {n lo hi : Int} : CallZ Tryz.prog 136 #[iv n, iv lo, iv hi] w (fun v w' => v = .bool (inI n lo hi) ∧ w' = w) := by
  refine fn_rule (args := [iv n, iv lo, iv hi]) Tryz.func136 (by kernel_rfl) ?_
  refine cD (fun g1 => ?_) (fun g1 => ?_)
  · refine cD (fun g2 => ?_) (fun g2 => ?_)
    · exact ret1 (.bool true) rfl ⟨by rw [inI_iff.2 (by omega)], rfl⟩
    · exact ret1 (.bool false) rfl ⟨by rw [inI_not.2 (by omega)], rfl⟩
  · exact ret1 (.bool false) rfl ⟨by rw [inI_not.2 (by omega)], rfl⟩
theorem sharesQ_all {a b : Q} : sharesQ a b = true ↔ qValid a = true ∧ qValid b = true ∧ 0 ≤ a.n ∧ a.n * b.d ≤ b.n * a.d ∧ b.n ≤ b.d := by
  rw [sharesQ_iff, shareQ_iff, shareQ_iff]
  refine ⟨fun ⟨⟨h1, h2, h3⟩, ⟨h4, h5, h6⟩, h7⟩ => ⟨h1, h4, h2, h7, h6⟩, fun ⟨h1, h4, h2, h7, h6⟩ => ?_⟩
  have d1 := (qValid_iff.1 h1).1
  have d2 := (qValid_iff.1 h4).1
  have hb : 0 ≤ b.n := by
    have : 0 ≤ b.n * a.d := Int.le_trans (Int.mul_nonneg h2 (by omega)) h7
    exact Int.not_lt.1 fun hn => by have := Int.mul_neg_of_neg_of_pos hn (show 0 < a.d by omega); omega
  have ha : a.n ≤ a.d := Int.not_lt.1 fun hn => by
    have e1 : b.n * a.d ≤ b.d * a.d := Int.mul_le_mul_of_nonneg_right h6 (by omega)
    have e2 : a.d * b.d < a.n * b.d := Int.mul_lt_mul_of_pos_right hn (by omega)
    rw [Int.mul_comm b.d] at e1
    omega
  exact ⟨⟨h1, h2, ha⟩, ⟨h4, hb, h6⟩, h7⟩
theorem c_r19shares {a b : Q} : CallZ Tryz.prog 153 #[pairQ a b] w (fun v w' => v = .bool (sharesQ a b) ∧ Ext w w') := by
  refine fn_rule (args := [.agg #[iv a.n, iv a.d, iv b.n, iv b.d]]) Tryz.func153 (by kernel_rfl) ?_
  refine box (fun g w1 h1 => ?_)
  have hc := CellsAt.blk h1.blk
  have bad : ¬ (qValid a = true ∧ qValid b = true ∧ 0 ≤ a.n ∧ a.n * b.d ≤ b.n * a.d ∧ b.n ≤ b.d) → Value.bool false = .bool (sharesQ a b) := fun h => by rw [show sharesQ a b = false from Bool.eq_false_iff.2 fun e => h (sharesQ_all.1 e)]
  refine idxR 0 rfl (by decide) ?_
  refine ldA [iv a.n, iv a.d] (hc.mid 0 2) rfl ?_
  refine call_of (c_r12Check (a := a)) ?_
  rintro _ w2 ⟨rfl, x2⟩
  refine cN (fun g1 => ?_) (fun g1 => ?_)
  · exact ret1 (.bool false) rfl ⟨bad fun h => g1 (qErr_ok.2 h.1), h1.ext.trans x2⟩
  refine idxR 1 rfl (by decide) ?_
  refine ldA [iv b.n, iv b.d] ((hc.mid 2 2).kept x2 trivial) rfl ?_
  refine call_of (c_r12Check (a := b)) ?_
  rintro _ w3 ⟨rfl, x3⟩
  have x13 := x2.trans x3
  refine cN (fun g2 => ?_) (fun g2 => ?_)
  · exact ret1 (.bool false) rfl ⟨bad fun h => g2 (qErr_ok.2 h.2.1), h1.ext.trans x13⟩
  have va := qErr_ok.1 g1
  have vb := qErr_ok.1 g2
  refine idxR 0 rfl (by decide) ?_
  refine ldA [iv a.n, iv a.d] ((hc.mid 0 2).kept x13 trivial) rfl ?_
  refine idxR 1 rfl (by decide) ?_
  refine ldA [iv b.n, iv b.d] ((hc.mid 2 2).kept x13 trivial) rfl ?_
  refine call_of (c_r12Cmp (a := a) (b := b)) ?_
  rintro _ w4 ⟨rfl, x4⟩
  have hC : qCmp a b = (cmpI (a.n * b.d) (b.n * a.d), 0) := by unfold qCmp; rw [va, vb]; rfl
  have hcmp : cmpI (a.n * b.d) (b.n * a.d) ≤ 0 ↔ a.n * b.d ≤ b.n * a.d := by unfold cmpI; split <;> (try split) <;> omega
  have x := h1.ext.trans (x13.trans x4)
  have b4 := h1.blk.ext (x13.trans x4)
  rw [hC]
  refine idxR 0 rfl (by decide) ?_
  refine fldA ?_
  refine ld (iv a.n) (b4.cell rfl) ?_
  refine cD (fun g3 => ?_) (fun g3 => ?_)
  · refine cD (fun g4 => ?_) (fun g4 => ?_)
    · refine idxR 1 rfl (by decide) ?_
      refine fldA ?_
      refine ld (iv b.n) (b4.cell rfl) ?_
      refine idxR 1 rfl (by decide) ?_
      refine fldA ?_
      refine ld (iv b.d) (b4.cell rfl) ?_
      refine cD (fun g5 => ?_) (fun g5 => ?_)
      · exact ret1 (.bool true) rfl ⟨by rw [sharesQ_all.2 ⟨va, vb, g3, hcmp.1 g4, g5⟩], x⟩
      · exact ret1 (.bool false) rfl ⟨bad fun h => g5 h.2.2.2.2, x⟩
    · exact ret1 (.bool false) rfl ⟨bad fun h => g4 (hcmp.2 h.2.2.2.1), x⟩
  · exact ret1 (.bool false) rfl ⟨bad fun h => g3 h.2.2.1, x⟩
theorem c_r19Reach {x : Reach} : CallZ Tryz.prog 148 #[x.v] w (fun v w' => v = .bool (reachOk x) ∧ Ext w w') := by
  refine fn_rule (args := [.agg #[.string x.name, iv x.up, iv x.delay, iv x.cap, iv x.bank, iv x.siphon, iv x.evap.lo, iv x.evap.hi, iv x.s0.n, iv x.s0.d, iv x.s1.n, iv x.s1.d]]) Tryz.func148 (by kernel_rfl) ?_
  refine box (fun g w1 h1 => ?_)
  have b1 := h1.blk
  have bad : ¬ (reachOk x = true) → Value.bool false = .bool (reachOk x) := fun h => by rw [Bool.eq_false_iff.2 h]
  refine fldA ?_
  refine ld (iv x.delay) (b1.cell rfl) ?_
  refine callB c_within (fun g0 => ?_) (fun g0 => ?_)
  rotate_left
  · exact ret1 (.bool false) rfl ⟨bad fun h => inI_not.1 g0 (by have := reachOk_iff.1 h; omega), h1.ext⟩
  refine fldA ?_
  refine ld (iv x.cap) (b1.cell rfl) ?_
  refine callB c_within (fun g1 => ?_) (fun g1 => ?_)
  rotate_left
  · exact ret1 (.bool false) rfl ⟨bad fun h => inI_not.1 g1 (by have := reachOk_iff.1 h; omega), h1.ext⟩
  refine fldA ?_
  refine ld (iv x.bank) (b1.cell rfl) ?_
  refine callB c_within (fun g2 => ?_) (fun g2 => ?_)
  rotate_left
  · exact ret1 (.bool false) rfl ⟨bad fun h => inI_not.1 g2 (by have := reachOk_iff.1 h; omega), h1.ext⟩
  refine fldA ?_
  refine ld (iv x.siphon) (b1.cell rfl) ?_
  refine fldA ?_
  refine ld (iv x.cap) (b1.cell rfl) ?_
  refine fldA ?_
  refine ld (iv x.bank) (b1.cell rfl) ?_
  refine callB c_within (fun g3 => ?_) (fun g3 => ?_)
  rotate_left
  · exact ret1 (.bool false) rfl ⟨bad fun h => inI_not.1 g3 (by have := reachOk_iff.1 h; omega), h1.ext⟩
  refine fldA ?_
  refine fldA ?_
  refine ld (iv x.evap.lo) (b1.cell rfl) ?_
  refine fldA ?_
  refine fldA ?_
  refine ld (iv x.evap.hi) (b1.cell rfl) ?_
  refine callB c_within (fun g4 => ?_) (fun g4 => ?_)
  rotate_left
  · exact ret1 (.bool false) rfl ⟨bad fun h => inI_not.1 g4 (by have := (lossOk_iff.1 (reachOk_iff.1 h).2.2.2.2).1; omega), h1.ext⟩
  refine fldA ?_
  refine fldA ?_
  refine ld (iv x.evap.hi) (b1.cell rfl) ?_
  refine cD (fun g5 => ?_) (fun g5 => ?_)
  · exact ret1 (.bool false) rfl ⟨bad fun h => by have := (lossOk_iff.1 (reachOk_iff.1 h).2.2.2.2).1; omega, h1.ext⟩
  refine fldA ?_
  refine ldA [iv x.s0.n, iv x.s0.d, iv x.s1.n, iv x.s1.d] ((CellsAt.blk h1.blk).mid 8 4) rfl ?_
  have k0 := inI_iff.1 g0
  have k1 := inI_iff.1 g1
  have k2 := inI_iff.1 g2
  have k3 := inI_iff.1 g3
  have k4 := inI_iff.1 g4
  refine callE (c_r19shares (a := x.s0) (b := x.s1)) (fun w2 hs x2 => ?_) (fun w2 hs x2 => ?_)
  · exact ret1 (.bool true) rfl ⟨by rw [reachOk_iff.2 ⟨by omega, by omega, by omega, by omega, lossOk_iff.2 ⟨by omega, hs⟩⟩], h1.ext.trans x2⟩
  · exact ret1 (.bool false) rfl ⟨bad fun h => by have := (lossOk_iff.1 (reachOk_iff.1 h).2.2.2.2).2; rw [hs] at this; exact Bool.noConfusion this, h1.ext.trans x2⟩
theorem c_r19reaches {l : List Reach} {A : Option Addr} {n c : Nat} (hl : SlR tReach D w A n l) : CallZ Tryz.prog 137 #[.slice A n c] w (fun v w' => v = .bool (reachesB 0 l && decide (0 < l.length)) ∧ Ext w w') := by
  refine fn_rule (args := [.slice A n c]) Tryz.func137 (by kernel_rfl) ?_
  have e1 := hl.le
  refine loop_rule (fun k : Nat => [(3, iv (k : Int))]) (fun k w' => k ≤ n ∧ Ext w w' ∧ reachesB 0 l = reachesB k (l.drop k)) (fun k _ => n - k) 0 ⟨rfl, trivial⟩ ⟨by omega, .refl _ _, rfl⟩ rfl ?_
  rintro G k w1 ⟨hk, x1, he⟩
  refine len ?_
  refine cD (fun hlt => ?_) (fun hge => ?_)
  · obtain ⟨b, o, cs, x, rfl, -, hx, -, hc, rfl⟩ := (hl.ext x1).at_ (show k < n by omega)
    rw [hx, reachesB] at he
    have bad : ∀ {w'}, Ext w1 w' → (upOk k x.up && reachOk x) = false → Value.bool false = .bool (reachesB 0 l && decide (0 < l.length)) ∧ Ext w w' := fun e h => ⟨by rw [he, h]; rfl, x1.trans e⟩
    have tail : upOk k x.up = true → True := fun _ => trivial
    refine cE (fun k0 => ?_) (fun k0 => ?_)
    · refine idx k rfl (by omega) ?_
      refine fldA ?_
      refine ld (iv x.up) (hc 1 _ rfl) ?_
      refine cN (fun k1 => ?_) (fun k1 => ?_)
      · exact ret1 (.bool false) rfl (bad (.refl _ _) (by unfold upOk; rw [if_pos (by omega), decide_eq_false k1]; rfl))
      have hu : upOk k x.up = true := by unfold upOk; rw [if_pos (by omega), decide_eq_true k1]
      refine cDF (by omega) ?_
      refine idx k rfl (by omega) ?_
      refine ldA x.c hc rfl ?_
      refine callE (c_r19Reach (x := x)) (fun w2 hq x2 => ?_) (fun w2 hq x2 => ?_)
      · refine arI (by omega) ?_
        refine next (k + 1) ⟨by rw [Int.natCast_add]; rfl, trivial⟩ ⟨by omega, x1.trans x2, ?_⟩ (by omega)
        rw [he, hu, hq]; rfl
      · exact ret1 (.bool false) rfl (bad x2 (by rw [hu, hq]; rfl))
    · refine cDT (by omega) ?_
      refine idx k rfl (by omega) ?_
      refine fldA ?_
      refine ld (iv x.up) (hc 1 _ rfl) ?_
      refine arI (by omega) ?_
      refine callB c_within (fun k1 => ?_) (fun k1 => ?_)
      rotate_left
      · exact ret1 (.bool false) rfl (bad (.refl _ _) (by unfold upOk; rw [if_neg (by omega), k1]; rfl))
      have hu : upOk k x.up = true := by unfold upOk; rw [if_neg (by omega), k1]
      refine idx k rfl (by omega) ?_
      refine ldA x.c hc rfl ?_
      refine callE (c_r19Reach (x := x)) (fun w2 hq x2 => ?_) (fun w2 hq x2 => ?_)
      · refine arI (by omega) ?_
        refine next (k + 1) ⟨by rw [Int.natCast_add]; rfl, trivial⟩ ⟨by omega, x1.trans x2, ?_⟩ (by omega)
        rw [he, hu, hq]; rfl
      · exact ret1 (.bool false) rfl (bad x2 (by rw [hu, hq]; rfl))
  · have hR : reachesB 0 l = true := by rw [he, drop_end (by have := hl.len; omega)]; rfl
    refine len ?_
    have hn := hl.len
    refine cD (fun g => ?_) (fun g => ?_)
    · exact ret1 (.bool true) rfl ⟨by rw [hR, decide_eq_true (by omega)]; rfl, x1⟩
    · exact ret1 (.bool false) rfl ⟨by rw [hR, decide_eq_false (by omega)]; rfl, x1⟩
theorem c_r19farms {d : Dist} {cs : List Value} (hd : DiR D w cs d) : CallZ Tryz.prog 138 #[.agg cs.toArray] w (fun v w' => v = .bool (d.crops.all cropOk && d.farms.all (farmOk d.reaches.length d.crops.length)) ∧ Ext w w') := by
  obtain ⟨A1, n1, c1, A2, n2, c2, A3, n3, c3, A4, n4, c4, A5, n5, c5, A6, n6, c6, rfl, hr, hf, hcr, hri, hdu, hwe⟩ := hd.ex
  have l1 := hr.len
  have l2 := hf.len
  have l3 := hcr.len
  have l4 := hri.len
  have l5 := hdu.len
  have l6 := hwe.len
  have e1 := hr.le
  have e2 := hf.le
  have e3 := hcr.le
  have e4 := hri.le
  have e5 := hdu.le
  refine fn_rule (args := [.agg #[.string d.name, iv d.hours, iv d.cap, iv d.start, .slice A1 n1 c1, .slice A2 n2 c2, .slice A3 n3 c3, .slice A4 n4 c4, .slice A5 n5 c5, .slice A6 n6 c6]]) Tryz.func138 (by kernel_rfl) ?_
  refine box (fun g w1 h1 => ?_)
  have bg := h1.blk
  have x1 := h1.ext
  have zg := h1.at_
  have zlt := bg.lt
  refine loop_rule (fun k : Nat => [(3, iv (k : Int))]) (fun k w' => k ≤ n3 ∧ w' = w1 ∧ d.crops.all cropOk = (d.crops.drop k).all cropOk) (fun k _ => n3 - k) 0 ⟨rfl, trivial⟩ ⟨by omega, rfl, rfl⟩ rfl ?_
  rintro G k w' ⟨hk, hw', he⟩
  subst hw'
  refine fldA ?_
  refine ld (.slice A3 n3 c3) (bg.cell rfl) ?_
  refine len ?_
  refine cD (fun hlt => ?_) (fun hge => ?_)
  · obtain ⟨b, o, cs, x, rfl, -, hx, -, hc, rfl⟩ := (hcr.ext x1).at_ (show k < n3 by omega)
    rw [hx, List.all_cons] at he
    refine fldA ?_
    refine ld (.slice _ n3 c3) (bg.cell rfl) ?_
    refine idx k rfl (by omega) ?_
    refine fldA ?_
    refine ld (iv x.need) (hc 1 _ rfl) ?_
    refine callB c_within (fun hq => ?_) (fun hq => ?_)
    · refine arI (by omega) ?_
      refine next (k + 1) ⟨by rw [Int.natCast_add]; rfl, trivial⟩ ⟨by omega, rfl, ?_⟩ (by omega)
      rw [he, show cropOk x = true from hq]; rfl
    · exact ret1 (.bool false) rfl ⟨by rw [he, show cropOk x = false from hq]; rfl, x1⟩
  have hC : d.crops.all cropOk = true := by rw [he, drop_end (by omega)]; rfl
  clear he hge
  refine loop_rule (fun k : Nat => [(4, iv (k : Int))]) (fun k w'' => k ≤ n2 ∧ Ext w' w'' ∧ d.farms.all (farmOk d.reaches.length d.crops.length) = (d.farms.drop k).all (farmOk d.reaches.length d.crops.length)) (fun k _ => n2 - k) 0 ⟨rfl, trivial⟩ ⟨by omega, .refl _ _, rfl⟩ rfl ?_
  rintro G k w2 ⟨hk, x2, he⟩
  refine fldA ?_
  refine ld (.slice A2 n2 c2) ((bg.ext x2).cell rfl) ?_
  refine len ?_
  refine cD (fun hlt => ?_) (fun hge => ?_)
  · obtain ⟨b, o, cs, x, rfl, -, hx, -, hc, rfl⟩ := (hf.ext (x1.trans x2)).at_ (show k < n2 by omega)
    rw [hx, List.all_cons] at he
    refine fldA ?_
    refine ld (.slice _ n2 c2) ((bg.ext x2).cell rfl) ?_
    refine idx k rfl (by omega) ?_
    refine ldA x.c hc rfl ?_
    refine alloc (fun q w6 h6 => ?_)
    refine stA (vs := x.c) h6.blk rfl (Nat.le_of_ble_eq_true rfl) (by simp [Value.oneCell']) (fun w7 hb7 k7 z7 => ?_)
    have z6 := h6.at_
    have zz := x2.size
    have x7 : Ext w' w7 := (x2.trans h6.ext).then k7 fun b hb _ e => by omega
    have bg7 := bg.ext x7
    have fiff : farmOk d.reaches.length d.crops.length x = true ↔ (if 0 < x.area then inI x.crop 0 ((n3 : Int) - 1) = true else x.crop = -1) ∧ inI x.reach 0 ((n1 : Int) - 1) = true ∧ (0 ≤ x.area ∧ x.area ≤ 1048576) := by
      unfold farmOk; rw [l1, l3, Bool.and_eq_true, Bool.and_eq_true, inI_iff (n := x.area)]
      split <;> simp only [decide_eq_true_eq]
    have bad : ¬ (farmOk d.reaches.length d.crops.length x = true) → Value.bool false = .bool (d.crops.all cropOk && d.farms.all (farmOk d.reaches.length d.crops.length)) ∧ Ext w w7 := fun h => ⟨by rw [hC, he, Bool.eq_false_iff.2 h]; rfl, x1.trans x7⟩
    have good : farmOk d.reaches.length d.crops.length x = true → d.farms.all (farmOk d.reaches.length d.crops.length) = (d.farms.drop (k + 1)).all (farmOk d.reaches.length d.crops.length) := fun h => by rw [he, h]; rfl
    refine fldA ?_
    refine ld (iv x.reach) (hb7.cell rfl) ?_
    refine fldA ?_
    refine ld (.slice A1 n1 c1) (bg7.cell rfl) ?_
    refine len ?_
    refine arI (by omega) ?_
    refine callB c_within (fun g1 => ?_) (fun g1 => ?_)
    rotate_left
    · exact ret1 (.bool false) rfl (bad fun h => by have := (fiff.1 h).2.1; rw [g1] at this; exact Bool.noConfusion this)
    refine fldA ?_
    refine ld (iv x.area) (hb7.cell rfl) ?_
    refine callB c_within (fun g2 => ?_) (fun g2 => ?_)
    rotate_left
    · exact ret1 (.bool false) rfl (bad fun h => inI_not.1 g2 (fiff.1 h).2.2)
    have g2 := inI_iff.1 g2
    refine fldA ?_
    refine ld (iv x.area) (hb7.cell rfl) ?_
    refine cE (fun g3 => ?_) (fun g3 => ?_)
    · refine fldA ?_
      refine ld (iv x.crop) (hb7.cell rfl) ?_
      refine cN (fun g4 => ?_) (fun g4 => ?_)
      · exact ret1 (.bool false) rfl (bad fun h => by have := (fiff.1 h).1; rw [if_neg (by omega)] at this; exact g4 this)
      refine fldA ?_
      refine ld (iv x.area) (hb7.cell rfl) ?_
      refine cDF (by omega) ?_
      refine arI (by omega) ?_
      exact next (k + 1) ⟨by rw [Int.natCast_add]; rfl, trivial⟩ ⟨by omega, x7, good (fiff.2 ⟨by rw [if_neg (by omega)]; exact g4, g1, g2⟩)⟩ (by omega)
    · refine fldA ?_
      refine ld (iv x.area) (hb7.cell rfl) ?_
      refine cDT (by omega) ?_
      refine fldA ?_
      refine ld (iv x.crop) (hb7.cell rfl) ?_
      refine fldA ?_
      refine ld (.slice A3 n3 c3) (bg7.cell rfl) ?_
      refine len ?_
      refine arI (by omega) ?_
      refine callB c_within (fun g4 => ?_) (fun g4 => ?_)
      · refine arI (by omega) ?_
        exact next (k + 1) ⟨by rw [Int.natCast_add]; rfl, trivial⟩ ⟨by omega, x7, good (fiff.2 ⟨by rw [if_pos (by omega)]; exact g4, g1, g2⟩)⟩ (by omega)
      · exact ret1 (.bool false) rfl (bad fun h => by have := (fiff.1 h).1; rw [if_pos (by omega), g4] at this; exact Bool.noConfusion this)
  have hF : d.farms.all (farmOk d.reaches.length d.crops.length) = true := by rw [he, drop_end (by omega)]; rfl
  exact ret1 (.bool true) rfl ⟨by rw [hC, hF]; rfl, x1.trans x2⟩
theorem c_r19right {d : Dist} {cs : List Value} {x : Right} (hd : DiR D w cs d) (hh : 1 ≤ d.hours ∧ d.hours ≤ 4096) : CallZ Tryz.prog 139 #[.agg cs.toArray, .agg x.c.toArray] w (fun v w' => v = .bool (rightOk d.farms.length d.reaches.length d.hours x) ∧ Ext w w') := by
  obtain ⟨A1, n1, c1, A2, n2, c2, A3, n3, c3, A4, n4, c4, A5, n5, c5, A6, n6, c6, rfl, hr, hf, hcr, hri, hdu, hwe⟩ := hd.ex
  have l1 := hr.len
  have l2 := hf.len
  have l3 := hcr.len
  have l4 := hri.len
  have l5 := hdu.len
  have l6 := hwe.len
  have e1 := hr.le
  have e2 := hf.le
  have e3 := hcr.le
  have e4 := hri.le
  have e5 := hdu.le
  refine fn_rule (args := [.agg #[.string d.name, iv d.hours, iv d.cap, iv d.start, .slice A1 n1 c1, .slice A2 n2 c2, .slice A3 n3 c3, .slice A4 n4 c4, .slice A5 n5 c5, .slice A6 n6 c6], .agg #[.string x.name, iv x.kind, iv x.farm, iv x.reach, iv x.rank, iv x.litres, iv x.frm, iv x.to, iv x.every, iv x.length]]) Tryz.func139 (by kernel_rfl) ?_
  have bad0 : ¬ (rightOk d.farms.length d.reaches.length d.hours x = true) → Value.bool false = .bool (rightOk d.farms.length d.reaches.length d.hours x) := fun h => by rw [Bool.eq_false_iff.2 h]
  have iff : rightOk d.farms.length d.reaches.length d.hours x = true ↔ (0 ≤ x.farm ∧ x.farm ≤ (n2 : Int) - 1) ∧ (0 ≤ x.reach ∧ x.reach ≤ (n1 : Int) - 1) ∧ (0 ≤ x.frm ∧ x.frm ≤ x.to) ∧ x.to < d.hours ∧ kindOk d.hours x = true := by
    unfold rightOk; rw [l1, l2]; simp only [Bool.and_eq_true, decide_eq_true_eq, inI_iff]
  refine box (fun g w1 h1 => ?_)
  refine box (fun q w2 h2 => ?_)
  have bg := h1.blk.ext h2.ext
  have bq := h2.blk
  have x2 := h1.ext.trans h2.ext
  have bad : ¬ (rightOk d.farms.length d.reaches.length d.hours x = true) → Value.bool false = .bool (rightOk d.farms.length d.reaches.length d.hours x) ∧ Ext w w2 := fun h => ⟨bad0 h, x2⟩
  refine fldA ?_
  refine ld (iv x.farm) (bq.cell rfl) ?_
  refine fldA ?_
  refine ld (.slice A2 n2 c2) (bg.cell rfl) ?_
  refine len ?_
  refine arI (by omega) ?_
  refine callB c_within (fun g1 => ?_) (fun g1 => ?_)
  rotate_left
  · exact ret1 (.bool false) rfl (bad fun h => inI_not.1 g1 (by have := iff.1 h; omega))
  refine fldA ?_
  refine ld (iv x.reach) (bq.cell rfl) ?_
  refine fldA ?_
  refine ld (.slice A1 n1 c1) (bg.cell rfl) ?_
  refine len ?_
  refine arI (by omega) ?_
  refine callB c_within (fun g2 => ?_) (fun g2 => ?_)
  rotate_left
  · exact ret1 (.bool false) rfl (bad fun h => inI_not.1 g2 (by have := iff.1 h; omega))
  refine fldA ?_
  refine ld (iv x.frm) (bq.cell rfl) ?_
  refine fldA ?_
  refine ld (iv x.to) (bq.cell rfl) ?_
  refine callB c_within (fun g3 => ?_) (fun g3 => ?_)
  rotate_left
  · exact ret1 (.bool false) rfl (bad fun h => inI_not.1 g3 (by have := iff.1 h; omega))
  refine fldA ?_
  refine ld (iv x.to) (bq.cell rfl) ?_
  refine fldA ?_
  refine ld (iv d.hours) (bg.cell rfl) ?_
  refine cD (fun g4 => ?_) (fun g4 => ?_)
  · exact ret1 (.bool false) rfl (bad fun h => by have := iff.1 h; omega)
  have iff2 : rightOk d.farms.length d.reaches.length d.hours x = true ↔ kindOk d.hours x = true := by
    rw [iff]; exact ⟨fun h => h.2.2.2.2, fun h => ⟨inI_iff.1 g1, inI_iff.1 g2, inI_iff.1 g3, by omega, h⟩⟩
  refine fldA ?_
  refine ld (iv x.kind) (bq.cell rfl) ?_
  refine cE (fun k1 => ?_) (fun k1 => ?_)
  · have iff3 : kindOk d.hours x = true ↔ x.reach = 0 ∧ (0 ≤ x.rank ∧ x.rank ≤ 1048576) ∧ (1 ≤ x.litres ∧ x.litres ≤ 1073741824) ∧ (1 ≤ x.length ∧ x.length ≤ x.every) ∧ x.every ≤ d.hours := by
      unfold kindOk; rw [if_pos k1]; simp only [Bool.and_eq_true, decide_eq_true_eq, inI_iff]
    refine fldA ?_
    refine ld (iv x.reach) (bq.cell rfl) ?_
    refine cE (fun b1 => ?_) (fun b1 => ?_)
    rotate_left
    · exact ret1 (.bool false) rfl (bad fun h => by have := iff3.1 (iff2.1 h); omega)
    refine fldA ?_
    refine ld (iv x.rank) (bq.cell rfl) ?_
    refine callB c_within (fun g5 => ?_) (fun g5 => ?_)
    rotate_left
    · exact ret1 (.bool false) rfl (bad fun h => inI_not.1 g5 (by have := iff3.1 (iff2.1 h); omega))
    refine fldA ?_
    refine ld (iv x.litres) (bq.cell rfl) ?_
    refine callB c_within (fun g6 => ?_) (fun g6 => ?_)
    rotate_left
    · exact ret1 (.bool false) rfl (bad fun h => inI_not.1 g6 (by have := iff3.1 (iff2.1 h); omega))
    refine fldA ?_
    refine ld (iv x.length) (bq.cell rfl) ?_
    refine fldA ?_
    refine ld (iv x.every) (bq.cell rfl) ?_
    refine callB c_within (fun g7 => ?_) (fun g7 => ?_)
    rotate_left
    · exact ret1 (.bool false) rfl (bad fun h => inI_not.1 g7 (by have := iff3.1 (iff2.1 h); omega))
    refine fldA ?_
    refine ld (iv x.every) (bq.cell rfl) ?_
    refine fldA ?_
    refine ld (iv d.hours) (bg.cell rfl) ?_
    refine cD (fun b2 => ?_) (fun b2 => ?_)
    · exact ret1 (.bool true) rfl ⟨by rw [iff2.2 (iff3.2 ⟨b1, inI_iff.1 g5, inI_iff.1 g6, inI_iff.1 g7, b2⟩)], x2⟩
    · exact ret1 (.bool false) rfl (bad fun h => by have := iff3.1 (iff2.1 h); omega)
  refine cE (fun k2 => ?_) (fun k2 => ?_)
  · have iff3 : kindOk d.hours x = true ↔ x.rank = 0 ∧ x.litres = 0 ∧ x.every = 0 ∧ x.length = 0 ∧ x.frm = 0 ∧ x.to = d.hours - 1 := by
      unfold kindOk; rw [if_neg k1, if_pos k2]; simp only [Bool.and_eq_true, decide_eq_true_eq]
    refine fldA ?_
    refine ld (iv x.rank) (bq.cell rfl) ?_
    refine cE (fun b1 => ?_) (fun b1 => ?_)
    rotate_left
    · exact ret1 (.bool false) rfl (bad fun h => by have := iff3.1 (iff2.1 h); omega)
    refine fldA ?_
    refine ld (iv x.litres) (bq.cell rfl) ?_
    refine cE (fun b2 => ?_) (fun b2 => ?_)
    rotate_left
    · exact ret1 (.bool false) rfl (bad fun h => by have := iff3.1 (iff2.1 h); omega)
    refine fldA ?_
    refine ld (iv x.every) (bq.cell rfl) ?_
    refine cE (fun b3 => ?_) (fun b3 => ?_)
    rotate_left
    · exact ret1 (.bool false) rfl (bad fun h => by have := iff3.1 (iff2.1 h); omega)
    refine fldA ?_
    refine ld (iv x.length) (bq.cell rfl) ?_
    refine cE (fun b4 => ?_) (fun b4 => ?_)
    rotate_left
    · exact ret1 (.bool false) rfl (bad fun h => by have := iff3.1 (iff2.1 h); omega)
    refine fldA ?_
    refine ld (iv x.frm) (bq.cell rfl) ?_
    refine cE (fun b5 => ?_) (fun b5 => ?_)
    rotate_left
    · exact ret1 (.bool false) rfl (bad fun h => by have := iff3.1 (iff2.1 h); omega)
    refine fldA ?_
    refine ld (iv x.to) (bq.cell rfl) ?_
    refine fldA ?_
    refine ld (iv d.hours) (bg.cell rfl) ?_
    refine arI (by omega) ?_
    refine cE (fun b6 => ?_) (fun b6 => ?_)
    · exact ret1 (.bool true) rfl ⟨by rw [iff2.2 (iff3.2 ⟨b1, b2, b3, b4, b5, b6⟩)], x2⟩
    · exact ret1 (.bool false) rfl (bad fun h => b6 (iff3.1 (iff2.1 h)).2.2.2.2.2)
  refine cE (fun k3 => ?_) (fun k3 => ?_)
  · have iff3 : kindOk d.hours x = true ↔ x.rank = 0 ∧ x.litres = 0 ∧ x.every = 0 ∧ x.length = 0 := by
      unfold kindOk; rw [if_neg k1, if_neg k2, if_pos k3]; simp only [Bool.and_eq_true, decide_eq_true_eq]
    refine fldA ?_
    refine ld (iv x.rank) (bq.cell rfl) ?_
    refine cE (fun b1 => ?_) (fun b1 => ?_)
    rotate_left
    · exact ret1 (.bool false) rfl (bad fun h => by have := iff3.1 (iff2.1 h); omega)
    refine fldA ?_
    refine ld (iv x.litres) (bq.cell rfl) ?_
    refine cE (fun b2 => ?_) (fun b2 => ?_)
    rotate_left
    · exact ret1 (.bool false) rfl (bad fun h => by have := iff3.1 (iff2.1 h); omega)
    refine fldA ?_
    refine ld (iv x.every) (bq.cell rfl) ?_
    refine cE (fun b3 => ?_) (fun b3 => ?_)
    rotate_left
    · exact ret1 (.bool false) rfl (bad fun h => by have := iff3.1 (iff2.1 h); omega)
    refine fldA ?_
    refine ld (iv x.length) (bq.cell rfl) ?_
    refine cE (fun b4 => ?_) (fun b4 => ?_)
    · exact ret1 (.bool true) rfl ⟨by rw [iff2.2 (iff3.2 ⟨b1, b2, b3, b4⟩)], x2⟩
    · exact ret1 (.bool false) rfl (bad fun h => b4 (iff3.1 (iff2.1 h)).2.2.2)
  · refine ret1 (.bool false) rfl (bad fun h => ?_)
    have := iff2.1 h
    unfold kindOk at this
    rw [if_neg k1, if_neg k2, if_neg k3] at this
    exact Bool.noConfusion this
theorem c_r19valid {d : Dist} {cs : List Value} (hd : DiR D w cs d) : CallZ Tryz.prog 117 #[.agg cs.toArray] w (fun v w' => v = .bool (validB d) ∧ Ext w w') := by
  obtain ⟨A1, n1, c1, A2, n2, c2, A3, n3, c3, A4, n4, c4, A5, n5, c5, A6, n6, c6, rfl, hr, hf, hcr, hri, hdu, hwe⟩ := hd.ex
  have l1 := hr.len
  have l2 := hf.len
  have l3 := hcr.len
  have l4 := hri.len
  have l5 := hdu.len
  have l6 := hwe.len
  have e1 := hr.le
  have e2 := hf.le
  have e3 := hcr.le
  have e4 := hri.le
  have e5 := hdu.le
  refine fn_rule (args := [.agg #[.string d.name, iv d.hours, iv d.cap, iv d.start, .slice A1 n1 c1, .slice A2 n2 c2, .slice A3 n3 c3, .slice A4 n4 c4, .slice A5 n5 c5, .slice A6 n6 c6]]) Tryz.func117 (by kernel_rfl) ?_
  refine box (fun g w1 h1 => ?_)
  have bg := h1.blk
  have x1 := h1.ext
  have zg := h1.at_
  have zlt := bg.lt
  have bad : ∀ {w'}, Ext w1 w' → ¬ (validB d = true) → Value.bool false = .bool (validB d) ∧ Ext w w' := fun e h => ⟨by rw [Bool.eq_false_iff.2 h], x1.trans e⟩
  refine fldA ?_
  refine ld (iv d.hours) (bg.cell rfl) ?_
  refine callB c_within (fun g1 => ?_) (fun g1 => ?_)
  rotate_left
  · exact ret1 (.bool false) rfl (bad (.refl _ _) fun h => inI_not.1 g1 (by have := headOk_iff.1 (validB_iff.1 h).1; omega))
  refine fldA ?_
  refine fldA ?_
  refine ld (iv d.start) (bg.cell rfl) ?_
  refine fldA ?_
  refine fldA ?_
  refine ld (iv d.cap) (bg.cell rfl) ?_
  refine callB c_within (fun g2 => ?_) (fun g2 => ?_)
  rotate_left
  · exact ret1 (.bool false) rfl (bad (.refl _ _) fun h => inI_not.1 g2 (by have := headOk_iff.1 (validB_iff.1 h).1; omega))
  refine fldA ?_
  refine fldA ?_
  refine ld (iv d.cap) (bg.cell rfl) ?_
  refine cD (fun g3 => ?_) (fun g3 => ?_)
  · exact ret1 (.bool false) rfl (bad (.refl _ _) fun h => by have := headOk_iff.1 (validB_iff.1 h).1; omega)
  have g1 := inI_iff.1 g1
  have g2 := inI_iff.1 g2
  refine fldA ?_
  refine ld (.slice A1 n1 c1) (bg.cell rfl) ?_
  refine callE (c_r19reaches (hr.ext x1)) (fun w2 q2 x2 => ?_) (fun w2 q2 x2 => ?_)
  rotate_left
  · exact ret1 (.bool false) rfl (bad x2 fun h => by rw [(validB_iff.1 h).2.1, decide_eq_true (headOk_iff.1 (validB_iff.1 h).1).2.2.2] at q2; exact Bool.noConfusion q2)
  rw [Bool.and_eq_true, decide_eq_true_eq] at q2
  have hH : headOk d = true := headOk_iff.2 ⟨g1, g2, by omega, q2.2⟩
  refine ldA [.string d.name, iv d.hours, iv d.cap, iv d.start, .slice A1 n1 c1, .slice A2 n2 c2, .slice A3 n3 c3, .slice A4 n4 c4, .slice A5 n5 c5, .slice A6 n6 c6] (.blk (bg.ext x2)) rfl ?_
  refine callE (c_r19farms (hd.ext (x1.trans x2))) (fun w3 q3 x3 => ?_) (fun w3 q3 x3 => ?_)
  rotate_left
  · exact ret1 (.bool false) rfl (bad (x2.trans x3) fun h => by rw [(validB_iff.1 h).2.2.1, (validB_iff.1 h).2.2.2.1] at q3; exact Bool.noConfusion q3)
  rw [Bool.and_eq_true] at q3
  refine loop_rule (fun k : Nat => [(3, iv (k : Int))]) (fun k w' => k ≤ n4 ∧ Ext w1 w' ∧ d.rights.all (rightOk d.farms.length d.reaches.length d.hours) = (d.rights.drop k).all (rightOk d.farms.length d.reaches.length d.hours)) (fun k _ => n4 - k) 0 ⟨rfl, trivial⟩ ⟨by omega, x2.trans x3, rfl⟩ rfl ?_
  rintro G k w11 ⟨hk, x11, he⟩
  refine fldA ?_
  refine ld (.slice A4 n4 c4) ((bg.ext x11).cell rfl) ?_
  refine len ?_
  refine cD (fun hlt => ?_) (fun hge => ?_)
  · obtain ⟨b, o, cs, x, rfl, -, hx, -, hc, rfl⟩ := (hri.ext (x1.trans x11)).at_ (show k < n4 by omega)
    rw [hx, List.all_cons] at he
    refine drawX [0, 1, 2, 3, 4, 5, 6, 7] [6] mx (by kernel_rfl) ?_
    refine ldAX [.string d.name, iv d.hours, iv d.cap, iv d.start, .slice A1 n1 c1, .slice A2 n2 c2, .slice A3 n3 c3, .slice (some (ad b o)) n4 c4, .slice A5 n5 c5, .slice A6 n6 c6] (.blk (bg.ext x11)) rfl (.refl _ _) ?_
    refine fldA ?_
    refine ldX (.slice (some (ad b o)) n4 c4) ((bg.ext x11).cell rfl) (.refl _ _) ?_
    refine idx k rfl (by omega) ?_
    refine ldAX x.c hc rfl (.refl _ _) ?_
    refine callE (c_r19right (d := d) (x := x) (hd.ext (x1.trans x11)) g1) (fun w8 hq x8 => ?_) (fun w8 hq x8 => ?_)
    · refine strS x8 ?_
      refine arI (by omega) ?_
      refine next (k + 1) ⟨by rw [Int.natCast_add]; rfl, trivial⟩ ⟨by omega, x11.trans x8, ?_⟩ (by omega)
      rw [he, hq]; rfl
    · refine strS x8 ?_
      exact ret1 (.bool false) rfl (bad (x11.trans x8) fun h => by have := (validB_iff.1 h).2.2.2.2.1; rw [he, hq] at this; exact Bool.noConfusion this)
  have hG : d.rights.all (rightOk d.farms.length d.reaches.length d.hours) = true := by rw [he, drop_end (by omega)]; rfl
  clear he hge
  refine loop_rule (fun k : Nat => [(4, iv (k : Int))]) (fun k w' => k ≤ n5 ∧ Ext w1 w' ∧ d.duties.all (dutyOk d.farms.length d.reaches.length d.hours) = (d.duties.drop k).all (dutyOk d.farms.length d.reaches.length d.hours)) (fun k _ => n5 - k) 0 ⟨rfl, trivial⟩ ⟨by omega, x11, rfl⟩ rfl ?_
  rintro G k w12 ⟨hk, x12, he⟩
  refine fldA ?_
  refine ld (.slice A5 n5 c5) ((bg.ext x12).cell rfl) ?_
  refine len ?_
  refine cD (fun hlt => ?_) (fun hge => ?_)
  · obtain ⟨b, o, cs, x, rfl, -, hx, -, hc, rfl⟩ := (hdu.ext (x1.trans x12)).at_ (show k < n5 by omega)
    rw [hx, List.all_cons] at he
    refine fldA ?_
    refine ld (.slice _ n5 c5) ((bg.ext x12).cell rfl) ?_
    refine idx k rfl (by omega) ?_
    refine ldA x.c hc rfl ?_
    refine alloc (fun q w6 h6 => ?_)
    refine stA (vs := x.c) h6.blk rfl (Nat.le_of_ble_eq_true rfl) (by simp [Value.oneCell']) (fun w7 hb7 k7 z7 => ?_)
    have z6 := h6.at_
    have zz := x12.size
    have x7 : Ext w1 w7 := (x12.trans h6.ext).then k7 fun b hb _ e => by omega
    have bg7 := bg.ext x7
    have fiff : dutyOk d.farms.length d.reaches.length d.hours x = true ↔ (0 ≤ x.farm ∧ x.farm ≤ (n2 : Int) - 1) ∧ (0 ≤ x.reach ∧ x.reach ≤ (n1 : Int) - 1) ∧ (0 ≤ x.due ∧ x.due ≤ d.hours) := by
      unfold dutyOk; rw [l1, l2]; simp only [Bool.and_eq_true, inI_iff]
    have bad3 : ¬ (dutyOk d.farms.length d.reaches.length d.hours x = true) → Value.bool false = .bool (validB d) ∧ Ext w w7 := fun hq => bad x7 fun h => by have := (validB_iff.1 h).2.2.2.2.2; rw [he, Bool.eq_false_iff.2 hq] at this; exact Bool.noConfusion this
    refine fldA ?_
    refine ld (iv x.farm) (hb7.cell rfl) ?_
    refine fldA ?_
    refine ld (.slice A2 n2 c2) (bg7.cell rfl) ?_
    refine len ?_
    refine arI (by omega) ?_
    refine callB c_within (fun f1 => ?_) (fun f1 => ?_)
    rotate_left
    · exact ret1 (.bool false) rfl (bad3 fun h => inI_not.1 f1 (by have := fiff.1 h; omega))
    refine fldA ?_
    refine ld (iv x.reach) (hb7.cell rfl) ?_
    refine fldA ?_
    refine ld (.slice A1 n1 c1) (bg7.cell rfl) ?_
    refine len ?_
    refine arI (by omega) ?_
    refine callB c_within (fun f2 => ?_) (fun f2 => ?_)
    rotate_left
    · exact ret1 (.bool false) rfl (bad3 fun h => inI_not.1 f2 (by have := fiff.1 h; omega))
    refine fldA ?_
    refine ld (iv x.due) (hb7.cell rfl) ?_
    refine fldA ?_
    refine ld (iv d.hours) (bg7.cell rfl) ?_
    refine callB c_within (fun f3 => ?_) (fun f3 => ?_)
    rotate_left
    · exact ret1 (.bool false) rfl (bad3 fun h => inI_not.1 f3 (by have := fiff.1 h; omega))
    refine arI (by omega) ?_
    refine next (k + 1) ⟨by rw [Int.natCast_add]; rfl, trivial⟩ ⟨by omega, x7, ?_⟩ (by omega)
    rw [he, fiff.2 ⟨inI_iff.1 f1, inI_iff.1 f2, inI_iff.1 f3⟩]; rfl
  have hU : d.duties.all (dutyOk d.farms.length d.reaches.length d.hours) = true := by rw [he, drop_end (by omega)]; rfl
  exact ret1 (.bool true) rfl ⟨by rw [validB_iff.2 ⟨hH, q2.1, q3.1, q3.2, hG, hU⟩], x1.trans x12⟩
theorem c_r19Check {d : Dist} {cs : List Value} (hd : DiR D w cs d) : CallZ Tryz.prog 94 #[.agg cs.toArray] w (fun v w' => v = iv (dErr d) ∧ Ext w w') := by
  obtain ⟨A1, n1, c1, A2, n2, c2, A3, n3, c3, A4, n4, c4, A5, n5, c5, A6, n6, c6, rfl, hr, hf, hcr, hri, hdu, hwe⟩ := hd.ex
  have l1 := hr.len
  have l2 := hf.len
  have l3 := hcr.len
  have l4 := hri.len
  have l5 := hdu.len
  have l6 := hwe.len
  have e1 := hr.le
  have e2 := hf.le
  have e3 := hcr.le
  have e4 := hri.le
  have e5 := hdu.le
  refine fn_rule (args := [.agg #[.string d.name, iv d.hours, iv d.cap, iv d.start, .slice A1 n1 c1, .slice A2 n2 c2, .slice A3 n3 c3, .slice A4 n4 c4, .slice A5 n5 c5, .slice A6 n6 c6]]) Tryz.func94 (by kernel_rfl) ?_
  refine box (fun g w1 h1 => ?_)
  have bg := h1.blk
  have x1 := h1.ext
  have tiff : tooMany d = false ↔ n1 ≤ 64 ∧ n2 ≤ 600 ∧ n3 ≤ 32 ∧ n4 ≤ 256 ∧ n5 ≤ 256 := by unfold tooMany; rw [l1, l2, l3, l4, l5]; simp
  have bad : ¬ (n1 ≤ 64 ∧ n2 ≤ 600 ∧ n3 ≤ 32 ∧ n4 ≤ 256 ∧ n5 ≤ 256) → iv 2 = iv (dErr d) ∧ Ext w w1 := fun h => ⟨by unfold dErr; rw [show tooMany d = true from by cases ht : tooMany d with | true => rfl | false => exact absurd (tiff.1 ht) h]; rfl, x1⟩
  refine fldA ?_
  refine ld (.slice A1 n1 c1) (bg.cell rfl) ?_
  refine len ?_
  refine cD (fun g1 => ?_) (fun g1 => ?_)
  · exact ret1 (iv 2) rfl (bad (by omega))
  refine fldA ?_
  refine ld (.slice A2 n2 c2) (bg.cell rfl) ?_
  refine len ?_
  refine cD (fun g2 => ?_) (fun g2 => ?_)
  · exact ret1 (iv 2) rfl (bad (by omega))
  refine fldA ?_
  refine ld (.slice A3 n3 c3) (bg.cell rfl) ?_
  refine len ?_
  refine cD (fun g3 => ?_) (fun g3 => ?_)
  · exact ret1 (iv 2) rfl (bad (by omega))
  refine fldA ?_
  refine ld (.slice A4 n4 c4) (bg.cell rfl) ?_
  refine len ?_
  refine cD (fun g4 => ?_) (fun g4 => ?_)
  · exact ret1 (iv 2) rfl (bad (by omega))
  refine fldA ?_
  refine ld (.slice A5 n5 c5) (bg.cell rfl) ?_
  refine len ?_
  refine cD (fun g5 => ?_) (fun g5 => ?_)
  · exact ret1 (iv 2) rfl (bad (by omega))
  have hT : tooMany d = false := tiff.2 (by omega)
  refine ldA [.string d.name, iv d.hours, iv d.cap, iv d.start, .slice A1 n1 c1, .slice A2 n2 c2, .slice A3 n3 c3, .slice A4 n4 c4, .slice A5 n5 c5, .slice A6 n6 c6] (.blk bg) rfl ?_
  refine callE (c_r19valid (hd.ext x1)) (fun w2 hv x2 => ?_) (fun w2 hv x2 => ?_)
  · exact ret1 (iv 0) rfl ⟨by unfold dErr; rw [hT, hv]; rfl, x1.trans x2⟩
  · exact ret1 (iv 191) rfl ⟨by unfold dErr; rw [hT, hv]; rfl, x1.trans x2⟩
def fewD (d : Dist) : Bool := decide (d.reaches.length ≤ 100) && (decide (d.farms.length ≤ 700) && (decide (d.crops.length ≤ 100) && (decide (d.rights.length ≤ 300) && (decide (d.duties.length ≤ 300) && decide (d.wells.length ≤ 100)))))
theorem c_r19Few {d : Dist} {cs : List Value} (hd : DiR D w cs d) : CallZ Tryz.prog 59 #[.agg cs.toArray] w (fun v w' => v = .bool (fewD d) ∧ Ext w w') := by
  obtain ⟨A1, n1, c1, A2, n2, c2, A3, n3, c3, A4, n4, c4, A5, n5, c5, A6, n6, c6, rfl, hr, hf, hcr, hri, hdu, hwe⟩ := hd.ex
  have l1 := hr.len
  have l2 := hf.len
  have l3 := hcr.len
  have l4 := hri.len
  have l5 := hdu.len
  have l6 := hwe.len
  have e1 := hr.le
  have e2 := hf.le
  have e3 := hcr.le
  have e4 := hri.le
  have e5 := hdu.le
  refine fn_rule (args := [.agg #[.string d.name, iv d.hours, iv d.cap, iv d.start, .slice A1 n1 c1, .slice A2 n2 c2, .slice A3 n3 c3, .slice A4 n4 c4, .slice A5 n5 c5, .slice A6 n6 c6]]) Tryz.func59 (by kernel_rfl) ?_
  refine box (fun g w1 h1 => ?_)
  have bg := h1.blk
  have x1 := h1.ext
  have tiff : fewD d = true ↔ n1 ≤ 100 ∧ n2 ≤ 700 ∧ n3 ≤ 100 ∧ n4 ≤ 300 ∧ n5 ≤ 300 ∧ n6 ≤ 100 := by unfold fewD; rw [l1, l2, l3, l4, l5, l6]; simp
  have bad : ¬ (n1 ≤ 100 ∧ n2 ≤ 700 ∧ n3 ≤ 100 ∧ n4 ≤ 300 ∧ n5 ≤ 300 ∧ n6 ≤ 100) → Value.bool false = .bool (fewD d) ∧ Ext w w1 := fun h => ⟨by rw [Bool.eq_false_iff.2 fun e => h (tiff.1 e)], x1⟩
  refine fldA ?_
  refine ld (.slice A1 n1 c1) (bg.cell rfl) ?_
  refine len ?_
  refine cDr (fun g1 => ?_) (fun g1 => ?_)
  · exact ret1 (.bool false) rfl (bad (by omega))
  refine fldA ?_
  refine ld (.slice A2 n2 c2) (bg.cell rfl) ?_
  refine len ?_
  refine cDr (fun g2 => ?_) (fun g2 => ?_)
  · exact ret1 (.bool false) rfl (bad (by omega))
  refine fldA ?_
  refine ld (.slice A3 n3 c3) (bg.cell rfl) ?_
  refine len ?_
  refine cDr (fun g3 => ?_) (fun g3 => ?_)
  · exact ret1 (.bool false) rfl (bad (by omega))
  refine fldA ?_
  refine ld (.slice A4 n4 c4) (bg.cell rfl) ?_
  refine len ?_
  refine cDr (fun g4 => ?_) (fun g4 => ?_)
  · exact ret1 (.bool false) rfl (bad (by omega))
  refine fldA ?_
  refine ld (.slice A5 n5 c5) (bg.cell rfl) ?_
  refine len ?_
  refine cDr (fun g5 => ?_) (fun g5 => ?_)
  · exact ret1 (.bool false) rfl (bad (by omega))
  refine fldA ?_
  refine ld (.slice A6 n6 c6) (bg.cell rfl) ?_
  refine len ?_
  refine cDr (fun g6 => ?_) (fun g6 => ?_)
  · exact ret1 (.bool false) rfl (bad (by omega))
  exact ret1 (.bool true) rfl ⟨by rw [tiff.2 (by omega)], x1⟩
end
end Go.Proofs.YtcpdhclnmjfldaaGreat

/- Closing: what a district that is handed in reads as. -/
namespace Go.Proofs.YtcpdhclnmjfldaaGreat
open Go Go.RowKit Go.ChangeShapes Go.WideShapes Go.ChangeAt

theorem own : ownKnob Tryz.prog.godebug = none := by kernel_rfl
theorem laidOut : laidOutB Tryz.prog = true := by kernel_rfl
instance nz1 : NeZero 1 := ⟨by decide⟩
instance nz8 : NeZero 8 := ⟨by decide⟩
instance nz16 : NeZero 16 := ⟨by decide⟩
instance nz24 : NeZero 24 := ⟨by decide⟩
instance nz32 : NeZero 32 := ⟨by decide⟩
instance nz40 : NeZero 40 := ⟨by decide⟩
instance nz48 : NeZero 48 := ⟨by decide⟩
instance nz56 : NeZero 56 := ⟨by decide⟩
instance nz88 : NeZero 88 := ⟨by decide⟩
instance nz104 : NeZero 104 := ⟨by decide⟩

section
variable {P : Program} {α β : Type} {a : Ty α} {b : Ty β}
theorem rdAt {α : Type} (P : Program) (t : TypeId) (a : Ty α) [h : Rd P t a] (n : Nat) : RdN P n t a := h.h n
def tStr : Ty ByteArray := tFl 1 (fun s => [.string s]) fun _ => rfl
theorem rd_str {t : TypeId} (h : P.underlying t = some .string) : Rd P t tStr := ⟨fun n => ⟨fun {H enc W cs x} hx _ => by
  obtain ⟨s, hs, _⟩ := DataW.trod_string h hx
  exact ⟨s, hs⟩⟩⟩
theorem Rd.of {t : TypeId} (f : α → β) (h : Rd P t a) (hf : ∀ W cs y, a.rep AnyB W cs y → b.rep AnyB W cs (f y)) : Rd P t b := ⟨fun n => ⟨fun {H enc W cs x} hx hw => by
  obtain ⟨y, hy⟩ := (h.h n).h hx hw
  exact ⟨f y, hf W cs y hy⟩⟩⟩
theorem rd_arr2 {t e : TypeId} (hu : P.underlying t = some (.array 2 e)) (hc : P.cellsOf t = a.sz + a.sz) (he : P.cellsOf e = a.sz) (hr : Rd P e a) : Rd P t (tPair a a) := ⟨fun n => ⟨fun {H enc W cs x} hx hw => by
  obtain ⟨xs, m, rfl, rfl, hl, hxl, hi⟩ := DataW.trod_array hu hx
  dsimp only at hw
  rw [DataW.weights, hu] at hw
  dsimp only at hw
  have el : ∀ i, i < 2 → ∃ y, a.rep AnyB W ((cs.drop (i * P.cellsOf e)).take (P.cellsOf e)) y := fun i h2 => by
    have h1 := hi i h2
    have h3 : i < xs.length := by omega
    rw [List.getElem?_eq_getElem h3] at h1
    exact (hr.h m).h h1 (weightsAll_mem (List.mem_map_of_mem (List.getElem_mem h3)) hw)
  obtain ⟨y0, h0⟩ := el 0 (by omega)
  obtain ⟨y1, h1⟩ := el 1 (by omega)
  rw [he] at h0 h1
  rw [hc] at hl
  refine ⟨(y0, y1), _, _, ?_, h0, h1⟩
  rw [Nat.zero_mul, List.drop_zero, Nat.one_mul, List.take_of_length_le (l := cs.drop a.sz) (by rw [List.length_drop]; omega), List.take_append_drop]⟩⟩
end

theorem rd_range : Rd Tryz.prog 105 (tPair tInt tInt) := Rd.struct Tryz.underlying105 (by kernel_rfl) fun n => .cons (rdAt Tryz.prog 3 tInt n) rfl (.one (rdAt Tryz.prog 3 tInt n) rfl)
theorem rd_ratio : Rd Tryz.prog 102 (tPair tInt tInt) := Rd.struct Tryz.underlying102 (by kernel_rfl) fun n => .cons (rdAt Tryz.prog 3 tInt n) rfl (.one (rdAt Tryz.prog 3 tInt n) rfl)
theorem rd_tank : Rd Tryz.prog 23 (tPair tInt tInt) := Rd.struct Tryz.underlying23 (by kernel_rfl) fun n => .cons (rdAt Tryz.prog 3 tInt n) rfl (.one (rdAt Tryz.prog 3 tInt n) rfl)
theorem rd_ratios2 : Rd Tryz.prog 103 (tPair (tPair tInt tInt) (tPair tInt tInt)) := rd_arr2 (e := 102) Tryz.underlying103 (by kernel_rfl) (by kernel_rfl) rd_ratio
theorem rd_name : Rd Tryz.prog 9 tStr := rd_str Tryz.underlying9
theorem rd_reach : Rd Tryz.prog 107 tReach := by
  refine Rd.of (fun y : ByteArray × Int × Int × Int × Int × Int × (Int × Int) × (Int × Int) × (Int × Int) => (⟨y.1, y.2.1, y.2.2.1, y.2.2.2.1, y.2.2.2.2.1, y.2.2.2.2.2.1, ⟨y.2.2.2.2.2.2.1.1, y.2.2.2.2.2.2.1.2⟩, ⟨y.2.2.2.2.2.2.2.1.1, y.2.2.2.2.2.2.2.1.2⟩, ⟨y.2.2.2.2.2.2.2.2.1, y.2.2.2.2.2.2.2.2.2⟩⟩ : Reach))
    (Rd.struct Tryz.underlying107 (by kernel_rfl) fun n => .cons (rd_name.h n) rfl (.cons (rdAt Tryz.prog 3 tInt n) rfl (.cons (rdAt Tryz.prog 3 tInt n) rfl (.cons (rdAt Tryz.prog 3 tInt n) rfl (.cons (rdAt Tryz.prog 3 tInt n) rfl (.cons (rdAt Tryz.prog 3 tInt n) rfl (.cons (rd_range.h n) rfl (.one (rd_ratios2.h n) rfl)))))))) ?_
  rintro W cs ⟨s, u, d, c, k, i, ⟨e1, e2⟩, ⟨f1, f2⟩, ⟨g1, g2⟩⟩ ⟨_, _, rfl, rfl, _, _, rfl, ⟨rfl, -⟩, _, _, rfl, ⟨rfl, -⟩, _, _, rfl, ⟨rfl, -⟩, _, _, rfl, ⟨rfl, -⟩, _, _, rfl, ⟨rfl, -⟩, _, _, rfl, ⟨_, _, rfl, ⟨rfl, -⟩, ⟨rfl, -⟩⟩, _, _, rfl, ⟨_, _, rfl, ⟨rfl, -⟩, ⟨rfl, -⟩⟩, ⟨_, _, rfl, ⟨rfl, -⟩, ⟨rfl, -⟩⟩⟩
  rfl
theorem rd_farm : Rd Tryz.prog 109 tFarm := by
  refine Rd.of (fun y : ByteArray × Int × Int × Int => (⟨y.1, y.2.1, y.2.2.1, y.2.2.2⟩ : Farm))
    (Rd.struct Tryz.underlying109 (by kernel_rfl) fun n => .cons (rd_name.h n) rfl (.cons (rdAt Tryz.prog 3 tInt n) rfl (.cons (rdAt Tryz.prog 3 tInt n) rfl (.one (rdAt Tryz.prog 3 tInt n) rfl)))) ?_
  rintro W cs ⟨s, u, d, c⟩ ⟨_, _, rfl, rfl, _, _, rfl, ⟨rfl, -⟩, _, _, rfl, ⟨rfl, -⟩, ⟨rfl, -⟩⟩
  rfl
theorem rd_crop : Rd Tryz.prog 185 tCrop := by
  refine Rd.of (fun y : ByteArray × Int => (⟨y.1, y.2⟩ : Crop))
    (Rd.struct Tryz.underlying185 (by kernel_rfl) fun n => .cons (rd_name.h n) rfl (.one (rdAt Tryz.prog 3 tInt n) rfl)) ?_
  rintro W cs ⟨s, u⟩ ⟨_, _, rfl, rfl, ⟨rfl, -⟩⟩
  rfl
theorem rd_duty : Rd Tryz.prog 190 tDuty := by
  refine Rd.of (fun y : ByteArray × Int × Int × Int => (⟨y.1, y.2.1, y.2.2.1, y.2.2.2⟩ : Duty))
    (Rd.struct Tryz.underlying190 (by kernel_rfl) fun n => .cons (rd_name.h n) rfl (.cons (rdAt Tryz.prog 3 tInt n) rfl (.cons (rdAt Tryz.prog 3 tInt n) rfl (.one (rdAt Tryz.prog 3 tInt n) rfl)))) ?_
  rintro W cs ⟨s, u, d, c⟩ ⟨_, _, rfl, rfl, _, _, rfl, ⟨rfl, -⟩, _, _, rfl, ⟨rfl, -⟩, ⟨rfl, -⟩⟩
  rfl
theorem rd_right : Rd Tryz.prog 187 tRight := by
  refine Rd.of (fun y : ByteArray × Int × Int × Int × Int × Int × Int × Int × Int × Int => (⟨y.1, y.2.1, y.2.2.1, y.2.2.2.1, y.2.2.2.2.1, y.2.2.2.2.2.1, y.2.2.2.2.2.2.1, y.2.2.2.2.2.2.2.1, y.2.2.2.2.2.2.2.2.1, y.2.2.2.2.2.2.2.2.2⟩ : Right))
    (Rd.struct Tryz.underlying187 (by kernel_rfl) fun n => .cons (rd_name.h n) rfl (.cons (rdAt Tryz.prog 3 tInt n) rfl (.cons (rdAt Tryz.prog 3 tInt n) rfl (.cons (rdAt Tryz.prog 3 tInt n) rfl (.cons (rdAt Tryz.prog 3 tInt n) rfl (.cons (rdAt Tryz.prog 3 tInt n) rfl (.cons (rdAt Tryz.prog 3 tInt n) rfl (.cons (rdAt Tryz.prog 3 tInt n) rfl (.cons (rdAt Tryz.prog 3 tInt n) rfl (.one (rdAt Tryz.prog 3 tInt n) rfl)))))))))) ?_
  rintro W cs ⟨s, a, b, c, d, e, f, g, h, i⟩ ⟨_, _, rfl, rfl, _, _, rfl, ⟨rfl, -⟩, _, _, rfl, ⟨rfl, -⟩, _, _, rfl, ⟨rfl, -⟩, _, _, rfl, ⟨rfl, -⟩, _, _, rfl, ⟨rfl, -⟩, _, _, rfl, ⟨rfl, -⟩, _, _, rfl, ⟨rfl, -⟩, _, _, rfl, ⟨rfl, -⟩, ⟨rfl, -⟩⟩
  rfl
theorem rd_well : Rd Tryz.prog 232 tWell := Rd.map (g := fun y : Int × Int × Int × List Int => (⟨y.1, y.2.1, y.2.2.1, y.2.2.2⟩ : Well))
    (Rd.struct Tryz.underlying232 (by kernel_rfl) fun n => .cons (rdAt Tryz.prog 3 tInt n) rfl (.cons (rdAt Tryz.prog 3 tInt n) rfl (.cons (rdAt Tryz.prog 3 tInt n) rfl (.one (rdAt Tryz.prog 43 (tSl tInt) n) rfl)))) fun _ => rfl
instance : Rd Tryz.prog 107 tReach := rd_reach
instance : Rd Tryz.prog 109 tFarm := rd_farm
instance : Rd Tryz.prog 185 tCrop := rd_crop
instance : Rd Tryz.prog 187 tRight := rd_right
instance : Rd Tryz.prog 190 tDuty := rd_duty
instance : Rd Tryz.prog 232 tWell := rd_well
theorem rd_reaches : Rd Tryz.prog 24 (tSl tReach) := inferInstance
theorem rd_farms : Rd Tryz.prog 25 (tSl tFarm) := inferInstance
theorem rd_crops : Rd Tryz.prog 26 (tSl tCrop) := inferInstance
theorem rd_rights : Rd Tryz.prog 27 (tSl tRight) := inferInstance
theorem rd_duties : Rd Tryz.prog 28 (tSl tDuty) := inferInstance
theorem rd_wells : Rd Tryz.prog 29 (tSl tWell) := inferInstance
theorem rd_dist : Rd Tryz.prog 31 tDist := by
  refine Rd.of (fun y : ByteArray × Int × (Int × Int) × List Reach × List Farm × List Crop × List Right × List Duty × List Well => (⟨y.1, y.2.1, y.2.2.1.1, y.2.2.1.2, y.2.2.2.1, y.2.2.2.2.1, y.2.2.2.2.2.1, y.2.2.2.2.2.2.1, y.2.2.2.2.2.2.2.1, y.2.2.2.2.2.2.2.2⟩ : Dist))
    (Rd.struct Tryz.underlying31 (by kernel_rfl) fun n => .cons (rd_name.h n) rfl (.cons (rdAt Tryz.prog 3 tInt n) rfl (.cons (rd_tank.h n) rfl (.cons (rd_reaches.h n) rfl (.cons (rd_farms.h n) rfl (.cons (rd_crops.h n) rfl (.cons (rd_rights.h n) rfl (.cons (rd_duties.h n) rfl (.one (rd_wells.h n) rfl))))))))) ?_
  rintro W cs ⟨s, h, ⟨c, t⟩, l1, l2, l3, l4, l5, l6⟩ ⟨_, _, rfl, rfl, _, _, rfl, ⟨rfl, -⟩, _, _, rfl, ⟨_, _, rfl, ⟨rfl, -⟩, ⟨rfl, -⟩⟩, _, _, rfl, ⟨A1, n1, c1, rfl, h1, -⟩, _, _, rfl, ⟨A2, n2, c2, rfl, h2, -⟩, _, _, rfl, ⟨A3, n3, c3, rfl, h3, -⟩, _, _, rfl, ⟨A4, n4, c4, rfl, h4, -⟩, _, _, rfl, ⟨A5, n5, c5, rfl, h5, -⟩, A6, n6, c6, rfl, h6, -⟩
  exact DiR.of_ ⟨A1, n1, c1, A2, n2, c2, A3, n3, c3, A4, n4, c4, A5, n5, c5, A6, n6, c6, rfl, h1, h2, h3, h4, h5, h6⟩
end Go.Proofs.YtcpdhclnmjfldaaGreat

/- Losses, plainly: what arrives does not decrease with the parcel; the least parcel of which so much arrives, by halving. -/
namespace Go.Proofs.YtcpdhclnmjfldaaGreat
open Go Go.RowKit

/-! ### halving -/
/-- From lo on, the first number for which p holds is res; none up to hi if res is hi. -/
structure First (p : Int → Bool) (lo hi res : Int) : Prop where
  le : lo ≤ res
  ge : res ≤ hi
  no : ∀ v, lo ≤ v → v < res → p v = false
  yes : res < hi → p res = true
theorem First.uniq {p : Int → Bool} {lo hi a b : Int} (h : First p lo hi a) (k : First p lo hi b) : a = b := by
  rcases Int.lt_trichotomy a b with h1 | h1 | h1
  · have := k.no a h.le h1
    rw [h.yes (by have := k.ge; omega)] at this; cases this
  · exact h1
  · have := h.no b k.le h1
    rw [k.yes (by have := h.ge; omega)] at this; cases this
def bs (p : Int → Bool) : Nat → Int → Int → Int
  | 0, lo, _ => lo
  | n + 1, lo, hi => if lo < hi then (if p ((lo + hi) / 2) then bs p n lo ((lo + hi) / 2) else bs p n ((lo + hi) / 2 + 1) hi) else lo
/-- What halving keeps. -/
structure Half (p : Int → Bool) (a b lo hi : Int) : Prop where
  a_lo : a ≤ lo
  lo_hi : lo ≤ hi
  hi_b : hi ≤ b
  no : ∀ v, a ≤ v → v < lo → p v = false
  yes : hi < b → p hi = true
theorem Half.start {p : Int → Bool} {a b : Int} (h : a ≤ b) : Half p a b a b := ⟨Int.le_refl _, h, Int.le_refl _, fun v h1 h2 => by omega, fun h => by omega⟩
theorem Half.left {p : Int → Bool} {a b lo hi m : Int} (h : Half p a b lo hi) (h1 : lo ≤ m) (h2 : m < hi) (hp : p m = true) : Half p a b lo m := ⟨h.a_lo, h1, by have := h.hi_b; omega, h.no, fun _ => hp⟩
theorem Half.right {p : Int → Bool} {a b lo hi m : Int} (hm : ∀ v v', a ≤ v → v ≤ v' → v' ≤ b → p v = true → p v' = true) (h : Half p a b lo hi) (h1 : lo ≤ m) (h2 : m < hi) (hp : p m = false) : Half p a b (m + 1) hi :=
  ⟨by have := h.a_lo; omega, by omega, h.hi_b, fun v hv hv2 => (by
    cases hpv : p v with
    | false => rfl
    | true => rw [hm v m hv (by omega) (by have := h.hi_b; omega) hpv] at hp; cases hp), h.yes⟩
theorem Half.done {p : Int → Bool} {a b lo hi : Int} (h : Half p a b lo hi) (e : hi ≤ lo) : First p a b lo := by
  have := h.lo_hi
  obtain rfl : lo = hi := by omega
  exact ⟨h.a_lo, h.hi_b, h.no, h.yes⟩
theorem bs_first {p : Int → Bool} {a b : Int} (hm : ∀ v v', a ≤ v → v ≤ v' → v' ≤ b → p v = true → p v' = true) : ∀ (n : Nat) {lo hi : Int}, Half p a b lo hi → hi - lo < 2 ^ n → First p a b (bs p n lo hi)
  | 0, lo, hi, h, hn => h.done (by simp at hn; omega)
  | n + 1, lo, hi, h, hn => by
    unfold bs
    have e : (2 : Int) ^ (n + 1) = 2 * 2 ^ n := by rw [Int.pow_succ]; omega
    by_cases hlt : lo < hi
    · rw [if_pos hlt]
      cases hp : p ((lo + hi) / 2) with
      | true => rw [if_pos rfl]; exact bs_first hm n (h.left (by omega) (by omega) hp) (by omega)
      | false => rw [if_neg (by simp)]; exact bs_first hm n (h.right hm (by omega) (by omega) hp) (by omega)
    · rw [if_neg hlt]; exact h.done (by omega)

/-! ### what arrives -/
def arrB (r : Reach) (v : Int) : Int := v - (lostR r v).lo
def arrW (r : Reach) (v : Int) : Int := v - (lostR r v).hi
section
variable {r : Reach} {v v' w : Int}
theorem floor_mono {n d : Int} (hd : 0 < d) (hn : 0 ≤ n) (hnd : n ≤ d) (h : v ≤ v') : v * n / d ≤ v' * n / d ∧ v' * n / d ≤ v * n / d + (v' - v) := by
  have h1 : v * n ≤ v' * n := Int.mul_le_mul_of_nonneg_right h hn
  have h2 : v' * n ≤ v * n + (v' - v) * d := by
    have : (v' - v) * n ≤ (v' - v) * d := Int.mul_le_mul_of_nonneg_left hnd (by omega)
    rw [Int.sub_mul] at this; omega
  refine ⟨Int.ediv_le_ediv hd h1, ?_⟩
  rw [← Int.add_mul_ediv_right _ _ (by omega)]
  exact Int.ediv_le_ediv hd h2
theorem ceil_mono {n d : Int} (hd : 0 < d) (hnd : n ≤ d) (h : v ≤ v') : upI (v' * n) d ≤ upI (v * n) d + (v' - v) := by
  have h2 : v' * n ≤ v * n + (v' - v) * d := by
    have : (v' - v) * n ≤ (v' - v) * d := Int.mul_le_mul_of_nonneg_left hnd (by omega)
    rw [Int.sub_mul] at this; omega
  unfold upI
  rw [← Int.add_mul_ediv_right _ _ (by omega)]
  exact Int.ediv_le_ediv hd (by omega)
theorem lost_eq (hl : lossOk r = true) (hv : 0 ≤ v) : lostR r v = ⟨min v (r.evap.lo + v * r.s0.n / r.s0.d), if v = 0 then 0 else min v (r.evap.hi + upI (v * r.s1.n) r.s1.d)⟩ := by
  obtain ⟨h1, h2⟩ := lossOk_iff.1 hl
  unfold lostR
  by_cases h : v = 0
  · subst h; rw [if_pos rfl, if_pos rfl, Int.zero_mul, Int.zero_ediv]; congr 1; omega
  · rw [if_neg h, if_neg h]
theorem arrB_mono (hl : lossOk r = true) (hv : 0 ≤ v) (h : v ≤ v') : arrB r v ≤ arrB r v' := by
  obtain ⟨h1, h2⟩ := lossOk_iff.1 hl
  obtain ⟨h3, h4, _⟩ := sharesQ_iff.1 h2
  obtain ⟨q1, q2, q3⟩ := shareQ_iff.1 h3
  obtain ⟨d1, -⟩ := qValid_iff.1 q1
  have f := floor_mono (v := v) (v' := v') (show 0 < r.s0.d by omega) q2 q3 h
  unfold arrB
  rw [lost_eq hl hv, lost_eq hl (by omega)]
  show v - min v _ ≤ v' - min v' _
  omega
theorem arrW_mono (hl : lossOk r = true) (hv : 0 ≤ v) (h : v ≤ v') : arrW r v ≤ arrW r v' := by
  obtain ⟨h1, h2⟩ := lossOk_iff.1 hl
  obtain ⟨h3, h4, _⟩ := sharesQ_iff.1 h2
  obtain ⟨q1, q2, q3⟩ := shareQ_iff.1 h4
  obtain ⟨d1, -⟩ := qValid_iff.1 q1
  have f := ceil_mono (v := v) (v' := v') (show 0 < r.s1.d by omega) q3 h
  have s := share_le (v := v') h4 (by omega)
  unfold arrW
  rw [lost_eq hl hv, lost_eq hl (by omega)]
  show v - (if v = 0 then 0 else _) ≤ v' - (if v' = 0 then 0 else _)
  by_cases e : v = 0
  · rw [if_pos e]
    by_cases e' : v' = 0
    · rw [if_pos e']; omega
    · rw [if_neg e']; omega
  · rw [if_neg e, if_neg (by omega)]; omega
theorem arr_le (hl : lossOk r = true) (hv : 0 ≤ v ∧ v ≤ 1073741824) : 0 ≤ arrW r v ∧ arrW r v ≤ arrB r v ∧ arrB r v ≤ v := by
  have h := lost_le hl hv
  obtain ⟨h1, h2⟩ := lossOk_iff.1 hl
  obtain ⟨h3, h4, h5⟩ := sharesQ_iff.1 h2
  have : (lostR r v).lo ≤ (lostR r v).hi := by
    rw [lost_eq hl hv.1]
    show min v _ ≤ if v = 0 then 0 else min v _
    by_cases e : v = 0
    · rw [if_pos e]; omega
    · rw [if_neg e]
      obtain ⟨q1, q2, q3⟩ := shareQ_iff.1 h3
      obtain ⟨q1', q2', q3'⟩ := shareQ_iff.1 h4
      obtain ⟨d1, -⟩ := qValid_iff.1 q1
      obtain ⟨d1', -⟩ := qValid_iff.1 q1'
      have k : v * r.s0.n / r.s0.d ≤ upI (v * r.s1.n) r.s1.d := by
        have a1 : v * r.s0.n / r.s0.d * r.s0.d ≤ v * r.s0.n := Int.ediv_mul_le _ (by omega)
        have a2 : v * r.s1.n ≤ upI (v * r.s1.n) r.s1.d * r.s1.d := by
          have : v * r.s1.n + r.s1.d - 1 < ((v * r.s1.n + r.s1.d - 1) / r.s1.d + 1) * r.s1.d := Int.lt_ediv_add_one_mul_self _ (by omega)
          unfold upI
          rw [Int.add_mul] at this
          omega
        generalize v * r.s0.n / r.s0.d = x at a1
        generalize upI (v * r.s1.n) r.s1.d = y at a2
        have b1 : x * r.s0.d * r.s1.d ≤ v * r.s0.n * r.s1.d := Int.mul_le_mul_of_nonneg_right a1 (by omega)
        have b2 : v * r.s1.n * r.s0.d ≤ y * r.s1.d * r.s0.d := Int.mul_le_mul_of_nonneg_right a2 (by omega)
        have b3 : v * (r.s0.n * r.s1.d) ≤ v * (r.s1.n * r.s0.d) := Int.mul_le_mul_of_nonneg_left h5 hv.1
        have b4 : x * (r.s0.d * r.s1.d) ≤ y * (r.s0.d * r.s1.d) := by
          rw [← Int.mul_assoc, ← Int.mul_assoc] at b3 ⊢
          rw [Int.mul_right_comm y r.s0.d r.s1.d]
          omega
        exact Int.le_of_mul_le_mul_right b4 (Int.mul_pos (by omega) (by omega))
      omega
  unfold arrW arrB
  omega
/-- The least parcel of which w litres arrive at best (at worst), one more than the greatest one if there is none. -/
def lvB (r : Reach) (w : Int) : Int := bs (fun v => decide (w ≤ arrB r v)) 31 0 1073741825
def lvW (r : Reach) (w : Int) : Int := bs (fun v => decide (w ≤ arrW r v)) 31 0 1073741825
theorem lvB_first (hl : lossOk r = true) : First (fun v => decide (w ≤ arrB r v)) 0 1073741825 (lvB r w) :=
  bs_first (fun v v' h1 h2 _ h => by rw [decide_eq_true_eq] at h ⊢; have := arrB_mono hl h1 h2; omega) 31 (Half.start (by omega)) (by decide)
theorem lvW_first (hl : lossOk r = true) : First (fun v => decide (w ≤ arrW r v)) 0 1073741825 (lvW r w) :=
  bs_first (fun v v' h1 h2 _ h => by rw [decide_eq_true_eq] at h ⊢; have := arrW_mono hl h1 h2; omega) 31 (Half.start (by omega)) (by decide)
end
def reachV (r : Reach) (w : Int) : Int × Bool := if lErr r w ≠ 0 then (0, false) else if lvB r w > 1073741824 then (0, false) else (lvB r w, true)
def mostV (r : Reach) (w : Int) : Int := if lErr r w ≠ 0 then 0 else lvW r (w + 1) - 1
end Go.Proofs.YtcpdhclnmjfldaaGreat

/- Layer 48: the data, and what is computed, plainly. -/
namespace Go.Proofs.YtcpdhclnmjfldaaGreat
open Go Go.RowKit

abbrev Rg.c (x : Rg) : List Value := [iv x.lo, iv x.hi]
def tRg : Ty Rg := tFl 2 Rg.c fun _ => rfl
structure Wv where
  hour : Int
  heads : List Rg
  outlets : List Rg
  tails : List Rg
structure Su where
  kind : Int
  index : Int
  most : Int
abbrev Su.c (x : Su) : List Value := [iv x.kind, iv x.index, iv x.most]
def tSu : Ty Su := tFl 3 Su.c fun _ => rfl
structure Ev where
  waves : List Wv
  suspects : List Su
structure Tru where
  heads : List Int
  outlets : List Int
  tails : List Int
  arrived : List Int
  taken : List Int
def tWv : Ty Wv := tMap (tPair tInt (tPair (tSl tRg) (tPair (tSl tRg) (tSl tRg)))) fun w => (w.hour, w.heads, w.outlets, w.tails)
def tEv : Ty Ev := tMap (tPair (tSl tWv) (tSl tSu)) fun x => (x.waves, x.suspects)
abbrev tIs : Ty (List Int) := tSl tInt
def tTru : Ty Tru := tMap (tPair tIs (tPair tIs (tPair tIs (tPair tIs tIs)))) fun t => (t.heads, t.outlets, t.tails, t.arrived, t.taken)

/-! ### what is right -/
def rgsB (many : Nat) (l : List Rg) : Bool := decide (l.length = many) && l.all fun x => rgOk x 1073741824
def waveB (d : Dist) (last : Int) (w : Wv) : Bool := decide (last < w.hour) && (decide (w.hour < d.hours) && (rgsB d.reaches.length w.heads && (rgsB d.farms.length w.outlets && rgsB d.reaches.length w.tails)))
def wavesB (d : Dist) : Int → List Wv → Bool
  | _, [] => true
  | last, w :: r => waveB d last w && wavesB d w.hour r
def manyN (d : Dist) (kind : Int) : Int := if kind = 1 ∨ kind = 3 ∨ kind = 4 then d.reaches.length else if kind = 2 then d.farms.length else 0
def suB (d : Dist) (b : Int × Int) (s : Su) : Bool := decide (0 ≤ s.index) && (decide (s.index < manyN d s.kind) && (inI s.most 1 1073741824 && (decide (b.1 < s.kind) || (decide (b.1 = s.kind) && decide (b.2 < s.index)))))
def susB (d : Dist) : Int × Int → List Su → Bool
  | _, [] => true
  | b, s :: r => suB d b s && susB d (s.kind, s.index) r
def evErr (d : Dist) (x : Ev) : Int := if dErr d ≠ 0 then dErr d else if x.waves.length > 24 ∨ x.suspects.length > 12 then 2 else if wavesB d (-1) x.waves && susB d (0, -1) x.suspects then 0 else 480
def setB (n : Nat) : Int → List Int → Bool
  | _, [] => true
  | last, i :: r => decide (last < i) && (decide (i < n) && setB n i r)
def askErr (d : Dist) (x : Ev) (set : List Int) : Int := if evErr d x ≠ 0 then evErr d x else if setB x.suspects.length (-1) set then 0 else 480

/-! ### who is to blame -/
def s0 : Su := ⟨0, 0, 0⟩
def suAt (x : Ev) (i : Int) : Su := x.suspects.getD i.toNat s0
def blF (x : Ev) (set : List Int) (key : Int × Int) : Option Int := set.findSome? fun i => if ((suAt x i).kind, (suAt x i).index) = key then some (suAt x i).most else none
def meterV (bl : Int × Int → Option Int) (kind index : Int) (read : Rg) : Rg := match bl (kind, index) with
  | some n => ⟨0, max n read.hi⟩
  | none => read

def rE0 : Reach := ⟨ByteArray.empty, 0, 0, 0, 0, 0, ⟨0, 0⟩, ⟨0, 0⟩, ⟨0, 0⟩⟩
def fE0 : Farm := ⟨ByteArray.empty, 0, 0, 0⟩
def rcE (d : Dist) (k : Nat) : Reach := d.reaches.getD k rE0
def fmE (d : Dist) (k : Nat) : Farm := d.farms.getD k fE0
def suE (x : Ev) (k : Nat) : Su := x.suspects.getD k s0
/-! ### what may leave the end of a reach -/
inductive Dst where
  | tail (r : Nat)
  | head (k : Nat)
  | outlet (f : Nat)
  | taken (i : Nat)
deriving DecidableEq
def g0 : Rg := ⟨0, 0⟩
def tailP (bl : Int × Int → Option Int) (w : Wv) (r : Nat) : List (Rg × Dst) := [(meterV bl 3 r (w.tails.getD r g0), .tail r)]
def headP (d : Dist) (f : Nat → Rg) (r n : Nat) : List (Rg × Dst) := ((List.range n).filter fun k : Nat => decide ((rcE d k).up = (r : Int))).map fun k : Nat => (f k, .head k)
def outP (d : Dist) (bl : Int × Int → Option Int) (w : Wv) (r n : Nat) : List (Rg × Dst) := ((List.range n).filter fun k : Nat => decide ((fmE d k).reach = (r : Int))).map fun k : Nat => (meterV bl 2 k (w.outlets.getD k g0), .outlet k)
def pumpP (x : Ev) (bl : Int × Int → Option Int) (r n : Nat) : List (Rg × Dst) := ((List.range n).filter fun i : Nat => decide ((suE x i).kind = 4) && decide ((suE x i).index = (r : Int))).map fun i : Nat => (meterV bl 4 r g0, .taken i)
def partsL (d : Dist) (x : Ev) (bl : Int × Int → Option Int) (w : Wv) (f : Nat → Rg) (r : Nat) : List (Rg × Dst) :=
  tailP bl w r ++ (headP d f r d.reaches.length ++ (outP d bl w r d.farms.length ++ pumpP x bl r x.suspects.length))
def loS (l : List (Rg × Dst)) : Int := (l.map fun p => p.1.lo).sum
def hiS (l : List (Rg × Dst)) : Int := (l.map fun p => p.1.hi).sum

/-! ### the heads that are possible -/
def headV (d : Dist) (x : Ev) (bl : Int × Int → Option Int) (w : Wv) (f : Nat → Rg) (r : Nat) (y : Reach) : Rg :=
  ⟨max (reachV y (loS (partsL d x bl w f r))).1 (meterV bl 1 r (w.heads.getD r g0)).lo, min (mostV y (min 1073741824 (hiS (partsL d x bl w f r)))) (meterV bl 1 r (w.heads.getD r g0)).hi⟩
def setF {α : Type} (f : Nat → α) (r : Nat) (v : α) : Nat → α := fun k => if k = r then v else f k
/-- From the reach n - 1 up to the reach 0. -/
def followV (d : Dist) (x : Ev) (bl : Int × Int → Option Int) (w : Wv) : Nat → (Nat → Rg) → Option (Nat → Rg)
  | 0, f => some f
  | n + 1, f =>
    if loS (partsL d x bl w f n) > 1073741824 then none
    else if (reachV (rcE d n) (loS (partsL d x bl w f n))).2 = false ∨ (headV d x bl w f n (rcE d n)).lo > (headV d x bl w f n (rcE d n)).hi then none
    else followV d x bl w n (setF f n (headV d x bl w f n (rcE d n)))
def explB (d : Dist) (x : Ev) (set : List Int) : Bool := x.waves.all fun w => (followV d x (blF x set) w d.reaches.length fun _ => g0).isSome
end Go.Proofs.YtcpdhclnmjfldaaGreat

/- Layer 48, plainly: whom a Truth fits. A Truth that fits shows that the heads are possible. -/
namespace Go.Proofs.YtcpdhclnmjfldaaGreat
open Go Go.RowKit

/-! ### sums of parts -/
def owner (d : Dist) (x : Ev) : Dst → Int
  | .tail r => r
  | .head k => (rcE d k).up
  | .outlet k => (fmE d k).reach
  | .taken i => (suE x i).index
def sumT (T : Dst → Int) (l : List (Rg × Dst)) : Int := (l.map fun p => T p.2).sum
theorem sum_le_map {α : Type} {f g : α → Int} : ∀ {l : List α}, (∀ a ∈ l, f a ≤ g a) → (l.map f).sum ≤ (l.map g).sum
  | [], _ => Int.le_refl _
  | a :: l, h => by
    simp only [List.map_cons, List.sum_cons]
    have h1 := h a List.mem_cons_self
    have h2 := sum_le_map (l := l) (f := f) (g := g) fun b hb => h b (List.mem_cons_of_mem _ hb)
    omega
/-- A Truth, as numbers by place, fits a wave. -/
structure FitsT (d : Dist) (x : Ev) (bl : Int × Int → Option Int) (w : Wv) (T : Dst → Int) (A : Nat → Int) : Prop where
  heads : ∀ r, r < d.reaches.length → (meterV bl 1 r (w.heads.getD r g0)).lo ≤ T (.head r) ∧ T (.head r) ≤ (meterV bl 1 r (w.heads.getD r g0)).hi
  outlets : ∀ k, k < d.farms.length → (meterV bl 2 k (w.outlets.getD k g0)).lo ≤ T (.outlet k) ∧ T (.outlet k) ≤ (meterV bl 2 k (w.outlets.getD k g0)).hi
  tails : ∀ r, r < d.reaches.length → (meterV bl 3 r (w.tails.getD r g0)).lo ≤ T (.tail r) ∧ T (.tail r) ≤ (meterV bl 3 r (w.tails.getD r g0)).hi
  taken : ∀ i, i < x.suspects.length → 0 ≤ T (.taken i) ∧ T (.taken i) ≤ if (suE x i).kind = 4 then (bl ((suE x i).kind, (suE x i).index)).getD 0 else 0
  arr : ∀ r, r < d.reaches.length → A r = sumT T (partsL d x bl w (fun _ => g0) r) ∧ arrW (rcE d r) (T (.head r)) ≤ A r ∧ A r ≤ arrB (rcE d r) (T (.head r))

/-- What is right of a district, a wave and a set, for all that follows. -/
structure WavOk (d : Dist) (x : Ev) (bl : Int × Int → Option Int) (w : Wv) : Prop where
  loss : ∀ r, r < d.reaches.length → lossOk (rcE d r) = true
  up : ∀ k, k < d.reaches.length → (rcE d k).up < k
  up0 : ∀ k, 0 < k → k < d.reaches.length → 0 ≤ (rcE d k).up
  farm : ∀ k, k < d.farms.length → 0 ≤ (fmE d k).reach ∧ (fmE d k).reach < d.reaches.length
  heads : ∀ r, r < d.reaches.length → rgOk (w.heads.getD r g0) 1073741824 = true
  outlets : ∀ k, k < d.farms.length → rgOk (w.outlets.getD k g0) 1073741824 = true
  tails : ∀ r, r < d.reaches.length → rgOk (w.tails.getD r g0) 1073741824 = true
  sus : ∀ i, i < x.suspects.length → (suE x i).kind = 4 → 0 ≤ (suE x i).index ∧ (suE x i).index < d.reaches.length
  bl : ∀ key n, bl key = some n → 1 ≤ n ∧ n ≤ 1073741824

section
variable {d : Dist} {x : Ev} {bl : Int × Int → Option Int} {w : Wv} {f g : Nat → Rg} {r k n : Nat} {T : Dst → Int} {A : Nat → Int}
theorem meter_ok (hb : ∀ key n, bl key = some n → 1 ≤ n ∧ n ≤ 1073741824) {kd ix : Int} {y : Rg} (h : rgOk y 1073741824 = true) : rgOk (meterV bl kd ix y) 1073741824 = true := by
  rw [rgOk_iff] at h ⊢
  unfold meterV
  split
  · rename_i n hn
    have := hb _ n hn
    show 0 ≤ (0 : Int) ∧ 0 ≤ max n y.hi ∧ max n y.hi ≤ 1073741824
    omega
  · exact h
theorem g0_ok : rgOk g0 1073741824 = true := by decide
/-- Which parts there are does not hang on the heads; their ranges hang on those of the children alone. -/
theorem mem_parts {p : Rg × Dst} : p ∈ partsL d x bl w f r ↔ p = (meterV bl 3 r (w.tails.getD r g0), .tail r) ∨ (∃ k, k < d.reaches.length ∧ (rcE d k).up = (r : Int) ∧ p = (f k, .head k)) ∨
    (∃ k, k < d.farms.length ∧ (fmE d k).reach = (r : Int) ∧ p = (meterV bl 2 k (w.outlets.getD k g0), .outlet k)) ∨ ∃ i, i < x.suspects.length ∧ (suE x i).kind = 4 ∧ (suE x i).index = (r : Int) ∧ p = (meterV bl 4 r g0, .taken i) := by
  unfold partsL tailP headP outP pumpP
  simp only [List.mem_append, List.mem_cons, List.not_mem_nil, or_false, List.mem_map, List.mem_filter, List.mem_range, Bool.and_eq_true, decide_eq_true_eq]
  constructor
  · rintro (h | ⟨k, ⟨h1, h2⟩, rfl⟩ | ⟨k, ⟨h1, h2⟩, rfl⟩ | ⟨i, ⟨h1, h2, h3⟩, rfl⟩)
    · exact .inl h
    · exact .inr (.inl ⟨k, h1, h2, rfl⟩)
    · exact .inr (.inr (.inl ⟨k, h1, h2, rfl⟩))
    · exact .inr (.inr (.inr ⟨i, h1, h2, h3, rfl⟩))
  · rintro (h | ⟨k, h1, h2, rfl⟩ | ⟨k, h1, h2, rfl⟩ | ⟨i, h1, h2, h3, rfl⟩)
    · exact .inl h
    · exact .inr (.inl ⟨k, ⟨h1, h2⟩, rfl⟩)
    · exact .inr (.inr (.inl ⟨k, ⟨h1, h2⟩, rfl⟩))
    · exact .inr (.inr (.inr ⟨i, ⟨h1, h2, h3⟩, rfl⟩))
theorem parts_congr (h : ∀ k, k < d.reaches.length → (rcE d k).up = (r : Int) → f k = g k) : partsL d x bl w f r = partsL d x bl w g r := by
  have e : headP d f r d.reaches.length = headP d g r d.reaches.length := by
    unfold headP
    refine List.map_congr_left fun k hk => ?_
    rw [List.mem_filter, List.mem_range, decide_eq_true_eq] at hk
    rw [h k hk.1 hk.2]
  unfold partsL; rw [e]
theorem sumT_parts : sumT T (partsL d x bl w f r) = sumT T (partsL d x bl w g r) := by
  unfold sumT partsL headP
  simp only [List.map_append, List.map_map]
  rfl
theorem lo_pos (hw : WavOk d x bl w) (hf : ∀ k, k < d.reaches.length → (rcE d k).up = (r : Int) → 0 ≤ (f k).lo) (hr : r < d.reaches.length) : ∀ p ∈ partsL d x bl w f r, 0 ≤ p.1.lo := by
  intro p hp
  rcases mem_parts.1 hp with rfl | ⟨k, h1, h2, rfl⟩ | ⟨k, h1, h2, rfl⟩ | ⟨i, h1, h2, h3, rfl⟩
  · exact (rgOk_iff.1 (meter_ok hw.bl (hw.tails r hr))).1
  · exact hf k h1 h2
  · exact (rgOk_iff.1 (meter_ok hw.bl (hw.outlets k h1))).1
  · exact (rgOk_iff.1 (meter_ok hw.bl g0_ok)).1
theorem sum_pos {α : Type} {h : α → Int} : ∀ {l : List α}, (∀ a ∈ l, 0 ≤ h a) → 0 ≤ (l.map h).sum
  | [], _ => Int.le_refl _
  | a :: l, hl => by
    simp only [List.map_cons, List.sum_cons]
    have h1 := hl a List.mem_cons_self
    have h2 := sum_pos (l := l) (h := h) fun b hb => hl b (List.mem_cons_of_mem _ hb)
    omega
/-- Each part of a Truth that fits is in its range. -/
theorem fits_part (hf : FitsT d x bl w T A) (hg : ∀ k, k < d.reaches.length → (rcE d k).up = (r : Int) → (f k).lo ≤ T (.head k) ∧ T (.head k) ≤ (f k).hi) (hr : r < d.reaches.length) : ∀ p ∈ partsL d x bl w f r, p.1.lo ≤ T p.2 ∧ T p.2 ≤ p.1.hi := by
  intro p hp
  rcases mem_parts.1 hp with rfl | ⟨k, h1, h2, rfl⟩ | ⟨k, h1, h2, rfl⟩ | ⟨i, h1, h2, h3, rfl⟩
  · exact hf.tails r hr
  · exact hg k h1 h2
  · exact hf.outlets k h1
  · have h := hf.taken i h1
    rw [if_pos h2, h2, h3] at h
    show (meterV bl 4 r g0).lo ≤ _ ∧ _ ≤ (meterV bl 4 r g0).hi
    unfold meterV
    cases hb : bl (4, (r : Int)) with
    | none =>
      rw [hb] at h
      show (0 : Int) ≤ _ ∧ _ ≤ (0 : Int)
      simpa using h
    | some n =>
      rw [hb] at h
      simp only [Option.getD_some] at h
      show (0 : Int) ≤ T (.taken i) ∧ T (.taken i) ≤ max n 0
      omega
theorem head_ok (hw : WavOk d x bl w) (hr : r < d.reaches.length) {lo hi h a : Int} (h0 : 0 ≤ lo) (hla : lo ≤ a) (hah : a ≤ hi) (hh : 0 ≤ h ∧ h ≤ 1073741824) (h1 : arrW (rcE d r) h ≤ a) (h2 : a ≤ arrB (rcE d r) h) :
    lo ≤ 1073741824 ∧ (reachV (rcE d r) lo).2 = true ∧ (reachV (rcE d r) lo).1 ≤ h ∧ h ≤ mostV (rcE d r) (min 1073741824 hi) := by
  have hl := hw.loss r hr
  have ha := arr_le hl hh
  have e1 : lErr (rcE d r) lo = 0 := lErr_ok.2 ⟨hl, by omega, by omega⟩
  have e2 : lErr (rcE d r) (min 1073741824 hi) = 0 := lErr_ok.2 ⟨hl, by omega, by omega⟩
  have f1 := lvB_first (w := lo) hl
  have f2 := lvW_first (w := min 1073741824 hi + 1) hl
  have l1 : lvB (rcE d r) lo ≤ h := by
    rcases Int.lt_or_le h (lvB (rcE d r) lo) with hc | hc
    · have := f1.no h hh.1 hc
      simp only [decide_eq_false_iff_not] at this
      omega
    · exact hc
  refine ⟨by omega, ?_, ?_, ?_⟩
  · unfold reachV; rw [if_neg (by simp [e1]), if_neg (by omega)]
  · unfold reachV; rw [if_neg (by simp [e1]), if_neg (by omega)]; exact l1
  · unfold mostV
    rw [if_neg (by simp [e2])]
    rcases Int.lt_or_le h (lvW (rcE d r) (min 1073741824 hi + 1)) with hc | hc
    · omega
    · have hy := f2.yes (by omega)
      rw [decide_eq_true_eq] at hy
      have := arrW_mono hl f2.le hc
      omega
theorem fits_follow (hw : WavOk d x bl w) (hf : FitsT d x bl w T A) : ∀ (n : Nat) (f : Nat → Rg), n ≤ d.reaches.length → (∀ k, n ≤ k → k < d.reaches.length → 0 ≤ (f k).lo ∧ (f k).lo ≤ T (.head k) ∧ T (.head k) ≤ (f k).hi) → (followV d x bl w n f).isSome = true
  | 0, f, _, _ => rfl
  | n + 1, f, hn, hg => by
    have hr : n < d.reaches.length := by omega
    have kid : ∀ k, k < d.reaches.length → (rcE d k).up = (n : Int) → 0 ≤ (f k).lo ∧ (f k).lo ≤ T (.head k) ∧ T (.head k) ≤ (f k).hi := fun k h1 h2 => hg k (by have := hw.up k h1; omega) h1
    have hp := fits_part (f := f) hf (fun k h1 h2 => (kid k h1 h2).2) hr
    have ha := hf.arr n hr
    rw [sumT_parts (g := f)] at ha
    have s1 : loS (partsL d x bl w f n) ≤ sumT T (partsL d x bl w f n) := sum_le_map fun p hp' => (hp p hp').1
    have s2 : sumT T (partsL d x bl w f n) ≤ hiS (partsL d x bl w f n) := sum_le_map fun p hp' => (hp p hp').2
    have s0 : 0 ≤ loS (partsL d x bl w f n) := sum_pos (lo_pos hw (fun k h1 h2 => (kid k h1 h2).1) hr)
    have ho := hf.heads n hr
    have hm := rgOk_iff.1 (meter_ok hw.bl (kd := 1) (ix := n) (hw.heads n hr))
    obtain ⟨q1, q2, q3, q4⟩ := head_ok hw hr (lo := loS (partsL d x bl w f n)) (hi := hiS (partsL d x bl w f n)) (a := A n) (h := T (.head n)) s0 (by omega) (by omega) (by omega) ha.2.1 ha.2.2
    have hlo : (headV d x bl w f n (rcE d n)).lo ≤ T (.head n) := by show max _ _ ≤ _; omega
    have hhi : T (.head n) ≤ (headV d x bl w f n (rcE d n)).hi := by show _ ≤ min _ _; omega
    have hl0 : 0 ≤ (headV d x bl w f n (rcE d n)).lo := by show 0 ≤ max _ _; omega
    unfold followV
    rw [if_neg (by omega), if_neg (by rw [q2]; simp; omega)]
    refine fits_follow hw hf n _ (by omega) fun k h1 h2 => ?_
    unfold setF
    by_cases e : k = n
    · subst e; rw [if_pos rfl]; exact ⟨hl0, hlo, hhi⟩
    · rw [if_neg e]; exact hg k (by omega) h2
end
end Go.Proofs.YtcpdhclnmjfldaaGreat

/- Layer 48, plainly: the Truth that is filled fits. -/
namespace Go.Proofs.YtcpdhclnmjfldaaGreat
open Go Go.RowKit

def setD (T : Dst → Int) (a : Dst) (v : Int) : Dst → Int := fun b => if b = a then v else T b
def distL : Int → List (Rg × Dst) → List (Dst × Int)
  | _, [] => []
  | left, p :: l => (p.2, p.1.lo + min left (p.1.hi - p.1.lo)) :: distL (left - min left (p.1.hi - p.1.lo)) l
def putL (T : Dst → Int) : List (Dst × Int) → Dst → Int
  | [] => T
  | p :: l => putL (setD T p.1 p.2) l
def T0 (f : Nat → Rg) : Dst → Int := fun a => if a = .head 0 then (f 0).lo else 0
def arrV (d : Dist) (x : Ev) (bl : Int × Int → Option Int) (w : Wv) (f : Nat → Rg) (r : Nat) (T : Dst → Int) : Int := max (loS (partsL d x bl w f r)) (arrW (rcE d r) (T (.head r)))
def fillT (d : Dist) (x : Ev) (bl : Int × Int → Option Int) (w : Wv) (f : Nat → Rg) : Nat → Dst → Int
  | 0 => T0 f
  | r + 1 => putL (fillT d x bl w f r) (distL (arrV d x bl w f r (fillT d x bl w f r) - loS (partsL d x bl w f r)) (partsL d x bl w f r))
def fillA (d : Dist) (x : Ev) (bl : Int × Int → Option Int) (w : Wv) (f : Nat → Rg) (r : Nat) : Int := arrV d x bl w f r (fillT d x bl w f r)

theorem dist_fst : ∀ {l : List (Rg × Dst)} {left : Int}, (distL left l).map (·.1) = l.map (·.2)
  | [], _ => rfl
  | p :: l, left => by unfold distL; rw [List.map_cons, List.map_cons, dist_fst]
theorem dist_ok : ∀ {l : List (Rg × Dst)} {left : Int}, (∀ p ∈ l, p.1.lo ≤ p.1.hi) → 0 ≤ left → left ≤ hiS l - loS l → ((distL left l).map (·.2)).sum = loS l + left ∧ ∀ (j : Nat) (p : Rg × Dst), l[j]? = some p → ∃ v, (distL left l)[j]? = some (p.2, v) ∧ p.1.lo ≤ v ∧ v ≤ p.1.hi
  | [], left, _, h0, h1 => by
    have : left = 0 := by simp [hiS, loS] at h1; omega
    subst this
    exact ⟨rfl, fun j p h => by simp at h⟩
  | p :: l, left, hl, h0, h1 => by
    have hp := hl p List.mem_cons_self
    have e1 : hiS (p :: l) = p.1.hi + hiS l := rfl
    have e2 : loS (p :: l) = p.1.lo + loS l := rfl
    rw [e1, e2] at h1
    obtain ⟨k1, k2⟩ := dist_ok (l := l) (left := left - min left (p.1.hi - p.1.lo)) (fun q hq => hl q (List.mem_cons_of_mem _ hq)) (by omega) (by
      have : loS l ≤ hiS l := sum_le_map fun q hq => hl q (List.mem_cons_of_mem _ hq)
      omega)
    unfold distL
    refine ⟨by rw [List.map_cons, List.sum_cons, k1, e2]; simp only []; omega, fun j q hq => ?_⟩
    cases j with
    | zero =>
      rw [List.getElem?_cons_zero] at hq
      injection hq with hq; subst hq
      exact ⟨_, rfl, by omega, by omega⟩
    | succ j => rw [List.getElem?_cons_succ] at hq ⊢; exact k2 j q hq
theorem put_not : ∀ {l : List (Dst × Int)} {T : Dst → Int} {b : Dst}, b ∉ l.map (·.1) → putL T l b = T b
  | [], _, _, _ => rfl
  | p :: l, T, b, h => by
    rw [List.map_cons, List.mem_cons, not_or] at h
    unfold putL
    rw [put_not h.2]
    unfold setD
    rw [if_neg h.1]
theorem put_mem : ∀ {l : List (Dst × Int)} {T : Dst → Int} {a : Dst} {v : Int}, (l.map (·.1)).Nodup → (a, v) ∈ l → putL T l a = v
  | p :: l, T, a, v, hn, h => by
    rw [List.map_cons, List.nodup_cons] at hn
    unfold putL
    rcases List.mem_cons.1 h with h | h
    · subst h
      rw [put_not hn.1]
      unfold setD
      rw [if_pos rfl]
    · exact put_mem hn.2 h
section
variable {d : Dist} {x : Ev} {bl : Int × Int → Option Int} {w : Wv} {f g : Nat → Rg} {r k n : Nat} {T : Dst → Int} {A : Nat → Int}
theorem parts_nodup : ((partsL d x bl w f r).map (·.2)).Nodup := by
  have h1 : ∀ (q : Nat → Bool) (m : Nat) (c : Nat → Dst), (∀ a b, c a = c b → a = b) → (((List.range m).filter q).map c).Nodup := fun q m c hc => by
    unfold List.Nodup
    rw [List.pairwise_map]
    exact ((List.nodup_range (n := m)).filter q).imp fun h e => h (hc _ _ e)
  unfold partsL tailP headP outP pumpP
  simp only [List.map_append, List.map_map, List.map_cons, List.map_nil]
  rw [List.nodup_append, List.nodup_append, List.nodup_append]
  refine ⟨by simp, ⟨h1 _ _ _ fun a b e => by injection e, ⟨h1 _ _ _ fun a b e => by injection e, h1 _ _ _ fun a b e => by injection e, ?_⟩, ?_⟩, ?_⟩
  · intro a ha b hb e
    obtain ⟨_, _, rfl⟩ := List.mem_map.1 ha
    obtain ⟨_, _, rfl⟩ := List.mem_map.1 hb
    cases e
  · intro a ha b hb e
    obtain ⟨_, _, rfl⟩ := List.mem_map.1 ha
    rcases List.mem_append.1 hb with hb | hb
    · obtain ⟨_, _, rfl⟩ := List.mem_map.1 hb; cases e
    · obtain ⟨_, _, rfl⟩ := List.mem_map.1 hb; cases e
  · intro a ha b hb e
    rw [List.mem_singleton] at ha
    subst ha
    rcases List.mem_append.1 hb with hb | hb
    · obtain ⟨_, _, rfl⟩ := List.mem_map.1 hb; cases e
    rcases List.mem_append.1 hb with hb | hb
    · obtain ⟨_, _, rfl⟩ := List.mem_map.1 hb; cases e
    · obtain ⟨_, _, rfl⟩ := List.mem_map.1 hb; cases e
theorem parts_own : ∀ p ∈ partsL d x bl w f r, owner d x p.2 = (r : Int) := by
  intro p hp
  rcases mem_parts.1 hp with rfl | ⟨k, h1, h2, rfl⟩ | ⟨k, h1, h2, rfl⟩ | ⟨i, h1, h2, h3, rfl⟩
  · rfl
  · exact h2
  · exact h2
  · exact h3
/-- What holds of the heads that are found. -/
structure FOK (d : Dist) (x : Ev) (bl : Int × Int → Option Int) (w : Wv) (f : Nat → Rg) (r : Nat) : Prop where
  lo : loS (partsL d x bl w f r) ≤ 1073741824
  can : (reachV (rcE d r) (loS (partsL d x bl w f r))).2 = true
  eq : f r = headV d x bl w f r (rcE d r)
  le : (f r).lo ≤ (f r).hi
theorem headV_congr (h : ∀ k, k < d.reaches.length → (rcE d k).up = (r : Int) → f k = g k) : headV d x bl w f r (rcE d r) = headV d x bl w g r (rcE d r) := by
  unfold headV; rw [parts_congr h]
theorem follow_ok (hw : WavOk d x bl w) : ∀ (n : Nat) (f0 f : Nat → Rg), n ≤ d.reaches.length → followV d x bl w n f0 = some f → (∀ k, n ≤ k → f k = f0 k) ∧ ∀ r, r < n → FOK d x bl w f r
  | 0, f0, f, _, h => by
    injection h with h; subst h
    exact ⟨fun _ _ => rfl, fun r hr => by omega⟩
  | n + 1, f0, f, hn, h => by
    unfold followV at h
    by_cases h1 : loS (partsL d x bl w f0 n) > 1073741824
    · rw [if_pos h1] at h; cases h
    rw [if_neg h1] at h
    by_cases h2 : (reachV (rcE d n) (loS (partsL d x bl w f0 n))).2 = false ∨ (headV d x bl w f0 n (rcE d n)).lo > (headV d x bl w f0 n (rcE d n)).hi
    · rw [if_pos h2] at h; cases h
    rw [if_neg h2] at h
    obtain ⟨k1, k2⟩ := follow_ok hw n _ f (by omega) h
    have hk : ∀ k, n + 1 ≤ k → f k = f0 k := fun k hk => by
      rw [k1 k (by omega)]; unfold setF; rw [if_neg (by omega)]
    have hkid : ∀ k, k < d.reaches.length → (rcE d k).up = (n : Int) → f k = f0 k := fun k h1 h2 => hk k (by have := hw.up k h1; omega)
    refine ⟨hk, fun r hr => ?_⟩
    by_cases e : r = n
    · subst e
      have hfn : f r = headV d x bl w f0 r (rcE d r) := by rw [k1 r (by omega)]; unfold setF; rw [if_pos rfl]
      refine ⟨?_, ?_, ?_, ?_⟩
      · rw [parts_congr hkid]; omega
      · rw [parts_congr hkid]
        cases hc : (reachV (rcE d r) (loS (partsL d x bl w f0 r))).2 with
        | true => rfl
        | false => exact absurd (.inl hc) h2
      · rw [headV_congr hkid]; exact hfn
      · rw [hfn]; omega
    · exact k2 r (by omega)
theorem fill_fits (hw : WavOk d x bl w) (hR : 0 < d.reaches.length) (hf : ∀ r, r < d.reaches.length → FOK d x bl w f r) : ∀ n, n ≤ d.reaches.length →
    (∀ a, (∀ r, r < n → ∀ p ∈ partsL d x bl w f r, p.2 ≠ a) → fillT d x bl w f n a = T0 f a) ∧
    ∀ r, r < n → (∀ p ∈ partsL d x bl w f r, p.1.lo ≤ fillT d x bl w f n p.2 ∧ fillT d x bl w f n p.2 ≤ p.1.hi) ∧ sumT (fillT d x bl w f n) (partsL d x bl w f r) = fillA d x bl w f r ∧ fillT d x bl w f n (.head r) = fillT d x bl w f r (.head r) ∧
      ((f r).lo ≤ fillT d x bl w f r (.head r) ∧ fillT d x bl w f r (.head r) ≤ (f r).hi)
  | 0, _ => ⟨fun a _ => rfl, fun r hr => by omega⟩
  | n + 1, hn => by
    obtain ⟨i1, i2⟩ := fill_fits hw hR hf n (by omega)
    have hnR : n < d.reaches.length := by omega
    have kid : ∀ r, r < d.reaches.length → ∀ k, k < d.reaches.length → (rcE d k).up = (r : Int) → 0 ≤ (f k).lo ∧ (f k).lo ≤ (f k).hi := fun r hr k h1 h2 => by
      have h := hf k h1
      refine ⟨?_, h.le⟩
      rw [h.eq]
      have := (rgOk_iff.1 (meter_ok hw.bl (kd := 1) (ix := k) (hw.heads k h1))).1
      show 0 ≤ max _ _
      omega
    have rng : ∀ r, r < d.reaches.length → ∀ p ∈ partsL d x bl w f r, p.1.lo ≤ p.1.hi := by
      intro r hr p hp
      rcases mem_parts.1 hp with rfl | ⟨k, h1, h2, rfl⟩ | ⟨k, h1, h2, rfl⟩ | ⟨i, h1, h2, h3, rfl⟩
      · exact (rgOk_iff.1 (meter_ok hw.bl (hw.tails r hr))).2.1
      · exact (kid r hr k h1 h2).2
      · exact (rgOk_iff.1 (meter_ok hw.bl (hw.outlets k h1))).2.1
      · exact (rgOk_iff.1 (meter_ok hw.bl g0_ok)).2.1
    -- the head of the reach n stands already
    have hhead : (f n).lo ≤ fillT d x bl w f n (.head n) ∧ fillT d x bl w f n (.head n) ≤ (f n).hi := by
      by_cases e : n = 0
      · subst e
        show (f 0).lo ≤ T0 f (.head 0) ∧ T0 f (.head 0) ≤ (f 0).hi
        unfold T0
        rw [if_pos rfl]
        exact ⟨Int.le_refl _, (hf 0 hR).le⟩
      · have h0 := hw.up0 n (by omega) hnR
        have h1 := hw.up n hnR
        obtain ⟨q, hq⟩ : ∃ q : Nat, (rcE d n).up = (q : Int) := ⟨(rcE d n).up.toNat, by omega⟩
        exact (i2 q (by omega)).1 (f n, .head n) (mem_parts.2 (.inr (.inl ⟨n, hnR, hq, rfl⟩)))
    have hfn := hf n hnR
    have own := rgOk_iff.1 (meter_ok hw.bl (kd := 1) (ix := n) (hw.heads n hnR))
    have hlo : (f n).lo = max (reachV (rcE d n) (loS (partsL d x bl w f n))).1 (meterV bl 1 n (w.heads.getD n g0)).lo := by rw [hfn.eq]; rfl
    have hhi : (f n).hi = min (mostV (rcE d n) (min 1073741824 (hiS (partsL d x bl w f n)))) (meterV bl 1 n (w.heads.getD n g0)).hi := by rw [hfn.eq]; rfl
    have s0 : 0 ≤ loS (partsL d x bl w f n) := sum_pos (lo_pos hw (fun k h1 h2 => (kid n hnR k h1 h2).1) hnR)
    have s1 : loS (partsL d x bl w f n) ≤ hiS (partsL d x bl w f n) := sum_le_map (rng n hnR)
    have hle := hfn.lo
    have hl := hw.loss n hnR
    have e2 : lErr (rcE d n) (min 1073741824 (hiS (partsL d x bl w f n))) = 0 := lErr_ok.2 ⟨hl, by omega, by omega⟩
    have hcap : arrW (rcE d n) (fillT d x bl w f n (.head n)) ≤ hiS (partsL d x bl w f n) := by
      have f2 := lvW_first (w := min 1073741824 (hiS (partsL d x bl w f n)) + 1) hl
      have hm : fillT d x bl w f n (.head n) ≤ mostV (rcE d n) (min 1073741824 (hiS (partsL d x bl w f n))) := by omega
      unfold mostV at hm
      rw [if_neg (by simp [e2])] at hm
      have := f2.no (fillT d x bl w f n (.head n)) (by omega) (by omega)
      simp only [decide_eq_false_iff_not] at this
      omega
    obtain ⟨a, ha⟩ : ∃ a, a = fillA d x bl w f n := ⟨_, rfl⟩
    have ha' : a = max (loS (partsL d x bl w f n)) (arrW (rcE d n) (fillT d x bl w f n (.head n))) := ha
    obtain ⟨k1, k2⟩ := dist_ok (l := partsL d x bl w f n) (left := a - loS (partsL d x bl w f n)) (rng n hnR) (by omega) (by omega)
    have hst : fillT d x bl w f (n + 1) = putL (fillT d x bl w f n) (distL (a - loS (partsL d x bl w f n)) (partsL d x bl w f n)) := by rw [ha]; rfl
    have nd : ((distL (a - loS (partsL d x bl w f n)) (partsL d x bl w f n)).map (·.1)).Nodup := by rw [dist_fst]; exact parts_nodup
    have keep : ∀ b, owner d x b ≠ (n : Int) → fillT d x bl w f (n + 1) b = fillT d x bl w f n b := fun b hb => by
      rw [hst, put_not]
      rw [dist_fst]
      intro hm
      obtain ⟨p, hp, rfl⟩ := List.mem_map.1 hm
      exact hb (parts_own p hp)
    have hown : owner d x (.head n) ≠ (n : Int) := by
      have := hw.up n hnR
      show (rcE d n).up ≠ _
      omega
    refine ⟨fun b hb => ?_, fun r hr => ?_⟩
    · rw [hst, put_not, i1 b fun r hr => hb r (by omega)]
      rw [dist_fst]
      intro hm
      obtain ⟨p, hp, rfl⟩ := List.mem_map.1 hm
      exact hb n (by omega) p hp rfl
    · by_cases e : r = n
      · subst e
        refine ⟨fun p hp => ?_, ?_, keep _ hown, hhead⟩
        · obtain ⟨j, hj⟩ := List.getElem?_of_mem hp
          obtain ⟨v, hv, hv2⟩ := k2 j p hj
          rw [hst, put_mem nd (List.mem_of_getElem? hv)]
          exact hv2
        · unfold sumT
          rw [show (fun p : Rg × Dst => fillT d x bl w f (r + 1) p.2) = (fillT d x bl w f (r + 1)) ∘ (·.2) from rfl, ← List.map_map, ← dist_fst (left := a - loS (partsL d x bl w f r)), List.map_map, ← ha]
          have : (distL (a - loS (partsL d x bl w f r)) (partsL d x bl w f r)).map ((fillT d x bl w f (r + 1)) ∘ (·.1)) = (distL (a - loS (partsL d x bl w f r)) (partsL d x bl w f r)).map (·.2) :=
            List.map_congr_left fun q hq => by
              show fillT d x bl w f (r + 1) q.1 = q.2
              rw [hst]; exact put_mem nd hq
          rw [this, k1]; omega
      · have hr' : r < n := by omega
        obtain ⟨j1, j2, j3, j4⟩ := i2 r hr'
        have kp : ∀ p ∈ partsL d x bl w f r, fillT d x bl w f (n + 1) p.2 = fillT d x bl w f n p.2 := fun p hp => keep _ (by rw [parts_own p hp]; omega)
        refine ⟨fun p hp => by rw [kp p hp]; exact j1 p hp, ?_, ?_, j4⟩
        · rw [← j2]
          unfold sumT
          exact congrArg List.sum (List.map_congr_left fun p hp => kp p hp)
        · rw [← j3]
          refine keep _ ?_
          have := hw.up r (by omega)
          show (rcE d r).up ≠ _
          omega
theorem filled (hw : WavOk d x bl w) (hR : 0 < d.reaches.length) (hf : ∀ r, r < d.reaches.length → FOK d x bl w f r) : FitsT d x bl w (fillT d x bl w f d.reaches.length) (fillA d x bl w f) := by
  obtain ⟨i1, i2⟩ := fill_fits hw hR hf d.reaches.length (Nat.le_refl _)
  have fl : ∀ r, r < d.reaches.length → (f r).lo = max (reachV (rcE d r) (loS (partsL d x bl w f r))).1 (meterV bl 1 r (w.heads.getD r g0)).lo ∧ (f r).hi = min (mostV (rcE d r) (min 1073741824 (hiS (partsL d x bl w f r)))) (meterV bl 1 r (w.heads.getD r g0)).hi := fun r hr => by
    have := (hf r hr).eq
    exact ⟨by rw [this]; rfl, by rw [this]; rfl⟩
  refine ⟨fun r hr => ?_, fun k hk => ?_, fun r hr => ?_, fun i hi => ?_, fun r hr => ?_⟩
  · obtain ⟨-, -, h3, h4⟩ := i2 r hr
    have := fl r hr
    rw [h3]; omega
  · have := hw.farm k hk
    obtain ⟨q, hq⟩ : ∃ q : Nat, (fmE d k).reach = (q : Int) := ⟨(fmE d k).reach.toNat, by omega⟩
    exact (i2 q (by omega)).1 _ (mem_parts.2 (.inr (.inr (.inl ⟨k, hk, hq, rfl⟩))))
  · exact (i2 r hr).1 _ (mem_parts.2 (.inl rfl))
  · by_cases hk : (suE x i).kind = 4
    · rw [if_pos hk, hk]
      have hx := hw.sus i hi hk
      obtain ⟨q, hq⟩ : ∃ q : Nat, (suE x i).index = (q : Int) := ⟨(suE x i).index.toNat, by omega⟩
      have h := (i2 q (by omega)).1 (meterV bl 4 q g0, .taken i) (mem_parts.2 (.inr (.inr (.inr ⟨i, hi, hk, hq, rfl⟩))))
      rw [hq]
      unfold meterV at h
      cases hb : bl (4, (q : Int)) with
      | none =>
        rw [hb] at h
        have h1 : (0 : Int) ≤ fillT d x bl w f d.reaches.length (.taken i) := h.1
        have h2 : fillT d x bl w f d.reaches.length (.taken i) ≤ (0 : Int) := h.2
        exact ⟨h1, h2⟩
      | some n =>
        have := hw.bl _ n hb
        rw [hb] at h
        have h1 : (0 : Int) ≤ fillT d x bl w f d.reaches.length (.taken i) := h.1
        have h2 : fillT d x bl w f d.reaches.length (.taken i) ≤ max n 0 := h.2
        exact ⟨h1, by show _ ≤ n; omega⟩
    · rw [if_neg hk, i1 (.taken i) fun r _ p hp e => ?_]
      · unfold T0; rw [if_neg (by simp)]; omega
      · rcases mem_parts.1 hp with rfl | ⟨k, h1, h2, rfl⟩ | ⟨k, h1, h2, rfl⟩ | ⟨j, h1, h2, h3, rfl⟩
        · cases e
        · cases e
        · cases e
        · injection e with e; subst e; exact hk h2
  · obtain ⟨-, h2, h3, h4⟩ := i2 r hr
    have own := rgOk_iff.1 (meter_ok hw.bl (kd := 1) (ix := r) (hw.heads r hr))
    have hl := hw.loss r hr
    have hfr := hf r hr
    have := fl r hr
    have s0 : 0 ≤ loS (partsL d x bl w f r) := sum_pos (lo_pos hw (fun k h1 h2 => by
      rw [(hf k h1).eq]
      have := (rgOk_iff.1 (meter_ok hw.bl (kd := 1) (ix := k) (hw.heads k h1))).1
      show 0 ≤ max _ _
      omega) hr)
    have hle := hfr.lo
    have e1 : lErr (rcE d r) (loS (partsL d x bl w f r)) = 0 := lErr_ok.2 ⟨hl, by omega, by omega⟩
    have hcan := hfr.can
    have hal := arr_le hl (v := fillT d x bl w f r (.head r)) (by omega)
    have hA : fillA d x bl w f r = max (loS (partsL d x bl w f r)) (arrW (rcE d r) (fillT d x bl w f r (.head r))) := rfl
    refine ⟨by rw [sumT_parts (g := f), h2], ?_, ?_⟩
    · rw [h3]; omega
    · rw [h3]
      have f1 := lvB_first (w := loS (partsL d x bl w f r)) hl
      unfold reachV at hcan this
      rw [if_neg (by simp [e1])] at hcan this
      by_cases hc : lvB (rcE d r) (loS (partsL d x bl w f r)) > 1073741824
      · rw [if_pos hc] at hcan; cases hcan
      · rw [if_neg hc] at this
        have hy := f1.yes (by omega)
        rw [decide_eq_true_eq] at hy
        have := arrB_mono hl f1.le (show lvB (rcE d r) (loS (partsL d x bl w f r)) ≤ fillT d x bl w f r (.head r) by omega)
        omega
end
end Go.Proofs.YtcpdhclnmjfldaaGreat

/- Contracts of sort.Search, losses.least, losses.Reachable, losses.Most. -/
namespace Go.Proofs.YtcpdhclnmjfldaaGreat
open Go Go.RowKit

section
variable {D : Nat → Prop} {w : World}
/-- sort.Search with a function that answers p, and leaves alone what was there. -/
theorem c_Search {n : Nat} {p : Int → Bool} {fn : FuncId} {cap : Array Value} [he : Enters Tryz.prog fn] (hn : n ≤ 4611686018427387904) (hm : ∀ v v' : Int, 0 ≤ v → v ≤ v' → v' ≤ n → p v = true → p v' = true)
    (hc : ∀ (v : Int) (w' : World), 0 ≤ v → v < n → Ext w w' → CallZ Tryz.prog fn ([iv v] ++ cap.toList).toArray w' (fun u w'' => u = .bool (p v) ∧ Ext w' w'')) :
    CallZ Tryz.prog 133 #[iv (n : Int), .func (.func fn) #[] cap] w (fun v w' => ∃ k : Int, v = iv k ∧ First p 0 n k ∧ Ext w w') := by
  refine fn_rule (args := [iv (n : Int), .func (.func fn) #[] cap]) Tryz.func133 (by kernel_rfl) ?_
  refine loop2 (fun (lo hi : Int) => [(5, iv lo), (6, iv hi)]) (fun lo hi w' => Half p 0 n lo hi ∧ Ext w w') (fun lo hi _ => (hi - lo).toNat) 0 (n : Int) ⟨rfl, rfl, trivial⟩ ⟨Half.start (by omega), .refl _ _⟩ rfl ?_
  rintro G lo hi w' ⟨h, xw⟩
  have h1 := h.a_lo
  have h2 := h.lo_hi
  have h3 := h.hi_b
  refine cD (fun hlt => ?_) (fun hge => ?_)
  · refine arI (by omega) ?_
    obtain ⟨s, hs⟩ : ∃ s : Nat, lo + hi = (s : Int) := ⟨(lo + hi).toNat, by omega⟩
    refine convU (n := s) (by omega) (by omega) ?_
    refine shrR (by decide) ?_
    refine conv (k := .i64) ?_
    have e : IntKind.i64.wrap (((s : Int)).fdiv (2 ^ (min (1 : Int).toNat IntKind.u64.bits))) = (lo + hi) / 2 := by
      rw [show (2 : Int) ^ (min (1 : Int).toNat IntKind.u64.bits) = 2 by decide, Int.fdiv_eq_ediv_of_nonneg _ (by omega), i64_wrap_id (by omega), hs]
    rw [e]
    obtain ⟨m, hmm⟩ : ∃ m, m = (lo + hi) / 2 := ⟨_, rfl⟩
    rw [← hmm]
    refine callE (hc m w' (by omega) (by omega) xw) (fun w2 hp x2 => ?_) (fun w2 hp x2 => ?_)
    · exact next2 lo m ⟨rfl, rfl, trivial⟩ ⟨h.left (by omega) (by omega) hp, xw.trans x2⟩ (by omega)
    · refine arI (by omega) ?_
      exact next2 (m + 1) hi ⟨rfl, rfl, trivial⟩ ⟨h.right hm (by omega) (by omega) hp, xw.trans x2⟩ (by omega)
  · exact ret1 (iv lo) rfl ⟨lo, rfl, h.done (by omega), xw⟩
/-- A function that a closure holds, which answers g and leaves alone what was there. -/
def Fun1 (fn : FuncId) (cap : Array Value) (w : World) (g : Int → Int) : Prop := ∀ (v : Int) (w' : World), 0 ≤ v → v ≤ 1073741824 → Ext w w' → CallZ Tryz.prog fn ([iv v] ++ cap.toList).toArray w' (fun u w'' => u = iv (g v) ∧ Ext w' w'')
theorem c_lleast1 {fn : FuncId} {cap : Array Value} [he : Enters Tryz.prog fn] {g : Int → Int} {ba bw : Nat} {t : TypeId} {w0 : World} {v x : Int} (hc : Fun1 fn cap w0 g) (hx : Ext w0 w) (hv : 0 ≤ v ∧ v ≤ 1073741824)
    (h1 : Blk w ba t [.func (.func fn) #[] cap]) (h2 : Blk w bw 3 [iv x]) : CallZ Tryz.prog 134 #[iv v, ptr ba, ptr bw] w (fun u w' => u = .bool (decide (g v > x)) ∧ Ext w w') := by
  refine fn_rule (args := [iv v, ptr ba, ptr bw]) Tryz.func134 (by kernel_rfl) ?_
  refine drawK (fun _ => True) [0, 1, 3, 2, 4, 5] [2] mx (by kernel_rfl) ?_
  refine ldK (.func (.func fn) #[] cap) (h1.cell rfl) trivial (.refl _ _) ?_
  refine ldK (iv x) (h2.cell rfl) trivial (.refl _ _) ?_
  refine call_of (hc v w hv.1 hv.2 hx) ?_
  rintro _ w2 ⟨rfl, x2⟩
  refine strK x2 ?_
  refine cD (fun q => ?_) (fun q => ?_)
  · exact ret1 (.bool true) rfl ⟨by rw [decide_eq_true q], x2⟩
  · exact ret1 (.bool false) rfl ⟨by rw [decide_eq_false q], x2⟩
theorem c_lleast {fn : FuncId} {cap : Array Value} [he : Enters Tryz.prog fn] {g : Int → Int} {x : Int} (hc : Fun1 fn cap w g) (hm : ∀ v v', 0 ≤ v → v ≤ v' → g v ≤ g v') :
    CallZ Tryz.prog 109 #[iv x, .func (.func fn) #[] cap] w (fun u w' => ∃ k : Int, u = iv k ∧ First (fun v => decide (g v > x)) 0 1073741825 k ∧ Ext w w') := by
  refine fn_rule (args := [iv x, .func (.func fn) #[] cap]) Tryz.func109 (by kernel_rfl) ?_
  refine box (fun bw w1 h1 => ?_)
  refine box (fun ba w2 h2 => ?_)
  have x2 := h1.ext.trans h2.ext
  refine call_of (c_Search (fn := 134) (cap := #[ptr ba, ptr bw]) (n := 1073741825) (p := fun v => decide (g v > x)) (by omega) (fun v v' h0 h1 _ h => by rw [decide_eq_true_eq] at h ⊢; have := hm v v' h0 h1; omega)
    (fun v w' hv0 hv1 xw => c_lleast1 hc (x2.trans xw) ⟨hv0, by omega⟩ (h2.blk.ext xw) ((h1.blk.ext h2.ext).ext xw))) ?_
  rintro _ w3 ⟨k, rfl, hk, x3⟩
  exact ret1 (iv k) rfl ⟨k, rfl, hk, x2.trans x3⟩
theorem c_lReach1 {r : Reach} {b : Nat} {t : TypeId} {v : Int} (hok : lossOk r = true) (hv : 0 ≤ v ∧ v ≤ 1073741824) (hb : Blk w b t r.c) : CallZ Tryz.prog 110 #[iv v, ptr b] w (fun u w' => u = iv (arrB r v) ∧ Ext w w') := by
  refine fn_rule (args := [iv v, ptr b]) Tryz.func110 (by kernel_rfl) ?_
  refine ldA _ (.blk hb) rfl ?_
  refine call_of (c_llost hok hv) ?_
  rintro _ w2 ⟨rfl, x2⟩
  have h := lost_le hok hv
  refine fldV (cs := [iv (lostR r v).lo, iv (lostR r v).hi]) (iv (lostR r v).lo) rfl ?_
  refine arI (by omega) ?_
  exact ret1 (iv (v - (lostR r v).lo)) rfl ⟨rfl, x2⟩
theorem c_lMost1 {r : Reach} {b : Nat} {t : TypeId} {v : Int} (hok : lossOk r = true) (hv : 0 ≤ v ∧ v ≤ 1073741824) (hb : Blk w b t r.c) : CallZ Tryz.prog 111 #[iv v, ptr b] w (fun u w' => u = iv (arrW r v) ∧ Ext w w') := by
  refine fn_rule (args := [iv v, ptr b]) Tryz.func111 (by kernel_rfl) ?_
  refine ldA _ (.blk hb) rfl ?_
  refine call_of (c_llost hok hv) ?_
  rintro _ w2 ⟨rfl, x2⟩
  have h := lost_le hok hv
  refine fldV (cs := [iv (lostR r v).lo, iv (lostR r v).hi]) (iv (lostR r v).hi) rfl ?_
  refine arI (by omega) ?_
  exact ret1 (iv (v - (lostR r v).hi)) rfl ⟨rfl, x2⟩
theorem c_lReach {r : Reach} {x : Int} : CallZ Tryz.prog 80 #[r.v, iv x] w (fun u w' => u = .tuple #[iv (reachV r x).1, .bool (reachV r x).2, iv (lErr r x)] ∧ Ext w w') := by
  refine fn_rule (args := [.agg #[.string r.name, iv r.up, iv r.delay, iv r.cap, iv r.bank, iv r.siphon, iv r.evap.lo, iv r.evap.hi, iv r.s0.n, iv r.s0.d, iv r.s1.n, iv r.s1.d], iv x]) Tryz.func80 (by kernel_rfl) ?_
  refine box (fun b w1 h1 => ?_)
  refine ldA r.c (.blk h1.blk) rfl ?_
  refine call_of c_lvalid ?_
  rintro _ w2 ⟨rfl, x2⟩
  refine cN (fun he => ?_) (fun he => ?_)
  · exact ret3 (iv 0) (.bool false) (iv (lErr r x)) rfl rfl rfl ⟨by unfold reachV; rw [if_pos he], h1.ext.trans x2⟩
  have he : lErr r x = 0 := he
  obtain ⟨hok, hx⟩ := lErr_ok.1 he
  refine arI (by omega) ?_
  refine call_of (c_lleast (fn := 110) (cap := #[ptr b]) (g := arrB r) (x := x - 1) (fun v w' h0 h2 xw => c_lReach1 hok ⟨h0, h2⟩ ((h1.blk.ext x2).ext xw)) (fun v v' h0 h => arrB_mono hok h0 h)) ?_
  rintro _ w3 ⟨k, rfl, hk, x3⟩
  have e : (fun v => decide (arrB r v > x - 1)) = fun v => decide (x ≤ arrB r v) := funext fun v => decide_eq_decide.2 ⟨fun h => by omega, fun h => by omega⟩
  rw [e] at hk
  obtain rfl := hk.uniq (lvB_first hok)
  have xx := (h1.ext.trans x2).trans x3
  refine cD (fun q => ?_) (fun q => ?_)
  · exact ret3 (iv 0) (.bool false) (iv 0) rfl rfl rfl ⟨by unfold reachV; rw [if_neg (by simp [he]), if_pos q, he], xx⟩
  · exact ret3 (iv (lvB r x)) (.bool true) (iv 0) rfl rfl rfl ⟨by unfold reachV; rw [if_neg (by simp [he]), if_neg q, he], xx⟩
theorem c_lMost {r : Reach} {x : Int} : CallZ Tryz.prog 81 #[r.v, iv x] w (fun u w' => u = .tuple #[iv (mostV r x), iv (lErr r x)] ∧ Ext w w') := by
  refine fn_rule (args := [.agg #[.string r.name, iv r.up, iv r.delay, iv r.cap, iv r.bank, iv r.siphon, iv r.evap.lo, iv r.evap.hi, iv r.s0.n, iv r.s0.d, iv r.s1.n, iv r.s1.d], iv x]) Tryz.func81 (by kernel_rfl) ?_
  refine box (fun b w1 h1 => ?_)
  refine ldA r.c (.blk h1.blk) rfl ?_
  refine call_of c_lvalid ?_
  rintro _ w2 ⟨rfl, x2⟩
  refine cN (fun he => ?_) (fun he => ?_)
  · exact ret2 (iv 0) (iv (lErr r x)) rfl rfl ⟨by unfold mostV; rw [if_pos he], h1.ext.trans x2⟩
  have he : lErr r x = 0 := he
  obtain ⟨hok, hx⟩ := lErr_ok.1 he
  refine call_of (c_lleast (fn := 111) (cap := #[ptr b]) (g := arrW r) (x := x) (fun v w' h0 h2 xw => c_lMost1 hok ⟨h0, h2⟩ ((h1.blk.ext x2).ext xw)) (fun v v' h0 h => arrW_mono hok h0 h)) ?_
  rintro _ w3 ⟨k, rfl, hk, x3⟩
  have e : (fun v => decide (arrW r v > x)) = fun v => decide (x + 1 ≤ arrW r v) := funext fun v => decide_eq_decide.2 ⟨fun h => by omega, fun h => by omega⟩
  rw [e] at hk
  obtain rfl := hk.uniq (lvW_first hok)
  have xx := (h1.ext.trans x2).trans x3
  have := hk.le
  have := hk.ge
  refine arI (by omega) ?_
  exact ret2 (iv (lvW r (x + 1) - 1)) (iv 0) rfl rfl ⟨by unfold mostV; rw [if_neg (by simp [he]), he], xx⟩
end
end Go.Proofs.YtcpdhclnmjfldaaGreat

/- Layer 48: contracts of right, Check. -/
namespace Go.Proofs.YtcpdhclnmjfldaaGreat
open Go Go.RowKit

section
variable {D : Nat → Prop} {w : World} {A : Option Addr} {n c : Nat}
theorem c_eright481 {y : Rg} : CallZ Tryz.prog 103 #[.agg y.c.toArray] w (fun v w' => v = .bool (!rgOk y 1073741824) ∧ Ext w w') := by
  refine fn_rule (args := [.agg #[iv y.lo, iv y.hi]]) Tryz.func103 (by kernel_rfl) ?_
  refine box (fun g w1 h1 => ?_)
  have b1 : Blk w1 g _ [iv y.lo, iv y.hi] := h1.blk
  have no : ¬ (0 ≤ y.lo ∧ y.lo ≤ y.hi ∧ y.hi ≤ 1073741824) → Value.bool true = .bool (!rgOk y 1073741824) := fun h => by
    cases hr : rgOk y 1073741824 with
    | false => rfl
    | true => exact absurd (rgOk_iff.1 hr) h
  refine fldA ?_
  refine ld (iv y.lo) (b1.cell rfl) ?_
  refine cD (fun q => ?_) (fun q1 => ?_)
  · exact ret1 (.bool true) rfl ⟨no fun h => by omega, h1.ext⟩
  refine fldA ?_
  refine ld (iv y.lo) (b1.cell rfl) ?_
  refine fldA ?_
  refine ld (iv y.hi) (b1.cell rfl) ?_
  refine cD (fun q => ?_) (fun q2 => ?_)
  · exact ret1 (.bool true) rfl ⟨no fun h => by omega, h1.ext⟩
  refine fldA ?_
  refine ld (iv y.hi) (b1.cell rfl) ?_
  refine cD (fun q => ?_) (fun q3 => ?_)
  · exact ret1 (.bool true) rfl ⟨no fun h => by omega, h1.ext⟩
  · exact ret1 (.bool false) rfl ⟨by rw [rgOk_iff.2 (by omega)]; rfl, h1.ext⟩
abbrev rgP (y : Rg) : Bool := rgOk y 1073741824
theorem c_indRg {xs : List Rg} (h : SlR tRg D w A n xs) : CallZ Tryz.prog 127 #[.slice A n c, .func (.func 103) #[] #[]] w (fun v w' => (∃ i : Int, v = iv i ∧ (0 ≤ i ↔ xs.all rgP = false)) ∧ Ext w w') := by
  refine fn_rule (args := [.slice A n c, .func (.func 103) #[] #[]]) Tryz.func127 (by kernel_rfl) ?_
  refine len ?_
  refine loop_rule (fun k : Nat => [(8, iv (k : Int))]) (fun k w' => k ≤ n ∧ Ext w w' ∧ xs.all rgP = (xs.drop k).all rgP) (fun k _ => n - k) 0 ⟨rfl, trivial⟩ ⟨by omega, .refl _ _, rfl⟩ rfl ?_
  rintro G k w' ⟨hk, xw, he⟩
  refine cD (fun hlt => ?_) (fun hge => ?_)
  · obtain ⟨b, o, cs, x, rfl, hx, hdx, -, hc, rfl⟩ := (h.ext xw).at_ (show k < n by omega)
    rw [hdx, List.all_cons] at he
    refine idx k rfl (by omega) ?_
    refine ldA x.c hc rfl ?_
    refine callE (c_eright481 (y := x)) (fun w2 g x2 => ?_) (fun w2 g x2 => ?_)
    · refine ret1 (iv (k : Int)) rfl ⟨⟨k, rfl, ?_⟩, xw.trans x2⟩
      simp only [Bool.not_eq_true'] at g
      rw [he, show rgP x = false from g]; simp
    · simp only [Bool.not_eq_false'] at g
      refine arI (by have := h.le; omega) ?_
      refine next (k + 1) ⟨by rw [Int.natCast_add]; rfl, trivial⟩ ⟨by omega, xw.trans x2, ?_⟩ (by omega)
      rw [he, show rgP x = true from g]; rfl
  · refine ret1 (iv (-1)) rfl ⟨⟨-1, rfl, ?_⟩, xw⟩
    rw [he, List.drop_eq_nil_of_le (by have := h.len; omega)]; simp
theorem c_contRg {xs : List Rg} (h : SlR tRg D w A n xs) : CallZ Tryz.prog 102 #[.slice A n c, .func (.func 103) #[] #[]] w (fun v w' => v = .bool (!xs.all rgP) ∧ Ext w w') := by
  refine fn_rule (args := [.slice A n c, .func (.func 103) #[] #[]]) Tryz.func102 (by kernel_rfl) ?_
  refine call_of (c_indRg h) ?_
  rintro _ w' ⟨⟨i, rfl, hi⟩, xw⟩
  refine cD (fun g => ?_) (fun g => ?_)
  · exact ret1 (.bool true) rfl ⟨by rw [hi.1 g]; rfl, xw⟩
  · exact ret1 (.bool false) rfl ⟨by rw [show xs.all rgP = true from by cases ha : xs.all rgP with | true => rfl | false => exact absurd (hi.2 ha) g]; rfl, xw⟩
theorem c_right48 {xs : List Rg} {m : Nat} {k : Int} (h : SlR tRg D w A n xs) (hk : k = (m : Int)) : CallZ Tryz.prog 71 #[.slice A n c, iv k] w (fun v w' => v = .bool (rgsB m xs) ∧ Ext w w') := by
  subst hk
  refine fn_rule (args := [.slice A n c, iv (m : Int)]) Tryz.func71 (by kernel_rfl) ?_
  have hl := h.len
  refine len ?_
  refine cD (fun g1 => ?_) (fun g1 => ?_)
  · refine callE (c_contRg h) (fun w2 g x2 => ?_) (fun w2 g x2 => ?_)
    · simp only [Bool.not_eq_true'] at g
      exact ret1 (.bool false) rfl ⟨by unfold rgsB; rw [decide_eq_true (by omega), Bool.true_and]; exact congrArg Value.bool g.symm, x2⟩
    · simp only [Bool.not_eq_false'] at g
      exact ret1 (.bool true) rfl ⟨by unfold rgsB; rw [decide_eq_true (by omega), Bool.true_and]; exact congrArg Value.bool g.symm, x2⟩
  · exact ret1 (.bool false) rfl ⟨by unfold rgsB; rw [decide_eq_false (by omega), Bool.false_and], .refl _ _⟩

/-! ### Check -/
/-- An evidence's cells. -/
structure EvR (D : Nat → Prop) (w : World) (cs : List Value) (x : Ev) : Prop where
  of_ ::
  ex : ∃ W1 n1 c1 S1 n2 c2, cs = [.slice W1 n1 c1, .slice S1 n2 c2] ∧ SlR tWv D w W1 n1 x.waves ∧ SlR tSu D w S1 n2 x.suspects ∧ n1 ≤ c1 ∧ n2 ≤ c2
theorem EvR.keep {w w' : World} {cs : List Value} {d : Ev} (hk : ∀ b, b < w.heap.size → D b → w'.heap[b]? = w.heap[b]?) (h : EvR D w cs d) : EvR D w' cs d := by
  obtain ⟨A1, n1, c1, A2, n2, c2, h, h1, h2, h3⟩ := h.ex
  exact ⟨A1, n1, c1, A2, n2, c2, h, h1.keep hk, h2.keep hk, h3⟩
theorem EvR.more {D' : Nat → Prop} {w : World} {cs : List Value} {d : Ev} (hk : ∀ b, b < w.heap.size → D b → D' b) (h : EvR D w cs d) : EvR D' w cs d := by
  obtain ⟨A1, n1, c1, A2, n2, c2, h, h1, h2, h3⟩ := h.ex
  exact ⟨A1, n1, c1, A2, n2, c2, h, h1.more (by decide) hk, h2.more (by decide) hk, h3⟩
theorem EvR.kept {D' : Nat → Prop} {w w' : World} {cs : List Value} {d : Ev} (h : EvR D w cs d) (k : Kept D' w w') (hd : ∀ b, b < w.heap.size → D b → D' b) : EvR D w' cs d := h.keep fun b hb hD => k.blk b hb (hd b hb hD)
theorem EvR.ext {w w' : World} {cs : List Value} {d : Ev} (h : EvR D w cs d) (k : Ext w w') : EvR D w' cs d := h.kept k fun _ _ _ => trivial
theorem fset_many {R F : Int} (k : Int) : ((fset (fset (fset (fset (fun _ => none) 1 (iv R)) 2 (iv F)) 3 (iv R)) 4 (iv R)) k).getD (iv 0) = iv (if k = 1 ∨ k = 3 ∨ k = 4 then R else if k = 2 then F else 0) := by
  unfold fset
  by_cases h4 : k = 4
  · subst h4; rfl
  by_cases h3 : k = 3
  · subst h3; rfl
  by_cases h2 : k = 2
  · subst h2; rfl
  by_cases h1 : k = 1
  · subst h1; rfl
  rw [if_neg h4, if_neg h3, if_neg h2, if_neg h1, if_neg (by omega), if_neg h2]; rfl
end
end Go.Proofs.YtcpdhclnmjfldaaGreat
