/- Parts of the proof: F8 F9 Za. -/
import Derived.Test.YtffdjecdcbbfaaaGreatM11
import Derived.Test.YtffdjecdcbbfaaaGreatM10
import Derived.Test.YtffdjecdcbbfaaaGreatM7
import Derived.Test.YtffdjecdcbbfaaaGreatRows
import Derived.Stop.LaidErr

/- Layer 48's reference: Fits, Accepts, Members, Table. -/
namespace Go.Proofs.YtffdjecdcbbfaaaGreat
open Go Go.RowKit

section
variable {D : Nat → Prop} {w : World}
set_option maxRecDepth 8000 in
theorem c_r48Fits {csd csx cw ct : List Value} {d : Dist} {x : Ev} {set : List Int} {v : Wv} {t : Tru} {A : Option Addr} {n c : Nat} (hd : DiR D w csd d) (hx : EvR D w csx x) (hset : SlR tInt D w A n set) (hv : tWv.rep D w cw v) (ht : tTru.rep D w ct t) (he : askErr d x set = 0) (hmem : v ∈ x.waves) :
    CallZ Tryz.prog 38 #[.agg csd.toArray, .agg csx.toArray, .slice A n c, .agg cw.toArray, .agg ct.toArray] w (fun u w' => u = .bool (fitsB d x (blF x set) v t) ∧ Ext w w') := by
  obtain ⟨A1, n1, c1, A2, n2, c2, A3, n3, c3, A4, n4, c4, A5, n5, c5, A6, n6, c6, rfl, hre, hfa, -⟩ := hd.ex
  obtain ⟨W1, m1, e1, S1, m2, e2, rfl, -, hsu, -⟩ := hx.ex
  obtain ⟨H1, h1, k1, O1, o1, k2, T1, t1, k3, rfl, -, p1', p2', p3'⟩ := wv_open hv
  obtain ⟨P1, p1, r1, P2, p2, r2, P3, p3, r3, P4, p4, r4, P5, p5, r5, rfl, q1, q2, q3, q4, q5⟩ := tru_open ht
  obtain ⟨hev, hsB⟩ := askErr_ok.1 he
  obtain ⟨⟨hR64, hR0⟩, hF600, hS12⟩ := ev_sizes hev
  obtain ⟨hw, lh, lo, lt⟩ := wavOk_of he hmem
  have hb := hw.bl
  have lr := hre.len
  have lf := hfa.len
  have ls := hsu.len
  have kk1 := q1.len
  have kk2 := q2.len
  have kk3 := q3.len
  have kk4 := q4.len
  have kk5 := q5.len
  have no : ¬ FitsL d x (blF x set) v t → Value.bool false = .bool (fitsB d x (blF x set) v t) := fun h => by
    cases hb : fitsB d x (blF x set) v t with
    | false => rfl
    | true => exact absurd (fitsB_iff.1 hb) h
  refine fn_rule (args := [.agg #[.string d.name, iv d.hours, iv d.cap, iv d.start, .slice A1 n1 c1, .slice A2 n2 c2, .slice A3 n3 c3, .slice A4 n4 c4, .slice A5 n5 c5, .slice A6 n6 c6], .agg #[.slice W1 m1 e1, .slice S1 m2 e2], .slice A n c, .agg #[iv v.hour, .slice H1 h1 k1, .slice O1 o1 k2, .slice T1 t1 k3], .agg #[.slice P1 p1 r1, .slice P2 p2 r2, .slice P3 p3 r3, .slice P4 p4 r4, .slice P5 p5 r5]]) Tryz.func38 (by kernel_rfl) ?_
  refine box (fun bd w1 i1 => ?_)
  refine box (fun bx w2 i2 => ?_)
  refine box (fun bw w3 i3 => ?_)
  refine box (fun bt w4 i4 => ?_)
  have x4 := ((i1.ext.trans i2.ext).trans i3.ext).trans i4.ext
  have Bd : Blk w4 bd 31 [.string d.name, iv d.hours, iv d.cap, iv d.start, .slice A1 n1 c1, .slice A2 n2 c2, .slice A3 n3 c3, .slice A4 n4 c4, .slice A5 n5 c5, .slice A6 n6 c6] := ((i1.blk.ext i2.ext).ext i3.ext).ext i4.ext
  have Bx : Blk w4 bx 35 [.slice W1 m1 e1, .slice S1 m2 e2] := (i2.blk.ext i3.ext).ext i4.ext
  have Bw : Blk w4 bw 59 [iv v.hour, .slice H1 h1 k1, .slice O1 o1 k2, .slice T1 t1 k3] := i3.blk.ext i4.ext
  have Bt : Blk w4 bt 61 [.slice P1 p1 r1, .slice P2 p2 r2, .slice P3 p3 r3, .slice P4 p4 r4, .slice P5 p5 r5] := i4.blk
  refine ldA [.slice W1 m1 e1, .slice S1 m2 e2] (.blk Bx) rfl ?_
  refine fldA ?_
  refine ld (.slice P1 p1 r1) (Bt.cell rfl) ?_
  refine fldA ?_
  refine ld (.slice H1 h1 k1) (Bw.cell rfl) ?_
  refine callE (c_r48in (kind := 1) (hx.ext x4) (hset.ext x4) (q1.ext x4) (p1'.ext x4) hsB hb) (fun w5 j1 x5 => ?_) (fun w5 j1 x5 => ?_)
  rotate_left
  · exact ret1 (.bool false) rfl ⟨no fun h => (by rw [h.i1] at j1; cases j1), x4.trans x5⟩
  have x05 := x4.trans x5
  refine ldA [.slice W1 m1 e1, .slice S1 m2 e2] (.blk (Bx.ext x5)) rfl ?_
  refine fldA ?_
  refine ld (.slice P2 p2 r2) ((Bt.ext x5).cell rfl) ?_
  refine fldA ?_
  refine ld (.slice O1 o1 k2) ((Bw.ext x5).cell rfl) ?_
  refine callE (c_r48in (kind := 2) (hx.ext x05) (hset.ext x05) (q2.ext x05) (p2'.ext x05) hsB hb) (fun w6 j2 x6 => ?_) (fun w6 j2 x6 => ?_)
  rotate_left
  · exact ret1 (.bool false) rfl ⟨no fun h => (by rw [h.i2] at j2; cases j2), x05.trans x6⟩
  have x46 := x5.trans x6
  have x06 := x4.trans x46
  refine ldA [.slice W1 m1 e1, .slice S1 m2 e2] (.blk (Bx.ext x46)) rfl ?_
  refine fldA ?_
  refine ld (.slice P3 p3 r3) ((Bt.ext x46).cell rfl) ?_
  refine fldA ?_
  refine ld (.slice T1 t1 k3) ((Bw.ext x46).cell rfl) ?_
  refine callE (c_r48in (kind := 3) (hx.ext x06) (hset.ext x06) (q3.ext x06) (p3'.ext x06) hsB hb) (fun w7 j3 x7 => ?_) (fun w7 j3 x7 => ?_)
  rotate_left
  · exact ret1 (.bool false) rfl ⟨no fun h => (by rw [h.i3] at j3; cases j3), x06.trans x7⟩
  have x47 := x46.trans x7
  have x07 := x4.trans x47
  refine fldA ?_
  refine ld (.slice P4 p4 r4) ((Bt.ext x47).cell rfl) ?_
  refine len ?_
  refine fldA ?_
  refine ld (.slice A1 n1 c1) ((Bd.ext x47).cell rfl) ?_
  refine len ?_
  refine cN (fun g1 => ?_) (fun g1 => ?_)
  · exact ret1 (.bool false) rfl ⟨no fun h => g1 (by have := h.la; omega), x07⟩
  refine fldA ?_
  refine ld (.slice P5 p5 r5) ((Bt.ext x47).cell rfl) ?_
  refine len ?_
  refine fldA ?_
  refine ld (.slice S1 m2 e2) ((Bx.ext x47).cell rfl) ?_
  refine len ?_
  refine cN (fun g2 => ?_) (fun g2 => ?_)
  · exact ret1 (.bool false) rfl ⟨no fun h => g2 (by have := h.lt; omega), x07⟩
  have i1' := inB_iff.1 j1
  have i2' := inB_iff.1 j2
  have i3' := inB_iff.1 j3
  have b1 : ∀ i, i < t.heads.length → 0 ≤ t.heads.getD i 0 ∧ t.heads.getD i 0 ≤ 1073741824 := fun i hi => by
    have h1 := i1'.2 i hi
    have h2 := rgOk_iff.1 (meter_ok hb (kd := 1) (ix := i) (hw.heads i (by omega)))
    omega
  have b2 : ∀ i, i < t.outlets.length → 0 ≤ t.outlets.getD i 0 ∧ t.outlets.getD i 0 ≤ 1073741824 := fun i hi => by
    have h1 := i2'.2 i hi
    have h2 := rgOk_iff.1 (meter_ok hb (kd := 2) (ix := i) (hw.outlets i (by omega)))
    omega
  have b3 : ∀ i, i < t.tails.length → 0 ≤ t.tails.getD i 0 ∧ t.tails.getD i 0 ≤ 1073741824 := fun i hi => by
    have h1 := i3'.2 i hi
    have h2 := rgOk_iff.1 (meter_ok hb (kd := 3) (ix := i) (hw.tails i (by omega)))
    omega
  refine loop_rule (fun k : Nat => [(11, iv (k : Int))]) (fun k u => k ≤ m2 ∧ Ext w7 u ∧ ∀ i, i < k → 0 ≤ t.taken.getD i 0 ∧ t.taken.getD i 0 ≤ mostT x (blF x set) i) (fun k _ => m2 - k) 0 ⟨rfl, trivial⟩ ⟨by omega, .refl _ _, fun i h => by omega⟩ rfl ?_
  rintro G k u ⟨hk, xu, hall⟩
  have x4u := x47.trans xu
  have x0u := x4.trans x4u
  refine fldA ?_
  refine ld (.slice P5 p5 r5) ((Bt.ext x4u).cell rfl) ?_
  refine len ?_
  refine cD (fun hlt => ?_) (fun hge => ?_)
  · have hlt : k < m2 := by omega
    obtain ⟨sb, so, _, s, rfl, hs, -, -, hcs, rfl⟩ := (hsu.ext x0u).at_ hlt
    have es : suE x k = s := by unfold suE; exact getD_at hs
    obtain ⟨ab, ao, _, a, rfl, ha, -, -, hca, rfl, -⟩ := (q5.ext x0u).at_ (k := k) (by omega)
    have ea : t.taken.getD k 0 = a := getD_at ha
    have hmT := most_T (x := x) hb (i := k)
    rw [es] at hmT
    refine fldA ?_
    refine ld (.slice (some (ad sb so)) m2 e2) ((Bx.ext x4u).cell rfl) ?_
    refine idx k rfl hlt ?_
    refine ldA s.c hcs rfl ?_
    refine alloc (fun q u1 a1 => ?_)
    refine stA (vs := s.c) a1.blk rfl (Nat.le_of_ble_eq_true rfl) (by simp [Value.oneCell']) (fun u2 bs kk2' z2 => ?_)
    have bs : Blk u2 q 70 s.c := bs
    have eA := a1.at_
    have y2 : Ext u u2 := a1.ext.then kk2' fun b hb _ e => by omega
    have bad : ∀ {u'}, Ext u u' → ¬ (0 ≤ a ∧ a ≤ mostT x (blF x set) k) → Value.bool false = .bool (fitsB d x (blF x set) v t) ∧ Ext w u' := fun y h => ⟨no fun h2 => h (by have := h2.tk k (by omega); rwa [ea] at this), x0u.trans y⟩
    have go : ∀ {u'}, Ext u u' → (0 ≤ a ∧ a ≤ mostT x (blF x set) k) → (k + 1 ≤ m2 ∧ Ext w7 u' ∧ ∀ i, i < k + 1 → 0 ≤ t.taken.getD i 0 ∧ t.taken.getD i 0 ≤ mostT x (blF x set) i) := fun y h => ⟨by omega, xu.trans y, fun i hi => by
      by_cases e : i = k
      · subst e; rw [ea]; exact h
      · exact hall i (by omega)⟩
    refine fldA ?_
    refine ld (iv s.kind) (bs.cell rfl) ?_
    refine cE (fun g3 => ?_) (fun g3 => ?_)
    · rw [if_pos g3] at hmT
      refine ldA [.slice W1 m1 e1, .slice (some (ad sb so)) m2 e2] (.blk ((Bx.ext x4u).ext y2)) rfl ?_
      refine fldA ?_
      refine ld (iv s.kind) (bs.cell rfl) ?_
      refine fldA ?_
      refine ld (iv s.index) (bs.cell rfl) ?_
      refine call_of (c_r48most (kind := s.kind) (index := s.index) (hx.ext (x0u.trans y2)) (hset.ext (x0u.trans y2)) hsB) ?_
      rintro _ u3 ⟨rfl, y3⟩
      have y23 := y2.trans y3
      refine fldA ?_
      refine ld (.slice (some (ad ab ao)) p5 r5) (((Bt.ext x4u).ext y23).cell rfl) ?_
      refine idx k rfl (by omega) ?_
      refine ld (iv a) (hca.kept y23 trivial 0 _ rfl) ?_
      refine cD (fun g4 => ?_) (fun g4 => ?_)
      · exact ret1 (.bool false) rfl (bad y23 (by omega))
      refine fldA ?_
      refine ld (.slice (some (ad ab ao)) p5 r5) (((Bt.ext x4u).ext y23).cell rfl) ?_
      refine idx k rfl (by omega) ?_
      refine ld (iv a) (hca.kept y23 trivial 0 _ rfl) ?_
      refine cD (fun g5 => ?_) (fun g5 => ?_)
      · exact ret1 (.bool false) rfl (bad y23 (by rw [hmT]; omega))
      refine arI (by omega) ?_
      exact next (k + 1) ⟨by rw [Int.natCast_add]; rfl, trivial⟩ (go y23 (by rw [hmT]; omega)) (by omega)
    · rw [if_neg g3] at hmT
      refine fldA ?_
      refine ld (.slice (some (ad ab ao)) p5 r5) (((Bt.ext x4u).ext y2).cell rfl) ?_
      refine idx k rfl (by omega) ?_
      refine ld (iv a) (hca.kept y2 trivial 0 _ rfl) ?_
      refine cD (fun g4 => ?_) (fun g4 => ?_)
      · exact ret1 (.bool false) rfl (bad y2 (by omega))
      refine fldA ?_
      refine ld (.slice (some (ad ab ao)) p5 r5) (((Bt.ext x4u).ext y2).cell rfl) ?_
      refine idx k rfl (by omega) ?_
      refine ld (iv a) (hca.kept y2 trivial 0 _ rfl) ?_
      refine cD (fun g5 => ?_) (fun g5 => ?_)
      · exact ret1 (.bool false) rfl (bad y2 (by rw [hmT]; omega))
      refine arI (by omega) ?_
      exact next (k + 1) ⟨by rw [Int.natCast_add]; rfl, trivial⟩ (go y2 (by rw [hmT]; omega)) (by omega)
  have hall5 : ∀ i, i < x.suspects.length → 0 ≤ t.taken.getD i 0 ∧ t.taken.getD i 0 ≤ mostT x (blF x set) i := fun i hi => hall i (by omega)
  have b5 : ∀ i, i < t.taken.length → 0 ≤ t.taken.getD i 0 ∧ t.taken.getD i 0 ≤ 1073741824 := fun i hi => by
    have h1 := hall5 i (by omega)
    rw [most_T hb] at h1
    have h2 := most_b (kind := (suE x i).kind) (index := (suE x i).index) hb
    split at h1 <;> omega
  refine loop_rule (fun k : Nat => [(14, iv (k : Int))]) (fun k z => k ≤ n1 ∧ Ext w4 z ∧ ∀ r, r < k → t.arrived.getD r 0 = out3 d x t d.farms.length r ∧ worstV (rcE d r) (t.heads.getD r 0) ≤ out3 d x t d.farms.length r ∧ out3 d x t d.farms.length r ≤ bestV (rcE d r) (t.heads.getD r 0)) (fun k _ => n1 - k) 0 ⟨rfl, trivial⟩ ⟨by omega, x4u, fun i h => by omega⟩ rfl ?_
  rintro G2 r z ⟨hr, xz, hall2⟩
  have x0z := x4.trans xz
  refine fldA ?_
  refine ld (.slice A1 n1 c1) ((Bd.ext xz).cell rfl) ?_
  refine len ?_
  refine cD (fun hlt => ?_) (fun hge2 => ?_)
  · have hlt : r < n1 := by omega
    have Dz := Bd.ext xz
    have Tz := Bt.ext xz
    obtain ⟨rb, ro, _, y, hA1, hy, -, -, hcy, rfl⟩ := (hre.ext x0z).at_ hlt
    obtain ⟨hb', ho, _, a, hP1, ha, -, -, hca, rfl, -⟩ := (q1.ext x0z).at_ (k := r) (by omega)
    obtain ⟨ab, ao, _, e, hP4, he', -, -, hce, rfl, -⟩ := (q4.ext x0z).at_ (k := r) (by omega)
    have ey : rcE d r = y := by unfold rcE; exact getD_at hy
    have ea : t.heads.getD r 0 = a := getD_at ha
    have ee : t.arrived.getD r 0 = e := getD_at he'
    have ba := b1 r (by omega)
    rw [ea] at ba
    have bad : ∀ {u'}, Ext z u' → ¬ (e = out3 d x t d.farms.length r ∧ worstV y a ≤ out3 d x t d.farms.length r ∧ out3 d x t d.farms.length r ≤ bestV y a) → Value.bool false = .bool (fitsB d x (blF x set) v t) ∧ Ext w u' := fun y' h => ⟨no fun h2 => h (by have := h2.ar r (by omega); rwa [ee, ey, ea] at this), x0z.trans y'⟩
    refine drawX [0, 1, 2, 3, 4, 5, 6, 7, 8, 9, 10, 11, 12, 13, 14, 15] [10] mx (by kernel_rfl) ?_
    refine fldA ?_
    refine ldX (.slice A1 n1 c1) (Dz.cell rfl) (.refl _ _) ?_
    rw [hA1]
    refine idx r rfl hlt ?_
    refine ldAX y.c hcy rfl (.refl _ _) ?_
    refine fldA ?_
    refine ldX (.slice P1 p1 r1) (Tz.cell rfl) (.refl _ _) ?_
    rw [hP1]
    refine idx r rfl (by omega) ?_
    refine ldX (iv a) (hca 0 _ rfl) (.refl _ _) ?_
    refine call_of (c_r21Worst (r := y) (v := a)) ?_
    rintro _ z1 ⟨rfl, y1⟩
    refine strS y1 ?_
    rw [← worst_eq]
    refine drawX [0, 1, 2, 3, 4, 5, 6, 7, 8, 9, 10, 11, 12, 13, 14, 15] [10] mx (by kernel_rfl) ?_
    refine fldA ?_
    refine ldX (.slice A1 n1 c1) ((Dz.ext y1).cell rfl) (.refl _ _) ?_
    rw [hA1]
    refine idx r rfl hlt ?_
    refine ldAX y.c (hcy.kept y1 trivial) rfl (.refl _ _) ?_
    refine fldA ?_
    refine ldX (.slice P1 p1 r1) ((Tz.ext y1).cell rfl) (.refl _ _) ?_
    rw [hP1]
    refine idx r rfl (by omega) ?_
    refine ldX (iv a) (hca.kept y1 trivial 0 _ rfl) (.refl _ _) ?_
    refine call_of (c_r21Best (r := y) (v := a)) ?_
    rintro _ z2 ⟨rfl, y2⟩
    refine strS y2 ?_
    rw [← best_eq]
    have y12 := y1.trans y2
    refine drawP (.take 0 (.take 1 (.take 2 (.take 3 (.take 4 (.take 5 (.take 6 (.take 7 (.take 8 (.take 9 (.take 10 (.take 11 (.take 12 (.take 13 (.take 14 (.take 15 (.take 16 (.take 17 (.take 18 (.take 19 (.take 20 (.take 21 (.take 22 (.take 23 (.take 24 (.take 25 (.eff 26 (.take 27 (.take 28 .done))))))))))))))))))))))))))))) [] (fun u => Ext z2 u) mx (by kernel_rfl) (.refl _ _) ?_
    refine fldA ?_
    refine ldX (.slice P4 p4 r4) ((Tz.ext y12).cell rfl) (.refl _ _) ?_
    rw [hP4]
    refine idx r rfl (by omega) ?_
    refine ldX (iv e) (hce.kept y12 trivial 0 _ rfl) (.refl _ _) ?_
    refine cD (fun g6 => ?_) (fun g6 => ?_)
    · refine strS (.refl _ _) ?_
      exact ret1 (.bool false) rfl (bad y12 (by omega))
    refine fldA ?_
    refine ldX (.slice P4 p4 r4) ((Tz.ext y12).cell rfl) (.refl _ _) ?_
    rw [hP4]
    refine idx r rfl (by omega) ?_
    refine ldX (iv e) (hce.kept y12 trivial 0 _ rfl) (.refl _ _) ?_
    refine cD (fun g7 => ?_) (fun g7 => ?_)
    · refine strS (.refl _ _) ?_
      exact ret1 (.bool false) rfl (bad y12 (by omega))
    refine fldA ?_
    refine ldX (.slice P4 p4 r4) ((Tz.ext y12).cell rfl) (.refl _ _) ?_
    rw [hP4]
    refine idx r rfl (by omega) ?_
    refine ldX (iv e) (hce.kept y12 trivial 0 _ rfl) (.refl _ _) ?_
    rw [← hP4, ← hP1, ← hA1]
    refine ldAX [.string d.name, iv d.hours, iv d.cap, iv d.start, .slice A1 n1 c1, .slice A2 n2 c2, .slice A3 n3 c3, .slice A4 n4 c4, .slice A5 n5 c5, .slice A6 n6 c6] (.blk (Dz.ext y12)) rfl (.refl _ _) ?_
    refine ldAX [.slice W1 m1 e1, .slice S1 m2 e2] (.blk ((Bx.ext xz).ext y12)) rfl (.refl _ _) ?_
    refine ldAX [.slice P1 p1 r1, .slice P2 p2 r2, .slice P3 p3 r3, .slice P4 p4 r4, .slice P5 p5 r5] (.blk (Tz.ext y12)) rfl (.refl _ _) ?_
    have x02 := x0z.trans y12
    refine call_of (c_r48left (r := r) (hd.ext x02) (hx.ext x02) (tTru.ext ht x02) hR64 hF600 hS12 (by omega) (by omega) (by omega) (by omega) (by omega) b1 b2 b3 b5) ?_
    rintro _ z3 ⟨rfl, y3⟩
    refine strS y3 ?_
    have y13 := y12.trans y3
    refine cN (fun g8 => ?_) (fun g8 => ?_)
    · exact ret1 (.bool false) rfl (bad y13 (by omega))
    have g8 : e = out3 d x t d.farms.length r := g8
    refine arI (by omega) ?_
    refine next (r + 1) ⟨by rw [Int.natCast_add]; rfl, trivial⟩ ⟨by omega, xz.trans y13, fun i hi => ?_⟩ (by omega)
    by_cases e' : i = r
    · subst e'; rw [ee, ey, ea]; exact ⟨g8, by omega, by omega⟩
    · exact hall2 i (by omega)
  · exact ret1 (.bool true) rfl ⟨by rw [fitsB_iff.2 ⟨j1, j2, j3, by omega, by omega, hall5, fun r hr => hall2 r (by omega)⟩], x0z⟩
set_option maxRecDepth 8000 in
theorem c_r48Accepts {csd csx : List Value} {d : Dist} {x : Ev} {set : List Int} {l : List Tru} {A A' : Option Addr} {n c n' c' : Nat} (hd : DiR D w csd d) (hx : EvR D w csx x) (hset : SlR tInt D w A n set) (hl : SlR tTru D w A' n' l) : CallZ Tryz.prog 13 #[.agg csd.toArray, .agg csx.toArray, .slice A n c, .slice A' n' c'] w
    (fun v w' => v = .tuple #[.bool (accV d x set l), iv (askErr d x set)] ∧ Ext w w') := by
  obtain ⟨A1, n1, c1, A2, n2, c2, A3, n3, c3, A4, n4, c4, A5, n5, c5, A6, n6, c6, rfl, -⟩ := hd.ex
  obtain ⟨W1, m1, e1, S1, m2, e2, rfl, hwv, hsu, -⟩ := hx.ex
  have lw := hwv.len
  have ll := hl.len
  have lle := hl.le
  refine fn_rule (args := [.agg #[.string d.name, iv d.hours, iv d.cap, iv d.start, .slice A1 n1 c1, .slice A2 n2 c2, .slice A3 n3 c3, .slice A4 n4 c4, .slice A5 n5 c5, .slice A6 n6 c6], .agg #[.slice W1 m1 e1, .slice S1 m2 e2], .slice A n c, .slice A' n' c']) Tryz.func13 (by kernel_rfl) ?_
  refine box (fun bd w1 i1 => ?_)
  refine box (fun bx w2 i2 => ?_)
  have x2 := i1.ext.trans i2.ext
  have Bd : Blk w2 bd 31 [.string d.name, iv d.hours, iv d.cap, iv d.start, .slice A1 n1 c1, .slice A2 n2 c2, .slice A3 n3 c3, .slice A4 n4 c4, .slice A5 n5 c5, .slice A6 n6 c6] := i1.blk.ext i2.ext
  have Bx : Blk w2 bx 35 [.slice W1 m1 e1, .slice S1 m2 e2] := i2.blk
  refine ldA [.string d.name, iv d.hours, iv d.cap, iv d.start, .slice A1 n1 c1, .slice A2 n2 c2, .slice A3 n3 c3, .slice A4 n4 c4, .slice A5 n5 c5, .slice A6 n6 c6] (.blk Bd) rfl ?_
  refine ldA [.slice W1 m1 e1, .slice S1 m2 e2] (.blk Bx) rfl ?_
  refine call_of (c_r48asked (hd.ext x2) (hx.ext x2) (hset.ext x2)) ?_
  rintro _ w3 ⟨rfl, x3⟩
  have x03 := x2.trans x3
  refine cN (fun h0 => ?_) (fun h0 => ?_)
  · exact ret2 (.bool false) (iv (askErr d x set)) rfl rfl ⟨by unfold accV; rw [if_neg h0], x03⟩
  have h0 : askErr d x set = 0 := h0
  have ev : accV d x set l = allB d x set x.waves l := by unfold accV; rw [if_pos h0]
  rw [ev, h0]
  refine len ?_
  refine fldA ?_
  refine ld (.slice W1 m1 e1) ((Bx.ext x3).cell rfl) ?_
  refine len ?_
  refine cN (fun g => ?_) (fun g => ?_)
  · exact ret2 (.bool false) (iv 0) rfl rfl ⟨by unfold allB; rw [decide_eq_false (by omega)]; rfl, x03⟩
  have ea : allB d x set x.waves l = (x.waves.zip l).all fun p => fitsB d x (blF x set) p.1 p.2 := by unfold allB; rw [decide_eq_true (by omega)]; rfl
  rw [ea]
  refine loop_rule (fun k : Nat => [(11, iv (k : Int))]) (fun k u => k ≤ n' ∧ Ext w3 u ∧ ((x.waves.zip l).take k).all (fun p => fitsB d x (blF x set) p.1 p.2) = true) (fun k _ => n' - k) 0 ⟨rfl, trivial⟩ ⟨by omega, .refl _ _, rfl⟩ rfl ?_
  rintro G k u ⟨hk, xu, hall⟩
  have x2u := x3.trans xu
  have x0u := x2.trans x2u
  refine len ?_
  refine cD (fun hlt => ?_) (fun hge => ?_)
  · have hlt : k < n' := by omega
    obtain ⟨b, o, cs, v, hW1, hv, -, -, hc, hrep⟩ := (hwv.ext x0u).at_ (k := k) (by omega)
    obtain ⟨b', o', cs', t, rfl, ht, -, -, hc', hrep'⟩ := (hl.ext x0u).at_ hlt
    obtain ⟨H1, h1, k1, O1, o1, k2, T1, t1, k3, rfl, -⟩ := wv_open hrep
    obtain ⟨P1, p1, r1, P2, p2, r2, P3, p3, r3, P4, p4, r4, P5, p5, r5, rfl, -⟩ := tru_open hrep'
    have hz : (x.waves.zip l)[k]? = some (v, t) := List.getElem?_zip_eq_some.2 ⟨hv, ht⟩
    refine drawX [0, 1, 2, 3, 4, 5, 6, 7, 8, 9, 10, 11, 12, 13] [12] mx (by kernel_rfl) ?_
    refine ldAX [.string d.name, iv d.hours, iv d.cap, iv d.start, .slice A1 n1 c1, .slice A2 n2 c2, .slice A3 n3 c3, .slice A4 n4 c4, .slice A5 n5 c5, .slice A6 n6 c6] (.blk (Bd.ext x2u)) rfl (.refl _ _) ?_
    refine ldAX [.slice W1 m1 e1, .slice S1 m2 e2] (.blk (Bx.ext x2u)) rfl (.refl _ _) ?_
    refine fldA ?_
    refine ldX (.slice W1 m1 e1) ((Bx.ext x2u).cell rfl) (.refl _ _) ?_
    rw [hW1]
    refine idx k rfl (by omega) ?_
    refine ldAX [iv v.hour, .slice H1 h1 k1, .slice O1 o1 k2, .slice T1 t1 k3] hc rfl (.refl _ _) ?_
    refine idx k rfl hlt ?_
    refine ldAX [.slice P1 p1 r1, .slice P2 p2 r2, .slice P3 p3 r3, .slice P4 p4 r4, .slice P5 p5 r5] hc' rfl (.refl _ _) ?_
    rw [← hW1]
    refine callE (c_r48Fits (c := c) (hd.ext x0u) (hx.ext x0u) (hset.ext x0u) hrep hrep' h0 (List.mem_of_getElem? hv)) (fun u1 g1 y1 => ?_) (fun u1 g1 y1 => ?_)
    · refine strS y1 ?_
      refine arI (by omega) ?_
      exact next (k + 1) ⟨by rw [Int.natCast_add]; rfl, trivial⟩ ⟨by omega, xu.trans y1, take_all hz hall g1⟩ (by omega)
    · refine strS y1 ?_
      exact ret2 (.bool false) (iv 0) rfl rfl ⟨by rw [all_not hz g1], x0u.trans y1⟩
  · rw [List.take_of_length_le (by rw [List.length_zip]; omega)] at hall
    exact ret2 (.bool true) (iv 0) rfl rfl ⟨by rw [hall], x0u⟩
theorem c_r48Members {m many : Nat} (hm : m ≤ 4096) (hmany : many ≤ 12) : CallZ Tryz.prog 41 #[iv (m : Int), iv (many : Int)] w (fun v w' => ∃ A n c, v = .slice A n c ∧ OwnF w w' A n c 3 1 ((membersL m many).map fun v => Value.int .i64 v)) := by
  refine fn_rule (args := [iv (m : Int), iv (many : Int)]) Tryz.func41 (by kernel_rfl) ?_
  refine lit [] (fun g w1 h1 => ?_)
  refine loop4 (fun (i : Nat) (A : Option Addr) (n c : Nat) => [(6, iv (i : Int)), (0, iv ((m / 2 ^ i : Nat) : Int)), (5, .slice A n c)])
    (fun i A n c u => i ≤ many ∧ OwnF w u A n c 3 1 ((membersL m i).map fun v => Value.int .i64 v)) (fun i _ _ _ _ => many - i) 0 (some (ad g 0)) 0 0 ⟨rfl, congrArg (Value.int .i64) (by simp), rfl, trivial⟩ ⟨by omega, OwnF.lit (cs := []) (.refl _ _) h1 rfl⟩ rfl ?_
  rintro G i A n c u ⟨hi, own⟩
  have hl := own.own.len
  rw [List.length_map] at hl
  have hml := members_len m i
  refine cD (fun hlt => ?_) (fun hge => ?_)
  · have hlt : i < many := by omega
    have hq : m / 2 ^ i ≤ m := Nat.div_le_self _ _
    have hq2 : m / 2 ^ (i + 1) = m / 2 ^ i / 2 := by rw [Nat.pow_succ, Nat.div_div_eq_div_mul]
    have hb : ((m / 2 ^ i : Nat) : Int) % 2 = 1 ↔ m.testBit i = true := by
      rw [Nat.testBit_eq_decide_div_mod_eq, decide_eq_true_eq]; omega
    obtain ⟨q, hqe⟩ : ∃ q, q = m / 2 ^ i := ⟨_, rfl⟩
    rw [← hqe] at hq hq2 hb ⊢
    refine remI (by omega) (by omega) ?_
    refine cE (fun g1 => ?_) (fun g1 => ?_)
    · refine lit [iv (i : Int)] (fun q1 u1 hq1 => ?_)
      refine appF (own.then hq1.ext) (hq1.src (sz := 1) rfl) (by omega) (fun A3 c3 z2 o2 k2 hA => ?_)
      refine quoI (by omega) (by omega) (by omega) ?_
      refine arI (by omega) ?_
      refine next4 (i + 1) A3 (n + 1) c3 ⟨by rw [Int.natCast_add]; rfl, congrArg (Value.int .i64) (by rw [hq2]; omega), rfl, trivial⟩ ⟨by omega, ?_⟩ (by omega)
      rw [members_snoc, if_pos (hb.1 g1), List.map_append]; exact o2
    · refine quoI (by omega) (by omega) (by omega) ?_
      refine arI (by omega) ?_
      refine next4 (i + 1) A n c ⟨by rw [Int.natCast_add]; rfl, congrArg (Value.int .i64) (by rw [hq2]; omega), rfl, trivial⟩ ⟨by omega, ?_⟩ (by omega)
      rw [members_snoc, if_neg (fun h => g1 (hb.2 h)), List.append_nil]; exact own
  · obtain rfl : i = many := by omega
    exact ret1 (.slice A n c) rfl ⟨A, n, c, rfl, own⟩
set_option maxRecDepth 8000 in
theorem c_r48Table {csd csx : List Value} {d : Dist} {x : Ev} (hd : DiR D w csd d) (hx : EvR D w csx x) : CallZ Tryz.prog 16 #[.agg csd.toArray, .agg csx.toArray] w
    (fun v w' => ∃ A n c, v = .tuple #[.slice A n c, iv (evErr d x)] ∧ OwnF w w' A n c 4 1 ((tableV d x).map fun b => Value.bool b)) := by
  have hd := hd.more (D' := fun b => b < w.heap.size) fun b hb _ => hb
  have hx := hx.more (D' := fun b => b < w.heap.size) fun b hb _ => hb
  obtain ⟨A1, n1, c1, A2, n2, c2, A3, n3, c3, A4, n4, c4, A5, n5, c5, A6, n6, c6, rfl, -⟩ := hd.ex
  obtain ⟨W1, m1, e1, S1, m2, e2, rfl, hwv, hsu, -⟩ := hx.ex
  have ls := hsu.len
  refine fn_rule (args := [.agg #[.string d.name, iv d.hours, iv d.cap, iv d.start, .slice A1 n1 c1, .slice A2 n2 c2, .slice A3 n3 c3, .slice A4 n4 c4, .slice A5 n5 c5, .slice A6 n6 c6], .agg #[.slice W1 m1 e1, .slice S1 m2 e2]]) Tryz.func16 (by kernel_rfl) ?_
  refine box (fun bd w1 i1 => ?_)
  refine box (fun bx w2 i2 => ?_)
  have x2 := i1.ext.trans i2.ext
  have Bd : Blk w2 bd 31 [.string d.name, iv d.hours, iv d.cap, iv d.start, .slice A1 n1 c1, .slice A2 n2 c2, .slice A3 n3 c3, .slice A4 n4 c4, .slice A5 n5 c5, .slice A6 n6 c6] := i1.blk.ext i2.ext
  have Bx : Blk w2 bx 35 [.slice W1 m1 e1, .slice S1 m2 e2] := i2.blk
  refine ldA [.string d.name, iv d.hours, iv d.cap, iv d.start, .slice A1 n1 c1, .slice A2 n2 c2, .slice A3 n3 c3, .slice A4 n4 c4, .slice A5 n5 c5, .slice A6 n6 c6] (.blk Bd) rfl ?_
  refine ldA [.slice W1 m1 e1, .slice S1 m2 e2] (.blk Bx) rfl ?_
  refine call_of (c_r48Check (hd.ext x2) (hx.ext x2)) ?_
  rintro _ w3 ⟨rfl, x3⟩
  have x03 := x2.trans x3
  refine cN (fun h0 => ?_) (fun h0 => ?_)
  · exact ret2 (.slice none 0 0) (iv (evErr d x)) rfl rfl ⟨none, 0, 0, rfl, by rw [table_none h0]; exact .nil x03⟩
  have h0 : evErr d x = 0 := h0
  obtain ⟨-, -, hS⟩ := ev_sizes h0
  rw [h0]
  have tl := table_len h0
  obtain ⟨S, hSe⟩ : ∃ S, S = x.suspects.length := ⟨_, rfl⟩
  have hpow : 2 ^ S ≤ 4096 := Nat.le_trans (Nat.pow_le_pow_right (by omega) (show S ≤ 12 by omega)) (by decide)
  refine lit [] (fun g w4 h4 => ?_)
  have Bd4 := (Bd.ext x3).ext h4.ext
  have Bx4 := (Bx.ext x3).ext h4.ext
  have x04 := x03.trans h4.ext
  refine loop_rule (fun i : Nat => [(9, iv (i : Int)), (8, iv ((2 ^ i : Nat) : Int))]) (fun i u => i ≤ m2 ∧ w4 = u) (fun i _ => m2 - i) 0 ⟨rfl, rfl, trivial⟩ ⟨by omega, rfl⟩ rfl ?_
  rintro G i u ⟨hi, rfl⟩
  have hpi : 2 ^ i ≤ 2 ^ S := Nat.pow_le_pow_right (by decide) (by omega)
  refine fldA ?_
  refine ld (.slice S1 m2 e2) (Bx4.cell rfl) ?_
  refine len ?_
  refine cD (fun hlt => ?_) (fun hge => ?_)
  · have hps : 2 ^ (i + 1) = 2 ^ i * 2 := Nat.pow_succ 2 i
    obtain ⟨q, hq⟩ : ∃ q, q = 2 ^ i := ⟨_, rfl⟩
    rw [← hq] at hpi hps ⊢
    refine arI (by omega) ?_
    refine arI (by omega) ?_
    exact next (i + 1) ⟨by rw [Int.natCast_add]; rfl, congrArg (Value.int .i64) (by rw [hps]; omega), trivial⟩ ⟨by omega, rfl⟩ (by omega)
  have hiS : i = S := by omega
  rw [hiS]
  obtain ⟨pw, hpw⟩ : ∃ pw, pw = 2 ^ S := ⟨_, rfl⟩
  rw [← hpw] at hpow ⊢
  have tv : tableV d x = (List.range pw).map fun k => explV d x (membersL k S) := by rw [hpw, hSe]; unfold tableV tableL; rw [if_pos h0]
  rw [tv]
  obtain ⟨f, hf⟩ : ∃ f : Nat → Bool, f = fun k => explV d x (membersL k S) := ⟨_, rfl⟩
  rw [← hf]
  refine loop4 (fun (k : Nat) (A : Option Addr) (n c : Nat) => [(10, iv (k : Int)), (7, .slice A n c)])
    (fun k A n c u => k ≤ pw ∧ OwnF w3 u A n c 4 1 (((List.range k).map f).map fun b => Value.bool b)) (fun k _ _ _ _ => pw - k) 0 (some (ad g 0)) 0 0 ⟨rfl, rfl, trivial⟩ ⟨by omega, OwnF.lit (cs := []) (.refl _ _) h4 rfl⟩ rfl ?_
  rintro G2 k A n c u ⟨hk, own⟩
  have xu := own.ext
  have hlen := own.own.len
  rw [List.length_map, List.length_map, List.length_range] at hlen
  refine cD (fun hlt => ?_) (fun hge2 => ?_)
  rotate_left
  · obtain rfl : k = pw := by omega
    exact ret2 (.slice A n c) (iv 0) rfl rfl ⟨A, n, c, rfl, own.base x03⟩
  have hlt : k < pw := by omega
  have Bdu := (Bd.ext x3).ext xu
  have Bxu := (Bx.ext x3).ext xu
  have x0u := x03.trans xu
  have new := own.new
  have bdl := (Bd.ext x3).lt
  have bxl := (Bx.ext x3).lt
  have nA : ∀ b, b < w3.heap.size → A ≠ some (ad b 0) := fun b hb e => by have := new b e; omega
  refine drawK (fun b => A ≠ some (ad b 0)) [0, 1, 2, 3, 4, 5, 6, 7, 8, 9, 10, 11] [7, 8, 9, 10] mx (by kernel_rfl) ?_
  refine ldAK [.string d.name, iv d.hours, iv d.cap, iv d.start, .slice A1 n1 c1, .slice A2 n2 c2, .slice A3 n3 c3, .slice A4 n4 c4, .slice A5 n5 c5, .slice A6 n6 c6] (.blk Bdu) rfl (nA _ bdl) (.refl _ _) ?_
  refine ldAK [.slice W1 m1 e1, .slice S1 m2 e2] (.blk Bxu) rfl (nA _ bxl) (.refl _ _) ?_
  refine fldA ?_
  refine ldK (.slice S1 m2 e2) (Bxu.cell rfl) (nA _ bxl) (.refl _ _) ?_
  refine len ?_
  refine call_of (c_r48Members (m := k) (many := m2) (by omega) (by omega)) ?_
  rintro _ u1 ⟨A', n', c', rfl, oM⟩
  refine strK oM.ext.any ?_
  have hl2 := oM.own.len
  rw [List.length_map] at hl2
  have hml := members_len k m2
  have sset : SlR tInt (fun _ => True) u1 A' n' (membersL k m2) := OwnF.ints oM (fun v hv => by have := members_bound k m2 v hv; unfold I64; omega) (by omega) fun _ _ => trivial
  have x01 := x0u.trans oM.ext
  have hask : askErr d x (membersL k m2) = 0 := by rw [show m2 = x.suspects.length by omega]; exact ask_members h0 k
  have cc := c_r48explains (c := c') ((hd.ext x01).more (D' := fun _ => True) fun _ _ _ => trivial) ((hx.ext x01).more fun _ _ _ => trivial) sset hask
  have efk : explB d x (membersL k m2) = f k := by rw [hf, show S = m2 by omega]; show _ = explV d x _; unfold explV; rw [if_pos hask]
  rw [efk] at cc
  refine call_of cc ?_
  rintro _ u2 ⟨rfl, y2⟩
  refine strK y2.any ?_
  refine lit [.bool (f k)] (fun q u3 hq => ?_)
  refine strK hq.ext.any ?_
  have xe := (oM.ext.trans y2).trans hq.ext
  refine appF (own.then xe) (hq.src (sz := 1) rfl) (by omega) (fun A3 c3 u4 o4 k4 hA => ?_)
  refine strK k4 ?_
  refine arI (by omega) ?_
  refine next4 (k + 1) A3 (n + 1) c3 ⟨by rw [Int.natCast_add]; rfl, rfl, trivial⟩ ⟨by omega, ?_⟩ (by omega)
  rw [List.range_succ, List.map_append, List.map_append]
  exact o4
end
end Go.Proofs.YtffdjecdcbbfaaaGreat

/- Layer 48: the laws EvidenceSpec, EvidenceTableSpec. -/
namespace Go.Proofs.YtffdjecdcbbfaaaGreat
open Go Go.RowKit

theorem table_le (d : Dist) (x : Ev) : (tableV d x).length ≤ 140737488355328 := by
  by_cases h : evErr d x = 0
  · rw [table_len h]
    obtain ⟨-, -, hS⟩ := ev_sizes h
    exact Nat.le_trans (Nat.pow_le_pow_right (by decide) hS) (by decide)
  · rw [table_none h]; decide
section
variable {D : Nat → Prop} {w : World}
set_option maxRecDepth 8000 in
theorem c_EvidenceSpec {csd csx : List Value} {d : Dist} {x : Ev} {set : List Int} {AS : Option Addr} {nS cS : Nat} (hd : DiR D w csd d) (hx : EvR D w csx x) (hset : SlR tInt D w AS nS set) : CallZ Tryz.prog 3 #[.agg csd.toArray, .agg csx.toArray, .slice AS nS cS] w
    (fun v w' => v = .bool true ∧ Ext w w') := by
  have hd := hd.more (D' := fun _ => True) fun _ _ _ => trivial
  have hx := hx.more (D' := fun _ => True) fun _ _ _ => trivial
  have hset := hset.more (D' := fun _ => True) (by decide) fun _ _ _ => trivial
  obtain ⟨A1, n1, c1, A2, n2, c2, A3, n3, c3, A4, n4, c4, A5, n5, c5, A6, n6, c6, rfl, -⟩ := hd.ex
  obtain ⟨W1, m1, e1, S1, m2, e2, rfl, hwv, -⟩ := hx.ex
  refine fn_rule (args := [.agg #[.string d.name, iv d.hours, iv d.cap, iv d.start, .slice A1 n1 c1, .slice A2 n2 c2, .slice A3 n3 c3, .slice A4 n4 c4, .slice A5 n5 c5, .slice A6 n6 c6], .agg #[.slice W1 m1 e1, .slice S1 m2 e2], .slice AS nS cS]) Tryz.func3 (by kernel_rfl) ?_
  refine box (fun bd w1 i1 => ?_)
  refine box (fun bx w2 i2 => ?_)
  have x2 := i1.ext.trans i2.ext
  have Bd : Blk w2 bd 31 [.string d.name, iv d.hours, iv d.cap, iv d.start, .slice A1 n1 c1, .slice A2 n2 c2, .slice A3 n3 c3, .slice A4 n4 c4, .slice A5 n5 c5, .slice A6 n6 c6] := i1.blk.ext i2.ext
  have Bx : Blk w2 bx 35 [.slice W1 m1 e1, .slice S1 m2 e2] := i2.blk
  refine call_of (c_esane) ?_
  rintro _ w3 ⟨rfl, x3⟩
  refine ldA [.string d.name, iv d.hours, iv d.cap, iv d.start, .slice A1 n1 c1, .slice A2 n2 c2, .slice A3 n3 c3, .slice A4 n4 c4, .slice A5 n5 c5, .slice A6 n6 c6] (.blk (Bd.ext x3)) rfl ?_
  refine ldA [.slice W1 m1 e1, .slice S1 m2 e2] (.blk (Bx.ext x3)) rfl ?_
  refine callSE (c_r48Few ((hd.ext x2).ext x3) ((hx.ext x2).ext x3)) (fun w4 x4 => ?_) (fun w4 x4 => ?_)
  rotate_left
  · exact ret1 (.bool true) rfl ⟨rfl, x2.trans (x3.trans x4)⟩
  have z4 := x3.trans x4
  refine len ?_
  refine cD (fun _ => ?_) (fun _ => ?_)
  · exact ret1 (.bool true) rfl ⟨rfl, x2.trans z4⟩
  obtain ⟨b, hb⟩ : ∃ b, b = explV d x set := ⟨_, rfl⟩
  refine ldA [.string d.name, iv d.hours, iv d.cap, iv d.start, .slice A1 n1 c1, .slice A2 n2 c2, .slice A3 n3 c3, .slice A4 n4 c4, .slice A5 n5 c5, .slice A6 n6 c6] (.blk (Bd.ext z4)) rfl ?_
  refine ldA [.slice W1 m1 e1, .slice S1 m2 e2] (.blk (Bx.ext z4)) rfl ?_
  have cc := c_Explains (c := cS) ((hd.ext x2).ext z4) ((hx.ext x2).ext z4) ((hset.ext x2).ext z4)
  rw [← hb] at cc
  refine call_of cc ?_
  clear cc
  rintro _ w5 ⟨rfl, x5⟩
  have z5 := z4.trans x5
  refine ldA [.string d.name, iv d.hours, iv d.cap, iv d.start, .slice A1 n1 c1, .slice A2 n2 c2, .slice A3 n3 c3, .slice A4 n4 c4, .slice A5 n5 c5, .slice A6 n6 c6] (.blk (Bd.ext z5)) rfl ?_
  refine ldA [.slice W1 m1 e1, .slice S1 m2 e2] (.blk (Bx.ext z5)) rfl ?_
  have cc := c_r48Explains (c := cS) ((hd.ext x2).ext z5) ((hx.ext x2).ext z5) ((hset.ext x2).ext z5)
  rw [← hb] at cc
  refine call_of cc ?_
  clear cc
  rintro _ w6 ⟨rfl, x6⟩
  have z6 := z5.trans x6
  refine ldA [.string d.name, iv d.hours, iv d.cap, iv d.start, .slice A1 n1 c1, .slice A2 n2 c2, .slice A3 n3 c3, .slice A4 n4 c4, .slice A5 n5 c5, .slice A6 n6 c6] (.blk (Bd.ext z6)) rfl ?_
  refine ldA [.slice W1 m1 e1, .slice S1 m2 e2] (.blk (Bx.ext z6)) rfl ?_
  have cc := c_Find (c := cS) ((hd.ext x2).ext z6) ((hx.ext x2).ext z6) ((hset.ext x2).ext z6)
  rw [← hb] at cc
  refine call_of cc ?_
  clear cc
  rintro _ w7 ⟨x7, FA, fn, fc, rfl, fle, fR, fN⟩
  have z7 := z6.trans x7
  refine drawP (.take 0 (.take 1 (.take 3 (.take 4 (.eff 2 (.eff 5 (.take 6 (.take 7 (.take 8 (.take 9 (.take 10 (.take 11 (.take 12 (.take 13 (.take 14 (.take 15 (.take 16 (.take 17 (.take 18 (.take 19 (.take 20 (.take 21 (.take 22 (.take 23 (.take 24 (.take 25 (.take 26 .done))))))))))))))))))))))))))) [] (fun u => Ext w7 u) mx (by kernel_rfl) (.refl _ _) ?_
  refine ldAX [.string d.name, iv d.hours, iv d.cap, iv d.start, .slice A1 n1 c1, .slice A2 n2 c2, .slice A3 n3 c3, .slice A4 n4 c4, .slice A5 n5 c5, .slice A6 n6 c6] (.blk (Bd.ext z7)) rfl (.refl _ _) ?_
  refine ldAX [.slice W1 m1 e1, .slice S1 m2 e2] (.blk (Bx.ext z7)) rfl (.refl _ _) ?_
  refine ldAX [.string d.name, iv d.hours, iv d.cap, iv d.start, .slice A1 n1 c1, .slice A2 n2 c2, .slice A3 n3 c3, .slice A4 n4 c4, .slice A5 n5 c5, .slice A6 n6 c6] (.blk (Bd.ext z7)) rfl (.refl _ _) ?_
  refine ldAX [.slice W1 m1 e1, .slice S1 m2 e2] (.blk (Bx.ext z7)) rfl (.refl _ _) ?_
  refine call_of (c_eCheck48 ((hd.ext x2).ext z7) ((hx.ext x2).ext z7)) ?_
  rintro _ w8 ⟨rfl, x8⟩
  refine strS x8 ?_
  have z8 := z7.trans x8
  refine call_of (c_r48Check ((hd.ext x2).ext z8) ((hx.ext x2).ext z8)) ?_
  rintro _ w9 ⟨rfl, x9⟩
  have x79 := x8.trans x9
  refine strS x79 ?_
  have z9 := z7.trans x79
  refine cN (fun h => absurd rfl h) (fun _ => ?_)
  refine neB (fun h => absurd rfl h) (fun _ => ?_)
  refine cN (fun h => absurd rfl h) (fun _ => ?_)
  refine neB (fun h => absurd rfl h) (fun _ => ?_)
  refine cN (fun h => absurd rfl h) (fun _ => ?_)
  cases b with
  | false =>
    refine len ?_
    refine cE (fun _ => ?_) (fun h => absurd (show (fn : Int) = 0 by have := fN rfl; omega) h)
    exact ret1 (.bool true) rfl ⟨rfl, x2.trans z9⟩
  | true =>
    have h0 : askErr d x set = 0 := by
      by_cases h : askErr d x set = 0
      · exact h
      · unfold explV at hb; rw [if_neg h] at hb; cases hb
    refine ldA [.string d.name, iv d.hours, iv d.cap, iv d.start, .slice A1 n1 c1, .slice A2 n2 c2, .slice A3 n3 c3, .slice A4 n4 c4, .slice A5 n5 c5, .slice A6 n6 c6] (.blk (Bd.ext z9)) rfl ?_
    refine ldA [.slice W1 m1 e1, .slice S1 m2 e2] (.blk (Bx.ext z9)) rfl ?_
    have cc := c_r48Accepts (c := cS) (c' := fc) ((hd.ext x2).ext z9) ((hx.ext x2).ext z9) ((hset.ext x2).ext z9) (((fR rfl).more (D' := fun _ => True) (by decide) fun _ _ _ => trivial).ext x79)
    rw [find_acc h0 hb.symm, h0] at cc
    refine call_of cc ?_
    clear cc
    rintro _ w10 ⟨rfl, x10⟩
    refine cE (fun _ => ?_) (fun h => absurd rfl h)
    exact ret1 (.bool true) rfl ⟨rfl, x2.trans (z9.trans x10)⟩
set_option maxRecDepth 8000 in
theorem c_EvidenceTableSpec {csd csx : List Value} {d : Dist} {x : Ev} {set : List Int} {l : List Tru} {AS AL : Option Addr} {nS cS nL cL : Nat} (hd : DiR D w csd d) (hx : EvR D w csx x) (hset : SlR tInt D w AS nS set) (hl : SlR tTru D w AL nL l) : CallZ Tryz.prog 4 #[.agg csd.toArray, .agg csx.toArray, .slice AS nS cS, .slice AL nL cL] w
    (fun v w' => v = .bool true ∧ Ext w w') := by
  have hd := hd.more (D' := fun _ => True) fun _ _ _ => trivial
  have hx := hx.more (D' := fun _ => True) fun _ _ _ => trivial
  have hset := hset.more (D' := fun _ => True) (by decide) fun _ _ _ => trivial
  have hl := hl.more (D' := fun _ => True) (by decide) fun _ _ _ => trivial
  obtain ⟨A1, n1, c1, A2, n2, c2, A3, n3, c3, A4, n4, c4, A5, n5, c5, A6, n6, c6, rfl, -⟩ := hd.ex
  obtain ⟨W1, m1, e1, S1, m2, e2, rfl, hwv, -⟩ := hx.ex
  refine fn_rule (args := [.agg #[.string d.name, iv d.hours, iv d.cap, iv d.start, .slice A1 n1 c1, .slice A2 n2 c2, .slice A3 n3 c3, .slice A4 n4 c4, .slice A5 n5 c5, .slice A6 n6 c6], .agg #[.slice W1 m1 e1, .slice S1 m2 e2], .slice AS nS cS, .slice AL nL cL]) Tryz.func4 (by kernel_rfl) ?_
  refine box (fun bd w1 i1 => ?_)
  refine box (fun bx w2 i2 => ?_)
  have x2 := i1.ext.trans i2.ext
  have Bd : Blk w2 bd 31 [.string d.name, iv d.hours, iv d.cap, iv d.start, .slice A1 n1 c1, .slice A2 n2 c2, .slice A3 n3 c3, .slice A4 n4 c4, .slice A5 n5 c5, .slice A6 n6 c6] := i1.blk.ext i2.ext
  have Bx : Blk w2 bx 35 [.slice W1 m1 e1, .slice S1 m2 e2] := i2.blk
  refine call_of (c_esane) ?_
  rintro _ w3 ⟨rfl, x3⟩
  refine ldA [.string d.name, iv d.hours, iv d.cap, iv d.start, .slice A1 n1 c1, .slice A2 n2 c2, .slice A3 n3 c3, .slice A4 n4 c4, .slice A5 n5 c5, .slice A6 n6 c6] (.blk (Bd.ext x3)) rfl ?_
  refine ldA [.slice W1 m1 e1, .slice S1 m2 e2] (.blk (Bx.ext x3)) rfl ?_
  refine callSE (c_r48Few ((hd.ext x2).ext x3) ((hx.ext x2).ext x3)) (fun w4 x4 => ?_) (fun w4 x4 => ?_)
  rotate_left
  · exact ret1 (.bool true) rfl ⟨rfl, x2.trans (x3.trans x4)⟩
  have z4 := x3.trans x4
  refine len ?_
  refine cD (fun _ => ?_) (fun _ => ?_)
  · exact ret1 (.bool true) rfl ⟨rfl, x2.trans z4⟩
  refine ldA [.string d.name, iv d.hours, iv d.cap, iv d.start, .slice A1 n1 c1, .slice A2 n2 c2, .slice A3 n3 c3, .slice A4 n4 c4, .slice A5 n5 c5, .slice A6 n6 c6] (.blk (Bd.ext z4)) rfl ?_
  refine ldA [.slice W1 m1 e1, .slice S1 m2 e2] (.blk (Bx.ext z4)) rfl ?_
  refine call_of (c_Accepts (c := cS) (c' := cL) ((hd.ext x2).ext z4) ((hx.ext x2).ext z4) ((hset.ext x2).ext z4) ((hl.ext x2).ext z4)) ?_
  rintro _ w5 ⟨rfl, x5⟩
  have z5 := z4.trans x5
  refine ldA [.string d.name, iv d.hours, iv d.cap, iv d.start, .slice A1 n1 c1, .slice A2 n2 c2, .slice A3 n3 c3, .slice A4 n4 c4, .slice A5 n5 c5, .slice A6 n6 c6] (.blk (Bd.ext z5)) rfl ?_
  refine ldA [.slice W1 m1 e1, .slice S1 m2 e2] (.blk (Bx.ext z5)) rfl ?_
  refine call_of (c_r48Accepts (c := cS) (c' := cL) ((hd.ext x2).ext z5) ((hx.ext x2).ext z5) ((hset.ext x2).ext z5) ((hl.ext x2).ext z5)) ?_
  rintro _ w6 ⟨rfl, x6⟩
  have z6 := z5.trans x6
  refine ldA [.string d.name, iv d.hours, iv d.cap, iv d.start, .slice A1 n1 c1, .slice A2 n2 c2, .slice A3 n3 c3, .slice A4 n4 c4, .slice A5 n5 c5, .slice A6 n6 c6] (.blk (Bd.ext z6)) rfl ?_
  refine ldA [.slice W1 m1 e1, .slice S1 m2 e2] (.blk (Bx.ext z6)) rfl ?_
  refine call_of (c_Table ((hd.ext x2).ext z6) ((hx.ext x2).ext z6)) ?_
  rintro _ w7 ⟨TA, tn, tc, rfl, oT⟩
  have z7 := z6.trans oT.ext
  refine ldA [.string d.name, iv d.hours, iv d.cap, iv d.start, .slice A1 n1 c1, .slice A2 n2 c2, .slice A3 n3 c3, .slice A4 n4 c4, .slice A5 n5 c5, .slice A6 n6 c6] (.blk (Bd.ext z7)) rfl ?_
  refine ldA [.slice W1 m1 e1, .slice S1 m2 e2] (.blk (Bx.ext z7)) rfl ?_
  refine call_of (c_r48Table ((hd.ext x2).ext z7) ((hx.ext x2).ext z7)) ?_
  rintro _ w8 ⟨UA, un, uc, rfl, oU⟩
  have z8 := z7.trans oU.ext
  have bT := (oT.bools (D := fun _ => True) (table_le d x) fun _ _ => trivial).ext oU.ext
  have bU := oU.bools (D := fun _ => True) (table_le d x) fun _ _ => trivial
  refine eqB (fun _ => ?_) (fun h => absurd rfl h)
  refine cE (fun _ => ?_) (fun h => absurd rfl h)
  refine callB (c_sameTable bT bU) (fun _ => ?_) (fun h => by simp at h)
  refine cE (fun _ => ?_) (fun h => absurd rfl h)
  exact ret1 (.bool true) rfl ⟨rfl, x2.trans z8⟩
end
end Go.Proofs.YtffdjecdcbbfaaaGreat

/- Closing: what evidence and Truths that are handed in read as. -/
namespace Go.Proofs.YtffdjecdcbbfaaaGreat
open Go Go.RowKit Go.ChangeShapes Go.WideShapes Go.ChangeAt

def tEvR : Ty Ev where
  sz := 2
  rep := EvR
  len h := by obtain ⟨_, _, _, _, _, _, rfl, -⟩ := h.ex; rfl
  keep hk h := h.keep hk
  more hk h := h.more hk
theorem rd_is : Rd Tryz.prog 36 (tSl tInt) := inferInstance
theorem rd_rg : Rd Tryz.prog 101 tRg := by
  refine Rd.of (fun y : Int × Int => (⟨y.1, y.2⟩ : Rg)) rd_range ?_
  rintro W cs ⟨s, u⟩ ⟨_, _, rfl, ⟨rfl, -⟩, ⟨rfl, -⟩⟩
  rfl
theorem rd_su : Rd Tryz.prog 70 tSu := by
  refine Rd.of (fun y : Int × Int × Int => (⟨y.1, y.2.1, y.2.2⟩ : Su))
    (Rd.struct Tryz.underlying70 (by kernel_rfl) fun n => .cons (rdAt Tryz.prog 3 tInt n) rfl (.cons (rdAt Tryz.prog 3 tInt n) rfl (.one (rdAt Tryz.prog 3 tInt n) rfl))) ?_
  rintro W cs ⟨s, u, d⟩ ⟨_, _, rfl, ⟨rfl, -⟩, _, _, rfl, ⟨rfl, -⟩, ⟨rfl, -⟩⟩
  rfl
instance : Rd Tryz.prog 101 tRg := rd_rg
instance : Rd Tryz.prog 70 tSu := rd_su
theorem rd_rgs : Rd Tryz.prog 57 (tSl tRg) := inferInstance
theorem rd_wave : Rd Tryz.prog 59 tWv := Rd.map (g := fun y : Int × List Rg × List Rg × List Rg => (⟨y.1, y.2.1, y.2.2.1, y.2.2.2⟩ : Wv))
    (Rd.struct Tryz.underlying59 (by kernel_rfl) fun n => .cons (rdAt Tryz.prog 3 tInt n) rfl (.cons (rd_rgs.h n) rfl (.cons (rd_rgs.h n) rfl (.one (rd_rgs.h n) rfl)))) fun _ => rfl
theorem rd_tru : Rd Tryz.prog 61 tTru := Rd.map (g := fun y : List Int × List Int × List Int × List Int × List Int => (⟨y.1, y.2.1, y.2.2.1, y.2.2.2.1, y.2.2.2.2⟩ : Tru))
    (Rd.struct Tryz.underlying61 (by kernel_rfl) fun n => .cons (rd_is.h n) rfl (.cons (rd_is.h n) rfl (.cons (rd_is.h n) rfl (.cons (rd_is.h n) rfl (.one (rd_is.h n) rfl))))) fun _ => rfl
instance : Rd Tryz.prog 59 tWv := rd_wave
instance : Rd Tryz.prog 61 tTru := rd_tru
theorem rd_waves : Rd Tryz.prog 32 (tSl tWv) := inferInstance
theorem rd_sus : Rd Tryz.prog 33 (tSl tSu) := inferInstance
theorem rd_trus : Rd Tryz.prog 42 (tSl tTru) := inferInstance
theorem rd_ev : Rd Tryz.prog 35 tEvR := by
  refine Rd.of (fun y : List Wv × List Su => (⟨y.1, y.2⟩ : Ev))
    (Rd.struct Tryz.underlying35 (by kernel_rfl) fun n => .cons (rd_waves.h n) rfl (.one (rd_sus.h n) rfl)) ?_
  rintro W cs ⟨l1, l2⟩ ⟨_, _, rfl, ⟨A1, n1, c1, rfl, h1, g1⟩, A2, n2, c2, rfl, h2, g2⟩
  exact EvR.of_ ⟨A1, n1, c1, A2, n2, c2, rfl, h1, h2, g1, g2⟩
end Go.Proofs.YtffdjecdcbbfaaaGreat
