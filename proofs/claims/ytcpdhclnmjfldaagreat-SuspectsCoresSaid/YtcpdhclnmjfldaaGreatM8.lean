/- Parts of the proof: E7 E8 E9 Ea Eb Ec. -/
import Derived.Test.YtcpdhclnmjfldaaGreatM7
import Derived.Test.YtcpdhclnmjfldaaGreatM3
import Derived.Test.YtcpdhclnmjfldaaGreatM4

/- Layer 48: contract of Check. -/
namespace Go.Proofs.YtcpdhclnmjfldaaGreat
open Go Go.RowKit

theorem wv_open {D : Nat → Prop} {w : World} {cs : List Value} {x : Wv} (h : tWv.rep D w cs x) : ∃ H1 h1 k1 O1 o1 k2 T1 t1 k3, cs = [iv x.hour, .slice H1 h1 k1, .slice O1 o1 k2, .slice T1 t1 k3] ∧ I64 x.hour ∧ SlR tRg D w H1 h1 x.heads ∧ SlR tRg D w O1 o1 x.outlets ∧ SlR tRg D w T1 t1 x.tails := by
  obtain ⟨_, _, rfl, ⟨rfl, hh⟩, _, _, rfl, ⟨H1, h1, k1, rfl, g1, -⟩, _, _, rfl, ⟨O1, o1, k2, rfl, g2, -⟩, T1, t1, k3, rfl, g3, -⟩ := h
  exact ⟨H1, h1, k1, O1, o1, k2, T1, t1, k3, rfl, hh, g1, g2, g3⟩
theorem evErr_480 {d : Dist} {x : Ev} (h0 : dErr d = 0) (h1 : ¬ (x.waves.length > 24 ∨ x.suspects.length > 12)) (h2 : (wavesB d (-1) x.waves && susB d (0, -1) x.suspects) = false) : evErr d x = 480 := by
  unfold evErr; rw [if_neg (by simp [h0]), if_neg h1, h2, if_neg (by simp)]
section
variable {D : Nat → Prop} {w : World}
set_option maxRecDepth 8000 in
theorem c_eCheck48 {csd csx : List Value} {d : Dist} {x : Ev} (hd : DiR D w csd d) (hx : EvR D w csx x) : CallZ Tryz.prog 49 #[.agg csd.toArray, .agg csx.toArray] w
    (fun v w' => v = iv (evErr d x) ∧ Ext w w') := by
  have hd := hd.more (D' := fun b => b < w.heap.size) fun b hb _ => hb
  have hx := hx.more (D' := fun b => b < w.heap.size) fun b hb _ => hb
  obtain ⟨A1, n1, c1, A2, n2, c2, A3, n3, c3, A4, n4, c4, A5, n5, c5, A6, n6, c6, rfl, hr, hfa, -⟩ := hd.ex
  obtain ⟨W1, m1, e1, S1, m2, e2, rfl, hw, hs, -⟩ := hx.ex
  have ln := hr.len
  have lf := hfa.len
  have lw := hw.len
  have ls := hs.len
  have lnb := hr.le
  have lfb := hfa.le
  refine fn_rule (args := [.agg #[.string d.name, iv d.hours, iv d.cap, iv d.start, .slice A1 n1 c1, .slice A2 n2 c2, .slice A3 n3 c3, .slice A4 n4 c4, .slice A5 n5 c5, .slice A6 n6 c6], .agg #[.slice W1 m1 e1, .slice S1 m2 e2]]) Tryz.func49 (by kernel_rfl) ?_
  refine box (fun bd w1 h1 => ?_)
  refine box (fun bx w2 h2 => ?_)
  have x2 := h1.ext.trans h2.ext
  have Bd : Blk w2 bd 31 [.string d.name, iv d.hours, iv d.cap, iv d.start, .slice A1 n1 c1, .slice A2 n2 c2, .slice A3 n3 c3, .slice A4 n4 c4, .slice A5 n5 c5, .slice A6 n6 c6] := h1.blk.ext h2.ext
  have Bx : Blk w2 bx 35 [.slice W1 m1 e1, .slice S1 m2 e2] := h2.blk
  refine ldA _ (.blk Bd) rfl ?_
  refine call_of (c_eCheck (hd.ext x2)) ?_
  rintro _ w3 ⟨rfl, x3⟩
  have x03 := x2.trans x3
  have Bd3 := Bd.ext x3
  have Bx3 := Bx.ext x3
  refine cN (fun q0 => ?_) (fun q0 => ?_)
  · exact ret1 (iv (dErr d)) rfl ⟨by unfold evErr; rw [if_pos q0], x03⟩
  have q0 : dErr d = 0 := q0
  have lim : (x.waves.length > 24 ∨ x.suspects.length > 12) → (iv 2 : Value) = iv (evErr d x) := fun h => by unfold evErr; rw [if_neg (by simp [q0]), if_pos h]
  refine fldA ?_
  refine ld (.slice W1 m1 e1) (Bx3.cell rfl) ?_
  refine len ?_
  refine cD (fun q1 => ?_) (fun q1 => ?_)
  · exact ret1 (iv 2) rfl ⟨lim (.inl (by omega)), x03⟩
  refine fldA ?_
  refine ld (.slice S1 m2 e2) (Bx3.cell rfl) ?_
  refine len ?_
  refine cD (fun q2 => ?_) (fun q2 => ?_)
  · exact ret1 (iv 2) rfl ⟨lim (.inr (by omega)), x03⟩
  have q12 : ¬ (x.waves.length > 24 ∨ x.suspects.length > 12) := by omega
  have bad : (wavesB d (-1) x.waves && susB d (0, -1) x.suspects) = false → (iv 480 : Value) = iv (evErr d x) := fun h => by rw [evErr_480 q0 q12 h]
  refine fldA ?_
  refine ld (.slice W1 m1 e1) (Bx3.cell rfl) ?_
  refine len ?_
  refine loop2 (fun (k : Nat) (last : Int) => [(30, iv (k : Int)), (5, iv last)]) (fun k last u => k ≤ m1 ∧ Ext w3 u ∧ wavesB d (-1) x.waves = wavesB d last (x.waves.drop k)) (fun k _ _ => m1 - k) 0 (-1) ⟨rfl, rfl, trivial⟩ ⟨by omega, .refl _ _, rfl⟩ rfl ?_
  rintro G k last u ⟨hk, xu, hwb⟩
  have x0u := x03.trans xu
  refine cD (fun hlt => ?_) (fun hge => ?_)
  · have hlt : k < m1 := by omega
    obtain ⟨b, o, cs, v, rfl, hv, hdv, -, hc, hrep⟩ := (hw.ext x0u).at_ hlt
    obtain ⟨H1, h1', k1, O1, o1, k2, T1, t1, k3, rfl, hi64, sh, so, st⟩ := wv_open hrep
    rw [hdv] at hwb
    have bad2 : waveB d last v = false → (iv 480 : Value) = iv (evErr d x) := fun h => bad (by rw [hwb]; unfold wavesB; rw [h]; rfl)
    refine idx k rfl hlt ?_
    refine ldA _ hc rfl ?_
    refine alloc (fun t u1 h1'' => ?_)
    refine stA (vs := [iv v.hour, .slice H1 h1' k1, .slice O1 o1 k2, .slice T1 t1 k3]) h1''.blk rfl (Nat.le_of_ble_eq_true rfl) (by simp [Value.oneCell']) (fun u2 tb s2 zs => ?_)
    have t1' := h1''.at_
    have xu2 : Ext u u2 := h1''.ext.then s2 fun b hb _ e => by omega
    have tb : Blk u2 t 92 [iv v.hour, .slice H1 h1' k1, .slice O1 o1 k2, .slice T1 t1 k3] := tb
    have Bd2 := (Bd3.ext xu).ext xu2
    have x02 := x0u.trans xu2
    refine fldA ?_
    refine ld (iv v.hour) (tb.cell rfl) ?_
    refine cD (fun q => ?_) (fun p1 => ?_)
    · exact ret1 (iv 480) rfl ⟨bad2 (by unfold waveB; rw [decide_eq_false (by omega)]; rfl), x02⟩
    refine fldA ?_
    refine ld (iv v.hour) (tb.cell rfl) ?_
    refine fldA ?_
    refine ld (iv d.hours) (Bd2.cell rfl) ?_
    refine cD (fun q => ?_) (fun p2 => ?_)
    · exact ret1 (iv 480) rfl ⟨bad2 (by unfold waveB; rw [decide_eq_true (by omega), decide_eq_false (by omega)]; rfl), x02⟩
    refine fldA ?_
    refine ld (.slice H1 h1' k1) (tb.cell rfl) ?_
    refine fldA ?_
    refine ld (.slice A1 n1 c1) (Bd2.cell rfl) ?_
    refine len ?_
    refine callE (c_right48 (m := d.reaches.length) (sh.ext xu2) (by omega)) (fun u3 g3 x3' => ?_) (fun u3 g3 x3' => ?_)
    rotate_left
    · exact ret1 (iv 480) rfl ⟨bad2 (by unfold waveB; rw [g3, decide_eq_true (by omega), decide_eq_true (by omega)]; rfl), x02.trans x3'⟩
    refine fldA ?_
    refine ld (.slice O1 o1 k2) ((tb.ext x3').cell rfl) ?_
    refine fldA ?_
    refine ld (.slice A2 n2 c2) ((Bd2.ext x3').cell rfl) ?_
    refine len ?_
    refine callE (c_right48 (m := d.farms.length) ((so.ext xu2).ext x3') (by omega)) (fun u4 g4 x4' => ?_) (fun u4 g4 x4' => ?_)
    rotate_left
    · exact ret1 (iv 480) rfl ⟨bad2 (by unfold waveB; rw [g3, g4, decide_eq_true (by omega), decide_eq_true (by omega)]; rfl), (x02.trans x3').trans x4'⟩
    refine fldA ?_
    refine ld (.slice T1 t1 k3) (((tb.ext x3').ext x4').cell rfl) ?_
    refine fldA ?_
    refine ld (.slice A1 n1 c1) (((Bd2.ext x3').ext x4').cell rfl) ?_
    refine len ?_
    refine callE (c_right48 (m := d.reaches.length) (((st.ext xu2).ext x3').ext x4') (by omega)) (fun u5 g5 x5' => ?_) (fun u5 g5 x5' => ?_)
    rotate_left
    · exact ret1 (iv 480) rfl ⟨bad2 (by unfold waveB; rw [g3, g4, g5, decide_eq_true (by omega), decide_eq_true (by omega)]; rfl), ((x02.trans x3').trans x4').trans x5'⟩
    have x25 := (x3'.trans x4').trans x5'
    refine fldA ?_
    refine ld (iv v.hour) ((tb.ext x25).cell rfl) ?_
    refine arI (by omega) ?_
    refine next2 (k + 1) v.hour ⟨rfl, rfl, trivial⟩ ⟨by omega, (xu.trans xu2).trans x25, ?_⟩ (by omega)
    rw [hwb]
    show (waveB d last v && wavesB d v.hour (x.waves.drop (k + 1))) = _
    unfold waveB
    rw [g3, g4, g5, decide_eq_true (by omega), decide_eq_true (by omega)]; rfl
  have hwt : wavesB d (-1) x.waves = true := by rw [hwb, List.drop_eq_nil_of_le (by omega)]; rfl
  clear hwb
  rw [hwt, Bool.true_and] at bad
  have Bdu := Bd3.ext xu
  have Bxu := Bx3.ext xu
  refine mmap (fun gm v1 hgm hv1 => ?_)
  have xv1 : Ext u v1 := by rw [hv1]; exact Kept.alloc _ _ _
  have M1 : MapFn .i64 v1 gm (fun _ => none) := by rw [hv1, hgm]; exact MapFn.new .i64 u
  have Bd1 := Bdu.ext xv1
  have Bx1 := Bxu.ext xv1
  have lbd := Bdu.lt
  have lbx := Bxu.lt
  refine fldA ?_
  refine ld (.slice A1 n1 c1) (Bd1.cell rfl) ?_
  refine len ?_
  refine mupd M1 (fun v2 M2 k2 z2 => ?_)
  refine fldA ?_
  refine ld (.slice A2 n2 c2) ((Bd1.kept k2 (by omega)).cell rfl) ?_
  refine len ?_
  refine mupd M2 (fun v3 M3 k3 z3 => ?_)
  refine fldA ?_
  refine ld (.slice A1 n1 c1) (((Bd1.kept k2 (by omega)).kept k3 (by omega)).cell rfl) ?_
  refine len ?_
  refine mupd M3 (fun v4 M4 k4 z4 => ?_)
  refine fldA ?_
  refine ld (.slice A1 n1 c1) ((((Bd1.kept k2 (by omega)).kept k3 (by omega)).kept k4 (by omega)).cell rfl) ?_
  refine len ?_
  refine mupd M4 (fun v5 M5 k5 z5 => ?_)
  have M5 : MapFn .i64 v5 gm (fset (fset (fset (fset (fun _ => none) 1 (iv (n1 : Int))) 2 (iv (n2 : Int))) 3 (iv (n1 : Int))) 4 (iv (n1 : Int))) := M5
  have xu5 : Ext u v5 := (((xv1.then k2 fun b hb _ => by omega).then k3 fun b hb _ => by omega).then k4 fun b hb _ => by omega).then k5 fun b hb _ => by omega
  have Bx5 := Bxu.ext xu5
  refine bld [iv 0, iv (-1)] (by kernel_rfl) ?_
  refine alloc (fun q v6 h6 => ?_)
  refine stA (vs := [iv 0, iv (-1)]) h6.blk rfl (Nat.le_of_ble_eq_true rfl) (by simp [Value.oneCell']) (fun v7 b7 k7 z7 => ?_)
  have b7 : Blk v7 q 126 [iv 0, iv (-1)] := b7
  have a6 := h6.at_
  have s6 := h6.size
  have su5 := xu5.size
  have x57 : Ext v5 v7 := h6.ext.then k7 fun b hb _ => by omega
  have x07 := (x0u.trans xu5).trans x57
  have M7 := M5.kept x57 trivial
  have lgm := M5.lt
  have Bx7 := Bx5.ext x57
  refine fldA ?_
  refine ld (.slice S1 m2 e2) (Bx7.cell rfl) ?_
  refine len ?_
  refine loop_rule (fun k : Nat => [(93, iv (k : Int))]) (fun k z => k ≤ m2 ∧ Kept (fun b => b ≠ q) v7 z ∧ ∃ b : Int × Int, Blk z q 126 [iv b.1, iv b.2] ∧ susB d (0, -1) x.suspects = susB d b (x.suspects.drop k)) (fun k _ => m2 - k) 0 ⟨rfl, trivial⟩ ⟨by omega, .refl _ _, (0, -1), b7, rfl⟩ rfl ?_
  rintro G3 j z ⟨hj, kz, bf, bz, hsb⟩
  have x5z : Ext v5 z := x57.then kz fun b hb _ e => by omega
  have x0z := (x0u.trans xu5).trans x5z
  refine cD (fun hlt => ?_) (fun hge => ?_)
  rotate_left
  · have hst : susB d (0, -1) x.suspects = true := by rw [hsb, List.drop_eq_nil_of_le (by omega)]; rfl
    exact ret1 (iv 0) rfl ⟨by unfold evErr; rw [if_neg (by simp [q0]), if_neg q12, hwt, hst]; rfl, x0z⟩
  have hlt : j < m2 := by omega
  obtain ⟨b, o, cs, s, rfl, hsv, hds, -, hc, rfl⟩ := (hs.ext x0z).at_ hlt
  rw [hds] at hsb
  have bad3 : suB d bf s = false → (iv 480 : Value) = iv (evErr d x) := fun h => bad (by rw [hsb]; unfold susB; rw [h]; rfl)
  refine idx j rfl hlt ?_
  refine ldA s.c hc rfl ?_
  refine alloc (fun t z1 h1'' => ?_)
  refine stA (vs := s.c) h1''.blk rfl (Nat.le_of_ble_eq_true rfl) (by simp [Value.oneCell']) (fun z2 tb s2 zs => ?_)
  have t1' := h1''.at_
  have xz2 : Ext z z2 := h1''.ext.then s2 fun b hb _ e => by omega
  have tb : Blk z2 t 112 s.c := tb
  have bz2 := bz.ext xz2
  have bzl := bz.lt
  have x02 := x0z.trans xz2
  have Mz := (M5.kept x5z trivial).kept xz2 trivial
  refine fldA ?_
  refine ld (iv s.index) (tb.cell rfl) ?_
  refine cD (fun q => ?_) (fun p1 => ?_)
  · exact ret1 (iv 480) rfl ⟨bad3 (by unfold suB; rw [decide_eq_false (by omega)]; rfl), x02⟩
  refine fldA ?_
  refine ld (iv s.index) (tb.cell rfl) ?_
  refine fldA ?_
  refine ld (iv s.kind) (tb.cell rfl) ?_
  refine look1 (f := fset (fset (fset (fset (fun _ => none) 1 (iv (n1 : Int))) 2 (iv (n2 : Int))) 3 (iv (n1 : Int))) 4 (iv (n1 : Int))) (iv (manyN d s.kind)) (fun y hy => by subst hy; exact Mz) (by rw [fset_many]; unfold manyN; rw [ln, lf]) ?_
  refine cD (fun q => ?_) (fun p2 => ?_)
  · exact ret1 (iv 480) rfl ⟨bad3 (by unfold suB; rw [decide_eq_true (by omega), decide_eq_false (by omega)]; rfl), x02⟩
  have pre : ∀ e, suB d bf s = (inI s.most 1 1073741824 && e) → suB d bf s = (inI s.most 1 1073741824 && e) := fun _ h => h
  refine fldA ?_
  refine ld (iv s.most) (tb.cell rfl) ?_
  refine cD (fun q => ?_) (fun p3 => ?_)
  · exact ret1 (iv 480) rfl ⟨bad3 (by
      cases h : suB d bf s with
      | false => rfl
      | true => unfold suB at h; simp only [Bool.and_eq_true, inI_iff] at h; omega), x02⟩
  refine fldA ?_
  refine ld (iv s.most) (tb.cell rfl) ?_
  refine cD (fun q => ?_) (fun p4 => ?_)
  · exact ret1 (iv 480) rfl ⟨bad3 (by
      cases h : suB d bf s with
      | false => rfl
      | true => unfold suB at h; simp only [Bool.and_eq_true, inI_iff] at h; omega), x02⟩
  refine fldA ?_
  refine ld (iv s.kind) (tb.cell rfl) ?_
  refine fldA ?_
  refine ld (iv bf.1) (bz2.cell rfl) ?_
  refine cD (fun q => ?_) (fun p5 => ?_)
  · exact ret1 (iv 480) rfl ⟨bad3 (by
      cases h : suB d bf s with
      | false => rfl
      | true => unfold suB at h; simp only [Bool.and_eq_true, Bool.or_eq_true, decide_eq_true_eq] at h; omega), x02⟩
  have ok : (bf.1 < s.kind ∨ (bf.1 = s.kind ∧ bf.2 < s.index)) → suB d bf s = true := fun h => by
    unfold suB
    simp only [Bool.and_eq_true, Bool.or_eq_true, decide_eq_true_eq, inI_iff]
    exact ⟨by omega, by omega, ⟨by omega, by omega⟩, h⟩
  refine fldA ?_
  refine ld (iv s.kind) (tb.cell rfl) ?_
  refine fldA ?_
  refine ld (iv bf.1) (bz2.cell rfl) ?_
  refine cD (fun p6 => ?_) (fun p6 => ?_)
  · refine fldA ?_
    refine ld (iv s.index) (tb.cell rfl) ?_
    refine fldA ?_
    refine ld (iv bf.2) (bz2.cell rfl) ?_
    refine cD (fun p7 => ?_) (fun p7 => ?_)
    · exact ret1 (iv 480) rfl ⟨bad3 (by
        cases h : suB d bf s with
        | false => rfl
        | true => unfold suB at h; simp only [Bool.and_eq_true, Bool.or_eq_true, decide_eq_true_eq] at h; omega), x02⟩
    have hok := ok (.inr ⟨by omega, by omega⟩)
    refine fldA ?_
    refine ld (iv s.kind) (tb.cell rfl) ?_
    refine fldA ?_
    refine ld (iv s.index) (tb.cell rfl) ?_
    refine bld [iv s.kind, iv s.index] (by kernel_rfl) ?_
    refine stA (vs := [iv s.kind, iv s.index]) bz2 rfl (Nat.le_of_ble_eq_true rfl) (by simp [Value.oneCell']) (fun z3 b3 k3 z3' => ?_)
    refine arI (by omega) ?_
    refine next (j + 1) ⟨rfl, trivial⟩ ⟨by omega, (kz.ext xz2).trans k3, (s.kind, s.index), b3, ?_⟩ (by omega)
    rw [hsb]
    show (suB d bf s && susB d (s.kind, s.index) (x.suspects.drop (j + 1))) = _
    rw [hok]; rfl
  · have hok := ok (.inl (by omega))
    refine fldA ?_
    refine ld (iv s.kind) (tb.cell rfl) ?_
    refine fldA ?_
    refine ld (iv s.index) (tb.cell rfl) ?_
    refine bld [iv s.kind, iv s.index] (by kernel_rfl) ?_
    refine stA (vs := [iv s.kind, iv s.index]) bz2 rfl (Nat.le_of_ble_eq_true rfl) (by simp [Value.oneCell']) (fun z3 b3 k3 z3' => ?_)
    refine arI (by omega) ?_
    refine next (j + 1) ⟨rfl, trivial⟩ ⟨by omega, (kz.ext xz2).trans k3, (s.kind, s.index), b3, ?_⟩ (by omega)
    rw [hsb]
    show (suB d bf s && susB d (s.kind, s.index) (x.suspects.drop (j + 1))) = _
    rw [hok]; rfl
end
end Go.Proofs.YtcpdhclnmjfldaaGreat

/- Layer 48: contracts of ask, meter. -/
namespace Go.Proofs.YtcpdhclnmjfldaaGreat
open Go Go.RowKit

/-! ### suspects, plainly -/
def lexLt (a b : Int × Int) : Prop := a.1 < b.1 ∨ (a.1 = b.1 ∧ a.2 < b.2)
abbrev suKey (s : Su) : Int × Int := (s.kind, s.index)
theorem suB_iff {d : Dist} {b : Int × Int} {s : Su} : suB d b s = true ↔ (0 ≤ s.index ∧ s.index < manyN d s.kind) ∧ (1 ≤ s.most ∧ s.most ≤ 1073741824) ∧ lexLt b (suKey s) := by
  unfold suB lexLt
  simp only [Bool.and_eq_true, Bool.or_eq_true, decide_eq_true_eq, inI_iff]
  exact ⟨fun ⟨h1, h2, h3, h4⟩ => ⟨⟨h1, h2⟩, h3, h4⟩, fun ⟨⟨h1, h2⟩, h3, h4⟩ => ⟨h1, h2, h3, h4⟩⟩
theorem lexLt.trans {a b c : Int × Int} (h : lexLt a b) (k : lexLt b c) : lexLt a c := by unfold lexLt at *; omega
theorem sus_pair {d : Dist} : ∀ {l : List Su} {b : Int × Int}, susB d b l = true → (∀ s ∈ l, lexLt b (suKey s) ∧ (0 ≤ s.index ∧ s.index < manyN d s.kind) ∧ 1 ≤ s.most ∧ s.most ≤ 1073741824) ∧ l.Pairwise fun s t => lexLt (suKey s) (suKey t)
  | [], _, _ => ⟨fun s h => (by cases h), .nil⟩
  | s :: r, b, h => by
    unfold susB at h
    rw [Bool.and_eq_true] at h
    obtain ⟨h1, h2, h3⟩ := suB_iff.1 h.1
    obtain ⟨k1, k2⟩ := sus_pair h.2
    refine ⟨fun t ht => ?_, List.pairwise_cons.2 ⟨fun t ht => (k1 t ht).1, k2⟩⟩
    rcases List.mem_cons.1 ht with rfl | ht
    · exact ⟨h3, h1, h2⟩
    · exact ⟨h3.trans (k1 t ht).1, (k1 t ht).2⟩
theorem sus_ne {d : Dist} {x : Ev} (h : susB d (0, -1) x.suspects = true) {i j : Nat} (hij : i < j) (hj : j < x.suspects.length) : suKey (suE x i) ≠ suKey (suE x j) := by
  have hp := (sus_pair h).2
  rw [List.pairwise_iff_getElem] at hp
  have := hp i j (by omega) hj hij
  unfold suE
  rw [List.getD_eq_getElem?_getD, List.getD_eq_getElem?_getD, List.getElem?_eq_getElem (by omega), List.getElem?_eq_getElem hj]
  simp only [Option.getD_some]
  intro e
  rw [e] at this
  unfold lexLt at this
  omega
theorem blF_nil {x : Ev} : blF x [] = fun _ => none := rfl
theorem blF_app {x : Ev} {l : List Int} {i : Int} (key : Int × Int) (h : blF x l (suKey (suAt x i)) = none) : blF x (l ++ [i]) key = if key = suKey (suAt x i) then some (suAt x i).most else blF x l key := by
  unfold blF at *
  rw [List.findSome?_append]
  by_cases e : key = suKey (suAt x i)
  · subst e
    rw [if_pos rfl, h, Option.none_or, List.findSome?_cons]
    simp
  · rw [if_neg e]
    have : [i].findSome? (fun i => if ((suAt x i).kind, (suAt x i).index) = key then some (suAt x i).most else none) = none := by
      rw [List.findSome?_cons, if_neg (fun e2 => e e2.symm)]; rfl
    rw [this]
    cases l.findSome? _ <;> rfl
theorem blF_none {x : Ev} {l : List Int} {key : Int × Int} (h : ∀ i ∈ l, suKey (suAt x i) ≠ key) : blF x l key = none := by
  unfold blF
  rw [List.findSome?_eq_none_iff]
  intro i hi
  rw [if_neg (h i hi)]
theorem blF_some {x : Ev} {l : List Int} {key : Int × Int} {n : Int} (h : blF x l key = some n) : ∃ i ∈ l, suKey (suAt x i) = key ∧ n = (suAt x i).most := by
  unfold blF at h
  obtain ⟨i, hi, h2⟩ := List.exists_of_findSome?_eq_some h
  by_cases e : ((suAt x i).kind, (suAt x i).index) = key
  · rw [if_pos e] at h2; injection h2 with h2; exact ⟨i, hi, e, h2.symm⟩
  · rw [if_neg e] at h2; cases h2
theorem askErr_ok {d : Dist} {x : Ev} {set : List Int} : askErr d x set = 0 ↔ evErr d x = 0 ∧ setB x.suspects.length (-1) set = true := by
  unfold askErr
  by_cases h : evErr d x = 0
  · rw [if_neg (by simp [h])]
    cases hs : setB x.suspects.length (-1) set <;> simp [h]
  · rw [if_pos h]; simp [h]
theorem evErr_ok {d : Dist} {x : Ev} (h : evErr d x = 0) : dErr d = 0 ∧ x.waves.length ≤ 24 ∧ x.suspects.length ≤ 12 ∧ wavesB d (-1) x.waves = true ∧ susB d (0, -1) x.suspects = true := by
  unfold evErr at h
  by_cases h0 : dErr d = 0
  · rw [if_neg (by simp [h0])] at h
    by_cases h1 : x.waves.length > 24 ∨ x.suspects.length > 12
    · rw [if_pos h1] at h; cases h
    · rw [if_neg h1] at h
      cases h2 : (wavesB d (-1) x.waves && susB d (0, -1) x.suspects) with
      | false => rw [h2] at h; cases h
      | true => rw [Bool.and_eq_true] at h2; exact ⟨h0, by omega, by omega, h2.1, h2.2⟩
  · rw [if_pos h0] at h; exact absurd h h0
/-- The map of who is to blame. -/
noncomputable def blM (x : Ev) (set : List Int) (key : Int × Int) : Option Value := (blF x set key).map fun n => iv n
theorem keyS : ∃ f0 f1, KeyS Tryz.prog 126 3 f0 f1 := ⟨_, _, ⟨Tryz.underlying126, rfl, rfl, rfl, rfl, by decide, by decide, by kernel_rfl, fun _ _ _ _ => by kernel_rfl⟩⟩
instance : KeyL Tryz.prog 126 kv2 := by
  obtain ⟨_, _, h⟩ := keyS
  exact h.law

section
variable {D : Nat → Prop} {w : World}
set_option maxRecDepth 8000 in
theorem c_ask {csd csx : List Value} {d : Dist} {x : Ev} {set : List Int} {A : Option Addr} {n c : Nat} (hd : DiR D w csd d) (hx : EvR D w csx x) (hset : SlR tInt D w A n set) : CallZ Tryz.prog 52 #[.agg csd.toArray, .agg csx.toArray, .slice A n c] w
    (fun v w' => Ext w w' ∧ ∃ q, v = .tuple #[q, iv (askErr d x set)] ∧ (∃ cs : List Value, q = .agg cs.toArray ∧ cs.length = 13 ∧ ∀ y ∈ cs, y.oneCell' = true) ∧ (askErr d x set = 0 → ∃ g, q = .agg (csd ++ (csx ++ [Value.map (some g)])).toArray ∧ MapG kv2 w' g (blM x set) ∧ w.heap.size ≤ g)) := by
  have hd := hd.more (D' := fun b => b < w.heap.size) fun b hb _ => hb
  have hx := hx.more (D' := fun b => b < w.heap.size) fun b hb _ => hb
  obtain ⟨A1, n1, c1, A2, n2, c2, A3, n3, c3, A4, n4, c4, A5, n5, c5, A6, n6, c6, rfl, hr, hfa, -⟩ := hd.ex
  obtain ⟨W1, m1, e1, S1, m2, e2, rfl, hw, hs, -⟩ := hx.ex
  have ls := hs.len
  have lse := hset.len
  have lbe := hset.le
  refine fn_rule (args := [.agg #[.string d.name, iv d.hours, iv d.cap, iv d.start, .slice A1 n1 c1, .slice A2 n2 c2, .slice A3 n3 c3, .slice A4 n4 c4, .slice A5 n5 c5, .slice A6 n6 c6], .agg #[.slice W1 m1 e1, .slice S1 m2 e2], .slice A n c]) Tryz.func52 (by kernel_rfl) ?_
  refine box (fun bd w1 h1 => ?_)
  refine box (fun bx w2 h2 => ?_)
  refine alloc (fun bq w3 h3 => ?_)
  have x3 := (h1.ext.trans h2.ext).trans h3.ext
  have Bd : Blk w3 bd 31 [.string d.name, iv d.hours, iv d.cap, iv d.start, .slice A1 n1 c1, .slice A2 n2 c2, .slice A3 n3 c3, .slice A4 n4 c4, .slice A5 n5 c5, .slice A6 n6 c6] := (h1.blk.ext h2.ext).ext h3.ext
  have Bx : Blk w3 bx 35 [.slice W1 m1 e1, .slice S1 m2 e2] := h2.blk.ext h3.ext
  have Bq : Blk w3 bq 86 [.string ByteArray.empty, iv 0, iv 0, iv 0, .slice none 0 0, .slice none 0 0, .slice none 0 0, .slice none 0 0, .slice none 0 0, .slice none 0 0, .slice none 0 0, .slice none 0 0, .map none] := h3.blk
  have a1 := h1.at_
  have a2 := h2.at_
  have a3 := h3.at_
  have s1 := h1.size
  have s2 := h2.size
  have s3 := h3.size
  refine ldA _ (.blk Bd) rfl ?_
  refine ldA _ (.blk Bx) rfl ?_
  refine call_of (c_eCheck48 (hd.ext x3) (hx.ext x3)) ?_
  rintro _ w4 ⟨rfl, x4⟩
  have x04 := x3.trans x4
  have Bq4 := Bq.ext x4
  have s4 := x4.size
  refine cN (fun q0 => ?_) (fun q0 => ?_)
  · refine ldA _ (.blk Bq4) rfl ?_
    refine stA (vs := [.string ByteArray.empty, iv 0, iv 0, iv 0, .slice none 0 0, .slice none 0 0, .slice none 0 0, .slice none 0 0, .slice none 0 0, .slice none 0 0, .slice none 0 0, .slice none 0 0, .map none]) Bq4 rfl (Nat.le_of_ble_eq_true rfl) (by simp [Value.oneCell']) (fun w5 b5 k5 s5 => ?_)
    have b5 : Blk w5 bq 86 [.string ByteArray.empty, iv 0, iv 0, iv 0, .slice none 0 0, .slice none 0 0, .slice none 0 0, .slice none 0 0, .slice none 0 0, .slice none 0 0, .slice none 0 0, .slice none 0 0, .map none] := b5
    refine ret ?_
    refine resL _ (holds_agg (CellsAt.blk b5) rfl) ?_
    have e : askErr d x set = evErr d x := by unfold askErr; rw [if_pos q0]
    exact ⟨x04.then k5 fun b hb _ => by omega, _, by rw [e]; rfl, ⟨_, rfl, rfl, by simp [Value.oneCell']⟩, fun h => absurd (e ▸ h) q0⟩
  have q0 : evErr d x = 0 := q0
  obtain ⟨-, -, hS12, -, hsus⟩ := evErr_ok q0
  refine ldA _ (.blk (Bd.ext x4)) rfl ?_
  refine ldA _ (.blk (Bx.ext x4)) rfl ?_
  refine mmap (fun gm w5 hgm hw5 => ?_)
  have x45 : Ext w4 w5 := by rw [hw5]; exact Kept.alloc _ _ _
  have M5 : MapG kv2 w5 gm (fun _ => none) := by rw [hw5, hgm]; exact MapG.new kv2 w4
  have gl := M5.lt
  refine bld [.string d.name, iv d.hours, iv d.cap, iv d.start, .slice A1 n1 c1, .slice A2 n2 c2, .slice A3 n3 c3, .slice A4 n4 c4, .slice A5 n5 c5, .slice A6 n6 c6, .slice W1 m1 e1, .slice S1 m2 e2, .map (some gm)] (by kernel_rfl) ?_
  refine stA (vs := [.string d.name, iv d.hours, iv d.cap, iv d.start, .slice A1 n1 c1, .slice A2 n2 c2, .slice A3 n3 c3, .slice A4 n4 c4, .slice A5 n5 c5, .slice A6 n6 c6, .slice W1 m1 e1, .slice S1 m2 e2, .map (some gm)]) (Bq4.ext x45) rfl (Nat.le_of_ble_eq_true rfl) (by simp [Value.oneCell']) (fun w6 b6 k6 s6 => ?_)
  have b6 : Blk w6 bq 86 [.string d.name, iv d.hours, iv d.cap, iv d.start, .slice A1 n1 c1, .slice A2 n2 c2, .slice A3 n3 c3, .slice A4 n4 c4, .slice A5 n5 c5, .slice A6 n6 c6, .slice W1 m1 e1, .slice S1 m2 e2, .map (some gm)] := b6
  have s45 := x45.size
  have lq := Bq4.lt
  have x46 : Kept (fun b => b ≠ bq) w4 w6 := (Ext.any x45).then k6 fun b _ hb => hb
  have Bx6 := (Bx.ext x4).kept x46 (by omega)
  have M6 := M5.kept k6 (by omega)
  have x06 : Ext w w6 := x04.then x46 fun b hb _ => by omega
  refine len ?_
  refine loop2 (fun (k : Nat) (last : Int) => [(25, iv (k : Int)), (8, iv last)]) (fun k last u => k ≤ n ∧ Kept (fun b => b ≠ gm) w6 u ∧ setB x.suspects.length (-1) set = setB x.suspects.length last (set.drop k) ∧ -1 ≤ last ∧ last < 9223372036854775807 ∧ (∀ j ∈ set.take k, 0 ≤ j ∧ j ≤ last ∧ j < x.suspects.length) ∧ MapG kv2 u gm (blM x (set.take k))) (fun k _ _ => n - k) 0 (-1) ⟨rfl, rfl, trivial⟩
    ⟨by omega, .refl _ _, rfl, by omega, by omega, fun j h => by simp at h, M6⟩ rfl ?_
  rintro G k last u ⟨hk, ku, hsb, hl0, hl1, hall, Mu⟩
  have bqu := b6.kept ku (by omega)
  have Bxu := Bx6.kept ku (by omega)
  have lqu := bqu.lt
  have x0u : Ext w u := x06.then ku fun b hb _ => by omega
  refine cD (fun hlt => ?_) (fun hge => ?_)
  · have hlt : k < n := by omega
    obtain ⟨b, o, cs, i, rfl, hi, hdi, -, hc, rfl, hi64⟩ := (hset.ext x0u).at_ hlt
    rw [hdi] at hsb
    have err : ¬ (last < i ∧ i < x.suspects.length) → askErr d x set = 480 := fun h => by
      have hf : setB x.suspects.length (-1) set = false := by
        rw [hsb]; unfold setB
        by_cases h1 : last < i
        · rw [decide_eq_true h1, decide_eq_false (fun h2 => h ⟨h1, h2⟩)]; rfl
        · rw [decide_eq_false h1]; rfl
      unfold askErr
      rw [if_neg (by simp [q0]), hf, if_neg (by simp)]
    refine idx k rfl hlt ?_
    refine ld (iv i) (hc 0 _ rfl) ?_
    refine cD (fun q => ?_) (fun p1 => ?_)
    · refine ldA _ (.blk bqu) rfl ?_
      refine stA (vs := [.string d.name, iv d.hours, iv d.cap, iv d.start, .slice A1 n1 c1, .slice A2 n2 c2, .slice A3 n3 c3, .slice A4 n4 c4, .slice A5 n5 c5, .slice A6 n6 c6, .slice W1 m1 e1, .slice S1 m2 e2, .map (some gm)]) bqu rfl (Nat.le_of_ble_eq_true rfl) (by simp [Value.oneCell']) (fun u2 b2 k2 s2 => ?_)
      have b2 : Blk u2 bq 86 [.string d.name, iv d.hours, iv d.cap, iv d.start, .slice A1 n1 c1, .slice A2 n2 c2, .slice A3 n3 c3, .slice A4 n4 c4, .slice A5 n5 c5, .slice A6 n6 c6, .slice W1 m1 e1, .slice S1 m2 e2, .map (some gm)] := b2
      refine ret ?_
      refine resL _ (holds_agg (CellsAt.blk b2) rfl) ?_
      have e := err (by omega)
      exact ⟨x0u.then k2 fun b hb _ => by omega, _, by rw [e]; rfl, ⟨_, rfl, rfl, by simp [Value.oneCell']⟩, fun h => by rw [e] at h; cases h⟩
    refine fldA ?_
    refine ld (.slice S1 m2 e2) (Bxu.cell rfl) ?_
    refine len ?_
    refine cD (fun q => ?_) (fun p2 => ?_)
    · refine ldA _ (.blk bqu) rfl ?_
      refine stA (vs := [.string d.name, iv d.hours, iv d.cap, iv d.start, .slice A1 n1 c1, .slice A2 n2 c2, .slice A3 n3 c3, .slice A4 n4 c4, .slice A5 n5 c5, .slice A6 n6 c6, .slice W1 m1 e1, .slice S1 m2 e2, .map (some gm)]) bqu rfl (Nat.le_of_ble_eq_true rfl) (by simp [Value.oneCell']) (fun u2 b2 k2 s2 => ?_)
      have b2 : Blk u2 bq 86 [.string d.name, iv d.hours, iv d.cap, iv d.start, .slice A1 n1 c1, .slice A2 n2 c2, .slice A3 n3 c3, .slice A4 n4 c4, .slice A5 n5 c5, .slice A6 n6 c6, .slice W1 m1 e1, .slice S1 m2 e2, .map (some gm)] := b2
      refine ret ?_
      refine resL _ (holds_agg (CellsAt.blk b2) rfl) ?_
      have e := err (by omega)
      exact ⟨x0u.then k2 fun b hb _ => by omega, _, by rw [e]; rfl, ⟨_, rfl, rfl, by simp [Value.oneCell']⟩, fun h => by rw [e] at h; cases h⟩
    obtain ⟨iN, rfl⟩ : ∃ iN : Nat, i = (iN : Int) := ⟨i.toNat, by omega⟩
    have hiS : iN < m2 := by omega
    obtain ⟨bs', os, cs', s, rfl, hsv, -, -, hcs, rfl⟩ := (hs.ext x0u).at_ hiS
    have hse : suAt x (iN : Int) = s := by
      unfold suAt
      rw [Int.toNat_natCast, List.getD_eq_getElem?_getD, hsv]; rfl
    refine fldA ?_
    refine ld (.slice (some (ad bs' os)) m2 e2) (Bxu.cell rfl) ?_
    refine idx iN rfl hiS ?_
    refine ldA s.c hcs rfl ?_
    refine alloc (fun t u1 h1'' => ?_)
    refine stA (vs := s.c) h1''.blk rfl (Nat.le_of_ble_eq_true rfl) (by simp [Value.oneCell']) (fun u2 tb s2' zs => ?_)
    have t1' := h1''.at_
    have xu2 : Ext u u2 := h1''.ext.then s2' fun b hb _ e => by omega
    have tb : Blk u2 t 112 s.c := tb
    have M2 := Mu.kept xu2 trivial
    refine fldA ?_
    refine ld (.map (some gm)) ((bqu.ext xu2).cell rfl) ?_
    refine fldA ?_
    refine ld (iv s.kind) (tb.cell rfl) ?_
    refine fldA ?_
    refine ld (iv s.index) (tb.cell rfl) ?_
    refine bld [iv s.kind, iv s.index] (by kernel_rfl) ?_
    refine fldA ?_
    refine ld (iv s.most) (tb.cell rfl) ?_
    refine mupdG (kv := kv2) (s.kind, s.index) M2 (fun u3 M3 k3 z3 => ?_)
    refine arI (by omega) ?_
    have htk : set.take (k + 1) = set.take k ++ [(iN : Int)] := by rw [List.take_add_one, hi]; rfl
    refine next2 (k + 1) (iN : Int) ⟨rfl, rfl, trivial⟩ ⟨by omega, (ku.ext xu2).trans k3, ?_, by omega, by omega, fun j hj => ?_, ?_⟩ (by omega)
    · rw [hsb]
      show (decide (last < (iN : Int)) && (decide ((iN : Int) < x.suspects.length) && setB _ _ _)) = _
      rw [decide_eq_true (by omega), decide_eq_true (by omega)]; rfl
    · rw [htk, List.mem_append, List.mem_singleton] at hj
      rcases hj with hj | hj
      · have := hall j hj; omega
      · omega
    · have hno : blF x (set.take k) (suKey (suAt x (iN : Int))) = none := blF_none fun j hj => by
        obtain ⟨h1, h2, h3⟩ := hall j hj
        have := sus_ne hsus (i := j.toNat) (j := iN) (by omega) (by omega)
        exact this
      have e : blM x (set.take (k + 1)) = pset (blM x (set.take k)) (s.kind, s.index) (iv s.most) := by
        funext key
        unfold blM pset
        rw [htk, blF_app key hno, hse]
        by_cases e : key = suKey s
        · rw [if_pos e, if_pos e]; rfl
        · rw [if_neg e, if_neg e]
      rw [e]; exact M3
  · have hse : askErr d x set = 0 := askErr_ok.2 ⟨q0, by rw [hsb, List.drop_eq_nil_of_le (by omega)]; rfl⟩
    refine ldA _ (.blk bqu) rfl ?_
    refine stA (vs := [.string d.name, iv d.hours, iv d.cap, iv d.start, .slice A1 n1 c1, .slice A2 n2 c2, .slice A3 n3 c3, .slice A4 n4 c4, .slice A5 n5 c5, .slice A6 n6 c6, .slice W1 m1 e1, .slice S1 m2 e2, .map (some gm)]) bqu rfl (Nat.le_of_ble_eq_true rfl) (by simp [Value.oneCell']) (fun u2 b2 k2 s2 => ?_)
    have b2 : Blk u2 bq 86 [.string d.name, iv d.hours, iv d.cap, iv d.start, .slice A1 n1 c1, .slice A2 n2 c2, .slice A3 n3 c3, .slice A4 n4 c4, .slice A5 n5 c5, .slice A6 n6 c6, .slice W1 m1 e1, .slice S1 m2 e2, .map (some gm)] := b2
    refine ret ?_
    refine resL _ (holds_agg (CellsAt.blk b2) rfl) ?_
    rw [List.take_of_length_le (by omega)] at Mu
    exact ⟨x0u.then k2 fun b hb _ => by omega, _, by rw [hse]; rfl, ⟨_, rfl, rfl, by simp [Value.oneCell']⟩, fun _ => ⟨gm, rfl, Mu.kept k2 (by omega), by omega⟩⟩
theorem c_meter {csd csx : List Value} {d : Dist} {x : Ev} {g : Nat} {bl : Int × Int → Option Int} {kind index : Int} {y : Rg} (hd : DiR D w csd d) (hx : EvR D w csx x) (hm : MapG kv2 w g fun key => (bl key).map fun n => iv n) :
    CallZ Tryz.prog 82 #[.agg (csd ++ (csx ++ [Value.map (some g)])).toArray, iv kind, iv index, .agg y.c.toArray] w (fun v w' => v = .agg (meterV bl kind index y).c.toArray ∧ Ext w w') := by
  obtain ⟨A1, n1, c1, A2, n2, c2, A3, n3, c3, A4, n4, c4, A5, n5, c5, A6, n6, c6, rfl, -⟩ := hd.ex
  obtain ⟨W1, m1, e1, S1, m2, e2, rfl, -⟩ := hx.ex
  refine fn_rule (args := [.agg #[.string d.name, iv d.hours, iv d.cap, iv d.start, .slice A1 n1 c1, .slice A2 n2 c2, .slice A3 n3 c3, .slice A4 n4 c4, .slice A5 n5 c5, .slice A6 n6 c6, .slice W1 m1 e1, .slice S1 m2 e2, .map (some g)], iv kind, iv index, .agg #[iv y.lo, iv y.hi]]) Tryz.func82 (by kernel_rfl) ?_
  refine box (fun bq w1 h1 => ?_)
  refine box (fun by_ w2 h2 => ?_)
  refine alloc (fun br w3 h3 => ?_)
  have x3 := (h1.ext.trans h2.ext).trans h3.ext
  have Bq : Blk w3 bq 86 [.string d.name, iv d.hours, iv d.cap, iv d.start, .slice A1 n1 c1, .slice A2 n2 c2, .slice A3 n3 c3, .slice A4 n4 c4, .slice A5 n5 c5, .slice A6 n6 c6, .slice W1 m1 e1, .slice S1 m2 e2, .map (some g)] := (h1.blk.ext h2.ext).ext h3.ext
  have By : Blk w3 by_ 105 [iv y.lo, iv y.hi] := h2.blk.ext h3.ext
  have Br : Blk w3 br 105 [iv 0, iv 0] := h3.blk
  have M3 := hm.kept x3 trivial
  have a3 := h3.at_
  have s1 := h1.ext.size
  have s2 := h2.ext.size
  refine fldA ?_
  refine ld (.map (some g)) (Bq.cell rfl) ?_
  refine bld [iv kind, iv index] (by kernel_rfl) ?_
  refine lookG2 (kv := kv2) (kind, index) ((bl (kind, index)).map fun n => iv n) (fun u hu => by subst hu; exact ⟨_, M3, rfl⟩) (fun v hv => ?_) (fun hv => ?_)
  · obtain ⟨n, hn, rfl⟩ : ∃ n, bl (kind, index) = some n ∧ v = iv n := by
      cases hb : bl (kind, index) with
      | none => rw [hb] at hv; cases hv
      | some n => rw [hb] at hv; injection hv with hv; exact ⟨n, rfl, hv.symm⟩
    refine fldA ?_
    refine ld (iv y.hi) (By.cell rfl) ?_
    refine bld [iv 0, iv (max n y.hi)] (by kernel_rfl) ?_
    refine stA (vs := [iv 0, iv (max n y.hi)]) Br rfl (Nat.le_of_ble_eq_true rfl) (by simp [Value.oneCell']) (fun w4 b4 k4 s4 => ?_)
    have b4 : Blk w4 br 105 [iv 0, iv (max n y.hi)] := b4
    refine ret ?_
    refine resL _ (holds_agg (CellsAt.blk b4) rfl) ?_
    exact ⟨by unfold meterV; rw [hn]; rfl, x3.then k4 fun b hb _ => by omega⟩
  · have hn : bl (kind, index) = none := by
      cases hb : bl (kind, index) with
      | none => rfl
      | some n => rw [hb] at hv; cases hv
    refine ldA _ (.blk By) rfl ?_
    refine stA (vs := [iv y.lo, iv y.hi]) Br rfl (Nat.le_of_ble_eq_true rfl) (by simp [Value.oneCell']) (fun w4 b4 k4 s4 => ?_)
    have b4 : Blk w4 br 105 [iv y.lo, iv y.hi] := b4
    refine ret ?_
    refine resL _ (holds_agg (CellsAt.blk b4) rfl) ?_
    exact ⟨by unfold meterV; rw [hn]; rfl, x3.then k4 fun b hb _ => by omega⟩
end
end Go.Proofs.YtcpdhclnmjfldaaGreat

/- Layer 48: contract of parts: what leaves the end of a reach, handed to a yield one after the other. -/
namespace Go.Proofs.YtcpdhclnmjfldaaGreat
open Go Go.RowKit

/-- A course's cells: the inquiry, the wave, the heads, the Truth. -/
abbrev crsC (csd csx cw : List Value) (gm bh t1 t2 t3 t4 t5 R F S : Nat) : List Value :=
  csd ++ (csx ++ (Value.map (some gm) :: (cw ++ [.slice (some (ad bh 0)) R R, .slice (some (ad t1 0)) R R, .slice (some (ad t2 0)) F F, .slice (some (ad t3 0)) R R, .slice (some (ad t4 0)) R R, .slice (some (ad t5 0)) S S])))
def dptr (t1 t2 t3 t5 : Nat) : Dst → Value
  | .tail r => .pointer (some (ad t3 (0 + r * 1)))
  | .head k => .pointer (some (ad t1 (0 + k * 1)))
  | .outlet k => .pointer (some (ad t2 (0 + k * 1)))
  | .taken i => .pointer (some (ad t5 (0 + i * 1)))
/-- What parts reads. -/
structure CrsR (D : Nat → Prop) (u : World) (bc gm bh t1 t2 t3 t4 t5 : Nat) (csd csx cw : List Value) (d : Dist) (x : Ev) (bl : Int × Int → Option Int) (v : Wv) (hl : List Rg) : Prop where
  hd : DiR D u csd d
  hx : EvR D u csx x
  hw : tWv.rep D u cw v
  map : MapG kv2 u gm fun key => (bl key).map fun n => iv n
  blk : Blk u bc 134 (crsC csd csx cw gm bh t1 t2 t3 t4 t5 d.reaches.length d.farms.length x.suspects.length)
  heads : SlR tRg D u (some (ad bh 0)) d.reaches.length hl
  dm : D gm
  dc : D bc
theorem CrsR.kept {D D' : Nat → Prop} {u u' : World} {bc gm bh t1 t2 t3 t4 t5 : Nat} {csd csx cw : List Value} {d : Dist} {x : Ev} {bl : Int × Int → Option Int} {v : Wv} {hl : List Rg} (h : CrsR D u bc gm bh t1 t2 t3 t4 t5 csd csx cw d x bl v hl) (k : Kept D' u u') (hD : ∀ b, b < u.heap.size → D b → D' b) : CrsR D u' bc gm bh t1 t2 t3 t4 t5 csd csx cw d x bl v hl :=
  ⟨h.hd.kept k hD, h.hx.kept k hD, tWv.keep (fun b hb hDb => k.blk b hb (hD b hb hDb)) h.hw, h.map.kept k (hD _ h.map.lt h.dm), h.blk.kept k (hD _ h.blk.lt h.dc), h.heads.kept k hD, h.dm, h.dc⟩

section
variable {d : Dist} {x : Ev} {bl : Int × Int → Option Int} {v : Wv} {f : Nat → Rg} {r : Nat}
theorem range_split {α : Type} (q : Nat → Bool) (c : Nat → α) {k n : Nat} (h : k ≤ n) : ∃ rest, ((List.range n).filter q).map c = ((List.range k).filter q).map c ++ rest := by
  induction n with
  | zero => obtain rfl : k = 0 := by omega
            exact ⟨[], by simp⟩
  | succ n ih =>
    by_cases e : k = n + 1
    · subst e; exact ⟨[], by simp⟩
    · obtain ⟨rest, hr⟩ := ih (by omega)
      refine ⟨rest ++ (([n].filter q).map c), ?_⟩
      rw [List.range_succ, List.filter_append, List.map_append, hr, List.append_assoc]
theorem range_snoc {α : Type} (q : Nat → Bool) (c : Nat → α) (k : Nat) : ((List.range (k + 1)).filter q).map c = ((List.range k).filter q).map c ++ if q k then [c k] else [] := by
  rw [List.range_succ, List.filter_append, List.map_append]
  by_cases h : q k
  · rw [if_pos h, List.filter_cons_of_pos h]; rfl
  · rw [if_neg h, List.filter_cons_of_neg h]; rfl
theorem headP_snoc (k : Nat) : headP d f r (k + 1) = headP d f r k ++ if (rcE d k).up = (r : Int) then [(f k, .head k)] else [] := by
  unfold headP; rw [range_snoc]; simp only [decide_eq_true_eq]
theorem outP_snoc (k : Nat) : outP d bl v r (k + 1) = outP d bl v r k ++ if (fmE d k).reach = (r : Int) then [(meterV bl 2 k (v.outlets.getD k g0), .outlet k)] else [] := by
  unfold outP; rw [range_snoc]; simp only [decide_eq_true_eq]
theorem pumpP_snoc (k : Nat) : pumpP x bl r (k + 1) = pumpP x bl r k ++ if (suE x k).kind = 4 ∧ (suE x k).index = (r : Int) then [(meterV bl 4 r g0, .taken k)] else [] := by
  unfold pumpP; rw [range_snoc]; simp only [Bool.and_eq_true, decide_eq_true_eq]
theorem split_head {k : Nat} (hk : k < d.reaches.length) (h : (rcE d k).up = (r : Int)) : ∃ rest, partsL d x bl v f r = (tailP bl v r ++ headP d f r k) ++ (f k, .head k) :: rest := by
  obtain ⟨rest, hr⟩ := range_split (fun k : Nat => decide ((rcE d k).up = (r : Int))) (fun k : Nat => (f k, Dst.head k)) (show k + 1 ≤ d.reaches.length by omega)
  refine ⟨rest ++ (outP d bl v r d.farms.length ++ pumpP x bl r x.suspects.length), ?_⟩
  have e : headP d f r d.reaches.length = headP d f r (k + 1) ++ rest := hr
  unfold partsL
  rw [e, headP_snoc, if_pos h]; simp
theorem split_out {k : Nat} (hk : k < d.farms.length) (h : (fmE d k).reach = (r : Int)) : ∃ rest, partsL d x bl v f r = (tailP bl v r ++ (headP d f r d.reaches.length ++ outP d bl v r k)) ++ (meterV bl 2 k (v.outlets.getD k g0), .outlet k) :: rest := by
  obtain ⟨rest, hr⟩ := range_split (fun k : Nat => decide ((fmE d k).reach = (r : Int))) (fun k : Nat => (meterV bl 2 k (v.outlets.getD k g0), Dst.outlet k)) (show k + 1 ≤ d.farms.length by omega)
  refine ⟨rest ++ pumpP x bl r x.suspects.length, ?_⟩
  have e : outP d bl v r d.farms.length = outP d bl v r (k + 1) ++ rest := hr
  unfold partsL
  rw [e, outP_snoc, if_pos h]; simp
theorem split_pump {k : Nat} (hk : k < x.suspects.length) (h : (suE x k).kind = 4 ∧ (suE x k).index = (r : Int)) : ∃ rest, partsL d x bl v f r = (tailP bl v r ++ (headP d f r d.reaches.length ++ (outP d bl v r d.farms.length ++ pumpP x bl r k))) ++ (meterV bl 4 r g0, .taken k) :: rest := by
  obtain ⟨rest, hr⟩ := range_split (fun i : Nat => decide ((suE x i).kind = 4) && decide ((suE x i).index = (r : Int))) (fun i : Nat => (meterV bl 4 r g0, Dst.taken i)) (show k + 1 ≤ x.suspects.length by omega)
  refine ⟨rest, ?_⟩
  have e : pumpP x bl r x.suspects.length = pumpP x bl r (k + 1) ++ rest := hr
  unfold partsL
  rw [e, pumpP_snoc, if_pos h]; simp
end
section
variable {w : World}
theorem c_parts {bc r : Nat} : CallZ Tryz.prog 108 #[ptr bc, iv (r : Int)] w (fun u w' => ∃ b1 b2, u = .func (.func 132) #[] #[ptr b1, ptr b2] ∧ Ext w w' ∧ Blk w' b1 97 [ptr bc] ∧ Blk w' b2 3 [iv (r : Int)] ∧ w.heap.size ≤ b1 ∧ w.heap.size ≤ b2) := by
  refine fn_rule (args := [ptr bc, iv (r : Int)]) Tryz.func108 (by kernel_rfl) ?_
  refine box (fun b1 w1 h1 => ?_)
  refine box (fun b2 w2 h2 => ?_)
  have e1 := h1.at_
  have e2 := h2.at_
  have s1 := h1.size
  exact ret1 (.func (.func 132) #[] #[ptr b1, ptr b2]) rfl ⟨b1, b2, rfl, h1.ext.trans h2.ext, h1.blk.ext h2.ext, h2.blk, by omega, by omega⟩
set_option maxRecDepth 8000 in
theorem c_parts1 {D : Nat → Prop} {l b1 b2 r bc gm bh t1 t2 t3 t4 t5 : Nat} {csd csx cw : List Value} {d : Dist} {x : Ev} {bl : Int × Int → Option Int} {v : Wv} {hl : List Rg} (J : List (Rg × Dst) → World → Prop)
    (hJ : ∀ pre u u', J pre u → Ext u u' → J pre u') (hD : ∀ b, w.heap.size ≤ b → D b)
    (hstep : ∀ pre p rest u, partsL d x bl v (fun k => hl.getD k g0) r = pre ++ p :: rest → J pre u → Kept D w u → YieldP Tryz.prog l [.agg #[iv p.1.lo, iv p.1.hi, dptr t1 t2 t3 t5 p.2]].toArray (fun y w' => y = .bool true ∧ J (pre ++ [p]) w' ∧ Kept D u w') u)
    (hc : CrsR D w bc gm bh t1 t2 t3 t4 t5 csd csx cw d x bl v hl) (hb1 : Blk w b1 97 [ptr bc]) (hb2 : Blk w b2 3 [iv (r : Int)]) (hD1 : D b1) (hD2 : D b2) (hr : r < d.reaches.length)
    (hlo : v.outlets.length = d.farms.length) (hlt : v.tails.length = d.reaches.length) (h0 : J [] w) :
    CallZ Tryz.prog 132 #[.func (.yield l) #[] #[], ptr b1, ptr b2] w (fun _ w' => J (partsL d x bl v (fun k => hl.getD k g0) r) w' ∧ Kept D w w') := by
  obtain ⟨A1, n1, c1, A2, n2, c2, A3, n3, c3, A4, n4, c4, A5, n5, c5, A6, n6, c6, rfl, hrr, hfa, -⟩ := hc.hd.ex
  obtain ⟨W1, m1, e1, S1, m2, e2, rfl, -, hsu, -⟩ := hc.hx.ex
  obtain ⟨H1, h1, k1, O1, o1, k2, T1, g1, k3, rfl, -, sh, so, st⟩ := wv_open hc.hw
  have ln := hrr.len
  have lf := hfa.len
  have ls := hsu.len
  have lo := so.len
  have lt := st.len
  have lh := hc.heads.len
  have lnb := hrr.le
  have lfb := hfa.le
  have lsb := hsu.le
  obtain ⟨f, hf⟩ : ∃ f : Nat → Rg, f = fun k => hl.getD k g0 := ⟨_, rfl⟩
  rw [← hf] at hstep ⊢
  refine fn_rule (args := [.func (.yield l) #[] #[], ptr b1, ptr b2]) Tryz.func132 (by kernel_rfl) ?_
  -- the tail
  obtain ⟨ba, oa, ca, ya, rfl, hya, -, hDa, hca, rfl⟩ := st.at_ (k := r) (by omega)
  have hye : v.tails.getD r g0 = ya := by rw [List.getD_eq_getElem?_getD, hya]; rfl
  have hcb := hc.blk
  refine drawK D [0, 1, 2, 3, 4, 5, 6, 7, 8, 9, 10, 11, 12, 13, 15, 16, 17, 18, 19, 20, 21, 14, 22, 23, 24] [14, 23] mx (by kernel_rfl) ?_
  refine ldK (ptr bc) (hb1.cell rfl) hD1 (.refl _ _) ?_
  refine fldA ?_
  refine ldAK [.string d.name, iv d.hours, iv d.cap, iv d.start, .slice A1 n1 c1, .slice A2 n2 c2, .slice A3 n3 c3, .slice A4 n4 c4, .slice A5 n5 c5, .slice A6 n6 c6, .slice W1 m1 e1, .slice S1 m2 e2, .map (some gm)] ((CellsAt.blk hcb).mid 0 13) rfl hc.dc (.refl _ _) ?_
  refine ldK (iv (r : Int)) (hb2.cell rfl) hD2 (.refl _ _) ?_
  refine ldK (ptr bc) (hb1.cell rfl) hD1 (.refl _ _) ?_
  refine fldA ?_
  refine fldA ?_
  refine ldK (.slice (some (ad ba oa)) g1 k3) (hcb.cell rfl) hc.dc (.refl _ _) ?_
  refine ldK (iv (r : Int)) (hb2.cell rfl) hD2 (.refl _ _) ?_
  refine idx r rfl (by omega) ?_
  refine ldAK ya.c hca rfl hDa (.refl _ _) ?_
  refine ldK (ptr bc) (hb1.cell rfl) hD1 (.refl _ _) ?_
  refine fldA ?_
  refine fldA ?_
  refine ldK (.slice (some (ad t3 0)) d.reaches.length d.reaches.length) (hcb.cell rfl) hc.dc (.refl _ _) ?_
  refine ldK (iv (r : Int)) (hb2.cell rfl) hD2 (.refl _ _) ?_
  refine idx r rfl hr ?_
  refine call_of (c_meter (kind := 3) (index := (r : Int)) (y := ya) hc.hd hc.hx hc.map) ?_
  rintro _ w2 ⟨rfl, x2⟩
  refine strK x2.any ?_
  refine bld [iv (meterV bl 3 r ya).lo, iv (meterV bl 3 r ya).hi, dptr t1 t2 t3 t5 (.tail r)] (by kernel_rfl) ?_
  refine yield_of (hstep [] (meterV bl 3 r (v.tails.getD r g0), .tail r) (headP d f r d.reaches.length ++ (outP d bl v r d.farms.length ++ pumpP x bl r x.suspects.length)) w2 rfl (hJ _ _ _ h0 x2) x2.any |> fun h => by rw [hye] at h; exact h) ?_
  rintro _ w3 ⟨rfl, hj3, kk3⟩
  refine strK kk3 ?_
  have k03 : Kept D w w3 := (Ext.any x2).trans kk3
  -- the children
  have env : ∀ u, Kept D w u → CrsR D u bc gm bh t1 t2 t3 t4 t5 _ _ _ d x bl v hl := fun u k => hc.kept k fun b _ h => h
  refine ld (ptr bc) ((hb1.kept k03 hD1).cell rfl) ?_
  refine fldA ?_
  refine fldA ?_
  refine fldA ?_
  refine ld (.slice A1 n1 c1) ((env _ k03).blk.cell rfl) ?_
  refine len ?_
  refine loop_rule (fun k : Nat => [(42, iv (k : Int))]) (fun k u => k ≤ n1 ∧ Kept D w u ∧ J (tailP bl v r ++ headP d f r k) u) (fun k _ => n1 - k) 0 ⟨rfl, trivial⟩ ⟨by omega, k03, by rw [show tailP bl v r ++ headP d f r 0 = [] ++ [(meterV bl 3 r ya, .tail r)] from by unfold tailP headP; rw [hye]; rfl]; exact hj3⟩ rfl ?_
  rintro G k u ⟨hk, ku, hj⟩
  refine cD (fun hlt' => ?_) (fun hge => ?_)
  · have hlt' : k < n1 := by omega
    obtain ⟨b, o, cs, y, rfl, hy, -, -, hcy, rfl⟩ := (hrr.kept ku fun b _ h => h).at_ hlt'
    have hre : rcE d k = y := by unfold rcE; rw [List.getD_eq_getElem?_getD, hy]; rfl
    refine idx k rfl hlt' ?_
    refine ldA y.c hcy rfl ?_
    refine alloc (fun t u1 h1'' => ?_)
    refine stA (vs := y.c) h1''.blk rfl (Nat.le_of_ble_eq_true rfl) (by simp [Value.oneCell']) (fun u2 tb s2 zs => ?_)
    have t1'' := h1''.at_
    have xu2 : Ext u u2 := h1''.ext.then s2 fun b hb _ e => by omega
    have tb : Blk u2 t 107 y.c := tb
    have hDt : D t := hD t (by have := ku.size; omega)
    have ku2 := ku.ext xu2
    have ev := env u2 ku2
    have hj2 := hJ _ _ _ hj xu2
    have q1 := hb1.kept ku2 hD1
    have q2 := hb2.kept ku2 hD2
    obtain ⟨bq, oq, cq, yq, hAq, hyq, -, hDq, hcq, rfl⟩ := ev.heads.at_ (k := k) (by omega)
    injection hAq with hAq
    injection hAq with hAq1 hAq2
    subst hAq1; subst hAq2
    have hfk : f k = yq := by rw [hf]; show hl.getD k g0 = _; rw [List.getD_eq_getElem?_getD, hyq]; rfl
    refine drawK D [0, 1, 2, 3, 4, 5, 6, 7, 8, 9, 10, 11, 12, 13, 14, 15, 16, 17, 18, 19, 20, 21, 22, 23] [21] mx (by kernel_rfl) ?_
    refine fldA ?_
    refine ldK (iv y.up) (tb.cell rfl) hDt (.refl _ _) ?_
    refine ldK (iv (r : Int)) (q2.cell rfl) hD2 (.refl _ _) ?_
    refine cD (fun he => ?_) (fun he => ?_)
    · refine ldK (ptr bc) (q1.cell rfl) hD1 (.refl _ _) ?_
      refine fldA ?_
      refine ldK (.slice (some (ad bh 0)) d.reaches.length d.reaches.length) (ev.blk.cell rfl) hc.dc (.refl _ _) ?_
      refine idx k rfl (by omega) ?_
      refine ldAK yq.c hcq rfl hDq (.refl _ _) ?_
      refine ldK (ptr bc) (q1.cell rfl) hD1 (.refl _ _) ?_
      refine fldA ?_
      refine fldA ?_
      refine ldK (.slice (some (ad t1 0)) d.reaches.length d.reaches.length) (ev.blk.cell rfl) hc.dc (.refl _ _) ?_
      refine idx k rfl (by omega) ?_
      refine bld [iv yq.lo, iv yq.hi, dptr t1 t2 t3 t5 (.head k)] (by kernel_rfl) ?_
      obtain ⟨rest, hrest⟩ := split_head (d := d) (x := x) (bl := bl) (v := v) (f := f) (r := r) (k := k) (by omega) (by rw [hre]; exact he)
      have hs := hstep _ _ _ u2 hrest hj2 ku2
      rw [hfk] at hs
      refine yield_of hs ?_
      rintro _ u3 ⟨rfl, hj3, kk3⟩
      refine strK kk3 ?_
      refine arI (n := (k : Int) + 1) (by omega) ?_
      refine next (k + 1) ⟨rfl, trivial⟩ ⟨by omega, ku2.trans kk3, ?_⟩ (by omega)
      rw [headP_snoc, if_pos (by rw [hre]; exact he), ← List.append_assoc, hfk]; exact hj3
    · refine strK (.refl _ _) ?_
      refine arI (n := (k : Int) + 1) (by omega) ?_
      refine next (k + 1) ⟨rfl, trivial⟩ ⟨by omega, ku2, ?_⟩ (by omega)
      rw [headP_snoc, if_neg (by rw [hre]; exact he), List.append_nil]; exact hj2
  have hkn : k = d.reaches.length := by omega
  rw [hkn] at hj
  clear hk hge
  -- the farms
  refine ld (ptr bc) ((hb1.kept ku hD1).cell rfl) ?_
  refine fldA ?_
  refine fldA ?_
  refine fldA ?_
  refine ld (.slice A2 n2 c2) ((env _ ku).blk.cell rfl) ?_
  refine len ?_
  refine loop_rule (fun k : Nat => [(79, iv (k : Int))]) (fun k u => k ≤ n2 ∧ Kept D w u ∧ J (tailP bl v r ++ (headP d f r d.reaches.length ++ outP d bl v r k)) u) (fun k _ => n2 - k) 0 ⟨rfl, trivial⟩ ⟨by omega, ku, by rw [show outP d bl v r 0 = [] from rfl, List.append_nil]; exact hj⟩ rfl ?_
  clear ku hj hkn
  rintro G2 k u ⟨hk, ku, hj⟩
  refine cD (fun hlt' => ?_) (fun hge => ?_)
  · have hlt' : k < n2 := by omega
    obtain ⟨b, o, cs, y, rfl, hy, -, -, hcy, rfl⟩ := (hfa.kept ku fun b _ h => h).at_ hlt'
    have hre : fmE d k = y := by unfold fmE; rw [List.getD_eq_getElem?_getD, hy]; rfl
    refine idx k rfl hlt' ?_
    refine ldA y.c hcy rfl ?_
    refine alloc (fun t u1 h1'' => ?_)
    refine stA (vs := y.c) h1''.blk rfl (Nat.le_of_ble_eq_true rfl) (by simp [Value.oneCell']) (fun u2 tb s2 zs => ?_)
    have t1'' := h1''.at_
    have xu2 : Ext u u2 := h1''.ext.then s2 fun b hb _ e => by omega
    have tb : Blk u2 t 109 y.c := tb
    have hDt : D t := hD t (by have := ku.size; omega)
    have ku2 := ku.ext xu2
    have ev := env u2 ku2
    have hj2 := hJ _ _ _ hj xu2
    have q1 := hb1.kept ku2 hD1
    have q2 := hb2.kept ku2 hD2
    obtain ⟨bq, oq, cq, yq, rfl, hyq, -, hDq, hcq, rfl⟩ := (so.kept ku2 fun b _ h => h).at_ (k := k) (by omega)
    have hfk : v.outlets.getD k g0 = yq := by rw [List.getD_eq_getElem?_getD, hyq]; rfl
    refine drawK D [0, 1, 2, 3, 4, 5, 6, 7, 8, 9, 10, 11, 12, 13, 14, 15, 16, 17, 18, 20, 21, 22, 23, 24, 25, 26, 19, 27, 28, 29, 30] [19, 28] mx (by kernel_rfl) ?_
    refine fldA ?_
    refine ldK (iv y.reach) (tb.cell rfl) hDt (.refl _ _) ?_
    refine ldK (iv (r : Int)) (q2.cell rfl) hD2 (.refl _ _) ?_
    refine cD (fun he => ?_) (fun he => ?_)
    · refine ldK (ptr bc) (q1.cell rfl) hD1 (.refl _ _) ?_
      refine fldA ?_
      refine ldAK [.string d.name, iv d.hours, iv d.cap, iv d.start, .slice A1 n1 c1, .slice (some (ad b o)) n2 c2, .slice A3 n3 c3, .slice A4 n4 c4, .slice A5 n5 c5, .slice A6 n6 c6, .slice W1 m1 e1, .slice S1 m2 e2, .map (some gm)] ((CellsAt.blk ev.blk).mid 0 13) rfl hc.dc (.refl _ _) ?_
      refine ldK (ptr bc) (q1.cell rfl) hD1 (.refl _ _) ?_
      refine fldA ?_
      refine fldA ?_
      refine ldK (.slice (some (ad bq oq)) o1 k2) (ev.blk.cell rfl) hc.dc (.refl _ _) ?_
      refine idx k rfl (by omega) ?_
      refine ldAK yq.c hcq rfl hDq (.refl _ _) ?_
      refine ldK (ptr bc) (q1.cell rfl) hD1 (.refl _ _) ?_
      refine fldA ?_
      refine fldA ?_
      refine ldK (.slice (some (ad t2 0)) d.farms.length d.farms.length) (ev.blk.cell rfl) hc.dc (.refl _ _) ?_
      refine idx k rfl (by omega) ?_
      refine call_of (c_meter (kind := 2) (index := (k : Int)) (y := yq) ev.hd ev.hx ev.map) ?_
      rintro _ u25 ⟨rfl, x25⟩
      refine strK x25.any ?_
      refine bld [iv (meterV bl 2 k yq).lo, iv (meterV bl 2 k yq).hi, dptr t1 t2 t3 t5 (.outlet k)] (by kernel_rfl) ?_
      obtain ⟨rest, hrest⟩ := split_out (d := d) (x := x) (bl := bl) (v := v) (f := f) (r := r) (k := k) (by omega) (by rw [hre]; exact he)
      have hs := hstep _ _ _ u25 hrest (hJ _ _ _ hj2 x25) (ku2.ext x25)
      rw [hfk] at hs
      refine yield_of hs ?_
      rintro _ u3 ⟨rfl, hj3, kk3⟩
      refine strK kk3 ?_
      refine arI (n := (k : Int) + 1) (by omega) ?_
      refine next (k + 1) ⟨rfl, trivial⟩ ⟨by omega, (ku2.ext x25).trans kk3, ?_⟩ (by omega)
      rw [outP_snoc, if_pos (by rw [hre]; exact he), ← List.append_assoc (headP d f r d.reaches.length), ← List.append_assoc, hfk]; exact hj3
    · refine strK (.refl _ _) ?_
      refine strK (.refl _ _) ?_
      refine arI (n := (k : Int) + 1) (by omega) ?_
      refine next (k + 1) ⟨rfl, trivial⟩ ⟨by omega, ku2, ?_⟩ (by omega)
      rw [outP_snoc, if_neg (by rw [hre]; exact he), List.append_nil]; exact hj2
  have hkn : k = d.farms.length := by omega
  rw [hkn] at hj
  clear hk hge
  -- the pumps
  refine ld (ptr bc) ((hb1.kept ku hD1).cell rfl) ?_
  refine fldA ?_
  refine fldA ?_
  refine fldA ?_
  refine ld (.slice S1 m2 e2) ((env _ ku).blk.cell rfl) ?_
  refine len ?_
  refine loop_rule (fun k : Nat => [(123, iv (k : Int))]) (fun k u => k ≤ m2 ∧ Kept D w u ∧ J (tailP bl v r ++ (headP d f r d.reaches.length ++ (outP d bl v r d.farms.length ++ pumpP x bl r k))) u) (fun k _ => m2 - k) 0 ⟨rfl, trivial⟩ ⟨by omega, ku, by rw [show pumpP x bl r 0 = [] from rfl, List.append_nil]; exact hj⟩ rfl ?_
  clear ku hj hkn
  rintro G3 k u ⟨hk, ku, hj⟩
  refine cD (fun hlt' => ?_) (fun hge => ?_)
  · have hlt' : k < m2 := by omega
    obtain ⟨b, o, cs, y, rfl, hy, -, -, hcy, rfl⟩ := (hsu.kept ku fun b _ h => h).at_ hlt'
    have hre : suE x k = y := by unfold suE; rw [List.getD_eq_getElem?_getD, hy]; rfl
    refine idx k rfl hlt' ?_
    refine ldA y.c hcy rfl ?_
    refine alloc (fun t u1 h1'' => ?_)
    refine stA (vs := y.c) h1''.blk rfl (Nat.le_of_ble_eq_true rfl) (by simp [Value.oneCell']) (fun u2 tb s2 zs => ?_)
    have t1'' := h1''.at_
    have xu2 : Ext u u2 := h1''.ext.then s2 fun b hb _ e => by omega
    have tb : Blk u2 t 112 y.c := tb
    have hDt : D t := hD t (by have := ku.size; omega)
    have ku2 := ku.ext xu2
    have ev := env u2 ku2
    have hj2 := hJ _ _ _ hj xu2
    have q1 := hb1.kept ku2 hD1
    have q2 := hb2.kept ku2 hD2
    have skip : ¬ ((suE x k).kind = 4 ∧ (suE x k).index = (r : Int)) → J (tailP bl v r ++ (headP d f r d.reaches.length ++ (outP d bl v r d.farms.length ++ pumpP x bl r (k + 1)))) u2 := fun h => by
      rw [pumpP_snoc, if_neg h, List.append_nil]; exact hj2
    refine drawK D [0, 1, 2, 3, 4, 5, 6, 7, 8, 9, 10, 11, 12, 13, 14, 15, 16, 18, 19, 20, 21, 22, 23, 24, 17, 25, 26, 27, 28] [17, 26] mx (by kernel_rfl) ?_
    refine fldA ?_
    refine ldK (iv y.kind) (tb.cell rfl) hDt (.refl _ _) ?_
    refine cD (fun he1 => ?_) (fun he1 => ?_)
    · refine fldA ?_
      refine ldK (iv y.index) (tb.cell rfl) hDt (.refl _ _) ?_
      refine ldK (iv (r : Int)) (q2.cell rfl) hD2 (.refl _ _) ?_
      refine cD (fun he2 => ?_) (fun he2 => ?_)
      · refine ldK (ptr bc) (q1.cell rfl) hD1 (.refl _ _) ?_
        refine fldA ?_
        refine ldAK [.string d.name, iv d.hours, iv d.cap, iv d.start, .slice A1 n1 c1, .slice A2 n2 c2, .slice A3 n3 c3, .slice A4 n4 c4, .slice A5 n5 c5, .slice A6 n6 c6, .slice W1 m1 e1, .slice (some (ad b o)) m2 e2, .map (some gm)] ((CellsAt.blk ev.blk).mid 0 13) rfl hc.dc (.refl _ _) ?_
        refine ldK (iv (r : Int)) (q2.cell rfl) hD2 (.refl _ _) ?_
        refine bld [iv 0, iv 0] (by kernel_rfl) ?_
        refine ldK (ptr bc) (q1.cell rfl) hD1 (.refl _ _) ?_
        refine fldA ?_
        refine fldA ?_
        refine ldK (.slice (some (ad t5 0)) x.suspects.length x.suspects.length) (ev.blk.cell rfl) hc.dc (.refl _ _) ?_
        refine idx k rfl (by omega) ?_
        refine call_of (c_meter (kind := 4) (index := (r : Int)) (y := g0) ev.hd ev.hx ev.map) ?_
        rintro _ u25 ⟨rfl, x25⟩
        refine strK x25.any ?_
        refine bld [iv (meterV bl 4 r g0).lo, iv (meterV bl 4 r g0).hi, dptr t1 t2 t3 t5 (.taken k)] (by kernel_rfl) ?_
        obtain ⟨rest, hrest⟩ := split_pump (d := d) (x := x) (bl := bl) (v := v) (f := f) (r := r) (k := k) (by omega) (by rw [hre]; exact ⟨he1, he2⟩)
        refine yield_of (hstep _ _ _ u25 hrest (hJ _ _ _ hj2 x25) (ku2.ext x25)) ?_
        rintro _ u3 ⟨rfl, hj3, kk3⟩
        refine strK kk3 ?_
        refine arI (n := (k : Int) + 1) (by omega) ?_
        refine next (k + 1) ⟨rfl, trivial⟩ ⟨by omega, (ku2.ext x25).trans kk3, ?_⟩ (by omega)
        rw [pumpP_snoc, if_pos (by rw [hre]; exact ⟨he1, he2⟩), ← List.append_assoc (outP d bl v r d.farms.length), ← List.append_assoc (headP d f r d.reaches.length), ← List.append_assoc]; exact hj3
      · refine strK (.refl _ _) ?_
        refine strK (.refl _ _) ?_
        refine arI (n := (k : Int) + 1) (by omega) ?_
        exact next (k + 1) ⟨rfl, trivial⟩ ⟨by omega, ku2, skip fun h => he2 (by rw [← hre]; exact h.2)⟩ (by omega)
    · refine strK (.refl _ _) ?_
      refine strK (.refl _ _) ?_
      refine arI (n := (k : Int) + 1) (by omega) ?_
      exact next (k + 1) ⟨rfl, trivial⟩ ⟨by omega, ku2, skip fun h => he1 (by rw [← hre]; exact h.1)⟩ (by omega)
  have hkn : k = x.suspects.length := by omega
  rw [hkn] at hj
  exact ret0 ⟨hj, ku⟩
end
end Go.Proofs.YtcpdhclnmjfldaaGreat

/- Layer 48: contract of leaves. -/
namespace Go.Proofs.YtcpdhclnmjfldaaGreat
open Go Go.RowKit

theorem CrsR.more {D D' : Nat → Prop} {u : World} {bc gm bh t1 t2 t3 t4 t5 : Nat} {csd csx cw : List Value} {d : Dist} {x : Ev} {bl : Int × Int → Option Int} {v : Wv} {hl : List Rg} (h : CrsR D u bc gm bh t1 t2 t3 t4 t5 csd csx cw d x bl v hl) (hD : ∀ b, b < u.heap.size → D b → D' b) : CrsR D' u bc gm bh t1 t2 t3 t4 t5 csd csx cw d x bl v hl :=
  ⟨h.hd.more hD, h.hx.more hD, tWv.more hD h.hw, h.map, h.blk, h.heads.more (by decide) hD, hD _ h.map.lt h.dm, hD _ h.blk.lt h.dc⟩
/-- The ranges of parts, so small that their sums are numbers. -/
def PartsB (l : List (Rg × Dst)) : Prop := l.length ≤ 4096 ∧ ∀ p ∈ l, (0 ≤ p.1.lo ∧ p.1.lo ≤ 1073741824) ∧ -1 ≤ p.1.hi ∧ p.1.hi ≤ 1073741824
theorem loS_app (a b : List (Rg × Dst)) : loS (a ++ b) = loS a + loS b := by unfold loS; rw [List.map_append, List.sum_append]
theorem hiS_app (a b : List (Rg × Dst)) : hiS (a ++ b) = hiS a + hiS b := by unfold hiS; rw [List.map_append, List.sum_append]
theorem sum_rng {l : List (Rg × Dst)} (h : ∀ p ∈ l, (0 ≤ p.1.lo ∧ p.1.lo ≤ 1073741824) ∧ -1 ≤ p.1.hi ∧ p.1.hi ≤ 1073741824) : (0 ≤ loS l ∧ loS l ≤ l.length * 1073741824) ∧ -(l.length : Int) ≤ hiS l ∧ hiS l ≤ l.length * 1073741824 := by
  induction l with
  | nil => simp [loS, hiS]
  | cons p l ih =>
    have h1 := h p List.mem_cons_self
    have h2 := ih fun q hq => h q (List.mem_cons_of_mem _ hq)
    have e1 : loS (p :: l) = p.1.lo + loS l := rfl
    have e2 : hiS (p :: l) = p.1.hi + hiS l := rfl
    rw [e1, e2, List.length_cons]
    omega
section
variable {w : World}
theorem c_leaves {D : Nat → Prop} {r bc gm bh t1 t2 t3 t4 t5 : Nat} {csd csx cw : List Value} {d : Dist} {x : Ev} {bl : Int × Int → Option Int} {v : Wv} {hl : List Rg} (hc : CrsR D w bc gm bh t1 t2 t3 t4 t5 csd csx cw d x bl v hl) (hr : r < d.reaches.length)
    (hlo : v.outlets.length = d.farms.length) (hlt : v.tails.length = d.reaches.length) (hb : PartsB (partsL d x bl v (fun k => hl.getD k g0) r)) :
    CallZ Tryz.prog 79 #[ptr bc, iv (r : Int)] w (fun u w' => u = .agg #[iv (loS (partsL d x bl v (fun k => hl.getD k g0) r)), iv (hiS (partsL d x bl v (fun k => hl.getD k g0) r))] ∧ Ext w w') := by
  have hc := hc.more (D' := fun b => b < w.heap.size) fun b hb _ => hb
  obtain ⟨ps, hps⟩ : ∃ ps, ps = partsL d x bl v (fun k => hl.getD k g0) r := ⟨_, rfl⟩
  rw [← hps] at hb ⊢
  refine fn_rule (args := [ptr bc, iv (r : Int)]) Tryz.func79 (by kernel_rfl) ?_
  refine alloc (fun q w1 h1 => ?_)
  have b1 : Blk w1 q 105 [iv 0, iv 0] := h1.blk
  have a1 := h1.at_
  have s1 := h1.size
  refine call_of c_parts ?_
  rintro _ w3 ⟨p1, p2, rfl, x3, g1, g2, hp1, hp2⟩
  have z3 := x3.size
  refine range (gf := 132) (lb := #[ptr p1, ptr p2]) rfl (fun fn tmps w4 R hR hF hwf x4 z4 hD4 hl4 => ?_)
  show CallZ _ _ #[.func (.yield (w3.heap.size + 1)) #[] #[], ptr p1, ptr p2] w4 _
  have l1 := g1.lt
  have l2 := g2.lt
  have x04 := (h1.ext.trans x3).trans x4
  have hc4 := (hc.kept x04 fun _ _ _ => trivial).more (D' := fun b => b ≠ q ∧ b ≠ w3.heap.size + 1) fun b _ h => ⟨by omega, by omega⟩
  refine (c_parts1 (D := fun b => b ≠ q ∧ b ≠ w3.heap.size + 1) (fun pre u => LoopAt u (w3.heap.size + 1) R ∧ Blk u q 105 [iv (loS pre), iv (hiS pre)])
    (fun pre u u' ⟨l5, q5⟩ k6 => ⟨l5.kept k6 trivial, q5.ext k6⟩) (fun b hb => ⟨by omega, by omega⟩) ?_ hc4 (g1.ext x4) (g2.ext x4) ⟨by omega, by omega⟩ ⟨by omega, by omega⟩ hr hlo hlt ⟨hl4, (b1.ext x3).ext x4⟩).mono ?_
  · rintro pre p rest u hsp ⟨l5, q5⟩ ku
    rw [← hps] at hsp
    subst hR
    have hp := hb.2 p (by rw [hsp]; simp)
    have hpre := sum_rng (l := pre) fun y hy => hb.2 y (by rw [hsp]; simp [hy])
    have hlen : pre.length ≤ 4096 := by have := hb.1; rw [hsp] at this; simp at this; omega
    refine yield_rule (args := [.agg #[iv p.1.lo, iv p.1.hi, dptr t1 t2 t3 t5 p.2]]) l5 rfl rfl hF hwf ?_
    refine alloc (fun t u1 h1'' => ?_)
    refine stA (vs := [iv p.1.lo, iv p.1.hi, dptr t1 t2 t3 t5 p.2]) h1''.blk rfl (Nat.le_of_ble_eq_true rfl) (by cases p.2 <;> simp [Value.oneCell', dptr]) (fun u2 tb s2 zs => ?_)
    have t1'' := h1''.at_
    have xu2 : Ext u u2 := h1''.ext.then s2 fun b hb _ e => by omega
    have tb : Blk u2 t 171 [iv p.1.lo, iv p.1.hi, dptr t1 t2 t3 t5 p.2] := tb
    have lq := q5.lt
    have ll := l5.lt
    refine mid' (l5.kept xu2 trivial) (fun u3 k3 zk3 l6 => ?_)
    have q6 := (q5.ext xu2).kept k3 (by have := x3.size; omega)
    have tb3 := tb.kept k3 (by omega)
    refine drawP (.take 0 (.take 2 (.take 3 (.take 4 (.take 6 (.take 7 (.take 8 (.take 9 (.take 10 (.take 11 (.eff 1 (.take 5 (.take 12 (.eff 13 (.take 14 (.bar (.eff 15 .done))))))))))))))))) [15] (fun y => Kept (fun b => b ≠ q) u3 y ∧ y.cell? (ad q 1) = some (iv (hiS pre))) mx (by kernel_rfl) ⟨.refl _ _, q6.cell rfl⟩ ?_
    refine fldA ?_
    refine fldA ?_
    refine fldA ?_
    refine ldS (iv p.1.lo) (fun y hy => hy.1.cell (tb3.cell rfl) (show t ≠ q by omega)) ?_
    refine fldA ?_
    refine ldS (iv (hiS pre)) (fun y hy => hy.2) ?_
    refine fldA ?_
    refine fldA ?_
    refine ldS (iv p.1.hi) (fun y hy => hy.1.cell (tb3.cell rfl) (show t ≠ q by omega)) ?_
    refine arI (by omega) ?_
    refine ld (iv (loS pre)) (q6.cell rfl) ?_
    refine strS ⟨.refl _ _, q6.cell rfl⟩ ?_
    refine arI (by omega) ?_
    refine fldA ?_
    refine st q6 (Nat.le_of_ble_eq_true rfl) rfl (fun u4 q7 k4 s4 => ?_)
    have q7 : Blk u4 q 105 [iv (loS pre + p.1.lo), iv (hiS pre)] := q7
    refine strS ⟨k4, q7.cell rfl⟩ ?_
    refine fldA ?_
    refine barS (fun _ => True) trivial ?_
    refine st q7 (Nat.le_of_ble_eq_true rfl) rfl (fun u5 q8 k5 s5 => ?_)
    refine strS trivial ?_
    refine roundN' _ ((l6.kept k4 (by omega)).kept k5 (by omega)) (fun u6 k6 l8 => ?_)
    have q8 : Blk u5 q 105 [iv (loS pre + p.1.lo), iv (hiS pre + p.1.hi)] := q8
    have kk : Kept (fun b => b ≠ q ∧ b ≠ w3.heap.size + 1) u u6 := ((((Ext.any xu2 : Kept (fun b => b ≠ q ∧ b ≠ w3.heap.size + 1) u u2).then k3 fun _ _ h => h.2).then k4 fun _ _ h => h.1).then k5 fun _ _ h => h.1).then k6 fun _ _ h => h.2
    refine ⟨rfl, ⟨l8, ?_⟩, kk⟩
    rw [loS_app, hiS_app, show loS [p] = p.1.lo from by simp [loS], show hiS [p] = p.1.hi from by simp [hiS]]
    exact q8.kept k6 (by omega)
  · rintro _ w5 ⟨⟨l5, q5⟩, k5⟩
    rw [← hps] at q5
    subst hR
    refine range_end _ l5 (by simp) (fun w6 k6 => ?_)
    have q6 := q5.kept k6 (by omega)
    refine ldA _ (.blk q6) rfl ?_
    refine stA (vs := [iv (loS ps), iv (hiS ps)]) q6 rfl (Nat.le_of_ble_eq_true rfl) (by simp [Value.oneCell']) (fun w7 q7 k7 s7 => ?_)
    have q7 : Blk w7 q 105 [iv (loS ps), iv (hiS ps)] := q7
    have k47 : Kept (fun b => b ≠ q ∧ b ≠ w3.heap.size + 1) w4 w7 := (k5.then k6 fun _ _ h => h.2).then k7 fun _ _ h => h.1
    have hD7 : w7.heap[w3.heap.size]? = some (.deferred (some [])) := (k47.blk _ (by omega) ⟨by omega, by omega⟩).trans hD4
    refine retM hD7 ?_
    have k8 := Kept.putObj w7 w3.heap.size (.deferred none)
    refine resL _ (holds_agg (CellsAt.blk (q7.kept k8 (by omega))) rfl) ?_
    exact ⟨rfl, (x04.then k47 (fun b hb _ => ⟨by omega, by omega⟩)).then k8 (fun b hb _ => by omega)⟩
end
end Go.Proofs.YtcpdhclnmjfldaaGreat

/- Layer 48: slices.Backward; the Truth that follow makes. -/
namespace Go.Proofs.YtcpdhclnmjfldaaGreat
open Go Go.RowKit

/-! ### rows of numbers, as cells -/
def icells (R : Nat) (f : Nat → Int) : List Value := (List.range R).map fun i => iv (f i)
theorem icells_len {R : Nat} {f : Nat → Int} : (icells R f).length = R := by unfold icells; simp
theorem icells_at {R i : Nat} {f : Nat → Int} (h : i < R) : (icells R f)[i]? = some (iv (f i)) := by unfold icells; rw [List.getElem?_map, List.getElem?_range h]; rfl
theorem icells_set {R i : Nat} {f g : Nat → Int} (h : ∀ j, j < R → g j = if j = i then g i else f j) : (icells R f).set i (iv (g i)) = icells R g := by
  apply List.ext_getElem?
  intro j
  rw [List.getElem?_set, icells_len]
  by_cases hj : j < R
  · rw [icells_at hj, icells_at hj, h j hj]
    by_cases e : i = j
    · subst e; rw [if_pos rfl, if_pos hj, if_pos rfl]
    · rw [if_neg e, if_neg (fun e2 => e e2.symm)]
  · rw [List.getElem?_eq_none (l := icells R f) (by rw [icells_len]; omega), List.getElem?_eq_none (l := icells R g) (by rw [icells_len]; omega)]
    by_cases e : i = j
    · rw [if_pos e, if_neg (by omega)]
    · rw [if_neg e]
theorem icells_zero {R : Nat} : (List.replicate R [iv 0]).flatten = icells R (fun _ => 0) := by
  unfold icells
  induction R with
  | zero => rfl
  | succ R ih => rw [List.replicate_succ', List.flatten_append, ih, List.range_succ, List.map_append]; rfl

/-! ### five slices that are made in any order -/
def e5s : Nat → Nat
  | 2 => 28
  | 7 => 33
  | 9 => 35
  | 11 => 37
  | _ => 42
def e5r : Nat → Nat
  | 2 => 27
  | 7 => 32
  | 9 => 34
  | 11 => 36
  | _ => 41
def e5z (R F S : Nat) : Nat → Nat
  | 7 => F
  | 16 => S
  | _ => R
abbrev E5 : List Nat := [2, 7, 9, 11, 16]
structure I5 (u0 : World) (bc R Fn S : Nat) (rem : List Nat) (F : Fr) (w : World) : Prop where
  sub : ∀ e ∈ rem, e ∈ E5
  nd : rem.Nodup
  kept : Ext u0 w
  f26 : F 26 = ptr bc
  src : ∀ e ∈ E5, F (e5r e) = iv (e5z R Fn S e : Int)
  don : ∃ gs : Nat → Nat, (∀ e ∈ E5, e ∉ rem → F (e5s e) = .slice (some (ad (gs e) 0)) (e5z R Fn S e) (e5z R Fn S e) ∧ Blk w (gs e) 3 (icells (e5z R Fn S e) fun _ => 0) ∧ u0.heap.size ≤ gs e) ∧ ∀ e ∈ E5, ∀ e' ∈ E5, e ∉ rem → e' ∉ rem → e ≠ e' → gs e ≠ gs e'
theorem upd_ne {F : Fr} {d j : Nat} {v : Value} (h : j ≠ d) : upd F d v j = F j := by
  unfold upd
  cases hb : Nat.beq j d with
  | true => exact absurd (Nat.eq_of_beq_eq_true hb) h
  | false => rfl
theorem upd_eq {F : Fr} {d : Nat} {v : Value} : upd F d v d = v := by
  unfold upd
  have : Nat.beq d d = true := Nat.beq_refl d
  rw [this]; rfl
theorem e5s_inj : ∀ e ∈ E5, ∀ e' ∈ E5, e ≠ e' → e5s e ≠ e5s e' := by decide
theorem e5s_src : ∀ e ∈ E5, ∀ e' ∈ E5, e5r e' ≠ e5s e := by decide
theorem e5s_26 : ∀ e ∈ E5, 26 ≠ e5s e := by decide
theorem I5.step {u0 w w' : World} {bc R Fn S g e : Nat} {rem : List Nat} {F : Fr} (h : I5 u0 bc R Fn S rem F w) (he : e ∈ rem) (hn : NewB w 3 (List.replicate (e5z R Fn S e) [iv 0]).flatten g w') :
    I5 u0 bc R Fn S (rem.erase e) (upd F (e5s e) (.slice (some (ad g 0)) (e5z R Fn S e) (e5z R Fn S e))) w' := by
  have he5 := h.sub e he
  obtain ⟨gs, h1, h2⟩ := h.don
  have ha := hn.at_
  refine ⟨fun a ha => h.sub a (List.mem_of_mem_erase ha), h.nd.erase e, h.kept.ext hn.ext, by rw [upd_ne (e5s_26 e he5)]; exact h.f26, fun a ha => by rw [upd_ne (e5s_src e he5 a ha)]; exact h.src a ha,
    ⟨fun a => if a = e then g else gs a, fun a ha5 hna => ?_, fun a ha5 a' ha5' hna hna' hne => ?_⟩⟩
  · show _ = Value.slice (some (ad (if a = e then g else gs a) 0)) _ _ ∧ Blk w' (if a = e then g else gs a) _ _ ∧ _ ≤ (if a = e then g else gs a)
    by_cases e1 : a = e
    · subst e1
      rw [if_pos rfl, upd_eq]
      exact ⟨rfl, by rw [← icells_zero]; exact hn.blk, by have := h.kept.size; omega⟩
    · rw [if_neg e1, upd_ne (e5s_inj a ha5 e he5 e1)]
      have hnr : a ∉ rem := fun hm => hna ((List.mem_erase_of_ne e1).2 hm)
      obtain ⟨k1, k2, k3⟩ := h1 a ha5 hnr
      exact ⟨k1, k2.ext hn.ext, k3⟩
  · have lt : ∀ a, a ∈ E5 → a ≠ e → a ∉ rem.erase e → gs a < w.heap.size := fun a ha5 hne hna => (h1 a ha5 fun hm => hna ((List.mem_erase_of_ne hne).2 hm)).2.1.lt
    show (if a = e then g else gs a) ≠ if a' = e then g else gs a'
    by_cases e1 : a = e
    · rw [if_pos e1, if_neg (fun e2 => hne (e1.trans e2.symm))]
      have := lt a' ha5' (fun e2 => hne (e1.trans e2.symm)) hna'
      omega
    · rw [if_neg e1]
      by_cases e2 : a' = e
      · rw [if_pos e2]
        have := lt a ha5 e1 hna
        omega
      · rw [if_neg e2]
        exact h2 a ha5 a' ha5' (fun hm => hna ((List.mem_erase_of_ne e1).2 hm)) (fun hm => hna' ((List.mem_erase_of_ne e2).2 hm)) hne
section
variable {w : World}
theorem c_backw {A : Option Addr} {n c : Nat} : CallZ Tryz.prog 78 #[.slice A n c] w (fun u w' => ∃ b, u = .func (.func 107) #[] #[ptr b] ∧ Ext w w' ∧ Blk w' b 24 [.slice A n c] ∧ w.heap.size ≤ b) := by
  refine fn_rule (args := [.slice A n c]) Tryz.func78 (by kernel_rfl) ?_
  refine box (fun b w1 h1 => ?_)
  have e1 := h1.at_
  exact ret1 (.func (.func 107) #[] #[ptr b]) rfl ⟨b, rfl, h1.ext, h1.blk, by omega⟩
theorem c_backw1 {D : Nat → Prop} {l bs : Nat} {rs : List Reach} {A : Option Addr} {n c : Nat} (J : Nat → World → Prop) (Jf : World → Prop) (hs : SlR tReach D w A n rs) (hb : Blk w bs 24 [.slice A n c]) (hDb : D bs)
    (hstep : ∀ i u r, rs[i]? = some r → J (i + 1) u → Kept D w u → YieldP Tryz.prog l [iv (i : Int), .agg r.c.toArray].toArray (fun y w' => (y = .bool true ∧ J i w' ∧ Kept D u w') ∨ (y = .bool false ∧ Jf w')) u) (h0 : J n w) :
    CallZ Tryz.prog 107 #[.func (.yield l) #[] #[], ptr bs] w (fun _ w' => (J 0 w' ∧ Kept D w w') ∨ Jf w') := by
  refine fn_rule (args := [.func (.yield l) #[] #[], ptr bs]) Tryz.func107 (by kernel_rfl) ?_
  have hl := hs.len
  have hle := hs.le
  refine ld _ (hb.cell rfl) ?_
  refine len ?_
  refine arI (by omega) ?_
  refine loop_rule (fun k : Nat => [(3, iv ((k : Int) - 1))]) (fun k u => k ≤ n ∧ J k u ∧ Kept D w u) (fun k _ => k) n ⟨rfl, trivial⟩ ⟨by omega, h0, .refl _ _⟩ rfl ?_
  rintro G k u ⟨hk, hj, ku⟩
  refine cD (fun hge => ?_) (fun hlt => ?_)
  · obtain ⟨k, rfl⟩ : ∃ m, k = m + 1 := ⟨k - 1, by omega⟩
    have e : ((k + 1 : Nat) : Int) - 1 = (k : Int) := by omega
    rw [e]
    obtain ⟨b, o, cs, r, rfl, hr, -, -, hc, rfl⟩ := (hs.kept ku fun b _ h => h).at_ (k := k) (by omega)
    refine ld _ ((hb.kept ku hDb).cell rfl) ?_
    refine idx k rfl (by omega) ?_
    refine ldA _ hc rfl ?_
    refine yield_of (hstep k u r hr hj ku) ?_
    rintro _ u2 (⟨rfl, hj2, k2⟩ | ⟨rfl, hf⟩)
    · refine arI (by omega) ?_
      exact next k ⟨rfl, trivial⟩ ⟨by omega, hj2, ku.trans k2⟩ (by omega)
    · exact ret0 (.inr hf)
  · obtain rfl : k = 0 := by omega
    exact ret0 (.inl ⟨hj, ku⟩)
end
end Go.Proofs.YtcpdhclnmjfldaaGreat

/- Layer 48: contract of follow. -/
namespace Go.Proofs.YtcpdhclnmjfldaaGreat
open Go Go.RowKit

abbrev rgs (l : List Rg) : List Value := l.flatMap Rg.c
theorem rgs_len : ∀ l : List Rg, (rgs l).length = l.length * 2
  | [] => rfl
  | p :: l => by
    have e : (rgs (p :: l)).length = 2 + (rgs l).length := by show (p.c ++ rgs l).length = _; rw [List.length_append]; rfl
    rw [e, rgs_len l, List.length_cons]; omega
theorem flat_rgs {D : Nat → Prop} {w : World} : ∀ {l : List Rg}, FlatR tRg D w l (rgs l)
  | [] => rfl
  | m :: l => ⟨m.c, rgs l, rfl, rfl, flat_rgs⟩
theorem rgs_set : ∀ {l : List Rg} {i : Nat} {m : Rg}, i < l.length → (rgs l).take (i * 2) ++ m.c ++ (rgs l).drop (i * 2 + 2) = rgs (l.set i m)
  | p :: l, 0, m, _ => by
    show (p.c ++ rgs l).take (0 * 2) ++ m.c ++ (p.c ++ rgs l).drop (0 * 2 + 2) = m.c ++ rgs l
    rfl
  | p :: l, i + 1, m, h => by
    have ih := rgs_set (l := l) (i := i) (m := m) (by simpa using h)
    show (p.c ++ rgs l).take ((i + 1) * 2) ++ m.c ++ (p.c ++ rgs l).drop ((i + 1) * 2 + 2) = p.c ++ rgs (l.set i m)
    rw [← ih, show (i + 1) * 2 = i * 2 + 2 by omega]
    rfl
theorem getD_set {l : List Rg} {i : Nat} {m : Rg} (h : i < l.length) : (fun k => (l.set i m).getD k g0) = setF (fun k => l.getD k g0) i m := by
  funext k
  unfold setF
  by_cases e : k = i
  · subst e; rw [if_pos rfl, List.getD_eq_getElem?_getD, List.getElem?_set_self h]; rfl
  · rw [if_neg e, List.getD_eq_getElem?_getD, List.getElem?_set_ne (fun e2 => e e2.symm), ← List.getD_eq_getElem?_getD]
theorem rgs_zero {R : Nat} : (List.replicate R [iv 0, iv 0]).flatten = rgs (List.replicate R g0) := by
  induction R with
  | zero => rfl
  | succ R ih => rw [List.replicate_succ, List.replicate_succ, List.flatten_cons, ih]; rfl
def HeadsB (l : List Rg) : Prop := ∀ k, (0 ≤ (l.getD k g0).lo ∧ (l.getD k g0).lo ≤ 1073741824) ∧ -1 ≤ (l.getD k g0).hi ∧ (l.getD k g0).hi ≤ 1073741824
section
variable {d : Dist} {x : Ev} {bl : Int × Int → Option Int} {v : Wv} {f : Nat → Rg} {hl : List Rg} {r : Nat}
theorem parts_len : (partsL d x bl v f r).length ≤ 1 + d.reaches.length + d.farms.length + x.suspects.length := by
  have h : ∀ (q : Nat → Bool) (m : Nat), ((List.range m).filter q).length ≤ m := fun q m => by
    have := List.length_filter_le q (List.range m)
    rw [List.length_range] at this; exact this
  unfold partsL tailP headP outP pumpP
  simp only [List.length_append, List.length_map, List.length_cons, List.length_nil]
  have h1 := h (fun k : Nat => decide ((rcE d k).up = (r : Int))) d.reaches.length
  have h2 := h (fun k : Nat => decide ((fmE d k).reach = (r : Int))) d.farms.length
  have h3 := h (fun i : Nat => decide ((suE x i).kind = 4) && decide ((suE x i).index = (r : Int))) x.suspects.length
  omega
theorem parts_b (hw : WavOk d x bl v) (hR : d.reaches.length ≤ 64) (hF : d.farms.length ≤ 600) (hS : x.suspects.length ≤ 12) (hb : HeadsB hl) (hr : r < d.reaches.length) : PartsB (partsL d x bl v (fun k => hl.getD k g0) r) := by
  have hlen := parts_len (d := d) (x := x) (bl := bl) (v := v) (f := fun k => hl.getD k g0) (r := r)
  refine ⟨by omega, fun p hp => ?_⟩
  have ok : ∀ {y : Rg}, rgOk y 1073741824 = true → (0 ≤ y.lo ∧ y.lo ≤ 1073741824) ∧ -1 ≤ y.hi ∧ y.hi ≤ 1073741824 := fun h => by rw [rgOk_iff] at h; omega
  rcases mem_parts.1 hp with rfl | ⟨k, h1, h2, rfl⟩ | ⟨k, h1, h2, rfl⟩ | ⟨i, h1, h2, h3, rfl⟩
  · exact ok (meter_ok hw.bl (hw.tails r hr))
  · exact hb k
  · exact ok (meter_ok hw.bl (hw.outlets k h1))
  · exact ok (meter_ok hw.bl g0_ok)
theorem head_b (hw : WavOk d x bl v) (hr : r < d.reaches.length) : (0 ≤ (headV d x bl v f r (rcE d r)).lo ∧ (headV d x bl v f r (rcE d r)).lo ≤ 1073741824) ∧ -1 ≤ (headV d x bl v f r (rcE d r)).hi ∧ (headV d x bl v f r (rcE d r)).hi ≤ 1073741824 := by
  have ho := rgOk_iff.1 (meter_ok hw.bl (kd := 1) (ix := r) (hw.heads r hr))
  have hl := hw.loss r hr
  have h1 : 0 ≤ (reachV (rcE d r) (loS (partsL d x bl v f r))).1 ∧ (reachV (rcE d r) (loS (partsL d x bl v f r))).1 ≤ 1073741824 := by
    unfold reachV
    have := (lvB_first (w := loS (partsL d x bl v f r)) hl).le
    split
    · exact ⟨by decide, by decide⟩
    · split
      · exact ⟨by decide, by decide⟩
      · exact ⟨this, by show lvB _ _ ≤ _; omega⟩
  have h2 : -1 ≤ mostV (rcE d r) (min 1073741824 (hiS (partsL d x bl v f r))) := by
    unfold mostV
    have := (lvW_first (w := min 1073741824 (hiS (partsL d x bl v f r)) + 1) hl).le
    split <;> omega
  show (0 ≤ max _ _ ∧ max _ _ ≤ _) ∧ -1 ≤ min _ _ ∧ min _ _ ≤ _
  omega
end
/-- What follow has made. -/
structure CrsN (w w' : World) (bc gm bh t1 t2 t3 t4 t5 : Nat) (csd csx cw : List Value) (d : Dist) (x : Ev) (bl : Int × Int → Option Int) (v : Wv) (hl : List Rg) : Prop where
  crs : CrsR (fun b => b < w.heap.size ∨ b = bc ∨ b = bh) w' bc gm bh t1 t2 t3 t4 t5 csd csx cw d x bl v hl
  hlen : hl.length = d.reaches.length
  b1 : Blk w' t1 3 (icells d.reaches.length fun _ => 0)
  b2 : Blk w' t2 3 (icells d.farms.length fun _ => 0)
  b3 : Blk w' t3 3 (icells d.reaches.length fun _ => 0)
  b4 : Blk w' t4 3 (icells d.reaches.length fun _ => 0)
  b5 : Blk w' t5 3 (icells x.suspects.length fun _ => 0)
  new : w.heap.size ≤ bc ∧ w.heap.size ≤ bh ∧ w.heap.size ≤ t1 ∧ w.heap.size ≤ t2 ∧ w.heap.size ≤ t3 ∧ w.heap.size ≤ t4 ∧ w.heap.size ≤ t5
  ne : (bc ≠ bh ∧ bc ≠ t1 ∧ bc ≠ t2 ∧ bc ≠ t3 ∧ bc ≠ t4 ∧ bc ≠ t5) ∧ (bh ≠ t1 ∧ bh ≠ t2 ∧ bh ≠ t3 ∧ bh ≠ t4 ∧ bh ≠ t5) ∧ (t1 ≠ t2 ∧ t1 ≠ t3 ∧ t1 ≠ t4 ∧ t1 ≠ t5) ∧ (t2 ≠ t3 ∧ t2 ≠ t4 ∧ t2 ≠ t5) ∧ (t3 ≠ t4 ∧ t3 ≠ t5) ∧ t4 ≠ t5
section
variable {w : World}
set_option maxRecDepth 8000 in
theorem c_follow {D : Nat → Prop} {csd csx cw : List Value} {gm : Nat} {d : Dist} {x : Ev} {bl : Int × Int → Option Int} {v : Wv} (hd : DiR D w csd d) (hx : EvR D w csx x) (hwv : tWv.rep D w cw v) (hm : MapG kv2 w gm fun key => (bl key).map fun n => iv n)
    (hw : WavOk d x bl v) (hR : d.reaches.length ≤ 64) (hF : d.farms.length ≤ 600) (hS : x.suspects.length ≤ 12) (hlh : v.heads.length = d.reaches.length) (hlo : v.outlets.length = d.farms.length) (hlt : v.tails.length = d.reaches.length) :
    CallZ Tryz.prog 57 #[.agg (csd ++ (csx ++ [Value.map (some gm)])).toArray, .agg cw.toArray] w (fun u w' => Ext w w' ∧ ∃ bc, u = .tuple #[ptr bc, .bool (followV d x bl v d.reaches.length fun _ => g0).isSome] ∧
      ∀ f, followV d x bl v d.reaches.length (fun _ => g0) = some f → ∃ bh t1 t2 t3 t4 t5 hl, CrsN w w' bc gm bh t1 t2 t3 t4 t5 csd csx cw d x bl v hl ∧ f = fun k => hl.getD k g0) := by
  have hd := hd.more (D' := fun b => b < w.heap.size) fun b hb _ => hb
  have hx := hx.more (D' := fun b => b < w.heap.size) fun b hb _ => hb
  have hwv := tWv.more (fun b hb (_ : D b) => (hb : (fun b => b < w.heap.size) b)) hwv
  have gml := hm.lt
  obtain ⟨A1, n1, c1, A2, n2, c2, A3, n3, c3, A4, n4, c4, A5, n5, c5, A6, n6, c6, rfl, hrr, hfa, -⟩ := hd.ex
  obtain ⟨W1, m1, e1, S1, m2, e2, rfl, -, hsu, -⟩ := hx.ex
  obtain ⟨H1, h1, k1, O1, o1, k2, T1, g1, k3, rfl, -, sh, so, st⟩ := wv_open hwv
  have ln := hrr.len
  have lf := hfa.len
  have ls := hsu.len
  have lh := sh.len
  refine fn_rule (args := [.agg #[.string d.name, iv d.hours, iv d.cap, iv d.start, .slice A1 n1 c1, .slice A2 n2 c2, .slice A3 n3 c3, .slice A4 n4 c4, .slice A5 n5 c5, .slice A6 n6 c6, .slice W1 m1 e1, .slice S1 m2 e2, .map (some gm)], .agg #[iv v.hour, .slice H1 h1 k1, .slice O1 o1 k2, .slice T1 g1 k3]]) Tryz.func57 (by kernel_rfl) ?_
  refine box (fun bq w1 j1 => ?_)
  refine box (fun bw w2 j2 => ?_)
  refine alloc (fun b4 w3 j3 => ?_)
  refine alloc (fun b5 w4 j4 => ?_)
  have x4 := ((j1.ext.trans j2.ext).trans j3.ext).trans j4.ext
  have Bq : Blk w4 bq 86 [.string d.name, iv d.hours, iv d.cap, iv d.start, .slice A1 n1 c1, .slice A2 n2 c2, .slice A3 n3 c3, .slice A4 n4 c4, .slice A5 n5 c5, .slice A6 n6 c6, .slice W1 m1 e1, .slice S1 m2 e2, .map (some gm)] := ((j1.blk.ext j2.ext).ext j3.ext).ext j4.ext
  have Bw : Blk w4 bw 92 [iv v.hour, .slice H1 h1 k1, .slice O1 o1 k2, .slice T1 g1 k3] := (j2.blk.ext j3.ext).ext j4.ext
  have B4 : Blk w4 b4 97 [.pointer none] := j3.blk.ext j4.ext
  have B5 : Blk w4 b5 4 [.bool false] := j4.blk
  have a1 := j1.at_
  have a2 := j2.at_
  have a3 := j3.at_
  have a4 := j4.at_
  have s1 := j1.size
  have s2 := j2.size
  have s3 := j3.size
  have s4 := j4.size
  refine fldA ?_
  refine fldA ?_
  refine ld (.slice A1 n1 c1) (Bq.cell rfl) ?_
  refine len ?_
  -- the course
  refine drawK (fun b => b ≠ b4) [0, 1, 2, 3, 4, 5, 6] [3, 5, 6] mx (by kernel_rfl) ?_
  refine ldAK _ (.blk Bq) rfl (show bq ≠ b4 by omega) (.refl _ _) ?_
  refine ldAK _ (.blk Bw) rfl (show bw ≠ b4 by omega) (.refl _ _) ?_
  refine mslc (sz := 2) (zv := .agg #[iv 0, iv 0]) n1 rfl rfl (by omega) (by omega) rfl (by decide) (fun bh w5 j5 => ?_)
  refine strK j5.ext.any ?_
  refine bld [.string d.name, iv d.hours, iv d.cap, iv d.start, .slice A1 n1 c1, .slice A2 n2 c2, .slice A3 n3 c3, .slice A4 n4 c4, .slice A5 n5 c5, .slice A6 n6 c6, .slice W1 m1 e1, .slice S1 m2 e2, .map (some gm), iv v.hour, .slice H1 h1 k1, .slice O1 o1 k2, .slice T1 g1 k3, .slice (some (ad bh 0)) n1 n1, .slice none 0 0, .slice none 0 0, .slice none 0 0, .slice none 0 0, .slice none 0 0] (by kernel_rfl) ?_
  refine box (fun bc w6 j6 => ?_)
  refine strK j6.ext.any ?_
  refine st1 ((B4.ext j5.ext).ext j6.ext) rfl (fun w7 b47 k7 => ?_)
  refine strK k7 ?_
  have a5 := j5.at_
  have a6 := j6.at_
  have s5 := j5.size
  have s6 := j6.size
  have s7 := k7.size
  have x47 : Kept (fun b => b ≠ b4) w4 w7 := ((Ext.any j5.ext).ext j6.ext).then k7 fun b _ h => h
  have Bh7 : Blk w7 bh 105 (rgs (List.replicate n1 g0)) := by rw [← rgs_zero]; exact (j5.blk.ext j6.ext).kept k7 (by omega)
  have Bc7 : Blk w7 bc 134 [.string d.name, iv d.hours, iv d.cap, iv d.start, .slice A1 n1 c1, .slice A2 n2 c2, .slice A3 n3 c3, .slice A4 n4 c4, .slice A5 n5 c5, .slice A6 n6 c6, .slice W1 m1 e1, .slice S1 m2 e2, .map (some gm), iv v.hour, .slice H1 h1 k1, .slice O1 o1 k2, .slice T1 g1 k3, .slice (some (ad bh 0)) n1 n1, .slice none 0 0, .slice none 0 0, .slice none 0 0, .slice none 0 0, .slice none 0 0] := j6.blk.kept k7 (by omega)
  have Bq7 := Bq.kept x47 (by omega)
  have Bw7 := Bw.kept x47 (by omega)
  have B57 := B5.kept x47 (by omega)
  -- the Truth
  refine draw_w (fun u => Kept (fun b => b ≠ bc) w7 u ∧ ∃ t1 t2 t3 t4 t5, Blk u bc 134 [.string d.name, iv d.hours, iv d.cap, iv d.start, .slice A1 n1 c1, .slice A2 n2 c2, .slice A3 n3 c3, .slice A4 n4 c4, .slice A5 n5 c5, .slice A6 n6 c6, .slice W1 m1 e1, .slice S1 m2 e2, .map (some gm), iv v.hour, .slice H1 h1 k1, .slice O1 o1 k2, .slice T1 g1 k3, .slice (some (ad bh 0)) n1 n1, .slice (some (ad t1 0)) n1 n1, .slice (some (ad t2 0)) n2 n2, .slice (some (ad t3 0)) n1 n1, .slice (some (ad t4 0)) n1 n1, .slice (some (ad t5 0)) m2 m2] ∧ Blk u t1 3 (icells n1 fun _ => 0) ∧ Blk u t2 3 (icells n2 fun _ => 0) ∧ Blk u t3 3 (icells n1 fun _ => 0) ∧ Blk u t4 3 (icells n1 fun _ => 0) ∧ Blk u t5 3 (icells m2 fun _ => 0) ∧
    (w7.heap.size ≤ t1 ∧ w7.heap.size ≤ t2 ∧ w7.heap.size ≤ t3 ∧ w7.heap.size ≤ t4 ∧ w7.heap.size ≤ t5) ∧ (t1 ≠ t2 ∧ t1 ≠ t3 ∧ t1 ≠ t4 ∧ t1 ≠ t5) ∧ (t2 ≠ t3 ∧ t2 ≠ t4 ∧ t2 ≠ t5) ∧ (t3 ≠ t4 ∧ t3 ≠ t5) ∧ t4 ≠ t5) ?_ ?_
  · refine drawP (.take 0 (.take 1 (.take 3 (.take 4 (.take 5 (.take 6 (.take 8 (.take 10 (.take 12 (.take 13 (.take 14 (.take 15 (permP 5 [2, 7, 9, 11, 16] (.take 17 (.take 18 (.take 19 (.eff 20 .done))))))))))))))))) [] (fun u => Kept (fun b => b ≠ bc) w7 u) mx (by kernel_rfl) (.refl _ _) ?_
    refine ldS (ptr bc) (fun u hu => hu.cell (b47.cell rfl) (show b4 ≠ bc by omega)) ?_
    refine fldA ?_
    refine fldA ?_
    refine ldS (.slice A2 n2 c2) (fun u hu => hu.cell (Bq7.cell rfl) (show bq ≠ bc by omega)) ?_
    refine len ?_
    refine fldA ?_
    refine fldA ?_
    refine ldS (.slice S1 m2 e2) (fun u hu => hu.cell (Bq7.cell rfl) (show bq ≠ bc by omega)) ?_
    refine len ?_
    have start : ∀ F : Fr, F 26 = ptr bc → F 27 = iv (n1 : Int) → F 32 = iv (n2 : Int) → F 34 = iv (n1 : Int) → F 36 = iv (n1 : Int) → F 41 = iv (m2 : Int) → I5 w7 bc n1 n2 m2 E5 F w7 := fun F h0 h1 h2 h3 h4 h5 => by
      refine ⟨fun _ h => h, by decide, .refl _ _, h0, fun e he => ?_, ⟨fun _ => 0, fun e he hn => absurd he hn, fun e he _ _ hn => absurd he hn⟩⟩
      rcases List.mem_cons.1 he with rfl | he
      · exact h1
      rcases List.mem_cons.1 he with rfl | he
      · exact h2
      rcases List.mem_cons.1 he with rfl | he
      · exact h3
      rcases List.mem_cons.1 he with rfl | he
      · exact h4
      rcases List.mem_cons.1 he with rfl | he
      · exact h5
      · cases he
    rw [fv_eq]
    generalize hp : permP 5 [2, 7, 9, 11, 16] (.take 17 (.take 18 (.take 19 (.eff 20 .done)))) = p
    change VPlan _ _ _ _ p _ _ _
    rw [← hp]
    refine vplan_perm (I5 w7 bc n1 n2 m2) ?step ?fin 5 [2, 7, 9, 11, 16] _ _ rfl ?ini
    case ini => exact start _ rfl rfl rfl rfl rfl rfl
    · intro rem e F u C he hI hC
      have he5 := hI.sub e he
      have go : ∀ (z : Nat), z ≤ 1000 → e5z n1 n2 m2 e = z → MSlcP Tryz.prog 43 (iv (e5z n1 n2 m2 e : Int)) (iv (e5z n1 n2 m2 e : Int)) (fun y u' => fv y fun y => StrP (fun u => Kept (fun b => b ≠ bc) w7 u) u' (fun S' => C S' (upd F (e5s e) y) u')) u := fun z hz hez => by
        rw [hez]
        refine mslc (sz := 1) (zv := iv 0) z rfl rfl (by omega) (by omega) rfl (by decide) (fun g u' hn => ?_)
        refine strS (Ext.any (hI.kept.trans hn.ext)) ?_
        have hs := hI.step he (g := g) (w' := u') (by rw [hez]; exact hn)
        rw [hez] at hs
        exact hC _ _ hs
      have hsrc := hI.src e he5
      rcases List.mem_cons.1 he5 with rfl | h
      · have h0 : F 27 = iv (n1 : Int) := hsrc
        have g0' := go n1 (by omega) rfl
        show MSlcP _ _ (F 27) (F 27) _ u
        rw [h0]; exact g0'
      rcases List.mem_cons.1 h with rfl | h
      · have h0 : F 32 = iv (n2 : Int) := hsrc
        have g0' := go n2 (by omega) rfl
        show MSlcP _ _ (F 32) (F 32) _ u
        rw [h0]; exact g0'
      rcases List.mem_cons.1 h with rfl | h
      · have h0 : F 34 = iv (n1 : Int) := hsrc
        have g0' := go n1 (by omega) rfl
        show MSlcP _ _ (F 34) (F 34) _ u
        rw [h0]; exact g0'
      rcases List.mem_cons.1 h with rfl | h
      · have h0 : F 36 = iv (n1 : Int) := hsrc
        have g0' := go n1 (by omega) rfl
        show MSlcP _ _ (F 36) (F 36) _ u
        rw [h0]; exact g0'
      rcases List.mem_cons.1 h with rfl | h
      · have h0 : F 41 = iv (m2 : Int) := hsrc
        have g0' := go m2 (by omega) rfl
        show MSlcP _ _ (F 41) (F 41) _ u
        rw [h0]; exact g0'
      · cases h
    · intro F u hI
      obtain ⟨gs, q1, q2⟩ := hI.don
      obtain ⟨f1, i1, p1⟩ := q1 2 (by decide) (by decide)
      obtain ⟨f2, i2, p2⟩ := q1 7 (by decide) (by decide)
      obtain ⟨f3, i3, p3⟩ := q1 9 (by decide) (by decide)
      obtain ⟨f4, i4, p4⟩ := q1 11 (by decide) (by decide)
      obtain ⟨f5, i5, p5⟩ := q1 16 (by decide) (by decide)
      have f1 : F 28 = .slice (some (ad (gs 2) 0)) n1 n1 := f1
      have f2 : F 33 = .slice (some (ad (gs 7) 0)) n2 n2 := f2
      have f3 : F 35 = .slice (some (ad (gs 9) 0)) n1 n1 := f3
      have f4 : F 37 = .slice (some (ad (gs 11) 0)) n1 n1 := f4
      have f5 : F 42 = .slice (some (ad (gs 16) 0)) m2 m2 := f5
      have f26 := hI.f26
      have ne : ∀ e e', e ∈ E5 → e' ∈ E5 → e ≠ e' → gs e ≠ gs e' := fun e e' h h' hne => q2 e h e' h' (by simp) (by simp) hne
      rw [← upds_has (F := F) (l := [(26, ptr bc), (28, .slice (some (ad (gs 2) 0)) n1 n1), (33, .slice (some (ad (gs 7) 0)) n2 n2), (35, .slice (some (ad (gs 9) 0)) n1 n1), (37, .slice (some (ad (gs 11) 0)) n1 n1), (42, .slice (some (ad (gs 16) 0)) m2 m2)]) ⟨f26, f1, f2, f3, f4, f5, trivial⟩]
      refine bld [.slice (some (ad (gs 2) 0)) n1 n1, .slice (some (ad (gs 7) 0)) n2 n2, .slice (some (ad (gs 9) 0)) n1 n1, .slice (some (ad (gs 11) 0)) n1 n1, .slice (some (ad (gs 16) 0)) m2 m2] (by kernel_rfl) ?_
      refine fldA ?_
      refine stA (vs := [.slice (some (ad (gs 2) 0)) n1 n1, .slice (some (ad (gs 7) 0)) n2 n2, .slice (some (ad (gs 9) 0)) n1 n1, .slice (some (ad (gs 11) 0)) n1 n1, .slice (some (ad (gs 16) 0)) m2 m2]) (Bc7.ext hI.kept) rfl (Nat.le_of_ble_eq_true rfl) (by simp [Value.oneCell']) (fun u2 bb kk ss => ?_)
      refine strS ((Ext.any hI.kept).trans kk) ?_
      have lbc := Bc7.lt
      refine ⟨(Ext.any hI.kept).trans kk, gs 2, gs 7, gs 9, gs 11, gs 16, bb, i1.kept kk (by omega), i2.kept kk (by omega), i3.kept kk (by omega), i4.kept kk (by omega), i5.kept kk (by omega), ⟨p1, p2, p3, p4, p5⟩,
        ⟨ne 2 7 (by decide) (by decide) (by decide), ne 2 9 (by decide) (by decide) (by decide), ne 2 11 (by decide) (by decide) (by decide), ne 2 16 (by decide) (by decide) (by decide)⟩, ⟨ne 7 9 (by decide) (by decide) (by decide), ne 7 11 (by decide) (by decide) (by decide), ne 7 16 (by decide) (by decide) (by decide)⟩, ⟨ne 9 11 (by decide) (by decide) (by decide), ne 9 16 (by decide) (by decide) (by decide)⟩, ne 11 16 (by decide) (by decide) (by decide)⟩

  rintro G8 w8 ⟨k8, t1, t2, t3, t4, t5, Bc8, i1, i2, i3, i4, i5, hnew, hne1, hne2, hne3, hne4⟩
  have z8 := k8.size
  have lbc := Bc7.lt
  have x08 : Ext w w8 := (x4.then x47 fun b hb _ => by omega).then k8 fun b hb _ => by omega
  have Bh8 := Bh7.kept k8 (by omega)
  have Bq8 := Bq7.kept k8 (by omega)
  have Bw8 := Bw7.kept k8 (by omega)
  have B48 := b47.kept k8 (by omega)
  have B58 := B57.kept k8 (by omega)
  refine fldA ?_
  refine fldA ?_
  refine ld (.slice A1 n1 c1) (Bq8.cell rfl) ?_
  refine call_of c_backw ?_
  rintro _ w9 ⟨bb, rfl, x9, Bb9, hbb⟩
  have z9 := x9.size
  have lbb := Bb9.lt
  refine range (gf := 107) (lb := #[ptr bb]) rfl (fun fn tmps w10 R hRR hF' hwf x10 z10 hD10 hl10 => ?_)
  show CallZ _ _ #[.func (.yield (w9.heap.size + 1)) #[] #[], ptr bb] w10 _
  have x810 := x9.trans x10
  have x010 := x08.trans x810
  have l4 := B48.lt
  have l5 := B58.lt
  have lq := Bq8.lt
  have lw := Bw8.lt
  have lh8 := Bh8.lt
  have lc8 := Bc8.lt
  have lt1 := i1.lt
  have lt2 := i2.lt
  have lt3 := i3.lt
  have lt4 := i4.lt
  have lt5 := i5.lt
  have w8s := x08.size
  obtain ⟨F0, hF0⟩ : ∃ F0, F0 = followV d x bl v d.reaches.length fun _ => g0 := ⟨_, rfl⟩
  rw [← hF0]
  -- the data in a later world
  have env : ∀ (u : World) (hl : List Rg), Kept (fun b => b ≠ bh ∧ b ≠ (w9.heap.size + 1)) w10 u → hl.length = n1 → Blk u bh 105 (rgs hl) → CrsR (fun b => b < w.heap.size ∨ b = bc ∨ b = bh) u bc gm bh t1 t2 t3 t4 t5 _ _ _ d x bl v hl := fun u hl ku hll hbh => by
    have k0 : Kept (fun b => b < w.heap.size) w u := (Ext.any x010 : Kept (fun b => b < w.heap.size) w w10).then ku fun b hb h => ⟨by omega, by omega⟩
    refine ⟨(hd.kept k0 fun b _ h => h).more fun b _ h => .inl h, (hx.kept k0 fun b _ h => h).more fun b _ h => .inl h, tWv.more (fun b _ h => .inl h) (tWv.kept hwv k0 fun b _ h => h), hm.kept k0 gml, ?_, ?_, .inl gml, .inr (.inl rfl)⟩
    · rw [ln, lf, ls]
      show Blk u bc 134 [.string d.name, iv d.hours, iv d.cap, iv d.start, .slice A1 n1 c1, .slice A2 n2 c2, .slice A3 n3 c3, .slice A4 n4 c4, .slice A5 n5 c5, .slice A6 n6 c6, .slice W1 m1 e1, .slice S1 m2 e2, .map (some gm), iv v.hour, .slice H1 h1 k1, .slice O1 o1 k2, .slice T1 g1 k3, .slice (some (ad bh 0)) n1 n1, .slice (some (ad t1 0)) n1 n1, .slice (some (ad t2 0)) n2 n2, .slice (some (ad t3 0)) n1 n1, .slice (some (ad t4 0)) n1 n1, .slice (some (ad t5 0)) m2 m2]
      exact (Bc8.ext x810).kept ku ⟨by omega, by omega⟩
    · exact SlR.of_cells (by omega) (by omega) (.inr (.inr rfl)) (CellsAt.blk hbh) flat_rgs
  refine (c_backw1 (D := fun b => b ≠ bh ∧ b ≠ (w9.heap.size + 1)) (fun k u => ∃ hl : List Rg, hl.length = n1 ∧ Blk u bh 105 (rgs hl) ∧ LoopAt u (w9.heap.size + 1) R ∧ F0 = followV d x bl v k (fun k => hl.getD k g0) ∧ HeadsB hl)
    (fun u => ∃ r, LoopAt u (w9.heap.size + 1) r ∧ r.state ≠ .busy ∧ r.pending = some .ret ∧ F0 = none ∧ Blk u b4 97 [ptr bc] ∧ Blk u b5 4 [.bool false] ∧ Kept (fun b => b ≠ bh ∧ b ≠ (w9.heap.size + 1) ∧ b ≠ b4 ∧ b ≠ b5) w10 u)
    ((hrr.ext x010).more (by decide) fun b _ h => ⟨by omega, by omega⟩) (Bb9.ext x10) ⟨by omega, by omega⟩ ?_ ⟨List.replicate n1 g0, by simp, Bh8.ext x810, hl10, ?_, ?_⟩).mono ?_
  · rintro i u r hri ⟨hl, hll, bhu, lu, hfo, hhb⟩ ku
    have hir : i < d.reaches.length := (List.getElem?_eq_some_iff.1 hri).1
    have hre : rcE d i = r := by unfold rcE; rw [List.getD_eq_getElem?_getD, hri]; rfl
    obtain ⟨bo, oo, co, own, rfl, hown, -, hDo, hco, rfl⟩ := sh.at_ (k := i) (by omega)
    have hoe : v.heads.getD i g0 = own := by rw [List.getD_eq_getElem?_getD, hown]; rfl
    have Bw8 : Blk w8 bw 92 [iv v.hour, .slice (some (ad bo oo)) h1 k1, .slice O1 o1 k2, .slice T1 g1 k3] := Bw8
    subst hRR
    have lul := lu.lt
    refine yield_rule (args := [iv (i : Int), .agg r.c.toArray]) lu rfl rfl hF' hwf ?_
    refine alloc (fun ty u1 q1 => ?_)
    refine stA (vs := r.c) q1.blk rfl (Nat.le_of_ble_eq_true rfl) (by simp [Value.oneCell']) (fun u2 tb s2' zs => ?_)
    have ta := q1.at_
    have tb : Blk u2 ty 107 r.c := tb
    have xu2 : Ext u u2 := q1.ext.then s2' fun b hb _ e => by omega
    have zku := ku.size
    refine mid' (lu.kept xu2 trivial) (fun u3 k3 zk3 l3 => ?_)
    have ku3 : Kept (fun b => b ≠ bh ∧ b ≠ (w9.heap.size + 1)) w10 u3 := (ku.ext xu2).then k3 fun b _ h => h.2
    have lbh := bhu.lt
    have zxu2 := xu2.size
    have bh3 := (bhu.ext xu2).kept k3 (by omega)
    have tb3 := tb.kept k3 (by omega)
    have crs := env u3 hl ku3 hll bh3
    have q4 := (B48.ext x810).kept ku3 ⟨by omega, by omega⟩
    have q5 := (B58.ext x810).kept ku3 ⟨by omega, by omega⟩
    have qq := (Bq8.ext x810).kept ku3 ⟨by omega, by omega⟩
    have qw := (Bw8.ext x810).kept ku3 ⟨by omega, by omega⟩
    have hpb := parts_b (r := i) hw hR hF hS hhb hir
    obtain ⟨ps, hps⟩ : ∃ ps, ps = partsL d x bl v (fun k => hl.getD k g0) i := ⟨_, rfl⟩
    have hsum := sum_rng (l := ps) (by rw [hps]; exact hpb.2)
    have hplen : ps.length ≤ 4096 := by rw [hps]; exact hpb.1
    have hstepF : F0 = if loS ps > 1073741824 then none else if (reachV r (loS ps)).2 = false ∨ (headV d x bl v (fun k => hl.getD k g0) i r).lo > (headV d x bl v (fun k => hl.getD k g0) i r).hi then none else followV d x bl v i (setF (fun k => hl.getD k g0) i (headV d x bl v (fun k => hl.getD k g0) i r)) := by
      rw [hfo, hps, ← hre]; rfl
    have hbd := head_b (f := fun k => hl.getD k g0) hw hir
    rw [hre] at hbd
    have hhv : headV d x bl v (fun k => hl.getD k g0) i r = ⟨max (reachV r (loS ps)).1 (meterV bl 1 i own).lo, min (mostV r (min 1073741824 (hiS ps))) (meterV bl 1 i own).hi⟩ := by unfold headV; rw [hps, hoe]
    obtain ⟨hv, hhv'⟩ : ∃ hv, hv = headV d x bl v (fun k => hl.getD k g0) i r := ⟨_, rfl⟩
    rw [← hhv'] at hstepF hbd hhv
    refine ld (ptr bc) (q4.cell rfl) ?_
    have cl := c_leaves crs hir hlo hlt hpb
    rw [← hps] at cl
    refine call_of cl ?_
    rintro _ u4 ⟨rfl, xx4⟩
    refine alloc (fun tq u5 q6 => ?_)
    refine stA (vs := [iv (loS ps), iv (hiS ps)]) q6.blk rfl (Nat.le_of_ble_eq_true rfl) (by simp [Value.oneCell']) (fun u6 tr s6' zs6 => ?_)
    have tqa := q6.at_
    have tr : Blk u6 tq 105 [iv (loS ps), iv (hiS ps)] := tr
    have zx4 := xx4.size
    have x36 : Ext u3 u6 := xx4.trans (q6.ext.then s6' fun b hb _ e => by omega)
    have z36 := x36.size
    have ku6 := ku3.ext x36
    have l6 := l3.kept x36 trivial
    have q46 := q4.ext x36
    have q56 := q5.ext x36
    refine fldA ?_
    refine ld (iv (loS ps)) (tr.cell rfl) ?_
    refine cD (fun hgt => ?_) (fun hle => ?_)
    · have hno : F0 = none := by rw [hstepF, if_pos hgt]
      refine ld (ptr bc) (q46.cell rfl) ?_
      refine st1 q46 rfl (fun y1 p4 s4' => ?_)
      refine st1 (q56.kept s4' (by omega)) rfl (fun y2 p5 s5' => ?_)
      refine roundR' _ (((l6).kept s4' (by omega)).kept s5' (by omega)) (fun y3 s6' l9 => ?_)
      refine .inr ⟨rfl, _, l9, by simp, rfl, hno, ((p4.kept s5' (by omega)).kept s6' (by omega)), p5.kept s6' (by omega), ?_⟩
      exact (((ku6).weak fun b _ h => ⟨h.1, h.2.1⟩).then s4' (fun b _ h => h.2.2.1)).then s5' (fun b _ h => h.2.2.2) |>.then s6' fun b _ h => h.2.1
    rw [if_neg hle] at hstepF
    refine ldA _ (.blk (tb3.ext x36)) rfl ?_
    refine fldA ?_
    refine ld (iv (loS ps)) (tr.cell rfl) ?_
    obtain ⟨rb, hrb⟩ : ∃ rb, rb = (reachV r (loS ps)).2 := ⟨_, rfl⟩
    have cR := c_lReach (w := u6) (r := r) (x := loS ps)
    rw [← hrb] at cR hstepF
    refine call_of cR ?_
    rintro _ u7 ⟨rfl, xx7⟩
    refine ldA _ (.blk ((tb3.ext x36).ext xx7)) rfl ?_
    refine fldA ?_
    refine ld (iv (hiS ps)) ((tr.ext xx7).cell rfl) ?_
    refine call_of (c_lMost (r := r) (x := min 1073741824 (hiS ps))) ?_
    rintro _ u8 ⟨rfl, xx8⟩
    have x38 := (x36.trans xx7).trans xx8
    have z38 := x38.size
    have crs8 := crs.kept x38 fun _ _ _ => trivial
    refine draw_slot 15 (fun y z => ∃ b, y = ptr b ∧ Blk z b 105 [iv (meterV bl 1 i own).lo, iv (meterV bl 1 i own).hi] ∧ Ext u8 z ∧ u8.heap.size ≤ b) ?_ ?_
    · refine drawP (.take 0 (.take 1 (.take 2 (.take 3 (.take 4 (.take 5 (.take 6 (.alt 7 (.eff 8 (.eff 9 .done)) (.eff 8 (.eff 7 (.eff 9 .done))))))))))) [] (fun z => Ext u8 z) mx (by kernel_rfl) (.refl _ _) ?_
      refine ldAX _ (.blk (qq.ext x38)) rfl (.refl _ _) ?_
      refine fldA ?_
      refine ldX (.slice (some (ad bo oo)) h1 k1) ((qw.ext x38).cell rfl) (.refl _ _) ?_
      refine idx i rfl (by omega) ?_
      refine ldAX own.c (hco.kept ((Ext.any x010 : Kept (fun b => b < w.heap.size) w w10).then (ku3.ext x38) fun b hb h => ⟨by omega, by omega⟩) hDo) rfl (.refl _ _) ?_
      refine ⟨?xl, ?xr⟩
      case' xl =>
        refine call_of (c_meter (kind := 1) (index := (i : Int)) (y := own) crs8.hd crs8.hx crs8.map) ?_
        rintro _ z1 ⟨rfl, y1⟩
        refine strS y1 ?_
        refine alloc (fun b z2 y2 => ?_)
        refine strS (y1.trans y2.ext) ?_
        refine stA (vs := [iv (meterV bl 1 i own).lo, iv (meterV bl 1 i own).hi]) y2.blk rfl (Nat.le_of_ble_eq_true rfl) (by simp [Value.oneCell']) (fun z3 y3 y3k y3s => ?_)
        have ya := y2.at_
        have yz := y1.size
        have y13 : Ext u8 z3 := (y1.trans y2.ext).then y3k fun b hb _ => by omega
        refine strS y13 ?_
        exact ⟨b, rfl, y3, y13, by omega⟩
      case' xr =>
        refine alloc (fun b z1 y1 => ?_)
        refine strS y1.ext ?_
        have crs9 := crs8.kept y1.ext fun _ _ _ => trivial
        refine call_of (c_meter (kind := 1) (index := (i : Int)) (y := own) crs9.hd crs9.hx crs9.map) ?_
        rintro _ z2 ⟨rfl, y2⟩
        refine strS (y1.ext.trans y2) ?_
        refine stA (vs := [iv (meterV bl 1 i own).lo, iv (meterV bl 1 i own).hi]) (y1.blk.ext y2) rfl (Nat.le_of_ble_eq_true rfl) (by simp [Value.oneCell']) (fun z3 y3 y3k y3s => ?_)
        have ya := y1.at_
        have y13 : Ext u8 z3 := (y1.ext.trans y2).then y3k fun b hb _ => by omega
        refine strS y13 ?_
        exact ⟨b, rfl, y3, y13, by omega⟩
    rintro G9 _ u9 ⟨bm, rfl, bm9, xx9, hbm⟩
    have x39 := x38.trans xx9
    have bh9 := bh3.ext x39
    have bc9 : Blk u9 bc 134 _ := ((Bc8.ext x810).kept ku3 ⟨by omega, by omega⟩).ext x39
    have q49 := q4.ext x39
    have q59 := q5.ext x39
    have l9 := l3.kept x39 trivial
    refine drawK (fun b => b ≠ bh) [0, 1, 2, 3, 4, 5, 6, 7, 8, 9, 10, 11, 12, 13, 14, 15] [15] mx (by kernel_rfl) ?_
    refine ldK (ptr bc) (q49.cell rfl) (show b4 ≠ bh by omega) (.refl _ _) ?_
    refine fldA ?_
    refine ldK (.slice (some (ad bh 0)) n1 n1) (bc9.cell rfl) (show bc ≠ bh by omega) (.refl _ _) ?_
    refine fldA ?_
    refine ldK (iv (meterV bl 1 i own).lo) (bm9.cell rfl) (show bm ≠ bh by omega) (.refl _ _) ?_
    refine fldA ?_
    refine ldK (iv (meterV bl 1 i own).hi) (bm9.cell rfl) (show bm ≠ bh by omega) (.refl _ _) ?_
    refine bld [iv (max (reachV r (loS ps)).1 (meterV bl 1 i own).lo), iv (min (mostV r (min 1073741824 (hiS ps))) (meterV bl 1 i own).hi)] (by kernel_rfl) ?_
    refine idx i rfl (by omega) ?_
    refine stA (vs := [iv (max (reachV r (loS ps)).1 (meterV bl 1 i own).lo), iv (min (mostV r (min 1073741824 (hiS ps))) (meterV bl 1 i own).hi)]) bh9 rfl (by rw [rgs_len]; show 0 + i * 2 + 2 ≤ _; omega) (by simp [Value.oneCell']) (fun u10 bh10 k10 s10 => ?_)
    have bh10 : Blk u10 bh 105 (rgs (hl.set i hv)) := by
      have e := rgs_set (l := hl) (i := i) (m := hv) (by omega)
      rw [← e, hhv, show i * 2 = 0 + i * 2 by omega]
      exact bh10
    refine strK k10 ?_
    have bc10 := bc9.kept k10 (by omega)
    have q410 := q49.kept k10 (by omega)
    have q510 := q59.kept k10 (by omega)
    have l10 := l9.kept k10 (by omega)
    have ku10 : Kept (fun b => b ≠ bh ∧ b ≠ (w9.heap.size + 1)) w10 u10 := (ku3.ext x39).then k10 fun b _ h => h.1
    obtain ⟨bx1, ox1, cx1, hv2, hAx, hvx, -, -, hcx, rfl⟩ := (SlR.of_cells (a := tRg) (D := fun _ => True) (n := n1) (b := bh) (o := 0) (by rw [List.length_set]; omega) (by omega) trivial (CellsAt.blk bh10) flat_rgs).at_ (k := i) (by omega)
    injection hAx with hAx
    injection hAx with hx1 hx2
    subst hx1; subst hx2
    obtain rfl : hv2 = hv := by rw [List.getElem?_set_self (by omega)] at hvx; injection hvx with e; exact e.symm
    cases rb with
    | false =>
      have hno : F0 = none := by rw [hstepF, if_pos (.inl rfl)]
      refine drawQ mx (by kernel_rfl) ?_
      refine ld (ptr bc) (q410.cell rfl) ?_
      refine st1 q410 rfl (fun y1 p4 s4' => ?_)
      refine st1 (q510.kept s4' (by omega)) rfl (fun y2 p5 s5' => ?_)
      refine roundR' _ (((l10).kept s4' (by omega)).kept s5' (by omega)) (fun y3 s6' l9 => ?_)
      refine .inr ⟨rfl, _, l9, by simp, rfl, hno, ((p4.kept s5' (by omega)).kept s6' (by omega)), p5.kept s6' (by omega), ?_⟩
      exact (((ku10).weak fun b _ h => ⟨h.1, h.2.1⟩).then s4' (fun b _ h => h.2.2.1)).then s5' (fun b _ h => h.2.2.2) |>.then s6' fun b _ h => h.2.1
    | true =>
      refine drawQ mx (by kernel_rfl) ?_
      refine ld (ptr bc) (q410.cell rfl) ?_
      refine fldA ?_
      refine ld (.slice (some (ad bh 0)) n1 n1) (bc10.cell rfl) ?_
      refine idx i rfl (by omega) ?_
      refine fldA ?_
      refine ld (iv hv2.lo) (hcx 0 _ rfl) ?_
      refine ld (ptr bc) (q410.cell rfl) ?_
      refine fldA ?_
      refine ld (.slice (some (ad bh 0)) n1 n1) (bc10.cell rfl) ?_
      refine idx i rfl (by omega) ?_
      refine fldA ?_
      refine ld (iv hv2.hi) (hcx 1 _ rfl) ?_
      refine cD (fun hgt2 => ?_) (fun hle2 => ?_)
      · have hno : F0 = none := by rw [hstepF, if_pos (.inr hgt2)]
        refine ld (ptr bc) (q410.cell rfl) ?_
        refine st1 q410 rfl (fun y1 p4 s4' => ?_)
        refine st1 (q510.kept s4' (by omega)) rfl (fun y2 p5 s5' => ?_)
        refine roundR' _ (((l10).kept s4' (by omega)).kept s5' (by omega)) (fun y3 s6' l9 => ?_)
        refine .inr ⟨rfl, _, l9, by simp, rfl, hno, ((p4.kept s5' (by omega)).kept s6' (by omega)), p5.kept s6' (by omega), ?_⟩
        exact (((ku10).weak fun b _ h => ⟨h.1, h.2.1⟩).then s4' (fun b _ h => h.2.2.1)).then s5' (fun b _ h => h.2.2.2) |>.then s6' fun b _ h => h.2.1
      · rw [if_neg (by simp; omega)] at hstepF
        refine roundN' _ l10 (fun u11 k11 l11 => ?_)
        refine .inl ⟨rfl, ⟨hl.set i hv2, by rw [List.length_set]; exact hll, bh10.kept k11 (by omega), l11, ?_, fun k => ?_⟩, ((Ext.any (xu2.trans (Kept.refl _ _)) : Kept (fun b => b ≠ bh ∧ b ≠ (w9.heap.size + 1)) u u2).then k3 (fun b _ h => h.2)).ext x39 |>.then k10 (fun b _ h => h.1) |>.then k11 fun b _ h => h.2⟩
        · rw [hstepF, getD_set (by omega)]
        · have e := congrFun (getD_set (l := hl) (i := i) (m := hv2) (by omega)) k
          rw [show (hl.set i hv2).getD k g0 = setF (fun k => hl.getD k g0) i hv2 k from e]
          unfold setF
          by_cases hki : k = i
          · rw [if_pos hki]; exact hbd
          · rw [if_neg hki]; exact hhb k
  · rw [hF0, ln]
    have e : (fun _ => g0 : Nat → Rg) = fun k => (List.replicate n1 g0).getD k g0 := by
      funext k
      rw [List.getD_eq_getElem?_getD, List.getElem?_replicate]
      split <;> rfl
    rw [e]
  · intro k
    rw [List.getD_eq_getElem?_getD, List.getElem?_replicate]
    split
    · exact ⟨⟨by decide, by decide⟩, by decide, by decide⟩
    · exact ⟨⟨by decide, by decide⟩, by decide, by decide⟩
  · rintro _ w11 (⟨⟨hl, hll, bh11, l11, hfo, hhb⟩, k11⟩ | ⟨r, l11, hr1, hr2, hno, p4, p5, k11⟩)
    · subst hRR
      have hfo : F0 = some fun k => hl.getD k g0 := hfo
      refine range_end _ l11 (by simp) (fun w12 k12 => ?_)
      have ll := l11.lt
      have k102 : Kept (fun b => b ≠ bh ∧ b ≠ (w9.heap.size + 1)) w10 w12 := k11.then k12 fun b _ h => h.2
      have p4 := (B48.ext x810).kept k102 ⟨by omega, by omega⟩
      have p5 := (B58.ext x810).kept k102 ⟨by omega, by omega⟩
      refine ld (ptr bc) (p4.cell rfl) ?_
      refine st1 p4 rfl (fun w13 p4' k13 => ?_)
      refine st1 (p5.kept k13 (by omega)) rfl (fun w14 p5' k14 => ?_)
      have k104 : Kept (fun b => b ≠ bh ∧ b ≠ (w9.heap.size + 1) ∧ b ≠ b4 ∧ b ≠ b5) w10 w14 := ((k102.weak fun b _ h => ⟨h.1, h.2.1⟩).then k13 fun b _ h => h.2.2.1).then k14 fun b _ h => h.2.2.2
      have hD14 : w14.heap[w9.heap.size]? = some (.deferred (some [])) := (k104.blk _ (by omega) ⟨by omega, by omega, by omega, by omega⟩).trans hD10
      refine retM hD14 ?_
      have k15 := Kept.putObj w14 w9.heap.size (.deferred none)
      refine resL _ (holds_cell (((p4'.kept k14 (by omega)).kept k15 (by omega)).cell rfl)) ?_
      refine resL _ (holds_cell ((p5'.kept k15 (by omega)).cell rfl)) ?_
      have xe : Ext w (w14.putObj w9.heap.size (.deferred none)) := (x010.then k104 fun b hb _ => ⟨by omega, by omega, by omega, by omega⟩).then k15 fun b hb _ => by omega
      refine ⟨xe, bc, by rw [hfo]; rfl, fun f hf => ?_⟩
      rw [hfo] at hf
      injection hf with hf
      have kz : Kept (fun b => b ≠ (w9.heap.size + 1) ∧ b ≠ b4 ∧ b ≠ b5 ∧ b ≠ w9.heap.size) w11 (w14.putObj w9.heap.size (.deferred none)) := (((k12.weak fun b _ h => h.1).then k13 fun b _ h => h.2.1).then k14 fun b _ h => h.2.2.1).then k15 fun b _ h => h.2.2.2
      have kt : Kept (fun b => b ≠ bh ∧ b ≠ (w9.heap.size + 1) ∧ b ≠ b4 ∧ b ≠ b5 ∧ b ≠ w9.heap.size) w10 (w14.putObj w9.heap.size (.deferred none)) := (k104.weak fun b _ h => ⟨h.1, h.2.1, h.2.2.1, h.2.2.2.1⟩).then k15 fun b _ h => h.2.2.2.2
      have crs := env w11 hl k11 hll bh11
      have crs := crs.kept kz fun b _ h => ⟨by omega, by omega, by omega, by omega⟩
      refine ⟨bh, t1, t2, t3, t4, t5, hl, ⟨crs, by omega, ?_, ?_, ?_, ?_, ?_, ⟨by omega, by omega, by omega, by omega, by omega, by omega, by omega⟩, ⟨⟨by omega, by omega, by omega, by omega, by omega, by omega⟩, ⟨by omega, by omega, by omega, by omega, by omega⟩, hne1, hne2, hne3, hne4⟩⟩, hf.symm⟩
      · rw [ln]; exact (i1.ext x810).kept kt ⟨by omega, by omega, by omega, by omega, by omega⟩
      · rw [lf]; exact (i2.ext x810).kept kt ⟨by omega, by omega, by omega, by omega, by omega⟩
      · rw [ln]; exact (i3.ext x810).kept kt ⟨by omega, by omega, by omega, by omega, by omega⟩
      · rw [ln]; exact (i4.ext x810).kept kt ⟨by omega, by omega, by omega, by omega, by omega⟩
      · rw [ls]; exact (i5.ext x810).kept kt ⟨by omega, by omega, by omega, by omega, by omega⟩
    · refine range_end r l11 hr1 (fun w12 k12 => ?_)
      rw [hr2]
      have ll := l11.lt
      have k104 : Kept (fun b => b ≠ bh ∧ b ≠ (w9.heap.size + 1) ∧ b ≠ b4 ∧ b ≠ b5) w10 w12 := k11.then k12 fun b _ h => h.2.1
      have hD14 : w12.heap[w9.heap.size]? = some (.deferred (some [])) := (k104.blk _ (by omega) ⟨by omega, by omega, by omega, by omega⟩).trans hD10
      refine retM hD14 ?_
      have k15 := Kept.putObj w12 w9.heap.size (.deferred none)
      refine resL _ (holds_cell (((p4.kept k12 (by omega)).kept k15 (by omega)).cell rfl)) ?_
      refine resL _ (holds_cell (((p5.kept k12 (by omega)).kept k15 (by omega)).cell rfl)) ?_
      have xe : Ext w (w12.putObj w9.heap.size (.deferred none)) := (x010.then k104 fun b hb _ => ⟨by omega, by omega, by omega, by omega⟩).then k15 fun b hb _ => by omega
      exact ⟨xe, bc, by rw [hno]; rfl, fun f hf => by rw [hno] at hf; cases hf⟩
end
end Go.Proofs.YtcpdhclnmjfldaaGreat
