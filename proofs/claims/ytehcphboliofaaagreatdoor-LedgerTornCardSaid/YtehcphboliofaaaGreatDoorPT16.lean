/- Parts of the proof: Mg. -/
import Derived.Test.YtehcphboliofaaaGreatDoorPT15

/- Law 56: LedgerTorn. -/
namespace Go.Proofs.YtehcphboliofaaaGreatDoor
open Go Go.RowKit Classical

/-- A disk that is started again after a store. -/
theorem Hol.again {d : Dsk} {l : List Post} {k m : Nat} (h : Hol d ((l.take k).map txt) m) (hm : m < 4294967296) (hl : LOk l) (hn : l.length ≤ 4096) (hk : k ≤ l.length) :
    storeP d l = (zeroD, 2) ∨ ∃ j, ((storeP d l).2 = 0 ∨ (storeP d l).2 = 40) ∧ ((storeP d l).2 = 0 → j = l.length) ∧ (k ≤ j ∧ j ≤ l.length) ∧ Hol ⟨(storeP d l).1.secs, [], -1, false⟩ ((l.take j).map txt) (m + 1) := by
  rcases h.store hm hl hn hk with ⟨-, h⟩ | ⟨a, b, -, -⟩ | ⟨-, a, -, j, h1, h2, b⟩
  · exact .inl h
  · refine .inr ⟨l.length, .inl a, fun _ => rfl, ⟨hk, Nat.le_refl _⟩, ?_⟩
    rw [List.take_length]
    exact b.restart
  · exact .inr ⟨j, .inr a, (fun h => by rw [a] at h; cases h), ⟨h1, by omega⟩, b⟩
/-- .. on a disk that does not stop. -/
theorem Hol.whole {d : Dsk} {l : List Post} {k m : Nat} (h : Hol d ((l.take k).map txt) m) (hm : m < 4294967296) (hl : LOk l) (hn : l.length ≤ 4096) (hk : k ≤ l.length) (hd : d.left = -1) :
    storeP d l = (zeroD, 2) ∨ ((storeP d l).2 = 0 ∧ Hol (storeP d l).1 (l.map txt) (m + 1) ∧ (storeP d l).1.left = -1) := by
  rcases h.store hm hl hn hk with ⟨-, h⟩ | ⟨a, b, -, c⟩ | ⟨a, -⟩
  · exact .inl h
  · exact .inr ⟨a, b, by rw [c (by omega), hd]⟩
  · omega
section
variable {D : Nat → Prop} {w : World} {l : List Post} {csl : List Value}
set_option maxRecDepth 8000 in
set_option maxHeartbeats 4000000 in
theorem c_LedgerTorn {f s q : Int} (hN : NumW w) (hl : LedR D w csl l) (hf : 0 ≤ f ∧ f ≤ 255) (hsq : 0 ≤ s ∧ s ≤ 255) (hq : 0 ≤ q ∧ q ≤ 255) : CallZ Tryz.prog 8 #[.agg csl.toArray, .int .u8 f, .int .u8 s, .int .u8 q] w (fun v w' => v = .bool true ∧ Ext w w') := by
  obtain ⟨A, n, c, rfl, hs, hnc⟩ := hl
  have hs := hs.more (D' := fun b => b < w.heap.size) (by decide) fun b hb _ => hb
  refine fn_rule (args := [.agg #[.slice A n c], .int .u8 f, .int .u8 s, .int .u8 q]) Tryz.func8 (by kernel_rfl) ?_
  refine box (fun b4 w1 h1 => ?_)
  have L4 : Blk w1 b4 24 [.slice A n c] := h1.blk
  refine call_of (c_lsane (hN.ext h1.ext)) ?_
  rintro _ w3 ⟨rfl, x3⟩
  have x0 := h1.ext.trans x3
  have L4 := L4.ext x3
  refine fldA ?_
  refine ld (.slice A n c) (L4.cell rfl) ?_
  refine len ?_
  refine cD (fun _ => ?_) (fun h30 => ?_)
  · exact ret1 (.bool true) rfl ⟨rfl, x0⟩
  refine ldA [.slice A n c] (.blk L4) rfl ?_
  refine call_of (c_gCheck (hs.ext x0)) ?_
  rintro _ w4 ⟨rfl, x4⟩
  have x0 := x0.trans x4
  have L4 := L4.ext x4
  have hs := hs.ext x0
  have hln := hs.len
  refine cN (fun _ => ?_) (fun he => ?_)
  · exact ret1 (.bool true) rfl ⟨rfl, x0⟩
  have he : ldgErr l = 0 := he
  obtain ⟨h4096, hok⟩ := ldgErr_0.1 he
  refine remI (by omega) (by omega) ?_
  refine cvI (by omega) ?_
  refine arI (n := 1 + s % 60) (by omega) ?_
  obtain ⟨N, hNe⟩ : ∃ N, N = 1 + s % 60 := ⟨_, rfl⟩
  rw [← hNe]
  have hN1 : 1 ≤ N ∧ N ≤ 4096 := by omega
  obtain ⟨a1, a2, a3, -⟩ := Hol.new hN1
  obtain ⟨d0, hd0⟩ : ∃ d0, d0 = (newP N).1 := ⟨_, rfl⟩
  rw [← hd0] at a2 a3
  refine call_of (c_dNew (n := N) (by unfold I64; omega)) ?_
  rintro _ w5 ⟨cs0, rfl, D0, x5⟩
  rw [← hd0] at D0
  rw [a1]
  obtain ⟨A0, n0, c0, B0, m0, e0', rfl, -⟩ := D0.ex
  refine alloc (fun b9 wa9 ha9 => ?_)
  refine stA (vs := [.slice A0 n0 c0, .slice B0 m0 e0', iv d0.left, .bool d0.stop]) ha9.blk rfl (Nat.le_of_ble_eq_true rfl) (by simp [Value.oneCell']) (fun w9 L9 k9 _ => ?_)
  have L9 : Blk w9 b9 44 [.slice A0 n0 c0, .slice B0 m0 e0', iv d0.left, .bool d0.stop] := L9
  have at9 := ha9.at_
  have xs : Ext w5 w9 := ha9.ext.then k9 fun i hi _ e => by omega
  have D0 : DskR (fun b => b ≠ b9) w9 _ d0 := (D0.more fun b hb _ => (show b ≠ b9 by omega)).ext xs
  have x59 := x5.trans xs
  have l9w := L9.lt
  have L4 := L4.ext x59
  have hs := hs.ext x59
  have x0 := x0.trans x59
  refine cN (fun h => absurd rfl h) (fun _ => ?_)
  obtain ⟨k, hk⟩ : ∃ k : Nat, (k : Int) = f % ((n : Int) + 1) := ⟨(f % ((n : Int) + 1)).toNat, by have := Int.emod_nonneg f (show (n : Int) + 1 ≠ 0 by omega); omega⟩
  have hkn : k ≤ n := by have := Int.emod_lt_of_pos f (show (0 : Int) < (n : Int) + 1 by omega); omega
  refine drawP (.take 0 (.take 1 (.take 2 (.take 3 (.take 4 (.take 5 (.take 6 (.take 7 (.take 8 (.take 9 (.take 10 (.eff 11 (.eff 12 .done))))))))))))) [] (fun y => Ext w9 y) mx (by kernel_rfl) (.refl _ _) ?_
  refine fldA ?_
  refine ldX (.slice A n c) (L4.cell rfl) (.refl _ _) ?_
  refine cvI (by omega) ?_
  refine fldA ?_
  refine ldX (.slice A n c) (L4.cell rfl) (.refl _ _) ?_
  refine len ?_
  refine arI (n := (n : Int) + 1) (by omega) ?_
  refine remI (by omega) (by omega) ?_
  refine slcR 0 k hs hnc rfl (show f % ((n : Int) + 1) = (k : Int) from hk.symm) (by omega) hkn rfl (fun A2 hA2 => ?_)
  have sP := hA2 _ w9 hs
  rw [List.drop_zero, Nat.sub_zero] at sP
  rw [Nat.sub_zero, Nat.sub_zero]
  refine bld [.slice A2 k c] (by kernel_rfl) ?_
  refine alloc (fun b11 wa h11 => ?_)
  refine strS h11.ext ?_
  refine stA (vs := [.slice A2 k c]) h11.blk rfl (Nat.le_of_ble_eq_true rfl) (by simp [Value.oneCell']) (fun w11 L11 k11 _ => ?_)
  have L11 : Blk w11 b11 24 [.slice A2 k c] := L11
  have at11 := h11.at_
  have xs2 : Ext w9 w11 := h11.ext.then k11 fun i hi _ e => by omega
  refine strS xs2 ?_
  have D0 := D0.ext xs2
  have L4 := L4.ext xs2
  have L9 := L9.ext xs2
  have hs := hs.ext xs2
  have sP := sP.ext xs2
  have x0 := x0.trans xs2
  have l9 := L9.lt
  have hlk : (l.take k).length = k := by rw [List.length_take]; omega
  refine ldA [.slice A0 n0 c0, .slice B0 m0 e0', iv d0.left, .bool d0.stop] (.blk L9) rfl ?_
  refine ldA [.slice A2 k c] (.blk L11) rfl ?_
  refine call_of (c_lStore D0 sP) ?_
  rintro _ w12 ⟨cs1, rfl, D1, x12⟩
  have b0 := Hol.whole (l := l.take k) (k := 0) (m := 1) a2 (by omega) (hok.take k) (by omega) (by omega) a3
  obtain ⟨d1, hd1⟩ : ∃ d1, d1 = (storeP d0 (l.take k)).1 := ⟨_, rfl⟩
  obtain ⟨r1, hr1⟩ : ∃ r1, r1 = (storeP d0 (l.take k)).2 := ⟨_, rfl⟩
  rw [← hd1] at D1
  rw [← hr1]
  obtain ⟨A1, n1, c1, B1, m1, e1', rfl, -⟩ := D1.ex
  refine stA (vs := [.slice A1 n1 c1, .slice B1 m1 e1', iv d1.left, .bool d1.stop]) (L9.ext x12) rfl (Nat.le_of_ble_eq_true rfl) (by simp [Value.oneCell']) (fun w13 L9' k13 _ => ?_)
  have L9' : Blk w13 b9 44 [.slice A1 n1 c1, .slice B1 m1 e1', iv d1.left, .bool d1.stop] := L9'
  have x59' := x5.size
  have s0 : w.heap.size ≤ b9 := by have := x0.size; have := (h1.ext.trans x3).size; have := x4.size; omega
  have x0 : Ext w w13 := (x0.trans x12).then k13 fun i hi _ e => by omega
  have D1 := D1.kept k13 fun b hb h => by
    rcases h with h | h
    · exact h
    · exact fun e => by omega
  have hb94 : b4 ≠ b9 := fun e => by subst e; exact absurd (Blk.uniq L4 L9).1 (by decide)
  have hb911 : b11 ≠ b9 := by omega
  have hs : SlR tPost (fun _ => True) w13 A n l := ((hs.ext x12).kept k13 fun b _ h e => by omega).more (by decide) fun _ _ _ => trivial
  have sP : SlR tPost (fun _ => True) w13 A2 k (l.take k) := ((sP.ext x12).kept k13 fun b _ h e => by omega).more (by decide) fun _ _ _ => trivial
  have L4 := (L4.ext x12).kept k13 hb94
  have L11 := (L11.ext x12).kept k13 hb911
  rcases b0 with hb | ⟨b1, b2, b3⟩
  · rw [hb] at hr1
    have hr1 : r1 = 2 := hr1
    subst hr1
    refine cN (fun _ => ?_) (fun h => absurd h (by decide))
    refine cE (fun _ => ?_) (fun h => absurd rfl h)
    exact ret1 (.bool true) rfl ⟨rfl, x0⟩
  rw [← hr1] at b1
  subst b1
  rw [← hd1] at b2 b3
  clear hr1
  refine cN (fun h => absurd rfl h) (fun _ => ?_)
  refine ldA [.slice A1 n1 c1, .slice B1 m1 e1', iv d1.left, .bool d1.stop] (.blk L9') rfl ?_
  refine call_of (c_lLoad (D1.more fun _ _ _ => trivial)) ?_
  rintro _ w14 ⟨x14, E1, q1, f1, rfl, sE1, -⟩
  rw [b2.load (hok.take k)] at sE1 ⊢
  refine alloc (fun b12 wa12 ha12 => ?_)
  refine stA (vs := [.slice E1 q1 f1]) ha12.blk rfl (Nat.le_of_ble_eq_true rfl) (by simp [Value.oneCell']) (fun w12 L12 k12 _ => ?_)
  have L12 : Blk w12 b12 24 [.slice E1 q1 f1] := L12
  have at12 := ha12.at_
  have xs : Ext w14 w12 := ha12.ext.then k12 fun i hi _ e => by omega
  have xc := x14.trans xs
  have L4 := L4.ext xc
  have L9' := L9'.ext xc
  have L11 := L11.ext xc
  have D1 := D1.ext xc
  have x0 := x0.trans xc
  have sE1 := (sE1.more (D' := fun _ => True) (by decide) fun _ _ _ => trivial).ext xs
  have hs := hs.ext xc
  have sP := sP.ext xc
  refine cN (fun h => absurd rfl h) (fun _ => ?_)
  refine ldA [.slice E1 q1 f1] (.blk L12) rfl ?_
  refine ldA [.slice A2 k c] (.blk L11) rfl ?_
  refine call_of (c_r56Same sE1 sP) ?_
  rintro _ w15 ⟨rfl, x15⟩
  rw [decide_eq_true rfl]
  have L4 := L4.ext x15
  have L9' := L9'.ext x15
  have L11 := L11.ext x15
  have D1 := D1.ext x15
  have x0 := x0.trans x15
  have hs := hs.ext x15
  refine ldA [.slice A1 n1 c1, .slice B1 m1 e1', iv d1.left, .bool d1.stop] (.blk L9') rfl ?_
  refine cvI (by omega) ?_
  refine call_of (c_dStop (D1.more fun _ _ _ => trivial) (l := q) (by unfold I64; omega)) ?_
  rintro _ w16 ⟨cs2, rfl, D2, x16⟩
  obtain ⟨st1, st2⟩ := b2.stop (n := q) (by omega)
  rw [st1] at D2 ⊢
  obtain ⟨d2, hd2⟩ : ∃ d2, d2 = (⟨d1.secs, d1.pend, q, d1.stop⟩ : Dsk) := ⟨_, rfl⟩
  have D2 : DskR (fun _ => True) w16 cs2 d2 := by rw [hd2]; exact D2
  rw [← hd2] at st2
  obtain ⟨A3, n3, c3, B3, m3, e3', rfl, -⟩ := D2.ex
  refine alloc (fun b14 wa14 ha14 => ?_)
  refine stA (vs := [.slice A3 n3 c3, .slice B3 m3 e3', iv d2.left, .bool d2.stop]) ha14.blk rfl (Nat.le_of_ble_eq_true rfl) (by simp [Value.oneCell']) (fun w14 L14 k14 _ => ?_)
  have L14 : Blk w14 b14 44 [.slice A3 n3 c3, .slice B3 m3 e3', iv d2.left, .bool d2.stop] := L14
  have at14 := ha14.at_
  have xs : Ext w16 w14 := ha14.ext.then k14 fun i hi _ e => by omega
  have xc := x16.trans xs
  have L4 := L4.ext xc
  have L11 := L11.ext xc
  have D2 := D2.ext xs
  have x0 := x0.trans xc
  have hs := hs.ext xc
  refine cN (fun h => absurd rfl h) (fun _ => ?_)
  refine ldA [.slice A3 n3 c3, .slice B3 m3 e3', iv d2.left, .bool d2.stop] (.blk L14) rfl ?_
  refine ldA [.slice A n c] (.blk L4) rfl ?_
  refine call_of (c_lStore D2 hs) ?_
  rintro _ w17 ⟨cs3, rfl, D3, x17⟩
  have cc := Hol.again (l := l) (k := k) (m := 2) st2 (by omega) hok (by omega) (by omega)
  obtain ⟨d3, hd3⟩ : ∃ d3, d3 = (storeP d2 l).1 := ⟨_, rfl⟩
  obtain ⟨r3, hr3⟩ : ∃ r3, r3 = (storeP d2 l).2 := ⟨_, rfl⟩
  rw [← hd3] at D3
  rw [← hr3]
  obtain ⟨A5, n5, c5, B5, m5, e5', rfl, hs5, -⟩ := D3.ex
  have hn5 := hs5.len
  refine alloc (fun b16 wa16 ha16 => ?_)
  refine stA (vs := [.slice A5 n5 c5, .slice B5 m5 e5', iv d3.left, .bool d3.stop]) ha16.blk rfl (Nat.le_of_ble_eq_true rfl) (by simp [Value.oneCell']) (fun w16 L16 k16 _ => ?_)
  have L16 : Blk w16 b16 44 [.slice A5 n5 c5, .slice B5 m5 e5', iv d3.left, .bool d3.stop] := L16
  have at16 := ha16.at_
  have xs : Ext w17 w16 := ha16.ext.then k16 fun i hi _ e => by omega
  have xc := x17.trans xs
  have L4 := L4.ext xc
  have L11 := L11.ext xc
  have D3 := (D3.more (D' := fun _ => True) fun _ _ _ => trivial).ext xs
  have x0 := x0.trans xc
  have hs := hs.ext xc
  rcases cc with hb | ⟨j, g1, g2, g3, g4⟩
  · rw [hb] at hr3 hd3
    have hr3 : r3 = 2 := hr3
    have hn0 : n5 = 0 := by rw [hd3] at hn5; exact hn5.symm
    subst hr3
    subst hn0
    refine cE (fun _ => ?_) (fun h => absurd rfl h)
    refine fldA ?_
    refine ld (.slice A5 0 c5) (L16.cell rfl) ?_
    refine len ?_
    refine cE (fun _ => ?_) (fun h => absurd rfl h)
    exact ret1 (.bool true) rfl ⟨rfl, x0⟩
  rw [← hr3] at g1 g2
  rw [← hd3] at g4
  clear hr3 hd3
  obtain ⟨y, hy⟩ : ∃ y, y = (⟨d3.secs, [], -1, false⟩ : Dsk) := ⟨_, rfl⟩
  rw [← hy] at g4
  refine cE (fun h => absurd h (by omega)) (fun _ => ?_)
  rcases g1 with rfl | rfl
  · have g2 := g2 rfl
    refine cN (fun h => absurd rfl h) (fun _ => ?_)
    refine ldA [.slice A5 n5 c5, .slice B5 m5 e5', iv d3.left, .bool d3.stop] (.blk L16) rfl ?_
    refine call_of (c_dRestart D3) ?_
    rintro _ w18' ⟨cs4, rfl, D4, x18⟩
    have D4 : DskR (fun _ => True) w18' cs4 y := by rw [hy]; exact D4
    obtain ⟨A6, n6, c6, B6, m6, e6', rfl, -⟩ := D4.ex
    refine alloc (fun b18 wa18 ha18 => ?_)
    refine stA (vs := [.slice A6 n6 c6, .slice B6 m6 e6', iv y.left, .bool y.stop]) ha18.blk rfl (Nat.le_of_ble_eq_true rfl) (by simp [Value.oneCell']) (fun w18 L18 k18 _ => ?_)
    have L18 : Blk w18 b18 44 [.slice A6 n6 c6, .slice B6 m6 e6', iv y.left, .bool y.stop] := L18
    have at18 := ha18.at_
    have xs : Ext w18' w18 := ha18.ext.then k18 fun i hi _ e => by omega
    have xc := x18.trans xs
    have L4 := L4.ext xc
    have L11 := L11.ext xc
    have D4 := D4.ext xs
    have x0 := x0.trans xc
    have hs := hs.ext xc
    refine ldA [.slice A6 n6 c6, .slice B6 m6 e6', iv y.left, .bool y.stop] (.blk L18) rfl ?_
    refine call_of (c_lLoad D4) ?_
    rintro _ w19' ⟨x19, E2, q2, f2, rfl, sE2, -⟩
    rw [g4.load (hok.take j)] at sE2 ⊢
    have hq2 : j = q2 := by have h : (l.take j).length = q2 := sE2.len; rw [List.length_take] at h; omega
    subst hq2
    refine alloc (fun b19 wa19 ha19 => ?_)
    refine stA (vs := [.slice E2 j f2]) ha19.blk rfl (Nat.le_of_ble_eq_true rfl) (by simp [Value.oneCell']) (fun w19 L19 k19 _ => ?_)
    have L19 : Blk w19 b19 24 [.slice E2 j f2] := L19
    have at19 := ha19.at_
    have xs : Ext w19' w19 := ha19.ext.then k19 fun i hi _ e => by omega
    have xc := x19.trans xs
    have L4 := L4.ext xc
    have L11 := L11.ext xc
    have L18 := L18.ext xc
    have D4 := D4.ext xc
    have x0 := x0.trans xc
    have hs := hs.ext xc
    have sE2 : SlR tPost (fun _ => True) w19 E2 j (l.take j) := (sE2.more (by decide) fun _ _ _ => trivial).ext xs
    refine fldA ?_
    refine ld (.slice E2 j f2) (L19.cell rfl) ?_
    refine len ?_
    refine drawP (.take 0 (.take 1 (.take 2 (.take 3 (.take 4 (.take 5 (.take 6 (.take 7 (.take 8 (.take 9 (.take 10 (.take 11 (.take 12 (.take 13 (.take 14 (.take 15 (.take 16 (.take 17 (.take 18 (.take 19 (.take 20 (.take 21 (.take 22 (.eff 23 (.take 24 (.take 25 (.take 26 (.take 27 (.take 28 (.take 29 (.take 30 (.take 31 (.take 32 (.take 33 (.take 34 (.take 35 (.take 36 .done))))))))))))))))))))))))))))))))))))) [] (fun y => Ext w19 y) mx (by kernel_rfl) (.refl _ _) ?_
    refine cN (fun h => absurd rfl h) (fun _ => ?_)
    refine fldA ?_
    refine ldX (.slice A2 k c) (L11.cell rfl) (.refl _ _) ?_
    refine len ?_
    refine cD (fun h => absurd h (by omega)) (fun _ => ?_)
    refine fldA ?_
    refine ldX (.slice A n c) (L4.cell rfl) (.refl _ _) ?_
    refine len ?_
    refine cD (fun h => absurd h (by omega)) (fun _ => ?_)
    refine ldAX [.slice E2 j f2] (.blk L19) rfl (.refl _ _) ?_
    refine fldA ?_
    refine ldX (.slice A n c) (L4.cell rfl) (.refl _ _) ?_
    refine slcR 0 j hs hnc rfl rfl (by omega) (by omega) rfl (fun A7 hA7 => ?_)
    have s7 := hA7 _ w19 hs
    rw [List.drop_zero, Nat.sub_zero] at s7
    rw [Nat.sub_zero, Nat.sub_zero]
    refine bld [.slice A7 j c] (by kernel_rfl) ?_
    refine call_of (c_r56Same sE2 s7) ?_
    rintro _ w20 ⟨rfl, x20⟩
    rw [decide_eq_true rfl]
    refine strS x20 ?_
    refine cE (fun _ => ?_) (fun h => absurd rfl h)
    refine fldA ?_
    refine ldX (.slice A n c) (L4.cell rfl) (.refl _ _) ?_
    refine len ?_
    refine cN (fun h => absurd (by omega) h) (fun _ => ?_)
    have L4 := L4.ext x20
    have L18 := L18.ext x20
    have D4 := D4.ext x20
    have x0 := x0.trans x20
    have hs := hs.ext x20
    refine ldA [.slice A6 n6 c6, .slice B6 m6 e6', iv y.left, .bool y.stop] (.blk L18) rfl ?_
    refine ldA [.slice A n c] (.blk L4) rfl ?_
    refine call_of (c_lStore D4 hs) ?_
    rintro _ w21 ⟨cs5, rfl, D5, x21⟩
    have cc := Hol.whole (l := l) (k := j) (m := 2 + 1) g4 (by omega) hok (by omega) (by omega) (by rw [hy])
    obtain ⟨d5, hd5⟩ : ∃ d5, d5 = (storeP y l).1 := ⟨_, rfl⟩
    obtain ⟨r5, hr5⟩ : ∃ r5, r5 = (storeP y l).2 := ⟨_, rfl⟩
    rw [← hd5] at D5
    rw [← hr5]
    obtain ⟨A8, n8, c8, B8, m8, e8', rfl, -⟩ := D5.ex
    refine alloc (fun b22 wa22 ha22 => ?_)
    refine stA (vs := [.slice A8 n8 c8, .slice B8 m8 e8', iv d5.left, .bool d5.stop]) ha22.blk rfl (Nat.le_of_ble_eq_true rfl) (by simp [Value.oneCell']) (fun w22 L22 k22 _ => ?_)
    have L22 : Blk w22 b22 44 [.slice A8 n8 c8, .slice B8 m8 e8', iv d5.left, .bool d5.stop] := L22
    have at22 := ha22.at_
    have xs : Ext w21 w22 := ha22.ext.then k22 fun i hi _ e => by omega
    have xc := x21.trans xs
    have L4 := L4.ext xc
    have D5 := (D5.more (D' := fun _ => True) fun _ _ _ => trivial).ext xs
    have x0 := x0.trans xc
    have hs := hs.ext xc
    rcases cc with hb | ⟨t1, t2, -⟩
    · rw [hb] at hr5
      have hr5 : r5 = 2 := hr5
      subst hr5
      refine cE (fun _ => ?_) (fun h => absurd rfl h)
      exact ret1 (.bool true) rfl ⟨rfl, x0⟩
    rw [← hr5] at t1
    rw [← hd5] at t2
    subst t1
    refine cE (fun h => absurd h (by decide)) (fun _ => ?_)
    refine ldA [.slice A8 n8 c8, .slice B8 m8 e8', iv d5.left, .bool d5.stop] (.blk L22) rfl ?_
    refine call_of (c_lLoad D5) ?_
    rintro _ w23 ⟨x23, E3, q3, f3, rfl, sE3, -⟩
    rw [t2.load hok] at sE3 ⊢
    refine alloc (fun b24 wa24 ha24 => ?_)
    refine stA (vs := [.slice E3 q3 f3]) ha24.blk rfl (Nat.le_of_ble_eq_true rfl) (by simp [Value.oneCell']) (fun w24 L24 k24 _ => ?_)
    have L24 : Blk w24 b24 24 [.slice E3 q3 f3] := L24
    have at24 := ha24.at_
    have xs : Ext w23 w24 := ha24.ext.then k24 fun i hi _ e => by omega
    have xc := x23.trans xs
    have L4 := L4.ext xc
    have x0 := x0.trans xc
    have hs := hs.ext xc
    refine cE (fun _ => ?_) (fun h => absurd rfl h)
    refine cE (fun _ => ?_) (fun h => absurd rfl h)
    refine ldA [.slice E3 q3 f3] (.blk L24) rfl ?_
    refine ldA [.slice A n c] (.blk L4) rfl ?_
    refine call_of (c_r56Same ((sE3.more (D' := fun _ => True) (by decide) fun _ _ _ => trivial).ext xs) hs) ?_
    rintro _ w25 ⟨rfl, x25⟩
    rw [decide_eq_true rfl]
    exact ret1 (.bool true) rfl ⟨rfl, x0.trans x25⟩
  · refine cN (fun _ => ?_) (fun h => absurd h (by decide))
    refine cN (fun h => absurd rfl h) (fun _ => ?_)
    refine ldA [.slice A5 n5 c5, .slice B5 m5 e5', iv d3.left, .bool d3.stop] (.blk L16) rfl ?_
    refine call_of (c_dRestart D3) ?_
    rintro _ w18' ⟨cs4, rfl, D4, x18⟩
    have D4 : DskR (fun _ => True) w18' cs4 y := by rw [hy]; exact D4
    obtain ⟨A6, n6, c6, B6, m6, e6', rfl, -⟩ := D4.ex
    refine alloc (fun b18 wa18 ha18 => ?_)
    refine stA (vs := [.slice A6 n6 c6, .slice B6 m6 e6', iv y.left, .bool y.stop]) ha18.blk rfl (Nat.le_of_ble_eq_true rfl) (by simp [Value.oneCell']) (fun w18 L18 k18 _ => ?_)
    have L18 : Blk w18 b18 44 [.slice A6 n6 c6, .slice B6 m6 e6', iv y.left, .bool y.stop] := L18
    have at18 := ha18.at_
    have xs : Ext w18' w18 := ha18.ext.then k18 fun i hi _ e => by omega
    have xc := x18.trans xs
    have L4 := L4.ext xc
    have L11 := L11.ext xc
    have D4 := D4.ext xs
    have x0 := x0.trans xc
    have hs := hs.ext xc
    refine ldA [.slice A6 n6 c6, .slice B6 m6 e6', iv y.left, .bool y.stop] (.blk L18) rfl ?_
    refine call_of (c_lLoad D4) ?_
    rintro _ w19' ⟨x19, E2, q2, f2, rfl, sE2, -⟩
    rw [g4.load (hok.take j)] at sE2 ⊢
    have hq2 : j = q2 := by have h : (l.take j).length = q2 := sE2.len; rw [List.length_take] at h; omega
    subst hq2
    refine alloc (fun b19 wa19 ha19 => ?_)
    refine stA (vs := [.slice E2 j f2]) ha19.blk rfl (Nat.le_of_ble_eq_true rfl) (by simp [Value.oneCell']) (fun w19 L19 k19 _ => ?_)
    have L19 : Blk w19 b19 24 [.slice E2 j f2] := L19
    have at19 := ha19.at_
    have xs : Ext w19' w19 := ha19.ext.then k19 fun i hi _ e => by omega
    have xc := x19.trans xs
    have L4 := L4.ext xc
    have L11 := L11.ext xc
    have L18 := L18.ext xc
    have D4 := D4.ext xc
    have x0 := x0.trans xc
    have hs := hs.ext xc
    have sE2 : SlR tPost (fun _ => True) w19 E2 j (l.take j) := (sE2.more (by decide) fun _ _ _ => trivial).ext xs
    refine fldA ?_
    refine ld (.slice E2 j f2) (L19.cell rfl) ?_
    refine len ?_
    refine drawP (.take 0 (.take 1 (.take 2 (.take 3 (.take 4 (.take 5 (.take 6 (.take 7 (.take 8 (.take 9 (.take 10 (.take 11 (.take 12 (.take 13 (.take 14 (.take 15 (.take 16 (.take 17 (.take 18 (.take 19 (.take 20 (.take 21 (.take 22 (.eff 23 (.take 24 (.take 25 (.take 26 (.take 27 (.take 28 (.take 29 (.take 30 (.take 31 (.take 32 (.take 33 (.take 34 (.take 35 (.take 36 .done))))))))))))))))))))))))))))))))))))) [] (fun y => Ext w19 y) mx (by kernel_rfl) (.refl _ _) ?_
    refine cN (fun h => absurd rfl h) (fun _ => ?_)
    refine fldA ?_
    refine ldX (.slice A2 k c) (L11.cell rfl) (.refl _ _) ?_
    refine len ?_
    refine cD (fun h => absurd h (by omega)) (fun _ => ?_)
    refine fldA ?_
    refine ldX (.slice A n c) (L4.cell rfl) (.refl _ _) ?_
    refine len ?_
    refine cD (fun h => absurd h (by omega)) (fun _ => ?_)
    refine ldAX [.slice E2 j f2] (.blk L19) rfl (.refl _ _) ?_
    refine fldA ?_
    refine ldX (.slice A n c) (L4.cell rfl) (.refl _ _) ?_
    refine slcR 0 j hs hnc rfl rfl (by omega) (by omega) rfl (fun A7 hA7 => ?_)
    have s7 := hA7 _ w19 hs
    rw [List.drop_zero, Nat.sub_zero] at s7
    rw [Nat.sub_zero, Nat.sub_zero]
    refine bld [.slice A7 j c] (by kernel_rfl) ?_
    refine call_of (c_r56Same sE2 s7) ?_
    rintro _ w20 ⟨rfl, x20⟩
    rw [decide_eq_true rfl]
    refine strS x20 ?_
    refine cE (fun h => absurd h (by decide)) (fun _ => ?_)
    have L4 := L4.ext x20
    have L18 := L18.ext x20
    have D4 := D4.ext x20
    have x0 := x0.trans x20
    have hs := hs.ext x20
    refine ldA [.slice A6 n6 c6, .slice B6 m6 e6', iv y.left, .bool y.stop] (.blk L18) rfl ?_
    refine ldA [.slice A n c] (.blk L4) rfl ?_
    refine call_of (c_lStore D4 hs) ?_
    rintro _ w21 ⟨cs5, rfl, D5, x21⟩
    have cc := Hol.whole (l := l) (k := j) (m := 2 + 1) g4 (by omega) hok (by omega) (by omega) (by rw [hy])
    obtain ⟨d5, hd5⟩ : ∃ d5, d5 = (storeP y l).1 := ⟨_, rfl⟩
    obtain ⟨r5, hr5⟩ : ∃ r5, r5 = (storeP y l).2 := ⟨_, rfl⟩
    rw [← hd5] at D5
    rw [← hr5]
    obtain ⟨A8, n8, c8, B8, m8, e8', rfl, -⟩ := D5.ex
    refine alloc (fun b22 wa22 ha22 => ?_)
    refine stA (vs := [.slice A8 n8 c8, .slice B8 m8 e8', iv d5.left, .bool d5.stop]) ha22.blk rfl (Nat.le_of_ble_eq_true rfl) (by simp [Value.oneCell']) (fun w22 L22 k22 _ => ?_)
    have L22 : Blk w22 b22 44 [.slice A8 n8 c8, .slice B8 m8 e8', iv d5.left, .bool d5.stop] := L22
    have at22 := ha22.at_
    have xs : Ext w21 w22 := ha22.ext.then k22 fun i hi _ e => by omega
    have xc := x21.trans xs
    have L4 := L4.ext xc
    have D5 := (D5.more (D' := fun _ => True) fun _ _ _ => trivial).ext xs
    have x0 := x0.trans xc
    have hs := hs.ext xc
    rcases cc with hb | ⟨t1, t2, -⟩
    · rw [hb] at hr5
      have hr5 : r5 = 2 := hr5
      subst hr5
      refine cE (fun _ => ?_) (fun h => absurd rfl h)
      exact ret1 (.bool true) rfl ⟨rfl, x0⟩
    rw [← hr5] at t1
    rw [← hd5] at t2
    subst t1
    refine cE (fun h => absurd h (by decide)) (fun _ => ?_)
    refine ldA [.slice A8 n8 c8, .slice B8 m8 e8', iv d5.left, .bool d5.stop] (.blk L22) rfl ?_
    refine call_of (c_lLoad D5) ?_
    rintro _ w23 ⟨x23, E3, q3, f3, rfl, sE3, -⟩
    rw [t2.load hok] at sE3 ⊢
    refine alloc (fun b24 wa24 ha24 => ?_)
    refine stA (vs := [.slice E3 q3 f3]) ha24.blk rfl (Nat.le_of_ble_eq_true rfl) (by simp [Value.oneCell']) (fun w24 L24 k24 _ => ?_)
    have L24 : Blk w24 b24 24 [.slice E3 q3 f3] := L24
    have at24 := ha24.at_
    have xs : Ext w23 w24 := ha24.ext.then k24 fun i hi _ e => by omega
    have xc := x23.trans xs
    have L4 := L4.ext xc
    have x0 := x0.trans xc
    have hs := hs.ext xc
    refine cE (fun _ => ?_) (fun h => absurd rfl h)
    refine cE (fun _ => ?_) (fun h => absurd rfl h)
    refine ldA [.slice E3 q3 f3] (.blk L24) rfl ?_
    refine ldA [.slice A n c] (.blk L4) rfl ?_
    refine call_of (c_r56Same ((sE3.more (D' := fun _ => True) (by decide) fun _ _ _ => trivial).ext xs) hs) ?_
    rintro _ w25 ⟨rfl, x25⟩
    rw [decide_eq_true rfl]
    exact ret1 (.bool true) rfl ⟨rfl, x0.trans x25⟩
end
end Go.Proofs.YtehcphboliofaaaGreatDoor
