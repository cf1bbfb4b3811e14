/- Parts of the proof: Mf. -/
import Derived.Test.YtehcphboliofaaaGreatDoorPT15

/- Law 56: LedgerPost. -/
namespace Go.Proofs.YtehcphboliofaaaGreatDoor
open Go Go.RowKit Classical

/-- What a posting adds to an account, as the law says it. -/
theorem posD_by {p : Post} (h : P1 p) (so a : Int) : posD p (so, a) = if so = p.sort ∧ a = p.to then p.n else if so = p.sort ∧ a = p.frm then 0 - p.n else 0 := by
  have hne := h.ne
  unfold posD Post.ta Post.fa
  simp only [Prod.mk.injEq]
  by_cases h1 : p.sort = so
  · subst h1
    by_cases h2 : p.to = a
    · subst h2
      rw [if_pos ⟨rfl, rfl⟩, if_neg (fun q => hne q.2), if_pos ⟨rfl, rfl⟩]; omega
    · rw [if_neg (fun q => h2 q.2)]
      by_cases h3 : p.frm = a
      · subst h3
        rw [if_pos ⟨rfl, rfl⟩, if_neg (fun q => h2 q.2.symm), if_pos ⟨rfl, rfl⟩]
      · rw [if_neg (fun q => h3 q.2), if_neg (fun q => h2 q.2.symm), if_neg (fun q => h3 q.2.symm)]; omega
  · rw [if_neg (fun q => h1 q.1), if_neg (fun q => h1 q.1), if_neg (fun q => h1 q.1.symm), if_neg (fun q => h1 q.1.symm)]; omega
section
variable {D : Nat → Prop} {w : World} {l : List Post} {csl csp : List Value}
set_option maxRecDepth 8000 in
set_option maxHeartbeats 2000000 in
theorem c_LedgerPost {ac : Int} {p : Post} (hN : NumW w) (hl : LedR D w csl l) (hp : csp = p.c) : CallZ Tryz.prog 7 #[.agg csl.toArray, .agg csp.toArray, iv ac] w (fun v w' => v = .bool true ∧ Ext w w') := by
  obtain ⟨A, n, c, rfl, hs, hnc⟩ := hl
  subst hp
  refine fn_rule (args := [.agg #[.slice A n c], .agg p.c.toArray, iv ac]) Tryz.func7 (by kernel_rfl) ?_
  refine box (fun b3 w1 h1 => ?_)
  refine box (fun b4 w2 h2 => ?_)
  have L2 : Blk w2 b3 24 [.slice A n c] := h1.blk.ext h2.ext
  have P2 : Blk w2 b4 26 p.c := h2.blk
  have x2 := h1.ext.trans h2.ext
  refine call_of (c_lsane (hN.ext x2)) ?_
  rintro _ w3 ⟨rfl, x3⟩
  have x03 := x2.trans x3
  have L3 := L2.ext x3
  have P3 := P2.ext x3
  refine ldA [.slice A n c] (.blk L3) rfl ?_
  refine callE (c_r56Few (hs.ext x03)) (fun w4 _ x4 => ?_) (fun w4 _ x4 => ?_)
  rotate_left
  · exact ret1 (.bool true) rfl ⟨rfl, x03.trans x4⟩
  have x0 := x03.trans x4
  have L4 := L3.ext x4
  have P4 := P3.ext x4
  have hs := hs.ext x0
  refine ldA [.slice A n c] (.blk L4) rfl ?_
  refine ldA p.c (.blk P4) rfl ?_
  refine call_of (c_gPost (p := p) hs) ?_
  rintro _ w5 ⟨x5, B, m, k, rfl, h5⟩
  obtain ⟨sB, hmk⟩ := post_rd h5
  refine alloc (fun b7 w6 h6 => ?_)
  refine stA (vs := [.slice B m k]) h6.blk rfl (Nat.le_of_ble_eq_true rfl) (by simp [Value.oneCell']) (fun w7 L7 k7 _ => ?_)
  have L7 : Blk w7 b7 24 [.slice B m k] := L7
  have e6 := h6.at_
  have x57 : Ext w5 w7 := h6.ext.then k7 fun i hi _ e => by omega
  have x47 := x5.trans x57
  have L4 := L4.ext x47
  have P4 := P4.ext x47
  have hs := hs.ext x47
  have sB := sB.ext x57
  have x0 := x0.trans x47
  refine cN (fun he => ?_) (fun he => ?_)
  · have hm0 : m = 0 := by
      rcases h5 with ⟨-, -, h, -⟩ | ⟨h, -⟩
      · exact h
      · exact absurd h he
    subst hm0
    refine fldA ?_
    refine ld (.slice B 0 k) (L7.cell rfl) ?_
    refine len ?_
    refine cE (fun _ => ?_) (fun h => absurd rfl h)
    exact ret1 (.bool true) rfl ⟨rfl, x0⟩
  have he : postE l p = 0 := he
  have hV : postV l p = l ++ [p] := by unfold postV; rw [if_pos he]
  rw [hV] at sB
  have hE1 : ldgErr l = 0 := by
    by_cases h : ldgErr l = 0
    · exact h
    · unfold postE at he; rw [if_pos h] at he; exact absurd he h
  have hE2 : ldgErr (l ++ [p]) = 0 := by unfold postE at he; rw [if_neg (fun h => h hE1)] at he; exact he
  obtain ⟨g1, o1⟩ := ldgErr_0.1 hE1
  obtain ⟨g2, o2⟩ := ldgErr_0.1 hE2
  have hp1 : P1 p := (LOk_snoc.1 o2).2.toP1
  have hn := hp1.n
  refine fldA ?_
  refine ld (iv p.frm) (P4.cell rfl) ?_
  refine fldA ?_
  refine ld (iv p.to) (P4.cell rfl) ?_
  refine lit [iv p.frm, iv p.to, iv ac] (fun g w8 h8 => ?_)
  have x78 := h8.ext
  have G8 : Blk w8 g 3 ([p.frm, p.to, ac].map iv) := h8.blk
  have L4 := L4.ext x78
  have L7 := L7.ext x78
  have P4 := P4.ext x78
  have hs := hs.ext x78
  have sB := sB.ext x78
  have x0 := x0.trans x78
  refine len ?_
  refine loop_rule (fun i : Nat => [(42, iv (i : Int))]) (fun i u => i ≤ 3 ∧ Ext w8 u) (fun i _ => 3 - i) 0 ⟨rfl, trivial⟩ ⟨by omega, .refl _ _⟩ rfl ?_
  rintro G i u ⟨hi, xu⟩
  refine cD (fun hlt => ?_) (fun hge => ?_)
  · obtain ⟨a, ha⟩ : ∃ a, [p.frm, p.to, ac][i]? = some a := ⟨_, List.getElem?_eq_getElem (show i < 3 by omega)⟩
    have hc1 : u.cell? (ad g (0 + i * 1)) = some (iv a) := by
      rw [Nat.zero_add, Nat.mul_one]
      exact (G8.ext xu).cell (by rw [List.getElem?_map, ha]; rfl)
    refine idx i rfl (by show i < 3; omega) ?_
    refine ld (iv a) hc1 ?_
    refine lit [iv 1, iv 2] (fun q u1 hq => ?_)
    have Q1 : Blk u1 q 3 ([1, 2].map iv) := hq.blk
    have xu1 := xu.trans hq.ext
    refine len ?_
    refine loop_rule (fun j : Nat => [(48, iv (j : Int))]) (fun j v => j ≤ 2 ∧ Ext u1 v) (fun j _ => 2 - j) 0 ⟨rfl, trivial⟩ ⟨by omega, .refl _ _⟩ rfl ?_
    rintro G2 j v ⟨hj, xv⟩
    have xv8 := xu1.trans xv
    refine cD (fun hlt2 => ?_) (fun hge2 => ?_)
    · obtain ⟨so, hso⟩ : ∃ so, ([1, 2] : List Int)[j]? = some so := ⟨_, List.getElem?_eq_getElem (show j < 2 by omega)⟩
      have hc2 : v.cell? (ad q (0 + j * 1)) = some (iv so) := by
        rw [Nat.zero_add, Nat.mul_one]
        exact (Q1.ext xv).cell (by rw [List.getElem?_map, hso]; rfl)
      refine idx j rfl (by show j < 2; omega) ?_
      refine ld (iv so) hc2 ?_
      refine ldA [.slice A n c] (.blk (L4.ext xv8)) rfl ?_
      refine call_of (c_gBalance (hs.ext xv8)) ?_
      rintro _ v1 ⟨rfl, x1'⟩
      have xv9 := xv8.trans x1'
      refine ldA [.slice B m k] (.blk (L7.ext xv9)) rfl ?_
      refine call_of (c_gBalance (sB.ext xv9)) ?_
      rintro _ v2 ⟨rfl, x2'⟩
      have xva := xv9.trans x2'
      have xu2 := xv.trans (x1'.trans x2')
      have P5 := P4.ext xva
      have hf : balE (l ++ [p]) so a 4096 = balE l so a 4096 := by unfold balE; rw [hE1, hE2]
      rw [hf]
      obtain ⟨f, hfe⟩ : ∃ f, f = balE l so a 4096 := ⟨_, rfl⟩
      rw [← hfe]
      obtain ⟨N, hNe⟩ : ∃ N, N = if f = 0 then balH l (so, a) 4096 else 0 := ⟨_, rfl⟩
      obtain ⟨M, hMe⟩ : ∃ M, M = if f = 0 then balH (l ++ [p]) (so, a) 4096 else 0 := ⟨_, rfl⟩
      rw [← hNe, ← hMe]
      have hfin : f = 0 → M = N + posD p (so, a) := fun h => by
        rw [hMe, hNe, if_pos h, if_pos h, balH_step, if_pos (by have := hp1.hour; omega)]
      have hNb : -10000000000000000 ≤ N ∧ N ≤ 10000000000000000 := by
        have hb := bal_b o1 (so, a)
        have hH : balH l (so, a) 4096 = balL l (so, a) := balH_all fun q hq => (o1.p1 hq).hour.2
        rw [hNe]
        split
        · rw [hH]; omega
        · omega
      have hby := posD_by hp1 so a
      refine fldA ?_
      refine ld (iv p.sort) (P5.cell rfl) ?_
      refine cE (fun hso2 => ?_) (fun hso2 => ?_)
      · refine fldA ?_
        refine ld (iv p.frm) (P5.cell rfl) ?_
        refine cE (fun hfr => ?_) (fun hfr => ?_)
        · refine fldA ?_
          refine ld (iv p.n) (P5.cell rfl) ?_
          refine arI (n := 0 - p.n) (by omega) ?_
          refine fldA ?_
          refine ld (iv p.sort) (P5.cell rfl) ?_
          refine cE (fun _ => ?_) (fun h => absurd hso2 h)
          refine fldA ?_
          refine ld (iv p.to) (P5.cell rfl) ?_
          refine cE (fun h => absurd (hfr.symm.trans h) hp1.ne) (fun hto => ?_)
          have hb1 : posD p (so, a) = 0 - p.n := by rw [hby, if_neg (fun q => hto q.2), if_pos ⟨hso2, hfr⟩]
          refine cN (fun h => absurd rfl h) (fun _ => ?_)
          refine cE (fun h0 => ?_) (fun h0 => ?_)
          · refine arI (n := N + (0 - p.n)) (by omega) ?_
            refine cN (fun h => absurd (by rw [hfin h0, hb1]) h) (fun _ => ?_)
            refine arI (n := (j : Int) + 1) (by omega) ?_
            exact next (j + 1) ⟨by rw [Int.natCast_add]; rfl, trivial⟩ ⟨by omega, xu2⟩ (by omega)
          · refine arI (n := (j : Int) + 1) (by omega) ?_
            exact next (j + 1) ⟨by rw [Int.natCast_add]; rfl, trivial⟩ ⟨by omega, xu2⟩ (by omega)
        · refine fldA ?_
          refine ld (iv p.sort) (P5.cell rfl) ?_
          refine cE (fun _ => ?_) (fun h => absurd hso2 h)
          refine fldA ?_
          refine ld (iv p.to) (P5.cell rfl) ?_
          refine cE (fun hto => ?_) (fun hto => ?_)
          · refine fldA ?_
            refine ld (iv p.n) (P5.cell rfl) ?_
            have hb1 : posD p (so, a) = p.n := by rw [hby, if_pos ⟨hso2, hto⟩]
            refine cN (fun h => absurd rfl h) (fun _ => ?_)
            refine cE (fun h0 => ?_) (fun h0 => ?_)
            · refine arI (n := N + p.n) (by omega) ?_
              refine cN (fun h => absurd (by rw [hfin h0, hb1]) h) (fun _ => ?_)
              refine arI (n := (j : Int) + 1) (by omega) ?_
              exact next (j + 1) ⟨by rw [Int.natCast_add]; rfl, trivial⟩ ⟨by omega, xu2⟩ (by omega)
            · refine arI (n := (j : Int) + 1) (by omega) ?_
              exact next (j + 1) ⟨by rw [Int.natCast_add]; rfl, trivial⟩ ⟨by omega, xu2⟩ (by omega)
          · have hb1 : posD p (so, a) = 0 := by rw [hby, if_neg (fun q => hto q.2), if_neg (fun q => hfr q.2)]
            refine cN (fun h => absurd rfl h) (fun _ => ?_)
            refine cE (fun h0 => ?_) (fun h0 => ?_)
            · refine arI (n := N + 0) (by omega) ?_
              refine cN (fun h => absurd (by rw [hfin h0, hb1]) h) (fun _ => ?_)
              refine arI (n := (j : Int) + 1) (by omega) ?_
              exact next (j + 1) ⟨by rw [Int.natCast_add]; rfl, trivial⟩ ⟨by omega, xu2⟩ (by omega)
            · refine arI (n := (j : Int) + 1) (by omega) ?_
              exact next (j + 1) ⟨by rw [Int.natCast_add]; rfl, trivial⟩ ⟨by omega, xu2⟩ (by omega)
      · refine fldA ?_
        refine ld (iv p.sort) (P5.cell rfl) ?_
        refine cE (fun h => absurd h hso2) (fun _ => ?_)
        have hb1 : posD p (so, a) = 0 := by rw [hby, if_neg (fun q => hso2 q.1), if_neg (fun q => hso2 q.1)]
        refine cN (fun h => absurd rfl h) (fun _ => ?_)
        refine cE (fun h0 => ?_) (fun h0 => ?_)
        · refine arI (n := N + 0) (by omega) ?_
          refine cN (fun h => absurd (by rw [hfin h0, hb1]) h) (fun _ => ?_)
          refine arI (n := (j : Int) + 1) (by omega) ?_
          exact next (j + 1) ⟨by rw [Int.natCast_add]; rfl, trivial⟩ ⟨by omega, xu2⟩ (by omega)
        · refine arI (n := (j : Int) + 1) (by omega) ?_
          exact next (j + 1) ⟨by rw [Int.natCast_add]; rfl, trivial⟩ ⟨by omega, xu2⟩ (by omega)
    · refine arI (n := (i : Int) + 1) (by omega) ?_
      exact next (i + 1) ⟨by rw [Int.natCast_add]; rfl, trivial⟩ ⟨by omega, xu1.trans xv⟩ (by omega)
  · exact ret1 (.bool true) rfl ⟨rfl, x0.trans xu⟩
end
end Go.Proofs.YtehcphboliofaaaGreatDoor
