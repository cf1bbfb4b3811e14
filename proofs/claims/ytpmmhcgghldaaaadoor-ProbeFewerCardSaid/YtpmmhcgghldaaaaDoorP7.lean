/- Contracts: the reference's Best, Next; trees compared. -/
import Derived.Test.YtpmmhcgghldaaaaDoorPo
namespace Go.Proofs.YtpmmhcgghldaaaaDoor
open Go Go.RowKit

theorem SlR.toAll {D : Nat → Prop} {w : World} {A : Option Addr} {n : Nat} {xs : List Int} (h : SlR tInt D w A n xs) : SlR tInt All w A n xs := h.more (by decide) (fun _ _ _ => trivial)
theorem i64_0 : I64 0 := ⟨by decide, by decide⟩
theorem two_pow_le {n : Nat} (h : n ≤ 12) : 2 ^ n ≤ 4096 := show 2 ^ n ≤ 2 ^ 12 from Nat.pow_le_pow_right (by omega) h

section
variable {D D' : Nat → Prop} {w : World} {A A' A2 : Option Addr} {n m k c d e : Nat}

theorem c_rBest {l : List (List Int)} {p : List Pr} (hl : SlR tInts D w A n l) (hp : SlR tPr D w A' m p) :
    CallZ Tryd.prog 11 #[.slice A n c, .slice A' m d] w (fun v w' => ∃ cs, v = .tuple #[.agg cs.toArray, .int .i64 (rbestL l p).2.1, .int .i64 (rbestL l p).2.2] ∧
      (tTr (n + 1)).rep (fun b => w.heap.size ≤ b) w' cs (rbestL l p).1 ∧ Ext w w') := by
  have hll := hl.1
  have hpl := hp.1
  have hcv := checkL_val l p
  refine fn_rule (args := [.slice A n c, .slice A' m d]) Tryd.func11 (by kernel_rfl) ?_
  refine alloc (fun gr w1 hb => ?_)
  have hx1 := hb.ext
  refine call_of (c_rCheck (hl.ext hx1) (hp.ext hx1)) ?_
  rintro _ w1 ⟨rfl, rfl⟩
  refine cN (fun hne => ?_) (fun heq => ?_)
  · refine bld [.int .i64 0, .slice none 0 0, .slice none 0 0] (by kernel_rfl) ?_
    refine stA (vs := [.int .i64 0, .slice none 0 0, .slice none 0 0]) hb.blk rfl (Nat.le_of_ble_eq_true rfl) (by simp [Value.oneCell']) (fun w2 hb2 hk2 hz2 => ?_)
    have hb2 : Blk w2 gr 29 [.int .i64 0, .slice none 0 0, .slice none 0 0] := hb2
    have hx2 : Ext w w2 := by
      have := hb.at_
      exact hx1.then hk2 (fun b hb _ e => by omega)
    refine ret ?_
    refine resL _ (holds_agg (.blk hb2) rfl) ?_
    have e : rbestL l p = (.mk 0 [] [], 0, checkL l p) := by unfold rbestL; rw [if_pos hne]
    exact ⟨[.int .i64 0, .slice none 0 0, .slice none 0 0], by rw [e]; rfl, by rw [e]; exact tr_leaf, hx2⟩
  · obtain ⟨hN, hm, hh, hpo⟩ := checkL_ok heq
    rw [← hll] at hN
    have hok := prOk_of hpo
    have hpow := two_pow_le hN
    refine call_of (c_rCosts (hl.ext hx1) (hp.ext hx1) hN (by omega) hok) ?_
    rintro _ w2 ⟨htab, hx2, Ac, nc, cc, rfl, hcc, hct⟩
    have hw2 := hx1.trans hx2
    refine len ?_
    refine shl1 (fun q hq _ => ?_)
    rw [Int.toNat_natCast] at hq
    have hq0 : 0 < q := by rw [hq]; exact Nat.two_pow_pos n
    refine arN (q - 1) (by omega) (by omega) ?_
    refine len ?_
    refine call_of (c_members (s := q - 1) (N := n) (by omega) (by omega)) ?_
    rintro _ w3 ⟨hx3, Aa, na, ca, rfl, hca, hall⟩
    have hw3 := hw2.trans hx3
    have hfull : mem (q - 1) n = full n := by rw [hq]; rfl
    rw [hfull] at hall
    have hna := hall.1
    have hfl := full_len n
    have hblk3 := (hb.blk.ext hx2).ext hx3
    have hgr := hb.at_
    have hb1l := hb.blk.lt
    refine drawK (fun b => b ≠ gr) [0, 1, 2, 3, 5, 6, 4, 7, 8, 9, 10, 11, 12] [4, 10] mx (by kernel_rfl) ?_
    refine call_of (c_rtree hN (by omega) hok htab (rtab_len l p _) (n + 1) (full n) D _ (fun b => w2.heap.size ≤ b) w3 _ _ _ _ _ _ _ _ _ _ (hl.ext hw3) (hp.ext hw3) (hct.ext hx3) hall (fun i hi => full_lt hi) (by omega) (by rw [full_bits]; omega) (by omega) hca) ?_
    rintro _ w4 ⟨cs, rfl, hr, hx4⟩
    refine strK hx4.any ?_
    have hall4 := hall.ext hx4
    refine callQ (fun u hu => c_bits (hall4.kept hu (fun b _ hb e => by have := hx2.size; omega)) (fun i hi => by have := full_lt hi; omega) (by omega)) ?_
    rw [full_bits]
    obtain ⟨b1, o1, _, v1, rfl, hv1, -, hD1, hc1, rfl, -⟩ := (hct.ext (hx3.trans hx4)).at_ (k := q - 1) (by have := hct.1; rw [rtab_len] at this; omega)
    refine idx (q - 1) (by rw [hq]) (by have := hct.1; rw [rtab_len] at this; omega) ?_
    have hs12 := hx2.size
    refine ldK _ (hc1 0 _ rfl) (show b1 ≠ gr by omega) (.refl _ _) ?_
    obtain ⟨_, _, _, _, _, _, rfl, -⟩ := tr_open hr
    refine stA (vs := [_, _, _]) (hblk3.ext hx4) rfl (Nat.le_of_ble_eq_true rfl) (by simp [Value.oneCell']) (fun w5 hb5 hk5 hz5 => ?_)
    have hb5 : Blk w5 gr 29 [.int .i64 _, .slice _ _ _, .slice _ _ _] := hb5
    refine strK hk5 ?_
    refine ret ?_
    refine resL _ (holds_agg (.blk hb5) rfl) ?_
    have hx5 : Ext w w5 := (hw3.trans hx4).then hk5 (fun b hb _ e => by omega)
    have e : rbestL l p = (rtreeF l p (fun k => (rtab l p (2 ^ n)).getD k 0) (n + 1) (full n), v1, 0) := by
      have hg : (rtab l p (2 ^ n)).getD (2 ^ n - 1) 0 = v1 := by rw [List.getD_eq_getElem?_getD, show 2 ^ n - 1 = q - 1 from by rw [hq], hv1]; rfl
      unfold rbestL; rw [if_neg (by omega), ← hll, hg]
    refine ⟨[_, _, _], by rw [e]; rfl, ?_, hx5⟩
    rw [e]
    have r := (tTr (n + 1)).kept hr hk5 (fun b _ h => by rcases h with h | h <;> (have := hx3.size; omega))
    exact (tTr (n + 1)).more (fun b _ h => by rcases h with h | h <;> (have := hx3.size; omega)) r

theorem c_rNext {l : List (List Int)} {p : List Pr} (hl : SlR tInts D w A n l) (hp : SlR tPr D w A' m p) :
    CallZ Tryd.prog 13 #[.slice A n c, .slice A' m d] w (fun v w' => v = .tuple #[.int .i64 (rnextL l p).1, .bool (rnextL l p).2.1, .int .i64 (rnextL l p).2.2] ∧ Ext w w') := by
  refine fn_rule (args := [.slice A n c, .slice A' m d]) Tryd.func13 (by kernel_rfl) ?_
  refine call_of (c_rBest hl hp) ?_
  rintro _ w1 ⟨cs, rfl, hr, hx1⟩
  obtain ⟨A1, n1, c1, A2, n2, c2, rfl, hi, hr1, -, hk, -⟩ := tr_open hr
  have hk0 := hk.1
  refine alloc (fun g w2 hb => ?_)
  refine stA (vs := [_, _, _]) hb.blk rfl (Nat.le_of_ble_eq_true rfl) (by simp [Value.oneCell']) (fun w3 hb3 hk3 hz3 => ?_)
  have hb3 : Blk w3 g 29 [.int .i64 _, .slice _ _ _, .slice _ _ _] := hb3
  have hx3 : Ext w w3 := by
    have := hb.at_
    have := hx1.size
    exact (hx1.trans hb.ext).then hk3 (fun b hb _ e => by omega)
  refine cN (fun hne => ?_) (fun heq => ?_)
  · refine ret3 (.int .i64 0) (.bool false) (.int .i64 _) rfl rfl rfl ⟨?_, hx3⟩
    unfold rnextL; rw [if_pos (.inl hne)]
  · refine fldA ?_
    refine ld _ (hb3.cell rfl) ?_
    refine len ?_
    refine cE (fun h0 => ?_) (fun h0 => ?_)
    · refine ret3 (.int .i64 0) (.bool false) (.int .i64 _) rfl rfl rfl ⟨?_, hx3⟩
      unfold rnextL; rw [if_pos (.inr (List.eq_nil_of_length_eq_zero (by omega)))]
    · refine fldA ?_
      refine ld _ (hb3.cell rfl) ?_
      refine ret3 (.int .i64 _) (.bool true) (.int .i64 0) rfl rfl rfl ⟨?_, hx3⟩
      unfold rnextL; rw [if_neg (by rintro (h | h); exact h heq; rw [h] at hk0; simp at hk0; omega)]
end

theorem same_no {k : Nat} {a b : Tr} (h : a.probe ≠ b.probe ∨ a.rest ≠ b.rest ∨ a.kids.length ≠ b.kids.length ∨ k = 0) : sameF k a b = false := by
  cases k with
  | zero => rfl
  | succ k =>
    unfold sameF
    by_cases h1 : a.probe = b.probe
    · by_cases h2 : a.rest = b.rest
      · by_cases h3 : a.kids.length = b.kids.length
        · simp [h1, h2, h3] at h
        · simp [h3]
      · simp [h2]
    · simp [h1]
theorem same_yes {k : Nat} {a b : Tr} (h1 : a.probe = b.probe) (h2 : a.rest = b.rest) (h3 : a.kids.length = b.kids.length) (h4 : k ≠ 0) : sameF k a b = (a.kids.zip b.kids).all fun x => sameF (k - 1) x.1 x.2 := by
  obtain ⟨k, rfl⟩ : ∃ m, k = m + 1 := ⟨k - 1, by omega⟩
  conv => lhs; unfold sameF
  simp [h1, h2, h3]
theorem zip_drop_cons {α β : Type} {xs : List α} {ys : List β} {i : Nat} {x : α} {y : β} (hx : xs[i]? = some x) (hy : ys[i]? = some y) : (xs.zip ys).drop i = (x, y) :: (xs.zip ys).drop (i + 1) := by
  have h : (xs.zip ys)[i]? = some (x, y) := List.getElem?_zip_eq_some.2 ⟨hx, hy⟩
  obtain ⟨hlt, h⟩ := List.getElem?_eq_some_iff.1 h
  rw [List.drop_eq_getElem_cons hlt, h]

theorem c_Same : ∀ (k : Nat) (a b : Tr) (Da Db : Nat → Prop) (da db : Nat) (ca cb : List Value) (w : World), k ≤ 1000000 → (tTr da).rep Da w ca a → (tTr db).rep Db w cb b →
    CallZ Tryd.prog 16 #[.agg ca.toArray, .agg cb.toArray, .int .i64 (k : Int)] w (fun v w' => v = .bool (sameF k a b) ∧ Ext w w') := by
  intro k
  induction k using Nat.strongRecOn with
  | _ k ih =>
    intro a b Da Db da db ca cb w hk ha hb
    obtain ⟨da, rfl⟩ := tr_pos ha
    obtain ⟨db, rfl⟩ := tr_pos hb
    obtain ⟨A1, n1, c1, A2, n2, c2, rfl, hi, hr1, -, hk1, -⟩ := tr_open ha
    obtain ⟨B1, m1, e1, B2, m2, e2, rfl, hj, hr2, -, hk2, -⟩ := tr_open hb
    have hl1 := hk1.1
    have hl2 := hk2.1
    have hle := hk1.le
    refine fn_rule (args := [.agg #[.int .i64 a.probe, .slice A1 n1 c1, .slice A2 n2 c2], .agg #[.int .i64 b.probe, .slice B1 m1 e1, .slice B2 m2 e2], .int .i64 (k : Int)]) Tryd.func16 (by kernel_rfl) ?_
    refine box (fun g w1 hb1 => ?_)
    refine box (fun g2 w2 hb2 => ?_)
    have hx2 := hb1.ext.trans hb2.ext
    have hcg : CellsAt w2 g 0 [.int .i64 a.probe, .slice A1 n1 c1, .slice A2 n2 c2] := .blk (hb1.blk.ext hb2.ext)
    have hcg2 : CellsAt w2 g2 0 [.int .i64 b.probe, .slice B1 m1 e1, .slice B2 m2 e2] := .blk hb2.blk
    refine fldA ?_
    refine ld _ (hcg 0 _ rfl) ?_
    refine fldA ?_
    refine ld _ (hcg2 0 _ rfl) ?_
    refine cN (fun h1 => ?_) (fun h1 => ?_)
    · exact ret1 (.bool false) rfl ⟨by rw [same_no (.inl h1)], hx2⟩
    refine fldA ?_
    refine ld _ (hcg 1 _ rfl) ?_
    refine fldA ?_
    refine ld _ (hcg2 1 _ rfl) ?_
    refine callB (c_SameInts (hr1.ext hx2).toAll (hr2.ext hx2).toAll) (fun h2 => ?_) (fun h2 => ?_)
    · have h2 : a.rest = b.rest := by simpa using h2
      refine fldA ?_
      refine ld _ (hcg 2 _ rfl) ?_
      refine len ?_
      refine fldA ?_
      refine ld _ (hcg2 2 _ rfl) ?_
      refine len ?_
      refine cN (fun h3 => ?_) (fun h3 => ?_)
      · exact ret1 (.bool false) rfl ⟨by rw [same_no (.inr (.inr (.inl (by omega))))], hx2⟩
      refine cE (fun h4 => ?_) (fun h4 => ?_)
      · exact ret1 (.bool false) rfl ⟨by rw [same_no (.inr (.inr (.inr (by omega))))], hx2⟩
      have hs := same_yes (k := k) h1 h2 (by omega) (by omega)
      refine loop_rule (fun i : Nat => [(7, .int .i64 i)]) (fun i w' => i ≤ n2 ∧ Ext w2 w' ∧ sameF k a b = ((a.kids.zip b.kids).drop i).all fun x => sameF (k - 1) x.1 x.2) (fun i _ => n2 - i) 0 ⟨rfl, trivial⟩ ⟨by omega, .refl _ _, hs⟩ rfl ?_
      rintro G i w3 ⟨hi', hx3, he⟩
      have hw3 := hx2.trans hx3
      have hc1 := hcg.kept hx3 trivial
      have hc2 := hcg2.kept hx3 trivial
      refine fldA ?_
      refine ld _ (hc1 2 _ rfl) ?_
      refine len ?_
      refine cD (fun hlt => ?_) (fun hge => ?_)
      · have hlt : i < n2 := by omega
        obtain ⟨b1, o1, cx, x, rfl, hx, -, -, hcx, hrx⟩ := (hk1.ext hw3).at_ hlt
        obtain ⟨b2, o2, cy, y, rfl, hy, -, -, hcy, hry⟩ := (hk2.ext hw3).at_ (k := i) (by omega)
        rw [zip_drop_cons hx hy, List.all_cons] at he
        rw [tTr_sz] at hcx hcy
        refine drawX [0, 1, 2, 3, 4, 5, 6, 7, 8, 9, 10, 11, 12, 13] [12] mx (by kernel_rfl) ?_
        refine fldA ?_
        refine ldX _ (hc1 2 _ rfl) (.refl _ _) ?_
        refine idx i rfl hlt ?_
        refine ldAX cx hcx ((tTr da).len hrx |>.trans (tTr_sz da)) (.refl _ _) ?_
        refine fldA ?_
        refine ldX _ (hc2 2 _ rfl) (.refl _ _) ?_
        refine idx i rfl (by omega) ?_
        refine ldAX cy hcy ((tTr db).len hry |>.trans (tTr_sz db)) (.refl _ _) ?_
        refine arN (k - 1) (by omega) (by omega) ?_
        refine callE (ih (k - 1) (by omega) x y Da Db da db cx cy w3 (by omega) hrx hry) (fun w4 h5 hx4 => ?_) (fun w4 h5 hx4 => ?_)
        · refine strS hx4 ?_
          refine arI (by omega) ?_
          exact next (i + 1) ⟨rfl, trivial⟩ ⟨by omega, hx3.trans hx4, by rw [he, h5, Bool.true_and]⟩ (by omega)
        · refine strS hx4 ?_
          exact ret1 (.bool false) rfl ⟨by rw [he, h5]; rfl, hw3.trans hx4⟩
      · refine ret1 (.bool true) rfl ⟨?_, hw3⟩
        rw [he, drop_end (by rw [List.length_zip]; omega)]; rfl
    · have h2 : a.rest ≠ b.rest := by simpa using h2
      exact ret1 (.bool false) rfl ⟨by rw [same_no (.inr (.inl h2))], hx2⟩
end Go.Proofs.YtpmmhcgghldaaaaDoor
