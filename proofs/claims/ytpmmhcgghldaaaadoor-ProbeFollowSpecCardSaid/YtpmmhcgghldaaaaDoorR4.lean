/- The laws: ProbeSpec, ProbeFollowSpec, ProbeCheapest. -/
import Derived.Test.YtpmmhcgghldaaaaDoorR3
namespace Go.Proofs.YtpmmhcgghldaaaaDoor
open Go Go.RowKit

theorem same_refl : ∀ {d k : Nat} {t : Tr}, deep d t → d ≤ k → sameF k t t = true
  | 0, _, _, h, _ => h.elim
  | d + 1, k, t, h, hk => by
    obtain ⟨k, rfl⟩ : ∃ j, k = j + 1 := ⟨k - 1, by omega⟩
    have : sameF (k + 1) t t = (t.probe == t.probe && t.rest == t.rest && (t.kids.length == t.kids.length) && (t.kids.zip t.kids).all fun x => sameF k x.1 x.2) := rfl
    rw [this]
    simp only [beq_self_eq_true, Bool.and_self, Bool.true_and, List.all_eq_true]
    intro x hx
    obtain ⟨i, hi⟩ := List.getElem?_of_mem hx
    rw [List.getElem?_zip_eq_some] at hi
    have e : x.1 = x.2 := Option.some.inj (hi.1.symm.trans hi.2)
    rw [← e]
    exact same_refl (h _ (List.mem_of_getElem? hi.1)) (by omega)
theorem few_len {l : List (List Int)} {p : List Pr} (h : fewL l p = true) : l.length ≤ 8 ∨ 12 < l.length := by
  unfold fewL at h
  simp at h
  omega
theorem best_deep {l : List (List Int)} {p : List Pr} (h : fewL l p = true) (hd : deep (l.length + 1) (rbestL l p).1) : sameF 14 (rbestL l p).1 (rbestL l p).1 = true := by
  by_cases hc : checkL l p = 0
  · have := (checkL_ok hc).1
    exact same_refl hd (by rcases few_len h with h | h <;> omega)
  · have : (rbestL l p).1 = .mk 0 [] [] := by unfold rbestL; rw [if_pos hc]
    rw [this]; exact same_refl (d := 1) (fun k hk => by cases hk) (by decide)

section
variable {D Dt Du : Nat → Prop} {w : World} {A A' A4 : Option Addr} {n m k c d e : Nat}
theorem c_ProbeSpec {l : List (List Int)} {p : List Pr} (hl : SlR tInts D w A n l) (hp : SlR tPr D w A' m p) (hT : TabW w) :
    CallZ Tryd.prog 3 #[.slice A n c, .slice A' m d] w (fun v w' => v = .bool true ∧ Ext w w') := by
  refine fn_rule (args := [.slice A n c, .slice A' m d]) Tryd.func3 (by kernel_rfl) ?_
  refine call_of (c_sane hT) ?_
  rintro _ w1 ⟨rfl, x1⟩
  refine callB (c_Few (hl.ext x1) (hp.ext x1)) (fun hf => ?_) (fun _ => ?_)
  · have cB := fun c d => c_Best (c := c) (d := d) (hl.ext x1) (hp.ext x1) (hT.ext x1)
    rw [best_eq] at cB
    refine call_of (cB _ _) ?_
    rintro _ w2 ⟨cs, f, rfl, hr, -, x2⟩
    obtain ⟨f, rfl⟩ := tr_pos hr
    obtain ⟨A3, n3, c3, A4, n4, c4, rfl, -⟩ := tr_open hr
    refine alloc (fun g5 w3 h3 => ?_)
    refine stA (vs := [_, _, _]) h3.blk rfl (Nat.le_of_ble_eq_true rfl) (by simp [Value.oneCell']) (fun w4 hb4 k4 z4 => ?_)
    have e3 := h3.at_
    have x24 : Ext w2 w4 := h3.ext.then k4 (fun b hb _ e => by omega)
    have x04 := (x1.trans x2).trans x24
    refine call_of (c_rBest (hl.ext x04) (hp.ext x04)) ?_
    rintro _ w5 ⟨cs2, rfl, hr2, x5⟩
    obtain ⟨A5, n5, c5, A6, n6, c6, rfl, -⟩ := tr_open hr2
    refine alloc (fun g8 w6 h6 => ?_)
    refine stA (vs := [_, _, _]) h6.blk rfl (Nat.le_of_ble_eq_true rfl) (by simp [Value.oneCell']) (fun w7 hb7 k7 z7 => ?_)
    have e6 := h6.at_
    have x57 : Ext w5 w7 := h6.ext.then k7 (fun b hb _ e => by omega)
    have x47 := x5.trans x57
    have x07 := x04.trans x47
    refine call_of (c_Next (hl.ext x07) (hp.ext x07)) ?_
    rintro _ w8 ⟨rfl, x8⟩
    refine call_of (c_rNext (hl.ext (x07.trans x8)) (hp.ext (x07.trans x8))) ?_
    rintro _ w9 ⟨rfl, x9⟩
    have x79 := x8.trans x9
    refine call_of (c_Check (hl.ext (x07.trans x79)) (hp.ext (x07.trans x79))) ?_
    rintro _ w10 ⟨rfl, x10⟩
    have x710 := x79.trans x10
    refine call_of (c_rCheck (hl.ext (x07.trans x710)) (hp.ext (x07.trans x710))) ?_
    rintro _ w11 ⟨rfl, rfl⟩
    refine cE (fun _ => ?_) (fun h => absurd rfl h)
    refine ldA [_, _, _] (.blk (hb4.ext (x47.trans x710))) rfl ?_
    refine ldA [_, _, _] (.blk (hb7.ext x710)) rfl ?_
    have cS := c_Same 14 _ _ _ _ _ _ _ _ w11 (by decide) ((tTr (f + 1)).ext hr (x24.trans (x47.trans x710))) ((tTr (n + 1)).ext hr2 (x57.trans x710))
    have hd := rep_deep hr2
    rw [hl.1] at hd
    rw [best_deep hf hd] at cS
    refine call_of cS ?_
    rintro _ w12 ⟨rfl, x12⟩
    rw [pnextL_eq]
    refine cE (fun _ => ?_) (fun h => absurd rfl h)
    refine cE (fun _ => ?_) (fun h => absurd rfl h)
    refine cE (fun _ => ?_) (fun h => absurd rfl h)
    refine eqB (fun _ => ?_) (fun h => absurd rfl h)
    refine cE (fun _ => ?_) (fun h => absurd rfl h)
    exact ret1 (.bool true) rfl ⟨rfl, (x07.trans x710).trans x12⟩
  · exact ret1 (.bool true) rfl ⟨rfl, x1⟩

theorem c_ProbeFollowSpec {l : List (List Int)} {p : List Pr} {f : Nat} {t : Tr} {cs : List Value} {truth : List Int} (hl : SlR tInts D w A n l) (hp : SlR tPr D w A' m p) (hT : TabW w) (ht : (tTr f).rep Dt w cs t) (hu : SlR tInt Du w A4 k truth) :
    CallZ Tryd.prog 4 #[.slice A n c, .slice A' m d, .agg cs.toArray, .slice A4 k e] w (fun v w' => v = .bool true ∧ Ext w w') := by
  obtain ⟨f, rfl⟩ := tr_pos ht
  obtain ⟨A5, n5, c5, A6, n6, c6, rfl, -⟩ := tr_open ht
  refine fn_rule (args := [.slice A n c, .slice A' m d, .agg #[.int .i64 t.probe, .slice A5 n5 c5, .slice A6 n6 c6], .slice A4 k e]) Tryd.func4 (by kernel_rfl) ?_
  refine box (fun gb w0 hb0 => ?_)
  have x0 := hb0.ext
  refine call_of (c_sane (hT.ext x0)) ?_
  rintro _ w1 ⟨rfl, x01⟩
  have x1 := x0.trans x01
  have done : ∀ w', Ext w1 w' → (Value.bool true = .bool true ∧ Ext w w') := fun w' x => ⟨rfl, x1.trans x⟩
  refine callB (c_Few (hl.ext x1) (hp.ext x1)) (fun hf => ?_) (fun _ => ?_)
  · refine len ?_
    refine cD (fun hlong => ?_) (fun hshort => ?_)
    · exact ret1 (.bool true) rfl (done _ (.refl _ _))
    · have hcb : CellsAt w1 gb 0 [.int .i64 t.probe, .slice A5 n5 c5, .slice A6 n6 c6] := .blk (hb0.blk.ext x01)
      refine ldA [_, _, _] hcb rfl ?_
      refine call_of (c_Worth (hl.ext x1) (hp.ext x1) (hT.ext x1) ((tTr (f + 1)).ext ht x1)) ?_
      rintro _ w2 ⟨rfl, x2⟩
      refine ldA [_, _, _] (hcb.kept x2 trivial) rfl ?_
      refine call_of (c_rWorth (hl.ext (x1.trans x2)) (hp.ext (x1.trans x2)) ((tTr (f + 1)).ext ht (x1.trans x2))) ?_
      rintro _ w3 ⟨rfl, x3⟩
      have x13 := x2.trans x3
      refine ldA [_, _, _] (hcb.kept x13 trivial) rfl ?_
      refine call_of (c_Follow (hl.ext (x1.trans x13)) (hp.ext (x1.trans x13)) (hT.ext (x1.trans x13)) ((tTr (f + 1)).ext ht (x1.trans x13)) (hu.ext (x1.trans x13))) ?_
      rintro _ w4 ⟨A7, n7, c7, rfl, r7, x4⟩
      have x14 := x13.trans x4
      refine ldA [_, _, _] (hcb.kept x14 trivial) rfl ?_
      refine call_of (c_rFollow (hl.ext (x1.trans x14)) (hp.ext (x1.trans x14)) ((tTr (f + 1)).ext ht (x1.trans x14)) (hu.ext (x1.trans x14))) ?_
      rintro _ w5 ⟨A8, n8, c8, rfl, r8, x5⟩
      rw [pfollowL_eq] at r7
      rw [pworthL_eq, pfollowL_eq]
      refine cE (fun _ => ?_) (fun h => absurd rfl h)
      refine eqB (fun _ => ?_) (fun h => absurd rfl h)
      refine cE (fun _ => ?_) (fun h => absurd rfl h)
      refine callB (b := true) ((c_SameInts (r7.ext x5) r8).mono fun v w' ⟨h1, h2⟩ => ⟨by rw [h1, beq_self_eq_true], h2⟩) (fun _ => ?_) (fun h => by cases h)
      refine cE (fun _ => ?_) (fun h => absurd rfl h)
      refine cE (fun _ => ?_) (fun h => absurd rfl h)
      exact ret1 (.bool true) rfl (done _ (x14.trans x5))
  · exact ret1 (.bool true) rfl (done _ (.refl _ _))

theorem c_ProbeCheapest {l : List (List Int)} {p : List Pr} {f : Nat} {t : Tr} {cs : List Value} (hl : SlR tInts D w A n l) (hp : SlR tPr D w A' m p) (hT : TabW w) (ht : (tTr f).rep Dt w cs t) :
    CallZ Tryd.prog 5 #[.slice A n c, .slice A' m d, .agg cs.toArray] w (fun v w' => v = .bool true ∧ Ext w w') := by
  obtain ⟨f, rfl⟩ := tr_pos ht
  have hd0 := rep_deep ht
  obtain ⟨A5, n5, c5, A6, n6, c6, rfl, -⟩ := tr_open ht
  refine fn_rule (args := [.slice A n c, .slice A' m d, .agg #[.int .i64 t.probe, .slice A5 n5 c5, .slice A6 n6 c6]]) Tryd.func5 (by kernel_rfl) ?_
  refine box (fun gb w0 hb0 => ?_)
  have x0 := hb0.ext
  refine call_of (c_sane (hT.ext x0)) ?_
  rintro _ w1 ⟨rfl, x01⟩
  have x1 := x0.trans x01
  have done : ∀ w', Ext w1 w' → (Value.bool true = .bool true ∧ Ext w w') := fun w' x => ⟨rfl, x1.trans x⟩
  refine callB (c_Few (hl.ext x1) (hp.ext x1)) (fun hf => ?_) (fun _ => ?_)
  · have hcb : CellsAt w1 gb 0 [.int .i64 t.probe, .slice A5 n5 c5, .slice A6 n6 c6] := .blk (hb0.blk.ext x01)
    refine call_of (c_Best (hl.ext x1) (hp.ext x1) (hT.ext x1)) ?_
    rintro _ w2 ⟨cs, g, rfl, hr, -, x2⟩
    obtain ⟨g, rfl⟩ := tr_pos hr
    have hd := rep_deep hr
    obtain ⟨A3, n3, c3, A4, n4, c4, rfl, -, hr3, -, hr4, -⟩ := tr_open hr
    refine alloc (fun g7 w3 h3 => ?_)
    refine stA (vs := [_, _, _]) h3.blk rfl (Nat.le_of_ble_eq_true rfl) (by simp [Value.oneCell']) (fun w4 hb4 k4 z4 => ?_)
    have e3 := h3.at_
    have x24 : Ext w2 w4 := h3.ext.then k4 (fun b hb _ e => by omega)
    have x14 := x2.trans x24
    have x04 := x1.trans x14
    refine cN (fun hne => ?_) (fun heq => ?_)
    · have hc : checkL l p ≠ 0 := by
        intro h
        apply hne
        unfold pbestL
        rw [if_neg (by omega)]
      have hB : pbestL l p = (.mk 0 [] [], 0, checkL l p) := by unfold pbestL; rw [if_pos hc]
      rw [hB] at hr3 hr4 ⊢
      refine cE (fun _ => ?_) (fun h => absurd rfl h)
      have hn3 : n3 = 0 := hr3.1
      have hn4 : n4 = 0 := hr4.1
      subst hn3; subst hn4
      refine fldA ?_
      refine ld _ (hb4.cell rfl) ?_
      refine len ?_
      refine fldA ?_
      refine ld _ (hb4.cell rfl) ?_
      refine len ?_
      refine arI (by decide) ?_
      refine cE (fun _ => ?_) (fun h => absurd rfl h)
      exact ret1 (.bool true) rfl (done _ x14)
    · have hc : checkL l p = 0 := by
        apply Classical.byContradiction
        intro h
        have : (pbestL l p).2.2 = checkL l p := by unfold pbestL; rw [if_pos h]
        omega
      obtain ⟨hN, hM, _, hpo⟩ := checkL_ok hc
      have hll := hl.1
      have hpl := hp.1
      have hok := prOk_of hpo
      refine drawX [0, 1, 2, 3, 4, 5, 6, 7, 8, 9, 10] [4, 5] mx (by kernel_rfl) ?_
      refine ldAX _ (.blk hb4) rfl (.refl _ _) ?_
      refine call_of (c_all (hl.ext x04) (by omega)) ?_
      rintro _ w5 ⟨x5, A5', n5', c5', rfl, -, r5⟩
      refine strS x5 ?_
      refine call_of (c_right (by omega) (by omega) hok _ _ _ _ _ _ _ _ _ _ _ _ _ _ _ (hl.ext (x04.trans x5)) (hp.ext (x04.trans x5)) ((tTr (g + 1)).ext hr (x24.trans x5)) r5 (fun i hi => List.mem_range.1 hi) (by have := r5.1; simp at this; omega)) ?_
      rintro _ w6 ⟨rfl, x6⟩
      have x46 := x5.trans x6
      have hcan := best_can hc
      have hBn : 0 ≤ (pbestL l p).2.1 := by cases hcan with
        | leaf _ h => exact h
        | node x hx _ _ _ _ _ => exact (by
            have : (pbestL l p).2.1 = (B (pdOf l p).ps (2 ^ l.length - 1)).1 := by unfold pbestL; rw [if_neg (by omega)]
            rw [this]; exact (B_ok (pdOk_of hc).psOk _).1)
      rw [show rworthF l p (g + 1) (pbestL l p).1 (List.range n) = (pbestL l p).2.1 from by rw [hll]; exact best_worth hc hd, wval_pos hBn]
      refine strS x46 ?_
      refine cN (fun h => absurd rfl h) (fun _ => ?_)
      refine drawX [0, 1, 2, 3, 4, 5, 6, 7, 8, 9, 10] [4, 5] mx (by kernel_rfl) ?_
      refine ldAX _ (hcb.kept (x14.trans x46) trivial) rfl (.refl _ _) ?_
      have x06 := x04.trans x46
      refine call_of (c_all (hl.ext x06) (by omega)) ?_
      rintro _ w7 ⟨x7, A7', n7', c7', rfl, -, r7⟩
      refine strS x7 ?_
      refine call_of (c_right (by omega) (by omega) hok _ _ _ _ _ _ _ _ _ _ _ _ _ _ _ (hl.ext (x06.trans x7)) (hp.ext (x06.trans x7)) ((tTr (f + 1)).ext ht (x06.trans x7)) r7 (fun i hi => List.mem_range.1 hi) (by have := r7.1; simp at this; omega)) ?_
      rintro _ w8 ⟨rfl, x8⟩
      have x18 := (x14.trans x46).trans (x7.trans x8)
      rcases Int.lt_or_le (rworthF l p (f + 1) t (List.range n)) 0 with hneg | hpos
      · rw [wval_neg hneg]
        refine strS (x7.trans x8) ?_
        exact ret1 (.bool true) rfl (done _ x18)
      · rw [wval_pos hpos]
        refine strS (x7.trans x8) ?_
        have hw := worth_can (l := l) hok (f + 1) t (List.range n) hpos
        rw [hll, hyp_range, ← hll] at hw
        have := best_least hc hw
        refine cDT (by omega) ?_
        exact ret1 (.bool true) rfl (done _ x18)
  · exact ret1 (.bool true) rfl (done _ (.refl _ _))
end
end Go.Proofs.YtpmmhcgghldaaaaDoor
