/- The laws: ProbeTruth. -/
import Derived.Test.YtpmmhcgghldaaaaDoorR4
namespace Go.Proofs.YtpmmhcgghldaaaaDoor
open Go Go.RowKit

theorem convI {P : Program} {s t : TypeId} {k0 : IntKind} {n : Int} {K : Value → Prop} [h0 : IntTy P s k0] [h : IntTy P t .i64] (hn : -9223372036854775808 ≤ n ∧ n ≤ 9223372036854775807) (kk : K (.int .i64 n)) : ConvP P s t (.int k0 n) K := by
  refine conv (k := .i64) ?_
  have e : IntKind.i64.wrap n = n := by
    have := arI (K := fun v => v = .int .i64 n) hn rfl
    rw [ArP_eq] at this
    injection this
  rw [e]; exact kk

/-- Where a right tree leads to. -/
theorem follow_right {l : List (List Int)} {p : List Pr} (hok : prOk p) {k : Nat} : ∀ (d : Nat) (t : Tr) (list : List Nat) (c : Int), 0 ≤ rworthF l p d t list → k ∈ list →
    ∃ sub : List Nat, (followF p (hyp l k) d t c).1 = ofNats sub ∧ (∀ i ∈ sub, i ∈ list) ∧ k ∈ sub ∧ (∀ x ∈ p, ∀ i ∈ sub, shw l x i = shw l x k) ∧ c ≤ (followF p (hyp l k) d t c).2 ∧ (followF p (hyp l k) d t c).2 ≤ c + rworthF l p d t list
  | 0, _, _, _, hw, _ => by unfold rworthF at hw; omega
  | d + 1, t, list, c, hw, hk => by
    by_cases hkids : t.kids = []
    · rw [rworthF.eq_2, if_pos hkids] at hw ⊢
      split at hw
      · omega
      rename_i h1
      rw [if_neg h1, followF, if_pos hkids]
      have h1' := not_or.1 h1
      have h2' := not_or.1 h1'.2
      refine ⟨list, Classical.byContradiction h2'.2, fun _ h => h, hk, fun x hx i hi => ?_, by omega, by omega⟩
      have hsep : sepL l x list = false := by
        cases hb : sepL l x list with
        | false => rfl
        | true => exact absurd (List.any_eq_true.2 ⟨x, hx, hb⟩) h1'.1
      rw [← mis_sep] at hsep
      unfold misL at hsep
      rw [List.any_eq_false] at hsep
      have a := hsep i hi; have b := hsep k hk
      simp at a b
      rw [a, b]
    · obtain ⟨h2, h3, h4, h5, h6, w0, w1, he⟩ := rworth_inv hw hkids
      have hx := List.mem_of_getElem? (prAt_get (p := p) h3 h4)
      have h1 := hok _ hx
      rw [he, followF, if_neg hkids]
      have hsh : showsL (prAt p t.probe).2 (hyp l k) = shw l (prAt p t.probe) k := rfl
      by_cases hs : showsL (prAt p t.probe).2 (hyp l k) = true
      · rw [if_pos hs]
        obtain ⟨sub, a1, a2, a3, a4, a5, a6⟩ := follow_right hok d (kid t 1) (partL l (prAt p t.probe) list true) (c + (prAt p t.probe).1) w1 (List.mem_filter.2 ⟨hk, by rw [← hsh, hs]; rfl⟩)
        exact ⟨sub, a1, fun i hi => partL_sub i (a2 i hi), a3, a4, by omega, by omega⟩
      · rw [if_neg hs]
        have hs' : showsL (prAt p t.probe).2 (hyp l k) = false := by simpa using hs
        obtain ⟨sub, a1, a2, a3, a4, a5, a6⟩ := follow_right hok d (kid t 0) (partL l (prAt p t.probe) list false) (c + (prAt p t.probe).1) w0 (List.mem_filter.2 ⟨hk, by rw [← hsh, hs']; rfl⟩)
        exact ⟨sub, a1, fun i hi => partL_sub i (a2 i hi), a3, a4, by omega, by omega⟩
theorem toAll_nats {D : Nat → Prop} {w : World} {A : Option Addr} {n : Nat} {sub : List Nat} (h : SlR tInt D w A n (ofNats sub)) : n = sub.length := by
  have := h.1
  unfold ofNats at this
  rwa [List.length_map] at this

section
variable {D Dt Du : Nat → Prop} {w : World} {A A' A4 : Option Addr} {n m k c d e : Nat}
theorem c_ProbeTruth {l : List (List Int)} {p : List Pr} {f : Nat} {t : Tr} {cs : List Value} {q : Int} (hl : SlR tInts D w A n l) (hp : SlR tPr D w A' m p) (hT : TabW w) (ht : (tTr f).rep Dt w cs t) (hq : 0 ≤ q ∧ q ≤ 255) :
    CallZ Tryd.prog 6 #[.slice A n c, .slice A' m d, .agg cs.toArray, .int .u8 q] w (fun v w' => v = .bool true ∧ Ext w w') := by
  obtain ⟨f, rfl⟩ := tr_pos ht
  obtain ⟨A5, n5, c5, A6, n6, c6, rfl, -⟩ := tr_open ht
  have hll := hl.1
  have hpl := hp.1
  refine fn_rule (args := [.slice A n c, .slice A' m d, .agg #[.int .i64 t.probe, .slice A5 n5 c5, .slice A6 n6 c6], .int .u8 q]) Tryd.func6 (by kernel_rfl) ?_
  refine box (fun gb w0 hb0 => ?_)
  have x0 := hb0.ext
  refine call_of (c_sane (hT.ext x0)) ?_
  rintro _ w1 ⟨rfl, x01⟩
  have x1 := x0.trans x01
  have done : ∀ w', Ext w1 w' → (Value.bool true = .bool true ∧ Ext w w') := fun w' x => ⟨rfl, x1.trans x⟩
  refine callB (c_Few (hl.ext x1) (hp.ext x1)) (fun hf => ?_) (fun _ => ?_)
  · refine call_of (c_Check (hl.ext x1) (hp.ext x1)) ?_
    rintro _ w2 ⟨rfl, x2⟩
    refine cN (fun _ => ?_) (fun hc => ?_)
    · exact ret1 (.bool true) rfl (done _ x2)
    obtain ⟨hN, hM, hh, hpo⟩ := checkL_ok hc
    have hok := prOk_of hpo
    refine len ?_
    refine cE (fun _ => ?_) (fun hn0 => ?_)
    · exact ret1 (.bool true) rfl (done _ x2)
    have hcb : CellsAt w1 gb 0 [.int .i64 t.probe, .slice A5 n5 c5, .slice A6 n6 c6] := .blk (hb0.blk.ext x01)
    have x02 := x1.trans x2
    refine drawX [0, 1, 2, 3, 4, 5, 6, 7, 8, 9, 10] [4, 5] mx (by kernel_rfl) ?_
    refine ldAX _ (hcb.kept x2 trivial) rfl (.refl _ _) ?_
    refine call_of (c_all (hl.ext x02) (by omega)) ?_
    rintro _ w3 ⟨x3, A7', n7', c7', rfl, -, r7⟩
    refine strS x3 ?_
    refine call_of (c_right (by omega) (by omega) hok _ _ _ _ _ _ _ _ _ _ _ _ _ _ _ (hl.ext (x02.trans x3)) (hp.ext (x02.trans x3)) ((tTr (f + 1)).ext ht (x02.trans x3)) r7 (fun i hi => List.mem_range.1 hi) (by have := r7.1; simp at this; omega)) ?_
    rintro _ w4 ⟨rfl, x4⟩
    have x24 := x3.trans x4
    have x14 := x2.trans x24
    rcases Int.lt_or_le (rworthF l p (f + 1) t (List.range n)) 0 with hneg | hpos
    · rw [wval_neg hneg]
      refine strS x24 ?_
      exact ret1 (.bool true) rfl (done _ x14)
    · rw [wval_pos hpos]
      refine strS x24 ?_
      refine convI (by omega) ?_
      refine len ?_
      refine remI (by omega) (by omega) ?_
      obtain ⟨k, hk⟩ : ∃ k : Nat, q % (n : Int) = (k : Int) := ⟨(q % (n : Int)).toNat, by have := Int.emod_nonneg q (show (n : Int) ≠ 0 by omega); omega⟩
      have hkn : k < n := by have := Int.emod_lt_of_pos q (show (0 : Int) < n by omega); omega
      rw [hk]
      have x04 := x1.trans x14
      obtain ⟨bl, ol, _, y, rfl, hy, -, -, hcy, Ay, ny, cy, rfl, hry, -⟩ := (hl.ext x04).at_ hkn
      have hyk : y = hyp l k := by unfold hyp; rw [List.getD_eq_getElem?_getD, hy]; rfl
      subst hyk
      refine drawX [0, 1, 2, 3, 4, 5, 6, 7, 8, 9, 10, 11, 12, 13, 14] [7] mx (by kernel_rfl) ?_
      refine ldAX _ (hcb.kept x14 trivial) rfl (.refl _ _) ?_
      refine idx k rfl hkn ?_
      refine ldX _ (hcy 0 _ rfl) (.refl _ _) ?_
      have hset : setOk (hyp l k) = true := hyps_all hh _ (List.mem_of_getElem? hy)
      have hfull : full l.length = List.range n := by rw [full_range, hll]
      have hfol : pfollowL l p (f + 1) t (hyp l k) = ((followF p (hyp l k) (f + 1) t 0).1, (followF p (hyp l k) (f + 1) t 0).2, 0) := by
        rw [pfollowL_eq]
        unfold rfollowL
        have hw : rworthL l p (f + 1) t = (rworthF l p (f + 1) t (List.range n), true, 0) := by unfold rworthL; rw [hfull, if_neg (by omega), if_neg (by omega)]
        rw [hw, if_neg (by simp), if_neg (by rw [hset]; simp)]
      obtain ⟨sub, a1, a2, a3, a4, a5, a6⟩ := follow_right (l := l) hok (k := k) (f + 1) t (List.range n) 0 hpos (List.mem_range.2 hkn)
      have cF := fun c d e => c_Follow (c := c) (d := d) (e := e) (hl.ext x04) (hp.ext x04) (hT.ext x04) ((tTr (f + 1)).ext ht x04) hry
      rw [hfol] at cF
      refine call_of (cF _ _ _) ?_
      rintro _ w5 ⟨A8, n8, c8, rfl, r8, x5⟩
      refine strS x5 ?_
      have r8 : SlR tInt All w5 A8 n8 (ofNats sub) := a1 ▸ r8
      have hn8 := toAll_nats r8
      have hle8 := r8.le
      refine cN (fun h => absurd rfl h) (fun _ => ?_)
      refine cDF (by show ¬ (followF p (hyp l k) (f + 1) t 0).2 < 0; omega) ?_
      refine cDF (by show ¬ (followF p (hyp l k) (f + 1) t 0).2 > _; omega) ?_
      refine len ?_
      refine loop2 (fun (j : Nat) (b : Bool) => [(78, .int .i64 j), (15, .bool b)]) (fun j b w' => j ≤ n8 ∧ Ext w5 w' ∧ b = (sub.take j).contains k) (fun j _ _ => n8 - j) 0 false ⟨rfl, rfl, trivial⟩ ⟨by omega, .refl _ _, by simp⟩ rfl ?_
      rintro G j b w6 ⟨hj, x6, hb⟩
      have x06 := (x04.trans x5).trans x6
      have hcy6 := hcy.kept (x5.trans x6) trivial
      have hry6 := hry.ext (x5.trans x6)
      refine cD (fun hlt => ?_) (fun hge => ?_)
      · have hlt : j < n8 := by omega
        obtain ⟨bs, os, _, i, rfl, hi, -, -, hci, rfl, -⟩ := (r8.ext x6).at_ hlt
        obtain ⟨a, ha, rfl⟩ : ∃ a, sub[j]? = some a ∧ (a : Int) = i := by
          unfold ofNats at hi
          rw [List.getElem?_map] at hi
          cases hs : sub[j]? with
          | none => rw [hs] at hi; cases hi
          | some a => rw [hs] at hi; exact ⟨a, rfl, Option.some.inj hi⟩
        have ham := List.mem_of_getElem? ha
        have han : a < n := List.mem_range.1 (a2 a ham)
        refine idx j rfl hlt ?_
        refine ld _ (hci 0 _ rfl) ?_
        refine cDF (by omega) ?_
        refine len ?_
        refine cDF (by omega) ?_
        have htk : (sub.take (j + 1)).contains k = ((sub.take j).contains k || (k == a)) := by rw [take_succ' ha, Bool.eq_iff_iff]; simp
        obtain ⟨bl', ol', _, y', e1, hy', -, -, hcy', Ay', ny', cy', rfl, hry', -⟩ := (hl.ext x06).at_ han
        simp only [Option.some.injEq, Addr.mk.injEq] at e1
        obtain ⟨rfl, rfl, _⟩ := e1
        cases b with
        | true =>
          refine len ?_
          refine loop_rule (fun i : Nat => [(98, .int .i64 i), (15, .bool true)]) (fun i w' => i ≤ m ∧ Ext w6 w') (fun i _ => m - i) 0 ⟨rfl, rfl, trivial⟩ ⟨by omega, .refl _ _⟩ rfl ?_
          rintro G i w7 ⟨hi7, x7⟩
          have x07 := x06.trans x7
          refine cD (fun hlt2 => ?_) (fun hge2 => ?_)
          · have hlt2 : i < m := by omega
            obtain ⟨b, o, cx, x, rfl, hx, -, -, hcx, hrx⟩ := (hp.ext x07).at_ hlt2
            obtain ⟨Ax, nx, cx', rfl, -⟩ := pr_open hrx
            refine idx i rfl hlt2 ?_
            refine ldA _ hcx rfl ?_
            refine alloc (fun g19 w8 h8 => ?_)
            refine stA (vs := [_, _]) h8.blk rfl (Nat.le_of_ble_eq_true rfl) (by simp [Value.oneCell']) (fun w9 hb9 k9 z9 => ?_)
            have e8 := h8.at_
            have x79 : Ext w7 w9 := h8.ext.then k9 (fun b hb _ e => by omega)
            have x69 := x7.trans x79
            refine drawX [0, 1, 2, 3, 4, 6, 7, 8, 9, 10, 5, 11, 12] [5, 11] mx (by kernel_rfl) ?_
            refine ldAX [.int .i64 x.1, .slice Ax nx cx'] (.blk hb9) rfl (.refl _ _) ?_
            refine idx a rfl han ?_
            refine ldX _ (hcy'.kept x69 trivial 0 _ rfl) (.refl _ _) ?_
            refine ldAX [.int .i64 x.1, .slice Ax nx cx'] (.blk hb9) rfl (.refl _ _) ?_
            refine idx k rfl hkn ?_
            refine ldX _ (hcy6.kept x69 trivial 0 _ rfl) (.refl _ _) ?_
            refine call_of (c_shows (cs := [.int .i64 x.1, .slice Ax nx cx']) (tPr.ext hrx x79) (hry'.ext x69)) ?_
            rintro _ w10 ⟨rfl, x10⟩
            refine strS x10 ?_
            refine call_of (c_shows (cs := [.int .i64 x.1, .slice Ax nx cx']) (tPr.ext hrx (x79.trans x10)) (hry6.ext (x69.trans x10))) ?_
            rintro _ w11 ⟨rfl, x11⟩
            refine strS (x10.trans x11) ?_
            have hsame := a4 x (List.mem_of_getElem? hx) a ham
            have hya : y' = hyp l a := by unfold hyp; rw [List.getD_eq_getElem?_getD, hy']; rfl
            refine neB (fun hne => absurd (by rw [hya]; exact hsame) hne) (fun _ => ?_)
            refine arI (by omega) ?_
            exact next (i + 1) ⟨rfl, rfl, trivial⟩ ⟨by omega, x69.trans (x10.trans x11)⟩ (by omega)
          · refine arI (by omega) ?_
            exact next2 (j + 1) true ⟨rfl, rfl, trivial⟩ ⟨by omega, x6.trans x7, by rw [htk, ← hb]; rfl⟩ (by omega)
        | false =>
          refine cB (k == a) (by rw [Bool.eq_iff_iff, beq_iff_eq, decide_eq_true_iff]; omega) ?_
          refine len ?_
          refine loop_rule (fun i : Nat => [(98, .int .i64 i), (15, .bool (k == a))]) (fun i w' => i ≤ m ∧ Ext w6 w') (fun i _ => m - i) 0 ⟨rfl, rfl, trivial⟩ ⟨by omega, .refl _ _⟩ rfl ?_
          rintro G i w7 ⟨hi7, x7⟩
          have x07 := x06.trans x7
          refine cD (fun hlt2 => ?_) (fun hge2 => ?_)
          · have hlt2 : i < m := by omega
            obtain ⟨b, o, cx, x, rfl, hx, -, -, hcx, hrx⟩ := (hp.ext x07).at_ hlt2
            obtain ⟨Ax, nx, cx', rfl, -⟩ := pr_open hrx
            refine idx i rfl hlt2 ?_
            refine ldA _ hcx rfl ?_
            refine alloc (fun g19 w8 h8 => ?_)
            refine stA (vs := [_, _]) h8.blk rfl (Nat.le_of_ble_eq_true rfl) (by simp [Value.oneCell']) (fun w9 hb9 k9 z9 => ?_)
            have e8 := h8.at_
            have x79 : Ext w7 w9 := h8.ext.then k9 (fun b hb _ e => by omega)
            have x69 := x7.trans x79
            refine drawX [0, 1, 2, 3, 4, 6, 7, 8, 9, 10, 5, 11, 12] [5, 11] mx (by kernel_rfl) ?_
            refine ldAX [.int .i64 x.1, .slice Ax nx cx'] (.blk hb9) rfl (.refl _ _) ?_
            refine idx a rfl han ?_
            refine ldX _ (hcy'.kept x69 trivial 0 _ rfl) (.refl _ _) ?_
            refine ldAX [.int .i64 x.1, .slice Ax nx cx'] (.blk hb9) rfl (.refl _ _) ?_
            refine idx k rfl hkn ?_
            refine ldX _ (hcy6.kept x69 trivial 0 _ rfl) (.refl _ _) ?_
            refine call_of (c_shows (cs := [.int .i64 x.1, .slice Ax nx cx']) (tPr.ext hrx x79) (hry'.ext x69)) ?_
            rintro _ w10 ⟨rfl, x10⟩
            refine strS x10 ?_
            refine call_of (c_shows (cs := [.int .i64 x.1, .slice Ax nx cx']) (tPr.ext hrx (x79.trans x10)) (hry6.ext (x69.trans x10))) ?_
            rintro _ w11 ⟨rfl, x11⟩
            refine strS (x10.trans x11) ?_
            have hsame := a4 x (List.mem_of_getElem? hx) a ham
            have hya : y' = hyp l a := by unfold hyp; rw [List.getD_eq_getElem?_getD, hy']; rfl
            refine neB (fun hne => absurd (by rw [hya]; exact hsame) hne) (fun _ => ?_)
            refine arI (by omega) ?_
            exact next (i + 1) ⟨rfl, rfl, trivial⟩ ⟨by omega, x69.trans (x10.trans x11)⟩ (by omega)
          · refine arI (by omega) ?_
            exact next2 (j + 1) (k == a) ⟨rfl, rfl, trivial⟩ ⟨by omega, x6.trans x7, by rw [htk, ← hb]; rfl⟩ (by omega)
      · obtain rfl : j = n8 := by omega
        have : b = true := by rw [hb, List.take_of_length_le (by omega), List.contains_iff_mem]; exact a3
        subst this
        exact ret1 (.bool true) rfl (done _ ((x14.trans x5).trans x6))
  · exact ret1 (.bool true) rfl (done _ (.refl _ _))
end
end Go.Proofs.YtpmmhcgghldaaaaDoor
