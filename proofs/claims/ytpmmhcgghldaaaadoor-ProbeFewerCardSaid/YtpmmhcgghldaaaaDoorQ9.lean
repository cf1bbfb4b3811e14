/- Contracts of the program: Follow. -/
import Derived.Test.YtpmmhcgghldaaaaDoorQ8
namespace Go.Proofs.YtpmmhcgghldaaaaDoor
open Go Go.RowKit

theorem pworth_inv {ps : List (Int × Nat)} {d : Nat} {t : Tr} {S : Nat} (h : 0 ≤ pworth ps (d + 1) t S) (hk : t.kids ≠ []) :
    t.rest = [] ∧ t.kids.length = 2 ∧ 0 ≤ t.probe ∧ t.probe < ps.length ∧ mAt ps t.probe &&& S ≠ 0 ∧ mAt ps t.probe &&& S ≠ S ∧
      0 ≤ pworth ps d (kid t 0) (S - (mAt ps t.probe &&& S)) ∧ 0 ≤ pworth ps d (kid t 1) (mAt ps t.probe &&& S) ∧
      pworth ps (d + 1) t S = cAt ps t.probe + max (pworth ps d (kid t 0) (S - (mAt ps t.probe &&& S))) (pworth ps d (kid t 1) (mAt ps t.probe &&& S)) := by
  rw [pworth.eq_2, if_neg hk] at h ⊢
  split at h
  · omega
  rename_i h1
  rw [if_neg h1]
  split at h
  · omega
  rename_i h2
  rw [if_neg h2]
  split at h
  · omega
  rename_i h3
  rw [if_neg h3]
  have h2' := not_or.1 h2
  have h1' := not_or.1 h1
  have hr : t.rest = [] := Classical.byContradiction h1'.1
  exact ⟨hr, by omega, by omega, by omega, h2'.1, h2'.2, by omega, by omega, rfl⟩
def sAt (pd : PD) (i : Int) : Nat := pd.sets.getD i.toNat 0
def pfollowF (pd : PD) (s : Nat) : Nat → Tr → Int → List Int × Int
  | 0, t, c => (t.rest, c)
  | d + 1, t, c => if t.kids = [] then (t.rest, c) else pfollowF pd s d (kid t (if sAt pd t.probe &&& s ≠ 0 then 1 else 0)) (c + cAt pd.ps t.probe)
theorem pfollowF_s {pd : PD} {s d : Nat} {t : Tr} {c : Int} : pfollowF pd s (d + 1) t c = if t.kids = [] then (t.rest, c) else pfollowF pd s d (kid t (if sAt pd t.probe &&& s ≠ 0 then 1 else 0)) (c + cAt pd.ps t.probe) := rfl
def pfollowL (l : List (List Int)) (p : List Pr) (d : Nat) (t : Tr) (truth : List Int) : List Int × Int × Int :=
  if checkL l p ≠ 0 then ([], 0, checkL l p)
  else if pworth (pdOf l p).ps d t (2 ^ l.length - 1) < 0 ∨ setOk truth = false then ([], 0, 500)
  else ((pfollowF (pdOf l p) (mask truth) d t 0).1, (pfollowF (pdOf l p) (mask truth) d t 0).2, 0)

section
variable {D Dt Du : Nat → Prop} {w : World} {A A' A2 A4 : Option Addr} {n m k c d e g' : Nat}
theorem c_Follow {l : List (List Int)} {p : List Pr} {f : Nat} {t : Tr} {cs : List Value} {truth : List Int} (hl : SlR tInts D w A n l) (hp : SlR tPr D w A' m p) (hT : TabW w) (ht : (tTr f).rep Dt w cs t) (hu : SlR tInt Du w A4 k truth) :
    CallZ Tryd.prog 19 #[.slice A n c, .slice A' m d, .agg cs.toArray, .slice A4 k e] w (fun v w' => ∃ A5 n5 c5, v = .tuple #[.slice A5 n5 c5, .int .i64 (pfollowL l p f t truth).2.1, .int .i64 (pfollowL l p f t truth).2.2] ∧ SlR tInt All w' A5 n5 (pfollowL l p f t truth).1 ∧ Ext w w') := by
  obtain ⟨f, rfl⟩ := tr_pos ht
  have ht0 : (tTr (f + 1)).rep (fun b => b < w.heap.size) w cs t := (tTr (f + 1)).more (fun b hb _ => hb) ht
  obtain ⟨A5, n5, c5, A6, n6, c6, rfl, -⟩ := tr_open ht
  refine fn_rule (args := [.slice A n c, .slice A' m d, .agg #[.int .i64 t.probe, .slice A5 n5 c5, .slice A6 n6 c6], .slice A4 k e]) Tryd.func19 (by kernel_rfl) ?_
  refine box (fun r6 w0 h0 => ?_)
  have e0 := h0.at_
  have s0 := h0.size
  have x0 := h0.ext
  refine call_of (c_read (hl.ext x0) (hp.ext x0)) ?_
  rintro _ w1 ⟨hx, ⟨hne, rfl⟩ | ⟨heq, b, g, h, rfl, hb, hg, hpl, hm, hfc, hfs⟩⟩
  · refine cN (fun _ => ?_) (fun h => absurd h hne)
    refine ret3 (.slice none 0 0) (.int .i64 0) (.int .i64 (checkL l p)) rfl rfl rfl ⟨none, 0, 0, ?_, ?_, x0.trans hx⟩
    · unfold pfollowL; rw [if_pos hne]
    · unfold pfollowL; rw [if_pos hne]; exact .nil
  · obtain ⟨hN, hm12, hh, hpo⟩ := checkL_ok heq
    have hok := pdOk_of heq
    have htl : (pdOf l p).truths.length = l.length := by simp [pdOf]
    have hpow := two_pow_le hN
    have hp0 : 0 < 2 ^ l.length := Nat.two_pow_pos _
    have hx1 := x0.trans hx
    have hblk : Blk w1 r6 29 [.int .i64 t.probe, .slice A5 n5 c5, .slice A6 n6 c6] := h0.blk.ext hx
    have hcb : CellsAt w1 r6 0 [.int .i64 t.probe, .slice A5 n5 c5, .slice A6 n6 c6] := .blk hblk
    have hR : pfollowL l p (f + 1) t truth = if pworth (pdOf l p).ps (f + 1) t (2 ^ l.length - 1) < 0 ∨ setOk truth = false then ([], 0, 500) else ((pfollowF (pdOf l p) (mask truth) (f + 1) t 0).1, (pfollowF (pdOf l p) (mask truth) (f + 1) t 0).2, 0) := by unfold pfollowL; rw [if_neg (by omega)]
    refine cN (fun h => absurd rfl h) (fun _ => ?_)
    have hcall := c_worth hok (f + 1) t (2 ^ l.length - 1) Dt [.int .i64 t.probe, .slice A5 n5 c5, .slice A6 n6 c6] w1 (by omega) hpl (hT.ext hx1) ((tTr (f + 1)).ext ht hx1)
    cases hs : setOk truth with
    | false =>
      rw [if_pos (.inr hs)] at hR
      refine call_of (c_setF (hu.ext hx1) hs) ?_
      rintro _ w1 ⟨rfl, rfl⟩
      refine drawX [0, 1, 2, 3, 4, 5, 6, 7, 8, 9] [3, 4] mx (by kernel_rfl) ?_
      refine ldAX _ hcb rfl (.refl _ _) ?_
      refine call_of (c_pall hpl (by omega)) ?_
      rintro _ w1 ⟨rfl, rfl⟩
      rw [htl]
      refine strS (.refl _ _) ?_
      refine call_of hcall ?_
      rintro _ w2 ⟨rfl, hx2⟩
      rcases Int.lt_or_le (pworth (pdOf l p).ps (f + 1) t (2 ^ l.length - 1)) 0 with hneg | hpos
      · rw [wval_neg hneg]
        refine strS hx2 ?_
        refine ret3 (.slice none 0 0) (.int .i64 0) (.int .i64 500) rfl rfl rfl ⟨none, 0, 0, by rw [hR], by rw [hR]; exact .nil, hx1.trans hx2⟩
      · rw [wval_pos hpos]
        refine strS hx2 ?_
        refine ret3 (.slice none 0 0) (.int .i64 0) (.int .i64 500) rfl rfl rfl ⟨none, 0, 0, by rw [hR], by rw [hR]; exact .nil, hx1.trans hx2⟩
    | true =>
      have hms := mask_lt hs
      refine call_of (c_setT (hu.ext hx1) hs) ?_
      rintro _ w1 ⟨rfl, rfl⟩
      refine drawX [0, 1, 2, 3, 4, 5, 6, 7, 8, 9] [3, 4] mx (by kernel_rfl) ?_
      refine ldAX _ hcb rfl (.refl _ _) ?_
      refine call_of (c_pall hpl (by omega)) ?_
      rintro _ w1 ⟨rfl, rfl⟩
      rw [htl]
      refine strS (.refl _ _) ?_
      refine call_of hcall ?_
      rintro _ w2 ⟨rfl, hx2⟩
      rcases Int.lt_or_le (pworth (pdOf l p).ps (f + 1) t (2 ^ l.length - 1)) 0 with hneg | hpos
      · rw [if_pos (.inl hneg)] at hR
        rw [wval_neg hneg]
        refine strS hx2 ?_
        refine ret3 (.slice none 0 0) (.int .i64 0) (.int .i64 500) rfl rfl rfl ⟨none, 0, 0, by rw [hR], by rw [hR]; exact .nil, hx1.trans hx2⟩
      · rw [if_neg (by rw [hs]; simp; omega)] at hR
        rw [wval_pos hpos]
        refine strS hx2 ?_
        have hpl2 := hpl.kept hx2.any
        have hgl := hm.lt
        have s1' := hx.size
        have s2 := hx2.size
        refine loop2 (fun (d : Nat) (cost : Int) => [(9, .int .i64 cost)])
          (fun d' cost w' => Ext w w' ∧ Kept (fun b => b ≠ r6) w2 w' ∧ ∃ t' S' cells, Blk w' r6 29 cells ∧ (tTr d').rep (fun b => b < w.heap.size) w' cells t' ∧ 0 ≤ pworth (pdOf l p).ps d' t' S' ∧ pfollowF (pdOf l p) (mask truth) (f + 1) t 0 = pfollowF (pdOf l p) (mask truth) d' t' cost ∧ 0 ≤ cost ∧ cost + S' * 1048576 ≤ 4096 * 1048576)
          (fun d _ _ => d) (f + 1) 0 ⟨rfl, trivial⟩ ⟨hx1.trans hx2, .refl _ _, t, 2 ^ l.length - 1, _, hblk.ext hx2, (tTr (f + 1)).ext ht0 (hx1.trans hx2), hpos, rfl, by omega, by omega⟩ rfl ?_
        rintro G d' cost w3 ⟨hx3, hk13, t', S', cells, hb3, ht3, hwp3, he, hc0, hc1⟩
        obtain ⟨d', rfl⟩ := tr_pos ht3
        obtain ⟨A7, n7, c7, A8, n8, c8, rfl, -, hrs, -, hkd, -⟩ := tr_open ht3
        have hk8 := hkd.1
        rw [pfollowF_s (t := t') (d := d')] at he
        refine fldA ?_
        refine ld _ (hb3.cell rfl) ?_
        refine len ?_
        have hplan : ∀ (x : Nat) (v : Value), x < 5 → (h.cells g)[x]? = some v → w3.cell? (ad b x) = some v := fun x v _ hv => hk13.cell (hpl2.blk.cell hv) (show b ≠ r6 by omega)
        refine cD (fun hlt => ?_) (fun hge => ?_)
        · have hk0 : t'.kids ≠ [] := fun h => by rw [h] at hk8; simp at hk8; omega
          rw [if_neg hk0] at he
          obtain ⟨q1, q2, q3, q4, q5, q6, q7, q8, q9⟩ := pworth_inv hwp3 hk0
          have hnl : (pdOf l p).ps.length = p.length := by unfold PD.ps pdOf; simp
          have hfc3 := (hfc.ext hx2).kept hk13 (fun b _ h e => by omega)
          have hfs3 := (hfs.ext hx2).kept hk13 (fun b _ h e => by omega)
          have hn2 := hfc3.1
          have hn3 := hfs3.1
          have hl2 : (pdOf l p).costs.length = p.length := by unfold pdOf; simp
          have hl3 : (pdOf l p).sets.length = p.length := by unfold pdOf; simp
          obtain ⟨bc, oc, _, cst, hA2, hcst, -, -, hcc, rfl, -⟩ := hfc3.at_ (k := t'.probe.toNat) (by omega)
          obtain ⟨bs, os, cs, m3, hA3, hm3, -, -, hcs, hrs3⟩ := hfs3.at_ (k := t'.probe.toNat) (by omega)
          obtain ⟨rfl, -⟩ := tNat_rep hrs3
          have hcok := hok.cost cst (List.mem_of_getElem? hcst)
          obtain ⟨msh, hmsh⟩ : ∃ x, (pdOf l p).shown[t'.probe.toNat]? = some x := ⟨_, List.getElem?_eq_getElem (by have := hok.len; omega)⟩
          have hxx : (pdOf l p).ps[t'.probe.toNat]? = some (cst, msh) := List.getElem?_zip_eq_some.2 ⟨hcst, hmsh⟩
          have hcA : cAt (pdOf l p).ps t'.probe = cst := by unfold cAt; rw [List.getD_eq_getElem?_getD, hxx]; rfl
          have hsA : sAt (pdOf l p) t'.probe = m3 := by unfold sAt; rw [List.getD_eq_getElem?_getD, hm3]; rfl
          have hm312 : m3 < 4096 := by
            obtain ⟨z, hz, rfl⟩ := List.mem_map.1 (List.mem_of_getElem? hm3)
            have := List.all_eq_true.1 hpo z hz
            unfold probeOk at this
            simp at this
            exact mask_lt this.2
          rw [hcA, hsA] at he
          generalize hm2 : mAt (pdOf l p).ps t'.probe = m2 at *
          have hle2 : m2 &&& S' ≤ S' := Nat.and_le_right
          refine drawQ mx (by kernel_rfl) ?_
          refine fldA ?_
          refine ld (.slice (some (ad bc oc)) h.n2 h.c2) (by rw [← hA2]; exact hplan 2 _ (by decide) rfl) ?_
          refine fldA ?_
          refine ld _ (hb3.cell rfl) ?_
          refine idx t'.probe.toNat (by omega) (by omega) ?_
          refine ld _ (hcc 0 _ rfl) ?_
          refine arI (by omega) ?_
          refine drawQ mx (by kernel_rfl) ?_
          refine fldA ?_
          refine ld (.slice (some (ad bs os)) h.n3 h.c3) (by rw [← hA3]; exact hplan 3 _ (by decide) rfl) ?_
          refine fldA ?_
          refine ld _ (hb3.cell rfl) ?_
          refine idx t'.probe.toNat (by omega) (by omega) ?_
          refine ld _ (hcs 0 _ rfl) ?_
          refine andV (fun y hy => ?_)
          rw [← hy] at he
          obtain ⟨b0, o0, ca, a, rfl, ha, -, -, hca, hra⟩ := hkd.at_ (k := 0) (by omega)
          obtain ⟨b1, o1, cb, a2, e1, ha2, -, -, hcb', hrb⟩ := hkd.at_ (k := 1) (by omega)
          simp only [Option.some.injEq, Addr.mk.injEq] at e1
          obtain ⟨rfl, rfl, _⟩ := e1
          rw [tTr_sz] at hca hcb'
          rw [kid_of ha] at q7
          rw [kid_of ha2] at q8
          refine cN (fun h5 => ?_) (fun h5 => ?_)
          · rw [if_pos (by omega), kid_of ha2] at he
            refine fldA ?_
            refine ld _ (hb3.cell rfl) ?_
            refine idx 1 rfl (by omega) ?_
            obtain ⟨d', rfl⟩ := tr_pos hrb
            obtain ⟨_, _, _, _, _, _, rfl, -⟩ := tr_open hrb
            refine ldA [_, _, _] hcb' rfl ?_
            refine stA (vs := [_, _, _]) hb3 rfl (Nat.le_of_ble_eq_true rfl) (by simp [Value.oneCell']) (fun w5 hb5 hk5 hz5 => ?_)
            have hx5 : Ext w w5 := hx3.then hk5 (fun b hb _ e => by omega)
            have hr5 := (tTr (d' + 1)).kept hrb hk5 (fun b _ h e => by omega)
            exact next2 (d' + 1) (cost + cst) ⟨rfl, trivial⟩ ⟨hx5, hk13.trans hk5, a2, (m2 &&& S'), _, hb5, hr5, q8, he, by omega, by omega⟩ (by omega)
          · rw [if_neg (by omega), kid_of ha] at he
            refine fldA ?_
            refine ld _ (hb3.cell rfl) ?_
            refine idx 0 rfl (by omega) ?_
            obtain ⟨d', rfl⟩ := tr_pos hra
            obtain ⟨_, _, _, _, _, _, rfl, -⟩ := tr_open hra
            refine ldA [_, _, _] hca rfl ?_
            refine stA (vs := [_, _, _]) hb3 rfl (Nat.le_of_ble_eq_true rfl) (by simp [Value.oneCell']) (fun w5 hb5 hk5 hz5 => ?_)
            have hx5 : Ext w w5 := hx3.then hk5 (fun b hb _ e => by omega)
            have hr5 := (tTr (d' + 1)).kept hra hk5 (fun b _ h e => by omega)
            exact next2 (d' + 1) (cost + cst) ⟨rfl, trivial⟩ ⟨hx5, hk13.trans hk5, a, (S' - (m2 &&& S')), _, hb5, hr5, q7, he, by omega, by omega⟩ (by omega)
        · rw [if_pos (List.eq_nil_of_length_eq_zero (by omega))] at he
          rw [he] at hR
          have hkn : t'.kids = [] := List.eq_nil_of_length_eq_zero (by omega)
          have hrl : t'.rest.length ≤ 12 := by
            rw [pworth.eq_2, if_pos hkn] at hwp3
            split at hwp3
            · omega
            · rename_i h1
              have h3 : t'.rest = ofNats (mem S' 12) := Classical.byContradiction fun h => h1 (.inr (.inr h))
              rw [h3]; unfold ofNats; rw [List.length_map]; exact mem_len _ _
          have hr7 := hrs.1
          refine fldA ?_
          refine ld _ (hb3.cell rfl) ?_
          refine call_of (c_Clone hrs (by omega)) ?_
          rintro _ w4 ⟨hx4, A9, n9, c9, rfl, h9⟩
          refine ret3 (.slice A9 n9 c9) (.int .i64 cost) (.int .i64 0) rfl rfl rfl ⟨A9, n9, c9, by rw [hR], by rw [hR]; exact h9.toAll, hx3.trans hx4⟩
end
end Go.Proofs.YtpmmhcgghldaaaaDoor
